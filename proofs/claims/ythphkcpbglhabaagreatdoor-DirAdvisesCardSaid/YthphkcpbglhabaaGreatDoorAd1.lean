/-
  Texts of this claim, laid together by a program (wip/tools/shrink.py).
-/
import Derived.Calls
import Derived.MapKept
import Derived.Laws.IdiomCopy
import Derived.Deep.AppendSrc
import Derived.Deep.MidRow
import Derived.Deep.Upon
import Derived.Laws.Entries
import Derived.Laws.Tables
import Derived.Great.BuildSlice
import Derived.Laws.MakeOwn
import Derived.Laws.AppendOwn
import Derived.Laws.Strings
import Derived.Laws.StructEq
import Derived.Lib.Strings
import Derived.IntWalk
import Derived.LaidEql
namespace Sx
open Go
inductive V where
 | bool (b : Bool)
 | int (k : IntKind) (n : Int)
 | str (l : List UInt8)
 | nilp | nils | nilf | nilm | nili
 | ptr (id off : Nat)
 | ifc (t : TypeId) (id : Nat)
 | mth (t : TypeId) (id : Nat) (n : String)
 | bnd (f : FuncId) (id : Nat)
 | eptr (id i sz off : Nat)
 | rptr (cells : List V) (off : Nat)
 | sl (id off len sz : Nat) (cap : Option Nat)
 | vs (elems : List (List V)) (sz : Nat)
 | zs
 | mp (id : Nat)
 | fn (f : FuncId) (cap : List V)
 | yld (id : Nat)
 | agg (cells : List V)
 | tup (vs : List V)
 | any
 | bad
 deriving Inhabited
def V.one : V → Bool
 | .agg _ | .tup _ | .any | .bad => false
 | _ => true
def V.ones : List V → Bool
 | [] => true
 | v :: l => v.one && V.ones l
structure Place where
 block : Nat
 base : Nat
 top : Nat
 null : Bool
 ty : TypeId
abbrev Ro := Nat → Option (Array Value)
abbrev Pl := Nat → Option Place
def Pl.none : Pl := fun _ => .none
inductive VRel (ro : Ro) : Pl → V → Value → Prop
 | bool (m b) : VRel ro m (.bool b) (.bool b)
 | int (m k n) : VRel ro m (.int k n) (.int k n)
 | str (m l) : VRel ro m (.str l) (.string ⟨l.toArray⟩)
 | nilp (m) : VRel ro m .nilp (.pointer none)
 | nils (m) : VRel ro m .nils (.slice none 0 0)
 | nilf (m) : VRel ro m .nilf .nilFunc
 | nilm (m) : VRel ro m .nilm (.map none)
 | nili (m) : VRel ro m .nili .nilIface
 | ptr (m : Pl) (id off) (p : Place) (h : m id = some p) (hn : p.null = false) :
   VRel ro m (.ptr id off) (.pointer (some ⟨p.block, p.base + off, none⟩))
 | ifc (m : Pl) (t : TypeId) (id) (p : Place) (h : m id = some p) (hn : p.null = false) :
   VRel ro m (.ifc t id) (.iface t (.pointer (some ⟨p.block, p.base, none⟩)))
 | mth (m : Pl) (t : TypeId) (id) (n : String) (p : Place) (h : m id = some p) (hn : p.null = false) :
   VRel ro m (.mth t id n) (.func (.method n) #[.iface t (.pointer (some ⟨p.block, p.base, none⟩))] #[])
 | bnd (m : Pl) (f : FuncId) (id) (p : Place) (h : m id = some p) (hn : p.null = false) :
   VRel ro m (.bnd f id) (.func (.func f) #[.pointer (some ⟨p.block, p.base, none⟩)] #[])
 | eptr (m : Pl) (id i sz off) (p : Place) (h : m id = some p) (hn : p.null = false) :
   VRel ro m (.eptr id i sz off) (.pointer (some ⟨p.block, p.base + i * sz + off, none⟩))
 | rptr (m : Pl) (cells : List V) (off b o : Nat) (cs : Array Value) (f : Nat → Value) (hb : ro b = some cs)
   (hc : ∀ i, i < cells.length → cs[o + i]? = some (f i)) (hv : ∀ i (h : i < cells.length), VRel ro Pl.none cells[i] (f i)) :
   VRel ro m (.rptr cells off) (.pointer (some ⟨b, o + off, none⟩))
 | sl (m : Pl) (id off len sz cap o : Nat) (k : Option Nat) (p : Place) (h : m id = some p) (hn : p.null = false) (hl : len ≤ cap)
   (ho : o = p.base + off * sz ∨ cap = 0) (ht : 0 < cap → p.base + off * sz + cap * sz ≤ p.top) (hk : ∀ x, k = some x → x = cap) :
   VRel ro m (.sl id off len sz k) (.slice (some ⟨p.block, o, none⟩) len cap)
 | slnil (m : Pl) (id sz : Nat) (p : Place) (a : Option Addr) (h : m id = some p) (hn : p.null = true) : VRel ro m (.sl id 0 0 sz none) (.slice a 0 0)
 | zs (m : Pl) (a : Option Addr) : VRel ro m .zs (.slice a 0 0)
 | vs (m : Pl) (elems : List (List V)) (sz b o cap : Nat) (cs : Array Value) (f : Nat → Nat → Value) (hb : ro b = some cs) (hl : elems.length ≤ cap)
   (hsz : ∀ i (h : i < elems.length), elems[i].length = sz) (h1 : ∀ e ∈ elems, V.ones e = true)
   (hc : ∀ i j, i < elems.length → j < sz → cs[o + i * sz + j]? = some (f i j))
   (hv : ∀ i (h : i < elems.length) j (h' : j < elems[i].length), VRel ro Pl.none elems[i][j] (f i j)) :
   VRel ro m (.vs elems sz) (.slice (some ⟨b, o, none⟩) elems.length cap)
 | vsnil (m : Pl) (sz : Nat) (a : Option Addr) : VRel ro m (.vs [] sz) (.slice a 0 0)
 | mp (m : Pl) (id) (p : Place) (h : m id = some p) (hn : p.null = false) : VRel ro m (.mp id) (.map (some p.block))
 | fn (m : Pl) (f : FuncId) (cap : List V) (cs : Array Value) (hl : cap.length = cs.size)
   (hv : ∀ i (h : i < cap.length) (h' : i < cs.size), VRel ro m cap[i] cs[i]) : VRel ro m (.fn f cap) (.func (.func f) #[] cs)
 | yld (m : Pl) (id) (p : Place) (h : m id = some p) (hn : p.null = false) : VRel ro m (.yld id) (.func (.yield p.block) #[] #[])
 | agg (m : Pl) (cells : List V) (cs : Array Value) (hl : cells.length = cs.size)
   (hv : ∀ i (h : i < cells.length) (h' : i < cs.size), VRel ro m cells[i] cs[i]) : VRel ro m (.agg cells) (.agg cs)
 | tup (m : Pl) (vs : List V) (cs : Array Value) (hl : vs.length = cs.size)
   (hv : ∀ i (h : i < vs.length) (h' : i < cs.size), VRel ro m vs[i] cs[i]) : VRel ro m (.tup vs) (.tuple cs)
 | any (m v) : VRel ro m .any v
theorem VRel.mono {ro ro' : Ro} (hr : ∀ b cs, ro b = some cs → ro' b = some cs) {m : Pl} {v : V} {c : Value} (h : VRel ro m v c) :
  ∀ {m' : Pl}, (∀ i p, m i = some p → m' i = some p) → VRel ro' m' v c := by
 induction h with
 | bool => intro m' _; exact .bool ..
 | int => intro m' _; exact .int ..
 | str => intro m' _; exact .str ..
 | nilp => intro m' _; exact .nilp ..
 | nils => intro m' _; exact .nils ..
 | nilf => intro m' _; exact .nilf ..
 | nilm => intro m' _; exact .nilm ..
 | nili => intro m' _; exact .nili ..
 | ifc m t id p h hn => intro m' hm; exact .ifc _ _ _ p (hm _ _ h) hn
 | mth m t id n p h hn => intro m' hm; exact .mth _ _ _ _ p (hm _ _ h) hn
 | bnd m f id p h hn => intro m' hm; exact .bnd _ _ _ p (hm _ _ h) hn
 | ptr m id off p h hn => intro m' hm; exact .ptr _ _ _ p (hm _ _ h) hn
 | rptr m cells off b o cs f hb hc hv ih => intro m' hm; exact .rptr _ _ _ b o cs f (hr _ _ hb) hc fun i h => ih i h fun _ _ h => h
 | eptr m id i sz off p h hn => intro m' hm; exact .eptr _ _ _ _ _ p (hm _ _ h) hn
 | sl m id off len sz cap o k p h hn hl ho ht hk => intro m' hm; exact .sl _ _ _ _ _ _ o _ p (hm _ _ h) hn hl ho ht hk
 | slnil m id sz p a h hn => intro m' hm; exact .slnil _ _ _ p a (hm _ _ h) hn
 | zs => intro m' _; exact .zs ..
 | vs m elems sz b o cap cs f hb hl hsz h1 hc hv ih => intro m' hm; exact .vs _ _ _ b o cap cs f (hr _ _ hb) hl hsz h1 hc fun i h j h' => ih i h j h' fun _ _ h => h
 | vsnil => intro m' _; exact .vsnil ..
 | mp m id p h hn => intro m' hm; exact .mp _ _ p (hm _ _ h) hn
 | fn m f cap cs hl hv ih => intro m' hm; exact .fn _ _ _ cs hl fun i h h' => ih i h h' hm
 | yld m id p h hn => intro m' hm; exact .yld _ _ p (hm _ _ h) hn
 | agg m cells cs hl hv ih => intro m' hm; exact .agg _ _ cs hl fun i h h' => ih i h h' hm
 | tup m vs cs hl hv ih => intro m' hm; exact .tup _ _ cs hl fun i h h' => ih i h h' hm
 | any => intro m' _; exact .any ..
def VRels (ro : Ro) (m : Pl) (vs : List V) (cs : Array Value) : Prop := vs.length = cs.size ∧ ∀ i (h : i < vs.length) (h' : i < cs.size), VRel ro m vs[i] cs[i]
theorem VRels.nil (ro m) : VRels ro m [] #[] := ⟨rfl, fun i h => by simp at h⟩
structure LoopC where
 fn : FuncId
 N : Nat
 params : Array Tmp
 assign : Code
 body : Code
inductive LSt where
 | ready
 | busy
 | done (j : Code)
def LSt.tells (r : Loop) : LSt → Prop
 | .ready => r.state = .ready ∧ r.pending = none
 | .busy => r.state = .busy
 | .done j => r.state = .done ∧ r.pending = some j
inductive O where
 | row (cells : List V)
 | arr (elems : List (List V)) (sz : Nat)
 | map (es : List (V × V))
 | ty (id : Nat) (t : TypeId) (n : Option Nat)   -- what is known of another one: its variables' type
 | loop (L : LoopC) (ts : List (Nat × V)) (st : LSt)
 | bad
 | gone
 deriving Inhabited
def O.live : O → Prop
 | .gone => False
 | _ => True
def RowAt (w : World) (p : Place) (cc : Array Value) : Prop :=
 p.null = false ∧ cc.size = p.top ∧ p.base ≤ p.top ∧ ∃ (elem : {e : TypeId // e = p.ty}) (fr : Nat × Nat), w.heap[p.block]? = some (.cells cc elem.1 fr) ∧ ∀ i, i ≤ p.top → ¬ (fr.1 ≤ i ∧ i < fr.2)
def ORel (ro : Ro) (m : Pl) (w : World) (p : Place) : O → Prop
 | .row cells => ∃ cc, RowAt w p cc ∧ p.base + cells.length ≤ p.top ∧ ∀ i (h : i < cells.length) (h' : p.base + i < cc.size), VRel ro m cells[i] cc[p.base + i]
 | .arr elems sz => (p.null = true → elems = []) ∧ (∀ e ∈ elems, V.ones e = true) ∧ (∀ i (h : i < elems.length), elems[i].length = sz) ∧ (p.null = false → ∃ cc, RowAt w p cc ∧ p.base + elems.length * sz ≤ p.top ∧
   ∀ i (h : i < elems.length) j (h' : j < elems[i].length), ∃ x, cc[p.base + i * sz + j]? = some x ∧ VRel ro Pl.none elems[i][j] x)
 | .map es => p.null = false ∧ ∃ (ce : Array MapEntry) (clock : Nat), w.heap[p.block]? = some (.map ce clock) ∧ MapKept.Stamped ce clock ∧ es.length = ce.size ∧
   ∀ i (h : i < es.length) (h' : i < ce.size), VRel ro Pl.none es[i].1 ce[i].key ∧ VRel ro m es[i].2 ce[i].val
 | .ty id t n => p.null = true ∧ ∃ q, m id = some q ∧ (q.null = false → q.ty = t ∧ q.base = 0 ∧ ∀ k, n = some k → q.top = k)
 | .loop L ts st => p.null = false ∧ ∃ r : Loop, w.heap[p.block]? = some (.loop r) ∧ r.fn = L.fn ∧ r.params = L.params ∧ r.assign = L.assign ∧ r.body = L.body ∧ r.tmps.size = L.N ∧ st.tells r ∧
   ∀ x ∈ ts, VRel ro m x.2 (r.tmps.getD x.1 undef)
 | .bad => False
 | .gone => True
structure Ctx where
 m : Pl
 ro : Ro
def Live (H : List O) (i : Nat) : Prop := ∃ o, H[i]? = some o ∧ o.live
def gl : Ro := fun _ => none
def mths : List (TypeId × String) := [(217, "sorrel/post.number"), (217, "sorrel/post.text"), (230, "sorrel/post.number"), (230, "sorrel/post.text")]
structure HRel (c : Ctx) (w : World) (H : List O) : Prop where
 ro : ∀ b cs, c.ro b = some cs → ∃ elem fr, w.heap[b]? = some (.cells cs elem fr)
 dom : ∀ i p, c.m i = some p → i < H.length
 obj : ∀ i o, H[i]? = some o → o.live → ∃ p, c.m i = some p ∧ ORel c.ro c.m w p o ∧ (p.null = false → c.ro p.block = none)
 inj : ∀ i j p q, Live H i → Live H j → c.m i = some p → c.m j = some q → p.null = false → q.null = false → p.block = q.block → i = j
 glob : ∀ b cs, gl b = some cs → c.ro b = some cs
def Owns (c : Ctx) (H : List O) (b : Nat) : Prop := ∃ i p, Live H i ∧ c.m i = some p ∧ p.null = false ∧ p.block = b
structure Adv (c : Ctx) (w : World) (H : List O) (c' : Ctx) (w' : World) (H' : List O) : Prop where
 m : ∀ i p, c.m i = some p → c'.m i = some p
 ro : ∀ b cs, c.ro b = some cs → c'.ro b = some cs
 len : H.length ≤ H'.length
 live : ∀ i, i < H.length → Live H' i → Live H i
 size : w.heap.size ≤ w'.heap.size
 frame : ∀ b, b < w.heap.size → ¬ Owns c H b → w'.heap[b]? = w.heap[b]?
 fresh : ∀ i p, c'.m i = some p → p.null = false → c.m i = some p ∨ Owns c H p.block ∨ w.heap.size ≤ p.block
 freshro : ∀ b cs, c'.ro b = some cs → c.ro b = some cs ∨ Owns c H b ∨ w.heap.size ≤ b
 os : w'.os = w.os
 output : w'.output = w.output
 tape : w'.tape = w.tape
theorem Adv.refl (c w H) : Adv c w H c w H := by
 refine ⟨fun _ _ h => h, fun _ _ h => h, Nat.le_refl _, fun _ _ h => h, Nat.le_refl _, fun _ _ _ => rfl, fun _ _ h _ => .inl h, fun _ _ h => .inl h, rfl, rfl, rfl⟩
theorem HRel.owns_lt {c w H b} (h : HRel c w H) (ho : Owns c H b) : b < w.heap.size := by
 obtain ⟨i, p, ⟨o, hi, hl⟩, hm, hn, rfl⟩ := ho
 obtain ⟨p', hm', hr, _⟩ := h.obj i o hi hl
 rw [hm] at hm'; cases hm'
 have : ∃ x, w.heap[p.block]? = some x := by
  cases o with
  | row cells => obtain ⟨cc, ⟨_, _, _, e, fr, hw, _⟩, _⟩ := hr; exact ⟨_, hw⟩
  | arr elems sz => obtain ⟨_, _, _, hx⟩ := hr; obtain ⟨cc, ⟨_, _, _, e, fr, hw, _⟩, _⟩ := hx hn; exact ⟨_, hw⟩
  | map es => obtain ⟨_, ce, cl, hw, _⟩ := hr; exact ⟨_, hw⟩
  | loop L ts st => obtain ⟨_, r, hw, _⟩ := hr; exact ⟨_, hw⟩
  | ty => obtain ⟨h1, _⟩ := hr; rw [h1] at hn; cases hn
  | bad => exact hr.elim
  | gone => exact hl.elim
 obtain ⟨x, hx⟩ := this
 exact (Array.getElem?_eq_some_iff.1 hx).1
theorem Owns.of_adv {c w H c' w' H' b} (h : Adv c w H c' w' H') (hh : HRel c w H) (ho : Owns c' H' b) : Owns c H b ∨ w.heap.size ≤ b := by
 obtain ⟨i, p, hl, hm, hn, rfl⟩ := ho
 rcases h.fresh i p hm hn with h1 | h1 | h1
 ·exact .inl ⟨i, p, h.live i (hh.dom i p h1) hl, h1, hn, rfl⟩
 ·exact .inl h1
 ·exact .inr h1
theorem Adv.trans {c w H c' w' H' c'' w'' H''} (hh : HRel c w H) (h : Adv c w H c' w' H') (k : Adv c' w' H' c'' w'' H'') : Adv c w H c'' w'' H'' where
 m i p hi := k.m i p (h.m i p hi)
 ro b cs hb := k.ro b cs (h.ro b cs hb)
 len := Nat.le_trans h.len k.len
 live i hi hl := h.live i hi (k.live i (Nat.lt_of_lt_of_le hi h.len) hl)
 size := Nat.le_trans h.size k.size
 frame b hb hn := by
  rw [k.frame b (Nat.lt_of_lt_of_le hb h.size) fun ho => ?_, h.frame b hb hn]
  rcases ho.of_adv h hh with h1 | h1
  ·exact hn h1
  ·omega
 fresh i p hi hn := by
  rcases k.fresh i p hi hn with h1 | h1 | h1
  ·exact h.fresh i p h1 hn
  ·exact .inr (h1.of_adv h hh)
  ·exact .inr (.inr (Nat.le_trans h.size h1))
 freshro b cs hb := by
  rcases k.freshro b cs hb with h1 | h1 | h1
  ·exact h.freshro b cs h1
  ·exact .inr (h1.of_adv h hh)
  ·exact .inr (.inr (Nat.le_trans h.size h1))
 os := k.os.trans h.os
 output := k.output.trans h.output
 tape := k.tape.trans h.tape
end Sx
namespace Sx
open Go
mutual
def V.ren (ρ : Nat → Option Nat) : V → V
 | .ptr id off => match ρ id with | some j => .ptr j off | none => .bad
 | .eptr id i sz off => match ρ id with | some j => .eptr j i sz off | none => .bad
 | .sl id off len sz cap => match ρ id with | some j => .sl j off len sz cap | none => .bad
 | .mp id => match ρ id with | some j => .mp j | none => .bad
 | .fn f cap => .fn f (V.renL ρ cap)
 | .yld id => match ρ id with | some j => .yld j | none => .bad
 | .agg cells => .agg (V.renL ρ cells)
 | .tup l => .tup (V.renL ρ l)
 | .bool b => .bool b
 | .int k n => .int k n
 | .str l => .str l
 | .nilp => .nilp
 | .nils => .nils
 | .nilf => .nilf
 | .nilm => .nilm
 | .nili => .nili
 | .ifc t id => match ρ id with | some j => .ifc t j | none => .bad
 | .mth t id n => match ρ id with | some j => .mth t j n | none => .bad
 | .bnd f id => match ρ id with | some j => .bnd f j | none => .bad
 | .zs => .zs
 | .rptr cells off => .rptr cells off
 | .vs e sz => .vs e sz
 | .any => .any
 | .bad => .bad
def V.renL (ρ : Nat → Option Nat) : List V → List V
 | [] => []
 | v :: l => v.ren ρ :: V.renL ρ l
end
theorem V.renL_length (ρ) : ∀ l, (V.renL ρ l).length = l.length
 | [] => rfl
 | v :: l => by simp [V.renL, V.renL_length ρ l]
theorem V.renL_get (ρ) : ∀ (l : List V) (i : Nat) (h : i < (V.renL ρ l).length), (V.renL ρ l)[i] = (l[i]'(by rw [← V.renL_length ρ l]; exact h)).ren ρ
 | v :: l, 0, _ => rfl
 | v :: l, i + 1, h => by simp only [V.renL, List.getElem_cons_succ]; exact V.renL_get ρ l i _
theorem VRel.to_ren {ro : Ro} (ρ : Nat → Option Nat) {m' : Pl} {v : V} {c : Value} (h : VRel ro m' v c) :
  ∀ {m : Pl}, (∀ i p, m' i = some p → ∃ j, ρ i = some j ∧ m j = some p) → VRel ro m (v.ren ρ) c := by
 induction h with
 | bool => intro m _; exact .bool ..
 | int => intro m _; exact .int ..
 | str => intro m _; exact .str ..
 | nilp => intro m _; exact .nilp ..
 | nils => intro m _; exact .nils ..
 | nilf => intro m _; exact .nilf ..
 | nilm => intro m _; exact .nilm ..
 | nili => intro m _; exact .nili ..
 | ifc m' t id p h hn => intro m hm; obtain ⟨j, hj, hp⟩ := hm _ _ h; simp only [V.ren, hj]; exact .ifc _ _ _ p hp hn
 | mth m' t id n p h hn => intro m hm; obtain ⟨j, hj, hp⟩ := hm _ _ h; simp only [V.ren, hj]; exact .mth _ _ _ _ p hp hn
 | bnd m' f id p h hn => intro m hm; obtain ⟨j, hj, hp⟩ := hm _ _ h; simp only [V.ren, hj]; exact .bnd _ _ _ p hp hn
 | ptr m' id off p h hn => intro m hm; obtain ⟨j, hj, hp⟩ := hm _ _ h; simp only [V.ren, hj]; exact .ptr _ _ _ p hp hn
 | rptr m' cells off b o cs f hb hc hv ih => intro m hm; exact .rptr _ _ _ b o cs f hb hc hv
 | eptr m' id i sz off p h hn => intro m hm; obtain ⟨j, hj, hp⟩ := hm _ _ h; simp only [V.ren, hj]; exact .eptr _ _ _ _ _ p hp hn
 | sl m' id off len sz cap o k p h hn hl ho ht hk => intro m hm; obtain ⟨j, hj, hp⟩ := hm _ _ h; simp only [V.ren, hj]; exact .sl _ _ _ _ _ _ o _ p hp hn hl ho ht hk
 | slnil m' id sz p a h hn => intro m hm; obtain ⟨j, hj, hp⟩ := hm _ _ h; simp only [V.ren, hj]; exact .slnil _ _ _ p a hp hn
 | zs => intro m _; exact .zs ..
 | vs m' elems sz b o cap cs f hb hl hsz h1 hc hv ih => intro m hm; exact .vs _ _ _ b o cap cs f hb hl hsz h1 hc hv
 | vsnil => intro m _; exact .vsnil ..
 | mp m' id p h hn => intro m hm; obtain ⟨j, hj, hp⟩ := hm _ _ h; simp only [V.ren, hj]; exact .mp _ _ p hp hn
 | yld m' id p h hn => intro m hm; obtain ⟨j, hj, hp⟩ := hm _ _ h; simp only [V.ren, hj]; exact .yld _ _ p hp hn
 | fn m' f cap cs hl hv ih =>
  intro m hm
  refine .fn _ _ _ cs (by rw [V.renL_length]; exact hl) fun i h h' => ?_
  rw [V.renL_get]; exact ih i _ h' hm
 | agg m' cells cs hl hv ih =>
  intro m hm
  refine .agg _ _ cs (by rw [V.renL_length]; exact hl) fun i h h' => ?_
  rw [V.renL_get]; exact ih i _ h' hm
 | tup m' vs cs hl hv ih =>
  intro m hm
  refine .tup _ _ cs (by rw [V.renL_length]; exact hl) fun i h h' => ?_
  rw [V.renL_get]; exact ih i _ h' hm
 | any => intro m _; exact .any ..
theorem VRel.of_ren {ro : Ro} (ρ : Nat → Option Nat) {m : Pl} {u : V} {c : Value} (h : VRel ro m u c) :
  ∀ {v : V} {m' : Pl}, u = v.ren ρ → (∀ i j p, ρ i = some j → m j = some p → m' i = some p) → VRel ro m' v c := by
 induction h with
 | bool => intro v m' hu _; cases v <;> simp only [V.ren] at hu <;> first | (split at hu <;> simp at hu; done) | (simp at hu; done) | (cases hu; exact .bool ..)
 | int => intro v m' hu _; cases v <;> simp only [V.ren] at hu <;> first | (split at hu <;> simp at hu; done) | (simp at hu; done) | (cases hu; exact .int ..)
 | str => intro v m' hu _; cases v <;> simp only [V.ren] at hu <;> first | (split at hu <;> simp at hu; done) | (simp at hu; done) | (cases hu; exact .str ..)
 | nilp => intro v m' hu _; cases v <;> simp only [V.ren] at hu <;> first | (split at hu <;> simp at hu; done) | (simp at hu; done) | (exact .nilp ..)
 | nils => intro v m' hu _; cases v <;> simp only [V.ren] at hu <;> first | (split at hu <;> simp at hu; done) | (simp at hu; done) | (exact .nils ..)
 | nilf => intro v m' hu _; cases v <;> simp only [V.ren] at hu <;> first | (split at hu <;> simp at hu; done) | (simp at hu; done) | (exact .nilf ..)
 | nilm => intro v m' hu _; cases v <;> simp only [V.ren] at hu <;> first | (split at hu <;> simp at hu; done) | (simp at hu; done) | (exact .nilm ..)
 | nili => intro v m' hu _; cases v <;> simp only [V.ren] at hu <;> first | (split at hu <;> simp at hu; done) | (simp at hu; done) | (exact .nili ..)
 | ifc m t id p h hn =>
  intro v m' hu hm
  cases v <;> simp only [V.ren] at hu <;> try (first | (simp at hu; done) | (split at hu <;> simp at hu; done))
  rename_i t' id'
  split at hu
  ·rename_i j hj; cases hu; exact .ifc _ _ _ p (hm _ _ _ hj h) hn
  ·cases hu
 | mth m t id n p h hn =>
  intro v m' hu hm
  cases v <;> simp only [V.ren] at hu <;> try (first | (simp at hu; done) | (split at hu <;> simp at hu; done))
  split at hu
  ·rename_i j hj; cases hu; exact .mth _ _ _ _ p (hm _ _ _ hj h) hn
  ·cases hu
 | bnd m f id p h hn =>
  intro v m' hu hm
  cases v <;> simp only [V.ren] at hu <;> try (first | (simp at hu; done) | (split at hu <;> simp at hu; done))
  split at hu
  ·rename_i j hj; cases hu; exact .bnd _ _ _ p (hm _ _ _ hj h) hn
  ·cases hu
 | ptr m id off p h hn =>
  intro v m' hu hm
  cases v <;> simp only [V.ren] at hu <;> try (first | (simp at hu; done) | (split at hu <;> simp at hu; done))
  rename_i id' off'
  split at hu
  ·rename_i j hj; cases hu; exact .ptr _ _ _ p (hm _ _ _ hj h) hn
  ·cases hu
 | rptr m cells off b o cs f hb hc hv ih =>
  intro v m' hu hm
  cases v <;> simp only [V.ren] at hu <;> try (first | (simp at hu; done) | (split at hu <;> simp at hu; done))
  cases hu; exact .rptr _ _ _ b o cs f hb hc hv
 | eptr m id i sz off p h hn =>
  intro v m' hu hm
  cases v <;> simp only [V.ren] at hu <;> try (first | (simp at hu; done) | (split at hu <;> simp at hu; done))
  split at hu
  ·rename_i j hj; cases hu; exact .eptr _ _ _ _ _ p (hm _ _ _ hj h) hn
  ·cases hu
 | sl m id off len sz cap o k p h hn hl ho ht hk =>
  intro v m' hu hm
  cases v <;> simp only [V.ren] at hu <;> try (first | (simp at hu; done) | (split at hu <;> simp at hu; done))
  split at hu
  ·rename_i j hj; cases hu; exact .sl _ _ _ _ _ _ o _ p (hm _ _ _ hj h) hn hl ho ht hk
  ·cases hu
 | slnil m id sz p a h hn =>
  intro v m' hu hm
  cases v <;> simp only [V.ren] at hu <;> try (first | (simp at hu; done) | (split at hu <;> simp at hu; done))
  split at hu
  ·rename_i j hj; cases hu; exact .slnil _ _ _ p a (hm _ _ _ hj h) hn
  ·cases hu
 | zs => intro v m' hu _; cases v <;> simp only [V.ren] at hu <;> first | (split at hu <;> simp at hu; done) | (simp at hu; done) | (exact .zs ..)
 | vs m elems sz b o cap cs f hb hl hsz h1 hc hv ih =>
  intro v m' hu hm
  cases v <;> simp only [V.ren] at hu <;> try (first | (simp at hu; done) | (split at hu <;> simp at hu; done))
  cases hu; exact .vs _ _ _ b o cap cs f hb hl hsz h1 hc hv
 | vsnil =>
  intro v m' hu hm
  cases v <;> simp only [V.ren] at hu <;> try (first | (simp at hu; done) | (split at hu <;> simp at hu; done))
  cases hu; exact .vsnil ..
 | mp m id p h hn =>
  intro v m' hu hm
  cases v <;> simp only [V.ren] at hu <;> try (first | (simp at hu; done) | (split at hu <;> simp at hu; done))
  split at hu
  ·rename_i j hj; cases hu; exact .mp _ _ p (hm _ _ _ hj h) hn
  ·cases hu
 | yld m id p h hn =>
  intro v m' hu hm
  cases v <;> simp only [V.ren] at hu <;> try (first | (simp at hu; done) | (split at hu <;> simp at hu; done))
  split at hu
  ·rename_i j hj; cases hu; exact .yld _ _ p (hm _ _ _ hj h) hn
  ·cases hu
 | fn m f cap cs hl hv ih =>
  intro v m' hu hm
  cases v <;> simp only [V.ren] at hu <;> try (first | (simp at hu; done) | (split at hu <;> simp at hu; done))
  cases hu
  refine .fn _ _ _ cs (by rw [← hl, V.renL_length]) fun i h h' => ?_
  exact ih i (by rw [V.renL_length]; exact h) h' (V.renL_get ρ _ i _) hm
 | agg m cells cs hl hv ih =>
  intro v m' hu hm
  cases v <;> simp only [V.ren] at hu <;> try (first | (simp at hu; done) | (split at hu <;> simp at hu; done))
  cases hu
  refine .agg _ _ cs (by rw [← hl, V.renL_length]) fun i h h' => ?_
  exact ih i (by rw [V.renL_length]; exact h) h' (V.renL_get ρ _ i _) hm
 | tup m vs cs hl hv ih =>
  intro v m' hu hm
  cases v <;> simp only [V.ren] at hu <;> try (first | (simp at hu; done) | (split at hu <;> simp at hu; done))
  cases hu
  refine .tup _ _ cs (by rw [← hl, V.renL_length]) fun i h h' => ?_
  exact ih i (by rw [V.renL_length]; exact h) h' (V.renL_get ρ _ i _) hm
 | any =>
  intro v m' hu hm
  cases v <;> simp only [V.ren] at hu <;> try (first | (simp at hu; done) | (split at hu <;> simp at hu; done))
  exact .any ..
def O.ren (ρ : Nat → Option Nat) : O → O
 | .row cells => .row (V.renL ρ cells)
 | .arr e sz => .arr e sz
 | .map es => .map (es.map fun x => (x.1, x.2.ren ρ))
 | .ty id t n => match ρ id with | some j => .ty j t n | none => .bad
 | .loop L ts st => .loop L (ts.map fun x => (x.1, x.2.ren ρ)) st
 | .bad => .bad
 | .gone => .gone
theorem O.ren_live {ρ} {o : O} : (o.ren ρ).live ↔ o.live := by
 cases o with
 | ty id t n => simp only [O.ren]; split <;> exact Iff.rfl
 | _ => exact Iff.rfl
theorem ORel.to_ren {ro : Ro} (ρ : Nat → Option Nat) {m m' : Pl} {w : World} {p : Place} {o : O} (hm : ∀ i p, m' i = some p → ∃ j, ρ i = some j ∧ m j = some p)
  (h : ORel ro m' w p o) : ORel ro m w p (o.ren ρ) := by
 cases o with
 | row cells =>
  obtain ⟨cc, h1, h2, h3⟩ := h
  refine ⟨cc, h1, by rw [V.renL_length]; exact h2, fun i a b => ?_⟩
  rw [V.renL_get]; exact (h3 i _ b).to_ren ρ hm
 | arr e sz => exact h
 | map es =>
  obtain ⟨h0, ce, cl, h1, hst, h2, h3⟩ := h
  refine ⟨h0, ce, cl, h1, hst, by simpa using h2, fun i a b => ?_⟩
  have := h3 i (by simpa using a) b
  simp only [List.getElem_map]
  exact ⟨this.1, this.2.to_ren ρ hm⟩
 | ty id t n =>
  obtain ⟨h0, q, h1, h2⟩ := h
  obtain ⟨j, hj, hq⟩ := hm _ _ h1
  simp only [O.ren, hj]; exact ⟨h0, q, hq, h2⟩
 | loop L ts st =>
  obtain ⟨h0, r, h1, h2, h3, h4, h5, h6, h7, h8⟩ := h
  refine ⟨h0, r, h1, h2, h3, h4, h5, h6, h7, fun x hx => ?_⟩
  obtain ⟨y, hy, rfl⟩ := List.mem_map.1 hx
  exact (h8 y hy).to_ren ρ hm
 | bad => exact h
 | gone => trivial
theorem ORel.of_ren {ro : Ro} (ρ : Nat → Option Nat) {m m' : Pl} {w : World} {p : Place} {o : O} (hm : ∀ i j p, ρ i = some j → m j = some p → m' i = some p)
  (h : ORel ro m w p (o.ren ρ)) : ORel ro m' w p o := by
 cases o with
 | row cells =>
  obtain ⟨cc, h1, h2, h3⟩ := h
  rw [V.renL_length] at h2
  refine ⟨cc, h1, h2, fun i a b => ?_⟩
  exact (h3 i (by rw [V.renL_length]; exact a) b).of_ren ρ (V.renL_get ρ _ i _) hm
 | arr e sz => exact h
 | map es =>
  obtain ⟨h0, ce, cl, h1, hst, h2, h3⟩ := h
  refine ⟨h0, ce, cl, h1, hst, by simpa using h2, fun i a b => ?_⟩
  have := h3 i (by simpa using a) b
  simp only [List.getElem_map] at this
  exact ⟨this.1, this.2.of_ren ρ rfl hm⟩
 | ty id t n =>
  simp only [O.ren] at h
  split at h
  ·rename_i j hj; obtain ⟨h0, q, h1, h2⟩ := h; exact ⟨h0, q, hm _ _ _ hj h1, h2⟩
  ·exact h.elim
 | loop L ts st =>
  obtain ⟨h0, r, h1, h2, h3, h4, h5, h6, h7, h8⟩ := h
  exact ⟨h0, r, h1, h2, h3, h4, h5, h6, h7, fun x hx => (h8 _ (List.mem_map_of_mem hx)).of_ren ρ rfl hm⟩
 | bad => exact h
 | gone => trivial
theorem ORel.mono {ro ro' : Ro} {m m' : Pl} {w w' : World} {p : Place} {o : O} (hr : ∀ b cs, ro b = some cs → ro' b = some cs) (hm : ∀ i p, m i = some p → m' i = some p)
  (hw : p.null = false → w'.heap[p.block]? = w.heap[p.block]?) (h : ORel ro m w p o) : ORel ro' m' w' p o := by
 cases o with
 | row cells =>
  obtain ⟨cc, ⟨h0, h1, h2, e, fr, h3, h4⟩, h5, h6⟩ := h
  exact ⟨cc, ⟨h0, h1, h2, e, fr, (hw h0).trans h3, h4⟩, h5, fun i a b => (h6 i a b).mono hr hm⟩
 | arr es sz =>
  obtain ⟨h7, h7', h8, h9⟩ := h
  refine ⟨h7, h7', h8, fun hn => ?_⟩
  obtain ⟨cc, ⟨h0, h1, h2, e, fr, h3, h4⟩, h5, h6⟩ := h9 hn
  exact ⟨cc, ⟨h0, h1, h2, e, fr, (hw h0).trans h3, h4⟩, h5, fun i a j b => let ⟨x, hx, hv⟩ := h6 i a j b; ⟨x, hx, hv.mono hr fun _ _ h => h⟩⟩
 | map es =>
  obtain ⟨h0, ce, cl, h1, hst, h2, h3⟩ := h
  exact ⟨h0, ce, cl, (hw h0).trans h1, hst, h2, fun i a b => ⟨(h3 i a b).1.mono hr (fun _ _ h => h), (h3 i a b).2.mono hr hm⟩⟩
 | ty id t n => obtain ⟨h0, q, h1, h2⟩ := h; exact ⟨h0, q, hm _ _ h1, h2⟩
 | loop L ts st =>
  obtain ⟨h0, r, h1, h2, h3, h4, h5, h6, h7, h8⟩ := h
  exact ⟨h0, r, (hw h0).trans h1, h2, h3, h4, h5, h6, h7, fun x hx => (h8 x hx).mono hr hm⟩
 | bad => exact h
 | gone => trivial
end Sx
namespace Sx
open Go
def bytesOf : List (List V) → Option (List UInt8)
 | [] => some []
 | [.int .u8 n] :: r => (bytesOf r).map (UInt8.ofNat n.toNat :: ·)
 | _ => none
def byteOk : List (List V) → Bool
 | [] => true
 | [.int .u8 n] :: r => decide (0 ≤ n ∧ n < 256) && byteOk r
 | _ => false
inductive Opd where
 | t (i : Nat)
 | c (v : V)
 | inv (i : Nat) (tbl : List (TypeId × FuncId))
 | unw (i : Nat)
 deriving Inhabited
inductive AOp where
 | mv (x : Opd)
 | pick (c a b : Opd)
 | alloc (cells : List V)
 | box (x : Opd)
 | build (zero : List V) (parts : List (Nat × Nat × Opd))
 | bslice (len sz : Nat) (zero : List V) (parts : List (Nat × Opd))
 | load (x : Opd) (k : Option Nat)
 | store (a x : Opd) (n : Nat)
 | bin (op : BinOp) (x y : Opd)
 | eq (neg : Bool) (kind : Nat) (x y : Opd)          -- 0: bools, 1: pointers, 2: slices, 3: functions, 4: maps
 | eqG (neg : Bool) (ks : List Nat) (x y : Opd)            -- structs of plain fields
 | un (op : UnOp) (x : Opd)
 | convI (k : IntKind) (x : Opd)
 | convS (x : Opd)
 | b2s (x : Opd)
 | fld (x : Opd) (off : Nat) (k : Option Nat)
 | fldA (x : Opd) (off : Nat)
 | idxA (x i : Opd) (arr : Option Nat) (sz : Nat)
 | idxS (x i : Opd)
 | idxG (x i : Opd) (len sz : Nat) (agg : Bool)
 | slcS (x : Opd) (lo hi : Option Opd)
 | slc (x : Opd) (lo hi mx : Option Opd) (sz : Nat)
 | slcA (x : Opd) (lo hi : Option Opd) (n sz : Nat)
 | lenS (x : Opd)
 | lenL (x : Opd)
 | append (x y : Opd) (sz bytes : Nat) (str : Bool)
 | copy (x y : Opd) (sz : Nat)
 | clear (x : Opd) (zero : List V)
 | mks (n c : Opd) (zero : List V) (bytes : Nat)
 | mkf (f : FuncId) (caps : List Opd)
 | mki (ty : TypeId) (x : Opd)
 | mkm1 (n : String) (x : Opd)
 | mkb (f : FuncId) (x : Opd)
 | boxT (x : Opd) (ty : TypeId) (n : Nat)
 | ext (x : Opd) (i : Nat)
 | nilck (x : Opd)
 | mm (max : Bool) (xs : List Opd)
 | allocT (cells : List V) (ty : TypeId)
 | cvU (x : Opd)
 | cvP (x : Opd) (tbl : List (TypeId × Nat))
 | appendB (x y : Opd) (bytes : Nat) (ty : TypeId)
 | usd (x : Opd)
 | ustr (x n : Opd) (ty : TypeId)
 | capL (x : Opd)
 | appendZ (x y : Opd) (sz : Nat) (zero : List V) (bytes : Nat)
 | mkm
 | mupd (κ : Nat) (m k x : Opd)
 | mget (κ : Nat) (m k : Opd) (zero : V) (ok : Bool)
 | lenM (x : Opd)
 | mdel (κ : Nat) (m k : Opd)
 | dead
 | call (f : Opd) (args : List Opd)
 deriving Inhabited
structure AOper where
 dst : Option Nat
 g : Option (Nat × Bool)
 op : AOp
 deriving Inhabited
inductive AC where
 | skip
 | region (ops : List AOper)
 | drawn (ops : List (AOper × List Nat))
 | seq (a b : AC)
 | cond (c : Opd) (a b : AC)
 | block (id : Nat) (c : AC)
 | loop (c : AC)
 | exit (id : Nat)
 | ret
 | rangeF (f : Opd) (ps : List Nat) (a b : AC)
 | stop
 deriving Inhabited
def V.ofVal0 : Value → Option V
 | .bool b => some (.bool b)
 | .int k n => some (.int k n)
 | .string s => some (.str s.data.toList)
 | .pointer none => some .nilp
 | .slice none 0 0 => some .nils
 | .nilFunc => some .nilf
 | .map none => some .nilm
 | _ => none
def V.ofVal : Value → Option V
 | .agg cs => (cs.toList.mapM V.ofVal0).map .agg
 | .nilIface => some .any
 | v => V.ofVal0 v
def cOpd (N : Nat) : Operand → Option Opd
 | .tmp i => if i < N then some (.t i) else none
 | .const v => (V.ofVal v).map .c
 | .func f => some (.c (.fn f []))
 | .global _ => none
def inv1 (P : Program) (name : String) (t : TypeId) : Option (TypeId × FuncId) :=
 match P.info? t with
 | some ti => match P.underlying t with
  | some (.pointer _) => match ti.methods.find? (·.name == name) with
   | some m => match m.func with
    | some (f, true) => if m.path.toList.isEmpty then some (t, f) else none
    | _ => none
   | none => none
  | _ => none
 | none => none
def invTbl (P : Program) (name : String) : List (TypeId × FuncId) := (List.range P.types.size).filterMap (inv1 P name)
def mthsOk (P : Program) : Bool := mths.all fun e => (inv1 P e.2 e.1).isSome
def cOpds (N : Nat) (xs : Array Operand) : Option (List Opd) := xs.toList.mapM (cOpd N)
def cOpt (N : Nat) : Option Operand → Option (Option Opd)
 | none => some none
 | some x => (cOpd N x).map some
def cSize (P : Program) (t : TypeId) : Option (Nat × Bool) :=
 match P.info? t, P.underlying t with
 | some i, some (.struct _) => some (i.size, true)
 | some i, some (.array _ _) => some (i.size, true)
 | some i, some _ => if i.size = 1 then some (1, false) else none
 | _, _ => none
def cZero (P : Program) (t : TypeId) : Option (List V) :=
 match P.info? t with
 | some i => match i.zero with
  | some z => let l := z.cells.toList; if l.length = i.size then l.mapM V.ofVal0 else none
  | none => none
 | none => none
def cEq (P : Program) (t : TypeId) : Option Nat :=
 match P.underlying t with
 | some .bool => some 0
 | some (.pointer e) => if (P.info? e).isSome = true then some 1 else none
 | some (.slice _) => some 2
 | some (.func ..) => some 3
 | some (.map ..) => some 4
 | _ => none
def cPrim (P : Program) (t : TypeId) : Option Nat :=
 match P.underlying t with
 | some .bool => some 0
 | some (.int _) => some 1
 | some .string => some 2
 | _ => none
def cFlatF (P : Program) (rec : TypeId → Option (List Nat)) : List Field → Nat → Option (List Nat)
 | [], _ => some []
 | f :: fs, i => if (f.name != "_" && f.offset == i) = true then (match cPrim P f.type with
  | some k => match cFlatF P rec fs (i + 1) with | some l => some (k :: l) | none => none
  | none => match rec f.type, cSize P f.type with
   | some l, some (n, true) => if l.length = n then (match cFlatF P rec fs (i + n) with | some r => some (l ++ r) | none => none) else none
   | _, _ => none) else none
def cFlatN (P : Program) : Nat → TypeId → Option (List Nat)
 | 0, _ => none
 | d + 1, t => match P.underlying t with
  | some (.struct fs) => if P.stoodInHeld t = false then cFlatF P (cFlatN P d) fs.toList 0 else none
  | _ => none
def cFlat (P : Program) (t : TypeId) : Option (List Nat) := if P.eqGuardType P.depth t = false then cFlatN P 3 t else none
def isNeq : BinOp → Bool
 | .neq => true
 | _ => false
def scalarOp : BinOp → Bool
 | .eql | .neq => false
 | _ => true
def cPart (P : Program) (N : Nat) (fs : Array Field) (zl : Nat) (x : Nat × Operand) : Option (Nat × Nat × Opd) :=
 match fs[x.1]? with
 | some f => match cSize P f.type, cOpd N x.2 with
  | some (n, _), some y => if f.offset + n ≤ zl then some (f.offset, n, y) else none
  | _, _ => none
 | none => none
def cPartA (N : Nat) (n zl : Nat) (x : Nat × Operand) : Option (Nat × Nat × Opd) :=
 match cOpd N x.2 with
 | some y => if x.1 * n + n ≤ zl then some (x.1 * n, n, y) else none
 | none => none
def cPartE (N : Nat) (len : Nat) (x : Nat × Operand) : Option (Nat × Opd) :=
 match cOpd N x.2 with
 | some y => if x.1 < len then some (x.1, y) else none
 | none => none
def cField (P : Program) (t : TypeId) (f : Nat) : Option (Field × Nat × Bool) :=
 match P.underlying t with
 | some (.struct fs) => match fs[f]? with
  | some f => match cSize P f.type with
   | some (n, b) => some (f, n, b)
   | none => none
  | none => none
 | _ => none
def cElem (P : Program) (t : TypeId) : Option (Nat × List V × Nat) :=
 match P.underlying t with
 | some (.slice e) => match cSize P e, cZero P e, P.info? e with
  | some (n, _), some z, some i => if 0 < n ∧ z.length = n ∧ i.size = n then some (n, z, i.bytes) else none
  | _, _, _ => none
 | _ => none
def isStr (P : Program) (t : TypeId) : Bool :=
 match P.underlying t with
 | some .string => true
 | _ => false
def isBld (P : Program) (t : TypeId) : Bool :=
 match P.underlying t with
 | some (.struct fs) => fs.toList.map (·.name) == ["addr", "buf"]
 | _ => false
def isBldIn (P : Program) (t : TypeId) : Bool := isBld P t || (match P.underlying t with
 | some (.struct fs) => match fs[0]? with
  | some f => isBld P f.type
  | none => false
 | _ => false)
def lies1 (P : Program) (u t : TypeId) : Option (TypeId × Nat) :=
 match P.info? t with
 | some i => if isBldIn P t && liesAt P P.depth t (i.size / P.cellsOf t) 0 u 1 then some (t, i.size) else none
 | none => none
def liesTbl (P : Program) (u : TypeId) : List (TypeId × Nat) := (List.range P.types.size).filterMap (lies1 P u)
def isNoEsc (P : Program) : Operand → Bool
 | .func f => match P.funcs[f]? with
  | some fn => fn.name == "internal/abi.NoEscape" && fn.origin == "" && fn.body.isNone
  | none => false
 | _ => false
def cKind : TypeDesc → Option Nat
 | .int _ => some 0
 | .string => some 1
 | .bool => some 2
 | _ => none
def cKey (P : Program) (t : TypeId) : Option (Nat × TypeId) :=
 match P.underlying t with
 | some (.map k e) => match P.underlying k with
  | some d => (cKind d).map fun κ => (κ, e)
  | _ => none
 | _ => none
def cBuiltin (P : Program) (b : Builtin) (ts : Array TypeId) (xs : List Opd) : Option AOp :=
 match b, xs, ts[0]? with
 | .len, [x], some t => if isStr P t then some (.lenS x) else match cElem P t with | some _ => some (.lenL x) | none => (match cKey P t with | some _ => some (.lenM x) | none => none)
 | .append, [x, y], some t => match cElem P t, ts[1]? with
  | some (n, z, bytes), some u => if bytes = 0 then none else if isStr P u then (match P.underlying t with | some (.slice e) => if n = 1 then some (.appendB x y bytes e) else none | _ => none) else
   (match P.underlying u with | some (.slice _) => some (.append x y n bytes false) | some (.int _) => some (.appendZ x y n z bytes) | _ => none)
  | _, _ => none
 | .copy, [x, y], some t => match cElem P t with | some (n, _, _) => some (.copy x y n) | none => none
 | .cap, [x], some t => match cElem P t with | some _ => some (.capL x) | none => none
 | .clear, [x], some t => match cElem P t with | some (_, z, _) => some (.clear x z) | none => none
 | .unsafeSliceData, [x], _ => some (.usd x)
 | .unsafeString, [x, y], some t => (match P.underlying t with | some (.pointer e) => if P.cellsOf e = 1 ∧ ts.size = 2 then some (.ustr x y e) else none | _ => none)
 | .min, x :: xs, _ => some (.mm false (x :: xs))
 | .max, x :: xs, _ => some (.mm true (x :: xs))
 | .delete, [m, k], some t => match cKey P t with | some (κ, _) => some (.mdel κ m k) | none => none
 | _, _, _ => none
def cZeroV (P : Program) (t : TypeId) : Option V :=
 match P.info? t with
 | some i => match i.zero with
  | some z => V.ofVal z
  | none => none
 | none => none
def cOp (P : Program) (N : Nat) : Op → Option AOp
 | .move x => match cOpd N x with | some x => some (.mv x) | none => none
 | .assign x => match cOpd N x with | some x => some (.mv x) | none => none
 | .pick c a b => match cOpd N c, cOpd N a, cOpd N b with | some c, some a, some b => some (.pick c a b) | _, _, _ => none
 | .alloc t => match cZero P t with | some z => if isBldIn P t = true then some (.allocT z t) else some (.alloc z) | none => none
 | .box t x => match cSize P t, cOpd N x with | some (n, _), some x => if isBldIn P t = true then some (.boxT x t n) else some (.box x) | _, _ => none
 | .build t parts => match cZero P t, P.underlying t with
  | some zero, some (.struct fs) => match parts.toList.mapM (cPart P N fs zero.length) with
   | some ps => if fs.toList.all (fun f => (P.info? f.type).isSome) then some (.build zero ps) else none
   | none => none
  | some zero, some (.array _ e) => match cSize P e with
   | some (n, _) => match parts.toList.mapM (cPartA N n zero.length) with
    | some ps => some (.build zero ps)
    | none => none
   | none => none
  | _, _ => none
 | .buildSlice t len parts => match cElem P t with
  | some (n, z, _) => if len * n ≤ 65536 then (match parts.toList.mapM (cPartE N len) with
   | some ps => some (.bslice len n z ps)
   | none => none) else none
  | none => none
 | .load t a => match cSize P t, cOpd N a with
  | some (n, agg), some a => some (.load a (if agg then some n else none))
  | _, _ => none
 | .store t a x => match cSize P t, cOpd N a, cOpd N x with
  | some (n, _), some a, some x => some (.store a x n)
  | _, _, _ => none
 | .binOp op t x y _ => match cOpd N x, cOpd N y with
  | some x, some y => if scalarOp op then some (.bin op x y) else (match P.underlying t with
   | some (.int _) | some .string => some (.bin op x y)
   | _ => match cEq P t with | some k => some (.eq (isNeq op) k x y) | none => match cFlat P t with | some n => some (.eqG (isNeq op) n x y) | none => none)
  | _, _ => none
 | .unOp op _ x => match cOpd N x with | some x => some (.un op x) | none => none
 | .convert s d x => match cOpd N x, P.underlying s, P.underlying d with
  | some x, some (.int _), some (.int k) => some (.convI k x)
  | some x, some .string, some .string => some (.convS x)
  | some x, some (.slice e), some .string => match P.underlying e with
   | some (.int .u8) => some (.b2s x)
   | _ => none
  | some x, some (.pointer t), some .unsafePointer => match P.info? t with
   | some j => if j.size = 0 then none else some (.cvU x)
   | none => none
  | some x, some .unsafePointer, some (.pointer u) => match P.info? u with
   | some _ => some (.cvP x (liesTbl P u))
   | none => none
  | _, _, _ => none
 | .field t x f => match cField P t f, cOpd N x with
  | some (f, n, agg), some x => some (.fld x f.offset (if agg then some n else none))
  | _, _ => none
 | .fieldAddr t x f => match cField P t f, cOpd N x with
  | some (f, n, _), some x => if 0 < n then some (.fldA x f.offset) else none
  | _, _ => none
 | .indexAddr t x i => match cOpd N x, cOpd N i, P.underlying t with
  | some x, some i, some (.array len e) => match cSize P e with
   | some (n, _) => if 1 < len then some (.idxA x i (some len) n) else none
   | none => none
  | some x, some i, some (.slice e) => match cSize P e with
   | some (n, _) => some (.idxA x i none n)
   | none => none
  | _, _, _ => none
 | .index t x i => match cOpd N x, cOpd N i, P.underlying t with
  | some x, some i, some (.array len e) => match cSize P e with
   | some (n, agg) => some (.idxG x i len n agg)
   | none => none
  | some x, some i, some .string => some (.idxS x i)
  | _, _, _ => none
 | .slice t x lo hi mx => match cOpd N x, cOpt N lo, cOpt N hi, cOpt N mx, P.underlying t with
  | some x, some lo, some hi, some none, some .string => some (.slcS x lo hi)
  | some x, some lo, some hi, some mx, some (.slice e) => match cSize P e with
   | some (n, _) => some (.slc x lo hi mx n)
   | none => none
  | some x, some lo, some hi, some none, some (.array n e) => match cSize P e with
   | some (s, _) => if 0 < s then some (.slcA x lo hi n s) else none
   | none => none
  | _, _, _, _, _ => none
 | .extract x i => match cOpd N x with | some x => some (.ext x i) | none => none
 | .nilCheck x => match cOpd N x, mthsOk P with | some x, true => some (.nilck x) | _, _ => none
 | .makeSlice t n c => match cOpd N n, cOpd N c, cElem P t with
  | some n, some c, some (_, z, bytes) => some (.mks n c z bytes)
  | _, _, _ => none
 | .makeFunc (.method n) first caps => if caps.isEmpty then (match cOpds N first with | some [x] => some (.mkm1 n x) | _ => none) else none
 | .makeFunc (.func f) first caps => if first.isEmpty then (match cOpds N caps with | some cs => some (.mkf f cs) | none => none) else if caps.isEmpty then (match cOpds N first with | some [x] => some (.mkb f x) | _ => none) else none
 | .call { callee := .value f, args, .. } => if isNoEsc P f = true then (match cOpds N args with
  | some [x] => some (.mv x)
  | _ => none) else match cOpd N f, cOpds N args with
  | some f, some xs => some (.call f xs)
  | _, _ => none
 | .call { callee := .invoke (.tmp i) name, args, .. } => if i < N then (match cOpds N args with
  | some xs => some (.call (.inv i (invTbl P name)) (.unw i :: xs))
  | none => none) else none
 | .call { callee := .builtin b, args, argTypes } => match cOpds N args with
  | some xs => cBuiltin P b argTypes xs
  | none => none
 | .makeMap _ none => some .mkm
 | .insert t m k x => match cKey P t, cOpd N m, cOpd N k, cOpd N x with
  | some (κ, _), some m, some k, some x => some (.mupd κ m k x)
  | _, _, _, _ => none
 | .mapUpdate t m k x => match cKey P t, cOpd N m, cOpd N k, cOpd N x with
  | some (κ, _), some m, some k, some x => some (.mupd κ m k x)
  | _, _, _, _ => none
 | .lookup t m k ok => match cKey P t, cOpd N m, cOpd N k with
  | some (κ, e), some m, some k => match cZeroV P e with
   | some z => some (.mget κ m k z ok)
   | none => none
  | _, _, _ => none
 | .panic _ => some .dead
 | .makeInterface ty x => match P.underlying ty, cOpd N x with
  | some (.pointer _), some x => some (.mki ty x)
  | _, _ => some .dead
 | _ => none
def cOper (P : Program) (N : Nat) (ops : Array Oper) (o : Oper) : Option AOper := do
 let g ← match o.guard with
  | none => pure none
  | some (j, b) => match (ops[j]?).bind (·.dst) with
   | some d => if d < N then pure (some (d, b)) else none
   | none => none
 let d ← match o.dst with
  | none => pure none
  | some d => if d < N then pure (some d) else none
 pure ⟨d, g, ← cOp P N o.op⟩
def depsOf (o : Oper) : List Nat := (o.after.toList.filter (Region.binds .any)).map (·.on)
def cDraw1 (P : Program) (N : Nat) (ops : Array Oper) (x : Oper × Nat) : Option (AOper × List Nat) :=
 match cOper P N ops x.1 with
 | some a => if (depsOf x.1).all (· < x.2) then some (a, depsOf x.1) else none
 | none => none
def cCode (P : Program) (N : Nat) : Code → Option AC
 | .skip => some .skip
 | .region _ ops false => match ops.toList.mapM (cOper P N ops) with
  | some l => some (.region l)
  | none => none
 | .region _ ops true => match ops.toList.zipIdx.mapM (cDraw1 P N ops) with
  | some l => some (.drawn l)
  | none => none
 | .seq a b => match cCode P N a, cCode P N b with
  | some a, some b => some (.seq a b)
  | _, _ => none
 | .cond c a b => match cOpd N c, cCode P N a, cCode P N b with
  | some c, some a, some b => some (.cond c a b)
  | _, _, _ => none
 | .block id c => match cCode P N c with
  | some c => some (.block id c)
  | none => none
 | .loop c => match cCode P N c with
  | some c => some (.loop c)
  | none => none
 | .exit id => some (.exit id)
 | .ret => some .ret
 | .rangeFunc f ps a b => match cOpd N f, cCode P N a, cCode P N b with
  | some f, some a, some b => if ps.toList.all (· < N) then some (.rangeF f ps.toList a b) else none
  | _, _, _ => none
 | .refuse _ => some .stop
 | _ => none
abbrev T := Nat → V
def upd (t : T) (i : Nat) (v : V) : T := fun j => if j = i then v else t j
def Opd.ev (t : T) : Opd → V
 | .t i => t i
 | .c v => v
 | .inv i tbl => match t i with
  | .ifc ty _ => (match tbl.lookup ty with | some f => .fn f [] | none => .bad)
  | _ => .bad
 | .unw i => match t i with
  | .ifc _ id => .ptr id 0
  | _ => .bad
def V.calls : V → List V → Option (FuncId × List V)
 | .fn f caps, as => some (f, as ++ caps)
 | .bnd f id, as => some (f, .ptr id 0 :: as)
 | _, _ => none
def V.cells : V → List V
 | .agg l => l
 | v => [v]
def V.celled : V → Bool
 | .agg l => V.ones l
 | v => v.one
mutual
def V.pure : V → Bool
 | .ptr .. | .ifc .. | .mth .. | .bnd .. | .eptr .. | .sl .. | .mp _ | .yld _ => false
 | .fn _ cap => V.pures cap
 | .agg l => V.pures l
 | .tup l => V.pures l
 | .bool _ | .int .. | .str _ | .nilp | .nils | .nilf | .nilm | .nili | .zs | .rptr .. | .vs .. | .any | .bad => true
def V.pures : List V → Bool
 | [] => true
 | v :: l => v.pure && V.pures l
end
def putAt (cs : List V) (off : Nat) (vs : List V) : List V := cs.take off ++ (vs ++ cs.drop (off + vs.length))
def fillAt (t : T) (cs : List V) : List (Nat × Nat × Opd) → Option (List V)
 | [] => some cs
 | (off, n, x) :: r =>
  let vs := (x.ev t).cells
  if (x.ev t).celled && vs.length == n then fillAt t (putAt cs off vs) r else none
def fillEl (t : T) (n : Nat) (cs : List (List V)) : List (Nat × Opd) → Option (List (List V))
 | [] => some cs
 | (i, x) :: r =>
  let vs := (x.ev t).cells
  if (x.ev t).celled && vs.length == n then fillEl t n (cs.set i vs) r else none
def readAt (cs : List V) (off : Nat) : Option Nat → Option V
 | none => cs[off]?
 | some n => if off + n ≤ cs.length then some (.agg ((cs.drop off).take n)) else none
def iAnd (k : IntKind) (a b : Int) : Int := k.wrap (BitVec.ofInt k.bits a &&& BitVec.ofInt k.bits b).toNat
def iOr (k : IntKind) (a b : Int) : Int := k.wrap (BitVec.ofInt k.bits a ||| BitVec.ofInt k.bits b).toNat
def iXor (k : IntKind) (a b : Int) : Int := k.wrap (BitVec.ofInt k.bits a ^^^ BitVec.ofInt k.bits b).toNat
def iAndNot (k : IntKind) (a b : Int) : Int := k.wrap (BitVec.ofInt k.bits a &&& ~~~ BitVec.ofInt k.bits b).toNat
def iShl (k : IntKind) (a b : Int) : Int := k.wrap (a * 2 ^ (min b.toNat k.bits))
def iShr (k : IntKind) (a b : Int) : Int := a.fdiv (2 ^ (min b.toNat k.bits))
def aBin (op : BinOp) : V → V → Option V
 | .int k a, .int k' b =>
  match op with
  | .shl => if 0 ≤ b then some (.int k (iShl k a b)) else none
  | .shr => if 0 ≤ b then some (.int k (iShr k a b)) else none
  | op =>
   if k = k' then
    match op with
    | .add => some (.int k (k.wrap (a + b)))
    | .sub => some (.int k (k.wrap (a - b)))
    | .mul => some (.int k (k.wrap (a * b)))
    | .quo => if b = 0 then none else some (.int k (k.wrap (a.tdiv b)))
    | .rem => if b = 0 then none else some (.int k (a.tmod b))
    | .and => some (.int k (iAnd k a b))
    | .or => some (.int k (iOr k a b))
    | .xor => some (.int k (iXor k a b))
    | .andNot => some (.int k (iAndNot k a b))
    | .eql => some (.bool (decide (a = b)))
    | .neq => some (.bool (!decide (a = b)))
    | .lss => some (.bool (decide (a < b)))
    | .leq => some (.bool (decide (a ≤ b)))
    | .gtr => some (.bool (decide (b < a)))
    | .geq => some (.bool (decide (b ≤ a)))
    | _ => none
   else none
 | .str a, .str b =>
  match op with
  | .add => if a.length + b.length ≤ 4611686018427387904 then some (.str (a ++ b)) else none
  | .eql => some (.bool (decide (a = b)))
  | .neq => some (.bool (!decide (a = b)))
  | .lss => some (.bool (Op.bytesLess a b))
  | .leq => some (.bool (Op.bytesLess a b || decide (a = b)))
  | .gtr => some (.bool (!(Op.bytesLess a b || decide (a = b))))
  | .geq => some (.bool (!Op.bytesLess a b))
  | _ => none
 | _, _ => none
def aEq (kind : Nat) : V → V → Option Bool
 | .bool a, .bool b => if kind = 0 then some (a == b) else none
 | .nilp, .nilp => if kind = 1 then some true else none
 | .ptr i a, .ptr j b => if kind = 1 ∧ i = j ∧ a = b then some true else none
 | .nilp, .ptr .. | .nilp, .rptr .. | .ptr .., .nilp | .rptr .., .nilp => if kind = 1 then some false else none
 | .nils, .nils => if kind = 2 then some true else none
 | .vs (_ :: _) _, .nils | .nils, .vs (_ :: _) _ => if kind = 2 then some false else none
 | .nilf, .nilf => if kind = 3 then some true else none
 | .nilf, .fn .. | .fn .., .nilf => if kind = 3 then some false else none
 | .nilm, .nilm => if kind = 4 then some true else none
 | .nilm, .mp _ | .mp _, .nilm => if kind = 4 then some false else none
 | _, _ => none
def eq1 : Nat → V → V → Option Bool
 | 1, .int k a, .int k' b => if k = k' then some (decide (a = b)) else none
 | 0, .bool a, .bool b => some (a == b)
 | 2, .str a, .str b => some (decide (a = b))
 | _, _, _ => none
def eqCells : List Nat → List V → List V → Option Bool
 | [], [], [] => some true
 | k :: ks, x :: xs, y :: ys => match eq1 k x y, eqCells ks xs ys with
  | some p, some q => some (p && q)
  | _, _ => none
 | _, _, _ => none
def aUn (op : UnOp) : V → Option V
 | .int k n => match op with
  | .neg => some (.int k (k.wrap (0 - n)))
  | .xor => some (.int k (k.wrap (BitVec.ofInt k.bits (if k.signed then -1 else k.max) ^^^ BitVec.ofInt k.bits n).toNat))
  | _ => none
 | .bool b => match op with
  | .not => some (.bool (!b))
  | _ => none
 | _ => none
def elemsOf (h : List O) (sz : Nat) : V → Option (List (List V))
 | .nils => some []
 | .vs e s => if s = sz then some e else none
 | .sl id off len s _ => if s = sz then (match h[id]? with
  | some (.arr e s') => if s' = sz ∧ off + len ≤ e.length then some ((e.drop off).take len) else none
  | _ => none) else none
 | _ => none
def byteEls (l : List UInt8) : List (List V) := l.map fun b => [.int .u8 b.toNat]
def srcOf (h : List O) (sz : Nat) (str : Bool) (v : V) : Option (List (List V)) :=
 match str, v with
 | true, .str l => some (byteEls l)
 | true, _ => none
 | false, v => elemsOf h sz v
def appendV (h : List O) (x y : V) (sz bytes : Nat) (str : Bool) : Option (V × List O) :=
 match srcOf h sz str y with
 | none => none
 | some es => match x with
  | .nils => if es.length * bytes ≤ 70368744177664 then some (.sl h.length 0 es.length sz none, h ++ [.arr es sz]) else none
  | .zs => if es.length * bytes ≤ 70368744177664 then some (.sl h.length 0 es.length sz none, h ++ [.arr es sz]) else none
  | .sl id off len s _ => if s = sz then (match h[id]? with
   | some (.arr old s') => if s' = sz ∧ off + len = old.length ∧ (len + es.length) * bytes ≤ 70368744177664 then
     some (.sl h.length 0 (len + es.length) sz none, h.set id .gone ++ [.arr (old.drop off ++ es) sz]) else none
   | _ => none) else none
  | _ => none
def appendG (h : List O) (x : V) (es : List (List V)) (sz bytes : Nat) : Option (V × List O) :=
 match x with
 | .nils => if 0 < es.length ∧ es.length * bytes ≤ 70368744177664 then some (.sl h.length 0 es.length sz none, h ++ [.arr es sz]) else none
 | .sl id off len s (some c) => if s = sz then (match h[id]? with
  | some (.arr old s') => if s' = sz ∧ off + len ≤ old.length ∧ c < len + es.length ∧ (len + es.length) * bytes ≤ 70368744177664 then
    some (.sl h.length 0 (len + es.length) sz none, h ++ [.arr ((old.drop off).take len ++ es) sz])
   else none
  | _ => none) else none
 | _ => none
def appendO (h : List O) (x : V) (es : List (List V)) (sz : Nat) : Option (V × List O) :=
 match x with
 | .sl id off len s (some c) => if s = sz then (match h[id]? with
  | some (.arr old s') => if s' = sz ∧ off + len + es.length ≤ old.length ∧ len + es.length ≤ c then
    some (.sl id off (len + es.length) sz (some c), h.set id (.arr (old.take (off + len) ++ (es ++ old.drop (off + len + es.length))) sz))
   else none
  | _ => none) else none
 | _ => none
def srcC (h : List O) (sz top : Nat) : V → Option (List (List V))
 | .vs es s => if s = sz then some (es.take top) else none
 | .sl id off len s _ => if s = sz then (match h[id]? with
  | some (.arr es s') => if s' = sz ∧ off + min len top ≤ es.length then some ((es.drop off).take (min len top)) else none
  | _ => none) else none
 | _ => none
def copyV (h : List O) (x y : V) (sz : Nat) : Option (V × List O) :=
 match x with
 | .sl id off len s _ => match h[id]? with
  | some (.arr es s') => match srcC h sz len y with
   | some src => if s = sz ∧ s' = sz ∧ off ≤ es.length then some (.int .i64 src.length, h.set id (.arr (es.take off ++ (src ++ es.drop (off + src.length))) sz)) else none
   | none => none
  | _ => none
 | _ => none
def bound1 (t : T) (top dflt : Nat) : Option Opd → Option Nat
 | none => some dflt
 | some x => match x.ev t with
  | .int _ n => if 0 ≤ n ∧ n ≤ top then some n.toNat else none
  | _ => none
def bounds (t : T) (len : Nat) (lo hi : Option Opd) : Option (Nat × Nat) :=
 match bound1 t len len hi with
 | none => none
 | some h => match bound1 t h 0 lo with
  | none => none
  | some l => some (l, h)
def boundsC (t : T) (top len : Nat) (lo hi : Option Opd) : Option (Nat × Nat) :=
 match bound1 t top len hi with
 | none => none
 | some h => match bound1 t h 0 lo with
  | none => none
  | some l => some (l, h)
def mmGo (mx : Bool) (k : IntKind) : Int → List V → Option Int
 | a, [] => some a
 | a, .int k' b :: r => if k = k' then mmGo mx k (if mx then (if a < b then b else a) else (if b < a then b else a)) r else none
 | _, _ => none
def aMM (mx : Bool) : List V → Option V
 | .int k a :: r => (mmGo mx k a r).map (.int k)
 | _ => none
def chunk (sz : Nat) : Nat → List V → List (List V)
 | 0, _ => []
 | n + 1, l => l.take sz :: chunk sz n (l.drop sz)
def hasTy (h : List O) (id : Nat) (ty : TypeId) : Bool := h.any fun o => match o with | .ty i t _ => i == id && t == ty | _ => false
def hasTyN (h : List O) (id : Nat) (ty : TypeId) (n : Nat) : Bool := h.any fun o => match o with | .ty i t k => i == id && t == ty && k == some n | _ => false
def okTy (h : List O) (ty : TypeId) : V → Bool
 | .nils | .zs => true
 | .sl id off _ _ _ => off == 0 && hasTy h id ty
 | _ => false
def clearV (h : List O) (zero : List V) : V → Option (V × List O)
 | .nils => some (.any, h)
 | .sl id off len s _ => match h[id]? with
  | some (.arr es s') => if s = zero.length ∧ s' = s ∧ off + len ≤ es.length then some (.any, h.set id (.arr (es.take off ++ (List.replicate len zero ++ es.drop (off + len))) s)) else none
  | _ => none
 | _ => none
def kEq : Nat → V → V → Option Bool
 | 0, .int k a, .int k' b => if k = k' then some (decide (a = b)) else none
 | 1, .str a, .str b => some (decide (a = b))
 | 2, .bool a, .bool b => some (a == b)
 | _, _, _ => none
def mFind (κ : Nat) (k : V) : List (V × V) → Nat → Option (Option Nat)
 | [], _ => some none
 | e :: es, i => match kEq κ k e.1 with
  | some true => some (some i)
  | some false => mFind κ k es (i + 1)
  | none => none
def opStep (t : T) (h : List O) : AOp → Option (V × List O)
 | .mv x => some (x.ev t, h)
 | .pick c a b => match c.ev t with
  | .bool v => some (if v = true then a.ev t else b.ev t, h)
  | _ => none
 | .alloc cells => some (.ptr h.length 0, h ++ [.row cells])
 | .box x => if (x.ev t).celled then some (.ptr h.length 0, h ++ [.row (x.ev t).cells]) else none
 | .build zero ps => match fillAt t zero ps with
  | some cs => some (.agg cs, h)
  | none => none
 | .bslice len sz zero ps => match fillEl t sz (List.replicate len zero) ps with
  | some es => if es.all V.pures then some (.sl h.length 0 len sz (some len), h ++ [.arr es sz]) else if sz = 1 then some (.sl h.length 0 len 1 (some len), h ++ [.row (es.map fun e => e.headD .bad)]) else none
  | none => none
 | .load x k => match x.ev t with
  | .ptr id off => match h[id]? with
   | some (.row cs) => match readAt cs off k with | some v => some (v, h) | none => none
   | _ => none
  | .eptr id i sz off => match h[id]? with
   | some (.arr es s) => if s = sz then (match es[i]? with
    | some cs => match readAt cs off k with | some v => some (v, h) | none => none
    | none => none) else none
   | some (.row cs) => match readAt cs (i * sz + off) k with | some v => some (v, h) | none => none
   | _ => none
  | .rptr cs off => match readAt cs off k with | some v => some (v, h) | none => none
  | _ => none
 | .store a x n =>
  let vs := (x.ev t).cells
  if (x.ev t).celled && vs.length == n then
   match a.ev t with
   | .ptr id off => match h[id]? with
    | some (.row cs) => if off + n ≤ cs.length then some (.any, h.set id (.row (putAt cs off vs))) else none
    | _ => none
   | .eptr id i sz off => match h[id]? with
    | some (.arr es s) => if s = sz ∧ V.pures vs then (match es[i]? with
     | some cs => if off + n ≤ cs.length then some (.any, h.set id (.arr (es.set i (putAt cs off vs)) sz)) else none
     | none => none) else none
    | _ => none
   | _ => none
  else none
 | .bin op x y => match aBin op (x.ev t) (y.ev t) with | some v => some (v, h) | none => none
 | .eq neg kind x y => match aEq kind (x.ev t) (y.ev t) with | some b => some (.bool (if neg = true then !b else b), h) | none => none
 | .eqG neg ks x y => match x.ev t, y.ev t with
  | .agg a, .agg b => match eqCells ks a b with | some r => some (.bool (if neg = true then !r else r), h) | none => none
  | _, _ => none
 | .un op x => match aUn op (x.ev t) with | some v => some (v, h) | none => none
 | .convI k x => match x.ev t with | .int _ n => some (.int k (k.wrap n), h) | _ => none
 | .convS x => match x.ev t with | .str l => some (.str l, h) | _ => none
 | .b2s x => match elemsOf h 1 (x.ev t) with
  | some es => match bytesOf es with | some l => some (.str l, h) | none => none
  | none => none
 | .fld x off k => match x.ev t with
  | .agg cs => match readAt cs off k with | some v => some (v, h) | none => none
  | _ => none
 | .fldA x off => match x.ev t with
  | .ptr id o => some (.ptr id (o + off), h)
  | .eptr id i sz o => some (.eptr id i sz (o + off), h)
  | .rptr cs o => some (.rptr cs (o + off), h)
  | _ => none
 | .idxA x i arr sz => match i.ev t with
  | .int _ n => match arr with
   | some len => if 0 ≤ n ∧ n < len then (match x.ev t with
    | .ptr id o => some (.ptr id (o + n.toNat * sz), h)
    | .eptr id j s o => some (.eptr id j s (o + n.toNat * sz), h)
    | .rptr cs o => some (.rptr cs (o + n.toNat * sz), h)
    | _ => none) else none
   | none => match x.ev t with
    | .vs es s => if s = sz ∧ 0 ≤ n then (match es[n.toNat]? with | some cs => some (.rptr cs 0, h) | none => none) else none
    | .sl id off len s _ => if s = sz ∧ 0 ≤ n ∧ n < len then some (.eptr id (off + n.toNat) sz 0, h) else none
    | _ => none
  | _ => none
 | .idxS x i => match i.ev t, x.ev t with
  | .int _ n, .str l => if 0 ≤ n then (match l[n.toNat]? with | some b => some (.int .u8 b.toNat, h) | none => none) else none
  | _, _ => none
 | .idxG x i len sz agg => match i.ev t, x.ev t with
  | .int _ n, .agg cs => if 0 ≤ n ∧ n < len then (match readAt cs (n.toNat * sz) (if agg then some sz else none) with | some v => some (v, h) | none => none) else none
  | _, _ => none
 | .slcS x lo hi => match x.ev t with
  | .str l => match bounds t l.length lo hi with
   | some (a, b) => some (.str ((l.take b).drop a), h)
   | none => none
  | _ => none
 | .slc x lo hi mx sz => match mx with
  | some m => match x.ev t, m.ev t with
   | .sl id off len s _, .int _ q => if s = sz ∧ 0 ≤ q ∧ q ≤ len ∧ hi.isSome = true then (match boundsC t q.toNat len lo hi with
    | some (a, b) => some (.sl id (off + a) (b - a) sz none, h)
    | none => none) else none
   | _, _ => none
  | none => match x.ev t with
   | .vs es s => if s = sz then (match bounds t es.length lo hi with
    | some (a, b) => some (.vs ((es.take b).drop a) sz, h)
    | none => none) else none
   | .sl id off len s k => if s = sz then (match boundsC t (k.getD len) len lo hi with
    | some (a, b) => some (.sl id (off + a) (b - a) sz (k.map (· - a)), h)
    | none => none) else none
   | .nils => match bounds t 0 lo hi with
    | some _ => some (.nils, h)
    | none => none
   | _ => none
 | .slcA x lo hi n sz => match x.ev t with
  | .ptr id 0 => match bounds t n lo hi with
   | some (a, b) => match h[id]? with
    | some (.row cs) => if cs.length = n * sz ∧ V.pures cs ∧ V.ones cs then some (.sl id a (b - a) sz (some (n - a)), h.set id (.arr (chunk sz n cs) sz)) else none
    | _ => none
   | none => none
  | _ => none
 | .lenS x => match x.ev t with
  | .str l => some (.int .i64 l.length, h)
  | _ => none
 | .lenL x => match x.ev t with
  | .vs es _ => some (.int .i64 es.length, h)
  | .sl _ _ n _ _ => some (.int .i64 n, h)
  | .nils => some (.int .i64 0, h)
  | _ => none
 | .append x y sz bytes str => match appendV h (x.ev t) (y.ev t) sz bytes str with
  | some r => some r
  | none => if str = true then none else match elemsOf h sz (y.ev t) with
   | some es => match appendG h (x.ev t) es sz bytes with
    | some r => some r
    | none => appendO h (x.ev t) es sz
   | none => none
 | .appendZ x y sz zero bytes => match y.ev t with
  | .int .i64 n => if 0 ≤ n ∧ n ≤ 70368744177664 then appendG h (x.ev t) (List.replicate n.toNat zero) sz bytes else none
  | _ => none
 | .capL x => match x.ev t with
  | .nils => some (.int .i64 0, h)
  | .sl _ _ _ _ (some c) => some (.int .i64 c, h)
  | _ => none
 | .copy x y sz => copyV h (x.ev t) (y.ev t) sz
 | .mks n c zero bytes => match n.ev t, c.ev t with
  | .int _ n, .int _ m => if 0 ≤ n ∧ n = m ∧ n * bytes ≤ 70368744177664 ∧ n ≤ 70368744177664 then
    some (.sl h.length 0 n.toNat zero.length (some n.toNat), h ++ [.arr (List.replicate n.toNat zero) zero.length]) else none
  | _, _ => none
 | .mkf f caps => some (.fn f (caps.map (Opd.ev t)), h)
 | .mki ty x => match x.ev t with
  | .ptr id 0 => some (.ifc ty id, h)
  | _ => none
 | .mkb f x => match x.ev t with
  | .ptr id 0 => some (.bnd f id, h)
  | _ => none
 | .mkm1 n x => match x.ev t with
  | .ifc ty id => some (.mth ty id n, h)
  | _ => none
 | .boxT x ty n => if (x.ev t).celled && (x.ev t).cells.length == n then some (.ptr h.length 0, h ++ [.row (x.ev t).cells] ++ [.ty h.length ty (some n)]) else none
 | .ext x i => match x.ev t with
  | .tup vs => match vs[i]? with | some v => some (v, h) | none => none
  | _ => none
 | .nilck x => match x.ev t with
  | .ptr id o => some (.ptr id o, h)
  | .eptr id i s o => some (.eptr id i s o, h)
  | .rptr c o => some (.rptr c o, h)
  | .fn f c => some (.fn f c, h)
  | .mth ty id n => if mths.contains (ty, n) = true then some (.mth ty id n, h) else none
  | _ => none
 | .mm mx xs => match aMM mx (xs.map (Opd.ev t)) with | some v => some (v, h) | none => none
 | .clear x zero => clearV h zero (x.ev t)
 | .allocT cells ty => some (.ptr h.length 0, h ++ [.row cells] ++ [.ty h.length ty (some cells.length)])
 | .cvU x => match x.ev t with
  | .ptr id o => match h[id]? with
   | some (.row cs) => if o < cs.length then some (.ptr id o, h) else none
   | _ => none
  | _ => none
 | .cvP x tbl => match x.ev t with
  | .ptr id 0 => match h[id]? with
   | some (.row _) => if tbl.any (fun e => hasTyN h id e.1 e.2) = true then some (.ptr id 0, h) else none
   | _ => none
  | _ => none
 | .appendB x y bytes ty => if okTy h ty (x.ev t) = true then (match appendV h (x.ev t) (y.ev t) 1 bytes true with
  | some (v, h') => some (v, h' ++ [.ty h.length ty none])
  | none => none) else none
 | .usd x => match x.ev t with
  | .sl id off len sz _ => if sz = 1 ∧ 0 < len then some (.ptr id off, h) else none
  | .nils => some (.nilp, h)
  | _ => none
 | .ustr x n ty => match x.ev t, n.ev t with
  | .ptr id 0, .int .i64 m => match h[id]? with
   | some (.arr es 1) => if hasTy h id ty = true ∧ 0 < m ∧ m ≤ 9223372036854775807 ∧ m.toNat ≤ es.length ∧ byteOk (es.take m.toNat) = true then (match bytesOf (es.take m.toNat) with
    | some l => some (.str l, h.set id .gone)
    | none => none) else none
   | _ => none
  | .nilp, .int .i64 m => if m = 0 then some (.str [], h) else none
  | _, _ => none
 | .mkm => some (.mp h.length, h ++ [.map []])
 | .mupd κ m k x => match m.ev t with
  | .mp id => match h[id]? with
   | some (.map es) => match mFind κ (k.ev t) es 0 with
    | some (some i) => some (.any, h.set id (.map (es.set i (k.ev t, x.ev t))))
    | some none => if (kEq κ (k.ev t) (k.ev t)).isSome = true then some (.any, h.set id (.map (es ++ [(k.ev t, x.ev t)]))) else none
    | none => none
   | _ => none
  | _ => none
 | .mget κ m k z ok => match m.ev t with
  | .mp id => match h[id]? with
   | some (.map es) => match mFind κ (k.ev t) es 0 with
    | some (some i) => (es[i]?).map fun e => (if ok then .tup [e.2, .bool true] else e.2, h)
    | some none => some (if ok then .tup [z, .bool false] else z, h)
    | none => none
   | _ => none
  | .nilm => some (if ok then .tup [z, .bool false] else z, h)
  | _ => none
 | .lenM x => match x.ev t with
  | .mp id => match h[id]? with
   | some (.map es) => some (.int .i64 es.length, h)
   | _ => none
  | .nilm => some (.int .i64 0, h)
  | _ => none
 | .mdel κ m k => match m.ev t with
  | .mp id => match h[id]? with
   | some (.map es) => match mFind κ (k.ev t) es 0 with
    | some (some i) => some (.tup [], h.set id (.map (es.eraseIdx i)))
    | some none => some (.tup [], h.set id (.map es))
    | none => none
   | _ => none
  | _ => none
 | .dead | .call .. => none
def put (t : T) (d : Option Nat) (v : V) : T :=
 match d with
 | none => t
 | some d => upd t d v
inductive AItem where
 | code (c : AC)
 | ops (l : List AOper)
 | endB (id : Nat)
 | inLoop (c : AC)
 | beginR
structure Cfg where
 k : List AItem
 t : T
 h : List O
def unwind (id : Nat) : List AItem → Option (List AItem)
 | .endB j :: k => if j = id then some k else unwind id k
 | _ :: k => unwind id k
 | [] => none
inductive Br where
 | one (c : Cfg)
 | ite (p : Bool) (a b : Br)
 | stop
def opBr (t : T) (h : List O) (d : Option Nat) (o : AOp) (l : List AOper) (k : List AItem) : Br :=
 match opStep t h o with
 | some (v, h') => .one ⟨.ops l :: k, put t d v, h'⟩
 | none => .stop
def step1 : Cfg → Br
 | ⟨.code .skip :: k, t, h⟩ => .one ⟨k, t, h⟩
 | ⟨.code (.seq a b) :: k, t, h⟩ => .one ⟨.code a :: .code b :: k, t, h⟩
 | ⟨.code (.region l) :: k, t, h⟩ => .one ⟨.ops l :: k, t, h⟩
 | ⟨.code (.block id c) :: k, t, h⟩ => .one ⟨.code c :: .endB id :: k, t, h⟩
 | ⟨.code (.exit id) :: k, t, h⟩ => match unwind id k with
  | some k' => .one ⟨k', t, h⟩
  | none => .stop
 | ⟨.code (.cond c a b) :: k, t, h⟩ => match c.ev t with
  | .bool v => .ite v (.one ⟨.code a :: k, t, h⟩) (.one ⟨.code b :: k, t, h⟩)
  | _ => .stop
 | ⟨.endB _ :: k, t, h⟩ => .one ⟨k, t, h⟩
 | ⟨.ops [] :: k, t, h⟩ => .one ⟨k, t, h⟩
 | ⟨.ops (⟨d, none, o⟩ :: l) :: k, t, h⟩ => opBr t h d o l k
 | ⟨.ops (⟨d, some (j, want), o⟩ :: l) :: k, t, h⟩ => match t j with
  | .bool v => .ite (v == want) (opBr t h d o l k) (.one ⟨.ops l :: k, put t d (.tup []), h⟩)
  | .tup [] => .one ⟨.ops l :: k, put t d (.tup []), h⟩
  | _ => .stop
 | _ => .stop
end Sx
namespace Sx
open Go
theorem live_append {h : List O} {o : O} {i : Nat} (hl : Live (h ++ [o]) i) : (i < h.length ∧ Live h i) ∨ (i = h.length ∧ o.live) := by
 obtain ⟨x, hx, hxl⟩ := hl
 rcases Nat.lt_trichotomy i h.length with h1 | h1 | h1
 ·left; exact ⟨h1, x, by rwa [List.getElem?_append_left h1] at hx, hxl⟩
 ·subst h1; simp at hx; subst hx; exact .inr ⟨rfl, hxl⟩
 ·rw [List.getElem?_eq_none (by simp; omega)] at hx; cases hx
theorem HRel.move {c : Ctx} {w w' : World} {h h' : List O} (hh : HRel c w h) (o : O) (p : Place)
  (hlen : h'.length = h.length)
  (hh' : ∀ (i : Nat) (x : O), h'[i]? = some x → x.live → h[i]? = some x)
  (hpl : p.null = false → (∀ i q, Live h' i → c.m i = some q → q.null = false → q.block ≠ p.block) ∧ c.ro p.block = none ∧ (Owns c h p.block ∨ w.heap.size ≤ p.block))
  (hsize : w.heap.size ≤ w'.heap.size)
  (hframe : ∀ b, b < w.heap.size → (p.null = false → b ≠ p.block) → w'.heap[b]? = w.heap[b]?)
  (hos : w'.os = w.os) (hout : w'.output = w.output) (htape : w'.tape = w.tape)
  (hr : ∀ m' : Pl, (∀ i q, c.m i = some q → m' i = some q) → ORel c.ro m' w' p o) :
  HRel ⟨fun i => if i = h.length then some p else c.m i, c.ro⟩ w' (h' ++ [o]) ∧ Adv c w h ⟨fun i => if i = h.length then some p else c.m i, c.ro⟩ w' (h' ++ [o]) := by
 have hext : ∀ i q, c.m i = some q → (if i = h.length then some p else c.m i) = some q := by
  intro i q hq
  have := hh.dom i q hq
  rw [if_neg (by omega)]; exact hq
 have hlive : ∀ i, Live h' i → Live h i := fun i ⟨x, hx, hl⟩ => ⟨x, hh' i x hx hl, hl⟩
 refine ⟨⟨?_, ?_, ?_, ?_, hh.glob⟩, ⟨hext, fun _ _ h => h, by simp [hlen], ?_, hsize, ?_, ?_, fun _ _ h => .inl h, hos, hout, htape⟩⟩
 ·intro b cs hb
  obtain ⟨e, fr, hw⟩ := hh.ro b cs hb
  refine ⟨e, fr, ?_⟩
  rw [hframe b (Array.getElem?_eq_some_iff.1 hw).1 fun hn he => ?_]
  ·exact hw
  ·subst he; have := (hpl hn).2.1; simp only at hb; rw [this] at hb; cases hb
 ·intro i q hq
  simp only at hq
  by_cases e : i = h.length
  ·simp [e, hlen]
  ·rw [if_neg e] at hq; have := hh.dom i q hq; simp [hlen]; omega
 ·intro i x hx hl
  rcases Nat.lt_trichotomy i h.length with h1 | h1 | h1
  ·rw [List.getElem?_append_left (by omega)] at hx
   have hx' := hh' i x hx hl
   obtain ⟨q, hq, hr', hro⟩ := hh.obj i x hx' hl
   refine ⟨q, hext i q hq, hr'.mono (fun _ _ h => h) hext fun hn => ?_, hro⟩
   refine hframe _ (hh.owns_lt ⟨i, q, ⟨x, hx', hl⟩, hq, hn, rfl⟩) fun hn' he => ?_
   exact (hpl hn').1 i q ⟨x, hx, hl⟩ hq hn he
  ·subst h1
   rw [← hlen] at hx
   simp at hx; subst hx
   exact ⟨p, by simp, hr _ hext, fun hn => (hpl hn).2.1⟩
  ·rw [List.getElem?_eq_none (by simp; omega)] at hx; cases hx
 ·intro i j q q' hi hj hq hq' hn hn' he
  rcases live_append hi with ⟨h1, hi⟩ | ⟨h1, _⟩ <;> rcases live_append hj with ⟨h2, hj⟩ | ⟨h2, _⟩
  ·simp only at hq hq'
   rw [if_neg (by omega)] at hq hq'
   exact hh.inj i j q q' (hlive _ hi) (hlive _ hj) hq hq' hn hn' he
  ·simp only at hq hq'
   rw [if_neg (by omega)] at hq
   rw [if_pos (by omega)] at hq'
   cases hq'
   exact absurd he ((hpl hn').1 i q hi hq hn)
  ·simp only at hq hq'
   rw [if_pos (by omega)] at hq
   rw [if_neg (by omega)] at hq'
   cases hq
   exact absurd he.symm ((hpl hn).1 j q' hj hq' hn')
  ·omega
 ·intro i hi hl
  rcases live_append hl with ⟨_, hl⟩ | ⟨h1, _⟩
  ·exact hlive i hl
  ·omega
 ·intro b hb hno
  refine hframe b hb fun hn he => ?_
  subst he
  rcases (hpl hn).2.2 with h1 | h1
  ·exact hno h1
  ·omega
 ·intro i q hq hn
  simp only at hq
  by_cases e : i = h.length
  ·rw [if_pos e] at hq; cases hq
   exact .inr (hpl hn).2.2
  ·rw [if_neg e] at hq; exact .inl hq
theorem HRel.grow {c : Ctx} {w w' : World} {h : List O} (hh : HRel c w h) (o : O) (p : Place)
  (hp : p.null = false → w.heap.size ≤ p.block) (hsize : w.heap.size ≤ w'.heap.size) (hframe : ∀ b, b < w.heap.size → w'.heap[b]? = w.heap[b]?)
  (hos : w'.os = w.os) (hout : w'.output = w.output) (htape : w'.tape = w.tape)
  (hr : ∀ m' : Pl, (∀ i q, c.m i = some q → m' i = some q) → ORel c.ro m' w' p o) :
  HRel ⟨fun i => if i = h.length then some p else c.m i, c.ro⟩ w' (h ++ [o]) ∧ Adv c w h ⟨fun i => if i = h.length then some p else c.m i, c.ro⟩ w' (h ++ [o]) := by
 refine hh.move o p rfl (fun _ _ h _ => h) (fun hn => ⟨fun i q hl hq hn' he => ?_, ?_, .inr (hp hn)⟩) hsize (fun b hb _ => hframe b hb) hos hout htape hr
 ·have := hh.owns_lt ⟨i, q, hl, hq, hn', he⟩
  have := hp hn
  omega
 ·cases hc : c.ro p.block with
  | none => rfl
  | some cs =>
   obtain ⟨e, fr, hw⟩ := hh.ro _ _ hc
   have := (Array.getElem?_eq_some_iff.1 hw).1
   have := hp hn
   omega
theorem HRel.change {c : Ctx} {w w' : World} {h : List O} (hh : HRel c w h) (id : Nat) (o o' : O) (p : Place) (hid : h[id]? = some o) (hl : o.live) (hp : c.m id = some p) (hpn : p.null = false)
  (hsize : w'.heap.size = w.heap.size) (hframe : ∀ b, b ≠ p.block → w'.heap[b]? = w.heap[b]?)
  (hos : w'.os = w.os) (hout : w'.output = w.output) (htape : w'.tape = w.tape) (hr : ORel c.ro c.m w' p o') :
  HRel c w' (h.set id o') ∧ Adv c w h c w' (h.set id o') := by
 have hlt : id < h.length := (List.getElem?_eq_some_iff.1 hid).1
 have hown : Owns c h p.block := ⟨id, p, ⟨o, hid, hl⟩, hp, hpn, rfl⟩
 have hrop : c.ro p.block = none := by
  obtain ⟨q, hq, _, h3⟩ := hh.obj id o hid hl
  rw [hp] at hq; cases hq; exact h3 hpn
 have hlive : ∀ i, Live (h.set id o') i → Live h i := by
  rintro i ⟨x, hx, hxl⟩
  by_cases e : i = id
  ·subst e; exact ⟨o, hid, hl⟩
  ·rw [List.getElem?_set_ne (Ne.symm e)] at hx; exact ⟨x, hx, hxl⟩
 refine ⟨⟨?_, ?_, ?_, ?_, hh.glob⟩, ⟨fun _ _ h => h, fun _ _ h => h, by simp, fun i _ => hlive i, by omega, ?_, fun _ _ h _ => .inl h, fun _ _ h => .inl h, hos, hout, htape⟩⟩
 ·intro b cs hb
  obtain ⟨e, fr, hw⟩ := hh.ro b cs hb
  refine ⟨e, fr, ?_⟩
  rw [hframe b fun he => ?_]
  ·exact hw
  ·subst he; rw [hrop] at hb; cases hb
 ·intro i q hq; simpa using hh.dom i q hq
 ·intro i x hx hxl
  by_cases e : i = id
  ·subst e
   rw [List.getElem?_set_self hlt] at hx
   cases hx
   exact ⟨p, hp, hr, fun _ => hrop⟩
  ·rw [List.getElem?_set_ne (Ne.symm e)] at hx
   obtain ⟨q, hq, hr', hro⟩ := hh.obj i x hx hxl
   refine ⟨q, hq, hr'.mono (fun _ _ h => h) (fun _ _ h => h) fun hn => hframe _ fun he => ?_, hro⟩
   exact e (hh.inj i id q p ⟨x, hx, hxl⟩ ⟨o, hid, hl⟩ hq hp hn hpn he)
 ·intro i j q q' hi hj hq hq' hn hn' he
  exact hh.inj i j q q' (hlive _ hi) (hlive _ hj) hq hq' hn hn' he
 ·intro b hb hno
  exact hframe b fun he => hno (he ▸ hown)
theorem setCells_heap : ∀ (vs : List Value) (w : World) (b o : Nat) (cc : Array Value) (e : TypeId) (fr : Nat × Nat), w.heap[b]? = some (.cells cc e fr) → o + vs.length ≤ cc.size →
  ∃ cc', (w.setCells b o vs).heap[b]? = some (.cells cc' e fr) ∧ cc'.size = cc.size ∧ (∀ i, i < cc.size → cc'[i]? = if o ≤ i ∧ i < o + vs.length then vs[i - o]? else cc[i]?)
 | [], w, b, o, cc, e, fr, hw, _ => ⟨cc, hw, rfl, fun i hi => by rw [if_neg (by simp)]⟩
 | v :: r, w, b, o, cc, e, fr, hw, hl => by
  have hb : b < w.heap.size := (Array.getElem?_eq_some_iff.1 hw).1
  have hw1 : (w.setCell ⟨b, o, none⟩ v).heap[b]? = some (.cells (cc.setIfInBounds o v) e fr) := by
   simp only [World.setCell, Array.getElem?_modify]
   simp [hw]
  obtain ⟨cc', h1, h2, h3⟩ := setCells_heap r (w.setCell ⟨b, o, none⟩ v) b (o + 1) _ e fr hw1 (by simp at hl ⊢; omega)
  refine ⟨cc', h1, by simpa using h2, fun i hi => ?_⟩
  rw [h3 i (by simpa using hi)]
  simp only [List.length_cons] at hl ⊢
  by_cases h4 : o + 1 ≤ i ∧ i < o + 1 + r.length
  ·rw [if_pos h4, if_pos (by omega), show i - o = (i - (o + 1)) + 1 from by omega, List.getElem?_cons_succ]
  ·rw [if_neg h4]
   by_cases h5 : i = o
   ·subst h5; rw [if_pos (by omega)]; simp [hi]
   ·rw [if_neg (by omega), Array.getElem?_setIfInBounds_ne (Ne.symm h5)]
theorem setCells_other : ∀ (vs : List Value) (w : World) (b o k : Nat), k ≠ b → (w.setCells b o vs).heap[k]? = w.heap[k]?
 | [], _, _, _, _, _ => rfl
 | v :: r, w, b, o, k, h => by
  rw [World.setCells, setCells_other r _ b (o + 1) k h]
  simp only [World.setCell, Array.getElem?_modify]
  rw [if_neg (Ne.symm h)]
theorem setCells_rest : ∀ (vs : List Value) (w : World) (b o : Nat), (w.setCells b o vs).heap.size = w.heap.size ∧ (w.setCells b o vs).os = w.os ∧ (w.setCells b o vs).output = w.output ∧ (w.setCells b o vs).tape = w.tape
 | [], _, _, _ => ⟨rfl, rfl, rfl, rfl⟩
 | v :: r, w, b, o => by
  obtain ⟨h1, h2, h3, h4⟩ := setCells_rest r (w.setCell ⟨b, o, none⟩ v) b (o + 1)
  exact ⟨by rw [World.setCells, h1]; simp [World.setCell], h2, h3, h4⟩
theorem cell_of_heap {w : World} {b i : Nat} {cc : Array Value} {e fr} (h : w.heap[b]? = some (.cells cc e fr)) : w.cell? ⟨b, i, none⟩ = cc[i]? := by
 simp [World.cell?, h]
theorem frozen_of_heap {w : World} {b i : Nat} {cc : Array Value} {e : TypeId} {fr : Nat × Nat} (h : w.heap[b]? = some (.cells cc e fr)) (hf : ¬ (fr.1 ≤ i ∧ i < fr.2)) : w.frozen? ⟨b, i, none⟩ = false := by
 obtain ⟨lo, hi⟩ := fr
 simp only at hf
 simp only [World.frozen?, h]
 simp; omega
end Sx
namespace Sx
open Go
structure TRel (N : Nat) (c : Ctx) (t : T) (a : Act) : Prop where
 size : a.tmps.size = N
 rel : ∀ i, VRel c.ro c.m (t i) (a.tmps.getD i undef)
theorem TRel.mono {N c c' t a} (h : TRel N c t a) (hm : ∀ i p, c.m i = some p → c'.m i = some p) (hr : ∀ b cs, c.ro b = some cs → c'.ro b = some cs) : TRel N c' t a :=
 ⟨h.size, fun i => (h.rel i).mono hr hm⟩
theorem TRel.put {N c t a} (h : TRel N c t a) (d : Option Nat) (hd : ∀ x, d = some x → x < N) {v : V} {cv : Value} (hv : VRel c.ro c.m v cv) : TRel N c (put t d v) (a.put d cv) := by
 cases d with
 | none => exact h
 | some d =>
  refine ⟨by simp [Act.put, h.size], fun i => ?_⟩
  have hdN := hd d rfl
  by_cases e : i = d
  ·subst e
   have : (i : Nat) < a.tmps.size := by rw [h.size]; exact hdN
   simp [Sx.put, upd, Act.put, this]; exact hv
  ·have := h.rel i
   simp only [Sx.put, upd, if_neg e, Act.put]
   rw [Array.getD_eq_getD_getElem?, Array.getElem?_setIfInBounds_ne (Ne.symm e), ← Array.getD_eq_getD_getElem?]
   exact this
theorem ofVal0_rel {ro m} {v : Value} {v' : V} (h : V.ofVal0 v = some v') : VRel ro m v' v := by
 unfold V.ofVal0 at h
 split at h <;> cases h
 ·exact .bool ..
 ·exact .int ..
 ·rename_i s; have := VRel.str (ro := ro) m s.data.toList; simpa using this
 ·exact .nilp ..
 ·exact .nils ..
 ·exact .nilf ..
 ·exact .nilm ..
theorem mapM_some {α β} (f : α → Option β) : ∀ (l : List α) (r : List β), l.mapM f = some r → l.length = r.length ∧ ∀ i (h : i < l.length) (h' : i < r.length), f l[i] = some r[i]
 | [], r, h => by simp at h; subst h; exact ⟨rfl, fun i h => by simp at h⟩
 | a :: l, r, h => by
  simp only [List.mapM_cons] at h
  cases ha : f a with
  | none => simp [ha] at h
  | some b =>
   cases hl : l.mapM f with
   | none => simp [ha, hl] at h
   | some s =>
    simp [ha, hl] at h
    subst h
    obtain ⟨h1, h2⟩ := mapM_some f l s hl
    refine ⟨by simp [h1], fun i hi hi' => ?_⟩
    cases i with
    | zero => simpa using ha
    | succ i => simpa using h2 i (by simpa using hi) (by simpa using hi')
theorem ofVal_rel {ro m} {v : Value} {v' : V} (h : V.ofVal v = some v') : VRel ro m v' v := by
 unfold V.ofVal at h
 split at h
 ·rename_i cs
  cases hm : cs.toList.mapM V.ofVal0 with
  | none => simp [hm] at h
  | some l =>
   simp [hm] at h; subst h
   obtain ⟨h1, h2⟩ := mapM_some _ _ _ hm
   refine .agg _ _ _ (by simpa using h1.symm) fun i a b => ?_
   have := h2 i (by simpa using b) a
   exact ofVal0_rel (by simpa using this)
 ·cases h; exact .any ..
 ·exact ofVal0_rel h
theorem opd_rel {N c t a} (h : TRel N c t a) {x : Operand} {x' : Opd} (hx : cOpd N x = some x') : VRel c.ro c.m (x'.ev t) (a.eval x) := by
 cases x with
 | tmp i =>
  simp only [cOpd] at hx
  split at hx <;> cases hx
  exact h.rel i
 | const v =>
  simp only [cOpd] at hx
  cases hv : V.ofVal v with
  | none => simp [hv] at hx
  | some u => simp [hv] at hx; subst hx; exact ofVal_rel hv
 | func f => simp only [cOpd] at hx; cases hx; exact .fn _ _ _ _ rfl fun i h => by simp at h
 | global g => simp [cOpd] at hx
theorem opds_rel {N c t a} (h : TRel N c t a) {xs : Array Operand} {xs' : List Opd} (hx : cOpds N xs = some xs') : VRels c.ro c.m (xs'.map (Opd.ev t)) (xs.map a.eval) := by
 obtain ⟨h1, h2⟩ := mapM_some _ _ _ hx
 refine ⟨by simp [← h1], fun i a b => ?_⟩
 have := opd_rel h (h2 i (by simpa using b) (by simpa using a))
 simpa using this
section inv
variable {ro : Ro} {m : Pl} {cv : Value}
theorem VRel.int_inv {k n} (h : VRel ro m (.int k n) cv) : cv = .int k n := by cases h; rfl
theorem VRel.bool_inv {b} (h : VRel ro m (.bool b) cv) : cv = .bool b := by cases h; rfl
theorem VRel.str_inv {l} (h : VRel ro m (.str l) cv) : cv = .string ⟨l.toArray⟩ := by cases h; rfl
theorem VRel.nilp_inv (h : VRel ro m .nilp cv) : cv = .pointer none := by cases h; rfl
theorem VRel.nils_inv (h : VRel ro m .nils cv) : cv = .slice none 0 0 := by cases h; rfl
theorem VRel.nilf_inv (h : VRel ro m .nilf cv) : cv = .nilFunc := by cases h; rfl
theorem VRel.nilm_inv (h : VRel ro m .nilm cv) : cv = .map none := by cases h; rfl
theorem VRel.mth_inv {t id n} (h : VRel ro m (.mth t id n) cv) : ∃ p, m id = some p ∧ p.null = false ∧ cv = .func (.method n) #[.iface t (.pointer (some ⟨p.block, p.base, none⟩))] #[] := by cases h; exact ⟨_, by assumption, by assumption, rfl⟩
theorem VRel.bnd_inv {f id} (h : VRel ro m (.bnd f id) cv) : ∃ p, m id = some p ∧ p.null = false ∧ cv = .func (.func f) #[.pointer (some ⟨p.block, p.base, none⟩)] #[] := by cases h; exact ⟨_, by assumption, by assumption, rfl⟩
theorem VRel.ifc_inv {t id} (h : VRel ro m (.ifc t id) cv) : ∃ p, m id = some p ∧ p.null = false ∧ cv = .iface t (.pointer (some ⟨p.block, p.base, none⟩)) := by cases h; exact ⟨_, by assumption, by assumption, rfl⟩
theorem VRel.zs_inv (h : VRel ro m .zs cv) : ∃ a, cv = .slice a 0 0 := by cases h; exact ⟨_, rfl⟩
theorem VRel.ptr_inv {id off} (h : VRel ro m (.ptr id off) cv) : ∃ p, m id = some p ∧ p.null = false ∧ cv = .pointer (some ⟨p.block, p.base + off, none⟩) := by cases h; exact ⟨_, by assumption, by assumption, rfl⟩
theorem VRel.eptr_inv {id i sz off} (h : VRel ro m (.eptr id i sz off) cv) : ∃ p, m id = some p ∧ p.null = false ∧ cv = .pointer (some ⟨p.block, p.base + i * sz + off, none⟩) := by cases h; exact ⟨_, by assumption, by assumption, rfl⟩
theorem VRel.rptr_inv {cells off} (h : VRel ro m (.rptr cells off) cv) : ∃ (b o : Nat) (cs : Array Value) (f : Nat → Value), ro b = some cs ∧ (∀ i, i < cells.length → cs[o + i]? = some (f i)) ∧ (∀ i (h : i < cells.length), VRel ro Pl.none cells[i] (f i)) ∧ cv = .pointer (some ⟨b, o + off, none⟩) := by
 cases h; exact ⟨_, _, _, _, by assumption, by assumption, by assumption, rfl⟩
theorem VRel.sl_inv {id off len sz k} (h : VRel ro m (.sl id off len sz k) cv) :
  (∃ p cap o, m id = some p ∧ p.null = false ∧ len ≤ cap ∧ (o = p.base + off * sz ∨ cap = 0) ∧ (0 < cap → p.base + off * sz + cap * sz ≤ p.top) ∧ (∀ x, k = some x → x = cap) ∧ cv = .slice (some ⟨p.block, o, none⟩) len cap) ∨
  (∃ p a, m id = some p ∧ p.null = true ∧ off = 0 ∧ len = 0 ∧ k = none ∧ cv = .slice a 0 0) := by
 cases h
 ·exact .inl ⟨_, _, _, by assumption, by assumption, by assumption, by assumption, by assumption, by assumption, rfl⟩
 ·exact .inr ⟨_, _, by assumption, by assumption, rfl, rfl, rfl, rfl⟩
theorem VRel.vs_inv {elems sz} (h : VRel ro m (.vs elems sz) cv) :
  (∃ (b o cap : Nat) (cs : Array Value) (f : Nat → Nat → Value), ro b = some cs ∧ elems.length ≤ cap ∧ (∀ i (h : i < elems.length), elems[i].length = sz) ∧ (∀ e ∈ elems, V.ones e = true) ∧ (∀ i j, i < elems.length → j < sz → cs[o + i * sz + j]? = some (f i j)) ∧
   (∀ i (h : i < elems.length) j (h' : j < elems[i].length), VRel ro Pl.none elems[i][j] (f i j)) ∧ cv = .slice (some ⟨b, o, none⟩) elems.length cap) ∨
  (∃ a, elems = [] ∧ cv = .slice a 0 0) := by
 cases h
 ·exact .inl ⟨_, _, _, _, _, by assumption, by assumption, by assumption, by assumption, by assumption, by assumption, rfl⟩
 ·exact .inr ⟨_, rfl, rfl⟩
theorem VRel.agg_inv {cells} (h : VRel ro m (.agg cells) cv) : ∃ cs, cv = .agg cs ∧ VRels ro m cells cs := by cases h; exact ⟨_, rfl, by assumption, by assumption⟩
theorem VRel.tup_inv {cells} (h : VRel ro m (.tup cells) cv) : ∃ cs, cv = .tuple cs ∧ VRels ro m cells cs := by cases h; exact ⟨_, rfl, by assumption, by assumption⟩
theorem VRel.fn_inv {f cap} (h : VRel ro m (.fn f cap) cv) : ∃ cs, cv = .func (.func f) #[] cs ∧ VRels ro m cap cs := by cases h; exact ⟨_, rfl, by assumption, by assumption⟩
end inv
theorem V.ones_mem : ∀ {l : List V}, V.ones l = true → ∀ v ∈ l, v.one = true
 | a :: l, h, v, hv => by
  simp only [V.ones, Bool.and_eq_true] at h
  rcases List.mem_cons.1 hv with rfl | hv
  ·exact h.1
  ·exact V.ones_mem h.2 v hv
theorem one_oneCell {ro m v cv} (h : VRel ro m v cv) (h1 : v.one = true) : cv.oneCell' = true := by
 cases h <;> first | rfl | (simp [V.one] at h1; done)
theorem cells_rel {ro m v cv} (h : VRel ro m v cv) (h1 : v.celled = true) : VRels ro m v.cells cv.cells ∧ ∀ u ∈ cv.cells.toList, u.oneCell' = true := by
  by_cases ha : ∃ l, v = .agg l
  · obtain ⟨l, rfl⟩ := ha
    obtain ⟨cs, rfl, hr⟩ := h.agg_inv
    refine ⟨hr, fun u hu => ?_⟩
    simp only [Value.cells] at hu
    obtain ⟨i, hi, rfl⟩ := List.getElem_of_mem hu
    have hi' : i < cs.size := by simpa using hi
    have := hr.2 i (by rw [hr.1]; exact hi') hi'
    exact one_oneCell (by simpa using this) (V.ones_mem h1 _ (List.getElem_mem _))
  · have e1 : v.cells = [v] := by unfold V.cells; split; · exact absurd ⟨_, rfl⟩ ha
                                  · rfl
    have h1' : v.one = true := by
      unfold V.celled at h1; split at h1
      · exact absurd ⟨_, rfl⟩ ha
      · exact h1
    have h2 := one_oneCell h h1'
    have e2 : cv.cells = #[cv] := by cases cv <;> first | rfl | (simp [Value.oneCell'] at h2; done)
    rw [e1, e2]
    exact ⟨⟨rfl, fun i a b => by simp at a; subst a; exact h⟩, by simpa using h2⟩
mutual
theorem pure_rel {ro m} : ∀ {v : V} {cv : Value}, v.pure = true → VRel ro m v cv → VRel ro Pl.none v cv
 | .bool _, _, _, h => by cases h; exact .bool ..
 | .int .., _, _, h => by cases h; exact .int ..
 | .str _, _, _, h => by cases h; exact .str ..
 | .nilp, _, _, h => by cases h; exact .nilp ..
 | .nils, _, _, h => by cases h; exact .nils ..
 | .nilf, _, _, h => by cases h; exact .nilf ..
 | .nilm, _, _, h => by cases h; exact .nilm ..
 | .nili, _, _, h => by cases h; exact .nili ..
 | .zs, _, _, h => by cases h; exact .zs ..
 | .rptr .., _, _, h => by obtain ⟨b, o, cs, f, h1, h2, h3, rfl⟩ := h.rptr_inv; exact .rptr _ _ _ b o cs f h1 h2 h3
 | .vs .., _, _, h => by
  rcases h.vs_inv with ⟨b, o, cap, cs, f, h1, h2, h3, h6, h4, h5, rfl⟩ | ⟨a, rfl, rfl⟩
  ·exact .vs _ _ _ b o cap cs f h1 h2 h3 h6 h4 h5
  ·exact .vsnil ..
 | .any, _, _, _ => .any ..
 | .bad, _, _, h => by cases h
 | .fn f cap, _, hp, h => by
  obtain ⟨cs, rfl, h1, h2⟩ := h.fn_inv
  exact .fn _ _ _ _ h1 fun i a b => pures_rel hp (fun i a b => h2 i a b) i a b
 | .agg l, _, hp, h => by
  obtain ⟨cs, rfl, h1, h2⟩ := h.agg_inv
  exact .agg _ _ _ h1 fun i a b => pures_rel hp (fun i a b => h2 i a b) i a b
 | .tup l, _, hp, h => by
  obtain ⟨cs, rfl, h1, h2⟩ := h.tup_inv
  exact .tup _ _ _ h1 fun i a b => pures_rel hp (fun i a b => h2 i a b) i a b
 | .ptr .., _, hp, _ => by simp [V.pure] at hp
 | .ifc .., _, hp, _ => by simp [V.pure] at hp
 | .mth .., _, hp, _ => by simp [V.pure] at hp
 | .bnd .., _, hp, _ => by simp [V.pure] at hp
 | .eptr .., _, hp, _ => by simp [V.pure] at hp
 | .sl .., _, hp, _ => by simp [V.pure] at hp
 | .mp _, _, hp, _ => by simp [V.pure] at hp
 | .yld _, _, hp, _ => by simp [V.pure] at hp
theorem pures_rel {ro m} : ∀ {l : List V} {cs : Array Value}, V.pures l = true → (∀ i (h : i < l.length) (h' : i < cs.size), VRel ro m l[i] cs[i]) → ∀ i (h : i < l.length) (h' : i < cs.size), VRel ro Pl.none l[i] cs[i]
 | v :: l, cs, hp, hv, 0, h, h' => by
  simp only [V.pures, Bool.and_eq_true] at hp
  exact pure_rel hp.1 (hv 0 h h')
 | v :: l, cs, hp, hv, i + 1, h, h' => by
  simp only [V.pures, Bool.and_eq_true] at hp
  have := pures_rel (l := l) (cs := cs.extract 1 cs.size) hp.2 (fun j a b => by
   have := hv (j + 1) (by simpa using a) (by simp at b; omega)
   simpa [Array.getElem_extract, Nat.add_comm] using this) i (by simpa using h) (by simp; omega)
  simpa [Array.getElem_extract, Nat.add_comm] using this
end
def Ok (P : Program) (c : Ctx) (w : World) (h : List O) (s : Sem Value) (v : V) (h' : List O) : Prop :=
 ∃ cv w' c', s.run P w = .ok cv w' ∧ VRel c'.ro c'.m v cv ∧ HRel c' w' h' ∧ Adv c w h c' w' h'
theorem Ok.of_same {P c w h s v cv} (hh : HRel c w h) (hs : s.run P w = .ok cv w) (hv : VRel c.ro c.m v cv) : Ok P c w h s v h := ⟨cv, w, c, hs, hv, hh, Adv.refl ..⟩
theorem cSize_agg {P t n} (h : cSize P t = some (n, true)) : ∃ d i, P.underlying t = some d ∧ d.isRow = true ∧ P.info? t = some i ∧ i.size = n := by
 unfold cSize at h
 split at h <;> first | (cases h; exact ⟨_, _, by assumption, rfl, by assumption, rfl⟩) | (split at h <;> cases h) | cases h
theorem cSize_one {P t n} (h : cSize P t = some (n, false)) : n = 1 ∧ ∃ d i, P.underlying t = some d ∧ d.isRow = false ∧ P.info? t = some i ∧ i.size = 1 := by
 unfold cSize at h
 split at h
 ·cases h
 ·cases h
 ·rename_i i d hs ha hi hd
  split at h
  ·cases h
   refine ⟨rfl, d, i, hd, ?_, hi, by assumption⟩
   cases d <;> first | rfl | (exact absurd rfl (hs _)) | (exact absurd rfl (ha _ _))
  ·cases h
 ·cases h
theorem cSize_size {P t n b} (h : cSize P t = some (n, b)) : ∃ d i, P.underlying t = some d ∧ P.info? t = some i ∧ i.size = n := by
 cases b
 ·obtain ⟨rfl, d, i, h1, _, h2, h3⟩ := cSize_one h; exact ⟨d, i, h1, h2, h3⟩
 ·obtain ⟨d, i, h1, _, h2, h3⟩ := cSize_agg h; exact ⟨d, i, h1, h2, h3⟩
theorem read_sound {P : Program} {w : World} {ro : Ro} {m : Pl} {b o : Nat} {cs : List V} (f : ∀ i (h : i < cs.length), ∃ x, w.cell? ⟨b, o + i, none⟩ = some x ∧ VRel ro m cs[i] x)
  {t : TypeId} {n : Nat} {agg : Bool} (hk : cSize P t = some (n, agg)) {off : Nat} {v : V} (hr : readAt cs off (if agg then some n else none) = some v) :
  ∃ cv, (Instr.loadAt t (.pointer (some ⟨b, o + off, none⟩))).run P w = .ok cv w ∧ VRel ro m v cv := by
 cases agg with
 | false =>
  obtain ⟨_, d, i, hu, hd, hi, hs⟩ := cSize_one hk
  simp [readAt] at hr
  obtain ⟨hlt, rfl⟩ := List.getElem?_eq_some_iff.1 hr
  obtain ⟨x, hx, hv⟩ := f off hlt
  refine ⟨x, ?_, hv⟩
  have hagg : (isAgg t).run P w = .ok false w := by
   unfold isAgg
   rw [Sem.run_bind, run_underlying hu w]
   cases d <;> first | rfl | (simp [TypeDesc.isRow] at hd; done)
  simp only [Instr.loadAt, Instr.sureAddr, loadVar, Sem.run_bind, Sem.run_pure, Result.andThen_ok, hagg]
  simp [hx]
 | true =>
  obtain ⟨d, i, hu, hd, hi, hs⟩ := cSize_agg hk
  simp [readAt] at hr
  obtain ⟨hle, rfl⟩ := hr
  let g : Nat → Value := fun j => (w.cell? ⟨b, o + off + j, none⟩).getD undef
  have hg : ∀ j, j < n → w.cell? ⟨b, o + off + j, none⟩ = some (g j) := by
   intro j hj
   obtain ⟨x, hx, _⟩ := f (off + j) (by omega)
   rw [← Nat.add_assoc] at hx
   simp [g, hx]
  refine ⟨.agg ((List.range n).map g).toArray, ?_, ?_⟩
  ·refine run_loadAt_mid w b (o + off) t _ d (fun j v hj => ?_) hu hd (by simp [hi, hs])
   simp only [List.getElem?_map] at hj
   rcases Nat.lt_or_ge j n with h1 | h1
   ·rw [List.getElem?_range h1] at hj; simp at hj; rw [← hj]; exact hg j h1
   ·rw [List.getElem?_eq_none (by simp; exact h1)] at hj; simp at hj
  ·refine .agg _ _ _ (by simp; omega) fun j a b' => ?_
   have hj : j < n := by simp at b'; exact b'
   obtain ⟨x, hx, hv⟩ := f (off + j) (by omega)
   rw [← Nat.add_assoc] at hx
   have := hg j hj
   rw [hx] at this
   have : x = g j := by simpa using this
   subst this
   simpa using hv
end Sx
namespace Sx
open Go
theorem putAt_length {cs vs : List V} {off : Nat} (h : off + vs.length ≤ cs.length) : (putAt cs off vs).length = cs.length := by
 simp [putAt]; omega
theorem putAt_get {cs vs : List V} {off : Nat} (h : off + vs.length ≤ cs.length) (i : Nat) : (putAt cs off vs)[i]? = if off ≤ i ∧ i < off + vs.length then vs[i - off]? else cs[i]? := by
 unfold putAt
 by_cases h1 : i < off
 ·rw [List.getElem?_append_left (by simp; omega), if_neg (by omega), List.getElem?_take, if_pos h1]
 ·rw [List.getElem?_append_right (by simp; omega)]
  simp only [List.length_take, show min off cs.length = off from by omega]
  by_cases h2 : i < off + vs.length
  ·rw [List.getElem?_append_left (by omega), if_pos (by omega)]
  ·rw [List.getElem?_append_right (by omega), if_neg (by omega), List.getElem?_drop]
   congr 1; omega
theorem VRels.putAt {ro m} {cs vs : List V} {ccs cvs r : Array Value} (h : VRels ro m cs ccs) (hv : VRels ro m vs cvs) {off : Nat} (hl : off + vs.length ≤ cs.length)
  (hr : r.size = ccs.size) (hg : ∀ i, i < ccs.size → r[i]? = if off ≤ i ∧ i < off + cvs.size then cvs[i - off]? else ccs[i]?) : VRels ro m (Sx.putAt cs off vs) r := by
 refine ⟨by rw [putAt_length hl, h.1, hr], fun i a b => ?_⟩
 have h1 := putAt_get hl i
 have h2 := hg i (by omega)
 rw [List.getElem?_eq_getElem a] at h1
 rw [Array.getElem?_eq_getElem b] at h2
 have hvl := hv.1
 by_cases hc : off ≤ i ∧ i < off + vs.length
 ·rw [if_pos hc] at h1
  rw [if_pos (by omega)] at h2
  rw [List.getElem?_eq_getElem (by omega)] at h1
  rw [Array.getElem?_eq_getElem (by omega)] at h2
  have e1 : (Sx.putAt cs off vs)[i] = vs[i - off] := by simpa using h1
  have e2 : r[i] = cvs[i - off] := by simpa using h2
  rw [e1, e2]; exact hv.2 _ _ _
 ·rw [if_neg hc] at h1
  rw [if_neg (by omega)] at h2
  have hi : i < cs.length := by rw [putAt_length hl] at a; exact a
  rw [List.getElem?_eq_getElem hi] at h1
  rw [Array.getElem?_eq_getElem (by rw [← h.1]; exact hi)] at h2
  have e1 : (Sx.putAt cs off vs)[i] = cs[i] := by simpa using h1
  have e2 : r[i] = ccs[i]'(by rw [← h.1]; exact hi) := by simpa using h2
  rw [e1, e2]; exact h.2 _ _ _
theorem fold_set (off : Nat) : ∀ (l : List Value) (k : Nat) (a : Array Value), off + k + l.length ≤ a.size →
  (((l.zipIdx k).foldl (fun cs (x : Value × Nat) => cs.setIfInBounds (off + x.2) x.1) a).size = a.size) ∧
  ∀ i, i < a.size → ((l.zipIdx k).foldl (fun cs (x : Value × Nat) => cs.setIfInBounds (off + x.2) x.1) a)[i]? = if off + k ≤ i ∧ i < off + k + l.length then l[i - (off + k)]? else a[i]?
 | [], k, a, _ => ⟨rfl, fun i hi => by rw [if_neg (by simp)]; rfl⟩
 | v :: l, k, a, h => by
  simp only [List.zipIdx_cons, List.foldl_cons]
  simp only [List.length_cons] at h
  obtain ⟨h1, h2⟩ := fold_set off l (k + 1) (a.setIfInBounds (off + k) v) (by simp; omega)
  refine ⟨by rw [h1]; simp, fun i hi => ?_⟩
  rw [h2 i (by simpa using hi)]
  simp only [List.length_cons]
  by_cases hc : off + (k + 1) ≤ i ∧ i < off + (k + 1) + l.length
  ·rw [if_pos hc, if_pos (by omega), show i - (off + k) = (i - (off + (k + 1))) + 1 from by omega, List.getElem?_cons_succ]
  ·rw [if_neg hc]
   by_cases e : i = off + k
   ·subst e; rw [if_pos (by omega)]; simp [hi]
   ·rw [if_neg (by omega), Array.getElem?_setIfInBounds_ne (Ne.symm e)]
theorem fold_set0 (off : Nat) (cvs a : Array Value) (h : off + cvs.size ≤ a.size) :
  (cvs.zipIdx.foldl (fun cs (x : Value × Nat) => cs.setIfInBounds (off + x.2) x.1) a).size = a.size ∧
  ∀ i, i < a.size → (cvs.zipIdx.foldl (fun cs (x : Value × Nat) => cs.setIfInBounds (off + x.2) x.1) a)[i]? = if off ≤ i ∧ i < off + cvs.size then cvs[i - off]? else a[i]? := by
 have e : cvs.zipIdx.foldl (fun cs (x : Value × Nat) => cs.setIfInBounds (off + x.2) x.1) a = (cvs.toList.zipIdx 0).foldl (fun cs (x : Value × Nat) => cs.setIfInBounds (off + x.2) x.1) a := by
  rw [← Array.foldl_toList, Array.toList_zipIdx]
 rw [e]
 simpa using fold_set off cvs.toList 0 a (by simpa using h)
theorem fill_sound {N c t a} (ht : TRel N c t a) (place : Nat → Option (Nat × Nat)) : ∀ (parts : List (Nat × Operand)) (ps : List (Nat × Nat × Opd)) (cs : List V) (ccs : Array Value) (r : List V),
  parts.length = ps.length → (∀ i (h : i < parts.length) (h' : i < ps.length), place parts[i].1 = some (ps[i].1, ps[i].2.1) ∧ cOpd N parts[i].2 = some ps[i].2.2 ∧ ps[i].1 + ps[i].2.1 ≤ cs.length) →
  VRels c.ro c.m cs ccs → fillAt t cs ps = some r →
  ∃ cr, Instr.fill place ccs (parts.map fun p => (p.1, a.eval p.2)) = some cr ∧ VRels c.ro c.m r cr
 | [], ps, cs, ccs, r, hl, _, hr, hf => by
  cases ps with
  | nil => simp [fillAt] at hf; subst hf; exact ⟨ccs, rfl, hr⟩
  | cons => simp at hl
 | (i, x) :: parts, [], cs, ccs, r, hl, _, _, _ => by simp at hl
 | (i, x) :: parts, (off, n, y) :: ps, cs, ccs, r, hl, hp, hr, hf => by
  obtain ⟨h1, h2, h3⟩ := hp 0 (by simp) (by simp)
  simp only [List.getElem_cons_zero] at h1 h2 h3
  simp only [fillAt] at hf
  split at hf
  case isFalse => cases hf
  case isTrue hc =>
   simp only [Bool.and_eq_true, beq_iff_eq] at hc
   have hv := opd_rel ht h2
   obtain ⟨hcr, _⟩ := cells_rel hv hc.1
   have hsz : (a.eval x).cells.size = n := by rw [← hcr.1, hc.2]
   have hle : off + (y.ev t).cells.length ≤ cs.length := by rw [hc.2]; exact h3
   obtain ⟨f1, f2⟩ := fold_set0 off (a.eval x).cells ccs (by rw [← hr.1, hsz]; exact h3)
   have hnew := hr.putAt hcr hle f1 f2
   obtain ⟨cr, g1, g2⟩ := fill_sound ht place parts ps _ _ r (by simpa using hl) (fun j a b => by
    have := hp (j + 1) (by simpa using a) (by simpa using b)
    simp only [List.getElem_cons_succ] at this
    rw [putAt_length hle]; exact this) hnew hf
   refine ⟨cr, ?_, g2⟩
   simp only [List.map_cons, Instr.fill, h1]
   rw [if_neg (by rw [hsz]; simp; rw [← hr.1]; omega)]
   exact g1
theorem newRow_ok {P : Program} {c w h} (hh : HRel c w h) (e : TypeId) (cc : Array Value) (o : O) (ho : ∀ m' : Pl, (∀ i q, c.m i = some q → m' i = some q) → ∀ w' : World, w'.heap[w.heap.size]? = some (.cells cc e) → ORel c.ro m' w' ⟨w.heap.size, 0, cc.size, false, e⟩ o) :
  ∃ w' c', (newRow e cc).run P w = .ok ⟨w.heap.size, 0, none⟩ w' ∧ c'.m h.length = some ⟨w.heap.size, 0, cc.size, false, e⟩ ∧ HRel c' w' (h ++ [o]) ∧ Adv c w h c' w' (h ++ [o]) := by
 obtain ⟨h1, h2⟩ := hh.grow (w' := { w with heap := w.heap.push (.cells cc e) }) o ⟨w.heap.size, 0, cc.size, false, e⟩ (fun _ => Nat.le_refl _) (by simp) (fun b hb => by
  simp only [Array.getElem?_push]; rw [if_neg (by omega)]) rfl rfl rfl (fun m' hm => ho m' hm _ (by simp))
 exact ⟨_, _, rfl, by simp, h1, h2⟩
theorem row_of_cells {c : Ctx} {cells : List V} {cc : Array Value} (hr : VRels c.ro c.m cells cc) (e : TypeId) (b : Nat) (m' : Pl) (hm : ∀ i q, c.m i = some q → m' i = some q) (w' : World)
  (hw : w'.heap[b]? = some (.cells cc e)) : ORel c.ro m' w' ⟨b, 0, cc.size, false, e⟩ (.row cells) := by
 refine ⟨cc, ⟨rfl, rfl, Nat.zero_le _, ⟨e, rfl⟩, (0, 0), hw, fun i _ => by simp⟩, by simp [hr.1], fun i a b' => ?_⟩
 have := (hr.2 i a (by simpa using b')).mono (fun _ _ h => h) hm
 simpa using this
theorem sound_box {P : Program} {c w h} (hh : HRel c w h) (e : TypeId) {v : V} {cv : Value} (hv : VRel c.ro c.m v cv) (hc : v.celled = true) :
  Ok P c w h (Instr.box e cv) (.ptr h.length 0) (h ++ [.row v.cells]) := by
 obtain ⟨hr, _⟩ := cells_rel hv hc
 obtain ⟨w', c', h1, h2, h3, h4⟩ := newRow_ok (P := P) hh e cv.cells (.row v.cells) (fun m' hm w' hw => row_of_cells hr e _ m' hm w' hw)
 refine ⟨.pointer (some ⟨w.heap.size, 0, none⟩), w', c', ?_, ?_, h3, h4⟩
 ·simp only [Instr.box, newVar, Sem.run_bind, h1, Result.andThen_ok]; rfl
 ·exact .ptr _ _ _ ⟨w.heap.size, 0, cv.cells.size, false, e⟩ h2 rfl
theorem cZero_spec {P t l} (h : cZero P t = some l) : ∃ i z, P.info? t = some i ∧ i.zero = some z ∧ z.cells.size = i.size ∧ l.length = i.size ∧ (∀ ro m, VRels ro m l z.cells) := by
 unfold cZero at h
 split at h
 case h_2 => cases h
 case h_1 i hi =>
  split at h
  case h_2 => cases h
  case h_1 z hz =>
   simp only at h
   split at h
   case isFalse => cases h
   case isTrue hl =>
    obtain ⟨h1, h2⟩ := mapM_some _ _ _ h
    refine ⟨i, z, hi, hz, by simpa using hl, by rw [← h1]; exact hl, fun ro m => ⟨by simpa using h1.symm, fun j a b => ?_⟩⟩
    have := h2 j (by simpa using b) a
    rw [Array.getElem_toList] at this
    exact ofVal0_rel this
theorem run_zeroValue {P : Program} {t i z} (hi : P.info? t = some i) (hz : i.zero = some z) (w : World) : (zeroValue t).run P w = .ok z w := by
 simp [zeroValue, typeInfo, hi, hz]
theorem sound_alloc {P : Program} {c w h} (hh : HRel c w h) (e : TypeId) {l : List V} (hz : cZero P e = some l) :
  Ok P c w h (Instr.alloc e true (.tuple #[])) (.ptr h.length 0) (h ++ [.row l]) := by
 obtain ⟨i, z, hi, hz, h1, h2, h3⟩ := cZero_spec hz
 obtain ⟨w', c', g1, g2, g3, g4⟩ := newRow_ok (P := P) hh e z.cells (.row l) (fun m' hm w' hw => row_of_cells (h3 _ _) e _ m' hm w' hw)
 refine ⟨.pointer (some ⟨w.heap.size, 0, none⟩), w', c', ?_, ?_, g3, g4⟩
 ·simp only [Instr.alloc, Sem.run_bind, run_zeroValue hi hz, Result.andThen_ok, newVar, g1]; rfl
 ·exact .ptr _ _ _ ⟨w.heap.size, 0, z.cells.size, false, e⟩ g2 rfl
theorem row_cells {c w h} (hh : HRel c w h) {id : Nat} {cs : List V} (hid : h[id]? = some (.row cs)) :
  ∃ (p : Place) (cc : Array Value) (e : {e : TypeId // e = p.ty}) (fr : Nat × Nat), c.m id = some p ∧ p.null = false ∧ w.heap[p.block]? = some (.cells cc e.1 fr) ∧ cc.size = p.top ∧ p.base ≤ p.top ∧ p.base + cs.length ≤ p.top ∧
   (∀ i (h : i < cs.length), ∃ x, cc[p.base + i]? = some x ∧ VRel c.ro c.m cs[i] x) ∧ (∀ i, i ≤ p.top → ¬ (fr.1 ≤ i ∧ i < fr.2)) := by
 obtain ⟨p, hp, ⟨cc, ⟨hn, hs, hb, e, fr, hw, hf⟩, hl, hv⟩, _⟩ := hh.obj id _ hid trivial
 refine ⟨p, cc, e, fr, hp, hn, hw, hs, hb, hl, fun i hi => ?_, hf⟩
 have : p.base + i < cc.size := by omega
 exact ⟨cc[p.base + i], Array.getElem?_eq_getElem this, hv i hi this⟩
theorem arr_cells {c w h} (hh : HRel c w h) {id sz : Nat} {es : List (List V)} (hid : h[id]? = some (.arr es sz)) {p : Place} (hp : c.m id = some p) (hn : p.null = false) :
  ∃ (cc : Array Value) (e : {e : TypeId // e = p.ty}) (fr : Nat × Nat), w.heap[p.block]? = some (.cells cc e.1 fr) ∧ cc.size = p.top ∧ p.base ≤ p.top ∧ p.base + es.length * sz ≤ p.top ∧ (∀ i (h : i < es.length), es[i].length = sz) ∧ (∀ e ∈ es, V.ones e = true) ∧
   (∀ i (h : i < es.length) j (h' : j < es[i].length), ∃ x, cc[p.base + i * sz + j]? = some x ∧ VRel c.ro Pl.none es[i][j] x) ∧ (∀ i, i ≤ p.top → ¬ (fr.1 ≤ i ∧ i < fr.2)) := by
 obtain ⟨q, hq, ⟨_, h1, hlen, hx⟩, _⟩ := hh.obj id _ hid trivial
 rw [hp] at hq; cases hq
 obtain ⟨cc, ⟨_, hs, hb, e, fr, hw, hf⟩, hl, hv⟩ := hx hn
 exact ⟨cc, e, fr, hw, hs, hb, hl, hlen, h1, hv, hf⟩
theorem sound_load0 {P : Program} {N c t a w h} (hh : HRel c w h) (ht : TRel N c t a) {x : Operand} {x' : Opd} (hx : cOpd N x = some x') {ty n agg} (hk : cSize P ty = some (n, agg)) {v h'}
  (hs : opStep t h (.load x' (if agg then some n else none)) = some (v, h')) : h' = h ∧ ∃ cv, (Instr.loadAt ty (a.eval x)).run P w = .ok cv w ∧ VRel c.ro c.m v cv := by
 have hv := opd_rel ht hx
 simp only [opStep] at hs
 generalize x'.ev t = xv at *
 generalize a.eval x = cx at *
 split at hs
 ·rename_i id off
  obtain ⟨p, hp, hn, rfl⟩ := hv.ptr_inv
  split at hs
  case h_2 => cases hs
  case h_1 cs hid =>
   split at hs <;> cases hs
   rename_i hr
   obtain ⟨p', cc, e, fr, hp', _, hw, h1, h2, h3, h4, _⟩ := row_cells hh hid
   rw [hp] at hp'; cases hp'
   obtain ⟨cv, g1, g2⟩ := read_sound (P := P) (w := w) (b := p.block) (o := p.base) (fun i hi => by
    obtain ⟨x, hx, hv⟩ := h4 i hi; exact ⟨x, by rw [cell_of_heap hw]; exact hx, hv⟩) hk hr
   exact ⟨rfl, cv, g1, g2⟩
 ·rename_i id i sz off
  obtain ⟨p, hp, hn, rfl⟩ := hv.eptr_inv
  split at hs
  case h_3 => cases hs
  case h_2 cs hid =>
   split at hs <;> cases hs
   rename_i hr
   obtain ⟨p', cc, e, fr, hp', _, hw, h1, h2, h3, h4, _⟩ := row_cells hh hid
   rw [hp] at hp'; cases hp'
   obtain ⟨cv, g1, g2⟩ := read_sound (P := P) (w := w) (b := p.block) (o := p.base) (fun i hi => by
    obtain ⟨x, hx, hv⟩ := h4 i hi; exact ⟨x, by rw [cell_of_heap hw]; exact hx, hv⟩) hk hr
   rw [← Nat.add_assoc] at g1
   exact ⟨rfl, cv, g1, g2⟩
  case h_1 es s hid =>
   split at hs
   case isFalse => cases hs
   case isTrue e =>
    subst e
    split at hs
    case h_2 => cases hs
    case h_1 cs hcs =>
     split at hs <;> cases hs
     rename_i hr
     obtain ⟨hi, rfl⟩ := List.getElem?_eq_some_iff.1 hcs
     obtain ⟨cc, e, fr, hw, h1, h2, h3, hlen, _, h4, _⟩ := arr_cells hh hid hp hn
     obtain ⟨cv, g1, g2⟩ := read_sound (P := P) (w := w) (b := p.block) (o := p.base + i * s) (fun j hj => by
      obtain ⟨x, hx, hv⟩ := h4 i hi j hj; exact ⟨x, by rw [cell_of_heap hw]; exact hx, hv⟩) hk hr
     exact ⟨rfl, cv, g1, g2.mono (fun _ _ h => h) fun _ _ h => by cases h⟩
 ·rename_i cs off
  obtain ⟨b, o, ccs, f, hb, hc, hf, rfl⟩ := hv.rptr_inv
  split at hs <;> cases hs
  rename_i hr
  obtain ⟨e, fr, hw⟩ := hh.ro _ _ hb
  obtain ⟨cv, g1, g2⟩ := read_sound (P := P) (w := w) (b := b) (o := o) (fun j hj => ⟨f j, by rw [cell_of_heap hw]; exact hc j hj, hf j hj⟩) hk hr
  exact ⟨rfl, cv, g1, g2.mono (fun _ _ h => h) fun _ _ h => by cases h⟩
 ·cases hs
theorem sound_load {P : Program} {N c t a w h} (hh : HRel c w h) (ht : TRel N c t a) {x : Operand} {x' : Opd} (hx : cOpd N x = some x') {ty n agg} (hk : cSize P ty = some (n, agg)) {v h'}
  (hs : opStep t h (.load x' (if agg then some n else none)) = some (v, h')) : Ok P c w h (Instr.loadAt ty (a.eval x)) v h' := by
 obtain ⟨rfl, cv, h1, h2⟩ := sound_load0 (P := P) hh ht hx hk hs
 exact Ok.of_same hh h1 h2
end Sx
namespace Sx
open Go
theorem mul_step {a b s : Nat} (h : a < b) : a * s + s ≤ b * s := by
 have := Nat.mul_le_mul_right s (Nat.succ_le_of_lt h)
 rwa [Nat.succ_mul] at this
theorem ones_take : ∀ {l : List V} (n : Nat), V.ones l = true → V.ones (l.take n) = true
 | [], n, _ => by simp [V.ones]
 | a :: l, 0, _ => rfl
 | a :: l, n + 1, h => by
  simp only [V.ones, Bool.and_eq_true, List.take_succ_cons] at h ⊢; exact ⟨h.1, ones_take n h.2⟩
theorem ones_drop : ∀ {l : List V} (n : Nat), V.ones l = true → V.ones (l.drop n) = true
 | [], n, _ => by simp [V.ones]
 | a :: l, 0, h => h
 | a :: l, n + 1, h => by
  simp only [V.ones, Bool.and_eq_true, List.drop_succ_cons] at h ⊢; exact ones_drop n h.2
theorem ones_append : ∀ {l r : List V}, V.ones l = true → V.ones r = true → V.ones (l ++ r) = true
 | [], _, _, h => h
 | a :: l, r, h, k => by
  simp only [V.ones, Bool.and_eq_true, List.cons_append] at h ⊢; exact ⟨h.1, ones_append h.2 k⟩
theorem celled_ones {v : V} (h : v.celled = true) : V.ones v.cells = true := by
 unfold V.celled at h; unfold V.cells
 split
 ·exact h
 ·rename_i hna
  split at h
  ·exact absurd rfl (hna _)
  ·simp [V.ones, h]
structure Els (ro : Ro) (m : Pl) (es : List (List V)) (sz : Nat) (g : Nat → Option Value) : Prop where
 len : ∀ i (h : i < es.length), es[i].length = sz
 ones : ∀ e ∈ es, V.ones e = true
 rel : ∀ i (h : i < es.length) j (h' : j < es[i].length), ∃ x, g (i * sz + j) = some x ∧ VRel ro m es[i][j] x
theorem store_at {P : Program} {w : World} {b o : Nat} {cc : Array Value} {e : TypeId} {fr : Nat × Nat} (hw : w.heap[b]? = some (.cells cc e fr)) {vs : List Value} (hl : o + vs.length ≤ cc.size) (hf : ∀ i, i ≤ cc.size → ¬ (fr.1 ≤ i ∧ i < fr.2))
  (h1 : ∀ u ∈ vs, u.oneCell' = true) : (storeCells ⟨b, o, none⟩ vs).run P w = .ok () (w.setCells b o vs) := by
 have := run_storeCells_cells (P := P) b o vs 0 w (fun j hj => by rw [cell_of_heap hw]; rw [Array.getElem?_eq_getElem (by omega)]; rfl)
  (fun j hj => frozen_of_heap hw (hf _ (by omega))) h1
 simpa using this
theorem sound_store {P : Program} {N c t a w h} (hh : HRel c w h) (ht : TRel N c t a) {x y : Operand} {x' y' : Opd} (hx : cOpd N x = some x') (hy : cOpd N y = some y') {ty n agg} (hk : cSize P ty = some (n, agg)) {v h'}
  (hs : opStep t h (.store x' y' n) = some (v, h')) :
  ∃ w', (Instr.storeAt ty (a.eval x) (a.eval y)).run P w = .ok () w' ∧ v = .any ∧ HRel c w' h' ∧ Adv c w h c w' h' := by
 have hv := opd_rel ht hx
 have hu := opd_rel ht hy
 simp only [opStep] at hs
 generalize x'.ev t = xv at *
 generalize a.eval x = cx at *
 generalize y'.ev t = yv at *
 generalize a.eval y = cy at *
 split at hs
 case isFalse => cases hs
 case isTrue hc =>
  simp only [Bool.and_eq_true, beq_iff_eq] at hc
  obtain ⟨hr, hone⟩ := cells_rel hu hc.1
  obtain ⟨d, i, hud, hi, hsz⟩ := cSize_size hk
  have hn : cy.cells.size = n := by rw [← hr.1, hc.2]
  have run : ∀ addr, (storeVar ty addr cy).run P w = (storeCells addr cy.cells.toList).run P w := by
   intro addr
   simp [storeVar, Go.sizeOf, typeInfo, hi, hsz, hn]
  split at hs
  ·rename_i id off
   obtain ⟨p, hp, hnn, rfl⟩ := hv.ptr_inv
   split at hs
   case h_2 => cases hs
   case h_1 cs hid =>
    split at hs
    case isFalse => cases hs
    case isTrue hle =>
     cases hs
     obtain ⟨p', cc, e, fr, hp', _, hw, h1, h2, h3, h4, h5⟩ := row_cells hh hid
     rw [hp] at hp'; cases hp'
     have hfit : p.base + off + cy.cells.toList.length ≤ cc.size := by simp [hn]; omega
     have hst := store_at (P := P) hw hfit (by rw [h1]; exact h5) hone
     obtain ⟨cc', g1, g2, g3⟩ := setCells_heap cy.cells.toList w p.block (p.base + off) cc e fr hw hfit
     obtain ⟨k1, k2, k3, k4⟩ := setCells_rest cy.cells.toList w p.block (p.base + off)
     obtain ⟨r1, r2⟩ := hh.change (w' := w.setCells p.block (p.base + off) cy.cells.toList) id _ (.row (putAt cs off yv.cells)) p hid trivial hp hnn k1 (fun b hb => setCells_other _ _ _ _ _ hb) k2 k3 k4 (by
      refine ⟨cc', ⟨hnn, by omega, h2, e, fr, g1, h5⟩, by rw [putAt_length (by omega)]; exact h3, fun i a' b' => ?_⟩
      have hi' : i < cs.length := by rw [putAt_length (by omega)] at a'; exact a'
      have e1 := putAt_get (cs := cs) (vs := yv.cells) (off := off) (by omega) i
      have e2 := g3 (p.base + i) (by omega)
      rw [List.getElem?_eq_getElem a'] at e1
      rw [Array.getElem?_eq_getElem b'] at e2
      by_cases hc' : off ≤ i ∧ i < off + yv.cells.length
      ·rw [if_pos hc', List.getElem?_eq_getElem (by omega)] at e1
       rw [if_pos (by simp [hn]; omega), List.getElem?_eq_getElem (by simp [hn]; omega)] at e2
       have f1 : (putAt cs off yv.cells)[i] = yv.cells[i - off]'(by omega) := by simpa using e1
       have f2 : cc'[p.base + i] = cy.cells[i - off]'(by omega) := by
        have : p.base + i - (p.base + off) = i - off := by omega
        simpa [this] using e2
       rw [f1, f2]; exact hr.2 _ _ _
      ·rw [if_neg hc', List.getElem?_eq_getElem hi'] at e1
       rw [if_neg (by simp [hn]; omega)] at e2
       obtain ⟨x, hx, hxv⟩ := h4 i hi'
       rw [hx] at e2
       have f1 : (putAt cs off yv.cells)[i] = cs[i] := by simpa using e1
       have f2 : cc'[p.base + i] = x := by simpa using e2
       rw [f1, f2]; exact hxv)
     refine ⟨_, ?_, rfl, r1, r2⟩
     simp only [Instr.storeAt, Instr.sureAddr, Sem.run_bind, Sem.run_pure, Result.andThen_ok, run, hst]
  ·rename_i id i0 s off
   obtain ⟨p, hp, hnn, rfl⟩ := hv.eptr_inv
   split at hs
   case h_2 => cases hs
   case h_1 es s' hid =>
    split at hs
    case isFalse => cases hs
    case isTrue he =>
     obtain ⟨he, hpure⟩ := he
     subst he
     split at hs
     case h_2 => cases hs
     case h_1 cs hcs =>
      obtain ⟨hi0, rfl⟩ := List.getElem?_eq_some_iff.1 hcs
      split at hs
      case isFalse => cases hs
      case isTrue hle =>
       cases hs
       obtain ⟨cc, e, fr, hw, h1, h2, h3, hlen, hones, h4, h5⟩ := arr_cells hh hid hp hnn
       have hl0 := hlen i0 hi0
       have hms := mul_step (s := s') hi0
       have hfit : p.base + i0 * s' + off + cy.cells.toList.length ≤ cc.size := by simp [hn]; omega
       have hst := store_at (P := P) hw hfit (by rw [h1]; exact h5) hone
       obtain ⟨cc', g1, g2, g3⟩ := setCells_heap cy.cells.toList w p.block (p.base + i0 * s' + off) cc e fr hw hfit
       obtain ⟨k1, k2, k3, k4⟩ := setCells_rest cy.cells.toList w p.block (p.base + i0 * s' + off)
       have hvl : off + yv.cells.length ≤ es[i0].length := by omega
       obtain ⟨r1, r2⟩ := hh.change (w' := w.setCells p.block (p.base + i0 * s' + off) cy.cells.toList) id _ (.arr (es.set i0 (putAt es[i0] off yv.cells)) s') p hid trivial hp hnn k1 (fun b hb => setCells_other _ _ _ _ _ hb) k2 k3 k4 (by
        refine ⟨fun hnull => (by rw [hnn] at hnull; cases hnull), ?_, ?_, fun _ => ⟨cc', ⟨hnn, by omega, h2, e, fr, g1, h5⟩, by simpa using h3, ?_⟩⟩
        ·intro e' he'
         rcases List.mem_or_eq_of_mem_set he' with hm | rfl
         ·exact hones _ hm
         ·have o1 := hones es[i0] (List.getElem_mem _)
          have o2 : V.ones yv.cells = true := celled_ones hc.1
          unfold putAt
          exact ones_append (ones_take _ o1) (ones_append o2 (ones_drop _ o1))
        ·intro i hi
         by_cases hii : i0 = i
         ·subst hii; simp [putAt_length hvl, hl0]
         ·rw [List.getElem_set_ne hii]; exact hlen i (by simpa using hi)
        ·intro i hi j hj
         have hi' : i < es.length := by simpa using hi
         by_cases hii : i0 = i
         ·subst hii
          simp only [List.getElem_set_self] at hj ⊢
          have hj' : j < es[i0].length := by rw [putAt_length hvl] at hj; exact hj
          have e1 := putAt_get hvl j
          have e2 := g3 (p.base + i0 * s' + j) (by omega)
          rw [List.getElem?_eq_getElem hj] at e1
          by_cases hc' : off ≤ j ∧ j < off + yv.cells.length
          ·rw [if_pos hc', List.getElem?_eq_getElem (by omega)] at e1
           rw [if_pos (by simp [hn]; omega), List.getElem?_eq_getElem (by simp [hn]; omega)] at e2
           refine ⟨_, e2, ?_⟩
           have f1 : (putAt es[i0] off yv.cells)[j] = yv.cells[j - off]'(by omega) := by simpa using e1
           have hidx : p.base + i0 * s' + j - (p.base + i0 * s' + off) = j - off := by omega
           simp only [hidx]
           rw [f1]
           have := pures_rel hpure (fun a b b' => hr.2 a b b') (j - off) (by omega) (by omega)
           simpa using this
          ·rw [if_neg hc', List.getElem?_eq_getElem hj'] at e1
           rw [if_neg (by simp [hn]; omega)] at e2
           obtain ⟨x, hx, hxv⟩ := h4 i0 hi0 j hj'
           refine ⟨x, by rw [e2]; exact hx, ?_⟩
           have f1 : (putAt es[i0] off yv.cells)[j] = es[i0][j] := by simpa using e1
           rw [f1]; exact hxv
         ·simp only [List.getElem_set_ne hii] at hj ⊢
          obtain ⟨x, hx, hxv⟩ := h4 i hi' j hj
          refine ⟨x, ?_, hxv⟩
          have hlj := hlen i hi'
          rw [g3 (p.base + i * s' + j) (by have := mul_step (s := s') hi'; omega), if_neg]
          ·exact hx
          ·simp only [Array.length_toList, hn]
           rcases Nat.lt_or_gt_of_ne hii with hlt | hlt
           ·have := mul_step (s := s') hlt; omega
           ·have := mul_step (s := s') hlt; omega)
       refine ⟨_, ?_, rfl, r1, r2⟩
       simp only [Instr.storeAt, Instr.sureAddr, Sem.run_bind, Sem.run_pure, Result.andThen_ok, run, hst]
  ·cases hs
end Sx
namespace Sx
open Go
theorem divmod {k n sz : Nat} (h : k < n * sz) : k / sz < n ∧ k % sz < sz ∧ k / sz * sz + k % sz = k := by
 have hs : 0 < sz := by
  rcases Nat.eq_zero_or_pos sz with h0 | h0
  ·subst h0; simp at h
  ·exact h0
 exact ⟨Nat.div_lt_of_lt_mul (by rwa [Nat.mul_comm] at h), Nat.mod_lt _ hs, by rw [Nat.mul_comm]; exact Nat.div_add_mod k sz⟩
theorem ones_get : ∀ {l : List V} (_ : V.ones l = true) (i : Nat) (hi : i < l.length), l[i].one = true
 | a :: l, h, 0, _ => by simp only [V.ones, Bool.and_eq_true] at h; exact h.1
 | a :: l, h, i + 1, hi => by
  simp only [V.ones, Bool.and_eq_true] at h
  exact ones_get h.2 i (by simpa using hi)
theorem Els.one {ro m es sz} {news : List Value} (h : Els ro m es sz (news[·]?)) (hl : news.length = es.length * sz) : ∀ u ∈ news, u.oneCell' = true := by
 intro u hu
 obtain ⟨k, hk, rfl⟩ := List.getElem_of_mem hu
 obtain ⟨h1, h2, h3⟩ := divmod (n := es.length) (sz := sz) (k := k) (by omega)
 have hj : k % sz < es[k / sz].length := by rw [h.len _ h1]; exact h2
 obtain ⟨x, hx, hv⟩ := h.rel _ h1 _ hj
 rw [h3, List.getElem?_eq_getElem hk] at hx
 cases hx
 exact one_oneCell hv (ones_get (h.ones _ (List.getElem_mem _)) _ hj)
theorem flat_range {ro m} {w : World} {b o sz : Nat} {es : List (List V)} (hlen : ∀ i (h : i < es.length), es[i].length = sz) (h1 : ∀ e ∈ es, V.ones e = true)
  (h : ∀ i (h : i < es.length) j (h' : j < es[i].length), ∃ x, w.cell? ⟨b, o + i * sz + j, none⟩ = some x ∧ VRel ro m es[i][j] x) :
  ∃ news : List Value, news.length = es.length * sz ∧ Els ro m es sz (news[·]?) ∧ ∀ j u, news[j]? = some u → w.cell? ⟨b, o + j, none⟩ = some u := by
 refine ⟨(List.range (es.length * sz)).map fun k => (w.cell? ⟨b, o + k, none⟩).getD undef, by simp, ⟨hlen, h1, fun i hi j hj => ?_⟩, fun j u hu => ?_⟩
 ·obtain ⟨x, hx, hv⟩ := h i hi j hj
  have hlt : i * sz + j < es.length * sz := by have := mul_step (s := sz) hi; have := hlen i hi; omega
  refine ⟨x, ?_, hv⟩
  rw [List.getElem?_map, List.getElem?_range hlt]
  simp [← Nat.add_assoc, hx]
 ·rcases Nat.lt_or_ge j (es.length * sz) with hj | hj
  ·rw [List.getElem?_map, List.getElem?_range hj] at hu
   obtain ⟨q1, q2, q3⟩ := divmod hj
   obtain ⟨x, hx, _⟩ := h (j / sz) q1 (j % sz) (by rw [hlen _ q1]; exact q2)
   rw [Nat.add_assoc, q3] at hx
   simp [hx] at hu
   rw [hx, hu]
  ·rw [List.getElem?_eq_none (by simpa using hj)] at hu; cases hu
theorem elemsOf_flat {c w h} (hh : HRel c w h) {v : V} {cv : Value} (hv : VRel c.ro c.m v cv) {sz : Nat} {es : List (List V)} (he : elemsOf h sz v = some es) :
  ∃ (news : List Value) (a : Option Addr) (cap : Nat), news.length = es.length * sz ∧ Els c.ro Pl.none es sz (news[·]?) ∧ cv = .slice a es.length cap ∧ es.length ≤ cap ∧
   (es.length = 0 ∨ ∃ b o, a = some ⟨b, o, none⟩ ∧ ∀ j u, news[j]? = some u → w.cell? ⟨b, o + j, none⟩ = some u) := by
 have hnil : Els c.ro Pl.none [] sz (fun i => ([] : List Value)[i]?) := ⟨fun i h => by simp at h, fun e h => by simp at h, fun i h => by simp at h⟩
 cases v <;> simp only [elemsOf] at he <;> try (cases he; done)
 case nils =>
  cases he
  rw [hv.nils_inv]
  exact ⟨[], none, 0, by simp, hnil, rfl, by simp, .inl rfl⟩
 case sl id off len s k =>
  split at he
  case isFalse => cases he
  case isTrue e =>
   subst e
   split at he
   case h_2 => cases he
   case h_1 e s' hid =>
    split at he
    case isFalse => cases he
    case isTrue hc =>
     obtain ⟨rfl, hle⟩ := hc
     cases he
     have hlen : ((e.drop off).take len).length = len := by simp; omega
     rcases hv.sl_inv with ⟨p, cap, o, hp, hn, hcap, ho, ht, hk, rfl⟩ | ⟨p, a, hp, hn, rfl, rfl, rfl, rfl⟩
     ·rcases Nat.eq_zero_or_pos len with h0 | h0
      ·subst h0
       exact ⟨[], some ⟨p.block, o, none⟩, cap, by simp, by simpa using hnil, by simp, by simp, .inl (by simp)⟩
      ·have ho' : o = p.base + off * s' := by rcases ho with h | h; exact h; omega
       obtain ⟨cc, e', fr, hw, h1, h2, h3, hl, hones, h4, h5⟩ := arr_cells hh hid hp hn
       obtain ⟨news, n1, n2, n3⟩ := flat_range (ro := c.ro) (m := Pl.none) (w := w) (b := p.block) (o := o) (sz := s') (es := (e.drop off).take len) (fun i hi => by
        simp at hi; simp [hl (off + i) (by omega)]) (fun x hx => hones x (List.mem_of_mem_drop (List.mem_of_mem_take hx))) (fun i hi j hj => by
        have hi' : i < len := by rw [hlen] at hi; exact hi
        simp only [List.getElem_take, List.getElem_drop] at hj ⊢
        obtain ⟨x, hx, hv⟩ := h4 (off + i) (by omega) j hj
        refine ⟨x, ?_, hv⟩
        rw [cell_of_heap hw, ho', ← hx]
        congr 1
        rw [Nat.add_mul]; omega)
       exact ⟨news, _, cap, n1, n2, by rw [hlen], by rw [hlen]; exact hcap, .inr ⟨_, _, rfl, n3⟩⟩
     ·exact ⟨[], a, 0, by simp, by simpa using hnil, by simp, by simp, .inl (by simp)⟩
 case vs e s =>
  split at he
  case isFalse => cases he
  case isTrue hs =>
   subst hs
   cases he
   rcases hv.vs_inv with ⟨b, o, cap, cs, f, hb, hl, hsz, hones, hc, hvv, rfl⟩ | ⟨a, rfl, rfl⟩
   ·obtain ⟨e', fr, hw⟩ := hh.ro _ _ hb
    obtain ⟨news, n1, n2, n3⟩ := flat_range (ro := c.ro) (m := Pl.none) (w := w) (b := b) (o := o) (sz := s) (es := es) hsz hones (fun i hi j hj =>
     ⟨f i j, by rw [cell_of_heap hw]; exact hc i j hi (by rw [← hsz i hi]; exact hj), hvv i hi j hj⟩)
    exact ⟨news, _, cap, n1, n2, rfl, hl, .inr ⟨_, _, rfl, n3⟩⟩
   ·exact ⟨[], a, 0, by simp, hnil, rfl, by simp, .inl rfl⟩
theorem src_of {P : Program} {w : World} {sz : Nat} {tx e' : TypeId} (hk : P.underlying tx = some (.slice e')) {news : List Value} {a : Option Addr} {n cap : Nat} (hl : news.length = n * sz)
  (h1 : ∀ u ∈ news, u.oneCell' = true) (hc : n = 0 ∨ ∃ b o, a = some ⟨b, o, none⟩ ∧ ∀ j u, news[j]? = some u → w.cell? ⟨b, o + j, none⟩ = some u) : Src P sz tx (.slice a n cap) n news w := by
 rcases hc with rfl | ⟨b, o, rfl, hcell⟩
 ·have : news = [] := by simpa using hl
  subst this
  cases a with
  | none => exact Src.ofNil w hk cap
  | some a => exact Src.ofSlice w hk a 0 cap [] (by simp) (fun j u h => by simp at h) (fun u h => by simp at h)
 ·exact Src.ofSlice w hk _ n cap news hl (fun j u h => by rw [Addr.add_mid]; exact hcell j u h) h1
theorem byteEls_els (ro m) (l : List UInt8) : Els ro m (byteEls l) 1 ((byteCells ⟨l.toArray⟩)[·]?) := by
 have hlen : ∀ i (h : i < (byteEls l).length), (byteEls l)[i].length = 1 := fun i h => by simp [byteEls]
 refine ⟨hlen, fun e h => ?_, fun i h j h' => ?_⟩
 ·simp only [byteEls, List.mem_map] at h; obtain ⟨b, _, rfl⟩ := h; rfl
 ·have hi : i < l.length := by simpa [byteEls] using h
  have hj : j = 0 := by have := hlen i h; omega
  subst hj
  refine ⟨.int .u8 l[i].toNat, ?_, ?_⟩
  ·simp [byteCells, hi]
  ·simp [byteEls]; exact .int ..
theorem arr_of_els {c : Ctx} {es : List (List V)} {sz : Nat} {cc : Array Value} (he : Els c.ro Pl.none es sz (cc[·]?)) {b : Nat} {m' : Pl} {w' : World} {e : TypeId} (hw : w'.heap[b]? = some (.cells cc e)) (hle : es.length * sz ≤ cc.size) :
  ORel c.ro m' w' ⟨b, 0, cc.size, false, e⟩ (.arr es sz) :=
 ⟨(fun h => by cases h), he.ones, he.len, fun _ => ⟨cc, ⟨rfl, rfl, Nat.zero_le _, ⟨e, rfl⟩, (0, 0), hw, fun i _ => by simp⟩, by simpa using hle, fun i hi j hj => by
  obtain ⟨x, hx, hv⟩ := he.rel i hi j hj; exact ⟨x, by simpa using hx, hv⟩⟩⟩
theorem els_append {ro m es es' sz} {old news : List Value} (h : Els ro m es sz (old[·]?)) (hl : old.length = es.length * sz) (k : Els ro m es' sz (news[·]?)) (_hl' : news.length = es'.length * sz) :
  Els ro m (es ++ es') sz ((old ++ news)[·]?) := by
 refine ⟨fun i hi => ?_, fun e he => ?_, fun i hi j hj => ?_⟩
 ·rw [List.getElem_append]; split
  ·exact h.len _ _
  ·exact k.len _ _
 ·rcases List.mem_append.1 he with he | he
  ·exact h.ones e he
  ·exact k.ones e he
 ·rcases Nat.lt_or_ge i es.length with h1 | h1
  ·have e1 : (es ++ es')[i] = es[i] := List.getElem_append_left h1
   simp only [e1] at hj ⊢
   obtain ⟨x, hx, hv⟩ := h.rel i h1 j hj
   refine ⟨x, ?_, hv⟩
   have := mul_step (s := sz) h1
   have := h.len i h1
   rw [List.getElem?_append_left (by omega)]; exact hx
  ·have e1 : (es ++ es')[i] = es'[i - es.length]'(by simp at hi; omega) := List.getElem_append_right h1
   simp only [e1] at hj ⊢
   obtain ⟨x, hx, hv⟩ := k.rel (i - es.length) (by simp at hi; omega) j hj
   refine ⟨x, ?_, hv⟩
   have e2 : i * sz = es.length * sz + (i - es.length) * sz := by rw [← Nat.add_mul]; congr 1; omega
   rw [List.getElem?_append_right (by omega), ← hx]
   congr 1; omega
theorem els_front {ro m es sz} {l : List Value} (h : Els ro m es sz (l[·]?)) (more : List Value) : Els ro m es sz ((l ++ more)[·]?) := by
 refine ⟨h.len, h.ones, fun i hi j hj => ?_⟩
 obtain ⟨x, hx, hv⟩ := h.rel i hi j hj
 exact ⟨x, by rw [List.getElem?_append_left (List.getElem?_eq_some_iff.1 hx).1]; exact hx, hv⟩
theorem els_arr {ro m es sz} {l : List Value} (h : Els ro m es sz (l[·]?)) : Els ro m es sz (l.toArray[·]?) :=
 ⟨h.len, h.ones, fun i hi j hj => by obtain ⟨x, hx, hv⟩ := h.rel i hi j hj; exact ⟨x, by simpa using hx, hv⟩⟩
end Sx
namespace Sx
open Go
theorem ofVal0_one {v : Value} {v' : V} (h : V.ofVal0 v = some v') : v'.one = true := by
 unfold V.ofVal0 at h; split at h <;> cases h <;> rfl
theorem ones_of : ∀ {l : List V}, (∀ v ∈ l, v.one = true) → V.ones l = true
 | [], _ => rfl
 | a :: l, h => by simp only [V.ones, Bool.and_eq_true]; exact ⟨h a (by simp), ones_of fun v hv => h v (by simp [hv])⟩
theorem cZero_ones {P t l} (h : cZero P t = some l) : V.ones l = true := by
 unfold cZero at h
 split at h
 case h_2 => cases h
 case h_1 i hi =>
  split at h
  case h_2 => cases h
  case h_1 z hz =>
   simp only at h
   split at h
   case isFalse => cases h
   case isTrue hl =>
    obtain ⟨h1, h2⟩ := mapM_some _ _ _ h
    refine ones_of fun v hv => ?_
    obtain ⟨k, hk, rfl⟩ := List.getElem_of_mem hv
    exact ofVal0_one (h2 k (by omega) hk)
theorem pures_get : ∀ {l : List V}, V.pures l = true → ∀ (j : Nat) (hj : j < l.length), l[j].pure = true
 | a :: l, h, 0, _ => by simp only [V.pures, Bool.and_eq_true] at h; exact h.1
 | a :: l, h, j + 1, hj => by simp only [V.pures, Bool.and_eq_true] at h; exact pures_get h.2 j (by simpa using hj)
theorem Els.pure {ro m es sz g} (h : Els ro m es sz g) (hp : es.all V.pures = true) : Els ro Pl.none es sz g :=
 ⟨h.len, h.ones, fun i hi j hj => by
  obtain ⟨x, hx, hv⟩ := h.rel i hi j hj
  exact ⟨x, hx, pure_rel (pures_get (List.all_eq_true.1 hp _ (List.getElem_mem hi)) j hj) hv⟩⟩
theorem cPart_spec {P : Program} {N fs zl x r} (h : cPart P N fs zl x = some r) : ∃ f i, fs[x.1]? = some f ∧ P.info? f.type = some i ∧ r.1 = f.offset ∧ r.2.1 = i.size ∧ cOpd N x.2 = some r.2.2 ∧ r.1 + r.2.1 ≤ zl := by
 unfold cPart at h
 split at h
 case h_2 => cases h
 case h_1 f hf =>
  split at h
  case h_2 => cases h
  case h_1 n b y hs hy =>
   split at h <;> cases h
   obtain ⟨d, i, _, hi, hsz⟩ := cSize_size hs
   exact ⟨f, i, hf, hi, rfl, hsz.symm, hy, by assumption⟩
theorem cPartA_spec {N n zl x r} (h : cPartA N n zl x = some r) : r.1 = x.1 * n ∧ r.2.1 = n ∧ cOpd N x.2 = some r.2.2 ∧ r.1 + r.2.1 ≤ zl := by
 unfold cPartA at h
 split at h
 case h_2 => cases h
 case h_1 y hy => split at h <;> cases h; exact ⟨rfl, rfl, hy, by assumption⟩
theorem cPartE_spec {N len x r} (h : cPartE N len x = some r) : r.1 = x.1 ∧ cOpd N x.2 = some r.2 ∧ r.1 < len := by
 unfold cPartE at h
 split at h
 case h_2 => cases h
 case h_1 y hy => split at h <;> cases h; exact ⟨rfl, hy, by assumption⟩
theorem cElem_spec {P t n z b} (h : cElem P t = some (n, z, b)) : ∃ e i, P.underlying t = some (.slice e) ∧ P.info? e = some i ∧ i.size = n ∧ i.bytes = b ∧ 0 < n ∧ z.length = n ∧ cZero P e = some z := by
 unfold cElem at h
 split at h
 case h_2 => cases h
 case h_1 e hu =>
  split at h
  case h_2 => cases h
  case h_1 n' bb z' i hs hz hi =>
   split at h <;> cases h
   rename_i hc
   exact ⟨e, i, hu, hi, hc.2.2, rfl, hc.1, hc.2.1, hz⟩
theorem places_all {P : Program} : ∀ (l : List Field), (l.all fun f => (P.info? f.type).isSome) = true → l.mapM (fun f => (P.info? f.type).map fun i => (f.offset, i.size)) = some (l.map (fun f => (f.offset, ((P.info? f.type).map (·.size)).getD 0)))
 | [], _ => rfl
 | f :: l, hl => by
  simp only [List.all_cons, Bool.and_eq_true] at hl
  obtain ⟨fi, hfi⟩ := Option.isSome_iff_exists.1 hl.1
  simp [List.mapM_cons, hfi, places_all l hl.2]
theorem sound_build {P : Program} {N c t a w h} (hh : HRel c w h) (ht : TRel N c t a) {ty : TypeId} {parts : Array (Nat × Operand)} {zero ps} (hc : cOp P N (.build ty parts) = some (.build zero ps)) {v h'}
  (hs : opStep t h (.build zero ps) = some (v, h')) : Ok P c w h (Instr.build ty (parts.map fun (i, x) => (i, a.eval x))) v h' := by
 simp only [opStep] at hs
 split at hs <;> cases hs
 rename_i cs hf
 have fin : ∀ (place : Nat → Option (Nat × Nat)) (zz : Value), VRels c.ro c.m zero zz.cells → parts.toList.length = ps.length → (∀ k (h : k < parts.toList.length) (h' : k < ps.length), place parts.toList[k].1 = some (ps[k].1, ps[k].2.1) ∧ cOpd N parts.toList[k].2 = some ps[k].2.2 ∧ ps[k].1 + ps[k].2.1 ≤ zero.length) →
   (∀ cr, Instr.fill place zz.cells (parts.map fun (i, x) => (i, a.eval x)).toList = some cr → P.built ty (parts.map fun (i, x) => (i, a.eval x)).toList = some cr) → Ok P c w h (Instr.build ty (parts.map fun (i, x) => (i, a.eval x))) (.agg cs) h := by
  intro place zz h3 g1 g2 g3
  obtain ⟨cr, k1, k2⟩ := fill_sound ht place parts.toList ps zero zz.cells cs g1 g2 h3 hf
  have k1' : Instr.fill place zz.cells (parts.map fun (i, x) => (i, a.eval x)).toList = some cr := by rw [Array.toList_map]; exact k1
  exact Ok.of_same hh (run_build w ty _ cr (g3 cr k1')) (.agg _ _ _ k2.1 k2.2)
 simp only [cOp] at hc
 split at hc
 ·rename_i z fs hz hu
  obtain ⟨i, zz, hi, hzz, h1, h2, h3⟩ := cZero_spec hz
  split at hc
  case h_2 => cases hc
  case h_1 l hp =>
   split at hc
   case isFalse => cases hc
   case isTrue hall =>
    cases hc
    obtain ⟨q1, q2⟩ := mapM_some _ _ _ hp
    refine fin ((fs.toList.map (fun f => (f.offset, ((P.info? f.type).map (·.size)).getD 0))).toArray[·]?) zz (h3 _ _) q1 (fun k hk hk' => ?_) (fun cr hcr => ?_)
    ·obtain ⟨f, fi, k1, k2, k3, k4, k5, k6⟩ := cPart_spec (q2 k hk hk')
     refine ⟨?_, k5, k6⟩
     simp only [List.getElem?_toArray, List.getElem?_map, Array.getElem?_toList, k1, Option.map_some, k2, Option.getD_some, k3, k4]
    ·unfold Program.built
     simp only [hi, hu, hzz, places_all _ hall]; exact hcr
 ·rename_i z n e hz hu
  obtain ⟨i, zz, hi, hzz, h1, h2, h3⟩ := cZero_spec hz
  split at hc
  case h_2 => cases hc
  case h_1 sz b hse =>
   split at hc
   case h_2 => cases hc
   case h_1 l hp =>
    cases hc
    obtain ⟨d, ie, _, hie, hies⟩ := cSize_size hse
    obtain ⟨q1, q2⟩ := mapM_some _ _ _ hp
    refine fin (fun i => some (i * sz, sz)) zz (h3 _ _) q1 (fun k hk hk' => ?_) (fun cr hcr => ?_)
    ·obtain ⟨k1, k2, k3, k4⟩ := cPartA_spec (q2 k hk hk')
     exact ⟨by rw [k1, k2], k3, k4⟩
    ·unfold Program.built
     simp only [hi, hu, hzz, hie, hies]; exact hcr
 ·cases hc
theorem fillEl_sound {N c t a} (ht : TRel N c t a) (sz : Nat) : ∀ (parts : List (Nat × Operand)) (ps : List (Nat × Opd)) (es : List (List V)) (cc : Array Value) (r : List (List V)),
  parts.length = ps.length → (∀ i (h : i < parts.length) (h' : i < ps.length), parts[i].1 = ps[i].1 ∧ cOpd N parts[i].2 = some ps[i].2 ∧ ps[i].1 < es.length) →
  Els c.ro c.m es sz (cc[·]?) → cc.size = es.length * sz → fillEl t sz es ps = some r →
  ∃ cr, Instr.fill (fun i => some (i * sz, sz)) cc (parts.map fun p => (p.1, a.eval p.2)) = some cr ∧ Els c.ro c.m r sz (cr[·]?) ∧ cr.size = cc.size ∧ r.length = es.length
 | [], ps, es, cc, r, hl, _, hr, _, hf => by
  cases ps with
  | nil => simp [fillEl] at hf; subst hf; exact ⟨cc, rfl, hr, rfl, rfl⟩
  | cons => simp at hl
 | (i, x) :: parts, [], _, _, _, hl, _, _, _, _ => by simp at hl
 | (i, x) :: parts, (i', y) :: ps, es, cc, r, hl, hp, hr, hcs, hf => by
  obtain ⟨h1, h2, h3⟩ := hp 0 (by simp) (by simp)
  simp only [List.getElem_cons_zero] at h1 h2 h3
  subst h1
  simp only [fillEl] at hf
  split at hf
  case isFalse => cases hf
  case isTrue hc =>
   simp only [Bool.and_eq_true, beq_iff_eq] at hc
   have hv := opd_rel ht h2
   obtain ⟨hcr, _⟩ := cells_rel hv hc.1
   have hsz : (a.eval x).cells.size = sz := by rw [← hcr.1, hc.2]
   have hms := mul_step (s := sz) h3
   obtain ⟨f1, f2⟩ := fold_set0 (i * sz) (a.eval x).cells cc (by omega)
   have hnew : Els c.ro c.m (es.set i (y.ev t).cells) sz ((((a.eval x).cells.zipIdx.foldl (fun cs (z : Value × Nat) => cs.setIfInBounds (i * sz + z.2) z.1) cc))[·]?) := by
    refine ⟨fun k hk => ?_, fun e he => ?_, fun k hk j hj => ?_⟩
    ·rw [List.getElem_set]; split
     ·exact hc.2
     ·exact hr.len k (by simpa using hk)
    ·rcases List.mem_or_eq_of_mem_set he with he | rfl
     ·exact hr.ones e he
     ·exact celled_ones hc.1
    ·have hk' : k < es.length := by simpa using hk
     have hmk := mul_step (s := sz) hk'
     by_cases e : i = k
     ·subst e
      simp only [List.getElem_set_self] at hj ⊢
      refine ⟨(a.eval x).cells[j]'(by omega), ?_, hcr.2 j hj (by omega)⟩
      rw [f2 (i * sz + j) (by omega), if_pos (by omega)]
      rw [show i * sz + j - i * sz = j from by omega, Array.getElem?_eq_getElem (by omega)]
     ·simp only [List.getElem_set_ne e] at hj ⊢
      obtain ⟨u, hu, huv⟩ := hr.rel k hk' j hj
      refine ⟨u, ?_, huv⟩
      have hlk := hr.len k hk'
      rw [f2 (k * sz + j) (by omega), if_neg]
      ·exact hu
      ·rcases Nat.lt_or_gt_of_ne e with h | h
       ·have := mul_step (s := sz) h; omega
       ·have := mul_step (s := sz) h; omega
   obtain ⟨cr, g1, g2, g3, g4⟩ := fillEl_sound ht sz parts ps _ _ r (by simpa using hl) (fun j a b => by
    have := hp (j + 1) (by simpa using a) (by simpa using b)
    simp only [List.getElem_cons_succ] at this
    simpa using this) hnew (by rw [f1, hcs]; simp) hf
   refine ⟨cr, ?_, g2, by rw [g3, f1], by rw [g4]; simp⟩
   simp only [List.map_cons, Instr.fill]
   rw [if_neg (by rw [hsz]; simp; omega)]
   exact g1
theorem els_zeros {ro m} {z : Array Value} {zero : List V} (hz : VRels ro m zero z) (h1 : V.ones zero = true) (n : Nat) :
  Els ro m (List.replicate n zero) z.size (((Array.range (n * z.size)).map (z[· % z.size]!))[·]?) := by
 refine ⟨fun i h => by simp [hz.1], fun e he => by rw [List.eq_of_mem_replicate he]; exact h1, fun i hi j hj => ?_⟩
 simp only [List.getElem_replicate] at hj ⊢
 have hi' : i < n := by simpa using hi
 have hj' : j < z.size := by rw [← hz.1]; exact hj
 refine ⟨z[j], ?_, hz.2 j hj hj'⟩
 have hlt : i * z.size + j < n * z.size := by have := mul_step (s := z.size) hi'; omega
 simp only [Array.getElem?_map]
 rw [Array.getElem?_range, if_pos hlt]
 simp only [Option.map_some]
 rw [show (i * z.size + j) % z.size = j from by rw [Nat.add_comm, Nat.add_mul_mod_self_right]; exact Nat.mod_eq_of_lt hj']
 rw [getElem!_pos z j hj']
theorem headD_get {l : List V} {d : V} (h : 0 < l.length) : l.headD d = l[0] := by
 cases l with
 | nil => simp at h
 | cons => rfl
theorem sound_bslice {P : Program} {N c t a w h} (hh : HRel c w h) (ht : TRel N c t a) {ty len} {parts : Array (Nat × Operand)} {sz zero ps} (hc : cOp P N (.buildSlice ty len parts) = some (.bslice len sz zero ps)) {v h'}
  (hs : opStep t h (.bslice len sz zero ps) = some (v, h')) : Ok P c w h (Instr.buildSlice ty len (parts.map fun (i, x) => (i, a.eval x))) v h' := by
 simp only [opStep] at hs
 split at hs
 case h_2 => cases hs
 case h_1 es hf =>
  have hobj : ∃ o, v = .sl h.length 0 len sz (some len) ∧ h' = h ++ [o] ∧ ∀ (cr : Array Value) (e : TypeId), Els c.ro c.m es sz (cr[·]?) → cr.size = es.length * sz → ∀ m' : Pl, (∀ i q, c.m i = some q → m' i = some q) → ∀ w' : World, w'.heap[w.heap.size]? = some (.cells cr e) → ORel c.ro m' w' ⟨w.heap.size, 0, cr.size, false, e⟩ o := by
   split at hs
   case isTrue hpure =>
    cases hs
    exact ⟨_, rfl, rfl, fun cr e g2 hz m' _ w' hw => arr_of_els (g2.pure hpure) hw (by rw [hz]; exact Nat.le_refl _)⟩
   case isFalse =>
    split at hs
    case isFalse => cases hs
    case isTrue h1 =>
     subst h1
     cases hs
     refine ⟨_, rfl, rfl, fun cr e g2 hz m' hm w' hw => row_of_cells (c := c) ⟨by simp [hz], fun i hi hi' => ?_⟩ e _ m' hm w' hw⟩
     have hi2 : i < es.length := by simpa using hi
     have hl1 := g2.len i hi2
     obtain ⟨x, hx, hv⟩ := g2.rel i hi2 0 (by omega)
     simp only [Nat.mul_one, Nat.add_zero] at hx
     rw [Array.getElem?_eq_getElem hi'] at hx
     cases hx
     rw [List.getElem_map]
     rw [headD_get (by omega)]; exact hv
  obtain ⟨o, rfl, rfl, hobj⟩ := hobj
  clear hs
  ·simp only [cOp] at hc
   split at hc
   case h_2 => cases hc
   case h_1 sz' z bytes hel =>
    split at hc
    case isFalse => cases hc
    case isTrue hc1 =>
     split at hc
     case h_2 => cases hc
     case h_1 l hp =>
      cases hc
      obtain ⟨q1, q2⟩ := mapM_some _ _ _ hp
      obtain ⟨e, i, hu, hi, his, hib, hpos, hzl, hz⟩ := cElem_spec hel
      obtain ⟨i', zz, hi', hzz, h1, h2, h3⟩ := cZero_spec hz
      rw [hi] at hi'; cases hi'
      have hzs : zz.cells.size = sz := by omega
      have e0 := els_zeros (h3 c.ro c.m) (cZero_ones hz) len
      rw [hzs] at e0
      obtain ⟨cr, g1, g2, g3, g4⟩ := fillEl_sound ht sz parts.toList ps _ _ es q1 (fun k hk hk' => by
       obtain ⟨k1, k2, k3⟩ := cPartE_spec (q2 k hk hk')
       exact ⟨k1.symm, k2, by simpa using k3⟩) e0 (by simp) hf
      have g1' : Instr.fill (fun i => some (i * sz, sz)) ((Array.range (len * sz)).map (zz.cells[· % zz.cells.size]!)) (parts.map fun (i, x) => (i, a.eval x)).toList = some cr := by
       rw [Array.toList_map, hzs]; exact g1
      have hcrs : cr.size = len * sz := by rw [g3]; simp
      have hel' : es.length = len := by rw [g4]; simp
      obtain ⟨w', c', k1, k2, k3, k4⟩ := newRow_ok (P := P) hh e cr o (fun m' hm w' hw => hobj cr e g2 (by rw [hel', hcrs]) m' hm w' hw)
      have hrun : (Instr.buildSlice ty len (parts.map fun (i, x) => (i, a.eval x))).run P w = .ok (.slice (some ⟨w.heap.size, 0, none⟩) len len) w' := by
       rcases Nat.eq_zero_or_pos (len * sz) with h0 | h0
       ·have hl0 : len = 0 := by
         rcases Nat.mul_eq_zero.1 h0 with h | h
         ·exact h
         ·omega
        subst hl0
        have hpn : parts = #[] := by
         rcases Nat.eq_zero_or_pos parts.size with h | h
         ·exact Array.eq_empty_of_size_eq_zero h
         ·have := (cPartE_spec (q2 0 (by simpa using h) (by rw [← q1]; simpa using h))).2.2
          omega
        subst hpn
        have hcr : cr = #[] := Array.eq_empty_of_size_eq_zero (by omega)
        subst hcr
        have k1' : ∀ f : Nat → Value, (newRow e (Array.map f (Array.range 0))).run P w = .ok ⟨w.heap.size, 0, none⟩ w' := fun f => by rw [show Array.map f (Array.range 0) = #[] from by simp]; exact k1
        simp [Instr.buildSlice, run_underlying hu, Go.sizeOf, typeInfo, hi, Instr.fill, k1']
       ·have hk1 : (newRow e cr).run P w = .ok ⟨w.heap.size, 0, none⟩ (w.alloc (.cells cr e)) := rfl
        rw [hk1] at k1
        have hw' : w.alloc (.cells cr e) = w' := by cases k1; rfl
        rw [← hw']
        rw [← his] at g1' h0 hc1
        exact run_buildSlice w ty e len _ cr i zz hu hi hzz (by omega) (by omega) g1'
      refine ⟨_, w', c', hrun, ?_, k3, k4⟩
      exact .sl _ _ _ _ _ _ 0 _ _ k2 rfl (Nat.le_refl _) (.inl (by simp)) (fun _ => by simp; omega) (fun x hx => by cases hx; rfl)
theorem sound_mks {P : Program} {N c t a w h} (hh : HRel c w h) (ht : TRel N c t a) {ty : TypeId} {x y : Operand} {x' y' zero bytes} (hc : cOp P N (.makeSlice ty x y) = some (.mks x' y' zero bytes)) {v h'}
  (hs : opStep t h (.mks x' y' zero bytes) = some (v, h')) : Ok P c w h (Instr.makeSlice ty (a.eval x) (a.eval y)) v h' := by
 simp only [cOp] at hc
 split at hc
 case h_2 => cases hc
 case h_1 x'' y'' n0 z b hx hy hel =>
  cases hc
  obtain ⟨e, i, hu, hi, his, hib, hpos, hzl, hz⟩ := cElem_spec hel
  obtain ⟨i', zz, hi', hzz, h1, h2, h3⟩ := cZero_spec hz
  rw [hi] at hi'; cases hi'
  have r1 := opd_rel ht hx
  have r2 := opd_rel ht hy
  simp only [opStep] at hs
  generalize x'.ev t = xv at *
  generalize y'.ev t = yv at *
  generalize a.eval x = xc at *
  generalize a.eval y = yc at *
  split at hs
  case h_2 => cases hs
  case h_1 k n k' m =>
   split at hs
   case isFalse => cases hs
   case isTrue hcond =>
    obtain ⟨hn0, rfl, hb, hmx⟩ := hcond
    cases hs
    rw [r1.int_inv, r2.int_inv]
    have hzs : zz.cells.size = zero.length := by omega
    have e0 := els_zeros (h3 c.ro Pl.none) (cZero_ones hz) n.toNat
    rw [hzs] at e0
    obtain ⟨w', c', k1, k2, k3, k4⟩ := newRow_ok (P := P) hh e ((Array.range (n.toNat * zero.length)).map (zz.cells[· % zz.cells.size]!)) (.arr (List.replicate n.toNat zero) zero.length)
     (fun m' _ w' hw => arr_of_els (by rw [hzs]; exact e0) hw (by simp))
    refine ⟨.slice (some ⟨w.heap.size, 0, none⟩) n.toNat n.toNat, w', c', ?_, ?_, k3, k4⟩
    ·have hk1 : ∀ cc, (newRow e cc).run P w = .ok ⟨w.heap.size, 0, none⟩ (w.alloc (.cells cc e)) := fun _ => rfl
     rw [hk1] at k1
     have hw' : w.alloc (.cells ((Array.range (n.toNat * zero.length)).map (zz.cells[· % zz.cells.size]!)) e) = w' := by cases k1; rfl
     rw [← hw']
     have hr := run_make (P := P) w ty e i zz hu hi hzz k k' n n hn0 (Int.le_refl _) (by rw [hib, Int.mul_comm]; omega) (by omega)
     rw [hr]
     unfold madeCells
     rw [show i.size = zero.length by omega]
    ·exact .sl _ _ _ _ _ _ 0 _ _ k2 rfl (Nat.le_refl _) (.inl (by simp)) (fun _ => by simp) (fun x hx => by cases hx; rfl)
end Sx
namespace Sx
open Go
theorem src_sound {P : Program} {c w h} (hh : HRel c w h) {v : V} {cv : Value} (hv : VRel c.ro c.m v cv) {sz : Nat} {str : Bool} {es : List (List V)} (he : srcOf h sz str v = some es) {u : TypeId}
  (hu : (str = true ∧ P.underlying u = some .string ∧ sz = 1) ∨ (str = false ∧ ∃ e', P.underlying u = some (.slice e'))) :
  ∃ news : List Value, news.length = es.length * sz ∧ Els c.ro Pl.none es sz (news[·]?) ∧ Src P sz u cv es.length news w := by
 rcases hu with ⟨rfl, hu, rfl⟩ | ⟨rfl, e', hu⟩
 ·cases v <;> simp only [srcOf] at he <;> cases he
  rename_i l
  rw [hv.str_inv]
  have hl : (byteCells ⟨l.toArray⟩).length = (byteEls l).length * 1 := by simp [byteCells, byteEls]
  refine ⟨byteCells ⟨l.toArray⟩, hl, byteEls_els _ _ l, ?_⟩
  have := Src.ofString (P := P) w hu ⟨l.toArray⟩
  have e : (⟨l.toArray⟩ : ByteArray).size = (byteEls l).length := by simp [byteEls, ByteArray.size]
  rwa [e] at this
 ·simp only [srcOf] at he
  obtain ⟨news, a, cap, h1, h2, rfl, h3, h4⟩ := elemsOf_flat hh hv he
  exact ⟨news, h1, h2, src_of hu h1 (h2.one h1) h4⟩
theorem zeroCells_length (z : Array Value) (n : Nat) : (Builtin.zeroCells z n).size = n * z.size := by simp [Builtin.zeroCells]
theorem grown_ok {c : Ctx} {w : World} {h h' : List O} (hh : HRel c w h) (hlen : h'.length = h.length) (hh' : ∀ (i : Nat) (x : O), h'[i]? = some x → x.live → h[i]? = some x)
  {es : List (List V)} {sz : Nat} {l : List Value} (he : Els c.ro Pl.none es sz (l[·]?)) (hl : l.length = es.length * sz) (e : TypeId) (more : Array Value) :
  ∃ c', c'.m h.length = some ⟨w.heap.size, 0, l.length + more.size, false, e⟩ ∧ HRel c' (w.drew.alloc (.cells (l.toArray ++ more) e)) (h' ++ [.arr es sz]) ∧ Adv c w h c' (w.drew.alloc (.cells (l.toArray ++ more) e)) (h' ++ [.arr es sz]) := by
 have hsize : (w.drew.alloc (.cells (l.toArray ++ more) e)).heap = w.heap.push (.cells (l.toArray ++ more) e) := rfl
 have key1 : ∀ i q, Live h' i → c.m i = some q → q.null = false → q.block ≠ w.heap.size := by
  rintro i q ⟨x, hx, hxl⟩ hq hn he
  have := hh.owns_lt ⟨i, q, ⟨x, hh' i x hx hxl, hxl⟩, hq, hn, he⟩
  omega
 have key2 : c.ro w.heap.size = none := by
  cases hc : c.ro w.heap.size with
  | none => rfl
  | some cs =>
   obtain ⟨e, fr, hw⟩ := hh.ro _ _ hc
   have := (Array.getElem?_eq_some_iff.1 hw).1
   omega
 obtain ⟨h1, h2⟩ := hh.move (w' := w.drew.alloc (.cells (l.toArray ++ more) e)) (h' := h') (.arr es sz) ⟨w.heap.size, 0, l.length + more.size, false, e⟩ hlen hh' (fun _ => ⟨key1, key2, .inr (Nat.le_refl _)⟩) (by rw [hsize]; simp)
  (fun b hb _ => by rw [hsize, Array.getElem?_push, if_neg (by omega)]) rfl rfl rfl (fun m' hm => by
   have := arr_of_els (c := c) (es := es) (sz := sz) (cc := l.toArray ++ more) (b := w.heap.size) (m' := m') (w' := w.drew.alloc (.cells (l.toArray ++ more) e)) (e := e) (by
    have := els_arr (els_front he more.toList)
    have e1 : (l ++ more.toList).toArray = l.toArray ++ more := by simp
    rwa [e1] at this) (by rw [hsize]; simp) (by simp; omega)
   have e2 : (l.toArray ++ more).size = l.length + more.size := by simp
   rwa [e2] at this)
 exact ⟨_, by simp, h1, h2⟩
theorem nothing_ok {c : Ctx} {w : World} {h h' : List O} (hh : HRel c w h) (hlen : h'.length = h.length) (hh' : ∀ (i : Nat) (x : O), h'[i]? = some x → x.live → h[i]? = some x) (sz : Nat) :
  ∃ c' p, c'.m h.length = some p ∧ p.null = true ∧ HRel c' w (h' ++ [.arr [] sz]) ∧ Adv c w h c' w (h' ++ [.arr [] sz]) := by
 obtain ⟨h1, h2⟩ := hh.move (w' := w) (h' := h') (.arr [] sz) ⟨0, 0, 0, true, 0⟩ hlen hh' (fun h => by cases h) (Nat.le_refl _) (fun _ _ _ => rfl) rfl rfl rfl
  (fun m' hm => ⟨fun _ => rfl, fun e h => by simp at h, fun i h => by simp at h, fun h => by cases h⟩)
 exact ⟨_, ⟨0, 0, 0, true, 0⟩, by simp, rfl, h1, h2⟩
theorem set_gone {h : List O} {id : Nat} : ∀ (i : Nat) (x : O), (h.set id O.gone)[i]? = some x → x.live → h[i]? = some x := by
 intro i x hx hl
 by_cases e : id = i
 ·subst e
  rcases Nat.lt_or_ge id h.length with h1 | h1
  ·rw [List.getElem?_set_self h1] at hx; cases hx; exact hl.elim
  ·rw [List.getElem?_eq_none (by simpa using h1)] at hx; cases hx
 ·rwa [List.getElem?_set_ne e] at hx
def OkX (P : Program) (c : Ctx) (w : World) (h : List O) (s : Sem Value) (v : V) (h' : List O) (X : Ctx → Prop) : Prop :=
 ∃ cv w' c', s.run P w = .ok cv w' ∧ VRel c'.ro c'.m v cv ∧ HRel c' w' h' ∧ Adv c w h c' w' h' ∧ X c'
theorem OkX.ok {P c w h s v h' X} (hk : OkX P c w h s v h' X) : Ok P c w h s v h' := by obtain ⟨a, b, d, h1, h2, h3, h4, _⟩ := hk; exact ⟨a, b, d, h1, h2, h3, h4⟩
def AppX (P : Program) (c : Ctx) (h : List O) (t : TypeId) (xv : V) (c' : Ctx) : Prop :=
 ∃ q e, c'.m h.length = some q ∧ P.underlying t = some (.slice e) ∧ (q.null = false → (q.ty = e ∧ q.base = 0) ∨ ∃ id off len s k p, xv = .sl id off len s k ∧ c.m id = some p ∧ p.null = false ∧ q.ty = p.ty ∧ q.base = p.base + off * s)
theorem sound_appendX {P : Program} {c w h} (hh : HRel c w h) {t u ty : TypeId} {sz bytes : Nat} {z : List V} {str : Bool} (hel : cElem P t = some (sz, z, bytes)) (hbp : 0 < bytes)
  (hu : (str = true ∧ P.underlying u = some .string ∧ sz = 1) ∨ (str = false ∧ ∃ e', P.underlying u = some (.slice e')))
  {xv yv : V} {xc yc : Value} (hx : VRel c.ro c.m xv xc) (hy : VRel c.ro c.m yv yc) {v h'} (hs : appendV h xv yv sz bytes str = some (v, h')) :
  OkX P c w h (Builtin.append_ #[t, u] ty #[xc, yc]) v h' (AppX P c h t xv) := by
 obtain ⟨e, i, hut, hi, his, hib, hpos, hzl, hz⟩ := cElem_spec hel
 obtain ⟨i', zz, hi', hzz, z1, z2, z3⟩ := cZero_spec hz
 rw [hi] at hi'; cases hi'
 have hzs : zz.cells.size = sz := by omega
 simp only [appendV] at hs
 split at hs
 case h_1 => cases hs
 case h_2 es he =>
  obtain ⟨news, n1, n2, n3⟩ := src_sound (P := P) hh hy he hu
  rw [← his] at n3
  have small : ∀ n, n * bytes ≤ 70368744177664 → n ≤ 70368744177664 := fun n hn => Nat.le_trans (Nat.le_mul_of_pos_right n hbp) hn
  -- a new row is made
  have grows : ∀ (a : Option Addr) (len cap : Nat) (olds : List Value) (oes : List (List V)) (h1 : List O), h1.length = h.length → (∀ (i : Nat) (x : O), h1[i]? = some x → x.live → h[i]? = some x) →
    olds.length = oes.length * sz → oes.length = len → Els c.ro Pl.none oes sz (olds[·]?) → (Builtin.firstCells i.size len (.slice a len cap)).run P w.drew = .ok olds.toArray w.drew →
    cap < len + es.length → (len + es.length) * bytes ≤ 70368744177664 → ∀ (hn : len + es.length = (oes ++ es).length),
    OkX P c w h (Builtin.append_ #[t, u] ty #[.slice a len cap, yc]) (.sl h.length 0 (len + es.length) sz none) (h1 ++ [.arr (oes ++ es) sz]) (AppX P c h t xv) := by
   intro a len cap olds oes h1 hl1 hh1 ho1 ho2 ho3 hold hcap hb hn
   have hcap' := grownCap_ge w (len + es.length) cap e
   have he' := els_append ho3 ho1 n2 n1
   obtain ⟨c', k1, k2, k3⟩ := grown_ok hh hl1 hh1 he' (by simp [ho1, n1, Nat.add_mul]) e (Builtin.zeroCells zz.cells (grownCap w (len + es.length) cap e - (len + es.length)))
   have hrun := run_append_grow_src (P := P) w t u ty e i zz hut hi hzz a len cap olds hold yc es.length news n3 hcap
    (by have := small _ hb; omega) (growslice_fits hcap (by rw [hib]; omega))
   refine ⟨_, _, c', hrun, ?_, k2, k3, _, e, k1, hut, fun _ => .inl ⟨rfl, rfl⟩⟩
   refine .sl _ _ _ _ _ _ 0 _ _ k1 rfl hcap' (.inl (by simp)) (fun _ => ?_) (fun x hx => by cases hx)
   simp only [zeroCells_length, List.length_append, ho1, n1, hzs, Nat.zero_add, Nat.zero_mul, ho2]
   rw [← Nat.add_mul, ← Nat.add_mul]
   exact Nat.mul_le_mul_right _ (by omega)
  have keep : ∀ (i : Nat) (x : O), h[i]? = some x → x.live → h[i]? = some x := fun _ _ h _ => h
  -- a list without room and without elements
  have empty : ∀ (a : Option Addr) (h1 : List O), h1.length = h.length → (∀ (i : Nat) (x : O), h1[i]? = some x → x.live → h[i]? = some x) → es.length * bytes ≤ 70368744177664 →
    OkX P c w h (Builtin.append_ #[t, u] ty #[.slice a 0 0, yc]) (.sl h.length 0 es.length sz none) (h1 ++ [.arr es sz]) (AppX P c h t xv) := by
   intro a h1 hl1 hh1 hb
   rcases Nat.eq_zero_or_pos es.length with h0 | h0
   ·have hes : es = [] := List.eq_nil_of_length_eq_zero h0
    subst hes
    have hnn : news = [] := by simpa using n1
    subst hnn
    obtain ⟨c', p, k1, k2, k3, k4⟩ := nothing_ok hh hl1 hh1 sz
    refine ⟨_, w, c', run_append_nothing w t u ty e i hut hi a 0 0 (Nat.le_refl _) yc n3, ?_, k3, k4, p, e, k1, hut, fun h => by rw [k2] at h; cases h⟩
    exact .slnil _ _ _ p _ k1 k2
   ·have := grows a 0 0 [] [] h1 hl1 hh1 (by simp) rfl ⟨fun i h => by simp at h, fun e h => by simp at h, fun i h => by simp at h⟩
     (by cases a with
      | none => exact run_firstCells_none w.drew i.size 0 0 0
      | some a => exact run_firstCells_some w.drew i.size 0 a 0 0 [] (by simp) (fun j v h => by simp at h)) (by omega) (by rw [Nat.zero_add]; exact hb) (by simp)
    simpa using this
  split at hs
  ·split at hs <;> cases hs
   rw [hx.nils_inv]
   exact empty none h rfl keep (by assumption)
  ·split at hs <;> cases hs
   obtain ⟨a, rfl⟩ := hx.zs_inv
   exact empty a h rfl keep (by assumption)
  ·rename_i id off len s k
   split at hs
   case isFalse => cases hs
   case isTrue e0 =>
    subst e0
    split at hs
    case h_2 => cases hs
    case h_1 old s' hid =>
     split at hs
     case isFalse => cases hs
     case isTrue hc =>
      obtain ⟨rfl, hend, hb⟩ := hc
      cases hs
      have hlg : (h.set id O.gone).length = h.length := by simp
      have hdl : (old.drop off).length = len := by simp; omega
      rcases hx.sl_inv with ⟨p, cap, o, hp, hn, hcap, ho, hto, hk, rfl⟩ | ⟨p, a, hp, hn, rfl, rfl, rfl, rfl⟩
      ·obtain ⟨cc, e', fr, hw, q1, q2, q3, hl, hones, q4, q5⟩ := arr_cells hh hid hp hn
       rcases Nat.eq_zero_or_pos cap with h0 | h0
       ·-- no room at all
        have hl0 : len = 0 := by omega
        subst hl0
        subst h0
        have hd : old.drop off = [] := List.eq_nil_of_length_eq_zero hdl
        rw [hd]
        have := empty (some ⟨p.block, o, none⟩) (h.set id O.gone) hlg set_gone (by simpa using hb)
        simpa using this
       ·have ho' : o = p.base + off * s' := by rcases ho with h | h; exact h; omega
        have htop := hto h0
        have holdEls : ∀ i (hi : i < (old.drop off).length) j (hj : j < (old.drop off)[i].length), ∃ x, w.cell? ⟨p.block, o + i * s' + j, none⟩ = some x ∧ VRel c.ro Pl.none (old.drop off)[i][j] x := by
         intro i hi j hj
         simp only [List.getElem_drop] at hj ⊢
         obtain ⟨x, hx, hv⟩ := q4 (off + i) (by simp at hi; omega) j hj
         refine ⟨x, ?_, hv⟩
         rw [cell_of_heap hw, ho', ← hx]
         congr 1
         rw [Nat.add_mul]; omega
        have hdlen : ∀ i (hi : i < (old.drop off).length), (old.drop off)[i].length = s' := fun i hi => by simp at hi; simp [hl (off + i) (by omega)]
        have hdones : ∀ x ∈ old.drop off, V.ones x = true := fun x hx => hones x (List.mem_of_mem_drop hx)
        obtain ⟨olds, o1, o2, o3⟩ := flat_range (ro := c.ro) (m := Pl.none) (w := w) (b := p.block) (o := o) (sz := s') (es := old.drop off) hdlen hdones holdEls
        by_cases hroom : len + es.length ≤ cap
        ·-- in its place
         have hfit : o + len * s' + news.length ≤ cc.size := by
          rw [n1, Nat.add_assoc, ← Nat.add_mul, q1, ho']
          have := Nat.mul_le_mul_right s' hroom
          omega
         have hrun := run_append_room_src (P := P) w t u ty e i hut hi p.block o len cap yc es.length news n3 hroom
          (fun j hj => by rw [cell_of_heap hw, Array.getElem?_eq_getElem (by rw [his]; omega)]; rfl)
          (fun j hj => frozen_of_heap hw (q5 _ (by rw [his]; omega)))
         rw [his] at hrun
         obtain ⟨cc', g1, g2, g3⟩ := setCells_heap news w p.block (o + len * s') cc e' fr hw hfit
         obtain ⟨r1, r2, r3, r4⟩ := setCells_rest news w p.block (o + len * s')
         have hlive : Live h id := ⟨_, hid, trivial⟩
         have hrop : c.ro p.block = none := by
          obtain ⟨q, hq, _, h3⟩ := hh.obj id _ hid trivial
          rw [hp] at hq; cases hq; exact h3 hn
         have htot : ((old.drop off) ++ es).length = len + es.length := by simp; omega
         obtain ⟨s1, s2⟩ := hh.move (w' := w.setCells p.block (o + len * s') news) (h' := h.set id O.gone) (.arr (old.drop off ++ es) s') ⟨p.block, o, p.top, false, p.ty⟩ hlg set_gone
          (fun _ => ⟨fun i2 q2 hl2 hq2 hn2 he2 => by
           obtain ⟨x, hx, hxl⟩ := hl2
           have hx' := set_gone i2 x hx hxl
           have := hh.inj i2 id q2 p ⟨x, hx', hxl⟩ hlive hq2 hp hn2 hn he2
           subst this
           rw [List.getElem?_set_self (List.getElem?_eq_some_iff.1 hid).1] at hx
           cases hx; exact hxl, hrop, .inl ⟨id, p, hlive, hp, hn, rfl⟩⟩)
          (by rw [r1]; exact Nat.le_refl _) (fun b hb hne => setCells_other _ _ _ _ _ (hne rfl)) r2 r3 r4 (fun m' hm => by
           refine ⟨fun h => (by cases h), ?_, ?_, fun _ => ⟨cc', ⟨rfl, by simp only; omega, by simp only; omega, e', fr, g1, q5⟩, ?_, ?_⟩⟩
           ·intro x hx
            rcases List.mem_append.1 hx with hx | hx
            ·exact hdones x hx
            ·exact n2.ones x hx
           ·intro i2 hi2
            rw [List.getElem_append]; split
            ·exact hdlen _ _
            ·exact n2.len _ _
           ·simp only [htot]
            rw [ho']
            have := Nat.mul_le_mul_right s' hroom
            omega
           ·intro i2 hi2 j hj
            simp only
            rcases Nat.lt_or_ge i2 len with h1 | h1
            ·have e1 : (old.drop off ++ es)[i2] = (old.drop off)[i2]'(by omega) := List.getElem_append_left (by omega)
             simp only [e1] at hj ⊢
             obtain ⟨x, hx, hv⟩ := holdEls i2 (by omega) j hj
             refine ⟨x, ?_, hv⟩
             rw [cell_of_heap hw] at hx
             have hms := mul_step (s := s') h1
             have := hdlen i2 (by omega)
             rw [g3 _ (Array.getElem?_eq_some_iff.1 hx).1, if_neg (by omega)]
             exact hx
            ·have e1 : (old.drop off ++ es)[i2] = es[i2 - len]'(by rw [htot] at hi2; omega) := by
              rw [List.getElem_append_right (by omega)]; simp only [hdl]
             simp only [e1] at hj ⊢
             have hi3 : i2 - len < es.length := by rw [htot] at hi2; omega
             obtain ⟨x, hx, hv⟩ := n2.rel (i2 - len) hi3 j hj
             refine ⟨x, ?_, hv⟩
             have hlt := (List.getElem?_eq_some_iff.1 hx).1
             have e2 : i2 * s' = len * s' + (i2 - len) * s' := by rw [← Nat.add_mul]; congr 1; omega
             rw [g3 _ (by omega), if_pos (by omega), ← hx]
             congr 1; omega)
         refine ⟨_, _, _, hrun, ?_, s1, s2, ⟨p.block, o, p.top, false, p.ty⟩, e, by simp, hut, fun _ => .inr ⟨id, off, len, s', k, p, rfl, hp, hn, rfl, ho'⟩⟩
         exact .sl _ _ _ _ _ _ o _ ⟨p.block, o, p.top, false, p.ty⟩ (by simp) rfl hroom (.inl (by simp)) (fun _ => by simp only [Nat.zero_mul, Nat.add_zero]; rw [ho']; omega) (fun x hx => by cases hx)
        ·have := grows (some ⟨p.block, o, none⟩) len cap olds (old.drop off) (h.set id O.gone) hlg set_gone o1 hdl o2
          (run_firstCells_some w.drew i.size len ⟨p.block, o, none⟩ len cap olds (by rw [o1, hdl, his]) (fun j v hj => by rw [Addr.add_mid]; exact o3 j v hj)) (by omega) hb (by simp; omega)
         exact this
      ·-- at no place
       have hold : old = [] := by
        obtain ⟨q, hq, ⟨hnul, _⟩, _⟩ := hh.obj id _ hid trivial
        rw [hp] at hq; cases hq
        exact hnul hn
       subst hold
       have := empty a (h.set id O.gone) hlg set_gone (by simpa using hb)
       simpa using this
  ·cases hs
theorem sound_append {P : Program} {c w h} (hh : HRel c w h) {t u ty : TypeId} {sz bytes : Nat} {z : List V} {str : Bool} (hel : cElem P t = some (sz, z, bytes)) (hbp : 0 < bytes)
  (hu : (str = true ∧ P.underlying u = some .string ∧ sz = 1) ∨ (str = false ∧ ∃ e', P.underlying u = some (.slice e')))
  {xv yv : V} {xc yc : Value} (hx : VRel c.ro c.m xv xc) (hy : VRel c.ro c.m yv yc) {v h'} (hs : appendV h xv yv sz bytes str = some (v, h')) :
  Ok P c w h (Builtin.append_ #[t, u] ty #[xc, yc]) v h' := (sound_appendX hh hel hbp hu hx hy hs).ok
set_option linter.unusedSimpArgs false
set_option linter.unusedVariables false
theorem mk_toList (l : List UInt8) : (ByteArray.mk l.toArray).toList = l := ByteArray.toList_mk l
theorem eqGuard_plain {P : Program} {w : World} (op : BinOp) (t : TypeId) (x y : Operand) {a b : Value} (ha : ∀ l, a ≠ .agg l) (hi : a ≠ .nilIface) : (eqGuard op t x y a b).run P w = .ok () w := by
 unfold eqGuard
 cases op <;> (first | rfl | (cases a <;> first | rfl | (exact absurd rfl hi) | (exact absurd rfl (ha _))))
theorem sound_bin {P : Program} {c w h} (hh : HRel c w h) {op : BinOp} {t : TypeId} {x y : Operand} {xv yv : V} {xc yc : Value} (hx : VRel c.ro c.m xv xc) (hy : VRel c.ro c.m yv yc) {v : V} (hs : aBin op xv yv = some v) :
  Ok P c w h (do eqGuard op t x y xc yc; binOp op t xc yc) v h := by
 unfold aBin at hs
 split at hs
 ·rename_i k a k' b
  rw [hx.int_inv, hy.int_inv]
  have hg := eqGuard_plain (P := P) (w := w) op t x y (a := .int k a) (b := .int k' b) (fun l h => by cases h) (fun h => by cases h)
  split at hs
  ·split at hs <;> cases hs
   refine Ok.of_same hh (cv := .int k (k.wrap (a * 2 ^ (min b.toNat k.bits)))) ?_ (.int ..)
   have hb : ¬ b < 0 := by omega
   simp [Sem.run_bind, hg, binOp, Op.shift, hb]
  ·split at hs <;> cases hs
   refine Ok.of_same hh (cv := .int k (a.fdiv (2 ^ (min b.toNat k.bits)))) ?_ (.int ..)
   have hb : ¬ b < 0 := by omega
   simp [Sem.run_bind, hg, binOp, Op.shift, hb]
  ·split at hs
   case isFalse => cases hs
   case isTrue e =>
    subst e
    split at hs
    ·cases hs; exact Ok.of_same hh (by simp [Sem.run_bind, hg, binOp, Op.intArith]) (.int ..)
    ·cases hs; exact Ok.of_same hh (by simp [Sem.run_bind, hg, binOp, Op.intArith]) (.int ..)
    ·cases hs; exact Ok.of_same hh (by simp [Sem.run_bind, hg, binOp, Op.intArith]) (.int ..)
    ·split at hs <;> cases hs
     rename_i hb
     exact Ok.of_same hh (by simp [Sem.run_bind, hg, binOp, Op.intDiv, hb]) (.int ..)
    ·split at hs <;> cases hs
     rename_i hb
     exact Ok.of_same hh (by simp [Sem.run_bind, hg, binOp, Op.intDiv, hb]) (.int ..)
    ·cases hs; exact Ok.of_same hh (by simp [Sem.run_bind, hg, binOp, Op.intBits, iAnd, iOr, iXor, iAndNot]) (.int ..)
    ·cases hs; exact Ok.of_same hh (by simp [Sem.run_bind, hg, binOp, Op.intBits, iAnd, iOr, iXor, iAndNot]) (.int ..)
    ·cases hs; exact Ok.of_same hh (by simp [Sem.run_bind, hg, binOp, Op.intBits, iAnd, iOr, iXor, iAndNot]) (.int ..)
    ·cases hs; exact Ok.of_same hh (by simp [Sem.run_bind, hg, binOp, Op.intBits, iAnd, iOr, iXor, iAndNot]) (.int ..)
    ·cases hs
     refine Ok.of_same hh (cv := .bool (a == b)) (by simp [Sem.run_bind, hg, binOp, Op.intCmp]) ?_
     rw [show (a == b) = decide (a = b) from rfl]; exact .bool ..
    ·cases hs
     refine Ok.of_same hh (cv := .bool (a != b)) (by simp [Sem.run_bind, hg, binOp, Op.intCmp]) ?_
     rw [show (a != b) = (!decide (a = b)) from rfl]; exact .bool ..
    ·cases hs; exact Ok.of_same hh (cv := .bool (decide (a < b))) (by simp [Sem.run_bind, hg, binOp, Op.intCmp]) (.bool ..)
    ·cases hs; exact Ok.of_same hh (cv := .bool (decide (a ≤ b))) (by simp [Sem.run_bind, hg, binOp, Op.intCmp]) (.bool ..)
    ·cases hs; exact Ok.of_same hh (cv := .bool (decide (b < a))) (by simp [Sem.run_bind, hg, binOp, Op.intCmp]) (.bool ..)
    ·cases hs; exact Ok.of_same hh (cv := .bool (decide (b ≤ a))) (by simp [Sem.run_bind, hg, binOp, Op.intCmp]) (.bool ..)
    ·cases hs
 ·rename_i a b
  rw [hx.str_inv, hy.str_inv]
  have hg := eqGuard_plain (P := P) (w := w) op t x y (a := .string ⟨a.toArray⟩) (b := .string ⟨b.toArray⟩) (fun l h => by cases h) (fun h => by cases h)
  have he : ∀ (p q : List UInt8), (p == q) = decide (p = q) := fun p q => by
   by_cases h : p = q <;> simp [h]
  split at hs
  ·split at hs <;> cases hs
   rename_i hl
   refine Ok.of_same hh (cv := .string ⟨(a ++ b).toArray⟩) ?_ (.str ..)
   have h2 : ¬ ((a.length : Int) + (b.length : Int) > IntKind.i64.max) := by
    have : IntKind.i64.max = 9223372036854775807 := by decide
    rw [this]; omega
   have h3 : (a.length : Int) + (b.length : Int) ≤ 9223372036854775807 := by omega
   have hsz : ∀ l : List UInt8, (ByteArray.mk l.toArray).size = l.length := fun l => by simp [ByteArray.size]
   have happ : (ByteArray.mk a.toArray) ++ (ByteArray.mk b.toArray) = ⟨(a ++ b).toArray⟩ := by
    apply ByteArray.ext; simp
   simp [Sem.run_bind, hg, binOp, Op.stringOp, hsz, h2, happ, h3]
  ·cases hs
   refine Ok.of_same hh (cv := .bool (a == b)) (by simp [Sem.run_bind, hg, binOp, Op.stringOp, mk_toList]) ?_
   rw [he]; exact .bool ..
  ·cases hs
   refine Ok.of_same hh (cv := .bool (!(a == b))) (by simp [Sem.run_bind, hg, binOp, Op.stringOp, mk_toList]) ?_
   rw [he]; exact .bool ..
  ·cases hs; exact Ok.of_same hh (cv := .bool (Op.bytesLess a b)) (by simp [Sem.run_bind, hg, binOp, Op.stringOp, mk_toList]) (.bool ..)
  ·cases hs
   refine Ok.of_same hh (cv := .bool (Op.bytesLess a b || (a == b))) (by simp [Sem.run_bind, hg, binOp, Op.stringOp, mk_toList]) ?_
   rw [he]; exact .bool ..
  ·cases hs
   refine Ok.of_same hh (cv := .bool (!(Op.bytesLess a b || (a == b)))) (by simp [Sem.run_bind, hg, binOp, Op.stringOp, mk_toList]) ?_
   rw [he]; exact .bool ..
  ·cases hs; exact Ok.of_same hh (cv := .bool (!Op.bytesLess a b)) (by simp [Sem.run_bind, hg, binOp, Op.stringOp, mk_toList]) (.bool ..)
  ·cases hs
 ·cases hs
theorem equal_gen {P : Program} {w : World} {t : TypeId} {k : Nat} (hk : cEq P t = some k) {c : Ctx} {xv yv : V} {xc yc : Value} (hx : VRel c.ro c.m xv xc) (hy : VRel c.ro c.m yv yc) {b : Bool} (hs : aEq k xv yv = some b) :
  (∀ d, (Op.equalIn (d + 1) t xc yc).run P w = .ok b w) ∧ (∀ l, xc ≠ .agg l) ∧ xc ≠ .nilIface ∧ (∀ k n, xc ≠ .int k n) ∧ (∀ s, xc ≠ .string s) ∧ (∀ k n, xc ≠ .float k n) ∧ (∀ k n m, xc ≠ .complex k n m) := by
 have hu := hk
 unfold cEq at hu
 unfold aEq at hs
 split at hs <;> try (cases hs; done)
 all_goals (split at hs <;> cases hs; rename_i hkk; first | subst hkk | (obtain ⟨hkk, hkk2, hkk3⟩ := hkk; subst hkk; subst hkk2; subst hkk3))
 all_goals (split at hu <;> try (first | (cases hu; done) | (split at hu <;> cases hu; done)))
 all_goals try rename_i hut
 ·rw [hx.bool_inv, hy.bool_inv]; (refine ⟨fun d => ?_, ?_, ?_, ?_, ?_, ?_, ?_⟩ <;> simp [Op.equalIn, run_underlying hut])
 ·rw [hx.nilp_inv, hy.nilp_inv]; (refine ⟨fun d => ?_, ?_, ?_, ?_, ?_, ?_, ?_⟩ <;> simp [Op.equalIn, run_underlying hut])
 ·obtain ⟨e, j, hut, hj⟩ : ∃ e j, P.underlying t = some (.pointer e) ∧ P.info? e = some j := by
   split at hu
   ·rename_i h; obtain ⟨j, hj⟩ := Option.isSome_iff_exists.1 h; exact ⟨_, j, hut, hj⟩
   ·cases hu
  obtain ⟨p, h1, h2, rfl⟩ := hx.ptr_inv; obtain ⟨q, h3, h4, rfl⟩ := hy.ptr_inv
  rw [h1] at h3; cases h3
  refine ⟨fun d => ?_, ?_, ?_, ?_, ?_, ?_, ?_⟩ <;> simp [Op.equalIn, run_underlying hut, Go.sizeOf, typeInfo, hj, run_sameAddr_same]
 ·obtain ⟨p, h1, h2, rfl⟩ := hy.ptr_inv; rw [hx.nilp_inv]; (refine ⟨fun d => ?_, ?_, ?_, ?_, ?_, ?_, ?_⟩ <;> simp [Op.equalIn, run_underlying hut])
 ·obtain ⟨b', o, cs, f, h1, h2, h3, rfl⟩ := hy.rptr_inv; rw [hx.nilp_inv]; (refine ⟨fun d => ?_, ?_, ?_, ?_, ?_, ?_, ?_⟩ <;> simp [Op.equalIn, run_underlying hut])
 ·obtain ⟨p, h1, h2, rfl⟩ := hx.ptr_inv; rw [hy.nilp_inv]; (refine ⟨fun d => ?_, ?_, ?_, ?_, ?_, ?_, ?_⟩ <;> simp [Op.equalIn, run_underlying hut])
 ·obtain ⟨b', o, cs, f, h1, h2, h3, rfl⟩ := hx.rptr_inv; rw [hy.nilp_inv]; (refine ⟨fun d => ?_, ?_, ?_, ?_, ?_, ?_, ?_⟩ <;> simp [Op.equalIn, run_underlying hut])
 ·rw [hx.nils_inv, hy.nils_inv]; (refine ⟨fun d => ?_, ?_, ?_, ?_, ?_, ?_, ?_⟩ <;> simp [Op.equalIn, run_underlying hut])
 ·rcases hx.vs_inv with ⟨b', o, cap, cs, f, _, _, _, _, _, _, rfl⟩ | ⟨a, h, _⟩
  ·rw [hy.nils_inv]; (refine ⟨fun d => ?_, ?_, ?_, ?_, ?_, ?_, ?_⟩ <;> simp [Op.equalIn, run_underlying hut])
  ·cases h
 ·rcases hy.vs_inv with ⟨b', o, cap, cs, f, _, _, _, _, _, _, rfl⟩ | ⟨a, h, _⟩
  ·rw [hx.nils_inv]; (refine ⟨fun d => ?_, ?_, ?_, ?_, ?_, ?_, ?_⟩ <;> simp [Op.equalIn, run_underlying hut])
  ·cases h
 ·rw [hx.nilf_inv, hy.nilf_inv]; (refine ⟨fun d => ?_, ?_, ?_, ?_, ?_, ?_, ?_⟩ <;> simp [Op.equalIn, run_underlying hut])
 ·obtain ⟨cs, rfl, _⟩ := hy.fn_inv; rw [hx.nilf_inv]; (refine ⟨fun d => ?_, ?_, ?_, ?_, ?_, ?_, ?_⟩ <;> simp [Op.equalIn, run_underlying hut])
 ·obtain ⟨cs, rfl, _⟩ := hx.fn_inv; rw [hy.nilf_inv]; (refine ⟨fun d => ?_, ?_, ?_, ?_, ?_, ?_, ?_⟩ <;> simp [Op.equalIn, run_underlying hut])
 ·rw [hx.nilm_inv, hy.nilm_inv]; (refine ⟨fun d => ?_, ?_, ?_, ?_, ?_, ?_, ?_⟩ <;> simp [Op.equalIn, run_underlying hut])
 ·cases hy; rw [hx.nilm_inv]; (refine ⟨fun d => ?_, ?_, ?_, ?_, ?_, ?_, ?_⟩ <;> simp [Op.equalIn, run_underlying hut])
 ·cases hx; rw [hy.nilm_inv]; (refine ⟨fun d => ?_, ?_, ?_, ?_, ?_, ?_, ?_⟩ <;> simp [Op.equalIn, run_underlying hut])
theorem equal_run {P : Program} {w : World} {t : TypeId} {k : Nat} (hk : cEq P t = some k) {c : Ctx} {xv yv : V} {xc yc : Value} (hx : VRel c.ro c.m xv xc) (hy : VRel c.ro c.m yv yc) {b : Bool} (hs : aEq k xv yv = some b) :
  (Op.equal t xc yc).run P w = .ok b w ∧ (∀ l, xc ≠ .agg l) ∧ xc ≠ .nilIface ∧ (∀ k n, xc ≠ .int k n) ∧ (∀ s, xc ≠ .string s) ∧ (∀ k n, xc ≠ .float k n) ∧ (∀ k n m, xc ≠ .complex k n m) :=
 let ⟨h1, h2⟩ := equal_gen (w := w) hk hx hy hs
 ⟨h1 9999, h2⟩
theorem sound_eq {P : Program} {c w h} (hh : HRel c w h) {op : BinOp} (hop : op = .eql ∨ op = .neq) {t : TypeId} {k : Nat} (hk : cEq P t = some k) {x y : Operand} {xv yv : V} {xc yc : Value} (hx : VRel c.ro c.m xv xc) (hy : VRel c.ro c.m yv yc) {b : Bool}
  (hs : aEq k xv yv = some b) : Ok P c w h (do eqGuard op t x y xc yc; binOp op t xc yc) (.bool (if isNeq op = true then !b else b)) h := by
 obtain ⟨h1, h2, h3, h4, h5, h6, h7⟩ := equal_run (w := w) hk hx hy hs
 have hg := eqGuard_plain (P := P) (w := w) op t x y (a := xc) (b := yc) h2 h3
 have hb : ∀ op, op = BinOp.eql ∨ op = .neq → (binOp op t xc yc).run P w = .ok (.bool (if isNeq op = true then !b else b)) w := by
  rintro op (rfl | rfl)
  ·cases xc <;> cases yc <;> first
    | (exact absurd rfl (h4 _ _)) | (exact absurd rfl (h5 _)) | (exact absurd rfl (h6 _ _)) | (exact absurd rfl (h7 _ _ _))
    | (simp [binOp, Sem.run_bind, h1, isNeq]; done)
  ·cases xc <;> cases yc <;> first
    | (exact absurd rfl (h4 _ _)) | (exact absurd rfl (h5 _)) | (exact absurd rfl (h6 _ _)) | (exact absurd rfl (h7 _ _ _))
    | (simp [binOp, Sem.run_bind, h1, isNeq]; done)
 exact Ok.of_same hh (by rw [Sem.run_bind, hg, Result.andThen_ok]; exact hb op hop) (.bool ..)
theorem cPrim_spec {P : Program} {t : TypeId} {k : Nat} (h : cPrim P t = some k) : (k = 0 ∧ P.underlying t = some .bool) ∨ (k = 1 ∧ ∃ q, P.underlying t = some (.int q)) ∨ (k = 2 ∧ P.underlying t = some .string) := by
 unfold cPrim at h
 split at h <;> cases h
 ·exact .inl ⟨rfl, by assumption⟩
 ·exact .inr (.inl ⟨rfl, _, by assumption⟩)
 ·exact .inr (.inr ⟨rfl, by assumption⟩)
theorem eq1_run {P : Program} {w : World} {c : Ctx} (d : Nat) {t : TypeId} {k : Nat} (hk : (k = 0 ∧ P.underlying t = some .bool) ∨ (k = 1 ∧ ∃ q, P.underlying t = some (.int q)) ∨ (k = 2 ∧ P.underlying t = some .string)) {x y : V} {cx cy : Value}
  (hx : VRel c.ro c.m x cx) (hy : VRel c.ro c.m y cy) {r : Bool} (h : eq1 k x y = some r) : (Op.equalIn (d + 1) t cx cy).run P w = .ok r w := by
 unfold eq1 at h
 split at h
 ·split at h <;> cases h
  rename_i e; subst e
  rw [hx.int_inv, hy.int_inv]
  rcases hk with ⟨h0, _⟩ | ⟨_, q, hu⟩ | ⟨h0, _⟩
  ·omega
  ·rw [run_equalIn_int w d t _ q _ _ hu]; rfl
  ·omega
 ·cases h
  rw [hx.bool_inv, hy.bool_inv]
  rcases hk with ⟨_, hu⟩ | ⟨h0, _⟩ | ⟨h0, _⟩
  ·exact run_equalIn_bool' w d t _ _ hu
  ·omega
  ·omega
 ·cases h
  rename_i a b
  rw [hx.str_inv, hy.str_inv]
  rcases hk with ⟨h0, _⟩ | ⟨h0, _⟩ | ⟨_, hu⟩
  ·omega
  ·omega
  ·rw [run_equalIn_string w d t _ _ hu, mk_toList, mk_toList]
   by_cases e : a = b <;> simp [e]
 ·cases h
theorem eqCells_app : ∀ (k1 : List Nat) {k2 : List Nat} {a b : List V} {r : Bool}, eqCells (k1 ++ k2) a b = some r →
  ∃ p q, eqCells k1 (a.take k1.length) (b.take k1.length) = some p ∧ eqCells k2 (a.drop k1.length) (b.drop k1.length) = some q ∧ r = (p && q) ∧ k1.length ≤ a.length ∧ k1.length ≤ b.length
 | [], k2, a, b, r, h => ⟨true, r, rfl, h, by simp, by simp, by simp⟩
 | k :: k1, k2, [], b, r, h => by simp [eqCells] at h
 | k :: k1, k2, _ :: _, [], r, h => by simp [eqCells] at h
 | k :: k1, k2, x :: a, y :: b, r, h => by
  simp only [List.cons_append, eqCells] at h
  split at h <;> cases h
  rename_i p q hp hq
  obtain ⟨p', q', h1, h2, rfl, h4, h5⟩ := eqCells_app k1 hq
  exact ⟨p && p', q', by simp [eqCells, hp, h1], by simpa using h2, by simp [Bool.and_assoc], by simpa using h4, by simpa using h5⟩
theorem eqFields_run {P : Program} {w : World} {ro : Ro} {m : Pl} (d : Nat) {xs ys : Array Value} {a b : List V} (ha : VRels ro m a xs) (hb : VRels ro m b ys) {rec : TypeId → Option (List Nat)}
  (hrec : ∀ {t ks} {a b : List V} {xs ys : Array Value} {r : Bool}, rec t = some ks → VRels ro m a xs → VRels ro m b ys → eqCells ks a b = some r → (Op.equalIn (d + 1) t (.agg xs) (.agg ys)).run P w = .ok r w) :
  ∀ (fs : List Field) (i : Nat) (ks : List Nat) {r : Bool}, cFlatF P rec fs i = some ks → eqCells ks (a.drop i) (b.drop i) = some r → (Op.eqFields (d + 1) xs ys fs).run P w = .ok r w
 | [], i, ks, r, hk, he => by
  simp [cFlatF] at hk; subst hk
  cases hx : a.drop i with
  | nil => cases hy : b.drop i with
   | nil => simp [hx, hy, eqCells] at he; subst he; simp [Op.eqFields]
   | cons => simp [hx, hy, eqCells] at he
  | cons => simp [hx, eqCells] at he
 | f :: fs, i, ks, r, hk, he => by
  simp only [cFlatF] at hk
  split at hk
  case isFalse => cases hk
  case isTrue hfo =>
  simp only [Bool.and_eq_true, bne_iff_ne, beq_iff_eq] at hfo
  obtain ⟨hf1, hf2⟩ := hfo
  split at hk
  case h_1 k hpr =>
   split at hk <;> cases hk
   rename_i l hl
   have h3 := cPrim_spec hpr
   have hka : ∀ x : List V, x.drop i = x.drop i := fun _ => rfl
   cases hx : a.drop i with
   | nil => simp [hx, eqCells] at he
   | cons x a' =>
    cases hy : b.drop i with
    | nil => simp [hx, hy, eqCells] at he
    | cons y b' =>
     simp only [hx, hy, eqCells] at he
     split at he <;> cases he
     rename_i p q hp hq
     have hax : a[i]? = some x := by have := congrArg (·[0]?) hx; simpa using this
     have hby : b[i]? = some y := by have := congrArg (·[0]?) hy; simpa using this
     have hadr : a.drop (i + 1) = a' := by have := congrArg (List.drop 1) hx; simpa using this
     have hbdr : b.drop (i + 1) = b' := by have := congrArg (List.drop 1) hy; simpa using this
     have ih := eqFields_run d ha hb (fun {t ks a b xs ys r} => hrec (t := t)) fs (i + 1) l hl (r := q) (by rw [hadr, hbdr]; exact hq)
     have hagg : (isAgg f.type).run P w = .ok false w := by
      unfold isAgg
      rcases h3 with ⟨_, hu⟩ | ⟨_, q, hu⟩ | ⟨_, hu⟩ <;> rw [Sem.run_bind, run_underlying hu w] <;> rfl
     have hpart : ∀ {u : List V} {zs : Array Value} {z : V}, VRels ro m u zs → u[i]? = some z → ∃ cz, (part f.type zs f.offset).run P w = .ok cz w ∧ VRel ro m z cz := by
      intro u zs z hv hz
      obtain ⟨hlt, rfl⟩ := List.getElem?_eq_some_iff.1 hz
      have hlt' : i < zs.size := by rw [← hv.1]; exact hlt
      exact ⟨zs[i], by simp [part, Sem.run_bind, hagg, hf2, hlt'], hv.2 i hlt hlt'⟩
     obtain ⟨cx, hcx, rx⟩ := hpart ha hax
     obtain ⟨cy, hcy, ry⟩ := hpart hb hby
     have heq := eq1_run (P := P) (w := w) (c := ⟨m, ro⟩) d h3 rx ry hp
     simp only [Op.eqFields]
     rw [if_pos (by simpa using hf1)]
     simp only [Sem.run_bind, hcx, hcy, Result.andThen_ok, heq]
     cases p
     ·simp
     ·simpa using ih
  case h_2 hpr =>
   split at hk
   case h_2 => cases hk
   case h_1 l n hrl hsz =>
   split at hk
   case isFalse => cases hk
   case isTrue hln =>
   split at hk <;> cases hk
   rename_i l2 hl2
   obtain ⟨p, q, h1, h2, rfl, h4, h5⟩ := eqCells_app l he
   rw [hln] at h1 h2 h4 h5
   rw [List.drop_drop, List.drop_drop] at h2
   have ih := eqFields_run d ha hb (fun {t ks a b xs ys r} => hrec (t := t)) fs (i + n) l2 hl2 h2
   simp only [List.length_drop] at h4 h5
   have hn0 : 0 < n ∨ n = 0 := by omega
   have hpart : ∀ {u : List V} {zs : Array Value}, VRels ro m u zs → n ≤ u.length - i → i ≤ u.length ∨ n = 0 → ∃ cz, (part f.type zs f.offset).run P w = .ok (.agg cz) w ∧ VRels ro m ((u.drop i).take n) cz := by
    intro u zs hv hz hi
    obtain ⟨d', i', hu, hd, hi', hs⟩ := cSize_agg hsz
    have hagg : (isAgg f.type).run P w = .ok true w := by
     unfold isAgg
     rw [Sem.run_bind, run_underlying hu w]
     cases d' <;> simp_all
    refine ⟨zs.extract i (i + n), by simp [part, Sem.run_bind, hagg, hf2, Go.sizeOf, typeInfo, hi', hs], ?_⟩
    have := hv.1
    refine ⟨by simp; omega, fun j a b => ?_⟩
    simp at a b
    simpa using hv.2 (i + j) (by omega) (by omega)
   obtain ⟨cx, hcx, rx⟩ := hpart ha h4 (by omega)
   obtain ⟨cy, hcy, ry⟩ := hpart hb h5 (by omega)
   have heq := hrec hrl rx ry h1
   simp only [Op.eqFields]
   rw [if_pos (by simpa using hf1)]
   simp only [Sem.run_bind, hcx, hcy, Result.andThen_ok, heq]
   cases p
   ·simp
   ·simpa using ih
theorem eqIn_run {P : Program} {w : World} {ro : Ro} {m : Pl} : ∀ (d e : Nat) {t : TypeId} {ks : List Nat} {a b : List V} {xs ys : Array Value} {r : Bool}, cFlatN P d t = some ks → VRels ro m a xs → VRels ro m b ys → eqCells ks a b = some r →
  (Op.equalIn (2 * d + e + 1) t (.agg xs) (.agg ys)).run P w = .ok r w
 | 0, e, t, ks, a, b, xs, ys, r, hk, _, _, _ => by simp [cFlatN] at hk
 | d + 1, e, t, ks, a, b, xs, ys, r, hk, ha, hb, he => by
  simp only [cFlatN] at hk
  split at hk
  case h_2 => cases hk
  case h_1 fs hu =>
   split at hk
   case isFalse => cases hk
   case isTrue hc =>
    have hf : P.fieldsOf t = fs := by simp [Program.fieldsOf, hu]
    have hu' : P.underlying t = some (.struct (P.fieldsOf t)) := by rw [hf]; exact hu
    rw [show 2 * (d + 1) + e = 2 * d + e + 1 + 1 by omega, run_equalIn_agg w (2 * d + e + 1 + 1) t xs ys hu' hc, hf]
    have := eqFields_run (P := P) (w := w) (2 * d + e + 1) ha hb (rec := cFlatN P d) (fun {t ks a b xs ys r} h1 h2 h3 h4 => eqIn_run d (e + 1) h1 h2 h3 h4) fs.toList 0 ks hk (by simpa using he)
    exact this
theorem sound_eqG {P : Program} {c w h} (hh : HRel c w h) {op : BinOp} (hop : op = .eql ∨ op = .neq) {t : TypeId} {ks : List Nat} (hk : cFlat P t = some ks) {x y : Operand} {a b : List V} {xc yc : Value} (hx : VRel c.ro c.m (.agg a) xc) (hy : VRel c.ro c.m (.agg b) yc) {r : Bool}
  (hs : eqCells ks a b = some r) : Ok P c w h (do eqGuard op t x y xc yc; binOp op t xc yc) (.bool (if isNeq op = true then !r else r)) h := by
 unfold cFlat at hk
 split at hk
 case isFalse => cases hk
 case isTrue hc =>
   obtain ⟨xs, rfl, x1, x2⟩ := hx.agg_inv
   obtain ⟨ys, rfl, y1, y2⟩ := hy.agg_inv
   have heq : (Op.equalIn 10000 t (.agg xs) (.agg ys)).run P w = .ok r w := eqIn_run 3 9993 hk ⟨x1, x2⟩ ⟨y1, y2⟩ hs
   refine Ok.of_same hh (cv := .bool (if isNeq op = true then !r else r)) ?_ (.bool ..)
   rw [Sem.run_bind, run_eqGuard_agg w op t x y xs ys hc, Result.andThen_ok]
   rcases hop with rfl | rfl
   ·rw [run_eql_struct, heq]; rfl
   ·rw [run_neq_struct, heq]; rfl
theorem sound_un {P : Program} {c w h} (hh : HRel c w h) {op : UnOp} {xv : V} {xc : Value} (hx : VRel c.ro c.m xv xc) {v : V} (hs : aUn op xv = some v) : Ok P c w h (Op.unary op xc) v h := by
 unfold aUn at hs
 split at hs
 ·rw [hx.int_inv]
  split at hs <;> cases hs
  ·exact Ok.of_same hh (by simp [Op.unary, Op.intArith]) (.int ..)
  ·exact Ok.of_same hh (by simp [Op.unary, Op.intBits]) (.int ..)
 ·rw [hx.bool_inv]
  split at hs <;> cases hs
  exact Ok.of_same hh (by simp [Op.unary]) (.bool ..)
 ·cases hs
theorem readAt_agg {P : Program} {w : World} {ro m} {cs : List V} {ccs : Array Value} (hr : VRels ro m cs ccs) {t : TypeId} {n : Nat} {agg : Bool} (hk : cSize P t = some (n, agg)) {off : Nat} {v : V}
  (h : readAt cs off (if agg then some n else none) = some v) : ∃ cv, (part t ccs off).run P w = .ok cv w ∧ VRel ro m v cv := by
 cases agg with
 | false =>
  obtain ⟨_, d, i, hu, hd, hi, hs⟩ := cSize_one hk
  simp [readAt] at h
  obtain ⟨hlt, rfl⟩ := List.getElem?_eq_some_iff.1 h
  have hlt' : off < ccs.size := by rw [← hr.1]; exact hlt
  have hagg : (isAgg t).run P w = .ok false w := by
   unfold isAgg
   rw [Sem.run_bind, run_underlying hu w]
   cases d <;> first | rfl | (simp [TypeDesc.isRow] at hd; done)
  refine ⟨ccs[off], ?_, hr.2 off hlt hlt'⟩
  simp [part, Sem.run_bind, hagg, hlt']
 | true =>
  obtain ⟨d, i, hu, hd, hi, hs⟩ := cSize_agg hk
  simp [readAt] at h
  obtain ⟨hle, rfl⟩ := h
  have hagg : (isAgg t).run P w = .ok true w := by
   unfold isAgg
   rw [Sem.run_bind, run_underlying hu w]
   cases d <;> simp_all
  refine ⟨.agg (ccs.extract off (off + n)), ?_, ?_⟩
  ·simp [part, Sem.run_bind, hagg, Go.sizeOf, typeInfo, hi, hs]
  ·refine .agg _ _ _ (by have := hr.1; simp; omega) fun j a b => ?_
   have := hr.1
   simp at a b
   simpa using hr.2 (off + j) (by omega) (by omega)
theorem cField_spec {P t fi f n b} (h : cField P t fi = some (f, n, b)) : ∃ fs, P.underlying t = some (.struct fs) ∧ fs[fi]? = some f ∧ cSize P f.type = some (n, b) := by
 unfold cField at h
 split at h
 case h_2 => cases h
 case h_1 fs hu =>
  split at h
  case h_2 => cases h
  case h_1 f' hf =>
   split at h <;> cases h
   exact ⟨fs, hu, hf, by assumption⟩
theorem sound_fld {P : Program} {c w h} (hh : HRel c w h) {t fi f n agg} (hf : cField P t fi = some (f, n, agg)) {xv : V} {xc : Value} (hx : VRel c.ro c.m xv xc) {cs v} (he : xv = .agg cs) (hs : readAt cs f.offset (if agg then some n else none) = some v) :
  Ok P c w h (Instr.field t xc fi) v h := by
 obtain ⟨fs, hu, hfi, hk⟩ := cField_spec hf
 subst he
 obtain ⟨ccs, rfl, hr⟩ := hx.agg_inv
 obtain ⟨cv, h1, h2⟩ := readAt_agg (P := P) (w := w) hr hk hs
 exact Ok.of_same hh (by simp [Instr.field, Sem.run_bind, run_underlying hu, hfi, asAgg, h1]) h2
theorem sound_fldA {P : Program} {N c t a w h} (hh : HRel c w h) (_ht : TRel N c t a) {ty fi f n agg} (hf : cField P ty fi = some (f, n, agg)) (hn : 0 < n) {x : Opd} {xc : Value} (hx : VRel c.ro c.m (x.ev t) xc) {v h'} (hs : opStep t h (.fldA x f.offset) = some (v, h')) :
  Ok P c w h (Instr.fieldAt ty xc fi) v h' := by
 obtain ⟨fs, hu, hfi, hk⟩ := cField_spec hf
 obtain ⟨d, i, _, hi, his⟩ := cSize_size hk
 have hplace : ∀ (b o : Nat), (fieldPlace ⟨b, o, none⟩ f).run P w = .ok ⟨b, o + f.offset, none⟩ w := by
  intro b o
  have : ¬ i.size = 0 := by omega
  simp [fieldPlace, Sem.run_bind, Go.sizeOf, typeInfo, hi, this, Addr.add_mid]
 simp only [opStep] at hs
 generalize x.ev t = xv at *
 split at hs <;> cases hs
 ·obtain ⟨p, hp, hn, rfl⟩ := hx.ptr_inv
  refine Ok.of_same hh (cv := .pointer (some ⟨p.block, p.base + _ + f.offset, none⟩)) ?_ (by rw [Nat.add_assoc]; exact .ptr _ _ _ p hp hn)
  simp [Instr.fieldAt, Sem.run_bind, run_underlying hu, hfi, Instr.sureAddr, hplace]
 ·obtain ⟨p, hp, hn, rfl⟩ := hx.eptr_inv
  refine Ok.of_same hh (cv := .pointer (some ⟨p.block, p.base + _ + _ + f.offset, none⟩)) ?_ (by rw [Nat.add_assoc]; exact .eptr _ _ _ _ _ p hp hn)
  simp [Instr.fieldAt, Sem.run_bind, run_underlying hu, hfi, Instr.sureAddr, hplace]
 ·obtain ⟨b, o, cs, g, h1, h2, h3, rfl⟩ := hx.rptr_inv
  refine Ok.of_same hh (cv := .pointer (some ⟨b, o + _ + f.offset, none⟩)) ?_ (by rw [Nat.add_assoc]; exact .rptr _ _ _ b o cs g h1 h2 h3)
  simp [Instr.fieldAt, Sem.run_bind, run_underlying hu, hfi, Instr.sureAddr, hplace]
end Sx
