/-
  Sx: symbolic execution over abstract heaps: parts A, B, C, D, E, F.
-/
import Derived.Calls
import Derived.MapKept
import Derived.Laws.IdiomCopy
import Derived.Deep.AppendSrc
import Derived.Deep.MidRow
import Derived.Deep.Upon
import Derived.Laws.Entries

/-
  Sx, part A: abstract values and heaps, and when concrete ones are told by them.
-/
namespace Sx
open Go

/-- abstract values -/
inductive V where
  | bool (b : Bool)
  | int (k : IntKind) (n : Int)
  | str (l : List UInt8)
  | nilp | nils | nilf | nilm
  | ptr (id off : Nat)
  | eptr (id i sz off : Nat)
  | rptr (cells : List V) (off : Nat)
  | sl (id off len sz : Nat) (cap : Option Nat)
  | vs (elems : List (List V)) (sz : Nat)
  | zs
  | mp (id : Nat)
  | fn (f : FuncId) (cap : List V)
  | yld (id : Nat)
  | agg (cells : List V)
  | tup (vs : List V)
  | any
  | bad
  deriving Inhabited

/-- the value of one cell -/
def V.one : V → Bool
  | .agg _ | .tup _ | .any | .bad => false
  | _ => true

def V.ones : List V → Bool
  | [] => true
  | v :: l => v.one && V.ones l

/-- where an abstract object lies -/
structure Place where
  block : Nat
  base : Nat
  top : Nat
  null : Bool
  ty : TypeId

/-- the blocks that are never written: their cells -/
abbrev Ro := Nat → Option (Array Value)
abbrev Pl := Nat → Option Place
def Pl.none : Pl := fun _ => .none

inductive VRel (ro : Ro) : Pl → V → Value → Prop
  | bool (m b) : VRel ro m (.bool b) (.bool b)
  | int (m k n) : VRel ro m (.int k n) (.int k n)
  | str (m l) : VRel ro m (.str l) (.string ⟨l.toArray⟩)
  | nilp (m) : VRel ro m .nilp (.pointer none)
  | nils (m) : VRel ro m .nils (.slice none 0 0)
  | nilf (m) : VRel ro m .nilf .nilFunc
  | nilm (m) : VRel ro m .nilm (.map none)
  | ptr (m : Pl) (id off) (p : Place) (h : m id = some p) (hn : p.null = false) :
      VRel ro m (.ptr id off) (.pointer (some ⟨p.block, p.base + off, none⟩))
  | eptr (m : Pl) (id i sz off) (p : Place) (h : m id = some p) (hn : p.null = false) :
      VRel ro m (.eptr id i sz off) (.pointer (some ⟨p.block, p.base + i * sz + off, none⟩))
  | rptr (m : Pl) (cells : List V) (off b o : Nat) (cs : Array Value) (f : Nat → Value) (hb : ro b = some cs)
      (hc : ∀ i, i < cells.length → cs[o + i]? = some (f i)) (hv : ∀ i (h : i < cells.length), VRel ro Pl.none cells[i] (f i)) :
      VRel ro m (.rptr cells off) (.pointer (some ⟨b, o + off, none⟩))
  | sl (m : Pl) (id off len sz cap o : Nat) (k : Option Nat) (p : Place) (h : m id = some p) (hn : p.null = false) (hl : len ≤ cap)
      (ho : o = p.base + off * sz ∨ cap = 0) (ht : 0 < cap → p.base + off * sz + cap * sz ≤ p.top) (hk : ∀ x, k = some x → x = cap) :
      VRel ro m (.sl id off len sz k) (.slice (some ⟨p.block, o, none⟩) len cap)
  | slnil (m : Pl) (id sz : Nat) (p : Place) (a : Option Addr) (h : m id = some p) (hn : p.null = true) : VRel ro m (.sl id 0 0 sz none) (.slice a 0 0)
  | zs (m : Pl) (a : Option Addr) : VRel ro m .zs (.slice a 0 0)
  | vs (m : Pl) (elems : List (List V)) (sz b o cap : Nat) (cs : Array Value) (f : Nat → Nat → Value) (hb : ro b = some cs) (hl : elems.length ≤ cap)
      (hsz : ∀ i (h : i < elems.length), elems[i].length = sz) (h1 : ∀ e ∈ elems, V.ones e = true)
      (hc : ∀ i j, i < elems.length → j < sz → cs[o + i * sz + j]? = some (f i j))
      (hv : ∀ i (h : i < elems.length) j (h' : j < elems[i].length), VRel ro Pl.none elems[i][j] (f i j)) :
      VRel ro m (.vs elems sz) (.slice (some ⟨b, o, none⟩) elems.length cap)
  | vsnil (m : Pl) (sz : Nat) (a : Option Addr) : VRel ro m (.vs [] sz) (.slice a 0 0)
  | mp (m : Pl) (id) (p : Place) (h : m id = some p) (hn : p.null = false) : VRel ro m (.mp id) (.map (some p.block))
  | fn (m : Pl) (f : FuncId) (cap : List V) (cs : Array Value) (hl : cap.length = cs.size)
      (hv : ∀ i (h : i < cap.length) (h' : i < cs.size), VRel ro m cap[i] cs[i]) : VRel ro m (.fn f cap) (.func (.func f) #[] cs)
  | yld (m : Pl) (id) (p : Place) (h : m id = some p) (hn : p.null = false) : VRel ro m (.yld id) (.func (.yield p.block) #[] #[])
  | agg (m : Pl) (cells : List V) (cs : Array Value) (hl : cells.length = cs.size)
      (hv : ∀ i (h : i < cells.length) (h' : i < cs.size), VRel ro m cells[i] cs[i]) : VRel ro m (.agg cells) (.agg cs)
  | tup (m : Pl) (vs : List V) (cs : Array Value) (hl : vs.length = cs.size)
      (hv : ∀ i (h : i < vs.length) (h' : i < cs.size), VRel ro m vs[i] cs[i]) : VRel ro m (.tup vs) (.tuple cs)
  | any (m v) : VRel ro m .any v

theorem VRel.mono {ro ro' : Ro} (hr : ∀ b cs, ro b = some cs → ro' b = some cs) {m : Pl} {v : V} {c : Value} (h : VRel ro m v c) :
    ∀ {m' : Pl}, (∀ i p, m i = some p → m' i = some p) → VRel ro' m' v c := by
  induction h with
  | bool => intro m' _; exact .bool ..
  | int => intro m' _; exact .int ..
  | str => intro m' _; exact .str ..
  | nilp => intro m' _; exact .nilp ..
  | nils => intro m' _; exact .nils ..
  | nilf => intro m' _; exact .nilf ..
  | nilm => intro m' _; exact .nilm ..
  | ptr m id off p h hn => intro m' hm; exact .ptr _ _ _ p (hm _ _ h) hn
  | rptr m cells off b o cs f hb hc hv ih => intro m' hm; exact .rptr _ _ _ b o cs f (hr _ _ hb) hc fun i h => ih i h fun _ _ h => h
  | eptr m id i sz off p h hn => intro m' hm; exact .eptr _ _ _ _ _ p (hm _ _ h) hn
  | sl m id off len sz cap o k p h hn hl ho ht hk => intro m' hm; exact .sl _ _ _ _ _ _ o _ p (hm _ _ h) hn hl ho ht hk
  | slnil m id sz p a h hn => intro m' hm; exact .slnil _ _ _ p a (hm _ _ h) hn
  | zs => intro m' _; exact .zs ..
  | vs m elems sz b o cap cs f hb hl hsz h1 hc hv ih => intro m' hm; exact .vs _ _ _ b o cap cs f (hr _ _ hb) hl hsz h1 hc fun i h j h' => ih i h j h' fun _ _ h => h
  | vsnil => intro m' _; exact .vsnil ..
  | mp m id p h hn => intro m' hm; exact .mp _ _ p (hm _ _ h) hn
  | fn m f cap cs hl hv ih => intro m' hm; exact .fn _ _ _ cs hl fun i h h' => ih i h h' hm
  | yld m id p h hn => intro m' hm; exact .yld _ _ p (hm _ _ h) hn
  | agg m cells cs hl hv ih => intro m' hm; exact .agg _ _ cs hl fun i h h' => ih i h h' hm
  | tup m vs cs hl hv ih => intro m' hm; exact .tup _ _ cs hl fun i h h' => ih i h h' hm
  | any => intro m' _; exact .any ..

/-- what a list of abstract values tells -/
def VRels (ro : Ro) (m : Pl) (vs : List V) (cs : Array Value) : Prop := vs.length = cs.size ∧ ∀ i (h : i < vs.length) (h' : i < cs.size), VRel ro m vs[i] cs[i]

theorem VRels.nil (ro m) : VRels ro m [] #[] := ⟨rfl, fun i h => by simp at h⟩
theorem VRels.mono {ro ro' : Ro} {m m' : Pl} (hr : ∀ b cs, ro b = some cs → ro' b = some cs) (hm : ∀ i p, m i = some p → m' i = some p) {vs cs} (h : VRels ro m vs cs) : VRels ro' m' vs cs :=
  ⟨h.1, fun i a b => (h.2 i a b).mono hr hm⟩

/-- the code of a range over a function -/
structure LoopC where
  fn : FuncId
  N : Nat
  params : Array Tmp
  assign : Code
  body : Code
/-- where it stands -/
inductive LSt where
  | ready
  | busy
  | done (j : Code)
def LSt.tells (r : Loop) : LSt → Prop
  | .ready => r.state = .ready ∧ r.pending = none
  | .busy => r.state = .busy
  | .done j => r.state = .done ∧ r.pending = some j

/-- abstract objects -/
inductive O where
  | row (cells : List V)
  | arr (elems : List (List V)) (sz : Nat)
  | map (es : List (V × V))
  | ty (id : Nat) (t : TypeId) (n : Option Nat)   -- what is known of another one: its variables' type
  | loop (L : LoopC) (ts : List (Nat × V)) (st : LSt)
  | bad
  | gone
  deriving Inhabited

def O.live : O → Prop
  | .gone => False
  | _ => True

def RowAt (w : World) (p : Place) (cc : Array Value) : Prop :=
  p.null = false ∧ cc.size = p.top ∧ p.base ≤ p.top ∧ ∃ (elem : {e : TypeId // e = p.ty}) (fr : Nat × Nat), w.heap[p.block]? = some (.cells cc elem.1 fr) ∧ ∀ i, i ≤ p.top → ¬ (fr.1 ≤ i ∧ i < fr.2)

def ORel (ro : Ro) (m : Pl) (w : World) (p : Place) : O → Prop
  | .row cells => ∃ cc, RowAt w p cc ∧ p.base + cells.length ≤ p.top ∧ ∀ i (h : i < cells.length) (h' : p.base + i < cc.size), VRel ro m cells[i] cc[p.base + i]
  | .arr elems sz => (p.null = true → elems = []) ∧ (∀ e ∈ elems, V.ones e = true) ∧ (∀ i (h : i < elems.length), elems[i].length = sz) ∧ (p.null = false → ∃ cc, RowAt w p cc ∧ p.base + elems.length * sz ≤ p.top ∧
      ∀ i (h : i < elems.length) j (h' : j < elems[i].length), ∃ x, cc[p.base + i * sz + j]? = some x ∧ VRel ro Pl.none elems[i][j] x)
  | .map es => p.null = false ∧ ∃ (ce : Array MapEntry) (clock : Nat), w.heap[p.block]? = some (.map ce clock) ∧ MapKept.Stamped ce clock ∧ es.length = ce.size ∧
      ∀ i (h : i < es.length) (h' : i < ce.size), VRel ro Pl.none es[i].1 ce[i].key ∧ VRel ro m es[i].2 ce[i].val
  | .ty id t n => p.null = true ∧ ∃ q, m id = some q ∧ (q.null = false → q.ty = t ∧ q.base = 0 ∧ ∀ k, n = some k → q.top = k)
  | .loop L ts st => p.null = false ∧ ∃ r : Loop, w.heap[p.block]? = some (.loop r) ∧ r.fn = L.fn ∧ r.params = L.params ∧ r.assign = L.assign ∧ r.body = L.body ∧ r.tmps.size = L.N ∧ st.tells r ∧
      ∀ x ∈ ts, VRel ro m x.2 (r.tmps.getD x.1 undef)
  | .bad => False
  | .gone => True

structure Ctx where
  m : Pl
  ro : Ro

def Live (H : List O) (i : Nat) : Prop := ∃ o, H[i]? = some o ∧ o.live

/-- package-level variables that are never written: their blocks' cells -/
def gl : Ro := fun _ => none

structure HRel (c : Ctx) (w : World) (H : List O) : Prop where
  ro : ∀ b cs, c.ro b = some cs → ∃ elem fr, w.heap[b]? = some (.cells cs elem fr)
  dom : ∀ i p, c.m i = some p → i < H.length
  obj : ∀ i o, H[i]? = some o → o.live → ∃ p, c.m i = some p ∧ ORel c.ro c.m w p o ∧ (p.null = false → c.ro p.block = none)
  inj : ∀ i j p q, Live H i → Live H j → c.m i = some p → c.m j = some q → p.null = false → q.null = false → p.block = q.block → i = j
  glob : ∀ b cs, gl b = some cs → c.ro b = some cs

def Owns (c : Ctx) (H : List O) (b : Nat) : Prop := ∃ i p, Live H i ∧ c.m i = some p ∧ p.null = false ∧ p.block = b

/-- from one state on to a later one -/
structure Adv (c : Ctx) (w : World) (H : List O) (c' : Ctx) (w' : World) (H' : List O) : Prop where
  m : ∀ i p, c.m i = some p → c'.m i = some p
  ro : ∀ b cs, c.ro b = some cs → c'.ro b = some cs
  len : H.length ≤ H'.length
  live : ∀ i, i < H.length → Live H' i → Live H i
  size : w.heap.size ≤ w'.heap.size
  frame : ∀ b, b < w.heap.size → ¬ Owns c H b → w'.heap[b]? = w.heap[b]?
  fresh : ∀ i p, c'.m i = some p → p.null = false → c.m i = some p ∨ Owns c H p.block ∨ w.heap.size ≤ p.block
  freshro : ∀ b cs, c'.ro b = some cs → c.ro b = some cs ∨ Owns c H b ∨ w.heap.size ≤ b
  os : w'.os = w.os
  output : w'.output = w.output
  tape : w'.tape = w.tape

theorem Adv.refl (c w H) : Adv c w H c w H := by
  refine ⟨fun _ _ h => h, fun _ _ h => h, Nat.le_refl _, fun _ _ h => h, Nat.le_refl _, fun _ _ _ => rfl, fun _ _ h _ => .inl h, fun _ _ h => .inl h, rfl, rfl, rfl⟩

theorem HRel.owns_lt {c w H b} (h : HRel c w H) (ho : Owns c H b) : b < w.heap.size := by
  obtain ⟨i, p, ⟨o, hi, hl⟩, hm, hn, rfl⟩ := ho
  obtain ⟨p', hm', hr, _⟩ := h.obj i o hi hl
  rw [hm] at hm'; cases hm'
  have : ∃ x, w.heap[p.block]? = some x := by
    cases o with
    | row cells => obtain ⟨cc, ⟨_, _, _, e, fr, hw, _⟩, _⟩ := hr; exact ⟨_, hw⟩
    | arr elems sz => obtain ⟨_, _, _, hx⟩ := hr; obtain ⟨cc, ⟨_, _, _, e, fr, hw, _⟩, _⟩ := hx hn; exact ⟨_, hw⟩
    | map es => obtain ⟨_, ce, cl, hw, _⟩ := hr; exact ⟨_, hw⟩
    | loop L ts st => obtain ⟨_, r, hw, _⟩ := hr; exact ⟨_, hw⟩
    | ty => obtain ⟨h1, _⟩ := hr; rw [h1] at hn; cases hn
    | bad => exact hr.elim
    | gone => exact hl.elim
  obtain ⟨x, hx⟩ := this
  exact (Array.getElem?_eq_some_iff.1 hx).1

theorem Owns.of_adv {c w H c' w' H' b} (h : Adv c w H c' w' H') (hh : HRel c w H) (ho : Owns c' H' b) : Owns c H b ∨ w.heap.size ≤ b := by
  obtain ⟨i, p, hl, hm, hn, rfl⟩ := ho
  rcases h.fresh i p hm hn with h1 | h1 | h1
  · exact .inl ⟨i, p, h.live i (hh.dom i p h1) hl, h1, hn, rfl⟩
  · exact .inl h1
  · exact .inr h1

theorem Adv.trans {c w H c' w' H' c'' w'' H''} (hh : HRel c w H) (h : Adv c w H c' w' H') (k : Adv c' w' H' c'' w'' H'') : Adv c w H c'' w'' H'' where
  m i p hi := k.m i p (h.m i p hi)
  ro b cs hb := k.ro b cs (h.ro b cs hb)
  len := Nat.le_trans h.len k.len
  live i hi hl := h.live i hi (k.live i (Nat.lt_of_lt_of_le hi h.len) hl)
  size := Nat.le_trans h.size k.size
  frame b hb hn := by
    rw [k.frame b (Nat.lt_of_lt_of_le hb h.size) fun ho => ?_, h.frame b hb hn]
    rcases ho.of_adv h hh with h1 | h1
    · exact hn h1
    · omega
  fresh i p hi hn := by
    rcases k.fresh i p hi hn with h1 | h1 | h1
    · exact h.fresh i p h1 hn
    · exact .inr (h1.of_adv h hh)
    · exact .inr (.inr (Nat.le_trans h.size h1))
  freshro b cs hb := by
    rcases k.freshro b cs hb with h1 | h1 | h1
    · exact h.freshro b cs h1
    · exact .inr (h1.of_adv h hh)
    · exact .inr (.inr (Nat.le_trans h.size h1))
  os := k.os.trans h.os
  output := k.output.trans h.output
  tape := k.tape.trans h.tape

end Sx

/-
  Sx, part B: other names for objects.
-/
namespace Sx
open Go

mutual
def V.ren (ρ : Nat → Option Nat) : V → V
  | .ptr id off => match ρ id with | some j => .ptr j off | none => .bad
  | .eptr id i sz off => match ρ id with | some j => .eptr j i sz off | none => .bad
  | .sl id off len sz cap => match ρ id with | some j => .sl j off len sz cap | none => .bad
  | .mp id => match ρ id with | some j => .mp j | none => .bad
  | .fn f cap => .fn f (V.renL ρ cap)
  | .yld id => match ρ id with | some j => .yld j | none => .bad
  | .agg cells => .agg (V.renL ρ cells)
  | .tup l => .tup (V.renL ρ l)
  | .bool b => .bool b
  | .int k n => .int k n
  | .str l => .str l
  | .nilp => .nilp
  | .nils => .nils
  | .nilf => .nilf
  | .nilm => .nilm
  | .zs => .zs
  | .rptr cells off => .rptr cells off
  | .vs e sz => .vs e sz
  | .any => .any
  | .bad => .bad
def V.renL (ρ : Nat → Option Nat) : List V → List V
  | [] => []
  | v :: l => v.ren ρ :: V.renL ρ l
end

theorem V.renL_length (ρ) : ∀ l, (V.renL ρ l).length = l.length
  | [] => rfl
  | v :: l => by simp [V.renL, V.renL_length ρ l]

theorem V.renL_get (ρ) : ∀ (l : List V) (i : Nat) (h : i < (V.renL ρ l).length), (V.renL ρ l)[i] = (l[i]'(by rw [← V.renL_length ρ l]; exact h)).ren ρ
  | v :: l, 0, _ => rfl
  | v :: l, i + 1, h => by simp only [V.renL, List.getElem_cons_succ]; exact V.renL_get ρ l i _

theorem VRel.to_ren {ro : Ro} (ρ : Nat → Option Nat) {m' : Pl} {v : V} {c : Value} (h : VRel ro m' v c) :
    ∀ {m : Pl}, (∀ i p, m' i = some p → ∃ j, ρ i = some j ∧ m j = some p) → VRel ro m (v.ren ρ) c := by
  induction h with
  | bool => intro m _; exact .bool ..
  | int => intro m _; exact .int ..
  | str => intro m _; exact .str ..
  | nilp => intro m _; exact .nilp ..
  | nils => intro m _; exact .nils ..
  | nilf => intro m _; exact .nilf ..
  | nilm => intro m _; exact .nilm ..
  | ptr m' id off p h hn => intro m hm; obtain ⟨j, hj, hp⟩ := hm _ _ h; simp only [V.ren, hj]; exact .ptr _ _ _ p hp hn
  | rptr m' cells off b o cs f hb hc hv ih => intro m hm; exact .rptr _ _ _ b o cs f hb hc hv
  | eptr m' id i sz off p h hn => intro m hm; obtain ⟨j, hj, hp⟩ := hm _ _ h; simp only [V.ren, hj]; exact .eptr _ _ _ _ _ p hp hn
  | sl m' id off len sz cap o k p h hn hl ho ht hk => intro m hm; obtain ⟨j, hj, hp⟩ := hm _ _ h; simp only [V.ren, hj]; exact .sl _ _ _ _ _ _ o _ p hp hn hl ho ht hk
  | slnil m' id sz p a h hn => intro m hm; obtain ⟨j, hj, hp⟩ := hm _ _ h; simp only [V.ren, hj]; exact .slnil _ _ _ p a hp hn
  | zs => intro m _; exact .zs ..
  | vs m' elems sz b o cap cs f hb hl hsz h1 hc hv ih => intro m hm; exact .vs _ _ _ b o cap cs f hb hl hsz h1 hc hv
  | vsnil => intro m _; exact .vsnil ..
  | mp m' id p h hn => intro m hm; obtain ⟨j, hj, hp⟩ := hm _ _ h; simp only [V.ren, hj]; exact .mp _ _ p hp hn
  | yld m' id p h hn => intro m hm; obtain ⟨j, hj, hp⟩ := hm _ _ h; simp only [V.ren, hj]; exact .yld _ _ p hp hn
  | fn m' f cap cs hl hv ih =>
    intro m hm
    refine .fn _ _ _ cs (by rw [V.renL_length]; exact hl) fun i h h' => ?_
    rw [V.renL_get]; exact ih i _ h' hm
  | agg m' cells cs hl hv ih =>
    intro m hm
    refine .agg _ _ cs (by rw [V.renL_length]; exact hl) fun i h h' => ?_
    rw [V.renL_get]; exact ih i _ h' hm
  | tup m' vs cs hl hv ih =>
    intro m hm
    refine .tup _ _ cs (by rw [V.renL_length]; exact hl) fun i h h' => ?_
    rw [V.renL_get]; exact ih i _ h' hm
  | any => intro m _; exact .any ..

theorem VRel.of_ren {ro : Ro} (ρ : Nat → Option Nat) {m : Pl} {u : V} {c : Value} (h : VRel ro m u c) :
    ∀ {v : V} {m' : Pl}, u = v.ren ρ → (∀ i j p, ρ i = some j → m j = some p → m' i = some p) → VRel ro m' v c := by
  induction h with
  | bool => intro v m' hu _; cases v <;> simp only [V.ren] at hu <;> first | (split at hu <;> simp at hu; done) | (simp at hu; done) | (cases hu; exact .bool ..)
  | int => intro v m' hu _; cases v <;> simp only [V.ren] at hu <;> first | (split at hu <;> simp at hu; done) | (simp at hu; done) | (cases hu; exact .int ..)
  | str => intro v m' hu _; cases v <;> simp only [V.ren] at hu <;> first | (split at hu <;> simp at hu; done) | (simp at hu; done) | (cases hu; exact .str ..)
  | nilp => intro v m' hu _; cases v <;> simp only [V.ren] at hu <;> first | (split at hu <;> simp at hu; done) | (simp at hu; done) | (exact .nilp ..)
  | nils => intro v m' hu _; cases v <;> simp only [V.ren] at hu <;> first | (split at hu <;> simp at hu; done) | (simp at hu; done) | (exact .nils ..)
  | nilf => intro v m' hu _; cases v <;> simp only [V.ren] at hu <;> first | (split at hu <;> simp at hu; done) | (simp at hu; done) | (exact .nilf ..)
  | nilm => intro v m' hu _; cases v <;> simp only [V.ren] at hu <;> first | (split at hu <;> simp at hu; done) | (simp at hu; done) | (exact .nilm ..)
  | ptr m id off p h hn =>
    intro v m' hu hm
    cases v <;> simp only [V.ren] at hu <;> try (first | (simp at hu; done) | (split at hu <;> simp at hu; done))
    rename_i id' off'
    split at hu
    · rename_i j hj; cases hu; exact .ptr _ _ _ p (hm _ _ _ hj h) hn
    · cases hu
  | rptr m cells off b o cs f hb hc hv ih =>
    intro v m' hu hm
    cases v <;> simp only [V.ren] at hu <;> try (first | (simp at hu; done) | (split at hu <;> simp at hu; done))
    cases hu; exact .rptr _ _ _ b o cs f hb hc hv
  | eptr m id i sz off p h hn =>
    intro v m' hu hm
    cases v <;> simp only [V.ren] at hu <;> try (first | (simp at hu; done) | (split at hu <;> simp at hu; done))
    split at hu
    · rename_i j hj; cases hu; exact .eptr _ _ _ _ _ p (hm _ _ _ hj h) hn
    · cases hu
  | sl m id off len sz cap o k p h hn hl ho ht hk =>
    intro v m' hu hm
    cases v <;> simp only [V.ren] at hu <;> try (first | (simp at hu; done) | (split at hu <;> simp at hu; done))
    split at hu
    · rename_i j hj; cases hu; exact .sl _ _ _ _ _ _ o _ p (hm _ _ _ hj h) hn hl ho ht hk
    · cases hu
  | slnil m id sz p a h hn =>
    intro v m' hu hm
    cases v <;> simp only [V.ren] at hu <;> try (first | (simp at hu; done) | (split at hu <;> simp at hu; done))
    split at hu
    · rename_i j hj; cases hu; exact .slnil _ _ _ p a (hm _ _ _ hj h) hn
    · cases hu
  | zs => intro v m' hu _; cases v <;> simp only [V.ren] at hu <;> first | (split at hu <;> simp at hu; done) | (simp at hu; done) | (exact .zs ..)
  | vs m elems sz b o cap cs f hb hl hsz h1 hc hv ih =>
    intro v m' hu hm
    cases v <;> simp only [V.ren] at hu <;> try (first | (simp at hu; done) | (split at hu <;> simp at hu; done))
    cases hu; exact .vs _ _ _ b o cap cs f hb hl hsz h1 hc hv
  | vsnil =>
    intro v m' hu hm
    cases v <;> simp only [V.ren] at hu <;> try (first | (simp at hu; done) | (split at hu <;> simp at hu; done))
    cases hu; exact .vsnil ..
  | mp m id p h hn =>
    intro v m' hu hm
    cases v <;> simp only [V.ren] at hu <;> try (first | (simp at hu; done) | (split at hu <;> simp at hu; done))
    split at hu
    · rename_i j hj; cases hu; exact .mp _ _ p (hm _ _ _ hj h) hn
    · cases hu
  | yld m id p h hn =>
    intro v m' hu hm
    cases v <;> simp only [V.ren] at hu <;> try (first | (simp at hu; done) | (split at hu <;> simp at hu; done))
    split at hu
    · rename_i j hj; cases hu; exact .yld _ _ p (hm _ _ _ hj h) hn
    · cases hu
  | fn m f cap cs hl hv ih =>
    intro v m' hu hm
    cases v <;> simp only [V.ren] at hu <;> try (first | (simp at hu; done) | (split at hu <;> simp at hu; done))
    cases hu
    refine .fn _ _ _ cs (by rw [← hl, V.renL_length]) fun i h h' => ?_
    exact ih i (by rw [V.renL_length]; exact h) h' (V.renL_get ρ _ i _) hm
  | agg m cells cs hl hv ih =>
    intro v m' hu hm
    cases v <;> simp only [V.ren] at hu <;> try (first | (simp at hu; done) | (split at hu <;> simp at hu; done))
    cases hu
    refine .agg _ _ cs (by rw [← hl, V.renL_length]) fun i h h' => ?_
    exact ih i (by rw [V.renL_length]; exact h) h' (V.renL_get ρ _ i _) hm
  | tup m vs cs hl hv ih =>
    intro v m' hu hm
    cases v <;> simp only [V.ren] at hu <;> try (first | (simp at hu; done) | (split at hu <;> simp at hu; done))
    cases hu
    refine .tup _ _ cs (by rw [← hl, V.renL_length]) fun i h h' => ?_
    exact ih i (by rw [V.renL_length]; exact h) h' (V.renL_get ρ _ i _) hm
  | any =>
    intro v m' hu hm
    cases v <;> simp only [V.ren] at hu <;> try (first | (simp at hu; done) | (split at hu <;> simp at hu; done))
    exact .any ..

/-- the objects, named anew -/
def O.ren (ρ : Nat → Option Nat) : O → O
  | .row cells => .row (V.renL ρ cells)
  | .arr e sz => .arr e sz
  | .map es => .map (es.map fun x => (x.1, x.2.ren ρ))
  | .ty id t n => match ρ id with | some j => .ty j t n | none => .bad
  | .loop L ts st => .loop L (ts.map fun x => (x.1, x.2.ren ρ)) st
  | .bad => .bad
  | .gone => .gone

theorem O.ren_live {ρ} {o : O} : (o.ren ρ).live ↔ o.live := by
  cases o with
  | ty id t n => simp only [O.ren]; split <;> exact Iff.rfl
  | _ => exact Iff.rfl

theorem ORel.to_ren {ro : Ro} (ρ : Nat → Option Nat) {m m' : Pl} {w : World} {p : Place} {o : O} (hm : ∀ i p, m' i = some p → ∃ j, ρ i = some j ∧ m j = some p)
    (h : ORel ro m' w p o) : ORel ro m w p (o.ren ρ) := by
  cases o with
  | row cells =>
    obtain ⟨cc, h1, h2, h3⟩ := h
    refine ⟨cc, h1, by rw [V.renL_length]; exact h2, fun i a b => ?_⟩
    rw [V.renL_get]; exact (h3 i _ b).to_ren ρ hm
  | arr e sz => exact h
  | map es =>
    obtain ⟨h0, ce, cl, h1, hst, h2, h3⟩ := h
    refine ⟨h0, ce, cl, h1, hst, by simpa using h2, fun i a b => ?_⟩
    have := h3 i (by simpa using a) b
    simp only [List.getElem_map]
    exact ⟨this.1, this.2.to_ren ρ hm⟩
  | ty id t n =>
    obtain ⟨h0, q, h1, h2⟩ := h
    obtain ⟨j, hj, hq⟩ := hm _ _ h1
    simp only [O.ren, hj]; exact ⟨h0, q, hq, h2⟩
  | loop L ts st =>
    obtain ⟨h0, r, h1, h2, h3, h4, h5, h6, h7, h8⟩ := h
    refine ⟨h0, r, h1, h2, h3, h4, h5, h6, h7, fun x hx => ?_⟩
    obtain ⟨y, hy, rfl⟩ := List.mem_map.1 hx
    exact (h8 y hy).to_ren ρ hm
  | bad => exact h
  | gone => trivial

theorem ORel.of_ren {ro : Ro} (ρ : Nat → Option Nat) {m m' : Pl} {w : World} {p : Place} {o : O} (hm : ∀ i j p, ρ i = some j → m j = some p → m' i = some p)
    (h : ORel ro m w p (o.ren ρ)) : ORel ro m' w p o := by
  cases o with
  | row cells =>
    obtain ⟨cc, h1, h2, h3⟩ := h
    rw [V.renL_length] at h2
    refine ⟨cc, h1, h2, fun i a b => ?_⟩
    exact (h3 i (by rw [V.renL_length]; exact a) b).of_ren ρ (V.renL_get ρ _ i _) hm
  | arr e sz => exact h
  | map es =>
    obtain ⟨h0, ce, cl, h1, hst, h2, h3⟩ := h
    refine ⟨h0, ce, cl, h1, hst, by simpa using h2, fun i a b => ?_⟩
    have := h3 i (by simpa using a) b
    simp only [List.getElem_map] at this
    exact ⟨this.1, this.2.of_ren ρ rfl hm⟩
  | ty id t n =>
    simp only [O.ren] at h
    split at h
    · rename_i j hj; obtain ⟨h0, q, h1, h2⟩ := h; exact ⟨h0, q, hm _ _ _ hj h1, h2⟩
    · exact h.elim
  | loop L ts st =>
    obtain ⟨h0, r, h1, h2, h3, h4, h5, h6, h7, h8⟩ := h
    exact ⟨h0, r, h1, h2, h3, h4, h5, h6, h7, fun x hx => (h8 _ (List.mem_map_of_mem hx)).of_ren ρ rfl hm⟩
  | bad => exact h
  | gone => trivial

theorem ORel.mono {ro ro' : Ro} {m m' : Pl} {w w' : World} {p : Place} {o : O} (hr : ∀ b cs, ro b = some cs → ro' b = some cs) (hm : ∀ i p, m i = some p → m' i = some p)
    (hw : p.null = false → w'.heap[p.block]? = w.heap[p.block]?) (h : ORel ro m w p o) : ORel ro' m' w' p o := by
  cases o with
  | row cells =>
    obtain ⟨cc, ⟨h0, h1, h2, e, fr, h3, h4⟩, h5, h6⟩ := h
    exact ⟨cc, ⟨h0, h1, h2, e, fr, (hw h0).trans h3, h4⟩, h5, fun i a b => (h6 i a b).mono hr hm⟩
  | arr es sz =>
    obtain ⟨h7, h7', h8, h9⟩ := h
    refine ⟨h7, h7', h8, fun hn => ?_⟩
    obtain ⟨cc, ⟨h0, h1, h2, e, fr, h3, h4⟩, h5, h6⟩ := h9 hn
    exact ⟨cc, ⟨h0, h1, h2, e, fr, (hw h0).trans h3, h4⟩, h5, fun i a j b => let ⟨x, hx, hv⟩ := h6 i a j b; ⟨x, hx, hv.mono hr fun _ _ h => h⟩⟩
  | map es =>
    obtain ⟨h0, ce, cl, h1, hst, h2, h3⟩ := h
    exact ⟨h0, ce, cl, (hw h0).trans h1, hst, h2, fun i a b => ⟨(h3 i a b).1.mono hr (fun _ _ h => h), (h3 i a b).2.mono hr hm⟩⟩
  | ty id t n => obtain ⟨h0, q, h1, h2⟩ := h; exact ⟨h0, q, hm _ _ h1, h2⟩
  | loop L ts st =>
    obtain ⟨h0, r, h1, h2, h3, h4, h5, h6, h7, h8⟩ := h
    exact ⟨h0, r, (hw h0).trans h1, h2, h3, h4, h5, h6, h7, fun x hx => (h8 x hx).mono hr hm⟩
  | bad => exact h
  | gone => trivial

end Sx

/-
  Sx, part C: abstract code, how it is made of the model's code, and how it is stepped.
-/
namespace Sx
open Go

def bytesOf : List (List V) → Option (List UInt8)
  | [] => some []
  | [.int .u8 n] :: r => (bytesOf r).map (UInt8.ofNat n.toNat :: ·)
  | _ => none

def byteOk : List (List V) → Bool
  | [] => true
  | [.int .u8 n] :: r => decide (0 ≤ n ∧ n < 256) && byteOk r
  | _ => false

inductive Opd where
  | t (i : Nat)
  | c (v : V)
  deriving Inhabited

inductive AOp where
  | mv (x : Opd)
  | pick (c a b : Opd)
  | alloc (cells : List V)
  | box (x : Opd)
  | build (zero : List V) (parts : List (Nat × Nat × Opd))
  | bslice (len sz : Nat) (zero : List V) (parts : List (Nat × Opd))
  | load (x : Opd) (k : Option Nat)
  | store (a x : Opd) (n : Nat)
  | bin (op : BinOp) (x y : Opd)
  | eq (neg : Bool) (kind : Nat) (x y : Opd)          -- 0: bools, 1: pointers, 2: slices, 3: functions, 4: maps
  | eqG (neg : Bool) (ks : List Nat) (x y : Opd)            -- structs of plain fields
  | un (op : UnOp) (x : Opd)
  | convI (k : IntKind) (x : Opd)
  | convS (x : Opd)
  | b2s (x : Opd)
  | fld (x : Opd) (off : Nat) (k : Option Nat)
  | fldA (x : Opd) (off : Nat)
  | idxA (x i : Opd) (arr : Option Nat) (sz : Nat)
  | idxS (x i : Opd)
  | idxG (x i : Opd) (len sz : Nat) (agg : Bool)
  | slcS (x : Opd) (lo hi : Option Opd)
  | slc (x : Opd) (lo hi mx : Option Opd) (sz : Nat)
  | slcA (x : Opd) (lo hi : Option Opd) (n sz : Nat)
  | lenS (x : Opd)
  | lenL (x : Opd)
  | append (x y : Opd) (sz bytes : Nat) (str : Bool)
  | copy (x y : Opd) (sz : Nat)
  | clear (x : Opd) (zero : List V)
  | mks (n c : Opd) (zero : List V) (bytes : Nat)
  | mkf (f : FuncId) (caps : List Opd)
  | ext (x : Opd) (i : Nat)
  | nilck (x : Opd)
  | mm (max : Bool) (xs : List Opd)
  | allocT (cells : List V) (ty : TypeId)
  | cvU (x : Opd)
  | cvP (x : Opd) (ty : TypeId) (n : Nat)
  | appendB (x y : Opd) (bytes : Nat) (ty : TypeId)
  | usd (x : Opd)
  | ustr (x n : Opd) (ty : TypeId)
  | capL (x : Opd)
  | appendZ (x y : Opd) (sz : Nat) (zero : List V) (bytes : Nat)
  | mkm
  | mupd (κ : Nat) (m k x : Opd)
  | mget (κ : Nat) (m k : Opd) (zero : V) (ok : Bool)
  | lenM (x : Opd)
  | mdel (κ : Nat) (m k : Opd)
  | dead
  | call (f : Opd) (args : List Opd)
  deriving Inhabited

structure AOper where
  dst : Option Nat
  g : Option (Nat × Bool)
  op : AOp
  deriving Inhabited

inductive AC where
  | skip
  | region (ops : List AOper)
  | drawn (ops : List (AOper × List Nat))
  | seq (a b : AC)
  | cond (c : Opd) (a b : AC)
  | block (id : Nat) (c : AC)
  | loop (c : AC)
  | exit (id : Nat)
  | ret
  | rangeF (f : Opd) (ps : List Nat) (a b : AC)
  | stop
  deriving Inhabited

def V.ofVal0 : Value → Option V
  | .bool b => some (.bool b)
  | .int k n => some (.int k n)
  | .string s => some (.str s.data.toList)
  | .pointer none => some .nilp
  | .slice none 0 0 => some .nils
  | .nilFunc => some .nilf
  | .map none => some .nilm
  | _ => none

def V.ofVal : Value → Option V
  | .agg cs => (cs.toList.mapM V.ofVal0).map .agg
  | .nilIface => some .any
  | v => V.ofVal0 v

def cOpd (N : Nat) : Operand → Option Opd
  | .tmp i => if i < N then some (.t i) else none
  | .const v => (V.ofVal v).map .c
  | .func f => some (.c (.fn f []))
  | .global _ => none

def cOpds (N : Nat) (xs : Array Operand) : Option (List Opd) := xs.toList.mapM (cOpd N)

def cOpt (N : Nat) : Option Operand → Option (Option Opd)
  | none => some none
  | some x => (cOpd N x).map some

/-- a type's size, and whether it is an aggregate -/
def cSize (P : Program) (t : TypeId) : Option (Nat × Bool) :=
  match P.info? t, P.underlying t with
  | some i, some (.struct _) => some (i.size, true)
  | some i, some (.array _ _) => some (i.size, true)
  | some i, some _ => if i.size = 1 then some (1, false) else none
  | _, _ => none

def cZero (P : Program) (t : TypeId) : Option (List V) :=
  match P.info? t with
  | some i => match i.zero with
    | some z => let l := z.cells.toList; if l.length = i.size then l.mapM V.ofVal0 else none
    | none => none
  | none => none

def cEq (P : Program) (t : TypeId) : Option Nat :=
  match P.underlying t with
  | some .bool => some 0
  | some (.pointer e) => if (P.info? e).isSome = true then some 1 else none
  | some (.slice _) => some 2
  | some (.func ..) => some 3
  | some (.map ..) => some 4
  | _ => none

/-- a struct of plain fields, one behind the other -/
def cFlat1 (P : Program) (x : Field × Nat) : Option Nat :=
  if x.1.name != "_" && x.1.offset == x.2 then
    match P.underlying x.1.type with
    | some .bool => some 0
    | some (.int _) => some 1
    | some .string => some 2
    | _ => none
  else none

def cFlat (P : Program) (t : TypeId) : Option (List Nat) :=
  match P.underlying t with
  | some (.struct fs) => if (!P.eqGuardType P.depth t && !P.stoodInHeld t) = true then fs.toList.zipIdx.mapM (cFlat1 P) else none
  | _ => none

def isNeq : BinOp → Bool
  | .neq => true
  | _ => false

def scalarOp : BinOp → Bool
  | .eql | .neq => false
  | _ => true

def cPart (P : Program) (N : Nat) (fs : Array Field) (zl : Nat) (x : Nat × Operand) : Option (Nat × Nat × Opd) :=
  match fs[x.1]? with
  | some f => match cSize P f.type, cOpd N x.2 with
    | some (n, _), some y => if f.offset + n ≤ zl then some (f.offset, n, y) else none
    | _, _ => none
  | none => none

def cPartA (N : Nat) (n zl : Nat) (x : Nat × Operand) : Option (Nat × Nat × Opd) :=
  match cOpd N x.2 with
  | some y => if x.1 * n + n ≤ zl then some (x.1 * n, n, y) else none
  | none => none

def cPartE (N : Nat) (len : Nat) (x : Nat × Operand) : Option (Nat × Opd) :=
  match cOpd N x.2 with
  | some y => if x.1 < len then some (x.1, y) else none
  | none => none

def cField (P : Program) (t : TypeId) (f : Nat) : Option (Field × Nat × Bool) :=
  match P.underlying t with
  | some (.struct fs) => match fs[f]? with
    | some f => match cSize P f.type with
      | some (n, b) => some (f, n, b)
      | none => none
    | none => none
  | _ => none

/-- a slice type's element: its size, its zero, its bytes -/
def cElem (P : Program) (t : TypeId) : Option (Nat × List V × Nat) :=
  match P.underlying t with
  | some (.slice e) => match cSize P e, cZero P e, P.info? e with
    | some (n, _), some z, some i => if 0 < n ∧ z.length = n ∧ i.size = n then some (n, z, i.bytes) else none
    | _, _, _ => none
  | _ => none

def isStr (P : Program) (t : TypeId) : Bool :=
  match P.underlying t with
  | some .string => true
  | _ => false

def isBld (P : Program) (t : TypeId) : Bool :=
  match P.underlying t with
  | some (.struct fs) => fs.toList.map (·.name) == ["addr", "buf"]
  | _ => false

def isNoEsc (P : Program) : Operand → Bool
  | .func f => match P.funcs[f]? with
    | some fn => fn.name == "internal/abi.NoEscape" && fn.origin == "" && fn.body.isNone
    | none => false
  | _ => false

/-- which keys a kind of types has -/
def cKind : TypeDesc → Option Nat
  | .int _ => some 0
  | .string => some 1
  | .bool => some 2
  | _ => none
/-- a map whose keys are numbers, texts, truths: their kind, and its elements' type -/
def cKey (P : Program) (t : TypeId) : Option (Nat × TypeId) :=
  match P.underlying t with
  | some (.map k e) => match P.underlying k with
    | some d => (cKind d).map fun κ => (κ, e)
    | _ => none
  | _ => none
def cBuiltin (P : Program) (b : Builtin) (ts : Array TypeId) (xs : List Opd) : Option AOp :=
  match b, xs, ts[0]? with
  | .len, [x], some t => if isStr P t then some (.lenS x) else match cElem P t with | some _ => some (.lenL x) | none => (match cKey P t with | some _ => some (.lenM x) | none => none)
  | .append, [x, y], some t => match cElem P t, ts[1]? with
    | some (n, z, bytes), some u => if bytes = 0 then none else if isStr P u then (match P.underlying t with | some (.slice e) => if n = 1 then some (.appendB x y bytes e) else none | _ => none) else
      (match P.underlying u with | some (.slice _) => some (.append x y n bytes false) | some (.int _) => some (.appendZ x y n z bytes) | _ => none)
    | _, _ => none
  | .copy, [x, y], some t => match cElem P t with | some (n, _, _) => some (.copy x y n) | none => none
  | .cap, [x], some t => match cElem P t with | some _ => some (.capL x) | none => none
  | .clear, [x], some t => match cElem P t with | some (_, z, _) => some (.clear x z) | none => none
  | .unsafeSliceData, [x], _ => some (.usd x)
  | .unsafeString, [x, y], some t => (match P.underlying t with | some (.pointer e) => if P.cellsOf e = 1 ∧ ts.size = 2 then some (.ustr x y e) else none | _ => none)
  | .min, x :: xs, _ => some (.mm false (x :: xs))
  | .max, x :: xs, _ => some (.mm true (x :: xs))
  | .delete, [m, k], some t => match cKey P t with | some (κ, _) => some (.mdel κ m k) | none => none
  | _, _, _ => none

/-- a type's zero, as one value -/
def cZeroV (P : Program) (t : TypeId) : Option V :=
  match P.info? t with
  | some i => match i.zero with
    | some z => V.ofVal z
    | none => none
  | none => none

def cOp (P : Program) (N : Nat) : Op → Option AOp
  | .move x => match cOpd N x with | some x => some (.mv x) | none => none
  | .assign x => match cOpd N x with | some x => some (.mv x) | none => none
  | .pick c a b => match cOpd N c, cOpd N a, cOpd N b with | some c, some a, some b => some (.pick c a b) | _, _, _ => none
  | .alloc t => match cZero P t with | some z => if isBld P t = true then some (.allocT z t) else some (.alloc z) | none => none
  | .box t x => match cSize P t, cOpd N x with | some _, some x => some (.box x) | _, _ => none
  | .build t parts => match cZero P t, P.underlying t with
    | some zero, some (.struct fs) => match parts.toList.mapM (cPart P N fs zero.length) with
      | some ps => if fs.toList.all (fun f => (P.info? f.type).isSome) then some (.build zero ps) else none
      | none => none
    | some zero, some (.array _ e) => match cSize P e with
      | some (n, _) => match parts.toList.mapM (cPartA N n zero.length) with
        | some ps => some (.build zero ps)
        | none => none
      | none => none
    | _, _ => none
  | .buildSlice t len parts => match cElem P t with
    | some (n, z, _) => if len * n ≤ 65536 then (match parts.toList.mapM (cPartE N len) with
      | some ps => some (.bslice len n z ps)
      | none => none) else none
    | none => none
  | .load t a => match cSize P t, cOpd N a with
    | some (n, agg), some a => some (.load a (if agg then some n else none))
    | _, _ => none
  | .store t a x => match cSize P t, cOpd N a, cOpd N x with
    | some (n, _), some a, some x => some (.store a x n)
    | _, _, _ => none
  | .binOp op t x y _ => match cOpd N x, cOpd N y with
    | some x, some y => if scalarOp op then some (.bin op x y) else (match P.underlying t with
      | some (.int _) | some .string => some (.bin op x y)
      | _ => match cEq P t with | some k => some (.eq (isNeq op) k x y) | none => match cFlat P t with | some n => some (.eqG (isNeq op) n x y) | none => none)
    | _, _ => none
  | .unOp op _ x => match cOpd N x with | some x => some (.un op x) | none => none
  | .convert s d x => match cOpd N x, P.underlying s, P.underlying d with
    | some x, some (.int _), some (.int k) => some (.convI k x)
    | some x, some .string, some .string => some (.convS x)
    | some x, some (.slice e), some .string => match P.underlying e with
      | some (.int .u8) => some (.b2s x)
      | _ => none
    | some x, some (.pointer t), some .unsafePointer => match P.info? t with
      | some j => if j.size = 0 then none else some (.cvU x)
      | none => none
    | some x, some .unsafePointer, some (.pointer u) => match P.info? u with
      | some j => if liesAt P P.depth u (j.size / P.cellsOf u) 0 u 1 = true then some (.cvP x u j.size) else none
      | none => none
    | _, _, _ => none
  | .field t x f => match cField P t f, cOpd N x with
    | some (f, n, agg), some x => some (.fld x f.offset (if agg then some n else none))
    | _, _ => none
  | .fieldAddr t x f => match cField P t f, cOpd N x with
    | some (f, n, _), some x => if 0 < n then some (.fldA x f.offset) else none
    | _, _ => none
  | .indexAddr t x i => match cOpd N x, cOpd N i, P.underlying t with
    | some x, some i, some (.array len e) => match cSize P e with
      | some (n, _) => if 1 < len then some (.idxA x i (some len) n) else none
      | none => none
    | some x, some i, some (.slice e) => match cSize P e with
      | some (n, _) => some (.idxA x i none n)
      | none => none
    | _, _, _ => none
  | .index t x i => match cOpd N x, cOpd N i, P.underlying t with
    | some x, some i, some (.array len e) => match cSize P e with
      | some (n, agg) => some (.idxG x i len n agg)
      | none => none
    | some x, some i, some .string => some (.idxS x i)
    | _, _, _ => none
  | .slice t x lo hi mx => match cOpd N x, cOpt N lo, cOpt N hi, cOpt N mx, P.underlying t with
    | some x, some lo, some hi, some none, some .string => some (.slcS x lo hi)
    | some x, some lo, some hi, some mx, some (.slice e) => match cSize P e with
      | some (n, _) => some (.slc x lo hi mx n)
      | none => none
    | some x, some lo, some hi, some none, some (.array n e) => match cSize P e with
      | some (s, _) => if 0 < s then some (.slcA x lo hi n s) else none
      | none => none
    | _, _, _, _, _ => none
  | .extract x i => match cOpd N x with | some x => some (.ext x i) | none => none
  | .nilCheck x => match cOpd N x with | some x => some (.nilck x) | none => none
  | .makeSlice t n c => match cOpd N n, cOpd N c, cElem P t with
    | some n, some c, some (_, z, bytes) => some (.mks n c z bytes)
    | _, _, _ => none
  | .makeFunc (.func f) first caps => if first.isEmpty then (match cOpds N caps with | some cs => some (.mkf f cs) | none => none) else none
  | .call { callee := .value f, args, .. } => if isNoEsc P f = true then (match cOpds N args with
    | some [x] => some (.mv x)
    | _ => none) else match cOpd N f, cOpds N args with
    | some f, some xs => some (.call f xs)
    | _, _ => none
  | .call { callee := .builtin b, args, argTypes } => match cOpds N args with
    | some xs => cBuiltin P b argTypes xs
    | none => none
  | .makeMap _ none => some .mkm
  | .insert t m k x => match cKey P t, cOpd N m, cOpd N k, cOpd N x with
    | some (κ, _), some m, some k, some x => some (.mupd κ m k x)
    | _, _, _, _ => none
  | .mapUpdate t m k x => match cKey P t, cOpd N m, cOpd N k, cOpd N x with
    | some (κ, _), some m, some k, some x => some (.mupd κ m k x)
    | _, _, _, _ => none
  | .lookup t m k ok => match cKey P t, cOpd N m, cOpd N k with
    | some (κ, e), some m, some k => match cZeroV P e with
      | some z => some (.mget κ m k z ok)
      | none => none
    | _, _, _ => none
  | .panic _ => some .dead
  | .makeInterface _ _ => some .dead
  | _ => none

def cOper (P : Program) (N : Nat) (ops : Array Oper) (o : Oper) : Option AOper := do
  let g ← match o.guard with
    | none => pure none
    | some (j, b) => match (ops[j]?).bind (·.dst) with
      | some d => if d < N then pure (some (d, b)) else none
      | none => none
  let d ← match o.dst with
    | none => pure none
    | some d => if d < N then pure (some d) else none
  pure ⟨d, g, ← cOp P N o.op⟩

def depsOf (o : Oper) : List Nat := (o.after.toList.filter (Region.binds .any)).map (·.on)

def cDraw1 (P : Program) (N : Nat) (ops : Array Oper) (x : Oper × Nat) : Option (AOper × List Nat) :=
  match cOper P N ops x.1 with
  | some a => if (depsOf x.1).all (· < x.2) then some (a, depsOf x.1) else none
  | none => none

def cCode (P : Program) (N : Nat) : Code → Option AC
  | .skip => some .skip
  | .region _ ops false => match ops.toList.mapM (cOper P N ops) with
    | some l => some (.region l)
    | none => none
  | .region _ ops true => match ops.toList.zipIdx.mapM (cDraw1 P N ops) with
    | some l => some (.drawn l)
    | none => none
  | .seq a b => match cCode P N a, cCode P N b with
    | some a, some b => some (.seq a b)
    | _, _ => none
  | .cond c a b => match cOpd N c, cCode P N a, cCode P N b with
    | some c, some a, some b => some (.cond c a b)
    | _, _, _ => none
  | .block id c => match cCode P N c with
    | some c => some (.block id c)
    | none => none
  | .loop c => match cCode P N c with
    | some c => some (.loop c)
    | none => none
  | .exit id => some (.exit id)
  | .ret => some .ret
  | .rangeFunc f ps a b => match cOpd N f, cCode P N a, cCode P N b with
    | some f, some a, some b => if ps.toList.all (· < N) then some (.rangeF f ps.toList a b) else none
    | _, _, _ => none
  | .refuse _ => some .stop
  | _ => none

/-! ### stepping -/

abbrev T := Nat → V
def upd (t : T) (i : Nat) (v : V) : T := fun j => if j = i then v else t j
theorem upd_same (t i v) : upd t i v i = v := by simp [upd]
theorem upd_ne (t i v j) (h : j ≠ i) : upd t i v j = t j := by simp [upd, h]

def Opd.ev (t : T) : Opd → V
  | .t i => t i
  | .c v => v

def V.cells : V → List V
  | .agg l => l
  | v => [v]

/-- a value of cells -/
def V.celled : V → Bool
  | .agg l => V.ones l
  | v => v.one

mutual
/-- it names no object -/
def V.pure : V → Bool
  | .ptr .. | .eptr .. | .sl .. | .mp _ | .yld _ => false
  | .fn _ cap => V.pures cap
  | .agg l => V.pures l
  | .tup l => V.pures l
  | .bool _ | .int .. | .str _ | .nilp | .nils | .nilf | .nilm | .zs | .rptr .. | .vs .. | .any | .bad => true
def V.pures : List V → Bool
  | [] => true
  | v :: l => v.pure && V.pures l
end

def putAt (cs : List V) (off : Nat) (vs : List V) : List V := cs.take off ++ (vs ++ cs.drop (off + vs.length))

def fillAt (t : T) (cs : List V) : List (Nat × Nat × Opd) → Option (List V)
  | [] => some cs
  | (off, n, x) :: r =>
    let vs := (x.ev t).cells
    if (x.ev t).celled && vs.length == n then fillAt t (putAt cs off vs) r else none

def fillEl (t : T) (n : Nat) (cs : List (List V)) : List (Nat × Opd) → Option (List (List V))
  | [] => some cs
  | (i, x) :: r =>
    let vs := (x.ev t).cells
    if (x.ev t).celled && vs.length == n then fillEl t n (cs.set i vs) r else none

def readAt (cs : List V) (off : Nat) : Option Nat → Option V
  | none => cs[off]?
  | some n => if off + n ≤ cs.length then some (.agg ((cs.drop off).take n)) else none

/-! what is computed bit by bit, under names (so that a proof may say what it comes to) -/
def iAnd (k : IntKind) (a b : Int) : Int := k.wrap (BitVec.ofInt k.bits a &&& BitVec.ofInt k.bits b).toNat
def iOr (k : IntKind) (a b : Int) : Int := k.wrap (BitVec.ofInt k.bits a ||| BitVec.ofInt k.bits b).toNat
def iXor (k : IntKind) (a b : Int) : Int := k.wrap (BitVec.ofInt k.bits a ^^^ BitVec.ofInt k.bits b).toNat
def iAndNot (k : IntKind) (a b : Int) : Int := k.wrap (BitVec.ofInt k.bits a &&& ~~~ BitVec.ofInt k.bits b).toNat
def iShl (k : IntKind) (a b : Int) : Int := k.wrap (a * 2 ^ (min b.toNat k.bits))
def iShr (k : IntKind) (a b : Int) : Int := a.fdiv (2 ^ (min b.toNat k.bits))

def aBin (op : BinOp) : V → V → Option V
  | .int k a, .int k' b =>
    match op with
    | .shl => if 0 ≤ b then some (.int k (iShl k a b)) else none
    | .shr => if 0 ≤ b then some (.int k (iShr k a b)) else none
    | op =>
      if k = k' then
        match op with
        | .add => some (.int k (k.wrap (a + b)))
        | .sub => some (.int k (k.wrap (a - b)))
        | .mul => some (.int k (k.wrap (a * b)))
        | .quo => if b = 0 then none else some (.int k (k.wrap (a.tdiv b)))
        | .rem => if b = 0 then none else some (.int k (a.tmod b))
        | .and => some (.int k (iAnd k a b))
        | .or => some (.int k (iOr k a b))
        | .xor => some (.int k (iXor k a b))
        | .andNot => some (.int k (iAndNot k a b))
        | .eql => some (.bool (decide (a = b)))
        | .neq => some (.bool (!decide (a = b)))
        | .lss => some (.bool (decide (a < b)))
        | .leq => some (.bool (decide (a ≤ b)))
        | .gtr => some (.bool (decide (b < a)))
        | .geq => some (.bool (decide (b ≤ a)))
        | _ => none
      else none
  | .str a, .str b =>
    match op with
    | .add => if a.length + b.length ≤ 4611686018427387904 then some (.str (a ++ b)) else none
    | .eql => some (.bool (decide (a = b)))
    | .neq => some (.bool (!decide (a = b)))
    | .lss => some (.bool (Op.bytesLess a b))
    | .leq => some (.bool (Op.bytesLess a b || decide (a = b)))
    | .gtr => some (.bool (!(Op.bytesLess a b || decide (a = b))))
    | .geq => some (.bool (!Op.bytesLess a b))
    | _ => none
  | _, _ => none

def aEq (kind : Nat) : V → V → Option Bool
  | .bool a, .bool b => if kind = 0 then some (a == b) else none
  | .nilp, .nilp => if kind = 1 then some true else none
  | .ptr i a, .ptr j b => if kind = 1 ∧ i = j ∧ a = b then some true else none
  | .nilp, .ptr .. | .nilp, .rptr .. | .ptr .., .nilp | .rptr .., .nilp => if kind = 1 then some false else none
  | .nils, .nils => if kind = 2 then some true else none
  | .vs (_ :: _) _, .nils | .nils, .vs (_ :: _) _ => if kind = 2 then some false else none
  | .nilf, .nilf => if kind = 3 then some true else none
  | .nilf, .fn .. | .fn .., .nilf => if kind = 3 then some false else none
  | .nilm, .nilm => if kind = 4 then some true else none
  | .nilm, .mp _ | .mp _, .nilm => if kind = 4 then some false else none
  | _, _ => none

def eq1 : Nat → V → V → Option Bool
  | 1, .int k a, .int k' b => if k = k' then some (decide (a = b)) else none
  | 0, .bool a, .bool b => some (a == b)
  | 2, .str a, .str b => some (decide (a = b))
  | _, _, _ => none

def eqCells : List Nat → List V → List V → Option Bool
  | [], [], [] => some true
  | k :: ks, x :: xs, y :: ys => match eq1 k x y, eqCells ks xs ys with
    | some p, some q => some (p && q)
    | _, _ => none
  | _, _, _ => none

def aUn (op : UnOp) : V → Option V
  | .int k n => match op with
    | .neg => some (.int k (k.wrap (0 - n)))
    | .xor => some (.int k (k.wrap (BitVec.ofInt k.bits (if k.signed then -1 else k.max) ^^^ BitVec.ofInt k.bits n).toNat))
    | _ => none
  | .bool b => match op with
    | .not => some (.bool (!b))
    | _ => none
  | _ => none

/-- the elements of a list -/
def elemsOf (h : List O) (sz : Nat) : V → Option (List (List V))
  | .nils => some []
  | .vs e s => if s = sz then some e else none
  | .sl id off len s _ => if s = sz then (match h[id]? with
    | some (.arr e s') => if s' = sz ∧ off + len ≤ e.length then some ((e.drop off).take len) else none
    | _ => none) else none
  | _ => none

def byteEls (l : List UInt8) : List (List V) := l.map fun b => [.int .u8 b.toNat]

/-- what an append puts behind -/
def srcOf (h : List O) (sz : Nat) (str : Bool) (v : V) : Option (List (List V)) :=
  match str, v with
  | true, .str l => some (byteEls l)
  | true, _ => none
  | false, v => elemsOf h sz v

def appendV (h : List O) (x y : V) (sz bytes : Nat) (str : Bool) : Option (V × List O) :=
  match srcOf h sz str y with
  | none => none
  | some es => match x with
    | .nils => if es.length * bytes ≤ 70368744177664 then some (.sl h.length 0 es.length sz none, h ++ [.arr es sz]) else none
    | .zs => if es.length * bytes ≤ 70368744177664 then some (.sl h.length 0 es.length sz none, h ++ [.arr es sz]) else none
    | .sl id off len s _ => if s = sz then (match h[id]? with
      | some (.arr old s') => if s' = sz ∧ off + len = old.length ∧ (len + es.length) * bytes ≤ 70368744177664 then
          some (.sl h.length 0 (len + es.length) sz none, h.set id .gone ++ [.arr (old.drop off ++ es) sz]) else none
      | _ => none) else none
    | _ => none

/-- an append to a list whose capacity is known, which is not its owner's end: there is no room -/
def appendG (h : List O) (x : V) (es : List (List V)) (sz bytes : Nat) : Option (V × List O) :=
  match x with
  | .sl id off len s (some c) => if s = sz then (match h[id]? with
    | some (.arr old s') => if s' = sz ∧ off + len ≤ old.length ∧ c < len + es.length ∧ (len + es.length) * bytes ≤ 70368744177664 then
        some (.sl h.length 0 (len + es.length) sz none, h ++ [.arr ((old.drop off).take len ++ es) sz])
      else none
    | _ => none) else none
  | _ => none
/-- the same: there is room -/
def appendO (h : List O) (x : V) (es : List (List V)) (sz : Nat) : Option (V × List O) :=
  match x with
  | .sl id off len s (some c) => if s = sz then (match h[id]? with
    | some (.arr old s') => if s' = sz ∧ off + len + es.length ≤ old.length ∧ len + es.length ≤ c then
        some (.sl id off (len + es.length) sz (some c), h.set id (.arr (old.take (off + len) ++ (es ++ old.drop (off + len + es.length))) sz))
      else none
    | _ => none) else none
  | _ => none

/-- what a copy takes: so many at the most -/
def srcC (h : List O) (sz top : Nat) : V → Option (List (List V))
  | .vs es s => if s = sz then some (es.take top) else none
  | .sl id off len s _ => if s = sz then (match h[id]? with
    | some (.arr es s') => if s' = sz ∧ off + min len top ≤ es.length then some ((es.drop off).take (min len top)) else none
    | _ => none) else none
  | _ => none

def copyV (h : List O) (x y : V) (sz : Nat) : Option (V × List O) :=
  match x with
  | .sl id off len s _ => match h[id]? with
    | some (.arr es s') => match srcC h sz len y with
      | some src => if s = sz ∧ s' = sz ∧ off ≤ es.length then some (.int .i64 src.length, h.set id (.arr (es.take off ++ (src ++ es.drop (off + src.length))) sz)) else none
      | none => none
    | _ => none
  | _ => none

/-- bounds of a slice expression: from, to -/
def bound1 (t : T) (top dflt : Nat) : Option Opd → Option Nat
  | none => some dflt
  | some x => match x.ev t with
    | .int _ n => if 0 ≤ n ∧ n ≤ top then some n.toNat else none
    | _ => none

def bounds (t : T) (len : Nat) (lo hi : Option Opd) : Option (Nat × Nat) :=
  match bound1 t len len hi with
  | none => none
  | some h => match bound1 t h 0 lo with
    | none => none
    | some l => some (l, h)

/-- the same, where the capacity is known -/
def boundsC (t : T) (top len : Nat) (lo hi : Option Opd) : Option (Nat × Nat) :=
  match bound1 t top len hi with
  | none => none
  | some h => match bound1 t h 0 lo with
    | none => none
    | some l => some (l, h)

def mmGo (mx : Bool) (k : IntKind) : Int → List V → Option Int
  | a, [] => some a
  | a, .int k' b :: r => if k = k' then mmGo mx k (if mx then (if a < b then b else a) else (if b < a then b else a)) r else none
  | _, _ => none

def aMM (mx : Bool) : List V → Option V
  | .int k a :: r => (mmGo mx k a r).map (.int k)
  | _ => none

/-- cells, so many at a time -/
def chunk (sz : Nat) : Nat → List V → List (List V)
  | 0, _ => []
  | n + 1, l => l.take sz :: chunk sz n (l.drop sz)

/-- what is known of an object's variables' type -/
def hasTy (h : List O) (id : Nat) (ty : TypeId) : Bool := h.any fun o => match o with | .ty i t _ => i == id && t == ty | _ => false
def hasTyN (h : List O) (id : Nat) (ty : TypeId) (n : Nat) : Bool := h.any fun o => match o with | .ty i t k => i == id && t == ty && k == some n | _ => false
def okTy (h : List O) (ty : TypeId) : V → Bool
  | .nils | .zs => true
  | .sl id off _ _ _ => off == 0 && hasTy h id ty
  | _ => false

def clearV (h : List O) (zero : List V) : V → Option (V × List O)
  | .nils => some (.any, h)
  | .sl id off len s _ => match h[id]? with
    | some (.arr es s') => if s = zero.length ∧ s' = s ∧ off + len ≤ es.length then some (.any, h.set id (.arr (es.take off ++ (List.replicate len zero ++ es.drop (off + len))) s)) else none
    | _ => none
  | _ => none

/-- are keys of a kind the same? -/
def kEq : Nat → V → V → Option Bool
  | 0, .int k a, .int k' b => if k = k' then some (decide (a = b)) else none
  | 1, .str a, .str b => some (decide (a = b))
  | 2, .bool a, .bool b => some (a == b)
  | _, _, _ => none
/-- where a key is -/
def mFind (κ : Nat) (k : V) : List (V × V) → Nat → Option (Option Nat)
  | [], _ => some none
  | e :: es, i => match kEq κ k e.1 with
    | some true => some (some i)
    | some false => mFind κ k es (i + 1)
    | none => none

def opStep (t : T) (h : List O) : AOp → Option (V × List O)
  | .mv x => some (x.ev t, h)
  | .pick c a b => match c.ev t with
    | .bool v => some (if v = true then a.ev t else b.ev t, h)
    | _ => none
  | .alloc cells => some (.ptr h.length 0, h ++ [.row cells])
  | .box x => if (x.ev t).celled then some (.ptr h.length 0, h ++ [.row (x.ev t).cells]) else none
  | .build zero ps => match fillAt t zero ps with
    | some cs => some (.agg cs, h)
    | none => none
  | .bslice len sz zero ps => match fillEl t sz (List.replicate len zero) ps with
    | some es => if es.all V.pures then some (.sl h.length 0 len sz (some len), h ++ [.arr es sz]) else if sz = 1 then some (.sl h.length 0 len 1 (some len), h ++ [.row (es.map fun e => e.headD .bad)]) else none
    | none => none
  | .load x k => match x.ev t with
    | .ptr id off => match h[id]? with
      | some (.row cs) => match readAt cs off k with | some v => some (v, h) | none => none
      | _ => none
    | .eptr id i sz off => match h[id]? with
      | some (.arr es s) => if s = sz then (match es[i]? with
        | some cs => match readAt cs off k with | some v => some (v, h) | none => none
        | none => none) else none
      | some (.row cs) => match readAt cs (i * sz + off) k with | some v => some (v, h) | none => none
      | _ => none
    | .rptr cs off => match readAt cs off k with | some v => some (v, h) | none => none
    | _ => none
  | .store a x n =>
    let vs := (x.ev t).cells
    if (x.ev t).celled && vs.length == n then
      match a.ev t with
      | .ptr id off => match h[id]? with
        | some (.row cs) => if off + n ≤ cs.length then some (.any, h.set id (.row (putAt cs off vs))) else none
        | _ => none
      | .eptr id i sz off => match h[id]? with
        | some (.arr es s) => if s = sz ∧ V.pures vs then (match es[i]? with
          | some cs => if off + n ≤ cs.length then some (.any, h.set id (.arr (es.set i (putAt cs off vs)) sz)) else none
          | none => none) else none
        | _ => none
      | _ => none
    else none
  | .bin op x y => match aBin op (x.ev t) (y.ev t) with | some v => some (v, h) | none => none
  | .eq neg kind x y => match aEq kind (x.ev t) (y.ev t) with | some b => some (.bool (if neg = true then !b else b), h) | none => none
  | .eqG neg ks x y => match x.ev t, y.ev t with
    | .agg a, .agg b => match eqCells ks a b with | some r => some (.bool (if neg = true then !r else r), h) | none => none
    | _, _ => none
  | .un op x => match aUn op (x.ev t) with | some v => some (v, h) | none => none
  | .convI k x => match x.ev t with | .int _ n => some (.int k (k.wrap n), h) | _ => none
  | .convS x => match x.ev t with | .str l => some (.str l, h) | _ => none
  | .b2s x => match elemsOf h 1 (x.ev t) with
    | some es => match bytesOf es with | some l => some (.str l, h) | none => none
    | none => none
  | .fld x off k => match x.ev t with
    | .agg cs => match readAt cs off k with | some v => some (v, h) | none => none
    | _ => none
  | .fldA x off => match x.ev t with
    | .ptr id o => some (.ptr id (o + off), h)
    | .eptr id i sz o => some (.eptr id i sz (o + off), h)
    | .rptr cs o => some (.rptr cs (o + off), h)
    | _ => none
  | .idxA x i arr sz => match i.ev t with
    | .int _ n => match arr with
      | some len => if 0 ≤ n ∧ n < len then (match x.ev t with
        | .ptr id o => some (.ptr id (o + n.toNat * sz), h)
        | .eptr id j s o => some (.eptr id j s (o + n.toNat * sz), h)
        | .rptr cs o => some (.rptr cs (o + n.toNat * sz), h)
        | _ => none) else none
      | none => match x.ev t with
        | .vs es s => if s = sz ∧ 0 ≤ n then (match es[n.toNat]? with | some cs => some (.rptr cs 0, h) | none => none) else none
        | .sl id off len s _ => if s = sz ∧ 0 ≤ n ∧ n < len then some (.eptr id (off + n.toNat) sz 0, h) else none
        | _ => none
    | _ => none
  | .idxS x i => match i.ev t, x.ev t with
    | .int _ n, .str l => if 0 ≤ n then (match l[n.toNat]? with | some b => some (.int .u8 b.toNat, h) | none => none) else none
    | _, _ => none
  | .idxG x i len sz agg => match i.ev t, x.ev t with
    | .int _ n, .agg cs => if 0 ≤ n ∧ n < len then (match readAt cs (n.toNat * sz) (if agg then some sz else none) with | some v => some (v, h) | none => none) else none
    | _, _ => none
  | .slcS x lo hi => match x.ev t with
    | .str l => match bounds t l.length lo hi with
      | some (a, b) => some (.str ((l.take b).drop a), h)
      | none => none
    | _ => none
  | .slc x lo hi mx sz => match mx with
    | some m => match x.ev t, m.ev t with
      | .sl id off len s k, .int _ q => if s = sz ∧ 0 ≤ q ∧ q ≤ len ∧ hi.isSome = true then (match boundsC t q.toNat len lo hi with
        | some (a, b) => some (.sl id (off + a) (b - a) sz none, h)
        | none => none) else none
      | _, _ => none
    | none => match x.ev t with
      | .vs es s => if s = sz then (match bounds t es.length lo hi with
        | some (a, b) => some (.vs ((es.take b).drop a) sz, h)
        | none => none) else none
      | .sl id off len s k => if s = sz then (match boundsC t (k.getD len) len lo hi with
        | some (a, b) => some (.sl id (off + a) (b - a) sz (k.map (· - a)), h)
        | none => none) else none
      | .nils => match bounds t 0 lo hi with
        | some _ => some (.nils, h)
        | none => none
      | _ => none
  | .slcA x lo hi n sz => match x.ev t with
    | .ptr id 0 => match bounds t n lo hi with
      | some (a, b) => match h[id]? with
        | some (.row cs) => if cs.length = n * sz ∧ V.pures cs ∧ V.ones cs then some (.sl id a (b - a) sz (some (n - a)), h.set id (.arr (chunk sz n cs) sz)) else none
        | _ => none
      | none => none
    | _ => none
  | .lenS x => match x.ev t with
    | .str l => some (.int .i64 l.length, h)
    | _ => none
  | .lenL x => match x.ev t with
    | .vs es _ => some (.int .i64 es.length, h)
    | .sl _ _ n _ _ => some (.int .i64 n, h)
    | .nils => some (.int .i64 0, h)
    | _ => none
  | .append x y sz bytes str => match appendV h (x.ev t) (y.ev t) sz bytes str with
    | some r => some r
    | none => if str = true then none else match elemsOf h sz (y.ev t) with
      | some es => match appendG h (x.ev t) es sz bytes with
        | some r => some r
        | none => appendO h (x.ev t) es sz
      | none => none
  | .appendZ x y sz zero bytes => match y.ev t with
    | .int .i64 n => if 0 ≤ n ∧ n ≤ 70368744177664 then appendG h (x.ev t) (List.replicate n.toNat zero) sz bytes else none
    | _ => none
  | .capL x => match x.ev t with
    | .sl _ _ _ _ (some c) => some (.int .i64 c, h)
    | _ => none
  | .copy x y sz => copyV h (x.ev t) (y.ev t) sz
  | .mks n c zero bytes => match n.ev t, c.ev t with
    | .int _ n, .int _ m => if 0 ≤ n ∧ n = m ∧ n * bytes ≤ 70368744177664 ∧ n ≤ 70368744177664 then
        some (.sl h.length 0 n.toNat zero.length (some n.toNat), h ++ [.arr (List.replicate n.toNat zero) zero.length]) else none
    | _, _ => none
  | .mkf f caps => some (.fn f (caps.map (Opd.ev t)), h)
  | .ext x i => match x.ev t with
    | .tup vs => match vs[i]? with | some v => some (v, h) | none => none
    | _ => none
  | .nilck x => match x.ev t with
    | .ptr id o => some (.ptr id o, h)
    | .eptr id i s o => some (.eptr id i s o, h)
    | .rptr c o => some (.rptr c o, h)
    | .fn f c => some (.fn f c, h)
    | _ => none
  | .mm mx xs => match aMM mx (xs.map (Opd.ev t)) with | some v => some (v, h) | none => none
  | .clear x zero => clearV h zero (x.ev t)
  | .allocT cells ty => some (.ptr h.length 0, h ++ [.row cells] ++ [.ty h.length ty (some cells.length)])
  | .cvU x => match x.ev t with
    | .ptr id o => match h[id]? with
      | some (.row cs) => if o < cs.length then some (.ptr id o, h) else none
      | _ => none
    | _ => none
  | .cvP x ty n => match x.ev t with
    | .ptr id 0 => match h[id]? with
      | some (.row _) => if hasTyN h id ty n = true then some (.ptr id 0, h) else none
      | _ => none
    | _ => none
  | .appendB x y bytes ty => if okTy h ty (x.ev t) = true then (match appendV h (x.ev t) (y.ev t) 1 bytes true with
    | some (v, h') => some (v, h' ++ [.ty h.length ty none])
    | none => none) else none
  | .usd x => match x.ev t with
    | .sl id off len sz _ => if sz = 1 ∧ 0 < len then some (.ptr id off, h) else none
    | _ => none
  | .ustr x n ty => match x.ev t, n.ev t with
    | .ptr id 0, .int .i64 m => match h[id]? with
      | some (.arr es 1) => if hasTy h id ty = true ∧ 0 < m ∧ m ≤ 9223372036854775807 ∧ m.toNat ≤ es.length ∧ byteOk (es.take m.toNat) = true then (match bytesOf (es.take m.toNat) with
        | some l => some (.str l, h.set id .gone)
        | none => none) else none
      | _ => none
    | _, _ => none
  | .mkm => some (.mp h.length, h ++ [.map []])
  | .mupd κ m k x => match m.ev t with
    | .mp id => match h[id]? with
      | some (.map es) => match mFind κ (k.ev t) es 0 with
        | some (some i) => some (.any, h.set id (.map (es.set i (k.ev t, x.ev t))))
        | some none => if (kEq κ (k.ev t) (k.ev t)).isSome = true then some (.any, h.set id (.map (es ++ [(k.ev t, x.ev t)]))) else none
        | none => none
      | _ => none
    | _ => none
  | .mget κ m k z ok => match m.ev t with
    | .mp id => match h[id]? with
      | some (.map es) => match mFind κ (k.ev t) es 0 with
        | some (some i) => (es[i]?).map fun e => (if ok then .tup [e.2, .bool true] else e.2, h)
        | some none => some (if ok then .tup [z, .bool false] else z, h)
        | none => none
      | _ => none
    | .nilm => some (if ok then .tup [z, .bool false] else z, h)
    | _ => none
  | .lenM x => match x.ev t with
    | .mp id => match h[id]? with
      | some (.map es) => some (.int .i64 es.length, h)
      | _ => none
    | .nilm => some (.int .i64 0, h)
    | _ => none
  | .mdel κ m k => match m.ev t with
    | .mp id => match h[id]? with
      | some (.map es) => match mFind κ (k.ev t) es 0 with
        | some (some i) => some (.tup [], h.set id (.map (es.eraseIdx i)))
        | some none => some (.tup [], h.set id (.map es))
        | none => none
      | _ => none
    | _ => none
  | .dead | .call .. => none

def put (t : T) (d : Option Nat) (v : V) : T :=
  match d with
  | none => t
  | some d => upd t d v

inductive AItem where
  | code (c : AC)
  | ops (l : List AOper)
  | endB (id : Nat)
  | inLoop (c : AC)
  | beginR

structure Cfg where
  k : List AItem
  t : T
  h : List O

def unwind (id : Nat) : List AItem → Option (List AItem)
  | .endB j :: k => if j = id then some k else unwind id k
  | _ :: k => unwind id k
  | [] => none

inductive Br where
  | one (c : Cfg)
  | ite (p : Bool) (a b : Br)
  | stop

def opBr (t : T) (h : List O) (d : Option Nat) (o : AOp) (l : List AOper) (k : List AItem) : Br :=
  match opStep t h o with
  | some (v, h') => .one ⟨.ops l :: k, put t d v, h'⟩
  | none => .stop

def step1 : Cfg → Br
  | ⟨.code .skip :: k, t, h⟩ => .one ⟨k, t, h⟩
  | ⟨.code (.seq a b) :: k, t, h⟩ => .one ⟨.code a :: .code b :: k, t, h⟩
  | ⟨.code (.region l) :: k, t, h⟩ => .one ⟨.ops l :: k, t, h⟩
  | ⟨.code (.block id c) :: k, t, h⟩ => .one ⟨.code c :: .endB id :: k, t, h⟩
  | ⟨.code (.exit id) :: k, t, h⟩ => match unwind id k with
    | some k' => .one ⟨k', t, h⟩
    | none => .stop
  | ⟨.code (.cond c a b) :: k, t, h⟩ => match c.ev t with
    | .bool v => .ite v (.one ⟨.code a :: k, t, h⟩) (.one ⟨.code b :: k, t, h⟩)
    | _ => .stop
  | ⟨.endB _ :: k, t, h⟩ => .one ⟨k, t, h⟩
  | ⟨.ops [] :: k, t, h⟩ => .one ⟨k, t, h⟩
  | ⟨.ops (⟨d, none, o⟩ :: l) :: k, t, h⟩ => opBr t h d o l k
  | ⟨.ops (⟨d, some (j, want), o⟩ :: l) :: k, t, h⟩ => match t j with
    | .bool v => .ite (v == want) (opBr t h d o l k) (.one ⟨.ops l :: k, put t d (.tup []), h⟩)
    | .tup [] => .one ⟨.ops l :: k, put t d (.tup []), h⟩
    | _ => .stop
  | _ => .stop

def exec : Nat → Cfg → Cfg
  | 0, c => c
  | n + 1, c => match step1 c with
    | .one c' => exec n c'
    | .ite p a b => if p = true then (match a with | .one c' => exec n c' | _ => c) else (match b with | .one c' => exec n c' | _ => c)
    | .stop => c

end Sx

/-
  Sx, part D: what a heap owes, one change at a time.
-/
namespace Sx
open Go

theorem getElem?_append_last {α} (l : List α) (x : α) : (l ++ [x])[l.length]? = some x := by simp

theorem live_append {h : List O} {o : O} {i : Nat} (hl : Live (h ++ [o]) i) : (i < h.length ∧ Live h i) ∨ (i = h.length ∧ o.live) := by
  obtain ⟨x, hx, hxl⟩ := hl
  rcases Nat.lt_trichotomy i h.length with h1 | h1 | h1
  · left; exact ⟨h1, x, by rwa [List.getElem?_append_left h1] at hx, hxl⟩
  · subst h1; simp at hx; subst hx; exact .inr ⟨rfl, hxl⟩
  · rw [List.getElem?_eq_none (by simp; omega)] at hx; cases hx

theorem Live.lt {h : List O} {i : Nat} (hl : Live h i) : i < h.length := by
  obtain ⟨x, hx, _⟩ := hl
  exact (List.getElem?_eq_some_iff.1 hx).1

/-- A NEW OBJECT, at a place that nobody has; or at the place of one that goes. -/
theorem HRel.move {c : Ctx} {w w' : World} {h h' : List O} (hh : HRel c w h) (o : O) (p : Place)
    (hlen : h'.length = h.length)
    (hh' : ∀ (i : Nat) (x : O), h'[i]? = some x → x.live → h[i]? = some x)
    (hpl : p.null = false → (∀ i q, Live h' i → c.m i = some q → q.null = false → q.block ≠ p.block) ∧ c.ro p.block = none ∧ (Owns c h p.block ∨ w.heap.size ≤ p.block))
    (hsize : w.heap.size ≤ w'.heap.size)
    (hframe : ∀ b, b < w.heap.size → (p.null = false → b ≠ p.block) → w'.heap[b]? = w.heap[b]?)
    (hos : w'.os = w.os) (hout : w'.output = w.output) (htape : w'.tape = w.tape)
    (hr : ∀ m' : Pl, (∀ i q, c.m i = some q → m' i = some q) → ORel c.ro m' w' p o) :
    HRel ⟨fun i => if i = h.length then some p else c.m i, c.ro⟩ w' (h' ++ [o]) ∧ Adv c w h ⟨fun i => if i = h.length then some p else c.m i, c.ro⟩ w' (h' ++ [o]) := by
  have hext : ∀ i q, c.m i = some q → (if i = h.length then some p else c.m i) = some q := by
    intro i q hq
    have := hh.dom i q hq
    rw [if_neg (by omega)]; exact hq
  have hlive : ∀ i, Live h' i → Live h i := fun i ⟨x, hx, hl⟩ => ⟨x, hh' i x hx hl, hl⟩
  refine ⟨⟨?_, ?_, ?_, ?_, hh.glob⟩, ⟨hext, fun _ _ h => h, by simp [hlen], ?_, hsize, ?_, ?_, fun _ _ h => .inl h, hos, hout, htape⟩⟩
  · intro b cs hb
    obtain ⟨e, fr, hw⟩ := hh.ro b cs hb
    refine ⟨e, fr, ?_⟩
    rw [hframe b (Array.getElem?_eq_some_iff.1 hw).1 fun hn he => ?_]
    · exact hw
    · subst he; have := (hpl hn).2.1; simp only at hb; rw [this] at hb; cases hb
  · intro i q hq
    simp only at hq
    by_cases e : i = h.length
    · simp [e, hlen]
    · rw [if_neg e] at hq; have := hh.dom i q hq; simp [hlen]; omega
  · intro i x hx hl
    rcases Nat.lt_trichotomy i h.length with h1 | h1 | h1
    · rw [List.getElem?_append_left (by omega)] at hx
      have hx' := hh' i x hx hl
      obtain ⟨q, hq, hr', hro⟩ := hh.obj i x hx' hl
      refine ⟨q, hext i q hq, hr'.mono (fun _ _ h => h) hext fun hn => ?_, hro⟩
      refine hframe _ (hh.owns_lt ⟨i, q, ⟨x, hx', hl⟩, hq, hn, rfl⟩) fun hn' he => ?_
      exact (hpl hn').1 i q ⟨x, hx, hl⟩ hq hn he
    · subst h1
      rw [← hlen] at hx
      simp at hx; subst hx
      exact ⟨p, by simp, hr _ hext, fun hn => (hpl hn).2.1⟩
    · rw [List.getElem?_eq_none (by simp; omega)] at hx; cases hx
  · intro i j q q' hi hj hq hq' hn hn' he
    rcases live_append hi with ⟨h1, hi⟩ | ⟨h1, _⟩ <;> rcases live_append hj with ⟨h2, hj⟩ | ⟨h2, _⟩
    · simp only at hq hq'
      rw [if_neg (by omega)] at hq hq'
      exact hh.inj i j q q' (hlive _ hi) (hlive _ hj) hq hq' hn hn' he
    · simp only at hq hq'
      rw [if_neg (by omega)] at hq
      rw [if_pos (by omega)] at hq'
      cases hq'
      exact absurd he ((hpl hn').1 i q hi hq hn)
    · simp only at hq hq'
      rw [if_pos (by omega)] at hq
      rw [if_neg (by omega)] at hq'
      cases hq
      exact absurd he.symm ((hpl hn).1 j q' hj hq' hn')
    · omega
  · intro i hi hl
    rcases live_append hl with ⟨_, hl⟩ | ⟨h1, _⟩
    · exact hlive i hl
    · omega
  · intro b hb hno
    refine hframe b hb fun hn he => ?_
    subst he
    rcases (hpl hn).2.2 with h1 | h1
    · exact hno h1
    · omega
  · intro i q hq hn
    simp only at hq
    by_cases e : i = h.length
    · rw [if_pos e] at hq; cases hq
      exact .inr (hpl hn).2.2
    · rw [if_neg e] at hq; exact .inl hq

/-- a new block -/
theorem HRel.grow {c : Ctx} {w w' : World} {h : List O} (hh : HRel c w h) (o : O) (p : Place)
    (hp : p.null = false → w.heap.size ≤ p.block) (hsize : w.heap.size ≤ w'.heap.size) (hframe : ∀ b, b < w.heap.size → w'.heap[b]? = w.heap[b]?)
    (hos : w'.os = w.os) (hout : w'.output = w.output) (htape : w'.tape = w.tape)
    (hr : ∀ m' : Pl, (∀ i q, c.m i = some q → m' i = some q) → ORel c.ro m' w' p o) :
    HRel ⟨fun i => if i = h.length then some p else c.m i, c.ro⟩ w' (h ++ [o]) ∧ Adv c w h ⟨fun i => if i = h.length then some p else c.m i, c.ro⟩ w' (h ++ [o]) := by
  refine hh.move o p rfl (fun _ _ h _ => h) (fun hn => ⟨fun i q hl hq hn' he => ?_, ?_, .inr (hp hn)⟩) hsize (fun b hb _ => hframe b hb) hos hout htape hr
  · have := hh.owns_lt ⟨i, q, hl, hq, hn', he⟩
    have := hp hn
    omega
  · cases hc : c.ro p.block with
    | none => rfl
    | some cs =>
      obtain ⟨e, fr, hw⟩ := hh.ro _ _ hc
      have := (Array.getElem?_eq_some_iff.1 hw).1
      have := hp hn
      omega

/-- an object is changed where it lies -/
theorem HRel.change {c : Ctx} {w w' : World} {h : List O} (hh : HRel c w h) (id : Nat) (o o' : O) (p : Place) (hid : h[id]? = some o) (hl : o.live) (hp : c.m id = some p) (hpn : p.null = false)
    (hsize : w'.heap.size = w.heap.size) (hframe : ∀ b, b ≠ p.block → w'.heap[b]? = w.heap[b]?)
    (hos : w'.os = w.os) (hout : w'.output = w.output) (htape : w'.tape = w.tape) (hr : ORel c.ro c.m w' p o') :
    HRel c w' (h.set id o') ∧ Adv c w h c w' (h.set id o') := by
  have hlt : id < h.length := (List.getElem?_eq_some_iff.1 hid).1
  have hown : Owns c h p.block := ⟨id, p, ⟨o, hid, hl⟩, hp, hpn, rfl⟩
  have hrop : c.ro p.block = none := by
    obtain ⟨q, hq, _, h3⟩ := hh.obj id o hid hl
    rw [hp] at hq; cases hq; exact h3 hpn
  have hlive : ∀ i, Live (h.set id o') i → Live h i := by
    rintro i ⟨x, hx, hxl⟩
    by_cases e : i = id
    · subst e; exact ⟨o, hid, hl⟩
    · rw [List.getElem?_set_ne (Ne.symm e)] at hx; exact ⟨x, hx, hxl⟩
  refine ⟨⟨?_, ?_, ?_, ?_, hh.glob⟩, ⟨fun _ _ h => h, fun _ _ h => h, by simp, fun i _ => hlive i, by omega, ?_, fun _ _ h _ => .inl h, fun _ _ h => .inl h, hos, hout, htape⟩⟩
  · intro b cs hb
    obtain ⟨e, fr, hw⟩ := hh.ro b cs hb
    refine ⟨e, fr, ?_⟩
    rw [hframe b fun he => ?_]
    · exact hw
    · subst he; rw [hrop] at hb; cases hb
  · intro i q hq; simpa using hh.dom i q hq
  · intro i x hx hxl
    by_cases e : i = id
    · subst e
      rw [List.getElem?_set_self hlt] at hx
      cases hx
      exact ⟨p, hp, hr, fun _ => hrop⟩
    · rw [List.getElem?_set_ne (Ne.symm e)] at hx
      obtain ⟨q, hq, hr', hro⟩ := hh.obj i x hx hxl
      refine ⟨q, hq, hr'.mono (fun _ _ h => h) (fun _ _ h => h) fun hn => hframe _ fun he => ?_, hro⟩
      exact e (hh.inj i id q p ⟨x, hx, hxl⟩ ⟨o, hid, hl⟩ hq hp hn hpn he)
  · intro i j q q' hi hj hq hq' hn hn' he
    exact hh.inj i j q q' (hlive _ hi) (hlive _ hj) hq hq' hn hn' he
  · intro b hb hno
    exact hframe b fun he => hno (he ▸ hown)

/-- cells are stored: what the block holds then -/
theorem setCells_heap : ∀ (vs : List Value) (w : World) (b o : Nat) (cc : Array Value) (e : TypeId) (fr : Nat × Nat), w.heap[b]? = some (.cells cc e fr) → o + vs.length ≤ cc.size →
    ∃ cc', (w.setCells b o vs).heap[b]? = some (.cells cc' e fr) ∧ cc'.size = cc.size ∧ (∀ i, i < cc.size → cc'[i]? = if o ≤ i ∧ i < o + vs.length then vs[i - o]? else cc[i]?)
  | [], w, b, o, cc, e, fr, hw, _ => ⟨cc, hw, rfl, fun i hi => by rw [if_neg (by simp)]⟩
  | v :: r, w, b, o, cc, e, fr, hw, hl => by
    have hb : b < w.heap.size := (Array.getElem?_eq_some_iff.1 hw).1
    have hw1 : (w.setCell ⟨b, o, none⟩ v).heap[b]? = some (.cells (cc.setIfInBounds o v) e fr) := by
      simp only [World.setCell, Array.getElem?_modify]
      simp [hw]
    obtain ⟨cc', h1, h2, h3⟩ := setCells_heap r (w.setCell ⟨b, o, none⟩ v) b (o + 1) _ e fr hw1 (by simp at hl ⊢; omega)
    refine ⟨cc', h1, by simpa using h2, fun i hi => ?_⟩
    rw [h3 i (by simpa using hi)]
    simp only [List.length_cons] at hl ⊢
    by_cases h4 : o + 1 ≤ i ∧ i < o + 1 + r.length
    · rw [if_pos h4, if_pos (by omega), show i - o = (i - (o + 1)) + 1 from by omega, List.getElem?_cons_succ]
    · rw [if_neg h4]
      by_cases h5 : i = o
      · subst h5; rw [if_pos (by omega)]; simp [hi]
      · rw [if_neg (by omega), Array.getElem?_setIfInBounds_ne (Ne.symm h5)]

theorem setCells_other : ∀ (vs : List Value) (w : World) (b o k : Nat), k ≠ b → (w.setCells b o vs).heap[k]? = w.heap[k]?
  | [], _, _, _, _, _ => rfl
  | v :: r, w, b, o, k, h => by
    rw [World.setCells, setCells_other r _ b (o + 1) k h]
    simp only [World.setCell, Array.getElem?_modify]
    rw [if_neg (Ne.symm h)]

theorem setCells_rest : ∀ (vs : List Value) (w : World) (b o : Nat), (w.setCells b o vs).heap.size = w.heap.size ∧ (w.setCells b o vs).os = w.os ∧ (w.setCells b o vs).output = w.output ∧ (w.setCells b o vs).tape = w.tape
  | [], _, _, _ => ⟨rfl, rfl, rfl, rfl⟩
  | v :: r, w, b, o => by
    obtain ⟨h1, h2, h3, h4⟩ := setCells_rest r (w.setCell ⟨b, o, none⟩ v) b (o + 1)
    exact ⟨by rw [World.setCells, h1]; simp [World.setCell], h2, h3, h4⟩

theorem cell_of_heap {w : World} {b i : Nat} {cc : Array Value} {e fr} (h : w.heap[b]? = some (.cells cc e fr)) : w.cell? ⟨b, i, none⟩ = cc[i]? := by
  simp [World.cell?, h]

theorem frozen_of_heap {w : World} {b i : Nat} {cc : Array Value} {e : TypeId} {fr : Nat × Nat} (h : w.heap[b]? = some (.cells cc e fr)) (hf : ¬ (fr.1 ≤ i ∧ i < fr.2)) : w.frozen? ⟨b, i, none⟩ = false := by
  obtain ⟨lo, hi⟩ := fr
  simp only at hf
  simp only [World.frozen?, h]
  simp; omega

end Sx

/-
  Sx, part E: operations, the abstract step held against the model's, one kind at a time.
-/
namespace Sx
open Go

structure TRel (N : Nat) (c : Ctx) (t : T) (a : Act) : Prop where
  size : a.tmps.size = N
  rel : ∀ i, VRel c.ro c.m (t i) (a.tmps.getD i undef)

theorem TRel.mono {N c c' t a} (h : TRel N c t a) (hm : ∀ i p, c.m i = some p → c'.m i = some p) (hr : ∀ b cs, c.ro b = some cs → c'.ro b = some cs) : TRel N c' t a :=
  ⟨h.size, fun i => (h.rel i).mono hr hm⟩

theorem TRel.put {N c t a} (h : TRel N c t a) (d : Option Nat) (hd : ∀ x, d = some x → x < N) {v : V} {cv : Value} (hv : VRel c.ro c.m v cv) : TRel N c (put t d v) (a.put d cv) := by
  cases d with
  | none => exact h
  | some d =>
    refine ⟨by simp [Act.put, h.size], fun i => ?_⟩
    have hdN := hd d rfl
    by_cases e : i = d
    · subst e
      have : (i : Nat) < a.tmps.size := by rw [h.size]; exact hdN
      simp [Sx.put, upd, Act.put, this]; exact hv
    · have := h.rel i
      simp only [Sx.put, upd, if_neg e, Act.put]
      rw [Array.getD_eq_getD_getElem?, Array.getElem?_setIfInBounds_ne (Ne.symm e), ← Array.getD_eq_getD_getElem?]
      exact this

theorem ofVal0_rel {ro m} {v : Value} {v' : V} (h : V.ofVal0 v = some v') : VRel ro m v' v := by
  unfold V.ofVal0 at h
  split at h <;> cases h
  · exact .bool ..
  · exact .int ..
  · rename_i s; have := VRel.str (ro := ro) m s.data.toList; simpa using this
  · exact .nilp ..
  · exact .nils ..
  · exact .nilf ..
  · exact .nilm ..

theorem mapM_some {α β} (f : α → Option β) : ∀ (l : List α) (r : List β), l.mapM f = some r → l.length = r.length ∧ ∀ i (h : i < l.length) (h' : i < r.length), f l[i] = some r[i]
  | [], r, h => by simp at h; subst h; exact ⟨rfl, fun i h => by simp at h⟩
  | a :: l, r, h => by
    simp only [List.mapM_cons] at h
    cases ha : f a with
    | none => simp [ha] at h
    | some b =>
      cases hl : l.mapM f with
      | none => simp [ha, hl] at h
      | some s =>
        simp [ha, hl] at h
        subst h
        obtain ⟨h1, h2⟩ := mapM_some f l s hl
        refine ⟨by simp [h1], fun i hi hi' => ?_⟩
        cases i with
        | zero => simpa using ha
        | succ i => simpa using h2 i (by simpa using hi) (by simpa using hi')

theorem ofVal_rel {ro m} {v : Value} {v' : V} (h : V.ofVal v = some v') : VRel ro m v' v := by
  unfold V.ofVal at h
  split at h
  · rename_i cs
    cases hm : cs.toList.mapM V.ofVal0 with
    | none => simp [hm] at h
    | some l =>
      simp [hm] at h; subst h
      obtain ⟨h1, h2⟩ := mapM_some _ _ _ hm
      refine .agg _ _ _ (by simpa using h1.symm) fun i a b => ?_
      have := h2 i (by simpa using b) a
      exact ofVal0_rel (by simpa using this)
  · cases h; exact .any ..
  · exact ofVal0_rel h

theorem opd_rel {N c t a} (h : TRel N c t a) {x : Operand} {x' : Opd} (hx : cOpd N x = some x') : VRel c.ro c.m (x'.ev t) (a.eval x) := by
  cases x with
  | tmp i =>
    simp only [cOpd] at hx
    split at hx <;> cases hx
    exact h.rel i
  | const v =>
    simp only [cOpd] at hx
    cases hv : V.ofVal v with
    | none => simp [hv] at hx
    | some u => simp [hv] at hx; subst hx; exact ofVal_rel hv
  | func f => simp only [cOpd] at hx; cases hx; exact .fn _ _ _ _ rfl fun i h => by simp at h
  | global g => simp [cOpd] at hx

theorem opds_rel {N c t a} (h : TRel N c t a) {xs : Array Operand} {xs' : List Opd} (hx : cOpds N xs = some xs') : VRels c.ro c.m (xs'.map (Opd.ev t)) (xs.map a.eval) := by
  obtain ⟨h1, h2⟩ := mapM_some _ _ _ hx
  refine ⟨by simp [← h1], fun i a b => ?_⟩
  have := opd_rel h (h2 i (by simpa using b) (by simpa using a))
  simpa using this

section inv
variable {ro : Ro} {m : Pl} {cv : Value}
theorem VRel.int_inv {k n} (h : VRel ro m (.int k n) cv) : cv = .int k n := by cases h; rfl
theorem VRel.bool_inv {b} (h : VRel ro m (.bool b) cv) : cv = .bool b := by cases h; rfl
theorem VRel.str_inv {l} (h : VRel ro m (.str l) cv) : cv = .string ⟨l.toArray⟩ := by cases h; rfl
theorem VRel.nilp_inv (h : VRel ro m .nilp cv) : cv = .pointer none := by cases h; rfl
theorem VRel.nils_inv (h : VRel ro m .nils cv) : cv = .slice none 0 0 := by cases h; rfl
theorem VRel.nilf_inv (h : VRel ro m .nilf cv) : cv = .nilFunc := by cases h; rfl
theorem VRel.nilm_inv (h : VRel ro m .nilm cv) : cv = .map none := by cases h; rfl
theorem VRel.zs_inv (h : VRel ro m .zs cv) : ∃ a, cv = .slice a 0 0 := by cases h; exact ⟨_, rfl⟩
theorem VRel.ptr_inv {id off} (h : VRel ro m (.ptr id off) cv) : ∃ p, m id = some p ∧ p.null = false ∧ cv = .pointer (some ⟨p.block, p.base + off, none⟩) := by cases h; exact ⟨_, by assumption, by assumption, rfl⟩
theorem VRel.eptr_inv {id i sz off} (h : VRel ro m (.eptr id i sz off) cv) : ∃ p, m id = some p ∧ p.null = false ∧ cv = .pointer (some ⟨p.block, p.base + i * sz + off, none⟩) := by cases h; exact ⟨_, by assumption, by assumption, rfl⟩
theorem VRel.rptr_inv {cells off} (h : VRel ro m (.rptr cells off) cv) : ∃ (b o : Nat) (cs : Array Value) (f : Nat → Value), ro b = some cs ∧ (∀ i, i < cells.length → cs[o + i]? = some (f i)) ∧ (∀ i (h : i < cells.length), VRel ro Pl.none cells[i] (f i)) ∧ cv = .pointer (some ⟨b, o + off, none⟩) := by
  cases h; exact ⟨_, _, _, _, by assumption, by assumption, by assumption, rfl⟩
theorem VRel.sl_inv {id off len sz k} (h : VRel ro m (.sl id off len sz k) cv) :
    (∃ p cap o, m id = some p ∧ p.null = false ∧ len ≤ cap ∧ (o = p.base + off * sz ∨ cap = 0) ∧ (0 < cap → p.base + off * sz + cap * sz ≤ p.top) ∧ (∀ x, k = some x → x = cap) ∧ cv = .slice (some ⟨p.block, o, none⟩) len cap) ∨
    (∃ p a, m id = some p ∧ p.null = true ∧ off = 0 ∧ len = 0 ∧ k = none ∧ cv = .slice a 0 0) := by
  cases h
  · exact .inl ⟨_, _, _, by assumption, by assumption, by assumption, by assumption, by assumption, by assumption, rfl⟩
  · exact .inr ⟨_, _, by assumption, by assumption, rfl, rfl, rfl, rfl⟩
theorem VRel.vs_inv {elems sz} (h : VRel ro m (.vs elems sz) cv) :
    (∃ (b o cap : Nat) (cs : Array Value) (f : Nat → Nat → Value), ro b = some cs ∧ elems.length ≤ cap ∧ (∀ i (h : i < elems.length), elems[i].length = sz) ∧ (∀ e ∈ elems, V.ones e = true) ∧ (∀ i j, i < elems.length → j < sz → cs[o + i * sz + j]? = some (f i j)) ∧
      (∀ i (h : i < elems.length) j (h' : j < elems[i].length), VRel ro Pl.none elems[i][j] (f i j)) ∧ cv = .slice (some ⟨b, o, none⟩) elems.length cap) ∨
    (∃ a, elems = [] ∧ cv = .slice a 0 0) := by
  cases h
  · exact .inl ⟨_, _, _, _, _, by assumption, by assumption, by assumption, by assumption, by assumption, by assumption, rfl⟩
  · exact .inr ⟨_, rfl, rfl⟩
theorem VRel.agg_inv {cells} (h : VRel ro m (.agg cells) cv) : ∃ cs, cv = .agg cs ∧ VRels ro m cells cs := by cases h; exact ⟨_, rfl, by assumption, by assumption⟩
theorem VRel.tup_inv {cells} (h : VRel ro m (.tup cells) cv) : ∃ cs, cv = .tuple cs ∧ VRels ro m cells cs := by cases h; exact ⟨_, rfl, by assumption, by assumption⟩
theorem VRel.fn_inv {f cap} (h : VRel ro m (.fn f cap) cv) : ∃ cs, cv = .func (.func f) #[] cs ∧ VRels ro m cap cs := by cases h; exact ⟨_, rfl, by assumption, by assumption⟩
end inv

theorem V.ones_mem : ∀ {l : List V}, V.ones l = true → ∀ v ∈ l, v.one = true
  | a :: l, h, v, hv => by
    simp only [V.ones, Bool.and_eq_true] at h
    rcases List.mem_cons.1 hv with rfl | hv
    · exact h.1
    · exact V.ones_mem h.2 v hv

theorem one_oneCell {ro m v cv} (h : VRel ro m v cv) (h1 : v.one = true) : cv.oneCell' = true := by
  cases h <;> first | rfl | (simp [V.one] at h1; done)

/-- a value's cells -/
theorem cells_rel {ro m v cv} (h : VRel ro m v cv) (h1 : v.celled = true) : VRels ro m v.cells cv.cells ∧ ∀ u ∈ cv.cells.toList, u.oneCell' = true := by
  by_cases ha : ∃ l, v = .agg l
  · obtain ⟨l, rfl⟩ := ha
    obtain ⟨cs, rfl, hr⟩ := h.agg_inv
    refine ⟨hr, fun u hu => ?_⟩
    simp only [Value.cells] at hu
    obtain ⟨i, hi, rfl⟩ := List.getElem_of_mem hu
    have hi' : i < cs.size := by simpa using hi
    have := hr.2 i (by rw [hr.1]; exact hi') hi'
    exact one_oneCell (by simpa using this) (V.ones_mem h1 _ (List.getElem_mem _))
  · have e1 : v.cells = [v] := by unfold V.cells; split; · exact absurd ⟨_, rfl⟩ ha
                                  · rfl
    have h1' : v.one = true := by
      unfold V.celled at h1; split at h1
      · exact absurd ⟨_, rfl⟩ ha
      · exact h1
    have h2 := one_oneCell h h1'
    have e2 : cv.cells = #[cv] := by cases cv <;> first | rfl | (simp [Value.oneCell'] at h2; done)
    rw [e1, e2]
    exact ⟨⟨rfl, fun i a b => by simp at a; subst a; exact h⟩, by simpa using h2⟩

mutual
theorem pure_rel {ro m} : ∀ {v : V} {cv : Value}, v.pure = true → VRel ro m v cv → VRel ro Pl.none v cv
  | .bool _, _, _, h => by cases h; exact .bool ..
  | .int .., _, _, h => by cases h; exact .int ..
  | .str _, _, _, h => by cases h; exact .str ..
  | .nilp, _, _, h => by cases h; exact .nilp ..
  | .nils, _, _, h => by cases h; exact .nils ..
  | .nilf, _, _, h => by cases h; exact .nilf ..
  | .nilm, _, _, h => by cases h; exact .nilm ..
  | .zs, _, _, h => by cases h; exact .zs ..
  | .rptr .., _, _, h => by obtain ⟨b, o, cs, f, h1, h2, h3, rfl⟩ := h.rptr_inv; exact .rptr _ _ _ b o cs f h1 h2 h3
  | .vs .., _, _, h => by
    rcases h.vs_inv with ⟨b, o, cap, cs, f, h1, h2, h3, h6, h4, h5, rfl⟩ | ⟨a, rfl, rfl⟩
    · exact .vs _ _ _ b o cap cs f h1 h2 h3 h6 h4 h5
    · exact .vsnil ..
  | .any, _, _, _ => .any ..
  | .bad, _, _, h => by cases h
  | .fn f cap, _, hp, h => by
    obtain ⟨cs, rfl, h1, h2⟩ := h.fn_inv
    exact .fn _ _ _ _ h1 fun i a b => pures_rel hp (fun i a b => h2 i a b) i a b
  | .agg l, _, hp, h => by
    obtain ⟨cs, rfl, h1, h2⟩ := h.agg_inv
    exact .agg _ _ _ h1 fun i a b => pures_rel hp (fun i a b => h2 i a b) i a b
  | .tup l, _, hp, h => by
    obtain ⟨cs, rfl, h1, h2⟩ := h.tup_inv
    exact .tup _ _ _ h1 fun i a b => pures_rel hp (fun i a b => h2 i a b) i a b
  | .ptr .., _, hp, _ => by simp [V.pure] at hp
  | .eptr .., _, hp, _ => by simp [V.pure] at hp
  | .sl .., _, hp, _ => by simp [V.pure] at hp
  | .mp _, _, hp, _ => by simp [V.pure] at hp
  | .yld _, _, hp, _ => by simp [V.pure] at hp
theorem pures_rel {ro m} : ∀ {l : List V} {cs : Array Value}, V.pures l = true → (∀ i (h : i < l.length) (h' : i < cs.size), VRel ro m l[i] cs[i]) → ∀ i (h : i < l.length) (h' : i < cs.size), VRel ro Pl.none l[i] cs[i]
  | v :: l, cs, hp, hv, 0, h, h' => by
    simp only [V.pures, Bool.and_eq_true] at hp
    exact pure_rel hp.1 (hv 0 h h')
  | v :: l, cs, hp, hv, i + 1, h, h' => by
    simp only [V.pures, Bool.and_eq_true] at hp
    have := pures_rel (l := l) (cs := cs.extract 1 cs.size) hp.2 (fun j a b => by
      have := hv (j + 1) (by simpa using a) (by simp at b; omega)
      simpa [Array.getElem_extract, Nat.add_comm] using this) i (by simpa using h) (by simp; omega)
    simpa [Array.getElem_extract, Nat.add_comm] using this
end

def Ok (P : Program) (c : Ctx) (w : World) (h : List O) (s : Sem Value) (v : V) (h' : List O) : Prop :=
  ∃ cv w' c', s.run P w = .ok cv w' ∧ VRel c'.ro c'.m v cv ∧ HRel c' w' h' ∧ Adv c w h c' w' h'

theorem Ok.of_same {P c w h s v cv} (hh : HRel c w h) (hs : s.run P w = .ok cv w) (hv : VRel c.ro c.m v cv) : Ok P c w h s v h := ⟨cv, w, c, hs, hv, hh, Adv.refl ..⟩

theorem cSize_agg {P t n} (h : cSize P t = some (n, true)) : ∃ d i, P.underlying t = some d ∧ d.isRow = true ∧ P.info? t = some i ∧ i.size = n := by
  unfold cSize at h
  split at h <;> first | (cases h; exact ⟨_, _, by assumption, rfl, by assumption, rfl⟩) | (split at h <;> cases h) | cases h

theorem cSize_one {P t n} (h : cSize P t = some (n, false)) : n = 1 ∧ ∃ d i, P.underlying t = some d ∧ d.isRow = false ∧ P.info? t = some i ∧ i.size = 1 := by
  unfold cSize at h
  split at h
  · cases h
  · cases h
  · rename_i i d hs ha hi hd
    split at h
    · cases h
      refine ⟨rfl, d, i, hd, ?_, hi, by assumption⟩
      cases d <;> first | rfl | (exact absurd rfl (hs _)) | (exact absurd rfl (ha _ _))
    · cases h
  · cases h

theorem cSize_size {P t n b} (h : cSize P t = some (n, b)) : ∃ d i, P.underlying t = some d ∧ P.info? t = some i ∧ i.size = n := by
  cases b
  · obtain ⟨rfl, d, i, h1, _, h2, h3⟩ := cSize_one h; exact ⟨d, i, h1, h2, h3⟩
  · obtain ⟨d, i, h1, _, h2, h3⟩ := cSize_agg h; exact ⟨d, i, h1, h2, h3⟩

/-- reading a variable among cells that are known -/
theorem read_sound {P : Program} {w : World} {ro : Ro} {m : Pl} {b o : Nat} {cs : List V} (f : ∀ i (h : i < cs.length), ∃ x, w.cell? ⟨b, o + i, none⟩ = some x ∧ VRel ro m cs[i] x)
    {t : TypeId} {n : Nat} {agg : Bool} (hk : cSize P t = some (n, agg)) {off : Nat} {v : V} (hr : readAt cs off (if agg then some n else none) = some v) :
    ∃ cv, (Instr.loadAt t (.pointer (some ⟨b, o + off, none⟩))).run P w = .ok cv w ∧ VRel ro m v cv := by
  cases agg with
  | false =>
    obtain ⟨_, d, i, hu, hd, hi, hs⟩ := cSize_one hk
    simp [readAt] at hr
    obtain ⟨hlt, rfl⟩ := List.getElem?_eq_some_iff.1 hr
    obtain ⟨x, hx, hv⟩ := f off hlt
    refine ⟨x, ?_, hv⟩
    have hagg : (isAgg t).run P w = .ok false w := by
      unfold isAgg
      rw [Sem.run_bind, run_underlying hu w]
      cases d <;> first | rfl | (simp [TypeDesc.isRow] at hd; done)
    simp only [Instr.loadAt, Instr.sureAddr, loadVar, Sem.run_bind, Sem.run_pure, Result.andThen_ok, hagg]
    simp [hx]
  | true =>
    obtain ⟨d, i, hu, hd, hi, hs⟩ := cSize_agg hk
    simp [readAt] at hr
    obtain ⟨hle, rfl⟩ := hr
    let g : Nat → Value := fun j => (w.cell? ⟨b, o + off + j, none⟩).getD undef
    have hg : ∀ j, j < n → w.cell? ⟨b, o + off + j, none⟩ = some (g j) := by
      intro j hj
      obtain ⟨x, hx, _⟩ := f (off + j) (by omega)
      rw [← Nat.add_assoc] at hx
      simp [g, hx]
    refine ⟨.agg ((List.range n).map g).toArray, ?_, ?_⟩
    · refine run_loadAt_mid w b (o + off) t _ d (fun j v hj => ?_) hu hd (by simp [hi, hs])
      simp only [List.getElem?_map] at hj
      rcases Nat.lt_or_ge j n with h1 | h1
      · rw [List.getElem?_range h1] at hj; simp at hj; rw [← hj]; exact hg j h1
      · rw [List.getElem?_eq_none (by simp; exact h1)] at hj; simp at hj
    · refine .agg _ _ _ (by simp; omega) fun j a b' => ?_
      have hj : j < n := by simp at b'; exact b'
      obtain ⟨x, hx, hv⟩ := f (off + j) (by omega)
      rw [← Nat.add_assoc] at hx
      have := hg j hj
      rw [hx] at this
      have : x = g j := by simpa using this
      subst this
      simpa using hv

end Sx

/-
  Sx, part F: the operations that make and change objects.
-/
namespace Sx
open Go

theorem putAt_length {cs vs : List V} {off : Nat} (h : off + vs.length ≤ cs.length) : (putAt cs off vs).length = cs.length := by
  simp [putAt]; omega

theorem putAt_get {cs vs : List V} {off : Nat} (h : off + vs.length ≤ cs.length) (i : Nat) : (putAt cs off vs)[i]? = if off ≤ i ∧ i < off + vs.length then vs[i - off]? else cs[i]? := by
  unfold putAt
  by_cases h1 : i < off
  · rw [List.getElem?_append_left (by simp; omega), if_neg (by omega), List.getElem?_take, if_pos h1]
  · rw [List.getElem?_append_right (by simp; omega)]
    simp only [List.length_take, show min off cs.length = off from by omega]
    by_cases h2 : i < off + vs.length
    · rw [List.getElem?_append_left (by omega), if_pos (by omega)]
    · rw [List.getElem?_append_right (by omega), if_neg (by omega), List.getElem?_drop]
      congr 1; omega

theorem VRels.putAt {ro m} {cs vs : List V} {ccs cvs r : Array Value} (h : VRels ro m cs ccs) (hv : VRels ro m vs cvs) {off : Nat} (hl : off + vs.length ≤ cs.length)
    (hr : r.size = ccs.size) (hg : ∀ i, i < ccs.size → r[i]? = if off ≤ i ∧ i < off + cvs.size then cvs[i - off]? else ccs[i]?) : VRels ro m (Sx.putAt cs off vs) r := by
  refine ⟨by rw [putAt_length hl, h.1, hr], fun i a b => ?_⟩
  have h1 := putAt_get hl i
  have h2 := hg i (by omega)
  rw [List.getElem?_eq_getElem a] at h1
  rw [Array.getElem?_eq_getElem b] at h2
  have hvl := hv.1
  by_cases hc : off ≤ i ∧ i < off + vs.length
  · rw [if_pos hc] at h1
    rw [if_pos (by omega)] at h2
    rw [List.getElem?_eq_getElem (by omega)] at h1
    rw [Array.getElem?_eq_getElem (by omega)] at h2
    have e1 : (Sx.putAt cs off vs)[i] = vs[i - off] := by simpa using h1
    have e2 : r[i] = cvs[i - off] := by simpa using h2
    rw [e1, e2]; exact hv.2 _ _ _
  · rw [if_neg hc] at h1
    rw [if_neg (by omega)] at h2
    have hi : i < cs.length := by rw [putAt_length hl] at a; exact a
    rw [List.getElem?_eq_getElem hi] at h1
    rw [Array.getElem?_eq_getElem (by rw [← h.1]; exact hi)] at h2
    have e1 : (Sx.putAt cs off vs)[i] = cs[i] := by simpa using h1
    have e2 : r[i] = ccs[i]'(by rw [← h.1]; exact hi) := by simpa using h2
    rw [e1, e2]; exact h.2 _ _ _

theorem fold_set (off : Nat) : ∀ (l : List Value) (k : Nat) (a : Array Value), off + k + l.length ≤ a.size →
    (((l.zipIdx k).foldl (fun cs (x : Value × Nat) => cs.setIfInBounds (off + x.2) x.1) a).size = a.size) ∧
    ∀ i, i < a.size → ((l.zipIdx k).foldl (fun cs (x : Value × Nat) => cs.setIfInBounds (off + x.2) x.1) a)[i]? = if off + k ≤ i ∧ i < off + k + l.length then l[i - (off + k)]? else a[i]?
  | [], k, a, _ => ⟨rfl, fun i hi => by rw [if_neg (by simp)]; rfl⟩
  | v :: l, k, a, h => by
    simp only [List.zipIdx_cons, List.foldl_cons]
    simp only [List.length_cons] at h
    obtain ⟨h1, h2⟩ := fold_set off l (k + 1) (a.setIfInBounds (off + k) v) (by simp; omega)
    refine ⟨by rw [h1]; simp, fun i hi => ?_⟩
    rw [h2 i (by simpa using hi)]
    simp only [List.length_cons]
    by_cases hc : off + (k + 1) ≤ i ∧ i < off + (k + 1) + l.length
    · rw [if_pos hc, if_pos (by omega), show i - (off + k) = (i - (off + (k + 1))) + 1 from by omega, List.getElem?_cons_succ]
    · rw [if_neg hc]
      by_cases e : i = off + k
      · subst e; rw [if_pos (by omega)]; simp [hi]
      · rw [if_neg (by omega), Array.getElem?_setIfInBounds_ne (Ne.symm e)]

theorem fold_set0 (off : Nat) (cvs a : Array Value) (h : off + cvs.size ≤ a.size) :
    (cvs.zipIdx.foldl (fun cs (x : Value × Nat) => cs.setIfInBounds (off + x.2) x.1) a).size = a.size ∧
    ∀ i, i < a.size → (cvs.zipIdx.foldl (fun cs (x : Value × Nat) => cs.setIfInBounds (off + x.2) x.1) a)[i]? = if off ≤ i ∧ i < off + cvs.size then cvs[i - off]? else a[i]? := by
  have e : cvs.zipIdx.foldl (fun cs (x : Value × Nat) => cs.setIfInBounds (off + x.2) x.1) a = (cvs.toList.zipIdx 0).foldl (fun cs (x : Value × Nat) => cs.setIfInBounds (off + x.2) x.1) a := by
    rw [← Array.foldl_toList, Array.toList_zipIdx]
  rw [e]
  simpa using fold_set off cvs.toList 0 a (by simpa using h)

/-- 'fill', a struct's parts -/
theorem fill_sound {N c t a} (ht : TRel N c t a) (place : Nat → Option (Nat × Nat)) : ∀ (parts : List (Nat × Operand)) (ps : List (Nat × Nat × Opd)) (cs : List V) (ccs : Array Value) (r : List V),
    parts.length = ps.length → (∀ i (h : i < parts.length) (h' : i < ps.length), place parts[i].1 = some (ps[i].1, ps[i].2.1) ∧ cOpd N parts[i].2 = some ps[i].2.2 ∧ ps[i].1 + ps[i].2.1 ≤ cs.length) →
    VRels c.ro c.m cs ccs → fillAt t cs ps = some r →
    ∃ cr, Instr.fill place ccs (parts.map fun p => (p.1, a.eval p.2)) = some cr ∧ VRels c.ro c.m r cr
  | [], ps, cs, ccs, r, hl, _, hr, hf => by
    cases ps with
    | nil => simp [fillAt] at hf; subst hf; exact ⟨ccs, rfl, hr⟩
    | cons => simp at hl
  | (i, x) :: parts, [], cs, ccs, r, hl, _, _, _ => by simp at hl
  | (i, x) :: parts, (off, n, y) :: ps, cs, ccs, r, hl, hp, hr, hf => by
    obtain ⟨h1, h2, h3⟩ := hp 0 (by simp) (by simp)
    simp only [List.getElem_cons_zero] at h1 h2 h3
    simp only [fillAt] at hf
    split at hf
    case isFalse => cases hf
    case isTrue hc =>
      simp only [Bool.and_eq_true, beq_iff_eq] at hc
      have hv := opd_rel ht h2
      obtain ⟨hcr, _⟩ := cells_rel hv hc.1
      have hsz : (a.eval x).cells.size = n := by rw [← hcr.1, hc.2]
      have hle : off + (y.ev t).cells.length ≤ cs.length := by rw [hc.2]; exact h3
      obtain ⟨f1, f2⟩ := fold_set0 off (a.eval x).cells ccs (by rw [← hr.1, hsz]; exact h3)
      have hnew := hr.putAt hcr hle f1 f2
      obtain ⟨cr, g1, g2⟩ := fill_sound ht place parts ps _ _ r (by simpa using hl) (fun j a b => by
        have := hp (j + 1) (by simpa using a) (by simpa using b)
        simp only [List.getElem_cons_succ] at this
        rw [putAt_length hle]; exact this) hnew hf
      refine ⟨cr, ?_, g2⟩
      simp only [List.map_cons, Instr.fill, h1]
      rw [if_neg (by rw [hsz]; simp; rw [← hr.1]; omega)]
      exact g1

/-- a new row -/
theorem newRow_ok {P : Program} {c w h} (hh : HRel c w h) (e : TypeId) (cc : Array Value) (o : O) (ho : ∀ m' : Pl, (∀ i q, c.m i = some q → m' i = some q) → ∀ w' : World, w'.heap[w.heap.size]? = some (.cells cc e) → ORel c.ro m' w' ⟨w.heap.size, 0, cc.size, false, e⟩ o) :
    ∃ w' c', (newRow e cc).run P w = .ok ⟨w.heap.size, 0, none⟩ w' ∧ c'.m h.length = some ⟨w.heap.size, 0, cc.size, false, e⟩ ∧ HRel c' w' (h ++ [o]) ∧ Adv c w h c' w' (h ++ [o]) := by
  obtain ⟨h1, h2⟩ := hh.grow (w' := { w with heap := w.heap.push (.cells cc e) }) o ⟨w.heap.size, 0, cc.size, false, e⟩ (fun _ => Nat.le_refl _) (by simp) (fun b hb => by
    simp only [Array.getElem?_push]; rw [if_neg (by omega)]) rfl rfl rfl (fun m' hm => ho m' hm _ (by simp))
  exact ⟨_, _, rfl, by simp, h1, h2⟩

theorem row_of_cells {c : Ctx} {cells : List V} {cc : Array Value} (hr : VRels c.ro c.m cells cc) (e : TypeId) (b : Nat) (m' : Pl) (hm : ∀ i q, c.m i = some q → m' i = some q) (w' : World)
    (hw : w'.heap[b]? = some (.cells cc e)) : ORel c.ro m' w' ⟨b, 0, cc.size, false, e⟩ (.row cells) := by
  refine ⟨cc, ⟨rfl, rfl, Nat.zero_le _, ⟨e, rfl⟩, (0, 0), hw, fun i _ => by simp⟩, by simp [hr.1], fun i a b' => ?_⟩
  have := (hr.2 i a (by simpa using b')).mono (fun _ _ h => h) hm
  simpa using this

theorem sound_box {P : Program} {c w h} (hh : HRel c w h) (e : TypeId) {v : V} {cv : Value} (hv : VRel c.ro c.m v cv) (hc : v.celled = true) :
    Ok P c w h (Instr.box e cv) (.ptr h.length 0) (h ++ [.row v.cells]) := by
  obtain ⟨hr, _⟩ := cells_rel hv hc
  obtain ⟨w', c', h1, h2, h3, h4⟩ := newRow_ok (P := P) hh e cv.cells (.row v.cells) (fun m' hm w' hw => row_of_cells hr e _ m' hm w' hw)
  refine ⟨.pointer (some ⟨w.heap.size, 0, none⟩), w', c', ?_, ?_, h3, h4⟩
  · simp only [Instr.box, newVar, Sem.run_bind, h1, Result.andThen_ok]; rfl
  · exact .ptr _ _ _ ⟨w.heap.size, 0, cv.cells.size, false, e⟩ h2 rfl

theorem cZero_spec {P t l} (h : cZero P t = some l) : ∃ i z, P.info? t = some i ∧ i.zero = some z ∧ z.cells.size = i.size ∧ l.length = i.size ∧ (∀ ro m, VRels ro m l z.cells) := by
  unfold cZero at h
  split at h
  case h_2 => cases h
  case h_1 i hi =>
    split at h
    case h_2 => cases h
    case h_1 z hz =>
      simp only at h
      split at h
      case isFalse => cases h
      case isTrue hl =>
        obtain ⟨h1, h2⟩ := mapM_some _ _ _ h
        refine ⟨i, z, hi, hz, by simpa using hl, by rw [← h1]; exact hl, fun ro m => ⟨by simpa using h1.symm, fun j a b => ?_⟩⟩
        have := h2 j (by simpa using b) a
        rw [Array.getElem_toList] at this
        exact ofVal0_rel this

theorem run_zeroValue {P : Program} {t i z} (hi : P.info? t = some i) (hz : i.zero = some z) (w : World) : (zeroValue t).run P w = .ok z w := by
  simp [zeroValue, typeInfo, hi, hz]

theorem sound_alloc {P : Program} {c w h} (hh : HRel c w h) (e : TypeId) {l : List V} (hz : cZero P e = some l) :
    Ok P c w h (Instr.alloc e true (.tuple #[])) (.ptr h.length 0) (h ++ [.row l]) := by
  obtain ⟨i, z, hi, hz, h1, h2, h3⟩ := cZero_spec hz
  obtain ⟨w', c', g1, g2, g3, g4⟩ := newRow_ok (P := P) hh e z.cells (.row l) (fun m' hm w' hw => row_of_cells (h3 _ _) e _ m' hm w' hw)
  refine ⟨.pointer (some ⟨w.heap.size, 0, none⟩), w', c', ?_, ?_, g3, g4⟩
  · simp only [Instr.alloc, Sem.run_bind, run_zeroValue hi hz, Result.andThen_ok, newVar, g1]; rfl
  · exact .ptr _ _ _ ⟨w.heap.size, 0, z.cells.size, false, e⟩ g2 rfl

/-- what a row's object tells of the block -/
theorem row_cells {c w h} (hh : HRel c w h) {id : Nat} {cs : List V} (hid : h[id]? = some (.row cs)) :
    ∃ (p : Place) (cc : Array Value) (e : {e : TypeId // e = p.ty}) (fr : Nat × Nat), c.m id = some p ∧ p.null = false ∧ w.heap[p.block]? = some (.cells cc e.1 fr) ∧ cc.size = p.top ∧ p.base ≤ p.top ∧ p.base + cs.length ≤ p.top ∧
      (∀ i (h : i < cs.length), ∃ x, cc[p.base + i]? = some x ∧ VRel c.ro c.m cs[i] x) ∧ (∀ i, i ≤ p.top → ¬ (fr.1 ≤ i ∧ i < fr.2)) := by
  obtain ⟨p, hp, ⟨cc, ⟨hn, hs, hb, e, fr, hw, hf⟩, hl, hv⟩, _⟩ := hh.obj id _ hid trivial
  refine ⟨p, cc, e, fr, hp, hn, hw, hs, hb, hl, fun i hi => ?_, hf⟩
  have : p.base + i < cc.size := by omega
  exact ⟨cc[p.base + i], Array.getElem?_eq_getElem this, hv i hi this⟩

theorem arr_cells {c w h} (hh : HRel c w h) {id sz : Nat} {es : List (List V)} (hid : h[id]? = some (.arr es sz)) {p : Place} (hp : c.m id = some p) (hn : p.null = false) :
    ∃ (cc : Array Value) (e : {e : TypeId // e = p.ty}) (fr : Nat × Nat), w.heap[p.block]? = some (.cells cc e.1 fr) ∧ cc.size = p.top ∧ p.base ≤ p.top ∧ p.base + es.length * sz ≤ p.top ∧ (∀ i (h : i < es.length), es[i].length = sz) ∧ (∀ e ∈ es, V.ones e = true) ∧
      (∀ i (h : i < es.length) j (h' : j < es[i].length), ∃ x, cc[p.base + i * sz + j]? = some x ∧ VRel c.ro Pl.none es[i][j] x) ∧ (∀ i, i ≤ p.top → ¬ (fr.1 ≤ i ∧ i < fr.2)) := by
  obtain ⟨q, hq, ⟨_, h1, hlen, hx⟩, _⟩ := hh.obj id _ hid trivial
  rw [hp] at hq; cases hq
  obtain ⟨cc, ⟨_, hs, hb, e, fr, hw, hf⟩, hl, hv⟩ := hx hn
  exact ⟨cc, e, fr, hw, hs, hb, hl, hlen, h1, hv, hf⟩

theorem sound_load0 {P : Program} {N c t a w h} (hh : HRel c w h) (ht : TRel N c t a) {x : Operand} {x' : Opd} (hx : cOpd N x = some x') {ty n agg} (hk : cSize P ty = some (n, agg)) {v h'}
    (hs : opStep t h (.load x' (if agg then some n else none)) = some (v, h')) : h' = h ∧ ∃ cv, (Instr.loadAt ty (a.eval x)).run P w = .ok cv w ∧ VRel c.ro c.m v cv := by
  have hv := opd_rel ht hx
  simp only [opStep] at hs
  generalize x'.ev t = xv at *
  generalize a.eval x = cx at *
  split at hs
  · rename_i id off
    obtain ⟨p, hp, hn, rfl⟩ := hv.ptr_inv
    split at hs
    case h_2 => cases hs
    case h_1 cs hid =>
      split at hs <;> cases hs
      rename_i hr
      obtain ⟨p', cc, e, fr, hp', _, hw, h1, h2, h3, h4, _⟩ := row_cells hh hid
      rw [hp] at hp'; cases hp'
      obtain ⟨cv, g1, g2⟩ := read_sound (P := P) (w := w) (b := p.block) (o := p.base) (fun i hi => by
        obtain ⟨x, hx, hv⟩ := h4 i hi; exact ⟨x, by rw [cell_of_heap hw]; exact hx, hv⟩) hk hr
      exact ⟨rfl, cv, g1, g2⟩
  · rename_i id i sz off
    obtain ⟨p, hp, hn, rfl⟩ := hv.eptr_inv
    split at hs
    case h_3 => cases hs
    case h_2 cs hid =>
      split at hs <;> cases hs
      rename_i hr
      obtain ⟨p', cc, e, fr, hp', _, hw, h1, h2, h3, h4, _⟩ := row_cells hh hid
      rw [hp] at hp'; cases hp'
      obtain ⟨cv, g1, g2⟩ := read_sound (P := P) (w := w) (b := p.block) (o := p.base) (fun i hi => by
        obtain ⟨x, hx, hv⟩ := h4 i hi; exact ⟨x, by rw [cell_of_heap hw]; exact hx, hv⟩) hk hr
      rw [← Nat.add_assoc] at g1
      exact ⟨rfl, cv, g1, g2⟩
    case h_1 es s hid =>
      split at hs
      case isFalse => cases hs
      case isTrue e =>
        subst e
        split at hs
        case h_2 => cases hs
        case h_1 cs hcs =>
          split at hs <;> cases hs
          rename_i hr
          obtain ⟨hi, rfl⟩ := List.getElem?_eq_some_iff.1 hcs
          obtain ⟨cc, e, fr, hw, h1, h2, h3, hlen, _, h4, _⟩ := arr_cells hh hid hp hn
          obtain ⟨cv, g1, g2⟩ := read_sound (P := P) (w := w) (b := p.block) (o := p.base + i * s) (fun j hj => by
            obtain ⟨x, hx, hv⟩ := h4 i hi j hj; exact ⟨x, by rw [cell_of_heap hw]; exact hx, hv⟩) hk hr
          exact ⟨rfl, cv, g1, g2.mono (fun _ _ h => h) fun _ _ h => by cases h⟩
  · rename_i cs off
    obtain ⟨b, o, ccs, f, hb, hc, hf, rfl⟩ := hv.rptr_inv
    split at hs <;> cases hs
    rename_i hr
    obtain ⟨e, fr, hw⟩ := hh.ro _ _ hb
    obtain ⟨cv, g1, g2⟩ := read_sound (P := P) (w := w) (b := b) (o := o) (fun j hj => ⟨f j, by rw [cell_of_heap hw]; exact hc j hj, hf j hj⟩) hk hr
    exact ⟨rfl, cv, g1, g2.mono (fun _ _ h => h) fun _ _ h => by cases h⟩
  · cases hs

theorem sound_load {P : Program} {N c t a w h} (hh : HRel c w h) (ht : TRel N c t a) {x : Operand} {x' : Opd} (hx : cOpd N x = some x') {ty n agg} (hk : cSize P ty = some (n, agg)) {v h'}
    (hs : opStep t h (.load x' (if agg then some n else none)) = some (v, h')) : Ok P c w h (Instr.loadAt ty (a.eval x)) v h' := by
  obtain ⟨rfl, cv, h1, h2⟩ := sound_load0 (P := P) hh ht hx hk hs
  exact Ok.of_same hh h1 h2

end Sx
