/-
  Sx, part A: abstract values and heaps, and when concrete ones are told by them.
-/
import Derived.Calls
namespace Sx
open Go

/-- abstract values -/
inductive V where
  | bool (b : Bool)
  | int (k : IntKind) (n : Int)
  | str (l : List UInt8)
  | nilp | nils | nilf | nilm
  | ptr (id off : Nat)
  | eptr (id i sz off : Nat)
  | rptr (cells : List V) (off : Nat)
  | sl (id off len sz : Nat) (cap : Option Nat)
  | vs (elems : List (List V)) (sz : Nat)
  | zs
  | mp (id : Nat)
  | fn (f : FuncId) (cap : List V)
  | agg (cells : List V)
  | tup (vs : List V)
  | any
  | bad
  deriving Inhabited

/-- the value of one cell -/
def V.one : V → Bool
  | .agg _ | .tup _ | .any | .bad => false
  | _ => true

def V.ones : List V → Bool
  | [] => true
  | v :: l => v.one && V.ones l

/-- where an abstract object lies -/
structure Place where
  block : Nat
  base : Nat
  top : Nat
  null : Bool
  ty : TypeId

/-- the blocks that are never written: their cells -/
abbrev Ro := Nat → Option (Array Value)
abbrev Pl := Nat → Option Place
def Pl.none : Pl := fun _ => .none

inductive VRel (ro : Ro) : Pl → V → Value → Prop
  | bool (m b) : VRel ro m (.bool b) (.bool b)
  | int (m k n) : VRel ro m (.int k n) (.int k n)
  | str (m l) : VRel ro m (.str l) (.string ⟨l.toArray⟩)
  | nilp (m) : VRel ro m .nilp (.pointer none)
  | nils (m) : VRel ro m .nils (.slice none 0 0)
  | nilf (m) : VRel ro m .nilf .nilFunc
  | nilm (m) : VRel ro m .nilm (.map none)
  | ptr (m : Pl) (id off) (p : Place) (h : m id = some p) (hn : p.null = false) :
      VRel ro m (.ptr id off) (.pointer (some ⟨p.block, p.base + off, none⟩))
  | eptr (m : Pl) (id i sz off) (p : Place) (h : m id = some p) (hn : p.null = false) :
      VRel ro m (.eptr id i sz off) (.pointer (some ⟨p.block, p.base + i * sz + off, none⟩))
  | rptr (m : Pl) (cells : List V) (off b o : Nat) (cs : Array Value) (f : Nat → Value) (hb : ro b = some cs)
      (hc : ∀ i, i < cells.length → cs[o + i]? = some (f i)) (hv : ∀ i (h : i < cells.length), VRel ro Pl.none cells[i] (f i)) :
      VRel ro m (.rptr cells off) (.pointer (some ⟨b, o + off, none⟩))
  | sl (m : Pl) (id off len sz cap o : Nat) (k : Option Nat) (p : Place) (h : m id = some p) (hn : p.null = false) (hl : len ≤ cap)
      (ho : o = p.base + off * sz ∨ cap = 0) (ht : 0 < cap → p.base + off * sz + cap * sz ≤ p.top) (hk : ∀ x, k = some x → x = cap) :
      VRel ro m (.sl id off len sz k) (.slice (some ⟨p.block, o, none⟩) len cap)
  | slnil (m : Pl) (id sz : Nat) (p : Place) (a : Option Addr) (h : m id = some p) (hn : p.null = true) : VRel ro m (.sl id 0 0 sz none) (.slice a 0 0)
  | zs (m : Pl) (a : Option Addr) : VRel ro m .zs (.slice a 0 0)
  | vs (m : Pl) (elems : List (List V)) (sz b o cap : Nat) (cs : Array Value) (f : Nat → Nat → Value) (hb : ro b = some cs) (hl : elems.length ≤ cap)
      (hsz : ∀ i (h : i < elems.length), elems[i].length = sz) (h1 : ∀ e ∈ elems, V.ones e = true)
      (hc : ∀ i j, i < elems.length → j < sz → cs[o + i * sz + j]? = some (f i j))
      (hv : ∀ i (h : i < elems.length) j (h' : j < elems[i].length), VRel ro Pl.none elems[i][j] (f i j)) :
      VRel ro m (.vs elems sz) (.slice (some ⟨b, o, none⟩) elems.length cap)
  | vsnil (m : Pl) (sz : Nat) (a : Option Addr) : VRel ro m (.vs [] sz) (.slice a 0 0)
  | mp (m : Pl) (id) (p : Place) (h : m id = some p) (hn : p.null = false) : VRel ro m (.mp id) (.map (some p.block))
  | fn (m : Pl) (f : FuncId) (cap : List V) (cs : Array Value) (hl : cap.length = cs.size)
      (hv : ∀ i (h : i < cap.length) (h' : i < cs.size), VRel ro m cap[i] cs[i]) : VRel ro m (.fn f cap) (.func (.func f) #[] cs)
  | agg (m : Pl) (cells : List V) (cs : Array Value) (hl : cells.length = cs.size)
      (hv : ∀ i (h : i < cells.length) (h' : i < cs.size), VRel ro m cells[i] cs[i]) : VRel ro m (.agg cells) (.agg cs)
  | tup (m : Pl) (vs : List V) (cs : Array Value) (hl : vs.length = cs.size)
      (hv : ∀ i (h : i < vs.length) (h' : i < cs.size), VRel ro m vs[i] cs[i]) : VRel ro m (.tup vs) (.tuple cs)
  | any (m v) : VRel ro m .any v

theorem VRel.mono {ro ro' : Ro} (hr : ∀ b cs, ro b = some cs → ro' b = some cs) {m : Pl} {v : V} {c : Value} (h : VRel ro m v c) :
    ∀ {m' : Pl}, (∀ i p, m i = some p → m' i = some p) → VRel ro' m' v c := by
  induction h with
  | bool => intro m' _; exact .bool ..
  | int => intro m' _; exact .int ..
  | str => intro m' _; exact .str ..
  | nilp => intro m' _; exact .nilp ..
  | nils => intro m' _; exact .nils ..
  | nilf => intro m' _; exact .nilf ..
  | nilm => intro m' _; exact .nilm ..
  | ptr m id off p h hn => intro m' hm; exact .ptr _ _ _ p (hm _ _ h) hn
  | rptr m cells off b o cs f hb hc hv ih => intro m' hm; exact .rptr _ _ _ b o cs f (hr _ _ hb) hc fun i h => ih i h fun _ _ h => h
  | eptr m id i sz off p h hn => intro m' hm; exact .eptr _ _ _ _ _ p (hm _ _ h) hn
  | sl m id off len sz cap o k p h hn hl ho ht hk => intro m' hm; exact .sl _ _ _ _ _ _ o _ p (hm _ _ h) hn hl ho ht hk
  | slnil m id sz p a h hn => intro m' hm; exact .slnil _ _ _ p a (hm _ _ h) hn
  | zs => intro m' _; exact .zs ..
  | vs m elems sz b o cap cs f hb hl hsz h1 hc hv ih => intro m' hm; exact .vs _ _ _ b o cap cs f (hr _ _ hb) hl hsz h1 hc fun i h j h' => ih i h j h' fun _ _ h => h
  | vsnil => intro m' _; exact .vsnil ..
  | mp m id p h hn => intro m' hm; exact .mp _ _ p (hm _ _ h) hn
  | fn m f cap cs hl hv ih => intro m' hm; exact .fn _ _ _ cs hl fun i h h' => ih i h h' hm
  | agg m cells cs hl hv ih => intro m' hm; exact .agg _ _ cs hl fun i h h' => ih i h h' hm
  | tup m vs cs hl hv ih => intro m' hm; exact .tup _ _ cs hl fun i h h' => ih i h h' hm
  | any => intro m' _; exact .any ..

/-- what a list of abstract values tells -/
def VRels (ro : Ro) (m : Pl) (vs : List V) (cs : Array Value) : Prop := vs.length = cs.size ∧ ∀ i (h : i < vs.length) (h' : i < cs.size), VRel ro m vs[i] cs[i]

theorem VRels.nil (ro m) : VRels ro m [] #[] := ⟨rfl, fun i h => by simp at h⟩
theorem VRels.mono {ro ro' : Ro} {m m' : Pl} (hr : ∀ b cs, ro b = some cs → ro' b = some cs) (hm : ∀ i p, m i = some p → m' i = some p) {vs cs} (h : VRels ro m vs cs) : VRels ro' m' vs cs :=
  ⟨h.1, fun i a b => (h.2 i a b).mono hr hm⟩

/-- abstract objects -/
inductive O where
  | row (cells : List V)
  | arr (elems : List (List V)) (sz : Nat)
  | map (es : List (V × V))
  | ty (id : Nat) (t : TypeId) (n : Option Nat)   -- what is known of another one: its variables' type
  | bad
  | gone
  deriving Inhabited

def O.live : O → Prop
  | .gone => False
  | _ => True

def RowAt (w : World) (p : Place) (cc : Array Value) : Prop :=
  p.null = false ∧ cc.size = p.top ∧ p.base ≤ p.top ∧ ∃ (elem : {e : TypeId // e = p.ty}) (fr : Nat × Nat), w.heap[p.block]? = some (.cells cc elem.1 fr) ∧ ∀ i, i < p.top → ¬ (fr.1 ≤ i ∧ i < fr.2)

def ORel (ro : Ro) (m : Pl) (w : World) (p : Place) : O → Prop
  | .row cells => ∃ cc, RowAt w p cc ∧ p.base + cells.length ≤ p.top ∧ ∀ i (h : i < cells.length) (h' : p.base + i < cc.size), VRel ro m cells[i] cc[p.base + i]
  | .arr elems sz => (p.null = true → elems = []) ∧ (∀ e ∈ elems, V.ones e = true) ∧ (∀ i (h : i < elems.length), elems[i].length = sz) ∧ (p.null = false → ∃ cc, RowAt w p cc ∧ p.base + elems.length * sz ≤ p.top ∧
      ∀ i (h : i < elems.length) j (h' : j < elems[i].length), ∃ x, cc[p.base + i * sz + j]? = some x ∧ VRel ro Pl.none elems[i][j] x)
  | .map es => p.null = false ∧ ∃ (ce : Array MapEntry) (clock : Nat), w.heap[p.block]? = some (.map ce clock) ∧ es.length = ce.size ∧
      ∀ i (h : i < es.length) (h' : i < ce.size), VRel ro Pl.none es[i].1 ce[i].key ∧ VRel ro m es[i].2 ce[i].val
  | .ty id t n => p.null = true ∧ ∃ q, m id = some q ∧ (q.null = false → q.ty = t ∧ q.base = 0 ∧ ∀ k, n = some k → q.top = k)
  | .bad => False
  | .gone => True

structure Ctx where
  m : Pl
  ro : Ro

def Live (H : List O) (i : Nat) : Prop := ∃ o, H[i]? = some o ∧ o.live

structure HRel (c : Ctx) (w : World) (H : List O) : Prop where
  ro : ∀ b cs, c.ro b = some cs → ∃ elem fr, w.heap[b]? = some (.cells cs elem fr)
  dom : ∀ i p, c.m i = some p → i < H.length
  obj : ∀ i o, H[i]? = some o → o.live → ∃ p, c.m i = some p ∧ ORel c.ro c.m w p o ∧ (p.null = false → c.ro p.block = none)
  inj : ∀ i j p q, Live H i → Live H j → c.m i = some p → c.m j = some q → p.null = false → q.null = false → p.block = q.block → i = j

def Owns (c : Ctx) (H : List O) (b : Nat) : Prop := ∃ i p, Live H i ∧ c.m i = some p ∧ p.null = false ∧ p.block = b

/-- from one state on to a later one -/
structure Adv (c : Ctx) (w : World) (H : List O) (c' : Ctx) (w' : World) (H' : List O) : Prop where
  m : ∀ i p, c.m i = some p → c'.m i = some p
  ro : ∀ b cs, c.ro b = some cs → c'.ro b = some cs
  len : H.length ≤ H'.length
  live : ∀ i, i < H.length → Live H' i → Live H i
  size : w.heap.size ≤ w'.heap.size
  frame : ∀ b, b < w.heap.size → ¬ Owns c H b → w'.heap[b]? = w.heap[b]?
  fresh : ∀ i p, c'.m i = some p → p.null = false → c.m i = some p ∨ Owns c H p.block ∨ w.heap.size ≤ p.block
  freshro : ∀ b cs, c'.ro b = some cs → c.ro b = some cs ∨ Owns c H b ∨ w.heap.size ≤ b
  os : w'.os = w.os
  output : w'.output = w.output
  tape : w'.tape = w.tape

theorem Adv.refl (c w H) : Adv c w H c w H := by
  refine ⟨fun _ _ h => h, fun _ _ h => h, Nat.le_refl _, fun _ _ h => h, Nat.le_refl _, fun _ _ _ => rfl, fun _ _ h _ => .inl h, fun _ _ h => .inl h, rfl, rfl, rfl⟩

theorem HRel.owns_lt {c w H b} (h : HRel c w H) (ho : Owns c H b) : b < w.heap.size := by
  obtain ⟨i, p, ⟨o, hi, hl⟩, hm, hn, rfl⟩ := ho
  obtain ⟨p', hm', hr, _⟩ := h.obj i o hi hl
  rw [hm] at hm'; cases hm'
  have : ∃ x, w.heap[p.block]? = some x := by
    cases o with
    | row cells => obtain ⟨cc, ⟨_, _, _, e, fr, hw, _⟩, _⟩ := hr; exact ⟨_, hw⟩
    | arr elems sz => obtain ⟨_, _, _, hx⟩ := hr; obtain ⟨cc, ⟨_, _, _, e, fr, hw, _⟩, _⟩ := hx hn; exact ⟨_, hw⟩
    | map es => obtain ⟨_, ce, cl, hw, _⟩ := hr; exact ⟨_, hw⟩
    | ty => obtain ⟨h1, _⟩ := hr; rw [h1] at hn; cases hn
    | bad => exact hr.elim
    | gone => exact hl.elim
  obtain ⟨x, hx⟩ := this
  exact (Array.getElem?_eq_some_iff.1 hx).1

theorem Owns.of_adv {c w H c' w' H' b} (h : Adv c w H c' w' H') (hh : HRel c w H) (ho : Owns c' H' b) : Owns c H b ∨ w.heap.size ≤ b := by
  obtain ⟨i, p, hl, hm, hn, rfl⟩ := ho
  rcases h.fresh i p hm hn with h1 | h1 | h1
  · exact .inl ⟨i, p, h.live i (hh.dom i p h1) hl, h1, hn, rfl⟩
  · exact .inl h1
  · exact .inr h1

theorem Adv.trans {c w H c' w' H' c'' w'' H''} (hh : HRel c w H) (h : Adv c w H c' w' H') (k : Adv c' w' H' c'' w'' H'') : Adv c w H c'' w'' H'' where
  m i p hi := k.m i p (h.m i p hi)
  ro b cs hb := k.ro b cs (h.ro b cs hb)
  len := Nat.le_trans h.len k.len
  live i hi hl := h.live i hi (k.live i (Nat.lt_of_lt_of_le hi h.len) hl)
  size := Nat.le_trans h.size k.size
  frame b hb hn := by
    rw [k.frame b (Nat.lt_of_lt_of_le hb h.size) fun ho => ?_, h.frame b hb hn]
    rcases ho.of_adv h hh with h1 | h1
    · exact hn h1
    · omega
  fresh i p hi hn := by
    rcases k.fresh i p hi hn with h1 | h1 | h1
    · exact h.fresh i p h1 hn
    · exact .inr (h1.of_adv h hh)
    · exact .inr (.inr (Nat.le_trans h.size h1))
  freshro b cs hb := by
    rcases k.freshro b cs hb with h1 | h1 | h1
    · exact h.freshro b cs h1
    · exact .inr (h1.of_adv h hh)
    · exact .inr (.inr (Nat.le_trans h.size h1))
  os := k.os.trans h.os
  output := k.output.trans h.output
  tape := k.tape.trans h.tape

end Sx
