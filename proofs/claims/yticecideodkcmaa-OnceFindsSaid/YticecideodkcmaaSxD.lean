/-
  Sx, part D: what a heap owes, one change at a time.
-/
import Derived.Test.YticecideodkcmaaSxC
import Derived.Laws.IdiomCopy
import Derived.Deep.AppendSrc
import Derived.Deep.MidRow
import Derived.Deep.Upon
namespace Sx
open Go

theorem getElem?_append_last {α} (l : List α) (x : α) : (l ++ [x])[l.length]? = some x := by simp

theorem live_append {h : List O} {o : O} {i : Nat} (hl : Live (h ++ [o]) i) : (i < h.length ∧ Live h i) ∨ (i = h.length ∧ o.live) := by
  obtain ⟨x, hx, hxl⟩ := hl
  rcases Nat.lt_trichotomy i h.length with h1 | h1 | h1
  · left; exact ⟨h1, x, by rwa [List.getElem?_append_left h1] at hx, hxl⟩
  · subst h1; simp at hx; subst hx; exact .inr ⟨rfl, hxl⟩
  · rw [List.getElem?_eq_none (by simp; omega)] at hx; cases hx

theorem Live.lt {h : List O} {i : Nat} (hl : Live h i) : i < h.length := by
  obtain ⟨x, hx, _⟩ := hl
  exact (List.getElem?_eq_some_iff.1 hx).1

/-- A NEW OBJECT, at a place that nobody has; or at the place of one that goes. -/
theorem HRel.move {c : Ctx} {w w' : World} {h h' : List O} (hh : HRel c w h) (o : O) (p : Place)
    (hlen : h'.length = h.length)
    (hh' : ∀ (i : Nat) (x : O), h'[i]? = some x → x.live → h[i]? = some x)
    (hpl : p.null = false → (∀ i q, Live h' i → c.m i = some q → q.null = false → q.block ≠ p.block) ∧ c.ro p.block = none ∧ (Owns c h p.block ∨ w.heap.size ≤ p.block))
    (hsize : w.heap.size ≤ w'.heap.size)
    (hframe : ∀ b, b < w.heap.size → (p.null = false → b ≠ p.block) → w'.heap[b]? = w.heap[b]?)
    (hos : w'.os = w.os) (hout : w'.output = w.output) (htape : w'.tape = w.tape)
    (hr : ∀ m' : Pl, (∀ i q, c.m i = some q → m' i = some q) → ORel c.ro m' w' p o) :
    HRel ⟨fun i => if i = h.length then some p else c.m i, c.ro⟩ w' (h' ++ [o]) ∧ Adv c w h ⟨fun i => if i = h.length then some p else c.m i, c.ro⟩ w' (h' ++ [o]) := by
  have hext : ∀ i q, c.m i = some q → (if i = h.length then some p else c.m i) = some q := by
    intro i q hq
    have := hh.dom i q hq
    rw [if_neg (by omega)]; exact hq
  have hlive : ∀ i, Live h' i → Live h i := fun i ⟨x, hx, hl⟩ => ⟨x, hh' i x hx hl, hl⟩
  refine ⟨⟨?_, ?_, ?_, ?_⟩, ⟨hext, fun _ _ h => h, by simp [hlen], ?_, hsize, ?_, ?_, fun _ _ h => .inl h, hos, hout, htape⟩⟩
  · intro b cs hb
    obtain ⟨e, fr, hw⟩ := hh.ro b cs hb
    refine ⟨e, fr, ?_⟩
    rw [hframe b (Array.getElem?_eq_some_iff.1 hw).1 fun hn he => ?_]
    · exact hw
    · subst he; have := (hpl hn).2.1; simp only at hb; rw [this] at hb; cases hb
  · intro i q hq
    simp only at hq
    by_cases e : i = h.length
    · simp [e, hlen]
    · rw [if_neg e] at hq; have := hh.dom i q hq; simp [hlen]; omega
  · intro i x hx hl
    rcases Nat.lt_trichotomy i h.length with h1 | h1 | h1
    · rw [List.getElem?_append_left (by omega)] at hx
      have hx' := hh' i x hx hl
      obtain ⟨q, hq, hr', hro⟩ := hh.obj i x hx' hl
      refine ⟨q, hext i q hq, hr'.mono (fun _ _ h => h) hext fun hn => ?_, hro⟩
      refine hframe _ (hh.owns_lt ⟨i, q, ⟨x, hx', hl⟩, hq, hn, rfl⟩) fun hn' he => ?_
      exact (hpl hn').1 i q ⟨x, hx, hl⟩ hq hn he
    · subst h1
      rw [← hlen] at hx
      simp at hx; subst hx
      exact ⟨p, by simp, hr _ hext, fun hn => (hpl hn).2.1⟩
    · rw [List.getElem?_eq_none (by simp; omega)] at hx; cases hx
  · intro i j q q' hi hj hq hq' hn hn' he
    rcases live_append hi with ⟨h1, hi⟩ | ⟨h1, _⟩ <;> rcases live_append hj with ⟨h2, hj⟩ | ⟨h2, _⟩
    · simp only at hq hq'
      rw [if_neg (by omega)] at hq hq'
      exact hh.inj i j q q' (hlive _ hi) (hlive _ hj) hq hq' hn hn' he
    · simp only at hq hq'
      rw [if_neg (by omega)] at hq
      rw [if_pos (by omega)] at hq'
      cases hq'
      exact absurd he ((hpl hn').1 i q hi hq hn)
    · simp only at hq hq'
      rw [if_pos (by omega)] at hq
      rw [if_neg (by omega)] at hq'
      cases hq
      exact absurd he.symm ((hpl hn).1 j q' hj hq' hn')
    · omega
  · intro i hi hl
    rcases live_append hl with ⟨_, hl⟩ | ⟨h1, _⟩
    · exact hlive i hl
    · omega
  · intro b hb hno
    refine hframe b hb fun hn he => ?_
    subst he
    rcases (hpl hn).2.2 with h1 | h1
    · exact hno h1
    · omega
  · intro i q hq hn
    simp only at hq
    by_cases e : i = h.length
    · rw [if_pos e] at hq; cases hq
      exact .inr (hpl hn).2.2
    · rw [if_neg e] at hq; exact .inl hq

/-- a new block -/
theorem HRel.grow {c : Ctx} {w w' : World} {h : List O} (hh : HRel c w h) (o : O) (p : Place)
    (hp : p.null = false → w.heap.size ≤ p.block) (hsize : w.heap.size ≤ w'.heap.size) (hframe : ∀ b, b < w.heap.size → w'.heap[b]? = w.heap[b]?)
    (hos : w'.os = w.os) (hout : w'.output = w.output) (htape : w'.tape = w.tape)
    (hr : ∀ m' : Pl, (∀ i q, c.m i = some q → m' i = some q) → ORel c.ro m' w' p o) :
    HRel ⟨fun i => if i = h.length then some p else c.m i, c.ro⟩ w' (h ++ [o]) ∧ Adv c w h ⟨fun i => if i = h.length then some p else c.m i, c.ro⟩ w' (h ++ [o]) := by
  refine hh.move o p rfl (fun _ _ h _ => h) (fun hn => ⟨fun i q hl hq hn' he => ?_, ?_, .inr (hp hn)⟩) hsize (fun b hb _ => hframe b hb) hos hout htape hr
  · have := hh.owns_lt ⟨i, q, hl, hq, hn', he⟩
    have := hp hn
    omega
  · cases hc : c.ro p.block with
    | none => rfl
    | some cs =>
      obtain ⟨e, fr, hw⟩ := hh.ro _ _ hc
      have := (Array.getElem?_eq_some_iff.1 hw).1
      have := hp hn
      omega

/-- an object is changed where it lies -/
theorem HRel.change {c : Ctx} {w w' : World} {h : List O} (hh : HRel c w h) (id : Nat) (o o' : O) (p : Place) (hid : h[id]? = some o) (hl : o.live) (hp : c.m id = some p) (hpn : p.null = false)
    (hsize : w'.heap.size = w.heap.size) (hframe : ∀ b, b ≠ p.block → w'.heap[b]? = w.heap[b]?)
    (hos : w'.os = w.os) (hout : w'.output = w.output) (htape : w'.tape = w.tape) (hr : ORel c.ro c.m w' p o') :
    HRel c w' (h.set id o') ∧ Adv c w h c w' (h.set id o') := by
  have hlt : id < h.length := (List.getElem?_eq_some_iff.1 hid).1
  have hown : Owns c h p.block := ⟨id, p, ⟨o, hid, hl⟩, hp, hpn, rfl⟩
  have hrop : c.ro p.block = none := by
    obtain ⟨q, hq, _, h3⟩ := hh.obj id o hid hl
    rw [hp] at hq; cases hq; exact h3 hpn
  have hlive : ∀ i, Live (h.set id o') i → Live h i := by
    rintro i ⟨x, hx, hxl⟩
    by_cases e : i = id
    · subst e; exact ⟨o, hid, hl⟩
    · rw [List.getElem?_set_ne (Ne.symm e)] at hx; exact ⟨x, hx, hxl⟩
  refine ⟨⟨?_, ?_, ?_, ?_⟩, ⟨fun _ _ h => h, fun _ _ h => h, by simp, fun i _ => hlive i, by omega, ?_, fun _ _ h _ => .inl h, fun _ _ h => .inl h, hos, hout, htape⟩⟩
  · intro b cs hb
    obtain ⟨e, fr, hw⟩ := hh.ro b cs hb
    refine ⟨e, fr, ?_⟩
    rw [hframe b fun he => ?_]
    · exact hw
    · subst he; rw [hrop] at hb; cases hb
  · intro i q hq; simpa using hh.dom i q hq
  · intro i x hx hxl
    by_cases e : i = id
    · subst e
      rw [List.getElem?_set_self hlt] at hx
      cases hx
      exact ⟨p, hp, hr, fun _ => hrop⟩
    · rw [List.getElem?_set_ne (Ne.symm e)] at hx
      obtain ⟨q, hq, hr', hro⟩ := hh.obj i x hx hxl
      refine ⟨q, hq, hr'.mono (fun _ _ h => h) (fun _ _ h => h) fun hn => hframe _ fun he => ?_, hro⟩
      exact e (hh.inj i id q p ⟨x, hx, hxl⟩ ⟨o, hid, hl⟩ hq hp hn hpn he)
  · intro i j q q' hi hj hq hq' hn hn' he
    exact hh.inj i j q q' (hlive _ hi) (hlive _ hj) hq hq' hn hn' he
  · intro b hb hno
    exact hframe b fun he => hno (he ▸ hown)

/-- cells are stored: what the block holds then -/
theorem setCells_heap : ∀ (vs : List Value) (w : World) (b o : Nat) (cc : Array Value) (e : TypeId) (fr : Nat × Nat), w.heap[b]? = some (.cells cc e fr) → o + vs.length ≤ cc.size →
    ∃ cc', (w.setCells b o vs).heap[b]? = some (.cells cc' e fr) ∧ cc'.size = cc.size ∧ (∀ i, i < cc.size → cc'[i]? = if o ≤ i ∧ i < o + vs.length then vs[i - o]? else cc[i]?)
  | [], w, b, o, cc, e, fr, hw, _ => ⟨cc, hw, rfl, fun i hi => by rw [if_neg (by simp)]⟩
  | v :: r, w, b, o, cc, e, fr, hw, hl => by
    have hb : b < w.heap.size := (Array.getElem?_eq_some_iff.1 hw).1
    have hw1 : (w.setCell ⟨b, o, none⟩ v).heap[b]? = some (.cells (cc.setIfInBounds o v) e fr) := by
      simp only [World.setCell, Array.getElem?_modify]
      simp [hw]
    obtain ⟨cc', h1, h2, h3⟩ := setCells_heap r (w.setCell ⟨b, o, none⟩ v) b (o + 1) _ e fr hw1 (by simp at hl ⊢; omega)
    refine ⟨cc', h1, by simpa using h2, fun i hi => ?_⟩
    rw [h3 i (by simpa using hi)]
    simp only [List.length_cons] at hl ⊢
    by_cases h4 : o + 1 ≤ i ∧ i < o + 1 + r.length
    · rw [if_pos h4, if_pos (by omega), show i - o = (i - (o + 1)) + 1 from by omega, List.getElem?_cons_succ]
    · rw [if_neg h4]
      by_cases h5 : i = o
      · subst h5; rw [if_pos (by omega)]; simp [hi]
      · rw [if_neg (by omega), Array.getElem?_setIfInBounds_ne (Ne.symm h5)]

theorem setCells_other : ∀ (vs : List Value) (w : World) (b o k : Nat), k ≠ b → (w.setCells b o vs).heap[k]? = w.heap[k]?
  | [], _, _, _, _, _ => rfl
  | v :: r, w, b, o, k, h => by
    rw [World.setCells, setCells_other r _ b (o + 1) k h]
    simp only [World.setCell, Array.getElem?_modify]
    rw [if_neg (Ne.symm h)]

theorem setCells_rest : ∀ (vs : List Value) (w : World) (b o : Nat), (w.setCells b o vs).heap.size = w.heap.size ∧ (w.setCells b o vs).os = w.os ∧ (w.setCells b o vs).output = w.output ∧ (w.setCells b o vs).tape = w.tape
  | [], _, _, _ => ⟨rfl, rfl, rfl, rfl⟩
  | v :: r, w, b, o => by
    obtain ⟨h1, h2, h3, h4⟩ := setCells_rest r (w.setCell ⟨b, o, none⟩ v) b (o + 1)
    exact ⟨by rw [World.setCells, h1]; simp [World.setCell], h2, h3, h4⟩

theorem cell_of_heap {w : World} {b i : Nat} {cc : Array Value} {e fr} (h : w.heap[b]? = some (.cells cc e fr)) : w.cell? ⟨b, i, none⟩ = cc[i]? := by
  simp [World.cell?, h]

theorem frozen_of_heap {w : World} {b i : Nat} {cc : Array Value} {e : TypeId} {fr : Nat × Nat} (h : w.heap[b]? = some (.cells cc e fr)) (hf : ¬ (fr.1 ≤ i ∧ i < fr.2)) : w.frozen? ⟨b, i, none⟩ = false := by
  obtain ⟨lo, hi⟩ := fr
  simp only at hf
  simp only [World.frozen?, h]
  simp; omega

end Sx
