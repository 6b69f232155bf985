/-
  Sx, part B: other names for objects.
-/
import Derived.Test.YticecideodkcmaaSxA
namespace Sx
open Go

mutual
def V.ren (ρ : Nat → Option Nat) : V → V
  | .ptr id off => match ρ id with | some j => .ptr j off | none => .bad
  | .eptr id i sz off => match ρ id with | some j => .eptr j i sz off | none => .bad
  | .sl id off len sz cap => match ρ id with | some j => .sl j off len sz cap | none => .bad
  | .mp id => match ρ id with | some j => .mp j | none => .bad
  | .fn f cap => .fn f (V.renL ρ cap)
  | .agg cells => .agg (V.renL ρ cells)
  | .tup l => .tup (V.renL ρ l)
  | .bool b => .bool b
  | .int k n => .int k n
  | .str l => .str l
  | .nilp => .nilp
  | .nils => .nils
  | .nilf => .nilf
  | .nilm => .nilm
  | .zs => .zs
  | .rptr cells off => .rptr cells off
  | .vs e sz => .vs e sz
  | .any => .any
  | .bad => .bad
def V.renL (ρ : Nat → Option Nat) : List V → List V
  | [] => []
  | v :: l => v.ren ρ :: V.renL ρ l
end

theorem V.renL_length (ρ) : ∀ l, (V.renL ρ l).length = l.length
  | [] => rfl
  | v :: l => by simp [V.renL, V.renL_length ρ l]

theorem V.renL_get (ρ) : ∀ (l : List V) (i : Nat) (h : i < (V.renL ρ l).length), (V.renL ρ l)[i] = (l[i]'(by rw [← V.renL_length ρ l]; exact h)).ren ρ
  | v :: l, 0, _ => rfl
  | v :: l, i + 1, h => by simp only [V.renL, List.getElem_cons_succ]; exact V.renL_get ρ l i _

theorem VRel.to_ren {ro : Ro} (ρ : Nat → Option Nat) {m' : Pl} {v : V} {c : Value} (h : VRel ro m' v c) :
    ∀ {m : Pl}, (∀ i p, m' i = some p → ∃ j, ρ i = some j ∧ m j = some p) → VRel ro m (v.ren ρ) c := by
  induction h with
  | bool => intro m _; exact .bool ..
  | int => intro m _; exact .int ..
  | str => intro m _; exact .str ..
  | nilp => intro m _; exact .nilp ..
  | nils => intro m _; exact .nils ..
  | nilf => intro m _; exact .nilf ..
  | nilm => intro m _; exact .nilm ..
  | ptr m' id off p h hn => intro m hm; obtain ⟨j, hj, hp⟩ := hm _ _ h; simp only [V.ren, hj]; exact .ptr _ _ _ p hp hn
  | rptr m' cells off b o cs f hb hc hv ih => intro m hm; exact .rptr _ _ _ b o cs f hb hc hv
  | eptr m' id i sz off p h hn => intro m hm; obtain ⟨j, hj, hp⟩ := hm _ _ h; simp only [V.ren, hj]; exact .eptr _ _ _ _ _ p hp hn
  | sl m' id off len sz cap o k p h hn hl ho ht hk => intro m hm; obtain ⟨j, hj, hp⟩ := hm _ _ h; simp only [V.ren, hj]; exact .sl _ _ _ _ _ _ o _ p hp hn hl ho ht hk
  | slnil m' id sz p a h hn => intro m hm; obtain ⟨j, hj, hp⟩ := hm _ _ h; simp only [V.ren, hj]; exact .slnil _ _ _ p a hp hn
  | zs => intro m _; exact .zs ..
  | vs m' elems sz b o cap cs f hb hl hsz h1 hc hv ih => intro m hm; exact .vs _ _ _ b o cap cs f hb hl hsz h1 hc hv
  | vsnil => intro m _; exact .vsnil ..
  | mp m' id p h hn => intro m hm; obtain ⟨j, hj, hp⟩ := hm _ _ h; simp only [V.ren, hj]; exact .mp _ _ p hp hn
  | fn m' f cap cs hl hv ih =>
    intro m hm
    refine .fn _ _ _ cs (by rw [V.renL_length]; exact hl) fun i h h' => ?_
    rw [V.renL_get]; exact ih i _ h' hm
  | agg m' cells cs hl hv ih =>
    intro m hm
    refine .agg _ _ cs (by rw [V.renL_length]; exact hl) fun i h h' => ?_
    rw [V.renL_get]; exact ih i _ h' hm
  | tup m' vs cs hl hv ih =>
    intro m hm
    refine .tup _ _ cs (by rw [V.renL_length]; exact hl) fun i h h' => ?_
    rw [V.renL_get]; exact ih i _ h' hm
  | any => intro m _; exact .any ..

theorem VRel.of_ren {ro : Ro} (ρ : Nat → Option Nat) {m : Pl} {u : V} {c : Value} (h : VRel ro m u c) :
    ∀ {v : V} {m' : Pl}, u = v.ren ρ → (∀ i j p, ρ i = some j → m j = some p → m' i = some p) → VRel ro m' v c := by
  induction h with
  | bool => intro v m' hu _; cases v <;> simp only [V.ren] at hu <;> first | (split at hu <;> simp at hu; done) | (simp at hu; done) | (cases hu; exact .bool ..)
  | int => intro v m' hu _; cases v <;> simp only [V.ren] at hu <;> first | (split at hu <;> simp at hu; done) | (simp at hu; done) | (cases hu; exact .int ..)
  | str => intro v m' hu _; cases v <;> simp only [V.ren] at hu <;> first | (split at hu <;> simp at hu; done) | (simp at hu; done) | (cases hu; exact .str ..)
  | nilp => intro v m' hu _; cases v <;> simp only [V.ren] at hu <;> first | (split at hu <;> simp at hu; done) | (simp at hu; done) | (exact .nilp ..)
  | nils => intro v m' hu _; cases v <;> simp only [V.ren] at hu <;> first | (split at hu <;> simp at hu; done) | (simp at hu; done) | (exact .nils ..)
  | nilf => intro v m' hu _; cases v <;> simp only [V.ren] at hu <;> first | (split at hu <;> simp at hu; done) | (simp at hu; done) | (exact .nilf ..)
  | nilm => intro v m' hu _; cases v <;> simp only [V.ren] at hu <;> first | (split at hu <;> simp at hu; done) | (simp at hu; done) | (exact .nilm ..)
  | ptr m id off p h hn =>
    intro v m' hu hm
    cases v <;> simp only [V.ren] at hu <;> try (first | (simp at hu; done) | (split at hu <;> simp at hu; done))
    rename_i id' off'
    split at hu
    · rename_i j hj; cases hu; exact .ptr _ _ _ p (hm _ _ _ hj h) hn
    · cases hu
  | rptr m cells off b o cs f hb hc hv ih =>
    intro v m' hu hm
    cases v <;> simp only [V.ren] at hu <;> try (first | (simp at hu; done) | (split at hu <;> simp at hu; done))
    cases hu; exact .rptr _ _ _ b o cs f hb hc hv
  | eptr m id i sz off p h hn =>
    intro v m' hu hm
    cases v <;> simp only [V.ren] at hu <;> try (first | (simp at hu; done) | (split at hu <;> simp at hu; done))
    split at hu
    · rename_i j hj; cases hu; exact .eptr _ _ _ _ _ p (hm _ _ _ hj h) hn
    · cases hu
  | sl m id off len sz cap o k p h hn hl ho ht hk =>
    intro v m' hu hm
    cases v <;> simp only [V.ren] at hu <;> try (first | (simp at hu; done) | (split at hu <;> simp at hu; done))
    split at hu
    · rename_i j hj; cases hu; exact .sl _ _ _ _ _ _ o _ p (hm _ _ _ hj h) hn hl ho ht hk
    · cases hu
  | slnil m id sz p a h hn =>
    intro v m' hu hm
    cases v <;> simp only [V.ren] at hu <;> try (first | (simp at hu; done) | (split at hu <;> simp at hu; done))
    split at hu
    · rename_i j hj; cases hu; exact .slnil _ _ _ p a (hm _ _ _ hj h) hn
    · cases hu
  | zs => intro v m' hu _; cases v <;> simp only [V.ren] at hu <;> first | (split at hu <;> simp at hu; done) | (simp at hu; done) | (exact .zs ..)
  | vs m elems sz b o cap cs f hb hl hsz h1 hc hv ih =>
    intro v m' hu hm
    cases v <;> simp only [V.ren] at hu <;> try (first | (simp at hu; done) | (split at hu <;> simp at hu; done))
    cases hu; exact .vs _ _ _ b o cap cs f hb hl hsz h1 hc hv
  | vsnil =>
    intro v m' hu hm
    cases v <;> simp only [V.ren] at hu <;> try (first | (simp at hu; done) | (split at hu <;> simp at hu; done))
    cases hu; exact .vsnil ..
  | mp m id p h hn =>
    intro v m' hu hm
    cases v <;> simp only [V.ren] at hu <;> try (first | (simp at hu; done) | (split at hu <;> simp at hu; done))
    split at hu
    · rename_i j hj; cases hu; exact .mp _ _ p (hm _ _ _ hj h) hn
    · cases hu
  | fn m f cap cs hl hv ih =>
    intro v m' hu hm
    cases v <;> simp only [V.ren] at hu <;> try (first | (simp at hu; done) | (split at hu <;> simp at hu; done))
    cases hu
    refine .fn _ _ _ cs (by rw [← hl, V.renL_length]) fun i h h' => ?_
    exact ih i (by rw [V.renL_length]; exact h) h' (V.renL_get ρ _ i _) hm
  | agg m cells cs hl hv ih =>
    intro v m' hu hm
    cases v <;> simp only [V.ren] at hu <;> try (first | (simp at hu; done) | (split at hu <;> simp at hu; done))
    cases hu
    refine .agg _ _ cs (by rw [← hl, V.renL_length]) fun i h h' => ?_
    exact ih i (by rw [V.renL_length]; exact h) h' (V.renL_get ρ _ i _) hm
  | tup m vs cs hl hv ih =>
    intro v m' hu hm
    cases v <;> simp only [V.ren] at hu <;> try (first | (simp at hu; done) | (split at hu <;> simp at hu; done))
    cases hu
    refine .tup _ _ cs (by rw [← hl, V.renL_length]) fun i h h' => ?_
    exact ih i (by rw [V.renL_length]; exact h) h' (V.renL_get ρ _ i _) hm
  | any =>
    intro v m' hu hm
    cases v <;> simp only [V.ren] at hu <;> try (first | (simp at hu; done) | (split at hu <;> simp at hu; done))
    exact .any ..

/-- the objects, named anew -/
def O.ren (ρ : Nat → Option Nat) : O → O
  | .row cells => .row (V.renL ρ cells)
  | .arr e sz => .arr e sz
  | .map es => .map (es.map fun x => (x.1, x.2.ren ρ))
  | .ty id t n => match ρ id with | some j => .ty j t n | none => .bad
  | .bad => .bad
  | .gone => .gone

theorem O.ren_live {ρ} {o : O} : (o.ren ρ).live ↔ o.live := by
  cases o with
  | ty id t n => simp only [O.ren]; split <;> exact Iff.rfl
  | _ => exact Iff.rfl

theorem ORel.to_ren {ro : Ro} (ρ : Nat → Option Nat) {m m' : Pl} {w : World} {p : Place} {o : O} (hm : ∀ i p, m' i = some p → ∃ j, ρ i = some j ∧ m j = some p)
    (h : ORel ro m' w p o) : ORel ro m w p (o.ren ρ) := by
  cases o with
  | row cells =>
    obtain ⟨cc, h1, h2, h3⟩ := h
    refine ⟨cc, h1, by rw [V.renL_length]; exact h2, fun i a b => ?_⟩
    rw [V.renL_get]; exact (h3 i _ b).to_ren ρ hm
  | arr e sz => exact h
  | map es =>
    obtain ⟨h0, ce, cl, h1, h2, h3⟩ := h
    refine ⟨h0, ce, cl, h1, by simpa using h2, fun i a b => ?_⟩
    have := h3 i (by simpa using a) b
    simp only [List.getElem_map]
    exact ⟨this.1, this.2.to_ren ρ hm⟩
  | ty id t n =>
    obtain ⟨h0, q, h1, h2⟩ := h
    obtain ⟨j, hj, hq⟩ := hm _ _ h1
    simp only [O.ren, hj]; exact ⟨h0, q, hq, h2⟩
  | bad => exact h
  | gone => trivial

theorem ORel.of_ren {ro : Ro} (ρ : Nat → Option Nat) {m m' : Pl} {w : World} {p : Place} {o : O} (hm : ∀ i j p, ρ i = some j → m j = some p → m' i = some p)
    (h : ORel ro m w p (o.ren ρ)) : ORel ro m' w p o := by
  cases o with
  | row cells =>
    obtain ⟨cc, h1, h2, h3⟩ := h
    rw [V.renL_length] at h2
    refine ⟨cc, h1, h2, fun i a b => ?_⟩
    exact (h3 i (by rw [V.renL_length]; exact a) b).of_ren ρ (V.renL_get ρ _ i _) hm
  | arr e sz => exact h
  | map es =>
    obtain ⟨h0, ce, cl, h1, h2, h3⟩ := h
    refine ⟨h0, ce, cl, h1, by simpa using h2, fun i a b => ?_⟩
    have := h3 i (by simpa using a) b
    simp only [List.getElem_map] at this
    exact ⟨this.1, this.2.of_ren ρ rfl hm⟩
  | ty id t n =>
    simp only [O.ren] at h
    split at h
    · rename_i j hj; obtain ⟨h0, q, h1, h2⟩ := h; exact ⟨h0, q, hm _ _ _ hj h1, h2⟩
    · exact h.elim
  | bad => exact h
  | gone => trivial

theorem ORel.mono {ro ro' : Ro} {m m' : Pl} {w w' : World} {p : Place} {o : O} (hr : ∀ b cs, ro b = some cs → ro' b = some cs) (hm : ∀ i p, m i = some p → m' i = some p)
    (hw : p.null = false → w'.heap[p.block]? = w.heap[p.block]?) (h : ORel ro m w p o) : ORel ro' m' w' p o := by
  cases o with
  | row cells =>
    obtain ⟨cc, ⟨h0, h1, h2, e, fr, h3, h4⟩, h5, h6⟩ := h
    exact ⟨cc, ⟨h0, h1, h2, e, fr, (hw h0).trans h3, h4⟩, h5, fun i a b => (h6 i a b).mono hr hm⟩
  | arr es sz =>
    obtain ⟨h7, h7', h8, h9⟩ := h
    refine ⟨h7, h7', h8, fun hn => ?_⟩
    obtain ⟨cc, ⟨h0, h1, h2, e, fr, h3, h4⟩, h5, h6⟩ := h9 hn
    exact ⟨cc, ⟨h0, h1, h2, e, fr, (hw h0).trans h3, h4⟩, h5, fun i a j b => let ⟨x, hx, hv⟩ := h6 i a j b; ⟨x, hx, hv.mono hr fun _ _ h => h⟩⟩
  | map es =>
    obtain ⟨h0, ce, cl, h1, h2, h3⟩ := h
    exact ⟨h0, ce, cl, (hw h0).trans h1, h2, fun i a b => ⟨(h3 i a b).1.mono hr (fun _ _ h => h), (h3 i a b).2.mono hr hm⟩⟩
  | ty id t n => obtain ⟨h0, q, h1, h2⟩ := h; exact ⟨h0, q, hm _ _ h1, h2⟩
  | bad => exact h
  | gone => trivial

end Sx
