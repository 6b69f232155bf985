/-
  The order of entries (plain).
-/
import Derived.Test.YtphpkigfmmanhaaMrgK
namespace Go.Proofs.Ytphpkigfmmanhaa
open Sx Go
set_option maxRecDepth 100000
set_option linter.unusedSimpArgs false
set_option linter.unusedVariables false
set_option linter.unnecessarySimpa false

theorem bless_trans : ∀ {a b c : Bs}, Op.bytesLess a b = true → Op.bytesLess b c = true → Op.bytesLess a c = true
  | [], _, [], _, h => by cases ‹List UInt8› <;> simp [Op.bytesLess] at h
  | [], _, _ :: _, _, _ => by simp [Op.bytesLess]
  | _ :: _, [], _, h, _ => by simp [Op.bytesLess] at h
  | _ :: _, _ :: _, [], _, h => by simp [Op.bytesLess] at h
  | x :: a, y :: b, z :: c, h1, h2 => by
    simp only [Op.bytesLess, Bool.or_eq_true, decide_eq_true_eq, Bool.and_eq_true, beq_iff_eq] at h1 h2 ⊢
    rcases h1 with h1 | ⟨rfl, h1⟩
    · rcases h2 with h2 | ⟨rfl, h2⟩
      · exact .inl (UInt8.lt_trans h1 h2)
      · exact .inl h1
    · rcases h2 with h2 | ⟨rfl, h2⟩
      · exact .inl h2
      · exact .inr ⟨rfl, bless_trans h1 h2⟩
theorem bless_ne {a b : Bs} (h : Op.bytesLess a b = true) : a ≠ b := by rintro rfl; rw [bless_irrefl] at h; cases h
theorem bless_total : ∀ (a b : Bs), a = b ∨ Op.bytesLess a b = true ∨ Op.bytesLess b a = true
  | [], [] => .inl rfl
  | [], _ :: _ => .inr (.inl (by simp [Op.bytesLess]))
  | _ :: _, [] => .inr (.inr (by simp [Op.bytesLess]))
  | x :: a, y :: b => by
    simp only [Op.bytesLess, Bool.or_eq_true, decide_eq_true_eq, Bool.and_eq_true, beq_iff_eq, List.cons.injEq]
    by_cases hxy : x = y
    · subst hxy
      rcases bless_total a b with h | h | h
      · exact .inl ⟨rfl, h⟩
      · exact .inr (.inl (.inr ⟨rfl, h⟩))
      · exact .inr (.inr (.inr ⟨rfl, h⟩))
    · have : x.toNat ≠ y.toNat := fun h => hxy (UInt8.toNat_inj.1 h)
      rcases Nat.lt_or_gt_of_ne this with h | h
      · exact .inr (.inl (.inl (UInt8.lt_iff_toNat_lt.2 h)))
      · exact .inr (.inr (.inl (UInt8.lt_iff_toNat_lt.2 h)))

theorem lessE_trans {a b c : En} (h1 : lessE a b = true) (h2 : lessE b c = true) : lessE a c = true := by
  unfold lessE at *
  by_cases e1 : a.key = b.key
  · rw [if_pos e1, decide_eq_true_eq] at h1
    by_cases e2 : b.key = c.key
    · rw [if_pos e2, decide_eq_true_eq] at h2
      rw [if_pos (e1.trans e2), decide_eq_true_eq]; omega
    · rw [if_neg e2] at h2
      rw [if_neg (by rw [e1]; exact e2), e1]; exact h2
  · rw [if_neg e1] at h1
    by_cases e2 : b.key = c.key
    · rw [if_neg (by rw [← e2]; exact e1), ← e2]; exact h1
    · rw [if_neg e2] at h2
      have := bless_trans h1 h2
      rw [if_neg (bless_ne this)]; exact this
theorem lessE_irrefl (a : En) : lessE a a = false := by simp [lessE]
theorem lessE_total (a b : En) : sameK a b = true ∨ lessE a b = true ∨ lessE b a = true := by
  unfold lessE sameK
  by_cases e : a.key = b.key
  · rw [if_pos e, if_pos e.symm]
    simp only [e, decide_true, Bool.true_and, decide_eq_true_eq]; omega
  · rw [if_neg e, if_neg (fun h => e h.symm)]
    rcases bless_total a.key b.key with h | h | h
    · exact absurd h e
    · exact .inr (.inl h)
    · exact .inr (.inr h)
theorem sameK_not {a b : En} (h : sameK a b = true) : lessE a b = false ∧ lessE b a = false := by
  simp only [sameK, Bool.and_eq_true, decide_eq_true_eq] at h
  simp [lessE, h.1, h.2]

/-- rising strictly -/
def RiseE (l : List En) : Prop := l.Pairwise (fun a b => lessE a b = true)
theorem goE_rise : ∀ {l : List En} {p : Option En}, goE p l = true → (∀ q, p = some q → ∀ y ∈ l, lessE q y = true) ∧ RiseE l ∧ ∀ y ∈ l, mayE y = true
  | [], p, _ => ⟨fun _ _ _ h => by simp at h, List.Pairwise.nil, fun _ h => by simp at h⟩
  | x :: l, p, h => by
    simp only [goE, Bool.and_eq_true] at h
    obtain ⟨⟨hm, hp⟩, hg⟩ := h
    obtain ⟨h1, h2, h3⟩ := goE_rise hg
    have hx := h1 x rfl
    refine ⟨fun q hq y hy => ?_, List.Pairwise.cons hx h2, fun y hy => ?_⟩
    · subst hq
      rcases List.mem_cons.1 hy with rfl | hy
      · exact hp
      · exact lessE_trans hp (hx y hy)
    · rcases List.mem_cons.1 hy with rfl | hy
      · exact hm
      · exact h3 y hy
theorem rise_goE : ∀ {l : List En} {p : Option En}, (∀ q, p = some q → ∀ y ∈ l, lessE q y = true) → RiseE l → (∀ y ∈ l, mayE y = true) → goE p l = true
  | [], p, _, _, _ => rfl
  | x :: l, p, h1, h2, h3 => by
    obtain ⟨h4, h5⟩ := List.pairwise_cons.1 h2
    simp only [goE, Bool.and_eq_true]
    refine ⟨⟨h3 x (by simp), ?_⟩, rise_goE (fun q hq y hy => by cases hq; exact h4 y hy) h5 fun y hy => h3 y (by simp [hy])⟩
    cases p with
    | none => rfl
    | some q => exact h1 q rfl x (by simp)
theorem checkE_iff {l : List En} : checkE l = true ↔ l.length ≤ 4096 ∧ RiseE l ∧ ∀ y ∈ l, mayE y = true := by
  simp only [checkE, Bool.and_eq_true, decide_eq_true_eq]
  exact ⟨fun h => ⟨h.1, (goE_rise h.2).2⟩, fun h => ⟨h.1, rise_goE (fun q hq => by cases hq) h.2.1 h.2.2⟩⟩

end Go.Proofs.Ytphpkigfmmanhaa
