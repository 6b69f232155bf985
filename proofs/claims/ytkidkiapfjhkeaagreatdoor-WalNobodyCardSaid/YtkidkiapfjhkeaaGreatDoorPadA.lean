/-
  Numerals of a width: what fills them up, their order, what they are read as.
-/
import Derived.Test.YtkidkiapfjhkeaaGreatDoorWalW
namespace Go.Proofs.YtkidkiapfjhkeaaGreatDoor
open Sx Go
set_option maxRecDepth 100000
set_option linter.unusedSimpArgs false
set_option linter.unusedVariables false
set_option linter.unnecessarySimpa false

def dgB (i : Nat) : UInt8 := UInt8.ofNat (48 + i % 10)
def padK : Nat → Nat → Bs
  | 0, _ => []
  | k + 1, i => padK k (i / 10) ++ [dgB i]
theorem dgB_nat (i : Nat) : (dgB i).toNat = 48 + i % 10 := by
  have := Nat.mod_lt i (show 0 < 10 by decide)
  simp [dgB, UInt8.toNat_ofNat']; omega
theorem padK_len : ∀ k i, (padK k i).length = k
  | 0, _ => rfl
  | k + 1, i => by simp [padK, padK_len k]
theorem padK_dig : ∀ k i, ∀ b ∈ padK k i, 48 ≤ b.toNat ∧ b.toNat ≤ 57
  | 0, _, b, h => by simp [padK] at h
  | k + 1, i, b, h => by
    rcases List.mem_append.1 h with h | h
    · exact padK_dig k _ b h
    · rw [List.mem_singleton.1 h, dgB_nat]; omega
theorem padK_zero : ∀ k, padK k 0 = Lib.repeatL [48] k
  | 0 => rfl
  | k + 1 => by
    have : Lib.repeatL [48] (k + 1) = Lib.repeatL [48] k ++ [48] := by rw [Lib.repeatL_add, Lib.repeatL_one]
    rw [this, ← padK_zero k]; rfl
theorem pad_dec : ∀ k i, i < 10 ^ (k + 1) → (Lib.decDigits i).length ≤ k + 1 ∧ Lib.repeatL [48] (k + 1 - (Lib.decDigits i).length) ++ Lib.decDigits i = padK (k + 1) i
  | k, i, h => by
    by_cases h10 : i < 10
    · have h1 := Lib.decDigits_one h10
      have h0 : i / 10 = 0 := by omega
      refine ⟨by rw [h1]; simp, ?_⟩
      rw [h1, padK, h0, padK_zero]
      simp only [List.length_singleton, Nat.add_sub_cancel, dgB, Nat.mod_eq_of_lt h10]
    · cases k with
      | zero => exact absurd (by simpa using h) h10
      | succ k =>
        obtain ⟨g1, g2⟩ := pad_dec k (i / 10) (by rw [Nat.pow_succ] at h; omega)
        have h1 : Lib.decDigits i = Lib.decDigits (i / 10) ++ [UInt8.ofNat (48 + i % 10)] := by rw [Lib.decDigits, dif_neg h10]
        refine ⟨by rw [h1, List.length_append, List.length_singleton]; omega, ?_⟩
        rw [h1, List.length_append, List.length_singleton, padK, ← g2]
        have : k + 1 + 1 - ((Lib.decDigits (i / 10)).length + 1) = k + 1 - (Lib.decDigits (i / 10)).length := by omega
        rw [this, List.append_assoc]; rfl

/-- the order -/
theorem lex_app {a b : Bs} (h : a < b) (hl : a.length = b.length) (x y : Bs) : a ++ x < b ++ y := by
  have h' : List.Lex (· < ·) a b := h
  show List.Lex (· < ·) (a ++ x) (b ++ y)
  induction h' with
  | nil => simp at hl
  | rel hr => exact List.Lex.rel hr
  | cons hc ih => exact List.Lex.cons (ih hc (by simpa using hl))
theorem lex_pre (p : Bs) {x y : Bs} (h : x < y) : p ++ x < p ++ y := by
  induction p with
  | nil => exact h
  | cons c p ih => exact List.Lex.cons ih
theorem padK_lt : ∀ k {i j : Nat}, i < j → j < 10 ^ k → padK k i < padK k j
  | 0, i, j, h, hj => by simp at hj; omega
  | k + 1, i, j, h, hj => by
    rw [Nat.pow_succ] at hj
    by_cases hd : i / 10 < j / 10
    · exact lex_app (padK_lt k hd (by omega)) (by rw [padK_len, padK_len]) _ _
    · have he : i / 10 = j / 10 := by omega
      unfold padK
      rw [he]
      refine lex_pre _ (List.Lex.rel ?_)
      show dgB i < dgB j
      rw [UInt8.lt_iff_toNat_lt, dgB_nat, dgB_nat]; omega
theorem padK_inj {k i j : Nat} (hi : i < 10 ^ k) (hj : j < 10 ^ k) (h : padK k i = padK k j) : i = j := by
  rcases Nat.lt_trichotomy i j with g | g | g
  · have := padK_lt k g hj; rw [h] at this; exact absurd this (List.lt_irrefl _)
  · exact g
  · have := padK_lt k g hi; rw [h] at this; exact absurd this (List.lt_irrefl _)

/-- read again -/
theorem parse_app : ∀ (l : Bs) (acc : Nat) (c : UInt8) (u : Nat), Lib.parseUint10 acc l = .ok u → Lib.parseUint10 acc (l ++ [c]) = Lib.parseUint10 u [c]
  | [], acc, c, u, h => by simp only [Lib.parseUint10] at h; injection h with h; subst h; rfl
  | d :: l, acc, c, u, h => by
    simp only [Lib.parseUint10, List.cons_append] at h ⊢
    split at h
    · split at h
      · cases h
      · split at h
        · cases h
        · rename_i h1 h2 h3
          rw [if_pos h1, if_neg h2, if_neg h3]
          exact parse_app l _ c u h
    · cases h
theorem padK_parse : ∀ k i, i < 10 ^ k → k ≤ 18 → Lib.parseUint10 0 (padK k i) = .ok i
  | 0, i, h, _ => by have h0 : i = 0 := (by simpa using h); subst h0; rfl
  | k + 1, i, h, hk => by
    rw [Nat.pow_succ] at h
    have h1 := padK_parse k (i / 10) (by omega) (by omega)
    have hp : 10 ^ k ≤ 10 ^ 17 := Nat.pow_le_pow_right (by decide) (by omega)
    have hp2 : (10 : Nat) ^ 17 = 100000000000000000 := by decide
    rw [padK, parse_app _ _ _ _ h1]
    simp only [Lib.parseUint10]
    rw [dgB_nat, if_pos (by omega), if_neg (by omega), if_neg (by omega)]
    congr 1; omega
theorem padK_atoi (k i : Nat) (hk : k + 1 ≤ 18) (h : i < 10 ^ (k + 1)) : Lib.atoiAll (padK (k + 1) i) = .ok (i : Int) := by
  have hp := padK_parse (k + 1) i h hk
  have hd := padK_dig (k + 1) i
  have hl := padK_len (k + 1) i
  have hpw : 10 ^ (k + 1) ≤ 10 ^ 18 := Nat.pow_le_pow_right (by decide) hk
  have hp2 : (10 : Nat) ^ 18 = 1000000000000000000 := by decide
  generalize padK (k + 1) i = l at *
  cases l with
  | nil => simp at hl
  | cons c r =>
    have hc := hd c (by simp)
    have h43 : ¬ (c.toNat = 43 ∨ c.toNat = 45) := by omega
    have h45 : ¬ c.toNat = 45 := by omega
    unfold Lib.atoiAll
    simp only [if_neg h43, Lib.parseMag, hp]
    simp only [List.cons_ne_nil, if_false, h45, not_false_eq_true, true_and, false_and]
    rw [if_neg (by omega)]

end Go.Proofs.YtkidkiapfjhkeaaGreatDoor
