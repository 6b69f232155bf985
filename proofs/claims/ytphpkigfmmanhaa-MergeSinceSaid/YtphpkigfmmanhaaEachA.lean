/-
  Layer 11, part EachA: going over lists in one order (plain).
-/
import Derived.Test.YtphpkigfmmanhaaPruC
namespace Go.Proofs.Ytphpkigfmmanhaa
open Sx Go
set_option maxRecDepth 100000
set_option linter.unusedSimpArgs false
set_option linter.unusedVariables false
set_option linter.unnecessarySimpa false

/-- the least head among the first lists: which list's, and it -/
def lstG (rem : List (List En)) : Nat → Option (Nat × En)
  | 0 => none
  | j + 1 => match rem[j]? with
    | some (x :: _) => match lstG rem j with
      | none => some (j, x)
      | some (i, y) => if lessE x y = true then some (j, x) else some (i, y)
    | _ => lstG rem j
def dropK (e : En) : List En → List En
  | [] => []
  | x :: r => if sameK x e = true then r else x :: r
def totL (rem : List (List En)) : Nat := (rem.map List.length).sum
def eachN : Nat → List (List En) → List En
  | 0, _ => []
  | n + 1, rem => match lstG rem rem.length with
    | none => []
    | some (_, e) => e :: eachN n (rem.map (dropK e))
/-- what is gone over -/
def eachM (rem : List (List En)) : List En := eachN (totL rem) rem

theorem lstG_spec {rem : List (List En)} : ∀ {j i y}, lstG rem j = some (i, y) → i < j ∧ ∃ r, rem[i]? = some (y :: r)
  | 0, i, y, h => by cases h
  | j + 1, i, y, h => by
    have ih := @lstG_spec rem j
    rw [lstG] at h
    split at h
    · rename_i x r hr
      split at h
      · cases h; exact ⟨by omega, r, hr⟩
      · rename_i i' y' hl
        split at h
        · cases h; exact ⟨by omega, r, hr⟩
        · cases h; obtain ⟨h1, h2⟩ := ih hl; exact ⟨by omega, h2⟩
    · obtain ⟨h1, h2⟩ := ih h; exact ⟨by omega, h2⟩

theorem dropK_len (e : En) (l : List En) : (dropK e l).length ≤ l.length := by
  cases l with
  | nil => exact Nat.le_refl _
  | cons x r => rw [dropK]; split <;> simp
theorem sameK_refl (e : En) : sameK e e = true := by simp [sameK]
theorem tot_le (e : En) : ∀ (rem : List (List En)), totL (rem.map (dropK e)) ≤ totL rem
  | [] => Nat.le_refl _
  | l :: rem => by have := tot_le e rem; have := dropK_len e l; simp only [totL, List.map_cons, List.sum_cons] at *; omega
theorem tot_lt (e : En) : ∀ (rem : List (List En)) (i : Nat) (r), rem[i]? = some (e :: r) → totL (rem.map (dropK e)) < totL rem
  | [], i, r, h => by simp at h
  | l :: rem, 0, r, h => by
    simp at h; subst h
    have := tot_le e rem
    simp only [totL, List.map_cons, List.sum_cons, dropK, sameK_refl, if_true, List.length_cons] at *; omega
  | l :: rem, i + 1, r, h => by
    have := tot_lt e rem i r (by simpa using h); have := dropK_len e l
    simp only [totL, List.map_cons, List.sum_cons] at *; omega
theorem eachN_big : ∀ (n : Nat) (rem : List (List En)), totL rem ≤ n → eachN n rem = eachM rem
  | n, rem, h => by
    suffices H : ∀ (m n : Nat) (rem : List (List En)), totL rem ≤ m → totL rem ≤ n → eachN m rem = eachN n rem from H _ _ _ h (Nat.le_refl _)
    intro m
    induction m with
    | zero =>
      intro n rem h1 h2
      cases n with
      | zero => rfl
      | succ n =>
        rw [eachN, eachN]
        cases hl : lstG rem rem.length with
        | none => rfl
        | some p =>
          obtain ⟨i, e⟩ := p
          obtain ⟨_, r, hr⟩ := lstG_spec hl
          have := tot_lt e rem i r hr; omega
    | succ m ih =>
      intro n rem h1 h2
      cases n with
      | zero =>
        rw [eachN, eachN]
        cases hl : lstG rem rem.length with
        | none => rfl
        | some p =>
          obtain ⟨i, e⟩ := p
          obtain ⟨_, r, hr⟩ := lstG_spec hl
          have := tot_lt e rem i r hr; omega
      | succ n =>
        rw [eachN, eachN]
        cases hl : lstG rem rem.length with
        | none => rfl
        | some p =>
          obtain ⟨i, e⟩ := p
          obtain ⟨_, r, hr⟩ := lstG_spec hl
          have := tot_lt e rem i r hr
          simp only []
          rw [ih n _ (by omega) (by omega)]
theorem each_none {rem : List (List En)} (h : lstG rem rem.length = none) : eachM rem = [] := by
  unfold eachM
  cases totL rem with
  | zero => rfl
  | succ n => rw [eachN, h]
theorem each_some {rem : List (List En)} {i e} (h : lstG rem rem.length = some (i, e)) : eachM rem = e :: eachM (rem.map (dropK e)) := by
  obtain ⟨_, r, hr⟩ := lstG_spec h
  have hlt := tot_lt e rem i r hr
  unfold eachM
  cases hn : totL rem with
  | zero => omega
  | succ n =>
    rw [eachN, h]
    simp only []
    rw [eachN_big n _ (by omega), eachM]

/-! ### what is gone over is what the document says -/

theorem lstG_none {rem : List (List En)} : ∀ {j}, lstG rem j = none → ∀ i < j, ∀ l, rem[i]? = some l → l = []
  | 0, _, i, hi, l, _ => by omega
  | j + 1, h, i, hi, l, hl => by
    have ih := @lstG_none rem j
    rw [lstG] at h
    split at h
    · split at h
      · cases h
      · split at h <;> cases h
    · rename_i hno
      by_cases hij : i = j
      · subst hij
        cases l with
        | nil => rfl
        | cons x r => exact absurd hl (hno x r)
      · exact ih h i (by omega) l hl

/-- the least: no head is less -/
theorem lstG_least {rem : List (List En)} : ∀ {j i y}, lstG rem j = some (i, y) → ∀ k < j, ∀ x r, rem[k]? = some (x :: r) → lessE x y = false ∧ (k < i → sameK x y = false)
  | 0, i, y, h, _, hk, _, _, _ => by omega
  | j + 1, i, y, h, k, hk, x, r, hr => by
    have ih := @lstG_least rem j
    rw [lstG] at h
    split at h
    · rename_i z s hz
      split at h
      · rename_i hn
        cases h
        by_cases hkj : k = j
        · subst hkj; rw [hr] at hz; cases hz; exact ⟨lessE_irrefl _, by omega⟩
        · exact absurd (lstG_none hn k (by omega) _ hr) (by simp)
      · rename_i i' y' hl
        split at h
        · rename_i hless
          cases h
          by_cases hkj : k = j
          · subst hkj; rw [hr] at hz; cases hz; exact ⟨lessE_irrefl _, by omega⟩
          · obtain ⟨h1, h2⟩ := ih hl k (by omega) x r hr
            refine ⟨?_, fun _ => ?_⟩
            · cases hxy : lessE x y with
              | false => rfl
              | true => rw [lessE_trans hxy hless] at h1; cases h1
            · cases hs : sameK x y with
              | false => rfl
              | true =>
                have : lessE x y' = true := by
                  simp only [sameK, Bool.and_eq_true, decide_eq_true_eq] at hs
                  simpa [lessE, hs.1, hs.2] using hless
                rw [this] at h1; cases h1
        · rename_i hless
          cases h
          by_cases hkj : k = j
          · subst hkj; rw [hr] at hz; cases hz
            have := (lstG_spec hl).1
            exact ⟨by simpa using hless, by omega⟩
          · exact ih hl k (by omega) x r hr
    · rename_i hno
      by_cases hkj : k = j
      · subst hkj; exact absurd hr (hno x r)
      · exact ih h k (by omega) x r hr

end Go.Proofs.Ytphpkigfmmanhaa
