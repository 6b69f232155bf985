/-
  Layer 06, part D: the plain law of frames: of a beginning of frames the whole ones are told.
-/
import Derived.Test.YthphkcpbglhabaaGreatDoorWalC
namespace Go.Proofs.YthphkcpbglhabaaGreatDoor
open Sx Go
set_option maxRecDepth 100000
set_option linter.unusedSimpArgs false
set_option linter.unusedVariables false
set_option linter.unnecessarySimpa false

/-- a text's frame -/
def frmB (s : Bs) : Bs := sealB (vput s.length ++ s)
theorem frameM_eq {s : Bs} (h : s.length ≤ 262144) : frameM s = (frmB s, 0) := by
  have h1 : ¬ 262144 < s.length := by omega
  have h2 : (vputM (s.length : Int)).1 = vput s.length := by
    unfold vputM
    rw [if_pos (by omega)]
    simp
  simp [frameM, textM, h1, h2, frmB]
theorem fr_len (s : Bs) : (frmB s).length = (vput s.length).length + s.length + 4 := by simp [frmB, sealB_len]

theorem tkText_put (s r : Bs) (h : s.length ≤ 262144) : tkText (vput s.length ++ s ++ r) = (s, (vput s.length).length + s.length, 0) := by
  have hv : vtake (vput s.length ++ s ++ r) = (s.length, (vput s.length).length, 0) := by
    rw [List.append_assoc]; exact vtake_put (by omega) _
  unfold tkText
  rw [hv]
  have h1 : ¬ 262144 < s.length := by omega
  have h2 : ¬ (vput s.length ++ s ++ r).length - (vput s.length).length < s.length := by
    simp only [List.length_append]; omega
  simp only [ne_eq, not_true_eq_false, if_false, h1, h2]
  have h3 : (vput s.length ++ s ++ r).take ((vput s.length).length + s.length) = vput s.length ++ s := by
    rw [List.take_append_of_le_length (by simp), List.take_of_length_le (by simp)]
  rw [h3]
  simp
theorem takeF_fr (s r : Bs) (h : s.length ≤ 262144) : takeF (frmB s ++ r) = some (s, (frmB s).length) := by
  have h1 : frmB s ++ r = vput s.length ++ s ++ (crcBytes (crcMore 0 (vput s.length ++ s)) ++ r) := by simp [frmB, sealB]
  have h2 : tkText (frmB s ++ r) = (s, (vput s.length).length + s.length, 0) := by rw [h1]; exact tkText_put s _ h
  unfold takeF
  rw [h2]
  have h3 : (vput s.length).length + s.length + 4 = (frmB s).length := (fr_len s).symm
  simp only [h3]
  rw [List.take_append_of_le_length (Nat.le_refl _), List.take_length]
  rw [if_pos ⟨trivial, by simp, check_seal _⟩]

theorem vtakeGo_short : ∀ (m n j k acc : Nat), j < (vput n).length → (vtakeGo m ((vput n).take j) k acc).2.2 ≠ 0
  | 0, n, j, k, acc, h => by simp [vtakeGo]
  | m + 1, n, 0, k, acc, h => by simp [vtakeGo]
  | m + 1, n, j + 1, k, acc, h => by
    by_cases hn : n < 128
    · rw [vput_small hn] at h; simp at h
    · rw [vput_big (by omega)] at h ⊢
      simp only [List.take_succ_cons, vtakeGo]
      have hb : (UInt8.ofNat (n % 128 + 128)).toNat = n % 128 + 128 := by simp [UInt8.toNat_ofNat']; omega
      have hge : 128 ≤ (UInt8.ofNat (n % 128 + 128)).toNat := by omega
      rw [if_pos hge]
      exact vtakeGo_short m (n / 128) j (k + 1) _ (by simp only [List.length_cons] at h; omega)

theorem takeF_err {l : Bs} (h : (tkText l).2.2 ≠ 0) : takeF l = none := by
  unfold takeF
  rw [if_neg fun hc => h hc.1]
theorem takeF_short (s : Bs) (h : s.length ≤ 262144) (k : Nat) (hk : k < (frmB s).length) : takeF ((frmB s).take k) = none := by
  have hfr : frmB s = vput s.length ++ (s ++ crcBytes (crcMore 0 (vput s.length ++ s))) := by simp [frmB, sealB]
  by_cases hv : k < (vput s.length).length
  · have e : (frmB s).take k = (vput s.length).take k := by rw [hfr, List.take_append_of_le_length (by omega)]
    rw [e]
    refine takeF_err ?_
    have := vtakeGo_short 9 s.length k 0 0 hv
    unfold tkText vtake
    rw [if_pos this]
    exact this
  · obtain ⟨r, hr⟩ : ∃ r, r = (s ++ crcBytes (crcMore 0 (vput s.length ++ s))).take (k - (vput s.length).length) := ⟨_, rfl⟩
    have e : (frmB s).take k = vput s.length ++ r := by
      rw [hr, hfr, List.take_append]
      rw [List.take_of_length_le (by omega)]
    have hlen : ((frmB s).take k).length = k := by rw [List.length_take]; omega
    have hvt : vtake ((frmB s).take k) = (s.length, (vput s.length).length, 0) := by rw [e]; exact vtake_put (by omega) _
    have hfl := fr_len s
    unfold takeF
    rw [if_neg]
    rintro ⟨h1, h2, -⟩
    unfold tkText at h1 h2
    rw [hvt] at h1 h2
    have n1 : ¬ 262144 < s.length := by omega
    simp only [ne_eq, not_true_eq_false, if_false, n1] at h1 h2
    split at h1
    · simp at h1
    · rename_i h3
      rw [if_neg h3] at h2
      simp only at h2
      omega
theorem allF_nil : allF [] = ([], 0) := by
  refine allF_none (takeF_err ?_)
  unfold tkText vtake
  simp [vtakeGo]

/-- of a beginning of frames: the texts whose frames are whole -/
theorem allF_take : ∀ (ss : List Bs), (∀ s ∈ ss, s.length ≤ 262144) → ∀ k, ∃ j, j ≤ ss.length ∧ (allF ((ss.flatMap frmB).take k)).1 = ss.take j ∧ ∀ i, i ≤ ss.length → ((ss.take i).flatMap frmB).length ≤ k → i ≤ j
  | [], _, k => ⟨0, Nat.le_refl _, by simp [allF_nil], fun i hi _ => by simpa using hi⟩
  | s :: ss, h, k => by
    have hs := h s (by simp)
    by_cases hk : k < (frmB s).length
    · have e : ((s :: ss).flatMap frmB).take k = (frmB s).take k := by rw [List.flatMap_cons, List.take_append_of_le_length (by omega)]
      refine ⟨0, Nat.zero_le _, by rw [e, allF_none (takeF_short s hs k hk)]; rfl, fun i hi hl => ?_⟩
      cases i with
      | zero => exact Nat.le_refl _
      | succ i =>
        rw [List.take_succ_cons, List.flatMap_cons, List.length_append] at hl
        omega
    · obtain ⟨j, h1, h2, h3⟩ := allF_take ss (fun x hx => h x (List.mem_cons_of_mem _ hx)) (k - (frmB s).length)
      have e : ((s :: ss).flatMap frmB).take k = frmB s ++ (ss.flatMap frmB).take (k - (frmB s).length) := by
        rw [List.flatMap_cons, List.take_append, List.take_of_length_le (by omega)]
      have ht := takeF_fr s ((ss.flatMap frmB).take (k - (frmB s).length)) hs
      refine ⟨j + 1, by simp only [List.length_cons]; omega, ?_, fun i hi hl => ?_⟩
      · rw [e, allF_some ht, List.drop_left, h2]; rfl
      · cases i with
        | zero => omega
        | succ i =>
          rw [List.take_succ_cons, List.flatMap_cons, List.length_append] at hl
          have := h3 i (by simp only [List.length_cons] at hi; omega) (by omega)
          omega
theorem allF_whole (ss : List Bs) (h : ∀ s ∈ ss, s.length ≤ 262144) : (allF (ss.flatMap frmB)).1 = ss := by
  obtain ⟨j, h1, h2, h3⟩ := allF_take ss h (ss.flatMap frmB).length
  rw [List.take_length] at h2
  have := h3 ss.length (Nat.le_refl _) (by rw [List.take_length]; exact Nat.le_refl _)
  rw [h2, List.take_of_length_le (by omega)]

end Go.Proofs.YthphkcpbglhabaaGreatDoor
