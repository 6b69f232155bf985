/-
  Layer 06, part B: a text with its length ahead; frames.
-/
import Derived.Test.YthphkcpbglhabaaGreatDoorWalA
namespace Go.Proofs.YthphkcpbglhabaaGreatDoor
open Sx Go
set_option maxRecDepth 100000
set_option linter.unusedSimpArgs false
set_option linter.unusedVariables false
set_option linter.unnecessarySimpa false
attribute [local simp] stepV condR boundsC appendG appendO copyV srcC guardB isCall opStep Opd.ev put readAt aBin aUn args0 V.celled V.ones V.one V.cells putAt bounds bound1 elemsOf srcOf appendV fillAt fillEl V.pures V.pure unwind evs ARes.ev mkRes V.ren V.renL O.ren eqCells eq1 aEq aMM hasTy hasTyN okTy mmGo Known HLe OLe VsLe.refl VLe.refl VLe.cap Stay VsLe V.frz V.frzL O.frz fr clearV rn KnownR Objs OLeO ObjsE nm back setAll ren_ite take_map_len List.take_of_length_le
attribute [local simp ↓] upd_app tl_cons tl_nil

/-- what Text answers -/
def textM (s : Bs) : Bs × Int := if 262144 < s.length then ([], 1) else ((vputM s.length).1 ++ s, 0)
theorem vputM_len (n : Int) : (vputM n).1.length ≤ 9 := by
  unfold vputM; split
  · exact vput_len9 (by omega)
  · simp
theorem stext_tri (s : Bs) (hs : s.length ≤ 4000000000) : Tri Tryz.prog 166 [.str s] [] (fun v H => v = .tup [.str (textM s).1, .int .i64 (textM s).2] ∧ H = []) := by
  refine Tri.of_run' Tryz.func166 rfl c166_ok (by simp [Tryz.ntmps166]) ?_
  by_cases h : 262144 < s.length
  · have h' : (262144 : Int) < s.length := by omega
    (repeat (first | refine Run.adm rfl ?_ | refine Run.seq ?_ | ((first | apply Run.opS rfl | apply Run.condS); (· (simp -implicitDefEqProofs [h, h']; first | exact ⟨rfl, rfl⟩ | exact rfl)))))
    refine Run.retI Tryz.func166 r166_ok trivial (by simp -implicitDefEqProofs [r166]; rfl) (by simp ) ?_ (by simp -implicitDefEqProofs ) (by simp -implicitDefEqProofs )
    simp [textM, h]
  · have h' : ¬ (262144 : Int) < s.length := by omega
    (repeat (first | refine Run.adm rfl ?_ | refine Run.seq ?_ | ((first | apply Run.opS rfl | apply Run.condS); (· (simp -implicitDefEqProofs [h, h']; first | exact ⟨rfl, rfl⟩ | exact rfl)))))
    refine Run.opC rfl rfl rfl (vput_at s.length _) ?_
    rintro v h' ⟨rfl, rfl⟩
    have hln := vputM_len s.length
    have hb : (vputM s.length).1.length + s.length ≤ 4611686018427387904 := by omega
    generalize hg : (vputM s.length).1 = g at *
    (repeat (first | refine Run.adm rfl ?_ | refine Run.seq ?_ | ((first | apply Run.opS rfl | apply Run.condS); (· (simp -implicitDefEqProofs [hb]; first | exact ⟨rfl, rfl⟩ | exact rfl)))))
    refine Run.retI Tryz.func166 r166_ok trivial (by simp -implicitDefEqProofs [r166]; rfl) (by simp ) ?_ (by simp -implicitDefEqProofs ) (by simp -implicitDefEqProofs )
    simp [textM, h, hg]
theorem stext_at (s : Bs) (hs : s.length ≤ 4000000000) (H : List O) : Tri Tryz.prog 166 [.str s] H (fun v H' => v = .tup [.str (textM s).1, .int .i64 (textM s).2] ∧ H' = H) := (stext_tri s hs).at rfl rfl H
theorem vtake_top (l : Bs) : (vtake l).1 ≤ 4611686018427387904 := (vtakeGo_bound 9 l 0 0).1
/-- what TakeText answers -/
def tkText (l : Bs) : Bs × Nat × Int :=
  if (vtake l).2.2 ≠ 0 then ([], 0, (vtake l).2.2) else if 262144 < (vtake l).1 then ([], 0, 11) else if l.length - (vtake l).2.1 < (vtake l).1 then ([], 0, 10)
  else ((l.take ((vtake l).2.1 + (vtake l).1)).drop (vtake l).2.1, (vtake l).2.1 + (vtake l).1, 0)
def tkTextV (l : Bs) : V := .tup [.str (tkText l).1, .int .i64 (tkText l).2.1, .int .i64 (tkText l).2.2]
theorem tkText_le (l : Bs) : (tkText l).2.1 ≤ l.length := by
  have := vtake_le l
  unfold tkText
  split
  · exact Nat.zero_le _
  · split
    · exact Nat.zero_le _
    · split
      · exact Nat.zero_le _
      · simp only; omega
theorem tkText_err {l : Bs} (h : (tkText l).2.2 ≠ 0) : (tkText l).1 = [] ∧ (tkText l).2.1 = 0 := by
  unfold tkText at *
  split
  · exact ⟨rfl, rfl⟩
  · rename_i h1; rw [if_neg h1] at h
    split
    · exact ⟨rfl, rfl⟩
    · rename_i h2; rw [if_neg h2] at h
      split
      · exact ⟨rfl, rfl⟩
      · rename_i h3; rw [if_neg h3] at h; exact absurd rfl h

theorem ttext_tri (l : Bs) (hl : l.length ≤ 70368744177664) : Tri Tryz.prog 194 [.str l] [] (fun v H => v = tkTextV l ∧ H = []) := by
  refine Tri.of_run' Tryz.func194 rfl c194_ok (by simp [Tryz.ntmps194]) ?_
  (repeat (first | refine Run.adm rfl ?_ | refine Run.seq ?_ | ((first | apply Run.opS rfl | apply Run.condS); (· (simp -implicitDefEqProofs; first | exact ⟨rfl, rfl⟩ | exact rfl)))))
  refine Run.opC rfl rfl rfl (vtake_at l hl _) ?_
  rintro v h' ⟨rfl, rfl⟩
  have hle := vtake_le l
  have htop := vtake_top l
  have hdef : tkTextV l = .tup [.str (tkText l).1, .int .i64 (tkText l).2.1, .int .i64 (tkText l).2.2] := rfl
  unfold tkText at hdef
  unfold vtakeV
  generalize (vtake l).1 = n at *
  generalize (vtake l).2.1 = k at *
  generalize (vtake l).2.2 = e at *
  by_cases he : e = 0
  · subst he
    rw [if_neg (by simp)] at hdef
    by_cases h1 : 262144 < n
    · rw [if_pos h1] at hdef
      have h1' : (262144 : Int) < n := by omega
      (repeat (first | refine Run.adm rfl ?_ | refine Run.seq ?_ | ((first | apply Run.opS rfl | apply Run.condS); (· (simp -implicitDefEqProofs [h1, h1']; first | exact ⟨rfl, rfl⟩ | exact rfl)))))
      refine Run.retI Tryz.func194 r194_ok trivial (by simp -implicitDefEqProofs [r194]; rfl) (by simp ) ?_ (by simp -implicitDefEqProofs ) (by simp -implicitDefEqProofs )
      simp [hdef]
    · rw [if_neg h1] at hdef
      have h1' : ¬ (262144 : Int) < n := by omega
      have hw := wrap_small (n := (l.length : Int) - k) (by omega) (by omega)
      have hw2 := wrap_small (n := (k : Int) + n) (by omega) (by omega)
      by_cases h2 : l.length - k < n
      · rw [if_pos h2] at hdef
        have h2' : (l.length : Int) - k < n := by omega
        (repeat (first | refine Run.adm rfl ?_ | refine Run.seq ?_ | ((first | apply Run.opS rfl | apply Run.condS); (· (simp -implicitDefEqProofs [h1, h1', hw, h2']; first | exact ⟨rfl, rfl⟩ | exact rfl)))))
        refine Run.retI Tryz.func194 r194_ok trivial (by simp -implicitDefEqProofs [r194]; rfl) (by simp ) ?_ (by simp -implicitDefEqProofs ) (by simp -implicitDefEqProofs )
        simp [hdef]
      · rw [if_neg h2] at hdef
        have h2' : ¬ (l.length : Int) - k < n := by omega
        have hkl : (k : Int) + n ≤ l.length := by omega
        have hkl' : k + n ≤ l.length := by omega
        have hkn : (k : Int) ≤ (k : Int) + n := by omega
        have hkn0 : (0 : Int) ≤ (k : Int) + n := by omega
        have htn : ((k : Int) + n).toNat = k + n := by omega
        (repeat (first | refine Run.adm rfl ?_ | refine Run.seq ?_ | ((first | apply Run.opS rfl | apply Run.condS); (· (simp -implicitDefEqProofs [h1, h1', hw, h2', hw2, hkl, hkl', hkn, htn, hkn0]; first | exact ⟨rfl, rfl⟩ | exact rfl)))))
        refine Run.retI Tryz.func194 r194_ok trivial (by simp -implicitDefEqProofs [r194]; rfl) (by simp ) ?_ (by simp -implicitDefEqProofs ) (by simp -implicitDefEqProofs )
        simp [hdef]
  · rw [if_pos he] at hdef
    (repeat (first | refine Run.adm rfl ?_ | refine Run.seq ?_ | ((first | apply Run.opS rfl | apply Run.condS); (· (simp -implicitDefEqProofs [he]; first | exact ⟨rfl, rfl⟩ | exact rfl)))))
    refine Run.retI Tryz.func194 r194_ok trivial (by simp -implicitDefEqProofs [r194]; rfl) (by simp ) ?_ (by simp -implicitDefEqProofs ) (by simp -implicitDefEqProofs )
    simp [hdef]
theorem ttext_at (l : Bs) (hl : l.length ≤ 70368744177664) (H : List O) : Tri Tryz.prog 194 [.str l] H (fun v H' => v = tkTextV l ∧ H' = H) := (ttext_tri l hl).at rfl rfl H

/-- a text as a frame -/
def frameM (s : Bs) : Bs × Int := if (textM s).2 = 0 then (sealB (textM s).1, 0) else ([], (textM s).2)
theorem textM_len (s : Bs) (h : s.length ≤ 4000000000) : (textM s).1.length ≤ 4000000009 := by
  have := vputM_len s.length
  unfold textM; split
  · simp
  · simp only [List.length_append]; omega
theorem fput_tri (s : Bs) (hs : s.length ≤ 4000000000) : Tri Tryz.prog 129 [.str s] [] (fun v H => v = .tup [.str (frameM s).1, .int .i64 (frameM s).2] ∧ H = []) := by
  refine Tri.of_run' Tryz.func129 rfl c129_ok (by simp [Tryz.ntmps129]) ?_
  (repeat (first | refine Run.adm rfl ?_ | refine Run.seq ?_ | ((first | apply Run.opS rfl | apply Run.condS); (· (simp -implicitDefEqProofs; first | exact ⟨rfl, rfl⟩ | exact rfl)))))
  refine Run.opC rfl rfl rfl (stext_at s hs _) ?_
  rintro v h' ⟨rfl, rfl⟩
  have hl := textM_len s hs
  by_cases h : (textM s).2 = 0
  · (repeat (first | refine Run.adm rfl ?_ | refine Run.seq ?_ | ((first | apply Run.opS rfl | apply Run.condS); (· (simp -implicitDefEqProofs [h]; first | exact ⟨rfl, rfl⟩ | exact rfl)))))
    refine Run.opC rfl rfl rfl (seal_at _ (by omega) _) ?_
    rintro v h' ⟨rfl, rfl⟩
    (repeat (first | refine Run.adm rfl ?_ | refine Run.seq ?_ | ((first | apply Run.opS rfl | apply Run.condS); (· (simp -implicitDefEqProofs; first | exact ⟨rfl, rfl⟩ | exact rfl)))))
    refine Run.retI Tryz.func129 r129_ok trivial (by simp -implicitDefEqProofs [r129]; rfl) (by simp ) ?_ (by simp -implicitDefEqProofs ) (by simp -implicitDefEqProofs )
    simp [frameM, h]
  · (repeat (first | refine Run.adm rfl ?_ | refine Run.seq ?_ | ((first | apply Run.opS rfl | apply Run.condS); (· (simp -implicitDefEqProofs [h]; first | exact ⟨rfl, rfl⟩ | exact rfl)))))
    refine Run.retI Tryz.func129 r129_ok trivial (by simp -implicitDefEqProofs [r129]; rfl) (by simp ) ?_ (by simp -implicitDefEqProofs ) (by simp -implicitDefEqProofs )
    simp [frameM, h]
theorem fput_at (s : Bs) (hs : s.length ≤ 4000000000) (H : List O) : Tri Tryz.prog 129 [.str s] H (fun v H' => v = .tup [.str (frameM s).1, .int .i64 (frameM s).2] ∧ H' = H) := (fput_tri s hs).at rfl rfl H

/-- the frame that bytes begin with: its text, how many bytes it has; none -/
def takeF (l : Bs) : Option (Bs × Nat) :=
  if (tkText l).2.2 = 0 ∧ (tkText l).2.1 + 4 ≤ l.length ∧ checkB (l.take ((tkText l).2.1 + 4)) = true then some ((tkText l).1, (tkText l).2.1 + 4) else none
def takeFV (l : Bs) : V := match takeF l with | some (t, n) => .tup [.str t, .int .i64 n, .int .i64 0] | none => .tup [.str [], .int .i64 0, .int .i64 30]
theorem ftake_tri (l : Bs) (hl : l.length ≤ 4000000000) : Tri Tryz.prog 165 [.str l] [] (fun v H => v = takeFV l ∧ H = []) := by
  refine Tri.of_run' Tryz.func165 rfl c165_ok (by simp [Tryz.ntmps165]) ?_
  (repeat (first | refine Run.adm rfl ?_ | refine Run.seq ?_ | ((first | apply Run.opS rfl | apply Run.condS); (· (simp -implicitDefEqProofs; first | exact ⟨rfl, rfl⟩ | exact rfl)))))
  refine Run.opC rfl rfl rfl (ttext_at l (by omega) _) ?_
  rintro v h' ⟨rfl, rfl⟩
  have hle := tkText_le l
  have hdef : takeFV l = takeFV l := rfl
  unfold tkTextV
  unfold takeFV takeF at *
  generalize (tkText l).1 = t at *
  generalize (tkText l).2.1 = n at *
  generalize (tkText l).2.2 = e at *
  have hw := wrap_small (n := (n : Int) + 4) (by omega) (by omega)
  by_cases he : e = 0
  rotate_left
  · (repeat (first | refine Run.adm rfl ?_ | refine Run.seq ?_ | ((first | apply Run.opS rfl | apply Run.condS); (· (simp -implicitDefEqProofs [he, hw]; first | exact ⟨rfl, rfl⟩ | exact rfl)))))
    refine Run.retI Tryz.func165 r165_ok trivial (by simp -implicitDefEqProofs [r165]; rfl) (by simp ) ?_ (by simp -implicitDefEqProofs ) (by simp -implicitDefEqProofs )
    simp [he]
  by_cases hn : n + 4 ≤ l.length
  rotate_left
  · have hn' : (l.length : Int) < (n : Int) + 4 := by omega
    (repeat (first | refine Run.adm rfl ?_ | refine Run.seq ?_ | ((first | apply Run.opS rfl | apply Run.condS); (· (simp -implicitDefEqProofs [he, hw, hn, hn']; first | exact ⟨rfl, rfl⟩ | exact rfl)))))
    refine Run.retI Tryz.func165 r165_ok trivial (by simp -implicitDefEqProofs [r165]; rfl) (by simp ) ?_ (by simp -implicitDefEqProofs ) (by simp -implicitDefEqProofs )
    simp [he, hn]
  have hn' : ¬ (l.length : Int) < (n : Int) + 4 := by omega
  have hn2 : (n : Int) + 4 ≤ l.length := by omega
  have hn3 : (0 : Int) ≤ (n : Int) + 4 := by omega
  have hn4 : ((n : Int) + 4).toNat = n + 4 := by omega
  (repeat (first | refine Run.adm rfl ?_ | refine Run.seq ?_ | ((first | apply Run.opS rfl | apply Run.condS); (· (simp -implicitDefEqProofs [he, hw, hn, hn', hn2, hn3, hn4]; first | exact ⟨rfl, rfl⟩ | exact rfl)))))
  refine Run.opC rfl (by simp) rfl (check_at (l.take (n + 4)) (by simp only [List.length_take]; omega) _) ?_
  rintro v h' ⟨rfl, rfl⟩
  cases hc : checkB (l.take (n + 4)) with
  | false =>
    (repeat (first | refine Run.adm rfl ?_ | refine Run.seq ?_ | ((first | apply Run.opS rfl | apply Run.condS); (· (simp -implicitDefEqProofs; first | exact ⟨rfl, rfl⟩ | exact rfl)))))
    refine Run.retI Tryz.func165 r165_ok trivial (by simp -implicitDefEqProofs [r165]; rfl) (by simp ) ?_ (by simp -implicitDefEqProofs ) (by simp -implicitDefEqProofs )
    simp [hc]
  | true =>
    (repeat (first | refine Run.adm rfl ?_ | refine Run.seq ?_ | ((first | apply Run.opS rfl | apply Run.condS); (· (simp -implicitDefEqProofs; first | exact ⟨rfl, rfl⟩ | exact rfl)))))
    refine Run.retI Tryz.func165 r165_ok trivial (by simp -implicitDefEqProofs [r165]; rfl) (by simp ) ?_ (by simp -implicitDefEqProofs ) (by simp -implicitDefEqProofs )
    simp [hc, he, hn]
theorem ftake_at (l : Bs) (hl : l.length ≤ 4000000000) (H : List O) : Tri Tryz.prog 165 [.str l] H (fun v H' => v = takeFV l ∧ H' = H) := (ftake_tri l hl).at (by unfold takeFV; split <;> rfl) rfl H

end Go.Proofs.YthphkcpbglhabaaGreatDoor
