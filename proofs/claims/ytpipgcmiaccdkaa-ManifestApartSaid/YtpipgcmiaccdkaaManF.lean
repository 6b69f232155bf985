/-
  Layer 12, part F: numbers and texts that bytes begin with: the program's closures, the document's reader.
-/
import Derived.Test.YtpipgcmiaccdkaaManE
namespace Go.Proofs.Ytpipgcmiaccdkaa
open Sx Go
set_option maxRecDepth 100000
set_option linter.unusedSimpArgs false
set_option linter.unusedVariables false
set_option linter.unnecessarySimpa false
attribute [local simp] stepV condR boundsC appendG appendO copyV srcC guardB isCall opStep Opd.ev put readAt aBin aUn args0 V.celled V.ones V.one V.cells putAt bounds bound1 elemsOf srcOf appendV fillAt fillEl V.pures V.pure unwind evs ARes.ev mkRes V.ren V.renL O.ren eqCells eq1 aEq aMM hasTy hasTyN okTy mmGo Known HLe OLe VsLe.refl VLe.refl VLe.cap Stay VsLe V.frz V.frzL O.frz fr clearV rn KnownR Objs OLeO ObjsE nm back setAll ren_ite take_map_len List.take_of_length_le
attribute [local simp ↓] upd_app tl_cons tl_nil
attribute [local simp] encT_ren encT_ones encT_len encT_take encN_ren encN_ones encN_len encN_take
attribute [local simp] encE_ren encE_len encE_take encZ_ren encZ_len encZ_take

theorem vtake_top (l : Bs) : (vtake l).1 ≤ 4611686018427387904 := (vtakeGo_bound 9 l 0 0).1
theorem vtake_err {l : Bs} (h : (vtake l).2.2 ≠ 0) : (vtake l).1 = 0 ∧ (vtake l).2.1 = 0 := (vtakeGo_bound 9 l 0 0).2.2.1 h

/-- what TakeText answers -/
def tkText (l : Bs) : Bs × Nat × Int :=
  if (vtake l).2.2 ≠ 0 then ([], 0, (vtake l).2.2) else if 262144 < (vtake l).1 then ([], 0, 11) else if l.length - (vtake l).2.1 < (vtake l).1 then ([], 0, 10)
  else ((l.take ((vtake l).2.1 + (vtake l).1)).drop (vtake l).2.1, (vtake l).2.1 + (vtake l).1, 0)
def tkTextV (l : Bs) : V := .tup [.str (tkText l).1, .int .i64 (tkText l).2.1, .int .i64 (tkText l).2.2]
theorem tkText_le (l : Bs) : (tkText l).2.1 ≤ l.length := by
  have := vtake_le l
  unfold tkText
  split
  · exact Nat.zero_le _
  · split
    · exact Nat.zero_le _
    · split
      · exact Nat.zero_le _
      · simp only; omega
theorem tkText_err {l : Bs} (h : (tkText l).2.2 ≠ 0) : (tkText l).1 = [] ∧ (tkText l).2.1 = 0 := by
  unfold tkText at *
  split
  · exact ⟨rfl, rfl⟩
  · rename_i h1; rw [if_neg h1] at h
    split
    · exact ⟨rfl, rfl⟩
    · rename_i h2; rw [if_neg h2] at h
      split
      · exact ⟨rfl, rfl⟩
      · rename_i h3; rw [if_neg h3] at h; exact absurd rfl h

theorem ttext_tri (l : Bs) (hl : l.length ≤ 70368744177664) : Tri Try.prog 37 [.str l] [] (fun v H => v = tkTextV l ∧ H = []) := by
  refine Tri.of_run' Try.func37 rfl c37_ok (by simp [Try.ntmps37]) ?_
  (repeat (first | refine Run.adm rfl ?_ | refine Run.seq ?_ | (apply Run.opS rfl; (· (simp -implicitDefEqProofs; exact ⟨rfl, rfl⟩))) | (apply Run.condS; (· (simp -implicitDefEqProofs; exact rfl)))))
  refine Run.opC rfl rfl rfl (vtake_at l hl _) ?_
  rintro v h' ⟨rfl, rfl⟩
  have hle := vtake_le l
  have htop := vtake_top l
  have hdef : tkTextV l = .tup [.str (tkText l).1, .int .i64 (tkText l).2.1, .int .i64 (tkText l).2.2] := rfl
  unfold tkText at hdef
  unfold vtakeV
  generalize (vtake l).1 = n at *
  generalize (vtake l).2.1 = k at *
  generalize (vtake l).2.2 = e at *
  by_cases he : e = 0
  · subst he
    rw [if_neg (by simp)] at hdef
    by_cases h1 : 262144 < n
    · rw [if_pos h1] at hdef
      have h1' : (262144 : Int) < n := by omega
      (repeat (first | refine Run.adm rfl ?_ | refine Run.seq ?_ | (apply Run.opS rfl; (· (simp -implicitDefEqProofs [h1, h1']; exact ⟨rfl, rfl⟩))) | (apply Run.condS; (· (simp -implicitDefEqProofs [h1, h1']; exact rfl)))))
      refine Run.retI Try.func37 r37_ok trivial (by simp -implicitDefEqProofs [r37]; rfl) (by simp ) ?_ (by simp -implicitDefEqProofs ) (by simp -implicitDefEqProofs )
      simp [hdef]
    · rw [if_neg h1] at hdef
      have h1' : ¬ (262144 : Int) < n := by omega
      have hw := wrap_small (n := (l.length : Int) - k) (by omega) (by omega)
      have hw2 := wrap_small (n := (k : Int) + n) (by omega) (by omega)
      by_cases h2 : l.length - k < n
      · rw [if_pos h2] at hdef
        have h2' : (l.length : Int) - k < n := by omega
        (repeat (first | refine Run.adm rfl ?_ | refine Run.seq ?_ | (apply Run.opS rfl; (· (simp -implicitDefEqProofs [h1, h1', hw, h2']; exact ⟨rfl, rfl⟩))) | (apply Run.condS; (· (simp -implicitDefEqProofs [h1, h1', hw, h2']; exact rfl)))))
        refine Run.retI Try.func37 r37_ok trivial (by simp -implicitDefEqProofs [r37]; rfl) (by simp ) ?_ (by simp -implicitDefEqProofs ) (by simp -implicitDefEqProofs )
        simp [hdef]
      · rw [if_neg h2] at hdef
        have h2' : ¬ (l.length : Int) - k < n := by omega
        have hkl : (k : Int) + n ≤ l.length := by omega
        have hkl' : k + n ≤ l.length := by omega
        have hkn : (k : Int) ≤ (k : Int) + n := by omega
        have hkn0 : (0 : Int) ≤ (k : Int) + n := by omega
        have htn : ((k : Int) + n).toNat = k + n := by omega
        (repeat (first | refine Run.adm rfl ?_ | refine Run.seq ?_ | (apply Run.opS rfl; (· (simp -implicitDefEqProofs [h1, h1', hw, h2', hw2, hkl, hkl', hkn, htn, hkn0]; exact ⟨rfl, rfl⟩))) | (apply Run.condS; (· (simp -implicitDefEqProofs [h1, h1', hw, h2', hw2, hkl, hkl', hkn, htn, hkn0]; exact rfl)))))
        refine Run.retI Try.func37 r37_ok trivial (by simp -implicitDefEqProofs [r37]; rfl) (by simp ) ?_ (by simp -implicitDefEqProofs ) (by simp -implicitDefEqProofs )
        simp [hdef]
  · rw [if_pos he] at hdef
    (repeat (first | refine Run.adm rfl ?_ | refine Run.seq ?_ | (apply Run.opS rfl; (· (simp -implicitDefEqProofs [he]; exact ⟨rfl, rfl⟩))) | (apply Run.condS; (· (simp -implicitDefEqProofs [he]; exact rfl)))))
    refine Run.retI Try.func37 r37_ok trivial (by simp -implicitDefEqProofs [r37]; rfl) (by simp ) ?_ (by simp -implicitDefEqProofs ) (by simp -implicitDefEqProofs )
    simp [hdef]
theorem ttext_at (l : Bs) (hl : l.length ≤ 70368744177664) (H : List O) : Tri Try.prog 37 [.str l] H (fun v H' => v = tkTextV l ∧ H' = H) := (ttext_tri l hl).at rfl rfl H
theorem rttext_tri (l : Bs) (hl : l.length ≤ 70368744177664) : Tri Try.prog 63 [.str l] [] (fun v H => v = tkTextV l ∧ H = []) := by
  refine Tri.of_run' Try.func63 rfl c63_ok (by simp [Try.ntmps63]) ?_
  (repeat (first | refine Run.adm rfl ?_ | refine Run.seq ?_ | (apply Run.opS rfl; (· (simp -implicitDefEqProofs; exact ⟨rfl, rfl⟩))) | (apply Run.condS; (· (simp -implicitDefEqProofs; exact rfl)))))
  refine Run.opC rfl rfl rfl (rvtake_at l hl _) ?_
  rintro v h' ⟨rfl, rfl⟩
  have hle := vtake_le l
  have htop := vtake_top l
  have hdef : tkTextV l = .tup [.str (tkText l).1, .int .i64 (tkText l).2.1, .int .i64 (tkText l).2.2] := rfl
  unfold tkText at hdef
  unfold vtakeV
  generalize (vtake l).1 = n at *
  generalize (vtake l).2.1 = k at *
  generalize (vtake l).2.2 = e at *
  by_cases he : e = 0
  · subst he
    rw [if_neg (by simp)] at hdef
    by_cases h1 : 262144 < n
    · rw [if_pos h1] at hdef
      have h1' : (262144 : Int) < n := by omega
      (repeat (first | refine Run.adm rfl ?_ | refine Run.seq ?_ | (apply Run.opS rfl; (· (simp -implicitDefEqProofs [h1, h1']; exact ⟨rfl, rfl⟩))) | (apply Run.condS; (· (simp -implicitDefEqProofs [h1, h1']; exact rfl)))))
      refine Run.retI Try.func63 r63_ok trivial (by simp -implicitDefEqProofs [r63]; rfl) (by simp ) ?_ (by simp -implicitDefEqProofs ) (by simp -implicitDefEqProofs )
      simp [hdef]
    · rw [if_neg h1] at hdef
      have h1' : ¬ (262144 : Int) < n := by omega
      have hw := wrap_small (n := (l.length : Int) - k) (by omega) (by omega)
      have hw2 := wrap_small (n := (k : Int) + n) (by omega) (by omega)
      by_cases h2 : l.length - k < n
      · rw [if_pos h2] at hdef
        have h2' : (l.length : Int) - k < n := by omega
        (repeat (first | refine Run.adm rfl ?_ | refine Run.seq ?_ | (apply Run.opS rfl; (· (simp -implicitDefEqProofs [h1, h1', hw, h2']; exact ⟨rfl, rfl⟩))) | (apply Run.condS; (· (simp -implicitDefEqProofs [h1, h1', hw, h2']; exact rfl)))))
        refine Run.retI Try.func63 r63_ok trivial (by simp -implicitDefEqProofs [r63]; rfl) (by simp ) ?_ (by simp -implicitDefEqProofs ) (by simp -implicitDefEqProofs )
        simp [hdef]
      · rw [if_neg h2] at hdef
        have h2' : ¬ (l.length : Int) - k < n := by omega
        have hkl : (k : Int) + n ≤ l.length := by omega
        have hkl' : k + n ≤ l.length := by omega
        have hkn : (k : Int) ≤ (k : Int) + n := by omega
        have hkn0 : (0 : Int) ≤ (k : Int) + n := by omega
        have htn : ((k : Int) + n).toNat = k + n := by omega
        (repeat (first | refine Run.adm rfl ?_ | refine Run.seq ?_ | (apply Run.opS rfl; (· (simp -implicitDefEqProofs [h1, h1', hw, h2', hw2, hkl, hkl', hkn, htn, hkn0]; exact ⟨rfl, rfl⟩))) | (apply Run.condS; (· (simp -implicitDefEqProofs [h1, h1', hw, h2', hw2, hkl, hkl', hkn, htn, hkn0]; exact rfl)))))
        refine Run.retI Try.func63 r63_ok trivial (by simp -implicitDefEqProofs [r63]; rfl) (by simp ) ?_ (by simp -implicitDefEqProofs ) (by simp -implicitDefEqProofs )
        simp [hdef]
  · rw [if_pos he] at hdef
    (repeat (first | refine Run.adm rfl ?_ | refine Run.seq ?_ | (apply Run.opS rfl; (· (simp -implicitDefEqProofs [he]; exact ⟨rfl, rfl⟩))) | (apply Run.condS; (· (simp -implicitDefEqProofs [he]; exact rfl)))))
    refine Run.retI Try.func63 r63_ok trivial (by simp -implicitDefEqProofs [r63]; rfl) (by simp ) ?_ (by simp -implicitDefEqProofs ) (by simp -implicitDefEqProofs )
    simp [hdef]
theorem rttext_at (l : Bs) (hl : l.length ≤ 70368744177664) (H : List O) : Tri Try.prog 63 [.str l] H (fun v H' => v = tkTextV l ∧ H' = H) := (rttext_tri l hl).at rfl rfl H

/-- a reader: what is left, and whether all was as it must be -/
abbrev Rd := Bs × Bool
def numS (q : Rd) : Nat × Rd := ((vtake q.1).1, q.1.drop (vtake q.1).2.1, q.2 && decide ((vtake q.1).2.2 = 0))
def textS (q : Rd) : Bs × Rd := ((tkText q.1).1, q.1.drop (tkText q.1).2.1, q.2 && decide ((tkText q.1).2.2 = 0))
theorem numS_len (q : Rd) : (numS q).2.1.length ≤ q.1.length := by simp [numS]
theorem textS_len (q : Rd) : (textS q).2.1.length ≤ q.1.length := by simp [textS]
theorem numS_top (q : Rd) : (numS q).1 ≤ 4611686018427387904 := vtake_top _
theorem numS_bad {q : Rd} (h : q.2 = false) : (numS q).2.2 = false := by simp [numS, h]
theorem textS_bad {q : Rd} (h : q.2 = false) : (textS q).2.2 = false := by simp [textS, h]

theorem pnum_tri (q : Rd) (hl : q.1.length ≤ 70368744177664) : Tri Try.prog 34 [.ptr 0 0, .ptr 1 0] [.row [.str q.1], .row [.bool q.2]] (fun v H => v = .int .i64 (numS q).1 ∧ H = [.row [.str (numS q).2.1], .row [.bool (numS q).2.2]]) := by
  obtain ⟨l, ok⟩ := q
  refine Tri.of_run' Try.func34 rfl c34_ok (by simp [Try.ntmps34]) ?_
  (repeat (first | refine Run.adm rfl ?_ | refine Run.seq ?_ | (apply Run.opS rfl; (· (simp -implicitDefEqProofs; exact ⟨rfl, rfl⟩))) | (apply Run.condS; (· (simp -implicitDefEqProofs; exact rfl)))))
  refine Run.opC rfl rfl rfl (vtake_at l hl _) ?_
  rintro v h' ⟨rfl, rfl⟩
  have hle := vtake_le l
  have hle' : ((vtake l).2.1 : Int) ≤ l.length := by omega
  have hd : numS (l, ok) = ((vtake l).1, l.drop (vtake l).2.1, ok && decide ((vtake l).2.2 = 0)) := rfl
  rw [hd]
  unfold vtakeV
  generalize (vtake l).1 = n at *
  generalize (vtake l).2.1 = k at *
  generalize (vtake l).2.2 = e at *
  cases ok with
  | true =>
    (repeat (first | refine Run.adm rfl ?_ | refine Run.seq ?_ | (apply Run.opS rfl; (· (simp -implicitDefEqProofs [hle, hle']; exact ⟨rfl, rfl⟩))) | (apply Run.condS; (· (simp -implicitDefEqProofs [hle, hle']; exact rfl)))))
    refine Run.retI Try.func34 r34_ok trivial (by simp -implicitDefEqProofs [r34]; rfl) (by simp ) ?_ (by simp -implicitDefEqProofs ) (by simp -implicitDefEqProofs )
    simp
  | false =>
    (repeat (first | refine Run.adm rfl ?_ | refine Run.seq ?_ | (apply Run.opS rfl; (· (simp -implicitDefEqProofs [hle, hle']; exact ⟨rfl, rfl⟩))) | (apply Run.condS; (· (simp -implicitDefEqProofs [hle, hle']; exact rfl)))))
    refine Run.retI Try.func34 r34_ok trivial (by simp -implicitDefEqProofs [r34]; rfl) (by simp ) ?_ (by simp -implicitDefEqProofs ) (by simp -implicitDefEqProofs )
    simp
theorem ptext_tri (q : Rd) (hl : q.1.length ≤ 70368744177664) : Tri Try.prog 36 [.ptr 0 0, .ptr 1 0] [.row [.str q.1], .row [.bool q.2]] (fun v H => v = .str (textS q).1 ∧ H = [.row [.str (textS q).2.1], .row [.bool (textS q).2.2]]) := by
  obtain ⟨l, ok⟩ := q
  refine Tri.of_run' Try.func36 rfl c36_ok (by simp [Try.ntmps36]) ?_
  (repeat (first | refine Run.adm rfl ?_ | refine Run.seq ?_ | (apply Run.opS rfl; (· (simp -implicitDefEqProofs; exact ⟨rfl, rfl⟩))) | (apply Run.condS; (· (simp -implicitDefEqProofs; exact rfl)))))
  refine Run.opC rfl rfl rfl (ttext_at l hl _) ?_
  rintro v h' ⟨rfl, rfl⟩
  have hle := tkText_le l
  have hle' : ((tkText l).2.1 : Int) ≤ l.length := by omega
  have hd : textS (l, ok) = ((tkText l).1, l.drop (tkText l).2.1, ok && decide ((tkText l).2.2 = 0)) := rfl
  rw [hd]
  unfold tkTextV
  generalize (tkText l).1 = n at *
  generalize (tkText l).2.1 = k at *
  generalize (tkText l).2.2 = e at *
  cases ok with
  | true =>
    (repeat (first | refine Run.adm rfl ?_ | refine Run.seq ?_ | (apply Run.opS rfl; (· (simp -implicitDefEqProofs [hle, hle']; exact ⟨rfl, rfl⟩))) | (apply Run.condS; (· (simp -implicitDefEqProofs [hle, hle']; exact rfl)))))
    refine Run.retI Try.func36 r36_ok trivial (by simp -implicitDefEqProofs [r36]; rfl) (by simp ) ?_ (by simp -implicitDefEqProofs ) (by simp -implicitDefEqProofs )
    simp
  | false =>
    (repeat (first | refine Run.adm rfl ?_ | refine Run.seq ?_ | (apply Run.opS rfl; (· (simp -implicitDefEqProofs [hle, hle']; exact ⟨rfl, rfl⟩))) | (apply Run.condS; (· (simp -implicitDefEqProofs [hle, hle']; exact rfl)))))
    refine Run.retI Try.func36 r36_ok trivial (by simp -implicitDefEqProofs [r36]; rfl) (by simp ) ?_ (by simp -implicitDefEqProofs ) (by simp -implicitDefEqProofs )
    simp
theorem rnum_tri (q : Rd) (hl : q.1.length ≤ 70368744177664) : Tri Try.prog 41 [.ptr 0 0] [.row [.str q.1, .bool q.2]] (fun v H => v = .int .i64 (numS q).1 ∧ H = [.row [.str (numS q).2.1, .bool (numS q).2.2]]) := by
  obtain ⟨l, ok⟩ := q
  refine Tri.of_run' Try.func41 rfl c41_ok (by simp [Try.ntmps41]) ?_
  (repeat (first | refine Run.adm rfl ?_ | refine Run.seq ?_ | (apply Run.opS rfl; (· (simp -implicitDefEqProofs; exact ⟨rfl, rfl⟩))) | (apply Run.condS; (· (simp -implicitDefEqProofs; exact rfl)))))
  refine Run.opC rfl rfl rfl (rvtake_at l hl _) ?_
  rintro v h' ⟨rfl, rfl⟩
  have hle := vtake_le l
  have hle' : ((vtake l).2.1 : Int) ≤ l.length := by omega
  have hd : numS (l, ok) = ((vtake l).1, l.drop (vtake l).2.1, ok && decide ((vtake l).2.2 = 0)) := rfl
  have her := fun h => vtake_err (l := l) h
  rw [hd]
  unfold vtakeV
  generalize (vtake l).1 = n at *
  generalize (vtake l).2.1 = k at *
  generalize (vtake l).2.2 = e at *
  by_cases he : e = 0
  · (repeat (first | refine Run.adm rfl ?_ | refine Run.seq ?_ | (apply Run.opS rfl; (· (simp -implicitDefEqProofs [hle, hle', he]; exact ⟨rfl, rfl⟩))) | (apply Run.condS; (· (simp -implicitDefEqProofs [hle, hle', he]; exact rfl)))))
    refine Run.retI Try.func41 r41_ok trivial (by simp -implicitDefEqProofs [r41]; rfl) (by simp ) ?_ (by simp -implicitDefEqProofs ) (by simp -implicitDefEqProofs )
    simp [he]
  · obtain ⟨rfl, rfl⟩ := her he
    (repeat (first | refine Run.adm rfl ?_ | refine Run.seq ?_ | (apply Run.opS rfl; (· (simp -implicitDefEqProofs [he]; exact ⟨rfl, rfl⟩))) | (apply Run.condS; (· (simp -implicitDefEqProofs [he]; exact rfl)))))
    refine Run.retI Try.func41 r41_ok trivial (by simp -implicitDefEqProofs [r41]; rfl) (by simp ) ?_ (by simp -implicitDefEqProofs ) (by simp -implicitDefEqProofs )
    simp [he]
theorem rtext_tri (q : Rd) (hl : q.1.length ≤ 70368744177664) : Tri Try.prog 42 [.ptr 0 0] [.row [.str q.1, .bool q.2]] (fun v H => v = .str (textS q).1 ∧ H = [.row [.str (textS q).2.1, .bool (textS q).2.2]]) := by
  obtain ⟨l, ok⟩ := q
  refine Tri.of_run' Try.func42 rfl c42_ok (by simp [Try.ntmps42]) ?_
  (repeat (first | refine Run.adm rfl ?_ | refine Run.seq ?_ | (apply Run.opS rfl; (· (simp -implicitDefEqProofs; exact ⟨rfl, rfl⟩))) | (apply Run.condS; (· (simp -implicitDefEqProofs; exact rfl)))))
  refine Run.opC rfl rfl rfl (rttext_at l hl _) ?_
  rintro v h' ⟨rfl, rfl⟩
  have hle := tkText_le l
  have hle' : ((tkText l).2.1 : Int) ≤ l.length := by omega
  have hd : textS (l, ok) = ((tkText l).1, l.drop (tkText l).2.1, ok && decide ((tkText l).2.2 = 0)) := rfl
  have her := fun h => tkText_err (l := l) h
  rw [hd]
  unfold tkTextV
  generalize (tkText l).1 = n at *
  generalize (tkText l).2.1 = k at *
  generalize (tkText l).2.2 = e at *
  by_cases he : e = 0
  · (repeat (first | refine Run.adm rfl ?_ | refine Run.seq ?_ | (apply Run.opS rfl; (· (simp -implicitDefEqProofs [hle, hle', he]; exact ⟨rfl, rfl⟩))) | (apply Run.condS; (· (simp -implicitDefEqProofs [hle, hle', he]; exact rfl)))))
    refine Run.retI Try.func42 r42_ok trivial (by simp -implicitDefEqProofs [r42]; rfl) (by simp ) ?_ (by simp -implicitDefEqProofs ) (by simp -implicitDefEqProofs )
    simp [he]
  · obtain ⟨rfl, rfl⟩ := her he
    (repeat (first | refine Run.adm rfl ?_ | refine Run.seq ?_ | (apply Run.opS rfl; (· (simp -implicitDefEqProofs [he]; exact ⟨rfl, rfl⟩))) | (apply Run.condS; (· (simp -implicitDefEqProofs [he]; exact rfl)))))
    refine Run.retI Try.func42 r42_ok trivial (by simp -implicitDefEqProofs [r42]; rfl) (by simp ) ?_ (by simp -implicitDefEqProofs ) (by simp -implicitDefEqProofs )
    simp [he]

end Go.Proofs.Ytpipgcmiaccdkaa
