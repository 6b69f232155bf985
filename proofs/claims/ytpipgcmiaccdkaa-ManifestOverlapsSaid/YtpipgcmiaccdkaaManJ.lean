/-
  Layer 12, part J: the edit of a text: the program.
-/
import Derived.Test.YtpipgcmiaccdkaaManI
namespace Go.Proofs.Ytpipgcmiaccdkaa
open Sx Go
set_option maxRecDepth 100000
set_option linter.unusedSimpArgs false
set_option linter.unusedVariables false
set_option linter.unnecessarySimpa false
attribute [local simp] stepV condR boundsC appendG appendO copyV srcC guardB isCall opStep Opd.ev put readAt aBin aUn args0 V.celled V.ones V.one V.cells putAt bounds bound1 elemsOf srcOf appendV fillAt fillEl V.pures V.pure unwind evs ARes.ev mkRes V.ren V.renL O.ren eqCells eq1 aEq aMM hasTy hasTyN okTy mmGo Known HLe OLe VsLe.refl VLe.refl VLe.cap Stay VsLe V.frz V.frzL O.frz fr clearV rn KnownR Objs OLeO ObjsE nm back setAll ren_ite take_map_len List.take_of_length_le
attribute [local simp ↓] upd_app tl_cons tl_nil
attribute [local simp] encT_ren encT_ones encT_len encT_take encN_ren encN_ones encN_len encN_take
attribute [local simp] encE_ren encE_len encE_take encZ_ren encZ_len encZ_take

/-- what Take answers -/
def pA (s : Bs) : Nat × Rd := numS (s, true)
def pB (s : Bs) : List Tb × Rd := rdTabs (pA s).1 ((pA s).2.1, (pA s).2.2 && decide ((pA s).1 ≤ 128))
def pC (s : Bs) : Nat × Rd := numS (pB s).2
def pD (s : Bs) : List Int × Rd := rdInts (pC s).1 ((pC s).2.1, (pC s).2.2 && decide ((pC s).1 ≤ 128))
def pE (s : Bs) : Nat × Rd := numS (pD s).2
def pF (s : Bs) : Nat × Rd := numS (pE s).2
def pEd (s : Bs) : Ed := ⟨(pB s).1, (pD s).1, (pE s).1, (pF s).1⟩
def takeP (s : Bs) : Ed × Int := if (pF s).2.2 = true ∧ (pF s).2.1 = [] ∧ mayE (pEd s) = true then (pEd s, 0) else (e0, 120)

theorem rdTabs_len : ∀ (n : Nat) (q : Rd), (rdTabs n q).2.1.length ≤ q.1.length ∧ (rdTabs n q).1.length ≤ n
  | 0, q => by simp [rdTabs]
  | n + 1, q => by
    rw [rdTabs]; split
    · have h1 := rdTab_len q; obtain ⟨h2, h3⟩ := rdTabs_len n (rdTab q).2
      simp only [List.length_cons]; omega
    · simp
theorem rdInts_len : ∀ (n : Nat) (q : Rd), (rdInts n q).2.1.length ≤ q.1.length ∧ (rdInts n q).1.length ≤ n
  | 0, q => by simp [rdInts]
  | n + 1, q => by
    rw [rdInts]; split
    · have h1 := numS_len q; obtain ⟨h2, h3⟩ := rdInts_len n (numS q).2
      simp only [List.length_cons]; omega
    · simp

theorem take_tri (s : Bs) (hs : s.length ≤ 1099511627776) : Tri Try.prog 13 [.str s] [] (fun v H => v = .tup [.agg (encE (takeP s).1), .int .i64 (takeP s).2] ∧ H = []) := by
  refine Tri.of_run' Try.func13 rfl c13_ok (by simp [Try.ntmps13]) ?_
  (repeat (first | refine Run.adm rfl ?_ | refine Run.seq ?_ | (apply Run.opS rfl; (· (simp -implicitDefEqProofs; exact ⟨rfl, rfl⟩))) | (apply Run.condS; (· (simp -implicitDefEqProofs; exact rfl)))))
  refine Run.nilC 5 0 4 46 (by simp; rfl) (by simp) ?_
  have hm1 := manyT_tri (s, true) (by simpa using hs)
  have lA := numS_len (s, true)
  have hBd : pB s = rdTabs (numS (s, true)).1 ((numS (s, true)).2.1, (numS (s, true)).2.2 && decide ((numS (s, true)).1 ≤ 128)) := rfl
  rw [← hBd] at hm1
  have lB : (pB s).2.1.length ≤ s.length := by
    have := (rdTabs_len (numS (s, true)).1 ((numS (s, true)).2.1, (numS (s, true)).2.2 && decide ((numS (s, true)).1 ≤ 128))).1
    rw [← hBd] at this; simp only at this lA; omega
  have hdef : takeP s = if (pF s).2.2 = true ∧ (pF s).2.1 = [] ∧ mayE ⟨(pB s).1, (pD s).1, (pE s).1, (pF s).1⟩ = true then (⟨(pB s).1, (pD s).1, (pE s).1, (pF s).1⟩, 0) else (e0, 120) := rfl
  have hCd : pC s = numS (pB s).2 := rfl
  clear hBd lA
  obtain ⟨BB, hBB⟩ : ∃ BB, BB = pB s := ⟨_, rfl⟩
  rw [← hBB] at hm1 lB hdef hCd
  obtain ⟨ts, q2⟩ := BB
  simp only at hm1 lB hdef hCd
  refine Run.opF [0, 2, 3, 4, 5, 6] (hm1) rfl (by simp -implicitDefEqProofs [hA, rdH]) rfl (by simp -implicitDefEqProofs [hA, rdH]) (by decide) (by rfl) (by simp -implicitDefEqProofs [hA, rdH]) ?_
  rintro v0 Hs' ⟨rfl, hcase⟩
  have hcase' : Hs' = hA q2 ts ∨ Hs' = hB q2 ts := by
    rcases hcase with ⟨hh, rfl⟩ | rfl
    · left; rw [hh]
    · right; rfl
  refine cases2 hcase' [(1, .ptr 0 0), (2, .ptr 1 0), (3, .int .i64 0), (4, .ptr 2 0), (5, .ptr 3 0), (6, .ptr 4 0), (7, .fn 38 [.ptr 3 0, .ptr 2 0]), (8, .ptr 5 0)] [.row [.str q2.1], .row [.nils, .nils, .int .i64 0, .int .i64 0], .row [.bool q2.2], .row [.fn 34 [.ptr 0 0, .ptr 2 0]], .row [.fn 36 [.ptr 0 0, .ptr 2 0]], .row [.sl 6 0 ts.length 4 none, .nils, .int .i64 0, .int .i64 0], .arr (ts.map encT) 4]
    [0, 1, 2, 3, 4, 5, 6] [0, 1, 2, 3, 4, 5, 8] (by rfl) (by decide) (by simp) (by simp [hA, rdH]) (by rfl) (by decide) (by simp) (by simp [hB, rdH]) ?_
  refine Run.freeze 6 (es := ts.map encT) (sz := 4) (by simp) ?_
  refine Run.mv [0, 1, 2, 3, 4, 5] [(1, .ptr 0 0), (2, .ptr 1 0), (3, .int .i64 0), (4, .ptr 2 0), (5, .ptr 3 0), (6, .ptr 4 0), (7, .fn 38 [.ptr 3 0, .ptr 2 0]), (8, .ptr 5 0)] [.row [.str q2.1], .row [.nils, .nils, .int .i64 0, .int .i64 0], .row [.bool q2.2], .row [.fn 34 [.ptr 0 0, .ptr 2 0]], .row [.fn 36 [.ptr 0 0, .ptr 2 0]], .row [.vs (ts.map encT) 4, .nils, .int .i64 0, .int .i64 0]] (by rfl) (by decide) (by simp -implicitDefEqProofs) (by simp -implicitDefEqProofs) ?_
  have hm2 := manyN_tri q2 ts (by omega)
  have lC := numS_len q2
  have hDd : pD s = rdInts (numS q2).1 ((numS q2).2.1, (numS q2).2.2 && decide ((numS q2).1 ≤ 128)) := by rw [pD, hCd]
  rw [← hDd] at hm2
  have lD : (pD s).2.1.length ≤ s.length := by
    have := (rdInts_len (numS q2).1 ((numS q2).2.1, (numS q2).2.2 && decide ((numS q2).1 ≤ 128))).1
    rw [← hDd] at this; simp only at this lC; omega
  have hEd : pE s = numS (pD s).2 := rfl
  have hFd : pF s = numS (pE s).2 := rfl
  rw [hFd, hEd] at hdef
  clear hDd lC hCd hFd hEd
  generalize pD s = DD at *
  obtain ⟨d, q4⟩ := DD
  simp only at hm2 lD hdef
  (repeat (first | refine Run.adm rfl ?_ | refine Run.seq ?_ | (apply Run.opS rfl; (· (simp -implicitDefEqProofs; exact ⟨rfl, rfl⟩))) | (apply Run.condS; (· (simp -implicitDefEqProofs; exact rfl)))))
  refine Run.nilC 5 1 1 3 (by simp; rfl) (by simp) ?_
  refine Run.opF [0, 2, 3, 5, 6] (hm2) rfl (by simp -implicitDefEqProofs [hC, rdG]) rfl (by simp -implicitDefEqProofs [hC, rdG]) (by decide) (by rfl) (by simp -implicitDefEqProofs [hC, rdG]) ?_
  rintro v0 Hs' ⟨rfl, hcase⟩
  have hcase' : Hs' = hC ts q4 d ∨ Hs' = hD ts q4 d := by
    rcases hcase with ⟨hh, rfl⟩ | rfl
    · left; rw [hh]
    · right; rfl
  refine cases2 hcase' [(1, .ptr 0 0), (2, .ptr 1 0), (3, .int .i64 0), (4, .ptr 2 0), (5, .ptr 3 0), (8, .ptr 5 0)] [.row [.str q4.1], .row [.nils, .nils, .int .i64 0, .int .i64 0], .row [.bool q4.2], .row [.fn 34 [.ptr 0 0, .ptr 2 0]], .gone, .row [.vs (ts.map encT) 4, .sl 6 0 d.length 1 none, .int .i64 0, .int .i64 0], .arr (d.map encN) 1]
    [0, 1, 2, 3, 4, 5, 6] [0, 1, 2, 3, 4, 5, 8] (by rfl) (by decide) (by simp) (by simp [hC, rdG]) (by rfl) (by decide) (by simp) (by simp [hD, rdG]) ?_
  refine Run.freeze 6 (es := d.map encN) (sz := 1) (by simp) ?_
  refine Run.mv [0, 1, 2, 3, 4, 5] [(1, .ptr 0 0), (2, .ptr 1 0), (3, .int .i64 0), (4, .ptr 2 0), (5, .ptr 3 0), (8, .ptr 5 0)] [.row [.str q4.1], .row [.nils, .nils, .int .i64 0, .int .i64 0], .row [.bool q4.2], .row [.fn 34 [.ptr 0 0, .ptr 2 0]], .gone, .row [.vs (ts.map encT) 4, .vs (d.map encN) 1, .int .i64 0, .int .i64 0]] (by rfl) (by decide) (by simp -implicitDefEqProofs) (by simp -implicitDefEqProofs) ?_
  have l1 := numS_len q4
  have t1 := pnum_tri q4 (by omega)
  have t2 := pnum_tri (numS q4).2 (by omega)
  generalize numS (numS q4).2 = D2 at *
  generalize numS q4 = D1 at *
  obtain ⟨lg, q5⟩ := D1
  obtain ⟨nx, q6⟩ := D2
  simp only at t1 t2 hdef
  (repeat (first | refine Run.adm rfl ?_ | refine Run.seq ?_ | (apply Run.opS rfl; (· (simp -implicitDefEqProofs; exact ⟨rfl, rfl⟩))) | (apply Run.condS; (· (simp -implicitDefEqProofs; exact rfl)))))
  refine Run.drawn prog_mixed ?_
  show RunD _ c13d0 [0, 1, 2, 3, 4, 5, 6, 7] [] _ _ _
  refine RunD.flow [0, 2] (by kernel_rfl) (by decide +kernel) (by decide +kernel) (by decide) trivial ?_; (repeat (first | refine execQ_E rfl ?_ | (apply execQ_S rfl; (· (simp -implicitDefEqProofs; exact ⟨rfl, rfl⟩))))); intro hpo
  refine RunD.alt1 1 (by kernel_rfl) (by kernel_rfl) hpo ?_
  refine AStep.F [0, 2] (t1) rfl (by simp -implicitDefEqProofs) rfl (by simp -implicitDefEqProofs) (by decide) (by rfl) (by simp -implicitDefEqProofs) ?_
  rintro v0 Hs' ⟨rfl, rfl⟩
  have hp2 : PendOk Try.prog c13d0 (put (put (put (tl [(1, .ptr 0 0), (2, .ptr 1 0), (3, .int .i64 0), (4, .ptr 2 0), (5, .ptr 3 0), (8, .ptr 5 0)]) (some 18) (.fn 34 [.ptr 0 0, .ptr 2 0])) (some 20) (.fn 34 [.ptr 0 0, .ptr 2 0])) (some 19) (.int .i64 lg)) [.row [.str q5.1], .row [.nils, .nils, .int .i64 0, .int .i64 0], .row [.bool q5.2], .row [.fn 34 [.ptr 0 0, .ptr 2 0]], .gone, .row [.vs (ts.map encT) 4, .vs (d.map encN) 1, .int .i64 0, .int .i64 0]] [2] := by
    (repeat (first | exact PendOk.nil | (refine PendOk.S rfl rfl ?_ ?_; (· (simp -implicitDefEqProofs; done)))))
  refine RunD.flow [4] (by kernel_rfl) (by decide +kernel) (by decide +kernel) (by decide) hp2 ?_; (repeat (first | refine execQ_E rfl ?_ | (apply execQ_S rfl; (· (simp -implicitDefEqProofs; exact ⟨rfl, rfl⟩))))); intro hpo
  refine RunD.alt1 3 (by kernel_rfl) (by kernel_rfl) hpo ?_
  refine AStep.F [0, 2] (t2) rfl (by simp -implicitDefEqProofs) rfl (by simp -implicitDefEqProofs) (by decide) (by rfl) (by simp -implicitDefEqProofs) ?_
  rintro v0 Hs' ⟨rfl, rfl⟩
  refine RunD.alt1 5 (by kernel_rfl) (by kernel_rfl) (by
    show PendOk _ c13d0 _ _ [4]
    (repeat (first | exact PendOk.nil | (refine PendOk.S rfl rfl ?_ ?_; (· (simp -implicitDefEqProofs; done)))))) ?_
  (apply AStep.S rfl; (· (simp -implicitDefEqProofs; exact ⟨rfl, rfl⟩)))
  refine RunD.flow [6] (by kernel_rfl) (by decide +kernel) (by decide +kernel) (by decide) trivial ?_; (repeat (first | refine execQ_E rfl ?_ | (apply execQ_S rfl; (· (simp -implicitDefEqProofs; exact ⟨rfl, rfl⟩))))); intro hpo
  refine RunD.alt1 7 (by kernel_rfl) (by kernel_rfl) hpo ?_
  (apply AStep.S rfl; (· (simp -implicitDefEqProofs; exact ⟨rfl, rfl⟩)))
  refine RunD.fin (by kernel_rfl) (by trivial) ?_
  rw [hdef]
  have herr : ∀ {k t h}, AtEnd k → t 2 = .ptr 1 0 → t 3 = .int .i64 120 → (h : List O)[1]? = some (.row [.nils, .nils, .int .i64 0, .int .i64 0]) → Run ⟨Try.prog, 13, Try.f13.ntmps, [], fun v H => v = V.tup [V.agg (encE e0), V.int .i64 120] ∧ H = []⟩ ⟨k, t, h⟩ := by
    intro k t h hk w1 w2 w3
    refine Run.mv [1] [(2, .ptr 0 0), (3, .int .i64 120)] [.row (encE e0)] (by rfl) (by decide) (by simp [w1, w2]) (by simp [w3, encE, e0, VLe.nils]) ?_
    refine Run.ret0 rfl Try.func13 r13_ok hk (by simp [r13]; rfl) ?_ (by simp)
    simp
  cases c1 : q6.2 with
  | false =>
    rw [if_neg (by simp)]
    (repeat (first | refine Run.adm rfl ?_ | refine Run.seq ?_ | (apply Run.opS rfl; (· (simp -implicitDefEqProofs [c1]; exact ⟨rfl, rfl⟩))) | (apply Run.condS; (· (simp -implicitDefEqProofs [c1]; exact rfl)))))
    refine herr trivial ?_ ?_ ?_ <;> simp
  | true =>
  by_cases c2 : q6.1 = []
  rotate_left
  · rw [if_neg (by simp [c2])]
    (repeat (first | refine Run.adm rfl ?_ | refine Run.seq ?_ | (apply Run.opS rfl; (· (simp -implicitDefEqProofs [c1, c2]; exact ⟨rfl, rfl⟩))) | (apply Run.condS; (· (simp -implicitDefEqProofs [c1, c2]; exact rfl)))))
    refine herr trivial ?_ ?_ ?_ <;> simp
  have hmy := fun H => check_at ⟨ts, d, lg, nx⟩ H
  simp only [encE] at hmy
  (repeat (first | refine Run.adm rfl ?_ | refine Run.seq ?_ | (apply Run.opS rfl; (· (simp -implicitDefEqProofs [c1, c2]; exact ⟨rfl, rfl⟩))) | (apply Run.condS; (· (simp -implicitDefEqProofs [c1, c2]; exact rfl)))))
  refine Run.opC rfl (by simp) rfl (hmy _) ?_
  rintro v h' ⟨rfl, rfl⟩
  cases c5 : mayE ⟨ts, d, lg, nx⟩ with
  | false =>
    rw [if_neg (by simp)]
    (repeat (first | refine Run.adm rfl ?_ | refine Run.seq ?_ | (apply Run.opS rfl; (· (simp -implicitDefEqProofs [c5, errA]; exact ⟨rfl, rfl⟩))) | (apply Run.condS; (· (simp -implicitDefEqProofs [c5, errA]; exact rfl)))))
    refine herr trivial ?_ ?_ ?_ <;> simp
  | true =>
    rw [if_pos ⟨rfl, c2, rfl⟩]
    (repeat (first | refine Run.adm rfl ?_ | refine Run.seq ?_ | (apply Run.opS rfl; (· (simp -implicitDefEqProofs [c5, errA]; exact ⟨rfl, rfl⟩))) | (apply Run.condS; (· (simp -implicitDefEqProofs [c5, errA]; exact rfl)))))
    refine Run.mv [1] [(2, .ptr 0 0), (3, .int .i64 0)] [.row (encE ⟨ts, d, lg, nx⟩)] (by rfl) (by decide) (by simp -implicitDefEqProofs [encE]) (by simp -implicitDefEqProofs [encE]) ?_
    refine Run.ret0 rfl Try.func13 r13_ok trivial (by simp [r13]; rfl) ?_ (by simp)
    simp
theorem take_at (s : Bs) (hs : s.length ≤ 1099511627776) (H : List O) : Tri Try.prog 13 [.str s] H (fun v H' => v = .tup [.agg (encE (takeP s).1), .int .i64 (takeP s).2] ∧ H' = H) := (take_tri s hs).at rfl rfl H
theorem rtake_at (s : Bs) (hs : s.length ≤ 1099511627776) (H : List O) : Tri Try.prog 14 [.str s] H (fun v H' => v = .tup [.agg (encE (takeR s).1), .int .i64 (takeR s).2] ∧ H' = H) := (rtake_tri s hs).at rfl rfl H

end Go.Proofs.Ytpipgcmiaccdkaa
