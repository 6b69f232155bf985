/-
  Layer 12, part Za: the law ManifestApplies.
-/
import Derived.Test.YtpipgcmiaccdkaaManY
namespace Go.Proofs.Ytpipgcmiaccdkaa
open Sx Go
set_option maxRecDepth 100000
set_option linter.unusedSimpArgs false
set_option linter.unusedVariables false
set_option linter.unnecessarySimpa false
attribute [local simp] stepV condR boundsC appendG appendO copyV srcC guardB isCall opStep Opd.ev put readAt aBin aUn args0 V.celled V.ones V.one V.cells putAt bounds bound1 elemsOf srcOf appendV fillAt fillEl V.pures V.pure unwind evs ARes.ev mkRes V.ren V.renL O.ren eqCells eq1 aEq aMM hasTy hasTyN okTy mmGo Known HLe OLe VsLe.refl VLe.refl VLe.cap Stay VsLe V.frz V.frzL O.frz fr clearV rn KnownR Objs OLeO ObjsE nm back setAll ren_ite take_map_len List.take_of_length_le
attribute [local simp ↓] upd_app tl_cons tl_nil
attribute [local simp] encT_ren encT_ones encT_len encT_take encN_ren encN_ones encN_len encN_take
attribute [local simp] encE_ren encE_len encE_take encZ_ren encZ_len encZ_take
attribute [local simp] encS_ren encS_ones encS_len encS_take

theorem same_ov (x : List Tb) (hx : x.length ≤ 500000) (H : List O) : Tri Try.prog 21 [.vs (x.map encT) 4, .vs (x.map encT) 4] H (fun v H' => v = .bool true ∧ H' = H) := by
  have := sameT_at x x (by omega) H
  rwa [decide_eq_true rfl] at this
theorem same_st (x : St) (hx : x.tabs.length ≤ 500000) (H : List O) : Tri Try.prog 20 [.agg (encZ x), .agg (encZ x)] H (fun v H' => v = .bool true ∧ H' = H) := by
  have := sameZ_at x x (by omega) H
  rwa [decide_eq_true rfl] at this
theorem ovl_len (l : List Tb) (lv : Int) (lo hi : Bs) : (ovl l lv lo hi).length ≤ l.length := List.length_filter_le _ _
theorem overZ_at (s : St) (lv : Int) (lo hi : Bs) (hll : s.tabs.length ≤ 1000000) (H : List O) : Tri Try.prog 22 [.agg (encZ s), .int .i64 lv, .str lo, .str hi] H (fun v H' => v = .vs ((ovl s.tabs lv lo hi).map encT) 4 ∧ H' = H) := over_at s.tabs s.log s.next lv lo hi hll H
theorem roverZ_at (s : St) (lv : Int) (lo hi : Bs) (hll : s.tabs.length ≤ 1000000) (H : List O) : Tri Try.prog 23 [.agg (encZ s), .int .i64 lv, .str lo, .str hi] H (fun v H' => v = .vs ((ovl s.tabs lv lo hi).map encT) 4 ∧ H' = H) := rover_at s.tabs s.log s.next lv lo hi hll H

theorem applies_law (l : List Ed) (lo hi : Bs) : Tri Try.prog 4 [.vs (l.map encE) 4, .str lo, .str hi] [] (fun v H => v = .bool true ∧ H = []) := by
  refine Tri.of_run' Try.func4 rfl c4_ok (by simp [Try.ntmps4]) ?_
  have hend : ∀ {k t h}, AtEnd k → t 6 = .bool true → Run ⟨Try.prog, 4, Try.f4.ntmps, [], fun v H => v = .bool true ∧ H = []⟩ ⟨k, t, h⟩ := by
    intro k t h hk h6
    refine Run.mv [] [(6, .bool true)] [] (by rfl) (by decide) (by simp [h6]) (by simp) ?_
    refine Run.ret0 rfl Try.func4 r4_ok hk (by simp [r4]; rfl) ?_ (by simp)
    simp
  by_cases a1 : 20 < l.length
  · have a1' : (20 : Int) < l.length := by omega
    (repeat (first | refine Run.adm rfl ?_ | refine Run.seq ?_ | (apply Run.opS rfl; (· (simp -implicitDefEqProofs [a1, a1']; exact ⟨rfl, rfl⟩))) | (apply Run.condS; (· (simp -implicitDefEqProofs [a1, a1']; exact rfl)))))
    refine Run.opC rfl rfl rfl (awake_at _) ?_
    rintro v h' ⟨rfl, rfl⟩
    (repeat (first | refine Run.adm rfl ?_ | refine Run.seq ?_ | (apply Run.opS rfl; (· (simp -implicitDefEqProofs; exact ⟨rfl, rfl⟩))) | (apply Run.condS; (· (simp -implicitDefEqProofs; exact rfl)))))
    exact hend trivial (by simp)
  have a1' : ¬ (20 : Int) < l.length := by omega
  by_cases a2 : 100 < lo.length
  · have a2' : (100 : Int) < lo.length := by omega
    (repeat (first | refine Run.adm rfl ?_ | refine Run.seq ?_ | (apply Run.opS rfl; (· (simp -implicitDefEqProofs [a1, a1', a2, a2']; exact ⟨rfl, rfl⟩))) | (apply Run.condS; (· (simp -implicitDefEqProofs [a1, a1', a2, a2']; exact rfl)))))
    refine Run.opC rfl rfl rfl (awake_at _) ?_
    rintro v h' ⟨rfl, rfl⟩
    (repeat (first | refine Run.adm rfl ?_ | refine Run.seq ?_ | (apply Run.opS rfl; (· (simp -implicitDefEqProofs; exact ⟨rfl, rfl⟩))) | (apply Run.condS; (· (simp -implicitDefEqProofs; exact rfl)))))
    exact hend trivial (by simp)
  have a2' : ¬ (100 : Int) < lo.length := by omega
  by_cases a3 : 100 < hi.length
  · have a3' : (100 : Int) < hi.length := by omega
    (repeat (first | refine Run.adm rfl ?_ | refine Run.seq ?_ | (apply Run.opS rfl; (· (simp -implicitDefEqProofs [a1, a1', a2, a2', a3, a3']; exact ⟨rfl, rfl⟩))) | (apply Run.condS; (· (simp -implicitDefEqProofs [a1, a1', a2, a2', a3, a3']; exact rfl)))))
    refine Run.opC rfl rfl rfl (awake_at _) ?_
    rintro v h' ⟨rfl, rfl⟩
    (repeat (first | refine Run.adm rfl ?_ | refine Run.seq ?_ | (apply Run.opS rfl; (· (simp -implicitDefEqProofs; exact ⟨rfl, rfl⟩))) | (apply Run.condS; (· (simp -implicitDefEqProofs; exact rfl)))))
    exact hend trivial (by simp)
  have a3' : ¬ (100 : Int) < hi.length := by omega
  (repeat (first | refine Run.adm rfl ?_ | refine Run.seq ?_ | (apply Run.opS rfl; (· (simp -implicitDefEqProofs [a1, a1', a2, a2', a3, a3']; exact ⟨rfl, rfl⟩))) | (apply Run.condS; (· (simp -implicitDefEqProofs [a1, a1', a2, a2', a3, a3']; exact rfl)))))
  refine Run.loopC [0, 1] (fun (a : Nat × St) => ([(0, .vs (l.map encE) 4), (1, .str lo), (2, .str hi), (7, .ptr 0 0), (8, .ptr 1 0), (9, .int .i64 a.1)], [.row (encZ a.2), .row (encZ a.2)]))
    (fun a => a.1 ≤ l.length ∧ GoodT a.2.tabs ∧ a.2.tabs.length ≤ a.1 * 128) (fun a => l.length - a.1) (0, z0) ⟨Nat.zero_le _, good_nil, by simp [z0]⟩ (by rfl) (by decide) (by simp) (by simp [encZ, z0, VLe.nils]) ?_
  rintro ⟨i, s⟩ ⟨hi', hg, hsl⟩ ihO
  simp only at hi' hg hsl ihO ⊢
  by_cases hlt : i < l.length
  rotate_left
  · (repeat (first | refine Run.adm rfl ?_ | refine Run.seq ?_ | (apply Run.opS rfl; (· (simp -implicitDefEqProofs [hlt]; exact ⟨rfl, rfl⟩))) | (apply Run.condS; (· (simp -implicitDefEqProofs [hlt]; exact rfl)))))
    refine Run.opC rfl rfl rfl (awake_at _) ?_
    rintro v h' ⟨rfl, rfl⟩
    (repeat (first | refine Run.adm rfl ?_ | refine Run.seq ?_ | (apply Run.opS rfl; (· (simp -implicitDefEqProofs; exact ⟨rfl, rfl⟩))) | (apply Run.condS; (· (simp -implicitDefEqProofs; exact rfl)))))
    exact hend trivial (by simp)
  obtain ⟨e, he, hei, -, -⟩ := getL hlt
  have hlt' : (i : Int) < l.length := by omega
  have hw := wrap_small (n := (i : Int) + 1) (by omega) (by omega)
  have hli := fun H => light_at e H
  have hap := fun H => apply_at s e hg (by omega) H
  have har := fun H => rapply_at s e (by omega) H
  have hgd := applyR_good e hg
  have hln := applyR_len s e
  generalize applyR s e = q at *
  obtain ⟨s2, n⟩ := q
  simp only at hap har hgd hln
  have hsm := fun H => same_st s2 (by omega) H
  -- behind the comparison
  have hnext : ∀ s3 : St, GoodT s3.tabs → s3.tabs.length ≤ (i + 1) * 128 → Run ⟨Try.prog, 4, Try.f4.ntmps, [], fun v H => v = .bool true ∧ H = []⟩ ⟨[.code (.loop c4l1), .endB 2, .endB 1, .code (.region c4r15), .inLoop c4l0, .endB 0, .code (.seq (.region c4r16) .ret)], tl [(0, .vs (l.map encE) 4), (1, .str lo), (2, .str hi), (7, .ptr 0 0), (8, .ptr 1 0), (9, .int .i64 i), (14, .int .i64 (-1))], [.row (encZ s3), .row (encZ s3)]⟩ := by
    intro s3 hg3 hl3
    refine Run.loopC [0, 1] (fun (k : Nat) => ([(0, .vs (l.map encE) 4), (1, .str lo), (2, .str hi), (7, .ptr 0 0), (8, .ptr 1 0), (9, .int .i64 i), (14, .int .i64 ((k : Int) - 1))], [.row (encZ s3), .row (encZ s3)])) (fun k => k ≤ 5) (fun k => 5 - k) 0 (by simp) (by rfl) (by decide) (by simp) (by simp) ?_
    intro k hk ih
    obtain ⟨v, hv⟩ : ∃ v, v = (k : Int) - 1 := ⟨_, rfl⟩
    rw [← hv]
    by_cases hk4 : k < 5
    · have hv4 : v < 4 := by omega
      have hwv : IntKind.i64.wrap (v + 1) = ((k + 1 : Nat) : Int) - 1 := by rw [wrap_small (by omega) (by omega)]; omega
      have ho1 := fun H => overZ_at s3 v lo hi (by omega) H
      have ho2 := fun H => roverZ_at s3 v lo hi (by omega) H
      have hso := fun H => same_ov (ovl s3.tabs v lo hi) (Nat.le_trans (ovl_len _ _ _ _) (by omega)) H
      generalize ovl s3.tabs v lo hi = o at *
      (repeat (first | refine Run.adm rfl ?_ | refine Run.seq ?_ | (apply Run.opS rfl; (· (simp -implicitDefEqProofs [hv4]; exact ⟨rfl, rfl⟩))) | (apply Run.condS; (· (simp -implicitDefEqProofs [hv4]; exact rfl)))))
      refine Run.quietM prog_mixed (by kernel_rfl) [0, 1] [(0, .vs (l.map encE) 4), (1, .str lo), (2, .str hi), (7, .ptr 0 0), (8, .ptr 1 0), (9, .int .i64 i), (14, .int .i64 v), (90, .bool false)] [.row (encZ s3), .row (encZ s3)] (by rfl) (by decide) ?_ ?_
      · (repeat (first | refine execQ_E rfl ?_ | (apply execQ_S rfl; (· (simp -implicitDefEqProofs; exact ⟨rfl, rfl⟩)))))
        refine execQ_C rfl rfl rfl (ho1 _) ?_
        (repeat (first | refine execQ_E rfl ?_ | (apply execQ_S rfl; (· (simp -implicitDefEqProofs; exact ⟨rfl, rfl⟩)))))
        refine execQ_C rfl rfl rfl (ho2 _) ?_
        (repeat (first | refine execQ_E rfl ?_ | (apply execQ_S rfl; (· (simp -implicitDefEqProofs; exact ⟨rfl, rfl⟩)))))
        refine execQ_C rfl rfl rfl (hso _) ?_
        (repeat (first | refine execQ_E rfl ?_ | (apply execQ_S rfl; (· (simp -implicitDefEqProofs; exact ⟨rfl, rfl⟩)))))
        simp
      (repeat (first | refine Run.adm rfl ?_ | refine Run.seq ?_ | (apply Run.opS rfl; (· (simp -implicitDefEqProofs; exact ⟨rfl, rfl⟩))) | (apply Run.condS; (· (simp -implicitDefEqProofs; exact rfl)))))
      refine Run.mv [0, 1] _ _ (by rfl) (by decide) ?_ ?_ (ih (k + 1) (by omega) (by omega))
      · simp [hwv]
      · simp
    · have hv4 : ¬ v < 4 := by omega
      clear ih
      (repeat (first | refine Run.adm rfl ?_ | refine Run.seq ?_ | (apply Run.opS rfl; (· (simp -implicitDefEqProofs [hv4]; exact ⟨rfl, rfl⟩))) | (apply Run.condS; (· (simp -implicitDefEqProofs [hv4]; exact rfl)))))
      refine Run.mv [0, 1] _ _ (by rfl) (by decide) ?_ ?_ (ihO (i + 1, s3) ⟨by simp only; omega, hg3, hl3⟩ (by simp only; omega))
      · simp [hw]
      · simp
  clear ihO
  (repeat (first | refine Run.adm rfl ?_ | refine Run.seq ?_ | (apply Run.opS rfl; (· (simp -implicitDefEqProofs [hlt, hlt', he, hei]; exact ⟨rfl, rfl⟩))) | (apply Run.condS; (· (simp -implicitDefEqProofs [hlt, hlt', he, hei]; exact rfl)))))
  refine Run.opC rfl rfl rfl (hli _) ?_
  rintro v h' ⟨rfl, rfl⟩
  cases hle : lightM e with
  | false =>
    (repeat (first | refine Run.adm rfl ?_ | refine Run.seq ?_ | (apply Run.opS rfl; (· (simp -implicitDefEqProofs [hle]; exact ⟨rfl, rfl⟩))) | (apply Run.condS; (· (simp -implicitDefEqProofs [hle]; exact rfl)))))
    refine Run.opC rfl rfl rfl (awake_at _) ?_
    rintro v h' ⟨rfl, rfl⟩
    (repeat (first | refine Run.adm rfl ?_ | refine Run.seq ?_ | (apply Run.opS rfl; (· (simp -implicitDefEqProofs; exact ⟨rfl, rfl⟩))) | (apply Run.condS; (· (simp -implicitDefEqProofs; exact rfl)))))
    exact hend trivial (by simp)
  | true =>
  (repeat (first | refine Run.adm rfl ?_ | refine Run.seq ?_ | (apply Run.opS rfl; (· (simp -implicitDefEqProofs [hle]; exact ⟨rfl, rfl⟩))) | (apply Run.condS; (· (simp -implicitDefEqProofs [hle]; exact rfl)))))
  refine Run.drawn prog_mixed ?_
  show RunD _ c4d0 [0, 1, 2, 3, 4, 5, 6, 7, 8, 9, 10, 11] [] _ _ _
  refine RunD.flow [0, 1, 2, 3, 4, 5, 6, 7, 8] (by kernel_rfl) (by decide +kernel) (by decide +kernel) (by decide) trivial ?_
  (repeat (first | refine execQ_E rfl ?_ | (apply execQ_S rfl; (· (simp -implicitDefEqProofs [hlt, hlt', he, hei]; exact ⟨rfl, rfl⟩)))))
  refine execQ_C rfl rfl rfl (hap _) ?_
  (repeat (first | refine execQ_E rfl ?_ | (apply execQ_S rfl; (· (simp -implicitDefEqProofs; exact ⟨rfl, rfl⟩)))))
  intro hpo
  refine RunD.alt1 9 (by kernel_rfl) (by kernel_rfl) hpo ?_
  (apply AStep.S rfl; (· (simp -implicitDefEqProofs; exact ⟨rfl, rfl⟩)))
  refine RunD.alt1 10 (by kernel_rfl) (by kernel_rfl) (by
    show PendOk _ c4d0 _ _ [8, 7, 6, 5, 4, 3, 2, 1, 0]
    (repeat (first | exact PendOk.nil | (refine PendOk.S rfl rfl ?_ ?_; (· (simp -implicitDefEqProofs; done)))))
    refine PendOk.call rfl rfl rfl rfl (hap _) ?_
    (repeat (first | exact PendOk.nil | (refine PendOk.S rfl rfl ?_ ?_; (· (simp -implicitDefEqProofs [hlt, hlt', he, hei]; done)))))) ?_
  (apply AStep.S rfl; (· (simp -implicitDefEqProofs [encZ]; exact ⟨rfl, rfl⟩)))
  refine RunD.alt1 11 (by kernel_rfl) (by kernel_rfl) (by
    show PendOk _ c4d0 _ _ [8]
    (repeat (first | exact PendOk.nil | (refine PendOk.S rfl rfl ?_ ?_; (· (simp -implicitDefEqProofs; done)))))) ?_
  (apply AStep.S rfl; (· (simp -implicitDefEqProofs; exact ⟨rfl, rfl⟩)))
  refine RunD.fin (by kernel_rfl) (by trivial) ?_
  refine Run.mv [0, 1, 2] [(0, .vs (l.map encE) 4), (1, .str lo), (2, .str hi), (7, .ptr 0 0), (8, .ptr 1 0), (9, .int .i64 i), (10, .ptr 2 0), (11, .int .i64 n)] [.row (encZ s), .row (encZ s), .row (encZ s2)] (by rfl) (by decide) (by simp -implicitDefEqProofs [encZ]) (by simp -implicitDefEqProofs [encZ]) ?_
  (repeat (first | refine Run.adm rfl ?_ | refine Run.seq ?_ | (apply Run.opS rfl; (· (simp -implicitDefEqProofs; exact ⟨rfl, rfl⟩))) | (apply Run.condS; (· (simp -implicitDefEqProofs; exact rfl)))))
  refine Run.drawn prog_mixed ?_
  show RunD _ c4d1 [0, 1, 2, 3, 4, 5, 6, 7, 8, 9, 10, 11] [] _ _ _
  refine RunD.flow [0, 1, 2, 3, 4, 5, 6, 7, 8] (by kernel_rfl) (by decide +kernel) (by decide +kernel) (by decide) trivial ?_
  (repeat (first | refine execQ_E rfl ?_ | (apply execQ_S rfl; (· (simp -implicitDefEqProofs [hlt, hlt', he, hei]; exact ⟨rfl, rfl⟩)))))
  refine execQ_C rfl rfl rfl (har _) ?_
  (repeat (first | refine execQ_E rfl ?_ | (apply execQ_S rfl; (· (simp -implicitDefEqProofs; exact ⟨rfl, rfl⟩)))))
  intro hpo
  refine RunD.alt1 9 (by kernel_rfl) (by kernel_rfl) hpo ?_
  (apply AStep.S rfl; (· (simp -implicitDefEqProofs; exact ⟨rfl, rfl⟩)))
  refine RunD.alt1 10 (by kernel_rfl) (by kernel_rfl) (by
    show PendOk _ c4d1 _ _ [8, 7, 6, 5, 4, 3, 2, 1, 0]
    (repeat (first | exact PendOk.nil | (refine PendOk.S rfl rfl ?_ ?_; (· (simp -implicitDefEqProofs; done)))))
    refine PendOk.call rfl rfl rfl rfl (har _) ?_
    (repeat (first | exact PendOk.nil | (refine PendOk.S rfl rfl ?_ ?_; (· (simp -implicitDefEqProofs [hlt, hlt', he, hei]; done)))))) ?_
  (apply AStep.S rfl; (· (simp -implicitDefEqProofs [encZ]; exact ⟨rfl, rfl⟩)))
  refine RunD.alt1 11 (by kernel_rfl) (by kernel_rfl) (by
    show PendOk _ c4d1 _ _ [8]
    (repeat (first | exact PendOk.nil | (refine PendOk.S rfl rfl ?_ ?_; (· (simp -implicitDefEqProofs; done)))))) ?_
  (apply AStep.S rfl; (· (simp -implicitDefEqProofs; exact ⟨rfl, rfl⟩)))
  refine RunD.fin (by kernel_rfl) (by trivial) ?_
  refine Run.mv [0, 1, 2, 3] [(0, .vs (l.map encE) 4), (1, .str lo), (2, .str hi), (7, .ptr 0 0), (8, .ptr 1 0), (9, .int .i64 i), (10, .ptr 2 0), (11, .int .i64 n), (12, .ptr 3 0), (13, .int .i64 n)] [.row (encZ s), .row (encZ s), .row (encZ s2), .row (encZ s2)] (by rfl) (by decide) (by simp -implicitDefEqProofs [encZ]) (by simp -implicitDefEqProofs [encZ]) ?_
  (repeat (first | refine Run.adm rfl ?_ | refine Run.seq ?_ | (apply Run.opS rfl; (· (simp -implicitDefEqProofs; exact ⟨rfl, rfl⟩))) | (apply Run.condS; (· (simp -implicitDefEqProofs; exact rfl)))))
  refine Run.opC rfl (by simp) rfl (hsm _) ?_
  rintro v h' ⟨rfl, rfl⟩
  by_cases hn : n = 0
  · (repeat (first | refine Run.adm rfl ?_ | refine Run.seq ?_ | (apply Run.opS rfl; (· (simp -implicitDefEqProofs [hn]; exact ⟨rfl, rfl⟩))) | (apply Run.condS; (· (simp -implicitDefEqProofs [hn]; exact rfl)))))
    refine Run.drawn prog_mixed ?_
    show RunD _ c4d2 [0, 1, 2, 3] [] _ _ _
    refine RunD.flow [0, 1] (by kernel_rfl) (by decide +kernel) (by decide +kernel) (by decide) trivial ?_; (repeat (first | refine execQ_E rfl ?_ | (apply execQ_S rfl; (· (simp -implicitDefEqProofs; exact ⟨rfl, rfl⟩))))); intro hpo
    refine RunD.alt1 2 (by kernel_rfl) (by kernel_rfl) hpo ?_
    (apply AStep.S rfl; (· (simp -implicitDefEqProofs [encZ]; exact ⟨rfl, rfl⟩)))
    refine RunD.alt1 3 (by kernel_rfl) (by kernel_rfl) (by
      show PendOk _ c4d2 _ _ [1]
      (repeat (first | exact PendOk.nil | (refine PendOk.S rfl rfl ?_ ?_; (· (simp -implicitDefEqProofs [encZ]; done)))))) ?_
    (apply AStep.S rfl; (· (simp -implicitDefEqProofs [encZ]; exact ⟨rfl, rfl⟩)))
    refine RunD.fin (by kernel_rfl) (by trivial) ?_
    (repeat (first | refine Run.adm rfl ?_ | refine Run.seq ?_ | (apply Run.opS rfl; (· (simp -implicitDefEqProofs; exact ⟨rfl, rfl⟩))) | (apply Run.condS; (· (simp -implicitDefEqProofs; exact rfl)))))
    refine Run.mv [0, 1] _ _ (by rfl) (by decide) ?_ ?_ (hnext s2 hgd (by omega))
    · simp
    · simp [encZ]
  · (repeat (first | refine Run.adm rfl ?_ | refine Run.seq ?_ | (apply Run.opS rfl; (· (simp -implicitDefEqProofs [hn]; exact ⟨rfl, rfl⟩))) | (apply Run.condS; (· (simp -implicitDefEqProofs [hn]; exact rfl)))))
    refine Run.mv [0, 1] _ _ (by rfl) (by decide) ?_ ?_ (hnext s hg (by omega))
    · simp
    · simp

end Go.Proofs.Ytpipgcmiaccdkaa
