/-
  Layer 05, part L: FsParts.
-/
import Derived.Test.YtoofeikddclclaaFsDec
namespace Go.Proofs.Ytoofeikddclclaa
open Sx Go
set_option maxRecDepth 100000
set_option linter.unusedSimpArgs false
set_option linter.unusedVariables false
set_option linter.unnecessarySimpa false
attribute [local simp] stepV condR boundsC appendG appendO copyV srcC guardB isCall opStep Opd.ev put readAt aBin aUn args0 V.celled V.ones V.one V.cells putAt bounds bound1 elemsOf srcOf appendV fillAt fillEl V.pures V.pure unwind evs ARes.ev mkRes V.ren V.renL O.ren eqCells eq1 aEq aMM hasTy hasTyN okTy mmGo Known HLe OLe VsLe.refl VLe.refl VLe.cap Stay VsLe V.frz V.frzL O.frz fr clearV rn KnownR Objs OLeO ObjsE nm back setAll ren_ite take_map_len List.take_of_length_le
attribute [local simp ↓] upd_app tl_cons tl_nil
attribute [local simp] encS_ren encS_ones encS_len encS_take KnownS VLe.refl

theorem may_p : mayN [112] = true := mayN_of _ (by decide) (by decide) (by decide)
theorem may_q : mayN [113] = true := mayN_of _ (by decide) (by decide) (by decide)

theorem parts_law (parts : List Bs) : Tri Try.prog 4 [.vs (parts.map encS) 1] [] (fun v H => v = .bool true ∧ H = []) := by
  refine Tri.of_run' Try.func4 rfl c4_ok (by simp [Try.ntmps4]) ?_
  have hfin : ∀ {k t h}, AtEnd k → t 2 = .bool true → Run ⟨Try.prog, 4, Try.f4.ntmps, [], fun v H => v = .bool true ∧ H = []⟩ ⟨k, t, h⟩ := by
    intro k t h hk h2
    refine Run.ret0 rfl Try.func4 r4_ok hk (by simp [r4]; rfl) ?_ (by simp [h2])
    exact ⟨by simp [h2], rfl⟩
  (repeat (first | refine Run.adm rfl ?_ | refine Run.seq ?_ | (apply Run.opS rfl; (· (simp -implicitDefEqProofs; exact ⟨rfl, rfl⟩))) | (apply Run.condS; (· (simp -implicitDefEqProofs; exact rfl)))))
  refine Run.opC rfl rfl rfl (new_own []) ?_
  rintro v Y ⟨d, rfl, h0⟩
  by_cases hlen : 20 < parts.length
  · have hlen' : (20 : Int) < parts.length := by omega
    (repeat (first | refine Run.adm rfl ?_ | refine Run.seq ?_ | (apply Run.opS rfl; (· (simp -implicitDefEqProofs [hlen, hlen']; exact ⟨rfl, rfl⟩))) | (apply Run.condS; (· (simp -implicitDefEqProofs [hlen, hlen']; exact rfl)))))
    refine Run.opC rfl (by simp) rfl (awake_at _) ?_
    rintro v H ⟨rfl, hH⟩
    (repeat (first | refine Run.adm rfl ?_ | refine Run.seq ?_ | (apply Run.opS rfl; (· (simp -implicitDefEqProofs; exact ⟨rfl, rfl⟩))) | (apply Run.condS; (· (simp -implicitDefEqProofs; exact rfl)))))
    exact hfin trivial (by simp)
  have hlen' : ¬ (20 : Int) < parts.length := by omega
  (repeat (first | refine Run.adm rfl ?_ | refine Run.seq ?_ | (apply Run.opS rfl; (· (simp -implicitDefEqProofs [hlen, hlen']; exact ⟨rfl, rfl⟩))) | (apply Run.condS; (· (simp -implicitDefEqProofs [hlen, hlen']; exact rfl)))))
  refine Run.opC rfl (by simp) rfl (make_own h0 [112]) ?_
  rintro v Y1 ⟨rfl, h1, -⟩
  have e1 : makeD ⟨[], -1, false⟩ [112] = (0, ⟨[⟨[112], [], 0⟩], -1, false⟩) := by simp [makeD, doI, Dk.did, may_p, fileOf]
  rw [e1] at h1 ⊢
  (repeat (first | refine Run.adm rfl ?_ | refine Run.seq ?_ | (apply Run.opS rfl; (· (simp -implicitDefEqProofs; exact ⟨rfl, rfl⟩))) | (apply Run.condS; (· (simp -implicitDefEqProofs; exact rfl)))))
  refine Run.opC rfl (by simp) rfl (make_own h1 [113]) ?_
  rintro v Y2 ⟨rfl, h2, -⟩
  have e2 : makeD ⟨[⟨[112], [], 0⟩], -1, false⟩ [113] = (0, ⟨[⟨[112], [], 0⟩, ⟨[113], [], 0⟩], -1, false⟩) := by simp [makeD, doI, Dk.did, may_q, fileOf]
  simp only at h2 ⊢
  rw [e2] at h2 ⊢
  (repeat (first | refine Run.adm rfl ?_ | refine Run.seq ?_ | (apply Run.opS rfl; (· (simp -implicitDefEqProofs; exact ⟨rfl, rfl⟩))) | (apply Run.condS; (· (simp -implicitDefEqProofs; exact rfl)))))
  refine Run.sl [(0, .vs (parts.map encS) 1), (3, .ptr d 0), (4, .str []), (5, .int .i64 (0 : Nat))] (by simp) ?_
  refine Run.loopS (fun (x : Nat × Bs × List O) => ([(0, .vs (parts.map encS) 1), (3, .ptr d 0), (4, .str x.2.1), (5, .int .i64 x.1)], x.2.2))
    (fun x => x.1 ≤ parts.length ∧ x.2.1.length ≤ 40 * x.1 ∧ Own [] [] d ⟨[⟨[112], x.2.1, 0⟩, ⟨[113], [], 0⟩], -1, false⟩ x.2.2) (fun x => parts.length - x.1) ?_ (0, [], Y2) ⟨Nat.zero_le _, by simp, h2⟩
  rintro ⟨i, all, Z⟩ ⟨hi, hall, hZ⟩ ih
  simp only at *
  by_cases hlt : i < parts.length
  · obtain ⟨x, hx, hxi, -, -⟩ := getL hlt
    have hlt' : (i : Int) < parts.length := by omega
    have hw := wrap_small (n := (i : Int) + 1) (by omega) (by omega)
    by_cases hbig : 40 < x.length
    · have hbig' : (40 : Int) < x.length := by omega
      (repeat (first | refine Run.adm rfl ?_ | refine Run.seq ?_ | (apply Run.opS rfl; (· (simp -implicitDefEqProofs [hlt, hlt', hx, hxi, encS, hbig, hbig']; exact ⟨rfl, rfl⟩))) | (apply Run.condS; (· (simp -implicitDefEqProofs [hlt, hlt', hx, hxi, encS, hbig, hbig']; exact rfl)))))
      refine Run.opC rfl rfl rfl (awake_at _) ?_
      rintro v H ⟨rfl, hH⟩
      (repeat (first | refine Run.adm rfl ?_ | refine Run.seq ?_ | (apply Run.opS rfl; (· (simp -implicitDefEqProofs; exact ⟨rfl, rfl⟩))) | (apply Run.condS; (· (simp -implicitDefEqProofs; exact rfl)))))
      exact hfin trivial (by simp)
    have hbig' : ¬ (40 : Int) < x.length := by omega
    (repeat (first | refine Run.adm rfl ?_ | refine Run.seq ?_ | (apply Run.opS rfl; (· (simp -implicitDefEqProofs [hlt, hlt', hx, hxi, encS, hbig, hbig']; exact ⟨rfl, rfl⟩))) | (apply Run.condS; (· (simp -implicitDefEqProofs [hlt, hlt', hx, hxi, encS, hbig, hbig']; exact rfl)))))
    refine Run.opC rfl (by simp) rfl (append_own hZ [112] x (by omega)) ?_
    rintro v Z1 ⟨rfl, hZ1, -⟩
    have e3 : appendD ⟨[⟨[112], all, 0⟩, ⟨[113], [], 0⟩], -1, false⟩ [112] x = (0, ⟨[⟨[112], all ++ x, 0⟩, ⟨[113], [], 0⟩], -1, false⟩) := by
      have : ¬ 4194304 - all.length < x.length := by omega
      simp [appendD, doI, Dk.did, may_p, fileOf, updF, this]
    rw [e3] at hZ1 ⊢
    have hsum : all.length + x.length ≤ 4611686018427387904 := by omega
    (repeat (first | refine Run.adm rfl ?_ | refine Run.seq ?_ | (apply Run.opS rfl; (· (simp -implicitDefEqProofs [hlt, hlt', hx, hxi, encS, hsum]; exact ⟨rfl, rfl⟩))) | (apply Run.condS; (· (simp -implicitDefEqProofs [hlt, hlt', hx, hxi, encS, hsum]; exact rfl)))))
    refine Run.sl _ ?_ (ih (i + 1, all ++ x, Z1) ⟨by simp only; omega, by simp only [List.length_append]; omega, hZ1⟩ (by simp only; omega))
    simp [hw]
  · have : i = parts.length := by omega
    subst this
    have e4 : appendD ⟨[⟨[112], all, 0⟩, ⟨[113], [], 0⟩], -1, false⟩ [113] all = (0, ⟨[⟨[112], all, 0⟩, ⟨[113], all, 0⟩], -1, false⟩) := by
      have : ¬ 4194304 < all.length := by omega
      simp [appendD, doI, Dk.did, may_q, fileOf, updF, this]
    (repeat (first | refine Run.adm rfl ?_ | refine Run.seq ?_ | (apply Run.opS rfl; (· (simp -implicitDefEqProofs; exact ⟨rfl, rfl⟩))) | (apply Run.condS; (· (simp -implicitDefEqProofs; exact rfl)))))
    refine Run.opC rfl (by simp) rfl (append_own hZ [113] all (by omega)) ?_
    rintro v Z1 ⟨rfl, hZ1, -⟩
    rw [e4] at hZ1 ⊢
    (repeat (first | refine Run.adm rfl ?_ | refine Run.seq ?_ | (apply Run.opS rfl; (· (simp -implicitDefEqProofs; exact ⟨rfl, rfl⟩))) | (apply Run.condS; (· (simp -implicitDefEqProofs; exact rfl)))))
    refine Run.opC rfl (by simp) rfl (sync_own hZ1 [112]) ?_
    rintro v Z2 ⟨rfl, hZ2, -⟩
    have e5 : syncD ⟨[⟨[112], all, 0⟩, ⟨[113], all, 0⟩], -1, false⟩ [112] = (0, ⟨[⟨[112], all, all.length⟩, ⟨[113], all, 0⟩], -1, false⟩) := by simp [syncD, doI, Dk.did, may_p, fileOf, updF]
    simp only at hZ2 ⊢
    rw [e5] at hZ2 ⊢
    (repeat (first | refine Run.adm rfl ?_ | refine Run.seq ?_ | (apply Run.opS rfl; (· (simp -implicitDefEqProofs; exact ⟨rfl, rfl⟩))) | (apply Run.condS; (· (simp -implicitDefEqProofs; exact rfl)))))
    refine Run.opC rfl (by simp) rfl (crash0_own hZ2 (by intro f hf; simp at hf; rcases hf with rfl | rfl <;> simp)) ?_
    rintro v Z3 ⟨rfl, hZ3, -⟩
    have e6 : ([⟨[112], all, all.length⟩, ⟨[113], all, 0⟩] : List FileM).map cut0 = [⟨[112], all, all.length⟩, ⟨[113], [], 0⟩] := by simp [cut0]
    simp only at hZ3
    rw [e6] at hZ3
    (repeat (first | refine Run.adm rfl ?_ | refine Run.seq ?_ | (apply Run.opS rfl; (· (simp -implicitDefEqProofs; exact ⟨rfl, rfl⟩))) | (apply Run.condS; (· (simp -implicitDefEqProofs; exact rfl)))))
    refine Run.opC rfl (by simp) rfl (read_own hZ3 [112]) ?_
    rintro v Z4 ⟨rfl, hZ4, -⟩
    have e7 : readD ⟨[⟨[112], all, all.length⟩, ⟨[113], [], 0⟩], -1, false⟩ [112] = (all, 0) := by simp [readD, lookE, may_p, fileOf]
    rw [e7]
    (repeat (first | refine Run.adm rfl ?_ | refine Run.seq ?_ | (apply Run.opS rfl; (· (simp -implicitDefEqProofs; exact ⟨rfl, rfl⟩))) | (apply Run.condS; (· (simp -implicitDefEqProofs; exact rfl)))))
    refine Run.opC rfl (by simp) rfl (read_own hZ4 [113]) ?_
    rintro v Z5 ⟨rfl, hZ5, -⟩
    have e8 : readD ⟨[⟨[112], all, all.length⟩, ⟨[113], [], 0⟩], -1, false⟩ [113] = ([], 0) := by simp [readD, lookE, may_q, fileOf]
    rw [e8]
    (repeat (first | refine Run.adm rfl ?_ | refine Run.seq ?_ | (apply Run.opS rfl; (· (simp -implicitDefEqProofs; exact ⟨rfl, rfl⟩))) | (apply Run.condS; (· (simp -implicitDefEqProofs; exact rfl)))))
    refine Run.opC rfl (by simp) rfl (sure_own hZ5 [112]) ?_
    rintro v Z6 ⟨rfl, hZ6, -⟩
    have e9 : sureD ⟨[⟨[112], all, all.length⟩, ⟨[113], [], 0⟩], -1, false⟩ [112] = ((all.length : Int), 0) := by simp [sureD, lookE, may_p, fileOf]
    rw [e9]
    (repeat (first | refine Run.adm rfl ?_ | refine Run.seq ?_ | (apply Run.opS rfl; (· (simp -implicitDefEqProofs; exact ⟨rfl, rfl⟩))) | (apply Run.condS; (· (simp -implicitDefEqProofs; exact rfl)))))
    refine Run.opC rfl (by simp) rfl (awake_at _) ?_
    rintro v H ⟨rfl, hH⟩
    (repeat (first | refine Run.adm rfl ?_ | refine Run.seq ?_ | (apply Run.opS rfl; (· (simp -implicitDefEqProofs; exact ⟨rfl, rfl⟩))) | (apply Run.condS; (· (simp -implicitDefEqProofs; exact rfl)))))
    exact hfin trivial (by simp)

end Go.Proofs.Ytoofeikddclclaa
