/-
  Which entries may be, and may be a block's: both.
-/
import Derived.Test.YtphpkigfmmanhaaBlkA
namespace Go.Proofs.Ytphpkigfmmanhaa
open Sx Go
set_option maxRecDepth 100000
set_option linter.unusedSimpArgs false
set_option linter.unusedVariables false
set_option linter.unnecessarySimpa false
attribute [local simp] guardB isCall opStep Opd.ev put readAt aBin aUn args0 V.celled V.ones V.one V.cells putAt bounds bound1 elemsOf srcOf appendV fillAt fillEl V.pures V.pure unwind evs ARes.ev mkRes V.ren V.renL O.ren eqCells eq1 aEq aMM hasTy hasTyN okTy mmGo Known HLe OLe VsLe.refl VLe.refl Stay VsLe V.frz V.frzL O.frz fr clearV rn KnownR Objs OLeO ObjsE nm back setAll ren_ite take_map_len List.take_of_length_le
attribute [local simp ↓] upd_app tl_cons tl_nil
attribute [local simp] encE_ren encE_ones encE_len encE_take

theorem mayE_tri (e : En) : Tri Try.prog 49 [.agg (encE e)] [] (fun v H => v = .bool (mayE e) ∧ H = []) := by
  refine Tri.of_run' Try.func49 rfl c49_ok (by simp [Try.ntmps49]) ?_
  (repeat (first | refine Run.seq ?_ | refine Run.reg ?_ | refine Run.skip ?_ | refine Run.block ?_ | refine Run.endB ?_ | refine Run.opE rfl ?_ | (apply Run.op0 rfl; (· (simp -implicitDefEqProofs [encE]; exact ⟨rfl, rfl⟩))) | (apply Run.opA rfl; (· (simp -implicitDefEqProofs [encE]; done)); (· (simp -implicitDefEqProofs [encE]; exact ⟨rfl, rfl⟩))) | (apply Run.opN rfl; (· (simp -implicitDefEqProofs [encE]; done))) | (refine Run.condT ?_ ?_; (· (simp -implicitDefEqProofs [encE]; done))) | (refine Run.condF ?_ ?_; (· (simp -implicitDefEqProofs [encE]; done))) | refine Run.exit rfl ?_))
  refine Run.opC rfl rfl rfl (skey_at e.key _) ?_
  rintro v h' ⟨rfl, rfl⟩
  have hfin : ∀ {k t h}, AtEnd k → t 2 = .bool (mayE e) → Run ⟨Try.prog, 49, Try.f49.ntmps, [], fun v H => v = .bool (mayE e) ∧ H = []⟩ ⟨k, t, h⟩ := by
    intro k t h hk h2
    refine Run.mv [] [(2, .bool (mayE e))] [] (by rfl) (by decide) (by simp [h2]) (by simp) ?_
    exact Run.retI Try.func49 r49_ok hk (by simp [r49]; rfl) (by simp) (by simp) (by simp) (by simp)
  cases hk : keyB e.key with
  | false => (repeat (first | refine Run.seq ?_ | refine Run.reg ?_ | refine Run.skip ?_ | refine Run.block ?_ | refine Run.endB ?_ | refine Run.opE rfl ?_ | (apply Run.op0 rfl; (· (simp -implicitDefEqProofs [hk]; exact ⟨rfl, rfl⟩))) | (apply Run.opA rfl; (· (simp -implicitDefEqProofs [hk]; done)); (· (simp -implicitDefEqProofs [hk]; exact ⟨rfl, rfl⟩))) | (apply Run.opN rfl; (· (simp -implicitDefEqProofs [hk]; done))) | (refine Run.condT ?_ ?_; (· (simp -implicitDefEqProofs [hk]; done))) | (refine Run.condF ?_ ?_; (· (simp -implicitDefEqProofs [hk]; done))) | refine Run.exit rfl ?_)); exact hfin trivial (by simp [mayE, hk])
  | true =>
  by_cases hv : e.val.length ≤ 256
  · have hv' : (e.val.length : Int) ≤ 256 := by omega
    cases hg : e.gone with
    | true =>
      by_cases hn : e.val = []
      · by_cases h1 : 1 ≤ e.seq
        · by_cases h2 : e.seq ≤ 1099511627775
          · (repeat (first | refine Run.seq ?_ | refine Run.reg ?_ | refine Run.skip ?_ | refine Run.block ?_ | refine Run.endB ?_ | refine Run.opE rfl ?_ | (apply Run.op0 rfl; (· (simp -implicitDefEqProofs [hk, hv', hv, hg, hn, h1, h2]; exact ⟨rfl, rfl⟩))) | (apply Run.opA rfl; (· (simp -implicitDefEqProofs [hk, hv', hv, hg, hn, h1, h2]; done)); (· (simp -implicitDefEqProofs [hk, hv', hv, hg, hn, h1, h2]; exact ⟨rfl, rfl⟩))) | (apply Run.opN rfl; (· (simp -implicitDefEqProofs [hk, hv', hv, hg, hn, h1, h2]; done))) | (refine Run.condT ?_ ?_; (· (simp -implicitDefEqProofs [hk, hv', hv, hg, hn, h1, h2]; done))) | (refine Run.condF ?_ ?_; (· (simp -implicitDefEqProofs [hk, hv', hv, hg, hn, h1, h2]; done))) | refine Run.exit rfl ?_)); exact hfin trivial (by simp [mayE, hk, hv, hg, hn, h1, h2])
          · (repeat (first | refine Run.seq ?_ | refine Run.reg ?_ | refine Run.skip ?_ | refine Run.block ?_ | refine Run.endB ?_ | refine Run.opE rfl ?_ | (apply Run.op0 rfl; (· (simp -implicitDefEqProofs [hk, hv', hv, hg, hn, h1, h2]; exact ⟨rfl, rfl⟩))) | (apply Run.opA rfl; (· (simp -implicitDefEqProofs [hk, hv', hv, hg, hn, h1, h2]; done)); (· (simp -implicitDefEqProofs [hk, hv', hv, hg, hn, h1, h2]; exact ⟨rfl, rfl⟩))) | (apply Run.opN rfl; (· (simp -implicitDefEqProofs [hk, hv', hv, hg, hn, h1, h2]; done))) | (refine Run.condT ?_ ?_; (· (simp -implicitDefEqProofs [hk, hv', hv, hg, hn, h1, h2]; done))) | (refine Run.condF ?_ ?_; (· (simp -implicitDefEqProofs [hk, hv', hv, hg, hn, h1, h2]; done))) | refine Run.exit rfl ?_)); exact hfin trivial (by simp [mayE, hk, hv, hg, hn, h1, h2])
        · (repeat (first | refine Run.seq ?_ | refine Run.reg ?_ | refine Run.skip ?_ | refine Run.block ?_ | refine Run.endB ?_ | refine Run.opE rfl ?_ | (apply Run.op0 rfl; (· (simp -implicitDefEqProofs [hk, hv', hv, hg, hn, h1]; exact ⟨rfl, rfl⟩))) | (apply Run.opA rfl; (· (simp -implicitDefEqProofs [hk, hv', hv, hg, hn, h1]; done)); (· (simp -implicitDefEqProofs [hk, hv', hv, hg, hn, h1]; exact ⟨rfl, rfl⟩))) | (apply Run.opN rfl; (· (simp -implicitDefEqProofs [hk, hv', hv, hg, hn, h1]; done))) | (refine Run.condT ?_ ?_; (· (simp -implicitDefEqProofs [hk, hv', hv, hg, hn, h1]; done))) | (refine Run.condF ?_ ?_; (· (simp -implicitDefEqProofs [hk, hv', hv, hg, hn, h1]; done))) | refine Run.exit rfl ?_)); exact hfin trivial (by simp [mayE, hk, hv, hg, hn, h1])
      · (repeat (first | refine Run.seq ?_ | refine Run.reg ?_ | refine Run.skip ?_ | refine Run.block ?_ | refine Run.endB ?_ | refine Run.opE rfl ?_ | (apply Run.op0 rfl; (· (simp -implicitDefEqProofs [hk, hv', hv, hg, hn]; exact ⟨rfl, rfl⟩))) | (apply Run.opA rfl; (· (simp -implicitDefEqProofs [hk, hv', hv, hg, hn]; done)); (· (simp -implicitDefEqProofs [hk, hv', hv, hg, hn]; exact ⟨rfl, rfl⟩))) | (apply Run.opN rfl; (· (simp -implicitDefEqProofs [hk, hv', hv, hg, hn]; done))) | (refine Run.condT ?_ ?_; (· (simp -implicitDefEqProofs [hk, hv', hv, hg, hn]; done))) | (refine Run.condF ?_ ?_; (· (simp -implicitDefEqProofs [hk, hv', hv, hg, hn]; done))) | refine Run.exit rfl ?_)); exact hfin trivial (by simp [mayE, hk, hv, hg, hn])
    | false =>
      by_cases h1 : 1 ≤ e.seq
      · by_cases h2 : e.seq ≤ 1099511627775
        · (repeat (first | refine Run.seq ?_ | refine Run.reg ?_ | refine Run.skip ?_ | refine Run.block ?_ | refine Run.endB ?_ | refine Run.opE rfl ?_ | (apply Run.op0 rfl; (· (simp -implicitDefEqProofs [hk, hv', hv, hg, h1, h2]; exact ⟨rfl, rfl⟩))) | (apply Run.opA rfl; (· (simp -implicitDefEqProofs [hk, hv', hv, hg, h1, h2]; done)); (· (simp -implicitDefEqProofs [hk, hv', hv, hg, h1, h2]; exact ⟨rfl, rfl⟩))) | (apply Run.opN rfl; (· (simp -implicitDefEqProofs [hk, hv', hv, hg, h1, h2]; done))) | (refine Run.condT ?_ ?_; (· (simp -implicitDefEqProofs [hk, hv', hv, hg, h1, h2]; done))) | (refine Run.condF ?_ ?_; (· (simp -implicitDefEqProofs [hk, hv', hv, hg, h1, h2]; done))) | refine Run.exit rfl ?_)); exact hfin trivial (by simp [mayE, hk, hv, hg, h1, h2])
        · (repeat (first | refine Run.seq ?_ | refine Run.reg ?_ | refine Run.skip ?_ | refine Run.block ?_ | refine Run.endB ?_ | refine Run.opE rfl ?_ | (apply Run.op0 rfl; (· (simp -implicitDefEqProofs [hk, hv', hv, hg, h1, h2]; exact ⟨rfl, rfl⟩))) | (apply Run.opA rfl; (· (simp -implicitDefEqProofs [hk, hv', hv, hg, h1, h2]; done)); (· (simp -implicitDefEqProofs [hk, hv', hv, hg, h1, h2]; exact ⟨rfl, rfl⟩))) | (apply Run.opN rfl; (· (simp -implicitDefEqProofs [hk, hv', hv, hg, h1, h2]; done))) | (refine Run.condT ?_ ?_; (· (simp -implicitDefEqProofs [hk, hv', hv, hg, h1, h2]; done))) | (refine Run.condF ?_ ?_; (· (simp -implicitDefEqProofs [hk, hv', hv, hg, h1, h2]; done))) | refine Run.exit rfl ?_)); exact hfin trivial (by simp [mayE, hk, hv, hg, h1, h2])
      · (repeat (first | refine Run.seq ?_ | refine Run.reg ?_ | refine Run.skip ?_ | refine Run.block ?_ | refine Run.endB ?_ | refine Run.opE rfl ?_ | (apply Run.op0 rfl; (· (simp -implicitDefEqProofs [hk, hv', hv, hg, h1]; exact ⟨rfl, rfl⟩))) | (apply Run.opA rfl; (· (simp -implicitDefEqProofs [hk, hv', hv, hg, h1]; done)); (· (simp -implicitDefEqProofs [hk, hv', hv, hg, h1]; exact ⟨rfl, rfl⟩))) | (apply Run.opN rfl; (· (simp -implicitDefEqProofs [hk, hv', hv, hg, h1]; done))) | (refine Run.condT ?_ ?_; (· (simp -implicitDefEqProofs [hk, hv', hv, hg, h1]; done))) | (refine Run.condF ?_ ?_; (· (simp -implicitDefEqProofs [hk, hv', hv, hg, h1]; done))) | refine Run.exit rfl ?_)); exact hfin trivial (by simp [mayE, hk, hv, hg, h1])
  · have hv' : ¬ (e.val.length : Int) ≤ 256 := by omega
    (repeat (first | refine Run.seq ?_ | refine Run.reg ?_ | refine Run.skip ?_ | refine Run.block ?_ | refine Run.endB ?_ | refine Run.opE rfl ?_ | (apply Run.op0 rfl; (· (simp -implicitDefEqProofs [hk, hv', hv]; exact ⟨rfl, rfl⟩))) | (apply Run.opA rfl; (· (simp -implicitDefEqProofs [hk, hv', hv]; done)); (· (simp -implicitDefEqProofs [hk, hv', hv]; exact ⟨rfl, rfl⟩))) | (apply Run.opN rfl; (· (simp -implicitDefEqProofs [hk, hv', hv]; done))) | (refine Run.condT ?_ ?_; (· (simp -implicitDefEqProofs [hk, hv', hv]; done))) | (refine Run.condF ?_ ?_; (· (simp -implicitDefEqProofs [hk, hv', hv]; done))) | refine Run.exit rfl ?_)); exact hfin trivial (by simp [mayE, hk, hv])

theorem rmayE_tri (e : En) : Tri Try.prog 39 [.agg (encE e)] [] (fun v H => v = .bool (mayE e) ∧ H = []) := by
  refine Tri.of_run' Try.func39 rfl c39_ok (by simp [Try.ntmps39]) ?_
  (repeat (first | refine Run.seq ?_ | refine Run.reg ?_ | refine Run.skip ?_ | refine Run.block ?_ | refine Run.endB ?_ | refine Run.opE rfl ?_ | (apply Run.op0 rfl; (· (simp -implicitDefEqProofs [encE]; exact ⟨rfl, rfl⟩))) | (apply Run.opA rfl; (· (simp -implicitDefEqProofs [encE]; done)); (· (simp -implicitDefEqProofs [encE]; exact ⟨rfl, rfl⟩))) | (apply Run.opN rfl; (· (simp -implicitDefEqProofs [encE]; done))) | (refine Run.condT ?_ ?_; (· (simp -implicitDefEqProofs [encE]; done))) | (refine Run.condF ?_ ?_; (· (simp -implicitDefEqProofs [encE]; done))) | refine Run.exit rfl ?_))
  refine Run.opC rfl rfl rfl (xkey_at e.key _) ?_
  rintro v h' ⟨rfl, rfl⟩
  have hfin : ∀ {k t h}, AtEnd k → t 2 = .bool (mayE e) → Run ⟨Try.prog, 39, Try.f39.ntmps, [], fun v H => v = .bool (mayE e) ∧ H = []⟩ ⟨k, t, h⟩ := by
    intro k t h hk h2
    refine Run.mv [] [(2, .bool (mayE e))] [] (by rfl) (by decide) (by simp [h2]) (by simp) ?_
    exact Run.retI Try.func39 r39_ok hk (by simp [r39]; rfl) (by simp) (by simp) (by simp) (by simp)
  cases hk : keyB e.key with
  | false => (repeat (first | refine Run.seq ?_ | refine Run.reg ?_ | refine Run.skip ?_ | refine Run.block ?_ | refine Run.endB ?_ | refine Run.opE rfl ?_ | (apply Run.op0 rfl; (· (simp -implicitDefEqProofs [hk]; exact ⟨rfl, rfl⟩))) | (apply Run.opA rfl; (· (simp -implicitDefEqProofs [hk]; done)); (· (simp -implicitDefEqProofs [hk]; exact ⟨rfl, rfl⟩))) | (apply Run.opN rfl; (· (simp -implicitDefEqProofs [hk]; done))) | (refine Run.condT ?_ ?_; (· (simp -implicitDefEqProofs [hk]; done))) | (refine Run.condF ?_ ?_; (· (simp -implicitDefEqProofs [hk]; done))) | refine Run.exit rfl ?_)); exact hfin trivial (by simp [mayE, hk])
  | true =>
  by_cases hv : e.val.length ≤ 256
  · have hv' : (e.val.length : Int) ≤ 256 := by omega
    cases hg : e.gone with
    | true =>
      by_cases hn : e.val = []
      · by_cases h1 : 1 ≤ e.seq
        · by_cases h2 : e.seq ≤ 1099511627775
          · (repeat (first | refine Run.seq ?_ | refine Run.reg ?_ | refine Run.skip ?_ | refine Run.block ?_ | refine Run.endB ?_ | refine Run.opE rfl ?_ | (apply Run.op0 rfl; (· (simp -implicitDefEqProofs [hk, hv', hv, hg, hn, h1, h2]; exact ⟨rfl, rfl⟩))) | (apply Run.opA rfl; (· (simp -implicitDefEqProofs [hk, hv', hv, hg, hn, h1, h2]; done)); (· (simp -implicitDefEqProofs [hk, hv', hv, hg, hn, h1, h2]; exact ⟨rfl, rfl⟩))) | (apply Run.opN rfl; (· (simp -implicitDefEqProofs [hk, hv', hv, hg, hn, h1, h2]; done))) | (refine Run.condT ?_ ?_; (· (simp -implicitDefEqProofs [hk, hv', hv, hg, hn, h1, h2]; done))) | (refine Run.condF ?_ ?_; (· (simp -implicitDefEqProofs [hk, hv', hv, hg, hn, h1, h2]; done))) | refine Run.exit rfl ?_)); exact hfin trivial (by simp [mayE, hk, hv, hg, hn, h1, h2])
          · (repeat (first | refine Run.seq ?_ | refine Run.reg ?_ | refine Run.skip ?_ | refine Run.block ?_ | refine Run.endB ?_ | refine Run.opE rfl ?_ | (apply Run.op0 rfl; (· (simp -implicitDefEqProofs [hk, hv', hv, hg, hn, h1, h2]; exact ⟨rfl, rfl⟩))) | (apply Run.opA rfl; (· (simp -implicitDefEqProofs [hk, hv', hv, hg, hn, h1, h2]; done)); (· (simp -implicitDefEqProofs [hk, hv', hv, hg, hn, h1, h2]; exact ⟨rfl, rfl⟩))) | (apply Run.opN rfl; (· (simp -implicitDefEqProofs [hk, hv', hv, hg, hn, h1, h2]; done))) | (refine Run.condT ?_ ?_; (· (simp -implicitDefEqProofs [hk, hv', hv, hg, hn, h1, h2]; done))) | (refine Run.condF ?_ ?_; (· (simp -implicitDefEqProofs [hk, hv', hv, hg, hn, h1, h2]; done))) | refine Run.exit rfl ?_)); exact hfin trivial (by simp [mayE, hk, hv, hg, hn, h1, h2])
        · (repeat (first | refine Run.seq ?_ | refine Run.reg ?_ | refine Run.skip ?_ | refine Run.block ?_ | refine Run.endB ?_ | refine Run.opE rfl ?_ | (apply Run.op0 rfl; (· (simp -implicitDefEqProofs [hk, hv', hv, hg, hn, h1]; exact ⟨rfl, rfl⟩))) | (apply Run.opA rfl; (· (simp -implicitDefEqProofs [hk, hv', hv, hg, hn, h1]; done)); (· (simp -implicitDefEqProofs [hk, hv', hv, hg, hn, h1]; exact ⟨rfl, rfl⟩))) | (apply Run.opN rfl; (· (simp -implicitDefEqProofs [hk, hv', hv, hg, hn, h1]; done))) | (refine Run.condT ?_ ?_; (· (simp -implicitDefEqProofs [hk, hv', hv, hg, hn, h1]; done))) | (refine Run.condF ?_ ?_; (· (simp -implicitDefEqProofs [hk, hv', hv, hg, hn, h1]; done))) | refine Run.exit rfl ?_)); exact hfin trivial (by simp [mayE, hk, hv, hg, hn, h1])
      · (repeat (first | refine Run.seq ?_ | refine Run.reg ?_ | refine Run.skip ?_ | refine Run.block ?_ | refine Run.endB ?_ | refine Run.opE rfl ?_ | (apply Run.op0 rfl; (· (simp -implicitDefEqProofs [hk, hv', hv, hg, hn]; exact ⟨rfl, rfl⟩))) | (apply Run.opA rfl; (· (simp -implicitDefEqProofs [hk, hv', hv, hg, hn]; done)); (· (simp -implicitDefEqProofs [hk, hv', hv, hg, hn]; exact ⟨rfl, rfl⟩))) | (apply Run.opN rfl; (· (simp -implicitDefEqProofs [hk, hv', hv, hg, hn]; done))) | (refine Run.condT ?_ ?_; (· (simp -implicitDefEqProofs [hk, hv', hv, hg, hn]; done))) | (refine Run.condF ?_ ?_; (· (simp -implicitDefEqProofs [hk, hv', hv, hg, hn]; done))) | refine Run.exit rfl ?_)); exact hfin trivial (by simp [mayE, hk, hv, hg, hn])
    | false =>
      by_cases h1 : 1 ≤ e.seq
      · by_cases h2 : e.seq ≤ 1099511627775
        · (repeat (first | refine Run.seq ?_ | refine Run.reg ?_ | refine Run.skip ?_ | refine Run.block ?_ | refine Run.endB ?_ | refine Run.opE rfl ?_ | (apply Run.op0 rfl; (· (simp -implicitDefEqProofs [hk, hv', hv, hg, h1, h2]; exact ⟨rfl, rfl⟩))) | (apply Run.opA rfl; (· (simp -implicitDefEqProofs [hk, hv', hv, hg, h1, h2]; done)); (· (simp -implicitDefEqProofs [hk, hv', hv, hg, h1, h2]; exact ⟨rfl, rfl⟩))) | (apply Run.opN rfl; (· (simp -implicitDefEqProofs [hk, hv', hv, hg, h1, h2]; done))) | (refine Run.condT ?_ ?_; (· (simp -implicitDefEqProofs [hk, hv', hv, hg, h1, h2]; done))) | (refine Run.condF ?_ ?_; (· (simp -implicitDefEqProofs [hk, hv', hv, hg, h1, h2]; done))) | refine Run.exit rfl ?_)); exact hfin trivial (by simp [mayE, hk, hv, hg, h1, h2])
        · (repeat (first | refine Run.seq ?_ | refine Run.reg ?_ | refine Run.skip ?_ | refine Run.block ?_ | refine Run.endB ?_ | refine Run.opE rfl ?_ | (apply Run.op0 rfl; (· (simp -implicitDefEqProofs [hk, hv', hv, hg, h1, h2]; exact ⟨rfl, rfl⟩))) | (apply Run.opA rfl; (· (simp -implicitDefEqProofs [hk, hv', hv, hg, h1, h2]; done)); (· (simp -implicitDefEqProofs [hk, hv', hv, hg, h1, h2]; exact ⟨rfl, rfl⟩))) | (apply Run.opN rfl; (· (simp -implicitDefEqProofs [hk, hv', hv, hg, h1, h2]; done))) | (refine Run.condT ?_ ?_; (· (simp -implicitDefEqProofs [hk, hv', hv, hg, h1, h2]; done))) | (refine Run.condF ?_ ?_; (· (simp -implicitDefEqProofs [hk, hv', hv, hg, h1, h2]; done))) | refine Run.exit rfl ?_)); exact hfin trivial (by simp [mayE, hk, hv, hg, h1, h2])
      · (repeat (first | refine Run.seq ?_ | refine Run.reg ?_ | refine Run.skip ?_ | refine Run.block ?_ | refine Run.endB ?_ | refine Run.opE rfl ?_ | (apply Run.op0 rfl; (· (simp -implicitDefEqProofs [hk, hv', hv, hg, h1]; exact ⟨rfl, rfl⟩))) | (apply Run.opA rfl; (· (simp -implicitDefEqProofs [hk, hv', hv, hg, h1]; done)); (· (simp -implicitDefEqProofs [hk, hv', hv, hg, h1]; exact ⟨rfl, rfl⟩))) | (apply Run.opN rfl; (· (simp -implicitDefEqProofs [hk, hv', hv, hg, h1]; done))) | (refine Run.condT ?_ ?_; (· (simp -implicitDefEqProofs [hk, hv', hv, hg, h1]; done))) | (refine Run.condF ?_ ?_; (· (simp -implicitDefEqProofs [hk, hv', hv, hg, h1]; done))) | refine Run.exit rfl ?_)); exact hfin trivial (by simp [mayE, hk, hv, hg, h1])
  · have hv' : ¬ (e.val.length : Int) ≤ 256 := by omega
    (repeat (first | refine Run.seq ?_ | refine Run.reg ?_ | refine Run.skip ?_ | refine Run.block ?_ | refine Run.endB ?_ | refine Run.opE rfl ?_ | (apply Run.op0 rfl; (· (simp -implicitDefEqProofs [hk, hv', hv]; exact ⟨rfl, rfl⟩))) | (apply Run.opA rfl; (· (simp -implicitDefEqProofs [hk, hv', hv]; done)); (· (simp -implicitDefEqProofs [hk, hv', hv]; exact ⟨rfl, rfl⟩))) | (apply Run.opN rfl; (· (simp -implicitDefEqProofs [hk, hv', hv]; done))) | (refine Run.condT ?_ ?_; (· (simp -implicitDefEqProofs [hk, hv', hv]; done))) | (refine Run.condF ?_ ?_; (· (simp -implicitDefEqProofs [hk, hv', hv]; done))) | refine Run.exit rfl ?_)); exact hfin trivial (by simp [mayE, hk, hv])

theorem mayE_at (e : En) (H : List O) : Tri Try.prog 49 [.agg (encE e)] H (fun v H' => v = .bool (mayE e) ∧ H' = H) := (mayE_tri e).at rfl rfl H
theorem rmayE_at (e : En) (H : List O) : Tri Try.prog 39 [.agg (encE e)] H (fun v H' => v = .bool (mayE e) ∧ H' = H) := (rmayE_tri e).at rfl rfl H

/-- the entry ahead -/
def prevE (l : List En) (i : Nat) : Option En := if i = 0 then none else l[i - 1]?
def badE (l : List En) (i : Nat) (e : En) : Bool := !mayE e || (match prevE l i with | none => false | some q => !lessE q e)
theorem goE_step {l : List En} {i : Nat} {e : En} (he : l[i]? = some e) (hd : l.drop i = e :: l.drop (i + 1)) : goE (prevE l i) (l.drop i) = (!badE l i e && goE (prevE l (i + 1)) (l.drop (i + 1))) := by
  have h1 : prevE l (i + 1) = some e := by simp [prevE, he]
  rw [hd, h1]
  simp only [goE, badE]
  cases prevE l i <;> simp

theorem check_tri (l : List En) : Tri Try.prog 43 [.vs (l.map encE) 4] [] (fun v H => v = .int .i64 (errE (checkE l)) ∧ H = []) := by
  refine Tri.of_run' Try.func43 rfl c43_ok (by simp [Try.ntmps43]) ?_
  by_cases hl : l.length ≤ 4096
  rotate_left
  · have hl' : (4096 : Int) < l.length := by omega
    (repeat (first | refine Run.seq ?_ | refine Run.reg ?_ | refine Run.skip ?_ | refine Run.block ?_ | refine Run.endB ?_ | refine Run.opE rfl ?_ | (apply Run.op0 rfl; (· (simp -implicitDefEqProofs [hl']; exact ⟨rfl, rfl⟩))) | (apply Run.opA rfl; (· (simp -implicitDefEqProofs [hl']; done)); (· (simp -implicitDefEqProofs [hl']; exact ⟨rfl, rfl⟩))) | (apply Run.opN rfl; (· (simp -implicitDefEqProofs [hl']; done))) | (refine Run.condT ?_ ?_; (· (simp -implicitDefEqProofs [hl']; done))) | (refine Run.condF ?_ ?_; (· (simp -implicitDefEqProofs [hl']; done))) | refine Run.exit rfl ?_))
    refine Run.retI Try.func43 r43_ok trivial (by simp -implicitDefEqProofs [r43]; rfl) (by simp ) ?_ (by simp -implicitDefEqProofs ) (by simp -implicitDefEqProofs )
    simp [checkE, hl, errE]
  have hl' : ¬ (4096 : Int) < l.length := by omega
  (repeat (first | refine Run.seq ?_ | refine Run.reg ?_ | refine Run.skip ?_ | refine Run.block ?_ | refine Run.endB ?_ | refine Run.opE rfl ?_ | (apply Run.op0 rfl; (· (simp -implicitDefEqProofs [hl']; exact ⟨rfl, rfl⟩))) | (apply Run.opA rfl; (· (simp -implicitDefEqProofs [hl']; done)); (· (simp -implicitDefEqProofs [hl']; exact ⟨rfl, rfl⟩))) | (apply Run.opN rfl; (· (simp -implicitDefEqProofs [hl']; done))) | (refine Run.condT ?_ ?_; (· (simp -implicitDefEqProofs [hl']; done))) | (refine Run.condF ?_ ?_; (· (simp -implicitDefEqProofs [hl']; done))) | refine Run.exit rfl ?_))
  refine Run.loopC [] (fun (i : Nat) => ([(0, .vs (l.map encE) 4), (8, .vs (l.map encE) 4), (9, .int .i64 l.length), (10, .int .i64 i)], [])) (fun i => i ≤ l.length ∧ checkE l = goE (prevE l i) (l.drop i)) (fun i => l.length - i) 0 (by simp [checkE, prevE, hl]) (by rfl) (by decide) (by simp) (by simp) ?_
  rintro i ⟨hi, hgo⟩ ih
  by_cases hlt : i < l.length
  · obtain ⟨e, he, hei, hdrop, -⟩ := getL hlt
    have hw := wrap_small (n := (i : Int) + 1) (by omega) (by omega)
    rw [goE_step he hdrop] at hgo
    have hmt := mayE_at e
    simp only [encE] at hmt
    (repeat (first | refine Run.seq ?_ | refine Run.reg ?_ | refine Run.skip ?_ | refine Run.block ?_ | refine Run.endB ?_ | refine Run.opE rfl ?_ | (apply Run.op0 rfl; (· (simp -implicitDefEqProofs [hlt, he, hei, encE]; exact ⟨rfl, rfl⟩))) | (apply Run.opA rfl; (· (simp -implicitDefEqProofs [hlt, he, hei, encE]; done)); (· (simp -implicitDefEqProofs [hlt, he, hei, encE]; exact ⟨rfl, rfl⟩))) | (apply Run.opN rfl; (· (simp -implicitDefEqProofs [hlt, he, hei, encE]; done))) | (refine Run.condT ?_ ?_; (· (simp -implicitDefEqProofs [hlt, he, hei, encE]; done))) | (refine Run.condF ?_ ?_; (· (simp -implicitDefEqProofs [hlt, he, hei, encE]; done))) | refine Run.exit rfl ?_))
    refine Run.quietM prog_mixed (by kernel_rfl) [] [(0, .vs (l.map encE) 4), (8, .vs (l.map encE) 4), (9, .int .i64 l.length), (10, .int .i64 i), (31, .bool (badE l i e))] [] (by rfl) (by decide) ?_ ?_
    · (repeat (first | refine execQ_E rfl ?_ | (apply execQ_0 rfl; (· rfl); (· (simp -implicitDefEqProofs [encE]; exact ⟨rfl, rfl⟩))) | (apply execQ_A rfl; (· (simp -implicitDefEqProofs [encE]; done)); (· rfl); (· (simp -implicitDefEqProofs [encE]; exact ⟨rfl, rfl⟩))) | (apply execQ_N rfl; (· (simp -implicitDefEqProofs [encE]; done)))))
      refine execQ_C rfl rfl rfl (hmt _) ?_
      cases hm : mayE e with
      | false => (repeat (first | refine execQ_E rfl ?_ | (apply execQ_0 rfl; (· rfl); (· (simp -implicitDefEqProofs [hm]; exact ⟨rfl, rfl⟩))) | (apply execQ_A rfl; (· (simp -implicitDefEqProofs [hm]; done)); (· rfl); (· (simp -implicitDefEqProofs [hm]; exact ⟨rfl, rfl⟩))) | (apply execQ_N rfl; (· (simp -implicitDefEqProofs [hm]; done))))); simp [badE, hm]
      | true =>
        by_cases hi0 : i = 0
        · subst hi0
          (repeat (first | refine execQ_E rfl ?_ | (apply execQ_0 rfl; (· rfl); (· (simp -implicitDefEqProofs [hm]; exact ⟨rfl, rfl⟩))) | (apply execQ_A rfl; (· (simp -implicitDefEqProofs [hm]; done)); (· rfl); (· (simp -implicitDefEqProofs [hm]; exact ⟨rfl, rfl⟩))) | (apply execQ_N rfl; (· (simp -implicitDefEqProofs [hm]; done)))))
          simp [badE, hm, prevE]
        · have hi0' : (0 : Int) < i := by omega
          have hi0n : 0 < i := by omega
          obtain ⟨q, hq, hqi, -, -⟩ := getL (l := l) (i := i - 1) (by omega)
          have hw1 : IntKind.i64.wrap ((i : Int) - 1) = ((i - 1 : Nat) : Int) := by rw [wrap_small (by omega) (by omega)]; omega
          have hlt1 : i - 1 < l.length := by omega
          have hlt := less_at q e
          simp only [encE] at hlt
          (repeat (first | refine execQ_E rfl ?_ | (apply execQ_0 rfl; (· rfl); (· (simp -implicitDefEqProofs [hm, hi0', hi0n, hw1, hlt1, hq, hqi, encE]; exact ⟨rfl, rfl⟩))) | (apply execQ_A rfl; (· (simp -implicitDefEqProofs [hm, hi0', hi0n, hw1, hlt1, hq, hqi, encE]; done)); (· rfl); (· (simp -implicitDefEqProofs [hm, hi0', hi0n, hw1, hlt1, hq, hqi, encE]; exact ⟨rfl, rfl⟩))) | (apply execQ_N rfl; (· (simp -implicitDefEqProofs [hm, hi0', hi0n, hw1, hlt1, hq, hqi, encE]; done)))))
          refine execQ_C rfl (by simp [hi0n]) rfl (hlt _) ?_
          (repeat (first | refine execQ_E rfl ?_ | (apply execQ_0 rfl; (· rfl); (· (simp -implicitDefEqProofs [hi0n]; exact ⟨rfl, rfl⟩))) | (apply execQ_A rfl; (· (simp -implicitDefEqProofs [hi0n]; done)); (· rfl); (· (simp -implicitDefEqProofs [hi0n]; exact ⟨rfl, rfl⟩))) | (apply execQ_N rfl; (· (simp -implicitDefEqProofs [hi0n]; done)))))
          simp [badE, hm, prevE, hi0, hq]
    cases hb : badE l i e with
    | true =>
      (repeat (first | refine Run.seq ?_ | refine Run.reg ?_ | refine Run.skip ?_ | refine Run.block ?_ | refine Run.endB ?_ | refine Run.opE rfl ?_ | (apply Run.op0 rfl; (· (simp -implicitDefEqProofs; exact ⟨rfl, rfl⟩))) | (apply Run.opA rfl; (· (simp -implicitDefEqProofs; done)); (· (simp -implicitDefEqProofs; exact ⟨rfl, rfl⟩))) | (apply Run.opN rfl; (· (simp -implicitDefEqProofs; done))) | (refine Run.condT ?_ ?_; (· (simp -implicitDefEqProofs; done))) | (refine Run.condF ?_ ?_; (· (simp -implicitDefEqProofs; done))) | refine Run.exit rfl ?_))
      refine Run.retI Try.func43 r43_ok trivial (by simp -implicitDefEqProofs [r43]; rfl) (by simp ) ?_ (by simp -implicitDefEqProofs ) (by simp -implicitDefEqProofs )
      simp [hgo, hb, errE]
    | false =>
      (repeat (first | refine Run.seq ?_ | refine Run.reg ?_ | refine Run.skip ?_ | refine Run.block ?_ | refine Run.endB ?_ | refine Run.opE rfl ?_ | (apply Run.op0 rfl; (· (simp -implicitDefEqProofs; exact ⟨rfl, rfl⟩))) | (apply Run.opA rfl; (· (simp -implicitDefEqProofs; done)); (· (simp -implicitDefEqProofs; exact ⟨rfl, rfl⟩))) | (apply Run.opN rfl; (· (simp -implicitDefEqProofs; done))) | (refine Run.condT ?_ ?_; (· (simp -implicitDefEqProofs; done))) | (refine Run.condF ?_ ?_; (· (simp -implicitDefEqProofs; done))) | refine Run.exit rfl ?_))
      refine Run.mv [] _ _ (by rfl) (by decide) (by simp -implicitDefEqProofs [hw]) (by simp -implicitDefEqProofs [hw]) (ih (i + 1) ?_ ?_)
      · exact ⟨by omega, by rw [hgo, hb]; simp⟩
      · omega
  · have : i = l.length := by omega
    subst this
    (repeat (first | refine Run.seq ?_ | refine Run.reg ?_ | refine Run.skip ?_ | refine Run.block ?_ | refine Run.endB ?_ | refine Run.opE rfl ?_ | (apply Run.op0 rfl; (· (simp -implicitDefEqProofs; exact ⟨rfl, rfl⟩))) | (apply Run.opA rfl; (· (simp -implicitDefEqProofs; done)); (· (simp -implicitDefEqProofs; exact ⟨rfl, rfl⟩))) | (apply Run.opN rfl; (· (simp -implicitDefEqProofs; done))) | (refine Run.condT ?_ ?_; (· (simp -implicitDefEqProofs; done))) | (refine Run.condF ?_ ?_; (· (simp -implicitDefEqProofs; done))) | refine Run.exit rfl ?_))
    refine Run.retI Try.func43 r43_ok trivial (by simp -implicitDefEqProofs [r43]; rfl) (by simp ) ?_ (by simp -implicitDefEqProofs ) (by simp -implicitDefEqProofs )
    simp [hgo, goE, errE]

end Go.Proofs.Ytphpkigfmmanhaa
