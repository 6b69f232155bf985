/-
  Layer 11, part F: the place of the first that is not above a number.
-/
import Derived.Test.YtphpkigfmmanhaaMrgE
namespace Go.Proofs.Ytphpkigfmmanhaa
open Sx Go
set_option maxRecDepth 100000
set_option linter.unusedSimpArgs false
set_option linter.unusedVariables false
set_option linter.unnecessarySimpa false
attribute [local simp] guardB isCall opStep Opd.ev put readAt aBin aUn args0 V.celled V.ones V.one V.cells putAt bounds bound1 elemsOf srcOf appendV fillAt fillEl V.pures V.pure unwind evs ARes.ev mkRes V.ren V.renL O.ren eqCells eq1 aEq aMM hasTy hasTyN okTy mmGo Known HLe OLe VsLe.refl VLe.refl Stay VsLe V.frz V.frzL O.frz fr clearV rn KnownR Objs OLeO ObjsE nm back setAll ren_ite take_map_len List.take_of_length_le
attribute [local simp ↓] upd_app tl_cons tl_nil
attribute [local simp] encE_ren encE_ones encE_len encE_take

theorem le_tri (e : En) (n : Int) : Tri Try.prog 46 [.agg (encE e), .ptr 0 0] [.row [.int .i64 n]] (fun v H => v = .bool (decide (e.seq ≤ n)) ∧ H = [.row [.int .i64 n]]) := by
  refine Tri.of_run' Try.func46 rfl c46_ok (by simp [Try.ntmps46]) ?_
  (repeat (first | refine Run.seq ?_ | refine Run.reg ?_ | refine Run.skip ?_ | refine Run.block ?_ | refine Run.endB ?_ | refine Run.opE rfl ?_ | (apply Run.op0 rfl; (· (simp -implicitDefEqProofs [encE]; exact ⟨rfl, rfl⟩))) | (apply Run.opA rfl; (· (simp -implicitDefEqProofs [encE]; done)); (· (simp -implicitDefEqProofs [encE]; exact ⟨rfl, rfl⟩))) | (apply Run.opN rfl; (· (simp -implicitDefEqProofs [encE]; done))) | (refine Run.condT ?_ ?_; (· (simp -implicitDefEqProofs [encE]; done))) | (refine Run.condF ?_ ?_; (· (simp -implicitDefEqProofs [encE]; done))) | refine Run.exit rfl ?_))
  refine Run.mv [0] [(3, .bool (decide (e.seq ≤ n)))] [.row [.int .i64 n]] (by rfl) (by decide) (by simp -implicitDefEqProofs) (by simp -implicitDefEqProofs) ?_
  refine Run.retI Try.func46 r46_ok trivial (by simp -implicitDefEqProofs [r46]; rfl) (by simp ) ?_ (by simp -implicitDefEqProofs ) (by simp -implicitDefEqProofs )
  simp

theorem idxE_le_tri (l : List En) (hll : l.length ≤ 1000000) (n : Int) : Tri Try.prog 44 [.vs (l.map encE) 4, .fn 46 [.ptr 0 0]] [.row [.int .i64 n]] (fun v H => v = .int .i64 (idxI (l.findIdx? (fun e => decide (e.seq ≤ n)))) ∧ H = [.row [.int .i64 n]]) := by
  refine Tri.of_run' Try.func44 rfl c44_ok (by simp [Try.ntmps44]) ?_
  (repeat (first | refine Run.seq ?_ | refine Run.reg ?_ | refine Run.skip ?_ | refine Run.block ?_ | refine Run.endB ?_ | refine Run.opE rfl ?_ | (apply Run.op0 rfl; (· (simp -implicitDefEqProofs; exact ⟨rfl, rfl⟩))) | (apply Run.opA rfl; (· (simp -implicitDefEqProofs; done)); (· (simp -implicitDefEqProofs; exact ⟨rfl, rfl⟩))) | (apply Run.opN rfl; (· (simp -implicitDefEqProofs; done))) | (refine Run.condT ?_ ?_; (· (simp -implicitDefEqProofs; done))) | (refine Run.condF ?_ ?_; (· (simp -implicitDefEqProofs; done))) | refine Run.exit rfl ?_))
  refine Run.loopC [0] (fun (i : Nat) => ([(0, .vs (l.map encE) 4), (1, .fn 46 [.ptr 0 0]), (7, .int .i64 l.length), (8, .int .i64 i)], [.row [.int .i64 n]])) (fun i => i ≤ l.length ∧ l.findIdx? (fun e => decide (e.seq ≤ n)) = ((l.drop i).findIdx? (fun e => decide (e.seq ≤ n))).map (· + i)) (fun i => l.length - i) 0 (by simp) (by rfl) (by decide) (by simp) (by simp) ?_
  rintro i ⟨hi, hgo⟩ ih
  by_cases hlt : i < l.length
  · obtain ⟨e, he, hei, hdrop, -⟩ := getL hlt
    have hw := wrap_small (n := (i : Int) + 1) (by omega) (by omega)
    rw [hdrop, List.findIdx?_cons] at hgo
    have hle := le_tri e n
    simp only [encE] at hle
    (repeat (first | refine Run.seq ?_ | refine Run.reg ?_ | refine Run.skip ?_ | refine Run.block ?_ | refine Run.endB ?_ | refine Run.opE rfl ?_ | (apply Run.op0 rfl; (· (simp -implicitDefEqProofs [hlt, he, hei, encE]; exact ⟨rfl, rfl⟩))) | (apply Run.opA rfl; (· (simp -implicitDefEqProofs [hlt, he, hei, encE]; done)); (· (simp -implicitDefEqProofs [hlt, he, hei, encE]; exact ⟨rfl, rfl⟩))) | (apply Run.opN rfl; (· (simp -implicitDefEqProofs [hlt, he, hei, encE]; done))) | (refine Run.condT ?_ ?_; (· (simp -implicitDefEqProofs [hlt, he, hei, encE]; done))) | (refine Run.condF ?_ ?_; (· (simp -implicitDefEqProofs [hlt, he, hei, encE]; done))) | refine Run.exit rfl ?_))
    refine Run.opC rfl rfl rfl hle ?_
    rintro v h' ⟨rfl, rfl⟩
    by_cases hc : e.seq ≤ n
    · (repeat (first | refine Run.seq ?_ | refine Run.reg ?_ | refine Run.skip ?_ | refine Run.block ?_ | refine Run.endB ?_ | refine Run.opE rfl ?_ | (apply Run.op0 rfl; (· (simp -implicitDefEqProofs [hc]; exact ⟨rfl, rfl⟩))) | (apply Run.opA rfl; (· (simp -implicitDefEqProofs [hc]; done)); (· (simp -implicitDefEqProofs [hc]; exact ⟨rfl, rfl⟩))) | (apply Run.opN rfl; (· (simp -implicitDefEqProofs [hc]; done))) | (refine Run.condT ?_ ?_; (· (simp -implicitDefEqProofs [hc]; done))) | (refine Run.condF ?_ ?_; (· (simp -implicitDefEqProofs [hc]; done))) | refine Run.exit rfl ?_))
      refine Run.mv [0] [(4, .int .i64 i)] [.row [.int .i64 n]] (by rfl) (by decide) (by simp -implicitDefEqProofs) (by simp -implicitDefEqProofs) ?_
      refine Run.retI Try.func44 r44_ok trivial (by simp -implicitDefEqProofs [r44]; rfl) (by simp ) ?_ (by simp -implicitDefEqProofs ) (by simp -implicitDefEqProofs )
      rw [hgo]; simp [idxI, hc]
    · (repeat (first | refine Run.seq ?_ | refine Run.reg ?_ | refine Run.skip ?_ | refine Run.block ?_ | refine Run.endB ?_ | refine Run.opE rfl ?_ | (apply Run.op0 rfl; (· (simp -implicitDefEqProofs [hc]; exact ⟨rfl, rfl⟩))) | (apply Run.opA rfl; (· (simp -implicitDefEqProofs [hc]; done)); (· (simp -implicitDefEqProofs [hc]; exact ⟨rfl, rfl⟩))) | (apply Run.opN rfl; (· (simp -implicitDefEqProofs [hc]; done))) | (refine Run.condT ?_ ?_; (· (simp -implicitDefEqProofs [hc]; done))) | (refine Run.condF ?_ ?_; (· (simp -implicitDefEqProofs [hc]; done))) | refine Run.exit rfl ?_))
      refine Run.mv [0] _ _ (by rfl) (by decide) (by simp -implicitDefEqProofs [hw]) (by simp -implicitDefEqProofs [hw]) (ih (i + 1) ?_ ?_)
      · refine ⟨by omega, ?_⟩
        rw [hgo]
        simp only [hc, decide_false, Bool.false_eq_true, if_false, Option.map_map]
        congr 1; funext x; simp; omega
      · omega
  · have : i = l.length := by omega
    subst this
    (repeat (first | refine Run.seq ?_ | refine Run.reg ?_ | refine Run.skip ?_ | refine Run.block ?_ | refine Run.endB ?_ | refine Run.opE rfl ?_ | (apply Run.op0 rfl; (· (simp -implicitDefEqProofs; exact ⟨rfl, rfl⟩))) | (apply Run.opA rfl; (· (simp -implicitDefEqProofs; done)); (· (simp -implicitDefEqProofs; exact ⟨rfl, rfl⟩))) | (apply Run.opN rfl; (· (simp -implicitDefEqProofs; done))) | (refine Run.condT ?_ ?_; (· (simp -implicitDefEqProofs; done))) | (refine Run.condF ?_ ?_; (· (simp -implicitDefEqProofs; done))) | refine Run.exit rfl ?_))
    refine Run.mv [0] [(4, .int .i64 (-1))] [.row [.int .i64 n]] (by rfl) (by decide) (by simp -implicitDefEqProofs) (by simp -implicitDefEqProofs) ?_
    refine Run.retI Try.func44 r44_ok trivial (by simp -implicitDefEqProofs [r44]; rfl) (by simp ) ?_ (by simp -implicitDefEqProofs ) (by simp -implicitDefEqProofs )
    rw [hgo, List.drop_length]; simp [idxI]

/-- what asOf answers -/
def asOfM (l : List En) (n : Int) : Int := idxI (l.findIdx? (fun e => decide (e.seq ≤ n)))

theorem asOf_tri (l : List En) (hll : l.length ≤ 1000000) (n : Int) : Tri Try.prog 34 [.vs (l.map encE) 4, .int .i64 n] [] (fun v H => v = .int .i64 (asOfM l n) ∧ H = []) := by
  refine Tri.of_run' Try.func34 rfl c34_ok (by simp [Try.ntmps34]) ?_
  (repeat (first | refine Run.seq ?_ | refine Run.reg ?_ | refine Run.skip ?_ | refine Run.block ?_ | refine Run.endB ?_ | refine Run.opE rfl ?_ | (apply Run.op0 rfl; (· (simp -implicitDefEqProofs; exact ⟨rfl, rfl⟩))) | (apply Run.opA rfl; (· (simp -implicitDefEqProofs; done)); (· (simp -implicitDefEqProofs; exact ⟨rfl, rfl⟩))) | (apply Run.opN rfl; (· (simp -implicitDefEqProofs; done))) | (refine Run.condT ?_ ?_; (· (simp -implicitDefEqProofs; done))) | (refine Run.condF ?_ ?_; (· (simp -implicitDefEqProofs; done))) | refine Run.exit rfl ?_))
  refine Run.opF [0] (idxE_le_tri l hll n) rfl (by simp -implicitDefEqProofs) rfl (by simp -implicitDefEqProofs) (by decide) (by rfl) (by simp -implicitDefEqProofs) ?_
  rintro v0 Hs' ⟨rfl, rfl⟩
  (repeat (first | refine Run.seq ?_ | refine Run.reg ?_ | refine Run.skip ?_ | refine Run.block ?_ | refine Run.endB ?_ | refine Run.opE rfl ?_ | (apply Run.op0 rfl; (· (simp -implicitDefEqProofs; exact ⟨rfl, rfl⟩))) | (apply Run.opA rfl; (· (simp -implicitDefEqProofs; done)); (· (simp -implicitDefEqProofs; exact ⟨rfl, rfl⟩))) | (apply Run.opN rfl; (· (simp -implicitDefEqProofs; done))) | (refine Run.condT ?_ ?_; (· (simp -implicitDefEqProofs; done))) | (refine Run.condF ?_ ?_; (· (simp -implicitDefEqProofs; done))) | refine Run.exit rfl ?_))
  refine Run.mv [] [(4, .int .i64 (asOfM l n))] [] (by rfl) (by decide) (by simp -implicitDefEqProofs [asOfM]) (by simp -implicitDefEqProofs [asOfM]) ?_
  refine Run.retI Try.func34 r34_ok trivial (by simp -implicitDefEqProofs [r34]; rfl) (by simp ) ?_ (by simp -implicitDefEqProofs ) (by simp -implicitDefEqProofs )
  simp
theorem asOf_at (l : List En) (hll : l.length ≤ 1000000) (n : Int) (H : List O) : Tri Try.prog 34 [.vs (l.map encE) 4, .int .i64 n] H (fun v H' => v = .int .i64 (asOfM l n) ∧ H' = H) := (asOf_tri l hll n).at rfl rfl H

/-- another key than the first one's -/
theorem other_tri (e : En) (x : En) (l : List En) : Tri Try.prog 45 [.agg (encE e), .ptr 0 0] [.row [.vs ((x :: l).map encE) 4]] (fun v H => v = .bool (decide (e.key ≠ x.key)) ∧ H = [.row [.vs ((x :: l).map encE) 4]]) := by
  refine Tri.of_run' Try.func45 rfl c45_ok (by simp [Try.ntmps45]) ?_
  (repeat (first | refine Run.seq ?_ | refine Run.reg ?_ | refine Run.skip ?_ | refine Run.block ?_ | refine Run.endB ?_ | refine Run.opE rfl ?_ | (apply Run.op0 rfl; (· (simp -implicitDefEqProofs [encE]; exact ⟨rfl, rfl⟩))) | (apply Run.opA rfl; (· (simp -implicitDefEqProofs [encE]; done)); (· (simp -implicitDefEqProofs [encE]; exact ⟨rfl, rfl⟩))) | (apply Run.opN rfl; (· (simp -implicitDefEqProofs [encE]; done))) | (refine Run.condT ?_ ?_; (· (simp -implicitDefEqProofs [encE]; done))) | (refine Run.condF ?_ ?_; (· (simp -implicitDefEqProofs [encE]; done))) | refine Run.exit rfl ?_))
  refine Run.qchain prog_mixed 7 (by kernel_rfl) ?_
  (repeat (first | refine execQ_E rfl ?_ | (apply execQ_0 rfl; (· rfl); (· (simp -implicitDefEqProofs [encE]; exact ⟨rfl, rfl⟩))) | (apply execQ_A rfl; (· (simp -implicitDefEqProofs [encE]; done)); (· rfl); (· (simp -implicitDefEqProofs [encE]; exact ⟨rfl, rfl⟩))) | (apply execQ_N rfl; (· (simp -implicitDefEqProofs [encE]; done)))))
  (repeat (first | refine SeqR.E rfl ?_ | (apply SeqR.o0 rfl; (· (simp -implicitDefEqProofs; exact ⟨rfl, rfl⟩))) | (apply SeqR.A rfl; (· (simp -implicitDefEqProofs; done)); (· (simp -implicitDefEqProofs; exact ⟨rfl, rfl⟩))) | (apply SeqR.N rfl; (· (simp -implicitDefEqProofs; done)))))
  refine Run.mv [0] [(3, .bool (decide (e.key ≠ x.key)))] [.row [.vs ((x :: l).map encE) 4]] (by rfl) (by decide) (by simp -implicitDefEqProofs [encE]) (by simp -implicitDefEqProofs [encE]) ?_
  refine Run.retI Try.func45 r45_ok trivial (by simp -implicitDefEqProofs [r45]; rfl) (by simp ) ?_ (by simp -implicitDefEqProofs ) (by simp -implicitDefEqProofs )
  simp

end Go.Proofs.Ytphpkigfmmanhaa
