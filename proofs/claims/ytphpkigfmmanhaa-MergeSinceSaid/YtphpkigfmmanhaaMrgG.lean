/-
  Layer 11, part G: key by key: the runs of entries of one key; the place where another key begins.
-/
import Derived.Test.YtphpkigfmmanhaaMrgF
namespace Go.Proofs.Ytphpkigfmmanhaa
open Sx Go
set_option maxRecDepth 100000
set_option linter.unusedSimpArgs false
set_option linter.unusedVariables false
set_option linter.unnecessarySimpa false
attribute [local simp] guardB isCall opStep Opd.ev put readAt aBin aUn args0 V.celled V.ones V.one V.cells putAt bounds bound1 elemsOf srcOf appendV fillAt fillEl V.pures V.pure unwind evs ARes.ev mkRes V.ren V.renL O.ren eqCells eq1 aEq aMM hasTy hasTyN okTy mmGo Known HLe OLe VsLe.refl VLe.refl Stay VsLe V.frz V.frzL O.frz fr clearV rn KnownR Objs OLeO ObjsE nm back setAll ren_ite take_map_len List.take_of_length_le
attribute [local simp ↓] upd_app tl_cons tl_nil
attribute [local simp] encE_ren encE_ones encE_len encE_take

theorem idxE_other_tri (x : En) (r : List En) (hll : (x :: r).length ≤ 1000000) : Tri Try.prog 44 [.vs ((x :: r).map encE) 4, .fn 45 [.ptr 0 0]] [.row [.vs ((x :: r).map encE) 4]] (fun v H => v = .int .i64 (idxI ((x :: r).findIdx? (fun e => decide (e.key ≠ x.key)))) ∧ H = [.row [.vs ((x :: r).map encE) 4]]) := by
  have hcl := fun e => other_tri e x r
  generalize hl : x :: r = l at *
  refine Tri.of_run' Try.func44 rfl c44_ok (by simp [Try.ntmps44]) ?_
  (repeat (first | refine Run.seq ?_ | refine Run.reg ?_ | refine Run.skip ?_ | refine Run.block ?_ | refine Run.endB ?_ | refine Run.opE rfl ?_ | (apply Run.op0 rfl; (· (simp -implicitDefEqProofs; exact ⟨rfl, rfl⟩))) | (apply Run.opA rfl; (· (simp -implicitDefEqProofs; done)); (· (simp -implicitDefEqProofs; exact ⟨rfl, rfl⟩))) | (apply Run.opN rfl; (· (simp -implicitDefEqProofs; done))) | (refine Run.condT ?_ ?_; (· (simp -implicitDefEqProofs; done))) | (refine Run.condF ?_ ?_; (· (simp -implicitDefEqProofs; done))) | refine Run.exit rfl ?_))
  refine Run.loopC [0] (fun (i : Nat) => ([(0, .vs (l.map encE) 4), (1, .fn 45 [.ptr 0 0]), (7, .int .i64 l.length), (8, .int .i64 i)], [.row [.vs (l.map encE) 4]])) (fun i => i ≤ l.length ∧ l.findIdx? (fun e => decide (e.key ≠ x.key)) = ((l.drop i).findIdx? (fun e => decide (e.key ≠ x.key))).map (· + i)) (fun i => l.length - i) 0 (by simp) (by rfl) (by decide) (by simp) (by simp) ?_
  rintro i ⟨hi, hgo⟩ ih
  by_cases hlt : i < l.length
  · obtain ⟨e, he, hei, hdrop, -⟩ := getL hlt
    have hw := wrap_small (n := (i : Int) + 1) (by omega) (by omega)
    rw [hdrop, List.findIdx?_cons] at hgo
    have hle := hcl e
    rw [show encE e = [.str e.key, .str e.val, .bool e.gone, .int .i64 e.seq] from rfl] at hle
    have hee : encE e = [.str e.key, .str e.val, .bool e.gone, .int .i64 e.seq] := rfl
    (repeat (first | refine Run.seq ?_ | refine Run.reg ?_ | refine Run.skip ?_ | refine Run.block ?_ | refine Run.endB ?_ | refine Run.opE rfl ?_ | (apply Run.op0 rfl; (· (simp -implicitDefEqProofs [hlt, he, hei, hee]; exact ⟨rfl, rfl⟩))) | (apply Run.opA rfl; (· (simp -implicitDefEqProofs [hlt, he, hei, hee]; done)); (· (simp -implicitDefEqProofs [hlt, he, hei, hee]; exact ⟨rfl, rfl⟩))) | (apply Run.opN rfl; (· (simp -implicitDefEqProofs [hlt, he, hei, hee]; done))) | (refine Run.condT ?_ ?_; (· (simp -implicitDefEqProofs [hlt, he, hei, hee]; done))) | (refine Run.condF ?_ ?_; (· (simp -implicitDefEqProofs [hlt, he, hei, hee]; done))) | refine Run.exit rfl ?_))
    refine Run.opC rfl rfl rfl hle ?_
    rintro v h' ⟨rfl, rfl⟩
    by_cases hc : e.key = x.key
    · (repeat (first | refine Run.seq ?_ | refine Run.reg ?_ | refine Run.skip ?_ | refine Run.block ?_ | refine Run.endB ?_ | refine Run.opE rfl ?_ | (apply Run.op0 rfl; (· (simp -implicitDefEqProofs [hc]; exact ⟨rfl, rfl⟩))) | (apply Run.opA rfl; (· (simp -implicitDefEqProofs [hc]; done)); (· (simp -implicitDefEqProofs [hc]; exact ⟨rfl, rfl⟩))) | (apply Run.opN rfl; (· (simp -implicitDefEqProofs [hc]; done))) | (refine Run.condT ?_ ?_; (· (simp -implicitDefEqProofs [hc]; done))) | (refine Run.condF ?_ ?_; (· (simp -implicitDefEqProofs [hc]; done))) | refine Run.exit rfl ?_))
      refine Run.mv [0] _ _ (by rfl) (by decide) (by simp -implicitDefEqProofs [hw]) (by simp -implicitDefEqProofs [hw]) (ih (i + 1) ?_ ?_)
      · refine ⟨by omega, ?_⟩
        rw [hgo]
        simp only [hc, ne_eq, not_true_eq_false, decide_false, Bool.false_eq_true, if_false, Option.map_map]
        congr 1; funext y; simp; omega
      · omega
    · (repeat (first | refine Run.seq ?_ | refine Run.reg ?_ | refine Run.skip ?_ | refine Run.block ?_ | refine Run.endB ?_ | refine Run.opE rfl ?_ | (apply Run.op0 rfl; (· (simp -implicitDefEqProofs [hc]; exact ⟨rfl, rfl⟩))) | (apply Run.opA rfl; (· (simp -implicitDefEqProofs [hc]; done)); (· (simp -implicitDefEqProofs [hc]; exact ⟨rfl, rfl⟩))) | (apply Run.opN rfl; (· (simp -implicitDefEqProofs [hc]; done))) | (refine Run.condT ?_ ?_; (· (simp -implicitDefEqProofs [hc]; done))) | (refine Run.condF ?_ ?_; (· (simp -implicitDefEqProofs [hc]; done))) | refine Run.exit rfl ?_))
      refine Run.mv [0] [(4, .int .i64 i)] [.row [.vs (l.map encE) 4]] (by rfl) (by decide) (by simp -implicitDefEqProofs) (by simp -implicitDefEqProofs) ?_
      refine Run.retI Try.func44 r44_ok trivial (by simp -implicitDefEqProofs [r44]; rfl) (by simp ) ?_ (by simp -implicitDefEqProofs ) (by simp -implicitDefEqProofs )
      rw [hgo]; simp [idxI, hc]
  · have : i = l.length := by omega
    subst this
    (repeat (first | refine Run.seq ?_ | refine Run.reg ?_ | refine Run.skip ?_ | refine Run.block ?_ | refine Run.endB ?_ | refine Run.opE rfl ?_ | (apply Run.op0 rfl; (· (simp -implicitDefEqProofs; exact ⟨rfl, rfl⟩))) | (apply Run.opA rfl; (· (simp -implicitDefEqProofs; done)); (· (simp -implicitDefEqProofs; exact ⟨rfl, rfl⟩))) | (apply Run.opN rfl; (· (simp -implicitDefEqProofs; done))) | (refine Run.condT ?_ ?_; (· (simp -implicitDefEqProofs; done))) | (refine Run.condF ?_ ?_; (· (simp -implicitDefEqProofs; done))) | refine Run.exit rfl ?_))
    refine Run.mv [0] [(4, .int .i64 (-1))] [.row [.vs (l.map encE) 4]] (by rfl) (by decide) (by simp -implicitDefEqProofs) (by simp -implicitDefEqProofs) ?_
    refine Run.retI Try.func44 r44_ok trivial (by simp -implicitDefEqProofs [r44]; rfl) (by simp ) ?_ (by simp -implicitDefEqProofs ) (by simp -implicitDefEqProofs )
    rw [hgo, List.drop_length]; simp [idxI]

/-- how many of the first key there are -/
def runN (x : En) (r : List En) : Nat := 1 + (r.takeWhile (fun e => decide (e.key = x.key))).length
theorem idx_run (x : En) (r : List En) : (if idxI ((x :: r).findIdx? (fun e => decide (e.key ≠ x.key))) < 0 then ((x :: r).length : Int) else idxI ((x :: r).findIdx? (fun e => decide (e.key ≠ x.key)))) = (runN x r : Int) := by
  rw [List.findIdx?_cons]
  simp only [ne_eq, not_true_eq_false, decide_false, Bool.false_eq_true, if_false]
  have key : ∀ r : List En, (match r.findIdx? (fun e => decide ¬e.key = x.key) with | some i => i | none => r.length) = (r.takeWhile (fun e => decide (e.key = x.key))).length := by
    intro r
    induction r with
    | nil => rfl
    | cons y r ih =>
      rw [List.findIdx?_cons, List.takeWhile_cons]
      by_cases hk : y.key = x.key
      · simp only [hk, not_true_eq_false, decide_false, Bool.false_eq_true, if_false, decide_true, if_true, List.length_cons]
        rw [← ih]
        cases r.findIdx? (fun e => decide ¬e.key = x.key) <;> simp
      · simp [hk]
  have := key r
  unfold runN
  rw [← this]
  cases r.findIdx? (fun e => decide ¬e.key = x.key) with
  | none => simp [idxI]; omega
  | some i => simp [idxI]; omega

end Go.Proofs.Ytphpkigfmmanhaa
