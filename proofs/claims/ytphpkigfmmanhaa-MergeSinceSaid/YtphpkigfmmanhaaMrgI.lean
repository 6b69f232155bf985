/-
  Layer 11, part I: key by key, for Visible.
-/
import Derived.Test.YtphpkigfmmanhaaMrgH
namespace Go.Proofs.Ytphpkigfmmanhaa
open Sx Go
set_option maxRecDepth 100000
set_option linter.unusedSimpArgs false
set_option linter.unusedVariables false
set_option linter.unnecessarySimpa false
attribute [local simp] guardB isCall opStep Opd.ev put readAt aBin aUn args0 V.celled V.ones V.one V.cells putAt bounds bound1 elemsOf srcOf appendV fillAt fillEl V.pures V.pure unwind evs ARes.ev mkRes V.ren V.renL O.ren eqCells eq1 aEq aMM hasTy hasTyN okTy mmGo Known HLe OLe VsLe.refl VLe.refl Stay VsLe V.frz V.frzL O.frz fr clearV rn KnownR Objs OLeO ObjsE nm back setAll ren_ite take_map_len List.take_of_length_le
attribute [local simp ↓] upd_app tl_cons tl_nil
attribute [local simp] encE_ren encE_ones encE_len encE_take

/-- key by key -/
def grpGo {β : Type} (f : List En → List β) : List En → List β
  | [] => []
  | x :: r => f ((x :: r).take (runN x r)) ++ grpGo f ((x :: r).drop (runN x r))
termination_by l => l.length
decreasing_by simp only [List.length_drop, List.length_cons, runN]; omega
theorem runN_le (x : En) (r : List En) : runN x r ≤ (x :: r).length := by
  have := (List.takeWhile_prefix (p := fun e : En => decide (e.key = x.key)) (l := r)).length_le
  simp only [runN, List.length_cons]; omega
theorem runN_pos (x : En) (r : List En) : 1 ≤ runN x r := by unfold runN; omega
theorem visG_len (g : List En) (n : Int) : (visG g n).length ≤ 1 := by unfold visG; split; · split <;> simp
                                                                       · simp

def visM (l : List En) (n : Int) : List (Bs × Bs) := if checkE l = true then grpGo (visG · n) l else []

theorem byVis_tri (l : List En) (n : Int) : Tri Try.prog 32 [.vs (l.map encE) 4, .fn 33 [.ptr 0 0, .ptr 1 0]] [.row [.int .i64 n], .row [.nils]] (fun v H => v = .tup [] ∧ H = visH n (visM l n)) := by
  refine Tri.of_run' Try.func32 rfl c32_ok (by simp [Try.ntmps32]) ?_
  refine Run.nilC 1 0 2 0 rfl rfl ?_
  (repeat (first | refine Run.seq ?_ | refine Run.reg ?_ | refine Run.skip ?_ | refine Run.block ?_ | refine Run.endB ?_ | refine Run.opE rfl ?_ | (apply Run.op0 rfl; (· (simp -implicitDefEqProofs; exact ⟨rfl, rfl⟩))) | (apply Run.opA rfl; (· (simp -implicitDefEqProofs; done)); (· (simp -implicitDefEqProofs; exact ⟨rfl, rfl⟩))) | (apply Run.opN rfl; (· (simp -implicitDefEqProofs; done))) | (refine Run.condT ?_ ?_; (· (simp -implicitDefEqProofs; done))) | (refine Run.condF ?_ ?_; (· (simp -implicitDefEqProofs; done))) | refine Run.exit rfl ?_))
  refine Run.freeze 5 (es := [encL l]) (sz := 1) (by simp [encL]) ?_
  refine Run.opC rfl (by simp) rfl (by simpa using mayL_at [l] (by simp) _) ?_
  rintro v h' ⟨rfl, rfl⟩
  have hml : mayL [l] = checkE l := by simp [mayL]
  cases hc : checkE l with
  | false =>
    (repeat (first | refine Run.seq ?_ | refine Run.reg ?_ | refine Run.skip ?_ | refine Run.block ?_ | refine Run.endB ?_ | refine Run.opE rfl ?_ | (apply Run.op0 rfl; (· (simp -implicitDefEqProofs [hml, hc]; exact ⟨rfl, rfl⟩))) | (apply Run.opA rfl; (· (simp -implicitDefEqProofs [hml, hc]; done)); (· (simp -implicitDefEqProofs [hml, hc]; exact ⟨rfl, rfl⟩))) | (apply Run.opN rfl; (· (simp -implicitDefEqProofs [hml, hc]; done))) | (refine Run.condT ?_ ?_; (· (simp -implicitDefEqProofs [hml, hc]; done))) | (refine Run.condF ?_ ?_; (· (simp -implicitDefEqProofs [hml, hc]; done))) | refine Run.exit rfl ?_))
    refine Run.mv [0, 1, 2] [] [.row [.int .i64 n], .row [.sl 2 0 0 2 none], .arr [] 2] (by rfl) (by decide) (by simp -implicitDefEqProofs) (by simp -implicitDefEqProofs) ?_
    refine Run.retI Try.func32 r32_ok trivial (by simp -implicitDefEqProofs [r32]; rfl) (by simp ) ?_ (by simp -implicitDefEqProofs ) (by simp -implicitDefEqProofs )
    simp [visM, hc, visH]
  | true =>
  have hl := checkE_len hc
  (repeat (first | refine Run.seq ?_ | refine Run.reg ?_ | refine Run.skip ?_ | refine Run.block ?_ | refine Run.endB ?_ | refine Run.opE rfl ?_ | (apply Run.op0 rfl; (· (simp -implicitDefEqProofs [hml, hc]; exact ⟨rfl, rfl⟩))) | (apply Run.opA rfl; (· (simp -implicitDefEqProofs [hml, hc]; done)); (· (simp -implicitDefEqProofs [hml, hc]; exact ⟨rfl, rfl⟩))) | (apply Run.opN rfl; (· (simp -implicitDefEqProofs [hml, hc]; done))) | (refine Run.condT ?_ ?_; (· (simp -implicitDefEqProofs [hml, hc]; done))) | (refine Run.condF ?_ ?_; (· (simp -implicitDefEqProofs [hml, hc]; done))) | refine Run.exit rfl ?_))
  refine Run.loopC [0, 1, 4, 2] (fun (a : List En × List (Bs × Bs)) => ([(1, .fn 33 [.ptr 0 0, .ptr 1 0]), (2, .ptr 2 0)], [.row [.int .i64 n], .row [.sl 3 0 a.2.length 2 none], .row [.vs (a.1.map encE) 4], .arr (a.2.map encP) 2]))
    (fun a => a.2.length + a.1.length ≤ 4096 ∧ grpGo (visG · n) l = a.2 ++ grpGo (visG · n) a.1) (fun a => a.1.length) (l, []) (by simp [hl]) (by rfl) (by decide) (by simp) (by simp) ?_
  rintro ⟨rem, o⟩ ⟨hlen, hgo⟩ ih
  simp only at hlen hgo ih ⊢
  cases rem with
  | nil =>
    (repeat (first | refine Run.seq ?_ | refine Run.reg ?_ | refine Run.skip ?_ | refine Run.block ?_ | refine Run.endB ?_ | refine Run.opE rfl ?_ | (apply Run.op0 rfl; (· (simp -implicitDefEqProofs; exact ⟨rfl, rfl⟩))) | (apply Run.opA rfl; (· (simp -implicitDefEqProofs; done)); (· (simp -implicitDefEqProofs; exact ⟨rfl, rfl⟩))) | (apply Run.opN rfl; (· (simp -implicitDefEqProofs; done))) | (refine Run.condT ?_ ?_; (· (simp -implicitDefEqProofs; done))) | (refine Run.condF ?_ ?_; (· (simp -implicitDefEqProofs; done))) | refine Run.exit rfl ?_))
    refine Run.mv [0, 1, 3] [] [.row [.int .i64 n], .row [.sl 2 0 o.length 2 none], .arr (o.map encP) 2] (by rfl) (by decide) (by simp -implicitDefEqProofs) (by simp -implicitDefEqProofs) ?_
    refine Run.retI Try.func32 r32_ok trivial (by simp -implicitDefEqProofs [r32]; rfl) (by simp ) ?_ (by simp -implicitDefEqProofs ) (by simp -implicitDefEqProofs )
    simp [visM, hc, visH, hgo, grpGo]
  | cons x r =>
    have hxl : (x :: r).length ≤ 4096 := by omega
    have hpos : (0 : Int) < (x :: r).length := by simp only [List.length_cons]; omega
    have hrun := idx_run x r
    have hrl := runN_le x r
    have hrp := runN_pos x r
    have hidx := idxE_other_tri x r (by omega)
    rw [grpGo] at hgo
    have hne : ¬ (x :: r) = [] := by simp
    generalize hl' : x :: r = l' at *
    have hposn : 0 < l'.length := by omega
    (repeat (first | refine Run.seq ?_ | refine Run.reg ?_ | refine Run.skip ?_ | refine Run.block ?_ | refine Run.endB ?_ | refine Run.opE rfl ?_ | (apply Run.op0 rfl; (· (simp -implicitDefEqProofs [hposn, hne]; exact ⟨rfl, rfl⟩))) | (apply Run.opA rfl; (· (simp -implicitDefEqProofs [hposn, hne]; done)); (· (simp -implicitDefEqProofs [hposn, hne]; exact ⟨rfl, rfl⟩))) | (apply Run.opN rfl; (· (simp -implicitDefEqProofs [hposn, hne]; done))) | (refine Run.condT ?_ ?_; (· (simp -implicitDefEqProofs [hposn, hne]; done))) | (refine Run.condF ?_ ?_; (· (simp -implicitDefEqProofs [hposn, hne]; done))) | refine Run.exit rfl ?_))
    generalize idxI (l'.findIdx? (fun e => decide (e.key ≠ x.key))) = j at hrun hidx
    refine Run.opF [2] (hidx) rfl (by simp -implicitDefEqProofs) rfl (by simp -implicitDefEqProofs) (by decide) (by rfl) (by simp -implicitDefEqProofs) ?_
    rintro v0 Hs' ⟨rfl, rfl⟩
    generalize runN x r = m at *
    (repeat (first | refine Run.seq ?_ | refine Run.reg ?_ | refine Run.skip ?_ | refine Run.block ?_ | refine Run.endB ?_ | refine Run.opE rfl ?_ | (apply Run.op0 rfl; (· (simp -implicitDefEqProofs; exact ⟨rfl, rfl⟩))) | (apply Run.opA rfl; (· (simp -implicitDefEqProofs; done)); (· (simp -implicitDefEqProofs; exact ⟨rfl, rfl⟩))) | (apply Run.opN rfl; (· (simp -implicitDefEqProofs; done))) | (refine Run.condT ?_ ?_; (· (simp -implicitDefEqProofs; done))) | (refine Run.condF ?_ ?_; (· (simp -implicitDefEqProofs; done))) | refine Run.exit rfl ?_))
    refine Run.join [(1, .fn 33 [.ptr 0 0, .ptr 1 0]), (2, .ptr 2 0), (4, .int .i64 m)] [.row [.int .i64 n], .row [.sl 3 0 o.length 2 none], .row [.vs (l'.map encE) 4], .arr (o.map encP) 2] ?_ ?_
    rotate_left
    · intro k hk
      by_cases hj : j < 0
      · rw [if_pos hj] at hrun
        (repeat (first | refine Run.seq ?_ | refine Run.reg ?_ | refine Run.skip ?_ | refine Run.block ?_ | refine Run.endB ?_ | refine Run.opE rfl ?_ | (apply Run.op0 rfl; (· (simp -implicitDefEqProofs [hj]; exact ⟨rfl, rfl⟩))) | (apply Run.opA rfl; (· (simp -implicitDefEqProofs [hj]; done)); (· (simp -implicitDefEqProofs [hj]; exact ⟨rfl, rfl⟩))) | (apply Run.opN rfl; (· (simp -implicitDefEqProofs [hj]; done))) | (refine Run.condT ?_ ?_; (· (simp -implicitDefEqProofs [hj]; done))) | (refine Run.condF ?_ ?_; (· (simp -implicitDefEqProofs [hj]; done))) | refine Run.exit rfl ?_))
        refine Run.mv [0, 1, 2, 3] _ _ (by rfl) (by decide) (by simp [hrun]) (by simp) hk
      · rw [if_neg hj] at hrun
        (repeat (first | refine Run.seq ?_ | refine Run.reg ?_ | refine Run.skip ?_ | refine Run.block ?_ | refine Run.endB ?_ | refine Run.opE rfl ?_ | (apply Run.op0 rfl; (· (simp -implicitDefEqProofs [hj]; exact ⟨rfl, rfl⟩))) | (apply Run.opA rfl; (· (simp -implicitDefEqProofs [hj]; done)); (· (simp -implicitDefEqProofs [hj]; exact ⟨rfl, rfl⟩))) | (apply Run.opN rfl; (· (simp -implicitDefEqProofs [hj]; done))) | (refine Run.condT ?_ ?_; (· (simp -implicitDefEqProofs [hj]; done))) | (refine Run.condF ?_ ?_; (· (simp -implicitDefEqProofs [hj]; done))) | refine Run.exit rfl ?_))
        refine Run.mv [0, 1, 2, 3] _ _ (by rfl) (by decide) (by simp [hrun]) (by simp) hk
    have hrl' : (m : Int) ≤ l'.length := by omega
    have hg : (l'.take m).length ≤ 1000000 := by rw [List.length_take]; omega
    have hv1 := visG_len (l'.take m) n
    have hdl : (l'.drop m).length = l'.length - m := List.length_drop ..
    (repeat (first | refine Run.seq ?_ | refine Run.reg ?_ | refine Run.skip ?_ | refine Run.block ?_ | refine Run.endB ?_ | refine Run.opE rfl ?_ | (apply Run.op0 rfl; (· (simp -implicitDefEqProofs [hrl, hrl']; exact ⟨rfl, rfl⟩))) | (apply Run.opA rfl; (· (simp -implicitDefEqProofs [hrl, hrl']; done)); (· (simp -implicitDefEqProofs [hrl, hrl']; exact ⟨rfl, rfl⟩))) | (apply Run.opN rfl; (· (simp -implicitDefEqProofs [hrl, hrl']; done))) | (refine Run.condT ?_ ?_; (· (simp -implicitDefEqProofs [hrl, hrl']; done))) | (refine Run.condF ?_ ?_; (· (simp -implicitDefEqProofs [hrl, hrl']; done))) | refine Run.exit rfl ?_))
    refine Run.opF [0, 1, 3] (vis1_tri (l'.take m) hg n o (by omega)) rfl (by simp -implicitDefEqProofs [visH]) rfl (by simp -implicitDefEqProofs [visH]) (by decide) (by rfl) (by simp -implicitDefEqProofs [visH]) ?_
    rintro v0 Hs' ⟨rfl, hcase⟩
    rcases hcase with ⟨hv, rfl⟩ | ⟨p, hv, rfl⟩
    · rw [hv] at hgo
      (repeat (first | refine Run.seq ?_ | refine Run.reg ?_ | refine Run.skip ?_ | refine Run.block ?_ | refine Run.endB ?_ | refine Run.opE rfl ?_ | (apply Run.op0 rfl; (· (simp -implicitDefEqProofs [visH, hrl, hrl']; exact ⟨rfl, rfl⟩))) | (apply Run.opA rfl; (· (simp -implicitDefEqProofs [visH, hrl, hrl']; done)); (· (simp -implicitDefEqProofs [visH, hrl, hrl']; exact ⟨rfl, rfl⟩))) | (apply Run.opN rfl; (· (simp -implicitDefEqProofs [visH, hrl, hrl']; done))) | (refine Run.condT ?_ ?_; (· (simp -implicitDefEqProofs [visH, hrl, hrl']; done))) | (refine Run.condF ?_ ?_; (· (simp -implicitDefEqProofs [visH, hrl, hrl']; done))) | refine Run.exit rfl ?_))
      refine Run.mv [0, 1, 2, 3] _ _ (by rfl) (by decide) (by simp -implicitDefEqProofs [visH]) (by simp -implicitDefEqProofs [visH]) (ih ((l'.drop m, o)) ?_ ?_)
      · exact ⟨by simp only; omega, by rw [hgo]; simp⟩
      · simp only; omega
    · rw [hv] at hgo
      (repeat (first | refine Run.seq ?_ | refine Run.reg ?_ | refine Run.skip ?_ | refine Run.block ?_ | refine Run.endB ?_ | refine Run.opE rfl ?_ | (apply Run.op0 rfl; (· (simp -implicitDefEqProofs [visH', hrl, hrl']; exact ⟨rfl, rfl⟩))) | (apply Run.opA rfl; (· (simp -implicitDefEqProofs [visH', hrl, hrl']; done)); (· (simp -implicitDefEqProofs [visH', hrl, hrl']; exact ⟨rfl, rfl⟩))) | (apply Run.opN rfl; (· (simp -implicitDefEqProofs [visH', hrl, hrl']; done))) | (refine Run.condT ?_ ?_; (· (simp -implicitDefEqProofs [visH', hrl, hrl']; done))) | (refine Run.condF ?_ ?_; (· (simp -implicitDefEqProofs [visH', hrl, hrl']; done))) | refine Run.exit rfl ?_))
      refine Run.mv [0, 1, 2, 4] _ _ (by rfl) (by decide) (by simp -implicitDefEqProofs [visH']) (by simp -implicitDefEqProofs [visH']) (ih ((l'.drop m, o ++ [p])) ?_ ?_)
      · exact ⟨by simp only [List.length_append, List.length_cons, List.length_nil]; omega, by rw [hgo]; simp⟩
      · simp only; omega

theorem vis_tri (l : List En) (n : Int) : Tri Try.prog 19 [.vs (l.map encE) 4, .int .i64 n] [] (fun v H => v = .vs ((visM l n).map encP) 2 ∧ H = []) := by
  refine Tri.of_run' Try.func19 rfl c19_ok (by simp [Try.ntmps19]) ?_
  (repeat (first | refine Run.seq ?_ | refine Run.reg ?_ | refine Run.skip ?_ | refine Run.block ?_ | refine Run.endB ?_ | refine Run.opE rfl ?_ | (apply Run.op0 rfl; (· (simp -implicitDefEqProofs; exact ⟨rfl, rfl⟩))) | (apply Run.opA rfl; (· (simp -implicitDefEqProofs; done)); (· (simp -implicitDefEqProofs; exact ⟨rfl, rfl⟩))) | (apply Run.opN rfl; (· (simp -implicitDefEqProofs; done))) | (refine Run.condT ?_ ?_; (· (simp -implicitDefEqProofs; done))) | (refine Run.condF ?_ ?_; (· (simp -implicitDefEqProofs; done))) | refine Run.exit rfl ?_))
  refine Run.opF [0, 1] (byVis_tri l n) rfl (by simp -implicitDefEqProofs) rfl (by simp -implicitDefEqProofs) (by decide) (by rfl) (by simp -implicitDefEqProofs) ?_
  rintro v0 Hs' ⟨rfl, rfl⟩
  (repeat (first | refine Run.seq ?_ | refine Run.reg ?_ | refine Run.skip ?_ | refine Run.block ?_ | refine Run.endB ?_ | refine Run.opE rfl ?_ | (apply Run.op0 rfl; (· (simp -implicitDefEqProofs [visH]; exact ⟨rfl, rfl⟩))) | (apply Run.opA rfl; (· (simp -implicitDefEqProofs [visH]; done)); (· (simp -implicitDefEqProofs [visH]; exact ⟨rfl, rfl⟩))) | (apply Run.opN rfl; (· (simp -implicitDefEqProofs [visH]; done))) | (refine Run.condT ?_ ?_; (· (simp -implicitDefEqProofs [visH]; done))) | (refine Run.condF ?_ ?_; (· (simp -implicitDefEqProofs [visH]; done))) | refine Run.exit rfl ?_))
  refine Run.freeze 2 (es := (visM l n).map encP) (sz := 2) (by simp) ?_
  refine Run.mv [] [(4, .vs ((visM l n).map encP) 2)] [] (by rfl) (by decide) (by simp -implicitDefEqProofs) (by simp -implicitDefEqProofs) ?_
  refine Run.retI Try.func19 r19_ok trivial (by simp -implicitDefEqProofs [r19]; rfl) (by simp ) ?_ (by simp -implicitDefEqProofs ) (by simp -implicitDefEqProofs )
  simp
theorem vis_at (l : List En) (n : Int) (H : List O) : Tri Try.prog 19 [.vs (l.map encE) 4, .int .i64 n] H (fun v H' => v = .vs ((visM l n).map encP) 2 ∧ H' = H) := (vis_tri l n).at rfl rfl H

end Go.Proofs.Ytphpkigfmmanhaa
