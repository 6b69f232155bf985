/-
  Layer 14, part B: is there little.
-/
import Derived.Test.YticecideodkcmaaOnceA
namespace Go.Proofs.Yticecideodkcmaa
open Sx Go
set_option maxRecDepth 100000
set_option linter.unusedSimpArgs false
set_option linter.unusedVariables false
set_option linter.unnecessarySimpa false
attribute [local simp] execOps guardB isCall opStep Opd.ev put upd readAt aBin aUn args0 V.celled V.ones V.one V.cells Res.run Res.all putAt bounds bound1 elemsOf srcOf appendV fillAt fillEl V.pures V.pure unwind evs ARes.ev mkRes V.ren V.renL O.ren Br.ok eqCells eq1 aEq aMM mmGo

def lightE (x : Seen) : Bool := !(decide ((100 : Int) < x.value.length) || decide ((20 : Int) < x.pairs.length) || decide ((100 : Int) < x.upto.length))
def lightB (l : List Seen) : Bool := decide (l.length ≤ 20) && l.all lightE

theorem light_tri (l : List Seen) : Tri Try.prog 8 [.vs (l.map encS) 7] [] (fun v H => v = .bool (lightB l) ∧ H = []) := by
  refine Tri.of_run' Try.func8 rfl c8_ok (by simp [Try.ntmps8]) ?_
  unfold c8
  (repeat (first | refine Run.seq ?_ | refine Run.skip ?_ | refine Run.block ?_ | refine Run.endB ?_)); refine Run.region ?_; simp -implicitDefEqProofs [c8r0]
  (repeat (first | refine Run.seq ?_ | refine Run.skip ?_ | refine Run.block ?_ | refine Run.endB ?_)); refine Run.region ?_; simp -implicitDefEqProofs [c8r1]
  (repeat (first | refine Run.seq ?_ | refine Run.skip ?_ | refine Run.block ?_ | refine Run.endB ?_))
  refine Run.loop (fun n t h => ∃ i : Nat, n = l.length - i ∧ i ≤ l.length ∧ i ≤ 20 ∧ (l.take i).all lightE = true ∧ t 0 = .vs (l.map encS) 7 ∧ t 3 = .int .i64 i ∧ h = []) ?_ ⟨0, rfl, by omega, by omega, by simp, by simp, by simp, rfl⟩
  rintro n t h ⟨i, rfl, hi, hi2, hall, h0, h3, rfl⟩ ih
  unfold c8l0
  (repeat (first | refine Run.seq ?_ | refine Run.skip ?_ | refine Run.block ?_ | refine Run.endB ?_))
  refine Run.region ?_
  refine Res.cut (fun t' h' => t' 11 = .bool (decide ((i : Int) < (l.length : Int)) && decide ((i : Int) < 20)) ∧ t' 0 = .vs (l.map encS) 7 ∧ t' 3 = .int .i64 i ∧ h' = []) ?_ ?_
  · by_cases a1 : (i : Int) < (l.length : Int)
    rotate_left
    · simp -implicitDefEqProofs [c8r2, h0, h3, a1]
    by_cases a2 : (i : Int) < 20
    rotate_left
    · simp -implicitDefEqProofs [c8r2, h0, h3, a1, a2]
    simp -implicitDefEqProofs [c8r2, h0, h3, a1, a2]
  rintro t' h' ⟨h11, h0', h3', rfl⟩
  by_cases hlt : (i : Int) < (l.length : Int) ∧ (i : Int) < 20
  · refine Run.condT (by simp only [Opd.ev, h11, hlt, decide_true, Bool.and_true]) ?_
    (repeat (first | refine Run.seq ?_ | refine Run.skip ?_ | refine Run.block ?_ | refine Run.endB ?_))
    refine Run.region ?_
    have hil : i < l.length := by omega
    obtain ⟨x, hx⟩ : ∃ x, l[i]? = some x := ⟨l[i], by simp [hil]⟩
    refine Res.cut (fun t' h' => t' 41 = .bool (!lightE x) ∧ t' 0 = .vs (l.map encS) 7 ∧ t' 3 = .int .i64 i ∧ h' = []) ?_ ?_
    · by_cases a1 : (100 : Int) < (x.value.length : Int)
      · simp -implicitDefEqProofs [c8r3, h0', h3', encS, encR, lightE, hx, a1]
      by_cases a2 : (20 : Int) < (x.pairs.length : Int)
      · simp -implicitDefEqProofs [c8r3, h0', h3', encS, encR, lightE, hx, a1, a2]
      by_cases a3 : (100 : Int) < (x.upto.length : Int)
      · simp -implicitDefEqProofs [c8r3, h0', h3', encS, encR, lightE, hx, a1, a2, a3]
      simp -implicitDefEqProofs [c8r3, h0', h3', encS, encR, lightE, hx, a1, a2, a3]
    rintro t2 h2 ⟨h41, h0'', h3'', rfl⟩
    by_cases hle : lightE x = true
    · refine Run.condF (by simp [Opd.ev, h41, hle]) ?_
      (repeat (first | refine Run.seq ?_ | refine Run.skip ?_ | refine Run.block ?_ | refine Run.endB ?_))
      (repeat (first | refine Run.seq ?_ | refine Run.skip ?_ | refine Run.block ?_ | refine Run.endB ?_)); refine Run.region ?_; simp -implicitDefEqProofs [c8r5, h3'', wrap_small]
      refine ih (l.length - (i + 1)) _ _ (by omega) ⟨i + 1, rfl, by omega, by omega, ?_, by simp [h0''], ?_, rfl⟩
      · rw [List.take_add_one, hx, List.all_append, hall]; simp [hle]
      · simp [wrap_small (n := (i : Int) + 1) (by omega) (by omega)]
    · refine Run.condT (by simp [Opd.ev, h41, hle]) ?_
      (repeat (first | refine Run.seq ?_ | refine Run.skip ?_ | refine Run.block ?_ | refine Run.endB ?_)); refine Run.region ?_; simp -implicitDefEqProofs [c8r4]
      (repeat (first | refine Run.seq ?_ | refine Run.skip ?_ | refine Run.block ?_ | refine Run.endB ?_))
      refine Run.ret0 rfl Try.func8 r8_ok trivial (by simp [r8]; rfl) ?_ (by simp)
      have : l.all lightE = false := by
        rw [List.all_eq_false]
        exact ⟨x, List.mem_of_getElem? hx, hle⟩
      simp [lightB, this]
  · refine Run.condF (by simp only [Opd.ev, h11]; simp only [Bool.and_eq_false_iff, V.bool.injEq, decide_eq_false_iff_not]; omega) ?_
    refine Run.exit rfl ?_
    (repeat (first | refine Run.seq ?_ | refine Run.skip ?_ | refine Run.block ?_ | refine Run.endB ?_)); refine Run.region ?_; simp -implicitDefEqProofs [c8r6, h0', h3']
    (repeat (first | refine Run.seq ?_ | refine Run.skip ?_ | refine Run.block ?_ | refine Run.endB ?_))
    refine Run.ret0 rfl Try.func8 r8_ok trivial (by simp [r8]; rfl) ?_ (by simp)
    have e : decide ((l.length : Int) ≤ 20) = decide (l.length ≤ 20) := by congr 1; simp only [eq_iff_iff]; omega
    simp only [mkRes, upd, lightB, if_true, List.length_map, and_true, V.bool.injEq, Nat.reduceEqDiff, if_false]
    by_cases h20 : l.length ≤ 20
    · have : i = l.length := by omega
      subst this
      rw [List.take_length] at hall
      simp [hall, h20]; omega
    · simp [h20]; omega

end Go.Proofs.Yticecideodkcmaa
