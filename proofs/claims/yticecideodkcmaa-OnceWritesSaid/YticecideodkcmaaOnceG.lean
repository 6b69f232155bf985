/-
  Layer 14, part G: what is in a table, as a list: the library's functions that it calls.
-/
import Derived.Test.YticecideodkcmaaOnceF
namespace Go.Proofs.Yticecideodkcmaa
open Sx Go
set_option maxRecDepth 100000
set_option linter.unusedSimpArgs false
set_option linter.unusedVariables false
set_option linter.unnecessarySimpa false
attribute [local simp] execOps guardB isCall opStep Opd.ev put upd readAt aBin aUn args0 V.celled V.ones V.one V.cells Res.run Res.all putAt bounds bound1 elemsOf srcOf appendV fillAt fillEl V.pures V.pure unwind evs ARes.ev mkRes V.ren V.renL O.ren Br.ok eqCells eq1 aEq aMM mmGo execQ

theorem none_tri (x : Seen) : Tri Try.prog 40 [.agg (encS x)] [] (fun v H => v = .bool (decide (x.seq = 0)) ∧ H = []) := by
  refine Tri.of_run' Try.func40 rfl c40_ok (by simp [Try.ntmps40]) ?_
  (repeat (first | refine Run.seq ?_ | refine Run.skip ?_ | refine Run.block ?_ | refine Run.endB ?_)); refine Run.region ?_; simp -implicitDefEqProofs [c40r0, encS]
  (repeat (first | refine Run.seq ?_ | refine Run.skip ?_ | refine Run.block ?_ | refine Run.endB ?_)); refine Run.region ?_; simp -implicitDefEqProofs [c40r1]
  (repeat (first | refine Run.seq ?_ | refine Run.skip ?_ | refine Run.block ?_ | refine Run.endB ?_))
  exact Run.ret0 rfl Try.func40 r40_ok trivial (by simp [r40]; rfl) (by simp) (by simp)
theorem none_at (x : Seen) (H : List O) : Tri Try.prog 40 [.agg (encS x)] H (fun v H' => v = .bool (decide (x.seq = 0)) ∧ H' = H) := (none_tri x).at rfl rfl H

def idxI : List Seen → Nat → Int
  | [], _ => -1
  | x :: l, i => if x.seq = 0 then i else idxI l (i + 1)

theorem index_tri (l : List Seen) (hll : l.length ≤ 1000000) : Tri Try.prog 44 [.sl 0 0 l.length 7 none, .fn 40 []] [.arr (l.map encS) 7] (fun v H => v = .int .i64 (idxI l 0) ∧ H = [.arr (l.map encS) 7]) := by
  refine Tri.of_run' Try.func44 rfl c44_ok (by simp [Try.ntmps44]) ?_
  (repeat (first | refine Run.seq ?_ | refine Run.skip ?_ | refine Run.block ?_ | refine Run.endB ?_)); refine Run.region ?_; simp -implicitDefEqProofs [c44r0]
  (repeat (first | refine Run.seq ?_ | refine Run.skip ?_ | refine Run.block ?_ | refine Run.endB ?_)); refine Run.region ?_; simp -implicitDefEqProofs [c44r1]
  (repeat (first | refine Run.seq ?_ | refine Run.skip ?_ | refine Run.block ?_ | refine Run.endB ?_))
  refine Run.loop (fun n t h => ∃ (i : Nat), n = l.length - i ∧ i ≤ l.length ∧ idxI l 0 = idxI (l.drop i) i ∧ t 0 = .sl 0 0 l.length 7 none ∧ t 1 = .fn 40 [] ∧ t 7 = .int .i64 l.length ∧ t 8 = .int .i64 i ∧ h = [.arr (l.map encS) 7]) ?_ ⟨0, rfl, by omega, by simp, by simp, by simp, by simp, by simp, rfl⟩
  rintro n t h ⟨i, rfl, hi, hgo, h0, h1, h7, h8, rfl⟩ ih
  (repeat (first | refine Run.seq ?_ | refine Run.skip ?_ | refine Run.block ?_ | refine Run.endB ?_)); refine Run.region ?_; simp -implicitDefEqProofs [c44r2, h7, h8]
  by_cases hlt : (i : Int) < (l.length : Int)
  · (repeat (first | refine Run.seq ?_ | refine Run.skip ?_ | refine Run.block ?_ | refine Run.endB ?_))
    refine Run.condT (by simp [Opd.ev]; omega) ?_
    have hil : i < l.length := by omega
    obtain ⟨x, hx⟩ : ∃ x, l[i]? = some x := ⟨l[i], by simp [hil]⟩
    have hxi : l[i] = x := Option.some.inj ((List.getElem?_eq_getElem hil).symm.trans hx)
    have hstep : idxI (l.drop i) i = if x.seq = 0 then (i : Int) else idxI (l.drop (i + 1)) (i + 1) := by
      rw [List.drop_eq_getElem_cons hil, hxi, idxI]
    (repeat (first | refine Run.seq ?_ | refine Run.skip ?_ | refine Run.block ?_ | refine Run.endB ?_)); refine Run.region ?_; simp -implicitDefEqProofs [c44r3, h8]
    (repeat (first | refine Run.seq ?_ | refine Run.skip ?_ | refine Run.block ?_ | refine Run.endB ?_)); refine Run.region ?_; simp -implicitDefEqProofs [c44r4, h0, h1, hx, hil, hxi, encS]
    refine Run.call (f := 40) (caps := []) trivial (by simp [Opd.ev]) (by simpa [Opd.ev, encS] using none_at x _) ?_
    rintro v h' ⟨rfl, rfl⟩
    refine Run.ops ?_
    simp -implicitDefEqProofs []
    by_cases hs : x.seq = 0
    · (repeat (first | refine Run.seq ?_ | refine Run.skip ?_ | refine Run.block ?_ | refine Run.endB ?_))
      refine Run.condT (by simp [Opd.ev, hs]) ?_
      (repeat (first | refine Run.seq ?_ | refine Run.skip ?_ | refine Run.block ?_ | refine Run.endB ?_)); refine Run.region ?_; simp -implicitDefEqProofs [c44r5]
      (repeat (first | refine Run.seq ?_ | refine Run.skip ?_ | refine Run.block ?_ | refine Run.endB ?_))
      refine Run.retH Try.func44 r44_ok trivial (by simp [r44]; rfl) (by simp) (by simp) ?_ (by simp)
      simp [hgo, hstep, hs]
    · (repeat (first | refine Run.seq ?_ | refine Run.skip ?_ | refine Run.block ?_ | refine Run.endB ?_))
      refine Run.condF (by simp [Opd.ev, hs]) ?_
      (repeat (first | refine Run.seq ?_ | refine Run.skip ?_ | refine Run.block ?_ | refine Run.endB ?_)); refine Run.region ?_; simp -implicitDefEqProofs [c44r6, h8]
      rw [wrap_small (by omega) (by omega)]
      refine ih (l.length - (i + 1)) _ _ (by omega) ⟨i + 1, rfl, by omega, ?_, by simp [h0], by simp [h1], by simp [h7], by simp, by simp⟩
      rw [hgo, hstep, if_neg hs]
  · (repeat (first | refine Run.seq ?_ | refine Run.skip ?_ | refine Run.block ?_ | refine Run.endB ?_))
    refine Run.condF (by simp [Opd.ev]; omega) ?_
    refine Run.exit rfl ?_
    (repeat (first | refine Run.seq ?_ | refine Run.skip ?_ | refine Run.block ?_ | refine Run.endB ?_)); refine Run.region ?_; simp -implicitDefEqProofs [c44r7]
    (repeat (first | refine Run.seq ?_ | refine Run.skip ?_ | refine Run.block ?_ | refine Run.endB ?_))
    refine Run.retH Try.func44 r44_ok trivial (by simp [r44]; rfl) (by simp) (by simp) ?_ (by simp)
    have : l.drop i = [] := List.drop_eq_nil_of_le (by omega)
    simp [hgo, this, idxI]

theorem clone_tri (x : Seen) (l : List Seen) (hll : l.length ≤ 1000000) : Tri Try.prog 39 [.vs ((x :: l).map encS) 7] [] (fun v H => v = .sl 0 0 (l.length + 1) 7 none ∧ H = [.arr ((x :: l).map encS) 7]) := by
  refine Tri.of_run' Try.func39 rfl c39_ok (by simp [Try.ntmps39]) ?_
  (repeat (first | refine Run.seq ?_ | refine Run.skip ?_ | refine Run.block ?_ | refine Run.endB ?_)); refine Run.region ?_; simp -implicitDefEqProofs [c39r0]
  (repeat (first | refine Run.seq ?_ | refine Run.skip ?_ | refine Run.block ?_ | refine Run.endB ?_)); refine Run.region ?_; simp -implicitDefEqProofs [c39r1]
  (repeat (first | refine Run.seq ?_ | refine Run.skip ?_ | refine Run.block ?_ | refine Run.endB ?_))
  refine Run.condF (by simp [Opd.ev]) ?_
  have hb : (l.length + 1) * 88 ≤ 70368744177664 := by omega
  (repeat (first | refine Run.seq ?_ | refine Run.skip ?_ | refine Run.block ?_ | refine Run.endB ?_)); refine Run.region ?_; simp -implicitDefEqProofs [c39r3, hb]
  (repeat (first | refine Run.seq ?_ | refine Run.skip ?_ | refine Run.block ?_ | refine Run.endB ?_))
  refine Run.ret Try.func39 r39_ok trivial (by simp [r39]; rfl) (fun i => if i = 0 then some 1 else none) (h' := [.arr ((x :: l).map encS) 7]) ?_ (v' := .sl 0 0 (l.length + 1) 7 none) (by simp) (by simp)
  refine ⟨by simp, fun i hi => by simp at hi, fun i j hij => ?_, fun i o ho hl => ?_, fun i i' j h1 h2 => ?_⟩
  · by_cases e : i = 0 <;> simp [e] at hij ⊢
  · cases i with
    | zero => simp at ho; subst ho; exact ⟨1, by simp, by simp⟩
    | succ i => simp at ho
  · by_cases e : i = 0 <;> by_cases e' : i' = 0 <;> simp [e, e'] at h1 h2 ⊢

end Go.Proofs.Yticecideodkcmaa
