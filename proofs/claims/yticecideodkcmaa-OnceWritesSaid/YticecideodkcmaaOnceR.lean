/-
  Layer 14, part R: what any client did last, whatever there is; with one more; what is put is found.
-/
import Derived.Test.YticecideodkcmaaOnceQ
namespace Go.Proofs.Yticecideodkcmaa
open Sx Go
set_option maxRecDepth 100000
set_option linter.unusedSimpArgs false
set_option linter.unusedVariables false
set_option linter.unnecessarySimpa false
attribute [local simp] guardB isCall opStep Opd.ev put readAt aBin aUn args0 V.celled V.ones V.one V.cells putAt bounds bound1 elemsOf srcOf appendV fillAt fillEl V.pures V.pure unwind evs ARes.ev mkRes V.ren V.renL O.ren eqCells eq1 aEq aMM hasTy hasTyN okTy mmGo Known HLe OLe VsLe.refl VLe.refl Stay VsLe V.frz V.frzL O.frz fr clearV rn KnownR Objs OLeO ObjsE nm back setAll ren_ite take_map_len List.take_of_length_le
attribute [local simp ↓] upd_app tl_cons tl_nil
attribute [local simp] encS_ren encS_ones

theorem sameR_self (x : Seen) : sameR x x = true := by simp [sameR]
theorem findM_pairs (l : List Seen) (c s : Int) : (findM l c s).1.pairs = [] := by
  rw [find_eq, rfindM]
  split
  · rename_i h
    cases he : lookup l c with
    | none => rfl
    | some y =>
      simp only
      split
      · rfl
      · split
        · rfl
        · exact (ok_bounds h.1 (lookup_some he).1).2.2.2.2
  · rfl
theorem putM_ok (l : List Seen) (x : Seen) : okGo (putM l x).1 (-1) = true := by
  rw [put_eq, rputM]
  split
  · rename_i h
    split
    · rfl
    · have := mayB_spec h.2
      exact (rput_spec h.1 h.2 (by omega)).1
  · rfl
theorem ok_pairs {l : List Seen} (h : okGo l (-1) = true) : ∀ y ∈ l, y.pairs.length ≤ 1000000 := fun y hy => by rw [(ok_bounds h hy).2.2.2.2]; simp
theorem ok_len6 {l : List Seen} (h : okGo l (-1) = true) : l.length ≤ 1000000 := by have := ok_len8 h; omega
theorem light_len {l : List Seen} (h : lightB l = true) : l.length ≤ 20 := by simp only [lightB, Bool.and_eq_true, decide_eq_true_eq] at h; exact h.1

theorem rFind_at' (l : List Seen) (hll : l.length ≤ 1000000) (c s : Int) (H : List O) : Tri Try.prog 11 [.vs (l.map encS) 7, .int .i64 c, .int .i64 s] H (fun v H' => v = .tup [.agg (encR (findM l c s).1), .int .i64 (findM l c s).2] ∧ H' = H) := by
  rw [find_eq]; exact rFind_at l hll c s H
theorem Rput_at' (l : List Seen) (hll : l.length ≤ 1000000) (x : Seen) (H : List O) : Tri Try.prog 13 [.vs (l.map encS) 7, .agg (encS x)] H (fun v H' => v = .tup [.vs ((putM l x).1.map encS) 7, .int .i64 (putM l x).2] ∧ H' = H) := by
  rw [put_eq]; exact Rput_at l hll x H

theorem finds_law (l : List Seen) (a s : Int) (x : Seen) : Tri Try.prog 3 [.vs (l.map encS) 7, .agg [.int .i64 a, .int .i64 s], .agg (encS x)] [] (fun v H => v = .bool true ∧ H = []) := by
  refine Tri.of_run' Try.func3 rfl c3_ok (by simp [Try.ntmps3]) ?_
  have hend : ∀ {k t h}, AtEnd k → t 6 = .bool true → Run ⟨Try.prog, 3, Try.f3.ntmps, [], fun v H => v = .bool true ∧ H = []⟩ ⟨k, t, h⟩ := by
    intro k t h hk h6
    refine Run.mv [] [(6, .bool true)] [] (by rfl) (by decide) (by simp [h6]) (by simp) ?_
    exact Run.retI Try.func3 r3_ok hk (by simp [r3]; rfl) (by simp) (by simp) (by simp) (by simp)
  (repeat (first | refine Run.seq ?_ | refine Run.reg ?_ | refine Run.skip ?_ | refine Run.block ?_ | refine Run.endB ?_ | refine Run.opE rfl ?_ | (apply Run.op0 rfl; (· (simp -implicitDefEqProofs [encS]; exact ⟨rfl, rfl⟩))) | (apply Run.opA rfl; (· (simp -implicitDefEqProofs [encS]; done)); (· (simp -implicitDefEqProofs [encS]; exact ⟨rfl, rfl⟩))) | (apply Run.opN rfl; (· (simp -implicitDefEqProofs [encS]; done))) | (refine Run.condT ?_ ?_; (· (simp -implicitDefEqProofs [encS]; done))) | (refine Run.condF ?_ ?_; (· (simp -implicitDefEqProofs [encS]; done))) | refine Run.exit rfl ?_))
  refine Run.opC rfl rfl rfl (light_at l _) ?_
  rintro v h' ⟨rfl, rfl⟩
  cases hl : lightB l with
  | false =>
    (repeat (first | refine Run.seq ?_ | refine Run.reg ?_ | refine Run.skip ?_ | refine Run.block ?_ | refine Run.endB ?_ | refine Run.opE rfl ?_ | (apply Run.op0 rfl; (· (simp -implicitDefEqProofs [hl]; exact ⟨rfl, rfl⟩))) | (apply Run.opA rfl; (· (simp -implicitDefEqProofs [hl]; done)); (· (simp -implicitDefEqProofs [hl]; exact ⟨rfl, rfl⟩))) | (apply Run.opN rfl; (· (simp -implicitDefEqProofs [hl]; done))) | (refine Run.condT ?_ ?_; (· (simp -implicitDefEqProofs [hl]; done))) | (refine Run.condF ?_ ?_; (· (simp -implicitDefEqProofs [hl]; done))) | refine Run.exit rfl ?_))
    refine Run.opC rfl rfl rfl (awake_at _) ?_
    rintro v h' ⟨rfl, rfl⟩
    (repeat (first | refine Run.seq ?_ | refine Run.reg ?_ | refine Run.skip ?_ | refine Run.block ?_ | refine Run.endB ?_ | refine Run.opE rfl ?_ | (apply Run.op0 rfl; (· (simp -implicitDefEqProofs; exact ⟨rfl, rfl⟩))) | (apply Run.opA rfl; (· (simp -implicitDefEqProofs; done)); (· (simp -implicitDefEqProofs; exact ⟨rfl, rfl⟩))) | (apply Run.opN rfl; (· (simp -implicitDefEqProofs; done))) | (refine Run.condT ?_ ?_; (· (simp -implicitDefEqProofs; done))) | (refine Run.condF ?_ ?_; (· (simp -implicitDefEqProofs; done))) | refine Run.exit rfl ?_))
    exact hend trivial (by simp)
  | true =>
  have hll := light_len hl
  (repeat (first | refine Run.seq ?_ | refine Run.reg ?_ | refine Run.skip ?_ | refine Run.block ?_ | refine Run.endB ?_ | refine Run.opE rfl ?_ | (apply Run.op0 rfl; (· (simp -implicitDefEqProofs [hl]; exact ⟨rfl, rfl⟩))) | (apply Run.opA rfl; (· (simp -implicitDefEqProofs [hl]; done)); (· (simp -implicitDefEqProofs [hl]; exact ⟨rfl, rfl⟩))) | (apply Run.opN rfl; (· (simp -implicitDefEqProofs [hl]; done))) | (refine Run.condT ?_ ?_; (· (simp -implicitDefEqProofs [hl]; done))) | (refine Run.condF ?_ ?_; (· (simp -implicitDefEqProofs [hl]; done))) | refine Run.exit rfl ?_))
  refine Run.freeze 2 (es := [encS x]) (sz := 7) (by simp [encS]) ?_
  refine Run.opC rfl (by simp) rfl (by simpa [encS] using light_at [x] _) ?_
  rintro v h' ⟨rfl, rfl⟩
  cases hx : lightB [x] with
  | false =>
    (repeat (first | refine Run.seq ?_ | refine Run.reg ?_ | refine Run.skip ?_ | refine Run.block ?_ | refine Run.endB ?_ | refine Run.opE rfl ?_ | (apply Run.op0 rfl; (· (simp -implicitDefEqProofs [hx]; exact ⟨rfl, rfl⟩))) | (apply Run.opA rfl; (· (simp -implicitDefEqProofs [hx]; done)); (· (simp -implicitDefEqProofs [hx]; exact ⟨rfl, rfl⟩))) | (apply Run.opN rfl; (· (simp -implicitDefEqProofs [hx]; done))) | (refine Run.condT ?_ ?_; (· (simp -implicitDefEqProofs [hx]; done))) | (refine Run.condF ?_ ?_; (· (simp -implicitDefEqProofs [hx]; done))) | refine Run.exit rfl ?_))
    refine Run.opC rfl rfl rfl (awake_at _) ?_
    rintro v h' ⟨rfl, rfl⟩
    (repeat (first | refine Run.seq ?_ | refine Run.reg ?_ | refine Run.skip ?_ | refine Run.block ?_ | refine Run.endB ?_ | refine Run.opE rfl ?_ | (apply Run.op0 rfl; (· (simp -implicitDefEqProofs; exact ⟨rfl, rfl⟩))) | (apply Run.opA rfl; (· (simp -implicitDefEqProofs; done)); (· (simp -implicitDefEqProofs; exact ⟨rfl, rfl⟩))) | (apply Run.opN rfl; (· (simp -implicitDefEqProofs; done))) | (refine Run.condT ?_ ?_; (· (simp -implicitDefEqProofs; done))) | (refine Run.condF ?_ ?_; (· (simp -implicitDefEqProofs; done))) | refine Run.exit rfl ?_))
    exact hend trivial (by simp)
  | true =>
  (repeat (first | refine Run.seq ?_ | refine Run.reg ?_ | refine Run.skip ?_ | refine Run.block ?_ | refine Run.endB ?_ | refine Run.opE rfl ?_ | (apply Run.op0 rfl; (· (simp -implicitDefEqProofs [hx]; exact ⟨rfl, rfl⟩))) | (apply Run.opA rfl; (· (simp -implicitDefEqProofs [hx]; done)); (· (simp -implicitDefEqProofs [hx]; exact ⟨rfl, rfl⟩))) | (apply Run.opN rfl; (· (simp -implicitDefEqProofs [hx]; done))) | (refine Run.condT ?_ ?_; (· (simp -implicitDefEqProofs [hx]; done))) | (refine Run.condF ?_ ?_; (· (simp -implicitDefEqProofs [hx]; done))) | refine Run.exit rfl ?_))
  refine Run.opC rfl rfl rfl (by simpa using find_at l (by omega) a s _) ?_
  rintro v h' ⟨rfl, rfl⟩
  (repeat (first | refine Run.seq ?_ | refine Run.reg ?_ | refine Run.skip ?_ | refine Run.block ?_ | refine Run.endB ?_ | refine Run.opE rfl ?_ | (apply Run.op0 rfl; (· (simp -implicitDefEqProofs [encR]; exact ⟨rfl, rfl⟩))) | (apply Run.opA rfl; (· (simp -implicitDefEqProofs [encR]; done)); (· (simp -implicitDefEqProofs [encR]; exact ⟨rfl, rfl⟩))) | (apply Run.opN rfl; (· (simp -implicitDefEqProofs [encR]; done))) | (refine Run.condT ?_ ?_; (· (simp -implicitDefEqProofs [encR]; done))) | (refine Run.condF ?_ ?_; (· (simp -implicitDefEqProofs [encR]; done))) | refine Run.exit rfl ?_))
  refine Run.opC rfl rfl rfl (by simpa using rFind_at' l (by omega) a s _) ?_
  rintro v h' ⟨rfl, rfl⟩
  (repeat (first | refine Run.seq ?_ | refine Run.reg ?_ | refine Run.skip ?_ | refine Run.block ?_ | refine Run.endB ?_ | refine Run.opE rfl ?_ | (apply Run.op0 rfl; (· (simp -implicitDefEqProofs [encR]; exact ⟨rfl, rfl⟩))) | (apply Run.opA rfl; (· (simp -implicitDefEqProofs [encR]; done)); (· (simp -implicitDefEqProofs [encR]; exact ⟨rfl, rfl⟩))) | (apply Run.opN rfl; (· (simp -implicitDefEqProofs [encR]; done))) | (refine Run.condT ?_ ?_; (· (simp -implicitDefEqProofs [encR]; done))) | (refine Run.condF ?_ ?_; (· (simp -implicitDefEqProofs [encR]; done))) | refine Run.exit rfl ?_))
  refine Run.opC rfl rfl rfl (by simpa [encS] using put_at l (by omega) x _) ?_
  rintro v h' ⟨rfl, rfl⟩
  (repeat (first | refine Run.seq ?_ | refine Run.reg ?_ | refine Run.skip ?_ | refine Run.block ?_ | refine Run.endB ?_ | refine Run.opE rfl ?_ | (apply Run.op0 rfl; (· (simp -implicitDefEqProofs [encS]; exact ⟨rfl, rfl⟩))) | (apply Run.opA rfl; (· (simp -implicitDefEqProofs [encS]; done)); (· (simp -implicitDefEqProofs [encS]; exact ⟨rfl, rfl⟩))) | (apply Run.opN rfl; (· (simp -implicitDefEqProofs [encS]; done))) | (refine Run.condT ?_ ?_; (· (simp -implicitDefEqProofs [encS]; done))) | (refine Run.condF ?_ ?_; (· (simp -implicitDefEqProofs [encS]; done))) | refine Run.exit rfl ?_))
  refine Run.opC rfl rfl rfl (by simpa [encS] using Rput_at' l (by omega) x _) ?_
  rintro v h' ⟨rfl, rfl⟩
  (repeat (first | refine Run.seq ?_ | refine Run.reg ?_ | refine Run.skip ?_ | refine Run.block ?_ | refine Run.endB ?_ | refine Run.opE rfl ?_ | (apply Run.op0 rfl; (· (simp -implicitDefEqProofs [encR]; exact ⟨rfl, rfl⟩))) | (apply Run.opA rfl; (· (simp -implicitDefEqProofs [encR]; done)); (· (simp -implicitDefEqProofs [encR]; exact ⟨rfl, rfl⟩))) | (apply Run.opN rfl; (· (simp -implicitDefEqProofs [encR]; done))) | (refine Run.condT ?_ ?_; (· (simp -implicitDefEqProofs [encR]; done))) | (refine Run.condF ?_ ?_; (· (simp -implicitDefEqProofs [encR]; done))) | refine Run.exit rfl ?_))
  refine Run.opC rfl rfl rfl (by simpa [encR] using sameR_at (findM l a s).1 (findM l a s).1 (by rw [findM_pairs]; simp) _) ?_
  rintro v h' ⟨rfl, rfl⟩
  (repeat (first | refine Run.seq ?_ | refine Run.reg ?_ | refine Run.skip ?_ | refine Run.block ?_ | refine Run.endB ?_ | refine Run.opE rfl ?_ | (apply Run.op0 rfl; (· (simp -implicitDefEqProofs [sameR_self]; exact ⟨rfl, rfl⟩))) | (apply Run.opA rfl; (· (simp -implicitDefEqProofs [sameR_self]; done)); (· (simp -implicitDefEqProofs [sameR_self]; exact ⟨rfl, rfl⟩))) | (apply Run.opN rfl; (· (simp -implicitDefEqProofs [sameR_self]; done))) | (refine Run.condT ?_ ?_; (· (simp -implicitDefEqProofs [sameR_self]; done))) | (refine Run.condF ?_ ?_; (· (simp -implicitDefEqProofs [sameR_self]; done))) | refine Run.exit rfl ?_))
  refine Run.opC rfl (by simp) rfl (same_at _ _ (ok_len6 (putM_ok l x)) (ok_pairs (putM_ok l x)) _) ?_
  rintro v h' ⟨rfl, rfl⟩
  (repeat (first | refine Run.seq ?_ | refine Run.reg ?_ | refine Run.skip ?_ | refine Run.block ?_ | refine Run.endB ?_ | refine Run.opE rfl ?_ | (apply Run.op0 rfl; (· (simp -implicitDefEqProofs; exact ⟨rfl, rfl⟩))) | (apply Run.opA rfl; (· (simp -implicitDefEqProofs; done)); (· (simp -implicitDefEqProofs; exact ⟨rfl, rfl⟩))) | (apply Run.opN rfl; (· (simp -implicitDefEqProofs; done))) | (refine Run.condT ?_ ?_; (· (simp -implicitDefEqProofs; done))) | (refine Run.condF ?_ ?_; (· (simp -implicitDefEqProofs; done))) | refine Run.exit rfl ?_))
  refine Run.opC rfl (by simp) rfl (by simpa using check_at l (by omega) _) ?_
  rintro v h' ⟨rfl, rfl⟩
  (repeat (first | refine Run.seq ?_ | refine Run.reg ?_ | refine Run.skip ?_ | refine Run.block ?_ | refine Run.endB ?_ | refine Run.opE rfl ?_ | (apply Run.op0 rfl; (· (simp -implicitDefEqProofs; exact ⟨rfl, rfl⟩))) | (apply Run.opA rfl; (· (simp -implicitDefEqProofs; done)); (· (simp -implicitDefEqProofs; exact ⟨rfl, rfl⟩))) | (apply Run.opN rfl; (· (simp -implicitDefEqProofs; done))) | (refine Run.condT ?_ ?_; (· (simp -implicitDefEqProofs; done))) | (refine Run.condF ?_ ?_; (· (simp -implicitDefEqProofs; done))) | refine Run.exit rfl ?_))
  refine Run.opC rfl (by simp) rfl (by simpa using rcheck_at l (by omega) _) ?_
  rintro v h' ⟨rfl, rfl⟩
  (repeat (first | refine Run.seq ?_ | refine Run.reg ?_ | refine Run.skip ?_ | refine Run.block ?_ | refine Run.endB ?_ | refine Run.opE rfl ?_ | (apply Run.op0 rfl; (· (simp -implicitDefEqProofs [readM_ok]; exact ⟨rfl, rfl⟩))) | (apply Run.opA rfl; (· (simp -implicitDefEqProofs [readM_ok]; done)); (· (simp -implicitDefEqProofs [readM_ok]; exact ⟨rfl, rfl⟩))) | (apply Run.opN rfl; (· (simp -implicitDefEqProofs [readM_ok]; done))) | (refine Run.condT ?_ ?_; (· (simp -implicitDefEqProofs [readM_ok]; done))) | (refine Run.condF ?_ ?_; (· (simp -implicitDefEqProofs [readM_ok]; done))) | refine Run.exit rfl ?_))
  refine Run.opC rfl (by simp) rfl (awake_at _) ?_
  rintro v h' ⟨rfl, rfl⟩
  (repeat (first | refine Run.seq ?_ | refine Run.reg ?_ | refine Run.skip ?_ | refine Run.block ?_ | refine Run.endB ?_ | refine Run.opE rfl ?_ | (apply Run.op0 rfl; (· (simp -implicitDefEqProofs; exact ⟨rfl, rfl⟩))) | (apply Run.opA rfl; (· (simp -implicitDefEqProofs; done)); (· (simp -implicitDefEqProofs; exact ⟨rfl, rfl⟩))) | (apply Run.opN rfl; (· (simp -implicitDefEqProofs; done))) | (refine Run.condT ?_ ?_; (· (simp -implicitDefEqProofs; done))) | (refine Run.condF ?_ ?_; (· (simp -implicitDefEqProofs; done))) | refine Run.exit rfl ?_))
  exact hend trivial (by simp)

end Go.Proofs.Yticecideodkcmaa
