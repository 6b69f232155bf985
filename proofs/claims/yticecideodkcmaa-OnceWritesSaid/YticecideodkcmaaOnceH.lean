/-
  Layer 14, part H: what is in a table, as a list.
-/
import Derived.Test.YticecideodkcmaaOnceG
namespace Go.Proofs.Yticecideodkcmaa
open Sx Go
set_option maxRecDepth 100000
set_option linter.unusedSimpArgs false
set_option linter.unusedVariables false
set_option linter.unnecessarySimpa false
attribute [local simp] execOps guardB isCall opStep Opd.ev put upd readAt aBin aUn args0 V.celled V.ones V.one V.cells Res.run Res.all putAt bounds bound1 elemsOf srcOf appendV fillAt fillEl V.pures V.pure unwind evs ARes.ev mkRes V.ren V.renL O.ren Br.ok eqCells eq1 aEq aMM mmGo execQ

theorem index_at (l : List Seen) (hll : l.length ≤ 1000000) : Tri Try.prog 44 [.sl 0 0 l.length 7 none, .fn 40 []] [.arr (l.map encS) 7] (fun v H => v = .int .i64 (idxI l 0) ∧ H = [.arr (l.map encS) 7]) := index_tri l hll

def keptL (l : List Seen) : List Seen := l.filter (fun x => !decide (x.seq = 0))

theorem idxI_spec : ∀ (l : List Seen) (i : Nat), (idxI l i = -1 ∧ keptL l = l) ∨ ∃ k : Nat, idxI l i = (i + k : Nat) ∧ k < l.length ∧ keptL (l.take (k + 1)) = l.take k ∧ keptL (l.take k) = l.take k
  | [], i => .inl ⟨rfl, rfl⟩
  | x :: l, i => by
    by_cases h : x.seq = 0
    · exact .inr ⟨0, by simp [idxI, h], by simp, by simp [keptL, h], by simp [keptL]⟩
    · rcases idxI_spec l (i + 1) with ⟨h1, h2⟩ | ⟨k, h1, h2, h3, h4⟩
      · exact .inl ⟨by simp [idxI, h, h1], by simp [keptL, h] at h2 ⊢; exact h2⟩
      · refine .inr ⟨k + 1, by simp [idxI, h, h1]; omega, by simpa using h2, ?_, ?_⟩
        · simp only [keptL, List.take_succ_cons, List.filter_cons, h, decide_false, Bool.not_false, if_true] at h3 ⊢; rw [h3]
        · simp only [keptL, List.take_succ_cons, List.filter_cons, h, decide_false, Bool.not_false, if_true] at h4 ⊢; rw [h4]

theorem delete_tri (l : List Seen) (hll : l.length ≤ 1000000) : Tri Try.prog 38 [.sl 0 0 l.length 7 none, .fn 40 []] [.arr (l.map encS) 7] (fun v H => ∃ rest, v = .sl 0 0 (keptL l).length 7 none ∧ H = [.arr ((keptL l).map encS ++ rest) 7]) := by
  refine Tri.of_run' Try.func38 rfl c38_ok (by simp [Try.ntmps38]) ?_
  (repeat (first | refine Run.seq ?_ | refine Run.skip ?_ | refine Run.block ?_ | refine Run.endB ?_)); refine Run.region ?_; simp -implicitDefEqProofs [c38r0]
  (repeat (first | refine Run.seq ?_ | refine Run.skip ?_ | refine Run.block ?_ | refine Run.endB ?_)); refine Run.region ?_; simp -implicitDefEqProofs [c38r1]
  refine Run.call (f := 44) (caps := []) trivial (by simp [Opd.ev]) (by simpa [Opd.ev] using index_at l hll) ?_
  rintro v h' ⟨rfl, rfl⟩
  refine Run.ops ?_
  simp -implicitDefEqProofs []
  (repeat (first | refine Run.seq ?_ | refine Run.skip ?_ | refine Run.block ?_ | refine Run.endB ?_)); refine Run.region ?_; simp -implicitDefEqProofs [c38r2]
  rcases idxI_spec l 0 with ⟨h1, h2⟩ | ⟨k, h1, h2, h3, h4⟩
  · (repeat (first | refine Run.seq ?_ | refine Run.skip ?_ | refine Run.block ?_ | refine Run.endB ?_))
    refine Run.condT (by simp [Opd.ev, h1]) ?_
    (repeat (first | refine Run.seq ?_ | refine Run.skip ?_ | refine Run.block ?_ | refine Run.endB ?_)); refine Run.region ?_; simp -implicitDefEqProofs [c38r3]
    (repeat (first | refine Run.seq ?_ | refine Run.skip ?_ | refine Run.block ?_ | refine Run.endB ?_))
    refine Run.retH Try.func38 r38_ok trivial (by simp [r38]; rfl) (by simp) (by simp) ?_ (by simp [fr])
    exact ⟨by simp [h2], [], by simp [h2]⟩
  · rw [Nat.zero_add] at h1
    (repeat (first | refine Run.seq ?_ | refine Run.skip ?_ | refine Run.block ?_ | refine Run.endB ?_))
    refine Run.condF (by simp [Opd.ev, h1]) ?_
    have hk1 : IntKind.i64.wrap ((k : Int) + 1) = (k + 1 : Nat) := by rw [wrap_small (by omega) (by omega)]; omega
    (repeat (first | refine Run.seq ?_ | refine Run.skip ?_ | refine Run.block ?_ | refine Run.endB ?_)); refine Run.region ?_; simp -implicitDefEqProofs [c38r4, h1, hk1]
    (repeat (first | refine Run.seq ?_ | refine Run.skip ?_ | refine Run.block ?_ | refine Run.endB ?_))
    refine Run.loop (fun n t h => ∃ (j i : Nat) (l2 : List Seen), n = l.length - j ∧ j ≤ l.length ∧ i ≤ j ∧ l2.length = l.length ∧ l2.take i = keptL (l.take j) ∧ l2.drop j = l.drop j ∧ t 0 = .sl 0 0 l.length 7 none ∧ t 1 = .fn 40 [] ∧ t 5 = .int .i64 i ∧ t 6 = .int .i64 j ∧ h = [.arr (l2.map encS) 7]) ?_
      ⟨k + 1, k, l, rfl, by omega, by omega, rfl, h3.symm, rfl, by simp, by simp, by simp [h1], by simp, by simp⟩
    rintro n t h ⟨j, i, l2, rfl, hj, hij, hl2, htake, hdrop, h0, h1', h5, h6, rfl⟩ ih
    (repeat (first | refine Run.seq ?_ | refine Run.skip ?_ | refine Run.block ?_ | refine Run.endB ?_)); refine Run.region ?_; simp -implicitDefEqProofs [c38r5, h0, h6]
    by_cases hlt : (j : Int) < (l.length : Int)
    · (repeat (first | refine Run.seq ?_ | refine Run.skip ?_ | refine Run.block ?_ | refine Run.endB ?_))
      refine Run.condT (by simp [Opd.ev]; omega) ?_
      have hjl : j < l.length := by omega
      have hjl2 : j < l2.length := by omega
      obtain ⟨x, hx⟩ : ∃ x, l[j]? = some x := ⟨l[j], by simp [hjl]⟩
      have hx2 : l2[j]? = some x := by
        have : (l2.drop j)[0]? = (l.drop j)[0]? := by rw [hdrop]
        simpa [hx] using this
      have hxi : l2[j] = x := Option.some.inj ((List.getElem?_eq_getElem hjl2).symm.trans hx2)
      have hxil : l[j] = x := Option.some.inj ((List.getElem?_eq_getElem hjl).symm.trans hx)
      (repeat (first | refine Run.seq ?_ | refine Run.skip ?_ | refine Run.block ?_ | refine Run.endB ?_)); refine Run.region ?_; simp -implicitDefEqProofs [c38r6, h0, h6, hx2, hjl, hjl2, hxi, encS]
      (repeat (first | refine Run.seq ?_ | refine Run.skip ?_ | refine Run.block ?_ | refine Run.endB ?_)); refine Run.region ?_; simp -implicitDefEqProofs [c38r7, h1']
      refine Run.call (f := 40) (caps := []) trivial (by simp [Opd.ev]) (by simpa [Opd.ev, encS] using none_at x _) ?_
      rintro v h' ⟨rfl, rfl⟩
      refine Run.ops ?_
      simp -implicitDefEqProofs []
      have hj1 : IntKind.i64.wrap ((j : Int) + 1) = (j + 1 : Nat) := by rw [wrap_small (by omega) (by omega)]; omega
      have htj : keptL (l.take (j + 1)) = keptL (l.take j) ++ (if x.seq = 0 then [] else [x]) := by
        rw [List.take_add_one, hx]
        simp only [keptL, List.filter_append, Option.toList]
        by_cases hs : x.seq = 0 <;> simp [hs]
      have hdj : l2.drop (j + 1) = l.drop (j + 1) := by rw [← List.drop_drop, hdrop, List.drop_drop]
      by_cases hs : x.seq = 0
      · (repeat (first | refine Run.seq ?_ | refine Run.skip ?_ | refine Run.block ?_ | refine Run.endB ?_))
        refine Run.condF (by simp [Opd.ev, hs]) ?_
        (repeat (first | refine Run.seq ?_ | refine Run.skip ?_ | refine Run.block ?_ | refine Run.endB ?_)); refine Run.region ?_; simp -implicitDefEqProofs [c38r10, h6, hj1]
        refine Run.keep 1 [0, 1, 5, 6] (by simp) (by simp) (by simp [h0, h1', h5, fr]) (by simp) ?_
        refine ih (l.length - (j + 1)) _ _ (by omega) ⟨j + 1, i, l2, rfl, by omega, by omega, hl2, ?_, hdj, by simp [h0], by simp [h1'], by simp [h5], by simp, by simp⟩
        rw [htj, htake]; simp [hs]
      · (repeat (first | refine Run.seq ?_ | refine Run.skip ?_ | refine Run.block ?_ | refine Run.endB ?_))
        refine Run.condT (by simp [Opd.ev, hs]) ?_
        have hil2 : i < l2.length := by omega
        have hil : i < l.length := by omega
        obtain ⟨y, hy⟩ : ∃ y, l2[i]? = some y := ⟨l2[i], by simp [hil2]⟩
        have hyi : l2[i] = y := Option.some.inj ((List.getElem?_eq_getElem hil2).symm.trans hy)
        (repeat (first | refine Run.seq ?_ | refine Run.skip ?_ | refine Run.block ?_ | refine Run.endB ?_)); refine Run.region ?_; simp -implicitDefEqProofs [c38r8, h0, h5, hy, hil, hil2, hyi, encS]
        have hset : (l2.map encS).set i (encS x) = (l2.set i x).map encS := by rw [List.map_set]
        have hi1 : IntKind.i64.wrap ((i : Int) + 1) = (i + 1 : Nat) := by rw [wrap_small (by omega) (by omega)]; omega
        (repeat (first | refine Run.seq ?_ | refine Run.skip ?_ | refine Run.block ?_ | refine Run.endB ?_)); refine Run.region ?_; simp -implicitDefEqProofs [c38r9, h5, hi1]
        (repeat (first | refine Run.seq ?_ | refine Run.skip ?_ | refine Run.block ?_ | refine Run.endB ?_)); refine Run.region ?_; simp -implicitDefEqProofs [c38r10, h6, hj1]
        refine Run.keep 1 [0, 1, 5, 6] (by simp) (by simp) (by simp [h0, h1', fr]) (by simp) ?_
        refine ih (l.length - (j + 1)) _ _ (by omega) ⟨j + 1, i + 1, l2.set i x, rfl, by omega, by omega, by simp [hl2], ?_, ?_, by simp [h0], by simp [h1'], by simp, by simp, by simpa [encS] using hset⟩
        · rw [htj, ← htake, if_neg hs, List.take_set, List.take_add_one, hy, List.set_append_right _ _ (by simp; omega)]
          simp [show i - min i l2.length = 0 by omega]
        · rw [List.drop_set_of_lt (by omega)]; exact hdj
    · have hjl : j = l.length := by omega
      subst hjl
      rw [List.take_length] at htake
      have hilen : i = (keptL l).length := by rw [← htake]; simp; omega
      (repeat (first | refine Run.seq ?_ | refine Run.skip ?_ | refine Run.block ?_ | refine Run.endB ?_))
      refine Run.condF (by simp [Opd.ev]) ?_
      refine Run.exit rfl ?_
      have hil : (i : Int) ≤ (l.length : Int) := by omega
      have hle : i + (l.length - i) ≤ l2.length := by omega
      have hle' : i + (l.length - i) ≤ l.length := by omega
      (repeat (first | refine Run.seq ?_ | refine Run.skip ?_ | refine Run.block ?_ | refine Run.endB ?_)); refine Run.region ?_; simp -implicitDefEqProofs [c38r11, h0, h5, hil, clearV, hle, hle', hl2]
      (repeat (first | refine Run.seq ?_ | refine Run.skip ?_ | refine Run.block ?_ | refine Run.endB ?_)); refine Run.region ?_; simp -implicitDefEqProofs [c38r12, h0, h5, hil]
      (repeat (first | refine Run.seq ?_ | refine Run.skip ?_ | refine Run.block ?_ | refine Run.endB ?_))
      refine Run.retH Try.func38 r38_ok trivial (by simp [r38]; rfl) (by simp) (by simp) ?_ (by simp [fr])
      refine ⟨by simp [hilen], ?w, ?_⟩
      rotate_left
      simp only [List.take_succ_cons, List.length_cons, List.length_nil, List.take_zero, List.cons.injEq, and_true, O.arr.injEq, ← List.map_take, htake]
      rfl

end Go.Proofs.Yticecideodkcmaa
