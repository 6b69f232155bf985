/-
  Layer 14, part K: when replies are the same.
-/
import Derived.Test.YticecideodkcmaaOnceJ
namespace Go.Proofs.Yticecideodkcmaa
open Sx Go
set_option maxRecDepth 100000
set_option linter.unusedSimpArgs false
set_option linter.unusedVariables false
set_option linter.unnecessarySimpa false
attribute [local simp] execOps guardB isCall opStep Opd.ev put upd readAt aBin aUn args0 V.celled V.ones V.one V.cells Res.run Res.all putAt bounds bound1 elemsOf srcOf appendV fillAt fillEl V.pures V.pure unwind evs ARes.ev mkRes V.ren V.renL O.ren Br.ok eqCells eq1 aEq aMM mmGo execQ

def sameR (x y : Seen) : Bool := decide (x.err = y.err) && decide (x.value = y.value) && (x.has == y.has) && decide (x.upto = y.upto) && decide (x.pairs = y.pairs)

theorem sameR_tri (x y : Seen) (hx : x.pairs.length ≤ 1000000) : Tri Try.prog 14 [.agg (encR x), .agg (encR y)] [] (fun v H => v = .bool (sameR x y) ∧ H = []) := by
  refine Tri.of_run' Try.func14 rfl c14_ok (by simp [Try.ntmps14]) ?_
  (repeat (first | refine Run.seq ?_ | refine Run.skip ?_ | refine Run.block ?_ | refine Run.endB ?_)); refine Run.region ?_; simp -implicitDefEqProofs [c14r0, encR]
  (repeat (first | refine Run.seq ?_ | refine Run.skip ?_ | refine Run.block ?_ | refine Run.endB ?_))
  refine Run.region ?_
  refine Res.cut (fun t' h' => t' 40 = .bool (!(decide (x.err = y.err) && decide (x.value = y.value) && (x.has == y.has) && decide (x.upto = y.upto) && decide ((x.pairs.length : Int) = y.pairs.length))) ∧ t' 2 = .ptr 0 0 ∧ t' 3 = .ptr 1 0 ∧ h' = [.row (encR x), .row (encR y)]) ?_ ?_
  · cases a3 : (x.has == y.has)
    · by_cases a1 : x.err = y.err
      rotate_left
      · simp -implicitDefEqProofs [c14r1, encR, a3, a1]
      by_cases a2 : x.value = y.value
      rotate_left
      · simp -implicitDefEqProofs [c14r1, encR, a3, a1, a2]
      simp -implicitDefEqProofs [c14r1, encR, a3, a1, a2]
    · by_cases a1 : x.err = y.err
      rotate_left
      · simp -implicitDefEqProofs [c14r1, encR, a3, a1]
      by_cases a2 : x.value = y.value
      rotate_left
      · simp -implicitDefEqProofs [c14r1, encR, a3, a1, a2]
      by_cases a4 : x.upto = y.upto
      rotate_left
      · simp -implicitDefEqProofs [c14r1, encR, a3, a1, a2, a4]
      by_cases a5 : (x.pairs.length : Int) = (y.pairs.length : Int)
      rotate_left
      · simp -implicitDefEqProofs [c14r1, encR, a3, a1, a2, a4, a5]
      simp -implicitDefEqProofs [c14r1, encR, a3, a1, a2, a4, a5]
  rintro t h ⟨k40, k2, k3, rfl⟩
  cases hok : (decide (x.err = y.err) && decide (x.value = y.value) && (x.has == y.has) && decide (x.upto = y.upto) && decide ((x.pairs.length : Int) = y.pairs.length)) with
  | false =>
    (repeat (first | refine Run.seq ?_ | refine Run.skip ?_ | refine Run.block ?_ | refine Run.endB ?_))
    refine Run.condT (by simp only [Opd.ev, k40, hok, Bool.not_false]) ?_
    (repeat (first | refine Run.seq ?_ | refine Run.skip ?_ | refine Run.block ?_ | refine Run.endB ?_)); refine Run.region ?_; simp -implicitDefEqProofs [c14r2]
    (repeat (first | refine Run.seq ?_ | refine Run.skip ?_ | refine Run.block ?_ | refine Run.endB ?_))
    refine Run.ret0 rfl Try.func14 r14_ok trivial (by simp [r14]; rfl) ?_ (by simp)
    have : sameR x y = false := by
      rw [← Bool.not_eq_true] at hok ⊢
      intro h
      apply hok
      simp only [sameR, Bool.and_eq_true, decide_eq_true_eq] at h ⊢
      exact ⟨h.1, by rw [h.2]⟩
    simp [this]
  | true =>
    simp only [Bool.and_eq_true, decide_eq_true_eq] at hok
    obtain ⟨hq, hlen⟩ := hok
    have hsame : sameR x y = decide (x.pairs = y.pairs) := by simp [sameR, hq]
    (repeat (first | refine Run.seq ?_ | refine Run.skip ?_ | refine Run.block ?_ | refine Run.endB ?_))
    refine Run.condF (by simp only [Opd.ev, k40]; simp [hq, hlen]) ?_
    (repeat (first | refine Run.seq ?_ | refine Run.skip ?_ | refine Run.block ?_ | refine Run.endB ?_)); refine Run.region ?_; simp -implicitDefEqProofs [c14r3]
    (repeat (first | refine Run.seq ?_ | refine Run.skip ?_ | refine Run.block ?_ | refine Run.endB ?_))
    refine Run.loop (fun n t h => ∃ i : Nat, n = x.pairs.length - i ∧ i ≤ x.pairs.length ∧ x.pairs.take i = y.pairs.take i ∧ t 2 = .ptr 0 0 ∧ t 3 = .ptr 1 0 ∧ t 5 = .int .i64 i ∧ h = [.row (encR x), .row (encR y)]) ?_ ⟨0, rfl, by omega, by simp, by simp [k2], by simp [k3], by simp, rfl⟩
    rintro n t h ⟨i, rfl, hi, htk, h2, h3, h5, rfl⟩ ih
    (repeat (first | refine Run.seq ?_ | refine Run.skip ?_ | refine Run.block ?_ | refine Run.endB ?_)); refine Run.region ?_; simp -implicitDefEqProofs [c14r4, h2, h5, encR]
    by_cases hlt : (i : Int) < (x.pairs.length : Int)
    · (repeat (first | refine Run.seq ?_ | refine Run.skip ?_ | refine Run.block ?_ | refine Run.endB ?_))
      refine Run.condT (by simp [Opd.ev]; omega) ?_
      (repeat (first | refine Run.seq ?_ | refine Run.skip ?_ | refine Run.block ?_ | refine Run.endB ?_))
      obtain ⟨p, hp⟩ : ∃ p, x.pairs[i]? = some p := ⟨x.pairs[i], by simp [show i < x.pairs.length by omega]⟩
      obtain ⟨q, hq'⟩ : ∃ q, y.pairs[i]? = some q := ⟨y.pairs[i], by simp [show i < y.pairs.length by omega]⟩
      refine Run.quiet prog_mixed (by kernel_rfl) (execQ_mono (K := fun t' h' => t' 58 = .bool (!decide (p = q)) ∧ t' 2 = .ptr 0 0 ∧ t' 3 = .ptr 1 0 ∧ t' 5 = .int .i64 i ∧ h' = [.row (encR x), .row (encR y)]) ?_ ?_)
      rotate_left
      · obtain ⟨p1, p2⟩ := p
        obtain ⟨q1, q2⟩ := q
        simp -implicitDefEqProofs [c14d0, h2, h3, h5, hp, hq', encR, encP]
      rintro t' h' ⟨k58, j2, j3, j5, rfl⟩
      by_cases e : p = q
      · (repeat (first | refine Run.seq ?_ | refine Run.skip ?_ | refine Run.block ?_ | refine Run.endB ?_))
        refine Run.condF (by simp [Opd.ev, k58, e]) ?_
        (repeat (first | refine Run.seq ?_ | refine Run.skip ?_ | refine Run.block ?_ | refine Run.endB ?_)); refine Run.region ?_; simp -implicitDefEqProofs [c14r6, j5]
        rw [wrap_small (by omega) (by omega)]
        refine ih (x.pairs.length - (i + 1)) _ _ (by omega) ⟨i + 1, rfl, by omega, ?_, by simp [j2], by simp [j3], by simp, rfl⟩
        rw [List.take_add_one, List.take_add_one, hp, hq', htk, e]
      · (repeat (first | refine Run.seq ?_ | refine Run.skip ?_ | refine Run.block ?_ | refine Run.endB ?_))
        refine Run.condT (by simp [Opd.ev, k58, e]) ?_
        (repeat (first | refine Run.seq ?_ | refine Run.skip ?_ | refine Run.block ?_ | refine Run.endB ?_)); refine Run.region ?_; simp -implicitDefEqProofs [c14r5]
        (repeat (first | refine Run.seq ?_ | refine Run.skip ?_ | refine Run.block ?_ | refine Run.endB ?_))
        refine Run.ret0 rfl Try.func14 r14_ok trivial (by simp [r14]; rfl) ?_ (by simp)
        have : x.pairs ≠ y.pairs := fun he => e (by rw [he, hq'] at hp; exact (Option.some.inj hp).symm)
        simp [hsame, this]
    · (repeat (first | refine Run.seq ?_ | refine Run.skip ?_ | refine Run.block ?_ | refine Run.endB ?_))
      refine Run.condF (by simp [Opd.ev]; omega) ?_
      refine Run.exit rfl ?_
      (repeat (first | refine Run.seq ?_ | refine Run.skip ?_ | refine Run.block ?_ | refine Run.endB ?_)); refine Run.region ?_; simp -implicitDefEqProofs [c14r7]
      (repeat (first | refine Run.seq ?_ | refine Run.skip ?_ | refine Run.block ?_ | refine Run.endB ?_))
      refine Run.ret0 rfl Try.func14 r14_ok trivial (by simp [r14]; rfl) ?_ (by simp)
      have e1 : i = x.pairs.length := by omega
      have e2 : i = y.pairs.length := by omega
      have : x.pairs = y.pairs := by
        have h1 := List.take_length (l := x.pairs)
        have h2 := List.take_length (l := y.pairs)
        rw [← h1, ← h2, ← e1, ← e2]; exact htk
      simp [hsame, this]

end Go.Proofs.Yticecideodkcmaa
