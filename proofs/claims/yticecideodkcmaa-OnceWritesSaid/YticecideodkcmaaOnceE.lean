/-
  Layer 14, part E: the document's: may, May, find.
-/
import Derived.Test.YticecideodkcmaaOnceD
namespace Go.Proofs.Yticecideodkcmaa
open Sx Go
set_option maxRecDepth 100000
set_option linter.unusedSimpArgs false
set_option linter.unusedVariables false
set_option linter.unnecessarySimpa false
attribute [local simp] execOps guardB isCall opStep Opd.ev put upd readAt aBin aUn args0 V.celled V.ones V.one V.cells Res.run Res.all putAt bounds bound1 elemsOf srcOf appendV fillAt fillEl V.pures V.pure unwind evs ARes.ev mkRes V.ren V.renL O.ren Br.ok eqCells eq1 aEq aMM mmGo execQ

theorem rmay_tri (x : Seen) : Tri Try.prog 30 [.agg (encS x)] [] (fun v H => v = .bool (mayB x) ∧ H = []) := by
  refine Tri.of_run' Try.func30 rfl c30_ok (by simp [Try.ntmps30]) ?_
  (repeat (first | refine Run.seq ?_ | refine Run.skip ?_ | refine Run.block ?_ | refine Run.endB ?_)); refine Run.region ?_; simp -implicitDefEqProofs [c30r0, encS]
  (repeat (first | refine Run.seq ?_ | refine Run.skip ?_ | refine Run.block ?_ | refine Run.endB ?_)); refine Run.region ?_; simp -implicitDefEqProofs [c30r1]
  (repeat (first | refine Run.seq ?_ | refine Run.skip ?_ | refine Run.block ?_ | refine Run.endB ?_))
  refine Run.region ?_
  refine Res.cut (fun t _ => t 2 = .bool (mayB x)) ?_ (fun t h ht => ?_)
  · by_cases a1 : 0 ≤ x.client
    rotate_left
    · simp -implicitDefEqProofs [c30r2, mayB, Int.lt_iff_add_one_le, a1]; try omega
    by_cases a2 : x.client ≤ 7
    rotate_left
    · simp -implicitDefEqProofs [c30r2, mayB, Int.lt_iff_add_one_le, a1, a2]; try omega
    by_cases a3 : 1 ≤ x.seq
    rotate_left
    · simp -implicitDefEqProofs [c30r2, mayB, Int.lt_iff_add_one_le, a1, a2, a3]; try omega
    by_cases a4 : x.seq ≤ 1099511627775
    rotate_left
    · simp -implicitDefEqProofs [c30r2, mayB, Int.lt_iff_add_one_le, a1, a2, a3, a4]; try omega
    by_cases a5 : x.value = []
    rotate_left
    · simp -implicitDefEqProofs [c30r2, mayB, Int.lt_iff_add_one_le, a1, a2, a3, a4, a5]; try omega
    by_cases a6 : x.pairs.length = 0
    rotate_left
    · simp -implicitDefEqProofs [c30r2, mayB, Int.lt_iff_add_one_le, a1, a2, a3, a4, a5, a6]; try omega
    by_cases a7 : x.upto = []
    rotate_left
    · simp -implicitDefEqProofs [c30r2, mayB, Int.lt_iff_add_one_le, a1, a2, a3, a4, a5, a6, a7]; try omega
    by_cases a8 : 0 ≤ x.err
    rotate_left
    · simp -implicitDefEqProofs [c30r2, mayB, Int.lt_iff_add_one_le, a1, a2, a3, a4, a5, a6, a7, a8]; try omega
    by_cases a9 : x.err ≤ 999
    rotate_left
    · simp -implicitDefEqProofs [c30r2, mayB, Int.lt_iff_add_one_le, a1, a2, a3, a4, a5, a6, a7, a8, a9]; try omega
    simp -implicitDefEqProofs [c30r2, mayB, Int.lt_iff_add_one_le, a1, a2, a3, a4, a5, a6, a7, a8, a9]; try omega
  · exact Run.ret0 rfl Try.func30 r30_ok trivial (by simp [r30]; rfl) (by simp [ht]) (by simp [ht])

def okGo : List Seen → Int → Bool
  | [], _ => true
  | x :: l, last => mayB x && decide (last < x.client) && okGo l x.client

def lastOf (l : List Seen) : Nat → Int
  | 0 => -1
  | i + 1 => (l.getD i zero).client

theorem rmayL_tri (l : List Seen) (hll : l.length ≤ 1000000) : Tri Try.prog 26 [.vs (l.map encS) 7] [] (fun v H => v = .bool (okGo l (-1)) ∧ H = []) := by
  refine Tri.of_run' Try.func26 rfl c26_ok (by simp [Try.ntmps26]) ?_
  (repeat (first | refine Run.seq ?_ | refine Run.skip ?_ | refine Run.block ?_ | refine Run.endB ?_)); refine Run.region ?_; simp -implicitDefEqProofs [c26r0]
  (repeat (first | refine Run.seq ?_ | refine Run.skip ?_ | refine Run.block ?_ | refine Run.endB ?_)); refine Run.region ?_; simp -implicitDefEqProofs [c26r1]
  (repeat (first | refine Run.seq ?_ | refine Run.skip ?_ | refine Run.block ?_ | refine Run.endB ?_))
  refine Run.loop (fun n t h => ∃ (i : Nat), n = l.length - i ∧ i ≤ l.length ∧ okGo l (-1) = okGo (l.drop i) (lastOf l i) ∧ t 0 = .vs (l.map encS) 7 ∧ t 3 = .int .i64 i ∧ h = []) ?_ ⟨0, rfl, by omega, by simp [lastOf], by simp, by simp, rfl⟩
  rintro n t h ⟨i, rfl, hi, hgo, h0, h3, rfl⟩ ih
  (repeat (first | refine Run.seq ?_ | refine Run.skip ?_ | refine Run.block ?_ | refine Run.endB ?_)); refine Run.region ?_; simp -implicitDefEqProofs [c26r2, h0, h3]
  by_cases hlt : (i : Int) < (l.length : Int)
  · (repeat (first | refine Run.seq ?_ | refine Run.skip ?_ | refine Run.block ?_ | refine Run.endB ?_))
    refine Run.condT (by simp [Opd.ev]; omega) ?_
    (repeat (first | refine Run.seq ?_ | refine Run.skip ?_ | refine Run.block ?_ | refine Run.endB ?_))
    have hil : i < l.length := by omega
    obtain ⟨x, hx⟩ : ∃ x, l[i]? = some x := ⟨l[i], by simp [hil]⟩
    have hxi : l[i] = x := Option.some.inj ((List.getElem?_eq_getElem hil).symm.trans hx)
    refine Run.quiet prog_mixed (by kernel_rfl) (execQ_mono (K := fun t' h' => t' 33 = .bool (!(mayB x && decide (lastOf l i < x.client))) ∧ t' 0 = .vs (l.map encS) 7 ∧ t' 3 = .int .i64 i ∧ h' = []) ?_ ?_)
    rotate_left
    · refine execQ_call (K1 := fun t' h' => t' 13 = .agg (encS x) ∧ t' 0 = .vs (l.map encS) 7 ∧ t' 3 = .int .i64 i ∧ h' = []) 4 rfl (by simp -implicitDefEqProofs [c26d0, h0, h3, hx, encS]) ?_
      rintro t' h' ⟨k13, k0, k3, rfl⟩
      refine ⟨rfl, 30, [], .bool (mayB x), rfl, ?_, ?_⟩
      · simp only [List.map_cons, List.map_nil, List.append_nil, Opd.ev, k13]
        exact rmay_tri x
      · cases i with
        | zero =>
          by_cases a1 : mayB x = true
          · have := (mayB_spec a1).1
            have hc : (-1 : Int) < x.client := by omega
            simp -implicitDefEqProofs [c26d0, k0, k3, hx, encS, lastOf, a1, hc]
          · simp -implicitDefEqProofs [c26d0, k0, k3, hx, encS, lastOf, a1]
        | succ m =>
          obtain ⟨y, hy⟩ : ∃ y, l[m]? = some y := ⟨l[m], by simp [show m < l.length by omega]⟩
          have hw : IntKind.i64.wrap (m : Int) = m := wrap_small (by omega) (by omega)
          have hpos : (0 : Int) < (m : Int) + 1 := by omega
          have hnn : (0 : Int) ≤ (m : Int) + 1 := by omega
          have hlo : lastOf l (m + 1) = y.client := by simp [lastOf, hy]
          by_cases a1 : mayB x = true
          rotate_left
          · simp -implicitDefEqProofs [c26d0, k0, k3, hx, hy, encS, hw, hpos, hnn, hlo, a1]; try omega
          by_cases a2 : y.client < x.client
          rotate_left
          · simp -implicitDefEqProofs [c26d0, k0, k3, hx, hy, encS, hw, hpos, hnn, hlo, a1, a2]; try omega
          simp -implicitDefEqProofs [c26d0, k0, k3, hx, hy, encS, hw, hpos, hnn, hlo, a1, a2]; try omega
    rintro t' h' ⟨k33, k0, k3, rfl⟩
    have hstep : okGo (l.drop i) (lastOf l i) = ((mayB x && decide (lastOf l i < x.client)) && okGo (l.drop (i + 1)) x.client) := by
      rw [List.drop_eq_getElem_cons hil, hxi]; rfl
    cases hok : (mayB x && decide (lastOf l i < x.client)) with
    | true =>
      (repeat (first | refine Run.seq ?_ | refine Run.skip ?_ | refine Run.block ?_ | refine Run.endB ?_))
      refine Run.condF (by simp [Opd.ev, k33, hok]) ?_
      (repeat (first | refine Run.seq ?_ | refine Run.skip ?_ | refine Run.block ?_ | refine Run.endB ?_)); refine Run.region ?_; simp -implicitDefEqProofs [c26r4, k3]
      rw [wrap_small (by omega) (by omega)]
      refine ih (l.length - (i + 1)) _ _ (by omega) ⟨i + 1, rfl, by omega, ?_, by simp [k0], by simp, rfl⟩
      rw [hgo, hstep, hok]
      simp [lastOf, hx]
    | false =>
      (repeat (first | refine Run.seq ?_ | refine Run.skip ?_ | refine Run.block ?_ | refine Run.endB ?_))
      refine Run.condT (by simp [Opd.ev, k33, hok]) ?_
      (repeat (first | refine Run.seq ?_ | refine Run.skip ?_ | refine Run.block ?_ | refine Run.endB ?_)); refine Run.region ?_; simp -implicitDefEqProofs [c26r3]
      (repeat (first | refine Run.seq ?_ | refine Run.skip ?_ | refine Run.block ?_ | refine Run.endB ?_))
      refine Run.ret0 rfl Try.func26 r26_ok trivial (by simp [r26]; rfl) ?_ (by simp)
      simp [hgo, hstep, hok]
  · (repeat (first | refine Run.seq ?_ | refine Run.skip ?_ | refine Run.block ?_ | refine Run.endB ?_))
    refine Run.condF (by simp [Opd.ev]; omega) ?_
    refine Run.exit rfl ?_
    (repeat (first | refine Run.seq ?_ | refine Run.skip ?_ | refine Run.block ?_ | refine Run.endB ?_)); refine Run.region ?_; simp -implicitDefEqProofs [c26r5]
    (repeat (first | refine Run.seq ?_ | refine Run.skip ?_ | refine Run.block ?_ | refine Run.endB ?_))
    refine Run.ret0 rfl Try.func26 r26_ok trivial (by simp [r26]; rfl) ?_ (by simp)
    have : l.drop i = [] := List.drop_eq_nil_of_le (by omega)
    simp [hgo, this, okGo]

/-- where a client stands -/
def findI (l : List Seen) (c : Int) : Nat → Int
  | i => match l with
    | [] => -1
    | x :: l => if x.client = c then i else findI l c (i + 1)

theorem rfind_tri (l : List Seen) (hll : l.length ≤ 1000000) (c : Int) : Tri Try.prog 27 [.vs (l.map encS) 7, .int .i64 c] [] (fun v H => v = .int .i64 (findI l c 0) ∧ H = []) := by
  refine Tri.of_run' Try.func27 rfl c27_ok (by simp [Try.ntmps27]) ?_
  (repeat (first | refine Run.seq ?_ | refine Run.skip ?_ | refine Run.block ?_ | refine Run.endB ?_)); refine Run.region ?_; simp -implicitDefEqProofs [c27r0]
  (repeat (first | refine Run.seq ?_ | refine Run.skip ?_ | refine Run.block ?_ | refine Run.endB ?_)); refine Run.region ?_; simp -implicitDefEqProofs [c27r1]
  (repeat (first | refine Run.seq ?_ | refine Run.skip ?_ | refine Run.block ?_ | refine Run.endB ?_))
  refine Run.loop (fun n t h => ∃ (i : Nat), n = l.length - i ∧ i ≤ l.length ∧ findI l c 0 = findI (l.drop i) c i ∧ t 0 = .vs (l.map encS) 7 ∧ t 1 = .int .i64 c ∧ t 5 = .int .i64 i ∧ h = []) ?_ ⟨0, rfl, by omega, by simp, by simp, by simp, by simp, rfl⟩
  rintro n t h ⟨i, rfl, hi, hgo, h0, h1, h5, rfl⟩ ih
  (repeat (first | refine Run.seq ?_ | refine Run.skip ?_ | refine Run.block ?_ | refine Run.endB ?_)); refine Run.region ?_; simp -implicitDefEqProofs [c27r2, h0, h5]
  by_cases hlt : (i : Int) < (l.length : Int)
  · (repeat (first | refine Run.seq ?_ | refine Run.skip ?_ | refine Run.block ?_ | refine Run.endB ?_))
    refine Run.condT (by simp [Opd.ev]; omega) ?_
    have hil : i < l.length := by omega
    obtain ⟨x, hx⟩ : ∃ x, l[i]? = some x := ⟨l[i], by simp [hil]⟩
    have hxi : l[i] = x := Option.some.inj ((List.getElem?_eq_getElem hil).symm.trans hx)
    (repeat (first | refine Run.seq ?_ | refine Run.skip ?_ | refine Run.block ?_ | refine Run.endB ?_)); refine Run.region ?_; simp -implicitDefEqProofs [c27r3, h0, h5, h1, hx, encS]
    have hstep : findI (l.drop i) c i = if x.client = c then (i : Int) else findI (l.drop (i + 1)) c (i + 1) := by
      rw [List.drop_eq_getElem_cons hil, hxi, findI]
    by_cases hc : x.client = c
    · (repeat (first | refine Run.seq ?_ | refine Run.skip ?_ | refine Run.block ?_ | refine Run.endB ?_))
      refine Run.condT (by simp [Opd.ev, hc]) ?_
      (repeat (first | refine Run.seq ?_ | refine Run.skip ?_ | refine Run.block ?_ | refine Run.endB ?_)); refine Run.region ?_; simp -implicitDefEqProofs [c27r4, h5]
      (repeat (first | refine Run.seq ?_ | refine Run.skip ?_ | refine Run.block ?_ | refine Run.endB ?_))
      refine Run.ret0 rfl Try.func27 r27_ok trivial (by simp [r27]; rfl) ?_ (by simp)
      simp [hgo, hstep, hc]
    · (repeat (first | refine Run.seq ?_ | refine Run.skip ?_ | refine Run.block ?_ | refine Run.endB ?_))
      refine Run.condF (by simp [Opd.ev, hc]) ?_
      (repeat (first | refine Run.seq ?_ | refine Run.skip ?_ | refine Run.block ?_ | refine Run.endB ?_)); refine Run.region ?_; simp -implicitDefEqProofs [c27r5, h5]
      rw [wrap_small (by omega) (by omega)]
      refine ih (l.length - (i + 1)) _ _ (by omega) ⟨i + 1, rfl, by omega, ?_, by simp [h0], by simp [h1], by simp, rfl⟩
      rw [hgo, hstep, if_neg hc]
  · (repeat (first | refine Run.seq ?_ | refine Run.skip ?_ | refine Run.block ?_ | refine Run.endB ?_))
    refine Run.condF (by simp [Opd.ev]; omega) ?_
    refine Run.exit rfl ?_
    (repeat (first | refine Run.seq ?_ | refine Run.skip ?_ | refine Run.block ?_ | refine Run.endB ?_)); refine Run.region ?_; simp -implicitDefEqProofs [c27r6]
    (repeat (first | refine Run.seq ?_ | refine Run.skip ?_ | refine Run.block ?_ | refine Run.endB ?_))
    refine Run.ret0 rfl Try.func27 r27_ok trivial (by simp [r27]; rfl) ?_ (by simp)
    have : l.drop i = [] := List.drop_eq_nil_of_le (by omega)
    simp [hgo, this, findI]

end Go.Proofs.Yticecideodkcmaa
