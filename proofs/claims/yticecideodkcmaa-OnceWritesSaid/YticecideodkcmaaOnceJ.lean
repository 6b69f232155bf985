/-
  Layer 14, part J: Put.
-/
import Derived.Test.YticecideodkcmaaOnceI
namespace Go.Proofs.Yticecideodkcmaa
open Sx Go
set_option maxRecDepth 100000
set_option linter.unusedSimpArgs false
set_option linter.unusedVariables false
set_option linter.unnecessarySimpa false
attribute [local simp] execOps guardB isCall opStep Opd.ev put upd readAt aBin aUn args0 V.celled V.ones V.one V.cells Res.run Res.all putAt bounds bound1 elemsOf srcOf appendV fillAt fillEl V.pures V.pure unwind evs ARes.ev mkRes V.ren V.renL O.ren Br.ok eqCells eq1 aEq aMM mmGo execQ

theorem may_at (x : Seen) (H : List O) : Tri Try.prog 28 [.agg (encS x)] H (fun v H' => v = .bool (mayB x) ∧ H' = H) := (may_tri x).at rfl rfl H
theorem list_at (t : List Seen) (ht : t.length = 8) (H : List O) : Tri Try.prog 29 [.agg (tabC t)] H (fun v H' => v = .vs ((keptL t).map encS) 7 ∧ H' = H) :=
  (list_tri t ht).at rfl (by simp [V.pures, V.pure, tabC_pure]) H

/-- what Put answers -/
def putM (l : List Seen) (x : Seen) : List Seen × Int :=
  if (readM l).2 = true ∧ mayB x = true then
    if x.seq ≤ ((readM l).1.getD x.client.toNat zero).seq then ([], 140)
    else (keptL ((readM l).1.set x.client.toNat x), 0)
  else ([], 1)

theorem put_tri (l : List Seen) (hll : l.length ≤ 1000000) (x : Seen) : Tri Try.prog 12 [.vs (l.map encS) 7, .agg (encS x)] [] (fun v H => v = .tup [.vs ((putM l x).1.map encS) 7, .int .i64 (putM l x).2] ∧ H = []) := by
  refine Tri.of_run' Try.func12 rfl c12_ok (by simp [Try.ntmps12]) ?_
  (repeat (first | refine Run.seq ?_ | refine Run.skip ?_ | refine Run.block ?_ | refine Run.endB ?_)); refine Run.region ?_; simp -implicitDefEqProofs [c12r0, encS]
  (repeat (first | refine Run.seq ?_ | refine Run.skip ?_ | refine Run.block ?_ | refine Run.endB ?_)); refine Run.region ?_; simp -implicitDefEqProofs [c12r1]
  refine Run.call trivial rfl (read_at l hll _) ?_
  rintro v h' ⟨rfl, rfl⟩
  refine Run.ops ?_
  have hlen := readM_len l
  simp -implicitDefEqProofs [tabC_len, hlen, tabC_ones, tab_drop hlen]
  (repeat (first | refine Run.seq ?_ | refine Run.skip ?_ | refine Run.block ?_ | refine Run.endB ?_))
  refine Run.region ?_
  cases hr : (readM l).2 with
  | false =>
    simp -implicitDefEqProofs [c12r2, hr]
    (repeat (first | refine Run.seq ?_ | refine Run.skip ?_ | refine Run.block ?_ | refine Run.endB ?_))
    refine Run.condT (by simp [Opd.ev]) ?_
    (repeat (first | refine Run.seq ?_ | refine Run.skip ?_ | refine Run.block ?_ | refine Run.endB ?_)); refine Run.region ?_; simp -implicitDefEqProofs [c12r3]
    refine Run.leT 4 (.vs [] 7) (by simpa using VLe.nils 7) ?_
    (repeat (first | refine Run.seq ?_ | refine Run.skip ?_ | refine Run.block ?_ | refine Run.endB ?_))
    refine Run.ret0 rfl Try.func12 r12_ok trivial (by simp [r12]; rfl) ?_ (by simp)
    simp [putM, hr]
  | true =>
    simp -implicitDefEqProofs [c12r2, hr]
    refine Run.call (by simp [goes]) rfl (by simpa [Opd.ev, encS] using may_at x _) ?_
    rintro v h' ⟨rfl, rfl⟩
    refine Run.ops ?_
    simp -implicitDefEqProofs []
    cases hm : mayB x with
    | false =>
      (repeat (first | refine Run.seq ?_ | refine Run.skip ?_ | refine Run.block ?_ | refine Run.endB ?_))
      refine Run.condT (by simp [Opd.ev]) ?_
      (repeat (first | refine Run.seq ?_ | refine Run.skip ?_ | refine Run.block ?_ | refine Run.endB ?_)); refine Run.region ?_; simp -implicitDefEqProofs [c12r3]
      refine Run.leT 4 (.vs [] 7) (by simpa using VLe.nils 7) ?_
      (repeat (first | refine Run.seq ?_ | refine Run.skip ?_ | refine Run.block ?_ | refine Run.endB ?_))
      refine Run.ret0 rfl Try.func12 r12_ok trivial (by simp [r12]; rfl) ?_ (by simp)
      simp [putM, hr, hm]
    | true =>
      (repeat (first | refine Run.seq ?_ | refine Run.skip ?_ | refine Run.block ?_ | refine Run.endB ?_))
      refine Run.condF (by simp [Opd.ev]) ?_
      (repeat (first | refine Run.seq ?_ | refine Run.skip ?_ | refine Run.block ?_ | refine Run.endB ?_))
      obtain ⟨m1, m2, m3, m4, m5, m6, m7, m8, m9⟩ := mayB_spec hm
      obtain ⟨n, hc⟩ : ∃ n : Nat, x.client = n := ⟨x.client.toNat, by omega⟩
      have hn : n < 8 := by omega
      have hn' : (n : Int) < 8 := by omega
      have hb : n * 7 + 7 ≤ 56 := by omega
      have hb' : n * 7 ≤ 49 := by omega
      obtain ⟨y, hy⟩ : ∃ y, (readM l).1[n]? = some y := ⟨(readM l).1[n], by simp [hlen, hn]⟩
      have e1 : (tabC (readM l).1)[n * 7 + 1]? = some (.int .i64 y.seq) := tab_j hy (by omega)
      have hfin : putM l x = if x.seq ≤ y.seq then ([], 140) else (keptL ((readM l).1.set n x), 0) := by
        rw [putM, if_pos ⟨hr, hm⟩, hc]; simp [hy]
      have hput : putAt (tabC (readM l).1) (n * 7) (encS x) = tabC ((readM l).1.set n x) := by
        have := rows_put encS_len hy (j := 0) (vs := encS x) (y := x) (by simp [encS_len]) (by simp [putAt, encS])
        rwa [Nat.add_zero] at this
      refine Run.quiet prog_mixed (by kernel_rfl) (execQ_mono (K := fun t' h' => t' 21 = .bool (decide (x.seq ≤ y.seq)) ∧ t' 3 = .ptr 0 0 ∧ t' 6 = .ptr 1 0 ∧ h' = [.row (encS x), .row (tabC (readM l).1)]) ?_ (by simp -implicitDefEqProofs [c12d0, encS, hc, hn', e1]))
      rintro t' h' ⟨k21, k3, k6, rfl⟩
      by_cases q : x.seq ≤ y.seq
      · (repeat (first | refine Run.seq ?_ | refine Run.skip ?_ | refine Run.block ?_ | refine Run.endB ?_))
        refine Run.condT (by simp [Opd.ev, k21, q]) ?_
        (repeat (first | refine Run.seq ?_ | refine Run.skip ?_ | refine Run.block ?_ | refine Run.endB ?_)); refine Run.region ?_; simp -implicitDefEqProofs [c12r4]
        refine Run.leT 4 (.vs [] 7) (by simpa using VLe.nils 7) ?_
        (repeat (first | refine Run.seq ?_ | refine Run.skip ?_ | refine Run.block ?_ | refine Run.endB ?_))
        refine Run.ret0 rfl Try.func12 r12_ok trivial (by simp [r12]; rfl) ?_ (by simp)
        simp [hfin, q]
      · (repeat (first | refine Run.seq ?_ | refine Run.skip ?_ | refine Run.block ?_ | refine Run.endB ?_))
        refine Run.condF (by simp [Opd.ev, k21, q]) ?_
        (repeat (first | refine Run.seq ?_ | refine Run.skip ?_ | refine Run.block ?_ | refine Run.endB ?_))
        refine Run.region ?_
        refine Res.cut (fun t' h' => t' 6 = .ptr 1 0 ∧ h' = [.row (encS x), .row (tabC ((readM l).1.set n x))]) ?_ ?_
        · simp -implicitDefEqProofs [c12r5, k3, k6, hc, hn', hb, hb', encS, tabC_len, hlen]
          simpa [putAt, encS, hc] using hput
        rintro t2 h2 ⟨p6, rfl⟩
        have hlen' : ((readM l).1.set n x).length = 8 := by simp [hlen]
        (repeat (first | refine Run.seq ?_ | refine Run.skip ?_ | refine Run.block ?_ | refine Run.endB ?_)); refine Run.region ?_; simp -implicitDefEqProofs [c12r6, p6, tabC_len, hlen, tab_take hlen']
        refine Run.call trivial rfl (by simpa [Opd.ev] using list_at _ hlen' _) ?_
        rintro v h' ⟨rfl, rfl⟩
        refine Run.ops ?_
        simp -implicitDefEqProofs []
        (repeat (first | refine Run.seq ?_ | refine Run.skip ?_ | refine Run.block ?_ | refine Run.endB ?_))
        refine Run.ret0 rfl Try.func12 r12_ok trivial (by simp [r12]; rfl) ?_ (by simp)
        simp [hfin, q]

end Go.Proofs.Yticecideodkcmaa
