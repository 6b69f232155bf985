/-
  Layer 14, part Z: the law OnceWrites.
-/
import Derived.Test.YticecideodkcmaaOnceY
import Derived.Test.YticecideodkcmaaOnceO
import Derived.Test.YticecideodkcmaaOnceU
import Derived.Test.YticecideodkcmaaOnceS
namespace Go.Proofs.Yticecideodkcmaa
open Sx Go
set_option maxRecDepth 100000
set_option linter.unusedSimpArgs false
set_option linter.unusedVariables false
set_option linter.unnecessarySimpa false
attribute [local simp] guardB isCall opStep Opd.ev put readAt aBin aUn args0 V.celled V.ones V.one V.cells putAt bounds bound1 elemsOf srcOf appendV fillAt fillEl V.pures V.pure unwind evs ARes.ev mkRes V.ren V.renL O.ren eqCells eq1 aEq aMM hasTy hasTyN okTy mmGo Known HLe OLe VsLe.refl VLe.refl Stay VsLe V.frz V.frzL O.frz fr clearV rn KnownR Objs OLeO ObjsE nm back setAll ren_ite take_map_len List.take_of_length_le
attribute [local simp ↓] upd_app tl_cons tl_nil
attribute [local simp] encS_ren encS_ones

theorem vputM_ok {n : Int} (h0 : 0 ≤ n) (h1 : n ≤ 4611686018427387904) : (vputM n).1 = vput n.toNat := by rw [vputM, if_pos ⟨h0, h1⟩]
theorem take_val (x : Seen) (h : mayB x = true) : takeN 3 (valS x) = some ([x.seq.toNat, x.err.toNat, (hasI x.has).toNat], []) := by
  obtain ⟨m1, m2, m3, m4, m5, m6, m7, m8, m9⟩ := mayB_spec h
  have hh : 0 ≤ hasI x.has ∧ hasI x.has ≤ 1 := by cases x.has <;> simp [hasI]
  have e : valS x = vput x.seq.toNat ++ (vput x.err.toNat ++ (vput (hasI x.has).toNat ++ [])) := by
    simp [valS, numsS, vputM_ok (n := x.seq) (by omega) (by omega), vputM_ok (n := x.err) (by omega) (by omega), vputM_ok (n := hasI x.has) (by omega) (by omega)]
  rw [e, takeN3, vtake_put (by omega)]
  simp only [if_true, List.drop_left]
  rw [takeN2, vtake_put (by omega)]
  simp only [if_true, List.drop_left]
  rw [takeN1, vtake_put (by omega)]
  simp
theorem one_val (x : Seen) (h : mayB x = true) : oneM (keyS x.client, valS x) = some x := by
  obtain ⟨m1, m2, m3, m4, m5, m6, m7, m8, m9⟩ := mayB_spec h
  have hk : keyS x.client = [116, UInt8.ofNat (48 + x.client).toNat] := rfl
  have ht := take_val x h
  simp only [oneM, hk, if_true, ht, triple]
  have hc : ((UInt8.ofNat (48 + x.client).toNat).toNat : Int) - 48 = x.client := by
    rw [UInt8.toNat_ofNat', Nat.mod_eq_of_lt (by omega)]; omega
  obtain ⟨c, s, e, v, has, pairs, upto⟩ := x
  simp only at m1 m2 m3 m4 m5 m6 m7 m8 m9 hc ⊢
  subst m5 m6 m7
  have h1 : e.toNat ≤ 999 := by omega
  have h2 : ((e.toNat : Nat) : Int) = e := by omega
  have h3 : ((s.toNat : Nat) : Int) = s := by omega
  cases has <;> simp only [hasI, seenOf, hc, h1, h2, h3] <;> simp
theorem ofGo_val : ∀ (m : List Seen), (∀ x ∈ m, mayB x = true) → ofGo (m.map fun x => (keyS x.client, valS x)) = some m
  | [], _ => rfl
  | x :: m, h => by
    simp only [List.map_cons, ofGo, one_val x (h x (by simp)), ofGo_val m (fun y hy => h y (by simp [hy])), Option.map_some]
theorem of_val {m : List Seen} (h : okGo m (-1) = true) : ofM (m.map fun x => (keyS x.client, valS x)) = (m, 0) := by
  have := ofGo_val m fun x hx => (okGo_mem h x hx).1
  simp [ofM, this, h]

theorem rwrite_at (x : Seen) (H : List O) : Tri Try.prog 24 [.agg (encS x)] H (fun v H' => v = writeV x ∧ H' = H) := (rwrite_tri x).at rfl rfl H
theorem of_at (l : List (Bs × Bs)) (hll : l.length ≤ 1000) (hl : ∀ p ∈ l, p.2.length ≤ 1000000) (H : List O) : Tri Try.prog 21 [.vs (l.map encP) 2] H (fun v H' => v = .tup [.vs ((ofM l).1.map encS) 7, .int .i64 (ofM l).2] ∧ H' = H) := (of_tri l hll hl).at rfl rfl H
theorem rof_at (l : List (Bs × Bs)) (hll : l.length ≤ 1000) (hl : ∀ p ∈ l, p.2.length ≤ 1000000) (H : List O) : Tri Try.prog 22 [.vs (l.map encP) 2] H (fun v H' => v = .tup [.vs ((ofM l).1.map encS) 7, .int .i64 (ofM l).2] ∧ H' = H) := (rof_tri l hll hl).at rfl rfl H

theorem ofM_ok (l : List (Bs × Bs)) : okGo (ofM l).1 (-1) = true := by
  unfold ofM
  split
  · split
    · rename_i h; exact h
    · rfl
  · rfl
theorem valS_len (x : Seen) : (valS x).length ≤ 27 := by
  simp only [valS, numsS, List.flatMap_cons, List.flatMap_nil, List.length_append, List.length_nil]
  have h1 := vputM_len x.seq; have h2 := vputM_len x.err; have h3 := vputM_len (hasI x.has); omega

theorem writes_law (l : List Seen) (p : List (Bs × Bs)) : Tri Try.prog 7 [.vs (l.map encS) 7, .vs (p.map encP) 2] [] (fun v H => v = .bool true ∧ H = []) := by
  refine Tri.of_run' Try.func7 rfl c7_ok (by simp [Try.ntmps7]) ?_
  have hend : ∀ {k t h}, AtEnd k → t 4 = .bool true → Run ⟨Try.prog, 7, Try.f7.ntmps, [], fun v H => v = .bool true ∧ H = []⟩ ⟨k, t, h⟩ := by
    intro k t h hk h6
    refine Run.mv [] [(4, .bool true)] [] (by rfl) (by decide) (by simp [h6]) (by simp) ?_
    exact Run.retI Try.func7 r7_ok hk (by simp [r7]; rfl) (by simp) (by simp) (by simp) (by simp)
  (repeat (first | refine Run.seq ?_ | refine Run.reg ?_ | refine Run.skip ?_ | refine Run.block ?_ | refine Run.endB ?_ | refine Run.opE rfl ?_ | (apply Run.op0 rfl; (· (simp -implicitDefEqProofs; exact ⟨rfl, rfl⟩))) | (apply Run.opA rfl; (· (simp -implicitDefEqProofs; done)); (· (simp -implicitDefEqProofs; exact ⟨rfl, rfl⟩))) | (apply Run.opN rfl; (· (simp -implicitDefEqProofs; done))) | (refine Run.condT ?_ ?_; (· (simp -implicitDefEqProofs; done))) | (refine Run.condF ?_ ?_; (· (simp -implicitDefEqProofs; done))) | refine Run.exit rfl ?_))
  refine Run.opC rfl rfl rfl (light_at l _) ?_
  rintro v h' ⟨rfl, rfl⟩
  cases ha : lightB l with
  | false =>
    (repeat (first | refine Run.seq ?_ | refine Run.reg ?_ | refine Run.skip ?_ | refine Run.block ?_ | refine Run.endB ?_ | refine Run.opE rfl ?_ | (apply Run.op0 rfl; (· (simp -implicitDefEqProofs [ha]; exact ⟨rfl, rfl⟩))) | (apply Run.opA rfl; (· (simp -implicitDefEqProofs [ha]; done)); (· (simp -implicitDefEqProofs [ha]; exact ⟨rfl, rfl⟩))) | (apply Run.opN rfl; (· (simp -implicitDefEqProofs [ha]; done))) | (refine Run.condT ?_ ?_; (· (simp -implicitDefEqProofs [ha]; done))) | (refine Run.condF ?_ ?_; (· (simp -implicitDefEqProofs [ha]; done))) | refine Run.exit rfl ?_))
    refine Run.opC rfl rfl rfl (awake_at _) ?_
    rintro v h' ⟨rfl, rfl⟩
    (repeat (first | refine Run.seq ?_ | refine Run.reg ?_ | refine Run.skip ?_ | refine Run.block ?_ | refine Run.endB ?_ | refine Run.opE rfl ?_ | (apply Run.op0 rfl; (· (simp -implicitDefEqProofs; exact ⟨rfl, rfl⟩))) | (apply Run.opA rfl; (· (simp -implicitDefEqProofs; done)); (· (simp -implicitDefEqProofs; exact ⟨rfl, rfl⟩))) | (apply Run.opN rfl; (· (simp -implicitDefEqProofs; done))) | (refine Run.condT ?_ ?_; (· (simp -implicitDefEqProofs; done))) | (refine Run.condF ?_ ?_; (· (simp -implicitDefEqProofs; done))) | refine Run.exit rfl ?_))
    exact hend trivial (by simp)
  | true =>
  have la := light_len ha
  by_cases hp20 : p.length ≤ 20
  rotate_left
  · have hp20' : (20 : Int) < p.length := by omega
    (repeat (first | refine Run.seq ?_ | refine Run.reg ?_ | refine Run.skip ?_ | refine Run.block ?_ | refine Run.endB ?_ | refine Run.opE rfl ?_ | (apply Run.op0 rfl; (· (simp -implicitDefEqProofs [ha, hp20']; exact ⟨rfl, rfl⟩))) | (apply Run.opA rfl; (· (simp -implicitDefEqProofs [ha, hp20']; done)); (· (simp -implicitDefEqProofs [ha, hp20']; exact ⟨rfl, rfl⟩))) | (apply Run.opN rfl; (· (simp -implicitDefEqProofs [ha, hp20']; done))) | (refine Run.condT ?_ ?_; (· (simp -implicitDefEqProofs [ha, hp20']; done))) | (refine Run.condF ?_ ?_; (· (simp -implicitDefEqProofs [ha, hp20']; done))) | refine Run.exit rfl ?_))
    refine Run.opC rfl (by simp) rfl (awake_at _) ?_
    rintro v h' ⟨rfl, rfl⟩
    (repeat (first | refine Run.seq ?_ | refine Run.reg ?_ | refine Run.skip ?_ | refine Run.block ?_ | refine Run.endB ?_ | refine Run.opE rfl ?_ | (apply Run.op0 rfl; (· (simp -implicitDefEqProofs; exact ⟨rfl, rfl⟩))) | (apply Run.opA rfl; (· (simp -implicitDefEqProofs; done)); (· (simp -implicitDefEqProofs; exact ⟨rfl, rfl⟩))) | (apply Run.opN rfl; (· (simp -implicitDefEqProofs; done))) | (refine Run.condT ?_ ?_; (· (simp -implicitDefEqProofs; done))) | (refine Run.condF ?_ ?_; (· (simp -implicitDefEqProofs; done))) | refine Run.exit rfl ?_))
    exact hend trivial (by simp)
  have hp20' : ¬ (20 : Int) < p.length := by omega
  (repeat (first | refine Run.seq ?_ | refine Run.reg ?_ | refine Run.skip ?_ | refine Run.block ?_ | refine Run.endB ?_ | refine Run.opE rfl ?_ | (apply Run.op0 rfl; (· (simp -implicitDefEqProofs [ha, hp20']; exact ⟨rfl, rfl⟩))) | (apply Run.opA rfl; (· (simp -implicitDefEqProofs [ha, hp20']; done)); (· (simp -implicitDefEqProofs [ha, hp20']; exact ⟨rfl, rfl⟩))) | (apply Run.opN rfl; (· (simp -implicitDefEqProofs [ha, hp20']; done))) | (refine Run.condT ?_ ?_; (· (simp -implicitDefEqProofs [ha, hp20']; done))) | (refine Run.condF ?_ ?_; (· (simp -implicitDefEqProofs [ha, hp20']; done))) | refine Run.exit rfl ?_))
  refine Run.loopC [] (fun (i : Nat) => ([(0, .vs (l.map encS) 7), (1, .vs (p.map encP) 2), (5, .int .i64 i)], [])) (fun i => i ≤ p.length ∧ ∀ q ∈ p.take i, q.1.length ≤ 100 ∧ q.2.length ≤ 100) (fun i => p.length - i) 0 (by simp) (by rfl) (by decide) (by simp) (by simp) ?_
  rintro i ⟨hi, hq⟩ ih
  by_cases hlt : i < p.length
  · obtain ⟨⟨a, b⟩, hw, hw2, -, hmem⟩ := getL hlt
    have hwr := wrap_small (n := (i : Int) + 1) (by omega) (by omega)
    by_cases h1 : a.length ≤ 100
    · have h1' : ¬ (100 : Int) < a.length := by omega
      by_cases h2 : b.length ≤ 100
      · have h2' : ¬ (100 : Int) < b.length := by omega
        (repeat (first | refine Run.seq ?_ | refine Run.reg ?_ | refine Run.skip ?_ | refine Run.block ?_ | refine Run.endB ?_ | refine Run.opE rfl ?_ | (apply Run.op0 rfl; (· (simp -implicitDefEqProofs [hlt, hw, hw2, encP, h1', h2']; exact ⟨rfl, rfl⟩))) | (apply Run.opA rfl; (· (simp -implicitDefEqProofs [hlt, hw, hw2, encP, h1', h2']; done)); (· (simp -implicitDefEqProofs [hlt, hw, hw2, encP, h1', h2']; exact ⟨rfl, rfl⟩))) | (apply Run.opN rfl; (· (simp -implicitDefEqProofs [hlt, hw, hw2, encP, h1', h2']; done))) | (refine Run.condT ?_ ?_; (· (simp -implicitDefEqProofs [hlt, hw, hw2, encP, h1', h2']; done))) | (refine Run.condF ?_ ?_; (· (simp -implicitDefEqProofs [hlt, hw, hw2, encP, h1', h2']; done))) | refine Run.exit rfl ?_))
        refine Run.mv [] _ _ (by rfl) (by decide) (by simp -implicitDefEqProofs [hwr]) (by simp -implicitDefEqProofs [hwr]) (ih (i + 1) ?_ ?_)
        · refine ⟨by omega, fun q hqm => ?_⟩
          rw [List.take_add_one, hw] at hqm
          rcases List.mem_append.1 hqm with hqm | hqm
          · exact hq q hqm
          · simp at hqm; subst hqm; exact ⟨h1, h2⟩
        · omega
      · have h2' : (100 : Int) < b.length := by omega
        (repeat (first | refine Run.seq ?_ | refine Run.reg ?_ | refine Run.skip ?_ | refine Run.block ?_ | refine Run.endB ?_ | refine Run.opE rfl ?_ | (apply Run.op0 rfl; (· (simp -implicitDefEqProofs [hlt, hw, hw2, encP, h1', h2']; exact ⟨rfl, rfl⟩))) | (apply Run.opA rfl; (· (simp -implicitDefEqProofs [hlt, hw, hw2, encP, h1', h2']; done)); (· (simp -implicitDefEqProofs [hlt, hw, hw2, encP, h1', h2']; exact ⟨rfl, rfl⟩))) | (apply Run.opN rfl; (· (simp -implicitDefEqProofs [hlt, hw, hw2, encP, h1', h2']; done))) | (refine Run.condT ?_ ?_; (· (simp -implicitDefEqProofs [hlt, hw, hw2, encP, h1', h2']; done))) | (refine Run.condF ?_ ?_; (· (simp -implicitDefEqProofs [hlt, hw, hw2, encP, h1', h2']; done))) | refine Run.exit rfl ?_))
        refine Run.opC rfl (by simp) rfl (awake_at _) ?_
        rintro v h' ⟨rfl, rfl⟩
        (repeat (first | refine Run.seq ?_ | refine Run.reg ?_ | refine Run.skip ?_ | refine Run.block ?_ | refine Run.endB ?_ | refine Run.opE rfl ?_ | (apply Run.op0 rfl; (· (simp -implicitDefEqProofs; exact ⟨rfl, rfl⟩))) | (apply Run.opA rfl; (· (simp -implicitDefEqProofs; done)); (· (simp -implicitDefEqProofs; exact ⟨rfl, rfl⟩))) | (apply Run.opN rfl; (· (simp -implicitDefEqProofs; done))) | (refine Run.condT ?_ ?_; (· (simp -implicitDefEqProofs; done))) | (refine Run.condF ?_ ?_; (· (simp -implicitDefEqProofs; done))) | refine Run.exit rfl ?_))
        exact hend trivial (by simp)
    · have h1' : (100 : Int) < a.length := by omega
      (repeat (first | refine Run.seq ?_ | refine Run.reg ?_ | refine Run.skip ?_ | refine Run.block ?_ | refine Run.endB ?_ | refine Run.opE rfl ?_ | (apply Run.op0 rfl; (· (simp -implicitDefEqProofs [hlt, hw, hw2, encP, h1']; exact ⟨rfl, rfl⟩))) | (apply Run.opA rfl; (· (simp -implicitDefEqProofs [hlt, hw, hw2, encP, h1']; done)); (· (simp -implicitDefEqProofs [hlt, hw, hw2, encP, h1']; exact ⟨rfl, rfl⟩))) | (apply Run.opN rfl; (· (simp -implicitDefEqProofs [hlt, hw, hw2, encP, h1']; done))) | (refine Run.condT ?_ ?_; (· (simp -implicitDefEqProofs [hlt, hw, hw2, encP, h1']; done))) | (refine Run.condF ?_ ?_; (· (simp -implicitDefEqProofs [hlt, hw, hw2, encP, h1']; done))) | refine Run.exit rfl ?_))
      refine Run.opC rfl (by simp) rfl (awake_at _) ?_
      rintro v h' ⟨rfl, rfl⟩
      (repeat (first | refine Run.seq ?_ | refine Run.reg ?_ | refine Run.skip ?_ | refine Run.block ?_ | refine Run.endB ?_ | refine Run.opE rfl ?_ | (apply Run.op0 rfl; (· (simp -implicitDefEqProofs; exact ⟨rfl, rfl⟩))) | (apply Run.opA rfl; (· (simp -implicitDefEqProofs; done)); (· (simp -implicitDefEqProofs; exact ⟨rfl, rfl⟩))) | (apply Run.opN rfl; (· (simp -implicitDefEqProofs; done))) | (refine Run.condT ?_ ?_; (· (simp -implicitDefEqProofs; done))) | (refine Run.condF ?_ ?_; (· (simp -implicitDefEqProofs; done))) | refine Run.exit rfl ?_))
      exact hend trivial (by simp)
  have hie : i = p.length := by omega
  subst hie
  have hpl : ∀ q ∈ p, q.2.length ≤ 1000000 := fun q hm => by have := (hq q (by simpa using hm)).2; omega
  clear ih
  (repeat (first | refine Run.seq ?_ | refine Run.reg ?_ | refine Run.skip ?_ | refine Run.block ?_ | refine Run.endB ?_ | refine Run.opE rfl ?_ | (apply Run.op0 rfl; (· (simp -implicitDefEqProofs; exact ⟨rfl, rfl⟩))) | (apply Run.opA rfl; (· (simp -implicitDefEqProofs; done)); (· (simp -implicitDefEqProofs; exact ⟨rfl, rfl⟩))) | (apply Run.opN rfl; (· (simp -implicitDefEqProofs; done))) | (refine Run.condT ?_ ?_; (· (simp -implicitDefEqProofs; done))) | (refine Run.condF ?_ ?_; (· (simp -implicitDefEqProofs; done))) | refine Run.exit rfl ?_))
  refine Run.opC rfl rfl rfl (of_at p (by omega) hpl _) ?_
  rintro v h' ⟨rfl, rfl⟩
  (repeat (first | refine Run.seq ?_ | refine Run.reg ?_ | refine Run.skip ?_ | refine Run.block ?_ | refine Run.endB ?_ | refine Run.opE rfl ?_ | (apply Run.op0 rfl; (· (simp -implicitDefEqProofs; exact ⟨rfl, rfl⟩))) | (apply Run.opA rfl; (· (simp -implicitDefEqProofs; done)); (· (simp -implicitDefEqProofs; exact ⟨rfl, rfl⟩))) | (apply Run.opN rfl; (· (simp -implicitDefEqProofs; done))) | (refine Run.condT ?_ ?_; (· (simp -implicitDefEqProofs; done))) | (refine Run.condF ?_ ?_; (· (simp -implicitDefEqProofs; done))) | refine Run.exit rfl ?_))
  refine Run.opC rfl rfl rfl (rof_at p (by omega) hpl _) ?_
  rintro v h' ⟨rfl, rfl⟩
  (repeat (first | refine Run.seq ?_ | refine Run.reg ?_ | refine Run.skip ?_ | refine Run.block ?_ | refine Run.endB ?_ | refine Run.opE rfl ?_ | (apply Run.op0 rfl; (· (simp -implicitDefEqProofs; exact ⟨rfl, rfl⟩))) | (apply Run.opA rfl; (· (simp -implicitDefEqProofs; done)); (· (simp -implicitDefEqProofs; exact ⟨rfl, rfl⟩))) | (apply Run.opN rfl; (· (simp -implicitDefEqProofs; done))) | (refine Run.condT ?_ ?_; (· (simp -implicitDefEqProofs; done))) | (refine Run.condF ?_ ?_; (· (simp -implicitDefEqProofs; done))) | refine Run.exit rfl ?_))
  refine Run.opC rfl rfl rfl (same_at _ _ (ok_len6 (ofM_ok p)) (ok_pairs (ofM_ok p)) _) ?_
  rintro v h' ⟨rfl, rfl⟩
  (repeat (first | refine Run.seq ?_ | refine Run.reg ?_ | refine Run.skip ?_ | refine Run.block ?_ | refine Run.endB ?_ | refine Run.opE rfl ?_ | (apply Run.op0 rfl; (· (simp -implicitDefEqProofs; exact ⟨rfl, rfl⟩))) | (apply Run.opA rfl; (· (simp -implicitDefEqProofs; done)); (· (simp -implicitDefEqProofs; exact ⟨rfl, rfl⟩))) | (apply Run.opN rfl; (· (simp -implicitDefEqProofs; done))) | (refine Run.condT ?_ ?_; (· (simp -implicitDefEqProofs; done))) | (refine Run.condF ?_ ?_; (· (simp -implicitDefEqProofs; done))) | refine Run.exit rfl ?_))
  refine Run.loopC [] (fun (i : Nat) => ([(0, .vs (l.map encS) 7), (10, .int .i64 i)], [])) (fun i => i ≤ l.length) (fun i => l.length - i) 0 (by simp) (by rfl) (by decide) (by simp) (by simp) ?_
  intro i hi ih
  by_cases hlt : i < l.length
  · obtain ⟨x, hw, hw2, -, hmem⟩ := getL hlt
    have hwr := wrap_small (n := (i : Int) + 1) (by omega) (by omega)
    have wt := write_at x; have rwt := rwrite_at x
    simp only [encS, encR] at wt rwt
    (repeat (first | refine Run.seq ?_ | refine Run.reg ?_ | refine Run.skip ?_ | refine Run.block ?_ | refine Run.endB ?_ | refine Run.opE rfl ?_ | (apply Run.op0 rfl; (· (simp -implicitDefEqProofs [hlt, hw, hw2, encS, encR]; exact ⟨rfl, rfl⟩))) | (apply Run.opA rfl; (· (simp -implicitDefEqProofs [hlt, hw, hw2, encS, encR]; done)); (· (simp -implicitDefEqProofs [hlt, hw, hw2, encS, encR]; exact ⟨rfl, rfl⟩))) | (apply Run.opN rfl; (· (simp -implicitDefEqProofs [hlt, hw, hw2, encS, encR]; done))) | (refine Run.condT ?_ ?_; (· (simp -implicitDefEqProofs [hlt, hw, hw2, encS, encR]; done))) | (refine Run.condF ?_ ?_; (· (simp -implicitDefEqProofs [hlt, hw, hw2, encS, encR]; done))) | refine Run.exit rfl ?_))
    refine Run.opC rfl rfl rfl (wt _) ?_
    rintro v h' ⟨rfl, rfl⟩
    (repeat (first | refine Run.seq ?_ | refine Run.reg ?_ | refine Run.skip ?_ | refine Run.block ?_ | refine Run.endB ?_ | refine Run.opE rfl ?_ | (apply Run.op0 rfl; (· (simp -implicitDefEqProofs [hlt, hw, hw2, encS, encR, writeV]; exact ⟨rfl, rfl⟩))) | (apply Run.opA rfl; (· (simp -implicitDefEqProofs [hlt, hw, hw2, encS, encR, writeV]; done)); (· (simp -implicitDefEqProofs [hlt, hw, hw2, encS, encR, writeV]; exact ⟨rfl, rfl⟩))) | (apply Run.opN rfl; (· (simp -implicitDefEqProofs [hlt, hw, hw2, encS, encR, writeV]; done))) | (refine Run.condT ?_ ?_; (· (simp -implicitDefEqProofs [hlt, hw, hw2, encS, encR, writeV]; done))) | (refine Run.condF ?_ ?_; (· (simp -implicitDefEqProofs [hlt, hw, hw2, encS, encR, writeV]; done))) | refine Run.exit rfl ?_))
    refine Run.opC rfl rfl rfl (rwt _) ?_
    rintro v h' ⟨rfl, rfl⟩
    (repeat (first | refine Run.seq ?_ | refine Run.reg ?_ | refine Run.skip ?_ | refine Run.block ?_ | refine Run.endB ?_ | refine Run.opE rfl ?_ | (apply Run.op0 rfl; (· (simp -implicitDefEqProofs [writeV]; exact ⟨rfl, rfl⟩))) | (apply Run.opA rfl; (· (simp -implicitDefEqProofs [writeV]; done)); (· (simp -implicitDefEqProofs [writeV]; exact ⟨rfl, rfl⟩))) | (apply Run.opN rfl; (· (simp -implicitDefEqProofs [writeV]; done))) | (refine Run.condT ?_ ?_; (· (simp -implicitDefEqProofs [writeV]; done))) | (refine Run.condF ?_ ?_; (· (simp -implicitDefEqProofs [writeV]; done))) | refine Run.exit rfl ?_))
    refine Run.mv [] _ _ (by rfl) (by decide) (by simp -implicitDefEqProofs [hwr]) (by simp -implicitDefEqProofs [hwr]) (ih (i + 1) ?_ ?_)
    · omega
    · omega
  clear ih
  have hie : i = l.length := by omega
  subst hie
  (repeat (first | refine Run.seq ?_ | refine Run.reg ?_ | refine Run.skip ?_ | refine Run.block ?_ | refine Run.endB ?_ | refine Run.opE rfl ?_ | (apply Run.op0 rfl; (· (simp -implicitDefEqProofs; exact ⟨rfl, rfl⟩))) | (apply Run.opA rfl; (· (simp -implicitDefEqProofs; done)); (· (simp -implicitDefEqProofs; exact ⟨rfl, rfl⟩))) | (apply Run.opN rfl; (· (simp -implicitDefEqProofs; done))) | (refine Run.condT ?_ ?_; (· (simp -implicitDefEqProofs; done))) | (refine Run.condF ?_ ?_; (· (simp -implicitDefEqProofs; done))) | refine Run.exit rfl ?_))
  refine Run.opC rfl rfl rfl (made_at l (by omega) _) ?_
  rintro v h' ⟨rfl, rfl⟩
  have ox := made_ok l [] rfl
  generalize madeM l [] = m at *
  have lm := ok_len8 ox
  (repeat (first | refine Run.seq ?_ | refine Run.reg ?_ | refine Run.skip ?_ | refine Run.block ?_ | refine Run.endB ?_ | refine Run.opE rfl ?_ | (apply Run.op0 rfl; (· (simp -implicitDefEqProofs; exact ⟨rfl, rfl⟩))) | (apply Run.opA rfl; (· (simp -implicitDefEqProofs; done)); (· (simp -implicitDefEqProofs; exact ⟨rfl, rfl⟩))) | (apply Run.opN rfl; (· (simp -implicitDefEqProofs; done))) | (refine Run.condT ?_ ?_; (· (simp -implicitDefEqProofs; done))) | (refine Run.condF ?_ ?_; (· (simp -implicitDefEqProofs; done))) | refine Run.exit rfl ?_))
  refine Run.nilA 15 2 (by simp) ?_
  refine Run.loopC [0] (fun (i : Nat) => ([(15, .sl 0 0 i 2 none), (16, .vs (m.map encS) 7), (17, .int .i64 i)], [.arr ((m.take i).map fun x => encP (keyS x.client, valS x)) 2])) (fun i => i ≤ m.length) (fun i => m.length - i) 0 (by simp) (by rfl) (by decide) (by simp) (by simp) ?_
  intro i hi ih
  by_cases hlt : i < m.length
  · obtain ⟨x, hw, hw2, -, hmem⟩ := getL hlt
    have hwr := wrap_small (n := (i : Int) + 1) (by omega) (by omega)
    have wt := write_at x
    have hm := (okGo_mem ox x hmem).1
    have hbb : (i + 1) * 32 ≤ 70368744177664 := by omega
    have htk : min i m.length = i := by omega
    simp only [encS, encR] at wt
    (repeat (first | refine Run.seq ?_ | refine Run.reg ?_ | refine Run.skip ?_ | refine Run.block ?_ | refine Run.endB ?_ | refine Run.opE rfl ?_ | (apply Run.op0 rfl; (· (simp -implicitDefEqProofs [hlt, hw, hw2, encS, encR]; exact ⟨rfl, rfl⟩))) | (apply Run.opA rfl; (· (simp -implicitDefEqProofs [hlt, hw, hw2, encS, encR]; done)); (· (simp -implicitDefEqProofs [hlt, hw, hw2, encS, encR]; exact ⟨rfl, rfl⟩))) | (apply Run.opN rfl; (· (simp -implicitDefEqProofs [hlt, hw, hw2, encS, encR]; done))) | (refine Run.condT ?_ ?_; (· (simp -implicitDefEqProofs [hlt, hw, hw2, encS, encR]; done))) | (refine Run.condF ?_ ?_; (· (simp -implicitDefEqProofs [hlt, hw, hw2, encS, encR]; done))) | refine Run.exit rfl ?_))
    refine Run.opC rfl rfl rfl (wt _) ?_
    rintro v h' ⟨rfl, rfl⟩
    (repeat (first | refine Run.seq ?_ | refine Run.reg ?_ | refine Run.skip ?_ | refine Run.block ?_ | refine Run.endB ?_ | refine Run.opE rfl ?_ | (apply Run.op0 rfl; (· (simp -implicitDefEqProofs [writeV, writeM, hm, hbb, htk]; exact ⟨rfl, rfl⟩))) | (apply Run.opA rfl; (· (simp -implicitDefEqProofs [writeV, writeM, hm, hbb, htk]; done)); (· (simp -implicitDefEqProofs [writeV, writeM, hm, hbb, htk]; exact ⟨rfl, rfl⟩))) | (apply Run.opN rfl; (· (simp -implicitDefEqProofs [writeV, writeM, hm, hbb, htk]; done))) | (refine Run.condT ?_ ?_; (· (simp -implicitDefEqProofs [writeV, writeM, hm, hbb, htk]; done))) | (refine Run.condF ?_ ?_; (· (simp -implicitDefEqProofs [writeV, writeM, hm, hbb, htk]; done))) | refine Run.exit rfl ?_))
    refine Run.mv [3] _ _ (by rfl) (by decide) (by simp -implicitDefEqProofs [hwr, List.take_add_one, hw, encP, List.map_append]) (by simp -implicitDefEqProofs [hwr, List.take_add_one, hw, encP, List.map_append]) (ih (i + 1) ?_ ?_)
    · omega
    · omega
  clear ih
  have hie : i = m.length := by omega
  subst hie
  (repeat (first | refine Run.seq ?_ | refine Run.reg ?_ | refine Run.skip ?_ | refine Run.block ?_ | refine Run.endB ?_ | refine Run.opE rfl ?_ | (apply Run.op0 rfl; (· (simp -implicitDefEqProofs; exact ⟨rfl, rfl⟩))) | (apply Run.opA rfl; (· (simp -implicitDefEqProofs; done)); (· (simp -implicitDefEqProofs; exact ⟨rfl, rfl⟩))) | (apply Run.opN rfl; (· (simp -implicitDefEqProofs; done))) | (refine Run.condT ?_ ?_; (· (simp -implicitDefEqProofs; done))) | (refine Run.condF ?_ ?_; (· (simp -implicitDefEqProofs; done))) | refine Run.exit rfl ?_))
  refine Run.freeze 0 (es := (m.map fun x => (keyS x.client, valS x)).map encP) (sz := 2) (by simp) ?_
  have hof := of_val ox
  have hofa := of_at (m.map fun x => (keyS x.client, valS x)) (by simp; omega) (fun q hq => by
    obtain ⟨y, -, rfl⟩ := List.mem_map.1 hq
    have := valS_len y; simp only; omega)
  rw [hof] at hofa
  refine Run.opC rfl (by simp) rfl (by simpa using hofa _) ?_
  rintro v h' ⟨rfl, rfl⟩
  (repeat (first | refine Run.seq ?_ | refine Run.reg ?_ | refine Run.skip ?_ | refine Run.block ?_ | refine Run.endB ?_ | refine Run.opE rfl ?_ | (apply Run.op0 rfl; (· (simp -implicitDefEqProofs; exact ⟨rfl, rfl⟩))) | (apply Run.opA rfl; (· (simp -implicitDefEqProofs; done)); (· (simp -implicitDefEqProofs; exact ⟨rfl, rfl⟩))) | (apply Run.opN rfl; (· (simp -implicitDefEqProofs; done))) | (refine Run.condT ?_ ?_; (· (simp -implicitDefEqProofs; done))) | (refine Run.condF ?_ ?_; (· (simp -implicitDefEqProofs; done))) | refine Run.exit rfl ?_))
  refine Run.opC rfl (by simp) rfl (same_at m m (ok_len6 ox) (ok_pairs ox) _) ?_
  rintro v h' ⟨rfl, rfl⟩
  (repeat (first | refine Run.seq ?_ | refine Run.reg ?_ | refine Run.skip ?_ | refine Run.block ?_ | refine Run.endB ?_ | refine Run.opE rfl ?_ | (apply Run.op0 rfl; (· (simp -implicitDefEqProofs; exact ⟨rfl, rfl⟩))) | (apply Run.opA rfl; (· (simp -implicitDefEqProofs; done)); (· (simp -implicitDefEqProofs; exact ⟨rfl, rfl⟩))) | (apply Run.opN rfl; (· (simp -implicitDefEqProofs; done))) | (refine Run.condT ?_ ?_; (· (simp -implicitDefEqProofs; done))) | (refine Run.condF ?_ ?_; (· (simp -implicitDefEqProofs; done))) | refine Run.exit rfl ?_))
  refine Run.opC rfl (by simp) rfl (awake_at _) ?_
  rintro v h' ⟨rfl, rfl⟩
  (repeat (first | refine Run.seq ?_ | refine Run.reg ?_ | refine Run.skip ?_ | refine Run.block ?_ | refine Run.endB ?_ | refine Run.opE rfl ?_ | (apply Run.op0 rfl; (· (simp -implicitDefEqProofs; exact ⟨rfl, rfl⟩))) | (apply Run.opA rfl; (· (simp -implicitDefEqProofs; done)); (· (simp -implicitDefEqProofs; exact ⟨rfl, rfl⟩))) | (apply Run.opN rfl; (· (simp -implicitDefEqProofs; done))) | (refine Run.condT ?_ ?_; (· (simp -implicitDefEqProofs; done))) | (refine Run.condF ?_ ?_; (· (simp -implicitDefEqProofs; done))) | refine Run.exit rfl ?_))
  exact hend trivial (by simp)

end Go.Proofs.Yticecideodkcmaa
