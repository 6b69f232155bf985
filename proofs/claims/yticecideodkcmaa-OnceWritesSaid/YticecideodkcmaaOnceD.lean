/-
  Layer 14, part D: Find and Check.
-/
import Derived.Test.YticecideodkcmaaOnceC
namespace Go.Proofs.Yticecideodkcmaa
open Sx Go
set_option maxRecDepth 100000
set_option linter.unusedSimpArgs false
set_option linter.unusedVariables false
set_option linter.unnecessarySimpa false
attribute [local simp] execOps guardB isCall opStep Opd.ev put upd readAt aBin aUn args0 V.celled V.ones V.one V.cells Res.run Res.all putAt bounds bound1 elemsOf srcOf appendV fillAt fillEl V.pures V.pure unwind evs ARes.ev mkRes V.ren V.renL O.ren Br.ok eqCells eq1 aEq aMM mmGo execQ

theorem encSs_pure (l : List Seen) : V.pures [.vs (l.map encS) 7] = true := rfl
theorem read_at (l : List Seen) (hll : l.length ≤ 1000000) (H : List O) : Tri Try.prog 25 [.vs (l.map encS) 7] H (fun v H' => v = .tup [.agg (tabC (readM l).1), .bool (readM l).2] ∧ H' = H) :=
  (read_tri l hll).at (by simp [V.pure, V.pures, tabC_pure]) rfl H

theorem readGo_len : ∀ {l t : List Seen} {last : Int} {t' : List Seen}, readGo l t last = some t' → t'.length = t.length
  | [], t, last, t', h => by simp [readGo] at h; rw [h]
  | x :: l, t, last, t', h => by
    simp only [readGo] at h
    split at h
    · have := readGo_len h; simpa using this
    · cases h

theorem readM_len (l : List Seen) : (readM l).1.length = 8 := by
  unfold readM
  cases h : readGo l tab0 (-1) with
  | none => rfl
  | some t => exact readGo_len h

theorem tab_d7 {t : List Seen} {i : Nat} {y : Seen} (h : t[i]? = some y) : ((tabC t).drop (i * 7)).take 7 = encS y := by
  have := rows_read (f := encS) (w := 7) encS_len h (j := 0) (k := some 7) (by simp)
  obtain ⟨hi, _⟩ := List.getElem?_eq_some_iff.1 h
  have hl : (List.flatMap encS t).length = t.length * 7 := tabC_len t
  rw [readAt, if_pos (by rw [hl]; omega)] at this
  simpa [readAt, tabC, encS] using this
theorem tab_d5 {t : List Seen} {i : Nat} {y : Seen} (h : t[i]? = some y) : ((tabC t).drop (i * 7 + 2)).take 5 = encR y := by
  have := rows_read (f := encS) (w := 7) encS_len h (j := 2) (k := some 5) (by simp)
  obtain ⟨hi, _⟩ := List.getElem?_eq_some_iff.1 h
  have hl : (List.flatMap encS t).length = t.length * 7 := tabC_len t
  rw [readAt, if_pos (by rw [hl]; omega)] at this
  simpa [readAt, encS_len, tabC, encS, encR] using this
theorem tab_j {t : List Seen} {i : Nat} {y : Seen} (h : t[i]? = some y) {j : Nat} (hj : j < 7) : (tabC t)[i * 7 + j]? = (encS y)[j]? := rows_get encS_len h hj

def argOk (c s : Int) : Bool := !(decide (c < 0) || decide (8 ≤ c) || decide (s < 1) || decide (1099511627775 < s))

/-- what Find answers, out of a table -/
def findM (l : List Seen) (c s : Int) : Seen × Int :=
  if (readM l).2 = true ∧ argOk c s = true then
    if ((readM l).1.getD c.toNat zero).seq < s then (zero, 3)
    else if s < ((readM l).1.getD c.toNat zero).seq then (zero, 140)
    else ((readM l).1.getD c.toNat zero, 0)
  else (zero, 1)

theorem encR_pure (x : Seen) : V.pures (encR x) = true := rfl
def zeroR : List V := [V.int .i64 0, .str [], .bool false, .nils, .str []]
theorem zeroR_le : VsLe zeroR (encR zero) := ⟨VLe.refl _, VLe.refl _, VLe.refl _, VLe.nils _, VLe.refl _, trivial⟩

theorem find_tri (l : List Seen) (hll : l.length ≤ 1000000) (c s : Int) : Tri Try.prog 10 [.vs (l.map encS) 7, .int .i64 c, .int .i64 s] [] (fun v H => v = .tup [.agg (encR (findM l c s).1), .int .i64 (findM l c s).2] ∧ H = []) := by
  refine Tri.of_run' Try.func10 rfl c10_ok (by simp [Try.ntmps10]) ?_
  (repeat (first | refine Run.seq ?_ | refine Run.skip ?_ | refine Run.block ?_ | refine Run.endB ?_)); refine Run.region ?_; simp -implicitDefEqProofs [c10r0]
  (repeat (first | refine Run.seq ?_ | refine Run.skip ?_ | refine Run.block ?_ | refine Run.endB ?_)); refine Run.region ?_; simp -implicitDefEqProofs [c10r1]
  refine Run.call trivial rfl (read_at l hll _) ?_
  rintro v h' ⟨rfl, rfl⟩
  refine Run.ops ?_
  have hlen := readM_len l
  simp -implicitDefEqProofs [tabC_len, hlen, tabC_ones, tab_drop hlen]
  (repeat (first | refine Run.seq ?_ | refine Run.skip ?_ | refine Run.block ?_ | refine Run.endB ?_))
  refine Run.region ?_
  refine Res.cut (fun t' h' => t' 33 = .bool (!((readM l).2 && argOk c s)) ∧ t' 1 = .int .i64 c ∧ t' 2 = .int .i64 s ∧ t' 6 = .ptr 0 0 ∧ t' 8 = .ptr 1 0 ∧ h' = [.row zeroR, .row (tabC (readM l).1)]) ?_ ?_
  · by_cases a1 : (readM l).2 = false
    · simp -implicitDefEqProofs [c10r2, zeroR, argOk, a1]
    by_cases a2 : c < 0
    · simp -implicitDefEqProofs [c10r2, zeroR, argOk, a1, a2]
    by_cases a3 : 8 ≤ c
    · simp -implicitDefEqProofs [c10r2, zeroR, argOk, a1, a2, a3]
    by_cases a4 : s < 1
    · simp -implicitDefEqProofs [c10r2, zeroR, argOk, a1, a2, a3, a4]
    by_cases a5 : 1099511627775 < s
    · simp -implicitDefEqProofs [c10r2, zeroR, argOk, a1, a2, a3, a4, a5]
    simp -implicitDefEqProofs [c10r2, zeroR, argOk, a1, a2, a3, a4, a5]
  rintro t h ⟨k33, k1, k2, k6, k8, rfl⟩
  by_cases hok : (readM l).2 = true ∧ argOk c s = true
  · (repeat (first | refine Run.seq ?_ | refine Run.skip ?_ | refine Run.block ?_ | refine Run.endB ?_))
    refine Run.condF (by simp [Opd.ev, k33, hok]) ?_
    have hok' := hok
    simp only [argOk, Bool.not_eq_true', Bool.or_eq_false_iff, decide_eq_false_iff_not] at hok
    obtain ⟨hr, ⟨⟨hc0, hc8⟩, hs1⟩, hs2⟩ := hok
    obtain ⟨n, rfl⟩ : ∃ n : Nat, c = n := ⟨c.toNat, by omega⟩
    have hn : n < 8 := by omega
    have hn' : (n : Int) < 8 := by omega
    have hb : n * 7 + 7 ≤ 56 := by omega
    have hb' : n * 7 ≤ 49 := by omega
    obtain ⟨y, hy⟩ : ∃ y, (readM l).1[n]? = some y := ⟨(readM l).1[n], by simp [hlen, hn]⟩
    have hgd : (readM l).1.getD n zero = y := by rw [List.getD_eq_getElem?_getD, hy]; rfl
    have e7 := tab_d7 hy
    have e5 := tab_d5 hy
    (repeat (first | refine Run.seq ?_ | refine Run.skip ?_ | refine Run.block ?_ | refine Run.endB ?_)); refine Run.region ?_; simp -implicitDefEqProofs [c10r4, k1, k2, k6, k8, hn', hb, hb', e7, encS_len, encS_ones, tabC_len, hlen]
    (repeat (first | refine Run.seq ?_ | refine Run.skip ?_ | refine Run.block ?_ | refine Run.endB ?_)); refine Run.region ?_; simp -implicitDefEqProofs [c10r5, k1, k2, k6, k8, encS]
    have hfin : findM l n s = if y.seq < s then (zero, 3) else if s < y.seq then (zero, 140) else (y, 0) := by
      rw [findM, if_pos hok']; simp [hy]
    by_cases q1 : y.seq < s
    · (repeat (first | refine Run.seq ?_ | refine Run.skip ?_ | refine Run.block ?_ | refine Run.endB ?_))
      refine Run.condT (by simp [Opd.ev, q1]) ?_
      (repeat (first | refine Run.seq ?_ | refine Run.skip ?_ | refine Run.block ?_ | refine Run.endB ?_)); refine Run.region ?_; simp -implicitDefEqProofs [c10r6, k6, zeroR]
      refine Run.leH [.row (encR zero), .row (tabC (readM l).1), .row (encS y)] ⟨zeroR_le, VsLe.refl _, VsLe.refl _, trivial⟩ ?_
      (repeat (first | refine Run.seq ?_ | refine Run.skip ?_ | refine Run.block ?_ | refine Run.endB ?_))
      refine Run.ret0 rfl Try.func10 r10_ok trivial (by simp [r10, k6, encR]; rfl) ?_ ?_
      · simp [hfin, q1, encR]
      · simp
    · (repeat (first | refine Run.seq ?_ | refine Run.skip ?_ | refine Run.block ?_ | refine Run.endB ?_))
      refine Run.condF (by simp [Opd.ev]; omega) ?_
      (repeat (first | refine Run.seq ?_ | refine Run.skip ?_ | refine Run.block ?_ | refine Run.endB ?_)); refine Run.region ?_; simp -implicitDefEqProofs [c10r7, k2, encS]
      by_cases q2 : s < y.seq
      · (repeat (first | refine Run.seq ?_ | refine Run.skip ?_ | refine Run.block ?_ | refine Run.endB ?_))
        refine Run.condT (by simp [Opd.ev, q2]) ?_
        (repeat (first | refine Run.seq ?_ | refine Run.skip ?_ | refine Run.block ?_ | refine Run.endB ?_)); refine Run.region ?_; simp -implicitDefEqProofs [c10r8, k6, zeroR]
        refine Run.leH [.row (encR zero), .row (tabC (readM l).1), .row (encS y)] ⟨zeroR_le, VsLe.refl _, VsLe.refl _, trivial⟩ ?_
        (repeat (first | refine Run.seq ?_ | refine Run.skip ?_ | refine Run.block ?_ | refine Run.endB ?_))
        refine Run.ret0 rfl Try.func10 r10_ok trivial (by simp [r10, k6, encR]; rfl) ?_ ?_
        · simp [hfin, q1, q2, encR]
        · simp
      · (repeat (first | refine Run.seq ?_ | refine Run.skip ?_ | refine Run.block ?_ | refine Run.endB ?_))
        refine Run.condF (by simp [Opd.ev]; omega) ?_
        (repeat (first | refine Run.seq ?_ | refine Run.skip ?_ | refine Run.block ?_ | refine Run.endB ?_)); refine Run.region ?_; simp -implicitDefEqProofs [c10r9, k1, k6, k8, hn', hb, hb', e5, tabC_len, hlen, encR, zeroR]
        (repeat (first | refine Run.seq ?_ | refine Run.skip ?_ | refine Run.block ?_ | refine Run.endB ?_))
        refine Run.ret0 rfl Try.func10 r10_ok trivial (by simp [r10, k6, encR]; rfl) ?_ ?_
        · simp [hfin, q1, q2, encR]
        · simp
  · (repeat (first | refine Run.seq ?_ | refine Run.skip ?_ | refine Run.block ?_ | refine Run.endB ?_))
    refine Run.condT (by rw [Opd.ev, k33, V.bool.injEq, Bool.not_eq_true', ← Bool.not_eq_true, Bool.and_eq_true]; exact hok) ?_
    (repeat (first | refine Run.seq ?_ | refine Run.skip ?_ | refine Run.block ?_ | refine Run.endB ?_)); refine Run.region ?_; simp -implicitDefEqProofs [c10r3, k6, zeroR]
    refine Run.leH [.row (encR zero), .row (tabC (readM l).1)] ⟨zeroR_le, VsLe.refl _, trivial⟩ ?_
    (repeat (first | refine Run.seq ?_ | refine Run.skip ?_ | refine Run.block ?_ | refine Run.endB ?_))
    refine Run.ret0 rfl Try.func10 r10_ok trivial (by simp [r10, k6, encR]; rfl) ?_ ?_
    · simp [findM, hok, encR]
    · simp

end Go.Proofs.Yticecideodkcmaa
