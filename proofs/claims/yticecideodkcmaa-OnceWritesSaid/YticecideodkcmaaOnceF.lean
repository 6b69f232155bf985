/-
  Layer 14, part F: the document's Find; both Checks.
-/
import Derived.Test.YticecideodkcmaaOnceE
namespace Go.Proofs.Yticecideodkcmaa
open Sx Go
set_option maxRecDepth 100000
set_option linter.unusedSimpArgs false
set_option linter.unusedVariables false
set_option linter.unnecessarySimpa false
attribute [local simp] execOps guardB isCall opStep Opd.ev put upd readAt aBin aUn args0 V.celled V.ones V.one V.cells Res.run Res.all putAt bounds bound1 elemsOf srcOf appendV fillAt fillEl V.pures V.pure unwind evs ARes.ev mkRes V.ren V.renL O.ren Br.ok eqCells eq1 aEq aMM mmGo execQ

def lookup (l : List Seen) (c : Int) : Option Seen := l.find? (fun x => decide (x.client = c))

theorem findI_spec : ∀ (l : List Seen) (c : Int) (i : Nat), (lookup l c = none ∧ findI l c i = -1) ∨ ∃ (k : Nat) (y : Seen), l[k]? = some y ∧ lookup l c = some y ∧ y.client = c ∧ findI l c i = (i + k : Nat)
  | [], c, i => .inl ⟨rfl, rfl⟩
  | x :: l, c, i => by
    by_cases h : x.client = c
    · exact .inr ⟨0, x, rfl, by simp [lookup, h], h, by simp [findI, h]⟩
    · rcases findI_spec l c (i + 1) with ⟨h1, h2⟩ | ⟨k, y, h1, h2, h3, h4⟩
      · exact .inl ⟨by simpa [lookup, h] using h1, by simp [findI, h, h2]⟩
      · exact .inr ⟨k + 1, y, by simpa using h1, by simpa [lookup, h] using h2, h3, by simp [findI, h, h4]; omega⟩

def rfindM (l : List Seen) (c s : Int) : Seen × Int :=
  if okGo l (-1) = true ∧ argOk c s = true then
    match lookup l c with
    | none => (zero, 3)
    | some y => if y.seq < s then (zero, 3) else if s < y.seq then (zero, 140) else (y, 0)
  else (zero, 1)

theorem rmayL_at (l : List Seen) (hll : l.length ≤ 1000000) (H : List O) : Tri Try.prog 26 [.vs (l.map encS) 7] H (fun v H' => v = .bool (okGo l (-1)) ∧ H' = H) := (rmayL_tri l hll).at rfl rfl H
theorem rfind_at (l : List Seen) (hll : l.length ≤ 1000000) (c : Int) (H : List O) : Tri Try.prog 27 [.vs (l.map encS) 7, .int .i64 c] H (fun v H' => v = .int .i64 (findI l c 0) ∧ H' = H) := (rfind_tri l hll c).at rfl rfl H

theorem rFind_tri (l : List Seen) (hll : l.length ≤ 1000000) (c s : Int) : Tri Try.prog 11 [.vs (l.map encS) 7, .int .i64 c, .int .i64 s] [] (fun v H => v = .tup [.agg (encR (rfindM l c s).1), .int .i64 (rfindM l c s).2] ∧ H = []) := by
  refine Tri.of_run' Try.func11 rfl c11_ok (by simp [Try.ntmps11]) ?_
  (repeat (first | refine Run.seq ?_ | refine Run.skip ?_ | refine Run.block ?_ | refine Run.endB ?_)); refine Run.region ?_; simp -implicitDefEqProofs [c11r0]
  (repeat (first | refine Run.seq ?_ | refine Run.skip ?_ | refine Run.block ?_ | refine Run.endB ?_)); refine Run.region ?_; simp -implicitDefEqProofs [c11r1]
  refine Run.call trivial rfl (rmayL_at l hll _) ?_
  rintro v h' ⟨rfl, rfl⟩
  refine Run.ops ?_
  refine Res.cut (fun t' h' => t' 27 = .bool (!(okGo l (-1) && argOk c s)) ∧ t' 0 = .vs (l.map encS) 7 ∧ t' 1 = .int .i64 c ∧ t' 2 = .int .i64 s ∧ t' 6 = .ptr 0 0 ∧ h' = [.row zeroR]) ?_ ?_
  · have e : (7 : Int) < c ↔ 8 ≤ c := by omega
    by_cases a1 : okGo l (-1) = false
    · simp -implicitDefEqProofs [zeroR, argOk, e, a1]
    by_cases a2 : c < 0
    · simp -implicitDefEqProofs [zeroR, argOk, e, a1, a2]
    by_cases a3 : 8 ≤ c
    · simp -implicitDefEqProofs [zeroR, argOk, e, a1, a2, a3]
    by_cases a4 : s < 1
    · simp -implicitDefEqProofs [zeroR, argOk, e, a1, a2, a3, a4]
    by_cases a5 : 1099511627775 < s
    · simp -implicitDefEqProofs [zeroR, argOk, e, a1, a2, a3, a4, a5]
    simp -implicitDefEqProofs [zeroR, argOk, e, a1, a2, a3, a4, a5]
  rintro t h ⟨k27, k0, k1, k2, k6, rfl⟩
  by_cases hok : okGo l (-1) = true ∧ argOk c s = true
  · (repeat (first | refine Run.seq ?_ | refine Run.skip ?_ | refine Run.block ?_ | refine Run.endB ?_))
    refine Run.condF (by simp [Opd.ev, k27, hok]) ?_
    (repeat (first | refine Run.seq ?_ | refine Run.skip ?_ | refine Run.block ?_ | refine Run.endB ?_)); refine Run.region ?_; simp -implicitDefEqProofs [c11r3, k0, k1]
    refine Run.call trivial rfl (rfind_at l hll c _) ?_
    rintro v h' ⟨rfl, rfl⟩
    refine Run.ops ?_
    simp -implicitDefEqProofs []
    rcases findI_spec l c 0 with ⟨h1, h2⟩ | ⟨k, y, h1, h2, h3, h4⟩
    · have hfin : rfindM l c s = (zero, 3) := by rw [rfindM, if_pos hok, h1]
      (repeat (first | refine Run.seq ?_ | refine Run.skip ?_ | refine Run.block ?_ | refine Run.endB ?_)); refine Run.region ?_; simp -implicitDefEqProofs [c11r4, h2, k0, k1, k2, k6]
      (repeat (first | refine Run.seq ?_ | refine Run.skip ?_ | refine Run.block ?_ | refine Run.endB ?_))
      refine Run.condT (by simp [Opd.ev]) ?_
      (repeat (first | refine Run.seq ?_ | refine Run.skip ?_ | refine Run.block ?_ | refine Run.endB ?_)); refine Run.region ?_; simp -implicitDefEqProofs [c11r5, k6, zeroR]
      refine Run.leH [.row (encR zero)] ⟨zeroR_le, trivial⟩ ?_
      (repeat (first | refine Run.seq ?_ | refine Run.skip ?_ | refine Run.block ?_ | refine Run.endB ?_))
      refine Run.ret0 rfl Try.func11 r11_ok trivial (by simp [r11, k6, encR]; rfl) ?_ ?_
      · simp [hfin, encR]
      · simp
    · have hfin : rfindM l c s = if y.seq < s then (zero, 3) else if s < y.seq then (zero, 140) else (y, 0) := by rw [rfindM, if_pos hok, h2]
      rw [Nat.zero_add] at h4
      have hneg : ¬ (k : Int) < 0 := by omega
      (repeat (first | refine Run.seq ?_ | refine Run.skip ?_ | refine Run.block ?_ | refine Run.endB ?_))
      refine Run.region ?_
      refine Res.cut (fun t' h' => t' 42 = .bool (decide (y.seq < s)) ∧ t' 0 = .vs (l.map encS) 7 ∧ t' 8 = .int .i64 k ∧ t' 2 = .int .i64 s ∧ t' 6 = .ptr 0 0 ∧ h' = [.row zeroR]) (by simp -implicitDefEqProofs [c11r4, h4, h1, hneg, k0, k1, k2, k6, encS]) ?_
      rintro t' h' ⟨q42, q0, q8, q2, q6, rfl⟩
      by_cases p1 : y.seq < s
      · (repeat (first | refine Run.seq ?_ | refine Run.skip ?_ | refine Run.block ?_ | refine Run.endB ?_))
        refine Run.condT (by simp [Opd.ev, q42, p1]) ?_
        (repeat (first | refine Run.seq ?_ | refine Run.skip ?_ | refine Run.block ?_ | refine Run.endB ?_)); refine Run.region ?_; simp -implicitDefEqProofs [c11r5, q6, zeroR]
        refine Run.leH [.row (encR zero)] ⟨zeroR_le, trivial⟩ ?_
        (repeat (first | refine Run.seq ?_ | refine Run.skip ?_ | refine Run.block ?_ | refine Run.endB ?_))
        refine Run.ret0 rfl Try.func11 r11_ok trivial (by simp [r11, q6, encR]; rfl) ?_ ?_
        · simp [hfin, p1, encR]
        · simp
      · (repeat (first | refine Run.seq ?_ | refine Run.skip ?_ | refine Run.block ?_ | refine Run.endB ?_))
        refine Run.condF (by simp [Opd.ev, q42, p1]) ?_
        (repeat (first | refine Run.seq ?_ | refine Run.skip ?_ | refine Run.block ?_ | refine Run.endB ?_)); refine Run.region ?_; simp -implicitDefEqProofs [c11r6, q0, q8, q2, h1, encS]
        by_cases p2 : s < y.seq
        · (repeat (first | refine Run.seq ?_ | refine Run.skip ?_ | refine Run.block ?_ | refine Run.endB ?_))
          refine Run.condT (by simp [Opd.ev, p2]) ?_
          (repeat (first | refine Run.seq ?_ | refine Run.skip ?_ | refine Run.block ?_ | refine Run.endB ?_)); refine Run.region ?_; simp -implicitDefEqProofs [c11r7, q6, zeroR]
          refine Run.leH [.row (encR zero)] ⟨zeroR_le, trivial⟩ ?_
          (repeat (first | refine Run.seq ?_ | refine Run.skip ?_ | refine Run.block ?_ | refine Run.endB ?_))
          refine Run.ret0 rfl Try.func11 r11_ok trivial (by simp [r11, q6, encR]; rfl) ?_ ?_
          · simp [hfin, p1, p2, encR]
          · simp
        · (repeat (first | refine Run.seq ?_ | refine Run.skip ?_ | refine Run.block ?_ | refine Run.endB ?_))
          refine Run.condF (by simp [Opd.ev]; omega) ?_
          (repeat (first | refine Run.seq ?_ | refine Run.skip ?_ | refine Run.block ?_ | refine Run.endB ?_)); refine Run.region ?_; simp -implicitDefEqProofs [c11r8, q0, q8, q6, h1, encS, zeroR]
          (repeat (first | refine Run.seq ?_ | refine Run.skip ?_ | refine Run.block ?_ | refine Run.endB ?_))
          refine Run.ret0 rfl Try.func11 r11_ok trivial (by simp [r11, q6, encR]; rfl) ?_ ?_
          · simp [hfin, p1, p2, encR]
          · simp
  · (repeat (first | refine Run.seq ?_ | refine Run.skip ?_ | refine Run.block ?_ | refine Run.endB ?_))
    refine Run.condT (by rw [Opd.ev, k27, V.bool.injEq, Bool.not_eq_true', ← Bool.not_eq_true, Bool.and_eq_true]; exact hok) ?_
    (repeat (first | refine Run.seq ?_ | refine Run.skip ?_ | refine Run.block ?_ | refine Run.endB ?_)); refine Run.region ?_; simp -implicitDefEqProofs [c11r2, k6, zeroR]
    refine Run.leH [.row (encR zero)] ⟨zeroR_le, trivial⟩ ?_
    (repeat (first | refine Run.seq ?_ | refine Run.skip ?_ | refine Run.block ?_ | refine Run.endB ?_))
    refine Run.ret0 rfl Try.func11 r11_ok trivial (by simp [r11, k6, encR]; rfl) ?_ ?_
    · simp [rfindM, hok, encR]
    · simp

def errOf (b : Bool) : Int := if b = true then 0 else 1

theorem check_tri (l : List Seen) (hll : l.length ≤ 1000000) : Tri Try.prog 16 [.vs (l.map encS) 7] [] (fun v H => v = .int .i64 (errOf (readM l).2) ∧ H = []) := by
  refine Tri.of_run' Try.func16 rfl c16_ok (by simp [Try.ntmps16]) ?_
  (repeat (first | refine Run.seq ?_ | refine Run.skip ?_ | refine Run.block ?_ | refine Run.endB ?_)); refine Run.region ?_; simp -implicitDefEqProofs [c16r0]
  (repeat (first | refine Run.seq ?_ | refine Run.skip ?_ | refine Run.block ?_ | refine Run.endB ?_)); refine Run.region ?_; simp -implicitDefEqProofs [c16r1]
  refine Run.call trivial rfl (read_at l hll _) ?_
  rintro v h' ⟨rfl, rfl⟩
  refine Run.ops ?_
  have hlen := readM_len l
  simp -implicitDefEqProofs [tabC_len, hlen, tabC_ones, tab_drop hlen]
  (repeat (first | refine Run.seq ?_ | refine Run.skip ?_ | refine Run.block ?_ | refine Run.endB ?_)); refine Run.region ?_; simp -implicitDefEqProofs [c16r2]
  cases hr : (readM l).2 with
  | false =>
    (repeat (first | refine Run.seq ?_ | refine Run.skip ?_ | refine Run.block ?_ | refine Run.endB ?_))
    refine Run.condT (by simp [Opd.ev, hr]) ?_
    (repeat (first | refine Run.seq ?_ | refine Run.skip ?_ | refine Run.block ?_ | refine Run.endB ?_)); refine Run.region ?_; simp -implicitDefEqProofs [c16r3]
    (repeat (first | refine Run.seq ?_ | refine Run.skip ?_ | refine Run.block ?_ | refine Run.endB ?_))
    exact Run.ret0 rfl Try.func16 r16_ok trivial (by simp [r16]; rfl) (by simp [errOf, hr]) (by simp)
  | true =>
    (repeat (first | refine Run.seq ?_ | refine Run.skip ?_ | refine Run.block ?_ | refine Run.endB ?_))
    refine Run.condF (by simp [Opd.ev, hr]) ?_
    (repeat (first | refine Run.seq ?_ | refine Run.skip ?_ | refine Run.block ?_ | refine Run.endB ?_)); refine Run.region ?_; simp -implicitDefEqProofs [c16r4]
    (repeat (first | refine Run.seq ?_ | refine Run.skip ?_ | refine Run.block ?_ | refine Run.endB ?_))
    exact Run.ret0 rfl Try.func16 r16_ok trivial (by simp [r16]; rfl) (by simp [errOf, hr]) (by simp)

theorem rcheck_tri (l : List Seen) (hll : l.length ≤ 1000000) : Tri Try.prog 17 [.vs (l.map encS) 7] [] (fun v H => v = .int .i64 (errOf (okGo l (-1))) ∧ H = []) := by
  refine Tri.of_run' Try.func17 rfl c17_ok (by simp [Try.ntmps17]) ?_
  (repeat (first | refine Run.seq ?_ | refine Run.skip ?_ | refine Run.block ?_ | refine Run.endB ?_)); refine Run.region ?_; simp -implicitDefEqProofs [c17r0]
  (repeat (first | refine Run.seq ?_ | refine Run.skip ?_ | refine Run.block ?_ | refine Run.endB ?_)); refine Run.region ?_; simp -implicitDefEqProofs [c17r1]
  refine Run.call trivial rfl (rmayL_at l hll _) ?_
  rintro v h' ⟨rfl, rfl⟩
  refine Run.ops ?_
  simp -implicitDefEqProofs []
  cases hr : okGo l (-1) with
  | false =>
    (repeat (first | refine Run.seq ?_ | refine Run.skip ?_ | refine Run.block ?_ | refine Run.endB ?_))
    refine Run.condT (by simp [Opd.ev, hr]) ?_
    (repeat (first | refine Run.seq ?_ | refine Run.skip ?_ | refine Run.block ?_ | refine Run.endB ?_)); refine Run.region ?_; simp -implicitDefEqProofs [c17r2]
    (repeat (first | refine Run.seq ?_ | refine Run.skip ?_ | refine Run.block ?_ | refine Run.endB ?_))
    exact Run.ret0 rfl Try.func17 r17_ok trivial (by simp [r17]; rfl) (by simp [errOf, hr]) (by simp)
  | true =>
    (repeat (first | refine Run.seq ?_ | refine Run.skip ?_ | refine Run.block ?_ | refine Run.endB ?_))
    refine Run.condF (by simp [Opd.ev, hr]) ?_
    (repeat (first | refine Run.seq ?_ | refine Run.skip ?_ | refine Run.block ?_ | refine Run.endB ?_)); refine Run.region ?_; simp -implicitDefEqProofs [c17r3]
    (repeat (first | refine Run.seq ?_ | refine Run.skip ?_ | refine Run.block ?_ | refine Run.endB ?_))
    exact Run.ret0 rfl Try.func17 r17_ok trivial (by simp [r17]; rfl) (by simp [errOf, hr]) (by simp)

end Go.Proofs.Yticecideodkcmaa
