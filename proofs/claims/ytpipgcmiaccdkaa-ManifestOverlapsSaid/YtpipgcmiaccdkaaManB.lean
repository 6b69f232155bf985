/-
  Layer 12, part B: which edits may be: the program and the document.
-/
import Derived.Test.YtpipgcmiaccdkaaManA
namespace Go.Proofs.Ytpipgcmiaccdkaa
open Sx Go
set_option maxRecDepth 100000
set_option linter.unusedSimpArgs false
set_option linter.unusedVariables false
set_option linter.unnecessarySimpa false
attribute [local simp] stepV condR boundsC appendG appendO copyV srcC guardB isCall opStep Opd.ev put readAt aBin aUn args0 V.celled V.ones V.one V.cells putAt bounds bound1 elemsOf srcOf appendV fillAt fillEl V.pures V.pure unwind evs ARes.ev mkRes V.ren V.renL O.ren eqCells eq1 aEq aMM hasTy hasTyN okTy mmGo Known HLe OLe VsLe.refl VLe.refl VLe.cap Stay VsLe V.frz V.frzL O.frz fr clearV rn KnownR Objs OLeO ObjsE nm back setAll ren_ite take_map_len List.take_of_length_le
attribute [local simp ↓] upd_app tl_cons tl_nil
attribute [local simp] encT_ren encT_ones encT_len encT_take encN_ren encN_ones encN_len encN_take

def idxI : Option Nat → Int
  | none => -1
  | some n => n
theorem idxI_any {α : Type} (p : α → Bool) (l : List α) : decide (0 ≤ idxI (l.findIdx? p)) = l.any p := by
  rw [← List.findIdx?_isSome]
  cases l.findIdx? p with
  | none => rfl
  | some n => simp [idxI]

theorem idxT_tri (l : List Tb) (hll : l.length ≤ 1000000) : Tri Try.prog 64 [.vs (l.map encT) 4, .fn 44 []] [] (fun v H => v = .int .i64 (idxI (l.findIdx? (fun t => !tabB t))) ∧ H = []) := by
  refine Tri.of_run' Try.func64 rfl c64_ok (by simp [Try.ntmps64]) ?_
  (repeat (first | refine Run.adm rfl ?_ | refine Run.seq ?_ | (apply Run.opS rfl; (· (simp -implicitDefEqProofs; exact ⟨rfl, rfl⟩))) | (apply Run.condS; (· (simp -implicitDefEqProofs; exact rfl)))))
  refine Run.loopC [] (fun (i : Nat) => ([(0, .vs (l.map encT) 4), (1, .fn 44 []), (7, .int .i64 l.length), (8, .int .i64 i)], [])) (fun i => i ≤ l.length ∧ l.findIdx? (fun t => !tabB t) = ((l.drop i).findIdx? (fun t => !tabB t)).map (· + i)) (fun i => l.length - i) 0 (by simp) (by rfl) (by decide) (by simp) (by simp) ?_
  rintro i ⟨hi, hgo⟩ ih
  by_cases hlt : i < l.length
  · obtain ⟨e, he, hei, hdrop, -⟩ := getL hlt
    have hw := wrap_small (n := (i : Int) + 1) (by omega) (by omega)
    rw [hdrop, List.findIdx?_cons] at hgo
    have hle := (odd_tri e).at rfl rfl
    simp only [encT] at hle
    (repeat (first | refine Run.adm rfl ?_ | refine Run.seq ?_ | (apply Run.opS rfl; (· (simp -implicitDefEqProofs [hlt, he, hei, encT]; exact ⟨rfl, rfl⟩))) | (apply Run.condS; (· (simp -implicitDefEqProofs [hlt, he, hei, encT]; exact rfl)))))
    refine Run.opC rfl rfl rfl (hle _) ?_
    rintro v h' ⟨rfl, rfl⟩
    cases hc : tabB e with
    | false =>
      (repeat (first | refine Run.adm rfl ?_ | refine Run.seq ?_ | (apply Run.opS rfl; (· (simp -implicitDefEqProofs [hc]; exact ⟨rfl, rfl⟩))) | (apply Run.condS; (· (simp -implicitDefEqProofs [hc]; exact rfl)))))
      refine Run.mv [] [(4, .int .i64 i)] [] (by rfl) (by decide) (by simp -implicitDefEqProofs) (by simp -implicitDefEqProofs) ?_
      refine Run.retI Try.func64 r64_ok trivial (by simp -implicitDefEqProofs [r64]; rfl) (by simp ) ?_ (by simp -implicitDefEqProofs ) (by simp -implicitDefEqProofs )
      rw [hgo]; simp [idxI, hc]
    | true =>
      (repeat (first | refine Run.adm rfl ?_ | refine Run.seq ?_ | (apply Run.opS rfl; (· (simp -implicitDefEqProofs [hc]; exact ⟨rfl, rfl⟩))) | (apply Run.condS; (· (simp -implicitDefEqProofs [hc]; exact rfl)))))
      refine Run.mv [] _ _ (by rfl) (by decide) (by simp -implicitDefEqProofs [hw]) (by simp -implicitDefEqProofs [hw]) (ih (i + 1) ?_ ?_)
      · refine ⟨by omega, ?_⟩
        rw [hgo]
        simp only [hc, Bool.not_true, Bool.false_eq_true, if_false, Option.map_map]
        congr 1; funext x; simp; omega
      · omega
  · have : i = l.length := by omega
    subst this
    (repeat (first | refine Run.adm rfl ?_ | refine Run.seq ?_ | (apply Run.opS rfl; (· (simp -implicitDefEqProofs; exact ⟨rfl, rfl⟩))) | (apply Run.condS; (· (simp -implicitDefEqProofs; exact rfl)))))
    refine Run.mv [] [(4, .int .i64 (-1))] [] (by rfl) (by decide) (by simp -implicitDefEqProofs) (by simp -implicitDefEqProofs) ?_
    refine Run.retI Try.func64 r64_ok trivial (by simp -implicitDefEqProofs [r64]; rfl) (by simp ) ?_ (by simp -implicitDefEqProofs ) (by simp -implicitDefEqProofs )
    rw [hgo, List.drop_length]; simp [idxI]
theorem hasT_tri (l : List Tb) (hll : l.length ≤ 1000000) : Tri Try.prog 47 [.vs (l.map encT) 4, .fn 44 []] [] (fun v H => v = .bool (!l.all tabB) ∧ H = []) := by
  refine Tri.of_run' Try.func47 rfl c47_ok (by simp [Try.ntmps47]) ?_
  (repeat (first | refine Run.adm rfl ?_ | refine Run.seq ?_ | (apply Run.opS rfl; (· (simp -implicitDefEqProofs; exact ⟨rfl, rfl⟩))) | (apply Run.condS; (· (simp -implicitDefEqProofs; exact rfl)))))
  refine Run.opC rfl rfl rfl ((idxT_tri l hll).at rfl rfl _) ?_
  rintro v h' ⟨rfl, rfl⟩
  have hx : decide (0 ≤ idxI (l.findIdx? (fun t => !tabB t))) = !l.all tabB := by
    rw [idxI_any]
    induction l with
    | nil => rfl
    | cons x l ih => simp only [List.any_cons, List.all_cons, ih (by simp at hll; omega), Bool.not_and]
  generalize idxI (l.findIdx? (fun t => !tabB t)) = j at *
  (repeat (first | refine Run.adm rfl ?_ | refine Run.seq ?_ | (apply Run.opS rfl; (· (simp -implicitDefEqProofs; exact ⟨rfl, rfl⟩))) | (apply Run.condS; (· (simp -implicitDefEqProofs; exact rfl)))))
  refine Run.mv [] [(4, .bool (!l.all tabB))] [] (by rfl) (by decide) (by simp -implicitDefEqProofs [hx]) (by simp -implicitDefEqProofs [hx]) ?_
  refine Run.retI Try.func47 r47_ok trivial (by simp -implicitDefEqProofs [r47]; rfl) (by simp ) ?_ (by simp -implicitDefEqProofs ) (by simp -implicitDefEqProofs )
  simp
theorem hasT_at (l : List Tb) (hll : l.length ≤ 1000000) (H : List O) : Tri Try.prog 47 [.vs (l.map encT) 4, .fn 44 []] H (fun v H' => v = .bool (!l.all tabB) ∧ H' = H) := (hasT_tri l hll).at rfl rfl H

theorem idxN_tri (l : List Int) (hll : l.length ≤ 1000000) : Tri Try.prog 65 [.vs (l.map encN) 1, .fn 46 []] [] (fun v H => v = .int .i64 (idxI (l.findIdx? (fun t => !numB t))) ∧ H = []) := by
  refine Tri.of_run' Try.func65 rfl c65_ok (by simp [Try.ntmps65]) ?_
  (repeat (first | refine Run.adm rfl ?_ | refine Run.seq ?_ | (apply Run.opS rfl; (· (simp -implicitDefEqProofs; exact ⟨rfl, rfl⟩))) | (apply Run.condS; (· (simp -implicitDefEqProofs; exact rfl)))))
  refine Run.loopC [] (fun (i : Nat) => ([(0, .vs (l.map encN) 1), (1, .fn 46 []), (7, .int .i64 l.length), (8, .int .i64 i)], [])) (fun i => i ≤ l.length ∧ l.findIdx? (fun t => !numB t) = ((l.drop i).findIdx? (fun t => !numB t)).map (· + i)) (fun i => l.length - i) 0 (by simp) (by rfl) (by decide) (by simp) (by simp) ?_
  rintro i ⟨hi, hgo⟩ ih
  by_cases hlt : i < l.length
  · obtain ⟨e, he, hei, hdrop, -⟩ := getL hlt
    have hw := wrap_small (n := (i : Int) + 1) (by omega) (by omega)
    rw [hdrop, List.findIdx?_cons] at hgo
    have hle := (none_tri e).at rfl rfl
    (repeat (first | refine Run.adm rfl ?_ | refine Run.seq ?_ | (apply Run.opS rfl; (· (simp -implicitDefEqProofs [hlt, he, hei, encN]; exact ⟨rfl, rfl⟩))) | (apply Run.condS; (· (simp -implicitDefEqProofs [hlt, he, hei, encN]; exact rfl)))))
    refine Run.opC rfl rfl rfl (hle _) ?_
    rintro v h' ⟨rfl, rfl⟩
    cases hc : numB e with
    | false =>
      (repeat (first | refine Run.adm rfl ?_ | refine Run.seq ?_ | (apply Run.opS rfl; (· (simp -implicitDefEqProofs [hc]; exact ⟨rfl, rfl⟩))) | (apply Run.condS; (· (simp -implicitDefEqProofs [hc]; exact rfl)))))
      refine Run.mv [] [(4, .int .i64 i)] [] (by rfl) (by decide) (by simp -implicitDefEqProofs) (by simp -implicitDefEqProofs) ?_
      refine Run.retI Try.func65 r65_ok trivial (by simp -implicitDefEqProofs [r65]; rfl) (by simp ) ?_ (by simp -implicitDefEqProofs ) (by simp -implicitDefEqProofs )
      rw [hgo]; simp [idxI, hc]
    | true =>
      (repeat (first | refine Run.adm rfl ?_ | refine Run.seq ?_ | (apply Run.opS rfl; (· (simp -implicitDefEqProofs [hc]; exact ⟨rfl, rfl⟩))) | (apply Run.condS; (· (simp -implicitDefEqProofs [hc]; exact rfl)))))
      refine Run.mv [] _ _ (by rfl) (by decide) (by simp -implicitDefEqProofs [hw]) (by simp -implicitDefEqProofs [hw]) (ih (i + 1) ?_ ?_)
      · refine ⟨by omega, ?_⟩
        rw [hgo]
        simp only [hc, Bool.not_true, Bool.false_eq_true, if_false, Option.map_map]
        congr 1; funext x; simp; omega
      · omega
  · have : i = l.length := by omega
    subst this
    (repeat (first | refine Run.adm rfl ?_ | refine Run.seq ?_ | (apply Run.opS rfl; (· (simp -implicitDefEqProofs; exact ⟨rfl, rfl⟩))) | (apply Run.condS; (· (simp -implicitDefEqProofs; exact rfl)))))
    refine Run.mv [] [(4, .int .i64 (-1))] [] (by rfl) (by decide) (by simp -implicitDefEqProofs) (by simp -implicitDefEqProofs) ?_
    refine Run.retI Try.func65 r65_ok trivial (by simp -implicitDefEqProofs [r65]; rfl) (by simp ) ?_ (by simp -implicitDefEqProofs ) (by simp -implicitDefEqProofs )
    rw [hgo, List.drop_length]; simp [idxI]
theorem hasN_tri (l : List Int) (hll : l.length ≤ 1000000) : Tri Try.prog 48 [.vs (l.map encN) 1, .fn 46 []] [] (fun v H => v = .bool (!l.all numB) ∧ H = []) := by
  refine Tri.of_run' Try.func48 rfl c48_ok (by simp [Try.ntmps48]) ?_
  (repeat (first | refine Run.adm rfl ?_ | refine Run.seq ?_ | (apply Run.opS rfl; (· (simp -implicitDefEqProofs; exact ⟨rfl, rfl⟩))) | (apply Run.condS; (· (simp -implicitDefEqProofs; exact rfl)))))
  refine Run.opC rfl rfl rfl ((idxN_tri l hll).at rfl rfl _) ?_
  rintro v h' ⟨rfl, rfl⟩
  have hx : decide (0 ≤ idxI (l.findIdx? (fun t => !numB t))) = !l.all numB := by
    rw [idxI_any]
    induction l with
    | nil => rfl
    | cons x l ih => simp only [List.any_cons, List.all_cons, ih (by simp at hll; omega), Bool.not_and]
  generalize idxI (l.findIdx? (fun t => !numB t)) = j at *
  (repeat (first | refine Run.adm rfl ?_ | refine Run.seq ?_ | (apply Run.opS rfl; (· (simp -implicitDefEqProofs; exact ⟨rfl, rfl⟩))) | (apply Run.condS; (· (simp -implicitDefEqProofs; exact rfl)))))
  refine Run.mv [] [(4, .bool (!l.all numB))] [] (by rfl) (by decide) (by simp -implicitDefEqProofs [hx]) (by simp -implicitDefEqProofs [hx]) ?_
  refine Run.retI Try.func48 r48_ok trivial (by simp -implicitDefEqProofs [r48]; rfl) (by simp ) ?_ (by simp -implicitDefEqProofs ) (by simp -implicitDefEqProofs )
  simp
theorem hasN_at (l : List Int) (hll : l.length ≤ 1000000) (H : List O) : Tri Try.prog 48 [.vs (l.map encN) 1, .fn 46 []] H (fun v H' => v = .bool (!l.all numB) ∧ H' = H) := (hasN_tri l hll).at rfl rfl H

/-- Check's answer -/
def errA (b : Bool) : Int := if b = true then 0 else 1

theorem check_tri (e : Ed) : Tri Try.prog 16 [.agg (encE e)] [] (fun v H => v = .int .i64 (errA (mayE e)) ∧ H = []) := by
  refine Tri.of_run' Try.func16 rfl c16_ok (by simp [Try.ntmps16]) ?_
  have hfin : ∀ {k t' h}, AtEnd k → t' 2 = .int .i64 (errA (mayE e)) → Run ⟨Try.prog, 16, Try.f16.ntmps, [], fun v H => v = .int .i64 (errA (mayE e)) ∧ H = []⟩ ⟨k, t', h⟩ := by
    intro k t' h hk h2
    refine Run.mv [] [(2, .int .i64 (errA (mayE e)))] [] (by rfl) (by decide) (by simp [h2]) (by simp) ?_
    exact Run.retI Try.func16 r16_ok hk (by simp [r16]; rfl) (by simp) (by simp) (by simp) (by simp)
  by_cases a1 : 128 < e.add.length
  · have a1' : (128 : Int) < e.add.length := by omega
    (repeat (first | refine Run.adm rfl ?_ | refine Run.seq ?_ | (apply Run.opS rfl; (· (simp -implicitDefEqProofs [encE, a1, a1']; exact ⟨rfl, rfl⟩))) | (apply Run.condS; (· (simp -implicitDefEqProofs [encE, a1, a1']; exact rfl))))); exact hfin trivial (by simp [mayE, a1, errA])
  have a1' : ¬ (128 : Int) < e.add.length := by omega
  by_cases a2 : 128 < e.drop.length
  · have a2' : (128 : Int) < e.drop.length := by omega
    (repeat (first | refine Run.adm rfl ?_ | refine Run.seq ?_ | (apply Run.opS rfl; (· (simp -implicitDefEqProofs [encE, a1, a1', a2, a2']; exact ⟨rfl, rfl⟩))) | (apply Run.condS; (· (simp -implicitDefEqProofs [encE, a1, a1', a2, a2']; exact rfl))))); exact hfin trivial (by simp [mayE, a1, a2, errA])
  have a2' : ¬ (128 : Int) < e.drop.length := by omega
  (repeat (first | refine Run.adm rfl ?_ | refine Run.seq ?_ | (apply Run.opS rfl; (· (simp -implicitDefEqProofs [encE, a1, a1', a2, a2']; exact ⟨rfl, rfl⟩))) | (apply Run.condS; (· (simp -implicitDefEqProofs [encE, a1, a1', a2, a2']; exact rfl)))))
  refine Run.opC rfl (by simp) rfl (hasT_at e.add (by omega) _) ?_
  rintro v h' ⟨rfl, rfl⟩
  cases a3 : e.add.all tabB with
  | false => (repeat (first | refine Run.adm rfl ?_ | refine Run.seq ?_ | (apply Run.opS rfl; (· (simp -implicitDefEqProofs [a3]; exact ⟨rfl, rfl⟩))) | (apply Run.condS; (· (simp -implicitDefEqProofs [a3]; exact rfl))))); exact hfin trivial (by simp [mayE, a1, a2, a3, errA])
  | true =>
  (repeat (first | refine Run.adm rfl ?_ | refine Run.seq ?_ | (apply Run.opS rfl; (· (simp -implicitDefEqProofs [a3]; exact ⟨rfl, rfl⟩))) | (apply Run.condS; (· (simp -implicitDefEqProofs [a3]; exact rfl)))))
  refine Run.opC rfl (by simp) rfl (hasN_at e.drop (by omega) _) ?_
  rintro v h' ⟨rfl, rfl⟩
  cases a4 : e.drop.all numB with
  | false => (repeat (first | refine Run.adm rfl ?_ | refine Run.seq ?_ | (apply Run.opS rfl; (· (simp -implicitDefEqProofs [a4]; exact ⟨rfl, rfl⟩))) | (apply Run.condS; (· (simp -implicitDefEqProofs [a4]; exact rfl))))); exact hfin trivial (by simp [mayE, a1, a2, a3, a4, errA])
  | true =>
  by_cases a5 : (if e.next < e.log then e.next else e.log) < 0
  · (repeat (first | refine Run.adm rfl ?_ | refine Run.seq ?_ | (apply Run.opS rfl; (· (simp -implicitDefEqProofs [a4, a5]; exact ⟨rfl, rfl⟩))) | (apply Run.condS; (· (simp -implicitDefEqProofs [a4, a5]; exact rfl)))))
    exact hfin trivial (by
      have : e.log < 0 ∨ e.next < 0 := by split at a5 <;> omega
      rcases this with h | h <;> simp [mayE, a1, a2, a3, a4, h, errA])
  by_cases a6 : 1073741824 < (if e.log < e.next then e.next else e.log)
  · (repeat (first | refine Run.adm rfl ?_ | refine Run.seq ?_ | (apply Run.opS rfl; (· (simp -implicitDefEqProofs [a4, a5, a6]; exact ⟨rfl, rfl⟩))) | (apply Run.condS; (· (simp -implicitDefEqProofs [a4, a5, a6]; exact rfl)))))
    exact hfin trivial (by
      have : 1073741824 < e.log ∨ 1073741824 < e.next := by split at a6 <;> omega
      rcases this with h | h <;> simp [mayE, a1, a2, a3, a4, h, errA])
  (repeat (first | refine Run.adm rfl ?_ | refine Run.seq ?_ | (apply Run.opS rfl; (· (simp -implicitDefEqProofs [a4, a5, a6]; exact ⟨rfl, rfl⟩))) | (apply Run.condS; (· (simp -implicitDefEqProofs [a4, a5, a6]; exact rfl)))))
  exact hfin trivial (by
    have h1 : ¬ e.log < 0 := by split at a5 <;> omega
    have h2 : ¬ e.next < 0 := by split at a5 <;> omega
    have h3 : ¬ 1073741824 < e.log := by split at a6 <;> omega
    have h4 : ¬ 1073741824 < e.next := by split at a6 <;> omega
    simp [mayE, a1, a2, a3, a4, h1, h2, h3, h4, errA])
theorem check_at (e : Ed) (H : List O) : Tri Try.prog 16 [.agg (encE e)] H (fun v H' => v = .int .i64 (errA (mayE e)) ∧ H' = H) := (check_tri e).at rfl rfl H

theorem number_tri (n least : Int) : Tri Try.prog 59 [.int .i64 n, .int .i64 least] [] (fun v H => v = .bool (!decide (n < least) && !decide (1073741824 < n)) ∧ H = []) := by
  refine Tri.of_run' Try.func59 rfl c59_ok (by simp [Try.ntmps59]) ?_
  by_cases h : n < least
  · have h' : ¬ least ≤ n := by omega
    (repeat (first | refine Run.adm rfl ?_ | refine Run.seq ?_ | (apply Run.opS rfl; (· (simp -implicitDefEqProofs [h']; exact ⟨rfl, rfl⟩))) | (apply Run.condS; (· (simp -implicitDefEqProofs [h']; exact rfl)))))
    refine Run.retI Try.func59 r59_ok trivial (by simp -implicitDefEqProofs [r59]; rfl) (by simp ) ?_ (by simp -implicitDefEqProofs ) (by simp -implicitDefEqProofs )
    simp [h]
  · have h' : least ≤ n := by omega
    by_cases h2 : 1073741824 < n
    · have h2' : ¬ n ≤ 1073741824 := by omega
      (repeat (first | refine Run.adm rfl ?_ | refine Run.seq ?_ | (apply Run.opS rfl; (· (simp -implicitDefEqProofs [h', h2']; exact ⟨rfl, rfl⟩))) | (apply Run.condS; (· (simp -implicitDefEqProofs [h', h2']; exact rfl)))))
      refine Run.retI Try.func59 r59_ok trivial (by simp -implicitDefEqProofs [r59]; rfl) (by simp ) ?_ (by simp -implicitDefEqProofs ) (by simp -implicitDefEqProofs )
      simp [h, h2]
    · have h2' : n ≤ 1073741824 := by omega
      (repeat (first | refine Run.adm rfl ?_ | refine Run.seq ?_ | (apply Run.opS rfl; (· (simp -implicitDefEqProofs [h', h2']; exact ⟨rfl, rfl⟩))) | (apply Run.condS; (· (simp -implicitDefEqProofs [h', h2']; exact rfl)))))
      refine Run.retI Try.func59 r59_ok trivial (by simp -implicitDefEqProofs [r59]; rfl) (by simp ) ?_ (by simp -implicitDefEqProofs ) (by simp -implicitDefEqProofs )
      simp [h, h2]
theorem number_at (n least : Int) (H : List O) : Tri Try.prog 59 [.int .i64 n, .int .i64 least] H (fun v H' => v = .bool (!decide (n < least) && !decide (1073741824 < n)) ∧ H' = H) := (number_tri n least).at rfl rfl H

theorem tab_tri (t : Tb) : Tri Try.prog 58 [.agg (encT t)] [] (fun v H => v = .bool (tabB t) ∧ H = []) := by
  refine Tri.of_run' Try.func58 rfl c58_ok (by simp [Try.ntmps58]) ?_
  have hfin : ∀ {k t' h}, AtEnd k → t' 2 = .bool (tabB t) → Run ⟨Try.prog, 58, Try.f58.ntmps, [], fun v H => v = .bool (tabB t) ∧ H = []⟩ ⟨k, t', h⟩ := by
    intro k t' h hk h2
    refine Run.mv [] [(2, .bool (tabB t))] [] (by rfl) (by decide) (by simp [h2]) (by simp) ?_
    exact Run.retI Try.func58 r58_ok hk (by simp [r58]; rfl) (by simp) (by simp) (by simp) (by simp)
  (repeat (first | refine Run.adm rfl ?_ | refine Run.seq ?_ | (apply Run.opS rfl; (· (simp -implicitDefEqProofs [encT]; exact ⟨rfl, rfl⟩))) | (apply Run.condS; (· (simp -implicitDefEqProofs [encT]; exact rfl)))))
  refine Run.opC rfl rfl rfl (number_at t.id 1 _) ?_
  rintro v h' ⟨rfl, rfl⟩
  cases a1 : (!decide (t.id < 1) && !decide (1073741824 < t.id)) with
  | false => (repeat (first | refine Run.adm rfl ?_ | refine Run.seq ?_ | (apply Run.opS rfl; (· (simp -implicitDefEqProofs [a1]; exact ⟨rfl, rfl⟩))) | (apply Run.condS; (· (simp -implicitDefEqProofs [a1]; exact rfl))))); exact hfin trivial (by rw [tabB, numB, a1]; simp)
  | true =>
  have a1' : numB t.id = true := a1
  by_cases a3 : t.level < 0
  · have a3' : ¬ 0 ≤ t.level := by omega
    (repeat (first | refine Run.adm rfl ?_ | refine Run.seq ?_ | (apply Run.opS rfl; (· (simp -implicitDefEqProofs [a1, a3']; exact ⟨rfl, rfl⟩))) | (apply Run.condS; (· (simp -implicitDefEqProofs [a1, a3']; exact rfl))))); exact hfin trivial (by simp [tabB, a1', a3])
  have a3' : 0 ≤ t.level := by omega
  by_cases a4 : 3 ≤ t.level
  · have a4' : ¬ t.level ≤ 2 := by omega
    (repeat (first | refine Run.adm rfl ?_ | refine Run.seq ?_ | (apply Run.opS rfl; (· (simp -implicitDefEqProofs [a1, a3', a4']; exact ⟨rfl, rfl⟩))) | (apply Run.condS; (· (simp -implicitDefEqProofs [a1, a3', a4']; exact rfl))))); exact hfin trivial (by simp [tabB, a1', a3, a4])
  have a4' : t.level ≤ 2 := by omega
  (repeat (first | refine Run.adm rfl ?_ | refine Run.seq ?_ | (apply Run.opS rfl; (· (simp -implicitDefEqProofs [a1, a3', a4']; exact ⟨rfl, rfl⟩))) | (apply Run.condS; (· (simp -implicitDefEqProofs [a1, a3', a4']; exact rfl)))))
  refine Run.opC rfl (by simp) rfl (xkey_at t.lo _) ?_
  rintro v h' ⟨rfl, rfl⟩
  cases a5 : keyB t.lo with
  | false => (repeat (first | refine Run.adm rfl ?_ | refine Run.seq ?_ | (apply Run.opS rfl; (· (simp -implicitDefEqProofs [a5]; exact ⟨rfl, rfl⟩))) | (apply Run.condS; (· (simp -implicitDefEqProofs [a5]; exact rfl))))); exact hfin trivial (by simp [tabB, a1', a3, a4, a5])
  | true =>
  (repeat (first | refine Run.adm rfl ?_ | refine Run.seq ?_ | (apply Run.opS rfl; (· (simp -implicitDefEqProofs [a5]; exact ⟨rfl, rfl⟩))) | (apply Run.condS; (· (simp -implicitDefEqProofs [a5]; exact rfl)))))
  refine Run.opC rfl (by simp) rfl (xkey_at t.hi _) ?_
  rintro v h' ⟨rfl, rfl⟩
  cases a6 : keyB t.hi with
  | false => (repeat (first | refine Run.adm rfl ?_ | refine Run.seq ?_ | (apply Run.opS rfl; (· (simp -implicitDefEqProofs [a6]; exact ⟨rfl, rfl⟩))) | (apply Run.condS; (· (simp -implicitDefEqProofs [a6]; exact rfl))))); exact hfin trivial (by simp [tabB, a1', a3, a4, a5, a6])
  | true =>
  (repeat (first | refine Run.adm rfl ?_ | refine Run.seq ?_ | (apply Run.opS rfl; (· (simp -implicitDefEqProofs [a6]; exact ⟨rfl, rfl⟩))) | (apply Run.condS; (· (simp -implicitDefEqProofs [a6]; exact rfl))))); exact hfin trivial (by simp [tabB, a1', a3, a4, a5, a6, bless_le])
theorem tab_at (t : Tb) (H : List O) : Tri Try.prog 58 [.agg (encT t)] H (fun v H' => v = .bool (tabB t) ∧ H' = H) := (tab_tri t).at rfl rfl H

end Go.Proofs.Ytpipgcmiaccdkaa
