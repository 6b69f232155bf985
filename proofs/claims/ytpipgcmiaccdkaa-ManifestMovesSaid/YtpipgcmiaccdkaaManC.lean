/-
  Layer 12, part C: the document's May and Check; light; numbers and texts as bytes.
-/
import Derived.Test.YtpipgcmiaccdkaaManB
namespace Go.Proofs.Ytpipgcmiaccdkaa
open Sx Go
set_option maxRecDepth 100000
set_option linter.unusedSimpArgs false
set_option linter.unusedVariables false
set_option linter.unnecessarySimpa false
attribute [local simp] stepV condR boundsC appendG appendO copyV srcC guardB isCall opStep Opd.ev put readAt aBin aUn args0 V.celled V.ones V.one V.cells putAt bounds bound1 elemsOf srcOf appendV fillAt fillEl V.pures V.pure unwind evs ARes.ev mkRes V.ren V.renL O.ren eqCells eq1 aEq aMM hasTy hasTyN okTy mmGo Known HLe OLe VsLe.refl VLe.refl VLe.cap Stay VsLe V.frz V.frzL O.frz fr clearV rn KnownR Objs OLeO ObjsE nm back setAll ren_ite take_map_len List.take_of_length_le
attribute [local simp ↓] upd_app tl_cons tl_nil
attribute [local simp] encT_ren encT_ones encT_len encT_take encN_ren encN_ones encN_len encN_take

theorem take_all {α : Type} {p : α → Bool} {l : List α} {i : Nat} {x : α} (hx : l[i]? = some x) : (l.take (i + 1)).all p = ((l.take i).all p && p x) := by
  rw [List.take_add_one, hx]; simp [List.all_append]
theorem all_false {α : Type} {p : α → Bool} {l : List α} {x : α} (hx : x ∈ l) (h : p x = false) : l.all p = false := by
  rw [List.all_eq_false]; exact ⟨x, hx, by simp [h]⟩

theorem rmay_tri (e : Ed) : Tri Try.prog 31 [.agg (encE e)] [] (fun v H => v = .bool (mayE e) ∧ H = []) := by
  refine Tri.of_run' Try.func31 rfl c31_ok (by simp [Try.ntmps31]) ?_
  have hfin : ∀ {k t' h}, AtEnd k → t' 2 = .bool (mayE e) → Run ⟨Try.prog, 31, Try.f31.ntmps, [], fun v H => v = .bool (mayE e) ∧ H = []⟩ ⟨k, t', h⟩ := by
    intro k t' h hk h2
    refine Run.mv [] [(2, .bool (mayE e))] [] (by rfl) (by decide) (by simp [h2]) (by simp) ?_
    exact Run.retI Try.func31 r31_ok hk (by simp [r31]; rfl) (by simp) (by simp) (by simp) (by simp)
  by_cases a1 : 128 < e.add.length
  · have a1' : (128 : Int) < e.add.length := by omega
    (repeat (first | refine Run.adm rfl ?_ | refine Run.seq ?_ | (apply Run.opS rfl; (· (simp -implicitDefEqProofs [encE, a1, a1']; exact ⟨rfl, rfl⟩))) | (apply Run.condS; (· (simp -implicitDefEqProofs [encE, a1, a1']; exact rfl))))); exact hfin trivial (by simp [mayE, a1])
  have a1' : ¬ (128 : Int) < e.add.length := by omega
  by_cases a2 : 128 < e.drop.length
  · have a2' : (128 : Int) < e.drop.length := by omega
    (repeat (first | refine Run.adm rfl ?_ | refine Run.seq ?_ | (apply Run.opS rfl; (· (simp -implicitDefEqProofs [encE, a1, a1', a2, a2']; exact ⟨rfl, rfl⟩))) | (apply Run.condS; (· (simp -implicitDefEqProofs [encE, a1, a1', a2, a2']; exact rfl))))); exact hfin trivial (by simp [mayE, a1, a2])
  have a2' : ¬ (128 : Int) < e.drop.length := by omega
  (repeat (first | refine Run.adm rfl ?_ | refine Run.seq ?_ | (apply Run.opS rfl; (· (simp -implicitDefEqProofs [encE, a1, a1', a2, a2']; exact ⟨rfl, rfl⟩))) | (apply Run.condS; (· (simp -implicitDefEqProofs [encE, a1, a1', a2, a2']; exact rfl)))))
  refine Run.loopC [0] (fun (i : Nat) => ([(1, .ptr 0 0), (3, .int .i64 i)], [.row (encE e)])) (fun i => i ≤ e.add.length ∧ (e.add.take i).all tabB = true) (fun i => e.add.length - i) 0 (by simp) (by rfl) (by decide) (by simp) (by simp [encE]) ?_
  rintro i ⟨hi, hall⟩ ih
  by_cases hlt : i < e.add.length
  · obtain ⟨x, hx, hxi, -, hxm⟩ := getL hlt
    have hlt' : (i : Int) < e.add.length := by omega
    have hw := wrap_small (n := (i : Int) + 1) (by omega) (by omega)
    have htk := take_all (p := tabB) hx
    have hle := fun H => tab_at x H
    simp only [encT] at hle
    (repeat (first | refine Run.adm rfl ?_ | refine Run.seq ?_ | (apply Run.opS rfl; (· (simp -implicitDefEqProofs [encE, hlt', hlt, hx, hxi, encT]; exact ⟨rfl, rfl⟩))) | (apply Run.condS; (· (simp -implicitDefEqProofs [encE, hlt', hlt, hx, hxi, encT]; exact rfl)))))
    refine Run.opC rfl rfl rfl (hle _) ?_
    rintro v h' ⟨rfl, rfl⟩
    cases hc : tabB x with
    | false =>
      (repeat (first | refine Run.adm rfl ?_ | refine Run.seq ?_ | (apply Run.opS rfl; (· (simp -implicitDefEqProofs [hc]; exact ⟨rfl, rfl⟩))) | (apply Run.condS; (· (simp -implicitDefEqProofs [hc]; exact rfl)))))
      exact hfin trivial (by simp [mayE, all_false hxm hc])
    | true =>
      (repeat (first | refine Run.adm rfl ?_ | refine Run.seq ?_ | (apply Run.opS rfl; (· (simp -implicitDefEqProofs [hc]; exact ⟨rfl, rfl⟩))) | (apply Run.condS; (· (simp -implicitDefEqProofs [hc]; exact rfl)))))
      refine Run.mv [0] _ _ (by rfl) (by decide) (by simp -implicitDefEqProofs [hw, encE]) (by simp -implicitDefEqProofs [hw, encE]) (ih (i + 1) ?_ ?_)
      · exact ⟨by omega, by rw [htk, hall, hc]; rfl⟩
      · omega
  have : i = e.add.length := by omega
  subst this
  rw [List.take_length] at hall
  clear ih
  have hlt' : ¬ (e.add.length : Int) < e.add.length := by omega
  (repeat (first | refine Run.adm rfl ?_ | refine Run.seq ?_ | (apply Run.opS rfl; (· (simp -implicitDefEqProofs [encE, hlt]; exact ⟨rfl, rfl⟩))) | (apply Run.condS; (· (simp -implicitDefEqProofs [encE, hlt]; exact rfl)))))
  refine Run.loopC [0] (fun (i : Nat) => ([(1, .ptr 0 0), (4, .int .i64 i)], [.row (encE e)])) (fun i => i ≤ e.drop.length ∧ (e.drop.take i).all numB = true) (fun i => e.drop.length - i) 0 (by simp) (by rfl) (by decide) (by simp) (by simp [encE]) ?_
  rintro i ⟨hi, hall2⟩ ih
  by_cases hlt : i < e.drop.length
  · obtain ⟨x, hx, hxi, -, hxm⟩ := getL hlt
    have hlt' : (i : Int) < e.drop.length := by omega
    have hw := wrap_small (n := (i : Int) + 1) (by omega) (by omega)
    have htk := take_all (p := numB) hx
    (repeat (first | refine Run.adm rfl ?_ | refine Run.seq ?_ | (apply Run.opS rfl; (· (simp -implicitDefEqProofs [encE, hlt', hlt, hx, hxi, encN]; exact ⟨rfl, rfl⟩))) | (apply Run.condS; (· (simp -implicitDefEqProofs [encE, hlt', hlt, hx, hxi, encN]; exact rfl)))))
    refine Run.opC rfl rfl rfl (number_at x 1 _) ?_
    rintro v h' ⟨rfl, rfl⟩
    cases hc : (!decide (x < 1) && !decide (1073741824 < x)) with
    | false =>
      (repeat (first | refine Run.adm rfl ?_ | refine Run.seq ?_ | (apply Run.opS rfl; (· (simp -implicitDefEqProofs [hc]; exact ⟨rfl, rfl⟩))) | (apply Run.condS; (· (simp -implicitDefEqProofs [hc]; exact rfl)))))
      exact hfin trivial (by simp [mayE, all_false hxm (show numB x = false from hc)])
    | true =>
      (repeat (first | refine Run.adm rfl ?_ | refine Run.seq ?_ | (apply Run.opS rfl; (· (simp -implicitDefEqProofs [hc]; exact ⟨rfl, rfl⟩))) | (apply Run.condS; (· (simp -implicitDefEqProofs [hc]; exact rfl)))))
      refine Run.mv [0] _ _ (by rfl) (by decide) (by simp -implicitDefEqProofs [hw, encE]) (by simp -implicitDefEqProofs [hw, encE]) (ih (i + 1) ?_ ?_)
      · exact ⟨by omega, by rw [htk, hall2, show numB x = true from hc]; rfl⟩
      · omega
  have : i = e.drop.length := by omega
  subst this
  rw [List.take_length] at hall2
  clear ih
  (repeat (first | refine Run.adm rfl ?_ | refine Run.seq ?_ | (apply Run.opS rfl; (· (simp -implicitDefEqProofs [encE, hlt]; exact ⟨rfl, rfl⟩))) | (apply Run.condS; (· (simp -implicitDefEqProofs [encE, hlt]; exact rfl)))))
  refine Run.opC rfl rfl rfl (number_at e.log 0 _) ?_
  rintro v h' ⟨rfl, rfl⟩
  cases h1 : (!decide (e.log < 0) && !decide (1073741824 < e.log)) with
  | false =>
    (repeat (first | refine Run.adm rfl ?_ | refine Run.seq ?_ | (apply Run.opS rfl; (· (simp -implicitDefEqProofs [h1]; exact ⟨rfl, rfl⟩))) | (apply Run.condS; (· (simp -implicitDefEqProofs [h1]; exact rfl)))))
    exact hfin trivial (by
      simp only [Bool.and_eq_false_iff, Bool.not_eq_false', decide_eq_true_eq] at h1
      rcases h1 with h | h <;> simp [mayE, h])
  | true =>
    (repeat (first | refine Run.adm rfl ?_ | refine Run.seq ?_ | (apply Run.opS rfl; (· (simp -implicitDefEqProofs [h1]; exact ⟨rfl, rfl⟩))) | (apply Run.condS; (· (simp -implicitDefEqProofs [h1]; exact rfl)))))
    refine Run.opC rfl (by simp) rfl (number_at e.next 0 _) ?_
    rintro v h' ⟨rfl, rfl⟩
    (repeat (first | refine Run.adm rfl ?_ | refine Run.seq ?_ | (apply Run.opS rfl; (· (simp -implicitDefEqProofs [h1]; exact ⟨rfl, rfl⟩))) | (apply Run.condS; (· (simp -implicitDefEqProofs [h1]; exact rfl)))))
    exact hfin trivial (by
      simp only [Bool.and_eq_true, Bool.not_eq_true', decide_eq_false_iff_not] at h1
      simp [mayE, a1, a2, hall, hall2, h1])
theorem rmay_at (e : Ed) (H : List O) : Tri Try.prog 31 [.agg (encE e)] H (fun v H' => v = .bool (mayE e) ∧ H' = H) := (rmay_tri e).at rfl rfl H
theorem rcheck_tri (e : Ed) : Tri Try.prog 17 [.agg (encE e)] [] (fun v H => v = .int .i64 (errA (mayE e)) ∧ H = []) := by
  refine Tri.of_run' Try.func17 rfl c17_ok (by simp [Try.ntmps17]) ?_
  have hle := fun H => rmay_at e H
  simp only [encE] at hle
  (repeat (first | refine Run.adm rfl ?_ | refine Run.seq ?_ | (apply Run.opS rfl; (· (simp -implicitDefEqProofs [encE]; exact ⟨rfl, rfl⟩))) | (apply Run.condS; (· (simp -implicitDefEqProofs [encE]; exact rfl)))))
  refine Run.opC rfl rfl rfl (hle _) ?_
  rintro v h' ⟨rfl, rfl⟩
  cases h1 : mayE e with
  | false =>
    (repeat (first | refine Run.adm rfl ?_ | refine Run.seq ?_ | (apply Run.opS rfl; (· (simp -implicitDefEqProofs [h1]; exact ⟨rfl, rfl⟩))) | (apply Run.condS; (· (simp -implicitDefEqProofs [h1]; exact rfl)))))
    refine Run.mv [] [(2, .int .i64 1)] [] (by rfl) (by decide) (by simp -implicitDefEqProofs) (by simp -implicitDefEqProofs) ?_
    refine Run.retI Try.func17 r17_ok trivial (by simp -implicitDefEqProofs [r17]; rfl) (by simp ) ?_ (by simp -implicitDefEqProofs ) (by simp -implicitDefEqProofs )
    simp [errA]
  | true =>
    (repeat (first | refine Run.adm rfl ?_ | refine Run.seq ?_ | (apply Run.opS rfl; (· (simp -implicitDefEqProofs [h1]; exact ⟨rfl, rfl⟩))) | (apply Run.condS; (· (simp -implicitDefEqProofs [h1]; exact rfl)))))
    refine Run.mv [] [(2, .int .i64 0)] [] (by rfl) (by decide) (by simp -implicitDefEqProofs) (by simp -implicitDefEqProofs) ?_
    refine Run.retI Try.func17 r17_ok trivial (by simp -implicitDefEqProofs [r17]; rfl) (by simp ) ?_ (by simp -implicitDefEqProofs ) (by simp -implicitDefEqProofs )
    simp [errA]
theorem rcheck_at (e : Ed) (H : List O) : Tri Try.prog 17 [.agg (encE e)] H (fun v H' => v = .int .i64 (errA (mayE e)) ∧ H' = H) := (rcheck_tri e).at rfl rfl H

/-- few tables, of keys of few bytes -/
def fewB (t : Tb) : Bool := !decide (100 < t.lo.length) && !decide (100 < t.hi.length)
def lightM (e : Ed) : Bool := (e.add.take 140).all fewB && decide (e.add.length ≤ 140) && decide (e.drop.length ≤ 140)

theorem light_tri (e : Ed) : Tri Try.prog 9 [.agg (encE e)] [] (fun v H => v = .bool (lightM e) ∧ H = []) := by
  refine Tri.of_run' Try.func9 rfl c9_ok (by simp [Try.ntmps9]) ?_
  have hfin : ∀ {k t' h}, AtEnd k → t' 2 = .bool (lightM e) → Run ⟨Try.prog, 9, Try.f9.ntmps, [], fun v H => v = .bool (lightM e) ∧ H = []⟩ ⟨k, t', h⟩ := by
    intro k t' h hk h2
    refine Run.mv [] [(2, .bool (lightM e))] [] (by rfl) (by decide) (by simp [h2]) (by simp) ?_
    exact Run.retI Try.func9 r9_ok hk (by simp [r9]; rfl) (by simp) (by simp) (by simp) (by simp)
  (repeat (first | refine Run.adm rfl ?_ | refine Run.seq ?_ | (apply Run.opS rfl; (· (simp -implicitDefEqProofs [encE]; exact ⟨rfl, rfl⟩))) | (apply Run.condS; (· (simp -implicitDefEqProofs [encE]; exact rfl)))))
  refine Run.loopC [0] (fun (i : Nat) => ([(1, .ptr 0 0), (3, .int .i64 i)], [.row (encE e)])) (fun i => i ≤ e.add.length ∧ i ≤ 140 ∧ (e.add.take i).all fewB = true) (fun i => e.add.length - i) 0 (by simp) (by rfl) (by decide) (by simp) (by simp [encE]) ?_
  rintro i ⟨hi, hi2, hall⟩ ih
  by_cases hlt : i < e.add.length
  · have hlt' : (i : Int) < e.add.length := by omega
    by_cases h2 : i < 140
    · have h2' : (i : Int) < 140 := by omega
      obtain ⟨x, hx, hxi, -, hxm⟩ := getL hlt
      have hw := wrap_small (n := (i : Int) + 1) (by omega) (by omega)
      have htk := take_all (p := fewB) hx
      have hxt : x ∈ e.add.take 140 := List.mem_take_iff_getElem.2 ⟨i, by omega, hxi⟩
      by_cases c1 : 100 < x.lo.length
      · have c1' : (100 : Int) < x.lo.length := by omega
        (repeat (first | refine Run.adm rfl ?_ | refine Run.seq ?_ | (apply Run.opS rfl; (· (simp -implicitDefEqProofs [encE, hlt', hlt, h2', h2, hx, hxi, encT, c1, c1']; exact ⟨rfl, rfl⟩))) | (apply Run.condS; (· (simp -implicitDefEqProofs [encE, hlt', hlt, h2', h2, hx, hxi, encT, c1, c1']; exact rfl)))))
        exact hfin trivial (by simp [lightM, all_false (p := fewB) hxt (by simp [fewB, c1])])
      have c1' : ¬ (100 : Int) < x.lo.length := by omega
      by_cases c2 : 100 < x.hi.length
      · have c2' : (100 : Int) < x.hi.length := by omega
        (repeat (first | refine Run.adm rfl ?_ | refine Run.seq ?_ | (apply Run.opS rfl; (· (simp -implicitDefEqProofs [encE, hlt', hlt, h2', h2, hx, hxi, encT, c1, c1', c2, c2']; exact ⟨rfl, rfl⟩))) | (apply Run.condS; (· (simp -implicitDefEqProofs [encE, hlt', hlt, h2', h2, hx, hxi, encT, c1, c1', c2, c2']; exact rfl)))))
        exact hfin trivial (by simp [lightM, all_false (p := fewB) hxt (by simp [fewB, c1, c2])])
      have c2' : ¬ (100 : Int) < x.hi.length := by omega
      (repeat (first | refine Run.adm rfl ?_ | refine Run.seq ?_ | (apply Run.opS rfl; (· (simp -implicitDefEqProofs [encE, hlt', hlt, h2', h2, hx, hxi, encT, c1, c1', c2, c2']; exact ⟨rfl, rfl⟩))) | (apply Run.condS; (· (simp -implicitDefEqProofs [encE, hlt', hlt, h2', h2, hx, hxi, encT, c1, c1', c2, c2']; exact rfl)))))
      refine Run.mv [0] _ _ (by rfl) (by decide) (by simp -implicitDefEqProofs [hw, encE]) (by simp -implicitDefEqProofs [hw, encE]) (ih (i + 1) ?_ ?_)
      · exact ⟨by omega, by omega, by rw [htk, hall]; simp [fewB, c1, c2]⟩
      · omega
    · have h2' : ¬ (i : Int) < 140 := by omega
      have b1 : ¬ e.add.length ≤ 140 := by omega
      have b1' : ¬ (e.add.length : Int) ≤ 140 := by omega
      (repeat (first | refine Run.adm rfl ?_ | refine Run.seq ?_ | (apply Run.opS rfl; (· (simp -implicitDefEqProofs [encE, hlt', hlt, h2', h2, b1, b1']; exact ⟨rfl, rfl⟩))) | (apply Run.condS; (· (simp -implicitDefEqProofs [encE, hlt', hlt, h2', h2, b1, b1']; exact rfl)))))
      exact hfin trivial (by simp [lightM, b1])
  · have hlt' : ¬ (i : Int) < e.add.length := by omega
    have hl : (e.add.take 140).all fewB = true := by
      rw [List.take_of_length_le (by omega), ← List.take_of_length_le (l := e.add) (i := i) (by omega)]; exact hall
    have b1 : e.add.length ≤ 140 := by omega
    have b1' : (e.add.length : Int) ≤ 140 := by omega
    by_cases b2 : e.drop.length ≤ 140
    · have b2' : (e.drop.length : Int) ≤ 140 := by omega
      (repeat (first | refine Run.adm rfl ?_ | refine Run.seq ?_ | (apply Run.opS rfl; (· (simp -implicitDefEqProofs [encE, hlt', hlt, b1, b1', b2, b2']; exact ⟨rfl, rfl⟩))) | (apply Run.condS; (· (simp -implicitDefEqProofs [encE, hlt', hlt, b1, b1', b2, b2']; exact rfl))))); exact hfin trivial (by rw [lightM, hl]; simp [b1, b2])
    · have b2' : ¬ (e.drop.length : Int) ≤ 140 := by omega
      (repeat (first | refine Run.adm rfl ?_ | refine Run.seq ?_ | (apply Run.opS rfl; (· (simp -implicitDefEqProofs [encE, hlt', hlt, b1, b1', b2, b2']; exact ⟨rfl, rfl⟩))) | (apply Run.condS; (· (simp -implicitDefEqProofs [encE, hlt', hlt, b1, b1', b2, b2']; exact rfl))))); exact hfin trivial (by simp [lightM, b2])
theorem light_at (e : Ed) (H : List O) : Tri Try.prog 9 [.agg (encE e)] H (fun v H' => v = .bool (lightM e) ∧ H' = H) := (light_tri e).at rfl rfl H

/-- what Text answers -/
def textM (s : Bs) : Bs × Int := if 262144 < s.length then ([], 1) else ((vputM s.length).1 ++ s, 0)
theorem vputM_len (n : Int) : (vputM n).1.length ≤ 9 := by
  unfold vputM; split
  · exact vput_len9 (by omega)
  · simp
theorem stext_tri (s : Bs) (hs : s.length ≤ 4000000000) : Tri Try.prog 29 [.str s] [] (fun v H => v = .tup [.str (textM s).1, .int .i64 (textM s).2] ∧ H = []) := by
  refine Tri.of_run' Try.func29 rfl c29_ok (by simp [Try.ntmps29]) ?_
  by_cases h : 262144 < s.length
  · have h' : (262144 : Int) < s.length := by omega
    (repeat (first | refine Run.adm rfl ?_ | refine Run.seq ?_ | (apply Run.opS rfl; (· (simp -implicitDefEqProofs [h, h']; exact ⟨rfl, rfl⟩))) | (apply Run.condS; (· (simp -implicitDefEqProofs [h, h']; exact rfl)))))
    refine Run.retI Try.func29 r29_ok trivial (by simp -implicitDefEqProofs [r29]; rfl) (by simp ) ?_ (by simp -implicitDefEqProofs ) (by simp -implicitDefEqProofs )
    simp [textM, h]
  · have h' : ¬ (262144 : Int) < s.length := by omega
    (repeat (first | refine Run.adm rfl ?_ | refine Run.seq ?_ | (apply Run.opS rfl; (· (simp -implicitDefEqProofs [h, h']; exact ⟨rfl, rfl⟩))) | (apply Run.condS; (· (simp -implicitDefEqProofs [h, h']; exact rfl)))))
    refine Run.opC rfl rfl rfl (vput_at s.length _) ?_
    rintro v h' ⟨rfl, rfl⟩
    have hln := vputM_len s.length
    have hb : (vputM s.length).1.length + s.length ≤ 4611686018427387904 := by omega
    generalize hg : (vputM s.length).1 = g at *
    (repeat (first | refine Run.adm rfl ?_ | refine Run.seq ?_ | (apply Run.opS rfl; (· (simp -implicitDefEqProofs [hb]; exact ⟨rfl, rfl⟩))) | (apply Run.condS; (· (simp -implicitDefEqProofs [hb]; exact rfl)))))
    refine Run.retI Try.func29 r29_ok trivial (by simp -implicitDefEqProofs [r29]; rfl) (by simp ) ?_ (by simp -implicitDefEqProofs ) (by simp -implicitDefEqProofs )
    simp [textM, h, hg]
theorem stext_at (s : Bs) (hs : s.length ≤ 4000000000) (H : List O) : Tri Try.prog 29 [.str s] H (fun v H' => v = .tup [.str (textM s).1, .int .i64 (textM s).2] ∧ H' = H) := (stext_tri s hs).at rfl rfl H
theorem vtext_tri (s : Bs) (hs : s.length ≤ 4000000000) : Tri Try.prog 61 [.str s] [] (fun v H => v = .tup [.str (textM s).1, .int .i64 (textM s).2] ∧ H = []) := by
  refine Tri.of_run' Try.func61 rfl c61_ok (by simp [Try.ntmps61]) ?_
  by_cases h : 262144 < s.length
  · have h' : (262144 : Int) < s.length := by omega
    (repeat (first | refine Run.adm rfl ?_ | refine Run.seq ?_ | (apply Run.opS rfl; (· (simp -implicitDefEqProofs [h, h']; exact ⟨rfl, rfl⟩))) | (apply Run.condS; (· (simp -implicitDefEqProofs [h, h']; exact rfl)))))
    refine Run.retI Try.func61 r61_ok trivial (by simp -implicitDefEqProofs [r61]; rfl) (by simp ) ?_ (by simp -implicitDefEqProofs ) (by simp -implicitDefEqProofs )
    simp [textM, h]
  · have h' : ¬ (262144 : Int) < s.length := by omega
    (repeat (first | refine Run.adm rfl ?_ | refine Run.seq ?_ | (apply Run.opS rfl; (· (simp -implicitDefEqProofs [h, h']; exact ⟨rfl, rfl⟩))) | (apply Run.condS; (· (simp -implicitDefEqProofs [h, h']; exact rfl)))))
    refine Run.opC rfl rfl rfl (rvput_at s.length _) ?_
    rintro v h' ⟨rfl, rfl⟩
    have hln := vputM_len s.length
    have hb : (vputM s.length).1.length + s.length ≤ 4611686018427387904 := by omega
    generalize hg : (vputM s.length).1 = g at *
    (repeat (first | refine Run.adm rfl ?_ | refine Run.seq ?_ | (apply Run.opS rfl; (· (simp -implicitDefEqProofs [hb]; exact ⟨rfl, rfl⟩))) | (apply Run.condS; (· (simp -implicitDefEqProofs [hb]; exact rfl)))))
    refine Run.retI Try.func61 r61_ok trivial (by simp -implicitDefEqProofs [r61]; rfl) (by simp ) ?_ (by simp -implicitDefEqProofs ) (by simp -implicitDefEqProofs )
    simp [textM, h, hg]
theorem vtext_at (s : Bs) (hs : s.length ≤ 4000000000) (H : List O) : Tri Try.prog 61 [.str s] H (fun v H' => v = .tup [.str (textM s).1, .int .i64 (textM s).2] ∧ H' = H) := (vtext_tri s hs).at rfl rfl H
theorem num_tri (n : Int) : Tri Try.prog 32 [.int .i64 n] [] (fun v H => v = .str (vputM n).1 ∧ H = []) := by
  refine Tri.of_run' Try.func32 rfl c32_ok (by simp [Try.ntmps32]) ?_
  (repeat (first | refine Run.adm rfl ?_ | refine Run.seq ?_ | (apply Run.opS rfl; (· (simp -implicitDefEqProofs; exact ⟨rfl, rfl⟩))) | (apply Run.condS; (· (simp -implicitDefEqProofs; exact rfl)))))
  refine Run.opC rfl rfl rfl (rvput_at n _) ?_
  rintro v h' ⟨rfl, rfl⟩
  (repeat (first | refine Run.adm rfl ?_ | refine Run.seq ?_ | (apply Run.opS rfl; (· (simp -implicitDefEqProofs; exact ⟨rfl, rfl⟩))) | (apply Run.condS; (· (simp -implicitDefEqProofs; exact rfl)))))
  refine Run.retI Try.func32 r32_ok trivial (by simp -implicitDefEqProofs [r32]; rfl) (by simp ) ?_ (by simp -implicitDefEqProofs ) (by simp -implicitDefEqProofs )
  simp
theorem num_at (n : Int) (H : List O) : Tri Try.prog 32 [.int .i64 n] H (fun v H' => v = .str (vputM n).1 ∧ H' = H) := (num_tri n).at rfl rfl H
theorem text_tri (s : Bs) (hs : s.length ≤ 4000000000) : Tri Try.prog 33 [.str s] [] (fun v H => v = .str (textM s).1 ∧ H = []) := by
  refine Tri.of_run' Try.func33 rfl c33_ok (by simp [Try.ntmps33]) ?_
  (repeat (first | refine Run.adm rfl ?_ | refine Run.seq ?_ | (apply Run.opS rfl; (· (simp -implicitDefEqProofs; exact ⟨rfl, rfl⟩))) | (apply Run.condS; (· (simp -implicitDefEqProofs; exact rfl)))))
  refine Run.opC rfl rfl rfl (vtext_at s hs _) ?_
  rintro v h' ⟨rfl, rfl⟩
  (repeat (first | refine Run.adm rfl ?_ | refine Run.seq ?_ | (apply Run.opS rfl; (· (simp -implicitDefEqProofs; exact ⟨rfl, rfl⟩))) | (apply Run.condS; (· (simp -implicitDefEqProofs; exact rfl)))))
  refine Run.retI Try.func33 r33_ok trivial (by simp -implicitDefEqProofs [r33]; rfl) (by simp ) ?_ (by simp -implicitDefEqProofs ) (by simp -implicitDefEqProofs )
  simp
theorem text_at (s : Bs) (hs : s.length ≤ 4000000000) (H : List O) : Tri Try.prog 33 [.str s] H (fun v H' => v = .str (textM s).1 ∧ H' = H) := (text_tri s hs).at rfl rfl H

end Go.Proofs.Ytpipgcmiaccdkaa
