/-
  Layer 14, part N: what is made of any; Join of both.
-/
import Derived.Test.YticecideodkcmaaOnceM
namespace Go.Proofs.Yticecideodkcmaa
open Sx Go
set_option maxRecDepth 100000
set_option linter.unusedSimpArgs false
set_option linter.unusedVariables false
set_option linter.unnecessarySimpa false
attribute [local simp] guardB isCall opStep Opd.ev put readAt aBin aUn args0 V.celled V.ones V.one V.cells putAt bounds bound1 elemsOf srcOf appendV fillAt fillEl V.pures V.pure unwind evs ARes.ev mkRes V.ren V.renL O.ren eqCells eq1 aEq aMM hasTy hasTyN okTy mmGo Known HLe OLe VsLe.refl VLe.refl Stay VsLe V.frz V.frzL O.frz fr clearV rn KnownR Objs OLeO ObjsE nm back setAll ren_ite take_map_len List.take_of_length_le
attribute [local simp ↓] upd_app tl_cons tl_nil
attribute [local simp] encS_ren encS_ones tabC_ones

theorem Rput_at (l : List Seen) (hll : l.length ≤ 1000000) (x : Seen) (H : List O) : Tri Try.prog 13 [.vs (l.map encS) 7, .agg (encS x)] H (fun v H' => v = .tup [.vs ((rputM l x).1.map encS) 7, .int .i64 (rputM l x).2] ∧ H' = H) := (Rput_tri l hll x).at rfl rfl H

theorem rputGo_len : ∀ (l : List Seen) (x : Seen) (d : Bool), (rputGo l x d).length ≤ l.length + (if d then 0 else 1)
  | [], x, d => by cases d <;> simp [rputGo]
  | y :: l, x, d => by
    have := rputGo_len l x (d || decide (x.client ≤ y.client))
    simp only [rputGo, List.length_append]
    by_cases h : x.client ≤ y.client <;> cases d <;> simp [h] at this ⊢ <;> split <;> simp <;> omega

theorem rputM_len (l : List Seen) (x : Seen) : (rputM l x).1.length ≤ l.length + 1 := by
  unfold rputM
  split
  · split
    · simp
    · simpa using rputGo_len l x false
  · simp

def madeM : List Seen → List Seen → List Seen
  | [], o => o
  | x :: l, o => madeM l (if (rputM o x).2 = 0 then (rputM o x).1 else o)

theorem made_tri (l : List Seen) (hll : l.length ≤ 1000) : Tri Try.prog 18 [.vs (l.map encS) 7] [] (fun v H => v = .vs ((madeM l []).map encS) 7 ∧ H = []) := by
  refine Tri.of_run' Try.func18 rfl c18_ok (by simp [Try.ntmps18]) ?_
  (repeat (first | refine Run.seq ?_ | refine Run.reg ?_ | refine Run.skip ?_ | refine Run.block ?_ | refine Run.endB ?_ | refine Run.opE rfl ?_ | (apply Run.op0 rfl; (· (simp -implicitDefEqProofs; exact ⟨rfl, rfl⟩))) | (apply Run.opA rfl; (· (simp -implicitDefEqProofs; done)); (· (simp -implicitDefEqProofs; exact ⟨rfl, rfl⟩))) | (apply Run.opN rfl; (· (simp -implicitDefEqProofs; done))) | (refine Run.condT ?_ ?_; (· (simp -implicitDefEqProofs; done))) | (refine Run.condF ?_ ?_; (· (simp -implicitDefEqProofs; done))) | refine Run.exit rfl ?_))
  refine Run.loopC [] (fun (a : Nat × List Seen) => ([(0, .vs (l.map encS) 7), (3, .vs (a.2.map encS) 7), (4, .int .i64 a.1)], []))
    (fun a => a.1 ≤ l.length ∧ a.2.length ≤ a.1 ∧ madeM (l.drop a.1) a.2 = madeM l []) (fun a => l.length - a.1) (0, []) (by simp) (by rfl) (by decide) (by simp [VLe.nils]) (by simp) ?_
  rintro ⟨i, o⟩ ⟨hi, ho, hgo⟩ ih
  simp only at hi ho hgo ih ⊢
  by_cases hlt : i < l.length
  · obtain ⟨y, hy, hyi, hdrop, -⟩ := getL hlt
    have hw := wrap_small (n := (i : Int) + 1) (by omega) (by omega)
    (repeat (first | refine Run.seq ?_ | refine Run.reg ?_ | refine Run.skip ?_ | refine Run.block ?_ | refine Run.endB ?_ | refine Run.opE rfl ?_ | (apply Run.op0 rfl; (· (simp -implicitDefEqProofs [hlt, hy, hyi, encS]; exact ⟨rfl, rfl⟩))) | (apply Run.opA rfl; (· (simp -implicitDefEqProofs [hlt, hy, hyi, encS]; done)); (· (simp -implicitDefEqProofs [hlt, hy, hyi, encS]; exact ⟨rfl, rfl⟩))) | (apply Run.opN rfl; (· (simp -implicitDefEqProofs [hlt, hy, hyi, encS]; done))) | (refine Run.condT ?_ ?_; (· (simp -implicitDefEqProofs [hlt, hy, hyi, encS]; done))) | (refine Run.condF ?_ ?_; (· (simp -implicitDefEqProofs [hlt, hy, hyi, encS]; done))) | refine Run.exit rfl ?_))
    refine Run.opC rfl rfl rfl (by simpa [encS] using Rput_at o (by omega) y _) ?_
    rintro v h' ⟨rfl, rfl⟩
    rw [hdrop, madeM] at hgo
    have hlen := rputM_len o y
    (repeat (first | refine Run.seq ?_ | refine Run.reg ?_ | refine Run.skip ?_ | refine Run.block ?_ | refine Run.endB ?_ | refine Run.opE rfl ?_ | (apply Run.op0 rfl; (· (simp -implicitDefEqProofs; exact ⟨rfl, rfl⟩))) | (apply Run.opA rfl; (· (simp -implicitDefEqProofs; done)); (· (simp -implicitDefEqProofs; exact ⟨rfl, rfl⟩))) | (apply Run.opN rfl; (· (simp -implicitDefEqProofs; done))) | (refine Run.condT ?_ ?_; (· (simp -implicitDefEqProofs; done))) | (refine Run.condF ?_ ?_; (· (simp -implicitDefEqProofs; done))) | refine Run.exit rfl ?_))
    by_cases he : (rputM o y).2 = 0
    · (repeat (first | refine Run.seq ?_ | refine Run.reg ?_ | refine Run.skip ?_ | refine Run.block ?_ | refine Run.endB ?_ | refine Run.opE rfl ?_ | (apply Run.op0 rfl; (· (simp -implicitDefEqProofs [he]; exact ⟨rfl, rfl⟩))) | (apply Run.opA rfl; (· (simp -implicitDefEqProofs [he]; done)); (· (simp -implicitDefEqProofs [he]; exact ⟨rfl, rfl⟩))) | (apply Run.opN rfl; (· (simp -implicitDefEqProofs [he]; done))) | (refine Run.condT ?_ ?_; (· (simp -implicitDefEqProofs [he]; done))) | (refine Run.condF ?_ ?_; (· (simp -implicitDefEqProofs [he]; done))) | refine Run.exit rfl ?_))
      refine Run.mv [] _ _ (by rfl) (by decide) (by simp -implicitDefEqProofs [hw]) (by simp -implicitDefEqProofs [hw]) (ih ((i + 1, (rputM o y).1)) ?_ ?_)
      · rw [if_pos he] at hgo
        exact ⟨by omega, by simp only; omega, hgo⟩
      · simp only; omega
    · (repeat (first | refine Run.seq ?_ | refine Run.reg ?_ | refine Run.skip ?_ | refine Run.block ?_ | refine Run.endB ?_ | refine Run.opE rfl ?_ | (apply Run.op0 rfl; (· (simp -implicitDefEqProofs [he]; exact ⟨rfl, rfl⟩))) | (apply Run.opA rfl; (· (simp -implicitDefEqProofs [he]; done)); (· (simp -implicitDefEqProofs [he]; exact ⟨rfl, rfl⟩))) | (apply Run.opN rfl; (· (simp -implicitDefEqProofs [he]; done))) | (refine Run.condT ?_ ?_; (· (simp -implicitDefEqProofs [he]; done))) | (refine Run.condF ?_ ?_; (· (simp -implicitDefEqProofs [he]; done))) | refine Run.exit rfl ?_))
      refine Run.mv [] _ _ (by rfl) (by decide) (by simp -implicitDefEqProofs [hw]) (by simp -implicitDefEqProofs [hw]) (ih ((i + 1, o)) ?_ ?_)
      · rw [if_neg he] at hgo
        exact ⟨by omega, by simp only; omega, hgo⟩
      · simp only; omega
  · (repeat (first | refine Run.seq ?_ | refine Run.reg ?_ | refine Run.skip ?_ | refine Run.block ?_ | refine Run.endB ?_ | refine Run.opE rfl ?_ | (apply Run.op0 rfl; (· (simp -implicitDefEqProofs [hlt]; exact ⟨rfl, rfl⟩))) | (apply Run.opA rfl; (· (simp -implicitDefEqProofs [hlt]; done)); (· (simp -implicitDefEqProofs [hlt]; exact ⟨rfl, rfl⟩))) | (apply Run.opN rfl; (· (simp -implicitDefEqProofs [hlt]; done))) | (refine Run.condT ?_ ?_; (· (simp -implicitDefEqProofs [hlt]; done))) | (refine Run.condF ?_ ?_; (· (simp -implicitDefEqProofs [hlt]; done))) | refine Run.exit rfl ?_))
    refine Run.mv [] [(2, .vs (o.map encS) 7)] [] (by rfl) (by decide) (by simp -implicitDefEqProofs) (by simp -implicitDefEqProofs) ?_
    refine Run.retI Try.func18 r18_ok trivial (by simp -implicitDefEqProofs [r18]; rfl) (by simp ) ?_ (by simp -implicitDefEqProofs ) (by simp -implicitDefEqProofs )
    rw [List.drop_eq_nil_of_le (by omega), madeM] at hgo
    simp [hgo]

/-! ### Join -/

def joinT : List Seen → List Seen → List Seen
  | x :: a, y :: b => (if x.seq < y.seq then y else x) :: joinT a b
  | a, _ => a

theorem joinT_len : ∀ a b, (joinT a b).length = a.length
  | [], [] => rfl
  | [], _ :: _ => rfl
  | _ :: _, [] => rfl
  | _ :: a, _ :: b => by simp [joinT, joinT_len a b]

theorem joinT_get : ∀ (a b : List Seen) (k : Nat) (x y : Seen), a[k]? = some x → b[k]? = some y → (joinT a b)[k]? = some (if x.seq < y.seq then y else x)
  | _ :: _, _ :: _, 0, x, y, h1, h2 => by simp at h1 h2; subst h1; subst h2; rfl
  | _ :: a, _ :: b, k + 1, x, y, h1, h2 => by simpa [joinT] using joinT_get a b k x y (by simpa using h1) (by simpa using h2)

/-- what Join answers -/
def joinM (a b : List Seen) : List Seen × Int :=
  if (readM a).2 = true ∧ (readM b).2 = true then (keptL (joinT (readM a).1 (readM b).1), 0) else ([], 1)

theorem join_tri (a b : List Seen) (hla : a.length ≤ 1000000) (hlb : b.length ≤ 1000000) : Tri Try.prog 19 [.vs (a.map encS) 7, .vs (b.map encS) 7] [] (fun v H => v = .tup [.vs ((joinM a b).1.map encS) 7, .int .i64 (joinM a b).2] ∧ H = []) := by
  refine Tri.of_run' Try.func19 rfl c19_ok (by simp [Try.ntmps19]) ?_
  have la := readM_len a
  have lb := readM_len b
  have hbad : ∀ {k}, (readM a).2 = false ∨ (readM b).2 = false → AtEnd k → Run ⟨Try.prog, 19, Try.f19.ntmps, [], fun v H => v = .tup [.vs ((joinM a b).1.map encS) 7, .int .i64 (joinM a b).2] ∧ H = []⟩ ⟨k, tl [(4, .vs [] 7), (5, .int .i64 1)], []⟩ := by
    intro k hb hk
    have : joinM a b = ([], 1) := by rw [joinM, if_neg]; rintro ⟨h1, h2⟩; rcases hb with h | h <;> simp_all
    refine Run.retI Try.func19 r19_ok hk (by simp [r19]; rfl) (by simp) ?_ (by simp) (by simp)
    simp [this]
  (repeat (first | refine Run.seq ?_ | refine Run.reg ?_ | refine Run.skip ?_ | refine Run.block ?_ | refine Run.endB ?_ | refine Run.opE rfl ?_ | (apply Run.op0 rfl; (· (simp -implicitDefEqProofs; exact ⟨rfl, rfl⟩))) | (apply Run.opA rfl; (· (simp -implicitDefEqProofs; done)); (· (simp -implicitDefEqProofs; exact ⟨rfl, rfl⟩))) | (apply Run.opN rfl; (· (simp -implicitDefEqProofs; done))) | (refine Run.condT ?_ ?_; (· (simp -implicitDefEqProofs; done))) | (refine Run.condF ?_ ?_; (· (simp -implicitDefEqProofs; done))) | refine Run.exit rfl ?_))
  refine Run.opC rfl rfl rfl (read_at a hla _) ?_
  rintro v h' ⟨rfl, rfl⟩
  (repeat (first | refine Run.seq ?_ | refine Run.reg ?_ | refine Run.skip ?_ | refine Run.block ?_ | refine Run.endB ?_ | refine Run.opE rfl ?_ | (apply Run.op0 rfl; (· (simp -implicitDefEqProofs [tabC_len, la, tab_drop la]; exact ⟨rfl, rfl⟩))) | (apply Run.opA rfl; (· (simp -implicitDefEqProofs [tabC_len, la, tab_drop la]; done)); (· (simp -implicitDefEqProofs [tabC_len, la, tab_drop la]; exact ⟨rfl, rfl⟩))) | (apply Run.opN rfl; (· (simp -implicitDefEqProofs [tabC_len, la, tab_drop la]; done))) | (refine Run.condT ?_ ?_; (· (simp -implicitDefEqProofs [tabC_len, la, tab_drop la]; done))) | (refine Run.condF ?_ ?_; (· (simp -implicitDefEqProofs [tabC_len, la, tab_drop la]; done))) | refine Run.exit rfl ?_))
  refine Run.opC rfl rfl rfl (read_at b hlb _) ?_
  rintro v h' ⟨rfl, rfl⟩
  (repeat (first | refine Run.seq ?_ | refine Run.reg ?_ | refine Run.skip ?_ | refine Run.block ?_ | refine Run.endB ?_ | refine Run.opE rfl ?_ | (apply Run.op0 rfl; (· (simp -implicitDefEqProofs [tabC_len, lb, tab_drop lb]; exact ⟨rfl, rfl⟩))) | (apply Run.opA rfl; (· (simp -implicitDefEqProofs [tabC_len, lb, tab_drop lb]; done)); (· (simp -implicitDefEqProofs [tabC_len, lb, tab_drop lb]; exact ⟨rfl, rfl⟩))) | (apply Run.opN rfl; (· (simp -implicitDefEqProofs [tabC_len, lb, tab_drop lb]; done))) | (refine Run.condT ?_ ?_; (· (simp -implicitDefEqProofs [tabC_len, lb, tab_drop lb]; done))) | (refine Run.condF ?_ ?_; (· (simp -implicitDefEqProofs [tabC_len, lb, tab_drop lb]; done))) | refine Run.exit rfl ?_))
  cases ha : (readM a).2 with
  | false =>
    (repeat (first | refine Run.seq ?_ | refine Run.reg ?_ | refine Run.skip ?_ | refine Run.block ?_ | refine Run.endB ?_ | refine Run.opE rfl ?_ | (apply Run.op0 rfl; (· (simp -implicitDefEqProofs [ha]; exact ⟨rfl, rfl⟩))) | (apply Run.opA rfl; (· (simp -implicitDefEqProofs [ha]; done)); (· (simp -implicitDefEqProofs [ha]; exact ⟨rfl, rfl⟩))) | (apply Run.opN rfl; (· (simp -implicitDefEqProofs [ha]; done))) | (refine Run.condT ?_ ?_; (· (simp -implicitDefEqProofs [ha]; done))) | (refine Run.condF ?_ ?_; (· (simp -implicitDefEqProofs [ha]; done))) | refine Run.exit rfl ?_))
    refine Run.mv [] [(4, .vs [] 7), (5, .int .i64 1)] [] (by rfl) (by decide) (by simp -implicitDefEqProofs [VLe.nils]) (by simp -implicitDefEqProofs [VLe.nils]) ?_
    exact hbad (.inl ha) trivial
  | true =>
  cases hb : (readM b).2 with
  | false =>
    (repeat (first | refine Run.seq ?_ | refine Run.reg ?_ | refine Run.skip ?_ | refine Run.block ?_ | refine Run.endB ?_ | refine Run.opE rfl ?_ | (apply Run.op0 rfl; (· (simp -implicitDefEqProofs [ha, hb]; exact ⟨rfl, rfl⟩))) | (apply Run.opA rfl; (· (simp -implicitDefEqProofs [ha, hb]; done)); (· (simp -implicitDefEqProofs [ha, hb]; exact ⟨rfl, rfl⟩))) | (apply Run.opN rfl; (· (simp -implicitDefEqProofs [ha, hb]; done))) | (refine Run.condT ?_ ?_; (· (simp -implicitDefEqProofs [ha, hb]; done))) | (refine Run.condF ?_ ?_; (· (simp -implicitDefEqProofs [ha, hb]; done))) | refine Run.exit rfl ?_))
    refine Run.mv [] [(4, .vs [] 7), (5, .int .i64 1)] [] (by rfl) (by decide) (by simp -implicitDefEqProofs [VLe.nils]) (by simp -implicitDefEqProofs [VLe.nils]) ?_
    exact hbad (.inr hb) trivial
  | true =>
  (repeat (first | refine Run.seq ?_ | refine Run.reg ?_ | refine Run.skip ?_ | refine Run.block ?_ | refine Run.endB ?_ | refine Run.opE rfl ?_ | (apply Run.op0 rfl; (· (simp -implicitDefEqProofs [ha, hb, tabC_len, lb, tab_take lb]; exact ⟨rfl, rfl⟩))) | (apply Run.opA rfl; (· (simp -implicitDefEqProofs [ha, hb, tabC_len, lb, tab_take lb]; done)); (· (simp -implicitDefEqProofs [ha, hb, tabC_len, lb, tab_take lb]; exact ⟨rfl, rfl⟩))) | (apply Run.opN rfl; (· (simp -implicitDefEqProofs [ha, hb, tabC_len, lb, tab_take lb]; done))) | (refine Run.condT ?_ ?_; (· (simp -implicitDefEqProofs [ha, hb, tabC_len, lb, tab_take lb]; done))) | (refine Run.condF ?_ ?_; (· (simp -implicitDefEqProofs [ha, hb, tabC_len, lb, tab_take lb]; done))) | refine Run.exit rfl ?_))
  have hM : joinM a b = (keptL (joinT (readM a).1 (readM b).1), 0) := by rw [joinM, if_pos ⟨ha, hb⟩]
  rw [hM]
  generalize (readM a).1 = ta at *
  generalize (readM b).1 = tb at *
  refine Run.loopC [0] (fun (c : Nat × List Seen) => ([(6, .ptr 0 0), (28, .agg (tabC tb)), (29, .int .i64 c.1)], [.row (tabC c.2)]))
    (fun c => c.1 ≤ 8 ∧ c.2.length = 8 ∧ (∀ j, j < c.1 → c.2[j]? = (joinT ta tb)[j]?) ∧ ∀ j, c.1 ≤ j → c.2[j]? = ta[j]?) (fun c => 8 - c.1) (0, ta) ⟨by simp, la, by simp, by simp⟩ (by rfl) (by decide) (by simp [V.renL_pure _ _ (tabC_pure _)]) (by simp [V.renL_pure _ _ (tabC_pure _)]) ?_
  rintro ⟨k, T⟩ ⟨hk, hT, hlo, hhi⟩ ih
  simp only at hk hT hlo hhi ih ⊢
  by_cases hlt : k < 8
  · have hlt' : (k : Int) < 8 := by omega
    have hw := wrap_small (n := (k : Int) + 1) (by omega) (by omega)
    have hb7 : k * 7 + 7 ≤ 56 := by omega
    have hb' : k * 7 ≤ 49 := by omega
    obtain ⟨y, hy, -, -⟩ := get_lt (l := tb) (i := k) (by omega)
    obtain ⟨x, hx, -, -⟩ := get_lt (l := T) (i := k) (by omega)
    have e7 := tab_d7 hy
    have e1 : (tabC T)[k * 7 + 1]? = some (.int .i64 x.seq) := tab_j hx (by omega)
    have hxa : ta[k]? = some x := by rw [← hhi k (Nat.le_refl _)]; exact hx
    (repeat (first | refine Run.seq ?_ | refine Run.reg ?_ | refine Run.skip ?_ | refine Run.block ?_ | refine Run.endB ?_ | refine Run.opE rfl ?_ | (apply Run.op0 rfl; (· (simp -implicitDefEqProofs [hlt', tabC_len, lb, hb7, e7, encS_len]; exact ⟨rfl, rfl⟩))) | (apply Run.opA rfl; (· (simp -implicitDefEqProofs [hlt', tabC_len, lb, hb7, e7, encS_len]; done)); (· (simp -implicitDefEqProofs [hlt', tabC_len, lb, hb7, e7, encS_len]; exact ⟨rfl, rfl⟩))) | (apply Run.opN rfl; (· (simp -implicitDefEqProofs [hlt', tabC_len, lb, hb7, e7, encS_len]; done))) | (refine Run.condT ?_ ?_; (· (simp -implicitDefEqProofs [hlt', tabC_len, lb, hb7, e7, encS_len]; done))) | (refine Run.condF ?_ ?_; (· (simp -implicitDefEqProofs [hlt', tabC_len, lb, hb7, e7, encS_len]; done))) | refine Run.exit rfl ?_))
    refine Run.quietM prog_mixed (by kernel_rfl) [0, 1] [(6, .ptr 0 0), (10, .int .i64 k), (11, .ptr 1 0), (28, .agg (tabC tb)), (29, .int .i64 k), (39, .bool (decide (x.seq < y.seq)))] [.row (tabC T), .row (encS y)] (by rfl) (by decide) ?_ ?_
    · (repeat (first | refine execQ_E rfl ?_ | (apply execQ_0 rfl; (· rfl); (· (simp -implicitDefEqProofs [hlt', e1, encS]; exact ⟨rfl, rfl⟩))) | (apply execQ_A rfl; (· (simp -implicitDefEqProofs [hlt', e1, encS]; done)); (· rfl); (· (simp -implicitDefEqProofs [hlt', e1, encS]; exact ⟨rfl, rfl⟩))) | (apply execQ_N rfl; (· (simp -implicitDefEqProofs [hlt', e1, encS]; done)))))
      simp [encS, V.renL_pure _ _ (tabC_pure _)]
    have hput : putAt (tabC T) (k * 7) (encS y) = tabC (T.set k y) := by
      have := rows_put encS_len hx (j := 0) (vs := encS y) (y := y) (by simp [encS_len]) (by simp [putAt, encS])
      rwa [Nat.add_zero] at this
    have hput' : (tabC T).take (k * 7) ++ (encS y ++ (tabC T).drop (k * 7 + 7)) = tabC (T.set k y) := by simpa [putAt, encS_len] using hput
    have hstep : ∀ z, z = (if x.seq < y.seq then y else x) → (∀ j, j < k + 1 → (T.set k z)[j]? = (joinT ta tb)[j]?) ∧ ∀ j, k + 1 ≤ j → (T.set k z)[j]? = ta[j]? := by
      rintro z rfl
      refine ⟨fun j hj => ?_, fun j hj => ?_⟩
      · by_cases e : j = k
        · subst e; rw [List.getElem?_set_self (by omega), joinT_get ta tb j x y hxa hy]
        · rw [List.getElem?_set_ne (Ne.symm e)]; exact hlo j (by omega)
      · rw [List.getElem?_set_ne (by omega)]; exact hhi j (by omega)
    by_cases hc : x.seq < y.seq
    · (repeat (first | refine Run.seq ?_ | refine Run.reg ?_ | refine Run.skip ?_ | refine Run.block ?_ | refine Run.endB ?_ | refine Run.opE rfl ?_ | (apply Run.op0 rfl; (· (simp -implicitDefEqProofs [hc, hlt', hb7, hb', encS_len, tabC_len, hT, List.take_of_length_le]; exact ⟨rfl, rfl⟩))) | (apply Run.opA rfl; (· (simp -implicitDefEqProofs [hc, hlt', hb7, hb', encS_len, tabC_len, hT, List.take_of_length_le]; done)); (· (simp -implicitDefEqProofs [hc, hlt', hb7, hb', encS_len, tabC_len, hT, List.take_of_length_le]; exact ⟨rfl, rfl⟩))) | (apply Run.opN rfl; (· (simp -implicitDefEqProofs [hc, hlt', hb7, hb', encS_len, tabC_len, hT, List.take_of_length_le]; done))) | (refine Run.condT ?_ ?_; (· (simp -implicitDefEqProofs [hc, hlt', hb7, hb', encS_len, tabC_len, hT, List.take_of_length_le]; done))) | (refine Run.condF ?_ ?_; (· (simp -implicitDefEqProofs [hc, hlt', hb7, hb', encS_len, tabC_len, hT, List.take_of_length_le]; done))) | refine Run.exit rfl ?_))
      refine Run.mv [0] _ _ (by rfl) (by decide) (by simp -implicitDefEqProofs [hw, V.renL_pure _ _ (tabC_pure _), hput', encS_len]) (by simp -implicitDefEqProofs [hw, V.renL_pure _ _ (tabC_pure _), hput', encS_len]) (ih ((k + 1, T.set k y)) ?_ ?_)
      · exact ⟨by omega, by simp [hT], (hstep y (by rw [if_pos hc])).1, (hstep y (by rw [if_pos hc])).2⟩
      · simp only; omega
    · (repeat (first | refine Run.seq ?_ | refine Run.reg ?_ | refine Run.skip ?_ | refine Run.block ?_ | refine Run.endB ?_ | refine Run.opE rfl ?_ | (apply Run.op0 rfl; (· (simp -implicitDefEqProofs [hc]; exact ⟨rfl, rfl⟩))) | (apply Run.opA rfl; (· (simp -implicitDefEqProofs [hc]; done)); (· (simp -implicitDefEqProofs [hc]; exact ⟨rfl, rfl⟩))) | (apply Run.opN rfl; (· (simp -implicitDefEqProofs [hc]; done))) | (refine Run.condT ?_ ?_; (· (simp -implicitDefEqProofs [hc]; done))) | (refine Run.condF ?_ ?_; (· (simp -implicitDefEqProofs [hc]; done))) | refine Run.exit rfl ?_))
      have hset : T.set k x = T := by
        apply List.ext_getElem?; intro j
        by_cases e : j = k
        · subst e; rw [List.getElem?_set_self (by omega), hx]
        · rw [List.getElem?_set_ne (Ne.symm e)]
      have hs := hstep x (by rw [if_neg hc])
      rw [hset] at hs
      refine Run.mv [0] _ _ (by rfl) (by decide) (by simp -implicitDefEqProofs [hw, V.renL_pure _ _ (tabC_pure _)]) (by simp -implicitDefEqProofs [hw, V.renL_pure _ _ (tabC_pure _)]) (ih ((k + 1, T)) ?_ ?_)
      · exact ⟨by omega, hT, hs.1, hs.2⟩
      · simp only; omega
  · have hlt' : ¬ (k : Int) < 8 := by omega
    have hTe : T = joinT ta tb := by
      apply List.ext_getElem?; intro j
      by_cases hj : j < k
      · exact hlo j hj
      · rw [List.getElem?_eq_none (by omega), List.getElem?_eq_none (by rw [joinT_len]; omega)]
    subst hTe
    (repeat (first | refine Run.seq ?_ | refine Run.reg ?_ | refine Run.skip ?_ | refine Run.block ?_ | refine Run.endB ?_ | refine Run.opE rfl ?_ | (apply Run.op0 rfl; (· (simp -implicitDefEqProofs [hlt', tabC_len, hT, tab_take hT]; exact ⟨rfl, rfl⟩))) | (apply Run.opA rfl; (· (simp -implicitDefEqProofs [hlt', tabC_len, hT, tab_take hT]; done)); (· (simp -implicitDefEqProofs [hlt', tabC_len, hT, tab_take hT]; exact ⟨rfl, rfl⟩))) | (apply Run.opN rfl; (· (simp -implicitDefEqProofs [hlt', tabC_len, hT, tab_take hT]; done))) | (refine Run.condT ?_ ?_; (· (simp -implicitDefEqProofs [hlt', tabC_len, hT, tab_take hT]; done))) | (refine Run.condF ?_ ?_; (· (simp -implicitDefEqProofs [hlt', tabC_len, hT, tab_take hT]; done))) | refine Run.exit rfl ?_))
    refine Run.opC rfl rfl rfl (list_at _ hT _) ?_
    rintro v h' ⟨rfl, rfl⟩
    (repeat (first | refine Run.seq ?_ | refine Run.reg ?_ | refine Run.skip ?_ | refine Run.block ?_ | refine Run.endB ?_ | refine Run.opE rfl ?_ | (apply Run.op0 rfl; (· (simp -implicitDefEqProofs; exact ⟨rfl, rfl⟩))) | (apply Run.opA rfl; (· (simp -implicitDefEqProofs; done)); (· (simp -implicitDefEqProofs; exact ⟨rfl, rfl⟩))) | (apply Run.opN rfl; (· (simp -implicitDefEqProofs; done))) | (refine Run.condT ?_ ?_; (· (simp -implicitDefEqProofs; done))) | (refine Run.condF ?_ ?_; (· (simp -implicitDefEqProofs; done))) | refine Run.exit rfl ?_))
    refine Run.mv [] [(4, .vs ((keptL (joinT ta tb)).map encS) 7), (5, .int .i64 0)] [] (by rfl) (by decide) (by simp -implicitDefEqProofs) (by simp -implicitDefEqProofs) ?_
    refine Run.retI Try.func19 r19_ok trivial (by simp -implicitDefEqProofs [r19]; rfl) (by simp ) ?_ (by simp -implicitDefEqProofs ) (by simp -implicitDefEqProofs )
    simp

end Go.Proofs.Yticecideodkcmaa
