/-
  Layer 14, part V: the law OnceRises.
-/
import Derived.Test.YticecideodkcmaaOnceU
namespace Go.Proofs.Yticecideodkcmaa
open Sx Go
set_option maxRecDepth 100000
set_option linter.unusedSimpArgs false
set_option linter.unusedVariables false
set_option linter.unnecessarySimpa false
attribute [local simp] guardB isCall opStep Opd.ev put readAt aBin aUn args0 V.celled V.ones V.one V.cells putAt bounds bound1 elemsOf srcOf appendV fillAt fillEl V.pures V.pure unwind evs ARes.ev mkRes V.ren V.renL O.ren eqCells eq1 aEq aMM hasTy hasTyN okTy mmGo Known HLe OLe VsLe.refl VLe.refl Stay VsLe V.frz V.frzL O.frz fr clearV rn KnownR Objs OLeO ObjsE nm back setAll ren_ite take_map_len List.take_of_length_le
attribute [local simp ↓] upd_app tl_cons tl_nil
attribute [local simp] encS_ren encS_ones

theorem and7 (n : Int) : ∃ k : Nat, iAnd .i64 n 7 = (k : Int) ∧ k < 8 := by
  rw [iAnd64, BitVec.toNat_and, show (BitVec.ofInt 64 7).toNat = 2 ^ 3 - 1 from rfl, Nat.and_two_pow_sub_one_eq_mod]
  exact ⟨(BitVec.ofInt 64 n).toNat % 2 ^ 3, wrap_small (by omega) (by omega), by omega⟩

theorem okOne (x : Seen) : okGo [x] (-1) = mayB x := by
  have : mayB x = true → (-1 : Int) < x.client := fun h => by have := mayB_spec h; omega
  cases h : mayB x with
  | false => simp [okGo, h]
  | true => simp [okGo, h, this h]

theorem rises_fail {m : List Seen} {x : Seen} (hm : okGo m (-1) = true) (hx : mayB x = true) (he : (putM m x).2 ≠ 0) : (putM m x).1 = [] ∧ (putM m x).2 = 140 ∧ ((findM m x.client x.seq).2 = 0 ∨ (findM m x.client x.seq).2 = 140) := by
  have hb := mayB_spec hx
  have hM : putM m x = if x.seq ≤ ((readM m).1.getD x.client.toNat zero).seq then ([], 140) else (keptL ((readM m).1.set x.client.toNat x), 0) := by rw [putM, if_pos ⟨by rw [readM_ok]; exact hm, hx⟩]
  have hF : findM m x.client x.seq = if ((readM m).1.getD x.client.toNat zero).seq < x.seq then (zero, 3) else if x.seq < ((readM m).1.getD x.client.toNat zero).seq then (zero, 140) else ((readM m).1.getD x.client.toNat zero, 0) := by
    rw [findM, if_pos ⟨by rw [readM_ok]; exact hm, by simp [argOk]; omega⟩]
  rw [hM] at he ⊢
  split at he
  · rename_i h
    rw [if_pos h]
    refine ⟨rfl, rfl, ?_⟩
    rw [hF, if_neg (by omega)]
    split
    · exact .inr rfl
    · exact .inl rfl
  · exact absurd rfl he

theorem rises_done {m : List Seen} {x : Seen} (hm : okGo m (-1) = true) (hx : mayB x = true) (he : (putM m x).2 = 0) :
    findM (putM m x).1 x.client x.seq = (x, 0) ∧ (putM (putM m x).1 x).2 = 140 ∧ ∀ k : Int, k ≠ x.client → findM (putM m x).1 k 5 = findM m k 5 := by
  have hb := mayB_spec hx
  have hno : okGo (putM m x).1 (-1) = true := putM_ok m x
  have hP : (putM m x).1 = rputGo m x false := by
    have hM : putM m x = if x.seq ≤ ((readM m).1.getD x.client.toNat zero).seq then ([], 140) else (keptL ((readM m).1.set x.client.toNat x), 0) := by rw [putM, if_pos ⟨by rw [readM_ok]; exact hm, hx⟩]
    rw [hM] at he ⊢
    split
    · rename_i h; rw [if_pos h] at he; cases he
    · exact put_spec hm hx
  have hlk : ∀ c, lookup (putM m x).1 c = if c = x.client then some x else lookup m c := by rw [hP]; exact (rput_spec hm hx (by omega)).2.1
  refine ⟨?_, ?_, fun k hk => ?_⟩
  · rw [find_eq, rfindM, if_pos ⟨hno, by simp [argOk]; omega⟩, hlk, if_pos rfl]
    simp only
    rw [if_neg (by omega), if_neg (by omega)]
  · rw [putM, if_pos ⟨by rw [readM_ok]; exact hno, hx⟩, tab_getD hno (by omega) (by omega), hlk, if_pos rfl, if_pos (by simp)]
  · rw [find_eq, find_eq, rfindM, rfindM, hlk, if_neg hk]
    simp only [hno, hm]

theorem rises_law (l : List Seen) (x : Seen) (cl : Int) : Tri Try.prog 4 [.vs (l.map encS) 7, .agg (encS x), .int .i64 cl] [] (fun v H => v = .bool true ∧ H = []) := by
  refine Tri.of_run' Try.func4 rfl c4_ok (by simp [Try.ntmps4]) ?_
  have hend : ∀ {k t h}, AtEnd k → t 6 = .bool true → Run ⟨Try.prog, 4, Try.f4.ntmps, [], fun v H => v = .bool true ∧ H = []⟩ ⟨k, t, h⟩ := by
    intro k t h hk h6
    refine Run.mv [] [(6, .bool true)] [] (by rfl) (by decide) (by simp [h6]) (by simp) ?_
    exact Run.retI Try.func4 r4_ok hk (by simp [r4]; rfl) (by simp) (by simp) (by simp) (by simp)
  (repeat (first | refine Run.seq ?_ | refine Run.reg ?_ | refine Run.skip ?_ | refine Run.block ?_ | refine Run.endB ?_ | refine Run.opE rfl ?_ | (apply Run.op0 rfl; (· (simp -implicitDefEqProofs [encS]; exact ⟨rfl, rfl⟩))) | (apply Run.opA rfl; (· (simp -implicitDefEqProofs [encS]; done)); (· (simp -implicitDefEqProofs [encS]; exact ⟨rfl, rfl⟩))) | (apply Run.opN rfl; (· (simp -implicitDefEqProofs [encS]; done))) | (refine Run.condT ?_ ?_; (· (simp -implicitDefEqProofs [encS]; done))) | (refine Run.condF ?_ ?_; (· (simp -implicitDefEqProofs [encS]; done))) | refine Run.exit rfl ?_))
  refine Run.opC rfl rfl rfl (light_at l _) ?_
  rintro v h' ⟨rfl, rfl⟩
  cases hl : lightB l with
  | false =>
    (repeat (first | refine Run.seq ?_ | refine Run.reg ?_ | refine Run.skip ?_ | refine Run.block ?_ | refine Run.endB ?_ | refine Run.opE rfl ?_ | (apply Run.op0 rfl; (· (simp -implicitDefEqProofs [hl]; exact ⟨rfl, rfl⟩))) | (apply Run.opA rfl; (· (simp -implicitDefEqProofs [hl]; done)); (· (simp -implicitDefEqProofs [hl]; exact ⟨rfl, rfl⟩))) | (apply Run.opN rfl; (· (simp -implicitDefEqProofs [hl]; done))) | (refine Run.condT ?_ ?_; (· (simp -implicitDefEqProofs [hl]; done))) | (refine Run.condF ?_ ?_; (· (simp -implicitDefEqProofs [hl]; done))) | refine Run.exit rfl ?_))
    refine Run.opC rfl rfl rfl (awake_at _) ?_
    rintro v h' ⟨rfl, rfl⟩
    (repeat (first | refine Run.seq ?_ | refine Run.reg ?_ | refine Run.skip ?_ | refine Run.block ?_ | refine Run.endB ?_ | refine Run.opE rfl ?_ | (apply Run.op0 rfl; (· (simp -implicitDefEqProofs; exact ⟨rfl, rfl⟩))) | (apply Run.opA rfl; (· (simp -implicitDefEqProofs; done)); (· (simp -implicitDefEqProofs; exact ⟨rfl, rfl⟩))) | (apply Run.opN rfl; (· (simp -implicitDefEqProofs; done))) | (refine Run.condT ?_ ?_; (· (simp -implicitDefEqProofs; done))) | (refine Run.condF ?_ ?_; (· (simp -implicitDefEqProofs; done))) | refine Run.exit rfl ?_))
    exact hend trivial (by simp)
  | true =>
  have hll := light_len hl
  (repeat (first | refine Run.seq ?_ | refine Run.reg ?_ | refine Run.skip ?_ | refine Run.block ?_ | refine Run.endB ?_ | refine Run.opE rfl ?_ | (apply Run.op0 rfl; (· (simp -implicitDefEqProofs [hl]; exact ⟨rfl, rfl⟩))) | (apply Run.opA rfl; (· (simp -implicitDefEqProofs [hl]; done)); (· (simp -implicitDefEqProofs [hl]; exact ⟨rfl, rfl⟩))) | (apply Run.opN rfl; (· (simp -implicitDefEqProofs [hl]; done))) | (refine Run.condT ?_ ?_; (· (simp -implicitDefEqProofs [hl]; done))) | (refine Run.condF ?_ ?_; (· (simp -implicitDefEqProofs [hl]; done))) | refine Run.exit rfl ?_))
  refine Run.freeze 1 (es := [encS x]) (sz := 7) (by simp [encS]) ?_
  refine Run.opC rfl (by simp) rfl (by simpa [encS] using light_at [x] _) ?_
  rintro v h' ⟨rfl, rfl⟩
  cases hx : lightB [x] with
  | false =>
    (repeat (first | refine Run.seq ?_ | refine Run.reg ?_ | refine Run.skip ?_ | refine Run.block ?_ | refine Run.endB ?_ | refine Run.opE rfl ?_ | (apply Run.op0 rfl; (· (simp -implicitDefEqProofs [hx]; exact ⟨rfl, rfl⟩))) | (apply Run.opA rfl; (· (simp -implicitDefEqProofs [hx]; done)); (· (simp -implicitDefEqProofs [hx]; exact ⟨rfl, rfl⟩))) | (apply Run.opN rfl; (· (simp -implicitDefEqProofs [hx]; done))) | (refine Run.condT ?_ ?_; (· (simp -implicitDefEqProofs [hx]; done))) | (refine Run.condF ?_ ?_; (· (simp -implicitDefEqProofs [hx]; done))) | refine Run.exit rfl ?_))
    refine Run.opC rfl rfl rfl (awake_at _) ?_
    rintro v h' ⟨rfl, rfl⟩
    (repeat (first | refine Run.seq ?_ | refine Run.reg ?_ | refine Run.skip ?_ | refine Run.block ?_ | refine Run.endB ?_ | refine Run.opE rfl ?_ | (apply Run.op0 rfl; (· (simp -implicitDefEqProofs; exact ⟨rfl, rfl⟩))) | (apply Run.opA rfl; (· (simp -implicitDefEqProofs; done)); (· (simp -implicitDefEqProofs; exact ⟨rfl, rfl⟩))) | (apply Run.opN rfl; (· (simp -implicitDefEqProofs; done))) | (refine Run.condT ?_ ?_; (· (simp -implicitDefEqProofs; done))) | (refine Run.condF ?_ ?_; (· (simp -implicitDefEqProofs; done))) | refine Run.exit rfl ?_))
    exact hend trivial (by simp)
  | true =>
  (repeat (first | refine Run.seq ?_ | refine Run.reg ?_ | refine Run.skip ?_ | refine Run.block ?_ | refine Run.endB ?_ | refine Run.opE rfl ?_ | (apply Run.op0 rfl; (· (simp -implicitDefEqProofs [hx]; exact ⟨rfl, rfl⟩))) | (apply Run.opA rfl; (· (simp -implicitDefEqProofs [hx]; done)); (· (simp -implicitDefEqProofs [hx]; exact ⟨rfl, rfl⟩))) | (apply Run.opN rfl; (· (simp -implicitDefEqProofs [hx]; done))) | (refine Run.condT ?_ ?_; (· (simp -implicitDefEqProofs [hx]; done))) | (refine Run.condF ?_ ?_; (· (simp -implicitDefEqProofs [hx]; done))) | refine Run.exit rfl ?_))
  refine Run.freeze 2 (es := [encS x]) (sz := 7) (by simp [encS]) ?_
  refine Run.opC rfl (by simp) rfl (by simpa [encS] using rcheck_at [x] (by simp) _) ?_
  rintro v h' ⟨rfl, rfl⟩
  cases hm : mayB x with
  | false =>
    (repeat (first | refine Run.seq ?_ | refine Run.reg ?_ | refine Run.skip ?_ | refine Run.block ?_ | refine Run.endB ?_ | refine Run.opE rfl ?_ | (apply Run.op0 rfl; (· (simp -implicitDefEqProofs [errOf, okOne, hm]; exact ⟨rfl, rfl⟩))) | (apply Run.opA rfl; (· (simp -implicitDefEqProofs [errOf, okOne, hm]; done)); (· (simp -implicitDefEqProofs [errOf, okOne, hm]; exact ⟨rfl, rfl⟩))) | (apply Run.opN rfl; (· (simp -implicitDefEqProofs [errOf, okOne, hm]; done))) | (refine Run.condT ?_ ?_; (· (simp -implicitDefEqProofs [errOf, okOne, hm]; done))) | (refine Run.condF ?_ ?_; (· (simp -implicitDefEqProofs [errOf, okOne, hm]; done))) | refine Run.exit rfl ?_))
    refine Run.opC rfl rfl rfl (awake_at _) ?_
    rintro v h' ⟨rfl, rfl⟩
    (repeat (first | refine Run.seq ?_ | refine Run.reg ?_ | refine Run.skip ?_ | refine Run.block ?_ | refine Run.endB ?_ | refine Run.opE rfl ?_ | (apply Run.op0 rfl; (· (simp -implicitDefEqProofs; exact ⟨rfl, rfl⟩))) | (apply Run.opA rfl; (· (simp -implicitDefEqProofs; done)); (· (simp -implicitDefEqProofs; exact ⟨rfl, rfl⟩))) | (apply Run.opN rfl; (· (simp -implicitDefEqProofs; done))) | (refine Run.condT ?_ ?_; (· (simp -implicitDefEqProofs; done))) | (refine Run.condF ?_ ?_; (· (simp -implicitDefEqProofs; done))) | refine Run.exit rfl ?_))
    exact hend trivial (by simp)
  | true =>
  (repeat (first | refine Run.seq ?_ | refine Run.reg ?_ | refine Run.skip ?_ | refine Run.block ?_ | refine Run.endB ?_ | refine Run.opE rfl ?_ | (apply Run.op0 rfl; (· (simp -implicitDefEqProofs [errOf, okOne, hm]; exact ⟨rfl, rfl⟩))) | (apply Run.opA rfl; (· (simp -implicitDefEqProofs [errOf, okOne, hm]; done)); (· (simp -implicitDefEqProofs [errOf, okOne, hm]; exact ⟨rfl, rfl⟩))) | (apply Run.opN rfl; (· (simp -implicitDefEqProofs [errOf, okOne, hm]; done))) | (refine Run.condT ?_ ?_; (· (simp -implicitDefEqProofs [errOf, okOne, hm]; done))) | (refine Run.condF ?_ ?_; (· (simp -implicitDefEqProofs [errOf, okOne, hm]; done))) | refine Run.exit rfl ?_))
  refine Run.opC rfl rfl rfl (by simpa using made_at l (by omega) _) ?_
  rintro v h' ⟨rfl, rfl⟩
  have om := made_ok l [] rfl
  generalize madeM l [] = m at *
  have hpairs : ∀ y ∈ m, y.pairs.length ≤ 1000000 := ok_pairs om
  (repeat (first | refine Run.seq ?_ | refine Run.reg ?_ | refine Run.skip ?_ | refine Run.block ?_ | refine Run.endB ?_ | refine Run.opE rfl ?_ | (apply Run.op0 rfl; (· (simp -implicitDefEqProofs [encS]; exact ⟨rfl, rfl⟩))) | (apply Run.opA rfl; (· (simp -implicitDefEqProofs [encS]; done)); (· (simp -implicitDefEqProofs [encS]; exact ⟨rfl, rfl⟩))) | (apply Run.opN rfl; (· (simp -implicitDefEqProofs [encS]; done))) | (refine Run.condT ?_ ?_; (· (simp -implicitDefEqProofs [encS]; done))) | (refine Run.condF ?_ ?_; (· (simp -implicitDefEqProofs [encS]; done))) | refine Run.exit rfl ?_))
  refine Run.opC rfl rfl rfl (by simpa [encS] using put_at m (ok_len6 om) x _) ?_
  rintro v h' ⟨rfl, rfl⟩
  have on := putM_ok m x
  by_cases he : (putM m x).2 = 0
  · obtain ⟨d1, d2, d3⟩ := rises_done om hm he
    rw [he]
    generalize (putM m x).1 = n at *
    (repeat (first | refine Run.seq ?_ | refine Run.reg ?_ | refine Run.skip ?_ | refine Run.block ?_ | refine Run.endB ?_ | refine Run.opE rfl ?_ | (apply Run.op0 rfl; (· (simp -implicitDefEqProofs [encS]; exact ⟨rfl, rfl⟩))) | (apply Run.opA rfl; (· (simp -implicitDefEqProofs [encS]; done)); (· (simp -implicitDefEqProofs [encS]; exact ⟨rfl, rfl⟩))) | (apply Run.opN rfl; (· (simp -implicitDefEqProofs [encS]; done))) | (refine Run.condT ?_ ?_; (· (simp -implicitDefEqProofs [encS]; done))) | (refine Run.condF ?_ ?_; (· (simp -implicitDefEqProofs [encS]; done))) | refine Run.exit rfl ?_))
    refine Run.opC rfl rfl rfl (by simpa using find_at n (ok_len6 on) x.client x.seq _) ?_
    rintro v h' ⟨rfl, rfl⟩
    rw [d1]
    (repeat (first | refine Run.seq ?_ | refine Run.reg ?_ | refine Run.skip ?_ | refine Run.block ?_ | refine Run.endB ?_ | refine Run.opE rfl ?_ | (apply Run.op0 rfl; (· (simp -implicitDefEqProofs [encR, encS]; exact ⟨rfl, rfl⟩))) | (apply Run.opA rfl; (· (simp -implicitDefEqProofs [encR, encS]; done)); (· (simp -implicitDefEqProofs [encR, encS]; exact ⟨rfl, rfl⟩))) | (apply Run.opN rfl; (· (simp -implicitDefEqProofs [encR, encS]; done))) | (refine Run.condT ?_ ?_; (· (simp -implicitDefEqProofs [encR, encS]; done))) | (refine Run.condF ?_ ?_; (· (simp -implicitDefEqProofs [encR, encS]; done))) | refine Run.exit rfl ?_))
    refine Run.opC rfl rfl rfl (by simpa [encS] using put_at n (ok_len6 on) x _) ?_
    rintro v h' ⟨rfl, rfl⟩
    rw [d2]
    obtain ⟨k, hk, hk8⟩ := and7 cl
    (repeat (first | refine Run.seq ?_ | refine Run.reg ?_ | refine Run.skip ?_ | refine Run.block ?_ | refine Run.endB ?_ | refine Run.opE rfl ?_ | (apply Run.op0 rfl; (· (simp -implicitDefEqProofs [hk]; exact ⟨rfl, rfl⟩))) | (apply Run.opA rfl; (· (simp -implicitDefEqProofs [hk]; done)); (· (simp -implicitDefEqProofs [hk]; exact ⟨rfl, rfl⟩))) | (apply Run.opN rfl; (· (simp -implicitDefEqProofs [hk]; done))) | (refine Run.condT ?_ ?_; (· (simp -implicitDefEqProofs [hk]; done))) | (refine Run.condF ?_ ?_; (· (simp -implicitDefEqProofs [hk]; done))) | refine Run.exit rfl ?_))
    refine Run.opC rfl rfl rfl (by simpa using find_at m (ok_len6 om) k 5 _) ?_
    rintro v h' ⟨rfl, rfl⟩
    (repeat (first | refine Run.seq ?_ | refine Run.reg ?_ | refine Run.skip ?_ | refine Run.block ?_ | refine Run.endB ?_ | refine Run.opE rfl ?_ | (apply Run.op0 rfl; (· (simp -implicitDefEqProofs [encR]; exact ⟨rfl, rfl⟩))) | (apply Run.opA rfl; (· (simp -implicitDefEqProofs [encR]; done)); (· (simp -implicitDefEqProofs [encR]; exact ⟨rfl, rfl⟩))) | (apply Run.opN rfl; (· (simp -implicitDefEqProofs [encR]; done))) | (refine Run.condT ?_ ?_; (· (simp -implicitDefEqProofs [encR]; done))) | (refine Run.condF ?_ ?_; (· (simp -implicitDefEqProofs [encR]; done))) | refine Run.exit rfl ?_))
    refine Run.opC rfl rfl rfl (by simpa using find_at n (ok_len6 on) k 5 _) ?_
    rintro v h' ⟨rfl, rfl⟩
    (repeat (first | refine Run.seq ?_ | refine Run.reg ?_ | refine Run.skip ?_ | refine Run.block ?_ | refine Run.endB ?_ | refine Run.opE rfl ?_ | (apply Run.op0 rfl; (· (simp -implicitDefEqProofs [encR, encS]; exact ⟨rfl, rfl⟩))) | (apply Run.opA rfl; (· (simp -implicitDefEqProofs [encR, encS]; done)); (· (simp -implicitDefEqProofs [encR, encS]; exact ⟨rfl, rfl⟩))) | (apply Run.opN rfl; (· (simp -implicitDefEqProofs [encR, encS]; done))) | (refine Run.condT ?_ ?_; (· (simp -implicitDefEqProofs [encR, encS]; done))) | (refine Run.condF ?_ ?_; (· (simp -implicitDefEqProofs [encR, encS]; done))) | refine Run.exit rfl ?_))
    have hxp : x.pairs.length ≤ 1000000 := by rw [(mayB_spec hm).2.2.2.2.2.1]; simp
    refine Run.opC rfl (by simp) rfl (by simpa [encR] using sameR_at x x hxp _) ?_
    rintro v h' ⟨rfl, rfl⟩
    by_cases hkc : (k : Int) = x.client
    · (repeat (first | refine Run.seq ?_ | refine Run.reg ?_ | refine Run.skip ?_ | refine Run.block ?_ | refine Run.endB ?_ | refine Run.opE rfl ?_ | (apply Run.op0 rfl; (· (simp -implicitDefEqProofs [sameR_self, encS, hkc]; exact ⟨rfl, rfl⟩))) | (apply Run.opA rfl; (· (simp -implicitDefEqProofs [sameR_self, encS, hkc]; done)); (· (simp -implicitDefEqProofs [sameR_self, encS, hkc]; exact ⟨rfl, rfl⟩))) | (apply Run.opN rfl; (· (simp -implicitDefEqProofs [sameR_self, encS, hkc]; done))) | (refine Run.condT ?_ ?_; (· (simp -implicitDefEqProofs [sameR_self, encS, hkc]; done))) | (refine Run.condF ?_ ?_; (· (simp -implicitDefEqProofs [sameR_self, encS, hkc]; done))) | refine Run.exit rfl ?_))
      refine Run.opC rfl (by simp) rfl (by simpa using check_at n (ok_len6 on) _) ?_
      rintro v h' ⟨rfl, rfl⟩
      rw [readM_ok, on]
      (repeat (first | refine Run.seq ?_ | refine Run.reg ?_ | refine Run.skip ?_ | refine Run.block ?_ | refine Run.endB ?_ | refine Run.opE rfl ?_ | (apply Run.op0 rfl; (· (simp -implicitDefEqProofs [errOf]; exact ⟨rfl, rfl⟩))) | (apply Run.opA rfl; (· (simp -implicitDefEqProofs [errOf]; done)); (· (simp -implicitDefEqProofs [errOf]; exact ⟨rfl, rfl⟩))) | (apply Run.opN rfl; (· (simp -implicitDefEqProofs [errOf]; done))) | (refine Run.condT ?_ ?_; (· (simp -implicitDefEqProofs [errOf]; done))) | (refine Run.condF ?_ ?_; (· (simp -implicitDefEqProofs [errOf]; done))) | refine Run.exit rfl ?_))
      refine Run.opC rfl (by simp) rfl (awake_at _) ?_
      rintro v h' ⟨rfl, rfl⟩
      (repeat (first | refine Run.seq ?_ | refine Run.reg ?_ | refine Run.skip ?_ | refine Run.block ?_ | refine Run.endB ?_ | refine Run.opE rfl ?_ | (apply Run.op0 rfl; (· (simp -implicitDefEqProofs; exact ⟨rfl, rfl⟩))) | (apply Run.opA rfl; (· (simp -implicitDefEqProofs; done)); (· (simp -implicitDefEqProofs; exact ⟨rfl, rfl⟩))) | (apply Run.opN rfl; (· (simp -implicitDefEqProofs; done))) | (refine Run.condT ?_ ?_; (· (simp -implicitDefEqProofs; done))) | (refine Run.condF ?_ ?_; (· (simp -implicitDefEqProofs; done))) | refine Run.exit rfl ?_))
      exact hend trivial (by simp)
    · rw [d3 k hkc]
      (repeat (first | refine Run.seq ?_ | refine Run.reg ?_ | refine Run.skip ?_ | refine Run.block ?_ | refine Run.endB ?_ | refine Run.opE rfl ?_ | (apply Run.op0 rfl; (· (simp -implicitDefEqProofs [sameR_self, encS, hkc, encR]; exact ⟨rfl, rfl⟩))) | (apply Run.opA rfl; (· (simp -implicitDefEqProofs [sameR_self, encS, hkc, encR]; done)); (· (simp -implicitDefEqProofs [sameR_self, encS, hkc, encR]; exact ⟨rfl, rfl⟩))) | (apply Run.opN rfl; (· (simp -implicitDefEqProofs [sameR_self, encS, hkc, encR]; done))) | (refine Run.condT ?_ ?_; (· (simp -implicitDefEqProofs [sameR_self, encS, hkc, encR]; done))) | (refine Run.condF ?_ ?_; (· (simp -implicitDefEqProofs [sameR_self, encS, hkc, encR]; done))) | refine Run.exit rfl ?_))
      refine Run.opC rfl (by simp) rfl (by simpa [encR] using sameR_at (findM m k 5).1 (findM m k 5).1 (by rw [findM_pairs]; simp) _) ?_
      rintro v h' ⟨rfl, rfl⟩
      (repeat (first | refine Run.seq ?_ | refine Run.reg ?_ | refine Run.skip ?_ | refine Run.block ?_ | refine Run.endB ?_ | refine Run.opE rfl ?_ | (apply Run.op0 rfl; (· (simp -implicitDefEqProofs [sameR_self]; exact ⟨rfl, rfl⟩))) | (apply Run.opA rfl; (· (simp -implicitDefEqProofs [sameR_self]; done)); (· (simp -implicitDefEqProofs [sameR_self]; exact ⟨rfl, rfl⟩))) | (apply Run.opN rfl; (· (simp -implicitDefEqProofs [sameR_self]; done))) | (refine Run.condT ?_ ?_; (· (simp -implicitDefEqProofs [sameR_self]; done))) | (refine Run.condF ?_ ?_; (· (simp -implicitDefEqProofs [sameR_self]; done))) | refine Run.exit rfl ?_))
      refine Run.opC rfl (by simp) rfl (by simpa using check_at n (ok_len6 on) _) ?_
      rintro v h' ⟨rfl, rfl⟩
      rw [readM_ok, on]
      (repeat (first | refine Run.seq ?_ | refine Run.reg ?_ | refine Run.skip ?_ | refine Run.block ?_ | refine Run.endB ?_ | refine Run.opE rfl ?_ | (apply Run.op0 rfl; (· (simp -implicitDefEqProofs [errOf]; exact ⟨rfl, rfl⟩))) | (apply Run.opA rfl; (· (simp -implicitDefEqProofs [errOf]; done)); (· (simp -implicitDefEqProofs [errOf]; exact ⟨rfl, rfl⟩))) | (apply Run.opN rfl; (· (simp -implicitDefEqProofs [errOf]; done))) | (refine Run.condT ?_ ?_; (· (simp -implicitDefEqProofs [errOf]; done))) | (refine Run.condF ?_ ?_; (· (simp -implicitDefEqProofs [errOf]; done))) | refine Run.exit rfl ?_))
      refine Run.opC rfl (by simp) rfl (awake_at _) ?_
      rintro v h' ⟨rfl, rfl⟩
      (repeat (first | refine Run.seq ?_ | refine Run.reg ?_ | refine Run.skip ?_ | refine Run.block ?_ | refine Run.endB ?_ | refine Run.opE rfl ?_ | (apply Run.op0 rfl; (· (simp -implicitDefEqProofs; exact ⟨rfl, rfl⟩))) | (apply Run.opA rfl; (· (simp -implicitDefEqProofs; done)); (· (simp -implicitDefEqProofs; exact ⟨rfl, rfl⟩))) | (apply Run.opN rfl; (· (simp -implicitDefEqProofs; done))) | (refine Run.condT ?_ ?_; (· (simp -implicitDefEqProofs; done))) | (refine Run.condF ?_ ?_; (· (simp -implicitDefEqProofs; done))) | refine Run.exit rfl ?_))
      exact hend trivial (by simp)
  · obtain ⟨d1, d2, d3⟩ := rises_fail om hm he
    rw [d1, d2]
    (repeat (first | refine Run.seq ?_ | refine Run.reg ?_ | refine Run.skip ?_ | refine Run.block ?_ | refine Run.endB ?_ | refine Run.opE rfl ?_ | (apply Run.op0 rfl; (· (simp -implicitDefEqProofs [encS]; exact ⟨rfl, rfl⟩))) | (apply Run.opA rfl; (· (simp -implicitDefEqProofs [encS]; done)); (· (simp -implicitDefEqProofs [encS]; exact ⟨rfl, rfl⟩))) | (apply Run.opN rfl; (· (simp -implicitDefEqProofs [encS]; done))) | (refine Run.condT ?_ ?_; (· (simp -implicitDefEqProofs [encS]; done))) | (refine Run.condF ?_ ?_; (· (simp -implicitDefEqProofs [encS]; done))) | refine Run.exit rfl ?_))
    refine Run.opC rfl rfl rfl (by simpa using find_at m (ok_len6 om) x.client x.seq _) ?_
    rintro v h' ⟨rfl, rfl⟩
    rcases d3 with d3 | d3
    all_goals
      rw [d3]
      (repeat (first | refine Run.seq ?_ | refine Run.reg ?_ | refine Run.skip ?_ | refine Run.block ?_ | refine Run.endB ?_ | refine Run.opE rfl ?_ | (apply Run.op0 rfl; (· (simp -implicitDefEqProofs [encR]; exact ⟨rfl, rfl⟩))) | (apply Run.opA rfl; (· (simp -implicitDefEqProofs [encR]; done)); (· (simp -implicitDefEqProofs [encR]; exact ⟨rfl, rfl⟩))) | (apply Run.opN rfl; (· (simp -implicitDefEqProofs [encR]; done))) | (refine Run.condT ?_ ?_; (· (simp -implicitDefEqProofs [encR]; done))) | (refine Run.condF ?_ ?_; (· (simp -implicitDefEqProofs [encR]; done))) | refine Run.exit rfl ?_))
      refine Run.opC rfl (by simp) rfl (awake_at _) ?_
      rintro v h' ⟨rfl, rfl⟩
      (repeat (first | refine Run.seq ?_ | refine Run.reg ?_ | refine Run.skip ?_ | refine Run.block ?_ | refine Run.endB ?_ | refine Run.opE rfl ?_ | (apply Run.op0 rfl; (· (simp -implicitDefEqProofs; exact ⟨rfl, rfl⟩))) | (apply Run.opA rfl; (· (simp -implicitDefEqProofs; done)); (· (simp -implicitDefEqProofs; exact ⟨rfl, rfl⟩))) | (apply Run.opN rfl; (· (simp -implicitDefEqProofs; done))) | (refine Run.condT ?_ ?_; (· (simp -implicitDefEqProofs; done))) | (refine Run.condF ?_ ?_; (· (simp -implicitDefEqProofs; done))) | refine Run.exit rfl ?_))
      exact hend trivial (by simp)

end Go.Proofs.Yticecideodkcmaa
