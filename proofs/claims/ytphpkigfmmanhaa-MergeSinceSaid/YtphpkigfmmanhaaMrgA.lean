/-
  Layer 11, part A: the document's Put1: an entry in its place.
-/
import Derived.Test.YtphpkigfmmanhaaBlkC
namespace Go.Proofs.Ytphpkigfmmanhaa
open Sx Go
set_option maxRecDepth 100000
set_option linter.unusedSimpArgs false
set_option linter.unusedVariables false
set_option linter.unnecessarySimpa false
attribute [local simp] guardB isCall opStep Opd.ev put readAt aBin aUn args0 V.celled V.ones V.one V.cells putAt bounds bound1 elemsOf srcOf appendV fillAt fillEl V.pures V.pure unwind evs ARes.ev mkRes V.ren V.renL O.ren eqCells eq1 aEq aMM hasTy hasTyN okTy mmGo Known HLe OLe VsLe.refl VLe.refl Stay VsLe V.frz V.frzL O.frz fr clearV rn KnownR Objs OLeO ObjsE nm back setAll ren_ite take_map_len List.take_of_length_le
attribute [local simp ↓] upd_app tl_cons tl_nil
attribute [local simp] encE_ren encE_ones encE_len encE_take

def put1 (l : List En) (x : En) : List En :=
  if mayE x = true then l.takeWhile (lessE · x) ++ x :: (match l.dropWhile (lessE · x) with | [] => [] | y :: r => if lessE x y = true then y :: r else r) else l

theorem put1_len (l : List En) (x : En) : (put1 l x).length ≤ l.length + 1 := by
  unfold put1
  split
  · have h : (l.takeWhile (lessE · x)).length + (l.dropWhile (lessE · x)).length = l.length := by rw [← List.length_append, List.takeWhile_append_dropWhile]
    cases hd : l.dropWhile (lessE · x) with
    | nil => rw [hd] at h; simp at h ⊢; omega
    | cons y r =>
      rw [hd] at h
      simp only [List.length_cons] at h
      simp only
      split <;> simp <;> omega
  · omega

theorem put1_at {l : List En} {x : En} {i : Nat} (hm : mayE x = true) (hi : i ≤ l.length) (htw : l.takeWhile (lessE · x) = l.take i) :
    put1 l x = l.take i ++ x :: l.drop (if (decide (i < l.length) && !(match l[i]? with | some y => lessE x y | none => true)) = true then i + 1 else i) := by
  have hdw : l.dropWhile (lessE · x) = l.drop i := by
    have h := List.takeWhile_append_dropWhile (p := (lessE · x)) (l := l)
    rw [htw] at h
    have h2 := List.take_append_drop i l
    exact List.append_cancel_left (h.trans h2.symm)
  rw [put1, if_pos hm, htw, hdw]
  congr 2
  by_cases hlt : i < l.length
  · obtain ⟨y, hy, -, hdrop, -⟩ := getL hlt
    rw [hdrop, hy]
    simp only [hlt, decide_true, Bool.true_and]
    cases lessE x y <;> simp [hdrop]
  · have : i = l.length := by omega
    subst this
    simp

theorem put1_tri (l : List En) (hll : l.length ≤ 1000000) (x : En) : Tri Try.prog 28 [.vs (l.map encE) 4, .agg (encE x)] [] (fun v H => v = .vs ((put1 l x).map encE) 4 ∧ H = []) := by
  refine Tri.of_run' Try.func28 rfl c28_ok (by simp [Try.ntmps28]) ?_
  have hmt := rmayE_at x
  simp only [encE] at hmt
  (repeat (first | refine Run.seq ?_ | refine Run.reg ?_ | refine Run.skip ?_ | refine Run.block ?_ | refine Run.endB ?_ | refine Run.opE rfl ?_ | (apply Run.op0 rfl; (· (simp -implicitDefEqProofs [encE]; exact ⟨rfl, rfl⟩))) | (apply Run.opA rfl; (· (simp -implicitDefEqProofs [encE]; done)); (· (simp -implicitDefEqProofs [encE]; exact ⟨rfl, rfl⟩))) | (apply Run.opN rfl; (· (simp -implicitDefEqProofs [encE]; done))) | (refine Run.condT ?_ ?_; (· (simp -implicitDefEqProofs [encE]; done))) | (refine Run.condF ?_ ?_; (· (simp -implicitDefEqProofs [encE]; done))) | refine Run.exit rfl ?_))
  refine Run.opC rfl rfl rfl (hmt _) ?_
  rintro v h' ⟨rfl, rfl⟩
  cases hm : mayE x with
  | false =>
    (repeat (first | refine Run.seq ?_ | refine Run.reg ?_ | refine Run.skip ?_ | refine Run.block ?_ | refine Run.endB ?_ | refine Run.opE rfl ?_ | (apply Run.op0 rfl; (· (simp -implicitDefEqProofs [hm]; exact ⟨rfl, rfl⟩))) | (apply Run.opA rfl; (· (simp -implicitDefEqProofs [hm]; done)); (· (simp -implicitDefEqProofs [hm]; exact ⟨rfl, rfl⟩))) | (apply Run.opN rfl; (· (simp -implicitDefEqProofs [hm]; done))) | (refine Run.condT ?_ ?_; (· (simp -implicitDefEqProofs [hm]; done))) | (refine Run.condF ?_ ?_; (· (simp -implicitDefEqProofs [hm]; done))) | refine Run.exit rfl ?_))
    refine Run.mv [] [(4, .vs (l.map encE) 4)] [] (by rfl) (by decide) (by simp -implicitDefEqProofs) (by simp -implicitDefEqProofs) ?_
    refine Run.retI Try.func28 r28_ok trivial (by simp -implicitDefEqProofs [r28]; rfl) (by simp ) ?_ (by simp -implicitDefEqProofs ) (by simp -implicitDefEqProofs )
    simp [put1, hm]
  | true =>
  (repeat (first | refine Run.seq ?_ | refine Run.reg ?_ | refine Run.skip ?_ | refine Run.block ?_ | refine Run.endB ?_ | refine Run.opE rfl ?_ | (apply Run.op0 rfl; (· (simp -implicitDefEqProofs [hm]; exact ⟨rfl, rfl⟩))) | (apply Run.opA rfl; (· (simp -implicitDefEqProofs [hm]; done)); (· (simp -implicitDefEqProofs [hm]; exact ⟨rfl, rfl⟩))) | (apply Run.opN rfl; (· (simp -implicitDefEqProofs [hm]; done))) | (refine Run.condT ?_ ?_; (· (simp -implicitDefEqProofs [hm]; done))) | (refine Run.condF ?_ ?_; (· (simp -implicitDefEqProofs [hm]; done))) | refine Run.exit rfl ?_))
  refine Run.loopC [0] (fun (i : Nat) => ([(0, .vs (l.map encE) 4), (3, .ptr 0 0), (5, .int .i64 i)], [.row (encE x)])) (fun i => i ≤ l.length ∧ l.takeWhile (lessE · x) = l.take i ++ (l.drop i).takeWhile (lessE · x)) (fun i => l.length - i) 0 (by simp) (by rfl) (by decide) (by simp) (by simp [encE]) ?_
  rintro i ⟨hi, htw⟩ ih
  generalize hb : (decide (i < l.length) && (match l[i]? with | some y => lessE y x | none => false)) = b
  have hw := wrap_small (n := (i : Int) + 1) (by omega) (by omega)
  refine Run.seq (Run.seq ?_)
  refine Run.quietM prog_mixed (by kernel_rfl) [0] [(0, .vs (l.map encE) 4), (3, .ptr 0 0), (5, .int .i64 i), (22, .bool b)] [.row (encE x)] (by rfl) (by decide) ?_ ?_
  · by_cases hlt : i < l.length
    · obtain ⟨y, hy, hyi, -, -⟩ := getL hlt
      have hless := rless_at y x
      simp only [encE] at hless
      (repeat (first | refine execQ_E rfl ?_ | (apply execQ_0 rfl; (· rfl); (· (simp -implicitDefEqProofs [hlt, hy, hyi, encE]; exact ⟨rfl, rfl⟩))) | (apply execQ_A rfl; (· (simp -implicitDefEqProofs [hlt, hy, hyi, encE]; done)); (· rfl); (· (simp -implicitDefEqProofs [hlt, hy, hyi, encE]; exact ⟨rfl, rfl⟩))) | (apply execQ_N rfl; (· (simp -implicitDefEqProofs [hlt, hy, hyi, encE]; done)))))
      refine execQ_C rfl (by simp [hlt]) rfl (hless _) ?_
      (repeat (first | refine execQ_E rfl ?_ | (apply execQ_0 rfl; (· rfl); (· (simp -implicitDefEqProofs [hlt]; exact ⟨rfl, rfl⟩))) | (apply execQ_A rfl; (· (simp -implicitDefEqProofs [hlt]; done)); (· rfl); (· (simp -implicitDefEqProofs [hlt]; exact ⟨rfl, rfl⟩))) | (apply execQ_N rfl; (· (simp -implicitDefEqProofs [hlt]; done)))))
      simp [← hb, hlt, hy, encE, hyi]
    · (repeat (first | refine execQ_E rfl ?_ | (apply execQ_0 rfl; (· rfl); (· (simp -implicitDefEqProofs [hlt]; exact ⟨rfl, rfl⟩))) | (apply execQ_A rfl; (· (simp -implicitDefEqProofs [hlt]; done)); (· rfl); (· (simp -implicitDefEqProofs [hlt]; exact ⟨rfl, rfl⟩))) | (apply execQ_N rfl; (· (simp -implicitDefEqProofs [hlt]; done)))))
      simp [← hb, hlt, encE]
  cases b with
  | true =>
    simp only [Bool.and_eq_true, decide_eq_true_eq] at hb
    obtain ⟨hlt, hless⟩ := hb
    obtain ⟨y, hy, hyi, hdrop, -⟩ := getL hlt
    rw [hy] at hless
    simp only at hless
    (repeat (first | refine Run.seq ?_ | refine Run.reg ?_ | refine Run.skip ?_ | refine Run.block ?_ | refine Run.endB ?_ | refine Run.opE rfl ?_ | (apply Run.op0 rfl; (· (simp -implicitDefEqProofs; exact ⟨rfl, rfl⟩))) | (apply Run.opA rfl; (· (simp -implicitDefEqProofs; done)); (· (simp -implicitDefEqProofs; exact ⟨rfl, rfl⟩))) | (apply Run.opN rfl; (· (simp -implicitDefEqProofs; done))) | (refine Run.condT ?_ ?_; (· (simp -implicitDefEqProofs; done))) | (refine Run.condF ?_ ?_; (· (simp -implicitDefEqProofs; done))) | refine Run.exit rfl ?_))
    refine Run.mv [0] _ _ (by rfl) (by decide) (by simp -implicitDefEqProofs [hw, encE]) (by simp -implicitDefEqProofs [hw, encE]) (ih (i + 1) ?_ ?_)
    · refine ⟨by omega, ?_⟩
      rw [htw, hdrop, List.takeWhile_cons, hless, List.take_add_one, hy]; simp
    · omega
  | false =>
    have hnil : (l.drop i).takeWhile (lessE · x) = [] := by
      by_cases hlt : i < l.length
      · obtain ⟨y, hy, -, hdrop, -⟩ := getL hlt
        rw [hy] at hb
        simp only [hlt, decide_true, Bool.true_and] at hb
        rw [hdrop, List.takeWhile_cons, hb]; rfl
      · rw [List.drop_eq_nil_of_le (by omega)]; rfl
    rw [hnil, List.append_nil] at htw
    have hfin := put1_at hm hi htw
    have hi' : (i : Int) ≤ l.length := by omega
    have b1 : i * 48 ≤ 70368744177664 := by omega
    have b2 : (i + 1) * 48 ≤ 70368744177664 := by omega
    have b3 : min i l.length = i := by omega
    (repeat (first | refine Run.seq ?_ | refine Run.reg ?_ | refine Run.skip ?_ | refine Run.block ?_ | refine Run.endB ?_ | refine Run.opE rfl ?_ | (apply Run.op0 rfl; (· (simp -implicitDefEqProofs [hi, hi', encE, b1, b2, b3]; exact ⟨rfl, rfl⟩))) | (apply Run.opA rfl; (· (simp -implicitDefEqProofs [hi, hi', encE, b1, b2, b3]; done)); (· (simp -implicitDefEqProofs [hi, hi', encE, b1, b2, b3]; exact ⟨rfl, rfl⟩))) | (apply Run.opN rfl; (· (simp -implicitDefEqProofs [hi, hi', encE, b1, b2, b3]; done))) | (refine Run.condT ?_ ?_; (· (simp -implicitDefEqProofs [hi, hi', encE, b1, b2, b3]; done))) | (refine Run.condF ?_ ?_; (· (simp -implicitDefEqProofs [hi, hi', encE, b1, b2, b3]; done))) | refine Run.exit rfl ?_))
    generalize hc : (decide (i < l.length) && !(match l[i]? with | some y => lessE x y | none => true)) = b at hfin
    refine Run.quietM prog_mixed (by kernel_rfl) [0, 3] [(0, .vs (l.map encE) 4), (3, .ptr 0 0), (5, .int .i64 i), (6, .sl 1 0 (i + 1) 4 none), (46, .bool b)] [.row (encE x), .arr ((l.take i ++ [x]).map encE) 4] (by rfl) (by decide) ?_ ?_
    · by_cases hlt : i < l.length
      · obtain ⟨y, hy, hyi, -, -⟩ := getL hlt
        have hless := rless_at x y
        simp only [encE] at hless
        (repeat (first | refine execQ_E rfl ?_ | (apply execQ_0 rfl; (· rfl); (· (simp -implicitDefEqProofs [hlt, hy, hyi, encE]; exact ⟨rfl, rfl⟩))) | (apply execQ_A rfl; (· (simp -implicitDefEqProofs [hlt, hy, hyi, encE]; done)); (· rfl); (· (simp -implicitDefEqProofs [hlt, hy, hyi, encE]; exact ⟨rfl, rfl⟩))) | (apply execQ_N rfl; (· (simp -implicitDefEqProofs [hlt, hy, hyi, encE]; done)))))
        refine execQ_C rfl (by simp [hlt]) rfl (hless _) ?_
        (repeat (first | refine execQ_E rfl ?_ | (apply execQ_0 rfl; (· rfl); (· (simp -implicitDefEqProofs [hlt]; exact ⟨rfl, rfl⟩))) | (apply execQ_A rfl; (· (simp -implicitDefEqProofs [hlt]; done)); (· rfl); (· (simp -implicitDefEqProofs [hlt]; exact ⟨rfl, rfl⟩))) | (apply execQ_N rfl; (· (simp -implicitDefEqProofs [hlt]; done)))))
        simp [← hc, hlt, hy, encE, hyi]
      · (repeat (first | refine execQ_E rfl ?_ | (apply execQ_0 rfl; (· rfl); (· (simp -implicitDefEqProofs [hlt]; exact ⟨rfl, rfl⟩))) | (apply execQ_A rfl; (· (simp -implicitDefEqProofs [hlt]; done)); (· rfl); (· (simp -implicitDefEqProofs [hlt]; exact ⟨rfl, rfl⟩))) | (apply execQ_N rfl; (· (simp -implicitDefEqProofs [hlt]; done)))))
        simp [← hc, hlt, encE]
    have hj : (if b = true then i + 1 else i) ≤ l.length := by
      cases b with
      | true => simp only [Bool.and_eq_true, decide_eq_true_eq] at hc; simp only [if_true]; omega
      | false => simpa using hi
    refine Run.join [(0, .vs (l.map encE) 4), (5, .int .i64 ((if b = true then i + 1 else i : Nat) : Int)), (6, .sl 0 0 (i + 1) 4 none)] [.arr ((l.take i ++ [x]).map encE) 4] ?_ ?_
    rotate_left
    · intro k hk
      cases b with
      | true =>
        (repeat (first | refine Run.seq ?_ | refine Run.reg ?_ | refine Run.skip ?_ | refine Run.block ?_ | refine Run.endB ?_ | refine Run.opE rfl ?_ | (apply Run.op0 rfl; (· (simp -implicitDefEqProofs; exact ⟨rfl, rfl⟩))) | (apply Run.opA rfl; (· (simp -implicitDefEqProofs; done)); (· (simp -implicitDefEqProofs; exact ⟨rfl, rfl⟩))) | (apply Run.opN rfl; (· (simp -implicitDefEqProofs; done))) | (refine Run.condT ?_ ?_; (· (simp -implicitDefEqProofs; done))) | (refine Run.condF ?_ ?_; (· (simp -implicitDefEqProofs; done))) | refine Run.exit rfl ?_))
        refine Run.mv [1] _ _ (by rfl) (by decide) (by simp [hw]) (by simp) hk
      | false =>
        (repeat (first | refine Run.seq ?_ | refine Run.reg ?_ | refine Run.skip ?_ | refine Run.block ?_ | refine Run.endB ?_ | refine Run.opE rfl ?_ | (apply Run.op0 rfl; (· (simp -implicitDefEqProofs; exact ⟨rfl, rfl⟩))) | (apply Run.opA rfl; (· (simp -implicitDefEqProofs; done)); (· (simp -implicitDefEqProofs; exact ⟨rfl, rfl⟩))) | (apply Run.opN rfl; (· (simp -implicitDefEqProofs; done))) | (refine Run.condT ?_ ?_; (· (simp -implicitDefEqProofs; done))) | (refine Run.condF ?_ ?_; (· (simp -implicitDefEqProofs; done))) | refine Run.exit rfl ?_))
        refine Run.mv [1] _ _ (by rfl) (by decide) (by simp) (by simp) hk
    generalize (if b = true then i + 1 else i) = j at hfin hj
    have hj' : (j : Int) ≤ l.length := by omega
    have b4 : (i + 1 + (l.length - j)) * 48 ≤ 70368744177664 := by omega
    (repeat (first | refine Run.seq ?_ | refine Run.reg ?_ | refine Run.skip ?_ | refine Run.block ?_ | refine Run.endB ?_ | refine Run.opE rfl ?_ | (apply Run.op0 rfl; (· (simp -implicitDefEqProofs [hj, hj', b3, b4]; exact ⟨rfl, rfl⟩))) | (apply Run.opA rfl; (· (simp -implicitDefEqProofs [hj, hj', b3, b4]; done)); (· (simp -implicitDefEqProofs [hj, hj', b3, b4]; exact ⟨rfl, rfl⟩))) | (apply Run.opN rfl; (· (simp -implicitDefEqProofs [hj, hj', b3, b4]; done))) | (refine Run.condT ?_ ?_; (· (simp -implicitDefEqProofs [hj, hj', b3, b4]; done))) | (refine Run.condF ?_ ?_; (· (simp -implicitDefEqProofs [hj, hj', b3, b4]; done))) | refine Run.exit rfl ?_))
    refine Run.freeze 1 (es := (put1 l x).map encE) (sz := 4) (by simp [hfin]) ?_
    have hlen : (put1 l x).length = i + 1 + (l.length - j) := by rw [hfin]; simp; omega
    refine Run.mv [] [(4, .vs ((put1 l x).map encE) 4)] [] (by rfl) (by decide) (by simp -implicitDefEqProofs [hlen]) (by simp -implicitDefEqProofs [hlen]) ?_
    refine Run.retI Try.func28 r28_ok trivial (by simp -implicitDefEqProofs [r28]; rfl) (by simp ) ?_ (by simp -implicitDefEqProofs ) (by simp -implicitDefEqProofs )
    simp

theorem put1_tri_at (l : List En) (hll : l.length ≤ 1000000) (x : En) (H : List O) : Tri Try.prog 28 [.vs (l.map encE) 4, .agg (encE x)] H (fun v H' => v = .vs ((put1 l x).map encE) 4 ∧ H' = H) := (put1_tri l hll x).at rfl rfl H

end Go.Proofs.Ytphpkigfmmanhaa
