/-
  Layer 12, part M: sorting: two ranges change places; two neighbours change places.
-/
import Derived.Test.YtpipgcmiaccdkaaManL
namespace Go.Proofs.Ytpipgcmiaccdkaa
open Sx Go
set_option maxRecDepth 100000
set_option linter.unusedSimpArgs false
set_option linter.unusedVariables false
set_option linter.unnecessarySimpa false
attribute [local simp] stepV condR boundsC appendG appendO copyV srcC guardB isCall opStep Opd.ev put readAt aBin aUn args0 V.celled V.ones V.one V.cells putAt bounds bound1 elemsOf srcOf appendV fillAt fillEl V.pures V.pure unwind evs ARes.ev mkRes V.ren V.renL O.ren eqCells eq1 aEq aMM hasTy hasTyN okTy mmGo Known HLe OLe VsLe.refl VLe.refl VLe.cap Stay VsLe V.frz V.frzL O.frz fr clearV rn KnownR Objs OLeO ObjsE nm back setAll ren_ite take_map_len List.take_of_length_le
attribute [local simp ↓] upd_app tl_cons tl_nil
attribute [local simp] encT_ren encT_ones encT_len encT_take encN_ren encN_ones encN_len encN_take
attribute [local simp] encE_ren encE_len encE_take encZ_ren encZ_len encZ_take

theorem shr1 (n : Nat) (h : n ≤ 10000000) : iShr .u64 (n : Int) 1 = ((n / 2 : Nat) : Int) := by
  have : iShr .u64 (n : Int) 1 = (n : Int).fdiv 2 := rfl
  rw [this, Int.fdiv_eq_ediv_of_nonneg _ (by decide)]
  omega
theorem wrapU (n : Nat) (h : n ≤ 10000000) : IntKind.u64.wrap (n : Int) = (n : Int) := by
  simp only [IntKind.wrap, IntKind.signed, IntKind.bits]
  simp
  omega

/-- two elements change places -/
theorem swap2 {α : Type} (A B C : List α) (x y : α) {i j : Nat} (hi : i = A.length) (hj : j = A.length + 1 + B.length) : ((A ++ x :: (B ++ y :: C)).set i y).set j x = A ++ y :: (B ++ x :: C) := by
  subst hi hj
  rw [List.set_append_right _ _ (Nat.le_refl _), Nat.sub_self, List.set_cons_zero, List.set_append_right _ _ (by omega), show A.length + 1 + B.length - A.length = B.length + 1 by omega, List.set_cons_succ, List.set_append_right _ _ (Nat.le_refl _), Nat.sub_self, List.set_cons_zero]
theorem get2a {α : Type} (A B C : List α) (x y : α) {i : Nat} (hi : i = A.length) : (A ++ x :: (B ++ y :: C))[i]? = some x := by subst hi; simp
theorem get2b {α : Type} (A B C : List α) (x y : α) {j : Nat} (hj : j = A.length + 1 + B.length) : (A ++ x :: (B ++ y :: C))[j]? = some y := by
  subst hj
  rw [List.getElem?_append_right (by omega), show A.length + 1 + B.length - A.length = B.length + 1 by omega, List.getElem?_cons_succ, List.getElem?_append_right (by omega)]
  simp
theorem set_mapT (l : List Tb) (i j : Nat) (x y : Tb) : ((l.map encT).set i (encT y)).set j (encT x) = ((l.set i y).set j x).map encT := by rw [List.map_set, List.map_set]

theorem swapR_tri (P X M Y S : List Tb) (hn : X.length = Y.length) (hl : (P ++ X ++ M ++ Y ++ S).length ≤ 1000000) {a b n L : Nat} (ha : a = P.length) (hb : b = P.length + X.length + M.length) (hnn : n = X.length) (hL : L = (P ++ X ++ M ++ Y ++ S).length) :
    Tri Try.prog 77 [.sl 0 0 L 4 none, .int .i64 a, .int .i64 b, .int .i64 n, .fn 50 []] [.arr ((P ++ X ++ M ++ Y ++ S).map encT) 4] (fun v H => v = .tup [] ∧ H = [.arr ((P ++ Y ++ M ++ X ++ S).map encT) 4]) := by
  subst hnn
  refine Tri.of_run' Try.func77 rfl c77_ok (by simp [Try.ntmps77]) ?_
  (repeat (first | refine Run.adm rfl ?_ | refine Run.seq ?_ | (apply Run.opS rfl; (· (simp -implicitDefEqProofs; exact ⟨rfl, rfl⟩))) | (apply Run.condS; (· (simp -implicitDefEqProofs; exact rfl)))))
  refine Run.loopC [0] (fun (i : Nat) => ([(0, .sl 0 0 L 4 none), (1, .int .i64 a), (2, .int .i64 b), (3, .int .i64 X.length), (10, .int .i64 i)], [.arr ((P ++ Y.take i ++ X.drop i ++ M ++ X.take i ++ Y.drop i ++ S).map encT) 4])) (fun i => i ≤ X.length) (fun i => X.length - i) 0 (by simp) (by rfl) (by decide) (by simp) (by simp) ?_
  intro i hi ih
  simp only [List.length_append] at hl hL
  by_cases hlt : i < X.length
  · have hlt' : (i : Int) < X.length := by omega
    obtain ⟨x, hx, -, hxd, -⟩ := getL hlt
    obtain ⟨y, hy, -, hyd, -⟩ := getL (l := Y) (i := i) (by omega)
    have hw := wrap_small (n := (i : Int) + 1) (by omega) (by omega)
    have hwa : IntKind.i64.wrap ((a : Int) + i) = ((a + i : Nat) : Int) := by rw [wrap_small (n := (a : Int) + i) (by omega) (by omega)]; omega
    have hwb : IntKind.i64.wrap ((b : Int) + i) = ((b + i : Nat) : Int) := by rw [wrap_small (n := (b : Int) + i) (by omega) (by omega)]; omega
    have htx : X.take (i + 1) = X.take i ++ [x] := by rw [List.take_add_one, hx]; rfl
    have hty : Y.take (i + 1) = Y.take i ++ [y] := by rw [List.take_add_one, hy]; rfl
    have htl : (Y.take i).length = i := by rw [List.length_take]; omega
    have htl2 : (X.take i).length = i := by rw [List.length_take]; omega
    have hdl : (X.drop (i + 1)).length = X.length - (i + 1) := List.length_drop ..
    have e1 : P ++ Y.take i ++ X.drop i ++ M ++ X.take i ++ Y.drop i ++ S = (P ++ Y.take i) ++ x :: ((X.drop (i + 1) ++ M ++ X.take i) ++ y :: (Y.drop (i + 1) ++ S)) := by rw [hxd, hyd]; simp
    have e2 : P ++ Y.take (i + 1) ++ X.drop (i + 1) ++ M ++ X.take (i + 1) ++ Y.drop (i + 1) ++ S = (P ++ Y.take i) ++ y :: ((X.drop (i + 1) ++ M ++ X.take i) ++ x :: (Y.drop (i + 1) ++ S)) := by rw [htx, hty]; simp
    have q1 : a + i = (P ++ Y.take i).length := by simp only [List.length_append]; omega
    have q2 : b + i = (P ++ Y.take i).length + 1 + (X.drop (i + 1) ++ M ++ X.take i).length := by simp only [List.length_append]; omega
    have g1 := get2a (P ++ Y.take i) (X.drop (i + 1) ++ M ++ X.take i) (Y.drop (i + 1) ++ S) x y q1
    have g2 := get2b (P ++ Y.take i) (X.drop (i + 1) ++ M ++ X.take i) (Y.drop (i + 1) ++ S) x y q2
    have g3 := swap2 (P ++ Y.take i) (X.drop (i + 1) ++ M ++ X.take i) (Y.drop (i + 1) ++ S) x y q1 q2
    rw [← e1] at g1 g2 g3
    rw [← e2] at g3
    have hLe : (P ++ Y.take i ++ X.drop i ++ M ++ X.take i ++ Y.drop i ++ S).length = L := by
      have h3 : (X.drop i).length = X.length - i := List.length_drop ..
      have h4 : (Y.drop i).length = Y.length - i := List.length_drop ..
      simp only [List.length_append]; omega
    generalize P ++ Y.take i ++ X.drop i ++ M ++ X.take i ++ Y.drop i ++ S = Z at *
    have hst := set_mapT Z (a + i) (b + i) x y
    rw [g3] at hst
    have h5 : a + i < Z.length := by omega
    have h6 : b + i < Z.length := by omega
    have h5' : a + i < L := by omega
    have h6' : b + i < L := by omega
    have g1' : Z[a + i] = x := (List.getElem?_eq_some_iff.1 g1).2
    have g2' : Z[b + i] = y := (List.getElem?_eq_some_iff.1 g2).2
    simp only [encT] at hst
    obtain ⟨u, hu⟩ : ∃ u, u = a + i := ⟨_, rfl⟩
    obtain ⟨w, hw2⟩ : ∃ w, w = b + i := ⟨_, rfl⟩
    have hne : ¬ u = w := by simp only [List.length_append] at q1 q2; omega
    simp only [← hu, ← hw2] at hwa hwb hst h5 h6 h5' h6' g1 g2 g1' g2'
    (repeat (first | refine Run.adm rfl ?_ | refine Run.seq ?_ | (apply Run.opS rfl; (· (simp -implicitDefEqProofs [hlt, hlt']; exact ⟨rfl, rfl⟩))) | (apply Run.condS; (· (simp -implicitDefEqProofs [hlt, hlt']; exact rfl)))))
    refine Run.drawn prog_mixed ?_
    show RunD _ c77d0 [0, 1, 2, 3, 4, 5, 6, 7, 8, 9, 10, 11, 12, 13, 14, 15, 16, 17, 18, 19, 20, 21, 22, 23] [] _ _ _
    refine RunD.flow [0, 1, 2, 3, 4, 5, 6, 7, 8, 9, 10, 11, 12, 13, 14, 15, 16, 17, 18, 19, 20] (by kernel_rfl) (by decide +kernel) (by decide +kernel) (by decide) trivial ?_; (repeat (first | refine execQ_E rfl ?_ | (apply execQ_S rfl; (· (simp -implicitDefEqProofs [hwa, hwb, h5, h6, h5', h6', g1, g2, g1', g2', encT]; exact ⟨rfl, rfl⟩))))); intro hpo
    refine RunD.alt1 21 (by kernel_rfl) (by kernel_rfl) hpo ?_
    (apply AStep.S rfl; (· (simp -implicitDefEqProofs [h5, h5', g1, g1', encT]; exact ⟨rfl, rfl⟩)))
    refine RunD.flow [22] (by kernel_rfl) (by decide +kernel) (by decide +kernel) (by decide) (by show PendOk _ c77d0 _ _ [7, 6, 5, 4]; (repeat (first | exact PendOk.nil | (refine PendOk.S rfl rfl ?_ ?_; (· (simp -implicitDefEqProofs [hwb]; done)))))) ?_; (repeat (first | refine execQ_E rfl ?_ | (apply execQ_S rfl; (· (simp -implicitDefEqProofs [h6, h6']; exact ⟨rfl, rfl⟩))))); intro hpo
    refine RunD.alt1 23 (by kernel_rfl) (by kernel_rfl) hpo ?_
    (apply AStep.S rfl; (· (simp -implicitDefEqProofs [h6, h6', g2, g2', hne, encT, List.getElem?_set]; exact ⟨rfl, rfl⟩)))
    refine RunD.fin (by kernel_rfl) (by trivial) ?_
    (repeat (first | refine Run.adm rfl ?_ | refine Run.seq ?_ | (apply Run.opS rfl; (· (simp -implicitDefEqProofs; exact ⟨rfl, rfl⟩))) | (apply Run.condS; (· (simp -implicitDefEqProofs; exact rfl)))))
    obtain ⟨Z2, hZ2⟩ : ∃ Z2, Z2 = P ++ Y.take (i + 1) ++ X.drop (i + 1) ++ M ++ X.take (i + 1) ++ Y.drop (i + 1) ++ S := ⟨_, rfl⟩
    rw [← hZ2] at hst
    refine Run.mv [0] [(0, .sl 0 0 L 4 none), (1, .int .i64 a), (2, .int .i64 b), (3, .int .i64 X.length), (10, .int .i64 ((i + 1 : Nat) : Int))] [.arr (Z2.map encT) 4] (by rfl) (by decide) (by simp -implicitDefEqProofs [hw, hst]) (by simp -implicitDefEqProofs [hw, hst]) ?_
    rw [hZ2]
    exact ih (i + 1) (by omega) (by omega)
  · obtain rfl : i = X.length := by omega
    have d1 : Y.take X.length = Y := by rw [hn, List.take_length]
    have d2 : Y.drop X.length = [] := by rw [hn, List.drop_length]
    rw [List.drop_length, List.take_length, d1, d2]
    (repeat (first | refine Run.adm rfl ?_ | refine Run.seq ?_ | (apply Run.opS rfl; (· (simp -implicitDefEqProofs; exact ⟨rfl, rfl⟩))) | (apply Run.condS; (· (simp -implicitDefEqProofs; exact rfl)))))
    refine Run.retI Try.func77 r77_ok trivial (by simp [r77]; rfl) (by simp) ?_ (by simp) (by simp)
    exact ⟨rfl, by simp⟩

end Go.Proofs.Ytpipgcmiaccdkaa
