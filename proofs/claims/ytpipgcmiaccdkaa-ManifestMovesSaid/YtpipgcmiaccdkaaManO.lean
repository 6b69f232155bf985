/-
  Layer 12, part O: sorting: insertion.
-/
import Derived.Test.YtpipgcmiaccdkaaManN
namespace Go.Proofs.Ytpipgcmiaccdkaa
open Sx Go
set_option maxRecDepth 100000
set_option linter.unusedSimpArgs false
set_option linter.unusedVariables false
set_option linter.unnecessarySimpa false
attribute [local simp] stepV condR boundsC appendG appendO copyV srcC guardB isCall opStep Opd.ev put readAt aBin aUn args0 V.celled V.ones V.one V.cells putAt bounds bound1 elemsOf srcOf appendV fillAt fillEl V.pures V.pure unwind evs ARes.ev mkRes V.ren V.renL O.ren eqCells eq1 aEq aMM hasTy hasTyN okTy mmGo Known HLe OLe VsLe.refl VLe.refl VLe.cap Stay VsLe V.frz V.frzL O.frz fr clearV rn KnownR Objs OLeO ObjsE nm back setAll ren_ite take_map_len List.take_of_length_le
attribute [local simp ↓] upd_app tl_cons tl_nil
attribute [local simp] encT_ren encT_ones encT_len encT_take encN_ren encN_ones encN_len encN_take
attribute [local simp] encE_ren encE_len encE_take encZ_ren encZ_len encZ_take

def Srt (l : List Tb) : Prop := l.Pairwise leT
theorem srt_mid {A B : List Tb} {x : Tb} (h : Srt (A ++ B)) (h1 : ∀ a ∈ A, leT a x) (h2 : ∀ b ∈ B, leT x b) : Srt (A ++ x :: B) := by
  obtain ⟨g1, g2, g3⟩ := List.pairwise_append.1 h
  refine List.pairwise_append.2 ⟨g1, List.pairwise_cons.2 ⟨h2, g2⟩, fun a ha b hb => ?_⟩
  rcases List.mem_cons.1 hb with rfl | hb
  · exact h1 a ha
  · exact g3 a ha b hb
theorem srt_last {A : List Tb} {z : Tb} (h : Srt (A ++ [z])) : ∀ a ∈ A ++ [z], leT a z := by
  intro a ha
  rcases List.mem_append.1 ha with ha | ha
  · exact (List.pairwise_append.1 h).2.2 a ha z (by simp)
  · rw [List.mem_singleton.1 ha]; exact leT_refl _

theorem ins_tri (P X S : List Tb) (hl : (P ++ X ++ S).length ≤ 1000000) {a b L : Nat} (ha : a = P.length) (hb : b = P.length + X.length) (hL : L = (P ++ X ++ S).length) :
    Tri Try.prog 72 [.sl 0 0 L 4 none, .int .i64 a, .int .i64 b, .fn 50 []] [.arr ((P ++ X ++ S).map encT) 4] (fun v H => v = .tup [] ∧ ∃ Z, Z.Perm X ∧ Srt Z ∧ H = [.arr ((P ++ Z ++ S).map encT) 4]) := by
  simp only [List.length_append] at hl hL
  refine Tri.of_run' Try.func72 rfl c72_ok (by simp [Try.ntmps72]) ?_
  have hw1 : IntKind.i64.wrap ((a : Int) + 1) = ((a + 1 : Nat) : Int) := by rw [wrap_small (n := (a : Int) + 1) (by omega) (by omega)]; omega
  (repeat (first | refine Run.adm rfl ?_ | refine Run.seq ?_ | (apply Run.opS rfl; (· (simp -implicitDefEqProofs [hw1]; exact ⟨rfl, rfl⟩))) | (apply Run.condS; (· (simp -implicitDefEqProofs [hw1]; exact rfl)))))
  have hst0 : P ++ X.take 1 ++ X.drop 1 ++ S = P ++ X ++ S := by rw [List.append_assoc P, List.take_append_drop]
  have hs1 : Srt (X.take 1) := by cases X <;> simp [Srt]
  refine Run.loopC [0] (fun (q : Nat × List Tb) => ([(0, .sl 0 0 L 4 none), (1, .int .i64 a), (2, .int .i64 b), (3, .fn 50 []), (8, .int .i64 ((a + q.1 : Nat) : Int))], [.arr ((P ++ q.2 ++ X.drop q.1 ++ S).map encT) 4]))
    (fun q => 1 ≤ q.1 ∧ (q.1 ≤ X.length ∨ q.1 = 1) ∧ q.2.Perm (X.take q.1) ∧ Srt q.2) (fun q => X.length - q.1) (1, X.take 1) ⟨Nat.le_refl 1, Or.inr rfl, List.Perm.refl _, hs1⟩ (by rfl) (by decide) (by simp) ?_ ?_
  · simp only [hst0]
    simp
  rintro ⟨k, Z⟩ ⟨hk1, hk2, hZp, hZs⟩ ihO
  simp only at hk1 hk2 hZp hZs ihO ⊢
  by_cases hlt : k < X.length
  rotate_left
  · have hlt' : ¬ ((a + k : Nat) : Int) < b := by omega
    have e1 : X.drop k = [] := List.drop_of_length_le (by omega)
    have e2 : X.take k = X := List.take_of_length_le (by omega)
    have hlt2 : ¬ a + k < b := by omega
    rw [e1, List.append_nil]
    rw [e2] at hZp
    obtain ⟨W, hW⟩ : ∃ W, W = P ++ Z ++ S := ⟨_, rfl⟩
    rw [← hW]
    generalize hai : a + k = i at *
    (repeat (first | refine Run.adm rfl ?_ | refine Run.seq ?_ | (apply Run.opS rfl; (· (simp -implicitDefEqProofs [hlt', hlt2]; exact ⟨rfl, rfl⟩))) | (apply Run.condS; (· (simp -implicitDefEqProofs [hlt', hlt2]; exact rfl)))))
    refine Run.retI Try.func72 r72_ok trivial (by simp [r72]; rfl) (by simp) ?_ (by simp) (by simp)
    exact ⟨rfl, Z, hZp, hZs, by rw [hW]⟩
  · obtain ⟨x, hx, -, hxd, -⟩ := getL hlt
    have hZl : Z.length = k := by rw [hZp.length_eq, List.length_take]; omega
    have htk : X.take (k + 1) = X.take k ++ [x] := by rw [List.take_add_one, hx]; rfl
    have hdl : (X.drop (k + 1)).length = X.length - (k + 1) := List.length_drop ..
    obtain ⟨R, hR⟩ : ∃ R, R = X.drop (k + 1) ++ S := ⟨_, rfl⟩
    have hRl : R.length = X.length - (k + 1) + S.length := by rw [hR, List.length_append, hdl]
    have hlt' : ((a + k : Nat) : Int) < b := by omega
    have hlt2 : a + k < b := by omega
    have hwi : IntKind.i64.wrap (((a + k : Nat) : Int) + 1) = ((a + (k + 1) : Nat) : Int) := by rw [wrap_small (by omega) (by omega)]; omega
    -- what comes when the element stands in its place
    have hnext : ∀ Z1 Z2 : List Tb, Z1 ++ Z2 = Z → Srt (Z1 ++ x :: Z2) → ∀ {W : List Tb}, W = P ++ Z1 ++ x :: (Z2 ++ R) → Run ⟨Try.prog, 72, Try.f72.ntmps, [.arr ((P ++ X ++ S).map encT) 4], fun v H => v = .tup [] ∧ ∃ Z, Z.Perm X ∧ Srt Z ∧ H = [.arr ((P ++ Z ++ S).map encT) 4]⟩ ⟨[.inLoop c72l0, .endB 0], tl [(0, .sl 0 0 L 4 none), (1, .int .i64 a), (2, .int .i64 b), (3, .fn 50 []), (8, .int .i64 ((a + (k + 1) : Nat) : Int))], [.arr (W.map encT) 4]⟩ := by
      intro Z1 Z2 hz hs W hW
      have hp : (Z1 ++ x :: Z2).Perm (X.take (k + 1)) := by
        rw [htk]
        refine List.perm_middle.trans ?_
        rw [hz]
        exact (List.Perm.cons x hZp).trans (List.perm_append_comm (l₁ := [x]) (l₂ := X.take k))
      have e := ihO (k + 1, Z1 ++ x :: Z2) ⟨by simp only; omega, .inl (by simp only; omega), hp, hs⟩ (by simp only; omega)
      simp only at e
      rw [show P ++ (Z1 ++ x :: Z2) ++ X.drop (k + 1) ++ S = W by rw [hW, hR]; simp] at e
      exact e
    clear ihO
    have e0 : P ++ Z ++ X.drop k ++ S = P ++ Z ++ x :: ([] ++ R) := by rw [hxd, hR]; simp
    rw [e0]
    obtain ⟨i, hi⟩ : ∃ i, i = a + k := ⟨_, rfl⟩
    obtain ⟨i1, hi1⟩ : ∃ i, i = a + (k + 1) := ⟨_, rfl⟩
    rw [← hi] at hlt' hlt2 hwi ⊢
    rw [← hi1] at hwi hnext
    obtain ⟨W0, hW0⟩ : ∃ W0, W0 = P ++ Z ++ x :: ([] ++ R) := ⟨_, rfl⟩
    rw [← hW0]
    (repeat (first | refine Run.adm rfl ?_ | refine Run.seq ?_ | (apply Run.opS rfl; (· (simp -implicitDefEqProofs [hlt', hlt2]; exact ⟨rfl, rfl⟩))) | (apply Run.condS; (· (simp -implicitDefEqProofs [hlt', hlt2]; exact rfl)))))
    rw [hW0]
    refine Run.loopC [0] (fun (q : List Tb × List Tb) => ([(0, .sl 0 0 L 4 none), (1, .int .i64 a), (2, .int .i64 b), (3, .fn 50 []), (8, .int .i64 i), (9, .int .i64 ((a + q.1.length : Nat) : Int))], [.arr ((P ++ q.1 ++ x :: (q.2 ++ R)).map encT) 4]))
      (fun q => q.1 ++ q.2 = Z ∧ ∀ z ∈ q.2, leT x z) (fun q => q.1.length) (Z, []) (by simp) (by rfl) (by decide) (by simp [hZl, hi]) (by simp) ?_
    rintro ⟨Z1, Z2⟩ ⟨hz, hz2⟩ ih
    simp only at hz hz2 ih ⊢
    have hZ12 : Z1.length + Z2.length = k := by rw [← hZl, ← hz, List.length_append]
    rcases List.eq_nil_or_concat Z1 with rfl | ⟨Z0, z, rfl⟩
    · obtain ⟨W, hW⟩ : ∃ W, W = P ++ [] ++ x :: (Z2 ++ R) := ⟨_, rfl⟩
      rw [← hW]
      have hs : Srt ([] ++ x :: Z2) := List.pairwise_cons.2 ⟨hz2, by simp only [List.nil_append] at hz; rw [hz]; exact hZs⟩
      simp only [List.length_nil, Nat.add_zero]
      (repeat (first | refine Run.adm rfl ?_ | refine Run.seq ?_ | (apply Run.opS rfl; (· (simp -implicitDefEqProofs; exact ⟨rfl, rfl⟩))) | (apply Run.condS; (· (simp -implicitDefEqProofs; exact rfl)))))
      refine Run.quietM prog_mixed (by kernel_rfl) [0] [(0, .sl 0 0 L 4 none), (1, .int .i64 a), (2, .int .i64 b), (3, .fn 50 []), (8, .int .i64 i), (9, .int .i64 a), (34, .bool false)] [.arr (W.map encT) 4] (by rfl) (by decide) ?_ ?_
      · (repeat (first | refine execQ_E rfl ?_ | (apply execQ_S rfl; (· (simp -implicitDefEqProofs; exact ⟨rfl, rfl⟩)))))
        simp
      (repeat (first | refine Run.adm rfl ?_ | refine Run.seq ?_ | (apply Run.opS rfl; (· (simp -implicitDefEqProofs; exact ⟨rfl, rfl⟩))) | (apply Run.condS; (· (simp -implicitDefEqProofs; exact rfl)))))
      refine Run.mv [0] [(0, .sl 0 0 L 4 none), (1, .int .i64 a), (2, .int .i64 b), (3, .fn 50 []), (8, .int .i64 i1)] [.arr (W.map encT) 4] (by rfl) (by decide) (by simp -implicitDefEqProofs [hwi]) (by simp -implicitDefEqProofs [hwi]) ?_
      exact hnext [] Z2 hz hs hW
    · rw [List.concat_eq_append] at *
      simp only [List.length_append, List.length_cons, List.length_nil] at hZ12
      have e1 : P ++ (Z0 ++ [z]) ++ x :: (Z2 ++ R) = (P ++ Z0) ++ z :: ([] ++ x :: (Z2 ++ R)) := by simp
      have e2 : P ++ Z0 ++ x :: (z :: Z2 ++ R) = (P ++ Z0) ++ x :: ([] ++ z :: (Z2 ++ R)) := by simp
      obtain ⟨j, hj⟩ : ∃ j, j = a + (Z0 ++ [z]).length := ⟨_, rfl⟩
      obtain ⟨jm, hjm⟩ : ∃ jm, jm = a + Z0.length := ⟨_, rfl⟩
      have hjj : j = jm + 1 := by rw [hj, hjm]; simp; omega
      have q1 : jm = (P ++ Z0).length := by rw [List.length_append]; omega
      have q2 : j = (P ++ Z0).length + 1 + ([] : List Tb).length := by simp only [List.length_nil]; omega
      have g1 := get2a (P ++ Z0) [] (Z2 ++ R) z x q1
      have g2 := get2b (P ++ Z0) [] (Z2 ++ R) z x q2
      have g3 := swap2 (P ++ Z0) [] (Z2 ++ R) z x q1 q2
      rw [← e1] at g1 g2 g3
      rw [← e2] at g3
      obtain ⟨W, hW⟩ : ∃ W, W = P ++ (Z0 ++ [z]) ++ x :: (Z2 ++ R) := ⟨_, rfl⟩
      have hWl : W.length = L := by rw [hW]; simp only [List.length_append, List.length_cons, List.length_nil]; omega
      rw [← hW] at g1 g2 g3 ⊢
      rw [← hj]
      have h5 : jm < W.length := (List.getElem?_eq_some_iff.1 g1).1
      have h6 : j < W.length := (List.getElem?_eq_some_iff.1 g2).1
      have g1' : W[jm] = z := (List.getElem?_eq_some_iff.1 g1).2
      have g2' : W[j] = x := (List.getElem?_eq_some_iff.1 g2).2
      have h5' : jm < L := by omega
      have h6' : j < L := by omega
      have hpos : (a : Int) < j := by omega
      have hpos' : a < j := by omega
      have hwj : IntKind.i64.wrap ((j : Int) - 1) = (jm : Int) := by rw [wrap_small (by omega) (by omega)]; omega
      have hor := fun H => order_at x z H
      simp only [encT] at hor
      (repeat (first | refine Run.adm rfl ?_ | refine Run.seq ?_ | (apply Run.opS rfl; (· (simp -implicitDefEqProofs; exact ⟨rfl, rfl⟩))) | (apply Run.condS; (· (simp -implicitDefEqProofs; exact rfl)))))
      refine Run.quietM prog_mixed (by kernel_rfl) [0] [(0, .sl 0 0 L 4 none), (1, .int .i64 a), (2, .int .i64 b), (3, .fn 50 []), (8, .int .i64 i), (9, .int .i64 j), (34, .bool (aheadB x z))] [.arr (W.map encT) 4] (by rfl) (by decide) ?_ ?_
      · (repeat (first | refine execQ_E rfl ?_ | (apply execQ_S rfl; (· (simp -implicitDefEqProofs [hpos, hpos', hwj, h5, h6, h5', h6', g1, g2, g1', g2', encT]; exact ⟨rfl, rfl⟩)))))
        refine execQ_C rfl (by simp [hpos, hpos']) rfl (hor _) ?_
        (repeat (first | refine execQ_E rfl ?_ | (apply execQ_S rfl; (· (simp -implicitDefEqProofs [hpos, hpos']; exact ⟨rfl, rfl⟩)))))
        have := ordI_lt x z
        cases hxz : aheadB x z with
        | true => simp [this.2 hxz]
        | false => simp [show ¬ ordI x z < 0 from fun h => by rw [this.1 h] at hxz; cases hxz]
      cases hxz : aheadB x z with
      | true =>
        (repeat (first | refine Run.adm rfl ?_ | refine Run.seq ?_ | (apply Run.opS rfl; (· (simp -implicitDefEqProofs; exact ⟨rfl, rfl⟩))) | (apply Run.condS; (· (simp -implicitDefEqProofs; exact rfl)))))
        have hne : ¬ j = jm := by omega
        have hst := set_mapT W j jm x z
        rw [show (W.set j z).set jm x = (W.set jm x).set j z from List.set_comm _ _ (by omega), g3] at hst
        simp only [encT] at hst
        obtain ⟨W2, hW2⟩ : ∃ W2, W2 = P ++ Z0 ++ x :: (z :: Z2 ++ R) := ⟨_, rfl⟩
        rw [← hW2] at hst
        refine Run.drawn prog_mixed ?_
        show RunD _ c72d1 [0, 1, 2, 3, 4, 5, 6, 7, 8, 9, 10, 11, 12, 13, 14, 15, 16, 17] [] _ _ _
        refine RunD.flow [0, 1, 2, 3, 4, 5, 6, 7, 8, 9, 10, 11, 12, 13, 14] (by kernel_rfl) (by decide +kernel) (by decide +kernel) (by decide) trivial ?_; (repeat (first | refine execQ_E rfl ?_ | (apply execQ_S rfl; (· (simp -implicitDefEqProofs [hwj, h5, h6, h5', h6', g1, g2, g1', g2', encT]; exact ⟨rfl, rfl⟩))))); intro hpo
        refine RunD.alt1 15 (by kernel_rfl) (by kernel_rfl) hpo ?_
        (apply AStep.S rfl; (· (simp -implicitDefEqProofs [h6, h6', g2, g2', encT]; exact ⟨rfl, rfl⟩)))
        refine RunD.flow [16] (by kernel_rfl) (by decide +kernel) (by decide +kernel) (by decide) (by show PendOk _ c72d1 _ _ [4, 3, 2]; (repeat (first | exact PendOk.nil | (refine PendOk.S rfl rfl ?_ ?_; (· (simp -implicitDefEqProofs [hwj]; done)))))) ?_; (repeat (first | refine execQ_E rfl ?_ | (apply execQ_S rfl; (· (simp -implicitDefEqProofs [h5, h5']; exact ⟨rfl, rfl⟩))))); intro hpo
        refine RunD.alt1 17 (by kernel_rfl) (by kernel_rfl) hpo ?_
        (apply AStep.S rfl; (· (simp -implicitDefEqProofs [h5, h5', g1, g1', hne, encT, List.getElem?_set]; exact ⟨rfl, rfl⟩)))
        refine RunD.fin (by kernel_rfl) (by trivial) ?_
        (repeat (first | refine Run.adm rfl ?_ | refine Run.seq ?_ | (apply Run.opS rfl; (· (simp -implicitDefEqProofs; exact ⟨rfl, rfl⟩))) | (apply Run.condS; (· (simp -implicitDefEqProofs; exact rfl)))))
        have hq := ih (Z0, z :: Z2) ⟨by simp only; rw [← hz]; simp, fun q hq => by
          rcases List.mem_cons.1 hq with rfl | hq
          · exact ahead_le hxz
          · exact hz2 q hq⟩ (by simp)
        simp only at hq
        rw [← hW2, ← hjm] at hq
        refine Run.mv [0] _ _ (by rfl) (by decide) ?_ ?_ hq
        · simp [hwj]
        · simp [hst]
      | false =>
        have hs : Srt ((Z0 ++ [z]) ++ x :: Z2) := by
          refine srt_mid (by rw [hz]; exact hZs) (fun q hq => ?_) hz2
          have h1 : Srt (Z0 ++ [z]) := by
            have : Srt ((Z0 ++ [z]) ++ Z2) := by rw [hz]; exact hZs
            exact (List.pairwise_append.1 this).1
          exact leT_trans (srt_last h1 q hq) hxz
        (repeat (first | refine Run.adm rfl ?_ | refine Run.seq ?_ | (apply Run.opS rfl; (· (simp -implicitDefEqProofs; exact ⟨rfl, rfl⟩))) | (apply Run.condS; (· (simp -implicitDefEqProofs; exact rfl)))))
        refine Run.mv [0] [(0, .sl 0 0 L 4 none), (1, .int .i64 a), (2, .int .i64 b), (3, .fn 50 []), (8, .int .i64 i1)] [.arr (W.map encT) 4] (by rfl) (by decide) (by simp -implicitDefEqProofs [hwi]) (by simp -implicitDefEqProofs [hwi]) ?_
        exact hnext (Z0 ++ [z]) Z2 hz hs hW

end Go.Proofs.Ytpipgcmiaccdkaa
