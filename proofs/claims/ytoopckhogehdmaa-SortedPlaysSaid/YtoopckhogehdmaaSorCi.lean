/-
  Layer 07, part Ci: one more, between (int values).
-/
import Derived.Test.YtoopckhogehdmaaSorBs
namespace Go.Proofs.Ytoopckhogehdmaa
open Sx Go
set_option maxRecDepth 100000
set_option linter.unusedSimpArgs false
set_option linter.unusedVariables false
set_option linter.unnecessarySimpa false
attribute [local simp] boundsC appendG appendO copyV srcC guardB isCall opStep Opd.ev put readAt aBin aUn args0 V.celled V.ones V.one V.cells putAt bounds bound1 elemsOf srcOf appendV fillAt fillEl V.pures V.pure unwind evs ARes.ev mkRes V.ren V.renL O.ren eqCells eq1 aEq aMM hasTy hasTyN okTy mmGo Known HLe OLe VsLe.refl VLe.refl VLe.cap Stay VsLe V.frz V.frzL O.frz fr clearV rn KnownR Objs OLeO ObjsE nm back setAll ren_ite take_map_len List.take_of_length_le
attribute [local simp ↓] upd_app tl_cons tl_nil
attribute [local simp] encItI_ren encItI_ones encItI_len encItI_take

theorem insi_tri (l : List (Bs × Int)) (hl : l.length ≤ 100000) (k : Nat) (hk : k ≤ l.length) (x : Bs × Int) : Tri Try.prog 31 [.sl 0 0 l.length 2 none, .int .i64 k, .sl 1 0 1 2 (some 1)] [.arr (l.map encItI) 2, .arr [encItI x] 2]
    (fun v H => (v = .sl 2 0 (l.length + 1) 2 none ∧ H = [.gone, .gone, .arr ((l.take k ++ x :: l.drop k).map encItI) 2]) ∨ (v = .sl 0 0 (l.length + 1) 2 none ∧ H = [.arr ((l.take k ++ x :: l.drop k).map encItI) 2, .gone])) := by
  have hbb : (l.length + 1) * 24 ≤ 70368744177664 := by omega
  have hk' : (k : Int) ≤ l.length := by omega
  refine Tri.of_run' Try.func31 rfl c31_ok (by simp [Try.ntmps31]) ?_
  by_cases hkn : k = l.length
  · subst hkn
    (repeat (first | refine Run.seq ?_ | refine Run.reg ?_ | refine Run.skip ?_ | refine Run.block ?_ | refine Run.endB ?_ | refine Run.opE rfl ?_ | (apply Run.op0 rfl; (· (simp -implicitDefEqProofs [hbb]; exact ⟨rfl, rfl⟩))) | (apply Run.opA rfl; (· (simp -implicitDefEqProofs [hbb]; done)); (· (simp -implicitDefEqProofs [hbb]; exact ⟨rfl, rfl⟩))) | (apply Run.opN rfl; (· (simp -implicitDefEqProofs [hbb]; done))) | (refine Run.condT ?_ ?_; (· (simp -implicitDefEqProofs [hbb]; done))) | (refine Run.condF ?_ ?_; (· (simp -implicitDefEqProofs [hbb]; done))) | refine Run.exit rfl ?_))
    refine Run.mv [0, 1, 2] [(6, .sl 2 0 (l.length + 1) 2 none)] [.gone, .gone, .arr ((l.take l.length ++ x :: l.drop l.length).map encItI) 2] (by rfl) (by decide) (by simp -implicitDefEqProofs [List.drop_length, List.take_length]) (by simp -implicitDefEqProofs [List.drop_length, List.take_length]) ?_
    refine Run.retI Try.func31 r31_ok trivial (by simp -implicitDefEqProofs [r31]; rfl) (by simp ) ?_ (by simp -implicitDefEqProofs ) (by simp -implicitDefEqProofs )
    simp
  · have hkn' : ¬ (k : Int) = l.length := by omega
    refine Run.cap 0 rfl (by omega) ?_
    intro c hc
    obtain ⟨N1, hN1⟩ : ∃ m, m = l.length + 1 := ⟨_, rfl⟩
    obtain ⟨K1, hK1⟩ : ∃ m, m = k + 1 := ⟨_, rfl⟩
    obtain ⟨M1, hM1⟩ : ∃ m, m = l.length + 1 - k := ⟨_, rfl⟩
    have hw1 : IntKind.i64.wrap ((l.length : Int) + 1) = (N1 : Int) := by rw [wrap_small (by omega) (by omega)]; omega
    have hw2 : IntKind.i64.wrap ((k : Int) + 1) = (K1 : Int) := by rw [wrap_small (by omega) (by omega)]; omega
    have hw3 : IntKind.i64.wrap ((N1 : Int) - k) = (M1 : Int) := by rw [wrap_small (by omega) (by omega)]; omega
    have hkc : k ≤ c := by omega
    have hkc' : (k : Int) ≤ c := by omega
    have hkM : k + M1 = N1 := by omega
    have hkN : k ≤ N1 := by omega
    have hkN' : (k : Int) ≤ N1 := by omega
    have hKN : K1 ≤ N1 := by omega
    have hKN' : (K1 : Int) ≤ N1 := by omega
    by_cases hroom : c < N1
    · have hroom' : (c : Int) < N1 := by omega
      have hMb : (M1 : Int) ≤ 70368744177664 := by omega
      have hg : c < k + M1 := by omega
      have hmn1 : min 1 (N1 - k) = 1 := by omega
      have h1N : 1 ≤ N1 - k := by omega
      have hb2 : N1 * 24 ≤ 70368744177664 := by omega
      (repeat (first | refine Run.seq ?_ | refine Run.reg ?_ | refine Run.skip ?_ | refine Run.block ?_ | refine Run.endB ?_ | refine Run.opE rfl ?_ | (apply Run.op0 rfl; (· (simp -implicitDefEqProofs [hk, hk', hkn, hkn', hw1, hw2, hw3, hkc, hkc', hroom, hroom', hMb, hb2, hkM, hkN, hkN', hKN, hKN', hmn1, h1N]; exact ⟨rfl, rfl⟩))) | (apply Run.opA rfl; (· (simp -implicitDefEqProofs [hk, hk', hkn, hkn', hw1, hw2, hw3, hkc, hkc', hroom, hroom', hMb, hb2, hkM, hkN, hkN', hKN, hKN', hmn1, h1N]; done)); (· (simp -implicitDefEqProofs [hk, hk', hkn, hkn', hw1, hw2, hw3, hkc, hkc', hroom, hroom', hMb, hb2, hkM, hkN, hkN', hKN, hKN', hmn1, h1N]; exact ⟨rfl, rfl⟩))) | (apply Run.opN rfl; (· (simp -implicitDefEqProofs [hk, hk', hkn, hkn', hw1, hw2, hw3, hkc, hkc', hroom, hroom', hMb, hb2, hkM, hkN, hkN', hKN, hKN', hmn1, h1N]; done))) | (refine Run.condT ?_ ?_; (· (simp -implicitDefEqProofs [hk, hk', hkn, hkn', hw1, hw2, hw3, hkc, hkc', hroom, hroom', hMb, hb2, hkM, hkN, hkN', hKN, hKN', hmn1, h1N]; done))) | (refine Run.condF ?_ ?_; (· (simp -implicitDefEqProofs [hk, hk', hkn, hkn', hw1, hw2, hw3, hkc, hkc', hroom, hroom', hMb, hb2, hkM, hkN, hkN', hKN, hKN', hmn1, h1N]; done))) | refine Run.exit rfl ?_))
      have hmin : min (l.length - k) (N1 - K1) = l.length - k := by omega
      have hkl : k + (l.length - k) = l.length := by omega
      have hfin : ∀ A : List (List V), A = List.take k (List.map encItI l) ++ encItI x :: List.drop (k + 1) (List.take k (List.map encItI l) ++ List.replicate M1 [V.str [], V.int IntKind.i64 0]) → A.length = N1 ∧ A.take K1 ++ ((l.map encItI).drop k ++ A.drop N1) = (l.take k ++ x :: l.drop k).map encItI := by
        intro A hA
        have h1 : A.length = N1 := by rw [hA]; simp; omega
        refine ⟨h1, ?_⟩
        rw [show A.drop N1 = [] from List.drop_eq_nil_of_le (by omega), List.append_nil, hA, List.take_append, List.take_of_length_le (by simp; omega)]
        have h2 : K1 - (List.take k (l.map encItI)).length = 1 := by simp; omega
        rw [h2]
        simp [List.map_take, List.map_drop]
      generalize hA : (List.take k (List.map encItI l) ++ encItI x :: List.drop (k + 1) (List.take k (List.map encItI l) ++ List.replicate M1 [V.str [], V.int IntKind.i64 0])) = A
      obtain ⟨hAl, hAf⟩ := hfin A hA.symm
      have hds : (List.drop k (List.map encItI l)).take (l.length - k) = List.drop k (List.map encItI l) := List.take_of_length_le (by simp)
      have hKl : K1 + (l.length - k) = N1 := by omega
      clear hfin hA
      refine Run.drawn prog_mixed ?_
      show RunD _ c31d0 [0, 1, 2, 3, 4, 5, 6, 7, 8] [] _ _ _
      refine RunD.flow [0, 1, 2, 3, 4, 5, 6, 7] (by kernel_rfl) (by decide +kernel) (by decide +kernel) (by decide) trivial ?_; (repeat (first | refine execQ_E rfl ?_ | (apply execQ_0 rfl; (· rfl); (· (simp -implicitDefEqProofs [hw2, hKN, hKN', hk, hk', hkc, hkc']; exact ⟨rfl, rfl⟩))) | (apply execQ_A rfl; (· (simp -implicitDefEqProofs [hw2, hKN, hKN', hk, hk', hkc, hkc']; done)); (· rfl); (· (simp -implicitDefEqProofs [hw2, hKN, hKN', hk, hk', hkc, hkc']; exact ⟨rfl, rfl⟩))) | (apply execQ_N rfl; (· (simp -implicitDefEqProofs [hw2, hKN, hKN', hk, hk', hkc, hkc']; done))))); intro hpo
      refine RunD.alt1 8 (by kernel_rfl) (by kernel_rfl) hpo ?_
      (first | (apply AStep.o0 rfl; (· (simp -implicitDefEqProofs [hmin, hkl, hAl, hKN, hds, hKl]; exact ⟨rfl, rfl⟩))) | (apply AStep.A rfl; (· (simp -implicitDefEqProofs [hmin, hkl, hAl, hKN, hds, hKl]; done)); (· (simp -implicitDefEqProofs [hmin, hkl, hAl, hKN, hds, hKl]; exact ⟨rfl, rfl⟩))) | (apply AStep.N rfl; (· (simp -implicitDefEqProofs [hmin, hkl, hAl, hKN, hds, hKl]; done))))
      refine RunD.fin (by kernel_rfl) (show PendOk _ c31d0 _ _ [] from trivial) ?_
      have hA3 : List.take K1 A ++ (List.drop k (List.map encItI l) ++ List.drop (l.length + 1) A) = List.take k (List.map encItI l) ++ encItI x :: List.drop k (List.map encItI l) := by
        rw [← hN1]; simpa [List.map_take, List.map_drop] using hAf
      (repeat (first | refine Run.seq ?_ | refine Run.reg ?_ | refine Run.skip ?_ | refine Run.block ?_ | refine Run.endB ?_ | refine Run.opE rfl ?_ | (apply Run.op0 rfl; (· (simp -implicitDefEqProofs; exact ⟨rfl, rfl⟩))) | (apply Run.opA rfl; (· (simp -implicitDefEqProofs; done)); (· (simp -implicitDefEqProofs; exact ⟨rfl, rfl⟩))) | (apply Run.opN rfl; (· (simp -implicitDefEqProofs; done))) | (refine Run.condT ?_ ?_; (· (simp -implicitDefEqProofs; done))) | (refine Run.condF ?_ ?_; (· (simp -implicitDefEqProofs; done))) | refine Run.exit rfl ?_))
      refine Run.mv [0, 1, 2] [(6, .sl 2 0 (l.length + 1) 2 none)] [.gone, .gone, .arr ((l.take k ++ x :: l.drop k).map encItI) 2] (by rfl) (by decide) (by simp -implicitDefEqProofs [hA3, hN1]) (by simp -implicitDefEqProofs [hA3, hN1]) ?_
      refine Run.retI Try.func31 r31_ok trivial (by simp -implicitDefEqProofs [r31]; rfl) (by simp ) ?_ (by simp -implicitDefEqProofs ) (by simp -implicitDefEqProofs )
      simp
    · have hroom' : ¬ (c : Int) < N1 := by omega
      have hNc : N1 ≤ c := by omega
      have hNc' : (N1 : Int) ≤ c := by omega
      (repeat (first | refine Run.seq ?_ | refine Run.reg ?_ | refine Run.skip ?_ | refine Run.block ?_ | refine Run.endB ?_ | refine Run.opE rfl ?_ | (apply Run.op0 rfl; (· (simp -implicitDefEqProofs [hk, hk', hkn, hkn', hw1, hw2, hw3, hkc, hkc', hroom, hroom', hNc, hNc', hkN, hkN', hKN, hKN']; exact ⟨rfl, rfl⟩))) | (apply Run.opA rfl; (· (simp -implicitDefEqProofs [hk, hk', hkn, hkn', hw1, hw2, hw3, hkc, hkc', hroom, hroom', hNc, hNc', hkN, hkN', hKN, hKN']; done)); (· (simp -implicitDefEqProofs [hk, hk', hkn, hkn', hw1, hw2, hw3, hkc, hkc', hroom, hroom', hNc, hNc', hkN, hkN', hKN, hKN']; exact ⟨rfl, rfl⟩))) | (apply Run.opN rfl; (· (simp -implicitDefEqProofs [hk, hk', hkn, hkn', hw1, hw2, hw3, hkc, hkc', hroom, hroom', hNc, hNc', hkN, hkN', hKN, hKN']; done))) | (refine Run.condT ?_ ?_; (· (simp -implicitDefEqProofs [hk, hk', hkn, hkn', hw1, hw2, hw3, hkc, hkc', hroom, hroom', hNc, hNc', hkN, hkN', hKN, hKN']; done))) | (refine Run.condF ?_ ?_; (· (simp -implicitDefEqProofs [hk, hk', hkn, hkn', hw1, hw2, hw3, hkc, hkc', hroom, hroom', hNc, hNc', hkN, hkN', hKN, hKN']; done))) | refine Run.exit rfl ?_))
      refine Run.opX (overlaps_apart (P := Try.prog) (f := 39) (e := 61) rfl rfl rfl rfl (by kernel_rfl) rfl (by kernel_rfl) (by kernel_rfl) rfl (id1 := 1) (id2 := 0) (by decide) rfl rfl (by omega) (by omega) (by omega) (by omega)) rfl rfl rfl ?_
      have hmin : min (N1 - k) (N1 - K1) = l.length - k := by omega
      have hkl : k + (l.length - k) = l.length := by omega
      have hKl : K1 ≤ l.length := by omega
      have hds : (List.drop k (List.map encItI l)).take (l.length - k) = List.drop k (List.map encItI l) := List.take_of_length_le (by simp)
      have hKl2 : K1 + (l.length - k) = N1 := by omega
      (repeat (first | refine Run.seq ?_ | refine Run.reg ?_ | refine Run.skip ?_ | refine Run.block ?_ | refine Run.endB ?_ | refine Run.opE rfl ?_ | (apply Run.op0 rfl; (· (simp -implicitDefEqProofs; exact ⟨rfl, rfl⟩))) | (apply Run.opA rfl; (· (simp -implicitDefEqProofs; done)); (· (simp -implicitDefEqProofs; exact ⟨rfl, rfl⟩))) | (apply Run.opN rfl; (· (simp -implicitDefEqProofs; done))) | (refine Run.condT ?_ ?_; (· (simp -implicitDefEqProofs; done))) | (refine Run.condF ?_ ?_; (· (simp -implicitDefEqProofs; done))) | refine Run.exit rfl ?_))
      refine Run.drawn prog_mixed ?_
      show RunD _ c31d1 [0, 1, 2, 3, 4, 5, 6, 7, 8] [] _ _ _
      refine RunD.flow [0, 1, 2, 3, 4, 5, 6, 7] (by kernel_rfl) (by decide +kernel) (by decide +kernel) (by decide) trivial ?_; (repeat (first | refine execQ_E rfl ?_ | (apply execQ_0 rfl; (· rfl); (· (simp -implicitDefEqProofs [hw2, hKN, hKN', hkN, hkN', hkc, hkc', hNc, hNc']; exact ⟨rfl, rfl⟩))) | (apply execQ_A rfl; (· (simp -implicitDefEqProofs [hw2, hKN, hKN', hkN, hkN', hkc, hkc', hNc, hNc']; done)); (· rfl); (· (simp -implicitDefEqProofs [hw2, hKN, hKN', hkN, hkN', hkc, hkc', hNc, hNc']; exact ⟨rfl, rfl⟩))) | (apply execQ_N rfl; (· (simp -implicitDefEqProofs [hw2, hKN, hKN', hkN, hkN', hkc, hkc', hNc, hNc']; done))))); intro hpo
      refine RunD.alt1 8 (by kernel_rfl) (by kernel_rfl) hpo ?_
      (first | (apply AStep.o0 rfl; (· (simp -implicitDefEqProofs [hmin, hkl, hds, hKl, hKl2]; exact ⟨rfl, rfl⟩))) | (apply AStep.A rfl; (· (simp -implicitDefEqProofs [hmin, hkl, hds, hKl, hKl2]; done)); (· (simp -implicitDefEqProofs [hmin, hkl, hds, hKl, hKl2]; exact ⟨rfl, rfl⟩))) | (apply AStep.N rfl; (· (simp -implicitDefEqProofs [hmin, hkl, hds, hKl, hKl2]; done))))
      refine RunD.fin (by kernel_rfl) (show PendOk _ c31d1 _ _ [] from trivial) ?_
      have hfin : ∀ C : List (List V), C = List.take K1 (List.map encItI l) ++ (List.drop k (List.map encItI l) ++ List.drop N1 (List.map encItI l)) → C.length = N1 ∧ List.take k C ++ encItI x :: List.drop (k + 1) C = List.take k (List.map encItI l) ++ encItI x :: List.drop k (List.map encItI l) := by
        intro C hC
        have h0 : List.drop N1 (List.map encItI l) = [] := List.drop_eq_nil_of_le (by simp; omega)
        rw [h0, List.append_nil] at hC
        have hlK : (List.take K1 (List.map encItI l)).length = k + 1 := by simp; omega
        refine ⟨by rw [hC]; simp; omega, ?_⟩
        have e1 : List.take k C = List.take k (List.map encItI l) := by
          rw [hC, List.take_append_of_le_length (by omega), List.take_take]; congr 1; omega
        have e2 : List.drop (k + 1) C = List.drop k (List.map encItI l) := by
          rw [hC, List.drop_append_of_le_length (by omega), List.drop_eq_nil_of_le (by omega)]; rfl
        rw [e1, e2]
      have hmn1 : min 1 (N1 - k) = 1 := by omega
      have h1N : 1 ≤ N1 - k := by omega
      (repeat (first | refine Run.seq ?_ | refine Run.reg ?_ | refine Run.skip ?_ | refine Run.block ?_ | refine Run.endB ?_ | refine Run.opE rfl ?_ | (apply Run.op0 rfl; (· (simp -implicitDefEqProofs [hkN, hkN', hkc, hkc', hNc, hNc']; exact ⟨rfl, rfl⟩))) | (apply Run.opA rfl; (· (simp -implicitDefEqProofs [hkN, hkN', hkc, hkc', hNc, hNc']; done)); (· (simp -implicitDefEqProofs [hkN, hkN', hkc, hkc', hNc, hNc']; exact ⟨rfl, rfl⟩))) | (apply Run.opN rfl; (· (simp -implicitDefEqProofs [hkN, hkN', hkc, hkc', hNc, hNc']; done))) | (refine Run.condT ?_ ?_; (· (simp -implicitDefEqProofs [hkN, hkN', hkc, hkc', hNc, hNc']; done))) | (refine Run.condF ?_ ?_; (· (simp -implicitDefEqProofs [hkN, hkN', hkc, hkc', hNc, hNc']; done))) | refine Run.exit rfl ?_))
      generalize hC : (List.take K1 (List.map encItI l) ++ (List.drop k (List.map encItI l) ++ List.drop N1 (List.map encItI l))) = C
      obtain ⟨hCl, hCf⟩ := hfin C hC.symm
      clear hfin hC
      (repeat (first | refine Run.seq ?_ | refine Run.reg ?_ | refine Run.skip ?_ | refine Run.block ?_ | refine Run.endB ?_ | refine Run.opE rfl ?_ | (apply Run.op0 rfl; (· (simp -implicitDefEqProofs [hmn1, h1N, hCl, hkN]; exact ⟨rfl, rfl⟩))) | (apply Run.opA rfl; (· (simp -implicitDefEqProofs [hmn1, h1N, hCl, hkN]; done)); (· (simp -implicitDefEqProofs [hmn1, h1N, hCl, hkN]; exact ⟨rfl, rfl⟩))) | (apply Run.opN rfl; (· (simp -implicitDefEqProofs [hmn1, h1N, hCl, hkN]; done))) | (refine Run.condT ?_ ?_; (· (simp -implicitDefEqProofs [hmn1, h1N, hCl, hkN]; done))) | (refine Run.condF ?_ ?_; (· (simp -implicitDefEqProofs [hmn1, h1N, hCl, hkN]; done))) | refine Run.exit rfl ?_))
      refine Run.mv [0, 1] [(6, .sl 0 0 (l.length + 1) 2 none)] [.arr ((l.take k ++ x :: l.drop k).map encItI) 2, .gone] (by rfl) (by decide) (by simp -implicitDefEqProofs [hCf, hN1]) (by simp -implicitDefEqProofs [hCf, hN1]) ?_
      refine Run.retI Try.func31 r31_ok trivial (by simp -implicitDefEqProofs [r31]; rfl) (by simp ) ?_ (by simp -implicitDefEqProofs ) (by simp -implicitDefEqProofs )
      simp

theorem puti_tri (l : List (Bs × Int)) (hl : l.length ≤ 100000) (hr : RiseK l) (key : Bs) (v : Int) : Tri Try.prog 18 [.ptr 0 0, .str key, (V.int IntKind.i64) v] (mapHi l) (fun r H => r = .bool (hitB l key) ∧ (H = mapHi (putL l key v) ∨ H = mapKi (putL l key v))) := by
  refine Tri.of_run' Try.func18 rfl c18_ok (by simp [Try.ntmps18]) ?_
  unfold mapHi
  (repeat (first | refine Run.seq ?_ | refine Run.reg ?_ | refine Run.skip ?_ | refine Run.block ?_ | refine Run.endB ?_ | refine Run.opE rfl ?_ | (apply Run.op0 rfl; (· (simp -implicitDefEqProofs; exact ⟨rfl, rfl⟩))) | (apply Run.opA rfl; (· (simp -implicitDefEqProofs; done)); (· (simp -implicitDefEqProofs; exact ⟨rfl, rfl⟩))) | (apply Run.opN rfl; (· (simp -implicitDefEqProofs; done))) | (refine Run.condT ?_ ?_; (· (simp -implicitDefEqProofs; done))) | (refine Run.condF ?_ ?_; (· (simp -implicitDefEqProofs; done))) | refine Run.exit rfl ?_))
  refine Run.opF [0, 1] (findi_tri l hl hr key) rfl (by simp -implicitDefEqProofs [mapHi]) rfl (by simp -implicitDefEqProofs [mapHi]) (by decide) (by rfl) (by simp -implicitDefEqProofs [mapHi]) ?_
  rintro v0 Hs' ⟨rfl, rfl⟩
  have hle := lowB_le l key
  cases hh : hitB l key with
  | true =>
    obtain ⟨x, hx, hk⟩ := hitB_some hh
    have hlt := (List.getElem?_eq_some_iff.1 hx).1
    have hxi : l[lowB l key] = x := (List.getElem?_eq_some_iff.1 hx).2
    have hlt' : (lowB l key : Int) < l.length := by omega
    have hp : putL l key v = l.set (lowB l key) (key, v) := by rw [putL, if_pos hh]
    (repeat (first | refine Run.seq ?_ | refine Run.reg ?_ | refine Run.skip ?_ | refine Run.block ?_ | refine Run.endB ?_ | refine Run.opE rfl ?_ | (apply Run.op0 rfl; (· (simp -implicitDefEqProofs [hh, mapHi, hlt, hlt', hx, hxi, encItI]; exact ⟨rfl, rfl⟩))) | (apply Run.opA rfl; (· (simp -implicitDefEqProofs [hh, mapHi, hlt, hlt', hx, hxi, encItI]; done)); (· (simp -implicitDefEqProofs [hh, mapHi, hlt, hlt', hx, hxi, encItI]; exact ⟨rfl, rfl⟩))) | (apply Run.opN rfl; (· (simp -implicitDefEqProofs [hh, mapHi, hlt, hlt', hx, hxi, encItI]; done))) | (refine Run.condT ?_ ?_; (· (simp -implicitDefEqProofs [hh, mapHi, hlt, hlt', hx, hxi, encItI]; done))) | (refine Run.condF ?_ ?_; (· (simp -implicitDefEqProofs [hh, mapHi, hlt, hlt', hx, hxi, encItI]; done))) | refine Run.exit rfl ?_))
    refine Run.mv [0, 1] [(6, .bool true)] [.row [.bool true, .sl 1 0 (putL l key v).length 2 none], .arr ((putL l key v).map encItI) 2] (by rfl) (by decide) (by simp -implicitDefEqProofs [hp, List.map_set, encItI, hk]) (by simp -implicitDefEqProofs [hp, List.map_set, encItI, hk]) ?_
    refine Run.retI Try.func18 r18_ok trivial (by simp -implicitDefEqProofs [r18]; rfl) (by simp ) ?_ (by simp -implicitDefEqProofs ) (by simp -implicitDefEqProofs )
    simp [mapHi]
  | false =>
    have hp : putL l key v = l.take (lowB l key) ++ (key, v) :: l.drop (lowB l key) := by rw [putL, if_neg (by simp [hh])]
    have hpl : (putL l key v).length = l.length + 1 := by rw [hp]; simp; omega
    (repeat (first | refine Run.seq ?_ | refine Run.reg ?_ | refine Run.skip ?_ | refine Run.block ?_ | refine Run.endB ?_ | refine Run.opE rfl ?_ | (apply Run.op0 rfl; (· (simp -implicitDefEqProofs [hh, mapHi]; exact ⟨rfl, rfl⟩))) | (apply Run.opA rfl; (· (simp -implicitDefEqProofs [hh, mapHi]; done)); (· (simp -implicitDefEqProofs [hh, mapHi]; exact ⟨rfl, rfl⟩))) | (apply Run.opN rfl; (· (simp -implicitDefEqProofs [hh, mapHi]; done))) | (refine Run.condT ?_ ?_; (· (simp -implicitDefEqProofs [hh, mapHi]; done))) | (refine Run.condF ?_ ?_; (· (simp -implicitDefEqProofs [hh, mapHi]; done))) | refine Run.exit rfl ?_))
    refine Run.opF [1, 2] (insi_tri l hl (lowB l key) hle (key, v)) rfl (by simp -implicitDefEqProofs [encItI]) rfl (by simp -implicitDefEqProofs [encItI]) (by decide) (by rfl) (by simp -implicitDefEqProofs [encItI]) ?_
    rw [← hp]
    rintro v0 Hs' (⟨rfl, rfl⟩ | ⟨rfl, rfl⟩)
    · (repeat (first | refine Run.seq ?_ | refine Run.reg ?_ | refine Run.skip ?_ | refine Run.block ?_ | refine Run.endB ?_ | refine Run.opE rfl ?_ | (apply Run.op0 rfl; (· (simp -implicitDefEqProofs; exact ⟨rfl, rfl⟩))) | (apply Run.opA rfl; (· (simp -implicitDefEqProofs; done)); (· (simp -implicitDefEqProofs; exact ⟨rfl, rfl⟩))) | (apply Run.opN rfl; (· (simp -implicitDefEqProofs; done))) | (refine Run.condT ?_ ?_; (· (simp -implicitDefEqProofs; done))) | (refine Run.condF ?_ ?_; (· (simp -implicitDefEqProofs; done))) | refine Run.exit rfl ?_))
      refine Run.mv [0, 1, 3] [(6, .bool false)] [.row [.bool true, .sl 2 0 (putL l key v).length 2 none], .gone, .arr ((putL l key v).map encItI) 2] (by rfl) (by decide) (by simp -implicitDefEqProofs [hpl]) (by simp -implicitDefEqProofs [hpl]) ?_
      refine Run.retI Try.func18 r18_ok trivial (by simp -implicitDefEqProofs [r18]; rfl) (by simp ) ?_ (by simp -implicitDefEqProofs ) (by simp -implicitDefEqProofs )
      simp [mapKi]
    · (repeat (first | refine Run.seq ?_ | refine Run.reg ?_ | refine Run.skip ?_ | refine Run.block ?_ | refine Run.endB ?_ | refine Run.opE rfl ?_ | (apply Run.op0 rfl; (· (simp -implicitDefEqProofs; exact ⟨rfl, rfl⟩))) | (apply Run.opA rfl; (· (simp -implicitDefEqProofs; done)); (· (simp -implicitDefEqProofs; exact ⟨rfl, rfl⟩))) | (apply Run.opN rfl; (· (simp -implicitDefEqProofs; done))) | (refine Run.condT ?_ ?_; (· (simp -implicitDefEqProofs; done))) | (refine Run.condF ?_ ?_; (· (simp -implicitDefEqProofs; done))) | refine Run.exit rfl ?_))
      refine Run.mv [0, 1] [(6, .bool false)] [.row [.bool true, .sl 1 0 (putL l key v).length 2 none], .arr ((putL l key v).map encItI) 2] (by rfl) (by decide) (by simp -implicitDefEqProofs [hpl]) (by simp -implicitDefEqProofs [hpl]) ?_
      refine Run.retI Try.func18 r18_ok trivial (by simp -implicitDefEqProofs [r18]; rfl) (by simp ) ?_ (by simp -implicitDefEqProofs ) (by simp -implicitDefEqProofs )
      simp [mapHi]

end Go.Proofs.Ytoopckhogehdmaa
