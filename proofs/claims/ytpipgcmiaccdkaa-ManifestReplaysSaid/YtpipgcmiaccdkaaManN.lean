/-
  Layer 12, part N: sorting: a range turns round.
-/
import Derived.Test.YtpipgcmiaccdkaaManM
namespace Go.Proofs.Ytpipgcmiaccdkaa
open Sx Go
set_option maxRecDepth 100000
set_option linter.unusedSimpArgs false
set_option linter.unusedVariables false
set_option linter.unnecessarySimpa false
attribute [local simp] stepV condR boundsC appendG appendO copyV srcC guardB isCall opStep Opd.ev put readAt aBin aUn args0 V.celled V.ones V.one V.cells putAt bounds bound1 elemsOf srcOf appendV fillAt fillEl V.pures V.pure unwind evs ARes.ev mkRes V.ren V.renL O.ren eqCells eq1 aEq aMM hasTy hasTyN okTy mmGo Known HLe OLe VsLe.refl VLe.refl VLe.cap Stay VsLe V.frz V.frzL O.frz fr clearV rn KnownR Objs OLeO ObjsE nm back setAll ren_ite take_map_len List.take_of_length_le
attribute [local simp ↓] upd_app tl_cons tl_nil
attribute [local simp] encT_ren encT_ones encT_len encT_take encN_ren encN_ones encN_len encN_take
attribute [local simp] encE_ren encE_len encE_take encZ_ren encZ_len encZ_take

theorem split_at {α : Type} (l : List α) (k : Nat) (h : k ≤ l.length) : ∃ A B, l = A ++ B ∧ A.length = k ∧ B.length = l.length - k :=
  ⟨l.take k, l.drop k, (List.take_append_drop k l).symm, by rw [List.length_take]; omega, List.length_drop ..⟩

theorem rot_tri (P X Y S : List Tb) (hx : 0 < X.length) (hy : 0 < Y.length) (hl : (P ++ X ++ Y ++ S).length ≤ 1000000) {a m b L : Nat} (ha : a = P.length) (hm : m = P.length + X.length) (hb : b = P.length + X.length + Y.length) (hL : L = (P ++ X ++ Y ++ S).length) :
    Tri Try.prog 76 [.sl 0 0 L 4 none, .int .i64 a, .int .i64 m, .int .i64 b, .fn 50 []] [.arr ((P ++ X ++ Y ++ S).map encT) 4] (fun v H => v = .tup [] ∧ H = [.arr ((P ++ Y ++ X ++ S).map encT) 4]) := by
  simp only [List.length_append] at hl hL
  refine Tri.of_run' Try.func76 rfl c76_ok (by simp [Try.ntmps76]) ?_
  have hw1 : IntKind.i64.wrap ((m : Int) - a) = ((X.length : Nat) : Int) := by rw [wrap_small (n := (m : Int) - a) (by omega) (by omega)]; omega
  have hw2 : IntKind.i64.wrap ((b : Int) - m) = ((Y.length : Nat) : Int) := by rw [wrap_small (n := (b : Int) - m) (by omega) (by omega)]; omega
  (repeat (first | refine Run.adm rfl ?_ | refine Run.seq ?_ | (apply Run.opS rfl; (· (simp -implicitDefEqProofs [hw1, hw2]; exact ⟨rfl, rfl⟩))) | (apply Run.condS; (· (simp -implicitDefEqProofs [hw1, hw2]; exact rfl)))))
  refine Run.loopC [0] (fun (q : List Tb × List Tb × List Tb × List Tb) => ([(0, .sl 0 0 L 4 none), (2, .int .i64 m), (4, .fn 50 []), (10, .int .i64 q.2.1.length), (11, .int .i64 q.2.2.1.length)], [.arr ((q.1 ++ q.2.1 ++ q.2.2.1 ++ q.2.2.2).map encT) 4]))
    (fun q => q.1.length + q.2.1.length = m ∧ 0 < q.2.1.length ∧ 0 < q.2.2.1.length ∧ L = q.1.length + q.2.1.length + q.2.2.1.length + q.2.2.2.length ∧ q.1 ++ q.2.2.1 ++ q.2.1 ++ q.2.2.2 = P ++ Y ++ X ++ S) (fun q => q.2.1.length + q.2.2.1.length) (P, X, Y, S) (by simp only; exact ⟨by omega, hx, hy, by omega, trivial⟩) (by rfl) (by decide) (by simp) (by simp) ?_
  rintro ⟨P', X', Y', S'⟩ ⟨h1, h2, h3, h4, h5⟩ ih
  simp only at h1 h2 h3 h4 h5 ih ⊢
  have hw3 : IntKind.i64.wrap ((m : Int) - X'.length) = ((P'.length : Nat) : Int) := by rw [wrap_small (n := (m : Int) - X'.length) (by omega) (by omega)]; omega
  by_cases heq : X'.length = Y'.length
  · have heq' : (X'.length : Int) = Y'.length := by omega
    have hsw := swapR_tri P' X' [] Y' S' heq (by simp only [List.length_append, List.length_nil]; omega) (a := P'.length) (b := m) (n := Y'.length) (L := L) rfl (by simp only [List.length_nil]; omega) heq.symm (by simp only [List.length_append, List.length_nil]; omega)
    simp only [List.append_nil] at hsw
    obtain ⟨Z, hZ⟩ : ∃ Z, Z = P' ++ X' ++ Y' ++ S' := ⟨_, rfl⟩
    rw [← hZ] at hsw ⊢
    rw [h5] at hsw
    rw [heq] at hw3
    (repeat (first | refine Run.adm rfl ?_ | refine Run.seq ?_ | (apply Run.opS rfl; (· (simp -implicitDefEqProofs [heq, heq', hw3]; exact ⟨rfl, rfl⟩))) | (apply Run.condS; (· (simp -implicitDefEqProofs [heq, heq', hw3]; exact rfl)))))
    refine Run.opC rfl rfl rfl hsw ?_
    rintro v h' ⟨rfl, rfl⟩
    (repeat (first | refine Run.adm rfl ?_ | refine Run.seq ?_ | (apply Run.opS rfl; (· (simp -implicitDefEqProofs; exact ⟨rfl, rfl⟩))) | (apply Run.condS; (· (simp -implicitDefEqProofs; exact rfl)))))
    refine Run.retI Try.func76 r76_ok trivial (by simp [r76]; rfl) (by simp) ?_ (by simp) (by simp)
    exact ⟨rfl, rfl⟩
  · have heq' : ¬ (X'.length : Int) = Y'.length := by omega
    by_cases hgt : Y'.length < X'.length
    · have hgt' : (Y'.length : Int) < X'.length := by omega
      obtain ⟨X1, X2, rfl, e1, e2⟩ := split_at X' Y'.length (by omega)
      have hsw := swapR_tri P' X1 X2 Y' S' e1 (by simp only [List.length_append] at *; omega) (a := P'.length) (b := m) (n := Y'.length) (L := L) rfl (by simp only [List.length_append] at *; omega) e1.symm (by simp only [List.length_append] at *; omega)
      have hw4 : IntKind.i64.wrap (((X1 ++ X2).length : Int) - Y'.length) = ((X2.length : Nat) : Int) := by rw [wrap_small (n := ((X1 ++ X2).length : Int) - Y'.length) (by omega) (by omega)]; omega
      have eZ : P' ++ (X1 ++ X2) ++ Y' ++ S' = P' ++ X1 ++ X2 ++ Y' ++ S' := by simp
      have eW : P' ++ Y' ++ X2 ++ X1 ++ S' = (P' ++ Y') ++ X2 ++ X1 ++ S' := by simp
      have ihq := ih (P' ++ Y', X2, X1, S') ⟨by simp only [List.length_append] at *; omega, by simp only at *; omega, by simp only at *; omega, by simp only [List.length_append] at *; omega, by rw [← h5]; simp⟩ (by simp only [List.length_append] at *; omega)
      simp only at ihq
      rw [eZ]
      generalize P' ++ X1 ++ X2 ++ Y' ++ S' = Z at *
      generalize P' ++ Y' ++ X2 ++ X1 ++ S' = W at *
      generalize (X1 ++ X2).length = xl at *
      (repeat (first | refine Run.adm rfl ?_ | refine Run.seq ?_ | (apply Run.opS rfl; (· (simp -implicitDefEqProofs [heq, heq', hgt, hgt', hw3]; exact ⟨rfl, rfl⟩))) | (apply Run.condS; (· (simp -implicitDefEqProofs [heq, heq', hgt, hgt', hw3]; exact rfl)))))
      refine Run.opC rfl rfl rfl hsw ?_
      rintro v h' ⟨rfl, rfl⟩
      (repeat (first | refine Run.adm rfl ?_ | refine Run.seq ?_ | (apply Run.opS rfl; (· (simp -implicitDefEqProofs; exact ⟨rfl, rfl⟩))) | (apply Run.condS; (· (simp -implicitDefEqProofs; exact rfl)))))
      refine Run.mv [0] _ _ (by rfl) (by decide) ?_ ?_ ihq
      · simp [hw4, e1]
      · simp
    · have hgt' : ¬ (Y'.length : Int) < X'.length := by omega
      obtain ⟨Y1, Y2, rfl, e1, e2⟩ := split_at Y' (Y'.length - X'.length) (by omega)
      have hsw := swapR_tri P' X' Y1 Y2 S' (by simp only [List.length_append] at *; omega) (by simp only [List.length_append] at *; omega) (a := P'.length) (b := m + Y1.length) (n := X'.length) (L := L) rfl (by omega) rfl (by simp only [List.length_append] at *; omega)
      have hw4 : IntKind.i64.wrap (((Y1 ++ Y2).length : Int) - X'.length) = ((Y1.length : Nat) : Int) := by rw [wrap_small (n := ((Y1 ++ Y2).length : Int) - X'.length) (by omega) (by omega)]; omega
      have hw5 : IntKind.i64.wrap ((m : Int) + (Y1 ++ Y2).length) = ((m + (Y1 ++ Y2).length : Nat) : Int) := by
        simp only [List.length_append] at *
        rw [wrap_small (by omega) (by omega)]; omega
      have hw6 : IntKind.i64.wrap (((m + (Y1 ++ Y2).length : Nat) : Int) - X'.length) = ((m + Y1.length : Nat) : Int) := by
        simp only [List.length_append] at *
        rw [wrap_small (by omega) (by omega)]; omega
      have eZ : P' ++ X' ++ (Y1 ++ Y2) ++ S' = P' ++ X' ++ Y1 ++ Y2 ++ S' := by simp
      have eW : P' ++ Y2 ++ Y1 ++ (X' ++ S') = P' ++ Y2 ++ Y1 ++ X' ++ S' := by simp
      have ihq := ih (P', Y2, Y1, X' ++ S') ⟨by simp only [List.length_append] at *; omega, by simp only [List.length_append] at *; omega, by simp only [List.length_append] at *; omega, by simp only [List.length_append] at *; omega, by rw [← h5]; simp⟩ (by simp only [List.length_append] at *; omega)
      simp only at ihq
      rw [eW] at ihq
      rw [eZ]
      have hy2 : Y2.length = X'.length := by simp only [List.length_append] at *; omega
      rw [hy2] at ihq
      generalize P' ++ X' ++ Y1 ++ Y2 ++ S' = Z at *
      generalize P' ++ Y2 ++ Y1 ++ X' ++ S' = W at *
      generalize (Y1 ++ Y2).length = yl at *
      obtain ⟨mb, hmb⟩ : ∃ mb, mb = m + yl := ⟨_, rfl⟩
      rw [← hmb] at hw5 hw6
      obtain ⟨mc, hmc⟩ : ∃ mc, mc = m + Y1.length := ⟨_, rfl⟩
      rw [← hmc] at hw6 hsw
      (repeat (first | refine Run.adm rfl ?_ | refine Run.seq ?_ | (apply Run.opS rfl; (· (simp -implicitDefEqProofs [heq, heq', hgt, hgt', hw3, hw5, hw6]; exact ⟨rfl, rfl⟩))) | (apply Run.condS; (· (simp -implicitDefEqProofs [heq, heq', hgt, hgt', hw3, hw5, hw6]; exact rfl)))))
      refine Run.opC rfl rfl rfl hsw ?_
      rintro v h' ⟨rfl, rfl⟩
      (repeat (first | refine Run.adm rfl ?_ | refine Run.seq ?_ | (apply Run.opS rfl; (· (simp -implicitDefEqProofs; exact ⟨rfl, rfl⟩))) | (apply Run.condS; (· (simp -implicitDefEqProofs; exact rfl)))))
      refine Run.mv [0] _ _ (by rfl) (by decide) ?_ ?_ ihq
      · simp [hw4]
      · simp

end Go.Proofs.Ytpipgcmiaccdkaa
