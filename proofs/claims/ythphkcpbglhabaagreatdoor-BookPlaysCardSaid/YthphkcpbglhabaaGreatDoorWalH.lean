/-
  Layer 06, part H: Roll.
-/
import Derived.Test.YthphkcpbglhabaaGreatDoorWalG
namespace Go.Proofs.YthphkcpbglhabaaGreatDoor
open Sx Go
set_option maxRecDepth 100000
set_option linter.unusedSimpArgs false
set_option linter.unusedVariables false
set_option linter.unnecessarySimpa false
attribute [local simp] stepV condR boundsC appendG appendO copyV srcC guardB isCall opStep Opd.ev put readAt aBin aUn args0 V.celled V.ones V.one V.cells putAt bounds bound1 elemsOf srcOf appendV fillAt fillEl V.pures V.pure unwind evs ARes.ev mkRes V.ren V.renL O.ren eqCells eq1 aEq aMM hasTy hasTyN okTy mmGo Known HLe OLe VsLe.refl VLe.refl VLe.cap Stay VsLe V.frz V.frzL O.frz fr clearV rn KnownR Objs OLeO ObjsE nm back setAll ren_ite take_map_len List.take_of_length_le
attribute [local simp ↓] upd_app tl_cons tl_nil
attribute [local simp] encS_ren encS_ones encS_len encS_take KnownS VLe.refl

/-- what Roll comes to -/
def RollR (X : List O) (L : List Nat) (d : Nat) (D : Dk) (Y : List O) (lg : Nat) (s : V) (n : Nat) (v : V) (Z : List O) : Prop :=
  ((syncD D (logN n)).1 = 0 ∧ (makeD (syncD D (logN n)).2 (logN (n + 1))).1 = 0 ∧ v = .tup [.int .i64 ((n + 1 : Nat) : Int), .int .i64 0] ∧ Own X L d (makeD (syncD D (logN n)).2 (logN (n + 1))).2 Z ∧ Z[lg]? = some (.row [.ptr d 0, s, .int .i64 ((n + 1 : Nat) : Int)]) ∧ ∀ i ∈ L, i ≠ lg → Z[i]? = Y[i]?) ∨
  ((syncD D (logN n)).1 = 0 ∧ (makeD (syncD D (logN n)).2 (logN (n + 1))).1 ≠ 0 ∧ v = .tup [.int .i64 0, .int .i64 (makeD (syncD D (logN n)).2 (logN (n + 1))).1] ∧ Own X L d (makeD (syncD D (logN n)).2 (logN (n + 1))).2 Z ∧ StayL L Y Z) ∨
  ((syncD D (logN n)).1 ≠ 0 ∧ v = .tup [.int .i64 0, .int .i64 (syncD D (logN n)).1] ∧ Own X L d (syncD D (logN n)).2 Z ∧ StayL L Y Z)

theorem roll_own {X : List O} {L : List Nat} {d : Nat} {D : Dk} {Y : List O} (ho : Own X L d D Y) {lg : Nat} (hlg : lg ∈ L) {s : V} {n : Nat} (hn : n + 1 < 100) (h : Y[lg]? = some (.row [.ptr d 0, s, .int .i64 n])) :
    Tri Tryz.prog 43 [.ptr lg 0] Y (fun v Z => RollR X L d D Y lg s n v Z) := by
  unfold RollR
  obtain ⟨m, hm⟩ : ∃ m, m = n + 1 := ⟨_, rfl⟩
  rw [← hm]
  refine Tri.of_run' Tryz.func43 rfl c43_ok (by simp [Tryz.ntmps43]) ?_
  (repeat (first | refine Run.adm rfl ?_ | refine Run.seq ?_ | ((first | apply Run.opS rfl | apply Run.condS); (· (simp -implicitDefEqProofs; first | exact ⟨rfl, rfl⟩ | exact rfl)))))
  refine Run.opC rfl rfl rfl (flush_own ho (by omega) h) ?_
  rintro v Z ⟨rfl, hZ, hst⟩
  have h1 := (hst lg hlg).trans h
  by_cases e1 : (syncD D (logN n)).1 = 0
  rotate_left
  · (repeat (first | refine Run.adm rfl ?_ | refine Run.seq ?_ | ((first | apply Run.opS rfl | apply Run.condS); (· (simp -implicitDefEqProofs [e1]; first | exact ⟨rfl, rfl⟩ | exact rfl)))))
    refine Run.retS Tryz.func43 r43_ok trivial (by simp [r43]; rfl) ?_
    exact .inr (.inr ⟨e1, by simp, hZ, hst⟩)
  have hbig : ¬ (99999998 : Int) ≤ (n : Int) := by omega
  have hbig' : ¬ 99999998 ≤ n := by omega
  have hw := wrap_small (n := (n : Int) + 1) (by omega) (by omega)
  have hc : (n : Int) + 1 = (m : Int) := by omega
  have hw2 := wrap_small (n := (m : Int)) (by omega) (by omega)
  (repeat (first | refine Run.adm rfl ?_ | refine Run.seq ?_ | ((first | apply Run.opS rfl | apply Run.condS); (· (simp -implicitDefEqProofs [e1, h1, hbig, hbig']; first | exact ⟨rfl, rfl⟩ | exact rfl)))))
  refine Run.qchain prog_mixed 10 (by kernel_rfl) ?_
  (repeat (first | refine execQ_E rfl ?_ | (apply execQ_S rfl; (· (simp -implicitDefEqProofs [h1, hc, hw2]; exact ⟨rfl, rfl⟩)))))
  refine execQ_C rfl rfl rfl (lname_at m (by omega) _) ?_
  (repeat (first | refine execQ_E rfl ?_ | (apply execQ_S rfl; (· (simp -implicitDefEqProofs; exact ⟨rfl, rfl⟩)))))
  refine SeqR.C rfl rfl rfl (make_own hZ (logN m)) ?_
  rintro v W ⟨rfl, hW, hst2⟩
  have h2 := (hst2 lg hlg).trans h1
  (repeat (first | refine SeqR.E rfl ?_ | (apply SeqR.o0 rfl; (· (simp -implicitDefEqProofs; exact ⟨rfl, rfl⟩))) | (apply SeqR.A rfl; (· (simp -implicitDefEqProofs; done)); (· (simp -implicitDefEqProofs; exact ⟨rfl, rfl⟩))) | (apply SeqR.N rfl; (· (simp -implicitDefEqProofs; done)))))
  by_cases e2 : (makeD (syncD D (logN n)).2 (logN m)).1 = 0
  rotate_left
  · (repeat (first | refine Run.adm rfl ?_ | refine Run.seq ?_ | ((first | apply Run.opS rfl | apply Run.condS); (· (simp -implicitDefEqProofs [e2]; first | exact ⟨rfl, rfl⟩ | exact rfl)))))
    refine Run.retS Tryz.func43 r43_ok trivial (by simp [r43]; rfl) ?_
    exact .inr (.inl ⟨e1, e2, by simp, hW, fun i hi => (hst2 i hi).trans (hst i hi)⟩)
  (repeat (first | refine Run.adm rfl ?_ | refine Run.seq ?_ | ((first | apply Run.opS rfl | apply Run.condS); (· (simp -implicitDefEqProofs [e2, h2, hc, hw2, setG h2]; first | exact ⟨rfl, rfl⟩ | exact rfl)))))
  refine Run.retS Tryz.func43 r43_ok trivial (by simp [r43]; rfl) ?_
  refine .inl ⟨e1, e2, by simp, hW.put hlg _, setG h2 _, fun i hi hne => ?_⟩
  rw [setN (Ne.symm hne)]
  exact (hst2 i hi).trans (hst i hi)

theorem made_own {X : List O} {L : List Nat} {d : Nat} {D : Dk} {Y : List O} (ho : Own X L d D Y) : Tri Tryz.prog 68 [.ptr d 0] Y (fun v Z => v = .bool true ∧ Own X L d D Z ∧ StayL L Y Z) := by
  refine Tri.of_run' Tryz.func68 rfl c68_ok (by simp [Tryz.ntmps68]) ?_
  (repeat (first | refine Run.adm rfl ?_ | refine Run.seq ?_ | ((first | apply Run.opS rfl | apply Run.condS); (· (simp -implicitDefEqProofs; first | exact ⟨rfl, rfl⟩ | exact rfl)))))
  refine Run.opC rfl rfl rfl (sure_own ho [97]) ?_
  rintro v Z ⟨rfl, hZ, hst⟩
  have hne : ¬ (sureD D [97]).2 = 1 := by
    unfold sureD lookE
    rw [if_pos may_a]
    by_cases h1 : D.off = true
    · simp [h1]
    · cases h2 : fileOf D.files [97] <;> simp [h1]
  generalize sureD D [97] = r at *
  (repeat (first | refine Run.adm rfl ?_ | refine Run.seq ?_ | ((first | apply Run.opS rfl | apply Run.condS); (· (simp -implicitDefEqProofs [hne]; first | exact ⟨rfl, rfl⟩ | exact rfl)))))
  refine Run.retS Tryz.func68 r68_ok trivial (by simp [r68]; rfl) ?_
  exact ⟨by simp [hne], hZ, hst⟩

end Go.Proofs.YthphkcpbglhabaaGreatDoor
