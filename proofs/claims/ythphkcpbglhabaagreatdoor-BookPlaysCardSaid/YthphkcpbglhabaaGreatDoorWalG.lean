/-
  Layer 06, part G: a log in the heap: given, Last, Flush.
-/
import Derived.Test.YthphkcpbglhabaaGreatDoorWalF
namespace Go.Proofs.YthphkcpbglhabaaGreatDoor
open Sx Go
set_option maxRecDepth 100000
set_option linter.unusedSimpArgs false
set_option linter.unusedVariables false
set_option linter.unnecessarySimpa false
attribute [local simp] stepV condR boundsC appendG appendO copyV srcC guardB isCall opStep Opd.ev put readAt aBin aUn args0 V.celled V.ones V.one V.cells putAt bounds bound1 elemsOf srcOf appendV fillAt fillEl V.pures V.pure unwind evs ARes.ev mkRes V.ren V.renL O.ren eqCells eq1 aEq aMM hasTy hasTyN okTy mmGo Known HLe OLe VsLe.refl VLe.refl VLe.cap Stay VsLe V.frz V.frzL O.frz fr clearV rn KnownR Objs OLeO ObjsE nm back setAll ren_ite take_map_len List.take_of_length_le
attribute [local simp ↓] upd_app tl_cons tl_nil
attribute [local simp] encS_ren encS_ones encS_len encS_take KnownS VLe.refl

theorem given_tri (X : List O) {lg d : Nat} {s : V} {n : Int} (h : X[lg]? = some (.row [.ptr d 0, s, .int .i64 n])) : Tri Tryz.prog 76 [.ptr lg 0] X (fun v H => v = .bool true ∧ H = X) := by
  refine Tri.of_run' Tryz.func76 rfl c76_ok (by simp [Tryz.ntmps76]) ?_
  (repeat (first | refine Run.adm rfl ?_ | refine Run.seq ?_ | ((first | apply Run.opS rfl | apply Run.condS); (· (simp -implicitDefEqProofs [h]; first | exact ⟨rfl, rfl⟩ | exact rfl)))))
  refine Run.retS Tryz.func76 r76_ok trivial (by simp [r76]; rfl) ?_
  exact ⟨by simp, rfl⟩
theorem last_tri (X : List O) {lg d : Nat} {s : V} {n : Int} (h : X[lg]? = some (.row [.ptr d 0, s, .int .i64 n])) : Tri Tryz.prog 39 [.ptr lg 0] X (fun v H => v = .int .i64 n ∧ H = X) := by
  refine Tri.of_run' Tryz.func39 rfl c39_ok (by simp [Tryz.ntmps39]) ?_
  (repeat (first | refine Run.adm rfl ?_ | refine Run.seq ?_ | ((first | apply Run.opS rfl | apply Run.condS); (· (simp -implicitDefEqProofs; first | exact ⟨rfl, rfl⟩ | exact rfl)))))
  refine Run.opC rfl rfl rfl (given_tri X h) ?_
  rintro v H ⟨rfl, rfl⟩
  (repeat (first | refine Run.adm rfl ?_ | refine Run.seq ?_ | ((first | apply Run.opS rfl | apply Run.condS); (· (simp -implicitDefEqProofs [h]; first | exact ⟨rfl, rfl⟩ | exact rfl)))))
  refine Run.retS Tryz.func39 r39_ok trivial (by simp [r39]; rfl) ?_
  exact ⟨by simp, rfl⟩
theorem flush_own {X : List O} {L : List Nat} {d : Nat} {D : Dk} {Y : List O} (ho : Own X L d D Y) {lg : Nat} {s : V} {n : Nat} (hn : n < 100) (h : Y[lg]? = some (.row [.ptr d 0, s, .int .i64 n])) :
    Tri Tryz.prog 81 [.ptr lg 0] Y (fun v Z => v = .int .i64 (syncD D (logN n)).1 ∧ Own X L d (syncD D (logN n)).2 Z ∧ StayL L Y Z) := by
  refine Tri.of_run' Tryz.func81 rfl c81_ok (by simp [Tryz.ntmps81]) ?_
  (repeat (first | refine Run.adm rfl ?_ | refine Run.seq ?_ | ((first | apply Run.opS rfl | apply Run.condS); (· (simp -implicitDefEqProofs; first | exact ⟨rfl, rfl⟩ | exact rfl)))))
  refine Run.opC rfl rfl rfl (given_tri Y h) ?_
  rintro v H ⟨rfl, rfl⟩
  (repeat (first | refine Run.adm rfl ?_ | refine Run.seq ?_ | ((first | apply Run.opS rfl | apply Run.condS); (· (simp -implicitDefEqProofs; first | exact ⟨rfl, rfl⟩ | exact rfl)))))
  refine Run.qchain prog_mixed 9 (by kernel_rfl) ?_
  (repeat (first | refine execQ_E rfl ?_ | (apply execQ_S rfl; (· (simp -implicitDefEqProofs [h]; exact ⟨rfl, rfl⟩)))))
  refine execQ_C rfl rfl rfl (lname_at n hn _) ?_
  (repeat (first | refine execQ_E rfl ?_ | (apply execQ_S rfl; (· (simp -implicitDefEqProofs; exact ⟨rfl, rfl⟩)))))
  refine SeqR.C rfl rfl rfl (sync_own ho (logN n)) ?_
  rintro v Z ⟨rfl, hZ, hst⟩
  (repeat (first | refine SeqR.E rfl ?_ | (apply SeqR.o0 rfl; (· (simp -implicitDefEqProofs; exact ⟨rfl, rfl⟩))) | (apply SeqR.A rfl; (· (simp -implicitDefEqProofs; done)); (· (simp -implicitDefEqProofs; exact ⟨rfl, rfl⟩))) | (apply SeqR.N rfl; (· (simp -implicitDefEqProofs; done)))))
  (repeat (first | refine Run.adm rfl ?_ | refine Run.seq ?_ | ((first | apply Run.opS rfl | apply Run.condS); (· (simp -implicitDefEqProofs; first | exact ⟨rfl, rfl⟩ | exact rfl)))))
  refine Run.retS Tryz.func81 r81_ok trivial (by simp [r81]; rfl) ?_
  exact ⟨by simp, hZ, hst⟩

end Go.Proofs.YthphkcpbglhabaaGreatDoor
