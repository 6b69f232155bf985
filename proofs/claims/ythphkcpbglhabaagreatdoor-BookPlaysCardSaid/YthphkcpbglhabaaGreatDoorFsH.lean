/-
  Layer 05, part H: Names.
-/
import Derived.Test.YthphkcpbglhabaaGreatDoorFsG
namespace Go.Proofs.YthphkcpbglhabaaGreatDoor
open Sx Go
set_option maxRecDepth 100000
set_option linter.unusedSimpArgs false
set_option linter.unusedVariables false
set_option linter.unnecessarySimpa false
attribute [local simp] stepV condR boundsC appendG appendO copyV srcC guardB isCall opStep Opd.ev put readAt aBin aUn args0 V.celled V.ones V.one V.cells putAt bounds bound1 elemsOf srcOf appendV fillAt fillEl V.pures V.pure unwind evs ARes.ev mkRes V.ren V.renL O.ren eqCells eq1 aEq aMM hasTy hasTyN okTy mmGo Known HLe OLe VsLe.refl VLe.refl VLe.cap Stay VsLe V.frz V.frzL O.frz fr clearV rn KnownR Objs OLeO ObjsE nm back setAll ren_ite take_map_len List.take_of_length_le
attribute [local simp ↓] upd_app tl_cons tl_nil
attribute [local simp] encS_ren encS_ones encS_len encS_take KnownS VLe.refl

def NmOk (D : Dk) : Prop := ∀ f ∈ D.files, f.name.length ≤ 32
def namesD (D : Dk) : List Bs := sortN (D.files.map (·.name))

theorem names_tri (X : List O) {d : Nat} {D : Dk} {F : List Nat} (hD : IsD X d D F) (hn : NmOk D) : Tri Tryz.prog 45 [.ptr d 0] X (fun v Y => v = .vs ((namesD D).map encS) 1 ∧ Kept X Y []) := by
  obtain ⟨m, l, hat, hfs, rfl⟩ := hD
  refine Tri.of_run' Tryz.func45 rfl c45_ok (by simp [Tryz.ntmps45]) ?_
  (repeat (first | refine Run.adm rfl ?_ | refine Run.seq ?_ | ((first | apply Run.opS rfl | apply Run.condS); (· (simp -implicitDefEqProofs; first | exact ⟨rfl, rfl⟩ | exact rfl)))))
  refine Run.opC rfl rfl rfl (may0_tri X hat.row) ?_
  rintro v Y ⟨rfl, hY⟩
  rw [hY]
  clear hY
  (repeat (first | refine Run.adm rfl ?_ | refine Run.seq ?_ | ((first | apply Run.opS rfl | apply Run.condS); (· (simp -implicitDefEqProofs [hat.row]; first | exact ⟨rfl, rfl⟩ | exact rfl)))))
  refine Run.opC rfl rfl rfl (keys_tri X hat.map) ?_
  rintro v Y ⟨rfl, hY⟩
  have hkY : Kept X Y [] := by rw [hY]; exact ((Kept.refl X []).app _).app _
  have hk : Y[X.length]? = some (.row [.mp m]) := by rw [hY]; simp
  have ht : Y[X.length + 1]? = some (.ty X.length 86 none) := by rw [hY]; simp
  clear hY
  have hmY := hkY.get hat.map (by simp)
  have hln : ∀ q ∈ l, q.f.name.length ≤ 32 := fun q hq => hn q.f (by rw [← hfs]; exact List.mem_map_of_mem hq)
  (repeat (first | refine Run.adm rfl ?_ | refine Run.seq ?_ | ((first | apply Run.opS rfl | apply Run.condS); (· (simp -implicitDefEqProofs; first | exact ⟨rfl, rfl⟩ | exact rfl)))))
  refine Run.opC rfl rfl rfl (sorted_tri Y hk ht hmY hln hat.len) ?_
  rintro v Z ⟨rfl, hZ⟩
  have hnm : l.map (·.f.name) = D.files.map (·.name) := by rw [← hfs, List.map_map]; rfl
  have hkZ : Kept X Z [] := by rw [hZ]; exact hkY.app _
  have hlst : Z[Y.length]? = some (.arr ((namesD D).map encS) 1) := by rw [hZ, hnm]; simp [namesD]
  have hll : (namesD D).length = l.length := by simp [namesD, sortN, ← hfs]
  clear hZ
  (repeat (first | refine Run.adm rfl ?_ | refine Run.seq ?_ | ((first | apply Run.opS rfl | apply Run.condS); (· (simp -implicitDefEqProofs; first | exact ⟨rfl, rfl⟩ | exact rfl)))))
  refine Run.frzS Y.length hlst ?_
  have htk : ((namesD D).map encS).take l.length = (namesD D).map encS := List.take_of_length_le (by simp [hll])
  refine run_to [(2, .vs ((namesD D).map encS) 1)] (fun Y => Kept X Y []) (by simp [htk, hll]) (hkZ.set _ _ (.inr hkY.1)) ?_
  intro W hW
  (repeat (first | refine Run.adm rfl ?_ | refine Run.seq ?_ | ((first | apply Run.opS rfl | apply Run.condS); (· (simp -implicitDefEqProofs; first | exact ⟨rfl, rfl⟩ | exact rfl)))))
  refine Run.retS Tryz.func45 r45_ok trivial (by simp [r45]; rfl) ?_
  exact ⟨by simp, hW⟩

end Go.Proofs.YthphkcpbglhabaaGreatDoor
