/-
  Layer 06, part L: going over a log's files.
-/
import Derived.Test.YthphkcpbglhabaaGreatDoorWalK
namespace Go.Proofs.YthphkcpbglhabaaGreatDoor
open Sx Go
set_option maxRecDepth 100000
set_option linter.unusedSimpArgs false
set_option linter.unusedVariables false
set_option linter.unnecessarySimpa false
attribute [local simp] stepV condR boundsC appendG appendO copyV srcC guardB isCall opStep Opd.ev put readAt aBin aUn args0 V.celled V.ones V.one V.cells putAt bounds bound1 elemsOf srcOf appendV fillAt fillEl V.pures V.pure unwind evs ARes.ev mkRes V.ren V.renL O.ren eqCells eq1 aEq aMM hasTy hasTyN okTy mmGo Known HLe OLe VsLe.refl VLe.refl VLe.cap Stay VsLe V.frz V.frzL O.frz fr clearV rn KnownR Objs OLeO ObjsE nm back setAll ren_ite take_map_len List.take_of_length_le
attribute [local simp ↓] upd_app tl_cons tl_nil
attribute [local simp] encS_ren encS_ones encS_len encS_take KnownS VLe.refl

theorem each_own {Y0 : List O} {d : Nat} (ns : List Nat) (hn : ∀ i ∈ ns, i < 100) (hl : ns.length ≤ 1000) (f : FuncId) (caps : List V) (I : Nat → List O → Prop) (Q : Int → List O → Prop)
    (hnm : Tri Tryz.prog 45 [.ptr d 0] Y0 (fun v Z => v = .vs ((ns.map logN).map encS) 1 ∧ I 0 Z))
    (hstep : ∀ i n, ns[i]? = some n → ∀ Z, I i Z → Tri Tryz.prog f ([.int .i64 n] ++ caps) Z (fun v W => (v = .int .i64 0 ∧ I (i + 1) W) ∨ ∃ e, e ≠ 0 ∧ v = .int .i64 e ∧ Q e W)) :
    Tri Tryz.prog 69 [.ptr d 0, .fn f caps] Y0 (fun v W => (v = .int .i64 0 ∧ I ns.length W) ∨ ∃ e, e ≠ 0 ∧ v = .int .i64 e ∧ Q e W) := by
  refine Tri.of_run' Tryz.func69 rfl c69_ok (by simp [Tryz.ntmps69]) ?_
  (repeat (first | refine Run.adm rfl ?_ | refine Run.seq ?_ | ((first | apply Run.opS rfl | apply Run.condS); (· (simp -implicitDefEqProofs; first | exact ⟨rfl, rfl⟩ | exact rfl)))))
  refine Run.opC rfl rfl rfl hnm ?_
  rintro v Y ⟨rfl, hY⟩
  have hlen : ((ns.map logN).map encS).length = ns.length := by simp
  (repeat (first | refine Run.adm rfl ?_ | refine Run.seq ?_ | ((first | apply Run.opS rfl | apply Run.condS); (· (simp -implicitDefEqProofs [hlen]; first | exact ⟨rfl, rfl⟩ | exact rfl)))))
  refine Run.sl [(1, .fn f caps), (11, .vs ((ns.map logN).map encS) 1), (12, .int .i64 ns.length), (13, .int .i64 (0 : Nat))] (by simp) ?_
  refine Run.loopS (fun (x : Nat × List O) => ([(1, .fn f caps), (11, .vs ((ns.map logN).map encS) 1), (12, .int .i64 ns.length), (13, .int .i64 x.1)], x.2))
    (fun x => x.1 ≤ ns.length ∧ I x.1 x.2) (fun x => ns.length - x.1) ?_ (0, Y) ⟨Nat.zero_le _, hY⟩
  rintro ⟨i, Z⟩ ⟨hi, hZ⟩ ih
  simp only at hi hZ ih ⊢
  by_cases hlt : i < ns.length
  · obtain ⟨n, hx, hxi, -, hmem⟩ := getL hlt
    have hn100 := hn n hmem
    have hlt' : (i : Int) < ns.length := by omega
    have hw := wrap_small (n := (i : Int) + 1) (by omega) (by omega)
    (repeat (first | refine Run.adm rfl ?_ | refine Run.seq ?_ | ((first | apply Run.opS rfl | apply Run.condS); (· (simp -implicitDefEqProofs [hlt, hlt', hx, hxi, encS]; first | exact ⟨rfl, rfl⟩ | exact rfl)))))
    refine Run.opC rfl rfl rfl (number_at n hn100 _) ?_
    rintro v H ⟨rfl, rfl⟩
    (repeat (first | refine Run.adm rfl ?_ | refine Run.seq ?_ | ((first | apply Run.opS rfl | apply Run.condS); (· (simp -implicitDefEqProofs; first | exact ⟨rfl, rfl⟩ | exact rfl)))))
    refine Run.opC rfl rfl rfl (hstep i n hx _ hZ) ?_
    rintro v W (⟨rfl, hW⟩ | ⟨e, he, rfl, hW⟩)
    · (repeat (first | refine Run.adm rfl ?_ | refine Run.seq ?_ | ((first | apply Run.opS rfl | apply Run.condS); (· (simp -implicitDefEqProofs; first | exact ⟨rfl, rfl⟩ | exact rfl)))))
      refine Run.sl _ ?_ (ih (i + 1, W) ⟨by simp only; omega, hW⟩ (by simp only; omega))
      simp [hw]
    · (repeat (first | refine Run.adm rfl ?_ | refine Run.seq ?_ | ((first | apply Run.opS rfl | apply Run.condS); (· (simp -implicitDefEqProofs [he]; first | exact ⟨rfl, rfl⟩ | exact rfl)))))
      refine Run.retS Tryz.func69 r69_ok trivial (by simp [r69]; rfl) ?_
      exact .inr ⟨e, he, by simp, hW⟩
  · have : i = ns.length := by omega
    subst this
    (repeat (first | refine Run.adm rfl ?_ | refine Run.seq ?_ | ((first | apply Run.opS rfl | apply Run.condS); (· (simp -implicitDefEqProofs; first | exact ⟨rfl, rfl⟩ | exact rfl)))))
    refine Run.retS Tryz.func69 r69_ok trivial (by simp [r69]; rfl) ?_
    exact .inl ⟨by simp, hZ⟩

end Go.Proofs.YthphkcpbglhabaaGreatDoor
