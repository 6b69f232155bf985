/-
  Layer 06, part I: All.
-/
import Derived.Test.YthphkcpbglhabaaGreatDoorWalH
namespace Go.Proofs.YthphkcpbglhabaaGreatDoor
open Sx Go
set_option maxRecDepth 100000
set_option linter.unusedSimpArgs false
set_option linter.unusedVariables false
set_option linter.unnecessarySimpa false
attribute [local simp] stepV condR boundsC appendG appendO copyV srcC guardB isCall opStep Opd.ev put readAt aBin aUn args0 V.celled V.ones V.one V.cells putAt bounds bound1 elemsOf srcOf appendV fillAt fillEl V.pures V.pure unwind evs ARes.ev mkRes V.ren V.renL O.ren eqCells eq1 aEq aMM hasTy hasTyN okTy mmGo Known HLe OLe VsLe.refl VLe.refl VLe.cap Stay VsLe V.frz V.frzL O.frz fr clearV rn KnownR Objs OLeO ObjsE nm back setAll ren_ite take_map_len List.take_of_length_le
attribute [local simp ↓] upd_app tl_cons tl_nil
attribute [local simp] encS_ren encS_ones encS_len encS_take KnownS VLe.refl

def encT (x : Bs × Nat) : List V := [.str x.1, .int .i64 x.2]
theorem all_log (X : List O) {lg d a n : Nat} {ts : List (Bs × Nat)} (h1 : X[lg]? = some (.row [.ptr d 0, .sl a 0 ts.length 2 none, .int .i64 n])) (h2 : X[a]? = some (.arr (ts.map encT) 2)) (hl : ts.length ≤ 1000000000) :
    Tri Tryz.prog 35 [.ptr lg 0] X (fun v Z => v = .vs ((ts.map (·.1)).map encS) 1 ∧ Kept X Z []) := by
  refine Tri.of_run' Tryz.func35 rfl c35_ok (by simp [Tryz.ntmps35]) ?_
  (repeat (first | refine Run.adm rfl ?_ | refine Run.seq ?_ | ((first | apply Run.opS rfl | apply Run.condS); (· (simp -implicitDefEqProofs; first | exact ⟨rfl, rfl⟩ | exact rfl)))))
  refine Run.opC rfl rfl rfl (given_tri X h1) ?_
  rintro v H ⟨rfl, rfl⟩
  (repeat (first | refine Run.adm rfl ?_ | refine Run.seq ?_ | ((first | apply Run.opS rfl | apply Run.condS); (· (simp -implicitDefEqProofs [h1]; first | exact ⟨rfl, rfl⟩ | exact rfl)))))
  refine Run.nilA 3 1 (by simp) ?_
  refine Run.sl [(3, .sl H.length 0 0 1 none), (12, .sl a 0 ts.length 2 none), (13, .int .i64 ts.length), (14, .int .i64 (0 : Nat))] (by simp) ?_
  refine Run.loopS (fun (x : Nat × Nat × List O) => ([(3, .sl x.2.1 0 x.1 1 none), (12, .sl a 0 ts.length 2 none), (13, .int .i64 ts.length), (14, .int .i64 x.1)], x.2.2))
    (fun x => x.1 ≤ ts.length ∧ Kept H x.2.2 [] ∧ H.length ≤ x.2.1 ∧ x.2.2[x.2.1]? = some (.arr (((ts.take x.1).map (·.1)).map encS) 1)) (fun x => ts.length - x.1) ?_ (0, H.length, H ++ [.arr [] 1]) ⟨Nat.zero_le _, (Kept.refl H []).app _, Nat.le_refl _, by simp⟩
  rintro ⟨i, o, Z⟩ ⟨hi, hk, hol, ho⟩ ih
  simp only at hi hk hol ho ih ⊢
  have hal := lt_of_get h2
  have ha := hk.get h2 (by simp)
  have hlen : (((ts.take i).map (·.1)).map encS).length = i := by simp; omega
  by_cases hlt : i < ts.length
  · obtain ⟨x, hx, hxi, -, -⟩ := getL hlt
    have hlt' : (i : Int) < ts.length := by omega
    have hw := wrap_small (n := (i : Int) + 1) (by omega) (by omega)
    have hsum : (i + 1) * 16 ≤ 70368744177664 := by omega
    have hnx : ((ts.take (i + 1)).map (·.1)).map encS = ((ts.take i).map (·.1)).map encS ++ [encS x.1] := by rw [List.take_add_one, hx]; simp
    generalize ((ts.take i).map (·.1)).map encS = es at *
    have hoZ := lt_of_get ho
    (repeat (first | refine Run.adm rfl ?_ | refine Run.seq ?_ | ((first | apply Run.opS rfl | apply Run.condS); (· (simp -implicitDefEqProofs [hlt, hlt', ha, hx, hxi, encT, encS, getA ho, hlen, hsum]; first | exact ⟨rfl, rfl⟩ | exact rfl)))))
    have hg : ∀ L o', ((Z ++ L).set o .gone ++ [o'])[Z.length + L.length]? = some o' := fun L o' => by
      rw [List.getElem?_append_right (by simp)]; simp
    refine Run.sl _ ?_ (ih (i + 1, Z.length + 2, (Z ++ [O.row [V.str x.1, V.int .i64 x.2], O.arr [[V.str x.1]] 1]).set o O.gone ++ [O.arr (es ++ [[V.str x.1]]) 1]) ⟨by simp only; omega, ((hk.app _).set _ _ (.inr hol)).app _, by simp only; have := hk.1; omega, ?_⟩ (by simp only; omega))
    · simp [hw]
    · simp only
      rw [hnx]
      exact hg [O.row [V.str x.1, V.int .i64 x.2], O.arr [[V.str x.1]] 1] _
  · have : i = ts.length := by omega
    subst this
    rw [List.take_length] at ho hlen
    (repeat (first | refine Run.adm rfl ?_ | refine Run.seq ?_ | ((first | apply Run.opS rfl | apply Run.condS); (· (simp -implicitDefEqProofs; first | exact ⟨rfl, rfl⟩ | exact rfl)))))
    have htk : (((ts.map (·.1)).map encS)).take ts.length = (ts.map (·.1)).map encS := List.take_of_length_le (by simp)
    refine Run.frzS o ho ?_
    refine run_to [(2, .vs ((ts.map (·.1)).map encS) 1)] (fun Y => Kept H Y []) (by simp [htk]) (hk.set _ _ (.inr hol)) ?_
    intro W hW
    refine Run.retS Tryz.func35 r35_ok trivial (by simp [r35]; rfl) ?_
    exact ⟨by simp, hW⟩

end Go.Proofs.YthphkcpbglhabaaGreatDoor
