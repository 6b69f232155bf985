/-
  Layer 06, part M: what Open does with each file.
-/
import Derived.Test.YthphkcpbglhabaaGreatDoorWalL
namespace Go.Proofs.YthphkcpbglhabaaGreatDoor
open Sx Go
set_option maxRecDepth 100000
set_option linter.unusedSimpArgs false
set_option linter.unusedVariables false
set_option linter.unnecessarySimpa false
attribute [local simp] stepV condR boundsC appendG appendO copyV srcC guardB isCall opStep Opd.ev put readAt aBin aUn args0 V.celled V.ones V.one V.cells putAt bounds bound1 elemsOf srcOf appendV fillAt fillEl V.pures V.pure unwind evs ARes.ev mkRes V.ren V.renL O.ren eqCells eq1 aEq aMM hasTy hasTyN okTy mmGo Known HLe OLe VsLe.refl VLe.refl VLe.cap Stay VsLe V.frz V.frzL O.frz fr clearV rn KnownR Objs OLeO ObjsE nm back setAll ren_ite take_map_len List.take_of_length_le
attribute [local simp ↓] upd_app tl_cons tl_nil
attribute [local simp] encS_ren encS_ones encS_len encS_take KnownS VLe.refl

section open1
variable {X : List O} {L : List Nat} {d lg fb db lv last frm : Nat} {A B : List LF} {f : LF} {Y : List O} {ts : List (Bs × Nat)}

theorem open1_rm (h : WalOwn X L d (LD (A ++ f :: B) (-1) false) lg ts last Y) (hR : Ris (A ++ f :: B)) (h1 : Y[fb]? = some (.row [.int .i64 frm])) (h2 : Y[db]? = some (.row [.ptr d 0])) (hlt : f.num < frm) :
    Tri Tryz.prog 70 [.int .i64 f.num, .ptr fb 0, .ptr db 0, .ptr lv 0] Y (fun v Z => v = .int .i64 0 ∧ WalOwn X L d (LD (A ++ B) (-1) false) lg ts last Z ∧ StayL L Y Z) := by
  obtain ⟨a, ho, na, naL, nlL, hlog⟩ := h
  have hn := hR.mid.2.2.1
  have hlt' : (f.num : Int) < frm := by omega
  have hrm := remove_own ho (logN f.num)
  rw [remove_LD hR, if_neg (by simp)] at hrm
  refine Tri.of_run' Tryz.func70 rfl c70_ok (by simp [Tryz.ntmps70]) ?_
  (repeat (first | refine Run.adm rfl ?_ | refine Run.seq ?_ | ((first | apply Run.opS rfl | apply Run.condS); (· (simp -implicitDefEqProofs [h1, hlt, hlt']; first | exact ⟨rfl, rfl⟩ | exact rfl)))))
  refine Run.qchain prog_mixed 3 (by kernel_rfl) ?_
  (repeat (first | refine execQ_E rfl ?_ | (apply execQ_S rfl; (· (simp -implicitDefEqProofs [h2]; exact ⟨rfl, rfl⟩)))))
  refine execQ_C rfl rfl rfl (lname_at f.num hn _) ?_
  (repeat (first | refine execQ_E rfl ?_ | (apply execQ_S rfl; (· (simp -implicitDefEqProofs; exact ⟨rfl, rfl⟩)))))
  refine SeqR.C rfl rfl rfl hrm ?_
  rintro v Z ⟨rfl, hZ, hst⟩
  (repeat (first | refine SeqR.E rfl ?_ | (apply SeqR.o0 rfl; (· (simp -implicitDefEqProofs; exact ⟨rfl, rfl⟩))) | (apply SeqR.A rfl; (· (simp -implicitDefEqProofs; done)); (· (simp -implicitDefEqProofs; exact ⟨rfl, rfl⟩))) | (apply SeqR.N rfl; (· (simp -implicitDefEqProofs; done)))))
  (repeat (first | refine Run.adm rfl ?_ | refine Run.seq ?_ | ((first | apply Run.opS rfl | apply Run.condS); (· (simp -implicitDefEqProofs; first | exact ⟨rfl, rfl⟩ | exact rfl)))))
  refine Run.retS Tryz.func70 r70_ok trivial (by simp [r70]; rfl) ?_
  exact ⟨by simp, ⟨a, hZ, na, naL, nlL, hlog.stay hst⟩, hst.tl.tl⟩

theorem open1_rd (h : WalOwn X L d (LD (A ++ f :: B) (-1) false) lg ts last Y) (hR : Ris (A ++ f :: B)) (h1 : Y[fb]? = some (.row [.int .i64 frm])) (h2 : Y[db]? = some (.row [.ptr d 0])) (h3 : Y[lv]? = some (.row [.ptr lg 0])) (m3 : lv ∈ L)
    (hb : f.bytes.length ≤ 4000000000) (hlen : ts.length + (allF f.bytes).1.length ≤ 1000000000) (hge : ¬ f.num < frm) :
    Tri Tryz.prog 70 [.int .i64 f.num, .ptr fb 0, .ptr db 0, .ptr lv 0] Y (fun v Z => v = .int .i64 0 ∧ WalOwn X L d (LD (A ++ f :: B) (-1) false) lg (ts ++ (allF f.bytes).1.map (fun s => (s, f.num))) (f.num + 1) Z ∧ StayL L Y Z) := by
  obtain ⟨a, ho, na, naL, nlL, hlog⟩ := h
  have hn := hR.mid.2.2.1
  have hge' : ¬ (f.num : Int) < frm := by omega
  have hrd := read_own ho (logN f.num)
  rw [read_LD hR] at hrd
  refine Tri.of_run' Tryz.func70 rfl c70_ok (by simp [Tryz.ntmps70]) ?_
  (repeat (first | refine Run.adm rfl ?_ | refine Run.seq ?_ | ((first | apply Run.opS rfl | apply Run.condS); (· (simp -implicitDefEqProofs [h1, hge, hge']; first | exact ⟨rfl, rfl⟩ | exact rfl)))))
  refine Run.quietTo prog_mixed 3 (by kernel_rfl) ?_
  (repeat (first | refine execQ_E rfl ?_ | (apply execQ_S rfl; (· (simp -implicitDefEqProofs [h2]; exact ⟨rfl, rfl⟩)))))
  refine execQ_C rfl rfl rfl (lname_at f.num hn _) ?_
  (repeat (first | refine execQ_E rfl ?_ | (apply execQ_S rfl; (· (simp -implicitDefEqProofs; exact ⟨rfl, rfl⟩)))))
  intro hpo
  refine RunD.alt1 3 (by kernel_rfl) (by kernel_rfl) hpo ?_
  refine AStep.C rfl rfl rfl hrd ?_
  rintro v Z ⟨rfl, hZ, hst⟩
  show RunD _ c70d1 [4, 5, 6, 7, 8] [] _ _ _
  refine RunD.flow [4, 5, 6, 7, 8] (by kernel_rfl) (by decide +kernel) (by decide +kernel) (by decide) trivial ?_; (repeat (first | refine execQ_E rfl ?_ | (apply execQ_S rfl; (· (simp -implicitDefEqProofs; exact ⟨rfl, rfl⟩))))); intro hpo
  refine RunD.fin (by kernel_rfl) hpo ?_
  (repeat (first | refine Run.adm rfl ?_ | refine Run.seq ?_ | ((first | apply Run.opS rfl | apply Run.condS); (· (simp -implicitDefEqProofs; first | exact ⟨rfl, rfl⟩ | exact rfl)))))
  refine Run.opC rfl rfl rfl (all_at f.bytes hb _) ?_
  rintro v Z ⟨rfl, rfl⟩
  generalize (allF f.bytes).1 = us at *
  have hw0 : (us.map encS).length = us.length := by simp
  have h3' := (hst lv (by simp [m3])).trans h3
  (repeat (first | refine Run.adm rfl ?_ | refine Run.seq ?_ | ((first | apply Run.opS rfl | apply Run.condS); (· (simp -implicitDefEqProofs [hw0]; first | exact ⟨rfl, rfl⟩ | exact rfl)))))
  refine Run.sl [(0, .int .i64 f.num), (3, .ptr lv 0), (7, .int .i64 0), (31, .vs (us.map encS) 1), (32, .int .i64 us.length), (33, .int .i64 (0 : Nat))] (by simp) ?_
  refine Run.loopS (fun (x : Nat × List O) => ([(0, .int .i64 f.num), (3, .ptr lv 0), (7, .int .i64 0), (31, .vs (us.map encS) 1), (32, .int .i64 us.length), (33, .int .i64 x.1)], x.2))
    (fun x => x.1 ≤ us.length ∧ WalOwn X L d (LD (A ++ f :: B) (-1) false) lg (ts ++ (us.take x.1).map (fun s => (s, f.num))) last x.2 ∧ StayL L Y x.2) (fun x => us.length - x.1) ?_ (0, Z) ⟨Nat.zero_le _, ⟨a, hZ, na, naL, nlL, by simpa using hlog.stay hst⟩, hst.tl.tl⟩
  rintro ⟨i, W⟩ ⟨hi, hW, hsW⟩ ih
  simp only at hi hW hsW ih ⊢
  obtain ⟨b, hoW, nb, nbL, -, hlogW⟩ := hW
  have g3 := (hsW lv m3).trans h3
  obtain ⟨g1, g2⟩ := hlogW
  by_cases hlt : i < us.length
  · obtain ⟨x, hx, hxi, -, -⟩ := getL hlt
    have hlt' : (i : Int) < us.length := by omega
    have hw := wrap_small (n := (i : Int) + 1) (by omega) (by omega)
    have htl : (ts ++ (us.take i).map (fun s => (s, f.num))).length = ts.length + i := by simp; omega
    have hnx : ts ++ (us.take (i + 1)).map (fun s => (s, f.num)) = (ts ++ (us.take i).map (fun s => (s, f.num))) ++ [(x, f.num)] := by rw [List.take_add_one, hx]; simp
    generalize ts ++ (us.take i).map (fun s => (s, f.num)) = tt at *
    have hbb : (tt.length + 1) * 24 ≤ 70368744177664 := by omega
    have hlb := lt_of_get g2
    have hll := lt_of_get g1
    have hlv := lt_of_get g3
    (repeat (first | refine Run.adm rfl ?_ | refine Run.seq ?_ | ((first | apply Run.opS rfl | apply Run.condS); (· (simp -implicitDefEqProofs [hlt, hlt', hx, hxi, encS]; first | exact ⟨rfl, rfl⟩ | exact rfl)))))
    refine Run.quietTo prog_mixed 8 (by kernel_rfl) ?_
    (repeat (first | refine execQ_E rfl ?_ | (apply execQ_S rfl; (· (simp -implicitDefEqProofs [g3, g1]; exact ⟨rfl, rfl⟩)))))
    intro hpo
    refine RunD.chain (by kernel_rfl) hpo rfl ?_
    (apply AStep.S rfl; (· (simp -implicitDefEqProofs; exact ⟨rfl, rfl⟩)))
    refine RunD.chain (by kernel_rfl) (by
      show PendOk _ c70d2 _ _ [4, 3, 2, 1, 0]
      (repeat (first | exact PendOk.nil | (refine PendOk.S rfl rfl ?_ ?_; (· (simp -implicitDefEqProofs [getA g3, getA g1]; done)))))) rfl ?_
    (apply AStep.S rfl; (· (simp -implicitDefEqProofs [getA g2, hbb]; exact ⟨rfl, rfl⟩)))
    have nbv : b ≠ lv := fun e => nbL (e ▸ m3)
    have hqv : ∀ B N, ((W ++ [B]).set b O.gone ++ [N])[lv]? = some (.row [.ptr lg 0]) := fun B N => getA (by rw [setN nbv]; exact getA g3 _) _
    have hq : ∀ B N, ((W ++ [B]).set b O.gone ++ [N])[lg]? = some (.row [.ptr d 0, .sl b 0 tt.length 2 none, .int .i64 last]) := fun B N => getA (by rw [setN nb]; exact getA g1 _) _
    refine RunD.alt1 10 (by kernel_rfl) (by kernel_rfl) (by
      show PendOk _ c70d2 _ _ [0]
      (repeat (first | exact PendOk.nil | (refine PendOk.S rfl rfl ?_ ?_; (· (simp -implicitDefEqProofs [hqv]; done)))))) ?_
    (apply AStep.S rfl; (· (simp -implicitDefEqProofs; exact ⟨rfl, rfl⟩)))
    refine RunD.alt1 11 (by kernel_rfl) (by kernel_rfl) (show PendOk _ c70d2 _ _ [] from trivial) ?_
    (apply AStep.S rfl; (· (simp -implicitDefEqProofs; exact ⟨rfl, rfl⟩)))
    refine RunD.alt1 12 (by kernel_rfl) (by kernel_rfl) (show PendOk _ c70d2 _ _ [] from trivial) ?_
    (apply AStep.S rfl; (· (simp -implicitDefEqProofs [hq]; exact ⟨rfl, rfl⟩)))
    refine RunD.fin (by kernel_rfl) (show PendOk _ c70d2 _ _ [] from trivial) ?_
    (repeat (first | refine Run.adm rfl ?_ | refine Run.seq ?_ | ((first | apply Run.opS rfl | apply Run.condS); (· (simp -implicitDefEqProofs; first | exact ⟨rfl, rfl⟩ | exact rfl)))))
    obtain ⟨w1, w2⟩ := WalOwn.app ⟨g1, g2⟩ hoW nb nbL nlL (O.arr [[V.str x, V.int .i64 f.num]] 2) (x, f.num)
    refine Run.sl _ ?_ (ih (i + 1, _) ⟨by simp only; omega, by simp only; rw [hnx]; exact w1, hsW.trans w2⟩ (by simp only; omega))
    simp [hw]
  · have : i = us.length := by omega
    subst this
    rw [List.take_length] at g1 g2
    have hw := wrap_small (n := (f.num : Int) + 1) (by omega) (by omega)
    have hc : (f.num : Int) + 1 = ((f.num + 1 : Nat) : Int) := by omega
    (repeat (first | refine Run.adm rfl ?_ | refine Run.seq ?_ | ((first | apply Run.opS rfl | apply Run.condS); (· (simp -implicitDefEqProofs [g3, g1, hw, setG g1]; first | exact ⟨rfl, rfl⟩ | exact rfl)))))
    refine Run.retS Tryz.func70 r70_ok trivial (by simp [r70]; rfl) ?_
    have n1 : b ≠ lg := nb
    refine ⟨by simp, ⟨b, hoW.put (by simp) _, nb, nbL, nlL, ?_, ?_⟩, fun j hj => ?_⟩
    · rw [setG g1]; simp
    · rw [setN (Ne.symm nb)]; exact g2
    · have n2 : lg ≠ j := fun e => nlL (by rw [e]; exact hj)
      rw [setN n2]; exact hsW j hj
end open1

end Go.Proofs.YthphkcpbglhabaaGreatDoor
