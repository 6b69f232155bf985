/-
  Layer 06, part R: what must come.
-/
import Derived.Test.YtkidkiapfjhkeaaGreatDoorWalQ
namespace Go.Proofs.YtkidkiapfjhkeaaGreatDoor
open Sx Go
set_option maxRecDepth 100000
set_option linter.unusedSimpArgs false
set_option linter.unusedVariables false
set_option linter.unnecessarySimpa false
attribute [local simp] stepV condR boundsC appendG appendO copyV srcC guardB isCall opStep Opd.ev put readAt aBin aUn args0 V.celled V.ones V.one V.cells putAt bounds bound1 elemsOf srcOf appendV fillAt fillEl V.pures V.pure unwind evs ARes.ev mkRes V.ren V.renL O.ren eqCells eq1 aEq aMM hasTy hasTyN okTy mmGo Known HLe OLe VsLe.refl VLe.refl VLe.cap Stay VsLe V.frz V.frzL O.frz fr clearV rn KnownR Objs OLeO ObjsE nm back setAll ren_ite take_map_len List.take_of_length_le
attribute [local simp ↓] upd_app tl_cons tl_nil
attribute [local simp] encS_ren encS_ones encS_len encS_take KnownS VLe.refl

section calm
variable {X : List O} {L : List Nat} {d lg n : Nat} {A fs : List LF} {f : LF} {Y : List O} {ts : List (Bs × Nat)}
theorem WalOwn.addC (h : WalOwn X L d (LD (A ++ [f]) (-1) false) lg ts f.num Y) (hR : Ris (A ++ [f])) (hl : ts.length ≤ 1000000000) (s : Bs) (hs : s.length ≤ 131072) (hb : f.bytes.length + (frmB s).length ≤ 4194304) :
    Tri Tryz.prog 11 [.ptr lg 0, .str s] Y (fun v Z => v = .int .i64 0 ∧ WalOwn X L d (LD (A ++ [⟨f.num, f.bytes ++ frmB s, f.sure⟩]) (-1) false) lg (ts ++ [(s, f.num)]) f.num Z ∧ StayL L Y Z) := by
  refine (h.add hR hl s hs hb).mono fun v Z hq => ?_
  rcases hq with ⟨e, -⟩ | ⟨-, g⟩
  · exact absurd e (by simp)
  · exact g
theorem WalOwn.flushC (h : WalOwn X L d (LD (A ++ [f]) (-1) false) lg ts f.num Y) (hR : Ris (A ++ [f])) :
    Tri Tryz.prog 12 [.ptr lg 0] Y (fun v Z => v = .int .i64 0 ∧ WalOwn X L d (LD (A ++ [⟨f.num, f.bytes, f.bytes.length⟩]) (-1) false) lg ts f.num Z ∧ StayL L Y Z) := by
  refine (h.flush hR).mono fun v Z hq => ?_
  rcases hq with ⟨e, -⟩ | ⟨-, g⟩
  · exact absurd e (by simp)
  · exact g
theorem WalOwn.rollC (h : WalOwn X L d (LD (A ++ [f]) (-1) false) lg ts f.num Y) (hR : Ris (A ++ [f])) (hn : f.num + 1 < 100) :
    Tri Tryz.prog 13 [.ptr lg 0] Y (fun v Z => v = .tup [.int .i64 (f.num + 1 : Nat), .int .i64 0] ∧ WalOwn X L d (LD (A ++ [⟨f.num, f.bytes, f.bytes.length⟩] ++ [⟨f.num + 1, [], 0⟩]) (-1) false) lg ts (f.num + 1) Z ∧ StayL L Y Z) := by
  refine (h.roll hR hn).mono fun v Z hq => ?_
  rcases hq with ⟨e, -⟩ | ⟨-, e, -⟩ | ⟨-, -, g⟩
  · exact absurd e (by simp)
  · exact absurd e (by decide)
  · exact g
end calm

theorem WalOwn.keep {X : List O} {L : List Nat} {d lg n : Nat} {D : Dk} {Y Z : List O} {ts : List (Bs × Nat)} (h : WalOwn X L d D lg ts n Y) (hk : Kept Y Z []) : WalOwn X L d D lg ts n Z ∧ StayL L Y Z := by
  obtain ⟨a, ho, na, naL, nlL, hlog⟩ := h
  obtain ⟨k1, k2⟩ := ho.keep hk
  exact ⟨⟨a, k1, na, naL, nlL, hlog.stay k2⟩, k2.tl.tl⟩

def one1 : Bs := [111, 110, 101]
def two1 : Bs := [116, 119, 111]
theorem ris1 (f : LF) (h : f.num < 100) : Ris ([] ++ [f]) := ⟨by simp, fun g hg => by simp at hg; rw [hg]; exact h⟩

theorem awake_tri : Tri Tryz.prog 10 [] [] (fun v H => v = .bool true ∧ H = []) := by
  refine Tri.of_run' Tryz.func10 rfl c10_ok (by simp [Tryz.ntmps10]) ?_
  (repeat (first | refine Run.adm rfl ?_ | refine Run.seq ?_ | ((first | apply Run.opS rfl | apply Run.condS); (· (simp -implicitDefEqProofs; first | exact ⟨rfl, rfl⟩ | exact rfl)))))
  refine Run.opC rfl rfl rfl (new_own []) ?_
  rintro v Y0 ⟨d, rfl, h0⟩
  (repeat (first | refine Run.adm rfl ?_ | refine Run.seq ?_ | ((first | apply Run.opS rfl | apply Run.condS); (· (simp -implicitDefEqProofs; first | exact ⟨rfl, rfl⟩ | exact rfl)))))
  refine Run.opC rfl (by simp) rfl (open_own (frm := 3) (fs := []) h0 ⟨List.Pairwise.nil, by simp⟩ (by decide) (by simp) (by simp) (by simp [opnT])) ?_
  rintro v Y1 ⟨lg, rfl, -, h1, -⟩
  replace h1 : WalOwn [] [] d (LD ([] ++ [⟨3, [], 0⟩]) (-1) false) lg [] 3 Y1 := h1
  (repeat (first | refine Run.adm rfl ?_ | refine Run.seq ?_ | ((first | apply Run.opS rfl | apply Run.condS); (· (simp -implicitDefEqProofs; first | exact ⟨rfl, rfl⟩ | exact rfl)))))
  refine Run.opC rfl (by simp) rfl h1.last ?_
  rintro v H ⟨rfl, rfl⟩
  (repeat (first | refine Run.adm rfl ?_ | refine Run.seq ?_ | ((first | apply Run.opS rfl | apply Run.condS); (· (simp -implicitDefEqProofs; first | exact ⟨rfl, rfl⟩ | exact rfl)))))
  refine Run.opC rfl (by simp) rfl (WalOwn.addC (f := ⟨3, [], 0⟩) h1 (ris1 _ (by decide)) (by simp) one1 (by decide) (by have := sixF_len one1 (by decide); simp; omega)) ?_
  rintro v Y2 ⟨rfl, h2, -⟩
  (repeat (first | refine Run.adm rfl ?_ | refine Run.seq ?_ | ((first | apply Run.opS rfl | apply Run.condS); (· (simp -implicitDefEqProofs; first | exact ⟨rfl, rfl⟩ | exact rfl)))))
  refine Run.opC rfl (by simp) rfl (WalOwn.flushC h2 (ris1 _ (by decide))) ?_
  rintro v Y3 ⟨rfl, h3, -⟩
  (repeat (first | refine Run.adm rfl ?_ | refine Run.seq ?_ | ((first | apply Run.opS rfl | apply Run.condS); (· (simp -implicitDefEqProofs; first | exact ⟨rfl, rfl⟩ | exact rfl)))))
  refine Run.opC rfl (by simp) rfl (WalOwn.addC h3 (ris1 _ (by decide)) (by simp) two1 (by decide) (by have := sixF_len one1 (by decide); have := sixF_len two1 (by decide); simp; omega)) ?_
  rintro v Y4 ⟨rfl, h4, -⟩
  (repeat (first | refine Run.adm rfl ?_ | refine Run.seq ?_ | ((first | apply Run.opS rfl | apply Run.condS); (· (simp -implicitDefEqProofs; first | exact ⟨rfl, rfl⟩ | exact rfl)))))
  refine Run.opC rfl (by simp) rfl (WalOwn.all h4 (by simp)) ?_
  rintro v Y5 ⟨rfl, h5, -⟩
  have hv1 : ((([] ++ [(one1, 3)] ++ [(two1, 3)] : List (Bs × Nat)).map (·.1)).map encS) = ([one1, two1] : List Bs).map encS := rfl
  simp only [hv1]
  (repeat (first | refine Run.adm rfl ?_ | refine Run.seq ?_ | ((first | apply Run.opS rfl | apply Run.condS); (· (simp -implicitDefEqProofs; first | exact ⟨rfl, rfl⟩ | exact rfl)))))
  refine Run.frzS Y5.length (by simp; exact ⟨rfl, rfl⟩) ?_
  refine run_to [(1, .ptr d 0), (39, .vs ([one1, two1].map encS) 1), (40, .vs ([one1, two1].map encS) 1)] (fun Z => WalOwn [] [] d (LD ([] ++ [⟨3, [] ++ frmB one1 ++ frmB two1, ([] ++ frmB one1).length⟩]) (-1) false) lg [(one1, 3), (two1, 3)] 3 Z) (by simp [encS, one1, two1]) (h5.keep (((Kept.refl _ []).app _).set _ _ (.inr (Nat.le_refl _)))).1 ?_
  intro Y6 h6
  (repeat (first | refine Run.adm rfl ?_ | refine Run.seq ?_ | ((first | apply Run.opS rfl | apply Run.condS); (· (simp -implicitDefEqProofs; first | exact ⟨rfl, rfl⟩ | exact rfl)))))
  refine Run.opC rfl rfl rfl (same_at [one1, two1] [one1, two1] (by decide) _) ?_
  rintro v H ⟨rfl, rfl⟩
  (repeat (first | refine Run.adm rfl ?_ | refine Run.seq ?_ | ((first | apply Run.opS rfl | apply Run.condS); (· (simp -implicitDefEqProofs; first | exact ⟨rfl, rfl⟩ | exact rfl)))))
  refine Run.opC rfl (by simp) rfl (crash0_LD h6.disk (ris1 _ (by simp))) ?_
  rintro v Y7 ⟨rfl, nf, hnf, h7, -⟩
  obtain ⟨c, -, -, hc, hc0⟩ := cutL_spec nf ⟨3, [] ++ frmB one1 ++ frmB two1, ([] ++ frmB one1).length⟩ (by simp)
  have h8 : Own [] [] d (LD [⟨3, frmB one1, (frmB one1).length⟩] (-1) false) Y7 := by
    rw [hc0 hnf] at hc
    replace h7 : Own [] [] d (LD [cutL nf ⟨3, [] ++ frmB one1 ++ frmB two1, ([] ++ frmB one1).length⟩] (-1) false) Y7 := h7
    rw [hc] at h7
    simpa using h7
  have hR8 := ris1 ⟨3, frmB one1, (frmB one1).length⟩ (by decide)
  have hone : (allF (frmB one1)).1 = [one1] := by simpa using allF_whole [one1] (by simp [one1])
  (repeat (first | refine Run.adm rfl ?_ | refine Run.seq ?_ | ((first | apply Run.opS rfl | apply Run.condS); (· (simp -implicitDefEqProofs; first | exact ⟨rfl, rfl⟩ | exact rfl)))))
  refine Run.opC rfl rfl rfl (open_own (frm := 3) h8 hR8 (by decide) (by simp) (by have := sixF_len one1 (by decide); simp; omega) (by simp [opnT, hone])) ?_
  rintro v Y8 ⟨lg2, rfl, -, h9, -⟩
  have e9 : keepF 3 [⟨3, frmB one1, (frmB one1).length⟩] = [⟨3, frmB one1, (frmB one1).length⟩] := by simp [keepF]
  have e10 : opnT [⟨3, frmB one1, (frmB one1).length⟩] = [(one1, 3)] := by simp [opnT, hone]
  have e11 : opnN 3 [⟨3, frmB one1, (frmB one1).length⟩] = 4 := rfl
  rw [e9, e10, e11] at h9
  (repeat (first | refine Run.adm rfl ?_ | refine Run.seq ?_ | ((first | apply Run.opS rfl | apply Run.condS); (· (simp -implicitDefEqProofs; first | exact ⟨rfl, rfl⟩ | exact rfl)))))
  refine Run.opC rfl (by simp) rfl (WalOwn.all h9 (by simp)) ?_
  rintro v Y9 ⟨rfl, h10, -⟩
  have hv2 : (([(one1, 3)] : List (Bs × Nat)).map (·.1)).map encS = ([one1] : List Bs).map encS := rfl
  simp only [hv2]
  (repeat (first | refine Run.adm rfl ?_ | refine Run.seq ?_ | ((first | apply Run.opS rfl | apply Run.condS); (· (simp -implicitDefEqProofs; first | exact ⟨rfl, rfl⟩ | exact rfl)))))
  refine Run.frzS Y9.length (by simp; exact ⟨rfl, rfl⟩) ?_
  refine run_to [(1, .ptr d 0), (4, .ptr lg2 0), (59, .bool true), (61, .vs ([one1].map encS) 1), (62, .vs ([one1].map encS) 1)] (fun Z => WalOwn [] [] d (LD ([⟨3, frmB one1, (frmB one1).length⟩] ++ [⟨4, [], 0⟩]) (-1) false) lg2 [(one1, 3)] 4 Z) (by simp [encS, one1]) (h10.keep (((Kept.refl _ []).app _).set _ _ (.inr (Nat.le_refl _)))).1 ?_
  intro Z1 k1
  (repeat (first | refine Run.adm rfl ?_ | refine Run.seq ?_ | ((first | apply Run.opS rfl | apply Run.condS); (· (simp -implicitDefEqProofs; first | exact ⟨rfl, rfl⟩ | exact rfl)))))
  refine Run.opC rfl (by simp) rfl (same_at [one1] [one1] (by decide) _) ?_
  rintro v H ⟨rfl, rfl⟩
  (repeat (first | refine Run.adm rfl ?_ | refine Run.seq ?_ | ((first | apply Run.opS rfl | apply Run.condS); (· (simp -implicitDefEqProofs; first | exact ⟨rfl, rfl⟩ | exact rfl)))))
  refine Run.opC rfl (by simp) rfl k1.last ?_
  rintro v H ⟨rfl, rfl⟩
  have hRk : Ris ([⟨3, frmB one1, (frmB one1).length⟩] ++ [⟨4, [], 0⟩]) := hR8.snoc (by simp) (by decide)
  have hnm := k1.names (nmOk_LD hRk _ _)
  rw [namesD_LD hRk] at hnm
  (repeat (first | refine Run.adm rfl ?_ | refine Run.seq ?_ | ((first | apply Run.opS rfl | apply Run.condS); (· (simp -implicitDefEqProofs; first | exact ⟨rfl, rfl⟩ | exact rfl)))))
  refine Run.opC rfl (by simp) rfl hnm ?_
  rintro v Z2 ⟨rfl, k2, -⟩
  (repeat (first | refine Run.adm rfl ?_ | refine Run.seq ?_ | ((first | apply Run.opS rfl | apply Run.condS); (· (simp -implicitDefEqProofs; first | exact ⟨rfl, rfl⟩ | exact rfl)))))
  refine Run.frzS Z2.length (by simp; exact ⟨rfl, rfl⟩) ?_
  have hlog : (([⟨3, frmB one1, (frmB one1).length⟩] ++ [⟨4, [], 0⟩] : List LF).map (·.num)).map logN = [[108, 111, 103, 45, 48, 48, 48, 48, 48, 48, 48, 51], [108, 111, 103, 45, 48, 48, 48, 48, 48, 48, 48, 52]] := by
    show [logN 3, logN 4] = _
    decide +kernel
  rw [hlog]
  refine Run.sl [(70, .bool true), (72, .vs (([[108, 111, 103, 45, 48, 48, 48, 48, 48, 48, 48, 51], [108, 111, 103, 45, 48, 48, 48, 48, 48, 48, 48, 52]] : List Bs).map encS) 1), (73, .vs (([[108, 111, 103, 45, 48, 48, 48, 48, 48, 48, 48, 51], [108, 111, 103, 45, 48, 48, 48, 48, 48, 48, 48, 52]] : List Bs).map encS) 1)] (by simp [encS]) ?_
  (repeat (first | refine Run.adm rfl ?_ | refine Run.seq ?_ | ((first | apply Run.opS rfl | apply Run.condS); (· (simp -implicitDefEqProofs; first | exact ⟨rfl, rfl⟩ | exact rfl)))))
  refine Run.opC rfl (by simp) rfl (same_at _ _ (by decide) _) ?_
  rintro v H ⟨rfl, rfl⟩
  (repeat (first | refine Run.adm rfl ?_ | refine Run.seq ?_ | ((first | apply Run.opS rfl | apply Run.condS); (· (simp -implicitDefEqProofs; first | exact ⟨rfl, rfl⟩ | exact rfl)))))
  refine Run.ret0 rfl Tryz.func10 r10_ok trivial (by simp [r10]; rfl) ?_ (by simp)
  exact ⟨by simp, rfl⟩
theorem awake_at (H : List O) : Tri Tryz.prog 10 [] H (fun v H' => v = .bool true ∧ H' = H) := awake_tri.at rfl rfl H

end Go.Proofs.YtkidkiapfjhkeaaGreatDoor
