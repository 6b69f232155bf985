/-
  Layer 18, part G: what a book answers; awake.
-/
import Derived.Test.YthphkcpbglhabaaGreatDoorBokF
namespace Go.Proofs.YthphkcpbglhabaaGreatDoor
open Sx Go
set_option maxRecDepth 100000
set_option linter.unusedSimpArgs false
set_option linter.unusedVariables false
set_option linter.unnecessarySimpa false
attribute [local simp] stepV condR boundsC appendG appendO copyV srcC guardB isCall opStep Opd.ev put readAt aBin aUn args0 V.celled V.ones V.one V.cells putAt bounds bound1 elemsOf srcOf appendV fillAt fillEl V.pures V.pure unwind evs ARes.ev mkRes V.ren V.renL O.ren eqCells eq1 aEq aMM hasTy hasTyN okTy mmGo Known HLe OLe VsLe.refl VLe.refl VLe.cap Stay VsLe V.frz V.frzL O.frz fr clearV rn KnownR Objs OLeO ObjsE nm back setAll ren_ite take_map_len List.take_of_length_le
attribute [local simp ↓] upd_app tl_cons tl_nil
attribute [local simp] encS_ren encS_ones encS_len encS_take encN_ren encN_ones KnownS VLe.refl

section
variable {X : List O} {L : List Nat} {d bk m : Nat} {us : List Bs} {st : BSt} {fu : Int} {Z : List O}
theorem BookL.keep (h : BookL X L d bk m us st fu Z) {W : List O} (hk : Kept Z W []) : BookL X L d bk m us st fu W ∧ StayL L Z W := by
  obtain ⟨lg, lts, h1, h2, h3, h4, h5, hbL⟩ := h
  obtain ⟨k1, k2⟩ := h2.keep hk
  exact ⟨⟨lg, lts, h1, k1, (k2 bk (by simp)).trans h3, h4, h5, hbL⟩, k2.tl⟩
theorem BookL.len (h : BookL X L d bk m us st fu Z) : st.2.length ≤ 64 := by
  obtain ⟨lg, lts, h1, h2, h3, h4, h5, hbL⟩ := h
  exact h5.len
theorem BookL.move (h : BookL X L d bk m us st fu Z) : Tri Tryz.prog 12 [.ptr bk 0] Z (fun v H => v = .int .i64 st.1 ∧ H = Z) := by
  obtain ⟨lg, lts, h1, h2, h3, h4, h5, hbL⟩ := h
  exact bmove_tri h3
theorem BookL.ids (h : BookL X L d bk m us st fu Z) : Tri Tryz.prog 13 [.ptr bk 0] Z (fun v H => v = .vs (st.2.map encN) 1 ∧ H = Z) := by
  have := h.len
  obtain ⟨lg, lts, h1, h2, h3, h4, h5, hbL⟩ := h
  exact bids_tri h3 (by omega)
theorem BookL.own (h : BookL X L d bk m us st fu Z) : Own X L d (LD [⟨m, us.flatMap frmB, (us.flatMap frmB).length⟩] fu false) Z := by
  obtain ⟨lg, lts, h1, h2, h3, h4, h5, hbL⟩ := h
  exact h2.disk.sub (fun i hi => List.mem_cons_of_mem _ hi)
end
theorem crash0_torn {X L d M off P Z} (h : Torn X L d M off P Z) (hM : M < 99) :
    Tri Tryz.prog 15 [.ptr d 0, .nils] Z (fun v W => v = .int .i64 0 ∧ StayL L Z W ∧ ∃ m gs us B st, P st ∧ Own X L d (LD (HFb m gs ++ [⟨m + gs.length, B, B.length⟩]) (-1) false) W ∧ (allF B).1 = us ∧ B.length ≤ 4194304 ∧
      AllRec (gs.flatten ++ us) ∧ (gs.flatten ++ us).length ≤ 1000 ∧ m + gs.length ≤ M ∧ LastIs (gs.flatten ++ us) st) := by
  have hv : VsLe [V.ptr d 0, .nils] [.ptr d 0, .vs (([] : List Int).map encN) 1] := ⟨VLe.refl _, VLe.nils _, trivial⟩
  exact Tri.args hv (crash_torn h hM [] (by simp))
/-- a book that nothing happens to is opened anew -/
theorem again_tri {X : List O} {L : List Nat} {d M : Nat} {P : BSt → Prop} {W : List O} (hM : M < 98)
    (h : ∃ m gs us B st, P st ∧ Own X L d (LD (HFb m gs ++ [⟨m + gs.length, B, B.length⟩]) (-1) false) W ∧ (allF B).1 = us ∧ B.length ≤ 4194304 ∧
      AllRec (gs.flatten ++ us) ∧ (gs.flatten ++ us).length ≤ 1000 ∧ m + gs.length ≤ M ∧ LastIs (gs.flatten ++ us) st) :
    Tri Tryz.prog 9 [.ptr d 0] W (fun v Z => ∃ bk m us st, P st ∧ v = .tup [.ptr bk 0, .int .i64 0] ∧ m ≤ M + 1 ∧ us.length ≤ 1 ∧ BookL X L d bk m us st (-1) Z ∧ StayL L W Z) := by
  obtain ⟨m, gs, us, B, st, h1, h2, h3, h4, h5, h6, h7, h8⟩ := h
  refine (bopen_tri h2 h3 h4 (by omega) h5 h6 h8).mono fun v Z ⟨bk, g1, g2, g3⟩ => ⟨bk, _, _, st, h1, g1, by omega, ?_, g2, g3⟩
  split <;> simp
theorem set0_tri {X : List O} {L : List Nat} {d bk m : Nat} {us : List Bs} {st : BSt} {Z : List O} (h : BookL X L d bk m us st (-1) Z) (hn : us.length ≤ 16) (hm : m + 1 < 99) (mv : Int) (ids : List Int) (hl : ids.length ≤ 100000) :
    Tri Tryz.prog 11 [.ptr bk 0, .int .i64 mv, .vs (ids.map encN) 1] Z (fun v W => StayL L Z W ∧ ((¬ (st.1 ≤ mv ∧ mayB mv ids = true) ∧ v = .int .i64 1 ∧ BookL X L d bk m us st (-1) W) ∨
      (st.1 ≤ mv ∧ mayB mv ids = true ∧ v = .int .i64 0 ∧ ∃ m' us', 16 * m' + us'.length ≤ 16 * m + us.length + 1 ∧ us'.length ≤ 16 ∧ BookL X L d bk m' us' (mv, ids) (-1) W))) := by
  refine (set_tri h hn hm mv ids hl).mono fun v W ⟨gs, g⟩ => ⟨gs, ?_⟩
  rcases g with g | ⟨g1, g2, g3, m', us', fu', g4, g5, g6, g7⟩ | ⟨-, -, -, g, -⟩
  · exact .inl g
  · obtain rfl := g6 rfl
    exact .inr ⟨g1, g2, g3, m', us', g4, g5, g7⟩
  · exact absurd rfl g

theorem bawake_tri : Tri Tryz.prog 10 [] [] (fun v H => v = .bool true ∧ H = []) := by
  have hmy : mayB 3 [1, 2] = true := by decide
  refine Tri.of_run' Tryz.func10 rfl c10_ok (by simp [Tryz.ntmps10]) ?_
  (repeat (first | refine Run.adm rfl ?_ | refine Run.seq ?_ | ((first | apply Run.opS rfl | apply Run.condS); (· (simp -implicitDefEqProofs; first | exact ⟨rfl, rfl⟩ | exact rfl)))))
  refine Run.opC rfl rfl rfl (new_own []) ?_
  rintro v Y0 ⟨d, rfl, h0⟩
  (repeat (first | refine Run.adm rfl ?_ | refine Run.seq ?_ | ((first | apply Run.opS rfl | apply Run.condS); (· (simp -implicitDefEqProofs; first | exact ⟨rfl, rfl⟩ | exact rfl)))))
  refine Run.opC rfl (by simp) rfl (bopen_new h0) ?_
  rintro v Y1 ⟨bk, rfl, h1, -⟩
  (repeat (first | refine Run.adm rfl ?_ | refine Run.seq ?_ | ((first | apply Run.opS rfl | apply Run.condS); (· (simp -implicitDefEqProofs; first | exact ⟨rfl, rfl⟩ | exact rfl)))))
  refine Run.opC rfl (by simp) rfl h1.move ?_
  rintro v H ⟨rfl, rfl⟩
  (repeat (first | refine Run.adm rfl ?_ | refine Run.seq ?_ | ((first | apply Run.opS rfl | apply Run.condS); (· (simp -implicitDefEqProofs; first | exact ⟨rfl, rfl⟩ | exact rfl)))))
  refine Run.opC rfl (by simp) rfl h1.ids ?_
  rintro v H ⟨rfl, rfl⟩
  (repeat (first | refine Run.adm rfl ?_ | refine Run.seq ?_ | ((first | apply Run.opS rfl | apply Run.condS); (· (simp -implicitDefEqProofs; first | exact ⟨rfl, rfl⟩ | exact rfl)))))
  refine Run.frzS H.length (by simp; exact ⟨rfl, rfl⟩) ?_
  refine run_to [(1, .ptr d 0), (29, .bool false), (30, .ptr bk 0), (31, .vs (([1, 2] : List Int).map encN) 1)] (fun Z => BookL [] [] d bk 0 [] (0, []) (-1) Z) (by simp [encN]) (h1.keep (((Kept.refl _ []).app _).set _ _ (.inr (Nat.le_refl _)))).1 ?_
  intro Y2 h2
  (repeat (first | refine Run.adm rfl ?_ | refine Run.seq ?_ | ((first | apply Run.opS rfl | apply Run.condS); (· (simp -implicitDefEqProofs; first | exact ⟨rfl, rfl⟩ | exact rfl)))))
  refine Run.opC rfl (by simp) rfl (set0_tri h2 (by simp) (by decide) 3 [1, 2] (by decide)) ?_
  rintro v Y3 ⟨-, ⟨e, -⟩ | ⟨-, -, rfl, m', us', l1, l2, h3⟩⟩
  · exact absurd ⟨by decide, hmy⟩ e
  simp only [List.length_nil] at l1
  (repeat (first | refine Run.adm rfl ?_ | refine Run.seq ?_ | ((first | apply Run.opS rfl | apply Run.condS); (· (simp -implicitDefEqProofs; first | exact ⟨rfl, rfl⟩ | exact rfl)))))
  refine Run.opC rfl (by simp) rfl (crash0_torn (h3.torn (by omega) (P := fun s => s = (3, [1, 2])) rfl) (by omega)) ?_
  rintro v Y4 ⟨rfl, -, h4⟩
  (repeat (first | refine Run.adm rfl ?_ | refine Run.seq ?_ | ((first | apply Run.opS rfl | apply Run.condS); (· (simp -implicitDefEqProofs; first | exact ⟨rfl, rfl⟩ | exact rfl)))))
  refine Run.opC rfl (by simp) rfl (again_tri (by omega) h4) ?_
  rintro v Y5 ⟨bk2, m2, us2, st2, rfl, rfl, -, -, h5, -⟩
  (repeat (first | refine Run.adm rfl ?_ | refine Run.seq ?_ | ((first | apply Run.opS rfl | apply Run.condS); (· (simp -implicitDefEqProofs; first | exact ⟨rfl, rfl⟩ | exact rfl)))))
  refine Run.opC rfl (by simp) rfl h5.move ?_
  rintro v H ⟨rfl, rfl⟩
  (repeat (first | refine Run.adm rfl ?_ | refine Run.seq ?_ | ((first | apply Run.opS rfl | apply Run.condS); (· (simp -implicitDefEqProofs; first | exact ⟨rfl, rfl⟩ | exact rfl)))))
  refine Run.opC rfl (by simp) rfl h5.ids ?_
  rintro v H ⟨rfl, rfl⟩
  (repeat (first | refine Run.adm rfl ?_ | refine Run.seq ?_ | ((first | apply Run.opS rfl | apply Run.condS); (· (simp -implicitDefEqProofs; first | exact ⟨rfl, rfl⟩ | exact rfl)))))
  refine Run.frzS H.length (by simp; exact ⟨rfl, rfl⟩) ?_
  refine Run.sl [(56, .bool true), (58, .vs (([1, 2] : List Int).map encN) 1), (59, .vs (([1, 2] : List Int).map encN) 1)] (by simp [encN]) ?_
  (repeat (first | refine Run.adm rfl ?_ | refine Run.seq ?_ | ((first | apply Run.opS rfl | apply Run.condS); (· (simp -implicitDefEqProofs; first | exact ⟨rfl, rfl⟩ | exact rfl)))))
  refine Run.opC rfl (by simp) rfl (samei_at [1, 2] [1, 2] (by decide) _) ?_
  rintro v H ⟨rfl, rfl⟩
  (repeat (first | refine Run.adm rfl ?_ | refine Run.seq ?_ | ((first | apply Run.opS rfl | apply Run.condS); (· (simp -implicitDefEqProofs; first | exact ⟨rfl, rfl⟩ | exact rfl)))))
  refine Run.ret0 rfl Tryz.func10 r10_ok trivial (by simp [r10]; rfl) ?_ (by simp)
  exact ⟨by simp, rfl⟩
theorem bawake_at (H : List O) : Tri Tryz.prog 10 [] H (fun v H' => v = .bool true ∧ H' = H) := bawake_tri.at rfl rfl H

end Go.Proofs.YthphkcpbglhabaaGreatDoor
