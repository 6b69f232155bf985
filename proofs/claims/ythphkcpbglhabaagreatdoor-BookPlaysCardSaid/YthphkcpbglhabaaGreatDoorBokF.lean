/-
  Layer 18, part F: Set; crashes.
-/
import Derived.Test.YthphkcpbglhabaaGreatDoorBokE
namespace Go.Proofs.YthphkcpbglhabaaGreatDoor
open Sx Go
set_option maxRecDepth 100000
set_option linter.unusedSimpArgs false
set_option linter.unusedVariables false
set_option linter.unnecessarySimpa false
attribute [local simp] stepV condR boundsC appendG appendO copyV srcC guardB isCall opStep Opd.ev put readAt aBin aUn args0 V.celled V.ones V.one V.cells putAt bounds bound1 elemsOf srcOf appendV fillAt fillEl V.pures V.pure unwind evs ARes.ev mkRes V.ren V.renL O.ren eqCells eq1 aEq aMM hasTy hasTyN okTy mmGo Known HLe OLe VsLe.refl VLe.refl VLe.cap Stay VsLe V.frz V.frzL O.frz fr clearV rn KnownR Objs OLeO ObjsE nm back setAll ren_ite take_map_len List.take_of_length_le
attribute [local simp ↓] upd_app tl_cons tl_nil
attribute [local simp] encS_ren encS_ones encS_len encS_take encN_ren encN_ones KnownS VLe.refl

/-- a book's disk: whatever a crash leaves of it is a state that may be -/
def Torn (X : List O) (L : List Nat) (d M : Nat) (off : Bool) (P : BSt → Prop) (Z : List O) : Prop :=
  ∃ m gs g k fu, Own X L d (LD (HFb m gs ++ [HLb m gs g k]) fu off) Z ∧ k ≤ g.length ∧ AllRec (gs.flatten ++ g) ∧ (gs.flatten ++ g).length ≤ 100 ∧ m + gs.length ≤ M ∧ ∀ j, k ≤ j → j ≤ g.length → ∃ st, P st ∧ LastIs (gs.flatten ++ g.take j) st
theorem one_file (m : Nat) (us : List Bs) : HFb m [] ++ [HLb m [] us us.length] = [⟨m, us.flatMap frmB, (us.flatMap frmB).length⟩] := by simp [HFb, HLb]
theorem take_only {α : Type} (l : List α) (j : Nat) (h : l.length ≤ j) : l.take j = l := List.take_of_length_le h

theorem BookL.torn {X L d bk m us st fu Z} (h : BookL X L d bk m us st fu Z) (hl : us.length ≤ 100) {P : BSt → Prop} (hP : P st) : Torn X L d m false P Z := by
  obtain ⟨lg, lts, h1, h2, h3, h4, h5, hbL⟩ := h
  refine ⟨m, [], us, us.length, fu, ?_, Nat.le_refl _, by simpa using h4, by simpa using hl, by simp, fun j hj1 hj2 => ⟨st, hP, by rw [take_only _ _ hj1]; simpa using h5⟩⟩
  rw [one_file]
  exact h2.disk.sub (fun i hi => List.mem_cons_of_mem _ hi)

theorem crash_torn {X L d M off P Z} (h : Torn X L d M off P Z) (hM : M < 99) (keep : List Int) (hk : keep.length ≤ 1000) :
    Tri Tryz.prog 15 [.ptr d 0, .vs (keep.map encN) 1] Z (fun v W => v = .int .i64 0 ∧ StayL L Z W ∧ ∃ m gs us B st, P st ∧ Own X L d (LD (HFb m gs ++ [⟨m + gs.length, B, B.length⟩]) (-1) false) W ∧ (allF B).1 = us ∧ B.length ≤ 4194304 ∧
      AllRec (gs.flatten ++ us) ∧ (gs.flatten ++ us).length ≤ 1000 ∧ m + gs.length ≤ M ∧ LastIs (gs.flatten ++ us) st) := by
  obtain ⟨m, gs, g, k, fu, h1, h2, h3, h4, h5, h6⟩ := h
  have hgl : ∀ s ∈ g, s.length ≤ 1000 := fun s hs => h3.len s (by simp [hs])
  have hfl := flatb_len g 1000 (by omega) hgl
  have hgl2 : g.length ≤ 100 := by rw [List.length_append] at h4; omega
  refine (crash_LD h1 (HLb_ris (by omega) _ _) keep hk).mono fun v W ⟨g1, nf, g2, g3, g4⟩ => ?_
  obtain ⟨B, j, q1, q2, q3, q4, q5, -⟩ := cut_HLb (m := m) nf gs g k h2 (fun s hs => by have := hgl s hs; omega)
  rw [q1] at g3
  obtain ⟨st, p1, p2⟩ := h6 j q2 q3
  refine ⟨g1, g4, m, gs, g.take j, B, st, p1, g3, q4, by omega, fun r hr => h3 r ?_, ?_, h5, p2⟩
  · rcases List.mem_append.1 hr with hr | hr
    · exact List.mem_append_left _ hr
    · exact List.mem_append_right _ (List.mem_of_mem_take hr)
  · rw [List.length_append, List.length_take] at *; omega

theorem flat_small {us : List Bs} (h : AllRec us) (hl : us.length ≤ 100) : (us.flatMap frmB).length ≤ 1000000 := by
  have := flatb_len us 1000 (by omega) h.len
  omega

theorem set_tri {X : List O} {L : List Nat} {d bk m : Nat} {us : List Bs} {st : BSt} {fu : Int} {Z : List O} (h : BookL X L d bk m us st fu Z) (hn : us.length ≤ 16) (hm : m + 1 < 99) (mv : Int) (ids : List Int) (hl : ids.length ≤ 100000) :
    Tri Tryz.prog 11 [.ptr bk 0, .int .i64 mv, .vs (ids.map encN) 1] Z (fun v W => StayL L Z W ∧ ((¬ (st.1 ≤ mv ∧ mayB mv ids = true) ∧ v = .int .i64 1 ∧ BookL X L d bk m us st fu W) ∨
      (st.1 ≤ mv ∧ mayB mv ids = true ∧ v = .int .i64 0 ∧ ∃ m' us' fu', 16 * m' + us'.length ≤ 16 * m + us.length + 1 ∧ us'.length ≤ 16 ∧ (fu = -1 → fu' = -1) ∧ BookL X L d bk m' us' (mv, ids) fu' W) ∨
      (st.1 ≤ mv ∧ mayB mv ids = true ∧ v = .int .i64 50 ∧ fu ≠ -1 ∧ ∃ M, 16 * M ≤ 16 * m + us.length ∧ Torn X L d M true (fun s => s = st ∨ s = (mv, ids)) W))) := by
  obtain ⟨lg, lts, h1, h2, h3, h4, h5, hbL⟩ := h
  obtain ⟨m0, ids0⟩ := st
  simp only at *
  have z1 : Z[bk]? = some _ := h3
  have hfs := flat_small h4 (by omega)
  refine Tri.of_run' Tryz.func11 rfl c11_ok (by simp [Tryz.ntmps11]) ?_
  (repeat (first | refine Run.adm rfl ?_ | refine Run.seq ?_ | ((first | apply Run.opS rfl | apply Run.condS); (· (simp -implicitDefEqProofs; first | exact ⟨rfl, rfl⟩ | exact rfl)))))
  refine Run.opC rfl rfl rfl (bgiven_tri h3) ?_
  rintro v H ⟨rfl, rfl⟩
  by_cases c1 : mv < m0
  · (repeat (first | refine Run.adm rfl ?_ | refine Run.seq ?_ | ((first | apply Run.opS rfl | apply Run.condS); (· (simp -implicitDefEqProofs [z1, c1]; first | exact ⟨rfl, rfl⟩ | exact rfl)))))
    refine Run.retS Tryz.func11 r11_ok trivial (by simp [r11]; rfl) ?_
    exact ⟨fun i _ => rfl, .inl ⟨by omega, by simp, lg, lts, h1, h2, h3, h4, h5, hbL⟩⟩
  (repeat (first | refine Run.adm rfl ?_ | refine Run.seq ?_ | ((first | apply Run.opS rfl | apply Run.condS); (· (simp -implicitDefEqProofs [z1, c1]; first | exact ⟨rfl, rfl⟩ | exact rfl)))))
  refine Run.opC rfl (by simp) rfl (bmay_tri mv ids (by omega) _) ?_
  rintro v H' ⟨rfl, rfl⟩
  by_cases c2 : mayB mv ids = true
  rotate_left
  · (repeat (first | refine Run.adm rfl ?_ | refine Run.seq ?_ | ((first | apply Run.opS rfl | apply Run.condS); (· (simp -implicitDefEqProofs [c2]; first | exact ⟨rfl, rfl⟩ | exact rfl)))))
    refine Run.retS Tryz.func11 r11_ok trivial (by simp [r11]; rfl) ?_
    exact ⟨fun i _ => rfl, .inl ⟨fun hc => c2 hc.2, by simp, lg, lts, h1, h2, h3, h4, h5, hbL⟩⟩
  have c0 : m0 ≤ mv := by omega
  (repeat (first | refine Run.adm rfl ?_ | refine Run.seq ?_ | ((first | apply Run.opS rfl | apply Run.condS); (· (simp -implicitDefEqProofs [c2]; first | exact ⟨rfl, rfl⟩ | exact rfl)))))
  refine Run.opC rfl rfl rfl (clone_at ids hl _) ?_
  rintro v Z ⟨rfl, rfl⟩
  have z2 : ∀ o, (Z.set bk o)[bk]? = some o := fun o => setG z1 o
  obtain ⟨U, hU⟩ : ∃ U, U = Z.set bk (.row [.ptr lg 0, .int .i64 mv, .vs (ids.map encN) 1, .int .i64 us.length]) := ⟨_, rfl⟩
  have hUw : WalOwn X (bk :: L) d (LD ([] ++ [⟨m, us.flatMap frmB, (us.flatMap frmB).length⟩]) fu false) lg lts m U := by rw [hU]; exact h2.put (by simp) _
  have sU : StayL L Z U := by rw [hU]; exact StayL.put (fun i _ => rfl) hbL _
  have hUb : BookAt U bk lg mv ids us.length := by rw [hU]; exact setG z1 _
  have u1 : U[bk]? = some _ := hUb
  have hR : Ris ([] ++ [⟨m, us.flatMap frmB, (us.flatMap frmB).length⟩]) := ⟨by simp, fun g hg => by simp at hg; rw [hg]; simp only; omega⟩
  have hall2 : AllRec (us ++ [recB mv ids]) := fun r hr => by
    rcases List.mem_append.1 hr with hr | hr
    · exact h4 r hr
    · exact ⟨(mv, ids), c2, List.mem_singleton.1 hr⟩
  have hrl := rec_len (st := (mv, ids)) c2
  have htorn0 : ∀ {W : List O} {fu' : Int}, Own X L d (LD [⟨m, us.flatMap frmB, (us.flatMap frmB).length⟩] fu' true) W → ∃ M, 16 * M ≤ 16 * m + us.length ∧ Torn X L d M true (fun s => s = (m0, ids0) ∨ s = (mv, ids)) W := fun hW =>
    ⟨m, by omega, m, [], us, us.length, _, by rw [one_file]; exact hW, Nat.le_refl _, by simpa using h4, by simp; omega, by simp, fun j hj1 hj2 => ⟨(m0, ids0), .inl rfl, by rw [take_only _ _ hj1]; simpa using h5⟩⟩
  by_cases hlt : us.length < 16
  · have hlt' : (us.length : Int) < 16 := by omega
    (repeat (first | refine Run.adm rfl ?_ | refine Run.seq ?_ | ((first | apply Run.opS rfl | apply Run.condS); (· (simp -implicitDefEqProofs [z1, z2, hlt, hlt']; first | exact ⟨rfl, rfl⟩ | exact rfl)))))
    rw [← hU]
    refine Run.opC rfl rfl rfl (puts_tri (f := ⟨m, us.flatMap frmB, (us.flatMap frmB).length⟩) hUw hUb hbL hR (by omega) c2 (by omega) hfs) ?_
    rintro v V1 ⟨v1, sV, ⟨e, rfl, hV⟩ | ⟨e, e2, rfl, hV⟩ | ⟨e, e2, rfl, hV⟩⟩
    · (repeat (first | refine Run.adm rfl ?_ | refine Run.seq ?_ | ((first | apply Run.opS rfl | apply Run.condS); (· (simp -implicitDefEqProofs; first | exact ⟨rfl, rfl⟩ | exact rfl)))))
      refine Run.retS Tryz.func11 r11_ok trivial (by simp [r11]; rfl) ?_
      exact ⟨sU.trans sV, .inr (.inr ⟨c0, c2, by simp, fun h0 => by rw [h0] at e; simp at e, htorn0 (hV.disk.sub (fun i hi => List.mem_cons_of_mem _ hi))⟩)⟩
    · (repeat (first | refine Run.adm rfl ?_ | refine Run.seq ?_ | ((first | apply Run.opS rfl | apply Run.condS); (· (simp -implicitDefEqProofs; first | exact ⟨rfl, rfl⟩ | exact rfl)))))
      refine Run.retS Tryz.func11 r11_ok trivial (by simp [r11]; rfl) ?_
      refine ⟨sU.trans sV, .inr (.inr ⟨c0, c2, by simp, fun h0 => by rw [h0] at e2; exact absurd e2 (by decide), m, by omega, m, [], us ++ [recB mv ids], us.length, nxF fu, ?_, by simp, by simpa using hall2, by simp; omega, by simp, fun j hj1 hj2 => ?_⟩)⟩
      · have : HFb m [] ++ [HLb m [] (us ++ [recB mv ids]) us.length] = [⟨m, us.flatMap frmB ++ frmB (recB mv ids), (us.flatMap frmB).length⟩] := by simp [HFb, HLb]
        rw [this]
        exact hV.disk.sub (fun i hi => List.mem_cons_of_mem _ hi)
      · simp only [List.length_append, List.length_singleton] at hj2
        by_cases hj : j = us.length
        · exact ⟨(m0, ids0), .inl rfl, by rw [hj]; simpa using h5⟩
        · refine ⟨(mv, ids), .inr rfl, ?_⟩
          rw [take_only _ _ (by simp; omega)]
          simpa using LastIs.snoc (T := us) (st := (mv, ids)) c2
    · (repeat (first | refine Run.adm rfl ?_ | refine Run.seq ?_ | ((first | apply Run.opS rfl | apply Run.condS); (· (simp -implicitDefEqProofs; first | exact ⟨rfl, rfl⟩ | exact rfl)))))
      refine Run.retS Tryz.func11 r11_ok trivial (by simp [r11]; rfl) ?_
      refine ⟨sU.trans sV, .inr (.inl ⟨c0, c2, by simp, m, us ++ [recB mv ids], nxF (nxF fu), by simp; omega, by simp; omega, fun h0 => by rw [h0]; rfl, lg, lts ++ [(recB mv ids, m)], by simp; omega, ?_, ?_, hall2, .snoc (st := (mv, ids)) c2, hbL⟩)⟩
      · simpa using hV
      · have : ((us ++ [recB mv ids]).length : Int) = us.length + 1 := by simp
        unfold BookAt at v1 ⊢
        rw [v1, this]
  · have hge : us.length = 16 := by omega
    have hge' : ¬ (us.length : Int) < 16 := by omega
    (repeat (first | refine Run.adm rfl ?_ | refine Run.seq ?_ | ((first | apply Run.opS rfl | apply Run.condS); (· (simp -implicitDefEqProofs [z1, z2, hlt, hge']; first | exact ⟨rfl, rfl⟩ | exact rfl)))))
    rw [← hU]
    refine Run.opC rfl rfl rfl (WalOwn.roll (f := ⟨m, us.flatMap frmB, (us.flatMap frmB).length⟩) hUw hR (by simp only; omega)) ?_
    rintro v V1 (⟨e, rfl, hV, stV⟩ | ⟨e, e2, rfl, hV, stV⟩ | ⟨e, e2, rfl, hV, stV⟩)
    · (repeat (first | refine Run.adm rfl ?_ | refine Run.seq ?_ | ((first | apply Run.opS rfl | apply Run.condS); (· (simp -implicitDefEqProofs; first | exact ⟨rfl, rfl⟩ | exact rfl)))))
      refine Run.retS Tryz.func11 r11_ok trivial (by simp [r11]; rfl) ?_
      exact ⟨sU.trans stV.tl, .inr (.inr ⟨c0, c2, by simp, fun h0 => by rw [h0] at e; simp at e, htorn0 (hV.disk.sub (fun i hi => List.mem_cons_of_mem _ hi))⟩)⟩
    · (repeat (first | refine Run.adm rfl ?_ | refine Run.seq ?_ | ((first | apply Run.opS rfl | apply Run.condS); (· (simp -implicitDefEqProofs; first | exact ⟨rfl, rfl⟩ | exact rfl)))))
      refine Run.retS Tryz.func11 r11_ok trivial (by simp [r11]; rfl) ?_
      exact ⟨sU.trans stV.tl, .inr (.inr ⟨c0, c2, by simp, fun h0 => by rw [h0] at e2; exact absurd e2 (by decide), htorn0 (hV.disk.sub (fun i hi => List.mem_cons_of_mem _ hi))⟩)⟩
    have v1 := (stV bk (by simp)).trans u1
    have v2 : ∀ o, (V1.set bk o)[bk]? = some o := fun o => setG v1 o
    simp only at hV
    (repeat (first | refine Run.adm rfl ?_ | refine Run.seq ?_ | ((first | apply Run.opS rfl | apply Run.condS); (· (simp -implicitDefEqProofs [v1]; first | exact ⟨rfl, rfl⟩ | exact rfl)))))
    obtain ⟨V2, hV2⟩ : ∃ V2, V2 = V1.set bk (.row [.ptr lg 0, .int .i64 mv, .vs (ids.map encN) 1, .int .i64 0]) := ⟨_, rfl⟩
    have hVw : WalOwn X (bk :: L) d (LD (([] ++ [⟨m, us.flatMap frmB, (us.flatMap frmB).length⟩]) ++ [⟨m + 1, [], 0⟩]) (nxF (nxF fu)) false) lg lts (m + 1) V2 := by rw [hV2]; exact hV.put (by simp) _
    have sV2 : StayL L Z V2 := by rw [hV2]; exact (sU.trans stV.tl).put hbL _
    have hVb : BookAt V2 bk lg mv ids 0 := by rw [hV2]; exact setG v1 _
    have hR2 : Ris (([] ++ [⟨m, us.flatMap frmB, (us.flatMap frmB).length⟩]) ++ [⟨m + 1, [], 0⟩]) := hR.snoc (fun a ha => by simp at ha; rw [ha]; simp) (by simp only; omega)
    rw [← hV2]
    refine Run.opC rfl rfl rfl (puts_tri (f := ⟨m + 1, [], 0⟩) hVw hVb hbL hR2 (by omega) c2 (by omega) (by simp)) ?_
    rintro v W1 ⟨w1, sW, ⟨e3, rfl, hW⟩ | ⟨e3, e4, rfl, hW⟩ | ⟨e3, e4, rfl, hW⟩⟩
    · have wb : W1[bk]? = some _ := w1
      (repeat (first | refine Run.adm rfl ?_ | refine Run.seq ?_ | ((first | apply Run.opS rfl | apply Run.condS); (· (simp -implicitDefEqProofs; first | exact ⟨rfl, rfl⟩ | exact rfl)))))
      refine Run.retS Tryz.func11 r11_ok trivial (by simp [r11]; rfl) ?_
      refine ⟨sV2.trans sW, .inr (.inr ⟨c0, c2, by simp, fun h0 => by rw [h0] at e3; exact absurd e3 (by decide), m + 1, by omega, m, [us], [], 0, nxF (nxF fu), ?_, by simp, by simpa using h4, by simp; omega, by simp, fun j hj1 hj2 => ⟨(m0, ids0), .inl rfl, by simpa using h5⟩⟩)⟩
      · have : HFb m [us] ++ [HLb m [us] [] 0] = ([] ++ [⟨m, us.flatMap frmB, (us.flatMap frmB).length⟩]) ++ [⟨m + 1, [], 0⟩] := by simp [HFb, HLb]
        rw [this]
        exact hW.disk.sub (fun i hi => List.mem_cons_of_mem _ hi)
    · (repeat (first | refine Run.adm rfl ?_ | refine Run.seq ?_ | ((first | apply Run.opS rfl | apply Run.condS); (· (simp -implicitDefEqProofs; first | exact ⟨rfl, rfl⟩ | exact rfl)))))
      refine Run.retS Tryz.func11 r11_ok trivial (by simp [r11]; rfl) ?_
      refine ⟨sV2.trans sW, .inr (.inr ⟨c0, c2, by simp, fun h0 => by rw [h0] at e4; exact absurd e4 (by decide), m + 1, by omega, m, [us], [recB mv ids], 0, nxF (nxF (nxF fu)), ?_, by simp, by simpa using hall2, by simp; omega, by simp, fun j hj1 hj2 => ?_⟩)⟩
      · have : HFb m [us] ++ [HLb m [us] [recB mv ids] 0] = ([] ++ [⟨m, us.flatMap frmB, (us.flatMap frmB).length⟩]) ++ [⟨m + 1, [] ++ frmB (recB mv ids), 0⟩] := by simp [HFb, HLb]
        rw [this]
        exact hW.disk.sub (fun i hi => List.mem_cons_of_mem _ hi)
      · simp only [List.length_singleton] at hj2
        by_cases hj : j = 0
        · exact ⟨(m0, ids0), .inl rfl, by rw [hj]; simpa using h5⟩
        · refine ⟨(mv, ids), .inr rfl, ?_⟩
          rw [take_only _ _ (by simp; omega)]
          simpa using LastIs.snoc (T := us) (st := (mv, ids)) c2
    · have wb : W1[bk]? = some _ := w1
      simp only [List.nil_append] at hW
      have hR3 : Ris ([⟨m, us.flatMap frmB, (us.flatMap frmB).length⟩] ++ [⟨m + 1, frmB (recB mv ids), (frmB (recB mv ids)).length⟩]) := hR2.put rfl
      have hdr := drop_own (b := ((m + 1 : Nat) : Int)) hW hR3 (by simp; omega)
      have hlow : ¬ ((m + 1 : Nat) : Int) ≤ (m : Int) := by omega
      have hlow2 : ((m + 1 : Nat) : Int) ≤ ((m + 1 : Nat) : Int) := by omega
      (repeat (first | refine Run.adm rfl ?_ | refine Run.seq ?_ | ((first | apply Run.opS rfl | apply Run.condS); (· (simp -implicitDefEqProofs [wb]; first | exact ⟨rfl, rfl⟩ | exact rfl)))))
      refine Run.opC rfl rfl rfl hdr ?_
      rintro v W2 (⟨e5, -⟩ | ⟨-, rfl, hW2, stW2⟩)
      · omega
      have wb2 := (stW2 bk (by simp)).trans wb
      by_cases hb : nxF (nxF (nxF (nxF fu))) = 0
      · have hgo : dropGo ((m + 1 : Nat) : Int) [] ([⟨m, us.flatMap frmB, (us.flatMap frmB).length⟩] ++ [⟨m + 1, frmB (recB mv ids), (frmB (recB mv ids)).length⟩]) (nxF (nxF (nxF (nxF fu)))) false = (50, [⟨m, us.flatMap frmB, (us.flatMap frmB).length⟩, ⟨m + 1, frmB (recB mv ids), (frmB (recB mv ids)).length⟩], nxF (nxF (nxF (nxF fu))), true) := by
          simp only [List.cons_append, List.nil_append]
          rw [dropGo, if_neg hlow, if_pos (.inr hb)]; rfl
        rw [hgo] at hW2 ⊢
        (repeat (first | refine Run.adm rfl ?_ | refine Run.seq ?_ | ((first | apply Run.opS rfl | apply Run.condS); (· (simp -implicitDefEqProofs; first | exact ⟨rfl, rfl⟩ | exact rfl)))))
        refine Run.retS Tryz.func11 r11_ok trivial (by simp [r11]; rfl) ?_
        refine ⟨(sV2.trans sW).trans stW2.tl, .inr (.inr ⟨c0, c2, by simp, fun h0 => by rw [h0] at hb; exact absurd hb (by decide), m + 1, by omega, m, [us], [recB mv ids], 1, nxF (nxF (nxF (nxF fu))), ?_, by simp, by simpa using hall2, by simp; omega, by simp, fun j hj1 hj2 => ⟨(mv, ids), .inr rfl, ?_⟩⟩)⟩
        · have : HFb m [us] ++ [HLb m [us] [recB mv ids] 1] = [⟨m, us.flatMap frmB, (us.flatMap frmB).length⟩, ⟨m + 1, frmB (recB mv ids), (frmB (recB mv ids)).length⟩] := by simp [HFb, HLb]
          rw [this]
          exact hW2.disk.sub (fun i hi => List.mem_cons_of_mem _ hi)
        · rw [take_only _ _ (by simp; omega)]
          simpa using LastIs.snoc (T := us) (st := (mv, ids)) c2
      · have hgo : dropGo ((m + 1 : Nat) : Int) [] ([⟨m, us.flatMap frmB, (us.flatMap frmB).length⟩] ++ [⟨m + 1, frmB (recB mv ids), (frmB (recB mv ids)).length⟩]) (nxF (nxF (nxF (nxF fu)))) false = (0, [⟨m + 1, frmB (recB mv ids), (frmB (recB mv ids)).length⟩], nxF (nxF (nxF (nxF (nxF fu)))), false) := by
          simp only [List.cons_append, List.nil_append]
          rw [dropGo, if_neg hlow, if_neg (by simp [hb]), dropGo, if_pos hlow2, dropGo]; rfl
        rw [hgo] at hW2 ⊢
        (repeat (first | refine Run.adm rfl ?_ | refine Run.seq ?_ | ((first | apply Run.opS rfl | apply Run.condS); (· (simp -implicitDefEqProofs; first | exact ⟨rfl, rfl⟩ | exact rfl)))))
        refine Run.retS Tryz.func11 r11_ok trivial (by simp [r11]; rfl) ?_
        refine ⟨(sV2.trans sW).trans stW2.tl, .inr (.inl ⟨c0, c2, by simp, m + 1, [recB mv ids], nxF (nxF (nxF (nxF (nxF fu)))), by simp; omega, by simp, fun h0 => by rw [h0]; rfl, lg, _, ?_, by simpa using hW2, by simpa [BookAt] using wb2, fun r hr => ⟨(mv, ids), c2, List.mem_singleton.1 hr⟩, .snoc (T := []) (st := (mv, ids)) c2, hbL⟩)⟩
        have := stayT_len ((m + 1 : Nat) : Int) (lts ++ [(recB mv ids, m + 1)])
        simp at this ⊢; omega

end Go.Proofs.YthphkcpbglhabaaGreatDoor
