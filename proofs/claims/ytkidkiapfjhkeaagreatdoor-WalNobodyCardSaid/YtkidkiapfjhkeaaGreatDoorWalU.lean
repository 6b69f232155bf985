/-
  Layer 06, part U: WalCrash.
-/
import Derived.Test.YtkidkiapfjhkeaaGreatDoorWalT
namespace Go.Proofs.YtkidkiapfjhkeaaGreatDoor
open Sx Go
set_option maxRecDepth 100000
set_option linter.unusedSimpArgs false
set_option linter.unusedVariables false
set_option linter.unnecessarySimpa false
attribute [local simp] stepV condR boundsC appendG appendO copyV srcC guardB isCall opStep Opd.ev put readAt aBin aUn args0 V.celled V.ones V.one V.cells putAt bounds bound1 elemsOf srcOf appendV fillAt fillEl V.pures V.pure unwind evs ARes.ev mkRes V.ren V.renL O.ren eqCells eq1 aEq aMM hasTy hasTyN okTy mmGo Known HLe OLe VsLe.refl VLe.refl VLe.cap Stay VsLe V.frz V.frzL O.frz fr clearV rn KnownR Objs OLeO ObjsE nm back setAll ren_ite take_map_len List.take_of_length_le
attribute [local simp ↓] upd_app tl_cons tl_nil
attribute [local simp] encS_ren encS_ones encS_len encS_take KnownS VLe.refl

/-- a new object beside the log -/
theorem WalOwn.more {X : List O} {L : List Nat} {d lg n : Nat} {D : Dk} {Y : List O} {ts : List (Bs × Nat)} (h : WalOwn X L d D lg ts n Y) (o : O) : WalOwn X (Y.length :: L) d D lg ts n (Y ++ [o]) := by
  obtain ⟨a, ho, na, naL, nlL, g1, g2⟩ := h
  have h1 := ho.lt (i := a) (by simp)
  have h2 := ho.lt (i := lg) (by simp)
  refine ⟨a, (ho.more [o] [Y.length] (by intro i hi; simp at hi; simp [hi])).sub fun i hi => ?_, na, fun hm => ?_, fun hm => ?_, getA g1 _, getA g2 _⟩
  · simp only [List.mem_cons, List.mem_append, List.not_mem_nil, or_false] at hi ⊢
    rcases hi with hi | hi | hi | hi
    · exact .inl (.inl hi)
    · exact .inl (.inr (.inl hi))
    · exact .inr hi
    · exact .inl (.inr (.inr hi))
  · rcases List.mem_cons.1 hm with hm | hm
    · omega
    · exact naL hm
  · rcases List.mem_cons.1 hm with hm | hm
    · omega
    · exact nlL hm

def more1 : Bs := [109, 111, 114, 101]
theorem none_LD : (⟨[], -1, false⟩ : Dk) = LD [] (-1) false := rfl

/-- a new disk's log -/
theorem first_open {X : List O} {d : Nat} {Y : List O} (h : Own X [] d ⟨[], -1, false⟩ Y) :
    Tri Tryz.prog 9 [.ptr d 0, .int .i64 0] Y (fun v Z => ∃ lg, v = .tup [.ptr lg 0, .int .i64 0] ∧ LogIs X d lg [] [] 0 [] (-1) false Z) :=
  (open_own (frm := 0) (fs := []) h ⟨List.Pairwise.nil, by simp⟩ (by decide) (by simp) (by simp) (by simp [opnT])).mono fun v Z ⟨lg, g1, _, g2, _⟩ => ⟨lg, g1, Nat.le_refl _, rfl, [], rfl, g2⟩

set_option maxHeartbeats 4000000 in
theorem crash_law (texts : List Bs) (a0 a1 : Int) (keep : List Int) : Tri Tryz.prog 3 [.vs (texts.map encS) 1, .agg [.int .i64 a0, .int .i64 a1], .vs (keep.map encN) 1] [] (fun v H => v = .bool true ∧ H = []) := by
  refine Tri.of_run' Tryz.func3 rfl c3_ok (by simp [Tryz.ntmps3]) ?_
  have hfin : ∀ {k t h}, AtEnd k → t 6 = .bool true → Run ⟨Tryz.prog, 3, Tryz.f3.ntmps, [], fun v H => v = .bool true ∧ H = []⟩ ⟨k, t, h⟩ := by
    intro k t h hk h2
    refine Run.ret0 rfl Tryz.func3 r3_ok hk (by simp [r3]; rfl) ?_ (by simp [h2])
    exact ⟨by simp [h2], rfl⟩
  (repeat (first | refine Run.adm rfl ?_ | refine Run.seq ?_ | ((first | apply Run.opS rfl | apply Run.condS); (· (simp -implicitDefEqProofs; first | exact ⟨rfl, rfl⟩ | exact rfl)))))
  refine Run.opC rfl rfl rfl (new_own _) ?_
  rintro v Y0 ⟨d, rfl, h0⟩
  (repeat (first | refine Run.adm rfl ?_ | refine Run.seq ?_ | ((first | apply Run.opS rfl | apply Run.condS); (· (simp -implicitDefEqProofs; first | exact ⟨rfl, rfl⟩ | exact rfl)))))
  refine Run.opC rfl (by simp) rfl (first_open h0) ?_
  rintro v Y1 ⟨lg, rfl, h1⟩
  by_cases hbig : 40 < texts.length ∨ 10 < keep.length
  · by_cases hb1 : 40 < texts.length
    · have hb1' : (40 : Int) < texts.length := by omega
      (repeat (first | refine Run.adm rfl ?_ | refine Run.seq ?_ | ((first | apply Run.opS rfl | apply Run.condS); (· (simp -implicitDefEqProofs [hb1, hb1']; first | exact ⟨rfl, rfl⟩ | exact rfl)))))
      refine Run.opC rfl (by simp) rfl (awake_at _) ?_
      rintro v H ⟨rfl, rfl⟩
      (repeat (first | refine Run.adm rfl ?_ | refine Run.seq ?_ | ((first | apply Run.opS rfl | apply Run.condS); (· (simp -implicitDefEqProofs; first | exact ⟨rfl, rfl⟩ | exact rfl)))))
      exact hfin trivial (by simp)
    · have hb1' : ¬ (40 : Int) < texts.length := by omega
      have hb2 : 10 < keep.length := by omega
      have hb2' : (10 : Int) < keep.length := by omega
      (repeat (first | refine Run.adm rfl ?_ | refine Run.seq ?_ | ((first | apply Run.opS rfl | apply Run.condS); (· (simp -implicitDefEqProofs [hb1, hb1', hb2, hb2']; first | exact ⟨rfl, rfl⟩ | exact rfl)))))
      refine Run.opC rfl (by simp) rfl (awake_at _) ?_
      rintro v H ⟨rfl, rfl⟩
      (repeat (first | refine Run.adm rfl ?_ | refine Run.seq ?_ | ((first | apply Run.opS rfl | apply Run.condS); (· (simp -implicitDefEqProofs; first | exact ⟨rfl, rfl⟩ | exact rfl)))))
      exact hfin trivial (by simp)
  have hb1 : ¬ 40 < texts.length := by omega
  have hb1' : ¬ (40 : Int) < texts.length := by omega
  have hb2 : ¬ 10 < keep.length := by omega
  have hb2' : ¬ (10 : Int) < keep.length := by omega
  clear hbig
  obtain ⟨X, hX⟩ : ∃ X, X = [O.row [V.int .i64 a0, .int .i64 a1]] := ⟨_, rfl⟩
  have hX0 : X[0]? = some (O.row [V.int .i64 a0, .int .i64 a1]) := by rw [hX]; rfl
  (repeat (first | refine Run.adm rfl ?_ | refine Run.seq ?_ | ((first | apply Run.opS rfl | apply Run.condS); (· (simp -implicitDefEqProofs [hb1, hb1', hb2, hb2']; first | exact ⟨rfl, rfl⟩ | exact rfl)))))
  rw [← hX] at h1
  clear h0 hX
  refine Run.sl [(0, .vs (texts.map encS) 1), (2, .vs (keep.map encN) 1), (4, .ptr 0 0), (7, .ptr d 0), (8, .ptr lg 0), (10, .int .i64 (0 : Nat)), (11, .int .i64 (0 : Nat))] (by simp) ?_
  refine Run.loopS (fun (x : Nat × Nat × List O) => ([(0, .vs (texts.map encS) 1), (2, .vs (keep.map encN) 1), (4, .ptr 0 0), (7, .ptr d 0), (8, .ptr lg 0), (10, .int .i64 x.2.1), (11, .int .i64 x.1)], x.2.2))
    (fun x => x.1 ≤ texts.length ∧ (∀ s ∈ texts.take x.1, s.length ≤ 100) ∧ ∃ gs g k, x.2.1 ≤ gs.flatten.length + k ∧ gs.length ≤ x.1 ∧ LogIs X d lg gs g k (texts.take x.1) (-1) false x.2.2) (fun x => texts.length - x.1) ?_ (0, 0, Y1) ⟨Nat.zero_le _, by simp, [], [], 0, by simp, by simp, by simpa using h1⟩
  rintro ⟨i, sure, Z⟩ ⟨hi, hsh, gs, g, k, hsu, hgl, hZ⟩ ih
  simp only at hi hsh hsu hgl hZ ih ⊢
  have hT1 : ∀ s ∈ texts.take i, s.length ≤ 1000 := fun s hs => by have := hsh s hs; omega
  have hT2 : (texts.take i).length ≤ 1000 := by rw [List.length_take]; omega
  have hfl : (gs.flatten ++ g).length = i := by rw [hZ.2.1, List.length_take]; omega
  rw [List.length_append] at hfl
  by_cases hlt : i < texts.length
  · obtain ⟨s, hs, hsi, -, -⟩ := getL hlt
    have hlt' : (i : Int) < texts.length := by omega
    have hw := wrap_small (n := (i : Int) + 1) (by omega) (by omega)
    have hnx : texts.take (i + 1) = texts.take i ++ [s] := by rw [List.take_add_one, hs]; rfl
    by_cases hlong : 100 < s.length
    · have hlong' : (100 : Int) < s.length := by omega
      (repeat (first | refine Run.adm rfl ?_ | refine Run.seq ?_ | ((first | apply Run.opS rfl | apply Run.condS); (· (simp -implicitDefEqProofs [hlt, hlt', hs, hsi, encS, hlong, hlong']; first | exact ⟨rfl, rfl⟩ | exact rfl)))))
      refine Run.opC rfl rfl rfl (awake_at _) ?_
      rintro v H ⟨rfl, rfl⟩
      (repeat (first | refine Run.adm rfl ?_ | refine Run.seq ?_ | ((first | apply Run.opS rfl | apply Run.condS); (· (simp -implicitDefEqProofs; first | exact ⟨rfl, rfl⟩ | exact rfl)))))
      exact hfin trivial (by simp)
    have hlong' : ¬ (100 : Int) < s.length := by omega
    have hsh2 : ∀ x ∈ texts.take (i + 1), x.length ≤ 100 := by
      rw [hnx]
      intro x hx
      rcases List.mem_append.1 hx with hx | hx
      · exact hsh x hx
      · rw [List.mem_singleton.1 hx]; omega
    have hT3 : ∀ s ∈ texts.take (i + 1), s.length ≤ 1000 := fun s hs => by have := hsh2 s hs; omega
    (repeat (first | refine Run.adm rfl ?_ | refine Run.seq ?_ | ((first | apply Run.opS rfl | apply Run.condS); (· (simp -implicitDefEqProofs [hlt, hlt', hs, hsi, encS, hlong, hlong']; first | exact ⟨rfl, rfl⟩ | exact rfl)))))
    refine Run.opC rfl rfl rfl (hZ.add (by omega) hT1 hT2 s (by omega)) ?_
    rintro v W (⟨e, -⟩ | ⟨-, rfl, hW⟩)
    · exact absurd e (by simp)
    have hnf : nxF (-1) = -1 := rfl
    rw [hnf, ← hnx] at hW
    have wb := hW.2.2.choose_spec.2.base hX0
    (repeat (first | refine Run.adm rfl ?_ | refine Run.seq ?_ | ((first | apply Run.opS rfl | apply Run.condS); (· (simp -implicitDefEqProofs [wb, hlt, hlt']; first | exact ⟨rfl, rfl⟩ | exact rfl)))))
    refine Run.joinP (fun (x : Nat × Nat × List O) => ([(0, .vs (texts.map encS) 1), (2, .vs (keep.map encN) 1), (4, .ptr 0 0), (7, .ptr d 0), (8, .ptr lg 0), (10, .int .i64 x.1), (11, .int .i64 i)], x.2.2))
      (fun x => x.1 ≤ gs.flatten.length + x.2.1 ∧ LogIs X d lg gs (g ++ [s]) x.2.1 (texts.take (i + 1)) (-1) false x.2.2) ?_ ?_
    rotate_left
    · intro k hr
      by_cases hbit : iAnd .i64 (iShr .i64 a0 i) 1 = 1
      · (repeat (first | refine Run.adm rfl ?_ | refine Run.seq ?_ | ((first | apply Run.opS rfl | apply Run.condS); (· (simp -implicitDefEqProofs [hbit]; first | exact ⟨rfl, rfl⟩ | exact rfl)))))
        refine Run.opC rfl rfl rfl (hW.flush (by omega)) ?_
        rintro v W2 (⟨e, -⟩ | ⟨-, rfl, hW2⟩)
        · exact absurd e (by simp)
        (repeat (first | refine Run.adm rfl ?_ | refine Run.seq ?_ | ((first | apply Run.opS rfl | apply Run.condS); (· (simp -implicitDefEqProofs; first | exact ⟨rfl, rfl⟩ | exact rfl)))))
        refine Run.sl _ ?_ (hr (i + 1, _, W2) ⟨by simp only [List.length_append, List.length_singleton]; omega, hW2⟩)
        simp [hw]
      · (repeat (first | refine Run.adm rfl ?_ | refine Run.seq ?_ | ((first | apply Run.opS rfl | apply Run.condS); (· (simp -implicitDefEqProofs [hbit]; first | exact ⟨rfl, rfl⟩ | exact rfl)))))
        refine Run.sl _ ?_ (hr (sure, _, W) ⟨hsu, hW⟩)
        simp
    rintro ⟨sure2, k2, W2⟩ ⟨hsu2, hW2⟩
    simp only at hsu2 hW2 ⊢
    have wb2 := hW2.2.2.choose_spec.2.base hX0
    by_cases hbit : iAnd .i64 (iShr .i64 a1 i) 1 = 1
    · (repeat (first | refine Run.adm rfl ?_ | refine Run.seq ?_ | ((first | apply Run.opS rfl | apply Run.condS); (· (simp -implicitDefEqProofs [wb2, hbit]; first | exact ⟨rfl, rfl⟩ | exact rfl)))))
      refine Run.opC rfl rfl rfl (hW2.roll (by omega)) ?_
      rintro v W3 (⟨k', fu', -, e, -⟩ | ⟨-, -, rfl, hW3⟩)
      · exact absurd e (by decide)
      have hfe : (gs ++ [g ++ [s]]).flatten.length = i + 1 := by
        rw [List.flatten_append, List.length_append]
        simp only [List.flatten_cons, List.flatten_nil, List.append_nil, List.length_append, List.length_singleton]
        omega
      (repeat (first | refine Run.adm rfl ?_ | refine Run.seq ?_ | ((first | apply Run.opS rfl | apply Run.condS); (· (simp -implicitDefEqProofs; first | exact ⟨rfl, rfl⟩ | exact rfl)))))
      refine Run.sl _ ?_ (ih (i + 1, i + 1, W3) ⟨by simp only; omega, hsh2, gs ++ [g ++ [s]], [], 0, by simp only; omega, by simp only [List.length_append, List.length_singleton]; omega, hW3⟩ (by simp only; omega))
      simp [hw]
    · (repeat (first | refine Run.adm rfl ?_ | refine Run.seq ?_ | ((first | apply Run.opS rfl | apply Run.condS); (· (simp -implicitDefEqProofs [wb2, hbit]; first | exact ⟨rfl, rfl⟩ | exact rfl)))))
      refine Run.sl _ ?_ (ih (i + 1, sure2, W2) ⟨by simp only; omega, hsh2, gs, g ++ [s], k2, hsu2, by simp only; omega, hW2⟩ (by simp only; omega))
      simp [hw]
  · have : i = texts.length := by omega
    subst this
    rw [List.take_length] at hZ hT1 hT2 hsh
    (repeat (first | refine Run.adm rfl ?_ | refine Run.seq ?_ | ((first | apply Run.opS rfl | apply Run.condS); (· (simp -implicitDefEqProofs; first | exact ⟨rfl, rfl⟩ | exact rfl)))))
    refine Run.opC rfl rfl rfl (hZ.crash (by omega) hT1 hT2 keep (by omega)) ?_
    rintro v W ⟨rfl, j, hj1, hj2, hW⟩
    have hgs := (hZ.short hT1).2
    obtain ⟨-, hTT, -⟩ := hZ
    have hul : (gs.flatten ++ g.take j).length = gs.flatten.length + j := by simp; omega
    (repeat (first | refine Run.adm rfl ?_ | refine Run.seq ?_ | ((first | apply Run.opS rfl | apply Run.condS); (· (simp -implicitDefEqProofs; first | exact ⟨rfl, rfl⟩ | exact rfl)))))
    refine Run.opC rfl (by simp) rfl (hW.open (by omega) hgs (by omega)) ?_
    rintro v W1 ⟨lg1, B, lts, rfl, hB, hBl, hlts, hW1⟩
    (repeat (first | refine Run.adm rfl ?_ | refine Run.seq ?_ | ((first | apply Run.opS rfl | apply Run.condS); (· (simp -implicitDefEqProofs; first | exact ⟨rfl, rfl⟩ | exact rfl)))))
    refine Run.opC rfl rfl rfl (WalOwn.all hW1 (by have := congrArg List.length hlts; rw [List.length_map] at this; omega)) ?_
    rintro v W2 ⟨rfl, hW2, -⟩
    rw [hlts]
    have hpre : texts.take (gs.flatten.length + j) = gs.flatten ++ g.take j := by
      rw [← hTT, List.take_append, List.take_of_length_le (by omega)]; congr 2; omega
    obtain ⟨n, hn⟩ : ∃ n, n = gs.flatten.length + j := ⟨_, rfl⟩
    rw [← hn] at hul hpre
    generalize hus : gs.flatten ++ g.take j = us at *
    have hnt : n ≤ texts.length := by omega
    have hmapl : ((us.map encS).length : Int) = n := by simp [hul]
    have c1 : ¬ (n : Int) < sure := by omega
    have c1' : ¬ n < sure := by omega
    have c2 : ¬ (texts.length : Int) < n := by omega
    have c2' : ¬ texts.length < n := by omega
    have c3 : (n : Int) ≤ texts.length := by omega
    (repeat (first | refine Run.adm rfl ?_ | refine Run.seq ?_ | ((first | apply Run.opS rfl | apply Run.condS); (· (simp -implicitDefEqProofs [hul, c1, c1', c2, c2', c3, hnt]; first | exact ⟨rfl, rfl⟩ | exact rfl)))))
    have hpe : ((texts.map encS).drop 0).take n = us.map encS := by rw [List.drop_zero, ← List.map_take, hpre]
    have hpe2 : (texts.map encS).take n = us.map encS := by rw [← List.map_take, hpre]
    simp only [hpe, hpe2]
    refine Run.opC rfl (by simp) rfl (same_at us us (by omega) _) ?_
    rintro v H ⟨rfl, rfl⟩
    have hRo : Ris (HF gs ++ [⟨gs.length, B, B.length⟩] ++ [⟨gs.length + 1, [], 0⟩]) := (HL_ris (by omega) _ _).snoc (fun a ha => by
      rcases List.mem_append.1 ha with ha | ha
      · have := HF_num ha; simp only; omega
      · rw [List.mem_singleton.1 ha]; simp) (by simp only; omega)
    have hll : lts.length ≤ 1000 := by have := congrArg List.length hlts; rw [List.length_map] at this; omega
    have hsm := sixF_len more1 (by decide)
    (repeat (first | refine Run.adm rfl ?_ | refine Run.seq ?_ | ((first | apply Run.opS rfl | apply Run.condS); (· (simp -implicitDefEqProofs; first | exact ⟨rfl, rfl⟩ | exact rfl)))))
    refine Run.opC rfl (by simp) rfl (WalOwn.addC (f := ⟨gs.length + 1, [], 0⟩) hW2 hRo (by omega) more1 (by decide) (by simp only [List.length_nil]; omega)) ?_
    rintro v W3 ⟨rfl, hW3, -⟩
    simp only [List.nil_append] at hW3
    have hR3 : Ris (HF gs ++ [⟨gs.length, B, B.length⟩] ++ [⟨gs.length + 1, frmB more1, 0⟩]) := hRo.put rfl
    (repeat (first | refine Run.adm rfl ?_ | refine Run.seq ?_ | ((first | apply Run.opS rfl | apply Run.condS); (· (simp -implicitDefEqProofs; first | exact ⟨rfl, rfl⟩ | exact rfl)))))
    refine Run.opC rfl (by simp) rfl (WalOwn.flushC (f := ⟨gs.length + 1, frmB more1, 0⟩) hW3 hR3) ?_
    rintro v W4 ⟨rfl, hW4, -⟩
    have hR4 : Ris (HF gs ++ [⟨gs.length, B, B.length⟩] ++ [⟨gs.length + 1, frmB more1, (frmB more1).length⟩]) := hR3.put rfl
    (repeat (first | refine Run.adm rfl ?_ | refine Run.seq ?_ | ((first | apply Run.opS rfl | apply Run.condS); (· (simp -implicitDefEqProofs; first | exact ⟨rfl, rfl⟩ | exact rfl)))))
    refine Run.opC rfl (by simp) rfl (crash0_LD hW4.disk hR4) ?_
    rintro v W5 ⟨rfl, nf, -, hW5, -⟩
    have hcut : (HF gs ++ [⟨gs.length, B, B.length⟩] ++ [⟨gs.length + 1, frmB more1, (frmB more1).length⟩] : List LF).map (cutL nf) = HF gs ++ [⟨gs.length, B, B.length⟩] ++ [⟨gs.length + 1, frmB more1, (frmB more1).length⟩] := by
      rw [List.map_append, List.map_append, cut_HF, List.map_singleton, List.map_singleton, cut_full nf _ rfl, cut_full nf _ rfl]
    simp only at hW5
    rw [hcut] at hW5
    have hmt : (allF (frmB more1)).1 = [more1] := by simpa using allF_whole [more1] (by simp [more1])
    have hot : (opnT (HF gs ++ [⟨gs.length, B, B.length⟩] ++ [⟨gs.length + 1, frmB more1, (frmB more1).length⟩])).map (·.1) = us ++ [more1] := by
      rw [opnT_fst, List.flatMap_append, List.flatMap_append, HF_texts gs (fun g hg s hs => by have := hgs g hg s hs; omega)]
      simp only [List.flatMap_cons, List.flatMap_nil, List.append_nil, hB, hmt]
      rw [← hus]
    have hotl : (opnT (HF gs ++ [⟨gs.length, B, B.length⟩] ++ [⟨gs.length + 1, frmB more1, (frmB more1).length⟩])).length ≤ 1000 := by
      have := congrArg List.length hot; rw [List.length_map, List.length_append, List.length_singleton] at this; omega
    have hop := open_own (frm := 0) hW5 hR4 (by decide) (fun f hf => by
      rcases List.mem_append.1 hf with hf | hf
      · rcases List.mem_append.1 hf with hf | hf
        · have := HF_num hf; omega
        · rw [List.mem_singleton.1 hf]; simp only; omega
      · rw [List.mem_singleton.1 hf]; simp only; omega) (fun f hf => by
      rcases List.mem_append.1 hf with hf | hf
      · rcases List.mem_append.1 hf with hf | hf
        · obtain ⟨i, g', hi', rfl⟩ := HF_mem hf
          have hgm := List.mem_of_getElem? hi'
          have h5 := flat_len g' 1000 (by omega) (hgs g' hgm)
          have h6 : g'.length ≤ gs.flatten.length := by
            obtain ⟨P, Q, hPQ⟩ := List.append_of_mem hgm
            rw [hPQ]; simp; omega
          simp only; omega
        · rw [List.mem_singleton.1 hf]; exact hBl
      · rw [List.mem_singleton.1 hf]; simp only; omega) (by omega)
    rw [keepF_all, opnN_snoc] at hop
    (repeat (first | refine Run.adm rfl ?_ | refine Run.seq ?_ | ((first | apply Run.opS rfl | apply Run.condS); (· (simp -implicitDefEqProofs; first | exact ⟨rfl, rfl⟩ | exact rfl)))))
    refine Run.opC rfl (by simp) rfl hop ?_
    rintro v W6 ⟨lg2, rfl, -, hW6, -⟩
    (repeat (first | refine Run.adm rfl ?_ | refine Run.seq ?_ | ((first | apply Run.opS rfl | apply Run.condS); (· (simp -implicitDefEqProofs; first | exact ⟨rfl, rfl⟩ | exact rfl)))))
    refine Run.sl [(0, .vs (texts.map encS) 1), (17, .int .i64 n), (18, .ptr lg2 0), (160, .nils), (161, .vs (texts.map encS) 1), (162, .int .i64 n)] (by simp [hul]) ?_
    have hbn : n * 16 ≤ 70368744177664 := by omega
    have hbn2 : (n + 1) * 16 ≤ 70368744177664 := by omega
    (repeat (first | refine Run.adm rfl ?_ | refine Run.seq ?_ | ((first | apply Run.opS rfl | apply Run.condS); (· (simp -implicitDefEqProofs [c3, hnt, hpe, hpe2, hbn, hul]; first | exact ⟨rfl, rfl⟩ | exact rfl)))))
    have hW7 := hW6.more (O.arr (us.map encS) 1)
    refine Run.opC rfl rfl rfl (WalOwn.all hW7 (by omega)) ?_
    rintro v W7 ⟨rfl, hW8, st8⟩
    rw [hot]
    have w7 : W7[W6.length]? = some (.arr (us.map encS) 1) := (st8 _ (by simp)).trans (by simp)
    have hlw := lt_of_get w7
    have hlw2 : W6.length < W7.length + 1 := by omega
    have w7' : ∀ o, (W7 ++ [o])[W6.length]? = some (.arr (us.map encS) 1) := fun o => getA w7 _
    have hup : ∀ o1 o2 o3, ((W7 ++ [o1]).set W6.length o2 ++ [o3])[W7.length + 1]? = some o3 := fun o1 o2 o3 => by
      rw [List.getElem?_append_right (by simp)]; simp
    (repeat (first | refine Run.adm rfl ?_ | refine Run.seq ?_ | ((first | apply Run.opS rfl | apply Run.condS); (· (simp -implicitDefEqProofs [w7, w7', hul, hbn2]; first | exact ⟨rfl, rfl⟩ | exact rfl)))))
    refine Run.frzS (W7.length + 1) (by rw [hup]) ?_
    refine Run.sl [(166, .vs ((us ++ [more1]).map encS) 1), (169, .vs ((us ++ [more1]).map encS) 1)] (by simp [encS, more1, hul]) ?_
    (repeat (first | refine Run.adm rfl ?_ | refine Run.seq ?_ | ((first | apply Run.opS rfl | apply Run.condS); (· (simp -implicitDefEqProofs; first | exact ⟨rfl, rfl⟩ | exact rfl)))))
    refine Run.opC rfl rfl rfl (same_at (us ++ [more1]) (us ++ [more1]) (by simp; omega) _) ?_
    rintro v H ⟨rfl, rfl⟩
    (repeat (first | refine Run.adm rfl ?_ | refine Run.seq ?_ | ((first | apply Run.opS rfl | apply Run.condS); (· (simp -implicitDefEqProofs; first | exact ⟨rfl, rfl⟩ | exact rfl)))))
    refine Run.opC rfl (by simp) rfl (awake_at _) ?_
    rintro v H ⟨rfl, rfl⟩
    (repeat (first | refine Run.adm rfl ?_ | refine Run.seq ?_ | ((first | apply Run.opS rfl | apply Run.condS); (· (simp -implicitDefEqProofs; first | exact ⟨rfl, rfl⟩ | exact rfl)))))
    exact hfin trivial (by simp)

end Go.Proofs.YtkidkiapfjhkeaaGreatDoor
