/-
  Layer 06, part V: WalFuses.
-/
import Derived.Test.YtkidkiapfjhkeaaGreatDoorWalU
namespace Go.Proofs.YtkidkiapfjhkeaaGreatDoor
open Sx Go
set_option maxRecDepth 100000
set_option linter.unusedSimpArgs false
set_option linter.unusedVariables false
set_option linter.unnecessarySimpa false
attribute [local simp] stepV condR boundsC appendG appendO copyV srcC guardB isCall opStep Opd.ev put readAt aBin aUn args0 V.celled V.ones V.one V.cells putAt bounds bound1 elemsOf srcOf appendV fillAt fillEl V.pures V.pure unwind evs ARes.ev mkRes V.ren V.renL O.ren eqCells eq1 aEq aMM hasTy hasTyN okTy mmGo Known HLe OLe VsLe.refl VLe.refl VLe.cap Stay VsLe V.frz V.frzL O.frz fr clearV rn KnownR Objs OLeO ObjsE nm back setAll ren_ite take_map_len List.take_of_length_le
attribute [local simp ↓] upd_app tl_cons tl_nil
attribute [local simp] encS_ren encS_ones encS_len encS_take KnownS VLe.refl

theorem and255 (n : Int) : ∃ k : Nat, iAnd .i64 n 255 = (k : Int) ∧ k < 256 := by
  have h : ((BitVec.ofInt 64 n &&& BitVec.ofInt 64 255).toNat) ≤ 255 := by
    rw [BitVec.toNat_and]
    exact Nat.le_trans Nat.and_le_right (by decide)
  refine ⟨_, ?_, Nat.lt_of_le_of_lt h (by decide)⟩
  rw [iAnd64, wrap_small (by omega) (by omega)]

theorem LogIs.fuse {X d lg gs g k T fu off Z} (h : LogIs X d lg gs g k T fu off Z) (n : Nat) (hn : n < 256) :
    Tri Tryz.prog 17 [.ptr d 0, .int .i64 n] Z (fun v W => v = .int .i64 0 ∧ LogIs X d lg gs g k T n off W) := by
  obtain ⟨h1, h2, lts, h3, a, ho, na, naL, nlL, hlog⟩ := h
  refine (fuse_own ho n (by omega)).mono fun v W ⟨g1, g2, g3⟩ => ⟨g1, h1, h2, lts, h3, a, ?_, na, naL, nlL, hlog.stay g3⟩
  rw [if_neg (by omega)] at g2
  exact g2
theorem LogIs.offAt {X d lg gs g k T fu off Z} (h : LogIs X d lg gs g k T fu off Z) : Tri Tryz.prog 18 [.ptr d 0] Z (fun v W => v = .bool off ∧ W = Z) := by
  obtain ⟨h1, h2, lts, h3, h4⟩ := h
  exact off_own h4.disk

set_option maxHeartbeats 4000000 in
theorem fuses_law (texts : List Bs) (a0 a1 : Int) (keep : List Int) : Tri Tryz.prog 4 [.vs (texts.map encS) 1, .agg [.int .i64 a0, .int .i64 a1], .vs (keep.map encN) 1] [] (fun v H => v = .bool true ∧ H = []) := by
  refine Tri.of_run' Tryz.func4 rfl c4_ok (by simp [Tryz.ntmps4]) ?_
  have hfin : ∀ {k t h}, AtEnd k → t 6 = .bool true → Run ⟨Tryz.prog, 4, Tryz.f4.ntmps, [], fun v H => v = .bool true ∧ H = []⟩ ⟨k, t, h⟩ := by
    intro k t h hk h2
    refine Run.ret0 rfl Tryz.func4 r4_ok hk (by simp [r4]; rfl) ?_ (by simp [h2])
    exact ⟨by simp [h2], rfl⟩
  (repeat (first | refine Run.adm rfl ?_ | refine Run.seq ?_ | ((first | apply Run.opS rfl | apply Run.condS); (· (simp -implicitDefEqProofs; first | exact ⟨rfl, rfl⟩ | exact rfl)))))
  refine Run.opC rfl rfl rfl (new_own _) ?_
  rintro v Y0 ⟨d, rfl, h0⟩
  (repeat (first | refine Run.adm rfl ?_ | refine Run.seq ?_ | ((first | apply Run.opS rfl | apply Run.condS); (· (simp -implicitDefEqProofs; first | exact ⟨rfl, rfl⟩ | exact rfl)))))
  refine Run.opC rfl (by simp) rfl (first_open h0) ?_
  rintro v Y1 ⟨lg, rfl, h1⟩
  by_cases hbig : 30 < texts.length ∨ 10 < keep.length
  · by_cases hb1 : 30 < texts.length
    · have hb1' : (30 : Int) < texts.length := by omega
      (repeat (first | refine Run.adm rfl ?_ | refine Run.seq ?_ | ((first | apply Run.opS rfl | apply Run.condS); (· (simp -implicitDefEqProofs [hb1, hb1']; first | exact ⟨rfl, rfl⟩ | exact rfl)))))
      refine Run.opC rfl (by simp) rfl (awake_at _) ?_
      rintro v H ⟨rfl, rfl⟩
      (repeat (first | refine Run.adm rfl ?_ | refine Run.seq ?_ | ((first | apply Run.opS rfl | apply Run.condS); (· (simp -implicitDefEqProofs; first | exact ⟨rfl, rfl⟩ | exact rfl)))))
      exact hfin trivial (by simp)
    · have hb1' : ¬ (30 : Int) < texts.length := by omega
      have hb2 : 10 < keep.length := by omega
      have hb2' : (10 : Int) < keep.length := by omega
      (repeat (first | refine Run.adm rfl ?_ | refine Run.seq ?_ | ((first | apply Run.opS rfl | apply Run.condS); (· (simp -implicitDefEqProofs [hb1, hb1', hb2, hb2']; first | exact ⟨rfl, rfl⟩ | exact rfl)))))
      refine Run.opC rfl (by simp) rfl (awake_at _) ?_
      rintro v H ⟨rfl, rfl⟩
      (repeat (first | refine Run.adm rfl ?_ | refine Run.seq ?_ | ((first | apply Run.opS rfl | apply Run.condS); (· (simp -implicitDefEqProofs; first | exact ⟨rfl, rfl⟩ | exact rfl)))))
      exact hfin trivial (by simp)
  have hb1 : ¬ 30 < texts.length := by omega
  have hb1' : ¬ (30 : Int) < texts.length := by omega
  have hb2 : ¬ 10 < keep.length := by omega
  have hb2' : ¬ (10 : Int) < keep.length := by omega
  clear hbig
  obtain ⟨X, hX⟩ : ∃ X, X = [O.row [V.int .i64 a0, V.int .i64 a1]] := ⟨_, rfl⟩
  have hX0 : X[0]? = some (O.row [V.int .i64 a0, V.int .i64 a1]) := by rw [hX]; rfl
  rw [← hX] at h1
  have y0 := h1.2.2.choose_spec.2.base hX0
  obtain ⟨fz, hfz, hfz2⟩ := and255 a0
  (repeat (first | refine Run.adm rfl ?_ | refine Run.seq ?_ | ((first | apply Run.opS rfl | apply Run.condS); (· (simp -implicitDefEqProofs [hb1, hb1', hb2, hb2', y0, hfz]; first | exact ⟨rfl, rfl⟩ | exact rfl)))))
  clear h0 hX
  refine Run.opC rfl rfl rfl (h1.fuse fz hfz2) ?_
  rintro v Y2 ⟨rfl, h2⟩
  (repeat (first | refine Run.adm rfl ?_ | refine Run.seq ?_ | ((first | apply Run.opS rfl | apply Run.condS); (· (simp -implicitDefEqProofs; first | exact ⟨rfl, rfl⟩ | exact rfl)))))
  refine Run.sl [(0, .vs (texts.map encS) 1), (2, .vs (keep.map encN) 1), (4, .ptr 0 0), (7, .ptr d 0), (8, .ptr lg 0), (10, .int .i64 (0 : Nat)), (11, .int .i64 (0 : Nat)), (12, .int .i64 (0 : Nat))] (by simp) ?_
  refine Run.loopS (fun (x : Nat × Nat × List O) => ([(0, .vs (texts.map encS) 1), (2, .vs (keep.map encN) 1), (4, .ptr 0 0), (7, .ptr d 0), (8, .ptr lg 0), (10, .int .i64 x.2.1), (11, .int .i64 x.1), (12, .int .i64 x.1)], x.2.2))
    (fun x => x.1 ≤ texts.length ∧ (∀ s ∈ texts.take x.1, s.length ≤ 100) ∧ ∃ gs g k m fu off, m ≤ x.1 ∧ (off = false → m = x.1) ∧ x.2.1 ≤ gs.flatten.length + k ∧ gs.length ≤ m ∧ LogIs X d lg gs g k (texts.take m) fu off x.2.2) (fun x => texts.length - x.1) ?_ (0, 0, Y2) ⟨Nat.zero_le _, by simp, [], [], 0, 0, _, _, Nat.le_refl _, fun _ => rfl, by simp, by simp, by simpa using h2⟩
  rintro ⟨i, sure, Z⟩ ⟨hi, hsh, gs, g, k, m, fu, off, hm, hoff, hsu, hgl, hZ⟩ ih
  simp only at hi hsh hm hoff hsu hgl hZ ih ⊢
  have hsub : ∀ s ∈ texts.take m, s ∈ texts.take i := fun s hs => by
    have : texts.take m = (texts.take i).take m := by rw [List.take_take, Nat.min_eq_left hm]
    rw [this] at hs; exact List.mem_of_mem_take hs
  have hT1 : ∀ s ∈ texts.take m, s.length ≤ 1000 := fun s hs => by have := hsh s (hsub s hs); omega
  have hT2 : (texts.take m).length ≤ 1000 := by rw [List.length_take]; omega
  have hfl : (gs.flatten ++ g).length = m := by rw [hZ.2.1, List.length_take]; omega
  rw [List.length_append] at hfl
  refine Run.seq ?_
  refine Run.adm rfl ?_
  refine Run.joinP (fun (W : List O) => ([(0, .vs (texts.map encS) 1), (2, .vs (keep.map encN) 1), (4, .ptr 0 0), (7, .ptr d 0), (8, .ptr lg 0), (10, .int .i64 sure), (11, .int .i64 i), (12, .int .i64 i), (61, .bool (decide (i < texts.length ∧ off = false)))], W)) (fun W => W = Z) ?_ ?_
  rotate_left
  · intro k hr
    by_cases hlt : i < texts.length
    · have hlt' : (i : Int) < texts.length := by omega
      (repeat (first | refine Run.adm rfl ?_ | refine Run.seq ?_ | ((first | apply Run.opS rfl | apply Run.condS); (· (simp -implicitDefEqProofs [hlt, hlt']; first | exact ⟨rfl, rfl⟩ | exact rfl)))))
      refine Run.opC rfl (by simp) rfl hZ.offAt ?_
      rintro v H ⟨rfl, rfl⟩
      (repeat (first | refine Run.adm rfl ?_ | refine Run.seq ?_ | ((first | apply Run.opS rfl | apply Run.condS); (· (simp -implicitDefEqProofs; first | exact ⟨rfl, rfl⟩ | exact rfl)))))
      refine Run.sl _ ?_ (hr _ rfl)
      simp [hlt]
    · have hlt' : ¬ (i : Int) < texts.length := by omega
      (repeat (first | refine Run.adm rfl ?_ | refine Run.seq ?_ | ((first | apply Run.opS rfl | apply Run.condS); (· (simp -implicitDefEqProofs [hlt, hlt']; first | exact ⟨rfl, rfl⟩ | exact rfl)))))
      refine Run.sl _ ?_ (hr _ rfl)
      simp [hlt]
  rintro W rfl
  simp only
  by_cases hcont : i < texts.length ∧ off = false
  · obtain ⟨hlt, rfl⟩ := hcont
    obtain ⟨s, hs, hsi, -, -⟩ := getL hlt
    have hlt' : (i : Int) < texts.length := by omega
    have hw := wrap_small (n := (i : Int) + 1) (by omega) (by omega)
    obtain rfl := hoff rfl
    have hnx : texts.take (m + 1) = texts.take m ++ [s] := by rw [List.take_add_one, hs]; rfl
    by_cases hlong : 100 < s.length
    · have hlong' : (100 : Int) < s.length := by omega
      (repeat (first | refine Run.adm rfl ?_ | refine Run.seq ?_ | ((first | apply Run.opS rfl | apply Run.condS); (· (simp -implicitDefEqProofs [hlt, hlt', hs, hsi, encS, hlong, hlong']; first | exact ⟨rfl, rfl⟩ | exact rfl)))))
      refine Run.opC rfl rfl rfl (awake_at _) ?_
      rintro v H ⟨rfl, rfl⟩
      (repeat (first | refine Run.adm rfl ?_ | refine Run.seq ?_ | ((first | apply Run.opS rfl | apply Run.condS); (· (simp -implicitDefEqProofs; first | exact ⟨rfl, rfl⟩ | exact rfl)))))
      exact hfin trivial (by simp)
    have hlong' : ¬ (100 : Int) < s.length := by omega
    have hsh2 : ∀ x ∈ texts.take (m + 1), x.length ≤ 100 := by
      rw [hnx]
      intro x hx
      rcases List.mem_append.1 hx with hx | hx
      · exact hsh x hx
      · rw [List.mem_singleton.1 hx]; omega
    (repeat (first | refine Run.adm rfl ?_ | refine Run.seq ?_ | ((first | apply Run.opS rfl | apply Run.condS); (· (simp -implicitDefEqProofs [hlt, hlt', hs, hsi, encS, hlong, hlong']; first | exact ⟨rfl, rfl⟩ | exact rfl)))))
    refine Run.opC rfl rfl rfl (hZ.add (by omega) hT1 hT2 s (by omega)) ?_
    rintro v W (⟨-, rfl, hW⟩ | ⟨-, rfl, hW⟩)
    · (repeat (first | refine Run.adm rfl ?_ | refine Run.seq ?_ | ((first | apply Run.opS rfl | apply Run.condS); (· (simp -implicitDefEqProofs; first | exact ⟨rfl, rfl⟩ | exact rfl)))))
      refine Run.sl _ ?_ (ih (m + 1, sure, W) ⟨by simp only; omega, hsh2, gs, g, k, m, fu, true, by simp only; omega, (by intro h; cases h), hsu, hgl, hW⟩ (by simp only; omega))
      simp [hw]
    rw [← hnx] at hW
    (repeat (first | refine Run.adm rfl ?_ | refine Run.seq ?_ | ((first | apply Run.opS rfl | apply Run.condS); (· (simp -implicitDefEqProofs; first | exact ⟨rfl, rfl⟩ | exact rfl)))))
    refine Run.opC rfl (by simp) rfl (hW.flush (by omega)) ?_
    rintro v W2 (⟨-, rfl, hW2⟩ | ⟨-, rfl, hW2⟩)
    · (repeat (first | refine Run.adm rfl ?_ | refine Run.seq ?_ | ((first | apply Run.opS rfl | apply Run.condS); (· (simp -implicitDefEqProofs; first | exact ⟨rfl, rfl⟩ | exact rfl)))))
      refine Run.sl _ ?_ (ih (m + 1, sure, W2) ⟨by simp only; omega, hsh2, gs, g ++ [s], k, m + 1, nxF fu, true, Nat.le_refl _, (by intro h; cases h), hsu, by omega, hW2⟩ (by simp only; omega))
      simp [hw]
    have wb := hW2.2.2.choose_spec.2.base hX0
    have hgl2 : (g ++ [s]).length = g.length + 1 := by simp
    by_cases hbit : iAnd .i64 (iShr .i64 a1 m) 1 = 1
    · (repeat (first | refine Run.adm rfl ?_ | refine Run.seq ?_ | ((first | apply Run.opS rfl | apply Run.condS); (· (simp -implicitDefEqProofs [wb, hbit, hlt, hlt']; first | exact ⟨rfl, rfl⟩ | exact rfl)))))
      refine Run.opC rfl rfl rfl (hW2.roll (by omega)) ?_
      rintro v W3 (⟨k', fu', hk', -, rfl, hW3⟩ | ⟨-, -, rfl, hW3⟩)
      · (repeat (first | refine Run.adm rfl ?_ | refine Run.seq ?_ | ((first | apply Run.opS rfl | apply Run.condS); (· (simp -implicitDefEqProofs; first | exact ⟨rfl, rfl⟩ | exact rfl)))))
        refine Run.sl _ ?_ (ih (m + 1, m + 1, W3) ⟨by simp only; omega, hsh2, gs, g ++ [s], k', m + 1, fu', true, Nat.le_refl _, (by intro h; cases h), by simp only; omega, by omega, hW3⟩ (by simp only; omega))
        simp [hw]
      · have hfe : (gs ++ [g ++ [s]]).flatten.length = m + 1 := by
          rw [List.flatten_append, List.length_append]
          simp only [List.flatten_cons, List.flatten_nil, List.append_nil, List.length_append, List.length_singleton]
          omega
        (repeat (first | refine Run.adm rfl ?_ | refine Run.seq ?_ | ((first | apply Run.opS rfl | apply Run.condS); (· (simp -implicitDefEqProofs; first | exact ⟨rfl, rfl⟩ | exact rfl)))))
        refine Run.sl _ ?_ (ih (m + 1, m + 1, W3) ⟨by simp only; omega, hsh2, gs ++ [g ++ [s]], [], 0, m + 1, _, false, Nat.le_refl _, fun _ => rfl, by simp only; omega, by simp only [List.length_append, List.length_singleton]; omega, hW3⟩ (by simp only; omega))
        simp [hw]
    · (repeat (first | refine Run.adm rfl ?_ | refine Run.seq ?_ | ((first | apply Run.opS rfl | apply Run.condS); (· (simp -implicitDefEqProofs [wb, hbit, hlt, hlt']; first | exact ⟨rfl, rfl⟩ | exact rfl)))))
      refine Run.sl _ ?_ (ih (m + 1, m + 1, W2) ⟨by simp only; omega, hsh2, gs, g ++ [s], (g ++ [s]).length, m + 1, _, false, Nat.le_refl _, fun _ => rfl, by simp only; omega, by omega, hW2⟩ (by simp only; omega))
      simp [hw]
  · (repeat (first | refine Run.adm rfl ?_ | refine Run.seq ?_ | ((first | apply Run.opS rfl | apply Run.condS); (· (simp -implicitDefEqProofs [hcont]; first | exact ⟨rfl, rfl⟩ | exact rfl)))))
    refine Run.opC rfl rfl rfl (hZ.crash (by omega) hT1 hT2 keep (by omega)) ?_
    rintro v W1 ⟨rfl, j, hj1, hj2, hW⟩
    have hgs := (hZ.short hT1).2
    obtain ⟨-, hTT, -⟩ := hZ
    have hul : (gs.flatten ++ g.take j).length = gs.flatten.length + j := by simp; omega
    (repeat (first | refine Run.adm rfl ?_ | refine Run.seq ?_ | ((first | apply Run.opS rfl | apply Run.condS); (· (simp -implicitDefEqProofs; first | exact ⟨rfl, rfl⟩ | exact rfl)))))
    refine Run.opC rfl (by simp) rfl (hW.open (by omega) hgs (by omega)) ?_
    rintro v W2 ⟨lg1, B, lts, rfl, hB, hBl, hlts, hW1⟩
    have hll : lts.length ≤ 1000000000 := by have := congrArg List.length hlts; rw [List.length_map] at this; omega
    (repeat (first | refine Run.adm rfl ?_ | refine Run.seq ?_ | ((first | apply Run.opS rfl | apply Run.condS); (· (simp -implicitDefEqProofs; first | exact ⟨rfl, rfl⟩ | exact rfl)))))
    refine Run.opC rfl rfl rfl (WalOwn.all hW1 hll) ?_
    rintro v W3 ⟨rfl, hW2, -⟩
    rw [hlts]
    have hpre : texts.take (gs.flatten.length + j) = gs.flatten ++ g.take j := by
      have : texts.take (gs.flatten.length + j) = (texts.take m).take (gs.flatten.length + j) := by rw [List.take_take, Nat.min_eq_left (by omega)]
      rw [this, ← hTT, List.take_append, List.take_of_length_le (by omega)]; congr 2; omega
    obtain ⟨n, hn⟩ : ∃ n, n = gs.flatten.length + j := ⟨_, rfl⟩
    rw [← hn] at hul hpre
    generalize hus : gs.flatten ++ g.take j = us at *
    have hnt : n ≤ texts.length := by omega
    have c1 : (sure : Int) ≤ n := by omega
    have c1' : sure ≤ n := by omega
    have c2 : (n : Int) ≤ i := by omega
    have c2' : n ≤ i := by omega
    have c3 : (n : Int) ≤ texts.length := by omega
    have hpe : ((texts.map encS).drop 0).take n = us.map encS := by rw [List.drop_zero, ← List.map_take, hpre]
    have hpe2 : (texts.map encS).take n = us.map encS := by rw [← List.map_take, hpre]
    (repeat (first | refine Run.adm rfl ?_ | refine Run.seq ?_ | ((first | apply Run.opS rfl | apply Run.condS); (· (simp -implicitDefEqProofs [hul]; first | exact ⟨rfl, rfl⟩ | exact rfl)))))
    refine Run.sl [(0, .vs (texts.map encS) 1), (10, .int .i64 sure), (11, .int .i64 i), (13, .ptr lg1 0), (15, .int .i64 n)] (by simp [hul]) ?_
    refine Run.drawn prog_mixed ?_
    show RunD _ c4d0 [0, 1, 2, 3, 4, 5, 6, 7, 8, 9, 10, 11, 12, 13, 14, 15, 16, 17, 18, 19] [] _ _ _
    refine RunD.flow [0, 1, 2, 3, 4, 5, 6, 7, 8, 9, 11, 12, 13] (by kernel_rfl) (by decide +kernel) (by decide +kernel) (by decide) trivial ?_; (repeat (first | refine execQ_E rfl ?_ | (apply execQ_S rfl; (· (simp -implicitDefEqProofs [c1, c1', c2, c2', c3, hnt, hpe, hpe2]; exact ⟨rfl, rfl⟩))))); intro hpo
    refine RunD.alt1 10 (by kernel_rfl) (by kernel_rfl) hpo ?_
    refine AStep.C rfl (by simp) rfl (WalOwn.all hW2 hll) ?_
    rintro v W4 ⟨rfl, hW3, -⟩
    rw [hlts]
    refine RunD.flow [14, 15, 16, 17, 18, 19] (by kernel_rfl) (by decide +kernel) (by decide +kernel) (by decide) (by
      show PendOk _ c4d0 _ _ [13, 12, 11]
      (repeat (first | exact PendOk.nil | (refine PendOk.S rfl rfl ?_ ?_; (· (simp -implicitDefEqProofs [c3, hnt, hpe, hpe2]; done)))))) ?_
    refine execQ_C rfl (by simp) rfl (same_at us us (by omega) _) ?_
    (repeat (first | refine execQ_E rfl ?_ | (apply execQ_S rfl; (· (simp -implicitDefEqProofs; exact ⟨rfl, rfl⟩)))))
    refine execQ_C rfl (by simp) rfl (awake_at _) ?_
    (repeat (first | refine execQ_E rfl ?_ | (apply execQ_S rfl; (· (simp -implicitDefEqProofs; exact ⟨rfl, rfl⟩)))))
    intro hpo
    refine RunD.fin (by kernel_rfl) hpo ?_
    (repeat (first | refine Run.adm rfl ?_ | refine Run.seq ?_ | ((first | apply Run.opS rfl | apply Run.condS); (· (simp -implicitDefEqProofs; first | exact ⟨rfl, rfl⟩ | exact rfl)))))
    exact hfin trivial (by simp)

end Go.Proofs.YtkidkiapfjhkeaaGreatDoor
