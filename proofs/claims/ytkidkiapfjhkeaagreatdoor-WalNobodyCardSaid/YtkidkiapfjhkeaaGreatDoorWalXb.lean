/-
  Layer 06, part Xb: WalNobody.
-/
import Derived.Test.YtkidkiapfjhkeaaGreatDoorWalXa
namespace Go.Proofs.YtkidkiapfjhkeaaGreatDoor
open Sx Go
set_option maxRecDepth 100000
set_option linter.unusedSimpArgs false
set_option linter.unusedVariables false
set_option linter.unnecessarySimpa false
attribute [local simp] stepV condR boundsC appendG appendO copyV srcC guardB isCall opStep Opd.ev put readAt aBin aUn args0 V.celled V.ones V.one V.cells putAt bounds bound1 elemsOf srcOf appendV fillAt fillEl V.pures V.pure unwind evs ARes.ev mkRes V.ren V.renL O.ren eqCells eq1 aEq aMM hasTy hasTyN okTy mmGo Known HLe OLe VsLe.refl VLe.refl VLe.cap Stay VsLe V.frz V.frzL O.frz fr clearV rn KnownR Objs OLeO ObjsE nm back setAll ren_ite take_map_len List.take_of_length_le
attribute [local simp ↓] upd_app tl_cons tl_nil
attribute [local simp] encS_ren encS_ones encS_len encS_take KnownS VLe.refl

theorem open_new {X : List O} {L : List Nat} {d frm : Nat} {Y : List O} (h : Own X L d (LD [] (-1) false) Y) (hf : frm ≤ 1048576) :
    Tri Tryz.prog 9 [.ptr d 0, .int .i64 frm] Y (fun v Z => ∃ lg, v = .tup [.ptr lg 0, .int .i64 0] ∧ WalOwn X L d ⟨[⟨logG frm, [], 0⟩], -1, false⟩ lg [] frm Z) := by
  have hL : ∀ i ∈ L, i < Y.length := fun i hi => h.lt hi
  refine Tri.of_run' Tryz.func9 rfl c9_ok (by simp [Tryz.ntmps9]) ?_
  have f1 : ¬ (frm : Int) < 0 := by omega
  have f2 : ¬ (1048576 : Int) < frm := by omega
  have f3 : ¬ (1048576 < frm) := by omega
  (repeat (first | refine Run.adm rfl ?_ | refine Run.seq ?_ | ((first | apply Run.opS rfl | apply Run.condS); (· (simp -implicitDefEqProofs; first | exact ⟨rfl, rfl⟩ | exact rfl)))))
  have h1 := h.more [.row [.ptr d 0], .row [.int .i64 frm]] [Y.length, Y.length + 1] (by intro i hi; simp at hi; simp; omega)
  refine Run.opC rfl rfl rfl (made_own h1) ?_
  rintro v Z1 ⟨rfl, hZ1, st1⟩
  have hdb1 : Z1[Y.length]? = some (.row [.ptr d 0]) := (st1 _ (by simp)).trans (by simp)
  have hfb1 : Z1[Y.length + 1]? = some (.row [.int .i64 frm]) := (st1 _ (by simp)).trans (by simp)
  have hl1 := lt_of_get hfb1
  obtain ⟨db, hdb⟩ : ∃ db, db = Y.length := ⟨_, rfl⟩
  obtain ⟨fb, hfb⟩ : ∃ fb, fb = Y.length + 1 := ⟨_, rfl⟩
  rw [← hdb] at hdb1
  rw [← hfb] at hfb1 hl1
  rw [← hfb, ← hdb] at hZ1 st1
  rw [← hfb, ← hdb]
  (repeat (first | refine Run.adm rfl ?_ | refine Run.seq ?_ | ((first | apply Run.opS rfl | apply Run.condS); (· (simp -implicitDefEqProofs [hdb1, hfb1, f1, f2, f3]; first | exact ⟨rfl, rfl⟩ | exact rfl)))))
  refine Run.opC rfl rfl rfl (off_own hZ1) ?_
  rintro v H ⟨rfl, rfl⟩
  have hoff : (LD [] (-1) false).off = false := rfl
  (repeat (first | refine Run.adm rfl ?_ | refine Run.seq ?_ | ((first | apply Run.opS rfl | apply Run.condS); (· (simp -implicitDefEqProofs [hoff, hdb1, hfb1]; first | exact ⟨rfl, rfl⟩ | exact rfl)))))
  obtain ⟨lg, hlg⟩ : ∃ lg, lg = H.length := ⟨_, rfl⟩
  obtain ⟨lv, hlv⟩ : ∃ lv, lv = H.length + 1 := ⟨_, rfl⟩
  have hdl := lt_of_get hdb1
  have o1 := (hZ1.more [O.row [.ptr d 0, .nils, .int .i64 frm], O.row [.ptr H.length 0]] [H.length, H.length + 1] (by intro i hi; simp at hi; simp; omega)).put (i := H.length) (by simp) (O.row [.ptr d 0, .sl (H.length + 2) 0 0 2 none, .int .i64 frm])
  have o2 := o1.more [O.arr [] 2, O.ty (H.length + 2) 0 none] [H.length + 2] (by intro i hi; simp at hi; simp; omega)
  refine Run.nilC H.length 1 2 0 (by simp; rfl) (by simp) ?_
  have e2 : (H ++ [O.row [V.ptr d 0, .nils, .int .i64 frm], O.row [V.ptr H.length 0]]).length = H.length + 2 := by simp
  have stH : ∀ i, i < H.length → ∀ o1 o2 o3, ((H ++ o1).set H.length o2 ++ o3)[i]? = H[i]? := fun i hi o1 o2 o3 => by
    rw [List.getElem?_append_left (by simp; omega), setN (by omega), List.getElem?_append_left hi]
  have hlL : ∀ i ∈ L, i < H.length := fun i hi => by have := hL i hi; omega
  have k1 : ∀ x o3, ((H ++ [O.row [V.ptr d 0, .nils, .int .i64 frm], O.row [V.ptr H.length 0]]).set H.length x ++ o3)[H.length]? = some x := fun x o3 => by
    rw [List.getElem?_append_left (by simp), List.getElem?_set_self (by simp)]
  have k2 : ∀ x o3, ((H ++ [O.row [V.ptr d 0, .nils, .int .i64 frm], O.row [V.ptr H.length 0]]).set H.length x ++ o3)[H.length + 1]? = some (O.row [V.ptr H.length 0]) := fun x o3 => by
    rw [List.getElem?_append_left (by simp), setN (by omega)]; simp
  simp only [e2, List.set_cons_succ, List.set_cons_zero]
  refine run_to [(2, .ptr db 0), (3, .ptr fb 0), (6, .ptr lv 0)] (fun W => WalOwn X (fb :: db :: lv :: L) d (LD [] (-1) false) lg [] frm W ∧ StayL L Y W ∧ W[db]? = some (.row [.ptr d 0]) ∧ W[fb]? = some (.row [.int .i64 frm]) ∧ W[lv]? = some (.row [.ptr lg 0])) (by simp [hlv]) ⟨⟨lg + 2, o2.sub ?_, by omega, ?_, ?_, ?_, ?_⟩, ?_, ?_, ?_, ?_⟩ ?_
  · intro i hi
    simp only [List.mem_cons] at hi
    simp only [List.mem_append, List.mem_cons, List.not_mem_nil, or_false, hlg, hlv] at hi ⊢
    rcases hi with hi | hi | hi | hi | hi | hi
    · exact .inr hi
    · exact .inl (.inr (.inl hi))
    · exact .inl (.inl (.inr (.inr hi)))
    · exact .inl (.inl (.inr (.inl hi)))
    · exact .inl (.inr (.inr hi))
    · exact .inl (.inl (.inl hi))
  · intro hm
    simp only [List.mem_cons] at hm
    rcases hm with hm | hm | hm | hm
    · omega
    · omega
    · omega
    · have := hlL _ hm; omega
  · intro hm
    simp only [List.mem_cons] at hm
    rcases hm with hm | hm | hm | hm
    · omega
    · omega
    · omega
    · have := hlL _ hm; omega
  · rw [hlg]; exact k1 _ _
  · rw [hlg, List.getElem?_append_right (by simp)]; simp
  · intro i hi
    rw [stH i (hlL i hi)]
    refine (st1 i (by simp [hi])).trans ?_
    rw [List.getElem?_append_left (by have := hL i hi; omega)]
  · rw [stH db hdl]; exact hdb1
  · rw [stH fb hl1]; exact hfb1
  · rw [hlv]; rw [k2, hlg]
  rintro W ⟨hW, stW, wdb, wfb, wlv⟩
  (repeat (first | refine Run.adm rfl ?_ | refine Run.seq ?_ | ((first | apply Run.opS rfl | apply Run.condS); (· (simp -implicitDefEqProofs [wdb]; first | exact ⟨rfl, rfl⟩ | exact rfl)))))
  have hnm := (WalOwn.names hW (nmOk_LD (fs := []) ⟨List.Pairwise.nil, by simp⟩ _ _))
  have hno : namesD (LD [] (-1) false) = (([] : List Nat).map logN) := by simp [namesD, LD, sortN]
  rw [hno] at hnm
  have hall := each_own (Y0 := W) (d := d) [] (by simp) (by simp) 27 [.ptr fb 0, .ptr db 0, .ptr lv 0]
    (fun i Z => WalOwn X (fb :: db :: lv :: L) d (LD [] (-1) false) lg [] frm Z ∧ StayL (fb :: db :: lv :: L) W Z) (fun _ _ => False)
    hnm (fun i n hi => by simp at hi)
  refine Run.opC rfl rfl rfl hall ?_
  rintro v Z (⟨rfl, hZ, stZ⟩ | ⟨e, -, -, hF⟩)
  rotate_left
  · exact hF.elim
  have zdb := (stZ db (by simp)).trans wdb
  have zlv := (stZ lv (by simp)).trans wlv
  obtain ⟨a, zlg, -⟩ := hZ.row
  have hbig : ¬ (99999998 : Int) < (frm : Int) := by omega
  have hbig' : ¬ 99999998 < frm := by omega
  have hmk := hZ.make (logG frm)
  have hmd : makeD (LD [] (-1) false) (logG frm) = (0, ⟨[⟨logG frm, [], 0⟩], -1, false⟩) := by simp [makeD, LD, Dk.did, doI, logG_may, fileOf]
  rw [hmd] at hmk
  (repeat (first | refine Run.adm rfl ?_ | refine Run.seq ?_ | ((first | apply Run.opS rfl | apply Run.condS); (· (simp -implicitDefEqProofs [zlv, zlg, hbig, hbig']; first | exact ⟨rfl, rfl⟩ | exact rfl)))))
  refine Run.qchain prog_mixed 6 (by kernel_rfl) ?_
  (repeat (first | refine execQ_E rfl ?_ | (apply execQ_S rfl; (· (simp -implicitDefEqProofs [zdb, zlv, zlg]; exact ⟨rfl, rfl⟩)))))
  refine execQ_C rfl rfl rfl (lnameG_at frm (by omega) _) ?_
  (repeat (first | refine execQ_E rfl ?_ | (apply execQ_S rfl; (· (simp -implicitDefEqProofs; exact ⟨rfl, rfl⟩)))))
  refine SeqR.C rfl rfl rfl hmk ?_
  rintro v Z2 ⟨rfl, hZ2, stZ2⟩
  (repeat (first | refine SeqR.E rfl ?_ | (apply SeqR.o0 rfl; (· (simp -implicitDefEqProofs; exact ⟨rfl, rfl⟩))) | (apply SeqR.A rfl; (· (simp -implicitDefEqProofs; done)); (· (simp -implicitDefEqProofs; exact ⟨rfl, rfl⟩))) | (apply SeqR.N rfl; (· (simp -implicitDefEqProofs; done)))))
  have zlv2 := (stZ2 lv (by simp)).trans zlv
  (repeat (first | refine Run.adm rfl ?_ | refine Run.seq ?_ | ((first | apply Run.opS rfl | apply Run.condS); (· (simp -implicitDefEqProofs [zlv2]; first | exact ⟨rfl, rfl⟩ | exact rfl)))))
  refine Run.retS Tryz.func9 r9_ok trivial (by simp [r9]; rfl) ?_
  exact ⟨lg, by simp, hZ2.sub fun i hi => by simp [hi]⟩
theorem open_bad {X : List O} {L : List Nat} {d : Nat} {D : Dk} {Y : List O} (h : Own X L d D Y) (n : Int) (hn : n < 0 ∨ 1048576 < n) :
    Tri Tryz.prog 9 [.ptr d 0, .int .i64 n] Y (fun v Z => v = .tup [.nilp, .int .i64 1] ∧ Own X L d D Z) := by
  have h1 := h.more [.row [.ptr d 0], .row [.int .i64 n]] [Y.length, Y.length + 1] (by intro i hi; simp at hi; simp; omega)
  refine Tri.of_run' Tryz.func9 rfl c9_ok (by simp [Tryz.ntmps9]) ?_
  (repeat (first | refine Run.adm rfl ?_ | refine Run.seq ?_ | ((first | apply Run.opS rfl | apply Run.condS); (· (simp -implicitDefEqProofs; first | exact ⟨rfl, rfl⟩ | exact rfl)))))
  refine Run.opC rfl rfl rfl (made_own h1) ?_
  rintro v Z1 ⟨rfl, hZ1, st1⟩
  have hdb1 : Z1[Y.length]? = some (.row [.ptr d 0]) := (st1 _ (by simp)).trans (by simp)
  have hfb1 : Z1[Y.length + 1]? = some (.row [.int .i64 n]) := (st1 _ (by simp)).trans (by simp)
  by_cases h0 : n < 0
  · (repeat (first | refine Run.adm rfl ?_ | refine Run.seq ?_ | ((first | apply Run.opS rfl | apply Run.condS); (· (simp -implicitDefEqProofs [hdb1, hfb1, h0]; first | exact ⟨rfl, rfl⟩ | exact rfl)))))
    refine Run.retS Tryz.func9 r9_ok trivial (by simp [r9]; rfl) ?_
    exact ⟨by simp, hZ1.sub fun i hi => by simp [hi]⟩
  · have h2 : 1048576 < n := by omega
    (repeat (first | refine Run.adm rfl ?_ | refine Run.seq ?_ | ((first | apply Run.opS rfl | apply Run.condS); (· (simp -implicitDefEqProofs [hdb1, hfb1, h0, h2]; first | exact ⟨rfl, rfl⟩ | exact rfl)))))
    refine Run.retS Tryz.func9 r9_ok trivial (by simp [r9]; rfl) ?_
    exact ⟨by simp, hZ1.sub fun i hi => by simp [hi]⟩
theorem Own.kept0 {X L d D Y} (h : Own X L d D Y) : Kept X Y [] := h.choose_spec.2.1

set_option maxHeartbeats 4000000 in
theorem nobody_law (n : Int) (s : Bs) : Tri Tryz.prog 6 [.int .i64 n, .str s] [] (fun v H => v = .bool true ∧ H = []) := by
  refine Tri.of_run' Tryz.func6 rfl c6_ok (by simp [Tryz.ntmps6]) ?_
  have hfin : ∀ {k t h}, AtEnd k → t 4 = .bool true → Run ⟨Tryz.prog, 6, Tryz.f6.ntmps, [], fun v H => v = .bool true ∧ H = []⟩ ⟨k, t, h⟩ := by
    intro k t h hk h2
    refine Run.ret0 rfl Tryz.func6 r6_ok hk (by simp [r6]; rfl) ?_ (by simp [h2])
    exact ⟨by simp [h2], rfl⟩
  (repeat (first | refine Run.adm rfl ?_ | refine Run.seq ?_ | ((first | apply Run.opS rfl | apply Run.condS); (· (simp -implicitDefEqProofs; first | exact ⟨rfl, rfl⟩ | exact rfl)))))
  refine Run.opC rfl rfl rfl (open_nob [] (.inl rfl) rfl n) ?_
  rintro v Y0 ⟨rfl, -⟩
  (repeat (first | refine Run.adm rfl ?_ | refine Run.seq ?_ | ((first | apply Run.opS rfl | apply Run.condS); (· (simp -implicitDefEqProofs; first | exact ⟨rfl, rfl⟩ | exact rfl)))))
  refine Run.opC rfl rfl rfl (open_nob (Y0 ++ [O.row [V.nilm, V.int .i64 0, V.bool false]]) (.inr ⟨Y0.length, rfl, by simp⟩) rfl n) ?_
  rintro v Y1 ⟨rfl, -⟩
  (repeat (first | refine Run.adm rfl ?_ | refine Run.seq ?_ | ((first | apply Run.opS rfl | apply Run.condS); (· (simp -implicitDefEqProofs; first | exact ⟨rfl, rfl⟩ | exact rfl)))))
  refine Run.opC rfl rfl rfl (new_own Y1) ?_
  rintro v Y2 ⟨d, rfl, h2⟩
  (repeat (first | refine Run.adm rfl ?_ | refine Run.seq ?_ | ((first | apply Run.opS rfl | apply Run.condS); (· (simp -implicitDefEqProofs; first | exact ⟨rfl, rfl⟩ | exact rfl)))))
  obtain ⟨okb, hokb⟩ : ∃ b : Bool, b = decide (0 ≤ n ∧ n ≤ 1048576) := ⟨_, rfl⟩
  refine Run.joinP (fun (x : V × Int × List O) => ([(0, .int .i64 n), (1, .str s), (5, .nilp), (6, .int .i64 1), (7, .nilp), (8, .int .i64 1), (9, x.1), (10, .int .i64 x.2.1)], x.2.2))
    (fun x => (okb = true ∧ (∃ lg, x.1 = .ptr lg 0) ∧ x.2.1 = 0) ∨ (okb = false ∧ x.1 = .nilp ∧ x.2.1 = 1)) ?_ ?_
  rotate_left
  · intro k hr
    by_cases hr0 : 0 ≤ n ∧ n ≤ 1048576
    · obtain ⟨m, rfl⟩ : ∃ m : Nat, n = m := ⟨n.toNat, by omega⟩
      refine Run.opC rfl rfl rfl (open_new h2 (frm := m) (by omega)) ?_
      rintro v Z ⟨lg, rfl, hZ⟩
      (repeat (first | refine Run.adm rfl ?_ | refine Run.seq ?_ | ((first | apply Run.opS rfl | apply Run.condS); (· (simp -implicitDefEqProofs; first | exact ⟨rfl, rfl⟩ | exact rfl)))))
      refine Run.sl _ ?_ (hr (.ptr lg 0, 0, Z) (.inl ⟨by simp [hokb]; omega, ⟨lg, rfl⟩, rfl⟩))
      simp
    · refine Run.opC rfl rfl rfl (open_bad h2 n (by omega)) ?_
      rintro v Z ⟨rfl, hZ⟩
      (repeat (first | refine Run.adm rfl ?_ | refine Run.seq ?_ | ((first | apply Run.opS rfl | apply Run.condS); (· (simp -implicitDefEqProofs; first | exact ⟨rfl, rfl⟩ | exact rfl)))))
      refine Run.sl _ ?_ (hr (.nilp, 1, Z) (.inr ⟨by rw [hokb]; exact decide_eq_false hr0, rfl, rfl⟩))
      simp
  rintro ⟨v9, e, W⟩ hP
  simp only at hP ⊢
  refine Run.seq ?_
  refine Run.joinP (fun (x : Unit) => ([(0, .int .i64 n), (1, .str s), (5, .nilp), (6, .int .i64 1), (7, .nilp), (8, .int .i64 1), (9, v9), (10, .int .i64 e), (11, .bool okb)], W)) (fun _ => True) ?_ ?_
  rotate_left
  · intro k hr
    by_cases h0 : 0 ≤ n
    · by_cases h1 : n ≤ 1048576
      · (repeat (first | refine Run.adm rfl ?_ | refine Run.seq ?_ | ((first | apply Run.opS rfl | apply Run.condS); (· (simp -implicitDefEqProofs [h0, h1]; first | exact ⟨rfl, rfl⟩ | exact rfl)))))
        refine Run.sl _ ?_ (hr () trivial)
        simp [hokb, h0, h1]
      · (repeat (first | refine Run.adm rfl ?_ | refine Run.seq ?_ | ((first | apply Run.opS rfl | apply Run.condS); (· (simp -implicitDefEqProofs [h0, h1]; first | exact ⟨rfl, rfl⟩ | exact rfl)))))
        refine Run.sl _ ?_ (hr () trivial)
        simp [hokb, h0, h1]
    · (repeat (first | refine Run.adm rfl ?_ | refine Run.seq ?_ | ((first | apply Run.opS rfl | apply Run.condS); (· (simp -implicitDefEqProofs [h0]; first | exact ⟨rfl, rfl⟩ | exact rfl)))))
      refine Run.sl _ ?_ (hr () trivial)
      simp [hokb, h0]
  rintro - -
  refine Run.seq ?_
  refine Run.joinP (fun (x : Unit) => ([(0, .int .i64 n), (1, .str s)], W)) (fun _ => True) ?_ ?_
  rotate_left
  · intro k hr
    rcases hP with ⟨rfl, ⟨lg, rfl⟩, rfl⟩ | ⟨rfl, rfl, rfl⟩
    · (repeat (first | refine Run.adm rfl ?_ | refine Run.seq ?_ | ((first | apply Run.opS rfl | apply Run.condS); (· (simp -implicitDefEqProofs; first | exact ⟨rfl, rfl⟩ | exact rfl)))))
      refine Run.sl _ ?_ (hr () trivial)
      simp
    · (repeat (first | refine Run.adm rfl ?_ | refine Run.seq ?_ | ((first | apply Run.opS rfl | apply Run.condS); (· (simp -implicitDefEqProofs; first | exact ⟨rfl, rfl⟩ | exact rfl)))))
      refine Run.sl _ ?_ (hr () trivial)
      simp
  rintro - -
  clear hP h2
  (repeat (first | refine Run.adm rfl ?_ | refine Run.seq ?_ | ((first | apply Run.opS rfl | apply Run.condS); (· (simp -implicitDefEqProofs; first | exact ⟨rfl, rfl⟩ | exact rfl)))))
  refine run_to [(0, .int .i64 n), (1, .str s), (12, .sl (W.length + 1) 0 2 1 (some 2)), (13, .int .i64 (0 : Nat))] (fun Z => Z[W.length]? = some (.row [.nilp, .nils, .int .i64 0]) ∧ Z[W.length + 1]? = some (.row [.nilp, .ptr W.length 0])) (by simp) (by simp) ?_
  rintro Z ⟨z1, z2⟩
  generalize W.length = w at *
  refine Run.loopS (fun (x : Nat × List O) => ([(0, .int .i64 n), (1, .str s), (12, .sl (w + 1) 0 2 1 (some 2)), (13, .int .i64 x.1)], x.2))
    (fun x => x.1 ≤ 2 ∧ Kept Z x.2 []) (fun x => 2 - x.1) ?_ (0, Z) ⟨Nat.zero_le _, Kept.refl _ _⟩
  rintro ⟨i, U⟩ ⟨hi, hU⟩ ih
  simp only at hi hU ih ⊢
  have u1 := hU.get z1 (by simp)
  have u2 := hU.get z2 (by simp)
  have hcase : i = 2 ∨ ∃ v : V, i < 2 ∧ ([V.nilp, V.ptr w 0] : List V)[i]? = some v ∧ NobL U v := by
    match i, hi with
    | 0, _ => exact .inr ⟨_, by decide, rfl, .inl rfl⟩
    | 1, _ => exact .inr ⟨_, by decide, rfl, .inr ⟨w, rfl, u1⟩⟩
    | 2, _ => exact .inl rfl
  rcases hcase with rfl | ⟨v, hlt, hv, hnb⟩
  · (repeat (first | refine Run.adm rfl ?_ | refine Run.seq ?_ | ((first | apply Run.opS rfl | apply Run.condS); (· (simp -implicitDefEqProofs; first | exact ⟨rfl, rfl⟩ | exact rfl)))))
    refine Run.opC rfl rfl rfl (awake_at _) ?_
    rintro v H ⟨rfl, rfl⟩
    (repeat (first | refine Run.adm rfl ?_ | refine Run.seq ?_ | ((first | apply Run.opS rfl | apply Run.condS); (· (simp -implicitDefEqProofs; first | exact ⟨rfl, rfl⟩ | exact rfl)))))
    exact hfin trivial (by simp)
  · have hlt' : (i : Int) < 2 := by omega
    have hvi := (List.getElem?_eq_some_iff.1 hv).2
    have hw := wrap_small (n := (i : Int) + 1) (by omega) (by omega)
    (repeat (first | refine Run.adm rfl ?_ | refine Run.seq ?_ | ((first | apply Run.opS rfl | apply Run.condS); (· (simp -implicitDefEqProofs [hlt, hlt', u2, hv, hvi]; first | exact ⟨rfl, rfl⟩ | exact rfl)))))
    refine Run.opC rfl rfl rfl (roll_nob U hnb) ?_
    rintro r H ⟨rfl, rfl⟩
    (repeat (first | refine Run.adm rfl ?_ | refine Run.seq ?_ | ((first | apply Run.opS rfl | apply Run.condS); (· (simp -implicitDefEqProofs [hlt, hlt', u2, hv, hvi]; first | exact ⟨rfl, rfl⟩ | exact rfl)))))
    refine Run.opC rfl rfl rfl (add_nob H hnb s) ?_
    rintro r H' ⟨rfl, rfl⟩
    (repeat (first | refine Run.adm rfl ?_ | refine Run.seq ?_ | ((first | apply Run.opS rfl | apply Run.condS); (· (simp -implicitDefEqProofs [hlt, hlt', u2, hv, hvi]; first | exact ⟨rfl, rfl⟩ | exact rfl)))))
    refine Run.opC rfl (by simp) rfl (flush_nob H' hnb) ?_
    rintro r U1 ⟨rfl, rfl⟩
    (repeat (first | refine Run.adm rfl ?_ | refine Run.seq ?_ | ((first | apply Run.opS rfl | apply Run.condS); (· (simp -implicitDefEqProofs [hlt, hlt', u2, hv, hvi]; first | exact ⟨rfl, rfl⟩ | exact rfl)))))
    refine Run.opC rfl (by simp) rfl (drop_nob U1 hnb n) ?_
    rintro r U2 ⟨rfl, hU2⟩
    have u3 := hU2.get u2 (by simp)
    have hnb2 := hnb.keep hU2
    (repeat (first | refine Run.adm rfl ?_ | refine Run.seq ?_ | ((first | apply Run.opS rfl | apply Run.condS); (· (simp -implicitDefEqProofs [hlt, hlt', u3, hv, hvi]; first | exact ⟨rfl, rfl⟩ | exact rfl)))))
    refine Run.opC rfl (by simp) rfl (all_nob U2 hnb2) ?_
    rintro r H ⟨rfl, rfl⟩
    (repeat (first | refine Run.adm rfl ?_ | refine Run.seq ?_ | ((first | apply Run.opS rfl | apply Run.condS); (· (simp -implicitDefEqProofs [hlt, hlt', u3, hv, hvi]; first | exact ⟨rfl, rfl⟩ | exact rfl)))))
    refine Run.opC rfl (by simp) rfl (last_nob H hnb2) ?_
    rintro r H' ⟨rfl, rfl⟩
    (repeat (first | refine Run.adm rfl ?_ | refine Run.seq ?_ | ((first | apply Run.opS rfl | apply Run.condS); (· (simp -implicitDefEqProofs; first | exact ⟨rfl, rfl⟩ | exact rfl)))))
    refine Run.sl _ ?_ (ih (i + 1, H') ⟨by simp only; omega, (hU.trans hU2).mono (by simp)⟩ (by simp only; omega))
    simp [hw]

end Go.Proofs.YtkidkiapfjhkeaaGreatDoor
