/-
  Layer 18, part C: a record is read.
-/
import Derived.Test.YthphkcpbglhabaaGreatDoorBokB
namespace Go.Proofs.YthphkcpbglhabaaGreatDoor
open Sx Go
set_option maxRecDepth 100000
set_option linter.unusedSimpArgs false
set_option linter.unusedVariables false
set_option linter.unnecessarySimpa false
attribute [local simp] stepV condR boundsC appendG appendO copyV srcC guardB isCall opStep Opd.ev put readAt aBin aUn args0 V.celled V.ones V.one V.cells putAt bounds bound1 elemsOf srcOf appendV fillAt fillEl V.pures V.pure unwind evs ARes.ev mkRes V.ren V.renL O.ren eqCells eq1 aEq aMM hasTy hasTyN okTy mmGo Known HLe OLe VsLe.refl VLe.refl VLe.cap Stay VsLe V.frz V.frzL O.frz fr clearV rn KnownR Objs OLeO ObjsE nm back setAll ren_ite take_map_len List.take_of_length_le
attribute [local simp ↓] upd_app tl_cons tl_nil
attribute [local simp] encS_ren encS_ones encS_len encS_take encN_ren encN_ones KnownS VLe.refl

theorem bnb_vput {n : Int} (h : 0 ≤ n) (h2 : n ≤ 4611686018427387904) : bnb n = vput n.toNat := by
  unfold bnb vputM
  rw [if_pos (by omega)]
theorem num_tri (Y : List O) {sb ob : Nat} {n : Int} {r : Bs} (h0 : 0 ≤ n) (h2 : n ≤ 1099511627775) (h3 : r.length ≤ 1000000) (h1 : Y[sb]? = some (.row [.str (bnb n ++ r)])) (h4 : Y[ob]? = some (.row [.bool true])) (hne : sb ≠ ob) :
    Tri Tryz.prog 77 [.ptr sb 0, .ptr ob 0] Y (fun v H => v = .int .i64 n ∧ Kept Y H [sb, ob] ∧ H[sb]? = some (.row [.str r]) ∧ H[ob]? = some (.row [.bool true])) := by
  obtain ⟨m, rfl⟩ : ∃ m : Nat, n = m := ⟨n.toNat, by omega⟩
  have hb : bnb (m : Int) = vput m := by rw [bnb_vput h0 (by omega)]; simp
  have hbl := bnb_len (m : Int)
  rw [hb] at h1 hbl
  have ht := vtake_put (n := m) (by omega) r
  have hv : vtakeV (vput m ++ r) = .tup [.int .i64 m, .int .i64 (vput m).length, .int .i64 0] := by unfold vtakeV; rw [ht]
  have hlen : (vput m ++ r).length ≤ 70368744177664 := by rw [List.length_append]; omega
  refine Tri.of_run' Tryz.func77 rfl c77_ok (by simp [Tryz.ntmps77]) ?_
  (repeat (first | refine Run.adm rfl ?_ | refine Run.seq ?_ | ((first | apply Run.opS rfl | apply Run.condS); (· (simp -implicitDefEqProofs [h1]; first | exact ⟨rfl, rfl⟩ | exact rfl)))))
  refine Run.opC rfl rfl rfl (vtake_at (vput m ++ r) hlen _) ?_
  rintro v H ⟨rfl, rfl⟩
  rw [hv]
  have hle : ((vput m).length : Int) ≤ (vput m ++ r).length := by rw [List.length_append]; omega
  have hle2 : (vput m).length ≤ (vput m ++ r).length := by rw [List.length_append]; omega
  have hdr : (vput m ++ r).drop (vput m).length = r := List.drop_left
  have hs2 : ∀ o, (H.set ob o)[sb]? = some (.row [.str (vput m ++ r)]) := fun o => by rw [setN (Ne.symm hne)]; exact h1
  generalize hw : vput m ++ r = w at *
  generalize (vput m).length = q at *
  (repeat (first | refine Run.adm rfl ?_ | refine Run.seq ?_ | ((first | apply Run.opS rfl | apply Run.condS); (· (simp -implicitDefEqProofs [h1, h4, hle, hle2, hdr, hs2]; first | exact ⟨rfl, rfl⟩ | exact rfl)))))
  refine Run.retS Tryz.func77 r77_ok trivial (by simp [r77]; rfl) ?_
  refine ⟨by simp, ((Kept.refl H [sb, ob]).set _ _ (.inl (by simp))).set _ _ (.inl (by simp)), ?_, ?_⟩
  · rw [setG (hs2 _)]
  · rw [setN hne, setG h4]

theorem mayB_spec {move : Int} {ids : List Int} (h : mayB move ids = true) : 0 ≤ move ∧ move ≤ 1099511627775 ∧ ids.length ≤ 64 ∧ ∀ (i : Nat) (n : Int), ids[i]? = some n → 1 ≤ n ∧ n ≤ 1099511627775 := by
  unfold mayB at h
  simp only [Bool.and_eq_true, decide_eq_true_eq, List.all_eq_true, List.mem_range] at h
  obtain ⟨h1, ⟨h2, h3⟩, h4⟩ := h
  refine ⟨h2, h3, h4, fun i n hn => ?_⟩
  have := h1 i (List.getElem?_eq_some_iff.1 hn).1
  unfold okId at this
  rw [hn] at this
  simp only [Bool.and_eq_true, decide_eq_true_eq] at this
  exact this.1

theorem bread_tri (X : List O) (move : Int) (ids : List Int) (hm : mayB move ids = true) : Tri Tryz.prog 36 [.str (recB move ids)] X (fun v Z => v = .tup [.int .i64 move, .vs (ids.map encN) 1, .bool true] ∧ Kept X Z []) := by
  obtain ⟨m1, m2, m3, m4⟩ := mayB_spec hm
  have hbl := bnbs_len ids
  have hrec : recB move ids = bnb move ++ (bnb ids.length ++ bnbs ids) := by simp [recB, bnbs]
  have hb1 := bnb_len (ids.length : Int)
  refine Tri.of_run' Tryz.func36 rfl c36_ok (by simp [Tryz.ntmps36]) ?_
  (repeat (first | refine Run.adm rfl ?_ | refine Run.seq ?_ | ((first | apply Run.opS rfl | apply Run.condS); (· (simp -implicitDefEqProofs; first | exact ⟨rfl, rfl⟩ | exact rfl)))))
  have a1 : (X ++ [O.row [.str (recB move ids)], O.row [.bool true]])[X.length]? = some (.row [.str (bnb move ++ (bnb ids.length ++ bnbs ids))]) := by rw [hrec]; simp
  have a2 : (X ++ [O.row [.str (recB move ids)], O.row [.bool true]])[X.length + 1]? = some (.row [.bool true]) := by simp
  refine Run.opC rfl rfl rfl (num_tri _ m1 m2 (by rw [List.length_append]; omega) a1 a2 (by omega)) ?_
  rintro v Y ⟨rfl, hY, y1, y2⟩
  (repeat (first | refine Run.adm rfl ?_ | refine Run.seq ?_ | ((first | apply Run.opS rfl | apply Run.condS); (· (simp -implicitDefEqProofs; first | exact ⟨rfl, rfl⟩ | exact rfl)))))
  refine Run.opC rfl rfl rfl (num_tri Y (by omega) (by omega) (by omega) y1 y2 (by omega)) ?_
  rintro v Y2 ⟨rfl, hY2, w1, w2⟩
  have hk : Kept X Y2 [] := by
    refine ⟨by have := hY.1; have := hY2.1; simp at *; omega, fun i hi _ => ?_⟩
    rw [hY2.2 i (by have := hY.1; simp at this; omega) (by simp; omega), hY.2 i (by simp; omega) (by simp; omega), List.getElem?_append_left hi]
  have hbig : ¬ (64 : Int) < (ids.length : Int) := by omega
  have hbig' : ¬ 64 < ids.length := by omega
  obtain ⟨sb, hsb⟩ : ∃ sb, sb = X.length := ⟨_, rfl⟩
  obtain ⟨ob, hob⟩ : ∃ ob, ob = X.length + 1 := ⟨_, rfl⟩
  rw [← hsb] at w1
  rw [← hob] at w2
  rw [← hob, ← hsb]
  (repeat (first | refine Run.adm rfl ?_ | refine Run.seq ?_ | ((first | apply Run.opS rfl | apply Run.condS); (· (simp -implicitDefEqProofs [hbig, hbig']; first | exact ⟨rfl, rfl⟩ | exact rfl)))))
  refine Run.nilA 9 1 (by simp) ?_
  refine Run.sl [(1, .ptr sb 0), (5, .ptr ob 0), (6, .fn 77 [.ptr sb 0, .ptr ob 0]), (7, .int .i64 move), (9, .sl Y2.length 0 0 1 none), (17, .int .i64 ids.length), (18, .int .i64 (0 : Nat))] (by simp) ?_
  refine Run.loopS (fun (x : Nat × Nat × List O) => ([(1, .ptr sb 0), (5, .ptr ob 0), (6, .fn 77 [.ptr sb 0, .ptr ob 0]), (7, .int .i64 move), (9, .sl x.2.1 0 x.1 1 none), (17, .int .i64 ids.length), (18, .int .i64 x.1)], x.2.2))
    (fun x => x.1 ≤ ids.length ∧ Kept X x.2.2 [] ∧ X.length + 2 ≤ x.2.1 ∧ x.2.2[sb]? = some (.row [.str (bnbs (ids.drop x.1))]) ∧ x.2.2[ob]? = some (.row [.bool true]) ∧ x.2.2[x.2.1]? = some (.arr ((ids.take x.1).map encN) 1)) (fun x => ids.length - x.1) ?_ (0, Y2.length, Y2 ++ [.arr [] 1]) ⟨Nat.zero_le _, hk.app _, by have := lt_of_get w2; simp only; omega, getA w1 _, getA w2 _, by simp⟩
  rintro ⟨i, o, Z⟩ ⟨hi, hkZ, hoX, z1, z2, z3⟩ ih
  simp only at hi hkZ hoX z1 z2 z3 ih ⊢
  have hlen : ((ids.take i).map encN).length = i := by simp; omega
  by_cases hlt : i < ids.length
  · obtain ⟨n, hn, hni, hdr, -⟩ := getL hlt
    have hlt' : (i : Int) < ids.length := by omega
    have hw := wrap_small (n := (i : Int) + 1) (by omega) (by omega)
    obtain ⟨n1, n2⟩ := m4 i n hn
    have hbd : bnbs (ids.drop i) = bnb n ++ bnbs (ids.drop (i + 1)) := by rw [hdr]; simp [bnbs]
    rw [hbd] at z1
    have hbl2 := bnbs_len (ids.drop (i + 1))
    have hnx : (ids.take (i + 1)).map encN = (ids.take i).map encN ++ [encN n] := by rw [List.take_add_one, hn]; simp
    (repeat (first | refine Run.adm rfl ?_ | refine Run.seq ?_ | ((first | apply Run.opS rfl | apply Run.condS); (· (simp -implicitDefEqProofs [hlt, hlt']; first | exact ⟨rfl, rfl⟩ | exact rfl)))))
    refine Run.opC rfl rfl rfl (num_tri Z (by omega) n2 (by rw [List.length_drop] at hbl2; omega) z1 z2 (by omega)) ?_
    rintro v U ⟨rfl, hU, u1, u2⟩
    have u3 := hU.get z3 (by simp; omega)
    have hbb : (i + 1) * 8 ≤ 70368744177664 := by omega
    generalize (ids.take i).map encN = es at *
    have hoU := lt_of_get u3
    (repeat (first | refine Run.adm rfl ?_ | refine Run.seq ?_ | ((first | apply Run.opS rfl | apply Run.condS); (· (simp -implicitDefEqProofs [getA u3, hlen, hbb]; first | exact ⟨rfl, rfl⟩ | exact rfl)))))
    have n3 : o ≠ sb := by omega
    have n4 : o ≠ ob := by omega
    refine Run.sl _ ?_ (ih (i + 1, U.length + 1, (U ++ [O.arr [[V.int .i64 n]] 1]).set o O.gone ++ [O.arr (es ++ [[V.int .i64 n]]) 1]) ⟨by simp only; omega, ⟨by have := hkZ.1; have := hU.1; simp; omega, fun j hj _ => ?_⟩, by have := hU.1; have := hkZ.1; have := lt_of_get z2; simp only; omega, ?_, ?_, ?_⟩ (by simp only; omega))
    · simp [hw]
    · have h1 := hU.1
      have h2 := hkZ.1
      rw [List.getElem?_append_left (by simp; omega), setN (by omega), List.getElem?_append_left (by omega), hU.2 j (by omega) (by simp; omega), hkZ.2 j hj (by simp)]
    · exact getA (by rw [setN n3]; exact getA u1 _) _
    · exact getA (by rw [setN n4]; exact getA u2 _) _
    · simp only
      rw [hnx, List.getElem?_append_right (by simp)]
      simp [encN]
  · have : i = ids.length := by omega
    subst this
    rw [List.take_length] at z3 hlen
    have hnil : ids.drop ids.length = [] := by simp
    rw [hnil] at z1
    have hb0 : bnbs [] = [] := rfl
    rw [hb0] at z1
    (repeat (first | refine Run.adm rfl ?_ | refine Run.seq ?_ | ((first | apply Run.opS rfl | apply Run.condS); (· (simp -implicitDefEqProofs [z1, z2]; first | exact ⟨rfl, rfl⟩ | exact rfl)))))
    refine Run.frzS o z3 ?_
    have htk : (ids.map encN).take ids.length = ids.map encN := List.take_of_length_le (by simp)
    refine run_to [(26, .int .i64 move), (27, .vs (ids.map encN) 1), (33, .bool true), (34, .int .i64 move), (35, .vs (ids.map encN) 1)] (fun W => Kept X W []) (by simp [htk]) (hkZ.set _ _ (.inr (by omega))) ?_
    intro W hW
    refine Run.opC rfl (by simp) rfl (bmay_tri move ids (by omega) W) ?_
    rintro v H ⟨rfl, rfl⟩
    (repeat (first | refine Run.adm rfl ?_ | refine Run.seq ?_ | ((first | apply Run.opS rfl | apply Run.condS); (· (simp -implicitDefEqProofs [hm]; first | exact ⟨rfl, rfl⟩ | exact rfl)))))
    refine Run.retS Tryz.func36 r36_ok trivial (by simp [r36]; rfl) ?_
    exact ⟨by simp [hm], hW⟩

end Go.Proofs.YthphkcpbglhabaaGreatDoor
