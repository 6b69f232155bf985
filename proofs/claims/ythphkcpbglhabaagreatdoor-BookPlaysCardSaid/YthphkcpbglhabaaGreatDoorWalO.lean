/-
  Layer 06, part O: slices.DeleteFunc over a log's texts.
-/
import Derived.Test.YthphkcpbglhabaaGreatDoorWalN
namespace Go.Proofs.YthphkcpbglhabaaGreatDoor
open Sx Go
set_option maxRecDepth 100000
set_option linter.unusedSimpArgs false
set_option linter.unusedVariables false
set_option linter.unnecessarySimpa false
attribute [local simp] stepV condR boundsC appendG appendO copyV srcC guardB isCall opStep Opd.ev put readAt aBin aUn args0 V.celled V.ones V.one V.cells putAt bounds bound1 elemsOf srcOf appendV fillAt fillEl V.pures V.pure unwind evs ARes.ev mkRes V.ren V.renL O.ren eqCells eq1 aEq aMM hasTy hasTyN okTy mmGo Known HLe OLe VsLe.refl VLe.refl VLe.cap Stay VsLe V.frz V.frzL O.frz fr clearV rn KnownR Objs OLeO ObjsE nm back setAll ren_ite take_map_len List.take_of_length_le
attribute [local simp ↓] upd_app tl_cons tl_nil
attribute [local simp] encS_ren encS_ones encS_len encS_take KnownS VLe.refl

theorem del1_tri (X : List O) {bb : Nat} {b : Int} (h : X[bb]? = some (.row [.int .i64 b])) (x : Bs × Nat) : Tri Tryz.prog 84 [.agg (encT x), .ptr bb 0] X (fun v Z => v = .bool (decide ((x.2 : Int) < b)) ∧ Kept X Z []) := by
  refine Tri.of_run' Tryz.func84 rfl c84_ok (by simp [Tryz.ntmps84]) ?_
  (repeat (first | refine Run.adm rfl ?_ | refine Run.seq ?_ | ((first | apply Run.opS rfl | apply Run.condS); (· (simp -implicitDefEqProofs [encT, getA h]; first | exact ⟨rfl, rfl⟩ | exact rfl)))))
  refine Run.retS Tryz.func84 r84_ok trivial (by simp [r84]; rfl) ?_
  exact ⟨by simp, (Kept.refl X []).app _⟩

/-- where the first text of a file below a number is -/
def lowI (b : Int) (ts : List (Bs × Nat)) : Nat := ts.findIdx fun x => decide ((x.2 : Int) < b)
def stayT (b : Int) (ts : List (Bs × Nat)) : List (Bs × Nat) := ts.filter fun x => !decide ((x.2 : Int) < b)

theorem index_tri (X : List O) {a bb : Nat} {b : Int} {ts : List (Bs × Nat)} (h1 : X[a]? = some (.arr (ts.map encT) 2)) (h2 : X[bb]? = some (.row [.int .i64 b])) (hl : ts.length ≤ 1000000000) :
    Tri Tryz.prog 135 [.sl a 0 ts.length 2 none, .fn 84 [.ptr bb 0]] X (fun v Z => v = .int .i64 (if lowI b ts < ts.length then (lowI b ts : Int) else -1) ∧ Kept X Z []) := by
  refine Tri.of_run' Tryz.func135 rfl c135_ok (by simp [Tryz.ntmps135]) ?_
  (repeat (first | refine Run.adm rfl ?_ | refine Run.seq ?_ | ((first | apply Run.opS rfl | apply Run.condS); (· (simp -implicitDefEqProofs; first | exact ⟨rfl, rfl⟩ | exact rfl)))))
  refine Run.sl [(0, .sl a 0 ts.length 2 none), (1, .fn 84 [.ptr bb 0]), (7, .int .i64 ts.length), (8, .int .i64 (0 : Nat))] (by simp) ?_
  refine Run.loopS (fun (x : Nat × List O) => ([(0, .sl a 0 ts.length 2 none), (1, .fn 84 [.ptr bb 0]), (7, .int .i64 ts.length), (8, .int .i64 x.1)], x.2))
    (fun x => x.1 ≤ ts.length ∧ Kept X x.2 [] ∧ ∀ j (h : j < ts.length), j < x.1 → ¬ ((ts[j].2 : Int) < b)) (fun x => ts.length - x.1) ?_ (0, X) ⟨Nat.zero_le _, Kept.refl _ _, fun j _ h => by simp at h⟩
  rintro ⟨i, Z⟩ ⟨hi, hk, hno⟩ ih
  simp only at hi hk hno ih ⊢
  by_cases hlt : i < ts.length
  · obtain ⟨x, hx, hxi, -, -⟩ := getL hlt
    have hlt' : (i : Int) < ts.length := by omega
    have hw := wrap_small (n := (i : Int) + 1) (by omega) (by omega)
    have z1 := hk.get h1 (by simp)
    have z2 := hk.get h2 (by simp)
    have henc : encT x = [.str x.1, .int .i64 x.2] := rfl
    (repeat (first | refine Run.adm rfl ?_ | refine Run.seq ?_ | ((first | apply Run.opS rfl | apply Run.condS); (· (simp -implicitDefEqProofs [hlt, hlt', hx, hxi, z1, henc]; first | exact ⟨rfl, rfl⟩ | exact rfl)))))
    refine Run.opC rfl rfl rfl (del1_tri Z z2 x) ?_
    rintro v W ⟨rfl, hW⟩
    by_cases hb : (x.2 : Int) < b
    · (repeat (first | refine Run.adm rfl ?_ | refine Run.seq ?_ | ((first | apply Run.opS rfl | apply Run.condS); (· (simp -implicitDefEqProofs [hb]; first | exact ⟨rfl, rfl⟩ | exact rfl)))))
      refine Run.retS Tryz.func135 r135_ok trivial (by simp [r135]; rfl) ?_
      have hidx : lowI b ts = i := by
        unfold lowI
        rw [List.findIdx_eq hlt]
        refine ⟨by simp [hxi, hb], fun j hj => ?_⟩
        have := hno j (by omega) hj
        simpa using this
      rw [hidx, if_pos hlt]
      exact ⟨by simp, hk.trans hW⟩
    · (repeat (first | refine Run.adm rfl ?_ | refine Run.seq ?_ | ((first | apply Run.opS rfl | apply Run.condS); (· (simp -implicitDefEqProofs [hb]; first | exact ⟨rfl, rfl⟩ | exact rfl)))))
      refine Run.sl _ ?_ (ih (i + 1, W) ⟨by simp only; omega, hk.trans hW, fun j h hj => ?_⟩ (by simp only; omega))
      · simp [hw]
      · by_cases e : j = i
        · subst e; rw [hxi]; exact hb
        · exact hno j h (by simp only at hj; omega)
  · have : i = ts.length := by omega
    subst this
    (repeat (first | refine Run.adm rfl ?_ | refine Run.seq ?_ | ((first | apply Run.opS rfl | apply Run.condS); (· (simp -implicitDefEqProofs; first | exact ⟨rfl, rfl⟩ | exact rfl)))))
    refine Run.retS Tryz.func135 r135_ok trivial (by simp [r135]; rfl) ?_
    have hidx : ¬ lowI b ts < ts.length := by
      intro hlt2
      have := List.findIdx_getElem (w := hlt2)
      exact hno _ hlt2 hlt2 (of_decide_eq_true this)
    rw [if_neg hidx]
    exact ⟨by simp, hk⟩

theorem stayT_len (b : Int) (ts : List (Bs × Nat)) : (stayT b ts).length ≤ ts.length := List.length_filter_le _ _
theorem stayT_snoc (b : Int) (ts : List (Bs × Nat)) (x : Bs × Nat) : stayT b (ts ++ [x]) = if (x.2 : Int) < b then stayT b ts else stayT b ts ++ [x] := by
  by_cases h : (x.2 : Int) < b <;> simp [stayT, List.filter_append, h]
theorem stayT_none {b : Int} {ts : List (Bs × Nat)} (h : ∀ j (h : j < ts.length), ¬ ((ts[j].2 : Int) < b)) : stayT b ts = ts := by
  unfold stayT
  rw [List.filter_eq_self]
  intro x hx
  obtain ⟨j, hj, rfl⟩ := List.mem_iff_getElem.1 hx
  have := h j hj
  simpa using this
theorem lowI_no {b : Int} {ts : List (Bs × Nat)} (j : Nat) (h : j < ts.length) (hj : j < lowI b ts) : ¬ ((ts[j].2 : Int) < b) := by
  have := List.not_of_lt_findIdx (p := fun x : Bs × Nat => decide ((x.2 : Int) < b)) (xs := ts) hj
  simpa using this

theorem delf_tri (X : List O) {a bb : Nat} {b : Int} {ts : List (Bs × Nat)} (h1 : X[a]? = some (.arr (ts.map encT) 2)) (h2 : X[bb]? = some (.row [.int .i64 b])) (hl : ts.length ≤ 1000000000) :
    Tri Tryz.prog 83 [.sl a 0 ts.length 2 none, .fn 84 [.ptr bb 0]] X
      (fun v Z => v = .sl a 0 (stayT b ts).length 2 none ∧ Kept X Z [a] ∧ ∃ us : List (Bs × Nat), Z[a]? = some (.arr (us.map encT) 2) ∧ us.take (stayT b ts).length = stayT b ts) := by
  have nab : a ≠ bb := fun e => by rw [e, h2] at h1; cases h1
  refine Tri.of_run' Tryz.func83 rfl c83_ok (by simp [Tryz.ntmps83]) ?_
  (repeat (first | refine Run.adm rfl ?_ | refine Run.seq ?_ | ((first | apply Run.opS rfl | apply Run.condS); (· (simp -implicitDefEqProofs; first | exact ⟨rfl, rfl⟩ | exact rfl)))))
  refine Run.opC rfl rfl rfl (index_tri X h1 h2 hl) ?_
  rintro v Z ⟨rfl, hZ⟩
  by_cases hlow : lowI b ts < ts.length
  rotate_left
  · have hall : ∀ j (h : j < ts.length), ¬ ((ts[j].2 : Int) < b) := fun j h => lowI_no j h (by omega)
    rw [if_neg hlow, stayT_none hall]
    (repeat (first | refine Run.adm rfl ?_ | refine Run.seq ?_ | ((first | apply Run.opS rfl | apply Run.condS); (· (simp -implicitDefEqProofs; first | exact ⟨rfl, rfl⟩ | exact rfl)))))
    refine Run.retS Tryz.func83 r83_ok trivial (by simp [r83]; rfl) ?_
    exact ⟨by simp, hZ.mono (by simp), ts, hZ.get h1 (by simp), List.take_of_length_le (by simp)⟩
  rw [if_pos hlow]
  obtain ⟨i0, hi0⟩ : ∃ i0, i0 = lowI b ts := ⟨_, rfl⟩
  have hstay0 : stayT b (ts.take i0) = ts.take i0 := stayT_none fun j h => by
    rw [List.getElem_take]
    exact lowI_no j (by simp at h; omega) (by simp at h; omega)
  have hdel0 : stayT b (ts.take (i0 + 1)) = ts.take i0 := by
    have h3 : (ts[lowI b ts].2 : Int) < b := by
      exact of_decide_eq_true (List.findIdx_getElem (w := hlow))
    have : ts.take (i0 + 1) = ts.take i0 ++ [ts[lowI b ts]] := by rw [List.take_add_one, hi0, List.getElem?_eq_getElem hlow]; rfl
    rw [this, stayT_snoc, if_pos h3, hstay0]
  rw [← hi0] at hlow ⊢
  have hw0 := wrap_small (n := (i0 : Int) + 1) (by omega) (by omega)
  have hm1 : ¬ (i0 : Int) = -1 := by omega
  have hlen0 : (ts.take i0).length = i0 := by simp; omega
  (repeat (first | refine Run.adm rfl ?_ | refine Run.seq ?_ | ((first | apply Run.opS rfl | apply Run.condS); (· (simp -implicitDefEqProofs [hm1]; first | exact ⟨rfl, rfl⟩ | exact rfl)))))
  refine Run.sl [(0, .sl a 0 ts.length 2 none), (1, .fn 84 [.ptr bb 0]), (5, .int .i64 ((stayT b (ts.take (i0 + 1))).length : Nat)), (6, .int .i64 (i0 + 1 : Nat))] (by rw [hdel0, hlen0]; simp [hw0]) ?_
  refine Run.loopS (fun (x : Nat × List (Bs × Nat) × List O) => ([(0, .sl a 0 ts.length 2 none), (1, .fn 84 [.ptr bb 0]), (5, .int .i64 ((stayT b (ts.take x.1)).length : Nat)), (6, .int .i64 x.1)], x.2.2))
    (fun x => x.1 ≤ ts.length ∧ Kept X x.2.2 [a] ∧ x.2.2[a]? = some (.arr (x.2.1.map encT) 2) ∧ x.2.1.length = ts.length ∧ x.2.1.take (stayT b (ts.take x.1)).length = stayT b (ts.take x.1) ∧ x.2.1.drop x.1 = ts.drop x.1) (fun x => ts.length - x.1) ?_ (i0 + 1, ts, Z) ⟨by simp only; omega, hZ.mono (by simp), hZ.get h1 (by simp), rfl, by simp only; rw [hdel0, hlen0], rfl⟩
  rintro ⟨j, us, W⟩ ⟨hj, hk, ha, hel, htk, hdr⟩ ih
  simp only at hj hk ha hel htk hdr ih ⊢
  have hcl : (stayT b (ts.take j)).length ≤ j := by have := stayT_len b (ts.take j); simp at this; omega
  have hb' := hk.get h2 (by simp; omega)
  by_cases hlt : j < ts.length
  · obtain ⟨x, hx, hxi, hxd, -⟩ := getL hlt
    have hlt' : (j : Int) < ts.length := by omega
    have hw := wrap_small (n := (j : Int) + 1) (by omega) (by omega)
    have husj : us[j]? = some x := by
      have := congrArg (·[0]?) hdr
      simp only [List.getElem?_drop, Nat.add_zero, hxd, List.getElem?_cons_zero] at this
      exact this
    have husj2 : us[j]'(by omega) = x := (List.getElem?_eq_some_iff.1 husj).2
    have hlt2 : j < us.length := by omega
    have htn : ts.take (j + 1) = ts.take j ++ [x] := by rw [List.take_add_one, hx]; rfl
    have henc : encT x = [.str x.1, .int .i64 x.2] := rfl
    have hal := lt_of_get ha
    (repeat (first | refine Run.adm rfl ?_ | refine Run.seq ?_ | ((first | apply Run.opS rfl | apply Run.condS); (· (simp -implicitDefEqProofs [hlt, hlt', hlt2, husj, husj2, ha, henc]; first | exact ⟨rfl, rfl⟩ | exact rfl)))))
    refine Run.opC rfl (by simp) rfl (del1_tri (W ++ [O.row [V.str x.1, V.int IntKind.i64 x.2]]) (getA hb' _) x) ?_
    rintro v U ⟨rfl, hU⟩
    have ua := hU.get (getA ha [O.row [V.str x.1, V.int IntKind.i64 x.2]]) (by simp)
    have uw : U[W.length]? = some (O.row [V.str x.1, V.int IntKind.i64 x.2]) := hU.get (by simp) (by simp)
    have hkU : Kept X U [a] := ((hk.app _).trans hU).mono (by simp)
    by_cases hb : (x.2 : Int) < b
    · (repeat (first | refine Run.adm rfl ?_ | refine Run.seq ?_ | ((first | apply Run.opS rfl | apply Run.condS); (· (simp -implicitDefEqProofs [hb]; first | exact ⟨rfl, rfl⟩ | exact rfl)))))
      refine Run.sl _ ?_ (ih (j + 1, us, U) ⟨by simp only; omega, hkU, ua, hel, by simp only; rw [htn, stayT_snoc, if_pos hb]; exact htk, ?_⟩ (by simp only; omega))
      · simp only [htn, stayT_snoc, if_pos hb]; simp [hw]
      · simp only
        rw [← List.drop_drop, hdr, hxd]; simp
    · have hcl2 : (stayT b (ts.take j)).length < us.length := by omega
      have hcl3 : ((stayT b (ts.take j)).length : Int) < ts.length := by omega
      have hcl4 : (stayT b (ts.take j)).length < ts.length := by omega
      have hwc := wrap_small (n := ((stayT b (ts.take j)).length : Int) + 1) (by omega) (by omega)
      have hst1 : stayT b (ts.take (j + 1)) = stayT b (ts.take j) ++ [x] := by rw [htn, stayT_snoc, if_neg hb]
      generalize stayT b (ts.take j) = st at *
      obtain ⟨y, hy, hyi, -, -⟩ := getL hcl2
      have hency : encT y = [.str y.1, .int .i64 y.2] := rfl
      (repeat (first | refine Run.adm rfl ?_ | refine Run.seq ?_ | ((first | apply Run.opS rfl | apply Run.condS); (· (simp -implicitDefEqProofs [hb, hlt, hlt', ua, uw, hcl2, hcl3, hcl4, hel, hy, hyi, hency]; first | exact ⟨rfl, rfl⟩ | exact rfl)))))
      refine Run.sl _ ?_ (ih (j + 1, us.set st.length x, U.set a (.arr ((us.map encT).set st.length (encT x)) 2)) ⟨by simp only; omega, hkU.set _ _ (.inl (by simp)), by simp only; rw [List.map_set]; exact setG ua _, by simp [hel], ?_, ?_⟩ (by simp only; omega))
      · rw [hst1]; simp [hw, hwc]
      · simp only
        rw [hst1, List.length_append, List.length_singleton, List.take_add_one, List.getElem?_set_self hcl2]
        simp [List.take_set, htk, List.set_eq_of_length_le (Nat.le_refl st.length)]
      · simp only
        rw [List.drop_set, if_pos (by omega), ← List.drop_drop, hdr, hxd]; simp
  · have : j = ts.length := by omega
    subst this
    rw [List.take_length] at htk ⊢
    have hcl5 := stayT_len b ts
    generalize stayT b ts = st at *
    have hcl6 : (st.length : Int) ≤ ts.length := by omega
    (repeat (first | refine Run.adm rfl ?_ | refine Run.seq ?_ | ((first | apply Run.opS rfl | apply Run.condS); (· (simp -implicitDefEqProofs [hcl5, hcl6, ha, hel]; first | exact ⟨rfl, rfl⟩ | exact rfl)))))
    refine Run.retS Tryz.func83 r83_ok trivial (by simp [r83]; rfl) ?_
    refine ⟨by simp, hk.set _ _ (.inl (by simp)) |>.mono (by simp), us.take st.length ++ List.replicate (ts.length - st.length) ([], 0), ?_, ?_⟩
    · rw [setG ha]
      have hd : (us.map encT).drop ts.length = [] := List.drop_eq_nil_of_le (by simp [hel])
      simp [encT, hd, hel]
    · rw [List.take_append_of_le_length (by simp; omega), List.take_take, Nat.min_self]; exact htk

end Go.Proofs.YthphkcpbglhabaaGreatDoor
