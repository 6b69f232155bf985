/-
  Layer 06, part W: WalDrops.
-/
import Derived.Test.YtkidkiapfjhkeaaGreatDoorWalV
namespace Go.Proofs.YtkidkiapfjhkeaaGreatDoor
open Sx Go
set_option maxRecDepth 100000
set_option linter.unusedSimpArgs false
set_option linter.unusedVariables false
set_option linter.unnecessarySimpa false
attribute [local simp] stepV condR boundsC appendG appendO copyV srcC guardB isCall opStep Opd.ev put readAt aBin aUn args0 V.celled V.ones V.one V.cells putAt bounds bound1 elemsOf srcOf appendV fillAt fillEl V.pures V.pure unwind evs ARes.ev mkRes V.ren V.renL O.ren eqCells eq1 aEq aMM hasTy hasTyN okTy mmGo Known HLe OLe VsLe.refl VLe.refl VLe.cap Stay VsLe V.frz V.frzL O.frz fr clearV rn KnownR Objs OLeO ObjsE nm back setAll ren_ite take_map_len List.take_of_length_le
attribute [local simp ↓] upd_app tl_cons tl_nil
attribute [local simp] encS_ren encS_ones encS_len encS_take KnownS VLe.refl

theorem filter_idx {α : Type} (p : α → Nat) (l : List α) (h : ∀ i x, l[i]? = some x → p x = i) (m : Nat) : l.filter (fun x => decide (m ≤ p x)) = l.drop m := by
  have h1 : (l.take m).filter (fun x => decide (m ≤ p x)) = [] := by
    rw [List.filter_eq_nil_iff]
    intro x hx
    obtain ⟨i, hi, rfl⟩ := List.mem_iff_getElem.1 hx
    rw [List.length_take] at hi
    have := h i _ (List.getElem?_eq_getElem (l := l) (by omega))
    rw [List.getElem_take, this]
    simp; omega
  have h2 : (l.drop m).filter (fun x => decide (m ≤ p x)) = l.drop m := by
    rw [List.filter_eq_self]
    intro x hx
    obtain ⟨i, hi, rfl⟩ := List.mem_iff_getElem.1 hx
    rw [List.length_drop] at hi
    have := h (m + i) _ (List.getElem?_eq_getElem (l := l) (by omega))
    rw [List.getElem_drop, this]
    simp
  calc l.filter (fun x => decide (m ≤ p x)) = (l.take m ++ l.drop m).filter (fun x => decide (m ≤ p x)) := by rw [List.take_append_drop]
    _ = l.drop m := by rw [List.filter_append, h1, h2, List.nil_append]

/-- each text in a file of its own -/
def oneG (ts : List Bs) : List (List Bs) := ts.map fun t => [t]
def oneF (ts : List Bs) : List LF := HF (oneG ts) ++ [⟨ts.length, [], 0⟩]
theorem oneG_len (ts) : (oneG ts).length = ts.length := by simp [oneG]
theorem oneF_snoc (ts : List Bs) (s : Bs) : HF (oneG ts) ++ [⟨ts.length, frmB s, (frmB s).length⟩] ++ [⟨ts.length + 1, [], 0⟩] = oneF (ts ++ [s]) := by
  have : oneG (ts ++ [s]) = oneG ts ++ [[s]] := by simp [oneG]
  unfold oneF
  rw [this, HF_snoc, oneG_len]
  simp
theorem oneF_ris (ts : List Bs) (h : ts.length < 100) (B : Bs) (k : Nat) : Ris (HF (oneG ts) ++ [⟨ts.length, B, k⟩]) := by
  have := HL_ris (gs := oneG ts) (by rw [oneG_len]; exact h) B k
  rwa [oneG_len] at this
theorem oneF_len (ts : List Bs) : (oneF ts).length = ts.length + 1 := by simp [oneF, HF_len, oneG_len]
theorem oneF_num (ts : List Bs) (i : Nat) (f : LF) (h : (oneF ts)[i]? = some f) : f.num = i := by
  have hi := (List.getElem?_eq_some_iff.1 h).1
  rw [oneF_len] at hi
  unfold oneF at h
  by_cases hlt : i < ts.length
  · rw [List.getElem?_append_left (by rw [HF_len, oneG_len]; exact hlt)] at h
    simp only [HF, List.getElem?_mapIdx] at h
    cases hg : (oneG ts)[i]? with
    | none => rw [hg] at h; cases h
    | some g => rw [hg] at h; cases h; rfl
  · have : i = ts.length := by omega
    subst this
    rw [List.getElem?_append_right (by rw [HF_len, oneG_len]; exact Nat.le_refl _)] at h
    simp [HF_len, oneG_len] at h
    rw [← h]
theorem above_drop (ts : List Bs) (k : Nat) : aboveF (k : Int) (oneF ts) = (oneF ts).drop k := by
  rw [← filter_idx (·.num) (oneF ts) (oneF_num ts) k]
  unfold aboveF
  exact List.filter_congr fun f _ => by simp
theorem keep_drop (ts : List Bs) (k n : Nat) : keepF n ((oneF ts).drop k) = (oneF ts).drop (max k n) := by
  rw [← filter_idx (·.num) (oneF ts) (oneF_num ts) k, ← filter_idx (·.num) (oneF ts) (oneF_num ts) (max k n)]
  unfold keepF
  rw [List.filter_filter]
  exact List.filter_congr fun f _ => by
    by_cases h1 : k ≤ f.num <;> by_cases h2 : n ≤ f.num <;> simp [h1, h2] <;> omega
theorem oneT_num (ts : List Bs) (i : Nat) (x : Bs × Nat) (h : ts.zipIdx[i]? = some x) : x.2 = i := by
  rw [List.getElem?_zipIdx] at h
  cases hg : ts[i]? with
  | none => rw [hg] at h; cases h
  | some g => rw [hg] at h; cases h; simp
theorem stay_drop (ts : List Bs) (k : Nat) : stayT (k : Int) ts.zipIdx = ts.zipIdx.drop k := by
  rw [← filter_idx (·.2) ts.zipIdx (oneT_num ts) k]
  unfold stayT
  exact List.filter_congr fun x _ => by
    by_cases h : k ≤ x.2 <;> simp [h] <;> omega
theorem zip_fst (ts : List Bs) (k : Nat) : (ts.zipIdx.drop k).map (·.1) = ts.drop k := by
  rw [List.map_drop]
  congr 1
  simp
theorem flat_one : ∀ l : List Bs, (l.map fun t => [t]).flatten = l
  | [] => rfl
  | a :: l => by simp [flat_one l]
theorem oneF_texts (ts : List Bs) (hs : ∀ s ∈ ts, s.length ≤ 262144) (k : Nat) : (opnT ((oneF ts).drop k)).map (·.1) = ts.drop k := by
  have h1 : ∀ l : List LF, (opnT l).map (·.1) = (l.map fun f => (allF f.bytes).1).flatten := fun l => by rw [opnT_fst, List.flatMap_def]
  have h2 : (oneF ts).map (fun f => (allF f.bytes).1) = oneG ts ++ [[]] := by
    unfold oneF
    rw [List.map_append]
    congr 1
    · refine List.ext_getElem? fun i => ?_
      rw [List.getElem?_map]
      simp only [HF, List.getElem?_mapIdx, oneG, List.getElem?_map]
      cases hg : ts[i]? with
      | none => rfl
      | some g =>
        have := allF_whole [g] (by intro s h; rw [List.mem_singleton.1 h]; exact hs g (List.mem_of_getElem? hg))
        simpa using this
  rw [h1, List.map_drop, h2]
  have h3 : ∀ (l : List (List Bs)) (k : Nat), ((l ++ [[]]).drop k).flatten = (l.drop k).flatten := fun l k => by
    rw [List.drop_append]
    cases k - l.length with
    | zero => simp
    | succ j => simp
  rw [h3, oneG, ← List.map_drop]
  exact flat_one _
theorem oneF_last (ts : List Bs) (k frm : Nat) (h : k ≤ ts.length) : opnN frm ((oneF ts).drop k) = ts.length + 1 := by
  unfold oneF
  rw [List.drop_append_of_le_length (by rw [HF_len, oneG_len]; exact h), opnN_snoc]
theorem oneF_cut (nf : Bs → Nat) (ts : List Bs) (k : Nat) : ((oneF ts).drop k).map (cutL nf) = (oneF ts).drop k := by
  have : ∀ f ∈ (oneF ts).drop k, cutL nf f = f := fun f hf => by
    have hf := List.mem_of_mem_drop hf
    unfold oneF at hf
    rcases List.mem_append.1 hf with hf | hf
    · obtain ⟨i, g, -, rfl⟩ := HF_mem hf
      exact cut_full nf _ rfl
    · rw [List.mem_singleton.1 hf]; exact cut_full nf _ rfl
  exact (List.map_congr_left this).trans (List.map_id' _)
theorem oneF_small (ts : List Bs) (hs : ∀ s ∈ ts, s.length ≤ 1000) : ∀ f ∈ oneF ts, f.bytes.length ≤ 4194304 ∧ f.num < ts.length + 1 := by
  intro f hf
  unfold oneF at hf
  rcases List.mem_append.1 hf with hf | hf
  · have h1 := HF_num hf
    rw [oneG_len] at h1
    obtain ⟨i, g, hg, rfl⟩ := HF_mem hf
    rw [oneG, List.getElem?_map] at hg
    cases ht : ts[i]? with
    | none => rw [ht] at hg; cases hg
    | some t =>
      rw [ht] at hg; cases hg
      have := sixF_len t (hs t (List.mem_of_getElem? ht))
      simp only at h1 ⊢
      simp only [List.flatMap_cons, List.flatMap_nil, List.append_nil]
      omega
  · rw [List.mem_singleton.1 hf]; simp

set_option maxHeartbeats 4000000 in
theorem drops_law (texts : List Bs) (dr fr : Int) : Tri Tryz.prog 5 [.vs (texts.map encS) 1, .int .i64 dr, .int .i64 fr] [] (fun v H => v = .bool true ∧ H = []) := by
  refine Tri.of_run' Tryz.func5 rfl c5_ok (by simp [Tryz.ntmps5]) ?_
  have hfin : ∀ {k t h}, AtEnd k → t 6 = .bool true → Run ⟨Tryz.prog, 5, Tryz.f5.ntmps, [], fun v H => v = .bool true ∧ H = []⟩ ⟨k, t, h⟩ := by
    intro k t h hk h2
    refine Run.ret0 rfl Tryz.func5 r5_ok hk (by simp [r5]; rfl) ?_ (by simp [h2])
    exact ⟨by simp [h2], rfl⟩
  (repeat (first | refine Run.adm rfl ?_ | refine Run.seq ?_ | ((first | apply Run.opS rfl | apply Run.condS); (· (simp -implicitDefEqProofs; first | exact ⟨rfl, rfl⟩ | exact rfl)))))
  refine Run.opC rfl rfl rfl (new_own []) ?_
  rintro v Y0 ⟨d, rfl, h0⟩
  (repeat (first | refine Run.adm rfl ?_ | refine Run.seq ?_ | ((first | apply Run.opS rfl | apply Run.condS); (· (simp -implicitDefEqProofs; first | exact ⟨rfl, rfl⟩ | exact rfl)))))
  refine Run.opC rfl (by simp) rfl (first_open h0) ?_
  rintro v Y1 ⟨lg, rfl, -, -, lts0, hlts0, h1⟩
  obtain rfl : lts0 = [] := List.map_eq_nil_iff.1 hlts0
  by_cases hb1 : 20 < texts.length
  · have hb1' : (20 : Int) < texts.length := by omega
    (repeat (first | refine Run.adm rfl ?_ | refine Run.seq ?_ | ((first | apply Run.opS rfl | apply Run.condS); (· (simp -implicitDefEqProofs [hb1, hb1']; first | exact ⟨rfl, rfl⟩ | exact rfl)))))
    refine Run.opC rfl (by simp) rfl (awake_at _) ?_
    rintro v H ⟨rfl, rfl⟩
    (repeat (first | refine Run.adm rfl ?_ | refine Run.seq ?_ | ((first | apply Run.opS rfl | apply Run.condS); (· (simp -implicitDefEqProofs; first | exact ⟨rfl, rfl⟩ | exact rfl)))))
    exact hfin trivial (by simp)
  have hb1' : ¬ (20 : Int) < texts.length := by omega
  (repeat (first | refine Run.adm rfl ?_ | refine Run.seq ?_ | ((first | apply Run.opS rfl | apply Run.condS); (· (simp -implicitDefEqProofs [hb1, hb1']; first | exact ⟨rfl, rfl⟩ | exact rfl)))))
  clear h0
  refine Run.sl [(0, .vs (texts.map encS) 1), (1, .int .i64 dr), (2, .int .i64 fr), (7, .ptr d 0), (8, .ptr lg 0), (10, .int .i64 (0 : Nat))] (by simp) ?_
  refine Run.loopS (fun (x : Nat × List O) => ([(0, .vs (texts.map encS) 1), (1, .int .i64 dr), (2, .int .i64 fr), (7, .ptr d 0), (8, .ptr lg 0), (10, .int .i64 x.1)], x.2))
    (fun x => x.1 ≤ texts.length ∧ (∀ s ∈ texts.take x.1, s.length ≤ 100) ∧ WalOwn [] [] d (LD (oneF (texts.take x.1)) (-1) false) lg (texts.take x.1).zipIdx x.1 x.2) (fun x => texts.length - x.1) ?_ (0, Y1) ⟨Nat.zero_le _, by simp, h1⟩
  rintro ⟨i, Z⟩ ⟨hi, hsh, hZ⟩ ih
  simp only at hi hsh hZ ih ⊢
  by_cases hlt : i < texts.length
  · obtain ⟨s, hs, hsi, -, -⟩ := getL hlt
    have hlt' : (i : Int) < texts.length := by omega
    have hw := wrap_small (n := (i : Int) + 1) (by omega) (by omega)
    have hnx : texts.take (i + 1) = texts.take i ++ [s] := by rw [List.take_add_one, hs]; rfl
    have htl : (texts.take i).length = i := by rw [List.length_take]; omega
    by_cases hlong : 100 < s.length
    · have hlong' : (100 : Int) < s.length := by omega
      (repeat (first | refine Run.adm rfl ?_ | refine Run.seq ?_ | ((first | apply Run.opS rfl | apply Run.condS); (· (simp -implicitDefEqProofs [hlt, hlt', hs, hsi, encS, hlong, hlong']; first | exact ⟨rfl, rfl⟩ | exact rfl)))))
      refine Run.opC rfl rfl rfl (awake_at _) ?_
      rintro v H ⟨rfl, rfl⟩
      (repeat (first | refine Run.adm rfl ?_ | refine Run.seq ?_ | ((first | apply Run.opS rfl | apply Run.condS); (· (simp -implicitDefEqProofs; first | exact ⟨rfl, rfl⟩ | exact rfl)))))
      exact hfin trivial (by simp)
    have hlong' : ¬ (100 : Int) < s.length := by omega
    have hsh2 : ∀ x ∈ texts.take (i + 1), x.length ≤ 100 := by
      rw [hnx]
      intro x hx
      rcases List.mem_append.1 hx with hx | hx
      · exact hsh x hx
      · rw [List.mem_singleton.1 hx]; omega
    have hR := oneF_ris (texts.take i) (by omega)
    rw [htl] at hR
    unfold oneF at hZ
    rw [htl] at hZ
    have hsl := sixF_len s (by omega)
    (repeat (first | refine Run.adm rfl ?_ | refine Run.seq ?_ | ((first | apply Run.opS rfl | apply Run.condS); (· (simp -implicitDefEqProofs [hlt, hlt', hs, hsi, encS, hlong, hlong']; first | exact ⟨rfl, rfl⟩ | exact rfl)))))
    refine Run.opC rfl rfl rfl (WalOwn.addC (f := ⟨i, [], 0⟩) hZ (hR _ _) (by simp; omega) s (by omega) (by simp only [List.length_nil]; omega)) ?_
    rintro v W ⟨rfl, hW, -⟩
    simp only [List.nil_append] at hW
    (repeat (first | refine Run.adm rfl ?_ | refine Run.seq ?_ | ((first | apply Run.opS rfl | apply Run.condS); (· (simp -implicitDefEqProofs; first | exact ⟨rfl, rfl⟩ | exact rfl)))))
    refine Run.opC rfl rfl rfl (WalOwn.rollC (f := ⟨i, frmB s, 0⟩) hW (hR _ _) (by simp only; omega)) ?_
    rintro v W2 ⟨rfl, hW2, -⟩
    have e1 := oneF_snoc (texts.take i) s
    rw [htl, ← hnx] at e1
    simp only at hW2
    rw [e1] at hW2
    have e2 : (texts.take i).zipIdx ++ [(s, i)] = (texts.take (i + 1)).zipIdx := by rw [hnx, List.zipIdx_append]; simp [htl]
    rw [e2] at hW2
    have hc : (i : Int) + 1 = ((i + 1 : Nat) : Int) := by omega
    (repeat (first | refine Run.adm rfl ?_ | refine Run.seq ?_ | ((first | apply Run.opS rfl | apply Run.condS); (· (simp -implicitDefEqProofs [hw]; first | exact ⟨rfl, rfl⟩ | exact rfl)))))
    refine Run.opC rfl (by simp) rfl hW2.last ?_
    rintro v H ⟨rfl, rfl⟩
    (repeat (first | refine Run.adm rfl ?_ | refine Run.seq ?_ | ((first | apply Run.opS rfl | apply Run.condS); (· (simp -implicitDefEqProofs; first | exact ⟨rfl, rfl⟩ | exact rfl)))))
    refine Run.sl _ ?_ (ih (i + 1, H) ⟨by simp only; omega, hsh2, hW2⟩ (by simp only; omega))
    simp [hw]
  · have : i = texts.length := by omega
    subst this
    rw [List.take_length] at hZ hsh
    obtain ⟨a1, ha1, ha2⟩ := and255 dr
    obtain ⟨a2, ha3, ha4⟩ := and255 fr
    have hwn := wrap_small (n := (texts.length : Int) + 1) (by omega) (by omega)
    have ht1 : (a1 : Int).tmod ((texts.length : Int) + 1) = ((a1 % (texts.length + 1) : Nat) : Int) := rfl
    have ht2 : (a2 : Int).tmod ((texts.length : Int) + 1) = ((a2 % (texts.length + 1) : Nat) : Int) := rfl
    have hm1 : (a1 : Int) % ((texts.length : Int) + 1) = ((a1 % (texts.length + 1) : Nat) : Int) := rfl
    have hm2 : (a2 : Int) % ((texts.length : Int) + 1) = ((a2 % (texts.length + 1) : Nat) : Int) := rfl
    have hkl : a1 % (texts.length + 1) < texts.length + 1 := Nat.mod_lt _ (by omega)
    have hnl : a2 % (texts.length + 1) < texts.length + 1 := Nat.mod_lt _ (by omega)
    have hne : ¬ (texts.length : Int) + 1 = 0 := by omega
    generalize a1 % (texts.length + 1) = k at *
    generalize a2 % (texts.length + 1) = n at *
    have hRN : Ris (oneF texts) := oneF_ris texts (by omega) [] 0
    have hzl : (texts.zipIdx).length ≤ 1000000000 := by simp; omega
    have hdk := hRN.sub (List.drop_sublist k _)
    have hdr1 := drop_own (b := (k : Int)) hZ hRN hzl
    rw [dropGo_calm, above_drop, stay_drop, List.nil_append] at hdr1
    (repeat (first | refine Run.adm rfl ?_ | refine Run.seq ?_ | ((first | apply Run.opS rfl | apply Run.condS); (· (simp -implicitDefEqProofs [ha1, hwn, ht1, hm1, hne]; first | exact ⟨rfl, rfl⟩ | exact rfl)))))
    refine Run.sl [(0, .vs (texts.map encS) 1), (2, .int .i64 fr), (7, .ptr d 0), (8, .ptr lg 0), (13, .int .i64 k)] (by simp) ?_
    refine Run.drawn prog_mixed ?_
    show RunD _ c5d0 [0, 1, 2, 3, 4, 5, 6, 7, 8, 9, 10, 11, 12, 13, 14, 15, 16, 17, 18, 19, 20, 21, 22, 23, 24, 25] [] _ _ _
    refine RunD.flow [0, 1] (by kernel_rfl) (by decide +kernel) (by decide +kernel) (by decide) trivial ?_; (repeat (first | refine execQ_E rfl ?_ | (apply execQ_S rfl; (· (simp -implicitDefEqProofs; exact ⟨rfl, rfl⟩))))); intro hpo
    refine RunD.alt1 2 (by kernel_rfl) (by kernel_rfl) hpo ?_
    refine AStep.C rfl rfl rfl hdr1 ?_
    rintro v W (⟨e, -⟩ | ⟨-, rfl, hW, -⟩)
    · omega
    simp only [if_true] at hW ⊢
    have hkl2 : k ≤ texts.length := by omega
    have hkl3 : (k : Int) ≤ texts.length := by omega
    have hdz : ((texts.zipIdx).drop k).length ≤ 1000000000 := by rw [List.length_drop]; omega
    obtain ⟨us, hus⟩ : ∃ us, us = texts.drop k := ⟨_, rfl⟩
    have hpe : (texts.map encS).drop k = us.map encS := by rw [hus, List.map_drop]
    have husl : us.length = texts.length - k := by rw [hus, List.length_drop]
    have hpt : (texts.map encS).take texts.length = texts.map encS := List.take_of_length_le (by simp)
    show RunD _ c5d0 [3, 4, 5, 6, 7, 8, 9, 10, 11, 12, 13, 14, 15, 16, 17, 18, 19, 20, 21, 22, 23, 24, 25] [] _ _ _
    refine RunD.flow [3, 4, 5, 7, 8, 9] (by kernel_rfl) (by decide +kernel) (by decide +kernel) (by decide) trivial ?_; (repeat (first | refine execQ_E rfl ?_ | (apply execQ_S rfl; (· (simp -implicitDefEqProofs [hkl2, hkl3, hpe, hpt]; exact ⟨rfl, rfl⟩))))); intro hpo
    refine RunD.alt1 6 (by kernel_rfl) (by kernel_rfl) hpo ?_
    refine AStep.C rfl (by simp) rfl (WalOwn.all hW hdz) ?_
    rintro v W2 ⟨rfl, hW2, -⟩
    rw [zip_fst, ← hus]
    refine RunD.flow [10, 11, 12, 13, 14, 15, 16, 17] (by kernel_rfl) (by decide +kernel) (by decide +kernel) (by decide) (by
      show PendOk _ c5d0 _ _ [9, 8, 7]
      (repeat (first | exact PendOk.nil | (refine PendOk.S rfl rfl ?_ ?_; (· (simp -implicitDefEqProofs [hkl2, hkl3, hpe, hpt]; done)))))) ?_
    refine execQ_C rfl (by simp) rfl (same_at us us (by omega) _) ?_
    (repeat (first | refine execQ_E rfl ?_ | (apply execQ_S rfl; (· (simp -implicitDefEqProofs [hwn]; exact ⟨rfl, rfl⟩)))))
    intro hpo
    refine RunD.alt1 18 (by kernel_rfl) (by kernel_rfl) hpo ?_
    refine AStep.C rfl (by simp) rfl (drop_own (b := (texts.length : Int) + 1) hW2 hdk hdz) ?_
    rintro v W3 (⟨-, rfl, hW3, -⟩ | ⟨e, -⟩)
    rotate_left
    · omega
    show RunD _ c5d0 [19, 20, 21, 22, 23, 24, 25] [] _ _ _
    refine RunD.flow [19, 20, 21, 22] (by kernel_rfl) (by decide +kernel) (by decide +kernel) (by decide) trivial ?_; (repeat (first | refine execQ_E rfl ?_ | (apply execQ_S rfl; (· (simp -implicitDefEqProofs; exact ⟨rfl, rfl⟩))))); intro hpo
    refine RunD.alt1 23 (by kernel_rfl) (by kernel_rfl) hpo ?_
    refine AStep.C rfl (by simp) rfl (crash0_LD hW3.disk hdk) ?_
    rintro v W4 ⟨rfl, nf, -, hW4, -⟩
    rw [oneF_cut] at hW4
    show RunD _ c5d0 [24, 25] [] _ _ _
    refine RunD.flow [24, 25] (by kernel_rfl) (by decide +kernel) (by decide +kernel) (by decide) trivial ?_; (repeat (first | refine execQ_E rfl ?_ | (apply execQ_S rfl; (· (simp -implicitDefEqProofs; exact ⟨rfl, rfl⟩))))); intro hpo
    refine RunD.fin (by kernel_rfl) hpo ?_
    have hop := open_own (frm := n) hW4 hdk (by omega) (fun f hf => by
      have := (oneF_small texts (fun s hs => by have := hsh s hs; omega) f (List.mem_of_mem_drop hf)).2; omega) (fun f hf => (oneF_small texts (fun s hs => by have := hsh s hs; omega) f (List.mem_of_mem_drop hf)).1) (by
      have := congrArg List.length (oneF_texts texts (fun s hs => by have := hsh s hs; omega) k)
      rw [List.length_map, List.length_drop] at this; omega)
    rw [keep_drop, oneF_last texts (max k n) n (by omega)] at hop
    have hot := oneF_texts texts (fun s hs => by have := hsh s hs; omega) (max k n)
    have hol : (opnT ((oneF texts).drop (max k n))).length ≤ 1000000000 := by
      have := congrArg List.length hot
      rw [List.length_map, List.length_drop] at this; omega
    (repeat (first | refine Run.adm rfl ?_ | refine Run.seq ?_ | ((first | apply Run.opS rfl | apply Run.condS); (· (simp -implicitDefEqProofs [ha3, hwn, ht2, hm2, hne]; first | exact ⟨rfl, rfl⟩ | exact rfl)))))
    refine Run.opC rfl rfl rfl hop ?_
    rintro v W5 ⟨lg2, rfl, -, hW5, -⟩
    (repeat (first | refine Run.adm rfl ?_ | refine Run.seq ?_ | ((first | apply Run.opS rfl | apply Run.condS); (· (simp -implicitDefEqProofs; first | exact ⟨rfl, rfl⟩ | exact rfl)))))
    refine Run.sl [(0, .vs (texts.map encS) 1), (13, .int .i64 k), (14, .int .i64 n), (15, .ptr lg2 0), (16, .int .i64 0)] (by simp) ?_
    obtain ⟨q, hq⟩ : ∃ q, q = max k n := ⟨_, rfl⟩
    rw [← hq] at hW5 hol hot
    have hq1 : (if (k : Int) < n then (n : Int) else k) = q := by split <;> omega
    have hq2 : (if (n : Int) < k then (k : Int) else n) = q := by split <;> omega
    have hq3 : (if k < n then (n : Int) else k) = q := by split <;> omega
    have hq4 : (if n < k then (k : Int) else n) = q := by split <;> omega
    have hql : q ≤ texts.length := by omega
    have hql2 : (q : Int) ≤ texts.length := by omega
    obtain ⟨us2, hus2⟩ : ∃ us2, us2 = texts.drop q := ⟨_, rfl⟩
    have hpe2 : (texts.map encS).drop q = us2.map encS := by rw [hus2, List.map_drop]
    have husl2 : us2.length = texts.length - q := by rw [hus2, List.length_drop]
    refine Run.drawn prog_mixed ?_
    show RunD _ c5d1 [0, 1, 2, 3, 4, 5, 6, 7, 8, 9, 10, 11, 12, 13, 14, 15, 16, 17, 18, 19, 20, 21, 22, 23, 24, 25, 26, 27] [] _ _ _
    refine RunD.flow [0, 1, 2, 3, 4, 5, 6, 7, 9, 10, 11, 12, 13] (by kernel_rfl) (by decide +kernel) (by decide +kernel) (by decide) trivial ?_; (repeat (first | refine execQ_E rfl ?_ | (apply execQ_S rfl; (· (simp -implicitDefEqProofs [hq1, hq2, hq3, hq4, hql, hql2, hpe2, hpt]; exact ⟨rfl, rfl⟩))))); intro hpo
    refine RunD.alt1 8 (by kernel_rfl) (by kernel_rfl) hpo ?_
    refine AStep.C rfl (by simp) rfl (WalOwn.all hW5 hol) ?_
    rintro v W6 ⟨rfl, hW6, -⟩
    rw [hot, ← hus2]
    refine RunD.flow [14, 15, 16, 17, 18, 19, 20, 21, 22, 23, 24, 25, 26, 27] (by kernel_rfl) (by decide +kernel) (by decide +kernel) (by decide) (by
      show PendOk _ c5d1 _ _ [13, 12, 11, 10, 9]
      (repeat (first | exact PendOk.nil | (refine PendOk.S rfl rfl ?_ ?_; (· (simp -implicitDefEqProofs [hq1, hq2, hq3, hq4, hql, hql2, hpe2, hpt]; done)))))) ?_
    refine execQ_C rfl (by simp) rfl (same_at us2 us2 (by omega) _) ?_
    (repeat (first | refine execQ_E rfl ?_ | (apply execQ_S rfl; (· (simp -implicitDefEqProofs; exact ⟨rfl, rfl⟩)))))
    refine execQ_C rfl (by simp) rfl hW6.last ?_
    (repeat (first | refine execQ_E rfl ?_ | (apply execQ_S rfl; (· (simp -implicitDefEqProofs [hwn]; exact ⟨rfl, rfl⟩)))))
    refine execQ_C rfl (by simp) rfl (awake_at _) ?_
    (repeat (first | refine execQ_E rfl ?_ | (apply execQ_S rfl; (· (simp -implicitDefEqProofs; exact ⟨rfl, rfl⟩)))))
    intro hpo
    refine RunD.fin (by kernel_rfl) hpo ?_
    (repeat (first | refine Run.adm rfl ?_ | refine Run.seq ?_ | ((first | apply Run.opS rfl | apply Run.condS); (· (simp -implicitDefEqProofs; first | exact ⟨rfl, rfl⟩ | exact rfl)))))
    exact hfin trivial (by simp)

end Go.Proofs.YtkidkiapfjhkeaaGreatDoor
