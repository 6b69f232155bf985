/-
  Layer 05, part E: a file is made, goes, has another name.
-/
import Derived.Test.YthphkcpbglhabaaGreatDoorFsD
namespace Go.Proofs.YthphkcpbglhabaaGreatDoor
open Sx Go
set_option maxRecDepth 100000
set_option linter.unusedSimpArgs false
set_option linter.unusedVariables false
set_option linter.unnecessarySimpa false
attribute [local simp] stepV condR boundsC appendG appendO copyV srcC guardB isCall opStep Opd.ev put readAt aBin aUn args0 V.celled V.ones V.one V.cells putAt bounds bound1 elemsOf srcOf appendV fillAt fillEl V.pures V.pure unwind evs ARes.ev mkRes V.ren V.renL O.ren eqCells eq1 aEq aMM hasTy hasTyN okTy mmGo Known HLe OLe VsLe.refl VLe.refl VLe.cap Stay VsLe V.frz V.frzL O.frz fr clearV rn KnownR Objs OLeO ObjsE nm back setAll ren_ite take_map_len List.take_of_length_le
attribute [local simp ↓] upd_app tl_cons tl_nil
attribute [local simp] encS_ren encS_ones encS_len encS_take KnownS VLe.refl

/-- the map has turned, no file has -/
theorem DiskAt.reset {X Z : List O} {d m : Nat} {l l' : List FP} {fu : Int} {off : Bool} (h : DiskAt X d m l fu off) (hm : Z[m]? = some (.map (l'.map entV))) (hk : Kept X Z [m])
    (hs : ∀ q' ∈ l', ∃ q ∈ l, q'.p = q.p ∧ q'.a = q.a ∧ q'.f.bytes = q.f.bytes ∧ q'.f.sure = q.f.sure) (hnd : (foot d m l').Nodup) (hn : (l'.map (·.f.name)).Nodup) (hl : l'.length ≤ 256) : DiskAt Z d m l' fu off := by
  obtain ⟨e1, e2⟩ := h.ne
  refine ⟨hk.get h.row (by simpa using e1), hm, fun q' hq' => ?_, hnd, hn, h.fuse, hl, fun q' hq' => ?_⟩
  · obtain ⟨q, hq, h1, h2, h3, h4⟩ := hs q' hq'
    obtain ⟨f1, f2⟩ := h.file q hq
    obtain ⟨n1, n2, n3, n4, n5⟩ := e2 q hq
    unfold FileAt
    rw [h1, h2, h3, h4]
    exact ⟨hk.get f1 (by simpa using n3), hk.get f2 (by simpa using n4)⟩
  · obtain ⟨q, hq, h1, h2, h3, h4⟩ := hs q' hq'
    rw [h3, h4]; exact h.ok q hq

def delF (fs : List FileM) (name : Bs) : List FileM := fs.filter (fun f => !decide (f.name = name))
theorem delF_split {A B : List FP} {q : FP} (h : ((A ++ q :: B).map (·.f.name)).Nodup) : (A ++ B).map (·.f) = delF ((A ++ q :: B).map (·.f)) q.f.name := by
  obtain ⟨h1, h2⟩ := names_split h
  have e1 : (A.map (·.f)).filter (fun f => !decide (f.name = q.f.name)) = A.map (·.f) := List.filter_eq_self.2 fun f hf => by
    obtain ⟨r, hr, rfl⟩ := List.mem_map.1 hf
    simp [h1 r hr]
  have e2 : (B.map (·.f)).filter (fun f => !decide (f.name = q.f.name)) = B.map (·.f) := List.filter_eq_self.2 fun f hf => by
    obtain ⟨r, hr, rfl⟩ := List.mem_map.1 hf
    simp [h2 r hr]
  simp only [delF, List.map_append, List.map_cons, List.filter_append, e1]
  simp [e2]
theorem foot_sub (d m : Nat) (A B : List FP) (q : FP) : (foot d m (A ++ B)).Sublist (foot d m (A ++ q :: B)) := by
  unfold foot
  refine List.Sublist.cons_cons _ (List.Sublist.cons_cons _ ?_)
  rw [List.flatMap_append, List.flatMap_append, List.flatMap_cons]
  exact List.Sublist.append (List.Sublist.refl _) (List.sublist_append_right _ _)
theorem DiskAt.del {X Z : List O} {d m : Nat} {A B : List FP} {q : FP} {fu : Int} {off : Bool} (h : DiskAt X d m (A ++ q :: B) fu off) (hm : Z[m]? = some (.map ((A ++ B).map entV))) (hk : Kept X Z [m]) : DiskAt Z d m (A ++ B) fu off := by
  refine h.reset hm hk (fun r hr => ⟨r, ?_, rfl, rfl, rfl, rfl⟩) (h.nd.sublist (foot_sub d m A B q)) ?_ ?_
  · rcases List.mem_append.1 hr with x | x
    · exact List.mem_append_left _ x
    · exact List.mem_append_right _ (List.mem_cons_of_mem _ x)
  · have := h.names
    rw [List.map_append, List.map_cons, nodup_mid] at this
    rw [List.map_append]; exact this.2
  · have := h.len
    simp only [List.length_append, List.length_cons] at this ⊢; omega
theorem mFind_split {A B : List FP} {q : FP} (h : ∀ r ∈ A, r.f.name ≠ q.f.name) : ∀ i, mFind 1 (.str q.f.name) ((A ++ q :: B).map entV) i = some (some (i + A.length)) := by
  induction A with
  | nil => intro i; simp [mFind, entV, kEq]
  | cons x A ih =>
    intro i
    have hx : ¬ q.f.name = x.f.name := fun e => h x (by simp) e.symm
    simp only [List.cons_append, List.map_cons, mFind, entV, kEq, hx, if_true, decide_false]
    have := ih (fun r hr => h r (List.mem_cons_of_mem _ hr)) (i + 1)
    rw [this]; simp only [List.length_cons]; congr 2; omega

def removeD (D : Dk) (name : Bs) : Int × Dk :=
  if (doI (mayN name) D.fu D.off).1 = 0 then (match fileOf D.files name with
    | some _ => (0, ⟨delF D.files name, (D.did (mayN name)).fu, (D.did (mayN name)).off⟩)
    | none => (3, D.did (mayN name))) else ((doI (mayN name) D.fu D.off).1, D.did (mayN name))

theorem remove_tri (X : List O) {d : Nat} {D : Dk} {F : List Nat} (hD : IsD X d D F) (name : Bs) :
    Tri Tryz.prog 71 [.ptr d 0, .str name] X (fun v Y => v = .int .i64 (removeD D name).1 ∧ After X d F (removeD D name).2 Y) := by
  obtain ⟨m, l, hat, hfs, rfl⟩ := hD
  refine Tri.of_run' Tryz.func71 rfl c71_ok (by simp [Tryz.ntmps71]) ?_
  have hft := find_tri X hat name
  (repeat (first | refine Run.adm rfl ?_ | refine Run.seq ?_ | ((first | apply Run.opS rfl | apply Run.condS); (· (simp -implicitDefEqProofs; first | exact ⟨rfl, rfl⟩ | exact rfl)))))
  refine Run.opC rfl rfl rfl hft ?_
  rintro v Y ⟨rfl, hY, hk⟩
  have hk' : Kept X Y (foot d m l) := hk.mono (by simp [foot])
  have hfo := fileOf_find l name
  rw [hfs] at hfo
  have hend : ∀ n D', removeD D name = (n, D') → ∀ {Z}, After X d (foot d m l) D' Z → ∀ {k t}, AtEnd k → t 4 = .int .i64 n → Run ⟨Tryz.prog, 71, Tryz.f71.ntmps, X, fun v Y => v = .int .i64 (removeD D name).1 ∧ After X d (foot d m l) (removeD D name).2 Y⟩ ⟨k, t, Z⟩ := by
    intro n D' he Z hZ k t hk h4
    refine Run.sl [(4, .int .i64 n)] (by simp [h4]) ?_
    refine Run.retS Tryz.func71 r71_ok hk (by simp [r71]; rfl) ?_
    rw [he]
    exact ⟨by simp, hZ⟩
  by_cases h0 : (doI (mayN name) D.fu D.off).1 = 0
  rotate_left
  · (repeat (first | refine Run.adm rfl ?_ | refine Run.seq ?_ | ((first | apply Run.opS rfl | apply Run.condS); (· (simp -implicitDefEqProofs [findR, h0]; first | exact ⟨rfl, rfl⟩ | exact rfl)))))
    exact hend (doI (mayN name) D.fu D.off).1 (D.did (mayN name)) (by simp [removeD, h0]) ⟨_, ⟨m, l, hY, hfs, rfl⟩, hk', Grown.refl _ _⟩ trivial (by simp)
  cases hf : findF l name with
  | none =>
    rw [hf] at hfo
    (repeat (first | refine Run.adm rfl ?_ | refine Run.seq ?_ | ((first | apply Run.opS rfl | apply Run.condS); (· (simp -implicitDefEqProofs [findR, h0, hf]; first | exact ⟨rfl, rfl⟩ | exact rfl)))))
    exact hend 3 (D.did (mayN name)) (by simp [removeD, h0, hfo]) ⟨_, ⟨m, l, hY, hfs, rfl⟩, hk', Grown.refl _ _⟩ trivial (by simp)
  | some q =>
    rw [hf] at hfo
    obtain ⟨A, B, rfl, rfl, hA⟩ := find_split hf
    have hmf := mFind_split (B := B) hA 0
    rw [Nat.zero_add] at hmf
    have her : ((A ++ q :: B).map entV).eraseIdx A.length = (A ++ B).map entV := by
      rw [List.map_append, List.map_cons, List.eraseIdx_append_of_length_le (by simp)]
      simp
    obtain ⟨M, hM⟩ : ∃ M, M = (A ++ q :: B).map entV := ⟨_, rfl⟩
    have hmap := hY.map
    rw [← hM] at hmf her hmap
    have haft : After X d (foot d m (A ++ q :: B)) ⟨delF D.files q.f.name, (D.did (mayN q.f.name)).fu, (D.did (mayN q.f.name)).off⟩ (Y.set m (.map ((A ++ B).map entV))) := by
      refine ⟨_, ⟨m, _, hY.del (setG hmap _) ((Kept.refl Y _).set _ _ (.inl (List.mem_singleton.2 rfl))), ?_, rfl⟩, (hk.trans ((Kept.refl Y [m]).set m _ (.inl (List.mem_singleton.2 rfl)))).mono ?_, fun i hi => .inl ((foot_sub d m A B q).subset hi)⟩
      · rw [← hfs]; exact (delF_split hY.names)
      · intro i hi
        simp only [List.cons_append, List.nil_append, List.mem_cons, List.not_mem_nil, or_false] at hi
        rcases hi with rfl | rfl <;> simp [foot]
    (repeat (first | refine Run.adm rfl ?_ | refine Run.seq ?_ | ((first | apply Run.opS rfl | apply Run.condS); (· (simp -implicitDefEqProofs [findR, h0, hf, hY.row, hmap, hmf, her]; first | exact ⟨rfl, rfl⟩ | exact rfl)))))
    rw [List.map_append] at haft
    exact hend 0 _ (by simp [removeD, h0, hfo]) haft trivial (by simp)

theorem DiskAt.add {X Z : List O} {d m : Nat} {l : List FP} {q : FP} {fu : Int} {off : Bool} (h : DiskAt X d m l fu off) (hm : Z[m]? = some (.map ((l ++ [q]).map entV))) (hk : Kept X Z [m]) (hq : FileAt Z q) (h1 : X.length ≤ q.p) (h2 : X.length ≤ q.a) (h3 : q.p ≠ q.a)
    (hn : ∀ r ∈ l, r.f.name ≠ q.f.name) (hl : l.length < 256) (hok : q.f.bytes.length ≤ 4194304 ∧ q.f.sure ≤ q.f.bytes.length) : DiskAt Z d m (l ++ [q]) fu off := by
  obtain ⟨e1, e2⟩ := h.ne
  have hlt := h.lt
  refine ⟨hk.get h.row (by simpa using e1), hm, fun r hr => ?_, ?_, ?_, h.fuse, by simp; omega, fun r hr => ?_⟩
  · rcases List.mem_append.1 hr with hr | hr
    · obtain ⟨f1, f2⟩ := h.file r hr
      obtain ⟨n1, n2, n3, n4, n5⟩ := e2 r hr
      exact ⟨hk.get f1 (by simpa using n3), hk.get f2 (by simpa using n4)⟩
    · rw [List.mem_singleton.1 hr]; exact hq
  · have e : foot d m (l ++ [q]) = foot d m l ++ [q.p, q.a] := by simp [foot]
    rw [e, List.nodup_append]
    refine ⟨h.nd, by simpa using h3, fun i hi j hj e => ?_⟩
    have := hlt i hi
    simp only [List.mem_cons, List.not_mem_nil, or_false] at hj
    omega
  · rw [List.map_append, List.nodup_append]
    refine ⟨h.names, by simp, fun i hi j hj e => ?_⟩
    obtain ⟨r, hr, rfl⟩ := List.mem_map.1 hi
    simp only [List.map_cons, List.map_nil, List.mem_singleton] at hj
    exact hn r hr (e.trans hj)
  · rcases List.mem_append.1 hr with hr | hr
    · exact h.ok r hr
    · rw [List.mem_singleton.1 hr]; exact hok

def makeD (D : Dk) (name : Bs) : Int × Dk :=
  if (doI (mayN name) D.fu D.off).1 = 0 then (if (fileOf D.files name).isSome = true then (1, D.did (mayN name)) else if 256 ≤ D.files.length then (2, D.did (mayN name))
    else (0, ⟨D.files ++ [⟨name, [], 0⟩], (D.did (mayN name)).fu, (D.did (mayN name)).off⟩)) else ((doI (mayN name) D.fu D.off).1, D.did (mayN name))

theorem make_tri (X : List O) {d : Nat} {D : Dk} {F : List Nat} (hD : IsD X d D F) (name : Bs) :
    Tri Tryz.prog 75 [.ptr d 0, .str name] X (fun v Y => v = .int .i64 (makeD D name).1 ∧ After X d F (makeD D name).2 Y) := by
  obtain ⟨m, l, hat, hfs, rfl⟩ := hD
  refine Tri.of_run' Tryz.func75 rfl c75_ok (by simp [Tryz.ntmps75]) ?_
  have hfo := fileOf_find l name
  rw [hfs] at hfo
  have hflen : D.files.length = l.length := by rw [← hfs, List.length_map]
  obtain ⟨R, hR⟩ : ∃ R, R = doI (mayN name) D.fu D.off := ⟨_, rfl⟩
  have hf2 := doI_fuse (ok := mayN name) (off := D.off) hat.fuse
  have hdid : D.did (mayN name) = ⟨D.files, R.2.1, R.2.2⟩ := by rw [hR]; rfl
  have hmk : makeD D name = if R.1 = 0 then (if (fileOf D.files name).isSome = true then (1, D.did (mayN name)) else if 256 ≤ D.files.length then (2, D.did (mayN name)) else (0, ⟨D.files ++ [⟨name, [], 0⟩], (D.did (mayN name)).fu, (D.did (mayN name)).off⟩)) else (R.1, D.did (mayN name)) := by rw [hR]; rfl
  rw [← hR] at hf2
  (repeat (first | refine Run.adm rfl ?_ | refine Run.seq ?_ | ((first | apply Run.opS rfl | apply Run.condS); (· (simp -implicitDefEqProofs; first | exact ⟨rfl, rfl⟩ | exact rfl)))))
  refine Run.frzS X.length (es := [[.str name]]) (sz := 1) (by simp) ?_
  refine run_to [(0, .ptr d 0), (1, .str name), (8, .ptr d 0), (10, .vs ([name].map encS) 1)] (fun Y => Kept X Y []) (by simp [encS]) (((Kept.refl X []).app _).set _ _ (.inr (by omega))) ?_
  intro Y hY
  have hdY := hY.get hat.row (by simp)
  have hall : [name].all mayN = mayN name := by simp
  have hdo := doing_tri Y hdY hat.fuse [name] (by simp)
  rw [hall, ← hR] at hdo
  (repeat (first | refine Run.adm rfl ?_ | refine Run.seq ?_ | ((first | apply Run.opS rfl | apply Run.condS); (· (simp -implicitDefEqProofs; first | exact ⟨rfl, rfl⟩ | exact rfl)))))
  refine Run.opC rfl rfl rfl hdo ?_
  rintro v Z ⟨rfl, rfl⟩
  have hk : Kept X (Y.set d (.row [.mp m, .int .i64 R.2.1, .bool R.2.2])) [d] := (hY.mono (by simp)).set _ _ (.inl (by simp))
  have hZ := hat.turn (setG hdY _) hk hf2
  generalize Y.set d (.row [.mp m, .int .i64 R.2.1, .bool R.2.2]) = Z at *
  have hk' : Kept X Z (foot d m l) := hk.mono (by simp [foot])
  have hend : ∀ n D', makeD D name = (n, D') → ∀ {W}, After X d (foot d m l) D' W → ∀ {k t}, AtEnd k → t 4 = .int .i64 n → Run ⟨Tryz.prog, 75, Tryz.f75.ntmps, X, fun v Y => v = .int .i64 (makeD D name).1 ∧ After X d (foot d m l) (makeD D name).2 Y⟩ ⟨k, t, W⟩ := by
    intro n D' he W hW k t hk h4
    refine Run.sl [(4, .int .i64 n)] (by simp [h4]) ?_
    refine Run.retS Tryz.func75 r75_ok hk (by simp [r75]; rfl) ?_
    rw [he]
    exact ⟨by simp, hW⟩
  have hsame : After X d (foot d m l) (D.did (mayN name)) Z := by rw [hdid]; exact ⟨_, ⟨m, l, hZ, hfs, rfl⟩, hk', Grown.refl _ _⟩
  by_cases h0 : R.1 = 0
  rotate_left
  · (repeat (first | refine Run.adm rfl ?_ | refine Run.seq ?_ | ((first | apply Run.opS rfl | apply Run.condS); (· (simp -implicitDefEqProofs [h0]; first | exact ⟨rfl, rfl⟩ | exact rfl)))))
    exact hend R.1 (D.did (mayN name)) (by rw [hmk, if_neg h0]) hsame trivial (by simp)
  rcases mFind_file name l 0 with ⟨j, q, h1, h2, h3, h4⟩ | ⟨h1, h2, h3⟩
  · simp only [Nat.zero_add] at h3
    have h1' : (l.map entV)[j]? = some (entV q) := by rw [List.getElem?_map, h1]; rfl
    (repeat (first | refine Run.adm rfl ?_ | refine Run.seq ?_ | ((first | apply Run.opS rfl | apply Run.condS); (· (simp -implicitDefEqProofs [h0, hZ.row, hZ.map, h3, h1', h1, entV]; first | exact ⟨rfl, rfl⟩ | exact rfl)))))
    refine hend 1 (D.did (mayN name)) ?_ hsame trivial (by simp)
    rw [hmk, if_pos h0, if_pos]
    rw [hfo]; simp [findF, h4]
  have hnone : fileOf D.files name = none := by rw [hfo]; simp [findF, h3]
  by_cases hful : 256 ≤ l.length
  · have hful' : (256 : Int) ≤ l.length := by omega
    (repeat (first | refine Run.adm rfl ?_ | refine Run.seq ?_ | ((first | apply Run.opS rfl | apply Run.condS); (· (simp -implicitDefEqProofs [h0, hZ.row, hZ.map, h2, hful, hful']; first | exact ⟨rfl, rfl⟩ | exact rfl)))))
    refine hend 2 (D.did (mayN name)) ?_ hsame trivial (by simp)
    rw [hmk, if_pos h0, if_neg (by simp [hnone]), if_pos (by omega)]
  have hful' : ¬ (256 : Int) ≤ l.length := by omega
  have hne := hZ.ne
  (repeat (first | refine Run.adm rfl ?_ | refine Run.seq ?_ | ((first | apply Run.opS rfl | apply Run.condS); (· (simp -implicitDefEqProofs [h0, hZ.row, hZ.map, h2, hful, hful', getA hZ.map, kEq]; first | exact ⟨rfl, rfl⟩ | exact rfl)))))
  have hmlt := lt_of_get hZ.map
  have hmz : m ≠ Z.length := by omega
  obtain ⟨W0, hW0⟩ : ∃ W0, W0 = (Z ++ [O.row [V.nils, V.int .i64 0]]).set m (O.map (l.map entV ++ [(V.str name, V.ptr Z.length 0)])) := ⟨_, rfl⟩
  have w1 : W0[Z.length]? = some (.row [.nils, .int .i64 0]) := by rw [hW0, setN hmz]; simp
  have w2 : W0[m]? = some (.map (l.map entV ++ [(V.str name, V.ptr Z.length 0)])) := by rw [hW0]; exact setG (getA hZ.map _) _
  have w3 : Kept Z W0 [m] := hW0 ▸ ((Kept.refl Z _).app _).set _ _ (.inl (by simp))
  have w4 : W0.length = Z.length + 1 := by rw [hW0]; simp
  rw [← hW0]
  refine Run.nilC Z.length 0 1 5 w1 rfl ?_
  have haft : After X d (foot d m l) ⟨D.files ++ [⟨name, [], 0⟩], (D.did (mayN name)).fu, (D.did (mayN name)).off⟩ (W0.set Z.length (O.row ([V.nils, V.int .i64 0].set 0 (V.sl W0.length 0 0 1 none))) ++ [O.arr [] 1, O.ty W0.length 5 none]) := by
    have hk2 : Kept Z (W0.set Z.length (O.row ([V.nils, V.int .i64 0].set 0 (V.sl W0.length 0 0 1 none))) ++ [O.arr [] 1, O.ty W0.length 5 none]) [m] := (w3.set _ _ (.inr (Nat.le_refl _))).app _
    rw [hdid]
    refine ⟨_, ⟨m, l ++ [⟨⟨name, [], 0⟩, Z.length, W0.length⟩], hZ.add ?_ hk2 ⟨?_, ?_⟩ (Nat.le_refl _) (by simp only; omega) (by simp only; omega) (fun r hr => h1 r hr) (by omega) (by simp), by simp [hfs], rfl⟩, (hk.trans hk2).mono ?_, ?_⟩
    · refine getA ?_ _
      rw [setN (Ne.symm hmz), w2]
      simp [entV]
    · exact getA (setG w1 _) _
    · rw [List.getElem?_append_right (by simp)]
      simp [byteEls]
    · intro i hi
      simp only [List.cons_append, List.nil_append, List.mem_cons, List.not_mem_nil, or_false] at hi
      rcases hi with rfl | rfl <;> simp [foot]
    · intro i hi
      have e : foot d m (l ++ [⟨⟨name, [], 0⟩, Z.length, W0.length⟩]) = foot d m l ++ [Z.length, W0.length] := by simp [foot]
      rw [e] at hi
      have := hk.1
      rcases List.mem_append.1 hi with hi | hi
      · exact .inl hi
      · simp only [List.mem_cons, List.not_mem_nil, or_false] at hi
        exact .inr (by omega)
  refine hend 0 _ ?_ haft trivial (by simp)
  rw [hmk, if_pos h0, if_neg (by simp [hnone]), if_neg (by omega)]

end Go.Proofs.YthphkcpbglhabaaGreatDoor
