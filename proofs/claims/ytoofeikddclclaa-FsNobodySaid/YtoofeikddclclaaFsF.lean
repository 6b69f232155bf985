/-
  Layer 05, part F: a file has another name.
-/
import Derived.Test.YtoofeikddclclaaFsE
namespace Go.Proofs.Ytoofeikddclclaa
open Sx Go
set_option maxRecDepth 100000
set_option linter.unusedSimpArgs false
set_option linter.unusedVariables false
set_option linter.unnecessarySimpa false
attribute [local simp] stepV condR boundsC appendG appendO copyV srcC guardB isCall opStep Opd.ev put readAt aBin aUn args0 V.celled V.ones V.one V.cells putAt bounds bound1 elemsOf srcOf appendV fillAt fillEl V.pures V.pure unwind evs ARes.ev mkRes V.ren V.renL O.ren eqCells eq1 aEq aMM hasTy hasTyN okTy mmGo Known HLe OLe VsLe.refl VLe.refl VLe.cap Stay VsLe V.frz V.frzL O.frz fr clearV rn KnownR Objs OLeO ObjsE nm back setAll ren_ite take_map_len List.take_of_length_le
attribute [local simp ↓] upd_app tl_cons tl_nil
attribute [local simp] encS_ren encS_ones encS_len encS_take KnownS VLe.refl

theorem DiskAt.turn2 {X Y d m l fu off fu' off'} (h : DiskAt X d m l fu off) {id : Nat} (hid : id ∉ foot d m l) (hr : Y[d]? = some (.row [.mp m, .int .i64 fu', .bool off'])) (hk : Kept X Y [d, id]) (hf : -1 ≤ fu' ∧ fu' ≤ 9223372036854775807) : DiskAt Y d m l fu' off' := by
  obtain ⟨h1, h2⟩ := h.ne
  have hi : ∀ j ∈ foot d m l, j ≠ id := fun j hj e => hid (e ▸ hj)
  refine ⟨hr, hk.get h.map (by simp [h1.symm, hi m (by simp [foot])]), fun q hq => ?_, h.nd, h.names, hf, h.len, h.ok⟩
  obtain ⟨n1, n2, -⟩ := h2 q hq
  obtain ⟨g1, g2⟩ := h.file q hq
  exact ⟨hk.get g1 (by simp [n1, hi _ (foot_p hq).1]), hk.get g2 (by simp [n2, hi _ (foot_p hq).2])⟩

theorem find2_tri (X : List O) {d m : Nat} {l : List FP} {fu : Int} {off : Bool} (hd : DiskAt X d m l fu off) (name to : Bs) {id : Nat} (ho : X[id]? = some (.arr [[.str to]] 1)) (hid : id ∉ foot d m l) :
    Tri Try.prog 24 [.ptr d 0, .str name, .sl id 0 1 1 (some 1)] X (fun v Y => v = .tup [(findR l name (doI (mayN to && mayN name) fu off)).1, .int .i64 (findR l name (doI (mayN to && mayN name) fu off)).2] ∧ DiskAt Y d m l (doI (mayN to && mayN name) fu off).2.1 (doI (mayN to && mayN name) fu off).2.2 ∧ Kept X Y [d, id]) := by
  refine Tri.of_run' Try.func24 rfl c24_ok (by simp [Try.ntmps24]) ?_
  obtain ⟨D, hD⟩ : ∃ D, D = doI (mayN to && mayN name) fu off := ⟨_, rfl⟩
  have hf2 := doI_fuse (ok := mayN to && mayN name) (off := off) hd.fuse
  rw [← hD] at hf2 ⊢
  have hdid : d ≠ id := fun e => hid (by simp [foot, e])
  have hlt := lt_of_get ho
  (repeat (first | refine Run.adm rfl ?_ | refine Run.seq ?_ | (apply Run.opS rfl; (· (simp -implicitDefEqProofs [getA ho]; exact ⟨rfl, rfl⟩))) | (apply Run.condS; (· (simp -implicitDefEqProofs [getA ho]; exact rfl)))))
  refine Run.frzS (X.length + 1) (es := [[.str to], [.str name]]) (sz := 1) (by simp) ?_
  refine run_to [(0, .ptr d 0), (1, .str name), (11, .ptr d 0), (15, .vs ([to, name].map encS) 1)] (fun Y => Kept X Y [id]) (by simp [encS]) (((((Kept.refl X [id]).app _).set _ _ (.inl (by simp))).app _).set _ _ (.inr (by omega))) ?_
  intro Y hY
  have hdY := hY.get hd.row (by simpa using hdid)
  have hall : [to, name].all mayN = (mayN to && mayN name) := by simp
  have hdo := doing_tri Y hdY hd.fuse [to, name] (by simp)
  rw [hall, ← hD] at hdo
  (repeat (first | refine Run.adm rfl ?_ | refine Run.seq ?_ | (apply Run.opS rfl; (· (simp -implicitDefEqProofs; exact ⟨rfl, rfl⟩))) | (apply Run.condS; (· (simp -implicitDefEqProofs; exact rfl)))))
  refine Run.opC rfl rfl rfl hdo ?_
  rintro v Z ⟨rfl, rfl⟩
  have hk : Kept X (Y.set d (.row [.mp m, .int .i64 D.2.1, .bool D.2.2])) [d, id] := (hY.mono (by simp)).set _ _ (.inl (by simp))
  have hat := hd.turn2 hid (setG hdY _) hk hf2
  generalize Y.set d (.row [.mp m, .int .i64 D.2.1, .bool D.2.2]) = Z at *
  by_cases h0 : D.1 = 0
  rotate_left
  · (repeat (first | refine Run.adm rfl ?_ | refine Run.seq ?_ | (apply Run.opS rfl; (· (simp -implicitDefEqProofs [h0]; exact ⟨rfl, rfl⟩))) | (apply Run.condS; (· (simp -implicitDefEqProofs [h0]; exact rfl)))))
    refine Run.retS Try.func24 r24_ok trivial (by simp [r24]; rfl) ?_
    exact ⟨by simp [findR, h0], hat, hk⟩
  rcases mFind_file name l 0 with ⟨j, q, h1, h2, h3, h4⟩ | ⟨h1, h2, h3⟩
  · simp only [Nat.zero_add] at h3
    have h1' : (l.map entV)[j]? = some (entV q) := by rw [List.getElem?_map, h1]; rfl
    (repeat (first | refine Run.adm rfl ?_ | refine Run.seq ?_ | (apply Run.opS rfl; (· (simp -implicitDefEqProofs [h0, hat.row, hat.map, h3, h1', h1, entV]; exact ⟨rfl, rfl⟩))) | (apply Run.condS; (· (simp -implicitDefEqProofs [h0, hat.row, hat.map, h3, h1', h1, entV]; exact rfl)))))
    refine Run.retS Try.func24 r24_ok trivial (by simp [r24]; rfl) ?_
    exact ⟨by simp [findR, h0, findF, h4], hat, hk⟩
  · (repeat (first | refine Run.adm rfl ?_ | refine Run.seq ?_ | (apply Run.opS rfl; (· (simp -implicitDefEqProofs [h0, hat.row, hat.map, h2]; exact ⟨rfl, rfl⟩))) | (apply Run.condS; (· (simp -implicitDefEqProofs [h0, hat.row, hat.map, h2]; exact rfl)))))
    refine Run.retS Try.func24 r24_ok trivial (by simp [r24]; rfl) ?_
    exact ⟨by simp [findR, h0, findF, h3], hat, hk⟩

/-- a file more, or in the place of one of its name -/
def setF (fs : List FileM) (f : FileM) : List FileM := if (fileOf fs f.name).isSome = true then fs.map (fun g => if g.name = f.name then f else g) else fs ++ [f]
def renameD (D : Dk) (name to : Bs) : Int × Dk :=
  if (doI (mayN to && mayN name) D.fu D.off).1 = 0 then (match fileOf D.files name with
    | some f => (0, ⟨setF (delF D.files name) ⟨to, f.bytes, f.sure⟩, (D.did (mayN to && mayN name)).fu, (D.did (mayN to && mayN name)).off⟩)
    | none => (3, D.did (mayN to && mayN name))) else ((doI (mayN to && mayN name) D.fu D.off).1, D.did (mayN to && mayN name))

theorem foot_perm {d m : Nat} {l l' : List FP} (h : l.Perm l') : (foot d m l).Perm (foot d m l') := by
  unfold foot
  exact List.Perm.cons _ (List.Perm.cons _ (h.flatMap_right _))

/-- the file goes by its name, and comes by another one -/
theorem DiskAt.ren {X Z : List O} {d m : Nat} {A B : List FP} {q : FP} {fu : Int} {off : Bool} (h : DiskAt X d m (A ++ q :: B) fu off) (to : Bs) {es : List (V × V)}
    (he : (∃ j, mFind 1 (.str to) ((A ++ B).map entV) 0 = some (some j) ∧ es = ((A ++ B).map entV).set j (.str to, .ptr q.p 0)) ∨ (mFind 1 (.str to) ((A ++ B).map entV) 0 = some none ∧ es = (A ++ B).map entV ++ [(.str to, .ptr q.p 0)]))
    (hm : Z[m]? = some (.map es)) (hk : Kept X Z [m]) : ∃ l', DiskAt Z d m l' fu off ∧ l'.map (·.f) = setF ((A ++ B).map (·.f)) ⟨to, q.f.bytes, q.f.sure⟩ ∧ ∀ i ∈ foot d m l', i ∈ foot d m (A ++ q :: B) := by
  have hnm := h.names
  have hfo := fileOf_find (A ++ B) to
  have hnAB : ((A ++ B).map (·.f.name)).Nodup := by
    rw [List.map_append, List.map_cons, nodup_mid] at hnm
    rw [List.map_append]; exact hnm.2
  obtain ⟨q', hq'⟩ : ∃ q' : FP, q' = ⟨⟨to, q.f.bytes, q.f.sure⟩, q.p, q.a⟩ := ⟨_, rfl⟩
  have hent : entV q' = (.str to, .ptr q.p 0) := by rw [hq']; rfl
  have hlen := h.len
  simp only [List.length_append, List.length_cons] at hlen
  have hsrc : ∀ r ∈ A ++ B, r ∈ A ++ q :: B := fun r hr => by
    rcases List.mem_append.1 hr with x | x
    · exact List.mem_append_left _ x
    · exact List.mem_append_right _ (List.mem_cons_of_mem _ x)
  rcases mFind_file to (A ++ B) 0 with ⟨j, r, h1, h2, h3, h4⟩ | ⟨h1, h2, h3⟩
  · rw [Nat.zero_add] at h3
    rcases he with ⟨j', e1, e2⟩ | ⟨e1, -⟩
    rotate_left
    · rw [h3] at e1; cases e1
    rw [h3] at e1; cases e1
    obtain ⟨C, E, hCE, hr, hC⟩ := find_split (l := A ++ B) h4
    have hj : j = C.length := by
      have hf := mFind_split (A := C) (B := E) (q := r) (by rw [hr]; exact hC) 0
      rw [hr, ← hCE, h3] at hf
      simp at hf; exact hf
    subst hj
    have hes : es = (C ++ q' :: E).map entV := by
      rw [e2, hCE, ← hent]
      simp
    have hpm : (r :: (C ++ q :: E)).Perm (A ++ q :: B) := by
      refine List.Perm.trans ?_ List.perm_middle.symm
      rw [hCE]
      refine (List.Perm.cons r List.perm_middle).trans ?_
      refine (List.Perm.swap q r _).trans (List.Perm.cons q ?_)
      exact List.perm_middle.symm
    have hfp := foot_perm (d := d) (m := m) hpm
    have hsub : (foot d m (C ++ q' :: E)).Sublist (foot d m (r :: (C ++ q :: E))) := by
      have e : foot d m (C ++ q' :: E) = foot d m (C ++ q :: E) := by simp [foot, hq']
      rw [e]
      exact foot_sub d m [] (C ++ q :: E) r
    refine ⟨C ++ q' :: E, h.reset (hes ▸ hm) hk (fun x hx => ?_) ((hfp.nodup_iff.2 h.nd).sublist hsub) ?_ ?_, ?_, fun i hi => hfp.mem_iff.1 (hsub.subset hi)⟩
    · rcases List.mem_append.1 hx with y | y
      · exact ⟨x, hsrc x (by rw [hCE]; exact List.mem_append_left _ y), rfl, rfl, rfl, rfl⟩
      · rcases List.mem_cons.1 y with rfl | y
        · exact ⟨q, by simp, by rw [hq'], by rw [hq'], by rw [hq'], by rw [hq']⟩
        · exact ⟨x, hsrc x (by rw [hCE]; exact List.mem_append_right _ (List.mem_cons_of_mem _ y)), rfl, rfl, rfl, rfl⟩
    · have hn := hnAB
      rw [hCE] at hn
      have : (C ++ q' :: E).map (·.f.name) = (C ++ r :: E).map (·.f.name) := by simp [hq', hr]
      rw [this]; exact hn
    · have : (C ++ r :: E).length = (A ++ B).length := by rw [hCE]
      simp only [List.length_append, List.length_cons] at this ⊢; omega
    · have hsome : (fileOf ((A ++ B).map (·.f)) to).isSome = true := by rw [hfo]; simp [findF, h4]
      unfold setF
      rw [if_pos hsome]
      have hn := hnAB
      rw [hCE] at hn ⊢
      obtain ⟨n1, n2⟩ := names_split hn
      rw [hr] at n1 n2
      simp only [List.map_append, List.map_cons, List.map_map, hr, if_true]
      congr 1
      · exact List.map_congr_left fun x hx => by simp [n1 x hx]
      · congr 1
        · rw [hq']
        · exact List.map_congr_left fun x hx => by simp [n2 x hx]
  · rcases he with ⟨j', e1, -⟩ | ⟨-, e2⟩
    · rw [h2] at e1; cases e1
    have hes : es = (A ++ B ++ [q']).map entV := by rw [e2, List.map_append (l₁ := A ++ B), List.map_singleton, hent]
    have hpm : (A ++ B ++ [q]).Perm (A ++ q :: B) := by
      refine List.Perm.trans List.perm_append_comm ?_
      show (q :: (A ++ B)).Perm _
      exact List.perm_middle.symm
    have hfp := foot_perm (d := d) (m := m) hpm
    have hff : foot d m (A ++ B ++ [q']) = foot d m (A ++ B ++ [q]) := by simp [foot, hq']
    refine ⟨A ++ B ++ [q'], h.reset (hes ▸ hm) hk (fun x hx => ?_) (by rw [hff]; exact hfp.nodup_iff.2 h.nd) ?_ ?_, ?_, fun i hi => hfp.mem_iff.1 (hff ▸ hi)⟩
    · rcases List.mem_append.1 hx with y | y
      · exact ⟨x, hsrc x y, rfl, rfl, rfl, rfl⟩
      · rw [List.mem_singleton.1 y]
        exact ⟨q, by simp, by rw [hq'], by rw [hq'], by rw [hq'], by rw [hq']⟩
    · rw [List.map_append, List.nodup_append]
      refine ⟨hnAB, by simp, fun i hi j hj e => ?_⟩
      obtain ⟨r, hr, rfl⟩ := List.mem_map.1 hi
      simp only [List.map_cons, List.map_nil, List.mem_singleton] at hj
      exact h1 r hr (by rw [e, hj, hq'])
    · simp only [List.length_append, List.length_cons, List.length_nil]; omega
    · have hno : ¬ (fileOf ((A ++ B).map (·.f)) to).isSome = true := by rw [hfo]; simp [findF, h3]
      unfold setF
      rw [if_neg hno, List.map_append (l₁ := A ++ B), hq']; rfl

theorem rename_tri (X : List O) {d : Nat} {D : Dk} {F : List Nat} (hD : IsD X d D F) (name to : Bs) :
    Tri Try.prog 20 [.ptr d 0, .str name, .str to] X (fun v Y => v = .int .i64 (renameD D name to).1 ∧ After X d F (renameD D name to).2 Y) := by
  obtain ⟨m, l, hat, hfs, rfl⟩ := hD
  refine Tri.of_run' Try.func20 rfl c20_ok (by simp [Try.ntmps20]) ?_
  (repeat (first | refine Run.adm rfl ?_ | refine Run.seq ?_ | (apply Run.opS rfl; (· (simp -implicitDefEqProofs; exact ⟨rfl, rfl⟩))) | (apply Run.condS; (· (simp -implicitDefEqProofs; exact rfl)))))
  obtain ⟨X1, hX1⟩ : ∃ X1, X1 = X ++ [O.arr [[V.str to]] 1] := ⟨_, rfl⟩
  have hk1 : Kept X X1 [] := hX1 ▸ (Kept.refl X []).app _
  have ho : X1[X.length]? = some (.arr [[.str to]] 1) := by rw [hX1]; simp
  have hid : X.length ∉ foot d m l := fun h => absurd (hat.lt _ h) (by omega)
  have hft := find2_tri X1 (hat.keep hk1) name to ho hid
  rw [← hX1]
  refine Run.opC rfl rfl rfl hft ?_
  rintro v Y ⟨rfl, hY, hk0⟩
  have hk : Kept X Y [d] := ⟨Nat.le_trans hk1.1 hk0.1, fun i hi hf => by
    rw [hk0.2 i (Nat.lt_of_lt_of_le hi hk1.1) (by simp only [List.mem_cons, List.not_mem_nil, or_false, not_or] at hf ⊢; exact ⟨hf, by omega⟩), hk1.2 i hi (by simp)]⟩
  have hk' : Kept X Y (foot d m l) := hk.mono (by simp [foot])
  have hfo := fileOf_find l name
  rw [hfs] at hfo
  obtain ⟨ok, hok⟩ : ∃ ok, ok = (mayN to && mayN name) := ⟨_, rfl⟩
  rw [← hok] at hY ⊢
  have hrn : renameD D name to = if (doI ok D.fu D.off).1 = 0 then (match fileOf D.files name with
    | some f => (0, ⟨setF (delF D.files name) ⟨to, f.bytes, f.sure⟩, (D.did ok).fu, (D.did ok).off⟩)
    | none => (3, D.did ok)) else ((doI ok D.fu D.off).1, D.did ok) := by rw [hok]; rfl
  have hend : ∀ n D', renameD D name to = (n, D') → ∀ {Z}, After X d (foot d m l) D' Z → ∀ {k t}, AtEnd k → t 6 = .int .i64 n → Run ⟨Try.prog, 20, Try.f20.ntmps, X, fun v Y => v = .int .i64 (renameD D name to).1 ∧ After X d (foot d m l) (renameD D name to).2 Y⟩ ⟨k, t, Z⟩ := by
    intro n D' he Z hZ k t hk h4
    refine Run.sl [(6, .int .i64 n)] (by simp [h4]) ?_
    refine Run.retS Try.func20 r20_ok hk (by simp [r20]; rfl) ?_
    rw [he]
    exact ⟨by simp, hZ⟩
  by_cases h0 : (doI ok D.fu D.off).1 = 0
  rotate_left
  · (repeat (first | refine Run.adm rfl ?_ | refine Run.seq ?_ | (apply Run.opS rfl; (· (simp -implicitDefEqProofs [findR, h0]; exact ⟨rfl, rfl⟩))) | (apply Run.condS; (· (simp -implicitDefEqProofs [findR, h0]; exact rfl)))))
    exact hend (doI ok D.fu D.off).1 (D.did ok) (by rw [hrn, if_neg h0]) ⟨_, ⟨m, l, hY, hfs, rfl⟩, hk', Grown.refl _ _⟩ trivial (by simp)
  cases hf : findF l name with
  | none =>
    rw [hf] at hfo
    (repeat (first | refine Run.adm rfl ?_ | refine Run.seq ?_ | (apply Run.opS rfl; (· (simp -implicitDefEqProofs [findR, h0, hf]; exact ⟨rfl, rfl⟩))) | (apply Run.condS; (· (simp -implicitDefEqProofs [findR, h0, hf]; exact rfl)))))
    exact hend 3 (D.did ok) (by simp [hrn, h0, hfo]) ⟨_, ⟨m, l, hY, hfs, rfl⟩, hk', Grown.refl _ _⟩ trivial (by simp)
  | some q =>
    rw [hf] at hfo
    obtain ⟨A, B, rfl, rfl, hA⟩ := find_split hf
    have hmf := mFind_split (B := B) hA 0
    rw [Nat.zero_add] at hmf
    have her : ((A ++ q :: B).map entV).eraseIdx A.length = (A ++ B).map entV := by
      rw [List.map_append, List.map_cons, List.eraseIdx_append_of_length_le (by simp)]
      simp
    have hren := fun {Z es} he hm hk => hY.ren (Z := Z) to (es := es) he hm hk
    have hdl := delF_split hY.names
    rw [hfs] at hdl
    rw [hdl] at hren
    have hmm := mFind_file to (A ++ B) 0
    obtain ⟨M, hM⟩ : ∃ M, M = (A ++ q :: B).map entV := ⟨_, rfl⟩
    obtain ⟨M2, hM2⟩ : ∃ M2, M2 = (A ++ B).map entV := ⟨_, rfl⟩
    have hmap := hY.map
    rw [← hM] at hmf her hmap
    rw [← hM2] at her hren hmm
    have hdm := hY.ne.1
    have hrow2 := fun o => (setN (X := Y) (Ne.symm hdm) o).trans hY.row
    have haft : ∀ es, ((∃ j, mFind 1 (.str to) M2 0 = some (some j) ∧ es = M2.set j (.str to, .ptr q.p 0)) ∨ (mFind 1 (.str to) M2 0 = some none ∧ es = M2 ++ [(.str to, .ptr q.p 0)])) →
        After X d (foot d m (A ++ q :: B)) ⟨setF (delF D.files q.f.name) ⟨to, q.f.bytes, q.f.sure⟩, (D.did ok).fu, (D.did ok).off⟩ (Y.set m (.map es)) := by
      intro es he
      have hkz : Kept Y (Y.set m (.map es)) [m] := (Kept.refl Y [m]).set m _ (.inl (List.mem_singleton.2 rfl))
      obtain ⟨l', g1, g2, g3⟩ := hren he (setG hmap _) hkz
      refine ⟨_, ⟨m, l', g1, g2, rfl⟩, (hk.trans hkz).mono ?_, fun i hi => .inl (g3 i hi)⟩
      intro i hi
      simp only [List.cons_append, List.nil_append, List.mem_cons, List.not_mem_nil, or_false] at hi
      rcases hi with rfl | rfl <;> simp [foot]
    have hres : renameD D q.f.name to = (0, ⟨setF (delF D.files q.f.name) ⟨to, q.f.bytes, q.f.sure⟩, (D.did ok).fu, (D.did ok).off⟩) := by simp [hrn, h0, hfo]
    rcases hmm with ⟨j, r, h1, h2, h3, h4⟩ | ⟨h1, h2, h3⟩
    · rw [Nat.zero_add] at h3
      (repeat (first | refine Run.adm rfl ?_ | refine Run.seq ?_ | (apply Run.opS rfl; (· (simp -implicitDefEqProofs [findR, h0, hf, hY.row, hrow2, hmap, setG hmap, hmf, her, h3]; exact ⟨rfl, rfl⟩))) | (apply Run.condS; (· (simp -implicitDefEqProofs [findR, h0, hf, hY.row, hrow2, hmap, setG hmap, hmf, her, h3]; exact rfl)))))
      exact hend 0 _ hres (haft _ (.inl ⟨j, h3, rfl⟩)) trivial (by simp)
    · (repeat (first | refine Run.adm rfl ?_ | refine Run.seq ?_ | (apply Run.opS rfl; (· (simp -implicitDefEqProofs [findR, h0, hf, hY.row, hrow2, hmap, setG hmap, hmf, her, h2, kEq]; exact ⟨rfl, rfl⟩))) | (apply Run.condS; (· (simp -implicitDefEqProofs [findR, h0, hf, hY.row, hrow2, hmap, setG hmap, hmf, her, h2, kEq]; exact rfl)))))
      exact hend 0 _ hres (haft _ (.inr ⟨h2, rfl⟩)) trivial (by simp)

end Go.Proofs.Ytoofeikddclclaa
