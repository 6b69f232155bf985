/-
  Sx, part E: operations, the abstract step held against the model's, one kind at a time.
-/
import Derived.Test.YticecideodkcmaaSxD
import Derived.Laws.Entries
namespace Sx
open Go

structure TRel (N : Nat) (c : Ctx) (t : T) (a : Act) : Prop where
  size : a.tmps.size = N
  rel : ∀ i, VRel c.ro c.m (t i) (a.tmps.getD i undef)

theorem TRel.mono {N c c' t a} (h : TRel N c t a) (hm : ∀ i p, c.m i = some p → c'.m i = some p) (hr : ∀ b cs, c.ro b = some cs → c'.ro b = some cs) : TRel N c' t a :=
  ⟨h.size, fun i => (h.rel i).mono hr hm⟩

theorem TRel.put {N c t a} (h : TRel N c t a) (d : Option Nat) (hd : ∀ x, d = some x → x < N) {v : V} {cv : Value} (hv : VRel c.ro c.m v cv) : TRel N c (put t d v) (a.put d cv) := by
  cases d with
  | none => exact h
  | some d =>
    refine ⟨by simp [Act.put, h.size], fun i => ?_⟩
    have hdN := hd d rfl
    by_cases e : i = d
    · subst e
      have : (i : Nat) < a.tmps.size := by rw [h.size]; exact hdN
      simp [Sx.put, upd, Act.put, this]; exact hv
    · have := h.rel i
      simp only [Sx.put, upd, if_neg e, Act.put]
      rw [Array.getD_eq_getD_getElem?, Array.getElem?_setIfInBounds_ne (Ne.symm e), ← Array.getD_eq_getD_getElem?]
      exact this

theorem ofVal0_rel {ro m} {v : Value} {v' : V} (h : V.ofVal0 v = some v') : VRel ro m v' v := by
  unfold V.ofVal0 at h
  split at h <;> cases h
  · exact .bool ..
  · exact .int ..
  · rename_i s; have := VRel.str (ro := ro) m s.data.toList; simpa using this
  · exact .nilp ..
  · exact .nils ..
  · exact .nilf ..
  · exact .nilm ..

theorem mapM_some {α β} (f : α → Option β) : ∀ (l : List α) (r : List β), l.mapM f = some r → l.length = r.length ∧ ∀ i (h : i < l.length) (h' : i < r.length), f l[i] = some r[i]
  | [], r, h => by simp at h; subst h; exact ⟨rfl, fun i h => by simp at h⟩
  | a :: l, r, h => by
    simp only [List.mapM_cons] at h
    cases ha : f a with
    | none => simp [ha] at h
    | some b =>
      cases hl : l.mapM f with
      | none => simp [ha, hl] at h
      | some s =>
        simp [ha, hl] at h
        subst h
        obtain ⟨h1, h2⟩ := mapM_some f l s hl
        refine ⟨by simp [h1], fun i hi hi' => ?_⟩
        cases i with
        | zero => simpa using ha
        | succ i => simpa using h2 i (by simpa using hi) (by simpa using hi')

theorem ofVal_rel {ro m} {v : Value} {v' : V} (h : V.ofVal v = some v') : VRel ro m v' v := by
  unfold V.ofVal at h
  split at h
  · rename_i cs
    cases hm : cs.toList.mapM V.ofVal0 with
    | none => simp [hm] at h
    | some l =>
      simp [hm] at h; subst h
      obtain ⟨h1, h2⟩ := mapM_some _ _ _ hm
      refine .agg _ _ _ (by simpa using h1.symm) fun i a b => ?_
      have := h2 i (by simpa using b) a
      exact ofVal0_rel (by simpa using this)
  · cases h; exact .any ..
  · exact ofVal0_rel h

theorem opd_rel {N c t a} (h : TRel N c t a) {x : Operand} {x' : Opd} (hx : cOpd N x = some x') : VRel c.ro c.m (x'.ev t) (a.eval x) := by
  cases x with
  | tmp i =>
    simp only [cOpd] at hx
    split at hx <;> cases hx
    exact h.rel i
  | const v =>
    simp only [cOpd] at hx
    cases hv : V.ofVal v with
    | none => simp [hv] at hx
    | some u => simp [hv] at hx; subst hx; exact ofVal_rel hv
  | func f => simp only [cOpd] at hx; cases hx; exact .fn _ _ _ _ rfl fun i h => by simp at h
  | global g => simp [cOpd] at hx

theorem opds_rel {N c t a} (h : TRel N c t a) {xs : Array Operand} {xs' : List Opd} (hx : cOpds N xs = some xs') : VRels c.ro c.m (xs'.map (Opd.ev t)) (xs.map a.eval) := by
  obtain ⟨h1, h2⟩ := mapM_some _ _ _ hx
  refine ⟨by simp [← h1], fun i a b => ?_⟩
  have := opd_rel h (h2 i (by simpa using b) (by simpa using a))
  simpa using this

section inv
variable {ro : Ro} {m : Pl} {cv : Value}
theorem VRel.int_inv {k n} (h : VRel ro m (.int k n) cv) : cv = .int k n := by cases h; rfl
theorem VRel.bool_inv {b} (h : VRel ro m (.bool b) cv) : cv = .bool b := by cases h; rfl
theorem VRel.str_inv {l} (h : VRel ro m (.str l) cv) : cv = .string ⟨l.toArray⟩ := by cases h; rfl
theorem VRel.nilp_inv (h : VRel ro m .nilp cv) : cv = .pointer none := by cases h; rfl
theorem VRel.nils_inv (h : VRel ro m .nils cv) : cv = .slice none 0 0 := by cases h; rfl
theorem VRel.nilf_inv (h : VRel ro m .nilf cv) : cv = .nilFunc := by cases h; rfl
theorem VRel.nilm_inv (h : VRel ro m .nilm cv) : cv = .map none := by cases h; rfl
theorem VRel.zs_inv (h : VRel ro m .zs cv) : ∃ a, cv = .slice a 0 0 := by cases h; exact ⟨_, rfl⟩
theorem VRel.ptr_inv {id off} (h : VRel ro m (.ptr id off) cv) : ∃ p, m id = some p ∧ p.null = false ∧ cv = .pointer (some ⟨p.block, p.base + off, none⟩) := by cases h; exact ⟨_, by assumption, by assumption, rfl⟩
theorem VRel.eptr_inv {id i sz off} (h : VRel ro m (.eptr id i sz off) cv) : ∃ p, m id = some p ∧ p.null = false ∧ cv = .pointer (some ⟨p.block, p.base + i * sz + off, none⟩) := by cases h; exact ⟨_, by assumption, by assumption, rfl⟩
theorem VRel.rptr_inv {cells off} (h : VRel ro m (.rptr cells off) cv) : ∃ (b o : Nat) (cs : Array Value) (f : Nat → Value), ro b = some cs ∧ (∀ i, i < cells.length → cs[o + i]? = some (f i)) ∧ (∀ i (h : i < cells.length), VRel ro Pl.none cells[i] (f i)) ∧ cv = .pointer (some ⟨b, o + off, none⟩) := by
  cases h; exact ⟨_, _, _, _, by assumption, by assumption, by assumption, rfl⟩
theorem VRel.sl_inv {id off len sz k} (h : VRel ro m (.sl id off len sz k) cv) :
    (∃ p cap o, m id = some p ∧ p.null = false ∧ len ≤ cap ∧ (o = p.base + off * sz ∨ cap = 0) ∧ (0 < cap → p.base + off * sz + cap * sz ≤ p.top) ∧ (∀ x, k = some x → x = cap) ∧ cv = .slice (some ⟨p.block, o, none⟩) len cap) ∨
    (∃ p a, m id = some p ∧ p.null = true ∧ off = 0 ∧ len = 0 ∧ k = none ∧ cv = .slice a 0 0) := by
  cases h
  · exact .inl ⟨_, _, _, by assumption, by assumption, by assumption, by assumption, by assumption, by assumption, rfl⟩
  · exact .inr ⟨_, _, by assumption, by assumption, rfl, rfl, rfl, rfl⟩
theorem VRel.vs_inv {elems sz} (h : VRel ro m (.vs elems sz) cv) :
    (∃ (b o cap : Nat) (cs : Array Value) (f : Nat → Nat → Value), ro b = some cs ∧ elems.length ≤ cap ∧ (∀ i (h : i < elems.length), elems[i].length = sz) ∧ (∀ e ∈ elems, V.ones e = true) ∧ (∀ i j, i < elems.length → j < sz → cs[o + i * sz + j]? = some (f i j)) ∧
      (∀ i (h : i < elems.length) j (h' : j < elems[i].length), VRel ro Pl.none elems[i][j] (f i j)) ∧ cv = .slice (some ⟨b, o, none⟩) elems.length cap) ∨
    (∃ a, elems = [] ∧ cv = .slice a 0 0) := by
  cases h
  · exact .inl ⟨_, _, _, _, _, by assumption, by assumption, by assumption, by assumption, by assumption, by assumption, rfl⟩
  · exact .inr ⟨_, rfl, rfl⟩
theorem VRel.agg_inv {cells} (h : VRel ro m (.agg cells) cv) : ∃ cs, cv = .agg cs ∧ VRels ro m cells cs := by cases h; exact ⟨_, rfl, by assumption, by assumption⟩
theorem VRel.tup_inv {cells} (h : VRel ro m (.tup cells) cv) : ∃ cs, cv = .tuple cs ∧ VRels ro m cells cs := by cases h; exact ⟨_, rfl, by assumption, by assumption⟩
theorem VRel.fn_inv {f cap} (h : VRel ro m (.fn f cap) cv) : ∃ cs, cv = .func (.func f) #[] cs ∧ VRels ro m cap cs := by cases h; exact ⟨_, rfl, by assumption, by assumption⟩
end inv

theorem V.ones_mem : ∀ {l : List V}, V.ones l = true → ∀ v ∈ l, v.one = true
  | a :: l, h, v, hv => by
    simp only [V.ones, Bool.and_eq_true] at h
    rcases List.mem_cons.1 hv with rfl | hv
    · exact h.1
    · exact V.ones_mem h.2 v hv

theorem one_oneCell {ro m v cv} (h : VRel ro m v cv) (h1 : v.one = true) : cv.oneCell' = true := by
  cases h <;> first | rfl | (simp [V.one] at h1; done)

/-- a value's cells -/
theorem cells_rel {ro m v cv} (h : VRel ro m v cv) (h1 : v.celled = true) : VRels ro m v.cells cv.cells ∧ ∀ u ∈ cv.cells.toList, u.oneCell' = true := by
  by_cases ha : ∃ l, v = .agg l
  · obtain ⟨l, rfl⟩ := ha
    obtain ⟨cs, rfl, hr⟩ := h.agg_inv
    refine ⟨hr, fun u hu => ?_⟩
    simp only [Value.cells] at hu
    obtain ⟨i, hi, rfl⟩ := List.getElem_of_mem hu
    have hi' : i < cs.size := by simpa using hi
    have := hr.2 i (by rw [hr.1]; exact hi') hi'
    exact one_oneCell (by simpa using this) (V.ones_mem h1 _ (List.getElem_mem _))
  · have e1 : v.cells = [v] := by unfold V.cells; split; · exact absurd ⟨_, rfl⟩ ha
                                  · rfl
    have h1' : v.one = true := by
      unfold V.celled at h1; split at h1
      · exact absurd ⟨_, rfl⟩ ha
      · exact h1
    have h2 := one_oneCell h h1'
    have e2 : cv.cells = #[cv] := by cases cv <;> first | rfl | (simp [Value.oneCell'] at h2; done)
    rw [e1, e2]
    exact ⟨⟨rfl, fun i a b => by simp at a; subst a; exact h⟩, by simpa using h2⟩

mutual
theorem pure_rel {ro m} : ∀ {v : V} {cv : Value}, v.pure = true → VRel ro m v cv → VRel ro Pl.none v cv
  | .bool _, _, _, h => by cases h; exact .bool ..
  | .int .., _, _, h => by cases h; exact .int ..
  | .str _, _, _, h => by cases h; exact .str ..
  | .nilp, _, _, h => by cases h; exact .nilp ..
  | .nils, _, _, h => by cases h; exact .nils ..
  | .nilf, _, _, h => by cases h; exact .nilf ..
  | .nilm, _, _, h => by cases h; exact .nilm ..
  | .zs, _, _, h => by cases h; exact .zs ..
  | .rptr .., _, _, h => by obtain ⟨b, o, cs, f, h1, h2, h3, rfl⟩ := h.rptr_inv; exact .rptr _ _ _ b o cs f h1 h2 h3
  | .vs .., _, _, h => by
    rcases h.vs_inv with ⟨b, o, cap, cs, f, h1, h2, h3, h6, h4, h5, rfl⟩ | ⟨a, rfl, rfl⟩
    · exact .vs _ _ _ b o cap cs f h1 h2 h3 h6 h4 h5
    · exact .vsnil ..
  | .any, _, _, _ => .any ..
  | .bad, _, _, h => by cases h
  | .fn f cap, _, hp, h => by
    obtain ⟨cs, rfl, h1, h2⟩ := h.fn_inv
    exact .fn _ _ _ _ h1 fun i a b => pures_rel hp (fun i a b => h2 i a b) i a b
  | .agg l, _, hp, h => by
    obtain ⟨cs, rfl, h1, h2⟩ := h.agg_inv
    exact .agg _ _ _ h1 fun i a b => pures_rel hp (fun i a b => h2 i a b) i a b
  | .tup l, _, hp, h => by
    obtain ⟨cs, rfl, h1, h2⟩ := h.tup_inv
    exact .tup _ _ _ h1 fun i a b => pures_rel hp (fun i a b => h2 i a b) i a b
  | .ptr .., _, hp, _ => by simp [V.pure] at hp
  | .eptr .., _, hp, _ => by simp [V.pure] at hp
  | .sl .., _, hp, _ => by simp [V.pure] at hp
  | .mp _, _, hp, _ => by simp [V.pure] at hp
theorem pures_rel {ro m} : ∀ {l : List V} {cs : Array Value}, V.pures l = true → (∀ i (h : i < l.length) (h' : i < cs.size), VRel ro m l[i] cs[i]) → ∀ i (h : i < l.length) (h' : i < cs.size), VRel ro Pl.none l[i] cs[i]
  | v :: l, cs, hp, hv, 0, h, h' => by
    simp only [V.pures, Bool.and_eq_true] at hp
    exact pure_rel hp.1 (hv 0 h h')
  | v :: l, cs, hp, hv, i + 1, h, h' => by
    simp only [V.pures, Bool.and_eq_true] at hp
    have := pures_rel (l := l) (cs := cs.extract 1 cs.size) hp.2 (fun j a b => by
      have := hv (j + 1) (by simpa using a) (by simp at b; omega)
      simpa [Array.getElem_extract, Nat.add_comm] using this) i (by simpa using h) (by simp; omega)
    simpa [Array.getElem_extract, Nat.add_comm] using this
end

def Ok (P : Program) (c : Ctx) (w : World) (h : List O) (s : Sem Value) (v : V) (h' : List O) : Prop :=
  ∃ cv w' c', s.run P w = .ok cv w' ∧ VRel c'.ro c'.m v cv ∧ HRel c' w' h' ∧ Adv c w h c' w' h'

theorem Ok.of_same {P c w h s v cv} (hh : HRel c w h) (hs : s.run P w = .ok cv w) (hv : VRel c.ro c.m v cv) : Ok P c w h s v h := ⟨cv, w, c, hs, hv, hh, Adv.refl ..⟩

theorem cSize_agg {P t n} (h : cSize P t = some (n, true)) : ∃ d i, P.underlying t = some d ∧ d.isRow = true ∧ P.info? t = some i ∧ i.size = n := by
  unfold cSize at h
  split at h <;> first | (cases h; exact ⟨_, _, by assumption, rfl, by assumption, rfl⟩) | (split at h <;> cases h) | cases h

theorem cSize_one {P t n} (h : cSize P t = some (n, false)) : n = 1 ∧ ∃ d i, P.underlying t = some d ∧ d.isRow = false ∧ P.info? t = some i ∧ i.size = 1 := by
  unfold cSize at h
  split at h
  · cases h
  · cases h
  · rename_i i d hs ha hi hd
    split at h
    · cases h
      refine ⟨rfl, d, i, hd, ?_, hi, by assumption⟩
      cases d <;> first | rfl | (exact absurd rfl (hs _)) | (exact absurd rfl (ha _ _))
    · cases h
  · cases h

theorem cSize_size {P t n b} (h : cSize P t = some (n, b)) : ∃ d i, P.underlying t = some d ∧ P.info? t = some i ∧ i.size = n := by
  cases b
  · obtain ⟨rfl, d, i, h1, _, h2, h3⟩ := cSize_one h; exact ⟨d, i, h1, h2, h3⟩
  · obtain ⟨d, i, h1, _, h2, h3⟩ := cSize_agg h; exact ⟨d, i, h1, h2, h3⟩

/-- reading a variable among cells that are known -/
theorem read_sound {P : Program} {w : World} {ro : Ro} {m : Pl} {b o : Nat} {cs : List V} (f : ∀ i (h : i < cs.length), ∃ x, w.cell? ⟨b, o + i, none⟩ = some x ∧ VRel ro m cs[i] x)
    {t : TypeId} {n : Nat} {agg : Bool} (hk : cSize P t = some (n, agg)) {off : Nat} {v : V} (hr : readAt cs off (if agg then some n else none) = some v) :
    ∃ cv, (Instr.loadAt t (.pointer (some ⟨b, o + off, none⟩))).run P w = .ok cv w ∧ VRel ro m v cv := by
  cases agg with
  | false =>
    obtain ⟨_, d, i, hu, hd, hi, hs⟩ := cSize_one hk
    simp [readAt] at hr
    obtain ⟨hlt, rfl⟩ := List.getElem?_eq_some_iff.1 hr
    obtain ⟨x, hx, hv⟩ := f off hlt
    refine ⟨x, ?_, hv⟩
    have hagg : (isAgg t).run P w = .ok false w := by
      unfold isAgg
      rw [Sem.run_bind, run_underlying hu w]
      cases d <;> first | rfl | (simp [TypeDesc.isRow] at hd; done)
    simp only [Instr.loadAt, Instr.sureAddr, loadVar, Sem.run_bind, Sem.run_pure, Result.andThen_ok, hagg]
    simp [hx]
  | true =>
    obtain ⟨d, i, hu, hd, hi, hs⟩ := cSize_agg hk
    simp [readAt] at hr
    obtain ⟨hle, rfl⟩ := hr
    let g : Nat → Value := fun j => (w.cell? ⟨b, o + off + j, none⟩).getD undef
    have hg : ∀ j, j < n → w.cell? ⟨b, o + off + j, none⟩ = some (g j) := by
      intro j hj
      obtain ⟨x, hx, _⟩ := f (off + j) (by omega)
      rw [← Nat.add_assoc] at hx
      simp [g, hx]
    refine ⟨.agg ((List.range n).map g).toArray, ?_, ?_⟩
    · refine run_loadAt_mid w b (o + off) t _ d (fun j v hj => ?_) hu hd (by simp [hi, hs])
      simp only [List.getElem?_map] at hj
      rcases Nat.lt_or_ge j n with h1 | h1
      · rw [List.getElem?_range h1] at hj; simp at hj; rw [← hj]; exact hg j h1
      · rw [List.getElem?_eq_none (by simp; exact h1)] at hj; simp at hj
    · refine .agg _ _ _ (by simp; omega) fun j a b' => ?_
      have hj : j < n := by simp at b'; exact b'
      obtain ⟨x, hx, hv⟩ := f (off + j) (by omega)
      rw [← Nat.add_assoc] at hx
      have := hg j hj
      rw [hx] at this
      have : x = g j := by simpa using this
      subst this
      simpa using hv

end Sx
