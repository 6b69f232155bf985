/-
  Sx, part F: the operations that make and change objects.
-/
import Derived.Test.YticecideodkcmaaSxE
namespace Sx
open Go

theorem putAt_length {cs vs : List V} {off : Nat} (h : off + vs.length ≤ cs.length) : (putAt cs off vs).length = cs.length := by
  simp [putAt]; omega

theorem putAt_get {cs vs : List V} {off : Nat} (h : off + vs.length ≤ cs.length) (i : Nat) : (putAt cs off vs)[i]? = if off ≤ i ∧ i < off + vs.length then vs[i - off]? else cs[i]? := by
  unfold putAt
  by_cases h1 : i < off
  · rw [List.getElem?_append_left (by simp; omega), if_neg (by omega), List.getElem?_take, if_pos h1]
  · rw [List.getElem?_append_right (by simp; omega)]
    simp only [List.length_take, show min off cs.length = off from by omega]
    by_cases h2 : i < off + vs.length
    · rw [List.getElem?_append_left (by omega), if_pos (by omega)]
    · rw [List.getElem?_append_right (by omega), if_neg (by omega), List.getElem?_drop]
      congr 1; omega

theorem VRels.putAt {ro m} {cs vs : List V} {ccs cvs r : Array Value} (h : VRels ro m cs ccs) (hv : VRels ro m vs cvs) {off : Nat} (hl : off + vs.length ≤ cs.length)
    (hr : r.size = ccs.size) (hg : ∀ i, i < ccs.size → r[i]? = if off ≤ i ∧ i < off + cvs.size then cvs[i - off]? else ccs[i]?) : VRels ro m (Sx.putAt cs off vs) r := by
  refine ⟨by rw [putAt_length hl, h.1, hr], fun i a b => ?_⟩
  have h1 := putAt_get hl i
  have h2 := hg i (by omega)
  rw [List.getElem?_eq_getElem a] at h1
  rw [Array.getElem?_eq_getElem b] at h2
  have hvl := hv.1
  by_cases hc : off ≤ i ∧ i < off + vs.length
  · rw [if_pos hc] at h1
    rw [if_pos (by omega)] at h2
    rw [List.getElem?_eq_getElem (by omega)] at h1
    rw [Array.getElem?_eq_getElem (by omega)] at h2
    have e1 : (Sx.putAt cs off vs)[i] = vs[i - off] := by simpa using h1
    have e2 : r[i] = cvs[i - off] := by simpa using h2
    rw [e1, e2]; exact hv.2 _ _ _
  · rw [if_neg hc] at h1
    rw [if_neg (by omega)] at h2
    have hi : i < cs.length := by rw [putAt_length hl] at a; exact a
    rw [List.getElem?_eq_getElem hi] at h1
    rw [Array.getElem?_eq_getElem (by rw [← h.1]; exact hi)] at h2
    have e1 : (Sx.putAt cs off vs)[i] = cs[i] := by simpa using h1
    have e2 : r[i] = ccs[i]'(by rw [← h.1]; exact hi) := by simpa using h2
    rw [e1, e2]; exact h.2 _ _ _

theorem fold_set (off : Nat) : ∀ (l : List Value) (k : Nat) (a : Array Value), off + k + l.length ≤ a.size →
    (((l.zipIdx k).foldl (fun cs (x : Value × Nat) => cs.setIfInBounds (off + x.2) x.1) a).size = a.size) ∧
    ∀ i, i < a.size → ((l.zipIdx k).foldl (fun cs (x : Value × Nat) => cs.setIfInBounds (off + x.2) x.1) a)[i]? = if off + k ≤ i ∧ i < off + k + l.length then l[i - (off + k)]? else a[i]?
  | [], k, a, _ => ⟨rfl, fun i hi => by rw [if_neg (by simp)]; rfl⟩
  | v :: l, k, a, h => by
    simp only [List.zipIdx_cons, List.foldl_cons]
    simp only [List.length_cons] at h
    obtain ⟨h1, h2⟩ := fold_set off l (k + 1) (a.setIfInBounds (off + k) v) (by simp; omega)
    refine ⟨by rw [h1]; simp, fun i hi => ?_⟩
    rw [h2 i (by simpa using hi)]
    simp only [List.length_cons]
    by_cases hc : off + (k + 1) ≤ i ∧ i < off + (k + 1) + l.length
    · rw [if_pos hc, if_pos (by omega), show i - (off + k) = (i - (off + (k + 1))) + 1 from by omega, List.getElem?_cons_succ]
    · rw [if_neg hc]
      by_cases e : i = off + k
      · subst e; rw [if_pos (by omega)]; simp [hi]
      · rw [if_neg (by omega), Array.getElem?_setIfInBounds_ne (Ne.symm e)]

theorem fold_set0 (off : Nat) (cvs a : Array Value) (h : off + cvs.size ≤ a.size) :
    (cvs.zipIdx.foldl (fun cs (x : Value × Nat) => cs.setIfInBounds (off + x.2) x.1) a).size = a.size ∧
    ∀ i, i < a.size → (cvs.zipIdx.foldl (fun cs (x : Value × Nat) => cs.setIfInBounds (off + x.2) x.1) a)[i]? = if off ≤ i ∧ i < off + cvs.size then cvs[i - off]? else a[i]? := by
  have e : cvs.zipIdx.foldl (fun cs (x : Value × Nat) => cs.setIfInBounds (off + x.2) x.1) a = (cvs.toList.zipIdx 0).foldl (fun cs (x : Value × Nat) => cs.setIfInBounds (off + x.2) x.1) a := by
    rw [← Array.foldl_toList, Array.toList_zipIdx]
  rw [e]
  simpa using fold_set off cvs.toList 0 a (by simpa using h)

/-- 'fill', a struct's parts -/
theorem fill_sound {N c t a} (ht : TRel N c t a) (place : Nat → Option (Nat × Nat)) : ∀ (parts : List (Nat × Operand)) (ps : List (Nat × Nat × Opd)) (cs : List V) (ccs : Array Value) (r : List V),
    parts.length = ps.length → (∀ i (h : i < parts.length) (h' : i < ps.length), place parts[i].1 = some (ps[i].1, ps[i].2.1) ∧ cOpd N parts[i].2 = some ps[i].2.2 ∧ ps[i].1 + ps[i].2.1 ≤ cs.length) →
    VRels c.ro c.m cs ccs → fillAt t cs ps = some r →
    ∃ cr, Instr.fill place ccs (parts.map fun p => (p.1, a.eval p.2)) = some cr ∧ VRels c.ro c.m r cr
  | [], ps, cs, ccs, r, hl, _, hr, hf => by
    cases ps with
    | nil => simp [fillAt] at hf; subst hf; exact ⟨ccs, rfl, hr⟩
    | cons => simp at hl
  | (i, x) :: parts, [], cs, ccs, r, hl, _, _, _ => by simp at hl
  | (i, x) :: parts, (off, n, y) :: ps, cs, ccs, r, hl, hp, hr, hf => by
    obtain ⟨h1, h2, h3⟩ := hp 0 (by simp) (by simp)
    simp only [List.getElem_cons_zero] at h1 h2 h3
    simp only [fillAt] at hf
    split at hf
    case isFalse => cases hf
    case isTrue hc =>
      simp only [Bool.and_eq_true, beq_iff_eq] at hc
      have hv := opd_rel ht h2
      obtain ⟨hcr, _⟩ := cells_rel hv hc.1
      have hsz : (a.eval x).cells.size = n := by rw [← hcr.1, hc.2]
      have hle : off + (y.ev t).cells.length ≤ cs.length := by rw [hc.2]; exact h3
      obtain ⟨f1, f2⟩ := fold_set0 off (a.eval x).cells ccs (by rw [← hr.1, hsz]; exact h3)
      have hnew := hr.putAt hcr hle f1 f2
      obtain ⟨cr, g1, g2⟩ := fill_sound ht place parts ps _ _ r (by simpa using hl) (fun j a b => by
        have := hp (j + 1) (by simpa using a) (by simpa using b)
        simp only [List.getElem_cons_succ] at this
        rw [putAt_length hle]; exact this) hnew hf
      refine ⟨cr, ?_, g2⟩
      simp only [List.map_cons, Instr.fill, h1]
      rw [if_neg (by rw [hsz]; simp; rw [← hr.1]; omega)]
      exact g1

/-- a new row -/
theorem newRow_ok {P : Program} {c w h} (hh : HRel c w h) (e : TypeId) (cc : Array Value) (o : O) (ho : ∀ m' : Pl, (∀ i q, c.m i = some q → m' i = some q) → ∀ w' : World, w'.heap[w.heap.size]? = some (.cells cc e) → ORel c.ro m' w' ⟨w.heap.size, 0, cc.size, false, e⟩ o) :
    ∃ w' c', (newRow e cc).run P w = .ok ⟨w.heap.size, 0, none⟩ w' ∧ c'.m h.length = some ⟨w.heap.size, 0, cc.size, false, e⟩ ∧ HRel c' w' (h ++ [o]) ∧ Adv c w h c' w' (h ++ [o]) := by
  obtain ⟨h1, h2⟩ := hh.grow (w' := { w with heap := w.heap.push (.cells cc e) }) o ⟨w.heap.size, 0, cc.size, false, e⟩ (fun _ => Nat.le_refl _) (by simp) (fun b hb => by
    simp only [Array.getElem?_push]; rw [if_neg (by omega)]) rfl rfl rfl (fun m' hm => ho m' hm _ (by simp))
  exact ⟨_, _, rfl, by simp, h1, h2⟩

theorem row_of_cells {c : Ctx} {cells : List V} {cc : Array Value} (hr : VRels c.ro c.m cells cc) (e : TypeId) (b : Nat) (m' : Pl) (hm : ∀ i q, c.m i = some q → m' i = some q) (w' : World)
    (hw : w'.heap[b]? = some (.cells cc e)) : ORel c.ro m' w' ⟨b, 0, cc.size, false, e⟩ (.row cells) := by
  refine ⟨cc, ⟨rfl, rfl, Nat.zero_le _, ⟨e, rfl⟩, (0, 0), hw, fun i _ => by simp⟩, by simp [hr.1], fun i a b' => ?_⟩
  have := (hr.2 i a (by simpa using b')).mono (fun _ _ h => h) hm
  simpa using this

theorem sound_box {P : Program} {c w h} (hh : HRel c w h) (e : TypeId) {v : V} {cv : Value} (hv : VRel c.ro c.m v cv) (hc : v.celled = true) :
    Ok P c w h (Instr.box e cv) (.ptr h.length 0) (h ++ [.row v.cells]) := by
  obtain ⟨hr, _⟩ := cells_rel hv hc
  obtain ⟨w', c', h1, h2, h3, h4⟩ := newRow_ok (P := P) hh e cv.cells (.row v.cells) (fun m' hm w' hw => row_of_cells hr e _ m' hm w' hw)
  refine ⟨.pointer (some ⟨w.heap.size, 0, none⟩), w', c', ?_, ?_, h3, h4⟩
  · simp only [Instr.box, newVar, Sem.run_bind, h1, Result.andThen_ok]; rfl
  · exact .ptr _ _ _ ⟨w.heap.size, 0, cv.cells.size, false, e⟩ h2 rfl

theorem cZero_spec {P t l} (h : cZero P t = some l) : ∃ i z, P.info? t = some i ∧ i.zero = some z ∧ z.cells.size = i.size ∧ l.length = i.size ∧ (∀ ro m, VRels ro m l z.cells) := by
  unfold cZero at h
  split at h
  case h_2 => cases h
  case h_1 i hi =>
    split at h
    case h_2 => cases h
    case h_1 z hz =>
      simp only at h
      split at h
      case isFalse => cases h
      case isTrue hl =>
        obtain ⟨h1, h2⟩ := mapM_some _ _ _ h
        refine ⟨i, z, hi, hz, by simpa using hl, by rw [← h1]; exact hl, fun ro m => ⟨by simpa using h1.symm, fun j a b => ?_⟩⟩
        have := h2 j (by simpa using b) a
        rw [Array.getElem_toList] at this
        exact ofVal0_rel this

theorem run_zeroValue {P : Program} {t i z} (hi : P.info? t = some i) (hz : i.zero = some z) (w : World) : (zeroValue t).run P w = .ok z w := by
  simp [zeroValue, typeInfo, hi, hz]

theorem sound_alloc {P : Program} {c w h} (hh : HRel c w h) (e : TypeId) {l : List V} (hz : cZero P e = some l) :
    Ok P c w h (Instr.alloc e true (.tuple #[])) (.ptr h.length 0) (h ++ [.row l]) := by
  obtain ⟨i, z, hi, hz, h1, h2, h3⟩ := cZero_spec hz
  obtain ⟨w', c', g1, g2, g3, g4⟩ := newRow_ok (P := P) hh e z.cells (.row l) (fun m' hm w' hw => row_of_cells (h3 _ _) e _ m' hm w' hw)
  refine ⟨.pointer (some ⟨w.heap.size, 0, none⟩), w', c', ?_, ?_, g3, g4⟩
  · simp only [Instr.alloc, Sem.run_bind, run_zeroValue hi hz, Result.andThen_ok, newVar, g1]; rfl
  · exact .ptr _ _ _ ⟨w.heap.size, 0, z.cells.size, false, e⟩ g2 rfl

/-- what a row's object tells of the block -/
theorem row_cells {c w h} (hh : HRel c w h) {id : Nat} {cs : List V} (hid : h[id]? = some (.row cs)) :
    ∃ (p : Place) (cc : Array Value) (e : {e : TypeId // e = p.ty}) (fr : Nat × Nat), c.m id = some p ∧ p.null = false ∧ w.heap[p.block]? = some (.cells cc e.1 fr) ∧ cc.size = p.top ∧ p.base ≤ p.top ∧ p.base + cs.length ≤ p.top ∧
      (∀ i (h : i < cs.length), ∃ x, cc[p.base + i]? = some x ∧ VRel c.ro c.m cs[i] x) ∧ (∀ i, i < p.top → ¬ (fr.1 ≤ i ∧ i < fr.2)) := by
  obtain ⟨p, hp, ⟨cc, ⟨hn, hs, hb, e, fr, hw, hf⟩, hl, hv⟩, _⟩ := hh.obj id _ hid trivial
  refine ⟨p, cc, e, fr, hp, hn, hw, hs, hb, hl, fun i hi => ?_, hf⟩
  have : p.base + i < cc.size := by omega
  exact ⟨cc[p.base + i], Array.getElem?_eq_getElem this, hv i hi this⟩

theorem arr_cells {c w h} (hh : HRel c w h) {id sz : Nat} {es : List (List V)} (hid : h[id]? = some (.arr es sz)) {p : Place} (hp : c.m id = some p) (hn : p.null = false) :
    ∃ (cc : Array Value) (e : {e : TypeId // e = p.ty}) (fr : Nat × Nat), w.heap[p.block]? = some (.cells cc e.1 fr) ∧ cc.size = p.top ∧ p.base ≤ p.top ∧ p.base + es.length * sz ≤ p.top ∧ (∀ i (h : i < es.length), es[i].length = sz) ∧ (∀ e ∈ es, V.ones e = true) ∧
      (∀ i (h : i < es.length) j (h' : j < es[i].length), ∃ x, cc[p.base + i * sz + j]? = some x ∧ VRel c.ro Pl.none es[i][j] x) ∧ (∀ i, i < p.top → ¬ (fr.1 ≤ i ∧ i < fr.2)) := by
  obtain ⟨q, hq, ⟨_, h1, hlen, hx⟩, _⟩ := hh.obj id _ hid trivial
  rw [hp] at hq; cases hq
  obtain ⟨cc, ⟨_, hs, hb, e, fr, hw, hf⟩, hl, hv⟩ := hx hn
  exact ⟨cc, e, fr, hw, hs, hb, hl, hlen, h1, hv, hf⟩

theorem sound_load0 {P : Program} {N c t a w h} (hh : HRel c w h) (ht : TRel N c t a) {x : Operand} {x' : Opd} (hx : cOpd N x = some x') {ty n agg} (hk : cSize P ty = some (n, agg)) {v h'}
    (hs : opStep t h (.load x' (if agg then some n else none)) = some (v, h')) : h' = h ∧ ∃ cv, (Instr.loadAt ty (a.eval x)).run P w = .ok cv w ∧ VRel c.ro c.m v cv := by
  have hv := opd_rel ht hx
  simp only [opStep] at hs
  generalize x'.ev t = xv at *
  generalize a.eval x = cx at *
  split at hs
  · rename_i id off
    obtain ⟨p, hp, hn, rfl⟩ := hv.ptr_inv
    split at hs
    case h_2 => cases hs
    case h_1 cs hid =>
      split at hs <;> cases hs
      rename_i hr
      obtain ⟨p', cc, e, fr, hp', _, hw, h1, h2, h3, h4, _⟩ := row_cells hh hid
      rw [hp] at hp'; cases hp'
      obtain ⟨cv, g1, g2⟩ := read_sound (P := P) (w := w) (b := p.block) (o := p.base) (fun i hi => by
        obtain ⟨x, hx, hv⟩ := h4 i hi; exact ⟨x, by rw [cell_of_heap hw]; exact hx, hv⟩) hk hr
      exact ⟨rfl, cv, g1, g2⟩
  · rename_i id i sz off
    obtain ⟨p, hp, hn, rfl⟩ := hv.eptr_inv
    split at hs
    case h_2 => cases hs
    case h_1 es s hid =>
      split at hs
      case isFalse => cases hs
      case isTrue e =>
        subst e
        split at hs
        case h_2 => cases hs
        case h_1 cs hcs =>
          split at hs <;> cases hs
          rename_i hr
          obtain ⟨hi, rfl⟩ := List.getElem?_eq_some_iff.1 hcs
          obtain ⟨cc, e, fr, hw, h1, h2, h3, hlen, _, h4, _⟩ := arr_cells hh hid hp hn
          obtain ⟨cv, g1, g2⟩ := read_sound (P := P) (w := w) (b := p.block) (o := p.base + i * s) (fun j hj => by
            obtain ⟨x, hx, hv⟩ := h4 i hi j hj; exact ⟨x, by rw [cell_of_heap hw]; exact hx, hv⟩) hk hr
          exact ⟨rfl, cv, g1, g2.mono (fun _ _ h => h) fun _ _ h => by cases h⟩
  · rename_i cs off
    obtain ⟨b, o, ccs, f, hb, hc, hf, rfl⟩ := hv.rptr_inv
    split at hs <;> cases hs
    rename_i hr
    obtain ⟨e, fr, hw⟩ := hh.ro _ _ hb
    obtain ⟨cv, g1, g2⟩ := read_sound (P := P) (w := w) (b := b) (o := o) (fun j hj => ⟨f j, by rw [cell_of_heap hw]; exact hc j hj, hf j hj⟩) hk hr
    exact ⟨rfl, cv, g1, g2.mono (fun _ _ h => h) fun _ _ h => by cases h⟩
  · cases hs

theorem sound_load {P : Program} {N c t a w h} (hh : HRel c w h) (ht : TRel N c t a) {x : Operand} {x' : Opd} (hx : cOpd N x = some x') {ty n agg} (hk : cSize P ty = some (n, agg)) {v h'}
    (hs : opStep t h (.load x' (if agg then some n else none)) = some (v, h')) : Ok P c w h (Instr.loadAt ty (a.eval x)) v h' := by
  obtain ⟨rfl, cv, h1, h2⟩ := sound_load0 (P := P) hh ht hx hk hs
  exact Ok.of_same hh h1 h2

end Sx
