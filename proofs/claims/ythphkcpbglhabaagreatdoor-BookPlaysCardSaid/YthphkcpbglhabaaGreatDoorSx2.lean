/-
  Sx: symbolic execution over abstract heaps: parts G, H, I, J.
-/
import Derived.Test.YthphkcpbglhabaaGreatDoorSx1
import Derived.Laws.Tables
import Derived.Great.BuildSlice
import Derived.Laws.MakeOwn
import Derived.Laws.AppendOwn

/-
  Sx, part G: store, build, slice literals, append, make.
-/
namespace Sx
open Go

theorem mul_step {a b s : Nat} (h : a < b) : a * s + s ≤ b * s := by
  have := Nat.mul_le_mul_right s (Nat.succ_le_of_lt h)
  rwa [Nat.succ_mul] at this

theorem ones_take : ∀ {l : List V} (n : Nat), V.ones l = true → V.ones (l.take n) = true
  | [], n, _ => by simp [V.ones]
  | a :: l, 0, _ => rfl
  | a :: l, n + 1, h => by
    simp only [V.ones, Bool.and_eq_true, List.take_succ_cons] at h ⊢; exact ⟨h.1, ones_take n h.2⟩
theorem ones_drop : ∀ {l : List V} (n : Nat), V.ones l = true → V.ones (l.drop n) = true
  | [], n, _ => by simp [V.ones]
  | a :: l, 0, h => h
  | a :: l, n + 1, h => by
    simp only [V.ones, Bool.and_eq_true, List.drop_succ_cons] at h ⊢; exact ones_drop n h.2
theorem ones_append : ∀ {l r : List V}, V.ones l = true → V.ones r = true → V.ones (l ++ r) = true
  | [], _, _, h => h
  | a :: l, r, h, k => by
    simp only [V.ones, Bool.and_eq_true, List.cons_append] at h ⊢; exact ⟨h.1, ones_append h.2 k⟩
theorem celled_ones {v : V} (h : v.celled = true) : V.ones v.cells = true := by
  unfold V.celled at h; unfold V.cells
  split
  · exact h
  · rename_i hna
    split at h
    · exact absurd rfl (hna _)
    · simp [V.ones, h]

/-- elements laid flat -/
structure Els (ro : Ro) (m : Pl) (es : List (List V)) (sz : Nat) (g : Nat → Option Value) : Prop where
  len : ∀ i (h : i < es.length), es[i].length = sz
  ones : ∀ e ∈ es, V.ones e = true
  rel : ∀ i (h : i < es.length) j (h' : j < es[i].length), ∃ x, g (i * sz + j) = some x ∧ VRel ro m es[i][j] x

/-- cells stored into a row that is owned -/
theorem store_at {P : Program} {w : World} {b o : Nat} {cc : Array Value} {e : TypeId} {fr : Nat × Nat} (hw : w.heap[b]? = some (.cells cc e fr)) {vs : List Value} (hl : o + vs.length ≤ cc.size) (hf : ∀ i, i ≤ cc.size → ¬ (fr.1 ≤ i ∧ i < fr.2))
    (h1 : ∀ u ∈ vs, u.oneCell' = true) : (storeCells ⟨b, o, none⟩ vs).run P w = .ok () (w.setCells b o vs) := by
  have := run_storeCells_cells (P := P) b o vs 0 w (fun j hj => by rw [cell_of_heap hw]; rw [Array.getElem?_eq_getElem (by omega)]; rfl)
    (fun j hj => frozen_of_heap hw (hf _ (by omega))) h1
  simpa using this

theorem sound_store {P : Program} {N c t a w h} (hh : HRel c w h) (ht : TRel N c t a) {x y : Operand} {x' y' : Opd} (hx : cOpd N x = some x') (hy : cOpd N y = some y') {ty n agg} (hk : cSize P ty = some (n, agg)) {v h'}
    (hs : opStep t h (.store x' y' n) = some (v, h')) :
    ∃ w', (Instr.storeAt ty (a.eval x) (a.eval y)).run P w = .ok () w' ∧ v = .any ∧ HRel c w' h' ∧ Adv c w h c w' h' := by
  have hv := opd_rel ht hx
  have hu := opd_rel ht hy
  simp only [opStep] at hs
  generalize x'.ev t = xv at *
  generalize a.eval x = cx at *
  generalize y'.ev t = yv at *
  generalize a.eval y = cy at *
  split at hs
  case isFalse => cases hs
  case isTrue hc =>
    simp only [Bool.and_eq_true, beq_iff_eq] at hc
    obtain ⟨hr, hone⟩ := cells_rel hu hc.1
    obtain ⟨d, i, hud, hi, hsz⟩ := cSize_size hk
    have hn : cy.cells.size = n := by rw [← hr.1, hc.2]
    have run : ∀ addr, (storeVar ty addr cy).run P w = (storeCells addr cy.cells.toList).run P w := by
      intro addr
      simp [storeVar, Go.sizeOf, typeInfo, hi, hsz, hn]
    split at hs
    · rename_i id off
      obtain ⟨p, hp, hnn, rfl⟩ := hv.ptr_inv
      split at hs
      case h_2 => cases hs
      case h_1 cs hid =>
        split at hs
        case isFalse => cases hs
        case isTrue hle =>
          cases hs
          obtain ⟨p', cc, e, fr, hp', _, hw, h1, h2, h3, h4, h5⟩ := row_cells hh hid
          rw [hp] at hp'; cases hp'
          have hfit : p.base + off + cy.cells.toList.length ≤ cc.size := by simp [hn]; omega
          have hst := store_at (P := P) hw hfit (by rw [h1]; exact h5) hone
          obtain ⟨cc', g1, g2, g3⟩ := setCells_heap cy.cells.toList w p.block (p.base + off) cc e fr hw hfit
          obtain ⟨k1, k2, k3, k4⟩ := setCells_rest cy.cells.toList w p.block (p.base + off)
          obtain ⟨r1, r2⟩ := hh.change (w' := w.setCells p.block (p.base + off) cy.cells.toList) id _ (.row (putAt cs off yv.cells)) p hid trivial hp hnn k1 (fun b hb => setCells_other _ _ _ _ _ hb) k2 k3 k4 (by
            refine ⟨cc', ⟨hnn, by omega, h2, e, fr, g1, h5⟩, by rw [putAt_length (by omega)]; exact h3, fun i a' b' => ?_⟩
            have hi' : i < cs.length := by rw [putAt_length (by omega)] at a'; exact a'
            have e1 := putAt_get (cs := cs) (vs := yv.cells) (off := off) (by omega) i
            have e2 := g3 (p.base + i) (by omega)
            rw [List.getElem?_eq_getElem a'] at e1
            rw [Array.getElem?_eq_getElem b'] at e2
            by_cases hc' : off ≤ i ∧ i < off + yv.cells.length
            · rw [if_pos hc', List.getElem?_eq_getElem (by omega)] at e1
              rw [if_pos (by simp [hn]; omega), List.getElem?_eq_getElem (by simp [hn]; omega)] at e2
              have f1 : (putAt cs off yv.cells)[i] = yv.cells[i - off]'(by omega) := by simpa using e1
              have f2 : cc'[p.base + i] = cy.cells[i - off]'(by omega) := by
                have : p.base + i - (p.base + off) = i - off := by omega
                simpa [this] using e2
              rw [f1, f2]; exact hr.2 _ _ _
            · rw [if_neg hc', List.getElem?_eq_getElem hi'] at e1
              rw [if_neg (by simp [hn]; omega)] at e2
              obtain ⟨x, hx, hxv⟩ := h4 i hi'
              rw [hx] at e2
              have f1 : (putAt cs off yv.cells)[i] = cs[i] := by simpa using e1
              have f2 : cc'[p.base + i] = x := by simpa using e2
              rw [f1, f2]; exact hxv)
          refine ⟨_, ?_, rfl, r1, r2⟩
          simp only [Instr.storeAt, Instr.sureAddr, Sem.run_bind, Sem.run_pure, Result.andThen_ok, run, hst]
    · rename_i id i0 s off
      obtain ⟨p, hp, hnn, rfl⟩ := hv.eptr_inv
      split at hs
      case h_2 => cases hs
      case h_1 es s' hid =>
        split at hs
        case isFalse => cases hs
        case isTrue he =>
          obtain ⟨he, hpure⟩ := he
          subst he
          split at hs
          case h_2 => cases hs
          case h_1 cs hcs =>
            obtain ⟨hi0, rfl⟩ := List.getElem?_eq_some_iff.1 hcs
            split at hs
            case isFalse => cases hs
            case isTrue hle =>
              cases hs
              obtain ⟨cc, e, fr, hw, h1, h2, h3, hlen, hones, h4, h5⟩ := arr_cells hh hid hp hnn
              have hl0 := hlen i0 hi0
              have hms := mul_step (s := s') hi0
              have hfit : p.base + i0 * s' + off + cy.cells.toList.length ≤ cc.size := by simp [hn]; omega
              have hst := store_at (P := P) hw hfit (by rw [h1]; exact h5) hone
              obtain ⟨cc', g1, g2, g3⟩ := setCells_heap cy.cells.toList w p.block (p.base + i0 * s' + off) cc e fr hw hfit
              obtain ⟨k1, k2, k3, k4⟩ := setCells_rest cy.cells.toList w p.block (p.base + i0 * s' + off)
              have hvl : off + yv.cells.length ≤ es[i0].length := by omega
              obtain ⟨r1, r2⟩ := hh.change (w' := w.setCells p.block (p.base + i0 * s' + off) cy.cells.toList) id _ (.arr (es.set i0 (putAt es[i0] off yv.cells)) s') p hid trivial hp hnn k1 (fun b hb => setCells_other _ _ _ _ _ hb) k2 k3 k4 (by
                refine ⟨fun hnull => (by rw [hnn] at hnull; cases hnull), ?_, ?_, fun _ => ⟨cc', ⟨hnn, by omega, h2, e, fr, g1, h5⟩, by simpa using h3, ?_⟩⟩
                · intro e' he'
                  rcases List.mem_or_eq_of_mem_set he' with hm | rfl
                  · exact hones _ hm
                  · have o1 := hones es[i0] (List.getElem_mem _)
                    have o2 : V.ones yv.cells = true := celled_ones hc.1
                    unfold putAt
                    exact ones_append (ones_take _ o1) (ones_append o2 (ones_drop _ o1))
                · intro i hi
                  by_cases hii : i0 = i
                  · subst hii; simp [putAt_length hvl, hl0]
                  · rw [List.getElem_set_ne hii]; exact hlen i (by simpa using hi)
                · intro i hi j hj
                  have hi' : i < es.length := by simpa using hi
                  by_cases hii : i0 = i
                  · subst hii
                    simp only [List.getElem_set_self] at hj ⊢
                    have hj' : j < es[i0].length := by rw [putAt_length hvl] at hj; exact hj
                    have e1 := putAt_get hvl j
                    have e2 := g3 (p.base + i0 * s' + j) (by omega)
                    rw [List.getElem?_eq_getElem hj] at e1
                    by_cases hc' : off ≤ j ∧ j < off + yv.cells.length
                    · rw [if_pos hc', List.getElem?_eq_getElem (by omega)] at e1
                      rw [if_pos (by simp [hn]; omega), List.getElem?_eq_getElem (by simp [hn]; omega)] at e2
                      refine ⟨_, e2, ?_⟩
                      have f1 : (putAt es[i0] off yv.cells)[j] = yv.cells[j - off]'(by omega) := by simpa using e1
                      have hidx : p.base + i0 * s' + j - (p.base + i0 * s' + off) = j - off := by omega
                      simp only [hidx]
                      rw [f1]
                      have := pures_rel hpure (fun a b b' => hr.2 a b b') (j - off) (by omega) (by omega)
                      simpa using this
                    · rw [if_neg hc', List.getElem?_eq_getElem hj'] at e1
                      rw [if_neg (by simp [hn]; omega)] at e2
                      obtain ⟨x, hx, hxv⟩ := h4 i0 hi0 j hj'
                      refine ⟨x, by rw [e2]; exact hx, ?_⟩
                      have f1 : (putAt es[i0] off yv.cells)[j] = es[i0][j] := by simpa using e1
                      rw [f1]; exact hxv
                  · simp only [List.getElem_set_ne hii] at hj ⊢
                    obtain ⟨x, hx, hxv⟩ := h4 i hi' j hj
                    refine ⟨x, ?_, hxv⟩
                    have hlj := hlen i hi'
                    rw [g3 (p.base + i * s' + j) (by have := mul_step (s := s') hi'; omega), if_neg]
                    · exact hx
                    · simp only [Array.length_toList, hn]
                      rcases Nat.lt_or_gt_of_ne hii with hlt | hlt
                      · have := mul_step (s := s') hlt; omega
                      · have := mul_step (s := s') hlt; omega)
              refine ⟨_, ?_, rfl, r1, r2⟩
              simp only [Instr.storeAt, Instr.sureAddr, Sem.run_bind, Sem.run_pure, Result.andThen_ok, run, hst]
    · cases hs

end Sx

/-
  Sx, part H: build, slice literals, append, make.
-/
namespace Sx
open Go

theorem divmod {k n sz : Nat} (h : k < n * sz) : k / sz < n ∧ k % sz < sz ∧ k / sz * sz + k % sz = k := by
  have hs : 0 < sz := by
    rcases Nat.eq_zero_or_pos sz with h0 | h0
    · subst h0; simp at h
    · exact h0
  exact ⟨Nat.div_lt_of_lt_mul (by rwa [Nat.mul_comm] at h), Nat.mod_lt _ hs, by rw [Nat.mul_comm]; exact Nat.div_add_mod k sz⟩

theorem ones_get : ∀ {l : List V} (_ : V.ones l = true) (i : Nat) (hi : i < l.length), l[i].one = true
  | a :: l, h, 0, _ => by simp only [V.ones, Bool.and_eq_true] at h; exact h.1
  | a :: l, h, i + 1, hi => by
    simp only [V.ones, Bool.and_eq_true] at h
    exact ones_get h.2 i (by simpa using hi)

theorem Els.one {ro m es sz} {news : List Value} (h : Els ro m es sz (news[·]?)) (hl : news.length = es.length * sz) : ∀ u ∈ news, u.oneCell' = true := by
  intro u hu
  obtain ⟨k, hk, rfl⟩ := List.getElem_of_mem hu
  obtain ⟨h1, h2, h3⟩ := divmod (n := es.length) (sz := sz) (k := k) (by omega)
  have hj : k % sz < es[k / sz].length := by rw [h.len _ h1]; exact h2
  obtain ⟨x, hx, hv⟩ := h.rel _ h1 _ hj
  rw [h3, List.getElem?_eq_getElem hk] at hx
  cases hx
  exact one_oneCell hv (ones_get (h.ones _ (List.getElem_mem _)) _ hj)

/-- a range of cells as a list -/
theorem flat_range {ro m} {w : World} {b o sz : Nat} {es : List (List V)} (hlen : ∀ i (h : i < es.length), es[i].length = sz) (h1 : ∀ e ∈ es, V.ones e = true)
    (h : ∀ i (h : i < es.length) j (h' : j < es[i].length), ∃ x, w.cell? ⟨b, o + i * sz + j, none⟩ = some x ∧ VRel ro m es[i][j] x) :
    ∃ news : List Value, news.length = es.length * sz ∧ Els ro m es sz (news[·]?) ∧ ∀ j u, news[j]? = some u → w.cell? ⟨b, o + j, none⟩ = some u := by
  refine ⟨(List.range (es.length * sz)).map fun k => (w.cell? ⟨b, o + k, none⟩).getD undef, by simp, ⟨hlen, h1, fun i hi j hj => ?_⟩, fun j u hu => ?_⟩
  · obtain ⟨x, hx, hv⟩ := h i hi j hj
    have hlt : i * sz + j < es.length * sz := by have := mul_step (s := sz) hi; have := hlen i hi; omega
    refine ⟨x, ?_, hv⟩
    rw [List.getElem?_map, List.getElem?_range hlt]
    simp [← Nat.add_assoc, hx]
  · rcases Nat.lt_or_ge j (es.length * sz) with hj | hj
    · rw [List.getElem?_map, List.getElem?_range hj] at hu
      obtain ⟨q1, q2, q3⟩ := divmod hj
      obtain ⟨x, hx, _⟩ := h (j / sz) q1 (j % sz) (by rw [hlen _ q1]; exact q2)
      rw [Nat.add_assoc, q3] at hx
      simp [hx] at hu
      rw [hx, hu]
    · rw [List.getElem?_eq_none (by simpa using hj)] at hu; cases hu

/-- a list value's elements, flat -/
theorem elemsOf_flat {c w h} (hh : HRel c w h) {v : V} {cv : Value} (hv : VRel c.ro c.m v cv) {sz : Nat} {es : List (List V)} (he : elemsOf h sz v = some es) :
    ∃ (news : List Value) (a : Option Addr) (cap : Nat), news.length = es.length * sz ∧ Els c.ro Pl.none es sz (news[·]?) ∧ cv = .slice a es.length cap ∧ es.length ≤ cap ∧
      (es.length = 0 ∨ ∃ b o, a = some ⟨b, o, none⟩ ∧ ∀ j u, news[j]? = some u → w.cell? ⟨b, o + j, none⟩ = some u) := by
  have hnil : Els c.ro Pl.none [] sz (fun i => ([] : List Value)[i]?) := ⟨fun i h => by simp at h, fun e h => by simp at h, fun i h => by simp at h⟩
  cases v <;> simp only [elemsOf] at he <;> try (cases he; done)
  case nils =>
    cases he
    rw [hv.nils_inv]
    exact ⟨[], none, 0, by simp, hnil, rfl, by simp, .inl rfl⟩
  case sl id off len s k =>
    split at he
    case isFalse => cases he
    case isTrue e =>
      subst e
      split at he
      case h_2 => cases he
      case h_1 e s' hid =>
        split at he
        case isFalse => cases he
        case isTrue hc =>
          obtain ⟨rfl, hle⟩ := hc
          cases he
          have hlen : ((e.drop off).take len).length = len := by simp; omega
          rcases hv.sl_inv with ⟨p, cap, o, hp, hn, hcap, ho, ht, hk, rfl⟩ | ⟨p, a, hp, hn, rfl, rfl, rfl, rfl⟩
          · rcases Nat.eq_zero_or_pos len with h0 | h0
            · subst h0
              exact ⟨[], some ⟨p.block, o, none⟩, cap, by simp, by simpa using hnil, by simp, by simp, .inl (by simp)⟩
            · have ho' : o = p.base + off * s' := by rcases ho with h | h; exact h; omega
              obtain ⟨cc, e', fr, hw, h1, h2, h3, hl, hones, h4, h5⟩ := arr_cells hh hid hp hn
              obtain ⟨news, n1, n2, n3⟩ := flat_range (ro := c.ro) (m := Pl.none) (w := w) (b := p.block) (o := o) (sz := s') (es := (e.drop off).take len) (fun i hi => by
                simp at hi; simp [hl (off + i) (by omega)]) (fun x hx => hones x (List.mem_of_mem_drop (List.mem_of_mem_take hx))) (fun i hi j hj => by
                have hi' : i < len := by rw [hlen] at hi; exact hi
                simp only [List.getElem_take, List.getElem_drop] at hj ⊢
                obtain ⟨x, hx, hv⟩ := h4 (off + i) (by omega) j hj
                refine ⟨x, ?_, hv⟩
                rw [cell_of_heap hw, ho', ← hx]
                congr 1
                rw [Nat.add_mul]; omega)
              exact ⟨news, _, cap, n1, n2, by rw [hlen], by rw [hlen]; exact hcap, .inr ⟨_, _, rfl, n3⟩⟩
          · exact ⟨[], a, 0, by simp, by simpa using hnil, by simp, by simp, .inl (by simp)⟩
  case vs e s =>
    split at he
    case isFalse => cases he
    case isTrue hs =>
      subst hs
      cases he
      rcases hv.vs_inv with ⟨b, o, cap, cs, f, hb, hl, hsz, hones, hc, hvv, rfl⟩ | ⟨a, rfl, rfl⟩
      · obtain ⟨e', fr, hw⟩ := hh.ro _ _ hb
        obtain ⟨news, n1, n2, n3⟩ := flat_range (ro := c.ro) (m := Pl.none) (w := w) (b := b) (o := o) (sz := s) (es := es) hsz hones (fun i hi j hj =>
          ⟨f i j, by rw [cell_of_heap hw]; exact hc i j hi (by rw [← hsz i hi]; exact hj), hvv i hi j hj⟩)
        exact ⟨news, _, cap, n1, n2, rfl, hl, .inr ⟨_, _, rfl, n3⟩⟩
      · exact ⟨[], a, 0, by simp, hnil, rfl, by simp, .inl rfl⟩

theorem src_of {P : Program} {w : World} {sz : Nat} {tx e' : TypeId} (hk : P.underlying tx = some (.slice e')) {news : List Value} {a : Option Addr} {n cap : Nat} (hl : news.length = n * sz)
    (h1 : ∀ u ∈ news, u.oneCell' = true) (hc : n = 0 ∨ ∃ b o, a = some ⟨b, o, none⟩ ∧ ∀ j u, news[j]? = some u → w.cell? ⟨b, o + j, none⟩ = some u) : Src P sz tx (.slice a n cap) n news w := by
  rcases hc with rfl | ⟨b, o, rfl, hcell⟩
  · have : news = [] := by simpa using hl
    subst this
    cases a with
    | none => exact Src.ofNil w hk cap
    | some a => exact Src.ofSlice w hk a 0 cap [] (by simp) (fun j u h => by simp at h) (fun u h => by simp at h)
  · exact Src.ofSlice w hk _ n cap news hl (fun j u h => by rw [Addr.add_mid]; exact hcell j u h) h1

theorem byteEls_els (ro m) (l : List UInt8) : Els ro m (byteEls l) 1 ((byteCells ⟨l.toArray⟩)[·]?) := by
  have hlen : ∀ i (h : i < (byteEls l).length), (byteEls l)[i].length = 1 := fun i h => by simp [byteEls]
  refine ⟨hlen, fun e h => ?_, fun i h j h' => ?_⟩
  · simp only [byteEls, List.mem_map] at h; obtain ⟨b, _, rfl⟩ := h; rfl
  · have hi : i < l.length := by simpa [byteEls] using h
    have hj : j = 0 := by have := hlen i h; omega
    subst hj
    refine ⟨.int .u8 l[i].toNat, ?_, ?_⟩
    · simp [byteCells, hi]
    · simp [byteEls]; exact .int ..

/-- a fresh row of elements -/
theorem arr_of_els {c : Ctx} {es : List (List V)} {sz : Nat} {cc : Array Value} (he : Els c.ro Pl.none es sz (cc[·]?)) {b : Nat} {m' : Pl} {w' : World} {e : TypeId} (hw : w'.heap[b]? = some (.cells cc e)) (hle : es.length * sz ≤ cc.size) :
    ORel c.ro m' w' ⟨b, 0, cc.size, false, e⟩ (.arr es sz) :=
  ⟨(fun h => by cases h), he.ones, he.len, fun _ => ⟨cc, ⟨rfl, rfl, Nat.zero_le _, ⟨e, rfl⟩, (0, 0), hw, fun i _ => by simp⟩, by simpa using hle, fun i hi j hj => by
    obtain ⟨x, hx, hv⟩ := he.rel i hi j hj; exact ⟨x, by simpa using hx, hv⟩⟩⟩

theorem els_append {ro m es es' sz} {old news : List Value} (h : Els ro m es sz (old[·]?)) (hl : old.length = es.length * sz) (k : Els ro m es' sz (news[·]?)) (_hl' : news.length = es'.length * sz) :
    Els ro m (es ++ es') sz ((old ++ news)[·]?) := by
  refine ⟨fun i hi => ?_, fun e he => ?_, fun i hi j hj => ?_⟩
  · rw [List.getElem_append]; split
    · exact h.len _ _
    · exact k.len _ _
  · rcases List.mem_append.1 he with he | he
    · exact h.ones e he
    · exact k.ones e he
  · rcases Nat.lt_or_ge i es.length with h1 | h1
    · have e1 : (es ++ es')[i] = es[i] := List.getElem_append_left h1
      simp only [e1] at hj ⊢
      obtain ⟨x, hx, hv⟩ := h.rel i h1 j hj
      refine ⟨x, ?_, hv⟩
      have := mul_step (s := sz) h1
      have := h.len i h1
      rw [List.getElem?_append_left (by omega)]; exact hx
    · have e1 : (es ++ es')[i] = es'[i - es.length]'(by simp at hi; omega) := List.getElem_append_right h1
      simp only [e1] at hj ⊢
      obtain ⟨x, hx, hv⟩ := k.rel (i - es.length) (by simp at hi; omega) j hj
      refine ⟨x, ?_, hv⟩
      have e2 : i * sz = es.length * sz + (i - es.length) * sz := by rw [← Nat.add_mul]; congr 1; omega
      rw [List.getElem?_append_right (by omega), ← hx]
      congr 1; omega

theorem els_front {ro m es sz} {l : List Value} (h : Els ro m es sz (l[·]?)) (more : List Value) : Els ro m es sz ((l ++ more)[·]?) := by
  refine ⟨h.len, h.ones, fun i hi j hj => ?_⟩
  obtain ⟨x, hx, hv⟩ := h.rel i hi j hj
  exact ⟨x, by rw [List.getElem?_append_left (List.getElem?_eq_some_iff.1 hx).1]; exact hx, hv⟩

theorem els_arr {ro m es sz} {l : List Value} (h : Els ro m es sz (l[·]?)) : Els ro m es sz (l.toArray[·]?) :=
  ⟨h.len, h.ones, fun i hi j hj => by obtain ⟨x, hx, hv⟩ := h.rel i hi j hj; exact ⟨x, by simpa using hx, hv⟩⟩

end Sx

/-
  Sx, part I: build, slice literals, append, make: held against the model's.
-/
namespace Sx
open Go

theorem ofVal0_one {v : Value} {v' : V} (h : V.ofVal0 v = some v') : v'.one = true := by
  unfold V.ofVal0 at h; split at h <;> cases h <;> rfl

theorem ones_of : ∀ {l : List V}, (∀ v ∈ l, v.one = true) → V.ones l = true
  | [], _ => rfl
  | a :: l, h => by simp only [V.ones, Bool.and_eq_true]; exact ⟨h a (by simp), ones_of fun v hv => h v (by simp [hv])⟩

theorem cZero_ones {P t l} (h : cZero P t = some l) : V.ones l = true := by
  unfold cZero at h
  split at h
  case h_2 => cases h
  case h_1 i hi =>
    split at h
    case h_2 => cases h
    case h_1 z hz =>
      simp only at h
      split at h
      case isFalse => cases h
      case isTrue hl =>
        obtain ⟨h1, h2⟩ := mapM_some _ _ _ h
        refine ones_of fun v hv => ?_
        obtain ⟨k, hk, rfl⟩ := List.getElem_of_mem hv
        exact ofVal0_one (h2 k (by omega) hk)

theorem pures_get : ∀ {l : List V}, V.pures l = true → ∀ (j : Nat) (hj : j < l.length), l[j].pure = true
  | a :: l, h, 0, _ => by simp only [V.pures, Bool.and_eq_true] at h; exact h.1
  | a :: l, h, j + 1, hj => by simp only [V.pures, Bool.and_eq_true] at h; exact pures_get h.2 j (by simpa using hj)

theorem Els.pure {ro m es sz g} (h : Els ro m es sz g) (hp : es.all V.pures = true) : Els ro Pl.none es sz g :=
  ⟨h.len, h.ones, fun i hi j hj => by
    obtain ⟨x, hx, hv⟩ := h.rel i hi j hj
    exact ⟨x, hx, pure_rel (pures_get (List.all_eq_true.1 hp _ (List.getElem_mem hi)) j hj) hv⟩⟩

theorem cPart_spec {P : Program} {N fs zl x r} (h : cPart P N fs zl x = some r) : ∃ f i, fs[x.1]? = some f ∧ P.info? f.type = some i ∧ r.1 = f.offset ∧ r.2.1 = i.size ∧ cOpd N x.2 = some r.2.2 ∧ r.1 + r.2.1 ≤ zl := by
  unfold cPart at h
  split at h
  case h_2 => cases h
  case h_1 f hf =>
    split at h
    case h_2 => cases h
    case h_1 n b y hs hy =>
      split at h <;> cases h
      obtain ⟨d, i, _, hi, hsz⟩ := cSize_size hs
      exact ⟨f, i, hf, hi, rfl, hsz.symm, hy, by assumption⟩

theorem cPartA_spec {N n zl x r} (h : cPartA N n zl x = some r) : r.1 = x.1 * n ∧ r.2.1 = n ∧ cOpd N x.2 = some r.2.2 ∧ r.1 + r.2.1 ≤ zl := by
  unfold cPartA at h
  split at h
  case h_2 => cases h
  case h_1 y hy => split at h <;> cases h; exact ⟨rfl, rfl, hy, by assumption⟩

theorem cPartE_spec {N len x r} (h : cPartE N len x = some r) : r.1 = x.1 ∧ cOpd N x.2 = some r.2 ∧ r.1 < len := by
  unfold cPartE at h
  split at h
  case h_2 => cases h
  case h_1 y hy => split at h <;> cases h; exact ⟨rfl, hy, by assumption⟩

theorem cElem_spec {P t n z b} (h : cElem P t = some (n, z, b)) : ∃ e i, P.underlying t = some (.slice e) ∧ P.info? e = some i ∧ i.size = n ∧ i.bytes = b ∧ 0 < n ∧ z.length = n ∧ cZero P e = some z := by
  unfold cElem at h
  split at h
  case h_2 => cases h
  case h_1 e hu =>
    split at h
    case h_2 => cases h
    case h_1 n' bb z' i hs hz hi =>
      split at h <;> cases h
      rename_i hc
      exact ⟨e, i, hu, hi, hc.2.2, rfl, hc.1, hc.2.1, hz⟩

theorem places_all {P : Program} : ∀ (l : List Field), (l.all fun f => (P.info? f.type).isSome) = true → l.mapM (fun f => (P.info? f.type).map fun i => (f.offset, i.size)) = some (l.map (fun f => (f.offset, ((P.info? f.type).map (·.size)).getD 0)))
  | [], _ => rfl
  | f :: l, hl => by
    simp only [List.all_cons, Bool.and_eq_true] at hl
    obtain ⟨fi, hfi⟩ := Option.isSome_iff_exists.1 hl.1
    simp [List.mapM_cons, hfi, places_all l hl.2]

theorem sound_build {P : Program} {N c t a w h} (hh : HRel c w h) (ht : TRel N c t a) {ty : TypeId} {parts : Array (Nat × Operand)} {zero ps} (hc : cOp P N (.build ty parts) = some (.build zero ps)) {v h'}
    (hs : opStep t h (.build zero ps) = some (v, h')) : Ok P c w h (Instr.build ty (parts.map fun (i, x) => (i, a.eval x))) v h' := by
  simp only [opStep] at hs
  split at hs <;> cases hs
  rename_i cs hf
  have fin : ∀ (place : Nat → Option (Nat × Nat)) (zz : Value), VRels c.ro c.m zero zz.cells → parts.toList.length = ps.length → (∀ k (h : k < parts.toList.length) (h' : k < ps.length), place parts.toList[k].1 = some (ps[k].1, ps[k].2.1) ∧ cOpd N parts.toList[k].2 = some ps[k].2.2 ∧ ps[k].1 + ps[k].2.1 ≤ zero.length) →
      (∀ cr, Instr.fill place zz.cells (parts.map fun (i, x) => (i, a.eval x)).toList = some cr → P.built ty (parts.map fun (i, x) => (i, a.eval x)).toList = some cr) → Ok P c w h (Instr.build ty (parts.map fun (i, x) => (i, a.eval x))) (.agg cs) h := by
    intro place zz h3 g1 g2 g3
    obtain ⟨cr, k1, k2⟩ := fill_sound ht place parts.toList ps zero zz.cells cs g1 g2 h3 hf
    have k1' : Instr.fill place zz.cells (parts.map fun (i, x) => (i, a.eval x)).toList = some cr := by rw [Array.toList_map]; exact k1
    exact Ok.of_same hh (run_build w ty _ cr (g3 cr k1')) (.agg _ _ _ k2.1 k2.2)
  simp only [cOp] at hc
  split at hc
  · rename_i z fs hz hu
    obtain ⟨i, zz, hi, hzz, h1, h2, h3⟩ := cZero_spec hz
    split at hc
    case h_2 => cases hc
    case h_1 l hp =>
      split at hc
      case isFalse => cases hc
      case isTrue hall =>
        cases hc
        obtain ⟨q1, q2⟩ := mapM_some _ _ _ hp
        refine fin ((fs.toList.map (fun f => (f.offset, ((P.info? f.type).map (·.size)).getD 0))).toArray[·]?) zz (h3 _ _) q1 (fun k hk hk' => ?_) (fun cr hcr => ?_)
        · obtain ⟨f, fi, k1, k2, k3, k4, k5, k6⟩ := cPart_spec (q2 k hk hk')
          refine ⟨?_, k5, k6⟩
          simp only [List.getElem?_toArray, List.getElem?_map, Array.getElem?_toList, k1, Option.map_some, k2, Option.getD_some, k3, k4]
        · unfold Program.built
          simp only [hi, hu, hzz, places_all _ hall]; exact hcr
  · rename_i z n e hz hu
    obtain ⟨i, zz, hi, hzz, h1, h2, h3⟩ := cZero_spec hz
    split at hc
    case h_2 => cases hc
    case h_1 sz b hse =>
      split at hc
      case h_2 => cases hc
      case h_1 l hp =>
        cases hc
        obtain ⟨d, ie, _, hie, hies⟩ := cSize_size hse
        obtain ⟨q1, q2⟩ := mapM_some _ _ _ hp
        refine fin (fun i => some (i * sz, sz)) zz (h3 _ _) q1 (fun k hk hk' => ?_) (fun cr hcr => ?_)
        · obtain ⟨k1, k2, k3, k4⟩ := cPartA_spec (q2 k hk hk')
          exact ⟨by rw [k1, k2], k3, k4⟩
        · unfold Program.built
          simp only [hi, hu, hzz, hie, hies]; exact hcr
  · cases hc

theorem fillEl_sound {N c t a} (ht : TRel N c t a) (sz : Nat) : ∀ (parts : List (Nat × Operand)) (ps : List (Nat × Opd)) (es : List (List V)) (cc : Array Value) (r : List (List V)),
    parts.length = ps.length → (∀ i (h : i < parts.length) (h' : i < ps.length), parts[i].1 = ps[i].1 ∧ cOpd N parts[i].2 = some ps[i].2 ∧ ps[i].1 < es.length) →
    Els c.ro c.m es sz (cc[·]?) → cc.size = es.length * sz → fillEl t sz es ps = some r →
    ∃ cr, Instr.fill (fun i => some (i * sz, sz)) cc (parts.map fun p => (p.1, a.eval p.2)) = some cr ∧ Els c.ro c.m r sz (cr[·]?) ∧ cr.size = cc.size ∧ r.length = es.length
  | [], ps, es, cc, r, hl, _, hr, _, hf => by
    cases ps with
    | nil => simp [fillEl] at hf; subst hf; exact ⟨cc, rfl, hr, rfl, rfl⟩
    | cons => simp at hl
  | (i, x) :: parts, [], _, _, _, hl, _, _, _, _ => by simp at hl
  | (i, x) :: parts, (i', y) :: ps, es, cc, r, hl, hp, hr, hcs, hf => by
    obtain ⟨h1, h2, h3⟩ := hp 0 (by simp) (by simp)
    simp only [List.getElem_cons_zero] at h1 h2 h3
    subst h1
    simp only [fillEl] at hf
    split at hf
    case isFalse => cases hf
    case isTrue hc =>
      simp only [Bool.and_eq_true, beq_iff_eq] at hc
      have hv := opd_rel ht h2
      obtain ⟨hcr, _⟩ := cells_rel hv hc.1
      have hsz : (a.eval x).cells.size = sz := by rw [← hcr.1, hc.2]
      have hms := mul_step (s := sz) h3
      obtain ⟨f1, f2⟩ := fold_set0 (i * sz) (a.eval x).cells cc (by omega)
      have hnew : Els c.ro c.m (es.set i (y.ev t).cells) sz ((((a.eval x).cells.zipIdx.foldl (fun cs (z : Value × Nat) => cs.setIfInBounds (i * sz + z.2) z.1) cc))[·]?) := by
        refine ⟨fun k hk => ?_, fun e he => ?_, fun k hk j hj => ?_⟩
        · rw [List.getElem_set]; split
          · exact hc.2
          · exact hr.len k (by simpa using hk)
        · rcases List.mem_or_eq_of_mem_set he with he | rfl
          · exact hr.ones e he
          · exact celled_ones hc.1
        · have hk' : k < es.length := by simpa using hk
          have hmk := mul_step (s := sz) hk'
          by_cases e : i = k
          · subst e
            simp only [List.getElem_set_self] at hj ⊢
            refine ⟨(a.eval x).cells[j]'(by omega), ?_, hcr.2 j hj (by omega)⟩
            rw [f2 (i * sz + j) (by omega), if_pos (by omega)]
            rw [show i * sz + j - i * sz = j from by omega, Array.getElem?_eq_getElem (by omega)]
          · simp only [List.getElem_set_ne e] at hj ⊢
            obtain ⟨u, hu, huv⟩ := hr.rel k hk' j hj
            refine ⟨u, ?_, huv⟩
            have hlk := hr.len k hk'
            rw [f2 (k * sz + j) (by omega), if_neg]
            · exact hu
            · rcases Nat.lt_or_gt_of_ne e with h | h
              · have := mul_step (s := sz) h; omega
              · have := mul_step (s := sz) h; omega
      obtain ⟨cr, g1, g2, g3, g4⟩ := fillEl_sound ht sz parts ps _ _ r (by simpa using hl) (fun j a b => by
        have := hp (j + 1) (by simpa using a) (by simpa using b)
        simp only [List.getElem_cons_succ] at this
        simpa using this) hnew (by rw [f1, hcs]; simp) hf
      refine ⟨cr, ?_, g2, by rw [g3, f1], by rw [g4]; simp⟩
      simp only [List.map_cons, Instr.fill]
      rw [if_neg (by rw [hsz]; simp; omega)]
      exact g1

theorem els_zeros {ro m} {z : Array Value} {zero : List V} (hz : VRels ro m zero z) (h1 : V.ones zero = true) (n : Nat) :
    Els ro m (List.replicate n zero) z.size (((Array.range (n * z.size)).map (z[· % z.size]!))[·]?) := by
  refine ⟨fun i h => by simp [hz.1], fun e he => by rw [List.eq_of_mem_replicate he]; exact h1, fun i hi j hj => ?_⟩
  simp only [List.getElem_replicate] at hj ⊢
  have hi' : i < n := by simpa using hi
  have hj' : j < z.size := by rw [← hz.1]; exact hj
  refine ⟨z[j], ?_, hz.2 j hj hj'⟩
  have hlt : i * z.size + j < n * z.size := by have := mul_step (s := z.size) hi'; omega
  simp only [Array.getElem?_map]
  rw [Array.getElem?_range, if_pos hlt]
  simp only [Option.map_some]
  rw [show (i * z.size + j) % z.size = j from by rw [Nat.add_comm, Nat.add_mul_mod_self_right]; exact Nat.mod_eq_of_lt hj']
  rw [getElem!_pos z j hj']

theorem headD_get {l : List V} {d : V} (h : 0 < l.length) : l.headD d = l[0] := by
  cases l with
  | nil => simp at h
  | cons => rfl
theorem sound_bslice {P : Program} {N c t a w h} (hh : HRel c w h) (ht : TRel N c t a) {ty len} {parts : Array (Nat × Operand)} {sz zero ps} (hc : cOp P N (.buildSlice ty len parts) = some (.bslice len sz zero ps)) {v h'}
    (hs : opStep t h (.bslice len sz zero ps) = some (v, h')) : Ok P c w h (Instr.buildSlice ty len (parts.map fun (i, x) => (i, a.eval x))) v h' := by
  simp only [opStep] at hs
  split at hs
  case h_2 => cases hs
  case h_1 es hf =>
    have hobj : ∃ o, v = .sl h.length 0 len sz (some len) ∧ h' = h ++ [o] ∧ ∀ (cr : Array Value) (e : TypeId), Els c.ro c.m es sz (cr[·]?) → cr.size = es.length * sz → ∀ m' : Pl, (∀ i q, c.m i = some q → m' i = some q) → ∀ w' : World, w'.heap[w.heap.size]? = some (.cells cr e) → ORel c.ro m' w' ⟨w.heap.size, 0, cr.size, false, e⟩ o := by
      split at hs
      case isTrue hpure =>
        cases hs
        exact ⟨_, rfl, rfl, fun cr e g2 hz m' _ w' hw => arr_of_els (g2.pure hpure) hw (by rw [hz]; exact Nat.le_refl _)⟩
      case isFalse =>
        split at hs
        case isFalse => cases hs
        case isTrue h1 =>
          subst h1
          cases hs
          refine ⟨_, rfl, rfl, fun cr e g2 hz m' hm w' hw => row_of_cells (c := c) ⟨by simp [hz], fun i hi hi' => ?_⟩ e _ m' hm w' hw⟩
          have hi2 : i < es.length := by simpa using hi
          have hl1 := g2.len i hi2
          obtain ⟨x, hx, hv⟩ := g2.rel i hi2 0 (by omega)
          simp only [Nat.mul_one, Nat.add_zero] at hx
          rw [Array.getElem?_eq_getElem hi'] at hx
          cases hx
          rw [List.getElem_map]
          rw [headD_get (by omega)]; exact hv
    obtain ⟨o, rfl, rfl, hobj⟩ := hobj
    clear hs
    · simp only [cOp] at hc
      split at hc
      case h_2 => cases hc
      case h_1 sz' z bytes hel =>
        split at hc
        case isFalse => cases hc
        case isTrue hc1 =>
          split at hc
          case h_2 => cases hc
          case h_1 l hp =>
            cases hc
            obtain ⟨q1, q2⟩ := mapM_some _ _ _ hp
            obtain ⟨e, i, hu, hi, his, hib, hpos, hzl, hz⟩ := cElem_spec hel
            obtain ⟨i', zz, hi', hzz, h1, h2, h3⟩ := cZero_spec hz
            rw [hi] at hi'; cases hi'
            have hzs : zz.cells.size = sz := by omega
            have e0 := els_zeros (h3 c.ro c.m) (cZero_ones hz) len
            rw [hzs] at e0
            obtain ⟨cr, g1, g2, g3, g4⟩ := fillEl_sound ht sz parts.toList ps _ _ es q1 (fun k hk hk' => by
              obtain ⟨k1, k2, k3⟩ := cPartE_spec (q2 k hk hk')
              exact ⟨k1.symm, k2, by simpa using k3⟩) e0 (by simp) hf
            have g1' : Instr.fill (fun i => some (i * sz, sz)) ((Array.range (len * sz)).map (zz.cells[· % zz.cells.size]!)) (parts.map fun (i, x) => (i, a.eval x)).toList = some cr := by
              rw [Array.toList_map, hzs]; exact g1
            have hcrs : cr.size = len * sz := by rw [g3]; simp
            have hel' : es.length = len := by rw [g4]; simp
            obtain ⟨w', c', k1, k2, k3, k4⟩ := newRow_ok (P := P) hh e cr o (fun m' hm w' hw => hobj cr e g2 (by rw [hel', hcrs]) m' hm w' hw)
            have hrun : (Instr.buildSlice ty len (parts.map fun (i, x) => (i, a.eval x))).run P w = .ok (.slice (some ⟨w.heap.size, 0, none⟩) len len) w' := by
              rcases Nat.eq_zero_or_pos (len * sz) with h0 | h0
              · have hl0 : len = 0 := by
                  rcases Nat.mul_eq_zero.1 h0 with h | h
                  · exact h
                  · omega
                subst hl0
                have hpn : parts = #[] := by
                  rcases Nat.eq_zero_or_pos parts.size with h | h
                  · exact Array.eq_empty_of_size_eq_zero h
                  · have := (cPartE_spec (q2 0 (by simpa using h) (by rw [← q1]; simpa using h))).2.2
                    omega
                subst hpn
                have hcr : cr = #[] := Array.eq_empty_of_size_eq_zero (by omega)
                subst hcr
                have k1' : ∀ f : Nat → Value, (newRow e (Array.map f (Array.range 0))).run P w = .ok ⟨w.heap.size, 0, none⟩ w' := fun f => by rw [show Array.map f (Array.range 0) = #[] from by simp]; exact k1
                simp [Instr.buildSlice, run_underlying hu, Go.sizeOf, typeInfo, hi, Instr.fill, k1']
              · have hk1 : (newRow e cr).run P w = .ok ⟨w.heap.size, 0, none⟩ (w.alloc (.cells cr e)) := rfl
                rw [hk1] at k1
                have hw' : w.alloc (.cells cr e) = w' := by cases k1; rfl
                rw [← hw']
                rw [← his] at g1' h0 hc1
                exact run_buildSlice w ty e len _ cr i zz hu hi hzz (by omega) (by omega) g1'
            refine ⟨_, w', c', hrun, ?_, k3, k4⟩
            exact .sl _ _ _ _ _ _ 0 _ _ k2 rfl (Nat.le_refl _) (.inl (by simp)) (fun _ => by simp; omega) (fun x hx => by cases hx; rfl)

theorem sound_mks {P : Program} {N c t a w h} (hh : HRel c w h) (ht : TRel N c t a) {ty : TypeId} {x y : Operand} {x' y' zero bytes} (hc : cOp P N (.makeSlice ty x y) = some (.mks x' y' zero bytes)) {v h'}
    (hs : opStep t h (.mks x' y' zero bytes) = some (v, h')) : Ok P c w h (Instr.makeSlice ty (a.eval x) (a.eval y)) v h' := by
  simp only [cOp] at hc
  split at hc
  case h_2 => cases hc
  case h_1 x'' y'' n0 z b hx hy hel =>
    cases hc
    obtain ⟨e, i, hu, hi, his, hib, hpos, hzl, hz⟩ := cElem_spec hel
    obtain ⟨i', zz, hi', hzz, h1, h2, h3⟩ := cZero_spec hz
    rw [hi] at hi'; cases hi'
    have r1 := opd_rel ht hx
    have r2 := opd_rel ht hy
    simp only [opStep] at hs
    generalize x'.ev t = xv at *
    generalize y'.ev t = yv at *
    generalize a.eval x = xc at *
    generalize a.eval y = yc at *
    split at hs
    case h_2 => cases hs
    case h_1 k n k' m =>
      split at hs
      case isFalse => cases hs
      case isTrue hcond =>
        obtain ⟨hn0, rfl, hb, hmx⟩ := hcond
        cases hs
        rw [r1.int_inv, r2.int_inv]
        have hzs : zz.cells.size = zero.length := by omega
        have e0 := els_zeros (h3 c.ro Pl.none) (cZero_ones hz) n.toNat
        rw [hzs] at e0
        obtain ⟨w', c', k1, k2, k3, k4⟩ := newRow_ok (P := P) hh e ((Array.range (n.toNat * zero.length)).map (zz.cells[· % zz.cells.size]!)) (.arr (List.replicate n.toNat zero) zero.length)
          (fun m' _ w' hw => arr_of_els (by rw [hzs]; exact e0) hw (by simp))
        refine ⟨.slice (some ⟨w.heap.size, 0, none⟩) n.toNat n.toNat, w', c', ?_, ?_, k3, k4⟩
        · have hk1 : ∀ cc, (newRow e cc).run P w = .ok ⟨w.heap.size, 0, none⟩ (w.alloc (.cells cc e)) := fun _ => rfl
          rw [hk1] at k1
          have hw' : w.alloc (.cells ((Array.range (n.toNat * zero.length)).map (zz.cells[· % zz.cells.size]!)) e) = w' := by cases k1; rfl
          rw [← hw']
          have hr := run_make (P := P) w ty e i zz hu hi hzz k k' n n hn0 (Int.le_refl _) (by rw [hib, Int.mul_comm]; omega) (by omega)
          rw [hr]
          unfold madeCells
          rw [show i.size = zero.length by omega]
        · exact .sl _ _ _ _ _ _ 0 _ _ k2 rfl (Nat.le_refl _) (.inl (by simp)) (fun _ => by simp) (fun x hx => by cases hx; rfl)

end Sx

/-
  Sx, part J: append.
-/
namespace Sx
open Go

theorem src_sound {P : Program} {c w h} (hh : HRel c w h) {v : V} {cv : Value} (hv : VRel c.ro c.m v cv) {sz : Nat} {str : Bool} {es : List (List V)} (he : srcOf h sz str v = some es) {u : TypeId}
    (hu : (str = true ∧ P.underlying u = some .string ∧ sz = 1) ∨ (str = false ∧ ∃ e', P.underlying u = some (.slice e'))) :
    ∃ news : List Value, news.length = es.length * sz ∧ Els c.ro Pl.none es sz (news[·]?) ∧ Src P sz u cv es.length news w := by
  rcases hu with ⟨rfl, hu, rfl⟩ | ⟨rfl, e', hu⟩
  · cases v <;> simp only [srcOf] at he <;> cases he
    rename_i l
    rw [hv.str_inv]
    have hl : (byteCells ⟨l.toArray⟩).length = (byteEls l).length * 1 := by simp [byteCells, byteEls]
    refine ⟨byteCells ⟨l.toArray⟩, hl, byteEls_els _ _ l, ?_⟩
    have := Src.ofString (P := P) w hu ⟨l.toArray⟩
    have e : (⟨l.toArray⟩ : ByteArray).size = (byteEls l).length := by simp [byteEls, ByteArray.size]
    rwa [e] at this
  · simp only [srcOf] at he
    obtain ⟨news, a, cap, h1, h2, rfl, h3, h4⟩ := elemsOf_flat hh hv he
    exact ⟨news, h1, h2, src_of hu h1 (h2.one h1) h4⟩

theorem zeroCells_length (z : Array Value) (n : Nat) : (Builtin.zeroCells z n).size = n * z.size := by simp [Builtin.zeroCells]

/-- a new row, of old elements and new ones -/
theorem grown_ok {c : Ctx} {w : World} {h h' : List O} (hh : HRel c w h) (hlen : h'.length = h.length) (hh' : ∀ (i : Nat) (x : O), h'[i]? = some x → x.live → h[i]? = some x)
    {es : List (List V)} {sz : Nat} {l : List Value} (he : Els c.ro Pl.none es sz (l[·]?)) (hl : l.length = es.length * sz) (e : TypeId) (more : Array Value) :
    ∃ c', c'.m h.length = some ⟨w.heap.size, 0, l.length + more.size, false, e⟩ ∧ HRel c' (w.drew.alloc (.cells (l.toArray ++ more) e)) (h' ++ [.arr es sz]) ∧ Adv c w h c' (w.drew.alloc (.cells (l.toArray ++ more) e)) (h' ++ [.arr es sz]) := by
  have hsize : (w.drew.alloc (.cells (l.toArray ++ more) e)).heap = w.heap.push (.cells (l.toArray ++ more) e) := rfl
  have key1 : ∀ i q, Live h' i → c.m i = some q → q.null = false → q.block ≠ w.heap.size := by
    rintro i q ⟨x, hx, hxl⟩ hq hn he
    have := hh.owns_lt ⟨i, q, ⟨x, hh' i x hx hxl, hxl⟩, hq, hn, he⟩
    omega
  have key2 : c.ro w.heap.size = none := by
    cases hc : c.ro w.heap.size with
    | none => rfl
    | some cs =>
      obtain ⟨e, fr, hw⟩ := hh.ro _ _ hc
      have := (Array.getElem?_eq_some_iff.1 hw).1
      omega
  obtain ⟨h1, h2⟩ := hh.move (w' := w.drew.alloc (.cells (l.toArray ++ more) e)) (h' := h') (.arr es sz) ⟨w.heap.size, 0, l.length + more.size, false, e⟩ hlen hh' (fun _ => ⟨key1, key2, .inr (Nat.le_refl _)⟩) (by rw [hsize]; simp)
    (fun b hb _ => by rw [hsize, Array.getElem?_push, if_neg (by omega)]) rfl rfl rfl (fun m' hm => by
      have := arr_of_els (c := c) (es := es) (sz := sz) (cc := l.toArray ++ more) (b := w.heap.size) (m' := m') (w' := w.drew.alloc (.cells (l.toArray ++ more) e)) (e := e) (by
        have := els_arr (els_front he more.toList)
        have e1 : (l ++ more.toList).toArray = l.toArray ++ more := by simp
        rwa [e1] at this) (by rw [hsize]; simp) (by simp; omega)
      have e2 : (l.toArray ++ more).size = l.length + more.size := by simp
      rwa [e2] at this)
  exact ⟨_, by simp, h1, h2⟩

/-- an empty list, at no place -/
theorem nothing_ok {c : Ctx} {w : World} {h h' : List O} (hh : HRel c w h) (hlen : h'.length = h.length) (hh' : ∀ (i : Nat) (x : O), h'[i]? = some x → x.live → h[i]? = some x) (sz : Nat) :
    ∃ c' p, c'.m h.length = some p ∧ p.null = true ∧ HRel c' w (h' ++ [.arr [] sz]) ∧ Adv c w h c' w (h' ++ [.arr [] sz]) := by
  obtain ⟨h1, h2⟩ := hh.move (w' := w) (h' := h') (.arr [] sz) ⟨0, 0, 0, true, 0⟩ hlen hh' (fun h => by cases h) (Nat.le_refl _) (fun _ _ _ => rfl) rfl rfl rfl
    (fun m' hm => ⟨fun _ => rfl, fun e h => by simp at h, fun i h => by simp at h, fun h => by cases h⟩)
  exact ⟨_, ⟨0, 0, 0, true, 0⟩, by simp, rfl, h1, h2⟩

theorem set_gone {h : List O} {id : Nat} : ∀ (i : Nat) (x : O), (h.set id O.gone)[i]? = some x → x.live → h[i]? = some x := by
  intro i x hx hl
  by_cases e : id = i
  · subst e
    rcases Nat.lt_or_ge id h.length with h1 | h1
    · rw [List.getElem?_set_self h1] at hx; cases hx; exact hl.elim
    · rw [List.getElem?_eq_none (by simpa using h1)] at hx; cases hx
  · rwa [List.getElem?_set_ne e] at hx

def OkX (P : Program) (c : Ctx) (w : World) (h : List O) (s : Sem Value) (v : V) (h' : List O) (X : Ctx → Prop) : Prop :=
  ∃ cv w' c', s.run P w = .ok cv w' ∧ VRel c'.ro c'.m v cv ∧ HRel c' w' h' ∧ Adv c w h c' w' h' ∧ X c'
theorem OkX.ok {P c w h s v h' X} (hk : OkX P c w h s v h' X) : Ok P c w h s v h' := by obtain ⟨a, b, d, h1, h2, h3, h4, _⟩ := hk; exact ⟨a, b, d, h1, h2, h3, h4⟩

/-- where a list lies that was appended to -/
def AppX (P : Program) (c : Ctx) (h : List O) (t : TypeId) (xv : V) (c' : Ctx) : Prop :=
  ∃ q e, c'.m h.length = some q ∧ P.underlying t = some (.slice e) ∧ (q.null = false → (q.ty = e ∧ q.base = 0) ∨ ∃ id off len s k p, xv = .sl id off len s k ∧ c.m id = some p ∧ p.null = false ∧ q.ty = p.ty ∧ q.base = p.base + off * s)

theorem sound_appendX {P : Program} {c w h} (hh : HRel c w h) {t u ty : TypeId} {sz bytes : Nat} {z : List V} {str : Bool} (hel : cElem P t = some (sz, z, bytes)) (hbp : 0 < bytes)
    (hu : (str = true ∧ P.underlying u = some .string ∧ sz = 1) ∨ (str = false ∧ ∃ e', P.underlying u = some (.slice e')))
    {xv yv : V} {xc yc : Value} (hx : VRel c.ro c.m xv xc) (hy : VRel c.ro c.m yv yc) {v h'} (hs : appendV h xv yv sz bytes str = some (v, h')) :
    OkX P c w h (Builtin.append_ #[t, u] ty #[xc, yc]) v h' (AppX P c h t xv) := by
  obtain ⟨e, i, hut, hi, his, hib, hpos, hzl, hz⟩ := cElem_spec hel
  obtain ⟨i', zz, hi', hzz, z1, z2, z3⟩ := cZero_spec hz
  rw [hi] at hi'; cases hi'
  have hzs : zz.cells.size = sz := by omega
  simp only [appendV] at hs
  split at hs
  case h_1 => cases hs
  case h_2 es he =>
    obtain ⟨news, n1, n2, n3⟩ := src_sound (P := P) hh hy he hu
    rw [← his] at n3
    have small : ∀ n, n * bytes ≤ 70368744177664 → n ≤ 70368744177664 := fun n hn => Nat.le_trans (Nat.le_mul_of_pos_right n hbp) hn
    -- a new row is made
    have grows : ∀ (a : Option Addr) (len cap : Nat) (olds : List Value) (oes : List (List V)) (h1 : List O), h1.length = h.length → (∀ (i : Nat) (x : O), h1[i]? = some x → x.live → h[i]? = some x) →
        olds.length = oes.length * sz → oes.length = len → Els c.ro Pl.none oes sz (olds[·]?) → (Builtin.firstCells i.size len (.slice a len cap)).run P w.drew = .ok olds.toArray w.drew →
        cap < len + es.length → (len + es.length) * bytes ≤ 70368744177664 → ∀ (hn : len + es.length = (oes ++ es).length),
        OkX P c w h (Builtin.append_ #[t, u] ty #[.slice a len cap, yc]) (.sl h.length 0 (len + es.length) sz none) (h1 ++ [.arr (oes ++ es) sz]) (AppX P c h t xv) := by
      intro a len cap olds oes h1 hl1 hh1 ho1 ho2 ho3 hold hcap hb hn
      have hcap' := grownCap_ge w (len + es.length) cap e
      have he' := els_append ho3 ho1 n2 n1
      obtain ⟨c', k1, k2, k3⟩ := grown_ok hh hl1 hh1 he' (by simp [ho1, n1, Nat.add_mul]) e (Builtin.zeroCells zz.cells (grownCap w (len + es.length) cap e - (len + es.length)))
      have hrun := run_append_grow_src (P := P) w t u ty e i zz hut hi hzz a len cap olds hold yc es.length news n3 hcap
        (by have := small _ hb; omega) (growslice_fits hcap (by rw [hib]; omega))
      refine ⟨_, _, c', hrun, ?_, k2, k3, _, e, k1, hut, fun _ => .inl ⟨rfl, rfl⟩⟩
      refine .sl _ _ _ _ _ _ 0 _ _ k1 rfl hcap' (.inl (by simp)) (fun _ => ?_) (fun x hx => by cases hx)
      simp only [zeroCells_length, List.length_append, ho1, n1, hzs, Nat.zero_add, Nat.zero_mul, ho2]
      rw [← Nat.add_mul, ← Nat.add_mul]
      exact Nat.mul_le_mul_right _ (by omega)
    have keep : ∀ (i : Nat) (x : O), h[i]? = some x → x.live → h[i]? = some x := fun _ _ h _ => h
    -- a list without room and without elements
    have empty : ∀ (a : Option Addr) (h1 : List O), h1.length = h.length → (∀ (i : Nat) (x : O), h1[i]? = some x → x.live → h[i]? = some x) → es.length * bytes ≤ 70368744177664 →
        OkX P c w h (Builtin.append_ #[t, u] ty #[.slice a 0 0, yc]) (.sl h.length 0 es.length sz none) (h1 ++ [.arr es sz]) (AppX P c h t xv) := by
      intro a h1 hl1 hh1 hb
      rcases Nat.eq_zero_or_pos es.length with h0 | h0
      · have hes : es = [] := List.eq_nil_of_length_eq_zero h0
        subst hes
        have hnn : news = [] := by simpa using n1
        subst hnn
        obtain ⟨c', p, k1, k2, k3, k4⟩ := nothing_ok hh hl1 hh1 sz
        refine ⟨_, w, c', run_append_nothing w t u ty e i hut hi a 0 0 (Nat.le_refl _) yc n3, ?_, k3, k4, p, e, k1, hut, fun h => by rw [k2] at h; cases h⟩
        exact .slnil _ _ _ p _ k1 k2
      · have := grows a 0 0 [] [] h1 hl1 hh1 (by simp) rfl ⟨fun i h => by simp at h, fun e h => by simp at h, fun i h => by simp at h⟩
          (by cases a with
            | none => exact run_firstCells_none w.drew i.size 0 0 0
            | some a => exact run_firstCells_some w.drew i.size 0 a 0 0 [] (by simp) (fun j v h => by simp at h)) (by omega) (by rw [Nat.zero_add]; exact hb) (by simp)
        simpa using this
    split at hs
    · split at hs <;> cases hs
      rw [hx.nils_inv]
      exact empty none h rfl keep (by assumption)
    · split at hs <;> cases hs
      obtain ⟨a, rfl⟩ := hx.zs_inv
      exact empty a h rfl keep (by assumption)
    · rename_i id off len s k
      split at hs
      case isFalse => cases hs
      case isTrue e0 =>
        subst e0
        split at hs
        case h_2 => cases hs
        case h_1 old s' hid =>
          split at hs
          case isFalse => cases hs
          case isTrue hc =>
            obtain ⟨rfl, hend, hb⟩ := hc
            cases hs
            have hlg : (h.set id O.gone).length = h.length := by simp
            have hdl : (old.drop off).length = len := by simp; omega
            rcases hx.sl_inv with ⟨p, cap, o, hp, hn, hcap, ho, hto, hk, rfl⟩ | ⟨p, a, hp, hn, rfl, rfl, rfl, rfl⟩
            · obtain ⟨cc, e', fr, hw, q1, q2, q3, hl, hones, q4, q5⟩ := arr_cells hh hid hp hn
              rcases Nat.eq_zero_or_pos cap with h0 | h0
              · -- no room at all
                have hl0 : len = 0 := by omega
                subst hl0
                subst h0
                have hd : old.drop off = [] := List.eq_nil_of_length_eq_zero hdl
                rw [hd]
                have := empty (some ⟨p.block, o, none⟩) (h.set id O.gone) hlg set_gone (by simpa using hb)
                simpa using this
              · have ho' : o = p.base + off * s' := by rcases ho with h | h; exact h; omega
                have htop := hto h0
                have holdEls : ∀ i (hi : i < (old.drop off).length) j (hj : j < (old.drop off)[i].length), ∃ x, w.cell? ⟨p.block, o + i * s' + j, none⟩ = some x ∧ VRel c.ro Pl.none (old.drop off)[i][j] x := by
                  intro i hi j hj
                  simp only [List.getElem_drop] at hj ⊢
                  obtain ⟨x, hx, hv⟩ := q4 (off + i) (by simp at hi; omega) j hj
                  refine ⟨x, ?_, hv⟩
                  rw [cell_of_heap hw, ho', ← hx]
                  congr 1
                  rw [Nat.add_mul]; omega
                have hdlen : ∀ i (hi : i < (old.drop off).length), (old.drop off)[i].length = s' := fun i hi => by simp at hi; simp [hl (off + i) (by omega)]
                have hdones : ∀ x ∈ old.drop off, V.ones x = true := fun x hx => hones x (List.mem_of_mem_drop hx)
                obtain ⟨olds, o1, o2, o3⟩ := flat_range (ro := c.ro) (m := Pl.none) (w := w) (b := p.block) (o := o) (sz := s') (es := old.drop off) hdlen hdones holdEls
                by_cases hroom : len + es.length ≤ cap
                · -- in its place
                  have hfit : o + len * s' + news.length ≤ cc.size := by
                    rw [n1, Nat.add_assoc, ← Nat.add_mul, q1, ho']
                    have := Nat.mul_le_mul_right s' hroom
                    omega
                  have hrun := run_append_room_src (P := P) w t u ty e i hut hi p.block o len cap yc es.length news n3 hroom
                    (fun j hj => by rw [cell_of_heap hw, Array.getElem?_eq_getElem (by rw [his]; omega)]; rfl)
                    (fun j hj => frozen_of_heap hw (q5 _ (by rw [his]; omega)))
                  rw [his] at hrun
                  obtain ⟨cc', g1, g2, g3⟩ := setCells_heap news w p.block (o + len * s') cc e' fr hw hfit
                  obtain ⟨r1, r2, r3, r4⟩ := setCells_rest news w p.block (o + len * s')
                  have hlive : Live h id := ⟨_, hid, trivial⟩
                  have hrop : c.ro p.block = none := by
                    obtain ⟨q, hq, _, h3⟩ := hh.obj id _ hid trivial
                    rw [hp] at hq; cases hq; exact h3 hn
                  have htot : ((old.drop off) ++ es).length = len + es.length := by simp; omega
                  obtain ⟨s1, s2⟩ := hh.move (w' := w.setCells p.block (o + len * s') news) (h' := h.set id O.gone) (.arr (old.drop off ++ es) s') ⟨p.block, o, p.top, false, p.ty⟩ hlg set_gone
                    (fun _ => ⟨fun i2 q2 hl2 hq2 hn2 he2 => by
                      obtain ⟨x, hx, hxl⟩ := hl2
                      have hx' := set_gone i2 x hx hxl
                      have := hh.inj i2 id q2 p ⟨x, hx', hxl⟩ hlive hq2 hp hn2 hn he2
                      subst this
                      rw [List.getElem?_set_self (List.getElem?_eq_some_iff.1 hid).1] at hx
                      cases hx; exact hxl, hrop, .inl ⟨id, p, hlive, hp, hn, rfl⟩⟩)
                    (by rw [r1]; exact Nat.le_refl _) (fun b hb hne => setCells_other _ _ _ _ _ (hne rfl)) r2 r3 r4 (fun m' hm => by
                      refine ⟨fun h => (by cases h), ?_, ?_, fun _ => ⟨cc', ⟨rfl, by simp only; omega, by simp only; omega, e', fr, g1, q5⟩, ?_, ?_⟩⟩
                      · intro x hx
                        rcases List.mem_append.1 hx with hx | hx
                        · exact hdones x hx
                        · exact n2.ones x hx
                      · intro i2 hi2
                        rw [List.getElem_append]; split
                        · exact hdlen _ _
                        · exact n2.len _ _
                      · simp only [htot]
                        rw [ho']
                        have := Nat.mul_le_mul_right s' hroom
                        omega
                      · intro i2 hi2 j hj
                        simp only
                        rcases Nat.lt_or_ge i2 len with h1 | h1
                        · have e1 : (old.drop off ++ es)[i2] = (old.drop off)[i2]'(by omega) := List.getElem_append_left (by omega)
                          simp only [e1] at hj ⊢
                          obtain ⟨x, hx, hv⟩ := holdEls i2 (by omega) j hj
                          refine ⟨x, ?_, hv⟩
                          rw [cell_of_heap hw] at hx
                          have hms := mul_step (s := s') h1
                          have := hdlen i2 (by omega)
                          rw [g3 _ (Array.getElem?_eq_some_iff.1 hx).1, if_neg (by omega)]
                          exact hx
                        · have e1 : (old.drop off ++ es)[i2] = es[i2 - len]'(by rw [htot] at hi2; omega) := by
                            rw [List.getElem_append_right (by omega)]; simp only [hdl]
                          simp only [e1] at hj ⊢
                          have hi3 : i2 - len < es.length := by rw [htot] at hi2; omega
                          obtain ⟨x, hx, hv⟩ := n2.rel (i2 - len) hi3 j hj
                          refine ⟨x, ?_, hv⟩
                          have hlt := (List.getElem?_eq_some_iff.1 hx).1
                          have e2 : i2 * s' = len * s' + (i2 - len) * s' := by rw [← Nat.add_mul]; congr 1; omega
                          rw [g3 _ (by omega), if_pos (by omega), ← hx]
                          congr 1; omega)
                  refine ⟨_, _, _, hrun, ?_, s1, s2, ⟨p.block, o, p.top, false, p.ty⟩, e, by simp, hut, fun _ => .inr ⟨id, off, len, s', k, p, rfl, hp, hn, rfl, ho'⟩⟩
                  exact .sl _ _ _ _ _ _ o _ ⟨p.block, o, p.top, false, p.ty⟩ (by simp) rfl hroom (.inl (by simp)) (fun _ => by simp only [Nat.zero_mul, Nat.add_zero]; rw [ho']; omega) (fun x hx => by cases hx)
                · have := grows (some ⟨p.block, o, none⟩) len cap olds (old.drop off) (h.set id O.gone) hlg set_gone o1 hdl o2
                    (run_firstCells_some w.drew i.size len ⟨p.block, o, none⟩ len cap olds (by rw [o1, hdl, his]) (fun j v hj => by rw [Addr.add_mid]; exact o3 j v hj)) (by omega) hb (by simp; omega)
                  exact this
            · -- at no place
              have hold : old = [] := by
                obtain ⟨q, hq, ⟨hnul, _⟩, _⟩ := hh.obj id _ hid trivial
                rw [hp] at hq; cases hq
                exact hnul hn
              subst hold
              have := empty a (h.set id O.gone) hlg set_gone (by simpa using hb)
              simpa using this
    · cases hs

theorem sound_append {P : Program} {c w h} (hh : HRel c w h) {t u ty : TypeId} {sz bytes : Nat} {z : List V} {str : Bool} (hel : cElem P t = some (sz, z, bytes)) (hbp : 0 < bytes)
    (hu : (str = true ∧ P.underlying u = some .string ∧ sz = 1) ∨ (str = false ∧ ∃ e', P.underlying u = some (.slice e')))
    {xv yv : V} {xc yc : Value} (hx : VRel c.ro c.m xv xc) (hy : VRel c.ro c.m yv yc) {v h'} (hs : appendV h xv yv sz bytes str = some (v, h')) :
    Ok P c w h (Builtin.append_ #[t, u] ty #[xc, yc]) v h' := (sound_appendX hh hel hbp hu hx hy hs).ok

end Sx
