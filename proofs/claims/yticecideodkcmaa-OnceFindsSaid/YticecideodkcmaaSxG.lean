/-
  Sx, part G: store, build, slice literals, append, make.
-/
import Derived.Test.YticecideodkcmaaSxF
import Derived.Laws.Tables
import Derived.Great.BuildSlice
namespace Sx
open Go

theorem mul_step {a b s : Nat} (h : a < b) : a * s + s ≤ b * s := by
  have := Nat.mul_le_mul_right s (Nat.succ_le_of_lt h)
  rwa [Nat.succ_mul] at this

theorem ones_take : ∀ {l : List V} (n : Nat), V.ones l = true → V.ones (l.take n) = true
  | [], n, _ => by simp [V.ones]
  | a :: l, 0, _ => rfl
  | a :: l, n + 1, h => by
    simp only [V.ones, Bool.and_eq_true, List.take_succ_cons] at h ⊢; exact ⟨h.1, ones_take n h.2⟩
theorem ones_drop : ∀ {l : List V} (n : Nat), V.ones l = true → V.ones (l.drop n) = true
  | [], n, _ => by simp [V.ones]
  | a :: l, 0, h => h
  | a :: l, n + 1, h => by
    simp only [V.ones, Bool.and_eq_true, List.drop_succ_cons] at h ⊢; exact ones_drop n h.2
theorem ones_append : ∀ {l r : List V}, V.ones l = true → V.ones r = true → V.ones (l ++ r) = true
  | [], _, _, h => h
  | a :: l, r, h, k => by
    simp only [V.ones, Bool.and_eq_true, List.cons_append] at h ⊢; exact ⟨h.1, ones_append h.2 k⟩
theorem celled_ones {v : V} (h : v.celled = true) : V.ones v.cells = true := by
  unfold V.celled at h; unfold V.cells
  split
  · exact h
  · rename_i hna
    split at h
    · exact absurd rfl (hna _)
    · simp [V.ones, h]

/-- elements laid flat -/
structure Els (ro : Ro) (m : Pl) (es : List (List V)) (sz : Nat) (g : Nat → Option Value) : Prop where
  len : ∀ i (h : i < es.length), es[i].length = sz
  ones : ∀ e ∈ es, V.ones e = true
  rel : ∀ i (h : i < es.length) j (h' : j < es[i].length), ∃ x, g (i * sz + j) = some x ∧ VRel ro m es[i][j] x

/-- cells stored into a row that is owned -/
theorem store_at {P : Program} {w : World} {b o : Nat} {cc : Array Value} {e : TypeId} {fr : Nat × Nat} (hw : w.heap[b]? = some (.cells cc e fr)) {vs : List Value} (hl : o + vs.length ≤ cc.size) (hf : ∀ i, i < cc.size → ¬ (fr.1 ≤ i ∧ i < fr.2))
    (h1 : ∀ u ∈ vs, u.oneCell' = true) : (storeCells ⟨b, o, none⟩ vs).run P w = .ok () (w.setCells b o vs) := by
  have := run_storeCells_cells (P := P) b o vs 0 w (fun j hj => by rw [cell_of_heap hw]; rw [Array.getElem?_eq_getElem (by omega)]; rfl)
    (fun j hj => frozen_of_heap hw (hf _ (by omega))) h1
  simpa using this

theorem sound_store {P : Program} {N c t a w h} (hh : HRel c w h) (ht : TRel N c t a) {x y : Operand} {x' y' : Opd} (hx : cOpd N x = some x') (hy : cOpd N y = some y') {ty n agg} (hk : cSize P ty = some (n, agg)) {v h'}
    (hs : opStep t h (.store x' y' n) = some (v, h')) :
    ∃ w', (Instr.storeAt ty (a.eval x) (a.eval y)).run P w = .ok () w' ∧ v = .any ∧ HRel c w' h' ∧ Adv c w h c w' h' := by
  have hv := opd_rel ht hx
  have hu := opd_rel ht hy
  simp only [opStep] at hs
  generalize x'.ev t = xv at *
  generalize a.eval x = cx at *
  generalize y'.ev t = yv at *
  generalize a.eval y = cy at *
  split at hs
  case isFalse => cases hs
  case isTrue hc =>
    simp only [Bool.and_eq_true, beq_iff_eq] at hc
    obtain ⟨hr, hone⟩ := cells_rel hu hc.1
    obtain ⟨d, i, hud, hi, hsz⟩ := cSize_size hk
    have hn : cy.cells.size = n := by rw [← hr.1, hc.2]
    have run : ∀ addr, (storeVar ty addr cy).run P w = (storeCells addr cy.cells.toList).run P w := by
      intro addr
      simp [storeVar, Go.sizeOf, typeInfo, hi, hsz, hn]
    split at hs
    · rename_i id off
      obtain ⟨p, hp, hnn, rfl⟩ := hv.ptr_inv
      split at hs
      case h_2 => cases hs
      case h_1 cs hid =>
        split at hs
        case isFalse => cases hs
        case isTrue hle =>
          cases hs
          obtain ⟨p', cc, e, fr, hp', _, hw, h1, h2, h3, h4, h5⟩ := row_cells hh hid
          rw [hp] at hp'; cases hp'
          have hfit : p.base + off + cy.cells.toList.length ≤ cc.size := by simp [hn]; omega
          have hst := store_at (P := P) hw hfit (by rw [h1]; exact h5) hone
          obtain ⟨cc', g1, g2, g3⟩ := setCells_heap cy.cells.toList w p.block (p.base + off) cc e fr hw hfit
          obtain ⟨k1, k2, k3, k4⟩ := setCells_rest cy.cells.toList w p.block (p.base + off)
          obtain ⟨r1, r2⟩ := hh.change (w' := w.setCells p.block (p.base + off) cy.cells.toList) id _ (.row (putAt cs off yv.cells)) p hid trivial hp hnn k1 (fun b hb => setCells_other _ _ _ _ _ hb) k2 k3 k4 (by
            refine ⟨cc', ⟨hnn, by omega, h2, e, fr, g1, h5⟩, by rw [putAt_length (by omega)]; exact h3, fun i a' b' => ?_⟩
            have hi' : i < cs.length := by rw [putAt_length (by omega)] at a'; exact a'
            have e1 := putAt_get (cs := cs) (vs := yv.cells) (off := off) (by omega) i
            have e2 := g3 (p.base + i) (by omega)
            rw [List.getElem?_eq_getElem a'] at e1
            rw [Array.getElem?_eq_getElem b'] at e2
            by_cases hc' : off ≤ i ∧ i < off + yv.cells.length
            · rw [if_pos hc', List.getElem?_eq_getElem (by omega)] at e1
              rw [if_pos (by simp [hn]; omega), List.getElem?_eq_getElem (by simp [hn]; omega)] at e2
              have f1 : (putAt cs off yv.cells)[i] = yv.cells[i - off]'(by omega) := by simpa using e1
              have f2 : cc'[p.base + i] = cy.cells[i - off]'(by omega) := by
                have : p.base + i - (p.base + off) = i - off := by omega
                simpa [this] using e2
              rw [f1, f2]; exact hr.2 _ _ _
            · rw [if_neg hc', List.getElem?_eq_getElem hi'] at e1
              rw [if_neg (by simp [hn]; omega)] at e2
              obtain ⟨x, hx, hxv⟩ := h4 i hi'
              rw [hx] at e2
              have f1 : (putAt cs off yv.cells)[i] = cs[i] := by simpa using e1
              have f2 : cc'[p.base + i] = x := by simpa using e2
              rw [f1, f2]; exact hxv)
          refine ⟨_, ?_, rfl, r1, r2⟩
          simp only [Instr.storeAt, Instr.sureAddr, Sem.run_bind, Sem.run_pure, Result.andThen_ok, run, hst]
    · rename_i id i0 s off
      obtain ⟨p, hp, hnn, rfl⟩ := hv.eptr_inv
      split at hs
      case h_2 => cases hs
      case h_1 es s' hid =>
        split at hs
        case isFalse => cases hs
        case isTrue he =>
          obtain ⟨he, hpure⟩ := he
          subst he
          split at hs
          case h_2 => cases hs
          case h_1 cs hcs =>
            obtain ⟨hi0, rfl⟩ := List.getElem?_eq_some_iff.1 hcs
            split at hs
            case isFalse => cases hs
            case isTrue hle =>
              cases hs
              obtain ⟨cc, e, fr, hw, h1, h2, h3, hlen, hones, h4, h5⟩ := arr_cells hh hid hp hnn
              have hl0 := hlen i0 hi0
              have hms := mul_step (s := s') hi0
              have hfit : p.base + i0 * s' + off + cy.cells.toList.length ≤ cc.size := by simp [hn]; omega
              have hst := store_at (P := P) hw hfit (by rw [h1]; exact h5) hone
              obtain ⟨cc', g1, g2, g3⟩ := setCells_heap cy.cells.toList w p.block (p.base + i0 * s' + off) cc e fr hw hfit
              obtain ⟨k1, k2, k3, k4⟩ := setCells_rest cy.cells.toList w p.block (p.base + i0 * s' + off)
              have hvl : off + yv.cells.length ≤ es[i0].length := by omega
              obtain ⟨r1, r2⟩ := hh.change (w' := w.setCells p.block (p.base + i0 * s' + off) cy.cells.toList) id _ (.arr (es.set i0 (putAt es[i0] off yv.cells)) s') p hid trivial hp hnn k1 (fun b hb => setCells_other _ _ _ _ _ hb) k2 k3 k4 (by
                refine ⟨fun hnull => (by rw [hnn] at hnull; cases hnull), ?_, ?_, fun _ => ⟨cc', ⟨hnn, by omega, h2, e, fr, g1, h5⟩, by simpa using h3, ?_⟩⟩
                · intro e' he'
                  rcases List.mem_or_eq_of_mem_set he' with hm | rfl
                  · exact hones _ hm
                  · have o1 := hones es[i0] (List.getElem_mem _)
                    have o2 : V.ones yv.cells = true := celled_ones hc.1
                    unfold putAt
                    exact ones_append (ones_take _ o1) (ones_append o2 (ones_drop _ o1))
                · intro i hi
                  by_cases hii : i0 = i
                  · subst hii; simp [putAt_length hvl, hl0]
                  · rw [List.getElem_set_ne hii]; exact hlen i (by simpa using hi)
                · intro i hi j hj
                  have hi' : i < es.length := by simpa using hi
                  by_cases hii : i0 = i
                  · subst hii
                    simp only [List.getElem_set_self] at hj ⊢
                    have hj' : j < es[i0].length := by rw [putAt_length hvl] at hj; exact hj
                    have e1 := putAt_get hvl j
                    have e2 := g3 (p.base + i0 * s' + j) (by omega)
                    rw [List.getElem?_eq_getElem hj] at e1
                    by_cases hc' : off ≤ j ∧ j < off + yv.cells.length
                    · rw [if_pos hc', List.getElem?_eq_getElem (by omega)] at e1
                      rw [if_pos (by simp [hn]; omega), List.getElem?_eq_getElem (by simp [hn]; omega)] at e2
                      refine ⟨_, e2, ?_⟩
                      have f1 : (putAt es[i0] off yv.cells)[j] = yv.cells[j - off]'(by omega) := by simpa using e1
                      have hidx : p.base + i0 * s' + j - (p.base + i0 * s' + off) = j - off := by omega
                      simp only [hidx]
                      rw [f1]
                      have := pures_rel hpure (fun a b b' => hr.2 a b b') (j - off) (by omega) (by omega)
                      simpa using this
                    · rw [if_neg hc', List.getElem?_eq_getElem hj'] at e1
                      rw [if_neg (by simp [hn]; omega)] at e2
                      obtain ⟨x, hx, hxv⟩ := h4 i0 hi0 j hj'
                      refine ⟨x, by rw [e2]; exact hx, ?_⟩
                      have f1 : (putAt es[i0] off yv.cells)[j] = es[i0][j] := by simpa using e1
                      rw [f1]; exact hxv
                  · simp only [List.getElem_set_ne hii] at hj ⊢
                    obtain ⟨x, hx, hxv⟩ := h4 i hi' j hj
                    refine ⟨x, ?_, hxv⟩
                    have hlj := hlen i hi'
                    rw [g3 (p.base + i * s' + j) (by have := mul_step (s := s') hi'; omega), if_neg]
                    · exact hx
                    · simp only [Array.length_toList, hn]
                      rcases Nat.lt_or_gt_of_ne hii with hlt | hlt
                      · have := mul_step (s := s') hlt; omega
                      · have := mul_step (s := s') hlt; omega)
              refine ⟨_, ?_, rfl, r1, r2⟩
              simp only [Instr.storeAt, Instr.sureAddr, Sem.run_bind, Sem.run_pure, Result.andThen_ok, run, hst]
    · cases hs

end Sx
