/-
  Sx, part H: build, slice literals, append, make.
-/
import Derived.Test.YticecideodkcmaaSxG
namespace Sx
open Go

theorem divmod {k n sz : Nat} (h : k < n * sz) : k / sz < n ∧ k % sz < sz ∧ k / sz * sz + k % sz = k := by
  have hs : 0 < sz := by
    rcases Nat.eq_zero_or_pos sz with h0 | h0
    · subst h0; simp at h
    · exact h0
  exact ⟨Nat.div_lt_of_lt_mul (by rwa [Nat.mul_comm] at h), Nat.mod_lt _ hs, by rw [Nat.mul_comm]; exact Nat.div_add_mod k sz⟩

theorem ones_get : ∀ {l : List V} (_ : V.ones l = true) (i : Nat) (hi : i < l.length), l[i].one = true
  | a :: l, h, 0, _ => by simp only [V.ones, Bool.and_eq_true] at h; exact h.1
  | a :: l, h, i + 1, hi => by
    simp only [V.ones, Bool.and_eq_true] at h
    exact ones_get h.2 i (by simpa using hi)

theorem Els.one {ro m es sz} {news : List Value} (h : Els ro m es sz (news[·]?)) (hl : news.length = es.length * sz) : ∀ u ∈ news, u.oneCell' = true := by
  intro u hu
  obtain ⟨k, hk, rfl⟩ := List.getElem_of_mem hu
  obtain ⟨h1, h2, h3⟩ := divmod (n := es.length) (sz := sz) (k := k) (by omega)
  have hj : k % sz < es[k / sz].length := by rw [h.len _ h1]; exact h2
  obtain ⟨x, hx, hv⟩ := h.rel _ h1 _ hj
  rw [h3, List.getElem?_eq_getElem hk] at hx
  cases hx
  exact one_oneCell hv (ones_get (h.ones _ (List.getElem_mem _)) _ hj)

/-- a range of cells as a list -/
theorem flat_range {ro m} {w : World} {b o sz : Nat} {es : List (List V)} (hlen : ∀ i (h : i < es.length), es[i].length = sz) (h1 : ∀ e ∈ es, V.ones e = true)
    (h : ∀ i (h : i < es.length) j (h' : j < es[i].length), ∃ x, w.cell? ⟨b, o + i * sz + j, none⟩ = some x ∧ VRel ro m es[i][j] x) :
    ∃ news : List Value, news.length = es.length * sz ∧ Els ro m es sz (news[·]?) ∧ ∀ j u, news[j]? = some u → w.cell? ⟨b, o + j, none⟩ = some u := by
  refine ⟨(List.range (es.length * sz)).map fun k => (w.cell? ⟨b, o + k, none⟩).getD undef, by simp, ⟨hlen, h1, fun i hi j hj => ?_⟩, fun j u hu => ?_⟩
  · obtain ⟨x, hx, hv⟩ := h i hi j hj
    have hlt : i * sz + j < es.length * sz := by have := mul_step (s := sz) hi; have := hlen i hi; omega
    refine ⟨x, ?_, hv⟩
    rw [List.getElem?_map, List.getElem?_range hlt]
    simp [← Nat.add_assoc, hx]
  · rcases Nat.lt_or_ge j (es.length * sz) with hj | hj
    · rw [List.getElem?_map, List.getElem?_range hj] at hu
      obtain ⟨q1, q2, q3⟩ := divmod hj
      obtain ⟨x, hx, _⟩ := h (j / sz) q1 (j % sz) (by rw [hlen _ q1]; exact q2)
      rw [Nat.add_assoc, q3] at hx
      simp [hx] at hu
      rw [hx, hu]
    · rw [List.getElem?_eq_none (by simpa using hj)] at hu; cases hu

/-- a list value's elements, flat -/
theorem elemsOf_flat {c w h} (hh : HRel c w h) {v : V} {cv : Value} (hv : VRel c.ro c.m v cv) {sz : Nat} {es : List (List V)} (he : elemsOf h sz v = some es) :
    ∃ (news : List Value) (a : Option Addr) (cap : Nat), news.length = es.length * sz ∧ Els c.ro Pl.none es sz (news[·]?) ∧ cv = .slice a es.length cap ∧ es.length ≤ cap ∧
      (es.length = 0 ∨ ∃ b o, a = some ⟨b, o, none⟩ ∧ ∀ j u, news[j]? = some u → w.cell? ⟨b, o + j, none⟩ = some u) := by
  have hnil : Els c.ro Pl.none [] sz (fun i => ([] : List Value)[i]?) := ⟨fun i h => by simp at h, fun e h => by simp at h, fun i h => by simp at h⟩
  cases v <;> simp only [elemsOf] at he <;> try (cases he; done)
  case nils =>
    cases he
    rw [hv.nils_inv]
    exact ⟨[], none, 0, by simp, hnil, rfl, by simp, .inl rfl⟩
  case sl id off len s k =>
    split at he
    case isFalse => cases he
    case isTrue e =>
      subst e
      split at he
      case h_2 => cases he
      case h_1 e s' hid =>
        split at he
        case isFalse => cases he
        case isTrue hc =>
          obtain ⟨rfl, hle⟩ := hc
          cases he
          have hlen : ((e.drop off).take len).length = len := by simp; omega
          rcases hv.sl_inv with ⟨p, cap, o, hp, hn, hcap, ho, ht, hk, rfl⟩ | ⟨p, a, hp, hn, rfl, rfl, rfl, rfl⟩
          · rcases Nat.eq_zero_or_pos len with h0 | h0
            · subst h0
              exact ⟨[], some ⟨p.block, o, none⟩, cap, by simp, by simpa using hnil, by simp, by simp, .inl (by simp)⟩
            · have ho' : o = p.base + off * s' := by rcases ho with h | h; exact h; omega
              obtain ⟨cc, e', fr, hw, h1, h2, h3, hl, hones, h4, h5⟩ := arr_cells hh hid hp hn
              obtain ⟨news, n1, n2, n3⟩ := flat_range (ro := c.ro) (m := Pl.none) (w := w) (b := p.block) (o := o) (sz := s') (es := (e.drop off).take len) (fun i hi => by
                simp at hi; simp [hl (off + i) (by omega)]) (fun x hx => hones x (List.mem_of_mem_drop (List.mem_of_mem_take hx))) (fun i hi j hj => by
                have hi' : i < len := by rw [hlen] at hi; exact hi
                simp only [List.getElem_take, List.getElem_drop] at hj ⊢
                obtain ⟨x, hx, hv⟩ := h4 (off + i) (by omega) j hj
                refine ⟨x, ?_, hv⟩
                rw [cell_of_heap hw, ho', ← hx]
                congr 1
                rw [Nat.add_mul]; omega)
              exact ⟨news, _, cap, n1, n2, by rw [hlen], by rw [hlen]; exact hcap, .inr ⟨_, _, rfl, n3⟩⟩
          · exact ⟨[], a, 0, by simp, by simpa using hnil, by simp, by simp, .inl (by simp)⟩
  case vs e s =>
    split at he
    case isFalse => cases he
    case isTrue hs =>
      subst hs
      cases he
      rcases hv.vs_inv with ⟨b, o, cap, cs, f, hb, hl, hsz, hones, hc, hvv, rfl⟩ | ⟨a, rfl, rfl⟩
      · obtain ⟨e', fr, hw⟩ := hh.ro _ _ hb
        obtain ⟨news, n1, n2, n3⟩ := flat_range (ro := c.ro) (m := Pl.none) (w := w) (b := b) (o := o) (sz := s) (es := es) hsz hones (fun i hi j hj =>
          ⟨f i j, by rw [cell_of_heap hw]; exact hc i j hi (by rw [← hsz i hi]; exact hj), hvv i hi j hj⟩)
        exact ⟨news, _, cap, n1, n2, rfl, hl, .inr ⟨_, _, rfl, n3⟩⟩
      · exact ⟨[], a, 0, by simp, hnil, rfl, by simp, .inl rfl⟩

theorem src_of {P : Program} {w : World} {sz : Nat} {tx e' : TypeId} (hk : P.underlying tx = some (.slice e')) {news : List Value} {a : Option Addr} {n cap : Nat} (hl : news.length = n * sz)
    (h1 : ∀ u ∈ news, u.oneCell' = true) (hc : n = 0 ∨ ∃ b o, a = some ⟨b, o, none⟩ ∧ ∀ j u, news[j]? = some u → w.cell? ⟨b, o + j, none⟩ = some u) : Src P sz tx (.slice a n cap) n news w := by
  rcases hc with rfl | ⟨b, o, rfl, hcell⟩
  · have : news = [] := by simpa using hl
    subst this
    cases a with
    | none => exact Src.ofNil w hk cap
    | some a => exact Src.ofSlice w hk a 0 cap [] (by simp) (fun j u h => by simp at h) (fun u h => by simp at h)
  · exact Src.ofSlice w hk _ n cap news hl (fun j u h => by rw [Addr.add_mid]; exact hcell j u h) h1

theorem byteEls_els (ro m) (l : List UInt8) : Els ro m (byteEls l) 1 ((byteCells ⟨l.toArray⟩)[·]?) := by
  have hlen : ∀ i (h : i < (byteEls l).length), (byteEls l)[i].length = 1 := fun i h => by simp [byteEls]
  refine ⟨hlen, fun e h => ?_, fun i h j h' => ?_⟩
  · simp only [byteEls, List.mem_map] at h; obtain ⟨b, _, rfl⟩ := h; rfl
  · have hi : i < l.length := by simpa [byteEls] using h
    have hj : j = 0 := by have := hlen i h; omega
    subst hj
    refine ⟨.int .u8 l[i].toNat, ?_, ?_⟩
    · simp [byteCells, hi]
    · simp [byteEls]; exact .int ..

/-- a fresh row of elements -/
theorem arr_of_els {c : Ctx} {es : List (List V)} {sz : Nat} {cc : Array Value} (he : Els c.ro Pl.none es sz (cc[·]?)) {b : Nat} {m' : Pl} {w' : World} {e : TypeId} (hw : w'.heap[b]? = some (.cells cc e)) (hle : es.length * sz ≤ cc.size) :
    ORel c.ro m' w' ⟨b, 0, cc.size, false, e⟩ (.arr es sz) :=
  ⟨(fun h => by cases h), he.ones, he.len, fun _ => ⟨cc, ⟨rfl, rfl, Nat.zero_le _, ⟨e, rfl⟩, (0, 0), hw, fun i _ => by simp⟩, by simpa using hle, fun i hi j hj => by
    obtain ⟨x, hx, hv⟩ := he.rel i hi j hj; exact ⟨x, by simpa using hx, hv⟩⟩⟩

theorem els_append {ro m es es' sz} {old news : List Value} (h : Els ro m es sz (old[·]?)) (hl : old.length = es.length * sz) (k : Els ro m es' sz (news[·]?)) (_hl' : news.length = es'.length * sz) :
    Els ro m (es ++ es') sz ((old ++ news)[·]?) := by
  refine ⟨fun i hi => ?_, fun e he => ?_, fun i hi j hj => ?_⟩
  · rw [List.getElem_append]; split
    · exact h.len _ _
    · exact k.len _ _
  · rcases List.mem_append.1 he with he | he
    · exact h.ones e he
    · exact k.ones e he
  · rcases Nat.lt_or_ge i es.length with h1 | h1
    · have e1 : (es ++ es')[i] = es[i] := List.getElem_append_left h1
      simp only [e1] at hj ⊢
      obtain ⟨x, hx, hv⟩ := h.rel i h1 j hj
      refine ⟨x, ?_, hv⟩
      have := mul_step (s := sz) h1
      have := h.len i h1
      rw [List.getElem?_append_left (by omega)]; exact hx
    · have e1 : (es ++ es')[i] = es'[i - es.length]'(by simp at hi; omega) := List.getElem_append_right h1
      simp only [e1] at hj ⊢
      obtain ⟨x, hx, hv⟩ := k.rel (i - es.length) (by simp at hi; omega) j hj
      refine ⟨x, ?_, hv⟩
      have e2 : i * sz = es.length * sz + (i - es.length) * sz := by rw [← Nat.add_mul]; congr 1; omega
      rw [List.getElem?_append_right (by omega), ← hx]
      congr 1; omega

theorem els_front {ro m es sz} {l : List Value} (h : Els ro m es sz (l[·]?)) (more : List Value) : Els ro m es sz ((l ++ more)[·]?) := by
  refine ⟨h.len, h.ones, fun i hi j hj => ?_⟩
  obtain ⟨x, hx, hv⟩ := h.rel i hi j hj
  exact ⟨x, by rw [List.getElem?_append_left (List.getElem?_eq_some_iff.1 hx).1]; exact hx, hv⟩

theorem els_arr {ro m es sz} {l : List Value} (h : Els ro m es sz (l[·]?)) : Els ro m es sz (l.toArray[·]?) :=
  ⟨h.len, h.ones, fun i hi j hj => by obtain ⟨x, hx, hv⟩ := h.rel i hi j hj; exact ⟨x, by simpa using hx, hv⟩⟩

end Sx
