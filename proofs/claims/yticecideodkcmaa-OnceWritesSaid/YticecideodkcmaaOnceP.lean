/-
  Layer 14, part P: what clients did last, as what each client did; no program in sight.
-/
import Derived.Test.YticecideodkcmaaOnceO
namespace Go.Proofs.Yticecideodkcmaa
open Sx Go
set_option maxRecDepth 100000
set_option linter.unusedSimpArgs false
set_option linter.unusedVariables false
set_option linter.unnecessarySimpa false

theorem lookup_cons (x : Seen) (l : List Seen) (c : Int) : lookup (x :: l) c = if x.client = c then some x else lookup l c := by
  simp only [lookup, List.find?_cons]; split <;> simp_all

theorem lookup_some {l : List Seen} {c : Int} {y : Seen} (h : lookup l c = some y) : y ∈ l ∧ y.client = c :=
  ⟨List.mem_of_find?_eq_some h, by simpa using List.find?_some h⟩

theorem okGo_cons {x : Seen} {l : List Seen} {last : Int} : okGo (x :: l) last = true ↔ mayB x = true ∧ last < x.client ∧ okGo l x.client = true := by
  simp only [okGo, Bool.and_eq_true, decide_eq_true_eq]; exact ⟨fun h => ⟨h.1.1, h.1.2, h.2⟩, fun h => ⟨⟨h.1, h.2.1⟩, h.2.2⟩⟩

theorem okGo_mem : ∀ {l : List Seen} {last : Int}, okGo l last = true → ∀ y ∈ l, mayB y = true ∧ last < y.client
  | x :: l, last, h, y, hy => by
    obtain ⟨h1, h2, h3⟩ := okGo_cons.1 h
    rcases List.mem_cons.1 hy with rfl | hy
    · exact ⟨h1, h2⟩
    · have := okGo_mem h3 y hy; exact ⟨this.1, by omega⟩

theorem okGo_low : ∀ {l : List Seen} {a b : Int}, b ≤ a → okGo l a = true → okGo l b = true
  | [], _, _, _, _ => rfl
  | x :: l, a, b, hab, h => by
    obtain ⟨h1, h2, h3⟩ := okGo_cons.1 h
    exact okGo_cons.2 ⟨h1, by omega, h3⟩

theorem lookup_none {l : List Seen} {last c : Int} (h : okGo l last = true) (hc : c ≤ last) : lookup l c = none := by
  cases he : lookup l c with
  | none => rfl
  | some y => obtain ⟨h1, h2⟩ := lookup_some he; have := (okGo_mem h y h1).2; omega

/-- what clients did last is what each did last -/
theorem ok_ext : ∀ {l m : List Seen} {a b : Int}, okGo l a = true → okGo m b = true → (∀ c, lookup l c = lookup m c) → l = m
  | [], [], _, _, _, _, _ => rfl
  | [], y :: m, _, _, _, _, h => by have := h y.client; rw [lookup_cons, if_pos rfl] at this; cases this
  | x :: l, [], _, _, _, _, h => by have := h x.client; rw [lookup_cons, if_pos rfl] at this; cases this
  | x :: l, y :: m, a, b, hl, hm, h => by
    obtain ⟨l1, l2, l3⟩ := okGo_cons.1 hl
    obtain ⟨m1, m2, m3⟩ := okGo_cons.1 hm
    have hxy : x.client = y.client := by
      rcases Int.lt_trichotomy x.client y.client with hlt | he | hgt
      · have := h x.client
        rw [lookup_cons, if_pos rfl, lookup_cons, if_neg (by omega), lookup_none m3 (by omega)] at this; cases this
      · exact he
      · have := h y.client
        rw [lookup_cons (x := y), if_pos rfl, lookup_cons, if_neg (by omega), lookup_none l3 (by omega)] at this; cases this
    have he := h x.client
    rw [lookup_cons, if_pos rfl, lookup_cons, if_pos hxy.symm] at he
    cases he
    rw [ok_ext l3 m3 fun c => ?_]
    have := h c
    rw [lookup_cons, lookup_cons] at this
    by_cases hc : x.client = c
    · rw [lookup_none l3 (by omega), lookup_none m3 (by omega)]
    · rwa [if_neg hc, if_neg hc] at this

theorem ok_bounds {l : List Seen} {y : Seen} {last : Int} (h : okGo l last = true) (hy : y ∈ l) : 0 ≤ y.client ∧ y.client < 8 ∧ 1 ≤ y.seq ∧ y.seq ≤ 1099511627775 ∧ y.pairs = [] := by
  obtain ⟨h1, h2, h3, h4, _, h6, _⟩ := mayB_spec (okGo_mem h y hy).1
  exact ⟨h1, h2, h3, h4, h6⟩

theorem ok_len : ∀ {l : List Seen} {last : Int}, okGo l last = true → -1 ≤ last → (l.length : Int) ≤ 7 - last ∨ l = []
  | [], _, _, _ => .inr rfl
  | x :: l, last, h, hl => by
    obtain ⟨h1, h2, h3⟩ := okGo_cons.1 h
    have hb := mayB_spec h1
    rcases ok_len h3 (by omega) with h4 | rfl
    · left; simp only [List.length_cons]; omega
    · left; simp; omega
theorem ok_len8 {l : List Seen} (h : okGo l (-1) = true) : l.length ≤ 8 := by
  rcases ok_len h (Int.le_refl _) with h1 | rfl
  · omega
  · simp

/-! ### tables -/

theorem readGo_ok : ∀ {l t : List Seen} {last : Int}, (readGo l t last).isSome = okGo l last
  | [], _, _ => rfl
  | x :: l, t, last => by
    rw [readM_cons]
    by_cases h : mayB x = true ∧ last < x.client
    · rw [if_pos h, readGo_ok]; simp [okGo, h]
    · rw [if_neg h]
      cases hx : mayB x <;> simp [okGo, hx] at h ⊢
      intro h2; omega

theorem readGo_get : ∀ {l t t' : List Seen} {last : Int}, readGo l t last = some t' → ∀ c : Nat, c < t.length → t'[c]? = match lookup l c with | some y => some y | none => t[c]?
  | [], t, t', last, h, c, hc => by simp [readGo] at h; subst h; simp [lookup]
  | x :: l, t, t', last, h, c, hc => by
    have hok : okGo (x :: l) last = true := by rw [← readGo_ok (t := t), h]; rfl
    obtain ⟨h1, h2, h3⟩ := okGo_cons.1 hok
    rw [readM_cons, if_pos ⟨h1, h2⟩] at h
    have := readGo_get h c (by simpa using hc)
    rw [this, lookup_cons]
    have hb := mayB_spec h1
    by_cases e : x.client = c
    · rw [if_pos e, lookup_none h3 (by omega)]
      have : x.client.toNat = c := by omega
      simp [this, hc]
    · rw [if_neg e]
      have : x.client.toNat ≠ c := by omega
      simp [List.getElem?_set_ne this]

theorem readM_ok (l : List Seen) : (readM l).2 = okGo l (-1) := by
  rw [← readGo_ok (t := tab0)]; unfold readM; cases readGo l tab0 (-1) <;> rfl

theorem tab_get {l : List Seen} (h : okGo l (-1) = true) {c : Nat} (hc : c < 8) : (readM l).1[c]? = some ((lookup l c).getD zero) := by
  rw [← readGo_ok (t := tab0)] at h
  obtain ⟨t, ht⟩ := Option.isSome_iff_exists.1 h
  have : (readM l).1 = t := by simp [readM, ht]
  rw [this, readGo_get ht c (by rw [tab0_len]; exact hc)]
  cases lookup l c with
  | some y => rfl
  | none => show tab0[c]? = some zero; rw [tab0, List.getElem?_replicate, if_pos hc]

theorem tab_getD {l : List Seen} (h : okGo l (-1) = true) {c : Int} (h0 : 0 ≤ c) (hc : c < 8) : (readM l).1.getD c.toNat zero = (lookup l c).getD zero := by
  rw [List.getD_eq_getElem?_getD, tab_get h (by omega), Int.toNat_of_nonneg h0]; rfl

/-- a table that may be, from a place on -/
def TabOk (i : Nat) (t : List Seen) : Prop := ∀ (k : Nat) (y : Seen), t[k]? = some y → y.seq = 0 ∨ (mayB y = true ∧ y.client = ((i + k : Nat) : Int))

theorem TabOk.tail {i x t} (h : TabOk i (x :: t)) : TabOk (i + 1) t := fun k y hk => by
  rcases h (k + 1) y (by simpa using hk) with h | h
  · exact .inl h
  · exact .inr ⟨h.1, by rw [h.2]; congr 1; omega⟩

theorem kept_cons (x : Seen) (t : List Seen) : keptL (x :: t) = if x.seq = 0 then keptL t else x :: keptL t := by
  simp only [keptL, List.filter_cons]; split <;> simp_all

theorem kept_ok : ∀ {t : List Seen} {i : Nat}, TabOk i t → ∀ {last : Int}, last < i → okGo (keptL t) last = true
  | [], _, _, _, _ => rfl
  | x :: t, i, h, last, hl => by
    rw [kept_cons]
    split
    · exact kept_ok h.tail (by omega)
    · rename_i hx
      rcases h 0 x rfl with h0 | ⟨h0, h1⟩
      · exact absurd h0 hx
      · exact okGo_cons.2 ⟨h0, by rw [h1]; simpa using hl, kept_ok h.tail (by rw [h1]; omega)⟩

theorem kept_lookup : ∀ {t : List Seen} {i : Nat}, TabOk i t → ∀ c : Nat, lookup (keptL t) c = if i ≤ c then ((t[c - i]?).bind fun y => if y.seq = 0 then none else some y) else none
  | [], i, _, c => by simp [keptL, lookup]
  | x :: t, i, h, c => by
    have ih := kept_lookup h.tail c
    rw [kept_cons]
    by_cases hic : i ≤ c
    · rw [if_pos hic]
      by_cases e : c = i
      · subst e
        rw [if_neg (by omega)] at ih
        simp only [Nat.sub_self, List.getElem?_cons_zero, Option.bind_some]
        split
        · exact ih
        · rename_i hx
          rcases h 0 x rfl with h0 | ⟨h0, h1⟩
          · exact absurd h0 hx
          · rw [lookup_cons, if_pos (by simpa using h1)]
      · rw [if_pos (by omega)] at ih
        have e2 : c - i = (c - (i + 1)) + 1 := by omega
        rw [e2, List.getElem?_cons_succ, ← ih]
        split
        · rfl
        · rename_i hx
          rcases h 0 x rfl with h0 | ⟨h0, h1⟩
          · exact absurd h0 hx
          · rw [lookup_cons, if_neg (by rw [h1]; omega)]
    · rw [if_neg hic]
      rw [if_neg (by omega)] at ih
      split
      · exact ih
      · rename_i hx
        rcases h 0 x rfl with h0 | ⟨h0, h1⟩
        · exact absurd h0 hx
        · rw [lookup_cons, if_neg (by rw [h1]; omega)]; exact ih

theorem lookup_out {l : List Seen} {c : Int} (h : okGo l (-1) = true) (hc : c < 0 ∨ 8 ≤ c) : lookup l c = none := by
  cases he : lookup l c with
  | none => rfl
  | some y => obtain ⟨h1, h2⟩ := lookup_some he; have := ok_bounds h h1; omega

theorem tabOk_read {l : List Seen} (h : okGo l (-1) = true) : TabOk 0 (readM l).1 := by
  intro k y hk
  have hk8 : k < 8 := by rw [← readM_len l]; exact (List.getElem?_eq_some_iff.1 hk).1
  rw [tab_get h hk8] at hk
  cases he : lookup l k with
  | none => rw [he] at hk; simp at hk; subst hk; exact .inl rfl
  | some z =>
    rw [he] at hk; simp at hk; subst hk
    obtain ⟨h1, h2⟩ := lookup_some he
    exact .inr ⟨(okGo_mem h z h1).1, by rw [h2]; simp⟩

theorem seq_pos {l : List Seen} {c : Int} {y : Seen} {last : Int} (h : okGo l last = true) (he : lookup l c = some y) : y.seq ≠ 0 := by
  have := ok_bounds h (lookup_some he).1; omega

/-! ### put -/

theorem rput_spec : ∀ {l : List Seen} {x : Seen} {last : Int}, okGo l last = true → mayB x = true → last < x.client →
    okGo (rputGo l x false) last = true ∧ (∀ c, lookup (rputGo l x false) c = if c = x.client then some x else lookup l c) ∧ rputGo l x true = l.filter (fun y => decide (y.client ≠ x.client))
  | [], x, last, _, hx, hl => by
    refine ⟨okGo_cons.2 ⟨hx, hl, rfl⟩, fun c => ?_, rfl⟩
    simp only [rputGo, Bool.false_eq_true, if_false, lookup_cons, eq_comm]
  | y :: l, x, last, h, hx, hl => by
    obtain ⟨h1, h2, h3⟩ := okGo_cons.1 h
    have h3' := okGo_mem h3
    have htrue : ∀ m : List Seen, rputGo m x true = m.filter (fun y => decide (y.client ≠ x.client)) := by
      intro m; induction m with
      | nil => rfl
      | cons z m ih => simp only [rputGo, Bool.true_or, ih, List.filter_cons]; by_cases hz : z.client = x.client <;> simp [hz]
    have hall : x.client ≤ y.client → l.filter (fun y => decide (y.client ≠ x.client)) = l := fun hxy => by
      rw [List.filter_eq_self]; intro z hz; have := (h3' z hz).2; simp; omega
    refine ⟨?_, fun c => ?_, htrue _⟩
    · by_cases hxy : x.client ≤ y.client
      · simp only [rputGo, hxy, decide_true, Bool.or_true, htrue, and_self, if_true, hall hxy]
        by_cases he : y.client = x.client
        · simp only [he, if_true, List.nil_append, List.singleton_append]
          exact okGo_cons.2 ⟨hx, hl, by rw [← he]; exact h3⟩
        · simp only [he, if_false, List.singleton_append]
          exact okGo_cons.2 ⟨hx, hl, okGo_cons.2 ⟨h1, by omega, h3⟩⟩
      · have he : ¬ y.client = x.client := by omega
        simp only [rputGo, hxy, decide_false, Bool.or_false, and_false, if_false, he, List.nil_append, List.singleton_append]
        exact okGo_cons.2 ⟨h1, h2, (rput_spec h3 hx (by omega)).1⟩
    · by_cases hxy : x.client ≤ y.client
      · simp only [rputGo, hxy, decide_true, Bool.or_true, htrue, and_self, if_true, hall hxy]
        by_cases he : y.client = x.client
        · simp only [he, if_true, List.nil_append, List.singleton_append, lookup_cons]
          by_cases hc : c = x.client
          · rw [if_pos hc.symm, if_pos hc]
          · rw [if_neg (fun h => hc h.symm), if_neg hc, if_neg (fun h => hc h.symm)]
        · simp only [he, if_false, List.singleton_append, lookup_cons]
          by_cases hc : c = x.client
          · rw [if_pos hc.symm, if_pos hc]
          · rw [if_neg (fun h => hc h.symm), if_neg hc]
      · have he : ¬ y.client = x.client := by omega
        simp only [rputGo, hxy, decide_false, Bool.or_false, and_false, if_false, he, List.nil_append, List.singleton_append, lookup_cons]
        rw [(rput_spec h3 hx (by omega)).2.1 c]
        by_cases hc : y.client = c
        · rw [if_pos hc, if_neg (by omega), if_pos hc]
        · rw [if_neg hc, if_neg hc]

theorem put_spec {l : List Seen} {x : Seen} (h : okGo l (-1) = true) (hx : mayB x = true) : keptL ((readM l).1.set x.client.toNat x) = rputGo l x false := by
  have hb := mayB_spec hx
  obtain ⟨r1, r2, _⟩ := rput_spec h hx (by omega)
  have hT : TabOk 0 ((readM l).1.set x.client.toNat x) := by
    intro k y hk
    by_cases e : x.client.toNat = k
    · subst e
      rw [List.getElem?_set_self (by rw [readM_len]; omega)] at hk
      cases hk; exact .inr ⟨hx, by omega⟩
    · rw [List.getElem?_set_ne e] at hk
      exact tabOk_read h k y hk
  have hk := kept_ok hT (last := -1) (by decide)
  refine ok_ext hk r1 fun c => ?_
  rw [r2 c]
  by_cases hc : c < 0 ∨ 8 ≤ c
  · rw [lookup_out hk hc, if_neg (by omega), lookup_out h hc]
  · obtain ⟨n, rfl⟩ : ∃ n : Nat, c = n := ⟨c.toNat, by omega⟩
    have hn : n < 8 := by omega
    rw [kept_lookup hT n, if_pos (Nat.zero_le _), Nat.sub_zero]
    by_cases e : x.client.toNat = n
    · subst e
      rw [List.getElem?_set_self (by rw [readM_len]; omega), if_pos (by omega)]
      simp only [Option.bind_some]; rw [if_neg (by omega)]
    · rw [List.getElem?_set_ne e, if_neg (by omega), tab_get h hn]
      cases he : lookup l n with
      | none => rfl
      | some y => simp [seq_pos h he]

theorem find_eq (l : List Seen) (c s : Int) : findM l c s = rfindM l c s := by
  unfold findM rfindM
  rw [readM_ok]
  split
  · rename_i h
    obtain ⟨h1, h2⟩ := h
    have ha : 0 ≤ c ∧ c < 8 ∧ 1 ≤ s := by
      simp only [argOk, Bool.not_eq_true', Bool.or_eq_false_iff, decide_eq_false_iff_not] at h2; omega
    rw [tab_getD h1 ha.1 ha.2.1]
    cases lookup l c with
    | none => simp only [Option.getD_none]; rw [if_pos (by show (0 : Int) < s; omega)]
    | some y => rfl
  · rfl

theorem old_eq {l : List Seen} {x : Seen} (h : okGo l (-1) = true) (hx : mayB x = true) : oldB l x = decide (x.seq ≤ ((readM l).1.getD x.client.toNat zero).seq) := by
  have hb := mayB_spec hx
  rw [tab_getD h (by omega) (by omega), oldB]
  congr 1
  rcases findI_spec l x.client 0 with ⟨h1, h2⟩ | ⟨k, y, h1, h2, h3, h4⟩
  · rw [h1, h2]; simp only [Option.getD_none, eq_iff_iff]
    exact ⟨fun h => absurd h.1 (by omega), fun h => by have : x.seq ≤ 0 := h; omega⟩
  · rw [h2, h4]
    have e : l.getD ((0 + k : Nat) : Int).toNat zero = y := by rw [show ((0 + k : Nat) : Int).toNat = k by omega, List.getD_eq_getElem?_getD, h1]; rfl
    simp only [e, Option.getD_some, eq_iff_iff]
    exact ⟨fun h => h.2, fun h => ⟨by omega, h⟩⟩

theorem put_eq (l : List Seen) (x : Seen) : putM l x = rputM l x := by
  unfold putM rputM
  rw [readM_ok]
  split
  · rename_i h
    rw [old_eq h.1 h.2, put_spec h.1 h.2]
    by_cases hc : x.seq ≤ ((readM l).1.getD x.client.toNat zero).seq
    · rw [if_pos hc, if_pos (by simpa using hc)]
    · rw [if_neg hc, if_neg (by simpa using hc)]
  · rfl

end Go.Proofs.Yticecideodkcmaa
