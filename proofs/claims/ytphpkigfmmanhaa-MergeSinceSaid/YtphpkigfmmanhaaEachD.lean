/-
  Layer 11, part EachD: what is gone over is all that the document says (plain).
-/
import Derived.Test.YtphpkigfmmanhaaEachC
namespace Go.Proofs.Ytphpkigfmmanhaa
open Sx Go
set_option maxRecDepth 100000
set_option linter.unusedSimpArgs false
set_option linter.unusedVariables false
set_option linter.unnecessarySimpa false

theorem sameK_symm (a b : En) : sameK a b = sameK b a := by
  simp only [sameK, eq_comm (a := a.key), eq_comm (a := a.seq)]
theorem sameK_congr {a b : En} (h : sameK a b = true) (y : En) : sameK y a = sameK y b := by
  simp only [sameK, Bool.and_eq_true, decide_eq_true_eq] at h
  simp only [sameK, h.1, h.2]
theorem lessE_not_same {a b : En} (h : lessE a b = true) : sameK a b = false := by
  cases hs : sameK a b with
  | false => rfl
  | true => rw [(sameK_not hs).1] at h; cases h
theorem lessE_asymm {a b : En} (h : lessE a b = true) : lessE b a = false := by
  cases hs : lessE b a with
  | false => rfl
  | true => have := lessE_trans h hs; rw [lessE_irrefl] at this; cases this
theorem lessE_same_r {a b c : En} (h : lessE a b = true) (hs : sameK b c = true) : lessE a c = true := by
  simp only [sameK, Bool.and_eq_true, decide_eq_true_eq] at hs
  unfold lessE at *
  rw [hs.1, hs.2] at h; exact h
theorem lessE_same_l {a b c : En} (h : lessE b a = true) (hs : sameK b c = true) : lessE c a = true := by
  simp only [sameK, Bool.and_eq_true, decide_eq_true_eq] at hs
  unfold lessE at *
  rw [hs.1, hs.2] at h; exact h

/-- lists that rise and have the same are the same -/
theorem rise_ext : ∀ {a b : List En}, RiseE a → RiseE b → (∀ x, x ∈ a ↔ x ∈ b) → a = b
  | [], [], _, _, _ => rfl
  | [], y :: b, _, _, h => by have := (h y).2 (by simp); simp at this
  | x :: a, [], _, _, h => by have := (h x).1 (by simp); simp at this
  | x :: a, y :: b, ha, hb, h => by
    obtain ⟨ha1, ha2⟩ := List.pairwise_cons.1 ha
    obtain ⟨hb1, hb2⟩ := List.pairwise_cons.1 hb
    have hxy : x = y := by
      have h1 := (h x).1 (by simp)
      have h2 := (h y).2 (by simp)
      rcases List.mem_cons.1 h1 with h1 | h1
      · exact h1
      · rcases List.mem_cons.1 h2 with h2 | h2
        · exact h2.symm
        · have := lessE_asymm (hb1 x h1); rw [ha1 y h2] at this; cases this
    subst hxy
    congr 1
    refine rise_ext ha2 hb2 fun z => ?_
    constructor
    · intro hz
      rcases List.mem_cons.1 ((h z).1 (by simp [hz])) with rfl | h1
      · have := ha1 z hz; rw [lessE_irrefl] at this; cases this
      · exact h1
    · intro hz
      rcases List.mem_cons.1 ((h z).2 (by simp [hz])) with rfl | h1
      · have := hb1 z hz; rw [lessE_irrefl] at this; cases this
      · exact h1

/-- in a list that rises no two are of one key and number -/
theorem rise_find {o : List En} (ho : RiseE o) (x y : En) : o.find? (sameK · x) = some y ↔ y ∈ o ∧ sameK y x = true := by
  induction o with
  | nil => simp
  | cons z o ih =>
    obtain ⟨h1, h2⟩ := List.pairwise_cons.1 ho
    rw [List.find?_cons]
    cases hz : sameK z x with
    | true =>
      simp only [Option.some.injEq, List.mem_cons]
      constructor
      · rintro rfl; exact ⟨.inl rfl, hz⟩
      · rintro ⟨rfl | hy, hs⟩
        · rfl
        · have := lessE_not_same (h1 y hy)
          rw [sameK_symm, sameK_congr (a := z) (b := x) hz, hs] at this; cases this
    | false =>
      simp only [ih h2, List.mem_cons]
      constructor
      · rintro ⟨h, hs⟩; exact ⟨.inr h, hs⟩
      · rintro ⟨rfl | hy, hs⟩
        · rw [hz] at hs; cases hs
        · exact ⟨hy, hs⟩

/-! ### all -/

theorem tw_rise {o : List En} (ho : RiseE o) (x : En) : (∀ y ∈ o.takeWhile (lessE · x), lessE y x = true) ∧ ∀ y ∈ o.dropWhile (lessE · x), lessE y x = false := by
  refine ⟨fun y hy => mem_tw (p := (lessE · x)) hy, ?_⟩
  induction o with
  | nil => intro y hy; simp at hy
  | cons z o ih =>
    obtain ⟨h1, h2⟩ := List.pairwise_cons.1 ho
    rw [List.dropWhile_cons]
    cases hz : lessE z x with
    | true => simpa using ih h2
    | false =>
      simp only [Bool.false_eq_true, if_false]
      intro y hy
      rcases List.mem_cons.1 hy with rfl | hy
      · exact hz
      · cases hs : lessE y x with
        | false => rfl
        | true => rw [lessE_trans (h1 y hy) hs] at hz; cases hz

theorem put1_new {o : List En} (ho : RiseE o) {x : En} (hm : mayE x = true) (hh : hasE o x = false) : put1 o x = o.takeWhile (lessE · x) ++ x :: o.dropWhile (lessE · x) ∧ ∀ y ∈ o.dropWhile (lessE · x), lessE x y = true := by
  obtain ⟨h1, h2⟩ := tw_rise ho x
  have h3 : ∀ y ∈ o.dropWhile (lessE · x), lessE x y = true := by
    intro y hy
    have hy' : y ∈ o := (List.dropWhile_suffix _).subset hy
    rcases lessE_total x y with h | h | h
    · have : hasE o x = true := by rw [hasE, List.any_eq_true]; exact ⟨y, hy', by rw [sameK_symm]; exact h⟩
      rw [hh] at this; cases this
    · exact h
    · rw [h2 y hy] at h; cases h
  refine ⟨?_, h3⟩
  rw [put1, if_pos hm]
  cases hd : o.dropWhile (lessE · x) with
  | nil => rfl
  | cons y r => rw [hd] at h3; simp only [h3 y (by simp), if_true]

theorem step_spec {o : List En} (ho : RiseE o) {e : En} (hm : mayE e = true) : RiseE (stepO o e) ∧ ∀ x, (stepO o e).find? (sameK · x) = (o ++ [e]).find? (sameK · x) := by
  cases hh : hasE o e with
  | true =>
    rw [stepO, if_pos hh]
    refine ⟨ho, fun x => ?_⟩
    rw [List.find?_append]
    cases hf : o.find? (sameK · x) with
    | some y => rfl
    | none =>
      obtain ⟨y, hy, hs⟩ := List.any_eq_true.1 hh
      have h1 := List.find?_eq_none.1 hf y hy
      have : sameK e x = false := by
        cases hx : sameK e x with
        | false => rfl
        | true => rw [← sameK_congr hx] at h1; exact absurd hs h1
      simp [this]
  | false =>
    rw [stepO, if_neg (by simp [hh])]
    obtain ⟨h1, h2⟩ := tw_rise ho e
    obtain ⟨h3, h4⟩ := put1_new ho hm hh
    rw [h3]
    have hr : RiseE (o.takeWhile (lessE · e) ++ e :: o.dropWhile (lessE · e)) := by
      refine List.pairwise_append.2 ⟨ho.sublist (List.takeWhile_sublist _), List.pairwise_cons.2 ⟨h4, ho.sublist (List.dropWhile_sublist _)⟩, fun a ha b hb => ?_⟩
      rcases List.mem_cons.1 hb with rfl | hb
      · exact h1 a ha
      · exact lessE_trans (h1 a ha) (h4 b hb)
    refine ⟨hr, fun x => ?_⟩
    have hoe := List.takeWhile_append_dropWhile (p := (lessE · e)) (l := o)
    generalize o.takeWhile (lessE · e) = u at *
    generalize o.dropWhile (lessE · e) = v at *
    rw [← hoe]
    simp only [List.find?_append, List.find?_cons]
    cases hu : u.find? (sameK · x) with
    | some y => simp
    | none =>
      cases he : sameK e x with
      | false => simp
      | true =>
        have hv : v.find? (sameK · x) = none := by
          rw [List.find?_eq_none]
          intro y hy hs
          have := lessE_not_same (h4 y hy)
          rw [sameK_symm, sameK_congr he, hs] at this; cases this
        rw [hv]; simp

theorem fold_spec : ∀ (L o : List En), RiseE o → (∀ y ∈ L, mayE y = true) → RiseE (L.foldl stepO o) ∧ ∀ x, (L.foldl stepO o).find? (sameK · x) = (o ++ L).find? (sameK · x)
  | [], o, ho, _ => ⟨ho, fun x => by simp⟩
  | e :: L, o, ho, hm => by
    obtain ⟨h1, h2⟩ := step_spec ho (hm e (by simp))
    obtain ⟨h3, h4⟩ := fold_spec L (stepO o e) h1 fun y hy => hm y (by simp [hy])
    refine ⟨h3, fun x => ?_⟩
    rw [List.foldl_cons, h4, List.find?_append, h2, ← List.find?_append, List.append_assoc]; rfl

theorem allM_flat : ∀ (ls : List (List En)) (o : List En), ls.foldl goL o = ls.flatten.foldl stepO o
  | [], o => rfl
  | l :: ls, o => by rw [List.foldl_cons, allM_flat ls, List.flatten_cons, List.foldl_append]; rfl

theorem mayL_spec {ls : List (List En)} (h : mayL ls = true) : (∀ l ∈ ls, RiseE l) ∧ ∀ y ∈ ls.flatten, mayE y = true := by
  have h1 : ∀ l ∈ ls, checkE l = true := List.all_eq_true.1 h
  refine ⟨fun l hl => (checkE_iff.1 (h1 l hl)).2.1, fun y hy => ?_⟩
  obtain ⟨l, hl, hy⟩ := List.mem_flatten.1 hy
  exact (checkE_iff.1 (h1 l hl)).2.2 y hy

theorem all_spec {ls : List (List En)} (h : mayL ls = true) : RiseE (allM ls) ∧ ∀ x, x ∈ allM ls ↔ ls.flatten.find? (sameK · x) = some x := by
  obtain ⟨h1, h2⟩ := fold_spec ls.flatten [] List.Pairwise.nil (mayL_spec h).2
  rw [allM, allM_flat]
  refine ⟨h1, fun x => ?_⟩
  have := h2 x
  rw [List.nil_append] at this
  rw [← this, rise_find h1]
  exact ⟨fun h => ⟨h, sameK_refl x⟩, fun h => h.1⟩

/-! ### each -/

theorem dropK_find (e x : En) (hx : sameK x e = false) (l : List En) : (dropK e l).find? (sameK · x) = l.find? (sameK · x) := by
  cases l with
  | nil => rfl
  | cons y r =>
    rw [dropK]
    split
    · rename_i hs
      have : sameK y x = false := by
        cases hy : sameK y x with
        | false => rfl
        | true => have := sameK_congr hy e; rw [sameK_symm e y, hs, sameK_symm e x, hx] at this; cases this
      rw [List.find?_cons, this]
    · rfl
theorem drop_find (e x : En) (hx : sameK x e = false) : ∀ (rem : List (List En)), (rem.map (dropK e)).flatten.find? (sameK · x) = rem.flatten.find? (sameK · x)
  | [] => rfl
  | l :: rem => by rw [List.map_cons, List.flatten_cons, List.flatten_cons, List.find?_append, List.find?_append, dropK_find e x hx, drop_find e x hx rem]

theorem first_find (e : En) : ∀ (rem : List (List En)) (i : Nat) (r), rem[i]? = some (e :: r) → (∀ k < i, ∀ l, rem[k]? = some l → ∀ y ∈ l, sameK y e = false) → rem.flatten.find? (sameK · e) = some e
  | [], i, r, h, _ => by simp at h
  | l :: rem, 0, r, h, _ => by
    simp at h; subst h
    rw [List.flatten_cons, List.cons_append, List.find?_cons, sameK_refl]
  | l :: rem, i + 1, r, h, hk => by
    have h0 : l.find? (sameK · e) = none := by
      rw [List.find?_eq_none]
      intro y hy; simp [hk 0 (by omega) l rfl y hy]
    rw [List.flatten_cons, List.find?_append, h0]
    exact first_find e rem i r (by simpa using h) fun k hk' l' hl' => hk (k + 1) (by omega) l' (by simpa using hl')

theorem dropK_sub (e : En) (l : List En) : (dropK e l).Sublist l := by
  cases l with
  | nil => exact List.Sublist.refl _
  | cons x r => rw [dropK]; split; exact List.sublist_cons_self _ _; exact List.Sublist.refl _

theorem each_mem : ∀ (n : Nat) (rem : List (List En)), totL rem ≤ n → ∀ x ∈ eachM rem, ∃ l ∈ rem, x ∈ l
  | n, rem, hn, x, hx => by
    cases hl : lstG rem rem.length with
    | none => rw [each_none hl] at hx; simp at hx
    | some p =>
      obtain ⟨i, e⟩ := p
      obtain ⟨_, r, hr⟩ := lstG_spec hl
      have hlt := tot_lt e rem i r hr
      rw [each_some hl] at hx
      rcases List.mem_cons.1 hx with rfl | hx
      · exact ⟨_, List.mem_of_getElem? hr, by simp⟩
      · cases n with
        | zero => omega
        | succ n =>
          obtain ⟨l, h1, h2⟩ := each_mem n _ (by omega) x hx
          obtain ⟨l', h3, rfl⟩ := List.mem_map.1 h1
          exact ⟨l', h3, (dropK_sub e l').subset h2⟩

/-- what is behind the least is more -/
theorem drop_more {rem : List (List En)} (hr : ∀ l ∈ rem, RiseE l) {i e} (hl : lstG rem rem.length = some (i, e)) : ∀ l ∈ rem, ∀ x ∈ dropK e l, lessE e x = true := by
  intro l hlm x hx
  obtain ⟨k, hk, hke⟩ := List.mem_iff_getElem.1 hlm
  have hk2 : rem[k]? = some l := by rw [List.getElem?_eq_getElem hk, hke]
  cases l with
  | nil => simp [dropK] at hx
  | cons y s =>
    obtain ⟨h1, h2⟩ := lstG_least hl k hk y s hk2
    obtain ⟨h3, _⟩ := List.pairwise_cons.1 (hr _ hlm)
    rw [dropK] at hx
    split at hx
    · rename_i hs; exact lessE_same_l (h3 x hx) hs
    · rename_i hs
      have hey : lessE e y = true := by
        rcases lessE_total y e with h | h | h
        · exact absurd h hs
        · rw [h1] at h; cases h
        · exact h
      rcases List.mem_cons.1 hx with rfl | hx
      · exact hey
      · exact lessE_trans hey (h3 x hx)

theorem each_spec : ∀ (n : Nat) (rem : List (List En)), totL rem ≤ n → (∀ l ∈ rem, RiseE l) → RiseE (eachM rem) ∧ ∀ x, x ∈ eachM rem ↔ rem.flatten.find? (sameK · x) = some x
  | n, rem, hn, hr => by
    cases hl : lstG rem rem.length with
    | none =>
      rw [each_none hl]
      refine ⟨List.Pairwise.nil, fun x => ?_⟩
      have : rem.flatten = [] := by
        rw [List.flatten_eq_nil_iff]
        intro l hlm
        obtain ⟨k, hk, hke⟩ := List.mem_iff_getElem.1 hlm
        exact lstG_none hl k hk l (by rw [List.getElem?_eq_getElem hk, hke])
      simp [this]
    | some p =>
      obtain ⟨i, e⟩ := p
      obtain ⟨_, r, hri⟩ := lstG_spec hl
      have hlt := tot_lt e rem i r hri
      have hmore := drop_more hr hl
      cases n with
      | zero => omega
      | succ n =>
        obtain ⟨h1, h2⟩ := each_spec n (rem.map (dropK e)) (by omega) (fun l hlm => by
          obtain ⟨l', h3, rfl⟩ := List.mem_map.1 hlm
          exact (hr l' h3).sublist (dropK_sub e l'))
        have hall : ∀ x ∈ eachM (rem.map (dropK e)), lessE e x = true := by
          intro x hx
          obtain ⟨l, h3, h4⟩ := each_mem _ _ (Nat.le_refl _) x hx
          obtain ⟨l', h5, rfl⟩ := List.mem_map.1 h3
          exact hmore l' h5 x h4
        rw [each_some hl]
        refine ⟨List.pairwise_cons.2 ⟨hall, h1⟩, fun x => ?_⟩
        cases hx : sameK x e with
        | false =>
          rw [← drop_find e x hx rem, ← h2 x, List.mem_cons]
          constructor
          · rintro (rfl | h)
            · rw [sameK_refl] at hx; cases hx
            · exact h
          · exact .inr
        | true =>
          have hf : rem.flatten.find? (sameK · x) = some e := by
            have : (sameK · x) = (sameK · e) := funext fun y => sameK_congr hx y
            rw [this]
            refine first_find e rem i r hri fun k hk l hlk y hy => ?_
            have hkl : k < rem.length := (List.getElem?_eq_some_iff.1 hlk).1
            cases l with
            | nil => simp at hy
            | cons z s =>
              obtain ⟨h5, h6⟩ := lstG_least hl k hkl z s hlk
              have hze := h6 hk
              obtain ⟨h7, _⟩ := List.pairwise_cons.1 (hr _ (List.mem_of_getElem? hlk))
              have hez : lessE e z = true := by
                rcases lessE_total z e with h | h | h
                · rw [hze] at h; cases h
                · rw [h5] at h; cases h
                · exact h
              have hey : lessE e y = true := by
                rcases List.mem_cons.1 hy with rfl | hy
                · exact hez
                · exact lessE_trans hez (h7 y hy)
              rw [sameK_symm]; exact lessE_not_same hey
          rw [hf, List.mem_cons]
          constructor
          · rintro (rfl | h)
            · rfl
            · have := lessE_not_same (hall x h)
              rw [sameK_symm, hx] at this; cases this
          · intro h; cases h; exact .inl rfl

theorem each_all {ls : List (List En)} (h : mayL ls = true) : eachM ls = allM ls := by
  obtain ⟨h1, h2⟩ := each_spec _ ls (Nat.le_refl _) (mayL_spec h).1
  obtain ⟨h3, h4⟩ := all_spec h
  exact rise_ext h1 h3 fun x => by rw [h2, h4]

theorem merge_eq (ls : List (List En)) : mergeG ls = mergeM ls := by
  cases hm : mayL ls with
  | false => simp [mergeG, mergeM, hm]
  | true => simp [mergeG, mergeM, hm, each_all hm]

end Go.Proofs.Ytphpkigfmmanhaa
