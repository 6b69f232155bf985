/-
  Layer 11, part LawE: what must be seen is kept (plain).
-/
import Derived.Test.YtphpkigfmmanhaaLawD
namespace Go.Proofs.Ytphpkigfmmanhaa
open Sx Go
set_option maxRecDepth 100000
set_option linter.unusedSimpArgs false
set_option linter.unusedVariables false
set_option linter.unnecessarySimpa false

theorem tw_app {p : En → Bool} {A B : List En} (hA : ∀ e ∈ A, p e = true) (hB : ∀ e ∈ B, p e = false) : (A ++ B).takeWhile p = A ∧ (A ++ B).dropWhile p = B := by
  induction A with
  | nil =>
    cases B with
    | nil => exact ⟨rfl, rfl⟩
    | cons b B => simp [List.takeWhile_cons, List.dropWhile_cons, hB b (by simp)]
  | cons a A ih =>
    obtain ⟨h1, h2⟩ := ih fun e he => hA e (by simp [he])
    simp [List.takeWhile_cons, List.dropWhile_cons, hA a (by simp), h1, h2]

theorem grp_app {β : Type} (f : List En → List β) (key : Bs) {A B : List En} (hne : A ≠ []) (hA : ∀ e ∈ A, e.key = key) (hB : ∀ e ∈ B, e.key ≠ key) : grpGo f (A ++ B) = f A ++ grpGo f B := by
  cases A with
  | nil => exact absurd rfl hne
  | cons x r =>
    have hx := hA x (by simp)
    obtain ⟨h1, h2⟩ := tw_app (p := fun e : En => decide (e.key = x.key)) (A := r) (B := B) (fun e he => by simp [hA e (by simp [he]), hx]) (fun e he => by simp [hx, hB e he])
    rw [List.cons_append, grpGo, run_take, run_drop, h1, h2]

/-- by groups -/
theorem grp_ind {Q : List En → Prop} (h0 : Q []) (hs : ∀ (key : Bs) (g rest : List En), g ≠ [] → (∀ e ∈ g, e.key = key) → (∀ e ∈ rest, e.key ≠ key ∧ Op.bytesLess key e.key = true) → RiseE (g ++ rest) → Q rest → Q (g ++ rest)) : ∀ (m : Nat) (l : List En), l.length ≤ m → RiseE l → Q l
  | m, [], _, _ => h0
  | 0, x :: r, h, _ => by simp at h
  | m + 1, x :: r, h, hr => by
    have hrest := rise_run hr
    have hsplit : x :: r = (x :: r).take (runN x r) ++ (x :: r).drop (runN x r) := (List.take_append_drop _ _).symm
    have hgk : ∀ e ∈ (x :: r).take (runN x r), e.key = x.key := by
      rw [run_take]
      intro e he
      rcases List.mem_cons.1 he with rfl | he
      · rfl
      · simpa using mem_tw he
    have hrk : ∀ e ∈ (x :: r).drop (runN x r), e.key ≠ x.key ∧ Op.bytesLess x.key e.key = true := by
      rw [run_drop]
      intro e he
      refine ⟨hrest e he, ?_⟩
      have h1 := (List.pairwise_cons.1 hr).1 e ((List.dropWhile_suffix _).subset he)
      unfold lessE at h1
      rw [if_neg (fun h => hrest e he h.symm)] at h1
      exact h1
    have hne : (x :: r).take (runN x r) ≠ [] := by rw [run_take]; simp
    have hdl : ((x :: r).drop (runN x r)).length ≤ m := by
      have := runN_pos x r
      rw [List.length_drop]; omega
    have ih := grp_ind h0 hs m _ hdl (hr.sublist (List.drop_sublist _ _))
    generalize (x :: r).take (runN x r) = g at *
    generalize (x :: r).drop (runN x r) = rest at *
    rw [hsplit] at hr ⊢
    exact hs x.key g rest hne hgk hrk hr ih

theorem grp_sub (h : List En → List En) (hs : ∀ g, (h g).Sublist g) {l : List En} (hl : RiseE l) : (grpGo h l).Sublist l := by
  refine grp_ind (Q := fun l => (grpGo h l).Sublist l) (by rw [grpGo]; exact List.Sublist.refl _) ?_ l.length l (Nat.le_refl _) hl
  intro key g rest hne hg hr _ ih
  rw [grp_app h key hne hg fun e he => (hr e he).1]
  exact (hs g).append ih

theorem grp_comp {β : Type} (f : List En → List β) (h : List En → List En) (hf : f [] = []) (hs : ∀ g, (h g).Sublist g) {l : List En} (hl : RiseE l) : grpGo f (grpGo h l) = grpGo (fun g => f (h g)) l := by
  refine grp_ind (Q := fun l => grpGo f (grpGo h l) = grpGo (fun g => f (h g)) l) (by simp [grpGo]) ?_ l.length l (Nat.le_refl _) hl
  intro key g rest hne hg hr hrise ih
  have hsub : (grpGo h rest).Sublist rest := grp_sub h hs (hrise.sublist (List.sublist_append_right _ _))
  rw [grp_app h key hne hg fun e he => (hr e he).1, grp_app (fun g => f (h g)) key hne hg fun e he => (hr e he).1, ← ih]
  by_cases hhe : h g = []
  · rw [hhe, hf]; rfl
  · exact grp_app f key hhe (fun e he => hg e ((hs g).subset he)) fun e he => (hr e (hsub.subset he)).1

theorem grp_congr {β : Type} (f f' : List En → List β) {l : List En} (hl : RiseE l) (hm : ∀ y ∈ l, mayE y = true) (h : ∀ g, g ≠ [] → (∀ y ∈ g, mayE y = true) → f g = f' g) : grpGo f l = grpGo f' l := by
  refine grp_ind (Q := fun l => (∀ y ∈ l, mayE y = true) → grpGo f l = grpGo f' l) (fun _ => by simp [grpGo]) ?_ l.length l (Nat.le_refl _) hl hm
  intro key g rest hne hg hr _ ih hm
  rw [grp_app f key hne hg fun e he => (hr e he).1, grp_app f' key hne hg fun e he => (hr e he).1, ih fun y hy => hm y (by simp [hy]), h g hne fun y hy => hm y (by simp [hy])]

/-! ### what is kept of a key's entries -/

def kpGo (K : List Int) : Nat → List En → List En
  | _, [] => []
  | i, x :: r => (if ((i : Nat) : Int) ∈ K then [x] else []) ++ kpGo K (i + 1) r
theorem kep_go (g : List En) (K : List Int) : ∀ (n i : Nat), i + n = g.length → (List.range' i n).filterMap (kepF g K) = kpGo K i (g.drop i)
  | 0, i, h => by rw [List.drop_eq_nil_of_le (by omega)]; rfl
  | n + 1, i, h => by
    have hlt : i < g.length := by omega
    obtain ⟨x, hx, -, hdrop, -⟩ := getL hlt
    have ih := kep_go g K n (i + 1) (by omega)
    rw [List.range'_succ, hdrop, List.filterMap_cons, ih, kpGo]
    have : kepF g K i = if ((i : Nat) : Int) ∈ K then some x else none := by simp only [kepF, hx]
    rw [this]
    split <;> rename_i h2
    · split at h2
      · cases h2
      · rename_i h3; rw [if_neg h3]; rfl
    · split at h2
      · rename_i h3; cases h2; rw [if_pos h3]; rfl
      · cases h2
theorem kepG_go (g : List En) (pins : List Int) : kepG g pins = kpGo (keyK g pins) 0 g := by
  rw [kepG, List.range_eq_range', kep_go g _ g.length 0 (by simp)]; rfl
theorem kp_sub (K : List Int) : ∀ (i : Nat) (r : List En), (kpGo K i r).Sublist r
  | _, [] => List.Sublist.refl _
  | i, x :: r => by
    rw [kpGo]
    split
    · exact (kp_sub K (i + 1) r).cons_cons x
    · exact (kp_sub K (i + 1) r).cons x
theorem kp_find (K : List Int) (p : En → Bool) : ∀ (r : List En) (i : Nat), (∀ j, r.findIdx? p = some j → ((i + j : Nat) : Int) ∈ K) → (kpGo K i r).find? p = r.find? p
  | [], _, _ => rfl
  | x :: r, i, h => by
    rw [kpGo, List.find?_append, List.find?_cons]
    cases hp : p x with
    | true =>
      have := h 0 (by simp [List.findIdx?_cons, hp])
      rw [if_pos (by simpa using this)]; simp [hp]
    | false =>
      have ih := kp_find K p r (i + 1) fun j hj => by
        have := h (j + 1) (by simp [List.findIdx?_cons, hp, hj])
        rwa [show i + 1 + j = i + (j + 1) by omega]
      rw [ih]
      split <;> simp [hp]

theorem visG_drop {k : List En} {e : En} (n : Int) (h : k.getLast? = some e) (hg : e.gone = true) : visG k.dropLast n = visG k n := by
  have hk : k = k.dropLast ++ [e] := by
    have hne : k ≠ [] := by rintro rfl; simp at h
    rw [List.getLast?_eq_some_getLast hne] at h
    cases h
    exact (List.dropLast_concat_getLast hne).symm
  generalize k.dropLast = d at *
  subst hk
  unfold visG
  rw [List.find?_append]
  cases hd : d.find? (fun e => decide (e.seq ≤ n)) with
  | some x => rfl
  | none =>
    cases he : decide (e.seq ≤ n) with
    | true => simp [List.find?_cons, he, hg]
    | false => simp [List.find?_cons, he]

theorem prG_cases (g : List En) (pins : List Int) (bottom : Bool) (hne : g ≠ []) : ∃ e, (kepG g pins).getLast? = some e ∧ (prG g pins bottom = kepG g pins ∨ (prG g pins bottom = (kepG g pins).dropLast ∧ lastB pins bottom e = true)) := by
  cases hl : (kepG g pins).getLast? with
  | none => rw [List.getLast?_eq_none_iff] at hl; exact absurd hl (kepG_ne pins hne)
  | some e =>
    refine ⟨e, rfl, ?_⟩
    rw [prG, hl]
    simp only []
    by_cases hb : lastB pins bottom e = true
    · rw [if_pos hb]; exact .inr ⟨rfl, hb⟩
    · rw [if_neg hb]; exact .inl rfl
theorem prG_nil (pins : List Int) (bottom : Bool) : prG [] pins bottom = [] := by simp [prG, kepG]
theorem prG_sub (pins : List Int) (bottom : Bool) (g : List En) : (prG g pins bottom).Sublist g := by
  cases g with
  | nil => rw [prG_nil]; exact List.Sublist.refl _
  | cons x r =>
    have h1 : (kepG (x :: r) pins).Sublist (x :: r) := by rw [kepG_go]; exact kp_sub _ _ _
    obtain ⟨e, -, h | ⟨h, -⟩⟩ := prG_cases (x :: r) pins bottom (by simp)
    · rw [h]; exact h1
    · rw [h]; exact (List.dropLast_sublist _).trans h1

theorem visG_pr (g : List En) (pins : List Int) (bottom : Bool) (n : Int) (hne : g ≠ []) (hm : ∀ y ∈ g, mayE y = true) (hn : n ∈ pins ∨ 1099511627776 ≤ n) : visG (prG g pins bottom) n = visG g n := by
  have h1 : visG (kepG g pins) n = visG g n := by
    unfold visG
    rw [kepG_go, kp_find]
    intro j hj
    rw [Nat.zero_add]
    unfold keyK
    rw [keyK_mem]
    rcases hn with hn | hn
    · exact .inr ⟨n, hn, by rw [asOfM, hj]; rfl⟩
    · left
      cases g with
      | nil => exact absurd rfl hne
      | cons x r =>
        have hx := (mayE_spec (hm x (by simp))).2.2.2.2.2
        have : decide (x.seq ≤ n) = true := by rw [decide_eq_true_eq]; omega
        rw [List.findIdx?_cons, this, if_pos rfl] at hj
        cases hj; simp
  obtain ⟨e, he, h | ⟨h, hb⟩⟩ := prG_cases g pins bottom hne
  · rw [h, h1]
  · have hg : e.gone = true := by
      rw [lastB_eq] at hb
      simp only [Bool.and_eq_true] at hb
      exact hb.1.2
    rw [h, visG_drop n he hg, h1]

theorem sinGl_pr (g : List En) (pins : List Int) (bottom : Bool) (n : Int) (hne : g ≠ []) (hm : ∀ y ∈ g, mayE y = true) (hn : n ∈ pins ∨ 1099511627776 ≤ n) : sinGl (prG g pins bottom) n = sinGl g n := by
  cases g with
  | nil => exact absurd rfl hne
  | cons x r =>
    have hx := (mayE_spec (hm x (by simp))).2.2.2.2.2
    have hk : ∃ s, kepG (x :: r) pins = x :: s := by
      have h0 : ((0 : Nat) : Int) ∈ keyK (x :: r) pins := keyK_zero _ pins [0] (by simp)
      rw [kepG_go, kpGo, if_pos h0]; exact ⟨_, rfl⟩
    obtain ⟨s, hs⟩ := hk
    obtain ⟨e, he, h | ⟨h, hb⟩⟩ := prG_cases (x :: r) pins bottom (by simp)
    · rw [h, hs]; rfl
    · rw [h, hs]
      cases s with
      | cons y s => rfl
      | nil =>
        rw [hs] at he
        simp at he; subst he
        show [] = sinG x n
        have : ¬ n < x.seq := by
          rcases hn with hn | hn
          · rw [lastB_eq] at hb
            simp only [Bool.and_eq_true] at hb
            have := List.all_eq_true.1 hb.2 n hn
            simp only [decide_eq_true_eq] at this
            omega
          · omega
        simp [sinG, this]

/-! ### together -/

theorem pr_check {m : List En} (hc : checkE m = true) (pins : List Int) (bottom : Bool) : checkE (prM m pins bottom) = true ∧ (prM m pins bottom).length ≤ m.length := by
  obtain ⟨h1, h2, h3⟩ := checkE_iff.1 hc
  rw [prM, if_pos hc]
  have hs := grp_sub (prG · pins bottom) (prG_sub pins bottom) h2
  have hl := hs.length_le
  exact ⟨checkE_iff.2 ⟨by omega, h2.sublist hs, fun y hy => h3 y (hs.subset hy)⟩, hl⟩
theorem vis_pr {m : List En} (hc : checkE m = true) (pins : List Int) (bottom : Bool) (n : Int) (hn : n ∈ pins ∨ 1099511627776 ≤ n) : visM (prM m pins bottom) n = visM m n := by
  obtain ⟨h1, h2, h3⟩ := checkE_iff.1 hc
  have hp := (pr_check hc pins bottom).1
  rw [visM, if_pos hp, visM, if_pos hc, prM, if_pos hc, grp_comp (visG · n) (prG · pins bottom) rfl (prG_sub pins bottom) h2]
  exact grp_congr _ _ h2 h3 fun g hg hm => visG_pr g pins bottom n hg hm hn
theorem sin_pr {m : List En} (hc : checkE m = true) (pins : List Int) (bottom : Bool) (n : Int) (hn : n ∈ pins ∨ 1099511627776 ≤ n) : sinM (prM m pins bottom) n = sinM m n := by
  obtain ⟨h1, h2, h3⟩ := checkE_iff.1 hc
  have hp := (pr_check hc pins bottom).1
  rw [sinM, if_pos hp, sinM, if_pos hc, prM, if_pos hc, grp_comp (sinGl · n) (prG · pins bottom) rfl (prG_sub pins bottom) h2]
  exact grp_congr _ _ h2 h3 fun g hg hm => sinGl_pr g pins bottom n hg hm hn
theorem minI_mem : ∀ (ps : List Int) (p : Int), minI p ps = p ∨ minI p ps ∈ ps
  | [], p => .inl rfl
  | q :: ps, p => by
    have e : minI p (q :: ps) = minI (if q < p then q else p) ps := rfl
    rw [e]
    rcases minI_mem ps (if q < p then q else p) with h | h
    · rw [h]; split
      · exact .inr (by simp)
      · exact .inl rfl
    · exact .inr (by simp [h])

end Go.Proofs.Ytphpkigfmmanhaa
