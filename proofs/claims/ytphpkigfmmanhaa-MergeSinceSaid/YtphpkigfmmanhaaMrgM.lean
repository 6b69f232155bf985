/-
  Layer 11, part M: Visible is the document's (plain).
-/
import Derived.Test.YtphpkigfmmanhaaMrgL
namespace Go.Proofs.Ytphpkigfmmanhaa
open Sx Go
set_option maxRecDepth 100000
set_option linter.unusedSimpArgs false
set_option linter.unusedVariables false
set_option linter.unnecessarySimpa false

/-- behind the first key's run no entry has that key -/
theorem rise_run {x : En} {r : List En} (h : RiseE (x :: r)) : ∀ y ∈ r.dropWhile (fun e => decide (e.key = x.key)), y.key ≠ x.key := by
  obtain ⟨h1, h2⟩ := List.pairwise_cons.1 h
  clear h
  induction r with
  | nil => intro y hy; simp at hy
  | cons z r ih =>
    obtain ⟨h3, h4⟩ := List.pairwise_cons.1 h2
    rw [List.dropWhile_cons]
    by_cases hk : z.key = x.key
    · simp only [hk, decide_true, if_true]
      exact ih (fun y hy => h1 y (by simp [hy])) h4
    · simp only [hk, decide_false, Bool.false_eq_true, if_false]
      have hxz := h1 z (by simp)
      unfold lessE at hxz
      rw [if_neg (fun h => hk h.symm)] at hxz
      intro y hy he
      rcases List.mem_cons.1 hy with rfl | hy
      · exact hk he
      · have hzy := h3 y hy
        unfold lessE at hzy
        have hne : ¬ z.key = y.key := fun h => hk (by rw [h, he])
        rw [if_neg hne, he] at hzy
        exact bless_ne (bless_trans hxz hzy) rfl

theorem fmap_congr {α β : Type} {f g : α → Option β} : ∀ {l : List α}, (∀ x ∈ l, f x = g x) → l.filterMap f = l.filterMap g
  | [], _ => rfl
  | x :: l, h => by rw [List.filterMap_cons, List.filterMap_cons, h x (by simp), fmap_congr fun y hy => h y (by simp [hy])]
theorem mem_tw {α : Type} {p : α → Bool} : ∀ {l : List α} {x : α}, x ∈ l.takeWhile p → p x = true
  | y :: l, x, h => by
    rw [List.takeWhile_cons] at h
    split at h
    · rename_i hp
      rcases List.mem_cons.1 h with rfl | h
      · exact hp
      · exact mem_tw h
    · simp at h

theorem idxI_eq (o : Option Nat) (i : Nat) : (idxI o = (i : Int)) ↔ o = some i := by
  cases o with
  | none => simp [idxI]; try omega
  | some j => simp [idxI]; try omega

theorem range_some {β : Type} (m : Nat) (o : Option Nat) (F : Nat → Option β) (h : ∀ i, o = some i → i < m) :
    (List.range m).filterMap (fun i => if o = some i then F i else none) = (o.bind F).toList := by
  induction m with
  | zero =>
    cases o with
    | none => rfl
    | some i => exact absurd (h i rfl) (by omega)
  | succ m ih =>
    rw [fmap_succ]
    by_cases hm : o = some m
    · subst hm
      have : (List.range m).filterMap (fun i => if some m = some i then F i else none) = [] := by
        rw [List.filterMap_eq_nil_iff]
        intro i hi
        have : i < m := List.mem_range.1 hi
        rw [if_neg (fun e => by cases e; omega)]
      rw [this]; simp
    · rw [if_neg hm, ih (fun i hi => by
        have := h i hi
        have : i ≠ m := fun e => hm (by rw [hi, e])
        omega)]
      simp

theorem visF_eq (l : List En) (n : Int) (i : Nat) : visF l n i = match l[i]? with
    | some e => if l.findIdx? (isFirst e.key n) = some i then (if e.gone = true then none else some (e.key, e.val)) else none
    | none => none := by
  unfold visF
  cases l[i]? with
  | none => rfl
  | some e =>
    simp only [firstI, idxI_eq]
    by_cases h : l.findIdx? (isFirst e.key n) = some i
    · cases e.gone <;> simp [h]
    · simp [h]

theorem vis_run (n : Int) (key : Bs) (g rest : List En) (hg : ∀ e ∈ g, e.key = key) (hr : ∀ e ∈ rest, e.key ≠ key) : (List.range g.length).filterMap (visF (g ++ rest) n) = visG g n := by
  have hfi : (g ++ rest).findIdx? (isFirst key n) = g.findIdx? (fun e => decide (e.seq ≤ n)) := by
    rw [List.findIdx?_append]
    have h1 : rest.findIdx? (isFirst key n) = none := by
      rw [List.findIdx?_eq_none_iff]
      intro e he; simp [isFirst, hr e he]
    have h2 : g.findIdx? (isFirst key n) = g.findIdx? (fun e => decide (e.seq ≤ n)) := by
      clear h1
      induction g with
      | nil => rfl
      | cons e g ih =>
        rw [List.findIdx?_cons, List.findIdx?_cons, ih fun e he => hg e (by simp [he])]
        simp [isFirst, hg e (by simp)]
    rw [h1, h2]; cases g.findIdx? (fun e => decide (e.seq ≤ n)) <;> rfl
  obtain ⟨f1, f2⟩ := findIdx_find (fun e : En => decide (e.seq ≤ n)) g
  have heq : (List.range g.length).filterMap (visF (g ++ rest) n) = (List.range g.length).filterMap (fun i => if g.findIdx? (fun e => decide (e.seq ≤ n)) = some i then (match g[i]? with | some e => (if e.gone = true then none else some (e.key, e.val)) | none => none) else none) := by
    refine fmap_congr fun i hi => ?_
    have hlt : i < g.length := List.mem_range.1 hi
    obtain ⟨e, he, -, -, hmem⟩ := getL hlt
    rw [visF_eq, List.getElem?_append_left hlt, he]
    simp only [hg e hmem, hfi]
  rw [heq, range_some _ _ _ fun i hi => (f1 i hi).1]
  cases hf : g.findIdx? (fun e => decide (e.seq ≤ n)) with
  | none => rw [visG, f2 hf]; rfl
  | some i =>
    obtain ⟨hlt, hfi'⟩ := f1 i hf
    rw [visG, hfi']
    obtain ⟨e, he, hei, -, -⟩ := getL hlt
    rw [hei]
    simp only [Option.bind_some, he]
    cases e.gone <;> rfl

theorem vis_rest (n : Int) (key : Bs) (g rest : List En) (hg : ∀ e ∈ g, e.key = key) (hr : ∀ e ∈ rest, e.key ≠ key) (j : Nat) : visF (g ++ rest) n (g.length + j) = visF rest n j := by
  rw [visF_eq, visF_eq, List.getElem?_append_right (by omega), Nat.add_sub_cancel_left]
  cases hj : rest[j]? with
  | none => rfl
  | some e =>
    have hmem : e ∈ rest := List.mem_of_getElem? hj
    have h1 : g.findIdx? (isFirst e.key n) = none := by
      rw [List.findIdx?_eq_none_iff]
      intro y hy
      have : ¬ y.key = e.key := by rw [hg y hy]; exact fun h => hr e hmem h.symm
      simp [isFirst, this]
    have h2 : ((g ++ rest).findIdx? (isFirst e.key n) = some (g.length + j)) ↔ (rest.findIdx? (isFirst e.key n) = some j) := by
      rw [List.findIdx?_append, h1]
      cases rest.findIdx? (isFirst e.key n) with
      | none => simp
      | some k => simp; omega
    simp only [h2]

theorem vis_all (n : Int) : ∀ (m : Nat) (l : List En), l.length ≤ m → RiseE l → (List.range l.length).filterMap (visF l n) = grpGo (visG · n) l
  | m, [], _, _ => by rw [grpGo]; rfl
  | 0, x :: r, h, _ => by simp at h
  | m + 1, x :: r, h, hs => by
    have hrest := rise_run hs
    have hsplit : x :: r = (x :: r).take (runN x r) ++ (x :: r).drop (runN x r) := (List.take_append_drop _ _).symm
    have hgk : ∀ e ∈ (x :: r).take (runN x r), e.key = x.key := by
      rw [run_take]
      intro e he
      rcases List.mem_cons.1 he with rfl | he
      · rfl
      · simpa using mem_tw he
    have hrk : ∀ e ∈ (x :: r).drop (runN x r), e.key ≠ x.key := by rw [run_drop]; exact hrest
    have hdl : ((x :: r).drop (runN x r)).length ≤ m := by
      have := runN_pos x r
      rw [List.length_drop]; omega
    have ih := vis_all n m _ hdl (hs.sublist (List.drop_sublist _ _))
    rw [grpGo, ← ih]
    generalize (x :: r).take (runN x r) = g at *
    generalize (x :: r).drop (runN x r) = rest at *
    rw [hsplit, List.length_append, List.range_add, List.filterMap_append, vis_run n x.key g rest hgk hrk, List.filterMap_map]
    congr 1
    exact fmap_congr fun j _ => vis_rest n x.key g rest hgk hrk j

theorem vis_eq (l : List En) (n : Int) : visM l n = visR l n := by
  cases hc : checkE l with
  | false => simp [visM, visR, hc]
  | true =>
    have := (checkE_iff.1 hc).2.1
    rw [visM, if_pos hc, visR, if_pos hc, vis_all n l.length l (Nat.le_refl _) this]

end Go.Proofs.Ytphpkigfmmanhaa
