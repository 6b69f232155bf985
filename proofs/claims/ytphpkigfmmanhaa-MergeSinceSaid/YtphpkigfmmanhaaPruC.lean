/-
  Layer 11, part PruC: Prune is the document's (plain).
-/
import Derived.Test.YtphpkigfmmanhaaPruB
namespace Go.Proofs.Ytphpkigfmmanhaa
open Sx Go
set_option maxRecDepth 100000
set_option linter.unusedSimpArgs false
set_option linter.unusedVariables false
set_option linter.unnecessarySimpa false

theorem minI_le : ∀ (ps : List Int) (p s : Int), decide (s ≤ minI p ps) = (decide (s ≤ p) && ps.all fun q => decide (s ≤ q))
  | [], p, s => by rw [List.all_nil, Bool.and_true]; rfl
  | q :: ps, p, s => by
    have h := minI_le ps (if q < p then q else p) s
    have e : minI p (q :: ps) = minI (if q < p then q else p) ps := rfl
    rw [e, h, List.all_cons, ← Bool.and_assoc]
    congr 1
    by_cases hq : q < p
    · rw [if_pos hq, Bool.eq_iff_iff]; simp only [Bool.and_eq_true, decide_eq_true_eq]; omega
    · rw [if_neg hq, Bool.eq_iff_iff]; simp only [Bool.and_eq_true, decide_eq_true_eq]; omega

theorem lastB_eq (pins : List Int) (bottom : Bool) (e : En) : lastB pins bottom e = (bottom && e.gone && pins.all fun p => decide (e.seq ≤ p)) := by
  unfold lastB
  cases pins with
  | nil => simp
  | cons p ps => simp only [List.all_cons, minI_le, Bool.and_assoc]

/-- what is behind the kept ones -/
def endK (x : En) : List En → Bool
  | [] => true
  | y :: _ => decide (y.key ≠ x.key)
def finG (pins : List Int) (bottom : Bool) : List En → List En
  | [] => []
  | x :: r => (if (lastB pins bottom x && endK x r) = true then [] else [x]) ++ finG pins bottom r

theorem pruF_fin (k : List En) (pins : List Int) (bottom : Bool) : ∀ (n i : Nat), i + n = k.length → (List.range' i n).filterMap (pruF k pins bottom) = finG pins bottom (k.drop i)
  | 0, i, h => by rw [List.drop_eq_nil_of_le (by omega)]; rfl
  | n + 1, i, h => by
    have hlt : i < k.length := by omega
    obtain ⟨x, hx, -, hdrop, -⟩ := getL hlt
    have ih := pruF_fin k pins bottom n (i + 1) (by omega)
    rw [List.range'_succ, hdrop, List.filterMap_cons, ih]
    have hlk : lastK k i x = endK x (k.drop (i + 1)) := by
      unfold lastK
      by_cases h1 : i + 1 < k.length
      · obtain ⟨y, hy, -, hd, -⟩ := getL h1
        rw [hy, hd]; rfl
      · rw [List.getElem?_eq_none (by omega), List.drop_eq_nil_of_le (by omega)]; rfl
    rw [finG, ← hlk]
    have hf : pruF k pins bottom i = if (lastB pins bottom x && lastK k i x) = true then none else some x := by
      simp only [pruF, hx, lastB_eq]
      congr 2
      cases bottom <;> cases x.gone <;> cases lastK k i x <;> simp
    rw [hf]
    by_cases hc : (lastB pins bottom x && lastK k i x) = true
    · rw [if_pos hc, if_pos hc]; rfl
    · rw [if_neg hc, if_neg hc]; rfl

theorem fin_eq (k : List En) (pins : List Int) (bottom : Bool) : (List.range k.length).filterMap (pruF k pins bottom) = finG pins bottom k := by
  rw [List.range_eq_range', pruF_fin k pins bottom k.length 0 (by simp)]; rfl

theorem fin_app (pins : List Int) (bottom : Bool) (key : Bs) (kr : List En) (hr : ∀ e ∈ kr, e.key ≠ key) : ∀ (kg : List En) (e : En), (∀ e ∈ kg, e.key = key) → kg.getLast? = some e →
    finG pins bottom (kg ++ kr) = (if lastB pins bottom e = true then kg.dropLast else kg) ++ finG pins bottom kr
  | [], e, _, h => by simp at h
  | [x], e, hk, h => by
    simp at h; subst h
    rw [List.singleton_append, finG]
    have : endK x kr = true := by
      cases kr with
      | nil => rfl
      | cons y s => simp [endK, hk x (by simp), hr y (by simp)]
    rw [this, Bool.and_true]; rfl
  | x :: y :: kg, e, hk, h => by
    have ih := fin_app pins bottom key kr hr (y :: kg) e (fun z hz => hk z (by simp [hz])) (by simpa using h)
    rw [List.cons_append, finG, ih]
    have h1 : y.key = x.key := by rw [hk y (by simp), hk x (by simp)]
    simp only [List.cons_append, endK, h1, ne_eq, not_true_eq_false, decide_false, Bool.and_false, Bool.false_eq_true, if_false, List.singleton_append]
    split <;> simp

theorem keyK_mem (g : List En) (k : Int) : ∀ (pins : List Int) (K : List Int), k ∈ pins.foldl (fun K p => addK K (asOfM g p)) K ↔ k ∈ K ∨ ∃ p ∈ pins, asOfM g p = k
  | [], K => by simp
  | p :: pins, K => by
    rw [List.foldl_cons, keyK_mem g k pins, addK_mem]
    simp only [List.mem_cons, exists_eq_or_imp, or_assoc, eq_comm (a := k)]

theorem first_run (n : Int) (key : Bs) (g rest : List En) (hg : ∀ e ∈ g, e.key = key) (hr : ∀ e ∈ rest, e.key ≠ key) : (g ++ rest).findIdx? (isFirst key n) = g.findIdx? (fun e => decide (e.seq ≤ n)) := by
  rw [List.findIdx?_append]
  have h1 : rest.findIdx? (isFirst key n) = none := by
    rw [List.findIdx?_eq_none_iff]
    intro e he; simp [isFirst, hr e he]
  have h2 : g.findIdx? (isFirst key n) = g.findIdx? (fun e => decide (e.seq ≤ n)) := by
    clear h1
    induction g with
    | nil => rfl
    | cons e g ih =>
      rw [List.findIdx?_cons, List.findIdx?_cons, ih fun e he => hg e (by simp [he])]
      simp [isFirst, hg e (by simp)]
  rw [h1, h2]; cases g.findIdx? (fun e => decide (e.seq ≤ n)) <;> rfl

theorem first_rest (n : Int) (key : Bs) (g rest : List En) (hg : ∀ e ∈ g, e.key = key) (k2 : Bs) (hk : k2 ≠ key) (j : Nat) : (firstI (g ++ rest) k2 n = ((g.length + j : Nat) : Int)) ↔ (firstI rest k2 n = (j : Int)) := by
  have h1 : g.findIdx? (isFirst k2 n) = none := by
    rw [List.findIdx?_eq_none_iff]
    intro y hy
    have : ¬ y.key = k2 := by rw [hg y hy]; exact fun h => hk h.symm
    simp [isFirst, this]
  rw [firstI, firstI, idxI_eq, idxI_eq, List.findIdx?_append, h1]
  cases rest.findIdx? (isFirst k2 n) with
  | none => simp
  | some k => simp; omega

theorem keep_run (pins : List Int) (key : Bs) (g rest : List En) (hg : ∀ e ∈ g, e.key = key) (hr : ∀ e ∈ rest, e.key ≠ key) (i : Nat) (hi : i < g.length) : keepF (g ++ rest) pins i = kepF g (keyK g pins) i := by
  obtain ⟨e, he, -, -, hmem⟩ := getL hi
  simp only [keepF, kepF, List.getElem?_append_left hi, he, hg e hmem]
  have hb : begK (g ++ rest) i e = decide (i = 0) := by
    cases i with
    | zero => rfl
    | succ i =>
      have hi' : i < g.length := by omega
      obtain ⟨q, hq, -, -, hq2⟩ := getL hi'
      simp [begK, prevE, List.getElem?_append_left hi', hq, hg q hq2, hg e hmem]
  have hp : pins.any (pinB (g ++ rest) i key) = decide (∃ p ∈ pins, asOfM g p = (i : Int)) := by
    rw [Bool.eq_iff_iff]
    simp only [List.any_eq_true, pinB, decide_eq_true_eq, firstI, first_run _ key g rest hg hr]
    exact Iff.rfl
  have hm : ((i : Nat) : Int) ∈ keyK g pins ↔ (i = 0 ∨ ∃ p ∈ pins, asOfM g p = (i : Int)) := by
    unfold keyK
    rw [keyK_mem]; simp
  rw [hb, hp]
  by_cases hh : ((i : Nat) : Int) ∈ keyK g pins
  · rw [if_pos hh, if_pos]
    simpa using hm.1 hh
  · rw [if_neg hh, if_neg]
    intro h; exact hh (hm.2 (by simpa using h))

theorem keep_rest (pins : List Int) (key : Bs) (g rest : List En) (hg : ∀ e ∈ g, e.key = key) (hgne : g ≠ []) (hr : ∀ e ∈ rest, e.key ≠ key) (j : Nat) : keepF (g ++ rest) pins (g.length + j) = keepF rest pins j := by
  simp only [keepF]
  rw [List.getElem?_append_right (by omega), Nat.add_sub_cancel_left]
  cases hj : rest[j]? with
  | none => rfl
  | some e =>
    have hmem : e ∈ rest := List.mem_of_getElem? hj
    have hb : begK (g ++ rest) (g.length + j) e = begK rest j e := by
      cases j with
      | zero =>
        obtain ⟨n, hn⟩ : ∃ n, g.length = n + 1 := ⟨g.length - 1, by have := List.length_pos_iff.2 hgne; omega⟩
        have hlt : n < g.length := by omega
        obtain ⟨q, hq, -, -, hq2⟩ := getL hlt
        have hne : ¬ q.key = e.key := by rw [hg q hq2]; exact fun h => hr e hmem h.symm
        have hp : prevE (g ++ rest) (g.length + 0) = some q := by simp only [prevE, hn, Nat.add_zero, List.getElem?_append_left hlt, hq]; simp [List.getElem?_append_left hlt, hq]
        unfold begK; rw [hp]; simp [hne, prevE]
      | succ j =>
        simp [begK, prevE, ← Nat.add_assoc, List.getElem?_append_right (show g.length ≤ g.length + j by omega)]
    have hp : pins.any (pinB (g ++ rest) (g.length + j) e.key) = pins.any (pinB rest j e.key) := by
      congr 1; funext p
      simp only [pinB]
      rw [Bool.eq_iff_iff, decide_eq_true_eq, decide_eq_true_eq]
      exact first_rest p key g rest hg e.key (hr e hmem) j
    simp only [hb, hp]

theorem kept_app (pins : List Int) (key : Bs) (g rest : List En) (hg : ∀ e ∈ g, e.key = key) (hgne : g ≠ []) (hr : ∀ e ∈ rest, e.key ≠ key) : keptM (g ++ rest) pins = kepG g pins ++ keptM rest pins := by
  rw [keptM, List.length_append, List.range_add, List.filterMap_append, List.filterMap_map]
  congr 1
  · exact fmap_congr fun i hi => keep_run pins key g rest hg hr i (List.mem_range.1 hi)
  · exact fmap_congr fun j _ => keep_rest pins key g rest hg hgne hr j

theorem kepG_mem {g : List En} {pins : List Int} {e : En} (h : e ∈ kepG g pins) : e ∈ g := by
  obtain ⟨i, _, hi⟩ := List.mem_filterMap.1 h
  unfold kepF at hi
  split at hi
  · rename_i x hx
    split at hi
    · cases hi; exact List.mem_of_getElem? hx
    · cases hi
  · cases hi
theorem keptM_mem {g : List En} {pins : List Int} {e : En} (h : e ∈ keptM g pins) : e ∈ g := by
  obtain ⟨i, _, hi⟩ := List.mem_filterMap.1 h
  unfold keepF at hi
  split at hi
  · rename_i x hx
    split at hi
    · cases hi; exact List.mem_of_getElem? hx
    · cases hi
  · cases hi
theorem kepG_ne {g : List En} (pins : List Int) (hg : g ≠ []) : kepG g pins ≠ [] := by
  cases g with
  | nil => exact absurd rfl hg
  | cons x r =>
    intro h
    unfold kepG at h
    rw [List.filterMap_eq_nil_iff] at h
    have := h 0 (by simp)
    have h0 : (0 : Int) ∈ keyK (x :: r) pins := keyK_zero _ pins [0] (by simp)
    simp [kepF, h0] at this

theorem pru_all (pins : List Int) (bottom : Bool) : ∀ (m : Nat) (l : List En), l.length ≤ m → RiseE l → finG pins bottom (keptM l pins) = grpGo (prG · pins bottom) l
  | m, [], _, _ => by rw [grpGo]; rfl
  | 0, x :: r, h, _ => by simp at h
  | m + 1, x :: r, h, hs => by
    have hrest := rise_run hs
    have hsplit : x :: r = (x :: r).take (runN x r) ++ (x :: r).drop (runN x r) := (List.take_append_drop _ _).symm
    have hgk : ∀ e ∈ (x :: r).take (runN x r), e.key = x.key := by
      rw [run_take]
      intro e he
      rcases List.mem_cons.1 he with rfl | he
      · rfl
      · simpa using mem_tw he
    have hrk : ∀ e ∈ (x :: r).drop (runN x r), e.key ≠ x.key := by rw [run_drop]; exact hrest
    have hne : (x :: r).take (runN x r) ≠ [] := by rw [run_take]; simp
    have hdl : ((x :: r).drop (runN x r)).length ≤ m := by
      have := runN_pos x r
      rw [List.length_drop]; omega
    have ih := pru_all pins bottom m _ hdl (hs.sublist (List.drop_sublist _ _))
    rw [grpGo, ← ih]
    generalize (x :: r).take (runN x r) = g at *
    generalize (x :: r).drop (runN x r) = rest at *
    rw [hsplit, kept_app pins x.key g rest hgk hne hrk]
    obtain ⟨e, he⟩ : ∃ e, (kepG g pins).getLast? = some e := by
      cases hl : (kepG g pins).getLast? with
      | none => rw [List.getLast?_eq_none_iff] at hl; exact absurd hl (kepG_ne pins hne)
      | some e => exact ⟨e, rfl⟩
    rw [fin_app pins bottom x.key _ (fun y hy => hrk y (keptM_mem hy)) _ e (fun y hy => hgk y (kepG_mem hy)) he]
    congr 1
    rw [prG, he]

theorem pru_eq (l : List En) (pins : List Int) (bottom : Bool) : prM l pins bottom = pruR l pins bottom := by
  cases hc : checkE l with
  | false => simp [prM, pruR, hc]
  | true =>
    have := (checkE_iff.1 hc).2.1
    rw [prM, if_pos hc, pruR, if_pos hc, fin_eq, pru_all pins bottom l.length l (Nat.le_refl _) this]

end Go.Proofs.Ytphpkigfmmanhaa
