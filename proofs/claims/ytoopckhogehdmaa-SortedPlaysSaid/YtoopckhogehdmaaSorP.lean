/-
  Layer 07, part P: lists of keys and values (plain).
-/
import Derived.Test.YtoopckhogehdmaaSorF
namespace Go.Proofs.Ytoopckhogehdmaa
open Sx Go
set_option maxRecDepth 100000
set_option linter.unusedSimpArgs false
set_option linter.unusedVariables false
set_option linter.unnecessarySimpa false

section
variable {α : Type}
def look (l : List (Bs × α)) (k : Bs) : Option α := (l.find? (fun x => decide (x.1 = k))).map (·.2)

theorem dw_ge {key : Bs} : ∀ {l : List (Bs × α)} (_ : RiseK l) (_ : Bs), ∀ x ∈ l.dropWhile (fun x => Op.bytesLess x.1 key), Op.bytesLess x.1 key = false := by
  intro l hr _
  induction l with
  | nil => intro x hx; simp at hx
  | cons y l ih =>
    obtain ⟨h1, h2⟩ := List.pairwise_cons.1 hr
    rw [List.dropWhile_cons]
    cases hy : Op.bytesLess y.1 key with
    | true => simpa using ih h2
    | false =>
      simp only [Bool.false_eq_true, if_false]
      intro x hx
      rcases List.mem_cons.1 hx with rfl | hx
      · exact hy
      · cases hs : Op.bytesLess x.1 key with
        | false => rfl
        | true => rw [bless_trans (h1 x hx) hs] at hy; cases hy

/-- a list cut where a key stands -/
theorem cutB {l : List (Bs × α)} (hr : RiseK l) (key : Bs) : ∃ A B, l = A ++ B ∧ A.length = lowB l key ∧ (∀ x ∈ A, Op.bytesLess x.1 key = true) ∧ (∀ x ∈ B, Op.bytesLess x.1 key = false) := by
  refine ⟨l.takeWhile (fun x => Op.bytesLess x.1 key), l.dropWhile (fun x => Op.bytesLess x.1 key), (List.takeWhile_append_dropWhile).symm, rfl, ?_, ?_⟩
  · intro x hx
    have : ∀ {l : List (Bs × α)}, x ∈ l.takeWhile (fun x => Op.bytesLess x.1 key) → Op.bytesLess x.1 key = true := by
      intro l
      induction l with
      | nil => intro h; simp at h
      | cons y l ih =>
        intro h
        rw [List.takeWhile_cons] at h
        split at h
        · rename_i hy
          rcases List.mem_cons.1 h with rfl | h
          · exact hy
          · exact ih h
        · simp at h
    exact this hx
  · exact dw_ge hr key

/-- the same, with what stands there -/
theorem cutC {l : List (Bs × α)} (hr : RiseK l) (key : Bs) : ∃ A C, A.length = lowB l key ∧ (∀ x ∈ A, Op.bytesLess x.1 key = true) ∧ (∀ x ∈ C, Op.bytesLess key x.1 = true) ∧ ((hitB l key = false ∧ l = A ++ C) ∨ ∃ v, hitB l key = true ∧ l = A ++ (key, v) :: C) := by
  obtain ⟨A, B, hl, hlen, hA, hB⟩ := cutB hr key
  have hge : l[lowB l key]? = B.head? := by rw [← hlen, hl]; cases B <;> simp
  have hrB : RiseK B := by rw [hl] at hr; exact hr.sublist (List.sublist_append_right _ _)
  have hgt : ∀ x ∈ B, x.1 = key ∨ Op.bytesLess key x.1 = true := by
    intro x hx
    rcases bless_total x.1 key with h | h | h
    · exact .inl h
    · rw [hB x hx] at h; cases h
    · exact .inr h
  cases B with
  | nil =>
    refine ⟨A, [], hlen, hA, by simp, .inl ⟨?_, hl⟩⟩
    rw [hitB, hge]; rfl
  | cons y C =>
    obtain ⟨h1, h2⟩ := List.pairwise_cons.1 hrB
    rcases hgt y (by simp) with hk | hk
    · refine ⟨A, C, hlen, hA, fun x hx => by rw [← hk]; exact h1 x hx, .inr ⟨y.2, ?_, ?_⟩⟩
      · rw [hitB, hge]; simp [hk]
      · rw [hl, ← hk]
    · refine ⟨A, y :: C, hlen, hA, ?_, .inl ⟨?_, hl⟩⟩
      · intro x hx
        rcases List.mem_cons.1 hx with rfl | hx
        · exact hk
        · exact bless_trans hk (h1 x hx)
      · rw [hitB, hge]
        have : ¬ y.1 = key := fun h => bless_ne hk h.symm
        simp [this]

theorem find_none {A : List (Bs × α)} {k : Bs} (h : ∀ x ∈ A, x.1 ≠ k) : A.find? (fun x => decide (x.1 = k)) = none := by
  rw [List.find?_eq_none]; intro x hx; simp [h x hx]

theorem putL_eq {l : List (Bs × α)} (key : Bs) (v : α) {A C : List (Bs × α)} (hlen : A.length = lowB l key) (hc : (hitB l key = false ∧ l = A ++ C) ∨ ∃ v, hitB l key = true ∧ l = A ++ (key, v) :: C) : putL l key v = A ++ (key, v) :: C := by
  rcases hc with ⟨hh, hl⟩ | ⟨w, hh, hl⟩
  · rw [putL, if_neg (by simp [hh]), ← hlen]
    rw [hl]; simp
  · rw [putL, if_pos hh, ← hlen]
    rw [hl]; simp
theorem dropL_eq {l : List (Bs × α)} (key : Bs) {A C : List (Bs × α)} (hlen : A.length = lowB l key) (hc : (hitB l key = false ∧ l = A ++ C) ∨ ∃ v, hitB l key = true ∧ l = A ++ (key, v) :: C) : dropL l key = A ++ C := by
  rcases hc with ⟨hh, hl⟩ | ⟨w, hh, hl⟩
  · rw [dropL, if_neg (by simp [hh])]; exact hl
  · rw [dropL, if_pos hh, ← hlen]
    rw [hl]; simp [List.drop_append]

theorem rise_mid {key : Bs} {A C : List (Bs × α)} (v : α) (hA : ∀ x ∈ A, Op.bytesLess x.1 key = true) (hC : ∀ x ∈ C, Op.bytesLess key x.1 = true) (hr : RiseK (A ++ C)) : RiseK (A ++ (key, v) :: C) := by
  obtain ⟨h1, h2, h3⟩ := List.pairwise_append.1 hr
  refine List.pairwise_append.2 ⟨h1, List.pairwise_cons.2 ⟨hC, h2⟩, fun a ha b hb => ?_⟩
  rcases List.mem_cons.1 hb with rfl | hb
  · exact hA a ha
  · exact h3 a ha b hb
theorem cut_rise {l : List (Bs × α)} (hr : RiseK l) {key : Bs} {A C : List (Bs × α)} (hc : (hitB l key = false ∧ l = A ++ C) ∨ ∃ v, hitB l key = true ∧ l = A ++ (key, v) :: C) : RiseK (A ++ C) := by
  rcases hc with ⟨-, hl⟩ | ⟨w, -, hl⟩
  · rw [hl] at hr; exact hr
  · rw [hl] at hr; exact hr.sublist (List.Sublist.append (List.Sublist.refl _) (List.sublist_cons_self _ _))
theorem putL_rise {l : List (Bs × α)} (hr : RiseK l) (key : Bs) (v : α) : RiseK (putL l key v) := by
  obtain ⟨A, C, hlen, hA, hC, hc⟩ := cutC hr key
  rw [putL_eq key v hlen hc]
  exact rise_mid v hA hC (cut_rise hr hc)
theorem dropL_rise {l : List (Bs × α)} (hr : RiseK l) (key : Bs) : RiseK (dropL l key) := by
  obtain ⟨A, C, hlen, hA, hC, hc⟩ := cutC hr key
  rw [dropL_eq key hlen hc]
  exact cut_rise hr hc
theorem putL_len (l : List (Bs × α)) (key : Bs) (v : α) : (putL l key v).length ≤ l.length + 1 := by
  have := lowB_le l key
  unfold putL; split
  · simp
  · simp; omega
theorem dropL_len (l : List (Bs × α)) (key : Bs) : (dropL l key).length ≤ l.length := by
  have := lowB_le l key
  unfold dropL; split
  · simp; omega
  · exact Nat.le_refl _

theorem look_mid (k key : Bs) (v : α) {A C : List (Bs × α)} (hA : ∀ x ∈ A, Op.bytesLess x.1 key = true) : look (A ++ (key, v) :: C) k = if k = key then some v else look (A ++ C) k := by
  unfold look
  rw [List.find?_append, List.find?_cons, List.find?_append]
  by_cases hk : k = key
  · subst hk
    rw [find_none fun x hx => bless_ne (hA x hx)]
    simp
  · rw [if_neg hk]
    simp [fun h => hk (Eq.symm h), show ¬ key = k from fun h => hk h.symm]
theorem look_none (k : Bs) {A C : List (Bs × α)} (hA : ∀ x ∈ A, Op.bytesLess x.1 k = true) (hC : ∀ x ∈ C, Op.bytesLess k x.1 = true) : look (A ++ C) k = none := by
  unfold look
  rw [List.find?_append, find_none fun x hx => bless_ne (hA x hx), find_none fun x hx => (bless_ne (hC x hx)).symm]; rfl
theorem look_put {l : List (Bs × α)} (hr : RiseK l) (key : Bs) (v : α) (k : Bs) : look (putL l key v) k = if k = key then some v else look l k := by
  obtain ⟨A, C, hlen, hA, hC, hc⟩ := cutC hr key
  rw [putL_eq key v hlen hc, look_mid k key v hA]
  by_cases hk : k = key
  · rw [if_pos hk, if_pos hk]
  · rw [if_neg hk, if_neg hk]
    rcases hc with ⟨-, hl⟩ | ⟨w, -, hl⟩
    · rw [hl]
    · rw [hl, look_mid k key w hA, if_neg hk]
theorem look_drop {l : List (Bs × α)} (hr : RiseK l) (key : Bs) (k : Bs) : look (dropL l key) k = if k = key then none else look l k := by
  obtain ⟨A, C, hlen, hA, hC, hc⟩ := cutC hr key
  rw [dropL_eq key hlen hc]
  by_cases hk : k = key
  · subst hk; rw [if_pos rfl]; exact look_none k hA hC
  · rw [if_neg hk]
    rcases hc with ⟨-, hl⟩ | ⟨w, -, hl⟩
    · rw [hl]
    · rw [hl, look_mid k key w hA, if_neg hk]
theorem hit_look {l : List (Bs × α)} (hr : RiseK l) (key : Bs) : hitB l key = (look l key).isSome := by
  obtain ⟨A, C, hlen, hA, hC, hc⟩ := cutC hr key
  rcases hc with ⟨hh, hl⟩ | ⟨w, hh, hl⟩
  · rw [hh, hl, look_none key hA hC]; rfl
  · rw [hh, hl, look_mid key key w hA, if_pos rfl]; rfl
theorem get_look (z : α) {l : List (Bs × α)} (hr : RiseK l) (key : Bs) : getB z l key = match look l key with | some v => (v, true) | none => (z, false) := by
  obtain ⟨A, C, hlen, hA, hC, hc⟩ := cutC hr key
  rcases hc with ⟨hh, hl⟩ | ⟨w, hh, hl⟩
  · rw [getB, if_neg (by simp [hh])]
    have : look l key = none := by rw [hl]; exact look_none key hA hC
    rw [this]
  · have h1 : look l key = some w := by rw [hl, look_mid key key w hA, if_pos rfl]
    have h2 : l[lowB l key]? = some (key, w) := by rw [← hlen, hl]; simp
    rw [getB, if_pos hh, h1, h2]
end

end Go.Proofs.Ytoopckhogehdmaa
