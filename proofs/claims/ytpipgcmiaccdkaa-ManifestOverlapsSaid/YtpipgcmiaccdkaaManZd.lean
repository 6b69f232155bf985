/-
  Layer 12, part Zd: a table in another one's place; what overlaps: plain.
-/
import Derived.Test.YtpipgcmiaccdkaaManZc
namespace Go.Proofs.Ytpipgcmiaccdkaa
open Sx Go
set_option maxRecDepth 100000
set_option linter.unusedSimpArgs false
set_option linter.unusedVariables false
set_option linter.unnecessarySimpa false

theorem and255 (n : Int) : ∃ k : Nat, iAnd .i64 n 255 = (k : Int) ∧ k < 256 := by
  have h : ((BitVec.ofInt 64 n &&& BitVec.ofInt 64 255).toNat) ≤ 255 := by
    rw [BitVec.toNat_and]
    exact Nat.le_trans Nat.and_le_right (by decide)
  refine ⟨_, ?_, Nat.lt_of_le_of_lt h (by decide)⟩
  rw [iAnd64, wrap_small (by omega) (by omega)]

def GoodL (s : St) : Prop := GoodS s ∧ 0 ≤ s.log ∧ s.log ≤ 1073741824
theorem goodL_z0 : GoodL z0 := ⟨goodS_z0, by simp [z0], by simp [z0]⟩
theorem applyR_goodL {s : St} {e : Ed} (hg : GoodL s) (h : (applyR s e).2 = 0) : GoodL (applyR s e).1 := by
  refine ⟨(applyR_goodS hg.1 h).1, ?_⟩
  obtain ⟨hm, ho, he⟩ := applyR_ok h
  rw [he]
  exact (mayE_spec hm).2.2.2.2.1

/-- the edit that puts a table in another one's place -/
def mvN (s : St) (t : Tb) (lv : Int) : Tb := ⟨s.next, lv, t.lo, t.hi⟩
def mvE (s : St) (t : Tb) (lv : Int) : Ed := ⟨[mvN s t lv], [t.id], s.log, s.next + 1⟩
theorem mv_may {s : St} (hg : GoodL s) (h1 : 1 ≤ s.next) (h2 : s.next ≤ 536870912) {t : Tb} (ht : t ∈ s.tabs) {lv : Int} (hl : 0 ≤ lv ∧ lv < 3) : mayE (mvE s t lv) = true := by
  have hb := hg.1.1.2.2 t ht
  have hlo := lo_le_hi hb
  obtain ⟨b1, b2, b3, b4, b5⟩ := tabB_spec hb
  have k3 : keyB t.lo = true := by simp [keyB, b3.1, b3.2]
  have k4 : keyB t.hi = true := by simp [keyB, b4.1, b4.2]
  have n1 : numB s.next = true := by simp [numB]; omega
  have n2 : numB t.id = true := by simp [numB]; omega
  have c1 : ¬ lv < 0 := by omega
  have c2 : ¬ 3 ≤ lv := by omega
  have ht : tabB (mvN s t lv) = true := by simp [tabB, mvN, n1, k3, k4, hlo, c1, c2]
  have e1 := hg.2.1
  have e2 := hg.2.2
  have d1 : ¬ s.log < 0 := by omega
  have d2 : ¬ 1073741824 < s.log := by omega
  have d3 : ¬ s.next + 1 < 0 := by omega
  have d4 : ¬ 1073741824 < s.next + 1 := by omega
  simp [mayE, mvE, ht, n2, d1, d2, d3, d4]
theorem mv_fits {s : St} (hg : GoodL s) {t : Tb} (ht : t ∈ s.tabs) (lv : Int) : okA s (mvE s t lv) ↔ ApartP (built s (mvE s t lv)) := by
  unfold okA
  refine ⟨fun h => h.2.2.2.2, fun h => ⟨by simp [mvE], by simp [mvE]; omega, ⟨?_, ?_⟩, ⟨?_, ?_⟩, h⟩⟩
  · intro d hd
    simp only [mvE, List.mem_singleton] at hd
    rw [hd, hasId_mem]
    exact List.mem_map.2 ⟨t, ht, rfl⟩
  · simp [mvE]
  · intro x hx
    simp only [mvE, List.mem_singleton] at hx
    rw [hx]
    refine ⟨?_, by simp [mvN, mvE]; omega⟩
    cases hh : hasId s.tabs (mvN s t lv).id with
    | false => rfl
    | true =>
      rw [hasId_mem] at hh
      obtain ⟨u, hu, he⟩ := List.mem_map.1 hh
      have := hg.1.2.1 u hu
      simp only [mvN] at he
      omega
  · simp [mvE]
theorem mv_kept {s : St} {t : Tb} (lv : Int) : kept s (mvE s t lv) = s.tabs.filter (fun u => !decide (u.id = t.id)) := by
  simp [kept, mvE]
/-- it fits, or what is there already overlaps -/
theorem mv_bad {s : St} (hg : GoodL s) {t : Tb} (ht : t ∈ s.tabs) {lv : Int} (hl : 0 ≤ lv) (h : ¬ okA s (mvE s t lv)) : 0 < lv ∧ 0 < (ovl s.tabs lv t.lo t.hi).length := by
  rw [mv_fits hg ht, ← apart_perm (built_perm s (mvE s t lv)).symm, mv_kept] at h
  have hk : ApartP (s.tabs.filter (fun u => !decide (u.id = t.id))) := hg.1.2.2.sublist List.filter_sublist
  have : ∃ u ∈ s.tabs, clash (mvN s t lv) u = true := by
    apply Classical.byContradiction
    intro hn
    apply h
    refine List.pairwise_append.2 ⟨hk, List.pairwise_singleton _ _, fun u hu x hx => ?_⟩
    simp only [mvE, List.mem_singleton] at hx
    rw [hx]
    cases hc : clash (mvN s t lv) u with
    | false => rfl
    | true => exact absurd ⟨u, (List.mem_filter.1 hu).1, hc⟩ hn
  obtain ⟨u, hu, hc⟩ := this
  simp only [clash, mvN, Bool.and_eq_true, decide_eq_true_eq, Bool.not_eq_true'] at hc
  obtain ⟨⟨⟨c1, c2⟩, c3⟩, c4⟩ := hc
  have c1 := of_decide_eq_true c1
  have c2 := of_decide_eq_true c2
  refine ⟨c1, ?_⟩
  have : u ∈ ovl s.tabs lv t.lo t.hi := List.mem_filter.2 ⟨hu, by simp [ovB, c2, c3, c4]⟩
  exact List.length_pos_of_mem this

theorem filter_one : ∀ {l : List Tb}, (l.map (·.id)).Nodup → ∀ {t}, t ∈ l → (l.filter (fun u => !decide (u.id = t.id))).length + 1 = l.length
  | [], _, t, h => by simp at h
  | x :: l, hn, t, h => by
    rw [List.map_cons, List.nodup_cons] at hn
    rcases List.mem_cons.1 h with h | h
    · subst h
      have : l.filter (fun u => !decide (u.id = t.id)) = l := List.filter_eq_self.2 fun u hu => by
        have : u.id ≠ t.id := fun e => hn.1 (List.mem_map.2 ⟨u, hu, e⟩)
        simp [this]
      simp [this]
    · have hx : x.id ≠ t.id := fun e => hn.1 (List.mem_map.2 ⟨t, h, e.symm⟩)
      have ih := filter_one hn.2 h
      simp [hx]
      omega
theorem mv_len {s : St} (hg : GoodL s) {t : Tb} (ht : t ∈ s.tabs) (lv : Int) : (built s (mvE s t lv)).length = s.tabs.length := by
  rw [(built_perm s (mvE s t lv)).length_eq, List.length_append, mv_kept]
  simp only [mvE, List.length_cons, List.length_nil]
  exact filter_one hg.1.1.2.1 ht
/-- each that is there then is the new one, or was there, and is not the one that went -/
theorem mv_in {s : St} {k : Nat} {t : Tb} (hk : s.tabs[k]? = some t) (lv : Int) {x : Tb} (hx : x ∈ built s (mvE s t lv)) : x = mvN s t lv ∨ ∃ j, j < s.tabs.length ∧ s.tabs[j]? = some x ∧ j ≠ k := by
  rw [(built_perm s (mvE s t lv)).mem_iff, mv_kept] at hx
  rcases List.mem_append.1 hx with hx | hx
  · obtain ⟨h1, h2⟩ := List.mem_filter.1 hx
    obtain ⟨j, hj, hjx⟩ := List.mem_iff_getElem.1 h1
    refine .inr ⟨j, hj, by rw [List.getElem?_eq_getElem hj, hjx], ?_⟩
    rintro rfl
    rw [List.getElem?_eq_getElem hj, hjx] at hk
    cases hk
    simp at h2
  · simp only [mvE, List.mem_singleton] at hx
    exact .inl hx

/-! what overlaps -/
theorem nlt_trans {a b c : Bs} (h1 : Op.bytesLess b a = false) (h2 : Op.bytesLess c b = false) : Op.bytesLess c a = false := by
  cases hx : Op.bytesLess c a with
  | false => rfl
  | true =>
    rcases bless_total b c with e | e | e
    · rw [e, hx] at h1; cases h1
    · rw [bless_trans e hx] at h1; cases h1
    · rw [e] at h2; cases h2
theorem lt_le {a b : Bs} (h : Op.bytesLess a b = true) : Op.bytesLess b a = false := bless_asymm h
theorem filter_or {α : Type} {p q r : α → Bool} : ∀ {l : List α}, (∀ x ∈ l, p x = true → q x = true ∨ r x = true) → (l.filter p).length ≤ (l.filter q).length + (l.filter r).length
  | [], _ => by simp
  | x :: l, h => by
    have ih := filter_or (l := l) (fun y hy => h y (List.mem_cons_of_mem _ hy))
    have hx := h x List.mem_cons_self
    simp only [List.filter_cons]
    cases hp : p x <;> cases hq : q x <;> cases hr : r x <;> simp [hp, hq, hr] at hx ⊢ <;> omega
theorem filter_mono {α : Type} {p q : α → Bool} {l : List α} (h : ∀ x ∈ l, p x = true → q x = true) : (l.filter p).length ≤ (l.filter q).length := by
  have := filter_or (p := p) (q := q) (r := fun _ => false) (l := l) (fun x hx hp => .inl (h x hx hp))
  have e : l.filter (fun _ => false) = [] := List.filter_eq_nil_iff.2 (by simp)
  rw [e] at this
  simpa using this

theorem ovB_spec {lv : Int} {lo hi : Bs} {t : Tb} : ovB lv lo hi t = true ↔ t.level = lv ∧ Op.bytesLess t.hi lo = false ∧ Op.bytesLess hi t.lo = false := by
  simp [ovB, and_assoc]
theorem ov_split {lv : Int} {a b c : Bs} {t : Tb} (ht : Op.bytesLess t.hi t.lo = false) (h : ovB lv a c t = true) : ovB lv a b t = true ∨ ovB lv b c t = true := by
  rw [ovB_spec] at h
  cases hb : Op.bytesLess b t.lo with
  | false => exact .inl (ovB_spec.2 ⟨h.1, h.2.1, hb⟩)
  | true => exact .inr (ovB_spec.2 ⟨h.1, nlt_trans (lt_le hb) ht, h.2.2⟩)
theorem ov_left {lv : Int} {a b c : Bs} (hbc : Op.bytesLess c b = false) {t : Tb} (h : ovB lv a b t = true) : ovB lv a c t = true := by
  rw [ovB_spec] at h ⊢
  refine ⟨h.1, h.2.1, ?_⟩
  exact nlt_trans h.2.2 hbc
theorem ov_right {lv : Int} {a b c : Bs} (hab : Op.bytesLess b a = false) {t : Tb} (h : ovB lv b c t = true) : ovB lv a c t = true := by
  rw [ovB_spec] at h ⊢
  exact ⟨h.1, nlt_trans hab h.2.1, h.2.2⟩

end Go.Proofs.Ytpipgcmiaccdkaa
