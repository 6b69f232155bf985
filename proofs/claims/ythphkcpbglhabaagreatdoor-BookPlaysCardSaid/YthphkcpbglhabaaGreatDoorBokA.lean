/-
  Layer 18, part A: the plain law of what a log's files hold, from any file on.
-/
import Derived.Test.YthphkcpbglhabaaGreatDoorWalQ
namespace Go.Proofs.YthphkcpbglhabaaGreatDoor
open Sx Go
set_option maxRecDepth 100000
set_option linter.unusedSimpArgs false
set_option linter.unusedVariables false
set_option linter.unnecessarySimpa false

theorem sixF_len' (s : Bs) (h : s.length ≤ 1000) : (frmB s).length ≤ 1013 := by
  have h1 := fr_len s
  have h2 := vput_len9 (n := s.length) (by omega)
  omega
section
variable {m : Nat}
/-- files that are whole and sure, one behind the other -/
def HFb (m : Nat) (gs : List (List Bs)) : List LF := gs.mapIdx fun i g => ⟨m + i, g.flatMap frmB, (g.flatMap frmB).length⟩
/-- the last file: so many of its texts are sure -/
def HLb (m : Nat) (gs : List (List Bs)) (g : List Bs) (k : Nat) : LF := ⟨m + gs.length, g.flatMap frmB, ((g.take k).flatMap frmB).length⟩

theorem HFb_len (gs) : (HFb m gs).length = gs.length := by simp [HFb]
theorem HFb_snoc (gs : List (List Bs)) (g : List Bs) : HFb m (gs ++ [g]) = HFb m gs ++ [⟨m + gs.length, g.flatMap frmB, (g.flatMap frmB).length⟩] := by simp [HFb]
theorem HFb_mem {gs : List (List Bs)} {f : LF} (h : f ∈ HFb m gs) : ∃ i g, gs[i]? = some g ∧ f = ⟨m + i, g.flatMap frmB, (g.flatMap frmB).length⟩ := by
  obtain ⟨i, hi⟩ := List.mem_iff_getElem?.1 h
  simp only [HFb, List.getElem?_mapIdx] at hi
  cases hg : gs[i]? with
  | none => rw [hg] at hi; cases hi
  | some g => rw [hg] at hi; cases hi; exact ⟨i, g, hg, rfl⟩
theorem HFb_num {gs : List (List Bs)} {f : LF} (h : f ∈ HFb m gs) : m ≤ f.num ∧ f.num < m + gs.length := by
  obtain ⟨i, g, h1, rfl⟩ := HFb_mem h
  have := (List.getElem?_eq_some_iff.1 h1).1
  exact ⟨Nat.le_add_right _ _, Nat.add_lt_add_left this m⟩
theorem HFb_ris : ∀ (gs : List (List Bs)), m + gs.length ≤ 100 → Ris (HFb m gs) := by
  intro gs
  induction h : gs.length generalizing gs with
  | zero =>
    intro _
    have : gs = [] := List.length_eq_zero_iff.1 h
    subst this
    exact ⟨by simp [HFb], by simp [HFb]⟩
  | succ n ih =>
    intro hl
    rcases List.eq_nil_or_concat gs with rfl | ⟨hs, g, hc⟩
    · simp at h
    · rw [List.concat_eq_append] at hc
      subst hc
      rw [HFb_snoc]
      simp only [List.length_append, List.length_singleton] at h
      refine (ih hs (by omega) (by omega)).snoc (fun a ha => ?_) (by simp only; omega)
      exact (HFb_num ha).2
theorem HLb_ris {gs : List (List Bs)} (h : m + gs.length < 100) (B : Bs) (k : Nat) : Ris (HFb m gs ++ [⟨m + gs.length, B, k⟩]) := (HFb_ris gs (by omega)).snoc (fun a ha => (HFb_num ha).2) h
theorem HLb_add (gs g k s) (h : k ≤ g.length) : (⟨(HLb m gs g k).num, (HLb m gs g k).bytes ++ frmB s, (HLb m gs g k).sure⟩ : LF) = HLb m gs (g ++ [s]) k := by
  simp [HLb, List.take_append_of_le_length h]
theorem HLb_flush (gs g k) : (⟨(HLb m gs g k).num, (HLb m gs g k).bytes, (HLb m gs g k).bytes.length⟩ : LF) = HLb m gs g g.length := by simp [HLb]
theorem HLb_roll (gs : List (List Bs)) (g : List Bs) (k : Nat) : HFb m gs ++ [⟨(HLb m gs g k).num, (HLb m gs g k).bytes, (HLb m gs g k).bytes.length⟩] ++ [⟨(HLb m gs g k).num + 1, [], 0⟩] = HFb m (gs ++ [g]) ++ [HLb m (gs ++ [g]) [] 0] := by
  rw [HFb_snoc]
  simp [HLb, Nat.add_assoc]
theorem cutb_full (nf : Bs → Nat) (f : LF) (h : f.sure = f.bytes.length) : cutL nf f = f := by
  obtain ⟨c, h1, h2, h3, -⟩ := cutL_spec nf f (by omega)
  have : c = f.bytes.length := by omega
  rw [h3, this, List.take_length]
  cases f
  simp only at h ⊢
  rw [h]
theorem cut_HFb (nf : Bs → Nat) (gs : List (List Bs)) : (HFb m gs).map (cutL nf) = HFb m gs := by
  have : ∀ f ∈ HFb m gs, cutL nf f = f := fun f hf => by
    obtain ⟨i, g, -, rfl⟩ := HFb_mem hf
    exact cutb_full nf _ rfl
  exact (List.map_congr_left this).trans (List.map_id' _)
/-- behind a crash -/
theorem cut_HLb (nf : Bs → Nat) (gs : List (List Bs)) (g : List Bs) (k : Nat) (hk : k ≤ g.length) (hs : ∀ s ∈ g, s.length ≤ 262144) :
    ∃ B j, (HFb m gs ++ [HLb m gs g k]).map (cutL nf) = HFb m gs ++ [⟨m + gs.length, B, B.length⟩] ∧ k ≤ j ∧ j ≤ g.length ∧ (allF B).1 = g.take j ∧ B.length ≤ (g.flatMap frmB).length ∧ ((∀ x, nf x = 0) → j = k ∧ B = (g.take k).flatMap frmB) := by
  have hle : (HLb m gs g k).sure ≤ (HLb m gs g k).bytes.length := by
    have : (g.flatMap frmB) = (g.take k).flatMap frmB ++ (g.drop k).flatMap frmB := by rw [← List.flatMap_append, List.take_append_drop]
    simp only [HLb]
    rw [this, List.length_append]; omega
  obtain ⟨c, h1, h2, h3, h4⟩ := cutL_spec nf (HLb m gs g k) hle
  obtain ⟨j, g1, g2, g3⟩ := allF_take g hs c
  have hB : (HLb m gs g k).bytes = g.flatMap frmB := rfl
  have hcl : ((HLb m gs g k).bytes.take c).length = c := by rw [List.length_take]; omega
  refine ⟨(HLb m gs g k).bytes.take c, j, ?_, g3 k hk h1, g1, g2, by rw [hcl]; exact h2, fun h0 => ?_⟩
  · rw [List.map_append, cut_HFb, List.map_singleton, h3, hcl]
    rfl
  · have hc := h4 h0
    have hb : (HLb m gs g k).bytes.take c = (g.take k).flatMap frmB := by
      have : (g.flatMap frmB) = (g.take k).flatMap frmB ++ (g.drop k).flatMap frmB := by rw [← List.flatMap_append, List.take_append_drop]
      rw [hB, hc, this]
      simp only [HLb]
      rw [List.take_append_of_le_length (Nat.le_refl _), List.take_length]
    refine ⟨?_, hb⟩
    have h5 : (allF ((g.take k).flatMap frmB)).1 = g.take k := allF_whole _ fun s h => hs s (List.mem_of_mem_take h)
    rw [← hB, hb, h5] at g2
    have := congrArg List.length g2
    rw [List.length_take, List.length_take] at this
    have := g3 k hk h1
    omega

theorem opnb_fst (fs : List LF) : (opnT fs).map (·.1) = fs.flatMap fun f => (allF f.bytes).1 := by
  simp [opnT, List.map_flatMap, Function.comp_def]
theorem HFb_texts : ∀ (gs : List (List Bs)), (∀ g ∈ gs, ∀ s ∈ g, s.length ≤ 262144) → (HFb m gs).flatMap (fun f => (allF f.bytes).1) = gs.flatten := by
  intro gs
  induction h : gs.length generalizing gs with
  | zero =>
    intro _
    have : gs = [] := List.length_eq_zero_iff.1 h
    subst this; simp [HFb]
  | succ n ih =>
    intro hl
    rcases List.eq_nil_or_concat gs with rfl | ⟨hs, g, hc⟩
    · simp at h
    · rw [List.concat_eq_append] at hc
      subst hc
      simp only [List.length_append, List.length_singleton] at h
      rw [HFb_snoc, List.flatMap_append, ih hs (by omega) (fun g hg => hl g (by simp [hg])), List.flatten_append]
      have := allF_whole g (hl g (by simp))
      simp [this]
theorem keepb_all (fs : List LF) : keepF 0 fs = fs := by simp [keepF]
theorem flatb_len (g : List Bs) (n : Nat) (hn : n ≤ 1000) (h : ∀ s ∈ g, s.length ≤ n) : (g.flatMap frmB).length ≤ g.length * 1013 := by
  induction g with
  | nil => simp
  | cons s g ih =>
    have h1 := sixF_len' s (by have := h s (by simp); omega)
    have h2 := ih fun x hx => h x (by simp [hx])
    rw [List.flatMap_cons, List.length_append, List.length_cons]; omega

/-- what a log that is openedb has -/
theorem openedb (gs : List (List Bs)) (us : List Bs) (B : Bs) (k : Nat) (h : ∀ g ∈ gs, ∀ s ∈ g, s.length ≤ 262144) (hB : (allF B).1 = us) :
    (opnT (HFb m gs ++ [⟨m + gs.length, B, k⟩])).map (·.1) = gs.flatten ++ us ∧ opnN 0 (HFb m gs ++ [⟨m + gs.length, B, k⟩]) = m + gs.length + 1 := by
  refine ⟨?_, by rw [opnN_snoc]⟩
  rw [opnb_fst, List.flatMap_append, HFb_texts gs h]
  simp [hB]


end
end Go.Proofs.YthphkcpbglhabaaGreatDoor
