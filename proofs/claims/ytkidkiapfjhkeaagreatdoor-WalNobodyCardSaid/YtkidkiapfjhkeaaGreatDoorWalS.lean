/-
  Layer 06, part S: the plain law of what a log's files hold.
-/
import Derived.Test.YtkidkiapfjhkeaaGreatDoorWalR
namespace Go.Proofs.YtkidkiapfjhkeaaGreatDoor
open Sx Go
set_option maxRecDepth 100000
set_option linter.unusedSimpArgs false
set_option linter.unusedVariables false
set_option linter.unnecessarySimpa false

/-- files that are whole and sure, one behind the other -/
def HF (gs : List (List Bs)) : List LF := gs.mapIdx fun i g => ⟨i, g.flatMap frmB, (g.flatMap frmB).length⟩
/-- the last file: so many of its texts are sure -/
def HL (gs : List (List Bs)) (g : List Bs) (k : Nat) : LF := ⟨gs.length, g.flatMap frmB, ((g.take k).flatMap frmB).length⟩

theorem HF_len (gs) : (HF gs).length = gs.length := by simp [HF]
theorem HF_snoc (gs : List (List Bs)) (g : List Bs) : HF (gs ++ [g]) = HF gs ++ [⟨gs.length, g.flatMap frmB, (g.flatMap frmB).length⟩] := by simp [HF]
theorem HF_mem {gs : List (List Bs)} {f : LF} (h : f ∈ HF gs) : ∃ i g, gs[i]? = some g ∧ f = ⟨i, g.flatMap frmB, (g.flatMap frmB).length⟩ := by
  obtain ⟨i, hi⟩ := List.mem_iff_getElem?.1 h
  simp only [HF, List.getElem?_mapIdx] at hi
  cases hg : gs[i]? with
  | none => rw [hg] at hi; cases hi
  | some g => rw [hg] at hi; cases hi; exact ⟨i, g, hg, rfl⟩
theorem HF_num {gs : List (List Bs)} {f : LF} (h : f ∈ HF gs) : f.num < gs.length := by
  obtain ⟨i, g, h1, rfl⟩ := HF_mem h
  exact (List.getElem?_eq_some_iff.1 h1).1
theorem HF_ris : ∀ (gs : List (List Bs)), gs.length ≤ 100 → Ris (HF gs) := by
  intro gs
  induction h : gs.length generalizing gs with
  | zero =>
    intro _
    have : gs = [] := List.length_eq_zero_iff.1 h
    subst this
    exact ⟨by simp [HF], by simp [HF]⟩
  | succ n ih =>
    intro hl
    rcases List.eq_nil_or_concat gs with rfl | ⟨hs, g, hc⟩
    · simp at h
    · rw [List.concat_eq_append] at hc
      subst hc
      rw [HF_snoc]
      simp only [List.length_append, List.length_singleton] at h
      refine (ih hs (by omega) (by omega)).snoc (fun a ha => ?_) (by simp only; omega)
      have := HF_num ha
      simpa using this
theorem HL_ris {gs : List (List Bs)} (h : gs.length < 100) (B : Bs) (k : Nat) : Ris (HF gs ++ [⟨gs.length, B, k⟩]) := (HF_ris gs (by omega)).snoc (fun a ha => by have := HF_num ha; simpa using this) h
theorem HL_add (gs g k s) (h : k ≤ g.length) : (⟨(HL gs g k).num, (HL gs g k).bytes ++ frmB s, (HL gs g k).sure⟩ : LF) = HL gs (g ++ [s]) k := by
  simp [HL, List.take_append_of_le_length h]
theorem HL_flush (gs g k) : (⟨(HL gs g k).num, (HL gs g k).bytes, (HL gs g k).bytes.length⟩ : LF) = HL gs g g.length := by simp [HL]
theorem HL_roll (gs : List (List Bs)) (g : List Bs) (k : Nat) : HF gs ++ [⟨(HL gs g k).num, (HL gs g k).bytes, (HL gs g k).bytes.length⟩] ++ [⟨(HL gs g k).num + 1, [], 0⟩] = HF (gs ++ [g]) ++ [HL (gs ++ [g]) [] 0] := by
  rw [HF_snoc]
  simp [HL]
theorem cut_full (nf : Bs → Nat) (f : LF) (h : f.sure = f.bytes.length) : cutL nf f = f := by
  obtain ⟨c, h1, h2, h3, -⟩ := cutL_spec nf f (by omega)
  have : c = f.bytes.length := by omega
  rw [h3, this, List.take_length]
  cases f
  simp only at h ⊢
  rw [h]
theorem cut_HF (nf : Bs → Nat) (gs : List (List Bs)) : (HF gs).map (cutL nf) = HF gs := by
  have : ∀ f ∈ HF gs, cutL nf f = f := fun f hf => by
    obtain ⟨i, g, -, rfl⟩ := HF_mem hf
    exact cut_full nf _ rfl
  exact (List.map_congr_left this).trans (List.map_id' _)
/-- behind a crash -/
theorem cut_HL (nf : Bs → Nat) (gs : List (List Bs)) (g : List Bs) (k : Nat) (hk : k ≤ g.length) (hs : ∀ s ∈ g, s.length ≤ 262144) :
    ∃ B j, (HF gs ++ [HL gs g k]).map (cutL nf) = HF gs ++ [⟨gs.length, B, B.length⟩] ∧ k ≤ j ∧ j ≤ g.length ∧ (allF B).1 = g.take j ∧ B.length ≤ (g.flatMap frmB).length ∧ ((∀ x, nf x = 0) → j = k ∧ B = (g.take k).flatMap frmB) := by
  have hle : (HL gs g k).sure ≤ (HL gs g k).bytes.length := by
    have : (g.flatMap frmB) = (g.take k).flatMap frmB ++ (g.drop k).flatMap frmB := by rw [← List.flatMap_append, List.take_append_drop]
    simp only [HL]
    rw [this, List.length_append]; omega
  obtain ⟨c, h1, h2, h3, h4⟩ := cutL_spec nf (HL gs g k) hle
  obtain ⟨j, g1, g2, g3⟩ := allF_take g hs c
  have hB : (HL gs g k).bytes = g.flatMap frmB := rfl
  have hcl : ((HL gs g k).bytes.take c).length = c := by rw [List.length_take]; omega
  refine ⟨(HL gs g k).bytes.take c, j, ?_, g3 k hk h1, g1, g2, by rw [hcl]; exact h2, fun h0 => ?_⟩
  · rw [List.map_append, cut_HF, List.map_singleton, h3, hcl]
    rfl
  · have hc := h4 h0
    have hb : (HL gs g k).bytes.take c = (g.take k).flatMap frmB := by
      have : (g.flatMap frmB) = (g.take k).flatMap frmB ++ (g.drop k).flatMap frmB := by rw [← List.flatMap_append, List.take_append_drop]
      rw [hB, hc, this]
      simp only [HL]
      rw [List.take_append_of_le_length (Nat.le_refl _), List.take_length]
    refine ⟨?_, hb⟩
    have h5 : (allF ((g.take k).flatMap frmB)).1 = g.take k := allF_whole _ fun s h => hs s (List.mem_of_mem_take h)
    rw [← hB, hb, h5] at g2
    have := congrArg List.length g2
    rw [List.length_take, List.length_take] at this
    have := g3 k hk h1
    omega

theorem opnT_fst (fs : List LF) : (opnT fs).map (·.1) = fs.flatMap fun f => (allF f.bytes).1 := by
  simp [opnT, List.map_flatMap, Function.comp_def]
theorem HF_texts : ∀ (gs : List (List Bs)), (∀ g ∈ gs, ∀ s ∈ g, s.length ≤ 262144) → (HF gs).flatMap (fun f => (allF f.bytes).1) = gs.flatten := by
  intro gs
  induction h : gs.length generalizing gs with
  | zero =>
    intro _
    have : gs = [] := List.length_eq_zero_iff.1 h
    subst this; simp [HF]
  | succ n ih =>
    intro hl
    rcases List.eq_nil_or_concat gs with rfl | ⟨hs, g, hc⟩
    · simp at h
    · rw [List.concat_eq_append] at hc
      subst hc
      simp only [List.length_append, List.length_singleton] at h
      rw [HF_snoc, List.flatMap_append, ih hs (by omega) (fun g hg => hl g (by simp [hg])), List.flatten_append]
      have := allF_whole g (hl g (by simp))
      simp [this]
theorem keepF_all (fs : List LF) : keepF 0 fs = fs := by simp [keepF]
theorem flat_len (g : List Bs) (n : Nat) (hn : n ≤ 1000) (h : ∀ s ∈ g, s.length ≤ n) : (g.flatMap frmB).length ≤ g.length * 1013 := by
  induction g with
  | nil => simp
  | cons s g ih =>
    have h1 := sixF_len s (by have := h s (by simp); omega)
    have h2 := ih fun x hx => h x (by simp [hx])
    rw [List.flatMap_cons, List.length_append, List.length_cons]; omega

/-- what a log that is opened has -/
theorem opened (gs : List (List Bs)) (us : List Bs) (B : Bs) (k : Nat) (h : ∀ g ∈ gs, ∀ s ∈ g, s.length ≤ 262144) (hB : (allF B).1 = us) :
    (opnT (HF gs ++ [⟨gs.length, B, k⟩])).map (·.1) = gs.flatten ++ us ∧ opnN 0 (HF gs ++ [⟨gs.length, B, k⟩]) = gs.length + 1 := by
  refine ⟨?_, by rw [opnN_snoc]⟩
  rw [opnT_fst, List.flatMap_append, HF_texts gs h]
  simp [hB]

end Go.Proofs.YtkidkiapfjhkeaaGreatDoor
