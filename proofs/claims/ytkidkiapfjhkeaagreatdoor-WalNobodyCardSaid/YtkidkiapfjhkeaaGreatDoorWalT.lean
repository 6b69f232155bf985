/-
  Layer 06, part T: WalCrash.
-/
import Derived.Test.YtkidkiapfjhkeaaGreatDoorWalDec
namespace Go.Proofs.YtkidkiapfjhkeaaGreatDoor
open Sx Go
set_option maxRecDepth 100000
set_option linter.unusedSimpArgs false
set_option linter.unusedVariables false
set_option linter.unnecessarySimpa false
attribute [local simp] stepV condR boundsC appendG appendO copyV srcC guardB isCall opStep Opd.ev put readAt aBin aUn args0 V.celled V.ones V.one V.cells putAt bounds bound1 elemsOf srcOf appendV fillAt fillEl V.pures V.pure unwind evs ARes.ev mkRes V.ren V.renL O.ren eqCells eq1 aEq aMM hasTy hasTyN okTy mmGo Known HLe OLe VsLe.refl VLe.refl VLe.cap Stay VsLe V.frz V.frzL O.frz fr clearV rn KnownR Objs OLeO ObjsE nm back setAll ren_ite take_map_len List.take_of_length_le
attribute [local simp ↓] upd_app tl_cons tl_nil
attribute [local simp] encS_ren encS_ones encS_len encS_take KnownS VLe.refl

/-- ways that meet -/
theorem Run.joinP {E : Env} {x : AItem} {k : List AItem} {t : T} {h : List O} {α : Type} (st : α → List (Nat × V) × List O) (P : α → Prop) (h2 : ∀ a, P a → Run E ⟨k, tl (st a).1, (st a).2⟩)
    (h1 : ∀ k, (∀ a, P a → Run E ⟨k, tl (st a).1, (st a).2⟩) → Run E ⟨x :: k, t, h⟩) : Run E ⟨x :: k, t, h⟩ := h1 k h2
theorem Own.base {X L d D Y} (h : Own X L d D Y) {i : Nat} {o : O} (hi : X[i]? = some o) : Y[i]? = some o := by
  obtain ⟨F, h1, h2, h3, h4⟩ := h
  rw [h2.2 i (List.getElem?_eq_some_iff.1 hi).1 (by simp)]; exact hi
theorem WalOwn.base {X : List O} {L : List Nat} {d lg n : Nat} {D : Dk} {Y : List O} {ts : List (Bs × Nat)} (h : WalOwn X L d D lg ts n Y) {i : Nat} {o : O} (hi : X[i]? = some o) : Y[i]? = some o := h.disk.base hi

/-- what a log's files hold: groups of texts, so many of the last one sure -/
def LogIs (X : List O) (d lg : Nat) (gs : List (List Bs)) (g : List Bs) (k : Nat) (T : List Bs) (fu : Int) (off : Bool) (Z : List O) : Prop :=
  k ≤ g.length ∧ gs.flatten ++ g = T ∧ ∃ lts, lts.map (·.1) = T ∧ WalOwn X [] d (LD (HF gs ++ [HL gs g k]) fu off) lg lts gs.length Z

theorem LogIs.short {X d lg gs g k T fu off Z} (h : LogIs X d lg gs g k T fu off Z) {n : Nat} (hT : ∀ s ∈ T, s.length ≤ n) : (∀ s ∈ g, s.length ≤ n) ∧ ∀ x ∈ gs, ∀ s ∈ x, s.length ≤ n := by
  obtain ⟨h1, h2, -⟩ := h
  refine ⟨fun s hs => hT s (by rw [← h2]; simp [hs]), fun x hx s hs => hT s (by rw [← h2]; simp only [List.mem_append, List.mem_flatten]; exact .inl ⟨x, hx, hs⟩)⟩
theorem LogIs.add {X d lg gs g k T fu off Z} (h : LogIs X d lg gs g k T fu off Z) (hg : gs.length < 100) (hT : ∀ s ∈ T, s.length ≤ 1000) (hl : T.length ≤ 1000) (s : Bs) (hs : s.length ≤ 1000) :
    Tri Tryz.prog 11 [.ptr lg 0, .str s] Z (fun v W => ((off = true ∨ fu = 0) ∧ v = .int .i64 50 ∧ LogIs X d lg gs g k T fu true W) ∨ (¬ (off = true ∨ fu = 0) ∧ v = .int .i64 0 ∧ LogIs X d lg gs (g ++ [s]) k (T ++ [s]) (nxF fu) false W)) := by
  have hsh := (h.short hT).1
  obtain ⟨h1, h2, lts, h3, h4⟩ := h
  have hgl : g.length ≤ 1000 := by have := congrArg List.length h2; rw [List.length_append] at this; omega
  have hfl := flat_len g 1000 (by omega) hsh
  have hsf := sixF_len s hs
  have hll : lts.length ≤ 1000 := by have := congrArg List.length h3; rw [List.length_map] at this; omega
  refine (WalOwn.add (f := HL gs g k) h4 (HL_ris hg _ _) (by omega) s (by omega) (by simp only [HL]; omega)).mono fun v W hq => ?_
  rcases hq with ⟨e, g1, g2, -⟩ | ⟨e, g1, g2, -⟩
  · exact .inl ⟨e, g1, h1, h2, lts, h3, g2⟩
  · rw [HL_add gs g k s h1] at g2
    exact .inr ⟨e, g1, by simp; omega, by rw [← h2]; simp, _, by simp [h3], g2⟩
theorem LogIs.flush {X d lg gs g k T fu off Z} (h : LogIs X d lg gs g k T fu off Z) (hg : gs.length < 100) :
    Tri Tryz.prog 12 [.ptr lg 0] Z (fun v W => ((off = true ∨ fu = 0) ∧ v = .int .i64 50 ∧ LogIs X d lg gs g k T fu true W) ∨ (¬ (off = true ∨ fu = 0) ∧ v = .int .i64 0 ∧ LogIs X d lg gs g g.length T (nxF fu) false W)) := by
  obtain ⟨h1, h2, lts, h3, h4⟩ := h
  refine (WalOwn.flush (f := HL gs g k) h4 (HL_ris hg _ _)).mono fun v W hq => ?_
  rcases hq with ⟨e, g1, g2, -⟩ | ⟨e, g1, g2, -⟩
  · exact .inl ⟨e, g1, h1, h2, lts, h3, g2⟩
  · rw [HL_flush gs g k] at g2
    exact .inr ⟨e, g1, Nat.le_refl _, h2, lts, h3, g2⟩
theorem LogIs.roll {X d lg gs g k T fu off Z} (h : LogIs X d lg gs g k T fu off Z) (hg : gs.length + 1 < 100) :
    Tri Tryz.prog 13 [.ptr lg 0] Z (fun v W => (∃ k' fu', k ≤ k' ∧ (off = true ∨ fu = 0 ∨ nxF fu = 0) ∧ v = .tup [.int .i64 0, .int .i64 50] ∧ LogIs X d lg gs g k' T fu' true W) ∨
      (¬ (off = true ∨ fu = 0) ∧ nxF fu ≠ 0 ∧ v = .tup [.int .i64 (gs.length + 1 : Nat), .int .i64 0] ∧ LogIs X d lg (gs ++ [g]) [] 0 T (nxF (nxF fu)) false W)) := by
  obtain ⟨h1, h2, lts, h3, h4⟩ := h
  refine (WalOwn.roll (f := HL gs g k) h4 (HL_ris (by omega) _ _) (by simp only [HL]; omega)).mono fun v W hq => ?_
  rcases hq with ⟨e, g1, g2, -⟩ | ⟨e, e2, g1, g2, -⟩ | ⟨e, e2, g1, g2, -⟩
  · exact .inl ⟨k, fu, Nat.le_refl _, e.elim .inl (fun e => .inr (.inl e)), g1, h1, h2, lts, h3, g2⟩
  · rw [HL_flush gs g k] at g2
    exact .inl ⟨g.length, _, h1, .inr (.inr e2), g1, Nat.le_refl _, h2, lts, h3, g2⟩
  · rw [HL_roll gs g k] at g2
    refine .inr ⟨e, e2, g1, Nat.le_refl _, by rw [← h2]; simp, lts, h3, ?_⟩
    have e3 : (gs ++ [g]).length = gs.length + 1 := by simp
    rw [e3]
    exact g2

/-- what a disk holds behind a crash -/
def LeftIs (X : List O) (d : Nat) (gs : List (List Bs)) (us : List Bs) (Z : List O) : Prop := ∃ B, (allF B).1 = us ∧ B.length ≤ 4194304 ∧ Own X [] d (LD (HF gs ++ [⟨gs.length, B, B.length⟩]) (-1) false) Z
theorem LogIs.crash {X d lg gs g k T fu off Z} (h : LogIs X d lg gs g k T fu off Z) (hg : gs.length < 100) (hT : ∀ s ∈ T, s.length ≤ 1000) (hl : T.length ≤ 1000) (keep : List Int) (hk : keep.length ≤ 1000) :
    Tri Tryz.prog 14 [.ptr d 0, .vs (keep.map encN) 1] Z (fun v W => v = .int .i64 0 ∧ ∃ j, k ≤ j ∧ j ≤ g.length ∧ LeftIs X d gs (g.take j) W) := by
  have hsh := (h.short hT).1
  obtain ⟨h1, h2, lts, h3, h4⟩ := h
  have hgl : g.length ≤ 1000 := by have := congrArg List.length h2; rw [List.length_append] at this; omega
  have hfl := flat_len g 1000 (by omega) hsh
  refine (crash_LD h4.disk (HL_ris hg _ _) keep hk).mono fun v W ⟨g1, nf, g2, g3, g4⟩ => ?_
  obtain ⟨B, j, q1, q2, q3, q4, q5, -⟩ := cut_HL nf gs g k h1 (fun s hs => by have := hsh s hs; omega)
  rw [q1] at g3
  exact ⟨g1, j, q2, q3, B, q4, by omega, g3⟩
theorem LeftIs.open {X d gs us Z} (h : LeftIs X d gs us Z) (hg : gs.length < 99) (hT : ∀ g ∈ gs, ∀ s ∈ g, s.length ≤ 1000) (hl : (gs.flatten ++ us).length ≤ 1000) :
    Tri Tryz.prog 9 [.ptr d 0, .int .i64 0] Z (fun v W => ∃ lg B lts, v = .tup [.ptr lg 0, .int .i64 0] ∧ (allF B).1 = us ∧ B.length ≤ 4194304 ∧ lts.map (·.1) = gs.flatten ++ us ∧
      WalOwn X [] d (LD ((HF gs ++ [⟨gs.length, B, B.length⟩]) ++ [⟨gs.length + 1, [], 0⟩]) (-1) false) lg lts (gs.length + 1) W) := by
  obtain ⟨B, h1, h2, h3⟩ := h
  obtain ⟨o1, o2⟩ := opened gs us B B.length (fun g hg s hs => by have := hT g hg s hs; omega) h1
  have hlen : (opnT (HF gs ++ [⟨gs.length, B, B.length⟩])).length ≤ 1000 := by
    have := congrArg List.length o1; rw [List.length_map] at this; omega
  have hbb : ∀ f ∈ HF gs ++ [⟨gs.length, B, B.length⟩], f.bytes.length ≤ 4194304 := by
    intro f hf
    rcases List.mem_append.1 hf with hf | hf
    · obtain ⟨i, g, hi, rfl⟩ := HF_mem hf
      have hgm := List.mem_of_getElem? hi
      have h5 := flat_len g 1000 (by omega) (hT g hgm)
      have h6 : g.length ≤ gs.flatten.length := by
        obtain ⟨P, Q, rfl⟩ := List.append_of_mem hgm
        simp; omega
      simp only at *
      rw [List.length_append] at hl
      omega
    · rw [List.mem_singleton.1 hf]; exact h2
  have hop := open_own (frm := 0) h3 (HL_ris (by omega) _ _) (by decide) (fun f hf => by
    rcases List.mem_append.1 hf with hf | hf
    · have := HF_num hf; omega
    · rw [List.mem_singleton.1 hf]; exact hg) hbb (by omega)
  rw [keepF_all, o2] at hop
  exact hop.mono fun v W ⟨lg, g1, _, g2, _⟩ => ⟨lg, B, _, g1, h1, h2, o1, g2⟩

end Go.Proofs.YtkidkiapfjhkeaaGreatDoor
