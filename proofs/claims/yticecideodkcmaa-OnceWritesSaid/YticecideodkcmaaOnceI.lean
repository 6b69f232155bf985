/-
  Layer 14, part I: a table's list.
-/
import Derived.Test.YticecideodkcmaaOnceH
namespace Go.Proofs.Yticecideodkcmaa
open Sx Go
set_option maxRecDepth 100000
set_option linter.unusedSimpArgs false
set_option linter.unusedVariables false
set_option linter.unnecessarySimpa false
attribute [local simp] execOps guardB isCall opStep Opd.ev put upd readAt aBin aUn args0 V.celled V.ones V.one V.cells Res.run Res.all putAt bounds bound1 elemsOf srcOf appendV fillAt fillEl V.pures V.pure unwind evs ARes.ev mkRes V.ren V.renL O.ren Br.ok eqCells eq1 aEq aMM mmGo execQ

theorem chunk_tab : ∀ t : List Seen, chunk 7 t.length (tabC t) = t.map encS
  | [] => rfl
  | x :: t => by
    have := chunk_tab t
    simp only [tabC] at this
    simp [tabC, chunk, encS, this]

/-- Clone, where one thing is gone -/
theorem clone_at (x : Seen) (l : List Seen) (hll : l.length ≤ 1000000) : Tri Try.prog 39 [.vs ((x :: l).map encS) 7] [.gone] (fun v H => v = .sl 1 0 (l.length + 1) 7 none ∧ H = [.gone, .arr ((x :: l).map encS) 7]) := by
  have := (clone_tri x l hll).frame [] [.gone] rfl List.nodup_nil (fun i o h => by simp at h) (fun i hi => by simp at hi)
  refine Tri.mono (by simpa [V.renL] using this) ?_
  rintro v H ⟨v0, Hs, ⟨rfl, rfl⟩, rfl, rfl⟩
  simp [nm, back, setAll]

theorem delete_at (l : List Seen) (hll : l.length ≤ 1000000) : Tri Try.prog 38 [.sl 1 0 l.length 7 none, .fn 40 []] [.gone, .arr (l.map encS) 7] (fun v H => ∃ rest, v = .sl 1 0 (keptL l).length 7 none ∧ H = [.gone, .arr ((keptL l).map encS ++ rest) 7]) := by
  have := (delete_tri l hll).frame [1] [.gone, .arr (l.map encS) 7] rfl (by simp) (fun i o h => by
    cases i with
    | zero => simp at h; subst h; trivial
    | succ i => simp at h) (fun i hi o ho => by
    have : i = 0 := by simpa using hi
    subst this
    simp at ho ⊢; subst ho; rfl)
  refine Tri.mono (by simpa [V.renL, nm] using this) ?_
  rintro v H ⟨v0, Hs, ⟨rfl, rest, rfl⟩, rfl, rfl⟩
  exact ⟨rest, by simp [nm], by simp [back, setAll]⟩

theorem list_tri (t : List Seen) (ht : t.length = 8) : Tri Try.prog 29 [.agg (tabC t)] [] (fun v H => v = .vs ((keptL t).map encS) 7 ∧ H = []) := by
  refine Tri.of_run' Try.func29 rfl c29_ok (by simp [Try.ntmps29]) ?_
  (repeat (first | refine Run.seq ?_ | refine Run.skip ?_ | refine Run.block ?_ | refine Run.endB ?_)); refine Run.region ?_; simp -implicitDefEqProofs [c29r0, tabC_ones]
  have hch : chunk 7 8 (tabC t) = t.map encS := by rw [← ht]; exact chunk_tab t
  (repeat (first | refine Run.seq ?_ | refine Run.skip ?_ | refine Run.block ?_ | refine Run.endB ?_)); refine Run.region ?_; simp -implicitDefEqProofs [c29r1, tabC_len, ht, tabC_pure, tabC_ones, hch]
  refine Run.freeze 0 (es := t.map encS) (sz := 7) rfl ?_
  obtain ⟨x, l, rfl⟩ : ∃ x l, t = x :: l := by
    cases t with
    | nil => simp at ht
    | cons x l => exact ⟨x, l, rfl⟩
  have hl : l.length = 7 := by simpa using ht
  refine Run.call (f := 39) (caps := []) trivial (by simp [Opd.ev]) (by simpa [V.frz, O.frz, hl, List.take_of_length_le] using clone_at x l (by omega)) ?_
  rintro v h' ⟨rfl, rfl⟩
  refine Run.ops ?_
  simp -implicitDefEqProofs [V.frz]
  refine Run.call (f := 38) (caps := []) trivial (by simp [Opd.ev]) (by simpa [hl] using delete_at (x :: l) (by simp; omega)) ?_
  rintro v h' ⟨rfl, rest, rfl⟩
  refine Run.ops ?_
  simp -implicitDefEqProofs []
  refine Run.freeze 1 (es := (keptL (x :: l)).map encS ++ rest) (sz := 7) rfl ?_
  (repeat (first | refine Run.seq ?_ | refine Run.skip ?_ | refine Run.block ?_ | refine Run.endB ?_))
  refine Run.ret0 rfl Try.func29 r29_ok trivial (by simp [r29]; rfl) ?_ ?_
  · simp [V.frz]
  · simp [V.frz]

end Go.Proofs.Yticecideodkcmaa
