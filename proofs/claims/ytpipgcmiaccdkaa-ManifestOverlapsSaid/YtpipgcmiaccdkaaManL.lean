/-
  Layer 12, part L: what is the same; how tables stand.
-/
import Derived.Test.YtpipgcmiaccdkaaManK
namespace Go.Proofs.Ytpipgcmiaccdkaa
open Sx Go
set_option maxRecDepth 100000
set_option linter.unusedSimpArgs false
set_option linter.unusedVariables false
set_option linter.unnecessarySimpa false
attribute [local simp] stepV condR boundsC appendG appendO copyV srcC guardB isCall opStep Opd.ev put readAt aBin aUn args0 V.celled V.ones V.one V.cells putAt bounds bound1 elemsOf srcOf appendV fillAt fillEl V.pures V.pure unwind evs ARes.ev mkRes V.ren V.renL O.ren eqCells eq1 aEq aMM hasTy hasTyN okTy mmGo Known HLe OLe VsLe.refl VLe.refl VLe.cap Stay VsLe V.frz V.frzL O.frz fr clearV rn KnownR Objs OLeO ObjsE nm back setAll ren_ite take_map_len List.take_of_length_le
attribute [local simp ↓] upd_app tl_cons tl_nil
attribute [local simp] encT_ren encT_ones encT_len encT_take encN_ren encN_ones encN_len encN_take
attribute [local simp] encE_ren encE_len encE_take encZ_ren encZ_len encZ_take

theorem take_eq_step {α} {a b : List α} {i : Nat} (ha : i < a.length) (hb : i < b.length) (h : a.take i = b.take i) (he : a[i] = b[i]) : a.take (i + 1) = b.take (i + 1) := by
  rw [List.take_add_one, List.take_add_one, h, List.getElem?_eq_getElem ha, List.getElem?_eq_getElem hb, he]
theorem sameT_tri (a b : List Tb) (hl : a.length ≤ 4611686018427387904) : Tri Try.prog 21 [.vs (a.map encT) 4, .vs (b.map encT) 4] [] (fun v H => v = .bool (decide (a = b)) ∧ H = []) := by
  refine Tri.of_run' Try.func21 rfl c21_ok (by simp [Try.ntmps21]) ?_
  by_cases hlen : a.length = b.length
  rotate_left
  · have hlen' : ¬ (a.length : Int) = b.length := by omega
    have hne : ¬ a = b := fun h => hlen (by rw [h])
    (repeat (first | refine Run.adm rfl ?_ | refine Run.seq ?_ | (apply Run.opS rfl; (· (simp -implicitDefEqProofs [hlen, hlen']; exact ⟨rfl, rfl⟩))) | (apply Run.condS; (· (simp -implicitDefEqProofs [hlen, hlen']; exact rfl)))))
    refine Run.retI Try.func21 r21_ok trivial (by simp -implicitDefEqProofs [r21]; rfl) (by simp ) ?_ (by simp -implicitDefEqProofs ) (by simp -implicitDefEqProofs )
    simp [hne]
  have hlen' : (a.length : Int) = b.length := by omega
  (repeat (first | refine Run.adm rfl ?_ | refine Run.seq ?_ | (apply Run.opS rfl; (· (simp -implicitDefEqProofs [hlen, hlen']; exact ⟨rfl, rfl⟩))) | (apply Run.condS; (· (simp -implicitDefEqProofs [hlen, hlen']; exact rfl)))))
  refine Run.loopC [] (fun (i : Nat) => ([(0, .vs (a.map encT) 4), (1, .vs (b.map encT) 4), (5, .int .i64 i)], [])) (fun i => i ≤ a.length ∧ a.take i = b.take i) (fun i => a.length - i) 0 (by simp) (by rfl) (by decide) (by simp) (by simp) ?_
  rintro i ⟨hi, htk⟩ ih
  by_cases hlt : i < a.length
  · have hltb : i < b.length := by omega
    obtain ⟨x, hx, hxi, -, -⟩ := getL hlt
    obtain ⟨y, hy, hyi, -, -⟩ := getL hltb
    have hw := wrap_small (n := (i : Int) + 1) (by omega) (by omega)
    (repeat (first | refine Run.adm rfl ?_ | refine Run.seq ?_ | (apply Run.opS rfl; (· (simp -implicitDefEqProofs [hlt]; exact ⟨rfl, rfl⟩))) | (apply Run.condS; (· (simp -implicitDefEqProofs [hlt]; exact rfl)))))
    refine Run.quietM prog_mixed (by kernel_rfl) [] [(0, .vs (a.map encT) 4), (1, .vs (b.map encT) 4), (5, .int .i64 i), (25, .bool (!decide (x = y)))] [] (by rfl) (by decide) ?_ ?_
    · (repeat (first | refine execQ_E rfl ?_ | (apply execQ_S rfl; (· (simp -implicitDefEqProofs [hlt, hltb, hx, hxi, hy, hyi, encT]; exact ⟨rfl, rfl⟩)))))
      obtain ⟨x1, x2, x3, x4⟩ := x
      obtain ⟨y1, y2, y3, y4⟩ := y
      by_cases h1 : x1 = y1 <;> by_cases h2 : x2 = y2 <;> by_cases h3 : x3 = y3 <;> by_cases h4 : x4 = y4 <;> simp [h1, h2, h3, h4]
    by_cases hxy : x = y
    · (repeat (first | refine Run.adm rfl ?_ | refine Run.seq ?_ | (apply Run.opS rfl; (· (simp -implicitDefEqProofs [hxy]; exact ⟨rfl, rfl⟩))) | (apply Run.condS; (· (simp -implicitDefEqProofs [hxy]; exact rfl)))))
      refine Run.mv [] _ _ (by rfl) (by decide) (by simp -implicitDefEqProofs [hw]) (by simp -implicitDefEqProofs [hw]) (ih (i + 1) ?_ ?_)
      · exact ⟨by omega, take_eq_step hlt hltb htk (by rw [hxi, hyi, hxy])⟩
      · omega
    · (repeat (first | refine Run.adm rfl ?_ | refine Run.seq ?_ | (apply Run.opS rfl; (· (simp -implicitDefEqProofs [hxy]; exact ⟨rfl, rfl⟩))) | (apply Run.condS; (· (simp -implicitDefEqProofs [hxy]; exact rfl)))))
      refine Run.retI Try.func21 r21_ok trivial (by simp -implicitDefEqProofs [r21]; rfl) (by simp ) ?_ (by simp -implicitDefEqProofs ) (by simp -implicitDefEqProofs )
      have : ¬ a = b := by rintro rfl; rw [hxi] at hyi; exact hxy hyi
      simp [this]
  · have : i = a.length := by omega
    subst this
    (repeat (first | refine Run.adm rfl ?_ | refine Run.seq ?_ | (apply Run.opS rfl; (· (simp -implicitDefEqProofs; exact ⟨rfl, rfl⟩))) | (apply Run.condS; (· (simp -implicitDefEqProofs; exact rfl)))))
    refine Run.retI Try.func21 r21_ok trivial (by simp -implicitDefEqProofs [r21]; rfl) (by simp ) ?_ (by simp -implicitDefEqProofs ) (by simp -implicitDefEqProofs )
    have : a = b := by rw [List.take_length, List.take_of_length_le (by omega)] at htk; exact htk
    simp [this]
theorem sameT_at (a b : List Tb) (hl : a.length ≤ 4611686018427387904) (H : List O) : Tri Try.prog 21 [.vs (a.map encT) 4, .vs (b.map encT) 4] H (fun v H' => v = .bool (decide (a = b)) ∧ H' = H) := (sameT_tri a b hl).at rfl rfl H
theorem sameI_tri (a b : List Int) (hl : a.length ≤ 4611686018427387904) : Tri Try.prog 43 [.vs (a.map encN) 1, .vs (b.map encN) 1] [] (fun v H => v = .bool (decide (a = b)) ∧ H = []) := by
  refine Tri.of_run' Try.func43 rfl c43_ok (by simp [Try.ntmps43]) ?_
  by_cases hlen : a.length = b.length
  rotate_left
  · have hlen' : ¬ (a.length : Int) = b.length := by omega
    have hne : ¬ a = b := fun h => hlen (by rw [h])
    (repeat (first | refine Run.adm rfl ?_ | refine Run.seq ?_ | (apply Run.opS rfl; (· (simp -implicitDefEqProofs [hlen, hlen']; exact ⟨rfl, rfl⟩))) | (apply Run.condS; (· (simp -implicitDefEqProofs [hlen, hlen']; exact rfl)))))
    refine Run.retI Try.func43 r43_ok trivial (by simp -implicitDefEqProofs [r43]; rfl) (by simp ) ?_ (by simp -implicitDefEqProofs ) (by simp -implicitDefEqProofs )
    simp [hne]
  have hlen' : (a.length : Int) = b.length := by omega
  (repeat (first | refine Run.adm rfl ?_ | refine Run.seq ?_ | (apply Run.opS rfl; (· (simp -implicitDefEqProofs [hlen, hlen']; exact ⟨rfl, rfl⟩))) | (apply Run.condS; (· (simp -implicitDefEqProofs [hlen, hlen']; exact rfl)))))
  refine Run.loopC [] (fun (i : Nat) => ([(0, .vs (a.map encN) 1), (1, .vs (b.map encN) 1), (5, .int .i64 i)], [])) (fun i => i ≤ a.length ∧ a.take i = b.take i) (fun i => a.length - i) 0 (by simp) (by rfl) (by decide) (by simp) (by simp) ?_
  rintro i ⟨hi, htk⟩ ih
  by_cases hlt : i < a.length
  · have hltb : i < b.length := by omega
    obtain ⟨x, hx, hxi, -, -⟩ := getL hlt
    obtain ⟨y, hy, hyi, -, -⟩ := getL hltb
    have hw := wrap_small (n := (i : Int) + 1) (by omega) (by omega)
    (repeat (first | refine Run.adm rfl ?_ | refine Run.seq ?_ | (apply Run.opS rfl; (· (simp -implicitDefEqProofs [hlt]; exact ⟨rfl, rfl⟩))) | (apply Run.condS; (· (simp -implicitDefEqProofs [hlt]; exact rfl)))))
    refine Run.quietM prog_mixed (by kernel_rfl) [] [(0, .vs (a.map encN) 1), (1, .vs (b.map encN) 1), (5, .int .i64 i), (25, .bool (!decide (x = y)))] [] (by rfl) (by decide) ?_ ?_
    · (repeat (first | refine execQ_E rfl ?_ | (apply execQ_S rfl; (· (simp -implicitDefEqProofs [hlt, hltb, hx, hxi, hy, hyi, encN]; exact ⟨rfl, rfl⟩)))))
      simp
    by_cases hxy : x = y
    · (repeat (first | refine Run.adm rfl ?_ | refine Run.seq ?_ | (apply Run.opS rfl; (· (simp -implicitDefEqProofs [hxy]; exact ⟨rfl, rfl⟩))) | (apply Run.condS; (· (simp -implicitDefEqProofs [hxy]; exact rfl)))))
      refine Run.mv [] _ _ (by rfl) (by decide) (by simp -implicitDefEqProofs [hw]) (by simp -implicitDefEqProofs [hw]) (ih (i + 1) ?_ ?_)
      · exact ⟨by omega, take_eq_step hlt hltb htk (by rw [hxi, hyi, hxy])⟩
      · omega
    · (repeat (first | refine Run.adm rfl ?_ | refine Run.seq ?_ | (apply Run.opS rfl; (· (simp -implicitDefEqProofs [hxy]; exact ⟨rfl, rfl⟩))) | (apply Run.condS; (· (simp -implicitDefEqProofs [hxy]; exact rfl)))))
      refine Run.retI Try.func43 r43_ok trivial (by simp -implicitDefEqProofs [r43]; rfl) (by simp ) ?_ (by simp -implicitDefEqProofs ) (by simp -implicitDefEqProofs )
      have : ¬ a = b := by rintro rfl; rw [hxi] at hyi; exact hxy hyi
      simp [this]
  · have : i = a.length := by omega
    subst this
    (repeat (first | refine Run.adm rfl ?_ | refine Run.seq ?_ | (apply Run.opS rfl; (· (simp -implicitDefEqProofs; exact ⟨rfl, rfl⟩))) | (apply Run.condS; (· (simp -implicitDefEqProofs; exact rfl)))))
    refine Run.retI Try.func43 r43_ok trivial (by simp -implicitDefEqProofs [r43]; rfl) (by simp ) ?_ (by simp -implicitDefEqProofs ) (by simp -implicitDefEqProofs )
    have : a = b := by rw [List.take_length, List.take_of_length_le (by omega)] at htk; exact htk
    simp [this]
theorem sameI_at (a b : List Int) (hl : a.length ≤ 4611686018427387904) (H : List O) : Tri Try.prog 43 [.vs (a.map encN) 1, .vs (b.map encN) 1] H (fun v H' => v = .bool (decide (a = b)) ∧ H' = H) := (sameI_tri a b hl).at rfl rfl H

theorem sameE_tri (a b : Ed) (hl : a.add.length ≤ 4611686018427387904) (hl2 : a.drop.length ≤ 4611686018427387904) : Tri Try.prog 15 [.agg (encE a), .agg (encE b)] [] (fun v H => v = .bool (decide (a = b)) ∧ H = []) := by
  refine Tri.of_run' Try.func15 rfl c15_ok (by simp [Try.ntmps15]) ?_
  have hfin : ∀ {k t' h}, AtEnd k → t' 4 = .bool (decide (a = b)) → Run ⟨Try.prog, 15, Try.f15.ntmps, [], fun v H => v = .bool (decide (a = b)) ∧ H = []⟩ ⟨k, t', h⟩ := by
    intro k t' h hk h2
    refine Run.mv [] [(4, .bool (decide (a = b)))] [] (by rfl) (by decide) (by simp [h2]) (by simp) ?_
    exact Run.retI Try.func15 r15_ok hk (by simp [r15]; rfl) (by simp) (by simp) (by simp) (by simp)
  obtain ⟨a1, a2, a3, a4⟩ := a
  obtain ⟨b1, b2, b3, b4⟩ := b
  (repeat (first | refine Run.adm rfl ?_ | refine Run.seq ?_ | (apply Run.opS rfl; (· (simp -implicitDefEqProofs [encE]; exact ⟨rfl, rfl⟩))) | (apply Run.condS; (· (simp -implicitDefEqProofs [encE]; exact rfl)))))
  refine Run.opC rfl rfl rfl (sameT_at a1 b1 hl _) ?_
  rintro v h' ⟨rfl, rfl⟩
  by_cases c1 : a1 = b1
  rotate_left
  · (repeat (first | refine Run.adm rfl ?_ | refine Run.seq ?_ | (apply Run.opS rfl; (· (simp -implicitDefEqProofs [c1]; exact ⟨rfl, rfl⟩))) | (apply Run.condS; (· (simp -implicitDefEqProofs [c1]; exact rfl))))); exact hfin trivial (by simp [c1])
  (repeat (first | refine Run.adm rfl ?_ | refine Run.seq ?_ | (apply Run.opS rfl; (· (simp -implicitDefEqProofs [c1]; exact ⟨rfl, rfl⟩))) | (apply Run.condS; (· (simp -implicitDefEqProofs [c1]; exact rfl)))))
  refine Run.opC rfl (by simp) rfl (sameI_at a2 b2 hl2 _) ?_
  rintro v h' ⟨rfl, rfl⟩
  by_cases c2 : a2 = b2
  rotate_left
  · (repeat (first | refine Run.adm rfl ?_ | refine Run.seq ?_ | (apply Run.opS rfl; (· (simp -implicitDefEqProofs [c2]; exact ⟨rfl, rfl⟩))) | (apply Run.condS; (· (simp -implicitDefEqProofs [c2]; exact rfl))))); exact hfin trivial (by simp [c2])
  by_cases c3 : a3 = b3
  rotate_left
  · (repeat (first | refine Run.adm rfl ?_ | refine Run.seq ?_ | (apply Run.opS rfl; (· (simp -implicitDefEqProofs [c2, c3]; exact ⟨rfl, rfl⟩))) | (apply Run.condS; (· (simp -implicitDefEqProofs [c2, c3]; exact rfl))))); exact hfin trivial (by simp [c3])
  by_cases c4 : a4 = b4
  rotate_left
  · (repeat (first | refine Run.adm rfl ?_ | refine Run.seq ?_ | (apply Run.opS rfl; (· (simp -implicitDefEqProofs [c2, c3, c4]; exact ⟨rfl, rfl⟩))) | (apply Run.condS; (· (simp -implicitDefEqProofs [c2, c3, c4]; exact rfl))))); exact hfin trivial (by simp [c4])
  (repeat (first | refine Run.adm rfl ?_ | refine Run.seq ?_ | (apply Run.opS rfl; (· (simp -implicitDefEqProofs [c2, c3, c4]; exact ⟨rfl, rfl⟩))) | (apply Run.condS; (· (simp -implicitDefEqProofs [c2, c3, c4]; exact rfl))))); exact hfin trivial (by simp [c1, c2, c3, c4])
theorem sameE_at (a b : Ed) (hl : a.add.length ≤ 4611686018427387904) (hl2 : a.drop.length ≤ 4611686018427387904) (H : List O) : Tri Try.prog 15 [.agg (encE a), .agg (encE b)] H (fun v H' => v = .bool (decide (a = b)) ∧ H' = H) := (sameE_tri a b hl hl2).at rfl rfl H
theorem sameZ_tri (a b : St) (hl : a.tabs.length ≤ 4611686018427387904) : Tri Try.prog 20 [.agg (encZ a), .agg (encZ b)] [] (fun v H => v = .bool (decide (a = b)) ∧ H = []) := by
  refine Tri.of_run' Try.func20 rfl c20_ok (by simp [Try.ntmps20]) ?_
  have hfin : ∀ {k t' h}, AtEnd k → t' 4 = .bool (decide (a = b)) → Run ⟨Try.prog, 20, Try.f20.ntmps, [], fun v H => v = .bool (decide (a = b)) ∧ H = []⟩ ⟨k, t', h⟩ := by
    intro k t' h hk h2
    refine Run.mv [] [(4, .bool (decide (a = b)))] [] (by rfl) (by decide) (by simp [h2]) (by simp) ?_
    exact Run.retI Try.func20 r20_ok hk (by simp [r20]; rfl) (by simp) (by simp) (by simp) (by simp)
  obtain ⟨a1, a3, a4⟩ := a
  obtain ⟨b1, b3, b4⟩ := b
  (repeat (first | refine Run.adm rfl ?_ | refine Run.seq ?_ | (apply Run.opS rfl; (· (simp -implicitDefEqProofs [encZ]; exact ⟨rfl, rfl⟩))) | (apply Run.condS; (· (simp -implicitDefEqProofs [encZ]; exact rfl)))))
  refine Run.opC rfl rfl rfl (sameT_at a1 b1 hl _) ?_
  rintro v h' ⟨rfl, rfl⟩
  by_cases c1 : a1 = b1
  rotate_left
  · (repeat (first | refine Run.adm rfl ?_ | refine Run.seq ?_ | (apply Run.opS rfl; (· (simp -implicitDefEqProofs [c1]; exact ⟨rfl, rfl⟩))) | (apply Run.condS; (· (simp -implicitDefEqProofs [c1]; exact rfl))))); exact hfin trivial (by simp [c1])
  by_cases c3 : a3 = b3
  rotate_left
  · (repeat (first | refine Run.adm rfl ?_ | refine Run.seq ?_ | (apply Run.opS rfl; (· (simp -implicitDefEqProofs [c1, c3]; exact ⟨rfl, rfl⟩))) | (apply Run.condS; (· (simp -implicitDefEqProofs [c1, c3]; exact rfl))))); exact hfin trivial (by simp [c3])
  by_cases c4 : a4 = b4
  rotate_left
  · (repeat (first | refine Run.adm rfl ?_ | refine Run.seq ?_ | (apply Run.opS rfl; (· (simp -implicitDefEqProofs [c1, c3, c4]; exact ⟨rfl, rfl⟩))) | (apply Run.condS; (· (simp -implicitDefEqProofs [c1, c3, c4]; exact rfl))))); exact hfin trivial (by simp [c4])
  (repeat (first | refine Run.adm rfl ?_ | refine Run.seq ?_ | (apply Run.opS rfl; (· (simp -implicitDefEqProofs [c1, c3, c4]; exact ⟨rfl, rfl⟩))) | (apply Run.condS; (· (simp -implicitDefEqProofs [c1, c3, c4]; exact rfl))))); exact hfin trivial (by simp [c1, c3, c4])
theorem sameZ_at (a b : St) (hl : a.tabs.length ≤ 4611686018427387904) (H : List O) : Tri Try.prog 20 [.agg (encZ a), .agg (encZ b)] H (fun v H' => v = .bool (decide (a = b)) ∧ H' = H) := (sameZ_tri a b hl).at rfl rfl H

/-! ### how tables stand -/
def aheadB (a b : Tb) : Bool := if a.level = b.level then (if a.level = 0 then decide (b.id < a.id) else Op.bytesLess a.lo b.lo) else decide (a.level < b.level)
/-- not behind -/
def leT (a b : Tb) : Prop := aheadB b a = false
theorem ahead_le {a b : Tb} (h : aheadB a b = true) : leT a b := by
  unfold leT aheadB at *
  by_cases h1 : a.level = b.level
  · rw [if_pos h1] at h
    rw [if_pos h1.symm]
    by_cases h2 : a.level = 0
    · rw [if_pos h2] at h
      rw [if_pos (by omega)]
      simp only [decide_eq_true_eq, decide_eq_false_iff_not] at *; omega
    · rw [if_neg h2] at h
      rw [if_neg (by omega)]
      exact bless_asymm h
  · rw [if_neg h1] at h
    rw [if_neg (fun e => h1 e.symm)]
    simp only [decide_eq_true_eq, decide_eq_false_iff_not] at *; omega
theorem leT_refl (a : Tb) : leT a a := by
  unfold leT aheadB
  rw [if_pos rfl]
  split
  · simp
  · exact bless_irrefl _
theorem leT_trans {a b c : Tb} (h1 : leT a b) (h2 : leT b c) : leT a c := by
  unfold leT aheadB at *
  by_cases e1 : b.level = a.level
  · rw [if_pos e1] at h1
    by_cases e2 : c.level = b.level
    · rw [if_pos e2] at h2
      rw [if_pos (e2.trans e1)]
      by_cases z : c.level = 0
      · rw [if_pos (by omega)] at h1 h2
        rw [if_pos z]
        simp only [decide_eq_false_iff_not] at *; omega
      · rw [if_neg (by omega)] at h1 h2
        rw [if_neg z]
        -- not c < b, not b < a : not c < a
        cases hca : Op.bytesLess c.lo a.lo with
        | false => rfl
        | true =>
          rcases bless_total b.lo c.lo with h | h | h
          · rw [← h, h1] at hca; cases hca
          · rw [bless_trans h hca] at h1; cases h1
          · rw [h] at h2; cases h2
    · rw [if_neg e2] at h2
      rw [if_neg (by omega)]
      simp only [decide_eq_false_iff_not] at *; omega
  · rw [if_neg e1] at h1
    by_cases e2 : c.level = b.level
    · rw [if_neg (by omega)]
      simp only [decide_eq_false_iff_not] at *; omega
    · rw [if_neg e2] at h2
      simp only [decide_eq_false_iff_not] at h1 h2
      rw [if_neg (by omega)]
      simp only [decide_eq_false_iff_not]; omega
/-- what order answers -/
def ordI (a b : Tb) : Int := if aheadB a b = true then -1 else if aheadB b a = true then 1 else 0
theorem ordI_lt (a b : Tb) : (ordI a b < 0) ↔ aheadB a b = true := by
  unfold ordI
  split
  · simp [*]
  · split <;> simp [*]

theorem nanI_tri (a : Int) : Tri Try.prog 74 [.int .i64 a] [] (fun v H => v = .bool false ∧ H = []) := by
  refine Tri.of_run' Try.func74 rfl c74_ok (by simp [Try.ntmps74]) ?_
  (repeat (first | refine Run.adm rfl ?_ | refine Run.seq ?_ | (apply Run.opS rfl; (· (simp -implicitDefEqProofs; exact ⟨rfl, rfl⟩))) | (apply Run.condS; (· (simp -implicitDefEqProofs; exact rfl)))))
  refine Run.retI Try.func74 r74_ok trivial (by simp -implicitDefEqProofs [r74]; rfl) (by simp ) ?_ (by simp -implicitDefEqProofs ) (by simp -implicitDefEqProofs )
  simp
theorem nanS_tri (a : Bs) : Tri Try.prog 75 [.str a] [] (fun v H => v = .bool false ∧ H = []) := by
  refine Tri.of_run' Try.func75 rfl c75_ok (by simp [Try.ntmps75]) ?_
  (repeat (first | refine Run.adm rfl ?_ | refine Run.seq ?_ | (apply Run.opS rfl; (· (simp -implicitDefEqProofs; exact ⟨rfl, rfl⟩))) | (apply Run.condS; (· (simp -implicitDefEqProofs; exact rfl)))))
  refine Run.retI Try.func75 r75_ok trivial (by simp -implicitDefEqProofs [r75]; rfl) (by simp ) ?_ (by simp -implicitDefEqProofs ) (by simp -implicitDefEqProofs )
  simp
theorem cmpI_tri (a b : Int) : Tri Try.prog 67 [.int .i64 a, .int .i64 b] [] (fun v H => v = .int .i64 (if a < b then -1 else if b < a then 1 else 0) ∧ H = []) := by
  refine Tri.of_run' Try.func67 rfl c67_ok (by simp [Try.ntmps67]) ?_
  (repeat (first | refine Run.adm rfl ?_ | refine Run.seq ?_ | (apply Run.opS rfl; (· (simp -implicitDefEqProofs; exact ⟨rfl, rfl⟩))) | (apply Run.condS; (· (simp -implicitDefEqProofs; exact rfl)))))
  refine Run.opC rfl rfl rfl ((nanI_tri a).at rfl rfl _) ?_
  rintro v h' ⟨rfl, rfl⟩
  (repeat (first | refine Run.adm rfl ?_ | refine Run.seq ?_ | (apply Run.opS rfl; (· (simp -implicitDefEqProofs; exact ⟨rfl, rfl⟩))) | (apply Run.condS; (· (simp -implicitDefEqProofs; exact rfl)))))
  refine Run.opC rfl rfl rfl ((nanI_tri b).at rfl rfl _) ?_
  rintro v h' ⟨rfl, rfl⟩
  by_cases h1 : a < b
  · (repeat (first | refine Run.adm rfl ?_ | refine Run.seq ?_ | (apply Run.opS rfl; (· (simp -implicitDefEqProofs [h1]; exact ⟨rfl, rfl⟩))) | (apply Run.condS; (· (simp -implicitDefEqProofs [h1]; exact rfl)))))
    refine Run.retI Try.func67 r67_ok trivial (by simp -implicitDefEqProofs [r67]; rfl) (by simp ) ?_ (by simp -implicitDefEqProofs ) (by simp -implicitDefEqProofs )
    simp [h1]
  · by_cases h2 : b < a
    · (repeat (first | refine Run.adm rfl ?_ | refine Run.seq ?_ | (apply Run.opS rfl; (· (simp -implicitDefEqProofs [h1, h2]; exact ⟨rfl, rfl⟩))) | (apply Run.condS; (· (simp -implicitDefEqProofs [h1, h2]; exact rfl)))))
      refine Run.retI Try.func67 r67_ok trivial (by simp -implicitDefEqProofs [r67]; rfl) (by simp ) ?_ (by simp -implicitDefEqProofs ) (by simp -implicitDefEqProofs )
      simp [h1, h2]
    · (repeat (first | refine Run.adm rfl ?_ | refine Run.seq ?_ | (apply Run.opS rfl; (· (simp -implicitDefEqProofs [h1, h2]; exact ⟨rfl, rfl⟩))) | (apply Run.condS; (· (simp -implicitDefEqProofs [h1, h2]; exact rfl)))))
      refine Run.retI Try.func67 r67_ok trivial (by simp -implicitDefEqProofs [r67]; rfl) (by simp ) ?_ (by simp -implicitDefEqProofs ) (by simp -implicitDefEqProofs )
      simp [h1, h2]
theorem cmpS_tri (a b : Bs) : Tri Try.prog 68 [.str a, .str b] [] (fun v H => v = .int .i64 (if Op.bytesLess a b = true then -1 else if Op.bytesLess b a = true then 1 else 0) ∧ H = []) := by
  refine Tri.of_run' Try.func68 rfl c68_ok (by simp [Try.ntmps68]) ?_
  (repeat (first | refine Run.adm rfl ?_ | refine Run.seq ?_ | (apply Run.opS rfl; (· (simp -implicitDefEqProofs; exact ⟨rfl, rfl⟩))) | (apply Run.condS; (· (simp -implicitDefEqProofs; exact rfl)))))
  refine Run.opC rfl rfl rfl ((nanS_tri a).at rfl rfl _) ?_
  rintro v h' ⟨rfl, rfl⟩
  (repeat (first | refine Run.adm rfl ?_ | refine Run.seq ?_ | (apply Run.opS rfl; (· (simp -implicitDefEqProofs; exact ⟨rfl, rfl⟩))) | (apply Run.condS; (· (simp -implicitDefEqProofs; exact rfl)))))
  refine Run.opC rfl rfl rfl ((nanS_tri b).at rfl rfl _) ?_
  rintro v h' ⟨rfl, rfl⟩
  cases h1 : Op.bytesLess a b with
  | true =>
    (repeat (first | refine Run.adm rfl ?_ | refine Run.seq ?_ | (apply Run.opS rfl; (· (simp -implicitDefEqProofs [h1]; exact ⟨rfl, rfl⟩))) | (apply Run.condS; (· (simp -implicitDefEqProofs [h1]; exact rfl)))))
    refine Run.retI Try.func68 r68_ok trivial (by simp -implicitDefEqProofs [r68]; rfl) (by simp ) ?_ (by simp -implicitDefEqProofs ) (by simp -implicitDefEqProofs )
    simp
  | false =>
    cases h2 : Op.bytesLess b a with
    | true =>
      have hne : ¬ a = b := (bless_ne h2).symm
      (repeat (first | refine Run.adm rfl ?_ | refine Run.seq ?_ | (apply Run.opS rfl; (· (simp -implicitDefEqProofs [h1, h2, hne]; exact ⟨rfl, rfl⟩))) | (apply Run.condS; (· (simp -implicitDefEqProofs [h1, h2, hne]; exact rfl)))))
      refine Run.retI Try.func68 r68_ok trivial (by simp -implicitDefEqProofs [r68]; rfl) (by simp ) ?_ (by simp -implicitDefEqProofs ) (by simp -implicitDefEqProofs )
      simp
    | false =>
      have heq : a = b := by
        rcases bless_total a b with h | h | h
        · exact h
        · rw [h] at h1; cases h1
        · rw [h] at h2; cases h2
      subst heq
      (repeat (first | refine Run.adm rfl ?_ | refine Run.seq ?_ | (apply Run.opS rfl; (· (simp -implicitDefEqProofs [h1]; exact ⟨rfl, rfl⟩))) | (apply Run.condS; (· (simp -implicitDefEqProofs [h1]; exact rfl)))))
      refine Run.retI Try.func68 r68_ok trivial (by simp -implicitDefEqProofs [r68]; rfl) (by simp ) ?_ (by simp -implicitDefEqProofs ) (by simp -implicitDefEqProofs )
      simp

theorem order_tri (a b : Tb) : Tri Try.prog 50 [.agg (encT a), .agg (encT b)] [] (fun v H => v = .int .i64 (ordI a b) ∧ H = []) := by
  refine Tri.of_run' Try.func50 rfl c50_ok (by simp [Try.ntmps50]) ?_
  have hfin : ∀ {k t' h}, AtEnd k → t' 4 = .int .i64 (ordI a b) → Run ⟨Try.prog, 50, Try.f50.ntmps, [], fun v H => v = .int .i64 (ordI a b) ∧ H = []⟩ ⟨k, t', h⟩ := by
    intro k t' h hk h2
    refine Run.mv [] [(4, .int .i64 (ordI a b))] [] (by rfl) (by decide) (by simp [h2]) (by simp) ?_
    exact Run.retI Try.func50 r50_ok hk (by simp [r50]; rfl) (by simp) (by simp) (by simp) (by simp)
  by_cases h1 : a.level = b.level
  rotate_left
  · (repeat (first | refine Run.adm rfl ?_ | refine Run.seq ?_ | (apply Run.opS rfl; (· (simp -implicitDefEqProofs [encT, h1]; exact ⟨rfl, rfl⟩))) | (apply Run.condS; (· (simp -implicitDefEqProofs [encT, h1]; exact rfl)))))
    refine Run.opC rfl rfl rfl ((cmpI_tri a.level b.level).at rfl rfl _) ?_
    rintro v h' ⟨rfl, rfl⟩
    (repeat (first | refine Run.adm rfl ?_ | refine Run.seq ?_ | (apply Run.opS rfl; (· (simp -implicitDefEqProofs; exact ⟨rfl, rfl⟩))) | (apply Run.condS; (· (simp -implicitDefEqProofs; exact rfl)))))
    exact hfin trivial (by
      have h1' : ¬ b.level = a.level := fun e => h1 e.symm
      simp [ordI, aheadB, h1, h1'])
  by_cases h2 : a.level = 0
  · have h2b : b.level = 0 := by omega
    (repeat (first | refine Run.adm rfl ?_ | refine Run.seq ?_ | (apply Run.opS rfl; (· (simp -implicitDefEqProofs [encT, h1, h2, h2b]; exact ⟨rfl, rfl⟩))) | (apply Run.condS; (· (simp -implicitDefEqProofs [encT, h1, h2, h2b]; exact rfl)))))
    refine Run.opC rfl rfl rfl ((cmpI_tri b.id a.id).at rfl rfl _) ?_
    rintro v h' ⟨rfl, rfl⟩
    (repeat (first | refine Run.adm rfl ?_ | refine Run.seq ?_ | (apply Run.opS rfl; (· (simp -implicitDefEqProofs; exact ⟨rfl, rfl⟩))) | (apply Run.condS; (· (simp -implicitDefEqProofs; exact rfl)))))
    exact hfin trivial (by simp [ordI, aheadB, h2, h2b])
  · have h2b : ¬ b.level = 0 := by omega
    (repeat (first | refine Run.adm rfl ?_ | refine Run.seq ?_ | (apply Run.opS rfl; (· (simp -implicitDefEqProofs [encT, h1, h2, h2b]; exact ⟨rfl, rfl⟩))) | (apply Run.condS; (· (simp -implicitDefEqProofs [encT, h1, h2, h2b]; exact rfl)))))
    refine Run.opC rfl rfl rfl ((cmpS_tri a.lo b.lo).at rfl rfl _) ?_
    rintro v h' ⟨rfl, rfl⟩
    (repeat (first | refine Run.adm rfl ?_ | refine Run.seq ?_ | (apply Run.opS rfl; (· (simp -implicitDefEqProofs; exact ⟨rfl, rfl⟩))) | (apply Run.condS; (· (simp -implicitDefEqProofs; exact rfl)))))
    exact hfin trivial (by simp [ordI, aheadB, h1, h2, h2b])
theorem order_at (a b : Tb) (H : List O) : Tri Try.prog 50 [.agg (encT a), .agg (encT b)] H (fun v H' => v = .int .i64 (ordI a b) ∧ H' = H) := (order_tri a b).at rfl rfl H

end Go.Proofs.Ytpipgcmiaccdkaa
