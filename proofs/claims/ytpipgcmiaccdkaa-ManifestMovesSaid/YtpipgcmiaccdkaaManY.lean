/-
  Layer 12, part Y: Replay; what must come; the law ManifestTexts.
-/
import Derived.Test.YtpipgcmiaccdkaaManX
namespace Go.Proofs.Ytpipgcmiaccdkaa
open Sx Go
set_option maxRecDepth 100000
set_option linter.unusedSimpArgs false
set_option linter.unusedVariables false
set_option linter.unnecessarySimpa false
attribute [local simp] stepV condR boundsC appendG appendO copyV srcC guardB isCall opStep Opd.ev put readAt aBin aUn args0 V.celled V.ones V.one V.cells putAt bounds bound1 elemsOf srcOf appendV fillAt fillEl V.pures V.pure unwind evs ARes.ev mkRes V.ren V.renL O.ren eqCells eq1 aEq aMM hasTy hasTyN okTy mmGo Known HLe OLe VsLe.refl VLe.refl VLe.cap Stay VsLe V.frz V.frzL O.frz fr clearV rn KnownR Objs OLeO ObjsE nm back setAll ren_ite take_map_len List.take_of_length_le
attribute [local simp ↓] upd_app tl_cons tl_nil
attribute [local simp] encT_ren encT_ones encT_len encT_take encN_ren encN_ones encN_len encN_take
attribute [local simp] encE_ren encE_len encE_take encZ_ren encZ_len encZ_take
attribute [local simp] encS_ren encS_ones encS_len encS_take

theorem good_nil : GoodT [] := ⟨List.Pairwise.nil, List.nodup_nil, by simp⟩
theorem applyR_good {s : St} (e : Ed) (h : GoodT s.tabs) : GoodT (applyR s e).1.tabs := by
  unfold applyR
  split
  · rename_i hm
    split
    · rename_i ho; exact built_good hm h ho.2.2.2.1
    · exact good_nil
  · exact good_nil
theorem applyR_len (s : St) (e : Ed) : (applyR s e).1.tabs.length ≤ s.tabs.length + 128 := by
  unfold applyR
  split
  · rename_i hm
    have hal : e.add.length ≤ 128 := (mayE_spec hm).1
    have hkl : (kept s e).length ≤ s.tabs.length := List.length_filter_le _ _
    split
    · simp only [built, foldl_len]; omega
    · simp [z0]
  · simp [z0]

def repM : St → List Bs → St × Int
  | s, [] => (s, 0)
  | s, t :: r => if (takeP t).2 = 0 ∧ (applyR s (takeP t).1).2 = 0 then repM (applyR s (takeP t).1).1 r else (z0, 120)

theorem rep_tri (l : List Bs) (hl : l.length ≤ 1000) (ht : ∀ t ∈ l, t.length ≤ 1099511627776) : Tri Try.prog 24 [.vs (l.map encS) 1] [] (fun v H => v = .tup [.agg (encZ (repM z0 l).1), .int .i64 (repM z0 l).2] ∧ H = []) := by
  refine Tri.of_run' Try.func24 rfl c24_ok (by simp [Try.ntmps24]) ?_
  have hend : ∀ {st n k t h}, repM z0 l = (st, n) → AtEnd k → t 2 = .ptr 0 0 → t 3 = .int .i64 n → (∃ c, h[0]? = some (.row c) ∧ VsLe c (encZ st)) → Run ⟨Try.prog, 24, Try.f24.ntmps, [], fun v H => v = .tup [.agg (encZ (repM z0 l).1), .int .i64 (repM z0 l).2] ∧ H = []⟩ ⟨k, t, h⟩ := by
    rintro st n k t h hr hk h2 h3 ⟨c, ho, hle⟩
    refine Run.mv [0] [(2, .ptr 0 0), (3, .int .i64 n)] [.row (encZ st)] (by rfl) (by decide) (by simp [h2, h3]) (by simp only [Objs, ho, OLeO, O.ren]; exact ⟨hle, trivial⟩) ?_
    refine Run.ret0 rfl Try.func24 r24_ok hk (by simp [r24]; rfl) ?_ (by simp)
    simp [hr]
  (repeat (first | refine Run.adm rfl ?_ | refine Run.seq ?_ | (apply Run.opS rfl; (· (simp -implicitDefEqProofs; exact ⟨rfl, rfl⟩))) | (apply Run.condS; (· (simp -implicitDefEqProofs; exact rfl)))))
  refine Run.loopC [0, 1] (fun (a : Nat × St) => ([(2, .ptr 0 0), (3, .int .i64 0), (4, .ptr 1 0), (9, .vs (l.map encS) 1), (10, .int .i64 l.length), (11, .int .i64 a.1)], [.row [.nils, .int .i64 0, .int .i64 0], .row (encZ a.2)]))
    (fun a => a.1 ≤ l.length ∧ GoodT a.2.tabs ∧ a.2.tabs.length ≤ a.1 * 128 ∧ repM z0 l = repM a.2 (l.drop a.1)) (fun a => l.length - a.1) (0, z0) ⟨Nat.zero_le _, good_nil, by simp [z0], rfl⟩ (by rfl) (by decide) (by simp) (by simp [encZ, z0, VLe.nils]) ?_
  rintro ⟨i, s⟩ ⟨hi, hg, hsl, hgo⟩ ih
  simp only at hi hg hsl hgo ih ⊢
  by_cases hlt : i < l.length
  · obtain ⟨x, hx, hxi, hdrop, hmem⟩ := getL hlt
    have hlt' : (i : Int) < l.length := by omega
    have hw := wrap_small (n := (i : Int) + 1) (by omega) (by omega)
    have ht1 := fun H => take_at x (ht x (List.mem_of_getElem? hx)) H
    have hap := fun H => apply_at s (takeP x).1 hg (by omega) H
    have hgd := applyR_good (takeP x).1 hg
    have hln := applyR_len s (takeP x).1
    rw [hdrop, repM] at hgo
    generalize takeP x = p at *
    obtain ⟨e, pe⟩ := p
    simp only at ht1 hap hgd hln hgo
    generalize applyR s e = q at *
    obtain ⟨s2, pq⟩ := q
    simp only at hap hgd hln hgo
    simp only [encZ, encE] at hap
    (repeat (first | refine Run.adm rfl ?_ | refine Run.seq ?_ | (apply Run.opS rfl; (· (simp -implicitDefEqProofs [hlt, hlt', hx, hxi, encS]; exact ⟨rfl, rfl⟩))) | (apply Run.condS; (· (simp -implicitDefEqProofs [hlt, hlt', hx, hxi, encS]; exact rfl)))))
    refine Run.opC rfl rfl rfl (ht1 _) ?_
    rintro v h' ⟨rfl, rfl⟩
    by_cases hp : pe = 0
    rotate_left
    · rw [if_neg (fun h => hp h.1)] at hgo
      (repeat (first | refine Run.adm rfl ?_ | refine Run.seq ?_ | (apply Run.opS rfl; (· (simp -implicitDefEqProofs [hp, encE]; exact ⟨rfl, rfl⟩))) | (apply Run.condS; (· (simp -implicitDefEqProofs [hp, encE]; exact rfl)))))
      exact hend hgo trivial (by simp) (by simp) ⟨_, by simp; rfl, by simp [encZ, z0, VsLe, VLe.refl, VLe.nils]⟩
    (repeat (first | refine Run.adm rfl ?_ | refine Run.seq ?_ | (apply Run.opS rfl; (· (simp -implicitDefEqProofs [hp, encE, encZ]; exact ⟨rfl, rfl⟩))) | (apply Run.condS; (· (simp -implicitDefEqProofs [hp, encE, encZ]; exact rfl)))))
    refine Run.opC rfl rfl rfl (hap _) ?_
    rintro v h' ⟨rfl, rfl⟩
    by_cases hq : pq = 0
    rotate_left
    · rw [if_neg (fun h => hq h.2)] at hgo
      (repeat (first | refine Run.adm rfl ?_ | refine Run.seq ?_ | (apply Run.opS rfl; (· (simp -implicitDefEqProofs [hq, encZ]; exact ⟨rfl, rfl⟩))) | (apply Run.condS; (· (simp -implicitDefEqProofs [hq, encZ]; exact rfl)))))
      exact hend hgo trivial (by simp) (by simp) ⟨_, by simp; rfl, by simp [encZ, z0, VsLe, VLe.refl, VLe.nils]⟩
    rw [if_pos ⟨hp, hq⟩] at hgo
    (repeat (first | refine Run.adm rfl ?_ | refine Run.seq ?_ | (apply Run.opS rfl; (· (simp -implicitDefEqProofs [hq, encZ]; exact ⟨rfl, rfl⟩))) | (apply Run.condS; (· (simp -implicitDefEqProofs [hq, encZ]; exact rfl)))))
    refine Run.mv [0, 1] _ _ (by rfl) (by decide) (by simp -implicitDefEqProofs [hw, encZ, hq]) (by simp -implicitDefEqProofs [hw, encZ, hq]) (ih ((i + 1, s2)) ?_ ?_)
    · exact ⟨by simp only; omega, hgd, by simp only; omega, hgo⟩
    · simp only; omega
  · have : i = l.length := by omega
    subst this
    rw [List.drop_length, repM] at hgo
    (repeat (first | refine Run.adm rfl ?_ | refine Run.seq ?_ | (apply Run.opS rfl; (· (simp -implicitDefEqProofs [encZ]; exact ⟨rfl, rfl⟩))) | (apply Run.condS; (· (simp -implicitDefEqProofs [encZ]; exact rfl)))))
    exact hend hgo trivial (by simp) (by simp) ⟨_, by simp; rfl, by simp [encZ, VsLe, VLe.refl]⟩
theorem rep_at (l : List Bs) (hl : l.length ≤ 1000) (ht : ∀ t ∈ l, t.length ≤ 1099511627776) (H : List O) : Tri Try.prog 24 [.vs (l.map encS) 1] H (fun v H' => v = .tup [.agg (encZ (repM z0 l).1), .int .i64 (repM z0 l).2] ∧ H' = H) := (rep_tri l hl ht).any (fun v ρ h => by rw [h]; rfl) (fun ρ => by simp [V.renL, V.ren]) H

theorem rrep_tri (l : List Bs) (hl : l.length ≤ 1000) (ht : ∀ t ∈ l, t.length ≤ 1099511627776) : Tri Try.prog 25 [.vs (l.map encS) 1] [] (fun v H => v = .tup [.agg (encZ (repM z0 l).1), .int .i64 (repM z0 l).2] ∧ H = []) := by
  refine Tri.of_run' Try.func25 rfl c25_ok (by simp [Try.ntmps25]) ?_
  have hend : ∀ {st n k t h}, repM z0 l = (st, n) → AtEnd k → t 2 = .ptr 0 0 → t 3 = .int .i64 n → (∃ c, h[0]? = some (.row c) ∧ VsLe c (encZ st)) → Run ⟨Try.prog, 25, Try.f25.ntmps, [], fun v H => v = .tup [.agg (encZ (repM z0 l).1), .int .i64 (repM z0 l).2] ∧ H = []⟩ ⟨k, t, h⟩ := by
    rintro st n k t h hr hk h2 h3 ⟨c, ho, hle⟩
    refine Run.mv [0] [(2, .ptr 0 0), (3, .int .i64 n)] [.row (encZ st)] (by rfl) (by decide) (by simp [h2, h3]) (by simp only [Objs, ho, OLeO, O.ren]; exact ⟨hle, trivial⟩) ?_
    refine Run.ret0 rfl Try.func25 r25_ok hk (by simp [r25]; rfl) ?_ (by simp)
    simp [hr]
  (repeat (first | refine Run.adm rfl ?_ | refine Run.seq ?_ | (apply Run.opS rfl; (· (simp -implicitDefEqProofs; exact ⟨rfl, rfl⟩))) | (apply Run.condS; (· (simp -implicitDefEqProofs; exact rfl)))))
  refine Run.loopC [0, 1] (fun (a : Nat × St) => ([(0, .vs (l.map encS) 1), (2, .ptr 0 0), (3, .int .i64 0), (4, .ptr 1 0), (5, .int .i64 a.1)], [.row [.nils, .int .i64 0, .int .i64 0], .row (encZ a.2)]))
    (fun a => a.1 ≤ l.length ∧ a.2.tabs.length ≤ a.1 * 128 ∧ repM z0 l = repM a.2 (l.drop a.1)) (fun a => l.length - a.1) (0, z0) ⟨Nat.zero_le _, by simp [z0], rfl⟩ (by rfl) (by decide) (by simp) (by simp [encZ, z0, VLe.nils]) ?_
  rintro ⟨i, s⟩ ⟨hi, hsl, hgo⟩ ih
  simp only at hi hsl hgo ih ⊢
  by_cases hlt : i < l.length
  · obtain ⟨x, hx, hxi, hdrop, hmem⟩ := getL hlt
    have hlt' : (i : Int) < l.length := by omega
    have hw := wrap_small (n := (i : Int) + 1) (by omega) (by omega)
    have ht1 := fun H => rtake_at x (ht x (List.mem_of_getElem? hx)) H
    rw [take_same] at ht1
    have hap := fun H => rapply_at s (takeP x).1 (by omega) H
    have hln := applyR_len s (takeP x).1
    rw [hdrop, repM] at hgo
    generalize takeP x = p at *
    obtain ⟨e, pe⟩ := p
    simp only at ht1 hap hln hgo
    generalize applyR s e = q at *
    obtain ⟨s2, pq⟩ := q
    simp only at hap hln hgo
    simp only [encZ, encE] at hap
    (repeat (first | refine Run.adm rfl ?_ | refine Run.seq ?_ | (apply Run.opS rfl; (· (simp -implicitDefEqProofs [hlt, hlt', hx, hxi, encS]; exact ⟨rfl, rfl⟩))) | (apply Run.condS; (· (simp -implicitDefEqProofs [hlt, hlt', hx, hxi, encS]; exact rfl)))))
    refine Run.opC rfl rfl rfl (ht1 _) ?_
    rintro v h' ⟨rfl, rfl⟩
    by_cases hp : pe = 0
    rotate_left
    · rw [if_neg (fun h => hp h.1)] at hgo
      (repeat (first | refine Run.adm rfl ?_ | refine Run.seq ?_ | (apply Run.opS rfl; (· (simp -implicitDefEqProofs [hp, encE]; exact ⟨rfl, rfl⟩))) | (apply Run.condS; (· (simp -implicitDefEqProofs [hp, encE]; exact rfl)))))
      exact hend hgo trivial (by simp) (by simp) ⟨_, by simp; rfl, by simp [encZ, z0, VsLe, VLe.refl, VLe.nils]⟩
    (repeat (first | refine Run.adm rfl ?_ | refine Run.seq ?_ | (apply Run.opS rfl; (· (simp -implicitDefEqProofs [hp, encE, encZ]; exact ⟨rfl, rfl⟩))) | (apply Run.condS; (· (simp -implicitDefEqProofs [hp, encE, encZ]; exact rfl)))))
    refine Run.opC rfl rfl rfl (hap _) ?_
    rintro v h' ⟨rfl, rfl⟩
    by_cases hq : pq = 0
    rotate_left
    · rw [if_neg (fun h => hq h.2)] at hgo
      (repeat (first | refine Run.adm rfl ?_ | refine Run.seq ?_ | (apply Run.opS rfl; (· (simp -implicitDefEqProofs [hq, encZ]; exact ⟨rfl, rfl⟩))) | (apply Run.condS; (· (simp -implicitDefEqProofs [hq, encZ]; exact rfl)))))
      exact hend hgo trivial (by simp) (by simp) ⟨_, by simp; rfl, by simp [encZ, z0, VsLe, VLe.refl, VLe.nils]⟩
    rw [if_pos ⟨hp, hq⟩] at hgo
    (repeat (first | refine Run.adm rfl ?_ | refine Run.seq ?_ | (apply Run.opS rfl; (· (simp -implicitDefEqProofs [hq, encZ]; exact ⟨rfl, rfl⟩))) | (apply Run.condS; (· (simp -implicitDefEqProofs [hq, encZ]; exact rfl)))))
    refine Run.mv [0, 1] _ _ (by rfl) (by decide) (by simp -implicitDefEqProofs [hw, encZ]) (by simp -implicitDefEqProofs [hw, encZ]) (ih ((i + 1, s2)) ?_ ?_)
    · exact ⟨by simp only; omega, by simp only; omega, hgo⟩
    · simp only; omega
  · have : i = l.length := by omega
    subst this
    rw [List.drop_length, repM] at hgo
    (repeat (first | refine Run.adm rfl ?_ | refine Run.seq ?_ | (apply Run.opS rfl; (· (simp -implicitDefEqProofs [encZ]; exact ⟨rfl, rfl⟩))) | (apply Run.condS; (· (simp -implicitDefEqProofs [encZ]; exact rfl)))))
    exact hend hgo trivial (by simp) (by simp) ⟨_, by simp; rfl, by simp [encZ, VsLe, VLe.refl]⟩
theorem rrep_at (l : List Bs) (hl : l.length ≤ 1000) (ht : ∀ t ∈ l, t.length ≤ 1099511627776) (H : List O) : Tri Try.prog 25 [.vs (l.map encS) 1] H (fun v H' => v = .tup [.agg (encZ (repM z0 l).1), .int .i64 (repM z0 l).2] ∧ H' = H) := (rrep_tri l hl ht).any (fun v ρ h => by rw [h]; rfl) (fun ρ => by simp [V.renL, V.ren]) H

/-! ### what must come -/
def awE : Ed := ⟨[⟨1, 0, [97], [99]⟩], [], 2, 3⟩
def awS : St := ⟨[⟨1, 0, [97], [99]⟩], 2, 3⟩
theorem aw_may : mayE awE = true := by decide +kernel
theorem aw_len : (bytesE awE).length = 10 := by decide +kernel
theorem aw_apply : applyR z0 awE = (awS, 0) := by decide +kernel
theorem aw_over : ovl awS.tabs 0 [99] [100] = awS.tabs := by decide +kernel

theorem aw_apply_at (H : List O) : Tri Try.prog 18 [.agg [.nils, .int .i64 0, .int .i64 0], .agg (encE awE)] H (fun v H' => v = .tup [.agg (encZ awS), .int .i64 0] ∧ H' = H) := by
  have h := apply_at z0 awE good_nil (by decide) H
  rw [aw_apply] at h
  have hv : VsLe [V.agg [.nils, .int .i64 0, .int .i64 0], .agg (encE awE)] [.agg (encZ z0), .agg (encE awE)] := ⟨VLe.agg ⟨VLe.nils _, VLe.refl _, VLe.refl _, trivial⟩, VLe.refl _, trivial⟩
  exact Tri.args hv h
theorem awake_tri : Tri Try.prog 10 [] [] (fun v H => v = .bool true ∧ H = []) := by
  have h1 := fun H => put_at awE H
  rw [putM, if_pos aw_may] at h1
  have h2 := fun H => take_at (bytesE awE) (by rw [aw_len]; decide) H
  rw [take_put aw_may] at h2
  have h4 := fun H => sameE_at awE awE (by decide) (by decide) H
  rw [decide_eq_true rfl] at h4
  have h5 := fun H => over_at awS.tabs 2 3 0 [99] [100] (by decide) H
  rw [aw_over] at h5
  have hl := aw_len
  generalize bytesE awE = b at *
  have hz : ∀ x, VLe (.agg [.vs x 4, .nils, .int .i64 2, .int .i64 3]) (.agg [.vs x 4, .vs [] 1, .int .i64 2, .int .i64 3]) := fun x => VLe.agg ⟨VLe.refl _, VLe.nils _, VLe.refl _, VLe.refl _, trivial⟩
  have h3' := aw_apply_at
  refine Tri.of_run' Try.func10 rfl c10_ok (by simp [Try.ntmps10]) ?_
  (repeat (first | refine Run.adm rfl ?_ | refine Run.seq ?_ | (apply Run.opS rfl; (· (simp -implicitDefEqProofs; exact ⟨rfl, rfl⟩))) | (apply Run.condS; (· (simp -implicitDefEqProofs; exact rfl)))))
  refine Run.freeze 0 (es := [[.int .i64 1, .int .i64 0, .str [97], .str [99]]]) (sz := 4) (by simp) ?_
  refine Run.mv [1] [(0, .bool false), (1, .ptr 0 0), (12, .agg (encE awE))] [.row (encE awE)] (by rfl) (by decide) (by simp -implicitDefEqProofs [encE, awE, encT, VLe.nils, hz]) (by simp -implicitDefEqProofs [encE, awE, encT, VLe.nils, hz]) ?_
  (repeat (first | refine Run.adm rfl ?_ | refine Run.seq ?_ | (apply Run.opS rfl; (· (simp -implicitDefEqProofs; exact ⟨rfl, rfl⟩))) | (apply Run.condS; (· (simp -implicitDefEqProofs; exact rfl)))))
  refine Run.opC rfl rfl rfl (h1 _) ?_
  rintro v h' ⟨rfl, rfl⟩
  (repeat (first | refine Run.adm rfl ?_ | refine Run.seq ?_ | (apply Run.opS rfl; (· (simp -implicitDefEqProofs; exact ⟨rfl, rfl⟩))) | (apply Run.condS; (· (simp -implicitDefEqProofs; exact rfl)))))
  refine Run.opC rfl rfl rfl (h2 _) ?_
  rintro v h' ⟨rfl, rfl⟩
  (repeat (first | refine Run.adm rfl ?_ | refine Run.seq ?_ | (apply Run.opS rfl; (· (simp -implicitDefEqProofs [encE]; exact ⟨rfl, rfl⟩))) | (apply Run.condS; (· (simp -implicitDefEqProofs [encE]; exact rfl)))))
  refine Run.opC rfl rfl rfl (h3' _) ?_
  rintro v h' ⟨rfl, rfl⟩
  have hl' : (b.length : Int) = 10 := by omega
  have e1 : awE = ⟨[⟨1, 0, [97], [99]⟩], [], 2, 3⟩ := rfl
  have e2 : awS = ⟨[⟨1, 0, [97], [99]⟩], 2, 3⟩ := rfl
  refine Run.mv [0, 1] [(0, .bool false), (1, .ptr 0 0), (4, .ptr 1 0), (2, .str b), (3, .int .i64 0), (5, .int .i64 0), (24, .tup [.agg (encZ awS), .int .i64 0])] [.row (encE awE), .row (encE awE)] (by rfl) (by decide) (by simp -implicitDefEqProofs [encE]) (by simp -implicitDefEqProofs [encE]) ?_
  (repeat (first | refine Run.adm rfl ?_ | refine Run.seq ?_ | (apply Run.opS rfl; (· (simp -implicitDefEqProofs [hl, hl', encZ, e2]; exact ⟨rfl, rfl⟩))) | (apply Run.condS; (· (simp -implicitDefEqProofs [hl, hl', encZ, e2]; exact rfl)))))
  refine Run.opC rfl (by simp [hl']) rfl (h4 _) ?_
  rintro v h' ⟨rfl, rfl⟩
  (repeat (first | refine Run.adm rfl ?_ | refine Run.seq ?_ | (apply Run.opS rfl; (· (simp -implicitDefEqProofs [encZ, e2]; exact ⟨rfl, rfl⟩))) | (apply Run.condS; (· (simp -implicitDefEqProofs [encZ, e2]; exact rfl)))))
  refine Run.opC rfl (by simp) rfl (h5 _) ?_
  rintro v h' ⟨rfl, rfl⟩
  (repeat (first | refine Run.adm rfl ?_ | refine Run.seq ?_ | (apply Run.opS rfl; (· (simp -implicitDefEqProofs [e2]; exact ⟨rfl, rfl⟩))) | (apply Run.condS; (· (simp -implicitDefEqProofs [e2]; exact rfl)))))
  refine Run.mv [] [(0, .bool true)] [] (by rfl) (by decide) (by simp -implicitDefEqProofs) (by simp -implicitDefEqProofs) ?_
  refine Run.ret0 rfl Try.func10 r10_ok trivial (by simp [r10]; rfl) ?_ (by simp)
  simp
theorem awake_at (H : List O) : Tri Try.prog 10 [] H (fun v H' => v = .bool true ∧ H' = H) := awake_tri.at rfl rfl H

theorem texts_law (e : Ed) (s : Bs) : Tri Try.prog 3 [.agg (encE e), .str s] [] (fun v H => v = .bool true ∧ H = []) := by
  refine Tri.of_run' Try.func3 rfl c3_ok (by simp [Try.ntmps3]) ?_
  have hend : ∀ {k t h}, AtEnd k → t 4 = .bool true → Run ⟨Try.prog, 3, Try.f3.ntmps, [], fun v H => v = .bool true ∧ H = []⟩ ⟨k, t, h⟩ := by
    intro k t h hk h6
    refine Run.mv [] [(4, .bool true)] [] (by rfl) (by decide) (by simp [h6]) (by simp) ?_
    refine Run.ret0 rfl Try.func3 r3_ok hk (by simp [r3]; rfl) ?_ (by simp)
    simp
  have hlt := fun H => light_at e H
  have hp1 := fun H => put_at e H
  have hp2 := fun H => rput_at e H
  have hc1 := fun H => check_at e H
  have hc2 := fun H => rcheck_at e H
  have hpm : ∀ a f, putM e = (a, f) → f = 0 → mayE e = true ∧ a = bytesE e := by
    intro a f h0 h1
    unfold putM at h0
    split at h0
    · rename_i hm; cases h0; exact ⟨hm, rfl⟩
    · cases h0; cases h1
  (repeat (first | refine Run.adm rfl ?_ | refine Run.seq ?_ | (apply Run.opS rfl; (· (simp -implicitDefEqProofs [encE]; exact ⟨rfl, rfl⟩))) | (apply Run.condS; (· (simp -implicitDefEqProofs [encE]; exact rfl)))))
  refine Run.mv [0] [(1, .str s), (2, .ptr 0 0), (15, .agg (encE e))] [.row (encE e)] (by rfl) (by decide) (by simp -implicitDefEqProofs [encE]) (by simp -implicitDefEqProofs [encE]) ?_
  (repeat (first | refine Run.adm rfl ?_ | refine Run.seq ?_ | (apply Run.opS rfl; (· (simp -implicitDefEqProofs; exact ⟨rfl, rfl⟩))) | (apply Run.condS; (· (simp -implicitDefEqProofs; exact rfl)))))
  refine Run.opC rfl rfl rfl (hlt _) ?_
  rintro v h' ⟨rfl, rfl⟩
  cases hli : lightM e with
  | false =>
    (repeat (first | refine Run.adm rfl ?_ | refine Run.seq ?_ | (apply Run.opS rfl; (· (simp -implicitDefEqProofs; exact ⟨rfl, rfl⟩))) | (apply Run.condS; (· (simp -implicitDefEqProofs; exact rfl)))))
    refine Run.opC rfl rfl rfl (awake_at _) ?_
    rintro v h' ⟨rfl, rfl⟩
    (repeat (first | refine Run.adm rfl ?_ | refine Run.seq ?_ | (apply Run.opS rfl; (· (simp -implicitDefEqProofs; exact ⟨rfl, rfl⟩))) | (apply Run.condS; (· (simp -implicitDefEqProofs; exact rfl)))))
    exact hend trivial (by simp)
  | true =>
  by_cases hsl : 4096 < s.length
  · have hsl' : (4096 : Int) < s.length := by omega
    (repeat (first | refine Run.adm rfl ?_ | refine Run.seq ?_ | (apply Run.opS rfl; (· (simp -implicitDefEqProofs [hsl, hsl']; exact ⟨rfl, rfl⟩))) | (apply Run.condS; (· (simp -implicitDefEqProofs [hsl, hsl']; exact rfl)))))
    refine Run.opC rfl rfl rfl (awake_at _) ?_
    rintro v h' ⟨rfl, rfl⟩
    (repeat (first | refine Run.adm rfl ?_ | refine Run.seq ?_ | (apply Run.opS rfl; (· (simp -implicitDefEqProofs; exact ⟨rfl, rfl⟩))) | (apply Run.condS; (· (simp -implicitDefEqProofs; exact rfl)))))
    exact hend trivial (by simp)
  have hsl' : ¬ (4096 : Int) < s.length := by omega
  have hel : e.add.length ≤ 140 ∧ e.drop.length ≤ 140 := by
    simp only [lightM, Bool.and_eq_true, decide_eq_true_eq] at hli; exact ⟨hli.1.2, hli.2⟩
  have ht1 := fun H => take_at s (by omega) H
  have ht2 := fun H => rtake_at s (by omega) H
  rw [take_same] at ht2
  have hcl : (takeP s).1.add.length ≤ 4611686018427387904 ∧ (takeP s).1.drop.length ≤ 4611686018427387904 := by
    unfold takeP
    split
    · rename_i hm; have := mayE_spec hm.2.2; exact ⟨Nat.le_trans this.1 (by decide), Nat.le_trans this.2.1 (by decide)⟩
    · simp [e0]
  generalize takeP s = q at *
  obtain ⟨c, hq⟩ := q
  simp only at ht1 ht2 hcl
  have hs1 := fun H => sameE_at c c hcl.1 hcl.2 H
  rw [decide_eq_true rfl] at hs1
  have hs2 := fun H => sameE_at e e (by omega) (by omega) H
  rw [decide_eq_true rfl] at hs2
  generalize hpe : putM e = p at *
  obtain ⟨a, f⟩ := p
  simp only at hp1 hp2
  have hpm := hpm a f rfl
  (repeat (first | refine Run.adm rfl ?_ | refine Run.seq ?_ | (apply Run.opS rfl; (· (simp -implicitDefEqProofs [hsl, hsl']; exact ⟨rfl, rfl⟩))) | (apply Run.condS; (· (simp -implicitDefEqProofs [hsl, hsl']; exact rfl)))))
  refine Run.opC rfl rfl rfl (hp1 _) ?_
  rintro v h' ⟨rfl, rfl⟩
  (repeat (first | refine Run.adm rfl ?_ | refine Run.seq ?_ | (apply Run.opS rfl; (· (simp -implicitDefEqProofs; exact ⟨rfl, rfl⟩))) | (apply Run.condS; (· (simp -implicitDefEqProofs; exact rfl)))))
  refine Run.opC rfl rfl rfl (hp2 _) ?_
  rintro v h' ⟨rfl, rfl⟩
  (repeat (first | refine Run.adm rfl ?_ | refine Run.seq ?_ | (apply Run.opS rfl; (· (simp -implicitDefEqProofs; exact ⟨rfl, rfl⟩))) | (apply Run.condS; (· (simp -implicitDefEqProofs; exact rfl)))))
  refine Run.opC rfl rfl rfl (ht1 _) ?_
  rintro v h' ⟨rfl, rfl⟩
  (repeat (first | refine Run.adm rfl ?_ | refine Run.seq ?_ | (apply Run.opS rfl; (· (simp -implicitDefEqProofs [encE]; exact ⟨rfl, rfl⟩))) | (apply Run.condS; (· (simp -implicitDefEqProofs [encE]; exact rfl)))))
  refine Run.opC rfl rfl rfl (ht2 _) ?_
  rintro v h' ⟨rfl, rfl⟩
  (repeat (first | refine Run.adm rfl ?_ | refine Run.seq ?_ | (apply Run.opS rfl; (· (simp -implicitDefEqProofs [encE]; exact ⟨rfl, rfl⟩))) | (apply Run.condS; (· (simp -implicitDefEqProofs [encE]; exact rfl)))))
  refine Run.mv [0, 1, 2] [(2, .ptr 0 0), (5, .str a), (6, .int .i64 f), (7, .str a), (8, .int .i64 f), (9, .ptr 1 0), (10, .int .i64 hq), (11, .ptr 2 0), (12, .int .i64 hq)] [.row (encE e), .row (encE c), .row (encE c)] (by rfl) (by decide) (by simp -implicitDefEqProofs [encE]) (by simp -implicitDefEqProofs [encE]) ?_
  refine Run.quietM prog_mixed (by kernel_rfl) [0] [(2, .ptr 0 0), (5, .str a), (6, .int .i64 f), (69, .bool false)] [.row (encE e)] (by rfl) (by decide) ?_ ?_
  · (repeat (first | refine execQ_E rfl ?_ | (apply execQ_S rfl; (· (simp -implicitDefEqProofs; exact ⟨rfl, rfl⟩)))))
    refine execQ_C rfl rfl rfl (hs1 _) ?_
    (repeat (first | refine execQ_E rfl ?_ | (apply execQ_S rfl; (· (simp -implicitDefEqProofs; exact ⟨rfl, rfl⟩)))))
    refine execQ_C rfl (by simp) rfl (hc1 _) ?_
    (repeat (first | refine execQ_E rfl ?_ | (apply execQ_S rfl; (· (simp -implicitDefEqProofs; exact ⟨rfl, rfl⟩)))))
    refine execQ_C rfl (by simp) rfl (hc2 _) ?_
    (repeat (first | refine execQ_E rfl ?_ | (apply execQ_S rfl; (· (simp -implicitDefEqProofs; exact ⟨rfl, rfl⟩)))))
    simp
  by_cases hf : f = 0
  rotate_left
  · (repeat (first | refine Run.adm rfl ?_ | refine Run.seq ?_ | (apply Run.opS rfl; (· (simp -implicitDefEqProofs [hf]; exact ⟨rfl, rfl⟩))) | (apply Run.condS; (· (simp -implicitDefEqProofs [hf]; exact rfl)))))
    refine Run.opC rfl rfl rfl (awake_at _) ?_
    rintro v h' ⟨rfl, rfl⟩
    (repeat (first | refine Run.adm rfl ?_ | refine Run.seq ?_ | (apply Run.opS rfl; (· (simp -implicitDefEqProofs; exact ⟨rfl, rfl⟩))) | (apply Run.condS; (· (simp -implicitDefEqProofs; exact rfl)))))
    exact hend trivial (by simp)
  obtain ⟨hm, rfl⟩ := hpm hf
  have hbl : (bytesE e).length ≤ 1099511627776 := by
    obtain ⟨m1, m2, m3, -, -, -⟩ := mayE_spec hm
    have q1 := tabsBs_len m3
    have q2 := nbs_len e.drop
    have q3 := nb_len e.add.length
    have q4 := nb_len e.drop.length
    have q5 := nb_len e.log
    have q6 := nb_len e.next
    simp only [bytesE, List.length_append]
    omega
  have ht3 := fun H => take_at (bytesE e) hbl H
  rw [take_put hm] at ht3
  generalize bytesE e = b at *
  (repeat (first | refine Run.adm rfl ?_ | refine Run.seq ?_ | (apply Run.opS rfl; (· (simp -implicitDefEqProofs [hf]; exact ⟨rfl, rfl⟩))) | (apply Run.condS; (· (simp -implicitDefEqProofs [hf]; exact rfl)))))
  refine Run.opC rfl rfl rfl (ht3 _) ?_
  rintro v h' ⟨rfl, rfl⟩
  (repeat (first | refine Run.adm rfl ?_ | refine Run.seq ?_ | (apply Run.opS rfl; (· (simp -implicitDefEqProofs [encE]; exact ⟨rfl, rfl⟩))) | (apply Run.condS; (· (simp -implicitDefEqProofs [encE]; exact rfl)))))
  refine Run.mv [0, 1] [(2, .ptr 0 0), (13, .ptr 1 0), (14, .int .i64 0), (78, .agg (encE e)), (79, .agg (encE e))] [.row (encE e), .row (encE e)] (by rfl) (by decide) (by simp -implicitDefEqProofs [encE]) (by simp -implicitDefEqProofs [encE]) ?_
  refine Run.opC rfl rfl rfl (hs2 _) ?_
  rintro v h' ⟨rfl, rfl⟩
  (repeat (first | refine Run.adm rfl ?_ | refine Run.seq ?_ | (apply Run.opS rfl; (· (simp -implicitDefEqProofs; exact ⟨rfl, rfl⟩))) | (apply Run.condS; (· (simp -implicitDefEqProofs; exact rfl)))))
  refine Run.opC rfl (by simp) rfl (awake_at _) ?_
  rintro v h' ⟨rfl, rfl⟩
  (repeat (first | refine Run.adm rfl ?_ | refine Run.seq ?_ | (apply Run.opS rfl; (· (simp -implicitDefEqProofs; exact ⟨rfl, rfl⟩))) | (apply Run.condS; (· (simp -implicitDefEqProofs; exact rfl)))))
  exact hend trivial (by simp)

end Go.Proofs.Ytpipgcmiaccdkaa
