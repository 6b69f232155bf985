/-
  Layer 11, part LawC: what comes in; the laws MergeVisible and MergePrunes.
-/
import Derived.Test.YtphpkigfmmanhaaLawB
import Derived.Test.YtphpkigfmmanhaaEnt
namespace Go.Proofs.Ytphpkigfmmanhaa
open Sx Go
set_option maxRecDepth 100000
set_option linter.unusedSimpArgs false
set_option linter.unusedVariables false
set_option linter.unnecessarySimpa false
attribute [local simp] guardB isCall opStep Opd.ev put readAt aBin aUn args0 V.celled V.ones V.one V.cells putAt bounds bound1 elemsOf srcOf appendV fillAt fillEl V.pures V.pure unwind evs ARes.ev mkRes V.ren V.renL O.ren eqCells eq1 aEq aMM hasTy hasTyN okTy mmGo Known HLe OLe VsLe.refl VLe.refl Stay VsLe V.frz V.frzL O.frz fr clearV rn KnownR Objs OLeO ObjsE nm back setAll ren_ite take_map_len List.take_of_length_le
attribute [local simp ↓] upd_app tl_cons tl_nil
attribute [local simp] encE_ren encE_ones encE_len encE_take

def entSh : List CSh := [.s, .s, .b, .i .i64]
theorem dec_ent (e : List V) (h : VShs entSh e) : ∃ x, e = encE x := by
  unfold entSh at h
  obtain ⟨a1, r1, rfl, g1, h1⟩ := dec_cons h; obtain ⟨s1, rfl⟩ := dec_s g1
  obtain ⟨a2, r2, rfl, g2, h2⟩ := dec_cons h1; obtain ⟨s2, rfl⟩ := dec_s g2
  obtain ⟨a3, r3, rfl, g3, h3⟩ := dec_cons h2; obtain ⟨b, rfl⟩ := dec_b g3
  obtain ⟨a4, r4, rfl, g4, h4⟩ := dec_cons h3; obtain ⟨n, rfl, _⟩ := dec_i g4
  obtain rfl := dec_nil h4
  exact ⟨⟨s1, s2, b, n⟩, rfl⟩
theorem dec_ents {v : V} (h : VSh (.l entSh) v) : ∃ l : List En, v = .vs (l.map encE) 4 := dec_sl rfl dec_ent h
theorem dec_num (e : List V) (h : VShs [.i .i64] e) : ∃ x : Int, e = encI x := by
  obtain ⟨a1, r1, rfl, g1, h1⟩ := dec_cons h; obtain ⟨n, rfl, _⟩ := dec_i g1
  obtain rfl := dec_nil h1
  exact ⟨n, rfl⟩
theorem dec_nums {v : V} (h : VSh (.l [.i .i64]) v) : ∃ l : List Int, v = .vs (l.map encI) 1 := dec_sl rfl dec_num h

theorem visR_at (l : List En) (n : Int) (H : List O) : Tri Try.prog 19 [.vs (l.map encE) 4, .int .i64 n] H (fun v H' => v = .vs ((visR l n).map encP) 2 ∧ H' = H) := by
  have := vis_at l n H
  rwa [vis_eq] at this
theorem sinR_at (l : List En) (n : Int) (H : List O) : Tri Try.prog 21 [.vs (l.map encE) 4, .int .i64 n] H (fun v H' => v = .vs ((sinR l n).map encE) 4 ∧ H' = H) := by
  have := sin_at l n H
  rwa [sin_eq] at this
theorem pruR_at (l : List En) (pins : List Int) (hp : pins.length ≤ 1000000) (bottom : Bool) (H : List O) : Tri Try.prog 23 [.vs (l.map encE) 4, .vs (pins.map encI) 1, .bool bottom] H (fun v H' => v = .vs ((pruR l pins bottom).map encE) 4 ∧ H' = H) := by
  have := pru_at l pins hp bottom H
  rwa [pru_eq] at this
theorem visR_len {l : List En} (n : Int) (h : l.length ≤ 1000000) : (visR l n).length ≤ 4611686018427387904 := by
  unfold visR; split
  · have := fmap_len (visF l n) l.length; omega
  · simp
theorem sinR_len {l : List En} (n : Int) (h : l.length ≤ 1000000) : (sinR l n).length ≤ 4611686018427387904 := by
  unfold sinR; split
  · have := fmap_len (sinF l n) l.length; omega
  · simp
theorem pruR_len {l : List En} (pins : List Int) (bottom : Bool) (h : l.length ≤ 1000000) : (pruR l pins bottom).length ≤ 4611686018427387904 := by
  unfold pruR; split
  · have h1 := fmap_len (pruF (keptM l pins) pins bottom) (keptM l pins).length
    have h2 := fmap_len (keepF l pins) l.length
    unfold keptM at *; omega
  · simp

theorem visible_law (l : List En) (n : Int) : Tri Try.prog 5 [.vs (l.map encE) 4, .int .i64 n] [] (fun v H => v = .bool true ∧ H = []) := by
  refine Tri.of_run' Try.func5 rfl c5_ok (by simp [Try.ntmps5]) ?_
  have hend : ∀ {k t h}, AtEnd k → t 4 = .bool true → Run ⟨Try.prog, 5, Try.f5.ntmps, [], fun v H => v = .bool true ∧ H = []⟩ ⟨k, t, h⟩ := by
    intro k t h hk h6
    refine Run.mv [] [(4, .bool true)] [] (by rfl) (by decide) (by simp [h6]) (by simp) ?_
    refine Run.ret0 rfl Try.func5 r5_ok hk (by simp [r5]; rfl) ?_ (by simp)
    simp
  (repeat (first | refine Run.seq ?_ | refine Run.reg ?_ | refine Run.skip ?_ | refine Run.block ?_ | refine Run.endB ?_ | refine Run.opE rfl ?_ | (apply Run.op0 rfl; (· (simp -implicitDefEqProofs; exact ⟨rfl, rfl⟩))) | (apply Run.opA rfl; (· (simp -implicitDefEqProofs; done)); (· (simp -implicitDefEqProofs; exact ⟨rfl, rfl⟩))) | (apply Run.opN rfl; (· (simp -implicitDefEqProofs; done))) | (refine Run.condT ?_ ?_; (· (simp -implicitDefEqProofs; done))) | (refine Run.condF ?_ ?_; (· (simp -implicitDefEqProofs; done))) | refine Run.exit rfl ?_))
  refine Run.opC rfl rfl rfl (light_at l _) ?_
  rintro v h' ⟨rfl, rfl⟩
  cases la : lightM l with
  | false =>
    (repeat (first | refine Run.seq ?_ | refine Run.reg ?_ | refine Run.skip ?_ | refine Run.block ?_ | refine Run.endB ?_ | refine Run.opE rfl ?_ | (apply Run.op0 rfl; (· (simp -implicitDefEqProofs; exact ⟨rfl, rfl⟩))) | (apply Run.opA rfl; (· (simp -implicitDefEqProofs; done)); (· (simp -implicitDefEqProofs; exact ⟨rfl, rfl⟩))) | (apply Run.opN rfl; (· (simp -implicitDefEqProofs; done))) | (refine Run.condT ?_ ?_; (· (simp -implicitDefEqProofs; done))) | (refine Run.condF ?_ ?_; (· (simp -implicitDefEqProofs; done))) | refine Run.exit rfl ?_))
    refine Run.opC rfl rfl rfl (awake_at _) ?_
    rintro v h' ⟨rfl, rfl⟩
    (repeat (first | refine Run.seq ?_ | refine Run.reg ?_ | refine Run.skip ?_ | refine Run.block ?_ | refine Run.endB ?_ | refine Run.opE rfl ?_ | (apply Run.op0 rfl; (· (simp -implicitDefEqProofs; exact ⟨rfl, rfl⟩))) | (apply Run.opA rfl; (· (simp -implicitDefEqProofs; done)); (· (simp -implicitDefEqProofs; exact ⟨rfl, rfl⟩))) | (apply Run.opN rfl; (· (simp -implicitDefEqProofs; done))) | (refine Run.condT ?_ ?_; (· (simp -implicitDefEqProofs; done))) | (refine Run.condF ?_ ?_; (· (simp -implicitDefEqProofs; done))) | refine Run.exit rfl ?_))
    exact hend trivial (by simp)
  | true =>
  have ha := lightM_len la
  have hm := madeM_len l
  (repeat (first | refine Run.seq ?_ | refine Run.reg ?_ | refine Run.skip ?_ | refine Run.block ?_ | refine Run.endB ?_ | refine Run.opE rfl ?_ | (apply Run.op0 rfl; (· (simp -implicitDefEqProofs; exact ⟨rfl, rfl⟩))) | (apply Run.opA rfl; (· (simp -implicitDefEqProofs; done)); (· (simp -implicitDefEqProofs; exact ⟨rfl, rfl⟩))) | (apply Run.opN rfl; (· (simp -implicitDefEqProofs; done))) | (refine Run.condT ?_ ?_; (· (simp -implicitDefEqProofs; done))) | (refine Run.condF ?_ ?_; (· (simp -implicitDefEqProofs; done))) | refine Run.exit rfl ?_))
  refine Run.opC rfl rfl rfl (made_at l (by omega) _) ?_
  rintro v h' ⟨rfl, rfl⟩
  generalize madeM l = m at *
  (repeat (first | refine Run.seq ?_ | refine Run.reg ?_ | refine Run.skip ?_ | refine Run.block ?_ | refine Run.endB ?_ | refine Run.opE rfl ?_ | (apply Run.op0 rfl; (· (simp -implicitDefEqProofs; exact ⟨rfl, rfl⟩))) | (apply Run.opA rfl; (· (simp -implicitDefEqProofs; done)); (· (simp -implicitDefEqProofs; exact ⟨rfl, rfl⟩))) | (apply Run.opN rfl; (· (simp -implicitDefEqProofs; done))) | (refine Run.condT ?_ ?_; (· (simp -implicitDefEqProofs; done))) | (refine Run.condF ?_ ?_; (· (simp -implicitDefEqProofs; done))) | refine Run.exit rfl ?_))
  refine Run.opC rfl rfl rfl (visR_at l n _) ?_
  rintro v h' ⟨rfl, rfl⟩
  (repeat (first | refine Run.seq ?_ | refine Run.reg ?_ | refine Run.skip ?_ | refine Run.block ?_ | refine Run.endB ?_ | refine Run.opE rfl ?_ | (apply Run.op0 rfl; (· (simp -implicitDefEqProofs; exact ⟨rfl, rfl⟩))) | (apply Run.opA rfl; (· (simp -implicitDefEqProofs; done)); (· (simp -implicitDefEqProofs; exact ⟨rfl, rfl⟩))) | (apply Run.opN rfl; (· (simp -implicitDefEqProofs; done))) | (refine Run.condT ?_ ?_; (· (simp -implicitDefEqProofs; done))) | (refine Run.condF ?_ ?_; (· (simp -implicitDefEqProofs; done))) | refine Run.exit rfl ?_))
  refine Run.opC rfl rfl rfl (rvis_at l n _) ?_
  rintro v h' ⟨rfl, rfl⟩
  (repeat (first | refine Run.seq ?_ | refine Run.reg ?_ | refine Run.skip ?_ | refine Run.block ?_ | refine Run.endB ?_ | refine Run.opE rfl ?_ | (apply Run.op0 rfl; (· (simp -implicitDefEqProofs; exact ⟨rfl, rfl⟩))) | (apply Run.opA rfl; (· (simp -implicitDefEqProofs; done)); (· (simp -implicitDefEqProofs; exact ⟨rfl, rfl⟩))) | (apply Run.opN rfl; (· (simp -implicitDefEqProofs; done))) | (refine Run.condT ?_ ?_; (· (simp -implicitDefEqProofs; done))) | (refine Run.condF ?_ ?_; (· (simp -implicitDefEqProofs; done))) | refine Run.exit rfl ?_))
  refine Run.opC rfl rfl rfl (sameP_at (visR l n) (visR l n) (visR_len n (by omega)) _) ?_
  rintro v h' ⟨rfl, rfl⟩
  (repeat (first | refine Run.seq ?_ | refine Run.reg ?_ | refine Run.skip ?_ | refine Run.block ?_ | refine Run.endB ?_ | refine Run.opE rfl ?_ | (apply Run.op0 rfl; (· (simp -implicitDefEqProofs; exact ⟨rfl, rfl⟩))) | (apply Run.opA rfl; (· (simp -implicitDefEqProofs; done)); (· (simp -implicitDefEqProofs; exact ⟨rfl, rfl⟩))) | (apply Run.opN rfl; (· (simp -implicitDefEqProofs; done))) | (refine Run.condT ?_ ?_; (· (simp -implicitDefEqProofs; done))) | (refine Run.condF ?_ ?_; (· (simp -implicitDefEqProofs; done))) | refine Run.exit rfl ?_))
  refine Run.opC rfl (by simp) rfl (visR_at m n _) ?_
  rintro v h' ⟨rfl, rfl⟩
  (repeat (first | refine Run.seq ?_ | refine Run.reg ?_ | refine Run.skip ?_ | refine Run.block ?_ | refine Run.endB ?_ | refine Run.opE rfl ?_ | (apply Run.op0 rfl; (· (simp -implicitDefEqProofs; exact ⟨rfl, rfl⟩))) | (apply Run.opA rfl; (· (simp -implicitDefEqProofs; done)); (· (simp -implicitDefEqProofs; exact ⟨rfl, rfl⟩))) | (apply Run.opN rfl; (· (simp -implicitDefEqProofs; done))) | (refine Run.condT ?_ ?_; (· (simp -implicitDefEqProofs; done))) | (refine Run.condF ?_ ?_; (· (simp -implicitDefEqProofs; done))) | refine Run.exit rfl ?_))
  refine Run.opC rfl (by simp) rfl (rvis_at m n _) ?_
  rintro v h' ⟨rfl, rfl⟩
  (repeat (first | refine Run.seq ?_ | refine Run.reg ?_ | refine Run.skip ?_ | refine Run.block ?_ | refine Run.endB ?_ | refine Run.opE rfl ?_ | (apply Run.op0 rfl; (· (simp -implicitDefEqProofs; exact ⟨rfl, rfl⟩))) | (apply Run.opA rfl; (· (simp -implicitDefEqProofs; done)); (· (simp -implicitDefEqProofs; exact ⟨rfl, rfl⟩))) | (apply Run.opN rfl; (· (simp -implicitDefEqProofs; done))) | (refine Run.condT ?_ ?_; (· (simp -implicitDefEqProofs; done))) | (refine Run.condF ?_ ?_; (· (simp -implicitDefEqProofs; done))) | refine Run.exit rfl ?_))
  refine Run.opC rfl (by simp) rfl (sameP_at (visR m n) (visR m n) (visR_len n (by omega)) _) ?_
  rintro v h' ⟨rfl, rfl⟩
  (repeat (first | refine Run.seq ?_ | refine Run.reg ?_ | refine Run.skip ?_ | refine Run.block ?_ | refine Run.endB ?_ | refine Run.opE rfl ?_ | (apply Run.op0 rfl; (· (simp -implicitDefEqProofs; exact ⟨rfl, rfl⟩))) | (apply Run.opA rfl; (· (simp -implicitDefEqProofs; done)); (· (simp -implicitDefEqProofs; exact ⟨rfl, rfl⟩))) | (apply Run.opN rfl; (· (simp -implicitDefEqProofs; done))) | (refine Run.condT ?_ ?_; (· (simp -implicitDefEqProofs; done))) | (refine Run.condF ?_ ?_; (· (simp -implicitDefEqProofs; done))) | refine Run.exit rfl ?_))
  refine Run.opC rfl (by simp) rfl (sinR_at l n _) ?_
  rintro v h' ⟨rfl, rfl⟩
  (repeat (first | refine Run.seq ?_ | refine Run.reg ?_ | refine Run.skip ?_ | refine Run.block ?_ | refine Run.endB ?_ | refine Run.opE rfl ?_ | (apply Run.op0 rfl; (· (simp -implicitDefEqProofs; exact ⟨rfl, rfl⟩))) | (apply Run.opA rfl; (· (simp -implicitDefEqProofs; done)); (· (simp -implicitDefEqProofs; exact ⟨rfl, rfl⟩))) | (apply Run.opN rfl; (· (simp -implicitDefEqProofs; done))) | (refine Run.condT ?_ ?_; (· (simp -implicitDefEqProofs; done))) | (refine Run.condF ?_ ?_; (· (simp -implicitDefEqProofs; done))) | refine Run.exit rfl ?_))
  refine Run.opC rfl (by simp) rfl (rsin_at l n _) ?_
  rintro v h' ⟨rfl, rfl⟩
  (repeat (first | refine Run.seq ?_ | refine Run.reg ?_ | refine Run.skip ?_ | refine Run.block ?_ | refine Run.endB ?_ | refine Run.opE rfl ?_ | (apply Run.op0 rfl; (· (simp -implicitDefEqProofs; exact ⟨rfl, rfl⟩))) | (apply Run.opA rfl; (· (simp -implicitDefEqProofs; done)); (· (simp -implicitDefEqProofs; exact ⟨rfl, rfl⟩))) | (apply Run.opN rfl; (· (simp -implicitDefEqProofs; done))) | (refine Run.condT ?_ ?_; (· (simp -implicitDefEqProofs; done))) | (refine Run.condF ?_ ?_; (· (simp -implicitDefEqProofs; done))) | refine Run.exit rfl ?_))
  refine Run.opC rfl (by simp) rfl (sameE_at (sinR l n) (sinR l n) (sinR_len n (by omega)) _) ?_
  rintro v h' ⟨rfl, rfl⟩
  (repeat (first | refine Run.seq ?_ | refine Run.reg ?_ | refine Run.skip ?_ | refine Run.block ?_ | refine Run.endB ?_ | refine Run.opE rfl ?_ | (apply Run.op0 rfl; (· (simp -implicitDefEqProofs; exact ⟨rfl, rfl⟩))) | (apply Run.opA rfl; (· (simp -implicitDefEqProofs; done)); (· (simp -implicitDefEqProofs; exact ⟨rfl, rfl⟩))) | (apply Run.opN rfl; (· (simp -implicitDefEqProofs; done))) | (refine Run.condT ?_ ?_; (· (simp -implicitDefEqProofs; done))) | (refine Run.condF ?_ ?_; (· (simp -implicitDefEqProofs; done))) | refine Run.exit rfl ?_))
  refine Run.opC rfl (by simp) rfl (sinR_at m n _) ?_
  rintro v h' ⟨rfl, rfl⟩
  (repeat (first | refine Run.seq ?_ | refine Run.reg ?_ | refine Run.skip ?_ | refine Run.block ?_ | refine Run.endB ?_ | refine Run.opE rfl ?_ | (apply Run.op0 rfl; (· (simp -implicitDefEqProofs; exact ⟨rfl, rfl⟩))) | (apply Run.opA rfl; (· (simp -implicitDefEqProofs; done)); (· (simp -implicitDefEqProofs; exact ⟨rfl, rfl⟩))) | (apply Run.opN rfl; (· (simp -implicitDefEqProofs; done))) | (refine Run.condT ?_ ?_; (· (simp -implicitDefEqProofs; done))) | (refine Run.condF ?_ ?_; (· (simp -implicitDefEqProofs; done))) | refine Run.exit rfl ?_))
  refine Run.opC rfl (by simp) rfl (rsin_at m n _) ?_
  rintro v h' ⟨rfl, rfl⟩
  (repeat (first | refine Run.seq ?_ | refine Run.reg ?_ | refine Run.skip ?_ | refine Run.block ?_ | refine Run.endB ?_ | refine Run.opE rfl ?_ | (apply Run.op0 rfl; (· (simp -implicitDefEqProofs; exact ⟨rfl, rfl⟩))) | (apply Run.opA rfl; (· (simp -implicitDefEqProofs; done)); (· (simp -implicitDefEqProofs; exact ⟨rfl, rfl⟩))) | (apply Run.opN rfl; (· (simp -implicitDefEqProofs; done))) | (refine Run.condT ?_ ?_; (· (simp -implicitDefEqProofs; done))) | (refine Run.condF ?_ ?_; (· (simp -implicitDefEqProofs; done))) | refine Run.exit rfl ?_))
  refine Run.opC rfl (by simp) rfl (sameE_at (sinR m n) (sinR m n) (sinR_len n (by omega)) _) ?_
  rintro v h' ⟨rfl, rfl⟩
  (repeat (first | refine Run.seq ?_ | refine Run.reg ?_ | refine Run.skip ?_ | refine Run.block ?_ | refine Run.endB ?_ | refine Run.opE rfl ?_ | (apply Run.op0 rfl; (· (simp -implicitDefEqProofs; exact ⟨rfl, rfl⟩))) | (apply Run.opA rfl; (· (simp -implicitDefEqProofs; done)); (· (simp -implicitDefEqProofs; exact ⟨rfl, rfl⟩))) | (apply Run.opN rfl; (· (simp -implicitDefEqProofs; done))) | (refine Run.condT ?_ ?_; (· (simp -implicitDefEqProofs; done))) | (refine Run.condF ?_ ?_; (· (simp -implicitDefEqProofs; done))) | refine Run.exit rfl ?_))
  refine Run.opC rfl (by simp) rfl (awake_at _) ?_
  rintro v h' ⟨rfl, rfl⟩
  (repeat (first | refine Run.seq ?_ | refine Run.reg ?_ | refine Run.skip ?_ | refine Run.block ?_ | refine Run.endB ?_ | refine Run.opE rfl ?_ | (apply Run.op0 rfl; (· (simp -implicitDefEqProofs; exact ⟨rfl, rfl⟩))) | (apply Run.opA rfl; (· (simp -implicitDefEqProofs; done)); (· (simp -implicitDefEqProofs; exact ⟨rfl, rfl⟩))) | (apply Run.opN rfl; (· (simp -implicitDefEqProofs; done))) | (refine Run.condT ?_ ?_; (· (simp -implicitDefEqProofs; done))) | (refine Run.condF ?_ ?_; (· (simp -implicitDefEqProofs; done))) | refine Run.exit rfl ?_))
  exact hend trivial (by simp)

theorem prunes_law (l : List En) (pins : List Int) (bottom : Bool) : Tri Try.prog 6 [.vs (l.map encE) 4, .vs (pins.map encI) 1, .bool bottom] [] (fun v H => v = .bool true ∧ H = []) := by
  refine Tri.of_run' Try.func6 rfl c6_ok (by simp [Try.ntmps6]) ?_
  have hend : ∀ {k t h}, AtEnd k → t 6 = .bool true → Run ⟨Try.prog, 6, Try.f6.ntmps, [], fun v H => v = .bool true ∧ H = []⟩ ⟨k, t, h⟩ := by
    intro k t h hk h6
    refine Run.mv [] [(6, .bool true)] [] (by rfl) (by decide) (by simp [h6]) (by simp) ?_
    refine Run.ret0 rfl Try.func6 r6_ok hk (by simp [r6]; rfl) ?_ (by simp)
    simp
  have hdull : ∀ {k}, Run ⟨Try.prog, 6, Try.f6.ntmps, [], fun v H => v = .bool true ∧ H = []⟩ ⟨.ops c6r2 :: .code .ret :: k, tl [], []⟩ := by
    intro k
    (repeat (first | refine Run.seq ?_ | refine Run.reg ?_ | refine Run.skip ?_ | refine Run.block ?_ | refine Run.endB ?_ | refine Run.opE rfl ?_ | (apply Run.op0 rfl; (· (simp -implicitDefEqProofs; exact ⟨rfl, rfl⟩))) | (apply Run.opA rfl; (· (simp -implicitDefEqProofs; done)); (· (simp -implicitDefEqProofs; exact ⟨rfl, rfl⟩))) | (apply Run.opN rfl; (· (simp -implicitDefEqProofs; done))) | (refine Run.condT ?_ ?_; (· (simp -implicitDefEqProofs; done))) | (refine Run.condF ?_ ?_; (· (simp -implicitDefEqProofs; done))) | refine Run.exit rfl ?_))
    refine Run.opC rfl rfl rfl (awake_at _) ?_
    rintro v h' ⟨rfl, rfl⟩
    (repeat (first | refine Run.seq ?_ | refine Run.reg ?_ | refine Run.skip ?_ | refine Run.block ?_ | refine Run.endB ?_ | refine Run.opE rfl ?_ | (apply Run.op0 rfl; (· (simp -implicitDefEqProofs; exact ⟨rfl, rfl⟩))) | (apply Run.opA rfl; (· (simp -implicitDefEqProofs; done)); (· (simp -implicitDefEqProofs; exact ⟨rfl, rfl⟩))) | (apply Run.opN rfl; (· (simp -implicitDefEqProofs; done))) | (refine Run.condT ?_ ?_; (· (simp -implicitDefEqProofs; done))) | (refine Run.condF ?_ ?_; (· (simp -implicitDefEqProofs; done))) | refine Run.exit rfl ?_))
    exact hend trivial (by simp)
  (repeat (first | refine Run.seq ?_ | refine Run.reg ?_ | refine Run.skip ?_ | refine Run.block ?_ | refine Run.endB ?_ | refine Run.opE rfl ?_ | (apply Run.op0 rfl; (· (simp -implicitDefEqProofs; exact ⟨rfl, rfl⟩))) | (apply Run.opA rfl; (· (simp -implicitDefEqProofs; done)); (· (simp -implicitDefEqProofs; exact ⟨rfl, rfl⟩))) | (apply Run.opN rfl; (· (simp -implicitDefEqProofs; done))) | (refine Run.condT ?_ ?_; (· (simp -implicitDefEqProofs; done))) | (refine Run.condF ?_ ?_; (· (simp -implicitDefEqProofs; done))) | refine Run.exit rfl ?_))
  refine Run.opC rfl rfl rfl (light_at l _) ?_
  rintro v h' ⟨rfl, rfl⟩
  cases la : lightM l with
  | false =>
    (repeat (first | refine Run.seq ?_ | refine Run.reg ?_ | refine Run.skip ?_ | refine Run.block ?_ | refine Run.endB ?_ | refine Run.opE rfl ?_ | (apply Run.op0 rfl; (· (simp -implicitDefEqProofs; exact ⟨rfl, rfl⟩))) | (apply Run.opA rfl; (· (simp -implicitDefEqProofs; done)); (· (simp -implicitDefEqProofs; exact ⟨rfl, rfl⟩))) | (apply Run.opN rfl; (· (simp -implicitDefEqProofs; done))) | (refine Run.condT ?_ ?_; (· (simp -implicitDefEqProofs; done))) | (refine Run.condF ?_ ?_; (· (simp -implicitDefEqProofs; done))) | refine Run.exit rfl ?_))
    refine Run.mv [] [] [] (by rfl) (by decide) (by simp -implicitDefEqProofs) (by simp -implicitDefEqProofs) ?_
    exact hdull
  | true =>
  have ha := lightM_len la
  have hm := madeM_len l
  by_cases hp : 20 < pins.length
  · have hp' : (20 : Int) < pins.length := by omega
    (repeat (first | refine Run.seq ?_ | refine Run.reg ?_ | refine Run.skip ?_ | refine Run.block ?_ | refine Run.endB ?_ | refine Run.opE rfl ?_ | (apply Run.op0 rfl; (· (simp -implicitDefEqProofs [hp, hp']; exact ⟨rfl, rfl⟩))) | (apply Run.opA rfl; (· (simp -implicitDefEqProofs [hp, hp']; done)); (· (simp -implicitDefEqProofs [hp, hp']; exact ⟨rfl, rfl⟩))) | (apply Run.opN rfl; (· (simp -implicitDefEqProofs [hp, hp']; done))) | (refine Run.condT ?_ ?_; (· (simp -implicitDefEqProofs [hp, hp']; done))) | (refine Run.condF ?_ ?_; (· (simp -implicitDefEqProofs [hp, hp']; done))) | refine Run.exit rfl ?_))
    refine Run.mv [] [] [] (by rfl) (by decide) (by simp -implicitDefEqProofs) (by simp -implicitDefEqProofs) ?_
    exact hdull
  have hp' : ¬ (20 : Int) < pins.length := by omega
  (repeat (first | refine Run.seq ?_ | refine Run.reg ?_ | refine Run.skip ?_ | refine Run.block ?_ | refine Run.endB ?_ | refine Run.opE rfl ?_ | (apply Run.op0 rfl; (· (simp -implicitDefEqProofs [hp, hp']; exact ⟨rfl, rfl⟩))) | (apply Run.opA rfl; (· (simp -implicitDefEqProofs [hp, hp']; done)); (· (simp -implicitDefEqProofs [hp, hp']; exact ⟨rfl, rfl⟩))) | (apply Run.opN rfl; (· (simp -implicitDefEqProofs [hp, hp']; done))) | (refine Run.condT ?_ ?_; (· (simp -implicitDefEqProofs [hp, hp']; done))) | (refine Run.condF ?_ ?_; (· (simp -implicitDefEqProofs [hp, hp']; done))) | refine Run.exit rfl ?_))
  refine Run.opC rfl rfl rfl (made_at l (by omega) _) ?_
  rintro v h' ⟨rfl, rfl⟩
  generalize madeM l = m at *
  (repeat (first | refine Run.seq ?_ | refine Run.reg ?_ | refine Run.skip ?_ | refine Run.block ?_ | refine Run.endB ?_ | refine Run.opE rfl ?_ | (apply Run.op0 rfl; (· (simp -implicitDefEqProofs; exact ⟨rfl, rfl⟩))) | (apply Run.opA rfl; (· (simp -implicitDefEqProofs; done)); (· (simp -implicitDefEqProofs; exact ⟨rfl, rfl⟩))) | (apply Run.opN rfl; (· (simp -implicitDefEqProofs; done))) | (refine Run.condT ?_ ?_; (· (simp -implicitDefEqProofs; done))) | (refine Run.condF ?_ ?_; (· (simp -implicitDefEqProofs; done))) | refine Run.exit rfl ?_))
  refine Run.opC rfl rfl rfl (pruR_at l pins (by omega) bottom _) ?_
  rintro v h' ⟨rfl, rfl⟩
  (repeat (first | refine Run.seq ?_ | refine Run.reg ?_ | refine Run.skip ?_ | refine Run.block ?_ | refine Run.endB ?_ | refine Run.opE rfl ?_ | (apply Run.op0 rfl; (· (simp -implicitDefEqProofs; exact ⟨rfl, rfl⟩))) | (apply Run.opA rfl; (· (simp -implicitDefEqProofs; done)); (· (simp -implicitDefEqProofs; exact ⟨rfl, rfl⟩))) | (apply Run.opN rfl; (· (simp -implicitDefEqProofs; done))) | (refine Run.condT ?_ ?_; (· (simp -implicitDefEqProofs; done))) | (refine Run.condF ?_ ?_; (· (simp -implicitDefEqProofs; done))) | refine Run.exit rfl ?_))
  refine Run.opC rfl rfl rfl (rpru_at l pins (by omega) bottom _) ?_
  rintro v h' ⟨rfl, rfl⟩
  (repeat (first | refine Run.seq ?_ | refine Run.reg ?_ | refine Run.skip ?_ | refine Run.block ?_ | refine Run.endB ?_ | refine Run.opE rfl ?_ | (apply Run.op0 rfl; (· (simp -implicitDefEqProofs; exact ⟨rfl, rfl⟩))) | (apply Run.opA rfl; (· (simp -implicitDefEqProofs; done)); (· (simp -implicitDefEqProofs; exact ⟨rfl, rfl⟩))) | (apply Run.opN rfl; (· (simp -implicitDefEqProofs; done))) | (refine Run.condT ?_ ?_; (· (simp -implicitDefEqProofs; done))) | (refine Run.condF ?_ ?_; (· (simp -implicitDefEqProofs; done))) | refine Run.exit rfl ?_))
  refine Run.opC rfl rfl rfl (sameE_at (pruR l pins bottom) (pruR l pins bottom) (pruR_len pins bottom (by omega)) _) ?_
  rintro v h' ⟨rfl, rfl⟩
  (repeat (first | refine Run.seq ?_ | refine Run.reg ?_ | refine Run.skip ?_ | refine Run.block ?_ | refine Run.endB ?_ | refine Run.opE rfl ?_ | (apply Run.op0 rfl; (· (simp -implicitDefEqProofs; exact ⟨rfl, rfl⟩))) | (apply Run.opA rfl; (· (simp -implicitDefEqProofs; done)); (· (simp -implicitDefEqProofs; exact ⟨rfl, rfl⟩))) | (apply Run.opN rfl; (· (simp -implicitDefEqProofs; done))) | (refine Run.condT ?_ ?_; (· (simp -implicitDefEqProofs; done))) | (refine Run.condF ?_ ?_; (· (simp -implicitDefEqProofs; done))) | refine Run.exit rfl ?_))
  refine Run.opC rfl (by simp) rfl (pruR_at m pins (by omega) bottom _) ?_
  rintro v h' ⟨rfl, rfl⟩
  (repeat (first | refine Run.seq ?_ | refine Run.reg ?_ | refine Run.skip ?_ | refine Run.block ?_ | refine Run.endB ?_ | refine Run.opE rfl ?_ | (apply Run.op0 rfl; (· (simp -implicitDefEqProofs; exact ⟨rfl, rfl⟩))) | (apply Run.opA rfl; (· (simp -implicitDefEqProofs; done)); (· (simp -implicitDefEqProofs; exact ⟨rfl, rfl⟩))) | (apply Run.opN rfl; (· (simp -implicitDefEqProofs; done))) | (refine Run.condT ?_ ?_; (· (simp -implicitDefEqProofs; done))) | (refine Run.condF ?_ ?_; (· (simp -implicitDefEqProofs; done))) | refine Run.exit rfl ?_))
  refine Run.opC rfl (by simp) rfl (rpru_at m pins (by omega) bottom _) ?_
  rintro v h' ⟨rfl, rfl⟩
  (repeat (first | refine Run.seq ?_ | refine Run.reg ?_ | refine Run.skip ?_ | refine Run.block ?_ | refine Run.endB ?_ | refine Run.opE rfl ?_ | (apply Run.op0 rfl; (· (simp -implicitDefEqProofs; exact ⟨rfl, rfl⟩))) | (apply Run.opA rfl; (· (simp -implicitDefEqProofs; done)); (· (simp -implicitDefEqProofs; exact ⟨rfl, rfl⟩))) | (apply Run.opN rfl; (· (simp -implicitDefEqProofs; done))) | (refine Run.condT ?_ ?_; (· (simp -implicitDefEqProofs; done))) | (refine Run.condF ?_ ?_; (· (simp -implicitDefEqProofs; done))) | refine Run.exit rfl ?_))
  refine Run.opC rfl (by simp) rfl (sameE_at (pruR m pins bottom) (pruR m pins bottom) (pruR_len pins bottom (by omega)) _) ?_
  rintro v h' ⟨rfl, rfl⟩
  (repeat (first | refine Run.seq ?_ | refine Run.reg ?_ | refine Run.skip ?_ | refine Run.block ?_ | refine Run.endB ?_ | refine Run.opE rfl ?_ | (apply Run.op0 rfl; (· (simp -implicitDefEqProofs; exact ⟨rfl, rfl⟩))) | (apply Run.opA rfl; (· (simp -implicitDefEqProofs; done)); (· (simp -implicitDefEqProofs; exact ⟨rfl, rfl⟩))) | (apply Run.opN rfl; (· (simp -implicitDefEqProofs; done))) | (refine Run.condT ?_ ?_; (· (simp -implicitDefEqProofs; done))) | (refine Run.condF ?_ ?_; (· (simp -implicitDefEqProofs; done))) | refine Run.exit rfl ?_))
  refine Run.opC rfl (by simp) rfl (awake_at _) ?_
  rintro v h' ⟨rfl, rfl⟩
  (repeat (first | refine Run.seq ?_ | refine Run.reg ?_ | refine Run.skip ?_ | refine Run.block ?_ | refine Run.endB ?_ | refine Run.opE rfl ?_ | (apply Run.op0 rfl; (· (simp -implicitDefEqProofs; exact ⟨rfl, rfl⟩))) | (apply Run.opA rfl; (· (simp -implicitDefEqProofs; done)); (· (simp -implicitDefEqProofs; exact ⟨rfl, rfl⟩))) | (apply Run.opN rfl; (· (simp -implicitDefEqProofs; done))) | (refine Run.condT ?_ ?_; (· (simp -implicitDefEqProofs; done))) | (refine Run.condF ?_ ?_; (· (simp -implicitDefEqProofs; done))) | refine Run.exit rfl ?_))
  exact hend trivial (by simp)

end Go.Proofs.Ytphpkigfmmanhaa
