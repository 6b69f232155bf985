/-
  Layer 11, part PruB: key by key, for Prune.
-/
import Derived.Test.YtphpkigfmmanhaaPruA
namespace Go.Proofs.Ytphpkigfmmanhaa
open Sx Go
set_option maxRecDepth 100000
set_option linter.unusedSimpArgs false
set_option linter.unusedVariables false
set_option linter.unnecessarySimpa false
attribute [local simp] guardB isCall opStep Opd.ev put readAt aBin aUn args0 V.celled V.ones V.one V.cells putAt bounds bound1 elemsOf srcOf appendV fillAt fillEl V.pures V.pure unwind evs ARes.ev mkRes V.ren V.renL O.ren eqCells eq1 aEq aMM hasTy hasTyN okTy mmGo Known HLe OLe VsLe.refl VLe.refl Stay VsLe V.frz V.frzL O.frz fr clearV rn KnownR Objs OLeO ObjsE nm back setAll ren_ite take_map_len List.take_of_length_le
attribute [local simp ↓] upd_app tl_cons tl_nil
attribute [local simp] encE_ren encE_ones encE_len encE_take

theorem fmap_le {α} (f : Nat → Option α) (i : Nat) : ((List.range i).filterMap f).length ≤ i := fmap_len f i
theorem prG_len (g : List En) (pins : List Int) (bottom : Bool) : (prG g pins bottom).length ≤ g.length := by
  have := fmap_len (kepF g (keyK g pins)) g.length
  unfold prG
  split
  · split
    · rw [List.length_dropLast]; unfold kepG; omega
    · exact this
  · simp

def prM (l : List En) (pins : List Int) (bottom : Bool) : List En := if checkE l = true then grpGo (prG · pins bottom) l else []

theorem byPru_tri (l : List En) (pins : List Int) (hp : pins.length ≤ 1000000) (bottom : Bool) : Tri Try.prog 32 [.vs (l.map encE) 4, .fn 37 [.ptr 0 0, .ptr 1 0, .ptr 2 0]] [.row [.vs (pins.map encI) 1], .row [.bool bottom], .row [.nils]] (fun v H => v = .tup [] ∧ H = pruH pins bottom (prM l pins bottom)) := by
  refine Tri.of_run' Try.func32 rfl c32_ok (by simp [Try.ntmps32]) ?_
  refine Run.nilC 2 0 4 0 rfl rfl ?_
  (repeat (first | refine Run.seq ?_ | refine Run.reg ?_ | refine Run.skip ?_ | refine Run.block ?_ | refine Run.endB ?_ | refine Run.opE rfl ?_ | (apply Run.op0 rfl; (· (simp -implicitDefEqProofs; exact ⟨rfl, rfl⟩))) | (apply Run.opA rfl; (· (simp -implicitDefEqProofs; done)); (· (simp -implicitDefEqProofs; exact ⟨rfl, rfl⟩))) | (apply Run.opN rfl; (· (simp -implicitDefEqProofs; done))) | (refine Run.condT ?_ ?_; (· (simp -implicitDefEqProofs; done))) | (refine Run.condF ?_ ?_; (· (simp -implicitDefEqProofs; done))) | refine Run.exit rfl ?_))
  refine Run.freeze 6 (es := [encL l]) (sz := 1) (by simp [encL]) ?_
  refine Run.opC rfl (by simp) rfl (by simpa using mayL_at [l] (by simp) _) ?_
  rintro v h' ⟨rfl, rfl⟩
  have hml : mayL [l] = checkE l := by simp [mayL]
  cases hc : checkE l with
  | false =>
    (repeat (first | refine Run.seq ?_ | refine Run.reg ?_ | refine Run.skip ?_ | refine Run.block ?_ | refine Run.endB ?_ | refine Run.opE rfl ?_ | (apply Run.op0 rfl; (· (simp -implicitDefEqProofs [hml, hc]; exact ⟨rfl, rfl⟩))) | (apply Run.opA rfl; (· (simp -implicitDefEqProofs [hml, hc]; done)); (· (simp -implicitDefEqProofs [hml, hc]; exact ⟨rfl, rfl⟩))) | (apply Run.opN rfl; (· (simp -implicitDefEqProofs [hml, hc]; done))) | (refine Run.condT ?_ ?_; (· (simp -implicitDefEqProofs [hml, hc]; done))) | (refine Run.condF ?_ ?_; (· (simp -implicitDefEqProofs [hml, hc]; done))) | refine Run.exit rfl ?_))
    refine Run.mv [0, 1, 2, 3] [] [.row [.vs (pins.map encI) 1], .row [.bool bottom], .row [.sl 3 0 0 4 none], .arr [] 4] (by rfl) (by decide) (by simp -implicitDefEqProofs) (by simp -implicitDefEqProofs) ?_
    refine Run.retI Try.func32 r32_ok trivial (by simp -implicitDefEqProofs [r32]; rfl) (by simp ) ?_ (by simp -implicitDefEqProofs ) (by simp -implicitDefEqProofs )
    simp [prM, hc, pruH]
  | true =>
  have hl := checkE_len hc
  (repeat (first | refine Run.seq ?_ | refine Run.reg ?_ | refine Run.skip ?_ | refine Run.block ?_ | refine Run.endB ?_ | refine Run.opE rfl ?_ | (apply Run.op0 rfl; (· (simp -implicitDefEqProofs [hml, hc]; exact ⟨rfl, rfl⟩))) | (apply Run.opA rfl; (· (simp -implicitDefEqProofs [hml, hc]; done)); (· (simp -implicitDefEqProofs [hml, hc]; exact ⟨rfl, rfl⟩))) | (apply Run.opN rfl; (· (simp -implicitDefEqProofs [hml, hc]; done))) | (refine Run.condT ?_ ?_; (· (simp -implicitDefEqProofs [hml, hc]; done))) | (refine Run.condF ?_ ?_; (· (simp -implicitDefEqProofs [hml, hc]; done))) | refine Run.exit rfl ?_))
  refine Run.loopC [0, 1, 2, 5, 3] (fun (a : List En × List En) => ([(1, .fn 37 [.ptr 0 0, .ptr 1 0, .ptr 2 0]), (2, .ptr 3 0)], [.row [.vs (pins.map encI) 1], .row [.bool bottom], .row [.sl 4 0 a.2.length 4 none], .row [.vs (a.1.map encE) 4], .arr (a.2.map encE) 4]))
    (fun a => a.2.length + a.1.length ≤ 4096 ∧ grpGo (prG · pins bottom) l = a.2 ++ grpGo (prG · pins bottom) a.1) (fun a => a.1.length) (l, []) (by simp [hl]) (by rfl) (by decide) (by simp) (by simp) ?_
  rintro ⟨rem, o⟩ ⟨hlen, hgo⟩ ih
  simp only at hlen hgo ih ⊢
  cases rem with
  | nil =>
    (repeat (first | refine Run.seq ?_ | refine Run.reg ?_ | refine Run.skip ?_ | refine Run.block ?_ | refine Run.endB ?_ | refine Run.opE rfl ?_ | (apply Run.op0 rfl; (· (simp -implicitDefEqProofs; exact ⟨rfl, rfl⟩))) | (apply Run.opA rfl; (· (simp -implicitDefEqProofs; done)); (· (simp -implicitDefEqProofs; exact ⟨rfl, rfl⟩))) | (apply Run.opN rfl; (· (simp -implicitDefEqProofs; done))) | (refine Run.condT ?_ ?_; (· (simp -implicitDefEqProofs; done))) | (refine Run.condF ?_ ?_; (· (simp -implicitDefEqProofs; done))) | refine Run.exit rfl ?_))
    refine Run.mv [0, 1, 2, 4] [] [.row [.vs (pins.map encI) 1], .row [.bool bottom], .row [.sl 3 0 o.length 4 none], .arr (o.map encE) 4] (by rfl) (by decide) (by simp -implicitDefEqProofs) (by simp -implicitDefEqProofs) ?_
    refine Run.retI Try.func32 r32_ok trivial (by simp -implicitDefEqProofs [r32]; rfl) (by simp ) ?_ (by simp -implicitDefEqProofs ) (by simp -implicitDefEqProofs )
    simp [prM, hc, pruH, hgo, grpGo]
  | cons x r =>
    have hxl : (x :: r).length ≤ 4096 := by omega
    have hpos : (0 : Int) < (x :: r).length := by simp only [List.length_cons]; omega
    have hrun := idx_run x r
    have hrl := runN_le x r
    have hrp := runN_pos x r
    have hidx := idxE_other_tri x r (by omega)
    rw [grpGo] at hgo
    have hne : ¬ (x :: r) = [] := by simp
    generalize hl' : x :: r = l' at *
    have hposn : 0 < l'.length := by omega
    (repeat (first | refine Run.seq ?_ | refine Run.reg ?_ | refine Run.skip ?_ | refine Run.block ?_ | refine Run.endB ?_ | refine Run.opE rfl ?_ | (apply Run.op0 rfl; (· (simp -implicitDefEqProofs [hposn, hne]; exact ⟨rfl, rfl⟩))) | (apply Run.opA rfl; (· (simp -implicitDefEqProofs [hposn, hne]; done)); (· (simp -implicitDefEqProofs [hposn, hne]; exact ⟨rfl, rfl⟩))) | (apply Run.opN rfl; (· (simp -implicitDefEqProofs [hposn, hne]; done))) | (refine Run.condT ?_ ?_; (· (simp -implicitDefEqProofs [hposn, hne]; done))) | (refine Run.condF ?_ ?_; (· (simp -implicitDefEqProofs [hposn, hne]; done))) | refine Run.exit rfl ?_))
    generalize idxI (l'.findIdx? (fun e => decide (e.key ≠ x.key))) = j at hrun hidx
    refine Run.opF [3] (hidx) rfl (by simp -implicitDefEqProofs) rfl (by simp -implicitDefEqProofs) (by decide) (by rfl) (by simp -implicitDefEqProofs) ?_
    rintro v0 Hs' ⟨rfl, rfl⟩
    generalize runN x r = m at *
    (repeat (first | refine Run.seq ?_ | refine Run.reg ?_ | refine Run.skip ?_ | refine Run.block ?_ | refine Run.endB ?_ | refine Run.opE rfl ?_ | (apply Run.op0 rfl; (· (simp -implicitDefEqProofs; exact ⟨rfl, rfl⟩))) | (apply Run.opA rfl; (· (simp -implicitDefEqProofs; done)); (· (simp -implicitDefEqProofs; exact ⟨rfl, rfl⟩))) | (apply Run.opN rfl; (· (simp -implicitDefEqProofs; done))) | (refine Run.condT ?_ ?_; (· (simp -implicitDefEqProofs; done))) | (refine Run.condF ?_ ?_; (· (simp -implicitDefEqProofs; done))) | refine Run.exit rfl ?_))
    refine Run.join [(1, .fn 37 [.ptr 0 0, .ptr 1 0, .ptr 2 0]), (2, .ptr 3 0), (4, .int .i64 m)] [.row [.vs (pins.map encI) 1], .row [.bool bottom], .row [.sl 4 0 o.length 4 none], .row [.vs (l'.map encE) 4], .arr (o.map encE) 4] ?_ ?_
    rotate_left
    · intro k hk
      by_cases hj : j < 0
      · rw [if_pos hj] at hrun
        (repeat (first | refine Run.seq ?_ | refine Run.reg ?_ | refine Run.skip ?_ | refine Run.block ?_ | refine Run.endB ?_ | refine Run.opE rfl ?_ | (apply Run.op0 rfl; (· (simp -implicitDefEqProofs [hj]; exact ⟨rfl, rfl⟩))) | (apply Run.opA rfl; (· (simp -implicitDefEqProofs [hj]; done)); (· (simp -implicitDefEqProofs [hj]; exact ⟨rfl, rfl⟩))) | (apply Run.opN rfl; (· (simp -implicitDefEqProofs [hj]; done))) | (refine Run.condT ?_ ?_; (· (simp -implicitDefEqProofs [hj]; done))) | (refine Run.condF ?_ ?_; (· (simp -implicitDefEqProofs [hj]; done))) | refine Run.exit rfl ?_))
        refine Run.mv [0, 1, 2, 3, 4] _ _ (by rfl) (by decide) (by simp [hrun]) (by simp) hk
      · rw [if_neg hj] at hrun
        (repeat (first | refine Run.seq ?_ | refine Run.reg ?_ | refine Run.skip ?_ | refine Run.block ?_ | refine Run.endB ?_ | refine Run.opE rfl ?_ | (apply Run.op0 rfl; (· (simp -implicitDefEqProofs [hj]; exact ⟨rfl, rfl⟩))) | (apply Run.opA rfl; (· (simp -implicitDefEqProofs [hj]; done)); (· (simp -implicitDefEqProofs [hj]; exact ⟨rfl, rfl⟩))) | (apply Run.opN rfl; (· (simp -implicitDefEqProofs [hj]; done))) | (refine Run.condT ?_ ?_; (· (simp -implicitDefEqProofs [hj]; done))) | (refine Run.condF ?_ ?_; (· (simp -implicitDefEqProofs [hj]; done))) | refine Run.exit rfl ?_))
        refine Run.mv [0, 1, 2, 3, 4] _ _ (by rfl) (by decide) (by simp [hrun]) (by simp) hk
    have hrl' : (m : Int) ≤ l'.length := by omega
    have hg : (l'.take m).length ≤ 1000000 := by rw [List.length_take]; omega
    have htk : l'.take m = x :: r.take (m - 1) := by
      rw [← hl']; obtain ⟨m', rfl⟩ : ∃ m', m = m' + 1 := ⟨m - 1, by omega⟩
      simp
    have hs1 := pru1_tri x (r.take (m - 1)) (by rw [← htk]; exact hg) pins hp bottom o (by omega)
    rw [← htk] at hs1
    have hpl := prG_len (l'.take m) pins bottom
    have htl : (l'.take m).length = m := by rw [List.length_take]; omega
    have hdl : (l'.drop m).length = l'.length - m := List.length_drop ..
    generalize prG (l'.take m) pins bottom = pg at *
    (repeat (first | refine Run.seq ?_ | refine Run.reg ?_ | refine Run.skip ?_ | refine Run.block ?_ | refine Run.endB ?_ | refine Run.opE rfl ?_ | (apply Run.op0 rfl; (· (simp -implicitDefEqProofs [hrl, hrl']; exact ⟨rfl, rfl⟩))) | (apply Run.opA rfl; (· (simp -implicitDefEqProofs [hrl, hrl']; done)); (· (simp -implicitDefEqProofs [hrl, hrl']; exact ⟨rfl, rfl⟩))) | (apply Run.opN rfl; (· (simp -implicitDefEqProofs [hrl, hrl']; done))) | (refine Run.condT ?_ ?_; (· (simp -implicitDefEqProofs [hrl, hrl']; done))) | (refine Run.condF ?_ ?_; (· (simp -implicitDefEqProofs [hrl, hrl']; done))) | refine Run.exit rfl ?_))
    refine Run.opF [0, 1, 2, 4] (hs1) rfl (by simp -implicitDefEqProofs [pruH]) rfl (by simp -implicitDefEqProofs [pruH]) (by decide) (by rfl) (by simp -implicitDefEqProofs [pruH]) ?_
    rintro v0 Hs' ⟨rfl, rfl⟩
    (repeat (first | refine Run.seq ?_ | refine Run.reg ?_ | refine Run.skip ?_ | refine Run.block ?_ | refine Run.endB ?_ | refine Run.opE rfl ?_ | (apply Run.op0 rfl; (· (simp -implicitDefEqProofs [pruH', hrl, hrl']; exact ⟨rfl, rfl⟩))) | (apply Run.opA rfl; (· (simp -implicitDefEqProofs [pruH', hrl, hrl']; done)); (· (simp -implicitDefEqProofs [pruH', hrl, hrl']; exact ⟨rfl, rfl⟩))) | (apply Run.opN rfl; (· (simp -implicitDefEqProofs [pruH', hrl, hrl']; done))) | (refine Run.condT ?_ ?_; (· (simp -implicitDefEqProofs [pruH', hrl, hrl']; done))) | (refine Run.condF ?_ ?_; (· (simp -implicitDefEqProofs [pruH', hrl, hrl']; done))) | refine Run.exit rfl ?_))
    refine Run.mv [0, 1, 2, 3, 5] _ _ (by rfl) (by decide) (by simp -implicitDefEqProofs [pruH']) (by simp -implicitDefEqProofs [pruH']) (ih ((l'.drop m, o ++ pg)) ?_ ?_)
    · exact ⟨by simp only [List.length_append]; omega, by rw [hgo]; simp⟩
    · simp only; omega

theorem pru_tri (l : List En) (pins : List Int) (hp : pins.length ≤ 1000000) (bottom : Bool) : Tri Try.prog 23 [.vs (l.map encE) 4, .vs (pins.map encI) 1, .bool bottom] [] (fun v H => v = .vs ((prM l pins bottom).map encE) 4 ∧ H = []) := by
  refine Tri.of_run' Try.func23 rfl c23_ok (by simp [Try.ntmps23]) ?_
  (repeat (first | refine Run.seq ?_ | refine Run.reg ?_ | refine Run.skip ?_ | refine Run.block ?_ | refine Run.endB ?_ | refine Run.opE rfl ?_ | (apply Run.op0 rfl; (· (simp -implicitDefEqProofs; exact ⟨rfl, rfl⟩))) | (apply Run.opA rfl; (· (simp -implicitDefEqProofs; done)); (· (simp -implicitDefEqProofs; exact ⟨rfl, rfl⟩))) | (apply Run.opN rfl; (· (simp -implicitDefEqProofs; done))) | (refine Run.condT ?_ ?_; (· (simp -implicitDefEqProofs; done))) | (refine Run.condF ?_ ?_; (· (simp -implicitDefEqProofs; done))) | refine Run.exit rfl ?_))
  refine Run.opF [0, 1, 2] (byPru_tri l pins hp bottom) rfl (by simp -implicitDefEqProofs) rfl (by simp -implicitDefEqProofs) (by decide) (by rfl) (by simp -implicitDefEqProofs) ?_
  rintro v0 Hs' ⟨rfl, rfl⟩
  (repeat (first | refine Run.seq ?_ | refine Run.reg ?_ | refine Run.skip ?_ | refine Run.block ?_ | refine Run.endB ?_ | refine Run.opE rfl ?_ | (apply Run.op0 rfl; (· (simp -implicitDefEqProofs [pruH]; exact ⟨rfl, rfl⟩))) | (apply Run.opA rfl; (· (simp -implicitDefEqProofs [pruH]; done)); (· (simp -implicitDefEqProofs [pruH]; exact ⟨rfl, rfl⟩))) | (apply Run.opN rfl; (· (simp -implicitDefEqProofs [pruH]; done))) | (refine Run.condT ?_ ?_; (· (simp -implicitDefEqProofs [pruH]; done))) | (refine Run.condF ?_ ?_; (· (simp -implicitDefEqProofs [pruH]; done))) | refine Run.exit rfl ?_))
  refine Run.freeze 3 (es := (prM l pins bottom).map encE) (sz := 4) (by simp) ?_
  refine Run.mv [] [(6, .vs ((prM l pins bottom).map encE) 4)] [] (by rfl) (by decide) (by simp -implicitDefEqProofs) (by simp -implicitDefEqProofs) ?_
  refine Run.retI Try.func23 r23_ok trivial (by simp -implicitDefEqProofs [r23]; rfl) (by simp ) ?_ (by simp -implicitDefEqProofs ) (by simp -implicitDefEqProofs )
  simp
theorem pru_at (l : List En) (pins : List Int) (hp : pins.length ≤ 1000000) (bottom : Bool) (H : List O) : Tri Try.prog 23 [.vs (l.map encE) 4, .vs (pins.map encI) 1, .bool bottom] H (fun v H' => v = .vs ((prM l pins bottom).map encE) 4 ∧ H' = H) := (pru_tri l pins hp bottom).at rfl rfl H

end Go.Proofs.Ytphpkigfmmanhaa
