/-
  Layer 14, part L: when lists are the same.
-/
import Derived.Test.YticecideodkcmaaOnceK
import Derived.Test.YticecideodkcmaaSx6
namespace Go.Proofs.Yticecideodkcmaa
open Sx Go
set_option maxRecDepth 100000
set_option linter.unusedSimpArgs false
set_option linter.unusedVariables false
set_option linter.unnecessarySimpa false
attribute [local simp] guardB isCall opStep Opd.ev put readAt aBin aUn args0 V.celled V.ones V.one V.cells putAt bounds bound1 elemsOf srcOf appendV fillAt fillEl V.pures V.pure unwind evs ARes.ev mkRes V.ren V.renL O.ren eqCells eq1 aEq aMM hasTy hasTyN okTy mmGo Known HLe OLe VsLe.refl VLe.refl Stay VsLe V.frz V.frzL O.frz fr clearV rn KnownR Objs OLeO ObjsE nm back setAll ren_ite take_map_len List.take_of_length_le
attribute [local simp ↓] upd_app tl_cons tl_nil

theorem seen_eq (x y : Seen) : (x = y) ↔ (x.client = y.client ∧ x.seq = y.seq ∧ sameR x y = true) := by
  cases x; cases y
  simp only [sameR, Seen.mk.injEq, Bool.and_eq_true, decide_eq_true_eq, beq_iff_eq]
  constructor
  · rintro ⟨h1, h2, h3, h4, h5, h6, h7⟩; exact ⟨h1, h2, ⟨⟨⟨h3, h4⟩, h5⟩, h7⟩, h6⟩
  · rintro ⟨h1, h2, ⟨⟨⟨h3, h4⟩, h5⟩, h7⟩, h6⟩; exact ⟨h1, h2, h3, h4, h5, h6, h7⟩

theorem same_tri (a b : List Seen) (hl : a.length ≤ 1000000) (hp : ∀ x ∈ a, x.pairs.length ≤ 1000000) : Tri Try.prog 15 [.vs (a.map encS) 7, .vs (b.map encS) 7] [] (fun v H => v = .bool (decide (a = b)) ∧ H = []) := by
  refine Tri.of_run' Try.func15 rfl c15_ok (by simp [Try.ntmps15]) ?_
  by_cases hlen : (a.length : Int) = (b.length : Int)
  · (repeat (first | refine Run.seq ?_ | refine Run.reg ?_ | refine Run.skip ?_ | refine Run.block ?_ | refine Run.endB ?_ | refine Run.opE rfl ?_ | (apply Run.op0 rfl; (· (simp -implicitDefEqProofs [hlen]; exact ⟨rfl, rfl⟩))) | (apply Run.opA rfl; (· (simp -implicitDefEqProofs [hlen]; done)); (· (simp -implicitDefEqProofs [hlen]; exact ⟨rfl, rfl⟩))) | (apply Run.opN rfl; (· (simp -implicitDefEqProofs [hlen]; done))) | (refine Run.condT ?_ ?_; (· (simp -implicitDefEqProofs [hlen]; done))) | (refine Run.condF ?_ ?_; (· (simp -implicitDefEqProofs [hlen]; done))) | refine Run.exit rfl ?_))
    refine Run.ck 0 [(0, .vs (a.map encS) 7), (1, .vs (b.map encS) 7), (5, .int .i64 0)] [] (by simp) (by simp) (by simp) (by simp) (by simp) ?_
    refine Run.loopS (fun i : Nat => ([(0, .vs (a.map encS) 7), (1, .vs (b.map encS) 7), (5, .int .i64 i)], [])) (fun i => i ≤ a.length ∧ a.take i = b.take i) (fun i => a.length - i) ?_ 0 (by simp)
    rintro i ⟨hi, htk⟩ ih
    by_cases hlt : i < a.length
    · have hlt' : (i : Int) < (a.length : Int) := by omega
      obtain ⟨x, hx⟩ : ∃ x, a[i]? = some x := ⟨a[i], by simp [hlt]⟩
      obtain ⟨y, hy⟩ : ∃ y, b[i]? = some y := ⟨b[i], by simp [show i < b.length by omega]⟩
      (repeat (first | refine Run.seq ?_ | refine Run.reg ?_ | refine Run.skip ?_ | refine Run.block ?_ | refine Run.endB ?_ | refine Run.opE rfl ?_ | (apply Run.op0 rfl; (· (simp -implicitDefEqProofs [hlt]; exact ⟨rfl, rfl⟩))) | (apply Run.opA rfl; (· (simp -implicitDefEqProofs [hlt]; done)); (· (simp -implicitDefEqProofs [hlt]; exact ⟨rfl, rfl⟩))) | (apply Run.opN rfl; (· (simp -implicitDefEqProofs [hlt]; done))) | (refine Run.condT ?_ ?_; (· (simp -implicitDefEqProofs [hlt]; done))) | (refine Run.condF ?_ ?_; (· (simp -implicitDefEqProofs [hlt]; done))) | refine Run.exit rfl ?_))
      refine Run.quietS prog_mixed (by kernel_rfl) 0 [(0, .vs (a.map encS) 7), (1, .vs (b.map encS) 7), (5, .int .i64 i), (54, .bool (!decide (x = y)))] [] ?_ ?_
      · by_cases a1 : x.client = y.client
        · by_cases a2 : x.seq = y.seq
          · (repeat (first | refine execQ_E rfl ?_ | (apply execQ_0 rfl; (· rfl); (· (simp -implicitDefEqProofs [hx, hy, encS, encR, a1, a2]; exact ⟨rfl, rfl⟩))) | (apply execQ_A rfl; (· (simp -implicitDefEqProofs [hx, hy, encS, encR, a1, a2]; done)); (· rfl); (· (simp -implicitDefEqProofs [hx, hy, encS, encR, a1, a2]; exact ⟨rfl, rfl⟩))) | (apply execQ_N rfl; (· (simp -implicitDefEqProofs [hx, hy, encS, encR, a1, a2]; done)))))
            refine execQ_C rfl (by simp) rfl (sameR_tri x y (hp x (List.mem_of_getElem? hx))) ?_
            have e : decide (x = y) = sameR x y := by
              rw [Bool.eq_iff_iff, decide_eq_true_eq, seen_eq]; simp [a1, a2]
            (repeat (first | refine execQ_E rfl ?_ | (apply execQ_0 rfl; (· rfl); (· (simp -implicitDefEqProofs [e]; exact ⟨rfl, rfl⟩))) | (apply execQ_A rfl; (· (simp -implicitDefEqProofs [e]; done)); (· rfl); (· (simp -implicitDefEqProofs [e]; exact ⟨rfl, rfl⟩))) | (apply execQ_N rfl; (· (simp -implicitDefEqProofs [e]; done)))))
            simp [e]
          · have e : x ≠ y := fun e => a2 (by rw [e])
            (repeat (first | refine execQ_E rfl ?_ | (apply execQ_0 rfl; (· rfl); (· (simp -implicitDefEqProofs [hx, hy, encS, encR, a1, a2]; exact ⟨rfl, rfl⟩))) | (apply execQ_A rfl; (· (simp -implicitDefEqProofs [hx, hy, encS, encR, a1, a2]; done)); (· rfl); (· (simp -implicitDefEqProofs [hx, hy, encS, encR, a1, a2]; exact ⟨rfl, rfl⟩))) | (apply execQ_N rfl; (· (simp -implicitDefEqProofs [hx, hy, encS, encR, a1, a2]; done)))))
            simp [e]
        · have e : x ≠ y := fun e => a1 (by rw [e])
          (repeat (first | refine execQ_E rfl ?_ | (apply execQ_0 rfl; (· rfl); (· (simp -implicitDefEqProofs [hx, hy, encS, encR, a1]; exact ⟨rfl, rfl⟩))) | (apply execQ_A rfl; (· (simp -implicitDefEqProofs [hx, hy, encS, encR, a1]; done)); (· rfl); (· (simp -implicitDefEqProofs [hx, hy, encS, encR, a1]; exact ⟨rfl, rfl⟩))) | (apply execQ_N rfl; (· (simp -implicitDefEqProofs [hx, hy, encS, encR, a1]; done)))))
          simp [e]
      by_cases e : x = y
      · (repeat (first | refine Run.seq ?_ | refine Run.reg ?_ | refine Run.skip ?_ | refine Run.block ?_ | refine Run.endB ?_ | refine Run.opE rfl ?_ | (apply Run.op0 rfl; (· (simp -implicitDefEqProofs [e]; exact ⟨rfl, rfl⟩))) | (apply Run.opA rfl; (· (simp -implicitDefEqProofs [e]; done)); (· (simp -implicitDefEqProofs [e]; exact ⟨rfl, rfl⟩))) | (apply Run.opN rfl; (· (simp -implicitDefEqProofs [e]; done))) | (refine Run.condT ?_ ?_; (· (simp -implicitDefEqProofs [e]; done))) | (refine Run.condF ?_ ?_; (· (simp -implicitDefEqProofs [e]; done))) | refine Run.exit rfl ?_))
        rw [wrap_small (by omega) (by omega)]
        refine Run.ck 0 [(0, .vs (a.map encS) 7), (1, .vs (b.map encS) 7), (5, .int .i64 (i + 1))] [] (by simp) (by simp) (by simp) (by simp) (by simp) ?_
        refine ih (i + 1) ⟨by omega, ?_⟩ (by omega)
        rw [List.take_add_one, List.take_add_one, hx, hy, htk, e]
      · (repeat (first | refine Run.seq ?_ | refine Run.reg ?_ | refine Run.skip ?_ | refine Run.block ?_ | refine Run.endB ?_ | refine Run.opE rfl ?_ | (apply Run.op0 rfl; (· (simp -implicitDefEqProofs [e]; exact ⟨rfl, rfl⟩))) | (apply Run.opA rfl; (· (simp -implicitDefEqProofs [e]; done)); (· (simp -implicitDefEqProofs [e]; exact ⟨rfl, rfl⟩))) | (apply Run.opN rfl; (· (simp -implicitDefEqProofs [e]; done))) | (refine Run.condT ?_ ?_; (· (simp -implicitDefEqProofs [e]; done))) | (refine Run.condF ?_ ?_; (· (simp -implicitDefEqProofs [e]; done))) | refine Run.exit rfl ?_))
        refine Run.ret0 rfl Try.func15 r15_ok trivial (by simp [r15]; rfl) ?_ (by simp)
        have : a ≠ b := fun he => e (by rw [he, hy] at hx; exact (Option.some.inj hx).symm)
        simp [this]
    · (repeat (first | refine Run.seq ?_ | refine Run.reg ?_ | refine Run.skip ?_ | refine Run.block ?_ | refine Run.endB ?_ | refine Run.opE rfl ?_ | (apply Run.op0 rfl; (· (simp -implicitDefEqProofs [hlt]; exact ⟨rfl, rfl⟩))) | (apply Run.opA rfl; (· (simp -implicitDefEqProofs [hlt]; done)); (· (simp -implicitDefEqProofs [hlt]; exact ⟨rfl, rfl⟩))) | (apply Run.opN rfl; (· (simp -implicitDefEqProofs [hlt]; done))) | (refine Run.condT ?_ ?_; (· (simp -implicitDefEqProofs [hlt]; done))) | (refine Run.condF ?_ ?_; (· (simp -implicitDefEqProofs [hlt]; done))) | refine Run.exit rfl ?_))
      refine Run.ret0 rfl Try.func15 r15_ok trivial (by simp [r15]; rfl) ?_ (by simp)
      have e1 : i = a.length := by omega
      have e2 : i = b.length := by omega
      have : a = b := by
        have h1 := List.take_length (l := a)
        have h2 := List.take_length (l := b)
        rw [← h1, ← h2, ← e1, ← e2]; exact htk
      simp [this]
  · (repeat (first | refine Run.seq ?_ | refine Run.reg ?_ | refine Run.skip ?_ | refine Run.block ?_ | refine Run.endB ?_ | refine Run.opE rfl ?_ | (apply Run.op0 rfl; (· (simp -implicitDefEqProofs [hlen]; exact ⟨rfl, rfl⟩))) | (apply Run.opA rfl; (· (simp -implicitDefEqProofs [hlen]; done)); (· (simp -implicitDefEqProofs [hlen]; exact ⟨rfl, rfl⟩))) | (apply Run.opN rfl; (· (simp -implicitDefEqProofs [hlen]; done))) | (refine Run.condT ?_ ?_; (· (simp -implicitDefEqProofs [hlen]; done))) | (refine Run.condF ?_ ?_; (· (simp -implicitDefEqProofs [hlen]; done))) | refine Run.exit rfl ?_))
    refine Run.ret0 rfl Try.func15 r15_ok trivial (by simp [r15]; rfl) ?_ (by simp)
    have : a ≠ b := fun he => hlen (by rw [he])
    simp [this]

end Go.Proofs.Yticecideodkcmaa
