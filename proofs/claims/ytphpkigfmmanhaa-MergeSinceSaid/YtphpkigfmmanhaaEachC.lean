/-
  Layer 11, part EachC: Each; Merge.
-/
import Derived.Test.YtphpkigfmmanhaaEachB
namespace Go.Proofs.Ytphpkigfmmanhaa
open Sx Go
set_option maxRecDepth 100000
set_option linter.unusedSimpArgs false
set_option linter.unusedVariables false
set_option linter.unnecessarySimpa false
attribute [local simp] guardB isCall opStep Opd.ev put readAt aBin aUn args0 V.celled V.ones V.one V.cells putAt bounds bound1 elemsOf srcOf appendV fillAt fillEl V.pures V.pure unwind evs ARes.ev mkRes V.ren V.renL O.ren eqCells eq1 aEq aMM hasTy hasTyN okTy mmGo Known HLe OLe VsLe.refl VLe.refl Stay VsLe V.frz V.frzL O.frz fr clearV rn KnownR Objs OLeO ObjsE nm back setAll ren_ite take_map_len List.take_of_length_le
attribute [local simp ↓] upd_app tl_cons tl_nil
attribute [local simp] encE_ren encE_ones encE_len encE_take
attribute [local simp ↓] tailO_ren tail_skip
attribute [local simp] cellV_ren

theorem names_id {n : Nat} {h : List O} (hl : n ≤ h.length) (ho : Stay h.length h) : Names n (fr h.length) h h := by
  refine ⟨hl, fun i hi => by simp [fr]; omega, fun i j hij => ?_, fun i o hi _ => ⟨i, ?_, ?_⟩, fun i i' j h1 h2 => ?_⟩
  · unfold fr at hij; split at hij <;> simp at hij; omega
  · simp [fr, (List.getElem?_eq_some_iff.1 hi).1]
  · rw [ho.mem o (List.mem_of_getElem? hi)]; exact hi
  · unfold fr at h1 h2; split at h1 <;> split at h2 <;> simp at h1 h2; omega
theorem names_none (h : List O) : Names 0 (fun _ => none) h [] := ⟨by simp, (fun i hi => by simp at hi), (fun i j h => by cases h), (fun i o h => by simp at h), (fun i i' j h => by cases h)⟩

theorem each_tri (ls : List (List En)) : Tri Try.prog 17 [.vs (ls.map encL) 1] [] (fun v H => v = .fn 30 [.ptr 0 0] ∧ H = [.row [.vs (ls.map encL) 1]]) := by
  refine Tri.of_run' Try.func17 rfl c17_ok (by simp [Try.ntmps17]) ?_
  (repeat (first | refine Run.seq ?_ | refine Run.reg ?_ | refine Run.skip ?_ | refine Run.block ?_ | refine Run.endB ?_ | refine Run.opE rfl ?_ | (apply Run.op0 rfl; (· (simp -implicitDefEqProofs; exact ⟨rfl, rfl⟩))) | (apply Run.opA rfl; (· (simp -implicitDefEqProofs; done)); (· (simp -implicitDefEqProofs; exact ⟨rfl, rfl⟩))) | (apply Run.opN rfl; (· (simp -implicitDefEqProofs; done))) | (refine Run.condT ?_ ?_; (· (simp -implicitDefEqProofs; done))) | (refine Run.condF ?_ ?_; (· (simp -implicitDefEqProofs; done))) | refine Run.exit rfl ?_))
  refine Run.retI Try.func17 r17_ok trivial (by simp -implicitDefEqProofs [r17]; rfl) (by simp ) ?_ (by simp -implicitDefEqProofs ) (by simp -implicitDefEqProofs )
  simp

theorem cell_cases (o : List En) : (o = [] ∧ cellV o = .nils ∧ tailO o = .gone) ∨ (cellV o = .sl 5 0 o.length 4 none ∧ tailO o = .arr (o.map encE) 4) := by
  cases o with
  | nil => exact .inl ⟨rfl, rfl, rfl⟩
  | cons => exact .inr ⟨rfl, rfl⟩

/-- what Merge answers -/
def mergeG (ls : List (List En)) : List En × Int := if mayL ls = true then (if (eachM ls).length ≤ 4096 then (eachM ls, 0) else ([], 2)) else ([], 1)

theorem mrg_tri (ls : List (List En)) (hls : ls.length ≤ 100) : Tri Try.prog 12 [.vs (ls.map encL) 1] [] (fun v H => v = .tup [.vs ((mergeG ls).1.map encE) 4, .int .i64 (mergeG ls).2] ∧ H = []) := by
  refine Tri.of_run' Try.func12 rfl c12_ok (by simp [Try.ntmps12]) ?_
  (repeat (first | refine Run.seq ?_ | refine Run.reg ?_ | refine Run.skip ?_ | refine Run.block ?_ | refine Run.endB ?_ | refine Run.opE rfl ?_ | (apply Run.op0 rfl; (· (simp -implicitDefEqProofs; exact ⟨rfl, rfl⟩))) | (apply Run.opA rfl; (· (simp -implicitDefEqProofs; done)); (· (simp -implicitDefEqProofs; exact ⟨rfl, rfl⟩))) | (apply Run.opN rfl; (· (simp -implicitDefEqProofs; done))) | (refine Run.condT ?_ ?_; (· (simp -implicitDefEqProofs; done))) | (refine Run.condF ?_ ?_; (· (simp -implicitDefEqProofs; done))) | refine Run.exit rfl ?_))
  refine Run.opC rfl rfl rfl (mayL_at ls (by omega) _) ?_
  rintro v h' ⟨rfl, rfl⟩
  cases hm : mayL ls with
  | false =>
    (repeat (first | refine Run.seq ?_ | refine Run.reg ?_ | refine Run.skip ?_ | refine Run.block ?_ | refine Run.endB ?_ | refine Run.opE rfl ?_ | (apply Run.op0 rfl; (· (simp -implicitDefEqProofs [hm]; exact ⟨rfl, rfl⟩))) | (apply Run.opA rfl; (· (simp -implicitDefEqProofs [hm]; done)); (· (simp -implicitDefEqProofs [hm]; exact ⟨rfl, rfl⟩))) | (apply Run.opN rfl; (· (simp -implicitDefEqProofs [hm]; done))) | (refine Run.condT ?_ ?_; (· (simp -implicitDefEqProofs [hm]; done))) | (refine Run.condF ?_ ?_; (· (simp -implicitDefEqProofs [hm]; done))) | refine Run.exit rfl ?_))
    refine Run.mv [0, 1] [(2, .ptr 0 0), (3, .ptr 1 0)] [.row [.vs [] 4], .row [.int .i64 1]] (by rfl) (by decide) (by simp -implicitDefEqProofs [VLe.nils]) (by simp -implicitDefEqProofs [VLe.nils]) ?_
    refine Run.ret0 rfl Try.func12 r12_ok trivial (by simp [r12]; rfl) ?_ (by simp)
    simp [mergeG, hm]
  | true =>
    (repeat (first | refine Run.seq ?_ | refine Run.reg ?_ | refine Run.skip ?_ | refine Run.block ?_ | refine Run.endB ?_ | refine Run.opE rfl ?_ | (apply Run.op0 rfl; (· (simp -implicitDefEqProofs [hm]; exact ⟨rfl, rfl⟩))) | (apply Run.opA rfl; (· (simp -implicitDefEqProofs [hm]; done)); (· (simp -implicitDefEqProofs [hm]; exact ⟨rfl, rfl⟩))) | (apply Run.opN rfl; (· (simp -implicitDefEqProofs [hm]; done))) | (refine Run.condT ?_ ?_; (· (simp -implicitDefEqProofs [hm]; done))) | (refine Run.condF ?_ ?_; (· (simp -implicitDefEqProofs [hm]; done))) | refine Run.exit rfl ?_))
    refine Run.opF [] (each_tri ls) rfl (by simp -implicitDefEqProofs) rfl (by simp -implicitDefEqProofs) (by decide) (by rfl) (by simp -implicitDefEqProofs) ?_
    rintro v0 Hs' ⟨rfl, rfl⟩
    (repeat (first | refine Run.seq ?_ | refine Run.reg ?_ | refine Run.skip ?_ | refine Run.block ?_ | refine Run.endB ?_ | refine Run.opE rfl ?_ | (apply Run.op0 rfl; (· (simp -implicitDefEqProofs; exact ⟨rfl, rfl⟩))) | (apply Run.opA rfl; (· (simp -implicitDefEqProofs; done)); (· (simp -implicitDefEqProofs; exact ⟨rfl, rfl⟩))) | (apply Run.opN rfl; (· (simp -implicitDefEqProofs; done))) | (refine Run.condT ?_ ?_; (· (simp -implicitDefEqProofs; done))) | (refine Run.condF ?_ ?_; (· (simp -implicitDefEqProofs; done))) | refine Run.exit rfl ?_))
    refine Run.mv [0, 1, 2, 3] [(2, .ptr 0 0), (3, .ptr 1 0), (4, .ptr 2 0), (10, .fn 30 [.ptr 3 0])] [.row [.nils], .row [.int .i64 0], .row [.nils], .row [.vs (ls.map encL) 1]] (by rfl) (by decide) (by simp -implicitDefEqProofs) (by simp -implicitDefEqProofs) ?_
    refine Run.rangeF [(2, .ptr 0 0), (3, .ptr 1 0), (4, .ptr 2 0)] rfl (f := 30) (caps := [.ptr 3 0]) (by simp) (by simp) ?_
    intro L hL
    refine ⟨_, each1_tri (.row [.nils]) (.row [.int .i64 0]) (fun _ => rfl) (fun _ => rfl) L [(2, .ptr 0 0), (3, .ptr 1 0), (4, .ptr 2 0)] (fun ρ h0 h1 h2 => by simp [V.ren, h0, h1, h2]) ls hls hm (fun o => o.length ≤ 4096) (fun o _ => decide (o.length = 4096))
      (fun o e H => ∃ ps : List Nat, H = [.row [.nils], .row [.int .i64 2], .row [.sl 5 0 o.length 4 none], .row [.vs (ls.map encL) 1], .loop L [(2, .ptr 0 0), (3, .ptr 1 0), (4, .ptr 2 0)] (.done .ret), .arr (o.map encE) 4, .arr (ps.map encN) 1, .row (encE e)]) (fun o e H hH => ?_) (by simp) (fun o e ps hI => ?_), ?_⟩
    · obtain ⟨ps, rfl⟩ := hH
      exact ⟨by simp, by simp [encE]⟩
    · simp only [eachH, List.cons_append, List.nil_append]
      refine TriY.of_run hL rfl rfl ?_
      have hbb : (o.length + 1) * 48 ≤ 70368744177664 := by omega
      by_cases hst : o.length = 4096
      · rcases cell_cases o with ⟨rfl, hcv, hto⟩ | ⟨hcv, hto⟩
        · simp at hst
        · rw [hcv, hto]
          (repeat (first | refine Run.seq ?_ | refine Run.reg ?_ | refine Run.skip ?_ | refine Run.block ?_ | refine Run.endB ?_ | refine Run.opE rfl ?_ | (apply Run.op0 rfl; (· (simp -implicitDefEqProofs [setPs, encE]; exact ⟨rfl, rfl⟩))) | (apply Run.opA rfl; (· (simp -implicitDefEqProofs [setPs, encE]; done)); (· (simp -implicitDefEqProofs [setPs, encE]; exact ⟨rfl, rfl⟩))) | (apply Run.opN rfl; (· (simp -implicitDefEqProofs [setPs, encE]; done))) | (refine Run.condT ?_ ?_; (· (simp -implicitDefEqProofs [setPs, encE]; done))) | (refine Run.condF ?_ ?_; (· (simp -implicitDefEqProofs [setPs, encE]; done))) | refine Run.exit rfl ?_))
          refine Run.beginR (f := 12) (id := 4) (by rfl) (by rfl) ?_
          have hst' : (o.length : Int) = 4096 := by omega
          (repeat (first | refine Run.seq ?_ | refine Run.reg ?_ | refine Run.skip ?_ | refine Run.block ?_ | refine Run.endB ?_ | refine Run.opE rfl ?_ | (apply Run.op0 rfl; (· (simp -implicitDefEqProofs [setPs, hst', encE]; exact ⟨rfl, rfl⟩))) | (apply Run.opA rfl; (· (simp -implicitDefEqProofs [setPs, hst', encE]; done)); (· (simp -implicitDefEqProofs [setPs, hst', encE]; exact ⟨rfl, rfl⟩))) | (apply Run.opN rfl; (· (simp -implicitDefEqProofs [setPs, hst', encE]; done))) | (refine Run.condT ?_ ?_; (· (simp -implicitDefEqProofs [setPs, hst', encE]; done))) | (refine Run.condF ?_ ?_; (· (simp -implicitDefEqProofs [setPs, hst', encE]; done))) | refine Run.exit rfl ?_))
          refine Run.mv [0, 1, 2, 3, 4, 5, 6, 7] [] [.row [.nils], .row [.int .i64 2], .row [.sl 5 0 o.length 4 none], .row [.vs (ls.map encL) 1], .loop L [(2, .ptr 0 0), (3, .ptr 1 0), (4, .ptr 2 0)] .busy, .arr (o.map encE) 4, .arr (ps.map encN) 1, .row (encE e)] (by rfl) (by decide) (by simp -implicitDefEqProofs [encE]) (by simp -implicitDefEqProofs [encE]) ?_
          refine Run.roundEnd (f := 12) (id := 4) (j := some .ret) rfl rfl rfl (fr 8) (h' := [.row [.nils], .row [.int .i64 2], .row [.sl 5 0 o.length 4 none], .row [.vs (ls.map encL) 1], .loop L [(2, .ptr 0 0), (3, .ptr 1 0), (4, .ptr 2 0)] (.done .ret), .arr (o.map encE) 4, .arr (ps.map encN) 1, .row (encE e)]) (names_id (n := 8) (h := [.row [.nils], .row [.int .i64 2], .row [.sl 5 0 o.length 4 none], .row [.vs (ls.map encL) 1], .loop L [(2, .ptr 0 0), (3, .ptr 1 0), (4, .ptr 2 0)] (.done .ret), .arr (o.map encE) 4, .arr (ps.map encN) 1, .row (encE e)]) (by simp) (by simp [encE])) ?_
          exact .inr ⟨by simpa using hst, rfl, _, rfl⟩
      · have hst' : ¬ (o.length : Int) = 4096 := by omega
        have hle : (o ++ [e]).length ≤ 4096 := by simp only [List.length_append, List.length_cons, List.length_nil]; omega
        rcases cell_cases o with ⟨rfl, hcv, hto⟩ | ⟨hcv, hto⟩
        · rw [hcv, hto]
          (repeat (first | refine Run.seq ?_ | refine Run.reg ?_ | refine Run.skip ?_ | refine Run.block ?_ | refine Run.endB ?_ | refine Run.opE rfl ?_ | (apply Run.op0 rfl; (· (simp -implicitDefEqProofs [setPs, encE]; exact ⟨rfl, rfl⟩))) | (apply Run.opA rfl; (· (simp -implicitDefEqProofs [setPs, encE]; done)); (· (simp -implicitDefEqProofs [setPs, encE]; exact ⟨rfl, rfl⟩))) | (apply Run.opN rfl; (· (simp -implicitDefEqProofs [setPs, encE]; done))) | (refine Run.condT ?_ ?_; (· (simp -implicitDefEqProofs [setPs, encE]; done))) | (refine Run.condF ?_ ?_; (· (simp -implicitDefEqProofs [setPs, encE]; done))) | refine Run.exit rfl ?_))
          refine Run.beginR (f := 12) (id := 4) (by rfl) (by rfl) ?_
          (repeat (first | refine Run.seq ?_ | refine Run.reg ?_ | refine Run.skip ?_ | refine Run.block ?_ | refine Run.endB ?_ | refine Run.opE rfl ?_ | (apply Run.op0 rfl; (· (simp -implicitDefEqProofs [setPs, encE, hst']; exact ⟨rfl, rfl⟩))) | (apply Run.opA rfl; (· (simp -implicitDefEqProofs [setPs, encE, hst']; done)); (· (simp -implicitDefEqProofs [setPs, encE, hst']; exact ⟨rfl, rfl⟩))) | (apply Run.opN rfl; (· (simp -implicitDefEqProofs [setPs, encE, hst']; done))) | (refine Run.condT ?_ ?_; (· (simp -implicitDefEqProofs [setPs, encE, hst']; done))) | (refine Run.condF ?_ ?_; (· (simp -implicitDefEqProofs [setPs, encE, hst']; done))) | refine Run.exit rfl ?_))
          refine Run.mv [0, 1, 2, 3, 4, 5, 6, 7, 10] [] [.row [.nils], .row [.int .i64 0], .row [.sl 8 0 (([] : List En).length + 1) 4 none], .row [.vs (ls.map encL) 1], .loop L [(2, .ptr 0 0), (3, .ptr 1 0), (4, .ptr 2 0)] .busy, .gone, .arr (ps.map encN) 1, .row (encE e), .arr ((([] : List En) ++ [e]).map encE) 4] (by rfl) (by decide) (by simp -implicitDefEqProofs [encE]) (by simp -implicitDefEqProofs [encE]) ?_
          refine Run.roundEnd (f := 12) (id := 4) (j := none) rfl rfl rfl (fr 9) (h' := [.row [.nils], .row [.int .i64 0], .row [.sl 8 0 (([] : List En).length + 1) 4 none], .row [.vs (ls.map encL) 1], .loop L [(2, .ptr 0 0), (3, .ptr 1 0), (4, .ptr 2 0)] .ready, .gone, .arr (ps.map encN) 1, .row (encE e), .arr ((([] : List En) ++ [e]).map encE) 4]) (names_id (n := 8) (h := [.row [.nils], .row [.int .i64 0], .row [.sl 8 0 (([] : List En).length + 1) 4 none], .row [.vs (ls.map encL) 1], .loop L [(2, .ptr 0 0), (3, .ptr 1 0), (4, .ptr 2 0)] .ready, .gone, .arr (ps.map encN) 1, .row (encE e), .arr ((([] : List En) ++ [e]).map encE) 4]) (by simp) (by simp [encE])) ?_
          exact .inl ⟨by simpa using hst, hle, rfl, rfl⟩
        · rw [hcv, hto]
          (repeat (first | refine Run.seq ?_ | refine Run.reg ?_ | refine Run.skip ?_ | refine Run.block ?_ | refine Run.endB ?_ | refine Run.opE rfl ?_ | (apply Run.op0 rfl; (· (simp -implicitDefEqProofs [setPs, encE]; exact ⟨rfl, rfl⟩))) | (apply Run.opA rfl; (· (simp -implicitDefEqProofs [setPs, encE]; done)); (· (simp -implicitDefEqProofs [setPs, encE]; exact ⟨rfl, rfl⟩))) | (apply Run.opN rfl; (· (simp -implicitDefEqProofs [setPs, encE]; done))) | (refine Run.condT ?_ ?_; (· (simp -implicitDefEqProofs [setPs, encE]; done))) | (refine Run.condF ?_ ?_; (· (simp -implicitDefEqProofs [setPs, encE]; done))) | refine Run.exit rfl ?_))
          refine Run.beginR (f := 12) (id := 4) (by rfl) (by rfl) ?_
          (repeat (first | refine Run.seq ?_ | refine Run.reg ?_ | refine Run.skip ?_ | refine Run.block ?_ | refine Run.endB ?_ | refine Run.opE rfl ?_ | (apply Run.op0 rfl; (· (simp -implicitDefEqProofs [setPs, encE, hst', hbb]; exact ⟨rfl, rfl⟩))) | (apply Run.opA rfl; (· (simp -implicitDefEqProofs [setPs, encE, hst', hbb]; done)); (· (simp -implicitDefEqProofs [setPs, encE, hst', hbb]; exact ⟨rfl, rfl⟩))) | (apply Run.opN rfl; (· (simp -implicitDefEqProofs [setPs, encE, hst', hbb]; done))) | (refine Run.condT ?_ ?_; (· (simp -implicitDefEqProofs [setPs, encE, hst', hbb]; done))) | (refine Run.condF ?_ ?_; (· (simp -implicitDefEqProofs [setPs, encE, hst', hbb]; done))) | refine Run.exit rfl ?_))
          refine Run.mv [0, 1, 2, 3, 4, 5, 6, 7, 10] [] [.row [.nils], .row [.int .i64 0], .row [.sl 8 0 (o.length + 1) 4 none], .row [.vs (ls.map encL) 1], .loop L [(2, .ptr 0 0), (3, .ptr 1 0), (4, .ptr 2 0)] .busy, .gone, .arr (ps.map encN) 1, .row (encE e), .arr ((o ++ [e]).map encE) 4] (by rfl) (by decide) (by simp -implicitDefEqProofs [encE]) (by simp -implicitDefEqProofs [encE]) ?_
          refine Run.roundEnd (f := 12) (id := 4) (j := none) rfl rfl rfl (fr 9) (h' := [.row [.nils], .row [.int .i64 0], .row [.sl 8 0 (o.length + 1) 4 none], .row [.vs (ls.map encL) 1], .loop L [(2, .ptr 0 0), (3, .ptr 1 0), (4, .ptr 2 0)] .ready, .gone, .arr (ps.map encN) 1, .row (encE e), .arr ((o ++ [e]).map encE) 4]) (names_id (n := 8) (h := [.row [.nils], .row [.int .i64 0], .row [.sl 8 0 (o.length + 1) 4 none], .row [.vs (ls.map encL) 1], .loop L [(2, .ptr 0 0), (3, .ptr 1 0), (4, .ptr 2 0)] .ready, .gone, .arr (ps.map encN) 1, .row (encE e), .arr ((o ++ [e]).map encE) 4]) (by simp) (by simp [encE])) ?_
          exact .inl ⟨by simpa using hst, hle, rfl, rfl⟩
    · rintro v H' ⟨rfl, hcase⟩
      rcases hcase with ⟨hI, rfl⟩ | ⟨o, e, r, hgo, hI, hst, ps, rfl⟩
      · have hg : mergeG ls = (eachM ls, 0) := by rw [mergeG, if_pos hm, if_pos hI]
        rw [hg]
        generalize eachM ls = o at *
        refine ⟨_, _, _, rfl, by simp, ?_⟩
        intro ds
        rcases cell_cases o with ⟨rfl, hcv, hto⟩ | ⟨hcv, hto⟩
        · rw [hcv, hto]
          (repeat (first | refine Run.seq ?_ | refine Run.reg ?_ | refine Run.skip ?_ | refine Run.block ?_ | refine Run.endB ?_ | refine Run.opE rfl ?_ | (apply Run.op0 rfl; (· (simp -implicitDefEqProofs; exact ⟨rfl, rfl⟩))) | (apply Run.opA rfl; (· (simp -implicitDefEqProofs; done)); (· (simp -implicitDefEqProofs; exact ⟨rfl, rfl⟩))) | (apply Run.opN rfl; (· (simp -implicitDefEqProofs; done))) | (refine Run.condT ?_ ?_; (· (simp -implicitDefEqProofs; done))) | (refine Run.condF ?_ ?_; (· (simp -implicitDefEqProofs; done))) | refine Run.exit rfl ?_))
          refine Run.mv [0, 1, 2, 3, 4, 5] [(2, .ptr 0 0), (3, .ptr 1 0)] [.row [.vs [] 4], .row [.int .i64 0], .gone, .gone, .gone, .gone] (by rfl) (by decide) (by simp -implicitDefEqProofs [VLe.nils]) (by simp -implicitDefEqProofs [VLe.nils]) ?_
          refine Run.retI Try.func12 r12_ok trivial (by simp [r12]; rfl) (by simp) ?_ (by simp) (by simp)
          exact ⟨fun _ => none, _, [], names_none _, rfl, rfl, rfl⟩
        · rw [hcv, hto]
          (repeat (first | refine Run.seq ?_ | refine Run.reg ?_ | refine Run.skip ?_ | refine Run.block ?_ | refine Run.endB ?_ | refine Run.opE rfl ?_ | (apply Run.op0 rfl; (· (simp -implicitDefEqProofs; exact ⟨rfl, rfl⟩))) | (apply Run.opA rfl; (· (simp -implicitDefEqProofs; done)); (· (simp -implicitDefEqProofs; exact ⟨rfl, rfl⟩))) | (apply Run.opN rfl; (· (simp -implicitDefEqProofs; done))) | (refine Run.condT ?_ ?_; (· (simp -implicitDefEqProofs; done))) | (refine Run.condF ?_ ?_; (· (simp -implicitDefEqProofs; done))) | refine Run.exit rfl ?_))
          refine Run.freeze 5 (es := o.map encE) (sz := 4) (by simp) ?_
          refine Run.mv [0, 1, 2, 3, 4, 5] [(2, .ptr 0 0), (3, .ptr 1 0)] [.row [.vs (o.map encE) 4], .row [.int .i64 0], .gone, .gone, .gone, .gone] (by rfl) (by decide) (by simp -implicitDefEqProofs) (by simp -implicitDefEqProofs) ?_
          refine Run.retI Try.func12 r12_ok trivial (by simp [r12]; rfl) (by simp) ?_ (by simp) (by simp)
          exact ⟨fun _ => none, _, [], names_none _, rfl, rfl, rfl⟩
      · have hst' : o.length = 4096 := by simpa using hst
        have hl : ¬ (eachM ls).length ≤ 4096 := by rw [hgo]; simp only [List.length_append, List.length_cons]; omega
        have hg : mergeG ls = ([], 2) := by rw [mergeG, if_pos hm, if_neg hl]
        rw [hg]
        refine ⟨_, _, _, rfl, by simp, ⟨.ret, rfl, fun ds => ?_⟩⟩
        simp only [List.length_cons, List.length_nil, List.set_cons_succ, List.set_cons_zero]
        refine Run.mv [0, 1, 2, 3, 4, 5, 6, 7] [(2, .ptr 0 0), (3, .ptr 1 0)] [.row [.vs [] 4], .row [.int .i64 2], .gone, .gone, .gone, .gone, .gone, .gone] (by rfl) (by decide) (by simp -implicitDefEqProofs [VLe.nils]) (by simp -implicitDefEqProofs [VLe.nils]) ?_
        refine Run.retI Try.func12 r12_ok trivial (by simp [r12]; rfl) (by simp) ?_ (by simp) (by simp)
        exact ⟨fun _ => none, _, [], names_none _, rfl, rfl, rfl⟩
theorem mrg_at (ls : List (List En)) (hls : ls.length ≤ 100) (H : List O) : Tri Try.prog 12 [.vs (ls.map encL) 1] H (fun v H' => v = .tup [.vs ((mergeG ls).1.map encE) 4, .int .i64 (mergeG ls).2] ∧ H' = H) := (mrg_tri ls hls).at rfl rfl H

end Go.Proofs.Ytphpkigfmmanhaa
