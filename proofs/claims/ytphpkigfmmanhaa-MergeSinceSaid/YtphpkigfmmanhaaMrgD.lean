/-
  Layer 11, part D: the document's Visible and Since.
-/
import Derived.Test.YtphpkigfmmanhaaMrgC
namespace Go.Proofs.Ytphpkigfmmanhaa
open Sx Go
set_option maxRecDepth 100000
set_option linter.unusedSimpArgs false
set_option linter.unusedVariables false
set_option linter.unnecessarySimpa false
attribute [local simp] guardB isCall opStep Opd.ev put readAt aBin aUn args0 V.celled V.ones V.one V.cells putAt bounds bound1 elemsOf srcOf appendV fillAt fillEl V.pures V.pure unwind evs ARes.ev mkRes V.ren V.renL O.ren eqCells eq1 aEq aMM hasTy hasTyN okTy mmGo Known HLe OLe VsLe.refl VLe.refl Stay VsLe V.frz V.frzL O.frz fr clearV rn KnownR Objs OLeO ObjsE nm back setAll ren_ite take_map_len List.take_of_length_le
attribute [local simp ↓] upd_app tl_cons tl_nil
attribute [local simp] encE_ren encE_ones encE_len encE_take

def isFirst (key : Bs) (n : Int) (e : En) : Bool := decide (e.key = key) && decide (e.seq ≤ n)
def firstI (l : List En) (key : Bs) (n : Int) : Int := idxI (l.findIdx? (isFirst key n))

theorem first_tri (l : List En) (hll : l.length ≤ 1000000) (key : Bs) (n : Int) : Tri Try.prog 35 [.vs (l.map encE) 4, .str key, .int .i64 n] [] (fun v H => v = .int .i64 (firstI l key n) ∧ H = []) := by
  refine Tri.of_run' Try.func35 rfl c35_ok (by simp [Try.ntmps35]) ?_
  (repeat (first | refine Run.seq ?_ | refine Run.reg ?_ | refine Run.skip ?_ | refine Run.block ?_ | refine Run.endB ?_ | refine Run.opE rfl ?_ | (apply Run.op0 rfl; (· (simp -implicitDefEqProofs; exact ⟨rfl, rfl⟩))) | (apply Run.opA rfl; (· (simp -implicitDefEqProofs; done)); (· (simp -implicitDefEqProofs; exact ⟨rfl, rfl⟩))) | (apply Run.opN rfl; (· (simp -implicitDefEqProofs; done))) | (refine Run.condT ?_ ?_; (· (simp -implicitDefEqProofs; done))) | (refine Run.condF ?_ ?_; (· (simp -implicitDefEqProofs; done))) | refine Run.exit rfl ?_))
  refine Run.loopC [] (fun (i : Nat) => ([(0, .vs (l.map encE) 4), (1, .str key), (2, .int .i64 n), (7, .int .i64 i)], [])) (fun i => i ≤ l.length ∧ l.findIdx? (isFirst key n) = ((l.drop i).findIdx? (isFirst key n)).map (· + i)) (fun i => l.length - i) 0 (by simp) (by rfl) (by decide) (by simp) (by simp) ?_
  rintro i ⟨hi, hgo⟩ ih
  by_cases hlt : i < l.length
  · obtain ⟨e, he, hei, hdrop, -⟩ := getL hlt
    have hw := wrap_small (n := (i : Int) + 1) (by omega) (by omega)
    rw [hdrop, List.findIdx?_cons] at hgo
    have hstep : isFirst key n e = false → l.findIdx? (isFirst key n) = ((l.drop (i + 1)).findIdx? (isFirst key n)).map (· + (i + 1)) := by
      intro hf
      rw [hgo, hf]
      simp only [Bool.false_eq_true, if_false, Option.map_map]
      congr 1; funext x; simp; omega
    by_cases hk : e.key = key
    · by_cases hs : e.seq ≤ n
      · (repeat (first | refine Run.seq ?_ | refine Run.reg ?_ | refine Run.skip ?_ | refine Run.block ?_ | refine Run.endB ?_ | refine Run.opE rfl ?_ | (apply Run.op0 rfl; (· (simp -implicitDefEqProofs [hlt, he, hei, encE, hk, hs]; exact ⟨rfl, rfl⟩))) | (apply Run.opA rfl; (· (simp -implicitDefEqProofs [hlt, he, hei, encE, hk, hs]; done)); (· (simp -implicitDefEqProofs [hlt, he, hei, encE, hk, hs]; exact ⟨rfl, rfl⟩))) | (apply Run.opN rfl; (· (simp -implicitDefEqProofs [hlt, he, hei, encE, hk, hs]; done))) | (refine Run.condT ?_ ?_; (· (simp -implicitDefEqProofs [hlt, he, hei, encE, hk, hs]; done))) | (refine Run.condF ?_ ?_; (· (simp -implicitDefEqProofs [hlt, he, hei, encE, hk, hs]; done))) | refine Run.exit rfl ?_))
        refine Run.retI Try.func35 r35_ok trivial (by simp -implicitDefEqProofs [r35]; rfl) (by simp ) ?_ (by simp -implicitDefEqProofs ) (by simp -implicitDefEqProofs )
        rw [firstI, hgo]; simp [isFirst, hk, hs, idxI]
      · (repeat (first | refine Run.seq ?_ | refine Run.reg ?_ | refine Run.skip ?_ | refine Run.block ?_ | refine Run.endB ?_ | refine Run.opE rfl ?_ | (apply Run.op0 rfl; (· (simp -implicitDefEqProofs [hlt, he, hei, encE, hk, hs]; exact ⟨rfl, rfl⟩))) | (apply Run.opA rfl; (· (simp -implicitDefEqProofs [hlt, he, hei, encE, hk, hs]; done)); (· (simp -implicitDefEqProofs [hlt, he, hei, encE, hk, hs]; exact ⟨rfl, rfl⟩))) | (apply Run.opN rfl; (· (simp -implicitDefEqProofs [hlt, he, hei, encE, hk, hs]; done))) | (refine Run.condT ?_ ?_; (· (simp -implicitDefEqProofs [hlt, he, hei, encE, hk, hs]; done))) | (refine Run.condF ?_ ?_; (· (simp -implicitDefEqProofs [hlt, he, hei, encE, hk, hs]; done))) | refine Run.exit rfl ?_))
        refine Run.mv [] _ _ (by rfl) (by decide) (by simp -implicitDefEqProofs [hw]) (by simp -implicitDefEqProofs [hw]) (ih (i + 1) ?_ ?_)
        · exact ⟨by omega, hstep (by simp [isFirst, hs])⟩
        · omega
    · (repeat (first | refine Run.seq ?_ | refine Run.reg ?_ | refine Run.skip ?_ | refine Run.block ?_ | refine Run.endB ?_ | refine Run.opE rfl ?_ | (apply Run.op0 rfl; (· (simp -implicitDefEqProofs [hlt, he, hei, encE, hk]; exact ⟨rfl, rfl⟩))) | (apply Run.opA rfl; (· (simp -implicitDefEqProofs [hlt, he, hei, encE, hk]; done)); (· (simp -implicitDefEqProofs [hlt, he, hei, encE, hk]; exact ⟨rfl, rfl⟩))) | (apply Run.opN rfl; (· (simp -implicitDefEqProofs [hlt, he, hei, encE, hk]; done))) | (refine Run.condT ?_ ?_; (· (simp -implicitDefEqProofs [hlt, he, hei, encE, hk]; done))) | (refine Run.condF ?_ ?_; (· (simp -implicitDefEqProofs [hlt, he, hei, encE, hk]; done))) | refine Run.exit rfl ?_))
      refine Run.mv [] _ _ (by rfl) (by decide) (by simp -implicitDefEqProofs [hw]) (by simp -implicitDefEqProofs [hw]) (ih (i + 1) ?_ ?_)
      · exact ⟨by omega, hstep (by simp [isFirst, hk])⟩
      · omega
  · have : i = l.length := by omega
    subst this
    (repeat (first | refine Run.seq ?_ | refine Run.reg ?_ | refine Run.skip ?_ | refine Run.block ?_ | refine Run.endB ?_ | refine Run.opE rfl ?_ | (apply Run.op0 rfl; (· (simp -implicitDefEqProofs; exact ⟨rfl, rfl⟩))) | (apply Run.opA rfl; (· (simp -implicitDefEqProofs; done)); (· (simp -implicitDefEqProofs; exact ⟨rfl, rfl⟩))) | (apply Run.opN rfl; (· (simp -implicitDefEqProofs; done))) | (refine Run.condT ?_ ?_; (· (simp -implicitDefEqProofs; done))) | (refine Run.condF ?_ ?_; (· (simp -implicitDefEqProofs; done))) | refine Run.exit rfl ?_))
    refine Run.retI Try.func35 r35_ok trivial (by simp -implicitDefEqProofs [r35]; rfl) (by simp ) ?_ (by simp -implicitDefEqProofs ) (by simp -implicitDefEqProofs )
    rw [firstI, hgo, List.drop_length]; simp [idxI]
theorem first_at (l : List En) (hll : l.length ≤ 1000000) (key : Bs) (n : Int) (H : List O) : Tri Try.prog 35 [.vs (l.map encE) 4, .str key, .int .i64 n] H (fun v H' => v = .int .i64 (firstI l key n) ∧ H' = H) := (first_tri l hll key n).at rfl rfl H

def visF (l : List En) (n : Int) (i : Nat) : Option (Bs × Bs) := match l[i]? with
  | some e => if firstI l e.key n = i ∧ e.gone = false then some (e.key, e.val) else none
  | none => none
/-- what Visible answers -/
def visR (l : List En) (n : Int) : List (Bs × Bs) := if checkE l = true then (List.range l.length).filterMap (visF l n) else []

theorem fmap_len {α} (f : Nat → Option α) (i : Nat) : ((List.range i).filterMap f).length ≤ i := by
  have := List.length_filterMap_le f (List.range i); simpa using this
theorem fmap_succ {α} (f : Nat → Option α) (i : Nat) : (List.range (i + 1)).filterMap f = (List.range i).filterMap f ++ (f i).toList := by
  rw [List.range_succ, List.filterMap_append]; cases h : f i <;> simp [h]
theorem checkE_len {l : List En} (h : checkE l = true) : l.length ≤ 4096 := by simp only [checkE, Bool.and_eq_true, decide_eq_true_eq] at h; exact h.1

theorem rvis_tri (l : List En) (n : Int) : Tri Try.prog 20 [.vs (l.map encE) 4, .int .i64 n] [] (fun v H => v = .vs ((visR l n).map encP) 2 ∧ H = []) := by
  refine Tri.of_run' Try.func20 rfl c20_ok (by simp [Try.ntmps20]) ?_
  (repeat (first | refine Run.seq ?_ | refine Run.reg ?_ | refine Run.skip ?_ | refine Run.block ?_ | refine Run.endB ?_ | refine Run.opE rfl ?_ | (apply Run.op0 rfl; (· (simp -implicitDefEqProofs; exact ⟨rfl, rfl⟩))) | (apply Run.opA rfl; (· (simp -implicitDefEqProofs; done)); (· (simp -implicitDefEqProofs; exact ⟨rfl, rfl⟩))) | (apply Run.opN rfl; (· (simp -implicitDefEqProofs; done))) | (refine Run.condT ?_ ?_; (· (simp -implicitDefEqProofs; done))) | (refine Run.condF ?_ ?_; (· (simp -implicitDefEqProofs; done))) | refine Run.exit rfl ?_))
  refine Run.opC rfl rfl rfl (rcheckE_at l _) ?_
  rintro v h' ⟨rfl, rfl⟩
  cases hc : checkE l with
  | false =>
    (repeat (first | refine Run.seq ?_ | refine Run.reg ?_ | refine Run.skip ?_ | refine Run.block ?_ | refine Run.endB ?_ | refine Run.opE rfl ?_ | (apply Run.op0 rfl; (· (simp -implicitDefEqProofs [hc, errE]; exact ⟨rfl, rfl⟩))) | (apply Run.opA rfl; (· (simp -implicitDefEqProofs [hc, errE]; done)); (· (simp -implicitDefEqProofs [hc, errE]; exact ⟨rfl, rfl⟩))) | (apply Run.opN rfl; (· (simp -implicitDefEqProofs [hc, errE]; done))) | (refine Run.condT ?_ ?_; (· (simp -implicitDefEqProofs [hc, errE]; done))) | (refine Run.condF ?_ ?_; (· (simp -implicitDefEqProofs [hc, errE]; done))) | refine Run.exit rfl ?_))
    refine Run.mv [] [(4, .vs [] 2)] [] (by rfl) (by decide) (by simp -implicitDefEqProofs [VLe.nils]) (by simp -implicitDefEqProofs [VLe.nils]) ?_
    refine Run.retI Try.func20 r20_ok trivial (by simp -implicitDefEqProofs [r20]; rfl) (by simp ) ?_ (by simp -implicitDefEqProofs ) (by simp -implicitDefEqProofs )
    simp [visR, hc]
  | true =>
  have hl := checkE_len hc
  (repeat (first | refine Run.seq ?_ | refine Run.reg ?_ | refine Run.skip ?_ | refine Run.block ?_ | refine Run.endB ?_ | refine Run.opE rfl ?_ | (apply Run.op0 rfl; (· (simp -implicitDefEqProofs [hc, errE]; exact ⟨rfl, rfl⟩))) | (apply Run.opA rfl; (· (simp -implicitDefEqProofs [hc, errE]; done)); (· (simp -implicitDefEqProofs [hc, errE]; exact ⟨rfl, rfl⟩))) | (apply Run.opN rfl; (· (simp -implicitDefEqProofs [hc, errE]; done))) | (refine Run.condT ?_ ?_; (· (simp -implicitDefEqProofs [hc, errE]; done))) | (refine Run.condF ?_ ?_; (· (simp -implicitDefEqProofs [hc, errE]; done))) | refine Run.exit rfl ?_))
  refine Run.nilA 5 2 (by simp) ?_
  refine Run.loopC [0] (fun (i : Nat) => ([(0, .vs (l.map encE) 4), (1, .int .i64 n), (5, .sl 0 0 ((List.range i).filterMap (visF l n)).length 2 none), (6, .int .i64 i)], [.arr (((List.range i).filterMap (visF l n)).map encP) 2])) (fun i => i ≤ l.length) (fun i => l.length - i) 0 (by simp) (by rfl) (by decide) (by simp) (by simp) ?_
  intro i hi ih
  generalize ho : (List.range i).filterMap (visF l n) = o
  have hol : o.length ≤ i := by rw [← ho]; exact fmap_len _ _
  by_cases hlt : i < l.length
  · obtain ⟨e, he, hei, -, -⟩ := getL hlt
    have hw := wrap_small (n := (i : Int) + 1) (by omega) (by omega)
    have hbb : (o.length + 1) * 32 ≤ 70368744177664 := by omega
    (repeat (first | refine Run.seq ?_ | refine Run.reg ?_ | refine Run.skip ?_ | refine Run.block ?_ | refine Run.endB ?_ | refine Run.opE rfl ?_ | (apply Run.op0 rfl; (· (simp -implicitDefEqProofs [hlt, he, hei, encE]; exact ⟨rfl, rfl⟩))) | (apply Run.opA rfl; (· (simp -implicitDefEqProofs [hlt, he, hei, encE]; done)); (· (simp -implicitDefEqProofs [hlt, he, hei, encE]; exact ⟨rfl, rfl⟩))) | (apply Run.opN rfl; (· (simp -implicitDefEqProofs [hlt, he, hei, encE]; done))) | (refine Run.condT ?_ ?_; (· (simp -implicitDefEqProofs [hlt, he, hei, encE]; done))) | (refine Run.condF ?_ ?_; (· (simp -implicitDefEqProofs [hlt, he, hei, encE]; done))) | refine Run.exit rfl ?_))
    refine Run.opC rfl rfl rfl (first_at l (by omega) e.key n _) ?_
    rintro v h' ⟨rfl, rfl⟩
    by_cases hf : firstI l e.key n = i
    · cases hg : e.gone with
      | false =>
        (repeat (first | refine Run.seq ?_ | refine Run.reg ?_ | refine Run.skip ?_ | refine Run.block ?_ | refine Run.endB ?_ | refine Run.opE rfl ?_ | (apply Run.op0 rfl; (· (simp -implicitDefEqProofs [hlt, he, hei, encE, hf, hg]; exact ⟨rfl, rfl⟩))) | (apply Run.opA rfl; (· (simp -implicitDefEqProofs [hlt, he, hei, encE, hf, hg]; done)); (· (simp -implicitDefEqProofs [hlt, he, hei, encE, hf, hg]; exact ⟨rfl, rfl⟩))) | (apply Run.opN rfl; (· (simp -implicitDefEqProofs [hlt, he, hei, encE, hf, hg]; done))) | (refine Run.condT ?_ ?_; (· (simp -implicitDefEqProofs [hlt, he, hei, encE, hf, hg]; done))) | (refine Run.condF ?_ ?_; (· (simp -implicitDefEqProofs [hlt, he, hei, encE, hf, hg]; done))) | refine Run.exit rfl ?_))
        refine Run.drawn prog_mixed ?_
        show RunD _ c20d0 [0, 1, 2, 3, 4, 5, 6, 7, 8, 9, 10, 11, 12, 13, 14] [] _ _ _
        refine RunD.flow [0, 1, 2, 3, 4, 5, 6, 7, 8, 9, 10, 11] (by kernel_rfl) (by decide +kernel) (by decide +kernel) (by decide) trivial ?_; (repeat (first | refine execQ_E rfl ?_ | (apply execQ_0 rfl; (· rfl); (· (simp -implicitDefEqProofs [hlt, he, hei, encE]; exact ⟨rfl, rfl⟩))) | (apply execQ_A rfl; (· (simp -implicitDefEqProofs [hlt, he, hei, encE]; done)); (· rfl); (· (simp -implicitDefEqProofs [hlt, he, hei, encE]; exact ⟨rfl, rfl⟩))) | (apply execQ_N rfl; (· (simp -implicitDefEqProofs [hlt, he, hei, encE]; done))))); intro hpo
        refine RunD.alt1 12 (by kernel_rfl) (by kernel_rfl) hpo ?_
        (first | (apply AStep.o0 rfl; (· (simp -implicitDefEqProofs; exact ⟨rfl, rfl⟩))) | (apply AStep.A rfl; (· (simp -implicitDefEqProofs; done)); (· (simp -implicitDefEqProofs; exact ⟨rfl, rfl⟩))) | (apply AStep.N rfl; (· (simp -implicitDefEqProofs; done))))
        refine RunD.alt1 13 (by kernel_rfl) (by kernel_rfl) (by
          show PendOk _ c20d0 _ _ [0]
          (repeat (first | exact PendOk.nil | (refine PendOk.op rfl rfl rfl ?_ ?_; (· (simp -implicitDefEqProofs; done))) | (refine PendOk.op rfl rfl ?_ ?_ ?_; (· (simp -implicitDefEqProofs; done)); (· (simp -implicitDefEqProofs; done))) | (refine PendOk.skip rfl rfl ?_ ?_; (· (simp -implicitDefEqProofs; done)))))) ?_
        (first | (apply AStep.o0 rfl; (· (simp -implicitDefEqProofs [hbb]; exact ⟨rfl, rfl⟩))) | (apply AStep.A rfl; (· (simp -implicitDefEqProofs [hbb]; done)); (· (simp -implicitDefEqProofs [hbb]; exact ⟨rfl, rfl⟩))) | (apply AStep.N rfl; (· (simp -implicitDefEqProofs [hbb]; done))))
        refine RunD.alt1 14 (by kernel_rfl) (by kernel_rfl) (show PendOk _ c20d0 _ _ [] from trivial) ?_
        (first | (apply AStep.o0 rfl; (· (simp -implicitDefEqProofs; exact ⟨rfl, rfl⟩))) | (apply AStep.A rfl; (· (simp -implicitDefEqProofs; done)); (· (simp -implicitDefEqProofs; exact ⟨rfl, rfl⟩))) | (apply AStep.N rfl; (· (simp -implicitDefEqProofs; done))))
        refine RunD.fin (by kernel_rfl) (show PendOk _ c20d0 _ _ [] from trivial) ?_
        (repeat (first | refine Run.seq ?_ | refine Run.reg ?_ | refine Run.skip ?_ | refine Run.block ?_ | refine Run.endB ?_ | refine Run.opE rfl ?_ | (apply Run.op0 rfl; (· (simp -implicitDefEqProofs; exact ⟨rfl, rfl⟩))) | (apply Run.opA rfl; (· (simp -implicitDefEqProofs; done)); (· (simp -implicitDefEqProofs; exact ⟨rfl, rfl⟩))) | (apply Run.opN rfl; (· (simp -implicitDefEqProofs; done))) | (refine Run.condT ?_ ?_; (· (simp -implicitDefEqProofs; done))) | (refine Run.condF ?_ ?_; (· (simp -implicitDefEqProofs; done))) | refine Run.exit rfl ?_))
        refine Run.mv [2] _ _ (by rfl) (by decide) (by simp -implicitDefEqProofs [hw, fmap_succ, visF, he, hf, hg, ho, encP]) (by simp -implicitDefEqProofs [hw, fmap_succ, visF, he, hf, hg, ho, encP]) (ih (i + 1) ?_ ?_)
        · omega
        · omega
      | true =>
        (repeat (first | refine Run.seq ?_ | refine Run.reg ?_ | refine Run.skip ?_ | refine Run.block ?_ | refine Run.endB ?_ | refine Run.opE rfl ?_ | (apply Run.op0 rfl; (· (simp -implicitDefEqProofs [hlt, he, hei, encE, hf, hg]; exact ⟨rfl, rfl⟩))) | (apply Run.opA rfl; (· (simp -implicitDefEqProofs [hlt, he, hei, encE, hf, hg]; done)); (· (simp -implicitDefEqProofs [hlt, he, hei, encE, hf, hg]; exact ⟨rfl, rfl⟩))) | (apply Run.opN rfl; (· (simp -implicitDefEqProofs [hlt, he, hei, encE, hf, hg]; done))) | (refine Run.condT ?_ ?_; (· (simp -implicitDefEqProofs [hlt, he, hei, encE, hf, hg]; done))) | (refine Run.condF ?_ ?_; (· (simp -implicitDefEqProofs [hlt, he, hei, encE, hf, hg]; done))) | refine Run.exit rfl ?_))
        refine Run.mv [0] _ _ (by rfl) (by decide) (by simp -implicitDefEqProofs [hw, fmap_succ, visF, he, hf, hg, ho]) (by simp -implicitDefEqProofs [hw, fmap_succ, visF, he, hf, hg, ho]) (ih (i + 1) ?_ ?_)
        · omega
        · omega
    · (repeat (first | refine Run.seq ?_ | refine Run.reg ?_ | refine Run.skip ?_ | refine Run.block ?_ | refine Run.endB ?_ | refine Run.opE rfl ?_ | (apply Run.op0 rfl; (· (simp -implicitDefEqProofs [hlt, he, hei, encE, hf]; exact ⟨rfl, rfl⟩))) | (apply Run.opA rfl; (· (simp -implicitDefEqProofs [hlt, he, hei, encE, hf]; done)); (· (simp -implicitDefEqProofs [hlt, he, hei, encE, hf]; exact ⟨rfl, rfl⟩))) | (apply Run.opN rfl; (· (simp -implicitDefEqProofs [hlt, he, hei, encE, hf]; done))) | (refine Run.condT ?_ ?_; (· (simp -implicitDefEqProofs [hlt, he, hei, encE, hf]; done))) | (refine Run.condF ?_ ?_; (· (simp -implicitDefEqProofs [hlt, he, hei, encE, hf]; done))) | refine Run.exit rfl ?_))
      refine Run.mv [0] _ _ (by rfl) (by decide) (by simp -implicitDefEqProofs [hw, fmap_succ, visF, he, hf, ho]) (by simp -implicitDefEqProofs [hw, fmap_succ, visF, he, hf, ho]) (ih (i + 1) ?_ ?_)
      · omega
      · omega
  · have : i = l.length := by omega
    subst this
    (repeat (first | refine Run.seq ?_ | refine Run.reg ?_ | refine Run.skip ?_ | refine Run.block ?_ | refine Run.endB ?_ | refine Run.opE rfl ?_ | (apply Run.op0 rfl; (· (simp -implicitDefEqProofs; exact ⟨rfl, rfl⟩))) | (apply Run.opA rfl; (· (simp -implicitDefEqProofs; done)); (· (simp -implicitDefEqProofs; exact ⟨rfl, rfl⟩))) | (apply Run.opN rfl; (· (simp -implicitDefEqProofs; done))) | (refine Run.condT ?_ ?_; (· (simp -implicitDefEqProofs; done))) | (refine Run.condF ?_ ?_; (· (simp -implicitDefEqProofs; done))) | refine Run.exit rfl ?_))
    refine Run.freeze 0 (es := o.map encP) (sz := 2) (by simp) ?_
    refine Run.mv [] [(4, .vs (o.map encP) 2)] [] (by rfl) (by decide) (by simp -implicitDefEqProofs) (by simp -implicitDefEqProofs) ?_
    refine Run.retI Try.func20 r20_ok trivial (by simp -implicitDefEqProofs [r20]; rfl) (by simp ) ?_ (by simp -implicitDefEqProofs ) (by simp -implicitDefEqProofs )
    simp [visR, hc, ho]
theorem rvis_at (l : List En) (n : Int) (H : List O) : Tri Try.prog 20 [.vs (l.map encE) 4, .int .i64 n] H (fun v H' => v = .vs ((visR l n).map encP) 2 ∧ H' = H) := (rvis_tri l n).at rfl rfl H

/-- does a key begin here? -/
def begK (l : List En) (i : Nat) (e : En) : Bool := match prevE l i with | none => true | some q => decide (q.key ≠ e.key)
def sinF (l : List En) (n : Int) (i : Nat) : Option En := match l[i]? with
  | some e => if begK l i e = true ∧ n < e.seq then some e else none
  | none => none
/-- what Since answers -/
def sinR (l : List En) (n : Int) : List En := if checkE l = true then (List.range l.length).filterMap (sinF l n) else []

theorem rsin_tri (l : List En) (n : Int) : Tri Try.prog 22 [.vs (l.map encE) 4, .int .i64 n] [] (fun v H => v = .vs ((sinR l n).map encE) 4 ∧ H = []) := by
  refine Tri.of_run' Try.func22 rfl c22_ok (by simp [Try.ntmps22]) ?_
  (repeat (first | refine Run.seq ?_ | refine Run.reg ?_ | refine Run.skip ?_ | refine Run.block ?_ | refine Run.endB ?_ | refine Run.opE rfl ?_ | (apply Run.op0 rfl; (· (simp -implicitDefEqProofs; exact ⟨rfl, rfl⟩))) | (apply Run.opA rfl; (· (simp -implicitDefEqProofs; done)); (· (simp -implicitDefEqProofs; exact ⟨rfl, rfl⟩))) | (apply Run.opN rfl; (· (simp -implicitDefEqProofs; done))) | (refine Run.condT ?_ ?_; (· (simp -implicitDefEqProofs; done))) | (refine Run.condF ?_ ?_; (· (simp -implicitDefEqProofs; done))) | refine Run.exit rfl ?_))
  refine Run.opC rfl rfl rfl (rcheckE_at l _) ?_
  rintro v h' ⟨rfl, rfl⟩
  cases hc : checkE l with
  | false =>
    (repeat (first | refine Run.seq ?_ | refine Run.reg ?_ | refine Run.skip ?_ | refine Run.block ?_ | refine Run.endB ?_ | refine Run.opE rfl ?_ | (apply Run.op0 rfl; (· (simp -implicitDefEqProofs [hc, errE]; exact ⟨rfl, rfl⟩))) | (apply Run.opA rfl; (· (simp -implicitDefEqProofs [hc, errE]; done)); (· (simp -implicitDefEqProofs [hc, errE]; exact ⟨rfl, rfl⟩))) | (apply Run.opN rfl; (· (simp -implicitDefEqProofs [hc, errE]; done))) | (refine Run.condT ?_ ?_; (· (simp -implicitDefEqProofs [hc, errE]; done))) | (refine Run.condF ?_ ?_; (· (simp -implicitDefEqProofs [hc, errE]; done))) | refine Run.exit rfl ?_))
    refine Run.mv [] [(4, .vs [] 4)] [] (by rfl) (by decide) (by simp -implicitDefEqProofs [VLe.nils]) (by simp -implicitDefEqProofs [VLe.nils]) ?_
    refine Run.retI Try.func22 r22_ok trivial (by simp -implicitDefEqProofs [r22]; rfl) (by simp ) ?_ (by simp -implicitDefEqProofs ) (by simp -implicitDefEqProofs )
    simp [sinR, hc]
  | true =>
  have hl := checkE_len hc
  (repeat (first | refine Run.seq ?_ | refine Run.reg ?_ | refine Run.skip ?_ | refine Run.block ?_ | refine Run.endB ?_ | refine Run.opE rfl ?_ | (apply Run.op0 rfl; (· (simp -implicitDefEqProofs [hc, errE]; exact ⟨rfl, rfl⟩))) | (apply Run.opA rfl; (· (simp -implicitDefEqProofs [hc, errE]; done)); (· (simp -implicitDefEqProofs [hc, errE]; exact ⟨rfl, rfl⟩))) | (apply Run.opN rfl; (· (simp -implicitDefEqProofs [hc, errE]; done))) | (refine Run.condT ?_ ?_; (· (simp -implicitDefEqProofs [hc, errE]; done))) | (refine Run.condF ?_ ?_; (· (simp -implicitDefEqProofs [hc, errE]; done))) | refine Run.exit rfl ?_))
  refine Run.nilA 5 4 (by simp) ?_
  refine Run.loopC [0] (fun (i : Nat) => ([(0, .vs (l.map encE) 4), (1, .int .i64 n), (5, .sl 0 0 ((List.range i).filterMap (sinF l n)).length 4 none), (6, .int .i64 i)], [.arr (((List.range i).filterMap (sinF l n)).map encE) 4])) (fun i => i ≤ l.length) (fun i => l.length - i) 0 (by simp) (by rfl) (by decide) (by simp) (by simp) ?_
  intro i hi ih
  generalize ho : (List.range i).filterMap (sinF l n) = o
  have hol : o.length ≤ i := by rw [← ho]; exact fmap_len _ _
  by_cases hlt : i < l.length
  · obtain ⟨e, he, hei, -, -⟩ := getL hlt
    have hw := wrap_small (n := (i : Int) + 1) (by omega) (by omega)
    have hbb : (o.length + 1) * 48 ≤ 70368744177664 := by omega
    (repeat (first | refine Run.seq ?_ | refine Run.reg ?_ | refine Run.skip ?_ | refine Run.block ?_ | refine Run.endB ?_ | refine Run.opE rfl ?_ | (apply Run.op0 rfl; (· (simp -implicitDefEqProofs [hlt]; exact ⟨rfl, rfl⟩))) | (apply Run.opA rfl; (· (simp -implicitDefEqProofs [hlt]; done)); (· (simp -implicitDefEqProofs [hlt]; exact ⟨rfl, rfl⟩))) | (apply Run.opN rfl; (· (simp -implicitDefEqProofs [hlt]; done))) | (refine Run.condT ?_ ?_; (· (simp -implicitDefEqProofs [hlt]; done))) | (refine Run.condF ?_ ?_; (· (simp -implicitDefEqProofs [hlt]; done))) | refine Run.exit rfl ?_))
    refine Run.quietM prog_mixed (by kernel_rfl) [0] [(0, .vs (l.map encE) 4), (1, .int .i64 n), (5, .sl 0 0 o.length 4 none), (6, .int .i64 i), (40, .bool (begK l i e && decide (n < e.seq)))] [.arr (o.map encE) 4] (by rfl) (by decide) ?_ ?_
    · by_cases hi0 : i = 0
      · subst hi0
        (repeat (first | refine execQ_E rfl ?_ | (apply execQ_0 rfl; (· rfl); (· (simp -implicitDefEqProofs [hlt, he, hei, encE]; exact ⟨rfl, rfl⟩))) | (apply execQ_A rfl; (· (simp -implicitDefEqProofs [hlt, he, hei, encE]; done)); (· rfl); (· (simp -implicitDefEqProofs [hlt, he, hei, encE]; exact ⟨rfl, rfl⟩))) | (apply execQ_N rfl; (· (simp -implicitDefEqProofs [hlt, he, hei, encE]; done)))))
        simp [begK, prevE]
      · obtain ⟨q, hq, hqi, -, -⟩ := getL (l := l) (i := i - 1) (by omega)
        have hw1 : IntKind.i64.wrap ((i : Int) - 1) = ((i - 1 : Nat) : Int) := by rw [wrap_small (by omega) (by omega)]; omega
        have hlt1 : i - 1 < l.length := by omega
        have hi0' : ¬ (i : Int) = 0 := by omega
        by_cases hk : q.key = e.key
        · (repeat (first | refine execQ_E rfl ?_ | (apply execQ_0 rfl; (· rfl); (· (simp -implicitDefEqProofs [hi0, hi0', hw1, hlt1, hq, hqi, hlt, he, hei, encE, hk]; exact ⟨rfl, rfl⟩))) | (apply execQ_A rfl; (· (simp -implicitDefEqProofs [hi0, hi0', hw1, hlt1, hq, hqi, hlt, he, hei, encE, hk]; done)); (· rfl); (· (simp -implicitDefEqProofs [hi0, hi0', hw1, hlt1, hq, hqi, hlt, he, hei, encE, hk]; exact ⟨rfl, rfl⟩))) | (apply execQ_N rfl; (· (simp -implicitDefEqProofs [hi0, hi0', hw1, hlt1, hq, hqi, hlt, he, hei, encE, hk]; done)))))
          simp [begK, prevE, hi0, hq, hk]
        · (repeat (first | refine execQ_E rfl ?_ | (apply execQ_0 rfl; (· rfl); (· (simp -implicitDefEqProofs [hi0, hi0', hw1, hlt1, hq, hqi, hlt, he, hei, encE, hk]; exact ⟨rfl, rfl⟩))) | (apply execQ_A rfl; (· (simp -implicitDefEqProofs [hi0, hi0', hw1, hlt1, hq, hqi, hlt, he, hei, encE, hk]; done)); (· rfl); (· (simp -implicitDefEqProofs [hi0, hi0', hw1, hlt1, hq, hqi, hlt, he, hei, encE, hk]; exact ⟨rfl, rfl⟩))) | (apply execQ_N rfl; (· (simp -implicitDefEqProofs [hi0, hi0', hw1, hlt1, hq, hqi, hlt, he, hei, encE, hk]; done)))))
          simp [begK, prevE, hi0, hq, hk]
    cases hb : (begK l i e && decide (n < e.seq)) with
    | true =>
      have hf : sinF l n i = some e := by simp only [sinF, he]; rw [if_pos (by simpa using hb)]
      (repeat (first | refine Run.seq ?_ | refine Run.reg ?_ | refine Run.skip ?_ | refine Run.block ?_ | refine Run.endB ?_ | refine Run.opE rfl ?_ | (apply Run.op0 rfl; (· (simp -implicitDefEqProofs [hlt, he, hei, encE, hbb]; exact ⟨rfl, rfl⟩))) | (apply Run.opA rfl; (· (simp -implicitDefEqProofs [hlt, he, hei, encE, hbb]; done)); (· (simp -implicitDefEqProofs [hlt, he, hei, encE, hbb]; exact ⟨rfl, rfl⟩))) | (apply Run.opN rfl; (· (simp -implicitDefEqProofs [hlt, he, hei, encE, hbb]; done))) | (refine Run.condT ?_ ?_; (· (simp -implicitDefEqProofs [hlt, he, hei, encE, hbb]; done))) | (refine Run.condF ?_ ?_; (· (simp -implicitDefEqProofs [hlt, he, hei, encE, hbb]; done))) | refine Run.exit rfl ?_))
      refine Run.mv [2] _ _ (by rfl) (by decide) (by simp -implicitDefEqProofs [hw, fmap_succ, hf, ho, encE]) (by simp -implicitDefEqProofs [hw, fmap_succ, hf, ho, encE]) (ih (i + 1) ?_ ?_)
      · omega
      · omega
    | false =>
      have hf : sinF l n i = none := by simp only [sinF, he]; rw [if_neg (by simpa using hb)]
      (repeat (first | refine Run.seq ?_ | refine Run.reg ?_ | refine Run.skip ?_ | refine Run.block ?_ | refine Run.endB ?_ | refine Run.opE rfl ?_ | (apply Run.op0 rfl; (· (simp -implicitDefEqProofs; exact ⟨rfl, rfl⟩))) | (apply Run.opA rfl; (· (simp -implicitDefEqProofs; done)); (· (simp -implicitDefEqProofs; exact ⟨rfl, rfl⟩))) | (apply Run.opN rfl; (· (simp -implicitDefEqProofs; done))) | (refine Run.condT ?_ ?_; (· (simp -implicitDefEqProofs; done))) | (refine Run.condF ?_ ?_; (· (simp -implicitDefEqProofs; done))) | refine Run.exit rfl ?_))
      refine Run.mv [0] _ _ (by rfl) (by decide) (by simp -implicitDefEqProofs [hw, fmap_succ, hf, ho]) (by simp -implicitDefEqProofs [hw, fmap_succ, hf, ho]) (ih (i + 1) ?_ ?_)
      · omega
      · omega
  · have : i = l.length := by omega
    subst this
    (repeat (first | refine Run.seq ?_ | refine Run.reg ?_ | refine Run.skip ?_ | refine Run.block ?_ | refine Run.endB ?_ | refine Run.opE rfl ?_ | (apply Run.op0 rfl; (· (simp -implicitDefEqProofs; exact ⟨rfl, rfl⟩))) | (apply Run.opA rfl; (· (simp -implicitDefEqProofs; done)); (· (simp -implicitDefEqProofs; exact ⟨rfl, rfl⟩))) | (apply Run.opN rfl; (· (simp -implicitDefEqProofs; done))) | (refine Run.condT ?_ ?_; (· (simp -implicitDefEqProofs; done))) | (refine Run.condF ?_ ?_; (· (simp -implicitDefEqProofs; done))) | refine Run.exit rfl ?_))
    refine Run.freeze 0 (es := o.map encE) (sz := 4) (by simp) ?_
    refine Run.mv [] [(4, .vs (o.map encE) 4)] [] (by rfl) (by decide) (by simp -implicitDefEqProofs) (by simp -implicitDefEqProofs) ?_
    refine Run.retI Try.func22 r22_ok trivial (by simp -implicitDefEqProofs [r22]; rfl) (by simp ) ?_ (by simp -implicitDefEqProofs ) (by simp -implicitDefEqProofs )
    simp [sinR, hc, ho]
theorem rsin_at (l : List En) (n : Int) (H : List O) : Tri Try.prog 22 [.vs (l.map encE) 4, .int .i64 n] H (fun v H' => v = .vs ((sinR l n).map encE) 4 ∧ H' = H) := (rsin_tri l n).at rfl rfl H

end Go.Proofs.Ytphpkigfmmanhaa
