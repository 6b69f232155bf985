/-
  Layer 11, part H: what is told of a key's entries: Visible's, Since's.
-/
import Derived.Test.YtphpkigfmmanhaaMrgG
namespace Go.Proofs.Ytphpkigfmmanhaa
open Sx Go
set_option maxRecDepth 100000
set_option linter.unusedSimpArgs false
set_option linter.unusedVariables false
set_option linter.unnecessarySimpa false
attribute [local simp] guardB isCall opStep Opd.ev put readAt aBin aUn args0 V.celled V.ones V.one V.cells putAt bounds bound1 elemsOf srcOf appendV fillAt fillEl V.pures V.pure unwind evs ARes.ev mkRes V.ren V.renL O.ren eqCells eq1 aEq aMM hasTy hasTyN okTy mmGo Known HLe OLe VsLe.refl VLe.refl Stay VsLe V.frz V.frzL O.frz fr clearV rn KnownR Objs OLeO ObjsE nm back setAll ren_ite take_map_len List.take_of_length_le
attribute [local simp ↓] upd_app tl_cons tl_nil
attribute [local simp] encE_ren encE_ones encE_len encE_take

theorem findIdx_find {α} (p : α → Bool) : ∀ (l : List α), (∀ i, l.findIdx? p = some i → ∃ (h : i < l.length), l.find? p = some l[i]) ∧ (l.findIdx? p = none → l.find? p = none)
  | [] => ⟨fun i h => by simp at h, fun _ => rfl⟩
  | x :: l => by
    have ih := findIdx_find p l
    by_cases hp : p x = true
    · refine ⟨fun i h => ?_, fun h => ?_⟩
      · simp only [List.findIdx?_cons, hp, if_true, Option.some.injEq] at h
        subst h
        exact ⟨by simp, by simp [hp]⟩
      · simp [List.findIdx?_cons, hp] at h
    · have hp' : p x = false := by simpa using hp
      refine ⟨fun i h => ?_, fun h => ?_⟩
      · simp only [List.findIdx?_cons, hp', Bool.false_eq_true, if_false, Option.map_eq_some_iff] at h
        obtain ⟨j, hj, rfl⟩ := h
        obtain ⟨h1, h2⟩ := ih.1 j hj
        exact ⟨by simpa using h1, by simp [List.find?_cons, hp', h2]⟩
      · simp only [List.findIdx?_cons, hp', Bool.false_eq_true, if_false, Option.map_eq_none_iff] at h
        simp [List.find?_cons, hp', ih.2 h]

def visG (g : List En) (n : Int) : List (Bs × Bs) := match g.find? (fun e => decide (e.seq ≤ n)) with
  | some e => if e.gone = true then [] else [(e.key, e.val)]
  | none => []
/-- the cells of Visible's closure, and what has been put out -/
def visH (n : Int) (o : List (Bs × Bs)) : List O := [.row [.int .i64 n], .row [.sl 2 0 o.length 2 none], .arr (o.map encP) 2]
def visH' (n : Int) (o : List (Bs × Bs)) : List O := [.row [.int .i64 n], .row [.sl 3 0 o.length 2 none], .gone, .arr (o.map encP) 2]

theorem vis1_tri (g : List En) (hg : g.length ≤ 1000000) (n : Int) (o : List (Bs × Bs)) (ho : o.length ≤ 1000000) : Tri Try.prog 33 [.vs (g.map encE) 4, .ptr 0 0, .ptr 1 0] (visH n o) (fun v H => v = .tup [] ∧ ((visG g n = [] ∧ H = visH n o) ∨ (∃ p, visG g n = [p] ∧ H = visH' n (o ++ [p])))) := by
  have hbb : (o.length + 1) * 32 ≤ 70368744177664 := by omega
  unfold visH
  refine Tri.of_run' Try.func33 rfl c33_ok (by simp [Try.ntmps33]) ?_
  (repeat (first | refine Run.seq ?_ | refine Run.reg ?_ | refine Run.skip ?_ | refine Run.block ?_ | refine Run.endB ?_ | refine Run.opE rfl ?_ | (apply Run.op0 rfl; (· (simp -implicitDefEqProofs; exact ⟨rfl, rfl⟩))) | (apply Run.opA rfl; (· (simp -implicitDefEqProofs; done)); (· (simp -implicitDefEqProofs; exact ⟨rfl, rfl⟩))) | (apply Run.opN rfl; (· (simp -implicitDefEqProofs; done))) | (refine Run.condT ?_ ?_; (· (simp -implicitDefEqProofs; done))) | (refine Run.condF ?_ ?_; (· (simp -implicitDefEqProofs; done))) | refine Run.exit rfl ?_))
  refine Run.opC rfl rfl rfl (asOf_at g hg n _) ?_
  rintro v h' ⟨rfl, rfl⟩
  obtain ⟨f1, f2⟩ := findIdx_find (fun e : En => decide (e.seq ≤ n)) g
  cases hf : g.findIdx? (fun e => decide (e.seq ≤ n)) with
  | none =>
    have hv : visG g n = [] := by rw [visG, f2 hf]
    have ha : asOfM g n = -1 := by simp [asOfM, hf, idxI]
    (repeat (first | refine Run.seq ?_ | refine Run.reg ?_ | refine Run.skip ?_ | refine Run.block ?_ | refine Run.endB ?_ | refine Run.opE rfl ?_ | (apply Run.op0 rfl; (· (simp -implicitDefEqProofs [ha]; exact ⟨rfl, rfl⟩))) | (apply Run.opA rfl; (· (simp -implicitDefEqProofs [ha]; done)); (· (simp -implicitDefEqProofs [ha]; exact ⟨rfl, rfl⟩))) | (apply Run.opN rfl; (· (simp -implicitDefEqProofs [ha]; done))) | (refine Run.condT ?_ ?_; (· (simp -implicitDefEqProofs [ha]; done))) | (refine Run.condF ?_ ?_; (· (simp -implicitDefEqProofs [ha]; done))) | refine Run.exit rfl ?_))
    refine Run.mv [0, 1, 2] [] [.row [.int .i64 n], .row [.sl 2 0 o.length 2 none], .arr (o.map encP) 2] (by rfl) (by decide) (by simp -implicitDefEqProofs) (by simp -implicitDefEqProofs) ?_
    refine Run.retI Try.func33 r33_ok trivial (by simp -implicitDefEqProofs [r33]; rfl) (by simp ) ?_ (by simp -implicitDefEqProofs ) (by simp -implicitDefEqProofs )
    simp [hv]
  | some i =>
    obtain ⟨hlt, hfi⟩ := f1 i hf
    obtain ⟨e, he, hei, -, -⟩ := getL hlt
    rw [hei] at hfi
    have ha : asOfM g n = i := by simp [asOfM, hf, idxI]
    have h0 : (0 : Int) ≤ i := by omega
    cases hgo : e.gone with
    | true =>
      have hv : visG g n = [] := by rw [visG, hfi]; simp [hgo]
      (repeat (first | refine Run.seq ?_ | refine Run.reg ?_ | refine Run.skip ?_ | refine Run.block ?_ | refine Run.endB ?_ | refine Run.opE rfl ?_ | (apply Run.op0 rfl; (· (simp -implicitDefEqProofs [ha, h0, hlt, he, hei, encE, hgo]; exact ⟨rfl, rfl⟩))) | (apply Run.opA rfl; (· (simp -implicitDefEqProofs [ha, h0, hlt, he, hei, encE, hgo]; done)); (· (simp -implicitDefEqProofs [ha, h0, hlt, he, hei, encE, hgo]; exact ⟨rfl, rfl⟩))) | (apply Run.opN rfl; (· (simp -implicitDefEqProofs [ha, h0, hlt, he, hei, encE, hgo]; done))) | (refine Run.condT ?_ ?_; (· (simp -implicitDefEqProofs [ha, h0, hlt, he, hei, encE, hgo]; done))) | (refine Run.condF ?_ ?_; (· (simp -implicitDefEqProofs [ha, h0, hlt, he, hei, encE, hgo]; done))) | refine Run.exit rfl ?_))
      refine Run.mv [0, 1, 2] [] [.row [.int .i64 n], .row [.sl 2 0 o.length 2 none], .arr (o.map encP) 2] (by rfl) (by decide) (by simp -implicitDefEqProofs) (by simp -implicitDefEqProofs) ?_
      refine Run.retI Try.func33 r33_ok trivial (by simp -implicitDefEqProofs [r33]; rfl) (by simp ) ?_ (by simp -implicitDefEqProofs ) (by simp -implicitDefEqProofs )
      simp [hv]
    | false =>
      have hv : visG g n = [(e.key, e.val)] := by rw [visG, hfi]; simp [hgo]
      (repeat (first | refine Run.seq ?_ | refine Run.reg ?_ | refine Run.skip ?_ | refine Run.block ?_ | refine Run.endB ?_ | refine Run.opE rfl ?_ | (apply Run.op0 rfl; (· (simp -implicitDefEqProofs [ha, h0, hlt, he, hei, encE, hgo]; exact ⟨rfl, rfl⟩))) | (apply Run.opA rfl; (· (simp -implicitDefEqProofs [ha, h0, hlt, he, hei, encE, hgo]; done)); (· (simp -implicitDefEqProofs [ha, h0, hlt, he, hei, encE, hgo]; exact ⟨rfl, rfl⟩))) | (apply Run.opN rfl; (· (simp -implicitDefEqProofs [ha, h0, hlt, he, hei, encE, hgo]; done))) | (refine Run.condT ?_ ?_; (· (simp -implicitDefEqProofs [ha, h0, hlt, he, hei, encE, hgo]; done))) | (refine Run.condF ?_ ?_; (· (simp -implicitDefEqProofs [ha, h0, hlt, he, hei, encE, hgo]; done))) | refine Run.exit rfl ?_))
      refine Run.drawn prog_mixed ?_
      show RunD _ c33d0 [0, 1, 2, 3, 4, 5, 6, 7, 8, 9, 10, 11, 12, 13, 14] [] _ _ _
      refine RunD.flow [0, 1, 2, 3, 4, 5, 6, 7, 8, 9, 10, 11] (by kernel_rfl) (by decide +kernel) (by decide +kernel) (by decide) trivial ?_; (repeat (first | refine execQ_E rfl ?_ | (apply execQ_0 rfl; (· rfl); (· (simp -implicitDefEqProofs [hlt, he, hei, encE]; exact ⟨rfl, rfl⟩))) | (apply execQ_A rfl; (· (simp -implicitDefEqProofs [hlt, he, hei, encE]; done)); (· rfl); (· (simp -implicitDefEqProofs [hlt, he, hei, encE]; exact ⟨rfl, rfl⟩))) | (apply execQ_N rfl; (· (simp -implicitDefEqProofs [hlt, he, hei, encE]; done))))); intro hpo
      refine RunD.alt1 12 (by kernel_rfl) (by kernel_rfl) hpo ?_
      (first | (apply AStep.o0 rfl; (· (simp -implicitDefEqProofs; exact ⟨rfl, rfl⟩))) | (apply AStep.A rfl; (· (simp -implicitDefEqProofs; done)); (· (simp -implicitDefEqProofs; exact ⟨rfl, rfl⟩))) | (apply AStep.N rfl; (· (simp -implicitDefEqProofs; done))))
      refine RunD.alt1 13 (by kernel_rfl) (by kernel_rfl) (by
        show PendOk _ c33d0 _ _ [0]
        (repeat (first | exact PendOk.nil | (refine PendOk.op rfl rfl rfl ?_ ?_; (· (simp -implicitDefEqProofs; done))) | (refine PendOk.op rfl rfl ?_ ?_ ?_; (· (simp -implicitDefEqProofs; done)); (· (simp -implicitDefEqProofs; done))) | (refine PendOk.skip rfl rfl ?_ ?_; (· (simp -implicitDefEqProofs; done)))))) ?_
      (first | (apply AStep.o0 rfl; (· (simp -implicitDefEqProofs [hbb]; exact ⟨rfl, rfl⟩))) | (apply AStep.A rfl; (· (simp -implicitDefEqProofs [hbb]; done)); (· (simp -implicitDefEqProofs [hbb]; exact ⟨rfl, rfl⟩))) | (apply AStep.N rfl; (· (simp -implicitDefEqProofs [hbb]; done))))
      refine RunD.alt1 14 (by kernel_rfl) (by kernel_rfl) (show PendOk _ c33d0 _ _ [] from trivial) ?_
      (first | (apply AStep.o0 rfl; (· (simp -implicitDefEqProofs; exact ⟨rfl, rfl⟩))) | (apply AStep.A rfl; (· (simp -implicitDefEqProofs; done)); (· (simp -implicitDefEqProofs; exact ⟨rfl, rfl⟩))) | (apply AStep.N rfl; (· (simp -implicitDefEqProofs; done))))
      refine RunD.fin (by kernel_rfl) (show PendOk _ c33d0 _ _ [] from trivial) ?_
      (repeat (first | refine Run.seq ?_ | refine Run.reg ?_ | refine Run.skip ?_ | refine Run.block ?_ | refine Run.endB ?_ | refine Run.opE rfl ?_ | (apply Run.op0 rfl; (· (simp -implicitDefEqProofs; exact ⟨rfl, rfl⟩))) | (apply Run.opA rfl; (· (simp -implicitDefEqProofs; done)); (· (simp -implicitDefEqProofs; exact ⟨rfl, rfl⟩))) | (apply Run.opN rfl; (· (simp -implicitDefEqProofs; done))) | (refine Run.condT ?_ ?_; (· (simp -implicitDefEqProofs; done))) | (refine Run.condF ?_ ?_; (· (simp -implicitDefEqProofs; done))) | refine Run.exit rfl ?_))
      refine Run.mv [0, 1, 2, 4] [] [.row [.int .i64 n], .row [.sl 3 0 (o.length + 1) 2 none], .gone, .arr ((o ++ [(e.key, e.val)]).map encP) 2] (by rfl) (by decide) (by simp -implicitDefEqProofs [encP]) (by simp -implicitDefEqProofs [encP]) ?_
      refine Run.retI Try.func33 r33_ok trivial (by simp -implicitDefEqProofs [r33]; rfl) (by simp ) ?_ (by simp -implicitDefEqProofs ) (by simp -implicitDefEqProofs )
      simp [hv, visH']

def sinG (x : En) (n : Int) : List En := if n < x.seq then [x] else []
def sinH (n : Int) (o : List En) : List O := [.row [.int .i64 n], .row [.sl 2 0 o.length 4 none], .arr (o.map encE) 4]
def sinH' (n : Int) (o : List En) : List O := [.row [.int .i64 n], .row [.sl 3 0 o.length 4 none], .gone, .arr (o.map encE) 4]

theorem sin1_tri (x : En) (g : List En) (n : Int) (o : List En) (ho : o.length ≤ 1000000) : Tri Try.prog 36 [.vs ((x :: g).map encE) 4, .ptr 0 0, .ptr 1 0] (sinH n o) (fun v H => v = .tup [] ∧ ((sinG x n = [] ∧ H = sinH n o) ∨ (∃ p, sinG x n = [p] ∧ H = sinH' n (o ++ [p])))) := by
  have hbb : (o.length + 1) * 48 ≤ 70368744177664 := by omega
  unfold sinH
  refine Tri.of_run' Try.func36 rfl c36_ok (by simp [Try.ntmps36]) ?_
  (repeat (first | refine Run.seq ?_ | refine Run.reg ?_ | refine Run.skip ?_ | refine Run.block ?_ | refine Run.endB ?_ | refine Run.opE rfl ?_ | (apply Run.op0 rfl; (· (simp -implicitDefEqProofs; exact ⟨rfl, rfl⟩))) | (apply Run.opA rfl; (· (simp -implicitDefEqProofs; done)); (· (simp -implicitDefEqProofs; exact ⟨rfl, rfl⟩))) | (apply Run.opN rfl; (· (simp -implicitDefEqProofs; done))) | (refine Run.condT ?_ ?_; (· (simp -implicitDefEqProofs; done))) | (refine Run.condF ?_ ?_; (· (simp -implicitDefEqProofs; done))) | refine Run.exit rfl ?_))
  refine Run.quietM prog_mixed (by kernel_rfl) [0, 1, 2] [(0, .vs ((x :: g).map encE) 4), (1, .ptr 0 0), (2, .ptr 1 0), (9, .bool (decide (n < x.seq)))] [.row [.int .i64 n], .row [.sl 2 0 o.length 4 none], .arr (o.map encE) 4] (by rfl) (by decide) ?_ ?_
  · (repeat (first | refine execQ_E rfl ?_ | (apply execQ_0 rfl; (· rfl); (· (simp -implicitDefEqProofs [encE]; exact ⟨rfl, rfl⟩))) | (apply execQ_A rfl; (· (simp -implicitDefEqProofs [encE]; done)); (· rfl); (· (simp -implicitDefEqProofs [encE]; exact ⟨rfl, rfl⟩))) | (apply execQ_N rfl; (· (simp -implicitDefEqProofs [encE]; done)))))
    simp [encE]
  by_cases hs : n < x.seq
  · have hv : sinG x n = [x] := by simp [sinG, hs]
    (repeat (first | refine Run.seq ?_ | refine Run.reg ?_ | refine Run.skip ?_ | refine Run.block ?_ | refine Run.endB ?_ | refine Run.opE rfl ?_ | (apply Run.op0 rfl; (· (simp -implicitDefEqProofs [hs]; exact ⟨rfl, rfl⟩))) | (apply Run.opA rfl; (· (simp -implicitDefEqProofs [hs]; done)); (· (simp -implicitDefEqProofs [hs]; exact ⟨rfl, rfl⟩))) | (apply Run.opN rfl; (· (simp -implicitDefEqProofs [hs]; done))) | (refine Run.condT ?_ ?_; (· (simp -implicitDefEqProofs [hs]; done))) | (refine Run.condF ?_ ?_; (· (simp -implicitDefEqProofs [hs]; done))) | refine Run.exit rfl ?_))
    refine Run.drawn prog_mixed ?_
    show RunD _ c36d1 [0, 1, 2, 3, 4, 5, 6] [] _ _ _
    refine RunD.flow [0, 1, 2, 3] (by kernel_rfl) (by decide +kernel) (by decide +kernel) (by decide) trivial ?_; (repeat (first | refine execQ_E rfl ?_ | (apply execQ_0 rfl; (· rfl); (· (simp -implicitDefEqProofs [encE]; exact ⟨rfl, rfl⟩))) | (apply execQ_A rfl; (· (simp -implicitDefEqProofs [encE]; done)); (· rfl); (· (simp -implicitDefEqProofs [encE]; exact ⟨rfl, rfl⟩))) | (apply execQ_N rfl; (· (simp -implicitDefEqProofs [encE]; done))))); intro hpo
    refine RunD.alt1 4 (by kernel_rfl) (by kernel_rfl) hpo ?_
    (first | (apply AStep.o0 rfl; (· (simp -implicitDefEqProofs [encE]; exact ⟨rfl, rfl⟩))) | (apply AStep.A rfl; (· (simp -implicitDefEqProofs [encE]; done)); (· (simp -implicitDefEqProofs [encE]; exact ⟨rfl, rfl⟩))) | (apply AStep.N rfl; (· (simp -implicitDefEqProofs [encE]; done))))
    refine RunD.alt1 5 (by kernel_rfl) (by kernel_rfl) (by
      show PendOk _ c36d1 _ _ [0]
      (repeat (first | exact PendOk.nil | (refine PendOk.op rfl rfl rfl ?_ ?_; (· (simp -implicitDefEqProofs; done))) | (refine PendOk.op rfl rfl ?_ ?_ ?_; (· (simp -implicitDefEqProofs; done)); (· (simp -implicitDefEqProofs; done))) | (refine PendOk.skip rfl rfl ?_ ?_; (· (simp -implicitDefEqProofs; done)))))) ?_
    (first | (apply AStep.o0 rfl; (· (simp -implicitDefEqProofs [hbb]; exact ⟨rfl, rfl⟩))) | (apply AStep.A rfl; (· (simp -implicitDefEqProofs [hbb]; done)); (· (simp -implicitDefEqProofs [hbb]; exact ⟨rfl, rfl⟩))) | (apply AStep.N rfl; (· (simp -implicitDefEqProofs [hbb]; done))))
    refine RunD.alt1 6 (by kernel_rfl) (by kernel_rfl) (show PendOk _ c36d1 _ _ [] from trivial) ?_
    (first | (apply AStep.o0 rfl; (· (simp -implicitDefEqProofs; exact ⟨rfl, rfl⟩))) | (apply AStep.A rfl; (· (simp -implicitDefEqProofs; done)); (· (simp -implicitDefEqProofs; exact ⟨rfl, rfl⟩))) | (apply AStep.N rfl; (· (simp -implicitDefEqProofs; done))))
    refine RunD.fin (by kernel_rfl) (show PendOk _ c36d1 _ _ [] from trivial) ?_
    refine Run.mv [0, 1, 2, 4] [] [.row [.int .i64 n], .row [.sl 3 0 (o.length + 1) 4 none], .gone, .arr ((o ++ [x]).map encE) 4] (by rfl) (by decide) (by simp -implicitDefEqProofs [encE]) (by simp -implicitDefEqProofs [encE]) ?_
    refine Run.retI Try.func36 r36_ok trivial (by simp -implicitDefEqProofs [r36]; rfl) (by simp ) ?_ (by simp -implicitDefEqProofs ) (by simp -implicitDefEqProofs )
    simp [hv, sinH']
  · have hv : sinG x n = [] := by simp [sinG, hs]
    (repeat (first | refine Run.seq ?_ | refine Run.reg ?_ | refine Run.skip ?_ | refine Run.block ?_ | refine Run.endB ?_ | refine Run.opE rfl ?_ | (apply Run.op0 rfl; (· (simp -implicitDefEqProofs [hs]; exact ⟨rfl, rfl⟩))) | (apply Run.opA rfl; (· (simp -implicitDefEqProofs [hs]; done)); (· (simp -implicitDefEqProofs [hs]; exact ⟨rfl, rfl⟩))) | (apply Run.opN rfl; (· (simp -implicitDefEqProofs [hs]; done))) | (refine Run.condT ?_ ?_; (· (simp -implicitDefEqProofs [hs]; done))) | (refine Run.condF ?_ ?_; (· (simp -implicitDefEqProofs [hs]; done))) | refine Run.exit rfl ?_))
    refine Run.mv [0, 1, 2] [] [.row [.int .i64 n], .row [.sl 2 0 o.length 4 none], .arr (o.map encE) 4] (by rfl) (by decide) (by simp -implicitDefEqProofs) (by simp -implicitDefEqProofs) ?_
    refine Run.retI Try.func36 r36_ok trivial (by simp -implicitDefEqProofs [r36]; rfl) (by simp ) ?_ (by simp -implicitDefEqProofs ) (by simp -implicitDefEqProofs )
    simp [hv]

end Go.Proofs.Ytphpkigfmmanhaa
