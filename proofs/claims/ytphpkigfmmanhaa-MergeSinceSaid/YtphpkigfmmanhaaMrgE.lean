/-
  Layer 11, part E: the document's Prune.
-/
import Derived.Test.YtphpkigfmmanhaaMrgD
namespace Go.Proofs.Ytphpkigfmmanhaa
open Sx Go
set_option maxRecDepth 100000
set_option linter.unusedSimpArgs false
set_option linter.unusedVariables false
set_option linter.unnecessarySimpa false
attribute [local simp] guardB isCall opStep Opd.ev put readAt aBin aUn args0 V.celled V.ones V.one V.cells putAt bounds bound1 elemsOf srcOf appendV fillAt fillEl V.pures V.pure unwind evs ARes.ev mkRes V.ren V.renL O.ren eqCells eq1 aEq aMM hasTy hasTyN okTy mmGo Known HLe OLe VsLe.refl VLe.refl Stay VsLe V.frz V.frzL O.frz fr clearV rn KnownR Objs OLeO ObjsE nm back setAll ren_ite take_map_len List.take_of_length_le
attribute [local simp ↓] upd_app tl_cons tl_nil
attribute [local simp] encE_ren encE_ones encE_len encE_take

def encI (n : Int) : List V := [.int .i64 n]
def pinB (l : List En) (i : Nat) (key : Bs) (p : Int) : Bool := decide (firstI l key p = i)
def keepF (l : List En) (pins : List Int) (i : Nat) : Option En := match l[i]? with
  | some e => if (begK l i e || pins.any (pinB l i e.key)) = true then some e else none
  | none => none
def keptM (l : List En) (pins : List Int) : List En := (List.range l.length).filterMap (keepF l pins)
def lastK (l : List En) (i : Nat) (e : En) : Bool := match l[i + 1]? with | none => true | some q => decide (q.key ≠ e.key)
def pruF (k : List En) (pins : List Int) (bottom : Bool) (i : Nat) : Option En := match k[i]? with
  | some e => if (bottom && e.gone && lastK k i e && pins.all fun p => decide (e.seq ≤ p)) = true then none else some e
  | none => none
/-- what Prune answers -/
def pruR (l : List En) (pins : List Int) (bottom : Bool) : List En :=
  if checkE l = true then (List.range (keptM l pins).length).filterMap (pruF (keptM l pins) pins bottom) else []

theorem rpru_tri (l : List En) (pins : List Int) (hpl : pins.length ≤ 1000000) (bottom : Bool) : Tri Try.prog 24 [.vs (l.map encE) 4, .vs (pins.map encI) 1, .bool bottom] [] (fun v H => v = .vs ((pruR l pins bottom).map encE) 4 ∧ H = []) := by
  refine Tri.of_run' Try.func24 rfl c24_ok (by simp [Try.ntmps24]) ?_
  (repeat (first | refine Run.seq ?_ | refine Run.reg ?_ | refine Run.skip ?_ | refine Run.block ?_ | refine Run.endB ?_ | refine Run.opE rfl ?_ | (apply Run.op0 rfl; (· (simp -implicitDefEqProofs; exact ⟨rfl, rfl⟩))) | (apply Run.opA rfl; (· (simp -implicitDefEqProofs; done)); (· (simp -implicitDefEqProofs; exact ⟨rfl, rfl⟩))) | (apply Run.opN rfl; (· (simp -implicitDefEqProofs; done))) | (refine Run.condT ?_ ?_; (· (simp -implicitDefEqProofs; done))) | (refine Run.condF ?_ ?_; (· (simp -implicitDefEqProofs; done))) | refine Run.exit rfl ?_))
  refine Run.opC rfl rfl rfl (rcheckE_at l _) ?_
  rintro v h' ⟨rfl, rfl⟩
  cases hc : checkE l with
  | false =>
    (repeat (first | refine Run.seq ?_ | refine Run.reg ?_ | refine Run.skip ?_ | refine Run.block ?_ | refine Run.endB ?_ | refine Run.opE rfl ?_ | (apply Run.op0 rfl; (· (simp -implicitDefEqProofs [hc, errE]; exact ⟨rfl, rfl⟩))) | (apply Run.opA rfl; (· (simp -implicitDefEqProofs [hc, errE]; done)); (· (simp -implicitDefEqProofs [hc, errE]; exact ⟨rfl, rfl⟩))) | (apply Run.opN rfl; (· (simp -implicitDefEqProofs [hc, errE]; done))) | (refine Run.condT ?_ ?_; (· (simp -implicitDefEqProofs [hc, errE]; done))) | (refine Run.condF ?_ ?_; (· (simp -implicitDefEqProofs [hc, errE]; done))) | refine Run.exit rfl ?_))
    refine Run.mv [] [(6, .vs [] 4)] [] (by rfl) (by decide) (by simp -implicitDefEqProofs [VLe.nils]) (by simp -implicitDefEqProofs [VLe.nils]) ?_
    refine Run.retI Try.func24 r24_ok trivial (by simp -implicitDefEqProofs [r24]; rfl) (by simp ) ?_ (by simp -implicitDefEqProofs ) (by simp -implicitDefEqProofs )
    simp [pruR, hc]
  | true =>
  have hl := checkE_len hc
  (repeat (first | refine Run.seq ?_ | refine Run.reg ?_ | refine Run.skip ?_ | refine Run.block ?_ | refine Run.endB ?_ | refine Run.opE rfl ?_ | (apply Run.op0 rfl; (· (simp -implicitDefEqProofs [hc, errE]; exact ⟨rfl, rfl⟩))) | (apply Run.opA rfl; (· (simp -implicitDefEqProofs [hc, errE]; done)); (· (simp -implicitDefEqProofs [hc, errE]; exact ⟨rfl, rfl⟩))) | (apply Run.opN rfl; (· (simp -implicitDefEqProofs [hc, errE]; done))) | (refine Run.condT ?_ ?_; (· (simp -implicitDefEqProofs [hc, errE]; done))) | (refine Run.condF ?_ ?_; (· (simp -implicitDefEqProofs [hc, errE]; done))) | refine Run.exit rfl ?_))
  refine Run.nilA 7 4 (by simp) ?_
  refine Run.loopC [0] (fun (i : Nat) => ([(0, .vs (l.map encE) 4), (1, .vs (pins.map encI) 1), (2, .bool bottom), (7, .sl 0 0 ((List.range i).filterMap (keepF l pins)).length 4 none), (8, .int .i64 i)], [.arr (((List.range i).filterMap (keepF l pins)).map encE) 4])) (fun i => i ≤ l.length) (fun i => l.length - i) 0 (by simp) (by rfl) (by decide) (by simp) (by simp) ?_
  intro i hi ihO
  generalize ho : (List.range i).filterMap (keepF l pins) = o
  have hol : o.length ≤ i := by rw [← ho]; exact fmap_len _ _
  by_cases hlt : i < l.length
  · obtain ⟨e, he, hei, -, -⟩ := getL hlt
    have hw := wrap_small (n := (i : Int) + 1) (by omega) (by omega)
    have hbb : (o.length + 1) * 48 ≤ 70368744177664 := by omega
    (repeat (first | refine Run.seq ?_ | refine Run.reg ?_ | refine Run.skip ?_ | refine Run.block ?_ | refine Run.endB ?_ | refine Run.opE rfl ?_ | (apply Run.op0 rfl; (· (simp -implicitDefEqProofs [hlt]; exact ⟨rfl, rfl⟩))) | (apply Run.opA rfl; (· (simp -implicitDefEqProofs [hlt]; done)); (· (simp -implicitDefEqProofs [hlt]; exact ⟨rfl, rfl⟩))) | (apply Run.opN rfl; (· (simp -implicitDefEqProofs [hlt]; done))) | (refine Run.condT ?_ ?_; (· (simp -implicitDefEqProofs [hlt]; done))) | (refine Run.condF ?_ ?_; (· (simp -implicitDefEqProofs [hlt]; done))) | refine Run.exit rfl ?_))
    refine Run.quietM prog_mixed (by kernel_rfl) [0] [(0, .vs (l.map encE) 4), (1, .vs (pins.map encI) 1), (2, .bool bottom), (7, .sl 0 0 o.length 4 none), (8, .int .i64 i), (9, .bool (begK l i e))] [.arr (o.map encE) 4] (by rfl) (by decide) ?_ ?_
    · by_cases hi0 : i = 0
      · subst hi0
        (repeat (first | refine execQ_E rfl ?_ | (apply execQ_0 rfl; (· rfl); (· (simp -implicitDefEqProofs [hlt, he, hei, encE]; exact ⟨rfl, rfl⟩))) | (apply execQ_A rfl; (· (simp -implicitDefEqProofs [hlt, he, hei, encE]; done)); (· rfl); (· (simp -implicitDefEqProofs [hlt, he, hei, encE]; exact ⟨rfl, rfl⟩))) | (apply execQ_N rfl; (· (simp -implicitDefEqProofs [hlt, he, hei, encE]; done)))))
        simp [begK, prevE]
      · obtain ⟨q, hq, hqi, -, -⟩ := getL (l := l) (i := i - 1) (by omega)
        have hw1 : IntKind.i64.wrap ((i : Int) - 1) = ((i - 1 : Nat) : Int) := by rw [wrap_small (by omega) (by omega)]; omega
        have hlt1 : i - 1 < l.length := by omega
        have hi0' : ¬ (i : Int) = 0 := by omega
        by_cases hk : q.key = e.key
        · (repeat (first | refine execQ_E rfl ?_ | (apply execQ_0 rfl; (· rfl); (· (simp -implicitDefEqProofs [hi0, hi0', hw1, hlt1, hq, hqi, hlt, he, hei, encE, hk]; exact ⟨rfl, rfl⟩))) | (apply execQ_A rfl; (· (simp -implicitDefEqProofs [hi0, hi0', hw1, hlt1, hq, hqi, hlt, he, hei, encE, hk]; done)); (· rfl); (· (simp -implicitDefEqProofs [hi0, hi0', hw1, hlt1, hq, hqi, hlt, he, hei, encE, hk]; exact ⟨rfl, rfl⟩))) | (apply execQ_N rfl; (· (simp -implicitDefEqProofs [hi0, hi0', hw1, hlt1, hq, hqi, hlt, he, hei, encE, hk]; done)))))
          simp [begK, prevE, hi0, hq, hk]
        · (repeat (first | refine execQ_E rfl ?_ | (apply execQ_0 rfl; (· rfl); (· (simp -implicitDefEqProofs [hi0, hi0', hw1, hlt1, hq, hqi, hlt, he, hei, encE, hk]; exact ⟨rfl, rfl⟩))) | (apply execQ_A rfl; (· (simp -implicitDefEqProofs [hi0, hi0', hw1, hlt1, hq, hqi, hlt, he, hei, encE, hk]; done)); (· rfl); (· (simp -implicitDefEqProofs [hi0, hi0', hw1, hlt1, hq, hqi, hlt, he, hei, encE, hk]; exact ⟨rfl, rfl⟩))) | (apply execQ_N rfl; (· (simp -implicitDefEqProofs [hi0, hi0', hw1, hlt1, hq, hqi, hlt, he, hei, encE, hk]; done)))))
          simp [begK, prevE, hi0, hq, hk]
    (repeat (first | refine Run.seq ?_ | refine Run.reg ?_ | refine Run.skip ?_ | refine Run.block ?_ | refine Run.endB ?_ | refine Run.opE rfl ?_ | (apply Run.op0 rfl; (· (simp -implicitDefEqProofs; exact ⟨rfl, rfl⟩))) | (apply Run.opA rfl; (· (simp -implicitDefEqProofs; done)); (· (simp -implicitDefEqProofs; exact ⟨rfl, rfl⟩))) | (apply Run.opN rfl; (· (simp -implicitDefEqProofs; done))) | (refine Run.condT ?_ ?_; (· (simp -implicitDefEqProofs; done))) | (refine Run.condF ?_ ?_; (· (simp -implicitDefEqProofs; done))) | refine Run.exit rfl ?_))
    refine Run.loopC [0] (fun (j : Nat) => ([(0, .vs (l.map encE) 4), (1, .vs (pins.map encI) 1), (2, .bool bottom), (7, .sl 0 0 o.length 4 none), (8, .int .i64 i), (9, .bool (begK l i e || (pins.take j).any (pinB l i e.key))), (10, .int .i64 j)], [.arr (o.map encE) 4])) (fun j => j ≤ pins.length) (fun j => pins.length - j) 0 (by simp) (by rfl) (by decide) (by simp) (by simp) ?_
    intro j hj ih
    by_cases hlj : j < pins.length
    · obtain ⟨p, hp, hpi, -, -⟩ := getL hlj
      have hwj := wrap_small (n := (j : Int) + 1) (by omega) (by omega)
      have hnx : (begK l i e || (pins.take (j + 1)).any (pinB l i e.key)) = (begK l i e || (pins.take j).any (pinB l i e.key) || pinB l i e.key p) := by
        rw [List.take_add_one, hp, List.any_append]; simp [Bool.or_assoc]
      generalize hb : (begK l i e || (pins.take j).any (pinB l i e.key)) = b at hnx
      (repeat (first | refine Run.seq ?_ | refine Run.reg ?_ | refine Run.skip ?_ | refine Run.block ?_ | refine Run.endB ?_ | refine Run.opE rfl ?_ | (apply Run.op0 rfl; (· (simp -implicitDefEqProofs [hlj]; exact ⟨rfl, rfl⟩))) | (apply Run.opA rfl; (· (simp -implicitDefEqProofs [hlj]; done)); (· (simp -implicitDefEqProofs [hlj]; exact ⟨rfl, rfl⟩))) | (apply Run.opN rfl; (· (simp -implicitDefEqProofs [hlj]; done))) | (refine Run.condT ?_ ?_; (· (simp -implicitDefEqProofs [hlj]; done))) | (refine Run.condF ?_ ?_; (· (simp -implicitDefEqProofs [hlj]; done))) | refine Run.exit rfl ?_))
      refine Run.qchain prog_mixed 16 (by kernel_rfl) ?_
      cases b with
      | true =>
        (repeat (first | refine execQ_E rfl ?_ | (apply execQ_0 rfl; (· rfl); (· (simp -implicitDefEqProofs; exact ⟨rfl, rfl⟩))) | (apply execQ_A rfl; (· (simp -implicitDefEqProofs; done)); (· rfl); (· (simp -implicitDefEqProofs; exact ⟨rfl, rfl⟩))) | (apply execQ_N rfl; (· (simp -implicitDefEqProofs; done)))))
        (repeat (first | refine SeqR.E rfl ?_ | (apply SeqR.o0 rfl; (· (simp -implicitDefEqProofs; exact ⟨rfl, rfl⟩))) | (apply SeqR.A rfl; (· (simp -implicitDefEqProofs; done)); (· (simp -implicitDefEqProofs; exact ⟨rfl, rfl⟩))) | (apply SeqR.N rfl; (· (simp -implicitDefEqProofs; done)))))
        (repeat (first | refine Run.seq ?_ | refine Run.reg ?_ | refine Run.skip ?_ | refine Run.block ?_ | refine Run.endB ?_ | refine Run.opE rfl ?_ | (apply Run.op0 rfl; (· (simp -implicitDefEqProofs; exact ⟨rfl, rfl⟩))) | (apply Run.opA rfl; (· (simp -implicitDefEqProofs; done)); (· (simp -implicitDefEqProofs; exact ⟨rfl, rfl⟩))) | (apply Run.opN rfl; (· (simp -implicitDefEqProofs; done))) | (refine Run.condT ?_ ?_; (· (simp -implicitDefEqProofs; done))) | (refine Run.condF ?_ ?_; (· (simp -implicitDefEqProofs; done))) | refine Run.exit rfl ?_))
        refine Run.mv [0] _ _ (by rfl) (by decide) (by simp -implicitDefEqProofs [hwj, hnx]) (by simp -implicitDefEqProofs [hwj, hnx]) (ih (j + 1) ?_ ?_)
        · omega
        · omega
      | false =>
        (repeat (first | refine execQ_E rfl ?_ | (apply execQ_0 rfl; (· rfl); (· (simp -implicitDefEqProofs [hlt, he, hei, encE, hlj, hp, hpi, encI]; exact ⟨rfl, rfl⟩))) | (apply execQ_A rfl; (· (simp -implicitDefEqProofs [hlt, he, hei, encE, hlj, hp, hpi, encI]; done)); (· rfl); (· (simp -implicitDefEqProofs [hlt, he, hei, encE, hlj, hp, hpi, encI]; exact ⟨rfl, rfl⟩))) | (apply execQ_N rfl; (· (simp -implicitDefEqProofs [hlt, he, hei, encE, hlj, hp, hpi, encI]; done)))))
        refine execQ_C rfl rfl rfl (first_at l (by omega) e.key p _) ?_
        (repeat (first | refine execQ_E rfl ?_ | (apply execQ_0 rfl; (· rfl); (· (simp -implicitDefEqProofs; exact ⟨rfl, rfl⟩))) | (apply execQ_A rfl; (· (simp -implicitDefEqProofs; done)); (· rfl); (· (simp -implicitDefEqProofs; exact ⟨rfl, rfl⟩))) | (apply execQ_N rfl; (· (simp -implicitDefEqProofs; done)))))
        (repeat (first | refine SeqR.E rfl ?_ | (apply SeqR.o0 rfl; (· (simp -implicitDefEqProofs; exact ⟨rfl, rfl⟩))) | (apply SeqR.A rfl; (· (simp -implicitDefEqProofs; done)); (· (simp -implicitDefEqProofs; exact ⟨rfl, rfl⟩))) | (apply SeqR.N rfl; (· (simp -implicitDefEqProofs; done)))))
        (repeat (first | refine Run.seq ?_ | refine Run.reg ?_ | refine Run.skip ?_ | refine Run.block ?_ | refine Run.endB ?_ | refine Run.opE rfl ?_ | (apply Run.op0 rfl; (· (simp -implicitDefEqProofs; exact ⟨rfl, rfl⟩))) | (apply Run.opA rfl; (· (simp -implicitDefEqProofs; done)); (· (simp -implicitDefEqProofs; exact ⟨rfl, rfl⟩))) | (apply Run.opN rfl; (· (simp -implicitDefEqProofs; done))) | (refine Run.condT ?_ ?_; (· (simp -implicitDefEqProofs; done))) | (refine Run.condF ?_ ?_; (· (simp -implicitDefEqProofs; done))) | refine Run.exit rfl ?_))
        refine Run.mv [0] _ _ (by rfl) (by decide) (by simp -implicitDefEqProofs [hwj, hnx, pinB]) (by simp -implicitDefEqProofs [hwj, hnx, pinB]) (ih (j + 1) ?_ ?_)
        · omega
        · omega
    · have : j = pins.length := by omega
      subst this
      have hkf : keepF l pins i = if (begK l i e || pins.any (pinB l i e.key)) = true then some e else none := by simp [keepF, he]
      rw [List.take_length]
      cases hb : (begK l i e || pins.any (pinB l i e.key)) with
      | true =>
        have hf : keepF l pins i = some e := by rw [hkf, hb]; rfl
        (repeat (first | refine Run.seq ?_ | refine Run.reg ?_ | refine Run.skip ?_ | refine Run.block ?_ | refine Run.endB ?_ | refine Run.opE rfl ?_ | (apply Run.op0 rfl; (· (simp -implicitDefEqProofs [hlt, he, hei, encE, hbb]; exact ⟨rfl, rfl⟩))) | (apply Run.opA rfl; (· (simp -implicitDefEqProofs [hlt, he, hei, encE, hbb]; done)); (· (simp -implicitDefEqProofs [hlt, he, hei, encE, hbb]; exact ⟨rfl, rfl⟩))) | (apply Run.opN rfl; (· (simp -implicitDefEqProofs [hlt, he, hei, encE, hbb]; done))) | (refine Run.condT ?_ ?_; (· (simp -implicitDefEqProofs [hlt, he, hei, encE, hbb]; done))) | (refine Run.condF ?_ ?_; (· (simp -implicitDefEqProofs [hlt, he, hei, encE, hbb]; done))) | refine Run.exit rfl ?_))
        have ih := ihO
        refine Run.mv [2] _ _ (by rfl) (by decide) (by simp -implicitDefEqProofs [hw, fmap_succ, hf, ho, encE]) (by simp -implicitDefEqProofs [hw, fmap_succ, hf, ho, encE]) (ih (i + 1) ?_ ?_)
        · omega
        · omega
      | false =>
        have hf : keepF l pins i = none := by rw [hkf, hb]; rfl
        (repeat (first | refine Run.seq ?_ | refine Run.reg ?_ | refine Run.skip ?_ | refine Run.block ?_ | refine Run.endB ?_ | refine Run.opE rfl ?_ | (apply Run.op0 rfl; (· (simp -implicitDefEqProofs; exact ⟨rfl, rfl⟩))) | (apply Run.opA rfl; (· (simp -implicitDefEqProofs; done)); (· (simp -implicitDefEqProofs; exact ⟨rfl, rfl⟩))) | (apply Run.opN rfl; (· (simp -implicitDefEqProofs; done))) | (refine Run.condT ?_ ?_; (· (simp -implicitDefEqProofs; done))) | (refine Run.condF ?_ ?_; (· (simp -implicitDefEqProofs; done))) | refine Run.exit rfl ?_))
        have ih := ihO
        refine Run.mv [0] _ _ (by rfl) (by decide) (by simp -implicitDefEqProofs [hw, fmap_succ, hf, ho]) (by simp -implicitDefEqProofs [hw, fmap_succ, hf, ho]) (ih (i + 1) ?_ ?_)
        · omega
        · omega
  · have : i = l.length := by omega
    subst this
    clear ihO
    have hk : keptM l pins = o := ho
    have hol2 : o.length ≤ l.length := by omega
    have hfin : pruR l pins bottom = (List.range o.length).filterMap (pruF o pins bottom) := by simp [pruR, hc, hk]
    rw [hfin]
    clear ho hk hfin
    (repeat (first | refine Run.seq ?_ | refine Run.reg ?_ | refine Run.skip ?_ | refine Run.block ?_ | refine Run.endB ?_ | refine Run.opE rfl ?_ | (apply Run.op0 rfl; (· (simp -implicitDefEqProofs; exact ⟨rfl, rfl⟩))) | (apply Run.opA rfl; (· (simp -implicitDefEqProofs; done)); (· (simp -implicitDefEqProofs; exact ⟨rfl, rfl⟩))) | (apply Run.opN rfl; (· (simp -implicitDefEqProofs; done))) | (refine Run.condT ?_ ?_; (· (simp -implicitDefEqProofs; done))) | (refine Run.condF ?_ ?_; (· (simp -implicitDefEqProofs; done))) | refine Run.exit rfl ?_))
    refine Run.freeze 0 (es := o.map encE) (sz := 4) (by simp) ?_
    refine Run.nilA 11 4 (by simp) ?_
    refine Run.loopC [1] (fun (i : Nat) => ([(1, .vs (pins.map encI) 1), (2, .bool bottom), (7, .vs (o.map encE) 4), (11, .sl 0 0 ((List.range i).filterMap (pruF o pins bottom)).length 4 none), (12, .int .i64 i)], [.arr (((List.range i).filterMap (pruF o pins bottom)).map encE) 4])) (fun i => i ≤ o.length) (fun i => o.length - i) 0 (by simp) (by rfl) (by decide) (by simp) (by simp) ?_
    intro i hi ihO
    generalize hu : (List.range i).filterMap (pruF o pins bottom) = u
    have hul : u.length ≤ i := by rw [← hu]; exact fmap_len _ _
    by_cases hlt : i < o.length
    · obtain ⟨e, he, hei, -, -⟩ := getL hlt
      have hw := wrap_small (n := (i : Int) + 1) (by omega) (by omega)
      have hbb : (u.length + 1) * 48 ≤ 70368744177664 := by omega
      (repeat (first | refine Run.seq ?_ | refine Run.reg ?_ | refine Run.skip ?_ | refine Run.block ?_ | refine Run.endB ?_ | refine Run.opE rfl ?_ | (apply Run.op0 rfl; (· (simp -implicitDefEqProofs [hlt]; exact ⟨rfl, rfl⟩))) | (apply Run.opA rfl; (· (simp -implicitDefEqProofs [hlt]; done)); (· (simp -implicitDefEqProofs [hlt]; exact ⟨rfl, rfl⟩))) | (apply Run.opN rfl; (· (simp -implicitDefEqProofs [hlt]; done))) | (refine Run.condT ?_ ?_; (· (simp -implicitDefEqProofs [hlt]; done))) | (refine Run.condF ?_ ?_; (· (simp -implicitDefEqProofs [hlt]; done))) | refine Run.exit rfl ?_))
      refine Run.quietM prog_mixed (by kernel_rfl) [0] [(1, .vs (pins.map encI) 1), (2, .bool bottom), (7, .vs (o.map encE) 4), (11, .sl 0 0 u.length 4 none), (12, .int .i64 i), (13, .bool (bottom && e.gone && lastK o i e))] [.arr (u.map encE) 4] (by rfl) (by decide) ?_ ?_
      · cases bottom with
        | false =>
          (repeat (first | refine execQ_E rfl ?_ | (apply execQ_0 rfl; (· rfl); (· (simp -implicitDefEqProofs; exact ⟨rfl, rfl⟩))) | (apply execQ_A rfl; (· (simp -implicitDefEqProofs; done)); (· rfl); (· (simp -implicitDefEqProofs; exact ⟨rfl, rfl⟩))) | (apply execQ_N rfl; (· (simp -implicitDefEqProofs; done)))))
          simp
        | true =>
          cases hg : e.gone with
          | false =>
            (repeat (first | refine execQ_E rfl ?_ | (apply execQ_0 rfl; (· rfl); (· (simp -implicitDefEqProofs [hlt, he, hei, encE, hg]; exact ⟨rfl, rfl⟩))) | (apply execQ_A rfl; (· (simp -implicitDefEqProofs [hlt, he, hei, encE, hg]; done)); (· rfl); (· (simp -implicitDefEqProofs [hlt, he, hei, encE, hg]; exact ⟨rfl, rfl⟩))) | (apply execQ_N rfl; (· (simp -implicitDefEqProofs [hlt, he, hei, encE, hg]; done)))))
            simp
          | true =>
            by_cases hlast : i + 1 < o.length
            · obtain ⟨q, hq0, -, -, -⟩ := getL hlast
              obtain ⟨m, hm⟩ : ∃ m, m = i + 1 := ⟨_, rfl⟩
              have hmlt : m < o.length := by omega
              obtain ⟨q', hq, hqi, -, -⟩ := getL hmlt
              have hwm : IntKind.i64.wrap ((i : Int) + 1) = (m : Int) := by rw [hw]; omega
              have hne : ¬ (m : Int) = o.length := by omega
              have hne' : ¬ m = o.length := by omega
              have hqq : q' = q := by rw [hm, hq0] at hq; cases hq; rfl
              subst hqq
              by_cases hk : q'.key = e.key
              · (repeat (first | refine execQ_E rfl ?_ | (apply execQ_0 rfl; (· rfl); (· (simp -implicitDefEqProofs [hlt, he, hei, encE, hg, hwm, hne, hne', hmlt, hq, hqi, hk]; exact ⟨rfl, rfl⟩))) | (apply execQ_A rfl; (· (simp -implicitDefEqProofs [hlt, he, hei, encE, hg, hwm, hne, hne', hmlt, hq, hqi, hk]; done)); (· rfl); (· (simp -implicitDefEqProofs [hlt, he, hei, encE, hg, hwm, hne, hne', hmlt, hq, hqi, hk]; exact ⟨rfl, rfl⟩))) | (apply execQ_N rfl; (· (simp -implicitDefEqProofs [hlt, he, hei, encE, hg, hwm, hne, hne', hmlt, hq, hqi, hk]; done)))))
                simp [lastK, hq0, hk]
              · (repeat (first | refine execQ_E rfl ?_ | (apply execQ_0 rfl; (· rfl); (· (simp -implicitDefEqProofs [hlt, he, hei, encE, hg, hwm, hne, hne', hmlt, hq, hqi, hk]; exact ⟨rfl, rfl⟩))) | (apply execQ_A rfl; (· (simp -implicitDefEqProofs [hlt, he, hei, encE, hg, hwm, hne, hne', hmlt, hq, hqi, hk]; done)); (· rfl); (· (simp -implicitDefEqProofs [hlt, he, hei, encE, hg, hwm, hne, hne', hmlt, hq, hqi, hk]; exact ⟨rfl, rfl⟩))) | (apply execQ_N rfl; (· (simp -implicitDefEqProofs [hlt, he, hei, encE, hg, hwm, hne, hne', hmlt, hq, hqi, hk]; done)))))
                simp [lastK, hq0, hk]
            · have heq : (i : Int) + 1 = o.length := by omega
              have hnone : o[i + 1]? = none := by rw [List.getElem?_eq_none_iff]; omega
              have hwl : IntKind.i64.wrap ((i : Int) + 1) = (o.length : Int) := by rw [hw]; omega
              (repeat (first | refine execQ_E rfl ?_ | (apply execQ_0 rfl; (· rfl); (· (simp -implicitDefEqProofs [hlt, he, hei, encE, hg, hwl]; exact ⟨rfl, rfl⟩))) | (apply execQ_A rfl; (· (simp -implicitDefEqProofs [hlt, he, hei, encE, hg, hwl]; done)); (· rfl); (· (simp -implicitDefEqProofs [hlt, he, hei, encE, hg, hwl]; exact ⟨rfl, rfl⟩))) | (apply execQ_N rfl; (· (simp -implicitDefEqProofs [hlt, he, hei, encE, hg, hwl]; done)))))
              simp [lastK, hnone]
      (repeat (first | refine Run.seq ?_ | refine Run.reg ?_ | refine Run.skip ?_ | refine Run.block ?_ | refine Run.endB ?_ | refine Run.opE rfl ?_ | (apply Run.op0 rfl; (· (simp -implicitDefEqProofs; exact ⟨rfl, rfl⟩))) | (apply Run.opA rfl; (· (simp -implicitDefEqProofs; done)); (· (simp -implicitDefEqProofs; exact ⟨rfl, rfl⟩))) | (apply Run.opN rfl; (· (simp -implicitDefEqProofs; done))) | (refine Run.condT ?_ ?_; (· (simp -implicitDefEqProofs; done))) | (refine Run.condF ?_ ?_; (· (simp -implicitDefEqProofs; done))) | refine Run.exit rfl ?_))
      refine Run.loopC [0] (fun (j : Nat) => ([(1, .vs (pins.map encI) 1), (2, .bool bottom), (7, .vs (o.map encE) 4), (11, .sl 0 0 u.length 4 none), (12, .int .i64 i), (13, .bool (bottom && e.gone && lastK o i e && (pins.take j).all fun p => decide (e.seq ≤ p))), (14, .int .i64 j)], [.arr (u.map encE) 4])) (fun j => j ≤ pins.length) (fun j => pins.length - j) 0 (by simp) (by rfl) (by decide) (by simp) (by simp) ?_
      intro j hj ih
      by_cases hlj : j < pins.length
      · obtain ⟨p, hp, hpi, -, -⟩ := getL hlj
        have hwj := wrap_small (n := (j : Int) + 1) (by omega) (by omega)
        have hnx : (bottom && e.gone && lastK o i e && (pins.take (j + 1)).all fun p => decide (e.seq ≤ p)) = ((bottom && e.gone && lastK o i e && (pins.take j).all fun p => decide (e.seq ≤ p)) && decide (e.seq ≤ p)) := by
          rw [List.take_add_one, hp, List.all_append]; simp [Bool.and_assoc]
        generalize hb : (bottom && e.gone && lastK o i e && (pins.take j).all fun p => decide (e.seq ≤ p)) = b at hnx
        (repeat (first | refine Run.seq ?_ | refine Run.reg ?_ | refine Run.skip ?_ | refine Run.block ?_ | refine Run.endB ?_ | refine Run.opE rfl ?_ | (apply Run.op0 rfl; (· (simp -implicitDefEqProofs [hlj]; exact ⟨rfl, rfl⟩))) | (apply Run.opA rfl; (· (simp -implicitDefEqProofs [hlj]; done)); (· (simp -implicitDefEqProofs [hlj]; exact ⟨rfl, rfl⟩))) | (apply Run.opN rfl; (· (simp -implicitDefEqProofs [hlj]; done))) | (refine Run.condT ?_ ?_; (· (simp -implicitDefEqProofs [hlj]; done))) | (refine Run.condF ?_ ?_; (· (simp -implicitDefEqProofs [hlj]; done))) | refine Run.exit rfl ?_))
        refine Run.qchain prog_mixed 13 (by kernel_rfl) ?_
        cases b with
        | false =>
          (repeat (first | refine execQ_E rfl ?_ | (apply execQ_0 rfl; (· rfl); (· (simp -implicitDefEqProofs; exact ⟨rfl, rfl⟩))) | (apply execQ_A rfl; (· (simp -implicitDefEqProofs; done)); (· rfl); (· (simp -implicitDefEqProofs; exact ⟨rfl, rfl⟩))) | (apply execQ_N rfl; (· (simp -implicitDefEqProofs; done)))))
          (repeat (first | refine SeqR.E rfl ?_ | (apply SeqR.o0 rfl; (· (simp -implicitDefEqProofs; exact ⟨rfl, rfl⟩))) | (apply SeqR.A rfl; (· (simp -implicitDefEqProofs; done)); (· (simp -implicitDefEqProofs; exact ⟨rfl, rfl⟩))) | (apply SeqR.N rfl; (· (simp -implicitDefEqProofs; done)))))
          (repeat (first | refine Run.seq ?_ | refine Run.reg ?_ | refine Run.skip ?_ | refine Run.block ?_ | refine Run.endB ?_ | refine Run.opE rfl ?_ | (apply Run.op0 rfl; (· (simp -implicitDefEqProofs; exact ⟨rfl, rfl⟩))) | (apply Run.opA rfl; (· (simp -implicitDefEqProofs; done)); (· (simp -implicitDefEqProofs; exact ⟨rfl, rfl⟩))) | (apply Run.opN rfl; (· (simp -implicitDefEqProofs; done))) | (refine Run.condT ?_ ?_; (· (simp -implicitDefEqProofs; done))) | (refine Run.condF ?_ ?_; (· (simp -implicitDefEqProofs; done))) | refine Run.exit rfl ?_))
          refine Run.mv [0] _ _ (by rfl) (by decide) (by simp -implicitDefEqProofs [hwj, hnx]) (by simp -implicitDefEqProofs [hwj, hnx]) (ih (j + 1) ?_ ?_)
          · omega
          · omega
        | true =>
          (repeat (first | refine execQ_E rfl ?_ | (apply execQ_0 rfl; (· rfl); (· (simp -implicitDefEqProofs [hlt, he, hei, encE, hlj, hp, hpi, encI]; exact ⟨rfl, rfl⟩))) | (apply execQ_A rfl; (· (simp -implicitDefEqProofs [hlt, he, hei, encE, hlj, hp, hpi, encI]; done)); (· rfl); (· (simp -implicitDefEqProofs [hlt, he, hei, encE, hlj, hp, hpi, encI]; exact ⟨rfl, rfl⟩))) | (apply execQ_N rfl; (· (simp -implicitDefEqProofs [hlt, he, hei, encE, hlj, hp, hpi, encI]; done)))))
          (repeat (first | refine SeqR.E rfl ?_ | (apply SeqR.o0 rfl; (· (simp -implicitDefEqProofs; exact ⟨rfl, rfl⟩))) | (apply SeqR.A rfl; (· (simp -implicitDefEqProofs; done)); (· (simp -implicitDefEqProofs; exact ⟨rfl, rfl⟩))) | (apply SeqR.N rfl; (· (simp -implicitDefEqProofs; done)))))
          (repeat (first | refine Run.seq ?_ | refine Run.reg ?_ | refine Run.skip ?_ | refine Run.block ?_ | refine Run.endB ?_ | refine Run.opE rfl ?_ | (apply Run.op0 rfl; (· (simp -implicitDefEqProofs; exact ⟨rfl, rfl⟩))) | (apply Run.opA rfl; (· (simp -implicitDefEqProofs; done)); (· (simp -implicitDefEqProofs; exact ⟨rfl, rfl⟩))) | (apply Run.opN rfl; (· (simp -implicitDefEqProofs; done))) | (refine Run.condT ?_ ?_; (· (simp -implicitDefEqProofs; done))) | (refine Run.condF ?_ ?_; (· (simp -implicitDefEqProofs; done))) | refine Run.exit rfl ?_))
          refine Run.mv [0] _ _ (by rfl) (by decide) (by simp -implicitDefEqProofs [hwj, hnx]) (by simp -implicitDefEqProofs [hwj, hnx]) (ih (j + 1) ?_ ?_)
          · omega
          · omega
      · have : j = pins.length := by omega
        subst this
        have hkf : pruF o pins bottom i = if (bottom && e.gone && lastK o i e && pins.all fun p => decide (e.seq ≤ p)) = true then none else some e := by simp only [pruF, he]
        rw [List.take_length]
        cases hb : (bottom && e.gone && lastK o i e && pins.all fun p => decide (e.seq ≤ p)) with
        | true =>
          have hf : pruF o pins bottom i = none := by rw [hkf, hb]; rfl
          (repeat (first | refine Run.seq ?_ | refine Run.reg ?_ | refine Run.skip ?_ | refine Run.block ?_ | refine Run.endB ?_ | refine Run.opE rfl ?_ | (apply Run.op0 rfl; (· (simp -implicitDefEqProofs; exact ⟨rfl, rfl⟩))) | (apply Run.opA rfl; (· (simp -implicitDefEqProofs; done)); (· (simp -implicitDefEqProofs; exact ⟨rfl, rfl⟩))) | (apply Run.opN rfl; (· (simp -implicitDefEqProofs; done))) | (refine Run.condT ?_ ?_; (· (simp -implicitDefEqProofs; done))) | (refine Run.condF ?_ ?_; (· (simp -implicitDefEqProofs; done))) | refine Run.exit rfl ?_))
          have ih := ihO
          refine Run.mv [0] _ _ (by rfl) (by decide) (by simp -implicitDefEqProofs [hw, fmap_succ, hf, hu]) (by simp -implicitDefEqProofs [hw, fmap_succ, hf, hu]) (ih (i + 1) ?_ ?_)
          · omega
          · omega
        | false =>
          have hf : pruF o pins bottom i = some e := by rw [hkf, hb]; rfl
          (repeat (first | refine Run.seq ?_ | refine Run.reg ?_ | refine Run.skip ?_ | refine Run.block ?_ | refine Run.endB ?_ | refine Run.opE rfl ?_ | (apply Run.op0 rfl; (· (simp -implicitDefEqProofs [hlt, he, hei, encE, hbb]; exact ⟨rfl, rfl⟩))) | (apply Run.opA rfl; (· (simp -implicitDefEqProofs [hlt, he, hei, encE, hbb]; done)); (· (simp -implicitDefEqProofs [hlt, he, hei, encE, hbb]; exact ⟨rfl, rfl⟩))) | (apply Run.opN rfl; (· (simp -implicitDefEqProofs [hlt, he, hei, encE, hbb]; done))) | (refine Run.condT ?_ ?_; (· (simp -implicitDefEqProofs [hlt, he, hei, encE, hbb]; done))) | (refine Run.condF ?_ ?_; (· (simp -implicitDefEqProofs [hlt, he, hei, encE, hbb]; done))) | refine Run.exit rfl ?_))
          have ih := ihO
          refine Run.mv [2] _ _ (by rfl) (by decide) (by simp -implicitDefEqProofs [hw, fmap_succ, hf, hu, encE]) (by simp -implicitDefEqProofs [hw, fmap_succ, hf, hu, encE]) (ih (i + 1) ?_ ?_)
          · omega
          · omega
    · have : i = o.length := by omega
      subst this
      (repeat (first | refine Run.seq ?_ | refine Run.reg ?_ | refine Run.skip ?_ | refine Run.block ?_ | refine Run.endB ?_ | refine Run.opE rfl ?_ | (apply Run.op0 rfl; (· (simp -implicitDefEqProofs; exact ⟨rfl, rfl⟩))) | (apply Run.opA rfl; (· (simp -implicitDefEqProofs; done)); (· (simp -implicitDefEqProofs; exact ⟨rfl, rfl⟩))) | (apply Run.opN rfl; (· (simp -implicitDefEqProofs; done))) | (refine Run.condT ?_ ?_; (· (simp -implicitDefEqProofs; done))) | (refine Run.condF ?_ ?_; (· (simp -implicitDefEqProofs; done))) | refine Run.exit rfl ?_))
      refine Run.freeze 0 (es := u.map encE) (sz := 4) (by simp) ?_
      refine Run.mv [] [(6, .vs (u.map encE) 4)] [] (by rfl) (by decide) (by simp -implicitDefEqProofs) (by simp -implicitDefEqProofs) ?_
      refine Run.retI Try.func24 r24_ok trivial (by simp -implicitDefEqProofs [r24]; rfl) (by simp ) ?_ (by simp -implicitDefEqProofs ) (by simp -implicitDefEqProofs )
      simp [hu]
theorem rpru_at (l : List En) (pins : List Int) (hpl : pins.length ≤ 1000000) (bottom : Bool) (H : List O) : Tri Try.prog 24 [.vs (l.map encE) 4, .vs (pins.map encI) 1, .bool bottom] H (fun v H' => v = .vs ((pruR l pins bottom).map encE) 4 ∧ H' = H) := (rpru_tri l pins hpl bottom).at rfl rfl H

end Go.Proofs.Ytphpkigfmmanhaa
