/-
  The document's Check; whether entries, or pairs, are the same; the document's Put1: an entry in its place.
-/
import Derived.Test.YtphpkigfmmanhaaBlkB
namespace Go.Proofs.Ytphpkigfmmanhaa
open Sx Go
set_option maxRecDepth 100000
set_option linter.unusedSimpArgs false
set_option linter.unusedVariables false
set_option linter.unnecessarySimpa false
attribute [local simp] guardB isCall opStep Opd.ev put readAt aBin aUn args0 V.celled V.ones V.one V.cells putAt bounds bound1 elemsOf srcOf appendV fillAt fillEl V.pures V.pure unwind evs ARes.ev mkRes V.ren V.renL O.ren eqCells eq1 aEq aMM hasTy hasTyN okTy mmGo Known HLe OLe VsLe.refl VLe.refl Stay VsLe V.frz V.frzL O.frz fr clearV rn KnownR Objs OLeO ObjsE nm back setAll ren_ite take_map_len List.take_of_length_le
attribute [local simp ↓] upd_app tl_cons tl_nil
attribute [local simp] encE_ren encE_ones encE_len encE_take

theorem check_at (l : List En) (H : List O) : Tri Try.prog 43 [.vs (l.map encE) 4] H (fun v H' => v = .int .i64 (errE (checkE l)) ∧ H' = H) := (check_tri l).at rfl rfl H

theorem rcheckE_tri (l : List En) : Tri Try.prog 25 [.vs (l.map encE) 4] [] (fun v H => v = .int .i64 (errE (checkE l)) ∧ H = []) := by
  refine Tri.of_run' Try.func25 rfl c25_ok (by simp [Try.ntmps25]) ?_
  by_cases hl : l.length ≤ 4096
  rotate_left
  · have hl' : (4096 : Int) < l.length := by omega
    (repeat (first | refine Run.seq ?_ | refine Run.reg ?_ | refine Run.skip ?_ | refine Run.block ?_ | refine Run.endB ?_ | refine Run.opE rfl ?_ | (apply Run.op0 rfl; (· (simp -implicitDefEqProofs [hl']; exact ⟨rfl, rfl⟩))) | (apply Run.opA rfl; (· (simp -implicitDefEqProofs [hl']; done)); (· (simp -implicitDefEqProofs [hl']; exact ⟨rfl, rfl⟩))) | (apply Run.opN rfl; (· (simp -implicitDefEqProofs [hl']; done))) | (refine Run.condT ?_ ?_; (· (simp -implicitDefEqProofs [hl']; done))) | (refine Run.condF ?_ ?_; (· (simp -implicitDefEqProofs [hl']; done))) | refine Run.exit rfl ?_))
    refine Run.retI Try.func25 r25_ok trivial (by simp -implicitDefEqProofs [r25]; rfl) (by simp ) ?_ (by simp -implicitDefEqProofs ) (by simp -implicitDefEqProofs )
    simp [checkE, hl, errE]
  have hl' : ¬ (4096 : Int) < l.length := by omega
  (repeat (first | refine Run.seq ?_ | refine Run.reg ?_ | refine Run.skip ?_ | refine Run.block ?_ | refine Run.endB ?_ | refine Run.opE rfl ?_ | (apply Run.op0 rfl; (· (simp -implicitDefEqProofs [hl']; exact ⟨rfl, rfl⟩))) | (apply Run.opA rfl; (· (simp -implicitDefEqProofs [hl']; done)); (· (simp -implicitDefEqProofs [hl']; exact ⟨rfl, rfl⟩))) | (apply Run.opN rfl; (· (simp -implicitDefEqProofs [hl']; done))) | (refine Run.condT ?_ ?_; (· (simp -implicitDefEqProofs [hl']; done))) | (refine Run.condF ?_ ?_; (· (simp -implicitDefEqProofs [hl']; done))) | refine Run.exit rfl ?_))
  refine Run.loopC [] (fun (i : Nat) => ([(0, .vs (l.map encE) 4), (3, .int .i64 i)], [])) (fun i => i ≤ l.length ∧ checkE l = goE (prevE l i) (l.drop i)) (fun i => l.length - i) 0 (by simp [checkE, prevE, hl]) (by rfl) (by decide) (by simp) (by simp) ?_
  rintro i ⟨hi, hgo⟩ ih
  by_cases hlt : i < l.length
  · obtain ⟨e, he, hei, hdrop, -⟩ := getL hlt
    have hw := wrap_small (n := (i : Int) + 1) (by omega) (by omega)
    rw [goE_step he hdrop] at hgo
    have hmt := rmayE_at e
    simp only [encE] at hmt
    (repeat (first | refine Run.seq ?_ | refine Run.reg ?_ | refine Run.skip ?_ | refine Run.block ?_ | refine Run.endB ?_ | refine Run.opE rfl ?_ | (apply Run.op0 rfl; (· (simp -implicitDefEqProofs [hlt]; exact ⟨rfl, rfl⟩))) | (apply Run.opA rfl; (· (simp -implicitDefEqProofs [hlt]; done)); (· (simp -implicitDefEqProofs [hlt]; exact ⟨rfl, rfl⟩))) | (apply Run.opN rfl; (· (simp -implicitDefEqProofs [hlt]; done))) | (refine Run.condT ?_ ?_; (· (simp -implicitDefEqProofs [hlt]; done))) | (refine Run.condF ?_ ?_; (· (simp -implicitDefEqProofs [hlt]; done))) | refine Run.exit rfl ?_))
    refine Run.quietM prog_mixed (by kernel_rfl) [] [(0, .vs (l.map encE) 4), (3, .int .i64 i), (35, .bool (badE l i e))] [] (by rfl) (by decide) ?_ ?_
    · (repeat (first | refine execQ_E rfl ?_ | (apply execQ_0 rfl; (· rfl); (· (simp -implicitDefEqProofs [hlt, he, hei, encE]; exact ⟨rfl, rfl⟩))) | (apply execQ_A rfl; (· (simp -implicitDefEqProofs [hlt, he, hei, encE]; done)); (· rfl); (· (simp -implicitDefEqProofs [hlt, he, hei, encE]; exact ⟨rfl, rfl⟩))) | (apply execQ_N rfl; (· (simp -implicitDefEqProofs [hlt, he, hei, encE]; done)))))
      refine execQ_C rfl rfl rfl (hmt _) ?_
      cases hm : mayE e with
      | false => (repeat (first | refine execQ_E rfl ?_ | (apply execQ_0 rfl; (· rfl); (· (simp -implicitDefEqProofs [hm]; exact ⟨rfl, rfl⟩))) | (apply execQ_A rfl; (· (simp -implicitDefEqProofs [hm]; done)); (· rfl); (· (simp -implicitDefEqProofs [hm]; exact ⟨rfl, rfl⟩))) | (apply execQ_N rfl; (· (simp -implicitDefEqProofs [hm]; done))))); simp [badE, hm]
      | true =>
        by_cases hi0 : i = 0
        · subst hi0
          (repeat (first | refine execQ_E rfl ?_ | (apply execQ_0 rfl; (· rfl); (· (simp -implicitDefEqProofs [hm]; exact ⟨rfl, rfl⟩))) | (apply execQ_A rfl; (· (simp -implicitDefEqProofs [hm]; done)); (· rfl); (· (simp -implicitDefEqProofs [hm]; exact ⟨rfl, rfl⟩))) | (apply execQ_N rfl; (· (simp -implicitDefEqProofs [hm]; done)))))
          simp [badE, hm, prevE]
        · have hi0' : (0 : Int) < i := by omega
          have hi0n : 0 < i := by omega
          obtain ⟨q, hq, hqi, -, -⟩ := getL (l := l) (i := i - 1) (by omega)
          have hw1 : IntKind.i64.wrap ((i : Int) - 1) = ((i - 1 : Nat) : Int) := by rw [wrap_small (by omega) (by omega)]; omega
          have hlt1 : i - 1 < l.length := by omega
          have hlt' := rless_at q e
          simp only [encE] at hlt'
          (repeat (first | refine execQ_E rfl ?_ | (apply execQ_0 rfl; (· rfl); (· (simp -implicitDefEqProofs [hm, hi0', hi0n, hw1, hlt, he, hei, hlt1, hq, hqi, encE]; exact ⟨rfl, rfl⟩))) | (apply execQ_A rfl; (· (simp -implicitDefEqProofs [hm, hi0', hi0n, hw1, hlt, he, hei, hlt1, hq, hqi, encE]; done)); (· rfl); (· (simp -implicitDefEqProofs [hm, hi0', hi0n, hw1, hlt, he, hei, hlt1, hq, hqi, encE]; exact ⟨rfl, rfl⟩))) | (apply execQ_N rfl; (· (simp -implicitDefEqProofs [hm, hi0', hi0n, hw1, hlt, he, hei, hlt1, hq, hqi, encE]; done)))))
          refine execQ_C rfl (by simp [hi0n]) rfl (hlt' _) ?_
          (repeat (first | refine execQ_E rfl ?_ | (apply execQ_0 rfl; (· rfl); (· (simp -implicitDefEqProofs [hi0n]; exact ⟨rfl, rfl⟩))) | (apply execQ_A rfl; (· (simp -implicitDefEqProofs [hi0n]; done)); (· rfl); (· (simp -implicitDefEqProofs [hi0n]; exact ⟨rfl, rfl⟩))) | (apply execQ_N rfl; (· (simp -implicitDefEqProofs [hi0n]; done)))))
          simp [badE, hm, prevE, hi0, hq]
    cases hb : badE l i e with
    | true =>
      (repeat (first | refine Run.seq ?_ | refine Run.reg ?_ | refine Run.skip ?_ | refine Run.block ?_ | refine Run.endB ?_ | refine Run.opE rfl ?_ | (apply Run.op0 rfl; (· (simp -implicitDefEqProofs; exact ⟨rfl, rfl⟩))) | (apply Run.opA rfl; (· (simp -implicitDefEqProofs; done)); (· (simp -implicitDefEqProofs; exact ⟨rfl, rfl⟩))) | (apply Run.opN rfl; (· (simp -implicitDefEqProofs; done))) | (refine Run.condT ?_ ?_; (· (simp -implicitDefEqProofs; done))) | (refine Run.condF ?_ ?_; (· (simp -implicitDefEqProofs; done))) | refine Run.exit rfl ?_))
      refine Run.retI Try.func25 r25_ok trivial (by simp -implicitDefEqProofs [r25]; rfl) (by simp ) ?_ (by simp -implicitDefEqProofs ) (by simp -implicitDefEqProofs )
      simp [hgo, hb, errE]
    | false =>
      (repeat (first | refine Run.seq ?_ | refine Run.reg ?_ | refine Run.skip ?_ | refine Run.block ?_ | refine Run.endB ?_ | refine Run.opE rfl ?_ | (apply Run.op0 rfl; (· (simp -implicitDefEqProofs; exact ⟨rfl, rfl⟩))) | (apply Run.opA rfl; (· (simp -implicitDefEqProofs; done)); (· (simp -implicitDefEqProofs; exact ⟨rfl, rfl⟩))) | (apply Run.opN rfl; (· (simp -implicitDefEqProofs; done))) | (refine Run.condT ?_ ?_; (· (simp -implicitDefEqProofs; done))) | (refine Run.condF ?_ ?_; (· (simp -implicitDefEqProofs; done))) | refine Run.exit rfl ?_))
      refine Run.mv [] _ _ (by rfl) (by decide) (by simp -implicitDefEqProofs [hw]) (by simp -implicitDefEqProofs [hw]) (ih (i + 1) ?_ ?_)
      · exact ⟨by omega, by rw [hgo, hb]; simp⟩
      · omega
  · have : i = l.length := by omega
    subst this
    (repeat (first | refine Run.seq ?_ | refine Run.reg ?_ | refine Run.skip ?_ | refine Run.block ?_ | refine Run.endB ?_ | refine Run.opE rfl ?_ | (apply Run.op0 rfl; (· (simp -implicitDefEqProofs; exact ⟨rfl, rfl⟩))) | (apply Run.opA rfl; (· (simp -implicitDefEqProofs; done)); (· (simp -implicitDefEqProofs; exact ⟨rfl, rfl⟩))) | (apply Run.opN rfl; (· (simp -implicitDefEqProofs; done))) | (refine Run.condT ?_ ?_; (· (simp -implicitDefEqProofs; done))) | (refine Run.condF ?_ ?_; (· (simp -implicitDefEqProofs; done))) | refine Run.exit rfl ?_))
    refine Run.retI Try.func25 r25_ok trivial (by simp -implicitDefEqProofs [r25]; rfl) (by simp ) ?_ (by simp -implicitDefEqProofs ) (by simp -implicitDefEqProofs )
    simp [hgo, goE, errE]
theorem rcheckE_at (l : List En) (H : List O) : Tri Try.prog 25 [.vs (l.map encE) 4] H (fun v H' => v = .int .i64 (errE (checkE l)) ∧ H' = H) := (rcheckE_tri l).at rfl rfl H

theorem take_eq_drop {α} [DecidableEq α] {a b : List α} {i : Nat} (ha : i < a.length) (hb : i < b.length) (h : a.take i = b.take i) (he : a[i] = b[i]) : a.take (i + 1) = b.take (i + 1) := by
  rw [List.take_add_one, List.take_add_one, h, List.getElem?_eq_getElem ha, List.getElem?_eq_getElem hb, he]

theorem sameE_tri (a b : List En) (hl : a.length ≤ 4611686018427387904) : Tri Try.prog 15 [.vs (a.map encE) 4, .vs (b.map encE) 4] [] (fun v H => v = .bool (decide (a = b)) ∧ H = []) := by
  refine Tri.of_run' Try.func15 rfl c15_ok (by simp [Try.ntmps15]) ?_
  by_cases hlen : a.length = b.length
  rotate_left
  · have hlen' : ¬ (a.length : Int) = b.length := by omega
    have hne : ¬ a = b := fun h => hlen (by rw [h])
    (repeat (first | refine Run.seq ?_ | refine Run.reg ?_ | refine Run.skip ?_ | refine Run.block ?_ | refine Run.endB ?_ | refine Run.opE rfl ?_ | (apply Run.op0 rfl; (· (simp -implicitDefEqProofs [hlen, hlen']; exact ⟨rfl, rfl⟩))) | (apply Run.opA rfl; (· (simp -implicitDefEqProofs [hlen, hlen']; done)); (· (simp -implicitDefEqProofs [hlen, hlen']; exact ⟨rfl, rfl⟩))) | (apply Run.opN rfl; (· (simp -implicitDefEqProofs [hlen, hlen']; done))) | (refine Run.condT ?_ ?_; (· (simp -implicitDefEqProofs [hlen, hlen']; done))) | (refine Run.condF ?_ ?_; (· (simp -implicitDefEqProofs [hlen, hlen']; done))) | refine Run.exit rfl ?_))
    refine Run.retI Try.func15 r15_ok trivial (by simp -implicitDefEqProofs [r15]; rfl) (by simp ) ?_ (by simp -implicitDefEqProofs ) (by simp -implicitDefEqProofs )
    simp [hne]
  have hlen' : (a.length : Int) = b.length := by omega
  (repeat (first | refine Run.seq ?_ | refine Run.reg ?_ | refine Run.skip ?_ | refine Run.block ?_ | refine Run.endB ?_ | refine Run.opE rfl ?_ | (apply Run.op0 rfl; (· (simp -implicitDefEqProofs [hlen, hlen']; exact ⟨rfl, rfl⟩))) | (apply Run.opA rfl; (· (simp -implicitDefEqProofs [hlen, hlen']; done)); (· (simp -implicitDefEqProofs [hlen, hlen']; exact ⟨rfl, rfl⟩))) | (apply Run.opN rfl; (· (simp -implicitDefEqProofs [hlen, hlen']; done))) | (refine Run.condT ?_ ?_; (· (simp -implicitDefEqProofs [hlen, hlen']; done))) | (refine Run.condF ?_ ?_; (· (simp -implicitDefEqProofs [hlen, hlen']; done))) | refine Run.exit rfl ?_))
  refine Run.loopC [] (fun (i : Nat) => ([(0, .vs (a.map encE) 4), (1, .vs (b.map encE) 4), (5, .int .i64 i)], [])) (fun i => i ≤ a.length ∧ a.take i = b.take i) (fun i => a.length - i) 0 (by simp) (by rfl) (by decide) (by simp) (by simp) ?_
  rintro i ⟨hi, htk⟩ ih
  by_cases hlt : i < a.length
  · have hltb : i < b.length := by omega
    obtain ⟨x, hx, hxi, -, -⟩ := getL hlt
    obtain ⟨y, hy, hyi, -, -⟩ := getL hltb
    have hw := wrap_small (n := (i : Int) + 1) (by omega) (by omega)
    (repeat (first | refine Run.seq ?_ | refine Run.reg ?_ | refine Run.skip ?_ | refine Run.block ?_ | refine Run.endB ?_ | refine Run.opE rfl ?_ | (apply Run.op0 rfl; (· (simp -implicitDefEqProofs [hlt]; exact ⟨rfl, rfl⟩))) | (apply Run.opA rfl; (· (simp -implicitDefEqProofs [hlt]; done)); (· (simp -implicitDefEqProofs [hlt]; exact ⟨rfl, rfl⟩))) | (apply Run.opN rfl; (· (simp -implicitDefEqProofs [hlt]; done))) | (refine Run.condT ?_ ?_; (· (simp -implicitDefEqProofs [hlt]; done))) | (refine Run.condF ?_ ?_; (· (simp -implicitDefEqProofs [hlt]; done))) | refine Run.exit rfl ?_))
    refine Run.quietM prog_mixed (by kernel_rfl) [] [(0, .vs (a.map encE) 4), (1, .vs (b.map encE) 4), (5, .int .i64 i), (25, .bool (!decide (x = y)))] [] (by rfl) (by decide) ?_ ?_
    · (repeat (first | refine execQ_E rfl ?_ | (apply execQ_0 rfl; (· rfl); (· (simp -implicitDefEqProofs [hlt, hltb, hx, hxi, hy, hyi, encE]; exact ⟨rfl, rfl⟩))) | (apply execQ_A rfl; (· (simp -implicitDefEqProofs [hlt, hltb, hx, hxi, hy, hyi, encE]; done)); (· rfl); (· (simp -implicitDefEqProofs [hlt, hltb, hx, hxi, hy, hyi, encE]; exact ⟨rfl, rfl⟩))) | (apply execQ_N rfl; (· (simp -implicitDefEqProofs [hlt, hltb, hx, hxi, hy, hyi, encE]; done)))))
      have : (x = y) ↔ (x.key = y.key ∧ x.val = y.val ∧ x.gone = y.gone ∧ x.seq = y.seq) := by
        obtain ⟨a1, a2, a3, a4⟩ := x; obtain ⟨b1, b2, b3, b4⟩ := y; simp
      simp [this, Bool.beq_eq_decide_eq]
    by_cases hxy : x = y
    · (repeat (first | refine Run.seq ?_ | refine Run.reg ?_ | refine Run.skip ?_ | refine Run.block ?_ | refine Run.endB ?_ | refine Run.opE rfl ?_ | (apply Run.op0 rfl; (· (simp -implicitDefEqProofs [hxy]; exact ⟨rfl, rfl⟩))) | (apply Run.opA rfl; (· (simp -implicitDefEqProofs [hxy]; done)); (· (simp -implicitDefEqProofs [hxy]; exact ⟨rfl, rfl⟩))) | (apply Run.opN rfl; (· (simp -implicitDefEqProofs [hxy]; done))) | (refine Run.condT ?_ ?_; (· (simp -implicitDefEqProofs [hxy]; done))) | (refine Run.condF ?_ ?_; (· (simp -implicitDefEqProofs [hxy]; done))) | refine Run.exit rfl ?_))
      refine Run.mv [] _ _ (by rfl) (by decide) (by simp -implicitDefEqProofs [hw]) (by simp -implicitDefEqProofs [hw]) (ih (i + 1) ?_ ?_)
      · exact ⟨by omega, take_eq_drop hlt hltb htk (by rw [hxi, hyi, hxy])⟩
      · omega
    · (repeat (first | refine Run.seq ?_ | refine Run.reg ?_ | refine Run.skip ?_ | refine Run.block ?_ | refine Run.endB ?_ | refine Run.opE rfl ?_ | (apply Run.op0 rfl; (· (simp -implicitDefEqProofs [hxy]; exact ⟨rfl, rfl⟩))) | (apply Run.opA rfl; (· (simp -implicitDefEqProofs [hxy]; done)); (· (simp -implicitDefEqProofs [hxy]; exact ⟨rfl, rfl⟩))) | (apply Run.opN rfl; (· (simp -implicitDefEqProofs [hxy]; done))) | (refine Run.condT ?_ ?_; (· (simp -implicitDefEqProofs [hxy]; done))) | (refine Run.condF ?_ ?_; (· (simp -implicitDefEqProofs [hxy]; done))) | refine Run.exit rfl ?_))
      refine Run.retI Try.func15 r15_ok trivial (by simp -implicitDefEqProofs [r15]; rfl) (by simp ) ?_ (by simp -implicitDefEqProofs ) (by simp -implicitDefEqProofs )
      have : ¬ a = b := by rintro rfl; rw [hxi] at hyi; exact hxy hyi
      simp [this]
  · have : i = a.length := by omega
    subst this
    (repeat (first | refine Run.seq ?_ | refine Run.reg ?_ | refine Run.skip ?_ | refine Run.block ?_ | refine Run.endB ?_ | refine Run.opE rfl ?_ | (apply Run.op0 rfl; (· (simp -implicitDefEqProofs; exact ⟨rfl, rfl⟩))) | (apply Run.opA rfl; (· (simp -implicitDefEqProofs; done)); (· (simp -implicitDefEqProofs; exact ⟨rfl, rfl⟩))) | (apply Run.opN rfl; (· (simp -implicitDefEqProofs; done))) | (refine Run.condT ?_ ?_; (· (simp -implicitDefEqProofs; done))) | (refine Run.condF ?_ ?_; (· (simp -implicitDefEqProofs; done))) | refine Run.exit rfl ?_))
    refine Run.retI Try.func15 r15_ok trivial (by simp -implicitDefEqProofs [r15]; rfl) (by simp ) ?_ (by simp -implicitDefEqProofs ) (by simp -implicitDefEqProofs )
    have : a = b := by rw [List.take_length, List.take_of_length_le (by omega)] at htk; exact htk
    simp [this]
theorem sameE_at (a b : List En) (hl : a.length ≤ 4611686018427387904) (H : List O) : Tri Try.prog 15 [.vs (a.map encE) 4, .vs (b.map encE) 4] H (fun v H' => v = .bool (decide (a = b)) ∧ H' = H) := (sameE_tri a b hl).at rfl rfl H

abbrev Bs := List UInt8
def encP (p : Bs × Bs) : List V := [.str p.1, .str p.2]
theorem encP_ones (p) : V.ones (encP p) = true := rfl

theorem sameP_tri (a b : List (Bs × Bs)) (hl : a.length ≤ 4611686018427387904) : Tri Try.prog 18 [.vs (a.map encP) 2, .vs (b.map encP) 2] [] (fun v H => v = .bool (decide (a = b)) ∧ H = []) := by
  refine Tri.of_run' Try.func18 rfl c18_ok (by simp [Try.ntmps18]) ?_
  by_cases hlen : a.length = b.length
  rotate_left
  · have hlen' : ¬ (a.length : Int) = b.length := by omega
    have hne : ¬ a = b := fun h => hlen (by rw [h])
    (repeat (first | refine Run.seq ?_ | refine Run.reg ?_ | refine Run.skip ?_ | refine Run.block ?_ | refine Run.endB ?_ | refine Run.opE rfl ?_ | (apply Run.op0 rfl; (· (simp -implicitDefEqProofs [hlen, hlen']; exact ⟨rfl, rfl⟩))) | (apply Run.opA rfl; (· (simp -implicitDefEqProofs [hlen, hlen']; done)); (· (simp -implicitDefEqProofs [hlen, hlen']; exact ⟨rfl, rfl⟩))) | (apply Run.opN rfl; (· (simp -implicitDefEqProofs [hlen, hlen']; done))) | (refine Run.condT ?_ ?_; (· (simp -implicitDefEqProofs [hlen, hlen']; done))) | (refine Run.condF ?_ ?_; (· (simp -implicitDefEqProofs [hlen, hlen']; done))) | refine Run.exit rfl ?_))
    refine Run.retI Try.func18 r18_ok trivial (by simp -implicitDefEqProofs [r18]; rfl) (by simp ) ?_ (by simp -implicitDefEqProofs ) (by simp -implicitDefEqProofs )
    simp [hne]
  have hlen' : (a.length : Int) = b.length := by omega
  (repeat (first | refine Run.seq ?_ | refine Run.reg ?_ | refine Run.skip ?_ | refine Run.block ?_ | refine Run.endB ?_ | refine Run.opE rfl ?_ | (apply Run.op0 rfl; (· (simp -implicitDefEqProofs [hlen, hlen']; exact ⟨rfl, rfl⟩))) | (apply Run.opA rfl; (· (simp -implicitDefEqProofs [hlen, hlen']; done)); (· (simp -implicitDefEqProofs [hlen, hlen']; exact ⟨rfl, rfl⟩))) | (apply Run.opN rfl; (· (simp -implicitDefEqProofs [hlen, hlen']; done))) | (refine Run.condT ?_ ?_; (· (simp -implicitDefEqProofs [hlen, hlen']; done))) | (refine Run.condF ?_ ?_; (· (simp -implicitDefEqProofs [hlen, hlen']; done))) | refine Run.exit rfl ?_))
  refine Run.loopC [] (fun (i : Nat) => ([(0, .vs (a.map encP) 2), (1, .vs (b.map encP) 2), (5, .int .i64 i)], [])) (fun i => i ≤ a.length ∧ a.take i = b.take i) (fun i => a.length - i) 0 (by simp) (by rfl) (by decide) (by simp) (by simp) ?_
  rintro i ⟨hi, htk⟩ ih
  by_cases hlt : i < a.length
  · have hltb : i < b.length := by omega
    obtain ⟨x, hx, hxi, -, -⟩ := getL hlt
    obtain ⟨y, hy, hyi, -, -⟩ := getL hltb
    have hw := wrap_small (n := (i : Int) + 1) (by omega) (by omega)
    (repeat (first | refine Run.seq ?_ | refine Run.reg ?_ | refine Run.skip ?_ | refine Run.block ?_ | refine Run.endB ?_ | refine Run.opE rfl ?_ | (apply Run.op0 rfl; (· (simp -implicitDefEqProofs [hlt]; exact ⟨rfl, rfl⟩))) | (apply Run.opA rfl; (· (simp -implicitDefEqProofs [hlt]; done)); (· (simp -implicitDefEqProofs [hlt]; exact ⟨rfl, rfl⟩))) | (apply Run.opN rfl; (· (simp -implicitDefEqProofs [hlt]; done))) | (refine Run.condT ?_ ?_; (· (simp -implicitDefEqProofs [hlt]; done))) | (refine Run.condF ?_ ?_; (· (simp -implicitDefEqProofs [hlt]; done))) | refine Run.exit rfl ?_))
    refine Run.quietM prog_mixed (by kernel_rfl) [] [(0, .vs (a.map encP) 2), (1, .vs (b.map encP) 2), (5, .int .i64 i), (25, .bool (!decide (x = y)))] [] (by rfl) (by decide) ?_ ?_
    · (repeat (first | refine execQ_E rfl ?_ | (apply execQ_0 rfl; (· rfl); (· (simp -implicitDefEqProofs [hlt, hltb, hx, hxi, hy, hyi, encP]; exact ⟨rfl, rfl⟩))) | (apply execQ_A rfl; (· (simp -implicitDefEqProofs [hlt, hltb, hx, hxi, hy, hyi, encP]; done)); (· rfl); (· (simp -implicitDefEqProofs [hlt, hltb, hx, hxi, hy, hyi, encP]; exact ⟨rfl, rfl⟩))) | (apply execQ_N rfl; (· (simp -implicitDefEqProofs [hlt, hltb, hx, hxi, hy, hyi, encP]; done)))))
      have : (x = y) ↔ (x.1 = y.1 ∧ x.2 = y.2) := by
        obtain ⟨a1, a2⟩ := x; obtain ⟨b1, b2⟩ := y; simp
      simp [this]
    by_cases hxy : x = y
    · (repeat (first | refine Run.seq ?_ | refine Run.reg ?_ | refine Run.skip ?_ | refine Run.block ?_ | refine Run.endB ?_ | refine Run.opE rfl ?_ | (apply Run.op0 rfl; (· (simp -implicitDefEqProofs [hxy]; exact ⟨rfl, rfl⟩))) | (apply Run.opA rfl; (· (simp -implicitDefEqProofs [hxy]; done)); (· (simp -implicitDefEqProofs [hxy]; exact ⟨rfl, rfl⟩))) | (apply Run.opN rfl; (· (simp -implicitDefEqProofs [hxy]; done))) | (refine Run.condT ?_ ?_; (· (simp -implicitDefEqProofs [hxy]; done))) | (refine Run.condF ?_ ?_; (· (simp -implicitDefEqProofs [hxy]; done))) | refine Run.exit rfl ?_))
      refine Run.mv [] _ _ (by rfl) (by decide) (by simp -implicitDefEqProofs [hw]) (by simp -implicitDefEqProofs [hw]) (ih (i + 1) ?_ ?_)
      · exact ⟨by omega, take_eq_drop hlt hltb htk (by rw [hxi, hyi, hxy])⟩
      · omega
    · (repeat (first | refine Run.seq ?_ | refine Run.reg ?_ | refine Run.skip ?_ | refine Run.block ?_ | refine Run.endB ?_ | refine Run.opE rfl ?_ | (apply Run.op0 rfl; (· (simp -implicitDefEqProofs [hxy]; exact ⟨rfl, rfl⟩))) | (apply Run.opA rfl; (· (simp -implicitDefEqProofs [hxy]; done)); (· (simp -implicitDefEqProofs [hxy]; exact ⟨rfl, rfl⟩))) | (apply Run.opN rfl; (· (simp -implicitDefEqProofs [hxy]; done))) | (refine Run.condT ?_ ?_; (· (simp -implicitDefEqProofs [hxy]; done))) | (refine Run.condF ?_ ?_; (· (simp -implicitDefEqProofs [hxy]; done))) | refine Run.exit rfl ?_))
      refine Run.retI Try.func18 r18_ok trivial (by simp -implicitDefEqProofs [r18]; rfl) (by simp ) ?_ (by simp -implicitDefEqProofs ) (by simp -implicitDefEqProofs )
      have : ¬ a = b := by rintro rfl; rw [hxi] at hyi; exact hxy hyi
      simp [this]
  · have : i = a.length := by omega
    subst this
    (repeat (first | refine Run.seq ?_ | refine Run.reg ?_ | refine Run.skip ?_ | refine Run.block ?_ | refine Run.endB ?_ | refine Run.opE rfl ?_ | (apply Run.op0 rfl; (· (simp -implicitDefEqProofs; exact ⟨rfl, rfl⟩))) | (apply Run.opA rfl; (· (simp -implicitDefEqProofs; done)); (· (simp -implicitDefEqProofs; exact ⟨rfl, rfl⟩))) | (apply Run.opN rfl; (· (simp -implicitDefEqProofs; done))) | (refine Run.condT ?_ ?_; (· (simp -implicitDefEqProofs; done))) | (refine Run.condF ?_ ?_; (· (simp -implicitDefEqProofs; done))) | refine Run.exit rfl ?_))
    refine Run.retI Try.func18 r18_ok trivial (by simp -implicitDefEqProofs [r18]; rfl) (by simp ) ?_ (by simp -implicitDefEqProofs ) (by simp -implicitDefEqProofs )
    have : a = b := by rw [List.take_length, List.take_of_length_le (by omega)] at htk; exact htk
    simp [this]
theorem sameP_at (a b : List (Bs × Bs)) (hl : a.length ≤ 4611686018427387904) (H : List O) : Tri Try.prog 18 [.vs (a.map encP) 2, .vs (b.map encP) 2] H (fun v H' => v = .bool (decide (a = b)) ∧ H' = H) := (sameP_tri a b hl).at rfl rfl H

end Go.Proofs.Ytphpkigfmmanhaa
