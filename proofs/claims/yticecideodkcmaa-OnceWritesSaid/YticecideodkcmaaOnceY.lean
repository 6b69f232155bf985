/-
  Layer 14, part Y: the document's Of is the same; there and back.
-/
import Derived.Test.YticecideodkcmaaOnceX
namespace Go.Proofs.Yticecideodkcmaa
open Sx Go
set_option maxRecDepth 100000
set_option linter.unusedSimpArgs false
set_option linter.unusedVariables false
set_option linter.unnecessarySimpa false
attribute [local simp] guardB isCall opStep Opd.ev put readAt aBin aUn args0 V.celled V.ones V.one V.cells putAt bounds bound1 elemsOf srcOf appendV fillAt fillEl V.pures V.pure unwind evs ARes.ev mkRes V.ren V.renL O.ren eqCells eq1 aEq aMM hasTy hasTyN okTy mmGo Known HLe OLe VsLe.refl VLe.refl Stay VsLe V.frz V.frzL O.frz fr clearV rn KnownR Objs OLeO ObjsE nm back setAll ren_ite take_map_len List.take_of_length_le
attribute [local simp ↓] upd_app tl_cons tl_nil
attribute [local simp] encS_ren encS_ones

def lastC : List Seen → Int → Int
  | [], k => k
  | x :: l, _ => lastC l x.client
theorem okGo_append : ∀ (a b : List Seen) (k : Int), okGo (a ++ b) k = (okGo a k && okGo b (lastC a k))
  | [], b, k => by simp [okGo, lastC]
  | x :: a, b, k => by simp only [List.cons_append, okGo, lastC, okGo_append a b, Bool.and_assoc]
theorem lastC_snoc : ∀ (a : List Seen) (x : Seen) (k : Int), lastC (a ++ [x]) k = x.client
  | [], x, k => rfl
  | y :: a, x, k => by simp only [List.cons_append, lastC, lastC_snoc a]

theorem one_key {p : Bs × Bs} {x : Seen} (h : oneM p = some x) : ∃ c : UInt8, p.1 = [116, c] ∧ x.client = (c.toNat : Int) - 48 := by
  obtain ⟨key, val⟩ := p
  match key, h with
  | [t, c], h =>
    simp only [oneM] at h
    by_cases ht : t = 116
    · subst ht
      refine ⟨c, rfl, ?_⟩
      rw [if_pos rfl] at h
      unfold triple at h
      split at h
      · split at h
        · cases h; rfl
        · cases h
      · cases h
    · rw [if_neg ht] at h; cases h
  | [], h => cases h
  | [_], h => cases h
  | _ :: _ :: _ :: _, h => cases h
theorem rone_one {p : Bs × Bs} {x : Seen} (h : roneM p = some x) : oneM p = some x ∧ mayB x = true := by
  unfold roneM at h
  split at h
  · rename_i y hy
    split at h
    · rename_i hm; cases h; exact ⟨hy, hm⟩
    · cases h
  · cases h

theorem rone_at (p : Bs × Bs) (hl : p.2.length ≤ 1000000) (H : List O) : Tri Try.prog 33 [.agg (encP p)] H (fun v H' => (∃ y b, v = .tup [.agg (encS y), .bool b] ∧ (b = true → roneM p = some y) ∧ (b = false → roneM p = none)) ∧ H' = H) :=
  Tri.any (rone_tri p hl) (by rintro v ρ ⟨y, b, rfl, -⟩; simp) (by simp [encP]) H

/-- going on from what there is -/
def OfSt (l : List (Bs × Bs)) (i : Nat) (o : List Seen) : Prop :=
  ofGo l = (ofGo (l.drop i)).map (o ++ ·) ∧ okGo o (-1) = true ∧ (i = 0 → o = []) ∧ (∀ p, 0 < i → l[i - 1]? = some p → ∃ c : UInt8, p.1 = [116, c] ∧ lastC o (-1) = (c.toNat : Int) - 48)

theorem OfSt.zero (l) : OfSt l 0 [] := ⟨by simp, rfl, fun _ => rfl, fun p h => absurd h (by omega)⟩
theorem less2 (c d : UInt8) : Op.bytesLess [116, c] [116, d] = decide (c.toNat < d.toNat) := by
  have h : (116 : UInt8) < 116 ↔ False := by decide
  simp [Op.bytesLess, h, UInt8.lt_iff_toNat_lt]
theorem OfSt.nope {l i o p} (h : OfSt l i o) (hd : l.drop i = p :: l.drop (i + 1)) (hr : roneM p = none) : ofM l = ([], 1) := by
  obtain ⟨h1, h2, -, -⟩ := h
  rw [hd, ofGo] at h1
  unfold roneM at hr
  unfold ofM
  rw [h1]
  cases hp : oneM p with
  | none => simp
  | some x =>
    rw [hp] at hr
    simp only at hr ⊢
    have hm : ¬ mayB x = true := fun h => by rw [if_pos h] at hr; cases hr
    cases hx : ofGo (l.drop (i + 1)) with
    | none => simp
    | some r => simp [okGo_append, okGo, hm]
theorem OfSt.bad {l i o p q x} (h : OfSt l i o) (hd : l.drop i = p :: l.drop (i + 1)) (hr : roneM p = some x) (hi : 0 < i) (hq : l[i - 1]? = some q) (hb : Op.bytesLess q.1 p.1 = false) : ofM l = ([], 1) := by
  obtain ⟨h1, h2, -, h4⟩ := h
  obtain ⟨ho, hm⟩ := rone_one hr
  obtain ⟨c, hc, hcx⟩ := one_key ho
  obtain ⟨c', hc', hcl⟩ := h4 q hi hq
  rw [hc, hc', less2, decide_eq_false_iff_not] at hb
  rw [hd, ofGo, ho] at h1
  unfold ofM
  rw [h1]
  cases hx : ofGo (l.drop (i + 1)) with
  | none => simp
  | some r =>
    have : ¬ lastC o (-1) < x.client := by omega
    simp [okGo_append, okGo, this]
theorem OfSt.next {l i o p x} (h : OfSt l i o) (hp : l[i]? = some p) (hd : l.drop i = p :: l.drop (i + 1)) (hr : roneM p = some x) (hb : 0 < i → ∀ q, l[i - 1]? = some q → Op.bytesLess q.1 p.1 = true) : OfSt l (i + 1) (o ++ [x]) := by
  obtain ⟨h1, h2, h3, h4⟩ := h
  obtain ⟨ho, hm⟩ := rone_one hr
  obtain ⟨c, hc, hcx⟩ := one_key ho
  have hmb := mayB_spec hm
  refine ⟨?_, ?_, by omega, ?_⟩
  · rw [h1, hd, ofGo, ho]
    simp only [Option.map_map]
    congr 1; funext r; simp
  · rw [okGo_append, h2]
    simp only [okGo, hm, Bool.and_true, Bool.true_and, decide_eq_true_eq]
    by_cases hi : i = 0
    · rw [h3 hi]; simp only [lastC]; omega
    · have hlt : i < l.length := (List.getElem?_eq_some_iff.1 hp).1
      have hq : l[i - 1]? = some l[i - 1] := List.getElem?_eq_getElem (by omega)
      obtain ⟨c', hc', hcl⟩ := h4 _ (by omega) hq
      have := hb (by omega) _ hq
      rw [hc, hc', less2, decide_eq_true_eq] at this
      omega
  · intro q _ hq
    simp only [Nat.add_sub_cancel] at hq
    rw [hp] at hq; cases hq
    exact ⟨c, hc, by rw [lastC_snoc, hcx]⟩
theorem OfSt.fin {l o} (h : OfSt l l.length o) : ofM l = (o, 0) := by
  obtain ⟨h1, h2, -, -⟩ := h
  unfold ofM
  rw [h1]; simp [ofGo, h2]

theorem rof_tri (l : List (Bs × Bs)) (hll : l.length ≤ 1000) (hl : ∀ p ∈ l, p.2.length ≤ 1000000) : Tri Try.prog 22 [.vs (l.map encP) 2] [] (fun v H => v = .tup [.vs ((ofM l).1.map encS) 7, .int .i64 (ofM l).2] ∧ H = []) := by
  refine Tri.of_run' Try.func22 rfl c22_ok (by simp [Try.ntmps22]) ?_
  have hbad : ∀ {k t h}, AtEnd k → ofM l = ([], 1) → t 2 = .nils → t 3 = .int .i64 1 → Run ⟨Try.prog, 22, Try.f22.ntmps, [], fun v H => v = .tup [.vs ((ofM l).1.map encS) 7, .int .i64 (ofM l).2] ∧ H = []⟩ ⟨k, t, h⟩ := by
    intro k t h hk hM h2 h3
    refine Run.mv [] [(2, .vs [] 7), (3, .int .i64 1)] [] (by rfl) (by decide) (by simp [h2, h3, VLe.nils]) (by simp) ?_
    refine Run.retI Try.func22 r22_ok hk (by simp [r22]; rfl) (by simp) ?_ (by simp) (by simp)
    simp [hM]
  (repeat (first | refine Run.seq ?_ | refine Run.reg ?_ | refine Run.skip ?_ | refine Run.block ?_ | refine Run.endB ?_ | refine Run.opE rfl ?_ | (apply Run.op0 rfl; (· (simp -implicitDefEqProofs; exact ⟨rfl, rfl⟩))) | (apply Run.opA rfl; (· (simp -implicitDefEqProofs; done)); (· (simp -implicitDefEqProofs; exact ⟨rfl, rfl⟩))) | (apply Run.opN rfl; (· (simp -implicitDefEqProofs; done))) | (refine Run.condT ?_ ?_; (· (simp -implicitDefEqProofs; done))) | (refine Run.condF ?_ ?_; (· (simp -implicitDefEqProofs; done))) | refine Run.exit rfl ?_))
  refine Run.nilA 4 7 (by simp) ?_
  refine Run.loopC [0] (fun (a : Nat × List Seen) => ([(0, .vs (l.map encP) 2), (4, .sl 0 0 a.2.length 7 none), (5, .int .i64 a.1)], [.arr (a.2.map encS) 7]))
    (fun a => a.1 ≤ l.length ∧ a.2.length ≤ a.1 ∧ OfSt l a.1 a.2) (fun a => l.length - a.1) (0, []) ⟨by simp, by simp, OfSt.zero l⟩ (by rfl) (by decide) (by simp) (by simp) ?_
  rintro ⟨i, o⟩ ⟨hi, ho, hst⟩ ih
  simp only at hi ho hst ih ⊢
  by_cases hlt : i < l.length
  · obtain ⟨p, hp, hpi, hdrop, hmem⟩ := getL hlt
    have hw := wrap_small (n := (i : Int) + 1) (by omega) (by omega)
    have hval := hl _ hmem
    have hone := rone_at p hval
    simp only [encP] at hone
    (repeat (first | refine Run.seq ?_ | refine Run.reg ?_ | refine Run.skip ?_ | refine Run.block ?_ | refine Run.endB ?_ | refine Run.opE rfl ?_ | (apply Run.op0 rfl; (· (simp -implicitDefEqProofs [hlt, hp, hpi, encP]; exact ⟨rfl, rfl⟩))) | (apply Run.opA rfl; (· (simp -implicitDefEqProofs [hlt, hp, hpi, encP]; done)); (· (simp -implicitDefEqProofs [hlt, hp, hpi, encP]; exact ⟨rfl, rfl⟩))) | (apply Run.opN rfl; (· (simp -implicitDefEqProofs [hlt, hp, hpi, encP]; done))) | (refine Run.condT ?_ ?_; (· (simp -implicitDefEqProofs [hlt, hp, hpi, encP]; done))) | (refine Run.condF ?_ ?_; (· (simp -implicitDefEqProofs [hlt, hp, hpi, encP]; done))) | refine Run.exit rfl ?_))
    refine Run.opC rfl rfl rfl (hone _) ?_
    rintro v h' ⟨⟨y, b, rfl, hb1, hb2⟩, rfl⟩
    (repeat (first | refine Run.seq ?_ | refine Run.reg ?_ | refine Run.skip ?_ | refine Run.block ?_ | refine Run.endB ?_ | refine Run.opE rfl ?_ | (apply Run.op0 rfl; (· (simp -implicitDefEqProofs [encS_take, encS_len]; exact ⟨rfl, rfl⟩))) | (apply Run.opA rfl; (· (simp -implicitDefEqProofs [encS_take, encS_len]; done)); (· (simp -implicitDefEqProofs [encS_take, encS_len]; exact ⟨rfl, rfl⟩))) | (apply Run.opN rfl; (· (simp -implicitDefEqProofs [encS_take, encS_len]; done))) | (refine Run.condT ?_ ?_; (· (simp -implicitDefEqProofs [encS_take, encS_len]; done))) | (refine Run.condF ?_ ?_; (· (simp -implicitDefEqProofs [encS_take, encS_len]; done))) | refine Run.exit rfl ?_))
    cases b with
    | false =>
      have hM := hst.nope hdrop (hb2 rfl)
      refine Run.quietM prog_mixed (by kernel_rfl) [0, 1] [(0, .vs (l.map encP) 2), (4, .sl 0 0 o.length 7 none), (5, .int .i64 i), (41, .bool true)] [.arr (o.map encS) 7, .row (encS y)] (by rfl) (by decide) ?_ ?_
      · (repeat (first | refine execQ_E rfl ?_ | (apply execQ_0 rfl; (· rfl); (· (simp -implicitDefEqProofs; exact ⟨rfl, rfl⟩))) | (apply execQ_A rfl; (· (simp -implicitDefEqProofs; done)); (· rfl); (· (simp -implicitDefEqProofs; exact ⟨rfl, rfl⟩))) | (apply execQ_N rfl; (· (simp -implicitDefEqProofs; done)))))
        simp [encS_take]
      (repeat (first | refine Run.seq ?_ | refine Run.reg ?_ | refine Run.skip ?_ | refine Run.block ?_ | refine Run.endB ?_ | refine Run.opE rfl ?_ | (apply Run.op0 rfl; (· (simp -implicitDefEqProofs; exact ⟨rfl, rfl⟩))) | (apply Run.opA rfl; (· (simp -implicitDefEqProofs; done)); (· (simp -implicitDefEqProofs; exact ⟨rfl, rfl⟩))) | (apply Run.opN rfl; (· (simp -implicitDefEqProofs; done))) | (refine Run.condT ?_ ?_; (· (simp -implicitDefEqProofs; done))) | (refine Run.condF ?_ ?_; (· (simp -implicitDefEqProofs; done))) | refine Run.exit rfl ?_))
      exact hbad trivial hM (by simp) (by simp)
    | true =>
      have hr := hb1 rfl
      have hbb : (o.length + 1) * 88 ≤ 70368744177664 := by omega
      by_cases hi0 : i = 0
      · subst hi0
        refine Run.quietM prog_mixed (by kernel_rfl) [0, 1] [(0, .vs (l.map encP) 2), (4, .sl 0 0 o.length 7 none), (5, .int .i64 0), (6, .ptr 1 0), (41, .bool false)] [.arr (o.map encS) 7, .row (encS y)] (by rfl) (by decide) ?_ ?_
        · (repeat (first | refine execQ_E rfl ?_ | (apply execQ_0 rfl; (· rfl); (· (simp -implicitDefEqProofs; exact ⟨rfl, rfl⟩))) | (apply execQ_A rfl; (· (simp -implicitDefEqProofs; done)); (· rfl); (· (simp -implicitDefEqProofs; exact ⟨rfl, rfl⟩))) | (apply execQ_N rfl; (· (simp -implicitDefEqProofs; done)))))
          simp [encS_take]
        (repeat (first | refine Run.seq ?_ | refine Run.reg ?_ | refine Run.skip ?_ | refine Run.block ?_ | refine Run.endB ?_ | refine Run.opE rfl ?_ | (apply Run.op0 rfl; (· (simp -implicitDefEqProofs [encS, encR, hbb]; exact ⟨rfl, rfl⟩))) | (apply Run.opA rfl; (· (simp -implicitDefEqProofs [encS, encR, hbb]; done)); (· (simp -implicitDefEqProofs [encS, encR, hbb]; exact ⟨rfl, rfl⟩))) | (apply Run.opN rfl; (· (simp -implicitDefEqProofs [encS, encR, hbb]; done))) | (refine Run.condT ?_ ?_; (· (simp -implicitDefEqProofs [encS, encR, hbb]; done))) | (refine Run.condF ?_ ?_; (· (simp -implicitDefEqProofs [encS, encR, hbb]; done))) | refine Run.exit rfl ?_))
        refine Run.mv [3] _ _ (by rfl) (by decide) (by simp -implicitDefEqProofs [wrap_small (n := 1) (by omega) (by omega), encS, encR]) (by simp -implicitDefEqProofs [wrap_small (n := 1) (by omega) (by omega), encS, encR]) (ih ((0 + 1, o ++ [y])) ?_ ?_)
        · exact ⟨by simp only; omega, by simp only [List.length_append, List.length_cons, List.length_nil]; omega, hst.next hp hdrop hr (fun h => absurd h (by omega))⟩
        · simp only; omega
      · have hi0' : (0 : Int) < i := by omega
        have hi0n : 0 < i := by omega
        obtain ⟨q, hq, hqi, -, -⟩ := getL (l := l) (i := i - 1) (by omega)
        have hw1 : IntKind.i64.wrap ((i : Int) - 1) = ((i - 1 : Nat) : Int) := by rw [wrap_small (by omega) (by omega)]; omega
        have hlt1 : i - 1 < l.length := by omega
        by_cases hbl : Op.bytesLess q.1 p.1 = true
        · refine Run.quietM prog_mixed (by kernel_rfl) [0, 1] [(0, .vs (l.map encP) 2), (4, .sl 0 0 o.length 7 none), (5, .int .i64 i), (6, .ptr 1 0), (41, .bool false)] [.arr (o.map encS) 7, .row (encS y)] (by rfl) (by decide) ?_ ?_
          · (repeat (first | refine execQ_E rfl ?_ | (apply execQ_0 rfl; (· rfl); (· (simp -implicitDefEqProofs [hi0', hi0n, hw1, hlt1, hq, hqi, hlt, hp, hpi, encP, hbl]; exact ⟨rfl, rfl⟩))) | (apply execQ_A rfl; (· (simp -implicitDefEqProofs [hi0', hi0n, hw1, hlt1, hq, hqi, hlt, hp, hpi, encP, hbl]; done)); (· rfl); (· (simp -implicitDefEqProofs [hi0', hi0n, hw1, hlt1, hq, hqi, hlt, hp, hpi, encP, hbl]; exact ⟨rfl, rfl⟩))) | (apply execQ_N rfl; (· (simp -implicitDefEqProofs [hi0', hi0n, hw1, hlt1, hq, hqi, hlt, hp, hpi, encP, hbl]; done)))))
            simp [encS_take]
          (repeat (first | refine Run.seq ?_ | refine Run.reg ?_ | refine Run.skip ?_ | refine Run.block ?_ | refine Run.endB ?_ | refine Run.opE rfl ?_ | (apply Run.op0 rfl; (· (simp -implicitDefEqProofs [encS, encR, hbb]; exact ⟨rfl, rfl⟩))) | (apply Run.opA rfl; (· (simp -implicitDefEqProofs [encS, encR, hbb]; done)); (· (simp -implicitDefEqProofs [encS, encR, hbb]; exact ⟨rfl, rfl⟩))) | (apply Run.opN rfl; (· (simp -implicitDefEqProofs [encS, encR, hbb]; done))) | (refine Run.condT ?_ ?_; (· (simp -implicitDefEqProofs [encS, encR, hbb]; done))) | (refine Run.condF ?_ ?_; (· (simp -implicitDefEqProofs [encS, encR, hbb]; done))) | refine Run.exit rfl ?_))
          refine Run.mv [3] _ _ (by rfl) (by decide) (by simp -implicitDefEqProofs [hw, encS, encR]) (by simp -implicitDefEqProofs [hw, encS, encR]) (ih ((i + 1, o ++ [y])) ?_ ?_)
          · exact ⟨by simp only; omega, by simp only [List.length_append, List.length_cons, List.length_nil]; omega, hst.next hp hdrop hr (fun _ q' hq' => by rw [hq] at hq'; cases hq'; exact hbl)⟩
          · simp only; omega
        · have hbl' : Op.bytesLess q.1 p.1 = false := by simpa using hbl
          have hM := hst.bad hdrop hr (by omega) hq hbl'
          refine Run.quietM prog_mixed (by kernel_rfl) [0, 1] [(0, .vs (l.map encP) 2), (4, .sl 0 0 o.length 7 none), (5, .int .i64 i), (41, .bool true)] [.arr (o.map encS) 7, .row (encS y)] (by rfl) (by decide) ?_ ?_
          · (repeat (first | refine execQ_E rfl ?_ | (apply execQ_0 rfl; (· rfl); (· (simp -implicitDefEqProofs [hi0', hi0n, hw1, hlt1, hq, hqi, hlt, hp, hpi, encP, hbl']; exact ⟨rfl, rfl⟩))) | (apply execQ_A rfl; (· (simp -implicitDefEqProofs [hi0', hi0n, hw1, hlt1, hq, hqi, hlt, hp, hpi, encP, hbl']; done)); (· rfl); (· (simp -implicitDefEqProofs [hi0', hi0n, hw1, hlt1, hq, hqi, hlt, hp, hpi, encP, hbl']; exact ⟨rfl, rfl⟩))) | (apply execQ_N rfl; (· (simp -implicitDefEqProofs [hi0', hi0n, hw1, hlt1, hq, hqi, hlt, hp, hpi, encP, hbl']; done)))))
            simp [encS_take]
          (repeat (first | refine Run.seq ?_ | refine Run.reg ?_ | refine Run.skip ?_ | refine Run.block ?_ | refine Run.endB ?_ | refine Run.opE rfl ?_ | (apply Run.op0 rfl; (· (simp -implicitDefEqProofs; exact ⟨rfl, rfl⟩))) | (apply Run.opA rfl; (· (simp -implicitDefEqProofs; done)); (· (simp -implicitDefEqProofs; exact ⟨rfl, rfl⟩))) | (apply Run.opN rfl; (· (simp -implicitDefEqProofs; done))) | (refine Run.condT ?_ ?_; (· (simp -implicitDefEqProofs; done))) | (refine Run.condF ?_ ?_; (· (simp -implicitDefEqProofs; done))) | refine Run.exit rfl ?_))
          exact hbad trivial hM (by simp) (by simp)
  · have : i = l.length := by omega
    subst this
    have hM := hst.fin
    (repeat (first | refine Run.seq ?_ | refine Run.reg ?_ | refine Run.skip ?_ | refine Run.block ?_ | refine Run.endB ?_ | refine Run.opE rfl ?_ | (apply Run.op0 rfl; (· (simp -implicitDefEqProofs; exact ⟨rfl, rfl⟩))) | (apply Run.opA rfl; (· (simp -implicitDefEqProofs; done)); (· (simp -implicitDefEqProofs; exact ⟨rfl, rfl⟩))) | (apply Run.opN rfl; (· (simp -implicitDefEqProofs; done))) | (refine Run.condT ?_ ?_; (· (simp -implicitDefEqProofs; done))) | (refine Run.condF ?_ ?_; (· (simp -implicitDefEqProofs; done))) | refine Run.exit rfl ?_))
    refine Run.freeze 0 (es := o.map encS) (sz := 7) (by simp) ?_
    refine Run.mv [] [(2, .vs (o.map encS) 7), (3, .int .i64 0)] [] (by rfl) (by decide) (by simp -implicitDefEqProofs) (by simp -implicitDefEqProofs) ?_
    refine Run.retI Try.func22 r22_ok trivial (by simp -implicitDefEqProofs [r22]; rfl) (by simp ) ?_ (by simp -implicitDefEqProofs ) (by simp -implicitDefEqProofs )
    simp [hM]

end Go.Proofs.Yticecideodkcmaa
