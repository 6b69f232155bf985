/-
  Layer 07: what is gone over, where one thing more is kept; numbers that are the same.
-/
import Derived.Test.YtoopckhogehdmaaSorXb
namespace Go.Proofs.Ytoopckhogehdmaa
open Sx Go
set_option maxRecDepth 100000
set_option linter.unusedSimpArgs false
set_option linter.unusedVariables false
set_option linter.unnecessarySimpa false
attribute [local simp] boundsC appendG appendO copyV srcC guardB isCall opStep Opd.ev put readAt aBin aUn args0 V.celled V.ones V.one V.cells putAt bounds bound1 elemsOf srcOf appendV fillAt fillEl V.pures V.pure unwind evs ARes.ev mkRes V.ren V.renL O.ren eqCells eq1 aEq aMM hasTy hasTyN okTy mmGo Known HLe OLe VsLe.refl VLe.refl VLe.cap Stay VsLe V.frz V.frzL O.frz fr clearV rn KnownR Objs OLeO ObjsE nm back setAll ren_ite take_map_len List.take_of_length_le
attribute [local simp ↓] upd_app tl_cons tl_nil
attribute [local simp] encItI_ren encItI_ones encItI_len encItI_take encItS_ren encItS_ones encItS_len encItS_take encS_ren encS_ones encS_len encS_take
attribute [local simp] encI_ren encI_ones encI_len encI_take

theorem sameI_tri (a b : List Int) (hl : a.length ≤ 4611686018427387904) : Tri Try.prog 12 [.vs (a.map encI) 1, .vs (b.map encI) 1] [] (fun v H => v = .bool (decide (a = b)) ∧ H = []) := by
  refine Tri.of_run' Try.func12 rfl c12_ok (by simp [Try.ntmps12]) ?_
  by_cases hlen : a.length = b.length
  rotate_left
  · have hlen' : ¬ (a.length : Int) = b.length := by omega
    have hne : ¬ a = b := fun h => hlen (by rw [h])
    (repeat (first | refine Run.seq ?_ | refine Run.reg ?_ | refine Run.skip ?_ | refine Run.block ?_ | refine Run.endB ?_ | refine Run.opE rfl ?_ | (apply Run.op0 rfl; (· (simp -implicitDefEqProofs [hlen, hlen']; exact ⟨rfl, rfl⟩))) | (apply Run.opA rfl; (· (simp -implicitDefEqProofs [hlen, hlen']; done)); (· (simp -implicitDefEqProofs [hlen, hlen']; exact ⟨rfl, rfl⟩))) | (apply Run.opN rfl; (· (simp -implicitDefEqProofs [hlen, hlen']; done))) | (refine Run.condT ?_ ?_; (· (simp -implicitDefEqProofs [hlen, hlen']; done))) | (refine Run.condF ?_ ?_; (· (simp -implicitDefEqProofs [hlen, hlen']; done))) | refine Run.exit rfl ?_))
    refine Run.retI Try.func12 r12_ok trivial (by simp -implicitDefEqProofs [r12]; rfl) (by simp ) ?_ (by simp -implicitDefEqProofs ) (by simp -implicitDefEqProofs )
    simp [hne]
  have hlen' : (a.length : Int) = b.length := by omega
  (repeat (first | refine Run.seq ?_ | refine Run.reg ?_ | refine Run.skip ?_ | refine Run.block ?_ | refine Run.endB ?_ | refine Run.opE rfl ?_ | (apply Run.op0 rfl; (· (simp -implicitDefEqProofs [hlen, hlen']; exact ⟨rfl, rfl⟩))) | (apply Run.opA rfl; (· (simp -implicitDefEqProofs [hlen, hlen']; done)); (· (simp -implicitDefEqProofs [hlen, hlen']; exact ⟨rfl, rfl⟩))) | (apply Run.opN rfl; (· (simp -implicitDefEqProofs [hlen, hlen']; done))) | (refine Run.condT ?_ ?_; (· (simp -implicitDefEqProofs [hlen, hlen']; done))) | (refine Run.condF ?_ ?_; (· (simp -implicitDefEqProofs [hlen, hlen']; done))) | refine Run.exit rfl ?_))
  refine Run.loopC [] (fun (i : Nat) => ([(0, .vs (a.map encI) 1), (1, .vs (b.map encI) 1), (5, .int .i64 i)], [])) (fun i => i ≤ a.length ∧ a.take i = b.take i) (fun i => a.length - i) 0 (by simp) (by rfl) (by decide) (by simp) (by simp) ?_
  rintro i ⟨hi, htk⟩ ih
  by_cases hlt : i < a.length
  · have hltb : i < b.length := by omega
    obtain ⟨x, hx, hxi, -, -⟩ := getL hlt
    obtain ⟨y, hy, hyi, -, -⟩ := getL hltb
    have hw := wrap_small (n := (i : Int) + 1) (by omega) (by omega)
    (repeat (first | refine Run.seq ?_ | refine Run.reg ?_ | refine Run.skip ?_ | refine Run.block ?_ | refine Run.endB ?_ | refine Run.opE rfl ?_ | (apply Run.op0 rfl; (· (simp -implicitDefEqProofs [hlt]; exact ⟨rfl, rfl⟩))) | (apply Run.opA rfl; (· (simp -implicitDefEqProofs [hlt]; done)); (· (simp -implicitDefEqProofs [hlt]; exact ⟨rfl, rfl⟩))) | (apply Run.opN rfl; (· (simp -implicitDefEqProofs [hlt]; done))) | (refine Run.condT ?_ ?_; (· (simp -implicitDefEqProofs [hlt]; done))) | (refine Run.condF ?_ ?_; (· (simp -implicitDefEqProofs [hlt]; done))) | refine Run.exit rfl ?_))
    refine Run.quietM prog_mixed (by kernel_rfl) [] [(0, .vs (a.map encI) 1), (1, .vs (b.map encI) 1), (5, .int .i64 i), (25, .bool (!decide (x = y)))] [] (by rfl) (by decide) ?_ ?_
    · (repeat (first | refine execQ_E rfl ?_ | (apply execQ_0 rfl; (· rfl); (· (simp -implicitDefEqProofs [hlt, hltb, hx, hxi, hy, hyi, encI]; exact ⟨rfl, rfl⟩))) | (apply execQ_A rfl; (· (simp -implicitDefEqProofs [hlt, hltb, hx, hxi, hy, hyi, encI]; done)); (· rfl); (· (simp -implicitDefEqProofs [hlt, hltb, hx, hxi, hy, hyi, encI]; exact ⟨rfl, rfl⟩))) | (apply execQ_N rfl; (· (simp -implicitDefEqProofs [hlt, hltb, hx, hxi, hy, hyi, encI]; done)))))
      simp
    by_cases hxy : x = y
    · (repeat (first | refine Run.seq ?_ | refine Run.reg ?_ | refine Run.skip ?_ | refine Run.block ?_ | refine Run.endB ?_ | refine Run.opE rfl ?_ | (apply Run.op0 rfl; (· (simp -implicitDefEqProofs [hxy]; exact ⟨rfl, rfl⟩))) | (apply Run.opA rfl; (· (simp -implicitDefEqProofs [hxy]; done)); (· (simp -implicitDefEqProofs [hxy]; exact ⟨rfl, rfl⟩))) | (apply Run.opN rfl; (· (simp -implicitDefEqProofs [hxy]; done))) | (refine Run.condT ?_ ?_; (· (simp -implicitDefEqProofs [hxy]; done))) | (refine Run.condF ?_ ?_; (· (simp -implicitDefEqProofs [hxy]; done))) | refine Run.exit rfl ?_))
      refine Run.mv [] _ _ (by rfl) (by decide) (by simp -implicitDefEqProofs [hw]) (by simp -implicitDefEqProofs [hw]) (ih (i + 1) ?_ ?_)
      · exact ⟨by omega, take_eq_drop hlt hltb htk (by rw [hxi, hyi, hxy])⟩
      · omega
    · (repeat (first | refine Run.seq ?_ | refine Run.reg ?_ | refine Run.skip ?_ | refine Run.block ?_ | refine Run.endB ?_ | refine Run.opE rfl ?_ | (apply Run.op0 rfl; (· (simp -implicitDefEqProofs [hxy]; exact ⟨rfl, rfl⟩))) | (apply Run.opA rfl; (· (simp -implicitDefEqProofs [hxy]; done)); (· (simp -implicitDefEqProofs [hxy]; exact ⟨rfl, rfl⟩))) | (apply Run.opN rfl; (· (simp -implicitDefEqProofs [hxy]; done))) | (refine Run.condT ?_ ?_; (· (simp -implicitDefEqProofs [hxy]; done))) | (refine Run.condF ?_ ?_; (· (simp -implicitDefEqProofs [hxy]; done))) | refine Run.exit rfl ?_))
      refine Run.retI Try.func12 r12_ok trivial (by simp -implicitDefEqProofs [r12]; rfl) (by simp ) ?_ (by simp -implicitDefEqProofs ) (by simp -implicitDefEqProofs )
      have : ¬ a = b := by rintro rfl; rw [hxi] at hyi; exact hxy hyi
      simp [this]
  · have : i = a.length := by omega
    subst this
    (repeat (first | refine Run.seq ?_ | refine Run.reg ?_ | refine Run.skip ?_ | refine Run.block ?_ | refine Run.endB ?_ | refine Run.opE rfl ?_ | (apply Run.op0 rfl; (· (simp -implicitDefEqProofs; exact ⟨rfl, rfl⟩))) | (apply Run.opA rfl; (· (simp -implicitDefEqProofs; done)); (· (simp -implicitDefEqProofs; exact ⟨rfl, rfl⟩))) | (apply Run.opN rfl; (· (simp -implicitDefEqProofs; done))) | (refine Run.condT ?_ ?_; (· (simp -implicitDefEqProofs; done))) | (refine Run.condF ?_ ?_; (· (simp -implicitDefEqProofs; done))) | refine Run.exit rfl ?_))
    refine Run.retI Try.func12 r12_ok trivial (by simp -implicitDefEqProofs [r12]; rfl) (by simp ) ?_ (by simp -implicitDefEqProofs ) (by simp -implicitDefEqProofs )
    have : a = b := by rw [List.take_length, List.take_of_length_le (by omega)] at htk; exact htk
    simp [this]
theorem sameI_at (a b : List Int) (hl : a.length ≤ 4611686018427387904) (H : List O) : Tri Try.prog 12 [.vs (a.map encI) 1, .vs (b.map encI) 1] H (fun v H' => v = .bool (decide (a = b)) ∧ H' = H) := (sameI_tri a b hl).at rfl rfl H

/-- the heap where something is gone over -/
def goH (l : List (Bs × Int)) (key : Bs) (X Y A B : O) (L : LoopC) (ts : List (Nat × V)) (T1 T2 : O) : List O :=
  [.row [.bool true, .sl 1 0 l.length 2 none], .arr (l.map encItI) 2, X, Y, A, B, .row [.ptr 0 0], .row [.str key], .loop L ts .ready, T1, T2]
def goR (l : List (Bs × Int)) (key : Bs) (X Y A B : O) (L : LoopC) (ts : List (Nat × V)) (T1 T2 : O) : List O :=
  [.row [.bool true, .sl 1 0 l.length 2 none], .arr (l.map encItI) 2, X, Y, A, B, .row [.ptr 0 0], .row [.str key], .loop L ts .ready, .gone, .gone, T1, T2]

theorem go1_tri (l : List (Bs × Int)) (hl : l.length ≤ 100000) (hr : RiseK l) (key : Bs) (L : LoopC) (ts : List (Nat × V)) {σ : Type} (X Y : O) (A B A' B' T1 T2 : σ → O) (s0 : σ) (h01 : T1 s0 = .gone) (h02 : T2 s0 = .gone)
    (hH : ∀ s, Objs (rn [0, 1, 2, 3, 4, 5, 6, 7, 8, 9, 10]) (goH l key X Y (A s) (B s) L ts (T1 s) (T2 s)) [0, 1, 2, 3, 4, 5, 6, 7, 8, 9, 10] (goH l key X Y (A s) (B s) L ts (T1 s) (T2 s)))
    (hR : ∀ s, Objs (rn [0, 1, 2, 3, 4, 5, 6, 7, 8, 11, 12]) (goR l key X Y (A' s) (B' s) L ts (T1 s) (T2 s)) [0, 1, 2, 3, 4, 5, 6, 7, 8, 11, 12] (goH l key X Y (A s) (B s) L ts (T1 s) (T2 s)))
    (hS : ∀ s, Stay 11 (goH l key X Y (A s) (B s) L ts (T1 s) (T2 s)))
    (nxt : σ → Bs × Int → σ) (I : σ → Prop) (stop : σ → Bs × Int → Bool) (Qd : σ → Bs × Int → List O → Prop) (hQd : ∀ s x H, Qd s x H → 9 ≤ H.length ∧ Stay H.length H) (hI0 : I s0)
    (hround : ∀ s x, (∃ o : List (Bs × Int), o.length < l.length ∧ s = o.foldl nxt s0) → I s → TriY Try.prog 8 [.str x.1, .int .i64 x.2] (goH l key X Y (A s) (B s) L ts (T1 s) (T2 s)) (fun v H' =>
      (stop s x = false ∧ I (nxt s x) ∧ v = .bool true ∧ H' = goR l key X Y (A' (nxt s x)) (B' (nxt s x)) L ts (T1 (nxt s x)) (T2 (nxt s x))) ∨ (stop s x = true ∧ v = .bool false ∧ Qd s x H'))) :
    Tri Try.prog 28 [.yld 8, .ptr 6 0, .ptr 7 0] [.row [.bool true, .sl 1 0 l.length 2 none], .arr (l.map encItI) 2, X, Y, A s0, B s0, .row [.ptr 0 0], .row [.str key], .loop L ts .ready] (fun v H' => v = .tup [] ∧
      ((∃ s, s = (l.drop (lowB l key)).foldl nxt s0 ∧ I s ∧ H' = goH l key X Y (A s) (B s) L ts (T1 s) (T2 s)) ∨
        ∃ o x r, l.drop (lowB l key) = o ++ x :: r ∧ I (o.foldl nxt s0) ∧ stop (o.foldl nxt s0) x = true ∧ Qd (o.foldl nxt s0) x H')) := by
  have hlow := lowB_le l key
  refine Tri.of_run' Try.func28 rfl c28_ok (by simp [Try.ntmps28]) ?_
  refine Run.goneR ?_
  refine Run.goneR ?_
  (repeat (first | refine Run.seq ?_ | refine Run.reg ?_ | refine Run.skip ?_ | refine Run.block ?_ | refine Run.endB ?_ | refine Run.opE rfl ?_ | (apply Run.op0 rfl; (· (simp -implicitDefEqProofs; exact ⟨rfl, rfl⟩))) | (apply Run.opA rfl; (· (simp -implicitDefEqProofs; done)); (· (simp -implicitDefEqProofs; exact ⟨rfl, rfl⟩))) | (apply Run.opN rfl; (· (simp -implicitDefEqProofs; done))) | (refine Run.condT ?_ ?_; (· (simp -implicitDefEqProofs; done))) | (refine Run.condF ?_ ?_; (· (simp -implicitDefEqProofs; done))) | refine Run.exit rfl ?_))
  refine Run.opF [0, 1] (findi_tri l hl hr key) rfl (by simp -implicitDefEqProofs [mapHi]) rfl (by simp -implicitDefEqProofs [mapHi]) (by decide) (by rfl) (by simp -implicitDefEqProofs [mapHi]) ?_
  rintro v0 Hs' ⟨rfl, rfl⟩
  (repeat (first | refine Run.seq ?_ | refine Run.reg ?_ | refine Run.skip ?_ | refine Run.block ?_ | refine Run.endB ?_ | refine Run.opE rfl ?_ | (apply Run.op0 rfl; (· (simp -implicitDefEqProofs; exact ⟨rfl, rfl⟩))) | (apply Run.opA rfl; (· (simp -implicitDefEqProofs; done)); (· (simp -implicitDefEqProofs; exact ⟨rfl, rfl⟩))) | (apply Run.opN rfl; (· (simp -implicitDefEqProofs; done))) | (refine Run.condT ?_ ?_; (· (simp -implicitDefEqProofs; done))) | (refine Run.condF ?_ ?_; (· (simp -implicitDefEqProofs; done))) | refine Run.exit rfl ?_))
  refine Run.loopC [0, 1, 2, 3, 4, 5, 6, 7, 8, 9, 10] (fun (a : Nat × σ) => ([(0, .yld 8), (1, .ptr 6 0), (2, .ptr 7 0), (4, .int .i64 a.1)], goH l key X Y (A a.2) (B a.2) L ts (T1 a.2) (T2 a.2)))
    (fun a => lowB l key ≤ a.1 ∧ a.1 ≤ l.length ∧ I a.2 ∧ a.2 = ((l.drop (lowB l key)).take (a.1 - lowB l key)).foldl nxt s0) (fun a => l.length - a.1) (lowB l key, s0) (by simp [hlow, hI0]) (by rfl) (by decide) (by simp) ?_ ?_
  · have := hH s0
    rw [h01, h02] at this ⊢
    exact this
  rintro ⟨i, s⟩ ⟨hi1, hi2, hI, hs⟩ ih
  simp only at hi1 hi2 hI hs ih ⊢
  unfold goH
  (repeat (first | refine Run.seq ?_ | refine Run.reg ?_ | refine Run.skip ?_ | refine Run.block ?_ | refine Run.endB ?_ | refine Run.opE rfl ?_ | (apply Run.op0 rfl; (· (simp -implicitDefEqProofs; exact ⟨rfl, rfl⟩))) | (apply Run.opA rfl; (· (simp -implicitDefEqProofs; done)); (· (simp -implicitDefEqProofs; exact ⟨rfl, rfl⟩))) | (apply Run.opN rfl; (· (simp -implicitDefEqProofs; done))) | (refine Run.condT ?_ ?_; (· (simp -implicitDefEqProofs; done))) | (refine Run.condF ?_ ?_; (· (simp -implicitDefEqProofs; done))) | refine Run.exit rfl ?_))
  refine Run.opF [0, 1] (len_tri l) rfl (by simp -implicitDefEqProofs [mapHi]) rfl (by simp -implicitDefEqProofs [mapHi]) (by decide) (by rfl) (by simp -implicitDefEqProofs [mapHi]) ?_
  rintro v0 Hs' ⟨rfl, rfl⟩
  by_cases hlt : i < l.length
  · obtain ⟨x, hx, hxi, hxd, -⟩ := getL hlt
    have hlt' : (i : Int) < l.length := by omega
    have hw := wrap_small (n := (i : Int) + 1) (by omega) (by omega)
    (repeat (first | refine Run.seq ?_ | refine Run.reg ?_ | refine Run.skip ?_ | refine Run.block ?_ | refine Run.endB ?_ | refine Run.opE rfl ?_ | (apply Run.op0 rfl; (· (simp -implicitDefEqProofs [hlt', hlt, mapHi]; exact ⟨rfl, rfl⟩))) | (apply Run.opA rfl; (· (simp -implicitDefEqProofs [hlt', hlt, mapHi]; done)); (· (simp -implicitDefEqProofs [hlt', hlt, mapHi]; exact ⟨rfl, rfl⟩))) | (apply Run.opN rfl; (· (simp -implicitDefEqProofs [hlt', hlt, mapHi]; done))) | (refine Run.condT ?_ ?_; (· (simp -implicitDefEqProofs [hlt', hlt, mapHi]; done))) | (refine Run.condF ?_ ?_; (· (simp -implicitDefEqProofs [hlt', hlt, mapHi]; done))) | refine Run.exit rfl ?_))
    refine Run.drawn prog_mixed ?_
    show RunD _ c28d0 [0, 1, 2, 3, 4, 5, 6, 7, 8, 9, 10, 11, 12, 13, 14, 15, 16, 17, 18] [] _ _ _
    refine RunD.flow [0, 1, 2, 3, 4, 5, 6, 7, 8, 9, 10, 11, 12, 13, 14, 15, 16] (by kernel_rfl) (by decide +kernel) (by decide +kernel) (by decide) trivial ?_; (repeat (first | refine execQ_E rfl ?_ | (apply execQ_0 rfl; (· rfl); (· (simp -implicitDefEqProofs [hlt, hlt', hx, hxi, encItI]; exact ⟨rfl, rfl⟩))) | (apply execQ_A rfl; (· (simp -implicitDefEqProofs [hlt, hlt', hx, hxi, encItI]; done)); (· rfl); (· (simp -implicitDefEqProofs [hlt, hlt', hx, hxi, encItI]; exact ⟨rfl, rfl⟩))) | (apply execQ_N rfl; (· (simp -implicitDefEqProofs [hlt, hlt', hx, hxi, encItI]; done))))); intro hpo
    refine RunD.alt1 17 (by kernel_rfl) (by kernel_rfl) hpo ?_
    refine AStep.Y rfl rfl (by simp) (hround s x ⟨(l.drop (lowB l key)).take (i - lowB l key), by simp; omega, hs⟩ hI) ?_
    rintro v H' hcase
    refine RunD.alt1 18 (by kernel_rfl) (by kernel_rfl) (show PendOk _ c28d0 _ _ [] from trivial) ?_
    rcases hcase with ⟨hst, hI2, rfl, rfl⟩ | ⟨hst, rfl, hQ⟩
    · (first | (apply AStep.o0 rfl; (· (simp -implicitDefEqProofs; exact ⟨rfl, rfl⟩))) | (apply AStep.A rfl; (· (simp -implicitDefEqProofs; done)); (· (simp -implicitDefEqProofs; exact ⟨rfl, rfl⟩))) | (apply AStep.N rfl; (· (simp -implicitDefEqProofs; done))))
      refine RunD.fin (by kernel_rfl) (show PendOk _ c28d0 _ _ [] from trivial) ?_
      (repeat (first | refine Run.seq ?_ | refine Run.reg ?_ | refine Run.skip ?_ | refine Run.block ?_ | refine Run.endB ?_ | refine Run.opE rfl ?_ | (apply Run.op0 rfl; (· (simp -implicitDefEqProofs; exact ⟨rfl, rfl⟩))) | (apply Run.opA rfl; (· (simp -implicitDefEqProofs; done)); (· (simp -implicitDefEqProofs; exact ⟨rfl, rfl⟩))) | (apply Run.opN rfl; (· (simp -implicitDefEqProofs; done))) | (refine Run.condT ?_ ?_; (· (simp -implicitDefEqProofs; done))) | (refine Run.condF ?_ ?_; (· (simp -implicitDefEqProofs; done))) | refine Run.exit rfl ?_))
      refine Run.mv [0, 1, 2, 3, 4, 5, 6, 7, 8, 11, 12] _ _ (by rfl) (by decide) (by simp [hw]) (hR _) (ih (i + 1, nxt s x) ?_ ?_)
      · refine ⟨by simp only; omega, by simp only; omega, hI2, ?_⟩
        simp only
        have e1 : i + 1 - lowB l key = (i - lowB l key) + 1 := by omega
        have e2 : (l.drop (lowB l key))[i - lowB l key]? = some x := by rw [List.getElem?_drop, ← hx]; congr 1; omega
        rw [e1, List.take_add_one, e2, List.foldl_append, ← hs]; rfl
      · simp only; omega
    · (first | (apply AStep.o0 rfl; (· (simp -implicitDefEqProofs; exact ⟨rfl, rfl⟩))) | (apply AStep.A rfl; (· (simp -implicitDefEqProofs; done)); (· (simp -implicitDefEqProofs; exact ⟨rfl, rfl⟩))) | (apply AStep.N rfl; (· (simp -implicitDefEqProofs; done))))
      refine RunD.fin (by kernel_rfl) (show PendOk _ c28d0 _ _ [] from trivial) ?_
      obtain ⟨hQ1, hQ2⟩ := hQd _ _ _ hQ
      (repeat (first | refine Run.seq ?_ | refine Run.reg ?_ | refine Run.skip ?_ | refine Run.block ?_ | refine Run.endB ?_ | refine Run.opE rfl ?_ | (apply Run.op0 rfl; (· (simp -implicitDefEqProofs; exact ⟨rfl, rfl⟩))) | (apply Run.opA rfl; (· (simp -implicitDefEqProofs; done)); (· (simp -implicitDefEqProofs; exact ⟨rfl, rfl⟩))) | (apply Run.opN rfl; (· (simp -implicitDefEqProofs; done))) | (refine Run.condT ?_ ?_; (· (simp -implicitDefEqProofs; done))) | (refine Run.condF ?_ ?_; (· (simp -implicitDefEqProofs; done))) | refine Run.exit rfl ?_))
      refine Run.retI Try.func28 r28_ok trivial (by simp [r28]; rfl) hQ1 ?_ hQ2 (by simp)
      rw [hs] at hI hst hQ
      refine ⟨rfl, .inr ⟨(l.drop (lowB l key)).take (i - lowB l key), x, l.drop (i + 1), ?_, hI, hst, hQ⟩⟩
      rw [← hxd]
      have e1 := List.take_append_drop (i - lowB l key) (l.drop (lowB l key))
      rw [List.drop_drop] at e1
      rw [show lowB l key + (i - lowB l key) = i by omega] at e1
      exact e1.symm
  · have hlt' : ¬ (i : Int) < l.length := by omega
    have hil : i = l.length := by omega
    (repeat (first | refine Run.seq ?_ | refine Run.reg ?_ | refine Run.skip ?_ | refine Run.block ?_ | refine Run.endB ?_ | refine Run.opE rfl ?_ | (apply Run.op0 rfl; (· (simp -implicitDefEqProofs [hlt', hlt, mapHi]; exact ⟨rfl, rfl⟩))) | (apply Run.opA rfl; (· (simp -implicitDefEqProofs [hlt', hlt, mapHi]; done)); (· (simp -implicitDefEqProofs [hlt', hlt, mapHi]; exact ⟨rfl, rfl⟩))) | (apply Run.opN rfl; (· (simp -implicitDefEqProofs [hlt', hlt, mapHi]; done))) | (refine Run.condT ?_ ?_; (· (simp -implicitDefEqProofs [hlt', hlt, mapHi]; done))) | (refine Run.condF ?_ ?_; (· (simp -implicitDefEqProofs [hlt', hlt, mapHi]; done))) | refine Run.exit rfl ?_))
    refine Run.retI Try.func28 r28_ok trivial (by simp [r28]; rfl) (by simp) ?_ (hS s) (by simp)
    refine ⟨rfl, .inl ⟨s, ?_, hI, rfl⟩⟩
    rw [hs, List.take_of_length_le (by simp; omega)]

end Go.Proofs.Ytoopckhogehdmaa
