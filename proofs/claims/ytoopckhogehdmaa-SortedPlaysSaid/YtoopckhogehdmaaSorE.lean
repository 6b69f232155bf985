/-
  Layer 07, part E: how many, the first; going over keys from one on.
-/
import Derived.Test.YtoopckhogehdmaaSorDs
namespace Go.Proofs.Ytoopckhogehdmaa
open Sx Go
set_option maxRecDepth 100000
set_option linter.unusedSimpArgs false
set_option linter.unusedVariables false
set_option linter.unnecessarySimpa false
attribute [local simp] boundsC appendG appendO copyV srcC guardB isCall opStep Opd.ev put readAt aBin aUn args0 V.celled V.ones V.one V.cells putAt bounds bound1 elemsOf srcOf appendV fillAt fillEl V.pures V.pure unwind evs ARes.ev mkRes V.ren V.renL O.ren eqCells eq1 aEq aMM hasTy hasTyN okTy mmGo Known HLe OLe VsLe.refl VLe.refl VLe.cap Stay VsLe V.frz V.frzL O.frz fr clearV rn KnownR Objs OLeO ObjsE nm back setAll ren_ite take_map_len List.take_of_length_le
attribute [local simp ↓] upd_app tl_cons tl_nil
attribute [local simp] encItI_ren encItI_ones encItI_len encItI_take

theorem len_tri (l : List (Bs × Int)) : Tri Try.prog 15 [.ptr 0 0] (mapHi l) (fun v H => v = .int .i64 l.length ∧ H = mapHi l) := by
  unfold mapHi
  refine Tri.of_run' Try.func15 rfl c15_ok (by simp [Try.ntmps15]) ?_
  (repeat (first | refine Run.seq ?_ | refine Run.reg ?_ | refine Run.skip ?_ | refine Run.block ?_ | refine Run.endB ?_ | refine Run.opE rfl ?_ | (apply Run.op0 rfl; (· (simp -implicitDefEqProofs; exact ⟨rfl, rfl⟩))) | (apply Run.opA rfl; (· (simp -implicitDefEqProofs; done)); (· (simp -implicitDefEqProofs; exact ⟨rfl, rfl⟩))) | (apply Run.opN rfl; (· (simp -implicitDefEqProofs; done))) | (refine Run.condT ?_ ?_; (· (simp -implicitDefEqProofs; done))) | (refine Run.condF ?_ ?_; (· (simp -implicitDefEqProofs; done))) | refine Run.exit rfl ?_))
  refine Run.mv [0, 1] [(2, .int .i64 l.length)] [.row [.bool true, .sl 1 0 l.length 2 none], .arr (l.map encItI) 2] (by rfl) (by decide) (by simp -implicitDefEqProofs) (by simp -implicitDefEqProofs) ?_
  refine Run.retI Try.func15 r15_ok trivial (by simp -implicitDefEqProofs [r15]; rfl) (by simp ) ?_ (by simp -implicitDefEqProofs ) (by simp -implicitDefEqProofs )
  simp

def headB (l : List (Bs × Int)) : Bs × Bool := match l with | [] => ([], false) | x :: _ => (x.1, true)
theorem firstM_tri (l : List (Bs × Int)) : Tri Try.prog 22 [.ptr 0 0] (mapHi l) (fun v H => v = .tup [.str (headB l).1, .bool (headB l).2] ∧ H = mapHi l) := by
  refine Tri.of_run' Try.func22 rfl c22_ok (by simp [Try.ntmps22]) ?_
  (repeat (first | refine Run.seq ?_ | refine Run.reg ?_ | refine Run.skip ?_ | refine Run.block ?_ | refine Run.endB ?_ | refine Run.opE rfl ?_ | (apply Run.op0 rfl; (· (simp -implicitDefEqProofs; exact ⟨rfl, rfl⟩))) | (apply Run.opA rfl; (· (simp -implicitDefEqProofs; done)); (· (simp -implicitDefEqProofs; exact ⟨rfl, rfl⟩))) | (apply Run.opN rfl; (· (simp -implicitDefEqProofs; done))) | (refine Run.condT ?_ ?_; (· (simp -implicitDefEqProofs; done))) | (refine Run.condF ?_ ?_; (· (simp -implicitDefEqProofs; done))) | refine Run.exit rfl ?_))
  refine Run.opF [0, 1] (len_tri l) rfl (by simp -implicitDefEqProofs [mapHi]) rfl (by simp -implicitDefEqProofs [mapHi]) (by decide) (by rfl) (by simp -implicitDefEqProofs [mapHi]) ?_
  rintro v0 Hs' ⟨rfl, rfl⟩
  unfold mapHi
  cases l with
  | nil =>
    (repeat (first | refine Run.seq ?_ | refine Run.reg ?_ | refine Run.skip ?_ | refine Run.block ?_ | refine Run.endB ?_ | refine Run.opE rfl ?_ | (apply Run.op0 rfl; (· (simp -implicitDefEqProofs; exact ⟨rfl, rfl⟩))) | (apply Run.opA rfl; (· (simp -implicitDefEqProofs; done)); (· (simp -implicitDefEqProofs; exact ⟨rfl, rfl⟩))) | (apply Run.opN rfl; (· (simp -implicitDefEqProofs; done))) | (refine Run.condT ?_ ?_; (· (simp -implicitDefEqProofs; done))) | (refine Run.condF ?_ ?_; (· (simp -implicitDefEqProofs; done))) | refine Run.exit rfl ?_))
    refine Run.mv [0, 1] [(2, .str []), (3, .bool false)] [.row [.bool true, .sl 1 0 0 2 none], .arr [] 2] (by rfl) (by decide) (by simp -implicitDefEqProofs) (by simp -implicitDefEqProofs) ?_
    refine Run.retI Try.func22 r22_ok trivial (by simp -implicitDefEqProofs [r22]; rfl) (by simp ) ?_ (by simp -implicitDefEqProofs ) (by simp -implicitDefEqProofs )
    simp [headB]
  | cons x r =>
    have hne : ¬ ((r.length : Int) + 1 = 0) := by omega
    (repeat (first | refine Run.seq ?_ | refine Run.reg ?_ | refine Run.skip ?_ | refine Run.block ?_ | refine Run.endB ?_ | refine Run.opE rfl ?_ | (apply Run.op0 rfl; (· (simp -implicitDefEqProofs [hne, encItI]; exact ⟨rfl, rfl⟩))) | (apply Run.opA rfl; (· (simp -implicitDefEqProofs [hne, encItI]; done)); (· (simp -implicitDefEqProofs [hne, encItI]; exact ⟨rfl, rfl⟩))) | (apply Run.opN rfl; (· (simp -implicitDefEqProofs [hne, encItI]; done))) | (refine Run.condT ?_ ?_; (· (simp -implicitDefEqProofs [hne, encItI]; done))) | (refine Run.condF ?_ ?_; (· (simp -implicitDefEqProofs [hne, encItI]; done))) | refine Run.exit rfl ?_))
    refine Run.mv [0, 1] [(2, .str x.1), (3, .bool true)] [.row [.bool true, .sl 1 0 (r.length + 1) 2 none], .arr ((x :: r).map encItI) 2] (by rfl) (by decide) (by simp -implicitDefEqProofs [encItI]) (by simp -implicitDefEqProofs [encItI]) ?_
    refine Run.retI Try.func22 r22_ok trivial (by simp -implicitDefEqProofs [r22]; rfl) (by simp ) ?_ (by simp -implicitDefEqProofs ) (by simp -implicitDefEqProofs )
    simp [headB]

theorem newi_tri : Tri Try.prog 16 [] [] (fun v H => v = .ptr 0 0 ∧ H = [.row [.bool true, .nils]]) := by
  refine Tri.of_run' Try.func16 rfl c16_ok (by simp [Try.ntmps16]) ?_
  (repeat (first | refine Run.seq ?_ | refine Run.reg ?_ | refine Run.skip ?_ | refine Run.block ?_ | refine Run.endB ?_ | refine Run.opE rfl ?_ | (apply Run.op0 rfl; (· (simp -implicitDefEqProofs; exact ⟨rfl, rfl⟩))) | (apply Run.opA rfl; (· (simp -implicitDefEqProofs; done)); (· (simp -implicitDefEqProofs; exact ⟨rfl, rfl⟩))) | (apply Run.opN rfl; (· (simp -implicitDefEqProofs; done))) | (refine Run.condT ?_ ?_; (· (simp -implicitDefEqProofs; done))) | (refine Run.condF ?_ ?_; (· (simp -implicitDefEqProofs; done))) | refine Run.exit rfl ?_))
  refine Run.retI Try.func16 r16_ok trivial (by simp -implicitDefEqProofs [r16]; rfl) (by simp ) ?_ (by simp -implicitDefEqProofs ) (by simp -implicitDefEqProofs )
  simp
theorem news_tri : Tri Try.prog 23 [] [] (fun v H => v = .ptr 0 0 ∧ H = [.row [.bool true, .nils]]) := by
  refine Tri.of_run' Try.func23 rfl c23_ok (by simp [Try.ntmps23]) ?_
  (repeat (first | refine Run.seq ?_ | refine Run.reg ?_ | refine Run.skip ?_ | refine Run.block ?_ | refine Run.endB ?_ | refine Run.opE rfl ?_ | (apply Run.op0 rfl; (· (simp -implicitDefEqProofs; exact ⟨rfl, rfl⟩))) | (apply Run.opA rfl; (· (simp -implicitDefEqProofs; done)); (· (simp -implicitDefEqProofs; exact ⟨rfl, rfl⟩))) | (apply Run.opN rfl; (· (simp -implicitDefEqProofs; done))) | (refine Run.condT ?_ ?_; (· (simp -implicitDefEqProofs; done))) | (refine Run.condF ?_ ?_; (· (simp -implicitDefEqProofs; done))) | refine Run.exit rfl ?_))
  refine Run.retI Try.func23 r23_ok trivial (by simp -implicitDefEqProofs [r23]; rfl) (by simp ) ?_ (by simp -implicitDefEqProofs ) (by simp -implicitDefEqProofs )
  simp

theorem from_tri (l : List (Bs × Int)) (key : Bs) : Tri Try.prog 10 [.ptr 0 0, .str key] (mapHi l) (fun v H => v = .fn 28 [.ptr 2 0, .ptr 3 0] ∧ H = mapHi l ++ [.row [.ptr 0 0], .row [.str key]]) := by
  unfold mapHi
  refine Tri.of_run' Try.func10 rfl c10_ok (by simp [Try.ntmps10]) ?_
  (repeat (first | refine Run.seq ?_ | refine Run.reg ?_ | refine Run.skip ?_ | refine Run.block ?_ | refine Run.endB ?_ | refine Run.opE rfl ?_ | (apply Run.op0 rfl; (· (simp -implicitDefEqProofs; exact ⟨rfl, rfl⟩))) | (apply Run.opA rfl; (· (simp -implicitDefEqProofs; done)); (· (simp -implicitDefEqProofs; exact ⟨rfl, rfl⟩))) | (apply Run.opN rfl; (· (simp -implicitDefEqProofs; done))) | (refine Run.condT ?_ ?_; (· (simp -implicitDefEqProofs; done))) | (refine Run.condF ?_ ?_; (· (simp -implicitDefEqProofs; done))) | refine Run.exit rfl ?_))
  refine Run.mv [0, 1, 2, 3] [(4, .fn 28 [.ptr 2 0, .ptr 3 0])] [.row [.bool true, .sl 1 0 l.length 2 none], .arr (l.map encItI) 2, .row [.ptr 0 0], .row [.str key]] (by rfl) (by decide) (by simp -implicitDefEqProofs) (by simp -implicitDefEqProofs) ?_
  refine Run.retI Try.func10 r10_ok trivial (by simp -implicitDefEqProofs [r10]; rfl) (by simp ) ?_ (by simp -implicitDefEqProofs ) (by simp -implicitDefEqProofs )
  simp

/-- the heap where something is gone over -/
def fromH (l : List (Bs × Int)) (key : Bs) (X A B : O) (L : LoopC) (ts : List (Nat × V)) (T1 T2 : O) : List O :=
  [.row [.bool true, .sl 1 0 l.length 2 none], .arr (l.map encItI) 2, X, A, B, .row [.ptr 0 0], .row [.str key], .loop L ts .ready, T1, T2]
def fromR (l : List (Bs × Int)) (key : Bs) (X A B : O) (L : LoopC) (ts : List (Nat × V)) (T1 T2 : O) : List O :=
  [.row [.bool true, .sl 1 0 l.length 2 none], .arr (l.map encItI) 2, X, A, B, .row [.ptr 0 0], .row [.str key], .loop L ts .ready, .gone, .gone, T1, T2]

theorem from1_tri (l : List (Bs × Int)) (hl : l.length ≤ 100000) (hr : RiseK l) (key : Bs) (L : LoopC) (ts : List (Nat × V)) {σ : Type} (X : O) (A B A' B' T1 T2 : σ → O) (s0 : σ) (h01 : T1 s0 = .gone) (h02 : T2 s0 = .gone)
    (hH : ∀ s, Objs (rn [0, 1, 2, 3, 4, 5, 6, 7, 8, 9]) (fromH l key X (A s) (B s) L ts (T1 s) (T2 s)) [0, 1, 2, 3, 4, 5, 6, 7, 8, 9] (fromH l key X (A s) (B s) L ts (T1 s) (T2 s)))
    (hR : ∀ s, Objs (rn [0, 1, 2, 3, 4, 5, 6, 7, 10, 11]) (fromR l key X (A' s) (B' s) L ts (T1 s) (T2 s)) [0, 1, 2, 3, 4, 5, 6, 7, 10, 11] (fromH l key X (A s) (B s) L ts (T1 s) (T2 s)))
    (hS : ∀ s, Stay 10 (fromH l key X (A s) (B s) L ts (T1 s) (T2 s)))
    (nxt : σ → Bs × Int → σ) (I : σ → Prop) (stop : σ → Bs × Int → Bool) (Qd : σ → Bs × Int → List O → Prop) (hQd : ∀ s x H, Qd s x H → 8 ≤ H.length ∧ Stay H.length H) (hI0 : I s0)
    (hround : ∀ s x, (∃ o : List (Bs × Int), o.length < l.length ∧ s = o.foldl nxt s0) → I s → TriY Try.prog 7 [.str x.1, .int .i64 x.2] (fromH l key X (A s) (B s) L ts (T1 s) (T2 s)) (fun v H' =>
      (stop s x = false ∧ I (nxt s x) ∧ v = .bool true ∧ H' = fromR l key X (A' (nxt s x)) (B' (nxt s x)) L ts (T1 (nxt s x)) (T2 (nxt s x))) ∨ (stop s x = true ∧ v = .bool false ∧ Qd s x H'))) :
    Tri Try.prog 28 [.yld 7, .ptr 5 0, .ptr 6 0] [.row [.bool true, .sl 1 0 l.length 2 none], .arr (l.map encItI) 2, X, A s0, B s0, .row [.ptr 0 0], .row [.str key], .loop L ts .ready] (fun v H' => v = .tup [] ∧
      ((∃ s, s = (l.drop (lowB l key)).foldl nxt s0 ∧ I s ∧ H' = fromH l key X (A s) (B s) L ts (T1 s) (T2 s)) ∨
        ∃ o x r, l.drop (lowB l key) = o ++ x :: r ∧ I (o.foldl nxt s0) ∧ stop (o.foldl nxt s0) x = true ∧ Qd (o.foldl nxt s0) x H')) := by
  have hlow := lowB_le l key
  refine Tri.of_run' Try.func28 rfl c28_ok (by simp [Try.ntmps28]) ?_
  refine Run.goneR ?_
  refine Run.goneR ?_
  (repeat (first | refine Run.seq ?_ | refine Run.reg ?_ | refine Run.skip ?_ | refine Run.block ?_ | refine Run.endB ?_ | refine Run.opE rfl ?_ | (apply Run.op0 rfl; (· (simp -implicitDefEqProofs; exact ⟨rfl, rfl⟩))) | (apply Run.opA rfl; (· (simp -implicitDefEqProofs; done)); (· (simp -implicitDefEqProofs; exact ⟨rfl, rfl⟩))) | (apply Run.opN rfl; (· (simp -implicitDefEqProofs; done))) | (refine Run.condT ?_ ?_; (· (simp -implicitDefEqProofs; done))) | (refine Run.condF ?_ ?_; (· (simp -implicitDefEqProofs; done))) | refine Run.exit rfl ?_))
  refine Run.opF [0, 1] (findi_tri l hl hr key) rfl (by simp -implicitDefEqProofs [mapHi]) rfl (by simp -implicitDefEqProofs [mapHi]) (by decide) (by rfl) (by simp -implicitDefEqProofs [mapHi]) ?_
  rintro v0 Hs' ⟨rfl, rfl⟩
  (repeat (first | refine Run.seq ?_ | refine Run.reg ?_ | refine Run.skip ?_ | refine Run.block ?_ | refine Run.endB ?_ | refine Run.opE rfl ?_ | (apply Run.op0 rfl; (· (simp -implicitDefEqProofs; exact ⟨rfl, rfl⟩))) | (apply Run.opA rfl; (· (simp -implicitDefEqProofs; done)); (· (simp -implicitDefEqProofs; exact ⟨rfl, rfl⟩))) | (apply Run.opN rfl; (· (simp -implicitDefEqProofs; done))) | (refine Run.condT ?_ ?_; (· (simp -implicitDefEqProofs; done))) | (refine Run.condF ?_ ?_; (· (simp -implicitDefEqProofs; done))) | refine Run.exit rfl ?_))
  refine Run.loopC [0, 1, 2, 3, 4, 5, 6, 7, 8, 9] (fun (a : Nat × σ) => ([(0, .yld 7), (1, .ptr 5 0), (2, .ptr 6 0), (4, .int .i64 a.1)], fromH l key X (A a.2) (B a.2) L ts (T1 a.2) (T2 a.2)))
    (fun a => lowB l key ≤ a.1 ∧ a.1 ≤ l.length ∧ I a.2 ∧ a.2 = ((l.drop (lowB l key)).take (a.1 - lowB l key)).foldl nxt s0) (fun a => l.length - a.1) (lowB l key, s0) (by simp [hlow, hI0]) (by rfl) (by decide) (by simp) ?_ ?_
  · have := hH s0
    rw [h01, h02] at this ⊢
    exact this
  rintro ⟨i, s⟩ ⟨hi1, hi2, hI, hs⟩ ih
  simp only at hi1 hi2 hI hs ih ⊢
  unfold fromH
  (repeat (first | refine Run.seq ?_ | refine Run.reg ?_ | refine Run.skip ?_ | refine Run.block ?_ | refine Run.endB ?_ | refine Run.opE rfl ?_ | (apply Run.op0 rfl; (· (simp -implicitDefEqProofs; exact ⟨rfl, rfl⟩))) | (apply Run.opA rfl; (· (simp -implicitDefEqProofs; done)); (· (simp -implicitDefEqProofs; exact ⟨rfl, rfl⟩))) | (apply Run.opN rfl; (· (simp -implicitDefEqProofs; done))) | (refine Run.condT ?_ ?_; (· (simp -implicitDefEqProofs; done))) | (refine Run.condF ?_ ?_; (· (simp -implicitDefEqProofs; done))) | refine Run.exit rfl ?_))
  refine Run.opF [0, 1] (len_tri l) rfl (by simp -implicitDefEqProofs [mapHi]) rfl (by simp -implicitDefEqProofs [mapHi]) (by decide) (by rfl) (by simp -implicitDefEqProofs [mapHi]) ?_
  rintro v0 Hs' ⟨rfl, rfl⟩
  by_cases hlt : i < l.length
  · obtain ⟨x, hx, hxi, hxd, -⟩ := getL hlt
    have hlt' : (i : Int) < l.length := by omega
    have hw := wrap_small (n := (i : Int) + 1) (by omega) (by omega)
    (repeat (first | refine Run.seq ?_ | refine Run.reg ?_ | refine Run.skip ?_ | refine Run.block ?_ | refine Run.endB ?_ | refine Run.opE rfl ?_ | (apply Run.op0 rfl; (· (simp -implicitDefEqProofs [hlt', hlt, mapHi]; exact ⟨rfl, rfl⟩))) | (apply Run.opA rfl; (· (simp -implicitDefEqProofs [hlt', hlt, mapHi]; done)); (· (simp -implicitDefEqProofs [hlt', hlt, mapHi]; exact ⟨rfl, rfl⟩))) | (apply Run.opN rfl; (· (simp -implicitDefEqProofs [hlt', hlt, mapHi]; done))) | (refine Run.condT ?_ ?_; (· (simp -implicitDefEqProofs [hlt', hlt, mapHi]; done))) | (refine Run.condF ?_ ?_; (· (simp -implicitDefEqProofs [hlt', hlt, mapHi]; done))) | refine Run.exit rfl ?_))
    refine Run.drawn prog_mixed ?_
    show RunD _ c28d0 [0, 1, 2, 3, 4, 5, 6, 7, 8, 9, 10, 11, 12, 13, 14, 15, 16, 17, 18] [] _ _ _
    refine RunD.flow [0, 1, 2, 3, 4, 5, 6, 7, 8, 9, 10, 11, 12, 13, 14, 15, 16] (by kernel_rfl) (by decide +kernel) (by decide +kernel) (by decide) trivial ?_; (repeat (first | refine execQ_E rfl ?_ | (apply execQ_0 rfl; (· rfl); (· (simp -implicitDefEqProofs [hlt, hlt', hx, hxi, encItI]; exact ⟨rfl, rfl⟩))) | (apply execQ_A rfl; (· (simp -implicitDefEqProofs [hlt, hlt', hx, hxi, encItI]; done)); (· rfl); (· (simp -implicitDefEqProofs [hlt, hlt', hx, hxi, encItI]; exact ⟨rfl, rfl⟩))) | (apply execQ_N rfl; (· (simp -implicitDefEqProofs [hlt, hlt', hx, hxi, encItI]; done))))); intro hpo
    refine RunD.alt1 17 (by kernel_rfl) (by kernel_rfl) hpo ?_
    refine AStep.Y rfl rfl (by simp) (hround s x ⟨(l.drop (lowB l key)).take (i - lowB l key), by simp; omega, hs⟩ hI) ?_
    rintro v H' hcase
    refine RunD.alt1 18 (by kernel_rfl) (by kernel_rfl) (show PendOk _ c28d0 _ _ [] from trivial) ?_
    rcases hcase with ⟨hst, hI2, rfl, rfl⟩ | ⟨hst, rfl, hQ⟩
    · (first | (apply AStep.o0 rfl; (· (simp -implicitDefEqProofs; exact ⟨rfl, rfl⟩))) | (apply AStep.A rfl; (· (simp -implicitDefEqProofs; done)); (· (simp -implicitDefEqProofs; exact ⟨rfl, rfl⟩))) | (apply AStep.N rfl; (· (simp -implicitDefEqProofs; done))))
      refine RunD.fin (by kernel_rfl) (show PendOk _ c28d0 _ _ [] from trivial) ?_
      (repeat (first | refine Run.seq ?_ | refine Run.reg ?_ | refine Run.skip ?_ | refine Run.block ?_ | refine Run.endB ?_ | refine Run.opE rfl ?_ | (apply Run.op0 rfl; (· (simp -implicitDefEqProofs; exact ⟨rfl, rfl⟩))) | (apply Run.opA rfl; (· (simp -implicitDefEqProofs; done)); (· (simp -implicitDefEqProofs; exact ⟨rfl, rfl⟩))) | (apply Run.opN rfl; (· (simp -implicitDefEqProofs; done))) | (refine Run.condT ?_ ?_; (· (simp -implicitDefEqProofs; done))) | (refine Run.condF ?_ ?_; (· (simp -implicitDefEqProofs; done))) | refine Run.exit rfl ?_))
      refine Run.mv [0, 1, 2, 3, 4, 5, 6, 7, 10, 11] _ _ (by rfl) (by decide) (by simp [hw]) (hR _) (ih (i + 1, nxt s x) ?_ ?_)
      · refine ⟨by simp only; omega, by simp only; omega, hI2, ?_⟩
        simp only
        have e1 : i + 1 - lowB l key = (i - lowB l key) + 1 := by omega
        have e2 : (l.drop (lowB l key))[i - lowB l key]? = some x := by rw [List.getElem?_drop, ← hx]; congr 1; omega
        rw [e1, List.take_add_one, e2, List.foldl_append, ← hs]; rfl
      · simp only; omega
    · (first | (apply AStep.o0 rfl; (· (simp -implicitDefEqProofs; exact ⟨rfl, rfl⟩))) | (apply AStep.A rfl; (· (simp -implicitDefEqProofs; done)); (· (simp -implicitDefEqProofs; exact ⟨rfl, rfl⟩))) | (apply AStep.N rfl; (· (simp -implicitDefEqProofs; done))))
      refine RunD.fin (by kernel_rfl) (show PendOk _ c28d0 _ _ [] from trivial) ?_
      obtain ⟨hQ1, hQ2⟩ := hQd _ _ _ hQ
      (repeat (first | refine Run.seq ?_ | refine Run.reg ?_ | refine Run.skip ?_ | refine Run.block ?_ | refine Run.endB ?_ | refine Run.opE rfl ?_ | (apply Run.op0 rfl; (· (simp -implicitDefEqProofs; exact ⟨rfl, rfl⟩))) | (apply Run.opA rfl; (· (simp -implicitDefEqProofs; done)); (· (simp -implicitDefEqProofs; exact ⟨rfl, rfl⟩))) | (apply Run.opN rfl; (· (simp -implicitDefEqProofs; done))) | (refine Run.condT ?_ ?_; (· (simp -implicitDefEqProofs; done))) | (refine Run.condF ?_ ?_; (· (simp -implicitDefEqProofs; done))) | refine Run.exit rfl ?_))
      refine Run.retI Try.func28 r28_ok trivial (by simp [r28]; rfl) hQ1 ?_ hQ2 (by simp)
      rw [hs] at hI hst hQ
      refine ⟨rfl, .inr ⟨(l.drop (lowB l key)).take (i - lowB l key), x, l.drop (i + 1), ?_, hI, hst, hQ⟩⟩
      rw [← hxd]
      have e1 := List.take_append_drop (i - lowB l key) (l.drop (lowB l key))
      rw [List.drop_drop] at e1
      rw [show lowB l key + (i - lowB l key) = i by omega] at e1
      exact e1.symm
  · have hlt' : ¬ (i : Int) < l.length := by omega
    have hil : i = l.length := by omega
    (repeat (first | refine Run.seq ?_ | refine Run.reg ?_ | refine Run.skip ?_ | refine Run.block ?_ | refine Run.endB ?_ | refine Run.opE rfl ?_ | (apply Run.op0 rfl; (· (simp -implicitDefEqProofs [hlt', hlt, mapHi]; exact ⟨rfl, rfl⟩))) | (apply Run.opA rfl; (· (simp -implicitDefEqProofs [hlt', hlt, mapHi]; done)); (· (simp -implicitDefEqProofs [hlt', hlt, mapHi]; exact ⟨rfl, rfl⟩))) | (apply Run.opN rfl; (· (simp -implicitDefEqProofs [hlt', hlt, mapHi]; done))) | (refine Run.condT ?_ ?_; (· (simp -implicitDefEqProofs [hlt', hlt, mapHi]; done))) | (refine Run.condF ?_ ?_; (· (simp -implicitDefEqProofs [hlt', hlt, mapHi]; done))) | refine Run.exit rfl ?_))
    refine Run.retI Try.func28 r28_ok trivial (by simp [r28]; rfl) (by simp) ?_ (hS s) (by simp)
    refine ⟨rfl, .inl ⟨s, ?_, hI, rfl⟩⟩
    rw [hs, List.take_of_length_le (by simp; omega)]

end Go.Proofs.Ytoopckhogehdmaa
