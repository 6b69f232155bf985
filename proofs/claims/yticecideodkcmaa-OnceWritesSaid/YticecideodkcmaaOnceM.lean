/-
  Layer 14, part M: the document's put, Put; what is made of any.
-/
import Derived.Test.YticecideodkcmaaOnceL
import Derived.Test.YticecideodkcmaaSx6
namespace Go.Proofs.Yticecideodkcmaa
open Sx Go
set_option maxRecDepth 100000
set_option linter.unusedSimpArgs false
set_option linter.unusedVariables false
set_option linter.unnecessarySimpa false
attribute [local simp] guardB isCall opStep Opd.ev put readAt aBin aUn args0 V.celled V.ones V.one V.cells putAt bounds bound1 elemsOf srcOf appendV fillAt fillEl V.pures V.pure unwind evs ARes.ev mkRes V.ren V.renL O.ren eqCells eq1 aEq aMM hasTy hasTyN okTy mmGo Known HLe OLe VsLe.refl VLe.refl Stay VsLe V.frz V.frzL O.frz fr clearV rn KnownR Objs OLeO ObjsE nm back setAll ren_ite take_map_len List.take_of_length_le
attribute [local simp ↓] upd_app tl_cons tl_nil

theorem encS_ren (ρ) (x : Seen) : V.renL ρ (encS x) = encS x := by simp [encS]
attribute [local simp] encS_ren

def rputGo : List Seen → Seen → Bool → List Seen
  | [], x, d => if d then [] else [x]
  | y :: l, x, d => (if d = false ∧ x.client ≤ y.client then [x] else []) ++ ((if y.client = x.client then [] else [y]) ++ rputGo l x (d || decide (x.client ≤ y.client)))

theorem rput_tri (l : List Seen) (hll : l.length ≤ 1000000) (x : Seen) : Tri Try.prog 31 [.vs (l.map encS) 7, .agg (encS x)] [] (fun v H => v = .vs ((rputGo l x false).map encS) 7 ∧ H = []) := by
  refine Tri.of_run' Try.func31 rfl c31_ok (by simp [Try.ntmps31]) ?_
  (repeat (first | refine Run.seq ?_ | refine Run.reg ?_ | refine Run.skip ?_ | refine Run.block ?_ | refine Run.endB ?_ | refine Run.opE rfl ?_ | (apply Run.op0 rfl; (· (simp -implicitDefEqProofs [encS]; exact ⟨rfl, rfl⟩))) | (apply Run.opA rfl; (· (simp -implicitDefEqProofs [encS]; done)); (· (simp -implicitDefEqProofs [encS]; exact ⟨rfl, rfl⟩))) | (apply Run.opN rfl; (· (simp -implicitDefEqProofs [encS]; done))) | (refine Run.condT ?_ ?_; (· (simp -implicitDefEqProofs [encS]; done))) | (refine Run.condF ?_ ?_; (· (simp -implicitDefEqProofs [encS]; done))) | refine Run.exit rfl ?_))
  refine Run.nilA 5 7 (by simp) ?_
  refine Run.loopC [0, 1] (fun (a : Nat × List Seen × Bool) => ([(0, .vs (l.map encS) 7), (3, .ptr 0 0), (5, .sl 1 0 a.2.1.length 7 none), (6, .bool a.2.2), (7, .int .i64 a.1)], [.row (encS x), .arr (a.2.1.map encS) 7]))
    (fun a => a.1 ≤ l.length ∧ a.2.1.length ≤ 2 * a.1 ∧ a.2.1 ++ rputGo (l.drop a.1) x a.2.2 = rputGo l x false) (fun a => l.length - a.1) (0, [], false) (by simp) (by rfl) (by decide) (by simp) (by simp [encS]) ?_
  rintro ⟨i, o, d⟩ ⟨hi, ho, hgo⟩ ih
  simp only at hi ho hgo ih ⊢
  by_cases hlt : i < l.length
  · obtain ⟨y, hy, hdrop, -⟩ := get_lt hlt
    have hw := wrap_small (n := (i : Int) + 1) (by omega) (by omega)
    (repeat (first | refine Run.seq ?_ | refine Run.reg ?_ | refine Run.skip ?_ | refine Run.block ?_ | refine Run.endB ?_ | refine Run.opE rfl ?_ | (apply Run.op0 rfl; (· (simp -implicitDefEqProofs [hlt]; exact ⟨rfl, rfl⟩))) | (apply Run.opA rfl; (· (simp -implicitDefEqProofs [hlt]; done)); (· (simp -implicitDefEqProofs [hlt]; exact ⟨rfl, rfl⟩))) | (apply Run.opN rfl; (· (simp -implicitDefEqProofs [hlt]; done))) | (refine Run.condT ?_ ?_; (· (simp -implicitDefEqProofs [hlt]; done))) | (refine Run.condF ?_ ?_; (· (simp -implicitDefEqProofs [hlt]; done))) | refine Run.exit rfl ?_))
    refine Run.quietM prog_mixed (by kernel_rfl) [0, 1] [(0, .vs (l.map encS) 7), (3, .ptr 0 0), (5, .sl 1 0 o.length 7 none), (6, .bool d), (7, .int .i64 i), (25, .bool (!d && decide (x.client ≤ y.client)))] [.row (encS x), .arr (o.map encS) 7] (by rfl) (by decide) ?_ ?_
    · cases d <;> (repeat (first | refine execQ_E rfl ?_ | (apply execQ_0 rfl; (· rfl); (· (simp -implicitDefEqProofs [hy, encS]; exact ⟨rfl, rfl⟩))) | (apply execQ_A rfl; (· (simp -implicitDefEqProofs [hy, encS]; done)); (· rfl); (· (simp -implicitDefEqProofs [hy, encS]; exact ⟨rfl, rfl⟩))) | (apply execQ_N rfl; (· (simp -implicitDefEqProofs [hy, encS]; done))))) <;> simp [encS]
    refine Run.join [(0, .vs (l.map encS) 7), (3, .ptr 0 0), (5, .sl 1 0 (o ++ if d = false ∧ x.client ≤ y.client then [x] else []).length 7 none), (6, .bool (d || decide (x.client ≤ y.client))), (7, .int .i64 i)] [.row (encS x), .arr ((o ++ if d = false ∧ x.client ≤ y.client then [x] else []).map encS) 7] ?_ ?_
    rotate_left
    · intro k hk
      by_cases hc : d = false ∧ x.client ≤ y.client
      · obtain ⟨rfl, hc⟩ := hc
        have hb : (o.length + 1) * 88 ≤ 70368744177664 := by omega
        (repeat (first | refine Run.seq ?_ | refine Run.reg ?_ | refine Run.skip ?_ | refine Run.block ?_ | refine Run.endB ?_ | refine Run.opE rfl ?_ | (apply Run.op0 rfl; (· (simp -implicitDefEqProofs [hc, encS, hb]; exact ⟨rfl, rfl⟩))) | (apply Run.opA rfl; (· (simp -implicitDefEqProofs [hc, encS, hb]; done)); (· (simp -implicitDefEqProofs [hc, encS, hb]; exact ⟨rfl, rfl⟩))) | (apply Run.opN rfl; (· (simp -implicitDefEqProofs [hc, encS, hb]; done))) | (refine Run.condT ?_ ?_; (· (simp -implicitDefEqProofs [hc, encS, hb]; done))) | (refine Run.condF ?_ ?_; (· (simp -implicitDefEqProofs [hc, encS, hb]; done))) | refine Run.exit rfl ?_))
        refine Run.mv [0, 3] _ _ (by rfl) (by decide) (by simp [hc, encS]) (by simp [hc, encS]) hk
      · have hd : (!d && decide (x.client ≤ y.client)) = false := by cases d <;> simp at hc ⊢; exact hc
        have hd2 : (d || decide (x.client ≤ y.client)) = d := by cases d <;> simp at hc ⊢; exact hc
        (repeat (first | refine Run.seq ?_ | refine Run.reg ?_ | refine Run.skip ?_ | refine Run.block ?_ | refine Run.endB ?_ | refine Run.opE rfl ?_ | (apply Run.op0 rfl; (· (simp -implicitDefEqProofs [hd]; exact ⟨rfl, rfl⟩))) | (apply Run.opA rfl; (· (simp -implicitDefEqProofs [hd]; done)); (· (simp -implicitDefEqProofs [hd]; exact ⟨rfl, rfl⟩))) | (apply Run.opN rfl; (· (simp -implicitDefEqProofs [hd]; done))) | (refine Run.condT ?_ ?_; (· (simp -implicitDefEqProofs [hd]; done))) | (refine Run.condF ?_ ?_; (· (simp -implicitDefEqProofs [hd]; done))) | refine Run.exit rfl ?_))
        refine Run.mv [0, 1] _ _ (by rfl) (by decide) (by simp [hc, hd2]) (by simp [hc, encS]) hk
    generalize ho1 : (o ++ if d = false ∧ x.client ≤ y.client then [x] else []) = o1
    have hlo : o1.length ≤ 2 * i + 1 := by rw [← ho1]; split <;> simp <;> omega
    generalize hd1 : (d || decide (x.client ≤ y.client)) = d1
    (repeat (first | refine Run.seq ?_ | refine Run.reg ?_ | refine Run.skip ?_ | refine Run.block ?_ | refine Run.endB ?_ | refine Run.opE rfl ?_ | (apply Run.op0 rfl; (· (simp -implicitDefEqProofs; exact ⟨rfl, rfl⟩))) | (apply Run.opA rfl; (· (simp -implicitDefEqProofs; done)); (· (simp -implicitDefEqProofs; exact ⟨rfl, rfl⟩))) | (apply Run.opN rfl; (· (simp -implicitDefEqProofs; done))) | (refine Run.condT ?_ ?_; (· (simp -implicitDefEqProofs; done))) | (refine Run.condF ?_ ?_; (· (simp -implicitDefEqProofs; done))) | refine Run.exit rfl ?_))
    refine Run.quietM prog_mixed (by kernel_rfl) [0, 1] [(0, .vs (l.map encS) 7), (3, .ptr 0 0), (5, .sl 1 0 o1.length 7 none), (6, .bool d1), (7, .int .i64 i), (37, .bool (!decide (y.client = x.client)))] [.row (encS x), .arr (o1.map encS) 7] (by rfl) (by decide) ?_ ?_
    · (repeat (first | refine execQ_E rfl ?_ | (apply execQ_0 rfl; (· rfl); (· (simp -implicitDefEqProofs [hy, encS]; exact ⟨rfl, rfl⟩))) | (apply execQ_A rfl; (· (simp -implicitDefEqProofs [hy, encS]; done)); (· rfl); (· (simp -implicitDefEqProofs [hy, encS]; exact ⟨rfl, rfl⟩))) | (apply execQ_N rfl; (· (simp -implicitDefEqProofs [hy, encS]; done)))))
      simp [encS]
    have hstep : o1 ++ ((if y.client = x.client then [] else [y]) ++ rputGo (l.drop (i + 1)) x d1) = rputGo l x false := by
      rw [← hgo, hdrop, rputGo, ← ho1, ← hd1]; simp
    by_cases hc : y.client = x.client
    · (repeat (first | refine Run.seq ?_ | refine Run.reg ?_ | refine Run.skip ?_ | refine Run.block ?_ | refine Run.endB ?_ | refine Run.opE rfl ?_ | (apply Run.op0 rfl; (· (simp -implicitDefEqProofs [hc]; exact ⟨rfl, rfl⟩))) | (apply Run.opA rfl; (· (simp -implicitDefEqProofs [hc]; done)); (· (simp -implicitDefEqProofs [hc]; exact ⟨rfl, rfl⟩))) | (apply Run.opN rfl; (· (simp -implicitDefEqProofs [hc]; done))) | (refine Run.condT ?_ ?_; (· (simp -implicitDefEqProofs [hc]; done))) | (refine Run.condF ?_ ?_; (· (simp -implicitDefEqProofs [hc]; done))) | refine Run.exit rfl ?_))
      refine Run.mv [0, 1] _ _ (by rfl) (by decide) (by simp -implicitDefEqProofs [hw]) (by simp -implicitDefEqProofs [hw]) (ih ((i + 1, o1, d1)) ?_ ?_)
      · simp only [hc, if_true, List.nil_append] at hstep
        exact ⟨by omega, by simp only; omega, hstep⟩
      · simp only; omega
    · have hb : (o1.length + 1) * 88 ≤ 70368744177664 := by omega
      (repeat (first | refine Run.seq ?_ | refine Run.reg ?_ | refine Run.skip ?_ | refine Run.block ?_ | refine Run.endB ?_ | refine Run.opE rfl ?_ | (apply Run.op0 rfl; (· (simp -implicitDefEqProofs [hc, hy, encS, hb]; exact ⟨rfl, rfl⟩))) | (apply Run.opA rfl; (· (simp -implicitDefEqProofs [hc, hy, encS, hb]; done)); (· (simp -implicitDefEqProofs [hc, hy, encS, hb]; exact ⟨rfl, rfl⟩))) | (apply Run.opN rfl; (· (simp -implicitDefEqProofs [hc, hy, encS, hb]; done))) | (refine Run.condT ?_ ?_; (· (simp -implicitDefEqProofs [hc, hy, encS, hb]; done))) | (refine Run.condF ?_ ?_; (· (simp -implicitDefEqProofs [hc, hy, encS, hb]; done))) | refine Run.exit rfl ?_))
      refine Run.mv [0, 3] _ _ (by rfl) (by decide) (by simp -implicitDefEqProofs [hw, encS]) (by simp -implicitDefEqProofs [hw, encS]) (ih ((i + 1, o1 ++ [y], d1)) ?_ ?_)
      · simp only [if_neg hc] at hstep
        exact ⟨by omega, by simp; omega, by simpa using hstep⟩
      · simp only; omega
  · (repeat (first | refine Run.seq ?_ | refine Run.reg ?_ | refine Run.skip ?_ | refine Run.block ?_ | refine Run.endB ?_ | refine Run.opE rfl ?_ | (apply Run.op0 rfl; (· (simp -implicitDefEqProofs [hlt]; exact ⟨rfl, rfl⟩))) | (apply Run.opA rfl; (· (simp -implicitDefEqProofs [hlt]; done)); (· (simp -implicitDefEqProofs [hlt]; exact ⟨rfl, rfl⟩))) | (apply Run.opN rfl; (· (simp -implicitDefEqProofs [hlt]; done))) | (refine Run.condT ?_ ?_; (· (simp -implicitDefEqProofs [hlt]; done))) | (refine Run.condF ?_ ?_; (· (simp -implicitDefEqProofs [hlt]; done))) | refine Run.exit rfl ?_))
    have hnil : l.drop i = [] := List.drop_eq_nil_of_le (by omega)
    rw [hnil, rputGo] at hgo
    cases d with
    | true =>
      (repeat (first | refine Run.seq ?_ | refine Run.reg ?_ | refine Run.skip ?_ | refine Run.block ?_ | refine Run.endB ?_ | refine Run.opE rfl ?_ | (apply Run.op0 rfl; (· (simp -implicitDefEqProofs; exact ⟨rfl, rfl⟩))) | (apply Run.opA rfl; (· (simp -implicitDefEqProofs; done)); (· (simp -implicitDefEqProofs; exact ⟨rfl, rfl⟩))) | (apply Run.opN rfl; (· (simp -implicitDefEqProofs; done))) | (refine Run.condT ?_ ?_; (· (simp -implicitDefEqProofs; done))) | (refine Run.condF ?_ ?_; (· (simp -implicitDefEqProofs; done))) | refine Run.exit rfl ?_))
      refine Run.freeze 1 (es := o.map encS) (sz := 7) rfl ?_
      refine Run.mv [] [(4, .vs (o.map encS) 7)] [] (by rfl) (by decide) (by simp -implicitDefEqProofs) (by simp -implicitDefEqProofs) ?_
      refine Run.retI Try.func31 r31_ok trivial (by simp -implicitDefEqProofs [r31]; rfl) (by simp ) ?_ (by simp -implicitDefEqProofs ) (by simp -implicitDefEqProofs )
      simp at hgo
      simp [hgo]
    | false =>
      have hb : (o.length + 1) * 88 ≤ 70368744177664 := by omega
      (repeat (first | refine Run.seq ?_ | refine Run.reg ?_ | refine Run.skip ?_ | refine Run.block ?_ | refine Run.endB ?_ | refine Run.opE rfl ?_ | (apply Run.op0 rfl; (· (simp -implicitDefEqProofs [encS, hb]; exact ⟨rfl, rfl⟩))) | (apply Run.opA rfl; (· (simp -implicitDefEqProofs [encS, hb]; done)); (· (simp -implicitDefEqProofs [encS, hb]; exact ⟨rfl, rfl⟩))) | (apply Run.opN rfl; (· (simp -implicitDefEqProofs [encS, hb]; done))) | (refine Run.condT ?_ ?_; (· (simp -implicitDefEqProofs [encS, hb]; done))) | (refine Run.condF ?_ ?_; (· (simp -implicitDefEqProofs [encS, hb]; done))) | refine Run.exit rfl ?_))
      refine Run.freeze 3 (es := (o ++ [x]).map encS) (sz := 7) (by simp [encS]) ?_
      refine Run.mv [] [(4, .vs ((o ++ [x]).map encS) 7)] [] (by rfl) (by decide) (by simp -implicitDefEqProofs) (by simp -implicitDefEqProofs) ?_
      refine Run.retI Try.func31 r31_ok trivial (by simp -implicitDefEqProofs [r31]; rfl) (by simp ) ?_ (by simp -implicitDefEqProofs ) (by simp -implicitDefEqProofs )
      simp at hgo
      simp [← hgo]


def oldB (l : List Seen) (x : Seen) : Bool := decide (0 ≤ findI l x.client 0 ∧ x.seq ≤ (l.getD (findI l x.client 0).toNat zero).seq)

/-- what the document's Put answers -/
def rputM (l : List Seen) (x : Seen) : List Seen × Int :=
  if okGo l (-1) = true ∧ mayB x = true then
    if oldB l x = true then ([], 140) else (rputGo l x false, 0)
  else ([], 1)

theorem rmay_at (x : Seen) (H : List O) : Tri Try.prog 30 [.agg (encS x)] H (fun v H' => v = .bool (mayB x) ∧ H' = H) := (rmay_tri x).at rfl rfl H
theorem rput_at (l : List Seen) (hll : l.length ≤ 1000000) (x : Seen) (H : List O) : Tri Try.prog 31 [.vs (l.map encS) 7, .agg (encS x)] H (fun v H' => v = .vs ((rputGo l x false).map encS) 7 ∧ H' = H) := (rput_tri l hll x).at rfl rfl H

theorem findI_lt : ∀ {l : List Seen} {c : Int} {i : Nat}, 0 ≤ findI l c i → (i : Int) ≤ findI l c i ∧ findI l c i < i + l.length
  | [], c, i, h => by simp [findI] at h
  | x :: l, c, i, h => by
    simp only [findI] at h ⊢
    split
    · simp; omega
    · rename_i hc
      rw [if_neg hc] at h
      have := findI_lt (l := l) h
      simp at this ⊢; omega

theorem Rput_tri (l : List Seen) (hll : l.length ≤ 1000000) (x : Seen) : Tri Try.prog 13 [.vs (l.map encS) 7, .agg (encS x)] [] (fun v H => v = .tup [.vs ((rputM l x).1.map encS) 7, .int .i64 (rputM l x).2] ∧ H = []) := by
  refine Tri.of_run' Try.func13 rfl c13_ok (by simp [Try.ntmps13]) ?_
  have hle : ∀ (o : List Seen), VLe .nils (.vs (([] : List Seen).map encS) 7) := fun _ => by simpa using VLe.nils 7
  have hbad : ∀ {k}, okGo l (-1) = false ∨ mayB x = false → AtEnd k → Run ⟨Try.prog, 13, Try.f13.ntmps, [], fun v H => v = .tup [.vs ((rputM l x).1.map encS) 7, .int .i64 (rputM l x).2] ∧ H = []⟩ ⟨k, tl [(4, .vs [] 7), (5, .int .i64 1)], []⟩ := by
    intro k hb hk
    have : rputM l x = ([], 1) := by rw [rputM, if_neg]; rintro ⟨h1, h2⟩; rcases hb with h | h <;> simp_all
    refine Run.retI Try.func13 r13_ok hk (by simp [r13]; rfl) (by simp) ?_ (by simp) (by simp)
    simp [this]
  (repeat (first | refine Run.seq ?_ | refine Run.reg ?_ | refine Run.skip ?_ | refine Run.block ?_ | refine Run.endB ?_ | refine Run.opE rfl ?_ | (apply Run.op0 rfl; (· (simp -implicitDefEqProofs [encS]; exact ⟨rfl, rfl⟩))) | (apply Run.opA rfl; (· (simp -implicitDefEqProofs [encS]; done)); (· (simp -implicitDefEqProofs [encS]; exact ⟨rfl, rfl⟩))) | (apply Run.opN rfl; (· (simp -implicitDefEqProofs [encS]; done))) | (refine Run.condT ?_ ?_; (· (simp -implicitDefEqProofs [encS]; done))) | (refine Run.condF ?_ ?_; (· (simp -implicitDefEqProofs [encS]; done))) | refine Run.exit rfl ?_))
  refine Run.opC rfl rfl rfl (rmayL_at l hll _) ?_
  rintro v h' ⟨rfl, rfl⟩
  cases hok : okGo l (-1) with
  | false =>
    (repeat (first | refine Run.seq ?_ | refine Run.reg ?_ | refine Run.skip ?_ | refine Run.block ?_ | refine Run.endB ?_ | refine Run.opE rfl ?_ | (apply Run.op0 rfl; (· (simp -implicitDefEqProofs [hok]; exact ⟨rfl, rfl⟩))) | (apply Run.opA rfl; (· (simp -implicitDefEqProofs [hok]; done)); (· (simp -implicitDefEqProofs [hok]; exact ⟨rfl, rfl⟩))) | (apply Run.opN rfl; (· (simp -implicitDefEqProofs [hok]; done))) | (refine Run.condT ?_ ?_; (· (simp -implicitDefEqProofs [hok]; done))) | (refine Run.condF ?_ ?_; (· (simp -implicitDefEqProofs [hok]; done))) | refine Run.exit rfl ?_))
    refine Run.mv [] [(4, .vs [] 7), (5, .int .i64 1)] [] (by rfl) (by decide) (by simp -implicitDefEqProofs [VLe.nils]) (by simp -implicitDefEqProofs [VLe.nils]) ?_
    exact hbad (.inl hok) trivial
  | true =>
  (repeat (first | refine Run.seq ?_ | refine Run.reg ?_ | refine Run.skip ?_ | refine Run.block ?_ | refine Run.endB ?_ | refine Run.opE rfl ?_ | (apply Run.op0 rfl; (· (simp -implicitDefEqProofs [encS, hok]; exact ⟨rfl, rfl⟩))) | (apply Run.opA rfl; (· (simp -implicitDefEqProofs [encS, hok]; done)); (· (simp -implicitDefEqProofs [encS, hok]; exact ⟨rfl, rfl⟩))) | (apply Run.opN rfl; (· (simp -implicitDefEqProofs [encS, hok]; done))) | (refine Run.condT ?_ ?_; (· (simp -implicitDefEqProofs [encS, hok]; done))) | (refine Run.condF ?_ ?_; (· (simp -implicitDefEqProofs [encS, hok]; done))) | refine Run.exit rfl ?_))
  refine Run.opC rfl (by simp) rfl (by simpa [encS] using rmay_at x _) ?_
  rintro v h' ⟨rfl, rfl⟩
  cases hm : mayB x with
  | false =>
    (repeat (first | refine Run.seq ?_ | refine Run.reg ?_ | refine Run.skip ?_ | refine Run.block ?_ | refine Run.endB ?_ | refine Run.opE rfl ?_ | (apply Run.op0 rfl; (· (simp -implicitDefEqProofs [hm]; exact ⟨rfl, rfl⟩))) | (apply Run.opA rfl; (· (simp -implicitDefEqProofs [hm]; done)); (· (simp -implicitDefEqProofs [hm]; exact ⟨rfl, rfl⟩))) | (apply Run.opN rfl; (· (simp -implicitDefEqProofs [hm]; done))) | (refine Run.condT ?_ ?_; (· (simp -implicitDefEqProofs [hm]; done))) | (refine Run.condF ?_ ?_; (· (simp -implicitDefEqProofs [hm]; done))) | refine Run.exit rfl ?_))
    refine Run.mv [] [(4, .vs [] 7), (5, .int .i64 1)] [] (by rfl) (by decide) (by simp -implicitDefEqProofs [VLe.nils]) (by simp -implicitDefEqProofs [VLe.nils]) ?_
    exact hbad (.inr hm) trivial
  | true =>
  (repeat (first | refine Run.seq ?_ | refine Run.reg ?_ | refine Run.skip ?_ | refine Run.block ?_ | refine Run.endB ?_ | refine Run.opE rfl ?_ | (apply Run.op0 rfl; (· (simp -implicitDefEqProofs [encS, hm]; exact ⟨rfl, rfl⟩))) | (apply Run.opA rfl; (· (simp -implicitDefEqProofs [encS, hm]; done)); (· (simp -implicitDefEqProofs [encS, hm]; exact ⟨rfl, rfl⟩))) | (apply Run.opN rfl; (· (simp -implicitDefEqProofs [encS, hm]; done))) | (refine Run.condT ?_ ?_; (· (simp -implicitDefEqProofs [encS, hm]; done))) | (refine Run.condF ?_ ?_; (· (simp -implicitDefEqProofs [encS, hm]; done))) | refine Run.exit rfl ?_))
  refine Run.opC rfl rfl rfl (rfind_at l hll x.client _) ?_
  rintro v h' ⟨rfl, rfl⟩
  have hM : rputM l x = if oldB l x = true then ([], 140) else (rputGo l x false, 0) := by rw [rputM, if_pos ⟨hok, hm⟩]
  (repeat (first | refine Run.seq ?_ | refine Run.reg ?_ | refine Run.skip ?_ | refine Run.block ?_ | refine Run.endB ?_ | refine Run.opE rfl ?_ | (apply Run.op0 rfl; (· (simp -implicitDefEqProofs; exact ⟨rfl, rfl⟩))) | (apply Run.opA rfl; (· (simp -implicitDefEqProofs; done)); (· (simp -implicitDefEqProofs; exact ⟨rfl, rfl⟩))) | (apply Run.opN rfl; (· (simp -implicitDefEqProofs; done))) | (refine Run.condT ?_ ?_; (· (simp -implicitDefEqProofs; done))) | (refine Run.condF ?_ ?_; (· (simp -implicitDefEqProofs; done))) | refine Run.exit rfl ?_))
  refine Run.quietM prog_mixed (by kernel_rfl) [0] [(0, .vs (l.map encS) 7), (3, .ptr 0 0), (30, .bool (oldB l x))] [.row (encS x)] (by rfl) (by decide) ?_ ?_
  · by_cases a1 : 0 ≤ findI l x.client 0
    · have hlt := findI_lt a1
      obtain ⟨n, hn⟩ : ∃ n : Nat, findI l x.client 0 = n := ⟨_, (Int.toNat_of_nonneg a1).symm⟩
      obtain ⟨y, hy, -, -⟩ := get_lt (l := l) (i := n) (by omega)
      (repeat (first | refine execQ_E rfl ?_ | (apply execQ_0 rfl; (· rfl); (· (simp -implicitDefEqProofs [hn, hy, encS]; exact ⟨rfl, rfl⟩))) | (apply execQ_A rfl; (· (simp -implicitDefEqProofs [hn, hy, encS]; done)); (· rfl); (· (simp -implicitDefEqProofs [hn, hy, encS]; exact ⟨rfl, rfl⟩))) | (apply execQ_N rfl; (· (simp -implicitDefEqProofs [hn, hy, encS]; done)))))
      simp [hn, hy, encS, oldB]
    · (repeat (first | refine execQ_E rfl ?_ | (apply execQ_0 rfl; (· rfl); (· (simp -implicitDefEqProofs [a1]; exact ⟨rfl, rfl⟩))) | (apply execQ_A rfl; (· (simp -implicitDefEqProofs [a1]; done)); (· rfl); (· (simp -implicitDefEqProofs [a1]; exact ⟨rfl, rfl⟩))) | (apply execQ_N rfl; (· (simp -implicitDefEqProofs [a1]; done)))))
      simp [a1, oldB, encS]
  cases hc : oldB l x
  rotate_left
  · (repeat (first | refine Run.seq ?_ | refine Run.reg ?_ | refine Run.skip ?_ | refine Run.block ?_ | refine Run.endB ?_ | refine Run.opE rfl ?_ | (apply Run.op0 rfl; (· (simp -implicitDefEqProofs [hc]; exact ⟨rfl, rfl⟩))) | (apply Run.opA rfl; (· (simp -implicitDefEqProofs [hc]; done)); (· (simp -implicitDefEqProofs [hc]; exact ⟨rfl, rfl⟩))) | (apply Run.opN rfl; (· (simp -implicitDefEqProofs [hc]; done))) | (refine Run.condT ?_ ?_; (· (simp -implicitDefEqProofs [hc]; done))) | (refine Run.condF ?_ ?_; (· (simp -implicitDefEqProofs [hc]; done))) | refine Run.exit rfl ?_))
    refine Run.mv [] [(4, .vs [] 7), (5, .int .i64 140)] [] (by rfl) (by decide) (by simp -implicitDefEqProofs [VLe.nils]) (by simp -implicitDefEqProofs [VLe.nils]) ?_
    refine Run.retI Try.func13 r13_ok trivial (by simp -implicitDefEqProofs [r13]; rfl) (by simp ) ?_ (by simp -implicitDefEqProofs ) (by simp -implicitDefEqProofs )
    simp [hM, hc]
  · (repeat (first | refine Run.seq ?_ | refine Run.reg ?_ | refine Run.skip ?_ | refine Run.block ?_ | refine Run.endB ?_ | refine Run.opE rfl ?_ | (apply Run.op0 rfl; (· (simp -implicitDefEqProofs [hc, encS]; exact ⟨rfl, rfl⟩))) | (apply Run.opA rfl; (· (simp -implicitDefEqProofs [hc, encS]; done)); (· (simp -implicitDefEqProofs [hc, encS]; exact ⟨rfl, rfl⟩))) | (apply Run.opN rfl; (· (simp -implicitDefEqProofs [hc, encS]; done))) | (refine Run.condT ?_ ?_; (· (simp -implicitDefEqProofs [hc, encS]; done))) | (refine Run.condF ?_ ?_; (· (simp -implicitDefEqProofs [hc, encS]; done))) | refine Run.exit rfl ?_))
    refine Run.opC rfl rfl rfl (by simpa [encS] using rput_at l hll x _) ?_
    rintro v h' ⟨rfl, rfl⟩
    (repeat (first | refine Run.seq ?_ | refine Run.reg ?_ | refine Run.skip ?_ | refine Run.block ?_ | refine Run.endB ?_ | refine Run.opE rfl ?_ | (apply Run.op0 rfl; (· (simp -implicitDefEqProofs; exact ⟨rfl, rfl⟩))) | (apply Run.opA rfl; (· (simp -implicitDefEqProofs; done)); (· (simp -implicitDefEqProofs; exact ⟨rfl, rfl⟩))) | (apply Run.opN rfl; (· (simp -implicitDefEqProofs; done))) | (refine Run.condT ?_ ?_; (· (simp -implicitDefEqProofs; done))) | (refine Run.condF ?_ ?_; (· (simp -implicitDefEqProofs; done))) | refine Run.exit rfl ?_))
    refine Run.mv [] [(4, .vs ((rputGo l x false).map encS) 7), (5, .int .i64 0)] [] (by rfl) (by decide) (by simp -implicitDefEqProofs) (by simp -implicitDefEqProofs) ?_
    refine Run.retI Try.func13 r13_ok trivial (by simp -implicitDefEqProofs [r13]; rfl) (by simp ) ?_ (by simp -implicitDefEqProofs ) (by simp -implicitDefEqProofs )
    simp [hM, hc]

end Go.Proofs.Yticecideodkcmaa
