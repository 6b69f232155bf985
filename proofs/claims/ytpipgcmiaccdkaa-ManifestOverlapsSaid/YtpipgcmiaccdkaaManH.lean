/-
  Layer 12, part H: the closures of the program's Take.
-/
import Derived.Test.YtpipgcmiaccdkaaManG
namespace Go.Proofs.Ytpipgcmiaccdkaa
open Sx Go
set_option maxRecDepth 100000
set_option linter.unusedSimpArgs false
set_option linter.unusedVariables false
set_option linter.unnecessarySimpa false
attribute [local simp] stepV condR boundsC appendG appendO copyV srcC guardB isCall opStep Opd.ev put readAt aBin aUn args0 V.celled V.ones V.one V.cells putAt bounds bound1 elemsOf srcOf appendV fillAt fillEl V.pures V.pure unwind evs ARes.ev mkRes V.ren V.renL O.ren eqCells eq1 aEq aMM hasTy hasTyN okTy mmGo Known HLe OLe VsLe.refl VLe.refl VLe.cap Stay VsLe V.frz V.frzL O.frz fr clearV rn KnownR Objs OLeO ObjsE nm back setAll ren_ite take_map_len List.take_of_length_le
attribute [local simp ↓] upd_app tl_cons tl_nil
attribute [local simp] encT_ren encT_ones encT_len encT_take encN_ren encN_ones encN_len encN_take
attribute [local simp] encE_ren encE_len encE_take encZ_ren encZ_len encZ_take

/-- the reader's variables, and its closures -/
def rdH (q : Rd) : List O := [.row [.str q.1], .row [.bool q.2], .row [.fn 34 [.ptr 0 0, .ptr 1 0]], .row [.fn 36 [.ptr 0 0, .ptr 1 0]]]
def hA (q : Rd) (o : List Tb) : List O := rdH q ++ [.row [.sl 5 0 o.length 4 none, .nils, .int .i64 0, .int .i64 0], .arr (o.map encT) 4]
def hB (q : Rd) (o : List Tb) : List O := rdH q ++ [.row [.sl 6 0 o.length 4 none, .nils, .int .i64 0, .int .i64 0], .gone, .arr (o.map encT) 4]

theorem one_tri (q : Rd) (o : List Tb) (hl : q.1.length ≤ 1099511627776) (ho : o.length ≤ 1000000) :
    Tri Try.prog 39 [.ptr 2 0, .ptr 3 0, .ptr 4 0] (hA q o) (fun v H => v = .tup [] ∧ H = hB (rdTab q).2 (o ++ [(rdTab q).1])) := by
  refine Tri.of_run' Try.func39 rfl c39_ok (by simp [Try.ntmps39]) ?_
  have hx : rdTab q = (⟨(numS q).1, (numS (numS q).2).1, (textS (numS (numS q).2).2).1, (textS (textS (numS (numS q).2).2).2).1⟩, (textS (textS (numS (numS q).2).2).2).2) := rfl
  have l1 := numS_len q; have l2 := numS_len (numS q).2
  have l3 := textS_len (numS (numS q).2).2; have l4 := textS_len (textS (numS (numS q).2).2).2
  have t1 := pnum_tri q (by omega)
  have t2 := pnum_tri (numS q).2 (by omega)
  have t3 := ptext_tri (numS (numS q).2).2 (by omega)
  have t4 := ptext_tri (textS (numS (numS q).2).2).2 (by omega)
  rw [hx]
  clear hx
  generalize textS (textS (numS (numS q).2).2).2 = d4 at *
  generalize textS (numS (numS q).2).2 = d3 at *
  generalize numS (numS q).2 = d2 at *
  generalize numS q = d1 at *
  obtain ⟨x1, q2⟩ := d1; obtain ⟨x2, q3⟩ := d2; obtain ⟨x3, q4⟩ := d3; obtain ⟨x4, q5⟩ := d4
  simp only at l1 l2 l3 l4 t1 t2 t3 t4 ⊢
  have hbb : (o.length + 1) * 48 ≤ 70368744177664 := by omega
  have hrest : Run ⟨Try.prog, 39, Try.f39.ntmps, hA q o, fun v H => v = V.tup [] ∧ H = hB q5 (o ++ [⟨x1, x2, x3, x4⟩])⟩ ⟨[.code ((AC.drawn c39d1).seq (AC.region c39r0))], tl [(0, .ptr 2 0), (1, .ptr 3 0), (2, .ptr 4 0), (3, .ptr 6 0)], hA q3 o ++ [.row [.int .i64 x1, .int .i64 x2, .str [], .str []]]⟩ := by
    unfold hA rdH
    (repeat (first | refine Run.adm rfl ?_ | refine Run.seq ?_ | (apply Run.opS rfl; (· (simp -implicitDefEqProofs; exact ⟨rfl, rfl⟩))) | (apply Run.condS; (· (simp -implicitDefEqProofs; exact rfl)))))
    refine Run.drawn prog_mixed ?_
    show RunD _ c39d1 [0, 1, 2, 3, 4, 5, 6, 7] [] _ _ _
    refine RunD.flow [0, 2] (by kernel_rfl) (by decide +kernel) (by decide +kernel) (by decide) trivial ?_; (repeat (first | refine execQ_E rfl ?_ | (apply execQ_S rfl; (· (simp -implicitDefEqProofs; exact ⟨rfl, rfl⟩))))); intro hpo
    refine RunD.alt1 1 (by kernel_rfl) (by kernel_rfl) hpo ?_
    refine AStep.F [0, 1] (t3) rfl (by simp -implicitDefEqProofs) rfl (by simp -implicitDefEqProofs) (by decide) (by rfl) (by simp -implicitDefEqProofs) ?_
    rintro v0 Hs' ⟨rfl, rfl⟩
    have hp2 : PendOk Try.prog c39d1 (put (put (put (tl [(0, .ptr 2 0), (1, .ptr 3 0), (2, .ptr 4 0), (3, .ptr 6 0)]) (some 9) (.fn 36 [.ptr 0 0, .ptr 1 0])) (some 11) (.fn 36 [.ptr 0 0, .ptr 1 0])) (some 10) (.str x3)) [.row [.str q4.1], .row [.bool q4.2], .row [.fn 34 [.ptr 0 0, .ptr 1 0]], .row [.fn 36 [.ptr 0 0, .ptr 1 0]], .row [.sl 5 0 o.length 4 none, .nils, .int .i64 0, .int .i64 0], .arr (o.map encT) 4, .row [.int .i64 x1, .int .i64 x2, .str [], .str []]] [2] := by
      (repeat (first | exact PendOk.nil | (refine PendOk.S rfl rfl ?_ ?_; (· (simp -implicitDefEqProofs; done)))))
    refine RunD.flow [4] (by kernel_rfl) (by decide +kernel) (by decide +kernel) (by decide) hp2 ?_; (repeat (first | refine execQ_E rfl ?_ | (apply execQ_S rfl; (· (simp -implicitDefEqProofs; exact ⟨rfl, rfl⟩))))); intro hpo
    refine RunD.alt1 3 (by kernel_rfl) (by kernel_rfl) hpo ?_
    refine AStep.F [0, 1] (t4) rfl (by simp -implicitDefEqProofs) rfl (by simp -implicitDefEqProofs) (by decide) (by rfl) (by simp -implicitDefEqProofs) ?_
    rintro v0 Hs' ⟨rfl, rfl⟩
    refine RunD.alt1 5 (by kernel_rfl) (by kernel_rfl) (by
      show PendOk _ c39d1 _ _ [4]
      (repeat (first | exact PendOk.nil | (refine PendOk.S rfl rfl ?_ ?_; (· (simp -implicitDefEqProofs; done)))))) ?_
    (apply AStep.S rfl; (· (simp -implicitDefEqProofs; exact ⟨rfl, rfl⟩)))
    refine RunD.flow [6] (by kernel_rfl) (by decide +kernel) (by decide +kernel) (by decide) trivial ?_; (repeat (first | refine execQ_E rfl ?_ | (apply execQ_S rfl; (· (simp -implicitDefEqProofs; exact ⟨rfl, rfl⟩))))); intro hpo
    refine RunD.alt1 7 (by kernel_rfl) (by kernel_rfl) hpo ?_
    (apply AStep.S rfl; (· (simp -implicitDefEqProofs; exact ⟨rfl, rfl⟩)))
    refine RunD.fin (by kernel_rfl) (by trivial) ?_
    (repeat (first | refine Run.adm rfl ?_ | refine Run.seq ?_ | (apply Run.opS rfl; (· (simp -implicitDefEqProofs [hbb]; exact ⟨rfl, rfl⟩))) | (apply Run.condS; (· (simp -implicitDefEqProofs [hbb]; exact rfl)))))
    refine Run.mv [0, 1, 2, 3, 4, 5, 8] [] [.row [.str q5.1], .row [.bool q5.2], .row [.fn 34 [.ptr 0 0, .ptr 1 0]], .row [.fn 36 [.ptr 0 0, .ptr 1 0]], .row [.sl 6 0 (o ++ [(⟨x1, x2, x3, x4⟩ : Tb)]).length 4 none, .nils, .int .i64 0, .int .i64 0], .gone, .arr ((o ++ [(⟨x1, x2, x3, x4⟩ : Tb)]).map encT) 4] (by rfl) (by decide) (by simp -implicitDefEqProofs [encT]) (by simp -implicitDefEqProofs [encT]) ?_
    refine Run.retI Try.func39 r39_ok trivial (by simp [r39]; rfl) (by simp) ?_ (by simp) (by simp)
    exact ⟨rfl, rfl⟩
  unfold hA rdH
  (repeat (first | refine Run.adm rfl ?_ | refine Run.seq ?_ | (apply Run.opS rfl; (· (simp -implicitDefEqProofs; exact ⟨rfl, rfl⟩))) | (apply Run.condS; (· (simp -implicitDefEqProofs; exact rfl)))))
  refine Run.drawn prog_mixed ?_
  show RunD _ c39d0 [0, 1, 2, 3, 4, 5, 6] [] _ _ _
  refine RunD.flow [0, 2] (by kernel_rfl) (by decide +kernel) (by decide +kernel) (by decide) trivial ?_; (repeat (first | refine execQ_E rfl ?_ | (apply execQ_S rfl; (· (simp -implicitDefEqProofs; exact ⟨rfl, rfl⟩))))); intro hpo
  refine RunD.alt2 1 5 (by kernel_rfl) (by kernel_rfl) hpo ?_ ?_
  · refine AStep.F [0, 1] (t1) rfl (by simp -implicitDefEqProofs) rfl (by simp -implicitDefEqProofs) (by decide) (by rfl) (by simp -implicitDefEqProofs) ?_
    rintro v0 Hs' ⟨rfl, rfl⟩
    refine RunD.alt2 3 5 (by kernel_rfl) (by kernel_rfl) (by
      show PendOk _ c39d0 _ _ [2]
      (repeat (first | exact PendOk.nil | (refine PendOk.S rfl rfl ?_ ?_; (· (simp -implicitDefEqProofs; done)))))) ?_ ?_
    · refine AStep.F [0, 1] (t2) rfl (by simp -implicitDefEqProofs) rfl (by simp -implicitDefEqProofs) (by decide) (by rfl) (by simp -implicitDefEqProofs) ?_
      rintro v0 Hs' ⟨rfl, rfl⟩
      refine RunD.flow [4] (by kernel_rfl) (by decide +kernel) (by decide +kernel) (by decide) trivial ?_; (repeat (first | refine execQ_E rfl ?_ | (apply execQ_S rfl; (· (simp -implicitDefEqProofs; exact ⟨rfl, rfl⟩))))); intro hpo
      refine RunD.alt1 5 (by kernel_rfl) (by kernel_rfl) hpo ?_
      (apply AStep.S rfl; (· (simp -implicitDefEqProofs; exact ⟨rfl, rfl⟩)))
      refine RunD.alt1 6 (by kernel_rfl) (by kernel_rfl) (by
        show PendOk _ c39d0 _ _ [4]
        (repeat (first | exact PendOk.nil | (refine PendOk.S rfl rfl ?_ ?_; (· (simp -implicitDefEqProofs; done)))))) ?_
      (apply AStep.S rfl; (· (simp -implicitDefEqProofs; exact ⟨rfl, rfl⟩)))
      refine RunD.fin (by kernel_rfl) (by trivial) ?_
      refine Run.mv [0, 1, 2, 3, 4, 5, 6] [(0, .ptr 2 0), (1, .ptr 3 0), (2, .ptr 4 0), (3, .ptr 6 0)] [.row [.str q3.1], .row [.bool q3.2], .row [.fn 34 [.ptr 0 0, .ptr 1 0]], .row [.fn 36 [.ptr 0 0, .ptr 1 0]], .row [.sl 5 0 o.length 4 none, .nils, .int .i64 0, .int .i64 0], .arr (o.map encT) 4, .row [.int .i64 x1, .int .i64 x2, .str [], .str []]] (by rfl) (by decide) (by simp -implicitDefEqProofs) (by simp -implicitDefEqProofs) ?_
      exact hrest
    · (apply AStep.S rfl; (· (simp -implicitDefEqProofs; exact ⟨rfl, rfl⟩)))
      refine RunD.alt1 3 (by kernel_rfl) (by kernel_rfl) (by
        show PendOk _ c39d0 _ _ [2]
        (repeat (first | exact PendOk.nil | (refine PendOk.S rfl rfl ?_ ?_; (· (simp -implicitDefEqProofs; done)))))) ?_
      refine AStep.F [0, 1] (t2) rfl (by simp -implicitDefEqProofs) rfl (by simp -implicitDefEqProofs) (by decide) (by rfl) (by simp -implicitDefEqProofs) ?_
      rintro v0 Hs' ⟨rfl, rfl⟩
      refine RunD.flow [4] (by kernel_rfl) (by decide +kernel) (by decide +kernel) (by decide) trivial ?_; (repeat (first | refine execQ_E rfl ?_ | (apply execQ_S rfl; (· (simp -implicitDefEqProofs; exact ⟨rfl, rfl⟩))))); intro hpo
      refine RunD.alt1 6 (by kernel_rfl) (by kernel_rfl) hpo ?_
      (apply AStep.S rfl; (· (simp -implicitDefEqProofs; exact ⟨rfl, rfl⟩)))
      refine RunD.fin (by kernel_rfl) (by trivial) ?_
      refine Run.mv [0, 1, 2, 3, 4, 5, 6] [(0, .ptr 2 0), (1, .ptr 3 0), (2, .ptr 4 0), (3, .ptr 6 0)] [.row [.str q3.1], .row [.bool q3.2], .row [.fn 34 [.ptr 0 0, .ptr 1 0]], .row [.fn 36 [.ptr 0 0, .ptr 1 0]], .row [.sl 5 0 o.length 4 none, .nils, .int .i64 0, .int .i64 0], .arr (o.map encT) 4, .row [.int .i64 x1, .int .i64 x2, .str [], .str []]] (by rfl) (by decide) (by simp -implicitDefEqProofs) (by simp -implicitDefEqProofs) ?_
      exact hrest
  · (apply AStep.S rfl; (· (simp -implicitDefEqProofs; exact ⟨rfl, rfl⟩)))
    refine RunD.alt1 1 (by kernel_rfl) (by kernel_rfl) (by
      show PendOk _ c39d0 _ _ [2, 0]
      (repeat (first | exact PendOk.nil | (refine PendOk.S rfl rfl ?_ ?_; (· (simp -implicitDefEqProofs; done)))))) ?_
    refine AStep.F [0, 1] (t1) rfl (by simp -implicitDefEqProofs) rfl (by simp -implicitDefEqProofs) (by decide) (by rfl) (by simp -implicitDefEqProofs) ?_
    rintro v0 Hs' ⟨rfl, rfl⟩
    refine RunD.alt1 3 (by kernel_rfl) (by kernel_rfl) (by
      show PendOk _ c39d0 _ _ [2]
      (repeat (first | exact PendOk.nil | (refine PendOk.S rfl rfl ?_ ?_; (· (simp -implicitDefEqProofs; done)))))) ?_
    refine AStep.F [0, 1] (t2) rfl (by simp -implicitDefEqProofs) rfl (by simp -implicitDefEqProofs) (by decide) (by rfl) (by simp -implicitDefEqProofs) ?_
    rintro v0 Hs' ⟨rfl, rfl⟩
    refine RunD.flow [4] (by kernel_rfl) (by decide +kernel) (by decide +kernel) (by decide) trivial ?_; (repeat (first | refine execQ_E rfl ?_ | (apply execQ_S rfl; (· (simp -implicitDefEqProofs; exact ⟨rfl, rfl⟩))))); intro hpo
    refine RunD.alt1 6 (by kernel_rfl) (by kernel_rfl) hpo ?_
    (apply AStep.S rfl; (· (simp -implicitDefEqProofs; exact ⟨rfl, rfl⟩)))
    refine RunD.fin (by kernel_rfl) (by trivial) ?_
    refine Run.mv [0, 1, 2, 3, 4, 5, 6] [(0, .ptr 2 0), (1, .ptr 3 0), (2, .ptr 4 0), (3, .ptr 6 0)] [.row [.str q3.1], .row [.bool q3.2], .row [.fn 34 [.ptr 0 0, .ptr 1 0]], .row [.fn 36 [.ptr 0 0, .ptr 1 0]], .row [.sl 5 0 o.length 4 none, .nils, .int .i64 0, .int .i64 0], .arr (o.map encT) 4, .row [.int .i64 x1, .int .i64 x2, .str [], .str []]] (by rfl) (by decide) (by simp -implicitDefEqProofs) (by simp -implicitDefEqProofs) ?_
    exact hrest

theorem manyT_tri (q : Rd) (hl : q.1.length ≤ 1099511627776) :
    Tri Try.prog 38 [.fn 39 [.ptr 2 0, .ptr 3 0, .ptr 4 0], .ptr 2 0, .ptr 1 0] (hA q []) (fun v H => v = .tup [] ∧ (((rdTabs (numS q).1 ((numS q).2.1, (numS q).2.2 && decide ((numS q).1 ≤ 128))).1 = [] ∧ H = hA (rdTabs (numS q).1 ((numS q).2.1, (numS q).2.2 && decide ((numS q).1 ≤ 128))).2 []) ∨
      H = hB (rdTabs (numS q).1 ((numS q).2.1, (numS q).2.2 && decide ((numS q).1 ≤ 128))).2 (rdTabs (numS q).1 ((numS q).2.1, (numS q).2.2 && decide ((numS q).1 ≤ 128))).1)) := by
  refine Tri.of_run' Try.func38 rfl c38_ok (by simp [Try.ntmps38]) ?_
  have l1 := numS_len q
  have hnt := numS_top q
  have t1 := pnum_tri q (by omega)
  generalize numS q = d1 at *
  obtain ⟨n, q1⟩ := d1
  simp only at l1 t1 hnt ⊢
  obtain ⟨R, hR⟩ : ∃ R, R = rdTabs n (q1.1, q1.2 && decide (n ≤ 128)) := ⟨_, rfl⟩
  rw [← hR]
  have hstart : Run ⟨Try.prog, 38, Try.f38.ntmps, hA q [], fun v H => v = V.tup [] ∧ ((R.1 = [] ∧ H = hA R.2 []) ∨ H = hB R.2 R.1)⟩ ⟨[.code (.loop c38l0), .endB 0], tl [(0, .fn 39 [.ptr 2 0, .ptr 3 0, .ptr 4 0]), (2, .ptr 1 0), (4, .int .i64 n), (5, .int .i64 0)], hA (q1.1, q1.2 && decide (n ≤ 128)) []⟩ := by
    refine Run.loopC [0, 1, 2, 3, 4, 5] (fun (a : Nat × Rd × List Tb) => ([(0, .fn 39 [.ptr 2 0, .ptr 3 0, .ptr 4 0]), (2, .ptr 1 0), (4, .int .i64 n), (5, .int .i64 a.1)], if a.1 = 0 then hA a.2.1 [] else hB a.2.1 a.2.2))
      (fun a => a.1 ≤ n ∧ (a.2.1.2 = true → n ≤ 128) ∧ a.2.1.1.length ≤ q.1.length ∧ a.2.2.length = a.1 ∧ (a.2.2 ++ (rdTabs (n - a.1) a.2.1).1, (rdTabs (n - a.1) a.2.1).2) = R) (fun a => n - a.1) (0, (q1.1, q1.2 && decide (n ≤ 128)), []) ?_ (by rfl) (by decide) (by simp) (by simp [hA, rdH]) ?_
    · refine ⟨Nat.zero_le _, fun h => ?_, l1, rfl, by simp [hR]⟩
      simp only [Bool.and_eq_true, decide_eq_true_eq] at h; exact h.2
    rintro ⟨i, p, o⟩ ⟨hi, hp8, hpl, hol, hgo⟩ ih
    simp only at hi hp8 hpl hol hgo ih ⊢
    by_cases hlt : i < n
    · have hlt' : (i : Int) < n := by omega
      cases hp2 : p.2 with
      | true =>
        have hn8 := hp8 hp2
        have hw := wrap_small (n := (i : Int) + 1) (by omega) (by omega)
        rw [show n - i = (n - (i + 1)) + 1 by omega, rdTabs, if_pos hp2] at hgo
        have hone := one_tri p o (by omega) (by omega)
        have hlen : (rdTab p).2.1.length ≤ p.1.length := rdTab_len p
        have hb2 : (rdTab p).2.2 = true → n ≤ 128 := fun _ => hn8
        generalize rdTab p = g at *
        obtain ⟨x, p'⟩ := g
        simp only at hone hlen hb2 hgo
        by_cases hz : i = 0
        · subst hz
          have hw0 := wrap_small (n := 1) (by omega) (by omega)
          obtain rfl : o = [] := List.length_eq_zero_iff.1 hol
          rw [if_pos rfl]
          unfold hA rdH
          (repeat (first | refine Run.adm rfl ?_ | refine Run.seq ?_ | (apply Run.opS rfl; (· (simp -implicitDefEqProofs [hlt, hlt', hp2]; exact ⟨rfl, rfl⟩))) | (apply Run.condS; (· (simp -implicitDefEqProofs [hlt, hlt', hp2]; exact rfl)))))
          refine Run.opF [0, 1, 2, 3, 4, 5] (hone) rfl (by simp -implicitDefEqProofs [hA, rdH, hp2]) rfl (by simp -implicitDefEqProofs [hA, rdH, hp2]) (by decide) (by rfl) (by simp -implicitDefEqProofs [hA, rdH, hp2]) ?_
          rintro v0 Hs' ⟨rfl, rfl⟩
          (repeat (first | refine Run.adm rfl ?_ | refine Run.seq ?_ | (apply Run.opS rfl; (· (simp -implicitDefEqProofs [hA, hB, rdH]; exact ⟨rfl, rfl⟩))) | (apply Run.condS; (· (simp -implicitDefEqProofs [hA, hB, rdH]; exact rfl)))))
          refine Run.mv [0, 1, 2, 3, 4, 5, 6] _ _ (by rfl) (by decide) (by simp -implicitDefEqProofs [hw0, hA, hB, rdH]) (by simp -implicitDefEqProofs [hw0, hA, hB, rdH]) (ih ((1, p', [x])) ?_ ?_)
          · exact ⟨by simp only; omega, hb2, by simp only; omega, rfl, by simp only; rw [← hgo]; simp⟩
          · simp only; omega
        · rw [if_neg hz]
          unfold hB rdH
          (repeat (first | refine Run.adm rfl ?_ | refine Run.seq ?_ | (apply Run.opS rfl; (· (simp -implicitDefEqProofs [hlt, hlt', hp2]; exact ⟨rfl, rfl⟩))) | (apply Run.condS; (· (simp -implicitDefEqProofs [hlt, hlt', hp2]; exact rfl)))))
          refine Run.opF [0, 1, 2, 3, 4, 6] (hone) rfl (by simp -implicitDefEqProofs [hA, rdH, hp2]) rfl (by simp -implicitDefEqProofs [hA, rdH, hp2]) (by decide) (by rfl) (by simp -implicitDefEqProofs [hA, rdH, hp2]) ?_
          rintro v0 Hs' ⟨rfl, rfl⟩
          (repeat (first | refine Run.adm rfl ?_ | refine Run.seq ?_ | (apply Run.opS rfl; (· (simp -implicitDefEqProofs [hA, hB, rdH]; exact ⟨rfl, rfl⟩))) | (apply Run.condS; (· (simp -implicitDefEqProofs [hA, hB, rdH]; exact rfl)))))
          refine Run.mv [0, 1, 2, 3, 4, 5, 7] _ _ (by rfl) (by decide) (by simp -implicitDefEqProofs [hw, hA, hB, rdH]) (by simp -implicitDefEqProofs [hw, hA, hB, rdH]) (ih ((i + 1, p', o ++ [x])) ?_ ?_)
          · exact ⟨by simp only; omega, hb2, by simp only; omega, by simp only [List.length_append, List.length_cons, List.length_nil]; omega, by simp only; rw [← hgo]; simp⟩
          · simp only; omega
      | false =>
        have hfin : (o, p) = R := by rw [← hgo, rdTabs_bad hp2]; simp
        rw [← hfin]
        by_cases hz : i = 0
        · subst hz
          obtain rfl : o = [] := List.length_eq_zero_iff.1 hol
          rw [if_pos rfl]
          unfold hA rdH
          (repeat (first | refine Run.adm rfl ?_ | refine Run.seq ?_ | (apply Run.opS rfl; (· (simp -implicitDefEqProofs [hlt, hlt', hp2]; exact ⟨rfl, rfl⟩))) | (apply Run.condS; (· (simp -implicitDefEqProofs [hlt, hlt', hp2]; exact rfl)))))
          refine Run.retI Try.func38 r38_ok trivial (by simp [r38]; rfl) (by simp) ?_ (by simp) (by simp)
          exact ⟨rfl, .inl ⟨rfl, by simp [hA, rdH, hp2]⟩⟩
        · rw [if_neg hz]
          unfold hB rdH
          (repeat (first | refine Run.adm rfl ?_ | refine Run.seq ?_ | (apply Run.opS rfl; (· (simp -implicitDefEqProofs [hlt, hlt', hp2]; exact ⟨rfl, rfl⟩))) | (apply Run.condS; (· (simp -implicitDefEqProofs [hlt, hlt', hp2]; exact rfl)))))
          refine Run.retI Try.func38 r38_ok trivial (by simp [r38]; rfl) (by simp [hA, rdH]) ?_ (by simp [hA, rdH]) (by simp)
          exact ⟨rfl, .inr (by simp [hB, rdH, hp2])⟩
    · have hlt' : ¬ (i : Int) < n := by omega
      have hfin : (o, p) = R := by rw [← hgo, show n - i = 0 by omega]; simp [rdTabs]
      rw [← hfin]
      by_cases hz : i = 0
      · subst hz
        obtain rfl : o = [] := List.length_eq_zero_iff.1 hol
        rw [if_pos rfl]
        unfold hA rdH
        (repeat (first | refine Run.adm rfl ?_ | refine Run.seq ?_ | (apply Run.opS rfl; (· (simp -implicitDefEqProofs [hlt, hlt']; exact ⟨rfl, rfl⟩))) | (apply Run.condS; (· (simp -implicitDefEqProofs [hlt, hlt']; exact rfl)))))
        refine Run.retI Try.func38 r38_ok trivial (by simp [r38]; rfl) (by simp) ?_ (by simp) (by simp)
        exact ⟨rfl, .inl ⟨rfl, by simp [hA, rdH]⟩⟩
      · rw [if_neg hz]
        unfold hB rdH
        (repeat (first | refine Run.adm rfl ?_ | refine Run.seq ?_ | (apply Run.opS rfl; (· (simp -implicitDefEqProofs [hlt, hlt']; exact ⟨rfl, rfl⟩))) | (apply Run.condS; (· (simp -implicitDefEqProofs [hlt, hlt']; exact rfl)))))
        refine Run.retI Try.func38 r38_ok trivial (by simp [r38]; rfl) (by simp [hA, rdH]) ?_ (by simp [hA, rdH]) (by simp)
        exact ⟨rfl, .inr (by simp [hB, rdH])⟩
  unfold hA rdH
  (repeat (first | refine Run.adm rfl ?_ | refine Run.seq ?_ | (apply Run.opS rfl; (· (simp -implicitDefEqProofs; exact ⟨rfl, rfl⟩))) | (apply Run.condS; (· (simp -implicitDefEqProofs; exact rfl)))))
  refine Run.opF [0, 1] (t1) rfl (by simp -implicitDefEqProofs) rfl (by simp -implicitDefEqProofs) (by decide) (by rfl) (by simp -implicitDefEqProofs) ?_
  rintro v0 Hs' ⟨rfl, rfl⟩
  cases hq1 : q1.2 with
  | true =>
    rw [hq1] at hstart
    by_cases h8 : n ≤ 128
    · have h8' : (n : Int) ≤ 128 := by omega
      (repeat (first | refine Run.adm rfl ?_ | refine Run.seq ?_ | (apply Run.opS rfl; (· (simp -implicitDefEqProofs [hq1, h8, h8']; exact ⟨rfl, rfl⟩))) | (apply Run.condS; (· (simp -implicitDefEqProofs [hq1, h8, h8']; exact rfl)))))
      rw [show (true && decide (n ≤ 128)) = true by simp [h8]] at hstart
      refine Run.mv [0, 1, 2, 3, 4, 5] [(0, .fn 39 [.ptr 2 0, .ptr 3 0, .ptr 4 0]), (2, .ptr 1 0), (4, .int .i64 n), (5, .int .i64 0)] [.row [.str q1.1], .row [.bool true], .row [.fn 34 [.ptr 0 0, .ptr 1 0]], .row [.fn 36 [.ptr 0 0, .ptr 1 0]], .row [.sl 5 0 0 4 none, .nils, .int .i64 0, .int .i64 0], .arr [] 4] (by rfl) (by decide) (by simp -implicitDefEqProofs) (by simp -implicitDefEqProofs) ?_
      exact hstart
    · have h8' : ¬ (n : Int) ≤ 128 := by omega
      (repeat (first | refine Run.adm rfl ?_ | refine Run.seq ?_ | (apply Run.opS rfl; (· (simp -implicitDefEqProofs [hq1, h8, h8']; exact ⟨rfl, rfl⟩))) | (apply Run.condS; (· (simp -implicitDefEqProofs [hq1, h8, h8']; exact rfl)))))
      rw [show (true && decide (n ≤ 128)) = false by simp [h8]] at hstart
      refine Run.mv [0, 1, 2, 3, 4, 5] [(0, .fn 39 [.ptr 2 0, .ptr 3 0, .ptr 4 0]), (2, .ptr 1 0), (4, .int .i64 n), (5, .int .i64 0)] [.row [.str q1.1], .row [.bool false], .row [.fn 34 [.ptr 0 0, .ptr 1 0]], .row [.fn 36 [.ptr 0 0, .ptr 1 0]], .row [.sl 5 0 0 4 none, .nils, .int .i64 0, .int .i64 0], .arr [] 4] (by rfl) (by decide) (by simp -implicitDefEqProofs) (by simp -implicitDefEqProofs) ?_
      exact hstart
  | false =>
    (repeat (first | refine Run.adm rfl ?_ | refine Run.seq ?_ | (apply Run.opS rfl; (· (simp -implicitDefEqProofs [hq1]; exact ⟨rfl, rfl⟩))) | (apply Run.condS; (· (simp -implicitDefEqProofs [hq1]; exact rfl)))))
    rw [hq1, Bool.false_and] at hstart
    refine Run.mv [0, 1, 2, 3, 4, 5] [(0, .fn 39 [.ptr 2 0, .ptr 3 0, .ptr 4 0]), (2, .ptr 1 0), (4, .int .i64 n), (5, .int .i64 0)] [.row [.str q1.1], .row [.bool false], .row [.fn 34 [.ptr 0 0, .ptr 1 0]], .row [.fn 36 [.ptr 0 0, .ptr 1 0]], .row [.sl 5 0 0 4 none, .nils, .int .i64 0, .int .i64 0], .arr [] 4] (by rfl) (by decide) (by simp -implicitDefEqProofs) (by simp -implicitDefEqProofs) ?_
    exact hstart

end Go.Proofs.Ytpipgcmiaccdkaa
