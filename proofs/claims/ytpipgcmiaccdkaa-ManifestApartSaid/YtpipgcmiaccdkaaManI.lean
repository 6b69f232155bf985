/-
  Layer 12, part I: the closures of the program's Take: the tables that go.
-/
import Derived.Test.YtpipgcmiaccdkaaManH
namespace Go.Proofs.Ytpipgcmiaccdkaa
open Sx Go
set_option maxRecDepth 100000
set_option linter.unusedSimpArgs false
set_option linter.unusedVariables false
set_option linter.unnecessarySimpa false
attribute [local simp] stepV condR boundsC appendG appendO copyV srcC guardB isCall opStep Opd.ev put readAt aBin aUn args0 V.celled V.ones V.one V.cells putAt bounds bound1 elemsOf srcOf appendV fillAt fillEl V.pures V.pure unwind evs ARes.ev mkRes V.ren V.renL O.ren eqCells eq1 aEq aMM hasTy hasTyN okTy mmGo Known HLe OLe VsLe.refl VLe.refl VLe.cap Stay VsLe V.frz V.frzL O.frz fr clearV rn KnownR Objs OLeO ObjsE nm back setAll ren_ite take_map_len List.take_of_length_le
attribute [local simp ↓] upd_app tl_cons tl_nil
attribute [local simp] encT_ren encT_ones encT_len encT_take encN_ren encN_ones encN_len encN_take
attribute [local simp] encE_ren encE_len encE_take encZ_ren encZ_len encZ_take

def rdG (q : Rd) : List O := [.row [.str q.1], .row [.bool q.2], .row [.fn 34 [.ptr 0 0, .ptr 1 0]]]
def hC (ts : List Tb) (q : Rd) (o : List Int) : List O := rdG q ++ [.row [.vs (ts.map encT) 4, .sl 4 0 o.length 1 none, .int .i64 0, .int .i64 0], .arr (o.map encN) 1]
def hD (ts : List Tb) (q : Rd) (o : List Int) : List O := rdG q ++ [.row [.vs (ts.map encT) 4, .sl 5 0 o.length 1 none, .int .i64 0, .int .i64 0], .gone, .arr (o.map encN) 1]

theorem oneN_tri (q : Rd) (ts : List Tb) (o : List Int) (hl : q.1.length ≤ 1099511627776) (ho : o.length ≤ 1000000) :
    Tri Try.prog 40 [.ptr 3 0, .ptr 2 0] (hC ts q o) (fun v H => v = .tup [] ∧ H = hD ts (numS q).2 (o ++ [((numS q).1 : Int)])) := by
  refine Tri.of_run' Try.func40 rfl c40_ok (by simp [Try.ntmps40]) ?_
  have l1 := numS_len q
  have t1 := pnum_tri q (by omega)
  generalize numS q = d1 at *
  obtain ⟨x1, q2⟩ := d1
  simp only at l1 t1 ⊢
  have hbb : (o.length + 1) * 8 ≤ 70368744177664 := by omega
  unfold hC rdG
  (repeat (first | refine Run.adm rfl ?_ | refine Run.seq ?_ | (apply Run.opS rfl; (· (simp -implicitDefEqProofs; exact ⟨rfl, rfl⟩))) | (apply Run.condS; (· (simp -implicitDefEqProofs; exact rfl)))))
  refine Run.drawn prog_mixed ?_
  show RunD _ c40d0 [0, 1, 2, 3, 4, 5, 6, 7] [] _ _ _
  refine RunD.flow [0, 1, 2] (by kernel_rfl) (by decide +kernel) (by decide +kernel) (by decide) trivial ?_; (repeat (first | refine execQ_E rfl ?_ | (apply execQ_S rfl; (· (simp -implicitDefEqProofs; exact ⟨rfl, rfl⟩))))); intro hpo
  refine RunD.alt1 3 (by kernel_rfl) (by kernel_rfl) hpo ?_
  refine AStep.F [0, 1] (t1) rfl (by simp -implicitDefEqProofs) rfl (by simp -implicitDefEqProofs) (by decide) (by rfl) (by simp -implicitDefEqProofs) ?_
  rintro v0 Hs' ⟨rfl, rfl⟩
  refine RunD.alt1 4 (by kernel_rfl) (by kernel_rfl) (by
    show PendOk _ c40d0 _ _ [1, 0]
    (repeat (first | exact PendOk.nil | (refine PendOk.S rfl rfl ?_ ?_; (· (simp -implicitDefEqProofs; done)))))) ?_
  (apply AStep.S rfl; (· (simp -implicitDefEqProofs; exact ⟨rfl, rfl⟩)))
  refine RunD.alt1 5 (by kernel_rfl) (by kernel_rfl) (by
    show PendOk _ c40d0 _ _ [1, 0]
    (repeat (first | exact PendOk.nil | (refine PendOk.S rfl rfl ?_ ?_; (· (simp -implicitDefEqProofs; done)))))) ?_
  (apply AStep.S rfl; (· (simp -implicitDefEqProofs [hbb]; exact ⟨rfl, rfl⟩)))
  refine RunD.flow [6] (by kernel_rfl) (by decide +kernel) (by decide +kernel) (by decide) trivial ?_; (repeat (first | refine execQ_E rfl ?_ | (apply execQ_S rfl; (· (simp -implicitDefEqProofs; exact ⟨rfl, rfl⟩))))); intro hpo
  refine RunD.alt1 7 (by kernel_rfl) (by kernel_rfl) hpo ?_
  (apply AStep.S rfl; (· (simp -implicitDefEqProofs; exact ⟨rfl, rfl⟩)))
  refine RunD.fin (by kernel_rfl) (by trivial) ?_
  refine Run.mv [0, 1, 2, 3, 4, 6] [] [.row [.str q2.1], .row [.bool q2.2], .row [.fn 34 [.ptr 0 0, .ptr 1 0]], .row [.vs (ts.map encT) 4, .sl 5 0 (o ++ [(x1 : Int)]).length 1 none, .int .i64 0, .int .i64 0], .gone, .arr ((o ++ [(x1 : Int)]).map encN) 1] (by rfl) (by decide) (by simp -implicitDefEqProofs [encN]) (by simp -implicitDefEqProofs [encN]) ?_
  refine Run.retI Try.func40 r40_ok trivial (by simp [r40]; rfl) (by simp) ?_ (by simp) (by simp)
  exact ⟨rfl, rfl⟩

theorem manyN_tri (q : Rd) (ts : List Tb) (hl : q.1.length ≤ 1099511627776) :
    Tri Try.prog 38 [.fn 40 [.ptr 3 0, .ptr 2 0], .ptr 2 0, .ptr 1 0] (hC ts q []) (fun v H => v = .tup [] ∧ (((rdInts (numS q).1 ((numS q).2.1, (numS q).2.2 && decide ((numS q).1 ≤ 128))).1 = [] ∧ H = hC ts (rdInts (numS q).1 ((numS q).2.1, (numS q).2.2 && decide ((numS q).1 ≤ 128))).2 []) ∨
      H = hD ts (rdInts (numS q).1 ((numS q).2.1, (numS q).2.2 && decide ((numS q).1 ≤ 128))).2 (rdInts (numS q).1 ((numS q).2.1, (numS q).2.2 && decide ((numS q).1 ≤ 128))).1)) := by
  refine Tri.of_run' Try.func38 rfl c38_ok (by simp [Try.ntmps38]) ?_
  have l1 := numS_len q
  have hnt := numS_top q
  have t1 := pnum_tri q (by omega)
  generalize numS q = d1 at *
  obtain ⟨n, q1⟩ := d1
  simp only at l1 t1 hnt ⊢
  obtain ⟨R, hR⟩ : ∃ R, R = rdInts n (q1.1, q1.2 && decide (n ≤ 128)) := ⟨_, rfl⟩
  rw [← hR]
  have hstart : Run ⟨Try.prog, 38, Try.f38.ntmps, hC ts q [], fun v H => v = V.tup [] ∧ ((R.1 = [] ∧ H = hC ts R.2 []) ∨ H = hD ts R.2 R.1)⟩ ⟨[.code (.loop c38l0), .endB 0], tl [(0, .fn 40 [.ptr 3 0, .ptr 2 0]), (2, .ptr 1 0), (4, .int .i64 n), (5, .int .i64 0)], hC ts (q1.1, q1.2 && decide (n ≤ 128)) []⟩ := by
    refine Run.loopC [0, 1, 2, 3, 4] (fun (a : Nat × Rd × List Int) => ([(0, .fn 40 [.ptr 3 0, .ptr 2 0]), (2, .ptr 1 0), (4, .int .i64 n), (5, .int .i64 a.1)], if a.1 = 0 then hC ts a.2.1 [] else hD ts a.2.1 a.2.2))
      (fun a => a.1 ≤ n ∧ (a.2.1.2 = true → n ≤ 128) ∧ a.2.1.1.length ≤ q.1.length ∧ a.2.2.length = a.1 ∧ (a.2.2 ++ (rdInts (n - a.1) a.2.1).1, (rdInts (n - a.1) a.2.1).2) = R) (fun a => n - a.1) (0, (q1.1, q1.2 && decide (n ≤ 128)), []) ?_ (by rfl) (by decide) (by simp) (by simp [hC, rdG]) ?_
    · refine ⟨Nat.zero_le _, fun h => ?_, l1, rfl, by simp [hR]⟩
      simp only [Bool.and_eq_true, decide_eq_true_eq] at h; exact h.2
    rintro ⟨i, p, o⟩ ⟨hi, hp8, hpl, hol, hgo⟩ ih
    simp only at hi hp8 hpl hol hgo ih ⊢
    by_cases hlt : i < n
    · have hlt' : (i : Int) < n := by omega
      cases hp2 : p.2 with
      | true =>
        have hn8 := hp8 hp2
        have hw := wrap_small (n := (i : Int) + 1) (by omega) (by omega)
        rw [show n - i = (n - (i + 1)) + 1 by omega, rdInts, if_pos hp2] at hgo
        have hone := oneN_tri p ts o (by omega) (by omega)
        have hlen : (numS p).2.1.length ≤ p.1.length := numS_len p
        have hb2 : (numS p).2.2 = true → n ≤ 128 := fun _ => hn8
        generalize numS p = g at *
        obtain ⟨x, p'⟩ := g
        simp only at hone hlen hb2 hgo
        by_cases hz : i = 0
        · subst hz
          have hw0 := wrap_small (n := 1) (by omega) (by omega)
          obtain rfl : o = [] := List.length_eq_zero_iff.1 hol
          rw [if_pos rfl]
          unfold hC rdG
          (repeat (first | refine Run.adm rfl ?_ | refine Run.seq ?_ | (apply Run.opS rfl; (· (simp -implicitDefEqProofs [hlt, hlt', hp2]; exact ⟨rfl, rfl⟩))) | (apply Run.condS; (· (simp -implicitDefEqProofs [hlt, hlt', hp2]; exact rfl)))))
          refine Run.opF [0, 1, 2, 3, 4] (hone) rfl (by simp -implicitDefEqProofs [hC, rdG, hp2]) rfl (by simp -implicitDefEqProofs [hC, rdG, hp2]) (by decide) (by rfl) (by simp -implicitDefEqProofs [hC, rdG, hp2]) ?_
          rintro v0 Hs' ⟨rfl, rfl⟩
          (repeat (first | refine Run.adm rfl ?_ | refine Run.seq ?_ | (apply Run.opS rfl; (· (simp -implicitDefEqProofs [hC, hD, rdG]; exact ⟨rfl, rfl⟩))) | (apply Run.condS; (· (simp -implicitDefEqProofs [hC, hD, rdG]; exact rfl)))))
          refine Run.mv [0, 1, 2, 3, 4, 5] _ _ (by rfl) (by decide) (by simp -implicitDefEqProofs [hw0, hC, hD, rdG]) (by simp -implicitDefEqProofs [hw0, hC, hD, rdG]) (ih ((1, p', [(x : Int)])) ?_ ?_)
          · exact ⟨by simp only; omega, hb2, by simp only; omega, rfl, by simp only; rw [← hgo]; simp⟩
          · simp only; omega
        · rw [if_neg hz]
          unfold hD rdG
          (repeat (first | refine Run.adm rfl ?_ | refine Run.seq ?_ | (apply Run.opS rfl; (· (simp -implicitDefEqProofs [hlt, hlt', hp2]; exact ⟨rfl, rfl⟩))) | (apply Run.condS; (· (simp -implicitDefEqProofs [hlt, hlt', hp2]; exact rfl)))))
          refine Run.opF [0, 1, 2, 3, 5] (hone) rfl (by simp -implicitDefEqProofs [hC, rdG, hp2]) rfl (by simp -implicitDefEqProofs [hC, rdG, hp2]) (by decide) (by rfl) (by simp -implicitDefEqProofs [hC, rdG, hp2]) ?_
          rintro v0 Hs' ⟨rfl, rfl⟩
          (repeat (first | refine Run.adm rfl ?_ | refine Run.seq ?_ | (apply Run.opS rfl; (· (simp -implicitDefEqProofs [hC, hD, rdG]; exact ⟨rfl, rfl⟩))) | (apply Run.condS; (· (simp -implicitDefEqProofs [hC, hD, rdG]; exact rfl)))))
          refine Run.mv [0, 1, 2, 3, 4, 6] _ _ (by rfl) (by decide) (by simp -implicitDefEqProofs [hw, hC, hD, rdG]) (by simp -implicitDefEqProofs [hw, hC, hD, rdG]) (ih ((i + 1, p', o ++ [(x : Int)])) ?_ ?_)
          · exact ⟨by simp only; omega, hb2, by simp only; omega, by simp only [List.length_append, List.length_cons, List.length_nil]; omega, by simp only; rw [← hgo]; simp⟩
          · simp only; omega
      | false =>
        have hfin : (o, p) = R := by rw [← hgo, rdInts_bad hp2]; simp
        rw [← hfin]
        by_cases hz : i = 0
        · subst hz
          obtain rfl : o = [] := List.length_eq_zero_iff.1 hol
          rw [if_pos rfl]
          unfold hC rdG
          (repeat (first | refine Run.adm rfl ?_ | refine Run.seq ?_ | (apply Run.opS rfl; (· (simp -implicitDefEqProofs [hlt, hlt', hp2]; exact ⟨rfl, rfl⟩))) | (apply Run.condS; (· (simp -implicitDefEqProofs [hlt, hlt', hp2]; exact rfl)))))
          refine Run.retI Try.func38 r38_ok trivial (by simp [r38]; rfl) (by simp) ?_ (by simp) (by simp)
          exact ⟨rfl, .inl ⟨rfl, by simp [hC, rdG, hp2]⟩⟩
        · rw [if_neg hz]
          unfold hD rdG
          (repeat (first | refine Run.adm rfl ?_ | refine Run.seq ?_ | (apply Run.opS rfl; (· (simp -implicitDefEqProofs [hlt, hlt', hp2]; exact ⟨rfl, rfl⟩))) | (apply Run.condS; (· (simp -implicitDefEqProofs [hlt, hlt', hp2]; exact rfl)))))
          refine Run.retI Try.func38 r38_ok trivial (by simp [r38]; rfl) (by simp [hC, rdG]) ?_ (by simp [hC, rdG]) (by simp)
          exact ⟨rfl, .inr (by simp [hD, rdG, hp2])⟩
    · have hlt' : ¬ (i : Int) < n := by omega
      have hfin : (o, p) = R := by rw [← hgo, show n - i = 0 by omega]; simp [rdInts]
      rw [← hfin]
      by_cases hz : i = 0
      · subst hz
        obtain rfl : o = [] := List.length_eq_zero_iff.1 hol
        rw [if_pos rfl]
        unfold hC rdG
        (repeat (first | refine Run.adm rfl ?_ | refine Run.seq ?_ | (apply Run.opS rfl; (· (simp -implicitDefEqProofs [hlt, hlt']; exact ⟨rfl, rfl⟩))) | (apply Run.condS; (· (simp -implicitDefEqProofs [hlt, hlt']; exact rfl)))))
        refine Run.retI Try.func38 r38_ok trivial (by simp [r38]; rfl) (by simp) ?_ (by simp) (by simp)
        exact ⟨rfl, .inl ⟨rfl, by simp [hC, rdG]⟩⟩
      · rw [if_neg hz]
        unfold hD rdG
        (repeat (first | refine Run.adm rfl ?_ | refine Run.seq ?_ | (apply Run.opS rfl; (· (simp -implicitDefEqProofs [hlt, hlt']; exact ⟨rfl, rfl⟩))) | (apply Run.condS; (· (simp -implicitDefEqProofs [hlt, hlt']; exact rfl)))))
        refine Run.retI Try.func38 r38_ok trivial (by simp [r38]; rfl) (by simp [hC, rdG]) ?_ (by simp [hC, rdG]) (by simp)
        exact ⟨rfl, .inr (by simp [hD, rdG])⟩
  unfold hC rdG
  (repeat (first | refine Run.adm rfl ?_ | refine Run.seq ?_ | (apply Run.opS rfl; (· (simp -implicitDefEqProofs; exact ⟨rfl, rfl⟩))) | (apply Run.condS; (· (simp -implicitDefEqProofs; exact rfl)))))
  refine Run.opF [0, 1] (t1) rfl (by simp -implicitDefEqProofs) rfl (by simp -implicitDefEqProofs) (by decide) (by rfl) (by simp -implicitDefEqProofs) ?_
  rintro v0 Hs' ⟨rfl, rfl⟩
  cases hq1 : q1.2 with
  | true =>
    rw [hq1] at hstart
    by_cases h8 : n ≤ 128
    · have h8' : (n : Int) ≤ 128 := by omega
      (repeat (first | refine Run.adm rfl ?_ | refine Run.seq ?_ | (apply Run.opS rfl; (· (simp -implicitDefEqProofs [hq1, h8, h8']; exact ⟨rfl, rfl⟩))) | (apply Run.condS; (· (simp -implicitDefEqProofs [hq1, h8, h8']; exact rfl)))))
      rw [show (true && decide (n ≤ 128)) = true by simp [h8]] at hstart
      refine Run.mv [0, 1, 2, 3, 4] [(0, .fn 40 [.ptr 3 0, .ptr 2 0]), (2, .ptr 1 0), (4, .int .i64 n), (5, .int .i64 0)] [.row [.str q1.1], .row [.bool true], .row [.fn 34 [.ptr 0 0, .ptr 1 0]], .row [.vs (ts.map encT) 4, .sl 4 0 0 1 none, .int .i64 0, .int .i64 0], .arr [] 1] (by rfl) (by decide) (by simp -implicitDefEqProofs) (by simp -implicitDefEqProofs) ?_
      exact hstart
    · have h8' : ¬ (n : Int) ≤ 128 := by omega
      (repeat (first | refine Run.adm rfl ?_ | refine Run.seq ?_ | (apply Run.opS rfl; (· (simp -implicitDefEqProofs [hq1, h8, h8']; exact ⟨rfl, rfl⟩))) | (apply Run.condS; (· (simp -implicitDefEqProofs [hq1, h8, h8']; exact rfl)))))
      rw [show (true && decide (n ≤ 128)) = false by simp [h8]] at hstart
      refine Run.mv [0, 1, 2, 3, 4] [(0, .fn 40 [.ptr 3 0, .ptr 2 0]), (2, .ptr 1 0), (4, .int .i64 n), (5, .int .i64 0)] [.row [.str q1.1], .row [.bool false], .row [.fn 34 [.ptr 0 0, .ptr 1 0]], .row [.vs (ts.map encT) 4, .sl 4 0 0 1 none, .int .i64 0, .int .i64 0], .arr [] 1] (by rfl) (by decide) (by simp -implicitDefEqProofs) (by simp -implicitDefEqProofs) ?_
      exact hstart
  | false =>
    (repeat (first | refine Run.adm rfl ?_ | refine Run.seq ?_ | (apply Run.opS rfl; (· (simp -implicitDefEqProofs [hq1]; exact ⟨rfl, rfl⟩))) | (apply Run.condS; (· (simp -implicitDefEqProofs [hq1]; exact rfl)))))
    rw [hq1, Bool.false_and] at hstart
    refine Run.mv [0, 1, 2, 3, 4] [(0, .fn 40 [.ptr 3 0, .ptr 2 0]), (2, .ptr 1 0), (4, .int .i64 n), (5, .int .i64 0)] [.row [.str q1.1], .row [.bool false], .row [.fn 34 [.ptr 0 0, .ptr 1 0]], .row [.vs (ts.map encT) 4, .sl 4 0 0 1 none, .int .i64 0, .int .i64 0], .arr [] 1] (by rfl) (by decide) (by simp -implicitDefEqProofs) (by simp -implicitDefEqProofs) ?_
    exact hstart

end Go.Proofs.Ytpipgcmiaccdkaa
