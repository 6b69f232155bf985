/-
  Layer 12, part G: the edit of a text: the document.
-/
import Derived.Test.YtpipgcmiaccdkaaManF
namespace Go.Proofs.Ytpipgcmiaccdkaa
open Sx Go
set_option maxRecDepth 100000
set_option linter.unusedSimpArgs false
set_option linter.unusedVariables false
set_option linter.unnecessarySimpa false
attribute [local simp] stepV condR boundsC appendG appendO copyV srcC guardB isCall opStep Opd.ev put readAt aBin aUn args0 V.celled V.ones V.one V.cells putAt bounds bound1 elemsOf srcOf appendV fillAt fillEl V.pures V.pure unwind evs ARes.ev mkRes V.ren V.renL O.ren eqCells eq1 aEq aMM hasTy hasTyN okTy mmGo Known HLe OLe VsLe.refl VLe.refl VLe.cap Stay VsLe V.frz V.frzL O.frz fr clearV rn KnownR Objs OLeO ObjsE nm back setAll ren_ite take_map_len List.take_of_length_le
attribute [local simp ↓] upd_app tl_cons tl_nil
attribute [local simp] encT_ren encT_ones encT_len encT_take encN_ren encN_ones encN_len encN_take
attribute [local simp] encE_ren encE_len encE_take encZ_ren encZ_len encZ_take

def rdTab (q : Rd) : Tb × Rd :=
  (⟨(numS q).1, (numS (numS q).2).1, (textS (numS (numS q).2).2).1, (textS (textS (numS (numS q).2).2).2).1⟩, (textS (textS (numS (numS q).2).2).2).2)
def rdTabs : Nat → Rd → List Tb × Rd
  | 0, q => ([], q)
  | n + 1, q => if q.2 = true then ((rdTab q).1 :: (rdTabs n (rdTab q).2).1, (rdTabs n (rdTab q).2).2) else ([], q)
def rdInts : Nat → Rd → List Int × Rd
  | 0, q => ([], q)
  | n + 1, q => if q.2 = true then (((numS q).1 : Int) :: (rdInts n (numS q).2).1, (rdInts n (numS q).2).2) else ([], q)
theorem rdTab_len (q : Rd) : (rdTab q).2.1.length ≤ q.1.length := by
  have a := numS_len q; have b := numS_len (numS q).2
  have c := textS_len (numS (numS q).2).2; have d := textS_len (textS (numS (numS q).2).2).2
  simp only [rdTab]; omega
theorem rdTabs_bad {q : Rd} (h : q.2 = false) (n : Nat) : rdTabs n q = ([], q) := by cases n <;> simp [rdTabs, h]
theorem rdInts_bad {q : Rd} (h : q.2 = false) (n : Nat) : rdInts n q = ([], q) := by cases n <;> simp [rdInts, h]

def e0 : Ed := ⟨[], [], 0, 0⟩
/-- what the document's Take answers -/
def rA (s : Bs) : Nat × Rd := numS (s, true)
def rB (s : Bs) : List Tb × Rd := rdTabs (min (rA s).1 129) (rA s).2
def rC (s : Bs) : Nat × Rd := numS (rB s).2
def rD (s : Bs) : List Int × Rd := rdInts (min (rC s).1 129) (rC s).2
def rE (s : Bs) : Nat × Rd := numS (rD s).2
def rF (s : Bs) : Nat × Rd := numS (rE s).2
def rEd (s : Bs) : Ed := ⟨(rB s).1, (rD s).1, (rE s).1, (rF s).1⟩
def takeR (s : Bs) : Ed × Int := if (rF s).2.2 = true ∧ (rF s).2.1 = [] ∧ (rB s).1.length = (rA s).1 ∧ (rD s).1.length = (rC s).1 ∧ mayE (rEd s) = true then (rEd s, 0) else (e0, 120)

theorem rtake_tri (s : Bs) (hs : s.length ≤ 1099511627776) : Tri Try.prog 14 [.str s] [] (fun v H => v = .tup [.agg (encE (takeR s).1), .int .i64 (takeR s).2] ∧ H = []) := by
  refine Tri.of_run' Try.func14 rfl c14_ok (by simp [Try.ntmps14]) ?_
  (repeat (first | refine Run.adm rfl ?_ | refine Run.seq ?_ | (apply Run.opS rfl; (· (simp -implicitDefEqProofs; exact ⟨rfl, rfl⟩))) | (apply Run.condS; (· (simp -implicitDefEqProofs; exact rfl)))))
  refine Run.opF [1] (rnum_tri (s, true) (by simp; omega)) rfl (by simp -implicitDefEqProofs) rfl (by simp -implicitDefEqProofs) (by decide) (by rfl) (by simp -implicitDefEqProofs) ?_
  rintro v0 Hs' ⟨rfl, rfl⟩
  have hnl0 := numS_len (s, true)
  have hnt0 := numS_top (s, true)
  have hbd : takeR s = if (rF s).2.2 = true ∧ (rF s).2.1 = [] ∧ (rB s).1.length = (rA s).1 ∧ (rD s).1.length = (rC s).1 ∧ mayE (rEd s) = true then (rEd s, 0) else (e0, 120) := rfl
  obtain ⟨A, hA⟩ : ∃ A, A = numS (s, true) := ⟨_, rfl⟩
  rw [← hA] at hnl0 hnt0 ⊢
  obtain ⟨n, q1⟩ := A
  simp only at hnl0 hnt0 ⊢
  refine Run.nilC 2 0 4 46 (by simp; rfl) (by simp) ?_
  refine Run.nilC 2 1 1 3 (by simp; rfl) (by simp) ?_
  (repeat (first | refine Run.adm rfl ?_ | refine Run.seq ?_ | (apply Run.opS rfl; (· (simp -implicitDefEqProofs; exact ⟨rfl, rfl⟩))) | (apply Run.condS; (· (simp -implicitDefEqProofs; exact rfl)))))
  have hBs : rB s = rdTabs (min n 129) q1 := by rw [rB, rA, ← hA]
  obtain ⟨N, hN⟩ : ∃ N, N = min n 129 := ⟨_, rfl⟩
  rw [← hN] at hBs
  refine Run.loopC [0, 1, 2, 3, 5] (fun (a : Nat × Rd × List Tb) => ([(2, .ptr 0 0), (3, .int .i64 0), (4, .ptr 1 0), (5, .ptr 2 0), (6, .int .i64 n), (7, .int .i64 a.1)], [.row [.nils, .nils, .int .i64 0, .int .i64 0], .row [.str a.2.1.1, .bool a.2.1.2], .row [.sl 3 0 a.2.2.length 4 none, .sl 4 0 0 1 none, .int .i64 0, .int .i64 0], .arr (a.2.2.map encT) 4, .arr [] 1]))
    (fun a => a.1 ≤ N ∧ a.2.1.1.length ≤ s.length ∧ a.2.2.length = a.1 ∧ (a.2.2 ++ (rdTabs (N - a.1) a.2.1).1, (rdTabs (N - a.1) a.2.1).2) = rB s) (fun a => N - a.1) (0, q1, []) (by simp [hBs, hnl0]) (by rfl) (by decide) (by simp) (by simp) ?_
  rintro ⟨i, q, o⟩ ⟨hi, hql, hol, hgo⟩ ih
  simp only at hi hql hol hgo ih ⊢
  by_cases hstep : i < N ∧ q.2 = true
  · obtain ⟨hlt, hq2⟩ := hstep
    have h1 : (i : Int) < n := by omega
    have h2 : (i : Int) < 129 := by omega
    have h1' : i < n := by omega
    have h2' : i < 129 := by omega
    have hw := wrap_small (n := (i : Int) + 1) (by omega) (by omega)
    have hbb : (o.length + 1) * 48 ≤ 70368744177664 := by omega
    rw [show N - i = (N - (i + 1)) + 1 by omega, rdTabs, if_pos hq2] at hgo
    have hx : rdTab q = (⟨(numS q).1, (numS (numS q).2).1, (textS (numS (numS q).2).2).1, (textS (textS (numS (numS q).2).2).2).1⟩, (textS (textS (numS (numS q).2).2).2).2) := rfl
    have l1 := numS_len q; have l2 := numS_len (numS q).2
    have l3 := textS_len (numS (numS q).2).2; have l4 := textS_len (textS (numS (numS q).2).2).2
    have t1 := rnum_tri q (by omega)
    have t2 := rnum_tri (numS q).2 (by omega)
    have t3 := rtext_tri (numS (numS q).2).2 (by omega)
    have t4 := rtext_tri (textS (numS (numS q).2).2).2 (by omega)
    generalize textS (textS (numS (numS q).2).2).2 = d4 at *
    generalize textS (numS (numS q).2).2 = d3 at *
    generalize numS (numS q).2 = d2 at *
    generalize numS q = d1 at *
    obtain ⟨qs, qb⟩ := q
    simp only at hq2; subst hq2
    obtain ⟨x1, q2⟩ := d1; obtain ⟨x2, q3⟩ := d2; obtain ⟨x3, q4⟩ := d3; obtain ⟨x4, q5⟩ := d4
    simp only at l1 l2 l3 l4 t1 t2 t3 t4 hx hql
    rw [hx] at hgo
    simp only at hgo
    (repeat (first | refine Run.adm rfl ?_ | refine Run.seq ?_ | (apply Run.opS rfl; (· (simp -implicitDefEqProofs [h1, h2, h1', h2']; exact ⟨rfl, rfl⟩))) | (apply Run.condS; (· (simp -implicitDefEqProofs [h1, h2, h1', h2']; exact rfl)))))
    refine Run.opF [1] (t1) rfl (by simp -implicitDefEqProofs) rfl (by simp -implicitDefEqProofs) (by decide) (by rfl) (by simp -implicitDefEqProofs) ?_
    rintro v0 Hs' ⟨rfl, rfl⟩
    (repeat (first | refine Run.adm rfl ?_ | refine Run.seq ?_ | (apply Run.opS rfl; (· (simp -implicitDefEqProofs; exact ⟨rfl, rfl⟩))) | (apply Run.condS; (· (simp -implicitDefEqProofs; exact rfl)))))
    refine Run.opF [1] (t2) rfl (by simp -implicitDefEqProofs) rfl (by simp -implicitDefEqProofs) (by decide) (by rfl) (by simp -implicitDefEqProofs) ?_
    rintro v0 Hs' ⟨rfl, rfl⟩
    (repeat (first | refine Run.adm rfl ?_ | refine Run.seq ?_ | (apply Run.opS rfl; (· (simp -implicitDefEqProofs; exact ⟨rfl, rfl⟩))) | (apply Run.condS; (· (simp -implicitDefEqProofs; exact rfl)))))
    refine Run.opF [1] (t3) rfl (by simp -implicitDefEqProofs) rfl (by simp -implicitDefEqProofs) (by decide) (by rfl) (by simp -implicitDefEqProofs) ?_
    rintro v0 Hs' ⟨rfl, rfl⟩
    (repeat (first | refine Run.adm rfl ?_ | refine Run.seq ?_ | (apply Run.opS rfl; (· (simp -implicitDefEqProofs; exact ⟨rfl, rfl⟩))) | (apply Run.condS; (· (simp -implicitDefEqProofs; exact rfl)))))
    refine Run.opF [1] (t4) rfl (by simp -implicitDefEqProofs) rfl (by simp -implicitDefEqProofs) (by decide) (by rfl) (by simp -implicitDefEqProofs) ?_
    rintro v0 Hs' ⟨rfl, rfl⟩
    (repeat (first | refine Run.adm rfl ?_ | refine Run.seq ?_ | (apply Run.opS rfl; (· (simp -implicitDefEqProofs [hbb]; exact ⟨rfl, rfl⟩))) | (apply Run.condS; (· (simp -implicitDefEqProofs [hbb]; exact rfl)))))
    refine Run.mv [0, 1, 2, 7, 4] _ _ (by rfl) (by decide) (by simp -implicitDefEqProofs [hw, encT]) (by simp -implicitDefEqProofs [hw, encT]) (ih ((i + 1, q5, o ++ [⟨x1, x2, x3, x4⟩])) ?_ ?_)
    · refine ⟨by simp only; omega, by simp only; omega, by simp only [List.length_append, List.length_cons, List.length_nil]; omega, ?_⟩
      simp only
      rw [← hgo]; simp
    · simp only; omega
  have hoq : (o, q) = rB s := by
    rw [← hgo]
    by_cases hq2 : q.2 = true
    · have hz : ¬ i < N := fun h => hstep ⟨h, hq2⟩
      rw [show N - i = 0 by omega]; simp [rdTabs]
    · rw [rdTabs_bad (by simpa using hq2)]; simp
  clear ih hgo
  have hrest : Run ⟨Try.prog, 14, Try.f14.ntmps, [], fun v H => v = V.tup [V.agg (encE (takeR s).1), V.int .i64 (takeR s).2] ∧ H = []⟩ ⟨[.ops c14r12.tail, .code ((((AC.region c14r13).seq (AC.block 2 c14l1.loop)).seq ((AC.region c14r16).seq ((AC.region c14r17).seq (((AC.region c14r18).seq (AC.cond (Opd.t 110) ((AC.region c14r19).seq AC.ret) AC.skip)).seq ((AC.region c14r20).seq AC.ret))))))], tl [(2, .ptr 0 0), (3, .int .i64 0), (4, .ptr 1 0), (5, .ptr 2 0), (6, .int .i64 n), (50, .ptr 1 0)], [.row [.nils, .nils, .int .i64 0, .int .i64 0], .row [.str q.1, .bool q.2], .row [.sl 3 0 o.length 4 none, .sl 4 0 0 1 none, .int .i64 0, .int .i64 0], .arr (o.map encT) 4, .arr [] 1]⟩ := by
    simp only [c14r12, List.tail]
    clear hstep
    have hnl3 := numS_len q
    have hnt3 := numS_top q
    have t3 := rnum_tri q (by omega)
    have hCs : rC s = numS q := by rw [rC, ← hoq]
    generalize numS q = C at *
    obtain ⟨m, q3⟩ := C
    simp only at hnl3 hnt3 t3
    refine Run.opF [1] (t3) rfl (by simp -implicitDefEqProofs) rfl (by simp -implicitDefEqProofs) (by decide) (by rfl) (by simp -implicitDefEqProofs) ?_
    rintro v0 Hs' ⟨rfl, rfl⟩
    (repeat (first | refine Run.adm rfl ?_ | refine Run.seq ?_ | (apply Run.opS rfl; (· (simp -implicitDefEqProofs; exact ⟨rfl, rfl⟩))) | (apply Run.condS; (· (simp -implicitDefEqProofs; exact rfl)))))
    have hDs : rD s = rdInts (min m 129) q3 := by rw [rD, hCs]
    obtain ⟨M, hM⟩ : ∃ M, M = min m 129 := ⟨_, rfl⟩
    rw [← hM] at hDs
    refine Run.loopC [0, 1, 2, 3, 4] (fun (a : Nat × Rd × List Int) => ([(2, .ptr 0 0), (3, .int .i64 0), (4, .ptr 1 0), (5, .ptr 2 0), (6, .int .i64 n), (9, .int .i64 m), (10, .int .i64 a.1)], [.row [.nils, .nils, .int .i64 0, .int .i64 0], .row [.str a.2.1.1, .bool a.2.1.2], .row [.sl 3 0 o.length 4 none, .sl 4 0 a.2.2.length 1 none, .int .i64 0, .int .i64 0], .arr (o.map encT) 4, .arr (a.2.2.map encN) 1]))
      (fun a => a.1 ≤ M ∧ a.2.1.1.length ≤ s.length ∧ a.2.2.length = a.1 ∧ (a.2.2 ++ (rdInts (M - a.1) a.2.1).1, (rdInts (M - a.1) a.2.1).2) = rD s) (fun a => M - a.1) (0, q3, []) (by simp [hDs]; omega) (by rfl) (by decide) (by simp) (by simp) ?_
    rintro ⟨j, p, d⟩ ⟨hj, hpl, hdl, hgo⟩ ih
    simp only at hj hpl hdl hgo ih ⊢
    by_cases hstep : j < M ∧ p.2 = true
    · obtain ⟨hlt, hq2⟩ := hstep
      have h1 : (j : Int) < m := by omega
      have h2 : (j : Int) < 129 := by omega
      have h1' : j < m := by omega
      have h2' : j < 129 := by omega
      have hw := wrap_small (n := (j : Int) + 1) (by omega) (by omega)
      have hbb : (d.length + 1) * 8 ≤ 70368744177664 := by omega
      rw [show M - j = (M - (j + 1)) + 1 by omega, rdInts, if_pos hq2] at hgo
      have l1 := numS_len p
      have t1 := rnum_tri p (by omega)
      generalize numS p = d1 at *
      obtain ⟨ps, pb⟩ := p
      simp only at hq2; subst hq2
      obtain ⟨x1, p2⟩ := d1
      simp only at l1 t1 hgo hpl
      (repeat (first | refine Run.adm rfl ?_ | refine Run.seq ?_ | (apply Run.opS rfl; (· (simp -implicitDefEqProofs [h1, h2, h1', h2']; exact ⟨rfl, rfl⟩))) | (apply Run.condS; (· (simp -implicitDefEqProofs [h1, h2, h1', h2']; exact rfl)))))
      refine Run.drawn prog_mixed ?_
      show RunD _ c14d0 [0, 1, 2, 3, 4, 5, 6, 7] [] _ _ _
      refine RunD.flow [0, 1, 2] (by kernel_rfl) (by decide +kernel) (by decide +kernel) (by decide) trivial ?_; (repeat (first | refine execQ_E rfl ?_ | (apply execQ_S rfl; (· (simp -implicitDefEqProofs [hbb]; exact ⟨rfl, rfl⟩))))); intro hpo
      refine RunD.alt1 3 (by kernel_rfl) (by kernel_rfl) hpo ?_
      refine AStep.F [1] (t1) rfl (by simp -implicitDefEqProofs) rfl (by simp -implicitDefEqProofs) (by decide) (by rfl) (by simp -implicitDefEqProofs) ?_
      rintro v0 Hs' ⟨rfl, rfl⟩
      refine RunD.alt1 4 (by kernel_rfl) (by kernel_rfl) (by
        show PendOk _ c14d0 _ _ [1, 0]
        (repeat (first | exact PendOk.nil | (refine PendOk.S rfl rfl ?_ ?_; (· (simp -implicitDefEqProofs; done)))))) ?_
      (apply AStep.S rfl; (· (simp -implicitDefEqProofs; exact ⟨rfl, rfl⟩)))
      refine RunD.alt1 5 (by kernel_rfl) (by kernel_rfl) (by
        show PendOk _ c14d0 _ _ [1, 0]
        (repeat (first | exact PendOk.nil | (refine PendOk.S rfl rfl ?_ ?_; (· (simp -implicitDefEqProofs; done)))))) ?_
      (apply AStep.S rfl; (· (simp -implicitDefEqProofs [hbb]; exact ⟨rfl, rfl⟩)))
      refine RunD.flow [6] (by kernel_rfl) (by decide +kernel) (by decide +kernel) (by decide) trivial ?_; (repeat (first | refine execQ_E rfl ?_ | (apply execQ_S rfl; (· (simp -implicitDefEqProofs; exact ⟨rfl, rfl⟩))))); intro hpo
      refine RunD.alt1 7 (by kernel_rfl) (by kernel_rfl) hpo ?_
      (apply AStep.S rfl; (· (simp -implicitDefEqProofs; exact ⟨rfl, rfl⟩)))
      refine RunD.fin (by kernel_rfl) (by trivial) ?_
      (repeat (first | refine Run.adm rfl ?_ | refine Run.seq ?_ | (apply Run.opS rfl; (· (simp -implicitDefEqProofs; exact ⟨rfl, rfl⟩))) | (apply Run.condS; (· (simp -implicitDefEqProofs; exact rfl)))))
      refine Run.mv [0, 1, 2, 3, 6] _ _ (by rfl) (by decide) (by simp -implicitDefEqProofs [hw, encN]) (by simp -implicitDefEqProofs [hw, encN]) (ih ((j + 1, p2, d ++ [(x1 : Int)])) ?_ ?_)
      · refine ⟨by simp only; omega, by simp only; omega, by simp only [List.length_append, List.length_cons, List.length_nil]; omega, ?_⟩
        simp only
        rw [← hgo]; simp
      · simp only; omega
    have hdp : (d, p) = rD s := by
      rw [← hgo]
      by_cases hq2 : p.2 = true
      · have hz : ¬ j < M := fun h => hstep ⟨h, hq2⟩
        rw [show M - j = 0 by omega]; simp [rdInts]
      · rw [rdInts_bad (by simpa using hq2)]; simp
    clear ih hgo
    have hrest2 : Run ⟨Try.prog, 14, Try.f14.ntmps, [], fun v H => v = V.tup [V.agg (encE (takeR s).1), V.int .i64 (takeR s).2] ∧ H = []⟩ ⟨[.ops c14r16.tail, .code ((AC.region c14r17).seq (((AC.region c14r18).seq (AC.cond (Opd.t 110) ((AC.region c14r19).seq AC.ret) AC.skip)).seq ((AC.region c14r20).seq AC.ret)))], tl [(2, .ptr 0 0), (3, .int .i64 0), (4, .ptr 1 0), (5, .ptr 2 0), (6, .int .i64 n), (9, .int .i64 m), (74, .ptr 1 0)], [.row [.nils, .nils, .int .i64 0, .int .i64 0], .row [.str p.1, .bool p.2], .row [.sl 3 0 o.length 4 none, .sl 4 0 d.length 1 none, .int .i64 0, .int .i64 0], .arr (o.map encT) 4, .arr (d.map encN) 1]⟩ := by
      simp only [c14r16, List.tail]
      refine Run.freeze 3 (es := o.map encT) (sz := 4) (by simp) ?_
      refine Run.freeze 4 (es := d.map encN) (sz := 1) (by simp) ?_
      refine Run.mv [0, 1, 2] [(2, .ptr 0 0), (3, .int .i64 0), (4, .ptr 1 0), (5, .ptr 2 0), (6, .int .i64 n), (9, .int .i64 m), (74, .ptr 1 0)] [.row [.nils, .nils, .int .i64 0, .int .i64 0], .row [.str p.1, .bool p.2], .row [.vs (o.map encT) 4, .vs (d.map encN) 1, .int .i64 0, .int .i64 0]] (by rfl) (by decide) (by simp -implicitDefEqProofs) (by simp -implicitDefEqProofs) ?_
      have l1 := numS_len p
      have t1 := rnum_tri p (by omega)
      have l2 := numS_len (numS p).2
      have t2 := rnum_tri (numS p).2 (by omega)
      have hEs : rE s = numS p := by rw [rE, ← hdp]
      have hFs : rF s = numS (numS p).2 := by rw [rF, hEs]
      have hed : rEd s = ⟨o, d, (rE s).1, (rF s).1⟩ := by rw [rEd, ← hoq, ← hdp]
      have hbd2 : takeR s = if (rF s).2.2 = true ∧ (rF s).2.1 = [] ∧ o.length = n ∧ d.length = m ∧ mayE ⟨o, d, (rE s).1, (rF s).1⟩ = true then (⟨o, d, (rE s).1, (rF s).1⟩, 0) else (e0, 120) := by
        rw [hbd, hed, ← hoq, ← hdp, hCs, rA, ← hA]
      rw [hFs, hEs] at hbd2
      generalize numS (numS p).2 = D2 at *
      generalize numS p = D1 at *
      obtain ⟨lg, p2⟩ := D1
      obtain ⟨nx, p3⟩ := D2
      simp only at t1 t2 hbd2
      refine Run.opF [1] (t1) rfl (by simp -implicitDefEqProofs) rfl (by simp -implicitDefEqProofs) (by decide) (by rfl) (by simp -implicitDefEqProofs) ?_
      rintro v0 Hs' ⟨rfl, rfl⟩
      (repeat (first | refine Run.adm rfl ?_ | refine Run.seq ?_ | (apply Run.opS rfl; (· (simp -implicitDefEqProofs; exact ⟨rfl, rfl⟩))) | (apply Run.condS; (· (simp -implicitDefEqProofs; exact rfl)))))
      refine Run.opF [1] (t2) rfl (by simp -implicitDefEqProofs) rfl (by simp -implicitDefEqProofs) (by decide) (by rfl) (by simp -implicitDefEqProofs) ?_
      rintro v0 Hs' ⟨rfl, rfl⟩
      rw [hbd2]
      have herr : ∀ {k t h}, AtEnd k → t 2 = .ptr 0 0 → t 3 = .int .i64 120 → (h : List O)[0]? = some (.row [.nils, .nils, .int .i64 0, .int .i64 0]) → Run ⟨Try.prog, 14, Try.f14.ntmps, [], fun v H => v = V.tup [V.agg (encE e0), V.int .i64 120] ∧ H = []⟩ ⟨k, t, h⟩ := by
        intro k t h hk q1 q2 q3
        refine Run.mv [0] [(2, .ptr 0 0), (3, .int .i64 120)] [.row (encE e0)] (by rfl) (by decide) (by simp [q1, q2]) (by simp [q3, encE, e0, VLe.nils]) ?_
        refine Run.ret0 rfl Try.func14 r14_ok hk (by simp [r14]; rfl) ?_ (by simp)
        simp
      cases c1 : p3.2 with
      | false =>
        rw [if_neg (by simp)]
        (repeat (first | refine Run.adm rfl ?_ | refine Run.seq ?_ | (apply Run.opS rfl; (· (simp -implicitDefEqProofs [c1]; exact ⟨rfl, rfl⟩))) | (apply Run.condS; (· (simp -implicitDefEqProofs [c1]; exact rfl)))))
        refine herr trivial ?_ ?_ ?_ <;> simp
      | true =>
      by_cases c2 : p3.1 = []
      rotate_left
      · rw [if_neg (by simp [c2])]
        (repeat (first | refine Run.adm rfl ?_ | refine Run.seq ?_ | (apply Run.opS rfl; (· (simp -implicitDefEqProofs [c1, c2]; exact ⟨rfl, rfl⟩))) | (apply Run.condS; (· (simp -implicitDefEqProofs [c1, c2]; exact rfl)))))
        refine herr trivial ?_ ?_ ?_ <;> simp
      by_cases c3 : o.length = n
      rotate_left
      · have c3' : ¬ (o.length : Int) = n := by omega
        rw [if_neg (by simp [c3])]
        (repeat (first | refine Run.adm rfl ?_ | refine Run.seq ?_ | (apply Run.opS rfl; (· (simp -implicitDefEqProofs [c1, c2, c3, c3']; exact ⟨rfl, rfl⟩))) | (apply Run.condS; (· (simp -implicitDefEqProofs [c1, c2, c3, c3']; exact rfl)))))
        refine herr trivial ?_ ?_ ?_ <;> simp
      have c3' : (o.length : Int) = n := by omega
      by_cases c4 : d.length = m
      rotate_left
      · have c4' : ¬ (d.length : Int) = m := by omega
        rw [if_neg (by simp [c4])]
        (repeat (first | refine Run.adm rfl ?_ | refine Run.seq ?_ | (apply Run.opS rfl; (· (simp -implicitDefEqProofs [c1, c2, c3', c4, c4']; exact ⟨rfl, rfl⟩))) | (apply Run.condS; (· (simp -implicitDefEqProofs [c1, c2, c3', c4, c4']; exact rfl)))))
        refine herr trivial ?_ ?_ ?_ <;> simp
      have c4' : (d.length : Int) = m := by omega
      have hmy := fun H => rmay_at ⟨o, d, lg, nx⟩ H
      simp only [encE] at hmy
      (repeat (first | refine Run.adm rfl ?_ | refine Run.seq ?_ | (apply Run.opS rfl; (· (simp -implicitDefEqProofs [c1, c2, c3', c4']; exact ⟨rfl, rfl⟩))) | (apply Run.condS; (· (simp -implicitDefEqProofs [c1, c2, c3', c4']; exact rfl)))))
      refine Run.opC rfl (by simp) rfl (hmy _) ?_
      rintro v h' ⟨rfl, rfl⟩
      cases c5 : mayE ⟨o, d, lg, nx⟩ with
      | false =>
        rw [if_neg (by simp)]
        (repeat (first | refine Run.adm rfl ?_ | refine Run.seq ?_ | (apply Run.opS rfl; (· (simp -implicitDefEqProofs [c5]; exact ⟨rfl, rfl⟩))) | (apply Run.condS; (· (simp -implicitDefEqProofs [c5]; exact rfl)))))
        refine herr trivial ?_ ?_ ?_ <;> simp
      | true =>
        rw [if_pos ⟨rfl, c2, c3, c4, rfl⟩]
        (repeat (first | refine Run.adm rfl ?_ | refine Run.seq ?_ | (apply Run.opS rfl; (· (simp -implicitDefEqProofs [c5]; exact ⟨rfl, rfl⟩))) | (apply Run.condS; (· (simp -implicitDefEqProofs [c5]; exact rfl)))))
        refine Run.mv [0] [(2, .ptr 0 0), (3, .int .i64 0)] [.row (encE ⟨o, d, lg, nx⟩)] (by rfl) (by decide) (by simp -implicitDefEqProofs [encE]) (by simp -implicitDefEqProofs [encE]) ?_
        refine Run.ret0 rfl Try.func14 r14_ok trivial (by simp [r14]; rfl) ?_ (by simp)
        simp
    by_cases h1' : j < m
    · have h1 : (j : Int) < m := by omega
      by_cases h2' : j < 129
      · have h2 : (j : Int) < 129 := by omega
        have hq : p.2 = false := by
          cases hq : p.2 with
          | false => rfl
          | true => exact absurd ⟨by omega, hq⟩ hstep
        (repeat (first | refine Run.adm rfl ?_ | refine Run.seq ?_ | (apply Run.opS rfl; (· (simp -implicitDefEqProofs [h1, h2, h1', h2', hq]; exact ⟨rfl, rfl⟩))) | (apply Run.condS; (· (simp -implicitDefEqProofs [h1, h2, h1', h2', hq]; exact rfl)))))
        refine Run.mv [0, 1, 2, 3, 4] [(2, .ptr 0 0), (3, .int .i64 0), (4, .ptr 1 0), (5, .ptr 2 0), (6, .int .i64 n), (9, .int .i64 m), (74, .ptr 1 0)] [.row [.nils, .nils, .int .i64 0, .int .i64 0], .row [.str p.1, .bool p.2], .row [.sl 3 0 o.length 4 none, .sl 4 0 d.length 1 none, .int .i64 0, .int .i64 0], .arr (o.map encT) 4, .arr (d.map encN) 1] (by rfl) (by decide) (by simp -implicitDefEqProofs [hq]) (by simp -implicitDefEqProofs [hq]) ?_
        exact hrest2
      · have h2 : ¬ (j : Int) < 129 := by omega
        (repeat (first | refine Run.adm rfl ?_ | refine Run.seq ?_ | (apply Run.opS rfl; (· (simp -implicitDefEqProofs [h1, h2, h1', h2']; exact ⟨rfl, rfl⟩))) | (apply Run.condS; (· (simp -implicitDefEqProofs [h1, h2, h1', h2']; exact rfl)))))
        refine Run.mv [0, 1, 2, 3, 4] [(2, .ptr 0 0), (3, .int .i64 0), (4, .ptr 1 0), (5, .ptr 2 0), (6, .int .i64 n), (9, .int .i64 m), (74, .ptr 1 0)] [.row [.nils, .nils, .int .i64 0, .int .i64 0], .row [.str p.1, .bool p.2], .row [.sl 3 0 o.length 4 none, .sl 4 0 d.length 1 none, .int .i64 0, .int .i64 0], .arr (o.map encT) 4, .arr (d.map encN) 1] (by rfl) (by decide) (by simp -implicitDefEqProofs) (by simp -implicitDefEqProofs) ?_
        exact hrest2
    · have h1 : ¬ (j : Int) < m := by omega
      (repeat (first | refine Run.adm rfl ?_ | refine Run.seq ?_ | (apply Run.opS rfl; (· (simp -implicitDefEqProofs [h1, h1']; exact ⟨rfl, rfl⟩))) | (apply Run.condS; (· (simp -implicitDefEqProofs [h1, h1']; exact rfl)))))
      refine Run.mv [0, 1, 2, 3, 4] [(2, .ptr 0 0), (3, .int .i64 0), (4, .ptr 1 0), (5, .ptr 2 0), (6, .int .i64 n), (9, .int .i64 m), (74, .ptr 1 0)] [.row [.nils, .nils, .int .i64 0, .int .i64 0], .row [.str p.1, .bool p.2], .row [.sl 3 0 o.length 4 none, .sl 4 0 d.length 1 none, .int .i64 0, .int .i64 0], .arr (o.map encT) 4, .arr (d.map encN) 1] (by rfl) (by decide) (by simp -implicitDefEqProofs) (by simp -implicitDefEqProofs) ?_
      exact hrest2
  by_cases h1' : i < n
  · have h1 : (i : Int) < n := by omega
    by_cases h2' : i < 129
    · have h2 : (i : Int) < 129 := by omega
      have hq : q.2 = false := by
        cases hq : q.2 with
        | false => rfl
        | true => exact absurd ⟨by omega, hq⟩ hstep
      (repeat (first | refine Run.adm rfl ?_ | refine Run.seq ?_ | (apply Run.opS rfl; (· (simp -implicitDefEqProofs [h1, h2, h1', h2', hq]; exact ⟨rfl, rfl⟩))) | (apply Run.condS; (· (simp -implicitDefEqProofs [h1, h2, h1', h2', hq]; exact rfl)))))
      refine Run.mv [0, 1, 2, 3, 4] [(2, .ptr 0 0), (3, .int .i64 0), (4, .ptr 1 0), (5, .ptr 2 0), (6, .int .i64 n), (50, .ptr 1 0)] [.row [.nils, .nils, .int .i64 0, .int .i64 0], .row [.str q.1, .bool q.2], .row [.sl 3 0 o.length 4 none, .sl 4 0 0 1 none, .int .i64 0, .int .i64 0], .arr (o.map encT) 4, .arr [] 1] (by rfl) (by decide) (by simp -implicitDefEqProofs [hq]) (by simp -implicitDefEqProofs [hq]) ?_
      exact hrest
    · have h2 : ¬ (i : Int) < 129 := by omega
      (repeat (first | refine Run.adm rfl ?_ | refine Run.seq ?_ | (apply Run.opS rfl; (· (simp -implicitDefEqProofs [h1, h2, h1', h2']; exact ⟨rfl, rfl⟩))) | (apply Run.condS; (· (simp -implicitDefEqProofs [h1, h2, h1', h2']; exact rfl)))))
      refine Run.mv [0, 1, 2, 3, 4] [(2, .ptr 0 0), (3, .int .i64 0), (4, .ptr 1 0), (5, .ptr 2 0), (6, .int .i64 n), (50, .ptr 1 0)] [.row [.nils, .nils, .int .i64 0, .int .i64 0], .row [.str q.1, .bool q.2], .row [.sl 3 0 o.length 4 none, .sl 4 0 0 1 none, .int .i64 0, .int .i64 0], .arr (o.map encT) 4, .arr [] 1] (by rfl) (by decide) (by simp -implicitDefEqProofs) (by simp -implicitDefEqProofs) ?_
      exact hrest
  · have h1 : ¬ (i : Int) < n := by omega
    (repeat (first | refine Run.adm rfl ?_ | refine Run.seq ?_ | (apply Run.opS rfl; (· (simp -implicitDefEqProofs [h1, h1']; exact ⟨rfl, rfl⟩))) | (apply Run.condS; (· (simp -implicitDefEqProofs [h1, h1']; exact rfl)))))
    refine Run.mv [0, 1, 2, 3, 4] [(2, .ptr 0 0), (3, .int .i64 0), (4, .ptr 1 0), (5, .ptr 2 0), (6, .int .i64 n), (50, .ptr 1 0)] [.row [.nils, .nils, .int .i64 0, .int .i64 0], .row [.str q.1, .bool q.2], .row [.sl 3 0 o.length 4 none, .sl 4 0 0 1 none, .int .i64 0, .int .i64 0], .arr (o.map encT) 4, .arr [] 1] (by rfl) (by decide) (by simp -implicitDefEqProofs) (by simp -implicitDefEqProofs) ?_
    exact hrest

end Go.Proofs.Ytpipgcmiaccdkaa
