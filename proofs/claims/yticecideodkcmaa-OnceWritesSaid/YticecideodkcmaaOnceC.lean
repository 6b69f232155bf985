/-
  Layer 14, part C: the table of a list.
-/
import Derived.Test.YticecideodkcmaaOnceB
namespace Go.Proofs.Yticecideodkcmaa
open Sx Go
set_option maxRecDepth 100000
set_option linter.unusedSimpArgs false
set_option linter.unusedVariables false
set_option linter.unnecessarySimpa false
attribute [local simp] execOps guardB isCall opStep Opd.ev put upd readAt aBin aUn args0 V.celled V.ones V.one V.cells Res.run Res.all putAt bounds bound1 elemsOf srcOf appendV fillAt fillEl V.pures V.pure unwind evs ARes.ev mkRes V.ren V.renL O.ren Br.ok eqCells eq1 aEq aMM mmGo execQ

def zero : Seen := ⟨0, 0, 0, [], false, [], []⟩
def tabC (t : List Seen) : List V := t.flatMap encS
def tab0 : List Seen := List.replicate 8 zero

def readGo : List Seen → List Seen → Int → Option (List Seen)
  | [], t, _ => some t
  | x :: l, t, last => if mayB x = true ∧ last < x.client then readGo l (t.set x.client.toNat x) x.client else none

/-- the table, and whether the list may be -/
def readM (l : List Seen) : List Seen × Bool := match readGo l tab0 (-1) with
  | some t => (t, true)
  | none => (tab0, false)

theorem encS_len (x : Seen) : (encS x).length = 7 := rfl
theorem encS_pure (x : Seen) : V.pures (encS x) = true := rfl
theorem encS_ones (x : Seen) : V.ones (encS x) = true := rfl
theorem tabC_len (t : List Seen) : (tabC t).length = t.length * 7 := rows_len encS_len t
theorem tabC_pure : ∀ t : List Seen, V.pures (tabC t) = true
  | [] => rfl
  | x :: t => by
    have := tabC_pure t
    simp only [tabC] at this
    simp [tabC, List.flatMap_cons, encS, V.pures, V.pure, this]
theorem tabC_ones : ∀ t : List Seen, V.ones (tabC t) = true
  | [] => rfl
  | x :: t => by
    have := tabC_ones t
    simp only [tabC] at this
    simp [tabC, List.flatMap_cons, encS, V.ones, V.one, this]

theorem mayB_spec {x : Seen} (h : mayB x = true) : 0 ≤ x.client ∧ x.client < 8 ∧ 1 ≤ x.seq ∧ x.seq ≤ 1099511627775 ∧ x.value = [] ∧ x.pairs = [] ∧ x.upto = [] ∧ 0 ≤ x.err ∧ x.err ≤ 999 := by
  simp only [mayB, Bool.and_eq_true, decide_eq_true_eq, List.length_eq_zero_iff] at h
  simp only [h, and_self]

theorem readM_cons {x : Seen} {l t : List Seen} {last : Int} : readGo (x :: l) t last = if mayB x = true ∧ last < x.client then readGo l (t.set x.client.toNat x) x.client else none := rfl

theorem tab_take {t : List Seen} (h : t.length = 8) : (tabC t).take 56 = tabC t := List.take_of_length_le (by rw [tabC_len, h]; decide)
theorem tab_drop {t : List Seen} (h : t.length = 8) : (tabC t).drop 56 = [] := List.drop_eq_nil_of_le (by rw [tabC_len, h]; decide)
theorem tab0_len : tab0.length = 8 := rfl
def zeroC : List V := (List.replicate 8 [V.int .i64 0, .int .i64 0, .int .i64 0, .str [], .bool false, .nils, .str []]).flatten
theorem zeroC_le : VsLe zeroC (tabC tab0) := by
  repeat (first | exact trivial | refine And.intro (VLe.refl _) ?_ | refine And.intro (VLe.nils _) ?_)

theorem read_tri (l : List Seen) (hll : l.length ≤ 1000000) : Tri Try.prog 25 [.vs (l.map encS) 7] [] (fun v H => v = .tup [.agg (tabC (readM l).1), .bool (readM l).2] ∧ H = []) := by
  refine Tri.of_run' Try.func25 rfl c25_ok (by simp [Try.ntmps25]) ?_
  (repeat (first | refine Run.seq ?_ | refine Run.skip ?_ | refine Run.block ?_ | refine Run.endB ?_)); refine Run.region ?_; simp -implicitDefEqProofs [c25r0]
  (repeat (first | refine Run.seq ?_ | refine Run.skip ?_ | refine Run.block ?_ | refine Run.endB ?_)); refine Run.region ?_; simp -implicitDefEqProofs [c25r1]
  (repeat (first | refine Run.seq ?_ | refine Run.skip ?_ | refine Run.block ?_ | refine Run.endB ?_)); refine Run.region ?_; simp -implicitDefEqProofs [c25r2]
  (repeat (first | refine Run.seq ?_ | refine Run.skip ?_ | refine Run.block ?_ | refine Run.endB ?_)); refine Run.region ?_; simp -implicitDefEqProofs [c25r3]
  refine Run.leH [.row (tabC tab0), .row (tabC tab0)] ?_ ?_
  · exact ⟨zeroC_le, zeroC_le, trivial⟩
  (repeat (first | refine Run.seq ?_ | refine Run.skip ?_ | refine Run.block ?_ | refine Run.endB ?_))
  refine Run.loop (fun n t h => ∃ (i : Nat) (tb : List Seen) (last : Int), n = l.length - i ∧ i ≤ l.length ∧ tb.length = 8 ∧ readGo l tab0 (-1) = readGo (l.drop i) tb last ∧ t 2 = .ptr 0 0 ∧ t 4 = .ptr 1 0 ∧ t 5 = .int .i64 last ∧ t 8 = .vs (l.map encS) 7 ∧ t 9 = .int .i64 l.length ∧ t 10 = .int .i64 i ∧
    h = [.row (tabC tab0), .row (tabC tb)]) ?_ ⟨0, tab0, -1, rfl, by omega, rfl, by simp, by simp, by simp, by simp, by simp, by simp, by simp, rfl⟩
  rintro n t h ⟨i, tb, last, rfl, hi, htb, hgo, h2, h4, h5, h8, h9, h10, rfl⟩ ih
  (repeat (first | refine Run.seq ?_ | refine Run.skip ?_ | refine Run.block ?_ | refine Run.endB ?_))
  (repeat (first | refine Run.seq ?_ | refine Run.skip ?_ | refine Run.block ?_ | refine Run.endB ?_)); refine Run.region ?_; simp -implicitDefEqProofs [c25r4, h10, h9]
  by_cases hlt : (i : Int) < (l.length : Int)
  · (repeat (first | refine Run.seq ?_ | refine Run.skip ?_ | refine Run.block ?_ | refine Run.endB ?_))
    refine Run.condT (by simp [Opd.ev]; omega) ?_
    have hil : i < l.length := by omega
    obtain ⟨x, hx⟩ : ∃ x, l[i]? = some x := ⟨l[i], by simp [hil]⟩
    (repeat (first | refine Run.seq ?_ | refine Run.skip ?_ | refine Run.block ?_ | refine Run.endB ?_)); refine Run.region ?_; simp -implicitDefEqProofs [c25r5, h8, h10, hx, encS, encR]
    (repeat (first | refine Run.seq ?_ | refine Run.skip ?_ | refine Run.block ?_ | refine Run.endB ?_)); refine Run.region ?_; simp -implicitDefEqProofs [c25r6]
    refine Run.call trivial rfl ((may_tri x).any (Post := fun v => v = .bool (mayB x)) (by rintro v ρ rfl; rfl) (by simp [encS]) _) ?_
    rintro v h' ⟨rfl, rfl⟩
    refine Run.ops ?_
    refine Res.cut (fun t' h' => t' 22 = .bool (!(mayB x && decide (last < x.client))) ∧ t' 2 = .ptr 0 0 ∧ t' 4 = .ptr 1 0 ∧ t' 5 = .int .i64 last ∧ t' 7 = .ptr 2 0 ∧ t' 8 = .vs (l.map encS) 7 ∧ t' 9 = .int .i64 l.length ∧ t' 10 = .int .i64 i ∧
      h' = [.row (tabC tab0), .row (tabC tb), .row (encS x)]) ?_ ?_
    · by_cases a1 : mayB x = true
      rotate_left
      · simp -implicitDefEqProofs [h2, h4, h5, h8, h9, h10, encS, a1]; try omega
      by_cases a2 : last < x.client
      rotate_left
      · simp -implicitDefEqProofs [h2, h4, h5, h8, h9, h10, encS, a1, a2]; try omega
      simp -implicitDefEqProofs [h2, h4, h5, h8, h9, h10, encS, a1, a2]; try omega
    rintro t' h' ⟨k22, k2, k4, k5, k7, k8, k9, k10, rfl⟩
    by_cases hok : mayB x = true ∧ last < x.client
    · (repeat (first | refine Run.seq ?_ | refine Run.skip ?_ | refine Run.block ?_ | refine Run.endB ?_))
      refine Run.condF (by simp [Opd.ev, k22, hok]) ?_
      (repeat (first | refine Run.seq ?_ | refine Run.skip ?_ | refine Run.block ?_ | refine Run.endB ?_))
      obtain ⟨hm, hl⟩ := hok
      obtain ⟨m1, m2, m3, m4, m5, m6, m7, m8, m9⟩ := mayB_spec hm
      obtain ⟨c, hc⟩ : ∃ c : Nat, x.client = c := ⟨x.client.toNat, by omega⟩
      have hc8 : c < 8 := by omega
      have hc8' : (c : Int) < 8 := by omega
      obtain ⟨y, hy⟩ : ∃ y, tb[c]? = some y := ⟨tb[c], by simp [htb, hc8]⟩
      refine Run.quietTo prog_mixed 6 (by kernel_rfl) (execQ_mono (K := fun t' h' => t' 26 = .agg (encS x) ∧ t' 27 = .ptr 2 0 ∧ t' 28 = .int .i64 c ∧ t' 29 = .ptr 1 (c * 7) ∧ t' 2 = .ptr 0 0 ∧ t' 4 = .ptr 1 0 ∧ t' 7 = .ptr 2 0 ∧ t' 8 = .vs (l.map encS) 7 ∧ t' 9 = .int .i64 l.length ∧ t' 10 = .int .i64 i ∧
        h' = [.row (tabC tab0), .row (tabC tb), .row (encS x)]) ?_ ?_)
      rotate_left
      · simp -implicitDefEqProofs [c25d0, k2, k4, k5, k7, k8, k9, k10, encS, hc, hc8, hc8']
      rintro t' h' ⟨q26, q27, q28, q29, q2, q4, q7, q8, q9, q10, rfl⟩ hpo
      show RunD _ c25d0 [6, 7] [5, 4, 3, 2, 1, 0] _ _ _
      have hput : putAt (tabC tb) (c * 7) (encS x) = tabC (tb.set c x) := by
        have := rows_put encS_len hy (j := 0) (vs := encS x) (y := x) (by simp [encS_len]) (by simp [putAt, encS])
        rwa [Nat.add_zero] at this
      refine RunD.chain (by kernel_rfl) hpo rfl (.inr ⟨rfl, .inl ⟨.any, [.row (tabC tab0), .row (tabC (tb.set c x)), .row (encS x)], ?_, ?_⟩⟩)
      · simp only [opStep, Opd.ev, q26, q29, V.celled, V.cells, encS_ones, encS_len, beq_self_eq_true, Bool.and_self, if_true, List.getElem?_cons_succ, List.getElem?_cons_zero, hput, tabC_len, htb]
        simp; omega
      refine RunD.chain (by kernel_rfl) ?_ rfl (.inr ⟨rfl, .inl ⟨.int .i64 c, [.row (tabC tab0), .row (tabC (tb.set c x)), .row (encS x)], ?_, ?_⟩⟩)
      · show PendOk _ c25d0 t' _ [4, 3]
        simp [PendOk, c25d0, q7, q27, q28, encS, hc]
      · simp [q28]
      show RunD _ c25d0 [] [] _ (upd t' 5 (.int .i64 c)) _
      refine RunD.fin (by kernel_rfl) trivial ?_
      (repeat (first | refine Run.seq ?_ | refine Run.skip ?_ | refine Run.block ?_ | refine Run.endB ?_)); refine Run.region ?_; simp -implicitDefEqProofs [c25r8, q10]
      rw [wrap_small (by omega) (by omega)]
      refine Run.keep 2 [2, 4, 5, 8, 9, 10] (by simp) (by simp) (by simp [q2, q4, q8, q9, fr]) (by simp [V.renL_pure _ _ (tabC_pure _)]) ?_
      refine ih (l.length - (i + 1)) _ _ (by omega) ⟨i + 1, tb.set c x, c, rfl, by omega, by simp [htb], ?_, by simp [q2], by simp [q4], by simp, by simp [q8], by simp [q9], by simp, rfl⟩
      rw [hgo, List.drop_eq_getElem_cons hil, readGo, (Option.some.inj ((List.getElem?_eq_getElem hil).symm.trans hx)), if_pos ⟨hm, hl⟩, hc]
      rfl
    · (repeat (first | refine Run.seq ?_ | refine Run.skip ?_ | refine Run.block ?_ | refine Run.endB ?_))
      refine Run.condT (by rw [Opd.ev, k22, V.bool.injEq, Bool.not_eq_true', ← Bool.not_eq_true, Bool.and_eq_true, decide_eq_true_eq]; exact hok) ?_
      (repeat (first | refine Run.seq ?_ | refine Run.skip ?_ | refine Run.block ?_ | refine Run.endB ?_)); refine Run.region ?_; simp -implicitDefEqProofs [c25r7, k2, tab_drop tab0_len, tabC_len, tab0_len]
      refine Run.leH [.row (tabC tab0), .row (tabC tb), .row (encS x)] ⟨zeroC_le, VsLe.refl _, VsLe.refl _, trivial⟩ ?_
      (repeat (first | refine Run.seq ?_ | refine Run.skip ?_ | refine Run.block ?_ | refine Run.endB ?_))
      have hM : readM l = (tab0, false) := by
        have : readGo l tab0 (-1) = none := by rw [hgo, List.drop_eq_getElem_cons hil, readGo, if_neg]; rw [(Option.some.inj ((List.getElem?_eq_getElem hil).symm.trans hx))]; exact hok
        simp [readM, this]
      refine Run.ret0 rfl Try.func25 r25_ok trivial (by simp [r25, k2, tabC_len, tab0_len]; rfl) ?_ ?_
      · simp [hM, tab_take tab0_len]
      · simp [tab_take tab0_len, V.renL_pure _ _ (tabC_pure _)]
  · (repeat (first | refine Run.seq ?_ | refine Run.skip ?_ | refine Run.block ?_ | refine Run.endB ?_))
    refine Run.condF (by simp [Opd.ev]; omega) ?_
    refine Run.exit rfl ?_
    (repeat (first | refine Run.seq ?_ | refine Run.skip ?_ | refine Run.block ?_ | refine Run.endB ?_)); refine Run.region ?_; simp -implicitDefEqProofs [c25r9, h2, h4, tabC_len, htb, tabC_ones, tab_drop tab0_len, tab_take htb, tab0_len]
    (repeat (first | refine Run.seq ?_ | refine Run.skip ?_ | refine Run.block ?_ | refine Run.endB ?_))
    have hM : readM l = (tb, true) := by
      have : l.drop i = [] := List.drop_eq_nil_of_le (by omega)
      simp [readM, hgo, this, readGo]
    refine Run.ret0 rfl Try.func25 r25_ok trivial (by simp [r25, h2, tabC_len, htb]; rfl) ?_ ?_
    · simp [hM, tab_take htb]
    · simp [tab_take htb, V.renL_pure _ _ (tabC_pure _)]

end Go.Proofs.Yticecideodkcmaa
