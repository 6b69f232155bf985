/-
  Layer 14, part W: what clients did last, of the pairs that writes left.
-/
import Derived.Test.YticecideodkcmaaOnceV
import Derived.Test.YticecideodkcmaaSx7
namespace Go.Proofs.Yticecideodkcmaa
open Sx Go
set_option maxRecDepth 100000
set_option linter.unusedSimpArgs false
set_option linter.unusedVariables false
set_option linter.unnecessarySimpa false
attribute [local simp] guardB isCall opStep Opd.ev put readAt aBin aUn args0 V.celled V.ones V.one V.cells putAt bounds bound1 elemsOf srcOf appendV fillAt fillEl V.pures V.pure unwind evs ARes.ev mkRes V.ren V.renL O.ren eqCells eq1 aEq aMM hasTy hasTyN okTy mmGo Known HLe OLe VsLe.refl VLe.refl Stay VsLe V.frz V.frzL O.frz fr clearV rn KnownR Objs OLeO ObjsE nm back setAll ren_ite take_map_len List.take_of_length_le
attribute [local simp ↓] upd_app tl_cons tl_nil
attribute [local simp] encS_ren encS_ones

abbrev Bs := List UInt8
/-- so many numbers that bytes begin with, and what is left -/
def takeN : Nat → Bs → Option (List Nat × Bs)
  | 0, s => some ([], s)
  | m + 1, s => if (vtake s).2.2 = 0 then (takeN m (s.drop (vtake s).2.1)).map (fun r => ((vtake s).1 :: r.1, r.2)) else none

theorem takeN_len : ∀ {m : Nat} {s : Bs} {ns : List Nat} {r : Bs}, takeN m s = some (ns, r) → ns.length = m
  | 0, s, ns, r, h => by simp only [takeN, Option.some.injEq, Prod.mk.injEq] at h; rw [← h.1]; rfl
  | m + 1, s, ns, r, h => by
    simp only [takeN] at h
    split at h
    · simp only [Option.map_eq_some_iff] at h
      obtain ⟨⟨ns', r'⟩, h1, h2⟩ := h
      simp only [Prod.mk.injEq] at h2
      rw [← h2.1]; simp [takeN_len h1]
    · cases h

def seenOf (c a b d : Nat) : Seen := ⟨(c : Int) - 48, a, b, [], decide (d = 1), [], []⟩

/-- what a client did last, of a pair -/
def triple (c : UInt8) : Option (List Nat × Bs) → Option Seen
  | some ([a, b, d], []) => if b ≤ 999 ∧ d ≤ 1 then some (seenOf c.toNat a b d) else none
  | _ => none
def oneM (p : Bs × Bs) : Option Seen :=
  match p.1 with
  | [t, c] => if t = 116 then triple c (takeN 3 p.2) else none
  | _ => none

def ofGo : List (Bs × Bs) → Option (List Seen)
  | [] => some []
  | p :: l => match oneM p with
    | some x => (ofGo l).map (x :: ·)
    | none => none
/-- what Of answers -/
def ofM (l : List (Bs × Bs)) : List Seen × Int := match ofGo l with
  | some o => if okGo o (-1) = true then (o, 0) else ([], 1)
  | none => ([], 1)

theorem takeN_step (m : Nat) (s : Bs) : takeN (m + 1) s = if (vtake s).2.2 = 0 then (takeN m (s.drop (vtake s).2.1)).map (fun r => ((vtake s).1 :: r.1, r.2)) else none := rfl

def encN (n : Nat) : List V := [.int .i64 n]
theorem encN_flat (ns : List Nat) : ns.flatMap encN = ns.map (fun n : Nat => V.int .i64 (n : Int)) := by
  induction ns with
  | nil => rfl
  | cons n ns ih => simp [List.flatMap_cons, encN, ih]

theorem encN_pure (ns : List Nat) : V.pures (ns.flatMap encN) = true := by
  induction ns with
  | nil => rfl
  | cons n ns ih => simp [List.flatMap_cons, encN, V.pures, V.pure, ih]

theorem of_tri (l : List (Bs × Bs)) (hll : l.length ≤ 1000) (hl : ∀ p ∈ l, p.2.length ≤ 1000000) : Tri Try.prog 21 [.vs (l.map encP) 2] [] (fun v H => v = .tup [.vs ((ofM l).1.map encS) 7, .int .i64 (ofM l).2] ∧ H = []) := by
  refine Tri.of_run' Try.func21 rfl c21_ok (by simp [Try.ntmps21]) ?_
  have hbad : ∀ {k t h}, AtEnd k → ofM l = ([], 1) → t 2 = .nils → t 3 = .int .i64 1 → Run ⟨Try.prog, 21, Try.f21.ntmps, [], fun v H => v = .tup [.vs ((ofM l).1.map encS) 7, .int .i64 (ofM l).2] ∧ H = []⟩ ⟨k, t, h⟩ := by
    intro k t h hk hM h2 h3
    refine Run.mv [] [(2, .vs [] 7), (3, .int .i64 1)] [] (by rfl) (by decide) (by simp [h2, h3, VLe.nils]) (by simp) ?_
    refine Run.retI Try.func21 r21_ok hk (by simp [r21]; rfl) (by simp) ?_ (by simp) (by simp)
    simp [hM]
  (repeat (first | refine Run.seq ?_ | refine Run.reg ?_ | refine Run.skip ?_ | refine Run.block ?_ | refine Run.endB ?_ | refine Run.opE rfl ?_ | (apply Run.op0 rfl; (· (simp -implicitDefEqProofs; exact ⟨rfl, rfl⟩))) | (apply Run.opA rfl; (· (simp -implicitDefEqProofs; done)); (· (simp -implicitDefEqProofs; exact ⟨rfl, rfl⟩))) | (apply Run.opN rfl; (· (simp -implicitDefEqProofs; done))) | (refine Run.condT ?_ ?_; (· (simp -implicitDefEqProofs; done))) | (refine Run.condF ?_ ?_; (· (simp -implicitDefEqProofs; done))) | refine Run.exit rfl ?_))
  refine Run.nilA 4 7 (by simp) ?_
  refine Run.loopC [0] (fun (a : Nat × List Seen) => ([(4, .sl 0 0 a.2.length 7 none), (15, .vs (l.map encP) 2), (16, .int .i64 l.length), (17, .int .i64 a.1)], [.arr (a.2.map encS) 7]))
    (fun a => a.1 ≤ l.length ∧ a.2.length ≤ a.1 ∧ ofGo l = (ofGo (l.drop a.1)).map (a.2 ++ ·)) (fun a => l.length - a.1) (0, []) (by simp) (by rfl) (by decide) (by simp) (by simp) ?_
  rintro ⟨i, o⟩ ⟨hi, ho, hgo⟩ ih
  simp only at hi ho hgo ih ⊢
  by_cases hlt : i < l.length
  · obtain ⟨⟨key, val⟩, hp, hpi, hdrop, hmem⟩ := getL hlt
    have hw := wrap_small (n := (i : Int) + 1) (by omega) (by omega)
    have hval : val.length ≤ 1000000 := hl _ hmem
    rw [hdrop, ofGo] at hgo
    (repeat (first | refine Run.seq ?_ | refine Run.reg ?_ | refine Run.skip ?_ | refine Run.block ?_ | refine Run.endB ?_ | refine Run.opE rfl ?_ | (apply Run.op0 rfl; (· (simp -implicitDefEqProofs [hlt, hp, hpi, encP]; exact ⟨rfl, rfl⟩))) | (apply Run.opA rfl; (· (simp -implicitDefEqProofs [hlt, hp, hpi, encP]; done)); (· (simp -implicitDefEqProofs [hlt, hp, hpi, encP]; exact ⟨rfl, rfl⟩))) | (apply Run.opN rfl; (· (simp -implicitDefEqProofs [hlt, hp, hpi, encP]; done))) | (refine Run.condT ?_ ?_; (· (simp -implicitDefEqProofs [hlt, hp, hpi, encP]; done))) | (refine Run.condF ?_ ?_; (· (simp -implicitDefEqProofs [hlt, hp, hpi, encP]; done))) | refine Run.exit rfl ?_))
    by_cases hk2 : key.length = 2
    · obtain ⟨t, c, rfl⟩ : ∃ t c, key = [t, c] := by
        match key, hk2 with
        | [t, c], _ => exact ⟨t, c, rfl⟩
      by_cases ht : (t.toNat : Int) = 116
      · have ht' : t = 116 := by
          have : t.toNat = 116 := by omega
          exact UInt8.toNat_inj.1 (by rw [this]; rfl)
        have hone : oneM ([t, c], val) = triple c (takeN 3 val) := by simp [oneM, ht']
        (repeat (first | refine Run.seq ?_ | refine Run.reg ?_ | refine Run.skip ?_ | refine Run.block ?_ | refine Run.endB ?_ | refine Run.opE rfl ?_ | (apply Run.op0 rfl; (· (simp -implicitDefEqProofs [ht, encP]; exact ⟨rfl, rfl⟩))) | (apply Run.opA rfl; (· (simp -implicitDefEqProofs [ht, encP]; done)); (· (simp -implicitDefEqProofs [ht, encP]; exact ⟨rfl, rfl⟩))) | (apply Run.opN rfl; (· (simp -implicitDefEqProofs [ht, encP]; done))) | (refine Run.condT ?_ ?_; (· (simp -implicitDefEqProofs [ht, encP]; done))) | (refine Run.condF ?_ ?_; (· (simp -implicitDefEqProofs [ht, encP]; done))) | refine Run.exit rfl ?_))
        refine Run.loopC [0, 1, 2] (fun (a : Nat × Bs × List Nat) => ([(4, .sl 0 0 o.length 7 none), (6, .ptr 1 0), (7, .ptr 2 0), (8, .str a.2.1), (15, .vs (l.map encP) 2), (16, .int .i64 l.length), (17, .int .i64 i), (33, .int .i64 a.1)], [.arr (o.map encS) 7, .row [.str [t, c], .str val], .row (a.2.2.flatMap encN)]))
          (fun a => a.1 ≤ 3 ∧ a.2.2.length = 3 ∧ a.2.1.length ≤ 1000000 ∧ takeN 3 val = (takeN (3 - a.1) a.2.1).map (fun r => (a.2.2.take a.1 ++ r.1, r.2))) (fun a => 3 - a.1) (0, val, [0, 0, 0]) (by simp [hval]) (by rfl) (by decide) (by simp) (by simp [encP, encN]) ?_
        rintro ⟨k, s, ns⟩ ⟨hk, hns, hs, htk⟩ ih2
        simp only at hk hns hs htk ih2 ⊢
        by_cases hk3 : k < 3
        · have hk3' : (k : Int) < 3 := by omega
          have hkw := wrap_small (n := (k : Int) + 1) (by omega) (by omega)
          (repeat (first | refine Run.seq ?_ | refine Run.reg ?_ | refine Run.skip ?_ | refine Run.block ?_ | refine Run.endB ?_ | refine Run.opE rfl ?_ | (apply Run.op0 rfl; (· (simp -implicitDefEqProofs [hk3']; exact ⟨rfl, rfl⟩))) | (apply Run.opA rfl; (· (simp -implicitDefEqProofs [hk3']; done)); (· (simp -implicitDefEqProofs [hk3']; exact ⟨rfl, rfl⟩))) | (apply Run.opN rfl; (· (simp -implicitDefEqProofs [hk3']; done))) | (refine Run.condT ?_ ?_; (· (simp -implicitDefEqProofs [hk3']; done))) | (refine Run.condF ?_ ?_; (· (simp -implicitDefEqProofs [hk3']; done))) | refine Run.exit rfl ?_))
          refine Run.opC rfl rfl rfl (vtake_at s (by omega) _) ?_
          rintro v h' ⟨rfl, rfl⟩
          rw [show 3 - k = (3 - (k + 1)) + 1 by omega, takeN_step (3 - (k + 1)) s] at htk
          (repeat (first | refine Run.seq ?_ | refine Run.reg ?_ | refine Run.skip ?_ | refine Run.block ?_ | refine Run.endB ?_ | refine Run.opE rfl ?_ | (apply Run.op0 rfl; (· (simp -implicitDefEqProofs [vtakeV]; exact ⟨rfl, rfl⟩))) | (apply Run.opA rfl; (· (simp -implicitDefEqProofs [vtakeV]; done)); (· (simp -implicitDefEqProofs [vtakeV]; exact ⟨rfl, rfl⟩))) | (apply Run.opN rfl; (· (simp -implicitDefEqProofs [vtakeV]; done))) | (refine Run.condT ?_ ?_; (· (simp -implicitDefEqProofs [vtakeV]; done))) | (refine Run.condF ?_ ?_; (· (simp -implicitDefEqProofs [vtakeV]; done))) | refine Run.exit rfl ?_))
          by_cases he : (vtake s).2.2 = 0
          · rw [if_pos he] at htk
            have hle := vtake_le s
            have hle' : ((vtake s).2.1 : Int) ≤ s.length := by omega
            obtain ⟨x, hx, -, -, -⟩ := getL (l := ns) (i := k) (by omega)
            have hfl : (ns.flatMap encN).length = 3 := by rw [encN_flat]; simp [hns]
            have hput : putAt (ns.flatMap encN) k [.int .i64 (vtake s).1] = (ns.set k (vtake s).1).flatMap encN := by
              have := rows_put (f := encN) (w := 1) (fun _ => rfl) hx (j := 0) (vs := [.int .i64 (vtake s).1]) (y := (vtake s).1) (by simp) (by simp [putAt, encN])
              simpa using this
            (repeat (first | refine Run.seq ?_ | refine Run.reg ?_ | refine Run.skip ?_ | refine Run.block ?_ | refine Run.endB ?_ | refine Run.opE rfl ?_ | (apply Run.op0 rfl; (· (simp -implicitDefEqProofs [he]; exact ⟨rfl, rfl⟩))) | (apply Run.opA rfl; (· (simp -implicitDefEqProofs [he]; done)); (· (simp -implicitDefEqProofs [he]; exact ⟨rfl, rfl⟩))) | (apply Run.opN rfl; (· (simp -implicitDefEqProofs [he]; done))) | (refine Run.condT ?_ ?_; (· (simp -implicitDefEqProofs [he]; done))) | (refine Run.condF ?_ ?_; (· (simp -implicitDefEqProofs [he]; done))) | refine Run.exit rfl ?_))
            refine Run.drawn prog_mixed ?_
            show RunD _ c21d0 [0, 1, 2, 3, 4, 5, 6, 7] [] _ _ _
            refine RunD.flow [0, 1, 2, 3, 4, 5] (by kernel_rfl) (by decide +kernel) (by decide +kernel) (by decide) trivial ?_; (repeat (first | refine execQ_E rfl ?_ | (apply execQ_0 rfl; (· rfl); (· (simp -implicitDefEqProofs [hk3', hle, hle']; exact ⟨rfl, rfl⟩))) | (apply execQ_A rfl; (· (simp -implicitDefEqProofs [hk3', hle, hle']; done)); (· rfl); (· (simp -implicitDefEqProofs [hk3', hle, hle']; exact ⟨rfl, rfl⟩))) | (apply execQ_N rfl; (· (simp -implicitDefEqProofs [hk3', hle, hle']; done))))); intro hpo
            refine RunD.alt1 6 (by kernel_rfl) (by kernel_rfl) hpo ?_
            have hb1 : k + 1 ≤ 3 := by omega
            simp only [putAt] at hput
            (first | (apply AStep.o0 rfl; (· (simp -implicitDefEqProofs [hfl, hb1, hput]; exact ⟨rfl, rfl⟩))) | (apply AStep.A rfl; (· (simp -implicitDefEqProofs [hfl, hb1, hput]; done)); (· (simp -implicitDefEqProofs [hfl, hb1, hput]; exact ⟨rfl, rfl⟩))) | (apply AStep.N rfl; (· (simp -implicitDefEqProofs [hfl, hb1, hput]; done))))
            refine RunD.alt1 7 (by kernel_rfl) (by kernel_rfl) (by
              show PendOk _ c21d0 _ _ [4, 3, 2]
              (repeat (first | exact PendOk.nil | (refine PendOk.op rfl rfl rfl ?_ ?_; (· (simp -implicitDefEqProofs [hle, hle']; done))) | (refine PendOk.op rfl rfl ?_ ?_ ?_; (· (simp -implicitDefEqProofs [hle, hle']; done)); (· (simp -implicitDefEqProofs [hle, hle']; done))) | (refine PendOk.skip rfl rfl ?_ ?_; (· (simp -implicitDefEqProofs [hle, hle']; done)))))) ?_
            (first | (apply AStep.o0 rfl; (· (simp -implicitDefEqProofs; exact ⟨rfl, rfl⟩))) | (apply AStep.A rfl; (· (simp -implicitDefEqProofs; done)); (· (simp -implicitDefEqProofs; exact ⟨rfl, rfl⟩))) | (apply AStep.N rfl; (· (simp -implicitDefEqProofs; done))))
            refine RunD.fin (by kernel_rfl) (show PendOk _ c21d0 _ _ [] from trivial) ?_
            (repeat (first | refine Run.seq ?_ | refine Run.reg ?_ | refine Run.skip ?_ | refine Run.block ?_ | refine Run.endB ?_ | refine Run.opE rfl ?_ | (apply Run.op0 rfl; (· (simp -implicitDefEqProofs; exact ⟨rfl, rfl⟩))) | (apply Run.opA rfl; (· (simp -implicitDefEqProofs; done)); (· (simp -implicitDefEqProofs; exact ⟨rfl, rfl⟩))) | (apply Run.opN rfl; (· (simp -implicitDefEqProofs; done))) | (refine Run.condT ?_ ?_; (· (simp -implicitDefEqProofs; done))) | (refine Run.condF ?_ ?_; (· (simp -implicitDefEqProofs; done))) | refine Run.exit rfl ?_))
            refine Run.mv [0, 1, 2] _ _ (by rfl) (by decide) (by simp [hkw]) (by simp [encP, V.renL_pure _ _ (encN_pure _)]; simp only [List.cons_append, List.nil_append, List.length_cons, List.length_nil, Nat.zero_add] at hput; rw [hput]; exact VsLe.refl _) (ih2 (k + 1, s.drop (vtake s).2.1, ns.set k (vtake s).1) ?_ ?_)
            · refine ⟨by simp only; omega, by simp [hns], by simp; omega, ?_⟩
              simp only
              rw [htk, Option.map_map]
              congr 1
              funext r
              simp only [Function.comp_apply, Prod.mk.injEq, and_true]
              rw [List.take_add_one, List.getElem?_set_self (by omega), List.take_set_of_le (Nat.le_refl _)]
              simp
            · simp only; omega
          · rw [if_neg he] at htk
            (repeat (first | refine Run.seq ?_ | refine Run.reg ?_ | refine Run.skip ?_ | refine Run.block ?_ | refine Run.endB ?_ | refine Run.opE rfl ?_ | (apply Run.op0 rfl; (· (simp -implicitDefEqProofs [he]; exact ⟨rfl, rfl⟩))) | (apply Run.opA rfl; (· (simp -implicitDefEqProofs [he]; done)); (· (simp -implicitDefEqProofs [he]; exact ⟨rfl, rfl⟩))) | (apply Run.opN rfl; (· (simp -implicitDefEqProofs [he]; done))) | (refine Run.condT ?_ ?_; (· (simp -implicitDefEqProofs [he]; done))) | (refine Run.condF ?_ ?_; (· (simp -implicitDefEqProofs [he]; done))) | refine Run.exit rfl ?_))
            refine hbad trivial ?_ (by simp) (by simp)
            rw [hone, htk] at hgo
            simp only [triple] at hgo
            simp [ofM, hgo]
        · have hk3' : ¬ (k : Int) < 3 := by omega
          have : k = 3 := by omega
          subst this
          obtain ⟨a, b, d, rfl⟩ : ∃ a b d, ns = [a, b, d] := by
            match ns, hns with
            | [a, b, d], _ => exact ⟨a, b, d, rfl⟩
          have htk' : takeN 3 val = some ([a, b, d], s) := by rw [htk]; simp [takeN]
          (repeat (first | refine Run.seq ?_ | refine Run.reg ?_ | refine Run.skip ?_ | refine Run.block ?_ | refine Run.endB ?_ | refine Run.opE rfl ?_ | (apply Run.op0 rfl; (· (simp -implicitDefEqProofs; exact ⟨rfl, rfl⟩))) | (apply Run.opA rfl; (· (simp -implicitDefEqProofs; done)); (· (simp -implicitDefEqProofs; exact ⟨rfl, rfl⟩))) | (apply Run.opN rfl; (· (simp -implicitDefEqProofs; done))) | (refine Run.condT ?_ ?_; (· (simp -implicitDefEqProofs; done))) | (refine Run.condF ?_ ?_; (· (simp -implicitDefEqProofs; done))) | refine Run.exit rfl ?_))
          by_cases hse : s = []
          · subst hse
            rw [hone, htk'] at hgo
            simp only [triple] at hgo
            by_cases hb : b ≤ 999
            · by_cases hd : d ≤ 1
              · have hb' : ¬ (999 : Int) < b := by omega
                have hd' : ¬ (1 : Int) < d := by omega
                rw [if_pos ⟨hb, hd⟩] at hgo
                simp only at hgo
                have hbb : (o.length + 1) * 88 ≤ 70368744177664 := by omega
                have hsub : IntKind.i64.wrap (IntKind.i64.wrap (c.toNat : Int) - 48) = (c.toNat : Int) - 48 := by
                  have := c.toNat_lt
                  rw [wrap_small (n := (c.toNat : Int)) (by omega) (by omega), wrap_small (by omega) (by omega)]
                have hd1 : ((d : Int) = 1) = (d = 1) := by rw [eq_iff_iff]; omega
                (repeat (first | refine Run.seq ?_ | refine Run.reg ?_ | refine Run.skip ?_ | refine Run.block ?_ | refine Run.endB ?_ | refine Run.opE rfl ?_ | (apply Run.op0 rfl; (· (simp -implicitDefEqProofs [hb', hd', encN, hb, hd]; exact ⟨rfl, rfl⟩))) | (apply Run.opA rfl; (· (simp -implicitDefEqProofs [hb', hd', encN, hb, hd]; done)); (· (simp -implicitDefEqProofs [hb', hd', encN, hb, hd]; exact ⟨rfl, rfl⟩))) | (apply Run.opN rfl; (· (simp -implicitDefEqProofs [hb', hd', encN, hb, hd]; done))) | (refine Run.condT ?_ ?_; (· (simp -implicitDefEqProofs [hb', hd', encN, hb, hd]; done))) | (refine Run.condF ?_ ?_; (· (simp -implicitDefEqProofs [hb', hd', encN, hb, hd]; done))) | refine Run.exit rfl ?_))
                refine Run.drawn prog_mixed ?_
                show RunD _ c21d1 [0, 1, 2, 3, 4, 5, 6, 7, 8, 9, 10, 11, 12, 13, 14, 15, 16, 17] [] _ _ _
                refine RunD.flow [0, 1, 2, 3, 4, 5, 6, 7, 8, 9, 10, 11, 12, 13, 14] (by kernel_rfl) (by decide +kernel) (by decide +kernel) (by decide) trivial ?_; (repeat (first | refine execQ_E rfl ?_ | (apply execQ_0 rfl; (· rfl); (· (simp -implicitDefEqProofs [hsub, encN, hd1]; exact ⟨rfl, rfl⟩))) | (apply execQ_A rfl; (· (simp -implicitDefEqProofs [hsub, encN, hd1]; done)); (· rfl); (· (simp -implicitDefEqProofs [hsub, encN, hd1]; exact ⟨rfl, rfl⟩))) | (apply execQ_N rfl; (· (simp -implicitDefEqProofs [hsub, encN, hd1]; done))))); intro hpo
                refine RunD.alt1 15 (by kernel_rfl) (by kernel_rfl) hpo ?_
                (first | (apply AStep.o0 rfl; (· (simp -implicitDefEqProofs; exact ⟨rfl, rfl⟩))) | (apply AStep.A rfl; (· (simp -implicitDefEqProofs; done)); (· (simp -implicitDefEqProofs; exact ⟨rfl, rfl⟩))) | (apply AStep.N rfl; (· (simp -implicitDefEqProofs; done))))
                refine RunD.alt1 16 (by kernel_rfl) (by kernel_rfl) (by
                  show PendOk _ c21d1 _ _ [0]
                  (repeat (first | exact PendOk.nil | (refine PendOk.op rfl rfl rfl ?_ ?_; (· (simp -implicitDefEqProofs; done))) | (refine PendOk.op rfl rfl ?_ ?_ ?_; (· (simp -implicitDefEqProofs; done)); (· (simp -implicitDefEqProofs; done))) | (refine PendOk.skip rfl rfl ?_ ?_; (· (simp -implicitDefEqProofs; done)))))) ?_
                (first | (apply AStep.o0 rfl; (· (simp -implicitDefEqProofs [hbb]; exact ⟨rfl, rfl⟩))) | (apply AStep.A rfl; (· (simp -implicitDefEqProofs [hbb]; done)); (· (simp -implicitDefEqProofs [hbb]; exact ⟨rfl, rfl⟩))) | (apply AStep.N rfl; (· (simp -implicitDefEqProofs [hbb]; done))))
                refine RunD.alt1 17 (by kernel_rfl) (by kernel_rfl) (show PendOk _ c21d1 _ _ [] from trivial) ?_
                (first | (apply AStep.o0 rfl; (· (simp -implicitDefEqProofs; exact ⟨rfl, rfl⟩))) | (apply AStep.A rfl; (· (simp -implicitDefEqProofs; done)); (· (simp -implicitDefEqProofs; exact ⟨rfl, rfl⟩))) | (apply AStep.N rfl; (· (simp -implicitDefEqProofs; done))))
                refine RunD.fin (by kernel_rfl) (show PendOk _ c21d1 _ _ [] from trivial) ?_
                (repeat (first | refine Run.seq ?_ | refine Run.reg ?_ | refine Run.skip ?_ | refine Run.block ?_ | refine Run.endB ?_ | refine Run.opE rfl ?_ | (apply Run.op0 rfl; (· (simp -implicitDefEqProofs; exact ⟨rfl, rfl⟩))) | (apply Run.opA rfl; (· (simp -implicitDefEqProofs; done)); (· (simp -implicitDefEqProofs; exact ⟨rfl, rfl⟩))) | (apply Run.opN rfl; (· (simp -implicitDefEqProofs; done))) | (refine Run.condT ?_ ?_; (· (simp -implicitDefEqProofs; done))) | (refine Run.condF ?_ ?_; (· (simp -implicitDefEqProofs; done))) | refine Run.exit rfl ?_))
                refine Run.leE 4 (es' := (o ++ [seenOf c.toNat a b d]).map encS) (by simp; exact ⟨rfl, rfl⟩) ?_ ?_
                · rw [List.map_append]
                  refine EsLe.append (EsLe.refl ?_) ?_
                  · intro e he
                    obtain ⟨y, -, rfl⟩ := List.mem_map.1 he
                    exact encS_ones y
                  · simp [EsLe, VsLe, encS, encR, seenOf, V.ones, V.one, VLe.refl, VLe.nils]
                refine Run.mv [4] _ _ (by rfl) (by decide) (by simp -implicitDefEqProofs [hw, encS, encR, seenOf]) (by simp -implicitDefEqProofs [hw, encS, encR, seenOf]) (ih ((i + 1, o ++ [seenOf c.toNat a b d])) ?_ ?_)
                · refine ⟨by simp only; omega, by simp; omega, ?_⟩
                  simp only
                  rw [hgo, Option.map_map]
                  congr 1
                  funext r
                  simp
                · simp only; omega
              · have hd' : (1 : Int) < d := by omega
                have hb' : ¬ (999 : Int) < b := by omega
                rw [if_neg (fun h => hd h.2)] at hgo
                (repeat (first | refine Run.seq ?_ | refine Run.reg ?_ | refine Run.skip ?_ | refine Run.block ?_ | refine Run.endB ?_ | refine Run.opE rfl ?_ | (apply Run.op0 rfl; (· (simp -implicitDefEqProofs [hb', hd', encN]; exact ⟨rfl, rfl⟩))) | (apply Run.opA rfl; (· (simp -implicitDefEqProofs [hb', hd', encN]; done)); (· (simp -implicitDefEqProofs [hb', hd', encN]; exact ⟨rfl, rfl⟩))) | (apply Run.opN rfl; (· (simp -implicitDefEqProofs [hb', hd', encN]; done))) | (refine Run.condT ?_ ?_; (· (simp -implicitDefEqProofs [hb', hd', encN]; done))) | (refine Run.condF ?_ ?_; (· (simp -implicitDefEqProofs [hb', hd', encN]; done))) | refine Run.exit rfl ?_))
                refine hbad trivial ?_ (by simp) (by simp)
                simp [ofM, hgo]
            · have hb' : (999 : Int) < b := by omega
              rw [if_neg (fun h => hb h.1)] at hgo
              (repeat (first | refine Run.seq ?_ | refine Run.reg ?_ | refine Run.skip ?_ | refine Run.block ?_ | refine Run.endB ?_ | refine Run.opE rfl ?_ | (apply Run.op0 rfl; (· (simp -implicitDefEqProofs [hb', encN]; exact ⟨rfl, rfl⟩))) | (apply Run.opA rfl; (· (simp -implicitDefEqProofs [hb', encN]; done)); (· (simp -implicitDefEqProofs [hb', encN]; exact ⟨rfl, rfl⟩))) | (apply Run.opN rfl; (· (simp -implicitDefEqProofs [hb', encN]; done))) | (refine Run.condT ?_ ?_; (· (simp -implicitDefEqProofs [hb', encN]; done))) | (refine Run.condF ?_ ?_; (· (simp -implicitDefEqProofs [hb', encN]; done))) | refine Run.exit rfl ?_))
              refine hbad trivial ?_ (by simp) (by simp)
              simp [ofM, hgo]
          · rw [hone, htk'] at hgo
            (repeat (first | refine Run.seq ?_ | refine Run.reg ?_ | refine Run.skip ?_ | refine Run.block ?_ | refine Run.endB ?_ | refine Run.opE rfl ?_ | (apply Run.op0 rfl; (· (simp -implicitDefEqProofs [hse]; exact ⟨rfl, rfl⟩))) | (apply Run.opA rfl; (· (simp -implicitDefEqProofs [hse]; done)); (· (simp -implicitDefEqProofs [hse]; exact ⟨rfl, rfl⟩))) | (apply Run.opN rfl; (· (simp -implicitDefEqProofs [hse]; done))) | (refine Run.condT ?_ ?_; (· (simp -implicitDefEqProofs [hse]; done))) | (refine Run.condF ?_ ?_; (· (simp -implicitDefEqProofs [hse]; done))) | refine Run.exit rfl ?_))
            refine hbad trivial ?_ (by simp) (by simp)
            obtain ⟨s1, s2, rfl⟩ : ∃ s1 s2, s = s1 :: s2 := by
              match s, hse with
              | s1 :: s2, _ => exact ⟨s1, s2, rfl⟩
            simp only [triple] at hgo
            simp [ofM, hgo]
      · have hone : oneM ([t, c], val) = none := by
          have ht' : t ≠ 116 := fun h => ht (by rw [h]; rfl)
          simp [oneM, ht']
        (repeat (first | refine Run.seq ?_ | refine Run.reg ?_ | refine Run.skip ?_ | refine Run.block ?_ | refine Run.endB ?_ | refine Run.opE rfl ?_ | (apply Run.op0 rfl; (· (simp -implicitDefEqProofs [ht]; exact ⟨rfl, rfl⟩))) | (apply Run.opA rfl; (· (simp -implicitDefEqProofs [ht]; done)); (· (simp -implicitDefEqProofs [ht]; exact ⟨rfl, rfl⟩))) | (apply Run.opN rfl; (· (simp -implicitDefEqProofs [ht]; done))) | (refine Run.condT ?_ ?_; (· (simp -implicitDefEqProofs [ht]; done))) | (refine Run.condF ?_ ?_; (· (simp -implicitDefEqProofs [ht]; done))) | refine Run.exit rfl ?_))
        refine hbad trivial ?_ (by simp) (by simp)
        rw [hone] at hgo
        simp [ofM, hgo]
    · have hone : oneM (key, val) = none := by
        match key, hk2 with
        | [], _ => rfl
        | [_], _ => rfl
        | _ :: _ :: _ :: _, _ => rfl
        | [_, _], h => simp at h
      have hk2' : ¬ (key.length : Int) = 2 := by omega
      (repeat (first | refine Run.seq ?_ | refine Run.reg ?_ | refine Run.skip ?_ | refine Run.block ?_ | refine Run.endB ?_ | refine Run.opE rfl ?_ | (apply Run.op0 rfl; (· (simp -implicitDefEqProofs [hk2, hk2']; exact ⟨rfl, rfl⟩))) | (apply Run.opA rfl; (· (simp -implicitDefEqProofs [hk2, hk2']; done)); (· (simp -implicitDefEqProofs [hk2, hk2']; exact ⟨rfl, rfl⟩))) | (apply Run.opN rfl; (· (simp -implicitDefEqProofs [hk2, hk2']; done))) | (refine Run.condT ?_ ?_; (· (simp -implicitDefEqProofs [hk2, hk2']; done))) | (refine Run.condF ?_ ?_; (· (simp -implicitDefEqProofs [hk2, hk2']; done))) | refine Run.exit rfl ?_))
      refine hbad trivial ?_ (by simp) (by simp)
      rw [hone] at hgo
      simp [ofM, hgo]
  · have : i = l.length := by omega
    subst this
    have hgo' : ofGo l = some o := by rw [hgo]; simp [ofGo]
    (repeat (first | refine Run.seq ?_ | refine Run.reg ?_ | refine Run.skip ?_ | refine Run.block ?_ | refine Run.endB ?_ | refine Run.opE rfl ?_ | (apply Run.op0 rfl; (· (simp -implicitDefEqProofs; exact ⟨rfl, rfl⟩))) | (apply Run.opA rfl; (· (simp -implicitDefEqProofs; done)); (· (simp -implicitDefEqProofs; exact ⟨rfl, rfl⟩))) | (apply Run.opN rfl; (· (simp -implicitDefEqProofs; done))) | (refine Run.condT ?_ ?_; (· (simp -implicitDefEqProofs; done))) | (refine Run.condF ?_ ?_; (· (simp -implicitDefEqProofs; done))) | refine Run.exit rfl ?_))
    refine Run.freeze 0 (es := o.map encS) (sz := 7) (by simp) ?_
    refine Run.opC rfl (by simp) rfl (by simpa using read_at o (by omega) _) ?_
    rintro v h' ⟨rfl, rfl⟩
    have hrl := readM_len o
    have ht1 := tabC_ones (readM o).1
    have ht2 := tab_drop hrl
    cases hr : okGo o (-1) with
    | true =>
      (repeat (first | refine Run.seq ?_ | refine Run.reg ?_ | refine Run.skip ?_ | refine Run.block ?_ | refine Run.endB ?_ | refine Run.opE rfl ?_ | (apply Run.op0 rfl; (· (simp -implicitDefEqProofs [readM_ok, hr, tabC_len, hrl, ht1, ht2, V.renL_pure _ _ (tabC_pure _)]; exact ⟨rfl, rfl⟩))) | (apply Run.opA rfl; (· (simp -implicitDefEqProofs [readM_ok, hr, tabC_len, hrl, ht1, ht2, V.renL_pure _ _ (tabC_pure _)]; done)); (· (simp -implicitDefEqProofs [readM_ok, hr, tabC_len, hrl, ht1, ht2, V.renL_pure _ _ (tabC_pure _)]; exact ⟨rfl, rfl⟩))) | (apply Run.opN rfl; (· (simp -implicitDefEqProofs [readM_ok, hr, tabC_len, hrl, ht1, ht2, V.renL_pure _ _ (tabC_pure _)]; done))) | (refine Run.condT ?_ ?_; (· (simp -implicitDefEqProofs [readM_ok, hr, tabC_len, hrl, ht1, ht2, V.renL_pure _ _ (tabC_pure _)]; done))) | (refine Run.condF ?_ ?_; (· (simp -implicitDefEqProofs [readM_ok, hr, tabC_len, hrl, ht1, ht2, V.renL_pure _ _ (tabC_pure _)]; done))) | refine Run.exit rfl ?_))
      refine Run.mv [] [(2, .vs (o.map encS) 7), (3, .int .i64 0)] [] (by rfl) (by decide) (by simp -implicitDefEqProofs) (by simp -implicitDefEqProofs) ?_
      refine Run.retI Try.func21 r21_ok trivial (by simp -implicitDefEqProofs [r21]; rfl) (by simp ) ?_ (by simp -implicitDefEqProofs ) (by simp -implicitDefEqProofs )
      simp [ofM, hgo', hr]
    | false =>
      (repeat (first | refine Run.seq ?_ | refine Run.reg ?_ | refine Run.skip ?_ | refine Run.block ?_ | refine Run.endB ?_ | refine Run.opE rfl ?_ | (apply Run.op0 rfl; (· (simp -implicitDefEqProofs [readM_ok, hr, tabC_len, hrl, ht1, ht2, V.renL_pure _ _ (tabC_pure _)]; exact ⟨rfl, rfl⟩))) | (apply Run.opA rfl; (· (simp -implicitDefEqProofs [readM_ok, hr, tabC_len, hrl, ht1, ht2, V.renL_pure _ _ (tabC_pure _)]; done)); (· (simp -implicitDefEqProofs [readM_ok, hr, tabC_len, hrl, ht1, ht2, V.renL_pure _ _ (tabC_pure _)]; exact ⟨rfl, rfl⟩))) | (apply Run.opN rfl; (· (simp -implicitDefEqProofs [readM_ok, hr, tabC_len, hrl, ht1, ht2, V.renL_pure _ _ (tabC_pure _)]; done))) | (refine Run.condT ?_ ?_; (· (simp -implicitDefEqProofs [readM_ok, hr, tabC_len, hrl, ht1, ht2, V.renL_pure _ _ (tabC_pure _)]; done))) | (refine Run.condF ?_ ?_; (· (simp -implicitDefEqProofs [readM_ok, hr, tabC_len, hrl, ht1, ht2, V.renL_pure _ _ (tabC_pure _)]; done))) | refine Run.exit rfl ?_))
      refine hbad trivial ?_ (by simp) (by simp)
      simp [ofM, hgo', hr]

end Go.Proofs.Yticecideodkcmaa
