/-
  Layer 14, part X: the document's Of.
-/
import Derived.Test.YticecideodkcmaaOnceW
namespace Go.Proofs.Yticecideodkcmaa
open Sx Go
set_option maxRecDepth 100000
set_option linter.unusedSimpArgs false
set_option linter.unusedVariables false
set_option linter.unnecessarySimpa false
attribute [local simp] guardB isCall opStep Opd.ev put readAt aBin aUn args0 V.celled V.ones V.one V.cells putAt bounds bound1 elemsOf srcOf appendV fillAt fillEl V.pures V.pure unwind evs ARes.ev mkRes V.ren V.renL O.ren eqCells eq1 aEq aMM hasTy hasTyN okTy mmGo Known HLe OLe VsLe.refl VLe.refl Stay VsLe V.frz V.frzL O.frz fr clearV rn KnownR Objs OLeO ObjsE nm back setAll ren_ite take_map_len List.take_of_length_le
attribute [local simp ↓] upd_app tl_cons tl_nil
attribute [local simp] encS_ren encS_ones

/-- what a client did last, of a pair, if it may be -/
def roneM (p : Bs × Bs) : Option Seen := match oneM p with
  | some x => if mayB x = true then some x else none
  | none => none

theorem takeN3 (s : Bs) : takeN 3 s = if (vtake s).2.2 = 0 then (takeN 2 (s.drop (vtake s).2.1)).map (fun r => ((vtake s).1 :: r.1, r.2)) else none := rfl
theorem takeN2 (s : Bs) : takeN 2 s = if (vtake s).2.2 = 0 then (takeN 1 (s.drop (vtake s).2.1)).map (fun r => ((vtake s).1 :: r.1, r.2)) else none := rfl
theorem takeN1 (s : Bs) : takeN 1 s = if (vtake s).2.2 = 0 then some ([(vtake s).1], s.drop (vtake s).2.1) else none := rfl

theorem encS_take (y : Seen) : (encS y).take 7 = encS y := rfl

theorem rmay_le {x : Seen} {xc : List V} (h : VsLe xc (encS x)) (H : List O) : Tri Try.prog 30 [.agg xc] H (fun v H' => v = .bool (mayB x) ∧ H' = H) :=
  Tri.args (as' := [.agg (encS x)]) ⟨VLe.agg h, trivial⟩ (rmay_at x H)

theorem rone_tri (p : Bs × Bs) (hl : p.2.length ≤ 1000000) : Tri Try.prog 33 [.agg (encP p)] [] (fun v H => (∃ y b, v = .tup [.agg (encS y), .bool b] ∧ (b = true → roneM p = some y) ∧ (b = false → roneM p = none)) ∧ H = []) := by
  refine Tri.of_run' Try.func33 rfl c33_ok (by simp [Try.ntmps33]) ?_
  obtain ⟨key, val⟩ := p
  simp only at hl
  have hend : ∀ {k t h} (y : Seen) (b : Bool) (yc : List V), AtEnd k → h[1]? = some (.row yc) → ((b = true → roneM (key, val) = some y) ∧ (b = false → roneM (key, val) = none)) → t 2 = .ptr 1 0 → t 3 = .bool b → VsLe yc (encS y) → Run ⟨Try.prog, 33, Try.f33.ntmps, [], fun v H => (∃ y b, v = .tup [.agg (encS y), .bool b] ∧ (b = true → roneM (key, val) = some y) ∧ (b = false → roneM (key, val) = none)) ∧ H = []⟩ ⟨k, t, h⟩ := by
    intro k t h y b yc hk h1 hq h2 h3 hle
    refine Run.mv [1] [(2, .ptr 0 0), (3, .bool b)] [.row (encS y)] (by rfl) (by decide) (by simp [h2, h3]) (by simpa [h1] using hle) ?_
    refine Run.ret0 rfl Try.func33 r33_ok hk (by simp [r33]; rfl) ⟨⟨y, b, by simp [encS_take], hq⟩, rfl⟩ (by simp [encS_take])
  have hz : VsLe [.int .i64 0, .int .i64 0, .int .i64 0, .str [], .bool false, .nils, .str []] (encS zero) := by simp [encS, encR, zero, VLe.nils]
  (repeat (first | refine Run.seq ?_ | refine Run.reg ?_ | refine Run.skip ?_ | refine Run.block ?_ | refine Run.endB ?_ | refine Run.opE rfl ?_ | (apply Run.op0 rfl; (· (simp -implicitDefEqProofs [encP]; exact ⟨rfl, rfl⟩))) | (apply Run.opA rfl; (· (simp -implicitDefEqProofs [encP]; done)); (· (simp -implicitDefEqProofs [encP]; exact ⟨rfl, rfl⟩))) | (apply Run.opN rfl; (· (simp -implicitDefEqProofs [encP]; done))) | (refine Run.condT ?_ ?_; (· (simp -implicitDefEqProofs [encP]; done))) | (refine Run.condF ?_ ?_; (· (simp -implicitDefEqProofs [encP]; done))) | refine Run.exit rfl ?_))
  by_cases hk2 : key.length = 2
  · obtain ⟨t, c, rfl⟩ : ∃ t c, key = [t, c] := by
      match key, hk2 with
      | [t, c], _ => exact ⟨t, c, rfl⟩
    by_cases ht : (t.toNat : Int) = 116
    · have ht' : t = 116 := by
        have : t.toNat = 116 := by omega
        exact UInt8.toNat_inj.1 (by rw [this]; rfl)
      have hone : oneM ([t, c], val) = triple c (takeN 3 val) := by simp [oneM, ht']
      rw [takeN3] at hone
      have hle := vtake_le val
      have hle' : ((vtake val).2.1 : Int) ≤ val.length := by omega
      (repeat (first | refine Run.seq ?_ | refine Run.reg ?_ | refine Run.skip ?_ | refine Run.block ?_ | refine Run.endB ?_ | refine Run.opE rfl ?_ | (apply Run.op0 rfl; (· (simp -implicitDefEqProofs [ht, encP]; exact ⟨rfl, rfl⟩))) | (apply Run.opA rfl; (· (simp -implicitDefEqProofs [ht, encP]; done)); (· (simp -implicitDefEqProofs [ht, encP]; exact ⟨rfl, rfl⟩))) | (apply Run.opN rfl; (· (simp -implicitDefEqProofs [ht, encP]; done))) | (refine Run.condT ?_ ?_; (· (simp -implicitDefEqProofs [ht, encP]; done))) | (refine Run.condF ?_ ?_; (· (simp -implicitDefEqProofs [ht, encP]; done))) | refine Run.exit rfl ?_))
      refine Run.opC rfl rfl rfl (rvtake_at val (by omega) _) ?_
      rintro v h' ⟨rfl, rfl⟩
      (repeat (first | refine Run.seq ?_ | refine Run.reg ?_ | refine Run.skip ?_ | refine Run.block ?_ | refine Run.endB ?_ | refine Run.opE rfl ?_ | (apply Run.op0 rfl; (· (simp -implicitDefEqProofs [vtakeV]; exact ⟨rfl, rfl⟩))) | (apply Run.opA rfl; (· (simp -implicitDefEqProofs [vtakeV]; done)); (· (simp -implicitDefEqProofs [vtakeV]; exact ⟨rfl, rfl⟩))) | (apply Run.opN rfl; (· (simp -implicitDefEqProofs [vtakeV]; done))) | (refine Run.condT ?_ ?_; (· (simp -implicitDefEqProofs [vtakeV]; done))) | (refine Run.condF ?_ ?_; (· (simp -implicitDefEqProofs [vtakeV]; done))) | refine Run.exit rfl ?_))
      by_cases he : (vtake val).2.2 = 0
      · rw [if_pos he, takeN2] at hone
        (repeat (first | refine Run.seq ?_ | refine Run.reg ?_ | refine Run.skip ?_ | refine Run.block ?_ | refine Run.endB ?_ | refine Run.opE rfl ?_ | (apply Run.op0 rfl; (· (simp -implicitDefEqProofs [he, encP, hle, hle']; exact ⟨rfl, rfl⟩))) | (apply Run.opA rfl; (· (simp -implicitDefEqProofs [he, encP, hle, hle']; done)); (· (simp -implicitDefEqProofs [he, encP, hle, hle']; exact ⟨rfl, rfl⟩))) | (apply Run.opN rfl; (· (simp -implicitDefEqProofs [he, encP, hle, hle']; done))) | (refine Run.condT ?_ ?_; (· (simp -implicitDefEqProofs [he, encP, hle, hle']; done))) | (refine Run.condF ?_ ?_; (· (simp -implicitDefEqProofs [he, encP, hle, hle']; done))) | refine Run.exit rfl ?_))
        refine Run.opC rfl rfl rfl (rvtake_at (val.drop (vtake val).2.1) (by simp; omega) _) ?_
        rintro v h' ⟨rfl, rfl⟩
        have hle2 := vtake_le (val.drop (vtake val).2.1)
        rw [List.length_drop] at hle2
        generalize hs2 : val.drop (vtake val).2.1 = s2 at *
        generalize hn1 : vtake val = n1 at *
        generalize hn2 : vtake s2 = n2 at *
        obtain ⟨a, sz1, e1⟩ := n1
        obtain ⟨b, sz2, e2⟩ := n2
        simp only at he hle hle' hle2 hone hs2 ⊢
        subst he
        by_cases hbad : e2 = 0 ∧ b ≤ 999
        · obtain ⟨rfl, hb⟩ := hbad
          have hb' : ¬ (999 : Int) < b := by omega
          obtain ⟨m, hm⟩ : ∃ m, m = sz1 + sz2 := ⟨_, rfl⟩
          have hdd : s2.drop sz2 = val.drop m := by rw [← hs2, List.drop_drop, hm]
          rw [if_pos rfl, takeN1, hdd] at hone
          have hw1 : IntKind.i64.wrap ((sz1 : Int) + sz2) = m := by rw [wrap_small (by omega) (by omega)]; omega
          have hlt : m ≤ val.length := by omega
          have hlt' : (m : Int) ≤ val.length := by omega
          (repeat (first | refine Run.seq ?_ | refine Run.reg ?_ | refine Run.skip ?_ | refine Run.block ?_ | refine Run.endB ?_ | refine Run.opE rfl ?_ | (apply Run.op0 rfl; (· (simp -implicitDefEqProofs [vtakeV, hn2, hb, hb', encP, hw1, hlt, hlt']; exact ⟨rfl, rfl⟩))) | (apply Run.opA rfl; (· (simp -implicitDefEqProofs [vtakeV, hn2, hb, hb', encP, hw1, hlt, hlt']; done)); (· (simp -implicitDefEqProofs [vtakeV, hn2, hb, hb', encP, hw1, hlt, hlt']; exact ⟨rfl, rfl⟩))) | (apply Run.opN rfl; (· (simp -implicitDefEqProofs [vtakeV, hn2, hb, hb', encP, hw1, hlt, hlt']; done))) | (refine Run.condT ?_ ?_; (· (simp -implicitDefEqProofs [vtakeV, hn2, hb, hb', encP, hw1, hlt, hlt']; done))) | (refine Run.condF ?_ ?_; (· (simp -implicitDefEqProofs [vtakeV, hn2, hb, hb', encP, hw1, hlt, hlt']; done))) | refine Run.exit rfl ?_))
          refine Run.opC rfl rfl rfl (rvtake_at (val.drop m) (by simp; omega) _) ?_
          rintro v h' ⟨rfl, rfl⟩
          have hle3 := vtake_le (val.drop m)
          rw [List.length_drop] at hle3
          generalize hs3 : val.drop m = s3 at *
          generalize hn3 : vtake s3 = n3 at *
          obtain ⟨d, sz3, e3⟩ := n3
          simp only at hle3 hone ⊢
          have hw2 : IntKind.i64.wrap ((m : Int) + sz3) = ((m + sz3 : Nat) : Int) := by rw [wrap_small (by omega) (by omega)]; omega
          have hsub : IntKind.i64.wrap (IntKind.i64.wrap (c.toNat : Int) - 48) = (c.toNat : Int) - 48 := by
            have := c.toNat_lt
            rw [wrap_small (n := (c.toNat : Int)) (by omega) (by omega), wrap_small (by omega) (by omega)]
          have hw3 := wrap_small (n := (val.length : Int)) (by omega) (by omega)
          have hd1 : ((d : Int) = 1) = (d = 1) := by rw [eq_iff_iff]; omega
          have hle1 : ((d : Int) ≤ 1) = (d ≤ 1) := by rw [eq_iff_iff]; omega
          have hres : roneM ([t, c], val) = if e3 = 0 ∧ m + sz3 = val.length ∧ d ≤ 1 ∧ mayB (seenOf c.toNat a b d) = true then some (seenOf c.toNat a b d) else none := by
            have hs3l : s3.length = val.length - m := by rw [← hs3, List.length_drop]
            rw [roneM, hone]
            by_cases q1 : e3 = 0
            · simp only [q1, if_true, Option.map_some]
              by_cases q2 : s3.drop sz3 = []
              · have : m + sz3 = val.length := by have := List.drop_eq_nil_iff.1 q2; omega
                simp only [q2, triple, this, true_and, hb]
                by_cases q3 : d ≤ 1 <;> simp [q3]
              · have : ¬ m + sz3 = val.length := fun h => q2 (List.drop_eq_nil_iff.2 (by omega))
                obtain ⟨y1, y2, hy⟩ : ∃ y1 y2, s3.drop sz3 = y1 :: y2 := by
                  match hq : s3.drop sz3, q2 with
                  | y1 :: y2, _ => exact ⟨y1, y2, rfl⟩
                simp [hy, triple, this]
            · simp [q1, triple]
          have hxc : VsLe [.int .i64 ((c.toNat : Int) - 48), .int .i64 a, .int .i64 b, .str [], .bool (decide (d = 1)), .nils, .str []] (encS (seenOf c.toNat a b d)) := by simp [encS, encR, seenOf, VLe.nils]
          (repeat (first | refine Run.seq ?_ | refine Run.reg ?_ | refine Run.skip ?_ | refine Run.block ?_ | refine Run.endB ?_ | refine Run.opE rfl ?_ | (apply Run.op0 rfl; (· (simp -implicitDefEqProofs [vtakeV, hn3, encP, hsub, hd1]; exact ⟨rfl, rfl⟩))) | (apply Run.opA rfl; (· (simp -implicitDefEqProofs [vtakeV, hn3, encP, hsub, hd1]; done)); (· (simp -implicitDefEqProofs [vtakeV, hn3, encP, hsub, hd1]; exact ⟨rfl, rfl⟩))) | (apply Run.opN rfl; (· (simp -implicitDefEqProofs [vtakeV, hn3, encP, hsub, hd1]; done))) | (refine Run.condT ?_ ?_; (· (simp -implicitDefEqProofs [vtakeV, hn3, encP, hsub, hd1]; done))) | (refine Run.condF ?_ ?_; (· (simp -implicitDefEqProofs [vtakeV, hn3, encP, hsub, hd1]; done))) | refine Run.exit rfl ?_))
          refine Run.drawn prog_mixed ?_
          show RunD _ c33d0 [0, 1, 2, 3, 4, 5, 6, 7, 8, 9, 10, 11, 12, 13, 14, 15, 16, 17, 18, 19, 20, 21, 22, 23] [] _ _ _
          by_cases q1 : e3 = 0
          · by_cases q2 : m + sz3 = val.length
            · have q2' : (m : Int) + sz3 = val.length := by omega
              by_cases q3 : d ≤ 1
              · have q3' : (d : Int) ≤ 1 := by omega
                have hmay := rmay_le hxc
                refine RunD.flow [0, 1, 2, 3, 4, 5, 6, 7, 8, 9, 10, 11, 12, 13, 14, 15, 16, 17, 18, 19, 20, 21] (by kernel_rfl) (by decide +kernel) (by decide +kernel) (by decide) trivial ?_
                (repeat (first | refine execQ_E rfl ?_ | (apply execQ_0 rfl; (· rfl); (· (simp -implicitDefEqProofs [q1, q2', q3', hw1, hw2, hw3, encP]; exact ⟨rfl, rfl⟩))) | (apply execQ_A rfl; (· (simp -implicitDefEqProofs [q1, q2', q3', hw1, hw2, hw3, encP]; done)); (· rfl); (· (simp -implicitDefEqProofs [q1, q2', q3', hw1, hw2, hw3, encP]; exact ⟨rfl, rfl⟩))) | (apply execQ_N rfl; (· (simp -implicitDefEqProofs [q1, q2', q3', hw1, hw2, hw3, encP]; done)))))
                refine execQ_C rfl (by simp) rfl (by simpa using hmay _) ?_
                (repeat (first | refine execQ_E rfl ?_ | (apply execQ_0 rfl; (· rfl); (· (simp -implicitDefEqProofs [q1, q2', q3', hw1, hw2, hw3]; exact ⟨rfl, rfl⟩))) | (apply execQ_A rfl; (· (simp -implicitDefEqProofs [q1, q2', q3', hw1, hw2, hw3]; done)); (· rfl); (· (simp -implicitDefEqProofs [q1, q2', q3', hw1, hw2, hw3]; exact ⟨rfl, rfl⟩))) | (apply execQ_N rfl; (· (simp -implicitDefEqProofs [q1, q2', q3', hw1, hw2, hw3]; done)))))
                intro hpo
                refine RunD.alt1 22 (by kernel_rfl) (by kernel_rfl) hpo ?_
                (first | (apply AStep.o0 rfl; (· (simp -implicitDefEqProofs; exact ⟨rfl, rfl⟩))) | (apply AStep.A rfl; (· (simp -implicitDefEqProofs; done)); (· (simp -implicitDefEqProofs; exact ⟨rfl, rfl⟩))) | (apply AStep.N rfl; (· (simp -implicitDefEqProofs; done))))
                refine RunD.flow [23] (by kernel_rfl) (by decide +kernel) (by decide +kernel) (by decide) (by show PendOk _ c33d0 _ _ [21]; (repeat (first | exact PendOk.nil | (refine PendOk.op rfl rfl rfl ?_ ?_; (· (simp -implicitDefEqProofs; done))) | (refine PendOk.op rfl rfl ?_ ?_ ?_; (· (simp -implicitDefEqProofs; done)); (· (simp -implicitDefEqProofs; done))) | (refine PendOk.skip rfl rfl ?_ ?_; (· (simp -implicitDefEqProofs; done)))))) ?_; (repeat (first | refine execQ_E rfl ?_ | (apply execQ_0 rfl; (· rfl); (· (simp -implicitDefEqProofs; exact ⟨rfl, rfl⟩))) | (apply execQ_A rfl; (· (simp -implicitDefEqProofs; done)); (· rfl); (· (simp -implicitDefEqProofs; exact ⟨rfl, rfl⟩))) | (apply execQ_N rfl; (· (simp -implicitDefEqProofs; done))))); intro hpo
                refine RunD.fin (by kernel_rfl) hpo ?_
                exact hend _ (mayB (seenOf c.toNat a b d)) _ trivial (by simp) (by simp [hres, q1, q2, q3]) (by simp) (by simp) hxc
              · have q3' : ¬ (d : Int) ≤ 1 := by omega
                refine RunD.flow [0, 1, 2, 3, 4, 5, 6, 7, 8, 9, 10, 11, 12, 13, 14, 15, 16, 17, 18, 19, 20, 21] (by kernel_rfl) (by decide +kernel) (by decide +kernel) (by decide) trivial ?_; (repeat (first | refine execQ_E rfl ?_ | (apply execQ_0 rfl; (· rfl); (· (simp -implicitDefEqProofs [q1, q2', q3', hw1, hw2, hw3, encP]; exact ⟨rfl, rfl⟩))) | (apply execQ_A rfl; (· (simp -implicitDefEqProofs [q1, q2', q3', hw1, hw2, hw3, encP]; done)); (· rfl); (· (simp -implicitDefEqProofs [q1, q2', q3', hw1, hw2, hw3, encP]; exact ⟨rfl, rfl⟩))) | (apply execQ_N rfl; (· (simp -implicitDefEqProofs [q1, q2', q3', hw1, hw2, hw3, encP]; done))))); intro hpo
                refine RunD.alt1 22 (by kernel_rfl) (by kernel_rfl) hpo ?_
                (first | (apply AStep.o0 rfl; (· (simp -implicitDefEqProofs; exact ⟨rfl, rfl⟩))) | (apply AStep.A rfl; (· (simp -implicitDefEqProofs; done)); (· (simp -implicitDefEqProofs; exact ⟨rfl, rfl⟩))) | (apply AStep.N rfl; (· (simp -implicitDefEqProofs; done))))
                refine RunD.flow [23] (by kernel_rfl) (by decide +kernel) (by decide +kernel) (by decide) (by show PendOk _ c33d0 _ _ [21]; (repeat (first | exact PendOk.nil | (refine PendOk.op rfl rfl rfl ?_ ?_; (· (simp -implicitDefEqProofs; done))) | (refine PendOk.op rfl rfl ?_ ?_ ?_; (· (simp -implicitDefEqProofs; done)); (· (simp -implicitDefEqProofs; done))) | (refine PendOk.skip rfl rfl ?_ ?_; (· (simp -implicitDefEqProofs; done)))))) ?_; (repeat (first | refine execQ_E rfl ?_ | (apply execQ_0 rfl; (· rfl); (· (simp -implicitDefEqProofs; exact ⟨rfl, rfl⟩))) | (apply execQ_A rfl; (· (simp -implicitDefEqProofs; done)); (· rfl); (· (simp -implicitDefEqProofs; exact ⟨rfl, rfl⟩))) | (apply execQ_N rfl; (· (simp -implicitDefEqProofs; done))))); intro hpo
                refine RunD.fin (by kernel_rfl) hpo ?_
                exact hend _ false _ trivial (by simp) (by simp [hres, q3]) (by simp) (by simp) hxc
            · have q2' : ¬ (m : Int) + sz3 = val.length := by omega
              refine RunD.flow [0, 1, 2, 3, 4, 5, 6, 7, 8, 9, 10, 11, 12, 13, 14, 15, 16, 17, 18, 19, 20, 21] (by kernel_rfl) (by decide +kernel) (by decide +kernel) (by decide) trivial ?_; (repeat (first | refine execQ_E rfl ?_ | (apply execQ_0 rfl; (· rfl); (· (simp -implicitDefEqProofs [q1, q2', hw1, hw2, hw3, encP]; exact ⟨rfl, rfl⟩))) | (apply execQ_A rfl; (· (simp -implicitDefEqProofs [q1, q2', hw1, hw2, hw3, encP]; done)); (· rfl); (· (simp -implicitDefEqProofs [q1, q2', hw1, hw2, hw3, encP]; exact ⟨rfl, rfl⟩))) | (apply execQ_N rfl; (· (simp -implicitDefEqProofs [q1, q2', hw1, hw2, hw3, encP]; done))))); intro hpo
              refine RunD.alt1 22 (by kernel_rfl) (by kernel_rfl) hpo ?_
              (first | (apply AStep.o0 rfl; (· (simp -implicitDefEqProofs; exact ⟨rfl, rfl⟩))) | (apply AStep.A rfl; (· (simp -implicitDefEqProofs; done)); (· (simp -implicitDefEqProofs; exact ⟨rfl, rfl⟩))) | (apply AStep.N rfl; (· (simp -implicitDefEqProofs; done))))
              refine RunD.flow [23] (by kernel_rfl) (by decide +kernel) (by decide +kernel) (by decide) (by show PendOk _ c33d0 _ _ [21]; (repeat (first | exact PendOk.nil | (refine PendOk.op rfl rfl rfl ?_ ?_; (· (simp -implicitDefEqProofs; done))) | (refine PendOk.op rfl rfl ?_ ?_ ?_; (· (simp -implicitDefEqProofs; done)); (· (simp -implicitDefEqProofs; done))) | (refine PendOk.skip rfl rfl ?_ ?_; (· (simp -implicitDefEqProofs; done)))))) ?_; (repeat (first | refine execQ_E rfl ?_ | (apply execQ_0 rfl; (· rfl); (· (simp -implicitDefEqProofs; exact ⟨rfl, rfl⟩))) | (apply execQ_A rfl; (· (simp -implicitDefEqProofs; done)); (· rfl); (· (simp -implicitDefEqProofs; exact ⟨rfl, rfl⟩))) | (apply execQ_N rfl; (· (simp -implicitDefEqProofs; done))))); intro hpo
              refine RunD.fin (by kernel_rfl) hpo ?_
              exact hend _ false _ trivial (by simp) (by simp [hres, q2]) (by simp) (by simp) hxc
          ·
            refine RunD.flow [0, 1, 2, 3, 4, 5, 6, 7, 8, 9, 10, 11, 12, 13, 14, 15, 16, 17, 18, 19, 20, 21] (by kernel_rfl) (by decide +kernel) (by decide +kernel) (by decide) trivial ?_; (repeat (first | refine execQ_E rfl ?_ | (apply execQ_0 rfl; (· rfl); (· (simp -implicitDefEqProofs [q1, encP]; exact ⟨rfl, rfl⟩))) | (apply execQ_A rfl; (· (simp -implicitDefEqProofs [q1, encP]; done)); (· rfl); (· (simp -implicitDefEqProofs [q1, encP]; exact ⟨rfl, rfl⟩))) | (apply execQ_N rfl; (· (simp -implicitDefEqProofs [q1, encP]; done))))); intro hpo
            refine RunD.alt1 22 (by kernel_rfl) (by kernel_rfl) hpo ?_
            (first | (apply AStep.o0 rfl; (· (simp -implicitDefEqProofs; exact ⟨rfl, rfl⟩))) | (apply AStep.A rfl; (· (simp -implicitDefEqProofs; done)); (· (simp -implicitDefEqProofs; exact ⟨rfl, rfl⟩))) | (apply AStep.N rfl; (· (simp -implicitDefEqProofs; done))))
            refine RunD.flow [23] (by kernel_rfl) (by decide +kernel) (by decide +kernel) (by decide) (by show PendOk _ c33d0 _ _ [21]; (repeat (first | exact PendOk.nil | (refine PendOk.op rfl rfl rfl ?_ ?_; (· (simp -implicitDefEqProofs; done))) | (refine PendOk.op rfl rfl ?_ ?_ ?_; (· (simp -implicitDefEqProofs; done)); (· (simp -implicitDefEqProofs; done))) | (refine PendOk.skip rfl rfl ?_ ?_; (· (simp -implicitDefEqProofs; done)))))) ?_; (repeat (first | refine execQ_E rfl ?_ | (apply execQ_0 rfl; (· rfl); (· (simp -implicitDefEqProofs; exact ⟨rfl, rfl⟩))) | (apply execQ_A rfl; (· (simp -implicitDefEqProofs; done)); (· rfl); (· (simp -implicitDefEqProofs; exact ⟨rfl, rfl⟩))) | (apply execQ_N rfl; (· (simp -implicitDefEqProofs; done))))); intro hpo
            refine RunD.fin (by kernel_rfl) hpo ?_
            exact hend _ false _ trivial (by simp) (by simp [hres, q1]) (by simp) (by simp) hxc
        · have hres : roneM ([t, c], val) = none := by
            rw [roneM, hone]
            by_cases q1 : e2 = 0
            · have hb : ¬ b ≤ 999 := fun h => hbad ⟨q1, h⟩
              simp only [q1, if_true, Option.map_map]
              cases takeN 1 (s2.drop sz2) with
              | none => rfl
              | some r =>
                obtain ⟨ns, r⟩ := r
                simp only [Option.map_some, Function.comp]
                match ns, r with
                | [d], [] => simp [triple, hb]
                | [d], _ :: _ => rfl
                | [], _ => rfl
                | _ :: _ :: _, _ => rfl
            · simp [q1, triple]
          by_cases q1 : e2 = 0
          · have hb2 : ¬ b ≤ 999 := fun h => hbad ⟨q1, h⟩
            have hb' : (999 : Int) < b := by omega
            (repeat (first | refine Run.seq ?_ | refine Run.reg ?_ | refine Run.skip ?_ | refine Run.block ?_ | refine Run.endB ?_ | refine Run.opE rfl ?_ | (apply Run.op0 rfl; (· (simp -implicitDefEqProofs [vtakeV, hn2, q1, hb']; exact ⟨rfl, rfl⟩))) | (apply Run.opA rfl; (· (simp -implicitDefEqProofs [vtakeV, hn2, q1, hb']; done)); (· (simp -implicitDefEqProofs [vtakeV, hn2, q1, hb']; exact ⟨rfl, rfl⟩))) | (apply Run.opN rfl; (· (simp -implicitDefEqProofs [vtakeV, hn2, q1, hb']; done))) | (refine Run.condT ?_ ?_; (· (simp -implicitDefEqProofs [vtakeV, hn2, q1, hb']; done))) | (refine Run.condF ?_ ?_; (· (simp -implicitDefEqProofs [vtakeV, hn2, q1, hb']; done))) | refine Run.exit rfl ?_))
            exact hend zero false _ trivial (by simp) (by simp [hres]) (by simp) (by simp) hz
          · (repeat (first | refine Run.seq ?_ | refine Run.reg ?_ | refine Run.skip ?_ | refine Run.block ?_ | refine Run.endB ?_ | refine Run.opE rfl ?_ | (apply Run.op0 rfl; (· (simp -implicitDefEqProofs [vtakeV, hn2, q1]; exact ⟨rfl, rfl⟩))) | (apply Run.opA rfl; (· (simp -implicitDefEqProofs [vtakeV, hn2, q1]; done)); (· (simp -implicitDefEqProofs [vtakeV, hn2, q1]; exact ⟨rfl, rfl⟩))) | (apply Run.opN rfl; (· (simp -implicitDefEqProofs [vtakeV, hn2, q1]; done))) | (refine Run.condT ?_ ?_; (· (simp -implicitDefEqProofs [vtakeV, hn2, q1]; done))) | (refine Run.condF ?_ ?_; (· (simp -implicitDefEqProofs [vtakeV, hn2, q1]; done))) | refine Run.exit rfl ?_))
            exact hend zero false _ trivial (by simp) (by simp [hres]) (by simp) (by simp) hz
      · rw [if_neg he] at hone
        (repeat (first | refine Run.seq ?_ | refine Run.reg ?_ | refine Run.skip ?_ | refine Run.block ?_ | refine Run.endB ?_ | refine Run.opE rfl ?_ | (apply Run.op0 rfl; (· (simp -implicitDefEqProofs [he]; exact ⟨rfl, rfl⟩))) | (apply Run.opA rfl; (· (simp -implicitDefEqProofs [he]; done)); (· (simp -implicitDefEqProofs [he]; exact ⟨rfl, rfl⟩))) | (apply Run.opN rfl; (· (simp -implicitDefEqProofs [he]; done))) | (refine Run.condT ?_ ?_; (· (simp -implicitDefEqProofs [he]; done))) | (refine Run.condF ?_ ?_; (· (simp -implicitDefEqProofs [he]; done))) | refine Run.exit rfl ?_))
        exact hend zero false _ trivial (by simp) (by simp [roneM, hone, triple]) (by simp) (by simp) hz
    · have hone : oneM ([t, c], val) = none := by
        have ht' : t ≠ 116 := fun h => ht (by rw [h]; rfl)
        simp [oneM, ht']
      (repeat (first | refine Run.seq ?_ | refine Run.reg ?_ | refine Run.skip ?_ | refine Run.block ?_ | refine Run.endB ?_ | refine Run.opE rfl ?_ | (apply Run.op0 rfl; (· (simp -implicitDefEqProofs [ht, encP]; exact ⟨rfl, rfl⟩))) | (apply Run.opA rfl; (· (simp -implicitDefEqProofs [ht, encP]; done)); (· (simp -implicitDefEqProofs [ht, encP]; exact ⟨rfl, rfl⟩))) | (apply Run.opN rfl; (· (simp -implicitDefEqProofs [ht, encP]; done))) | (refine Run.condT ?_ ?_; (· (simp -implicitDefEqProofs [ht, encP]; done))) | (refine Run.condF ?_ ?_; (· (simp -implicitDefEqProofs [ht, encP]; done))) | refine Run.exit rfl ?_))
      exact hend zero false _ trivial (by simp) (by simp [roneM, hone]) (by simp) (by simp) hz
  · have hone : oneM (key, val) = none := by
      match key, hk2 with
      | [], _ => rfl
      | [_], _ => rfl
      | _ :: _ :: _ :: _, _ => rfl
      | [_, _], h => simp at h
    have hk2' : ¬ (key.length : Int) = 2 := by omega
    (repeat (first | refine Run.seq ?_ | refine Run.reg ?_ | refine Run.skip ?_ | refine Run.block ?_ | refine Run.endB ?_ | refine Run.opE rfl ?_ | (apply Run.op0 rfl; (· (simp -implicitDefEqProofs [hk2, hk2']; exact ⟨rfl, rfl⟩))) | (apply Run.opA rfl; (· (simp -implicitDefEqProofs [hk2, hk2']; done)); (· (simp -implicitDefEqProofs [hk2, hk2']; exact ⟨rfl, rfl⟩))) | (apply Run.opN rfl; (· (simp -implicitDefEqProofs [hk2, hk2']; done))) | (refine Run.condT ?_ ?_; (· (simp -implicitDefEqProofs [hk2, hk2']; done))) | (refine Run.condF ?_ ?_; (· (simp -implicitDefEqProofs [hk2, hk2']; done))) | refine Run.exit rfl ?_))
    exact hend zero false _ trivial (by simp) (by simp [roneM, hone]) (by simp) (by simp) hz

end Go.Proofs.Yticecideodkcmaa
