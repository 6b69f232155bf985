/-
  Layer 12, part Zc: the law ManifestApart.
-/
import Derived.Test.YtpipgcmiaccdkaaManZb
namespace Go.Proofs.Ytpipgcmiaccdkaa
open Sx Go
set_option maxRecDepth 100000
set_option linter.unusedSimpArgs false
set_option linter.unusedVariables false
set_option linter.unnecessarySimpa false
attribute [local simp] stepV condR boundsC appendG appendO copyV srcC guardB isCall opStep Opd.ev put readAt aBin aUn args0 V.celled V.ones V.one V.cells putAt bounds bound1 elemsOf srcOf appendV fillAt fillEl V.pures V.pure unwind evs ARes.ev mkRes V.ren V.renL O.ren eqCells eq1 aEq aMM hasTy hasTyN okTy mmGo Known HLe OLe VsLe.refl VLe.refl VLe.cap Stay VsLe V.frz V.frzL O.frz fr clearV rn KnownR Objs OLeO ObjsE nm back setAll ren_ite take_map_len List.take_of_length_le
attribute [local simp ↓] upd_app tl_cons tl_nil
attribute [local simp] encT_ren encT_ones encT_len encT_take encN_ren encN_ones encN_len encN_take
attribute [local simp] encE_ren encE_len encE_take encZ_ren encZ_len encZ_take
attribute [local simp] encS_ren encS_ones encS_len encS_take

theorem apart_law (l : List Ed) : Tri Try.prog 5 [.vs (l.map encE) 4] [] (fun v H => v = .bool true ∧ H = []) := by
  refine Tri.of_run' Try.func5 rfl c5_ok (by simp [Try.ntmps5]) ?_
  have hend : ∀ {k t h}, AtEnd k → t 2 = .bool true → Run ⟨Try.prog, 5, Try.f5.ntmps, [], fun v H => v = .bool true ∧ H = []⟩ ⟨k, t, h⟩ := by
    intro k t h hk h6
    refine Run.mv [] [(2, .bool true)] [] (by rfl) (by decide) (by simp [h6]) (by simp) ?_
    refine Run.ret0 rfl Try.func5 r5_ok hk (by simp [r5]; rfl) ?_ (by simp)
    simp
  by_cases a1 : 20 < l.length
  · have a1' : (20 : Int) < l.length := by omega
    (repeat (first | refine Run.adm rfl ?_ | refine Run.seq ?_ | (apply Run.opS rfl; (· (simp -implicitDefEqProofs [a1, a1']; exact ⟨rfl, rfl⟩))) | (apply Run.condS; (· (simp -implicitDefEqProofs [a1, a1']; exact rfl)))))
    refine Run.opC rfl rfl rfl (awake_at _) ?_
    rintro v h' ⟨rfl, rfl⟩
    (repeat (first | refine Run.adm rfl ?_ | refine Run.seq ?_ | (apply Run.opS rfl; (· (simp -implicitDefEqProofs; exact ⟨rfl, rfl⟩))) | (apply Run.condS; (· (simp -implicitDefEqProofs; exact rfl)))))
    exact hend trivial (by simp)
  have a1' : ¬ (20 : Int) < l.length := by omega
  (repeat (first | refine Run.adm rfl ?_ | refine Run.seq ?_ | (apply Run.opS rfl; (· (simp -implicitDefEqProofs [a1, a1']; exact ⟨rfl, rfl⟩))) | (apply Run.condS; (· (simp -implicitDefEqProofs [a1, a1']; exact rfl)))))
  refine Run.loopC [0] (fun (a : Nat × St) => ([(0, .vs (l.map encE) 4), (3, .ptr 0 0), (4, .int .i64 a.1)], [.row (encZ a.2)]))
    (fun a => a.1 ≤ l.length ∧ GoodS a.2 ∧ a.2.tabs.length ≤ a.1 * 128) (fun a => l.length - a.1) (0, z0) ⟨Nat.zero_le _, goodS_z0, by simp [z0]⟩ (by rfl) (by decide) (by simp) (by simp [encZ, z0, VLe.nils]) ?_
  rintro ⟨i, s⟩ ⟨hi', hg, hsl⟩ ihO
  simp only at hi' hg hsl ihO ⊢
  by_cases hlt : i < l.length
  rotate_left
  · (repeat (first | refine Run.adm rfl ?_ | refine Run.seq ?_ | (apply Run.opS rfl; (· (simp -implicitDefEqProofs [hlt]; exact ⟨rfl, rfl⟩))) | (apply Run.condS; (· (simp -implicitDefEqProofs [hlt]; exact rfl)))))
    refine Run.opC rfl rfl rfl (awake_at _) ?_
    rintro v h' ⟨rfl, rfl⟩
    (repeat (first | refine Run.adm rfl ?_ | refine Run.seq ?_ | (apply Run.opS rfl; (· (simp -implicitDefEqProofs; exact ⟨rfl, rfl⟩))) | (apply Run.condS; (· (simp -implicitDefEqProofs; exact rfl)))))
    exact hend trivial (by simp)
  obtain ⟨e, he, hei, -, -⟩ := getL hlt
  have hlt' : (i : Int) < l.length := by omega
  have hw := wrap_small (n := (i : Int) + 1) (by omega) (by omega)
  have hli := fun H => light_at e H
  have hap := fun H => apply_at s e hg.1 (by omega) H
  have hln := applyR_len s e
  have hgs := fun h => applyR_goodS (e := e) hg h
  generalize applyR s e = q at *
  obtain ⟨s2, n⟩ := q
  simp only at hap hgs hln
  have hnext : n = 0 → Run ⟨Try.prog, 5, Try.f5.ntmps, [], fun v H => v = .bool true ∧ H = []⟩ ⟨[.code (.loop c5l1), .endB 2, .endB 1, .code (.region c5r24), .inLoop c5l0, .endB 0, .code (.seq (.region c5r25) .ret)], tl [(0, .vs (l.map encE) 4), (3, .ptr 0 0), (4, .int .i64 i), (7, .int .i64 0)], [.row (encZ s2)]⟩ := by
    intro hn
    obtain ⟨hg2, -, -⟩ := hgs hn
    refine Run.loopC [0] (fun (k : Nat) => ([(0, .vs (l.map encE) 4), (3, .ptr 0 0), (4, .int .i64 i), (7, .int .i64 k)], [.row (encZ s2)])) (fun k => k ≤ s2.tabs.length) (fun k => s2.tabs.length - k) 0 (by simp) (by rfl) (by decide) (by simp) (by simp) ?_
    intro k hk ih
    by_cases hkl : k < s2.tabs.length
    · obtain ⟨t, ht, hti, -, -⟩ := getL hkl
      have hkl' : (k : Int) < s2.tabs.length := by omega
      have hwk := wrap_small (n := (k : Int) + 1) (by omega) (by omega)
      have hid := hg2.2.1 t (List.mem_of_getElem? ht)
      have hid' : ¬ s2.next ≤ t.id := by omega
      have hlo := lo_le_hi (hg2.1.2.2 t (List.mem_of_getElem? ht))
      (repeat (first | refine Run.adm rfl ?_ | refine Run.seq ?_ | (apply Run.opS rfl; (· (simp -implicitDefEqProofs [encZ, hkl, hkl', ht, hti, encT, hid', bless_le, hlo]; exact ⟨rfl, rfl⟩))) | (apply Run.condS; (· (simp -implicitDefEqProofs [encZ, hkl, hkl', ht, hti, encT, hid', bless_le, hlo]; exact rfl)))))
      refine Run.loopC [0, 1] (fun (j : Nat) => ([(0, .vs (l.map encE) 4), (3, .ptr 0 0), (4, .int .i64 i), (7, .int .i64 k), (8, .ptr 1 0), (9, .int .i64 j)], [.row (encZ s2), .row (encT t)])) (fun j => j ≤ k) (fun j => k - j) 0 (by simp) (by rfl) (by decide) (by simp) (by simp [encZ, encT]) ?_
      intro j hj ihj
      by_cases hjk : j < k
      · have hjk' : (j : Int) < k := by omega
        have hjl : j < s2.tabs.length := by omega
        have hjl' : (j : Int) < s2.tabs.length := by omega
        obtain ⟨u, hu, hui, -, -⟩ := getL hjl
        have hwj := wrap_small (n := (j : Int) + 1) (by omega) (by omega)
        obtain ⟨c1, c2, c3⟩ := goodS_two hg2 hjk hu ht
        have c2' : ¬ t.level < u.level := by omega
        have hgo : Run ⟨Try.prog, 5, Try.f5.ntmps, [], fun v H => v = .bool true ∧ H = []⟩ _ := ihj (j + 1) (by omega) (by omega)
        by_cases c4 : 0 < t.level
        · by_cases c5 : u.level = t.level
          · have c6 := c3 c4 c5
            (repeat (first | refine Run.adm rfl ?_ | refine Run.seq ?_ | (apply Run.opS rfl; (· (simp -implicitDefEqProofs [encZ, encT, hjk, hjk', hjl, hjl', hu, hui, c1, c2', c4, c5, c6]; exact ⟨rfl, rfl⟩))) | (apply Run.condS; (· (simp -implicitDefEqProofs [encZ, encT, hjk, hjk', hjl, hjl', hu, hui, c1, c2', c4, c5, c6]; exact rfl)))))
            refine Run.mv [0, 1] _ _ (by rfl) (by decide) ?_ ?_ hgo
            · simp [hwj]
            · simp [encZ, encT]
          · (repeat (first | refine Run.adm rfl ?_ | refine Run.seq ?_ | (apply Run.opS rfl; (· (simp -implicitDefEqProofs [encZ, encT, hjk, hjk', hjl, hjl', hu, hui, c1, c2', c4, c5]; exact ⟨rfl, rfl⟩))) | (apply Run.condS; (· (simp -implicitDefEqProofs [encZ, encT, hjk, hjk', hjl, hjl', hu, hui, c1, c2', c4, c5]; exact rfl)))))
            refine Run.mv [0, 1] _ _ (by rfl) (by decide) ?_ ?_ hgo
            · simp [hwj]
            · simp [encZ, encT]
        · (repeat (first | refine Run.adm rfl ?_ | refine Run.seq ?_ | (apply Run.opS rfl; (· (simp -implicitDefEqProofs [encZ, encT, hjk, hjk', hjl, hjl', hu, hui, c1, c2', c4]; exact ⟨rfl, rfl⟩))) | (apply Run.condS; (· (simp -implicitDefEqProofs [encZ, encT, hjk, hjk', hjl, hjl', hu, hui, c1, c2', c4]; exact rfl)))))
          refine Run.mv [0, 1] _ _ (by rfl) (by decide) ?_ ?_ hgo
          · simp [hwj]
          · simp [encZ, encT]
      · have hjk' : ¬ (j : Int) < k := by omega
        (repeat (first | refine Run.adm rfl ?_ | refine Run.seq ?_ | (apply Run.opS rfl; (· (simp -implicitDefEqProofs [hjk, hjk']; exact ⟨rfl, rfl⟩))) | (apply Run.condS; (· (simp -implicitDefEqProofs [hjk, hjk']; exact rfl)))))
        refine Run.mv [0] _ _ (by rfl) (by decide) ?_ ?_ (ih (k + 1) (by omega) (by omega))
        · simp [hwk]
        · simp
    · have hkl' : ¬ (k : Int) < s2.tabs.length := by omega
      (repeat (first | refine Run.adm rfl ?_ | refine Run.seq ?_ | (apply Run.opS rfl; (· (simp -implicitDefEqProofs [encZ, hkl, hkl']; exact ⟨rfl, rfl⟩))) | (apply Run.condS; (· (simp -implicitDefEqProofs [encZ, hkl, hkl']; exact rfl)))))
      refine Run.mv [0] _ _ (by rfl) (by decide) ?_ ?_ (ihO (i + 1, s2) ⟨by simp only; omega, hg2, by simp only; omega⟩ (by simp only; omega))
      · simp [hw]
      · simp [encZ]
  (repeat (first | refine Run.adm rfl ?_ | refine Run.seq ?_ | (apply Run.opS rfl; (· (simp -implicitDefEqProofs [hlt, hlt', he, hei]; exact ⟨rfl, rfl⟩))) | (apply Run.condS; (· (simp -implicitDefEqProofs [hlt, hlt', he, hei]; exact rfl)))))
  refine Run.opC rfl rfl rfl (hli _) ?_
  rintro v h' ⟨rfl, rfl⟩
  cases hle : lightM e with
  | false =>
    (repeat (first | refine Run.adm rfl ?_ | refine Run.seq ?_ | (apply Run.opS rfl; (· (simp -implicitDefEqProofs [hle]; exact ⟨rfl, rfl⟩))) | (apply Run.condS; (· (simp -implicitDefEqProofs [hle]; exact rfl)))))
    refine Run.opC rfl rfl rfl (awake_at _) ?_
    rintro v h' ⟨rfl, rfl⟩
    (repeat (first | refine Run.adm rfl ?_ | refine Run.seq ?_ | (apply Run.opS rfl; (· (simp -implicitDefEqProofs; exact ⟨rfl, rfl⟩))) | (apply Run.condS; (· (simp -implicitDefEqProofs; exact rfl)))))
    exact hend trivial (by simp)
  | true =>
  (repeat (first | refine Run.adm rfl ?_ | refine Run.seq ?_ | (apply Run.opS rfl; (· (simp -implicitDefEqProofs [hle]; exact ⟨rfl, rfl⟩))) | (apply Run.condS; (· (simp -implicitDefEqProofs [hle]; exact rfl)))))
  refine Run.drawn prog_mixed ?_
  show RunD _ c5d0 [0, 1, 2, 3, 4, 5, 6, 7, 8, 9, 10, 11] [] _ _ _
  refine RunD.flow [0, 1, 2, 3, 4, 5, 6, 7, 8] (by kernel_rfl) (by decide +kernel) (by decide +kernel) (by decide) trivial ?_
  (repeat (first | refine execQ_E rfl ?_ | (apply execQ_S rfl; (· (simp -implicitDefEqProofs [hlt, hlt', he, hei]; exact ⟨rfl, rfl⟩)))))
  refine execQ_C rfl rfl rfl (hap _) ?_
  (repeat (first | refine execQ_E rfl ?_ | (apply execQ_S rfl; (· (simp -implicitDefEqProofs; exact ⟨rfl, rfl⟩)))))
  intro hpo
  refine RunD.alt1 9 (by kernel_rfl) (by kernel_rfl) hpo ?_
  (apply AStep.S rfl; (· (simp -implicitDefEqProofs; exact ⟨rfl, rfl⟩)))
  refine RunD.alt1 10 (by kernel_rfl) (by kernel_rfl) (by
    show PendOk _ c5d0 _ _ [8, 7, 6, 5, 4, 3, 2, 1, 0]
    (repeat (first | exact PendOk.nil | (refine PendOk.S rfl rfl ?_ ?_; (· (simp -implicitDefEqProofs; done)))))
    refine PendOk.call rfl rfl rfl rfl (hap _) ?_
    (repeat (first | exact PendOk.nil | (refine PendOk.S rfl rfl ?_ ?_; (· (simp -implicitDefEqProofs [hlt, hlt', he, hei]; done)))))) ?_
  (apply AStep.S rfl; (· (simp -implicitDefEqProofs [encZ]; exact ⟨rfl, rfl⟩)))
  refine RunD.alt1 11 (by kernel_rfl) (by kernel_rfl) (by
    show PendOk _ c5d0 _ _ [8]
    (repeat (first | exact PendOk.nil | (refine PendOk.S rfl rfl ?_ ?_; (· (simp -implicitDefEqProofs; done)))))) ?_
  (apply AStep.S rfl; (· (simp -implicitDefEqProofs; exact ⟨rfl, rfl⟩)))
  refine RunD.fin (by kernel_rfl) (by trivial) ?_
  refine Run.mv [0, 1] [(0, .vs (l.map encE) 4), (3, .ptr 0 0), (4, .int .i64 i), (5, .ptr 1 0), (6, .int .i64 n)] [.row (encZ s), .row (encZ s2)] (by rfl) (by decide) (by simp -implicitDefEqProofs [encZ]) (by simp -implicitDefEqProofs [encZ]) ?_
  by_cases hn : n = 0
  rotate_left
  · (repeat (first | refine Run.adm rfl ?_ | refine Run.seq ?_ | (apply Run.opS rfl; (· (simp -implicitDefEqProofs [hn]; exact ⟨rfl, rfl⟩))) | (apply Run.condS; (· (simp -implicitDefEqProofs [hn]; exact rfl)))))
    refine Run.mv [0] _ _ (by rfl) (by decide) ?_ ?_ (ihO (i + 1, s) ⟨by simp only; omega, hg, by simp only; omega⟩ (by simp only; omega))
    · simp [hw]
    · simp
  obtain ⟨-, g1, g2⟩ := hgs hn
  have g1' : ¬ s2.log < s.log := by omega
  have g2' : ¬ s2.next < s.next := by omega
  have hq := hnext hn
  clear ihO hnext
  (repeat (first | refine Run.adm rfl ?_ | refine Run.seq ?_ | (apply Run.opS rfl; (· (simp -implicitDefEqProofs [hn, encZ, g1', g2']; exact ⟨rfl, rfl⟩))) | (apply Run.condS; (· (simp -implicitDefEqProofs [hn, encZ, g1', g2']; exact rfl)))))
  refine Run.mv [0] _ _ (by rfl) (by decide) ?_ ?_ hq
  · simp
  · simp [encZ]

end Go.Proofs.Ytpipgcmiaccdkaa
