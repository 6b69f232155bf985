/-
  Layer 12, part Zf: the law ManifestOverlaps.
-/
import Derived.Test.YtpipgcmiaccdkaaManZe
namespace Go.Proofs.Ytpipgcmiaccdkaa
open Sx Go
set_option maxRecDepth 100000
set_option linter.unusedSimpArgs false
set_option linter.unusedVariables false
set_option linter.unnecessarySimpa false
attribute [local simp] stepV condR boundsC appendG appendO copyV srcC guardB isCall opStep Opd.ev put readAt aBin aUn args0 V.celled V.ones V.one V.cells putAt bounds bound1 elemsOf srcOf appendV fillAt fillEl V.pures V.pure unwind evs ARes.ev mkRes V.ren V.renL O.ren eqCells eq1 aEq aMM hasTy hasTyN okTy mmGo Known HLe OLe VsLe.refl VLe.refl VLe.cap Stay VsLe V.frz V.frzL O.frz fr clearV rn KnownR Objs OLeO ObjsE nm back setAll ren_ite take_map_len List.take_of_length_le
attribute [local simp ↓] upd_app tl_cons tl_nil
attribute [local simp] encT_ren encT_ones encT_len encT_take encN_ren encN_ones encN_len encN_take
attribute [local simp] encE_ren encE_len encE_take encZ_ren encZ_len encZ_take
attribute [local simp] encS_ren encS_ones encS_len encS_take

theorem overlaps_law (l : List Ed) (a b c : Bs) (level : Int) : Tri Try.prog 7 [.vs (l.map encE) 4, .agg [.str a, .str b, .str c], .int .i64 level] [] (fun v H => v = .bool true ∧ H = []) := by
  refine Tri.of_run' Try.func7 rfl c7_ok (by simp [Try.ntmps7]) ?_
  have hend : ∀ {k t h}, AtEnd k → t 6 = .bool true → Run ⟨Try.prog, 7, Try.f7.ntmps, [], fun v H => v = .bool true ∧ H = []⟩ ⟨k, t, h⟩ := by
    intro k t h hk h6
    refine Run.mv [] [(6, .bool true)] [] (by rfl) (by decide) (by simp [h6]) (by simp) ?_
    refine Run.ret0 rfl Try.func7 r7_ok hk (by simp [r7]; rfl) ?_ (by simp)
    simp
  by_cases a1 : 10 < l.length
  · have a1' : (10 : Int) < l.length := by omega
    (repeat (first | refine Run.adm rfl ?_ | refine Run.seq ?_ | (apply Run.opS rfl; (· (simp -implicitDefEqProofs [a1, a1']; exact ⟨rfl, rfl⟩))) | (apply Run.condS; (· (simp -implicitDefEqProofs [a1, a1']; exact rfl)))))
    refine Run.opC rfl rfl rfl (awake_at _) ?_
    rintro v h' ⟨rfl, rfl⟩
    (repeat (first | refine Run.adm rfl ?_ | refine Run.seq ?_ | (apply Run.opS rfl; (· (simp -implicitDefEqProofs; exact ⟨rfl, rfl⟩))) | (apply Run.condS; (· (simp -implicitDefEqProofs; exact rfl)))))
    exact hend trivial (by simp)
  have a1' : ¬ (10 : Int) < l.length := by omega
  (repeat (first | refine Run.adm rfl ?_ | refine Run.seq ?_ | (apply Run.opS rfl; (· (simp -implicitDefEqProofs [a1, a1']; exact ⟨rfl, rfl⟩))) | (apply Run.condS; (· (simp -implicitDefEqProofs [a1, a1']; exact rfl)))))
  refine Run.loopC [0, 1] (fun (q : Nat × St) => ([(0, .vs (l.map encE) 4), (2, .int .i64 level), (4, .ptr 0 0), (7, .ptr 1 0), (8, .int .i64 q.1)], [.row [.str a, .str b, .str c], .row (encZ q.2)]))
    (fun q => q.1 ≤ l.length ∧ GoodL q.2 ∧ q.2.tabs.length ≤ q.1 * 128) (fun q => l.length - q.1) (0, z0) ⟨Nat.zero_le _, goodL_z0, by simp [z0]⟩ (by rfl) (by decide) (by simp) (by simp [encZ, z0, VLe.nils]) ?_
  rintro ⟨i, s⟩ ⟨hi', hg, hsl⟩ ihO
  simp only at hi' hg hsl ihO ⊢
  by_cases hlt : i < l.length
  · obtain ⟨e, he, hei, -, -⟩ := getL hlt
    have hlt' : (i : Int) < l.length := by omega
    have hw := wrap_small (n := (i : Int) + 1) (by omega) (by omega)
    have hli := fun H => light_at e H
    have hap := fun H => apply_at s e hg.1.1 (by omega) H
    have hln := applyR_len s e
    have hgs := fun h => applyR_goodL (e := e) hg h
    generalize applyR s e = q at *
    obtain ⟨s2, n⟩ := q
    simp only at hap hgs hln
    (repeat (first | refine Run.adm rfl ?_ | refine Run.seq ?_ | (apply Run.opS rfl; (· (simp -implicitDefEqProofs [hlt, hlt', he, hei]; exact ⟨rfl, rfl⟩))) | (apply Run.condS; (· (simp -implicitDefEqProofs [hlt, hlt', he, hei]; exact rfl)))))
    refine Run.opC rfl rfl rfl (hli _) ?_
    rintro v h' ⟨rfl, rfl⟩
    cases hle : lightM e with
    | false =>
      (repeat (first | refine Run.adm rfl ?_ | refine Run.seq ?_ | (apply Run.opS rfl; (· (simp -implicitDefEqProofs [hle]; exact ⟨rfl, rfl⟩))) | (apply Run.condS; (· (simp -implicitDefEqProofs [hle]; exact rfl)))))
      refine Run.opC rfl rfl rfl (awake_at _) ?_
      rintro v h' ⟨rfl, rfl⟩
      (repeat (first | refine Run.adm rfl ?_ | refine Run.seq ?_ | (apply Run.opS rfl; (· (simp -implicitDefEqProofs; exact ⟨rfl, rfl⟩))) | (apply Run.condS; (· (simp -implicitDefEqProofs; exact rfl)))))
      exact hend trivial (by simp)
    | true =>
    (repeat (first | refine Run.adm rfl ?_ | refine Run.seq ?_ | (apply Run.opS rfl; (· (simp -implicitDefEqProofs [hle]; exact ⟨rfl, rfl⟩))) | (apply Run.condS; (· (simp -implicitDefEqProofs [hle]; exact rfl)))))
    refine Run.drawn prog_mixed ?_
    show RunD _ c7d0 [0, 1, 2, 3, 4, 5, 6, 7, 8, 9, 10, 11] [] _ _ _
    refine RunD.flow [0, 1, 2, 3, 4, 5, 6, 7, 8] (by kernel_rfl) (by decide +kernel) (by decide +kernel) (by decide) trivial ?_
    (repeat (first | refine execQ_E rfl ?_ | (apply execQ_S rfl; (· (simp -implicitDefEqProofs [hlt, hlt', he, hei]; exact ⟨rfl, rfl⟩)))))
    refine execQ_C rfl rfl rfl (hap _) ?_
    (repeat (first | refine execQ_E rfl ?_ | (apply execQ_S rfl; (· (simp -implicitDefEqProofs; exact ⟨rfl, rfl⟩)))))
    intro hpo
    refine RunD.alt1 9 (by kernel_rfl) (by kernel_rfl) hpo ?_
    (apply AStep.S rfl; (· (simp -implicitDefEqProofs; exact ⟨rfl, rfl⟩)))
    refine RunD.alt1 10 (by kernel_rfl) (by kernel_rfl) (by
      show PendOk _ c7d0 _ _ [8, 7, 6, 5, 4, 3, 2, 1, 0]
      (repeat (first | exact PendOk.nil | (refine PendOk.S rfl rfl ?_ ?_; (· (simp -implicitDefEqProofs; done)))))
      refine PendOk.call rfl rfl rfl rfl (hap _) ?_
      (repeat (first | exact PendOk.nil | (refine PendOk.S rfl rfl ?_ ?_; (· (simp -implicitDefEqProofs [hlt, hlt', he, hei]; done)))))) ?_
    (apply AStep.S rfl; (· (simp -implicitDefEqProofs [encZ]; exact ⟨rfl, rfl⟩)))
    refine RunD.alt1 11 (by kernel_rfl) (by kernel_rfl) (by
      show PendOk _ c7d0 _ _ [8]
      (repeat (first | exact PendOk.nil | (refine PendOk.S rfl rfl ?_ ?_; (· (simp -implicitDefEqProofs; done)))))) ?_
    (apply AStep.S rfl; (· (simp -implicitDefEqProofs; exact ⟨rfl, rfl⟩)))
    refine RunD.fin (by kernel_rfl) (by trivial) ?_
    refine Run.mv [0, 1, 2] [(0, .vs (l.map encE) 4), (2, .int .i64 level), (4, .ptr 0 0), (7, .ptr 1 0), (8, .int .i64 i), (9, .ptr 2 0), (10, .int .i64 n)] [.row [.str a, .str b, .str c], .row (encZ s), .row (encZ s2)] (by rfl) (by decide) (by simp -implicitDefEqProofs [encZ]) (by simp -implicitDefEqProofs [encZ]) ?_
    by_cases hn : n = 0
    · (repeat (first | refine Run.adm rfl ?_ | refine Run.seq ?_ | (apply Run.opS rfl; (· (simp -implicitDefEqProofs [hn, encZ]; exact ⟨rfl, rfl⟩))) | (apply Run.condS; (· (simp -implicitDefEqProofs [hn, encZ]; exact rfl)))))
      refine Run.mv [0, 1] _ _ (by rfl) (by decide) ?_ ?_ (ihO (i + 1, s2) ⟨by simp only; omega, hgs hn, by simp only; omega⟩ (by simp only; omega))
      · simp [hw]
      · simp [encZ]
    · (repeat (first | refine Run.adm rfl ?_ | refine Run.seq ?_ | (apply Run.opS rfl; (· (simp -implicitDefEqProofs [hn]; exact ⟨rfl, rfl⟩))) | (apply Run.condS; (· (simp -implicitDefEqProofs [hn]; exact rfl)))))
      refine Run.mv [0, 1] _ _ (by rfl) (by decide) ?_ ?_ (ihO (i + 1, s) ⟨by simp only; omega, hg, by simp only; omega⟩ (by simp only; omega))
      · simp [hw]
      · simp
  have hlt' : ¬ (i : Int) < l.length := by omega
  have hsl2 : s.tabs.length ≤ 1280 := by omega
  clear ihO hsl
  (repeat (first | refine Run.adm rfl ?_ | refine Run.seq ?_ | (apply Run.opS rfl; (· (simp -implicitDefEqProofs [hlt, hlt']; exact ⟨rfl, rfl⟩))) | (apply Run.condS; (· (simp -implicitDefEqProofs [hlt, hlt']; exact rfl)))))
  refine Run.quietM prog_mixed (by kernel_rfl) [1] [(2, .int .i64 level), (7, .ptr 0 0), (11, .str a), (12, .str b), (13, .str c)] [.row (encZ s)] (by rfl) (by decide) ?_ ?_
  · (repeat (first | refine execQ_E rfl ?_ | (apply execQ_S rfl; (· (simp -implicitDefEqProofs; exact ⟨rfl, rfl⟩)))))
    simp
  by_cases b1 : 100 < a.length
  · have b1' : (100 : Int) < a.length := by omega
    (repeat (first | refine Run.adm rfl ?_ | refine Run.seq ?_ | (apply Run.opS rfl; (· (simp -implicitDefEqProofs [b1, b1']; exact ⟨rfl, rfl⟩))) | (apply Run.condS; (· (simp -implicitDefEqProofs [b1, b1']; exact rfl)))))
    refine Run.opC rfl rfl rfl (awake_at _) ?_
    rintro v h' ⟨rfl, rfl⟩
    (repeat (first | refine Run.adm rfl ?_ | refine Run.seq ?_ | (apply Run.opS rfl; (· (simp -implicitDefEqProofs; exact ⟨rfl, rfl⟩))) | (apply Run.condS; (· (simp -implicitDefEqProofs; exact rfl)))))
    exact hend trivial (by simp)
  have b1' : ¬ (100 : Int) < a.length := by omega
  by_cases b2 : 100 < b.length
  · have b2' : (100 : Int) < b.length := by omega
    (repeat (first | refine Run.adm rfl ?_ | refine Run.seq ?_ | (apply Run.opS rfl; (· (simp -implicitDefEqProofs [b1, b1', b2, b2']; exact ⟨rfl, rfl⟩))) | (apply Run.condS; (· (simp -implicitDefEqProofs [b1, b1', b2, b2']; exact rfl)))))
    refine Run.opC rfl rfl rfl (awake_at _) ?_
    rintro v h' ⟨rfl, rfl⟩
    (repeat (first | refine Run.adm rfl ?_ | refine Run.seq ?_ | (apply Run.opS rfl; (· (simp -implicitDefEqProofs; exact ⟨rfl, rfl⟩))) | (apply Run.condS; (· (simp -implicitDefEqProofs; exact rfl)))))
    exact hend trivial (by simp)
  have b2' : ¬ (100 : Int) < b.length := by omega
  by_cases b3 : 100 < c.length
  · have b3' : (100 : Int) < c.length := by omega
    (repeat (first | refine Run.adm rfl ?_ | refine Run.seq ?_ | (apply Run.opS rfl; (· (simp -implicitDefEqProofs [b1, b1', b2, b2', b3, b3']; exact ⟨rfl, rfl⟩))) | (apply Run.condS; (· (simp -implicitDefEqProofs [b1, b1', b2, b2', b3, b3']; exact rfl)))))
    refine Run.opC rfl rfl rfl (awake_at _) ?_
    rintro v h' ⟨rfl, rfl⟩
    (repeat (first | refine Run.adm rfl ?_ | refine Run.seq ?_ | (apply Run.opS rfl; (· (simp -implicitDefEqProofs; exact ⟨rfl, rfl⟩))) | (apply Run.condS; (· (simp -implicitDefEqProofs; exact rfl)))))
    exact hend trivial (by simp)
  have b3' : ¬ (100 : Int) < c.length := by omega
  cases hab : Op.bytesLess b a with
  | true =>
    (repeat (first | refine Run.adm rfl ?_ | refine Run.seq ?_ | (apply Run.opS rfl; (· (simp -implicitDefEqProofs [b1, b1', b2, b2', b3, b3', bless_le, hab]; exact ⟨rfl, rfl⟩))) | (apply Run.condS; (· (simp -implicitDefEqProofs [b1, b1', b2, b2', b3, b3', bless_le, hab]; exact rfl)))))
    refine Run.opC rfl rfl rfl (awake_at _) ?_
    rintro v h' ⟨rfl, rfl⟩
    (repeat (first | refine Run.adm rfl ?_ | refine Run.seq ?_ | (apply Run.opS rfl; (· (simp -implicitDefEqProofs; exact ⟨rfl, rfl⟩))) | (apply Run.condS; (· (simp -implicitDefEqProofs; exact rfl)))))
    exact hend trivial (by simp)
  | false =>
  cases hbc : Op.bytesLess c b with
  | true =>
    (repeat (first | refine Run.adm rfl ?_ | refine Run.seq ?_ | (apply Run.opS rfl; (· (simp -implicitDefEqProofs [b1, b1', b2, b2', b3, b3', bless_le, hab, hbc]; exact ⟨rfl, rfl⟩))) | (apply Run.condS; (· (simp -implicitDefEqProofs [b1, b1', b2, b2', b3, b3', bless_le, hab, hbc]; exact rfl)))))
    refine Run.opC rfl rfl rfl (awake_at _) ?_
    rintro v h' ⟨rfl, rfl⟩
    (repeat (first | refine Run.adm rfl ?_ | refine Run.seq ?_ | (apply Run.opS rfl; (· (simp -implicitDefEqProofs; exact ⟨rfl, rfl⟩))) | (apply Run.condS; (· (simp -implicitDefEqProofs; exact rfl)))))
    exact hend trivial (by simp)
  | false =>
  obtain ⟨ll, hll, hlll⟩ := and255 level
  have hm2 : Int.tmod (ll : Int) 3 = ((ll % 3 : Nat) : Int) := by rw [Int.tmod_eq_emod_of_nonneg (by omega)]; rfl
  obtain ⟨lv, hlv⟩ : ∃ lv, lv = ((ll % 3 : Nat) : Int) := ⟨_, rfl⟩
  rw [← hlv] at hm2
  have ho1 := fun H => overZ_at s lv a b (by omega) H
  have ho2 := fun H => overZ_at s lv b c (by omega) H
  have ho3 := fun H => overZ_at s lv a c (by omega) H
  have hx1 : (ovl s.tabs lv a b).length ≤ (ovl s.tabs lv a c).length := filter_mono fun t _ h => ov_left hbc h
  have hx2 : (ovl s.tabs lv b c).length ≤ (ovl s.tabs lv a c).length := filter_mono fun t _ h => ov_right hab h
  have hx3 : (ovl s.tabs lv a c).length ≤ (ovl s.tabs lv a b).length + (ovl s.tabs lv b c).length := filter_or fun t ht h => ov_split (lo_le_hi (hg.1.1.2.2 t ht)) h
  have hx4 := ovl_len s.tabs lv a c
  have hzz : ∀ t ∈ ovl s.tabs lv a c, (t ∈ ovl s.tabs lv a b ∨ t ∈ ovl s.tabs lv b c) ∧ t.level = lv ∧ Op.bytesLess t.hi a = false ∧ Op.bytesLess c t.lo = false := by
    intro t ht
    obtain ⟨h1, h2⟩ := List.mem_filter.1 ht
    refine ⟨?_, ovB_spec.1 h2⟩
    rcases ov_split (b := b) (lo_le_hi (hg.1.1.2.2 t h1)) h2 with h | h
    · exact .inl (List.mem_filter.2 ⟨h1, h⟩)
    · exact .inr (List.mem_filter.2 ⟨h1, h⟩)
  generalize ovl s.tabs lv a b = X at *
  generalize ovl s.tabs lv b c = Y at *
  generalize ovl s.tabs lv a c = Z at *
  (repeat (first | refine Run.adm rfl ?_ | refine Run.seq ?_ | (apply Run.opS rfl; (· (simp -implicitDefEqProofs [b1, b1', b2, b2', b3, b3', bless_le, hab, hbc, hll, hm2]; exact ⟨rfl, rfl⟩))) | (apply Run.condS; (· (simp -implicitDefEqProofs [b1, b1', b2, b2', b3, b3', bless_le, hab, hbc, hll, hm2]; exact rfl)))))
  refine Run.quietM prog_mixed (by kernel_rfl) [] [(11, .str a), (13, .str c), (14, .int .i64 lv), (15, .vs (X.map encT) 4), (16, .vs (Y.map encT) 4), (17, .vs (Z.map encT) 4)] [] (by rfl) (by decide) ?_ ?_
  · (repeat (first | refine execQ_E rfl ?_ | (apply execQ_S rfl; (· (simp -implicitDefEqProofs; exact ⟨rfl, rfl⟩)))))
    refine execQ_C rfl rfl rfl (ho1 _) ?_
    (repeat (first | refine execQ_E rfl ?_ | (apply execQ_S rfl; (· (simp -implicitDefEqProofs; exact ⟨rfl, rfl⟩)))))
    refine execQ_C rfl rfl rfl (ho2 _) ?_
    (repeat (first | refine execQ_E rfl ?_ | (apply execQ_S rfl; (· (simp -implicitDefEqProofs; exact ⟨rfl, rfl⟩)))))
    refine execQ_C rfl rfl rfl (ho3 _) ?_
    (repeat (first | refine execQ_E rfl ?_ | (apply execQ_S rfl; (· (simp -implicitDefEqProofs; exact ⟨rfl, rfl⟩)))))
    simp
  (repeat (first | refine Run.adm rfl ?_ | refine Run.seq ?_ | (apply Run.opS rfl; (· (simp -implicitDefEqProofs; exact ⟨rfl, rfl⟩))) | (apply Run.condS; (· (simp -implicitDefEqProofs; exact rfl)))))
  refine Run.loopC [] (fun (p : Nat) => ([(11, .str a), (13, .str c), (14, .int .i64 lv), (15, .vs (X.map encT) 4), (16, .vs (Y.map encT) 4), (17, .vs (Z.map encT) 4), (18, .int .i64 p)], [])) (fun p => p ≤ Z.length) (fun p => Z.length - p) 0 (by simp) (by rfl) (by decide) (by simp) (by simp) ?_
  intro p hp ihO
  by_cases hpz : p < Z.length
  rotate_left
  · have hpz' : ¬ (p : Int) < Z.length := by omega
    have hwl : IntKind.i64.wrap ((X.length : Int) + Y.length) = (X.length : Int) + Y.length := wrap_small (by omega) (by omega)
    have hmx : (if (X.length : Int) < Y.length then (Y.length : Int) else X.length) ≤ Z.length := by split <;> omega
    have hmx2 : (if X.length < Y.length then (Y.length : Int) else X.length) ≤ Z.length := by split <;> omega
    have hsm : (Z.length : Int) ≤ (X.length : Int) + Y.length := by omega
    clear ihO
    (repeat (first | refine Run.adm rfl ?_ | refine Run.seq ?_ | (apply Run.opS rfl; (· (simp -implicitDefEqProofs [hpz, hpz', hwl, hmx, hmx2, hsm, hx3]; exact ⟨rfl, rfl⟩))) | (apply Run.condS; (· (simp -implicitDefEqProofs [hpz, hpz', hwl, hmx, hmx2, hsm, hx3]; exact rfl)))))
    refine Run.opC rfl (by simp) rfl (awake_at _) ?_
    rintro v h' ⟨rfl, rfl⟩
    (repeat (first | refine Run.adm rfl ?_ | refine Run.seq ?_ | (apply Run.opS rfl; (· (simp -implicitDefEqProofs; exact ⟨rfl, rfl⟩))) | (apply Run.condS; (· (simp -implicitDefEqProofs; exact rfl)))))
    exact hend trivial (by simp)
  obtain ⟨z, hz, hzi, -, -⟩ := getL hpz
  have hpz' : (p : Int) < Z.length := by omega
  have hwp := wrap_small (n := (p : Int) + 1) (by omega) (by omega)
  obtain ⟨hin, g1, g2, g3⟩ := hzz z (List.mem_of_getElem? hz)
  have hlast : Run ⟨Try.prog, 7, Try.f7.ntmps, [], fun v H => v = .bool true ∧ H = []⟩ ⟨[.code (.loop c7l3), .endB 6, .code (.seq (.region c7r23) (.cond (.t 170) (.seq (.region c7r24) .ret) .skip)), .endB 3, .code (.region c7r25), .inLoop c7l1, .endB 2, .code (.seq (.region c7r26) .ret)], tl [(11, .str a), (13, .str c), (14, .int .i64 lv), (15, .vs (X.map encT) 4), (16, .vs (Y.map encT) 4), (17, .vs (Z.map encT) 4), (18, .int .i64 p), (19, .bool (decide (z ∈ X))), (21, .int .i64 0)], []⟩ := by
    refine Run.loopC [] (fun (k : Nat) => ([(11, .str a), (13, .str c), (14, .int .i64 lv), (15, .vs (X.map encT) 4), (16, .vs (Y.map encT) 4), (17, .vs (Z.map encT) 4), (18, .int .i64 p), (19, .bool (decide (z ∈ X) || decide (z ∈ Y.take k))), (21, .int .i64 k)], [])) (fun k => k ≤ Y.length) (fun k => Y.length - k) 0 (by simp) (by rfl) (by decide) (by simp) (by simp) ?_
    intro k hk ih
    by_cases hkl : k < Y.length
    · obtain ⟨u, hu, hui, -, -⟩ := getL hkl
      have hkl' : (k : Int) < Y.length := by omega
      have hwk := wrap_small (n := (k : Int) + 1) (by omega) (by omega)
      have hnx : decide (z ∈ Y.take (k + 1)) = (decide (z ∈ Y.take k) || decide (u = z)) := by rw [take_snoc hu]; simp [eq_comm]
      have ihq := ih (k + 1) (by omega) (by omega)
      simp only [hnx, ← Bool.or_assoc] at ihq
      clear ih
      generalize (decide (z ∈ X) || decide (z ∈ Y.take k)) = bb at *
      (repeat (first | refine Run.adm rfl ?_ | refine Run.seq ?_ | (apply Run.opS rfl; (· (simp -implicitDefEqProofs [hkl, hkl']; exact ⟨rfl, rfl⟩))) | (apply Run.condS; (· (simp -implicitDefEqProofs [hkl, hkl']; exact rfl)))))
      refine Run.drawn prog_mixed ?_
      show RunD _ c7d4 [0, 1, 2, 3, 4, 5, 6, 7, 8, 9, 10, 11, 12] [] _ _ _
      cases bb with
      | true =>
        refine RunD.flow [0, 1, 2, 3, 4, 5, 6, 7, 8, 9, 10, 11] (by kernel_rfl) (by decide +kernel) (by decide +kernel) (by decide) trivial ?_; (repeat (first | refine execQ_E rfl ?_ | (apply execQ_S rfl; (· (simp -implicitDefEqProofs; exact ⟨rfl, rfl⟩))))); intro hpo
        refine RunD.alt1 12 (by kernel_rfl) (by kernel_rfl) hpo ?_
        (apply AStep.S rfl; (· (simp -implicitDefEqProofs; exact ⟨rfl, rfl⟩)))
        refine RunD.fin (by kernel_rfl) (by trivial) ?_
        (repeat (first | refine Run.adm rfl ?_ | refine Run.seq ?_ | (apply Run.opS rfl; (· (simp -implicitDefEqProofs; exact ⟨rfl, rfl⟩))) | (apply Run.condS; (· (simp -implicitDefEqProofs; exact rfl)))))
        refine Run.mv [] _ _ (by rfl) (by decide) ?_ ?_ ihq
        · simp [hwk]
        · simp
      | false =>
        refine RunD.flow [0, 1, 2, 3, 4, 5, 6, 7, 8, 9, 10, 11] (by kernel_rfl) (by decide +kernel) (by decide +kernel) (by decide) trivial ?_; (repeat (first | refine execQ_E rfl ?_ | (apply execQ_S rfl; (· (simp -implicitDefEqProofs [hkl, hkl', hu, hui, hpz, hpz', hz, hzi, eqT]; exact ⟨rfl, rfl⟩))))); intro hpo
        refine RunD.alt1 12 (by kernel_rfl) (by kernel_rfl) hpo ?_
        (apply AStep.S rfl; (· (simp -implicitDefEqProofs; exact ⟨rfl, rfl⟩)))
        refine RunD.fin (by kernel_rfl) (by trivial) ?_
        (repeat (first | refine Run.adm rfl ?_ | refine Run.seq ?_ | (apply Run.opS rfl; (· (simp -implicitDefEqProofs; exact ⟨rfl, rfl⟩))) | (apply Run.condS; (· (simp -implicitDefEqProofs; exact rfl)))))
        refine Run.mv [] _ _ (by rfl) (by decide) ?_ ?_ ihq
        · simp [hwk]
        · simp
    · have hkl' : ¬ (k : Int) < Y.length := by omega
      have : k = Y.length := by omega
      subst this
      clear ih
      have hb : (decide (z ∈ X) || decide (z ∈ Y)) = true := by simpa using hin
      rw [List.take_length, hb]
      (repeat (first | refine Run.adm rfl ?_ | refine Run.seq ?_ | (apply Run.opS rfl; (· (simp -implicitDefEqProofs [hpz, hpz', hz, hzi, encT, g1, g2, g3, bless_le]; exact ⟨rfl, rfl⟩))) | (apply Run.condS; (· (simp -implicitDefEqProofs [hpz, hpz', hz, hzi, encT, g1, g2, g3, bless_le]; exact rfl)))))
      refine Run.mv [] _ _ (by rfl) (by decide) ?_ ?_ (ihO (p + 1) (by omega) (by omega))
      · simp [hwp]
      · simp
  clear ihO
  (repeat (first | refine Run.adm rfl ?_ | refine Run.seq ?_ | (apply Run.opS rfl; (· (simp -implicitDefEqProofs [hpz, hpz']; exact ⟨rfl, rfl⟩))) | (apply Run.condS; (· (simp -implicitDefEqProofs [hpz, hpz']; exact rfl)))))
  refine Run.loopC [] (fun (k : Nat) => ([(11, .str a), (13, .str c), (14, .int .i64 lv), (15, .vs (X.map encT) 4), (16, .vs (Y.map encT) 4), (17, .vs (Z.map encT) 4), (18, .int .i64 p), (19, .bool (decide (z ∈ X.take k))), (20, .int .i64 k)], [])) (fun k => k ≤ X.length) (fun k => X.length - k) 0 (by simp) (by rfl) (by decide) (by simp) (by simp) ?_
  intro k hk ih
  by_cases hkl : k < X.length
  · obtain ⟨u, hu, hui, -, -⟩ := getL hkl
    have hkl' : (k : Int) < X.length := by omega
    have hwk := wrap_small (n := (k : Int) + 1) (by omega) (by omega)
    have hnx : decide (z ∈ X.take (k + 1)) = (decide (z ∈ X.take k) || decide (u = z)) := by rw [take_snoc hu]; simp [eq_comm]
    have ihq := ih (k + 1) (by omega) (by omega)
    simp only [hnx] at ihq
    clear ih
    generalize decide (z ∈ X.take k) = bb at *
    (repeat (first | refine Run.adm rfl ?_ | refine Run.seq ?_ | (apply Run.opS rfl; (· (simp -implicitDefEqProofs [hkl, hkl']; exact ⟨rfl, rfl⟩))) | (apply Run.condS; (· (simp -implicitDefEqProofs [hkl, hkl']; exact rfl)))))
    refine Run.drawn prog_mixed ?_
    show RunD _ c7d3 [0, 1, 2, 3, 4, 5, 6, 7, 8, 9, 10, 11, 12] [] _ _ _
    cases bb with
    | true =>
      refine RunD.flow [0, 1, 2, 3, 4, 5, 6, 7, 8, 9, 10, 11] (by kernel_rfl) (by decide +kernel) (by decide +kernel) (by decide) trivial ?_; (repeat (first | refine execQ_E rfl ?_ | (apply execQ_S rfl; (· (simp -implicitDefEqProofs; exact ⟨rfl, rfl⟩))))); intro hpo
      refine RunD.alt1 12 (by kernel_rfl) (by kernel_rfl) hpo ?_
      (apply AStep.S rfl; (· (simp -implicitDefEqProofs; exact ⟨rfl, rfl⟩)))
      refine RunD.fin (by kernel_rfl) (by trivial) ?_
      (repeat (first | refine Run.adm rfl ?_ | refine Run.seq ?_ | (apply Run.opS rfl; (· (simp -implicitDefEqProofs; exact ⟨rfl, rfl⟩))) | (apply Run.condS; (· (simp -implicitDefEqProofs; exact rfl)))))
      refine Run.mv [] _ _ (by rfl) (by decide) ?_ ?_ ihq
      · simp [hwk]
      · simp
    | false =>
      refine RunD.flow [0, 1, 2, 3, 4, 5, 6, 7, 8, 9, 10, 11] (by kernel_rfl) (by decide +kernel) (by decide +kernel) (by decide) trivial ?_; (repeat (first | refine execQ_E rfl ?_ | (apply execQ_S rfl; (· (simp -implicitDefEqProofs [hkl, hkl', hu, hui, hpz, hpz', hz, hzi, eqT]; exact ⟨rfl, rfl⟩))))); intro hpo
      refine RunD.alt1 12 (by kernel_rfl) (by kernel_rfl) hpo ?_
      (apply AStep.S rfl; (· (simp -implicitDefEqProofs; exact ⟨rfl, rfl⟩)))
      refine RunD.fin (by kernel_rfl) (by trivial) ?_
      (repeat (first | refine Run.adm rfl ?_ | refine Run.seq ?_ | (apply Run.opS rfl; (· (simp -implicitDefEqProofs; exact ⟨rfl, rfl⟩))) | (apply Run.condS; (· (simp -implicitDefEqProofs; exact rfl)))))
      refine Run.mv [] _ _ (by rfl) (by decide) ?_ ?_ ihq
      · simp [hwk]
      · simp
  · have hkl' : ¬ (k : Int) < X.length := by omega
    have : k = X.length := by omega
    subst this
    clear ih
    rw [List.take_length]
    (repeat (first | refine Run.adm rfl ?_ | refine Run.seq ?_ | (apply Run.opS rfl; (· (simp -implicitDefEqProofs; exact ⟨rfl, rfl⟩))) | (apply Run.condS; (· (simp -implicitDefEqProofs; exact rfl)))))
    refine Run.mv [] _ _ (by rfl) (by decide) ?_ ?_ hlast
    · simp
    · simp

end Go.Proofs.Ytpipgcmiaccdkaa
