/-
  Layer 12, part Ze: the law ManifestMoves.
-/
import Derived.Test.YtpipgcmiaccdkaaManZd
namespace Go.Proofs.Ytpipgcmiaccdkaa
open Sx Go
set_option maxRecDepth 100000
set_option linter.unusedSimpArgs false
set_option linter.unusedVariables false
set_option linter.unnecessarySimpa false
attribute [local simp] stepV condR boundsC appendG appendO copyV srcC guardB isCall opStep Opd.ev put readAt aBin aUn args0 V.celled V.ones V.one V.cells putAt bounds bound1 elemsOf srcOf appendV fillAt fillEl V.pures V.pure unwind evs ARes.ev mkRes V.ren V.renL O.ren eqCells eq1 aEq aMM hasTy hasTyN okTy mmGo Known HLe OLe VsLe.refl VLe.refl VLe.cap Stay VsLe V.frz V.frzL O.frz fr clearV rn KnownR Objs OLeO ObjsE nm back setAll ren_ite take_map_len List.take_of_length_le
attribute [local simp ↓] upd_app tl_cons tl_nil
attribute [local simp] encT_ren encT_ones encT_len encT_take encN_ren encN_ones encN_len encN_take
attribute [local simp] encE_ren encE_len encE_take encZ_ren encZ_len encZ_take
attribute [local simp] encS_ren encS_ones encS_len encS_take

theorem eqT (u x : Tb) : eqCells [1, 1, 2, 2] (encT u) (encT x) = some (decide (u = x)) := by
  obtain ⟨u1, u2, u3, u4⟩ := u
  obtain ⟨x1, x2, x3, x4⟩ := x
  by_cases h1 : u1 = x1 <;> by_cases h2 : u2 = x2 <;> by_cases h3 : u3 = x3 <;> by_cases h4 : u4 = x4 <;> simp [encT, eqCells, eq1, h1, h2, h3, h4]

theorem moves_law (l : List Ed) (which level : Int) : Tri Try.prog 6 [.vs (l.map encE) 4, .int .i64 which, .int .i64 level] [] (fun v H => v = .bool true ∧ H = []) := by
  refine Tri.of_run' Try.func6 rfl c6_ok (by simp [Try.ntmps6]) ?_
  have hend : ∀ {k t h}, AtEnd k → t 6 = .bool true → Run ⟨Try.prog, 6, Try.f6.ntmps, [], fun v H => v = .bool true ∧ H = []⟩ ⟨k, t, h⟩ := by
    intro k t h hk h6
    refine Run.mv [] [(6, .bool true)] [] (by rfl) (by decide) (by simp [h6]) (by simp) ?_
    refine Run.ret0 rfl Try.func6 r6_ok hk (by simp [r6]; rfl) ?_ (by simp)
    simp
  by_cases a1 : 10 < l.length
  · have a1' : (10 : Int) < l.length := by omega
    (repeat (first | refine Run.adm rfl ?_ | refine Run.seq ?_ | (apply Run.opS rfl; (· (simp -implicitDefEqProofs [a1, a1']; exact ⟨rfl, rfl⟩))) | (apply Run.condS; (· (simp -implicitDefEqProofs [a1, a1']; exact rfl)))))
    refine Run.opC rfl rfl rfl (awake_at _) ?_
    rintro v h' ⟨rfl, rfl⟩
    (repeat (first | refine Run.adm rfl ?_ | refine Run.seq ?_ | (apply Run.opS rfl; (· (simp -implicitDefEqProofs; exact ⟨rfl, rfl⟩))) | (apply Run.condS; (· (simp -implicitDefEqProofs; exact rfl)))))
    exact hend trivial (by simp)
  have a1' : ¬ (10 : Int) < l.length := by omega
  (repeat (first | refine Run.adm rfl ?_ | refine Run.seq ?_ | (apply Run.opS rfl; (· (simp -implicitDefEqProofs [a1, a1']; exact ⟨rfl, rfl⟩))) | (apply Run.condS; (· (simp -implicitDefEqProofs [a1, a1']; exact rfl)))))
  refine Run.loopC [0] (fun (a : Nat × St) => ([(0, .vs (l.map encE) 4), (1, .int .i64 which), (2, .int .i64 level), (7, .ptr 0 0), (8, .int .i64 a.1)], [.row (encZ a.2)]))
    (fun a => a.1 ≤ l.length ∧ GoodL a.2 ∧ a.2.tabs.length ≤ a.1 * 128) (fun a => l.length - a.1) (0, z0) ⟨Nat.zero_le _, goodL_z0, by simp [z0]⟩ (by rfl) (by decide) (by simp) (by simp [encZ, z0, VLe.nils]) ?_
  rintro ⟨i, s⟩ ⟨hi', hg, hsl⟩ ihO
  simp only at hi' hg hsl ihO ⊢
  by_cases hlt : i < l.length
  · obtain ⟨e, he, hei, -, -⟩ := getL hlt
    have hlt' : (i : Int) < l.length := by omega
    have hw := wrap_small (n := (i : Int) + 1) (by omega) (by omega)
    have hli := fun H => light_at e H
    have hap := fun H => apply_at s e hg.1.1 (by omega) H
    have hln := applyR_len s e
    have hgs := fun h => applyR_goodL (e := e) hg h
    generalize applyR s e = q at *
    obtain ⟨s2, n⟩ := q
    simp only at hap hgs hln
    (repeat (first | refine Run.adm rfl ?_ | refine Run.seq ?_ | (apply Run.opS rfl; (· (simp -implicitDefEqProofs [hlt, hlt', he, hei]; exact ⟨rfl, rfl⟩))) | (apply Run.condS; (· (simp -implicitDefEqProofs [hlt, hlt', he, hei]; exact rfl)))))
    refine Run.opC rfl rfl rfl (hli _) ?_
    rintro v h' ⟨rfl, rfl⟩
    cases hle : lightM e with
    | false =>
      (repeat (first | refine Run.adm rfl ?_ | refine Run.seq ?_ | (apply Run.opS rfl; (· (simp -implicitDefEqProofs [hle]; exact ⟨rfl, rfl⟩))) | (apply Run.condS; (· (simp -implicitDefEqProofs [hle]; exact rfl)))))
      refine Run.opC rfl rfl rfl (awake_at _) ?_
      rintro v h' ⟨rfl, rfl⟩
      (repeat (first | refine Run.adm rfl ?_ | refine Run.seq ?_ | (apply Run.opS rfl; (· (simp -implicitDefEqProofs; exact ⟨rfl, rfl⟩))) | (apply Run.condS; (· (simp -implicitDefEqProofs; exact rfl)))))
      exact hend trivial (by simp)
    | true =>
    (repeat (first | refine Run.adm rfl ?_ | refine Run.seq ?_ | (apply Run.opS rfl; (· (simp -implicitDefEqProofs [hle]; exact ⟨rfl, rfl⟩))) | (apply Run.condS; (· (simp -implicitDefEqProofs [hle]; exact rfl)))))
    refine Run.drawn prog_mixed ?_
    show RunD _ c6d0 [0, 1, 2, 3, 4, 5, 6, 7, 8, 9, 10, 11] [] _ _ _
    refine RunD.flow [0, 1, 2, 3, 4, 5, 6, 7, 8] (by kernel_rfl) (by decide +kernel) (by decide +kernel) (by decide) trivial ?_
    (repeat (first | refine execQ_E rfl ?_ | (apply execQ_S rfl; (· (simp -implicitDefEqProofs [hlt, hlt', he, hei]; exact ⟨rfl, rfl⟩)))))
    refine execQ_C rfl rfl rfl (hap _) ?_
    (repeat (first | refine execQ_E rfl ?_ | (apply execQ_S rfl; (· (simp -implicitDefEqProofs; exact ⟨rfl, rfl⟩)))))
    intro hpo
    refine RunD.alt1 9 (by kernel_rfl) (by kernel_rfl) hpo ?_
    (apply AStep.S rfl; (· (simp -implicitDefEqProofs; exact ⟨rfl, rfl⟩)))
    refine RunD.alt1 10 (by kernel_rfl) (by kernel_rfl) (by
      show PendOk _ c6d0 _ _ [8, 7, 6, 5, 4, 3, 2, 1, 0]
      (repeat (first | exact PendOk.nil | (refine PendOk.S rfl rfl ?_ ?_; (· (simp -implicitDefEqProofs; done)))))
      refine PendOk.call rfl rfl rfl rfl (hap _) ?_
      (repeat (first | exact PendOk.nil | (refine PendOk.S rfl rfl ?_ ?_; (· (simp -implicitDefEqProofs [hlt, hlt', he, hei]; done)))))) ?_
    (apply AStep.S rfl; (· (simp -implicitDefEqProofs [encZ]; exact ⟨rfl, rfl⟩)))
    refine RunD.alt1 11 (by kernel_rfl) (by kernel_rfl) (by
      show PendOk _ c6d0 _ _ [8]
      (repeat (first | exact PendOk.nil | (refine PendOk.S rfl rfl ?_ ?_; (· (simp -implicitDefEqProofs; done)))))) ?_
    (apply AStep.S rfl; (· (simp -implicitDefEqProofs; exact ⟨rfl, rfl⟩)))
    refine RunD.fin (by kernel_rfl) (by trivial) ?_
    refine Run.mv [0, 1] [(0, .vs (l.map encE) 4), (1, .int .i64 which), (2, .int .i64 level), (7, .ptr 0 0), (8, .int .i64 i), (9, .ptr 1 0), (10, .int .i64 n)] [.row (encZ s), .row (encZ s2)] (by rfl) (by decide) (by simp -implicitDefEqProofs [encZ]) (by simp -implicitDefEqProofs [encZ]) ?_
    by_cases hn : n = 0
    · (repeat (first | refine Run.adm rfl ?_ | refine Run.seq ?_ | (apply Run.opS rfl; (· (simp -implicitDefEqProofs [hn, encZ]; exact ⟨rfl, rfl⟩))) | (apply Run.condS; (· (simp -implicitDefEqProofs [hn, encZ]; exact rfl)))))
      refine Run.mv [0] _ _ (by rfl) (by decide) ?_ ?_ (ihO (i + 1, s2) ⟨by simp only; omega, hgs hn, by simp only; omega⟩ (by simp only; omega))
      · simp [hw]
      · simp [encZ]
    · (repeat (first | refine Run.adm rfl ?_ | refine Run.seq ?_ | (apply Run.opS rfl; (· (simp -implicitDefEqProofs [hn]; exact ⟨rfl, rfl⟩))) | (apply Run.condS; (· (simp -implicitDefEqProofs [hn]; exact rfl)))))
      refine Run.mv [0] _ _ (by rfl) (by decide) ?_ ?_ (ihO (i + 1, s) ⟨by simp only; omega, hg, by simp only; omega⟩ (by simp only; omega))
      · simp [hw]
      · simp
  have hlt' : ¬ (i : Int) < l.length := by omega
  have hsl2 : s.tabs.length ≤ 1280 := by omega
  clear ihO hsl
  by_cases b1 : s.tabs.length = 0
  · have b1' : (s.tabs.length : Int) = 0 := by omega
    have b1'' : s.tabs = [] := List.length_eq_zero_iff.1 b1
    (repeat (first | refine Run.adm rfl ?_ | refine Run.seq ?_ | (apply Run.opS rfl; (· (simp -implicitDefEqProofs [hlt, hlt', encZ, b1, b1', b1'']; exact ⟨rfl, rfl⟩))) | (apply Run.condS; (· (simp -implicitDefEqProofs [hlt, hlt', encZ, b1, b1', b1'']; exact rfl)))))
    refine Run.opC rfl rfl rfl (awake_at _) ?_
    rintro v h' ⟨rfl, rfl⟩
    (repeat (first | refine Run.adm rfl ?_ | refine Run.seq ?_ | (apply Run.opS rfl; (· (simp -implicitDefEqProofs; exact ⟨rfl, rfl⟩))) | (apply Run.condS; (· (simp -implicitDefEqProofs; exact rfl)))))
    exact hend trivial (by simp)
  have b1' : ¬ (s.tabs.length : Int) = 0 := by omega
  have b1'' : ¬ s.tabs = [] := fun h => b1 (by rw [h]; rfl)
  by_cases b2 : s.next < 1
  · (repeat (first | refine Run.adm rfl ?_ | refine Run.seq ?_ | (apply Run.opS rfl; (· (simp -implicitDefEqProofs [hlt, hlt', encZ, b1, b1', b1'', b2]; exact ⟨rfl, rfl⟩))) | (apply Run.condS; (· (simp -implicitDefEqProofs [hlt, hlt', encZ, b1, b1', b1'', b2]; exact rfl)))))
    refine Run.opC rfl rfl rfl (awake_at _) ?_
    rintro v h' ⟨rfl, rfl⟩
    (repeat (first | refine Run.adm rfl ?_ | refine Run.seq ?_ | (apply Run.opS rfl; (· (simp -implicitDefEqProofs; exact ⟨rfl, rfl⟩))) | (apply Run.condS; (· (simp -implicitDefEqProofs; exact rfl)))))
    exact hend trivial (by simp)
  by_cases b3 : 536870912 < s.next
  · (repeat (first | refine Run.adm rfl ?_ | refine Run.seq ?_ | (apply Run.opS rfl; (· (simp -implicitDefEqProofs [hlt, hlt', encZ, b1, b1', b1'', b2, b3]; exact ⟨rfl, rfl⟩))) | (apply Run.condS; (· (simp -implicitDefEqProofs [hlt, hlt', encZ, b1, b1', b1'', b2, b3]; exact rfl)))))
    refine Run.opC rfl rfl rfl (awake_at _) ?_
    rintro v h' ⟨rfl, rfl⟩
    (repeat (first | refine Run.adm rfl ?_ | refine Run.seq ?_ | (apply Run.opS rfl; (· (simp -implicitDefEqProofs; exact ⟨rfl, rfl⟩))) | (apply Run.condS; (· (simp -implicitDefEqProofs; exact rfl)))))
    exact hend trivial (by simp)
  obtain ⟨kk, hkk, hkl⟩ := and255 which
  obtain ⟨ll, hll, hlll⟩ := and255 level
  have hm1 : Int.tmod (kk : Int) (s.tabs.length : Int) = ((kk % s.tabs.length : Nat) : Int) := by rw [Int.tmod_eq_emod_of_nonneg (by omega)]; rfl
  have hm2 : Int.tmod (ll : Int) 3 = ((ll % 3 : Nat) : Int) := by rw [Int.tmod_eq_emod_of_nonneg (by omega)]; rfl
  obtain ⟨k, hk⟩ : ∃ k, k = kk % s.tabs.length := ⟨_, rfl⟩
  obtain ⟨lv, hlv⟩ : ∃ lv, lv = ((ll % 3 : Nat) : Int) := ⟨_, rfl⟩
  rw [← hk] at hm1
  rw [← hlv] at hm2
  have hklt : k < s.tabs.length := by rw [hk]; exact Nat.mod_lt _ (by omega)
  have hklt' : (k : Int) < s.tabs.length := by omega
  obtain ⟨t, ht, hti, -, -⟩ := getL hklt
  have htm := List.mem_of_getElem? ht
  have hwn : IntKind.i64.wrap (s.next + 1) = s.next + 1 := wrap_small (by omega) (by omega)
  have hmay := mv_may hg (by omega) (by omega) htm (lv := lv) (by omega)
  have hap := fun H => apply_at s (mvE s t lv) hg.1.1 (by omega) H
  (repeat (first | refine Run.adm rfl ?_ | refine Run.seq ?_ | (apply Run.opS rfl; (· (simp -implicitDefEqProofs [hlt, hlt', encZ, b1, b1', b1'', b2, b3, hkk, hm1, hklt, hklt', ht, hti, encT, hll, hm2, hwn]; exact ⟨rfl, rfl⟩))) | (apply Run.condS; (· (simp -implicitDefEqProofs [hlt, hlt', encZ, b1, b1', b1'', b2, b3, hkk, hm1, hklt, hklt', ht, hti, encT, hll, hm2, hwn]; exact rfl)))))
  refine Run.freeze 3 (es := [[.int .i64 s.next, .int .i64 lv, .str t.lo, .str t.hi]]) (sz := 4) (by simp) ?_
  refine Run.freeze 4 (es := [[.int .i64 t.id]]) (sz := 1) (by simp) ?_
  refine Run.mv [0, 1, 2] [(7, .ptr 0 0), (11, .int .i64 k), (12, .ptr 1 0), (13, .ptr 2 0), (86, .agg (encZ s)), (97, .agg (encE (mvE s t lv)))] [.row (encZ s), .row (encT t), .row (encT (mvN s t lv))] (by rfl) (by decide) (by simp -implicitDefEqProofs [encZ, encT, encE, encN, mvE, mvN]) (by simp -implicitDefEqProofs [encZ, encT, encE, encN, mvE, mvN]) ?_
  (repeat (first | refine Run.adm rfl ?_ | refine Run.seq ?_ | (apply Run.opS rfl; (· (simp -implicitDefEqProofs; exact ⟨rfl, rfl⟩))) | (apply Run.condS; (· (simp -implicitDefEqProofs; exact rfl)))))
  refine Run.opC rfl rfl rfl (hap _) ?_
  rintro v h' ⟨rfl, rfl⟩
  by_cases hok : okA s (mvE s t lv)
  rotate_left
  · have hq : applyR s (mvE s t lv) = (z0, 120) := by rw [applyR, if_pos hmay, if_neg hok]
    obtain ⟨g1, g2⟩ := mv_bad hg htm (by omega) hok
    have hov := fun H => overZ_at s lv t.lo t.hi (by omega) H
    have g2' : (0 : Int) < (ovl s.tabs lv t.lo t.hi).length := by omega
    generalize ovl s.tabs lv t.lo t.hi = o at *
    rw [hq]
    (repeat (first | refine Run.adm rfl ?_ | refine Run.seq ?_ | (apply Run.opS rfl; (· (simp -implicitDefEqProofs [encZ, z0, mvN, encT, g1]; exact ⟨rfl, rfl⟩))) | (apply Run.condS; (· (simp -implicitDefEqProofs [encZ, z0, mvN, encT, g1]; exact rfl)))))
    refine Run.opC rfl (by simp) rfl (hov _) ?_
    rintro v h' ⟨rfl, rfl⟩
    (repeat (first | refine Run.adm rfl ?_ | refine Run.seq ?_ | (apply Run.opS rfl; (· (simp -implicitDefEqProofs [g2, g2']; exact ⟨rfl, rfl⟩))) | (apply Run.condS; (· (simp -implicitDefEqProofs [g2, g2']; exact rfl)))))
    refine Run.opC rfl (by simp) rfl (awake_at _) ?_
    rintro v h' ⟨rfl, rfl⟩
    (repeat (first | refine Run.adm rfl ?_ | refine Run.seq ?_ | (apply Run.opS rfl; (· (simp -implicitDefEqProofs; exact ⟨rfl, rfl⟩))) | (apply Run.condS; (· (simp -implicitDefEqProofs; exact rfl)))))
    exact hend trivial (by simp)
  have hq : applyR s (mvE s t lv) = (⟨built s (mvE s t lv), s.log, s.next + 1⟩, 0) := by rw [applyR, if_pos hmay, if_pos hok]; rfl
  rw [hq]
  have hxl := mv_len hg htm lv
  have hxi := fun x => mv_in ht lv (x := x)
  generalize built s (mvE s t lv) = X at *
  obtain ⟨N, hN⟩ : ∃ N, N = mvN s t lv := ⟨_, rfl⟩
  rw [← hN] at hxi ⊢
  have hxl' : (X.length : Int) = s.tabs.length := by omega
  clear hq hok hmay hap hN
  (repeat (first | refine Run.adm rfl ?_ | refine Run.seq ?_ | (apply Run.opS rfl; (· (simp -implicitDefEqProofs [encZ, hxl, hxl']; exact ⟨rfl, rfl⟩))) | (apply Run.condS; (· (simp -implicitDefEqProofs [encZ, hxl, hxl']; exact rfl)))))
  refine Run.loopC [0, 2, 3] (fun (a : Nat) => ([(7, .ptr 0 0), (11, .int .i64 k), (13, .ptr 1 0), (14, .ptr 2 0), (16, .int .i64 a)], [.row (encZ s), .row (encT N), .row (encZ ⟨X, s.log, s.next + 1⟩)])) (fun a => a ≤ X.length) (fun a => X.length - a) 0 (by simp) (by rfl) (by decide) (by simp) (by simp [encZ]) ?_
  intro a ha ihO
  by_cases hal : a < X.length
  rotate_left
  · have hal' : ¬ (a : Int) < X.length := by omega
    (repeat (first | refine Run.adm rfl ?_ | refine Run.seq ?_ | (apply Run.opS rfl; (· (simp -implicitDefEqProofs [encZ, hal, hal']; exact ⟨rfl, rfl⟩))) | (apply Run.condS; (· (simp -implicitDefEqProofs [encZ, hal, hal']; exact rfl)))))
    refine Run.opC rfl rfl rfl (awake_at _) ?_
    rintro v h' ⟨rfl, rfl⟩
    (repeat (first | refine Run.adm rfl ?_ | refine Run.seq ?_ | (apply Run.opS rfl; (· (simp -implicitDefEqProofs; exact ⟨rfl, rfl⟩))) | (apply Run.condS; (· (simp -implicitDefEqProofs; exact rfl)))))
    exact hend trivial (by simp)
  obtain ⟨x, hx, hxx, -, -⟩ := getL hal
  have hal' : (a : Int) < X.length := by omega
  have hwa := wrap_small (n := (a : Int) + 1) (by omega) (by omega)
  have hxin := hxi x (List.mem_of_getElem? hx)
  (repeat (first | refine Run.adm rfl ?_ | refine Run.seq ?_ | (apply Run.opS rfl; (· (simp -implicitDefEqProofs [encZ, hal, hal']; exact ⟨rfl, rfl⟩))) | (apply Run.condS; (· (simp -implicitDefEqProofs [encZ, hal, hal']; exact rfl)))))
  refine Run.quietM prog_mixed (by kernel_rfl) [0, 1, 2] [(7, .ptr 0 0), (11, .int .i64 k), (13, .ptr 1 0), (14, .ptr 2 0), (16, .int .i64 a), (17, .bool (decide (x = N)))] [.row (encZ s), .row (encT N), .row (encZ ⟨X, s.log, s.next + 1⟩)] (by rfl) (by decide) ?_ ?_
  · (repeat (first | refine execQ_E rfl ?_ | (apply execQ_S rfl; (· (simp -implicitDefEqProofs [encZ, hal, hal', hx, hxx, eqT]; exact ⟨rfl, rfl⟩)))))
    simp [encZ]
  (repeat (first | refine Run.adm rfl ?_ | refine Run.seq ?_ | (apply Run.opS rfl; (· (simp -implicitDefEqProofs [encZ]; exact ⟨rfl, rfl⟩))) | (apply Run.condS; (· (simp -implicitDefEqProofs [encZ]; exact rfl)))))
  refine Run.loopC [0, 1, 2] (fun (b : Nat × Bool) => ([(7, .ptr 0 0), (11, .int .i64 k), (13, .ptr 1 0), (14, .ptr 2 0), (16, .int .i64 a), (17, .bool b.2), (18, .int .i64 b.1)], [.row (encZ s), .row (encT N), .row (encZ ⟨X, s.log, s.next + 1⟩)])) (fun b => b.1 ≤ s.tabs.length ∧ ((x = N ∨ ∃ j, j < b.1 ∧ s.tabs[j]? = some x ∧ j ≠ k) → b.2 = true)) (fun b => s.tabs.length - b.1) (0, decide (x = N)) ⟨Nat.zero_le _, fun h => by simpa using h⟩ (by rfl) (by decide) (by simp) (by simp [encZ]) ?_
  rintro ⟨j, b⟩ ⟨hj, hb⟩ ih
  simp only at hj hb ih ⊢
  by_cases hjl : j < s.tabs.length
  · obtain ⟨u, hu, hui, -, -⟩ := getL hjl
    have hjl' : (j : Int) < s.tabs.length := by omega
    have hwj := wrap_small (n := (j : Int) + 1) (by omega) (by omega)
    have hnx : ∀ b', (b = true → b' = true) → (u = x → j ≠ k → b' = true) → Run ⟨Try.prog, 6, Try.f6.ntmps, [], fun v H => v = .bool true ∧ H = []⟩ _ := fun b' h1 h2 => ih (j + 1, b') ⟨by simp only; omega, fun h => by
      rcases h with h | ⟨j', h3, h4, h5⟩
      · exact h1 (hb (.inl h))
      · by_cases e : j' < j
        · exact h1 (hb (.inr ⟨j', e, h4, h5⟩))
        · obtain rfl : j' = j := by simp only at h3; omega
          rw [hu] at h4; cases h4
          exact h2 rfl h5⟩ (by simp only; omega)
    clear ih ihO
    cases b with
    | true =>
      have hq := hnx true (fun _ => rfl) (fun _ _ => rfl)
      (repeat (first | refine Run.adm rfl ?_ | refine Run.seq ?_ | (apply Run.opS rfl; (· (simp -implicitDefEqProofs [encZ, hjl, hjl']; exact ⟨rfl, rfl⟩))) | (apply Run.condS; (· (simp -implicitDefEqProofs [encZ, hjl, hjl']; exact rfl)))))
      refine Run.drawn prog_mixed ?_
      show RunD _ c6d2 [0, 1, 2, 3, 4, 5, 6, 7, 8, 9, 10, 11, 12, 13, 14, 15, 16, 17, 18, 19] [] _ _ _
      refine RunD.flow [0, 1, 2, 3, 4, 5, 6, 7, 8, 9, 10, 11, 12, 13, 14, 15, 16, 17, 18] (by kernel_rfl) (by decide +kernel) (by decide +kernel) (by decide) trivial ?_; (repeat (first | refine execQ_E rfl ?_ | (apply execQ_S rfl; (· (simp -implicitDefEqProofs [encZ]; exact ⟨rfl, rfl⟩))))); intro hpo
      refine RunD.alt1 19 (by kernel_rfl) (by kernel_rfl) hpo ?_
      (apply AStep.S rfl; (· (simp -implicitDefEqProofs; exact ⟨rfl, rfl⟩)))
      refine RunD.fin (by kernel_rfl) (by trivial) ?_
      (repeat (first | refine Run.adm rfl ?_ | refine Run.seq ?_ | (apply Run.opS rfl; (· (simp -implicitDefEqProofs; exact ⟨rfl, rfl⟩))) | (apply Run.condS; (· (simp -implicitDefEqProofs; exact rfl)))))
      refine Run.mv [0, 1, 2] _ _ (by rfl) (by decide) ?_ ?_ hq
      · simp [hwj]
      · simp [encZ]
    | false =>
      by_cases hux : u = x
      · by_cases hjk : j = k
        · have hq := hnx false (fun h => h) (fun _ h => absurd hjk h)
          subst hjk
          (repeat (first | refine Run.adm rfl ?_ | refine Run.seq ?_ | (apply Run.opS rfl; (· (simp -implicitDefEqProofs [encZ, hjl, hjl']; exact ⟨rfl, rfl⟩))) | (apply Run.condS; (· (simp -implicitDefEqProofs [encZ, hjl, hjl']; exact rfl)))))
          refine Run.drawn prog_mixed ?_
          show RunD _ c6d2 [0, 1, 2, 3, 4, 5, 6, 7, 8, 9, 10, 11, 12, 13, 14, 15, 16, 17, 18, 19] [] _ _ _
          refine RunD.flow [0, 1, 2, 3, 4, 5, 6, 7, 8, 9, 10, 11, 12, 13, 14, 15, 16, 17, 18] (by kernel_rfl) (by decide +kernel) (by decide +kernel) (by decide) trivial ?_; (repeat (first | refine execQ_E rfl ?_ | (apply execQ_S rfl; (· (simp -implicitDefEqProofs [encZ, hjl, hjl', hu, hui, hal, hal', hx, hxx, eqT, hux]; exact ⟨rfl, rfl⟩))))); intro hpo
          refine RunD.alt1 19 (by kernel_rfl) (by kernel_rfl) hpo ?_
          (apply AStep.S rfl; (· (simp -implicitDefEqProofs; exact ⟨rfl, rfl⟩)))
          refine RunD.fin (by kernel_rfl) (by trivial) ?_
          (repeat (first | refine Run.adm rfl ?_ | refine Run.seq ?_ | (apply Run.opS rfl; (· (simp -implicitDefEqProofs; exact ⟨rfl, rfl⟩))) | (apply Run.condS; (· (simp -implicitDefEqProofs; exact rfl)))))
          refine Run.mv [0, 1, 2] _ _ (by rfl) (by decide) ?_ ?_ hq
          · simp [hwj]
          · simp [encZ]
        · have hjk' : ¬ (j : Int) = k := by omega
          have hq := hnx true (fun _ => rfl) (fun _ _ => rfl)
          (repeat (first | refine Run.adm rfl ?_ | refine Run.seq ?_ | (apply Run.opS rfl; (· (simp -implicitDefEqProofs [encZ, hjl, hjl']; exact ⟨rfl, rfl⟩))) | (apply Run.condS; (· (simp -implicitDefEqProofs [encZ, hjl, hjl']; exact rfl)))))
          refine Run.drawn prog_mixed ?_
          show RunD _ c6d2 [0, 1, 2, 3, 4, 5, 6, 7, 8, 9, 10, 11, 12, 13, 14, 15, 16, 17, 18, 19] [] _ _ _
          refine RunD.flow [0, 1, 2, 3, 4, 5, 6, 7, 8, 9, 10, 11, 12, 13, 14, 15, 16, 17, 18] (by kernel_rfl) (by decide +kernel) (by decide +kernel) (by decide) trivial ?_; (repeat (first | refine execQ_E rfl ?_ | (apply execQ_S rfl; (· (simp -implicitDefEqProofs [encZ, hjl, hjl', hu, hui, hal, hal', hx, hxx, eqT, hux, hjk, hjk']; exact ⟨rfl, rfl⟩))))); intro hpo
          refine RunD.alt1 19 (by kernel_rfl) (by kernel_rfl) hpo ?_
          (apply AStep.S rfl; (· (simp -implicitDefEqProofs; exact ⟨rfl, rfl⟩)))
          refine RunD.fin (by kernel_rfl) (by trivial) ?_
          (repeat (first | refine Run.adm rfl ?_ | refine Run.seq ?_ | (apply Run.opS rfl; (· (simp -implicitDefEqProofs; exact ⟨rfl, rfl⟩))) | (apply Run.condS; (· (simp -implicitDefEqProofs; exact rfl)))))
          refine Run.mv [0, 1, 2] _ _ (by rfl) (by decide) ?_ ?_ hq
          · simp [hwj]
          · simp [encZ]
      · have hq := hnx false (fun h => h) (fun h _ => absurd h hux)
        (repeat (first | refine Run.adm rfl ?_ | refine Run.seq ?_ | (apply Run.opS rfl; (· (simp -implicitDefEqProofs [encZ, hjl, hjl']; exact ⟨rfl, rfl⟩))) | (apply Run.condS; (· (simp -implicitDefEqProofs [encZ, hjl, hjl']; exact rfl)))))
        refine Run.drawn prog_mixed ?_
        show RunD _ c6d2 [0, 1, 2, 3, 4, 5, 6, 7, 8, 9, 10, 11, 12, 13, 14, 15, 16, 17, 18, 19] [] _ _ _
        refine RunD.flow [0, 1, 2, 3, 4, 5, 6, 7, 8, 9, 10, 11, 12, 13, 14, 15, 16, 17, 18] (by kernel_rfl) (by decide +kernel) (by decide +kernel) (by decide) trivial ?_; (repeat (first | refine execQ_E rfl ?_ | (apply execQ_S rfl; (· (simp -implicitDefEqProofs [encZ, hjl, hjl', hu, hui, hal, hal', hx, hxx, eqT, hux]; exact ⟨rfl, rfl⟩))))); intro hpo
        refine RunD.alt1 19 (by kernel_rfl) (by kernel_rfl) hpo ?_
        (apply AStep.S rfl; (· (simp -implicitDefEqProofs; exact ⟨rfl, rfl⟩)))
        refine RunD.fin (by kernel_rfl) (by trivial) ?_
        (repeat (first | refine Run.adm rfl ?_ | refine Run.seq ?_ | (apply Run.opS rfl; (· (simp -implicitDefEqProofs; exact ⟨rfl, rfl⟩))) | (apply Run.condS; (· (simp -implicitDefEqProofs; exact rfl)))))
        refine Run.mv [0, 1, 2] _ _ (by rfl) (by decide) ?_ ?_ hq
        · simp [hwj]
        · simp [encZ]
  · have hjl' : ¬ (j : Int) < s.tabs.length := by omega
    have hbt : b = true := hb (by
      rcases hxin with h | ⟨j', h1, h2, h3⟩
      · exact .inl h
      · exact .inr ⟨j', by omega, h2, h3⟩)
    subst hbt
    clear ih
    (repeat (first | refine Run.adm rfl ?_ | refine Run.seq ?_ | (apply Run.opS rfl; (· (simp -implicitDefEqProofs [encZ, hjl, hjl']; exact ⟨rfl, rfl⟩))) | (apply Run.condS; (· (simp -implicitDefEqProofs [encZ, hjl, hjl']; exact rfl)))))
    refine Run.mv [0, 1, 2] _ _ (by rfl) (by decide) ?_ ?_ (ihO (a + 1) (by omega) (by omega))
    · simp [hwa]
    · simp [encZ]

end Go.Proofs.Ytpipgcmiaccdkaa
