/-
  Layer 12, part S: sorting: a list as a whole.
-/
import Derived.Test.YtpipgcmiaccdkaaManR
namespace Go.Proofs.Ytpipgcmiaccdkaa
open Sx Go
set_option maxRecDepth 100000
set_option linter.unusedSimpArgs false
set_option linter.unusedVariables false
set_option linter.unnecessarySimpa false
attribute [local simp] stepV condR boundsC appendG appendO copyV srcC guardB isCall opStep Opd.ev put readAt aBin aUn args0 V.celled V.ones V.one V.cells putAt bounds bound1 elemsOf srcOf appendV fillAt fillEl V.pures V.pure unwind evs ARes.ev mkRes V.ren V.renL O.ren eqCells eq1 aEq aMM hasTy hasTyN okTy mmGo Known HLe OLe VsLe.refl VLe.refl VLe.cap Stay VsLe V.frz V.frzL O.frz fr clearV rn KnownR Objs OLeO ObjsE nm back setAll ren_ite take_map_len List.take_of_length_le
attribute [local simp ↓] upd_app tl_cons tl_nil
attribute [local simp] encT_ren encT_ones encT_len encT_take encN_ren encN_ones encN_len encN_take
attribute [local simp] encE_ren encE_len encE_take encZ_ren encZ_len encZ_take

/-- sorted in parts of a length -/
inductive Blks (k : Nat) : List Tb → Prop
  | last (X : List Tb) : X.length ≤ k → Srt X → Blks k X
  | cons (X R : List Tb) : X.length = k → Srt X → Blks k R → Blks k (X ++ R)
theorem Blks.one {k : Nat} {R : List Tb} (h : Blks k R) (h0 : 0 < k) (hl : R.length ≤ k) : Srt R := by
  cases h with
  | last _ _ h => exact h
  | cons X R h1 h2 h3 =>
    rw [List.length_append] at hl
    obtain rfl : R = [] := List.length_eq_zero_iff.1 (by omega)
    rwa [List.append_nil]
theorem Blks.two {k : Nat} {R : List Tb} (h : Blks k R) (hl : k ≤ R.length) : ∃ X R2, R = X ++ R2 ∧ X.length = k ∧ Srt X ∧ Blks k R2 := by
  cases h with
  | last _ h1 h2 => exact ⟨R, [], by simp, by omega, h2, .last _ (Nat.zero_le _) List.Pairwise.nil⟩
  | cons X R h1 h2 h3 => exact ⟨X, R, rfl, h1, h2, h3⟩

theorem stab_tri (W0 : List Tb) (hl : W0.length ≤ 1000000) :
    Tri Try.prog 66 [.sl 0 0 W0.length 4 none, .int .i64 W0.length, .fn 50 []] [.arr (W0.map encT) 4] (fun v H => v = .tup [] ∧ ∃ Z, Z.Perm W0 ∧ Srt Z ∧ H = [.arr (Z.map encT) 4]) := by
  obtain ⟨n, hn⟩ : ∃ n, n = W0.length := ⟨_, rfl⟩
  rw [← hn] at hl ⊢
  refine Tri.of_run' Try.func66 rfl c66_ok (by simp [Try.ntmps66]) ?_
  (repeat (first | refine Run.adm rfl ?_ | refine Run.seq ?_ | (apply Run.opS rfl; (· (simp -implicitDefEqProofs; exact ⟨rfl, rfl⟩))) | (apply Run.condS; (· (simp -implicitDefEqProofs; exact rfl)))))
  refine Run.loopC [0] (fun (q : List Tb × List Tb) => ([(0, .sl 0 0 n 4 none), (1, .int .i64 n), (2, .fn 50 []), (6, .int .i64 20), (7, .int .i64 (q.1.length : Nat)), (8, .int .i64 ((q.1.length + 20 : Nat) : Int))], [.arr ((q.1 ++ q.2).map encT) 4]))
    (fun q => (q.1 ++ q.2).Perm W0 ∧ ∀ R, Blks 20 R → Blks 20 (q.1 ++ R)) (fun q => q.2.length) ([], W0) ⟨by simp, fun R h => by simpa using h⟩ (by rfl) (by decide) (by simp) (by simp) ?_
  rintro ⟨P, R⟩ ⟨hp, hb⟩ ih
  simp only at hp hb ih ⊢
  have hlen := hp.length_eq
  rw [← hn, List.length_append] at hlen
  by_cases hlt : P.length + 20 ≤ n
  · have hlt' : ((P.length + 20 : Nat) : Int) ≤ n := by omega
    obtain ⟨X, R2, rfl, hX, hR2⟩ := split_at R 20 (by omega)
    have hq := ins_tri P X R2 (by simp only [List.length_append] at *; omega) (a := P.length) (b := P.length + 20) (L := n) rfl (by omega) (by simp only [List.length_append] at *; omega)
    rw [show P ++ X ++ R2 = P ++ (X ++ R2) by simp] at hq
    obtain ⟨V, hV⟩ : ∃ V, V = P ++ (X ++ R2) := ⟨_, rfl⟩
    rw [← hV] at hq hp ⊢
    obtain ⟨c, hc⟩ : ∃ c, c = P.length + 20 := ⟨_, rfl⟩
    have hwc : IntKind.i64.wrap ((c : Int) + 20) = ((c + 20 : Nat) : Int) := by rw [wrap_small (by omega) (by omega)]; omega
    rw [← hc] at hq hlt hlt' ⊢
    (repeat (first | refine Run.adm rfl ?_ | refine Run.seq ?_ | (apply Run.opS rfl; (· (simp -implicitDefEqProofs [hlt, hlt']; exact ⟨rfl, rfl⟩))) | (apply Run.condS; (· (simp -implicitDefEqProofs [hlt, hlt']; exact rfl)))))
    refine Run.opC rfl rfl rfl hq ?_
    rintro v h' ⟨rfl, Z, hzp, hzs, rfl⟩
    have hzl := hzp.length_eq
    obtain ⟨V2, hV2⟩ : ∃ V, V = P ++ Z ++ R2 := ⟨_, rfl⟩
    rw [← hV2]
    (repeat (first | refine Run.adm rfl ?_ | refine Run.seq ?_ | (apply Run.opS rfl; (· (simp -implicitDefEqProofs [hwc]; exact ⟨rfl, rfl⟩))) | (apply Run.condS; (· (simp -implicitDefEqProofs [hwc]; exact rfl)))))
    have hih := ih (P ++ Z, R2) ⟨by
        refine List.Perm.trans ?_ hp
        rw [hV, List.append_assoc]
        exact List.Perm.append_left P (List.Perm.append_right R2 hzp), fun R hR => by
        rw [List.append_assoc]
        exact hb _ (.cons _ _ (by omega) hzs hR)⟩ (by simp only [List.length_append]; omega)
    simp only at hih
    rw [← hV2] at hih
    have e1 : (P ++ Z).length = c := by rw [List.length_append]; omega
    rw [e1] at hih
    refine Run.mv [0] _ _ (by rfl) (by decide) ?_ ?_ hih
    · simp
    · simp
  · have hlt' : ¬ ((P.length + 20 : Nat) : Int) ≤ n := by omega
    clear ih
    have hq := ins_tri P R [] (by simp only [List.length_append, List.length_nil] at *; omega) (a := P.length) (b := n) (L := n) rfl (by omega) (by simp only [List.length_append, List.length_nil] at *; omega)
    simp only [List.append_nil] at hq
    obtain ⟨V, hV⟩ : ∃ V, V = P ++ R := ⟨_, rfl⟩
    rw [← hV] at hq hp ⊢
    obtain ⟨c, hc⟩ : ∃ c, c = P.length + 20 := ⟨_, rfl⟩
    rw [← hc] at hlt hlt' ⊢
    (repeat (first | refine Run.adm rfl ?_ | refine Run.seq ?_ | (apply Run.opS rfl; (· (simp -implicitDefEqProofs [hlt, hlt']; exact ⟨rfl, rfl⟩))) | (apply Run.condS; (· (simp -implicitDefEqProofs [hlt, hlt']; exact rfl)))))
    refine Run.opC rfl rfl rfl hq ?_
    rintro v h' ⟨rfl, Z, hzp, hzs, rfl⟩
    have hzl := hzp.length_eq
    obtain ⟨V2, hV2⟩ : ∃ V, V = P ++ Z := ⟨_, rfl⟩
    have hp2 : V2.Perm W0 := by
      refine List.Perm.trans ?_ hp
      rw [hV, hV2]
      exact List.Perm.append_left P hzp
    have hb2 : Blks 20 V2 := by rw [hV2]; exact hb _ (.last _ (by omega) hzs)
    rw [← hV2]
    clear hq hV hV2 hzs hzp hb hp hc hlt hlt'
    (repeat (first | refine Run.adm rfl ?_ | refine Run.seq ?_ | (apply Run.opS rfl; (· (simp -implicitDefEqProofs; exact ⟨rfl, rfl⟩))) | (apply Run.condS; (· (simp -implicitDefEqProofs; exact rfl)))))
    refine Run.loopC [0] (fun (q : Nat × List Tb) => ([(0, .sl 0 0 n 4 none), (1, .int .i64 n), (2, .fn 50 []), (6, .int .i64 q.1)], [.arr (q.2.map encT) 4]))
      (fun q => q.2.Perm W0 ∧ Blks q.1 q.2 ∧ 0 < q.1 ∧ q.1 ≤ 2 * n + 40) (fun q => n - q.1) (20, V2) ⟨hp2, hb2, by simp, by simp only; omega⟩ (by rfl) (by decide) (by simp) (by simp) ?_
    clear hp2 hb2 hzl
    rintro ⟨k, W⟩ ⟨hp, hb, hk, hk2⟩ ihO
    simp only at hp hb hk hk2 ihO ⊢
    by_cases hkn : k < n
    rotate_left
    · have hkn' : ¬ (k : Int) < n := by omega
      (repeat (first | refine Run.adm rfl ?_ | refine Run.seq ?_ | (apply Run.opS rfl; (· (simp -implicitDefEqProofs [hkn, hkn']; exact ⟨rfl, rfl⟩))) | (apply Run.condS; (· (simp -implicitDefEqProofs [hkn, hkn']; exact rfl)))))
      refine Run.retI Try.func66 r66_ok trivial (by simp [r66]; rfl) (by simp) ?_ (by simp) (by simp)
      exact ⟨rfl, W, hp, hb.one hk (by rw [hp.length_eq]; omega), rfl⟩
    have hkn' : (k : Int) < n := by omega
    have hw2 : IntKind.i64.wrap (2 * (k : Int)) = ((2 * k : Nat) : Int) := by rw [wrap_small (by omega) (by omega)]; omega
    obtain ⟨d, hd⟩ : ∃ d, d = 2 * k := ⟨_, rfl⟩
    rw [← hd] at hw2
    (repeat (first | refine Run.adm rfl ?_ | refine Run.seq ?_ | (apply Run.opS rfl; (· (simp -implicitDefEqProofs [hkn, hkn', hw2]; exact ⟨rfl, rfl⟩))) | (apply Run.condS; (· (simp -implicitDefEqProofs [hkn, hkn', hw2]; exact rfl)))))
    refine Run.loopC [0] (fun (q : List Tb × List Tb) => ([(0, .sl 0 0 n 4 none), (1, .int .i64 n), (2, .fn 50 []), (6, .int .i64 k), (7, .int .i64 (q.1.length : Nat)), (8, .int .i64 ((q.1.length + d : Nat) : Int))], [.arr ((q.1 ++ q.2).map encT) 4]))
      (fun q => (q.1 ++ q.2).Perm W0 ∧ Blks k q.2 ∧ ∀ R, Blks d R → Blks d (q.1 ++ R)) (fun q => q.2.length) ([], W) ⟨by simpa using hp, hb, fun R h => by simpa using h⟩ (by rfl) (by decide) (by simp) (by simp) ?_
    clear hp hb
    rintro ⟨P, R⟩ ⟨hp, hR, hb⟩ ih
    simp only at hp hR hb ih ⊢
    have hlen := hp.length_eq
    rw [← hn, List.length_append] at hlen
    have hwm : IntKind.i64.wrap ((P.length : Int) + k) = ((P.length + k : Nat) : Int) := by rw [wrap_small (by omega) (by omega)]; omega
    have hw3 : IntKind.i64.wrap ((k : Int) * 2) = (d : Int) := by rw [wrap_small (by omega) (by omega)]; omega
    by_cases hlt : P.length + d ≤ n
    · have hlt' : ((P.length + d : Nat) : Int) ≤ n := by omega
      obtain ⟨X, R1, rfl, hX, sX, hR1⟩ := hR.two (by omega)
      rw [List.length_append] at hlen
      obtain ⟨Y, R2, rfl, hY, sY, hR2⟩ := hR1.two (by omega)
      rw [List.length_append] at hlen
      have hq := sym_all (X.length + Y.length) P X Y R2 (Nat.le_refl _) (by omega) (by omega) sX sY (by simp only [List.length_append]; omega) (a := P.length) (m := P.length + k) (b := P.length + d) (L := n) rfl (by omega) (by omega) (by simp only [List.length_append]; omega)
      rw [show P ++ X ++ Y ++ R2 = P ++ (X ++ (Y ++ R2)) by simp] at hq
      obtain ⟨V, hV⟩ : ∃ V, V = P ++ (X ++ (Y ++ R2)) := ⟨_, rfl⟩
      rw [← hV] at hq hp ⊢
      obtain ⟨c, hc⟩ : ∃ c, c = P.length + d := ⟨_, rfl⟩
      obtain ⟨m, hm⟩ : ∃ m, m = P.length + k := ⟨_, rfl⟩
      have hwc : IntKind.i64.wrap ((c : Int) + d) = ((c + d : Nat) : Int) := by rw [wrap_small (by omega) (by omega)]; omega
      rw [← hc] at hq hlt hlt' ⊢
      rw [← hm] at hq hwm
      (repeat (first | refine Run.adm rfl ?_ | refine Run.seq ?_ | (apply Run.opS rfl; (· (simp -implicitDefEqProofs [hlt, hlt', hwm]; exact ⟨rfl, rfl⟩))) | (apply Run.condS; (· (simp -implicitDefEqProofs [hlt, hlt', hwm]; exact rfl)))))
      refine Run.opC rfl rfl rfl hq ?_
      rintro v h' ⟨rfl, Z, hzp, hzs, rfl⟩
      have hzl := hzp.length_eq
      rw [List.length_append] at hzl
      obtain ⟨V2, hV2⟩ : ∃ V, V = P ++ Z ++ R2 := ⟨_, rfl⟩
      rw [← hV2]
      (repeat (first | refine Run.adm rfl ?_ | refine Run.seq ?_ | (apply Run.opS rfl; (· (simp -implicitDefEqProofs [hw2, hwc]; exact ⟨rfl, rfl⟩))) | (apply Run.condS; (· (simp -implicitDefEqProofs [hw2, hwc]; exact rfl)))))
      have hih := ih (P ++ Z, R2) ⟨by
          refine List.Perm.trans ?_ hp
          rw [hV, List.append_assoc, ← List.append_assoc X]
          exact List.Perm.append_left P (List.Perm.append_right R2 hzp), hR2, fun R hR => by
          rw [List.append_assoc]
          exact hb _ (.cons _ _ (by omega) hzs hR)⟩ (by simp only [List.length_append]; omega)
      simp only at hih
      rw [← hV2] at hih
      have e1 : (P ++ Z).length = c := by rw [List.length_append]; omega
      rw [e1] at hih
      refine Run.mv [0] _ _ (by rfl) (by decide) ?_ ?_ hih
      · simp
      · simp
    · have hlt' : ¬ ((P.length + d : Nat) : Int) ≤ n := by omega
      clear ih
      obtain ⟨c, hc⟩ : ∃ c, c = P.length + d := ⟨_, rfl⟩
      rw [← hc] at hlt hlt' ⊢
      obtain ⟨m, hm⟩ : ∃ m, m = P.length + k := ⟨_, rfl⟩
      rw [← hm] at hwm
      by_cases hmn : m < n
      · have hmn' : (m : Int) < n := by omega
        obtain ⟨X, Y, rfl, hX, sX, hY⟩ := hR.two (by omega)
        rw [List.length_append] at hlen
        have sY := hY.one hk (by omega)
        have hq := sym_all (X.length + Y.length) P X Y [] (Nat.le_refl _) (by omega) (by omega) sX sY (by simp only [List.length_append, List.length_nil]; omega) (a := P.length) (m := m) (b := n) (L := n) rfl (by omega) (by omega) (by simp only [List.length_append, List.length_nil]; omega)
        rw [show P ++ X ++ Y ++ [] = P ++ (X ++ Y) by simp] at hq
        obtain ⟨V, hV⟩ : ∃ V, V = P ++ (X ++ Y) := ⟨_, rfl⟩
        rw [← hV] at hq hp ⊢
        (repeat (first | refine Run.adm rfl ?_ | refine Run.seq ?_ | (apply Run.opS rfl; (· (simp -implicitDefEqProofs [hlt, hlt', hwm, hmn, hmn']; exact ⟨rfl, rfl⟩))) | (apply Run.condS; (· (simp -implicitDefEqProofs [hlt, hlt', hwm, hmn, hmn']; exact rfl)))))
        refine Run.opC rfl rfl rfl hq ?_
        rintro v h' ⟨rfl, Z, hzp, hzs, rfl⟩
        have hzl := hzp.length_eq
        rw [List.length_append] at hzl
        have hih := ihO (d, P ++ Z) ⟨by
          refine List.Perm.trans ?_ hp
          rw [hV]
          exact List.Perm.append_left P hzp, hb _ (.last _ (by omega) hzs), by simp only; omega, by simp only; omega⟩ (by simp only; omega)
        simp only at hih
        obtain ⟨V2, hV2⟩ : ∃ V, V = P ++ Z := ⟨_, rfl⟩
        rw [← hV2] at hih
        (repeat (first | refine Run.adm rfl ?_ | refine Run.seq ?_ | (apply Run.opS rfl; (· (simp -implicitDefEqProofs [hw3]; exact ⟨rfl, rfl⟩))) | (apply Run.condS; (· (simp -implicitDefEqProofs [hw3]; exact rfl)))))
        refine Run.mv [0] _ _ (by rfl) (by decide) ?_ ?_ hih
        · simp
        · simp [hV2]
      · have hmn' : ¬ (m : Int) < n := by omega
        have sR := hR.one hk (by omega)
        have hih := ihO (d, P ++ R) ⟨hp, hb _ (.last _ (by omega) sR), by simp only; omega, by simp only; omega⟩ (by simp only; omega)
        simp only at hih
        obtain ⟨V, hV⟩ : ∃ V, V = P ++ R := ⟨_, rfl⟩
        rw [← hV] at hih ⊢
        (repeat (first | refine Run.adm rfl ?_ | refine Run.seq ?_ | (apply Run.opS rfl; (· (simp -implicitDefEqProofs [hlt, hlt', hwm, hmn, hmn', hw3]; exact ⟨rfl, rfl⟩))) | (apply Run.condS; (· (simp -implicitDefEqProofs [hlt, hlt', hwm, hmn, hmn', hw3]; exact rfl)))))
        refine Run.mv [0] _ _ (by rfl) (by decide) ?_ ?_ hih
        · simp
        · simp

theorem sort_tri (W0 : List Tb) (hl : W0.length ≤ 1000000) :
    Tri Try.prog 49 [.sl 0 0 W0.length 4 none, .fn 50 []] [.arr (W0.map encT) 4] (fun v H => v = .tup [] ∧ ∃ Z, Z.Perm W0 ∧ Srt Z ∧ H = [.arr (Z.map encT) 4]) := by
  refine Tri.of_run' Try.func49 rfl c49_ok (by simp [Try.ntmps49]) ?_
  (repeat (first | refine Run.adm rfl ?_ | refine Run.seq ?_ | (apply Run.opS rfl; (· (simp -implicitDefEqProofs; exact ⟨rfl, rfl⟩))) | (apply Run.condS; (· (simp -implicitDefEqProofs; exact rfl)))))
  refine Run.opC rfl rfl rfl (stab_tri W0 hl) ?_
  rintro v h' ⟨rfl, Z, hzp, hzs, rfl⟩
  (repeat (first | refine Run.adm rfl ?_ | refine Run.seq ?_ | (apply Run.opS rfl; (· (simp -implicitDefEqProofs; exact ⟨rfl, rfl⟩))) | (apply Run.condS; (· (simp -implicitDefEqProofs; exact rfl)))))
  refine Run.retI Try.func49 r49_ok trivial (by simp [r49]; rfl) (by simp) ?_ (by simp) (by simp)
  exact ⟨rfl, Z, hzp, hzs, rfl⟩

end Go.Proofs.Ytpipgcmiaccdkaa
