/-
  Layer 05, part O: FsNames.
-/
import Derived.Test.YtoofeikddclclaaFsDec
namespace Go.Proofs.Ytoofeikddclclaa
open Sx Go
set_option maxRecDepth 100000
set_option linter.unusedSimpArgs false
set_option linter.unusedVariables false
set_option linter.unnecessarySimpa false
attribute [local simp] stepV condR boundsC appendG appendO copyV srcC guardB isCall opStep Opd.ev put readAt aBin aUn args0 V.celled V.ones V.one V.cells putAt bounds bound1 elemsOf srcOf appendV fillAt fillEl V.pures V.pure unwind evs ARes.ev mkRes V.ren V.renL O.ren eqCells eq1 aEq aMM hasTy hasTyN okTy mmGo Known HLe OLe VsLe.refl VLe.refl VLe.cap Stay VsLe V.frz V.frzL O.frz fr clearV rn KnownR Objs OLeO ObjsE nm back setAll ren_ite take_map_len List.take_of_length_le
attribute [local simp ↓] upd_app tl_cons tl_nil
attribute [local simp] encS_ren encS_ones encS_len encS_take KnownS VLe.refl

theorem Own.base {X L d D Y} (h : Own X L d D Y) {i : Nat} {o : O} (hi : X[i]? = some o) : Y[i]? = some o := by
  obtain ⟨F, -, h2, -⟩ := h
  exact h2.get hi (by simp)

/-- the disk on which FsNames plays -/
def nm1 (a b x y : Bs) (n : Nat) : List FileM := [⟨a, x, n⟩, ⟨b, y, 0⟩]

theorem names_law (a b x y : Bs) (ha : a.length ≤ 9223372036854775807) (hb : b.length ≤ 9223372036854775807) : Tri Try.prog 6 [.str a, .str b, .agg [.str x, .str y]] [] (fun v H => v = .bool true ∧ H = []) := by
  refine Tri.of_run' Try.func6 rfl c6_ok (by simp [Try.ntmps6]) ?_
  have hfin : ∀ {k t h}, AtEnd k → t 6 = .bool true → Run ⟨Try.prog, 6, Try.f6.ntmps, [], fun v H => v = .bool true ∧ H = []⟩ ⟨k, t, h⟩ := by
    intro k t h hk h2
    refine Run.ret0 rfl Try.func6 r6_ok hk (by simp [r6]; rfl) ?_ (by simp [h2])
    exact ⟨by simp [h2], rfl⟩
  (repeat (first | refine Run.adm rfl ?_ | refine Run.seq ?_ | (apply Run.opS rfl; (· (simp -implicitDefEqProofs; exact ⟨rfl, rfl⟩))) | (apply Run.condS; (· (simp -implicitDefEqProofs; exact rfl)))))
  refine Run.opC rfl rfl rfl (new_own _) ?_
  rintro v Y ⟨d, rfl, h0⟩
  have b0 := h0.base (i := 0) rfl
  by_cases c1 : 1024 < x.length
  · have c1' : (1024 : Int) < x.length := by omega
    (repeat (first | refine Run.adm rfl ?_ | refine Run.seq ?_ | (apply Run.opS rfl; (· (simp -implicitDefEqProofs [b0, c1, c1']; exact ⟨rfl, rfl⟩))) | (apply Run.condS; (· (simp -implicitDefEqProofs [b0, c1, c1']; exact rfl)))))
    refine Run.opC rfl (by simp) rfl (awake_at _) ?_
    rintro v H ⟨rfl, hH⟩
    (repeat (first | refine Run.adm rfl ?_ | refine Run.seq ?_ | (apply Run.opS rfl; (· (simp -implicitDefEqProofs; exact ⟨rfl, rfl⟩))) | (apply Run.condS; (· (simp -implicitDefEqProofs; exact rfl)))))
    exact hfin trivial (by simp)
  have c1' : ¬ (1024 : Int) < x.length := by omega
  by_cases c2 : 1024 < y.length
  · have c2' : (1024 : Int) < y.length := by omega
    (repeat (first | refine Run.adm rfl ?_ | refine Run.seq ?_ | (apply Run.opS rfl; (· (simp -implicitDefEqProofs [b0, c1, c1', c2, c2']; exact ⟨rfl, rfl⟩))) | (apply Run.condS; (· (simp -implicitDefEqProofs [b0, c1, c1', c2, c2']; exact rfl)))))
    refine Run.opC rfl (by simp) rfl (awake_at _) ?_
    rintro v H ⟨rfl, hH⟩
    (repeat (first | refine Run.adm rfl ?_ | refine Run.seq ?_ | (apply Run.opS rfl; (· (simp -implicitDefEqProofs; exact ⟨rfl, rfl⟩))) | (apply Run.condS; (· (simp -implicitDefEqProofs; exact rfl)))))
    exact hfin trivial (by simp)
  have c2' : ¬ (1024 : Int) < y.length := by omega
  (repeat (first | refine Run.adm rfl ?_ | refine Run.seq ?_ | (apply Run.opS rfl; (· (simp -implicitDefEqProofs [b0, c1, c1', c2, c2']; exact ⟨rfl, rfl⟩))) | (apply Run.condS; (· (simp -implicitDefEqProofs [b0, c1, c1', c2, c2']; exact rfl)))))
  refine Run.opC rfl (by simp) rfl (name_at a ha _) ?_
  rintro v H ⟨rfl, hH⟩
  rw [hH]
  clear hH
  cases hna : nameB a with
  | false =>
    (repeat (first | refine Run.adm rfl ?_ | refine Run.seq ?_ | (apply Run.opS rfl; (· (simp -implicitDefEqProofs; exact ⟨rfl, rfl⟩))) | (apply Run.condS; (· (simp -implicitDefEqProofs; exact rfl)))))
    refine Run.opC rfl (by simp) rfl (awake_at _) ?_
    rintro v H ⟨rfl, hH⟩
    (repeat (first | refine Run.adm rfl ?_ | refine Run.seq ?_ | (apply Run.opS rfl; (· (simp -implicitDefEqProofs; exact ⟨rfl, rfl⟩))) | (apply Run.condS; (· (simp -implicitDefEqProofs; exact rfl)))))
    exact hfin trivial (by simp)
  | true =>
    (repeat (first | refine Run.adm rfl ?_ | refine Run.seq ?_ | (apply Run.opS rfl; (· (simp -implicitDefEqProofs; exact ⟨rfl, rfl⟩))) | (apply Run.condS; (· (simp -implicitDefEqProofs; exact rfl)))))
    refine Run.opC rfl (by simp) rfl (name_at b hb _) ?_
    rintro v H ⟨rfl, hH⟩
    rw [hH]
    clear hH
    cases hnb : nameB b with
    | false =>
      (repeat (first | refine Run.adm rfl ?_ | refine Run.seq ?_ | (apply Run.opS rfl; (· (simp -implicitDefEqProofs; exact ⟨rfl, rfl⟩))) | (apply Run.condS; (· (simp -implicitDefEqProofs; exact rfl)))))
      refine Run.opC rfl (by simp) rfl (awake_at _) ?_
      rintro v H ⟨rfl, hH⟩
      (repeat (first | refine Run.adm rfl ?_ | refine Run.seq ?_ | (apply Run.opS rfl; (· (simp -implicitDefEqProofs; exact ⟨rfl, rfl⟩))) | (apply Run.condS; (· (simp -implicitDefEqProofs; exact rfl)))))
      exact hfin trivial (by simp)
    | true =>
      by_cases hab : a = b
      · (repeat (first | refine Run.adm rfl ?_ | refine Run.seq ?_ | (apply Run.opS rfl; (· (simp -implicitDefEqProofs [hab]; exact ⟨rfl, rfl⟩))) | (apply Run.condS; (· (simp -implicitDefEqProofs [hab]; exact rfl)))))
        refine Run.opC rfl (by simp) rfl (awake_at _) ?_
        rintro v H ⟨rfl, hH⟩
        (repeat (first | refine Run.adm rfl ?_ | refine Run.seq ?_ | (apply Run.opS rfl; (· (simp -implicitDefEqProofs; exact ⟨rfl, rfl⟩))) | (apply Run.condS; (· (simp -implicitDefEqProofs; exact rfl)))))
        exact hfin trivial (by simp)
      obtain ⟨ma, la⟩ := nameB_may hna
      obtain ⟨mb, lb⟩ := nameB_may hnb
      have hba : ¬ b = a := fun h => hab h.symm
      (repeat (first | refine Run.adm rfl ?_ | refine Run.seq ?_ | (apply Run.opS rfl; (· (simp -implicitDefEqProofs [hab]; exact ⟨rfl, rfl⟩))) | (apply Run.condS; (· (simp -implicitDefEqProofs [hab]; exact rfl)))))
      refine Run.opC rfl (by simp) rfl (make_own h0 a) ?_
      rintro v Y1 ⟨rfl, h1, -⟩
      have e1 : makeD ⟨[], -1, false⟩ a = (0, ⟨[⟨a, [], 0⟩], -1, false⟩) := by simp [makeD, doI, Dk.did, ma, fileOf]
      rw [e1] at h1 ⊢
      (repeat (first | refine Run.adm rfl ?_ | refine Run.seq ?_ | (apply Run.opS rfl; (· (simp -implicitDefEqProofs; exact ⟨rfl, rfl⟩))) | (apply Run.condS; (· (simp -implicitDefEqProofs; exact rfl)))))
      refine Run.opC rfl (by simp) rfl (make_own h1 b) ?_
      rintro v Y2 ⟨rfl, h2, -⟩
      have e2 : makeD ⟨[⟨a, [], 0⟩], -1, false⟩ b = (0, ⟨nm1 a b [] [] 0, -1, false⟩) := by simp [makeD, doI, Dk.did, mb, fileOf, hab, nm1]
      simp only at h2 ⊢
      rw [e2] at h2 ⊢
      (repeat (first | refine Run.adm rfl ?_ | refine Run.seq ?_ | (apply Run.opS rfl; (· (simp -implicitDefEqProofs; exact ⟨rfl, rfl⟩))) | (apply Run.condS; (· (simp -implicitDefEqProofs; exact rfl)))))
      refine Run.opC rfl (by simp) rfl (make_own h2 a) ?_
      rintro v Y3 ⟨rfl, h3, -⟩
      have e3 : makeD ⟨nm1 a b [] [] 0, -1, false⟩ a = (1, ⟨nm1 a b [] [] 0, -1, false⟩) := by simp [makeD, doI, Dk.did, ma, fileOf, nm1]
      simp only at h3 ⊢
      rw [e3] at h3 ⊢
      have b3 := h3.base (i := 0) rfl
      (repeat (first | refine Run.adm rfl ?_ | refine Run.seq ?_ | (apply Run.opS rfl; (· (simp -implicitDefEqProofs [b3]; exact ⟨rfl, rfl⟩))) | (apply Run.condS; (· (simp -implicitDefEqProofs [b3]; exact rfl)))))
      refine Run.opC rfl (by simp) rfl (append_own h3 a x (by omega)) ?_
      rintro v Y4 ⟨rfl, h4, -⟩
      have e4 : appendD ⟨nm1 a b [] [] 0, -1, false⟩ a x = (0, ⟨nm1 a b x [] 0, -1, false⟩) := by
        have : ¬ 4194304 < x.length := by omega
        simp [appendD, doI, Dk.did, ma, fileOf, updF, nm1, this, hba]
      simp only at h4 ⊢
      rw [e4] at h4 ⊢
      have b4 := h4.base (i := 0) rfl
      (repeat (first | refine Run.adm rfl ?_ | refine Run.seq ?_ | (apply Run.opS rfl; (· (simp -implicitDefEqProofs [b4]; exact ⟨rfl, rfl⟩))) | (apply Run.condS; (· (simp -implicitDefEqProofs [b4]; exact rfl)))))
      refine Run.opC rfl (by simp) rfl (append_own h4 b y (by omega)) ?_
      rintro v Y5 ⟨rfl, h5, -⟩
      have e5 : appendD ⟨nm1 a b x [] 0, -1, false⟩ b y = (0, ⟨nm1 a b x y 0, -1, false⟩) := by
        have : ¬ 4194304 < y.length := by omega
        simp [appendD, doI, Dk.did, mb, fileOf, updF, nm1, this, hab]
      simp only at h5 ⊢
      rw [e5] at h5 ⊢
      (repeat (first | refine Run.adm rfl ?_ | refine Run.seq ?_ | (apply Run.opS rfl; (· (simp -implicitDefEqProofs; exact ⟨rfl, rfl⟩))) | (apply Run.condS; (· (simp -implicitDefEqProofs; exact rfl)))))
      refine Run.opC rfl (by simp) rfl (sync_own h5 a) ?_
      rintro v Y6 ⟨rfl, h6, -⟩
      have e6 : syncD ⟨nm1 a b x y 0, -1, false⟩ a = (0, ⟨nm1 a b x y x.length, -1, false⟩) := by simp [syncD, doI, Dk.did, ma, fileOf, updF, nm1, hba]
      simp only at h6 ⊢
      rw [e6] at h6 ⊢
      (repeat (first | refine Run.adm rfl ?_ | refine Run.seq ?_ | (apply Run.opS rfl; (· (simp -implicitDefEqProofs; exact ⟨rfl, rfl⟩))) | (apply Run.condS; (· (simp -implicitDefEqProofs; exact rfl)))))
      refine Run.opC rfl (by simp) rfl (rename_own h6 a b) ?_
      rintro v Y7 ⟨rfl, h7, -⟩
      have e7 : renameD ⟨nm1 a b x y x.length, -1, false⟩ a b = (0, ⟨[⟨b, x, x.length⟩], -1, false⟩) := by simp [renameD, doI, Dk.did, ma, mb, fileOf, setF, delF, nm1, hab, hba]
      simp only at h7 ⊢
      rw [e7] at h7 ⊢
      (repeat (first | refine Run.adm rfl ?_ | refine Run.seq ?_ | (apply Run.opS rfl; (· (simp -implicitDefEqProofs; exact ⟨rfl, rfl⟩))) | (apply Run.condS; (· (simp -implicitDefEqProofs; exact rfl)))))
      refine Run.opC rfl (by simp) rfl (rename_own h7 a b) ?_
      rintro v Y8 ⟨rfl, h8, -⟩
      have e8 : renameD ⟨[⟨b, x, x.length⟩], -1, false⟩ a b = (3, ⟨[⟨b, x, x.length⟩], -1, false⟩) := by simp [renameD, doI, Dk.did, ma, mb, fileOf, hab, hba]
      simp only at h8 ⊢
      rw [e8] at h8 ⊢
      (repeat (first | refine Run.adm rfl ?_ | refine Run.seq ?_ | (apply Run.opS rfl; (· (simp -implicitDefEqProofs; exact ⟨rfl, rfl⟩))) | (apply Run.condS; (· (simp -implicitDefEqProofs; exact rfl)))))
      refine Run.opC rfl (by simp) rfl (crash0_own h8 (by intro f hf; simp at hf; rw [hf]; exact lb)) ?_
      rintro v Y9 ⟨rfl, h9, -⟩
      have e9 : ([⟨b, x, x.length⟩] : List FileM).map cut0 = [⟨b, x, x.length⟩] := by simp [cut0]
      simp only at h9
      rw [e9] at h9
      (repeat (first | refine Run.adm rfl ?_ | refine Run.seq ?_ | (apply Run.opS rfl; (· (simp -implicitDefEqProofs; exact ⟨rfl, rfl⟩))) | (apply Run.condS; (· (simp -implicitDefEqProofs; exact rfl)))))
      refine Run.opC rfl (by simp) rfl (read_own h9 b) ?_
      rintro v Y10 ⟨rfl, h10, -⟩
      have e10 : readD ⟨[⟨b, x, x.length⟩], -1, false⟩ b = (x, 0) := by simp [readD, lookE, mb, fileOf]
      rw [e10]
      (repeat (first | refine Run.adm rfl ?_ | refine Run.seq ?_ | (apply Run.opS rfl; (· (simp -implicitDefEqProofs; exact ⟨rfl, rfl⟩))) | (apply Run.condS; (· (simp -implicitDefEqProofs; exact rfl)))))
      refine Run.opC rfl (by simp) rfl (read_own h10 a) ?_
      rintro v Y11 ⟨rfl, h11, -⟩
      have e11 : readD ⟨[⟨b, x, x.length⟩], -1, false⟩ a = ([], 3) := by simp [readD, lookE, ma, fileOf, hba]
      rw [e11]
      have b11 := h11.base (i := 0) rfl
      (repeat (first | refine Run.adm rfl ?_ | refine Run.seq ?_ | (apply Run.opS rfl; (· (simp -implicitDefEqProofs [b11]; exact ⟨rfl, rfl⟩))) | (apply Run.condS; (· (simp -implicitDefEqProofs [b11]; exact rfl)))))
      refine Run.opC rfl (by simp) rfl (names_own h11 (by intro f hf; simp at hf; rw [hf]; exact lb)) ?_
      rintro v Y12 ⟨rfl, h12, -⟩
      have e12 : namesD ⟨[⟨b, x, x.length⟩], -1, false⟩ = [b] := by simp [namesD, sortN]
      rw [e12]
      (repeat (first | refine Run.adm rfl ?_ | refine Run.seq ?_ | (apply Run.opS rfl; (· (simp -implicitDefEqProofs; exact ⟨rfl, rfl⟩))) | (apply Run.condS; (· (simp -implicitDefEqProofs; exact rfl)))))
      refine Run.frzS Y12.length (es := [[.str b]]) (sz := 1) (by simp) ?_
      refine run_to [(7, .ptr d 0), (1, .str b), (126, .bool true), (128, .vs ([b].map encS) 1), (130, .vs ([b].map encS) 1)] (fun Z => Own [.row [.str x, .str y]] [] d ⟨[⟨b, x, x.length⟩], -1, false⟩ Z) (by simp [encS]) (Own.keep h12 (((Kept.refl Y12 []).app _).set _ _ (.inr (by omega)))).1 ?_
      intro Z hZ
      (repeat (first | refine Run.adm rfl ?_ | refine Run.seq ?_ | (apply Run.opS rfl; (· (simp -implicitDefEqProofs; exact ⟨rfl, rfl⟩))) | (apply Run.condS; (· (simp -implicitDefEqProofs; exact rfl)))))
      refine Run.opC rfl (by simp) rfl (same_at [b] [b] (by simp) _) ?_
      rintro v H ⟨rfl, hH⟩
      rw [hH]
      clear hH
      (repeat (first | refine Run.adm rfl ?_ | refine Run.seq ?_ | (apply Run.opS rfl; (· (simp -implicitDefEqProofs; exact ⟨rfl, rfl⟩))) | (apply Run.condS; (· (simp -implicitDefEqProofs; exact rfl)))))
      refine Run.opC rfl (by simp) rfl (remove_own hZ b) ?_
      rintro v Y13 ⟨rfl, h13, -⟩
      have e13 : removeD ⟨[⟨b, x, x.length⟩], -1, false⟩ b = (0, ⟨[], -1, false⟩) := by simp [removeD, doI, Dk.did, mb, fileOf, delF]
      rw [e13] at h13 ⊢
      (repeat (first | refine Run.adm rfl ?_ | refine Run.seq ?_ | (apply Run.opS rfl; (· (simp -implicitDefEqProofs; exact ⟨rfl, rfl⟩))) | (apply Run.condS; (· (simp -implicitDefEqProofs; exact rfl)))))
      refine Run.opC rfl (by simp) rfl (names_own h13 (by intro f hf; simp at hf)) ?_
      rintro v Y14 ⟨rfl, h14, -⟩
      have e14 : namesD ⟨[], -1, false⟩ = [] := by simp [namesD, sortN]
      simp only at h14 ⊢
      rw [e14]
      (repeat (first | refine Run.adm rfl ?_ | refine Run.seq ?_ | (apply Run.opS rfl; (· (simp -implicitDefEqProofs; exact ⟨rfl, rfl⟩))) | (apply Run.condS; (· (simp -implicitDefEqProofs; exact rfl)))))
      refine Run.opC rfl (by simp) rfl (awake_at _) ?_
      rintro v H ⟨rfl, hH⟩
      (repeat (first | refine Run.adm rfl ?_ | refine Run.seq ?_ | (apply Run.opS rfl; (· (simp -implicitDefEqProofs; exact ⟨rfl, rfl⟩))) | (apply Run.condS; (· (simp -implicitDefEqProofs; exact rfl)))))
      exact hfin trivial (by simp)

end Go.Proofs.Ytoofeikddclclaa
