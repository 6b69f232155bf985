/-
  Layer 05, part N: FsFuses.
-/
import Derived.Test.YtoofeikddclclaaFsDec
namespace Go.Proofs.Ytoofeikddclclaa
open Sx Go
set_option maxRecDepth 100000
set_option linter.unusedSimpArgs false
set_option linter.unusedVariables false
set_option linter.unnecessarySimpa false
attribute [local simp] stepV condR boundsC appendG appendO copyV srcC guardB isCall opStep Opd.ev put readAt aBin aUn args0 V.celled V.ones V.one V.cells putAt bounds bound1 elemsOf srcOf appendV fillAt fillEl V.pures V.pure unwind evs ARes.ev mkRes V.ren V.renL O.ren eqCells eq1 aEq aMM hasTy hasTyN okTy mmGo Known HLe OLe VsLe.refl VLe.refl VLe.cap Stay VsLe V.frz V.frzL O.frz fr clearV rn KnownR Objs OLeO ObjsE nm back setAll ren_ite take_map_len List.take_of_length_le
attribute [local simp ↓] upd_app tl_cons tl_nil
attribute [local simp] encS_ren encS_ones encS_len encS_take KnownS VLe.refl

theorem and255 (n : Int) : ∃ k : Nat, iAnd .i64 n 255 = (k : Int) ∧ k < 256 := by
  have h : ((BitVec.ofInt 64 n &&& BitVec.ofInt 64 255).toNat) ≤ 255 := by
    rw [BitVec.toNat_and]
    exact Nat.le_trans Nat.and_le_right (by decide)
  refine ⟨_, ?_, Nat.lt_of_le_of_lt h (by decide)⟩
  rw [iAnd64, wrap_small (by omega) (by omega)]

def fnm (j : Nat) : Bs := [102, UInt8.ofNat (97 + j % 20), UInt8.ofNat (97 + j / 20)]
theorem fnm_ok : ∀ j, j < 40 → (fnm j).all okB = true := by decide +kernel
theorem fnm_inj : ∀ i, i < 40 → ∀ j, j < 40 → fnm i = fnm j → i = j := by decide +kernel
theorem fnm_zz : ∀ j, j < 40 → fnm j ≠ [102, 122, 122] := by decide +kernel
theorem fnm_may {j : Nat} (h : j < 40) : mayN (fnm j) = true := mayN_of _ (fnm_ok j h) (by simp [fnm]) (by simp [fnm])
theorem may_zz : mayN [102, 122, 122] = true := mayN_of _ (by decide) (by decide) (by decide)
theorem may_x : mayN [120] = true := mayN_of _ (by decide) (by decide) (by decide)
def fuF (c : Nat) : List FileM := (List.range c).map fun j => ⟨fnm j, [], 0⟩
def fuD (k i : Nat) : Dk := ⟨fuF (min i k), ((k - i : Nat) : Int), decide (k < i)⟩
theorem fuF_none {c : Nat} {name : Bs} (h : ∀ j, j < c → fnm j ≠ name) : fileOf (fuF c) name = none := by
  unfold fileOf fuF
  rw [List.find?_eq_none]
  intro f hf
  obtain ⟨j, hj, rfl⟩ := List.mem_map.1 hf
  simpa using h j (List.mem_range.1 hj)
theorem fuF_len (c) : (fuF c).length = c := by simp [fuF]
theorem fuF_names (c : Nat) : ∀ f ∈ fuF c, f.name.length = 3 := by
  intro f hf
  obtain ⟨j, hj, rfl⟩ := List.mem_map.1 hf
  rfl
theorem fuF_cut (c : Nat) : (fuF c).map cut0 = fuF c := by
  unfold fuF
  rw [List.map_map]
  exact List.map_congr_left fun j _ => rfl
theorem fuD_make {k i : Nat} (hi : i < 40) : makeD (fuD k i) (fnm i) = ((if i < k then 0 else 50), fuD k (i + 1)) := by
  have hm := fnm_may hi
  by_cases h : i < k
  · have h1 : min i k = i := by omega
    have h2 : min (i + 1) k = i + 1 := by omega
    have h3 : ¬ k < i := by omega
    have h4 : ¬ k < i + 1 := by omega
    have h5 : ¬ (((k - i : Nat) : Int) = 0) := by omega
    have h6 : (0 : Int) < ((k - i : Nat) : Int) := by omega
    have h7 : fileOf (fuF i) (fnm i) = none := fuF_none fun j hj e => by
      have := fnm_inj j (by omega) i hi e; omega
    have h8 : ¬ 256 ≤ (fuF i).length := by rw [fuF_len]; omega
    have h9 : ((k - i : Nat) : Int) - 1 = ((k - (i + 1) : Nat) : Int) := by omega
    have h10 : fuF (i + 1) = fuF i ++ [⟨fnm i, [], 0⟩] := by simp [fuF, List.range_succ]
    have hdo : doI true ((k - i : Nat) : Int) false = (0, ((k - (i + 1) : Nat) : Int), false) := by
      unfold doI
      rw [if_pos rfl, if_neg (by simp; omega), if_pos h6, h9]
    simp only [makeD, fuD, Dk.did, h1, h2, h3, h4, hm, decide_false, hdo, h7, h8, h10, if_pos h]
    simp
  · have h1 : min i k = k := by omega
    have h2 : min (i + 1) k = k := by omega
    have h4 : k < i + 1 := by omega
    have h5 : k - i = 0 := by omega
    have h6 : k - (i + 1) = 0 := by omega
    have hdo : ∀ b, doI true ((0 : Nat) : Int) b = (50, ((0 : Nat) : Int), true) := by intro b; simp [doI]
    simp only [makeD, fuD, Dk.did, h1, h2, h4, h5, h6, hm, hdo, if_neg h]
    simp

theorem fuses_law (many fuse : Int) : Tri Try.prog 5 [.int .i64 many, .int .i64 fuse] [] (fun v H => v = .bool true ∧ H = []) := by
  refine Tri.of_run' Try.func5 rfl c5_ok (by simp [Try.ntmps5]) ?_
  have hfin : ∀ {k t h}, AtEnd k → t 4 = .bool true → Run ⟨Try.prog, 5, Try.f5.ntmps, [], fun v H => v = .bool true ∧ H = []⟩ ⟨k, t, h⟩ := by
    intro k t h hk h2
    refine Run.ret0 rfl Try.func5 r5_ok hk (by simp [r5]; rfl) ?_ (by simp [h2])
    exact ⟨by simp [h2], rfl⟩
  obtain ⟨a1, ha1, ha2⟩ := and255 many
  obtain ⟨a2, ha3, ha4⟩ := and255 fuse
  (repeat (first | refine Run.adm rfl ?_ | refine Run.seq ?_ | (apply Run.opS rfl; (· (simp -implicitDefEqProofs; exact ⟨rfl, rfl⟩))) | (apply Run.condS; (· (simp -implicitDefEqProofs; exact rfl)))))
  refine Run.opC rfl rfl rfl (new_own _) ?_
  rintro v Y ⟨d, rfl, h0⟩
  have ht1 : (a1 : Int).tmod 40 = ((a1 % 40 : Nat) : Int) := rfl
  have ht2 : (a2 : Int).tmod 50 = ((a2 % 50 : Nat) : Int) := rfl
  have hn : a1 % 40 < 40 := Nat.mod_lt _ (by omega)
  have hk : a2 % 50 < 50 := Nat.mod_lt _ (by omega)
  have hm1 : (a1 : Int) % 40 = ((a1 % 40 : Nat) : Int) := by simp
  have hm2 : (a2 : Int) % 50 = ((a2 % 50 : Nat) : Int) := by simp
  generalize a1 % 40 = n at *
  generalize a2 % 50 = k at *
  (repeat (first | refine Run.adm rfl ?_ | refine Run.seq ?_ | (apply Run.opS rfl; (· (simp -implicitDefEqProofs [ha1, ha3, ht1, ht2, hm1, hm2]; exact ⟨rfl, rfl⟩))) | (apply Run.condS; (· (simp -implicitDefEqProofs [ha1, ha3, ht1, ht2, hm1, hm2]; exact rfl)))))
  refine Run.opC rfl (by simp) rfl (fuse_own h0 k (by omega)) ?_
  rintro v Y1 ⟨rfl, h1, -⟩
  have e1 : (⟨[], if (k : Int) < -1 then -1 else k, false⟩ : Dk) = fuD k 0 := by
    have : ¬ (k : Int) < -1 := by omega
    simp [fuD, fuF, this]
  simp only at h1
  rw [e1] at h1
  (repeat (first | refine Run.adm rfl ?_ | refine Run.seq ?_ | (apply Run.opS rfl; (· (simp -implicitDefEqProofs; exact ⟨rfl, rfl⟩))) | (apply Run.condS; (· (simp -implicitDefEqProofs; exact rfl)))))
  refine Run.sl [(5, .ptr d 0), (6, .int .i64 n), (7, .int .i64 k), (8, .int .i64 (0 : Nat))] (by simp) ?_
  refine Run.loopS (fun (x : Nat × List O) => ([(5, .ptr d 0), (6, .int .i64 n), (7, .int .i64 k), (8, .int .i64 x.1)], x.2))
    (fun x => x.1 ≤ n ∧ Own [] [] d (fuD k x.1) x.2) (fun x => n - x.1) ?_ (0, Y1) ⟨Nat.zero_le _, h1⟩
  rintro ⟨i, Z⟩ ⟨hi, hZ⟩ ih
  simp only at *
  by_cases hlt : i < n
  · have hlt' : (i : Int) < n := by omega
    have hw := wrap_small (n := (i : Int) + 1) (by omega) (by omega)
    obtain ⟨P, hP⟩ : ∃ P, P = UInt8.ofNat (97 + i % 20) := ⟨_, rfl⟩
    obtain ⟨Q, hQ⟩ : ∃ Q, Q = UInt8.ofNat (97 + i / 20) := ⟨_, rfl⟩
    have hPn : P.toNat = 97 + i % 20 := by rw [hP]; simp [UInt8.toNat_ofNat']; omega
    have hQn : Q.toNat = 97 + i / 20 := by rw [hQ]; simp [UInt8.toNat_ofNat']; omega
    have hfn : fnm i = [102, P, Q] := by rw [hP, hQ]; rfl
    have t1 : (i : Int).tmod 20 = ((i % 20 : Nat) : Int) := rfl
    have t2 : (i : Int).tdiv 20 = ((i / 20 : Nat) : Int) := rfl
    have t1' : (i : Int) % 20 = ((i % 20 : Nat) : Int) := by simp
    have t2' : (i : Int) / 20 = ((i / 20 : Nat) : Int) := by simp
    have m1 : i % 20 < 20 := Nat.mod_lt _ (by omega)
    have m2 : i / 20 < 2 := by omega
    generalize i % 20 = r1 at *
    generalize i / 20 = r2 at *
    have w1 : IntKind.i64.wrap (97 + (r1 : Int)) = (P.toNat : Int) := by rw [wrap_small (by omega) (by omega)]; omega
    have w2 : IntKind.i64.wrap (97 + (r2 : Int)) = (Q.toNat : Int) := by rw [wrap_small (by omega) (by omega)]; omega
    have w0 := wrap_small (n := (r2 : Int)) (by omega) (by omega)
    have w3 : IntKind.u8.wrap (P.toNat : Int) = (P.toNat : Int) := by rw [wrap_u8]; omega
    have w4 : IntKind.u8.wrap (Q.toNat : Int) = (Q.toNat : Int) := by rw [wrap_u8]; omega
    have hby : bytesOf [[V.int .u8 (P.toNat : Int)], [V.int .u8 (Q.toNat : Int)]] = some [P, Q] := bytesOf_byteEls [P, Q]
    (repeat (first | refine Run.adm rfl ?_ | refine Run.seq ?_ | (apply Run.opS rfl; (· (simp -implicitDefEqProofs [hlt, hlt', t1, t2, t1', t2', w0, w1, w2, w3, w4, hby]; exact ⟨rfl, rfl⟩))) | (apply Run.condS; (· (simp -implicitDefEqProofs [hlt, hlt', t1, t2, t1', t2', w0, w1, w2, w3, w4, hby]; exact rfl)))))
    have hmk := make_own (hZ.keep ((Kept.refl Z []).app [O.arr [[V.int IntKind.u8 (P.toNat : Int)], [V.int IntKind.u8 (Q.toNat : Int)]] 1])).1 (fnm i)
    rw [fuD_make (by omega), hfn] at hmk
    refine Run.opC rfl rfl rfl hmk ?_
    rintro v Z1 ⟨rfl, hZ1, -⟩
    simp only at hZ1 ⊢
    by_cases hik : i < k
    · have hik' : (i : Int) < k := by omega
      have hik2 : ¬ (k : Int) ≤ i := by omega
      have hik3 : ¬ k ≤ i := by omega
      (repeat (first | refine Run.adm rfl ?_ | refine Run.seq ?_ | (apply Run.opS rfl; (· (simp -implicitDefEqProofs [hik, hik', hik2, hik3]; exact ⟨rfl, rfl⟩))) | (apply Run.condS; (· (simp -implicitDefEqProofs [hik, hik', hik2, hik3]; exact rfl)))))
      refine Run.sl _ ?_ (ih (i + 1, Z1) ⟨by simp only; omega, hZ1⟩ (by simp only; omega))
      simp [hw]
    · have hik' : ¬ (i : Int) < k := by omega
      have hik2 : (k : Int) ≤ i := by omega
      have hik3 : k ≤ i := by omega
      (repeat (first | refine Run.adm rfl ?_ | refine Run.seq ?_ | (apply Run.opS rfl; (· (simp -implicitDefEqProofs [hik, hik', hik2, hik3]; exact ⟨rfl, rfl⟩))) | (apply Run.condS; (· (simp -implicitDefEqProofs [hik, hik', hik2, hik3]; exact rfl)))))
      refine Run.sl _ ?_ (ih (i + 1, Z1) ⟨by simp only; omega, hZ1⟩ (by simp only; omega))
      simp [hw]
  · have : i = n := by omega
    subst this
    (repeat (first | refine Run.adm rfl ?_ | refine Run.seq ?_ | (apply Run.opS rfl; (· (simp -implicitDefEqProofs; exact ⟨rfl, rfl⟩))) | (apply Run.condS; (· (simp -implicitDefEqProofs; exact rfl)))))
    refine Run.opC rfl (by simp) rfl (read_own hZ [102, 122, 122]) ?_
    rintro v Z1 ⟨rfl, hZ1, -⟩
    have hlow : ∀ j, j < min i k → fnm j ≠ [102, 122, 122] := fun j hj => fnm_zz j (by omega)
    have e2 : readD (fuD k i) [102, 122, 122] = ([], if k < i then 50 else 3) := by
      have := fuF_none hlow
      by_cases hki : k < i <;> simp [readD, lookE, may_zz, fuD, this, hki]
    rw [e2]
    (repeat (first | refine Run.adm rfl ?_ | refine Run.seq ?_ | (apply Run.opS rfl; (· (simp -implicitDefEqProofs; exact ⟨rfl, rfl⟩))) | (apply Run.condS; (· (simp -implicitDefEqProofs; exact rfl)))))
    refine Run.opC rfl (by simp) rfl (off_own hZ1) ?_
    rintro v Z2 ⟨rfl, hZ2⟩
    rw [hZ2]
    clear hZ2
    have hoff : (fuD k i).off = decide (k < i) := rfl
    rw [hoff]
    have hdec : decide ((k : Int) < i) = decide (k < i) := by simp
    have hnm : NmOk (fuD k i) := fun f hf => by rw [fuF_names _ f hf]; omega
    (repeat (first | refine Run.adm rfl ?_ | refine Run.seq ?_ | (apply Run.opS rfl; (· (simp -implicitDefEqProofs [hdec]; exact ⟨rfl, rfl⟩))) | (apply Run.condS; (· (simp -implicitDefEqProofs [hdec]; exact rfl)))))
    refine Run.opC rfl (by simp) rfl (names_own hZ1 hnm) ?_
    rintro v Z3 ⟨rfl, hZ3, -⟩
    have hln : (namesD (fuD k i)).length = min i k := by simp [namesD, sortN, fuD, fuF_len]
    have hmin : (if (k : Int) < i then (k : Int) else i) = ((min i k : Nat) : Int) := by split <;> omega
    have hmin2 : (if (i : Int) < k then (i : Int) else k) = ((min i k : Nat) : Int) := by split <;> omega
    have hmin3 : (if k < i then (k : Int) else i) = ((min i k : Nat) : Int) := by split <;> omega
    have hmin4 : (if i < k then (i : Int) else k) = ((min i k : Nat) : Int) := by split <;> omega
    have h50 : decide ((if k < i then (50 : Int) else 3) = 50) = decide (k < i) := by split <;> simp [*]
    (repeat (first | refine Run.adm rfl ?_ | refine Run.seq ?_ | (apply Run.opS rfl; (· (simp -implicitDefEqProofs [hln, hmin, hmin2, hmin3, hmin4, h50, hdec]; exact ⟨rfl, rfl⟩))) | (apply Run.condS; (· (simp -implicitDefEqProofs [hln, hmin, hmin2, hmin3, hmin4, h50, hdec]; exact rfl)))))
    refine Run.opC rfl (by simp) rfl (crash0_own hZ3 hnm) ?_
    rintro v Z4 ⟨rfl, hZ4, -⟩
    have e3 : (fuD k i).files.map cut0 = fuF (min i k) := fuF_cut _
    rw [e3] at hZ4
    (repeat (first | refine Run.adm rfl ?_ | refine Run.seq ?_ | (apply Run.opS rfl; (· (simp -implicitDefEqProofs; exact ⟨rfl, rfl⟩))) | (apply Run.condS; (· (simp -implicitDefEqProofs; exact rfl)))))
    refine Run.opC rfl (by simp) rfl (off_own hZ4) ?_
    rintro v Z5 ⟨rfl, hZ5⟩
    rw [hZ5]
    clear hZ5
    (repeat (first | refine Run.adm rfl ?_ | refine Run.seq ?_ | (apply Run.opS rfl; (· (simp -implicitDefEqProofs; exact ⟨rfl, rfl⟩))) | (apply Run.condS; (· (simp -implicitDefEqProofs; exact rfl)))))
    refine Run.opC rfl (by simp) rfl (make_own hZ4 [120]) ?_
    rintro v Z6 ⟨rfl, hZ6, -⟩
    have e4 : makeD ⟨fuF (min i k), -1, false⟩ [120] = (0, ⟨fuF (min i k) ++ [⟨[120], [], 0⟩], -1, false⟩) := by
      have h1 : fileOf (fuF (min i k)) [120] = none := fuF_none fun j _ => by simp [fnm]
      have h2 : ¬ 256 ≤ (fuF (min i k)).length := by rw [fuF_len]; omega
      simp only [makeD, Dk.did, doI, may_x, h1, h2]
      simp
    rw [e4] at hZ6 ⊢
    (repeat (first | refine Run.adm rfl ?_ | refine Run.seq ?_ | (apply Run.opS rfl; (· (simp -implicitDefEqProofs; exact ⟨rfl, rfl⟩))) | (apply Run.condS; (· (simp -implicitDefEqProofs; exact rfl)))))
    refine Run.opC rfl (by simp) rfl (names_own hZ6 (fun f hf => by
      rcases List.mem_append.1 hf with hf | hf
      · rw [fuF_names _ f hf]; omega
      · rw [List.mem_singleton.1 hf]; decide)) ?_
    rintro v Z7 ⟨rfl, hZ7, -⟩
    have hln2 : (namesD ⟨fuF (min i k) ++ [⟨[120], [], 0⟩], -1, false⟩).length = min i k + 1 := by simp [namesD, sortN, fuF_len]
    have hw := wrap_small (n := ((min i k : Nat) : Int) + 1) (by omega) (by omega)
    (repeat (first | refine Run.adm rfl ?_ | refine Run.seq ?_ | (apply Run.opS rfl; (· (simp -implicitDefEqProofs [hln2, hmin, hmin2, hmin3, hmin4, hw]; exact ⟨rfl, rfl⟩))) | (apply Run.condS; (· (simp -implicitDefEqProofs [hln2, hmin, hmin2, hmin3, hmin4, hw]; exact rfl)))))
    refine Run.opC rfl (by simp) rfl (awake_at _) ?_
    rintro v H ⟨rfl, hH⟩
    (repeat (first | refine Run.adm rfl ?_ | refine Run.seq ?_ | (apply Run.opS rfl; (· (simp -implicitDefEqProofs; exact ⟨rfl, rfl⟩))) | (apply Run.condS; (· (simp -implicitDefEqProofs; exact rfl)))))
    exact hfin trivial (by simp)

end Go.Proofs.Ytoofeikddclclaa
