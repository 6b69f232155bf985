/-
  Layer 06, part E: the names of a log's files.
-/
import Derived.Test.YthphkcpbglhabaaGreatDoorWalD
namespace Go.Proofs.YthphkcpbglhabaaGreatDoor
open Sx Go Go.RowKit Go.Shelf
set_option maxRecDepth 100000
set_option linter.unusedSimpArgs false
set_option linter.unusedVariables false
set_option linter.unnecessarySimpa false
attribute [local simp] stepV condR boundsC appendG appendO copyV srcC guardB isCall opStep Opd.ev put readAt aBin aUn args0 V.celled V.ones V.one V.cells putAt bounds bound1 elemsOf srcOf appendV fillAt fillEl V.pures V.pure unwind evs ARes.ev mkRes V.ren V.renL O.ren eqCells eq1 aEq aMM hasTy hasTyN okTy mmGo Known HLe OLe VsLe.refl VLe.refl VLe.cap Stay VsLe V.frz V.frzL O.frz fr clearV rn KnownR Objs OLeO ObjsE nm back setAll ren_ite take_map_len List.take_of_length_le
attribute [local simp ↓] upd_app tl_cons tl_nil

theorem itoa_at (i : Nat) (hi : i < 100) (H : List O) : Tri Tryz.prog 124 [.int .i64 i] H (fun v H' => v = .str (Lib.decDigits i) ∧ H' = H) := by
  refine ⟨⟨Tryz.f124, Tryz.func124, by kernel_rfl, by kernel_rfl⟩, fun c w cargs hh hv => ?_⟩
  have hsz : cargs.size = 1 := by rw [← hv.1]; rfl
  have ha := (hv.2 0 (by simp) (by omega)).int_inv
  rw [args1 hsz, ha]
  refine Calls.mono (Any.strconv_Itoa_small { Tryz.itoa124 with } i hi w) ?_
  rintro e w' ⟨rfl, rfl⟩
  exact ⟨_, H, c, _, ⟨rfl, rfl⟩, rfl, .str .., hh, Adv.refl _ _ _⟩
theorem rep_extra : Builder.Extra Tryz.prog Tryz.repeat125_ren where
  sizeBuilder := by kernel_rfl
  liesBuilder := by kernel_rfl
  t5 := Tryz.repeat125.t5
  a5 := Tryz.repeat125.a5
  z5 := Tryz.repeat125.z5
  v5 := Tryz.repeat125.v5
  infoByte := by kernel_rfl
  cellsByte := by kernel_rfl
  sizeByte := by kernel_rfl
  neB5 := by decide
theorem repeat_at (s : Bs) (n : Nat) (hn : s.length * n ≤ 140737488355328) (hn2 : n ≤ 9223372036854775807) (H : List O) : Tri Tryz.prog 125 [.str s, .int .i64 n] H (fun v H' => v = .str (Lib.repeatL s n) ∧ H' = H) := by
  refine ⟨⟨Tryz.f125, Tryz.func125, by kernel_rfl, by kernel_rfl⟩, fun c w cargs hh hv => ?_⟩
  have hsz : cargs.size = 2 := by rw [← hv.1]; rfl
  have ha := (hv.2 0 (by simp) (by omega)).str_inv
  have hb := (hv.2 1 (by simp) (by omega)).int_inv
  rw [args2 hsz, ha, hb]
  have hlen : (⟨s.toArray⟩ : ByteArray).size * n ≤ 140737488355328 := by
    have : (⟨s.toArray⟩ : ByteArray).size = s.length := by show s.toArray.size = _; simp
    rw [this]; exact hn
  refine Calls.mono (Any.strings_Repeat Tryz.repeat125 rep_extra ⟨s.toArray⟩ n w hn2 hlen) ?_
  rintro e w' ⟨rfl, hbl⟩
  obtain ⟨g1, g2⟩ := hh.below hbl
  exact ⟨_, _, c, _, ⟨rfl, rfl⟩, rfl, .str .., g1, g2⟩

/-- the name of a log's file -/
def logN (i : Nat) : Bs := [108, 111, 103, 45] ++ Lib.repeatL [48] (8 - (Lib.decDigits i).length) ++ Lib.decDigits i
theorem dig_len : ∀ i, i < 100 → (Lib.decDigits i).length ≤ 2 := by decide +kernel
theorem rep_len : ∀ n, n ≤ 8 → (Lib.repeatL [48] n).length = n := by decide +kernel
theorem lname_tri (i : Nat) (hi : i < 100) : Tri Tryz.prog 72 [.int .i64 i] [] (fun v H => v = .str (logN i) ∧ H = []) := by
  refine Tri.of_run' Tryz.func72 rfl c72_ok (by simp [Tryz.ntmps72]) ?_
  (repeat (first | refine Run.adm rfl ?_ | refine Run.seq ?_ | ((first | apply Run.opS rfl | apply Run.condS); (· (simp -implicitDefEqProofs; first | exact ⟨rfl, rfl⟩ | exact rfl)))))
  refine Run.opC rfl rfl rfl (itoa_at i hi _) ?_
  rintro v h' ⟨rfl, rfl⟩
  have hd := dig_len i hi
  have hw := wrap_small (n := ((8 - (Lib.decDigits i).length : Nat) : Int)) (by omega) (by omega)
  have hn : 8 - ((Lib.decDigits i).length : Int) = ((8 - (Lib.decDigits i).length : Nat) : Int) := by omega
  have hr := rep_len (8 - (Lib.decDigits i).length) (by omega)
  (repeat (first | refine Run.adm rfl ?_ | refine Run.seq ?_ | ((first | apply Run.opS rfl | apply Run.condS); (· (simp -implicitDefEqProofs [hw, hn]; first | exact ⟨rfl, rfl⟩ | exact rfl)))))
  refine Run.opC rfl rfl rfl (repeat_at [48] (8 - (Lib.decDigits i).length) (by simp only [List.length_cons, List.length_nil]; omega) (by omega) _) ?_
  rintro v h' ⟨rfl, rfl⟩
  have h1 : (Lib.repeatL [48] (8 - (Lib.decDigits i).length)).length + 4 ≤ 4611686018427387904 := by omega
  have h2 : (Lib.repeatL [48] (8 - (Lib.decDigits i).length)).length + 4 + (Lib.decDigits i).length ≤ 4611686018427387904 := by omega
  have hln : logN i = [108, 111, 103, 45] ++ Lib.repeatL [48] (8 - (Lib.decDigits i).length) ++ Lib.decDigits i := rfl
  generalize Lib.repeatL [48] (8 - (Lib.decDigits i).length) = R at *
  generalize Lib.decDigits i = G at *
  have h3 : 4 + R.length ≤ 4611686018427387904 := by omega
  have h4 : R.length + 4 + G.length ≤ 4611686018427387904 := by omega
  (repeat (first | refine Run.adm rfl ?_ | refine Run.seq ?_ | ((first | apply Run.opS rfl | apply Run.condS); (· (simp -implicitDefEqProofs [h1, h2, h3, h4]; first | exact ⟨rfl, rfl⟩ | exact rfl)))))
  refine Run.retI Tryz.func72 r72_ok trivial (by simp -implicitDefEqProofs [r72]; rfl) (by simp ) ?_ (by simp -implicitDefEqProofs ) (by simp -implicitDefEqProofs )
  simp [hln]
theorem lname_at (i : Nat) (hi : i < 100) (H : List O) : Tri Tryz.prog 72 [.int .i64 i] H (fun v H' => v = .str (logN i) ∧ H' = H) := (lname_tri i hi).at rfl rfl H
theorem logN_ok : ∀ i, i < 100 → (logN i).all okB = true ∧ (logN i).length = 12 ∧ Lib.trimPrefix (logN i) [108, 111, 103, 45] = (logN i).drop 4 := by decide +kernel
theorem logN_may {i : Nat} (h : i < 100) : mayN (logN i) = true := by
  obtain ⟨h1, h2, -⟩ := logN_ok i h
  exact mayN_of _ h1 (fun e => by rw [e] at h2; simp at h2) (by omega)
def numN (s : Bs) : Nat := ((s.getD 10 0).toNat - 48) * 10 + ((s.getD 11 0).toNat - 48)
theorem numN_log : ∀ i, i < 100 → numN (logN i) = i := by decide +kernel
theorem logN_inj {i j : Nat} (hi : i < 100) (hj : j < 100) (h : logN i = logN j) : i = j := by
  rw [← numN_log i hi, h, numN_log j hj]
theorem logN_step : ∀ i, i < 99 → leB (logN i) (logN (i + 1)) = true := by decide +kernel
theorem logN_le {i : Nat} : ∀ d, i + d < 100 → leB (logN i) (logN (i + d)) = true
  | 0, _ => by simp only [leB, Nat.add_zero, decide_eq_true_eq]; exact List.le_refl _
  | d + 1, h => by
    have h1 := logN_le d (i := i) (by omega)
    have h2 := logN_step (i + d) (by omega)
    simp only [leB, decide_eq_true_eq] at h1 h2 ⊢
    exact List.le_trans h1 h2

end Go.Proofs.YthphkcpbglhabaaGreatDoor
