/-
  Layer 05, part A: a disk in a heap; which names may be; what a doing is.
-/
import Derived.Test.YthphkcpbglhabaaGreatDoorVarC
import Derived.Test.YthphkcpbglhabaaGreatDoorShelf
namespace Go.Proofs.YthphkcpbglhabaaGreatDoor
open Sx Go Go.RowKit
set_option maxRecDepth 100000
set_option linter.unusedSimpArgs false
set_option linter.unusedVariables false
set_option linter.unnecessarySimpa false
attribute [local simp] stepV condR boundsC appendG appendO copyV srcC guardB isCall opStep Opd.ev put readAt aBin aUn args0 V.celled V.ones V.one V.cells putAt bounds bound1 elemsOf srcOf appendV fillAt fillEl V.pures V.pure unwind evs ARes.ev mkRes V.ren V.renL O.ren eqCells eq1 aEq aMM hasTy hasTyN okTy mmGo Known HLe OLe VsLe.refl VLe.refl VLe.cap Stay VsLe V.frz V.frzL O.frz fr clearV rn KnownR Objs OLeO ObjsE nm back setAll ren_ite take_map_len List.take_of_length_le
attribute [local simp ↓] upd_app tl_cons tl_nil

abbrev Bs := List UInt8
def encS (s : Bs) : List V := [.str s]
theorem encS_ren (ρ) (s : Bs) : V.renL ρ (encS s) = encS s := rfl
theorem encS_ones (s) : V.ones (encS s) = true := rfl
theorem encS_len (s) : (encS s).length = 1 := rfl
theorem encS_take (s) : (encS s).take 1 = encS s := rfl
attribute [local simp] encS_ren encS_ones encS_len encS_take KnownS

theorem lt_of_get {X : List O} {i : Nat} {o : O} (h : X[i]? = some o) : i < X.length := (List.getElem?_eq_some_iff.1 h).1
theorem set_same {X : List O} {i : Nat} {o : O} (h : X[i]? = some o) : X.set i o = X := by
  obtain ⟨h1, h2⟩ := List.getElem?_eq_some_iff.1 h
  rw [← h2, List.set_getElem_self]

theorem setG {X : List O} {i : Nat} {o : O} (h : X[i]? = some o) (o' : O) : (X.set i o')[i]? = some o' := List.getElem?_set_self (lt_of_get h)
theorem setN {X : List O} {i j : Nat} (h : i ≠ j) (o' : O) : (X.set i o')[j]? = X[j]? := List.getElem?_set_ne h

/-- which runes are odd in a name -/
def oddP (r : Nat) : Bool := (decide (r < 97) || decide (122 < r)) && (decide (r < 48) || decide (57 < r)) && !decide (r = 46) && !decide (r = 45)
theorem odd_at (w : World) : PredAt Tryz.prog 85 #[] encR oddP w := fun W r _ => by
  unfold FnGives
  by_cases h1 : r < 97 <;> by_cases h2 : 122 < r <;> by_cases h3 : r < 48 <;> by_cases h4 : 57 < r <;> by_cases h5 : r = 46 <;> by_cases h6 : r = 45
  all_goals
    have z1 : ((r : Int) < 97) ↔ r < 97 := by omega
    have z2 : ((122 : Int) < r) ↔ 122 < r := by omega
    have z3 : ((r : Int) < 48) ↔ r < 48 := by omega
    have z4 : ((57 : Int) < r) ↔ 57 < r := by omega
    have z5 : ((r : Int) = 46) ↔ r = 46 := by omega
    have z6 : ((r : Int) = 45) ↔ r = 45 := by omega
    go_enter Tryz.func85, Tryz.ntmps85
    go_wp2
    all_goals first | (exfalso; omega) | (go_ret; exact ⟨by simp [oddP, h1, h2, h3, h4, h5, h6, z5, z6], 0, rfl⟩)

def idxN (s : Bs) : Int := Lib.idxFunc oddP true ⟨s.toArray⟩
theorem idx_at (s : Bs) (H : List O) : Tri Tryz.prog 86 [.str s, .fn 85 []] H (fun v H' => v = .int .i64 (idxN s) ∧ H' = H) := by
  refine ⟨⟨Tryz.f86, Tryz.func86, by kernel_rfl, by kernel_rfl⟩, fun c w cargs hh hv => ?_⟩
  have hsz : cargs.size = 2 := by rw [← hv.1]; rfl
  have ha := (hv.2 0 (by simp) (by omega)).str_inv
  obtain ⟨cs, hb, hcs⟩ := (hv.2 1 (by simp) (by omega)).fn_inv
  have hcs0 : cs = #[] := by
    have := hcs.1
    exact Array.size_eq_zero_iff.1 (by simpa using this.symm)
  subst hcs0
  rw [args2 hsz]
  rw [ha, hb]
  have hk := Any.strings_IndexFunc Tryz.l86 85 #[] (enters_of Tryz.func85 (by kernel_rfl) rfl) oddP ⟨s.toArray⟩ w (odd_at w)
  refine Calls.mono hk ?_
  rintro e w' ⟨rfl, hbl⟩
  obtain ⟨g1, g2⟩ := hh.below hbl
  exact ⟨_, _, c, _, ⟨rfl, rfl⟩, rfl, .int .., g1, g2⟩

/-- may a text be a file's name -/
def mayN (s : Bs) : Bool := !decide (s = []) && !decide (32 < s.length) && decide (idxN s < 0)

theorem may_tri (X : List O) {d m : Nat} {fu : Int} {off : Bool} (hd : X[d]? = some (.row [.mp m, .int .i64 fu, .bool off])) (l : List Bs) (hl : l.length ≤ 1000) :
    Tri Tryz.prog 44 [.ptr d 0, .vs (l.map encS) 1] X (fun v H => v = .bool (l.all mayN) ∧ H = X) := by
  refine Tri.of_run' Tryz.func44 rfl c44_ok (by simp [Tryz.ntmps44]) ?_
  (repeat (first | refine Run.adm rfl ?_ | refine Run.seq ?_ | ((first | apply Run.opS rfl | apply Run.condS); (· (simp -implicitDefEqProofs [hd]; first | exact ⟨rfl, rfl⟩ | exact rfl)))))
  refine Run.sl [(5, .fn 85 []), (17, .vs (l.map encS) 1), (18, .int .i64 l.length), (19, .int .i64 (0 : Nat))] (by simp [VLe.refl]) ?_
  refine Run.loopS (fun (i : Nat) => ([(5, .fn 85 []), (17, .vs (l.map encS) 1), (18, .int .i64 l.length), (19, .int .i64 i)], X)) (fun i => i ≤ l.length ∧ (l.take i).all mayN = true) (fun i => l.length - i) ?_ 0 ⟨Nat.zero_le _, by simp⟩
  rintro i ⟨hi, hall⟩ ih
  by_cases hlt : i < l.length
  · obtain ⟨s, hs, hsi, -, hmem⟩ := getL hlt
    have hlt' : (i : Int) < l.length := by omega
    have hw := wrap_small (n := (i : Int) + 1) (by omega) (by omega)
    have hbad : mayN s = false → l.all mayN = false := fun h => by
      cases ha : l.all mayN with
      | false => rfl
      | true => rw [List.all_eq_true.1 ha s (List.mem_of_getElem? hs)] at h; cases h
    by_cases c1 : s = []
    · (repeat (first | refine Run.adm rfl ?_ | refine Run.seq ?_ | ((first | apply Run.opS rfl | apply Run.condS); (· (simp -implicitDefEqProofs [hlt, hlt', hs, hsi, encS, c1]; first | exact ⟨rfl, rfl⟩ | exact rfl)))))
      refine Run.retS Tryz.func44 r44_ok trivial (by simp [r44]; rfl) ?_
      exact ⟨by simp [hbad (by simp [mayN, c1])], rfl⟩
    by_cases c2 : 32 < s.length
    · have c2' : (32 : Int) < s.length := by omega
      (repeat (first | refine Run.adm rfl ?_ | refine Run.seq ?_ | ((first | apply Run.opS rfl | apply Run.condS); (· (simp -implicitDefEqProofs [hlt, hlt', hs, hsi, encS, c1, c2, c2']; first | exact ⟨rfl, rfl⟩ | exact rfl)))))
      refine Run.retS Tryz.func44 r44_ok trivial (by simp [r44]; rfl) ?_
      exact ⟨by simp [hbad (by simp [mayN, c2])], rfl⟩
    have c2' : ¬ (32 : Int) < s.length := by omega
    (repeat (first | refine Run.adm rfl ?_ | refine Run.seq ?_ | ((first | apply Run.opS rfl | apply Run.condS); (· (simp -implicitDefEqProofs [hlt, hlt', hs, hsi, encS, c1, c2, c2']; first | exact ⟨rfl, rfl⟩ | exact rfl)))))
    refine Run.opC rfl (by simp) rfl (idx_at s _) ?_
    rintro v h' ⟨rfl, rfl⟩
    by_cases c3 : idxN s < 0
    · have c3' : ¬ 0 ≤ idxN s := by omega
      (repeat (first | refine Run.adm rfl ?_ | refine Run.seq ?_ | ((first | apply Run.opS rfl | apply Run.condS); (· (simp -implicitDefEqProofs [c3']; first | exact ⟨rfl, rfl⟩ | exact rfl)))))
      refine Run.sl _ ?_ (ih (i + 1) ⟨by omega, ?_⟩ (by omega))
      · simp [hw, VLe.refl]
      · rw [List.take_add_one, hs]
        simp only [Option.toList_some, List.all_append, hall, Bool.true_and, List.all_cons, List.all_nil, Bool.and_true]
        simp [mayN, c1, c2, c3]
    · have c3' : 0 ≤ idxN s := by omega
      (repeat (first | refine Run.adm rfl ?_ | refine Run.seq ?_ | ((first | apply Run.opS rfl | apply Run.condS); (· (simp -implicitDefEqProofs [c3']; first | exact ⟨rfl, rfl⟩ | exact rfl)))))
      refine Run.retS Tryz.func44 r44_ok trivial (by simp [r44]; rfl) ?_
      exact ⟨by simp [hbad (by simp [mayN, c3])], rfl⟩
  · have : i = l.length := by omega
    subst this
    rw [List.take_length] at hall
    (repeat (first | refine Run.adm rfl ?_ | refine Run.seq ?_ | ((first | apply Run.opS rfl | apply Run.condS); (· (simp -implicitDefEqProofs; first | exact ⟨rfl, rfl⟩ | exact rfl)))))
    refine Run.retS Tryz.func44 r44_ok trivial (by simp [r44]; rfl) ?_
    exact ⟨by simp [hall], rfl⟩

/-- what a doing comes to, and the fuse and the power behind it -/
def doI (ok : Bool) (fu : Int) (off : Bool) : Int × Int × Bool :=
  if ok = true then (if off = true ∨ fu = 0 then (50, fu, true) else (0, if 0 < fu then fu - 1 else fu, false)) else (1, fu, off)

theorem doing_tri (X : List O) {d m : Nat} {fu : Int} {off : Bool} (hd : X[d]? = some (.row [.mp m, .int .i64 fu, .bool off])) (hfu : -1 ≤ fu ∧ fu ≤ 9223372036854775807) (l : List Bs) (hl : l.length ≤ 1000) :
    Tri Tryz.prog 128 [.ptr d 0, .vs (l.map encS) 1] X (fun v H => v = .int .i64 (doI (l.all mayN) fu off).1 ∧ H = X.set d (.row [.mp m, .int .i64 (doI (l.all mayN) fu off).2.1, .bool (doI (l.all mayN) fu off).2.2])) := by
  refine Tri.of_run' Tryz.func128 rfl c128_ok (by simp [Tryz.ntmps128]) ?_
  have hmy := may_tri X hd l hl
  (repeat (first | refine Run.adm rfl ?_ | refine Run.seq ?_ | ((first | apply Run.opS rfl | apply Run.condS); (· (simp -implicitDefEqProofs; first | exact ⟨rfl, rfl⟩ | exact rfl)))))
  refine Run.opC rfl rfl rfl hmy ?_
  rintro v h' ⟨rfl, rfl⟩
  cases hok : l.all mayN with
  | false =>
    (repeat (first | refine Run.adm rfl ?_ | refine Run.seq ?_ | ((first | apply Run.opS rfl | apply Run.condS); (· (simp -implicitDefEqProofs; first | exact ⟨rfl, rfl⟩ | exact rfl)))))
    refine Run.retS Tryz.func128 r128_ok trivial (by simp [r128]; rfl) ?_
    refine ⟨by simp [doI], ?_⟩
    simp only [doI, Bool.false_eq_true, if_false]
    exact (set_same hd).symm
  | true =>
    cases off with
    | true =>
      (repeat (first | refine Run.adm rfl ?_ | refine Run.seq ?_ | ((first | apply Run.opS rfl | apply Run.condS); (· (simp -implicitDefEqProofs [hd, setG hd]; first | exact ⟨rfl, rfl⟩ | exact rfl)))))
      refine Run.retS Tryz.func128 r128_ok trivial (by simp [r128]; rfl) ?_
      refine ⟨by simp [doI], by simp [doI]⟩
    | false =>
      by_cases hf0 : fu = 0
      · (repeat (first | refine Run.adm rfl ?_ | refine Run.seq ?_ | ((first | apply Run.opS rfl | apply Run.condS); (· (simp -implicitDefEqProofs [hd, setG hd, hf0]; first | exact ⟨rfl, rfl⟩ | exact rfl)))))
        refine Run.retS Tryz.func128 r128_ok trivial (by simp [r128]; rfl) ?_
        refine ⟨by simp [doI, hf0], by simp [doI, hf0]⟩
      · by_cases hf1 : 0 < fu
        · have hw := wrap_small (n := fu - 1) (by omega) (by omega)
          (repeat (first | refine Run.adm rfl ?_ | refine Run.seq ?_ | ((first | apply Run.opS rfl | apply Run.condS); (· (simp -implicitDefEqProofs [hd, setG hd, hf0, hf1]; first | exact ⟨rfl, rfl⟩ | exact rfl)))))
          refine Run.retS Tryz.func128 r128_ok trivial (by simp [r128]; rfl) ?_
          refine ⟨by simp [doI, hf0, hf1], by simp [doI, hf0, hf1, hw]⟩
        · (repeat (first | refine Run.adm rfl ?_ | refine Run.seq ?_ | ((first | apply Run.opS rfl | apply Run.condS); (· (simp -implicitDefEqProofs [hd, setG hd, hf0, hf1]; first | exact ⟨rfl, rfl⟩ | exact rfl)))))
          refine Run.retS Tryz.func128 r128_ok trivial (by simp [r128]; rfl) ?_
          refine ⟨by simp [doI, hf0, hf1], by simp [doI, hf0, hf1]⟩

end Go.Proofs.YthphkcpbglhabaaGreatDoor
