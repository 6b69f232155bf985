/-
  Layer 07, part F: Keys.
-/
import Derived.Test.YtoopckhogehdmaaSorE
namespace Go.Proofs.Ytoopckhogehdmaa
open Sx Go
set_option maxRecDepth 100000
set_option linter.unusedSimpArgs false
set_option linter.unusedVariables false
set_option linter.unnecessarySimpa false
attribute [local simp] boundsC appendG appendO copyV srcC guardB isCall opStep Opd.ev put readAt aBin aUn args0 V.celled V.ones V.one V.cells putAt bounds bound1 elemsOf srcOf appendV fillAt fillEl V.pures V.pure unwind evs ARes.ev mkRes V.ren V.renL O.ren eqCells eq1 aEq aMM hasTy hasTyN okTy mmGo Known HLe OLe VsLe.refl VLe.refl VLe.cap Stay VsLe V.frz V.frzL O.frz fr clearV rn KnownR Objs OLeO ObjsE nm back setAll ren_ite take_map_len List.take_of_length_le
attribute [local simp ↓] upd_app tl_cons tl_nil
attribute [local simp] encItI_ren encItI_ones encItI_len encItI_take

def encS (s : Bs) : List V := [.str s]
theorem encS_ren (ρ) (s : Bs) : V.renL ρ (encS s) = encS s := rfl
theorem encS_ones (s) : V.ones (encS s) = true := rfl
theorem encS_len (s) : (encS s).length = 1 := rfl
theorem encS_take (s) : (encS s).take 1 = encS s := rfl
attribute [local simp] encS_ren encS_ones encS_len encS_take

def cellK (k : Nat) : List Bs → V
  | [] => .nils
  | o => .sl k 0 o.length 1 none
def tailK : List Bs → O
  | [] => .gone
  | o => .arr (o.map encS) 1
theorem cellK_app (k : Nat) (o : List Bs) (e : Bs) : cellK k (o ++ [e]) = .sl k 0 (o.length + 1) 1 none := by cases o <;> simp [cellK]
theorem tailK_app (o : List Bs) (e : Bs) : tailK (o ++ [e]) = .arr ((o ++ [e]).map encS) 1 := by cases o <;> simp [tailK]
theorem cellK_cases (k : Nat) (o : List Bs) : (o = [] ∧ cellK k o = .nils ∧ tailK o = .gone) ∨ (cellK k o = .sl k 0 o.length 1 none ∧ tailK o = .arr (o.map encS) 1) := by
  cases o with
  | nil => exact .inl ⟨rfl, rfl, rfl⟩
  | cons => exact .inr ⟨rfl, rfl⟩

def keysM (l : List (Bs × Int)) (key : Bs) (most : Int) : List Bs := if most < 1 then [] else ((l.drop (lowB l key)).map (·.1)).take most.toNat
theorem foldl_keys : ∀ (L : List (Bs × Int)) (o : List Bs), L.foldl (fun o x => o ++ [x.1]) o = o ++ L.map (·.1)
  | [], o => by simp
  | x :: L, o => by rw [List.foldl_cons, foldl_keys L]; simp

theorem keys_tri (l : List (Bs × Int)) (hl : l.length ≤ 100000) (hr : RiseK l) (key : Bs) (most : Int) : Tri Try.prog 13 [.ptr 0 0, .str key, .int .i64 most] (mapHi l) (fun v H => v = .vs ((keysM l key most).map encS) 1 ∧ H = mapHi l) := by
  refine Tri.of_run' Try.func13 rfl c13_ok (by simp [Try.ntmps13]) ?_
  unfold mapHi
  by_cases hm : most < 1
  · (repeat (first | refine Run.seq ?_ | refine Run.reg ?_ | refine Run.skip ?_ | refine Run.block ?_ | refine Run.endB ?_ | refine Run.opE rfl ?_ | (apply Run.op0 rfl; (· (simp -implicitDefEqProofs [hm]; exact ⟨rfl, rfl⟩))) | (apply Run.opA rfl; (· (simp -implicitDefEqProofs [hm]; done)); (· (simp -implicitDefEqProofs [hm]; exact ⟨rfl, rfl⟩))) | (apply Run.opN rfl; (· (simp -implicitDefEqProofs [hm]; done))) | (refine Run.condT ?_ ?_; (· (simp -implicitDefEqProofs [hm]; done))) | (refine Run.condF ?_ ?_; (· (simp -implicitDefEqProofs [hm]; done))) | refine Run.exit rfl ?_))
    refine Run.mv [0, 1] [(6, .vs [] 1)] [.row [.bool true, .sl 1 0 l.length 2 none], .arr (l.map encItI) 2] (by rfl) (by decide) (by simp -implicitDefEqProofs [VLe.nils]) (by simp -implicitDefEqProofs [VLe.nils]) ?_
    refine Run.retI Try.func13 r13_ok trivial (by simp -implicitDefEqProofs [r13]; rfl) (by simp ) ?_ (by simp -implicitDefEqProofs ) (by simp -implicitDefEqProofs )
    simp [keysM, hm]
  · (repeat (first | refine Run.seq ?_ | refine Run.reg ?_ | refine Run.skip ?_ | refine Run.block ?_ | refine Run.endB ?_ | refine Run.opE rfl ?_ | (apply Run.op0 rfl; (· (simp -implicitDefEqProofs [hm]; exact ⟨rfl, rfl⟩))) | (apply Run.opA rfl; (· (simp -implicitDefEqProofs [hm]; done)); (· (simp -implicitDefEqProofs [hm]; exact ⟨rfl, rfl⟩))) | (apply Run.opN rfl; (· (simp -implicitDefEqProofs [hm]; done))) | (refine Run.condT ?_ ?_; (· (simp -implicitDefEqProofs [hm]; done))) | (refine Run.condF ?_ ?_; (· (simp -implicitDefEqProofs [hm]; done))) | refine Run.exit rfl ?_))
    refine Run.opF [0, 1] (from_tri l key) rfl (by simp -implicitDefEqProofs [mapHi]) rfl (by simp -implicitDefEqProofs [mapHi]) (by decide) (by rfl) (by simp -implicitDefEqProofs [mapHi]) ?_
    rintro v0 Hs' ⟨rfl, rfl⟩
    (repeat (first | refine Run.seq ?_ | refine Run.reg ?_ | refine Run.skip ?_ | refine Run.block ?_ | refine Run.endB ?_ | refine Run.opE rfl ?_ | (apply Run.op0 rfl; (· (simp -implicitDefEqProofs; exact ⟨rfl, rfl⟩))) | (apply Run.opA rfl; (· (simp -implicitDefEqProofs; done)); (· (simp -implicitDefEqProofs; exact ⟨rfl, rfl⟩))) | (apply Run.opN rfl; (· (simp -implicitDefEqProofs; done))) | (refine Run.condT ?_ ?_; (· (simp -implicitDefEqProofs; done))) | (refine Run.condF ?_ ?_; (· (simp -implicitDefEqProofs; done))) | refine Run.exit rfl ?_))
    refine Run.goneR ?_
    refine Run.mv [0, 1, 2, 3, 6, 4, 5] [(5, .ptr 2 0), (7, .ptr 3 0), (13, .fn 28 [.ptr 5 0, .ptr 6 0])] [.row [.bool true, .sl 1 0 l.length 2 none], .arr (l.map encItI) 2, .row [.int .i64 most], .row [.nils], .gone, .row [.ptr 0 0], .row [.str key]] (by rfl) (by decide) (by simp -implicitDefEqProofs [mapHi]) (by simp -implicitDefEqProofs [mapHi]) ?_
    obtain ⟨N, hN⟩ : ∃ N : Nat, most = N := ⟨most.toNat, by omega⟩
    subst hN
    refine Run.rangeF [(5, .ptr 2 0), (7, .ptr 3 0)] rfl (f := 28) (caps := [.ptr 5 0, .ptr 6 0]) (by simp) (by simp) ?_
    intro L hL
    refine ⟨_, from1_tri l hl hr key L [(5, .ptr 2 0), (7, .ptr 3 0)] (σ := List Bs) (.row [.int .i64 N]) (fun o => .row [cellK 8 o]) (fun _ => .gone) (fun o => .row [cellK 10 o]) (fun _ => .gone) tailK (fun _ => .gone) [] rfl rfl
      (fun o => by cases o <;> simp [fromH, cellK, tailK]) (fun o => by cases o <;> simp [fromH, fromR, cellK, tailK]) (fun o => by cases o <;> simp [fromH, cellK, tailK])
      (fun o x => o ++ [x.1]) (fun o => o.length < N) (fun o _ => decide (o.length + 1 = N))
      (fun o x H => H = [.row [.bool true, .sl 1 0 l.length 2 none], .arr (l.map encItI) 2, .row [.int .i64 N], .row [.sl 10 0 (o.length + 1) 1 none], .gone, .row [.ptr 0 0], .row [.str key], .loop L [(5, .ptr 2 0), (7, .ptr 3 0)] (.done (.exit 0)), .gone, .gone, .arr ((o ++ [x.1]).map encS) 1, .gone])
      (fun o x H hH => by subst hH; exact ⟨by simp, by simp⟩) (by simp; omega) (fun o x hpre hI => ?_), ?_⟩
    · refine TriY.of_run hL rfl rfl ?_
      unfold fromH
      have hob : o.length ≤ 100000 := by
        obtain ⟨p, hp, rfl⟩ := hpre
        rw [foldl_keys]; simp; omega
      have hbb : (o.length + 1) * 16 ≤ 70368744177664 := by omega
      by_cases hst : o.length + 1 = N
      · have hst' : (o.length : Int) + 1 = N := by omega
        rcases cellK_cases 8 o with ⟨rfl, hcv, hto⟩ | ⟨hcv, hto⟩
        · rw [hcv, hto]
          obtain rfl : N = 1 := by simpa using hst.symm
          (repeat (first | refine Run.seq ?_ | refine Run.reg ?_ | refine Run.skip ?_ | refine Run.block ?_ | refine Run.endB ?_ | refine Run.opE rfl ?_ | (apply Run.op0 rfl; (· (simp -implicitDefEqProofs [setPs]; exact ⟨rfl, rfl⟩))) | (apply Run.opA rfl; (· (simp -implicitDefEqProofs [setPs]; done)); (· (simp -implicitDefEqProofs [setPs]; exact ⟨rfl, rfl⟩))) | (apply Run.opN rfl; (· (simp -implicitDefEqProofs [setPs]; done))) | (refine Run.condT ?_ ?_; (· (simp -implicitDefEqProofs [setPs]; done))) | (refine Run.condF ?_ ?_; (· (simp -implicitDefEqProofs [setPs]; done))) | refine Run.exit rfl ?_))
          refine Run.beginR (f := 13) (id := 7) (by rfl) (by rfl) ?_
          (repeat (first | refine Run.seq ?_ | refine Run.reg ?_ | refine Run.skip ?_ | refine Run.block ?_ | refine Run.endB ?_ | refine Run.opE rfl ?_ | (apply Run.op0 rfl; (· (simp -implicitDefEqProofs [setPs, encS]; exact ⟨rfl, rfl⟩))) | (apply Run.opA rfl; (· (simp -implicitDefEqProofs [setPs, encS]; done)); (· (simp -implicitDefEqProofs [setPs, encS]; exact ⟨rfl, rfl⟩))) | (apply Run.opN rfl; (· (simp -implicitDefEqProofs [setPs, encS]; done))) | (refine Run.condT ?_ ?_; (· (simp -implicitDefEqProofs [setPs, encS]; done))) | (refine Run.condF ?_ ?_; (· (simp -implicitDefEqProofs [setPs, encS]; done))) | refine Run.exit rfl ?_))
          refine Run.mv [0, 1, 2, 3, 4, 5, 6, 7, 8, 9, 11, 10] [] [.row [.bool true, .sl 1 0 l.length 2 none], .arr (l.map encItI) 2, .row [.int .i64 ((1 : Nat) : Int)], .row [.sl 10 0 (([] : List Bs).length + 1) 1 none], .gone, .row [.ptr 0 0], .row [.str key], .loop L [(5, .ptr 2 0), (7, .ptr 3 0)] .busy, .gone, .gone, .arr ((([] : List Bs) ++ [x.1]).map encS) 1, .gone] (by rfl) (by decide) (by simp -implicitDefEqProofs [encS]) (by simp -implicitDefEqProofs [encS]) ?_
          refine Run.roundEnd (f := 13) (id := 7) (j := some (.exit 0)) rfl rfl rfl (fr 12) (h' := [.row [.bool true, .sl 1 0 l.length 2 none], .arr (l.map encItI) 2, .row [.int .i64 ((1 : Nat) : Int)], .row [.sl 10 0 (([] : List Bs).length + 1) 1 none], .gone, .row [.ptr 0 0], .row [.str key], .loop L [(5, .ptr 2 0), (7, .ptr 3 0)] (.done (.exit 0)), .gone, .gone, .arr ((([] : List Bs) ++ [x.1]).map encS) 1, .gone]) (namesI (n := 10) (h := [.row [.bool true, .sl 1 0 l.length 2 none], .arr (l.map encItI) 2, .row [.int .i64 ((1 : Nat) : Int)], .row [.sl 10 0 (([] : List Bs).length + 1) 1 none], .gone, .row [.ptr 0 0], .row [.str key], .loop L [(5, .ptr 2 0), (7, .ptr 3 0)] (.done (.exit 0)), .gone, .gone, .arr ((([] : List Bs) ++ [x.1]).map encS) 1, .gone]) (by simp) (by simp)) ?_
          exact .inr ⟨by simpa using hst, rfl, rfl⟩
        · rw [hcv, hto]
          (repeat (first | refine Run.seq ?_ | refine Run.reg ?_ | refine Run.skip ?_ | refine Run.block ?_ | refine Run.endB ?_ | refine Run.opE rfl ?_ | (apply Run.op0 rfl; (· (simp -implicitDefEqProofs [setPs]; exact ⟨rfl, rfl⟩))) | (apply Run.opA rfl; (· (simp -implicitDefEqProofs [setPs]; done)); (· (simp -implicitDefEqProofs [setPs]; exact ⟨rfl, rfl⟩))) | (apply Run.opN rfl; (· (simp -implicitDefEqProofs [setPs]; done))) | (refine Run.condT ?_ ?_; (· (simp -implicitDefEqProofs [setPs]; done))) | (refine Run.condF ?_ ?_; (· (simp -implicitDefEqProofs [setPs]; done))) | refine Run.exit rfl ?_))
          refine Run.beginR (f := 13) (id := 7) (by rfl) (by rfl) ?_
          (repeat (first | refine Run.seq ?_ | refine Run.reg ?_ | refine Run.skip ?_ | refine Run.block ?_ | refine Run.endB ?_ | refine Run.opE rfl ?_ | (apply Run.op0 rfl; (· (simp -implicitDefEqProofs [setPs, encS, hbb, hst']; exact ⟨rfl, rfl⟩))) | (apply Run.opA rfl; (· (simp -implicitDefEqProofs [setPs, encS, hbb, hst']; done)); (· (simp -implicitDefEqProofs [setPs, encS, hbb, hst']; exact ⟨rfl, rfl⟩))) | (apply Run.opN rfl; (· (simp -implicitDefEqProofs [setPs, encS, hbb, hst']; done))) | (refine Run.condT ?_ ?_; (· (simp -implicitDefEqProofs [setPs, encS, hbb, hst']; done))) | (refine Run.condF ?_ ?_; (· (simp -implicitDefEqProofs [setPs, encS, hbb, hst']; done))) | refine Run.exit rfl ?_))
          refine Run.mv [0, 1, 2, 3, 4, 5, 6, 7, 8, 9, 11, 10] [] [.row [.bool true, .sl 1 0 l.length 2 none], .arr (l.map encItI) 2, .row [.int .i64 N], .row [.sl 10 0 (o.length + 1) 1 none], .gone, .row [.ptr 0 0], .row [.str key], .loop L [(5, .ptr 2 0), (7, .ptr 3 0)] .busy, .gone, .gone, .arr ((o ++ [x.1]).map encS) 1, .gone] (by rfl) (by decide) (by simp -implicitDefEqProofs [encS]) (by simp -implicitDefEqProofs [encS]) ?_
          refine Run.roundEnd (f := 13) (id := 7) (j := some (.exit 0)) rfl rfl rfl (fr 12) (h' := [.row [.bool true, .sl 1 0 l.length 2 none], .arr (l.map encItI) 2, .row [.int .i64 N], .row [.sl 10 0 (o.length + 1) 1 none], .gone, .row [.ptr 0 0], .row [.str key], .loop L [(5, .ptr 2 0), (7, .ptr 3 0)] (.done (.exit 0)), .gone, .gone, .arr ((o ++ [x.1]).map encS) 1, .gone]) (namesI (n := 10) (h := [.row [.bool true, .sl 1 0 l.length 2 none], .arr (l.map encItI) 2, .row [.int .i64 N], .row [.sl 10 0 (o.length + 1) 1 none], .gone, .row [.ptr 0 0], .row [.str key], .loop L [(5, .ptr 2 0), (7, .ptr 3 0)] (.done (.exit 0)), .gone, .gone, .arr ((o ++ [x.1]).map encS) 1, .gone]) (by simp) (by simp)) ?_
          exact .inr ⟨by simpa using hst, rfl, rfl⟩
      · have hst' : ¬ (o.length : Int) + 1 = N := by omega
        rcases cellK_cases 8 o with ⟨rfl, hcv, hto⟩ | ⟨hcv, hto⟩
        · rw [hcv, hto]
          have hst2 : ¬ (1 : Int) = N := by simpa using hst'
          have hst3 : ¬ 1 = N := by simpa using hst
          (repeat (first | refine Run.seq ?_ | refine Run.reg ?_ | refine Run.skip ?_ | refine Run.block ?_ | refine Run.endB ?_ | refine Run.opE rfl ?_ | (apply Run.op0 rfl; (· (simp -implicitDefEqProofs [setPs]; exact ⟨rfl, rfl⟩))) | (apply Run.opA rfl; (· (simp -implicitDefEqProofs [setPs]; done)); (· (simp -implicitDefEqProofs [setPs]; exact ⟨rfl, rfl⟩))) | (apply Run.opN rfl; (· (simp -implicitDefEqProofs [setPs]; done))) | (refine Run.condT ?_ ?_; (· (simp -implicitDefEqProofs [setPs]; done))) | (refine Run.condF ?_ ?_; (· (simp -implicitDefEqProofs [setPs]; done))) | refine Run.exit rfl ?_))
          refine Run.beginR (f := 13) (id := 7) (by rfl) (by rfl) ?_
          (repeat (first | refine Run.seq ?_ | refine Run.reg ?_ | refine Run.skip ?_ | refine Run.block ?_ | refine Run.endB ?_ | refine Run.opE rfl ?_ | (apply Run.op0 rfl; (· (simp -implicitDefEqProofs [setPs, encS, hst2, hst3]; exact ⟨rfl, rfl⟩))) | (apply Run.opA rfl; (· (simp -implicitDefEqProofs [setPs, encS, hst2, hst3]; done)); (· (simp -implicitDefEqProofs [setPs, encS, hst2, hst3]; exact ⟨rfl, rfl⟩))) | (apply Run.opN rfl; (· (simp -implicitDefEqProofs [setPs, encS, hst2, hst3]; done))) | (refine Run.condT ?_ ?_; (· (simp -implicitDefEqProofs [setPs, encS, hst2, hst3]; done))) | (refine Run.condF ?_ ?_; (· (simp -implicitDefEqProofs [setPs, encS, hst2, hst3]; done))) | refine Run.exit rfl ?_))
          refine Run.mv [0, 1, 2, 3, 4, 5, 6, 7, 8, 9, 11, 10] [] [.row [.bool true, .sl 1 0 l.length 2 none], .arr (l.map encItI) 2, .row [.int .i64 N], .row [.sl 10 0 (([] : List Bs).length + 1) 1 none], .gone, .row [.ptr 0 0], .row [.str key], .loop L [(5, .ptr 2 0), (7, .ptr 3 0)] .busy, .gone, .gone, .arr ((([] : List Bs) ++ [x.1]).map encS) 1, .gone] (by rfl) (by decide) (by simp -implicitDefEqProofs [encS]) (by simp -implicitDefEqProofs [encS]) ?_
          refine Run.roundEnd (f := 13) (id := 7) (j := none) rfl rfl rfl (fr 12) (h' := [.row [.bool true, .sl 1 0 l.length 2 none], .arr (l.map encItI) 2, .row [.int .i64 N], .row [.sl 10 0 (([] : List Bs).length + 1) 1 none], .gone, .row [.ptr 0 0], .row [.str key], .loop L [(5, .ptr 2 0), (7, .ptr 3 0)] .ready, .gone, .gone, .arr ((([] : List Bs) ++ [x.1]).map encS) 1, .gone]) (namesI (n := 10) (h := [.row [.bool true, .sl 1 0 l.length 2 none], .arr (l.map encItI) 2, .row [.int .i64 N], .row [.sl 10 0 (([] : List Bs).length + 1) 1 none], .gone, .row [.ptr 0 0], .row [.str key], .loop L [(5, .ptr 2 0), (7, .ptr 3 0)] .ready, .gone, .gone, .arr ((([] : List Bs) ++ [x.1]).map encS) 1, .gone]) (by simp) (by simp)) ?_
          exact .inl ⟨by simpa using hst, by simp only [List.length_append, List.length_cons, List.length_nil] at *; omega, rfl, by simp only [cellK_app, tailK_app]; rfl⟩
        · rw [hcv, hto]
          (repeat (first | refine Run.seq ?_ | refine Run.reg ?_ | refine Run.skip ?_ | refine Run.block ?_ | refine Run.endB ?_ | refine Run.opE rfl ?_ | (apply Run.op0 rfl; (· (simp -implicitDefEqProofs [setPs]; exact ⟨rfl, rfl⟩))) | (apply Run.opA rfl; (· (simp -implicitDefEqProofs [setPs]; done)); (· (simp -implicitDefEqProofs [setPs]; exact ⟨rfl, rfl⟩))) | (apply Run.opN rfl; (· (simp -implicitDefEqProofs [setPs]; done))) | (refine Run.condT ?_ ?_; (· (simp -implicitDefEqProofs [setPs]; done))) | (refine Run.condF ?_ ?_; (· (simp -implicitDefEqProofs [setPs]; done))) | refine Run.exit rfl ?_))
          refine Run.beginR (f := 13) (id := 7) (by rfl) (by rfl) ?_
          (repeat (first | refine Run.seq ?_ | refine Run.reg ?_ | refine Run.skip ?_ | refine Run.block ?_ | refine Run.endB ?_ | refine Run.opE rfl ?_ | (apply Run.op0 rfl; (· (simp -implicitDefEqProofs [setPs, encS, hbb, hst']; exact ⟨rfl, rfl⟩))) | (apply Run.opA rfl; (· (simp -implicitDefEqProofs [setPs, encS, hbb, hst']; done)); (· (simp -implicitDefEqProofs [setPs, encS, hbb, hst']; exact ⟨rfl, rfl⟩))) | (apply Run.opN rfl; (· (simp -implicitDefEqProofs [setPs, encS, hbb, hst']; done))) | (refine Run.condT ?_ ?_; (· (simp -implicitDefEqProofs [setPs, encS, hbb, hst']; done))) | (refine Run.condF ?_ ?_; (· (simp -implicitDefEqProofs [setPs, encS, hbb, hst']; done))) | refine Run.exit rfl ?_))
          refine Run.mv [0, 1, 2, 3, 4, 5, 6, 7, 8, 9, 11, 10] [] [.row [.bool true, .sl 1 0 l.length 2 none], .arr (l.map encItI) 2, .row [.int .i64 N], .row [.sl 10 0 (o.length + 1) 1 none], .gone, .row [.ptr 0 0], .row [.str key], .loop L [(5, .ptr 2 0), (7, .ptr 3 0)] .busy, .gone, .gone, .arr ((o ++ [x.1]).map encS) 1, .gone] (by rfl) (by decide) (by simp -implicitDefEqProofs [encS]) (by simp -implicitDefEqProofs [encS]) ?_
          refine Run.roundEnd (f := 13) (id := 7) (j := none) rfl rfl rfl (fr 12) (h' := [.row [.bool true, .sl 1 0 l.length 2 none], .arr (l.map encItI) 2, .row [.int .i64 N], .row [.sl 10 0 (o.length + 1) 1 none], .gone, .row [.ptr 0 0], .row [.str key], .loop L [(5, .ptr 2 0), (7, .ptr 3 0)] .ready, .gone, .gone, .arr ((o ++ [x.1]).map encS) 1, .gone]) (namesI (n := 10) (h := [.row [.bool true, .sl 1 0 l.length 2 none], .arr (l.map encItI) 2, .row [.int .i64 N], .row [.sl 10 0 (o.length + 1) 1 none], .gone, .row [.ptr 0 0], .row [.str key], .loop L [(5, .ptr 2 0), (7, .ptr 3 0)] .ready, .gone, .gone, .arr ((o ++ [x.1]).map encS) 1, .gone]) (by simp) (by simp)) ?_
          exact .inl ⟨by simpa using hst, by simp only [List.length_append, List.length_cons, List.length_nil] at *; omega, rfl, by simp only [cellK_app, tailK_app]; rfl⟩
    · rintro v H' ⟨rfl, hcase⟩
      rcases hcase with ⟨s, hs, hI, rfl⟩ | ⟨o, x, r, hgo, hI, hst, rfl⟩
      · have hk : s = keysM l key N := by
          rw [keysM, if_neg hm, hs, foldl_keys, List.nil_append, List.take_of_length_le]
          rw [hs, foldl_keys] at hI
          simp at hI ⊢; omega
        refine ⟨_, _, _, rfl, by simp [fromH], ?_⟩
        intro ds
        rw [← hk]
        simp only [fromH, List.length_cons, List.length_nil, List.set_cons_succ, List.set_cons_zero]
        clear hs hk
        rcases cellK_cases 8 s with ⟨rfl, hcv, hto⟩ | ⟨hcv, hto⟩
        · rw [hcv, hto]
          (repeat (first | refine Run.seq ?_ | refine Run.reg ?_ | refine Run.skip ?_ | refine Run.block ?_ | refine Run.endB ?_ | refine Run.opE rfl ?_ | (apply Run.op0 rfl; (· (simp -implicitDefEqProofs; exact ⟨rfl, rfl⟩))) | (apply Run.opA rfl; (· (simp -implicitDefEqProofs; done)); (· (simp -implicitDefEqProofs; exact ⟨rfl, rfl⟩))) | (apply Run.opN rfl; (· (simp -implicitDefEqProofs; done))) | (refine Run.condT ?_ ?_; (· (simp -implicitDefEqProofs; done))) | (refine Run.condF ?_ ?_; (· (simp -implicitDefEqProofs; done))) | refine Run.exit rfl ?_))
          refine Run.mv [0, 1, 2, 3, 4, 5, 6, 7, 8, 9] [(6, .vs [] 1)] [.row [.bool true, .sl 1 0 l.length 2 none], .arr (l.map encItI) 2, .gone, .gone, .gone, .gone, .gone, .gone, .gone, .gone] (by rfl) (by decide) (by simp -implicitDefEqProofs [VLe.nils]) (by simp -implicitDefEqProofs [VLe.nils]) ?_
          refine Run.retI Try.func13 r13_ok trivial (by simp [r13]; rfl) (by simp) ?_ (by simp) (by simp)
          exact ⟨_, _, _, Names.front (n := 2) (by simp) (by simp [fr]), rfl, rfl, rfl⟩
        · rw [hcv, hto]
          (repeat (first | refine Run.seq ?_ | refine Run.reg ?_ | refine Run.skip ?_ | refine Run.block ?_ | refine Run.endB ?_ | refine Run.opE rfl ?_ | (apply Run.op0 rfl; (· (simp -implicitDefEqProofs; exact ⟨rfl, rfl⟩))) | (apply Run.opA rfl; (· (simp -implicitDefEqProofs; done)); (· (simp -implicitDefEqProofs; exact ⟨rfl, rfl⟩))) | (apply Run.opN rfl; (· (simp -implicitDefEqProofs; done))) | (refine Run.condT ?_ ?_; (· (simp -implicitDefEqProofs; done))) | (refine Run.condF ?_ ?_; (· (simp -implicitDefEqProofs; done))) | refine Run.exit rfl ?_))
          refine Run.freeze 8 (es := s.map encS) (sz := 1) (by simp) ?_
          refine Run.mv [0, 1, 2, 3, 4, 5, 6, 7, 8, 9] [(6, .vs (s.map encS) 1)] [.row [.bool true, .sl 1 0 l.length 2 none], .arr (l.map encItI) 2, .gone, .gone, .gone, .gone, .gone, .gone, .gone, .gone] (by rfl) (by decide) (by simp -implicitDefEqProofs) (by simp -implicitDefEqProofs) ?_
          refine Run.retI Try.func13 r13_ok trivial (by simp [r13]; rfl) (by simp) ?_ (by simp) (by simp)
          exact ⟨_, _, _, Names.front (n := 2) (by simp) (by simp [fr]), rfl, rfl, rfl⟩
      · rw [foldl_keys, List.nil_append] at *
        have hst' : o.length + 1 = N := by simpa using hst
        have hk : o.map (·.1) ++ [x.1] = keysM l key N := by
          rw [keysM, if_neg hm, hgo, List.map_append, List.map_cons]
          rw [show ((N : Int)).toNat = (o.map (·.1)).length + 1 by simp; omega, List.take_append, List.take_of_length_le (by omega)]
          simp
        refine ⟨_, _, _, rfl, by simp, ⟨.exit 0, rfl, fun ds => ?_⟩⟩
        rw [← hk]
        simp only [List.length_cons, List.length_nil, List.set_cons_succ, List.set_cons_zero]
        have hgl : (o.map (·.1)).length + 1 = (o.map (·.1) ++ [x.1]).length := by simp
        rw [hgl]
        generalize o.map (·.1) ++ [x.1] = s
        (repeat (first | refine Run.seq ?_ | refine Run.reg ?_ | refine Run.skip ?_ | refine Run.block ?_ | refine Run.endB ?_ | refine Run.opE rfl ?_ | (apply Run.op0 rfl; (· (simp -implicitDefEqProofs; exact ⟨rfl, rfl⟩))) | (apply Run.opA rfl; (· (simp -implicitDefEqProofs; done)); (· (simp -implicitDefEqProofs; exact ⟨rfl, rfl⟩))) | (apply Run.opN rfl; (· (simp -implicitDefEqProofs; done))) | (refine Run.condT ?_ ?_; (· (simp -implicitDefEqProofs; done))) | (refine Run.condF ?_ ?_; (· (simp -implicitDefEqProofs; done))) | refine Run.exit rfl ?_))
        refine Run.freeze 10 (es := s.map encS) (sz := 1) (by simp) ?_
        refine Run.mv [0, 1, 2, 3, 4, 5, 6, 7, 8, 9, 10, 11] [(6, .vs (s.map encS) 1)] [.row [.bool true, .sl 1 0 l.length 2 none], .arr (l.map encItI) 2, .gone, .gone, .gone, .gone, .gone, .gone, .gone, .gone, .gone, .gone] (by rfl) (by decide) (by simp -implicitDefEqProofs) (by simp -implicitDefEqProofs) ?_
        refine Run.retI Try.func13 r13_ok trivial (by simp [r13]; rfl) (by simp) ?_ (by simp) (by simp)
        exact ⟨_, _, _, Names.front (n := 2) (by simp) (by simp [fr]), rfl, rfl, rfl⟩

end Go.Proofs.Ytoopckhogehdmaa
