/-
  Layer 07: the law SortedGoes.
-/
import Derived.Test.YtoopckhogehdmaaSorYa
namespace Go.Proofs.Ytoopckhogehdmaa
open Sx Go
set_option maxRecDepth 100000
set_option linter.unusedSimpArgs false
set_option linter.unusedVariables false
set_option linter.unnecessarySimpa false
attribute [local simp] boundsC appendG appendO copyV srcC guardB isCall opStep Opd.ev put readAt aBin aUn args0 V.celled V.ones V.one V.cells putAt bounds bound1 elemsOf srcOf appendV fillAt fillEl V.pures V.pure unwind evs ARes.ev mkRes V.ren V.renL O.ren eqCells eq1 aEq aMM hasTy hasTyN okTy mmGo Known HLe OLe VsLe.refl VLe.refl VLe.cap Stay VsLe V.frz V.frzL O.frz fr clearV rn KnownR Objs OLeO ObjsE nm back setAll ren_ite take_map_len List.take_of_length_le
attribute [local simp ↓] upd_app tl_cons tl_nil
attribute [local simp] encItI_ren encItI_ones encItI_len encItI_take encItS_ren encItS_ones encItS_len encItS_take encS_ren encS_ones encS_len encS_take
attribute [local simp] encI_ren encI_ones encI_len encI_take encK_ren encK_ones encK_len encK_take encW_ren encW_ones encW_len encW_take

def cellP (k : Nat) : KV → V
  | [] => .nils
  | x :: o => .sl k 0 (o.length + 1) 1 none
def tailP : KV → O
  | [] => .gone
  | x :: o => .arr ((x :: o).map encK) 1
def tailQ : KV → O
  | [] => .gone
  | x :: o => .arr ((x :: o).map encW) 1
theorem cellP_app (k : Nat) (o : KV) (e) : cellP k (o ++ [e]) = .sl k 0 (o.length + 1) 1 none := by cases o <;> simp [cellP]
theorem tailP_app (o : KV) (e) : tailP (o ++ [e]) = .arr ((o ++ [e]).map encK) 1 := by cases o <;> simp [tailP]
theorem tailQ_app (o : KV) (e) : tailQ (o ++ [e]) = .arr ((o ++ [e]).map encW) 1 := by cases o <;> simp [tailQ]
theorem cellP_cases (o : KV) : (o = [] ∧ (∀ k, cellP k o = .nils) ∧ tailP o = .gone ∧ tailQ o = .gone) ∨ ((∀ k, cellP k o = .sl k 0 o.length 1 none) ∧ tailP o = .arr (o.map encK) 1 ∧ tailQ o = .arr (o.map encW) 1) := by
  cases o with
  | nil => exact .inl ⟨rfl, fun _ => rfl, rfl, rfl⟩
  | cons => exact .inr ⟨fun _ => rfl, rfl, rfl⟩
theorem foldl_all : ∀ (L o : KV), L.foldl (fun o x => o ++ [x]) o = o ++ L
  | [], o => by simp
  | x :: L, o => by rw [List.foldl_cons, foldl_all L]; simp

theorem and255 (n : Int) : ∃ k : Nat, iAnd .i64 n 255 = (k : Int) ∧ k < 256 := by
  rw [iAnd64, BitVec.toNat_and, show (BitVec.ofInt 64 255).toNat = 2 ^ 8 - 1 from rfl, Nat.and_two_pow_sub_one_eq_mod]
  exact ⟨(BitVec.ofInt 64 n).toNat % 2 ^ 8, wrap_small (by omega) (by omega), by omega⟩

theorem goes_law (ks : List Bs) (key : Bs) (leave : Int) : Tri Try.prog 3 [.vs (ks.map encS) 1, .str key, .int .i64 leave] [] (fun v H => v = .bool true ∧ H = []) := by
  refine Tri.of_run' Try.func3 rfl c3_ok (by simp [Try.ntmps3]) ?_
  have hend : ∀ {k t h}, AtEnd k → t 6 = .bool true → Run ⟨Try.prog, 3, Try.f3.ntmps, [], fun v H => v = .bool true ∧ H = []⟩ ⟨k, t, h⟩ := by
    intro k t h hk h6
    refine Run.mv [] [(6, .bool true)] [] (by rfl) (by decide) (by simp [h6]) (by simp) ?_
    refine Run.ret0 rfl Try.func3 r3_ok hk (by simp [r3]; rfl) ?_ (by simp)
    simp
  (repeat (first | refine Run.seq ?_ | refine Run.reg ?_ | refine Run.skip ?_ | refine Run.block ?_ | refine Run.endB ?_ | refine Run.opE rfl ?_ | (apply Run.op0 rfl; (· (simp -implicitDefEqProofs; exact ⟨rfl, rfl⟩))) | (apply Run.opA rfl; (· (simp -implicitDefEqProofs; done)); (· (simp -implicitDefEqProofs; exact ⟨rfl, rfl⟩))) | (apply Run.opN rfl; (· (simp -implicitDefEqProofs; done))) | (refine Run.condT ?_ ?_; (· (simp -implicitDefEqProofs; done))) | (refine Run.condF ?_ ?_; (· (simp -implicitDefEqProofs; done))) | refine Run.exit rfl ?_))
  refine Run.opC rfl rfl rfl (awake_at _) ?_
  rintro v h' ⟨rfl, rfl⟩
  by_cases hbig : 100 < ks.length ∨ 512 < key.length
  · by_cases h1 : 100 < ks.length
    · have h1' : (100 : Int) < ks.length := by omega
      (repeat (first | refine Run.seq ?_ | refine Run.reg ?_ | refine Run.skip ?_ | refine Run.block ?_ | refine Run.endB ?_ | refine Run.opE rfl ?_ | (apply Run.op0 rfl; (· (simp -implicitDefEqProofs [h1, h1']; exact ⟨rfl, rfl⟩))) | (apply Run.opA rfl; (· (simp -implicitDefEqProofs [h1, h1']; done)); (· (simp -implicitDefEqProofs [h1, h1']; exact ⟨rfl, rfl⟩))) | (apply Run.opN rfl; (· (simp -implicitDefEqProofs [h1, h1']; done))) | (refine Run.condT ?_ ?_; (· (simp -implicitDefEqProofs [h1, h1']; done))) | (refine Run.condF ?_ ?_; (· (simp -implicitDefEqProofs [h1, h1']; done))) | refine Run.exit rfl ?_))
      refine Run.opC rfl rfl rfl (awake_at _) ?_
      rintro v h' ⟨rfl, rfl⟩
      (repeat (first | refine Run.seq ?_ | refine Run.reg ?_ | refine Run.skip ?_ | refine Run.block ?_ | refine Run.endB ?_ | refine Run.opE rfl ?_ | (apply Run.op0 rfl; (· (simp -implicitDefEqProofs; exact ⟨rfl, rfl⟩))) | (apply Run.opA rfl; (· (simp -implicitDefEqProofs; done)); (· (simp -implicitDefEqProofs; exact ⟨rfl, rfl⟩))) | (apply Run.opN rfl; (· (simp -implicitDefEqProofs; done))) | (refine Run.condT ?_ ?_; (· (simp -implicitDefEqProofs; done))) | (refine Run.condF ?_ ?_; (· (simp -implicitDefEqProofs; done))) | refine Run.exit rfl ?_))
      exact hend trivial (by simp)
    · have h1' : ¬ (100 : Int) < ks.length := by omega
      have h2 : 512 < key.length := by omega
      have h2' : (512 : Int) < key.length := by omega
      (repeat (first | refine Run.seq ?_ | refine Run.reg ?_ | refine Run.skip ?_ | refine Run.block ?_ | refine Run.endB ?_ | refine Run.opE rfl ?_ | (apply Run.op0 rfl; (· (simp -implicitDefEqProofs [h1, h1', h2, h2']; exact ⟨rfl, rfl⟩))) | (apply Run.opA rfl; (· (simp -implicitDefEqProofs [h1, h1', h2, h2']; done)); (· (simp -implicitDefEqProofs [h1, h1', h2, h2']; exact ⟨rfl, rfl⟩))) | (apply Run.opN rfl; (· (simp -implicitDefEqProofs [h1, h1', h2, h2']; done))) | (refine Run.condT ?_ ?_; (· (simp -implicitDefEqProofs [h1, h1', h2, h2']; done))) | (refine Run.condF ?_ ?_; (· (simp -implicitDefEqProofs [h1, h1', h2, h2']; done))) | refine Run.exit rfl ?_))
      refine Run.opC rfl rfl rfl (awake_at _) ?_
      rintro v h' ⟨rfl, rfl⟩
      (repeat (first | refine Run.seq ?_ | refine Run.reg ?_ | refine Run.skip ?_ | refine Run.block ?_ | refine Run.endB ?_ | refine Run.opE rfl ?_ | (apply Run.op0 rfl; (· (simp -implicitDefEqProofs; exact ⟨rfl, rfl⟩))) | (apply Run.opA rfl; (· (simp -implicitDefEqProofs; done)); (· (simp -implicitDefEqProofs; exact ⟨rfl, rfl⟩))) | (apply Run.opN rfl; (· (simp -implicitDefEqProofs; done))) | (refine Run.condT ?_ ?_; (· (simp -implicitDefEqProofs; done))) | (refine Run.condF ?_ ?_; (· (simp -implicitDefEqProofs; done))) | refine Run.exit rfl ?_))
      exact hend trivial (by simp)
  have h1 : ¬ 100 < ks.length := by omega
  have h2 : ¬ 512 < key.length := by omega
  have h1' : ¬ (100 : Int) < ks.length := by omega
  have h2' : ¬ (512 : Int) < key.length := by omega
  (repeat (first | refine Run.seq ?_ | refine Run.reg ?_ | refine Run.skip ?_ | refine Run.block ?_ | refine Run.endB ?_ | refine Run.opE rfl ?_ | (apply Run.op0 rfl; (· (simp -implicitDefEqProofs [h1, h1', h2, h2']; exact ⟨rfl, rfl⟩))) | (apply Run.opA rfl; (· (simp -implicitDefEqProofs [h1, h1', h2, h2']; done)); (· (simp -implicitDefEqProofs [h1, h1', h2, h2']; exact ⟨rfl, rfl⟩))) | (apply Run.opN rfl; (· (simp -implicitDefEqProofs [h1, h1', h2, h2']; done))) | (refine Run.condT ?_ ?_; (· (simp -implicitDefEqProofs [h1, h1', h2, h2']; done))) | (refine Run.condF ?_ ?_; (· (simp -implicitDefEqProofs [h1, h1', h2, h2']; done))) | refine Run.exit rfl ?_))
  refine Run.loopC [] (fun (i : Nat) => ([(0, .vs (ks.map encS) 1), (1, .str key), (2, .int .i64 leave), (7, .int .i64 i)], [])) (fun i => i ≤ ks.length) (fun i => ks.length - i) 0 (by simp) (by rfl) (by decide) (by simp) (by simp) ?_
  intro i hi ih
  by_cases hlt : i < ks.length
  · obtain ⟨x, hx, hxi, -, -⟩ := getL hlt
    have hw := wrap_small (n := (i : Int) + 1) (by omega) (by omega)
    by_cases hxl : 512 < x.length
    · have hxl' : (512 : Int) < x.length := by omega
      (repeat (first | refine Run.seq ?_ | refine Run.reg ?_ | refine Run.skip ?_ | refine Run.block ?_ | refine Run.endB ?_ | refine Run.opE rfl ?_ | (apply Run.op0 rfl; (· (simp -implicitDefEqProofs [hlt, hx, hxi, encS, hxl, hxl']; exact ⟨rfl, rfl⟩))) | (apply Run.opA rfl; (· (simp -implicitDefEqProofs [hlt, hx, hxi, encS, hxl, hxl']; done)); (· (simp -implicitDefEqProofs [hlt, hx, hxi, encS, hxl, hxl']; exact ⟨rfl, rfl⟩))) | (apply Run.opN rfl; (· (simp -implicitDefEqProofs [hlt, hx, hxi, encS, hxl, hxl']; done))) | (refine Run.condT ?_ ?_; (· (simp -implicitDefEqProofs [hlt, hx, hxi, encS, hxl, hxl']; done))) | (refine Run.condF ?_ ?_; (· (simp -implicitDefEqProofs [hlt, hx, hxi, encS, hxl, hxl']; done))) | refine Run.exit rfl ?_))
      refine Run.opC rfl rfl rfl (awake_at _) ?_
      rintro v h' ⟨rfl, rfl⟩
      (repeat (first | refine Run.seq ?_ | refine Run.reg ?_ | refine Run.skip ?_ | refine Run.block ?_ | refine Run.endB ?_ | refine Run.opE rfl ?_ | (apply Run.op0 rfl; (· (simp -implicitDefEqProofs; exact ⟨rfl, rfl⟩))) | (apply Run.opA rfl; (· (simp -implicitDefEqProofs; done)); (· (simp -implicitDefEqProofs; exact ⟨rfl, rfl⟩))) | (apply Run.opN rfl; (· (simp -implicitDefEqProofs; done))) | (refine Run.condT ?_ ?_; (· (simp -implicitDefEqProofs; done))) | (refine Run.condF ?_ ?_; (· (simp -implicitDefEqProofs; done))) | refine Run.exit rfl ?_))
      exact hend trivial (by simp)
    · have hxl' : ¬ (512 : Int) < x.length := by omega
      (repeat (first | refine Run.seq ?_ | refine Run.reg ?_ | refine Run.skip ?_ | refine Run.block ?_ | refine Run.endB ?_ | refine Run.opE rfl ?_ | (apply Run.op0 rfl; (· (simp -implicitDefEqProofs [hlt, hx, hxi, encS, hxl, hxl']; exact ⟨rfl, rfl⟩))) | (apply Run.opA rfl; (· (simp -implicitDefEqProofs [hlt, hx, hxi, encS, hxl, hxl']; done)); (· (simp -implicitDefEqProofs [hlt, hx, hxi, encS, hxl, hxl']; exact ⟨rfl, rfl⟩))) | (apply Run.opN rfl; (· (simp -implicitDefEqProofs [hlt, hx, hxi, encS, hxl, hxl']; done))) | (refine Run.condT ?_ ?_; (· (simp -implicitDefEqProofs [hlt, hx, hxi, encS, hxl, hxl']; done))) | (refine Run.condF ?_ ?_; (· (simp -implicitDefEqProofs [hlt, hx, hxi, encS, hxl, hxl']; done))) | refine Run.exit rfl ?_))
      refine Run.mv [] _ _ (by rfl) (by decide) (by simp -implicitDefEqProofs [hw]) (by simp -implicitDefEqProofs [hw]) (ih (i + 1) ?_ ?_)
      · omega
      · omega
  have : i = ks.length := by omega
  subst this
  clear ih
  (repeat (first | refine Run.seq ?_ | refine Run.reg ?_ | refine Run.skip ?_ | refine Run.block ?_ | refine Run.endB ?_ | refine Run.opE rfl ?_ | (apply Run.op0 rfl; (· (simp -implicitDefEqProofs; exact ⟨rfl, rfl⟩))) | (apply Run.opA rfl; (· (simp -implicitDefEqProofs; done)); (· (simp -implicitDefEqProofs; exact ⟨rfl, rfl⟩))) | (apply Run.opN rfl; (· (simp -implicitDefEqProofs; done))) | (refine Run.condT ?_ ?_; (· (simp -implicitDefEqProofs; done))) | (refine Run.condF ?_ ?_; (· (simp -implicitDefEqProofs; done))) | refine Run.exit rfl ?_))
  refine Run.opF [] (filled_tri ks (by omega)) rfl (by simp -implicitDefEqProofs) rfl (by simp -implicitDefEqProofs) (by decide) (by rfl) (by simp -implicitDefEqProofs) ?_
  rintro v0 Hs' ⟨rfl, rfl⟩
  obtain ⟨hr, hl, -⟩ := fil_spec ks 0 [] List.Pairwise.nil
  change RiseK (filM ks) at hr
  change (filM ks).length ≤ _ at hl
  generalize filM ks = l at *
  simp only [List.length_nil, Nat.zero_add] at hl
  have hl' : l.length ≤ 100000 := by omega
  obtain ⟨kk, hk, hk256⟩ := and255 leave
  obtain ⟨N, hN⟩ : ∃ N, N = kk + 1 := ⟨_, rfl⟩
  have hwN : IntKind.i64.wrap (1 + (kk : Int)) = (N : Int) := by rw [wrap_small (by omega) (by omega)]; omega
  have hW : (l.drop (lowB l key)).take (mostN l key N) = (l.drop (lowB l key)).take N := by
    have hlow := lowB_le l key
    unfold mostN
    by_cases h : N ≤ l.length - lowB l key
    · congr 1; omega
    · rw [List.take_of_length_le (by simp; omega), List.take_of_length_le (by simp; omega)]
  obtain ⟨W, hWd⟩ : ∃ W, W = (l.drop (lowB l key)).take N := ⟨_, rfl⟩
  rw [← hWd] at hW
  have hWl : W.length ≤ l.length := by rw [hWd]; simp; omega
  have hfr : ∀ H, Tri Try.prog 9 [.agg [.vs (l.map encK) 1, .vs (l.map encW) 1], .str key, .int .i64 N] H (fun r H' => r = .agg [.vs (W.map encK) 1, .vs (W.map encW) 1] ∧ H' = H) := by
    intro H
    have := rfrom_at l hl' key N (by omega) (by omega) H
    rw [hW] at this; exact this
  (repeat (first | refine Run.seq ?_ | refine Run.reg ?_ | refine Run.skip ?_ | refine Run.block ?_ | refine Run.endB ?_ | refine Run.opE rfl ?_ | (apply Run.op0 rfl; (· (simp -implicitDefEqProofs [encM, hk, hwN]; exact ⟨rfl, rfl⟩))) | (apply Run.opA rfl; (· (simp -implicitDefEqProofs [encM, hk, hwN]; done)); (· (simp -implicitDefEqProofs [encM, hk, hwN]; exact ⟨rfl, rfl⟩))) | (apply Run.opN rfl; (· (simp -implicitDefEqProofs [encM, hk, hwN]; done))) | (refine Run.condT ?_ ?_; (· (simp -implicitDefEqProofs [encM, hk, hwN]; done))) | (refine Run.condF ?_ ?_; (· (simp -implicitDefEqProofs [encM, hk, hwN]; done))) | refine Run.exit rfl ?_))
  refine Run.opC rfl rfl rfl (hfr _) ?_
  rintro v h' ⟨rfl, rfl⟩
  (repeat (first | refine Run.seq ?_ | refine Run.reg ?_ | refine Run.skip ?_ | refine Run.block ?_ | refine Run.endB ?_ | refine Run.opE rfl ?_ | (apply Run.op0 rfl; (· (simp -implicitDefEqProofs; exact ⟨rfl, rfl⟩))) | (apply Run.opA rfl; (· (simp -implicitDefEqProofs; done)); (· (simp -implicitDefEqProofs; exact ⟨rfl, rfl⟩))) | (apply Run.opN rfl; (· (simp -implicitDefEqProofs; done))) | (refine Run.condT ?_ ?_; (· (simp -implicitDefEqProofs; done))) | (refine Run.condF ?_ ?_; (· (simp -implicitDefEqProofs; done))) | refine Run.exit rfl ?_))
  refine Run.opF [0, 1] (from_tri l key) rfl (by simp -implicitDefEqProofs [mapHi]) rfl (by simp -implicitDefEqProofs [mapHi]) (by decide) (by rfl) (by simp -implicitDefEqProofs [mapHi]) ?_
  rintro v0 Hs' ⟨rfl, rfl⟩
  (repeat (first | refine Run.seq ?_ | refine Run.reg ?_ | refine Run.skip ?_ | refine Run.block ?_ | refine Run.endB ?_ | refine Run.opE rfl ?_ | (apply Run.op0 rfl; (· (simp -implicitDefEqProofs; exact ⟨rfl, rfl⟩))) | (apply Run.opA rfl; (· (simp -implicitDefEqProofs; done)); (· (simp -implicitDefEqProofs; exact ⟨rfl, rfl⟩))) | (apply Run.opN rfl; (· (simp -implicitDefEqProofs; done))) | (refine Run.condT ?_ ?_; (· (simp -implicitDefEqProofs; done))) | (refine Run.condF ?_ ?_; (· (simp -implicitDefEqProofs; done))) | refine Run.exit rfl ?_))
  refine Run.mv [0, 1, 3, 4, 5, 6, 7, 8] [(11, .ptr 2 0), (12, .ptr 3 0), (13, .ptr 4 0), (14, .ptr 5 0), (58, .fn 28 [.ptr 6 0, .ptr 7 0])] [.row [.bool true, .sl 1 0 l.length 2 none], .arr (l.map encItI) 2, .row [.int .i64 N], .row [.vs (W.map encK) 1, .vs (W.map encW) 1], .row [.nils], .row [.nils], .row [.ptr 0 0], .row [.str key]] (by rfl) (by decide) (by simp -implicitDefEqProofs [mapHi]) (by simp -implicitDefEqProofs [mapHi]) ?_
  refine Run.rangeF [(11, .ptr 2 0), (12, .ptr 3 0), (13, .ptr 4 0), (14, .ptr 5 0)] rfl (f := 28) (caps := [.ptr 6 0, .ptr 7 0]) (by simp) (by simp) ?_
  intro L hL
  refine ⟨_, go1_tri l hl' hr key L [(11, .ptr 2 0), (12, .ptr 3 0), (13, .ptr 4 0), (14, .ptr 5 0)] (σ := KV) (.row [.int .i64 N]) (.row [.vs (W.map encK) 1, .vs (W.map encW) 1]) (fun o => .row [cellP 9 o]) (fun o => .row [cellP 10 o]) (fun o => .row [cellP 11 o]) (fun o => .row [cellP 12 o]) tailP tailQ [] rfl rfl
    (fun o => by cases o <;> simp [goH, cellP, tailP, tailQ]) (fun o => by cases o <;> simp [goH, goR, cellP, tailP, tailQ]) (fun o => by cases o <;> simp [goH, cellP, tailP, tailQ])
    (fun o x => o ++ [x]) (fun o => o.length < N) (fun o _ => decide (o.length + 1 = N))
    (fun o x H => H = [.row [.bool true, .sl 1 0 l.length 2 none], .arr (l.map encItI) 2, .row [.int .i64 N], .row [.vs (W.map encK) 1, .vs (W.map encW) 1], .row [.sl 11 0 (o.length + 1) 1 none], .row [.sl 12 0 (o.length + 1) 1 none], .row [.ptr 0 0], .row [.str key], .loop L [(11, .ptr 2 0), (12, .ptr 3 0), (13, .ptr 4 0), (14, .ptr 5 0)] (.done (.exit 2)), .gone, .gone, .arr ((o ++ [x]).map encK) 1, .arr ((o ++ [x]).map encW) 1])
    (fun o x H hH => by subst hH; exact ⟨by simp, by simp⟩) (by simp; omega) (fun o x hpre hI => ?_), ?_⟩
  · refine TriY.of_run hL rfl rfl ?_
    unfold goH
    have hob : o.length ≤ 100000 := by
      obtain ⟨p, hp, rfl⟩ := hpre
      rw [foldl_all]; simp; omega
    have hbb : (o.length + 1) * 16 ≤ 70368744177664 := by omega
    have hbb2 : (o.length + 1) * 8 ≤ 70368744177664 := by omega
    by_cases hst : o.length + 1 = N
    · have hst' : (o.length : Int) + 1 = N := by omega
      rcases cellP_cases o with ⟨rfl, hcv, hto, htq⟩ | ⟨hcv, hto, htq⟩
      · rw [hcv, hcv, hto, htq]
        obtain rfl : N = 1 := by simpa using hst.symm
        (repeat (first | refine Run.seq ?_ | refine Run.reg ?_ | refine Run.skip ?_ | refine Run.block ?_ | refine Run.endB ?_ | refine Run.opE rfl ?_ | (apply Run.op0 rfl; (· (simp -implicitDefEqProofs [setPs]; exact ⟨rfl, rfl⟩))) | (apply Run.opA rfl; (· (simp -implicitDefEqProofs [setPs]; done)); (· (simp -implicitDefEqProofs [setPs]; exact ⟨rfl, rfl⟩))) | (apply Run.opN rfl; (· (simp -implicitDefEqProofs [setPs]; done))) | (refine Run.condT ?_ ?_; (· (simp -implicitDefEqProofs [setPs]; done))) | (refine Run.condF ?_ ?_; (· (simp -implicitDefEqProofs [setPs]; done))) | refine Run.exit rfl ?_))
        refine Run.beginR (f := 3) (id := 8) (by rfl) (by rfl) ?_
        (repeat (first | refine Run.seq ?_ | refine Run.reg ?_ | refine Run.skip ?_ | refine Run.block ?_ | refine Run.endB ?_ | refine Run.opE rfl ?_ | (apply Run.op0 rfl; (· (simp -implicitDefEqProofs [setPs, encS, encI, encK, encW]; exact ⟨rfl, rfl⟩))) | (apply Run.opA rfl; (· (simp -implicitDefEqProofs [setPs, encS, encI, encK, encW]; done)); (· (simp -implicitDefEqProofs [setPs, encS, encI, encK, encW]; exact ⟨rfl, rfl⟩))) | (apply Run.opN rfl; (· (simp -implicitDefEqProofs [setPs, encS, encI, encK, encW]; done))) | (refine Run.condT ?_ ?_; (· (simp -implicitDefEqProofs [setPs, encS, encI, encK, encW]; done))) | (refine Run.condF ?_ ?_; (· (simp -implicitDefEqProofs [setPs, encS, encI, encK, encW]; done))) | refine Run.exit rfl ?_))
        refine Run.mv [0, 1, 2, 3, 4, 5, 6, 7, 8, 9, 10, 12, 14] [] [.row [.bool true, .sl 1 0 l.length 2 none], .arr (l.map encItI) 2, .row [.int .i64 ((1 : Nat) : Int)], .row [.vs (W.map encK) 1, .vs (W.map encW) 1], .row [.sl 11 0 (([] : KV).length + 1) 1 none], .row [.sl 12 0 (([] : KV).length + 1) 1 none], .row [.ptr 0 0], .row [.str key], .loop L [(11, .ptr 2 0), (12, .ptr 3 0), (13, .ptr 4 0), (14, .ptr 5 0)] .busy, .gone, .gone, .arr ((([] : KV) ++ [x]).map encK) 1, .arr ((([] : KV) ++ [x]).map encW) 1] (by rfl) (by decide) (by simp -implicitDefEqProofs [encK, encW]) (by simp -implicitDefEqProofs [encK, encW]) ?_
        refine Run.roundEnd (f := 3) (id := 8) (j := some (.exit 2)) rfl rfl rfl (fr 13) (h' := [.row [.bool true, .sl 1 0 l.length 2 none], .arr (l.map encItI) 2, .row [.int .i64 ((1 : Nat) : Int)], .row [.vs (W.map encK) 1, .vs (W.map encW) 1], .row [.sl 11 0 (([] : KV).length + 1) 1 none], .row [.sl 12 0 (([] : KV).length + 1) 1 none], .row [.ptr 0 0], .row [.str key], .loop L [(11, .ptr 2 0), (12, .ptr 3 0), (13, .ptr 4 0), (14, .ptr 5 0)] (.done (.exit 2)), .gone, .gone, .arr ((([] : KV) ++ [x]).map encK) 1, .arr ((([] : KV) ++ [x]).map encW) 1]) (namesI (n := 11) (h := [.row [.bool true, .sl 1 0 l.length 2 none], .arr (l.map encItI) 2, .row [.int .i64 ((1 : Nat) : Int)], .row [.vs (W.map encK) 1, .vs (W.map encW) 1], .row [.sl 11 0 (([] : KV).length + 1) 1 none], .row [.sl 12 0 (([] : KV).length + 1) 1 none], .row [.ptr 0 0], .row [.str key], .loop L [(11, .ptr 2 0), (12, .ptr 3 0), (13, .ptr 4 0), (14, .ptr 5 0)] (.done (.exit 2)), .gone, .gone, .arr ((([] : KV) ++ [x]).map encK) 1, .arr ((([] : KV) ++ [x]).map encW) 1]) (by simp) (by simp)) ?_
        exact .inr ⟨by simpa using hst, rfl, rfl⟩
      · rw [hcv, hcv, hto, htq]
        (repeat (first | refine Run.seq ?_ | refine Run.reg ?_ | refine Run.skip ?_ | refine Run.block ?_ | refine Run.endB ?_ | refine Run.opE rfl ?_ | (apply Run.op0 rfl; (· (simp -implicitDefEqProofs [setPs]; exact ⟨rfl, rfl⟩))) | (apply Run.opA rfl; (· (simp -implicitDefEqProofs [setPs]; done)); (· (simp -implicitDefEqProofs [setPs]; exact ⟨rfl, rfl⟩))) | (apply Run.opN rfl; (· (simp -implicitDefEqProofs [setPs]; done))) | (refine Run.condT ?_ ?_; (· (simp -implicitDefEqProofs [setPs]; done))) | (refine Run.condF ?_ ?_; (· (simp -implicitDefEqProofs [setPs]; done))) | refine Run.exit rfl ?_))
        refine Run.beginR (f := 3) (id := 8) (by rfl) (by rfl) ?_
        (repeat (first | refine Run.seq ?_ | refine Run.reg ?_ | refine Run.skip ?_ | refine Run.block ?_ | refine Run.endB ?_ | refine Run.opE rfl ?_ | (apply Run.op0 rfl; (· (simp -implicitDefEqProofs [setPs, encS, encI, encK, encW, hbb, hbb2, hst']; exact ⟨rfl, rfl⟩))) | (apply Run.opA rfl; (· (simp -implicitDefEqProofs [setPs, encS, encI, encK, encW, hbb, hbb2, hst']; done)); (· (simp -implicitDefEqProofs [setPs, encS, encI, encK, encW, hbb, hbb2, hst']; exact ⟨rfl, rfl⟩))) | (apply Run.opN rfl; (· (simp -implicitDefEqProofs [setPs, encS, encI, encK, encW, hbb, hbb2, hst']; done))) | (refine Run.condT ?_ ?_; (· (simp -implicitDefEqProofs [setPs, encS, encI, encK, encW, hbb, hbb2, hst']; done))) | (refine Run.condF ?_ ?_; (· (simp -implicitDefEqProofs [setPs, encS, encI, encK, encW, hbb, hbb2, hst']; done))) | refine Run.exit rfl ?_))
        refine Run.mv [0, 1, 2, 3, 4, 5, 6, 7, 8, 9, 10, 12, 14] [] [.row [.bool true, .sl 1 0 l.length 2 none], .arr (l.map encItI) 2, .row [.int .i64 N], .row [.vs (W.map encK) 1, .vs (W.map encW) 1], .row [.sl 11 0 (o.length + 1) 1 none], .row [.sl 12 0 (o.length + 1) 1 none], .row [.ptr 0 0], .row [.str key], .loop L [(11, .ptr 2 0), (12, .ptr 3 0), (13, .ptr 4 0), (14, .ptr 5 0)] .busy, .gone, .gone, .arr ((o ++ [x]).map encK) 1, .arr ((o ++ [x]).map encW) 1] (by rfl) (by decide) (by simp -implicitDefEqProofs [encK, encW]) (by simp -implicitDefEqProofs [encK, encW]) ?_
        refine Run.roundEnd (f := 3) (id := 8) (j := some (.exit 2)) rfl rfl rfl (fr 13) (h' := [.row [.bool true, .sl 1 0 l.length 2 none], .arr (l.map encItI) 2, .row [.int .i64 N], .row [.vs (W.map encK) 1, .vs (W.map encW) 1], .row [.sl 11 0 (o.length + 1) 1 none], .row [.sl 12 0 (o.length + 1) 1 none], .row [.ptr 0 0], .row [.str key], .loop L [(11, .ptr 2 0), (12, .ptr 3 0), (13, .ptr 4 0), (14, .ptr 5 0)] (.done (.exit 2)), .gone, .gone, .arr ((o ++ [x]).map encK) 1, .arr ((o ++ [x]).map encW) 1]) (namesI (n := 11) (h := [.row [.bool true, .sl 1 0 l.length 2 none], .arr (l.map encItI) 2, .row [.int .i64 N], .row [.vs (W.map encK) 1, .vs (W.map encW) 1], .row [.sl 11 0 (o.length + 1) 1 none], .row [.sl 12 0 (o.length + 1) 1 none], .row [.ptr 0 0], .row [.str key], .loop L [(11, .ptr 2 0), (12, .ptr 3 0), (13, .ptr 4 0), (14, .ptr 5 0)] (.done (.exit 2)), .gone, .gone, .arr ((o ++ [x]).map encK) 1, .arr ((o ++ [x]).map encW) 1]) (by simp) (by simp)) ?_
        exact .inr ⟨by simpa using hst, rfl, rfl⟩
    · have hst' : ¬ (o.length : Int) + 1 = N := by omega
      rcases cellP_cases o with ⟨rfl, hcv, hto, htq⟩ | ⟨hcv, hto, htq⟩
      · rw [hcv, hcv, hto, htq]
        have hst2 : ¬ (1 : Int) = N := by simpa using hst'
        have hst3 : ¬ 1 = N := by simpa using hst
        (repeat (first | refine Run.seq ?_ | refine Run.reg ?_ | refine Run.skip ?_ | refine Run.block ?_ | refine Run.endB ?_ | refine Run.opE rfl ?_ | (apply Run.op0 rfl; (· (simp -implicitDefEqProofs [setPs]; exact ⟨rfl, rfl⟩))) | (apply Run.opA rfl; (· (simp -implicitDefEqProofs [setPs]; done)); (· (simp -implicitDefEqProofs [setPs]; exact ⟨rfl, rfl⟩))) | (apply Run.opN rfl; (· (simp -implicitDefEqProofs [setPs]; done))) | (refine Run.condT ?_ ?_; (· (simp -implicitDefEqProofs [setPs]; done))) | (refine Run.condF ?_ ?_; (· (simp -implicitDefEqProofs [setPs]; done))) | refine Run.exit rfl ?_))
        refine Run.beginR (f := 3) (id := 8) (by rfl) (by rfl) ?_
        (repeat (first | refine Run.seq ?_ | refine Run.reg ?_ | refine Run.skip ?_ | refine Run.block ?_ | refine Run.endB ?_ | refine Run.opE rfl ?_ | (apply Run.op0 rfl; (· (simp -implicitDefEqProofs [setPs, encS, encI, encK, encW, hst2, hst3]; exact ⟨rfl, rfl⟩))) | (apply Run.opA rfl; (· (simp -implicitDefEqProofs [setPs, encS, encI, encK, encW, hst2, hst3]; done)); (· (simp -implicitDefEqProofs [setPs, encS, encI, encK, encW, hst2, hst3]; exact ⟨rfl, rfl⟩))) | (apply Run.opN rfl; (· (simp -implicitDefEqProofs [setPs, encS, encI, encK, encW, hst2, hst3]; done))) | (refine Run.condT ?_ ?_; (· (simp -implicitDefEqProofs [setPs, encS, encI, encK, encW, hst2, hst3]; done))) | (refine Run.condF ?_ ?_; (· (simp -implicitDefEqProofs [setPs, encS, encI, encK, encW, hst2, hst3]; done))) | refine Run.exit rfl ?_))
        refine Run.mv [0, 1, 2, 3, 4, 5, 6, 7, 8, 9, 10, 12, 14] [] [.row [.bool true, .sl 1 0 l.length 2 none], .arr (l.map encItI) 2, .row [.int .i64 N], .row [.vs (W.map encK) 1, .vs (W.map encW) 1], .row [.sl 11 0 (([] : KV).length + 1) 1 none], .row [.sl 12 0 (([] : KV).length + 1) 1 none], .row [.ptr 0 0], .row [.str key], .loop L [(11, .ptr 2 0), (12, .ptr 3 0), (13, .ptr 4 0), (14, .ptr 5 0)] .busy, .gone, .gone, .arr ((([] : KV) ++ [x]).map encK) 1, .arr ((([] : KV) ++ [x]).map encW) 1] (by rfl) (by decide) (by simp -implicitDefEqProofs [encK, encW]) (by simp -implicitDefEqProofs [encK, encW]) ?_
        refine Run.roundEnd (f := 3) (id := 8) (j := none) rfl rfl rfl (fr 13) (h' := [.row [.bool true, .sl 1 0 l.length 2 none], .arr (l.map encItI) 2, .row [.int .i64 N], .row [.vs (W.map encK) 1, .vs (W.map encW) 1], .row [.sl 11 0 (([] : KV).length + 1) 1 none], .row [.sl 12 0 (([] : KV).length + 1) 1 none], .row [.ptr 0 0], .row [.str key], .loop L [(11, .ptr 2 0), (12, .ptr 3 0), (13, .ptr 4 0), (14, .ptr 5 0)] .ready, .gone, .gone, .arr ((([] : KV) ++ [x]).map encK) 1, .arr ((([] : KV) ++ [x]).map encW) 1]) (namesI (n := 11) (h := [.row [.bool true, .sl 1 0 l.length 2 none], .arr (l.map encItI) 2, .row [.int .i64 N], .row [.vs (W.map encK) 1, .vs (W.map encW) 1], .row [.sl 11 0 (([] : KV).length + 1) 1 none], .row [.sl 12 0 (([] : KV).length + 1) 1 none], .row [.ptr 0 0], .row [.str key], .loop L [(11, .ptr 2 0), (12, .ptr 3 0), (13, .ptr 4 0), (14, .ptr 5 0)] .ready, .gone, .gone, .arr ((([] : KV) ++ [x]).map encK) 1, .arr ((([] : KV) ++ [x]).map encW) 1]) (by simp) (by simp)) ?_
        exact .inl ⟨by simpa using hst, by simp only [List.length_append, List.length_cons, List.length_nil] at *; omega, rfl, by simp only [goR, cellP_app, tailP_app, tailQ_app]⟩
      · rw [hcv, hcv, hto, htq]
        (repeat (first | refine Run.seq ?_ | refine Run.reg ?_ | refine Run.skip ?_ | refine Run.block ?_ | refine Run.endB ?_ | refine Run.opE rfl ?_ | (apply Run.op0 rfl; (· (simp -implicitDefEqProofs [setPs]; exact ⟨rfl, rfl⟩))) | (apply Run.opA rfl; (· (simp -implicitDefEqProofs [setPs]; done)); (· (simp -implicitDefEqProofs [setPs]; exact ⟨rfl, rfl⟩))) | (apply Run.opN rfl; (· (simp -implicitDefEqProofs [setPs]; done))) | (refine Run.condT ?_ ?_; (· (simp -implicitDefEqProofs [setPs]; done))) | (refine Run.condF ?_ ?_; (· (simp -implicitDefEqProofs [setPs]; done))) | refine Run.exit rfl ?_))
        refine Run.beginR (f := 3) (id := 8) (by rfl) (by rfl) ?_
        (repeat (first | refine Run.seq ?_ | refine Run.reg ?_ | refine Run.skip ?_ | refine Run.block ?_ | refine Run.endB ?_ | refine Run.opE rfl ?_ | (apply Run.op0 rfl; (· (simp -implicitDefEqProofs [setPs, encS, encI, encK, encW, hbb, hbb2, hst']; exact ⟨rfl, rfl⟩))) | (apply Run.opA rfl; (· (simp -implicitDefEqProofs [setPs, encS, encI, encK, encW, hbb, hbb2, hst']; done)); (· (simp -implicitDefEqProofs [setPs, encS, encI, encK, encW, hbb, hbb2, hst']; exact ⟨rfl, rfl⟩))) | (apply Run.opN rfl; (· (simp -implicitDefEqProofs [setPs, encS, encI, encK, encW, hbb, hbb2, hst']; done))) | (refine Run.condT ?_ ?_; (· (simp -implicitDefEqProofs [setPs, encS, encI, encK, encW, hbb, hbb2, hst']; done))) | (refine Run.condF ?_ ?_; (· (simp -implicitDefEqProofs [setPs, encS, encI, encK, encW, hbb, hbb2, hst']; done))) | refine Run.exit rfl ?_))
        refine Run.mv [0, 1, 2, 3, 4, 5, 6, 7, 8, 9, 10, 12, 14] [] [.row [.bool true, .sl 1 0 l.length 2 none], .arr (l.map encItI) 2, .row [.int .i64 N], .row [.vs (W.map encK) 1, .vs (W.map encW) 1], .row [.sl 11 0 (o.length + 1) 1 none], .row [.sl 12 0 (o.length + 1) 1 none], .row [.ptr 0 0], .row [.str key], .loop L [(11, .ptr 2 0), (12, .ptr 3 0), (13, .ptr 4 0), (14, .ptr 5 0)] .busy, .gone, .gone, .arr ((o ++ [x]).map encK) 1, .arr ((o ++ [x]).map encW) 1] (by rfl) (by decide) (by simp -implicitDefEqProofs [encK, encW]) (by simp -implicitDefEqProofs [encK, encW]) ?_
        refine Run.roundEnd (f := 3) (id := 8) (j := none) rfl rfl rfl (fr 13) (h' := [.row [.bool true, .sl 1 0 l.length 2 none], .arr (l.map encItI) 2, .row [.int .i64 N], .row [.vs (W.map encK) 1, .vs (W.map encW) 1], .row [.sl 11 0 (o.length + 1) 1 none], .row [.sl 12 0 (o.length + 1) 1 none], .row [.ptr 0 0], .row [.str key], .loop L [(11, .ptr 2 0), (12, .ptr 3 0), (13, .ptr 4 0), (14, .ptr 5 0)] .ready, .gone, .gone, .arr ((o ++ [x]).map encK) 1, .arr ((o ++ [x]).map encW) 1]) (namesI (n := 11) (h := [.row [.bool true, .sl 1 0 l.length 2 none], .arr (l.map encItI) 2, .row [.int .i64 N], .row [.vs (W.map encK) 1, .vs (W.map encW) 1], .row [.sl 11 0 (o.length + 1) 1 none], .row [.sl 12 0 (o.length + 1) 1 none], .row [.ptr 0 0], .row [.str key], .loop L [(11, .ptr 2 0), (12, .ptr 3 0), (13, .ptr 4 0), (14, .ptr 5 0)] .ready, .gone, .gone, .arr ((o ++ [x]).map encK) 1, .arr ((o ++ [x]).map encW) 1]) (by simp) (by simp)) ?_
        exact .inl ⟨by simpa using hst, by simp only [List.length_append, List.length_cons, List.length_nil] at *; omega, rfl, by simp only [goR, cellP_app, tailP_app, tailQ_app]⟩
  · rintro v H' ⟨rfl, hcase⟩
    have hkm : W.map encK = (W.map (·.1)).map encS := by rw [List.map_map]; rfl
    have hwm : W.map encW = (W.map (·.2)).map encI := by rw [List.map_map]; rfl
    have hsame : ∀ H, Tri Try.prog 11 [.vs (W.map encK) 1, .vs (W.map encK) 1] H (fun v H' => v = .bool true ∧ H' = H) := by
      intro H; have := same_at (W.map (·.1)) (W.map (·.1)) (by simp; omega) H
      rw [hkm]; simpa using this
    have hsame2 : ∀ H, Tri Try.prog 12 [.vs (W.map encW) 1, .vs (W.map encW) 1] H (fun v H' => v = .bool true ∧ H' = H) := by
      intro H; have := sameI_at (W.map (·.2)) (W.map (·.2)) (by simp; omega) H
      rw [hwm]; simpa using this
    clear hkm hwm
    rcases hcase with ⟨s, hs, hI, rfl⟩ | ⟨o, x, r, hgo, hI, hst, rfl⟩
    · have hk : s = W := by
        rw [hWd, hs, foldl_all, List.nil_append, List.take_of_length_le]
        rw [hs, foldl_all, List.nil_append] at hI
        omega
      subst hk
      clear hs hWd hW
      refine ⟨_, _, _, rfl, by simp [goH], ?_⟩
      intro ds
      simp only [goH, List.length_cons, List.length_nil, List.set_cons_succ, List.set_cons_zero]
      rcases cellP_cases s with ⟨rfl, hcv, hto, htq⟩ | ⟨hcv, hto, htq⟩
      · rw [hcv, hcv, hto, htq]
        refine Run.mv [0, 1, 2, 3, 4, 5, 6, 7, 8, 9, 10] [(11, .ptr 2 0), (12, .ptr 3 0), (13, .ptr 4 0), (14, .ptr 5 0)] [.gone, .gone, .row [.int .i64 N], .row [.vs (([] : KV).map encK) 1, .vs (([] : KV).map encW) 1], .row [.vs (([] : KV).map encK) 1], .row [.vs (([] : KV).map encW) 1], .gone, .gone, .gone, .gone, .gone] (by rfl) (by decide) (by simp -implicitDefEqProofs [VLe.nils]) (by simp -implicitDefEqProofs [VLe.nils]) ?_
        (repeat (first | refine Run.seq ?_ | refine Run.reg ?_ | refine Run.skip ?_ | refine Run.block ?_ | refine Run.endB ?_ | refine Run.opE rfl ?_ | (apply Run.op0 rfl; (· (simp -implicitDefEqProofs; exact ⟨rfl, rfl⟩))) | (apply Run.opA rfl; (· (simp -implicitDefEqProofs; done)); (· (simp -implicitDefEqProofs; exact ⟨rfl, rfl⟩))) | (apply Run.opN rfl; (· (simp -implicitDefEqProofs; done))) | (refine Run.condT ?_ ?_; (· (simp -implicitDefEqProofs; done))) | (refine Run.condF ?_ ?_; (· (simp -implicitDefEqProofs; done))) | refine Run.exit rfl ?_))
        refine Run.opC rfl rfl rfl (hsame _) ?_
        rintro v h' ⟨rfl, rfl⟩
        (repeat (first | refine Run.seq ?_ | refine Run.reg ?_ | refine Run.skip ?_ | refine Run.block ?_ | refine Run.endB ?_ | refine Run.opE rfl ?_ | (apply Run.op0 rfl; (· (simp -implicitDefEqProofs; exact ⟨rfl, rfl⟩))) | (apply Run.opA rfl; (· (simp -implicitDefEqProofs; done)); (· (simp -implicitDefEqProofs; exact ⟨rfl, rfl⟩))) | (apply Run.opN rfl; (· (simp -implicitDefEqProofs; done))) | (refine Run.condT ?_ ?_; (· (simp -implicitDefEqProofs; done))) | (refine Run.condF ?_ ?_; (· (simp -implicitDefEqProofs; done))) | refine Run.exit rfl ?_))
        refine Run.opC rfl (by simp) rfl (hsame2 _) ?_
        rintro v h' ⟨rfl, rfl⟩
        (repeat (first | refine Run.seq ?_ | refine Run.reg ?_ | refine Run.skip ?_ | refine Run.block ?_ | refine Run.endB ?_ | refine Run.opE rfl ?_ | (apply Run.op0 rfl; (· (simp -implicitDefEqProofs; exact ⟨rfl, rfl⟩))) | (apply Run.opA rfl; (· (simp -implicitDefEqProofs; done)); (· (simp -implicitDefEqProofs; exact ⟨rfl, rfl⟩))) | (apply Run.opN rfl; (· (simp -implicitDefEqProofs; done))) | (refine Run.condT ?_ ?_; (· (simp -implicitDefEqProofs; done))) | (refine Run.condF ?_ ?_; (· (simp -implicitDefEqProofs; done))) | refine Run.exit rfl ?_))
        refine Run.opC rfl (by simp) rfl (awake_at _) ?_
        rintro v h' ⟨rfl, rfl⟩
        (repeat (first | refine Run.seq ?_ | refine Run.reg ?_ | refine Run.skip ?_ | refine Run.block ?_ | refine Run.endB ?_ | refine Run.opE rfl ?_ | (apply Run.op0 rfl; (· (simp -implicitDefEqProofs; exact ⟨rfl, rfl⟩))) | (apply Run.opA rfl; (· (simp -implicitDefEqProofs; done)); (· (simp -implicitDefEqProofs; exact ⟨rfl, rfl⟩))) | (apply Run.opN rfl; (· (simp -implicitDefEqProofs; done))) | (refine Run.condT ?_ ?_; (· (simp -implicitDefEqProofs; done))) | (refine Run.condF ?_ ?_; (· (simp -implicitDefEqProofs; done))) | refine Run.exit rfl ?_))
        refine Run.retI Try.func3 r3_ok trivial (by simp [r3]; rfl) (by simp) ?_ (by simp) (by simp)
        exact ⟨fun _ => none, _, [], namesN _, rfl, rfl, rfl⟩

      · rw [hcv, hcv, hto, htq]
        refine Run.freeze 9 (es := s.map encK) (sz := 1) (by simp) ?_
        refine Run.freeze 10 (es := s.map encW) (sz := 1) (by simp) ?_
        refine Run.mv [0, 1, 2, 3, 4, 5, 6, 7, 8, 9, 10] [(11, .ptr 2 0), (12, .ptr 3 0), (13, .ptr 4 0), (14, .ptr 5 0)] [.gone, .gone, .row [.int .i64 N], .row [.vs (s.map encK) 1, .vs (s.map encW) 1], .row [.vs (s.map encK) 1], .row [.vs (s.map encW) 1], .gone, .gone, .gone, .gone, .gone] (by rfl) (by decide) (by simp -implicitDefEqProofs) (by simp -implicitDefEqProofs) ?_
        (repeat (first | refine Run.seq ?_ | refine Run.reg ?_ | refine Run.skip ?_ | refine Run.block ?_ | refine Run.endB ?_ | refine Run.opE rfl ?_ | (apply Run.op0 rfl; (· (simp -implicitDefEqProofs; exact ⟨rfl, rfl⟩))) | (apply Run.opA rfl; (· (simp -implicitDefEqProofs; done)); (· (simp -implicitDefEqProofs; exact ⟨rfl, rfl⟩))) | (apply Run.opN rfl; (· (simp -implicitDefEqProofs; done))) | (refine Run.condT ?_ ?_; (· (simp -implicitDefEqProofs; done))) | (refine Run.condF ?_ ?_; (· (simp -implicitDefEqProofs; done))) | refine Run.exit rfl ?_))
        refine Run.opC rfl rfl rfl (hsame _) ?_
        rintro v h' ⟨rfl, rfl⟩
        (repeat (first | refine Run.seq ?_ | refine Run.reg ?_ | refine Run.skip ?_ | refine Run.block ?_ | refine Run.endB ?_ | refine Run.opE rfl ?_ | (apply Run.op0 rfl; (· (simp -implicitDefEqProofs; exact ⟨rfl, rfl⟩))) | (apply Run.opA rfl; (· (simp -implicitDefEqProofs; done)); (· (simp -implicitDefEqProofs; exact ⟨rfl, rfl⟩))) | (apply Run.opN rfl; (· (simp -implicitDefEqProofs; done))) | (refine Run.condT ?_ ?_; (· (simp -implicitDefEqProofs; done))) | (refine Run.condF ?_ ?_; (· (simp -implicitDefEqProofs; done))) | refine Run.exit rfl ?_))
        refine Run.opC rfl (by simp) rfl (hsame2 _) ?_
        rintro v h' ⟨rfl, rfl⟩
        (repeat (first | refine Run.seq ?_ | refine Run.reg ?_ | refine Run.skip ?_ | refine Run.block ?_ | refine Run.endB ?_ | refine Run.opE rfl ?_ | (apply Run.op0 rfl; (· (simp -implicitDefEqProofs; exact ⟨rfl, rfl⟩))) | (apply Run.opA rfl; (· (simp -implicitDefEqProofs; done)); (· (simp -implicitDefEqProofs; exact ⟨rfl, rfl⟩))) | (apply Run.opN rfl; (· (simp -implicitDefEqProofs; done))) | (refine Run.condT ?_ ?_; (· (simp -implicitDefEqProofs; done))) | (refine Run.condF ?_ ?_; (· (simp -implicitDefEqProofs; done))) | refine Run.exit rfl ?_))
        refine Run.opC rfl (by simp) rfl (awake_at _) ?_
        rintro v h' ⟨rfl, rfl⟩
        (repeat (first | refine Run.seq ?_ | refine Run.reg ?_ | refine Run.skip ?_ | refine Run.block ?_ | refine Run.endB ?_ | refine Run.opE rfl ?_ | (apply Run.op0 rfl; (· (simp -implicitDefEqProofs; exact ⟨rfl, rfl⟩))) | (apply Run.opA rfl; (· (simp -implicitDefEqProofs; done)); (· (simp -implicitDefEqProofs; exact ⟨rfl, rfl⟩))) | (apply Run.opN rfl; (· (simp -implicitDefEqProofs; done))) | (refine Run.condT ?_ ?_; (· (simp -implicitDefEqProofs; done))) | (refine Run.condF ?_ ?_; (· (simp -implicitDefEqProofs; done))) | refine Run.exit rfl ?_))
        refine Run.retI Try.func3 r3_ok trivial (by simp [r3]; rfl) (by simp) ?_ (by simp) (by simp)
        exact ⟨fun _ => none, _, [], namesN _, rfl, rfl, rfl⟩

    · rw [foldl_all, List.nil_append] at *
      have hst' : o.length + 1 = N := by simpa using hst
      have hk : o ++ [x] = W := by
        rw [hWd, hgo, ← hst', List.take_append, List.take_of_length_le (by omega)]
        simp
      refine ⟨_, _, _, rfl, by simp, ⟨.exit 2, rfl, fun ds => ?_⟩⟩
      rw [hk]
      simp only [List.length_cons, List.length_nil, List.set_cons_succ, List.set_cons_zero]
      have hgl : o.length + 1 = W.length := by rw [← hk]; simp
      rw [hgl]
      refine Run.freeze 11 (es := W.map encK) (sz := 1) (by simp) ?_
      refine Run.freeze 12 (es := W.map encW) (sz := 1) (by simp) ?_
      refine Run.mv [0, 1, 2, 3, 4, 5, 6, 7, 8, 9, 10, 11, 12] [(11, .ptr 2 0), (12, .ptr 3 0), (13, .ptr 4 0), (14, .ptr 5 0)] [.gone, .gone, .row [.int .i64 N], .row [.vs (W.map encK) 1, .vs (W.map encW) 1], .row [.vs (W.map encK) 1], .row [.vs (W.map encW) 1], .gone, .gone, .gone, .gone, .gone, .gone, .gone] (by rfl) (by decide) (by simp -implicitDefEqProofs) (by simp -implicitDefEqProofs) ?_
      (repeat (first | refine Run.seq ?_ | refine Run.reg ?_ | refine Run.skip ?_ | refine Run.block ?_ | refine Run.endB ?_ | refine Run.opE rfl ?_ | (apply Run.op0 rfl; (· (simp -implicitDefEqProofs; exact ⟨rfl, rfl⟩))) | (apply Run.opA rfl; (· (simp -implicitDefEqProofs; done)); (· (simp -implicitDefEqProofs; exact ⟨rfl, rfl⟩))) | (apply Run.opN rfl; (· (simp -implicitDefEqProofs; done))) | (refine Run.condT ?_ ?_; (· (simp -implicitDefEqProofs; done))) | (refine Run.condF ?_ ?_; (· (simp -implicitDefEqProofs; done))) | refine Run.exit rfl ?_))
      refine Run.opC rfl rfl rfl (hsame _) ?_
      rintro v h' ⟨rfl, rfl⟩
      (repeat (first | refine Run.seq ?_ | refine Run.reg ?_ | refine Run.skip ?_ | refine Run.block ?_ | refine Run.endB ?_ | refine Run.opE rfl ?_ | (apply Run.op0 rfl; (· (simp -implicitDefEqProofs; exact ⟨rfl, rfl⟩))) | (apply Run.opA rfl; (· (simp -implicitDefEqProofs; done)); (· (simp -implicitDefEqProofs; exact ⟨rfl, rfl⟩))) | (apply Run.opN rfl; (· (simp -implicitDefEqProofs; done))) | (refine Run.condT ?_ ?_; (· (simp -implicitDefEqProofs; done))) | (refine Run.condF ?_ ?_; (· (simp -implicitDefEqProofs; done))) | refine Run.exit rfl ?_))
      refine Run.opC rfl (by simp) rfl (hsame2 _) ?_
      rintro v h' ⟨rfl, rfl⟩
      (repeat (first | refine Run.seq ?_ | refine Run.reg ?_ | refine Run.skip ?_ | refine Run.block ?_ | refine Run.endB ?_ | refine Run.opE rfl ?_ | (apply Run.op0 rfl; (· (simp -implicitDefEqProofs; exact ⟨rfl, rfl⟩))) | (apply Run.opA rfl; (· (simp -implicitDefEqProofs; done)); (· (simp -implicitDefEqProofs; exact ⟨rfl, rfl⟩))) | (apply Run.opN rfl; (· (simp -implicitDefEqProofs; done))) | (refine Run.condT ?_ ?_; (· (simp -implicitDefEqProofs; done))) | (refine Run.condF ?_ ?_; (· (simp -implicitDefEqProofs; done))) | refine Run.exit rfl ?_))
      refine Run.opC rfl (by simp) rfl (awake_at _) ?_
      rintro v h' ⟨rfl, rfl⟩
      (repeat (first | refine Run.seq ?_ | refine Run.reg ?_ | refine Run.skip ?_ | refine Run.block ?_ | refine Run.endB ?_ | refine Run.opE rfl ?_ | (apply Run.op0 rfl; (· (simp -implicitDefEqProofs; exact ⟨rfl, rfl⟩))) | (apply Run.opA rfl; (· (simp -implicitDefEqProofs; done)); (· (simp -implicitDefEqProofs; exact ⟨rfl, rfl⟩))) | (apply Run.opN rfl; (· (simp -implicitDefEqProofs; done))) | (refine Run.condT ?_ ?_; (· (simp -implicitDefEqProofs; done))) | (refine Run.condF ?_ ?_; (· (simp -implicitDefEqProofs; done))) | refine Run.exit rfl ?_))
      refine Run.retI Try.func3 r3_ok trivial (by simp [r3]; rfl) (by simp) ?_ (by simp) (by simp)
      exact ⟨fun _ => none, _, [], namesN _, rfl, rfl, rfl⟩


end Go.Proofs.Ytoopckhogehdmaa
