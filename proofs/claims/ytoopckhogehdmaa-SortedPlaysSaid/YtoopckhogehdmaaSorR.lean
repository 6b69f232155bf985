/-
  Layer 07, part R: the law SortedTypes.
-/
import Derived.Test.YtoopckhogehdmaaSorQ
namespace Go.Proofs.Ytoopckhogehdmaa
open Sx Go
set_option maxRecDepth 100000
set_option linter.unusedSimpArgs false
set_option linter.unusedVariables false
set_option linter.unnecessarySimpa false
attribute [local simp] boundsC appendG appendO copyV srcC guardB isCall opStep Opd.ev put readAt aBin aUn args0 V.celled V.ones V.one V.cells putAt bounds bound1 elemsOf srcOf appendV fillAt fillEl V.pures V.pure unwind evs ARes.ev mkRes V.ren V.renL O.ren eqCells eq1 aEq aMM hasTy hasTyN okTy mmGo Known HLe OLe VsLe.refl VLe.refl VLe.cap Stay VsLe V.frz V.frzL O.frz fr clearV rn KnownR Objs OLeO ObjsE nm back setAll ren_ite take_map_len List.take_of_length_le
attribute [local simp ↓] upd_app tl_cons tl_nil
attribute [local simp] encItI_ren encItI_ones encItI_len encItI_take encItS_ren encItS_ones encItS_len encItS_take encS_ren encS_ones encS_len encS_take

def stT (ks : List Bs) : List (Bs × Bs) := ks.foldl (fun l k => putL l k (k ++ [33])) []
theorem stT_spec : ∀ (ks : List Bs) (l : List (Bs × Bs)), RiseK l → RiseK (ks.foldl (fun l k => putL l k (k ++ [33])) l) ∧ (ks.foldl (fun l k => putL l k (k ++ [33])) l).length ≤ l.length + ks.length ∧
    ∀ key, look (ks.foldl (fun l k => putL l k (k ++ [33])) l) key = if key ∈ ks then some (key ++ [33]) else look l key
  | [], l, h => ⟨h, by simp, fun key => by simp⟩
  | k :: ks, l, h => by
    obtain ⟨h1, h2, h3⟩ := stT_spec ks (putL l k (k ++ [33])) (putL_rise h k _)
    refine ⟨h1, ?_, fun key => ?_⟩
    · have := putL_len l k (k ++ [33]); simp only [List.foldl_cons, List.length_cons]; omega
    · rw [List.foldl_cons, h3, look_put h]
      by_cases hk : key = k
      · subst hk; simp
      · simp [hk]

theorem types_law (ks : List Bs) (key : Bs) : Tri Try.prog 6 [.vs (ks.map encS) 1, .str key] [] (fun v H => v = .bool true ∧ H = []) := by
  refine Tri.of_run' Try.func6 rfl c6_ok (by simp [Try.ntmps6]) ?_
  have hend : ∀ {k t h}, AtEnd k → t 4 = .bool true → Run ⟨Try.prog, 6, Try.f6.ntmps, [], fun v H => v = .bool true ∧ H = []⟩ ⟨k, t, h⟩ := by
    intro k t h hk h6
    refine Run.mv [] [(4, .bool true)] [] (by rfl) (by decide) (by simp [h6]) (by simp) ?_
    refine Run.ret0 rfl Try.func6 r6_ok hk (by simp [r6]; rfl) ?_ (by simp)
    simp
  by_cases hbig : 60 < ks.length ∨ 512 < key.length
  · by_cases h1 : 60 < ks.length
    · have h1' : (60 : Int) < ks.length := by omega
      (repeat (first | refine Run.seq ?_ | refine Run.reg ?_ | refine Run.skip ?_ | refine Run.block ?_ | refine Run.endB ?_ | refine Run.opE rfl ?_ | (apply Run.op0 rfl; (· (simp -implicitDefEqProofs [h1, h1']; exact ⟨rfl, rfl⟩))) | (apply Run.opA rfl; (· (simp -implicitDefEqProofs [h1, h1']; done)); (· (simp -implicitDefEqProofs [h1, h1']; exact ⟨rfl, rfl⟩))) | (apply Run.opN rfl; (· (simp -implicitDefEqProofs [h1, h1']; done))) | (refine Run.condT ?_ ?_; (· (simp -implicitDefEqProofs [h1, h1']; done))) | (refine Run.condF ?_ ?_; (· (simp -implicitDefEqProofs [h1, h1']; done))) | refine Run.exit rfl ?_))
      refine Run.opC rfl rfl rfl (awake_at _) ?_
      rintro v h' ⟨rfl, rfl⟩
      (repeat (first | refine Run.seq ?_ | refine Run.reg ?_ | refine Run.skip ?_ | refine Run.block ?_ | refine Run.endB ?_ | refine Run.opE rfl ?_ | (apply Run.op0 rfl; (· (simp -implicitDefEqProofs; exact ⟨rfl, rfl⟩))) | (apply Run.opA rfl; (· (simp -implicitDefEqProofs; done)); (· (simp -implicitDefEqProofs; exact ⟨rfl, rfl⟩))) | (apply Run.opN rfl; (· (simp -implicitDefEqProofs; done))) | (refine Run.condT ?_ ?_; (· (simp -implicitDefEqProofs; done))) | (refine Run.condF ?_ ?_; (· (simp -implicitDefEqProofs; done))) | refine Run.exit rfl ?_))
      exact hend trivial (by simp)
    · have h1' : ¬ (60 : Int) < ks.length := by omega
      have h2 : 512 < key.length := by omega
      have h2' : (512 : Int) < key.length := by omega
      (repeat (first | refine Run.seq ?_ | refine Run.reg ?_ | refine Run.skip ?_ | refine Run.block ?_ | refine Run.endB ?_ | refine Run.opE rfl ?_ | (apply Run.op0 rfl; (· (simp -implicitDefEqProofs [h1, h1', h2, h2']; exact ⟨rfl, rfl⟩))) | (apply Run.opA rfl; (· (simp -implicitDefEqProofs [h1, h1', h2, h2']; done)); (· (simp -implicitDefEqProofs [h1, h1', h2, h2']; exact ⟨rfl, rfl⟩))) | (apply Run.opN rfl; (· (simp -implicitDefEqProofs [h1, h1', h2, h2']; done))) | (refine Run.condT ?_ ?_; (· (simp -implicitDefEqProofs [h1, h1', h2, h2']; done))) | (refine Run.condF ?_ ?_; (· (simp -implicitDefEqProofs [h1, h1', h2, h2']; done))) | refine Run.exit rfl ?_))
      refine Run.opC rfl rfl rfl (awake_at _) ?_
      rintro v h' ⟨rfl, rfl⟩
      (repeat (first | refine Run.seq ?_ | refine Run.reg ?_ | refine Run.skip ?_ | refine Run.block ?_ | refine Run.endB ?_ | refine Run.opE rfl ?_ | (apply Run.op0 rfl; (· (simp -implicitDefEqProofs; exact ⟨rfl, rfl⟩))) | (apply Run.opA rfl; (· (simp -implicitDefEqProofs; done)); (· (simp -implicitDefEqProofs; exact ⟨rfl, rfl⟩))) | (apply Run.opN rfl; (· (simp -implicitDefEqProofs; done))) | (refine Run.condT ?_ ?_; (· (simp -implicitDefEqProofs; done))) | (refine Run.condF ?_ ?_; (· (simp -implicitDefEqProofs; done))) | refine Run.exit rfl ?_))
      exact hend trivial (by simp)
  have hn : ks.length ≤ 60 := by omega
  have hkl : key.length ≤ 512 := by omega
  have h1 : ¬ 60 < ks.length := by omega
  have h2 : ¬ 512 < key.length := by omega
  have h1' : ¬ (60 : Int) < ks.length := by omega
  have h2' : ¬ (512 : Int) < key.length := by omega
  have hadd : key.length + 1 ≤ 4611686018427387904 := by omega
  (repeat (first | refine Run.seq ?_ | refine Run.reg ?_ | refine Run.skip ?_ | refine Run.block ?_ | refine Run.endB ?_ | refine Run.opE rfl ?_ | (apply Run.op0 rfl; (· (simp -implicitDefEqProofs [h1, h1', h2, h2']; exact ⟨rfl, rfl⟩))) | (apply Run.opA rfl; (· (simp -implicitDefEqProofs [h1, h1', h2, h2']; done)); (· (simp -implicitDefEqProofs [h1, h1', h2, h2']; exact ⟨rfl, rfl⟩))) | (apply Run.opN rfl; (· (simp -implicitDefEqProofs [h1, h1', h2, h2']; done))) | (refine Run.condT ?_ ?_; (· (simp -implicitDefEqProofs [h1, h1', h2, h2']; done))) | (refine Run.condF ?_ ?_; (· (simp -implicitDefEqProofs [h1, h1', h2, h2']; done))) | refine Run.exit rfl ?_))
  refine Run.opF [] (news_tri) rfl (by simp -implicitDefEqProofs) rfl (by simp -implicitDefEqProofs) (by decide) (by rfl) (by simp -implicitDefEqProofs) ?_
  rintro v0 Hs' ⟨rfl, rfl⟩
  refine Run.nilC 0 1 2 0 rfl rfl ?_
  (repeat (first | refine Run.seq ?_ | refine Run.reg ?_ | refine Run.skip ?_ | refine Run.block ?_ | refine Run.endB ?_ | refine Run.opE rfl ?_ | (apply Run.op0 rfl; (· (simp -implicitDefEqProofs; exact ⟨rfl, rfl⟩))) | (apply Run.opA rfl; (· (simp -implicitDefEqProofs; done)); (· (simp -implicitDefEqProofs; exact ⟨rfl, rfl⟩))) | (apply Run.opN rfl; (· (simp -implicitDefEqProofs; done))) | (refine Run.condT ?_ ?_; (· (simp -implicitDefEqProofs; done))) | (refine Run.condF ?_ ?_; (· (simp -implicitDefEqProofs; done))) | refine Run.exit rfl ?_))
  refine Run.loopC [0, 1] (fun (i : Nat) => ([(0, .vs (ks.map encS) 1), (1, .str key), (5, .ptr 0 0), (6, .bool (decide (key ∈ ks.take i))), (7, .int .i64 i)], mapHs (stT (ks.take i)))) (fun i => i ≤ ks.length) (fun i => ks.length - i) 0 (by simp) (by rfl) (by decide) (by simp) (by simp [mapHs, stT]) ?_
  intro i hi ih
  obtain ⟨hr, hl, hlk⟩ := stT_spec (ks.take i) [] List.Pairwise.nil
  change RiseK (stT (ks.take i)) at hr
  change (stT (ks.take i)).length ≤ _ at hl
  change ∀ key, look (stT (ks.take i)) key = _ at hlk
  have hl' : (stT (ks.take i)).length ≤ 100000 := by simp at hl; omega
  by_cases hlt : i < ks.length
  · obtain ⟨x, hx, hxi, -, -⟩ := getL hlt
    have hw := wrap_small (n := (i : Int) + 1) (by omega) (by omega)
    have hnx : stT (ks.take (i + 1)) = putL (stT (ks.take i)) x (x ++ [33]) := by
      unfold stT; rw [List.take_add_one, hx]; simp
    have hnm : decide (key ∈ ks.take (i + 1)) = (decide (key ∈ ks.take i) || decide (x = key)) := by
      rw [List.take_add_one, hx, Bool.eq_iff_iff]
      simp [eq_comm (a := key)]
    generalize stT (ks.take i) = l at *
    generalize decide (key ∈ ks.take i) = b at *
    by_cases hxl : 512 < x.length
    · have hxl' : (512 : Int) < x.length := by omega
      (repeat (first | refine Run.seq ?_ | refine Run.reg ?_ | refine Run.skip ?_ | refine Run.block ?_ | refine Run.endB ?_ | refine Run.opE rfl ?_ | (apply Run.op0 rfl; (· (simp -implicitDefEqProofs [hlt, hx, hxi, encS, hxl, hxl']; exact ⟨rfl, rfl⟩))) | (apply Run.opA rfl; (· (simp -implicitDefEqProofs [hlt, hx, hxi, encS, hxl, hxl']; done)); (· (simp -implicitDefEqProofs [hlt, hx, hxi, encS, hxl, hxl']; exact ⟨rfl, rfl⟩))) | (apply Run.opN rfl; (· (simp -implicitDefEqProofs [hlt, hx, hxi, encS, hxl, hxl']; done))) | (refine Run.condT ?_ ?_; (· (simp -implicitDefEqProofs [hlt, hx, hxi, encS, hxl, hxl']; done))) | (refine Run.condF ?_ ?_; (· (simp -implicitDefEqProofs [hlt, hx, hxi, encS, hxl, hxl']; done))) | refine Run.exit rfl ?_))
      refine Run.opC rfl rfl rfl (awake_at _) ?_
      rintro v h' ⟨rfl, rfl⟩
      (repeat (first | refine Run.seq ?_ | refine Run.reg ?_ | refine Run.skip ?_ | refine Run.block ?_ | refine Run.endB ?_ | refine Run.opE rfl ?_ | (apply Run.op0 rfl; (· (simp -implicitDefEqProofs; exact ⟨rfl, rfl⟩))) | (apply Run.opA rfl; (· (simp -implicitDefEqProofs; done)); (· (simp -implicitDefEqProofs; exact ⟨rfl, rfl⟩))) | (apply Run.opN rfl; (· (simp -implicitDefEqProofs; done))) | (refine Run.condT ?_ ?_; (· (simp -implicitDefEqProofs; done))) | (refine Run.condF ?_ ?_; (· (simp -implicitDefEqProofs; done))) | refine Run.exit rfl ?_))
      exact hend trivial (by simp)
    · have hxl' : ¬ (512 : Int) < x.length := by omega
      have hxa : x.length + 1 ≤ 4611686018427387904 := by omega
      (repeat (first | refine Run.seq ?_ | refine Run.reg ?_ | refine Run.skip ?_ | refine Run.block ?_ | refine Run.endB ?_ | refine Run.opE rfl ?_ | (apply Run.op0 rfl; (· (simp -implicitDefEqProofs [hlt, hx, hxi, encS, hxl, hxl']; exact ⟨rfl, rfl⟩))) | (apply Run.opA rfl; (· (simp -implicitDefEqProofs [hlt, hx, hxi, encS, hxl, hxl']; done)); (· (simp -implicitDefEqProofs [hlt, hx, hxi, encS, hxl, hxl']; exact ⟨rfl, rfl⟩))) | (apply Run.opN rfl; (· (simp -implicitDefEqProofs [hlt, hx, hxi, encS, hxl, hxl']; done))) | (refine Run.condT ?_ ?_; (· (simp -implicitDefEqProofs [hlt, hx, hxi, encS, hxl, hxl']; done))) | (refine Run.condF ?_ ?_; (· (simp -implicitDefEqProofs [hlt, hx, hxi, encS, hxl, hxl']; done))) | refine Run.exit rfl ?_))
      refine Run.drawn prog_mixed ?_
      show RunD _ c6d0 [0, 1, 2, 3, 4, 5, 6, 7, 8, 9, 10] [] _ _ _
      refine RunD.flow [0, 1, 2, 3, 4, 5, 6, 7, 8, 9] (by kernel_rfl) (by decide +kernel) (by decide +kernel) (by decide) trivial ?_; (repeat (first | refine execQ_E rfl ?_ | (apply execQ_0 rfl; (· rfl); (· (simp -implicitDefEqProofs [hlt, hx, hxi, encS, hxa]; exact ⟨rfl, rfl⟩))) | (apply execQ_A rfl; (· (simp -implicitDefEqProofs [hlt, hx, hxi, encS, hxa]; done)); (· rfl); (· (simp -implicitDefEqProofs [hlt, hx, hxi, encS, hxa]; exact ⟨rfl, rfl⟩))) | (apply execQ_N rfl; (· (simp -implicitDefEqProofs [hlt, hx, hxi, encS, hxa]; done))))); intro hpo
      refine RunD.alt1 10 (by kernel_rfl) (by kernel_rfl) hpo ?_
      refine AStep.F [0, 1] (puts_tri l hl' hr x (x ++ [33])) rfl (by simp -implicitDefEqProofs [mapHs]) rfl (by simp -implicitDefEqProofs [mapHs]) (by decide) (by rfl) (by simp -implicitDefEqProofs [mapHs]) ?_
      rintro v0 Hs' ⟨rfl, hcase⟩
      rw [← hnx] at hcase
      refine RunD.fin (by kernel_rfl) (show PendOk _ c6d0 _ _ [] from trivial) ?_
      refine cases2 hcase [(0, .vs (ks.map encS) 1), (1, .str key), (5, .ptr 0 0), (6, .bool b), (7, .int .i64 i)] (mapHs (stT (ks.take (i + 1)))) [0, 1] [0, 2] (by rfl) (by decide) (by simp) (by simp [mapHs]) (by rfl) (by decide) (by simp) (by simp [mapHs, mapKs]) ?_
      cases b with
      | true =>
        (repeat (first | refine Run.seq ?_ | refine Run.reg ?_ | refine Run.skip ?_ | refine Run.block ?_ | refine Run.endB ?_ | refine Run.opE rfl ?_ | (apply Run.op0 rfl; (· (simp -implicitDefEqProofs [hlt, hx, hxi, encS]; exact ⟨rfl, rfl⟩))) | (apply Run.opA rfl; (· (simp -implicitDefEqProofs [hlt, hx, hxi, encS]; done)); (· (simp -implicitDefEqProofs [hlt, hx, hxi, encS]; exact ⟨rfl, rfl⟩))) | (apply Run.opN rfl; (· (simp -implicitDefEqProofs [hlt, hx, hxi, encS]; done))) | (refine Run.condT ?_ ?_; (· (simp -implicitDefEqProofs [hlt, hx, hxi, encS]; done))) | (refine Run.condF ?_ ?_; (· (simp -implicitDefEqProofs [hlt, hx, hxi, encS]; done))) | refine Run.exit rfl ?_))
        refine Run.mv [0, 1] _ _ (by rfl) (by decide) (by simp -implicitDefEqProofs [hw, hnm, mapHs]) (by simp -implicitDefEqProofs [hw, hnm, mapHs]) (ih (i + 1) ?_ ?_)
        · omega
        · omega
      | false =>
        (repeat (first | refine Run.seq ?_ | refine Run.reg ?_ | refine Run.skip ?_ | refine Run.block ?_ | refine Run.endB ?_ | refine Run.opE rfl ?_ | (apply Run.op0 rfl; (· (simp -implicitDefEqProofs [hlt, hx, hxi, encS]; exact ⟨rfl, rfl⟩))) | (apply Run.opA rfl; (· (simp -implicitDefEqProofs [hlt, hx, hxi, encS]; done)); (· (simp -implicitDefEqProofs [hlt, hx, hxi, encS]; exact ⟨rfl, rfl⟩))) | (apply Run.opN rfl; (· (simp -implicitDefEqProofs [hlt, hx, hxi, encS]; done))) | (refine Run.condT ?_ ?_; (· (simp -implicitDefEqProofs [hlt, hx, hxi, encS]; done))) | (refine Run.condF ?_ ?_; (· (simp -implicitDefEqProofs [hlt, hx, hxi, encS]; done))) | refine Run.exit rfl ?_))
        refine Run.mv [0, 1] _ _ (by rfl) (by decide) (by simp -implicitDefEqProofs [hw, hnm, mapHs]) (by simp -implicitDefEqProofs [hw, hnm, mapHs]) (ih (i + 1) ?_ ?_)
        · omega
        · omega
  · have : i = ks.length := by omega
    subst this
    clear ih
    rw [List.take_length] at *
    have hg := get_look ([] : Bs) hr key
    have hlk0 := hlk key
    have hlook : look ([] : List (Bs × Bs)) key = none := rfl
    rw [hlook] at hlk0
    have hdr := dropL_rise hr key
    have hdl := dropL_len (stT ks) key
    have hh1 := hit_look hr key
    have hh2 := hit_look hdr key
    rw [look_drop hr, if_pos rfl] at hh2
    generalize stT ks = l at *
    have hgt := gets_tri l hl' hr key
    have hd1 := drops_tri l hl' hr key
    have hd2 := drops_tri (dropL l key) (by omega) hdr key
    rw [hg] at hgt
    rw [hh1] at hd1
    rw [hh2] at hd2
    by_cases hin : key ∈ ks
    · rw [if_pos hin] at hlk0
      rw [hlk0] at hgt hd1
      (repeat (first | refine Run.seq ?_ | refine Run.reg ?_ | refine Run.skip ?_ | refine Run.block ?_ | refine Run.endB ?_ | refine Run.opE rfl ?_ | (apply Run.op0 rfl; (· (simp -implicitDefEqProofs [hin]; exact ⟨rfl, rfl⟩))) | (apply Run.opA rfl; (· (simp -implicitDefEqProofs [hin]; done)); (· (simp -implicitDefEqProofs [hin]; exact ⟨rfl, rfl⟩))) | (apply Run.opN rfl; (· (simp -implicitDefEqProofs [hin]; done))) | (refine Run.condT ?_ ?_; (· (simp -implicitDefEqProofs [hin]; done))) | (refine Run.condF ?_ ?_; (· (simp -implicitDefEqProofs [hin]; done))) | refine Run.exit rfl ?_))
      refine Run.opF [0, 1] (hgt) rfl (by simp -implicitDefEqProofs [mapHs]) rfl (by simp -implicitDefEqProofs [mapHs]) (by decide) (by rfl) (by simp -implicitDefEqProofs [mapHs]) ?_
      rintro v0 Hs' ⟨rfl, rfl⟩
      (repeat (first | refine Run.seq ?_ | refine Run.reg ?_ | refine Run.skip ?_ | refine Run.block ?_ | refine Run.endB ?_ | refine Run.opE rfl ?_ | (apply Run.op0 rfl; (· (simp -implicitDefEqProofs [hadd, hin]; exact ⟨rfl, rfl⟩))) | (apply Run.opA rfl; (· (simp -implicitDefEqProofs [hadd, hin]; done)); (· (simp -implicitDefEqProofs [hadd, hin]; exact ⟨rfl, rfl⟩))) | (apply Run.opN rfl; (· (simp -implicitDefEqProofs [hadd, hin]; done))) | (refine Run.condT ?_ ?_; (· (simp -implicitDefEqProofs [hadd, hin]; done))) | (refine Run.condF ?_ ?_; (· (simp -implicitDefEqProofs [hadd, hin]; done))) | refine Run.exit rfl ?_))
      refine Run.opF [0, 1] (hd1) rfl (by simp -implicitDefEqProofs [mapHs]) rfl (by simp -implicitDefEqProofs [mapHs]) (by decide) (by rfl) (by simp -implicitDefEqProofs [mapHs]) ?_
      rintro v0 Hs' ⟨rfl, rfl⟩
      (repeat (first | refine Run.seq ?_ | refine Run.reg ?_ | refine Run.skip ?_ | refine Run.block ?_ | refine Run.endB ?_ | refine Run.opE rfl ?_ | (apply Run.op0 rfl; (· (simp -implicitDefEqProofs [hin]; exact ⟨rfl, rfl⟩))) | (apply Run.opA rfl; (· (simp -implicitDefEqProofs [hin]; done)); (· (simp -implicitDefEqProofs [hin]; exact ⟨rfl, rfl⟩))) | (apply Run.opN rfl; (· (simp -implicitDefEqProofs [hin]; done))) | (refine Run.condT ?_ ?_; (· (simp -implicitDefEqProofs [hin]; done))) | (refine Run.condF ?_ ?_; (· (simp -implicitDefEqProofs [hin]; done))) | refine Run.exit rfl ?_))
      refine Run.opF [0, 1] (hd2) rfl (by simp -implicitDefEqProofs [mapHs]) rfl (by simp -implicitDefEqProofs [mapHs]) (by decide) (by rfl) (by simp -implicitDefEqProofs [mapHs]) ?_
      rintro v0 Hs' ⟨rfl, rfl⟩
      (repeat (first | refine Run.seq ?_ | refine Run.reg ?_ | refine Run.skip ?_ | refine Run.block ?_ | refine Run.endB ?_ | refine Run.opE rfl ?_ | (apply Run.op0 rfl; (· (simp -implicitDefEqProofs [hin]; exact ⟨rfl, rfl⟩))) | (apply Run.opA rfl; (· (simp -implicitDefEqProofs [hin]; done)); (· (simp -implicitDefEqProofs [hin]; exact ⟨rfl, rfl⟩))) | (apply Run.opN rfl; (· (simp -implicitDefEqProofs [hin]; done))) | (refine Run.condT ?_ ?_; (· (simp -implicitDefEqProofs [hin]; done))) | (refine Run.condF ?_ ?_; (· (simp -implicitDefEqProofs [hin]; done))) | refine Run.exit rfl ?_))
      refine Run.opC rfl (by simp) rfl (awake_at _) ?_
      rintro v h' ⟨rfl, rfl⟩
      (repeat (first | refine Run.seq ?_ | refine Run.reg ?_ | refine Run.skip ?_ | refine Run.block ?_ | refine Run.endB ?_ | refine Run.opE rfl ?_ | (apply Run.op0 rfl; (· (simp -implicitDefEqProofs [hin]; exact ⟨rfl, rfl⟩))) | (apply Run.opA rfl; (· (simp -implicitDefEqProofs [hin]; done)); (· (simp -implicitDefEqProofs [hin]; exact ⟨rfl, rfl⟩))) | (apply Run.opN rfl; (· (simp -implicitDefEqProofs [hin]; done))) | (refine Run.condT ?_ ?_; (· (simp -implicitDefEqProofs [hin]; done))) | (refine Run.condF ?_ ?_; (· (simp -implicitDefEqProofs [hin]; done))) | refine Run.exit rfl ?_))
      exact hend trivial (by simp [hin])
    · rw [if_neg hin] at hlk0
      rw [hlk0] at hgt hd1
      (repeat (first | refine Run.seq ?_ | refine Run.reg ?_ | refine Run.skip ?_ | refine Run.block ?_ | refine Run.endB ?_ | refine Run.opE rfl ?_ | (apply Run.op0 rfl; (· (simp -implicitDefEqProofs [hin]; exact ⟨rfl, rfl⟩))) | (apply Run.opA rfl; (· (simp -implicitDefEqProofs [hin]; done)); (· (simp -implicitDefEqProofs [hin]; exact ⟨rfl, rfl⟩))) | (apply Run.opN rfl; (· (simp -implicitDefEqProofs [hin]; done))) | (refine Run.condT ?_ ?_; (· (simp -implicitDefEqProofs [hin]; done))) | (refine Run.condF ?_ ?_; (· (simp -implicitDefEqProofs [hin]; done))) | refine Run.exit rfl ?_))
      refine Run.opF [0, 1] (hgt) rfl (by simp -implicitDefEqProofs [mapHs]) rfl (by simp -implicitDefEqProofs [mapHs]) (by decide) (by rfl) (by simp -implicitDefEqProofs [mapHs]) ?_
      rintro v0 Hs' ⟨rfl, rfl⟩
      (repeat (first | refine Run.seq ?_ | refine Run.reg ?_ | refine Run.skip ?_ | refine Run.block ?_ | refine Run.endB ?_ | refine Run.opE rfl ?_ | (apply Run.op0 rfl; (· (simp -implicitDefEqProofs [hadd, hin]; exact ⟨rfl, rfl⟩))) | (apply Run.opA rfl; (· (simp -implicitDefEqProofs [hadd, hin]; done)); (· (simp -implicitDefEqProofs [hadd, hin]; exact ⟨rfl, rfl⟩))) | (apply Run.opN rfl; (· (simp -implicitDefEqProofs [hadd, hin]; done))) | (refine Run.condT ?_ ?_; (· (simp -implicitDefEqProofs [hadd, hin]; done))) | (refine Run.condF ?_ ?_; (· (simp -implicitDefEqProofs [hadd, hin]; done))) | refine Run.exit rfl ?_))
      refine Run.opF [0, 1] (hd1) rfl (by simp -implicitDefEqProofs [mapHs]) rfl (by simp -implicitDefEqProofs [mapHs]) (by decide) (by rfl) (by simp -implicitDefEqProofs [mapHs]) ?_
      rintro v0 Hs' ⟨rfl, rfl⟩
      (repeat (first | refine Run.seq ?_ | refine Run.reg ?_ | refine Run.skip ?_ | refine Run.block ?_ | refine Run.endB ?_ | refine Run.opE rfl ?_ | (apply Run.op0 rfl; (· (simp -implicitDefEqProofs [hin]; exact ⟨rfl, rfl⟩))) | (apply Run.opA rfl; (· (simp -implicitDefEqProofs [hin]; done)); (· (simp -implicitDefEqProofs [hin]; exact ⟨rfl, rfl⟩))) | (apply Run.opN rfl; (· (simp -implicitDefEqProofs [hin]; done))) | (refine Run.condT ?_ ?_; (· (simp -implicitDefEqProofs [hin]; done))) | (refine Run.condF ?_ ?_; (· (simp -implicitDefEqProofs [hin]; done))) | refine Run.exit rfl ?_))
      refine Run.opF [0, 1] (hd2) rfl (by simp -implicitDefEqProofs [mapHs]) rfl (by simp -implicitDefEqProofs [mapHs]) (by decide) (by rfl) (by simp -implicitDefEqProofs [mapHs]) ?_
      rintro v0 Hs' ⟨rfl, rfl⟩
      (repeat (first | refine Run.seq ?_ | refine Run.reg ?_ | refine Run.skip ?_ | refine Run.block ?_ | refine Run.endB ?_ | refine Run.opE rfl ?_ | (apply Run.op0 rfl; (· (simp -implicitDefEqProofs [hin]; exact ⟨rfl, rfl⟩))) | (apply Run.opA rfl; (· (simp -implicitDefEqProofs [hin]; done)); (· (simp -implicitDefEqProofs [hin]; exact ⟨rfl, rfl⟩))) | (apply Run.opN rfl; (· (simp -implicitDefEqProofs [hin]; done))) | (refine Run.condT ?_ ?_; (· (simp -implicitDefEqProofs [hin]; done))) | (refine Run.condF ?_ ?_; (· (simp -implicitDefEqProofs [hin]; done))) | refine Run.exit rfl ?_))
      refine Run.opC rfl (by simp) rfl (awake_at _) ?_
      rintro v h' ⟨rfl, rfl⟩
      (repeat (first | refine Run.seq ?_ | refine Run.reg ?_ | refine Run.skip ?_ | refine Run.block ?_ | refine Run.endB ?_ | refine Run.opE rfl ?_ | (apply Run.op0 rfl; (· (simp -implicitDefEqProofs [hin]; exact ⟨rfl, rfl⟩))) | (apply Run.opA rfl; (· (simp -implicitDefEqProofs [hin]; done)); (· (simp -implicitDefEqProofs [hin]; exact ⟨rfl, rfl⟩))) | (apply Run.opN rfl; (· (simp -implicitDefEqProofs [hin]; done))) | (refine Run.condT ?_ ?_; (· (simp -implicitDefEqProofs [hin]; done))) | (refine Run.condF ?_ ?_; (· (simp -implicitDefEqProofs [hin]; done))) | refine Run.exit rfl ?_))
      exact hend trivial (by simp [hin])

end Go.Proofs.Ytoopckhogehdmaa
