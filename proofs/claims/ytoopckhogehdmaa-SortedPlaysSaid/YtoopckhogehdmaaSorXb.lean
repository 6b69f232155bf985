/-
  Layer 07: the law SortedRises.
-/
import Derived.Test.YtoopckhogehdmaaSorX
namespace Go.Proofs.Ytoopckhogehdmaa
open Sx Go
set_option maxRecDepth 100000
set_option linter.unusedSimpArgs false
set_option linter.unusedVariables false
set_option linter.unnecessarySimpa false
attribute [local simp] boundsC appendG appendO copyV srcC guardB isCall opStep Opd.ev put readAt aBin aUn args0 V.celled V.ones V.one V.cells putAt bounds bound1 elemsOf srcOf appendV fillAt fillEl V.pures V.pure unwind evs ARes.ev mkRes V.ren V.renL O.ren eqCells eq1 aEq aMM hasTy hasTyN okTy mmGo Known HLe OLe VsLe.refl VLe.refl VLe.cap Stay VsLe V.frz V.frzL O.frz fr clearV rn KnownR Objs OLeO ObjsE nm back setAll ren_ite take_map_len List.take_of_length_le
attribute [local simp ↓] upd_app tl_cons tl_nil
attribute [local simp] encItI_ren encItI_ones encItI_len encItI_take encItS_ren encItS_ones encItS_len encItS_take encS_ren encS_ones encS_len encS_take

theorem bless_nil (s : Bs) : Op.bytesLess s [] = false := by cases s <;> rfl
theorem lowB_nil (l : KV) : lowB l [] = 0 := by
  unfold lowB
  cases l with
  | nil => rfl
  | cons x l => simp [bless_nil]
theorem keysM_all (l : KV) (hl : l.length ≤ 1000) : keysM l [] 1000 = l.map (·.1) := by
  rw [keysM, if_neg (by omega), lowB_nil, List.drop_zero]
  exact List.take_of_length_le (by simpa using hl)
theorem keysM_neg (l : KV) : keysM l [] (-1) = [] := by rw [keysM, if_pos (by omega)]
theorem lastOf_mem (x : Bs) : ∀ (ks : List Bs) (i : Nat), x ∈ ks → ∃ n : Nat, lastOf ks i x = some (n : Int) ∧ n < i + ks.length
  | [], i, h => by simp at h
  | k :: ks, i, h => by
    rw [lastOf]
    by_cases hx : x ∈ ks
    · obtain ⟨n, h1, h2⟩ := lastOf_mem x ks (i + 1) hx
      rw [h1]; exact ⟨n, rfl, by simp only [List.length_cons]; omega⟩
    · have hk : k = x := by simpa [hx, eq_comm] using h
      cases h0 : lastOf ks (i + 1) x with
      | none => simp only [hk, if_true]; exact ⟨i, rfl, by simp only [List.length_cons]; omega⟩
      | some v =>
        exfalso
        have : ∀ (ks : List Bs) (i : Nat), x ∉ ks → lastOf ks i x = none := by
          intro ks
          induction ks with
          | nil => intro i _; rfl
          | cons q ks ih =>
            intro i h
            simp only [List.mem_cons, not_or] at h
            rw [lastOf, ih _ h.2, if_neg (fun e => h.1 e.symm)]
        rw [this ks _ hx] at h0; cases h0

theorem rises_law (ks : List Bs) : Tri Try.prog 4 [.vs (ks.map encS) 1] [] (fun v H => v = .bool true ∧ H = []) := by
  refine Tri.of_run' Try.func4 rfl c4_ok (by simp [Try.ntmps4]) ?_
  have hend : ∀ {k t h}, AtEnd k → t 2 = .bool true → Run ⟨Try.prog, 4, Try.f4.ntmps, [], fun v H => v = .bool true ∧ H = []⟩ ⟨k, t, h⟩ := by
    intro k t h hk h6
    refine Run.mv [] [(2, .bool true)] [] (by rfl) (by decide) (by simp [h6]) (by simp) ?_
    refine Run.ret0 rfl Try.func4 r4_ok hk (by simp [r4]; rfl) ?_ (by simp)
    simp
  by_cases h1 : 100 < ks.length
  · have h1' : (100 : Int) < ks.length := by omega
    (repeat (first | refine Run.seq ?_ | refine Run.reg ?_ | refine Run.skip ?_ | refine Run.block ?_ | refine Run.endB ?_ | refine Run.opE rfl ?_ | (apply Run.op0 rfl; (· (simp -implicitDefEqProofs [h1, h1']; exact ⟨rfl, rfl⟩))) | (apply Run.opA rfl; (· (simp -implicitDefEqProofs [h1, h1']; done)); (· (simp -implicitDefEqProofs [h1, h1']; exact ⟨rfl, rfl⟩))) | (apply Run.opN rfl; (· (simp -implicitDefEqProofs [h1, h1']; done))) | (refine Run.condT ?_ ?_; (· (simp -implicitDefEqProofs [h1, h1']; done))) | (refine Run.condF ?_ ?_; (· (simp -implicitDefEqProofs [h1, h1']; done))) | refine Run.exit rfl ?_))
    refine Run.opC rfl rfl rfl (awake_at _) ?_
    rintro v h' ⟨rfl, rfl⟩
    (repeat (first | refine Run.seq ?_ | refine Run.reg ?_ | refine Run.skip ?_ | refine Run.block ?_ | refine Run.endB ?_ | refine Run.opE rfl ?_ | (apply Run.op0 rfl; (· (simp -implicitDefEqProofs; exact ⟨rfl, rfl⟩))) | (apply Run.opA rfl; (· (simp -implicitDefEqProofs; done)); (· (simp -implicitDefEqProofs; exact ⟨rfl, rfl⟩))) | (apply Run.opN rfl; (· (simp -implicitDefEqProofs; done))) | (refine Run.condT ?_ ?_; (· (simp -implicitDefEqProofs; done))) | (refine Run.condF ?_ ?_; (· (simp -implicitDefEqProofs; done))) | refine Run.exit rfl ?_))
    exact hend trivial (by simp)
  have h1' : ¬ (100 : Int) < ks.length := by omega
  (repeat (first | refine Run.seq ?_ | refine Run.reg ?_ | refine Run.skip ?_ | refine Run.block ?_ | refine Run.endB ?_ | refine Run.opE rfl ?_ | (apply Run.op0 rfl; (· (simp -implicitDefEqProofs [h1, h1']; exact ⟨rfl, rfl⟩))) | (apply Run.opA rfl; (· (simp -implicitDefEqProofs [h1, h1']; done)); (· (simp -implicitDefEqProofs [h1, h1']; exact ⟨rfl, rfl⟩))) | (apply Run.opN rfl; (· (simp -implicitDefEqProofs [h1, h1']; done))) | (refine Run.condT ?_ ?_; (· (simp -implicitDefEqProofs [h1, h1']; done))) | (refine Run.condF ?_ ?_; (· (simp -implicitDefEqProofs [h1, h1']; done))) | refine Run.exit rfl ?_))
  refine Run.loopC [] (fun (i : Nat) => ([(0, .vs (ks.map encS) 1), (3, .int .i64 i)], [])) (fun i => i ≤ ks.length) (fun i => ks.length - i) 0 (by simp) (by rfl) (by decide) (by simp) (by simp) ?_
  intro i hi ih
  by_cases hlt : i < ks.length
  · obtain ⟨x, hx, hxi, -, -⟩ := getL hlt
    have hw := wrap_small (n := (i : Int) + 1) (by omega) (by omega)
    by_cases hxl : 512 < x.length
    · have hxl' : (512 : Int) < x.length := by omega
      (repeat (first | refine Run.seq ?_ | refine Run.reg ?_ | refine Run.skip ?_ | refine Run.block ?_ | refine Run.endB ?_ | refine Run.opE rfl ?_ | (apply Run.op0 rfl; (· (simp -implicitDefEqProofs [hlt, hx, hxi, encS, hxl, hxl']; exact ⟨rfl, rfl⟩))) | (apply Run.opA rfl; (· (simp -implicitDefEqProofs [hlt, hx, hxi, encS, hxl, hxl']; done)); (· (simp -implicitDefEqProofs [hlt, hx, hxi, encS, hxl, hxl']; exact ⟨rfl, rfl⟩))) | (apply Run.opN rfl; (· (simp -implicitDefEqProofs [hlt, hx, hxi, encS, hxl, hxl']; done))) | (refine Run.condT ?_ ?_; (· (simp -implicitDefEqProofs [hlt, hx, hxi, encS, hxl, hxl']; done))) | (refine Run.condF ?_ ?_; (· (simp -implicitDefEqProofs [hlt, hx, hxi, encS, hxl, hxl']; done))) | refine Run.exit rfl ?_))
      refine Run.opC rfl rfl rfl (awake_at _) ?_
      rintro v h' ⟨rfl, rfl⟩
      (repeat (first | refine Run.seq ?_ | refine Run.reg ?_ | refine Run.skip ?_ | refine Run.block ?_ | refine Run.endB ?_ | refine Run.opE rfl ?_ | (apply Run.op0 rfl; (· (simp -implicitDefEqProofs; exact ⟨rfl, rfl⟩))) | (apply Run.opA rfl; (· (simp -implicitDefEqProofs; done)); (· (simp -implicitDefEqProofs; exact ⟨rfl, rfl⟩))) | (apply Run.opN rfl; (· (simp -implicitDefEqProofs; done))) | (refine Run.condT ?_ ?_; (· (simp -implicitDefEqProofs; done))) | (refine Run.condF ?_ ?_; (· (simp -implicitDefEqProofs; done))) | refine Run.exit rfl ?_))
      exact hend trivial (by simp)
    · have hxl' : ¬ (512 : Int) < x.length := by omega
      (repeat (first | refine Run.seq ?_ | refine Run.reg ?_ | refine Run.skip ?_ | refine Run.block ?_ | refine Run.endB ?_ | refine Run.opE rfl ?_ | (apply Run.op0 rfl; (· (simp -implicitDefEqProofs [hlt, hx, hxi, encS, hxl, hxl']; exact ⟨rfl, rfl⟩))) | (apply Run.opA rfl; (· (simp -implicitDefEqProofs [hlt, hx, hxi, encS, hxl, hxl']; done)); (· (simp -implicitDefEqProofs [hlt, hx, hxi, encS, hxl, hxl']; exact ⟨rfl, rfl⟩))) | (apply Run.opN rfl; (· (simp -implicitDefEqProofs [hlt, hx, hxi, encS, hxl, hxl']; done))) | (refine Run.condT ?_ ?_; (· (simp -implicitDefEqProofs [hlt, hx, hxi, encS, hxl, hxl']; done))) | (refine Run.condF ?_ ?_; (· (simp -implicitDefEqProofs [hlt, hx, hxi, encS, hxl, hxl']; done))) | refine Run.exit rfl ?_))
      refine Run.mv [] _ _ (by rfl) (by decide) (by simp -implicitDefEqProofs [hw]) (by simp -implicitDefEqProofs [hw]) (ih (i + 1) ?_ ?_)
      · omega
      · omega
  have : i = ks.length := by omega
  subst this
  clear ih
  (repeat (first | refine Run.seq ?_ | refine Run.reg ?_ | refine Run.skip ?_ | refine Run.block ?_ | refine Run.endB ?_ | refine Run.opE rfl ?_ | (apply Run.op0 rfl; (· (simp -implicitDefEqProofs; exact ⟨rfl, rfl⟩))) | (apply Run.opA rfl; (· (simp -implicitDefEqProofs; done)); (· (simp -implicitDefEqProofs; exact ⟨rfl, rfl⟩))) | (apply Run.opN rfl; (· (simp -implicitDefEqProofs; done))) | (refine Run.condT ?_ ?_; (· (simp -implicitDefEqProofs; done))) | (refine Run.condF ?_ ?_; (· (simp -implicitDefEqProofs; done))) | refine Run.exit rfl ?_))
  refine Run.opF [] (filled_tri ks (by omega)) rfl (by simp -implicitDefEqProofs) rfl (by simp -implicitDefEqProofs) (by decide) (by rfl) (by simp -implicitDefEqProofs) ?_
  rintro v0 Hs' ⟨rfl, rfl⟩
  obtain ⟨hr, hl, hlk⟩ := fil_spec ks 0 [] List.Pairwise.nil
  change RiseK (filM ks) at hr
  change (filM ks).length ≤ _ at hl
  have hlk' : ∀ x ∈ ks, ∃ n : Nat, lastOf ks 0 x = some (n : Int) ∧ getB 0 (filM ks) x = ((n : Int), true) := by
    intro x hx
    obtain ⟨n, h1, -⟩ := lastOf_mem x ks 0 hx
    refine ⟨n, h1, ?_⟩
    have := hlk x
    rw [h1] at this
    rw [get_look 0 hr, show look (filM ks) x = some (n : Int) from this]
  clear hlk
  generalize filM ks = l at *
  simp only [List.length_nil, Nat.zero_add] at hl
  have hl' : l.length ≤ 100000 := by omega
  (repeat (first | refine Run.seq ?_ | refine Run.reg ?_ | refine Run.skip ?_ | refine Run.block ?_ | refine Run.endB ?_ | refine Run.opE rfl ?_ | (apply Run.op0 rfl; (· (simp -implicitDefEqProofs [encM]; exact ⟨rfl, rfl⟩))) | (apply Run.opA rfl; (· (simp -implicitDefEqProofs [encM]; done)); (· (simp -implicitDefEqProofs [encM]; exact ⟨rfl, rfl⟩))) | (apply Run.opN rfl; (· (simp -implicitDefEqProofs [encM]; done))) | (refine Run.condT ?_ ?_; (· (simp -implicitDefEqProofs [encM]; done))) | (refine Run.condF ?_ ?_; (· (simp -implicitDefEqProofs [encM]; done))) | refine Run.exit rfl ?_))
  refine Run.opF [0, 1] (keys_tri l hl' hr [] 1000) rfl (by simp -implicitDefEqProofs [mapHi]) rfl (by simp -implicitDefEqProofs [mapHi]) (by decide) (by rfl) (by simp -implicitDefEqProofs [mapHi]) ?_
  rintro v0 Hs' ⟨rfl, rfl⟩
  rw [keysM_all l (by omega)]
  have hLr : ∀ {i : Nat} {x y : Bs}, (l.map (·.1))[i]? = some x → (l.map (·.1))[i + 1]? = some y → Op.bytesLess x y = true := by
    intro i x y h1 h2
    rw [List.getElem?_map, Option.map_eq_some_iff] at h1 h2
    obtain ⟨p, hp, rfl⟩ := h1
    obtain ⟨q, hq, rfl⟩ := h2
    obtain ⟨hi1, rfl⟩ := List.getElem?_eq_some_iff.1 hp
    obtain ⟨hi2, rfl⟩ := List.getElem?_eq_some_iff.1 hq
    exact List.pairwise_iff_getElem.1 hr i (i + 1) hi1 hi2 (by omega)
  have hLl : (l.map (·.1)).length = l.length := by simp
  generalize l.map (·.1) = L at *
  (repeat (first | refine Run.seq ?_ | refine Run.reg ?_ | refine Run.skip ?_ | refine Run.block ?_ | refine Run.endB ?_ | refine Run.opE rfl ?_ | (apply Run.op0 rfl; (· (simp -implicitDefEqProofs; exact ⟨rfl, rfl⟩))) | (apply Run.opA rfl; (· (simp -implicitDefEqProofs; done)); (· (simp -implicitDefEqProofs; exact ⟨rfl, rfl⟩))) | (apply Run.opN rfl; (· (simp -implicitDefEqProofs; done))) | (refine Run.condT ?_ ?_; (· (simp -implicitDefEqProofs; done))) | (refine Run.condF ?_ ?_; (· (simp -implicitDefEqProofs; done))) | refine Run.exit rfl ?_))
  refine Run.loopC [0, 1] (fun (i : Nat) => ([(0, .vs (ks.map encS) 1), (4, .ptr 0 0), (7, .vs (L.map encS) 1), (8, .int .i64 i)], mapHi l)) (fun i => i ≤ L.length) (fun i => L.length - i) 0 (by simp) (by rfl) (by decide) (by simp) (by simp [mapHi]) ?_
  intro i hi ih
  by_cases hlt : i < L.length
  · obtain ⟨x, hx, hxi, -, -⟩ := getL hlt
    have hw := wrap_small (n := (i : Int) + 1) (by omega) (by omega)
    by_cases hz : i = 0
    · subst hz
      have hw0 := wrap_small (n := 1) (by omega) (by omega)
      (repeat (first | refine Run.seq ?_ | refine Run.reg ?_ | refine Run.skip ?_ | refine Run.block ?_ | refine Run.endB ?_ | refine Run.opE rfl ?_ | (apply Run.op0 rfl; (· (simp -implicitDefEqProofs [hlt, hx, hxi, encS]; exact ⟨rfl, rfl⟩))) | (apply Run.opA rfl; (· (simp -implicitDefEqProofs [hlt, hx, hxi, encS]; done)); (· (simp -implicitDefEqProofs [hlt, hx, hxi, encS]; exact ⟨rfl, rfl⟩))) | (apply Run.opN rfl; (· (simp -implicitDefEqProofs [hlt, hx, hxi, encS]; done))) | (refine Run.condT ?_ ?_; (· (simp -implicitDefEqProofs [hlt, hx, hxi, encS]; done))) | (refine Run.condF ?_ ?_; (· (simp -implicitDefEqProofs [hlt, hx, hxi, encS]; done))) | refine Run.exit rfl ?_))
      refine Run.drawn prog_mixed ?_
      show RunD _ c4d0 [0, 1, 2, 3, 4, 5, 6, 7, 8, 9, 10, 11, 12, 13] [] _ _ _
      refine RunD.flow [0, 1, 2, 3, 4, 5, 6, 7, 8, 9, 10, 11, 12, 13] (by kernel_rfl) (by decide +kernel) (by decide +kernel) (by decide) trivial ?_; (repeat (first | refine execQ_E rfl ?_ | (apply execQ_0 rfl; (· rfl); (· (simp -implicitDefEqProofs [hlt, hx, hxi, encS]; exact ⟨rfl, rfl⟩))) | (apply execQ_A rfl; (· (simp -implicitDefEqProofs [hlt, hx, hxi, encS]; done)); (· rfl); (· (simp -implicitDefEqProofs [hlt, hx, hxi, encS]; exact ⟨rfl, rfl⟩))) | (apply execQ_N rfl; (· (simp -implicitDefEqProofs [hlt, hx, hxi, encS]; done))))); intro hpo
      refine RunD.fin (by kernel_rfl) hpo ?_
      (repeat (first | refine Run.seq ?_ | refine Run.reg ?_ | refine Run.skip ?_ | refine Run.block ?_ | refine Run.endB ?_ | refine Run.opE rfl ?_ | (apply Run.op0 rfl; (· (simp -implicitDefEqProofs; exact ⟨rfl, rfl⟩))) | (apply Run.opA rfl; (· (simp -implicitDefEqProofs; done)); (· (simp -implicitDefEqProofs; exact ⟨rfl, rfl⟩))) | (apply Run.opN rfl; (· (simp -implicitDefEqProofs; done))) | (refine Run.condT ?_ ?_; (· (simp -implicitDefEqProofs; done))) | (refine Run.condF ?_ ?_; (· (simp -implicitDefEqProofs; done))) | refine Run.exit rfl ?_))
      refine Run.mv [0, 1] _ _ (by rfl) (by decide) (by simp -implicitDefEqProofs [mapHi, hw0]) (by simp -implicitDefEqProofs [mapHi, hw0]) (ih (1) ?_ ?_)
      · omega
      · omega
    · have hlt2 : i - 1 < L.length := by omega
      obtain ⟨y, hy, hyi, -, -⟩ := getL hlt2
      have hls := hLr hy (by rw [show i - 1 + 1 = i by omega]; exact hx)
      have hpos : 0 < i := by omega
      have hw2 : IntKind.i64.wrap ((i : Int) - 1) = ((i - 1 : Nat) : Int) := by
        rw [wrap_small (n := (i : Int) - 1) (by omega) (by omega)]; omega
      (repeat (first | refine Run.seq ?_ | refine Run.reg ?_ | refine Run.skip ?_ | refine Run.block ?_ | refine Run.endB ?_ | refine Run.opE rfl ?_ | (apply Run.op0 rfl; (· (simp -implicitDefEqProofs [hlt, hx, hxi, encS]; exact ⟨rfl, rfl⟩))) | (apply Run.opA rfl; (· (simp -implicitDefEqProofs [hlt, hx, hxi, encS]; done)); (· (simp -implicitDefEqProofs [hlt, hx, hxi, encS]; exact ⟨rfl, rfl⟩))) | (apply Run.opN rfl; (· (simp -implicitDefEqProofs [hlt, hx, hxi, encS]; done))) | (refine Run.condT ?_ ?_; (· (simp -implicitDefEqProofs [hlt, hx, hxi, encS]; done))) | (refine Run.condF ?_ ?_; (· (simp -implicitDefEqProofs [hlt, hx, hxi, encS]; done))) | refine Run.exit rfl ?_))
      refine Run.drawn prog_mixed ?_
      show RunD _ c4d0 [0, 1, 2, 3, 4, 5, 6, 7, 8, 9, 10, 11, 12, 13] [] _ _ _
      refine RunD.flow [0, 1, 2, 3, 4, 5, 6, 7, 8, 9, 10, 11, 12, 13] (by kernel_rfl) (by decide +kernel) (by decide +kernel) (by decide) trivial ?_; (repeat (first | refine execQ_E rfl ?_ | (apply execQ_0 rfl; (· rfl); (· (simp -implicitDefEqProofs [hlt, hpos, hx, hxi, hy, hyi, hlt2, hls, hw2, encS]; exact ⟨rfl, rfl⟩))) | (apply execQ_A rfl; (· (simp -implicitDefEqProofs [hlt, hpos, hx, hxi, hy, hyi, hlt2, hls, hw2, encS]; done)); (· rfl); (· (simp -implicitDefEqProofs [hlt, hpos, hx, hxi, hy, hyi, hlt2, hls, hw2, encS]; exact ⟨rfl, rfl⟩))) | (apply execQ_N rfl; (· (simp -implicitDefEqProofs [hlt, hpos, hx, hxi, hy, hyi, hlt2, hls, hw2, encS]; done))))); intro hpo
      refine RunD.fin (by kernel_rfl) hpo ?_
      (repeat (first | refine Run.seq ?_ | refine Run.reg ?_ | refine Run.skip ?_ | refine Run.block ?_ | refine Run.endB ?_ | refine Run.opE rfl ?_ | (apply Run.op0 rfl; (· (simp -implicitDefEqProofs; exact ⟨rfl, rfl⟩))) | (apply Run.opA rfl; (· (simp -implicitDefEqProofs; done)); (· (simp -implicitDefEqProofs; exact ⟨rfl, rfl⟩))) | (apply Run.opN rfl; (· (simp -implicitDefEqProofs; done))) | (refine Run.condT ?_ ?_; (· (simp -implicitDefEqProofs; done))) | (refine Run.condF ?_ ?_; (· (simp -implicitDefEqProofs; done))) | refine Run.exit rfl ?_))
      refine Run.mv [0, 1] _ _ (by rfl) (by decide) (by simp -implicitDefEqProofs [mapHi, hw]) (by simp -implicitDefEqProofs [mapHi, hw]) (ih (i + 1) ?_ ?_)
      · omega
      · omega
  have : i = L.length := by omega
  subst this
  clear ih
  (repeat (first | refine Run.seq ?_ | refine Run.reg ?_ | refine Run.skip ?_ | refine Run.block ?_ | refine Run.endB ?_ | refine Run.opE rfl ?_ | (apply Run.op0 rfl; (· (simp -implicitDefEqProofs; exact ⟨rfl, rfl⟩))) | (apply Run.opA rfl; (· (simp -implicitDefEqProofs; done)); (· (simp -implicitDefEqProofs; exact ⟨rfl, rfl⟩))) | (apply Run.opN rfl; (· (simp -implicitDefEqProofs; done))) | (refine Run.condT ?_ ?_; (· (simp -implicitDefEqProofs; done))) | (refine Run.condF ?_ ?_; (· (simp -implicitDefEqProofs; done))) | refine Run.exit rfl ?_))
  refine Run.loopC [0, 1] (fun (i : Nat) => ([(0, .vs (ks.map encS) 1), (4, .ptr 0 0), (7, .vs (L.map encS) 1), (9, .int .i64 i)], mapHi l)) (fun i => i ≤ ks.length) (fun i => ks.length - i) 0 (by simp) (by rfl) (by decide) (by simp) (by simp [mapHi]) ?_
  intro i hi ihO
  by_cases hlt : i < ks.length
  · obtain ⟨x, hx, hxi, -, hxm⟩ := getL hlt
    obtain ⟨n, hn1, hn2⟩ := hlk' x hxm
    have hw := wrap_small (n := (i : Int) + 1) (by omega) (by omega)
    (repeat (first | refine Run.seq ?_ | refine Run.reg ?_ | refine Run.skip ?_ | refine Run.block ?_ | refine Run.endB ?_ | refine Run.opE rfl ?_ | (apply Run.op0 rfl; (· (simp -implicitDefEqProofs [hlt, hx, hxi, encS]; exact ⟨rfl, rfl⟩))) | (apply Run.opA rfl; (· (simp -implicitDefEqProofs [hlt, hx, hxi, encS]; done)); (· (simp -implicitDefEqProofs [hlt, hx, hxi, encS]; exact ⟨rfl, rfl⟩))) | (apply Run.opN rfl; (· (simp -implicitDefEqProofs [hlt, hx, hxi, encS]; done))) | (refine Run.condT ?_ ?_; (· (simp -implicitDefEqProofs [hlt, hx, hxi, encS]; done))) | (refine Run.condF ?_ ?_; (· (simp -implicitDefEqProofs [hlt, hx, hxi, encS]; done))) | refine Run.exit rfl ?_))
    refine Run.loopC [0, 1] (fun (p : Nat × Nat) => ([(0, .vs (ks.map encS) 1), (4, .ptr 0 0), (7, .vs (L.map encS) 1), (9, .int .i64 i), (10, .int .i64 p.2), (11, .int .i64 p.1)], mapHi l)) (fun p => i ≤ p.1 ∧ p.1 ≤ ks.length ∧ (p.1 = i → p.2 = i) ∧ (i < p.1 → lastOf (ks.take p.1) 0 x = some (p.2 : Int))) (fun p => ks.length - p.1) (i, i) (by simp; omega) (by rfl) (by decide) (by simp) (by simp [mapHi]) ?_
    rintro ⟨j, last⟩ ⟨hj1, hj2, hj3, hj4⟩ ih
    simp only at hj1 hj2 hj3 hj4
    by_cases hjl : j < ks.length
    · obtain ⟨y, hy, hyi, -, -⟩ := getL hjl
      have hwj := wrap_small (n := (j : Int) + 1) (by omega) (by omega)
      have hsn : lastOf (ks.take (j + 1)) 0 x = if y = x then some (j : Int) else lastOf (ks.take j) 0 x := by
        rw [List.take_add_one, hy]
        have := lastOf_snoc y x (ks.take j) 0
        rw [show ((0 + (ks.take j).length : Nat) : Int) = (j : Int) by simp; omega] at this
        exact this
      (repeat (first | refine Run.seq ?_ | refine Run.reg ?_ | refine Run.skip ?_ | refine Run.block ?_ | refine Run.endB ?_ | refine Run.opE rfl ?_ | (apply Run.op0 rfl; (· (simp -implicitDefEqProofs [hjl, hy, hyi]; exact ⟨rfl, rfl⟩))) | (apply Run.opA rfl; (· (simp -implicitDefEqProofs [hjl, hy, hyi]; done)); (· (simp -implicitDefEqProofs [hjl, hy, hyi]; exact ⟨rfl, rfl⟩))) | (apply Run.opN rfl; (· (simp -implicitDefEqProofs [hjl, hy, hyi]; done))) | (refine Run.condT ?_ ?_; (· (simp -implicitDefEqProofs [hjl, hy, hyi]; done))) | (refine Run.condF ?_ ?_; (· (simp -implicitDefEqProofs [hjl, hy, hyi]; done))) | refine Run.exit rfl ?_))
      refine Run.drawn prog_mixed ?_
      show RunD _ c4d1 [0, 1, 2, 3, 4, 5, 6, 7, 8] [] _ _ _
      refine RunD.flow [0, 1, 2, 3, 4, 5, 6, 7, 8] (by kernel_rfl) (by decide +kernel) (by decide +kernel) (by decide) trivial ?_; (repeat (first | refine execQ_E rfl ?_ | (apply execQ_0 rfl; (· rfl); (· (simp -implicitDefEqProofs [hlt, hjl, hx, hxi, hy, hyi, encS]; exact ⟨rfl, rfl⟩))) | (apply execQ_A rfl; (· (simp -implicitDefEqProofs [hlt, hjl, hx, hxi, hy, hyi, encS]; done)); (· rfl); (· (simp -implicitDefEqProofs [hlt, hjl, hx, hxi, hy, hyi, encS]; exact ⟨rfl, rfl⟩))) | (apply execQ_N rfl; (· (simp -implicitDefEqProofs [hlt, hjl, hx, hxi, hy, hyi, encS]; done))))); intro hpo
      refine RunD.fin (by kernel_rfl) hpo ?_
      by_cases hyx : y = x
      · (repeat (first | refine Run.seq ?_ | refine Run.reg ?_ | refine Run.skip ?_ | refine Run.block ?_ | refine Run.endB ?_ | refine Run.opE rfl ?_ | (apply Run.op0 rfl; (· (simp -implicitDefEqProofs [hyx]; exact ⟨rfl, rfl⟩))) | (apply Run.opA rfl; (· (simp -implicitDefEqProofs [hyx]; done)); (· (simp -implicitDefEqProofs [hyx]; exact ⟨rfl, rfl⟩))) | (apply Run.opN rfl; (· (simp -implicitDefEqProofs [hyx]; done))) | (refine Run.condT ?_ ?_; (· (simp -implicitDefEqProofs [hyx]; done))) | (refine Run.condF ?_ ?_; (· (simp -implicitDefEqProofs [hyx]; done))) | refine Run.exit rfl ?_))
        refine Run.mv [0, 1] _ _ (by rfl) (by decide) (by simp -implicitDefEqProofs [hwj, mapHi]) (by simp -implicitDefEqProofs [hwj, mapHi]) (ih ((j + 1, j)) ?_ ?_)
        · exact ⟨by omega, by omega, by omega, fun _ => by rw [hsn, if_pos hyx]⟩
        · omega
      · (repeat (first | refine Run.seq ?_ | refine Run.reg ?_ | refine Run.skip ?_ | refine Run.block ?_ | refine Run.endB ?_ | refine Run.opE rfl ?_ | (apply Run.op0 rfl; (· (simp -implicitDefEqProofs [hyx]; exact ⟨rfl, rfl⟩))) | (apply Run.opA rfl; (· (simp -implicitDefEqProofs [hyx]; done)); (· (simp -implicitDefEqProofs [hyx]; exact ⟨rfl, rfl⟩))) | (apply Run.opN rfl; (· (simp -implicitDefEqProofs [hyx]; done))) | (refine Run.condT ?_ ?_; (· (simp -implicitDefEqProofs [hyx]; done))) | (refine Run.condF ?_ ?_; (· (simp -implicitDefEqProofs [hyx]; done))) | refine Run.exit rfl ?_))
        refine Run.mv [0, 1] _ _ (by rfl) (by decide) (by simp -implicitDefEqProofs [hwj, mapHi]) (by simp -implicitDefEqProofs [hwj, mapHi]) (ih ((j + 1, last)) ?_ ?_)
        · refine ⟨by omega, by omega, by omega, fun _ => ?_⟩
          rw [hsn, if_neg hyx]
          refine hj4 ?_
          rcases Nat.lt_or_eq_of_le hj1 with h | h
          · exact h
          · subst h; rw [hx] at hy; exact absurd (Option.some.inj hy).symm hyx
        · omega
    · have : j = ks.length := by omega
      subst this
      have hls := hj4 hlt
      rw [List.take_length, hn1] at hls
      obtain rfl : n = last := by have := Option.some.inj hls; omega
      clear ih
      have ih := ihO
      have hgt := geti_tri l hl' hr x
      rw [hn2] at hgt
      (repeat (first | refine Run.seq ?_ | refine Run.reg ?_ | refine Run.skip ?_ | refine Run.block ?_ | refine Run.endB ?_ | refine Run.opE rfl ?_ | (apply Run.op0 rfl; (· (simp -implicitDefEqProofs [hlt, hx, hxi, encS]; exact ⟨rfl, rfl⟩))) | (apply Run.opA rfl; (· (simp -implicitDefEqProofs [hlt, hx, hxi, encS]; done)); (· (simp -implicitDefEqProofs [hlt, hx, hxi, encS]; exact ⟨rfl, rfl⟩))) | (apply Run.opN rfl; (· (simp -implicitDefEqProofs [hlt, hx, hxi, encS]; done))) | (refine Run.condT ?_ ?_; (· (simp -implicitDefEqProofs [hlt, hx, hxi, encS]; done))) | (refine Run.condF ?_ ?_; (· (simp -implicitDefEqProofs [hlt, hx, hxi, encS]; done))) | refine Run.exit rfl ?_))
      refine Run.opF [0, 1] (hgt) rfl (by simp -implicitDefEqProofs [mapHi]) rfl (by simp -implicitDefEqProofs [mapHi]) (by decide) (by rfl) (by simp -implicitDefEqProofs [mapHi]) ?_
      rintro v0 Hs' ⟨rfl, rfl⟩
      (repeat (first | refine Run.seq ?_ | refine Run.reg ?_ | refine Run.skip ?_ | refine Run.block ?_ | refine Run.endB ?_ | refine Run.opE rfl ?_ | (apply Run.op0 rfl; (· (simp -implicitDefEqProofs; exact ⟨rfl, rfl⟩))) | (apply Run.opA rfl; (· (simp -implicitDefEqProofs; done)); (· (simp -implicitDefEqProofs; exact ⟨rfl, rfl⟩))) | (apply Run.opN rfl; (· (simp -implicitDefEqProofs; done))) | (refine Run.condT ?_ ?_; (· (simp -implicitDefEqProofs; done))) | (refine Run.condF ?_ ?_; (· (simp -implicitDefEqProofs; done))) | refine Run.exit rfl ?_))
      refine Run.mv [0, 1] _ _ (by rfl) (by decide) (by simp -implicitDefEqProofs [hw, mapHi]) (by simp -implicitDefEqProofs [hw, mapHi]) (ih (i + 1) ?_ ?_)
      · omega
      · omega
  have : i = ks.length := by omega
  subst this
  (repeat (first | refine Run.seq ?_ | refine Run.reg ?_ | refine Run.skip ?_ | refine Run.block ?_ | refine Run.endB ?_ | refine Run.opE rfl ?_ | (apply Run.op0 rfl; (· (simp -implicitDefEqProofs; exact ⟨rfl, rfl⟩))) | (apply Run.opA rfl; (· (simp -implicitDefEqProofs; done)); (· (simp -implicitDefEqProofs; exact ⟨rfl, rfl⟩))) | (apply Run.opN rfl; (· (simp -implicitDefEqProofs; done))) | (refine Run.condT ?_ ?_; (· (simp -implicitDefEqProofs; done))) | (refine Run.condF ?_ ?_; (· (simp -implicitDefEqProofs; done))) | refine Run.exit rfl ?_))
  refine Run.opF [0, 1] (len_tri l) rfl (by simp -implicitDefEqProofs [mapHi]) rfl (by simp -implicitDefEqProofs [mapHi]) (by decide) (by rfl) (by simp -implicitDefEqProofs [mapHi]) ?_
  rintro v0 Hs' ⟨rfl, rfl⟩
  (repeat (first | refine Run.seq ?_ | refine Run.reg ?_ | refine Run.skip ?_ | refine Run.block ?_ | refine Run.endB ?_ | refine Run.opE rfl ?_ | (apply Run.op0 rfl; (· (simp -implicitDefEqProofs [hLl]; exact ⟨rfl, rfl⟩))) | (apply Run.opA rfl; (· (simp -implicitDefEqProofs [hLl]; done)); (· (simp -implicitDefEqProofs [hLl]; exact ⟨rfl, rfl⟩))) | (apply Run.opN rfl; (· (simp -implicitDefEqProofs [hLl]; done))) | (refine Run.condT ?_ ?_; (· (simp -implicitDefEqProofs [hLl]; done))) | (refine Run.condF ?_ ?_; (· (simp -implicitDefEqProofs [hLl]; done))) | refine Run.exit rfl ?_))
  refine Run.opF [0, 1] (keys_tri l hl' hr [] (-1)) rfl (by simp -implicitDefEqProofs [mapHi]) rfl (by simp -implicitDefEqProofs [mapHi]) (by decide) (by rfl) (by simp -implicitDefEqProofs [mapHi]) ?_
  rintro v0 Hs' ⟨rfl, rfl⟩
  rw [keysM_neg]
  (repeat (first | refine Run.seq ?_ | refine Run.reg ?_ | refine Run.skip ?_ | refine Run.block ?_ | refine Run.endB ?_ | refine Run.opE rfl ?_ | (apply Run.op0 rfl; (· (simp -implicitDefEqProofs; exact ⟨rfl, rfl⟩))) | (apply Run.opA rfl; (· (simp -implicitDefEqProofs; done)); (· (simp -implicitDefEqProofs; exact ⟨rfl, rfl⟩))) | (apply Run.opN rfl; (· (simp -implicitDefEqProofs; done))) | (refine Run.condT ?_ ?_; (· (simp -implicitDefEqProofs; done))) | (refine Run.condF ?_ ?_; (· (simp -implicitDefEqProofs; done))) | refine Run.exit rfl ?_))
  refine Run.opC rfl (by simp) rfl (awake_at _) ?_
  rintro v h' ⟨rfl, rfl⟩
  (repeat (first | refine Run.seq ?_ | refine Run.reg ?_ | refine Run.skip ?_ | refine Run.block ?_ | refine Run.endB ?_ | refine Run.opE rfl ?_ | (apply Run.op0 rfl; (· (simp -implicitDefEqProofs; exact ⟨rfl, rfl⟩))) | (apply Run.opA rfl; (· (simp -implicitDefEqProofs; done)); (· (simp -implicitDefEqProofs; exact ⟨rfl, rfl⟩))) | (apply Run.opN rfl; (· (simp -implicitDefEqProofs; done))) | (refine Run.condT ?_ ?_; (· (simp -implicitDefEqProofs; done))) | (refine Run.condF ?_ ?_; (· (simp -implicitDefEqProofs; done))) | refine Run.exit rfl ?_))
  exact hend trivial (by simp)

end Go.Proofs.Ytoopckhogehdmaa
