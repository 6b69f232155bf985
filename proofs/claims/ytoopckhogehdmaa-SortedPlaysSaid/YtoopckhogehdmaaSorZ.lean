/-
  Layer 07: the law SortedPlays.
-/
import Derived.Test.YtoopckhogehdmaaSorY
namespace Go.Proofs.Ytoopckhogehdmaa
open Sx Go
set_option maxRecDepth 100000
set_option linter.unusedSimpArgs false
set_option linter.unusedVariables false
set_option linter.unnecessarySimpa false
attribute [local simp] boundsC appendG appendO copyV srcC guardB isCall opStep Opd.ev put readAt aBin aUn args0 V.celled V.ones V.one V.cells putAt bounds bound1 elemsOf srcOf appendV fillAt fillEl V.pures V.pure unwind evs ARes.ev mkRes V.ren V.renL O.ren eqCells eq1 aEq aMM hasTy hasTyN okTy mmGo Known HLe OLe VsLe.refl VLe.refl VLe.cap Stay VsLe V.frz V.frzL O.frz fr clearV rn KnownR Objs OLeO ObjsE nm back setAll ren_ite take_map_len List.take_of_length_le
attribute [local simp ↓] upd_app tl_cons tl_nil
attribute [local simp] encItI_ren encItI_ones encItI_len encItI_take encItS_ren encItS_ones encItS_len encItS_take encS_ren encS_ones encS_len encS_take
attribute [local simp] encI_ren encI_ones encI_len encI_take encK_ren encK_ones encK_len encK_take encW_ren encW_ones encW_len encW_take

structure OpE where
  kind : Int
  n : Int
  key : Bs
  lo : -9223372036854775808 ≤ n
  hi : n ≤ 9223372036854775807
def encO (o : OpE) : List V := [.int .i64 o.kind, .int .i64 o.n, .str o.key]
theorem encO_ren (ρ) (s : OpE) : V.renL ρ (encO s) = encO s := rfl
theorem encO_ones (s) : V.ones (encO s) = true := rfl
theorem encO_len (s) : (encO s).length = 3 := rfl
theorem encO_take (s) : (encO s).take 3 = encO s := rfl
attribute [local simp] encO_ren encO_ones encO_len encO_take

theorem dec_op (e : List V) (h : VShs [.i .i64, .i .i64, .s] e) : ∃ x : OpE, e = encO x := by
  obtain ⟨a1, r1, rfl, g1, h1⟩ := dec_cons h; obtain ⟨n1, rfl, _⟩ := dec_i g1
  obtain ⟨a2, r2, rfl, g2, h2⟩ := dec_cons h1; obtain ⟨n2, rfl, hw⟩ := dec_i g2
  obtain ⟨a3, r3, rfl, g3, h3⟩ := dec_cons h2; obtain ⟨s, rfl⟩ := dec_s g3
  obtain rfl := dec_nil h3
  have : -9223372036854775808 ≤ n2 ∧ n2 ≤ 9223372036854775807 := by
    simp only [Lit.wf, Bool.and_eq_true, decide_eq_true_eq] at hw
    exact hw
  exact ⟨⟨n1, n2, s, this.1, this.2⟩, rfl⟩
theorem dec_ops {v : V} (h : VSh (.l [.i .i64, .i .i64, .s]) v) : ∃ l : List OpE, v = .vs (l.map encO) 3 := dec_sl rfl dec_op h

theorem keysM_from (l : KV) (key : Bs) (most : Int) : ((l.drop (lowB l key)).take (mostN l key most)).map (·.1) = keysM l key most := by
  have hlow := lowB_le l key
  rw [keysM, mostN, List.map_take]
  split
  · rename_i h
    rw [show (max 0 (min most ((l.length : Int) - lowB l key))).toNat = 0 by omega, List.take_zero]
  · rename_i h
    by_cases h2 : most ≤ (l.length : Int) - lowB l key
    · congr 1; omega
    · rw [List.take_of_length_le (by simp; omega), List.take_of_length_le (by simp; omega)]

theorem tri_keep {P : Program} {f : FuncId} {av : List V} {v0 : V} (l : KV) (h : Tri P f av (mapHi l) (fun v H => v = v0 ∧ H = mapHi l)) (hp : v0.pure = true) (X : List O)
    (ha : V.renL (nm [0, 1] (mapHi l ++ X).length) av = av) : Tri P f av (mapHi l ++ X) (fun v H' => v = v0 ∧ H' = mapHi l ++ X) := by
  refine (h.held [0, 1] ha.symm (by decide) (by rfl) (by simp [mapHi])).mono ?_
  rintro v H' ⟨v1, H1, ⟨rfl, rfl⟩, rfl, rfl⟩
  exact ⟨V.ren_pure _ _ hp, by simp [mapHi, back]⟩

/-- the map behind a call -/
def nxtO (l : KV) (o : OpE) : KV := if o.kind = 1 then putL l o.key o.n else if o.kind = 3 then dropL l o.key else l

theorem plays_law (l : List OpE) : Tri Try.prog 5 [.vs (l.map encO) 3] [] (fun v H => v = .bool true ∧ H = []) := by
  refine Tri.of_run' Try.func5 rfl c5_ok (by simp [Try.ntmps5]) ?_
  have hend : ∀ {k t h}, AtEnd k → t 2 = .bool true → Run ⟨Try.prog, 5, Try.f5.ntmps, [], fun v H => v = .bool true ∧ H = []⟩ ⟨k, t, h⟩ := by
    intro k t h hk h6
    refine Run.mv [] [(2, .bool true)] [] (by rfl) (by decide) (by simp [h6]) (by simp) ?_
    refine Run.ret0 rfl Try.func5 r5_ok hk (by simp [r5]; rfl) ?_ (by simp)
    simp
  have hnil : VLe (V.agg [.nils, .nils]) (.agg [.vs [] 1, .vs [] 1]) := VLe.agg ⟨VLe.nils 1, VLe.nils 1, trivial⟩
  (repeat (first | refine Run.seq ?_ | refine Run.reg ?_ | refine Run.skip ?_ | refine Run.block ?_ | refine Run.endB ?_ | refine Run.opE rfl ?_ | (apply Run.op0 rfl; (· (simp -implicitDefEqProofs; exact ⟨rfl, rfl⟩))) | (apply Run.opA rfl; (· (simp -implicitDefEqProofs; done)); (· (simp -implicitDefEqProofs; exact ⟨rfl, rfl⟩))) | (apply Run.opN rfl; (· (simp -implicitDefEqProofs; done))) | (refine Run.condT ?_ ?_; (· (simp -implicitDefEqProofs; done))) | (refine Run.condF ?_ ?_; (· (simp -implicitDefEqProofs; done))) | refine Run.exit rfl ?_))
  refine Run.opF [] (newi_tri) rfl (by simp -implicitDefEqProofs) rfl (by simp -implicitDefEqProofs) (by decide) (by rfl) (by simp -implicitDefEqProofs) ?_
  rintro v0 Hs' ⟨rfl, rfl⟩
  refine Run.nilC 0 1 2 0 rfl rfl ?_
  (repeat (first | refine Run.seq ?_ | refine Run.reg ?_ | refine Run.skip ?_ | refine Run.block ?_ | refine Run.endB ?_ | refine Run.opE rfl ?_ | (apply Run.op0 rfl; (· (simp -implicitDefEqProofs; exact ⟨rfl, rfl⟩))) | (apply Run.opA rfl; (· (simp -implicitDefEqProofs; done)); (· (simp -implicitDefEqProofs; exact ⟨rfl, rfl⟩))) | (apply Run.opN rfl; (· (simp -implicitDefEqProofs; done))) | (refine Run.condT ?_ ?_; (· (simp -implicitDefEqProofs; done))) | (refine Run.condF ?_ ?_; (· (simp -implicitDefEqProofs; done))) | refine Run.exit rfl ?_))
  refine Run.loopC [0, 1, 3] (fun (a : Nat × KV) => ([(0, .vs (l.map encO) 3), (3, .ptr 0 0), (4, .ptr 2 0), (5, .int .i64 a.1)], mapHi a.2 ++ [.row (encM a.2)])) (fun a => a.1 ≤ l.length ∧ a.1 ≤ 200 ∧ RiseK a.2 ∧ a.2.length ≤ a.1) (fun a => l.length - a.1) (0, []) (by simp; exact List.Pairwise.nil) (by rfl) (by decide) (by simp) (by simp [mapHi, encM, VLe.nils]) ?_
  rintro ⟨i, m⟩ ⟨hi, hi2, hr, hml⟩ ih
  simp only at hi hi2 hr hml ih ⊢
  by_cases hlt : i < l.length ∧ i < 200
  rotate_left
  · by_cases h1 : i < l.length
    · have h2 : ¬ i < 200 := fun h => hlt ⟨h1, h⟩
      have h2' : ¬ (i : Int) < 200 := by omega
      have h1' : (i : Int) < l.length := by omega
      (repeat (first | refine Run.seq ?_ | refine Run.reg ?_ | refine Run.skip ?_ | refine Run.block ?_ | refine Run.endB ?_ | refine Run.opE rfl ?_ | (apply Run.op0 rfl; (· (simp -implicitDefEqProofs [h1, h1', h2, h2']; exact ⟨rfl, rfl⟩))) | (apply Run.opA rfl; (· (simp -implicitDefEqProofs [h1, h1', h2, h2']; done)); (· (simp -implicitDefEqProofs [h1, h1', h2, h2']; exact ⟨rfl, rfl⟩))) | (apply Run.opN rfl; (· (simp -implicitDefEqProofs [h1, h1', h2, h2']; done))) | (refine Run.condT ?_ ?_; (· (simp -implicitDefEqProofs [h1, h1', h2, h2']; done))) | (refine Run.condF ?_ ?_; (· (simp -implicitDefEqProofs [h1, h1', h2, h2']; done))) | refine Run.exit rfl ?_))
      refine Run.opC rfl rfl rfl (awake_at _) ?_
      rintro v h' ⟨rfl, rfl⟩
      (repeat (first | refine Run.seq ?_ | refine Run.reg ?_ | refine Run.skip ?_ | refine Run.block ?_ | refine Run.endB ?_ | refine Run.opE rfl ?_ | (apply Run.op0 rfl; (· (simp -implicitDefEqProofs; exact ⟨rfl, rfl⟩))) | (apply Run.opA rfl; (· (simp -implicitDefEqProofs; done)); (· (simp -implicitDefEqProofs; exact ⟨rfl, rfl⟩))) | (apply Run.opN rfl; (· (simp -implicitDefEqProofs; done))) | (refine Run.condT ?_ ?_; (· (simp -implicitDefEqProofs; done))) | (refine Run.condF ?_ ?_; (· (simp -implicitDefEqProofs; done))) | refine Run.exit rfl ?_))
      exact hend trivial (by simp)
    · have h1' : ¬ (i : Int) < l.length := by omega
      (repeat (first | refine Run.seq ?_ | refine Run.reg ?_ | refine Run.skip ?_ | refine Run.block ?_ | refine Run.endB ?_ | refine Run.opE rfl ?_ | (apply Run.op0 rfl; (· (simp -implicitDefEqProofs [h1, h1']; exact ⟨rfl, rfl⟩))) | (apply Run.opA rfl; (· (simp -implicitDefEqProofs [h1, h1']; done)); (· (simp -implicitDefEqProofs [h1, h1']; exact ⟨rfl, rfl⟩))) | (apply Run.opN rfl; (· (simp -implicitDefEqProofs [h1, h1']; done))) | (refine Run.condT ?_ ?_; (· (simp -implicitDefEqProofs [h1, h1']; done))) | (refine Run.condF ?_ ?_; (· (simp -implicitDefEqProofs [h1, h1']; done))) | refine Run.exit rfl ?_))
      refine Run.opC rfl rfl rfl (awake_at _) ?_
      rintro v h' ⟨rfl, rfl⟩
      (repeat (first | refine Run.seq ?_ | refine Run.reg ?_ | refine Run.skip ?_ | refine Run.block ?_ | refine Run.endB ?_ | refine Run.opE rfl ?_ | (apply Run.op0 rfl; (· (simp -implicitDefEqProofs; exact ⟨rfl, rfl⟩))) | (apply Run.opA rfl; (· (simp -implicitDefEqProofs; done)); (· (simp -implicitDefEqProofs; exact ⟨rfl, rfl⟩))) | (apply Run.opN rfl; (· (simp -implicitDefEqProofs; done))) | (refine Run.condT ?_ ?_; (· (simp -implicitDefEqProofs; done))) | (refine Run.condF ?_ ?_; (· (simp -implicitDefEqProofs; done))) | refine Run.exit rfl ?_))
      exact hend trivial (by simp)
  obtain ⟨h1, h2⟩ := hlt
  have h1' : (i : Int) < l.length := by omega
  have h2' : (i : Int) < 200 := by omega
  obtain ⟨o, hx, hxi, -, -⟩ := getL h1
  have hw := wrap_small (n := (i : Int) + 1) (by omega) (by omega)
  by_cases hkl : 512 < o.key.length
  · have hkl' : (512 : Int) < o.key.length := by omega
    (repeat (first | refine Run.seq ?_ | refine Run.reg ?_ | refine Run.skip ?_ | refine Run.block ?_ | refine Run.endB ?_ | refine Run.opE rfl ?_ | (apply Run.op0 rfl; (· (simp -implicitDefEqProofs [h1, h1', h2, h2', hx, hxi, encO, hkl, hkl']; exact ⟨rfl, rfl⟩))) | (apply Run.opA rfl; (· (simp -implicitDefEqProofs [h1, h1', h2, h2', hx, hxi, encO, hkl, hkl']; done)); (· (simp -implicitDefEqProofs [h1, h1', h2, h2', hx, hxi, encO, hkl, hkl']; exact ⟨rfl, rfl⟩))) | (apply Run.opN rfl; (· (simp -implicitDefEqProofs [h1, h1', h2, h2', hx, hxi, encO, hkl, hkl']; done))) | (refine Run.condT ?_ ?_; (· (simp -implicitDefEqProofs [h1, h1', h2, h2', hx, hxi, encO, hkl, hkl']; done))) | (refine Run.condF ?_ ?_; (· (simp -implicitDefEqProofs [h1, h1', h2, h2', hx, hxi, encO, hkl, hkl']; done))) | refine Run.exit rfl ?_))
    refine Run.opC rfl rfl rfl (awake_at _) ?_
    rintro v h' ⟨rfl, rfl⟩
    (repeat (first | refine Run.seq ?_ | refine Run.reg ?_ | refine Run.skip ?_ | refine Run.block ?_ | refine Run.endB ?_ | refine Run.opE rfl ?_ | (apply Run.op0 rfl; (· (simp -implicitDefEqProofs; exact ⟨rfl, rfl⟩))) | (apply Run.opA rfl; (· (simp -implicitDefEqProofs; done)); (· (simp -implicitDefEqProofs; exact ⟨rfl, rfl⟩))) | (apply Run.opN rfl; (· (simp -implicitDefEqProofs; done))) | (refine Run.condT ?_ ?_; (· (simp -implicitDefEqProofs; done))) | (refine Run.condF ?_ ?_; (· (simp -implicitDefEqProofs; done))) | refine Run.exit rfl ?_))
    exact hend trivial (by simp)
  have hkl' : ¬ (512 : Int) < o.key.length := by omega
  have hm' : m.length ≤ 100000 := by omega
  obtain ⟨m', hm1⟩ : ∃ m', m' = nxtO m o := ⟨_, rfl⟩
  have hr' : RiseK m' := by
    rw [hm1]; unfold nxtO; split
    · exact putL_rise hr _ _
    · split
      · exact dropL_rise hr _
      · exact hr
  have hml' : m'.length ≤ i + 1 := by
    rw [hm1]; unfold nxtO; split
    · have := putL_len m o.key o.n; omega
    · split
      · have := dropL_len m o.key; omega
      · omega
  have hrg := rget_at m (by omega) o.key
  have hrp := rput_at m hm' o.key o.n
  have hrd := rdrop_at m hm' o.key
  have hrf := rfrom_at m hm' o.key o.n o.lo o.hi
  simp only [encM] at hrg hrp hrd hrf
  unfold mapHi
  (repeat (first | refine Run.seq ?_ | refine Run.reg ?_ | refine Run.skip ?_ | refine Run.block ?_ | refine Run.endB ?_ | refine Run.opE rfl ?_ | (apply Run.op0 rfl; (· (simp -implicitDefEqProofs [h1, h1', h2, h2', hx, hxi, encO, encM, hkl, hkl']; exact ⟨rfl, rfl⟩))) | (apply Run.opA rfl; (· (simp -implicitDefEqProofs [h1, h1', h2, h2', hx, hxi, encO, encM, hkl, hkl']; done)); (· (simp -implicitDefEqProofs [h1, h1', h2, h2', hx, hxi, encO, encM, hkl, hkl']; exact ⟨rfl, rfl⟩))) | (apply Run.opN rfl; (· (simp -implicitDefEqProofs [h1, h1', h2, h2', hx, hxi, encO, encM, hkl, hkl']; done))) | (refine Run.condT ?_ ?_; (· (simp -implicitDefEqProofs [h1, h1', h2, h2', hx, hxi, encO, encM, hkl, hkl']; done))) | (refine Run.condF ?_ ?_; (· (simp -implicitDefEqProofs [h1, h1', h2, h2', hx, hxi, encO, encM, hkl, hkl']; done))) | refine Run.exit rfl ?_))
  refine Run.join [(0, .vs (l.map encO) 3), (3, .ptr 0 0), (4, .ptr 2 0), (5, .int .i64 i)] (mapHi m' ++ [.row (encM m')]) ?_ ?_
  rotate_left
  · intro k hk
    by_cases hk1 : o.kind = 1
    · have hn1 : m' = putL m o.key o.n := by rw [hm1, nxtO, if_pos hk1]
      (repeat (first | refine Run.seq ?_ | refine Run.reg ?_ | refine Run.skip ?_ | refine Run.block ?_ | refine Run.endB ?_ | refine Run.opE rfl ?_ | (apply Run.op0 rfl; (· (simp -implicitDefEqProofs [hk1]; exact ⟨rfl, rfl⟩))) | (apply Run.opA rfl; (· (simp -implicitDefEqProofs [hk1]; done)); (· (simp -implicitDefEqProofs [hk1]; exact ⟨rfl, rfl⟩))) | (apply Run.opN rfl; (· (simp -implicitDefEqProofs [hk1]; done))) | (refine Run.condT ?_ ?_; (· (simp -implicitDefEqProofs [hk1]; done))) | (refine Run.condF ?_ ?_; (· (simp -implicitDefEqProofs [hk1]; done))) | refine Run.exit rfl ?_))
      refine Run.opC rfl rfl rfl (hrp _) ?_
      rintro v h' ⟨rfl, rfl⟩
      (repeat (first | refine Run.seq ?_ | refine Run.reg ?_ | refine Run.skip ?_ | refine Run.block ?_ | refine Run.endB ?_ | refine Run.opE rfl ?_ | (apply Run.op0 rfl; (· (simp -implicitDefEqProofs [hk1]; exact ⟨rfl, rfl⟩))) | (apply Run.opA rfl; (· (simp -implicitDefEqProofs [hk1]; done)); (· (simp -implicitDefEqProofs [hk1]; exact ⟨rfl, rfl⟩))) | (apply Run.opN rfl; (· (simp -implicitDefEqProofs [hk1]; done))) | (refine Run.condT ?_ ?_; (· (simp -implicitDefEqProofs [hk1]; done))) | (refine Run.condF ?_ ?_; (· (simp -implicitDefEqProofs [hk1]; done))) | refine Run.exit rfl ?_))
      refine Run.opF [0, 1] (puti_tri m hm' hr o.key o.n) rfl (by simp -implicitDefEqProofs [mapHi]) rfl (by simp -implicitDefEqProofs [mapHi]) (by decide) (by rfl) (by simp -implicitDefEqProofs [mapHi]) ?_
      rintro v0 Hs' ⟨rfl, hcase⟩
      rw [← hn1] at hcase ⊢
      refine cases2 hcase [(0, .vs (l.map encO) 3), (3, .ptr 0 0), (4, .ptr 2 0), (5, .int .i64 i), (7, .ptr 3 0), (8, .bool (hitB m o.key)), (73, .bool (hitB m o.key))] (mapHi m' ++ [.row (encM m), .row (encM m')]) [0, 1, 2, 4] [0, 5, 2, 4] (by rfl) (by decide) (by simp) (by simp [mapHi, encM]) (by rfl) (by decide) (by simp) (by simp [mapHi, mapKi, encM]) ?_
      unfold mapHi encM
      (repeat (first | refine Run.seq ?_ | refine Run.reg ?_ | refine Run.skip ?_ | refine Run.block ?_ | refine Run.endB ?_ | refine Run.opE rfl ?_ | (apply Run.op0 rfl; (· (simp -implicitDefEqProofs; exact ⟨rfl, rfl⟩))) | (apply Run.opA rfl; (· (simp -implicitDefEqProofs; done)); (· (simp -implicitDefEqProofs; exact ⟨rfl, rfl⟩))) | (apply Run.opN rfl; (· (simp -implicitDefEqProofs; done))) | (refine Run.condT ?_ ?_; (· (simp -implicitDefEqProofs; done))) | (refine Run.condF ?_ ?_; (· (simp -implicitDefEqProofs; done))) | refine Run.exit rfl ?_))
      refine Run.mv [0, 1, 2] _ _ (by rfl) (by decide) (by simp) (by simp [mapHi, encM]) hk
    have hn1' : o.kind ≠ 1 := hk1
    by_cases hk2 : o.kind = 2
    · have hn2 : m' = m := by rw [hm1, nxtO, if_neg hk1, if_neg (by omega)]
      subst hn2
      (repeat (first | refine Run.seq ?_ | refine Run.reg ?_ | refine Run.skip ?_ | refine Run.block ?_ | refine Run.endB ?_ | refine Run.opE rfl ?_ | (apply Run.op0 rfl; (· (simp -implicitDefEqProofs [hk1, hk2]; exact ⟨rfl, rfl⟩))) | (apply Run.opA rfl; (· (simp -implicitDefEqProofs [hk1, hk2]; done)); (· (simp -implicitDefEqProofs [hk1, hk2]; exact ⟨rfl, rfl⟩))) | (apply Run.opN rfl; (· (simp -implicitDefEqProofs [hk1, hk2]; done))) | (refine Run.condT ?_ ?_; (· (simp -implicitDefEqProofs [hk1, hk2]; done))) | (refine Run.condF ?_ ?_; (· (simp -implicitDefEqProofs [hk1, hk2]; done))) | refine Run.exit rfl ?_))
      refine Run.opF [0, 1] (geti_tri m' hm' hr o.key) rfl (by simp -implicitDefEqProofs [mapHi]) rfl (by simp -implicitDefEqProofs [mapHi]) (by decide) (by rfl) (by simp -implicitDefEqProofs [mapHi]) ?_
      rintro v0 Hs' ⟨rfl, rfl⟩
      unfold mapHi
      (repeat (first | refine Run.seq ?_ | refine Run.reg ?_ | refine Run.skip ?_ | refine Run.block ?_ | refine Run.endB ?_ | refine Run.opE rfl ?_ | (apply Run.op0 rfl; (· (simp -implicitDefEqProofs; exact ⟨rfl, rfl⟩))) | (apply Run.opA rfl; (· (simp -implicitDefEqProofs; done)); (· (simp -implicitDefEqProofs; exact ⟨rfl, rfl⟩))) | (apply Run.opN rfl; (· (simp -implicitDefEqProofs; done))) | (refine Run.condT ?_ ?_; (· (simp -implicitDefEqProofs; done))) | (refine Run.condF ?_ ?_; (· (simp -implicitDefEqProofs; done))) | refine Run.exit rfl ?_))
      refine Run.opC rfl rfl rfl (hrg _) ?_
      rintro v h' ⟨rfl, rfl⟩
      (repeat (first | refine Run.seq ?_ | refine Run.reg ?_ | refine Run.skip ?_ | refine Run.block ?_ | refine Run.endB ?_ | refine Run.opE rfl ?_ | (apply Run.op0 rfl; (· (simp -implicitDefEqProofs; exact ⟨rfl, rfl⟩))) | (apply Run.opA rfl; (· (simp -implicitDefEqProofs; done)); (· (simp -implicitDefEqProofs; exact ⟨rfl, rfl⟩))) | (apply Run.opN rfl; (· (simp -implicitDefEqProofs; done))) | (refine Run.condT ?_ ?_; (· (simp -implicitDefEqProofs; done))) | (refine Run.condF ?_ ?_; (· (simp -implicitDefEqProofs; done))) | refine Run.exit rfl ?_))
      refine Run.mv [0, 1, 2] _ _ (by rfl) (by decide) (by simp) (by simp [mapHi, encM]) hk
    by_cases hk3 : o.kind = 3
    · have hn3 : m' = dropL m o.key := by rw [hm1, nxtO, if_neg hk1, if_pos hk3]
      (repeat (first | refine Run.seq ?_ | refine Run.reg ?_ | refine Run.skip ?_ | refine Run.block ?_ | refine Run.endB ?_ | refine Run.opE rfl ?_ | (apply Run.op0 rfl; (· (simp -implicitDefEqProofs [hk1, hk2, hk3]; exact ⟨rfl, rfl⟩))) | (apply Run.opA rfl; (· (simp -implicitDefEqProofs [hk1, hk2, hk3]; done)); (· (simp -implicitDefEqProofs [hk1, hk2, hk3]; exact ⟨rfl, rfl⟩))) | (apply Run.opN rfl; (· (simp -implicitDefEqProofs [hk1, hk2, hk3]; done))) | (refine Run.condT ?_ ?_; (· (simp -implicitDefEqProofs [hk1, hk2, hk3]; done))) | (refine Run.condF ?_ ?_; (· (simp -implicitDefEqProofs [hk1, hk2, hk3]; done))) | refine Run.exit rfl ?_))
      refine Run.opC rfl rfl rfl (hrd _) ?_
      rintro v h' ⟨rfl, rfl⟩
      (repeat (first | refine Run.seq ?_ | refine Run.reg ?_ | refine Run.skip ?_ | refine Run.block ?_ | refine Run.endB ?_ | refine Run.opE rfl ?_ | (apply Run.op0 rfl; (· (simp -implicitDefEqProofs; exact ⟨rfl, rfl⟩))) | (apply Run.opA rfl; (· (simp -implicitDefEqProofs; done)); (· (simp -implicitDefEqProofs; exact ⟨rfl, rfl⟩))) | (apply Run.opN rfl; (· (simp -implicitDefEqProofs; done))) | (refine Run.condT ?_ ?_; (· (simp -implicitDefEqProofs; done))) | (refine Run.condF ?_ ?_; (· (simp -implicitDefEqProofs; done))) | refine Run.exit rfl ?_))
      refine Run.opF [0, 1] (dropi_tri m hm' hr o.key) rfl (by simp -implicitDefEqProofs [mapHi]) rfl (by simp -implicitDefEqProofs [mapHi]) (by decide) (by rfl) (by simp -implicitDefEqProofs [mapHi]) ?_
      rintro v0 Hs' ⟨rfl, rfl⟩
      rw [← hn3]
      unfold mapHi
      (repeat (first | refine Run.seq ?_ | refine Run.reg ?_ | refine Run.skip ?_ | refine Run.block ?_ | refine Run.endB ?_ | refine Run.opE rfl ?_ | (apply Run.op0 rfl; (· (simp -implicitDefEqProofs; exact ⟨rfl, rfl⟩))) | (apply Run.opA rfl; (· (simp -implicitDefEqProofs; done)); (· (simp -implicitDefEqProofs; exact ⟨rfl, rfl⟩))) | (apply Run.opN rfl; (· (simp -implicitDefEqProofs; done))) | (refine Run.condT ?_ ?_; (· (simp -implicitDefEqProofs; done))) | (refine Run.condF ?_ ?_; (· (simp -implicitDefEqProofs; done))) | refine Run.exit rfl ?_))
      refine Run.mv [0, 1, 2] _ _ (by rfl) (by decide) (by simp) (by simp [mapHi, encM]) hk
    · have hn4 : m' = m := by rw [hm1, nxtO, if_neg hk1, if_neg hk3]
      subst hn4
      have hsm : ∀ H, Tri Try.prog 11 [.vs ((keysM m' o.key o.n).map encS) 1, .vs (((m'.drop (lowB m' o.key)).take (mostN m' o.key o.n)).map encK) 1] H (fun v H' => v = .bool true ∧ H' = H) := by
        intro H
        have hkl : (keysM m' o.key o.n).length ≤ 4611686018427387904 := by rw [← keysM_from]; simp; omega
        have := same_at (keysM m' o.key o.n) (keysM m' o.key o.n) hkl H
        have he : ((m'.drop (lowB m' o.key)).take (mostN m' o.key o.n)).map encK = (keysM m' o.key o.n).map encS := by
          rw [← keysM_from, List.map_map]; rfl
        rw [he]; simpa using this
      generalize (m'.drop (lowB m' o.key)).take (mostN m' o.key o.n) = W at hsm hrf
      (repeat (first | refine Run.seq ?_ | refine Run.reg ?_ | refine Run.skip ?_ | refine Run.block ?_ | refine Run.endB ?_ | refine Run.opE rfl ?_ | (apply Run.op0 rfl; (· (simp -implicitDefEqProofs [hk1, hk2, hk3]; exact ⟨rfl, rfl⟩))) | (apply Run.opA rfl; (· (simp -implicitDefEqProofs [hk1, hk2, hk3]; done)); (· (simp -implicitDefEqProofs [hk1, hk2, hk3]; exact ⟨rfl, rfl⟩))) | (apply Run.opN rfl; (· (simp -implicitDefEqProofs [hk1, hk2, hk3]; done))) | (refine Run.condT ?_ ?_; (· (simp -implicitDefEqProofs [hk1, hk2, hk3]; done))) | (refine Run.condF ?_ ?_; (· (simp -implicitDefEqProofs [hk1, hk2, hk3]; done))) | refine Run.exit rfl ?_))
      refine Run.quietM prog_mixed (by kernel_rfl) [0, 1, 2] [(0, .vs (l.map encO) 3), (3, .ptr 0 0), (4, .ptr 2 0), (5, .int .i64 i), (56, .bool false)] [.row [.bool true, .sl 1 0 m'.length 2 none], .arr (m'.map encItI) 2, .row (encM m')] (by rfl) (by decide) ?_ ?_
      · (repeat (first | refine execQ_E rfl ?_ | (apply execQ_0 rfl; (· rfl); (· (simp -implicitDefEqProofs; exact ⟨rfl, rfl⟩))) | (apply execQ_A rfl; (· (simp -implicitDefEqProofs; done)); (· rfl); (· (simp -implicitDefEqProofs; exact ⟨rfl, rfl⟩))) | (apply execQ_N rfl; (· (simp -implicitDefEqProofs; done)))))
        refine execQ_C rfl rfl rfl (tri_keep m' (keys_tri m' hm' hr o.key o.n) rfl _ (by simp)) ?_
        (repeat (first | refine execQ_E rfl ?_ | (apply execQ_0 rfl; (· rfl); (· (simp -implicitDefEqProofs; exact ⟨rfl, rfl⟩))) | (apply execQ_A rfl; (· (simp -implicitDefEqProofs; done)); (· rfl); (· (simp -implicitDefEqProofs; exact ⟨rfl, rfl⟩))) | (apply execQ_N rfl; (· (simp -implicitDefEqProofs; done)))))
        refine execQ_C rfl rfl rfl (hrf _) ?_
        (repeat (first | refine execQ_E rfl ?_ | (apply execQ_0 rfl; (· rfl); (· (simp -implicitDefEqProofs; exact ⟨rfl, rfl⟩))) | (apply execQ_A rfl; (· (simp -implicitDefEqProofs; done)); (· rfl); (· (simp -implicitDefEqProofs; exact ⟨rfl, rfl⟩))) | (apply execQ_N rfl; (· (simp -implicitDefEqProofs; done)))))
        refine execQ_C rfl rfl rfl (hsm _) ?_
        (repeat (first | refine execQ_E rfl ?_ | (apply execQ_0 rfl; (· rfl); (· (simp -implicitDefEqProofs; exact ⟨rfl, rfl⟩))) | (apply execQ_A rfl; (· (simp -implicitDefEqProofs; done)); (· rfl); (· (simp -implicitDefEqProofs; exact ⟨rfl, rfl⟩))) | (apply execQ_N rfl; (· (simp -implicitDefEqProofs; done)))))
        simp [encM]
      (repeat (first | refine Run.seq ?_ | refine Run.reg ?_ | refine Run.skip ?_ | refine Run.block ?_ | refine Run.endB ?_ | refine Run.opE rfl ?_ | (apply Run.op0 rfl; (· (simp -implicitDefEqProofs; exact ⟨rfl, rfl⟩))) | (apply Run.opA rfl; (· (simp -implicitDefEqProofs; done)); (· (simp -implicitDefEqProofs; exact ⟨rfl, rfl⟩))) | (apply Run.opN rfl; (· (simp -implicitDefEqProofs; done))) | (refine Run.condT ?_ ?_; (· (simp -implicitDefEqProofs; done))) | (refine Run.condF ?_ ?_; (· (simp -implicitDefEqProofs; done))) | refine Run.exit rfl ?_))
      refine Run.mv [0, 1, 2] _ _ (by rfl) (by decide) (by simp) (by simp [mapHi, encM]) hk
  (repeat (first | refine Run.seq ?_ | refine Run.reg ?_ | refine Run.skip ?_ | refine Run.block ?_ | refine Run.endB ?_ | refine Run.opE rfl ?_ | (apply Run.op0 rfl; (· (simp -implicitDefEqProofs; exact ⟨rfl, rfl⟩))) | (apply Run.opA rfl; (· (simp -implicitDefEqProofs; done)); (· (simp -implicitDefEqProofs; exact ⟨rfl, rfl⟩))) | (apply Run.opN rfl; (· (simp -implicitDefEqProofs; done))) | (refine Run.condT ?_ ?_; (· (simp -implicitDefEqProofs; done))) | (refine Run.condF ?_ ?_; (· (simp -implicitDefEqProofs; done))) | refine Run.exit rfl ?_))
  refine Run.opF [0, 1] (firstM_tri m') rfl (by simp -implicitDefEqProofs [mapHi]) rfl (by simp -implicitDefEqProofs [mapHi]) (by decide) (by rfl) (by simp -implicitDefEqProofs [mapHi]) ?_
  rintro v0 Hs' ⟨rfl, rfl⟩
  have hm2 : m'.length ≤ 100000 := by omega
  have hln := fun X => tri_keep (X := X) m' (len_tri m') rfl
  cases m' with
  | nil =>
    unfold mapHi encM
    (repeat (first | refine Run.seq ?_ | refine Run.reg ?_ | refine Run.skip ?_ | refine Run.block ?_ | refine Run.endB ?_ | refine Run.opE rfl ?_ | (apply Run.op0 rfl; (· (simp -implicitDefEqProofs; exact ⟨rfl, rfl⟩))) | (apply Run.opA rfl; (· (simp -implicitDefEqProofs; done)); (· (simp -implicitDefEqProofs; exact ⟨rfl, rfl⟩))) | (apply Run.opN rfl; (· (simp -implicitDefEqProofs; done))) | (refine Run.condT ?_ ?_; (· (simp -implicitDefEqProofs; done))) | (refine Run.condF ?_ ?_; (· (simp -implicitDefEqProofs; done))) | refine Run.exit rfl ?_))
    refine Run.quietM prog_mixed (by kernel_rfl) [0, 1, 2] [(0, .vs (l.map encO) 3), (3, .ptr 0 0), (4, .ptr 2 0), (5, .int .i64 i), (154, .bool false)] [.row [.bool true, .sl 1 0 0 2 none], .arr [] 2, .row (encM [])] (by rfl) (by decide) ?_ ?_
    · (repeat (first | refine execQ_E rfl ?_ | (apply execQ_0 rfl; (· rfl); (· (simp -implicitDefEqProofs; exact ⟨rfl, rfl⟩))) | (apply execQ_A rfl; (· (simp -implicitDefEqProofs; done)); (· rfl); (· (simp -implicitDefEqProofs; exact ⟨rfl, rfl⟩))) | (apply execQ_N rfl; (· (simp -implicitDefEqProofs; done)))))
      refine execQ_C rfl rfl rfl (hln _ (by simp)) ?_
      (repeat (first | refine execQ_E rfl ?_ | (apply execQ_0 rfl; (· rfl); (· (simp -implicitDefEqProofs [headB]; exact ⟨rfl, rfl⟩))) | (apply execQ_A rfl; (· (simp -implicitDefEqProofs [headB]; done)); (· rfl); (· (simp -implicitDefEqProofs [headB]; exact ⟨rfl, rfl⟩))) | (apply execQ_N rfl; (· (simp -implicitDefEqProofs [headB]; done)))))
      simp [encM]
    (repeat (first | refine Run.seq ?_ | refine Run.reg ?_ | refine Run.skip ?_ | refine Run.block ?_ | refine Run.endB ?_ | refine Run.opE rfl ?_ | (apply Run.op0 rfl; (· (simp -implicitDefEqProofs; exact ⟨rfl, rfl⟩))) | (apply Run.opA rfl; (· (simp -implicitDefEqProofs; done)); (· (simp -implicitDefEqProofs; exact ⟨rfl, rfl⟩))) | (apply Run.opN rfl; (· (simp -implicitDefEqProofs; done))) | (refine Run.condT ?_ ?_; (· (simp -implicitDefEqProofs; done))) | (refine Run.condF ?_ ?_; (· (simp -implicitDefEqProofs; done))) | refine Run.exit rfl ?_))
    refine Run.mv [0, 1, 2] _ _ (by rfl) (by decide) (by simp -implicitDefEqProofs [hw, mapHi, encM]) (by simp -implicitDefEqProofs [hw, mapHi, encM]) (ih ((i + 1, [])) ?_ ?_)
    · exact ⟨by simp only; omega, by simp only; omega, List.Pairwise.nil, by simp⟩
    · simp only; omega
  | cons x m2 =>
    unfold mapHi encM
    (repeat (first | refine Run.seq ?_ | refine Run.reg ?_ | refine Run.skip ?_ | refine Run.block ?_ | refine Run.endB ?_ | refine Run.opE rfl ?_ | (apply Run.op0 rfl; (· (simp -implicitDefEqProofs; exact ⟨rfl, rfl⟩))) | (apply Run.opA rfl; (· (simp -implicitDefEqProofs; done)); (· (simp -implicitDefEqProofs; exact ⟨rfl, rfl⟩))) | (apply Run.opN rfl; (· (simp -implicitDefEqProofs; done))) | (refine Run.condT ?_ ?_; (· (simp -implicitDefEqProofs; done))) | (refine Run.condF ?_ ?_; (· (simp -implicitDefEqProofs; done))) | refine Run.exit rfl ?_))
    refine Run.quietM prog_mixed (by kernel_rfl) [0, 1, 2] [(0, .vs (l.map encO) 3), (3, .ptr 0 0), (4, .ptr 2 0), (5, .int .i64 i), (154, .bool false)] [.row [.bool true, .sl 1 0 (x :: m2).length 2 none], .arr ((x :: m2).map encItI) 2, .row (encM (x :: m2))] (by rfl) (by decide) ?_ ?_
    · have hps : (0 : Int) < (m2.length : Int) + 1 := by omega
      (repeat (first | refine execQ_E rfl ?_ | (apply execQ_0 rfl; (· rfl); (· (simp -implicitDefEqProofs; exact ⟨rfl, rfl⟩))) | (apply execQ_A rfl; (· (simp -implicitDefEqProofs; done)); (· rfl); (· (simp -implicitDefEqProofs; exact ⟨rfl, rfl⟩))) | (apply execQ_N rfl; (· (simp -implicitDefEqProofs; done)))))
      refine execQ_C rfl rfl rfl (hln _ (by simp)) ?_
      (repeat (first | refine execQ_E rfl ?_ | (apply execQ_0 rfl; (· rfl); (· (simp -implicitDefEqProofs [headB, hps, encK]; exact ⟨rfl, rfl⟩))) | (apply execQ_A rfl; (· (simp -implicitDefEqProofs [headB, hps, encK]; done)); (· rfl); (· (simp -implicitDefEqProofs [headB, hps, encK]; exact ⟨rfl, rfl⟩))) | (apply execQ_N rfl; (· (simp -implicitDefEqProofs [headB, hps, encK]; done)))))
      simp [encM, encK]
    (repeat (first | refine Run.seq ?_ | refine Run.reg ?_ | refine Run.skip ?_ | refine Run.block ?_ | refine Run.endB ?_ | refine Run.opE rfl ?_ | (apply Run.op0 rfl; (· (simp -implicitDefEqProofs; exact ⟨rfl, rfl⟩))) | (apply Run.opA rfl; (· (simp -implicitDefEqProofs; done)); (· (simp -implicitDefEqProofs; exact ⟨rfl, rfl⟩))) | (apply Run.opN rfl; (· (simp -implicitDefEqProofs; done))) | (refine Run.condT ?_ ?_; (· (simp -implicitDefEqProofs; done))) | (refine Run.condF ?_ ?_; (· (simp -implicitDefEqProofs; done))) | refine Run.exit rfl ?_))
    refine Run.mv [0, 1, 2] _ _ (by rfl) (by decide) (by simp -implicitDefEqProofs [hw, mapHi, encM]) (by simp -implicitDefEqProofs [hw, mapHi, encM]) (ih ((i + 1, x :: m2)) ?_ ?_)
    · exact ⟨by simp only; omega, by simp only; omega, hr', hml'⟩
    · simp only; omega

end Go.Proofs.Ytoopckhogehdmaa
