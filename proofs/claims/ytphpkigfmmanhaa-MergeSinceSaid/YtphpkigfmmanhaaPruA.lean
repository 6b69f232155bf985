/-
  Layer 11, part PruA: the least of numbers; which of a key's entries Prune keeps.
-/
import Derived.Test.YtphpkigfmmanhaaMrgM
namespace Go.Proofs.Ytphpkigfmmanhaa
open Sx Go
set_option maxRecDepth 100000
set_option linter.unusedSimpArgs false
set_option linter.unusedVariables false
set_option linter.unnecessarySimpa false
attribute [local simp] guardB isCall opStep Opd.ev put readAt aBin aUn args0 V.celled V.ones V.one V.cells putAt bounds bound1 elemsOf srcOf appendV fillAt fillEl V.pures V.pure unwind evs ARes.ev mkRes V.ren V.renL O.ren eqCells eq1 aEq aMM hasTy hasTyN okTy mmGo Known HLe OLe VsLe.refl VLe.refl Stay VsLe V.frz V.frzL O.frz fr clearV rn KnownR Objs OLeO ObjsE nm back setAll ren_ite take_map_len List.take_of_length_le
attribute [local simp ↓] upd_app tl_cons tl_nil
attribute [local simp] encE_ren encE_ones encE_len encE_take

theorem encI_ren (ρ) (n : Int) : V.renL ρ (encI n) = encI n := rfl

/-- the least of numbers -/
def minI (p : Int) (ps : List Int) : Int := ps.foldl (fun a b => if b < a then b else a) p

theorem min_tri (p : Int) (ps : List Int) (hl : ps.length ≤ 1000000) : Tri Try.prog 38 [.vs ((p :: ps).map encI) 1] [] (fun v H => v = .int .i64 (minI p ps) ∧ H = []) := by
  obtain ⟨L, hL⟩ : ∃ L, L = p :: ps := ⟨_, rfl⟩
  have hpos : 0 < L.length := by rw [hL]; simp
  have hne : ¬ (L.length : Int) < 1 := by omega
  have hl0 : L[0]? = some p := by rw [hL]; rfl
  have hll : L.length = ps.length + 1 := by rw [hL]; simp
  rw [← hL]
  refine Tri.of_run' Try.func38 rfl c38_ok (by simp [Try.ntmps38]) ?_
  have hp0 : L[0]'hpos = p := by simp only [hL, List.getElem_cons_zero]
  (repeat (first | refine Run.seq ?_ | refine Run.reg ?_ | refine Run.skip ?_ | refine Run.block ?_ | refine Run.endB ?_ | refine Run.opE rfl ?_ | (apply Run.op0 rfl; (· (simp -implicitDefEqProofs [hpos, hne, hl0, hp0, encI]; exact ⟨rfl, rfl⟩))) | (apply Run.opA rfl; (· (simp -implicitDefEqProofs [hpos, hne, hl0, hp0, encI]; done)); (· (simp -implicitDefEqProofs [hpos, hne, hl0, hp0, encI]; exact ⟨rfl, rfl⟩))) | (apply Run.opN rfl; (· (simp -implicitDefEqProofs [hpos, hne, hl0, hp0, encI]; done))) | (refine Run.condT ?_ ?_; (· (simp -implicitDefEqProofs [hpos, hne, hl0, hp0, encI]; done))) | (refine Run.condF ?_ ?_; (· (simp -implicitDefEqProofs [hpos, hne, hl0, hp0, encI]; done))) | refine Run.exit rfl ?_))
  refine Run.loopC [] (fun (a : Nat × Int) => ([(0, .vs (L.map encI) 1), (3, .int .i64 a.2), (4, .int .i64 a.1)], [])) (fun a => 1 ≤ a.1 ∧ a.1 ≤ L.length ∧ minI p ps = minI a.2 (L.drop a.1)) (fun a => L.length - a.1) (1, p) (by simp only; refine ⟨by omega, by omega, by rw [hL]; rfl⟩) (by rfl) (by decide) (by simp [encI]) (by simp) ?_
  rintro ⟨i, m⟩ ⟨h1, hi, hgo⟩ ih
  simp only at h1 hi hgo ih ⊢
  by_cases hlt : i < L.length
  · obtain ⟨q, hq, hqi, hdrop, -⟩ := getL hlt
    have hw := wrap_small (n := (i : Int) + 1) (by omega) (by omega)
    rw [hdrop] at hgo
    (repeat (first | refine Run.seq ?_ | refine Run.reg ?_ | refine Run.skip ?_ | refine Run.block ?_ | refine Run.endB ?_ | refine Run.opE rfl ?_ | (apply Run.op0 rfl; (· (simp -implicitDefEqProofs [hlt, hq, hqi, encI]; exact ⟨rfl, rfl⟩))) | (apply Run.opA rfl; (· (simp -implicitDefEqProofs [hlt, hq, hqi, encI]; done)); (· (simp -implicitDefEqProofs [hlt, hq, hqi, encI]; exact ⟨rfl, rfl⟩))) | (apply Run.opN rfl; (· (simp -implicitDefEqProofs [hlt, hq, hqi, encI]; done))) | (refine Run.condT ?_ ?_; (· (simp -implicitDefEqProofs [hlt, hq, hqi, encI]; done))) | (refine Run.condF ?_ ?_; (· (simp -implicitDefEqProofs [hlt, hq, hqi, encI]; done))) | refine Run.exit rfl ?_))
    refine Run.mv [] _ _ (by rfl) (by decide) (by simp -implicitDefEqProofs [hw]) (by simp -implicitDefEqProofs [hw]) (ih ((i + 1, if q < m then q else m)) ?_ ?_)
    · exact ⟨by simp only; omega, by simp only; omega, by rw [hgo]; rfl⟩
    · simp only; omega
  · have : i = L.length := by omega
    subst this
    (repeat (first | refine Run.seq ?_ | refine Run.reg ?_ | refine Run.skip ?_ | refine Run.block ?_ | refine Run.endB ?_ | refine Run.opE rfl ?_ | (apply Run.op0 rfl; (· (simp -implicitDefEqProofs; exact ⟨rfl, rfl⟩))) | (apply Run.opA rfl; (· (simp -implicitDefEqProofs; done)); (· (simp -implicitDefEqProofs; exact ⟨rfl, rfl⟩))) | (apply Run.opN rfl; (· (simp -implicitDefEqProofs; done))) | (refine Run.condT ?_ ?_; (· (simp -implicitDefEqProofs; done))) | (refine Run.condF ?_ ?_; (· (simp -implicitDefEqProofs; done))) | refine Run.exit rfl ?_))
    refine Run.retI Try.func38 r38_ok trivial (by simp -implicitDefEqProofs [r38]; rfl) (by simp ) ?_ (by simp -implicitDefEqProofs ) (by simp -implicitDefEqProofs )
    rw [hgo, List.drop_length]; simp [minI]
theorem min_at (p : Int) (ps : List Int) (hl : ps.length ≤ 1000000) (H : List O) : Tri Try.prog 38 [.vs ((p :: ps).map encI) 1] H (fun v H' => v = .int .i64 (minI p ps) ∧ H' = H) := (min_tri p ps hl).at rfl rfl H

/-- a map from numbers to true, as told -/
def mE (k : Int) : V × V := (.int .i64 k, .bool true)
theorem mE_comp (ρ) : (fun x : V × V => (x.1, V.ren ρ x.2)) ∘ mE = mE := rfl
theorem mE_ren (ρ) (K : List Int) : (K.map mE).map (fun x => (x.1, V.ren ρ x.2)) = K.map mE := by simp [mE_comp]
theorem mFind_mem (k : Int) : ∀ (K : List Int) (i : Nat), (k ∈ K → ∃ j, mFind 0 (.int .i64 k) (K.map mE) i = some (some (i + j)) ∧ K[j]? = some k) ∧ (k ∉ K → mFind 0 (.int .i64 k) (K.map mE) i = some none)
  | [], i => ⟨fun h => by simp at h, fun _ => rfl⟩
  | q :: K, i => by
    have ih := mFind_mem k K (i + 1)
    by_cases h : k = q
    · subst h
      exact ⟨fun _ => ⟨0, by simp [mFind, mE, kEq], rfl⟩, fun h => by simp at h⟩
    · refine ⟨fun hm => ?_, fun hm => ?_⟩
      · obtain ⟨j, h1, h2⟩ := ih.1 (by simpa [h] using hm)
        refine ⟨j + 1, ?_, by simpa using h2⟩
        simp only [List.map_cons, mFind, mE, kEq, if_true, h, decide_false]
        rw [h1]; congr 2; omega
      · have := ih.2 (by simp at hm; exact hm.2)
        simp only [List.map_cons, mFind, mE, kEq, if_true, h, decide_false]
        rw [this]
theorem mE_set {K : List Int} {k : Int} {j : Nat} (h : K[j]? = some k) : (K.map mE).set j (.int .i64 k, .bool true) = K.map mE := by
  apply List.ext_getElem?
  intro i
  rw [List.getElem?_set]
  split
  · rename_i hij; subst hij; rw [List.getElem?_map, h]; split <;> first | rfl | (rename_i hh; rw [List.length_map] at hh; exact absurd (List.getElem?_eq_some_iff.1 h).1 hh)
  · rfl
/-- one key more -/
def addK (K : List Int) (k : Int) : List Int := if k ∈ K then K else K ++ [k]
def keyK (g : List En) (pins : List Int) : List Int := pins.foldl (fun K p => addK K (asOfM g p)) [0]
def kepF (g : List En) (K : List Int) (i : Nat) : Option En := match g[i]? with
  | some e => if ((i : Nat) : Int) ∈ K then some e else none
  | none => none
/-- which of a key's entries are kept at first -/
def kepG (g : List En) (pins : List Int) : List En := (List.range g.length).filterMap (kepF g (keyK g pins))
def lastB (pins : List Int) (bottom : Bool) (e : En) : Bool := bottom && (e.gone && (match pins with | [] => true | p :: ps => decide (e.seq ≤ minI p ps)))
/-- which are kept -/
def prG (g : List En) (pins : List Int) (bottom : Bool) : List En := match (kepG g pins).getLast? with
  | some e => if lastB pins bottom e = true then (kepG g pins).dropLast else kepG g pins
  | none => []
/-- the cells of Prune's closure, and what has been put out -/
def pruH (pins : List Int) (bottom : Bool) (o : List En) : List O := [.row [.vs (pins.map encI) 1], .row [.bool bottom], .row [.sl 3 0 o.length 4 none], .arr (o.map encE) 4]
def pruH' (pins : List Int) (bottom : Bool) (o : List En) : List O := [.row [.vs (pins.map encI) 1], .row [.bool bottom], .row [.sl 4 0 o.length 4 none], .gone, .arr (o.map encE) 4]

theorem addK_mem {K : List Int} {k q : Int} : q ∈ addK K k ↔ q ∈ K ∨ q = k := by
  unfold addK; split
  · rename_i h; exact ⟨.inl, fun h' => by rcases h' with h' | rfl <;> assumption⟩
  · simp
theorem keyK_zero (g : List En) : ∀ (pins : List Int) (K : List Int), 0 ∈ K → 0 ∈ pins.foldl (fun K p => addK K (asOfM g p)) K
  | [], K, h => h
  | p :: pins, K, h => keyK_zero g pins _ (addK_mem.2 (.inl h))

theorem pru1_tri (x : En) (r : List En) (hg : (x :: r).length ≤ 1000000) (pins : List Int) (hp : pins.length ≤ 1000000) (bottom : Bool) (o : List En) (ho : o.length ≤ 1000000) :
    Tri Try.prog 37 [.vs ((x :: r).map encE) 4, .ptr 0 0, .ptr 1 0, .ptr 2 0] (pruH pins bottom o) (fun v H => v = .tup [] ∧ H = pruH' pins bottom (o ++ prG (x :: r) pins bottom)) := by
  have hgne : (x :: r) ≠ [] := by simp
  generalize x :: r = g at *
  have hgpos : 0 < g.length := by cases g; exact absurd rfl hgne; simp
  unfold pruH
  refine Tri.of_run' Try.func37 rfl c37_ok (by simp [Try.ntmps37]) ?_
  (repeat (first | refine Run.seq ?_ | refine Run.reg ?_ | refine Run.skip ?_ | refine Run.block ?_ | refine Run.endB ?_ | refine Run.opE rfl ?_ | (apply Run.op0 rfl; (· (simp -implicitDefEqProofs [mFind, kEq]; exact ⟨rfl, rfl⟩))) | (apply Run.opA rfl; (· (simp -implicitDefEqProofs [mFind, kEq]; done)); (· (simp -implicitDefEqProofs [mFind, kEq]; exact ⟨rfl, rfl⟩))) | (apply Run.opN rfl; (· (simp -implicitDefEqProofs [mFind, kEq]; done))) | (refine Run.condT ?_ ?_; (· (simp -implicitDefEqProofs [mFind, kEq]; done))) | (refine Run.condF ?_ ?_; (· (simp -implicitDefEqProofs [mFind, kEq]; done))) | refine Run.exit rfl ?_))
  refine Run.loopC [0, 1, 2, 3, 4] (fun (j : Nat) => ([(0, .vs (g.map encE) 4), (1, .ptr 0 0), (2, .ptr 1 0), (3, .ptr 2 0), (5, .mp 4), (14, .vs (pins.map encI) 1), (15, .int .i64 pins.length), (16, .int .i64 j)], [.row [.vs (pins.map encI) 1], .row [.bool bottom], .row [.sl 3 0 o.length 4 none], .arr (o.map encE) 4, .map ((keyK g (pins.take j)).map mE)])) (fun j => j ≤ pins.length) (fun j => pins.length - j) 0 (by simp) (by rfl) (by decide) (by simp) (by simp [keyK, mE]) ?_
  intro j hj ih
  by_cases hlt : j < pins.length
  · obtain ⟨p, hp, hpi, -, -⟩ := getL hlt
    have hw := wrap_small (n := (j : Int) + 1) (by omega) (by omega)
    have hnx : keyK g (pins.take (j + 1)) = addK (keyK g (pins.take j)) (asOfM g p) := by
      rw [List.take_add_one, hp]; simp [keyK]
    generalize keyK g (pins.take j) = K at hnx
    (repeat (first | refine Run.seq ?_ | refine Run.reg ?_ | refine Run.skip ?_ | refine Run.block ?_ | refine Run.endB ?_ | refine Run.opE rfl ?_ | (apply Run.op0 rfl; (· (simp -implicitDefEqProofs [hlt, hp, hpi, encI]; exact ⟨rfl, rfl⟩))) | (apply Run.opA rfl; (· (simp -implicitDefEqProofs [hlt, hp, hpi, encI]; done)); (· (simp -implicitDefEqProofs [hlt, hp, hpi, encI]; exact ⟨rfl, rfl⟩))) | (apply Run.opN rfl; (· (simp -implicitDefEqProofs [hlt, hp, hpi, encI]; done))) | (refine Run.condT ?_ ?_; (· (simp -implicitDefEqProofs [hlt, hp, hpi, encI]; done))) | (refine Run.condF ?_ ?_; (· (simp -implicitDefEqProofs [hlt, hp, hpi, encI]; done))) | refine Run.exit rfl ?_))
    refine Run.opC rfl rfl rfl (asOf_at g hg p _) ?_
    rintro v h' ⟨rfl, rfl⟩
    generalize asOfM g p = k at *
    by_cases hk : k ∈ K
    · obtain ⟨i, hf, hfi⟩ := (mFind_mem k K 0).1 hk
      simp only [Nat.zero_add] at hf
      have hs := mE_set hfi
      (repeat (first | refine Run.seq ?_ | refine Run.reg ?_ | refine Run.skip ?_ | refine Run.block ?_ | refine Run.endB ?_ | refine Run.opE rfl ?_ | (apply Run.op0 rfl; (· (simp -implicitDefEqProofs [hf, hs]; exact ⟨rfl, rfl⟩))) | (apply Run.opA rfl; (· (simp -implicitDefEqProofs [hf, hs]; done)); (· (simp -implicitDefEqProofs [hf, hs]; exact ⟨rfl, rfl⟩))) | (apply Run.opN rfl; (· (simp -implicitDefEqProofs [hf, hs]; done))) | (refine Run.condT ?_ ?_; (· (simp -implicitDefEqProofs [hf, hs]; done))) | (refine Run.condF ?_ ?_; (· (simp -implicitDefEqProofs [hf, hs]; done))) | refine Run.exit rfl ?_))
      refine Run.mv [0, 1, 2, 3, 4] _ _ (by rfl) (by decide) (by simp -implicitDefEqProofs [hw, hnx, addK, hk, mE_comp]) (by simp -implicitDefEqProofs [hw, hnx, addK, hk, mE_comp]) (ih (j + 1) ?_ ?_)
      · omega
      · omega
    · have hf := (mFind_mem k K 0).2 hk
      (repeat (first | refine Run.seq ?_ | refine Run.reg ?_ | refine Run.skip ?_ | refine Run.block ?_ | refine Run.endB ?_ | refine Run.opE rfl ?_ | (apply Run.op0 rfl; (· (simp -implicitDefEqProofs [hf, kEq]; exact ⟨rfl, rfl⟩))) | (apply Run.opA rfl; (· (simp -implicitDefEqProofs [hf, kEq]; done)); (· (simp -implicitDefEqProofs [hf, kEq]; exact ⟨rfl, rfl⟩))) | (apply Run.opN rfl; (· (simp -implicitDefEqProofs [hf, kEq]; done))) | (refine Run.condT ?_ ?_; (· (simp -implicitDefEqProofs [hf, kEq]; done))) | (refine Run.condF ?_ ?_; (· (simp -implicitDefEqProofs [hf, kEq]; done))) | refine Run.exit rfl ?_))
      refine Run.mv [0, 1, 2, 3, 4] _ _ (by rfl) (by decide) (by simp -implicitDefEqProofs [hw, hnx, addK, hk, mE_comp, mE]) (by simp -implicitDefEqProofs [hw, hnx, addK, hk, mE_comp, mE]) (ih (j + 1) ?_ ?_)
      · omega
      · omega
  · have : j = pins.length := by omega
    subst this
    rw [List.take_length]
    have hK0 : (0 : Int) ∈ keyK g pins := keyK_zero g pins [0] (by simp)
    obtain ⟨K, hK⟩ : ∃ K, K = keyK g pins := ⟨_, rfl⟩
    have hkg : kepG g pins = (List.range g.length).filterMap (kepF g K) := by rw [kepG, hK]
    rw [← hK] at hK0 ⊢
    clear ih hK
    (repeat (first | refine Run.seq ?_ | refine Run.reg ?_ | refine Run.skip ?_ | refine Run.block ?_ | refine Run.endB ?_ | refine Run.opE rfl ?_ | (apply Run.op0 rfl; (· (simp -implicitDefEqProofs; exact ⟨rfl, rfl⟩))) | (apply Run.opA rfl; (· (simp -implicitDefEqProofs; done)); (· (simp -implicitDefEqProofs; exact ⟨rfl, rfl⟩))) | (apply Run.opN rfl; (· (simp -implicitDefEqProofs; done))) | (refine Run.condT ?_ ?_; (· (simp -implicitDefEqProofs; done))) | (refine Run.condF ?_ ?_; (· (simp -implicitDefEqProofs; done))) | refine Run.exit rfl ?_))
    refine Run.nilA 8 4 (by simp) ?_
    (repeat (first | refine Run.seq ?_ | refine Run.reg ?_ | refine Run.skip ?_ | refine Run.block ?_ | refine Run.endB ?_ | refine Run.opE rfl ?_ | (apply Run.op0 rfl; (· (simp -implicitDefEqProofs; exact ⟨rfl, rfl⟩))) | (apply Run.opA rfl; (· (simp -implicitDefEqProofs; done)); (· (simp -implicitDefEqProofs; exact ⟨rfl, rfl⟩))) | (apply Run.opN rfl; (· (simp -implicitDefEqProofs; done))) | (refine Run.condT ?_ ?_; (· (simp -implicitDefEqProofs; done))) | (refine Run.condF ?_ ?_; (· (simp -implicitDefEqProofs; done))) | refine Run.exit rfl ?_))
    refine Run.loopC [0, 1, 2, 3, 4, 5] (fun (i : Nat) => ([(1, .ptr 0 0), (2, .ptr 1 0), (3, .ptr 2 0), (5, .mp 4), (8, .sl 5 0 ((List.range i).filterMap (kepF g K)).length 4 none), (25, .vs (g.map encE) 4), (26, .int .i64 g.length), (27, .int .i64 i)], [.row [.vs (pins.map encI) 1], .row [.bool bottom], .row [.sl 3 0 o.length 4 none], .arr (o.map encE) 4, .map (K.map mE), .arr (((List.range i).filterMap (kepF g K)).map encE) 4])) (fun i => i ≤ g.length) (fun i => g.length - i) 0 (by simp) (by rfl) (by decide) (by simp) (by simp [mE_comp]) ?_
    intro i hi ih
    generalize hu : (List.range i).filterMap (kepF g K) = u
    have hul : u.length ≤ i := by rw [← hu]; exact fmap_len _ _
    by_cases hlt : i < g.length
    · obtain ⟨e, he, hei, -, -⟩ := getL hlt
      have hw := wrap_small (n := (i : Int) + 1) (by omega) (by omega)
      have hbb : (u.length + 1) * 48 ≤ 70368744177664 := by omega
      have hkf : kepF g K i = if ((i : Nat) : Int) ∈ K then some e else none := by simp [kepF, he]
      by_cases hk : ((i : Nat) : Int) ∈ K
      · obtain ⟨j, hf, hfj⟩ := (mFind_mem (i : Int) K 0).1 hk
        simp only [Nat.zero_add] at hf
        have hfj' : (K.map mE)[j]? = some (.int .i64 i, .bool true) := by rw [List.getElem?_map, hfj]; rfl
        rw [if_pos hk] at hkf
        (repeat (first | refine Run.seq ?_ | refine Run.reg ?_ | refine Run.skip ?_ | refine Run.block ?_ | refine Run.endB ?_ | refine Run.opE rfl ?_ | (apply Run.op0 rfl; (· (simp -implicitDefEqProofs [hlt, he, hei, encE, hf, hfj, hfj', hbb, mE]; exact ⟨rfl, rfl⟩))) | (apply Run.opA rfl; (· (simp -implicitDefEqProofs [hlt, he, hei, encE, hf, hfj, hfj', hbb, mE]; done)); (· (simp -implicitDefEqProofs [hlt, he, hei, encE, hf, hfj, hfj', hbb, mE]; exact ⟨rfl, rfl⟩))) | (apply Run.opN rfl; (· (simp -implicitDefEqProofs [hlt, he, hei, encE, hf, hfj, hfj', hbb, mE]; done))) | (refine Run.condT ?_ ?_; (· (simp -implicitDefEqProofs [hlt, he, hei, encE, hf, hfj, hfj', hbb, mE]; done))) | (refine Run.condF ?_ ?_; (· (simp -implicitDefEqProofs [hlt, he, hei, encE, hf, hfj, hfj', hbb, mE]; done))) | refine Run.exit rfl ?_))
        refine Run.mv [0, 1, 2, 3, 4, 8] _ _ (by rfl) (by decide) (by simp -implicitDefEqProofs [hw, fmap_succ, hkf, hu, mE_comp, encE]) (by simp -implicitDefEqProofs [hw, fmap_succ, hkf, hu, mE_comp, encE]) (ih (i + 1) ?_ ?_)
        · omega
        · omega
      · have hf := (mFind_mem (i : Int) K 0).2 hk
        rw [if_neg hk] at hkf
        (repeat (first | refine Run.seq ?_ | refine Run.reg ?_ | refine Run.skip ?_ | refine Run.block ?_ | refine Run.endB ?_ | refine Run.opE rfl ?_ | (apply Run.op0 rfl; (· (simp -implicitDefEqProofs [hlt, he, hei, encE, hf]; exact ⟨rfl, rfl⟩))) | (apply Run.opA rfl; (· (simp -implicitDefEqProofs [hlt, he, hei, encE, hf]; done)); (· (simp -implicitDefEqProofs [hlt, he, hei, encE, hf]; exact ⟨rfl, rfl⟩))) | (apply Run.opN rfl; (· (simp -implicitDefEqProofs [hlt, he, hei, encE, hf]; done))) | (refine Run.condT ?_ ?_; (· (simp -implicitDefEqProofs [hlt, he, hei, encE, hf]; done))) | (refine Run.condF ?_ ?_; (· (simp -implicitDefEqProofs [hlt, he, hei, encE, hf]; done))) | refine Run.exit rfl ?_))
        refine Run.mv [0, 1, 2, 3, 4, 5] _ _ (by rfl) (by decide) (by simp -implicitDefEqProofs [hw, fmap_succ, hkf, hu, mE_comp]) (by simp -implicitDefEqProofs [hw, fmap_succ, hkf, hu, mE_comp]) (ih (i + 1) ?_ ?_)
        · omega
        · omega
    · have : i = g.length := by omega
      subst this
      clear ih
      have hkg' : kepG g pins = u := by rw [hkg, hu]
      have hupos : 0 < u.length := by
        have h0 : kepF g K 0 = some (g[0]'hgpos) := by simp [kepF, hgpos, hK0]
        rw [← hu]
        cases hz : (List.range g.length).filterMap (kepF g K) with
        | cons => simp
        | nil =>
          rw [List.filterMap_eq_nil_iff] at hz
          have := hz 0 (by simp [hgpos])
          rw [h0] at this; cases this
      obtain ⟨m, hm⟩ : ∃ m, u.length = m + 1 := ⟨u.length - 1, by omega⟩
      have hmlt : m < u.length := by omega
      obtain ⟨e, he, hei, -, -⟩ := getL hmlt
      have hwm : IntKind.i64.wrap ((u.length : Int) - 1) = (m : Int) := by rw [wrap_small (by omega) (by omega)]; omega
      have hlast : u.getLast? = some e := by rw [List.getLast?_eq_getElem?, ← he]; congr 1; omega
      have hdl : u.dropLast = u.take m := by rw [List.dropLast_eq_take]; congr 1; omega
      have hpr : prG g pins bottom = if lastB pins bottom e = true then u.take m else u := by rw [prG, hkg', hlast, ← hdl]
      clear hu hkg hkg' hlast hdl
      (repeat (first | refine Run.seq ?_ | refine Run.reg ?_ | refine Run.skip ?_ | refine Run.block ?_ | refine Run.endB ?_ | refine Run.opE rfl ?_ | (apply Run.op0 rfl; (· (simp -implicitDefEqProofs; exact ⟨rfl, rfl⟩))) | (apply Run.opA rfl; (· (simp -implicitDefEqProofs; done)); (· (simp -implicitDefEqProofs; exact ⟨rfl, rfl⟩))) | (apply Run.opN rfl; (· (simp -implicitDefEqProofs; done))) | (refine Run.condT ?_ ?_; (· (simp -implicitDefEqProofs; done))) | (refine Run.condF ?_ ?_; (· (simp -implicitDefEqProofs; done))) | refine Run.exit rfl ?_))
      refine Run.freeze 5 (es := u.map encE) (sz := 4) (by simp) ?_
      (repeat (first | refine Run.seq ?_ | refine Run.reg ?_ | refine Run.skip ?_ | refine Run.block ?_ | refine Run.endB ?_ | refine Run.opE rfl ?_ | (apply Run.op0 rfl; (· (simp -implicitDefEqProofs [hwm, hmlt, he, hei, encE]; exact ⟨rfl, rfl⟩))) | (apply Run.opA rfl; (· (simp -implicitDefEqProofs [hwm, hmlt, he, hei, encE]; done)); (· (simp -implicitDefEqProofs [hwm, hmlt, he, hei, encE]; exact ⟨rfl, rfl⟩))) | (apply Run.opN rfl; (· (simp -implicitDefEqProofs [hwm, hmlt, he, hei, encE]; done))) | (refine Run.condT ?_ ?_; (· (simp -implicitDefEqProofs [hwm, hmlt, he, hei, encE]; done))) | (refine Run.condF ?_ ?_; (· (simp -implicitDefEqProofs [hwm, hmlt, he, hei, encE]; done))) | refine Run.exit rfl ?_))
      refine Run.quietM prog_mixed (by kernel_rfl) [0, 1, 2, 3] [(1, .ptr 0 0), (2, .ptr 1 0), (3, .ptr 2 0), (8, .vs (u.map encE) 4), (62, .bool (lastB pins bottom e))] [.row [.vs (pins.map encI) 1], .row [.bool bottom], .row [.sl 3 0 o.length 4 none], .arr (o.map encE) 4] (by rfl) (by decide) ?_ ?_
      · cases bottom with
        | false =>
          (repeat (first | refine execQ_E rfl ?_ | (apply execQ_0 rfl; (· rfl); (· (simp -implicitDefEqProofs; exact ⟨rfl, rfl⟩))) | (apply execQ_A rfl; (· (simp -implicitDefEqProofs; done)); (· rfl); (· (simp -implicitDefEqProofs; exact ⟨rfl, rfl⟩))) | (apply execQ_N rfl; (· (simp -implicitDefEqProofs; done)))))
          simp [lastB]
        | true =>
          cases hgo : e.gone with
          | false =>
            (repeat (first | refine execQ_E rfl ?_ | (apply execQ_0 rfl; (· rfl); (· (simp -implicitDefEqProofs [encE, hgo]; exact ⟨rfl, rfl⟩))) | (apply execQ_A rfl; (· (simp -implicitDefEqProofs [encE, hgo]; done)); (· rfl); (· (simp -implicitDefEqProofs [encE, hgo]; exact ⟨rfl, rfl⟩))) | (apply execQ_N rfl; (· (simp -implicitDefEqProofs [encE, hgo]; done)))))
            simp [lastB, hgo]
          | true =>
            cases pins with
            | nil =>
              (repeat (first | refine execQ_E rfl ?_ | (apply execQ_0 rfl; (· rfl); (· (simp -implicitDefEqProofs [encE, hgo]; exact ⟨rfl, rfl⟩))) | (apply execQ_A rfl; (· (simp -implicitDefEqProofs [encE, hgo]; done)); (· rfl); (· (simp -implicitDefEqProofs [encE, hgo]; exact ⟨rfl, rfl⟩))) | (apply execQ_N rfl; (· (simp -implicitDefEqProofs [encE, hgo]; done)))))
              simp [lastB, hgo]
            | cons p ps =>
              have hpn : ¬ ((ps.length : Int) + 1 = 0) := by omega
              (repeat (first | refine execQ_E rfl ?_ | (apply execQ_0 rfl; (· rfl); (· (simp -implicitDefEqProofs [encE, hgo, hpn]; exact ⟨rfl, rfl⟩))) | (apply execQ_A rfl; (· (simp -implicitDefEqProofs [encE, hgo, hpn]; done)); (· rfl); (· (simp -implicitDefEqProofs [encE, hgo, hpn]; exact ⟨rfl, rfl⟩))) | (apply execQ_N rfl; (· (simp -implicitDefEqProofs [encE, hgo, hpn]; done)))))
              refine execQ_C rfl rfl rfl (min_at p ps (by simp at hp; omega) _) ?_
              (repeat (first | refine execQ_E rfl ?_ | (apply execQ_0 rfl; (· rfl); (· (simp -implicitDefEqProofs; exact ⟨rfl, rfl⟩))) | (apply execQ_A rfl; (· (simp -implicitDefEqProofs; done)); (· rfl); (· (simp -implicitDefEqProofs; exact ⟨rfl, rfl⟩))) | (apply execQ_N rfl; (· (simp -implicitDefEqProofs; done)))))
              simp [lastB, hgo]
      cases hb : lastB pins bottom e with
      | true =>
        rw [hb, if_pos rfl] at hpr
        have hle : m ≤ u.length := by omega
        have hle' : (m : Int) ≤ u.length := by omega
        have htl : (u.take m).length = m := by rw [List.length_take]; omega
        have hbb : (o.length + m) * 48 ≤ 70368744177664 := by omega
        (repeat (first | refine Run.seq ?_ | refine Run.reg ?_ | refine Run.skip ?_ | refine Run.block ?_ | refine Run.endB ?_ | refine Run.opE rfl ?_ | (apply Run.op0 rfl; (· (simp -implicitDefEqProofs [hwm, hle, hle', htl, hbb]; exact ⟨rfl, rfl⟩))) | (apply Run.opA rfl; (· (simp -implicitDefEqProofs [hwm, hle, hle', htl, hbb]; done)); (· (simp -implicitDefEqProofs [hwm, hle, hle', htl, hbb]; exact ⟨rfl, rfl⟩))) | (apply Run.opN rfl; (· (simp -implicitDefEqProofs [hwm, hle, hle', htl, hbb]; done))) | (refine Run.condT ?_ ?_; (· (simp -implicitDefEqProofs [hwm, hle, hle', htl, hbb]; done))) | (refine Run.condF ?_ ?_; (· (simp -implicitDefEqProofs [hwm, hle, hle', htl, hbb]; done))) | refine Run.exit rfl ?_))
        refine Run.retI Try.func37 r37_ok trivial (by simp -implicitDefEqProofs [r37, pruH', hpr]; rfl) (by simp [pruH', hpr]) ?_ (by simp -implicitDefEqProofs [pruH', hpr]) (by simp -implicitDefEqProofs [pruH', hpr])
        simp [pruH', hpr, htl]
      | false =>
        rw [hb] at hpr
        simp only [Bool.false_eq_true, if_false] at hpr
        have hbb : (o.length + u.length) * 48 ≤ 70368744177664 := by omega
        (repeat (first | refine Run.seq ?_ | refine Run.reg ?_ | refine Run.skip ?_ | refine Run.block ?_ | refine Run.endB ?_ | refine Run.opE rfl ?_ | (apply Run.op0 rfl; (· (simp -implicitDefEqProofs [hbb]; exact ⟨rfl, rfl⟩))) | (apply Run.opA rfl; (· (simp -implicitDefEqProofs [hbb]; done)); (· (simp -implicitDefEqProofs [hbb]; exact ⟨rfl, rfl⟩))) | (apply Run.opN rfl; (· (simp -implicitDefEqProofs [hbb]; done))) | (refine Run.condT ?_ ?_; (· (simp -implicitDefEqProofs [hbb]; done))) | (refine Run.condF ?_ ?_; (· (simp -implicitDefEqProofs [hbb]; done))) | refine Run.exit rfl ?_))
        refine Run.retI Try.func37 r37_ok trivial (by simp -implicitDefEqProofs [r37, pruH', hpr]; rfl) (by simp [pruH', hpr]) ?_ (by simp -implicitDefEqProofs [pruH', hpr]) (by simp -implicitDefEqProofs [pruH', hpr])
        simp [pruH', hpr]

end Go.Proofs.Ytphpkigfmmanhaa
