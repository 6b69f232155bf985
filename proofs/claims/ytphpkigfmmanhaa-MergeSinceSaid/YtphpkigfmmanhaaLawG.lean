/-
  Layer 11, part LawG: the law MergeParts.
-/
import Derived.Test.YtphpkigfmmanhaaLawF
namespace Go.Proofs.Ytphpkigfmmanhaa
open Sx Go
set_option maxRecDepth 100000
set_option linter.unusedSimpArgs false
set_option linter.unusedVariables false
set_option linter.unnecessarySimpa false
attribute [local simp] guardB isCall opStep Opd.ev put readAt aBin aUn args0 V.celled V.ones V.one V.cells putAt bounds bound1 elemsOf srcOf appendV fillAt fillEl V.pures V.pure unwind evs ARes.ev mkRes V.ren V.renL O.ren eqCells eq1 aEq aMM hasTy hasTyN okTy mmGo Known HLe OLe VsLe.refl VLe.refl Stay VsLe V.frz V.frzL O.frz fr clearV rn KnownR Objs OLeO ObjsE nm back setAll ren_ite take_map_len List.take_of_length_le
attribute [local simp ↓] upd_app tl_cons tl_nil
attribute [local simp] encE_ren encE_ones encE_len encE_take

/-- no two of one key and number -/
def Cons (L : List En) : Prop := ∀ u ∈ L, ∀ v ∈ L, sameK u v = true → u = v
theorem cons_find {L : List En} (h : Cons L) (w : En) : L.find? (sameK · w) = some w ↔ w ∈ L := by
  constructor
  · exact List.mem_of_find?_eq_some
  · intro hw
    cases hf : L.find? (sameK · w) with
    | none => have := List.find?_eq_none.1 hf w hw; rw [sameK_refl] at this; exact absurd rfl this
    | some u =>
      have h1 : sameK u w = true := by simpa using List.find?_some hf
      rw [h u (List.mem_of_find?_eq_some hf) w hw h1]
theorem all_mem {ls : List (List En)} (hm : mayL ls = true) (hc : Cons ls.flatten) (w : En) : w ∈ allM ls ↔ w ∈ ls.flatten := by
  rw [(all_spec hm).2, cons_find hc]
theorem rise_cons {l : List En} (h : RiseE l) : Cons l := by
  intro u hu v hv hs
  have h1 := (rise_find h v u).2 ⟨hu, hs⟩
  have h2 := (rise_find h v v).2 ⟨hv, sameK_refl v⟩
  rw [h1] at h2; exact Option.some.inj h2
/-- such as the first has not -/
def notIn (x z : List En) : List En := z.filter fun e => !hasE x e
theorem notIn_cons {x z : List En} (hx : RiseE x) (hz : RiseE z) : Cons (x ++ notIn x z) := by
  have hd : ∀ u ∈ x, ∀ v ∈ notIn x z, sameK u v = false := by
    intro u hu v hv
    have := (List.mem_filter.1 hv).2
    cases hs : sameK u v with
    | false => rfl
    | true =>
      have : hasE x v = true := List.any_eq_true.2 ⟨u, hu, hs⟩
      simp [this] at *
  intro u hu v hv hs
  rcases List.mem_append.1 hu with hu | hu <;> rcases List.mem_append.1 hv with hv | hv
  · exact rise_cons hx u hu v hv hs
  · rw [hd u hu v hv] at hs; cases hs
  · rw [sameK_symm, hd v hv u hu] at hs; cases hs
  · exact rise_cons hz u (List.mem_filter.1 hu).1 v (List.mem_filter.1 hv).1 hs

theorem put1_len_new {o : List En} (ho : RiseE o) {e : En} (hm : mayE e = true) (hh : hasE o e = false) : (put1 o e).length = o.length + 1 := by
  rw [(put1_new ho hm hh).1]
  have := congrArg List.length (List.takeWhile_append_dropWhile (p := (lessE · e)) (l := o))
  simp only [List.length_append, List.length_cons] at *
  omega
theorem fold_exact : ∀ (L o : List En), RiseE o → (∀ y ∈ L, mayE y = true) → (∀ y ∈ L, hasE o y = false) → L.Pairwise (fun a b => sameK a b = false) → (L.foldl stepO o).length = o.length + L.length
  | [], o, _, _, _, _ => rfl
  | e :: L, o, ho, hm, hh, hp => by
    obtain ⟨h1, h2⟩ := List.pairwise_cons.1 hp
    have he := hh e (by simp)
    have hst : stepO o e = put1 o e := by rw [stepO, if_neg (by simp [he])]
    have hr := (step_spec ho (hm e (by simp))).1
    have hx := fold_exact L (stepO o e) hr (fun y hy => hm y (by simp [hy])) (fun y hy => by
      have hsp := (put1_new ho (hm e (by simp)) he).1
      cases hs : hasE (stepO o e) y with
      | false => rfl
      | true =>
        obtain ⟨u, hu, hsu⟩ := List.any_eq_true.1 hs
        rw [hst, hsp] at hu
        have hu' : u ∈ o ∨ u = e := by
          rcases List.mem_append.1 hu with h | h
          · exact .inl ((List.takeWhile_prefix _).subset h)
          · rcases List.mem_cons.1 h with h | h
            · exact .inr h
            · exact .inl ((List.dropWhile_suffix _).subset h)
        rcases hu' with hu' | rfl
        · have : hasE o y = true := List.any_eq_true.2 ⟨u, hu', hsu⟩
          rw [hh y (by simp [hy])] at this; cases this
        · exact absurd (show sameK u y = true from hsu) (by rw [h1 y hy]; simp)) h2
    rw [List.foldl_cons, hx, hst, put1_len_new ho (hm e (by simp)) he]
    simp only [List.length_cons]; omega

theorem parts_plain {x z : List En} (hx : checkE x = true) (hz : checkE z = true) (hxl : x.length ≤ 60) (hzl : z.length ≤ 60) :
    let y := notIn x z
    mergeM [x, y] = (allM [x, y], 0) ∧ mergeM [y, x] = (allM [x, y], 0) ∧ mergeM [allM [x, y], x, y] = (allM [x, y], 0) ∧ mergeM [x, x] = (x, 0) ∧ (allM [x, y]).length = x.length + y.length := by
  intro y
  obtain ⟨-, hx2, hx3⟩ := checkE_iff.1 hx
  obtain ⟨-, hz2, hz3⟩ := checkE_iff.1 hz
  have hyl : y.length ≤ 60 := Nat.le_trans (List.length_filter_le _ _) hzl
  have hyr : RiseE y := hz2.sublist (List.filter_sublist)
  have hym : ∀ e ∈ y, mayE e = true := fun e he => hz3 e (List.mem_filter.1 he).1
  have hy : checkE y = true := checkE_iff.2 ⟨by omega, hyr, hym⟩
  have hcxy : Cons (x ++ y) := notIn_cons hx2 hz2
  have hcyx : Cons (y ++ x) := fun u hu v hv => hcxy u (by simp at hu ⊢; exact hu.symm) v (by simp at hv ⊢; exact hv.symm)
  have m1 : mayL [x, y] = true := by simp [mayL, hx, hy]
  have m2 : mayL [y, x] = true := by simp [mayL, hx, hy]
  have m4 : mayL [x, x] = true := by simp [mayL, hx]
  have f1 : [x, y].flatten = x ++ y := by simp
  have f2 : [y, x].flatten = y ++ x := by simp
  have f4 : [x, x].flatten = x ++ x := by simp
  have hc4 : Cons (x ++ x) := fun u hu v hv hs => rise_cons hx2 u (by simpa using hu) v (by simpa using hv) hs
  have a1 : ∀ w, w ∈ allM [x, y] ↔ w ∈ x ∨ w ∈ y := fun w => by rw [all_mem m1 (by rw [f1]; exact hcxy), f1, List.mem_append]
  have a2 : ∀ w, w ∈ allM [y, x] ↔ w ∈ x ∨ w ∈ y := fun w => by rw [all_mem m2 (by rw [f2]; exact hcyx), f2, List.mem_append]; exact Or.comm
  have a4 : ∀ w, w ∈ allM [x, x] ↔ w ∈ x := fun w => by rw [all_mem m4 (by rw [f4]; exact hc4), f4, List.mem_append]; simp
  have r1 := (all_spec m1).1
  have r2 := (all_spec m2).1
  have r4 := (all_spec m4).1
  have e2 : allM [y, x] = allM [x, y] := rise_ext r2 r1 fun w => by rw [a1, a2]
  have e4 : allM [x, x] = x := rise_ext r4 hx2 a4
  have hlen : (allM [x, y]).length = x.length + y.length := by
    rw [allM, allM_flat, f1]
    have := fold_exact (x ++ y) [] List.Pairwise.nil (fun e he => by
      rcases List.mem_append.1 he with h | h
      · exact hx3 e h
      · exact hym e h) (fun e _ => rfl) (by
      refine List.pairwise_append.2 ⟨hx2.imp fun h => lessE_not_same h, hyr.imp fun h => lessE_not_same h, fun u hu v hv => ?_⟩
      cases hs : sameK u v with
      | false => rfl
      | true =>
        have h1 := (List.mem_filter.1 hv).2
        have h2 : hasE x v = true := List.any_eq_true.2 ⟨u, hu, hs⟩
        rw [h2] at h1; cases h1)
    rw [this]; simp
  have hlc : checkE (allM [x, y]) = true := checkE_iff.2 ⟨by omega, r1, fun e he => by
    rcases (a1 e).1 he with h | h
    · exact hx3 e h
    · exact hym e h⟩
  have m3 : mayL [allM [x, y], x, y] = true := by simp [mayL, hx, hy, hlc]
  have f3 : [allM [x, y], x, y].flatten = allM [x, y] ++ (x ++ y) := by simp
  have hm3 : ∀ w, w ∈ allM [x, y] ++ (x ++ y) ↔ w ∈ x ++ y := fun w => by rw [List.mem_append, a1, List.mem_append]; simp
  have hc3 : Cons (allM [x, y] ++ (x ++ y)) := fun u hu v hv => hcxy u ((hm3 u).1 hu) v ((hm3 v).1 hv)
  have a3 : ∀ w, w ∈ allM [allM [x, y], x, y] ↔ w ∈ x ∨ w ∈ y := fun w => by rw [all_mem m3 (by rw [f3]; exact hc3), f3, hm3, List.mem_append]
  have e3 : allM [allM [x, y], x, y] = allM [x, y] := rise_ext (all_spec m3).1 r1 fun w => by rw [a1, a3]
  refine ⟨?_, ?_, ?_, ?_, hlen⟩
  · rw [mergeM, if_pos m1, if_pos (by omega)]
  · rw [mergeM, if_pos m2, e2, if_pos (by omega)]
  · rw [mergeM, if_pos m3, e3, if_pos (by omega)]
  · rw [mergeM, if_pos m4, e4, if_pos (by omega)]

theorem parts_law (a b : List En) : Tri Try.prog 8 [.vs (a.map encE) 4, .vs (b.map encE) 4] [] (fun v H => v = .bool true ∧ H = []) := by
  refine Tri.of_run' Try.func8 rfl c8_ok (by simp [Try.ntmps8]) ?_
  have hend : ∀ {k t h}, AtEnd k → t 4 = .bool true → Run ⟨Try.prog, 8, Try.f8.ntmps, [], fun v H => v = .bool true ∧ H = []⟩ ⟨k, t, h⟩ := by
    intro k t h hk h6
    refine Run.mv [] [(4, .bool true)] [] (by rfl) (by decide) (by simp [h6]) (by simp) ?_
    refine Run.ret0 rfl Try.func8 r8_ok hk (by simp [r8]; rfl) ?_ (by simp)
    simp
  have hdull : ∀ {k}, Run ⟨Try.prog, 8, Try.f8.ntmps, [], fun v H => v = .bool true ∧ H = []⟩ ⟨.ops c8r2 :: .code .ret :: k, tl [], []⟩ := by
    intro k
    (repeat (first | refine Run.seq ?_ | refine Run.reg ?_ | refine Run.skip ?_ | refine Run.block ?_ | refine Run.endB ?_ | refine Run.opE rfl ?_ | (apply Run.op0 rfl; (· (simp -implicitDefEqProofs; exact ⟨rfl, rfl⟩))) | (apply Run.opA rfl; (· (simp -implicitDefEqProofs; done)); (· (simp -implicitDefEqProofs; exact ⟨rfl, rfl⟩))) | (apply Run.opN rfl; (· (simp -implicitDefEqProofs; done))) | (refine Run.condT ?_ ?_; (· (simp -implicitDefEqProofs; done))) | (refine Run.condF ?_ ?_; (· (simp -implicitDefEqProofs; done))) | refine Run.exit rfl ?_))
    refine Run.opC rfl rfl rfl (awake_at _) ?_
    rintro v h' ⟨rfl, rfl⟩
    (repeat (first | refine Run.seq ?_ | refine Run.reg ?_ | refine Run.skip ?_ | refine Run.block ?_ | refine Run.endB ?_ | refine Run.opE rfl ?_ | (apply Run.op0 rfl; (· (simp -implicitDefEqProofs; exact ⟨rfl, rfl⟩))) | (apply Run.opA rfl; (· (simp -implicitDefEqProofs; done)); (· (simp -implicitDefEqProofs; exact ⟨rfl, rfl⟩))) | (apply Run.opN rfl; (· (simp -implicitDefEqProofs; done))) | (refine Run.condT ?_ ?_; (· (simp -implicitDefEqProofs; done))) | (refine Run.condF ?_ ?_; (· (simp -implicitDefEqProofs; done))) | refine Run.exit rfl ?_))
    exact hend trivial (by simp)
  (repeat (first | refine Run.seq ?_ | refine Run.reg ?_ | refine Run.skip ?_ | refine Run.block ?_ | refine Run.endB ?_ | refine Run.opE rfl ?_ | (apply Run.op0 rfl; (· (simp -implicitDefEqProofs; exact ⟨rfl, rfl⟩))) | (apply Run.opA rfl; (· (simp -implicitDefEqProofs; done)); (· (simp -implicitDefEqProofs; exact ⟨rfl, rfl⟩))) | (apply Run.opN rfl; (· (simp -implicitDefEqProofs; done))) | (refine Run.condT ?_ ?_; (· (simp -implicitDefEqProofs; done))) | (refine Run.condF ?_ ?_; (· (simp -implicitDefEqProofs; done))) | refine Run.exit rfl ?_))
  refine Run.opC rfl rfl rfl (light_at a _) ?_
  rintro v h' ⟨rfl, rfl⟩
  cases la : lightM a with
  | false =>
    (repeat (first | refine Run.seq ?_ | refine Run.reg ?_ | refine Run.skip ?_ | refine Run.block ?_ | refine Run.endB ?_ | refine Run.opE rfl ?_ | (apply Run.op0 rfl; (· (simp -implicitDefEqProofs; exact ⟨rfl, rfl⟩))) | (apply Run.opA rfl; (· (simp -implicitDefEqProofs; done)); (· (simp -implicitDefEqProofs; exact ⟨rfl, rfl⟩))) | (apply Run.opN rfl; (· (simp -implicitDefEqProofs; done))) | (refine Run.condT ?_ ?_; (· (simp -implicitDefEqProofs; done))) | (refine Run.condF ?_ ?_; (· (simp -implicitDefEqProofs; done))) | refine Run.exit rfl ?_))
    refine Run.mv [] [] [] (by rfl) (by decide) (by simp -implicitDefEqProofs) (by simp -implicitDefEqProofs) ?_
    exact hdull
  | true =>
  (repeat (first | refine Run.seq ?_ | refine Run.reg ?_ | refine Run.skip ?_ | refine Run.block ?_ | refine Run.endB ?_ | refine Run.opE rfl ?_ | (apply Run.op0 rfl; (· (simp -implicitDefEqProofs; exact ⟨rfl, rfl⟩))) | (apply Run.opA rfl; (· (simp -implicitDefEqProofs; done)); (· (simp -implicitDefEqProofs; exact ⟨rfl, rfl⟩))) | (apply Run.opN rfl; (· (simp -implicitDefEqProofs; done))) | (refine Run.condT ?_ ?_; (· (simp -implicitDefEqProofs; done))) | (refine Run.condF ?_ ?_; (· (simp -implicitDefEqProofs; done))) | refine Run.exit rfl ?_))
  refine Run.opC rfl (by simp) rfl (light_at b _) ?_
  rintro v h' ⟨rfl, rfl⟩
  cases lb : lightM b with
  | false =>
    (repeat (first | refine Run.seq ?_ | refine Run.reg ?_ | refine Run.skip ?_ | refine Run.block ?_ | refine Run.endB ?_ | refine Run.opE rfl ?_ | (apply Run.op0 rfl; (· (simp -implicitDefEqProofs; exact ⟨rfl, rfl⟩))) | (apply Run.opA rfl; (· (simp -implicitDefEqProofs; done)); (· (simp -implicitDefEqProofs; exact ⟨rfl, rfl⟩))) | (apply Run.opN rfl; (· (simp -implicitDefEqProofs; done))) | (refine Run.condT ?_ ?_; (· (simp -implicitDefEqProofs; done))) | (refine Run.condF ?_ ?_; (· (simp -implicitDefEqProofs; done))) | refine Run.exit rfl ?_))
    refine Run.mv [] [] [] (by rfl) (by decide) (by simp -implicitDefEqProofs) (by simp -implicitDefEqProofs) ?_
    exact hdull
  | true =>
  have ha := lightM_len la
  have hb := lightM_len lb
  have hax := madeM_len a
  have hbx := madeM_len b
  have hcx := made_check (l := a) (by omega)
  have hcz := made_check (l := b) (by omega)
  (repeat (first | refine Run.seq ?_ | refine Run.reg ?_ | refine Run.skip ?_ | refine Run.block ?_ | refine Run.endB ?_ | refine Run.opE rfl ?_ | (apply Run.op0 rfl; (· (simp -implicitDefEqProofs; exact ⟨rfl, rfl⟩))) | (apply Run.opA rfl; (· (simp -implicitDefEqProofs; done)); (· (simp -implicitDefEqProofs; exact ⟨rfl, rfl⟩))) | (apply Run.opN rfl; (· (simp -implicitDefEqProofs; done))) | (refine Run.condT ?_ ?_; (· (simp -implicitDefEqProofs; done))) | (refine Run.condF ?_ ?_; (· (simp -implicitDefEqProofs; done))) | refine Run.exit rfl ?_))
  refine Run.opC rfl rfl rfl (made_at a (by omega) _) ?_
  rintro v h' ⟨rfl, rfl⟩
  generalize madeM a = x at *
  (repeat (first | refine Run.seq ?_ | refine Run.reg ?_ | refine Run.skip ?_ | refine Run.block ?_ | refine Run.endB ?_ | refine Run.opE rfl ?_ | (apply Run.op0 rfl; (· (simp -implicitDefEqProofs; exact ⟨rfl, rfl⟩))) | (apply Run.opA rfl; (· (simp -implicitDefEqProofs; done)); (· (simp -implicitDefEqProofs; exact ⟨rfl, rfl⟩))) | (apply Run.opN rfl; (· (simp -implicitDefEqProofs; done))) | (refine Run.condT ?_ ?_; (· (simp -implicitDefEqProofs; done))) | (refine Run.condF ?_ ?_; (· (simp -implicitDefEqProofs; done))) | refine Run.exit rfl ?_))
  refine Run.opC rfl rfl rfl (made_at b (by omega) _) ?_
  rintro v h' ⟨rfl, rfl⟩
  generalize madeM b = z at *
  have hplain := parts_plain hcx hcz (by omega) (by omega)
  simp only at hplain
  (repeat (first | refine Run.seq ?_ | refine Run.reg ?_ | refine Run.skip ?_ | refine Run.block ?_ | refine Run.endB ?_ | refine Run.opE rfl ?_ | (apply Run.op0 rfl; (· (simp -implicitDefEqProofs; exact ⟨rfl, rfl⟩))) | (apply Run.opA rfl; (· (simp -implicitDefEqProofs; done)); (· (simp -implicitDefEqProofs; exact ⟨rfl, rfl⟩))) | (apply Run.opN rfl; (· (simp -implicitDefEqProofs; done))) | (refine Run.condT ?_ ?_; (· (simp -implicitDefEqProofs; done))) | (refine Run.condF ?_ ?_; (· (simp -implicitDefEqProofs; done))) | refine Run.exit rfl ?_))
  refine Run.nilA 6 4 (by simp) ?_
  refine Run.loopC [0] (fun (i : Nat) => ([(5, .vs (x.map encE) 4), (6, .sl 0 0 (notIn x (z.take i)).length 4 none), (7, .vs (z.map encE) 4), (8, .int .i64 i)], [.arr ((notIn x (z.take i)).map encE) 4])) (fun i => i ≤ z.length) (fun i => z.length - i) 0 (by simp) (by rfl) (by decide) (by simp [notIn]) (by simp [notIn]) ?_
  intro i hi ihO
  by_cases hlt : i < z.length
  · obtain ⟨e, he, hei, -, -⟩ := getL hlt
    have hw := wrap_small (n := (i : Int) + 1) (by omega) (by omega)
    have hnx : notIn x (z.take (i + 1)) = notIn x (z.take i) ++ (if hasE x e = true then [] else [e]) := by
      unfold notIn
      rw [List.take_add_one, he, List.filter_append]
      cases hh : hasE x e <;> simp [hh]
    have hyl : (notIn x (z.take i)).length ≤ 60 := by
      have := List.length_filter_le (fun e => !hasE x e) (z.take i)
      rw [List.length_take] at this; unfold notIn; omega
    generalize notIn x (z.take i) = y at *
    have hbb : (y.length + 1) * 48 ≤ 70368744177664 := by omega
    (repeat (first | refine Run.seq ?_ | refine Run.reg ?_ | refine Run.skip ?_ | refine Run.block ?_ | refine Run.endB ?_ | refine Run.opE rfl ?_ | (apply Run.op0 rfl; (· (simp -implicitDefEqProofs [hlt]; exact ⟨rfl, rfl⟩))) | (apply Run.opA rfl; (· (simp -implicitDefEqProofs [hlt]; done)); (· (simp -implicitDefEqProofs [hlt]; exact ⟨rfl, rfl⟩))) | (apply Run.opN rfl; (· (simp -implicitDefEqProofs [hlt]; done))) | (refine Run.condT ?_ ?_; (· (simp -implicitDefEqProofs [hlt]; done))) | (refine Run.condF ?_ ?_; (· (simp -implicitDefEqProofs [hlt]; done))) | refine Run.exit rfl ?_))
    refine Run.loopC [0] (fun (j : Nat) => ([(5, .vs (x.map encE) 4), (6, .sl 0 0 y.length 4 none), (7, .vs (z.map encE) 4), (8, .int .i64 i), (9, .bool (hasE (x.take j) e)), (10, .int .i64 j)], [.arr (y.map encE) 4])) (fun j => j ≤ x.length) (fun j => x.length - j) 0 (by simp) (by rfl) (by decide) (by simp [hasE]) (by simp) ?_
    intro j hj ih
    by_cases hlj : j < x.length
    · obtain ⟨u, hu, hui, -, -⟩ := getL hlj
      have hwj := wrap_small (n := (j : Int) + 1) (by omega) (by omega)
      have hnj : hasE (x.take (j + 1)) e = (hasE (x.take j) e || sameK u e) := by
        unfold hasE
        rw [List.take_add_one, hu, List.any_append]; simp
      generalize hasE (x.take j) e = h0 at hnj
      (repeat (first | refine Run.seq ?_ | refine Run.reg ?_ | refine Run.skip ?_ | refine Run.block ?_ | refine Run.endB ?_ | refine Run.opE rfl ?_ | (apply Run.op0 rfl; (· (simp -implicitDefEqProofs [hlj]; exact ⟨rfl, rfl⟩))) | (apply Run.opA rfl; (· (simp -implicitDefEqProofs [hlj]; done)); (· (simp -implicitDefEqProofs [hlj]; exact ⟨rfl, rfl⟩))) | (apply Run.opN rfl; (· (simp -implicitDefEqProofs [hlj]; done))) | (refine Run.condT ?_ ?_; (· (simp -implicitDefEqProofs [hlj]; done))) | (refine Run.condF ?_ ?_; (· (simp -implicitDefEqProofs [hlj]; done))) | refine Run.exit rfl ?_))
      refine Run.qchain prog_mixed 27 (by kernel_rfl) ?_
      cases h0 with
      | true =>
        (repeat (first | refine execQ_E rfl ?_ | (apply execQ_0 rfl; (· rfl); (· (simp -implicitDefEqProofs; exact ⟨rfl, rfl⟩))) | (apply execQ_A rfl; (· (simp -implicitDefEqProofs; done)); (· rfl); (· (simp -implicitDefEqProofs; exact ⟨rfl, rfl⟩))) | (apply execQ_N rfl; (· (simp -implicitDefEqProofs; done)))))
        (repeat (first | refine SeqR.E rfl ?_ | (apply SeqR.o0 rfl; (· (simp -implicitDefEqProofs; exact ⟨rfl, rfl⟩))) | (apply SeqR.A rfl; (· (simp -implicitDefEqProofs; done)); (· (simp -implicitDefEqProofs; exact ⟨rfl, rfl⟩))) | (apply SeqR.N rfl; (· (simp -implicitDefEqProofs; done)))))
        (repeat (first | refine Run.seq ?_ | refine Run.reg ?_ | refine Run.skip ?_ | refine Run.block ?_ | refine Run.endB ?_ | refine Run.opE rfl ?_ | (apply Run.op0 rfl; (· (simp -implicitDefEqProofs; exact ⟨rfl, rfl⟩))) | (apply Run.opA rfl; (· (simp -implicitDefEqProofs; done)); (· (simp -implicitDefEqProofs; exact ⟨rfl, rfl⟩))) | (apply Run.opN rfl; (· (simp -implicitDefEqProofs; done))) | (refine Run.condT ?_ ?_; (· (simp -implicitDefEqProofs; done))) | (refine Run.condF ?_ ?_; (· (simp -implicitDefEqProofs; done))) | refine Run.exit rfl ?_))
        refine Run.mv [0] _ _ (by rfl) (by decide) (by simp -implicitDefEqProofs [hwj, hnj]) (by simp -implicitDefEqProofs [hwj, hnj]) (ih (j + 1) ?_ ?_)
        · omega
        · omega
      | false =>
        by_cases hk : u.key = e.key
        · (repeat (first | refine execQ_E rfl ?_ | (apply execQ_0 rfl; (· rfl); (· (simp -implicitDefEqProofs [hlt, he, hei, encE, hlj, hu, hui, hk]; exact ⟨rfl, rfl⟩))) | (apply execQ_A rfl; (· (simp -implicitDefEqProofs [hlt, he, hei, encE, hlj, hu, hui, hk]; done)); (· rfl); (· (simp -implicitDefEqProofs [hlt, he, hei, encE, hlj, hu, hui, hk]; exact ⟨rfl, rfl⟩))) | (apply execQ_N rfl; (· (simp -implicitDefEqProofs [hlt, he, hei, encE, hlj, hu, hui, hk]; done)))))
          (repeat (first | refine SeqR.E rfl ?_ | (apply SeqR.o0 rfl; (· (simp -implicitDefEqProofs; exact ⟨rfl, rfl⟩))) | (apply SeqR.A rfl; (· (simp -implicitDefEqProofs; done)); (· (simp -implicitDefEqProofs; exact ⟨rfl, rfl⟩))) | (apply SeqR.N rfl; (· (simp -implicitDefEqProofs; done)))))
          (repeat (first | refine Run.seq ?_ | refine Run.reg ?_ | refine Run.skip ?_ | refine Run.block ?_ | refine Run.endB ?_ | refine Run.opE rfl ?_ | (apply Run.op0 rfl; (· (simp -implicitDefEqProofs; exact ⟨rfl, rfl⟩))) | (apply Run.opA rfl; (· (simp -implicitDefEqProofs; done)); (· (simp -implicitDefEqProofs; exact ⟨rfl, rfl⟩))) | (apply Run.opN rfl; (· (simp -implicitDefEqProofs; done))) | (refine Run.condT ?_ ?_; (· (simp -implicitDefEqProofs; done))) | (refine Run.condF ?_ ?_; (· (simp -implicitDefEqProofs; done))) | refine Run.exit rfl ?_))
          refine Run.mv [0] _ _ (by rfl) (by decide) (by simp -implicitDefEqProofs [hwj, hnj, sameK, hk]) (by simp -implicitDefEqProofs [hwj, hnj, sameK, hk]) (ih (j + 1) ?_ ?_)
          · omega
          · omega
        · (repeat (first | refine execQ_E rfl ?_ | (apply execQ_0 rfl; (· rfl); (· (simp -implicitDefEqProofs [hlt, he, hei, encE, hlj, hu, hui, hk]; exact ⟨rfl, rfl⟩))) | (apply execQ_A rfl; (· (simp -implicitDefEqProofs [hlt, he, hei, encE, hlj, hu, hui, hk]; done)); (· rfl); (· (simp -implicitDefEqProofs [hlt, he, hei, encE, hlj, hu, hui, hk]; exact ⟨rfl, rfl⟩))) | (apply execQ_N rfl; (· (simp -implicitDefEqProofs [hlt, he, hei, encE, hlj, hu, hui, hk]; done)))))
          (repeat (first | refine SeqR.E rfl ?_ | (apply SeqR.o0 rfl; (· (simp -implicitDefEqProofs; exact ⟨rfl, rfl⟩))) | (apply SeqR.A rfl; (· (simp -implicitDefEqProofs; done)); (· (simp -implicitDefEqProofs; exact ⟨rfl, rfl⟩))) | (apply SeqR.N rfl; (· (simp -implicitDefEqProofs; done)))))
          (repeat (first | refine Run.seq ?_ | refine Run.reg ?_ | refine Run.skip ?_ | refine Run.block ?_ | refine Run.endB ?_ | refine Run.opE rfl ?_ | (apply Run.op0 rfl; (· (simp -implicitDefEqProofs; exact ⟨rfl, rfl⟩))) | (apply Run.opA rfl; (· (simp -implicitDefEqProofs; done)); (· (simp -implicitDefEqProofs; exact ⟨rfl, rfl⟩))) | (apply Run.opN rfl; (· (simp -implicitDefEqProofs; done))) | (refine Run.condT ?_ ?_; (· (simp -implicitDefEqProofs; done))) | (refine Run.condF ?_ ?_; (· (simp -implicitDefEqProofs; done))) | refine Run.exit rfl ?_))
          refine Run.mv [0] _ _ (by rfl) (by decide) (by simp -implicitDefEqProofs [hwj, hnj, sameK, hk]) (by simp -implicitDefEqProofs [hwj, hnj, sameK, hk]) (ih (j + 1) ?_ ?_)
          · omega
          · omega
    · have : j = x.length := by omega
      subst this
      rw [List.take_length]
      clear ih
      have ih := ihO
      cases hh : hasE x e with
      | true =>
        rw [hh] at hnx
        (repeat (first | refine Run.seq ?_ | refine Run.reg ?_ | refine Run.skip ?_ | refine Run.block ?_ | refine Run.endB ?_ | refine Run.opE rfl ?_ | (apply Run.op0 rfl; (· (simp -implicitDefEqProofs; exact ⟨rfl, rfl⟩))) | (apply Run.opA rfl; (· (simp -implicitDefEqProofs; done)); (· (simp -implicitDefEqProofs; exact ⟨rfl, rfl⟩))) | (apply Run.opN rfl; (· (simp -implicitDefEqProofs; done))) | (refine Run.condT ?_ ?_; (· (simp -implicitDefEqProofs; done))) | (refine Run.condF ?_ ?_; (· (simp -implicitDefEqProofs; done))) | refine Run.exit rfl ?_))
        refine Run.mv [0] _ _ (by rfl) (by decide) (by simp -implicitDefEqProofs [hw, hnx]) (by simp -implicitDefEqProofs [hw, hnx]) (ih (i + 1) ?_ ?_)
        · omega
        · omega
      | false =>
        rw [hh] at hnx
        (repeat (first | refine Run.seq ?_ | refine Run.reg ?_ | refine Run.skip ?_ | refine Run.block ?_ | refine Run.endB ?_ | refine Run.opE rfl ?_ | (apply Run.op0 rfl; (· (simp -implicitDefEqProofs [hlt, he, hei, encE, hbb]; exact ⟨rfl, rfl⟩))) | (apply Run.opA rfl; (· (simp -implicitDefEqProofs [hlt, he, hei, encE, hbb]; done)); (· (simp -implicitDefEqProofs [hlt, he, hei, encE, hbb]; exact ⟨rfl, rfl⟩))) | (apply Run.opN rfl; (· (simp -implicitDefEqProofs [hlt, he, hei, encE, hbb]; done))) | (refine Run.condT ?_ ?_; (· (simp -implicitDefEqProofs [hlt, he, hei, encE, hbb]; done))) | (refine Run.condF ?_ ?_; (· (simp -implicitDefEqProofs [hlt, he, hei, encE, hbb]; done))) | refine Run.exit rfl ?_))
        refine Run.mv [2] _ _ (by rfl) (by decide) (by simp -implicitDefEqProofs [hw, hnx, encE]) (by simp -implicitDefEqProofs [hw, hnx, encE]) (ih (i + 1) ?_ ?_)
        · omega
        · omega
  · have : i = z.length := by omega
    subst this
    clear ihO
    rw [List.take_length]
    obtain ⟨p1, p2, p3, p4, p5⟩ := hplain
    have hyl : (notIn x z).length ≤ 60 := by
      have := List.length_filter_le (fun e => !hasE x e) z
      unfold notIn; omega
    generalize notIn x z = y at *
    obtain ⟨l, hl⟩ : ∃ l, l = allM [x, y] := ⟨_, rfl⟩
    rw [← hl] at p1 p2 p3 p5
    have hll : l.length ≤ 4611686018427387904 := by omega
    have hwl : IntKind.i64.wrap ((x.length : Int) + y.length) = (l.length : Int) := by rw [wrap_small (by omega) (by omega)]; omega
    clear hl
    (repeat (first | refine Run.seq ?_ | refine Run.reg ?_ | refine Run.skip ?_ | refine Run.block ?_ | refine Run.endB ?_ | refine Run.opE rfl ?_ | (apply Run.op0 rfl; (· (simp -implicitDefEqProofs; exact ⟨rfl, rfl⟩))) | (apply Run.opA rfl; (· (simp -implicitDefEqProofs; done)); (· (simp -implicitDefEqProofs; exact ⟨rfl, rfl⟩))) | (apply Run.opN rfl; (· (simp -implicitDefEqProofs; done))) | (refine Run.condT ?_ ?_; (· (simp -implicitDefEqProofs; done))) | (refine Run.condF ?_ ?_; (· (simp -implicitDefEqProofs; done))) | refine Run.exit rfl ?_))
    refine Run.freeze 0 (es := y.map encE) (sz := 4) (by simp) ?_
    refine Run.mv [] [(5, .vs (x.map encE) 4), (6, .vs (y.map encE) 4), (81, .vs (x.map encE) 4), (82, .vs (y.map encE) 4)] [] (by rfl) (by decide) (by simp -implicitDefEqProofs) (by simp -implicitDefEqProofs) ?_
    (repeat (first | refine Run.seq ?_ | refine Run.reg ?_ | refine Run.skip ?_ | refine Run.block ?_ | refine Run.endB ?_ | refine Run.opE rfl ?_ | (apply Run.op0 rfl; (· (simp -implicitDefEqProofs; exact ⟨rfl, rfl⟩))) | (apply Run.opA rfl; (· (simp -implicitDefEqProofs; done)); (· (simp -implicitDefEqProofs; exact ⟨rfl, rfl⟩))) | (apply Run.opN rfl; (· (simp -implicitDefEqProofs; done))) | (refine Run.condT ?_ ?_; (· (simp -implicitDefEqProofs; done))) | (refine Run.condF ?_ ?_; (· (simp -implicitDefEqProofs; done))) | refine Run.exit rfl ?_))
    refine Run.freeze 0 (es := [x, y].map encL) (sz := 1) (by simp [encL]) ?_
    refine Run.mv [] [(5, .vs (x.map encE) 4), (6, .vs (y.map encE) 4), (83, .vs ([x, y].map encL) 1)] [] (by rfl) (by decide) (by simp -implicitDefEqProofs [encL]) (by simp -implicitDefEqProofs [encL]) ?_
    refine Run.opC rfl rfl rfl (mrgM_at [x, y] (by simp) _) ?_
    rintro v h' ⟨rfl, rfl⟩
    rw [p1]
    (repeat (first | refine Run.seq ?_ | refine Run.reg ?_ | refine Run.skip ?_ | refine Run.block ?_ | refine Run.endB ?_ | refine Run.opE rfl ?_ | (apply Run.op0 rfl; (· (simp -implicitDefEqProofs; exact ⟨rfl, rfl⟩))) | (apply Run.opA rfl; (· (simp -implicitDefEqProofs; done)); (· (simp -implicitDefEqProofs; exact ⟨rfl, rfl⟩))) | (apply Run.opN rfl; (· (simp -implicitDefEqProofs; done))) | (refine Run.condT ?_ ?_; (· (simp -implicitDefEqProofs; done))) | (refine Run.condF ?_ ?_; (· (simp -implicitDefEqProofs; done))) | refine Run.exit rfl ?_))
    refine Run.freeze 0 (es := [y, x].map encL) (sz := 1) (by simp [encL]) ?_
    refine Run.mv [] [(5, .vs (x.map encE) 4), (6, .vs (y.map encE) 4), (11, .vs (l.map encE) 4), (12, .int .i64 0), (90, .vs ([y, x].map encL) 1)] [] (by rfl) (by decide) (by simp -implicitDefEqProofs [encL]) (by simp -implicitDefEqProofs [encL]) ?_
    refine Run.opC rfl rfl rfl (mrgM_at [y, x] (by simp) _) ?_
    rintro v h' ⟨rfl, rfl⟩
    rw [p2]
    (repeat (first | refine Run.seq ?_ | refine Run.reg ?_ | refine Run.skip ?_ | refine Run.block ?_ | refine Run.endB ?_ | refine Run.opE rfl ?_ | (apply Run.op0 rfl; (· (simp -implicitDefEqProofs; exact ⟨rfl, rfl⟩))) | (apply Run.opA rfl; (· (simp -implicitDefEqProofs; done)); (· (simp -implicitDefEqProofs; exact ⟨rfl, rfl⟩))) | (apply Run.opN rfl; (· (simp -implicitDefEqProofs; done))) | (refine Run.condT ?_ ?_; (· (simp -implicitDefEqProofs; done))) | (refine Run.condF ?_ ?_; (· (simp -implicitDefEqProofs; done))) | refine Run.exit rfl ?_))
    refine Run.freeze 0 (es := [l, x, y].map encL) (sz := 1) (by simp [encL]) ?_
    refine Run.mv [] [(5, .vs (x.map encE) 4), (6, .vs (y.map encE) 4), (11, .vs (l.map encE) 4), (12, .int .i64 0), (13, .vs (l.map encE) 4), (14, .int .i64 0), (98, .vs ([l, x, y].map encL) 1)] [] (by rfl) (by decide) (by simp -implicitDefEqProofs [encL]) (by simp -implicitDefEqProofs [encL]) ?_
    refine Run.opC rfl rfl rfl (mrgM_at [l, x, y] (by simp) _) ?_
    rintro v h' ⟨rfl, rfl⟩
    rw [p3]
    (repeat (first | refine Run.seq ?_ | refine Run.reg ?_ | refine Run.skip ?_ | refine Run.block ?_ | refine Run.endB ?_ | refine Run.opE rfl ?_ | (apply Run.op0 rfl; (· (simp -implicitDefEqProofs; exact ⟨rfl, rfl⟩))) | (apply Run.opA rfl; (· (simp -implicitDefEqProofs; done)); (· (simp -implicitDefEqProofs; exact ⟨rfl, rfl⟩))) | (apply Run.opN rfl; (· (simp -implicitDefEqProofs; done))) | (refine Run.condT ?_ ?_; (· (simp -implicitDefEqProofs; done))) | (refine Run.condF ?_ ?_; (· (simp -implicitDefEqProofs; done))) | refine Run.exit rfl ?_))
    refine Run.freeze 0 (es := [x, x].map encL) (sz := 1) (by simp [encL]) ?_
    refine Run.mv [] [(5, .vs (x.map encE) 4), (6, .vs (y.map encE) 4), (11, .vs (l.map encE) 4), (12, .int .i64 0), (13, .vs (l.map encE) 4), (14, .int .i64 0), (15, .vs (l.map encE) 4), (16, .int .i64 0), (105, .vs ([x, x].map encL) 1)] [] (by rfl) (by decide) (by simp -implicitDefEqProofs [encL]) (by simp -implicitDefEqProofs [encL]) ?_
    refine Run.opC rfl rfl rfl (mrgM_at [x, x] (by simp) _) ?_
    rintro v h' ⟨rfl, rfl⟩
    rw [p4]
    (repeat (first | refine Run.seq ?_ | refine Run.reg ?_ | refine Run.skip ?_ | refine Run.block ?_ | refine Run.endB ?_ | refine Run.opE rfl ?_ | (apply Run.op0 rfl; (· (simp -implicitDefEqProofs; exact ⟨rfl, rfl⟩))) | (apply Run.opA rfl; (· (simp -implicitDefEqProofs; done)); (· (simp -implicitDefEqProofs; exact ⟨rfl, rfl⟩))) | (apply Run.opN rfl; (· (simp -implicitDefEqProofs; done))) | (refine Run.condT ?_ ?_; (· (simp -implicitDefEqProofs; done))) | (refine Run.condF ?_ ?_; (· (simp -implicitDefEqProofs; done))) | refine Run.exit rfl ?_))
    refine Run.opC rfl (by simp) rfl (sameE_at l l hll _) ?_
    rintro v h' ⟨rfl, rfl⟩
    (repeat (first | refine Run.seq ?_ | refine Run.reg ?_ | refine Run.skip ?_ | refine Run.block ?_ | refine Run.endB ?_ | refine Run.opE rfl ?_ | (apply Run.op0 rfl; (· (simp -implicitDefEqProofs; exact ⟨rfl, rfl⟩))) | (apply Run.opA rfl; (· (simp -implicitDefEqProofs; done)); (· (simp -implicitDefEqProofs; exact ⟨rfl, rfl⟩))) | (apply Run.opN rfl; (· (simp -implicitDefEqProofs; done))) | (refine Run.condT ?_ ?_; (· (simp -implicitDefEqProofs; done))) | (refine Run.condF ?_ ?_; (· (simp -implicitDefEqProofs; done))) | refine Run.exit rfl ?_))
    refine Run.opC rfl (by simp) rfl (sameE_at l l hll _) ?_
    rintro v h' ⟨rfl, rfl⟩
    (repeat (first | refine Run.seq ?_ | refine Run.reg ?_ | refine Run.skip ?_ | refine Run.block ?_ | refine Run.endB ?_ | refine Run.opE rfl ?_ | (apply Run.op0 rfl; (· (simp -implicitDefEqProofs; exact ⟨rfl, rfl⟩))) | (apply Run.opA rfl; (· (simp -implicitDefEqProofs; done)); (· (simp -implicitDefEqProofs; exact ⟨rfl, rfl⟩))) | (apply Run.opN rfl; (· (simp -implicitDefEqProofs; done))) | (refine Run.condT ?_ ?_; (· (simp -implicitDefEqProofs; done))) | (refine Run.condF ?_ ?_; (· (simp -implicitDefEqProofs; done))) | refine Run.exit rfl ?_))
    refine Run.opC rfl (by simp) rfl (sameE_at x x (by omega) _) ?_
    rintro v h' ⟨rfl, rfl⟩
    (repeat (first | refine Run.seq ?_ | refine Run.reg ?_ | refine Run.skip ?_ | refine Run.block ?_ | refine Run.endB ?_ | refine Run.opE rfl ?_ | (apply Run.op0 rfl; (· (simp -implicitDefEqProofs [hwl]; exact ⟨rfl, rfl⟩))) | (apply Run.opA rfl; (· (simp -implicitDefEqProofs [hwl]; done)); (· (simp -implicitDefEqProofs [hwl]; exact ⟨rfl, rfl⟩))) | (apply Run.opN rfl; (· (simp -implicitDefEqProofs [hwl]; done))) | (refine Run.condT ?_ ?_; (· (simp -implicitDefEqProofs [hwl]; done))) | (refine Run.condF ?_ ?_; (· (simp -implicitDefEqProofs [hwl]; done))) | refine Run.exit rfl ?_))
    refine Run.opC rfl (by simp) rfl (awake_at _) ?_
    rintro v h' ⟨rfl, rfl⟩
    (repeat (first | refine Run.seq ?_ | refine Run.reg ?_ | refine Run.skip ?_ | refine Run.block ?_ | refine Run.endB ?_ | refine Run.opE rfl ?_ | (apply Run.op0 rfl; (· (simp -implicitDefEqProofs; exact ⟨rfl, rfl⟩))) | (apply Run.opA rfl; (· (simp -implicitDefEqProofs; done)); (· (simp -implicitDefEqProofs; exact ⟨rfl, rfl⟩))) | (apply Run.opN rfl; (· (simp -implicitDefEqProofs; done))) | (refine Run.condT ?_ ?_; (· (simp -implicitDefEqProofs; done))) | (refine Run.condF ?_ ?_; (· (simp -implicitDefEqProofs; done))) | refine Run.exit rfl ?_))
    exact hend trivial (by simp)

end Go.Proofs.Ytphpkigfmmanhaa
