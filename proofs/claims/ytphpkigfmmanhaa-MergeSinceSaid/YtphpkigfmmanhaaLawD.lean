/-
  Layer 11, part LawD: the law MergeGoes.
-/
import Derived.Test.YtphpkigfmmanhaaLawC
namespace Go.Proofs.Ytphpkigfmmanhaa
open Sx Go
set_option maxRecDepth 100000
set_option linter.unusedSimpArgs false
set_option linter.unusedVariables false
set_option linter.unnecessarySimpa false
attribute [local simp] guardB isCall opStep Opd.ev put readAt aBin aUn args0 V.celled V.ones V.one V.cells putAt bounds bound1 elemsOf srcOf appendV fillAt fillEl V.pures V.pure unwind evs ARes.ev mkRes V.ren V.renL O.ren eqCells eq1 aEq aMM hasTy hasTyN okTy mmGo Known HLe OLe VsLe.refl VLe.refl Stay VsLe V.frz V.frzL O.frz fr clearV rn KnownR Objs OLeO ObjsE nm back setAll ren_ite take_map_len List.take_of_length_le
attribute [local simp ↓] upd_app tl_cons tl_nil
attribute [local simp] encE_ren encE_ones encE_len encE_take
attribute [local simp ↓] tailO_ren tail_skip
attribute [local simp] cellV_ren

theorem put1_spec {o : List En} (ho : RiseE o) (x : En) : RiseE (put1 o x) ∧ ∀ y ∈ put1 o x, y ∈ o ∨ (y = x ∧ mayE x = true) := by
  unfold put1
  split
  · rename_i hm
    obtain ⟨h1, h2⟩ := tw_rise ho x
    have hrest : ∀ y ∈ (match o.dropWhile (lessE · x) with | [] => [] | y :: r => if lessE x y = true then y :: r else r), lessE x y = true ∧ y ∈ o := by
      have hsub : ∀ y ∈ o.dropWhile (lessE · x), y ∈ o := fun y hy => (List.dropWhile_suffix _).subset hy
      have hr : RiseE (o.dropWhile (lessE · x)) := ho.sublist (List.dropWhile_sublist _)
      cases hd : o.dropWhile (lessE · x) with
      | nil => intro y hy; simp at hy
      | cons z r =>
        rw [hd] at h2 hsub hr
        obtain ⟨h3, _⟩ := List.pairwise_cons.1 hr
        simp only []
        split
        · rename_i hz
          intro y hy
          rcases List.mem_cons.1 hy with rfl | hy'
          · exact ⟨hz, hsub _ (by simp)⟩
          · exact ⟨lessE_trans hz (h3 y hy'), hsub y hy⟩
        · rename_i hz
          intro y hy
          have hxz : sameK x z = true := by
            rcases lessE_total x z with h | h | h
            · exact h
            · exact absurd h hz
            · rw [h2 z (by simp)] at h; cases h
          exact ⟨lessE_same_l (h3 y hy) (by rw [sameK_symm]; exact hxz), hsub y (by simp [hy])⟩
    have hrr : RiseE (match o.dropWhile (lessE · x) with | [] => [] | y :: r => if lessE x y = true then y :: r else r) := by
      have hr : RiseE (o.dropWhile (lessE · x)) := ho.sublist (List.dropWhile_sublist _)
      cases hd : o.dropWhile (lessE · x) with
      | nil => exact List.Pairwise.nil
      | cons z r =>
        rw [hd] at hr
        simp only []
        split
        · exact hr
        · exact (List.pairwise_cons.1 hr).2
    refine ⟨List.pairwise_append.2 ⟨ho.sublist (List.takeWhile_sublist _), List.pairwise_cons.2 ⟨fun y hy => (hrest y hy).1, hrr⟩, fun a ha b hb => ?_⟩, fun y hy => ?_⟩
    · rcases List.mem_cons.1 hb with rfl | hb
      · exact h1 a ha
      · exact lessE_trans (h1 a ha) (hrest b hb).1
    · rcases List.mem_append.1 hy with hy | hy
      · exact .inl ((List.takeWhile_prefix _).subset hy)
      · rcases List.mem_cons.1 hy with rfl | hy
        · exact .inr ⟨rfl, hm⟩
        · exact .inl (hrest y hy).2
  · exact ⟨ho, fun y hy => .inl hy⟩
theorem made_spec : ∀ (l o : List En), RiseE o → (∀ y ∈ o, mayE y = true) → RiseE (l.foldl put1 o) ∧ ∀ y ∈ l.foldl put1 o, mayE y = true
  | [], o, h1, h2 => ⟨h1, h2⟩
  | x :: l, o, h1, h2 => by
    obtain ⟨h3, h4⟩ := put1_spec h1 x
    refine made_spec l _ h3 fun y hy => ?_
    rcases h4 y hy with h | ⟨rfl, h⟩
    · exact h2 y h
    · exact h
theorem made_check {l : List En} (h : l.length ≤ 4096) : checkE (madeM l) = true := by
  obtain ⟨h1, h2⟩ := made_spec l [] List.Pairwise.nil (by simp)
  exact checkE_iff.2 ⟨by have := madeM_len l; omega, h1, h2⟩

theorem and255 (n : Int) : ∃ k : Nat, iAnd .i64 n 255 = (k : Int) ∧ k < 256 := by
  rw [iAnd64, BitVec.toNat_and, show (BitVec.ofInt 64 255).toNat = 2 ^ 8 - 1 from rfl, Nat.and_two_pow_sub_one_eq_mod]
  exact ⟨(BitVec.ofInt 64 n).toNat % 2 ^ 8, wrap_small (by omega) (by omega), by omega⟩

theorem fold_len : ∀ (L o : List En), (L.foldl stepO o).length ≤ o.length + L.length
  | [], o => by simp
  | e :: L, o => by have := fold_len L (stepO o e); have := stepO_len o e; simp only [List.foldl_cons, List.length_cons]; omega
theorem allM_len (ls : List (List En)) : (allM ls).length ≤ ls.flatten.length := by
  rw [allM, allM_flat]; simpa using fold_len ls.flatten []

theorem goes_law (a b : List En) (leave : Int) : Tri Try.prog 4 [.vs (a.map encE) 4, .vs (b.map encE) 4, .int .i64 leave] [] (fun v H => v = .bool true ∧ H = []) := by
  refine Tri.of_run' Try.func4 rfl c4_ok (by simp [Try.ntmps4]) ?_
  have hend : ∀ {k t h}, AtEnd k → t 6 = .bool true → Run ⟨Try.prog, 4, Try.f4.ntmps, [], fun v H => v = .bool true ∧ H = []⟩ ⟨k, t, h⟩ := by
    intro k t h hk h6
    refine Run.mv [] [(6, .bool true)] [] (by rfl) (by decide) (by simp [h6]) (by simp) ?_
    refine Run.ret0 rfl Try.func4 r4_ok hk (by simp [r4]; rfl) ?_ (by simp)
    simp
  have hdull : ∀ {k}, Run ⟨Try.prog, 4, Try.f4.ntmps, [], fun v H => v = .bool true ∧ H = []⟩ ⟨.ops c4r4 :: .code .ret :: k, tl [], []⟩ := by
    intro k
    (repeat (first | refine Run.seq ?_ | refine Run.reg ?_ | refine Run.skip ?_ | refine Run.block ?_ | refine Run.endB ?_ | refine Run.opE rfl ?_ | (apply Run.op0 rfl; (· (simp -implicitDefEqProofs; exact ⟨rfl, rfl⟩))) | (apply Run.opA rfl; (· (simp -implicitDefEqProofs; done)); (· (simp -implicitDefEqProofs; exact ⟨rfl, rfl⟩))) | (apply Run.opN rfl; (· (simp -implicitDefEqProofs; done))) | (refine Run.condT ?_ ?_; (· (simp -implicitDefEqProofs; done))) | (refine Run.condF ?_ ?_; (· (simp -implicitDefEqProofs; done))) | refine Run.exit rfl ?_))
    refine Run.opC rfl rfl rfl (awake_at _) ?_
    rintro v h' ⟨rfl, rfl⟩
    (repeat (first | refine Run.seq ?_ | refine Run.reg ?_ | refine Run.skip ?_ | refine Run.block ?_ | refine Run.endB ?_ | refine Run.opE rfl ?_ | (apply Run.op0 rfl; (· (simp -implicitDefEqProofs; exact ⟨rfl, rfl⟩))) | (apply Run.opA rfl; (· (simp -implicitDefEqProofs; done)); (· (simp -implicitDefEqProofs; exact ⟨rfl, rfl⟩))) | (apply Run.opN rfl; (· (simp -implicitDefEqProofs; done))) | (refine Run.condT ?_ ?_; (· (simp -implicitDefEqProofs; done))) | (refine Run.condF ?_ ?_; (· (simp -implicitDefEqProofs; done))) | refine Run.exit rfl ?_))
    exact hend trivial (by simp)
  (repeat (first | refine Run.seq ?_ | refine Run.reg ?_ | refine Run.skip ?_ | refine Run.block ?_ | refine Run.endB ?_ | refine Run.opE rfl ?_ | (apply Run.op0 rfl; (· (simp -implicitDefEqProofs; exact ⟨rfl, rfl⟩))) | (apply Run.opA rfl; (· (simp -implicitDefEqProofs; done)); (· (simp -implicitDefEqProofs; exact ⟨rfl, rfl⟩))) | (apply Run.opN rfl; (· (simp -implicitDefEqProofs; done))) | (refine Run.condT ?_ ?_; (· (simp -implicitDefEqProofs; done))) | (refine Run.condF ?_ ?_; (· (simp -implicitDefEqProofs; done))) | refine Run.exit rfl ?_))
  refine Run.opC rfl rfl rfl (awake_at _) ?_
  rintro v h' ⟨rfl, rfl⟩
  (repeat (first | refine Run.seq ?_ | refine Run.reg ?_ | refine Run.skip ?_ | refine Run.block ?_ | refine Run.endB ?_ | refine Run.opE rfl ?_ | (apply Run.op0 rfl; (· (simp -implicitDefEqProofs; exact ⟨rfl, rfl⟩))) | (apply Run.opA rfl; (· (simp -implicitDefEqProofs; done)); (· (simp -implicitDefEqProofs; exact ⟨rfl, rfl⟩))) | (apply Run.opN rfl; (· (simp -implicitDefEqProofs; done))) | (refine Run.condT ?_ ?_; (· (simp -implicitDefEqProofs; done))) | (refine Run.condF ?_ ?_; (· (simp -implicitDefEqProofs; done))) | refine Run.exit rfl ?_))
  refine Run.opC rfl rfl rfl (light_at a _) ?_
  rintro v h' ⟨rfl, rfl⟩
  cases la : lightM a with
  | false =>
    (repeat (first | refine Run.seq ?_ | refine Run.reg ?_ | refine Run.skip ?_ | refine Run.block ?_ | refine Run.endB ?_ | refine Run.opE rfl ?_ | (apply Run.op0 rfl; (· (simp -implicitDefEqProofs; exact ⟨rfl, rfl⟩))) | (apply Run.opA rfl; (· (simp -implicitDefEqProofs; done)); (· (simp -implicitDefEqProofs; exact ⟨rfl, rfl⟩))) | (apply Run.opN rfl; (· (simp -implicitDefEqProofs; done))) | (refine Run.condT ?_ ?_; (· (simp -implicitDefEqProofs; done))) | (refine Run.condF ?_ ?_; (· (simp -implicitDefEqProofs; done))) | refine Run.exit rfl ?_))
    refine Run.mv [] [] [] (by rfl) (by decide) (by simp -implicitDefEqProofs) (by simp -implicitDefEqProofs) ?_
    exact hdull
  | true =>
  (repeat (first | refine Run.seq ?_ | refine Run.reg ?_ | refine Run.skip ?_ | refine Run.block ?_ | refine Run.endB ?_ | refine Run.opE rfl ?_ | (apply Run.op0 rfl; (· (simp -implicitDefEqProofs; exact ⟨rfl, rfl⟩))) | (apply Run.opA rfl; (· (simp -implicitDefEqProofs; done)); (· (simp -implicitDefEqProofs; exact ⟨rfl, rfl⟩))) | (apply Run.opN rfl; (· (simp -implicitDefEqProofs; done))) | (refine Run.condT ?_ ?_; (· (simp -implicitDefEqProofs; done))) | (refine Run.condF ?_ ?_; (· (simp -implicitDefEqProofs; done))) | refine Run.exit rfl ?_))
  refine Run.opC rfl (by simp) rfl (light_at b _) ?_
  rintro v h' ⟨rfl, rfl⟩
  cases lb : lightM b with
  | false =>
    (repeat (first | refine Run.seq ?_ | refine Run.reg ?_ | refine Run.skip ?_ | refine Run.block ?_ | refine Run.endB ?_ | refine Run.opE rfl ?_ | (apply Run.op0 rfl; (· (simp -implicitDefEqProofs; exact ⟨rfl, rfl⟩))) | (apply Run.opA rfl; (· (simp -implicitDefEqProofs; done)); (· (simp -implicitDefEqProofs; exact ⟨rfl, rfl⟩))) | (apply Run.opN rfl; (· (simp -implicitDefEqProofs; done))) | (refine Run.condT ?_ ?_; (· (simp -implicitDefEqProofs; done))) | (refine Run.condF ?_ ?_; (· (simp -implicitDefEqProofs; done))) | refine Run.exit rfl ?_))
    refine Run.mv [] [] [] (by rfl) (by decide) (by simp -implicitDefEqProofs) (by simp -implicitDefEqProofs) ?_
    exact hdull
  | true =>
  have ha := lightM_len la
  have hb := lightM_len lb
  have ha2 := madeM_len a
  have hb2 := madeM_len b
  obtain ⟨ls, hls⟩ : ∃ ls, ls = [madeM a, madeM b] := ⟨_, rfl⟩
  have hlen : ls.length ≤ 100 := by rw [hls]; simp
  have hm : mayL ls = true := by rw [hls]; simp [mayL, made_check (l := a) (by omega), made_check (l := b) (by omega)]
  have hlw : (allM ls).length ≤ 1000 := by
    have := allM_len ls
    rw [hls] at this ⊢
    simp only [List.flatten_cons, List.flatten_nil, List.append_nil, List.length_append] at this
    omega
  obtain ⟨kk, hk, hk256⟩ := and255 leave
  obtain ⟨N, hN⟩ : ∃ N, N = kk + 1 := ⟨_, rfl⟩
  have hwN : IntKind.i64.wrap (1 + (kk : Int)) = (N : Int) := by rw [wrap_small (by omega) (by omega)]; omega
  (repeat (first | refine Run.seq ?_ | refine Run.reg ?_ | refine Run.skip ?_ | refine Run.block ?_ | refine Run.endB ?_ | refine Run.opE rfl ?_ | (apply Run.op0 rfl; (· (simp -implicitDefEqProofs; exact ⟨rfl, rfl⟩))) | (apply Run.opA rfl; (· (simp -implicitDefEqProofs; done)); (· (simp -implicitDefEqProofs; exact ⟨rfl, rfl⟩))) | (apply Run.opN rfl; (· (simp -implicitDefEqProofs; done))) | (refine Run.condT ?_ ?_; (· (simp -implicitDefEqProofs; done))) | (refine Run.condF ?_ ?_; (· (simp -implicitDefEqProofs; done))) | refine Run.exit rfl ?_))
  refine Run.opC rfl rfl rfl (made_at a (by omega) _) ?_
  rintro v h' ⟨rfl, rfl⟩
  (repeat (first | refine Run.seq ?_ | refine Run.reg ?_ | refine Run.skip ?_ | refine Run.block ?_ | refine Run.endB ?_ | refine Run.opE rfl ?_ | (apply Run.op0 rfl; (· (simp -implicitDefEqProofs; exact ⟨rfl, rfl⟩))) | (apply Run.opA rfl; (· (simp -implicitDefEqProofs; done)); (· (simp -implicitDefEqProofs; exact ⟨rfl, rfl⟩))) | (apply Run.opN rfl; (· (simp -implicitDefEqProofs; done))) | (refine Run.condT ?_ ?_; (· (simp -implicitDefEqProofs; done))) | (refine Run.condF ?_ ?_; (· (simp -implicitDefEqProofs; done))) | refine Run.exit rfl ?_))
  refine Run.opC rfl rfl rfl (made_at b (by omega) _) ?_
  rintro v h' ⟨rfl, rfl⟩
  (repeat (first | refine Run.seq ?_ | refine Run.reg ?_ | refine Run.skip ?_ | refine Run.block ?_ | refine Run.endB ?_ | refine Run.opE rfl ?_ | (apply Run.op0 rfl; (· (simp -implicitDefEqProofs; exact ⟨rfl, rfl⟩))) | (apply Run.opA rfl; (· (simp -implicitDefEqProofs; done)); (· (simp -implicitDefEqProofs; exact ⟨rfl, rfl⟩))) | (apply Run.opN rfl; (· (simp -implicitDefEqProofs; done))) | (refine Run.condT ?_ ?_; (· (simp -implicitDefEqProofs; done))) | (refine Run.condF ?_ ?_; (· (simp -implicitDefEqProofs; done))) | refine Run.exit rfl ?_))
  refine Run.freeze 0 (es := ls.map encL) (sz := 1) (by simp [encL, hls]) ?_
  refine Run.mv [] [(2, .int .i64 leave), (7, .vs (ls.map encL) 1), (28, .vs (ls.map encL) 1)] [] (by rfl) (by decide) (by simp -implicitDefEqProofs [encL, hls]) (by simp -implicitDefEqProofs [encL, hls]) ?_
  refine Run.opC rfl rfl rfl (all_at ls hlen (mayL_len hm) _) ?_
  rintro v h' ⟨rfl, rfl⟩
  (repeat (first | refine Run.seq ?_ | refine Run.reg ?_ | refine Run.skip ?_ | refine Run.block ?_ | refine Run.endB ?_ | refine Run.opE rfl ?_ | (apply Run.op0 rfl; (· (simp -implicitDefEqProofs [hk, hwN]; exact ⟨rfl, rfl⟩))) | (apply Run.opA rfl; (· (simp -implicitDefEqProofs [hk, hwN]; done)); (· (simp -implicitDefEqProofs [hk, hwN]; exact ⟨rfl, rfl⟩))) | (apply Run.opN rfl; (· (simp -implicitDefEqProofs [hk, hwN]; done))) | (refine Run.condT ?_ ?_; (· (simp -implicitDefEqProofs [hk, hwN]; done))) | (refine Run.condF ?_ ?_; (· (simp -implicitDefEqProofs [hk, hwN]; done))) | refine Run.exit rfl ?_))
  refine Run.opF [] (each_tri ls) rfl (by simp -implicitDefEqProofs) rfl (by simp -implicitDefEqProofs) (by decide) (by rfl) (by simp -implicitDefEqProofs) ?_
  rintro v0 Hs' ⟨rfl, rfl⟩
  (repeat (first | refine Run.seq ?_ | refine Run.reg ?_ | refine Run.skip ?_ | refine Run.block ?_ | refine Run.endB ?_ | refine Run.opE rfl ?_ | (apply Run.op0 rfl; (· (simp -implicitDefEqProofs; exact ⟨rfl, rfl⟩))) | (apply Run.opA rfl; (· (simp -implicitDefEqProofs; done)); (· (simp -implicitDefEqProofs; exact ⟨rfl, rfl⟩))) | (apply Run.opN rfl; (· (simp -implicitDefEqProofs; done))) | (refine Run.condT ?_ ?_; (· (simp -implicitDefEqProofs; done))) | (refine Run.condF ?_ ?_; (· (simp -implicitDefEqProofs; done))) | refine Run.exit rfl ?_))
  refine goneA ?_
  refine Run.mv [0, 3, 1, 2] [(8, .vs ((allM ls).map encE) 4), (9, .ptr 0 0), (10, .ptr 2 0), (34, .fn 30 [.ptr 3 0])] [.row [.int .i64 N], .gone, .row [.nils], .row [.vs (ls.map encL) 1]] (by rfl) (by decide) (by simp -implicitDefEqProofs) (by simp -implicitDefEqProofs) ?_
  refine Run.rangeF [(9, .ptr 0 0), (10, .ptr 2 0)] rfl (f := 30) (caps := [.ptr 3 0]) (by simp) (by simp) ?_
  intro L hL
  refine ⟨_, each1_tri (.row [.int .i64 N]) .gone (fun _ => rfl) (fun _ => rfl) L [(9, .ptr 0 0), (10, .ptr 2 0)] (fun ρ h0 h1 h2 => by simp [V.ren, h0, h1, h2]) ls hlen hm (fun o => o.length < N) (fun o _ => decide (o.length + 1 = N))
    (fun o e H => ∃ ps : List Nat, H = [.row [.int .i64 N], .gone, .row [.sl 8 0 (o.length + 1) 4 none], .row [.vs (ls.map encL) 1], .loop L [(9, .ptr 0 0), (10, .ptr 2 0)] (.done (.exit 0)), .gone, .arr (ps.map encN) 1, .row (encE e), .arr ((o ++ [e]).map encE) 4]) (fun o e H hH => ?_) (by simp; omega) (fun o e ps hI => ?_), ?_⟩
  · obtain ⟨ps, rfl⟩ := hH
    exact ⟨by simp, by simp [encE]⟩
  · simp only [eachH, List.cons_append, List.nil_append]
    refine TriY.of_run hL rfl rfl ?_
    have hbb : (o.length + 1) * 48 ≤ 70368744177664 := by omega
    by_cases hst : o.length + 1 = N
    · have hst' : (o.length : Int) + 1 = N := by omega
      rcases cell_cases o with ⟨rfl, hcv, hto⟩ | ⟨hcv, hto⟩
      · rw [hcv, hto]
        obtain rfl : N = 1 := by simpa using hst.symm
        (repeat (first | refine Run.seq ?_ | refine Run.reg ?_ | refine Run.skip ?_ | refine Run.block ?_ | refine Run.endB ?_ | refine Run.opE rfl ?_ | (apply Run.op0 rfl; (· (simp -implicitDefEqProofs [setPs, encE]; exact ⟨rfl, rfl⟩))) | (apply Run.opA rfl; (· (simp -implicitDefEqProofs [setPs, encE]; done)); (· (simp -implicitDefEqProofs [setPs, encE]; exact ⟨rfl, rfl⟩))) | (apply Run.opN rfl; (· (simp -implicitDefEqProofs [setPs, encE]; done))) | (refine Run.condT ?_ ?_; (· (simp -implicitDefEqProofs [setPs, encE]; done))) | (refine Run.condF ?_ ?_; (· (simp -implicitDefEqProofs [setPs, encE]; done))) | refine Run.exit rfl ?_))
        refine Run.beginR (f := 4) (id := 4) (by rfl) (by rfl) ?_
        (repeat (first | refine Run.seq ?_ | refine Run.reg ?_ | refine Run.skip ?_ | refine Run.block ?_ | refine Run.endB ?_ | refine Run.opE rfl ?_ | (apply Run.op0 rfl; (· (simp -implicitDefEqProofs [setPs, encE]; exact ⟨rfl, rfl⟩))) | (apply Run.opA rfl; (· (simp -implicitDefEqProofs [setPs, encE]; done)); (· (simp -implicitDefEqProofs [setPs, encE]; exact ⟨rfl, rfl⟩))) | (apply Run.opN rfl; (· (simp -implicitDefEqProofs [setPs, encE]; done))) | (refine Run.condT ?_ ?_; (· (simp -implicitDefEqProofs [setPs, encE]; done))) | (refine Run.condF ?_ ?_; (· (simp -implicitDefEqProofs [setPs, encE]; done))) | refine Run.exit rfl ?_))
        refine Run.mv [0, 1, 2, 3, 4, 5, 6, 7, 10] [] [.row [.int .i64 ((1 : Nat) : Int)], .gone, .row [.sl 8 0 (([] : List En).length + 1) 4 none], .row [.vs (ls.map encL) 1], .loop L [(9, .ptr 0 0), (10, .ptr 2 0)] .busy, .gone, .arr (ps.map encN) 1, .row (encE e), .arr ((([] : List En) ++ [e]).map encE) 4] (by rfl) (by decide) (by simp -implicitDefEqProofs [encE]) (by simp -implicitDefEqProofs [encE]) ?_
        refine Run.roundEnd (f := 4) (id := 4) (j := some (.exit 0)) rfl rfl rfl (fr 9) (h' := [.row [.int .i64 ((1 : Nat) : Int)], .gone, .row [.sl 8 0 (([] : List En).length + 1) 4 none], .row [.vs (ls.map encL) 1], .loop L [(9, .ptr 0 0), (10, .ptr 2 0)] (.done (.exit 0)), .gone, .arr (ps.map encN) 1, .row (encE e), .arr ((([] : List En) ++ [e]).map encE) 4]) (names_id (n := 8) (h := [.row [.int .i64 ((1 : Nat) : Int)], .gone, .row [.sl 8 0 (([] : List En).length + 1) 4 none], .row [.vs (ls.map encL) 1], .loop L [(9, .ptr 0 0), (10, .ptr 2 0)] (.done (.exit 0)), .gone, .arr (ps.map encN) 1, .row (encE e), .arr ((([] : List En) ++ [e]).map encE) 4]) (by simp) (by simp [encE])) ?_
        exact .inr ⟨by simpa using hst, rfl, _, rfl⟩
      · rw [hcv, hto]
        (repeat (first | refine Run.seq ?_ | refine Run.reg ?_ | refine Run.skip ?_ | refine Run.block ?_ | refine Run.endB ?_ | refine Run.opE rfl ?_ | (apply Run.op0 rfl; (· (simp -implicitDefEqProofs [setPs, encE]; exact ⟨rfl, rfl⟩))) | (apply Run.opA rfl; (· (simp -implicitDefEqProofs [setPs, encE]; done)); (· (simp -implicitDefEqProofs [setPs, encE]; exact ⟨rfl, rfl⟩))) | (apply Run.opN rfl; (· (simp -implicitDefEqProofs [setPs, encE]; done))) | (refine Run.condT ?_ ?_; (· (simp -implicitDefEqProofs [setPs, encE]; done))) | (refine Run.condF ?_ ?_; (· (simp -implicitDefEqProofs [setPs, encE]; done))) | refine Run.exit rfl ?_))
        refine Run.beginR (f := 4) (id := 4) (by rfl) (by rfl) ?_
        (repeat (first | refine Run.seq ?_ | refine Run.reg ?_ | refine Run.skip ?_ | refine Run.block ?_ | refine Run.endB ?_ | refine Run.opE rfl ?_ | (apply Run.op0 rfl; (· (simp -implicitDefEqProofs [setPs, encE, hbb, hst']; exact ⟨rfl, rfl⟩))) | (apply Run.opA rfl; (· (simp -implicitDefEqProofs [setPs, encE, hbb, hst']; done)); (· (simp -implicitDefEqProofs [setPs, encE, hbb, hst']; exact ⟨rfl, rfl⟩))) | (apply Run.opN rfl; (· (simp -implicitDefEqProofs [setPs, encE, hbb, hst']; done))) | (refine Run.condT ?_ ?_; (· (simp -implicitDefEqProofs [setPs, encE, hbb, hst']; done))) | (refine Run.condF ?_ ?_; (· (simp -implicitDefEqProofs [setPs, encE, hbb, hst']; done))) | refine Run.exit rfl ?_))
        refine Run.mv [0, 1, 2, 3, 4, 5, 6, 7, 10] [] [.row [.int .i64 N], .gone, .row [.sl 8 0 (o.length + 1) 4 none], .row [.vs (ls.map encL) 1], .loop L [(9, .ptr 0 0), (10, .ptr 2 0)] .busy, .gone, .arr (ps.map encN) 1, .row (encE e), .arr ((o ++ [e]).map encE) 4] (by rfl) (by decide) (by simp -implicitDefEqProofs [encE]) (by simp -implicitDefEqProofs [encE]) ?_
        refine Run.roundEnd (f := 4) (id := 4) (j := some (.exit 0)) rfl rfl rfl (fr 9) (h' := [.row [.int .i64 N], .gone, .row [.sl 8 0 (o.length + 1) 4 none], .row [.vs (ls.map encL) 1], .loop L [(9, .ptr 0 0), (10, .ptr 2 0)] (.done (.exit 0)), .gone, .arr (ps.map encN) 1, .row (encE e), .arr ((o ++ [e]).map encE) 4]) (names_id (n := 8) (h := [.row [.int .i64 N], .gone, .row [.sl 8 0 (o.length + 1) 4 none], .row [.vs (ls.map encL) 1], .loop L [(9, .ptr 0 0), (10, .ptr 2 0)] (.done (.exit 0)), .gone, .arr (ps.map encN) 1, .row (encE e), .arr ((o ++ [e]).map encE) 4]) (by simp) (by simp [encE])) ?_
        exact .inr ⟨by simpa using hst, rfl, _, rfl⟩
    · have hst' : ¬ (o.length : Int) + 1 = N := by omega
      rcases cell_cases o with ⟨rfl, hcv, hto⟩ | ⟨hcv, hto⟩
      · rw [hcv, hto]
        have hst2 : ¬ (1 : Int) = N := by simpa using hst'
        have hst3 : ¬ 1 = N := by simpa using hst
        (repeat (first | refine Run.seq ?_ | refine Run.reg ?_ | refine Run.skip ?_ | refine Run.block ?_ | refine Run.endB ?_ | refine Run.opE rfl ?_ | (apply Run.op0 rfl; (· (simp -implicitDefEqProofs [setPs, encE]; exact ⟨rfl, rfl⟩))) | (apply Run.opA rfl; (· (simp -implicitDefEqProofs [setPs, encE]; done)); (· (simp -implicitDefEqProofs [setPs, encE]; exact ⟨rfl, rfl⟩))) | (apply Run.opN rfl; (· (simp -implicitDefEqProofs [setPs, encE]; done))) | (refine Run.condT ?_ ?_; (· (simp -implicitDefEqProofs [setPs, encE]; done))) | (refine Run.condF ?_ ?_; (· (simp -implicitDefEqProofs [setPs, encE]; done))) | refine Run.exit rfl ?_))
        refine Run.beginR (f := 4) (id := 4) (by rfl) (by rfl) ?_
        (repeat (first | refine Run.seq ?_ | refine Run.reg ?_ | refine Run.skip ?_ | refine Run.block ?_ | refine Run.endB ?_ | refine Run.opE rfl ?_ | (apply Run.op0 rfl; (· (simp -implicitDefEqProofs [setPs, encE, hst2, hst3]; exact ⟨rfl, rfl⟩))) | (apply Run.opA rfl; (· (simp -implicitDefEqProofs [setPs, encE, hst2, hst3]; done)); (· (simp -implicitDefEqProofs [setPs, encE, hst2, hst3]; exact ⟨rfl, rfl⟩))) | (apply Run.opN rfl; (· (simp -implicitDefEqProofs [setPs, encE, hst2, hst3]; done))) | (refine Run.condT ?_ ?_; (· (simp -implicitDefEqProofs [setPs, encE, hst2, hst3]; done))) | (refine Run.condF ?_ ?_; (· (simp -implicitDefEqProofs [setPs, encE, hst2, hst3]; done))) | refine Run.exit rfl ?_))
        refine Run.mv [0, 1, 2, 3, 4, 5, 6, 7, 10] [] [.row [.int .i64 N], .gone, .row [.sl 8 0 (([] : List En).length + 1) 4 none], .row [.vs (ls.map encL) 1], .loop L [(9, .ptr 0 0), (10, .ptr 2 0)] .busy, .gone, .arr (ps.map encN) 1, .row (encE e), .arr ((([] : List En) ++ [e]).map encE) 4] (by rfl) (by decide) (by simp -implicitDefEqProofs [encE]) (by simp -implicitDefEqProofs [encE]) ?_
        refine Run.roundEnd (f := 4) (id := 4) (j := none) rfl rfl rfl (fr 9) (h' := [.row [.int .i64 N], .gone, .row [.sl 8 0 (([] : List En).length + 1) 4 none], .row [.vs (ls.map encL) 1], .loop L [(9, .ptr 0 0), (10, .ptr 2 0)] .ready, .gone, .arr (ps.map encN) 1, .row (encE e), .arr ((([] : List En) ++ [e]).map encE) 4]) (names_id (n := 8) (h := [.row [.int .i64 N], .gone, .row [.sl 8 0 (([] : List En).length + 1) 4 none], .row [.vs (ls.map encL) 1], .loop L [(9, .ptr 0 0), (10, .ptr 2 0)] .ready, .gone, .arr (ps.map encN) 1, .row (encE e), .arr ((([] : List En) ++ [e]).map encE) 4]) (by simp) (by simp [encE])) ?_
        exact .inl ⟨by simpa using hst, by simp only [List.length_append, List.length_cons, List.length_nil] at *; omega, rfl, rfl⟩
      · rw [hcv, hto]
        (repeat (first | refine Run.seq ?_ | refine Run.reg ?_ | refine Run.skip ?_ | refine Run.block ?_ | refine Run.endB ?_ | refine Run.opE rfl ?_ | (apply Run.op0 rfl; (· (simp -implicitDefEqProofs [setPs, encE]; exact ⟨rfl, rfl⟩))) | (apply Run.opA rfl; (· (simp -implicitDefEqProofs [setPs, encE]; done)); (· (simp -implicitDefEqProofs [setPs, encE]; exact ⟨rfl, rfl⟩))) | (apply Run.opN rfl; (· (simp -implicitDefEqProofs [setPs, encE]; done))) | (refine Run.condT ?_ ?_; (· (simp -implicitDefEqProofs [setPs, encE]; done))) | (refine Run.condF ?_ ?_; (· (simp -implicitDefEqProofs [setPs, encE]; done))) | refine Run.exit rfl ?_))
        refine Run.beginR (f := 4) (id := 4) (by rfl) (by rfl) ?_
        (repeat (first | refine Run.seq ?_ | refine Run.reg ?_ | refine Run.skip ?_ | refine Run.block ?_ | refine Run.endB ?_ | refine Run.opE rfl ?_ | (apply Run.op0 rfl; (· (simp -implicitDefEqProofs [setPs, encE, hbb, hst']; exact ⟨rfl, rfl⟩))) | (apply Run.opA rfl; (· (simp -implicitDefEqProofs [setPs, encE, hbb, hst']; done)); (· (simp -implicitDefEqProofs [setPs, encE, hbb, hst']; exact ⟨rfl, rfl⟩))) | (apply Run.opN rfl; (· (simp -implicitDefEqProofs [setPs, encE, hbb, hst']; done))) | (refine Run.condT ?_ ?_; (· (simp -implicitDefEqProofs [setPs, encE, hbb, hst']; done))) | (refine Run.condF ?_ ?_; (· (simp -implicitDefEqProofs [setPs, encE, hbb, hst']; done))) | refine Run.exit rfl ?_))
        refine Run.mv [0, 1, 2, 3, 4, 5, 6, 7, 10] [] [.row [.int .i64 N], .gone, .row [.sl 8 0 (o.length + 1) 4 none], .row [.vs (ls.map encL) 1], .loop L [(9, .ptr 0 0), (10, .ptr 2 0)] .busy, .gone, .arr (ps.map encN) 1, .row (encE e), .arr ((o ++ [e]).map encE) 4] (by rfl) (by decide) (by simp -implicitDefEqProofs [encE]) (by simp -implicitDefEqProofs [encE]) ?_
        refine Run.roundEnd (f := 4) (id := 4) (j := none) rfl rfl rfl (fr 9) (h' := [.row [.int .i64 N], .gone, .row [.sl 8 0 (o.length + 1) 4 none], .row [.vs (ls.map encL) 1], .loop L [(9, .ptr 0 0), (10, .ptr 2 0)] .ready, .gone, .arr (ps.map encN) 1, .row (encE e), .arr ((o ++ [e]).map encE) 4]) (names_id (n := 8) (h := [.row [.int .i64 N], .gone, .row [.sl 8 0 (o.length + 1) 4 none], .row [.vs (ls.map encL) 1], .loop L [(9, .ptr 0 0), (10, .ptr 2 0)] .ready, .gone, .arr (ps.map encN) 1, .row (encE e), .arr ((o ++ [e]).map encE) 4]) (by simp) (by simp [encE])) ?_
        exact .inl ⟨by simpa using hst, by simp only [List.length_append, List.length_cons, List.length_nil] at *; omega, rfl, rfl⟩
  · rintro v H' ⟨rfl, hcase⟩
    have hea := each_all hm
    rcases hcase with ⟨hI, rfl⟩ | ⟨o, e, r, hgo, hI, hst, ps, rfl⟩
    · rw [hea] at hI ⊢
      generalize allM ls = o at *
      refine ⟨_, _, _, rfl, by simp, ?_⟩
      intro ds
      have hmn : (o.length : Int) < N := by omega
      have hmn' : o.length < N := hI
      have hsame : ∀ H, Tri Try.prog 15 [.vs (o.map encE) 4, .vs (o.map encE) 4] H (fun v H' => v = .bool (decide (o = o)) ∧ H' = H) := sameE_at o o (by omega)
      rcases cell_cases o with ⟨rfl, hcv, hto⟩ | ⟨hcv, hto⟩
      · rw [hcv, hto]
        (repeat (first | refine Run.seq ?_ | refine Run.reg ?_ | refine Run.skip ?_ | refine Run.block ?_ | refine Run.endB ?_ | refine Run.opE rfl ?_ | (apply Run.op0 rfl; (· (simp -implicitDefEqProofs; exact ⟨rfl, rfl⟩))) | (apply Run.opA rfl; (· (simp -implicitDefEqProofs; done)); (· (simp -implicitDefEqProofs; exact ⟨rfl, rfl⟩))) | (apply Run.opN rfl; (· (simp -implicitDefEqProofs; done))) | (refine Run.condT ?_ ?_; (· (simp -implicitDefEqProofs; done))) | (refine Run.condF ?_ ?_; (· (simp -implicitDefEqProofs; done))) | refine Run.exit rfl ?_))
        refine Run.mv [0, 1, 2, 3, 4, 5] [(8, .vs (([] : List En).map encE) 4), (9, .ptr 0 0), (10, .ptr 2 0)] [.row [.int .i64 N], .gone, .row [.vs (([] : List En).map encE) 4], .gone, .gone, .gone] (by rfl) (by decide) (by simp -implicitDefEqProofs [VLe.nils]) (by simp -implicitDefEqProofs [VLe.nils]) ?_
        refine Run.quietM prog_mixed (by kernel_rfl) [0, 1, 2, 3, 4, 5] [(6, .bool true)] [.row [.int .i64 N], .gone, .row [.vs (([] : List En).map encE) 4], .gone, .gone, .gone] (by rfl) (by decide) ?_ ?_
        · have hmn0 : (0 : Int) < N := by omega
          have hmn0' : 0 < N := by omega
          (repeat (first | refine execQ_E rfl ?_ | (apply execQ_0 rfl; (· rfl); (· (simp -implicitDefEqProofs [hmn, hmn', hmn0, hmn0']; exact ⟨rfl, rfl⟩))) | (apply execQ_A rfl; (· (simp -implicitDefEqProofs [hmn, hmn', hmn0, hmn0']; done)); (· rfl); (· (simp -implicitDefEqProofs [hmn, hmn', hmn0, hmn0']; exact ⟨rfl, rfl⟩))) | (apply execQ_N rfl; (· (simp -implicitDefEqProofs [hmn, hmn', hmn0, hmn0']; done)))))
          refine execQ_C rfl rfl rfl (hsame _) ?_
          (repeat (first | refine execQ_E rfl ?_ | (apply execQ_0 rfl; (· rfl); (· (simp -implicitDefEqProofs; exact ⟨rfl, rfl⟩))) | (apply execQ_A rfl; (· (simp -implicitDefEqProofs; done)); (· rfl); (· (simp -implicitDefEqProofs; exact ⟨rfl, rfl⟩))) | (apply execQ_N rfl; (· (simp -implicitDefEqProofs; done)))))
          refine execQ_C rfl rfl rfl (awake_at _) ?_
          (repeat (first | refine execQ_E rfl ?_ | (apply execQ_0 rfl; (· rfl); (· (simp -implicitDefEqProofs; exact ⟨rfl, rfl⟩))) | (apply execQ_A rfl; (· (simp -implicitDefEqProofs; done)); (· rfl); (· (simp -implicitDefEqProofs; exact ⟨rfl, rfl⟩))) | (apply execQ_N rfl; (· (simp -implicitDefEqProofs; done)))))
          simp
        (repeat (first | refine Run.seq ?_ | refine Run.reg ?_ | refine Run.skip ?_ | refine Run.block ?_ | refine Run.endB ?_ | refine Run.opE rfl ?_ | (apply Run.op0 rfl; (· (simp -implicitDefEqProofs; exact ⟨rfl, rfl⟩))) | (apply Run.opA rfl; (· (simp -implicitDefEqProofs; done)); (· (simp -implicitDefEqProofs; exact ⟨rfl, rfl⟩))) | (apply Run.opN rfl; (· (simp -implicitDefEqProofs; done))) | (refine Run.condT ?_ ?_; (· (simp -implicitDefEqProofs; done))) | (refine Run.condF ?_ ?_; (· (simp -implicitDefEqProofs; done))) | refine Run.exit rfl ?_))
        refine Run.retI Try.func4 r4_ok trivial (by simp [r4]; rfl) (by simp) ?_ (by simp) (by simp)
        exact ⟨fun _ => none, _, [], names_none _, rfl, rfl, rfl⟩
      · rw [hcv, hto]
        (repeat (first | refine Run.seq ?_ | refine Run.reg ?_ | refine Run.skip ?_ | refine Run.block ?_ | refine Run.endB ?_ | refine Run.opE rfl ?_ | (apply Run.op0 rfl; (· (simp -implicitDefEqProofs; exact ⟨rfl, rfl⟩))) | (apply Run.opA rfl; (· (simp -implicitDefEqProofs; done)); (· (simp -implicitDefEqProofs; exact ⟨rfl, rfl⟩))) | (apply Run.opN rfl; (· (simp -implicitDefEqProofs; done))) | (refine Run.condT ?_ ?_; (· (simp -implicitDefEqProofs; done))) | (refine Run.condF ?_ ?_; (· (simp -implicitDefEqProofs; done))) | refine Run.exit rfl ?_))
        refine Run.freeze 5 (es := o.map encE) (sz := 4) (by simp) ?_
        refine Run.mv [0, 1, 2, 3, 4, 5] [(8, .vs (o.map encE) 4), (9, .ptr 0 0), (10, .ptr 2 0)] [.row [.int .i64 N], .gone, .row [.vs (o.map encE) 4], .gone, .gone, .gone] (by rfl) (by decide) (by simp -implicitDefEqProofs) (by simp -implicitDefEqProofs) ?_
        refine Run.quietM prog_mixed (by kernel_rfl) [0, 1, 2, 3, 4, 5] [(6, .bool true)] [.row [.int .i64 N], .gone, .row [.vs (o.map encE) 4], .gone, .gone, .gone] (by rfl) (by decide) ?_ ?_
        · (repeat (first | refine execQ_E rfl ?_ | (apply execQ_0 rfl; (· rfl); (· (simp -implicitDefEqProofs [hmn, hmn']; exact ⟨rfl, rfl⟩))) | (apply execQ_A rfl; (· (simp -implicitDefEqProofs [hmn, hmn']; done)); (· rfl); (· (simp -implicitDefEqProofs [hmn, hmn']; exact ⟨rfl, rfl⟩))) | (apply execQ_N rfl; (· (simp -implicitDefEqProofs [hmn, hmn']; done)))))
          refine execQ_C rfl rfl rfl (hsame _) ?_
          (repeat (first | refine execQ_E rfl ?_ | (apply execQ_0 rfl; (· rfl); (· (simp -implicitDefEqProofs; exact ⟨rfl, rfl⟩))) | (apply execQ_A rfl; (· (simp -implicitDefEqProofs; done)); (· rfl); (· (simp -implicitDefEqProofs; exact ⟨rfl, rfl⟩))) | (apply execQ_N rfl; (· (simp -implicitDefEqProofs; done)))))
          refine execQ_C rfl rfl rfl (awake_at _) ?_
          (repeat (first | refine execQ_E rfl ?_ | (apply execQ_0 rfl; (· rfl); (· (simp -implicitDefEqProofs; exact ⟨rfl, rfl⟩))) | (apply execQ_A rfl; (· (simp -implicitDefEqProofs; done)); (· rfl); (· (simp -implicitDefEqProofs; exact ⟨rfl, rfl⟩))) | (apply execQ_N rfl; (· (simp -implicitDefEqProofs; done)))))
          simp
        (repeat (first | refine Run.seq ?_ | refine Run.reg ?_ | refine Run.skip ?_ | refine Run.block ?_ | refine Run.endB ?_ | refine Run.opE rfl ?_ | (apply Run.op0 rfl; (· (simp -implicitDefEqProofs; exact ⟨rfl, rfl⟩))) | (apply Run.opA rfl; (· (simp -implicitDefEqProofs; done)); (· (simp -implicitDefEqProofs; exact ⟨rfl, rfl⟩))) | (apply Run.opN rfl; (· (simp -implicitDefEqProofs; done))) | (refine Run.condT ?_ ?_; (· (simp -implicitDefEqProofs; done))) | (refine Run.condF ?_ ?_; (· (simp -implicitDefEqProofs; done))) | refine Run.exit rfl ?_))
        refine Run.retI Try.func4 r4_ok trivial (by simp [r4]; rfl) (by simp) ?_ (by simp) (by simp)
        exact ⟨fun _ => none, _, [], names_none _, rfl, rfl, rfl⟩
    · rw [hea] at hgo
      have hst' : o.length + 1 = N := by simpa using hst
      refine ⟨_, _, _, rfl, by simp, ⟨.exit 0, rfl, fun ds => ?_⟩⟩
      have hwl : N ≤ (allM ls).length := by rw [hgo]; simp only [List.length_append, List.length_cons]; omega
      have htk : (allM ls).take N = o ++ [e] := by rw [hgo, ← hst']; simp [List.take_append, List.take_of_length_le]
      have hln : (o ++ [e]).length = N := by simp [hst']
      generalize allM ls = want at *
      generalize o ++ [e] = got at *
      have hmn : ¬ (want.length : Int) < N := by omega
      have hmn' : (N : Int) ≤ want.length := by omega
      have hsame : ∀ H, Tri Try.prog 15 [.vs (got.map encE) 4, .vs (got.map encE) 4] H (fun v H' => v = .bool (decide (got = got)) ∧ H' = H) := sameE_at got got (by omega)
      rw [hst']
      subst hln
      have htk' : (want.map encE).take got.length = got.map encE := by rw [← List.map_take, htk]
      (repeat (first | refine Run.seq ?_ | refine Run.reg ?_ | refine Run.skip ?_ | refine Run.block ?_ | refine Run.endB ?_ | refine Run.opE rfl ?_ | (apply Run.op0 rfl; (· (simp -implicitDefEqProofs; exact ⟨rfl, rfl⟩))) | (apply Run.opA rfl; (· (simp -implicitDefEqProofs; done)); (· (simp -implicitDefEqProofs; exact ⟨rfl, rfl⟩))) | (apply Run.opN rfl; (· (simp -implicitDefEqProofs; done))) | (refine Run.condT ?_ ?_; (· (simp -implicitDefEqProofs; done))) | (refine Run.condF ?_ ?_; (· (simp -implicitDefEqProofs; done))) | refine Run.exit rfl ?_))
      refine Run.freeze 8 (es := got.map encE) (sz := 4) (by simp) ?_
      refine Run.mv [0, 1, 2, 3, 4, 5, 6, 7, 8] [(8, .vs (want.map encE) 4), (9, .ptr 0 0), (10, .ptr 2 0)] [.row [.int .i64 got.length], .gone, .row [.vs (got.map encE) 4], .gone, .gone, .gone, .gone, .gone, .gone] (by rfl) (by decide) (by simp -implicitDefEqProofs) (by simp -implicitDefEqProofs) ?_
      refine Run.quietM prog_mixed (by kernel_rfl) [0, 1, 2, 3, 4, 5, 6, 7, 8] [(6, .bool true)] [.row [.int .i64 got.length], .gone, .row [.vs (got.map encE) 4], .gone, .gone, .gone, .gone, .gone, .gone] (by rfl) (by decide) ?_ ?_
      · (repeat (first | refine execQ_E rfl ?_ | (apply execQ_0 rfl; (· rfl); (· (simp -implicitDefEqProofs [hmn, hmn', htk', hwl]; exact ⟨rfl, rfl⟩))) | (apply execQ_A rfl; (· (simp -implicitDefEqProofs [hmn, hmn', htk', hwl]; done)); (· rfl); (· (simp -implicitDefEqProofs [hmn, hmn', htk', hwl]; exact ⟨rfl, rfl⟩))) | (apply execQ_N rfl; (· (simp -implicitDefEqProofs [hmn, hmn', htk', hwl]; done)))))
        refine execQ_C rfl rfl rfl (hsame _) ?_
        (repeat (first | refine execQ_E rfl ?_ | (apply execQ_0 rfl; (· rfl); (· (simp -implicitDefEqProofs; exact ⟨rfl, rfl⟩))) | (apply execQ_A rfl; (· (simp -implicitDefEqProofs; done)); (· rfl); (· (simp -implicitDefEqProofs; exact ⟨rfl, rfl⟩))) | (apply execQ_N rfl; (· (simp -implicitDefEqProofs; done)))))
        refine execQ_C rfl rfl rfl (awake_at _) ?_
        (repeat (first | refine execQ_E rfl ?_ | (apply execQ_0 rfl; (· rfl); (· (simp -implicitDefEqProofs; exact ⟨rfl, rfl⟩))) | (apply execQ_A rfl; (· (simp -implicitDefEqProofs; done)); (· rfl); (· (simp -implicitDefEqProofs; exact ⟨rfl, rfl⟩))) | (apply execQ_N rfl; (· (simp -implicitDefEqProofs; done)))))
        simp
      (repeat (first | refine Run.seq ?_ | refine Run.reg ?_ | refine Run.skip ?_ | refine Run.block ?_ | refine Run.endB ?_ | refine Run.opE rfl ?_ | (apply Run.op0 rfl; (· (simp -implicitDefEqProofs; exact ⟨rfl, rfl⟩))) | (apply Run.opA rfl; (· (simp -implicitDefEqProofs; done)); (· (simp -implicitDefEqProofs; exact ⟨rfl, rfl⟩))) | (apply Run.opN rfl; (· (simp -implicitDefEqProofs; done))) | (refine Run.condT ?_ ?_; (· (simp -implicitDefEqProofs; done))) | (refine Run.condF ?_ ?_; (· (simp -implicitDefEqProofs; done))) | refine Run.exit rfl ?_))
      refine Run.retI Try.func4 r4_ok trivial (by simp [r4]; rfl) (by simp) ?_ (by simp) (by simp)
      exact ⟨fun _ => none, _, [], names_none _, rfl, rfl, rfl⟩

end Go.Proofs.Ytphpkigfmmanhaa
