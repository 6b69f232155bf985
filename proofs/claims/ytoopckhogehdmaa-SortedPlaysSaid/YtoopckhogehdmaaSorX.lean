/-
  Layer 07, part X: a map of keys; the law SortedRises.
-/
import Derived.Test.YtoopckhogehdmaaSorG
namespace Go.Proofs.Ytoopckhogehdmaa
open Sx Go
set_option maxRecDepth 100000
set_option linter.unusedSimpArgs false
set_option linter.unusedVariables false
set_option linter.unnecessarySimpa false
attribute [local simp] boundsC appendG appendO copyV srcC guardB isCall opStep Opd.ev put readAt aBin aUn args0 V.celled V.ones V.one V.cells putAt bounds bound1 elemsOf srcOf appendV fillAt fillEl V.pures V.pure unwind evs ARes.ev mkRes V.ren V.renL O.ren eqCells eq1 aEq aMM hasTy hasTyN okTy mmGo Known HLe OLe VsLe.refl VLe.refl VLe.cap Stay VsLe V.frz V.frzL O.frz fr clearV rn KnownR Objs OLeO ObjsE nm back setAll ren_ite take_map_len List.take_of_length_le
attribute [local simp ↓] upd_app tl_cons tl_nil
attribute [local simp] encItI_ren encItI_ones encItI_len encItI_take encItS_ren encItS_ones encItS_len encItS_take encS_ren encS_ones encS_len encS_take
attribute [local simp] encI_ren encI_ones encI_len encI_take encK_ren encK_ones encK_len encK_take encW_ren encW_ones encW_len encW_take

def fil : List Bs → Nat → KV → KV
  | [], _, l => l
  | k :: ks, i, l => fil ks (i + 1) (putL l k i)
def filM (ks : List Bs) : KV := fil ks 0 []
def lastOf : List Bs → Nat → Bs → Option Int
  | [], _, _ => none
  | k :: ks, i, x => match lastOf ks (i + 1) x with
    | some v => some v
    | none => if k = x then some i else none
theorem fil_snoc (k : Bs) : ∀ (ks : List Bs) (i : Nat) (l : KV), fil (ks ++ [k]) i l = putL (fil ks i l) k ((i + ks.length : Nat) : Int)
  | [], i, l => rfl
  | q :: ks, i, l => by
    rw [List.cons_append, fil, fil_snoc k ks, fil]
    congr 2; simp only [List.length_cons]; omega
theorem lastOf_snoc (k x : Bs) : ∀ (ks : List Bs) (i : Nat), lastOf (ks ++ [k]) i x = if k = x then some ((i + ks.length : Nat) : Int) else lastOf ks i x
  | [], i => by simp [lastOf]
  | q :: ks, i => by
    rw [List.cons_append, lastOf, lastOf_snoc k x ks, lastOf]
    by_cases h : k = x
    · simp only [h, if_true]; congr 2; simp only [List.length_cons]; omega
    · simp only [if_neg h]
theorem fil_spec : ∀ (ks : List Bs) (i : Nat) (l : KV), RiseK l → RiseK (fil ks i l) ∧ (fil ks i l).length ≤ l.length + ks.length ∧ ∀ x, look (fil ks i l) x = match lastOf ks i x with | some v => some v | none => look l x
  | [], i, l, h => ⟨h, by simp [fil], fun x => rfl⟩
  | k :: ks, i, l, h => by
    obtain ⟨h1, h2, h3⟩ := fil_spec ks (i + 1) (putL l k i) (putL_rise h k i)
    refine ⟨h1, ?_, fun x => ?_⟩
    · have := putL_len l k (i : Int); simp only [fil, List.length_cons]; omega
    · rw [fil, h3, look_put h, lastOf]
      cases lastOf ks (i + 1) x with
      | some v => rfl
      | none =>
        by_cases hx : x = k
        · subst hx; simp
        · simp [hx, fun h => hx (Eq.symm h), show ¬ k = x from fun h => hx h.symm]

theorem filled_tri (ks : List Bs) (hk : ks.length ≤ 1000) : Tri Try.prog 8 [.vs (ks.map encS) 1] [] (fun v H => v = .tup [.ptr 0 0, .agg (encM (filM ks)), .bool true] ∧ H = mapHi (filM ks)) := by
  refine Tri.of_run' Try.func8 rfl c8_ok (by simp [Try.ntmps8]) ?_
  (repeat (first | refine Run.seq ?_ | refine Run.reg ?_ | refine Run.skip ?_ | refine Run.block ?_ | refine Run.endB ?_ | refine Run.opE rfl ?_ | (apply Run.op0 rfl; (· (simp -implicitDefEqProofs; exact ⟨rfl, rfl⟩))) | (apply Run.opA rfl; (· (simp -implicitDefEqProofs; done)); (· (simp -implicitDefEqProofs; exact ⟨rfl, rfl⟩))) | (apply Run.opN rfl; (· (simp -implicitDefEqProofs; done))) | (refine Run.condT ?_ ?_; (· (simp -implicitDefEqProofs; done))) | (refine Run.condF ?_ ?_; (· (simp -implicitDefEqProofs; done))) | refine Run.exit rfl ?_))
  refine Run.opF [] (newi_tri) rfl (by simp -implicitDefEqProofs) rfl (by simp -implicitDefEqProofs) (by decide) (by rfl) (by simp -implicitDefEqProofs) ?_
  rintro v0 Hs' ⟨rfl, rfl⟩
  refine Run.nilC 1 1 2 0 rfl rfl ?_
  (repeat (first | refine Run.seq ?_ | refine Run.reg ?_ | refine Run.skip ?_ | refine Run.block ?_ | refine Run.endB ?_ | refine Run.opE rfl ?_ | (apply Run.op0 rfl; (· (simp -implicitDefEqProofs; exact ⟨rfl, rfl⟩))) | (apply Run.opA rfl; (· (simp -implicitDefEqProofs; done)); (· (simp -implicitDefEqProofs; exact ⟨rfl, rfl⟩))) | (apply Run.opN rfl; (· (simp -implicitDefEqProofs; done))) | (refine Run.condT ?_ ?_; (· (simp -implicitDefEqProofs; done))) | (refine Run.condF ?_ ?_; (· (simp -implicitDefEqProofs; done))) | refine Run.exit rfl ?_))
  have hnil : VLe (V.agg [.nils, .nils]) (.agg [.vs [] 1, .vs [] 1]) := VLe.agg ⟨VLe.nils 1, VLe.nils 1, trivial⟩
  refine Run.loopC [1, 2, 0, 4] (fun (i : Nat) => ([(0, .vs (ks.map encS) 1), (3, .ptr 2 0), (5, .ptr 0 0), (6, .ptr 3 0), (7, .int .i64 i)], mapHi (filM (ks.take i)) ++ [.row [.nils, .nils], .row (encM (filM (ks.take i)))])) (fun i => i ≤ ks.length) (fun i => ks.length - i) 0 (by simp) (by rfl) (by decide) (by simp) (by simp [mapHi, filM, fil, encM, VLe.nils]) ?_
  intro i hi ih
  obtain ⟨hr, hl, -⟩ := fil_spec (ks.take i) 0 [] List.Pairwise.nil
  change RiseK (filM (ks.take i)) at hr
  change (filM (ks.take i)).length ≤ _ at hl
  have hl' : (filM (ks.take i)).length ≤ 100000 := by simp at hl; omega
  by_cases hlt : i < ks.length
  · obtain ⟨x, hx, hxi, -, -⟩ := getL hlt
    have hw := wrap_small (n := (i : Int) + 1) (by omega) (by omega)
    have hnx : filM (ks.take (i + 1)) = putL (filM (ks.take i)) x i := by
      unfold filM; rw [List.take_add_one, hx]
      have := fil_snoc x (ks.take i) 0 []
      rw [show ((0 + (ks.take i).length : Nat) : Int) = (i : Int) by simp; omega] at this
      simpa using this
    generalize filM (ks.take i) = l at *
    unfold mapHi
    (repeat (first | refine Run.seq ?_ | refine Run.reg ?_ | refine Run.skip ?_ | refine Run.block ?_ | refine Run.endB ?_ | refine Run.opE rfl ?_ | (apply Run.op0 rfl; (· (simp -implicitDefEqProofs [hlt, hx, hxi, encS]; exact ⟨rfl, rfl⟩))) | (apply Run.opA rfl; (· (simp -implicitDefEqProofs [hlt, hx, hxi, encS]; done)); (· (simp -implicitDefEqProofs [hlt, hx, hxi, encS]; exact ⟨rfl, rfl⟩))) | (apply Run.opN rfl; (· (simp -implicitDefEqProofs [hlt, hx, hxi, encS]; done))) | (refine Run.condT ?_ ?_; (· (simp -implicitDefEqProofs [hlt, hx, hxi, encS]; done))) | (refine Run.condF ?_ ?_; (· (simp -implicitDefEqProofs [hlt, hx, hxi, encS]; done))) | refine Run.exit rfl ?_))
    refine Run.opF [0, 1] (puti_tri l hl' hr x i) rfl (by simp -implicitDefEqProofs [mapHi]) rfl (by simp -implicitDefEqProofs [mapHi]) (by decide) (by rfl) (by simp -implicitDefEqProofs [mapHi]) ?_
    rintro v0 Hs' ⟨rfl, hcase⟩
    rw [← hnx] at hcase
    refine cases2 hcase [(0, .vs (ks.map encS) 1), (3, .ptr 2 0), (5, .ptr 0 0), (6, .ptr 3 0), (7, .int .i64 i)] (mapHi (filM (ks.take (i + 1))) ++ [.row [.nils, .nils], .row (encM l)]) [0, 1, 2, 3] [0, 4, 2, 3] (by rfl) (by decide) (by simp) (by simp [mapHi, encM]) (by rfl) (by decide) (by simp) (by simp [mapHi, mapKi, encM]) ?_
    unfold mapHi
    (repeat (first | refine Run.seq ?_ | refine Run.reg ?_ | refine Run.skip ?_ | refine Run.block ?_ | refine Run.endB ?_ | refine Run.opE rfl ?_ | (apply Run.op0 rfl; (· (simp -implicitDefEqProofs; exact ⟨rfl, rfl⟩))) | (apply Run.opA rfl; (· (simp -implicitDefEqProofs; done)); (· (simp -implicitDefEqProofs; exact ⟨rfl, rfl⟩))) | (apply Run.opN rfl; (· (simp -implicitDefEqProofs; done))) | (refine Run.condT ?_ ?_; (· (simp -implicitDefEqProofs; done))) | (refine Run.condF ?_ ?_; (· (simp -implicitDefEqProofs; done))) | refine Run.exit rfl ?_))
    have hrp := rput_at l hl' x i
    simp only [encM] at hrp
    refine Run.drawn prog_mixed ?_
    show RunD _ c8d0 [0, 1, 2, 3, 4, 5, 6, 7, 8, 9, 10, 11, 12] [] _ _ _
    refine RunD.flow [0, 1, 2, 3, 4, 5, 6, 7, 8, 9] (by kernel_rfl) (by decide +kernel) (by decide +kernel) (by decide) trivial ?_
    (repeat (first | refine execQ_E rfl ?_ | (apply execQ_0 rfl; (· rfl); (· (simp -implicitDefEqProofs [hlt, hx, hxi, encS, encM]; exact ⟨rfl, rfl⟩))) | (apply execQ_A rfl; (· (simp -implicitDefEqProofs [hlt, hx, hxi, encS, encM]; done)); (· rfl); (· (simp -implicitDefEqProofs [hlt, hx, hxi, encS, encM]; exact ⟨rfl, rfl⟩))) | (apply execQ_N rfl; (· (simp -implicitDefEqProofs [hlt, hx, hxi, encS, encM]; done)))))
    refine execQ_C rfl rfl rfl (hrp _) ?_
    (repeat (first | refine execQ_E rfl ?_ | (apply execQ_0 rfl; (· rfl); (· (simp -implicitDefEqProofs; exact ⟨rfl, rfl⟩))) | (apply execQ_A rfl; (· (simp -implicitDefEqProofs; done)); (· rfl); (· (simp -implicitDefEqProofs; exact ⟨rfl, rfl⟩))) | (apply execQ_N rfl; (· (simp -implicitDefEqProofs; done)))))
    intro hpo
    refine RunD.alt1 10 (by kernel_rfl) (by kernel_rfl) hpo ?_
    (first | (apply AStep.o0 rfl; (· (simp -implicitDefEqProofs; exact ⟨rfl, rfl⟩))) | (apply AStep.A rfl; (· (simp -implicitDefEqProofs; done)); (· (simp -implicitDefEqProofs; exact ⟨rfl, rfl⟩))) | (apply AStep.N rfl; (· (simp -implicitDefEqProofs; done))))
    refine RunD.alt1 11 (by kernel_rfl) (by kernel_rfl) (by
      show PendOk _ c8d0 _ _ [9, 8, 7, 6, 5, 4, 3, 2, 1, 0]
      (repeat (first | exact PendOk.nil | (refine PendOk.op rfl rfl rfl ?_ ?_; (· (simp -implicitDefEqProofs [hlt, hx, hxi, encS, encM]; done))) | (refine PendOk.op rfl rfl ?_ ?_ ?_; (· (simp -implicitDefEqProofs [hlt, hx, hxi, encS, encM]; done)); (· (simp -implicitDefEqProofs [hlt, hx, hxi, encS, encM]; done))) | (refine PendOk.skip rfl rfl ?_ ?_; (· (simp -implicitDefEqProofs [hlt, hx, hxi, encS, encM]; done)))))
      refine PendOk.call rfl rfl rfl rfl (hrp _) ?_
      (repeat (first | exact PendOk.nil | (refine PendOk.op rfl rfl rfl ?_ ?_; (· (simp -implicitDefEqProofs [hlt, hx, hxi, encS, encM]; done))) | (refine PendOk.op rfl rfl ?_ ?_ ?_; (· (simp -implicitDefEqProofs [hlt, hx, hxi, encS, encM]; done)); (· (simp -implicitDefEqProofs [hlt, hx, hxi, encS, encM]; done))) | (refine PendOk.skip rfl rfl ?_ ?_; (· (simp -implicitDefEqProofs [hlt, hx, hxi, encS, encM]; done)))))) ?_
    (first | (apply AStep.o0 rfl; (· (simp -implicitDefEqProofs; exact ⟨rfl, rfl⟩))) | (apply AStep.A rfl; (· (simp -implicitDefEqProofs; done)); (· (simp -implicitDefEqProofs; exact ⟨rfl, rfl⟩))) | (apply AStep.N rfl; (· (simp -implicitDefEqProofs; done))))
    refine RunD.alt1 12 (by kernel_rfl) (by kernel_rfl) (by
      show PendOk _ c8d0 _ _ [9]
      (repeat (first | exact PendOk.nil | (refine PendOk.op rfl rfl rfl ?_ ?_; (· (simp -implicitDefEqProofs; done))) | (refine PendOk.op rfl rfl ?_ ?_ ?_; (· (simp -implicitDefEqProofs; done)); (· (simp -implicitDefEqProofs; done))) | (refine PendOk.skip rfl rfl ?_ ?_; (· (simp -implicitDefEqProofs; done)))))) ?_
    (first | (apply AStep.o0 rfl; (· (simp -implicitDefEqProofs; exact ⟨rfl, rfl⟩))) | (apply AStep.A rfl; (· (simp -implicitDefEqProofs; done)); (· (simp -implicitDefEqProofs; exact ⟨rfl, rfl⟩))) | (apply AStep.N rfl; (· (simp -implicitDefEqProofs; done))))
    refine RunD.fin (by kernel_rfl) (show PendOk _ c8d0 _ _ [] from trivial) ?_
    (repeat (first | refine Run.seq ?_ | refine Run.reg ?_ | refine Run.skip ?_ | refine Run.block ?_ | refine Run.endB ?_ | refine Run.opE rfl ?_ | (apply Run.op0 rfl; (· (simp -implicitDefEqProofs; exact ⟨rfl, rfl⟩))) | (apply Run.opA rfl; (· (simp -implicitDefEqProofs; done)); (· (simp -implicitDefEqProofs; exact ⟨rfl, rfl⟩))) | (apply Run.opN rfl; (· (simp -implicitDefEqProofs; done))) | (refine Run.condT ?_ ?_; (· (simp -implicitDefEqProofs; done))) | (refine Run.condF ?_ ?_; (· (simp -implicitDefEqProofs; done))) | refine Run.exit rfl ?_))
    refine Run.mv [0, 1, 2, 3] _ _ (by rfl) (by decide) (by simp -implicitDefEqProofs [hw, mapHi, encM, hnx]) (by simp -implicitDefEqProofs [hw, mapHi, encM, hnx]) (ih (i + 1) ?_ ?_)
    · omega
    · omega
  · have : i = ks.length := by omega
    subst this
    rw [List.take_length]
    generalize filM ks = l at *
    unfold mapHi
    (repeat (first | refine Run.seq ?_ | refine Run.reg ?_ | refine Run.skip ?_ | refine Run.block ?_ | refine Run.endB ?_ | refine Run.opE rfl ?_ | (apply Run.op0 rfl; (· (simp -implicitDefEqProofs; exact ⟨rfl, rfl⟩))) | (apply Run.opA rfl; (· (simp -implicitDefEqProofs; done)); (· (simp -implicitDefEqProofs; exact ⟨rfl, rfl⟩))) | (apply Run.opN rfl; (· (simp -implicitDefEqProofs; done))) | (refine Run.condT ?_ ?_; (· (simp -implicitDefEqProofs; done))) | (refine Run.condF ?_ ?_; (· (simp -implicitDefEqProofs; done))) | refine Run.exit rfl ?_))
    refine Run.drawn prog_mixed ?_
    show RunD _ c8d1 [0, 1, 2, 3, 4, 5, 6] [] _ _ _
    refine RunD.flow [0, 1, 2, 3] (by kernel_rfl) (by decide +kernel) (by decide +kernel) (by decide) trivial ?_; (repeat (first | refine execQ_E rfl ?_ | (apply execQ_0 rfl; (· rfl); (· (simp -implicitDefEqProofs [encM]; exact ⟨rfl, rfl⟩))) | (apply execQ_A rfl; (· (simp -implicitDefEqProofs [encM]; done)); (· rfl); (· (simp -implicitDefEqProofs [encM]; exact ⟨rfl, rfl⟩))) | (apply execQ_N rfl; (· (simp -implicitDefEqProofs [encM]; done))))); intro hpo
    refine RunD.alt1 4 (by kernel_rfl) (by kernel_rfl) hpo ?_
    (first | (apply AStep.o0 rfl; (· (simp -implicitDefEqProofs; exact ⟨rfl, rfl⟩))) | (apply AStep.A rfl; (· (simp -implicitDefEqProofs; done)); (· (simp -implicitDefEqProofs; exact ⟨rfl, rfl⟩))) | (apply AStep.N rfl; (· (simp -implicitDefEqProofs; done))))
    refine RunD.alt1 5 (by kernel_rfl) (by kernel_rfl) (by
      show PendOk _ c8d1 _ _ [3, 2, 1]
      (repeat (first | exact PendOk.nil | (refine PendOk.op rfl rfl rfl ?_ ?_; (· (simp -implicitDefEqProofs [encM]; done))) | (refine PendOk.op rfl rfl ?_ ?_ ?_; (· (simp -implicitDefEqProofs [encM]; done)); (· (simp -implicitDefEqProofs [encM]; done))) | (refine PendOk.skip rfl rfl ?_ ?_; (· (simp -implicitDefEqProofs [encM]; done)))))) ?_
    (first | (apply AStep.o0 rfl; (· (simp -implicitDefEqProofs; exact ⟨rfl, rfl⟩))) | (apply AStep.A rfl; (· (simp -implicitDefEqProofs; done)); (· (simp -implicitDefEqProofs; exact ⟨rfl, rfl⟩))) | (apply AStep.N rfl; (· (simp -implicitDefEqProofs; done))))
    refine RunD.alt1 6 (by kernel_rfl) (by kernel_rfl) (by
      show PendOk _ c8d1 _ _ [3, 2]
      (repeat (first | exact PendOk.nil | (refine PendOk.op rfl rfl rfl ?_ ?_; (· (simp -implicitDefEqProofs [encM]; done))) | (refine PendOk.op rfl rfl ?_ ?_ ?_; (· (simp -implicitDefEqProofs [encM]; done)); (· (simp -implicitDefEqProofs [encM]; done))) | (refine PendOk.skip rfl rfl ?_ ?_; (· (simp -implicitDefEqProofs [encM]; done)))))) ?_
    (first | (apply AStep.o0 rfl; (· (simp -implicitDefEqProofs; exact ⟨rfl, rfl⟩))) | (apply AStep.A rfl; (· (simp -implicitDefEqProofs; done)); (· (simp -implicitDefEqProofs; exact ⟨rfl, rfl⟩))) | (apply AStep.N rfl; (· (simp -implicitDefEqProofs; done))))
    refine RunD.fin (by kernel_rfl) (by trivial) ?_
    refine Run.ret Try.func8 r8_ok trivial (by simp [r8, encM]; rfl) (fr 2) (Names.less (Names.front (n := 2) (by simp) (by simp [fr])) (Nat.zero_le 2)) rfl ⟨rfl, rfl⟩

end Go.Proofs.Ytoopckhogehdmaa
