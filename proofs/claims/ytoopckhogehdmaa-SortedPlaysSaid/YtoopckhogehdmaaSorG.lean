/-
  Layer 07, part G: the document's maps.
-/
import Derived.Test.YtoopckhogehdmaaSorDec
namespace Go.Proofs.Ytoopckhogehdmaa
open Sx Go
set_option maxRecDepth 100000
set_option linter.unusedSimpArgs false
set_option linter.unusedVariables false
set_option linter.unnecessarySimpa false
attribute [local simp] boundsC appendG appendO copyV srcC guardB isCall opStep Opd.ev put readAt aBin aUn args0 V.celled V.ones V.one V.cells putAt bounds bound1 elemsOf srcOf appendV fillAt fillEl V.pures V.pure unwind evs ARes.ev mkRes V.ren V.renL O.ren eqCells eq1 aEq aMM hasTy hasTyN okTy mmGo Known HLe OLe VsLe.refl VLe.refl VLe.cap Stay VsLe V.frz V.frzL O.frz fr clearV rn KnownR Objs OLeO ObjsE nm back setAll ren_ite take_map_len List.take_of_length_le
attribute [local simp ↓] upd_app tl_cons tl_nil
attribute [local simp] encItI_ren encItI_ones encItI_len encItI_take encItS_ren encItS_ones encItS_len encItS_take encS_ren encS_ones encS_len encS_take

def encI (n : Int) : List V := [.int .i64 n]
theorem encI_ren (ρ) (s : Int) : V.renL ρ (encI s) = encI s := rfl
theorem encI_ones (s) : V.ones (encI s) = true := rfl
theorem encI_len (s) : (encI s).length = 1 := rfl
theorem encI_take (s) : (encI s).take 1 = encI s := rfl
attribute [local simp] encI_ren encI_ones encI_len encI_take
abbrev KV := List (Bs × Int)
/-- a map of the document's: its keys, and its values -/
def encK (x : Bs × Int) : List V := [.str x.1]
def encW (x : Bs × Int) : List V := [.int .i64 x.2]
theorem encK_ren (ρ) (s) : V.renL ρ (encK s) = encK s := rfl
theorem encK_ones (s) : V.ones (encK s) = true := rfl
theorem encK_len (s) : (encK s).length = 1 := rfl
theorem encK_take (s) : (encK s).take 1 = encK s := rfl
theorem encW_ren (ρ) (s) : V.renL ρ (encW s) = encW s := rfl
theorem encW_ones (s) : V.ones (encW s) = true := rfl
theorem encW_len (s) : (encW s).length = 1 := rfl
theorem encW_take (s) : (encW s).take 1 = encW s := rfl
attribute [local simp] encK_ren encK_ones encK_len encK_take encW_ren encW_ones encW_len encW_take
def encM (l : KV) : List V := [.vs (l.map encK) 1, .vs (l.map encW) 1]

theorem low_lt {l : KV} {key : Bs} : ∀ {i : Nat}, i < lowB l key → ∃ x, l[i]? = some x ∧ Op.bytesLess x.1 key = true := by
  induction l with
  | nil => intro i h; simp [lowB] at h
  | cons y l ih =>
    intro i h
    unfold lowB at h ih
    rw [List.takeWhile_cons] at h
    split at h
    · rename_i hy
      cases i with
      | zero => exact ⟨y, rfl, hy⟩
      | succ i => simpa using ih (by simpa using h)
    · simp at h
theorem low_at {l : KV} {key : Bs} {x} (h : l[lowB l key]? = some x) : Op.bytesLess x.1 key = false := by
  induction l with
  | nil => simp at h
  | cons y l ih =>
    unfold lowB at h ih
    rw [List.takeWhile_cons] at h
    split at h
    · exact ih (by simpa using h)
    · rename_i hy
      simp at h; subst h; simpa using hy

theorem place_tri (l : KV) (hl : l.length ≤ 1000000) (key : Bs) : Tri Try.prog 27 [.agg (encM l), .str key] [] (fun v H => v = .tup [.int .i64 (lowB l key), .bool (hitB l key)] ∧ H = []) := by
  have hlow := lowB_le l key
  refine Tri.of_run' Try.func27 rfl c27_ok (by simp [Try.ntmps27]) ?_
  (repeat (first | refine Run.seq ?_ | refine Run.reg ?_ | refine Run.skip ?_ | refine Run.block ?_ | refine Run.endB ?_ | refine Run.opE rfl ?_ | (apply Run.op0 rfl; (· (simp -implicitDefEqProofs [encM]; exact ⟨rfl, rfl⟩))) | (apply Run.opA rfl; (· (simp -implicitDefEqProofs [encM]; done)); (· (simp -implicitDefEqProofs [encM]; exact ⟨rfl, rfl⟩))) | (apply Run.opN rfl; (· (simp -implicitDefEqProofs [encM]; done))) | (refine Run.condT ?_ ?_; (· (simp -implicitDefEqProofs [encM]; done))) | (refine Run.condF ?_ ?_; (· (simp -implicitDefEqProofs [encM]; done))) | refine Run.exit rfl ?_))
  refine Run.loopC [0] (fun (i : Nat) => ([(1, .str key), (2, .ptr 0 0), (6, .int .i64 i)], [.row (encM l)])) (fun i => i ≤ lowB l key) (fun i => lowB l key - i) 0 (by simp) (by rfl) (by decide) (by simp) (by simp [encM]) ?_
  intro i hi ih
  by_cases hlt : i < lowB l key
  · obtain ⟨x, hx, hxl⟩ := low_lt hlt
    have hil : i < l.length := by omega
    have hil' : (i : Int) < l.length := by omega
    have hxi : l[i] = x := (List.getElem?_eq_some_iff.1 hx).2
    have hw := wrap_small (n := (i : Int) + 1) (by omega) (by omega)
    (repeat (first | refine Run.seq ?_ | refine Run.reg ?_ | refine Run.skip ?_ | refine Run.block ?_ | refine Run.endB ?_ | refine Run.opE rfl ?_ | (apply Run.op0 rfl; (· (simp -implicitDefEqProofs [encM, encK, hil, hil', hx, hxi, hxl]; exact ⟨rfl, rfl⟩))) | (apply Run.opA rfl; (· (simp -implicitDefEqProofs [encM, encK, hil, hil', hx, hxi, hxl]; done)); (· (simp -implicitDefEqProofs [encM, encK, hil, hil', hx, hxi, hxl]; exact ⟨rfl, rfl⟩))) | (apply Run.opN rfl; (· (simp -implicitDefEqProofs [encM, encK, hil, hil', hx, hxi, hxl]; done))) | (refine Run.condT ?_ ?_; (· (simp -implicitDefEqProofs [encM, encK, hil, hil', hx, hxi, hxl]; done))) | (refine Run.condF ?_ ?_; (· (simp -implicitDefEqProofs [encM, encK, hil, hil', hx, hxi, hxl]; done))) | refine Run.exit rfl ?_))
    refine Run.mv [0] _ _ (by rfl) (by decide) (by simp -implicitDefEqProofs [hw, encM]) (by simp -implicitDefEqProofs [hw, encM]) (ih (i + 1) ?_ ?_)
    · omega
    · omega
  · have : i = lowB l key := by omega
    subst this
    by_cases hil : lowB l key < l.length
    · have hil' : (lowB l key : Int) < l.length := by omega
      obtain ⟨x, hx, hxi, -, -⟩ := getL hil
      have hxl := low_at hx
      have hh : hitB l key = decide (x.1 = key) := by rw [hitB, hx]
      generalize lowB l key = i at *
      (repeat (first | refine Run.seq ?_ | refine Run.reg ?_ | refine Run.skip ?_ | refine Run.block ?_ | refine Run.endB ?_ | refine Run.opE rfl ?_ | (apply Run.op0 rfl; (· (simp -implicitDefEqProofs [encM, encK, hil, hil', hx, hxi, hxl]; exact ⟨rfl, rfl⟩))) | (apply Run.opA rfl; (· (simp -implicitDefEqProofs [encM, encK, hil, hil', hx, hxi, hxl]; done)); (· (simp -implicitDefEqProofs [encM, encK, hil, hil', hx, hxi, hxl]; exact ⟨rfl, rfl⟩))) | (apply Run.opN rfl; (· (simp -implicitDefEqProofs [encM, encK, hil, hil', hx, hxi, hxl]; done))) | (refine Run.condT ?_ ?_; (· (simp -implicitDefEqProofs [encM, encK, hil, hil', hx, hxi, hxl]; done))) | (refine Run.condF ?_ ?_; (· (simp -implicitDefEqProofs [encM, encK, hil, hil', hx, hxi, hxl]; done))) | refine Run.exit rfl ?_))
      refine Run.quietM prog_mixed (by kernel_rfl) [0] [(4, .int .i64 i), (5, .bool (hitB l key))] [.gone] (by rfl) (by decide) ?_ ?_
      · (repeat (first | refine execQ_E rfl ?_ | (apply execQ_0 rfl; (· rfl); (· (simp -implicitDefEqProofs [encK, hil, hil', hx, hxi]; exact ⟨rfl, rfl⟩))) | (apply execQ_A rfl; (· (simp -implicitDefEqProofs [encK, hil, hil', hx, hxi]; done)); (· rfl); (· (simp -implicitDefEqProofs [encK, hil, hil', hx, hxi]; exact ⟨rfl, rfl⟩))) | (apply execQ_N rfl; (· (simp -implicitDefEqProofs [encK, hil, hil', hx, hxi]; done)))))
        simp [hh]
      (repeat (first | refine Run.seq ?_ | refine Run.reg ?_ | refine Run.skip ?_ | refine Run.block ?_ | refine Run.endB ?_ | refine Run.opE rfl ?_ | (apply Run.op0 rfl; (· (simp -implicitDefEqProofs; exact ⟨rfl, rfl⟩))) | (apply Run.opA rfl; (· (simp -implicitDefEqProofs; done)); (· (simp -implicitDefEqProofs; exact ⟨rfl, rfl⟩))) | (apply Run.opN rfl; (· (simp -implicitDefEqProofs; done))) | (refine Run.condT ?_ ?_; (· (simp -implicitDefEqProofs; done))) | (refine Run.condF ?_ ?_; (· (simp -implicitDefEqProofs; done))) | refine Run.exit rfl ?_))
      refine Run.mv [] [(4, .int .i64 i), (5, .bool (hitB l key))] [] (by rfl) (by decide) (by simp -implicitDefEqProofs) (by simp -implicitDefEqProofs) ?_
      refine Run.retI Try.func27 r27_ok trivial (by simp -implicitDefEqProofs [r27]; rfl) (by simp ) ?_ (by simp -implicitDefEqProofs ) (by simp -implicitDefEqProofs )
      simp
    · have hil' : ¬ (lowB l key : Int) < l.length := by omega
      have hh : hitB l key = false := by
        have : l[lowB l key]? = none := by rw [List.getElem?_eq_none_iff]; omega
        rw [hitB, this]
      generalize lowB l key = i at *
      (repeat (first | refine Run.seq ?_ | refine Run.reg ?_ | refine Run.skip ?_ | refine Run.block ?_ | refine Run.endB ?_ | refine Run.opE rfl ?_ | (apply Run.op0 rfl; (· (simp -implicitDefEqProofs [encM, encK, hil, hil']; exact ⟨rfl, rfl⟩))) | (apply Run.opA rfl; (· (simp -implicitDefEqProofs [encM, encK, hil, hil']; done)); (· (simp -implicitDefEqProofs [encM, encK, hil, hil']; exact ⟨rfl, rfl⟩))) | (apply Run.opN rfl; (· (simp -implicitDefEqProofs [encM, encK, hil, hil']; done))) | (refine Run.condT ?_ ?_; (· (simp -implicitDefEqProofs [encM, encK, hil, hil']; done))) | (refine Run.condF ?_ ?_; (· (simp -implicitDefEqProofs [encM, encK, hil, hil']; done))) | refine Run.exit rfl ?_))
      refine Run.quietM prog_mixed (by kernel_rfl) [0] [(4, .int .i64 i), (5, .bool (hitB l key))] [.gone] (by rfl) (by decide) ?_ ?_
      · (repeat (first | refine execQ_E rfl ?_ | (apply execQ_0 rfl; (· rfl); (· (simp -implicitDefEqProofs [encK, hil, hil']; exact ⟨rfl, rfl⟩))) | (apply execQ_A rfl; (· (simp -implicitDefEqProofs [encK, hil, hil']; done)); (· rfl); (· (simp -implicitDefEqProofs [encK, hil, hil']; exact ⟨rfl, rfl⟩))) | (apply execQ_N rfl; (· (simp -implicitDefEqProofs [encK, hil, hil']; done)))))
        simp [hh]
      (repeat (first | refine Run.seq ?_ | refine Run.reg ?_ | refine Run.skip ?_ | refine Run.block ?_ | refine Run.endB ?_ | refine Run.opE rfl ?_ | (apply Run.op0 rfl; (· (simp -implicitDefEqProofs; exact ⟨rfl, rfl⟩))) | (apply Run.opA rfl; (· (simp -implicitDefEqProofs; done)); (· (simp -implicitDefEqProofs; exact ⟨rfl, rfl⟩))) | (apply Run.opN rfl; (· (simp -implicitDefEqProofs; done))) | (refine Run.condT ?_ ?_; (· (simp -implicitDefEqProofs; done))) | (refine Run.condF ?_ ?_; (· (simp -implicitDefEqProofs; done))) | refine Run.exit rfl ?_))
      refine Run.mv [] [(4, .int .i64 i), (5, .bool (hitB l key))] [] (by rfl) (by decide) (by simp -implicitDefEqProofs) (by simp -implicitDefEqProofs) ?_
      refine Run.retI Try.func27 r27_ok trivial (by simp -implicitDefEqProofs [r27]; rfl) (by simp ) ?_ (by simp -implicitDefEqProofs ) (by simp -implicitDefEqProofs )
      simp
theorem place_at (l : KV) (hl : l.length ≤ 1000000) (key : Bs) (H : List O) : Tri Try.prog 27 [.agg (encM l), .str key] H (fun v H' => v = .tup [.int .i64 (lowB l key), .bool (hitB l key)] ∧ H' = H) := (place_tri l hl key).at rfl rfl H

theorem rget_tri (l : KV) (hl : l.length ≤ 1000000) (key : Bs) : Tri Try.prog 19 [.agg (encM l), .str key] [] (fun v H => v = .tup [.int .i64 (getB 0 l key).1, .bool (getB 0 l key).2] ∧ H = []) := by
  refine Tri.of_run' Try.func19 rfl c19_ok (by simp [Try.ntmps19]) ?_
  (repeat (first | refine Run.seq ?_ | refine Run.reg ?_ | refine Run.skip ?_ | refine Run.block ?_ | refine Run.endB ?_ | refine Run.opE rfl ?_ | (apply Run.op0 rfl; (· (simp -implicitDefEqProofs [encM]; exact ⟨rfl, rfl⟩))) | (apply Run.opA rfl; (· (simp -implicitDefEqProofs [encM]; done)); (· (simp -implicitDefEqProofs [encM]; exact ⟨rfl, rfl⟩))) | (apply Run.opN rfl; (· (simp -implicitDefEqProofs [encM]; done))) | (refine Run.condT ?_ ?_; (· (simp -implicitDefEqProofs [encM]; done))) | (refine Run.condF ?_ ?_; (· (simp -implicitDefEqProofs [encM]; done))) | refine Run.exit rfl ?_))
  refine Run.opC rfl rfl rfl (by simpa [encM] using place_at l hl key _) ?_
  rintro v h' ⟨rfl, rfl⟩
  cases hh : hitB l key with
  | false =>
    (repeat (first | refine Run.seq ?_ | refine Run.reg ?_ | refine Run.skip ?_ | refine Run.block ?_ | refine Run.endB ?_ | refine Run.opE rfl ?_ | (apply Run.op0 rfl; (· (simp -implicitDefEqProofs [hh]; exact ⟨rfl, rfl⟩))) | (apply Run.opA rfl; (· (simp -implicitDefEqProofs [hh]; done)); (· (simp -implicitDefEqProofs [hh]; exact ⟨rfl, rfl⟩))) | (apply Run.opN rfl; (· (simp -implicitDefEqProofs [hh]; done))) | (refine Run.condT ?_ ?_; (· (simp -implicitDefEqProofs [hh]; done))) | (refine Run.condF ?_ ?_; (· (simp -implicitDefEqProofs [hh]; done))) | refine Run.exit rfl ?_))
    refine Run.mv [] [(4, .int .i64 (getB 0 l key).1), (5, .bool (getB 0 l key).2)] [] (by rfl) (by decide) (by simp -implicitDefEqProofs [getB, hh]) (by simp -implicitDefEqProofs [getB, hh]) ?_
    refine Run.retI Try.func19 r19_ok trivial (by simp -implicitDefEqProofs [r19]; rfl) (by simp ) ?_ (by simp -implicitDefEqProofs ) (by simp -implicitDefEqProofs )
    simp
  | true =>
    obtain ⟨x, hx, hk⟩ := hitB_some hh
    have hlt := (List.getElem?_eq_some_iff.1 hx).1
    have hxi : l[lowB l key] = x := (List.getElem?_eq_some_iff.1 hx).2
    (repeat (first | refine Run.seq ?_ | refine Run.reg ?_ | refine Run.skip ?_ | refine Run.block ?_ | refine Run.endB ?_ | refine Run.opE rfl ?_ | (apply Run.op0 rfl; (· (simp -implicitDefEqProofs [hh, hlt, hx, hxi, encW]; exact ⟨rfl, rfl⟩))) | (apply Run.opA rfl; (· (simp -implicitDefEqProofs [hh, hlt, hx, hxi, encW]; done)); (· (simp -implicitDefEqProofs [hh, hlt, hx, hxi, encW]; exact ⟨rfl, rfl⟩))) | (apply Run.opN rfl; (· (simp -implicitDefEqProofs [hh, hlt, hx, hxi, encW]; done))) | (refine Run.condT ?_ ?_; (· (simp -implicitDefEqProofs [hh, hlt, hx, hxi, encW]; done))) | (refine Run.condF ?_ ?_; (· (simp -implicitDefEqProofs [hh, hlt, hx, hxi, encW]; done))) | refine Run.exit rfl ?_))
    refine Run.mv [] [(4, .int .i64 (getB 0 l key).1), (5, .bool (getB 0 l key).2)] [] (by rfl) (by decide) (by simp -implicitDefEqProofs [getB, hh, hx]) (by simp -implicitDefEqProofs [getB, hh, hx]) ?_
    refine Run.retI Try.func19 r19_ok trivial (by simp -implicitDefEqProofs [r19]; rfl) (by simp ) ?_ (by simp -implicitDefEqProofs ) (by simp -implicitDefEqProofs )
    simp
theorem rget_at (l : KV) (hl : l.length ≤ 1000000) (key : Bs) (H : List O) : Tri Try.prog 19 [.agg (encM l), .str key] H (fun v H' => v = .tup [.int .i64 (getB 0 l key).1, .bool (getB 0 l key).2] ∧ H' = H) := (rget_tri l hl key).at rfl rfl H

theorem rcut_tri (l more : KV) (hl : l.length ≤ 1000000) (hm : more.length ≤ 10) (k many : Nat) (hk : k + many ≤ l.length) : Tri Try.prog 30 [.agg (encM l), .int .i64 k, .int .i64 many, .agg (encM more)] [] (fun v H => v = .agg (encM (l.take k ++ more ++ l.drop (k + many))) ∧ H = []) := by
  have hkl : k ≤ l.length := by omega
  have hkl' : (k : Int) ≤ l.length := by omega
  obtain ⟨M, hM⟩ : ∃ M, M = k + many := ⟨_, rfl⟩
  have hMl : M ≤ l.length := by omega
  have hMl' : (M : Int) ≤ l.length := by omega
  have hw : IntKind.i64.wrap ((k : Int) + many) = (M : Int) := by rw [wrap_small (by omega) (by omega)]; omega
  rw [← hM]
  have b1 : k * 16 ≤ 70368744177664 := by omega
  have b2 : (k + more.length) * 16 ≤ 70368744177664 := by omega
  have b3 : (k + more.length + (l.length - M)) * 16 ≤ 70368744177664 := by omega
  have c1 : k * 8 ≤ 70368744177664 := by omega
  have c2 : (k + more.length) * 8 ≤ 70368744177664 := by omega
  have c3 : (k + more.length + (l.length - M)) * 8 ≤ 70368744177664 := by omega
  have hmin : min k l.length = k := by omega
  obtain ⟨n3, hn3⟩ : ∃ m, m = k + more.length + (l.length - M) := ⟨_, rfl⟩
  rw [← hn3] at b3 c3
  refine Tri.of_run' Try.func30 rfl c30_ok (by simp [Try.ntmps30]) ?_
  (repeat (first | refine Run.seq ?_ | refine Run.reg ?_ | refine Run.skip ?_ | refine Run.block ?_ | refine Run.endB ?_ | refine Run.opE rfl ?_ | (apply Run.op0 rfl; (· (simp -implicitDefEqProofs [encM]; exact ⟨rfl, rfl⟩))) | (apply Run.opA rfl; (· (simp -implicitDefEqProofs [encM]; done)); (· (simp -implicitDefEqProofs [encM]; exact ⟨rfl, rfl⟩))) | (apply Run.opN rfl; (· (simp -implicitDefEqProofs [encM]; done))) | (refine Run.condT ?_ ?_; (· (simp -implicitDefEqProofs [encM]; done))) | (refine Run.condF ?_ ?_; (· (simp -implicitDefEqProofs [encM]; done))) | refine Run.exit rfl ?_))
  refine Run.drawn prog_mixed ?_
  show RunD _ c30d0 [0, 1, 2, 3, 4, 5, 6, 7, 8] [] _ _ _
  refine RunD.flow [0, 1, 2, 3, 4, 5] (by kernel_rfl) (by decide +kernel) (by decide +kernel) (by decide) trivial ?_; (repeat (first | refine execQ_E rfl ?_ | (apply execQ_0 rfl; (· rfl); (· (simp -implicitDefEqProofs [hkl, hkl']; exact ⟨rfl, rfl⟩))) | (apply execQ_A rfl; (· (simp -implicitDefEqProofs [hkl, hkl']; done)); (· rfl); (· (simp -implicitDefEqProofs [hkl, hkl']; exact ⟨rfl, rfl⟩))) | (apply execQ_N rfl; (· (simp -implicitDefEqProofs [hkl, hkl']; done))))); intro hpo
  refine RunD.alt1 6 (by kernel_rfl) (by kernel_rfl) hpo ?_
  (first | (apply AStep.o0 rfl; (· (simp -implicitDefEqProofs [hmin, b1]; exact ⟨rfl, rfl⟩))) | (apply AStep.A rfl; (· (simp -implicitDefEqProofs [hmin, b1]; done)); (· (simp -implicitDefEqProofs [hmin, b1]; exact ⟨rfl, rfl⟩))) | (apply AStep.N rfl; (· (simp -implicitDefEqProofs [hmin, b1]; done))))
  refine RunD.alt1 7 (by kernel_rfl) (by kernel_rfl) (show PendOk _ c30d0 _ _ [] from trivial) ?_
  (first | (apply AStep.o0 rfl; (· (simp -implicitDefEqProofs; exact ⟨rfl, rfl⟩))) | (apply AStep.A rfl; (· (simp -implicitDefEqProofs; done)); (· (simp -implicitDefEqProofs; exact ⟨rfl, rfl⟩))) | (apply AStep.N rfl; (· (simp -implicitDefEqProofs; done))))
  refine RunD.alt1 8 (by kernel_rfl) (by kernel_rfl) (show PendOk _ c30d0 _ _ [] from trivial) ?_
  (first | (apply AStep.o0 rfl; (· (simp -implicitDefEqProofs; exact ⟨rfl, rfl⟩))) | (apply AStep.A rfl; (· (simp -implicitDefEqProofs; done)); (· (simp -implicitDefEqProofs; exact ⟨rfl, rfl⟩))) | (apply AStep.N rfl; (· (simp -implicitDefEqProofs; done))))
  refine RunD.fin (by kernel_rfl) (show PendOk _ c30d0 _ _ [] from trivial) ?_
  refine Run.mv [0, 1, 2, 3, 4] [(1, .int .i64 k), (2, .int .i64 many), (4, .ptr 0 0), (7, .ptr 1 0), (8, .ptr 2 0), (9, .ptr 3 0)] [.row [.vs (l.map encK) 1, .vs (l.map encW) 1], .row [.vs (more.map encK) 1, .vs (more.map encW) 1], .row [.nils, .nils], .row [.sl 4 0 k 1 none, .nils], .arr ((l.take k).map encK) 1] (by rfl) (by decide) (by simp -implicitDefEqProofs [List.map_take]) (by simp -implicitDefEqProofs [List.map_take]) ?_
  (repeat (first | refine Run.seq ?_ | refine Run.reg ?_ | refine Run.skip ?_ | refine Run.block ?_ | refine Run.endB ?_ | refine Run.opE rfl ?_ | (apply Run.op0 rfl; (· (simp -implicitDefEqProofs [b2, hmin]; exact ⟨rfl, rfl⟩))) | (apply Run.opA rfl; (· (simp -implicitDefEqProofs [b2, hmin]; done)); (· (simp -implicitDefEqProofs [b2, hmin]; exact ⟨rfl, rfl⟩))) | (apply Run.opN rfl; (· (simp -implicitDefEqProofs [b2, hmin]; done))) | (refine Run.condT ?_ ?_; (· (simp -implicitDefEqProofs [b2, hmin]; done))) | (refine Run.condF ?_ ?_; (· (simp -implicitDefEqProofs [b2, hmin]; done))) | refine Run.exit rfl ?_))
  refine Run.mv [0, 1, 2, 3, 5] [(1, .int .i64 k), (2, .int .i64 many), (4, .ptr 0 0), (7, .ptr 1 0), (8, .ptr 2 0), (9, .ptr 3 0)] [.row [.vs (l.map encK) 1, .vs (l.map encW) 1], .row [.vs (more.map encK) 1, .vs (more.map encW) 1], .row [.nils, .nils], .row [.sl 4 0 (k + more.length) 1 none, .nils], .arr ((l.take k ++ more).map encK) 1] (by rfl) (by decide) (by simp -implicitDefEqProofs [List.map_take]) (by simp -implicitDefEqProofs [List.map_take]) ?_
  (repeat (first | refine Run.seq ?_ | refine Run.reg ?_ | refine Run.skip ?_ | refine Run.block ?_ | refine Run.endB ?_ | refine Run.opE rfl ?_ | (apply Run.op0 rfl; (· (simp -implicitDefEqProofs; exact ⟨rfl, rfl⟩))) | (apply Run.opA rfl; (· (simp -implicitDefEqProofs; done)); (· (simp -implicitDefEqProofs; exact ⟨rfl, rfl⟩))) | (apply Run.opN rfl; (· (simp -implicitDefEqProofs; done))) | (refine Run.condT ?_ ?_; (· (simp -implicitDefEqProofs; done))) | (refine Run.condF ?_ ?_; (· (simp -implicitDefEqProofs; done))) | refine Run.exit rfl ?_))
  refine Run.drawn prog_mixed ?_
  show RunD _ c30d1 [0, 1, 2, 3, 4, 5, 6, 7, 8, 9, 10] [] _ _ _
  refine RunD.flow [0, 1, 2, 3, 4, 5, 6, 7] (by kernel_rfl) (by decide +kernel) (by decide +kernel) (by decide) trivial ?_; (repeat (first | refine execQ_E rfl ?_ | (apply execQ_0 rfl; (· rfl); (· (simp -implicitDefEqProofs [hw, hMl, hMl', hmin]; exact ⟨rfl, rfl⟩))) | (apply execQ_A rfl; (· (simp -implicitDefEqProofs [hw, hMl, hMl', hmin]; done)); (· rfl); (· (simp -implicitDefEqProofs [hw, hMl, hMl', hmin]; exact ⟨rfl, rfl⟩))) | (apply execQ_N rfl; (· (simp -implicitDefEqProofs [hw, hMl, hMl', hmin]; done))))); intro hpo
  refine RunD.alt1 8 (by kernel_rfl) (by kernel_rfl) hpo ?_
  (first | (apply AStep.o0 rfl; (· (simp -implicitDefEqProofs [hmin, b3, hn3.symm]; exact ⟨rfl, rfl⟩))) | (apply AStep.A rfl; (· (simp -implicitDefEqProofs [hmin, b3, hn3.symm]; done)); (· (simp -implicitDefEqProofs [hmin, b3, hn3.symm]; exact ⟨rfl, rfl⟩))) | (apply AStep.N rfl; (· (simp -implicitDefEqProofs [hmin, b3, hn3.symm]; done))))
  refine RunD.alt1 9 (by kernel_rfl) (by kernel_rfl) (show PendOk _ c30d1 _ _ [] from trivial) ?_
  (first | (apply AStep.o0 rfl; (· (simp -implicitDefEqProofs; exact ⟨rfl, rfl⟩))) | (apply AStep.A rfl; (· (simp -implicitDefEqProofs; done)); (· (simp -implicitDefEqProofs; exact ⟨rfl, rfl⟩))) | (apply AStep.N rfl; (· (simp -implicitDefEqProofs; done))))
  refine RunD.alt1 10 (by kernel_rfl) (by kernel_rfl) (show PendOk _ c30d1 _ _ [] from trivial) ?_
  (first | (apply AStep.o0 rfl; (· (simp -implicitDefEqProofs; exact ⟨rfl, rfl⟩))) | (apply AStep.A rfl; (· (simp -implicitDefEqProofs; done)); (· (simp -implicitDefEqProofs; exact ⟨rfl, rfl⟩))) | (apply AStep.N rfl; (· (simp -implicitDefEqProofs; done))))
  refine RunD.fin (by kernel_rfl) (show PendOk _ c30d1 _ _ [] from trivial) ?_
  refine Run.mv [0, 1, 2, 3, 5] [(1, .int .i64 k), (2, .int .i64 many), (4, .ptr 0 0), (7, .ptr 1 0), (8, .ptr 2 0), (9, .ptr 3 0)] [.row [.vs (l.map encK) 1, .vs (l.map encW) 1], .row [.vs (more.map encK) 1, .vs (more.map encW) 1], .row [.nils, .nils], .row [.sl 4 0 n3 1 none, .nils], .arr ((l.take k ++ more ++ l.drop M).map encK) 1] (by rfl) (by decide) (by simp -implicitDefEqProofs [List.map_take, List.map_drop]) (by simp -implicitDefEqProofs [List.map_take, List.map_drop]) ?_
  (repeat (first | refine Run.seq ?_ | refine Run.reg ?_ | refine Run.skip ?_ | refine Run.block ?_ | refine Run.endB ?_ | refine Run.opE rfl ?_ | (apply Run.op0 rfl; (· (simp -implicitDefEqProofs; exact ⟨rfl, rfl⟩))) | (apply Run.opA rfl; (· (simp -implicitDefEqProofs; done)); (· (simp -implicitDefEqProofs; exact ⟨rfl, rfl⟩))) | (apply Run.opN rfl; (· (simp -implicitDefEqProofs; done))) | (refine Run.condT ?_ ?_; (· (simp -implicitDefEqProofs; done))) | (refine Run.condF ?_ ?_; (· (simp -implicitDefEqProofs; done))) | refine Run.exit rfl ?_))
  refine Run.drawn prog_mixed ?_
  show RunD _ c30d2 [0, 1, 2, 3, 4, 5, 6, 7, 8] [] _ _ _
  refine RunD.flow [0, 1, 2, 3, 4, 5] (by kernel_rfl) (by decide +kernel) (by decide +kernel) (by decide) trivial ?_; (repeat (first | refine execQ_E rfl ?_ | (apply execQ_0 rfl; (· rfl); (· (simp -implicitDefEqProofs [hkl, hkl']; exact ⟨rfl, rfl⟩))) | (apply execQ_A rfl; (· (simp -implicitDefEqProofs [hkl, hkl']; done)); (· rfl); (· (simp -implicitDefEqProofs [hkl, hkl']; exact ⟨rfl, rfl⟩))) | (apply execQ_N rfl; (· (simp -implicitDefEqProofs [hkl, hkl']; done))))); intro hpo
  refine RunD.alt1 6 (by kernel_rfl) (by kernel_rfl) hpo ?_
  (first | (apply AStep.o0 rfl; (· (simp -implicitDefEqProofs [hmin, c1]; exact ⟨rfl, rfl⟩))) | (apply AStep.A rfl; (· (simp -implicitDefEqProofs [hmin, c1]; done)); (· (simp -implicitDefEqProofs [hmin, c1]; exact ⟨rfl, rfl⟩))) | (apply AStep.N rfl; (· (simp -implicitDefEqProofs [hmin, c1]; done))))
  refine RunD.alt1 7 (by kernel_rfl) (by kernel_rfl) (show PendOk _ c30d2 _ _ [] from trivial) ?_
  (first | (apply AStep.o0 rfl; (· (simp -implicitDefEqProofs; exact ⟨rfl, rfl⟩))) | (apply AStep.A rfl; (· (simp -implicitDefEqProofs; done)); (· (simp -implicitDefEqProofs; exact ⟨rfl, rfl⟩))) | (apply AStep.N rfl; (· (simp -implicitDefEqProofs; done))))
  refine RunD.alt1 8 (by kernel_rfl) (by kernel_rfl) (show PendOk _ c30d2 _ _ [] from trivial) ?_
  (first | (apply AStep.o0 rfl; (· (simp -implicitDefEqProofs; exact ⟨rfl, rfl⟩))) | (apply AStep.A rfl; (· (simp -implicitDefEqProofs; done)); (· (simp -implicitDefEqProofs; exact ⟨rfl, rfl⟩))) | (apply AStep.N rfl; (· (simp -implicitDefEqProofs; done))))
  refine RunD.fin (by kernel_rfl) (show PendOk _ c30d2 _ _ [] from trivial) ?_
  refine Run.mv [0, 1, 2, 3, 4, 5] [(1, .int .i64 k), (2, .int .i64 many), (4, .ptr 0 0), (7, .ptr 1 0), (8, .ptr 2 0), (9, .ptr 3 0)] [.row [.vs (l.map encK) 1, .vs (l.map encW) 1], .row [.vs (more.map encK) 1, .vs (more.map encW) 1], .row [.nils, .nils], .row [.sl 4 0 n3 1 none, .sl 5 0 k 1 none], .arr ((l.take k ++ more ++ l.drop M).map encK) 1, .arr ((l.take k).map encW) 1] (by rfl) (by decide) (by simp -implicitDefEqProofs [List.map_take]) (by simp -implicitDefEqProofs [List.map_take]) ?_
  (repeat (first | refine Run.seq ?_ | refine Run.reg ?_ | refine Run.skip ?_ | refine Run.block ?_ | refine Run.endB ?_ | refine Run.opE rfl ?_ | (apply Run.op0 rfl; (· (simp -implicitDefEqProofs [c2, hmin]; exact ⟨rfl, rfl⟩))) | (apply Run.opA rfl; (· (simp -implicitDefEqProofs [c2, hmin]; done)); (· (simp -implicitDefEqProofs [c2, hmin]; exact ⟨rfl, rfl⟩))) | (apply Run.opN rfl; (· (simp -implicitDefEqProofs [c2, hmin]; done))) | (refine Run.condT ?_ ?_; (· (simp -implicitDefEqProofs [c2, hmin]; done))) | (refine Run.condF ?_ ?_; (· (simp -implicitDefEqProofs [c2, hmin]; done))) | refine Run.exit rfl ?_))
  refine Run.mv [0, 1, 2, 3, 4, 6] [(1, .int .i64 k), (2, .int .i64 many), (4, .ptr 0 0), (7, .ptr 1 0), (8, .ptr 2 0), (9, .ptr 3 0)] [.row [.vs (l.map encK) 1, .vs (l.map encW) 1], .row [.vs (more.map encK) 1, .vs (more.map encW) 1], .row [.nils, .nils], .row [.sl 4 0 n3 1 none, .sl 5 0 (k + more.length) 1 none], .arr ((l.take k ++ more ++ l.drop M).map encK) 1, .arr ((l.take k ++ more).map encW) 1] (by rfl) (by decide) (by simp -implicitDefEqProofs [List.map_take]) (by simp -implicitDefEqProofs [List.map_take]) ?_
  (repeat (first | refine Run.seq ?_ | refine Run.reg ?_ | refine Run.skip ?_ | refine Run.block ?_ | refine Run.endB ?_ | refine Run.opE rfl ?_ | (apply Run.op0 rfl; (· (simp -implicitDefEqProofs; exact ⟨rfl, rfl⟩))) | (apply Run.opA rfl; (· (simp -implicitDefEqProofs; done)); (· (simp -implicitDefEqProofs; exact ⟨rfl, rfl⟩))) | (apply Run.opN rfl; (· (simp -implicitDefEqProofs; done))) | (refine Run.condT ?_ ?_; (· (simp -implicitDefEqProofs; done))) | (refine Run.condF ?_ ?_; (· (simp -implicitDefEqProofs; done))) | refine Run.exit rfl ?_))
  refine Run.drawn prog_mixed ?_
  show RunD _ c30d3 [0, 1, 2, 3, 4, 5, 6, 7, 8, 9, 10] [] _ _ _
  refine RunD.flow [0, 1, 2, 3, 4, 5, 6, 7] (by kernel_rfl) (by decide +kernel) (by decide +kernel) (by decide) trivial ?_; (repeat (first | refine execQ_E rfl ?_ | (apply execQ_0 rfl; (· rfl); (· (simp -implicitDefEqProofs [hw, hMl, hMl', hmin]; exact ⟨rfl, rfl⟩))) | (apply execQ_A rfl; (· (simp -implicitDefEqProofs [hw, hMl, hMl', hmin]; done)); (· rfl); (· (simp -implicitDefEqProofs [hw, hMl, hMl', hmin]; exact ⟨rfl, rfl⟩))) | (apply execQ_N rfl; (· (simp -implicitDefEqProofs [hw, hMl, hMl', hmin]; done))))); intro hpo
  refine RunD.alt1 8 (by kernel_rfl) (by kernel_rfl) hpo ?_
  (first | (apply AStep.o0 rfl; (· (simp -implicitDefEqProofs [hmin, c3, hn3.symm]; exact ⟨rfl, rfl⟩))) | (apply AStep.A rfl; (· (simp -implicitDefEqProofs [hmin, c3, hn3.symm]; done)); (· (simp -implicitDefEqProofs [hmin, c3, hn3.symm]; exact ⟨rfl, rfl⟩))) | (apply AStep.N rfl; (· (simp -implicitDefEqProofs [hmin, c3, hn3.symm]; done))))
  refine RunD.alt1 9 (by kernel_rfl) (by kernel_rfl) (show PendOk _ c30d3 _ _ [] from trivial) ?_
  (first | (apply AStep.o0 rfl; (· (simp -implicitDefEqProofs; exact ⟨rfl, rfl⟩))) | (apply AStep.A rfl; (· (simp -implicitDefEqProofs; done)); (· (simp -implicitDefEqProofs; exact ⟨rfl, rfl⟩))) | (apply AStep.N rfl; (· (simp -implicitDefEqProofs; done))))
  refine RunD.alt1 10 (by kernel_rfl) (by kernel_rfl) (show PendOk _ c30d3 _ _ [] from trivial) ?_
  (first | (apply AStep.o0 rfl; (· (simp -implicitDefEqProofs; exact ⟨rfl, rfl⟩))) | (apply AStep.A rfl; (· (simp -implicitDefEqProofs; done)); (· (simp -implicitDefEqProofs; exact ⟨rfl, rfl⟩))) | (apply AStep.N rfl; (· (simp -implicitDefEqProofs; done))))
  refine RunD.fin (by kernel_rfl) (show PendOk _ c30d3 _ _ [] from trivial) ?_
  refine Run.mv [0, 1, 2, 3, 4, 6] [(1, .int .i64 k), (2, .int .i64 many), (4, .ptr 0 0), (7, .ptr 1 0), (8, .ptr 2 0), (9, .ptr 3 0)] [.row [.vs (l.map encK) 1, .vs (l.map encW) 1], .row [.vs (more.map encK) 1, .vs (more.map encW) 1], .row [.nils, .nils], .row [.sl 4 0 n3 1 none, .sl 5 0 n3 1 none], .arr ((l.take k ++ more ++ l.drop M).map encK) 1, .arr ((l.take k ++ more ++ l.drop M).map encW) 1] (by rfl) (by decide) (by simp -implicitDefEqProofs [List.map_take, List.map_drop]) (by simp -implicitDefEqProofs [List.map_take, List.map_drop]) ?_
  have hR : (l.take k ++ more ++ l.drop M).length = n3 := by simp; omega
  generalize l.take k ++ more ++ l.drop M = R at *
  subst hR
  (repeat (first | refine Run.seq ?_ | refine Run.reg ?_ | refine Run.skip ?_ | refine Run.block ?_ | refine Run.endB ?_ | refine Run.opE rfl ?_ | (apply Run.op0 rfl; (· (simp -implicitDefEqProofs; exact ⟨rfl, rfl⟩))) | (apply Run.opA rfl; (· (simp -implicitDefEqProofs; done)); (· (simp -implicitDefEqProofs; exact ⟨rfl, rfl⟩))) | (apply Run.opN rfl; (· (simp -implicitDefEqProofs; done))) | (refine Run.condT ?_ ?_; (· (simp -implicitDefEqProofs; done))) | (refine Run.condF ?_ ?_; (· (simp -implicitDefEqProofs; done))) | refine Run.exit rfl ?_))
  refine Run.freeze 4 (es := R.map encK) (sz := 1) (by simp) ?_
  refine Run.freeze 5 (es := R.map encW) (sz := 1) (by simp) ?_
  refine Run.mv [2] [(8, .ptr 0 0)] [.row [.vs (R.map encK) 1, .vs (R.map encW) 1]] (by rfl) (by decide) (by simp -implicitDefEqProofs) (by simp -implicitDefEqProofs) ?_
  refine Run.ret0 rfl Try.func30 r30_ok trivial (by simp [r30]; rfl) ?_ (by simp)
  simp [encM]
theorem rcut_at (l more : KV) (hl : l.length ≤ 1000000) (hm : more.length ≤ 10) (k many : Nat) (hk : k + many ≤ l.length) (H : List O) : Tri Try.prog 30 [.agg (encM l), .int .i64 k, .int .i64 many, .agg (encM more)] H (fun v H' => v = .agg (encM (l.take k ++ more ++ l.drop (k + many))) ∧ H' = H) := (rcut_tri l more hl hm k many hk).at rfl rfl H

theorem rput_tri (l : KV) (hl : l.length ≤ 100000) (key : Bs) (v : Int) : Tri Try.prog 17 [.agg (encM l), .str key, .int .i64 v] [] (fun r H => r = .tup [.agg (encM (putL l key v)), .bool (hitB l key)] ∧ H = []) := by
  have hlow := lowB_le l key
  refine Tri.of_run' Try.func17 rfl c17_ok (by simp [Try.ntmps17]) ?_
  (repeat (first | refine Run.seq ?_ | refine Run.reg ?_ | refine Run.skip ?_ | refine Run.block ?_ | refine Run.endB ?_ | refine Run.opE rfl ?_ | (apply Run.op0 rfl; (· (simp -implicitDefEqProofs [encM]; exact ⟨rfl, rfl⟩))) | (apply Run.opA rfl; (· (simp -implicitDefEqProofs [encM]; done)); (· (simp -implicitDefEqProofs [encM]; exact ⟨rfl, rfl⟩))) | (apply Run.opN rfl; (· (simp -implicitDefEqProofs [encM]; done))) | (refine Run.condT ?_ ?_; (· (simp -implicitDefEqProofs [encM]; done))) | (refine Run.condF ?_ ?_; (· (simp -implicitDefEqProofs [encM]; done))) | refine Run.exit rfl ?_))
  refine Run.opC rfl rfl rfl (by simpa [encM] using place_at l (by omega) key _) ?_
  rintro v0 h' ⟨rfl, rfl⟩
  cases hh : hitB l key with
  | true =>
    obtain ⟨x, hx, hk⟩ := hitB_some hh
    have hlt := (List.getElem?_eq_some_iff.1 hx).1
    have hp : putL l key v = l.take (lowB l key) ++ [(key, v)] ++ l.drop (lowB l key + 1) := by
      rw [putL, if_pos hh, List.set_eq_take_append_cons_drop, if_pos hlt]; simp
    have hc := rcut_at l [(key, v)] (by omega) (by simp) (lowB l key) 1 (by omega)
    rw [← hp] at hc
    (repeat (first | refine Run.seq ?_ | refine Run.reg ?_ | refine Run.skip ?_ | refine Run.block ?_ | refine Run.endB ?_ | refine Run.opE rfl ?_ | (apply Run.op0 rfl; (· (simp -implicitDefEqProofs [hh]; exact ⟨rfl, rfl⟩))) | (apply Run.opA rfl; (· (simp -implicitDefEqProofs [hh]; done)); (· (simp -implicitDefEqProofs [hh]; exact ⟨rfl, rfl⟩))) | (apply Run.opN rfl; (· (simp -implicitDefEqProofs [hh]; done))) | (refine Run.condT ?_ ?_; (· (simp -implicitDefEqProofs [hh]; done))) | (refine Run.condF ?_ ?_; (· (simp -implicitDefEqProofs [hh]; done))) | refine Run.exit rfl ?_))
    refine Run.freeze 2 (es := [(key, v)].map encK) (sz := 1) (by simp [encK]) ?_
    refine Run.freeze 3 (es := [(key, v)].map encW) (sz := 1) (by simp [encW]) ?_
    refine Run.mv [1] [(6, .ptr 0 0), (9, .bool true), (18, .agg (encM l)), (19, .int .i64 (lowB l key)), (20, .int .i64 1), (25, .agg (encM [(key, v)]))] [.row [.nils, .nils]] (by rfl) (by decide) (by simp -implicitDefEqProofs [encM, encK, encW]) (by simp -implicitDefEqProofs [encM, encK, encW]) ?_
    refine Run.opC rfl rfl rfl (by simpa using hc _) ?_
    rintro v0 h' ⟨rfl, rfl⟩
    (repeat (first | refine Run.seq ?_ | refine Run.reg ?_ | refine Run.skip ?_ | refine Run.block ?_ | refine Run.endB ?_ | refine Run.opE rfl ?_ | (apply Run.op0 rfl; (· (simp -implicitDefEqProofs [encM]; exact ⟨rfl, rfl⟩))) | (apply Run.opA rfl; (· (simp -implicitDefEqProofs [encM]; done)); (· (simp -implicitDefEqProofs [encM]; exact ⟨rfl, rfl⟩))) | (apply Run.opN rfl; (· (simp -implicitDefEqProofs [encM]; done))) | (refine Run.condT ?_ ?_; (· (simp -implicitDefEqProofs [encM]; done))) | (refine Run.condF ?_ ?_; (· (simp -implicitDefEqProofs [encM]; done))) | refine Run.exit rfl ?_))
    refine Run.mv [0] [(6, .ptr 0 0), (7, .bool true)] [.row (encM (putL l key v))] (by rfl) (by decide) (by simp -implicitDefEqProofs [encM]) (by simp -implicitDefEqProofs [encM]) ?_
    refine Run.ret0 rfl Try.func17 r17_ok trivial (by simp [r17, encM]; rfl) ?_ (by simp [encM])
    simp [encM]
  | false =>
    have hp : putL l key v = l.take (lowB l key) ++ [(key, v)] ++ l.drop (lowB l key + 0) := by
      rw [putL, if_neg (by simp [hh])]; simp
    have hc := rcut_at l [(key, v)] (by omega) (by simp) (lowB l key) 0 (by omega)
    rw [← hp] at hc
    (repeat (first | refine Run.seq ?_ | refine Run.reg ?_ | refine Run.skip ?_ | refine Run.block ?_ | refine Run.endB ?_ | refine Run.opE rfl ?_ | (apply Run.op0 rfl; (· (simp -implicitDefEqProofs [hh]; exact ⟨rfl, rfl⟩))) | (apply Run.opA rfl; (· (simp -implicitDefEqProofs [hh]; done)); (· (simp -implicitDefEqProofs [hh]; exact ⟨rfl, rfl⟩))) | (apply Run.opN rfl; (· (simp -implicitDefEqProofs [hh]; done))) | (refine Run.condT ?_ ?_; (· (simp -implicitDefEqProofs [hh]; done))) | (refine Run.condF ?_ ?_; (· (simp -implicitDefEqProofs [hh]; done))) | refine Run.exit rfl ?_))
    refine Run.freeze 2 (es := [(key, v)].map encK) (sz := 1) (by simp [encK]) ?_
    refine Run.freeze 3 (es := [(key, v)].map encW) (sz := 1) (by simp [encW]) ?_
    refine Run.mv [1] [(6, .ptr 0 0), (9, .bool false), (18, .agg (encM l)), (19, .int .i64 (lowB l key)), (20, .int .i64 0), (25, .agg (encM [(key, v)]))] [.row [.nils, .nils]] (by rfl) (by decide) (by simp -implicitDefEqProofs [encM, encK, encW]) (by simp -implicitDefEqProofs [encM, encK, encW]) ?_
    refine Run.opC rfl rfl rfl (by simpa using hc _) ?_
    rintro v0 h' ⟨rfl, rfl⟩
    (repeat (first | refine Run.seq ?_ | refine Run.reg ?_ | refine Run.skip ?_ | refine Run.block ?_ | refine Run.endB ?_ | refine Run.opE rfl ?_ | (apply Run.op0 rfl; (· (simp -implicitDefEqProofs [encM]; exact ⟨rfl, rfl⟩))) | (apply Run.opA rfl; (· (simp -implicitDefEqProofs [encM]; done)); (· (simp -implicitDefEqProofs [encM]; exact ⟨rfl, rfl⟩))) | (apply Run.opN rfl; (· (simp -implicitDefEqProofs [encM]; done))) | (refine Run.condT ?_ ?_; (· (simp -implicitDefEqProofs [encM]; done))) | (refine Run.condF ?_ ?_; (· (simp -implicitDefEqProofs [encM]; done))) | refine Run.exit rfl ?_))
    refine Run.mv [0] [(6, .ptr 0 0), (7, .bool false)] [.row (encM (putL l key v))] (by rfl) (by decide) (by simp -implicitDefEqProofs [encM]) (by simp -implicitDefEqProofs [encM]) ?_
    refine Run.ret0 rfl Try.func17 r17_ok trivial (by simp [r17, encM]; rfl) ?_ (by simp [encM])
    simp [encM]
theorem rput_at (l : KV) (hl : l.length ≤ 100000) (key : Bs) (v : Int) (H : List O) : Tri Try.prog 17 [.agg (encM l), .str key, .int .i64 v] H (fun r H' => r = .tup [.agg (encM (putL l key v)), .bool (hitB l key)] ∧ H' = H) := (rput_tri l hl key v).at rfl rfl H

theorem rdrop_tri (l : KV) (hl : l.length ≤ 100000) (key : Bs) : Tri Try.prog 20 [.agg (encM l), .str key] [] (fun r H => r = .tup [.agg (encM (dropL l key)), .bool (hitB l key)] ∧ H = []) := by
  have hlow := lowB_le l key
  refine Tri.of_run' Try.func20 rfl c20_ok (by simp [Try.ntmps20]) ?_
  (repeat (first | refine Run.seq ?_ | refine Run.reg ?_ | refine Run.skip ?_ | refine Run.block ?_ | refine Run.endB ?_ | refine Run.opE rfl ?_ | (apply Run.op0 rfl; (· (simp -implicitDefEqProofs [encM]; exact ⟨rfl, rfl⟩))) | (apply Run.opA rfl; (· (simp -implicitDefEqProofs [encM]; done)); (· (simp -implicitDefEqProofs [encM]; exact ⟨rfl, rfl⟩))) | (apply Run.opN rfl; (· (simp -implicitDefEqProofs [encM]; done))) | (refine Run.condT ?_ ?_; (· (simp -implicitDefEqProofs [encM]; done))) | (refine Run.condF ?_ ?_; (· (simp -implicitDefEqProofs [encM]; done))) | refine Run.exit rfl ?_))
  refine Run.opC rfl rfl rfl (by simpa [encM] using place_at l (by omega) key _) ?_
  rintro v0 h' ⟨rfl, rfl⟩
  cases hh : hitB l key with
  | false =>
    have hp : dropL l key = l := by rw [dropL, if_neg (by simp [hh])]
    rw [hp]
    (repeat (first | refine Run.seq ?_ | refine Run.reg ?_ | refine Run.skip ?_ | refine Run.block ?_ | refine Run.endB ?_ | refine Run.opE rfl ?_ | (apply Run.op0 rfl; (· (simp -implicitDefEqProofs [hh]; exact ⟨rfl, rfl⟩))) | (apply Run.opA rfl; (· (simp -implicitDefEqProofs [hh]; done)); (· (simp -implicitDefEqProofs [hh]; exact ⟨rfl, rfl⟩))) | (apply Run.opN rfl; (· (simp -implicitDefEqProofs [hh]; done))) | (refine Run.condT ?_ ?_; (· (simp -implicitDefEqProofs [hh]; done))) | (refine Run.condF ?_ ?_; (· (simp -implicitDefEqProofs [hh]; done))) | refine Run.exit rfl ?_))
    refine Run.mv [1] [(4, .ptr 0 0), (5, .bool false)] [.row (encM l)] (by rfl) (by decide) (by simp -implicitDefEqProofs [encM]) (by simp -implicitDefEqProofs [encM]) ?_
    refine Run.ret0 rfl Try.func20 r20_ok trivial (by simp [r20, encM]; rfl) ?_ (by simp [encM])
    simp [encM]
  | true =>
    obtain ⟨x, hx, hk⟩ := hitB_some hh
    have hlt := (List.getElem?_eq_some_iff.1 hx).1
    have hp : dropL l key = l.take (lowB l key) ++ [] ++ l.drop (lowB l key + 1) := by
      rw [dropL, if_pos hh]; simp
    have hc := rcut_at l [] (by omega) (by simp) (lowB l key) 1 (by omega)
    rw [← hp] at hc
    have hnil : VLe (V.agg [.nils, .nils]) (.agg [.vs [] 1, .vs [] 1]) := VLe.agg ⟨VLe.nils 1, VLe.nils 1, trivial⟩
    (repeat (first | refine Run.seq ?_ | refine Run.reg ?_ | refine Run.skip ?_ | refine Run.block ?_ | refine Run.endB ?_ | refine Run.opE rfl ?_ | (apply Run.op0 rfl; (· (simp -implicitDefEqProofs [hh]; exact ⟨rfl, rfl⟩))) | (apply Run.opA rfl; (· (simp -implicitDefEqProofs [hh]; done)); (· (simp -implicitDefEqProofs [hh]; exact ⟨rfl, rfl⟩))) | (apply Run.opN rfl; (· (simp -implicitDefEqProofs [hh]; done))) | (refine Run.condT ?_ ?_; (· (simp -implicitDefEqProofs [hh]; done))) | (refine Run.condF ?_ ?_; (· (simp -implicitDefEqProofs [hh]; done))) | refine Run.exit rfl ?_))
    refine Run.mv [1] [(4, .ptr 0 0), (17, .agg (encM l)), (18, .int .i64 (lowB l key)), (19, .agg (encM []))] [.row [.nils, .nils]] (by rfl) (by decide) (by simp -implicitDefEqProofs [encM, hnil]) (by simp -implicitDefEqProofs [encM, hnil]) ?_
    refine Run.opC rfl rfl rfl (by simpa using hc _) ?_
    rintro v0 h' ⟨rfl, rfl⟩
    (repeat (first | refine Run.seq ?_ | refine Run.reg ?_ | refine Run.skip ?_ | refine Run.block ?_ | refine Run.endB ?_ | refine Run.opE rfl ?_ | (apply Run.op0 rfl; (· (simp -implicitDefEqProofs [encM]; exact ⟨rfl, rfl⟩))) | (apply Run.opA rfl; (· (simp -implicitDefEqProofs [encM]; done)); (· (simp -implicitDefEqProofs [encM]; exact ⟨rfl, rfl⟩))) | (apply Run.opN rfl; (· (simp -implicitDefEqProofs [encM]; done))) | (refine Run.condT ?_ ?_; (· (simp -implicitDefEqProofs [encM]; done))) | (refine Run.condF ?_ ?_; (· (simp -implicitDefEqProofs [encM]; done))) | refine Run.exit rfl ?_))
    refine Run.mv [0] [(4, .ptr 0 0), (5, .bool true)] [.row (encM (dropL l key))] (by rfl) (by decide) (by simp -implicitDefEqProofs [encM]) (by simp -implicitDefEqProofs [encM]) ?_
    refine Run.ret0 rfl Try.func20 r20_ok trivial (by simp [r20, encM]; rfl) ?_ (by simp [encM])
    simp [encM]
theorem rdrop_at (l : KV) (hl : l.length ≤ 100000) (key : Bs) (H : List O) : Tri Try.prog 20 [.agg (encM l), .str key] H (fun r H' => r = .tup [.agg (encM (dropL l key)), .bool (hitB l key)] ∧ H' = H) := (rdrop_tri l hl key).at rfl rfl H

/-- so many at the most -/
def mostN (l : KV) (key : Bs) (most : Int) : Nat := (max 0 (min most ((l.length : Int) - lowB l key))).toNat
theorem rfrom_tri (l : KV) (hl : l.length ≤ 100000) (key : Bs) (most : Int) (hms : -9223372036854775808 ≤ most) (hms2 : most ≤ 9223372036854775807) : Tri Try.prog 9 [.agg (encM l), .str key, .int .i64 most] [] (fun r H => r = .agg (encM ((l.drop (lowB l key)).take (mostN l key most))) ∧ H = []) := by
  have hlow := lowB_le l key
  refine Tri.of_run' Try.func9 rfl c9_ok (by simp [Try.ntmps9]) ?_
  (repeat (first | refine Run.seq ?_ | refine Run.reg ?_ | refine Run.skip ?_ | refine Run.block ?_ | refine Run.endB ?_ | refine Run.opE rfl ?_ | (apply Run.op0 rfl; (· (simp -implicitDefEqProofs [encM]; exact ⟨rfl, rfl⟩))) | (apply Run.opA rfl; (· (simp -implicitDefEqProofs [encM]; done)); (· (simp -implicitDefEqProofs [encM]; exact ⟨rfl, rfl⟩))) | (apply Run.opN rfl; (· (simp -implicitDefEqProofs [encM]; done))) | (refine Run.condT ?_ ?_; (· (simp -implicitDefEqProofs [encM]; done))) | (refine Run.condF ?_ ?_; (· (simp -implicitDefEqProofs [encM]; done))) | refine Run.exit rfl ?_))
  refine Run.opC rfl rfl rfl (by simpa [encM] using place_at l (by omega) key _) ?_
  rintro v0 h' ⟨rfl, rfl⟩
  have hw1 : IntKind.i64.wrap ((l.length : Int) - lowB l key) = (l.length : Int) - lowB l key := wrap_small (by omega) (by omega)
  have hmm : (if 0 < (if (l.length : Int) - lowB l key < most then (l.length : Int) - lowB l key else most) then (if (l.length : Int) - lowB l key < most then (l.length : Int) - lowB l key else most) else 0) = (mostN l key most : Int) := by
    unfold mostN; omega
  obtain ⟨M, hM⟩ : ∃ M, M = lowB l key + mostN l key most := ⟨_, rfl⟩
  have hMl : M ≤ l.length := by rw [hM]; unfold mostN; omega
  have hMl' : (M : Int) ≤ l.length := by omega
  have hlM : lowB l key ≤ M := by omega
  have hlM' : (lowB l key : Int) ≤ M := by omega
  have hw2 : IntKind.i64.wrap ((lowB l key : Int) + mostN l key most) = (M : Int) := by rw [wrap_small (by omega) (by omega)]; omega
  have hsl : ∀ {β : Type} (f : Bs × Int → β), List.drop (lowB l key) (List.take M (l.map f)) = ((l.drop (lowB l key)).take (mostN l key most)).map f := by
    intro β f
    rw [List.drop_take, ← List.map_drop, ← List.map_take]; congr 2; omega
  generalize mostN l key most = mn at *
  generalize lowB l key = low at *
  (repeat (first | refine Run.seq ?_ | refine Run.reg ?_ | refine Run.skip ?_ | refine Run.block ?_ | refine Run.endB ?_ | refine Run.opE rfl ?_ | (apply Run.op0 rfl; (· (simp -implicitDefEqProofs [hw1, hmm]; exact ⟨rfl, rfl⟩))) | (apply Run.opA rfl; (· (simp -implicitDefEqProofs [hw1, hmm]; done)); (· (simp -implicitDefEqProofs [hw1, hmm]; exact ⟨rfl, rfl⟩))) | (apply Run.opN rfl; (· (simp -implicitDefEqProofs [hw1, hmm]; done))) | (refine Run.condT ?_ ?_; (· (simp -implicitDefEqProofs [hw1, hmm]; done))) | (refine Run.condF ?_ ?_; (· (simp -implicitDefEqProofs [hw1, hmm]; done))) | refine Run.exit rfl ?_))
  refine Run.drawn prog_mixed ?_
  show RunD _ c9d0 [0, 1, 2, 3, 4, 5, 6, 7, 8, 9, 10, 11, 12, 13, 14, 15] [] _ _ _
  refine RunD.flow [0, 1, 2, 3, 4, 5, 6, 7, 8, 9, 10, 11, 12, 13, 14] (by kernel_rfl) (by decide +kernel) (by decide +kernel) (by decide) trivial ?_; (repeat (first | refine execQ_E rfl ?_ | (apply execQ_0 rfl; (· rfl); (· (simp -implicitDefEqProofs [hw2, hMl, hMl', hlM, hlM']; exact ⟨rfl, rfl⟩))) | (apply execQ_A rfl; (· (simp -implicitDefEqProofs [hw2, hMl, hMl', hlM, hlM']; done)); (· rfl); (· (simp -implicitDefEqProofs [hw2, hMl, hMl', hlM, hlM']; exact ⟨rfl, rfl⟩))) | (apply execQ_N rfl; (· (simp -implicitDefEqProofs [hw2, hMl, hMl', hlM, hlM']; done))))); intro hpo
  refine RunD.alt1 15 (by kernel_rfl) (by kernel_rfl) hpo ?_
  (first | (apply AStep.o0 rfl; (· (simp -implicitDefEqProofs; exact ⟨rfl, rfl⟩))) | (apply AStep.A rfl; (· (simp -implicitDefEqProofs; done)); (· (simp -implicitDefEqProofs; exact ⟨rfl, rfl⟩))) | (apply AStep.N rfl; (· (simp -implicitDefEqProofs; done))))
  refine RunD.fin (by kernel_rfl) (show PendOk _ c9d0 _ _ [] from trivial) ?_
  refine Run.mv [1] [(6, .ptr 0 0)] [.row (encM ((l.drop low).take mn))] (by rfl) (by decide) (by simp -implicitDefEqProofs [encM, hsl]) (by simp -implicitDefEqProofs [encM, hsl]) ?_
  refine Run.ret0 rfl Try.func9 r9_ok trivial (by simp [r9, encM]; rfl) ?_ (by simp [encM])
  simp [encM]
theorem rfrom_at (l : KV) (hl : l.length ≤ 100000) (key : Bs) (most : Int) (hms : -9223372036854775808 ≤ most) (hms2 : most ≤ 9223372036854775807) (H : List O) : Tri Try.prog 9 [.agg (encM l), .str key, .int .i64 most] H (fun r H' => r = .agg (encM ((l.drop (lowB l key)).take (mostN l key most))) ∧ H' = H) := (rfrom_tri l hl key most hms hms2).at rfl rfl H

end Go.Proofs.Ytoopckhogehdmaa
