/-
  Layer 07, part Bs: where a key stands (string values).
-/
import Derived.Test.YtoopckhogehdmaaSorBi
namespace Go.Proofs.Ytoopckhogehdmaa
open Sx Go
set_option maxRecDepth 100000
set_option linter.unusedSimpArgs false
set_option linter.unusedVariables false
set_option linter.unnecessarySimpa false
attribute [local simp] boundsC appendG appendO copyV srcC guardB isCall opStep Opd.ev put readAt aBin aUn args0 V.celled V.ones V.one V.cells putAt bounds bound1 elemsOf srcOf appendV fillAt fillEl V.pures V.pure unwind evs ARes.ev mkRes V.ren V.renL O.ren eqCells eq1 aEq aMM hasTy hasTyN okTy mmGo Known HLe OLe VsLe.refl VLe.refl VLe.cap Stay VsLe V.frz V.frzL O.frz fr clearV rn KnownR Objs OLeO ObjsE nm back setAll ren_ite take_map_len List.take_of_length_le
attribute [local simp ↓] upd_app tl_cons tl_nil

def encItS (x : Bs × Bs) : List V := [.str x.1, V.str x.2]
theorem encItS_ren (ρ) (x : Bs × Bs) : V.renL ρ (encItS x) = encItS x := rfl
theorem encItS_ones (x) : V.ones (encItS x) = true := rfl
theorem encItS_len (x) : (encItS x).length = 2 := rfl
theorem encItS_take (x) : (encItS x).take 2 = encItS x := rfl
attribute [local simp] encItS_ren encItS_ones encItS_len encItS_take
def mapHs (l : List (Bs × Bs)) : List O := [.row [.bool true, .sl 1 0 l.length 2 none], .arr (l.map encItS) 2]
def mapKs (l : List (Bs × Bs)) : List O := [.row [.bool true, .sl 2 0 l.length 2 none], .gone, .arr (l.map encItS) 2]

theorem fcmps_tri (x : Bs × Bs) (key : Bs) : Tri Try.prog 42 [.agg (encItS x), .str key] [] (fun v H => v = .int .i64 (cmpI x.1 key) ∧ H = []) := by
  refine Tri.of_run' Try.func42 rfl c42_ok (by simp [Try.ntmps42]) ?_
  (repeat (first | refine Run.seq ?_ | refine Run.reg ?_ | refine Run.skip ?_ | refine Run.block ?_ | refine Run.endB ?_ | refine Run.opE rfl ?_ | (apply Run.op0 rfl; (· (simp -implicitDefEqProofs [encItS]; exact ⟨rfl, rfl⟩))) | (apply Run.opA rfl; (· (simp -implicitDefEqProofs [encItS]; done)); (· (simp -implicitDefEqProofs [encItS]; exact ⟨rfl, rfl⟩))) | (apply Run.opN rfl; (· (simp -implicitDefEqProofs [encItS]; done))) | (refine Run.condT ?_ ?_; (· (simp -implicitDefEqProofs [encItS]; done))) | (refine Run.condF ?_ ?_; (· (simp -implicitDefEqProofs [encItS]; done))) | refine Run.exit rfl ?_))
  refine Run.opC rfl rfl rfl (cmp_at x.1 key _) ?_
  rintro v h' ⟨rfl, rfl⟩
  (repeat (first | refine Run.seq ?_ | refine Run.reg ?_ | refine Run.skip ?_ | refine Run.block ?_ | refine Run.endB ?_ | refine Run.opE rfl ?_ | (apply Run.op0 rfl; (· (simp -implicitDefEqProofs; exact ⟨rfl, rfl⟩))) | (apply Run.opA rfl; (· (simp -implicitDefEqProofs; done)); (· (simp -implicitDefEqProofs; exact ⟨rfl, rfl⟩))) | (apply Run.opN rfl; (· (simp -implicitDefEqProofs; done))) | (refine Run.condT ?_ ?_; (· (simp -implicitDefEqProofs; done))) | (refine Run.condF ?_ ?_; (· (simp -implicitDefEqProofs; done))) | refine Run.exit rfl ?_))
  refine Run.mv [] [(4, .int .i64 (cmpI x.1 key))] [] (by rfl) (by decide) (by simp -implicitDefEqProofs) (by simp -implicitDefEqProofs) ?_
  refine Run.retI Try.func42 r42_ok trivial (by simp -implicitDefEqProofs [r42]; rfl) (by simp ) ?_ (by simp -implicitDefEqProofs ) (by simp -implicitDefEqProofs )
  simp
theorem fcmps_at (x : Bs × Bs) (key : Bs) (H : List O) : Tri Try.prog 42 [.agg (encItS x), .str key] H (fun v H' => v = .int .i64 (cmpI x.1 key) ∧ H' = H) := (fcmps_tri x key).at rfl rfl H

theorem bss_tri (l : List (Bs × Bs)) (hl : l.length ≤ 100000) (hr : RiseK l) (key : Bs) : Tri Try.prog 41 [.sl 0 0 l.length 2 none, .str key, .fn 42 []] [.arr (l.map encItS) 2] (fun v H => v = .tup [.int .i64 (lowB l key), .bool (hitB l key)] ∧ H = [.arr (l.map encItS) 2]) := by
  refine Tri.of_run' Try.func41 rfl c41_ok (by simp [Try.ntmps41]) ?_
  (repeat (first | refine Run.seq ?_ | refine Run.reg ?_ | refine Run.skip ?_ | refine Run.block ?_ | refine Run.endB ?_ | refine Run.opE rfl ?_ | (apply Run.op0 rfl; (· (simp -implicitDefEqProofs; exact ⟨rfl, rfl⟩))) | (apply Run.opA rfl; (· (simp -implicitDefEqProofs; done)); (· (simp -implicitDefEqProofs; exact ⟨rfl, rfl⟩))) | (apply Run.opN rfl; (· (simp -implicitDefEqProofs; done))) | (refine Run.condT ?_ ?_; (· (simp -implicitDefEqProofs; done))) | (refine Run.condF ?_ ?_; (· (simp -implicitDefEqProofs; done))) | refine Run.exit rfl ?_))
  refine Run.loopC [0] (fun (a : Nat × Nat) => ([(0, .sl 0 0 l.length 2 none), (1, .str key), (2, .fn 42 []), (8, .int .i64 l.length), (9, .int .i64 a.1), (10, .int .i64 a.2)], [.arr (l.map encItS) 2]))
    (fun a => a.1 ≤ a.2 ∧ a.2 ≤ l.length ∧ a.1 ≤ lowB l key ∧ lowB l key ≤ a.2) (fun a => a.2 - a.1) (0, l.length) (by simp [lowB_le]) (by rfl) (by decide) (by simp) (by simp) ?_
  rintro ⟨i, j⟩ ⟨hij, hj, h1, h2⟩ ih
  simp only at hij hj h1 h2 ih ⊢
  by_cases hlt : i < j
  · obtain ⟨n, hn⟩ : ∃ n, n = i + j := ⟨_, rfl⟩
    have hw : IntKind.i64.wrap ((i : Int) + j) = (n : Int) := by rw [wrap_small (by omega) (by omega)]; omega
    have hu := wrapU n (by omega)
    have hs := shr1 n (by omega)
    obtain ⟨m, hm⟩ : ∃ m, m = n / 2 := ⟨_, rfl⟩
    rw [← hm] at hs
    have hwm : IntKind.i64.wrap (m : Int) = (m : Int) := wrap_small (by omega) (by omega)
    have hml : m < l.length := by omega
    have hwm1 := wrap_small (n := (m : Int) + 1) (by omega) (by omega)
    obtain ⟨x, hx, hxi, -, -⟩ := getL hml
    have hcut := lowB_cut hr key hx
    have hlt' : (i : Int) < j := by omega
    have hf := fcmps_tri x key
    simp only [encItS] at hf
    (repeat (first | refine Run.seq ?_ | refine Run.reg ?_ | refine Run.skip ?_ | refine Run.block ?_ | refine Run.endB ?_ | refine Run.opE rfl ?_ | (apply Run.op0 rfl; (· (simp -implicitDefEqProofs [hlt', hlt, hw, hu, hs, hwm, hml, hx, hxi, encItS]; exact ⟨rfl, rfl⟩))) | (apply Run.opA rfl; (· (simp -implicitDefEqProofs [hlt', hlt, hw, hu, hs, hwm, hml, hx, hxi, encItS]; done)); (· (simp -implicitDefEqProofs [hlt', hlt, hw, hu, hs, hwm, hml, hx, hxi, encItS]; exact ⟨rfl, rfl⟩))) | (apply Run.opN rfl; (· (simp -implicitDefEqProofs [hlt', hlt, hw, hu, hs, hwm, hml, hx, hxi, encItS]; done))) | (refine Run.condT ?_ ?_; (· (simp -implicitDefEqProofs [hlt', hlt, hw, hu, hs, hwm, hml, hx, hxi, encItS]; done))) | (refine Run.condF ?_ ?_; (· (simp -implicitDefEqProofs [hlt', hlt, hw, hu, hs, hwm, hml, hx, hxi, encItS]; done))) | refine Run.exit rfl ?_))
    refine Run.opC rfl rfl rfl (hf.at rfl rfl _) ?_
    rintro v h' ⟨rfl, rfl⟩
    by_cases hc : cmpI x.1 key < 0
    · have := hcut.1 ((cmpI_lt _ _).1 hc)
      (repeat (first | refine Run.seq ?_ | refine Run.reg ?_ | refine Run.skip ?_ | refine Run.block ?_ | refine Run.endB ?_ | refine Run.opE rfl ?_ | (apply Run.op0 rfl; (· (simp -implicitDefEqProofs [hc]; exact ⟨rfl, rfl⟩))) | (apply Run.opA rfl; (· (simp -implicitDefEqProofs [hc]; done)); (· (simp -implicitDefEqProofs [hc]; exact ⟨rfl, rfl⟩))) | (apply Run.opN rfl; (· (simp -implicitDefEqProofs [hc]; done))) | (refine Run.condT ?_ ?_; (· (simp -implicitDefEqProofs [hc]; done))) | (refine Run.condF ?_ ?_; (· (simp -implicitDefEqProofs [hc]; done))) | refine Run.exit rfl ?_))
      refine Run.mv [0] _ _ (by rfl) (by decide) (by simp -implicitDefEqProofs [hwm1, encItS]) (by simp -implicitDefEqProofs [hwm1, encItS]) (ih ((m + 1, j)) ?_ ?_)
      · simp only; omega
      · simp only; omega
    · have := hcut.2 (by simpa [cmpI_lt] using hc)
      (repeat (first | refine Run.seq ?_ | refine Run.reg ?_ | refine Run.skip ?_ | refine Run.block ?_ | refine Run.endB ?_ | refine Run.opE rfl ?_ | (apply Run.op0 rfl; (· (simp -implicitDefEqProofs [hc]; exact ⟨rfl, rfl⟩))) | (apply Run.opA rfl; (· (simp -implicitDefEqProofs [hc]; done)); (· (simp -implicitDefEqProofs [hc]; exact ⟨rfl, rfl⟩))) | (apply Run.opN rfl; (· (simp -implicitDefEqProofs [hc]; done))) | (refine Run.condT ?_ ?_; (· (simp -implicitDefEqProofs [hc]; done))) | (refine Run.condF ?_ ?_; (· (simp -implicitDefEqProofs [hc]; done))) | refine Run.exit rfl ?_))
      refine Run.mv [0] _ _ (by rfl) (by decide) (by simp -implicitDefEqProofs [encItS]) (by simp -implicitDefEqProofs [encItS]) (ih ((i, m)) ?_ ?_)
      · simp only; omega
      · simp only; omega
  · have hp : i = lowB l key := by omega
    have hlt' : ¬ (i : Int) < j := by omega
    by_cases hpl : i < l.length
    · obtain ⟨x, hx, hxi, -, -⟩ := getL hpl
      have hf := fcmps_tri x key
      simp only [encItS] at hf
      have hh : hitB l key = decide (cmpI x.1 key = 0) := by rw [hitB, ← hp, hx]; simp only [cmpI_eq]
      have hpl' : (i : Int) < l.length := by omega
      (repeat (first | refine Run.seq ?_ | refine Run.reg ?_ | refine Run.skip ?_ | refine Run.block ?_ | refine Run.endB ?_ | refine Run.opE rfl ?_ | (apply Run.op0 rfl; (· (simp -implicitDefEqProofs [hlt, hlt', hpl, hpl', hx, hxi, encItS]; exact ⟨rfl, rfl⟩))) | (apply Run.opA rfl; (· (simp -implicitDefEqProofs [hlt, hlt', hpl, hpl', hx, hxi, encItS]; done)); (· (simp -implicitDefEqProofs [hlt, hlt', hpl, hpl', hx, hxi, encItS]; exact ⟨rfl, rfl⟩))) | (apply Run.opN rfl; (· (simp -implicitDefEqProofs [hlt, hlt', hpl, hpl', hx, hxi, encItS]; done))) | (refine Run.condT ?_ ?_; (· (simp -implicitDefEqProofs [hlt, hlt', hpl, hpl', hx, hxi, encItS]; done))) | (refine Run.condF ?_ ?_; (· (simp -implicitDefEqProofs [hlt, hlt', hpl, hpl', hx, hxi, encItS]; done))) | refine Run.exit rfl ?_))
      refine Run.opC rfl (by simp) rfl (hf.at rfl rfl _) ?_
      rintro v h' ⟨rfl, rfl⟩
      (repeat (first | refine Run.seq ?_ | refine Run.reg ?_ | refine Run.skip ?_ | refine Run.block ?_ | refine Run.endB ?_ | refine Run.opE rfl ?_ | (apply Run.op0 rfl; (· (simp -implicitDefEqProofs; exact ⟨rfl, rfl⟩))) | (apply Run.opA rfl; (· (simp -implicitDefEqProofs; done)); (· (simp -implicitDefEqProofs; exact ⟨rfl, rfl⟩))) | (apply Run.opN rfl; (· (simp -implicitDefEqProofs; done))) | (refine Run.condT ?_ ?_; (· (simp -implicitDefEqProofs; done))) | (refine Run.condF ?_ ?_; (· (simp -implicitDefEqProofs; done))) | refine Run.exit rfl ?_))
      refine Run.mv [0] [(6, .int .i64 i), (7, .bool (hitB l key))] [.arr (l.map encItS) 2] (by rfl) (by decide) (by simp -implicitDefEqProofs [hh, encItS]) (by simp -implicitDefEqProofs [hh, encItS]) ?_
      refine Run.retI Try.func41 r41_ok trivial (by simp -implicitDefEqProofs [r41]; rfl) (by simp ) ?_ (by simp -implicitDefEqProofs ) (by simp -implicitDefEqProofs )
      simp [hp]
    · have hh : hitB l key = false := by
        have : l[lowB l key]? = none := by rw [List.getElem?_eq_none_iff]; omega
        rw [hitB, this]
      have hpl' : ¬ (i : Int) < l.length := by omega
      (repeat (first | refine Run.seq ?_ | refine Run.reg ?_ | refine Run.skip ?_ | refine Run.block ?_ | refine Run.endB ?_ | refine Run.opE rfl ?_ | (apply Run.op0 rfl; (· (simp -implicitDefEqProofs [hlt, hlt', hpl, hpl']; exact ⟨rfl, rfl⟩))) | (apply Run.opA rfl; (· (simp -implicitDefEqProofs [hlt, hlt', hpl, hpl']; done)); (· (simp -implicitDefEqProofs [hlt, hlt', hpl, hpl']; exact ⟨rfl, rfl⟩))) | (apply Run.opN rfl; (· (simp -implicitDefEqProofs [hlt, hlt', hpl, hpl']; done))) | (refine Run.condT ?_ ?_; (· (simp -implicitDefEqProofs [hlt, hlt', hpl, hpl']; done))) | (refine Run.condF ?_ ?_; (· (simp -implicitDefEqProofs [hlt, hlt', hpl, hpl']; done))) | refine Run.exit rfl ?_))
      refine Run.mv [0] [(6, .int .i64 i), (7, .bool (hitB l key))] [.arr (l.map encItS) 2] (by rfl) (by decide) (by simp -implicitDefEqProofs [hh]) (by simp -implicitDefEqProofs [hh]) ?_
      refine Run.retI Try.func41 r41_ok trivial (by simp -implicitDefEqProofs [r41]; rfl) (by simp ) ?_ (by simp -implicitDefEqProofs ) (by simp -implicitDefEqProofs )
      simp [hp]

theorem finds_tri (l : List (Bs × Bs)) (hl : l.length ≤ 100000) (hr : RiseK l) (key : Bs) : Tri Try.prog 33 [.ptr 0 0, .str key] (mapHs l) (fun v H => v = .tup [.int .i64 (lowB l key), .bool (hitB l key)] ∧ H = mapHs l) := by
  unfold mapHs
  refine Tri.of_run' Try.func33 rfl c33_ok (by simp [Try.ntmps33]) ?_
  (repeat (first | refine Run.seq ?_ | refine Run.reg ?_ | refine Run.skip ?_ | refine Run.block ?_ | refine Run.endB ?_ | refine Run.opE rfl ?_ | (apply Run.op0 rfl; (· (simp -implicitDefEqProofs; exact ⟨rfl, rfl⟩))) | (apply Run.opA rfl; (· (simp -implicitDefEqProofs; done)); (· (simp -implicitDefEqProofs; exact ⟨rfl, rfl⟩))) | (apply Run.opN rfl; (· (simp -implicitDefEqProofs; done))) | (refine Run.condT ?_ ?_; (· (simp -implicitDefEqProofs; done))) | (refine Run.condF ?_ ?_; (· (simp -implicitDefEqProofs; done))) | refine Run.exit rfl ?_))
  refine Run.opF [1] (bss_tri l hl hr key) rfl (by simp -implicitDefEqProofs) rfl (by simp -implicitDefEqProofs) (by decide) (by rfl) (by simp -implicitDefEqProofs) ?_
  rintro v0 Hs' ⟨rfl, rfl⟩
  (repeat (first | refine Run.seq ?_ | refine Run.reg ?_ | refine Run.skip ?_ | refine Run.block ?_ | refine Run.endB ?_ | refine Run.opE rfl ?_ | (apply Run.op0 rfl; (· (simp -implicitDefEqProofs; exact ⟨rfl, rfl⟩))) | (apply Run.opA rfl; (· (simp -implicitDefEqProofs; done)); (· (simp -implicitDefEqProofs; exact ⟨rfl, rfl⟩))) | (apply Run.opN rfl; (· (simp -implicitDefEqProofs; done))) | (refine Run.condT ?_ ?_; (· (simp -implicitDefEqProofs; done))) | (refine Run.condF ?_ ?_; (· (simp -implicitDefEqProofs; done))) | refine Run.exit rfl ?_))
  refine Run.mv [0, 1] [(4, .int .i64 (lowB l key)), (5, .bool (hitB l key))] [.row [.bool true, .sl 1 0 l.length 2 none], .arr (l.map encItS) 2] (by rfl) (by decide) (by simp -implicitDefEqProofs) (by simp -implicitDefEqProofs) ?_
  refine Run.retI Try.func33 r33_ok trivial (by simp -implicitDefEqProofs [r33]; rfl) (by simp ) ?_ (by simp -implicitDefEqProofs ) (by simp -implicitDefEqProofs )
  simp

theorem gets_tri (l : List (Bs × Bs)) (hl : l.length ≤ 100000) (hr : RiseK l) (key : Bs) : Tri Try.prog 25 [.ptr 0 0, .str key] (mapHs l) (fun v H => v = .tup [V.str (getB ([] : Bs) l key).1, .bool (getB ([] : Bs) l key).2] ∧ H = mapHs l) := by
  refine Tri.of_run' Try.func25 rfl c25_ok (by simp [Try.ntmps25]) ?_
  (repeat (first | refine Run.seq ?_ | refine Run.reg ?_ | refine Run.skip ?_ | refine Run.block ?_ | refine Run.endB ?_ | refine Run.opE rfl ?_ | (apply Run.op0 rfl; (· (simp -implicitDefEqProofs; exact ⟨rfl, rfl⟩))) | (apply Run.opA rfl; (· (simp -implicitDefEqProofs; done)); (· (simp -implicitDefEqProofs; exact ⟨rfl, rfl⟩))) | (apply Run.opN rfl; (· (simp -implicitDefEqProofs; done))) | (refine Run.condT ?_ ?_; (· (simp -implicitDefEqProofs; done))) | (refine Run.condF ?_ ?_; (· (simp -implicitDefEqProofs; done))) | refine Run.exit rfl ?_))
  refine Run.opF [0, 1] (finds_tri l hl hr key) rfl (by simp -implicitDefEqProofs [mapHs]) rfl (by simp -implicitDefEqProofs [mapHs]) (by decide) (by rfl) (by simp -implicitDefEqProofs [mapHs]) ?_
  rintro v0 Hs' ⟨rfl, rfl⟩
  unfold mapHs
  cases hh : hitB l key with
  | false =>
    (repeat (first | refine Run.seq ?_ | refine Run.reg ?_ | refine Run.skip ?_ | refine Run.block ?_ | refine Run.endB ?_ | refine Run.opE rfl ?_ | (apply Run.op0 rfl; (· (simp -implicitDefEqProofs [hh]; exact ⟨rfl, rfl⟩))) | (apply Run.opA rfl; (· (simp -implicitDefEqProofs [hh]; done)); (· (simp -implicitDefEqProofs [hh]; exact ⟨rfl, rfl⟩))) | (apply Run.opN rfl; (· (simp -implicitDefEqProofs [hh]; done))) | (refine Run.condT ?_ ?_; (· (simp -implicitDefEqProofs [hh]; done))) | (refine Run.condF ?_ ?_; (· (simp -implicitDefEqProofs [hh]; done))) | refine Run.exit rfl ?_))
    refine Run.mv [0, 1] [(4, V.str (getB ([] : Bs) l key).1), (5, .bool (getB ([] : Bs) l key).2)] [.row [.bool true, .sl 1 0 l.length 2 none], .arr (l.map encItS) 2] (by rfl) (by decide) (by simp -implicitDefEqProofs [getB, hh]) (by simp -implicitDefEqProofs [getB, hh]) ?_
    refine Run.retI Try.func25 r25_ok trivial (by simp -implicitDefEqProofs [r25]; rfl) (by simp ) ?_ (by simp -implicitDefEqProofs ) (by simp -implicitDefEqProofs )
    simp
  | true =>
    obtain ⟨x, hx, hk⟩ := hitB_some hh
    have hlt := (List.getElem?_eq_some_iff.1 hx).1
    have hxi : l[lowB l key] = x := (List.getElem?_eq_some_iff.1 hx).2
    (repeat (first | refine Run.seq ?_ | refine Run.reg ?_ | refine Run.skip ?_ | refine Run.block ?_ | refine Run.endB ?_ | refine Run.opE rfl ?_ | (apply Run.op0 rfl; (· (simp -implicitDefEqProofs [hh, hlt, hx, hxi, encItS]; exact ⟨rfl, rfl⟩))) | (apply Run.opA rfl; (· (simp -implicitDefEqProofs [hh, hlt, hx, hxi, encItS]; done)); (· (simp -implicitDefEqProofs [hh, hlt, hx, hxi, encItS]; exact ⟨rfl, rfl⟩))) | (apply Run.opN rfl; (· (simp -implicitDefEqProofs [hh, hlt, hx, hxi, encItS]; done))) | (refine Run.condT ?_ ?_; (· (simp -implicitDefEqProofs [hh, hlt, hx, hxi, encItS]; done))) | (refine Run.condF ?_ ?_; (· (simp -implicitDefEqProofs [hh, hlt, hx, hxi, encItS]; done))) | refine Run.exit rfl ?_))
    refine Run.mv [0, 1] [(4, V.str (getB ([] : Bs) l key).1), (5, .bool (getB ([] : Bs) l key).2)] [.row [.bool true, .sl 1 0 l.length 2 none], .arr (l.map encItS) 2] (by rfl) (by decide) (by simp -implicitDefEqProofs [getB, hh, hx, encItS]) (by simp -implicitDefEqProofs [getB, hh, hx, encItS]) ?_
    refine Run.retI Try.func25 r25_ok trivial (by simp -implicitDefEqProofs [r25]; rfl) (by simp ) ?_ (by simp -implicitDefEqProofs ) (by simp -implicitDefEqProofs )
    simp

end Go.Proofs.Ytoopckhogehdmaa
