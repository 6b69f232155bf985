/-
  Layer 07, part Q: lists that are the same; what must come.
-/
import Derived.Test.YtoopckhogehdmaaSorP
namespace Go.Proofs.Ytoopckhogehdmaa
open Sx Go
set_option maxRecDepth 100000
set_option linter.unusedSimpArgs false
set_option linter.unusedVariables false
set_option linter.unnecessarySimpa false
attribute [local simp] boundsC appendG appendO copyV srcC guardB isCall opStep Opd.ev put readAt aBin aUn args0 V.celled V.ones V.one V.cells putAt bounds bound1 elemsOf srcOf appendV fillAt fillEl V.pures V.pure unwind evs ARes.ev mkRes V.ren V.renL O.ren eqCells eq1 aEq aMM hasTy hasTyN okTy mmGo Known HLe OLe VsLe.refl VLe.refl VLe.cap Stay VsLe V.frz V.frzL O.frz fr clearV rn KnownR Objs OLeO ObjsE nm back setAll ren_ite take_map_len List.take_of_length_le
attribute [local simp ↓] upd_app tl_cons tl_nil
attribute [local simp] encItI_ren encItI_ones encItI_len encItI_take encItS_ren encItS_ones encItS_len encItS_take encS_ren encS_ones encS_len encS_take

/-- two heaps that come to one -/
theorem cases2 {E : Env} {k t} {g : List O → List O} {Hs P Q : List O} (hc : Hs = P ∨ Hs = Q) (slots : List (Nat × V)) (h' : List O) (idsA idsB : List Nat)
    (hkA : idsA.take E.H0.length = List.range E.H0.length) (hndA : idsA.Nodup) (hsA : KnownR (rn idsA) t slots) (hoA : Objs (rn idsA) (g P) idsA h')
    (hkB : idsB.take E.H0.length = List.range E.H0.length) (hndB : idsB.Nodup) (hsB : KnownR (rn idsB) t slots) (hoB : Objs (rn idsB) (g Q) idsB h')
    (hr : Run E ⟨k, tl slots, h'⟩) : Run E ⟨k, t, g Hs⟩ := by
  rcases hc with rfl | rfl
  · exact Run.mv idsA slots h' hkA hndA hsA hoA hr
  · exact Run.mv idsB slots h' hkB hndB hsB hoB hr

theorem take_eq_drop {α} [DecidableEq α] {a b : List α} {i : Nat} (ha : i < a.length) (hb : i < b.length) (h : a.take i = b.take i) (he : a[i] = b[i]) : a.take (i + 1) = b.take (i + 1) := by
  rw [List.take_add_one, List.take_add_one, h, List.getElem?_eq_getElem ha, List.getElem?_eq_getElem hb, he]

theorem same_tri (a b : List Bs) (hl : a.length ≤ 4611686018427387904) : Tri Try.prog 11 [.vs (a.map encS) 1, .vs (b.map encS) 1] [] (fun v H => v = .bool (decide (a = b)) ∧ H = []) := by
  refine Tri.of_run' Try.func11 rfl c11_ok (by simp [Try.ntmps11]) ?_
  by_cases hlen : a.length = b.length
  rotate_left
  · have hlen' : ¬ (a.length : Int) = b.length := by omega
    have hne : ¬ a = b := fun h => hlen (by rw [h])
    (repeat (first | refine Run.seq ?_ | refine Run.reg ?_ | refine Run.skip ?_ | refine Run.block ?_ | refine Run.endB ?_ | refine Run.opE rfl ?_ | (apply Run.op0 rfl; (· (simp -implicitDefEqProofs [hlen, hlen']; exact ⟨rfl, rfl⟩))) | (apply Run.opA rfl; (· (simp -implicitDefEqProofs [hlen, hlen']; done)); (· (simp -implicitDefEqProofs [hlen, hlen']; exact ⟨rfl, rfl⟩))) | (apply Run.opN rfl; (· (simp -implicitDefEqProofs [hlen, hlen']; done))) | (refine Run.condT ?_ ?_; (· (simp -implicitDefEqProofs [hlen, hlen']; done))) | (refine Run.condF ?_ ?_; (· (simp -implicitDefEqProofs [hlen, hlen']; done))) | refine Run.exit rfl ?_))
    refine Run.retI Try.func11 r11_ok trivial (by simp -implicitDefEqProofs [r11]; rfl) (by simp ) ?_ (by simp -implicitDefEqProofs ) (by simp -implicitDefEqProofs )
    simp [hne]
  have hlen' : (a.length : Int) = b.length := by omega
  (repeat (first | refine Run.seq ?_ | refine Run.reg ?_ | refine Run.skip ?_ | refine Run.block ?_ | refine Run.endB ?_ | refine Run.opE rfl ?_ | (apply Run.op0 rfl; (· (simp -implicitDefEqProofs [hlen, hlen']; exact ⟨rfl, rfl⟩))) | (apply Run.opA rfl; (· (simp -implicitDefEqProofs [hlen, hlen']; done)); (· (simp -implicitDefEqProofs [hlen, hlen']; exact ⟨rfl, rfl⟩))) | (apply Run.opN rfl; (· (simp -implicitDefEqProofs [hlen, hlen']; done))) | (refine Run.condT ?_ ?_; (· (simp -implicitDefEqProofs [hlen, hlen']; done))) | (refine Run.condF ?_ ?_; (· (simp -implicitDefEqProofs [hlen, hlen']; done))) | refine Run.exit rfl ?_))
  refine Run.loopC [] (fun (i : Nat) => ([(0, .vs (a.map encS) 1), (1, .vs (b.map encS) 1), (5, .int .i64 i)], [])) (fun i => i ≤ a.length ∧ a.take i = b.take i) (fun i => a.length - i) 0 (by simp) (by rfl) (by decide) (by simp) (by simp) ?_
  rintro i ⟨hi, htk⟩ ih
  by_cases hlt : i < a.length
  · have hltb : i < b.length := by omega
    obtain ⟨x, hx, hxi, -, -⟩ := getL hlt
    obtain ⟨y, hy, hyi, -, -⟩ := getL hltb
    have hw := wrap_small (n := (i : Int) + 1) (by omega) (by omega)
    (repeat (first | refine Run.seq ?_ | refine Run.reg ?_ | refine Run.skip ?_ | refine Run.block ?_ | refine Run.endB ?_ | refine Run.opE rfl ?_ | (apply Run.op0 rfl; (· (simp -implicitDefEqProofs [hlt]; exact ⟨rfl, rfl⟩))) | (apply Run.opA rfl; (· (simp -implicitDefEqProofs [hlt]; done)); (· (simp -implicitDefEqProofs [hlt]; exact ⟨rfl, rfl⟩))) | (apply Run.opN rfl; (· (simp -implicitDefEqProofs [hlt]; done))) | (refine Run.condT ?_ ?_; (· (simp -implicitDefEqProofs [hlt]; done))) | (refine Run.condF ?_ ?_; (· (simp -implicitDefEqProofs [hlt]; done))) | refine Run.exit rfl ?_))
    refine Run.quietM prog_mixed (by kernel_rfl) [] [(0, .vs (a.map encS) 1), (1, .vs (b.map encS) 1), (5, .int .i64 i), (25, .bool (!decide (x = y)))] [] (by rfl) (by decide) ?_ ?_
    · (repeat (first | refine execQ_E rfl ?_ | (apply execQ_0 rfl; (· rfl); (· (simp -implicitDefEqProofs [hlt, hltb, hx, hxi, hy, hyi, encS]; exact ⟨rfl, rfl⟩))) | (apply execQ_A rfl; (· (simp -implicitDefEqProofs [hlt, hltb, hx, hxi, hy, hyi, encS]; done)); (· rfl); (· (simp -implicitDefEqProofs [hlt, hltb, hx, hxi, hy, hyi, encS]; exact ⟨rfl, rfl⟩))) | (apply execQ_N rfl; (· (simp -implicitDefEqProofs [hlt, hltb, hx, hxi, hy, hyi, encS]; done)))))
      simp
    by_cases hxy : x = y
    · (repeat (first | refine Run.seq ?_ | refine Run.reg ?_ | refine Run.skip ?_ | refine Run.block ?_ | refine Run.endB ?_ | refine Run.opE rfl ?_ | (apply Run.op0 rfl; (· (simp -implicitDefEqProofs [hxy]; exact ⟨rfl, rfl⟩))) | (apply Run.opA rfl; (· (simp -implicitDefEqProofs [hxy]; done)); (· (simp -implicitDefEqProofs [hxy]; exact ⟨rfl, rfl⟩))) | (apply Run.opN rfl; (· (simp -implicitDefEqProofs [hxy]; done))) | (refine Run.condT ?_ ?_; (· (simp -implicitDefEqProofs [hxy]; done))) | (refine Run.condF ?_ ?_; (· (simp -implicitDefEqProofs [hxy]; done))) | refine Run.exit rfl ?_))
      refine Run.mv [] _ _ (by rfl) (by decide) (by simp -implicitDefEqProofs [hw]) (by simp -implicitDefEqProofs [hw]) (ih (i + 1) ?_ ?_)
      · exact ⟨by omega, take_eq_drop hlt hltb htk (by rw [hxi, hyi, hxy])⟩
      · omega
    · (repeat (first | refine Run.seq ?_ | refine Run.reg ?_ | refine Run.skip ?_ | refine Run.block ?_ | refine Run.endB ?_ | refine Run.opE rfl ?_ | (apply Run.op0 rfl; (· (simp -implicitDefEqProofs [hxy]; exact ⟨rfl, rfl⟩))) | (apply Run.opA rfl; (· (simp -implicitDefEqProofs [hxy]; done)); (· (simp -implicitDefEqProofs [hxy]; exact ⟨rfl, rfl⟩))) | (apply Run.opN rfl; (· (simp -implicitDefEqProofs [hxy]; done))) | (refine Run.condT ?_ ?_; (· (simp -implicitDefEqProofs [hxy]; done))) | (refine Run.condF ?_ ?_; (· (simp -implicitDefEqProofs [hxy]; done))) | refine Run.exit rfl ?_))
      refine Run.retI Try.func11 r11_ok trivial (by simp -implicitDefEqProofs [r11]; rfl) (by simp ) ?_ (by simp -implicitDefEqProofs ) (by simp -implicitDefEqProofs )
      have : ¬ a = b := by rintro rfl; rw [hxi] at hyi; exact hxy hyi
      simp [this]
  · have : i = a.length := by omega
    subst this
    (repeat (first | refine Run.seq ?_ | refine Run.reg ?_ | refine Run.skip ?_ | refine Run.block ?_ | refine Run.endB ?_ | refine Run.opE rfl ?_ | (apply Run.op0 rfl; (· (simp -implicitDefEqProofs; exact ⟨rfl, rfl⟩))) | (apply Run.opA rfl; (· (simp -implicitDefEqProofs; done)); (· (simp -implicitDefEqProofs; exact ⟨rfl, rfl⟩))) | (apply Run.opN rfl; (· (simp -implicitDefEqProofs; done))) | (refine Run.condT ?_ ?_; (· (simp -implicitDefEqProofs; done))) | (refine Run.condF ?_ ?_; (· (simp -implicitDefEqProofs; done))) | refine Run.exit rfl ?_))
    refine Run.retI Try.func11 r11_ok trivial (by simp -implicitDefEqProofs [r11]; rfl) (by simp ) ?_ (by simp -implicitDefEqProofs ) (by simp -implicitDefEqProofs )
    have : a = b := by rw [List.take_length, List.take_of_length_le (by omega)] at htk; exact htk
    simp [this]
theorem same_at (a b : List Bs) (hl : a.length ≤ 4611686018427387904) (H : List O) : Tri Try.prog 11 [.vs (a.map encS) 1, .vs (b.map encS) 1] H (fun v H' => v = .bool (decide (a = b)) ∧ H' = H) := (same_tri a b hl).at rfl rfl H

def w1 : List (Bs × Int) := [([98], 7)]
def w2 : List (Bs × Int) := [([97], 3), ([98], 7)]
def w3 : List (Bs × Int) := [([97], 3), ([98], 8)]
theorem w1_eq : putL ([] : List (Bs × Int)) [98] 7 = w1 := by decide +kernel
theorem w2_eq : putL w1 [97] 3 = w2 := by decide +kernel
theorem w3_eq : putL w2 [98] 8 = w3 := by decide +kernel
theorem h1_eq : hitB ([] : List (Bs × Int)) [98] = false := by decide +kernel
theorem h2_eq : hitB w1 [97] = false := by decide +kernel
theorem h3_eq : hitB w2 [98] = true := by decide +kernel
theorem rw0 : RiseK ([] : List (Bs × Int)) := List.Pairwise.nil
theorem rw1 : RiseK w1 := by rw [← w1_eq]; exact putL_rise rw0 _ _
theorem rw2 : RiseK w2 := by rw [← w2_eq]; exact putL_rise rw1 _ _
theorem rw3 : RiseK w3 := by rw [← w3_eq]; exact putL_rise rw2 _ _
theorem g3_eq : getB (0 : Int) w3 [98] = (8, true) := by decide +kernel
theorem k3_eq : keysM w3 [] 9 = [[97], [98]] := by decide +kernel

theorem awake_tri : Tri Try.prog 7 [] [] (fun v H => v = .bool true ∧ H = []) := by
  refine Tri.of_run' Try.func7 rfl c7_ok (by simp [Try.ntmps7]) ?_
  (repeat (first | refine Run.seq ?_ | refine Run.reg ?_ | refine Run.skip ?_ | refine Run.block ?_ | refine Run.endB ?_ | refine Run.opE rfl ?_ | (apply Run.op0 rfl; (· (simp -implicitDefEqProofs; exact ⟨rfl, rfl⟩))) | (apply Run.opA rfl; (· (simp -implicitDefEqProofs; done)); (· (simp -implicitDefEqProofs; exact ⟨rfl, rfl⟩))) | (apply Run.opN rfl; (· (simp -implicitDefEqProofs; done))) | (refine Run.condT ?_ ?_; (· (simp -implicitDefEqProofs; done))) | (refine Run.condF ?_ ?_; (· (simp -implicitDefEqProofs; done))) | refine Run.exit rfl ?_))
  refine Run.opF [] (newi_tri) rfl (by simp -implicitDefEqProofs) rfl (by simp -implicitDefEqProofs) (by decide) (by rfl) (by simp -implicitDefEqProofs) ?_
  rintro v0 Hs' ⟨rfl, rfl⟩
  refine Run.nilC 0 1 2 0 rfl rfl ?_
  (repeat (first | refine Run.seq ?_ | refine Run.reg ?_ | refine Run.skip ?_ | refine Run.block ?_ | refine Run.endB ?_ | refine Run.opE rfl ?_ | (apply Run.op0 rfl; (· (simp -implicitDefEqProofs; exact ⟨rfl, rfl⟩))) | (apply Run.opA rfl; (· (simp -implicitDefEqProofs; done)); (· (simp -implicitDefEqProofs; exact ⟨rfl, rfl⟩))) | (apply Run.opN rfl; (· (simp -implicitDefEqProofs; done))) | (refine Run.condT ?_ ?_; (· (simp -implicitDefEqProofs; done))) | (refine Run.condF ?_ ?_; (· (simp -implicitDefEqProofs; done))) | refine Run.exit rfl ?_))
  refine Run.mv [0, 1] [(1, .ptr 0 0), (9, .bool false), (10, .ptr 0 0)] [.row [.bool true, .sl 1 0 ([] : List (Bs × Int)).length 2 none], .arr (([] : List (Bs × Int)).map encItI) 2] (by rfl) (by decide) (by simp -implicitDefEqProofs) (by simp -implicitDefEqProofs) ?_
  refine Run.opF [0, 1] (puti_tri [] (by simp) rw0 [98] 7) rfl (by simp -implicitDefEqProofs [mapHi]) rfl (by simp -implicitDefEqProofs [mapHi]) (by decide) (by rfl) (by simp -implicitDefEqProofs [mapHi]) ?_
  rintro v0 Hs' ⟨rfl, hcase⟩
  rw [w1_eq] at hcase
  rw [h1_eq]
  refine cases2 hcase [(1, .ptr 0 0), (9, .bool false), (11, .bool false)] (mapHi w1) [0, 1] [0, 2] (by rfl) (by decide) (by simp) (by simp [mapHi]) (by rfl) (by decide) (by simp) (by simp [mapHi, mapKi]) ?_
  (repeat (first | refine Run.seq ?_ | refine Run.reg ?_ | refine Run.skip ?_ | refine Run.block ?_ | refine Run.endB ?_ | refine Run.opE rfl ?_ | (apply Run.op0 rfl; (· (simp -implicitDefEqProofs; exact ⟨rfl, rfl⟩))) | (apply Run.opA rfl; (· (simp -implicitDefEqProofs; done)); (· (simp -implicitDefEqProofs; exact ⟨rfl, rfl⟩))) | (apply Run.opN rfl; (· (simp -implicitDefEqProofs; done))) | (refine Run.condT ?_ ?_; (· (simp -implicitDefEqProofs; done))) | (refine Run.condF ?_ ?_; (· (simp -implicitDefEqProofs; done))) | refine Run.exit rfl ?_))
  refine Run.opF [0, 1] (puti_tri w1 (by decide) rw1 [97] 3) rfl (by simp -implicitDefEqProofs [mapHi]) rfl (by simp -implicitDefEqProofs [mapHi]) (by decide) (by rfl) (by simp -implicitDefEqProofs [mapHi]) ?_
  rintro v0 Hs' ⟨rfl, hcase⟩
  rw [w2_eq] at hcase
  rw [h2_eq]
  refine cases2 hcase [(1, .ptr 0 0), (13, .bool false), (15, .bool false)] (mapHi w2) [0, 1] [0, 2] (by rfl) (by decide) (by simp) (by simp [mapHi]) (by rfl) (by decide) (by simp) (by simp [mapHi, mapKi]) ?_
  (repeat (first | refine Run.seq ?_ | refine Run.reg ?_ | refine Run.skip ?_ | refine Run.block ?_ | refine Run.endB ?_ | refine Run.opE rfl ?_ | (apply Run.op0 rfl; (· (simp -implicitDefEqProofs; exact ⟨rfl, rfl⟩))) | (apply Run.opA rfl; (· (simp -implicitDefEqProofs; done)); (· (simp -implicitDefEqProofs; exact ⟨rfl, rfl⟩))) | (apply Run.opN rfl; (· (simp -implicitDefEqProofs; done))) | (refine Run.condT ?_ ?_; (· (simp -implicitDefEqProofs; done))) | (refine Run.condF ?_ ?_; (· (simp -implicitDefEqProofs; done))) | refine Run.exit rfl ?_))
  refine Run.opF [0, 1] (puti_tri w2 (by decide) rw2 [98] 8) rfl (by simp -implicitDefEqProofs [mapHi]) rfl (by simp -implicitDefEqProofs [mapHi]) (by decide) (by rfl) (by simp -implicitDefEqProofs [mapHi]) ?_
  rintro v0 Hs' ⟨rfl, hcase⟩
  rw [w3_eq] at hcase
  rw [h3_eq]
  refine cases2 hcase [(1, .ptr 0 0), (17, .bool false), (19, .bool true)] (mapHi w3) [0, 1] [0, 2] (by rfl) (by decide) (by simp) (by simp [mapHi]) (by rfl) (by decide) (by simp) (by simp [mapHi, mapKi]) ?_
  (repeat (first | refine Run.seq ?_ | refine Run.reg ?_ | refine Run.skip ?_ | refine Run.block ?_ | refine Run.endB ?_ | refine Run.opE rfl ?_ | (apply Run.op0 rfl; (· (simp -implicitDefEqProofs; exact ⟨rfl, rfl⟩))) | (apply Run.opA rfl; (· (simp -implicitDefEqProofs; done)); (· (simp -implicitDefEqProofs; exact ⟨rfl, rfl⟩))) | (apply Run.opN rfl; (· (simp -implicitDefEqProofs; done))) | (refine Run.condT ?_ ?_; (· (simp -implicitDefEqProofs; done))) | (refine Run.condF ?_ ?_; (· (simp -implicitDefEqProofs; done))) | refine Run.exit rfl ?_))
  refine Run.opF [0, 1] (geti_tri w3 (by decide) rw3 [98]) rfl (by simp -implicitDefEqProofs [mapHi]) rfl (by simp -implicitDefEqProofs [mapHi]) (by decide) (by rfl) (by simp -implicitDefEqProofs [mapHi]) ?_
  rintro v0 Hs' ⟨rfl, rfl⟩
  rw [g3_eq]
  (repeat (first | refine Run.seq ?_ | refine Run.reg ?_ | refine Run.skip ?_ | refine Run.block ?_ | refine Run.endB ?_ | refine Run.opE rfl ?_ | (apply Run.op0 rfl; (· (simp -implicitDefEqProofs; exact ⟨rfl, rfl⟩))) | (apply Run.opA rfl; (· (simp -implicitDefEqProofs; done)); (· (simp -implicitDefEqProofs; exact ⟨rfl, rfl⟩))) | (apply Run.opN rfl; (· (simp -implicitDefEqProofs; done))) | (refine Run.condT ?_ ?_; (· (simp -implicitDefEqProofs; done))) | (refine Run.condF ?_ ?_; (· (simp -implicitDefEqProofs; done))) | refine Run.exit rfl ?_))
  refine Run.opF [0, 1] (firstM_tri w3) rfl (by simp -implicitDefEqProofs [mapHi]) rfl (by simp -implicitDefEqProofs [mapHi]) (by decide) (by rfl) (by simp -implicitDefEqProofs [mapHi]) ?_
  rintro v0 Hs' ⟨rfl, rfl⟩
  have hd : headB w3 = ([97], true) := rfl
  rw [hd]
  (repeat (first | refine Run.seq ?_ | refine Run.reg ?_ | refine Run.skip ?_ | refine Run.block ?_ | refine Run.endB ?_ | refine Run.opE rfl ?_ | (apply Run.op0 rfl; (· (simp -implicitDefEqProofs; exact ⟨rfl, rfl⟩))) | (apply Run.opA rfl; (· (simp -implicitDefEqProofs; done)); (· (simp -implicitDefEqProofs; exact ⟨rfl, rfl⟩))) | (apply Run.opN rfl; (· (simp -implicitDefEqProofs; done))) | (refine Run.condT ?_ ?_; (· (simp -implicitDefEqProofs; done))) | (refine Run.condF ?_ ?_; (· (simp -implicitDefEqProofs; done))) | refine Run.exit rfl ?_))
  refine Run.opF [0, 1] (len_tri w3) rfl (by simp -implicitDefEqProofs [mapHi]) rfl (by simp -implicitDefEqProofs [mapHi]) (by decide) (by rfl) (by simp -implicitDefEqProofs [mapHi]) ?_
  rintro v0 Hs' ⟨rfl, rfl⟩
  have hl3 : (w3.length : Int) = 2 := rfl
  rw [hl3]
  (repeat (first | refine Run.seq ?_ | refine Run.reg ?_ | refine Run.skip ?_ | refine Run.block ?_ | refine Run.endB ?_ | refine Run.opE rfl ?_ | (apply Run.op0 rfl; (· (simp -implicitDefEqProofs; exact ⟨rfl, rfl⟩))) | (apply Run.opA rfl; (· (simp -implicitDefEqProofs; done)); (· (simp -implicitDefEqProofs; exact ⟨rfl, rfl⟩))) | (apply Run.opN rfl; (· (simp -implicitDefEqProofs; done))) | (refine Run.condT ?_ ?_; (· (simp -implicitDefEqProofs; done))) | (refine Run.condF ?_ ?_; (· (simp -implicitDefEqProofs; done))) | refine Run.exit rfl ?_))
  refine Run.opF [0, 1] (keys_tri w3 (by decide) rw3 [] 9) rfl (by simp -implicitDefEqProofs [mapHi]) rfl (by simp -implicitDefEqProofs [mapHi]) (by decide) (by rfl) (by simp -implicitDefEqProofs [mapHi]) ?_
  rintro v0 Hs' ⟨rfl, rfl⟩
  rw [k3_eq]
  (repeat (first | refine Run.seq ?_ | refine Run.reg ?_ | refine Run.skip ?_ | refine Run.block ?_ | refine Run.endB ?_ | refine Run.opE rfl ?_ | (apply Run.op0 rfl; (· (simp -implicitDefEqProofs [mapHi]; exact ⟨rfl, rfl⟩))) | (apply Run.opA rfl; (· (simp -implicitDefEqProofs [mapHi]; done)); (· (simp -implicitDefEqProofs [mapHi]; exact ⟨rfl, rfl⟩))) | (apply Run.opN rfl; (· (simp -implicitDefEqProofs [mapHi]; done))) | (refine Run.condT ?_ ?_; (· (simp -implicitDefEqProofs [mapHi]; done))) | (refine Run.condF ?_ ?_; (· (simp -implicitDefEqProofs [mapHi]; done))) | refine Run.exit rfl ?_))
  refine Run.freeze 2 (es := [[97], [98]].map encS) (sz := 1) (by simp [encS]) ?_
  refine Run.mv [] [(49, .bool true), (51, .vs ([[97], [98]].map encS) 1), (52, .vs ([[97], [98]].map encS) 1)] [] (by rfl) (by decide) (by simp -implicitDefEqProofs [encS]) (by simp -implicitDefEqProofs [encS]) ?_
  (repeat (first | refine Run.seq ?_ | refine Run.reg ?_ | refine Run.skip ?_ | refine Run.block ?_ | refine Run.endB ?_ | refine Run.opE rfl ?_ | (apply Run.op0 rfl; (· (simp -implicitDefEqProofs; exact ⟨rfl, rfl⟩))) | (apply Run.opA rfl; (· (simp -implicitDefEqProofs; done)); (· (simp -implicitDefEqProofs; exact ⟨rfl, rfl⟩))) | (apply Run.opN rfl; (· (simp -implicitDefEqProofs; done))) | (refine Run.condT ?_ ?_; (· (simp -implicitDefEqProofs; done))) | (refine Run.condF ?_ ?_; (· (simp -implicitDefEqProofs; done))) | refine Run.exit rfl ?_))
  refine Run.opC rfl (by simp) rfl (same_at [[97], [98]] [[97], [98]] (by simp) _) ?_
  rintro v h' ⟨rfl, rfl⟩
  (repeat (first | refine Run.seq ?_ | refine Run.reg ?_ | refine Run.skip ?_ | refine Run.block ?_ | refine Run.endB ?_ | refine Run.opE rfl ?_ | (apply Run.op0 rfl; (· (simp -implicitDefEqProofs; exact ⟨rfl, rfl⟩))) | (apply Run.opA rfl; (· (simp -implicitDefEqProofs; done)); (· (simp -implicitDefEqProofs; exact ⟨rfl, rfl⟩))) | (apply Run.opN rfl; (· (simp -implicitDefEqProofs; done))) | (refine Run.condT ?_ ?_; (· (simp -implicitDefEqProofs; done))) | (refine Run.condF ?_ ?_; (· (simp -implicitDefEqProofs; done))) | refine Run.exit rfl ?_))
  refine Run.mv [] [(0, .bool true)] [] (by rfl) (by decide) (by simp -implicitDefEqProofs) (by simp -implicitDefEqProofs) ?_
  refine Run.retI Try.func7 r7_ok trivial (by simp -implicitDefEqProofs [r7]; rfl) (by simp ) ?_ (by simp -implicitDefEqProofs ) (by simp -implicitDefEqProofs )
  simp
theorem awake_at (H : List O) : Tri Try.prog 7 [] H (fun v H' => v = .bool true ∧ H' = H) := awake_tri.at rfl rfl H

end Go.Proofs.Ytoopckhogehdmaa
