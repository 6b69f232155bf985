/-
  Layer 11, part LawA: what must come.
-/
import Derived.Test.YtphpkigfmmanhaaEachD
namespace Go.Proofs.Ytphpkigfmmanhaa
open Sx Go
set_option maxRecDepth 100000
set_option linter.unusedSimpArgs false
set_option linter.unusedVariables false
set_option linter.unnecessarySimpa false
attribute [local simp] guardB isCall opStep Opd.ev put readAt aBin aUn args0 V.celled V.ones V.one V.cells putAt bounds bound1 elemsOf srcOf appendV fillAt fillEl V.pures V.pure unwind evs ARes.ev mkRes V.ren V.renL O.ren eqCells eq1 aEq aMM hasTy hasTyN okTy mmGo Known HLe OLe VsLe.refl VLe.refl Stay VsLe V.frz V.frzL O.frz fr clearV rn KnownR Objs OLeO ObjsE nm back setAll ren_ite take_map_len List.take_of_length_le
attribute [local simp ↓] upd_app tl_cons tl_nil
attribute [local simp] encE_ren encE_ones encE_len encE_take

theorem sameP_own (a b : List (Bs × Bs)) (hl : a.length ≤ 4611686018427387904) (kk : Option Nat) : Tri Try.prog 18 [.vs (a.map encP) 2, .sl 0 0 b.length 2 kk] [.arr (b.map encP) 2] (fun v H => v = .bool (decide (a = b)) ∧ H = [.gone]) := by
  refine Tri.of_run' Try.func18 rfl c18_ok (by simp [Try.ntmps18]) ?_
  refine Run.freeze 0 (es := b.map encP) (sz := 2) (by simp) ?_
  refine Run.mv [0] [(0, .vs (a.map encP) 2), (1, .vs (b.map encP) 2)] [.gone] (by rfl) (by decide) (by simp -implicitDefEqProofs) (by simp -implicitDefEqProofs) ?_
  by_cases hlen : a.length = b.length
  rotate_left
  · have hlen' : ¬ (a.length : Int) = b.length := by omega
    have hne : ¬ a = b := fun h => hlen (by rw [h])
    (repeat (first | refine Run.seq ?_ | refine Run.reg ?_ | refine Run.skip ?_ | refine Run.block ?_ | refine Run.endB ?_ | refine Run.opE rfl ?_ | (apply Run.op0 rfl; (· (simp -implicitDefEqProofs [hlen, hlen']; exact ⟨rfl, rfl⟩))) | (apply Run.opA rfl; (· (simp -implicitDefEqProofs [hlen, hlen']; done)); (· (simp -implicitDefEqProofs [hlen, hlen']; exact ⟨rfl, rfl⟩))) | (apply Run.opN rfl; (· (simp -implicitDefEqProofs [hlen, hlen']; done))) | (refine Run.condT ?_ ?_; (· (simp -implicitDefEqProofs [hlen, hlen']; done))) | (refine Run.condF ?_ ?_; (· (simp -implicitDefEqProofs [hlen, hlen']; done))) | refine Run.exit rfl ?_))
    refine Run.retI Try.func18 r18_ok trivial (by simp -implicitDefEqProofs [r18]; rfl) (by simp ) ?_ (by simp -implicitDefEqProofs ) (by simp -implicitDefEqProofs )
    simp [hne]
  have hlen' : (a.length : Int) = b.length := by omega
  (repeat (first | refine Run.seq ?_ | refine Run.reg ?_ | refine Run.skip ?_ | refine Run.block ?_ | refine Run.endB ?_ | refine Run.opE rfl ?_ | (apply Run.op0 rfl; (· (simp -implicitDefEqProofs [hlen, hlen']; exact ⟨rfl, rfl⟩))) | (apply Run.opA rfl; (· (simp -implicitDefEqProofs [hlen, hlen']; done)); (· (simp -implicitDefEqProofs [hlen, hlen']; exact ⟨rfl, rfl⟩))) | (apply Run.opN rfl; (· (simp -implicitDefEqProofs [hlen, hlen']; done))) | (refine Run.condT ?_ ?_; (· (simp -implicitDefEqProofs [hlen, hlen']; done))) | (refine Run.condF ?_ ?_; (· (simp -implicitDefEqProofs [hlen, hlen']; done))) | refine Run.exit rfl ?_))
  refine Run.loopC [0] (fun (i : Nat) => ([(0, .vs (a.map encP) 2), (1, .vs (b.map encP) 2), (5, .int .i64 i)], [.gone])) (fun i => i ≤ a.length ∧ a.take i = b.take i) (fun i => a.length - i) 0 (by simp) (by rfl) (by decide) (by simp) (by simp) ?_
  rintro i ⟨hi, htk⟩ ih
  by_cases hlt : i < a.length
  · have hltb : i < b.length := by omega
    obtain ⟨x, hx, hxi, -, -⟩ := getL hlt
    obtain ⟨y, hy, hyi, -, -⟩ := getL hltb
    have hw := wrap_small (n := (i : Int) + 1) (by omega) (by omega)
    (repeat (first | refine Run.seq ?_ | refine Run.reg ?_ | refine Run.skip ?_ | refine Run.block ?_ | refine Run.endB ?_ | refine Run.opE rfl ?_ | (apply Run.op0 rfl; (· (simp -implicitDefEqProofs [hlt]; exact ⟨rfl, rfl⟩))) | (apply Run.opA rfl; (· (simp -implicitDefEqProofs [hlt]; done)); (· (simp -implicitDefEqProofs [hlt]; exact ⟨rfl, rfl⟩))) | (apply Run.opN rfl; (· (simp -implicitDefEqProofs [hlt]; done))) | (refine Run.condT ?_ ?_; (· (simp -implicitDefEqProofs [hlt]; done))) | (refine Run.condF ?_ ?_; (· (simp -implicitDefEqProofs [hlt]; done))) | refine Run.exit rfl ?_))
    refine Run.quietM prog_mixed (by kernel_rfl) [0] [(0, .vs (a.map encP) 2), (1, .vs (b.map encP) 2), (5, .int .i64 i), (25, .bool (!decide (x = y)))] [.gone] (by rfl) (by decide) ?_ ?_
    · (repeat (first | refine execQ_E rfl ?_ | (apply execQ_0 rfl; (· rfl); (· (simp -implicitDefEqProofs [hlt, hltb, hx, hxi, hy, hyi, encP]; exact ⟨rfl, rfl⟩))) | (apply execQ_A rfl; (· (simp -implicitDefEqProofs [hlt, hltb, hx, hxi, hy, hyi, encP]; done)); (· rfl); (· (simp -implicitDefEqProofs [hlt, hltb, hx, hxi, hy, hyi, encP]; exact ⟨rfl, rfl⟩))) | (apply execQ_N rfl; (· (simp -implicitDefEqProofs [hlt, hltb, hx, hxi, hy, hyi, encP]; done)))))
      have : (x = y) ↔ (x.1 = y.1 ∧ x.2 = y.2) := by
        obtain ⟨a1, a2⟩ := x; obtain ⟨b1, b2⟩ := y; simp
      simp [this]
    by_cases hxy : x = y
    · (repeat (first | refine Run.seq ?_ | refine Run.reg ?_ | refine Run.skip ?_ | refine Run.block ?_ | refine Run.endB ?_ | refine Run.opE rfl ?_ | (apply Run.op0 rfl; (· (simp -implicitDefEqProofs [hxy]; exact ⟨rfl, rfl⟩))) | (apply Run.opA rfl; (· (simp -implicitDefEqProofs [hxy]; done)); (· (simp -implicitDefEqProofs [hxy]; exact ⟨rfl, rfl⟩))) | (apply Run.opN rfl; (· (simp -implicitDefEqProofs [hxy]; done))) | (refine Run.condT ?_ ?_; (· (simp -implicitDefEqProofs [hxy]; done))) | (refine Run.condF ?_ ?_; (· (simp -implicitDefEqProofs [hxy]; done))) | refine Run.exit rfl ?_))
      refine Run.mv [0] _ _ (by rfl) (by decide) (by simp -implicitDefEqProofs [hw]) (by simp -implicitDefEqProofs [hw]) (ih (i + 1) ?_ ?_)
      · exact ⟨by omega, take_eq_drop hlt hltb htk (by rw [hxi, hyi, hxy])⟩
      · omega
    · (repeat (first | refine Run.seq ?_ | refine Run.reg ?_ | refine Run.skip ?_ | refine Run.block ?_ | refine Run.endB ?_ | refine Run.opE rfl ?_ | (apply Run.op0 rfl; (· (simp -implicitDefEqProofs [hxy]; exact ⟨rfl, rfl⟩))) | (apply Run.opA rfl; (· (simp -implicitDefEqProofs [hxy]; done)); (· (simp -implicitDefEqProofs [hxy]; exact ⟨rfl, rfl⟩))) | (apply Run.opN rfl; (· (simp -implicitDefEqProofs [hxy]; done))) | (refine Run.condT ?_ ?_; (· (simp -implicitDefEqProofs [hxy]; done))) | (refine Run.condF ?_ ?_; (· (simp -implicitDefEqProofs [hxy]; done))) | refine Run.exit rfl ?_))
      refine Run.retI Try.func18 r18_ok trivial (by simp -implicitDefEqProofs [r18]; rfl) (by simp ) ?_ (by simp -implicitDefEqProofs ) (by simp -implicitDefEqProofs )
      have : ¬ a = b := by rintro rfl; rw [hxi] at hyi; exact hxy hyi
      simp [this]
  · have : i = a.length := by omega
    subst this
    (repeat (first | refine Run.seq ?_ | refine Run.reg ?_ | refine Run.skip ?_ | refine Run.block ?_ | refine Run.endB ?_ | refine Run.opE rfl ?_ | (apply Run.op0 rfl; (· (simp -implicitDefEqProofs; exact ⟨rfl, rfl⟩))) | (apply Run.opA rfl; (· (simp -implicitDefEqProofs; done)); (· (simp -implicitDefEqProofs; exact ⟨rfl, rfl⟩))) | (apply Run.opN rfl; (· (simp -implicitDefEqProofs; done))) | (refine Run.condT ?_ ?_; (· (simp -implicitDefEqProofs; done))) | (refine Run.condF ?_ ?_; (· (simp -implicitDefEqProofs; done))) | refine Run.exit rfl ?_))
    refine Run.retI Try.func18 r18_ok trivial (by simp -implicitDefEqProofs [r18]; rfl) (by simp ) ?_ (by simp -implicitDefEqProofs ) (by simp -implicitDefEqProofs )
    have : a = b := by rw [List.take_length, List.take_of_length_le (by omega)] at htk; exact htk
    simp [this]

def a0 : En := ⟨[97], [120], false, 9⟩
def a1 : En := ⟨[97], [], true, 4⟩
def b0 : En := ⟨[97], [121], false, 2⟩
def b1 : En := ⟨[98], [122], false, 3⟩
def aA : List En := [a0, a1]
def aB : List En := [b0, b1]
def aL : List En := [a0, a1, b0, b1]
def aP : List En := [a0, b0, b1]
theorem aw_merge : mergeG [aB, aA] = (aL, 0) := by decide +kernel
theorem aw_prune : prM aL [3] true = aP := by rw [pru_eq]; decide +kernel
theorem aw_vis : visM aL 3 = [([97], [121]), ([98], [122])] := by rw [vis_eq]; decide +kernel
theorem aw_sin : sinM aL 8 = [a0] := by rw [sin_eq]; decide +kernel

theorem aw_vis_at (H : List O) : Tri Try.prog 19 [.vs (aL.map encE) 4, .int .i64 3] H (fun v H' => v = .vs ([(([97] : Bs), ([121] : Bs)), ([98], [122])].map encP) 2 ∧ H' = H) := by
  have := vis_at aL 3 H
  rwa [aw_vis] at this
theorem aw_sin_at (H : List O) : Tri Try.prog 21 [.vs (aL.map encE) 4, .int .i64 8] H (fun v H' => v = .vs ([a0].map encE) 4 ∧ H' = H) := by
  have := sin_at aL 8 H
  rwa [aw_sin] at this

set_option maxHeartbeats 4000000 in
theorem awake_end : Run ⟨Try.prog, 11, Try.f11.ntmps, [], fun v H => v = .bool true ∧ H = []⟩ ⟨[.code (.drawn c11d0), .code .ret], tl [(1, .vs (aA.map encE) 4), (2, .vs (aB.map encE) 4), (3, .vs (aL.map encE) 4), (4, .int .i64 0), (5, .vs (aP.map encE) 4)], []⟩ := by
  have l4 : (aL.length : Int) = 4 := rfl
  have p3 : (aP.length : Int) = 3 := rfl
  have l0 : 0 < aL.length := by decide
  have q0 : aL[0]? = some a0 := rfl
  have r0 : aL[0]'l0 = a0 := rfl
  have l3 : 3 < aL.length := by decide
  have q3 : aL[3]? = some b1 := rfl
  have r3 : aL[3]'l3 = b1 := rfl
  have lA : 0 < aA.length := by decide
  have qA : aA[0]? = some a0 := rfl
  have rA : aA[0]'lA = a0 := rfl
  have lB : 1 < aB.length := by decide
  have qB : aB[1]? = some b1 := rfl
  have rB : aB[1]'lB = b1 := rfl
  refine Run.drawn prog_mixed ?_
  show RunD _ c11d0 [0, 1, 2, 3, 4, 5, 6, 7, 8, 9, 10, 11, 12, 13, 14, 15, 16, 17, 18, 19, 20, 21, 22, 23, 24, 25, 26, 27, 28, 29, 30, 31, 32, 33, 34, 35, 36, 37, 38, 39, 40, 41, 42, 43, 44] [] _ _ _
  refine RunD.flow [0, 1, 2, 3, 4, 5, 6, 7, 8, 9, 10, 11, 12, 13, 14, 15, 16, 17, 18, 19, 20, 21, 22, 23, 24, 25, 26, 27, 28, 29] (by kernel_rfl) (by decide +kernel) (by decide +kernel) (by decide) trivial ?_
  (repeat (first | refine execQ_E rfl ?_ | (apply execQ_0 rfl; (· rfl); (· (simp -implicitDefEqProofs [l4, l0, q0, r0, l3, q3, r3, lA, qA, rA, lB, qB, rB, encE]; exact ⟨rfl, rfl⟩))) | (apply execQ_A rfl; (· (simp -implicitDefEqProofs [l4, l0, q0, r0, l3, q3, r3, lA, qA, rA, lB, qB, rB, encE]; done)); (· rfl); (· (simp -implicitDefEqProofs [l4, l0, q0, r0, l3, q3, r3, lA, qA, rA, lB, qB, rB, encE]; exact ⟨rfl, rfl⟩))) | (apply execQ_N rfl; (· (simp -implicitDefEqProofs [l4, l0, q0, r0, l3, q3, r3, lA, qA, rA, lB, qB, rB, encE]; done)))))
  refine execQ_C rfl rfl rfl (aw_vis_at _) ?_
  (repeat (first | refine execQ_E rfl ?_ | (apply execQ_0 rfl; (· rfl); (· (simp -implicitDefEqProofs; exact ⟨rfl, rfl⟩))) | (apply execQ_A rfl; (· (simp -implicitDefEqProofs; done)); (· rfl); (· (simp -implicitDefEqProofs; exact ⟨rfl, rfl⟩))) | (apply execQ_N rfl; (· (simp -implicitDefEqProofs; done)))))
  intro hpo
  refine RunD.alt1 30 (by kernel_rfl) (by kernel_rfl) hpo ?_
  (first | (apply AStep.o0 rfl; (· (simp -implicitDefEqProofs [encP]; exact ⟨rfl, rfl⟩))) | (apply AStep.A rfl; (· (simp -implicitDefEqProofs [encP]; done)); (· (simp -implicitDefEqProofs [encP]; exact ⟨rfl, rfl⟩))) | (apply AStep.N rfl; (· (simp -implicitDefEqProofs [encP]; done))))
  refine RunD.alt1 31 (by kernel_rfl) (by kernel_rfl) (by
    show PendOk _ c11d0 _ _ [27, 26]
    refine PendOk.call rfl rfl rfl rfl (aw_vis_at _) ?_
    (repeat (first | exact PendOk.nil | (refine PendOk.op rfl rfl rfl ?_ ?_; (· (simp -implicitDefEqProofs; done))) | (refine PendOk.op rfl rfl ?_ ?_ ?_; (· (simp -implicitDefEqProofs; done)); (· (simp -implicitDefEqProofs; done))) | (refine PendOk.skip rfl rfl ?_ ?_; (· (simp -implicitDefEqProofs; done)))))) ?_
  refine AStep.F [0] (sameP_own [([97], [121]), ([98], [122])] [([97], [121]), ([98], [122])] (by simp) (some 2)) rfl (by simp -implicitDefEqProofs [encP]) rfl (by simp -implicitDefEqProofs [encP]) (by decide) (by rfl) (by simp -implicitDefEqProofs [encP]) ?_
  rintro v0 Hs' ⟨rfl, rfl⟩
  refine RunD.flow [32, 33, 34, 35, 36, 37, 38, 39, 40, 41, 42, 43] (by kernel_rfl) (by decide +kernel) (by decide +kernel) (by decide) (show PendOk _ c11d0 _ _ [] from trivial) ?_
  (repeat (first | refine execQ_E rfl ?_ | (apply execQ_0 rfl; (· rfl); (· (simp -implicitDefEqProofs [p3]; exact ⟨rfl, rfl⟩))) | (apply execQ_A rfl; (· (simp -implicitDefEqProofs [p3]; done)); (· rfl); (· (simp -implicitDefEqProofs [p3]; exact ⟨rfl, rfl⟩))) | (apply execQ_N rfl; (· (simp -implicitDefEqProofs [p3]; done)))))
  refine execQ_C rfl rfl rfl (aw_sin_at _) ?_
  (repeat (first | refine execQ_E rfl ?_ | (apply execQ_0 rfl; (· rfl); (· (simp -implicitDefEqProofs; exact ⟨rfl, rfl⟩))) | (apply execQ_A rfl; (· (simp -implicitDefEqProofs; done)); (· rfl); (· (simp -implicitDefEqProofs; exact ⟨rfl, rfl⟩))) | (apply execQ_N rfl; (· (simp -implicitDefEqProofs; done)))))
  intro hpo
  refine RunD.alt1 44 (by kernel_rfl) (by kernel_rfl) hpo ?_
  (first | (apply AStep.o0 rfl; (· (simp -implicitDefEqProofs; exact ⟨rfl, rfl⟩))) | (apply AStep.A rfl; (· (simp -implicitDefEqProofs; done)); (· (simp -implicitDefEqProofs; exact ⟨rfl, rfl⟩))) | (apply AStep.N rfl; (· (simp -implicitDefEqProofs; done))))
  refine RunD.fin (by kernel_rfl) (show PendOk _ c11d0 _ _ [] from trivial) ?_
  refine Run.mv [] [(0, .bool true)] [] (by rfl) (by decide) (by simp -implicitDefEqProofs) (by simp -implicitDefEqProofs) ?_
  refine Run.ret0 rfl Try.func11 r11_ok trivial (by simp [r11]; rfl) ?_ (by simp)
  simp
theorem awake_tri : Tri Try.prog 11 [] [] (fun v H => v = .bool true ∧ H = []) := by
  refine Tri.of_run' Try.func11 rfl c11_ok (by simp [Try.ntmps11]) ?_
  (repeat (first | refine Run.seq ?_ | refine Run.reg ?_ | refine Run.skip ?_ | refine Run.block ?_ | refine Run.endB ?_ | refine Run.opE rfl ?_ | (apply Run.op0 rfl; (· (simp -implicitDefEqProofs; exact ⟨rfl, rfl⟩))) | (apply Run.opA rfl; (· (simp -implicitDefEqProofs; done)); (· (simp -implicitDefEqProofs; exact ⟨rfl, rfl⟩))) | (apply Run.opN rfl; (· (simp -implicitDefEqProofs; done))) | (refine Run.condT ?_ ?_; (· (simp -implicitDefEqProofs; done))) | (refine Run.condF ?_ ?_; (· (simp -implicitDefEqProofs; done))) | refine Run.exit rfl ?_))
  have hA2 : (aA.map encE).take 2 = aA.map encE := rfl
  have hB2 : (aB.map encE).take 2 = aB.map encE := rfl
  have hA3 : 2 ≤ aA.length := Nat.le_refl _
  have hB3 : 2 ≤ aB.length := Nat.le_refl _
  refine Run.freeze 0 (es := aA.map encE) (sz := 4) (by simp [aA, a0, a1, encE]) ?_
  refine Run.freeze 1 (es := aB.map encE) (sz := 4) (by simp [aB, b0, b1, encE]) ?_
  refine Run.mv [] [(1, .vs (aA.map encE) 4), (2, .vs (aB.map encE) 4), (13, .vs (aB.map encE) 4), (14, .vs (aA.map encE) 4)] [] (by rfl) (by decide) (by simp -implicitDefEqProofs [hA2, hB2, hA3, hB3]) (by simp -implicitDefEqProofs [hA2, hB2, hA3, hB3]) ?_
  (repeat (first | refine Run.seq ?_ | refine Run.reg ?_ | refine Run.skip ?_ | refine Run.block ?_ | refine Run.endB ?_ | refine Run.opE rfl ?_ | (apply Run.op0 rfl; (· (simp -implicitDefEqProofs; exact ⟨rfl, rfl⟩))) | (apply Run.opA rfl; (· (simp -implicitDefEqProofs; done)); (· (simp -implicitDefEqProofs; exact ⟨rfl, rfl⟩))) | (apply Run.opN rfl; (· (simp -implicitDefEqProofs; done))) | (refine Run.condT ?_ ?_; (· (simp -implicitDefEqProofs; done))) | (refine Run.condF ?_ ?_; (· (simp -implicitDefEqProofs; done))) | refine Run.exit rfl ?_))
  refine Run.freeze 0 (es := [aB, aA].map encL) (sz := 1) (by simp [encL]) ?_
  refine Run.mv [] [(1, .vs (aA.map encE) 4), (2, .vs (aB.map encE) 4), (15, .vs ([aB, aA].map encL) 1)] [] (by rfl) (by decide) (by simp -implicitDefEqProofs [encL]) (by simp -implicitDefEqProofs [encL]) ?_
  refine Run.opC rfl rfl rfl (mrg_at [aB, aA] (by simp) _) ?_
  rintro v h' ⟨rfl, rfl⟩
  rw [aw_merge]
  (repeat (first | refine Run.seq ?_ | refine Run.reg ?_ | refine Run.skip ?_ | refine Run.block ?_ | refine Run.endB ?_ | refine Run.opE rfl ?_ | (apply Run.op0 rfl; (· (simp -implicitDefEqProofs; exact ⟨rfl, rfl⟩))) | (apply Run.opA rfl; (· (simp -implicitDefEqProofs; done)); (· (simp -implicitDefEqProofs; exact ⟨rfl, rfl⟩))) | (apply Run.opN rfl; (· (simp -implicitDefEqProofs; done))) | (refine Run.condT ?_ ?_; (· (simp -implicitDefEqProofs; done))) | (refine Run.condF ?_ ?_; (· (simp -implicitDefEqProofs; done))) | refine Run.exit rfl ?_))
  refine Run.freeze 0 (es := [3].map encI) (sz := 1) (by simp [encI]) ?_
  refine Run.mv [] [(1, .vs (aA.map encE) 4), (2, .vs (aB.map encE) 4), (3, .vs (aL.map encE) 4), (4, .int .i64 0), (19, .vs (aL.map encE) 4), (20, .vs ([3].map encI) 1)] [] (by rfl) (by decide) (by simp -implicitDefEqProofs [encI]) (by simp -implicitDefEqProofs [encI]) ?_
  refine Run.opC rfl rfl rfl (pru_at aL [3] (by simp) true _) ?_
  rintro v h' ⟨rfl, rfl⟩
  rw [aw_prune]
  (repeat (first | refine Run.seq ?_ | refine Run.reg ?_ | refine Run.skip ?_ | refine Run.block ?_ | refine Run.endB ?_ | refine Run.opE rfl ?_ | (apply Run.op0 rfl; (· (simp -implicitDefEqProofs; exact ⟨rfl, rfl⟩))) | (apply Run.opA rfl; (· (simp -implicitDefEqProofs; done)); (· (simp -implicitDefEqProofs; exact ⟨rfl, rfl⟩))) | (apply Run.opN rfl; (· (simp -implicitDefEqProofs; done))) | (refine Run.condT ?_ ?_; (· (simp -implicitDefEqProofs; done))) | (refine Run.condF ?_ ?_; (· (simp -implicitDefEqProofs; done))) | refine Run.exit rfl ?_))
  refine Run.mv [] [(1, .vs (aA.map encE) 4), (2, .vs (aB.map encE) 4), (3, .vs (aL.map encE) 4), (4, .int .i64 0), (5, .vs (aP.map encE) 4)] [] (by rfl) (by decide) (by simp -implicitDefEqProofs) (by simp -implicitDefEqProofs) ?_
  exact awake_end
theorem awake_at (H : List O) : Tri Try.prog 11 [] H (fun v H' => v = .bool true ∧ H' = H) := awake_tri.at rfl rfl H

end Go.Proofs.Ytphpkigfmmanhaa
