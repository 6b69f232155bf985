/-
  Layer 18, part I: the reference's Set.
-/
import Derived.Test.YthphkcpbglhabaaGreatDoorBokH
namespace Go.Proofs.YthphkcpbglhabaaGreatDoor
open Sx Go
set_option maxRecDepth 100000
set_option linter.unusedSimpArgs false
set_option linter.unusedVariables false
set_option linter.unnecessarySimpa false
attribute [local simp] stepV condR boundsC appendG appendO copyV srcC guardB isCall opStep Opd.ev put readAt aBin aUn args0 V.celled V.ones V.one V.cells putAt bounds bound1 elemsOf srcOf appendV fillAt fillEl V.pures V.pure unwind evs ARes.ev mkRes V.ren V.renL O.ren eqCells eq1 aEq aMM hasTy hasTyN okTy mmGo Known HLe OLe VsLe.refl VLe.refl VLe.cap Stay VsLe V.frz V.frzL O.frz fr clearV rn KnownR Objs OLeO ObjsE nm back setAll ren_ite take_map_len List.take_of_length_le
attribute [local simp ↓] upd_app tl_cons tl_nil
attribute [local simp] encS_ren encS_ones encS_len encS_take encN_ren encN_ones KnownS VLe.refl

def idsB (ids : List Int) : Bool := (List.range ids.length).all (okId ids) && decide (ids.length ≤ 64)
theorem rmay_tri (ids : List Int) (hl : ids.length ≤ 1000000000) : Tri Tryz.prog 46 [.vs (ids.map encN) 1] [] (fun v H => v = .bool (idsB ids) ∧ H = []) := by
  refine Tri.of_run' Tryz.func46 rfl c46_ok (by simp [Tryz.ntmps46]) ?_
  (repeat (first | refine Run.adm rfl ?_ | refine Run.seq ?_ | ((first | apply Run.opS rfl | apply Run.condS); (· (simp -implicitDefEqProofs; first | exact ⟨rfl, rfl⟩ | exact rfl)))))
  refine Run.loopC [] (fun (i : Nat) => ([(0, .vs (ids.map encN) 1), (3, .int .i64 i)], [])) (fun i => i ≤ ids.length ∧ i ≤ 65 ∧ (List.range i).all (okId ids) = true) (fun i => ids.length - i) 0 (by simp) (by rfl) (by decide) (by simp) (by simp) ?_
  rintro i ⟨hi, hi65, hall⟩ ih
  by_cases hlt : i < ids.length
  · have hlt' : (i : Int) < ids.length := by omega
    by_cases h65 : i < 65
    · have h65' : (i : Int) < 65 := by omega
      obtain ⟨n, hn, hni, -, -⟩ := getL hlt
      have hw := wrap_small (n := (i : Int) + 1) (by omega) (by omega)
      (repeat (first | refine Run.adm rfl ?_ | refine Run.seq ?_ | ((first | apply Run.opS rfl | apply Run.condS); (· (simp -implicitDefEqProofs [hlt, hlt', h65, h65']; first | exact ⟨rfl, rfl⟩ | exact rfl)))))
      refine Run.quietM prog_mixed (by kernel_rfl) [] [(0, .vs (ids.map encN) 1), (3, .int .i64 i), (41, .bool (!okId ids i))] [] (by rfl) (by decide) ?_ ?_
      · by_cases h1 : n < 1
        · have hb : okId ids i = false := by simp [okId, hn]; omega
          (repeat (first | refine execQ_E rfl ?_ | (apply execQ_S rfl; (· (simp -implicitDefEqProofs [hlt, hlt', hn, hni, encN, h1]; exact ⟨rfl, rfl⟩)))))
          simp [hb]
        by_cases h2 : 1099511627775 < n
        · have hb : okId ids i = false := by simp [okId, hn]; omega
          (repeat (first | refine execQ_E rfl ?_ | (apply execQ_S rfl; (· (simp -implicitDefEqProofs [hlt, hlt', hn, hni, encN, h1, h2]; exact ⟨rfl, rfl⟩)))))
          simp [hb]
        by_cases h3 : i = 0
        · subst h3
          have hb : okId ids 0 = true := by simp [okId, hn]; omega
          (repeat (first | refine execQ_E rfl ?_ | (apply execQ_S rfl; (· (simp -implicitDefEqProofs [hlt, hlt', hn, hni, encN, h1, h2]; exact ⟨rfl, rfl⟩)))))
          simp [hb]
        · obtain ⟨p, hp, hpi, -, -⟩ := getL (show i - 1 < ids.length by omega)
          have hpos : (0 : Int) < i := by omega
          have hpos' : 0 < i := by omega
          have hw1 : IntKind.i64.wrap ((i : Int) - 1) = ((i - 1 : Nat) : Int) := by rw [wrap_small (by omega) (by omega)]; omega
          have hlt1 : i - 1 < ids.length := by omega
          have hlt1' : ((i - 1 : Nat) : Int) < ids.length := by omega
          by_cases h4 : n ≤ p
          · have hb : okId ids i = false := by simp [okId, hn, hp, h3]; omega
            (repeat (first | refine execQ_E rfl ?_ | (apply execQ_S rfl; (· (simp -implicitDefEqProofs [hlt, hlt', hn, hni, encN, h1, h2, hpos, hpos', hw1, hp, hpi, hlt1, hlt1', h4]; exact ⟨rfl, rfl⟩)))))
            simp [hb]
          · have hb : okId ids i = true := by simp [okId, hn, hp, h3]; omega
            (repeat (first | refine execQ_E rfl ?_ | (apply execQ_S rfl; (· (simp -implicitDefEqProofs [hlt, hlt', hn, hni, encN, h1, h2, hpos, hpos', hw1, hp, hpi, hlt1, hlt1', h4]; exact ⟨rfl, rfl⟩)))))
            simp [hb]
      by_cases hok : okId ids i = true
      · (repeat (first | refine Run.adm rfl ?_ | refine Run.seq ?_ | ((first | apply Run.opS rfl | apply Run.condS); (· (simp -implicitDefEqProofs [hok]; first | exact ⟨rfl, rfl⟩ | exact rfl)))))
        refine Run.mv [] _ _ (by rfl) (by decide) (by simp -implicitDefEqProofs [hw]) (by simp -implicitDefEqProofs [hw]) (ih (i + 1) ?_ ?_)
        · exact ⟨by omega, by omega, all_snoc _ _ hall hok⟩
        · omega
      · have hok' : okId ids i = false := by simpa using hok
        (repeat (first | refine Run.adm rfl ?_ | refine Run.seq ?_ | ((first | apply Run.opS rfl | apply Run.condS); (· (simp -implicitDefEqProofs [hok']; first | exact ⟨rfl, rfl⟩ | exact rfl)))))
        refine Run.retI Tryz.func46 r46_ok trivial (by simp -implicitDefEqProofs [r46]; rfl) (by simp ) ?_ (by simp -implicitDefEqProofs ) (by simp -implicitDefEqProofs )
        simp [idsB, all_not _ hlt hok']
    · have h65' : ¬ (i : Int) < 65 := by omega
      have hc : ¬ (ids.length : Int) ≤ 64 := by omega
      have hc' : ¬ ids.length ≤ 64 := by omega
      (repeat (first | refine Run.adm rfl ?_ | refine Run.seq ?_ | ((first | apply Run.opS rfl | apply Run.condS); (· (simp -implicitDefEqProofs [hlt, hlt', h65, h65', hc, hc']; first | exact ⟨rfl, rfl⟩ | exact rfl)))))
      refine Run.retI Tryz.func46 r46_ok trivial (by simp -implicitDefEqProofs [r46]; rfl) (by simp ) ?_ (by simp -implicitDefEqProofs ) (by simp -implicitDefEqProofs )
      simp [idsB]; omega
  · have : i = ids.length := by omega
    subst this
    have hc : decide ((ids.length : Int) ≤ 64) = decide (ids.length ≤ 64) := by simp; omega
    (repeat (first | refine Run.adm rfl ?_ | refine Run.seq ?_ | ((first | apply Run.opS rfl | apply Run.condS); (· (simp -implicitDefEqProofs [hc]; first | exact ⟨rfl, rfl⟩ | exact rfl)))))
    refine Run.retI Tryz.func46 r46_ok trivial (by simp -implicitDefEqProofs [r46]; rfl) (by simp ) ?_ (by simp -implicitDefEqProofs ) (by simp -implicitDefEqProofs )
    simp [idsB, hall]
theorem rmay_at (ids : List Int) (hl : ids.length ≤ 1000000000) (H : List O) : Tri Tryz.prog 46 [.vs (ids.map encN) 1] H (fun v H' => v = .bool (idsB ids) ∧ H' = H) := (rmay_tri ids hl).at rfl rfl H
theorem idsB_may {mv : Int} {ids : List Int} : mayB mv ids = (idsB ids && (decide (0 ≤ mv) && decide (mv ≤ 1099511627775))) := by
  unfold mayB idsB
  cases (List.range ids.length).all (okId ids) <;> cases decide (0 ≤ mv) <;> cases decide (mv ≤ 1099511627775) <;> cases decide (ids.length ≤ 64) <;> rfl

/-- may it be set? -/
def setB (st : BSt) (mv : Int) (ids : List Int) : Bool := decide (st.1 ≤ mv) && mayB mv ids
def encB (st : BSt) : V := .agg [.int .i64 st.1, .vs (st.2.map encN) 1]
theorem rset_tri (st : BSt) (h0 : 0 ≤ st.1) (mv : Int) (ids : List Int) (hl : ids.length ≤ 1000000000) :
    Tri Tryz.prog 16 [encB st, .int .i64 mv, .vs (ids.map encN) 1] [] (fun v H => v = (if setB st mv ids then .tup [encB (mv, ids), .int .i64 0] else .tup [encB st, .int .i64 1]) ∧ H = []) := by
  obtain ⟨m0, ids0⟩ := st
  simp only at h0
  unfold encB
  refine Tri.of_run' Tryz.func16 rfl c16_ok (by simp [Tryz.ntmps16]) ?_
  by_cases h1 : mv < m0
  · (repeat (first | refine Run.adm rfl ?_ | refine Run.seq ?_ | ((first | apply Run.opS rfl | apply Run.condS); (· (simp -implicitDefEqProofs [h1]; first | exact ⟨rfl, rfl⟩ | exact rfl)))))
    refine Run.ret0 rfl Tryz.func16 r16_ok trivial (by simp [r16]; rfl) ?_ (by simp)
    have : setB (m0, ids0) mv ids = false := by simp [setB]; omega
    exact ⟨by simp [this], rfl⟩
  by_cases h2 : 1099511627775 < mv
  · (repeat (first | refine Run.adm rfl ?_ | refine Run.seq ?_ | ((first | apply Run.opS rfl | apply Run.condS); (· (simp -implicitDefEqProofs [h1, h2]; first | exact ⟨rfl, rfl⟩ | exact rfl)))))
    refine Run.ret0 rfl Tryz.func16 r16_ok trivial (by simp [r16]; rfl) ?_ (by simp)
    have : setB (m0, ids0) mv ids = false := by simp [setB, idsB_may]; omega
    exact ⟨by simp [this], rfl⟩
  (repeat (first | refine Run.adm rfl ?_ | refine Run.seq ?_ | ((first | apply Run.opS rfl | apply Run.condS); (· (simp -implicitDefEqProofs [h1, h2]; first | exact ⟨rfl, rfl⟩ | exact rfl)))))
  refine Run.opC rfl (by simp) rfl (rmay_at ids hl _) ?_
  rintro v H ⟨rfl, rfl⟩
  by_cases h3 : idsB ids = true
  · (repeat (first | refine Run.adm rfl ?_ | refine Run.seq ?_ | ((first | apply Run.opS rfl | apply Run.condS); (· (simp -implicitDefEqProofs [h3]; first | exact ⟨rfl, rfl⟩ | exact rfl)))))
    refine Run.ret0 rfl Tryz.func16 r16_ok trivial (by simp [r16]; rfl) ?_ (by simp)
    have : setB (m0, ids0) mv ids = true := by simp [setB, idsB_may, h3]; omega
    exact ⟨by simp [this], rfl⟩
  · have h3' : idsB ids = false := by simpa using h3
    (repeat (first | refine Run.adm rfl ?_ | refine Run.seq ?_ | ((first | apply Run.opS rfl | apply Run.condS); (· (simp -implicitDefEqProofs [h3']; first | exact ⟨rfl, rfl⟩ | exact rfl)))))
    refine Run.ret0 rfl Tryz.func16 r16_ok trivial (by simp [r16]; rfl) ?_ (by simp)
    have : setB (m0, ids0) mv ids = false := by simp [setB, idsB_may, h3']
    exact ⟨by simp [this], rfl⟩
theorem rset_at (st : BSt) (h0 : 0 ≤ st.1) (mv : Int) (ids : List Int) (hl : ids.length ≤ 1000000000) (H : List O) :
    Tri Tryz.prog 16 [encB st, .int .i64 mv, .vs (ids.map encN) 1] H (fun v H' => v = (if setB st mv ids then .tup [encB (mv, ids), .int .i64 0] else .tup [encB st, .int .i64 1]) ∧ H' = H) := by
  refine ((rset_tri st h0 mv ids hl).at ?_ ?_ H).mono fun v H' h => ?_
  · unfold encB; split <;> simp
  · simp [encB]
  · exact h

end Go.Proofs.YthphkcpbglhabaaGreatDoor
