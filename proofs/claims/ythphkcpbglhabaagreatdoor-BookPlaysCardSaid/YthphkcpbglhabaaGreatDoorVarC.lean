/-
  Numbers as bytes: the document's Take.
-/
import Derived.Test.YthphkcpbglhabaaGreatDoorVarB
namespace Go.Proofs.YthphkcpbglhabaaGreatDoor
open Sx Go
set_option maxRecDepth 100000
set_option linter.unusedSimpArgs false
set_option linter.unusedVariables false
set_option linter.unnecessarySimpa false
attribute [local simp] stepV condR boundsC appendG appendO copyV srcC guardB isCall opStep Opd.ev put readAt aBin aUn args0 V.celled V.ones V.one V.cells putAt bounds bound1 elemsOf srcOf appendV fillAt fillEl V.pures V.pure unwind evs ARes.ev mkRes V.ren V.renL O.ren eqCells eq1 aEq aMM hasTy hasTyN okTy mmGo Known HLe OLe VsLe.refl VLe.refl VLe.cap Stay VsLe V.frz V.frzL O.frz fr clearV rn KnownR Objs OLeO ObjsE nm back setAll ren_ite take_map_len List.take_of_length_le
attribute [local simp ↓] upd_app tl_cons tl_nil

theorem rvtake_tri (l : List UInt8) (hl : l.length ≤ 70368744177664) : Tri Tryz.prog 156 [.str l] [] (fun v H => v = vtakeV l ∧ H = []) := by
  refine Tri.of_run' Tryz.func156 rfl c156_ok (by simp [Tryz.ntmps156]) ?_
  (repeat (first | refine Run.adm rfl ?_ | refine Run.seq ?_ | ((first | apply Run.opS rfl | apply Run.condS); (· (simp -implicitDefEqProofs; first | exact ⟨rfl, rfl⟩ | exact rfl)))))
  refine Run.loopC [] (fun (a : Nat × Nat) => ([(0, .str l), (5, .int .i64 a.2), (6, .int .i64 a.1)], [])) (fun a => a.1 ≤ 9 ∧ a.1 ≤ l.length ∧ a.2 < 128 ^ a.1 ∧ vtakeGo (9 - a.1) (l.drop a.1) a.1 a.2 = vtake l) (fun a => 9 - a.1) (0, 0)
    ⟨by simp, by simp, by simp, by simp [vtake]⟩ (by rfl) (by decide) (by simp) (by simp) ?_
  rintro ⟨k, n⟩ ⟨hk, hkl, hn, hgo⟩ ih
  simp only at hk hkl hn hgo ih ⊢
  by_cases h9 : k < 9
  · have h9' : (k : Int) < 9 := by omega
    obtain ⟨m, hm⟩ : ∃ m, 9 - k = m + 1 := ⟨8 - k, by omega⟩
    rw [hm] at hgo
    by_cases hkL : k = l.length
    · subst hkL
      rw [List.drop_length, vtakeGo] at hgo
      (repeat (first | refine Run.adm rfl ?_ | refine Run.seq ?_ | ((first | apply Run.opS rfl | apply Run.condS); (· (simp -implicitDefEqProofs [h9']; first | exact ⟨rfl, rfl⟩ | exact rfl)))))
      refine Run.retI Tryz.func156 r156_ok trivial (by simp -implicitDefEqProofs [r156]; rfl) (by simp ) ?_ (by simp -implicitDefEqProofs ) (by simp -implicitDefEqProofs )
      simp [vtakeV, ← hgo]
    · have hkL' : ¬ (l.length : Int) ≤ (k : Int) := by omega
      obtain ⟨c, hc, hdrop⟩ : ∃ c, l[k]? = some c ∧ l.drop k = c :: l.drop (k + 1) := ⟨l[k]'(by omega), by simp [show k < l.length by omega], List.drop_eq_getElem_cons (by omega)⟩
      rw [hdrop, vtakeGo] at hgo
      have hc256 := c.toNat_lt
      obtain ⟨c7, hc7⟩ : ∃ c7, c7 = c.toNat % 128 := ⟨_, rfl⟩
      obtain ⟨ho1, ho2⟩ := or_step (n := n) (c := c7) (k := k) (by omega) hn (by omega)
      have hand := and127_u8 c.toNat (by omega)
      rw [← hc7] at hand hgo
      have hm0 : 0 ≤ IntKind.i64.wrap (7 * (k : Int)) := by rw [wrap_small (by omega) (by omega)]; omega
      have hcw : IntKind.i64.wrap (c7 : Int) = (c7 : Int) := wrap_small (by omega) (by omega)
      generalize hn' : n + c7 * 128 ^ k = n' at ho1 ho2 hgo
      have hw := wrap_small (n := (k : Int) + 1) (by omega) (by omega)
      by_cases hb : 128 ≤ c.toNat
      · have hb' : ¬ (c.toNat : Int) < 128 := by omega
        (repeat (first | refine Run.adm rfl ?_ | refine Run.seq ?_ | ((first | apply Run.opS rfl | apply Run.condS); (· (simp -implicitDefEqProofs [h9', hkL', hc, hand, hcw, hm0, ho1, hb']; first | exact ⟨rfl, rfl⟩ | exact rfl)))))
        refine Run.mv [] _ _ (by rfl) (by decide) (by simp -implicitDefEqProofs [hw]) (by simp -implicitDefEqProofs [hw]) (ih ((k + 1, n')) ?_ ?_)
        · rw [if_pos hb] at hgo
          exact ⟨by omega, by simp only; omega, ho2, by simp only; rw [show 9 - (k + 1) = m by omega]; exact hgo⟩
        · simp only; omega
      · have hb' : (c.toNat : Int) < 128 := by omega
        have e : c7 = c.toNat := by rw [hc7]; exact Nat.mod_eq_of_lt (by omega)
        have hneg : ¬ (n' : Int) < 0 := by omega
        rw [if_neg hb, ← e, hn', e] at hgo
        by_cases hbad : (0 < k ∧ c.toNat = 0) ∨ 4611686018427387904 < n'
        · rw [if_pos hbad] at hgo
          have hfin : vtakeV l = .tup [.int .i64 0, .int .i64 0, .int .i64 11] := by simp [vtakeV, ← hgo]
          by_cases hc0 : c.toNat = 0
          · by_cases hk0 : 0 < k
            · (repeat (first | refine Run.adm rfl ?_ | refine Run.seq ?_ | ((first | apply Run.opS rfl | apply Run.condS); (· (simp -implicitDefEqProofs [h9', hkL', hc, hand, hcw, hm0, ho1, hb']; first | exact ⟨rfl, rfl⟩ | exact rfl)))))
              (repeat (first | refine Run.adm rfl ?_ | refine Run.seq ?_ | ((first | apply Run.opS rfl | apply Run.condS); (· (simp -implicitDefEqProofs [hb', hc0, hk0]; first | exact ⟨rfl, rfl⟩ | exact rfl)))))
              refine Run.retI Tryz.func156 r156_ok trivial (by simp -implicitDefEqProofs [r156]; rfl) (by simp ) ?_ (by simp -implicitDefEqProofs ) (by simp -implicitDefEqProofs )
              simp [hfin]
            · have hbig : 4611686018427387904 < n' := by rcases hbad with h | h; exact absurd h.1 hk0; exact h
              have hbig' : (4611686018427387904 : Int) < n' := by omega
              (repeat (first | refine Run.adm rfl ?_ | refine Run.seq ?_ | ((first | apply Run.opS rfl | apply Run.condS); (· (simp -implicitDefEqProofs [h9', hkL', hc, hand, hcw, hm0, ho1, hb']; first | exact ⟨rfl, rfl⟩ | exact rfl)))))
              (repeat (first | refine Run.adm rfl ?_ | refine Run.seq ?_ | ((first | apply Run.opS rfl | apply Run.condS); (· (simp -implicitDefEqProofs [hb', hc0, hk0, hneg, hbig, hbig']; first | exact ⟨rfl, rfl⟩ | exact rfl)))))
              refine Run.retI Tryz.func156 r156_ok trivial (by simp -implicitDefEqProofs [r156]; rfl) (by simp ) ?_ (by simp -implicitDefEqProofs ) (by simp -implicitDefEqProofs )
              simp [hfin]
          · have hbig : 4611686018427387904 < n' := by rcases hbad with h | h; omega; exact h
            have hbig' : (4611686018427387904 : Int) < n' := by omega
            (repeat (first | refine Run.adm rfl ?_ | refine Run.seq ?_ | ((first | apply Run.opS rfl | apply Run.condS); (· (simp -implicitDefEqProofs [h9', hkL', hc, hand, hcw, hm0, ho1, hb']; first | exact ⟨rfl, rfl⟩ | exact rfl)))))
            (repeat (first | refine Run.adm rfl ?_ | refine Run.seq ?_ | ((first | apply Run.opS rfl | apply Run.condS); (· (simp -implicitDefEqProofs [hb', hc0, hneg, hbig, hbig']; first | exact ⟨rfl, rfl⟩ | exact rfl)))))
            refine Run.retI Tryz.func156 r156_ok trivial (by simp -implicitDefEqProofs [r156]; rfl) (by simp ) ?_ (by simp -implicitDefEqProofs ) (by simp -implicitDefEqProofs )
            simp [hfin]
        · rw [if_neg hbad] at hgo
          have hfin : vtakeV l = .tup [.int .i64 n', .int .i64 (k + 1), .int .i64 0] := by simp [vtakeV, ← hgo]
          have hsm : ¬ 4611686018427387904 < n' := fun h => hbad (.inr h)
          have hsm' : ¬ (4611686018427387904 : Int) < n' := by omega
          by_cases hc0 : c.toNat = 0
          · have hk0 : ¬ 0 < k := fun h => hbad (.inl ⟨h, hc0⟩)
            (repeat (first | refine Run.adm rfl ?_ | refine Run.seq ?_ | ((first | apply Run.opS rfl | apply Run.condS); (· (simp -implicitDefEqProofs [h9', hkL', hc, hand, hcw, hm0, ho1, hb']; first | exact ⟨rfl, rfl⟩ | exact rfl)))))
            (repeat (first | refine Run.adm rfl ?_ | refine Run.seq ?_ | ((first | apply Run.opS rfl | apply Run.condS); (· (simp -implicitDefEqProofs [hb', hc0, hk0, hneg, hsm, hsm', hw]; first | exact ⟨rfl, rfl⟩ | exact rfl)))))
            refine Run.retI Tryz.func156 r156_ok trivial (by simp -implicitDefEqProofs [r156]; rfl) (by simp ) ?_ (by simp -implicitDefEqProofs ) (by simp -implicitDefEqProofs )
            simp [hfin]
          · (repeat (first | refine Run.adm rfl ?_ | refine Run.seq ?_ | ((first | apply Run.opS rfl | apply Run.condS); (· (simp -implicitDefEqProofs [h9', hkL', hc, hand, hcw, hm0, ho1, hb']; first | exact ⟨rfl, rfl⟩ | exact rfl)))))
            (repeat (first | refine Run.adm rfl ?_ | refine Run.seq ?_ | ((first | apply Run.opS rfl | apply Run.condS); (· (simp -implicitDefEqProofs [hb', hc0, hneg, hsm, hsm', hw]; first | exact ⟨rfl, rfl⟩ | exact rfl)))))
            refine Run.retI Tryz.func156 r156_ok trivial (by simp -implicitDefEqProofs [r156]; rfl) (by simp ) ?_ (by simp -implicitDefEqProofs ) (by simp -implicitDefEqProofs )
            simp [hfin]
  · have h9' : ¬ (k : Int) < 9 := by omega
    have : k = 9 := by omega
    subst this
    (repeat (first | refine Run.adm rfl ?_ | refine Run.seq ?_ | ((first | apply Run.opS rfl | apply Run.condS); (· (simp -implicitDefEqProofs; first | exact ⟨rfl, rfl⟩ | exact rfl)))))
    refine Run.retI Tryz.func156 r156_ok trivial (by simp -implicitDefEqProofs [r156]; rfl) (by simp ) ?_ (by simp -implicitDefEqProofs ) (by simp -implicitDefEqProofs )
    simp [vtakeV, ← hgo, vtakeGo]

theorem vtake_at (l : List UInt8) (hl : l.length ≤ 70368744177664) (H : List O) : Tri Tryz.prog 78 [.str l] H (fun v H' => v = vtakeV l ∧ H' = H) := (vtake_tri l hl).at rfl rfl H
theorem rvtake_at (l : List UInt8) (hl : l.length ≤ 70368744177664) (H : List O) : Tri Tryz.prog 156 [.str l] H (fun v H' => v = vtakeV l ∧ H' = H) := (rvtake_tri l hl).at rfl rfl H

end Go.Proofs.YthphkcpbglhabaaGreatDoor
