/-
  Numbers as bytes: what the code comes to.
-/
import Derived.Test.YthphkcpbglhabaaGreatDoorVarA
namespace Go.Proofs.YthphkcpbglhabaaGreatDoor
open Sx Go
set_option maxRecDepth 100000
set_option linter.unusedSimpArgs false
set_option linter.unusedVariables false
set_option linter.unnecessarySimpa false
attribute [local simp] stepV condR boundsC appendG appendO copyV srcC guardB isCall opStep Opd.ev put readAt aBin aUn args0 V.celled V.ones V.one V.cells putAt bounds bound1 elemsOf srcOf appendV fillAt fillEl V.pures V.pure unwind evs ARes.ev mkRes V.ren V.renL O.ren eqCells eq1 aEq aMM hasTy hasTyN okTy mmGo Known HLe OLe VsLe.refl VLe.refl VLe.cap Stay VsLe V.frz V.frzL O.frz fr clearV rn KnownR Objs OLeO ObjsE nm back setAll ren_ite take_map_len List.take_of_length_le
attribute [local simp ↓] upd_app tl_cons tl_nil

attribute [local simp] byteEls_snoc byteEls_len bytesOf_byteEls

/-- what Put answers -/
def vputM (n : Int) : List UInt8 × Int := if 0 ≤ n ∧ n ≤ 4611686018427387904 then (vput n.toNat, 0) else ([], 1)

theorem vput_tri (n : Int) : Tri Tryz.prog 131 [.int .i64 n] [] (fun v H => v = .tup [.str (vputM n).1, .int .i64 (vputM n).2] ∧ H = []) := by
  refine Tri.of_run' Tryz.func131 rfl c131_ok (by simp [Tryz.ntmps131]) ?_
  by_cases h0 : n < 0
  · (repeat (first | refine Run.adm rfl ?_ | refine Run.seq ?_ | ((first | apply Run.opS rfl | apply Run.condS); (· (simp -implicitDefEqProofs [h0]; first | exact ⟨rfl, rfl⟩ | exact rfl)))))
    refine Run.retI Tryz.func131 r131_ok trivial (by simp -implicitDefEqProofs [r131]; rfl) (by simp ) ?_ (by simp -implicitDefEqProofs ) (by simp -implicitDefEqProofs )
    simp [vputM, show ¬ 0 ≤ n by omega]
  by_cases h1 : 4611686018427387904 < n
  · (repeat (first | refine Run.adm rfl ?_ | refine Run.seq ?_ | ((first | apply Run.opS rfl | apply Run.condS); (· (simp -implicitDefEqProofs [h0, h1]; first | exact ⟨rfl, rfl⟩ | exact rfl)))))
    refine Run.retI Tryz.func131 r131_ok trivial (by simp -implicitDefEqProofs [r131]; rfl) (by simp ) ?_ (by simp -implicitDefEqProofs ) (by simp -implicitDefEqProofs )
    simp [vputM, show ¬ n ≤ 4611686018427387904 by omega]
  obtain ⟨m0, rfl⟩ : ∃ m : Nat, n = m := ⟨n.toNat, by omega⟩
  have hM : vputM m0 = (vput m0, 0) := by rw [vputM, if_pos ⟨by omega, by omega⟩, Int.toNat_natCast]
  rw [hM]
  (repeat (first | refine Run.adm rfl ?_ | refine Run.seq ?_ | ((first | apply Run.opS rfl | apply Run.condS); (· (simp -implicitDefEqProofs [h0, h1]; first | exact ⟨rfl, rfl⟩ | exact rfl)))))
  refine Run.nilA 4 1 (by simp) ?_
  refine Run.loopC [0] (fun (a : Nat × List UInt8) => ([(0, .int .i64 a.1), (4, .sl 0 0 a.2.length 1 none)], [.arr (byteEls a.2) 1])) (fun a => a.1 ≤ 4611686018427387904 ∧ a.2 ++ vput a.1 = vput m0) (fun a => a.1) (m0, [])
    ⟨by simp only; omega, by simp⟩ (by rfl) (by decide) (by simp) (by simp [byteEls_nil]) ?_
  rintro ⟨m, o⟩ ⟨hm, hgo⟩ ih
  simp only at hm hgo ih ⊢
  have hlo : o.length + (vput m).length ≤ 9 := by
    rw [← List.length_append, hgo]; exact vput_len9 (by omega)
  by_cases hlt : 128 ≤ m
  · have hlt' : (128 : Int) ≤ m := by omega
    have hb : o.length + 1 ≤ 70368744177664 := by omega
    obtain ⟨b, hbb⟩ : ∃ b, b = UInt8.ofNat (m % 128 + 128) := ⟨_, rfl⟩
    have hbm := byte_more m
    rw [← hbb] at hbm
    (repeat (first | refine Run.adm rfl ?_ | refine Run.seq ?_ | ((first | apply Run.opS rfl | apply Run.condS); (· (simp -implicitDefEqProofs [hlt', hbm, hb]; first | exact ⟨rfl, rfl⟩ | exact rfl)))))
    refine Run.mv [2] _ _ (by rfl) (by decide) (by simp -implicitDefEqProofs [shr7]) (by simp -implicitDefEqProofs [shr7]) (ih ((m / 128, o ++ [b])) ?_ ?_)
    · rw [vput_big hlt, ← hbb] at hgo
      exact ⟨by simp only; omega, by simpa using hgo⟩
    · simp only; omega
  · have hlt' : ¬ (128 : Int) ≤ m := by omega
    have hb : o.length + 1 ≤ 70368744177664 := by omega
    obtain ⟨b, hbb⟩ : ∃ b, b = UInt8.ofNat m := ⟨_, rfl⟩
    have hbl := byte_last m (by omega)
    rw [← hbb] at hbl
    have htk : (byteEls (o ++ [b])).take (o.length + 1) = byteEls (o ++ [b]) := take_byteEls (by simp)
    (repeat (first | refine Run.adm rfl ?_ | refine Run.seq ?_ | ((first | apply Run.opS rfl | apply Run.condS); (· (simp -implicitDefEqProofs [hlt', hbl, hb, htk]; first | exact ⟨rfl, rfl⟩ | exact rfl)))))
    refine Run.mv [] [(2, .str (o ++ [b])), (3, .int .i64 0)] [] (by rfl) (by decide) (by simp -implicitDefEqProofs) (by simp -implicitDefEqProofs) ?_
    refine Run.retI Tryz.func131 r131_ok trivial (by simp -implicitDefEqProofs [r131]; rfl) (by simp ) ?_ (by simp -implicitDefEqProofs ) (by simp -implicitDefEqProofs )
    rw [vput_small (by omega), ← hbb] at hgo
    simp [hgo]

theorem rvput_tri (n : Int) : Tri Tryz.prog 150 [.int .i64 n] [] (fun v H => v = .tup [.str (vputM n).1, .int .i64 (vputM n).2] ∧ H = []) := by
  refine Tri.of_run' Tryz.func150 rfl c150_ok (by simp [Tryz.ntmps150]) ?_
  by_cases h0 : n < 0
  · (repeat (first | refine Run.adm rfl ?_ | refine Run.seq ?_ | ((first | apply Run.opS rfl | apply Run.condS); (· (simp -implicitDefEqProofs [h0]; first | exact ⟨rfl, rfl⟩ | exact rfl)))))
    refine Run.retI Tryz.func150 r150_ok trivial (by simp -implicitDefEqProofs [r150]; rfl) (by simp ) ?_ (by simp -implicitDefEqProofs ) (by simp -implicitDefEqProofs )
    simp [vputM, show ¬ 0 ≤ n by omega]
  by_cases h1 : 4611686018427387904 < n
  · (repeat (first | refine Run.adm rfl ?_ | refine Run.seq ?_ | ((first | apply Run.opS rfl | apply Run.condS); (· (simp -implicitDefEqProofs [h0, h1]; first | exact ⟨rfl, rfl⟩ | exact rfl)))))
    refine Run.retI Tryz.func150 r150_ok trivial (by simp -implicitDefEqProofs [r150]; rfl) (by simp ) ?_ (by simp -implicitDefEqProofs ) (by simp -implicitDefEqProofs )
    simp [vputM, show ¬ n ≤ 4611686018427387904 by omega]
  obtain ⟨m0, rfl⟩ : ∃ m : Nat, n = m := ⟨n.toNat, by omega⟩
  have hM : vputM m0 = (vput m0, 0) := by rw [vputM, if_pos ⟨by omega, by omega⟩, Int.toNat_natCast]
  rw [hM]
  (repeat (first | refine Run.adm rfl ?_ | refine Run.seq ?_ | ((first | apply Run.opS rfl | apply Run.condS); (· (simp -implicitDefEqProofs [h0, h1]; first | exact ⟨rfl, rfl⟩ | exact rfl)))))
  refine Run.nilA 4 1 (by simp) ?_
  refine Run.loopC [0] (fun (a : Nat × List UInt8) => ([(0, .int .i64 a.1), (4, .sl 0 0 a.2.length 1 none)], [.arr (byteEls a.2) 1])) (fun a => a.1 ≤ 4611686018427387904 ∧ a.2 ++ vput a.1 = vput m0) (fun a => a.1) (m0, [])
    ⟨by simp only; omega, by simp⟩ (by rfl) (by decide) (by simp) (by simp [byteEls_nil]) ?_
  rintro ⟨m, o⟩ ⟨hm, hgo⟩ ih
  simp only at hm hgo ih ⊢
  have hlo : o.length + (vput m).length ≤ 9 := by
    rw [← List.length_append, hgo]; exact vput_len9 (by omega)
  by_cases hlt : 128 ≤ m
  · have hlt' : (127 : Int) < m := by omega
    have hb : o.length + 1 ≤ 70368744177664 := by omega
    obtain ⟨b, hbb⟩ : ∃ b, b = UInt8.ofNat (m % 128 + 128) := ⟨_, rfl⟩
    have hbm := byte_more' (n := m) (by omega)
    rw [← hbb] at hbm
    (repeat (first | refine Run.adm rfl ?_ | refine Run.seq ?_ | ((first | apply Run.opS rfl | apply Run.condS); (· (simp -implicitDefEqProofs [hlt', hbm, hb]; first | exact ⟨rfl, rfl⟩ | exact rfl)))))
    refine Run.mv [2] _ _ (by rfl) (by decide) (by simp -implicitDefEqProofs [shr7]) (by simp -implicitDefEqProofs [shr7]) (ih ((m / 128, o ++ [b])) ?_ ?_)
    · rw [vput_big hlt, ← hbb] at hgo
      exact ⟨by simp only; omega, by simpa using hgo⟩
    · simp only; omega
  · have hlt' : ¬ (127 : Int) < m := by omega
    have hb : o.length + 1 ≤ 70368744177664 := by omega
    obtain ⟨b, hbb⟩ : ∃ b, b = UInt8.ofNat m := ⟨_, rfl⟩
    have hbl := byte_last m (by omega)
    rw [← hbb] at hbl
    have htk : (byteEls (o ++ [b])).take (o.length + 1) = byteEls (o ++ [b]) := take_byteEls (by simp)
    (repeat (first | refine Run.adm rfl ?_ | refine Run.seq ?_ | ((first | apply Run.opS rfl | apply Run.condS); (· (simp -implicitDefEqProofs [hlt', hbl, hb, htk]; first | exact ⟨rfl, rfl⟩ | exact rfl)))))
    refine Run.mv [] [(2, .str (o ++ [b])), (3, .int .i64 0)] [] (by rfl) (by decide) (by simp -implicitDefEqProofs) (by simp -implicitDefEqProofs) ?_
    refine Run.retI Tryz.func150 r150_ok trivial (by simp -implicitDefEqProofs [r150]; rfl) (by simp ) ?_ (by simp -implicitDefEqProofs ) (by simp -implicitDefEqProofs )
    rw [vput_small (by omega), ← hbb] at hgo
    simp [hgo]

theorem vput_at (n : Int) (H : List O) : Tri Tryz.prog 131 [.int .i64 n] H (fun v H' => v = .tup [.str (vputM n).1, .int .i64 (vputM n).2] ∧ H' = H) := (vput_tri n).at rfl rfl H
theorem rvput_at (n : Int) (H : List O) : Tri Tryz.prog 150 [.int .i64 n] H (fun v H' => v = .tup [.str (vputM n).1, .int .i64 (vputM n).2] ∧ H' = H) := (rvput_tri n).at rfl rfl H

/-- what Take answers -/
def vtakeV (l : List UInt8) : V := .tup [.int .i64 (vtake l).1, .int .i64 (vtake l).2.1, .int .i64 (vtake l).2.2]

theorem u8lt (c : UInt8) : ((c.toNat : Int) < 128) = (c.toNat < 128) := by rw [eq_iff_iff]; omega

theorem vtake_tri (l : List UInt8) (hl : l.length ≤ 70368744177664) : Tri Tryz.prog 78 [.str l] [] (fun v H => v = vtakeV l ∧ H = []) := by
  refine Tri.of_run' Tryz.func78 rfl c78_ok (by simp [Tryz.ntmps78]) ?_
  (repeat (first | refine Run.adm rfl ?_ | refine Run.seq ?_ | ((first | apply Run.opS rfl | apply Run.condS); (· (simp -implicitDefEqProofs; first | exact ⟨rfl, rfl⟩ | exact rfl)))))
  refine Run.loopC [] (fun (a : Nat × Nat) => ([(0, .str l), (5, .int .i64 a.2), (8, .int .i64 a.1)], [])) (fun a => a.1 ≤ 9 ∧ a.1 ≤ l.length ∧ a.2 < 128 ^ a.1 ∧ vtakeGo (9 - a.1) (l.drop a.1) a.1 a.2 = vtake l) (fun a => 9 - a.1) (0, 0)
    ⟨by simp, by simp, by simp, by simp [vtake]⟩ (by rfl) (by decide) (by simp) (by simp) ?_
  rintro ⟨k, n⟩ ⟨hk, hkl, hn, hgo⟩ ih
  simp only at hk hkl hn hgo ih ⊢
  by_cases h9 : k < 9
  · have h9' : (k : Int) < 9 := by omega
    obtain ⟨m, hm⟩ : ∃ m, 9 - k = m + 1 := ⟨8 - k, by omega⟩
    rw [hm] at hgo
    by_cases hkL : k = l.length
    · subst hkL
      rw [List.drop_length, vtakeGo] at hgo
      (repeat (first | refine Run.adm rfl ?_ | refine Run.seq ?_ | ((first | apply Run.opS rfl | apply Run.condS); (· (simp -implicitDefEqProofs [h9']; first | exact ⟨rfl, rfl⟩ | exact rfl)))))
      refine Run.retI Tryz.func78 r78_ok trivial (by simp -implicitDefEqProofs [r78]; rfl) (by simp ) ?_ (by simp -implicitDefEqProofs ) (by simp -implicitDefEqProofs )
      simp [vtakeV, ← hgo]
    · have hkL' : ¬ (k : Int) = (l.length : Int) := by omega
      obtain ⟨c, hc, hdrop⟩ : ∃ c, l[k]? = some c ∧ l.drop k = c :: l.drop (k + 1) := ⟨l[k]'(by omega), by simp [show k < l.length by omega], List.drop_eq_getElem_cons (by omega)⟩
      rw [hdrop, vtakeGo] at hgo
      have hc256 := c.toNat_lt
      obtain ⟨c7, hc7⟩ : ∃ c7, c7 = c.toNat % 128 := ⟨_, rfl⟩
      obtain ⟨ho1, ho2⟩ := or_step (n := n) (c := c7) (k := k) (by omega) hn (by omega)
      have hand := and127_u8 c.toNat (by omega)
      rw [← hc7] at hand hgo
      have hm0 : 0 ≤ IntKind.i64.wrap (7 * (k : Int)) := by rw [wrap_small (by omega) (by omega)]; omega
      have hcw : IntKind.i64.wrap (c7 : Int) = (c7 : Int) := wrap_small (by omega) (by omega)
      generalize hn' : n + c7 * 128 ^ k = n' at ho1 ho2 hgo
      have hw := wrap_small (n := (k : Int) + 1) (by omega) (by omega)
      (repeat (first | refine Run.adm rfl ?_ | refine Run.seq ?_ | ((first | apply Run.opS rfl | apply Run.condS); (· (simp -implicitDefEqProofs [h9', hkL', hc, hand, hcw, hm0, ho1]; first | exact ⟨rfl, rfl⟩ | exact rfl)))))
      by_cases hb : 128 ≤ c.toNat
      · have hb' : (128 : Int) ≤ c.toNat := by omega
        (repeat (first | refine Run.adm rfl ?_ | refine Run.seq ?_ | ((first | apply Run.opS rfl | apply Run.condS); (· (simp -implicitDefEqProofs [hb, hb']; first | exact ⟨rfl, rfl⟩ | exact rfl)))))
        refine Run.mv [] _ _ (by rfl) (by decide) (by simp -implicitDefEqProofs [hw]) (by simp -implicitDefEqProofs [hw]) (ih ((k + 1, n')) ?_ ?_)
        · rw [if_pos hb] at hgo
          exact ⟨by omega, by simp only; omega, ho2, by simp only; rw [show 9 - (k + 1) = m by omega]; exact hgo⟩
        · simp only; omega
      · have hb' : ¬ (128 : Int) ≤ c.toNat := by omega
        have e : c7 = c.toNat := by rw [hc7]; exact Nat.mod_eq_of_lt (by omega)
        rw [if_neg hb, ← e, hn', e] at hgo
        by_cases hbad : (0 < k ∧ c.toNat = 0) ∨ 4611686018427387904 < n'
        · rw [if_pos hbad] at hgo
          have hfin : vtakeV l = .tup [.int .i64 0, .int .i64 0, .int .i64 11] := by simp [vtakeV, ← hgo]
          rcases hbad with ⟨hk0, hc0⟩ | hbig
          · (repeat (first | refine Run.adm rfl ?_ | refine Run.seq ?_ | ((first | apply Run.opS rfl | apply Run.condS); (· (simp -implicitDefEqProofs [hb, hb', hk0, hc0]; first | exact ⟨rfl, rfl⟩ | exact rfl)))))
            refine Run.retI Tryz.func78 r78_ok trivial (by simp -implicitDefEqProofs [r78]; rfl) (by simp ) ?_ (by simp -implicitDefEqProofs ) (by simp -implicitDefEqProofs )
            simp [hfin]
          · have hbig' : (4611686018427387904 : Int) < n' := by omega
            by_cases hz : 0 < k ∧ c.toNat = 0
            · (repeat (first | refine Run.adm rfl ?_ | refine Run.seq ?_ | ((first | apply Run.opS rfl | apply Run.condS); (· (simp -implicitDefEqProofs [hb, hb', hz]; first | exact ⟨rfl, rfl⟩ | exact rfl)))))
              refine Run.retI Tryz.func78 r78_ok trivial (by simp -implicitDefEqProofs [r78]; rfl) (by simp ) ?_ (by simp -implicitDefEqProofs ) (by simp -implicitDefEqProofs )
              simp [hfin]
            · by_cases hk0 : 0 < k
              · have hc0 : ¬ c.toNat = 0 := fun h => hz ⟨hk0, h⟩
                (repeat (first | refine Run.adm rfl ?_ | refine Run.seq ?_ | ((first | apply Run.opS rfl | apply Run.condS); (· (simp -implicitDefEqProofs [hb, hb', hk0, hc0, hbig, hbig']; first | exact ⟨rfl, rfl⟩ | exact rfl)))))
                refine Run.retI Tryz.func78 r78_ok trivial (by simp -implicitDefEqProofs [r78]; rfl) (by simp ) ?_ (by simp -implicitDefEqProofs ) (by simp -implicitDefEqProofs )
                simp [hfin]
              · (repeat (first | refine Run.adm rfl ?_ | refine Run.seq ?_ | ((first | apply Run.opS rfl | apply Run.condS); (· (simp -implicitDefEqProofs [hb, hb', hk0, hbig, hbig']; first | exact ⟨rfl, rfl⟩ | exact rfl)))))
                refine Run.retI Tryz.func78 r78_ok trivial (by simp -implicitDefEqProofs [r78]; rfl) (by simp ) ?_ (by simp -implicitDefEqProofs ) (by simp -implicitDefEqProofs )
                simp [hfin]
        · rw [if_neg hbad] at hgo
          have hfin : vtakeV l = .tup [.int .i64 n', .int .i64 (k + 1), .int .i64 0] := by simp [vtakeV, ← hgo]
          have hsm : ¬ 4611686018427387904 < n' := fun h => hbad (.inr h)
          have hsm' : ¬ (4611686018427387904 : Int) < n' := by omega
          by_cases hk0 : 0 < k
          · have hc0 : ¬ c.toNat = 0 := fun h => hbad (.inl ⟨hk0, h⟩)
            (repeat (first | refine Run.adm rfl ?_ | refine Run.seq ?_ | ((first | apply Run.opS rfl | apply Run.condS); (· (simp -implicitDefEqProofs [hb, hb', hk0, hc0, hsm, hsm', hw]; first | exact ⟨rfl, rfl⟩ | exact rfl)))))
            refine Run.retI Tryz.func78 r78_ok trivial (by simp -implicitDefEqProofs [r78]; rfl) (by simp ) ?_ (by simp -implicitDefEqProofs ) (by simp -implicitDefEqProofs )
            simp [hfin]
          · (repeat (first | refine Run.adm rfl ?_ | refine Run.seq ?_ | ((first | apply Run.opS rfl | apply Run.condS); (· (simp -implicitDefEqProofs [hb, hb', hk0, hsm, hsm', hw]; first | exact ⟨rfl, rfl⟩ | exact rfl)))))
            refine Run.retI Tryz.func78 r78_ok trivial (by simp -implicitDefEqProofs [r78]; rfl) (by simp ) ?_ (by simp -implicitDefEqProofs ) (by simp -implicitDefEqProofs )
            simp [hfin]
  · have h9' : ¬ (k : Int) < 9 := by omega
    have : k = 9 := by omega
    subst this
    (repeat (first | refine Run.adm rfl ?_ | refine Run.seq ?_ | ((first | apply Run.opS rfl | apply Run.condS); (· (simp -implicitDefEqProofs; first | exact ⟨rfl, rfl⟩ | exact rfl)))))
    refine Run.retI Tryz.func78 r78_ok trivial (by simp -implicitDefEqProofs [r78]; rfl) (by simp ) ?_ (by simp -implicitDefEqProofs ) (by simp -implicitDefEqProofs )
    simp [vtakeV, ← hgo, vtakeGo]

end Go.Proofs.YthphkcpbglhabaaGreatDoor
