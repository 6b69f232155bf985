/-
  Layer 05, part J: which names may be; lists that are the same.
-/
import Derived.Test.YtkidkiapfjhkeaaGreatDoorFsI
import Derived.Laws.RangeString
namespace Go.Proofs.YtkidkiapfjhkeaaGreatDoor
open Sx Go
set_option maxRecDepth 100000
set_option linter.unusedSimpArgs false
set_option linter.unusedVariables false
set_option linter.unnecessarySimpa false
attribute [local simp] stepV condR boundsC appendG appendO copyV srcC guardB isCall opStep Opd.ev put readAt aBin aUn args0 V.celled V.ones V.one V.cells putAt bounds bound1 elemsOf srcOf appendV fillAt fillEl V.pures V.pure unwind evs ARes.ev mkRes V.ren V.renL O.ren eqCells eq1 aEq aMM hasTy hasTyN okTy mmGo Known HLe OLe VsLe.refl VLe.refl VLe.cap Stay VsLe V.frz V.frzL O.frz fr clearV rn KnownR Objs OLeO ObjsE nm back setAll ren_ite take_map_len List.take_of_length_le
attribute [local simp ↓] upd_app tl_cons tl_nil
attribute [local simp] encS_ren encS_ones encS_len encS_take KnownS VLe.refl

theorem take_eq_drop {α} [DecidableEq α] {a b : List α} {i : Nat} (ha : i < a.length) (hb : i < b.length) (h : a.take i = b.take i) (he : a[i] = b[i]) : a.take (i + 1) = b.take (i + 1) := by
  rw [List.take_add_one, List.take_add_one, h, List.getElem?_eq_getElem ha, List.getElem?_eq_getElem hb, he]

theorem same_tri (a b : List Bs) (hl : a.length ≤ 4611686018427387904) : Tri Tryz.prog 16 [.vs (a.map encS) 1, .vs (b.map encS) 1] [] (fun v H => v = .bool (decide (a = b)) ∧ H = []) := by
  refine Tri.of_run' Tryz.func16 rfl c16_ok (by simp [Tryz.ntmps16]) ?_
  by_cases hlen : a.length = b.length
  rotate_left
  · have hlen' : ¬ (a.length : Int) = b.length := by omega
    have hne : ¬ a = b := fun h => hlen (by rw [h])
    (repeat (first | refine Run.adm rfl ?_ | refine Run.seq ?_ | ((first | apply Run.opS rfl | apply Run.condS); (· (simp -implicitDefEqProofs [hlen, hlen']; first | exact ⟨rfl, rfl⟩ | exact rfl)))))
    refine Run.retI Tryz.func16 r16_ok trivial (by simp -implicitDefEqProofs [r16]; rfl) (by simp ) ?_ (by simp -implicitDefEqProofs ) (by simp -implicitDefEqProofs )
    simp [hne]
  have hlen' : (a.length : Int) = b.length := by omega
  (repeat (first | refine Run.adm rfl ?_ | refine Run.seq ?_ | ((first | apply Run.opS rfl | apply Run.condS); (· (simp -implicitDefEqProofs [hlen, hlen']; first | exact ⟨rfl, rfl⟩ | exact rfl)))))
  refine Run.loopC [] (fun (i : Nat) => ([(0, .vs (a.map encS) 1), (1, .vs (b.map encS) 1), (5, .int .i64 i)], [])) (fun i => i ≤ a.length ∧ a.take i = b.take i) (fun i => a.length - i) 0 (by simp) (by rfl) (by decide) (by simp) (by simp) ?_
  rintro i ⟨hi, htk⟩ ih
  by_cases hlt : i < a.length
  · have hltb : i < b.length := by omega
    obtain ⟨x, hx, hxi, -, -⟩ := getL hlt
    obtain ⟨y, hy, hyi, -, -⟩ := getL hltb
    have hw := wrap_small (n := (i : Int) + 1) (by omega) (by omega)
    (repeat (first | refine Run.adm rfl ?_ | refine Run.seq ?_ | ((first | apply Run.opS rfl | apply Run.condS); (· (simp -implicitDefEqProofs [hlt]; first | exact ⟨rfl, rfl⟩ | exact rfl)))))
    refine Run.quietM prog_mixed (by kernel_rfl) [] [(0, .vs (a.map encS) 1), (1, .vs (b.map encS) 1), (5, .int .i64 i), (25, .bool (!decide (x = y)))] [] (by rfl) (by decide) ?_ ?_
    · (repeat (first | refine execQ_E rfl ?_ | (apply execQ_S rfl; (· (simp -implicitDefEqProofs [hlt, hltb, hx, hxi, hy, hyi, encS]; exact ⟨rfl, rfl⟩)))))
      simp
    by_cases hxy : x = y
    · (repeat (first | refine Run.adm rfl ?_ | refine Run.seq ?_ | ((first | apply Run.opS rfl | apply Run.condS); (· (simp -implicitDefEqProofs [hxy]; first | exact ⟨rfl, rfl⟩ | exact rfl)))))
      refine Run.mv [] _ _ (by rfl) (by decide) (by simp -implicitDefEqProofs [hw]) (by simp -implicitDefEqProofs [hw]) (ih (i + 1) ?_ ?_)
      · exact ⟨by omega, take_eq_drop hlt hltb htk (by rw [hxi, hyi, hxy])⟩
      · omega
    · (repeat (first | refine Run.adm rfl ?_ | refine Run.seq ?_ | ((first | apply Run.opS rfl | apply Run.condS); (· (simp -implicitDefEqProofs [hxy]; first | exact ⟨rfl, rfl⟩ | exact rfl)))))
      refine Run.retI Tryz.func16 r16_ok trivial (by simp -implicitDefEqProofs [r16]; rfl) (by simp ) ?_ (by simp -implicitDefEqProofs ) (by simp -implicitDefEqProofs )
      have : ¬ a = b := by rintro rfl; rw [hxi] at hyi; exact hxy hyi
      simp [this]
  · have : i = a.length := by omega
    subst this
    (repeat (first | refine Run.adm rfl ?_ | refine Run.seq ?_ | ((first | apply Run.opS rfl | apply Run.condS); (· (simp -implicitDefEqProofs; first | exact ⟨rfl, rfl⟩ | exact rfl)))))
    refine Run.retI Tryz.func16 r16_ok trivial (by simp -implicitDefEqProofs [r16]; rfl) (by simp ) ?_ (by simp -implicitDefEqProofs ) (by simp -implicitDefEqProofs )
    have : a = b := by rw [List.take_length, List.take_of_length_le (by omega)] at htk; exact htk
    simp [this]
theorem same_at (a b : List Bs) (hl : a.length ≤ 4611686018427387904) (H : List O) : Tri Tryz.prog 16 [.vs (a.map encS) 1, .vs (b.map encS) 1] H (fun v H' => v = .bool (decide (a = b)) ∧ H' = H) := (same_tri a b hl).at rfl rfl H

def okB (b : UInt8) : Bool := !oddP b.toNat
theorem idx_ok (s : Bs) (h : s.all okB = true) : ∀ f pos, Lib.idxFuncFrom oddP true ⟨s.toArray⟩ f pos = -1
  | 0, _ => rfl
  | f + 1, pos => by
    unfold Lib.idxFuncFrom
    by_cases hp : pos < (⟨s.toArray⟩ : ByteArray).size
    · have hp' : pos < s.length := by
        have : (⟨s.toArray⟩ : ByteArray).size = s.length := by show s.toArray.size = _; simp
        omega
      have hg : ((⟨s.toArray⟩ : ByteArray)[pos]'hp) = s[pos] := by
        show s.toArray[pos] = s[pos]; simp
      have ho := List.all_eq_true.1 h s[pos] (List.getElem_mem hp')
      have ha : (s[pos]).toNat < 128 := by
        simp only [okB, oddP, Bool.not_eq_true', Bool.and_eq_false_iff, Bool.or_eq_false_iff, decide_eq_false_iff_not, Bool.not_eq_false', decide_eq_true_eq] at ho
        omega
      have hd := decode_ascii ⟨s.toArray⟩ pos hp (by rw [hg]; exact ha)
      rw [hg] at hd
      have hod : oddP (s[pos]).toNat = false := by simpa [okB] using ho
      rw [if_pos hp, hd, if_neg (by rw [hod]; simp)]
      exact idx_ok s h f _
    · rw [if_neg hp]
theorem mayN_of (s : Bs) (h : s.all okB = true) (h1 : s ≠ []) (h2 : s.length ≤ 32) : mayN s = true := by
  have : idxN s = -1 := idx_ok s h _ _
  have h3 : ¬ 32 < s.length := by omega
  simp [mayN, h1, h3, this]

def nameB (s : Bs) : Bool := s.all okB && decide (1 ≤ s.length) && decide (s.length ≤ 32)
theorem nameB_may {s : Bs} (h : nameB s = true) : mayN s = true ∧ s.length ≤ 32 := by
  simp only [nameB, Bool.and_eq_true, decide_eq_true_eq] at h
  refine ⟨mayN_of s h.1.1 ?_ h.2, h.2⟩
  rintro rfl
  simp at h

theorem name_tri (s : Bs) (hl : s.length ≤ 9223372036854775807) : Tri Tryz.prog 75 [.str s] [] (fun v H => v = .bool (nameB s) ∧ H = []) := by
  refine Tri.of_run' Tryz.func75 rfl c75_ok (by simp [Tryz.ntmps75]) ?_
  (repeat (first | refine Run.adm rfl ?_ | refine Run.seq ?_ | ((first | apply Run.opS rfl | apply Run.condS); (· (simp -implicitDefEqProofs; first | exact ⟨rfl, rfl⟩ | exact rfl)))))
  refine Run.loopC [] (fun (i : Nat) => ([(0, .str s), (3, .int .i64 i)], [])) (fun i => i ≤ s.length ∧ (s.take i).all okB = true) (fun i => s.length - i) 0 (by simp) (by rfl) (by decide) (by simp) (by simp) ?_
  rintro i ⟨hi, hall⟩ ih
  by_cases hlt : i < s.length
  · obtain ⟨x, hx, hxi, -, -⟩ := getL hlt
    have hlt' : (i : Int) < s.length := by omega
    have hw := wrap_small (n := (i : Int) + 1) (by omega) (by omega)
    have hok : okB x = !(((decide ((x.toNat : Int) < 97) || decide ((122 : Int) < x.toNat)) && (decide ((x.toNat : Int) < 48) || decide ((57 : Int) < x.toNat))) && !decide ((x.toNat : Int) = 46) && !decide ((x.toNat : Int) = 45)) := by
      have z1 : ((x.toNat : Int) < 97) ↔ x.toNat < 97 := by omega
      have z2 : ((122 : Int) < x.toNat) ↔ 122 < x.toNat := by omega
      have z3 : ((x.toNat : Int) < 48) ↔ x.toNat < 48 := by omega
      have z4 : ((57 : Int) < x.toNat) ↔ 57 < x.toNat := by omega
      have z5 : ((x.toNat : Int) = 46) ↔ x.toNat = 46 := by omega
      have z6 : ((x.toNat : Int) = 45) ↔ x.toNat = 45 := by omega
      simp only [okB, oddP, z1, z2, z3, z4, z5, z6]
    (repeat (first | refine Run.adm rfl ?_ | refine Run.seq ?_ | ((first | apply Run.opS rfl | apply Run.condS); (· (simp -implicitDefEqProofs [hlt, hlt', hx, hxi]; first | exact ⟨rfl, rfl⟩ | exact rfl)))))
    refine Run.join [(0, .str s), (3, .int .i64 i), (35, .bool (!okB x))] [] ?_ ?_
    rotate_left
    · intro k hr
      rw [hok] at hr
      by_cases a1 : (x.toNat : Int) < 97
      · by_cases a3 : (x.toNat : Int) < 48
        · by_cases a5 : (x.toNat : Int) = 46
          · (repeat (first | refine Run.adm rfl ?_ | refine Run.seq ?_ | ((first | apply Run.opS rfl | apply Run.condS); (· (simp -implicitDefEqProofs [a1, a3, a5]; first | exact ⟨rfl, rfl⟩ | exact rfl)))))
            refine Run.sl _ ?_ hr
            simp [a1, a3, a5]
          · by_cases a6 : (x.toNat : Int) = 45
            · (repeat (first | refine Run.adm rfl ?_ | refine Run.seq ?_ | ((first | apply Run.opS rfl | apply Run.condS); (· (simp -implicitDefEqProofs [a1, a3, a5, a6]; first | exact ⟨rfl, rfl⟩ | exact rfl)))))
              refine Run.sl _ ?_ hr
              simp [a1, a3, a5, a6]
            · (repeat (first | refine Run.adm rfl ?_ | refine Run.seq ?_ | ((first | apply Run.opS rfl | apply Run.condS); (· (simp -implicitDefEqProofs [a1, a3, a5, a6]; first | exact ⟨rfl, rfl⟩ | exact rfl)))))
              refine Run.sl _ ?_ hr
              simp [a1, a3, a5, a6]
        · by_cases a4 : (57 : Int) < x.toNat
          · by_cases a5 : (x.toNat : Int) = 46
            · (repeat (first | refine Run.adm rfl ?_ | refine Run.seq ?_ | ((first | apply Run.opS rfl | apply Run.condS); (· (simp -implicitDefEqProofs [a1, a3, a4, a5]; first | exact ⟨rfl, rfl⟩ | exact rfl)))))
              refine Run.sl _ ?_ hr
              simp [a1, a3, a4, a5]
            · by_cases a6 : (x.toNat : Int) = 45
              · (repeat (first | refine Run.adm rfl ?_ | refine Run.seq ?_ | ((first | apply Run.opS rfl | apply Run.condS); (· (simp -implicitDefEqProofs [a1, a3, a4, a5, a6]; first | exact ⟨rfl, rfl⟩ | exact rfl)))))
                refine Run.sl _ ?_ hr
                simp [a1, a3, a4, a5, a6]
              · (repeat (first | refine Run.adm rfl ?_ | refine Run.seq ?_ | ((first | apply Run.opS rfl | apply Run.condS); (· (simp -implicitDefEqProofs [a1, a3, a4, a5, a6]; first | exact ⟨rfl, rfl⟩ | exact rfl)))))
                refine Run.sl _ ?_ hr
                simp [a1, a3, a4, a5, a6]
          · (repeat (first | refine Run.adm rfl ?_ | refine Run.seq ?_ | ((first | apply Run.opS rfl | apply Run.condS); (· (simp -implicitDefEqProofs [a1, a3, a4]; first | exact ⟨rfl, rfl⟩ | exact rfl)))))
            refine Run.sl _ ?_ hr
            simp [a1, a3, a4]
      · by_cases a2 : (122 : Int) < x.toNat
        · by_cases a3 : (x.toNat : Int) < 48
          · by_cases a5 : (x.toNat : Int) = 46
            · (repeat (first | refine Run.adm rfl ?_ | refine Run.seq ?_ | ((first | apply Run.opS rfl | apply Run.condS); (· (simp -implicitDefEqProofs [a1, a2, a3, a5]; first | exact ⟨rfl, rfl⟩ | exact rfl)))))
              refine Run.sl _ ?_ hr
              simp [a1, a2, a3, a5]
            · by_cases a6 : (x.toNat : Int) = 45
              · (repeat (first | refine Run.adm rfl ?_ | refine Run.seq ?_ | ((first | apply Run.opS rfl | apply Run.condS); (· (simp -implicitDefEqProofs [a1, a2, a3, a5, a6]; first | exact ⟨rfl, rfl⟩ | exact rfl)))))
                refine Run.sl _ ?_ hr
                simp [a1, a2, a3, a5, a6]
              · (repeat (first | refine Run.adm rfl ?_ | refine Run.seq ?_ | ((first | apply Run.opS rfl | apply Run.condS); (· (simp -implicitDefEqProofs [a1, a2, a3, a5, a6]; first | exact ⟨rfl, rfl⟩ | exact rfl)))))
                refine Run.sl _ ?_ hr
                simp [a1, a2, a3, a5, a6]
          · by_cases a4 : (57 : Int) < x.toNat
            · by_cases a5 : (x.toNat : Int) = 46
              · (repeat (first | refine Run.adm rfl ?_ | refine Run.seq ?_ | ((first | apply Run.opS rfl | apply Run.condS); (· (simp -implicitDefEqProofs [a1, a2, a3, a4, a5]; first | exact ⟨rfl, rfl⟩ | exact rfl)))))
                refine Run.sl _ ?_ hr
                simp [a1, a2, a3, a4, a5]
              · by_cases a6 : (x.toNat : Int) = 45
                · (repeat (first | refine Run.adm rfl ?_ | refine Run.seq ?_ | ((first | apply Run.opS rfl | apply Run.condS); (· (simp -implicitDefEqProofs [a1, a2, a3, a4, a5, a6]; first | exact ⟨rfl, rfl⟩ | exact rfl)))))
                  refine Run.sl _ ?_ hr
                  simp [a1, a2, a3, a4, a5, a6]
                · (repeat (first | refine Run.adm rfl ?_ | refine Run.seq ?_ | ((first | apply Run.opS rfl | apply Run.condS); (· (simp -implicitDefEqProofs [a1, a2, a3, a4, a5, a6]; first | exact ⟨rfl, rfl⟩ | exact rfl)))))
                  refine Run.sl _ ?_ hr
                  simp [a1, a2, a3, a4, a5, a6]
            · (repeat (first | refine Run.adm rfl ?_ | refine Run.seq ?_ | ((first | apply Run.opS rfl | apply Run.condS); (· (simp -implicitDefEqProofs [a1, a2, a3, a4]; first | exact ⟨rfl, rfl⟩ | exact rfl)))))
              refine Run.sl _ ?_ hr
              simp [a1, a2, a3, a4]
        · (repeat (first | refine Run.adm rfl ?_ | refine Run.seq ?_ | ((first | apply Run.opS rfl | apply Run.condS); (· (simp -implicitDefEqProofs [a1, a2]; first | exact ⟨rfl, rfl⟩ | exact rfl)))))
          refine Run.sl _ ?_ hr
          simp [a1, a2]
    cases hb : okB x with
    | false =>
      (repeat (first | refine Run.adm rfl ?_ | refine Run.seq ?_ | ((first | apply Run.opS rfl | apply Run.condS); (· (simp -implicitDefEqProofs; first | exact ⟨rfl, rfl⟩ | exact rfl)))))
      refine Run.retI Tryz.func75 r75_ok trivial (by simp -implicitDefEqProofs [r75]; rfl) (by simp ) ?_ (by simp -implicitDefEqProofs ) (by simp -implicitDefEqProofs )
      have : s.all okB = false := by
        cases ha : s.all okB with
        | false => rfl
        | true => rw [List.all_eq_true.1 ha x (List.mem_of_getElem? hx)] at hb; cases hb
      simp [nameB, this]
    | true =>
      (repeat (first | refine Run.adm rfl ?_ | refine Run.seq ?_ | ((first | apply Run.opS rfl | apply Run.condS); (· (simp -implicitDefEqProofs; first | exact ⟨rfl, rfl⟩ | exact rfl)))))
      refine Run.mv [] _ _ (by rfl) (by decide) (by simp -implicitDefEqProofs [hw]) (by simp -implicitDefEqProofs [hw]) (ih (i + 1) ?_ ?_)
      · refine ⟨by omega, ?_⟩
        rw [List.take_add_one, hx]
        simp [List.all_append, hall, hb]
      · omega
  · have : i = s.length := by omega
    subst this
    rw [List.take_length] at hall
    by_cases h1 : 1 ≤ s.length
    · by_cases h2 : s.length ≤ 32
      · have h1' : (1 : Int) ≤ s.length := by omega
        have h2' : (s.length : Int) ≤ 32 := by omega
        (repeat (first | refine Run.adm rfl ?_ | refine Run.seq ?_ | ((first | apply Run.opS rfl | apply Run.condS); (· (simp -implicitDefEqProofs [h1, h2, h1', h2']; first | exact ⟨rfl, rfl⟩ | exact rfl)))))
        refine Run.retI Tryz.func75 r75_ok trivial (by simp -implicitDefEqProofs [r75]; rfl) (by simp ) ?_ (by simp -implicitDefEqProofs ) (by simp -implicitDefEqProofs )
        simp [nameB, hall, h1, h2]
      · have h1' : (1 : Int) ≤ s.length := by omega
        have h2' : ¬ (s.length : Int) ≤ 32 := by omega
        (repeat (first | refine Run.adm rfl ?_ | refine Run.seq ?_ | ((first | apply Run.opS rfl | apply Run.condS); (· (simp -implicitDefEqProofs [h1, h2, h1', h2']; first | exact ⟨rfl, rfl⟩ | exact rfl)))))
        refine Run.retI Tryz.func75 r75_ok trivial (by simp -implicitDefEqProofs [r75]; rfl) (by simp ) ?_ (by simp -implicitDefEqProofs ) (by simp -implicitDefEqProofs )
        simp [nameB, h2]
    · have h1' : ¬ (1 : Int) ≤ s.length := by omega
      (repeat (first | refine Run.adm rfl ?_ | refine Run.seq ?_ | ((first | apply Run.opS rfl | apply Run.condS); (· (simp -implicitDefEqProofs [h1, h1']; first | exact ⟨rfl, rfl⟩ | exact rfl)))))
      refine Run.retI Tryz.func75 r75_ok trivial (by simp -implicitDefEqProofs [r75]; rfl) (by simp ) ?_ (by simp -implicitDefEqProofs ) (by simp -implicitDefEqProofs )
      simp [nameB, h1]
theorem name_at (s : Bs) (hl : s.length ≤ 9223372036854775807) (H : List O) : Tri Tryz.prog 75 [.str s] H (fun v H' => v = .bool (nameB s) ∧ H' = H) := (name_tri s hl).at rfl rfl H

end Go.Proofs.YtkidkiapfjhkeaaGreatDoor
