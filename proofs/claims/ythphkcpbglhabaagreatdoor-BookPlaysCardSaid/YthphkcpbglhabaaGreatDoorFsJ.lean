/-
  Layer 05, part J: which names may be; lists that are the same.
-/
import Derived.Test.YthphkcpbglhabaaGreatDoorFsI
import Derived.Laws.RangeString
namespace Go.Proofs.YthphkcpbglhabaaGreatDoor
open Sx Go
set_option maxRecDepth 100000
set_option linter.unusedSimpArgs false
set_option linter.unusedVariables false
set_option linter.unnecessarySimpa false
attribute [local simp] stepV condR boundsC appendG appendO copyV srcC guardB isCall opStep Opd.ev put readAt aBin aUn args0 V.celled V.ones V.one V.cells putAt bounds bound1 elemsOf srcOf appendV fillAt fillEl V.pures V.pure unwind evs ARes.ev mkRes V.ren V.renL O.ren eqCells eq1 aEq aMM hasTy hasTyN okTy mmGo Known HLe OLe VsLe.refl VLe.refl VLe.cap Stay VsLe V.frz V.frzL O.frz fr clearV rn KnownR Objs OLeO ObjsE nm back setAll ren_ite take_map_len List.take_of_length_le
attribute [local simp ↓] upd_app tl_cons tl_nil
attribute [local simp] encS_ren encS_ones encS_len encS_take KnownS VLe.refl

theorem take_eq_drop {α} [DecidableEq α] {a b : List α} {i : Nat} (ha : i < a.length) (hb : i < b.length) (h : a.take i = b.take i) (he : a[i] = b[i]) : a.take (i + 1) = b.take (i + 1) := by
  rw [List.take_add_one, List.take_add_one, h, List.getElem?_eq_getElem ha, List.getElem?_eq_getElem hb, he]

def okB (b : UInt8) : Bool := !oddP b.toNat
theorem idx_ok (s : Bs) (h : s.all okB = true) : ∀ f pos, Lib.idxFuncFrom oddP true ⟨s.toArray⟩ f pos = -1
  | 0, _ => rfl
  | f + 1, pos => by
    unfold Lib.idxFuncFrom
    by_cases hp : pos < (⟨s.toArray⟩ : ByteArray).size
    · have hp' : pos < s.length := by
        have : (⟨s.toArray⟩ : ByteArray).size = s.length := by show s.toArray.size = _; simp
        omega
      have hg : ((⟨s.toArray⟩ : ByteArray)[pos]'hp) = s[pos] := by
        show s.toArray[pos] = s[pos]; simp
      have ho := List.all_eq_true.1 h s[pos] (List.getElem_mem hp')
      have ha : (s[pos]).toNat < 128 := by
        simp only [okB, oddP, Bool.not_eq_true', Bool.and_eq_false_iff, Bool.or_eq_false_iff, decide_eq_false_iff_not, Bool.not_eq_false', decide_eq_true_eq] at ho
        omega
      have hd := decode_ascii ⟨s.toArray⟩ pos hp (by rw [hg]; exact ha)
      rw [hg] at hd
      have hod : oddP (s[pos]).toNat = false := by simpa [okB] using ho
      rw [if_pos hp, hd, if_neg (by rw [hod]; simp)]
      exact idx_ok s h f _
    · rw [if_neg hp]
theorem mayN_of (s : Bs) (h : s.all okB = true) (h1 : s ≠ []) (h2 : s.length ≤ 32) : mayN s = true := by
  have : idxN s = -1 := idx_ok s h _ _
  have h3 : ¬ 32 < s.length := by omega
  simp [mayN, h1, h3, this]

def nameB (s : Bs) : Bool := s.all okB && decide (1 ≤ s.length) && decide (s.length ≤ 32)
theorem nameB_may {s : Bs} (h : nameB s = true) : mayN s = true ∧ s.length ≤ 32 := by
  simp only [nameB, Bool.and_eq_true, decide_eq_true_eq] at h
  refine ⟨mayN_of s h.1.1 ?_ h.2, h.2⟩
  rintro rfl
  simp at h

end Go.Proofs.YthphkcpbglhabaaGreatDoor
