/-
  Layer 06: what comes in.
-/
import Derived.Test.YtkidkiapfjhkeaaGreatDoorWalS
import Derived.Test.YtkidkiapfjhkeaaGreatDoorEnt
import Derived.ChangeArms
namespace Go.Proofs.YtkidkiapfjhkeaaGreatDoor
open Sx Go Go.RowKit
set_option maxRecDepth 100000
set_option linter.unusedSimpArgs false
set_option linter.unusedVariables false
set_option linter.unnecessarySimpa false

theorem dec_str1 (e : List V) (h : VShs [.s] e) : ∃ x : Bs, e = encS x := by
  obtain ⟨a1, r1, rfl, g1, h1⟩ := dec_cons h; obtain ⟨s, rfl⟩ := dec_s g1
  obtain rfl := dec_nil h1
  exact ⟨s, rfl⟩
theorem dec_strs {v : V} (h : VSh (.l [.s]) v) : ∃ l : List Bs, v = .vs (l.map encS) 1 := dec_sl rfl dec_str1 h
theorem dec_num (e : List V) (h : VShs [.i .i64] e) : ∃ x : Int, e = encN x := by
  obtain ⟨a1, r1, rfl, g1, h1⟩ := dec_cons h; obtain ⟨s, rfl, -⟩ := dec_i g1
  obtain rfl := dec_nil h1
  exact ⟨s, rfl⟩
theorem dec_nums {v : V} (h : VSh (.l [.i .i64]) v) : ∃ l : List Int, v = .vs (l.map encN) 1 := dec_sl rfl dec_num h
theorem dec_twoI (e : List V) (h : VShs [.i .i64, .i .i64] e) : ∃ a b, e = [.int .i64 a, .int .i64 b] := by
  obtain ⟨v1, r1, rfl, g1, h1⟩ := dec_cons h; obtain ⟨a, rfl, -⟩ := dec_i g1
  obtain ⟨v2, r2, rfl, g2, h2⟩ := dec_cons h1; obtain ⟨b, rfl, -⟩ := dec_i g2
  obtain rfl := dec_nil h2
  exact ⟨a, b, rfl⟩
/-- a text that came in is not longer than a text may be -/
theorem str_len {H : Type} {enc : TypeId × Value → H} {P : Program} {w : World} {t : TypeId} {v : Value} {d ps} {l : Bs} (hu : P.underlying t = some .string) (h : DataW.Trod enc P w 0 (fun _ => true) true t v d ps) {ro m} (hv : VRel ro m (.str l) v) : l.length ≤ 9223372036854775807 := by
  obtain ⟨fuel, h⟩ := h
  have hv' := hv.str_inv
  subst hv'
  obtain ⟨s, h1, -, h2⟩ := DataW.trod_string hu h
  have h3 : s = ⟨l.toArray⟩ := by
    have : (Value.string ⟨l.toArray⟩).cells.toList = [.string ⟨l.toArray⟩] := rfl
    rw [this] at h1
    injection h1 with h1
    injection h1 with h1
    exact h1.symm
  subst h3
  have h4 : (⟨l.toArray⟩ : ByteArray).size = l.length := by show l.toArray.size = _; simp
  have : maxLen = 9223372036854775807 := by decide
  omega

end Go.Proofs.YtkidkiapfjhkeaaGreatDoor
