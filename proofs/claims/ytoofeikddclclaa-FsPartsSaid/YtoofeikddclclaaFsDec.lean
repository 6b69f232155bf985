/-
  Layer 05: what comes in.
-/
import Derived.Test.YtoofeikddclclaaFsK
import Derived.Test.YtoofeikddclclaaEnt
namespace Go.Proofs.Ytoofeikddclclaa
open Sx Go
set_option maxRecDepth 100000
set_option linter.unusedSimpArgs false
set_option linter.unusedVariables false
set_option linter.unnecessarySimpa false

theorem dec_str1 (e : List V) (h : VShs [.s] e) : ∃ x : Bs, e = encS x := by
  obtain ⟨a1, r1, rfl, g1, h1⟩ := dec_cons h; obtain ⟨s, rfl⟩ := dec_s g1
  obtain rfl := dec_nil h1
  exact ⟨s, rfl⟩
theorem dec_strs {v : V} (h : VSh (.l [.s]) v) : ∃ l : List Bs, v = .vs (l.map encS) 1 := dec_sl rfl dec_str1 h
theorem dec_num (e : List V) (h : VShs [.i .i64] e) : ∃ x : Int, e = encN x := by
  obtain ⟨a1, r1, rfl, g1, h1⟩ := dec_cons h; obtain ⟨s, rfl, -⟩ := dec_i g1
  obtain rfl := dec_nil h1
  exact ⟨s, rfl⟩
theorem dec_nums {v : V} (h : VSh (.l [.i .i64]) v) : ∃ l : List Int, v = .vs (l.map encN) 1 := dec_sl rfl dec_num h
theorem dec_two (e : List V) (h : VShs [.s, .s] e) : ∃ a b, e = [.str a, .str b] := by
  obtain ⟨v1, r1, rfl, g1, h1⟩ := dec_cons h; obtain ⟨a, rfl⟩ := dec_s g1
  obtain ⟨v2, r2, rfl, g2, h2⟩ := dec_cons h1; obtain ⟨b, rfl⟩ := dec_s g2
  obtain rfl := dec_nil h2
  exact ⟨a, b, rfl⟩

end Go.Proofs.Ytoofeikddclclaa
