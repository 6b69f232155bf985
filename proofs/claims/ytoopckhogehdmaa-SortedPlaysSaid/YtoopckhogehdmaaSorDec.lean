/-
  Layer 07: what comes in.
-/
import Derived.Test.YtoopckhogehdmaaSorR
import Derived.Test.YtoopckhogehdmaaEnt
namespace Go.Proofs.Ytoopckhogehdmaa
open Sx Go
set_option maxRecDepth 100000
set_option linter.unusedSimpArgs false
set_option linter.unusedVariables false
set_option linter.unnecessarySimpa false

theorem dec_str1 (e : List V) (h : VShs [.s] e) : ∃ x : Bs, e = encS x := by
  obtain ⟨a1, r1, rfl, g1, h1⟩ := dec_cons h; obtain ⟨s, rfl⟩ := dec_s g1
  obtain rfl := dec_nil h1
  exact ⟨s, rfl⟩
theorem dec_strs {v : V} (h : VSh (.l [.s]) v) : ∃ l : List Bs, v = .vs (l.map encS) 1 := dec_sl rfl dec_str1 h

end Go.Proofs.Ytoopckhogehdmaa
