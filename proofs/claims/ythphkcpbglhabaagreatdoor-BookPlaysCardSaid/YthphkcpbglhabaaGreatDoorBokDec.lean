/-
  Layer 18: what comes in.
-/
import Derived.Test.YthphkcpbglhabaaGreatDoorBokG
import Derived.Test.YthphkcpbglhabaaGreatDoorEnt
namespace Go.Proofs.YthphkcpbglhabaaGreatDoor
open Sx Go Go.RowKit
set_option maxRecDepth 100000
set_option linter.unusedSimpArgs false
set_option linter.unusedVariables false
set_option linter.unnecessarySimpa false

theorem dec_num (e : List V) (h : VShs [.i .i64] e) : ∃ x : Int, e = encN x := by
  obtain ⟨a1, r1, rfl, g1, h1⟩ := dec_cons h; obtain ⟨s, rfl, -⟩ := dec_i g1
  obtain rfl := dec_nil h1
  exact ⟨s, rfl⟩
theorem dec_nums {v : V} (h : VSh (.l [.i .i64]) v) : ∃ l : List Int, v = .vs (l.map encN) 1 := dec_sl rfl dec_num h
/-- a call -/
structure ActB where
  kind : Int
  move : Int
  ids : List Int
  keep : List Int
def encA (a : ActB) : List V := [.int .i64 a.kind, .int .i64 a.move, .vs (a.ids.map encN) 1, .vs (a.keep.map encN) 1]
theorem dec_act (e : List V) (h : VShs [.i .i64, .i .i64, .l [.i .i64], .l [.i .i64]] e) : ∃ x, e = encA x := by
  obtain ⟨v1, r1, rfl, g1, h1⟩ := dec_cons h; obtain ⟨a, rfl, -⟩ := dec_i g1
  obtain ⟨v2, r2, rfl, g2, h2⟩ := dec_cons h1; obtain ⟨b, rfl, -⟩ := dec_i g2
  obtain ⟨v3, r3, rfl, g3, h3⟩ := dec_cons h2; obtain ⟨c, rfl⟩ := dec_nums g3
  obtain ⟨v4, r4, rfl, g4, h4⟩ := dec_cons h3; obtain ⟨d, rfl⟩ := dec_nums g4
  obtain rfl := dec_nil h4
  exact ⟨⟨a, b, c, d⟩, rfl⟩
theorem dec_acts {v : V} (h : VSh (.l [.i .i64, .i .i64, .l [.i .i64], .l [.i .i64]]) v) : ∃ l : List ActB, v = .vs (l.map encA) 4 := dec_sl rfl dec_act h

end Go.Proofs.YthphkcpbglhabaaGreatDoor
