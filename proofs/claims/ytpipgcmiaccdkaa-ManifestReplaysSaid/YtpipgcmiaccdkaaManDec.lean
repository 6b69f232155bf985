/-
  Layer 12: what comes in.
-/
import Derived.Test.YtpipgcmiaccdkaaManZf
import Derived.Test.YtpipgcmiaccdkaaEnt
namespace Go.Proofs.Ytpipgcmiaccdkaa
open Sx Go
set_option maxRecDepth 100000
set_option linter.unusedSimpArgs false
set_option linter.unusedVariables false
set_option linter.unnecessarySimpa false

def tabSh : List CSh := [.i .i64, .i .i64, .s, .s]
def edSh : List CSh := [.l tabSh, .l [.i .i64], .i .i64, .i .i64]
theorem dec_tab (e : List V) (h : VShs tabSh e) : ∃ x, e = encT x := by
  unfold tabSh at h
  obtain ⟨v1, r1, rfl, g1, h1⟩ := dec_cons h; obtain ⟨a, rfl, -⟩ := dec_i g1
  obtain ⟨v2, r2, rfl, g2, h2⟩ := dec_cons h1; obtain ⟨b, rfl, -⟩ := dec_i g2
  obtain ⟨v3, r3, rfl, g3, h3⟩ := dec_cons h2; obtain ⟨c, rfl⟩ := dec_s g3
  obtain ⟨v4, r4, rfl, g4, h4⟩ := dec_cons h3; obtain ⟨d, rfl⟩ := dec_s g4
  obtain rfl := dec_nil h4
  exact ⟨⟨a, b, c, d⟩, rfl⟩
theorem dec_tabs {v : V} (h : VSh (.l tabSh) v) : ∃ l : List Tb, v = .vs (l.map encT) 4 := dec_sl rfl dec_tab h
theorem dec_num (e : List V) (h : VShs [.i .i64] e) : ∃ x : Int, e = encN x := by
  obtain ⟨v1, r1, rfl, g1, h1⟩ := dec_cons h; obtain ⟨a, rfl, -⟩ := dec_i g1
  obtain rfl := dec_nil h1
  exact ⟨a, rfl⟩
theorem dec_nums {v : V} (h : VSh (.l [.i .i64]) v) : ∃ l : List Int, v = .vs (l.map encN) 1 := dec_sl rfl dec_num h
theorem dec_ed (e : List V) (h : VShs edSh e) : ∃ x, e = encE x := by
  unfold edSh at h
  obtain ⟨v1, r1, rfl, g1, h1⟩ := dec_cons h; obtain ⟨a, rfl⟩ := dec_tabs g1
  obtain ⟨v2, r2, rfl, g2, h2⟩ := dec_cons h1; obtain ⟨b, rfl⟩ := dec_nums g2
  obtain ⟨v3, r3, rfl, g3, h3⟩ := dec_cons h2; obtain ⟨c, rfl, -⟩ := dec_i g3
  obtain ⟨v4, r4, rfl, g4, h4⟩ := dec_cons h3; obtain ⟨d, rfl, -⟩ := dec_i g4
  obtain rfl := dec_nil h4
  exact ⟨⟨a, b, c, d⟩, rfl⟩
theorem dec_eds {v : V} (h : VSh (.l edSh) v) : ∃ l : List Ed, v = .vs (l.map encE) 4 := dec_sl rfl dec_ed h
theorem dec_str1 (e : List V) (h : VShs [.s] e) : ∃ x : Bs, e = encS x := by
  obtain ⟨a1, r1, rfl, g1, h1⟩ := dec_cons h; obtain ⟨s, rfl⟩ := dec_s g1
  obtain rfl := dec_nil h1
  exact ⟨s, rfl⟩
theorem dec_strs {v : V} (h : VSh (.l [.s]) v) : ∃ l : List Bs, v = .vs (l.map encS) 1 := dec_sl rfl dec_str1 h
theorem dec_keys (e : List V) (h : VShs [.s, .s, .s] e) : ∃ a b c, e = [.str a, .str b, .str c] := by
  obtain ⟨v1, r1, rfl, g1, h1⟩ := dec_cons h; obtain ⟨a, rfl⟩ := dec_s g1
  obtain ⟨v2, r2, rfl, g2, h2⟩ := dec_cons h1; obtain ⟨b, rfl⟩ := dec_s g2
  obtain ⟨v3, r3, rfl, g3, h3⟩ := dec_cons h2; obtain ⟨c, rfl⟩ := dec_s g3
  obtain rfl := dec_nil h3
  exact ⟨a, b, c, rfl⟩

end Go.Proofs.Ytpipgcmiaccdkaa
