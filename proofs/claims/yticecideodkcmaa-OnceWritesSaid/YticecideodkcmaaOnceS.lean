/-
  Layer 14, part S: what comes in, as the data of part A.
-/
import Derived.Test.YticecideodkcmaaOnceR
import Derived.Test.YticecideodkcmaaEnt
namespace Go.Proofs.Yticecideodkcmaa
open Sx Go
set_option maxRecDepth 100000
set_option linter.unusedSimpArgs false
set_option linter.unusedVariables false
set_option linter.unnecessarySimpa false

def pairSh : List CSh := [.s, .s]
def seenSh : List CSh := [.i .i64, .i .i64, .i .i64, .s, .b, .l pairSh, .s]

theorem dec_pair (e : List V) (h : VShs pairSh e) : ∃ p, e = encP p := by
  unfold pairSh at h
  obtain ⟨a1, r1, rfl, g1, h1⟩ := dec_cons h; obtain ⟨x, rfl⟩ := dec_s g1
  obtain ⟨b2, r2, rfl, g2, h2⟩ := dec_cons h1; obtain ⟨y, rfl⟩ := dec_s g2
  obtain rfl := dec_nil h2
  exact ⟨(x, y), rfl⟩
theorem dec_seen (e : List V) (h : VShs seenSh e) : ∃ x, e = encS x := by
  unfold seenSh at h
  obtain ⟨a1, r1, rfl, g1, h1⟩ := dec_cons h; obtain ⟨n1, rfl, _⟩ := dec_i g1
  obtain ⟨a2, r2, rfl, g2, h2⟩ := dec_cons h1; obtain ⟨n2, rfl, _⟩ := dec_i g2
  obtain ⟨a3, r3, rfl, g3, h3⟩ := dec_cons h2; obtain ⟨n3, rfl, _⟩ := dec_i g3
  obtain ⟨a4, r4, rfl, g4, h4⟩ := dec_cons h3; obtain ⟨s1, rfl⟩ := dec_s g4
  obtain ⟨a5, r5, rfl, g5, h5⟩ := dec_cons h4; obtain ⟨b1, rfl⟩ := dec_b g5
  obtain ⟨a6, r6, rfl, g6, h6⟩ := dec_cons h5; obtain ⟨l, rfl⟩ := dec_sl (n := 2) rfl dec_pair g6
  obtain ⟨a7, r7, rfl, g7, h7⟩ := dec_cons h6; obtain ⟨s2, rfl⟩ := dec_s g7
  obtain rfl := dec_nil h7
  exact ⟨⟨n1, n2, n3, s1, b1, l, s2⟩, rfl⟩
theorem dec_two (e : List V) (h : VShs [.i .i64, .i .i64] e) : ∃ a b, e = [.int .i64 a, .int .i64 b] := by
  obtain ⟨a1, r1, rfl, g1, h1⟩ := dec_cons h; obtain ⟨n1, rfl, _⟩ := dec_i g1
  obtain ⟨a2, r2, rfl, g2, h2⟩ := dec_cons h1; obtain ⟨n2, rfl, _⟩ := dec_i g2
  obtain rfl := dec_nil h2
  exact ⟨n1, n2, rfl⟩
theorem dec_seens {v : V} (h : VSh (.l seenSh) v) : ∃ l : List Seen, v = .vs (l.map encS) 7 := dec_sl rfl dec_seen h
theorem dec_pairs {v : V} (h : VSh (.l pairSh) v) : ∃ l : List (List UInt8 × List UInt8), v = .vs (l.map encP) 2 := dec_sl rfl dec_pair h

end Go.Proofs.Yticecideodkcmaa
