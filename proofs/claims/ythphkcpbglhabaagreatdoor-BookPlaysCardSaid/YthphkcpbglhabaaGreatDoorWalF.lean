/-
  Layer 06, part F: the number of a log's file.
-/
import Derived.Test.YthphkcpbglhabaaGreatDoorWalE
import Derived.Test.YthphkcpbglhabaaGreatDoorEnt
import Derived.WalkKit
import Derived.BigCall
import Derived.Shelf.Strconv.AtoiAll
namespace Go.Proofs.YthphkcpbglhabaaGreatDoor
open Sx Go Go.RowKit Go.Shelf
set_option maxRecDepth 100000
set_option linter.unusedSimpArgs false
set_option linter.unusedVariables false
set_option linter.unnecessarySimpa false

theorem glw_below {w w' : World} (h : GlW w) (hb : Below w.heap.size w w') : GlW w' := fun b cs hc => by
  have h1 := h b cs hc
  obtain ⟨e, fr, h2⟩ := roOf_some h1
  have h3 : w'.heap[b]? = some (.cells cs e fr) := (hb.block b (Array.getElem?_eq_some_iff.1 h2).1).trans h2
  simp only [roOf, h3]
theorem hrel_glw {c : Ctx} {w : World} {H : List O} (hh : HRel c w H) : GlW w := fun b cs hc => by
  obtain ⟨e, fr, h2⟩ := hh.ro b cs (hh.glob b cs hc)
  simp only [roOf, h2]
theorem lname_calls (i : Nat) (hi : i < 100) (w : World) (hg : GlW w) : Calls Tryz.prog 72 #[.int .i64 i] w fun e w' => e = .returned (.string ⟨(logN i).toArray⟩) ∧ Below w.heap.size w w' := by
  have hh : HRel ⟨Pl.none, roOf w⟩ w [] := ⟨fun b cs hb => roOf_some hb, fun i p h => (by cases h), fun i o h => (by simp at h), fun i j p q hi => (by obtain ⟨o, ho, _⟩ := hi; simp at ho), hg⟩
  refine ((lname_tri i hi).2 ⟨Pl.none, roOf w⟩ w #[.int .i64 i] hh (vrelsC (.int ..) vrels0)).mono ?_
  rintro e w' ⟨v, H', c', cv, ⟨rfl, rfl⟩, rfl, hv, _, hadv⟩
  rw [hv.str_inv]
  refine ⟨rfl, hadv.os, hadv.tape, hadv.output, hadv.size, fun k hk => hadv.frame k hk ?_⟩
  rintro ⟨i, p, ⟨o, ho, _⟩, _⟩
  simp at ho

theorem logN_atoi : ∀ i, i < 100 → Lib.atoiAll ((logN i).drop 4) = .ok (i : Int) := by decide +kernel

theorem number_calls (i : Nat) (hi : i < 100) (w : World) (hg : GlW w) : Calls Tryz.prog 122 #[.string ⟨(logN i).toArray⟩] w fun e w' => e = .returned (.tuple #[.int .i64 i, .bool true]) ∧ Below w.heap.size w w' := by
  obtain ⟨h1, h2, h3⟩ := logN_ok i hi
  have ht : ∀ W, Calls Tryz.prog 159 #[.string ⟨(logN i).toArray⟩, .string ⟨#[108, 111, 103, 45]⟩] W fun e w' => e = .returned (.string ⟨((logN i).drop 4).toArray⟩) ∧ w' = W := fun W => by
    have h : Calls Tryz.prog 159 #[.string ⟨(logN i).toArray⟩, .string ⟨#[108, 111, 103, 45]⟩] W fun e w' => e = .returned (.string ⟨(Lib.trimPrefix (⟨(logN i).toArray⟩ : ByteArray).data.toList (⟨#[108, 111, 103, 45]⟩ : ByteArray).data.toList).toArray⟩) ∧ w' = W := Any.strings_TrimPrefix Tryz.trim159 ⟨(logN i).toArray⟩ ⟨#[108, 111, 103, 45]⟩ W
    simpa [h3] using h
  have hl4 : ((logN i).drop 4).length = 8 := by rw [List.length_drop, h2]
  have ha : ∀ W, Calls Tryz.prog 158 #[.string ⟨((logN i).drop 4).toArray⟩] W fun e w' => e = .returned (.tuple #[.int .i64 (i : Int), .nilIface]) ∧ (w' = W ∨ ∃ t, w' = Lib.bytesWorld W 5 t) := fun W =>
    Any.strconv_Atoi_ok Tryz.atoi158 ⟨((logN i).drop 4).toArray⟩ (by show ((logN i).drop 4).toArray.size ≤ _; rw [List.size_toArray, hl4]; decide) i (by simpa using logN_atoi i hi) W
  have i1 : (0 : Int) ≤ i := by omega
  have i2 : (i : Int) ≤ 99999998 := by omega
  go_enter Tryz.func122, Tryz.ntmps122
  go_wp2_with (first
    | (go_at_call 159; refine (ht _).mono ?_; rintro e w' ⟨rfl, rfl⟩)
    | (go_at_call 158; refine (ha _).mono ?_; rintro e w' ⟨rfl, (rfl | ⟨t, rfl⟩)⟩)
    | (go_at_call 72; refine (lname_calls i hi _ (by first | exact hg | exact glw_below hg (Lib.bytesWorld_below _ 5 _))).mono ?_; rintro e w' ⟨rfl, hb⟩))
  · go_ret2
    exact ⟨rfl, hb⟩
  · go_ret2
    exact ⟨rfl, (Lib.bytesWorld_below _ 5 _).trans (hb.mono (Lib.bytesWorld_below _ 5 _).size)⟩
theorem number_at (i : Nat) (hi : i < 100) (H : List O) : Tri Tryz.prog 122 [.str (logN i)] H (fun v H' => v = .tup [.int .i64 i, .bool true] ∧ H' = H) := by
  refine ⟨⟨Tryz.f122, Tryz.func122, by kernel_rfl, by kernel_rfl⟩, fun c w cargs hh hv => ?_⟩
  have hsz : cargs.size = 1 := by rw [← hv.1]; rfl
  have ha := (hv.2 0 (by simp) (by omega)).str_inv
  rw [args1 hsz, ha]
  refine Calls.mono (number_calls i hi w (hrel_glw hh)) ?_
  rintro e w' ⟨rfl, hbl⟩
  obtain ⟨g1, g2⟩ := hh.below hbl
  refine ⟨_, _, c, _, ⟨rfl, rfl⟩, rfl, ?_, g1, g2⟩
  refine .tup _ _ _ rfl fun j h h' => ?_
  have : j = 0 ∨ j = 1 := by simp at h; omega
  rcases this with rfl | rfl
  · exact .int ..
  · exact .bool ..

end Go.Proofs.YthphkcpbglhabaaGreatDoor
