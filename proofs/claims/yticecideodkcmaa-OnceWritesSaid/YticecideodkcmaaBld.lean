/-
  strings.Builder: what it holds.
-/
import Derived.Test.YticecideodkcmaaBase
namespace Go.Proofs.Yticecideodkcmaa
open Sx Go
set_option maxRecDepth 100000
set_option linter.unusedSimpArgs false
set_option linter.unusedVariables false
set_option linter.unnecessarySimpa false
attribute [local simp] guardB isCall opStep Opd.ev put readAt aBin aUn args0 V.celled V.ones V.one V.cells putAt bounds bound1 elemsOf srcOf appendV fillAt fillEl V.pures V.pure unwind evs ARes.ev mkRes V.ren V.renL O.ren eqCells eq1 aEq aMM hasTy hasTyN okTy mmGo Known HLe OLe VsLe.refl VLe.refl Stay VsLe V.frz V.frzL O.frz fr clearV rn KnownR Objs OLeO ObjsE nm back setAll ren_ite take_map_len List.take_of_length_le
attribute [local simp ↓] upd_app tl_cons tl_nil


/-- a builder at i (its bytes at j) that holds bytes -/
def bldA (i : Nat) (u : Bool) (j n : Nat) : List V := [if u then .ptr i 0 else .nilp, .sl j 0 n 1 none]
def bldH (u : Bool) (l : List UInt8) : List O := [.row (bldA 0 u 1 l.length), .arr (byteEls l) 1, .ty 0 68 (some 2), .ty 1 5 none]


theorem copyCheck_tri (u : Bool) (l : List UInt8) : Tri Try.prog 42 [.ptr 0 0] (bldH u l) (fun v H => v = .tup [] ∧ H = bldH true l) := by
  refine Tri.of_run' Try.func42 rfl c42_ok (by simp [Try.ntmps42]) ?_
  cases u with
  | false =>
    (repeat (first | refine Run.seq ?_ | refine Run.reg ?_ | refine Run.skip ?_ | refine Run.block ?_ | refine Run.endB ?_ | refine Run.opE rfl ?_ | (apply Run.op0 rfl; (· (simp -implicitDefEqProofs [bldH, bldA]; exact ⟨rfl, rfl⟩))) | (apply Run.opA rfl; (· (simp -implicitDefEqProofs [bldH, bldA]; done)); (· (simp -implicitDefEqProofs [bldH, bldA]; exact ⟨rfl, rfl⟩))) | (apply Run.opN rfl; (· (simp -implicitDefEqProofs [bldH, bldA]; done))) | (refine Run.condT ?_ ?_; (· (simp -implicitDefEqProofs [bldH, bldA]; done))) | (refine Run.condF ?_ ?_; (· (simp -implicitDefEqProofs [bldH, bldA]; done))) | refine Run.exit rfl ?_))
    refine Run.retI Try.func42 r42_ok trivial (by simp -implicitDefEqProofs [r42, bldH, bldA]; rfl) (by simp [bldH, bldA]) ?_ (by simp -implicitDefEqProofs [bldH, bldA]) (by simp -implicitDefEqProofs [bldH, bldA])
    simp [bldH, bldA]
  | true =>
    (repeat (first | refine Run.seq ?_ | refine Run.reg ?_ | refine Run.skip ?_ | refine Run.block ?_ | refine Run.endB ?_ | refine Run.opE rfl ?_ | (apply Run.op0 rfl; (· (simp -implicitDefEqProofs [bldH, bldA]; exact ⟨rfl, rfl⟩))) | (apply Run.opA rfl; (· (simp -implicitDefEqProofs [bldH, bldA]; done)); (· (simp -implicitDefEqProofs [bldH, bldA]; exact ⟨rfl, rfl⟩))) | (apply Run.opN rfl; (· (simp -implicitDefEqProofs [bldH, bldA]; done))) | (refine Run.condT ?_ ?_; (· (simp -implicitDefEqProofs [bldH, bldA]; done))) | (refine Run.condF ?_ ?_; (· (simp -implicitDefEqProofs [bldH, bldA]; done))) | refine Run.exit rfl ?_))
    refine Run.retI Try.func42 r42_ok trivial (by simp -implicitDefEqProofs [r42, bldH, bldA]; rfl) (by simp [bldH, bldA]) ?_ (by simp -implicitDefEqProofs [bldH, bldA]) (by simp -implicitDefEqProofs [bldH, bldA])
    simp [bldH, bldA]

theorem writeString_tri (u : Bool) (l s : List UInt8) (hs : l.length + s.length ≤ 70368744177664) :
    Tri Try.prog 35 [.ptr 0 0, .str s] (bldH u l) (fun v H => v = .tup [.int .i64 s.length, .any] ∧ H = [.row (bldA 0 true 4 (l ++ s).length), .gone, .ty 0 68 (some 2), .gone, .arr (byteEls (l ++ s)) 1, .ty 4 5 none]) := by
  refine Tri.of_run' Try.func35 rfl c35_ok (by simp [Try.ntmps35]) ?_
  (repeat (first | refine Run.seq ?_ | refine Run.reg ?_ | refine Run.skip ?_ | refine Run.block ?_ | refine Run.endB ?_ | refine Run.opE rfl ?_ | (apply Run.op0 rfl; (· (simp -implicitDefEqProofs; exact ⟨rfl, rfl⟩))) | (apply Run.opA rfl; (· (simp -implicitDefEqProofs; done)); (· (simp -implicitDefEqProofs; exact ⟨rfl, rfl⟩))) | (apply Run.opN rfl; (· (simp -implicitDefEqProofs; done))) | (refine Run.condT ?_ ?_; (· (simp -implicitDefEqProofs; done))) | (refine Run.condF ?_ ?_; (· (simp -implicitDefEqProofs; done))) | refine Run.exit rfl ?_))
  refine Run.opC rfl rfl rfl (copyCheck_tri u l) ?_
  rintro v h' ⟨rfl, rfl⟩
  (repeat (first | refine Run.seq ?_ | refine Run.reg ?_ | refine Run.skip ?_ | refine Run.block ?_ | refine Run.endB ?_ | refine Run.opE rfl ?_ | (apply Run.op0 rfl; (· (simp -implicitDefEqProofs [bldH, bldA, byteEls_len, hs]; exact ⟨rfl, rfl⟩))) | (apply Run.opA rfl; (· (simp -implicitDefEqProofs [bldH, bldA, byteEls_len, hs]; done)); (· (simp -implicitDefEqProofs [bldH, bldA, byteEls_len, hs]; exact ⟨rfl, rfl⟩))) | (apply Run.opN rfl; (· (simp -implicitDefEqProofs [bldH, bldA, byteEls_len, hs]; done))) | (refine Run.condT ?_ ?_; (· (simp -implicitDefEqProofs [bldH, bldA, byteEls_len, hs]; done))) | (refine Run.condF ?_ ?_; (· (simp -implicitDefEqProofs [bldH, bldA, byteEls_len, hs]; done))) | refine Run.exit rfl ?_))
  refine Run.mv [0, 1, 2, 3, 4, 5] [(4, .int .i64 s.length), (5, .any)] [.row (bldA 0 true 4 (l ++ s).length), .gone, .ty 0 68 (some 2), .gone, .arr (byteEls (l ++ s)) 1, .ty 4 5 none] (by rfl) (by decide) (by simp -implicitDefEqProofs [bldA, byteEls_app]) (by simp -implicitDefEqProofs [bldA, byteEls_app]) ?_
  refine Run.retI Try.func35 r35_ok trivial (by simp -implicitDefEqProofs [r35, bldA, bldH]; rfl) (by simp [bldA, bldH]) ?_ (by simp -implicitDefEqProofs [bldA, bldH]) (by simp -implicitDefEqProofs [bldA, bldH])
  simp [bldA]

theorem string_tri (l : List UInt8) (hl : l ≠ []) (hb : l.length ≤ 70368744177664) : Tri Try.prog 36 [.ptr 0 0] (bldH true l) (fun v H => v = .str l ∧ H = [.gone, .gone, .gone, .gone]) := by
  refine Tri.of_run' Try.func36 rfl c36_ok (by simp [Try.ntmps36]) ?_
  have hpos : 0 < l.length := List.length_pos_iff.2 hl
  have hpos' : 0 < (l.length : Int) := by omega
  have h63 : (l.length : Int) ≤ 9223372036854775807 := by omega
  have htk : (byteEls l).take l.length = byteEls l := by rw [List.take_of_length_le]; simp [byteEls]
  (repeat (first | refine Run.seq ?_ | refine Run.reg ?_ | refine Run.skip ?_ | refine Run.block ?_ | refine Run.endB ?_ | refine Run.opE rfl ?_ | (apply Run.op0 rfl; (· (simp -implicitDefEqProofs; exact ⟨rfl, rfl⟩))) | (apply Run.opA rfl; (· (simp -implicitDefEqProofs; done)); (· (simp -implicitDefEqProofs; exact ⟨rfl, rfl⟩))) | (apply Run.opN rfl; (· (simp -implicitDefEqProofs; done))) | (refine Run.condT ?_ ?_; (· (simp -implicitDefEqProofs; done))) | (refine Run.condF ?_ ?_; (· (simp -implicitDefEqProofs; done))) | refine Run.exit rfl ?_))
  refine Run.qchain prog_mixed 10 (by kernel_rfl) ?_
  (repeat (first | refine execQ_E rfl ?_ | (apply execQ_0 rfl; (· rfl); (· (simp -implicitDefEqProofs [bldH, bldA, hpos]; exact ⟨rfl, rfl⟩))) | (apply execQ_A rfl; (· (simp -implicitDefEqProofs [bldH, bldA, hpos]; done)); (· rfl); (· (simp -implicitDefEqProofs [bldH, bldA, hpos]; exact ⟨rfl, rfl⟩))) | (apply execQ_N rfl; (· (simp -implicitDefEqProofs [bldH, bldA, hpos]; done)))))
  (repeat (first | refine SeqR.E rfl ?_ | (apply SeqR.o0 rfl; (· (simp -implicitDefEqProofs [bldH, bldA, hpos, hpos', h63, byteEls_len, htk, bytesOf_byteEls, byteOk_byteEls]; exact ⟨rfl, rfl⟩))) | (apply SeqR.A rfl; (· (simp -implicitDefEqProofs [bldH, bldA, hpos, hpos', h63, byteEls_len, htk, bytesOf_byteEls, byteOk_byteEls]; done)); (· (simp -implicitDefEqProofs [bldH, bldA, hpos, hpos', h63, byteEls_len, htk, bytesOf_byteEls, byteOk_byteEls]; exact ⟨rfl, rfl⟩))) | (apply SeqR.N rfl; (· (simp -implicitDefEqProofs [bldH, bldA, hpos, hpos', h63, byteEls_len, htk, bytesOf_byteEls, byteOk_byteEls]; done)))))
  refine Run.mv [0, 1, 2, 3] [(2, .str l)] [.gone, .gone, .gone, .gone] (by rfl) (by decide) (by simp -implicitDefEqProofs) (by simp -implicitDefEqProofs) ?_
  (repeat (first | refine Run.seq ?_ | refine Run.reg ?_ | refine Run.skip ?_ | refine Run.block ?_ | refine Run.endB ?_ | refine Run.opE rfl ?_ | (apply Run.op0 rfl; (· (simp -implicitDefEqProofs; exact ⟨rfl, rfl⟩))) | (apply Run.opA rfl; (· (simp -implicitDefEqProofs; done)); (· (simp -implicitDefEqProofs; exact ⟨rfl, rfl⟩))) | (apply Run.opN rfl; (· (simp -implicitDefEqProofs; done))) | (refine Run.condT ?_ ?_; (· (simp -implicitDefEqProofs; done))) | (refine Run.condF ?_ ?_; (· (simp -implicitDefEqProofs; done))) | refine Run.exit rfl ?_))
  refine Run.retI Try.func36 r36_ok trivial (by simp -implicitDefEqProofs [r36, bldH]; rfl) (by simp [bldH]) ?_ (by simp -implicitDefEqProofs [bldH]) (by simp -implicitDefEqProofs [bldH])
  simp

end Go.Proofs.Yticecideodkcmaa
