/-
  strings.Builder: what it holds.
-/
import Derived.Test.YthphkcpbglhabaaGreatDoorBase
namespace Go.Proofs.YthphkcpbglhabaaGreatDoor
open Sx Go
set_option maxRecDepth 100000
set_option linter.unusedSimpArgs false
set_option linter.unusedVariables false
set_option linter.unnecessarySimpa false
attribute [local simp] stepV condR boundsC appendG appendO copyV srcC guardB isCall opStep Opd.ev put readAt aBin aUn args0 V.celled V.ones V.one V.cells putAt bounds bound1 elemsOf srcOf appendV fillAt fillEl V.pures V.pure unwind evs ARes.ev mkRes V.ren V.renL O.ren eqCells eq1 aEq aMM hasTy hasTyN okTy mmGo Known HLe OLe VsLe.refl VLe.refl VLe.cap Stay VsLe V.frz V.frzL O.frz fr clearV rn KnownR Objs OLeO ObjsE nm back setAll ren_ite take_map_len List.take_of_length_le
attribute [local simp ↓] upd_app tl_cons tl_nil


/-- a builder at i (its bytes at j) that holds bytes -/
def bldA (i : Nat) (u : Bool) (j n : Nat) : List V := [if u then .ptr i 0 else .nilp, .sl j 0 n 1 none]
def bldH (u : Bool) (l : List UInt8) : List O := [.row (bldA 0 u 1 l.length), .arr (byteEls l) 1, .ty 0 208 (some 2), .ty 1 5 none]


theorem copyCheck_tri (u : Bool) (l : List UInt8) : Tri Tryz.prog 167 [.ptr 0 0] (bldH u l) (fun v H => v = .tup [] ∧ H = bldH true l) := by
  refine Tri.of_run' Tryz.func167 rfl c167_ok (by simp [Tryz.ntmps167]) ?_
  cases u with
  | false =>
    (repeat (first | refine Run.adm rfl ?_ | refine Run.seq ?_ | ((first | apply Run.opS rfl | apply Run.condS); (· (simp -implicitDefEqProofs [bldH, bldA]; first | exact ⟨rfl, rfl⟩ | exact rfl)))))
    refine Run.retI Tryz.func167 r167_ok trivial (by simp -implicitDefEqProofs [r167, bldH, bldA]; rfl) (by simp [bldH, bldA]) ?_ (by simp -implicitDefEqProofs [bldH, bldA]) (by simp -implicitDefEqProofs [bldH, bldA])
    simp [bldH, bldA]
  | true =>
    (repeat (first | refine Run.adm rfl ?_ | refine Run.seq ?_ | ((first | apply Run.opS rfl | apply Run.condS); (· (simp -implicitDefEqProofs [bldH, bldA]; first | exact ⟨rfl, rfl⟩ | exact rfl)))))
    refine Run.retI Tryz.func167 r167_ok trivial (by simp -implicitDefEqProofs [r167, bldH, bldA]; rfl) (by simp [bldH, bldA]) ?_ (by simp -implicitDefEqProofs [bldH, bldA]) (by simp -implicitDefEqProofs [bldH, bldA])
    simp [bldH, bldA]

theorem writeString_tri (u : Bool) (l s : List UInt8) (hs : l.length + s.length ≤ 70368744177664) :
    Tri Tryz.prog 132 [.ptr 0 0, .str s] (bldH u l) (fun v H => v = .tup [.int .i64 s.length, .any] ∧ H = [.row (bldA 0 true 4 (l ++ s).length), .gone, .ty 0 208 (some 2), .gone, .arr (byteEls (l ++ s)) 1, .ty 4 5 none]) := by
  refine Tri.of_run' Tryz.func132 rfl c132_ok (by simp [Tryz.ntmps132]) ?_
  (repeat (first | refine Run.adm rfl ?_ | refine Run.seq ?_ | ((first | apply Run.opS rfl | apply Run.condS); (· (simp -implicitDefEqProofs; first | exact ⟨rfl, rfl⟩ | exact rfl)))))
  refine Run.opC rfl rfl rfl (copyCheck_tri u l) ?_
  rintro v h' ⟨rfl, rfl⟩
  (repeat (first | refine Run.adm rfl ?_ | refine Run.seq ?_ | ((first | apply Run.opS rfl | apply Run.condS); (· (simp -implicitDefEqProofs [bldH, bldA, byteEls_len, hs]; first | exact ⟨rfl, rfl⟩ | exact rfl)))))
  refine Run.mv [0, 1, 2, 3, 4, 5] [(4, .int .i64 s.length), (5, .any)] [.row (bldA 0 true 4 (l ++ s).length), .gone, .ty 0 208 (some 2), .gone, .arr (byteEls (l ++ s)) 1, .ty 4 5 none] (by rfl) (by decide) (by simp -implicitDefEqProofs [bldA, byteEls_app]) (by simp -implicitDefEqProofs [bldA, byteEls_app]) ?_
  refine Run.retI Tryz.func132 r132_ok trivial (by simp -implicitDefEqProofs [r132, bldA, bldH]; rfl) (by simp [bldA, bldH]) ?_ (by simp -implicitDefEqProofs [bldA, bldH]) (by simp -implicitDefEqProofs [bldA, bldH])
  simp [bldA]

theorem string_tri (l : List UInt8) (hl : l ≠ []) (hb : l.length ≤ 70368744177664) : Tri Tryz.prog 133 [.ptr 0 0] (bldH true l) (fun v H => v = .str l ∧ H = [.gone, .gone, .gone, .gone]) := by
  refine Tri.of_run' Tryz.func133 rfl c133_ok (by simp [Tryz.ntmps133]) ?_
  have hpos : 0 < l.length := List.length_pos_iff.2 hl
  have hpos' : 0 < (l.length : Int) := by omega
  have h63 : (l.length : Int) ≤ 9223372036854775807 := by omega
  have htk : (byteEls l).take l.length = byteEls l := by rw [List.take_of_length_le]; simp [byteEls]
  (repeat (first | refine Run.adm rfl ?_ | refine Run.seq ?_ | ((first | apply Run.opS rfl | apply Run.condS); (· (simp -implicitDefEqProofs; first | exact ⟨rfl, rfl⟩ | exact rfl)))))
  refine Run.qchain prog_mixed 10 (by kernel_rfl) ?_
  (repeat (first | refine execQ_E rfl ?_ | (apply execQ_S rfl; (· (simp -implicitDefEqProofs [bldH, bldA, hpos]; exact ⟨rfl, rfl⟩)))))
  (repeat (first | refine SeqR.E rfl ?_ | (apply SeqR.o0 rfl; (· (simp -implicitDefEqProofs [bldH, bldA, hpos, hpos', h63, byteEls_len, htk, bytesOf_byteEls, byteOk_byteEls]; exact ⟨rfl, rfl⟩))) | (apply SeqR.A rfl; (· (simp -implicitDefEqProofs [bldH, bldA, hpos, hpos', h63, byteEls_len, htk, bytesOf_byteEls, byteOk_byteEls]; done)); (· (simp -implicitDefEqProofs [bldH, bldA, hpos, hpos', h63, byteEls_len, htk, bytesOf_byteEls, byteOk_byteEls]; exact ⟨rfl, rfl⟩))) | (apply SeqR.N rfl; (· (simp -implicitDefEqProofs [bldH, bldA, hpos, hpos', h63, byteEls_len, htk, bytesOf_byteEls, byteOk_byteEls]; done)))))
  refine Run.mv [0, 1, 2, 3] [(2, .str l)] [.gone, .gone, .gone, .gone] (by rfl) (by decide) (by simp -implicitDefEqProofs) (by simp -implicitDefEqProofs) ?_
  (repeat (first | refine Run.adm rfl ?_ | refine Run.seq ?_ | ((first | apply Run.opS rfl | apply Run.condS); (· (simp -implicitDefEqProofs; first | exact ⟨rfl, rfl⟩ | exact rfl)))))
  refine Run.retI Tryz.func133 r133_ok trivial (by simp -implicitDefEqProofs [r133, bldH]; rfl) (by simp [bldH]) ?_ (by simp -implicitDefEqProofs [bldH]) (by simp -implicitDefEqProofs [bldH])
  simp

end Go.Proofs.YthphkcpbglhabaaGreatDoor
