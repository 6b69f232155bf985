/-
  What all layers need.
-/
import Derived.Test.YthphkcpbglhabaaGreatDoorCode
import Derived.Test.YthphkcpbglhabaaGreatDoorSx7
namespace Go.Proofs.YthphkcpbglhabaaGreatDoor
open Sx Go
set_option maxRecDepth 100000
set_option linter.unusedSimpArgs false
set_option linter.unusedVariables false
set_option linter.unnecessarySimpa false
attribute [local simp] stepV condR boundsC appendG appendO copyV srcC guardB isCall opStep Opd.ev put readAt aBin aUn args0 V.celled V.ones V.one V.cells putAt bounds bound1 elemsOf srcOf appendV fillAt fillEl V.pures V.pure unwind evs ARes.ev mkRes V.ren V.renL O.ren eqCells eq1 aEq aMM hasTy hasTyN okTy mmGo Known HLe OLe VsLe.refl VLe.refl VLe.cap Stay VsLe V.frz V.frzL O.frz fr clearV rn KnownR Objs OLeO ObjsE nm back setAll ren_ite take_map_len List.take_of_length_le
attribute [local simp ↓] upd_app tl_cons tl_nil

theorem prog_mixed : Tryz.prog.follows .mixedOrders = true := by kernel_rfl

theorem wrap_small {n : Int} (h1 : -9223372036854775808 ≤ n) (h2 : n ≤ 9223372036854775807) : IntKind.i64.wrap n = n := by
  simp only [IntKind.wrap, IntKind.signed, IntKind.bits]
  simp [Int.bmod_def]; omega
theorem wrap_u8 (n : Nat) : IntKind.u8.wrap (n : Int) = ((n % 256 : Nat) : Int) := by
  simp only [IntKind.wrap, IntKind.signed, IntKind.bits]; simp

theorem iOr64 (a b : Int) : iOr .i64 a b = IntKind.i64.wrap ((BitVec.ofInt 64 a ||| BitVec.ofInt 64 b).toNat : Int) := rfl
theorem iAnd64 (a b : Int) : iAnd .i64 a b = IntKind.i64.wrap ((BitVec.ofInt 64 a &&& BitVec.ofInt 64 b).toNat : Int) := rfl
theorem iOr8 (a b : Int) : iOr .u8 a b = IntKind.u8.wrap ((BitVec.ofInt 8 a ||| BitVec.ofInt 8 b).toNat : Int) := rfl
theorem iAnd8 (a b : Int) : iAnd .u8 a b = IntKind.u8.wrap ((BitVec.ofInt 8 a &&& BitVec.ofInt 8 b).toNat : Int) := rfl
theorem iShl64 (a b : Int) : iShl .i64 a b = IntKind.i64.wrap (a * 2 ^ (min b.toNat 64)) := rfl
theorem iShr64 (a b : Int) : iShr .i64 a b = a.fdiv (2 ^ (min b.toNat 64)) := rfl
theorem ofInt_nat (m n : Nat) (h : n < 2 ^ m) : (BitVec.ofInt m (n : Int)).toNat = n := by
  rw [BitVec.ofInt_natCast, BitVec.toNat_ofNat, Nat.mod_eq_of_lt h]

theorem byteEls_len (l : List UInt8) : (byteEls l).length = l.length := by simp [byteEls]
theorem byteEls_app (a b : List UInt8) : byteEls (a ++ b) = byteEls a ++ byteEls b := by simp [byteEls]
theorem byteEls_snoc (l : List UInt8) (b : UInt8) : byteEls l ++ [[V.int .u8 (b.toNat : Int)]] = byteEls (l ++ [b]) := by simp [byteEls]
theorem byteEls_nil : byteEls [] = [] := rfl
theorem take_byteEls {l : List UInt8} {n : Nat} (h : l.length ≤ n) : (byteEls l).take n = byteEls l := List.take_of_length_le (by simpa [byteEls] using h)
theorem bytesOf_byteEls : ∀ l : List UInt8, bytesOf (byteEls l) = some l
  | [] => rfl
  | b :: l => by
    have := bytesOf_byteEls l
    simp only [byteEls] at this
    simp [byteEls, bytesOf, this]
theorem byteOk_byteEls : ∀ l : List UInt8, byteOk (byteEls l) = true
  | [] => rfl
  | b :: l => by
    have h := byteOk_byteEls l
    have hb := b.toNat_lt
    simp only [byteEls] at h
    simp [byteEls, byteOk, h]; omega

end Go.Proofs.YthphkcpbglhabaaGreatDoor
