/-
  The abstract code of some functions: written by a program (wip/tools/gen.py); held against the translation by Lean.
-/
import Derived.Test.YtphpkigfmmanhaaProg
import Derived.Test.YtphpkigfmmanhaaSx7
import Derived.KernelRfl
namespace Go.Proofs.Ytphpkigfmmanhaa
open Sx Go
set_option maxRecDepth 100000
def c3r0 : List AOper :=
  [{ dst := some 6, g := none, op := AOp.mv (Opd.c (V.bool false)) }]
def c3r1 : List AOper :=
  [{ dst := some 16, g := none, op := AOp.mv (Opd.t 0) },
   { dst := some 17, g := none, op := AOp.call (Opd.c (V.fn 10 [])) [Opd.t 16] },
   { dst := some 18, g := none, op := AOp.un UnOp.not (Opd.t 17) },
   { dst := some 19, g := none, op := AOp.mv (Opd.t 18) },
   { dst := some 20, g := some (19, false), op := AOp.mv (Opd.t 1) },
   { dst := some 21, g := some (19, false), op := AOp.call (Opd.c (V.fn 10 [])) [Opd.t 20] },
   { dst := some 22, g := some (19, false), op := AOp.un UnOp.not (Opd.t 21) },
   { dst := some 23, g := none, op := AOp.pick (Opd.t 19) (Opd.c (V.bool true)) (Opd.t 22) },
   { dst := some 24, g := none, op := AOp.mv (Opd.t 23) },
   { dst := some 25, g := some (24, false), op := AOp.mv (Opd.t 2) },
   { dst := some 26, g := some (24, false), op := AOp.call (Opd.c (V.fn 10 [])) [Opd.t 25] },
   { dst := some 27, g := some (24, false), op := AOp.un UnOp.not (Opd.t 26) },
   { dst := some 28, g := none, op := AOp.pick (Opd.t 24) (Opd.c (V.bool true)) (Opd.t 27) }]
def c3r2 : List AOper :=
  [{ dst := some 29, g := none, op := AOp.call (Opd.c (V.fn 11 [])) [] },
   { dst := some 6, g := none, op := AOp.mv (Opd.t 29) }]
def c3r3 : List AOper :=
  [{ dst := some 31, g := none, op := AOp.mv (Opd.t 0) },
   { dst := some 32, g := none, op := AOp.mv (Opd.t 1) },
   { dst := some 33, g := none, op := AOp.mv (Opd.t 2) },
   { dst := some 34, g := none, op := AOp.bslice 3 1 [V.nils] [(0, Opd.t 31), (1, Opd.t 32), (2, Opd.t 33)] },
   { dst := some 35, g := none, op := AOp.call (Opd.c (V.fn 12 [])) [Opd.t 34] },
   { dst := some 30, g := none, op := AOp.mv (Opd.t 35) },
   { dst := some 36, g := none, op := AOp.ext (Opd.t 30) 0 },
   { dst := some 37, g := none, op := AOp.ext (Opd.t 30) 1 },
   { dst := some 7, g := none, op := AOp.mv (Opd.t 36) },
   { dst := some 8, g := none, op := AOp.mv (Opd.t 37) }]
def c3r4 : List AOper :=
  [{ dst := some 39, g := none, op := AOp.mv (Opd.t 0) },
   { dst := some 40, g := none, op := AOp.mv (Opd.t 1) },
   { dst := some 41, g := none, op := AOp.mv (Opd.t 2) },
   { dst := some 42, g := none, op := AOp.bslice 3 1 [V.nils] [(0, Opd.t 39), (1, Opd.t 40), (2, Opd.t 41)] },
   { dst := some 43, g := none, op := AOp.call (Opd.c (V.fn 13 [])) [Opd.t 42] },
   { dst := some 38, g := none, op := AOp.mv (Opd.t 43) },
   { dst := some 44, g := none, op := AOp.ext (Opd.t 38) 0 },
   { dst := some 45, g := none, op := AOp.ext (Opd.t 38) 1 },
   { dst := some 9, g := none, op := AOp.mv (Opd.t 44) },
   { dst := some 10, g := none, op := AOp.mv (Opd.t 45) }]
def c3r5 : List AOper :=
  [{ dst := some 46, g := none, op := AOp.mv (Opd.t 0) },
   { dst := some 47, g := none, op := AOp.call (Opd.c (V.fn 14 [])) [Opd.t 46] },
   { dst := some 48, g := none, op := AOp.mv (Opd.t 1) },
   { dst := some 49, g := none, op := AOp.call (Opd.c (V.fn 14 [])) [Opd.t 48] },
   { dst := some 50, g := none, op := AOp.mv (Opd.t 2) },
   { dst := some 51, g := none, op := AOp.call (Opd.c (V.fn 14 [])) [Opd.t 50] },
   { dst := some 52, g := none, op := AOp.bslice 3 1 [V.nils] [(0, Opd.t 47), (1, Opd.t 49), (2, Opd.t 51)] },
   { dst := some 11, g := none, op := AOp.mv (Opd.t 52) }]
def c3r6 : List AOper :=
  [{ dst := some 54, g := none, op := AOp.mv (Opd.t 11) },
   { dst := some 55, g := none, op := AOp.call (Opd.c (V.fn 12 [])) [Opd.t 54] },
   { dst := some 53, g := none, op := AOp.mv (Opd.t 55) },
   { dst := some 56, g := none, op := AOp.ext (Opd.t 53) 0 },
   { dst := some 57, g := none, op := AOp.ext (Opd.t 53) 1 },
   { dst := some 12, g := none, op := AOp.mv (Opd.t 56) },
   { dst := some 13, g := none, op := AOp.mv (Opd.t 57) }]
def c3r7 : List AOper :=
  [{ dst := some 59, g := none, op := AOp.mv (Opd.t 11) },
   { dst := some 60, g := none, op := AOp.call (Opd.c (V.fn 13 [])) [Opd.t 59] },
   { dst := some 58, g := none, op := AOp.mv (Opd.t 60) },
   { dst := some 61, g := none, op := AOp.ext (Opd.t 58) 0 },
   { dst := some 62, g := none, op := AOp.ext (Opd.t 58) 1 },
   { dst := some 14, g := none, op := AOp.mv (Opd.t 61) },
   { dst := some 15, g := none, op := AOp.mv (Opd.t 62) }]
def c3r8 : List AOper :=
  [{ dst := some 63, g := none, op := AOp.mv (Opd.t 7) },
   { dst := some 64, g := none, op := AOp.mv (Opd.t 9) },
   { dst := some 65, g := none, op := AOp.call (Opd.c (V.fn 15 [])) [Opd.t 63, Opd.t 64] },
   { dst := some 66, g := none, op := AOp.mv (Opd.t 65) },
   { dst := some 67, g := some (66, true), op := AOp.mv (Opd.t 8) },
   { dst := some 68, g := some (66, true), op := AOp.mv (Opd.t 10) },
   { dst := some 69, g := some (66, true), op := AOp.bin BinOp.eql (Opd.t 67) (Opd.t 68) },
   { dst := some 70, g := none, op := AOp.pick (Opd.t 66) (Opd.t 69) (Opd.c (V.bool false)) },
   { dst := some 71, g := none, op := AOp.mv (Opd.t 70) },
   { dst := some 72, g := some (71, true), op := AOp.mv (Opd.t 12) },
   { dst := some 73, g := some (71, true), op := AOp.mv (Opd.t 14) },
   { dst := some 74, g := some (71, true), op := AOp.call (Opd.c (V.fn 15 [])) [Opd.t 72, Opd.t 73] },
   { dst := some 75, g := none, op := AOp.pick (Opd.t 71) (Opd.t 74) (Opd.c (V.bool false)) },
   { dst := some 76, g := none, op := AOp.mv (Opd.t 75) },
   { dst := some 77, g := some (76, true), op := AOp.mv (Opd.t 13) },
   { dst := some 78, g := some (76, true), op := AOp.mv (Opd.t 15) },
   { dst := some 79, g := some (76, true), op := AOp.bin BinOp.eql (Opd.t 77) (Opd.t 78) },
   { dst := some 80, g := none, op := AOp.pick (Opd.t 76) (Opd.t 79) (Opd.c (V.bool false)) },
   { dst := some 81, g := none, op := AOp.mv (Opd.t 80) },
   { dst := some 82, g := some (81, true), op := AOp.call (Opd.c (V.fn 11 [])) [] },
   { dst := some 83, g := none, op := AOp.pick (Opd.t 81) (Opd.t 82) (Opd.c (V.bool false)) },
   { dst := some 6, g := none, op := AOp.mv (Opd.t 83) }]
def c3 : AC := (AC.seq (AC.region c3r0) (AC.seq (AC.seq (AC.region c3r1) (AC.cond (Opd.t 28) (AC.seq (AC.region c3r2) AC.ret) AC.skip)) (AC.seq (AC.region c3r3) (AC.seq (AC.region c3r4) (AC.seq (AC.region c3r5) (AC.seq (AC.region c3r6) (AC.seq (AC.region c3r7) (AC.seq (AC.region c3r8) AC.ret))))))))
def r3 : List ARes := [ARes.tmp 6]
theorem c3_ok : Try.f3.body.bind (cCode Try.prog Try.f3.ntmps) = some c3 := by kernel_rfl
theorem r3_ok : Try.f3.results.toList.mapM (cRes Try.prog Try.f3.ntmps) = some r3 := by kernel_rfl
def c4r0 : List AOper :=
  [{ dst := some 6, g := none, op := AOp.mv (Opd.c (V.bool false)) }]
def c4r1 : List AOper :=
  [{ dst := some 12, g := none, op := AOp.call (Opd.c (V.fn 11 [])) [] },
   { dst := some 13, g := none, op := AOp.un UnOp.not (Opd.t 12) }]
def c4r2 : List AOper :=
  [{ dst := some 6, g := none, op := AOp.mv (Opd.c (V.bool false)) }]
def c4r3 : List AOper :=
  [{ dst := some 14, g := none, op := AOp.mv (Opd.t 0) },
   { dst := some 15, g := none, op := AOp.call (Opd.c (V.fn 10 [])) [Opd.t 14] },
   { dst := some 16, g := none, op := AOp.un UnOp.not (Opd.t 15) },
   { dst := some 17, g := none, op := AOp.mv (Opd.t 16) },
   { dst := some 18, g := some (17, false), op := AOp.mv (Opd.t 1) },
   { dst := some 19, g := some (17, false), op := AOp.call (Opd.c (V.fn 10 [])) [Opd.t 18] },
   { dst := some 20, g := some (17, false), op := AOp.un UnOp.not (Opd.t 19) },
   { dst := some 21, g := none, op := AOp.pick (Opd.t 17) (Opd.c (V.bool true)) (Opd.t 20) }]
def c4r4 : List AOper :=
  [{ dst := some 22, g := none, op := AOp.call (Opd.c (V.fn 11 [])) [] },
   { dst := some 6, g := none, op := AOp.mv (Opd.t 22) }]
def c4r5 : List AOper :=
  [{ dst := some 23, g := none, op := AOp.mv (Opd.t 0) },
   { dst := some 24, g := none, op := AOp.call (Opd.c (V.fn 14 [])) [Opd.t 23] },
   { dst := some 25, g := none, op := AOp.mv (Opd.t 1) },
   { dst := some 26, g := none, op := AOp.call (Opd.c (V.fn 14 [])) [Opd.t 25] },
   { dst := some 27, g := none, op := AOp.bslice 2 1 [V.nils] [(0, Opd.t 24), (1, Opd.t 26)] },
   { dst := some 7, g := none, op := AOp.mv (Opd.t 27) }]
def c4r6 : List AOper :=
  [{ dst := some 28, g := none, op := AOp.mv (Opd.t 7) },
   { dst := some 29, g := none, op := AOp.call (Opd.c (V.fn 16 [])) [Opd.t 28] },
   { dst := some 8, g := none, op := AOp.mv (Opd.t 29) }]
def c4r7 : List AOper :=
  [{ dst := some 30, g := none, op := AOp.mv (Opd.t 2) },
   { dst := some 31, g := none, op := AOp.bin BinOp.and (Opd.t 30) (Opd.c (V.int IntKind.i64 255)) },
   { dst := some 32, g := none, op := AOp.bin BinOp.add (Opd.c (V.int IntKind.i64 1)) (Opd.t 31) },
   { dst := some 9, g := none, op := AOp.alloc [V.int IntKind.i64 0] },
   { dst := none, g := none, op := AOp.store (Opd.t 9) (Opd.t 32) 1 }]
def c4r8 : List AOper :=
  [{ dst := some 10, g := none, op := AOp.alloc [V.nils] }]
def c4r9 : List AOper :=
  [{ dst := some 33, g := none, op := AOp.mv (Opd.t 7) },
   { dst := some 34, g := none, op := AOp.call (Opd.c (V.fn 17 [])) [Opd.t 33] }]
def c4r10 : List AOper :=
  [{ dst := some 11, g := none, op := AOp.alloc [V.str [], V.str [], V.bool false, V.int IntKind.i64 0] },
   { dst := none, g := none, op := AOp.store (Opd.t 11) (Opd.t 35) 4 }]
def c4r11 : List AOper :=
  [{ dst := some 36, g := none, op := AOp.load (Opd.t 10) none },
   { dst := some 37, g := none, op := AOp.load (Opd.t 11) (some 4) },
   { dst := some 38, g := none, op := AOp.bslice 1 4 [V.str [], V.str [], V.bool false, V.int IntKind.i64 0] [(0, Opd.t 37)] },
   { dst := some 39, g := none, op := AOp.append (Opd.t 36) (Opd.t 38) 4 48 false },
   { dst := none, g := none, op := AOp.store (Opd.t 10) (Opd.t 39) 1 }]
def c4r12 : List AOper :=
  [{ dst := some 40, g := none, op := AOp.load (Opd.t 10) none },
   { dst := some 41, g := none, op := AOp.lenL (Opd.t 40) },
   { dst := some 42, g := none, op := AOp.load (Opd.t 9) none },
   { dst := some 43, g := none, op := AOp.bin BinOp.eql (Opd.t 41) (Opd.t 42) }]
def c4a0 : AC := (AC.region c4r10)
def c4b0 : AC := (AC.block 1 (AC.seq (AC.region c4r11) (AC.seq (AC.region c4r12) (AC.cond (Opd.t 43) (AC.exit 0) AC.skip))))
def c4d0 : List (AOper × List Nat) :=
  [({ dst := some 44, g := none, op := AOp.load (Opd.t 10) none }, []),
   ({ dst := some 45, g := none, op := AOp.mv (Opd.t 8) }, []),
   ({ dst := some 46, g := none, op := AOp.load (Opd.t 9) none }, []),
   ({ dst := some 47, g := none, op := AOp.mv (Opd.t 8) }, []),
   ({ dst := some 48, g := none, op := AOp.lenL (Opd.t 47) }, [3]),
   ({ dst := some 49, g := none, op := AOp.mm false [Opd.t 46, Opd.t 48] }, [2, 4]),
   ({ dst := some 50, g := none, op := AOp.slc (Opd.t 45) none (some (Opd.t 49)) none 4 }, [1, 5]),
   ({ dst := some 51, g := none, op := AOp.call (Opd.c (V.fn 15 [])) [Opd.t 44, Opd.t 50] }, [0, 6]),
   ({ dst := some 52, g := none, op := AOp.mv (Opd.t 51) }, [7, 7]),
   ({ dst := some 53, g := some (52, true), op := AOp.call (Opd.c (V.fn 11 [])) [] }, [8, 8]),
   ({ dst := some 54, g := none, op := AOp.pick (Opd.t 52) (Opd.t 53) (Opd.c (V.bool false)) }, [8, 9]),
   ({ dst := some 6, g := none, op := AOp.mv (Opd.t 54) }, [10, 9, 0, 1, 2, 3, 4, 5, 6, 7, 8, 9, 10])]
def c4 : AC := (AC.seq (AC.region c4r0) (AC.seq (AC.seq (AC.region c4r1) (AC.cond (Opd.t 13) (AC.seq (AC.region c4r2) AC.ret) AC.skip)) (AC.seq (AC.seq (AC.region c4r3) (AC.cond (Opd.t 21) (AC.seq (AC.region c4r4) AC.ret) AC.skip)) (AC.seq (AC.region c4r5) (AC.seq (AC.region c4r6) (AC.seq (AC.region c4r7) (AC.seq (AC.region c4r8) (AC.seq (AC.seq (AC.region c4r9) (AC.block 0 (AC.rangeF (Opd.t 34) [35] c4a0 c4b0))) (AC.seq (AC.drawn c4d0) AC.ret)))))))))
def r4 : List ARes := [ARes.tmp 6]
theorem c4_ok : Try.f4.body.bind (cCode Try.prog Try.f4.ntmps) = some c4 := by kernel_rfl
theorem r4_ok : Try.f4.results.toList.mapM (cRes Try.prog Try.f4.ntmps) = some r4 := by kernel_rfl
def c5r0 : List AOper :=
  [{ dst := some 4, g := none, op := AOp.mv (Opd.c (V.bool false)) }]
def c5r1 : List AOper :=
  [{ dst := some 6, g := none, op := AOp.mv (Opd.t 0) },
   { dst := some 7, g := none, op := AOp.call (Opd.c (V.fn 10 [])) [Opd.t 6] },
   { dst := some 8, g := none, op := AOp.un UnOp.not (Opd.t 7) }]
def c5r2 : List AOper :=
  [{ dst := some 9, g := none, op := AOp.call (Opd.c (V.fn 11 [])) [] },
   { dst := some 4, g := none, op := AOp.mv (Opd.t 9) }]
def c5r3 : List AOper :=
  [{ dst := some 10, g := none, op := AOp.mv (Opd.t 0) },
   { dst := some 11, g := none, op := AOp.call (Opd.c (V.fn 14 [])) [Opd.t 10] },
   { dst := some 5, g := none, op := AOp.mv (Opd.t 11) }]
def c5r4 : List AOper :=
  [{ dst := some 12, g := none, op := AOp.mv (Opd.t 0) },
   { dst := some 13, g := none, op := AOp.mv (Opd.t 1) },
   { dst := some 14, g := none, op := AOp.call (Opd.c (V.fn 19 [])) [Opd.t 12, Opd.t 13] },
   { dst := some 15, g := none, op := AOp.mv (Opd.t 0) },
   { dst := some 16, g := none, op := AOp.mv (Opd.t 1) },
   { dst := some 17, g := none, op := AOp.call (Opd.c (V.fn 20 [])) [Opd.t 15, Opd.t 16] },
   { dst := some 18, g := none, op := AOp.call (Opd.c (V.fn 18 [])) [Opd.t 14, Opd.t 17] },
   { dst := some 19, g := none, op := AOp.mv (Opd.t 18) },
   { dst := some 20, g := some (19, true), op := AOp.mv (Opd.t 5) },
   { dst := some 21, g := some (19, true), op := AOp.mv (Opd.t 1) },
   { dst := some 22, g := some (19, true), op := AOp.call (Opd.c (V.fn 19 [])) [Opd.t 20, Opd.t 21] },
   { dst := some 23, g := some (19, true), op := AOp.mv (Opd.t 5) },
   { dst := some 24, g := some (19, true), op := AOp.mv (Opd.t 1) },
   { dst := some 25, g := some (19, true), op := AOp.call (Opd.c (V.fn 20 [])) [Opd.t 23, Opd.t 24] },
   { dst := some 26, g := some (19, true), op := AOp.call (Opd.c (V.fn 18 [])) [Opd.t 22, Opd.t 25] },
   { dst := some 27, g := none, op := AOp.pick (Opd.t 19) (Opd.t 26) (Opd.c (V.bool false)) },
   { dst := some 28, g := none, op := AOp.mv (Opd.t 27) },
   { dst := some 29, g := some (28, true), op := AOp.mv (Opd.t 0) },
   { dst := some 30, g := some (28, true), op := AOp.mv (Opd.t 1) },
   { dst := some 31, g := some (28, true), op := AOp.call (Opd.c (V.fn 21 [])) [Opd.t 29, Opd.t 30] },
   { dst := some 32, g := some (28, true), op := AOp.mv (Opd.t 0) },
   { dst := some 33, g := some (28, true), op := AOp.mv (Opd.t 1) },
   { dst := some 34, g := some (28, true), op := AOp.call (Opd.c (V.fn 22 [])) [Opd.t 32, Opd.t 33] },
   { dst := some 35, g := some (28, true), op := AOp.call (Opd.c (V.fn 15 [])) [Opd.t 31, Opd.t 34] },
   { dst := some 36, g := none, op := AOp.pick (Opd.t 28) (Opd.t 35) (Opd.c (V.bool false)) },
   { dst := some 37, g := none, op := AOp.mv (Opd.t 36) },
   { dst := some 38, g := some (37, true), op := AOp.mv (Opd.t 5) },
   { dst := some 39, g := some (37, true), op := AOp.mv (Opd.t 1) },
   { dst := some 40, g := some (37, true), op := AOp.call (Opd.c (V.fn 21 [])) [Opd.t 38, Opd.t 39] },
   { dst := some 41, g := some (37, true), op := AOp.mv (Opd.t 5) },
   { dst := some 42, g := some (37, true), op := AOp.mv (Opd.t 1) },
   { dst := some 43, g := some (37, true), op := AOp.call (Opd.c (V.fn 22 [])) [Opd.t 41, Opd.t 42] },
   { dst := some 44, g := some (37, true), op := AOp.call (Opd.c (V.fn 15 [])) [Opd.t 40, Opd.t 43] },
   { dst := some 45, g := none, op := AOp.pick (Opd.t 37) (Opd.t 44) (Opd.c (V.bool false)) },
   { dst := some 46, g := none, op := AOp.mv (Opd.t 45) },
   { dst := some 47, g := some (46, true), op := AOp.call (Opd.c (V.fn 11 [])) [] },
   { dst := some 48, g := none, op := AOp.pick (Opd.t 46) (Opd.t 47) (Opd.c (V.bool false)) },
   { dst := some 4, g := none, op := AOp.mv (Opd.t 48) }]
def c5 : AC := (AC.seq (AC.region c5r0) (AC.seq (AC.seq (AC.region c5r1) (AC.cond (Opd.t 8) (AC.seq (AC.region c5r2) AC.ret) AC.skip)) (AC.seq (AC.region c5r3) (AC.seq (AC.region c5r4) AC.ret))))
def r5 : List ARes := [ARes.tmp 4]
theorem c5_ok : Try.f5.body.bind (cCode Try.prog Try.f5.ntmps) = some c5 := by kernel_rfl
theorem r5_ok : Try.f5.results.toList.mapM (cRes Try.prog Try.f5.ntmps) = some r5 := by kernel_rfl
def c6r0 : List AOper :=
  [{ dst := some 6, g := none, op := AOp.mv (Opd.c (V.bool false)) }]
def c6r1 : List AOper :=
  [{ dst := some 8, g := none, op := AOp.mv (Opd.t 0) },
   { dst := some 9, g := none, op := AOp.call (Opd.c (V.fn 10 [])) [Opd.t 8] },
   { dst := some 10, g := none, op := AOp.un UnOp.not (Opd.t 9) },
   { dst := some 11, g := none, op := AOp.mv (Opd.t 10) },
   { dst := some 12, g := some (11, false), op := AOp.mv (Opd.t 1) },
   { dst := some 13, g := some (11, false), op := AOp.lenL (Opd.t 12) },
   { dst := some 14, g := some (11, false), op := AOp.bin BinOp.gtr (Opd.t 13) (Opd.c (V.int IntKind.i64 20)) },
   { dst := some 15, g := none, op := AOp.pick (Opd.t 11) (Opd.c (V.bool true)) (Opd.t 14) }]
def c6r2 : List AOper :=
  [{ dst := some 16, g := none, op := AOp.call (Opd.c (V.fn 11 [])) [] },
   { dst := some 6, g := none, op := AOp.mv (Opd.t 16) }]
def c6r3 : List AOper :=
  [{ dst := some 17, g := none, op := AOp.mv (Opd.t 0) },
   { dst := some 18, g := none, op := AOp.call (Opd.c (V.fn 14 [])) [Opd.t 17] },
   { dst := some 7, g := none, op := AOp.mv (Opd.t 18) }]
def c6r4 : List AOper :=
  [{ dst := some 19, g := none, op := AOp.mv (Opd.t 0) },
   { dst := some 20, g := none, op := AOp.mv (Opd.t 1) },
   { dst := some 21, g := none, op := AOp.mv (Opd.t 2) },
   { dst := some 22, g := none, op := AOp.call (Opd.c (V.fn 23 [])) [Opd.t 19, Opd.t 20, Opd.t 21] },
   { dst := some 23, g := none, op := AOp.mv (Opd.t 0) },
   { dst := some 24, g := none, op := AOp.mv (Opd.t 1) },
   { dst := some 25, g := none, op := AOp.mv (Opd.t 2) },
   { dst := some 26, g := none, op := AOp.call (Opd.c (V.fn 24 [])) [Opd.t 23, Opd.t 24, Opd.t 25] },
   { dst := some 27, g := none, op := AOp.call (Opd.c (V.fn 15 [])) [Opd.t 22, Opd.t 26] },
   { dst := some 28, g := none, op := AOp.mv (Opd.t 27) },
   { dst := some 29, g := some (28, true), op := AOp.mv (Opd.t 7) },
   { dst := some 30, g := some (28, true), op := AOp.mv (Opd.t 1) },
   { dst := some 31, g := some (28, true), op := AOp.mv (Opd.t 2) },
   { dst := some 32, g := some (28, true), op := AOp.call (Opd.c (V.fn 23 [])) [Opd.t 29, Opd.t 30, Opd.t 31] },
   { dst := some 33, g := some (28, true), op := AOp.mv (Opd.t 7) },
   { dst := some 34, g := some (28, true), op := AOp.mv (Opd.t 1) },
   { dst := some 35, g := some (28, true), op := AOp.mv (Opd.t 2) },
   { dst := some 36, g := some (28, true), op := AOp.call (Opd.c (V.fn 24 [])) [Opd.t 33, Opd.t 34, Opd.t 35] },
   { dst := some 37, g := some (28, true), op := AOp.call (Opd.c (V.fn 15 [])) [Opd.t 32, Opd.t 36] },
   { dst := some 38, g := none, op := AOp.pick (Opd.t 28) (Opd.t 37) (Opd.c (V.bool false)) },
   { dst := some 39, g := none, op := AOp.mv (Opd.t 38) },
   { dst := some 40, g := some (39, true), op := AOp.call (Opd.c (V.fn 11 [])) [] },
   { dst := some 41, g := none, op := AOp.pick (Opd.t 39) (Opd.t 40) (Opd.c (V.bool false)) },
   { dst := some 6, g := none, op := AOp.mv (Opd.t 41) }]
def c6 : AC := (AC.seq (AC.region c6r0) (AC.seq (AC.seq (AC.region c6r1) (AC.cond (Opd.t 15) (AC.seq (AC.region c6r2) AC.ret) AC.skip)) (AC.seq (AC.region c6r3) (AC.seq (AC.region c6r4) AC.ret))))
def r6 : List ARes := [ARes.tmp 6]
theorem c6_ok : Try.f6.body.bind (cCode Try.prog Try.f6.ntmps) = some c6 := by kernel_rfl
theorem r6_ok : Try.f6.results.toList.mapM (cRes Try.prog Try.f6.ntmps) = some r6 := by kernel_rfl
def c7r0 : List AOper :=
  [{ dst := some 6, g := none, op := AOp.mv (Opd.c (V.bool false)) }]
def c7r1 : List AOper :=
  [{ dst := some 11, g := none, op := AOp.mv (Opd.t 0) },
   { dst := some 12, g := none, op := AOp.call (Opd.c (V.fn 10 [])) [Opd.t 11] },
   { dst := some 13, g := none, op := AOp.un UnOp.not (Opd.t 12) },
   { dst := some 14, g := none, op := AOp.mv (Opd.t 13) },
   { dst := some 15, g := some (14, false), op := AOp.mv (Opd.t 1) },
   { dst := some 16, g := some (14, false), op := AOp.lenL (Opd.t 15) },
   { dst := some 17, g := some (14, false), op := AOp.bin BinOp.gtr (Opd.t 16) (Opd.c (V.int IntKind.i64 20)) },
   { dst := some 18, g := none, op := AOp.pick (Opd.t 14) (Opd.c (V.bool true)) (Opd.t 17) }]
def c7r2 : List AOper :=
  [{ dst := some 19, g := none, op := AOp.call (Opd.c (V.fn 11 [])) [] },
   { dst := some 6, g := none, op := AOp.mv (Opd.t 19) }]
def c7r3 : List AOper :=
  [{ dst := some 20, g := none, op := AOp.mv (Opd.t 0) },
   { dst := some 21, g := none, op := AOp.call (Opd.c (V.fn 14 [])) [Opd.t 20] },
   { dst := some 7, g := none, op := AOp.mv (Opd.t 21) }]
def c7r4 : List AOper :=
  [{ dst := some 22, g := none, op := AOp.mv (Opd.t 7) },
   { dst := some 23, g := none, op := AOp.mv (Opd.t 1) },
   { dst := some 24, g := none, op := AOp.mv (Opd.t 2) },
   { dst := some 25, g := none, op := AOp.call (Opd.c (V.fn 23 [])) [Opd.t 22, Opd.t 23, Opd.t 24] },
   { dst := some 8, g := none, op := AOp.mv (Opd.t 25) }]
def c7r5 : List AOper :=
  [{ dst := some 26, g := none, op := AOp.mv (Opd.t 8) },
   { dst := some 27, g := none, op := AOp.lenL (Opd.t 26) },
   { dst := some 28, g := none, op := AOp.mv (Opd.t 7) },
   { dst := some 29, g := none, op := AOp.lenL (Opd.t 28) },
   { dst := some 30, g := none, op := AOp.bin BinOp.gtr (Opd.t 27) (Opd.t 29) },
   { dst := some 31, g := none, op := AOp.mv (Opd.t 30) },
   { dst := some 32, g := some (31, false), op := AOp.mv (Opd.t 8) },
   { dst := some 33, g := some (31, false), op := AOp.call (Opd.c (V.fn 25 [])) [Opd.t 32] },
   { dst := some 34, g := some (31, false), op := AOp.bin BinOp.neq (Opd.t 33) (Opd.c (V.int IntKind.i64 0)) },
   { dst := some 35, g := none, op := AOp.pick (Opd.t 31) (Opd.c (V.bool true)) (Opd.t 34) },
   { dst := some 36, g := none, op := AOp.mv (Opd.t 35) },
   { dst := some 37, g := some (36, false), op := AOp.mv (Opd.t 7) },
   { dst := some 38, g := some (36, false), op := AOp.call (Opd.c (V.fn 19 [])) [Opd.t 37, Opd.c (V.int IntKind.i64 1099511627776)] },
   { dst := some 39, g := some (36, false), op := AOp.mv (Opd.t 8) },
   { dst := some 40, g := some (36, false), op := AOp.call (Opd.c (V.fn 19 [])) [Opd.t 39, Opd.c (V.int IntKind.i64 1099511627776)] },
   { dst := some 41, g := some (36, false), op := AOp.call (Opd.c (V.fn 18 [])) [Opd.t 38, Opd.t 40] },
   { dst := some 42, g := some (36, false), op := AOp.un UnOp.not (Opd.t 41) },
   { dst := some 43, g := none, op := AOp.pick (Opd.t 36) (Opd.c (V.bool true)) (Opd.t 42) }]
def c7r6 : List AOper :=
  [{ dst := some 6, g := none, op := AOp.mv (Opd.c (V.bool false)) }]
def c7r7 : List AOper :=
  [{ dst := some 9, g := none, op := AOp.mv (Opd.c (V.int IntKind.i64 1099511627776)) }]
def c7r8 : List AOper :=
  [{ dst := some 10, g := none, op := AOp.mv (Opd.c (V.int IntKind.i64 0)) }]
def c7r9 : List AOper :=
  [{ dst := some 44, g := none, op := AOp.mv (Opd.t 10) },
   { dst := some 45, g := none, op := AOp.mv (Opd.t 1) },
   { dst := some 46, g := none, op := AOp.lenL (Opd.t 45) },
   { dst := some 47, g := none, op := AOp.bin BinOp.lss (Opd.t 44) (Opd.t 46) }]
def c7d0 : List (AOper × List Nat) :=
  [({ dst := some 50, g := none, op := AOp.mv (Opd.t 7) }, []),
   ({ dst := some 51, g := none, op := AOp.mv (Opd.t 1) }, []),
   ({ dst := some 52, g := none, op := AOp.mv (Opd.t 10) }, []),
   ({ dst := some 53, g := none, op := AOp.idxA (Opd.t 51) (Opd.t 52) none 1 }, [1, 2]),
   ({ dst := some 54, g := none, op := AOp.load (Opd.t 53) none }, [3]),
   ({ dst := some 55, g := none, op := AOp.call (Opd.c (V.fn 19 [])) [Opd.t 50, Opd.t 54] }, [0, 4]),
   ({ dst := some 56, g := none, op := AOp.mv (Opd.t 8) }, []),
   ({ dst := some 57, g := none, op := AOp.mv (Opd.t 1) }, []),
   ({ dst := some 58, g := none, op := AOp.mv (Opd.t 10) }, []),
   ({ dst := some 59, g := none, op := AOp.idxA (Opd.t 57) (Opd.t 58) none 1 }, [7, 8]),
   ({ dst := some 60, g := none, op := AOp.load (Opd.t 59) none }, [9]),
   ({ dst := some 61, g := none, op := AOp.call (Opd.c (V.fn 19 [])) [Opd.t 56, Opd.t 60] }, [6, 10, 5]),
   ({ dst := some 62, g := none, op := AOp.call (Opd.c (V.fn 18 [])) [Opd.t 55, Opd.t 61] }, [5, 11, 11]),
   ({ dst := some 63, g := none, op := AOp.un UnOp.not (Opd.t 62) }, [12])]
def c7r10 : List AOper :=
  [{ dst := some 6, g := none, op := AOp.mv (Opd.c (V.bool false)) }]
def c7r11 : List AOper :=
  [{ dst := some 64, g := none, op := AOp.mv (Opd.t 9) },
   { dst := some 65, g := none, op := AOp.mv (Opd.t 1) },
   { dst := some 66, g := none, op := AOp.mv (Opd.t 10) },
   { dst := some 67, g := none, op := AOp.idxA (Opd.t 65) (Opd.t 66) none 1 },
   { dst := some 68, g := none, op := AOp.load (Opd.t 67) none },
   { dst := some 69, g := none, op := AOp.mm false [Opd.t 64, Opd.t 68] },
   { dst := some 9, g := none, op := AOp.mv (Opd.t 69) }]
def c7r12 : List AOper :=
  [{ dst := some 48, g := none, op := AOp.mv (Opd.t 10) },
   { dst := some 49, g := none, op := AOp.bin BinOp.add (Opd.t 48) (Opd.c (V.int IntKind.i64 1)) },
   { dst := some 10, g := none, op := AOp.mv (Opd.t 49) }]
def c7l0 : AC := (AC.seq (AC.seq (AC.region c7r9) (AC.cond (Opd.t 47) AC.skip (AC.exit 0))) (AC.seq (AC.block 1 (AC.seq (AC.seq (AC.drawn c7d0) (AC.cond (Opd.t 63) (AC.seq (AC.region c7r10) AC.ret) AC.skip)) (AC.region c7r11))) (AC.region c7r12)))
def c7r13 : List AOper :=
  [{ dst := some 70, g := none, op := AOp.mv (Opd.t 7) },
   { dst := some 71, g := none, op := AOp.mv (Opd.t 9) },
   { dst := some 72, g := none, op := AOp.call (Opd.c (V.fn 21 [])) [Opd.t 70, Opd.t 71] },
   { dst := some 73, g := none, op := AOp.mv (Opd.t 8) },
   { dst := some 74, g := none, op := AOp.mv (Opd.t 9) },
   { dst := some 75, g := none, op := AOp.call (Opd.c (V.fn 21 [])) [Opd.t 73, Opd.t 74] },
   { dst := some 76, g := none, op := AOp.call (Opd.c (V.fn 15 [])) [Opd.t 72, Opd.t 75] },
   { dst := some 77, g := none, op := AOp.mv (Opd.t 76) },
   { dst := some 78, g := some (77, true), op := AOp.call (Opd.c (V.fn 11 [])) [] },
   { dst := some 79, g := none, op := AOp.pick (Opd.t 77) (Opd.t 78) (Opd.c (V.bool false)) },
   { dst := some 6, g := none, op := AOp.mv (Opd.t 79) }]
def c7 : AC := (AC.seq (AC.region c7r0) (AC.seq (AC.seq (AC.region c7r1) (AC.cond (Opd.t 18) (AC.seq (AC.region c7r2) AC.ret) AC.skip)) (AC.seq (AC.region c7r3) (AC.seq (AC.region c7r4) (AC.seq (AC.seq (AC.region c7r5) (AC.cond (Opd.t 43) (AC.seq (AC.region c7r6) AC.ret) AC.skip)) (AC.seq (AC.region c7r7) (AC.seq (AC.seq (AC.region c7r8) (AC.block 0 (AC.loop c7l0))) (AC.seq (AC.region c7r13) AC.ret))))))))
def r7 : List ARes := [ARes.tmp 6]
theorem c7_ok : Try.f7.body.bind (cCode Try.prog Try.f7.ntmps) = some c7 := by kernel_rfl
theorem r7_ok : Try.f7.results.toList.mapM (cRes Try.prog Try.f7.ntmps) = some r7 := by kernel_rfl
def c8r0 : List AOper :=
  [{ dst := some 4, g := none, op := AOp.mv (Opd.c (V.bool false)) }]
def c8r1 : List AOper :=
  [{ dst := some 19, g := none, op := AOp.mv (Opd.t 0) },
   { dst := some 20, g := none, op := AOp.call (Opd.c (V.fn 10 [])) [Opd.t 19] },
   { dst := some 21, g := none, op := AOp.un UnOp.not (Opd.t 20) },
   { dst := some 22, g := none, op := AOp.mv (Opd.t 21) },
   { dst := some 23, g := some (22, false), op := AOp.mv (Opd.t 1) },
   { dst := some 24, g := some (22, false), op := AOp.call (Opd.c (V.fn 10 [])) [Opd.t 23] },
   { dst := some 25, g := some (22, false), op := AOp.un UnOp.not (Opd.t 24) },
   { dst := some 26, g := none, op := AOp.pick (Opd.t 22) (Opd.c (V.bool true)) (Opd.t 25) }]
def c8r2 : List AOper :=
  [{ dst := some 27, g := none, op := AOp.call (Opd.c (V.fn 11 [])) [] },
   { dst := some 4, g := none, op := AOp.mv (Opd.t 27) }]
def c8r3 : List AOper :=
  [{ dst := some 28, g := none, op := AOp.mv (Opd.t 0) },
   { dst := some 29, g := none, op := AOp.call (Opd.c (V.fn 14 [])) [Opd.t 28] },
   { dst := some 5, g := none, op := AOp.mv (Opd.t 29) }]
def c8r4 : List AOper :=
  [{ dst := some 6, g := none, op := AOp.mv (Opd.c V.nils) }]
def c8r5 : List AOper :=
  [{ dst := some 30, g := none, op := AOp.mv (Opd.t 1) },
   { dst := some 31, g := none, op := AOp.call (Opd.c (V.fn 14 [])) [Opd.t 30] },
   { dst := some 7, g := none, op := AOp.mv (Opd.t 31) }]
def c8r6 : List AOper :=
  [{ dst := some 8, g := none, op := AOp.mv (Opd.c (V.int IntKind.i64 0)) }]
def c8r7 : List AOper :=
  [{ dst := some 32, g := none, op := AOp.mv (Opd.t 8) },
   { dst := some 33, g := none, op := AOp.mv (Opd.t 7) },
   { dst := some 34, g := none, op := AOp.lenL (Opd.t 33) },
   { dst := some 35, g := none, op := AOp.bin BinOp.lss (Opd.t 32) (Opd.t 34) }]
def c8r8 : List AOper :=
  [{ dst := some 9, g := none, op := AOp.mv (Opd.c (V.bool false)) }]
def c8r9 : List AOper :=
  [{ dst := some 10, g := none, op := AOp.mv (Opd.c (V.int IntKind.i64 0)) }]
def c8r10 : List AOper :=
  [{ dst := some 38, g := none, op := AOp.mv (Opd.t 10) },
   { dst := some 39, g := none, op := AOp.mv (Opd.t 5) },
   { dst := some 40, g := none, op := AOp.lenL (Opd.t 39) },
   { dst := some 41, g := none, op := AOp.bin BinOp.lss (Opd.t 38) (Opd.t 40) }]
def c8d0 : List (AOper × List Nat) :=
  [({ dst := some 44, g := none, op := AOp.mv (Opd.t 9) }, []),
   ({ dst := some 45, g := none, op := AOp.mv (Opd.t 44) }, [0]),
   ({ dst := some 46, g := some (45, false), op := AOp.mv (Opd.t 5) }, [1]),
   ({ dst := some 47, g := some (45, false), op := AOp.mv (Opd.t 10) }, [1]),
   ({ dst := some 48, g := some (45, false), op := AOp.idxA (Opd.t 46) (Opd.t 47) none 4 }, [2, 3, 1]),
   ({ dst := some 49, g := some (45, false), op := AOp.fldA (Opd.t 48) 0 }, [4, 1]),
   ({ dst := some 50, g := some (45, false), op := AOp.load (Opd.t 49) none }, [5, 1]),
   ({ dst := some 51, g := some (45, false), op := AOp.mv (Opd.t 7) }, [1]),
   ({ dst := some 52, g := some (45, false), op := AOp.mv (Opd.t 8) }, [1]),
   ({ dst := some 53, g := some (45, false), op := AOp.idxA (Opd.t 51) (Opd.t 52) none 4 }, [7, 8, 1]),
   ({ dst := some 54, g := some (45, false), op := AOp.fldA (Opd.t 53) 0 }, [9, 1]),
   ({ dst := some 55, g := some (45, false), op := AOp.load (Opd.t 54) none }, [10, 1]),
   ({ dst := some 56, g := some (45, false), op := AOp.bin BinOp.eql (Opd.t 50) (Opd.t 55) }, [6, 11, 1]),
   ({ dst := some 57, g := some (45, false), op := AOp.mv (Opd.t 56) }, [12, 1, 1]),
   ({ dst := some 58, g := some (57, true), op := AOp.mv (Opd.t 5) }, [13]),
   ({ dst := some 59, g := some (57, true), op := AOp.mv (Opd.t 10) }, [13]),
   ({ dst := some 60, g := some (57, true), op := AOp.idxA (Opd.t 58) (Opd.t 59) none 4 }, [14, 15, 13]),
   ({ dst := some 61, g := some (57, true), op := AOp.fldA (Opd.t 60) 3 }, [16, 13]),
   ({ dst := some 62, g := some (57, true), op := AOp.load (Opd.t 61) none }, [17, 13]),
   ({ dst := some 63, g := some (57, true), op := AOp.mv (Opd.t 7) }, [13]),
   ({ dst := some 64, g := some (57, true), op := AOp.mv (Opd.t 8) }, [13]),
   ({ dst := some 65, g := some (57, true), op := AOp.idxA (Opd.t 63) (Opd.t 64) none 4 }, [19, 20, 13]),
   ({ dst := some 66, g := some (57, true), op := AOp.fldA (Opd.t 65) 3 }, [21, 13]),
   ({ dst := some 67, g := some (57, true), op := AOp.load (Opd.t 66) none }, [22, 13]),
   ({ dst := some 68, g := some (57, true), op := AOp.bin BinOp.eql (Opd.t 62) (Opd.t 67) }, [18, 23, 13]),
   ({ dst := some 69, g := some (45, false), op := AOp.pick (Opd.t 57) (Opd.t 68) (Opd.c (V.bool false)) }, [13, 24, 1]),
   ({ dst := some 70, g := none, op := AOp.pick (Opd.t 45) (Opd.c (V.bool true)) (Opd.t 69) }, [1, 25]),
   ({ dst := some 9, g := none, op := AOp.mv (Opd.t 70) }, [26, 13, 0, 1, 2, 3, 4, 5, 6, 7, 8, 9, 10, 11, 12, 13, 14, 15, 16, 17, 18, 19, 20, 21, 22, 23, 24, 25, 26])]
def c8r11 : List AOper :=
  [{ dst := some 42, g := none, op := AOp.mv (Opd.t 10) },
   { dst := some 43, g := none, op := AOp.bin BinOp.add (Opd.t 42) (Opd.c (V.int IntKind.i64 1)) },
   { dst := some 10, g := none, op := AOp.mv (Opd.t 43) }]
def c8l1 : AC := (AC.seq (AC.seq (AC.region c8r10) (AC.cond (Opd.t 41) AC.skip (AC.exit 2))) (AC.seq (AC.block 3 (AC.drawn c8d0)) (AC.region c8r11)))
def c8r12 : List AOper :=
  [{ dst := some 71, g := none, op := AOp.mv (Opd.t 9) },
   { dst := some 72, g := none, op := AOp.un UnOp.not (Opd.t 71) }]
def c8r13 : List AOper :=
  [{ dst := some 73, g := none, op := AOp.mv (Opd.t 6) },
   { dst := some 74, g := none, op := AOp.mv (Opd.t 7) },
   { dst := some 75, g := none, op := AOp.mv (Opd.t 8) },
   { dst := some 76, g := none, op := AOp.idxA (Opd.t 74) (Opd.t 75) none 4 },
   { dst := some 77, g := none, op := AOp.load (Opd.t 76) (some 4) },
   { dst := some 78, g := none, op := AOp.bslice 1 4 [V.str [], V.str [], V.bool false, V.int IntKind.i64 0] [(0, Opd.t 77)] },
   { dst := some 79, g := none, op := AOp.append (Opd.t 73) (Opd.t 78) 4 48 false },
   { dst := some 6, g := none, op := AOp.mv (Opd.t 79) }]
def c8r14 : List AOper :=
  [{ dst := some 36, g := none, op := AOp.mv (Opd.t 8) },
   { dst := some 37, g := none, op := AOp.bin BinOp.add (Opd.t 36) (Opd.c (V.int IntKind.i64 1)) },
   { dst := some 8, g := none, op := AOp.mv (Opd.t 37) }]
def c8l0 : AC := (AC.seq (AC.seq (AC.region c8r7) (AC.cond (Opd.t 35) AC.skip (AC.exit 0))) (AC.seq (AC.block 1 (AC.seq (AC.region c8r8) (AC.seq (AC.seq (AC.region c8r9) (AC.block 2 (AC.loop c8l1))) (AC.seq (AC.region c8r12) (AC.cond (Opd.t 72) (AC.region c8r13) AC.skip))))) (AC.region c8r14)))
def c8r15 : List AOper :=
  [{ dst := some 81, g := none, op := AOp.mv (Opd.t 5) },
   { dst := some 82, g := none, op := AOp.mv (Opd.t 6) },
   { dst := some 83, g := none, op := AOp.bslice 2 1 [V.nils] [(0, Opd.t 81), (1, Opd.t 82)] },
   { dst := some 84, g := none, op := AOp.call (Opd.c (V.fn 12 [])) [Opd.t 83] },
   { dst := some 80, g := none, op := AOp.mv (Opd.t 84) },
   { dst := some 85, g := none, op := AOp.ext (Opd.t 80) 0 },
   { dst := some 86, g := none, op := AOp.ext (Opd.t 80) 1 },
   { dst := some 11, g := none, op := AOp.mv (Opd.t 85) },
   { dst := some 12, g := none, op := AOp.mv (Opd.t 86) }]
def c8r16 : List AOper :=
  [{ dst := some 88, g := none, op := AOp.mv (Opd.t 6) },
   { dst := some 89, g := none, op := AOp.mv (Opd.t 5) },
   { dst := some 90, g := none, op := AOp.bslice 2 1 [V.nils] [(0, Opd.t 88), (1, Opd.t 89)] },
   { dst := some 91, g := none, op := AOp.call (Opd.c (V.fn 12 [])) [Opd.t 90] },
   { dst := some 87, g := none, op := AOp.mv (Opd.t 91) },
   { dst := some 92, g := none, op := AOp.ext (Opd.t 87) 0 },
   { dst := some 93, g := none, op := AOp.ext (Opd.t 87) 1 },
   { dst := some 13, g := none, op := AOp.mv (Opd.t 92) },
   { dst := some 14, g := none, op := AOp.mv (Opd.t 93) }]
def c8r17 : List AOper :=
  [{ dst := some 95, g := none, op := AOp.mv (Opd.t 11) },
   { dst := some 96, g := none, op := AOp.mv (Opd.t 5) },
   { dst := some 97, g := none, op := AOp.mv (Opd.t 6) },
   { dst := some 98, g := none, op := AOp.bslice 3 1 [V.nils] [(0, Opd.t 95), (1, Opd.t 96), (2, Opd.t 97)] },
   { dst := some 99, g := none, op := AOp.call (Opd.c (V.fn 12 [])) [Opd.t 98] },
   { dst := some 94, g := none, op := AOp.mv (Opd.t 99) },
   { dst := some 100, g := none, op := AOp.ext (Opd.t 94) 0 },
   { dst := some 101, g := none, op := AOp.ext (Opd.t 94) 1 },
   { dst := some 15, g := none, op := AOp.mv (Opd.t 100) },
   { dst := some 16, g := none, op := AOp.mv (Opd.t 101) }]
def c8r18 : List AOper :=
  [{ dst := some 103, g := none, op := AOp.mv (Opd.t 5) },
   { dst := some 104, g := none, op := AOp.mv (Opd.t 5) },
   { dst := some 105, g := none, op := AOp.bslice 2 1 [V.nils] [(0, Opd.t 103), (1, Opd.t 104)] },
   { dst := some 106, g := none, op := AOp.call (Opd.c (V.fn 12 [])) [Opd.t 105] },
   { dst := some 102, g := none, op := AOp.mv (Opd.t 106) },
   { dst := some 107, g := none, op := AOp.ext (Opd.t 102) 0 },
   { dst := some 108, g := none, op := AOp.ext (Opd.t 102) 1 },
   { dst := some 17, g := none, op := AOp.mv (Opd.t 107) },
   { dst := some 18, g := none, op := AOp.mv (Opd.t 108) }]
def c8r19 : List AOper :=
  [{ dst := some 109, g := none, op := AOp.mv (Opd.t 12) },
   { dst := some 110, g := none, op := AOp.bin BinOp.eql (Opd.t 109) (Opd.c (V.int IntKind.i64 0)) },
   { dst := some 111, g := none, op := AOp.mv (Opd.t 110) },
   { dst := some 112, g := some (111, true), op := AOp.mv (Opd.t 14) },
   { dst := some 113, g := some (111, true), op := AOp.bin BinOp.eql (Opd.t 112) (Opd.c (V.int IntKind.i64 0)) },
   { dst := some 114, g := none, op := AOp.pick (Opd.t 111) (Opd.t 113) (Opd.c (V.bool false)) },
   { dst := some 115, g := none, op := AOp.mv (Opd.t 114) },
   { dst := some 116, g := some (115, true), op := AOp.mv (Opd.t 16) },
   { dst := some 117, g := some (115, true), op := AOp.bin BinOp.eql (Opd.t 116) (Opd.c (V.int IntKind.i64 0)) },
   { dst := some 118, g := none, op := AOp.pick (Opd.t 115) (Opd.t 117) (Opd.c (V.bool false)) },
   { dst := some 119, g := none, op := AOp.mv (Opd.t 118) },
   { dst := some 120, g := some (119, true), op := AOp.mv (Opd.t 18) },
   { dst := some 121, g := some (119, true), op := AOp.bin BinOp.eql (Opd.t 120) (Opd.c (V.int IntKind.i64 0)) },
   { dst := some 122, g := none, op := AOp.pick (Opd.t 119) (Opd.t 121) (Opd.c (V.bool false)) },
   { dst := some 123, g := none, op := AOp.mv (Opd.t 122) },
   { dst := some 124, g := some (123, true), op := AOp.mv (Opd.t 11) },
   { dst := some 125, g := some (123, true), op := AOp.mv (Opd.t 13) },
   { dst := some 126, g := some (123, true), op := AOp.call (Opd.c (V.fn 15 [])) [Opd.t 124, Opd.t 125] },
   { dst := some 127, g := none, op := AOp.pick (Opd.t 123) (Opd.t 126) (Opd.c (V.bool false)) },
   { dst := some 128, g := none, op := AOp.mv (Opd.t 127) },
   { dst := some 129, g := some (128, true), op := AOp.mv (Opd.t 11) },
   { dst := some 130, g := some (128, true), op := AOp.mv (Opd.t 15) },
   { dst := some 131, g := some (128, true), op := AOp.call (Opd.c (V.fn 15 [])) [Opd.t 129, Opd.t 130] },
   { dst := some 132, g := none, op := AOp.pick (Opd.t 128) (Opd.t 131) (Opd.c (V.bool false)) },
   { dst := some 133, g := none, op := AOp.mv (Opd.t 132) },
   { dst := some 134, g := some (133, true), op := AOp.mv (Opd.t 17) },
   { dst := some 135, g := some (133, true), op := AOp.mv (Opd.t 5) },
   { dst := some 136, g := some (133, true), op := AOp.call (Opd.c (V.fn 15 [])) [Opd.t 134, Opd.t 135] },
   { dst := some 137, g := none, op := AOp.pick (Opd.t 133) (Opd.t 136) (Opd.c (V.bool false)) },
   { dst := some 138, g := none, op := AOp.mv (Opd.t 137) },
   { dst := some 139, g := some (138, true), op := AOp.mv (Opd.t 11) },
   { dst := some 140, g := some (138, true), op := AOp.lenL (Opd.t 139) },
   { dst := some 141, g := some (138, true), op := AOp.mv (Opd.t 5) },
   { dst := some 142, g := some (138, true), op := AOp.lenL (Opd.t 141) },
   { dst := some 143, g := some (138, true), op := AOp.mv (Opd.t 6) },
   { dst := some 144, g := some (138, true), op := AOp.lenL (Opd.t 143) },
   { dst := some 145, g := some (138, true), op := AOp.bin BinOp.add (Opd.t 142) (Opd.t 144) },
   { dst := some 146, g := some (138, true), op := AOp.bin BinOp.eql (Opd.t 140) (Opd.t 145) },
   { dst := some 147, g := none, op := AOp.pick (Opd.t 138) (Opd.t 146) (Opd.c (V.bool false)) },
   { dst := some 148, g := none, op := AOp.mv (Opd.t 147) },
   { dst := some 149, g := some (148, true), op := AOp.call (Opd.c (V.fn 11 [])) [] },
   { dst := some 150, g := none, op := AOp.pick (Opd.t 148) (Opd.t 149) (Opd.c (V.bool false)) },
   { dst := some 4, g := none, op := AOp.mv (Opd.t 150) }]
def c8 : AC := (AC.seq (AC.region c8r0) (AC.seq (AC.seq (AC.region c8r1) (AC.cond (Opd.t 26) (AC.seq (AC.region c8r2) AC.ret) AC.skip)) (AC.seq (AC.region c8r3) (AC.seq (AC.region c8r4) (AC.seq (AC.region c8r5) (AC.seq (AC.seq (AC.region c8r6) (AC.block 0 (AC.loop c8l0))) (AC.seq (AC.region c8r15) (AC.seq (AC.region c8r16) (AC.seq (AC.region c8r17) (AC.seq (AC.region c8r18) (AC.seq (AC.region c8r19) AC.ret)))))))))))
def r8 : List ARes := [ARes.tmp 4]
theorem c8_ok : Try.f8.body.bind (cCode Try.prog Try.f8.ntmps) = some c8 := by kernel_rfl
theorem r8_ok : Try.f8.results.toList.mapM (cRes Try.prog Try.f8.ntmps) = some r8 := by kernel_rfl
def c9r0 : List AOper :=
  [{ dst := some 4, g := none, op := AOp.mv (Opd.c (V.bool false)) }]
def c9r1 : List AOper :=
  [{ dst := some 11, g := none, op := AOp.mv (Opd.t 0) },
   { dst := some 12, g := none, op := AOp.call (Opd.c (V.fn 10 [])) [Opd.t 11] },
   { dst := some 13, g := none, op := AOp.un UnOp.not (Opd.t 12) }]
def c9r2 : List AOper :=
  [{ dst := some 14, g := none, op := AOp.call (Opd.c (V.fn 11 [])) [] },
   { dst := some 4, g := none, op := AOp.mv (Opd.t 14) }]
def c9r3 : List AOper :=
  [{ dst := some 15, g := none, op := AOp.mv (Opd.t 0) },
   { dst := some 16, g := none, op := AOp.call (Opd.c (V.fn 14 [])) [Opd.t 15] },
   { dst := some 5, g := none, op := AOp.mv (Opd.t 16) }]
def c9r4 : List AOper :=
  [{ dst := some 17, g := none, op := AOp.mv (Opd.t 5) },
   { dst := some 18, g := none, op := AOp.mv (Opd.t 1) },
   { dst := some 19, g := none, op := AOp.call (Opd.c (V.fn 19 [])) [Opd.t 17, Opd.t 18] },
   { dst := some 6, g := none, op := AOp.mv (Opd.t 19) }]
def c9r5 : List AOper :=
  [{ dst := some 20, g := none, op := AOp.mv (Opd.t 5) },
   { dst := some 21, g := none, op := AOp.mv (Opd.t 1) },
   { dst := some 22, g := none, op := AOp.call (Opd.c (V.fn 21 [])) [Opd.t 20, Opd.t 21] },
   { dst := some 7, g := none, op := AOp.mv (Opd.t 22) }]
def c9r6 : List AOper :=
  [{ dst := some 8, g := none, op := AOp.mv (Opd.c V.nils) }]
def c9r7 : List AOper :=
  [{ dst := some 9, g := none, op := AOp.mv (Opd.c (V.int IntKind.i64 0)) }]
def c9r8 : List AOper :=
  [{ dst := some 10, g := none, op := AOp.mv (Opd.c (V.int IntKind.i64 0)) }]
def c9r9 : List AOper :=
  [{ dst := some 23, g := none, op := AOp.mv (Opd.t 10) },
   { dst := some 24, g := none, op := AOp.mv (Opd.t 6) },
   { dst := some 25, g := none, op := AOp.lenL (Opd.t 24) },
   { dst := some 26, g := none, op := AOp.bin BinOp.lss (Opd.t 23) (Opd.t 25) },
   { dst := some 27, g := none, op := AOp.mv (Opd.t 26) },
   { dst := some 28, g := some (27, false), op := AOp.mv (Opd.t 9) },
   { dst := some 29, g := some (27, false), op := AOp.mv (Opd.t 7) },
   { dst := some 30, g := some (27, false), op := AOp.lenL (Opd.t 29) },
   { dst := some 31, g := some (27, false), op := AOp.bin BinOp.lss (Opd.t 28) (Opd.t 30) },
   { dst := some 32, g := none, op := AOp.pick (Opd.t 27) (Opd.c (V.bool true)) (Opd.t 31) }]
def c9d0 : List (AOper × List Nat) :=
  [({ dst := some 33, g := none, op := AOp.mv (Opd.t 9) }, []),
   ({ dst := some 34, g := none, op := AOp.mv (Opd.t 7) }, []),
   ({ dst := some 35, g := none, op := AOp.lenL (Opd.t 34) }, [1]),
   ({ dst := some 36, g := none, op := AOp.bin BinOp.lss (Opd.t 33) (Opd.t 35) }, [0, 2]),
   ({ dst := some 37, g := none, op := AOp.mv (Opd.t 36) }, [3]),
   ({ dst := some 38, g := some (37, true), op := AOp.mv (Opd.t 10) }, [4]),
   ({ dst := some 39, g := some (37, true), op := AOp.mv (Opd.t 6) }, [4]),
   ({ dst := some 40, g := some (37, true), op := AOp.lenL (Opd.t 39) }, [6, 4]),
   ({ dst := some 41, g := some (37, true), op := AOp.bin BinOp.eql (Opd.t 38) (Opd.t 40) }, [5, 7, 4]),
   ({ dst := some 42, g := some (37, true), op := AOp.mv (Opd.t 41) }, [8, 4, 4]),
   ({ dst := some 43, g := some (42, false), op := AOp.mv (Opd.t 7) }, [9]),
   ({ dst := some 44, g := some (42, false), op := AOp.mv (Opd.t 9) }, [9]),
   ({ dst := some 45, g := some (42, false), op := AOp.idxA (Opd.t 43) (Opd.t 44) none 4 }, [10, 11, 9]),
   ({ dst := some 46, g := some (42, false), op := AOp.fldA (Opd.t 45) 0 }, [12, 9]),
   ({ dst := some 47, g := some (42, false), op := AOp.load (Opd.t 46) none }, [13, 9]),
   ({ dst := some 48, g := some (42, false), op := AOp.mv (Opd.t 6) }, [9]),
   ({ dst := some 49, g := some (42, false), op := AOp.mv (Opd.t 10) }, [9]),
   ({ dst := some 50, g := some (42, false), op := AOp.idxA (Opd.t 48) (Opd.t 49) none 2 }, [15, 16, 9]),
   ({ dst := some 51, g := some (42, false), op := AOp.fldA (Opd.t 50) 0 }, [17, 9]),
   ({ dst := some 52, g := some (42, false), op := AOp.load (Opd.t 51) none }, [18, 9]),
   ({ dst := some 53, g := some (42, false), op := AOp.bin BinOp.leq (Opd.t 47) (Opd.t 52) }, [14, 19, 9]),
   ({ dst := some 54, g := some (37, true), op := AOp.pick (Opd.t 42) (Opd.c (V.bool true)) (Opd.t 53) }, [9, 20, 4]),
   ({ dst := some 55, g := none, op := AOp.pick (Opd.t 37) (Opd.t 54) (Opd.c (V.bool false)) }, [4, 21])]
def c9d1 : List (AOper × List Nat) :=
  [({ dst := some 56, g := none, op := AOp.mv (Opd.t 10) }, []),
   ({ dst := some 57, g := none, op := AOp.mv (Opd.t 6) }, []),
   ({ dst := some 58, g := none, op := AOp.lenL (Opd.t 57) }, [1]),
   ({ dst := some 59, g := none, op := AOp.bin BinOp.lss (Opd.t 56) (Opd.t 58) }, [0, 2]),
   ({ dst := some 60, g := none, op := AOp.mv (Opd.t 59) }, [3]),
   ({ dst := some 61, g := some (60, true), op := AOp.mv (Opd.t 6) }, [4]),
   ({ dst := some 62, g := some (60, true), op := AOp.mv (Opd.t 10) }, [4]),
   ({ dst := some 63, g := some (60, true), op := AOp.idxA (Opd.t 61) (Opd.t 62) none 2 }, [5, 6, 4]),
   ({ dst := some 64, g := some (60, true), op := AOp.fldA (Opd.t 63) 0 }, [7, 4]),
   ({ dst := some 65, g := some (60, true), op := AOp.load (Opd.t 64) none }, [8, 4]),
   ({ dst := some 66, g := some (60, true), op := AOp.mv (Opd.t 7) }, [4]),
   ({ dst := some 67, g := some (60, true), op := AOp.mv (Opd.t 9) }, [4]),
   ({ dst := some 68, g := some (60, true), op := AOp.idxA (Opd.t 66) (Opd.t 67) none 4 }, [10, 11, 4]),
   ({ dst := some 69, g := some (60, true), op := AOp.fldA (Opd.t 68) 0 }, [12, 4]),
   ({ dst := some 70, g := some (60, true), op := AOp.load (Opd.t 69) none }, [13, 4]),
   ({ dst := some 71, g := some (60, true), op := AOp.bin BinOp.eql (Opd.t 65) (Opd.t 70) }, [9, 14, 4]),
   ({ dst := some 72, g := none, op := AOp.pick (Opd.t 60) (Opd.t 71) (Opd.c (V.bool false)) }, [4, 15])]
def c9r10 : List AOper :=
  [{ dst := some 73, g := none, op := AOp.mv (Opd.t 10) },
   { dst := some 74, g := none, op := AOp.bin BinOp.add (Opd.t 73) (Opd.c (V.int IntKind.i64 1)) },
   { dst := some 10, g := none, op := AOp.mv (Opd.t 74) }]
def c9r11 : List AOper :=
  [{ dst := some 75, g := none, op := AOp.mv (Opd.t 7) },
   { dst := some 76, g := none, op := AOp.mv (Opd.t 9) },
   { dst := some 77, g := none, op := AOp.idxA (Opd.t 75) (Opd.t 76) none 4 },
   { dst := some 78, g := none, op := AOp.fldA (Opd.t 77) 2 },
   { dst := some 79, g := none, op := AOp.load (Opd.t 78) none },
   { dst := some 80, g := none, op := AOp.un UnOp.not (Opd.t 79) }]
def c9d2 : List (AOper × List Nat) :=
  [({ dst := some 81, g := none, op := AOp.mv (Opd.t 8) }, []),
   ({ dst := some 82, g := none, op := AOp.mv (Opd.t 7) }, []),
   ({ dst := some 83, g := none, op := AOp.mv (Opd.t 9) }, []),
   ({ dst := some 84, g := none, op := AOp.idxA (Opd.t 82) (Opd.t 83) none 4 }, [1, 2]),
   ({ dst := some 85, g := none, op := AOp.fldA (Opd.t 84) 0 }, [3]),
   ({ dst := some 86, g := none, op := AOp.load (Opd.t 85) none }, [4]),
   ({ dst := some 87, g := none, op := AOp.mv (Opd.t 7) }, []),
   ({ dst := some 88, g := none, op := AOp.mv (Opd.t 9) }, []),
   ({ dst := some 89, g := none, op := AOp.idxA (Opd.t 87) (Opd.t 88) none 4 }, [6, 7]),
   ({ dst := some 90, g := none, op := AOp.fldA (Opd.t 89) 1 }, [8]),
   ({ dst := some 91, g := none, op := AOp.load (Opd.t 90) none }, [9]),
   ({ dst := some 92, g := none, op := AOp.build [V.str [], V.str []] [(0, 1, Opd.t 86), (1, 1, Opd.t 91)] }, [5, 10]),
   ({ dst := some 93, g := none, op := AOp.bslice 1 2 [V.str [], V.str []] [(0, Opd.t 92)] }, [11]),
   ({ dst := some 94, g := none, op := AOp.append (Opd.t 81) (Opd.t 93) 2 32 false }, [0, 12]),
   ({ dst := some 8, g := none, op := AOp.mv (Opd.t 94) }, [13, 13, 0, 1, 2, 3, 4, 5, 6, 7, 8, 9, 10, 11, 12, 13])]
def c9r12 : List AOper :=
  [{ dst := some 95, g := none, op := AOp.mv (Opd.t 9) },
   { dst := some 96, g := none, op := AOp.bin BinOp.add (Opd.t 95) (Opd.c (V.int IntKind.i64 1)) },
   { dst := some 9, g := none, op := AOp.mv (Opd.t 96) }]
def c9r13 : List AOper :=
  [{ dst := some 97, g := none, op := AOp.mv (Opd.t 8) },
   { dst := some 98, g := none, op := AOp.mv (Opd.t 6) },
   { dst := some 99, g := none, op := AOp.mv (Opd.t 10) },
   { dst := some 100, g := none, op := AOp.idxA (Opd.t 98) (Opd.t 99) none 2 },
   { dst := some 101, g := none, op := AOp.load (Opd.t 100) (some 2) },
   { dst := some 102, g := none, op := AOp.bslice 1 2 [V.str [], V.str []] [(0, Opd.t 101)] },
   { dst := some 103, g := none, op := AOp.append (Opd.t 97) (Opd.t 102) 2 32 false },
   { dst := some 8, g := none, op := AOp.mv (Opd.t 103) }]
def c9r14 : List AOper :=
  [{ dst := some 104, g := none, op := AOp.mv (Opd.t 10) },
   { dst := some 105, g := none, op := AOp.bin BinOp.add (Opd.t 104) (Opd.c (V.int IntKind.i64 1)) },
   { dst := some 10, g := none, op := AOp.mv (Opd.t 105) }]
def c9l0 : AC := (AC.seq (AC.seq (AC.region c9r9) (AC.cond (Opd.t 32) AC.skip (AC.exit 0))) (AC.block 1 (AC.seq (AC.seq (AC.drawn c9d0) (AC.cond (Opd.t 55) (AC.seq (AC.seq (AC.drawn c9d1) (AC.cond (Opd.t 72) (AC.region c9r10) AC.skip)) (AC.seq (AC.seq (AC.region c9r11) (AC.cond (Opd.t 80) (AC.drawn c9d2) AC.skip)) (AC.seq (AC.region c9r12) (AC.exit 1)))) AC.skip)) (AC.seq (AC.region c9r13) (AC.region c9r14)))))
def c9r15 : List AOper :=
  [{ dst := some 106, g := none, op := AOp.mv (Opd.t 8) },
   { dst := some 107, g := none, op := AOp.mv (Opd.t 5) },
   { dst := some 108, g := none, op := AOp.call (Opd.c (V.fn 19 [])) [Opd.t 107, Opd.c (V.int IntKind.i64 1099511627776)] },
   { dst := some 109, g := none, op := AOp.call (Opd.c (V.fn 18 [])) [Opd.t 106, Opd.t 108] },
   { dst := some 110, g := none, op := AOp.mv (Opd.t 109) },
   { dst := some 111, g := some (110, true), op := AOp.call (Opd.c (V.fn 11 [])) [] },
   { dst := some 112, g := none, op := AOp.pick (Opd.t 110) (Opd.t 111) (Opd.c (V.bool false)) },
   { dst := some 4, g := none, op := AOp.mv (Opd.t 112) }]
def c9 : AC := (AC.seq (AC.region c9r0) (AC.seq (AC.seq (AC.region c9r1) (AC.cond (Opd.t 13) (AC.seq (AC.region c9r2) AC.ret) AC.skip)) (AC.seq (AC.region c9r3) (AC.seq (AC.region c9r4) (AC.seq (AC.region c9r5) (AC.seq (AC.region c9r6) (AC.seq (AC.region c9r7) (AC.seq (AC.seq (AC.region c9r8) (AC.block 0 (AC.loop c9l0))) (AC.seq (AC.region c9r15) AC.ret)))))))))
def r9 : List ARes := [ARes.tmp 4]
theorem c9_ok : Try.f9.body.bind (cCode Try.prog Try.f9.ntmps) = some c9 := by kernel_rfl
theorem r9_ok : Try.f9.results.toList.mapM (cRes Try.prog Try.f9.ntmps) = some r9 := by kernel_rfl
def c10r0 : List AOper :=
  [{ dst := some 2, g := none, op := AOp.mv (Opd.c (V.bool false)) }]
def c10r1 : List AOper :=
  [{ dst := some 3, g := none, op := AOp.mv (Opd.c (V.int IntKind.i64 0)) }]
def c10r2 : List AOper :=
  [{ dst := some 4, g := none, op := AOp.mv (Opd.t 3) },
   { dst := some 5, g := none, op := AOp.mv (Opd.t 0) },
   { dst := some 6, g := none, op := AOp.lenL (Opd.t 5) },
   { dst := some 7, g := none, op := AOp.bin BinOp.lss (Opd.t 4) (Opd.t 6) },
   { dst := some 8, g := none, op := AOp.mv (Opd.t 7) },
   { dst := some 9, g := some (8, true), op := AOp.mv (Opd.t 3) },
   { dst := some 10, g := some (8, true), op := AOp.bin BinOp.lss (Opd.t 9) (Opd.c (V.int IntKind.i64 60)) },
   { dst := some 11, g := none, op := AOp.pick (Opd.t 8) (Opd.t 10) (Opd.c (V.bool false)) }]
def c10r3 : List AOper :=
  [{ dst := some 14, g := none, op := AOp.mv (Opd.t 0) },
   { dst := some 15, g := none, op := AOp.mv (Opd.t 3) },
   { dst := some 16, g := none, op := AOp.idxA (Opd.t 14) (Opd.t 15) none 4 },
   { dst := some 17, g := none, op := AOp.fldA (Opd.t 16) 0 },
   { dst := some 18, g := none, op := AOp.load (Opd.t 17) none },
   { dst := some 19, g := none, op := AOp.lenS (Opd.t 18) },
   { dst := some 20, g := none, op := AOp.bin BinOp.gtr (Opd.t 19) (Opd.c (V.int IntKind.i64 100)) },
   { dst := some 21, g := none, op := AOp.mv (Opd.t 20) },
   { dst := some 22, g := some (21, false), op := AOp.mv (Opd.t 0) },
   { dst := some 23, g := some (21, false), op := AOp.mv (Opd.t 3) },
   { dst := some 24, g := some (21, false), op := AOp.idxA (Opd.t 22) (Opd.t 23) none 4 },
   { dst := some 25, g := some (21, false), op := AOp.fldA (Opd.t 24) 1 },
   { dst := some 26, g := some (21, false), op := AOp.load (Opd.t 25) none },
   { dst := some 27, g := some (21, false), op := AOp.lenS (Opd.t 26) },
   { dst := some 28, g := some (21, false), op := AOp.bin BinOp.gtr (Opd.t 27) (Opd.c (V.int IntKind.i64 2048)) },
   { dst := some 29, g := none, op := AOp.pick (Opd.t 21) (Opd.c (V.bool true)) (Opd.t 28) }]
def c10r4 : List AOper :=
  [{ dst := some 2, g := none, op := AOp.mv (Opd.c (V.bool false)) }]
def c10r5 : List AOper :=
  [{ dst := some 12, g := none, op := AOp.mv (Opd.t 3) },
   { dst := some 13, g := none, op := AOp.bin BinOp.add (Opd.t 12) (Opd.c (V.int IntKind.i64 1)) },
   { dst := some 3, g := none, op := AOp.mv (Opd.t 13) }]
def c10l0 : AC := (AC.seq (AC.seq (AC.region c10r2) (AC.cond (Opd.t 11) AC.skip (AC.exit 0))) (AC.seq (AC.block 1 (AC.seq (AC.region c10r3) (AC.cond (Opd.t 29) (AC.seq (AC.region c10r4) AC.ret) AC.skip))) (AC.region c10r5)))
def c10r6 : List AOper :=
  [{ dst := some 30, g := none, op := AOp.mv (Opd.t 0) },
   { dst := some 31, g := none, op := AOp.lenL (Opd.t 30) },
   { dst := some 32, g := none, op := AOp.bin BinOp.leq (Opd.t 31) (Opd.c (V.int IntKind.i64 60)) },
   { dst := some 2, g := none, op := AOp.mv (Opd.t 32) }]
def c10 : AC := (AC.seq (AC.region c10r0) (AC.seq (AC.seq (AC.region c10r1) (AC.block 0 (AC.loop c10l0))) (AC.seq (AC.region c10r6) AC.ret)))
def r10 : List ARes := [ARes.tmp 2]
theorem c10_ok : Try.f10.body.bind (cCode Try.prog Try.f10.ntmps) = some c10 := by kernel_rfl
theorem r10_ok : Try.f10.results.toList.mapM (cRes Try.prog Try.f10.ntmps) = some r10 := by kernel_rfl
def c11r0 : List AOper :=
  [{ dst := some 0, g := none, op := AOp.mv (Opd.c (V.bool false)) }]
def c11r1 : List AOper :=
  [{ dst := some 6, g := none, op := AOp.build [V.str [], V.str [], V.bool false, V.int IntKind.i64 0] [(0, 1, Opd.c (V.str [97])), (1, 1, Opd.c (V.str [120])), (3, 1, Opd.c (V.int IntKind.i64 9))] },
   { dst := some 7, g := none, op := AOp.build [V.str [], V.str [], V.bool false, V.int IntKind.i64 0] [(0, 1, Opd.c (V.str [97])), (3, 1, Opd.c (V.int IntKind.i64 4)), (2, 1, Opd.c (V.bool true))] },
   { dst := some 8, g := none, op := AOp.bslice 2 4 [V.str [], V.str [], V.bool false, V.int IntKind.i64 0] [(0, Opd.t 6), (1, Opd.t 7)] },
   { dst := some 1, g := none, op := AOp.mv (Opd.t 8) }]
def c11r2 : List AOper :=
  [{ dst := some 9, g := none, op := AOp.build [V.str [], V.str [], V.bool false, V.int IntKind.i64 0] [(0, 1, Opd.c (V.str [97])), (1, 1, Opd.c (V.str [121])), (3, 1, Opd.c (V.int IntKind.i64 2))] },
   { dst := some 10, g := none, op := AOp.build [V.str [], V.str [], V.bool false, V.int IntKind.i64 0] [(0, 1, Opd.c (V.str [98])), (1, 1, Opd.c (V.str [122])), (3, 1, Opd.c (V.int IntKind.i64 3))] },
   { dst := some 11, g := none, op := AOp.bslice 2 4 [V.str [], V.str [], V.bool false, V.int IntKind.i64 0] [(0, Opd.t 9), (1, Opd.t 10)] },
   { dst := some 2, g := none, op := AOp.mv (Opd.t 11) }]
def c11r3 : List AOper :=
  [{ dst := some 13, g := none, op := AOp.mv (Opd.t 2) },
   { dst := some 14, g := none, op := AOp.mv (Opd.t 1) },
   { dst := some 15, g := none, op := AOp.bslice 2 1 [V.nils] [(0, Opd.t 13), (1, Opd.t 14)] },
   { dst := some 16, g := none, op := AOp.call (Opd.c (V.fn 12 [])) [Opd.t 15] },
   { dst := some 12, g := none, op := AOp.mv (Opd.t 16) },
   { dst := some 17, g := none, op := AOp.ext (Opd.t 12) 0 },
   { dst := some 18, g := none, op := AOp.ext (Opd.t 12) 1 },
   { dst := some 3, g := none, op := AOp.mv (Opd.t 17) },
   { dst := some 4, g := none, op := AOp.mv (Opd.t 18) }]
def c11r4 : List AOper :=
  [{ dst := some 19, g := none, op := AOp.mv (Opd.t 3) },
   { dst := some 20, g := none, op := AOp.bslice 1 1 [V.int IntKind.i64 0] [(0, Opd.c (V.int IntKind.i64 3))] },
   { dst := some 21, g := none, op := AOp.call (Opd.c (V.fn 23 [])) [Opd.t 19, Opd.t 20, Opd.c (V.bool true)] },
   { dst := some 5, g := none, op := AOp.mv (Opd.t 21) }]
def c11d0 : List (AOper × List Nat) :=
  [({ dst := some 22, g := none, op := AOp.mv (Opd.t 4) }, []),
   ({ dst := some 23, g := none, op := AOp.bin BinOp.eql (Opd.t 22) (Opd.c (V.int IntKind.i64 0)) }, [0]),
   ({ dst := some 24, g := none, op := AOp.mv (Opd.t 23) }, [1]),
   ({ dst := some 25, g := some (24, true), op := AOp.mv (Opd.t 3) }, [2]),
   ({ dst := some 26, g := some (24, true), op := AOp.lenL (Opd.t 25) }, [3, 2]),
   ({ dst := some 27, g := some (24, true), op := AOp.bin BinOp.eql (Opd.t 26) (Opd.c (V.int IntKind.i64 4)) }, [4, 2]),
   ({ dst := some 28, g := none, op := AOp.pick (Opd.t 24) (Opd.t 27) (Opd.c (V.bool false)) }, [2, 5]),
   ({ dst := some 29, g := none, op := AOp.mv (Opd.t 28) }, [6, 2]),
   ({ dst := some 30, g := some (29, true), op := AOp.mv (Opd.t 3) }, [7]),
   ({ dst := some 31, g := some (29, true), op := AOp.idxA (Opd.t 30) (Opd.c (V.int IntKind.i64 0)) none 4 }, [8, 7]),
   ({ dst := some 32, g := some (29, true), op := AOp.load (Opd.t 31) (some 4) }, [9, 7]),
   ({ dst := some 33, g := some (29, true), op := AOp.mv (Opd.t 1) }, [7]),
   ({ dst := some 34, g := some (29, true), op := AOp.idxA (Opd.t 33) (Opd.c (V.int IntKind.i64 0)) none 4 }, [11, 7]),
   ({ dst := some 35, g := some (29, true), op := AOp.load (Opd.t 34) (some 4) }, [12, 7]),
   ({ dst := some 36, g := some (29, true), op := AOp.eqG false [2, 2, 0, 1] (Opd.t 32) (Opd.t 35) }, [10, 13, 7]),
   ({ dst := some 37, g := none, op := AOp.pick (Opd.t 29) (Opd.t 36) (Opd.c (V.bool false)) }, [7, 14]),
   ({ dst := some 38, g := none, op := AOp.mv (Opd.t 37) }, [15, 7]),
   ({ dst := some 39, g := some (38, true), op := AOp.mv (Opd.t 3) }, [16]),
   ({ dst := some 40, g := some (38, true), op := AOp.idxA (Opd.t 39) (Opd.c (V.int IntKind.i64 3)) none 4 }, [17, 16]),
   ({ dst := some 41, g := some (38, true), op := AOp.load (Opd.t 40) (some 4) }, [18, 16]),
   ({ dst := some 42, g := some (38, true), op := AOp.mv (Opd.t 2) }, [16]),
   ({ dst := some 43, g := some (38, true), op := AOp.idxA (Opd.t 42) (Opd.c (V.int IntKind.i64 1)) none 4 }, [20, 16]),
   ({ dst := some 44, g := some (38, true), op := AOp.load (Opd.t 43) (some 4) }, [21, 16]),
   ({ dst := some 45, g := some (38, true), op := AOp.eqG false [2, 2, 0, 1] (Opd.t 41) (Opd.t 44) }, [19, 22, 16]),
   ({ dst := some 46, g := none, op := AOp.pick (Opd.t 38) (Opd.t 45) (Opd.c (V.bool false)) }, [16, 23]),
   ({ dst := some 47, g := none, op := AOp.mv (Opd.t 46) }, [24, 16]),
   ({ dst := some 48, g := some (47, true), op := AOp.mv (Opd.t 3) }, [25]),
   ({ dst := some 49, g := some (47, true), op := AOp.call (Opd.c (V.fn 19 [])) [Opd.t 48, Opd.c (V.int IntKind.i64 3)] }, [26, 25, 25]),
   ({ dst := some 50, g := some (47, true), op := AOp.build [V.str [], V.str []] [(0, 1, Opd.c (V.str [97])), (1, 1, Opd.c (V.str [121]))] }, [25]),
   ({ dst := some 51, g := some (47, true), op := AOp.build [V.str [], V.str []] [(0, 1, Opd.c (V.str [98])), (1, 1, Opd.c (V.str [122]))] }, [25]),
   ({ dst := some 52, g := some (47, true), op := AOp.bslice 2 2 [V.str [], V.str []] [(0, Opd.t 50), (1, Opd.t 51)] }, [28, 29, 25]),
   ({ dst := some 53, g := some (47, true), op := AOp.call (Opd.c (V.fn 18 [])) [Opd.t 49, Opd.t 52] }, [27, 30, 27, 25]),
   ({ dst := some 54, g := none, op := AOp.pick (Opd.t 47) (Opd.t 53) (Opd.c (V.bool false)) }, [25, 31]),
   ({ dst := some 55, g := none, op := AOp.mv (Opd.t 54) }, [32, 31]),
   ({ dst := some 56, g := some (55, true), op := AOp.mv (Opd.t 5) }, [33]),
   ({ dst := some 57, g := some (55, true), op := AOp.lenL (Opd.t 56) }, [34, 33]),
   ({ dst := some 58, g := some (55, true), op := AOp.bin BinOp.eql (Opd.t 57) (Opd.c (V.int IntKind.i64 3)) }, [35, 33]),
   ({ dst := some 59, g := none, op := AOp.pick (Opd.t 55) (Opd.t 58) (Opd.c (V.bool false)) }, [33, 36]),
   ({ dst := some 60, g := none, op := AOp.mv (Opd.t 59) }, [37, 33]),
   ({ dst := some 61, g := some (60, true), op := AOp.mv (Opd.t 3) }, [38]),
   ({ dst := some 62, g := some (60, true), op := AOp.call (Opd.c (V.fn 21 [])) [Opd.t 61, Opd.c (V.int IntKind.i64 8)] }, [39, 38, 38]),
   ({ dst := some 63, g := some (60, true), op := AOp.lenL (Opd.t 62) }, [40, 38]),
   ({ dst := some 64, g := some (60, true), op := AOp.bin BinOp.eql (Opd.t 63) (Opd.c (V.int IntKind.i64 1)) }, [41, 38]),
   ({ dst := some 65, g := none, op := AOp.pick (Opd.t 60) (Opd.t 64) (Opd.c (V.bool false)) }, [38, 42]),
   ({ dst := some 0, g := none, op := AOp.mv (Opd.t 65) }, [43, 40, 0, 1, 2, 3, 4, 5, 6, 7, 8, 9, 10, 11, 12, 13, 14, 15, 16, 17, 18, 19, 20, 21, 22, 23, 24, 25, 26, 27, 28, 29, 30, 31, 32, 33, 34, 35, 36, 37, 38, 39, 40, 41, 42, 43])]
def c11 : AC := (AC.seq (AC.region c11r0) (AC.seq (AC.region c11r1) (AC.seq (AC.region c11r2) (AC.seq (AC.region c11r3) (AC.seq (AC.region c11r4) (AC.seq (AC.drawn c11d0) AC.ret))))))
def r11 : List ARes := [ARes.tmp 0]
theorem c11_ok : Try.f11.body.bind (cCode Try.prog Try.f11.ntmps) = some c11 := by kernel_rfl
theorem r11_ok : Try.f11.results.toList.mapM (cRes Try.prog Try.f11.ntmps) = some r11 := by kernel_rfl
def c12r0 : List AOper :=
  [{ dst := some 2, g := none, op := AOp.alloc [V.nils] },
   { dst := some 3, g := none, op := AOp.alloc [V.int IntKind.i64 0] }]
def c12r1 : List AOper :=
  [{ dst := some 6, g := none, op := AOp.mv (Opd.t 0) },
   { dst := some 7, g := none, op := AOp.call (Opd.c (V.fn 26 [])) [Opd.t 6] },
   { dst := some 8, g := none, op := AOp.un UnOp.not (Opd.t 7) }]
def c12r2 : List AOper :=
  [{ dst := none, g := none, op := AOp.store (Opd.t 2) (Opd.c V.nils) 1 },
   { dst := none, g := none, op := AOp.store (Opd.t 3) (Opd.c (V.int IntKind.i64 1)) 1 }]
def c12r3 : List AOper :=
  [{ dst := some 4, g := none, op := AOp.alloc [V.nils] }]
def c12r4 : List AOper :=
  [{ dst := some 9, g := none, op := AOp.mv (Opd.t 0) },
   { dst := some 10, g := none, op := AOp.call (Opd.c (V.fn 17 [])) [Opd.t 9] }]
def c12r5 : List AOper :=
  [{ dst := some 5, g := none, op := AOp.alloc [V.str [], V.str [], V.bool false, V.int IntKind.i64 0] },
   { dst := none, g := none, op := AOp.store (Opd.t 5) (Opd.t 11) 4 }]
def c12r6 : List AOper :=
  [{ dst := some 12, g := none, op := AOp.load (Opd.t 4) none },
   { dst := some 13, g := none, op := AOp.lenL (Opd.t 12) },
   { dst := some 14, g := none, op := AOp.bin BinOp.eql (Opd.t 13) (Opd.c (V.int IntKind.i64 4096)) }]
def c12r7 : List AOper :=
  [{ dst := none, g := none, op := AOp.store (Opd.t 2) (Opd.c V.nils) 1 },
   { dst := none, g := none, op := AOp.store (Opd.t 3) (Opd.c (V.int IntKind.i64 2)) 1 }]
def c12r8 : List AOper :=
  [{ dst := some 15, g := none, op := AOp.load (Opd.t 4) none },
   { dst := some 16, g := none, op := AOp.load (Opd.t 5) (some 4) },
   { dst := some 17, g := none, op := AOp.bslice 1 4 [V.str [], V.str [], V.bool false, V.int IntKind.i64 0] [(0, Opd.t 16)] },
   { dst := some 18, g := none, op := AOp.append (Opd.t 15) (Opd.t 17) 4 48 false },
   { dst := none, g := none, op := AOp.store (Opd.t 4) (Opd.t 18) 1 }]
def c12a0 : AC := (AC.region c12r5)
def c12b0 : AC := (AC.block 1 (AC.seq (AC.seq (AC.region c12r6) (AC.cond (Opd.t 14) (AC.seq (AC.region c12r7) AC.ret) AC.skip)) (AC.region c12r8)))
def c12r9 : List AOper :=
  [{ dst := some 19, g := none, op := AOp.load (Opd.t 4) none },
   { dst := none, g := none, op := AOp.store (Opd.t 2) (Opd.t 19) 1 },
   { dst := none, g := none, op := AOp.store (Opd.t 3) (Opd.c (V.int IntKind.i64 0)) 1 }]
def c12 : AC := (AC.seq (AC.region c12r0) (AC.seq (AC.seq (AC.region c12r1) (AC.cond (Opd.t 8) (AC.seq (AC.region c12r2) AC.ret) AC.skip)) (AC.seq (AC.region c12r3) (AC.seq (AC.seq (AC.region c12r4) (AC.block 0 (AC.rangeF (Opd.t 10) [11] c12a0 c12b0))) (AC.seq (AC.region c12r9) AC.ret)))))
def r12 : List ARes := [ARes.cell 2 none, ARes.cell 3 none]
theorem c12_ok : Try.f12.body.bind (cCode Try.prog Try.f12.ntmps) = some c12 := by kernel_rfl
theorem r12_ok : Try.f12.results.toList.mapM (cRes Try.prog Try.f12.ntmps) = some r12 := by kernel_rfl
def c13r0 : List AOper :=
  [{ dst := some 2, g := none, op := AOp.mv (Opd.c V.nils) },
   { dst := some 3, g := none, op := AOp.mv (Opd.c (V.int IntKind.i64 0)) }]
def c13r1 : List AOper :=
  [{ dst := some 5, g := none, op := AOp.mv (Opd.t 0) },
   { dst := some 6, g := none, op := AOp.call (Opd.c (V.fn 27 [])) [Opd.t 5] },
   { dst := some 7, g := none, op := AOp.un UnOp.not (Opd.t 6) }]
def c13r2 : List AOper :=
  [{ dst := some 2, g := none, op := AOp.mv (Opd.c V.nils) },
   { dst := some 3, g := none, op := AOp.mv (Opd.c (V.int IntKind.i64 1)) }]
def c13r3 : List AOper :=
  [{ dst := some 8, g := none, op := AOp.mv (Opd.t 0) },
   { dst := some 9, g := none, op := AOp.call (Opd.c (V.fn 16 [])) [Opd.t 8] },
   { dst := some 4, g := none, op := AOp.mv (Opd.t 9) }]
def c13r4 : List AOper :=
  [{ dst := some 10, g := none, op := AOp.mv (Opd.t 4) },
   { dst := some 11, g := none, op := AOp.lenL (Opd.t 10) },
   { dst := some 12, g := none, op := AOp.bin BinOp.gtr (Opd.t 11) (Opd.c (V.int IntKind.i64 4096)) }]
def c13r5 : List AOper :=
  [{ dst := some 2, g := none, op := AOp.mv (Opd.c V.nils) },
   { dst := some 3, g := none, op := AOp.mv (Opd.c (V.int IntKind.i64 2)) }]
def c13r6 : List AOper :=
  [{ dst := some 13, g := none, op := AOp.mv (Opd.t 4) },
   { dst := some 2, g := none, op := AOp.mv (Opd.t 13) },
   { dst := some 3, g := none, op := AOp.mv (Opd.c (V.int IntKind.i64 0)) }]
def c13 : AC := (AC.seq (AC.region c13r0) (AC.seq (AC.seq (AC.region c13r1) (AC.cond (Opd.t 7) (AC.seq (AC.region c13r2) AC.ret) AC.skip)) (AC.seq (AC.region c13r3) (AC.seq (AC.seq (AC.region c13r4) (AC.cond (Opd.t 12) (AC.seq (AC.region c13r5) AC.ret) AC.skip)) (AC.seq (AC.region c13r6) AC.ret)))))
def r13 : List ARes := [ARes.tmp 2, ARes.tmp 3]
theorem c13_ok : Try.f13.body.bind (cCode Try.prog Try.f13.ntmps) = some c13 := by kernel_rfl
theorem r13_ok : Try.f13.results.toList.mapM (cRes Try.prog Try.f13.ntmps) = some r13 := by kernel_rfl
def c14r0 : List AOper :=
  [{ dst := some 2, g := none, op := AOp.mv (Opd.c V.nils) }]
def c14r1 : List AOper :=
  [{ dst := some 3, g := none, op := AOp.mv (Opd.c V.nils) }]
def c14r2 : List AOper :=
  [{ dst := some 4, g := none, op := AOp.mv (Opd.c (V.int IntKind.i64 0)) }]
def c14r3 : List AOper :=
  [{ dst := some 5, g := none, op := AOp.mv (Opd.t 4) },
   { dst := some 6, g := none, op := AOp.mv (Opd.t 0) },
   { dst := some 7, g := none, op := AOp.lenL (Opd.t 6) },
   { dst := some 8, g := none, op := AOp.bin BinOp.lss (Opd.t 5) (Opd.t 7) }]
def c14r4 : List AOper :=
  [{ dst := some 11, g := none, op := AOp.mv (Opd.t 3) },
   { dst := some 12, g := none, op := AOp.mv (Opd.t 0) },
   { dst := some 13, g := none, op := AOp.mv (Opd.t 4) },
   { dst := some 14, g := none, op := AOp.idxA (Opd.t 12) (Opd.t 13) none 4 },
   { dst := some 15, g := none, op := AOp.load (Opd.t 14) (some 4) },
   { dst := some 16, g := none, op := AOp.call (Opd.c (V.fn 28 [])) [Opd.t 11, Opd.t 15] },
   { dst := some 3, g := none, op := AOp.mv (Opd.t 16) }]
def c14r5 : List AOper :=
  [{ dst := some 9, g := none, op := AOp.mv (Opd.t 4) },
   { dst := some 10, g := none, op := AOp.bin BinOp.add (Opd.t 9) (Opd.c (V.int IntKind.i64 1)) },
   { dst := some 4, g := none, op := AOp.mv (Opd.t 10) }]
def c14l0 : AC := (AC.seq (AC.seq (AC.region c14r3) (AC.cond (Opd.t 8) AC.skip (AC.exit 0))) (AC.seq (AC.block 1 (AC.region c14r4)) (AC.region c14r5)))
def c14r6 : List AOper :=
  [{ dst := some 17, g := none, op := AOp.mv (Opd.t 3) },
   { dst := some 2, g := none, op := AOp.mv (Opd.t 17) }]
def c14 : AC := (AC.seq (AC.region c14r0) (AC.seq (AC.region c14r1) (AC.seq (AC.seq (AC.region c14r2) (AC.block 0 (AC.loop c14l0))) (AC.seq (AC.region c14r6) AC.ret))))
def r14 : List ARes := [ARes.tmp 2]
theorem c14_ok : Try.f14.body.bind (cCode Try.prog Try.f14.ntmps) = some c14 := by kernel_rfl
theorem r14_ok : Try.f14.results.toList.mapM (cRes Try.prog Try.f14.ntmps) = some r14 := by kernel_rfl
def c15r0 : List AOper :=
  [{ dst := some 4, g := none, op := AOp.mv (Opd.c (V.bool false)) }]
def c15r1 : List AOper :=
  [{ dst := some 6, g := none, op := AOp.mv (Opd.t 0) },
   { dst := some 7, g := none, op := AOp.lenL (Opd.t 6) },
   { dst := some 8, g := none, op := AOp.mv (Opd.t 1) },
   { dst := some 9, g := none, op := AOp.lenL (Opd.t 8) },
   { dst := some 10, g := none, op := AOp.bin BinOp.neq (Opd.t 7) (Opd.t 9) }]
def c15r2 : List AOper :=
  [{ dst := some 4, g := none, op := AOp.mv (Opd.c (V.bool false)) }]
def c15r3 : List AOper :=
  [{ dst := some 5, g := none, op := AOp.mv (Opd.c (V.int IntKind.i64 0)) }]
def c15r4 : List AOper :=
  [{ dst := some 11, g := none, op := AOp.mv (Opd.t 5) },
   { dst := some 12, g := none, op := AOp.mv (Opd.t 0) },
   { dst := some 13, g := none, op := AOp.lenL (Opd.t 12) },
   { dst := some 14, g := none, op := AOp.bin BinOp.lss (Opd.t 11) (Opd.t 13) }]
def c15d0 : List (AOper × List Nat) :=
  [({ dst := some 17, g := none, op := AOp.mv (Opd.t 0) }, []),
   ({ dst := some 18, g := none, op := AOp.mv (Opd.t 5) }, []),
   ({ dst := some 19, g := none, op := AOp.idxA (Opd.t 17) (Opd.t 18) none 4 }, [0, 1]),
   ({ dst := some 20, g := none, op := AOp.load (Opd.t 19) (some 4) }, [2]),
   ({ dst := some 21, g := none, op := AOp.mv (Opd.t 1) }, []),
   ({ dst := some 22, g := none, op := AOp.mv (Opd.t 5) }, []),
   ({ dst := some 23, g := none, op := AOp.idxA (Opd.t 21) (Opd.t 22) none 4 }, [4, 5]),
   ({ dst := some 24, g := none, op := AOp.load (Opd.t 23) (some 4) }, [6]),
   ({ dst := some 25, g := none, op := AOp.eqG true [2, 2, 0, 1] (Opd.t 20) (Opd.t 24) }, [3, 7])]
def c15r5 : List AOper :=
  [{ dst := some 4, g := none, op := AOp.mv (Opd.c (V.bool false)) }]
def c15r6 : List AOper :=
  [{ dst := some 15, g := none, op := AOp.mv (Opd.t 5) },
   { dst := some 16, g := none, op := AOp.bin BinOp.add (Opd.t 15) (Opd.c (V.int IntKind.i64 1)) },
   { dst := some 5, g := none, op := AOp.mv (Opd.t 16) }]
def c15l0 : AC := (AC.seq (AC.seq (AC.region c15r4) (AC.cond (Opd.t 14) AC.skip (AC.exit 0))) (AC.seq (AC.block 1 (AC.seq (AC.drawn c15d0) (AC.cond (Opd.t 25) (AC.seq (AC.region c15r5) AC.ret) AC.skip))) (AC.region c15r6)))
def c15r7 : List AOper :=
  [{ dst := some 4, g := none, op := AOp.mv (Opd.c (V.bool true)) }]
def c15 : AC := (AC.seq (AC.region c15r0) (AC.seq (AC.seq (AC.region c15r1) (AC.cond (Opd.t 10) (AC.seq (AC.region c15r2) AC.ret) AC.skip)) (AC.seq (AC.seq (AC.region c15r3) (AC.block 0 (AC.loop c15l0))) (AC.seq (AC.region c15r7) AC.ret))))
def r15 : List ARes := [ARes.tmp 4]
theorem c15_ok : Try.f15.body.bind (cCode Try.prog Try.f15.ntmps) = some c15 := by kernel_rfl
theorem r15_ok : Try.f15.results.toList.mapM (cRes Try.prog Try.f15.ntmps) = some r15 := by kernel_rfl
def c16r0 : List AOper :=
  [{ dst := some 2, g := none, op := AOp.mv (Opd.c V.nils) }]
def c16r1 : List AOper :=
  [{ dst := some 3, g := none, op := AOp.mv (Opd.c V.nils) }]
def c16r2 : List AOper :=
  [{ dst := some 4, g := none, op := AOp.mv (Opd.c (V.int IntKind.i64 0)) }]
def c16r3 : List AOper :=
  [{ dst := some 6, g := none, op := AOp.mv (Opd.t 4) },
   { dst := some 7, g := none, op := AOp.mv (Opd.t 0) },
   { dst := some 8, g := none, op := AOp.lenL (Opd.t 7) },
   { dst := some 9, g := none, op := AOp.bin BinOp.lss (Opd.t 6) (Opd.t 8) }]
def c16r4 : List AOper :=
  [{ dst := some 5, g := none, op := AOp.mv (Opd.c (V.int IntKind.i64 0)) }]
def c16r5 : List AOper :=
  [{ dst := some 12, g := none, op := AOp.mv (Opd.t 5) },
   { dst := some 13, g := none, op := AOp.mv (Opd.t 0) },
   { dst := some 14, g := none, op := AOp.mv (Opd.t 4) },
   { dst := some 15, g := none, op := AOp.idxA (Opd.t 13) (Opd.t 14) none 1 },
   { dst := some 16, g := none, op := AOp.load (Opd.t 15) none },
   { dst := some 17, g := none, op := AOp.lenL (Opd.t 16) },
   { dst := some 18, g := none, op := AOp.bin BinOp.lss (Opd.t 12) (Opd.t 17) }]
def c16r6 : List AOper :=
  [{ dst := some 21, g := none, op := AOp.mv (Opd.t 3) },
   { dst := some 22, g := none, op := AOp.mv (Opd.t 0) },
   { dst := some 23, g := none, op := AOp.mv (Opd.t 4) },
   { dst := some 24, g := none, op := AOp.idxA (Opd.t 22) (Opd.t 23) none 1 },
   { dst := some 25, g := none, op := AOp.load (Opd.t 24) none },
   { dst := some 26, g := none, op := AOp.mv (Opd.t 5) },
   { dst := some 27, g := none, op := AOp.idxA (Opd.t 25) (Opd.t 26) none 4 },
   { dst := some 28, g := none, op := AOp.load (Opd.t 27) (some 4) },
   { dst := some 29, g := none, op := AOp.call (Opd.c (V.fn 29 [])) [Opd.t 21, Opd.t 28] },
   { dst := some 30, g := none, op := AOp.un UnOp.not (Opd.t 29) }]
def c16r7 : List AOper :=
  [{ dst := some 31, g := none, op := AOp.mv (Opd.t 3) },
   { dst := some 32, g := none, op := AOp.mv (Opd.t 0) },
   { dst := some 33, g := none, op := AOp.mv (Opd.t 4) },
   { dst := some 34, g := none, op := AOp.idxA (Opd.t 32) (Opd.t 33) none 1 },
   { dst := some 35, g := none, op := AOp.load (Opd.t 34) none },
   { dst := some 36, g := none, op := AOp.mv (Opd.t 5) },
   { dst := some 37, g := none, op := AOp.idxA (Opd.t 35) (Opd.t 36) none 4 },
   { dst := some 38, g := none, op := AOp.load (Opd.t 37) (some 4) },
   { dst := some 39, g := none, op := AOp.call (Opd.c (V.fn 28 [])) [Opd.t 31, Opd.t 38] },
   { dst := some 3, g := none, op := AOp.mv (Opd.t 39) }]
def c16r8 : List AOper :=
  [{ dst := some 19, g := none, op := AOp.mv (Opd.t 5) },
   { dst := some 20, g := none, op := AOp.bin BinOp.add (Opd.t 19) (Opd.c (V.int IntKind.i64 1)) },
   { dst := some 5, g := none, op := AOp.mv (Opd.t 20) }]
def c16l1 : AC := (AC.seq (AC.seq (AC.region c16r5) (AC.cond (Opd.t 18) AC.skip (AC.exit 2))) (AC.seq (AC.block 3 (AC.seq (AC.region c16r6) (AC.cond (Opd.t 30) (AC.region c16r7) AC.skip))) (AC.region c16r8)))
def c16r9 : List AOper :=
  [{ dst := some 10, g := none, op := AOp.mv (Opd.t 4) },
   { dst := some 11, g := none, op := AOp.bin BinOp.add (Opd.t 10) (Opd.c (V.int IntKind.i64 1)) },
   { dst := some 4, g := none, op := AOp.mv (Opd.t 11) }]
def c16l0 : AC := (AC.seq (AC.seq (AC.region c16r3) (AC.cond (Opd.t 9) AC.skip (AC.exit 0))) (AC.seq (AC.block 1 (AC.seq (AC.region c16r4) (AC.block 2 (AC.loop c16l1)))) (AC.region c16r9)))
def c16r10 : List AOper :=
  [{ dst := some 40, g := none, op := AOp.mv (Opd.t 3) },
   { dst := some 2, g := none, op := AOp.mv (Opd.t 40) }]
def c16 : AC := (AC.seq (AC.region c16r0) (AC.seq (AC.region c16r1) (AC.seq (AC.seq (AC.region c16r2) (AC.block 0 (AC.loop c16l0))) (AC.seq (AC.region c16r10) AC.ret))))
def r16 : List ARes := [ARes.tmp 2]
theorem c16_ok : Try.f16.body.bind (cCode Try.prog Try.f16.ntmps) = some c16 := by kernel_rfl
theorem r16_ok : Try.f16.results.toList.mapM (cRes Try.prog Try.f16.ntmps) = some r16 := by kernel_rfl
def c17r0 : List AOper :=
  [{ dst := some 1, g := none, op := AOp.box (Opd.t 0) },
   { dst := some 2, g := none, op := AOp.mv (Opd.c V.nilf) }]
def c17r1 : List AOper :=
  [{ dst := some 3, g := none, op := AOp.mkf 30 [Opd.t 1] },
   { dst := some 2, g := none, op := AOp.mv (Opd.t 3) }]
def c17 : AC := (AC.seq (AC.region c17r0) (AC.seq (AC.region c17r1) AC.ret))
def r17 : List ARes := [ARes.tmp 2]
theorem c17_ok : Try.f17.body.bind (cCode Try.prog Try.f17.ntmps) = some c17 := by kernel_rfl
theorem r17_ok : Try.f17.results.toList.mapM (cRes Try.prog Try.f17.ntmps) = some r17 := by kernel_rfl
def c18r0 : List AOper :=
  [{ dst := some 4, g := none, op := AOp.mv (Opd.c (V.bool false)) }]
def c18r1 : List AOper :=
  [{ dst := some 6, g := none, op := AOp.mv (Opd.t 0) },
   { dst := some 7, g := none, op := AOp.lenL (Opd.t 6) },
   { dst := some 8, g := none, op := AOp.mv (Opd.t 1) },
   { dst := some 9, g := none, op := AOp.lenL (Opd.t 8) },
   { dst := some 10, g := none, op := AOp.bin BinOp.neq (Opd.t 7) (Opd.t 9) }]
def c18r2 : List AOper :=
  [{ dst := some 4, g := none, op := AOp.mv (Opd.c (V.bool false)) }]
def c18r3 : List AOper :=
  [{ dst := some 5, g := none, op := AOp.mv (Opd.c (V.int IntKind.i64 0)) }]
def c18r4 : List AOper :=
  [{ dst := some 11, g := none, op := AOp.mv (Opd.t 5) },
   { dst := some 12, g := none, op := AOp.mv (Opd.t 0) },
   { dst := some 13, g := none, op := AOp.lenL (Opd.t 12) },
   { dst := some 14, g := none, op := AOp.bin BinOp.lss (Opd.t 11) (Opd.t 13) }]
def c18d0 : List (AOper × List Nat) :=
  [({ dst := some 17, g := none, op := AOp.mv (Opd.t 0) }, []),
   ({ dst := some 18, g := none, op := AOp.mv (Opd.t 5) }, []),
   ({ dst := some 19, g := none, op := AOp.idxA (Opd.t 17) (Opd.t 18) none 2 }, [0, 1]),
   ({ dst := some 20, g := none, op := AOp.load (Opd.t 19) (some 2) }, [2]),
   ({ dst := some 21, g := none, op := AOp.mv (Opd.t 1) }, []),
   ({ dst := some 22, g := none, op := AOp.mv (Opd.t 5) }, []),
   ({ dst := some 23, g := none, op := AOp.idxA (Opd.t 21) (Opd.t 22) none 2 }, [4, 5]),
   ({ dst := some 24, g := none, op := AOp.load (Opd.t 23) (some 2) }, [6]),
   ({ dst := some 25, g := none, op := AOp.eqG true [2, 2] (Opd.t 20) (Opd.t 24) }, [3, 7])]
def c18r5 : List AOper :=
  [{ dst := some 4, g := none, op := AOp.mv (Opd.c (V.bool false)) }]
def c18r6 : List AOper :=
  [{ dst := some 15, g := none, op := AOp.mv (Opd.t 5) },
   { dst := some 16, g := none, op := AOp.bin BinOp.add (Opd.t 15) (Opd.c (V.int IntKind.i64 1)) },
   { dst := some 5, g := none, op := AOp.mv (Opd.t 16) }]
def c18l0 : AC := (AC.seq (AC.seq (AC.region c18r4) (AC.cond (Opd.t 14) AC.skip (AC.exit 0))) (AC.seq (AC.block 1 (AC.seq (AC.drawn c18d0) (AC.cond (Opd.t 25) (AC.seq (AC.region c18r5) AC.ret) AC.skip))) (AC.region c18r6)))
def c18r7 : List AOper :=
  [{ dst := some 4, g := none, op := AOp.mv (Opd.c (V.bool true)) }]
def c18 : AC := (AC.seq (AC.region c18r0) (AC.seq (AC.seq (AC.region c18r1) (AC.cond (Opd.t 10) (AC.seq (AC.region c18r2) AC.ret) AC.skip)) (AC.seq (AC.seq (AC.region c18r3) (AC.block 0 (AC.loop c18l0))) (AC.seq (AC.region c18r7) AC.ret))))
def r18 : List ARes := [ARes.tmp 4]
theorem c18_ok : Try.f18.body.bind (cCode Try.prog Try.f18.ntmps) = some c18 := by kernel_rfl
theorem r18_ok : Try.f18.results.toList.mapM (cRes Try.prog Try.f18.ntmps) = some r18 := by kernel_rfl
def c19r0 : List AOper :=
  [{ dst := some 3, g := none, op := AOp.box (Opd.t 1) },
   { dst := some 4, g := none, op := AOp.mv (Opd.c V.nils) }]
def c19r1 : List AOper :=
  [{ dst := some 5, g := none, op := AOp.alloc [V.nils] }]
def c19r2 : List AOper :=
  [{ dst := some 6, g := none, op := AOp.mv (Opd.t 0) },
   { dst := some 7, g := none, op := AOp.mkf 33 [Opd.t 3, Opd.t 5] },
   { dst := some 8, g := none, op := AOp.call (Opd.c (V.fn 32 [])) [Opd.t 6, Opd.t 7] }]
def c19r3 : List AOper :=
  [{ dst := some 9, g := none, op := AOp.load (Opd.t 5) none },
   { dst := some 4, g := none, op := AOp.mv (Opd.t 9) }]
def c19 : AC := (AC.seq (AC.region c19r0) (AC.seq (AC.region c19r1) (AC.seq (AC.region c19r2) (AC.seq (AC.region c19r3) AC.ret))))
def r19 : List ARes := [ARes.tmp 4]
theorem c19_ok : Try.f19.body.bind (cCode Try.prog Try.f19.ntmps) = some c19 := by kernel_rfl
theorem r19_ok : Try.f19.results.toList.mapM (cRes Try.prog Try.f19.ntmps) = some r19 := by kernel_rfl
def c20r0 : List AOper :=
  [{ dst := some 4, g := none, op := AOp.mv (Opd.c V.nils) }]
def c20r1 : List AOper :=
  [{ dst := some 7, g := none, op := AOp.mv (Opd.t 0) },
   { dst := some 8, g := none, op := AOp.call (Opd.c (V.fn 25 [])) [Opd.t 7] },
   { dst := some 9, g := none, op := AOp.bin BinOp.neq (Opd.t 8) (Opd.c (V.int IntKind.i64 0)) }]
def c20r2 : List AOper :=
  [{ dst := some 4, g := none, op := AOp.mv (Opd.c V.nils) }]
def c20r3 : List AOper :=
  [{ dst := some 5, g := none, op := AOp.mv (Opd.c V.nils) }]
def c20r4 : List AOper :=
  [{ dst := some 6, g := none, op := AOp.mv (Opd.c (V.int IntKind.i64 0)) }]
def c20r5 : List AOper :=
  [{ dst := some 10, g := none, op := AOp.mv (Opd.t 6) },
   { dst := some 11, g := none, op := AOp.mv (Opd.t 0) },
   { dst := some 12, g := none, op := AOp.lenL (Opd.t 11) },
   { dst := some 13, g := none, op := AOp.bin BinOp.lss (Opd.t 10) (Opd.t 12) }]
def c20r6 : List AOper :=
  [{ dst := some 16, g := none, op := AOp.mv (Opd.t 0) },
   { dst := some 17, g := none, op := AOp.mv (Opd.t 0) },
   { dst := some 18, g := none, op := AOp.mv (Opd.t 6) },
   { dst := some 19, g := none, op := AOp.idxA (Opd.t 17) (Opd.t 18) none 4 },
   { dst := some 20, g := none, op := AOp.fldA (Opd.t 19) 0 },
   { dst := some 21, g := none, op := AOp.load (Opd.t 20) none },
   { dst := some 22, g := none, op := AOp.mv (Opd.t 1) },
   { dst := some 23, g := none, op := AOp.call (Opd.c (V.fn 35 [])) [Opd.t 16, Opd.t 21, Opd.t 22] },
   { dst := some 24, g := none, op := AOp.mv (Opd.t 6) },
   { dst := some 25, g := none, op := AOp.bin BinOp.eql (Opd.t 23) (Opd.t 24) },
   { dst := some 26, g := none, op := AOp.mv (Opd.t 25) },
   { dst := some 27, g := some (26, true), op := AOp.mv (Opd.t 0) },
   { dst := some 28, g := some (26, true), op := AOp.mv (Opd.t 6) },
   { dst := some 29, g := some (26, true), op := AOp.idxA (Opd.t 27) (Opd.t 28) none 4 },
   { dst := some 30, g := some (26, true), op := AOp.fldA (Opd.t 29) 2 },
   { dst := some 31, g := some (26, true), op := AOp.load (Opd.t 30) none },
   { dst := some 32, g := some (26, true), op := AOp.un UnOp.not (Opd.t 31) },
   { dst := some 33, g := none, op := AOp.pick (Opd.t 26) (Opd.t 32) (Opd.c (V.bool false)) }]
def c20d0 : List (AOper × List Nat) :=
  [({ dst := some 34, g := none, op := AOp.mv (Opd.t 5) }, []),
   ({ dst := some 35, g := none, op := AOp.mv (Opd.t 0) }, []),
   ({ dst := some 36, g := none, op := AOp.mv (Opd.t 6) }, []),
   ({ dst := some 37, g := none, op := AOp.idxA (Opd.t 35) (Opd.t 36) none 4 }, [1, 2]),
   ({ dst := some 38, g := none, op := AOp.fldA (Opd.t 37) 0 }, [3]),
   ({ dst := some 39, g := none, op := AOp.load (Opd.t 38) none }, [4]),
   ({ dst := some 40, g := none, op := AOp.mv (Opd.t 0) }, []),
   ({ dst := some 41, g := none, op := AOp.mv (Opd.t 6) }, []),
   ({ dst := some 42, g := none, op := AOp.idxA (Opd.t 40) (Opd.t 41) none 4 }, [6, 7]),
   ({ dst := some 43, g := none, op := AOp.fldA (Opd.t 42) 1 }, [8]),
   ({ dst := some 44, g := none, op := AOp.load (Opd.t 43) none }, [9]),
   ({ dst := some 45, g := none, op := AOp.build [V.str [], V.str []] [(0, 1, Opd.t 39), (1, 1, Opd.t 44)] }, [5, 10]),
   ({ dst := some 46, g := none, op := AOp.bslice 1 2 [V.str [], V.str []] [(0, Opd.t 45)] }, [11]),
   ({ dst := some 47, g := none, op := AOp.append (Opd.t 34) (Opd.t 46) 2 32 false }, [0, 12]),
   ({ dst := some 5, g := none, op := AOp.mv (Opd.t 47) }, [13, 13, 0, 1, 2, 3, 4, 5, 6, 7, 8, 9, 10, 11, 12, 13])]
def c20r7 : List AOper :=
  [{ dst := some 14, g := none, op := AOp.mv (Opd.t 6) },
   { dst := some 15, g := none, op := AOp.bin BinOp.add (Opd.t 14) (Opd.c (V.int IntKind.i64 1)) },
   { dst := some 6, g := none, op := AOp.mv (Opd.t 15) }]
def c20l0 : AC := (AC.seq (AC.seq (AC.region c20r5) (AC.cond (Opd.t 13) AC.skip (AC.exit 0))) (AC.seq (AC.block 1 (AC.seq (AC.region c20r6) (AC.cond (Opd.t 33) (AC.drawn c20d0) AC.skip))) (AC.region c20r7)))
def c20r8 : List AOper :=
  [{ dst := some 48, g := none, op := AOp.mv (Opd.t 5) },
   { dst := some 4, g := none, op := AOp.mv (Opd.t 48) }]
def c20 : AC := (AC.seq (AC.region c20r0) (AC.seq (AC.seq (AC.region c20r1) (AC.cond (Opd.t 9) (AC.seq (AC.region c20r2) AC.ret) AC.skip)) (AC.seq (AC.region c20r3) (AC.seq (AC.seq (AC.region c20r4) (AC.block 0 (AC.loop c20l0))) (AC.seq (AC.region c20r8) AC.ret)))))
def r20 : List ARes := [ARes.tmp 4]
theorem c20_ok : Try.f20.body.bind (cCode Try.prog Try.f20.ntmps) = some c20 := by kernel_rfl
theorem r20_ok : Try.f20.results.toList.mapM (cRes Try.prog Try.f20.ntmps) = some r20 := by kernel_rfl
def c21r0 : List AOper :=
  [{ dst := some 3, g := none, op := AOp.box (Opd.t 1) },
   { dst := some 4, g := none, op := AOp.mv (Opd.c V.nils) }]
def c21r1 : List AOper :=
  [{ dst := some 5, g := none, op := AOp.alloc [V.nils] }]
def c21r2 : List AOper :=
  [{ dst := some 6, g := none, op := AOp.mv (Opd.t 0) },
   { dst := some 7, g := none, op := AOp.mkf 36 [Opd.t 3, Opd.t 5] },
   { dst := some 8, g := none, op := AOp.call (Opd.c (V.fn 32 [])) [Opd.t 6, Opd.t 7] }]
def c21r3 : List AOper :=
  [{ dst := some 9, g := none, op := AOp.load (Opd.t 5) none },
   { dst := some 4, g := none, op := AOp.mv (Opd.t 9) }]
def c21 : AC := (AC.seq (AC.region c21r0) (AC.seq (AC.region c21r1) (AC.seq (AC.region c21r2) (AC.seq (AC.region c21r3) AC.ret))))
def r21 : List ARes := [ARes.tmp 4]
theorem c21_ok : Try.f21.body.bind (cCode Try.prog Try.f21.ntmps) = some c21 := by kernel_rfl
theorem r21_ok : Try.f21.results.toList.mapM (cRes Try.prog Try.f21.ntmps) = some r21 := by kernel_rfl
def c22r0 : List AOper :=
  [{ dst := some 4, g := none, op := AOp.mv (Opd.c V.nils) }]
def c22r1 : List AOper :=
  [{ dst := some 7, g := none, op := AOp.mv (Opd.t 0) },
   { dst := some 8, g := none, op := AOp.call (Opd.c (V.fn 25 [])) [Opd.t 7] },
   { dst := some 9, g := none, op := AOp.bin BinOp.neq (Opd.t 8) (Opd.c (V.int IntKind.i64 0)) }]
def c22r2 : List AOper :=
  [{ dst := some 4, g := none, op := AOp.mv (Opd.c V.nils) }]
def c22r3 : List AOper :=
  [{ dst := some 5, g := none, op := AOp.mv (Opd.c V.nils) }]
def c22r4 : List AOper :=
  [{ dst := some 6, g := none, op := AOp.mv (Opd.c (V.int IntKind.i64 0)) }]
def c22r5 : List AOper :=
  [{ dst := some 10, g := none, op := AOp.mv (Opd.t 6) },
   { dst := some 11, g := none, op := AOp.mv (Opd.t 0) },
   { dst := some 12, g := none, op := AOp.lenL (Opd.t 11) },
   { dst := some 13, g := none, op := AOp.bin BinOp.lss (Opd.t 10) (Opd.t 12) }]
def c22d0 : List (AOper × List Nat) :=
  [({ dst := some 16, g := none, op := AOp.mv (Opd.t 6) }, []),
   ({ dst := some 17, g := none, op := AOp.bin BinOp.eql (Opd.t 16) (Opd.c (V.int IntKind.i64 0)) }, [0]),
   ({ dst := some 18, g := none, op := AOp.mv (Opd.t 17) }, [1]),
   ({ dst := some 19, g := some (18, false), op := AOp.mv (Opd.t 0) }, [2]),
   ({ dst := some 20, g := some (18, false), op := AOp.mv (Opd.t 6) }, [2]),
   ({ dst := some 21, g := some (18, false), op := AOp.bin BinOp.sub (Opd.t 20) (Opd.c (V.int IntKind.i64 1)) }, [4, 2]),
   ({ dst := some 22, g := some (18, false), op := AOp.idxA (Opd.t 19) (Opd.t 21) none 4 }, [3, 5, 2]),
   ({ dst := some 23, g := some (18, false), op := AOp.fldA (Opd.t 22) 0 }, [6, 2]),
   ({ dst := some 24, g := some (18, false), op := AOp.load (Opd.t 23) none }, [7, 2]),
   ({ dst := some 25, g := some (18, false), op := AOp.mv (Opd.t 0) }, [2]),
   ({ dst := some 26, g := some (18, false), op := AOp.mv (Opd.t 6) }, [2]),
   ({ dst := some 27, g := some (18, false), op := AOp.idxA (Opd.t 25) (Opd.t 26) none 4 }, [9, 10, 2]),
   ({ dst := some 28, g := some (18, false), op := AOp.fldA (Opd.t 27) 0 }, [11, 2]),
   ({ dst := some 29, g := some (18, false), op := AOp.load (Opd.t 28) none }, [12, 2]),
   ({ dst := some 30, g := some (18, false), op := AOp.bin BinOp.neq (Opd.t 24) (Opd.t 29) }, [8, 13, 2]),
   ({ dst := some 31, g := none, op := AOp.pick (Opd.t 18) (Opd.c (V.bool true)) (Opd.t 30) }, [2, 14]),
   ({ dst := some 32, g := none, op := AOp.mv (Opd.t 31) }, [15, 2]),
   ({ dst := some 33, g := some (32, true), op := AOp.mv (Opd.t 0) }, [16]),
   ({ dst := some 34, g := some (32, true), op := AOp.mv (Opd.t 6) }, [16]),
   ({ dst := some 35, g := some (32, true), op := AOp.idxA (Opd.t 33) (Opd.t 34) none 4 }, [17, 18, 16]),
   ({ dst := some 36, g := some (32, true), op := AOp.fldA (Opd.t 35) 3 }, [19, 16]),
   ({ dst := some 37, g := some (32, true), op := AOp.load (Opd.t 36) none }, [20, 16]),
   ({ dst := some 38, g := some (32, true), op := AOp.mv (Opd.t 1) }, [16]),
   ({ dst := some 39, g := some (32, true), op := AOp.bin BinOp.gtr (Opd.t 37) (Opd.t 38) }, [21, 22, 16]),
   ({ dst := some 40, g := none, op := AOp.pick (Opd.t 32) (Opd.t 39) (Opd.c (V.bool false)) }, [16, 23])]
def c22r6 : List AOper :=
  [{ dst := some 41, g := none, op := AOp.mv (Opd.t 5) },
   { dst := some 42, g := none, op := AOp.mv (Opd.t 0) },
   { dst := some 43, g := none, op := AOp.mv (Opd.t 6) },
   { dst := some 44, g := none, op := AOp.idxA (Opd.t 42) (Opd.t 43) none 4 },
   { dst := some 45, g := none, op := AOp.load (Opd.t 44) (some 4) },
   { dst := some 46, g := none, op := AOp.bslice 1 4 [V.str [], V.str [], V.bool false, V.int IntKind.i64 0] [(0, Opd.t 45)] },
   { dst := some 47, g := none, op := AOp.append (Opd.t 41) (Opd.t 46) 4 48 false },
   { dst := some 5, g := none, op := AOp.mv (Opd.t 47) }]
def c22r7 : List AOper :=
  [{ dst := some 14, g := none, op := AOp.mv (Opd.t 6) },
   { dst := some 15, g := none, op := AOp.bin BinOp.add (Opd.t 14) (Opd.c (V.int IntKind.i64 1)) },
   { dst := some 6, g := none, op := AOp.mv (Opd.t 15) }]
def c22l0 : AC := (AC.seq (AC.seq (AC.region c22r5) (AC.cond (Opd.t 13) AC.skip (AC.exit 0))) (AC.seq (AC.block 1 (AC.seq (AC.drawn c22d0) (AC.cond (Opd.t 40) (AC.region c22r6) AC.skip))) (AC.region c22r7)))
def c22r8 : List AOper :=
  [{ dst := some 48, g := none, op := AOp.mv (Opd.t 5) },
   { dst := some 4, g := none, op := AOp.mv (Opd.t 48) }]
def c22 : AC := (AC.seq (AC.region c22r0) (AC.seq (AC.seq (AC.region c22r1) (AC.cond (Opd.t 9) (AC.seq (AC.region c22r2) AC.ret) AC.skip)) (AC.seq (AC.region c22r3) (AC.seq (AC.seq (AC.region c22r4) (AC.block 0 (AC.loop c22l0))) (AC.seq (AC.region c22r8) AC.ret)))))
def r22 : List ARes := [ARes.tmp 4]
theorem c22_ok : Try.f22.body.bind (cCode Try.prog Try.f22.ntmps) = some c22 := by kernel_rfl
theorem r22_ok : Try.f22.results.toList.mapM (cRes Try.prog Try.f22.ntmps) = some r22 := by kernel_rfl
def c23r0 : List AOper :=
  [{ dst := some 4, g := none, op := AOp.box (Opd.t 1) },
   { dst := some 5, g := none, op := AOp.box (Opd.t 2) },
   { dst := some 6, g := none, op := AOp.mv (Opd.c V.nils) }]
def c23r1 : List AOper :=
  [{ dst := some 7, g := none, op := AOp.alloc [V.nils] }]
def c23r2 : List AOper :=
  [{ dst := some 8, g := none, op := AOp.mv (Opd.t 0) },
   { dst := some 9, g := none, op := AOp.mkf 37 [Opd.t 4, Opd.t 5, Opd.t 7] },
   { dst := some 10, g := none, op := AOp.call (Opd.c (V.fn 32 [])) [Opd.t 8, Opd.t 9] }]
def c23r3 : List AOper :=
  [{ dst := some 11, g := none, op := AOp.load (Opd.t 7) none },
   { dst := some 6, g := none, op := AOp.mv (Opd.t 11) }]
def c23 : AC := (AC.seq (AC.region c23r0) (AC.seq (AC.region c23r1) (AC.seq (AC.region c23r2) (AC.seq (AC.region c23r3) AC.ret))))
def r23 : List ARes := [ARes.tmp 6]
theorem c23_ok : Try.f23.body.bind (cCode Try.prog Try.f23.ntmps) = some c23 := by kernel_rfl
theorem r23_ok : Try.f23.results.toList.mapM (cRes Try.prog Try.f23.ntmps) = some r23 := by kernel_rfl
def c24r0 : List AOper :=
  [{ dst := some 6, g := none, op := AOp.mv (Opd.c V.nils) }]
def c24r1 : List AOper :=
  [{ dst := some 15, g := none, op := AOp.mv (Opd.t 0) },
   { dst := some 16, g := none, op := AOp.call (Opd.c (V.fn 25 [])) [Opd.t 15] },
   { dst := some 17, g := none, op := AOp.bin BinOp.neq (Opd.t 16) (Opd.c (V.int IntKind.i64 0)) }]
def c24r2 : List AOper :=
  [{ dst := some 6, g := none, op := AOp.mv (Opd.c V.nils) }]
def c24r3 : List AOper :=
  [{ dst := some 7, g := none, op := AOp.mv (Opd.c V.nils) }]
def c24r4 : List AOper :=
  [{ dst := some 8, g := none, op := AOp.mv (Opd.c (V.int IntKind.i64 0)) }]
def c24r5 : List AOper :=
  [{ dst := some 18, g := none, op := AOp.mv (Opd.t 8) },
   { dst := some 19, g := none, op := AOp.mv (Opd.t 0) },
   { dst := some 20, g := none, op := AOp.lenL (Opd.t 19) },
   { dst := some 21, g := none, op := AOp.bin BinOp.lss (Opd.t 18) (Opd.t 20) }]
def c24d0 : List (AOper × List Nat) :=
  [({ dst := some 24, g := none, op := AOp.mv (Opd.t 8) }, []),
   ({ dst := some 25, g := none, op := AOp.bin BinOp.eql (Opd.t 24) (Opd.c (V.int IntKind.i64 0)) }, [0]),
   ({ dst := some 26, g := none, op := AOp.mv (Opd.t 25) }, [1]),
   ({ dst := some 27, g := some (26, false), op := AOp.mv (Opd.t 0) }, [2]),
   ({ dst := some 28, g := some (26, false), op := AOp.mv (Opd.t 8) }, [2]),
   ({ dst := some 29, g := some (26, false), op := AOp.bin BinOp.sub (Opd.t 28) (Opd.c (V.int IntKind.i64 1)) }, [4, 2]),
   ({ dst := some 30, g := some (26, false), op := AOp.idxA (Opd.t 27) (Opd.t 29) none 4 }, [3, 5, 2]),
   ({ dst := some 31, g := some (26, false), op := AOp.fldA (Opd.t 30) 0 }, [6, 2]),
   ({ dst := some 32, g := some (26, false), op := AOp.load (Opd.t 31) none }, [7, 2]),
   ({ dst := some 33, g := some (26, false), op := AOp.mv (Opd.t 0) }, [2]),
   ({ dst := some 34, g := some (26, false), op := AOp.mv (Opd.t 8) }, [2]),
   ({ dst := some 35, g := some (26, false), op := AOp.idxA (Opd.t 33) (Opd.t 34) none 4 }, [9, 10, 2]),
   ({ dst := some 36, g := some (26, false), op := AOp.fldA (Opd.t 35) 0 }, [11, 2]),
   ({ dst := some 37, g := some (26, false), op := AOp.load (Opd.t 36) none }, [12, 2]),
   ({ dst := some 38, g := some (26, false), op := AOp.bin BinOp.neq (Opd.t 32) (Opd.t 37) }, [8, 13, 2]),
   ({ dst := some 39, g := none, op := AOp.pick (Opd.t 26) (Opd.c (V.bool true)) (Opd.t 38) }, [2, 14]),
   ({ dst := some 9, g := none, op := AOp.mv (Opd.t 39) }, [15, 2, 0, 1, 2, 3, 4, 5, 6, 7, 8, 9, 10, 11, 12, 13, 14, 15])]
def c24r6 : List AOper :=
  [{ dst := some 10, g := none, op := AOp.mv (Opd.c (V.int IntKind.i64 0)) }]
def c24r7 : List AOper :=
  [{ dst := some 40, g := none, op := AOp.mv (Opd.t 10) },
   { dst := some 41, g := none, op := AOp.mv (Opd.t 1) },
   { dst := some 42, g := none, op := AOp.lenL (Opd.t 41) },
   { dst := some 43, g := none, op := AOp.bin BinOp.lss (Opd.t 40) (Opd.t 42) }]
def c24d1 : List (AOper × List Nat) :=
  [({ dst := some 46, g := none, op := AOp.mv (Opd.t 9) }, []),
   ({ dst := some 47, g := none, op := AOp.mv (Opd.t 46) }, [0]),
   ({ dst := some 48, g := some (47, false), op := AOp.mv (Opd.t 0) }, [1]),
   ({ dst := some 49, g := some (47, false), op := AOp.mv (Opd.t 0) }, [1]),
   ({ dst := some 50, g := some (47, false), op := AOp.mv (Opd.t 8) }, [1]),
   ({ dst := some 51, g := some (47, false), op := AOp.idxA (Opd.t 49) (Opd.t 50) none 4 }, [3, 4, 1]),
   ({ dst := some 52, g := some (47, false), op := AOp.fldA (Opd.t 51) 0 }, [5, 1]),
   ({ dst := some 53, g := some (47, false), op := AOp.load (Opd.t 52) none }, [6, 1]),
   ({ dst := some 54, g := some (47, false), op := AOp.mv (Opd.t 1) }, [1]),
   ({ dst := some 55, g := some (47, false), op := AOp.mv (Opd.t 10) }, [1]),
   ({ dst := some 56, g := some (47, false), op := AOp.idxA (Opd.t 54) (Opd.t 55) none 1 }, [8, 9, 1]),
   ({ dst := some 57, g := some (47, false), op := AOp.load (Opd.t 56) none }, [10, 1]),
   ({ dst := some 58, g := some (47, false), op := AOp.call (Opd.c (V.fn 35 [])) [Opd.t 48, Opd.t 53, Opd.t 57] }, [2, 7, 11, 1, 1]),
   ({ dst := some 59, g := some (47, false), op := AOp.mv (Opd.t 8) }, [1]),
   ({ dst := some 60, g := some (47, false), op := AOp.bin BinOp.eql (Opd.t 58) (Opd.t 59) }, [12, 13, 1]),
   ({ dst := some 61, g := none, op := AOp.pick (Opd.t 47) (Opd.c (V.bool true)) (Opd.t 60) }, [1, 14]),
   ({ dst := some 9, g := none, op := AOp.mv (Opd.t 61) }, [15, 12, 0, 1, 2, 3, 4, 5, 6, 7, 8, 9, 10, 11, 12, 13, 14, 15])]
def c24r8 : List AOper :=
  [{ dst := some 44, g := none, op := AOp.mv (Opd.t 10) },
   { dst := some 45, g := none, op := AOp.bin BinOp.add (Opd.t 44) (Opd.c (V.int IntKind.i64 1)) },
   { dst := some 10, g := none, op := AOp.mv (Opd.t 45) }]
def c24l1 : AC := (AC.seq (AC.seq (AC.region c24r7) (AC.cond (Opd.t 43) AC.skip (AC.exit 2))) (AC.seq (AC.block 3 (AC.drawn c24d1)) (AC.region c24r8)))
def c24r9 : List AOper :=
  [{ dst := some 62, g := none, op := AOp.mv (Opd.t 9) }]
def c24r10 : List AOper :=
  [{ dst := some 63, g := none, op := AOp.mv (Opd.t 7) },
   { dst := some 64, g := none, op := AOp.mv (Opd.t 0) },
   { dst := some 65, g := none, op := AOp.mv (Opd.t 8) },
   { dst := some 66, g := none, op := AOp.idxA (Opd.t 64) (Opd.t 65) none 4 },
   { dst := some 67, g := none, op := AOp.load (Opd.t 66) (some 4) },
   { dst := some 68, g := none, op := AOp.bslice 1 4 [V.str [], V.str [], V.bool false, V.int IntKind.i64 0] [(0, Opd.t 67)] },
   { dst := some 69, g := none, op := AOp.append (Opd.t 63) (Opd.t 68) 4 48 false },
   { dst := some 7, g := none, op := AOp.mv (Opd.t 69) }]
def c24r11 : List AOper :=
  [{ dst := some 22, g := none, op := AOp.mv (Opd.t 8) },
   { dst := some 23, g := none, op := AOp.bin BinOp.add (Opd.t 22) (Opd.c (V.int IntKind.i64 1)) },
   { dst := some 8, g := none, op := AOp.mv (Opd.t 23) }]
def c24l0 : AC := (AC.seq (AC.seq (AC.region c24r5) (AC.cond (Opd.t 21) AC.skip (AC.exit 0))) (AC.seq (AC.block 1 (AC.seq (AC.drawn c24d0) (AC.seq (AC.seq (AC.region c24r6) (AC.block 2 (AC.loop c24l1))) (AC.seq (AC.region c24r9) (AC.cond (Opd.t 62) (AC.region c24r10) AC.skip))))) (AC.region c24r11)))
def c24r12 : List AOper :=
  [{ dst := some 11, g := none, op := AOp.mv (Opd.c V.nils) }]
def c24r13 : List AOper :=
  [{ dst := some 12, g := none, op := AOp.mv (Opd.c (V.int IntKind.i64 0)) }]
def c24r14 : List AOper :=
  [{ dst := some 70, g := none, op := AOp.mv (Opd.t 12) },
   { dst := some 71, g := none, op := AOp.mv (Opd.t 7) },
   { dst := some 72, g := none, op := AOp.lenL (Opd.t 71) },
   { dst := some 73, g := none, op := AOp.bin BinOp.lss (Opd.t 70) (Opd.t 72) }]
def c24d2 : List (AOper × List Nat) :=
  [({ dst := some 76, g := none, op := AOp.mv (Opd.t 2) }, []),
   ({ dst := some 77, g := none, op := AOp.mv (Opd.t 76) }, [0]),
   ({ dst := some 78, g := some (77, true), op := AOp.mv (Opd.t 7) }, [1]),
   ({ dst := some 79, g := some (77, true), op := AOp.mv (Opd.t 12) }, [1]),
   ({ dst := some 80, g := some (77, true), op := AOp.idxA (Opd.t 78) (Opd.t 79) none 4 }, [2, 3, 1]),
   ({ dst := some 81, g := some (77, true), op := AOp.fldA (Opd.t 80) 2 }, [4, 1]),
   ({ dst := some 82, g := some (77, true), op := AOp.load (Opd.t 81) none }, [5, 1]),
   ({ dst := some 83, g := none, op := AOp.pick (Opd.t 77) (Opd.t 82) (Opd.c (V.bool false)) }, [1, 6]),
   ({ dst := some 84, g := none, op := AOp.mv (Opd.t 83) }, [7, 1]),
   ({ dst := some 85, g := some (84, true), op := AOp.mv (Opd.t 12) }, [8]),
   ({ dst := some 86, g := some (84, true), op := AOp.bin BinOp.add (Opd.t 85) (Opd.c (V.int IntKind.i64 1)) }, [9, 8]),
   ({ dst := some 87, g := some (84, true), op := AOp.mv (Opd.t 7) }, [8]),
   ({ dst := some 88, g := some (84, true), op := AOp.lenL (Opd.t 87) }, [11, 8]),
   ({ dst := some 89, g := some (84, true), op := AOp.bin BinOp.eql (Opd.t 86) (Opd.t 88) }, [10, 12, 8]),
   ({ dst := some 90, g := some (84, true), op := AOp.mv (Opd.t 89) }, [13, 8, 8]),
   ({ dst := some 91, g := some (90, false), op := AOp.mv (Opd.t 7) }, [14]),
   ({ dst := some 92, g := some (90, false), op := AOp.mv (Opd.t 12) }, [14]),
   ({ dst := some 93, g := some (90, false), op := AOp.bin BinOp.add (Opd.t 92) (Opd.c (V.int IntKind.i64 1)) }, [16, 14]),
   ({ dst := some 94, g := some (90, false), op := AOp.idxA (Opd.t 91) (Opd.t 93) none 4 }, [15, 17, 14]),
   ({ dst := some 95, g := some (90, false), op := AOp.fldA (Opd.t 94) 0 }, [18, 14]),
   ({ dst := some 96, g := some (90, false), op := AOp.load (Opd.t 95) none }, [19, 14]),
   ({ dst := some 97, g := some (90, false), op := AOp.mv (Opd.t 7) }, [14]),
   ({ dst := some 98, g := some (90, false), op := AOp.mv (Opd.t 12) }, [14]),
   ({ dst := some 99, g := some (90, false), op := AOp.idxA (Opd.t 97) (Opd.t 98) none 4 }, [21, 22, 14]),
   ({ dst := some 100, g := some (90, false), op := AOp.fldA (Opd.t 99) 0 }, [23, 14]),
   ({ dst := some 101, g := some (90, false), op := AOp.load (Opd.t 100) none }, [24, 14]),
   ({ dst := some 102, g := some (90, false), op := AOp.bin BinOp.neq (Opd.t 96) (Opd.t 101) }, [20, 25, 14]),
   ({ dst := some 103, g := some (84, true), op := AOp.pick (Opd.t 90) (Opd.c (V.bool true)) (Opd.t 102) }, [14, 26, 8]),
   ({ dst := some 104, g := none, op := AOp.pick (Opd.t 84) (Opd.t 103) (Opd.c (V.bool false)) }, [8, 27]),
   ({ dst := some 13, g := none, op := AOp.mv (Opd.t 104) }, [28, 14, 0, 1, 2, 3, 4, 5, 6, 7, 8, 9, 10, 11, 12, 13, 14, 15, 16, 17, 18, 19, 20, 21, 22, 23, 24, 25, 26, 27, 28])]
def c24r15 : List AOper :=
  [{ dst := some 14, g := none, op := AOp.mv (Opd.c (V.int IntKind.i64 0)) }]
def c24r16 : List AOper :=
  [{ dst := some 105, g := none, op := AOp.mv (Opd.t 14) },
   { dst := some 106, g := none, op := AOp.mv (Opd.t 1) },
   { dst := some 107, g := none, op := AOp.lenL (Opd.t 106) },
   { dst := some 108, g := none, op := AOp.bin BinOp.lss (Opd.t 105) (Opd.t 107) }]
def c24d3 : List (AOper × List Nat) :=
  [({ dst := some 111, g := none, op := AOp.mv (Opd.t 13) }, []),
   ({ dst := some 112, g := none, op := AOp.mv (Opd.t 111) }, [0]),
   ({ dst := some 113, g := some (112, true), op := AOp.mv (Opd.t 7) }, [1]),
   ({ dst := some 114, g := some (112, true), op := AOp.mv (Opd.t 12) }, [1]),
   ({ dst := some 115, g := some (112, true), op := AOp.idxA (Opd.t 113) (Opd.t 114) none 4 }, [2, 3, 1]),
   ({ dst := some 116, g := some (112, true), op := AOp.fldA (Opd.t 115) 3 }, [4, 1]),
   ({ dst := some 117, g := some (112, true), op := AOp.load (Opd.t 116) none }, [5, 1]),
   ({ dst := some 118, g := some (112, true), op := AOp.mv (Opd.t 1) }, [1]),
   ({ dst := some 119, g := some (112, true), op := AOp.mv (Opd.t 14) }, [1]),
   ({ dst := some 120, g := some (112, true), op := AOp.idxA (Opd.t 118) (Opd.t 119) none 1 }, [7, 8, 1]),
   ({ dst := some 121, g := some (112, true), op := AOp.load (Opd.t 120) none }, [9, 1]),
   ({ dst := some 122, g := some (112, true), op := AOp.bin BinOp.leq (Opd.t 117) (Opd.t 121) }, [6, 10, 1]),
   ({ dst := some 123, g := none, op := AOp.pick (Opd.t 112) (Opd.t 122) (Opd.c (V.bool false)) }, [1, 11]),
   ({ dst := some 13, g := none, op := AOp.mv (Opd.t 123) }, [12, 1, 0, 1, 2, 3, 4, 5, 6, 7, 8, 9, 10, 11, 12])]
def c24r17 : List AOper :=
  [{ dst := some 109, g := none, op := AOp.mv (Opd.t 14) },
   { dst := some 110, g := none, op := AOp.bin BinOp.add (Opd.t 109) (Opd.c (V.int IntKind.i64 1)) },
   { dst := some 14, g := none, op := AOp.mv (Opd.t 110) }]
def c24l3 : AC := (AC.seq (AC.seq (AC.region c24r16) (AC.cond (Opd.t 108) AC.skip (AC.exit 6))) (AC.seq (AC.block 7 (AC.drawn c24d3)) (AC.region c24r17)))
def c24r18 : List AOper :=
  [{ dst := some 124, g := none, op := AOp.mv (Opd.t 13) },
   { dst := some 125, g := none, op := AOp.un UnOp.not (Opd.t 124) }]
def c24r19 : List AOper :=
  [{ dst := some 126, g := none, op := AOp.mv (Opd.t 11) },
   { dst := some 127, g := none, op := AOp.mv (Opd.t 7) },
   { dst := some 128, g := none, op := AOp.mv (Opd.t 12) },
   { dst := some 129, g := none, op := AOp.idxA (Opd.t 127) (Opd.t 128) none 4 },
   { dst := some 130, g := none, op := AOp.load (Opd.t 129) (some 4) },
   { dst := some 131, g := none, op := AOp.bslice 1 4 [V.str [], V.str [], V.bool false, V.int IntKind.i64 0] [(0, Opd.t 130)] },
   { dst := some 132, g := none, op := AOp.append (Opd.t 126) (Opd.t 131) 4 48 false },
   { dst := some 11, g := none, op := AOp.mv (Opd.t 132) }]
def c24r20 : List AOper :=
  [{ dst := some 74, g := none, op := AOp.mv (Opd.t 12) },
   { dst := some 75, g := none, op := AOp.bin BinOp.add (Opd.t 74) (Opd.c (V.int IntKind.i64 1)) },
   { dst := some 12, g := none, op := AOp.mv (Opd.t 75) }]
def c24l2 : AC := (AC.seq (AC.seq (AC.region c24r14) (AC.cond (Opd.t 73) AC.skip (AC.exit 4))) (AC.seq (AC.block 5 (AC.seq (AC.drawn c24d2) (AC.seq (AC.seq (AC.region c24r15) (AC.block 6 (AC.loop c24l3))) (AC.seq (AC.region c24r18) (AC.cond (Opd.t 125) (AC.region c24r19) AC.skip))))) (AC.region c24r20)))
def c24r21 : List AOper :=
  [{ dst := some 133, g := none, op := AOp.mv (Opd.t 11) },
   { dst := some 6, g := none, op := AOp.mv (Opd.t 133) }]
def c24 : AC := (AC.seq (AC.region c24r0) (AC.seq (AC.seq (AC.region c24r1) (AC.cond (Opd.t 17) (AC.seq (AC.region c24r2) AC.ret) AC.skip)) (AC.seq (AC.region c24r3) (AC.seq (AC.seq (AC.region c24r4) (AC.block 0 (AC.loop c24l0))) (AC.seq (AC.region c24r12) (AC.seq (AC.seq (AC.region c24r13) (AC.block 4 (AC.loop c24l2))) (AC.seq (AC.region c24r21) AC.ret)))))))
def r24 : List ARes := [ARes.tmp 6]
theorem c24_ok : Try.f24.body.bind (cCode Try.prog Try.f24.ntmps) = some c24 := by kernel_rfl
theorem r24_ok : Try.f24.results.toList.mapM (cRes Try.prog Try.f24.ntmps) = some r24 := by kernel_rfl
def c25r0 : List AOper :=
  [{ dst := some 2, g := none, op := AOp.mv (Opd.c (V.int IntKind.i64 0)) }]
def c25r1 : List AOper :=
  [{ dst := some 4, g := none, op := AOp.mv (Opd.t 0) },
   { dst := some 5, g := none, op := AOp.lenL (Opd.t 4) },
   { dst := some 6, g := none, op := AOp.bin BinOp.gtr (Opd.t 5) (Opd.c (V.int IntKind.i64 4096)) }]
def c25r2 : List AOper :=
  [{ dst := some 2, g := none, op := AOp.mv (Opd.c (V.int IntKind.i64 1)) }]
def c25r3 : List AOper :=
  [{ dst := some 3, g := none, op := AOp.mv (Opd.c (V.int IntKind.i64 0)) }]
def c25r4 : List AOper :=
  [{ dst := some 7, g := none, op := AOp.mv (Opd.t 3) },
   { dst := some 8, g := none, op := AOp.mv (Opd.t 0) },
   { dst := some 9, g := none, op := AOp.lenL (Opd.t 8) },
   { dst := some 10, g := none, op := AOp.bin BinOp.lss (Opd.t 7) (Opd.t 9) }]
def c25d0 : List (AOper × List Nat) :=
  [({ dst := some 13, g := none, op := AOp.mv (Opd.t 0) }, []),
   ({ dst := some 14, g := none, op := AOp.mv (Opd.t 3) }, []),
   ({ dst := some 15, g := none, op := AOp.idxA (Opd.t 13) (Opd.t 14) none 4 }, [0, 1]),
   ({ dst := some 16, g := none, op := AOp.load (Opd.t 15) (some 4) }, [2]),
   ({ dst := some 17, g := none, op := AOp.call (Opd.c (V.fn 39 [])) [Opd.t 16] }, [3]),
   ({ dst := some 18, g := none, op := AOp.un UnOp.not (Opd.t 17) }, [4]),
   ({ dst := some 19, g := none, op := AOp.mv (Opd.t 18) }, [5, 4]),
   ({ dst := some 20, g := some (19, false), op := AOp.mv (Opd.t 3) }, [6]),
   ({ dst := some 21, g := some (19, false), op := AOp.bin BinOp.gtr (Opd.t 20) (Opd.c (V.int IntKind.i64 0)) }, [7, 6]),
   ({ dst := some 22, g := some (19, false), op := AOp.mv (Opd.t 21) }, [8, 6, 6]),
   ({ dst := some 23, g := some (22, true), op := AOp.mv (Opd.t 0) }, [9]),
   ({ dst := some 24, g := some (22, true), op := AOp.mv (Opd.t 3) }, [9]),
   ({ dst := some 25, g := some (22, true), op := AOp.bin BinOp.sub (Opd.t 24) (Opd.c (V.int IntKind.i64 1)) }, [11, 9]),
   ({ dst := some 26, g := some (22, true), op := AOp.idxA (Opd.t 23) (Opd.t 25) none 4 }, [10, 12, 9]),
   ({ dst := some 27, g := some (22, true), op := AOp.load (Opd.t 26) (some 4) }, [13, 9]),
   ({ dst := some 28, g := some (22, true), op := AOp.mv (Opd.t 0) }, [9]),
   ({ dst := some 29, g := some (22, true), op := AOp.mv (Opd.t 3) }, [9]),
   ({ dst := some 30, g := some (22, true), op := AOp.idxA (Opd.t 28) (Opd.t 29) none 4 }, [15, 16, 9]),
   ({ dst := some 31, g := some (22, true), op := AOp.load (Opd.t 30) (some 4) }, [17, 9]),
   ({ dst := some 32, g := some (22, true), op := AOp.call (Opd.c (V.fn 40 [])) [Opd.t 27, Opd.t 31] }, [14, 18, 9, 9]),
   ({ dst := some 33, g := some (22, true), op := AOp.un UnOp.not (Opd.t 32) }, [19, 9]),
   ({ dst := some 34, g := some (19, false), op := AOp.pick (Opd.t 22) (Opd.t 33) (Opd.c (V.bool false)) }, [9, 20, 6]),
   ({ dst := some 35, g := none, op := AOp.pick (Opd.t 19) (Opd.c (V.bool true)) (Opd.t 34) }, [6, 21])]
def c25r5 : List AOper :=
  [{ dst := some 2, g := none, op := AOp.mv (Opd.c (V.int IntKind.i64 1)) }]
def c25r6 : List AOper :=
  [{ dst := some 11, g := none, op := AOp.mv (Opd.t 3) },
   { dst := some 12, g := none, op := AOp.bin BinOp.add (Opd.t 11) (Opd.c (V.int IntKind.i64 1)) },
   { dst := some 3, g := none, op := AOp.mv (Opd.t 12) }]
def c25l0 : AC := (AC.seq (AC.seq (AC.region c25r4) (AC.cond (Opd.t 10) AC.skip (AC.exit 0))) (AC.seq (AC.block 1 (AC.seq (AC.drawn c25d0) (AC.cond (Opd.t 35) (AC.seq (AC.region c25r5) AC.ret) AC.skip))) (AC.region c25r6)))
def c25r7 : List AOper :=
  [{ dst := some 2, g := none, op := AOp.mv (Opd.c (V.int IntKind.i64 0)) }]
def c25 : AC := (AC.seq (AC.region c25r0) (AC.seq (AC.seq (AC.region c25r1) (AC.cond (Opd.t 6) (AC.seq (AC.region c25r2) AC.ret) AC.skip)) (AC.seq (AC.seq (AC.region c25r3) (AC.block 0 (AC.loop c25l0))) (AC.seq (AC.region c25r7) AC.ret))))
def r25 : List ARes := [ARes.tmp 2]
theorem c25_ok : Try.f25.body.bind (cCode Try.prog Try.f25.ntmps) = some c25 := by kernel_rfl
theorem r25_ok : Try.f25.results.toList.mapM (cRes Try.prog Try.f25.ntmps) = some r25 := by kernel_rfl
def c26r0 : List AOper :=
  [{ dst := some 2, g := none, op := AOp.mv (Opd.c (V.bool false)) }]
def c26r1 : List AOper :=
  [{ dst := some 3, g := none, op := AOp.mv (Opd.t 0) },
   { dst := some 4, g := none, op := AOp.call (Opd.c (V.fn 41 [])) [Opd.t 3, Opd.c (V.fn 42 [])] },
   { dst := some 5, g := none, op := AOp.un UnOp.not (Opd.t 4) },
   { dst := some 2, g := none, op := AOp.mv (Opd.t 5) }]
def c26 : AC := (AC.seq (AC.region c26r0) (AC.seq (AC.region c26r1) AC.ret))
def r26 : List ARes := [ARes.tmp 2]
theorem c26_ok : Try.f26.body.bind (cCode Try.prog Try.f26.ntmps) = some c26 := by kernel_rfl
theorem r26_ok : Try.f26.results.toList.mapM (cRes Try.prog Try.f26.ntmps) = some r26 := by kernel_rfl
def c27r0 : List AOper :=
  [{ dst := some 2, g := none, op := AOp.mv (Opd.c (V.bool false)) }]
def c27r1 : List AOper :=
  [{ dst := some 3, g := none, op := AOp.mv (Opd.c (V.int IntKind.i64 0)) }]
def c27r2 : List AOper :=
  [{ dst := some 4, g := none, op := AOp.mv (Opd.t 3) },
   { dst := some 5, g := none, op := AOp.mv (Opd.t 0) },
   { dst := some 6, g := none, op := AOp.lenL (Opd.t 5) },
   { dst := some 7, g := none, op := AOp.bin BinOp.lss (Opd.t 4) (Opd.t 6) }]
def c27r3 : List AOper :=
  [{ dst := some 10, g := none, op := AOp.mv (Opd.t 0) },
   { dst := some 11, g := none, op := AOp.mv (Opd.t 3) },
   { dst := some 12, g := none, op := AOp.idxA (Opd.t 10) (Opd.t 11) none 1 },
   { dst := some 13, g := none, op := AOp.load (Opd.t 12) none },
   { dst := some 14, g := none, op := AOp.call (Opd.c (V.fn 25 [])) [Opd.t 13] },
   { dst := some 15, g := none, op := AOp.bin BinOp.neq (Opd.t 14) (Opd.c (V.int IntKind.i64 0)) }]
def c27r4 : List AOper :=
  [{ dst := some 2, g := none, op := AOp.mv (Opd.c (V.bool false)) }]
def c27r5 : List AOper :=
  [{ dst := some 8, g := none, op := AOp.mv (Opd.t 3) },
   { dst := some 9, g := none, op := AOp.bin BinOp.add (Opd.t 8) (Opd.c (V.int IntKind.i64 1)) },
   { dst := some 3, g := none, op := AOp.mv (Opd.t 9) }]
def c27l0 : AC := (AC.seq (AC.seq (AC.region c27r2) (AC.cond (Opd.t 7) AC.skip (AC.exit 0))) (AC.seq (AC.block 1 (AC.seq (AC.region c27r3) (AC.cond (Opd.t 15) (AC.seq (AC.region c27r4) AC.ret) AC.skip))) (AC.region c27r5)))
def c27r6 : List AOper :=
  [{ dst := some 2, g := none, op := AOp.mv (Opd.c (V.bool true)) }]
def c27 : AC := (AC.seq (AC.region c27r0) (AC.seq (AC.seq (AC.region c27r1) (AC.block 0 (AC.loop c27l0))) (AC.seq (AC.region c27r6) AC.ret)))
def r27 : List ARes := [ARes.tmp 2]
theorem c27_ok : Try.f27.body.bind (cCode Try.prog Try.f27.ntmps) = some c27 := by kernel_rfl
theorem r27_ok : Try.f27.results.toList.mapM (cRes Try.prog Try.f27.ntmps) = some r27 := by kernel_rfl
def c28r0 : List AOper :=
  [{ dst := some 3, g := none, op := AOp.box (Opd.t 1) },
   { dst := some 4, g := none, op := AOp.mv (Opd.c V.nils) }]
def c28r1 : List AOper :=
  [{ dst := some 7, g := none, op := AOp.load (Opd.t 3) (some 4) },
   { dst := some 8, g := none, op := AOp.call (Opd.c (V.fn 39 [])) [Opd.t 7] },
   { dst := some 9, g := none, op := AOp.un UnOp.not (Opd.t 8) }]
def c28r2 : List AOper :=
  [{ dst := some 10, g := none, op := AOp.mv (Opd.t 0) },
   { dst := some 4, g := none, op := AOp.mv (Opd.t 10) }]
def c28r3 : List AOper :=
  [{ dst := some 5, g := none, op := AOp.mv (Opd.c (V.int IntKind.i64 0)) }]
def c28d0 : List (AOper × List Nat) :=
  [({ dst := some 11, g := none, op := AOp.mv (Opd.t 5) }, []),
   ({ dst := some 12, g := none, op := AOp.mv (Opd.t 0) }, []),
   ({ dst := some 13, g := none, op := AOp.lenL (Opd.t 12) }, [1]),
   ({ dst := some 14, g := none, op := AOp.bin BinOp.lss (Opd.t 11) (Opd.t 13) }, [0, 2]),
   ({ dst := some 15, g := none, op := AOp.mv (Opd.t 14) }, [3]),
   ({ dst := some 16, g := some (15, true), op := AOp.mv (Opd.t 0) }, [4]),
   ({ dst := some 17, g := some (15, true), op := AOp.mv (Opd.t 5) }, [4]),
   ({ dst := some 18, g := some (15, true), op := AOp.idxA (Opd.t 16) (Opd.t 17) none 4 }, [5, 6, 4]),
   ({ dst := some 19, g := some (15, true), op := AOp.load (Opd.t 18) (some 4) }, [7, 4]),
   ({ dst := some 20, g := some (15, true), op := AOp.load (Opd.t 3) (some 4) }, [4]),
   ({ dst := some 21, g := some (15, true), op := AOp.call (Opd.c (V.fn 40 [])) [Opd.t 19, Opd.t 20] }, [8, 9, 4, 4]),
   ({ dst := some 22, g := none, op := AOp.pick (Opd.t 15) (Opd.t 21) (Opd.c (V.bool false)) }, [4, 10])]
def c28r4 : List AOper :=
  [{ dst := some 23, g := none, op := AOp.mv (Opd.t 5) },
   { dst := some 24, g := none, op := AOp.bin BinOp.add (Opd.t 23) (Opd.c (V.int IntKind.i64 1)) },
   { dst := some 5, g := none, op := AOp.mv (Opd.t 24) }]
def c28l0 : AC := (AC.seq (AC.seq (AC.drawn c28d0) (AC.cond (Opd.t 22) AC.skip (AC.exit 0))) (AC.block 1 (AC.region c28r4)))
def c28r5 : List AOper :=
  [{ dst := some 6, g := none, op := AOp.mv (Opd.c V.nils) }]
def c28r6 : List AOper :=
  [{ dst := some 25, g := none, op := AOp.mv (Opd.t 6) },
   { dst := some 26, g := none, op := AOp.mv (Opd.t 0) },
   { dst := some 27, g := none, op := AOp.mv (Opd.t 5) },
   { dst := some 28, g := none, op := AOp.slc (Opd.t 26) none (some (Opd.t 27)) none 4 },
   { dst := some 29, g := none, op := AOp.append (Opd.t 25) (Opd.t 28) 4 48 false },
   { dst := some 6, g := none, op := AOp.mv (Opd.t 29) }]
def c28r7 : List AOper :=
  [{ dst := some 30, g := none, op := AOp.mv (Opd.t 6) },
   { dst := some 31, g := none, op := AOp.load (Opd.t 3) (some 4) },
   { dst := some 32, g := none, op := AOp.bslice 1 4 [V.str [], V.str [], V.bool false, V.int IntKind.i64 0] [(0, Opd.t 31)] },
   { dst := some 33, g := none, op := AOp.append (Opd.t 30) (Opd.t 32) 4 48 false },
   { dst := some 6, g := none, op := AOp.mv (Opd.t 33) }]
def c28d1 : List (AOper × List Nat) :=
  [({ dst := some 34, g := none, op := AOp.mv (Opd.t 5) }, []),
   ({ dst := some 35, g := none, op := AOp.mv (Opd.t 0) }, []),
   ({ dst := some 36, g := none, op := AOp.lenL (Opd.t 35) }, [1]),
   ({ dst := some 37, g := none, op := AOp.bin BinOp.lss (Opd.t 34) (Opd.t 36) }, [0, 2]),
   ({ dst := some 38, g := none, op := AOp.mv (Opd.t 37) }, [3]),
   ({ dst := some 39, g := some (38, true), op := AOp.load (Opd.t 3) (some 4) }, [4]),
   ({ dst := some 40, g := some (38, true), op := AOp.mv (Opd.t 0) }, [4]),
   ({ dst := some 41, g := some (38, true), op := AOp.mv (Opd.t 5) }, [4]),
   ({ dst := some 42, g := some (38, true), op := AOp.idxA (Opd.t 40) (Opd.t 41) none 4 }, [6, 7, 4]),
   ({ dst := some 43, g := some (38, true), op := AOp.load (Opd.t 42) (some 4) }, [8, 4]),
   ({ dst := some 44, g := some (38, true), op := AOp.call (Opd.c (V.fn 40 [])) [Opd.t 39, Opd.t 43] }, [5, 9, 4, 4]),
   ({ dst := some 45, g := some (38, true), op := AOp.un UnOp.not (Opd.t 44) }, [10, 4]),
   ({ dst := some 46, g := none, op := AOp.pick (Opd.t 38) (Opd.t 45) (Opd.c (V.bool false)) }, [4, 11])]
def c28r8 : List AOper :=
  [{ dst := some 47, g := none, op := AOp.mv (Opd.t 5) },
   { dst := some 48, g := none, op := AOp.bin BinOp.add (Opd.t 47) (Opd.c (V.int IntKind.i64 1)) },
   { dst := some 5, g := none, op := AOp.mv (Opd.t 48) }]
def c28r9 : List AOper :=
  [{ dst := some 49, g := none, op := AOp.mv (Opd.t 6) },
   { dst := some 50, g := none, op := AOp.mv (Opd.t 0) },
   { dst := some 51, g := none, op := AOp.mv (Opd.t 5) },
   { dst := some 52, g := none, op := AOp.slc (Opd.t 50) (some (Opd.t 51)) none none 4 },
   { dst := some 53, g := none, op := AOp.append (Opd.t 49) (Opd.t 52) 4 48 false },
   { dst := some 4, g := none, op := AOp.mv (Opd.t 53) }]
def c28 : AC := (AC.seq (AC.region c28r0) (AC.seq (AC.seq (AC.region c28r1) (AC.cond (Opd.t 9) (AC.seq (AC.region c28r2) AC.ret) AC.skip)) (AC.seq (AC.region c28r3) (AC.seq (AC.block 0 (AC.loop c28l0)) (AC.seq (AC.region c28r5) (AC.seq (AC.region c28r6) (AC.seq (AC.region c28r7) (AC.seq (AC.seq (AC.drawn c28d1) (AC.cond (Opd.t 46) (AC.region c28r8) AC.skip)) (AC.seq (AC.region c28r9) AC.ret)))))))))
def r28 : List ARes := [ARes.tmp 4]
theorem c28_ok : Try.f28.body.bind (cCode Try.prog Try.f28.ntmps) = some c28 := by kernel_rfl
theorem r28_ok : Try.f28.results.toList.mapM (cRes Try.prog Try.f28.ntmps) = some r28 := by kernel_rfl
def c29r0 : List AOper :=
  [{ dst := some 3, g := none, op := AOp.box (Opd.t 1) },
   { dst := some 4, g := none, op := AOp.mv (Opd.c (V.bool false)) }]
def c29r1 : List AOper :=
  [{ dst := some 5, g := none, op := AOp.mv (Opd.c (V.int IntKind.i64 0)) }]
def c29r2 : List AOper :=
  [{ dst := some 6, g := none, op := AOp.mv (Opd.t 5) },
   { dst := some 7, g := none, op := AOp.mv (Opd.t 0) },
   { dst := some 8, g := none, op := AOp.lenL (Opd.t 7) },
   { dst := some 9, g := none, op := AOp.bin BinOp.lss (Opd.t 6) (Opd.t 8) }]
def c29d0 : List (AOper × List Nat) :=
  [({ dst := some 12, g := none, op := AOp.mv (Opd.t 0) }, []),
   ({ dst := some 13, g := none, op := AOp.mv (Opd.t 5) }, []),
   ({ dst := some 14, g := none, op := AOp.idxA (Opd.t 12) (Opd.t 13) none 4 }, [0, 1]),
   ({ dst := some 15, g := none, op := AOp.fldA (Opd.t 14) 0 }, [2]),
   ({ dst := some 16, g := none, op := AOp.load (Opd.t 15) none }, [3]),
   ({ dst := some 17, g := none, op := AOp.fldA (Opd.t 3) 0 }, []),
   ({ dst := some 18, g := none, op := AOp.load (Opd.t 17) none }, [5]),
   ({ dst := some 19, g := none, op := AOp.bin BinOp.eql (Opd.t 16) (Opd.t 18) }, [4, 6]),
   ({ dst := some 20, g := none, op := AOp.mv (Opd.t 19) }, [7]),
   ({ dst := some 21, g := some (20, true), op := AOp.mv (Opd.t 0) }, [8]),
   ({ dst := some 22, g := some (20, true), op := AOp.mv (Opd.t 5) }, [8]),
   ({ dst := some 23, g := some (20, true), op := AOp.idxA (Opd.t 21) (Opd.t 22) none 4 }, [9, 10, 8]),
   ({ dst := some 24, g := some (20, true), op := AOp.fldA (Opd.t 23) 3 }, [11, 8]),
   ({ dst := some 25, g := some (20, true), op := AOp.load (Opd.t 24) none }, [12, 8]),
   ({ dst := some 26, g := some (20, true), op := AOp.fldA (Opd.t 3) 3 }, [8]),
   ({ dst := some 27, g := some (20, true), op := AOp.load (Opd.t 26) none }, [14, 8]),
   ({ dst := some 28, g := some (20, true), op := AOp.bin BinOp.eql (Opd.t 25) (Opd.t 27) }, [13, 15, 8]),
   ({ dst := some 29, g := none, op := AOp.pick (Opd.t 20) (Opd.t 28) (Opd.c (V.bool false)) }, [8, 16])]
def c29r3 : List AOper :=
  [{ dst := some 4, g := none, op := AOp.mv (Opd.c (V.bool true)) }]
def c29r4 : List AOper :=
  [{ dst := some 10, g := none, op := AOp.mv (Opd.t 5) },
   { dst := some 11, g := none, op := AOp.bin BinOp.add (Opd.t 10) (Opd.c (V.int IntKind.i64 1)) },
   { dst := some 5, g := none, op := AOp.mv (Opd.t 11) }]
def c29l0 : AC := (AC.seq (AC.seq (AC.region c29r2) (AC.cond (Opd.t 9) AC.skip (AC.exit 0))) (AC.seq (AC.block 1 (AC.seq (AC.drawn c29d0) (AC.cond (Opd.t 29) (AC.seq (AC.region c29r3) AC.ret) AC.skip))) (AC.region c29r4)))
def c29r5 : List AOper :=
  [{ dst := some 4, g := none, op := AOp.mv (Opd.c (V.bool false)) }]
def c29 : AC := (AC.seq (AC.region c29r0) (AC.seq (AC.seq (AC.region c29r1) (AC.block 0 (AC.loop c29l0))) (AC.seq (AC.region c29r5) AC.ret)))
def r29 : List ARes := [ARes.tmp 4]
theorem c29_ok : Try.f29.body.bind (cCode Try.prog Try.f29.ntmps) = some c29 := by kernel_rfl
theorem r29_ok : Try.f29.results.toList.mapM (cRes Try.prog Try.f29.ntmps) = some r29 := by kernel_rfl
def c30r0 : List AOper :=
  [{ dst := some 10, g := none, op := AOp.load (Opd.t 1) none },
   { dst := some 11, g := none, op := AOp.call (Opd.c (V.fn 26 [])) [Opd.t 10] },
   { dst := some 12, g := none, op := AOp.un UnOp.not (Opd.t 11) }]
def c30r1 : List AOper :=
  [{ dst := some 13, g := none, op := AOp.load (Opd.t 1) none },
   { dst := some 14, g := none, op := AOp.lenL (Opd.t 13) },
   { dst := some 15, g := none, op := AOp.mks (Opd.t 14) (Opd.t 14) [V.int IntKind.i64 0] 8 },
   { dst := some 3, g := none, op := AOp.mv (Opd.t 15) }]
def c30r2 : List AOper :=
  [{ dst := some 4, g := none, op := AOp.mv (Opd.c (V.int IntKind.i64 (-1))) }]
def c30r3 : List AOper :=
  [{ dst := some 16, g := none, op := AOp.load (Opd.t 1) none },
   { dst := some 17, g := none, op := AOp.lenL (Opd.t 16) },
   { dst := some 18, g := none, op := AOp.mv (Opd.c (V.int IntKind.i64 0)) }]
def c30r4 : List AOper :=
  [{ dst := some 19, g := none, op := AOp.bin BinOp.lss (Opd.t 18) (Opd.t 17) }]
def c30r5 : List AOper :=
  [{ dst := some 20, g := none, op := AOp.mv (Opd.t 18) },
   { dst := some 21, g := none, op := AOp.idxA (Opd.t 16) (Opd.t 18) none 1 },
   { dst := some 22, g := none, op := AOp.load (Opd.t 21) none },
   { dst := some 5, g := none, op := AOp.mv (Opd.t 20) },
   { dst := some 6, g := none, op := AOp.mv (Opd.t 22) }]
def c30d0 : List (AOper × List Nat) :=
  [({ dst := some 23, g := none, op := AOp.mv (Opd.t 3) }, []),
   ({ dst := some 24, g := none, op := AOp.mv (Opd.t 5) }, []),
   ({ dst := some 25, g := none, op := AOp.idxA (Opd.t 23) (Opd.t 24) none 1 }, [0, 1]),
   ({ dst := some 26, g := none, op := AOp.load (Opd.t 25) none }, [2]),
   ({ dst := some 27, g := none, op := AOp.mv (Opd.t 6) }, []),
   ({ dst := some 28, g := none, op := AOp.lenL (Opd.t 27) }, [4]),
   ({ dst := some 29, g := none, op := AOp.bin BinOp.lss (Opd.t 26) (Opd.t 28) }, [3, 5]),
   ({ dst := some 30, g := none, op := AOp.mv (Opd.t 29) }, [6]),
   ({ dst := some 31, g := some (30, true), op := AOp.mv (Opd.t 4) }, [7]),
   ({ dst := some 32, g := some (30, true), op := AOp.bin BinOp.lss (Opd.t 31) (Opd.c (V.int IntKind.i64 0)) }, [8, 7]),
   ({ dst := some 33, g := some (30, true), op := AOp.mv (Opd.t 32) }, [9, 7, 7]),
   ({ dst := some 34, g := some (33, false), op := AOp.mv (Opd.t 6) }, [10]),
   ({ dst := some 35, g := some (33, false), op := AOp.mv (Opd.t 3) }, [10]),
   ({ dst := some 36, g := some (33, false), op := AOp.mv (Opd.t 5) }, [10]),
   ({ dst := some 37, g := some (33, false), op := AOp.idxA (Opd.t 35) (Opd.t 36) none 1 }, [12, 13, 10]),
   ({ dst := some 38, g := some (33, false), op := AOp.load (Opd.t 37) none }, [14, 10]),
   ({ dst := some 39, g := some (33, false), op := AOp.idxA (Opd.t 34) (Opd.t 38) none 4 }, [11, 15, 10]),
   ({ dst := some 40, g := some (33, false), op := AOp.load (Opd.t 39) (some 4) }, [16, 10]),
   ({ dst := some 41, g := some (33, false), op := AOp.load (Opd.t 1) none }, [10]),
   ({ dst := some 42, g := some (33, false), op := AOp.mv (Opd.t 4) }, [10]),
   ({ dst := some 43, g := some (33, false), op := AOp.idxA (Opd.t 41) (Opd.t 42) none 1 }, [18, 19, 10]),
   ({ dst := some 44, g := some (33, false), op := AOp.load (Opd.t 43) none }, [20, 10]),
   ({ dst := some 45, g := some (33, false), op := AOp.mv (Opd.t 3) }, [10]),
   ({ dst := some 46, g := some (33, false), op := AOp.mv (Opd.t 4) }, [10]),
   ({ dst := some 47, g := some (33, false), op := AOp.idxA (Opd.t 45) (Opd.t 46) none 1 }, [22, 23, 10]),
   ({ dst := some 48, g := some (33, false), op := AOp.load (Opd.t 47) none }, [24, 10]),
   ({ dst := some 49, g := some (33, false), op := AOp.idxA (Opd.t 44) (Opd.t 48) none 4 }, [21, 25, 10]),
   ({ dst := some 50, g := some (33, false), op := AOp.load (Opd.t 49) (some 4) }, [26, 10]),
   ({ dst := some 51, g := some (33, false), op := AOp.call (Opd.c (V.fn 31 [])) [Opd.t 40, Opd.t 50] }, [17, 27, 10, 10]),
   ({ dst := some 52, g := some (30, true), op := AOp.pick (Opd.t 33) (Opd.c (V.bool true)) (Opd.t 51) }, [10, 28, 7]),
   ({ dst := some 53, g := none, op := AOp.pick (Opd.t 30) (Opd.t 52) (Opd.c (V.bool false)) }, [7, 29])]
def c30r6 : List AOper :=
  [{ dst := some 54, g := none, op := AOp.mv (Opd.t 5) },
   { dst := some 4, g := none, op := AOp.mv (Opd.t 54) }]
def c30r7 : List AOper :=
  [{ dst := some 55, g := none, op := AOp.bin BinOp.add (Opd.t 18) (Opd.c (V.int IntKind.i64 1)) },
   { dst := some 18, g := none, op := AOp.mv (Opd.t 55) }]
def c30l1 : AC := (AC.seq (AC.region c30r4) (AC.seq (AC.cond (Opd.t 19) AC.skip (AC.exit 2)) (AC.seq (AC.block 3 (AC.seq (AC.region c30r5) (AC.seq (AC.drawn c30d0) (AC.cond (Opd.t 53) (AC.region c30r6) AC.skip)))) (AC.region c30r7))))
def c30r8 : List AOper :=
  [{ dst := some 56, g := none, op := AOp.mv (Opd.t 4) },
   { dst := some 57, g := none, op := AOp.bin BinOp.lss (Opd.t 56) (Opd.c (V.int IntKind.i64 0)) }]
def c30d1 : List (AOper × List Nat) :=
  [({ dst := some 58, g := none, op := AOp.load (Opd.t 1) none }, []),
   ({ dst := some 59, g := none, op := AOp.mv (Opd.t 4) }, []),
   ({ dst := some 60, g := none, op := AOp.idxA (Opd.t 58) (Opd.t 59) none 1 }, [0, 1]),
   ({ dst := some 61, g := none, op := AOp.load (Opd.t 60) none }, [2]),
   ({ dst := some 62, g := none, op := AOp.mv (Opd.t 3) }, []),
   ({ dst := some 63, g := none, op := AOp.mv (Opd.t 4) }, []),
   ({ dst := some 64, g := none, op := AOp.idxA (Opd.t 62) (Opd.t 63) none 1 }, [4, 5]),
   ({ dst := some 65, g := none, op := AOp.load (Opd.t 64) none }, [6]),
   ({ dst := some 66, g := none, op := AOp.idxA (Opd.t 61) (Opd.t 65) none 4 }, [3, 7]),
   ({ dst := some 67, g := none, op := AOp.load (Opd.t 66) (some 4) }, [8]),
   ({ dst := some 7, g := none, op := AOp.alloc [V.str [], V.str [], V.bool false, V.int IntKind.i64 0] }, []),
   ({ dst := none, g := none, op := AOp.store (Opd.t 7) (Opd.t 67) 4 }, [10, 9, 0, 1, 2, 3, 4, 5, 6, 7, 8, 9, 10])]
def c30r9 : List AOper :=
  [{ dst := some 68, g := none, op := AOp.load (Opd.t 1) none },
   { dst := some 69, g := none, op := AOp.lenL (Opd.t 68) },
   { dst := some 70, g := none, op := AOp.mv (Opd.c (V.int IntKind.i64 0)) }]
def c30r10 : List AOper :=
  [{ dst := some 71, g := none, op := AOp.bin BinOp.lss (Opd.t 70) (Opd.t 69) }]
def c30r11 : List AOper :=
  [{ dst := some 72, g := none, op := AOp.mv (Opd.t 70) },
   { dst := some 73, g := none, op := AOp.idxA (Opd.t 68) (Opd.t 70) none 1 },
   { dst := some 74, g := none, op := AOp.load (Opd.t 73) none },
   { dst := some 8, g := none, op := AOp.mv (Opd.t 72) },
   { dst := some 9, g := none, op := AOp.mv (Opd.t 74) }]
def c30d2 : List (AOper × List Nat) :=
  [({ dst := some 75, g := none, op := AOp.mv (Opd.t 3) }, []),
   ({ dst := some 76, g := none, op := AOp.mv (Opd.t 8) }, []),
   ({ dst := some 77, g := none, op := AOp.idxA (Opd.t 75) (Opd.t 76) none 1 }, [0, 1]),
   ({ dst := some 78, g := none, op := AOp.load (Opd.t 77) none }, [2]),
   ({ dst := some 79, g := none, op := AOp.mv (Opd.t 9) }, []),
   ({ dst := some 80, g := none, op := AOp.lenL (Opd.t 79) }, [4]),
   ({ dst := some 81, g := none, op := AOp.bin BinOp.lss (Opd.t 78) (Opd.t 80) }, [3, 5]),
   ({ dst := some 82, g := none, op := AOp.mv (Opd.t 81) }, [6]),
   ({ dst := some 83, g := some (82, true), op := AOp.mv (Opd.t 9) }, [7]),
   ({ dst := some 84, g := some (82, true), op := AOp.mv (Opd.t 3) }, [7]),
   ({ dst := some 85, g := some (82, true), op := AOp.mv (Opd.t 8) }, [7]),
   ({ dst := some 86, g := some (82, true), op := AOp.idxA (Opd.t 84) (Opd.t 85) none 1 }, [9, 10, 7]),
   ({ dst := some 87, g := some (82, true), op := AOp.load (Opd.t 86) none }, [11, 7]),
   ({ dst := some 88, g := some (82, true), op := AOp.idxA (Opd.t 83) (Opd.t 87) none 4 }, [8, 12, 7]),
   ({ dst := some 89, g := some (82, true), op := AOp.fldA (Opd.t 88) 0 }, [13, 7]),
   ({ dst := some 90, g := some (82, true), op := AOp.load (Opd.t 89) none }, [14, 7]),
   ({ dst := some 91, g := some (82, true), op := AOp.fldA (Opd.t 7) 0 }, [7]),
   ({ dst := some 92, g := some (82, true), op := AOp.load (Opd.t 91) none }, [16, 7]),
   ({ dst := some 93, g := some (82, true), op := AOp.bin BinOp.eql (Opd.t 90) (Opd.t 92) }, [15, 17, 7]),
   ({ dst := some 94, g := none, op := AOp.pick (Opd.t 82) (Opd.t 93) (Opd.c (V.bool false)) }, [7, 18]),
   ({ dst := some 95, g := none, op := AOp.mv (Opd.t 94) }, [19, 7]),
   ({ dst := some 96, g := some (95, true), op := AOp.mv (Opd.t 9) }, [20]),
   ({ dst := some 97, g := some (95, true), op := AOp.mv (Opd.t 3) }, [20]),
   ({ dst := some 98, g := some (95, true), op := AOp.mv (Opd.t 8) }, [20]),
   ({ dst := some 99, g := some (95, true), op := AOp.idxA (Opd.t 97) (Opd.t 98) none 1 }, [22, 23, 20]),
   ({ dst := some 100, g := some (95, true), op := AOp.load (Opd.t 99) none }, [24, 20]),
   ({ dst := some 101, g := some (95, true), op := AOp.idxA (Opd.t 96) (Opd.t 100) none 4 }, [21, 25, 20]),
   ({ dst := some 102, g := some (95, true), op := AOp.fldA (Opd.t 101) 3 }, [26, 20]),
   ({ dst := some 103, g := some (95, true), op := AOp.load (Opd.t 102) none }, [27, 20]),
   ({ dst := some 104, g := some (95, true), op := AOp.fldA (Opd.t 7) 3 }, [20]),
   ({ dst := some 105, g := some (95, true), op := AOp.load (Opd.t 104) none }, [29, 20]),
   ({ dst := some 106, g := some (95, true), op := AOp.bin BinOp.eql (Opd.t 103) (Opd.t 105) }, [28, 30, 20]),
   ({ dst := some 107, g := none, op := AOp.pick (Opd.t 95) (Opd.t 106) (Opd.c (V.bool false)) }, [20, 31])]
def c30r12 : List AOper :=
  [{ dst := some 108, g := none, op := AOp.mv (Opd.t 3) },
   { dst := some 109, g := none, op := AOp.mv (Opd.t 8) },
   { dst := some 110, g := none, op := AOp.idxA (Opd.t 108) (Opd.t 109) none 1 },
   { dst := some 111, g := none, op := AOp.load (Opd.t 110) none },
   { dst := some 112, g := none, op := AOp.bin BinOp.add (Opd.t 111) (Opd.c (V.int IntKind.i64 1)) },
   { dst := some 113, g := none, op := AOp.idxA (Opd.t 108) (Opd.t 109) none 1 },
   { dst := none, g := none, op := AOp.store (Opd.t 113) (Opd.t 112) 1 }]
def c30r13 : List AOper :=
  [{ dst := some 114, g := none, op := AOp.bin BinOp.add (Opd.t 70) (Opd.c (V.int IntKind.i64 1)) },
   { dst := some 70, g := none, op := AOp.mv (Opd.t 114) }]
def c30l2 : AC := (AC.seq (AC.region c30r10) (AC.seq (AC.cond (Opd.t 71) AC.skip (AC.exit 4)) (AC.seq (AC.block 5 (AC.seq (AC.region c30r11) (AC.seq (AC.drawn c30d2) (AC.cond (Opd.t 107) (AC.region c30r12) AC.skip)))) (AC.region c30r13))))
def c30r14 : List AOper :=
  [{ dst := some 115, g := none, op := AOp.mv (Opd.t 0) },
   { dst := some 116, g := none, op := AOp.load (Opd.t 7) (some 4) },
   { dst := some 117, g := none, op := AOp.call (Opd.t 115) [Opd.t 116] },
   { dst := some 118, g := none, op := AOp.un UnOp.not (Opd.t 117) }]
def c30l0 : AC := (AC.block 1 (AC.seq (AC.region c30r2) (AC.seq (AC.seq (AC.region c30r3) (AC.block 2 (AC.loop c30l1))) (AC.seq (AC.seq (AC.region c30r8) (AC.cond (Opd.t 57) AC.ret AC.skip)) (AC.seq (AC.drawn c30d1) (AC.seq (AC.seq (AC.region c30r9) (AC.block 4 (AC.loop c30l2))) (AC.seq (AC.region c30r14) (AC.cond (Opd.t 118) AC.ret AC.skip))))))))
def c30 : AC := (AC.seq (AC.seq (AC.region c30r0) (AC.cond (Opd.t 12) AC.ret AC.skip)) (AC.seq (AC.region c30r1) (AC.block 0 (AC.loop c30l0))))
def r30 : List ARes := []
theorem c30_ok : Try.f30.body.bind (cCode Try.prog Try.f30.ntmps) = some c30 := by kernel_rfl
theorem r30_ok : Try.f30.results.toList.mapM (cRes Try.prog Try.f30.ntmps) = some r30 := by kernel_rfl
def c31r0 : List AOper :=
  [{ dst := some 2, g := none, op := AOp.box (Opd.t 0) },
   { dst := some 3, g := none, op := AOp.box (Opd.t 1) },
   { dst := some 4, g := none, op := AOp.mv (Opd.c (V.bool false)) }]
def c31r1 : List AOper :=
  [{ dst := some 5, g := none, op := AOp.fldA (Opd.t 2) 0 },
   { dst := some 6, g := none, op := AOp.load (Opd.t 5) none },
   { dst := some 7, g := none, op := AOp.fldA (Opd.t 3) 0 },
   { dst := some 8, g := none, op := AOp.load (Opd.t 7) none },
   { dst := some 9, g := none, op := AOp.bin BinOp.neq (Opd.t 6) (Opd.t 8) }]
def c31r2 : List AOper :=
  [{ dst := some 10, g := none, op := AOp.fldA (Opd.t 2) 0 },
   { dst := some 11, g := none, op := AOp.load (Opd.t 10) none },
   { dst := some 12, g := none, op := AOp.fldA (Opd.t 3) 0 },
   { dst := some 13, g := none, op := AOp.load (Opd.t 12) none },
   { dst := some 14, g := none, op := AOp.bin BinOp.lss (Opd.t 11) (Opd.t 13) },
   { dst := some 4, g := none, op := AOp.mv (Opd.t 14) }]
def c31r3 : List AOper :=
  [{ dst := some 15, g := none, op := AOp.fldA (Opd.t 2) 3 },
   { dst := some 16, g := none, op := AOp.load (Opd.t 15) none },
   { dst := some 17, g := none, op := AOp.fldA (Opd.t 3) 3 },
   { dst := some 18, g := none, op := AOp.load (Opd.t 17) none },
   { dst := some 19, g := none, op := AOp.bin BinOp.gtr (Opd.t 16) (Opd.t 18) },
   { dst := some 4, g := none, op := AOp.mv (Opd.t 19) }]
def c31 : AC := (AC.seq (AC.region c31r0) (AC.seq (AC.seq (AC.region c31r1) (AC.cond (Opd.t 9) (AC.seq (AC.region c31r2) AC.ret) AC.skip)) (AC.seq (AC.region c31r3) AC.ret)))
def r31 : List ARes := [ARes.tmp 4]
theorem c31_ok : Try.f31.body.bind (cCode Try.prog Try.f31.ntmps) = some c31 := by kernel_rfl
theorem r31_ok : Try.f31.results.toList.mapM (cRes Try.prog Try.f31.ntmps) = some r31 := by kernel_rfl
def c32r0 : List AOper :=
  [{ dst := some 2, g := none, op := AOp.box (Opd.t 0) }]
def c32r1 : List AOper :=
  [{ dst := some 5, g := none, op := AOp.load (Opd.t 2) none },
   { dst := some 6, g := none, op := AOp.bslice 1 1 [V.nils] [(0, Opd.t 5)] },
   { dst := some 7, g := none, op := AOp.call (Opd.c (V.fn 26 [])) [Opd.t 6] },
   { dst := some 8, g := none, op := AOp.un UnOp.not (Opd.t 7) }]
def c32r2 : List AOper :=
  [{ dst := some 9, g := none, op := AOp.load (Opd.t 2) none },
   { dst := some 10, g := none, op := AOp.lenL (Opd.t 9) },
   { dst := some 11, g := none, op := AOp.bin BinOp.gtr (Opd.t 10) (Opd.c (V.int IntKind.i64 0)) }]
def c32r3 : List AOper :=
  [{ dst := some 12, g := none, op := AOp.load (Opd.t 2) none },
   { dst := some 13, g := none, op := AOp.mkf 45 [Opd.t 2] },
   { dst := some 14, g := none, op := AOp.call (Opd.c (V.fn 44 [])) [Opd.t 12, Opd.t 13] },
   { dst := some 4, g := none, op := AOp.mv (Opd.t 14) }]
def c32r4 : List AOper :=
  [{ dst := some 15, g := none, op := AOp.mv (Opd.t 4) },
   { dst := some 16, g := none, op := AOp.bin BinOp.lss (Opd.t 15) (Opd.c (V.int IntKind.i64 0)) }]
def c32r5 : List AOper :=
  [{ dst := some 17, g := none, op := AOp.load (Opd.t 2) none },
   { dst := some 18, g := none, op := AOp.lenL (Opd.t 17) },
   { dst := some 4, g := none, op := AOp.mv (Opd.t 18) }]
def c32r6 : List AOper :=
  [{ dst := some 19, g := none, op := AOp.mv (Opd.t 1) },
   { dst := some 20, g := none, op := AOp.load (Opd.t 2) none },
   { dst := some 21, g := none, op := AOp.mv (Opd.t 4) },
   { dst := some 22, g := none, op := AOp.slc (Opd.t 20) none (some (Opd.t 21)) none 4 },
   { dst := some 23, g := none, op := AOp.call (Opd.t 19) [Opd.t 22] }]
def c32r7 : List AOper :=
  [{ dst := some 24, g := none, op := AOp.load (Opd.t 2) none },
   { dst := some 25, g := none, op := AOp.mv (Opd.t 4) },
   { dst := some 26, g := none, op := AOp.slc (Opd.t 24) (some (Opd.t 25)) none none 4 },
   { dst := none, g := none, op := AOp.store (Opd.t 2) (Opd.t 26) 1 }]
def c32l0 : AC := (AC.seq (AC.seq (AC.region c32r2) (AC.cond (Opd.t 11) AC.skip (AC.exit 0))) (AC.block 1 (AC.seq (AC.region c32r3) (AC.seq (AC.seq (AC.region c32r4) (AC.cond (Opd.t 16) (AC.region c32r5) AC.skip)) (AC.seq (AC.region c32r6) (AC.region c32r7))))))
def c32 : AC := (AC.seq (AC.region c32r0) (AC.seq (AC.seq (AC.region c32r1) (AC.cond (Opd.t 8) AC.ret AC.skip)) (AC.block 0 (AC.loop c32l0))))
def r32 : List ARes := []
theorem c32_ok : Try.f32.body.bind (cCode Try.prog Try.f32.ntmps) = some c32 := by kernel_rfl
theorem r32_ok : Try.f32.results.toList.mapM (cRes Try.prog Try.f32.ntmps) = some r32 := by kernel_rfl
def c33r0 : List AOper :=
  [{ dst := some 5, g := none, op := AOp.mv (Opd.t 0) },
   { dst := some 6, g := none, op := AOp.load (Opd.t 1) none },
   { dst := some 7, g := none, op := AOp.call (Opd.c (V.fn 34 [])) [Opd.t 5, Opd.t 6] },
   { dst := some 4, g := none, op := AOp.mv (Opd.t 7) }]
def c33r1 : List AOper :=
  [{ dst := some 8, g := none, op := AOp.mv (Opd.t 4) },
   { dst := some 9, g := none, op := AOp.bin BinOp.geq (Opd.t 8) (Opd.c (V.int IntKind.i64 0)) },
   { dst := some 10, g := none, op := AOp.mv (Opd.t 9) },
   { dst := some 11, g := some (10, true), op := AOp.mv (Opd.t 0) },
   { dst := some 12, g := some (10, true), op := AOp.mv (Opd.t 4) },
   { dst := some 13, g := some (10, true), op := AOp.idxA (Opd.t 11) (Opd.t 12) none 4 },
   { dst := some 14, g := some (10, true), op := AOp.fldA (Opd.t 13) 2 },
   { dst := some 15, g := some (10, true), op := AOp.load (Opd.t 14) none },
   { dst := some 16, g := some (10, true), op := AOp.un UnOp.not (Opd.t 15) },
   { dst := some 17, g := none, op := AOp.pick (Opd.t 10) (Opd.t 16) (Opd.c (V.bool false)) }]
def c33d0 : List (AOper × List Nat) :=
  [({ dst := some 18, g := none, op := AOp.load (Opd.t 2) none }, []),
   ({ dst := some 19, g := none, op := AOp.mv (Opd.t 0) }, []),
   ({ dst := some 20, g := none, op := AOp.mv (Opd.t 4) }, []),
   ({ dst := some 21, g := none, op := AOp.idxA (Opd.t 19) (Opd.t 20) none 4 }, [1, 2]),
   ({ dst := some 22, g := none, op := AOp.fldA (Opd.t 21) 0 }, [3]),
   ({ dst := some 23, g := none, op := AOp.load (Opd.t 22) none }, [4]),
   ({ dst := some 24, g := none, op := AOp.mv (Opd.t 0) }, []),
   ({ dst := some 25, g := none, op := AOp.mv (Opd.t 4) }, []),
   ({ dst := some 26, g := none, op := AOp.idxA (Opd.t 24) (Opd.t 25) none 4 }, [6, 7]),
   ({ dst := some 27, g := none, op := AOp.fldA (Opd.t 26) 1 }, [8]),
   ({ dst := some 28, g := none, op := AOp.load (Opd.t 27) none }, [9]),
   ({ dst := some 29, g := none, op := AOp.build [V.str [], V.str []] [(0, 1, Opd.t 23), (1, 1, Opd.t 28)] }, [5, 10]),
   ({ dst := some 30, g := none, op := AOp.bslice 1 2 [V.str [], V.str []] [(0, Opd.t 29)] }, [11]),
   ({ dst := some 31, g := none, op := AOp.append (Opd.t 18) (Opd.t 30) 2 32 false }, [0, 12]),
   ({ dst := none, g := none, op := AOp.store (Opd.t 2) (Opd.t 31) 1 }, [13, 13, 0, 1, 2, 3, 4, 5, 6, 7, 8, 9, 10, 11, 12, 13])]
def c33 : AC := (AC.seq (AC.region c33r0) (AC.seq (AC.region c33r1) (AC.cond (Opd.t 17) (AC.drawn c33d0) AC.skip)))
def r33 : List ARes := []
theorem c33_ok : Try.f33.body.bind (cCode Try.prog Try.f33.ntmps) = some c33 := by kernel_rfl
theorem r33_ok : Try.f33.results.toList.mapM (cRes Try.prog Try.f33.ntmps) = some r33 := by kernel_rfl
def c34r0 : List AOper :=
  [{ dst := some 3, g := none, op := AOp.box (Opd.t 1) },
   { dst := some 4, g := none, op := AOp.mv (Opd.c (V.int IntKind.i64 0)) }]
def c34r1 : List AOper :=
  [{ dst := some 5, g := none, op := AOp.mv (Opd.t 0) },
   { dst := some 6, g := none, op := AOp.mkf 46 [Opd.t 3] },
   { dst := some 7, g := none, op := AOp.call (Opd.c (V.fn 44 [])) [Opd.t 5, Opd.t 6] },
   { dst := some 4, g := none, op := AOp.mv (Opd.t 7) }]
def c34 : AC := (AC.seq (AC.region c34r0) (AC.seq (AC.region c34r1) AC.ret))
def r34 : List ARes := [ARes.tmp 4]
theorem c34_ok : Try.f34.body.bind (cCode Try.prog Try.f34.ntmps) = some c34 := by kernel_rfl
theorem r34_ok : Try.f34.results.toList.mapM (cRes Try.prog Try.f34.ntmps) = some r34 := by kernel_rfl
def c35r0 : List AOper :=
  [{ dst := some 6, g := none, op := AOp.mv (Opd.c (V.int IntKind.i64 0)) }]
def c35r1 : List AOper :=
  [{ dst := some 7, g := none, op := AOp.mv (Opd.c (V.int IntKind.i64 0)) }]
def c35r2 : List AOper :=
  [{ dst := some 8, g := none, op := AOp.mv (Opd.t 7) },
   { dst := some 9, g := none, op := AOp.mv (Opd.t 0) },
   { dst := some 10, g := none, op := AOp.lenL (Opd.t 9) },
   { dst := some 11, g := none, op := AOp.bin BinOp.lss (Opd.t 8) (Opd.t 10) }]
def c35r3 : List AOper :=
  [{ dst := some 14, g := none, op := AOp.mv (Opd.t 0) },
   { dst := some 15, g := none, op := AOp.mv (Opd.t 7) },
   { dst := some 16, g := none, op := AOp.idxA (Opd.t 14) (Opd.t 15) none 4 },
   { dst := some 17, g := none, op := AOp.fldA (Opd.t 16) 0 },
   { dst := some 18, g := none, op := AOp.load (Opd.t 17) none },
   { dst := some 19, g := none, op := AOp.mv (Opd.t 1) },
   { dst := some 20, g := none, op := AOp.bin BinOp.eql (Opd.t 18) (Opd.t 19) },
   { dst := some 21, g := none, op := AOp.mv (Opd.t 20) },
   { dst := some 22, g := some (21, true), op := AOp.mv (Opd.t 0) },
   { dst := some 23, g := some (21, true), op := AOp.mv (Opd.t 7) },
   { dst := some 24, g := some (21, true), op := AOp.idxA (Opd.t 22) (Opd.t 23) none 4 },
   { dst := some 25, g := some (21, true), op := AOp.fldA (Opd.t 24) 3 },
   { dst := some 26, g := some (21, true), op := AOp.load (Opd.t 25) none },
   { dst := some 27, g := some (21, true), op := AOp.mv (Opd.t 2) },
   { dst := some 28, g := some (21, true), op := AOp.bin BinOp.leq (Opd.t 26) (Opd.t 27) },
   { dst := some 29, g := none, op := AOp.pick (Opd.t 21) (Opd.t 28) (Opd.c (V.bool false)) }]
def c35r4 : List AOper :=
  [{ dst := some 30, g := none, op := AOp.mv (Opd.t 7) },
   { dst := some 6, g := none, op := AOp.mv (Opd.t 30) }]
def c35r5 : List AOper :=
  [{ dst := some 12, g := none, op := AOp.mv (Opd.t 7) },
   { dst := some 13, g := none, op := AOp.bin BinOp.add (Opd.t 12) (Opd.c (V.int IntKind.i64 1)) },
   { dst := some 7, g := none, op := AOp.mv (Opd.t 13) }]
def c35l0 : AC := (AC.seq (AC.seq (AC.region c35r2) (AC.cond (Opd.t 11) AC.skip (AC.exit 0))) (AC.seq (AC.block 1 (AC.seq (AC.region c35r3) (AC.cond (Opd.t 29) (AC.seq (AC.region c35r4) AC.ret) AC.skip))) (AC.region c35r5)))
def c35r6 : List AOper :=
  [{ dst := some 6, g := none, op := AOp.mv (Opd.c (V.int IntKind.i64 (-1))) }]
def c35 : AC := (AC.seq (AC.region c35r0) (AC.seq (AC.seq (AC.region c35r1) (AC.block 0 (AC.loop c35l0))) (AC.seq (AC.region c35r6) AC.ret)))
def r35 : List ARes := [ARes.tmp 6]
theorem c35_ok : Try.f35.body.bind (cCode Try.prog Try.f35.ntmps) = some c35 := by kernel_rfl
theorem r35_ok : Try.f35.results.toList.mapM (cRes Try.prog Try.f35.ntmps) = some r35 := by kernel_rfl
def c36d0 : List (AOper × List Nat) :=
  [({ dst := some 4, g := none, op := AOp.mv (Opd.t 0) }, []),
   ({ dst := some 5, g := none, op := AOp.idxA (Opd.t 4) (Opd.c (V.int IntKind.i64 0)) none 4 }, [0]),
   ({ dst := some 6, g := none, op := AOp.fldA (Opd.t 5) 3 }, [1]),
   ({ dst := some 7, g := none, op := AOp.load (Opd.t 6) none }, [2]),
   ({ dst := some 8, g := none, op := AOp.load (Opd.t 1) none }, []),
   ({ dst := some 9, g := none, op := AOp.bin BinOp.gtr (Opd.t 7) (Opd.t 8) }, [3, 4])]
def c36d1 : List (AOper × List Nat) :=
  [({ dst := some 10, g := none, op := AOp.load (Opd.t 2) none }, []),
   ({ dst := some 11, g := none, op := AOp.mv (Opd.t 0) }, []),
   ({ dst := some 12, g := none, op := AOp.idxA (Opd.t 11) (Opd.c (V.int IntKind.i64 0)) none 4 }, [1]),
   ({ dst := some 13, g := none, op := AOp.load (Opd.t 12) (some 4) }, [2]),
   ({ dst := some 14, g := none, op := AOp.bslice 1 4 [V.str [], V.str [], V.bool false, V.int IntKind.i64 0] [(0, Opd.t 13)] }, [3]),
   ({ dst := some 15, g := none, op := AOp.append (Opd.t 10) (Opd.t 14) 4 48 false }, [0, 4]),
   ({ dst := none, g := none, op := AOp.store (Opd.t 2) (Opd.t 15) 1 }, [5, 5, 0, 1, 2, 3, 4, 5])]
def c36 : AC := (AC.seq (AC.drawn c36d0) (AC.cond (Opd.t 9) (AC.drawn c36d1) AC.skip))
def r36 : List ARes := []
theorem c36_ok : Try.f36.body.bind (cCode Try.prog Try.f36.ntmps) = some c36 := by kernel_rfl
theorem r36_ok : Try.f36.results.toList.mapM (cRes Try.prog Try.f36.ntmps) = some r36 := by kernel_rfl
def c37r0 : List AOper :=
  [{ dst := some 12, g := none, op := AOp.mkm },
   { dst := none, g := none, op := AOp.mupd 0 (Opd.t 12) (Opd.c (V.int IntKind.i64 0)) (Opd.c (V.bool true)) },
   { dst := some 13, g := none, op := AOp.mv (Opd.t 12) },
   { dst := some 5, g := none, op := AOp.mv (Opd.t 13) }]
def c37r1 : List AOper :=
  [{ dst := some 14, g := none, op := AOp.load (Opd.t 1) none },
   { dst := some 15, g := none, op := AOp.lenL (Opd.t 14) },
   { dst := some 16, g := none, op := AOp.mv (Opd.c (V.int IntKind.i64 0)) }]
def c37r2 : List AOper :=
  [{ dst := some 17, g := none, op := AOp.bin BinOp.lss (Opd.t 16) (Opd.t 15) }]
def c37r3 : List AOper :=
  [{ dst := some 18, g := none, op := AOp.idxA (Opd.t 14) (Opd.t 16) none 1 },
   { dst := some 19, g := none, op := AOp.load (Opd.t 18) none },
   { dst := some 7, g := none, op := AOp.mv (Opd.t 19) }]
def c37r4 : List AOper :=
  [{ dst := some 20, g := none, op := AOp.mv (Opd.t 5) },
   { dst := some 21, g := none, op := AOp.mv (Opd.t 0) },
   { dst := some 22, g := none, op := AOp.mv (Opd.t 7) },
   { dst := some 23, g := none, op := AOp.call (Opd.c (V.fn 34 [])) [Opd.t 21, Opd.t 22] },
   { dst := none, g := none, op := AOp.mupd 0 (Opd.t 20) (Opd.t 23) (Opd.c (V.bool true)) }]
def c37r5 : List AOper :=
  [{ dst := some 24, g := none, op := AOp.bin BinOp.add (Opd.t 16) (Opd.c (V.int IntKind.i64 1)) },
   { dst := some 16, g := none, op := AOp.mv (Opd.t 24) }]
def c37l0 : AC := (AC.seq (AC.region c37r2) (AC.seq (AC.cond (Opd.t 17) AC.skip (AC.exit 0)) (AC.seq (AC.block 1 (AC.seq (AC.region c37r3) (AC.region c37r4))) (AC.region c37r5))))
def c37r6 : List AOper :=
  [{ dst := some 8, g := none, op := AOp.mv (Opd.c V.nils) }]
def c37r7 : List AOper :=
  [{ dst := some 25, g := none, op := AOp.mv (Opd.t 0) },
   { dst := some 26, g := none, op := AOp.lenL (Opd.t 25) },
   { dst := some 27, g := none, op := AOp.mv (Opd.c (V.int IntKind.i64 0)) }]
def c37r8 : List AOper :=
  [{ dst := some 28, g := none, op := AOp.bin BinOp.lss (Opd.t 27) (Opd.t 26) }]
def c37r9 : List AOper :=
  [{ dst := some 29, g := none, op := AOp.mv (Opd.t 27) },
   { dst := some 30, g := none, op := AOp.idxA (Opd.t 25) (Opd.t 27) none 4 },
   { dst := some 31, g := none, op := AOp.load (Opd.t 30) (some 4) },
   { dst := some 10, g := none, op := AOp.alloc [V.str [], V.str [], V.bool false, V.int IntKind.i64 0] },
   { dst := some 9, g := none, op := AOp.mv (Opd.t 29) },
   { dst := none, g := none, op := AOp.store (Opd.t 10) (Opd.t 31) 4 }]
def c37r10 : List AOper :=
  [{ dst := some 32, g := none, op := AOp.mv (Opd.t 5) },
   { dst := some 33, g := none, op := AOp.mv (Opd.t 9) },
   { dst := some 34, g := none, op := AOp.mget 0 (Opd.t 32) (Opd.t 33) (V.bool false) false }]
def c37r11 : List AOper :=
  [{ dst := some 35, g := none, op := AOp.mv (Opd.t 8) },
   { dst := some 36, g := none, op := AOp.load (Opd.t 10) (some 4) },
   { dst := some 37, g := none, op := AOp.bslice 1 4 [V.str [], V.str [], V.bool false, V.int IntKind.i64 0] [(0, Opd.t 36)] },
   { dst := some 38, g := none, op := AOp.append (Opd.t 35) (Opd.t 37) 4 48 false },
   { dst := some 8, g := none, op := AOp.mv (Opd.t 38) }]
def c37r12 : List AOper :=
  [{ dst := some 39, g := none, op := AOp.bin BinOp.add (Opd.t 27) (Opd.c (V.int IntKind.i64 1)) },
   { dst := some 27, g := none, op := AOp.mv (Opd.t 39) }]
def c37l1 : AC := (AC.seq (AC.region c37r8) (AC.seq (AC.cond (Opd.t 28) AC.skip (AC.exit 2)) (AC.seq (AC.block 3 (AC.seq (AC.region c37r9) (AC.seq (AC.region c37r10) (AC.cond (Opd.t 34) (AC.region c37r11) AC.skip)))) (AC.region c37r12))))
def c37r13 : List AOper :=
  [{ dst := some 40, g := none, op := AOp.mv (Opd.t 8) },
   { dst := some 41, g := none, op := AOp.mv (Opd.t 8) },
   { dst := some 42, g := none, op := AOp.lenL (Opd.t 41) },
   { dst := some 43, g := none, op := AOp.bin BinOp.sub (Opd.t 42) (Opd.c (V.int IntKind.i64 1)) },
   { dst := some 44, g := none, op := AOp.idxA (Opd.t 40) (Opd.t 43) none 4 },
   { dst := some 45, g := none, op := AOp.load (Opd.t 44) (some 4) },
   { dst := some 11, g := none, op := AOp.alloc [V.str [], V.str [], V.bool false, V.int IntKind.i64 0] },
   { dst := none, g := none, op := AOp.store (Opd.t 11) (Opd.t 45) 4 }]
def c37d0 : List (AOper × List Nat) :=
  [({ dst := some 46, g := none, op := AOp.load (Opd.t 2) none }, []),
   ({ dst := some 47, g := none, op := AOp.mv (Opd.t 46) }, [0]),
   ({ dst := some 48, g := some (47, true), op := AOp.fldA (Opd.t 11) 2 }, [1]),
   ({ dst := some 49, g := some (47, true), op := AOp.load (Opd.t 48) none }, [2, 1]),
   ({ dst := some 50, g := none, op := AOp.pick (Opd.t 47) (Opd.t 49) (Opd.c (V.bool false)) }, [1, 3]),
   ({ dst := some 51, g := none, op := AOp.mv (Opd.t 50) }, [4, 1]),
   ({ dst := some 52, g := some (51, true), op := AOp.load (Opd.t 1) none }, [5]),
   ({ dst := some 53, g := some (51, true), op := AOp.lenL (Opd.t 52) }, [6, 5]),
   ({ dst := some 54, g := some (51, true), op := AOp.bin BinOp.eql (Opd.t 53) (Opd.c (V.int IntKind.i64 0)) }, [7, 5]),
   ({ dst := some 55, g := some (51, true), op := AOp.mv (Opd.t 54) }, [8, 5, 5]),
   ({ dst := some 56, g := some (55, false), op := AOp.fldA (Opd.t 11) 3 }, [9]),
   ({ dst := some 57, g := some (55, false), op := AOp.load (Opd.t 56) none }, [10, 9]),
   ({ dst := some 58, g := some (55, false), op := AOp.load (Opd.t 1) none }, [9]),
   ({ dst := some 59, g := some (55, false), op := AOp.call (Opd.c (V.fn 38 [])) [Opd.t 58] }, [12, 9, 9]),
   ({ dst := some 60, g := some (55, false), op := AOp.bin BinOp.leq (Opd.t 57) (Opd.t 59) }, [11, 13, 9]),
   ({ dst := some 61, g := some (51, true), op := AOp.pick (Opd.t 55) (Opd.c (V.bool true)) (Opd.t 60) }, [9, 14, 5]),
   ({ dst := some 62, g := none, op := AOp.pick (Opd.t 51) (Opd.t 61) (Opd.c (V.bool false)) }, [5, 15])]
def c37r14 : List AOper :=
  [{ dst := some 63, g := none, op := AOp.mv (Opd.t 8) },
   { dst := some 64, g := none, op := AOp.mv (Opd.t 8) },
   { dst := some 65, g := none, op := AOp.lenL (Opd.t 64) },
   { dst := some 66, g := none, op := AOp.bin BinOp.sub (Opd.t 65) (Opd.c (V.int IntKind.i64 1)) },
   { dst := some 67, g := none, op := AOp.slc (Opd.t 63) none (some (Opd.t 66)) none 4 },
   { dst := some 8, g := none, op := AOp.mv (Opd.t 67) }]
def c37r15 : List AOper :=
  [{ dst := some 68, g := none, op := AOp.load (Opd.t 3) none },
   { dst := some 69, g := none, op := AOp.mv (Opd.t 8) },
   { dst := some 70, g := none, op := AOp.append (Opd.t 68) (Opd.t 69) 4 48 false },
   { dst := none, g := none, op := AOp.store (Opd.t 3) (Opd.t 70) 1 }]
def c37 : AC := (AC.seq (AC.region c37r0) (AC.seq (AC.seq (AC.region c37r1) (AC.block 0 (AC.loop c37l0))) (AC.seq (AC.region c37r6) (AC.seq (AC.seq (AC.region c37r7) (AC.block 2 (AC.loop c37l1))) (AC.seq (AC.region c37r13) (AC.seq (AC.seq (AC.drawn c37d0) (AC.cond (Opd.t 62) (AC.region c37r14) AC.skip)) (AC.region c37r15)))))))
def r37 : List ARes := []
theorem c37_ok : Try.f37.body.bind (cCode Try.prog Try.f37.ntmps) = some c37 := by kernel_rfl
theorem r37_ok : Try.f37.results.toList.mapM (cRes Try.prog Try.f37.ntmps) = some r37 := by kernel_rfl
def c38r0 : List AOper :=
  [{ dst := some 2, g := none, op := AOp.mv (Opd.c (V.int IntKind.i64 0)) }]
def c38r1 : List AOper :=
  [{ dst := some 5, g := none, op := AOp.mv (Opd.t 0) },
   { dst := some 6, g := none, op := AOp.lenL (Opd.t 5) },
   { dst := some 7, g := none, op := AOp.bin BinOp.lss (Opd.t 6) (Opd.c (V.int IntKind.i64 1)) }]
def c38r2 : List AOper :=
  [{ dst := some 8, g := none, op := AOp.dead },
   { dst := none, g := none, op := AOp.dead }]
def c38r3 : List AOper :=
  [{ dst := some 9, g := none, op := AOp.mv (Opd.t 0) },
   { dst := some 10, g := none, op := AOp.idxA (Opd.t 9) (Opd.c (V.int IntKind.i64 0)) none 1 },
   { dst := some 11, g := none, op := AOp.load (Opd.t 10) none },
   { dst := some 3, g := none, op := AOp.mv (Opd.t 11) }]
def c38r4 : List AOper :=
  [{ dst := some 4, g := none, op := AOp.mv (Opd.c (V.int IntKind.i64 1)) }]
def c38r5 : List AOper :=
  [{ dst := some 12, g := none, op := AOp.mv (Opd.t 4) },
   { dst := some 13, g := none, op := AOp.mv (Opd.t 0) },
   { dst := some 14, g := none, op := AOp.lenL (Opd.t 13) },
   { dst := some 15, g := none, op := AOp.bin BinOp.lss (Opd.t 12) (Opd.t 14) }]
def c38r6 : List AOper :=
  [{ dst := some 18, g := none, op := AOp.mv (Opd.t 3) },
   { dst := some 19, g := none, op := AOp.mv (Opd.t 0) },
   { dst := some 20, g := none, op := AOp.mv (Opd.t 4) },
   { dst := some 21, g := none, op := AOp.idxA (Opd.t 19) (Opd.t 20) none 1 },
   { dst := some 22, g := none, op := AOp.load (Opd.t 21) none },
   { dst := some 23, g := none, op := AOp.mm false [Opd.t 18, Opd.t 22] },
   { dst := some 3, g := none, op := AOp.mv (Opd.t 23) }]
def c38r7 : List AOper :=
  [{ dst := some 16, g := none, op := AOp.mv (Opd.t 4) },
   { dst := some 17, g := none, op := AOp.bin BinOp.add (Opd.t 16) (Opd.c (V.int IntKind.i64 1)) },
   { dst := some 4, g := none, op := AOp.mv (Opd.t 17) }]
def c38l0 : AC := (AC.seq (AC.seq (AC.region c38r5) (AC.cond (Opd.t 15) AC.skip (AC.exit 0))) (AC.seq (AC.block 1 (AC.region c38r6)) (AC.region c38r7)))
def c38r8 : List AOper :=
  [{ dst := some 24, g := none, op := AOp.mv (Opd.t 3) },
   { dst := some 2, g := none, op := AOp.mv (Opd.t 24) }]
def c38 : AC := (AC.seq (AC.region c38r0) (AC.seq (AC.seq (AC.region c38r1) (AC.cond (Opd.t 7) (AC.region c38r2) AC.skip)) (AC.seq (AC.region c38r3) (AC.seq (AC.seq (AC.region c38r4) (AC.block 0 (AC.loop c38l0))) (AC.seq (AC.region c38r8) AC.ret)))))
def r38 : List ARes := [ARes.tmp 2]
theorem c38_ok : Try.f38.body.bind (cCode Try.prog Try.f38.ntmps) = some c38 := by kernel_rfl
theorem r38_ok : Try.f38.results.toList.mapM (cRes Try.prog Try.f38.ntmps) = some r38 := by kernel_rfl
def c39r0 : List AOper :=
  [{ dst := some 1, g := none, op := AOp.box (Opd.t 0) },
   { dst := some 2, g := none, op := AOp.mv (Opd.c (V.bool false)) }]
def c39r1 : List AOper :=
  [{ dst := some 3, g := none, op := AOp.fldA (Opd.t 1) 0 },
   { dst := some 4, g := none, op := AOp.load (Opd.t 3) none },
   { dst := some 5, g := none, op := AOp.call (Opd.c (V.fn 47 [])) [Opd.t 4] },
   { dst := some 6, g := none, op := AOp.mv (Opd.t 5) },
   { dst := some 7, g := some (6, true), op := AOp.fldA (Opd.t 1) 1 },
   { dst := some 8, g := some (6, true), op := AOp.load (Opd.t 7) none },
   { dst := some 9, g := some (6, true), op := AOp.lenS (Opd.t 8) },
   { dst := some 10, g := some (6, true), op := AOp.bin BinOp.leq (Opd.t 9) (Opd.c (V.int IntKind.i64 256)) },
   { dst := some 11, g := none, op := AOp.pick (Opd.t 6) (Opd.t 10) (Opd.c (V.bool false)) },
   { dst := some 12, g := none, op := AOp.mv (Opd.t 11) },
   { dst := some 13, g := some (12, true), op := AOp.fldA (Opd.t 1) 2 },
   { dst := some 14, g := some (12, true), op := AOp.load (Opd.t 13) none },
   { dst := some 15, g := some (12, true), op := AOp.un UnOp.not (Opd.t 14) },
   { dst := some 16, g := some (12, true), op := AOp.mv (Opd.t 15) },
   { dst := some 17, g := some (16, false), op := AOp.fldA (Opd.t 1) 1 },
   { dst := some 18, g := some (16, false), op := AOp.load (Opd.t 17) none },
   { dst := some 19, g := some (16, false), op := AOp.bin BinOp.eql (Opd.t 18) (Opd.c (V.str [])) },
   { dst := some 20, g := some (12, true), op := AOp.pick (Opd.t 16) (Opd.c (V.bool true)) (Opd.t 19) },
   { dst := some 21, g := none, op := AOp.pick (Opd.t 12) (Opd.t 20) (Opd.c (V.bool false)) },
   { dst := some 22, g := none, op := AOp.mv (Opd.t 21) },
   { dst := some 23, g := some (22, true), op := AOp.fldA (Opd.t 1) 3 },
   { dst := some 24, g := some (22, true), op := AOp.load (Opd.t 23) none },
   { dst := some 25, g := some (22, true), op := AOp.bin BinOp.geq (Opd.t 24) (Opd.c (V.int IntKind.i64 1)) },
   { dst := some 26, g := none, op := AOp.pick (Opd.t 22) (Opd.t 25) (Opd.c (V.bool false)) },
   { dst := some 27, g := none, op := AOp.mv (Opd.t 26) },
   { dst := some 28, g := some (27, true), op := AOp.fldA (Opd.t 1) 3 },
   { dst := some 29, g := some (27, true), op := AOp.load (Opd.t 28) none },
   { dst := some 30, g := some (27, true), op := AOp.bin BinOp.leq (Opd.t 29) (Opd.c (V.int IntKind.i64 1099511627775)) },
   { dst := some 31, g := none, op := AOp.pick (Opd.t 27) (Opd.t 30) (Opd.c (V.bool false)) },
   { dst := some 2, g := none, op := AOp.mv (Opd.t 31) }]
def c39 : AC := (AC.seq (AC.region c39r0) (AC.seq (AC.region c39r1) AC.ret))
def r39 : List ARes := [ARes.tmp 2]
theorem c39_ok : Try.f39.body.bind (cCode Try.prog Try.f39.ntmps) = some c39 := by kernel_rfl
theorem r39_ok : Try.f39.results.toList.mapM (cRes Try.prog Try.f39.ntmps) = some r39 := by kernel_rfl
def c40r0 : List AOper :=
  [{ dst := some 2, g := none, op := AOp.box (Opd.t 0) },
   { dst := some 3, g := none, op := AOp.box (Opd.t 1) },
   { dst := some 4, g := none, op := AOp.mv (Opd.c (V.bool false)) }]
def c40r1 : List AOper :=
  [{ dst := some 5, g := none, op := AOp.fldA (Opd.t 2) 0 },
   { dst := some 6, g := none, op := AOp.load (Opd.t 5) none },
   { dst := some 7, g := none, op := AOp.fldA (Opd.t 3) 0 },
   { dst := some 8, g := none, op := AOp.load (Opd.t 7) none },
   { dst := some 9, g := none, op := AOp.bin BinOp.lss (Opd.t 6) (Opd.t 8) },
   { dst := some 10, g := none, op := AOp.mv (Opd.t 9) },
   { dst := some 11, g := some (10, false), op := AOp.fldA (Opd.t 2) 0 },
   { dst := some 12, g := some (10, false), op := AOp.load (Opd.t 11) none },
   { dst := some 13, g := some (10, false), op := AOp.fldA (Opd.t 3) 0 },
   { dst := some 14, g := some (10, false), op := AOp.load (Opd.t 13) none },
   { dst := some 15, g := some (10, false), op := AOp.bin BinOp.eql (Opd.t 12) (Opd.t 14) },
   { dst := some 16, g := some (10, false), op := AOp.mv (Opd.t 15) },
   { dst := some 17, g := some (16, true), op := AOp.fldA (Opd.t 2) 3 },
   { dst := some 18, g := some (16, true), op := AOp.load (Opd.t 17) none },
   { dst := some 19, g := some (16, true), op := AOp.fldA (Opd.t 3) 3 },
   { dst := some 20, g := some (16, true), op := AOp.load (Opd.t 19) none },
   { dst := some 21, g := some (16, true), op := AOp.bin BinOp.gtr (Opd.t 18) (Opd.t 20) },
   { dst := some 22, g := some (10, false), op := AOp.pick (Opd.t 16) (Opd.t 21) (Opd.c (V.bool false)) },
   { dst := some 23, g := none, op := AOp.pick (Opd.t 10) (Opd.c (V.bool true)) (Opd.t 22) },
   { dst := some 4, g := none, op := AOp.mv (Opd.t 23) }]
def c40 : AC := (AC.seq (AC.region c40r0) (AC.seq (AC.region c40r1) AC.ret))
def r40 : List ARes := [ARes.tmp 4]
theorem c40_ok : Try.f40.body.bind (cCode Try.prog Try.f40.ntmps) = some c40 := by kernel_rfl
theorem r40_ok : Try.f40.results.toList.mapM (cRes Try.prog Try.f40.ntmps) = some r40 := by kernel_rfl
def c41r0 : List AOper :=
  [{ dst := some 4, g := none, op := AOp.mv (Opd.c (V.bool false)) }]
def c41r1 : List AOper :=
  [{ dst := some 5, g := none, op := AOp.mv (Opd.t 0) },
   { dst := some 6, g := none, op := AOp.mv (Opd.t 1) },
   { dst := some 7, g := none, op := AOp.call (Opd.c (V.fn 48 [])) [Opd.t 5, Opd.t 6] },
   { dst := some 8, g := none, op := AOp.bin BinOp.geq (Opd.t 7) (Opd.c (V.int IntKind.i64 0)) },
   { dst := some 4, g := none, op := AOp.mv (Opd.t 8) }]
def c41 : AC := (AC.seq (AC.region c41r0) (AC.seq (AC.region c41r1) AC.ret))
def r41 : List ARes := [ARes.tmp 4]
theorem c41_ok : Try.f41.body.bind (cCode Try.prog Try.f41.ntmps) = some c41 := by kernel_rfl
theorem r41_ok : Try.f41.results.toList.mapM (cRes Try.prog Try.f41.ntmps) = some r41 := by kernel_rfl
def c42r0 : List AOper :=
  [{ dst := some 2, g := none, op := AOp.mv (Opd.c (V.bool false)) }]
def c42r1 : List AOper :=
  [{ dst := some 3, g := none, op := AOp.mv (Opd.t 0) },
   { dst := some 4, g := none, op := AOp.call (Opd.c (V.fn 43 [])) [Opd.t 3] },
   { dst := some 5, g := none, op := AOp.bin BinOp.neq (Opd.t 4) (Opd.c (V.int IntKind.i64 0)) },
   { dst := some 2, g := none, op := AOp.mv (Opd.t 5) }]
def c42 : AC := (AC.seq (AC.region c42r0) (AC.seq (AC.region c42r1) AC.ret))
def r42 : List ARes := [ARes.tmp 2]
theorem c42_ok : Try.f42.body.bind (cCode Try.prog Try.f42.ntmps) = some c42 := by kernel_rfl
theorem r42_ok : Try.f42.results.toList.mapM (cRes Try.prog Try.f42.ntmps) = some r42 := by kernel_rfl
def c43r0 : List AOper :=
  [{ dst := some 2, g := none, op := AOp.mv (Opd.c (V.int IntKind.i64 0)) }]
def c43r1 : List AOper :=
  [{ dst := some 5, g := none, op := AOp.mv (Opd.t 0) },
   { dst := some 6, g := none, op := AOp.lenL (Opd.t 5) },
   { dst := some 7, g := none, op := AOp.bin BinOp.gtr (Opd.t 6) (Opd.c (V.int IntKind.i64 4096)) }]
def c43r2 : List AOper :=
  [{ dst := some 2, g := none, op := AOp.mv (Opd.c (V.int IntKind.i64 1)) }]
def c43r3 : List AOper :=
  [{ dst := some 8, g := none, op := AOp.mv (Opd.t 0) },
   { dst := some 9, g := none, op := AOp.lenL (Opd.t 8) },
   { dst := some 10, g := none, op := AOp.mv (Opd.c (V.int IntKind.i64 0)) }]
def c43r4 : List AOper :=
  [{ dst := some 11, g := none, op := AOp.bin BinOp.lss (Opd.t 10) (Opd.t 9) }]
def c43r5 : List AOper :=
  [{ dst := some 12, g := none, op := AOp.mv (Opd.t 10) },
   { dst := some 13, g := none, op := AOp.idxA (Opd.t 8) (Opd.t 10) none 4 },
   { dst := some 14, g := none, op := AOp.load (Opd.t 13) (some 4) },
   { dst := some 4, g := none, op := AOp.alloc [V.str [], V.str [], V.bool false, V.int IntKind.i64 0] },
   { dst := some 3, g := none, op := AOp.mv (Opd.t 12) },
   { dst := none, g := none, op := AOp.store (Opd.t 4) (Opd.t 14) 4 }]
def c43d0 : List (AOper × List Nat) :=
  [({ dst := some 15, g := none, op := AOp.load (Opd.t 4) (some 4) }, []),
   ({ dst := some 16, g := none, op := AOp.call (Opd.c (V.fn 49 [])) [Opd.t 15] }, [0]),
   ({ dst := some 17, g := none, op := AOp.un UnOp.not (Opd.t 16) }, [1]),
   ({ dst := some 18, g := none, op := AOp.mv (Opd.t 17) }, [2, 1]),
   ({ dst := some 19, g := some (18, false), op := AOp.mv (Opd.t 3) }, [3]),
   ({ dst := some 20, g := some (18, false), op := AOp.bin BinOp.gtr (Opd.t 19) (Opd.c (V.int IntKind.i64 0)) }, [4, 3]),
   ({ dst := some 21, g := some (18, false), op := AOp.mv (Opd.t 20) }, [5, 3, 3]),
   ({ dst := some 22, g := some (21, true), op := AOp.mv (Opd.t 0) }, [6]),
   ({ dst := some 23, g := some (21, true), op := AOp.mv (Opd.t 3) }, [6]),
   ({ dst := some 24, g := some (21, true), op := AOp.bin BinOp.sub (Opd.t 23) (Opd.c (V.int IntKind.i64 1)) }, [8, 6]),
   ({ dst := some 25, g := some (21, true), op := AOp.idxA (Opd.t 22) (Opd.t 24) none 4 }, [7, 9, 6]),
   ({ dst := some 26, g := some (21, true), op := AOp.load (Opd.t 25) (some 4) }, [10, 6]),
   ({ dst := some 27, g := some (21, true), op := AOp.load (Opd.t 4) (some 4) }, [6]),
   ({ dst := some 28, g := some (21, true), op := AOp.call (Opd.c (V.fn 31 [])) [Opd.t 26, Opd.t 27] }, [11, 12, 6, 6]),
   ({ dst := some 29, g := some (21, true), op := AOp.un UnOp.not (Opd.t 28) }, [13, 6]),
   ({ dst := some 30, g := some (18, false), op := AOp.pick (Opd.t 21) (Opd.t 29) (Opd.c (V.bool false)) }, [6, 14, 3]),
   ({ dst := some 31, g := none, op := AOp.pick (Opd.t 18) (Opd.c (V.bool true)) (Opd.t 30) }, [3, 15])]
def c43r6 : List AOper :=
  [{ dst := some 2, g := none, op := AOp.mv (Opd.c (V.int IntKind.i64 1)) }]
def c43r7 : List AOper :=
  [{ dst := some 32, g := none, op := AOp.bin BinOp.add (Opd.t 10) (Opd.c (V.int IntKind.i64 1)) },
   { dst := some 10, g := none, op := AOp.mv (Opd.t 32) }]
def c43l0 : AC := (AC.seq (AC.region c43r4) (AC.seq (AC.cond (Opd.t 11) AC.skip (AC.exit 0)) (AC.seq (AC.block 1 (AC.seq (AC.region c43r5) (AC.seq (AC.drawn c43d0) (AC.cond (Opd.t 31) (AC.seq (AC.region c43r6) AC.ret) AC.skip)))) (AC.region c43r7))))
def c43r8 : List AOper :=
  [{ dst := some 2, g := none, op := AOp.mv (Opd.c (V.int IntKind.i64 0)) }]
def c43 : AC := (AC.seq (AC.region c43r0) (AC.seq (AC.seq (AC.region c43r1) (AC.cond (Opd.t 7) (AC.seq (AC.region c43r2) AC.ret) AC.skip)) (AC.seq (AC.seq (AC.region c43r3) (AC.block 0 (AC.loop c43l0))) (AC.seq (AC.region c43r8) AC.ret))))
def r43 : List ARes := [ARes.tmp 2]
theorem c43_ok : Try.f43.body.bind (cCode Try.prog Try.f43.ntmps) = some c43 := by kernel_rfl
theorem r43_ok : Try.f43.results.toList.mapM (cRes Try.prog Try.f43.ntmps) = some r43 := by kernel_rfl
def c44r0 : List AOper :=
  [{ dst := some 4, g := none, op := AOp.mv (Opd.c (V.int IntKind.i64 0)) }]
def c44r1 : List AOper :=
  [{ dst := some 6, g := none, op := AOp.mv (Opd.t 0) },
   { dst := some 7, g := none, op := AOp.lenL (Opd.t 6) },
   { dst := some 8, g := none, op := AOp.mv (Opd.c (V.int IntKind.i64 0)) }]
def c44r2 : List AOper :=
  [{ dst := some 9, g := none, op := AOp.bin BinOp.lss (Opd.t 8) (Opd.t 7) }]
def c44r3 : List AOper :=
  [{ dst := some 10, g := none, op := AOp.mv (Opd.t 8) },
   { dst := some 5, g := none, op := AOp.mv (Opd.t 10) }]
def c44r4 : List AOper :=
  [{ dst := some 11, g := none, op := AOp.mv (Opd.t 1) },
   { dst := some 12, g := none, op := AOp.mv (Opd.t 0) },
   { dst := some 13, g := none, op := AOp.mv (Opd.t 5) },
   { dst := some 14, g := none, op := AOp.idxA (Opd.t 12) (Opd.t 13) none 4 },
   { dst := some 15, g := none, op := AOp.load (Opd.t 14) (some 4) },
   { dst := some 16, g := none, op := AOp.call (Opd.t 11) [Opd.t 15] }]
def c44r5 : List AOper :=
  [{ dst := some 17, g := none, op := AOp.mv (Opd.t 5) },
   { dst := some 4, g := none, op := AOp.mv (Opd.t 17) }]
def c44r6 : List AOper :=
  [{ dst := some 18, g := none, op := AOp.bin BinOp.add (Opd.t 8) (Opd.c (V.int IntKind.i64 1)) },
   { dst := some 8, g := none, op := AOp.mv (Opd.t 18) }]
def c44l0 : AC := (AC.seq (AC.region c44r2) (AC.seq (AC.cond (Opd.t 9) AC.skip (AC.exit 0)) (AC.seq (AC.block 1 (AC.seq (AC.region c44r3) (AC.seq (AC.region c44r4) (AC.cond (Opd.t 16) (AC.seq (AC.region c44r5) AC.ret) AC.skip)))) (AC.region c44r6))))
def c44r7 : List AOper :=
  [{ dst := some 4, g := none, op := AOp.mv (Opd.c (V.int IntKind.i64 (-1))) }]
def c44 : AC := (AC.seq (AC.region c44r0) (AC.seq (AC.seq (AC.region c44r1) (AC.block 0 (AC.loop c44l0))) (AC.seq (AC.region c44r7) AC.ret)))
def r44 : List ARes := [ARes.tmp 4]
theorem c44_ok : Try.f44.body.bind (cCode Try.prog Try.f44.ntmps) = some c44 := by kernel_rfl
theorem r44_ok : Try.f44.results.toList.mapM (cRes Try.prog Try.f44.ntmps) = some r44 := by kernel_rfl
def c45r0 : List AOper :=
  [{ dst := some 2, g := none, op := AOp.box (Opd.t 0) },
   { dst := some 3, g := none, op := AOp.mv (Opd.c (V.bool false)) }]
def c45d0 : List (AOper × List Nat) :=
  [({ dst := some 4, g := none, op := AOp.fldA (Opd.t 2) 0 }, []),
   ({ dst := some 5, g := none, op := AOp.load (Opd.t 4) none }, [0]),
   ({ dst := some 6, g := none, op := AOp.load (Opd.t 1) none }, []),
   ({ dst := some 7, g := none, op := AOp.idxA (Opd.t 6) (Opd.c (V.int IntKind.i64 0)) none 4 }, [2]),
   ({ dst := some 8, g := none, op := AOp.fldA (Opd.t 7) 0 }, [3]),
   ({ dst := some 9, g := none, op := AOp.load (Opd.t 8) none }, [4]),
   ({ dst := some 10, g := none, op := AOp.bin BinOp.neq (Opd.t 5) (Opd.t 9) }, [1, 5]),
   ({ dst := some 3, g := none, op := AOp.mv (Opd.t 10) }, [6, 0, 1, 2, 3, 4, 5, 6])]
def c45 : AC := (AC.seq (AC.region c45r0) (AC.seq (AC.drawn c45d0) AC.ret))
def r45 : List ARes := [ARes.tmp 3]
theorem c45_ok : Try.f45.body.bind (cCode Try.prog Try.f45.ntmps) = some c45 := by kernel_rfl
theorem r45_ok : Try.f45.results.toList.mapM (cRes Try.prog Try.f45.ntmps) = some r45 := by kernel_rfl
def c46r0 : List AOper :=
  [{ dst := some 2, g := none, op := AOp.box (Opd.t 0) },
   { dst := some 3, g := none, op := AOp.mv (Opd.c (V.bool false)) }]
def c46r1 : List AOper :=
  [{ dst := some 4, g := none, op := AOp.fldA (Opd.t 2) 3 },
   { dst := some 5, g := none, op := AOp.load (Opd.t 4) none },
   { dst := some 6, g := none, op := AOp.load (Opd.t 1) none },
   { dst := some 7, g := none, op := AOp.bin BinOp.leq (Opd.t 5) (Opd.t 6) },
   { dst := some 3, g := none, op := AOp.mv (Opd.t 7) }]
def c46 : AC := (AC.seq (AC.region c46r0) (AC.seq (AC.region c46r1) AC.ret))
def r46 : List ARes := [ARes.tmp 3]
theorem c46_ok : Try.f46.body.bind (cCode Try.prog Try.f46.ntmps) = some c46 := by kernel_rfl
theorem r46_ok : Try.f46.results.toList.mapM (cRes Try.prog Try.f46.ntmps) = some r46 := by kernel_rfl
def c47r0 : List AOper :=
  [{ dst := some 2, g := none, op := AOp.mv (Opd.c (V.bool false)) }]
def c47r1 : List AOper :=
  [{ dst := some 3, g := none, op := AOp.mv (Opd.t 0) },
   { dst := some 4, g := none, op := AOp.lenS (Opd.t 3) },
   { dst := some 5, g := none, op := AOp.bin BinOp.geq (Opd.t 4) (Opd.c (V.int IntKind.i64 1)) },
   { dst := some 6, g := none, op := AOp.mv (Opd.t 5) },
   { dst := some 7, g := some (6, true), op := AOp.mv (Opd.t 0) },
   { dst := some 8, g := some (6, true), op := AOp.lenS (Opd.t 7) },
   { dst := some 9, g := some (6, true), op := AOp.bin BinOp.leq (Opd.t 8) (Opd.c (V.int IntKind.i64 64)) },
   { dst := some 10, g := none, op := AOp.pick (Opd.t 6) (Opd.t 9) (Opd.c (V.bool false)) },
   { dst := some 2, g := none, op := AOp.mv (Opd.t 10) }]
def c47 : AC := (AC.seq (AC.region c47r0) (AC.seq (AC.region c47r1) AC.ret))
def r47 : List ARes := [ARes.tmp 2]
theorem c47_ok : Try.f47.body.bind (cCode Try.prog Try.f47.ntmps) = some c47 := by kernel_rfl
theorem r47_ok : Try.f47.results.toList.mapM (cRes Try.prog Try.f47.ntmps) = some r47 := by kernel_rfl
def c48r0 : List AOper :=
  [{ dst := some 4, g := none, op := AOp.mv (Opd.c (V.int IntKind.i64 0)) }]
def c48r1 : List AOper :=
  [{ dst := some 6, g := none, op := AOp.mv (Opd.t 0) },
   { dst := some 7, g := none, op := AOp.lenL (Opd.t 6) },
   { dst := some 8, g := none, op := AOp.mv (Opd.c (V.int IntKind.i64 0)) }]
def c48r2 : List AOper :=
  [{ dst := some 9, g := none, op := AOp.bin BinOp.lss (Opd.t 8) (Opd.t 7) }]
def c48r3 : List AOper :=
  [{ dst := some 10, g := none, op := AOp.mv (Opd.t 8) },
   { dst := some 5, g := none, op := AOp.mv (Opd.t 10) }]
def c48r4 : List AOper :=
  [{ dst := some 11, g := none, op := AOp.mv (Opd.t 1) },
   { dst := some 12, g := none, op := AOp.mv (Opd.t 0) },
   { dst := some 13, g := none, op := AOp.mv (Opd.t 5) },
   { dst := some 14, g := none, op := AOp.idxA (Opd.t 12) (Opd.t 13) none 1 },
   { dst := some 15, g := none, op := AOp.load (Opd.t 14) none },
   { dst := some 16, g := none, op := AOp.call (Opd.t 11) [Opd.t 15] }]
def c48r5 : List AOper :=
  [{ dst := some 17, g := none, op := AOp.mv (Opd.t 5) },
   { dst := some 4, g := none, op := AOp.mv (Opd.t 17) }]
def c48r6 : List AOper :=
  [{ dst := some 18, g := none, op := AOp.bin BinOp.add (Opd.t 8) (Opd.c (V.int IntKind.i64 1)) },
   { dst := some 8, g := none, op := AOp.mv (Opd.t 18) }]
def c48l0 : AC := (AC.seq (AC.region c48r2) (AC.seq (AC.cond (Opd.t 9) AC.skip (AC.exit 0)) (AC.seq (AC.block 1 (AC.seq (AC.region c48r3) (AC.seq (AC.region c48r4) (AC.cond (Opd.t 16) (AC.seq (AC.region c48r5) AC.ret) AC.skip)))) (AC.region c48r6))))
def c48r7 : List AOper :=
  [{ dst := some 4, g := none, op := AOp.mv (Opd.c (V.int IntKind.i64 (-1))) }]
def c48 : AC := (AC.seq (AC.region c48r0) (AC.seq (AC.seq (AC.region c48r1) (AC.block 0 (AC.loop c48l0))) (AC.seq (AC.region c48r7) AC.ret)))
def r48 : List ARes := [ARes.tmp 4]
theorem c48_ok : Try.f48.body.bind (cCode Try.prog Try.f48.ntmps) = some c48 := by kernel_rfl
theorem r48_ok : Try.f48.results.toList.mapM (cRes Try.prog Try.f48.ntmps) = some r48 := by kernel_rfl
def c49r0 : List AOper :=
  [{ dst := some 1, g := none, op := AOp.box (Opd.t 0) },
   { dst := some 2, g := none, op := AOp.mv (Opd.c (V.bool false)) }]
def c49r1 : List AOper :=
  [{ dst := some 3, g := none, op := AOp.fldA (Opd.t 1) 0 },
   { dst := some 4, g := none, op := AOp.load (Opd.t 3) none },
   { dst := some 5, g := none, op := AOp.call (Opd.c (V.fn 50 [])) [Opd.t 4] },
   { dst := some 6, g := none, op := AOp.mv (Opd.t 5) },
   { dst := some 7, g := some (6, true), op := AOp.fldA (Opd.t 1) 1 },
   { dst := some 8, g := some (6, true), op := AOp.load (Opd.t 7) none },
   { dst := some 9, g := some (6, true), op := AOp.lenS (Opd.t 8) },
   { dst := some 10, g := some (6, true), op := AOp.bin BinOp.leq (Opd.t 9) (Opd.c (V.int IntKind.i64 256)) },
   { dst := some 11, g := none, op := AOp.pick (Opd.t 6) (Opd.t 10) (Opd.c (V.bool false)) },
   { dst := some 12, g := none, op := AOp.mv (Opd.t 11) },
   { dst := some 13, g := some (12, true), op := AOp.fldA (Opd.t 1) 2 },
   { dst := some 14, g := some (12, true), op := AOp.load (Opd.t 13) none },
   { dst := some 15, g := some (12, true), op := AOp.mv (Opd.t 14) },
   { dst := some 16, g := some (15, true), op := AOp.fldA (Opd.t 1) 1 },
   { dst := some 17, g := some (15, true), op := AOp.load (Opd.t 16) none },
   { dst := some 18, g := some (15, true), op := AOp.bin BinOp.neq (Opd.t 17) (Opd.c (V.str [])) },
   { dst := some 19, g := some (12, true), op := AOp.pick (Opd.t 15) (Opd.t 18) (Opd.c (V.bool false)) },
   { dst := some 20, g := some (12, true), op := AOp.un UnOp.not (Opd.t 19) },
   { dst := some 21, g := none, op := AOp.pick (Opd.t 12) (Opd.t 20) (Opd.c (V.bool false)) },
   { dst := some 22, g := none, op := AOp.mv (Opd.t 21) },
   { dst := some 23, g := some (22, true), op := AOp.fldA (Opd.t 1) 3 },
   { dst := some 24, g := some (22, true), op := AOp.load (Opd.t 23) none },
   { dst := some 25, g := some (22, true), op := AOp.bin BinOp.geq (Opd.t 24) (Opd.c (V.int IntKind.i64 1)) },
   { dst := some 26, g := none, op := AOp.pick (Opd.t 22) (Opd.t 25) (Opd.c (V.bool false)) },
   { dst := some 27, g := none, op := AOp.mv (Opd.t 26) },
   { dst := some 28, g := some (27, true), op := AOp.fldA (Opd.t 1) 3 },
   { dst := some 29, g := some (27, true), op := AOp.load (Opd.t 28) none },
   { dst := some 30, g := some (27, true), op := AOp.bin BinOp.leq (Opd.t 29) (Opd.c (V.int IntKind.i64 1099511627775)) },
   { dst := some 31, g := none, op := AOp.pick (Opd.t 27) (Opd.t 30) (Opd.c (V.bool false)) },
   { dst := some 2, g := none, op := AOp.mv (Opd.t 31) }]
def c49 : AC := (AC.seq (AC.region c49r0) (AC.seq (AC.region c49r1) AC.ret))
def r49 : List ARes := [ARes.tmp 2]
theorem c49_ok : Try.f49.body.bind (cCode Try.prog Try.f49.ntmps) = some c49 := by kernel_rfl
theorem r49_ok : Try.f49.results.toList.mapM (cRes Try.prog Try.f49.ntmps) = some r49 := by kernel_rfl
def c50r0 : List AOper :=
  [{ dst := some 2, g := none, op := AOp.mv (Opd.c (V.bool false)) }]
def c50r1 : List AOper :=
  [{ dst := some 3, g := none, op := AOp.mv (Opd.t 0) },
   { dst := some 4, g := none, op := AOp.bin BinOp.neq (Opd.t 3) (Opd.c (V.str [])) },
   { dst := some 5, g := none, op := AOp.mv (Opd.t 4) },
   { dst := some 6, g := some (5, true), op := AOp.mv (Opd.t 0) },
   { dst := some 7, g := some (5, true), op := AOp.lenS (Opd.t 6) },
   { dst := some 8, g := some (5, true), op := AOp.bin BinOp.leq (Opd.t 7) (Opd.c (V.int IntKind.i64 64)) },
   { dst := some 9, g := none, op := AOp.pick (Opd.t 5) (Opd.t 8) (Opd.c (V.bool false)) },
   { dst := some 2, g := none, op := AOp.mv (Opd.t 9) }]
def c50 : AC := (AC.seq (AC.region c50r0) (AC.seq (AC.region c50r1) AC.ret))
def r50 : List ARes := [ARes.tmp 2]
theorem c50_ok : Try.f50.body.bind (cCode Try.prog Try.f50.ntmps) = some c50 := by kernel_rfl
theorem r50_ok : Try.f50.results.toList.mapM (cRes Try.prog Try.f50.ntmps) = some r50 := by kernel_rfl
end Go.Proofs.Ytphpkigfmmanhaa
