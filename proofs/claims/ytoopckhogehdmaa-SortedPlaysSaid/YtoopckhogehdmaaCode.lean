/-
  The abstract code of some functions: written by a program (wip/tools/gen.py); held against the translation by Lean.
-/
import Derived.Test.YtoopckhogehdmaaProg
import Derived.Test.YtoopckhogehdmaaSx7
import Derived.KernelRfl
namespace Go.Proofs.Ytoopckhogehdmaa
open Sx Go
set_option maxRecDepth 100000
def c3r0 : List AOper :=
  [{ dst := some 6, g := none, op := AOp.mv (Opd.c (V.bool false)) }]
def c3r1 : List AOper :=
  [{ dst := some 17, g := none, op := AOp.call (Opd.c (V.fn 7 [])) [] },
   { dst := some 18, g := none, op := AOp.un UnOp.not (Opd.t 17) }]
def c3r2 : List AOper :=
  [{ dst := some 6, g := none, op := AOp.mv (Opd.c (V.bool false)) }]
def c3r3 : List AOper :=
  [{ dst := some 19, g := none, op := AOp.mv (Opd.t 0) },
   { dst := some 20, g := none, op := AOp.lenL (Opd.t 19) },
   { dst := some 21, g := none, op := AOp.bin BinOp.gtr (Opd.t 20) (Opd.c (V.int IntKind.i64 100)) },
   { dst := some 22, g := none, op := AOp.mv (Opd.t 21) },
   { dst := some 23, g := some (22, false), op := AOp.mv (Opd.t 1) },
   { dst := some 24, g := some (22, false), op := AOp.lenS (Opd.t 23) },
   { dst := some 25, g := some (22, false), op := AOp.bin BinOp.gtr (Opd.t 24) (Opd.c (V.int IntKind.i64 512)) },
   { dst := some 26, g := none, op := AOp.pick (Opd.t 22) (Opd.c (V.bool true)) (Opd.t 25) }]
def c3r4 : List AOper :=
  [{ dst := some 27, g := none, op := AOp.call (Opd.c (V.fn 7 [])) [] },
   { dst := some 6, g := none, op := AOp.mv (Opd.t 27) }]
def c3r5 : List AOper :=
  [{ dst := some 7, g := none, op := AOp.mv (Opd.c (V.int IntKind.i64 0)) }]
def c3r6 : List AOper :=
  [{ dst := some 28, g := none, op := AOp.mv (Opd.t 7) },
   { dst := some 29, g := none, op := AOp.mv (Opd.t 0) },
   { dst := some 30, g := none, op := AOp.lenL (Opd.t 29) },
   { dst := some 31, g := none, op := AOp.bin BinOp.lss (Opd.t 28) (Opd.t 30) }]
def c3r7 : List AOper :=
  [{ dst := some 34, g := none, op := AOp.mv (Opd.t 0) },
   { dst := some 35, g := none, op := AOp.mv (Opd.t 7) },
   { dst := some 36, g := none, op := AOp.idxA (Opd.t 34) (Opd.t 35) none 1 },
   { dst := some 37, g := none, op := AOp.load (Opd.t 36) none },
   { dst := some 38, g := none, op := AOp.lenS (Opd.t 37) },
   { dst := some 39, g := none, op := AOp.bin BinOp.gtr (Opd.t 38) (Opd.c (V.int IntKind.i64 512)) }]
def c3r8 : List AOper :=
  [{ dst := some 40, g := none, op := AOp.call (Opd.c (V.fn 7 [])) [] },
   { dst := some 6, g := none, op := AOp.mv (Opd.t 40) }]
def c3r9 : List AOper :=
  [{ dst := some 32, g := none, op := AOp.mv (Opd.t 7) },
   { dst := some 33, g := none, op := AOp.bin BinOp.add (Opd.t 32) (Opd.c (V.int IntKind.i64 1)) },
   { dst := some 7, g := none, op := AOp.mv (Opd.t 33) }]
def c3l0 : AC := (AC.seq (AC.seq (AC.region c3r6) (AC.cond (Opd.t 31) AC.skip (AC.exit 0))) (AC.seq (AC.block 1 (AC.seq (AC.region c3r7) (AC.cond (Opd.t 39) (AC.seq (AC.region c3r8) AC.ret) AC.skip))) (AC.region c3r9)))
def c3r10 : List AOper :=
  [{ dst := some 42, g := none, op := AOp.mv (Opd.t 0) },
   { dst := some 43, g := none, op := AOp.call (Opd.c (V.fn 8 [])) [Opd.t 42] },
   { dst := some 41, g := none, op := AOp.mv (Opd.t 43) },
   { dst := some 44, g := none, op := AOp.ext (Opd.t 41) 0 },
   { dst := some 45, g := none, op := AOp.ext (Opd.t 41) 1 },
   { dst := some 46, g := none, op := AOp.ext (Opd.t 41) 2 },
   { dst := some 9, g := none, op := AOp.alloc [V.nils, V.nils] },
   { dst := some 8, g := none, op := AOp.mv (Opd.t 44) },
   { dst := none, g := none, op := AOp.store (Opd.t 9) (Opd.t 45) 2 },
   { dst := some 10, g := none, op := AOp.mv (Opd.t 46) }]
def c3r11 : List AOper :=
  [{ dst := some 47, g := none, op := AOp.mv (Opd.t 10) },
   { dst := some 48, g := none, op := AOp.un UnOp.not (Opd.t 47) }]
def c3r12 : List AOper :=
  [{ dst := some 6, g := none, op := AOp.mv (Opd.c (V.bool false)) }]
def c3r13 : List AOper :=
  [{ dst := some 49, g := none, op := AOp.mv (Opd.t 2) },
   { dst := some 50, g := none, op := AOp.bin BinOp.and (Opd.t 49) (Opd.c (V.int IntKind.i64 255)) },
   { dst := some 51, g := none, op := AOp.bin BinOp.add (Opd.c (V.int IntKind.i64 1)) (Opd.t 50) },
   { dst := some 11, g := none, op := AOp.alloc [V.int IntKind.i64 0] },
   { dst := none, g := none, op := AOp.store (Opd.t 11) (Opd.t 51) 1 }]
def c3r14 : List AOper :=
  [{ dst := some 52, g := none, op := AOp.load (Opd.t 9) (some 2) },
   { dst := some 53, g := none, op := AOp.mv (Opd.t 1) },
   { dst := some 54, g := none, op := AOp.load (Opd.t 11) none },
   { dst := some 55, g := none, op := AOp.call (Opd.c (V.fn 9 [])) [Opd.t 52, Opd.t 53, Opd.t 54] },
   { dst := some 12, g := none, op := AOp.alloc [V.nils, V.nils] },
   { dst := none, g := none, op := AOp.store (Opd.t 12) (Opd.t 55) 2 }]
def c3r15 : List AOper :=
  [{ dst := some 13, g := none, op := AOp.alloc [V.nils] }]
def c3r16 : List AOper :=
  [{ dst := some 14, g := none, op := AOp.alloc [V.nils] }]
def c3r17 : List AOper :=
  [{ dst := some 56, g := none, op := AOp.mv (Opd.t 8) },
   { dst := some 57, g := none, op := AOp.mv (Opd.t 1) },
   { dst := some 58, g := none, op := AOp.call (Opd.c (V.fn 10 [])) [Opd.t 56, Opd.t 57] }]
def c3r18 : List AOper :=
  [{ dst := some 15, g := none, op := AOp.mv (Opd.t 59) }]
def c3r19 : List AOper :=
  [{ dst := some 16, g := none, op := AOp.mv (Opd.t 60) }]
def c3r20 : List AOper :=
  [{ dst := some 61, g := none, op := AOp.load (Opd.t 13) none },
   { dst := some 62, g := none, op := AOp.mv (Opd.t 15) },
   { dst := some 63, g := none, op := AOp.bslice 1 1 [V.str []] [(0, Opd.t 62)] },
   { dst := some 64, g := none, op := AOp.append (Opd.t 61) (Opd.t 63) 1 16 false },
   { dst := none, g := none, op := AOp.store (Opd.t 13) (Opd.t 64) 1 }]
def c3r21 : List AOper :=
  [{ dst := some 65, g := none, op := AOp.load (Opd.t 14) none },
   { dst := some 66, g := none, op := AOp.mv (Opd.t 16) },
   { dst := some 67, g := none, op := AOp.bslice 1 1 [V.int IntKind.i64 0] [(0, Opd.t 66)] },
   { dst := some 68, g := none, op := AOp.append (Opd.t 65) (Opd.t 67) 1 8 false },
   { dst := none, g := none, op := AOp.store (Opd.t 14) (Opd.t 68) 1 }]
def c3r22 : List AOper :=
  [{ dst := some 69, g := none, op := AOp.load (Opd.t 13) none },
   { dst := some 70, g := none, op := AOp.lenL (Opd.t 69) },
   { dst := some 71, g := none, op := AOp.load (Opd.t 11) none },
   { dst := some 72, g := none, op := AOp.bin BinOp.eql (Opd.t 70) (Opd.t 71) }]
def c3a1 : AC := (AC.seq (AC.region c3r18) (AC.region c3r19))
def c3b1 : AC := (AC.block 3 (AC.seq (AC.region c3r20) (AC.seq (AC.region c3r21) (AC.seq (AC.region c3r22) (AC.cond (Opd.t 72) (AC.exit 2) AC.skip)))))
def c3r23 : List AOper :=
  [{ dst := some 73, g := none, op := AOp.load (Opd.t 13) none },
   { dst := some 74, g := none, op := AOp.fldA (Opd.t 12) 0 },
   { dst := some 75, g := none, op := AOp.load (Opd.t 74) none },
   { dst := some 76, g := none, op := AOp.call (Opd.c (V.fn 11 [])) [Opd.t 73, Opd.t 75] },
   { dst := some 77, g := none, op := AOp.mv (Opd.t 76) },
   { dst := some 78, g := some (77, true), op := AOp.load (Opd.t 14) none },
   { dst := some 79, g := some (77, true), op := AOp.fldA (Opd.t 12) 1 },
   { dst := some 80, g := some (77, true), op := AOp.load (Opd.t 79) none },
   { dst := some 81, g := some (77, true), op := AOp.call (Opd.c (V.fn 12 [])) [Opd.t 78, Opd.t 80] },
   { dst := some 82, g := none, op := AOp.pick (Opd.t 77) (Opd.t 81) (Opd.c (V.bool false)) },
   { dst := some 83, g := none, op := AOp.mv (Opd.t 82) },
   { dst := some 84, g := some (83, true), op := AOp.call (Opd.c (V.fn 7 [])) [] },
   { dst := some 85, g := none, op := AOp.pick (Opd.t 83) (Opd.t 84) (Opd.c (V.bool false)) },
   { dst := some 6, g := none, op := AOp.mv (Opd.t 85) }]
def c3 : AC := (AC.seq (AC.region c3r0) (AC.seq (AC.seq (AC.region c3r1) (AC.cond (Opd.t 18) (AC.seq (AC.region c3r2) AC.ret) AC.skip)) (AC.seq (AC.seq (AC.region c3r3) (AC.cond (Opd.t 26) (AC.seq (AC.region c3r4) AC.ret) AC.skip)) (AC.seq (AC.seq (AC.region c3r5) (AC.block 0 (AC.loop c3l0))) (AC.seq (AC.region c3r10) (AC.seq (AC.seq (AC.region c3r11) (AC.cond (Opd.t 48) (AC.seq (AC.region c3r12) AC.ret) AC.skip)) (AC.seq (AC.region c3r13) (AC.seq (AC.region c3r14) (AC.seq (AC.region c3r15) (AC.seq (AC.region c3r16) (AC.seq (AC.seq (AC.region c3r17) (AC.block 2 (AC.rangeF (Opd.t 58) [59, 60] c3a1 c3b1))) (AC.seq (AC.region c3r23) AC.ret))))))))))))
def r3 : List ARes := [ARes.tmp 6]
theorem c3_ok : Try.f3.body.bind (cCode Try.prog Try.f3.ntmps) = some c3 := by kernel_rfl
theorem r3_ok : Try.f3.results.toList.mapM (cRes Try.prog Try.f3.ntmps) = some r3 := by kernel_rfl
def c4r0 : List AOper :=
  [{ dst := some 2, g := none, op := AOp.mv (Opd.c (V.bool false)) }]
def c4r1 : List AOper :=
  [{ dst := some 14, g := none, op := AOp.mv (Opd.t 0) },
   { dst := some 15, g := none, op := AOp.lenL (Opd.t 14) },
   { dst := some 16, g := none, op := AOp.bin BinOp.gtr (Opd.t 15) (Opd.c (V.int IntKind.i64 100)) }]
def c4r2 : List AOper :=
  [{ dst := some 17, g := none, op := AOp.call (Opd.c (V.fn 7 [])) [] },
   { dst := some 2, g := none, op := AOp.mv (Opd.t 17) }]
def c4r3 : List AOper :=
  [{ dst := some 3, g := none, op := AOp.mv (Opd.c (V.int IntKind.i64 0)) }]
def c4r4 : List AOper :=
  [{ dst := some 18, g := none, op := AOp.mv (Opd.t 3) },
   { dst := some 19, g := none, op := AOp.mv (Opd.t 0) },
   { dst := some 20, g := none, op := AOp.lenL (Opd.t 19) },
   { dst := some 21, g := none, op := AOp.bin BinOp.lss (Opd.t 18) (Opd.t 20) }]
def c4r5 : List AOper :=
  [{ dst := some 24, g := none, op := AOp.mv (Opd.t 0) },
   { dst := some 25, g := none, op := AOp.mv (Opd.t 3) },
   { dst := some 26, g := none, op := AOp.idxA (Opd.t 24) (Opd.t 25) none 1 },
   { dst := some 27, g := none, op := AOp.load (Opd.t 26) none },
   { dst := some 28, g := none, op := AOp.lenS (Opd.t 27) },
   { dst := some 29, g := none, op := AOp.bin BinOp.gtr (Opd.t 28) (Opd.c (V.int IntKind.i64 512)) }]
def c4r6 : List AOper :=
  [{ dst := some 30, g := none, op := AOp.call (Opd.c (V.fn 7 [])) [] },
   { dst := some 2, g := none, op := AOp.mv (Opd.t 30) }]
def c4r7 : List AOper :=
  [{ dst := some 22, g := none, op := AOp.mv (Opd.t 3) },
   { dst := some 23, g := none, op := AOp.bin BinOp.add (Opd.t 22) (Opd.c (V.int IntKind.i64 1)) },
   { dst := some 3, g := none, op := AOp.mv (Opd.t 23) }]
def c4l0 : AC := (AC.seq (AC.seq (AC.region c4r4) (AC.cond (Opd.t 21) AC.skip (AC.exit 0))) (AC.seq (AC.block 1 (AC.seq (AC.region c4r5) (AC.cond (Opd.t 29) (AC.seq (AC.region c4r6) AC.ret) AC.skip))) (AC.region c4r7)))
def c4r8 : List AOper :=
  [{ dst := some 32, g := none, op := AOp.mv (Opd.t 0) },
   { dst := some 33, g := none, op := AOp.call (Opd.c (V.fn 8 [])) [Opd.t 32] },
   { dst := some 31, g := none, op := AOp.mv (Opd.t 33) },
   { dst := some 34, g := none, op := AOp.ext (Opd.t 31) 0 },
   { dst := some 35, g := none, op := AOp.ext (Opd.t 31) 1 },
   { dst := some 36, g := none, op := AOp.ext (Opd.t 31) 2 },
   { dst := some 5, g := none, op := AOp.alloc [V.nils, V.nils] },
   { dst := some 4, g := none, op := AOp.mv (Opd.t 34) },
   { dst := none, g := none, op := AOp.store (Opd.t 5) (Opd.t 35) 2 },
   { dst := some 6, g := none, op := AOp.mv (Opd.t 36) }]
def c4r9 : List AOper :=
  [{ dst := some 37, g := none, op := AOp.mv (Opd.t 6) },
   { dst := some 38, g := none, op := AOp.un UnOp.not (Opd.t 37) }]
def c4r10 : List AOper :=
  [{ dst := some 2, g := none, op := AOp.mv (Opd.c (V.bool false)) }]
def c4r11 : List AOper :=
  [{ dst := some 39, g := none, op := AOp.mv (Opd.t 4) },
   { dst := some 40, g := none, op := AOp.call (Opd.c (V.fn 13 [])) [Opd.t 39, Opd.c (V.str []), Opd.c (V.int IntKind.i64 1000)] },
   { dst := some 7, g := none, op := AOp.mv (Opd.t 40) }]
def c4r12 : List AOper :=
  [{ dst := some 8, g := none, op := AOp.mv (Opd.c (V.int IntKind.i64 0)) }]
def c4r13 : List AOper :=
  [{ dst := some 41, g := none, op := AOp.mv (Opd.t 8) },
   { dst := some 42, g := none, op := AOp.mv (Opd.t 7) },
   { dst := some 43, g := none, op := AOp.lenL (Opd.t 42) },
   { dst := some 44, g := none, op := AOp.bin BinOp.lss (Opd.t 41) (Opd.t 43) }]
def c4d0 : List (AOper × List Nat) :=
  [({ dst := some 47, g := none, op := AOp.mv (Opd.t 8) }, []),
   ({ dst := some 48, g := none, op := AOp.bin BinOp.gtr (Opd.t 47) (Opd.c (V.int IntKind.i64 0)) }, [0]),
   ({ dst := some 49, g := none, op := AOp.mv (Opd.t 48) }, [1]),
   ({ dst := some 50, g := some (49, true), op := AOp.mv (Opd.t 7) }, [2]),
   ({ dst := some 51, g := some (49, true), op := AOp.mv (Opd.t 8) }, [2]),
   ({ dst := some 52, g := some (49, true), op := AOp.bin BinOp.sub (Opd.t 51) (Opd.c (V.int IntKind.i64 1)) }, [4, 2]),
   ({ dst := some 53, g := some (49, true), op := AOp.idxA (Opd.t 50) (Opd.t 52) none 1 }, [3, 5, 2]),
   ({ dst := some 54, g := some (49, true), op := AOp.load (Opd.t 53) none }, [6, 2]),
   ({ dst := some 55, g := some (49, true), op := AOp.mv (Opd.t 7) }, [2]),
   ({ dst := some 56, g := some (49, true), op := AOp.mv (Opd.t 8) }, [2]),
   ({ dst := some 57, g := some (49, true), op := AOp.idxA (Opd.t 55) (Opd.t 56) none 1 }, [8, 9, 2]),
   ({ dst := some 58, g := some (49, true), op := AOp.load (Opd.t 57) none }, [10, 2]),
   ({ dst := some 59, g := some (49, true), op := AOp.bin BinOp.geq (Opd.t 54) (Opd.t 58) }, [7, 11, 2]),
   ({ dst := some 60, g := none, op := AOp.pick (Opd.t 49) (Opd.t 59) (Opd.c (V.bool false)) }, [2, 12])]
def c4r14 : List AOper :=
  [{ dst := some 2, g := none, op := AOp.mv (Opd.c (V.bool false)) }]
def c4r15 : List AOper :=
  [{ dst := some 45, g := none, op := AOp.mv (Opd.t 8) },
   { dst := some 46, g := none, op := AOp.bin BinOp.add (Opd.t 45) (Opd.c (V.int IntKind.i64 1)) },
   { dst := some 8, g := none, op := AOp.mv (Opd.t 46) }]
def c4l1 : AC := (AC.seq (AC.seq (AC.region c4r13) (AC.cond (Opd.t 44) AC.skip (AC.exit 2))) (AC.seq (AC.block 3 (AC.seq (AC.drawn c4d0) (AC.cond (Opd.t 60) (AC.seq (AC.region c4r14) AC.ret) AC.skip))) (AC.region c4r15)))
def c4r16 : List AOper :=
  [{ dst := some 9, g := none, op := AOp.mv (Opd.c (V.int IntKind.i64 0)) }]
def c4r17 : List AOper :=
  [{ dst := some 61, g := none, op := AOp.mv (Opd.t 9) },
   { dst := some 62, g := none, op := AOp.mv (Opd.t 0) },
   { dst := some 63, g := none, op := AOp.lenL (Opd.t 62) },
   { dst := some 64, g := none, op := AOp.bin BinOp.lss (Opd.t 61) (Opd.t 63) }]
def c4r18 : List AOper :=
  [{ dst := some 67, g := none, op := AOp.mv (Opd.t 9) },
   { dst := some 10, g := none, op := AOp.mv (Opd.t 67) }]
def c4r19 : List AOper :=
  [{ dst := some 68, g := none, op := AOp.mv (Opd.t 9) },
   { dst := some 11, g := none, op := AOp.mv (Opd.t 68) }]
def c4r20 : List AOper :=
  [{ dst := some 69, g := none, op := AOp.mv (Opd.t 11) },
   { dst := some 70, g := none, op := AOp.mv (Opd.t 0) },
   { dst := some 71, g := none, op := AOp.lenL (Opd.t 70) },
   { dst := some 72, g := none, op := AOp.bin BinOp.lss (Opd.t 69) (Opd.t 71) }]
def c4d1 : List (AOper × List Nat) :=
  [({ dst := some 75, g := none, op := AOp.mv (Opd.t 0) }, []),
   ({ dst := some 76, g := none, op := AOp.mv (Opd.t 11) }, []),
   ({ dst := some 77, g := none, op := AOp.idxA (Opd.t 75) (Opd.t 76) none 1 }, [0, 1]),
   ({ dst := some 78, g := none, op := AOp.load (Opd.t 77) none }, [2]),
   ({ dst := some 79, g := none, op := AOp.mv (Opd.t 0) }, []),
   ({ dst := some 80, g := none, op := AOp.mv (Opd.t 9) }, []),
   ({ dst := some 81, g := none, op := AOp.idxA (Opd.t 79) (Opd.t 80) none 1 }, [4, 5]),
   ({ dst := some 82, g := none, op := AOp.load (Opd.t 81) none }, [6]),
   ({ dst := some 83, g := none, op := AOp.bin BinOp.eql (Opd.t 78) (Opd.t 82) }, [3, 7])]
def c4r21 : List AOper :=
  [{ dst := some 84, g := none, op := AOp.mv (Opd.t 11) },
   { dst := some 10, g := none, op := AOp.mv (Opd.t 84) }]
def c4r22 : List AOper :=
  [{ dst := some 73, g := none, op := AOp.mv (Opd.t 11) },
   { dst := some 74, g := none, op := AOp.bin BinOp.add (Opd.t 73) (Opd.c (V.int IntKind.i64 1)) },
   { dst := some 11, g := none, op := AOp.mv (Opd.t 74) }]
def c4l3 : AC := (AC.seq (AC.seq (AC.region c4r20) (AC.cond (Opd.t 72) AC.skip (AC.exit 6))) (AC.seq (AC.block 7 (AC.seq (AC.drawn c4d1) (AC.cond (Opd.t 83) (AC.region c4r21) AC.skip))) (AC.region c4r22)))
def c4r23 : List AOper :=
  [{ dst := some 86, g := none, op := AOp.mv (Opd.t 4) },
   { dst := some 87, g := none, op := AOp.mv (Opd.t 0) },
   { dst := some 88, g := none, op := AOp.mv (Opd.t 9) },
   { dst := some 89, g := none, op := AOp.idxA (Opd.t 87) (Opd.t 88) none 1 },
   { dst := some 90, g := none, op := AOp.load (Opd.t 89) none },
   { dst := some 91, g := none, op := AOp.call (Opd.c (V.fn 14 [])) [Opd.t 86, Opd.t 90] },
   { dst := some 85, g := none, op := AOp.mv (Opd.t 91) },
   { dst := some 92, g := none, op := AOp.ext (Opd.t 85) 0 },
   { dst := some 93, g := none, op := AOp.ext (Opd.t 85) 1 },
   { dst := some 12, g := none, op := AOp.mv (Opd.t 92) },
   { dst := some 13, g := none, op := AOp.mv (Opd.t 93) }]
def c4r24 : List AOper :=
  [{ dst := some 94, g := none, op := AOp.mv (Opd.t 12) },
   { dst := some 95, g := none, op := AOp.mv (Opd.t 10) },
   { dst := some 96, g := none, op := AOp.bin BinOp.neq (Opd.t 94) (Opd.t 95) },
   { dst := some 97, g := none, op := AOp.mv (Opd.t 96) },
   { dst := some 98, g := some (97, false), op := AOp.mv (Opd.t 13) },
   { dst := some 99, g := some (97, false), op := AOp.un UnOp.not (Opd.t 98) },
   { dst := some 100, g := none, op := AOp.pick (Opd.t 97) (Opd.c (V.bool true)) (Opd.t 99) }]
def c4r25 : List AOper :=
  [{ dst := some 2, g := none, op := AOp.mv (Opd.c (V.bool false)) }]
def c4r26 : List AOper :=
  [{ dst := some 65, g := none, op := AOp.mv (Opd.t 9) },
   { dst := some 66, g := none, op := AOp.bin BinOp.add (Opd.t 65) (Opd.c (V.int IntKind.i64 1)) },
   { dst := some 9, g := none, op := AOp.mv (Opd.t 66) }]
def c4l2 : AC := (AC.seq (AC.seq (AC.region c4r17) (AC.cond (Opd.t 64) AC.skip (AC.exit 4))) (AC.seq (AC.block 5 (AC.seq (AC.region c4r18) (AC.seq (AC.seq (AC.region c4r19) (AC.block 6 (AC.loop c4l3))) (AC.seq (AC.region c4r23) (AC.seq (AC.region c4r24) (AC.cond (Opd.t 100) (AC.seq (AC.region c4r25) AC.ret) AC.skip)))))) (AC.region c4r26)))
def c4r27 : List AOper :=
  [{ dst := some 101, g := none, op := AOp.mv (Opd.t 7) },
   { dst := some 102, g := none, op := AOp.lenL (Opd.t 101) },
   { dst := some 103, g := none, op := AOp.mv (Opd.t 4) },
   { dst := some 104, g := none, op := AOp.call (Opd.c (V.fn 15 [])) [Opd.t 103] },
   { dst := some 105, g := none, op := AOp.bin BinOp.eql (Opd.t 102) (Opd.t 104) },
   { dst := some 106, g := none, op := AOp.mv (Opd.t 105) },
   { dst := some 107, g := some (106, true), op := AOp.mv (Opd.t 4) },
   { dst := some 108, g := some (106, true), op := AOp.call (Opd.c (V.fn 13 [])) [Opd.t 107, Opd.c (V.str []), Opd.c (V.int IntKind.i64 (-1))] },
   { dst := some 109, g := some (106, true), op := AOp.lenL (Opd.t 108) },
   { dst := some 110, g := some (106, true), op := AOp.bin BinOp.eql (Opd.t 109) (Opd.c (V.int IntKind.i64 0)) },
   { dst := some 111, g := none, op := AOp.pick (Opd.t 106) (Opd.t 110) (Opd.c (V.bool false)) },
   { dst := some 112, g := none, op := AOp.mv (Opd.t 111) },
   { dst := some 113, g := some (112, true), op := AOp.call (Opd.c (V.fn 7 [])) [] },
   { dst := some 114, g := none, op := AOp.pick (Opd.t 112) (Opd.t 113) (Opd.c (V.bool false)) },
   { dst := some 2, g := none, op := AOp.mv (Opd.t 114) }]
def c4 : AC := (AC.seq (AC.region c4r0) (AC.seq (AC.seq (AC.region c4r1) (AC.cond (Opd.t 16) (AC.seq (AC.region c4r2) AC.ret) AC.skip)) (AC.seq (AC.seq (AC.region c4r3) (AC.block 0 (AC.loop c4l0))) (AC.seq (AC.region c4r8) (AC.seq (AC.seq (AC.region c4r9) (AC.cond (Opd.t 38) (AC.seq (AC.region c4r10) AC.ret) AC.skip)) (AC.seq (AC.region c4r11) (AC.seq (AC.seq (AC.region c4r12) (AC.block 2 (AC.loop c4l1))) (AC.seq (AC.seq (AC.region c4r16) (AC.block 4 (AC.loop c4l2))) (AC.seq (AC.region c4r27) AC.ret)))))))))
def r4 : List ARes := [ARes.tmp 2]
theorem c4_ok : Try.f4.body.bind (cCode Try.prog Try.f4.ntmps) = some c4 := by kernel_rfl
theorem r4_ok : Try.f4.results.toList.mapM (cRes Try.prog Try.f4.ntmps) = some r4 := by kernel_rfl
def c5r0 : List AOper :=
  [{ dst := some 2, g := none, op := AOp.mv (Opd.c (V.bool false)) }]
def c5r1 : List AOper :=
  [{ dst := some 17, g := none, op := AOp.call (Opd.c (V.fn 16 [])) [] },
   { dst := some 3, g := none, op := AOp.mv (Opd.t 17) }]
def c5r2 : List AOper :=
  [{ dst := some 18, g := none, op := AOp.mv (Opd.t 3) },
   { dst := some 19, g := none, op := AOp.eq false 1 (Opd.t 18) (Opd.c V.nilp) }]
def c5r3 : List AOper :=
  [{ dst := some 2, g := none, op := AOp.mv (Opd.c (V.bool false)) }]
def c5r4 : List AOper :=
  [{ dst := some 20, g := none, op := AOp.build [V.nils, V.nils] [] },
   { dst := some 4, g := none, op := AOp.alloc [V.nils, V.nils] },
   { dst := none, g := none, op := AOp.store (Opd.t 4) (Opd.t 20) 2 }]
def c5r5 : List AOper :=
  [{ dst := some 5, g := none, op := AOp.mv (Opd.c (V.int IntKind.i64 0)) }]
def c5r6 : List AOper :=
  [{ dst := some 21, g := none, op := AOp.mv (Opd.t 5) },
   { dst := some 22, g := none, op := AOp.mv (Opd.t 0) },
   { dst := some 23, g := none, op := AOp.lenL (Opd.t 22) },
   { dst := some 24, g := none, op := AOp.bin BinOp.lss (Opd.t 21) (Opd.t 23) },
   { dst := some 25, g := none, op := AOp.mv (Opd.t 24) },
   { dst := some 26, g := some (25, true), op := AOp.mv (Opd.t 5) },
   { dst := some 27, g := some (25, true), op := AOp.bin BinOp.lss (Opd.t 26) (Opd.c (V.int IntKind.i64 200)) },
   { dst := some 28, g := none, op := AOp.pick (Opd.t 25) (Opd.t 27) (Opd.c (V.bool false)) }]
def c5r7 : List AOper :=
  [{ dst := some 31, g := none, op := AOp.mv (Opd.t 0) },
   { dst := some 32, g := none, op := AOp.mv (Opd.t 5) },
   { dst := some 33, g := none, op := AOp.idxA (Opd.t 31) (Opd.t 32) none 3 },
   { dst := some 34, g := none, op := AOp.load (Opd.t 33) (some 3) },
   { dst := some 6, g := none, op := AOp.alloc [V.int IntKind.i64 0, V.int IntKind.i64 0, V.str []] },
   { dst := none, g := none, op := AOp.store (Opd.t 6) (Opd.t 34) 3 }]
def c5r8 : List AOper :=
  [{ dst := some 35, g := none, op := AOp.fldA (Opd.t 6) 2 },
   { dst := some 36, g := none, op := AOp.load (Opd.t 35) none },
   { dst := some 37, g := none, op := AOp.lenS (Opd.t 36) },
   { dst := some 38, g := none, op := AOp.bin BinOp.gtr (Opd.t 37) (Opd.c (V.int IntKind.i64 512)) }]
def c5r9 : List AOper :=
  [{ dst := some 39, g := none, op := AOp.call (Opd.c (V.fn 7 [])) [] },
   { dst := some 2, g := none, op := AOp.mv (Opd.t 39) }]
def c5r10 : List AOper :=
  [{ dst := some 40, g := none, op := AOp.fldA (Opd.t 6) 0 },
   { dst := some 41, g := none, op := AOp.load (Opd.t 40) none }]
def c5r11 : List AOper :=
  [{ dst := some 58, g := none, op := AOp.bin BinOp.eql (Opd.t 41) (Opd.c (V.int IntKind.i64 1)) },
   { dst := some 57, g := none, op := AOp.mv (Opd.t 58) }]
def c5r12 : List AOper :=
  [{ dst := some 60, g := none, op := AOp.load (Opd.t 4) (some 2) },
   { dst := some 61, g := none, op := AOp.fldA (Opd.t 6) 2 },
   { dst := some 62, g := none, op := AOp.load (Opd.t 61) none },
   { dst := some 63, g := none, op := AOp.fldA (Opd.t 6) 1 },
   { dst := some 64, g := none, op := AOp.load (Opd.t 63) none },
   { dst := some 65, g := none, op := AOp.call (Opd.c (V.fn 17 [])) [Opd.t 60, Opd.t 62, Opd.t 64] },
   { dst := some 59, g := none, op := AOp.mv (Opd.t 65) },
   { dst := some 66, g := none, op := AOp.ext (Opd.t 59) 0 },
   { dst := some 67, g := none, op := AOp.ext (Opd.t 59) 1 },
   { dst := some 7, g := none, op := AOp.alloc [V.nils, V.nils] },
   { dst := none, g := none, op := AOp.store (Opd.t 7) (Opd.t 66) 2 },
   { dst := some 8, g := none, op := AOp.mv (Opd.t 67) }]
def c5r13 : List AOper :=
  [{ dst := some 68, g := none, op := AOp.mv (Opd.t 3) },
   { dst := some 69, g := none, op := AOp.fldA (Opd.t 6) 2 },
   { dst := some 70, g := none, op := AOp.load (Opd.t 69) none },
   { dst := some 71, g := none, op := AOp.fldA (Opd.t 6) 1 },
   { dst := some 72, g := none, op := AOp.load (Opd.t 71) none },
   { dst := some 73, g := none, op := AOp.call (Opd.c (V.fn 18 [])) [Opd.t 68, Opd.t 70, Opd.t 72] },
   { dst := some 74, g := none, op := AOp.mv (Opd.t 8) },
   { dst := some 75, g := none, op := AOp.eq true 0 (Opd.t 73) (Opd.t 74) }]
def c5r14 : List AOper :=
  [{ dst := some 2, g := none, op := AOp.mv (Opd.c (V.bool false)) }]
def c5r15 : List AOper :=
  [{ dst := some 76, g := none, op := AOp.load (Opd.t 7) (some 2) },
   { dst := none, g := none, op := AOp.store (Opd.t 4) (Opd.t 76) 2 }]
def c5r16 : List AOper :=
  [{ dst := some 78, g := none, op := AOp.bin BinOp.eql (Opd.t 41) (Opd.c (V.int IntKind.i64 2)) },
   { dst := some 77, g := none, op := AOp.mv (Opd.t 78) }]
def c5r17 : List AOper :=
  [{ dst := some 80, g := none, op := AOp.mv (Opd.t 3) },
   { dst := some 81, g := none, op := AOp.fldA (Opd.t 6) 2 },
   { dst := some 82, g := none, op := AOp.load (Opd.t 81) none },
   { dst := some 83, g := none, op := AOp.call (Opd.c (V.fn 14 [])) [Opd.t 80, Opd.t 82] },
   { dst := some 79, g := none, op := AOp.mv (Opd.t 83) },
   { dst := some 84, g := none, op := AOp.ext (Opd.t 79) 0 },
   { dst := some 85, g := none, op := AOp.ext (Opd.t 79) 1 },
   { dst := some 9, g := none, op := AOp.mv (Opd.t 84) },
   { dst := some 10, g := none, op := AOp.mv (Opd.t 85) }]
def c5r18 : List AOper :=
  [{ dst := some 87, g := none, op := AOp.load (Opd.t 4) (some 2) },
   { dst := some 88, g := none, op := AOp.fldA (Opd.t 6) 2 },
   { dst := some 89, g := none, op := AOp.load (Opd.t 88) none },
   { dst := some 90, g := none, op := AOp.call (Opd.c (V.fn 19 [])) [Opd.t 87, Opd.t 89] },
   { dst := some 86, g := none, op := AOp.mv (Opd.t 90) },
   { dst := some 91, g := none, op := AOp.ext (Opd.t 86) 0 },
   { dst := some 92, g := none, op := AOp.ext (Opd.t 86) 1 },
   { dst := some 11, g := none, op := AOp.mv (Opd.t 91) },
   { dst := some 12, g := none, op := AOp.mv (Opd.t 92) }]
def c5r19 : List AOper :=
  [{ dst := some 93, g := none, op := AOp.mv (Opd.t 9) },
   { dst := some 94, g := none, op := AOp.mv (Opd.t 11) },
   { dst := some 95, g := none, op := AOp.bin BinOp.neq (Opd.t 93) (Opd.t 94) },
   { dst := some 96, g := none, op := AOp.mv (Opd.t 95) },
   { dst := some 97, g := some (96, false), op := AOp.mv (Opd.t 10) },
   { dst := some 98, g := some (96, false), op := AOp.mv (Opd.t 12) },
   { dst := some 99, g := some (96, false), op := AOp.eq true 0 (Opd.t 97) (Opd.t 98) },
   { dst := some 100, g := none, op := AOp.pick (Opd.t 96) (Opd.c (V.bool true)) (Opd.t 99) }]
def c5r20 : List AOper :=
  [{ dst := some 2, g := none, op := AOp.mv (Opd.c (V.bool false)) }]
def c5r21 : List AOper :=
  [{ dst := some 102, g := none, op := AOp.bin BinOp.eql (Opd.t 41) (Opd.c (V.int IntKind.i64 3)) },
   { dst := some 101, g := none, op := AOp.mv (Opd.t 102) }]
def c5r22 : List AOper :=
  [{ dst := some 104, g := none, op := AOp.load (Opd.t 4) (some 2) },
   { dst := some 105, g := none, op := AOp.fldA (Opd.t 6) 2 },
   { dst := some 106, g := none, op := AOp.load (Opd.t 105) none },
   { dst := some 107, g := none, op := AOp.call (Opd.c (V.fn 20 [])) [Opd.t 104, Opd.t 106] },
   { dst := some 103, g := none, op := AOp.mv (Opd.t 107) },
   { dst := some 108, g := none, op := AOp.ext (Opd.t 103) 0 },
   { dst := some 109, g := none, op := AOp.ext (Opd.t 103) 1 },
   { dst := some 13, g := none, op := AOp.alloc [V.nils, V.nils] },
   { dst := none, g := none, op := AOp.store (Opd.t 13) (Opd.t 108) 2 },
   { dst := some 14, g := none, op := AOp.mv (Opd.t 109) }]
def c5r23 : List AOper :=
  [{ dst := some 110, g := none, op := AOp.mv (Opd.t 3) },
   { dst := some 111, g := none, op := AOp.fldA (Opd.t 6) 2 },
   { dst := some 112, g := none, op := AOp.load (Opd.t 111) none },
   { dst := some 113, g := none, op := AOp.call (Opd.c (V.fn 21 [])) [Opd.t 110, Opd.t 112] },
   { dst := some 114, g := none, op := AOp.mv (Opd.t 14) },
   { dst := some 115, g := none, op := AOp.eq true 0 (Opd.t 113) (Opd.t 114) }]
def c5r24 : List AOper :=
  [{ dst := some 2, g := none, op := AOp.mv (Opd.c (V.bool false)) }]
def c5r25 : List AOper :=
  [{ dst := some 116, g := none, op := AOp.load (Opd.t 13) (some 2) },
   { dst := none, g := none, op := AOp.store (Opd.t 4) (Opd.t 116) 2 }]
def c5d0 : List (AOper × List Nat) :=
  [({ dst := some 42, g := none, op := AOp.mv (Opd.t 3) }, []),
   ({ dst := some 43, g := none, op := AOp.fldA (Opd.t 6) 2 }, []),
   ({ dst := some 44, g := none, op := AOp.load (Opd.t 43) none }, [1]),
   ({ dst := some 45, g := none, op := AOp.fldA (Opd.t 6) 1 }, []),
   ({ dst := some 46, g := none, op := AOp.load (Opd.t 45) none }, [3]),
   ({ dst := some 47, g := none, op := AOp.call (Opd.c (V.fn 13 [])) [Opd.t 42, Opd.t 44, Opd.t 46] }, [0, 2, 4]),
   ({ dst := some 48, g := none, op := AOp.load (Opd.t 4) (some 2) }, []),
   ({ dst := some 49, g := none, op := AOp.fldA (Opd.t 6) 2 }, []),
   ({ dst := some 50, g := none, op := AOp.load (Opd.t 49) none }, [7]),
   ({ dst := some 51, g := none, op := AOp.fldA (Opd.t 6) 1 }, []),
   ({ dst := some 52, g := none, op := AOp.load (Opd.t 51) none }, [9]),
   ({ dst := some 53, g := none, op := AOp.call (Opd.c (V.fn 9 [])) [Opd.t 48, Opd.t 50, Opd.t 52] }, [6, 8, 10, 5]),
   ({ dst := some 54, g := none, op := AOp.fld (Opd.t 53) 0 none }, [11]),
   ({ dst := some 55, g := none, op := AOp.call (Opd.c (V.fn 11 [])) [Opd.t 47, Opd.t 54] }, [5, 12, 11]),
   ({ dst := some 56, g := none, op := AOp.un UnOp.not (Opd.t 55) }, [13])]
def c5r26 : List AOper :=
  [{ dst := some 2, g := none, op := AOp.mv (Opd.c (V.bool false)) }]
def c5r27 : List AOper :=
  [{ dst := some 118, g := none, op := AOp.mv (Opd.t 3) },
   { dst := some 119, g := none, op := AOp.call (Opd.c (V.fn 22 [])) [Opd.t 118] },
   { dst := some 117, g := none, op := AOp.mv (Opd.t 119) },
   { dst := some 120, g := none, op := AOp.ext (Opd.t 117) 0 },
   { dst := some 121, g := none, op := AOp.ext (Opd.t 117) 1 },
   { dst := some 15, g := none, op := AOp.mv (Opd.t 120) },
   { dst := some 16, g := none, op := AOp.mv (Opd.t 121) }]
def c5d1 : List (AOper × List Nat) :=
  [({ dst := some 122, g := none, op := AOp.mv (Opd.t 3) }, []),
   ({ dst := some 123, g := none, op := AOp.call (Opd.c (V.fn 15 [])) [Opd.t 122] }, [0]),
   ({ dst := some 124, g := none, op := AOp.fldA (Opd.t 4) 0 }, []),
   ({ dst := some 125, g := none, op := AOp.load (Opd.t 124) none }, [2]),
   ({ dst := some 126, g := none, op := AOp.lenL (Opd.t 125) }, [3]),
   ({ dst := some 127, g := none, op := AOp.bin BinOp.neq (Opd.t 123) (Opd.t 126) }, [1, 4]),
   ({ dst := some 128, g := none, op := AOp.mv (Opd.t 127) }, [5, 1]),
   ({ dst := some 129, g := some (128, false), op := AOp.mv (Opd.t 16) }, [6]),
   ({ dst := some 130, g := some (128, false), op := AOp.fldA (Opd.t 4) 0 }, [6]),
   ({ dst := some 131, g := some (128, false), op := AOp.load (Opd.t 130) none }, [8, 6]),
   ({ dst := some 132, g := some (128, false), op := AOp.lenL (Opd.t 131) }, [9, 6]),
   ({ dst := some 133, g := some (128, false), op := AOp.bin BinOp.gtr (Opd.t 132) (Opd.c (V.int IntKind.i64 0)) }, [10, 6]),
   ({ dst := some 134, g := some (128, false), op := AOp.eq true 0 (Opd.t 129) (Opd.t 133) }, [7, 11, 6]),
   ({ dst := some 135, g := none, op := AOp.pick (Opd.t 128) (Opd.c (V.bool true)) (Opd.t 134) }, [6, 12]),
   ({ dst := some 136, g := none, op := AOp.mv (Opd.t 135) }, [13, 6]),
   ({ dst := some 137, g := some (136, false), op := AOp.mv (Opd.t 16) }, [14]),
   ({ dst := some 138, g := some (136, false), op := AOp.mv (Opd.t 137) }, [15, 14, 14]),
   ({ dst := some 139, g := some (138, true), op := AOp.mv (Opd.t 15) }, [16]),
   ({ dst := some 140, g := some (138, true), op := AOp.fldA (Opd.t 4) 0 }, [16]),
   ({ dst := some 141, g := some (138, true), op := AOp.load (Opd.t 140) none }, [18, 16]),
   ({ dst := some 142, g := some (138, true), op := AOp.idxA (Opd.t 141) (Opd.c (V.int IntKind.i64 0)) none 1 }, [19, 16]),
   ({ dst := some 143, g := some (138, true), op := AOp.load (Opd.t 142) none }, [20, 16]),
   ({ dst := some 144, g := some (138, true), op := AOp.bin BinOp.neq (Opd.t 139) (Opd.t 143) }, [17, 21, 16]),
   ({ dst := some 145, g := some (136, false), op := AOp.pick (Opd.t 138) (Opd.t 144) (Opd.c (V.bool false)) }, [16, 22, 14]),
   ({ dst := some 146, g := none, op := AOp.pick (Opd.t 136) (Opd.c (V.bool true)) (Opd.t 145) }, [14, 23]),
   ({ dst := some 147, g := none, op := AOp.mv (Opd.t 146) }, [24, 16]),
   ({ dst := some 148, g := some (147, false), op := AOp.mv (Opd.t 16) }, [25]),
   ({ dst := some 149, g := some (147, false), op := AOp.un UnOp.not (Opd.t 148) }, [26, 25]),
   ({ dst := some 150, g := some (147, false), op := AOp.mv (Opd.t 149) }, [27, 25, 25]),
   ({ dst := some 151, g := some (150, true), op := AOp.mv (Opd.t 15) }, [28]),
   ({ dst := some 152, g := some (150, true), op := AOp.bin BinOp.neq (Opd.t 151) (Opd.c (V.str [])) }, [29, 28]),
   ({ dst := some 153, g := some (147, false), op := AOp.pick (Opd.t 150) (Opd.t 152) (Opd.c (V.bool false)) }, [28, 30, 25]),
   ({ dst := some 154, g := none, op := AOp.pick (Opd.t 147) (Opd.c (V.bool true)) (Opd.t 153) }, [25, 31])]
def c5r28 : List AOper :=
  [{ dst := some 2, g := none, op := AOp.mv (Opd.c (V.bool false)) }]
def c5r29 : List AOper :=
  [{ dst := some 29, g := none, op := AOp.mv (Opd.t 5) },
   { dst := some 30, g := none, op := AOp.bin BinOp.add (Opd.t 29) (Opd.c (V.int IntKind.i64 1)) },
   { dst := some 5, g := none, op := AOp.mv (Opd.t 30) }]
def c5l0 : AC := (AC.seq (AC.seq (AC.region c5r6) (AC.cond (Opd.t 28) AC.skip (AC.exit 0))) (AC.seq (AC.block 1 (AC.seq (AC.region c5r7) (AC.seq (AC.seq (AC.region c5r8) (AC.cond (Opd.t 38) (AC.seq (AC.region c5r9) AC.ret) AC.skip)) (AC.seq (AC.seq (AC.region c5r10) (AC.block 2 (AC.seq (AC.region c5r11) (AC.cond (Opd.t 57) (AC.seq (AC.region c5r12) (AC.seq (AC.seq (AC.region c5r13) (AC.cond (Opd.t 75) (AC.seq (AC.region c5r14) AC.ret) AC.skip)) (AC.region c5r15))) (AC.seq (AC.region c5r16) (AC.cond (Opd.t 77) (AC.seq (AC.region c5r17) (AC.seq (AC.region c5r18) (AC.seq (AC.region c5r19) (AC.cond (Opd.t 100) (AC.seq (AC.region c5r20) AC.ret) AC.skip)))) (AC.seq (AC.region c5r21) (AC.cond (Opd.t 101) (AC.seq (AC.region c5r22) (AC.seq (AC.seq (AC.region c5r23) (AC.cond (Opd.t 115) (AC.seq (AC.region c5r24) AC.ret) AC.skip)) (AC.region c5r25))) (AC.seq (AC.drawn c5d0) (AC.cond (Opd.t 56) (AC.seq (AC.region c5r26) AC.ret) AC.skip)))))))))) (AC.seq (AC.region c5r27) (AC.seq (AC.drawn c5d1) (AC.cond (Opd.t 154) (AC.seq (AC.region c5r28) AC.ret) AC.skip))))))) (AC.region c5r29)))
def c5r30 : List AOper :=
  [{ dst := some 155, g := none, op := AOp.call (Opd.c (V.fn 7 [])) [] },
   { dst := some 2, g := none, op := AOp.mv (Opd.t 155) }]
def c5 : AC := (AC.seq (AC.region c5r0) (AC.seq (AC.region c5r1) (AC.seq (AC.seq (AC.region c5r2) (AC.cond (Opd.t 19) (AC.seq (AC.region c5r3) AC.ret) AC.skip)) (AC.seq (AC.region c5r4) (AC.seq (AC.seq (AC.region c5r5) (AC.block 0 (AC.loop c5l0))) (AC.seq (AC.region c5r30) AC.ret))))))
def r5 : List ARes := [ARes.tmp 2]
theorem c5_ok : Try.f5.body.bind (cCode Try.prog Try.f5.ntmps) = some c5 := by kernel_rfl
theorem r5_ok : Try.f5.results.toList.mapM (cRes Try.prog Try.f5.ntmps) = some r5 := by kernel_rfl
def c6r0 : List AOper :=
  [{ dst := some 4, g := none, op := AOp.mv (Opd.c (V.bool false)) }]
def c6r1 : List AOper :=
  [{ dst := some 10, g := none, op := AOp.mv (Opd.t 0) },
   { dst := some 11, g := none, op := AOp.lenL (Opd.t 10) },
   { dst := some 12, g := none, op := AOp.bin BinOp.gtr (Opd.t 11) (Opd.c (V.int IntKind.i64 60)) },
   { dst := some 13, g := none, op := AOp.mv (Opd.t 12) },
   { dst := some 14, g := some (13, false), op := AOp.mv (Opd.t 1) },
   { dst := some 15, g := some (13, false), op := AOp.lenS (Opd.t 14) },
   { dst := some 16, g := some (13, false), op := AOp.bin BinOp.gtr (Opd.t 15) (Opd.c (V.int IntKind.i64 512)) },
   { dst := some 17, g := none, op := AOp.pick (Opd.t 13) (Opd.c (V.bool true)) (Opd.t 16) }]
def c6r2 : List AOper :=
  [{ dst := some 18, g := none, op := AOp.call (Opd.c (V.fn 7 [])) [] },
   { dst := some 4, g := none, op := AOp.mv (Opd.t 18) }]
def c6r3 : List AOper :=
  [{ dst := some 19, g := none, op := AOp.call (Opd.c (V.fn 23 [])) [] },
   { dst := some 5, g := none, op := AOp.mv (Opd.t 19) }]
def c6r4 : List AOper :=
  [{ dst := some 20, g := none, op := AOp.mv (Opd.t 5) },
   { dst := some 21, g := none, op := AOp.eq false 1 (Opd.t 20) (Opd.c V.nilp) }]
def c6r5 : List AOper :=
  [{ dst := some 4, g := none, op := AOp.mv (Opd.c (V.bool false)) }]
def c6r6 : List AOper :=
  [{ dst := some 6, g := none, op := AOp.mv (Opd.c (V.bool false)) }]
def c6r7 : List AOper :=
  [{ dst := some 7, g := none, op := AOp.mv (Opd.c (V.int IntKind.i64 0)) }]
def c6r8 : List AOper :=
  [{ dst := some 22, g := none, op := AOp.mv (Opd.t 7) },
   { dst := some 23, g := none, op := AOp.mv (Opd.t 0) },
   { dst := some 24, g := none, op := AOp.lenL (Opd.t 23) },
   { dst := some 25, g := none, op := AOp.bin BinOp.lss (Opd.t 22) (Opd.t 24) }]
def c6r9 : List AOper :=
  [{ dst := some 28, g := none, op := AOp.mv (Opd.t 0) },
   { dst := some 29, g := none, op := AOp.mv (Opd.t 7) },
   { dst := some 30, g := none, op := AOp.idxA (Opd.t 28) (Opd.t 29) none 1 },
   { dst := some 31, g := none, op := AOp.load (Opd.t 30) none },
   { dst := some 32, g := none, op := AOp.lenS (Opd.t 31) },
   { dst := some 33, g := none, op := AOp.bin BinOp.gtr (Opd.t 32) (Opd.c (V.int IntKind.i64 512)) }]
def c6r10 : List AOper :=
  [{ dst := some 34, g := none, op := AOp.call (Opd.c (V.fn 7 [])) [] },
   { dst := some 4, g := none, op := AOp.mv (Opd.t 34) }]
def c6d0 : List (AOper × List Nat) :=
  [({ dst := some 35, g := none, op := AOp.mv (Opd.t 5) }, []),
   ({ dst := some 36, g := none, op := AOp.mv (Opd.t 0) }, []),
   ({ dst := some 37, g := none, op := AOp.mv (Opd.t 7) }, []),
   ({ dst := some 38, g := none, op := AOp.idxA (Opd.t 36) (Opd.t 37) none 1 }, [1, 2]),
   ({ dst := some 39, g := none, op := AOp.load (Opd.t 38) none }, [3]),
   ({ dst := some 40, g := none, op := AOp.mv (Opd.t 0) }, []),
   ({ dst := some 41, g := none, op := AOp.mv (Opd.t 7) }, []),
   ({ dst := some 42, g := none, op := AOp.idxA (Opd.t 40) (Opd.t 41) none 1 }, [5, 6]),
   ({ dst := some 43, g := none, op := AOp.load (Opd.t 42) none }, [7]),
   ({ dst := some 44, g := none, op := AOp.bin BinOp.add (Opd.t 43) (Opd.c (V.str [33])) }, [8]),
   ({ dst := some 45, g := none, op := AOp.call (Opd.c (V.fn 24 [])) [Opd.t 35, Opd.t 39, Opd.t 44] }, [0, 4, 9])]
def c6r11 : List AOper :=
  [{ dst := some 46, g := none, op := AOp.mv (Opd.t 6) },
   { dst := some 47, g := none, op := AOp.mv (Opd.t 46) },
   { dst := some 48, g := some (47, false), op := AOp.mv (Opd.t 0) },
   { dst := some 49, g := some (47, false), op := AOp.mv (Opd.t 7) },
   { dst := some 50, g := some (47, false), op := AOp.idxA (Opd.t 48) (Opd.t 49) none 1 },
   { dst := some 51, g := some (47, false), op := AOp.load (Opd.t 50) none },
   { dst := some 52, g := some (47, false), op := AOp.mv (Opd.t 1) },
   { dst := some 53, g := some (47, false), op := AOp.bin BinOp.eql (Opd.t 51) (Opd.t 52) },
   { dst := some 54, g := none, op := AOp.pick (Opd.t 47) (Opd.c (V.bool true)) (Opd.t 53) },
   { dst := some 6, g := none, op := AOp.mv (Opd.t 54) }]
def c6r12 : List AOper :=
  [{ dst := some 26, g := none, op := AOp.mv (Opd.t 7) },
   { dst := some 27, g := none, op := AOp.bin BinOp.add (Opd.t 26) (Opd.c (V.int IntKind.i64 1)) },
   { dst := some 7, g := none, op := AOp.mv (Opd.t 27) }]
def c6l0 : AC := (AC.seq (AC.seq (AC.region c6r8) (AC.cond (Opd.t 25) AC.skip (AC.exit 0))) (AC.seq (AC.block 1 (AC.seq (AC.seq (AC.region c6r9) (AC.cond (Opd.t 33) (AC.seq (AC.region c6r10) AC.ret) AC.skip)) (AC.seq (AC.drawn c6d0) (AC.region c6r11)))) (AC.region c6r12)))
def c6r13 : List AOper :=
  [{ dst := some 56, g := none, op := AOp.mv (Opd.t 5) },
   { dst := some 57, g := none, op := AOp.mv (Opd.t 1) },
   { dst := some 58, g := none, op := AOp.call (Opd.c (V.fn 25 [])) [Opd.t 56, Opd.t 57] },
   { dst := some 55, g := none, op := AOp.mv (Opd.t 58) },
   { dst := some 59, g := none, op := AOp.ext (Opd.t 55) 0 },
   { dst := some 60, g := none, op := AOp.ext (Opd.t 55) 1 },
   { dst := some 8, g := none, op := AOp.mv (Opd.t 59) },
   { dst := some 9, g := none, op := AOp.mv (Opd.t 60) }]
def c6r14 : List AOper :=
  [{ dst := some 61, g := none, op := AOp.mv (Opd.t 9) },
   { dst := some 62, g := none, op := AOp.mv (Opd.t 6) },
   { dst := some 63, g := none, op := AOp.eq true 0 (Opd.t 61) (Opd.t 62) },
   { dst := some 64, g := none, op := AOp.mv (Opd.t 63) },
   { dst := some 65, g := some (64, false), op := AOp.mv (Opd.t 9) },
   { dst := some 66, g := some (64, false), op := AOp.mv (Opd.t 65) },
   { dst := some 67, g := some (66, true), op := AOp.mv (Opd.t 8) },
   { dst := some 68, g := some (66, true), op := AOp.mv (Opd.t 1) },
   { dst := some 69, g := some (66, true), op := AOp.bin BinOp.add (Opd.t 68) (Opd.c (V.str [33])) },
   { dst := some 70, g := some (66, true), op := AOp.bin BinOp.neq (Opd.t 67) (Opd.t 69) },
   { dst := some 71, g := some (64, false), op := AOp.pick (Opd.t 66) (Opd.t 70) (Opd.c (V.bool false)) },
   { dst := some 72, g := none, op := AOp.pick (Opd.t 64) (Opd.c (V.bool true)) (Opd.t 71) },
   { dst := some 73, g := none, op := AOp.mv (Opd.t 72) },
   { dst := some 74, g := some (73, false), op := AOp.mv (Opd.t 9) },
   { dst := some 75, g := some (73, false), op := AOp.un UnOp.not (Opd.t 74) },
   { dst := some 76, g := some (73, false), op := AOp.mv (Opd.t 75) },
   { dst := some 77, g := some (76, true), op := AOp.mv (Opd.t 8) },
   { dst := some 78, g := some (76, true), op := AOp.bin BinOp.neq (Opd.t 77) (Opd.c (V.str [])) },
   { dst := some 79, g := some (73, false), op := AOp.pick (Opd.t 76) (Opd.t 78) (Opd.c (V.bool false)) },
   { dst := some 80, g := none, op := AOp.pick (Opd.t 73) (Opd.c (V.bool true)) (Opd.t 79) }]
def c6r15 : List AOper :=
  [{ dst := some 4, g := none, op := AOp.mv (Opd.c (V.bool false)) }]
def c6r16 : List AOper :=
  [{ dst := some 81, g := none, op := AOp.mv (Opd.t 5) },
   { dst := some 82, g := none, op := AOp.mv (Opd.t 1) },
   { dst := some 83, g := none, op := AOp.call (Opd.c (V.fn 26 [])) [Opd.t 81, Opd.t 82] },
   { dst := some 84, g := none, op := AOp.mv (Opd.t 6) },
   { dst := some 85, g := none, op := AOp.eq false 0 (Opd.t 83) (Opd.t 84) },
   { dst := some 86, g := none, op := AOp.mv (Opd.t 85) },
   { dst := some 87, g := some (86, true), op := AOp.mv (Opd.t 5) },
   { dst := some 88, g := some (86, true), op := AOp.mv (Opd.t 1) },
   { dst := some 89, g := some (86, true), op := AOp.call (Opd.c (V.fn 26 [])) [Opd.t 87, Opd.t 88] },
   { dst := some 90, g := some (86, true), op := AOp.un UnOp.not (Opd.t 89) },
   { dst := some 91, g := none, op := AOp.pick (Opd.t 86) (Opd.t 90) (Opd.c (V.bool false)) },
   { dst := some 92, g := none, op := AOp.mv (Opd.t 91) },
   { dst := some 93, g := some (92, true), op := AOp.call (Opd.c (V.fn 7 [])) [] },
   { dst := some 94, g := none, op := AOp.pick (Opd.t 92) (Opd.t 93) (Opd.c (V.bool false)) },
   { dst := some 4, g := none, op := AOp.mv (Opd.t 94) }]
def c6 : AC := (AC.seq (AC.region c6r0) (AC.seq (AC.seq (AC.region c6r1) (AC.cond (Opd.t 17) (AC.seq (AC.region c6r2) AC.ret) AC.skip)) (AC.seq (AC.region c6r3) (AC.seq (AC.seq (AC.region c6r4) (AC.cond (Opd.t 21) (AC.seq (AC.region c6r5) AC.ret) AC.skip)) (AC.seq (AC.region c6r6) (AC.seq (AC.seq (AC.region c6r7) (AC.block 0 (AC.loop c6l0))) (AC.seq (AC.region c6r13) (AC.seq (AC.seq (AC.region c6r14) (AC.cond (Opd.t 80) (AC.seq (AC.region c6r15) AC.ret) AC.skip)) (AC.seq (AC.region c6r16) AC.ret)))))))))
def r6 : List ARes := [ARes.tmp 4]
theorem c6_ok : Try.f6.body.bind (cCode Try.prog Try.f6.ntmps) = some c6 := by kernel_rfl
theorem r6_ok : Try.f6.results.toList.mapM (cRes Try.prog Try.f6.ntmps) = some r6 := by kernel_rfl
def c7r0 : List AOper :=
  [{ dst := some 0, g := none, op := AOp.mv (Opd.c (V.bool false)) }]
def c7r1 : List AOper :=
  [{ dst := some 6, g := none, op := AOp.call (Opd.c (V.fn 16 [])) [] },
   { dst := some 1, g := none, op := AOp.mv (Opd.t 6) }]
def c7r2 : List AOper :=
  [{ dst := some 7, g := none, op := AOp.mv (Opd.t 1) },
   { dst := some 8, g := none, op := AOp.eq false 1 (Opd.t 7) (Opd.c V.nilp) },
   { dst := some 9, g := none, op := AOp.mv (Opd.t 8) },
   { dst := some 10, g := some (9, false), op := AOp.mv (Opd.t 1) },
   { dst := some 11, g := some (9, false), op := AOp.call (Opd.c (V.fn 18 [])) [Opd.t 10, Opd.c (V.str [98]), Opd.c (V.int IntKind.i64 7)] },
   { dst := some 12, g := none, op := AOp.pick (Opd.t 9) (Opd.c (V.bool true)) (Opd.t 11) },
   { dst := some 13, g := none, op := AOp.mv (Opd.t 12) },
   { dst := some 14, g := some (13, false), op := AOp.mv (Opd.t 1) },
   { dst := some 15, g := some (13, false), op := AOp.call (Opd.c (V.fn 18 [])) [Opd.t 14, Opd.c (V.str [97]), Opd.c (V.int IntKind.i64 3)] },
   { dst := some 16, g := none, op := AOp.pick (Opd.t 13) (Opd.c (V.bool true)) (Opd.t 15) },
   { dst := some 17, g := none, op := AOp.mv (Opd.t 16) },
   { dst := some 18, g := some (17, false), op := AOp.mv (Opd.t 1) },
   { dst := some 19, g := some (17, false), op := AOp.call (Opd.c (V.fn 18 [])) [Opd.t 18, Opd.c (V.str [98]), Opd.c (V.int IntKind.i64 8)] },
   { dst := some 20, g := some (17, false), op := AOp.un UnOp.not (Opd.t 19) },
   { dst := some 21, g := none, op := AOp.pick (Opd.t 17) (Opd.c (V.bool true)) (Opd.t 20) }]
def c7r3 : List AOper :=
  [{ dst := some 0, g := none, op := AOp.mv (Opd.c (V.bool false)) }]
def c7r4 : List AOper :=
  [{ dst := some 23, g := none, op := AOp.mv (Opd.t 1) },
   { dst := some 24, g := none, op := AOp.call (Opd.c (V.fn 14 [])) [Opd.t 23, Opd.c (V.str [98])] },
   { dst := some 22, g := none, op := AOp.mv (Opd.t 24) },
   { dst := some 25, g := none, op := AOp.ext (Opd.t 22) 0 },
   { dst := some 26, g := none, op := AOp.ext (Opd.t 22) 1 },
   { dst := some 2, g := none, op := AOp.mv (Opd.t 25) },
   { dst := some 3, g := none, op := AOp.mv (Opd.t 26) }]
def c7r5 : List AOper :=
  [{ dst := some 28, g := none, op := AOp.mv (Opd.t 1) },
   { dst := some 29, g := none, op := AOp.call (Opd.c (V.fn 22 [])) [Opd.t 28] },
   { dst := some 27, g := none, op := AOp.mv (Opd.t 29) },
   { dst := some 30, g := none, op := AOp.ext (Opd.t 27) 0 },
   { dst := some 31, g := none, op := AOp.ext (Opd.t 27) 1 },
   { dst := some 4, g := none, op := AOp.mv (Opd.t 30) },
   { dst := some 5, g := none, op := AOp.mv (Opd.t 31) }]
def c7r6 : List AOper :=
  [{ dst := some 32, g := none, op := AOp.mv (Opd.t 2) },
   { dst := some 33, g := none, op := AOp.bin BinOp.eql (Opd.t 32) (Opd.c (V.int IntKind.i64 8)) },
   { dst := some 34, g := none, op := AOp.mv (Opd.t 33) },
   { dst := some 35, g := some (34, true), op := AOp.mv (Opd.t 3) },
   { dst := some 36, g := none, op := AOp.pick (Opd.t 34) (Opd.t 35) (Opd.c (V.bool false)) },
   { dst := some 37, g := none, op := AOp.mv (Opd.t 36) },
   { dst := some 38, g := some (37, true), op := AOp.mv (Opd.t 4) },
   { dst := some 39, g := some (37, true), op := AOp.bin BinOp.eql (Opd.t 38) (Opd.c (V.str [97])) },
   { dst := some 40, g := none, op := AOp.pick (Opd.t 37) (Opd.t 39) (Opd.c (V.bool false)) },
   { dst := some 41, g := none, op := AOp.mv (Opd.t 40) },
   { dst := some 42, g := some (41, true), op := AOp.mv (Opd.t 5) },
   { dst := some 43, g := none, op := AOp.pick (Opd.t 41) (Opd.t 42) (Opd.c (V.bool false)) },
   { dst := some 44, g := none, op := AOp.mv (Opd.t 43) },
   { dst := some 45, g := some (44, true), op := AOp.mv (Opd.t 1) },
   { dst := some 46, g := some (44, true), op := AOp.call (Opd.c (V.fn 15 [])) [Opd.t 45] },
   { dst := some 47, g := some (44, true), op := AOp.bin BinOp.eql (Opd.t 46) (Opd.c (V.int IntKind.i64 2)) },
   { dst := some 48, g := none, op := AOp.pick (Opd.t 44) (Opd.t 47) (Opd.c (V.bool false)) },
   { dst := some 49, g := none, op := AOp.mv (Opd.t 48) },
   { dst := some 50, g := some (49, true), op := AOp.mv (Opd.t 1) },
   { dst := some 51, g := some (49, true), op := AOp.call (Opd.c (V.fn 13 [])) [Opd.t 50, Opd.c (V.str []), Opd.c (V.int IntKind.i64 9)] },
   { dst := some 52, g := some (49, true), op := AOp.bslice 2 1 [V.str []] [(0, Opd.c (V.str [97])), (1, Opd.c (V.str [98]))] },
   { dst := some 53, g := some (49, true), op := AOp.call (Opd.c (V.fn 11 [])) [Opd.t 51, Opd.t 52] },
   { dst := some 54, g := none, op := AOp.pick (Opd.t 49) (Opd.t 53) (Opd.c (V.bool false)) },
   { dst := some 0, g := none, op := AOp.mv (Opd.t 54) }]
def c7 : AC := (AC.seq (AC.region c7r0) (AC.seq (AC.region c7r1) (AC.seq (AC.seq (AC.region c7r2) (AC.cond (Opd.t 21) (AC.seq (AC.region c7r3) AC.ret) AC.skip)) (AC.seq (AC.region c7r4) (AC.seq (AC.region c7r5) (AC.seq (AC.region c7r6) AC.ret))))))
def r7 : List ARes := [ARes.tmp 0]
theorem c7_ok : Try.f7.body.bind (cCode Try.prog Try.f7.ntmps) = some c7 := by kernel_rfl
theorem r7_ok : Try.f7.results.toList.mapM (cRes Try.prog Try.f7.ntmps) = some r7 := by kernel_rfl
def c8r0 : List AOper :=
  [{ dst := some 2, g := none, op := AOp.mv (Opd.c V.nilp) },
   { dst := some 3, g := none, op := AOp.alloc [V.nils, V.nils] },
   { dst := some 4, g := none, op := AOp.mv (Opd.c (V.bool false)) }]
def c8r1 : List AOper :=
  [{ dst := some 10, g := none, op := AOp.call (Opd.c (V.fn 16 [])) [] },
   { dst := some 5, g := none, op := AOp.mv (Opd.t 10) }]
def c8r2 : List AOper :=
  [{ dst := some 11, g := none, op := AOp.build [V.nils, V.nils] [] },
   { dst := some 6, g := none, op := AOp.alloc [V.nils, V.nils] },
   { dst := none, g := none, op := AOp.store (Opd.t 6) (Opd.t 11) 2 }]
def c8r3 : List AOper :=
  [{ dst := some 7, g := none, op := AOp.mv (Opd.c (V.int IntKind.i64 0)) }]
def c8r4 : List AOper :=
  [{ dst := some 12, g := none, op := AOp.mv (Opd.t 7) },
   { dst := some 13, g := none, op := AOp.mv (Opd.t 0) },
   { dst := some 14, g := none, op := AOp.lenL (Opd.t 13) },
   { dst := some 15, g := none, op := AOp.bin BinOp.lss (Opd.t 12) (Opd.t 14) },
   { dst := some 16, g := none, op := AOp.mv (Opd.t 15) },
   { dst := some 17, g := some (16, true), op := AOp.mv (Opd.t 5) },
   { dst := some 18, g := some (16, true), op := AOp.eq true 1 (Opd.t 17) (Opd.c V.nilp) },
   { dst := some 19, g := none, op := AOp.pick (Opd.t 16) (Opd.t 18) (Opd.c (V.bool false)) }]
def c8r5 : List AOper :=
  [{ dst := some 22, g := none, op := AOp.mv (Opd.t 5) },
   { dst := some 23, g := none, op := AOp.mv (Opd.t 0) },
   { dst := some 24, g := none, op := AOp.mv (Opd.t 7) },
   { dst := some 25, g := none, op := AOp.idxA (Opd.t 23) (Opd.t 24) none 1 },
   { dst := some 26, g := none, op := AOp.load (Opd.t 25) none },
   { dst := some 27, g := none, op := AOp.mv (Opd.t 7) },
   { dst := some 28, g := none, op := AOp.call (Opd.c (V.fn 18 [])) [Opd.t 22, Opd.t 26, Opd.t 27] }]
def c8d0 : List (AOper × List Nat) :=
  [({ dst := some 30, g := none, op := AOp.load (Opd.t 6) (some 2) }, []),
   ({ dst := some 31, g := none, op := AOp.mv (Opd.t 0) }, []),
   ({ dst := some 32, g := none, op := AOp.mv (Opd.t 7) }, []),
   ({ dst := some 33, g := none, op := AOp.idxA (Opd.t 31) (Opd.t 32) none 1 }, [1, 2]),
   ({ dst := some 34, g := none, op := AOp.load (Opd.t 33) none }, [3]),
   ({ dst := some 35, g := none, op := AOp.mv (Opd.t 7) }, []),
   ({ dst := some 36, g := none, op := AOp.call (Opd.c (V.fn 17 [])) [Opd.t 30, Opd.t 34, Opd.t 35] }, [0, 4, 5]),
   ({ dst := some 29, g := none, op := AOp.mv (Opd.t 36) }, [6]),
   ({ dst := some 37, g := none, op := AOp.ext (Opd.t 29) 0 }, [7]),
   ({ dst := some 38, g := none, op := AOp.ext (Opd.t 29) 1 }, [7]),
   ({ dst := some 8, g := none, op := AOp.alloc [V.nils, V.nils] }, []),
   ({ dst := none, g := none, op := AOp.store (Opd.t 8) (Opd.t 37) 2 }, [10, 8, 6, 0, 1, 2, 3, 4, 5, 6, 7, 8, 10]),
   ({ dst := some 9, g := none, op := AOp.mv (Opd.t 38) }, [9, 11, 0, 1, 2, 3, 4, 5, 6, 7, 8, 9, 10, 11])]
def c8r6 : List AOper :=
  [{ dst := some 39, g := none, op := AOp.load (Opd.t 8) (some 2) },
   { dst := none, g := none, op := AOp.store (Opd.t 6) (Opd.t 39) 2 }]
def c8r7 : List AOper :=
  [{ dst := some 20, g := none, op := AOp.mv (Opd.t 7) },
   { dst := some 21, g := none, op := AOp.bin BinOp.add (Opd.t 20) (Opd.c (V.int IntKind.i64 1)) },
   { dst := some 7, g := none, op := AOp.mv (Opd.t 21) }]
def c8l0 : AC := (AC.seq (AC.seq (AC.region c8r4) (AC.cond (Opd.t 19) AC.skip (AC.exit 0))) (AC.seq (AC.block 1 (AC.seq (AC.region c8r5) (AC.seq (AC.drawn c8d0) (AC.region c8r6)))) (AC.region c8r7)))
def c8d1 : List (AOper × List Nat) :=
  [({ dst := some 40, g := none, op := AOp.mv (Opd.t 5) }, []),
   ({ dst := some 41, g := none, op := AOp.load (Opd.t 6) (some 2) }, []),
   ({ dst := some 42, g := none, op := AOp.mv (Opd.t 5) }, []),
   ({ dst := some 43, g := none, op := AOp.eq true 1 (Opd.t 42) (Opd.c V.nilp) }, [2]),
   ({ dst := some 2, g := none, op := AOp.mv (Opd.t 40) }, [0, 0]),
   ({ dst := none, g := none, op := AOp.store (Opd.t 3) (Opd.t 41) 2 }, [1, 4, 0, 1, 4]),
   ({ dst := some 4, g := none, op := AOp.mv (Opd.t 43) }, [3, 5, 0, 1, 2, 3, 4, 5])]
def c8 : AC := (AC.seq (AC.region c8r0) (AC.seq (AC.region c8r1) (AC.seq (AC.region c8r2) (AC.seq (AC.seq (AC.region c8r3) (AC.block 0 (AC.loop c8l0))) (AC.seq (AC.drawn c8d1) AC.ret)))))
def r8 : List ARes := [ARes.tmp 2, ARes.cell 3 (some 2), ARes.tmp 4]
theorem c8_ok : Try.f8.body.bind (cCode Try.prog Try.f8.ntmps) = some c8 := by kernel_rfl
theorem r8_ok : Try.f8.results.toList.mapM (cRes Try.prog Try.f8.ntmps) = some r8 := by kernel_rfl
def c9r0 : List AOper :=
  [{ dst := some 3, g := none, op := AOp.box (Opd.t 0) },
   { dst := some 6, g := none, op := AOp.alloc [V.nils, V.nils] }]
def c9r1 : List AOper :=
  [{ dst := some 11, g := none, op := AOp.load (Opd.t 3) (some 2) },
   { dst := some 12, g := none, op := AOp.mv (Opd.t 1) },
   { dst := some 13, g := none, op := AOp.call (Opd.c (V.fn 27 [])) [Opd.t 11, Opd.t 12] },
   { dst := some 10, g := none, op := AOp.mv (Opd.t 13) },
   { dst := some 14, g := none, op := AOp.ext (Opd.t 10) 0 },
   { dst := some 15, g := none, op := AOp.ext (Opd.t 10) 1 },
   { dst := some 7, g := none, op := AOp.mv (Opd.t 14) },
   { dst := some 8, g := none, op := AOp.mv (Opd.t 15) }]
def c9r2 : List AOper :=
  [{ dst := some 16, g := none, op := AOp.mv (Opd.t 2) },
   { dst := some 17, g := none, op := AOp.fldA (Opd.t 3) 0 },
   { dst := some 18, g := none, op := AOp.load (Opd.t 17) none },
   { dst := some 19, g := none, op := AOp.lenL (Opd.t 18) },
   { dst := some 20, g := none, op := AOp.mv (Opd.t 7) },
   { dst := some 21, g := none, op := AOp.bin BinOp.sub (Opd.t 19) (Opd.t 20) },
   { dst := some 22, g := none, op := AOp.mm false [Opd.t 16, Opd.t 21] },
   { dst := some 23, g := none, op := AOp.mm true [Opd.c (V.int IntKind.i64 0), Opd.t 22] },
   { dst := some 9, g := none, op := AOp.mv (Opd.t 23) }]
def c9d0 : List (AOper × List Nat) :=
  [({ dst := some 24, g := none, op := AOp.fldA (Opd.t 3) 0 }, []),
   ({ dst := some 25, g := none, op := AOp.load (Opd.t 24) none }, [0]),
   ({ dst := some 26, g := none, op := AOp.mv (Opd.t 7) }, []),
   ({ dst := some 27, g := none, op := AOp.mv (Opd.t 7) }, []),
   ({ dst := some 28, g := none, op := AOp.mv (Opd.t 9) }, []),
   ({ dst := some 29, g := none, op := AOp.bin BinOp.add (Opd.t 27) (Opd.t 28) }, [3, 4]),
   ({ dst := some 30, g := none, op := AOp.slc (Opd.t 25) (some (Opd.t 26)) (some (Opd.t 29)) none 1 }, [1, 2, 5]),
   ({ dst := some 31, g := none, op := AOp.fldA (Opd.t 3) 1 }, []),
   ({ dst := some 32, g := none, op := AOp.load (Opd.t 31) none }, [7]),
   ({ dst := some 33, g := none, op := AOp.mv (Opd.t 7) }, []),
   ({ dst := some 34, g := none, op := AOp.mv (Opd.t 7) }, []),
   ({ dst := some 35, g := none, op := AOp.mv (Opd.t 9) }, []),
   ({ dst := some 36, g := none, op := AOp.bin BinOp.add (Opd.t 34) (Opd.t 35) }, [10, 11]),
   ({ dst := some 37, g := none, op := AOp.slc (Opd.t 32) (some (Opd.t 33)) (some (Opd.t 36)) none 1 }, [8, 9, 12]),
   ({ dst := some 38, g := none, op := AOp.build [V.nils, V.nils] [(0, 1, Opd.t 30), (1, 1, Opd.t 37)] }, [6, 13]),
   ({ dst := none, g := none, op := AOp.store (Opd.t 6) (Opd.t 38) 2 }, [14, 0, 1, 2, 3, 4, 5, 6, 7, 8, 9, 10, 11, 12, 13, 14])]
def c9 : AC := (AC.seq (AC.region c9r0) (AC.seq (AC.region c9r1) (AC.seq (AC.region c9r2) (AC.seq (AC.drawn c9d0) AC.ret))))
def r9 : List ARes := [ARes.cell 6 (some 2)]
theorem c9_ok : Try.f9.body.bind (cCode Try.prog Try.f9.ntmps) = some c9 := by kernel_rfl
theorem r9_ok : Try.f9.results.toList.mapM (cRes Try.prog Try.f9.ntmps) = some r9 := by kernel_rfl
def c10r0 : List AOper :=
  [{ dst := some 2, g := none, op := AOp.box (Opd.t 0) },
   { dst := some 3, g := none, op := AOp.box (Opd.t 1) },
   { dst := some 4, g := none, op := AOp.mv (Opd.c V.nilf) }]
def c10r1 : List AOper :=
  [{ dst := some 5, g := none, op := AOp.mkf 28 [Opd.t 2, Opd.t 3] },
   { dst := some 4, g := none, op := AOp.mv (Opd.t 5) }]
def c10 : AC := (AC.seq (AC.region c10r0) (AC.seq (AC.region c10r1) AC.ret))
def r10 : List ARes := [ARes.tmp 4]
theorem c10_ok : Try.f10.body.bind (cCode Try.prog Try.f10.ntmps) = some c10 := by kernel_rfl
theorem r10_ok : Try.f10.results.toList.mapM (cRes Try.prog Try.f10.ntmps) = some r10 := by kernel_rfl
def c11r0 : List AOper :=
  [{ dst := some 4, g := none, op := AOp.mv (Opd.c (V.bool false)) }]
def c11r1 : List AOper :=
  [{ dst := some 6, g := none, op := AOp.mv (Opd.t 0) },
   { dst := some 7, g := none, op := AOp.lenL (Opd.t 6) },
   { dst := some 8, g := none, op := AOp.mv (Opd.t 1) },
   { dst := some 9, g := none, op := AOp.lenL (Opd.t 8) },
   { dst := some 10, g := none, op := AOp.bin BinOp.neq (Opd.t 7) (Opd.t 9) }]
def c11r2 : List AOper :=
  [{ dst := some 4, g := none, op := AOp.mv (Opd.c (V.bool false)) }]
def c11r3 : List AOper :=
  [{ dst := some 5, g := none, op := AOp.mv (Opd.c (V.int IntKind.i64 0)) }]
def c11r4 : List AOper :=
  [{ dst := some 11, g := none, op := AOp.mv (Opd.t 5) },
   { dst := some 12, g := none, op := AOp.mv (Opd.t 0) },
   { dst := some 13, g := none, op := AOp.lenL (Opd.t 12) },
   { dst := some 14, g := none, op := AOp.bin BinOp.lss (Opd.t 11) (Opd.t 13) }]
def c11d0 : List (AOper × List Nat) :=
  [({ dst := some 17, g := none, op := AOp.mv (Opd.t 0) }, []),
   ({ dst := some 18, g := none, op := AOp.mv (Opd.t 5) }, []),
   ({ dst := some 19, g := none, op := AOp.idxA (Opd.t 17) (Opd.t 18) none 1 }, [0, 1]),
   ({ dst := some 20, g := none, op := AOp.load (Opd.t 19) none }, [2]),
   ({ dst := some 21, g := none, op := AOp.mv (Opd.t 1) }, []),
   ({ dst := some 22, g := none, op := AOp.mv (Opd.t 5) }, []),
   ({ dst := some 23, g := none, op := AOp.idxA (Opd.t 21) (Opd.t 22) none 1 }, [4, 5]),
   ({ dst := some 24, g := none, op := AOp.load (Opd.t 23) none }, [6]),
   ({ dst := some 25, g := none, op := AOp.bin BinOp.neq (Opd.t 20) (Opd.t 24) }, [3, 7])]
def c11r5 : List AOper :=
  [{ dst := some 4, g := none, op := AOp.mv (Opd.c (V.bool false)) }]
def c11r6 : List AOper :=
  [{ dst := some 15, g := none, op := AOp.mv (Opd.t 5) },
   { dst := some 16, g := none, op := AOp.bin BinOp.add (Opd.t 15) (Opd.c (V.int IntKind.i64 1)) },
   { dst := some 5, g := none, op := AOp.mv (Opd.t 16) }]
def c11l0 : AC := (AC.seq (AC.seq (AC.region c11r4) (AC.cond (Opd.t 14) AC.skip (AC.exit 0))) (AC.seq (AC.block 1 (AC.seq (AC.drawn c11d0) (AC.cond (Opd.t 25) (AC.seq (AC.region c11r5) AC.ret) AC.skip))) (AC.region c11r6)))
def c11r7 : List AOper :=
  [{ dst := some 4, g := none, op := AOp.mv (Opd.c (V.bool true)) }]
def c11 : AC := (AC.seq (AC.region c11r0) (AC.seq (AC.seq (AC.region c11r1) (AC.cond (Opd.t 10) (AC.seq (AC.region c11r2) AC.ret) AC.skip)) (AC.seq (AC.seq (AC.region c11r3) (AC.block 0 (AC.loop c11l0))) (AC.seq (AC.region c11r7) AC.ret))))
def r11 : List ARes := [ARes.tmp 4]
theorem c11_ok : Try.f11.body.bind (cCode Try.prog Try.f11.ntmps) = some c11 := by kernel_rfl
theorem r11_ok : Try.f11.results.toList.mapM (cRes Try.prog Try.f11.ntmps) = some r11 := by kernel_rfl
def c12r0 : List AOper :=
  [{ dst := some 4, g := none, op := AOp.mv (Opd.c (V.bool false)) }]
def c12r1 : List AOper :=
  [{ dst := some 6, g := none, op := AOp.mv (Opd.t 0) },
   { dst := some 7, g := none, op := AOp.lenL (Opd.t 6) },
   { dst := some 8, g := none, op := AOp.mv (Opd.t 1) },
   { dst := some 9, g := none, op := AOp.lenL (Opd.t 8) },
   { dst := some 10, g := none, op := AOp.bin BinOp.neq (Opd.t 7) (Opd.t 9) }]
def c12r2 : List AOper :=
  [{ dst := some 4, g := none, op := AOp.mv (Opd.c (V.bool false)) }]
def c12r3 : List AOper :=
  [{ dst := some 5, g := none, op := AOp.mv (Opd.c (V.int IntKind.i64 0)) }]
def c12r4 : List AOper :=
  [{ dst := some 11, g := none, op := AOp.mv (Opd.t 5) },
   { dst := some 12, g := none, op := AOp.mv (Opd.t 0) },
   { dst := some 13, g := none, op := AOp.lenL (Opd.t 12) },
   { dst := some 14, g := none, op := AOp.bin BinOp.lss (Opd.t 11) (Opd.t 13) }]
def c12d0 : List (AOper × List Nat) :=
  [({ dst := some 17, g := none, op := AOp.mv (Opd.t 0) }, []),
   ({ dst := some 18, g := none, op := AOp.mv (Opd.t 5) }, []),
   ({ dst := some 19, g := none, op := AOp.idxA (Opd.t 17) (Opd.t 18) none 1 }, [0, 1]),
   ({ dst := some 20, g := none, op := AOp.load (Opd.t 19) none }, [2]),
   ({ dst := some 21, g := none, op := AOp.mv (Opd.t 1) }, []),
   ({ dst := some 22, g := none, op := AOp.mv (Opd.t 5) }, []),
   ({ dst := some 23, g := none, op := AOp.idxA (Opd.t 21) (Opd.t 22) none 1 }, [4, 5]),
   ({ dst := some 24, g := none, op := AOp.load (Opd.t 23) none }, [6]),
   ({ dst := some 25, g := none, op := AOp.bin BinOp.neq (Opd.t 20) (Opd.t 24) }, [3, 7])]
def c12r5 : List AOper :=
  [{ dst := some 4, g := none, op := AOp.mv (Opd.c (V.bool false)) }]
def c12r6 : List AOper :=
  [{ dst := some 15, g := none, op := AOp.mv (Opd.t 5) },
   { dst := some 16, g := none, op := AOp.bin BinOp.add (Opd.t 15) (Opd.c (V.int IntKind.i64 1)) },
   { dst := some 5, g := none, op := AOp.mv (Opd.t 16) }]
def c12l0 : AC := (AC.seq (AC.seq (AC.region c12r4) (AC.cond (Opd.t 14) AC.skip (AC.exit 0))) (AC.seq (AC.block 1 (AC.seq (AC.drawn c12d0) (AC.cond (Opd.t 25) (AC.seq (AC.region c12r5) AC.ret) AC.skip))) (AC.region c12r6)))
def c12r7 : List AOper :=
  [{ dst := some 4, g := none, op := AOp.mv (Opd.c (V.bool true)) }]
def c12 : AC := (AC.seq (AC.region c12r0) (AC.seq (AC.seq (AC.region c12r1) (AC.cond (Opd.t 10) (AC.seq (AC.region c12r2) AC.ret) AC.skip)) (AC.seq (AC.seq (AC.region c12r3) (AC.block 0 (AC.loop c12l0))) (AC.seq (AC.region c12r7) AC.ret))))
def r12 : List ARes := [ARes.tmp 4]
theorem c12_ok : Try.f12.body.bind (cCode Try.prog Try.f12.ntmps) = some c12 := by kernel_rfl
theorem r12_ok : Try.f12.results.toList.mapM (cRes Try.prog Try.f12.ntmps) = some r12 := by kernel_rfl
def c13r0 : List AOper :=
  [{ dst := some 5, g := none, op := AOp.box (Opd.t 2) },
   { dst := some 6, g := none, op := AOp.mv (Opd.c V.nils) }]
def c13r1 : List AOper :=
  [{ dst := some 7, g := none, op := AOp.alloc [V.nils] }]
def c13r2 : List AOper :=
  [{ dst := some 9, g := none, op := AOp.load (Opd.t 5) none },
   { dst := some 10, g := none, op := AOp.bin BinOp.lss (Opd.t 9) (Opd.c (V.int IntKind.i64 1)) }]
def c13r3 : List AOper :=
  [{ dst := some 6, g := none, op := AOp.mv (Opd.c V.nils) }]
def c13r4 : List AOper :=
  [{ dst := some 11, g := none, op := AOp.mv (Opd.t 0) },
   { dst := some 12, g := none, op := AOp.mv (Opd.t 1) },
   { dst := some 13, g := none, op := AOp.call (Opd.c (V.fn 10 [])) [Opd.t 11, Opd.t 12] }]
def c13r5 : List AOper :=
  [{ dst := some 8, g := none, op := AOp.mv (Opd.t 14) }]
def c13r6 : List AOper :=
  [{ dst := some 16, g := none, op := AOp.load (Opd.t 7) none },
   { dst := some 17, g := none, op := AOp.mv (Opd.t 8) },
   { dst := some 18, g := none, op := AOp.bslice 1 1 [V.str []] [(0, Opd.t 17)] },
   { dst := some 19, g := none, op := AOp.append (Opd.t 16) (Opd.t 18) 1 16 false },
   { dst := none, g := none, op := AOp.store (Opd.t 7) (Opd.t 19) 1 }]
def c13r7 : List AOper :=
  [{ dst := some 20, g := none, op := AOp.load (Opd.t 7) none },
   { dst := some 21, g := none, op := AOp.lenL (Opd.t 20) },
   { dst := some 22, g := none, op := AOp.load (Opd.t 5) none },
   { dst := some 23, g := none, op := AOp.bin BinOp.eql (Opd.t 21) (Opd.t 22) }]
def c13a0 : AC := (AC.region c13r5)
def c13b0 : AC := (AC.block 1 (AC.seq (AC.region c13r6) (AC.seq (AC.region c13r7) (AC.cond (Opd.t 23) (AC.exit 0) AC.skip))))
def c13r8 : List AOper :=
  [{ dst := some 24, g := none, op := AOp.load (Opd.t 7) none },
   { dst := some 6, g := none, op := AOp.mv (Opd.t 24) }]
def c13 : AC := (AC.seq (AC.region c13r0) (AC.seq (AC.region c13r1) (AC.seq (AC.seq (AC.region c13r2) (AC.cond (Opd.t 10) (AC.seq (AC.region c13r3) AC.ret) AC.skip)) (AC.seq (AC.seq (AC.region c13r4) (AC.block 0 (AC.rangeF (Opd.t 13) [14, 15] c13a0 c13b0))) (AC.seq (AC.region c13r8) AC.ret)))))
def r13 : List ARes := [ARes.tmp 6]
theorem c13_ok : Try.f13.body.bind (cCode Try.prog Try.f13.ntmps) = some c13 := by kernel_rfl
theorem r13_ok : Try.f13.results.toList.mapM (cRes Try.prog Try.f13.ntmps) = some r13 := by kernel_rfl
def c14r0 : List AOper :=
  [{ dst := some 4, g := none, op := AOp.mv (Opd.c (V.int IntKind.i64 0)) },
   { dst := some 5, g := none, op := AOp.mv (Opd.c (V.bool false)) }]
def c14r1 : List AOper :=
  [{ dst := some 10, g := none, op := AOp.mv (Opd.t 0) },
   { dst := some 11, g := none, op := AOp.mv (Opd.t 1) },
   { dst := some 12, g := none, op := AOp.call (Opd.c (V.fn 29 [])) [Opd.t 10, Opd.t 11] },
   { dst := some 9, g := none, op := AOp.mv (Opd.t 12) },
   { dst := some 13, g := none, op := AOp.ext (Opd.t 9) 0 },
   { dst := some 14, g := none, op := AOp.ext (Opd.t 9) 1 },
   { dst := some 6, g := none, op := AOp.mv (Opd.t 13) },
   { dst := some 7, g := none, op := AOp.mv (Opd.t 14) }]
def c14r2 : List AOper :=
  [{ dst := some 15, g := none, op := AOp.mv (Opd.t 7) },
   { dst := some 16, g := none, op := AOp.un UnOp.not (Opd.t 15) }]
def c14r3 : List AOper :=
  [{ dst := some 8, g := none, op := AOp.mv (Opd.c (V.int IntKind.i64 0)) }]
def c14r4 : List AOper :=
  [{ dst := some 17, g := none, op := AOp.mv (Opd.t 8) },
   { dst := some 4, g := none, op := AOp.mv (Opd.t 17) },
   { dst := some 5, g := none, op := AOp.mv (Opd.c (V.bool false)) }]
def c14r5 : List AOper :=
  [{ dst := some 18, g := none, op := AOp.mv (Opd.t 0) },
   { dst := some 19, g := none, op := AOp.nilck (Opd.t 18) },
   { dst := some 20, g := none, op := AOp.fldA (Opd.t 19) 1 },
   { dst := some 21, g := none, op := AOp.load (Opd.t 20) none },
   { dst := some 22, g := none, op := AOp.mv (Opd.t 6) },
   { dst := some 23, g := none, op := AOp.idxA (Opd.t 21) (Opd.t 22) none 2 },
   { dst := some 24, g := none, op := AOp.fldA (Opd.t 23) 1 },
   { dst := some 25, g := none, op := AOp.load (Opd.t 24) none },
   { dst := some 4, g := none, op := AOp.mv (Opd.t 25) },
   { dst := some 5, g := none, op := AOp.mv (Opd.c (V.bool true)) }]
def c14 : AC := (AC.seq (AC.region c14r0) (AC.seq (AC.region c14r1) (AC.seq (AC.seq (AC.region c14r2) (AC.cond (Opd.t 16) (AC.seq (AC.region c14r3) (AC.seq (AC.region c14r4) AC.ret)) AC.skip)) (AC.seq (AC.region c14r5) AC.ret))))
def r14 : List ARes := [ARes.tmp 4, ARes.tmp 5]
theorem c14_ok : Try.f14.body.bind (cCode Try.prog Try.f14.ntmps) = some c14 := by kernel_rfl
theorem r14_ok : Try.f14.results.toList.mapM (cRes Try.prog Try.f14.ntmps) = some r14 := by kernel_rfl
def c15r0 : List AOper :=
  [{ dst := some 2, g := none, op := AOp.mv (Opd.c (V.int IntKind.i64 0)) }]
def c15r1 : List AOper :=
  [{ dst := some 3, g := none, op := AOp.mv (Opd.t 0) },
   { dst := some 4, g := none, op := AOp.eq false 1 (Opd.t 3) (Opd.c V.nilp) }]
def c15r2 : List AOper :=
  [{ dst := some 2, g := none, op := AOp.mv (Opd.c (V.int IntKind.i64 0)) }]
def c15r3 : List AOper :=
  [{ dst := some 5, g := none, op := AOp.mv (Opd.t 0) },
   { dst := some 6, g := none, op := AOp.nilck (Opd.t 5) },
   { dst := some 7, g := none, op := AOp.fldA (Opd.t 6) 1 },
   { dst := some 8, g := none, op := AOp.load (Opd.t 7) none },
   { dst := some 9, g := none, op := AOp.lenL (Opd.t 8) },
   { dst := some 2, g := none, op := AOp.mv (Opd.t 9) }]
def c15 : AC := (AC.seq (AC.region c15r0) (AC.seq (AC.seq (AC.region c15r1) (AC.cond (Opd.t 4) (AC.seq (AC.region c15r2) AC.ret) AC.skip)) (AC.seq (AC.region c15r3) AC.ret)))
def r15 : List ARes := [ARes.tmp 2]
theorem c15_ok : Try.f15.body.bind (cCode Try.prog Try.f15.ntmps) = some c15 := by kernel_rfl
theorem r15_ok : Try.f15.results.toList.mapM (cRes Try.prog Try.f15.ntmps) = some r15 := by kernel_rfl
def c16r0 : List AOper :=
  [{ dst := some 0, g := none, op := AOp.mv (Opd.c V.nilp) }]
def c16r1 : List AOper :=
  [{ dst := some 1, g := none, op := AOp.build [V.bool false, V.nils] [(0, 1, Opd.c (V.bool true))] },
   { dst := some 2, g := none, op := AOp.box (Opd.t 1) },
   { dst := some 0, g := none, op := AOp.mv (Opd.t 2) }]
def c16 : AC := (AC.seq (AC.region c16r0) (AC.seq (AC.region c16r1) AC.ret))
def r16 : List ARes := [ARes.tmp 0]
theorem c16_ok : Try.f16.body.bind (cCode Try.prog Try.f16.ntmps) = some c16 := by kernel_rfl
theorem r16_ok : Try.f16.results.toList.mapM (cRes Try.prog Try.f16.ntmps) = some r16 := by kernel_rfl
def c17r0 : List AOper :=
  [{ dst := some 3, g := none, op := AOp.box (Opd.t 0) },
   { dst := some 6, g := none, op := AOp.alloc [V.nils, V.nils] },
   { dst := some 7, g := none, op := AOp.mv (Opd.c (V.bool false)) }]
def c17r1 : List AOper :=
  [{ dst := some 12, g := none, op := AOp.load (Opd.t 3) (some 2) },
   { dst := some 13, g := none, op := AOp.mv (Opd.t 1) },
   { dst := some 14, g := none, op := AOp.call (Opd.c (V.fn 27 [])) [Opd.t 12, Opd.t 13] },
   { dst := some 11, g := none, op := AOp.mv (Opd.t 14) },
   { dst := some 15, g := none, op := AOp.ext (Opd.t 11) 0 },
   { dst := some 16, g := none, op := AOp.ext (Opd.t 11) 1 },
   { dst := some 8, g := none, op := AOp.mv (Opd.t 15) },
   { dst := some 9, g := none, op := AOp.mv (Opd.t 16) }]
def c17r2 : List AOper :=
  [{ dst := some 10, g := none, op := AOp.mv (Opd.c (V.int IntKind.i64 0)) }]
def c17r3 : List AOper :=
  [{ dst := some 17, g := none, op := AOp.mv (Opd.t 9) }]
def c17r4 : List AOper :=
  [{ dst := some 10, g := none, op := AOp.mv (Opd.c (V.int IntKind.i64 1)) }]
def c17r5 : List AOper :=
  [{ dst := some 18, g := none, op := AOp.load (Opd.t 3) (some 2) },
   { dst := some 19, g := none, op := AOp.mv (Opd.t 8) },
   { dst := some 20, g := none, op := AOp.mv (Opd.t 10) },
   { dst := some 21, g := none, op := AOp.mv (Opd.t 1) },
   { dst := some 22, g := none, op := AOp.bslice 1 1 [V.str []] [(0, Opd.t 21)] },
   { dst := some 23, g := none, op := AOp.mv (Opd.t 2) },
   { dst := some 24, g := none, op := AOp.bslice 1 1 [V.int IntKind.i64 0] [(0, Opd.t 23)] },
   { dst := some 25, g := none, op := AOp.build [V.nils, V.nils] [(0, 1, Opd.t 22), (1, 1, Opd.t 24)] },
   { dst := some 26, g := none, op := AOp.call (Opd.c (V.fn 30 [])) [Opd.t 18, Opd.t 19, Opd.t 20, Opd.t 25] },
   { dst := some 27, g := none, op := AOp.mv (Opd.t 9) },
   { dst := none, g := none, op := AOp.store (Opd.t 6) (Opd.t 26) 2 },
   { dst := some 7, g := none, op := AOp.mv (Opd.t 27) }]
def c17 : AC := (AC.seq (AC.region c17r0) (AC.seq (AC.region c17r1) (AC.seq (AC.region c17r2) (AC.seq (AC.seq (AC.region c17r3) (AC.cond (Opd.t 17) (AC.region c17r4) AC.skip)) (AC.seq (AC.region c17r5) AC.ret)))))
def r17 : List ARes := [ARes.cell 6 (some 2), ARes.tmp 7]
theorem c17_ok : Try.f17.body.bind (cCode Try.prog Try.f17.ntmps) = some c17 := by kernel_rfl
theorem r17_ok : Try.f17.results.toList.mapM (cRes Try.prog Try.f17.ntmps) = some r17 := by kernel_rfl
def c18r0 : List AOper :=
  [{ dst := some 6, g := none, op := AOp.mv (Opd.c (V.bool false)) }]
def c18r1 : List AOper :=
  [{ dst := some 9, g := none, op := AOp.mv (Opd.t 0) },
   { dst := some 10, g := none, op := AOp.eq false 1 (Opd.t 9) (Opd.c V.nilp) },
   { dst := some 11, g := none, op := AOp.mv (Opd.t 10) },
   { dst := some 12, g := some (11, false), op := AOp.mv (Opd.t 0) },
   { dst := some 13, g := some (11, false), op := AOp.nilck (Opd.t 12) },
   { dst := some 14, g := some (11, false), op := AOp.fldA (Opd.t 13) 0 },
   { dst := some 15, g := some (11, false), op := AOp.load (Opd.t 14) none },
   { dst := some 16, g := some (11, false), op := AOp.un UnOp.not (Opd.t 15) },
   { dst := some 17, g := none, op := AOp.pick (Opd.t 11) (Opd.c (V.bool true)) (Opd.t 16) }]
def c18r2 : List AOper :=
  [{ dst := some 6, g := none, op := AOp.mv (Opd.c (V.bool false)) }]
def c18r3 : List AOper :=
  [{ dst := some 19, g := none, op := AOp.mv (Opd.t 0) },
   { dst := some 20, g := none, op := AOp.mv (Opd.t 1) },
   { dst := some 21, g := none, op := AOp.call (Opd.c (V.fn 29 [])) [Opd.t 19, Opd.t 20] },
   { dst := some 18, g := none, op := AOp.mv (Opd.t 21) },
   { dst := some 22, g := none, op := AOp.ext (Opd.t 18) 0 },
   { dst := some 23, g := none, op := AOp.ext (Opd.t 18) 1 },
   { dst := some 7, g := none, op := AOp.mv (Opd.t 22) },
   { dst := some 8, g := none, op := AOp.mv (Opd.t 23) }]
def c18r4 : List AOper :=
  [{ dst := some 24, g := none, op := AOp.mv (Opd.t 8) }]
def c18r5 : List AOper :=
  [{ dst := some 25, g := none, op := AOp.mv (Opd.t 0) },
   { dst := some 26, g := none, op := AOp.nilck (Opd.t 25) },
   { dst := some 27, g := none, op := AOp.fldA (Opd.t 26) 1 },
   { dst := some 28, g := none, op := AOp.load (Opd.t 27) none },
   { dst := some 29, g := none, op := AOp.mv (Opd.t 7) },
   { dst := some 30, g := none, op := AOp.mv (Opd.t 2) },
   { dst := some 31, g := none, op := AOp.idxA (Opd.t 28) (Opd.t 29) none 2 },
   { dst := some 32, g := none, op := AOp.fldA (Opd.t 31) 1 },
   { dst := none, g := none, op := AOp.store (Opd.t 32) (Opd.t 30) 1 }]
def c18r6 : List AOper :=
  [{ dst := some 33, g := none, op := AOp.mv (Opd.t 0) },
   { dst := some 34, g := none, op := AOp.mv (Opd.t 0) },
   { dst := some 35, g := none, op := AOp.nilck (Opd.t 34) },
   { dst := some 36, g := none, op := AOp.fldA (Opd.t 35) 1 },
   { dst := some 37, g := none, op := AOp.load (Opd.t 36) none },
   { dst := some 38, g := none, op := AOp.mv (Opd.t 7) },
   { dst := some 39, g := none, op := AOp.mv (Opd.t 1) },
   { dst := some 40, g := none, op := AOp.mv (Opd.t 2) },
   { dst := some 41, g := none, op := AOp.build [V.str [], V.int IntKind.i64 0] [(0, 1, Opd.t 39), (1, 1, Opd.t 40)] },
   { dst := some 42, g := none, op := AOp.bslice 1 2 [V.str [], V.int IntKind.i64 0] [(0, Opd.t 41)] },
   { dst := some 43, g := none, op := AOp.call (Opd.c (V.fn 31 [])) [Opd.t 37, Opd.t 38, Opd.t 42] },
   { dst := some 44, g := none, op := AOp.nilck (Opd.t 33) },
   { dst := some 45, g := none, op := AOp.fldA (Opd.t 44) 1 },
   { dst := none, g := none, op := AOp.store (Opd.t 45) (Opd.t 43) 1 }]
def c18r7 : List AOper :=
  [{ dst := some 46, g := none, op := AOp.mv (Opd.t 8) },
   { dst := some 6, g := none, op := AOp.mv (Opd.t 46) }]
def c18 : AC := (AC.seq (AC.region c18r0) (AC.seq (AC.seq (AC.region c18r1) (AC.cond (Opd.t 17) (AC.seq (AC.region c18r2) AC.ret) AC.skip)) (AC.seq (AC.region c18r3) (AC.seq (AC.seq (AC.region c18r4) (AC.cond (Opd.t 24) (AC.region c18r5) (AC.region c18r6))) (AC.seq (AC.region c18r7) AC.ret)))))
def r18 : List ARes := [ARes.tmp 6]
theorem c18_ok : Try.f18.body.bind (cCode Try.prog Try.f18.ntmps) = some c18 := by kernel_rfl
theorem r18_ok : Try.f18.results.toList.mapM (cRes Try.prog Try.f18.ntmps) = some r18 := by kernel_rfl
def c19r0 : List AOper :=
  [{ dst := some 2, g := none, op := AOp.box (Opd.t 0) },
   { dst := some 4, g := none, op := AOp.mv (Opd.c (V.int IntKind.i64 0)) },
   { dst := some 5, g := none, op := AOp.mv (Opd.c (V.bool false)) }]
def c19r1 : List AOper :=
  [{ dst := some 9, g := none, op := AOp.load (Opd.t 2) (some 2) },
   { dst := some 10, g := none, op := AOp.mv (Opd.t 1) },
   { dst := some 11, g := none, op := AOp.call (Opd.c (V.fn 27 [])) [Opd.t 9, Opd.t 10] },
   { dst := some 8, g := none, op := AOp.mv (Opd.t 11) },
   { dst := some 12, g := none, op := AOp.ext (Opd.t 8) 0 },
   { dst := some 13, g := none, op := AOp.ext (Opd.t 8) 1 },
   { dst := some 6, g := none, op := AOp.mv (Opd.t 12) },
   { dst := some 7, g := none, op := AOp.mv (Opd.t 13) }]
def c19r2 : List AOper :=
  [{ dst := some 14, g := none, op := AOp.mv (Opd.t 7) },
   { dst := some 15, g := none, op := AOp.un UnOp.not (Opd.t 14) }]
def c19r3 : List AOper :=
  [{ dst := some 4, g := none, op := AOp.mv (Opd.c (V.int IntKind.i64 0)) },
   { dst := some 5, g := none, op := AOp.mv (Opd.c (V.bool false)) }]
def c19r4 : List AOper :=
  [{ dst := some 16, g := none, op := AOp.fldA (Opd.t 2) 1 },
   { dst := some 17, g := none, op := AOp.load (Opd.t 16) none },
   { dst := some 18, g := none, op := AOp.mv (Opd.t 6) },
   { dst := some 19, g := none, op := AOp.idxA (Opd.t 17) (Opd.t 18) none 1 },
   { dst := some 20, g := none, op := AOp.load (Opd.t 19) none },
   { dst := some 4, g := none, op := AOp.mv (Opd.t 20) },
   { dst := some 5, g := none, op := AOp.mv (Opd.c (V.bool true)) }]
def c19 : AC := (AC.seq (AC.region c19r0) (AC.seq (AC.region c19r1) (AC.seq (AC.seq (AC.region c19r2) (AC.cond (Opd.t 15) (AC.seq (AC.region c19r3) AC.ret) AC.skip)) (AC.seq (AC.region c19r4) AC.ret))))
def r19 : List ARes := [ARes.tmp 4, ARes.tmp 5]
theorem c19_ok : Try.f19.body.bind (cCode Try.prog Try.f19.ntmps) = some c19 := by kernel_rfl
theorem r19_ok : Try.f19.results.toList.mapM (cRes Try.prog Try.f19.ntmps) = some r19 := by kernel_rfl
def c20r0 : List AOper :=
  [{ dst := some 2, g := none, op := AOp.box (Opd.t 0) },
   { dst := some 4, g := none, op := AOp.alloc [V.nils, V.nils] },
   { dst := some 5, g := none, op := AOp.mv (Opd.c (V.bool false)) }]
def c20r1 : List AOper :=
  [{ dst := some 9, g := none, op := AOp.load (Opd.t 2) (some 2) },
   { dst := some 10, g := none, op := AOp.mv (Opd.t 1) },
   { dst := some 11, g := none, op := AOp.call (Opd.c (V.fn 27 [])) [Opd.t 9, Opd.t 10] },
   { dst := some 8, g := none, op := AOp.mv (Opd.t 11) },
   { dst := some 12, g := none, op := AOp.ext (Opd.t 8) 0 },
   { dst := some 13, g := none, op := AOp.ext (Opd.t 8) 1 },
   { dst := some 6, g := none, op := AOp.mv (Opd.t 12) },
   { dst := some 7, g := none, op := AOp.mv (Opd.t 13) }]
def c20r2 : List AOper :=
  [{ dst := some 14, g := none, op := AOp.mv (Opd.t 7) },
   { dst := some 15, g := none, op := AOp.un UnOp.not (Opd.t 14) }]
def c20r3 : List AOper :=
  [{ dst := some 16, g := none, op := AOp.load (Opd.t 2) (some 2) },
   { dst := none, g := none, op := AOp.store (Opd.t 4) (Opd.t 16) 2 },
   { dst := some 5, g := none, op := AOp.mv (Opd.c (V.bool false)) }]
def c20r4 : List AOper :=
  [{ dst := some 17, g := none, op := AOp.load (Opd.t 2) (some 2) },
   { dst := some 18, g := none, op := AOp.mv (Opd.t 6) },
   { dst := some 19, g := none, op := AOp.build [V.nils, V.nils] [] },
   { dst := some 20, g := none, op := AOp.call (Opd.c (V.fn 30 [])) [Opd.t 17, Opd.t 18, Opd.c (V.int IntKind.i64 1), Opd.t 19] },
   { dst := none, g := none, op := AOp.store (Opd.t 4) (Opd.t 20) 2 },
   { dst := some 5, g := none, op := AOp.mv (Opd.c (V.bool true)) }]
def c20 : AC := (AC.seq (AC.region c20r0) (AC.seq (AC.region c20r1) (AC.seq (AC.seq (AC.region c20r2) (AC.cond (Opd.t 15) (AC.seq (AC.region c20r3) AC.ret) AC.skip)) (AC.seq (AC.region c20r4) AC.ret))))
def r20 : List ARes := [ARes.cell 4 (some 2), ARes.tmp 5]
theorem c20_ok : Try.f20.body.bind (cCode Try.prog Try.f20.ntmps) = some c20 := by kernel_rfl
theorem r20_ok : Try.f20.results.toList.mapM (cRes Try.prog Try.f20.ntmps) = some r20 := by kernel_rfl
def c21r0 : List AOper :=
  [{ dst := some 4, g := none, op := AOp.mv (Opd.c (V.bool false)) }]
def c21r1 : List AOper :=
  [{ dst := some 8, g := none, op := AOp.mv (Opd.t 0) },
   { dst := some 9, g := none, op := AOp.mv (Opd.t 1) },
   { dst := some 10, g := none, op := AOp.call (Opd.c (V.fn 29 [])) [Opd.t 8, Opd.t 9] },
   { dst := some 7, g := none, op := AOp.mv (Opd.t 10) },
   { dst := some 11, g := none, op := AOp.ext (Opd.t 7) 0 },
   { dst := some 12, g := none, op := AOp.ext (Opd.t 7) 1 },
   { dst := some 5, g := none, op := AOp.mv (Opd.t 11) },
   { dst := some 6, g := none, op := AOp.mv (Opd.t 12) }]
def c21r2 : List AOper :=
  [{ dst := some 13, g := none, op := AOp.mv (Opd.t 6) }]
def c21r3 : List AOper :=
  [{ dst := some 14, g := none, op := AOp.mv (Opd.t 0) },
   { dst := some 15, g := none, op := AOp.mv (Opd.t 0) },
   { dst := some 16, g := none, op := AOp.nilck (Opd.t 15) },
   { dst := some 17, g := none, op := AOp.fldA (Opd.t 16) 1 },
   { dst := some 18, g := none, op := AOp.load (Opd.t 17) none },
   { dst := some 19, g := none, op := AOp.mv (Opd.t 5) },
   { dst := some 20, g := none, op := AOp.mv (Opd.t 5) },
   { dst := some 21, g := none, op := AOp.bin BinOp.add (Opd.t 20) (Opd.c (V.int IntKind.i64 1)) },
   { dst := some 22, g := none, op := AOp.call (Opd.c (V.fn 32 [])) [Opd.t 18, Opd.t 19, Opd.t 21] },
   { dst := some 23, g := none, op := AOp.nilck (Opd.t 14) },
   { dst := some 24, g := none, op := AOp.fldA (Opd.t 23) 1 },
   { dst := none, g := none, op := AOp.store (Opd.t 24) (Opd.t 22) 1 }]
def c21r4 : List AOper :=
  [{ dst := some 25, g := none, op := AOp.mv (Opd.t 6) },
   { dst := some 4, g := none, op := AOp.mv (Opd.t 25) }]
def c21 : AC := (AC.seq (AC.region c21r0) (AC.seq (AC.region c21r1) (AC.seq (AC.seq (AC.region c21r2) (AC.cond (Opd.t 13) (AC.region c21r3) AC.skip)) (AC.seq (AC.region c21r4) AC.ret))))
def r21 : List ARes := [ARes.tmp 4]
theorem c21_ok : Try.f21.body.bind (cCode Try.prog Try.f21.ntmps) = some c21 := by kernel_rfl
theorem r21_ok : Try.f21.results.toList.mapM (cRes Try.prog Try.f21.ntmps) = some r21 := by kernel_rfl
def c22r0 : List AOper :=
  [{ dst := some 2, g := none, op := AOp.mv (Opd.c (V.str [])) },
   { dst := some 3, g := none, op := AOp.mv (Opd.c (V.bool false)) }]
def c22r1 : List AOper :=
  [{ dst := some 4, g := none, op := AOp.mv (Opd.t 0) },
   { dst := some 5, g := none, op := AOp.call (Opd.c (V.fn 15 [])) [Opd.t 4] },
   { dst := some 6, g := none, op := AOp.bin BinOp.eql (Opd.t 5) (Opd.c (V.int IntKind.i64 0)) }]
def c22r2 : List AOper :=
  [{ dst := some 2, g := none, op := AOp.mv (Opd.c (V.str [])) },
   { dst := some 3, g := none, op := AOp.mv (Opd.c (V.bool false)) }]
def c22r3 : List AOper :=
  [{ dst := some 7, g := none, op := AOp.mv (Opd.t 0) },
   { dst := some 8, g := none, op := AOp.nilck (Opd.t 7) },
   { dst := some 9, g := none, op := AOp.fldA (Opd.t 8) 1 },
   { dst := some 10, g := none, op := AOp.load (Opd.t 9) none },
   { dst := some 11, g := none, op := AOp.idxA (Opd.t 10) (Opd.c (V.int IntKind.i64 0)) none 2 },
   { dst := some 12, g := none, op := AOp.fldA (Opd.t 11) 0 },
   { dst := some 13, g := none, op := AOp.load (Opd.t 12) none },
   { dst := some 2, g := none, op := AOp.mv (Opd.t 13) },
   { dst := some 3, g := none, op := AOp.mv (Opd.c (V.bool true)) }]
def c22 : AC := (AC.seq (AC.region c22r0) (AC.seq (AC.seq (AC.region c22r1) (AC.cond (Opd.t 6) (AC.seq (AC.region c22r2) AC.ret) AC.skip)) (AC.seq (AC.region c22r3) AC.ret)))
def r22 : List ARes := [ARes.tmp 2, ARes.tmp 3]
theorem c22_ok : Try.f22.body.bind (cCode Try.prog Try.f22.ntmps) = some c22 := by kernel_rfl
theorem r22_ok : Try.f22.results.toList.mapM (cRes Try.prog Try.f22.ntmps) = some r22 := by kernel_rfl
def c23r0 : List AOper :=
  [{ dst := some 0, g := none, op := AOp.mv (Opd.c V.nilp) }]
def c23r1 : List AOper :=
  [{ dst := some 1, g := none, op := AOp.build [V.bool false, V.nils] [(0, 1, Opd.c (V.bool true))] },
   { dst := some 2, g := none, op := AOp.box (Opd.t 1) },
   { dst := some 0, g := none, op := AOp.mv (Opd.t 2) }]
def c23 : AC := (AC.seq (AC.region c23r0) (AC.seq (AC.region c23r1) AC.ret))
def r23 : List ARes := [ARes.tmp 0]
theorem c23_ok : Try.f23.body.bind (cCode Try.prog Try.f23.ntmps) = some c23 := by kernel_rfl
theorem r23_ok : Try.f23.results.toList.mapM (cRes Try.prog Try.f23.ntmps) = some r23 := by kernel_rfl
def c24r0 : List AOper :=
  [{ dst := some 6, g := none, op := AOp.mv (Opd.c (V.bool false)) }]
def c24r1 : List AOper :=
  [{ dst := some 9, g := none, op := AOp.mv (Opd.t 0) },
   { dst := some 10, g := none, op := AOp.eq false 1 (Opd.t 9) (Opd.c V.nilp) },
   { dst := some 11, g := none, op := AOp.mv (Opd.t 10) },
   { dst := some 12, g := some (11, false), op := AOp.mv (Opd.t 0) },
   { dst := some 13, g := some (11, false), op := AOp.nilck (Opd.t 12) },
   { dst := some 14, g := some (11, false), op := AOp.fldA (Opd.t 13) 0 },
   { dst := some 15, g := some (11, false), op := AOp.load (Opd.t 14) none },
   { dst := some 16, g := some (11, false), op := AOp.un UnOp.not (Opd.t 15) },
   { dst := some 17, g := none, op := AOp.pick (Opd.t 11) (Opd.c (V.bool true)) (Opd.t 16) }]
def c24r2 : List AOper :=
  [{ dst := some 6, g := none, op := AOp.mv (Opd.c (V.bool false)) }]
def c24r3 : List AOper :=
  [{ dst := some 19, g := none, op := AOp.mv (Opd.t 0) },
   { dst := some 20, g := none, op := AOp.mv (Opd.t 1) },
   { dst := some 21, g := none, op := AOp.call (Opd.c (V.fn 33 [])) [Opd.t 19, Opd.t 20] },
   { dst := some 18, g := none, op := AOp.mv (Opd.t 21) },
   { dst := some 22, g := none, op := AOp.ext (Opd.t 18) 0 },
   { dst := some 23, g := none, op := AOp.ext (Opd.t 18) 1 },
   { dst := some 7, g := none, op := AOp.mv (Opd.t 22) },
   { dst := some 8, g := none, op := AOp.mv (Opd.t 23) }]
def c24r4 : List AOper :=
  [{ dst := some 24, g := none, op := AOp.mv (Opd.t 8) }]
def c24r5 : List AOper :=
  [{ dst := some 25, g := none, op := AOp.mv (Opd.t 0) },
   { dst := some 26, g := none, op := AOp.nilck (Opd.t 25) },
   { dst := some 27, g := none, op := AOp.fldA (Opd.t 26) 1 },
   { dst := some 28, g := none, op := AOp.load (Opd.t 27) none },
   { dst := some 29, g := none, op := AOp.mv (Opd.t 7) },
   { dst := some 30, g := none, op := AOp.mv (Opd.t 2) },
   { dst := some 31, g := none, op := AOp.idxA (Opd.t 28) (Opd.t 29) none 2 },
   { dst := some 32, g := none, op := AOp.fldA (Opd.t 31) 1 },
   { dst := none, g := none, op := AOp.store (Opd.t 32) (Opd.t 30) 1 }]
def c24r6 : List AOper :=
  [{ dst := some 33, g := none, op := AOp.mv (Opd.t 0) },
   { dst := some 34, g := none, op := AOp.mv (Opd.t 0) },
   { dst := some 35, g := none, op := AOp.nilck (Opd.t 34) },
   { dst := some 36, g := none, op := AOp.fldA (Opd.t 35) 1 },
   { dst := some 37, g := none, op := AOp.load (Opd.t 36) none },
   { dst := some 38, g := none, op := AOp.mv (Opd.t 7) },
   { dst := some 39, g := none, op := AOp.mv (Opd.t 1) },
   { dst := some 40, g := none, op := AOp.mv (Opd.t 2) },
   { dst := some 41, g := none, op := AOp.build [V.str [], V.str []] [(0, 1, Opd.t 39), (1, 1, Opd.t 40)] },
   { dst := some 42, g := none, op := AOp.bslice 1 2 [V.str [], V.str []] [(0, Opd.t 41)] },
   { dst := some 43, g := none, op := AOp.call (Opd.c (V.fn 34 [])) [Opd.t 37, Opd.t 38, Opd.t 42] },
   { dst := some 44, g := none, op := AOp.nilck (Opd.t 33) },
   { dst := some 45, g := none, op := AOp.fldA (Opd.t 44) 1 },
   { dst := none, g := none, op := AOp.store (Opd.t 45) (Opd.t 43) 1 }]
def c24r7 : List AOper :=
  [{ dst := some 46, g := none, op := AOp.mv (Opd.t 8) },
   { dst := some 6, g := none, op := AOp.mv (Opd.t 46) }]
def c24 : AC := (AC.seq (AC.region c24r0) (AC.seq (AC.seq (AC.region c24r1) (AC.cond (Opd.t 17) (AC.seq (AC.region c24r2) AC.ret) AC.skip)) (AC.seq (AC.region c24r3) (AC.seq (AC.seq (AC.region c24r4) (AC.cond (Opd.t 24) (AC.region c24r5) (AC.region c24r6))) (AC.seq (AC.region c24r7) AC.ret)))))
def r24 : List ARes := [ARes.tmp 6]
theorem c24_ok : Try.f24.body.bind (cCode Try.prog Try.f24.ntmps) = some c24 := by kernel_rfl
theorem r24_ok : Try.f24.results.toList.mapM (cRes Try.prog Try.f24.ntmps) = some r24 := by kernel_rfl
def c25r0 : List AOper :=
  [{ dst := some 4, g := none, op := AOp.mv (Opd.c (V.str [])) },
   { dst := some 5, g := none, op := AOp.mv (Opd.c (V.bool false)) }]
def c25r1 : List AOper :=
  [{ dst := some 10, g := none, op := AOp.mv (Opd.t 0) },
   { dst := some 11, g := none, op := AOp.mv (Opd.t 1) },
   { dst := some 12, g := none, op := AOp.call (Opd.c (V.fn 33 [])) [Opd.t 10, Opd.t 11] },
   { dst := some 9, g := none, op := AOp.mv (Opd.t 12) },
   { dst := some 13, g := none, op := AOp.ext (Opd.t 9) 0 },
   { dst := some 14, g := none, op := AOp.ext (Opd.t 9) 1 },
   { dst := some 6, g := none, op := AOp.mv (Opd.t 13) },
   { dst := some 7, g := none, op := AOp.mv (Opd.t 14) }]
def c25r2 : List AOper :=
  [{ dst := some 15, g := none, op := AOp.mv (Opd.t 7) },
   { dst := some 16, g := none, op := AOp.un UnOp.not (Opd.t 15) }]
def c25r3 : List AOper :=
  [{ dst := some 8, g := none, op := AOp.mv (Opd.c (V.str [])) }]
def c25r4 : List AOper :=
  [{ dst := some 17, g := none, op := AOp.mv (Opd.t 8) },
   { dst := some 4, g := none, op := AOp.mv (Opd.t 17) },
   { dst := some 5, g := none, op := AOp.mv (Opd.c (V.bool false)) }]
def c25r5 : List AOper :=
  [{ dst := some 18, g := none, op := AOp.mv (Opd.t 0) },
   { dst := some 19, g := none, op := AOp.nilck (Opd.t 18) },
   { dst := some 20, g := none, op := AOp.fldA (Opd.t 19) 1 },
   { dst := some 21, g := none, op := AOp.load (Opd.t 20) none },
   { dst := some 22, g := none, op := AOp.mv (Opd.t 6) },
   { dst := some 23, g := none, op := AOp.idxA (Opd.t 21) (Opd.t 22) none 2 },
   { dst := some 24, g := none, op := AOp.fldA (Opd.t 23) 1 },
   { dst := some 25, g := none, op := AOp.load (Opd.t 24) none },
   { dst := some 4, g := none, op := AOp.mv (Opd.t 25) },
   { dst := some 5, g := none, op := AOp.mv (Opd.c (V.bool true)) }]
def c25 : AC := (AC.seq (AC.region c25r0) (AC.seq (AC.region c25r1) (AC.seq (AC.seq (AC.region c25r2) (AC.cond (Opd.t 16) (AC.seq (AC.region c25r3) (AC.seq (AC.region c25r4) AC.ret)) AC.skip)) (AC.seq (AC.region c25r5) AC.ret))))
def r25 : List ARes := [ARes.tmp 4, ARes.tmp 5]
theorem c25_ok : Try.f25.body.bind (cCode Try.prog Try.f25.ntmps) = some c25 := by kernel_rfl
theorem r25_ok : Try.f25.results.toList.mapM (cRes Try.prog Try.f25.ntmps) = some r25 := by kernel_rfl
def c26r0 : List AOper :=
  [{ dst := some 4, g := none, op := AOp.mv (Opd.c (V.bool false)) }]
def c26r1 : List AOper :=
  [{ dst := some 8, g := none, op := AOp.mv (Opd.t 0) },
   { dst := some 9, g := none, op := AOp.mv (Opd.t 1) },
   { dst := some 10, g := none, op := AOp.call (Opd.c (V.fn 33 [])) [Opd.t 8, Opd.t 9] },
   { dst := some 7, g := none, op := AOp.mv (Opd.t 10) },
   { dst := some 11, g := none, op := AOp.ext (Opd.t 7) 0 },
   { dst := some 12, g := none, op := AOp.ext (Opd.t 7) 1 },
   { dst := some 5, g := none, op := AOp.mv (Opd.t 11) },
   { dst := some 6, g := none, op := AOp.mv (Opd.t 12) }]
def c26r2 : List AOper :=
  [{ dst := some 13, g := none, op := AOp.mv (Opd.t 6) }]
def c26r3 : List AOper :=
  [{ dst := some 14, g := none, op := AOp.mv (Opd.t 0) },
   { dst := some 15, g := none, op := AOp.mv (Opd.t 0) },
   { dst := some 16, g := none, op := AOp.nilck (Opd.t 15) },
   { dst := some 17, g := none, op := AOp.fldA (Opd.t 16) 1 },
   { dst := some 18, g := none, op := AOp.load (Opd.t 17) none },
   { dst := some 19, g := none, op := AOp.mv (Opd.t 5) },
   { dst := some 20, g := none, op := AOp.mv (Opd.t 5) },
   { dst := some 21, g := none, op := AOp.bin BinOp.add (Opd.t 20) (Opd.c (V.int IntKind.i64 1)) },
   { dst := some 22, g := none, op := AOp.call (Opd.c (V.fn 35 [])) [Opd.t 18, Opd.t 19, Opd.t 21] },
   { dst := some 23, g := none, op := AOp.nilck (Opd.t 14) },
   { dst := some 24, g := none, op := AOp.fldA (Opd.t 23) 1 },
   { dst := none, g := none, op := AOp.store (Opd.t 24) (Opd.t 22) 1 }]
def c26r4 : List AOper :=
  [{ dst := some 25, g := none, op := AOp.mv (Opd.t 6) },
   { dst := some 4, g := none, op := AOp.mv (Opd.t 25) }]
def c26 : AC := (AC.seq (AC.region c26r0) (AC.seq (AC.region c26r1) (AC.seq (AC.seq (AC.region c26r2) (AC.cond (Opd.t 13) (AC.region c26r3) AC.skip)) (AC.seq (AC.region c26r4) AC.ret))))
def r26 : List ARes := [ARes.tmp 4]
theorem c26_ok : Try.f26.body.bind (cCode Try.prog Try.f26.ntmps) = some c26 := by kernel_rfl
theorem r26_ok : Try.f26.results.toList.mapM (cRes Try.prog Try.f26.ntmps) = some r26 := by kernel_rfl
def c27r0 : List AOper :=
  [{ dst := some 2, g := none, op := AOp.box (Opd.t 0) },
   { dst := some 4, g := none, op := AOp.mv (Opd.c (V.int IntKind.i64 0)) },
   { dst := some 5, g := none, op := AOp.mv (Opd.c (V.bool false)) }]
def c27r1 : List AOper :=
  [{ dst := some 6, g := none, op := AOp.mv (Opd.c (V.int IntKind.i64 0)) }]
def c27r2 : List AOper :=
  [{ dst := some 7, g := none, op := AOp.mv (Opd.t 6) },
   { dst := some 8, g := none, op := AOp.fldA (Opd.t 2) 0 },
   { dst := some 9, g := none, op := AOp.load (Opd.t 8) none },
   { dst := some 10, g := none, op := AOp.lenL (Opd.t 9) },
   { dst := some 11, g := none, op := AOp.bin BinOp.lss (Opd.t 7) (Opd.t 10) },
   { dst := some 12, g := none, op := AOp.mv (Opd.t 11) },
   { dst := some 13, g := some (12, true), op := AOp.fldA (Opd.t 2) 0 },
   { dst := some 14, g := some (12, true), op := AOp.load (Opd.t 13) none },
   { dst := some 15, g := some (12, true), op := AOp.mv (Opd.t 6) },
   { dst := some 16, g := some (12, true), op := AOp.idxA (Opd.t 14) (Opd.t 15) none 1 },
   { dst := some 17, g := some (12, true), op := AOp.load (Opd.t 16) none },
   { dst := some 18, g := some (12, true), op := AOp.mv (Opd.t 1) },
   { dst := some 19, g := some (12, true), op := AOp.bin BinOp.lss (Opd.t 17) (Opd.t 18) },
   { dst := some 20, g := none, op := AOp.pick (Opd.t 12) (Opd.t 19) (Opd.c (V.bool false)) }]
def c27r3 : List AOper :=
  [{ dst := some 21, g := none, op := AOp.mv (Opd.t 6) },
   { dst := some 22, g := none, op := AOp.bin BinOp.add (Opd.t 21) (Opd.c (V.int IntKind.i64 1)) },
   { dst := some 6, g := none, op := AOp.mv (Opd.t 22) }]
def c27l0 : AC := (AC.seq (AC.seq (AC.region c27r2) (AC.cond (Opd.t 20) AC.skip (AC.exit 0))) (AC.block 1 (AC.region c27r3)))
def c27d0 : List (AOper × List Nat) :=
  [({ dst := some 23, g := none, op := AOp.mv (Opd.t 6) }, []),
   ({ dst := some 24, g := none, op := AOp.mv (Opd.t 6) }, []),
   ({ dst := some 25, g := none, op := AOp.fldA (Opd.t 2) 0 }, []),
   ({ dst := some 26, g := none, op := AOp.load (Opd.t 25) none }, [2]),
   ({ dst := some 27, g := none, op := AOp.lenL (Opd.t 26) }, [3]),
   ({ dst := some 28, g := none, op := AOp.bin BinOp.lss (Opd.t 24) (Opd.t 27) }, [1, 4]),
   ({ dst := some 29, g := none, op := AOp.mv (Opd.t 28) }, [5]),
   ({ dst := some 30, g := some (29, true), op := AOp.fldA (Opd.t 2) 0 }, [6]),
   ({ dst := some 31, g := some (29, true), op := AOp.load (Opd.t 30) none }, [7, 6]),
   ({ dst := some 32, g := some (29, true), op := AOp.mv (Opd.t 6) }, [6]),
   ({ dst := some 33, g := some (29, true), op := AOp.idxA (Opd.t 31) (Opd.t 32) none 1 }, [8, 9, 6]),
   ({ dst := some 34, g := some (29, true), op := AOp.load (Opd.t 33) none }, [10, 6]),
   ({ dst := some 35, g := some (29, true), op := AOp.mv (Opd.t 1) }, [6]),
   ({ dst := some 36, g := some (29, true), op := AOp.bin BinOp.eql (Opd.t 34) (Opd.t 35) }, [11, 12, 6]),
   ({ dst := some 37, g := none, op := AOp.pick (Opd.t 29) (Opd.t 36) (Opd.c (V.bool false)) }, [6, 13]),
   ({ dst := some 4, g := none, op := AOp.mv (Opd.t 23) }, [0, 6, 0]),
   ({ dst := some 5, g := none, op := AOp.mv (Opd.t 37) }, [14, 15, 0, 1, 2, 3, 4, 5, 6, 7, 8, 9, 10, 11, 12, 13, 14, 15])]
def c27 : AC := (AC.seq (AC.region c27r0) (AC.seq (AC.region c27r1) (AC.seq (AC.block 0 (AC.loop c27l0)) (AC.seq (AC.drawn c27d0) AC.ret))))
def r27 : List ARes := [ARes.tmp 4, ARes.tmp 5]
theorem c27_ok : Try.f27.body.bind (cCode Try.prog Try.f27.ntmps) = some c27 := by kernel_rfl
theorem r27_ok : Try.f27.results.toList.mapM (cRes Try.prog Try.f27.ntmps) = some r27 := by kernel_rfl
def c28r0 : List AOper :=
  [{ dst := some 7, g := none, op := AOp.load (Opd.t 1) none },
   { dst := some 8, g := none, op := AOp.load (Opd.t 2) none },
   { dst := some 9, g := none, op := AOp.call (Opd.c (V.fn 29 [])) [Opd.t 7, Opd.t 8] },
   { dst := some 6, g := none, op := AOp.mv (Opd.t 9) },
   { dst := some 10, g := none, op := AOp.ext (Opd.t 6) 0 },
   { dst := some 11, g := none, op := AOp.ext (Opd.t 6) 1 },
   { dst := some 4, g := none, op := AOp.mv (Opd.t 10) },
   { dst := some 5, g := none, op := AOp.mv (Opd.t 11) }]
def c28r1 : List AOper :=
  [{ dst := some 12, g := none, op := AOp.mv (Opd.t 4) },
   { dst := some 13, g := none, op := AOp.load (Opd.t 1) none },
   { dst := some 14, g := none, op := AOp.call (Opd.c (V.fn 15 [])) [Opd.t 13] },
   { dst := some 15, g := none, op := AOp.bin BinOp.lss (Opd.t 12) (Opd.t 14) }]
def c28d0 : List (AOper × List Nat) :=
  [({ dst := some 18, g := none, op := AOp.mv (Opd.t 0) }, []),
   ({ dst := some 19, g := none, op := AOp.load (Opd.t 1) none }, []),
   ({ dst := some 20, g := none, op := AOp.nilck (Opd.t 19) }, [1]),
   ({ dst := some 21, g := none, op := AOp.fldA (Opd.t 20) 1 }, [2]),
   ({ dst := some 22, g := none, op := AOp.load (Opd.t 21) none }, [3]),
   ({ dst := some 23, g := none, op := AOp.mv (Opd.t 4) }, []),
   ({ dst := some 24, g := none, op := AOp.idxA (Opd.t 22) (Opd.t 23) none 2 }, [4, 5]),
   ({ dst := some 25, g := none, op := AOp.fldA (Opd.t 24) 0 }, [6]),
   ({ dst := some 26, g := none, op := AOp.load (Opd.t 25) none }, [7]),
   ({ dst := some 27, g := none, op := AOp.load (Opd.t 1) none }, []),
   ({ dst := some 28, g := none, op := AOp.nilck (Opd.t 27) }, [9]),
   ({ dst := some 29, g := none, op := AOp.fldA (Opd.t 28) 1 }, [10]),
   ({ dst := some 30, g := none, op := AOp.load (Opd.t 29) none }, [11]),
   ({ dst := some 31, g := none, op := AOp.mv (Opd.t 4) }, []),
   ({ dst := some 32, g := none, op := AOp.idxA (Opd.t 30) (Opd.t 31) none 2 }, [12, 13]),
   ({ dst := some 33, g := none, op := AOp.fldA (Opd.t 32) 1 }, [14]),
   ({ dst := some 34, g := none, op := AOp.load (Opd.t 33) none }, [15]),
   ({ dst := some 35, g := none, op := AOp.call (Opd.t 18) [Opd.t 26, Opd.t 34] }, [0, 8, 16]),
   ({ dst := some 36, g := none, op := AOp.un UnOp.not (Opd.t 35) }, [17])]
def c28r2 : List AOper :=
  [{ dst := some 16, g := none, op := AOp.mv (Opd.t 4) },
   { dst := some 17, g := none, op := AOp.bin BinOp.add (Opd.t 16) (Opd.c (V.int IntKind.i64 1)) },
   { dst := some 4, g := none, op := AOp.mv (Opd.t 17) }]
def c28l0 : AC := (AC.seq (AC.seq (AC.region c28r1) (AC.cond (Opd.t 15) AC.skip (AC.exit 0))) (AC.seq (AC.block 1 (AC.seq (AC.drawn c28d0) (AC.cond (Opd.t 36) AC.ret AC.skip))) (AC.region c28r2)))
def c28 : AC := (AC.seq (AC.region c28r0) (AC.block 0 (AC.loop c28l0)))
def r28 : List ARes := []
theorem c28_ok : Try.f28.body.bind (cCode Try.prog Try.f28.ntmps) = some c28 := by kernel_rfl
theorem r28_ok : Try.f28.results.toList.mapM (cRes Try.prog Try.f28.ntmps) = some r28 := by kernel_rfl
def c29r0 : List AOper :=
  [{ dst := some 4, g := none, op := AOp.mv (Opd.c (V.int IntKind.i64 0)) },
   { dst := some 5, g := none, op := AOp.mv (Opd.c (V.bool false)) }]
def c29r1 : List AOper :=
  [{ dst := some 6, g := none, op := AOp.mv (Opd.t 0) },
   { dst := some 7, g := none, op := AOp.eq false 1 (Opd.t 6) (Opd.c V.nilp) }]
def c29r2 : List AOper :=
  [{ dst := some 4, g := none, op := AOp.mv (Opd.c (V.int IntKind.i64 0)) },
   { dst := some 5, g := none, op := AOp.mv (Opd.c (V.bool false)) }]
def c29r3 : List AOper :=
  [{ dst := some 8, g := none, op := AOp.mv (Opd.t 0) },
   { dst := some 9, g := none, op := AOp.nilck (Opd.t 8) },
   { dst := some 10, g := none, op := AOp.fldA (Opd.t 9) 1 },
   { dst := some 11, g := none, op := AOp.load (Opd.t 10) none },
   { dst := some 12, g := none, op := AOp.mv (Opd.t 1) },
   { dst := some 13, g := none, op := AOp.call (Opd.c (V.fn 36 [])) [Opd.t 11, Opd.t 12, Opd.c (V.fn 37 [])] },
   { dst := some 14, g := none, op := AOp.ext (Opd.t 13) 0 },
   { dst := some 15, g := none, op := AOp.ext (Opd.t 13) 1 },
   { dst := some 4, g := none, op := AOp.mv (Opd.t 14) },
   { dst := some 5, g := none, op := AOp.mv (Opd.t 15) }]
def c29 : AC := (AC.seq (AC.region c29r0) (AC.seq (AC.seq (AC.region c29r1) (AC.cond (Opd.t 7) (AC.seq (AC.region c29r2) AC.ret) AC.skip)) (AC.seq (AC.region c29r3) AC.ret)))
def r29 : List ARes := [ARes.tmp 4, ARes.tmp 5]
theorem c29_ok : Try.f29.body.bind (cCode Try.prog Try.f29.ntmps) = some c29 := by kernel_rfl
theorem r29_ok : Try.f29.results.toList.mapM (cRes Try.prog Try.f29.ntmps) = some r29 := by kernel_rfl
def c30r0 : List AOper :=
  [{ dst := some 4, g := none, op := AOp.box (Opd.t 0) },
   { dst := some 7, g := none, op := AOp.box (Opd.t 3) },
   { dst := some 8, g := none, op := AOp.alloc [V.nils, V.nils] }]
def c30r1 : List AOper :=
  [{ dst := some 10, g := none, op := AOp.build [V.nils, V.nils] [] },
   { dst := some 9, g := none, op := AOp.alloc [V.nils, V.nils] },
   { dst := none, g := none, op := AOp.store (Opd.t 9) (Opd.t 10) 2 }]
def c30d0 : List (AOper × List Nat) :=
  [({ dst := some 11, g := none, op := AOp.fldA (Opd.t 9) 0 }, []),
   ({ dst := some 12, g := none, op := AOp.load (Opd.t 11) none }, [0]),
   ({ dst := some 13, g := none, op := AOp.fldA (Opd.t 4) 0 }, []),
   ({ dst := some 14, g := none, op := AOp.load (Opd.t 13) none }, [2]),
   ({ dst := some 15, g := none, op := AOp.mv (Opd.t 1) }, []),
   ({ dst := some 16, g := none, op := AOp.slc (Opd.t 14) none (some (Opd.t 15)) none 1 }, [3, 4]),
   ({ dst := some 17, g := none, op := AOp.append (Opd.t 12) (Opd.t 16) 1 16 false }, [1, 5]),
   ({ dst := some 18, g := none, op := AOp.fldA (Opd.t 9) 0 }, [0, 1, 2, 3, 4, 5, 6]),
   ({ dst := none, g := none, op := AOp.store (Opd.t 18) (Opd.t 17) 1 }, [7, 6, 6, 0, 1, 2, 3, 4, 5, 6])]
def c30r2 : List AOper :=
  [{ dst := some 19, g := none, op := AOp.fldA (Opd.t 9) 0 },
   { dst := some 20, g := none, op := AOp.load (Opd.t 19) none },
   { dst := some 21, g := none, op := AOp.fldA (Opd.t 7) 0 },
   { dst := some 22, g := none, op := AOp.load (Opd.t 21) none },
   { dst := some 23, g := none, op := AOp.append (Opd.t 20) (Opd.t 22) 1 16 false },
   { dst := some 24, g := none, op := AOp.fldA (Opd.t 9) 0 },
   { dst := none, g := none, op := AOp.store (Opd.t 24) (Opd.t 23) 1 }]
def c30d1 : List (AOper × List Nat) :=
  [({ dst := some 25, g := none, op := AOp.fldA (Opd.t 9) 0 }, []),
   ({ dst := some 26, g := none, op := AOp.load (Opd.t 25) none }, [0]),
   ({ dst := some 27, g := none, op := AOp.fldA (Opd.t 4) 0 }, []),
   ({ dst := some 28, g := none, op := AOp.load (Opd.t 27) none }, [2]),
   ({ dst := some 29, g := none, op := AOp.mv (Opd.t 1) }, []),
   ({ dst := some 30, g := none, op := AOp.mv (Opd.t 2) }, []),
   ({ dst := some 31, g := none, op := AOp.bin BinOp.add (Opd.t 29) (Opd.t 30) }, [4, 5]),
   ({ dst := some 32, g := none, op := AOp.slc (Opd.t 28) (some (Opd.t 31)) none none 1 }, [3, 6]),
   ({ dst := some 33, g := none, op := AOp.append (Opd.t 26) (Opd.t 32) 1 16 false }, [1, 7]),
   ({ dst := some 34, g := none, op := AOp.fldA (Opd.t 9) 0 }, [0, 1, 2, 3, 4, 5, 6, 7, 8]),
   ({ dst := none, g := none, op := AOp.store (Opd.t 34) (Opd.t 33) 1 }, [9, 8, 8, 0, 1, 2, 3, 4, 5, 6, 7, 8])]
def c30d2 : List (AOper × List Nat) :=
  [({ dst := some 35, g := none, op := AOp.fldA (Opd.t 9) 1 }, []),
   ({ dst := some 36, g := none, op := AOp.load (Opd.t 35) none }, [0]),
   ({ dst := some 37, g := none, op := AOp.fldA (Opd.t 4) 1 }, []),
   ({ dst := some 38, g := none, op := AOp.load (Opd.t 37) none }, [2]),
   ({ dst := some 39, g := none, op := AOp.mv (Opd.t 1) }, []),
   ({ dst := some 40, g := none, op := AOp.slc (Opd.t 38) none (some (Opd.t 39)) none 1 }, [3, 4]),
   ({ dst := some 41, g := none, op := AOp.append (Opd.t 36) (Opd.t 40) 1 8 false }, [1, 5]),
   ({ dst := some 42, g := none, op := AOp.fldA (Opd.t 9) 1 }, [0, 1, 2, 3, 4, 5, 6]),
   ({ dst := none, g := none, op := AOp.store (Opd.t 42) (Opd.t 41) 1 }, [7, 6, 6, 0, 1, 2, 3, 4, 5, 6])]
def c30r3 : List AOper :=
  [{ dst := some 43, g := none, op := AOp.fldA (Opd.t 9) 1 },
   { dst := some 44, g := none, op := AOp.load (Opd.t 43) none },
   { dst := some 45, g := none, op := AOp.fldA (Opd.t 7) 1 },
   { dst := some 46, g := none, op := AOp.load (Opd.t 45) none },
   { dst := some 47, g := none, op := AOp.append (Opd.t 44) (Opd.t 46) 1 8 false },
   { dst := some 48, g := none, op := AOp.fldA (Opd.t 9) 1 },
   { dst := none, g := none, op := AOp.store (Opd.t 48) (Opd.t 47) 1 }]
def c30d3 : List (AOper × List Nat) :=
  [({ dst := some 49, g := none, op := AOp.fldA (Opd.t 9) 1 }, []),
   ({ dst := some 50, g := none, op := AOp.load (Opd.t 49) none }, [0]),
   ({ dst := some 51, g := none, op := AOp.fldA (Opd.t 4) 1 }, []),
   ({ dst := some 52, g := none, op := AOp.load (Opd.t 51) none }, [2]),
   ({ dst := some 53, g := none, op := AOp.mv (Opd.t 1) }, []),
   ({ dst := some 54, g := none, op := AOp.mv (Opd.t 2) }, []),
   ({ dst := some 55, g := none, op := AOp.bin BinOp.add (Opd.t 53) (Opd.t 54) }, [4, 5]),
   ({ dst := some 56, g := none, op := AOp.slc (Opd.t 52) (some (Opd.t 55)) none none 1 }, [3, 6]),
   ({ dst := some 57, g := none, op := AOp.append (Opd.t 50) (Opd.t 56) 1 8 false }, [1, 7]),
   ({ dst := some 58, g := none, op := AOp.fldA (Opd.t 9) 1 }, [0, 1, 2, 3, 4, 5, 6, 7, 8]),
   ({ dst := none, g := none, op := AOp.store (Opd.t 58) (Opd.t 57) 1 }, [9, 8, 8, 0, 1, 2, 3, 4, 5, 6, 7, 8])]
def c30r4 : List AOper :=
  [{ dst := some 59, g := none, op := AOp.load (Opd.t 9) (some 2) },
   { dst := none, g := none, op := AOp.store (Opd.t 8) (Opd.t 59) 2 }]
def c30 : AC := (AC.seq (AC.region c30r0) (AC.seq (AC.region c30r1) (AC.seq (AC.drawn c30d0) (AC.seq (AC.region c30r2) (AC.seq (AC.drawn c30d1) (AC.seq (AC.drawn c30d2) (AC.seq (AC.region c30r3) (AC.seq (AC.drawn c30d3) (AC.seq (AC.region c30r4) AC.ret)))))))))
def r30 : List ARes := [ARes.cell 8 (some 2)]
theorem c30_ok : Try.f30.body.bind (cCode Try.prog Try.f30.ntmps) = some c30 := by kernel_rfl
theorem r30_ok : Try.f30.results.toList.mapM (cRes Try.prog Try.f30.ntmps) = some r30 := by kernel_rfl
def c31r0 : List AOper :=
  [{ dst := some 6, g := none, op := AOp.mv (Opd.c V.nils) }]
def c31r1 : List AOper :=
  [{ dst := some 10, g := none, op := AOp.mv (Opd.t 0) },
   { dst := some 11, g := none, op := AOp.mv (Opd.t 1) },
   { dst := some 12, g := none, op := AOp.slc (Opd.t 10) (some (Opd.t 11)) none none 2 }]
def c31r2 : List AOper :=
  [{ dst := some 13, g := none, op := AOp.mv (Opd.t 2) },
   { dst := some 14, g := none, op := AOp.lenL (Opd.t 13) },
   { dst := some 7, g := none, op := AOp.mv (Opd.t 14) }]
def c31r3 : List AOper :=
  [{ dst := some 15, g := none, op := AOp.mv (Opd.t 7) },
   { dst := some 16, g := none, op := AOp.bin BinOp.eql (Opd.t 15) (Opd.c (V.int IntKind.i64 0)) }]
def c31r4 : List AOper :=
  [{ dst := some 17, g := none, op := AOp.mv (Opd.t 0) },
   { dst := some 6, g := none, op := AOp.mv (Opd.t 17) }]
def c31r5 : List AOper :=
  [{ dst := some 18, g := none, op := AOp.mv (Opd.t 0) },
   { dst := some 19, g := none, op := AOp.lenL (Opd.t 18) },
   { dst := some 8, g := none, op := AOp.mv (Opd.t 19) }]
def c31r6 : List AOper :=
  [{ dst := some 20, g := none, op := AOp.mv (Opd.t 1) },
   { dst := some 21, g := none, op := AOp.mv (Opd.t 8) },
   { dst := some 22, g := none, op := AOp.bin BinOp.eql (Opd.t 20) (Opd.t 21) }]
def c31r7 : List AOper :=
  [{ dst := some 23, g := none, op := AOp.mv (Opd.t 0) },
   { dst := some 24, g := none, op := AOp.mv (Opd.t 2) },
   { dst := some 25, g := none, op := AOp.append (Opd.t 23) (Opd.t 24) 2 24 false },
   { dst := some 6, g := none, op := AOp.mv (Opd.t 25) }]
def c31r8 : List AOper :=
  [{ dst := some 26, g := none, op := AOp.mv (Opd.t 8) },
   { dst := some 27, g := none, op := AOp.mv (Opd.t 7) },
   { dst := some 28, g := none, op := AOp.bin BinOp.add (Opd.t 26) (Opd.t 27) },
   { dst := some 29, g := none, op := AOp.mv (Opd.t 0) },
   { dst := some 30, g := none, op := AOp.capL (Opd.t 29) },
   { dst := some 31, g := none, op := AOp.bin BinOp.gtr (Opd.t 28) (Opd.t 30) }]
def c31r9 : List AOper :=
  [{ dst := some 32, g := none, op := AOp.mv (Opd.t 0) },
   { dst := some 33, g := none, op := AOp.mv (Opd.t 1) },
   { dst := some 34, g := none, op := AOp.slc (Opd.t 32) none (some (Opd.t 33)) none 2 },
   { dst := some 35, g := none, op := AOp.mv (Opd.t 8) },
   { dst := some 36, g := none, op := AOp.mv (Opd.t 7) },
   { dst := some 37, g := none, op := AOp.bin BinOp.add (Opd.t 35) (Opd.t 36) },
   { dst := some 38, g := none, op := AOp.mv (Opd.t 1) },
   { dst := some 39, g := none, op := AOp.bin BinOp.sub (Opd.t 37) (Opd.t 38) },
   { dst := some 40, g := none, op := AOp.appendZ (Opd.t 34) (Opd.t 39) 2 [V.str [], V.int IntKind.i64 0] 24 },
   { dst := some 9, g := none, op := AOp.mv (Opd.t 40) }]
def c31r10 : List AOper :=
  [{ dst := some 41, g := none, op := AOp.mv (Opd.t 9) },
   { dst := some 42, g := none, op := AOp.mv (Opd.t 1) },
   { dst := some 43, g := none, op := AOp.slc (Opd.t 41) (some (Opd.t 42)) none none 2 },
   { dst := some 44, g := none, op := AOp.mv (Opd.t 2) },
   { dst := some 45, g := none, op := AOp.copy (Opd.t 43) (Opd.t 44) 2 }]
def c31d0 : List (AOper × List Nat) :=
  [({ dst := some 46, g := none, op := AOp.mv (Opd.t 9) }, []),
   ({ dst := some 47, g := none, op := AOp.mv (Opd.t 1) }, []),
   ({ dst := some 48, g := none, op := AOp.mv (Opd.t 7) }, []),
   ({ dst := some 49, g := none, op := AOp.bin BinOp.add (Opd.t 47) (Opd.t 48) }, [1, 2]),
   ({ dst := some 50, g := none, op := AOp.slc (Opd.t 46) (some (Opd.t 49)) none none 2 }, [0, 3]),
   ({ dst := some 51, g := none, op := AOp.mv (Opd.t 0) }, []),
   ({ dst := some 52, g := none, op := AOp.mv (Opd.t 1) }, []),
   ({ dst := some 53, g := none, op := AOp.slc (Opd.t 51) (some (Opd.t 52)) none none 2 }, [5, 6]),
   ({ dst := some 54, g := none, op := AOp.copy (Opd.t 50) (Opd.t 53) 2 }, [4, 7])]
def c31r11 : List AOper :=
  [{ dst := some 55, g := none, op := AOp.mv (Opd.t 9) },
   { dst := some 6, g := none, op := AOp.mv (Opd.t 55) }]
def c31r12 : List AOper :=
  [{ dst := some 56, g := none, op := AOp.mv (Opd.t 0) },
   { dst := some 57, g := none, op := AOp.mv (Opd.t 8) },
   { dst := some 58, g := none, op := AOp.mv (Opd.t 7) },
   { dst := some 59, g := none, op := AOp.bin BinOp.add (Opd.t 57) (Opd.t 58) },
   { dst := some 60, g := none, op := AOp.slc (Opd.t 56) none (some (Opd.t 59)) none 2 },
   { dst := some 0, g := none, op := AOp.mv (Opd.t 60) }]
def c31r13 : List AOper :=
  [{ dst := some 61, g := none, op := AOp.mv (Opd.t 2) },
   { dst := some 62, g := none, op := AOp.mv (Opd.t 0) },
   { dst := some 63, g := none, op := AOp.mv (Opd.t 1) },
   { dst := some 64, g := none, op := AOp.mv (Opd.t 7) },
   { dst := some 65, g := none, op := AOp.bin BinOp.add (Opd.t 63) (Opd.t 64) },
   { dst := some 66, g := none, op := AOp.slc (Opd.t 62) (some (Opd.t 65)) none none 2 },
   { dst := some 67, g := none, op := AOp.call (Opd.c (V.fn 39 [])) [Opd.t 61, Opd.t 66] },
   { dst := some 68, g := none, op := AOp.un UnOp.not (Opd.t 67) }]
def c31d1 : List (AOper × List Nat) :=
  [({ dst := some 69, g := none, op := AOp.mv (Opd.t 0) }, []),
   ({ dst := some 70, g := none, op := AOp.mv (Opd.t 1) }, []),
   ({ dst := some 71, g := none, op := AOp.mv (Opd.t 7) }, []),
   ({ dst := some 72, g := none, op := AOp.bin BinOp.add (Opd.t 70) (Opd.t 71) }, [1, 2]),
   ({ dst := some 73, g := none, op := AOp.slc (Opd.t 69) (some (Opd.t 72)) none none 2 }, [0, 3]),
   ({ dst := some 74, g := none, op := AOp.mv (Opd.t 0) }, []),
   ({ dst := some 75, g := none, op := AOp.mv (Opd.t 1) }, []),
   ({ dst := some 76, g := none, op := AOp.slc (Opd.t 74) (some (Opd.t 75)) none none 2 }, [5, 6]),
   ({ dst := some 77, g := none, op := AOp.copy (Opd.t 73) (Opd.t 76) 2 }, [4, 7])]
def c31r14 : List AOper :=
  [{ dst := some 78, g := none, op := AOp.mv (Opd.t 0) },
   { dst := some 79, g := none, op := AOp.mv (Opd.t 1) },
   { dst := some 80, g := none, op := AOp.slc (Opd.t 78) (some (Opd.t 79)) none none 2 },
   { dst := some 81, g := none, op := AOp.mv (Opd.t 2) },
   { dst := some 82, g := none, op := AOp.copy (Opd.t 80) (Opd.t 81) 2 }]
def c31r15 : List AOper :=
  [{ dst := some 83, g := none, op := AOp.mv (Opd.t 0) },
   { dst := some 6, g := none, op := AOp.mv (Opd.t 83) }]
def c31r16 : List AOper :=
  [{ dst := some 84, g := none, op := AOp.mv (Opd.t 0) },
   { dst := some 85, g := none, op := AOp.mv (Opd.t 8) },
   { dst := some 86, g := none, op := AOp.slc (Opd.t 84) (some (Opd.t 85)) none none 2 },
   { dst := some 87, g := none, op := AOp.mv (Opd.t 2) },
   { dst := some 88, g := none, op := AOp.copy (Opd.t 86) (Opd.t 87) 2 }]
def c31r17 : List AOper :=
  [{ dst := some 89, g := none, op := AOp.mv (Opd.t 0) },
   { dst := some 90, g := none, op := AOp.mv (Opd.t 1) },
   { dst := some 91, g := none, op := AOp.slc (Opd.t 89) (some (Opd.t 90)) none none 2 },
   { dst := some 92, g := none, op := AOp.mv (Opd.t 7) },
   { dst := some 93, g := none, op := AOp.call (Opd.c (V.fn 40 [])) [Opd.t 91, Opd.t 92] }]
def c31r18 : List AOper :=
  [{ dst := some 94, g := none, op := AOp.mv (Opd.t 0) },
   { dst := some 6, g := none, op := AOp.mv (Opd.t 94) }]
def c31 : AC := (AC.seq (AC.region c31r0) (AC.seq (AC.region c31r1) (AC.seq (AC.region c31r2) (AC.seq (AC.seq (AC.region c31r3) (AC.cond (Opd.t 16) (AC.seq (AC.region c31r4) AC.ret) AC.skip)) (AC.seq (AC.region c31r5) (AC.seq (AC.seq (AC.region c31r6) (AC.cond (Opd.t 22) (AC.seq (AC.region c31r7) AC.ret) AC.skip)) (AC.seq (AC.seq (AC.region c31r8) (AC.cond (Opd.t 31) (AC.seq (AC.region c31r9) (AC.seq (AC.region c31r10) (AC.seq (AC.drawn c31d0) (AC.seq (AC.region c31r11) AC.ret)))) AC.skip)) (AC.seq (AC.region c31r12) (AC.seq (AC.seq (AC.region c31r13) (AC.cond (Opd.t 68) (AC.seq (AC.drawn c31d1) (AC.seq (AC.region c31r14) (AC.seq (AC.region c31r15) AC.ret))) AC.skip)) (AC.seq (AC.region c31r16) (AC.seq (AC.region c31r17) (AC.seq (AC.region c31r18) AC.ret))))))))))))
def r31 : List ARes := [ARes.tmp 6]
theorem c31_ok : Try.f31.body.bind (cCode Try.prog Try.f31.ntmps) = some c31 := by kernel_rfl
theorem r31_ok : Try.f31.results.toList.mapM (cRes Try.prog Try.f31.ntmps) = some r31 := by kernel_rfl
def c32r0 : List AOper :=
  [{ dst := some 6, g := none, op := AOp.mv (Opd.c V.nils) }]
def c32r1 : List AOper :=
  [{ dst := some 8, g := none, op := AOp.mv (Opd.t 0) },
   { dst := some 9, g := none, op := AOp.mv (Opd.t 1) },
   { dst := some 10, g := none, op := AOp.mv (Opd.t 2) },
   { dst := some 11, g := none, op := AOp.mv (Opd.t 0) },
   { dst := some 12, g := none, op := AOp.lenL (Opd.t 11) },
   { dst := some 13, g := none, op := AOp.slc (Opd.t 8) (some (Opd.t 9)) (some (Opd.t 10)) (some (Opd.t 12)) 2 }]
def c32r2 : List AOper :=
  [{ dst := some 14, g := none, op := AOp.mv (Opd.t 1) },
   { dst := some 15, g := none, op := AOp.mv (Opd.t 2) },
   { dst := some 16, g := none, op := AOp.bin BinOp.eql (Opd.t 14) (Opd.t 15) }]
def c32r3 : List AOper :=
  [{ dst := some 17, g := none, op := AOp.mv (Opd.t 0) },
   { dst := some 6, g := none, op := AOp.mv (Opd.t 17) }]
def c32r4 : List AOper :=
  [{ dst := some 18, g := none, op := AOp.mv (Opd.t 0) },
   { dst := some 19, g := none, op := AOp.lenL (Opd.t 18) },
   { dst := some 7, g := none, op := AOp.mv (Opd.t 19) }]
def c32d0 : List (AOper × List Nat) :=
  [({ dst := some 20, g := none, op := AOp.mv (Opd.t 0) }, []),
   ({ dst := some 21, g := none, op := AOp.mv (Opd.t 1) }, []),
   ({ dst := some 22, g := none, op := AOp.slc (Opd.t 20) none (some (Opd.t 21)) none 2 }, [0, 1]),
   ({ dst := some 23, g := none, op := AOp.mv (Opd.t 0) }, []),
   ({ dst := some 24, g := none, op := AOp.mv (Opd.t 2) }, []),
   ({ dst := some 25, g := none, op := AOp.slc (Opd.t 23) (some (Opd.t 24)) none none 2 }, [3, 4]),
   ({ dst := some 26, g := none, op := AOp.append (Opd.t 22) (Opd.t 25) 2 24 false }, [2, 5]),
   ({ dst := some 0, g := none, op := AOp.mv (Opd.t 26) }, [6, 6, 0, 1, 2, 3, 4, 5, 6])]
def c32r5 : List AOper :=
  [{ dst := some 27, g := none, op := AOp.mv (Opd.t 0) },
   { dst := some 28, g := none, op := AOp.mv (Opd.t 0) },
   { dst := some 29, g := none, op := AOp.lenL (Opd.t 28) },
   { dst := some 30, g := none, op := AOp.mv (Opd.t 7) },
   { dst := some 31, g := none, op := AOp.slc (Opd.t 27) (some (Opd.t 29)) (some (Opd.t 30)) none 2 },
   { dst := none, g := none, op := AOp.clear (Opd.t 31) [V.str [], V.int IntKind.i64 0] }]
def c32r6 : List AOper :=
  [{ dst := some 32, g := none, op := AOp.mv (Opd.t 0) },
   { dst := some 6, g := none, op := AOp.mv (Opd.t 32) }]
def c32 : AC := (AC.seq (AC.region c32r0) (AC.seq (AC.region c32r1) (AC.seq (AC.seq (AC.region c32r2) (AC.cond (Opd.t 16) (AC.seq (AC.region c32r3) AC.ret) AC.skip)) (AC.seq (AC.region c32r4) (AC.seq (AC.drawn c32d0) (AC.seq (AC.region c32r5) (AC.seq (AC.region c32r6) AC.ret)))))))
def r32 : List ARes := [ARes.tmp 6]
theorem c32_ok : Try.f32.body.bind (cCode Try.prog Try.f32.ntmps) = some c32 := by kernel_rfl
theorem r32_ok : Try.f32.results.toList.mapM (cRes Try.prog Try.f32.ntmps) = some r32 := by kernel_rfl
def c33r0 : List AOper :=
  [{ dst := some 4, g := none, op := AOp.mv (Opd.c (V.int IntKind.i64 0)) },
   { dst := some 5, g := none, op := AOp.mv (Opd.c (V.bool false)) }]
def c33r1 : List AOper :=
  [{ dst := some 6, g := none, op := AOp.mv (Opd.t 0) },
   { dst := some 7, g := none, op := AOp.eq false 1 (Opd.t 6) (Opd.c V.nilp) }]
def c33r2 : List AOper :=
  [{ dst := some 4, g := none, op := AOp.mv (Opd.c (V.int IntKind.i64 0)) },
   { dst := some 5, g := none, op := AOp.mv (Opd.c (V.bool false)) }]
def c33r3 : List AOper :=
  [{ dst := some 8, g := none, op := AOp.mv (Opd.t 0) },
   { dst := some 9, g := none, op := AOp.nilck (Opd.t 8) },
   { dst := some 10, g := none, op := AOp.fldA (Opd.t 9) 1 },
   { dst := some 11, g := none, op := AOp.load (Opd.t 10) none },
   { dst := some 12, g := none, op := AOp.mv (Opd.t 1) },
   { dst := some 13, g := none, op := AOp.call (Opd.c (V.fn 41 [])) [Opd.t 11, Opd.t 12, Opd.c (V.fn 42 [])] },
   { dst := some 14, g := none, op := AOp.ext (Opd.t 13) 0 },
   { dst := some 15, g := none, op := AOp.ext (Opd.t 13) 1 },
   { dst := some 4, g := none, op := AOp.mv (Opd.t 14) },
   { dst := some 5, g := none, op := AOp.mv (Opd.t 15) }]
def c33 : AC := (AC.seq (AC.region c33r0) (AC.seq (AC.seq (AC.region c33r1) (AC.cond (Opd.t 7) (AC.seq (AC.region c33r2) AC.ret) AC.skip)) (AC.seq (AC.region c33r3) AC.ret)))
def r33 : List ARes := [ARes.tmp 4, ARes.tmp 5]
theorem c33_ok : Try.f33.body.bind (cCode Try.prog Try.f33.ntmps) = some c33 := by kernel_rfl
theorem r33_ok : Try.f33.results.toList.mapM (cRes Try.prog Try.f33.ntmps) = some r33 := by kernel_rfl
def c34r0 : List AOper :=
  [{ dst := some 6, g := none, op := AOp.mv (Opd.c V.nils) }]
def c34r1 : List AOper :=
  [{ dst := some 10, g := none, op := AOp.mv (Opd.t 0) },
   { dst := some 11, g := none, op := AOp.mv (Opd.t 1) },
   { dst := some 12, g := none, op := AOp.slc (Opd.t 10) (some (Opd.t 11)) none none 2 }]
def c34r2 : List AOper :=
  [{ dst := some 13, g := none, op := AOp.mv (Opd.t 2) },
   { dst := some 14, g := none, op := AOp.lenL (Opd.t 13) },
   { dst := some 7, g := none, op := AOp.mv (Opd.t 14) }]
def c34r3 : List AOper :=
  [{ dst := some 15, g := none, op := AOp.mv (Opd.t 7) },
   { dst := some 16, g := none, op := AOp.bin BinOp.eql (Opd.t 15) (Opd.c (V.int IntKind.i64 0)) }]
def c34r4 : List AOper :=
  [{ dst := some 17, g := none, op := AOp.mv (Opd.t 0) },
   { dst := some 6, g := none, op := AOp.mv (Opd.t 17) }]
def c34r5 : List AOper :=
  [{ dst := some 18, g := none, op := AOp.mv (Opd.t 0) },
   { dst := some 19, g := none, op := AOp.lenL (Opd.t 18) },
   { dst := some 8, g := none, op := AOp.mv (Opd.t 19) }]
def c34r6 : List AOper :=
  [{ dst := some 20, g := none, op := AOp.mv (Opd.t 1) },
   { dst := some 21, g := none, op := AOp.mv (Opd.t 8) },
   { dst := some 22, g := none, op := AOp.bin BinOp.eql (Opd.t 20) (Opd.t 21) }]
def c34r7 : List AOper :=
  [{ dst := some 23, g := none, op := AOp.mv (Opd.t 0) },
   { dst := some 24, g := none, op := AOp.mv (Opd.t 2) },
   { dst := some 25, g := none, op := AOp.append (Opd.t 23) (Opd.t 24) 2 32 false },
   { dst := some 6, g := none, op := AOp.mv (Opd.t 25) }]
def c34r8 : List AOper :=
  [{ dst := some 26, g := none, op := AOp.mv (Opd.t 8) },
   { dst := some 27, g := none, op := AOp.mv (Opd.t 7) },
   { dst := some 28, g := none, op := AOp.bin BinOp.add (Opd.t 26) (Opd.t 27) },
   { dst := some 29, g := none, op := AOp.mv (Opd.t 0) },
   { dst := some 30, g := none, op := AOp.capL (Opd.t 29) },
   { dst := some 31, g := none, op := AOp.bin BinOp.gtr (Opd.t 28) (Opd.t 30) }]
def c34r9 : List AOper :=
  [{ dst := some 32, g := none, op := AOp.mv (Opd.t 0) },
   { dst := some 33, g := none, op := AOp.mv (Opd.t 1) },
   { dst := some 34, g := none, op := AOp.slc (Opd.t 32) none (some (Opd.t 33)) none 2 },
   { dst := some 35, g := none, op := AOp.mv (Opd.t 8) },
   { dst := some 36, g := none, op := AOp.mv (Opd.t 7) },
   { dst := some 37, g := none, op := AOp.bin BinOp.add (Opd.t 35) (Opd.t 36) },
   { dst := some 38, g := none, op := AOp.mv (Opd.t 1) },
   { dst := some 39, g := none, op := AOp.bin BinOp.sub (Opd.t 37) (Opd.t 38) },
   { dst := some 40, g := none, op := AOp.appendZ (Opd.t 34) (Opd.t 39) 2 [V.str [], V.str []] 32 },
   { dst := some 9, g := none, op := AOp.mv (Opd.t 40) }]
def c34r10 : List AOper :=
  [{ dst := some 41, g := none, op := AOp.mv (Opd.t 9) },
   { dst := some 42, g := none, op := AOp.mv (Opd.t 1) },
   { dst := some 43, g := none, op := AOp.slc (Opd.t 41) (some (Opd.t 42)) none none 2 },
   { dst := some 44, g := none, op := AOp.mv (Opd.t 2) },
   { dst := some 45, g := none, op := AOp.copy (Opd.t 43) (Opd.t 44) 2 }]
def c34d0 : List (AOper × List Nat) :=
  [({ dst := some 46, g := none, op := AOp.mv (Opd.t 9) }, []),
   ({ dst := some 47, g := none, op := AOp.mv (Opd.t 1) }, []),
   ({ dst := some 48, g := none, op := AOp.mv (Opd.t 7) }, []),
   ({ dst := some 49, g := none, op := AOp.bin BinOp.add (Opd.t 47) (Opd.t 48) }, [1, 2]),
   ({ dst := some 50, g := none, op := AOp.slc (Opd.t 46) (some (Opd.t 49)) none none 2 }, [0, 3]),
   ({ dst := some 51, g := none, op := AOp.mv (Opd.t 0) }, []),
   ({ dst := some 52, g := none, op := AOp.mv (Opd.t 1) }, []),
   ({ dst := some 53, g := none, op := AOp.slc (Opd.t 51) (some (Opd.t 52)) none none 2 }, [5, 6]),
   ({ dst := some 54, g := none, op := AOp.copy (Opd.t 50) (Opd.t 53) 2 }, [4, 7])]
def c34r11 : List AOper :=
  [{ dst := some 55, g := none, op := AOp.mv (Opd.t 9) },
   { dst := some 6, g := none, op := AOp.mv (Opd.t 55) }]
def c34r12 : List AOper :=
  [{ dst := some 56, g := none, op := AOp.mv (Opd.t 0) },
   { dst := some 57, g := none, op := AOp.mv (Opd.t 8) },
   { dst := some 58, g := none, op := AOp.mv (Opd.t 7) },
   { dst := some 59, g := none, op := AOp.bin BinOp.add (Opd.t 57) (Opd.t 58) },
   { dst := some 60, g := none, op := AOp.slc (Opd.t 56) none (some (Opd.t 59)) none 2 },
   { dst := some 0, g := none, op := AOp.mv (Opd.t 60) }]
def c34r13 : List AOper :=
  [{ dst := some 61, g := none, op := AOp.mv (Opd.t 2) },
   { dst := some 62, g := none, op := AOp.mv (Opd.t 0) },
   { dst := some 63, g := none, op := AOp.mv (Opd.t 1) },
   { dst := some 64, g := none, op := AOp.mv (Opd.t 7) },
   { dst := some 65, g := none, op := AOp.bin BinOp.add (Opd.t 63) (Opd.t 64) },
   { dst := some 66, g := none, op := AOp.slc (Opd.t 62) (some (Opd.t 65)) none none 2 },
   { dst := some 67, g := none, op := AOp.call (Opd.c (V.fn 43 [])) [Opd.t 61, Opd.t 66] },
   { dst := some 68, g := none, op := AOp.un UnOp.not (Opd.t 67) }]
def c34d1 : List (AOper × List Nat) :=
  [({ dst := some 69, g := none, op := AOp.mv (Opd.t 0) }, []),
   ({ dst := some 70, g := none, op := AOp.mv (Opd.t 1) }, []),
   ({ dst := some 71, g := none, op := AOp.mv (Opd.t 7) }, []),
   ({ dst := some 72, g := none, op := AOp.bin BinOp.add (Opd.t 70) (Opd.t 71) }, [1, 2]),
   ({ dst := some 73, g := none, op := AOp.slc (Opd.t 69) (some (Opd.t 72)) none none 2 }, [0, 3]),
   ({ dst := some 74, g := none, op := AOp.mv (Opd.t 0) }, []),
   ({ dst := some 75, g := none, op := AOp.mv (Opd.t 1) }, []),
   ({ dst := some 76, g := none, op := AOp.slc (Opd.t 74) (some (Opd.t 75)) none none 2 }, [5, 6]),
   ({ dst := some 77, g := none, op := AOp.copy (Opd.t 73) (Opd.t 76) 2 }, [4, 7])]
def c34r14 : List AOper :=
  [{ dst := some 78, g := none, op := AOp.mv (Opd.t 0) },
   { dst := some 79, g := none, op := AOp.mv (Opd.t 1) },
   { dst := some 80, g := none, op := AOp.slc (Opd.t 78) (some (Opd.t 79)) none none 2 },
   { dst := some 81, g := none, op := AOp.mv (Opd.t 2) },
   { dst := some 82, g := none, op := AOp.copy (Opd.t 80) (Opd.t 81) 2 }]
def c34r15 : List AOper :=
  [{ dst := some 83, g := none, op := AOp.mv (Opd.t 0) },
   { dst := some 6, g := none, op := AOp.mv (Opd.t 83) }]
def c34r16 : List AOper :=
  [{ dst := some 84, g := none, op := AOp.mv (Opd.t 0) },
   { dst := some 85, g := none, op := AOp.mv (Opd.t 8) },
   { dst := some 86, g := none, op := AOp.slc (Opd.t 84) (some (Opd.t 85)) none none 2 },
   { dst := some 87, g := none, op := AOp.mv (Opd.t 2) },
   { dst := some 88, g := none, op := AOp.copy (Opd.t 86) (Opd.t 87) 2 }]
def c34r17 : List AOper :=
  [{ dst := some 89, g := none, op := AOp.mv (Opd.t 0) },
   { dst := some 90, g := none, op := AOp.mv (Opd.t 1) },
   { dst := some 91, g := none, op := AOp.slc (Opd.t 89) (some (Opd.t 90)) none none 2 },
   { dst := some 92, g := none, op := AOp.mv (Opd.t 7) },
   { dst := some 93, g := none, op := AOp.call (Opd.c (V.fn 44 [])) [Opd.t 91, Opd.t 92] }]
def c34r18 : List AOper :=
  [{ dst := some 94, g := none, op := AOp.mv (Opd.t 0) },
   { dst := some 6, g := none, op := AOp.mv (Opd.t 94) }]
def c34 : AC := (AC.seq (AC.region c34r0) (AC.seq (AC.region c34r1) (AC.seq (AC.region c34r2) (AC.seq (AC.seq (AC.region c34r3) (AC.cond (Opd.t 16) (AC.seq (AC.region c34r4) AC.ret) AC.skip)) (AC.seq (AC.region c34r5) (AC.seq (AC.seq (AC.region c34r6) (AC.cond (Opd.t 22) (AC.seq (AC.region c34r7) AC.ret) AC.skip)) (AC.seq (AC.seq (AC.region c34r8) (AC.cond (Opd.t 31) (AC.seq (AC.region c34r9) (AC.seq (AC.region c34r10) (AC.seq (AC.drawn c34d0) (AC.seq (AC.region c34r11) AC.ret)))) AC.skip)) (AC.seq (AC.region c34r12) (AC.seq (AC.seq (AC.region c34r13) (AC.cond (Opd.t 68) (AC.seq (AC.drawn c34d1) (AC.seq (AC.region c34r14) (AC.seq (AC.region c34r15) AC.ret))) AC.skip)) (AC.seq (AC.region c34r16) (AC.seq (AC.region c34r17) (AC.seq (AC.region c34r18) AC.ret))))))))))))
def r34 : List ARes := [ARes.tmp 6]
theorem c34_ok : Try.f34.body.bind (cCode Try.prog Try.f34.ntmps) = some c34 := by kernel_rfl
theorem r34_ok : Try.f34.results.toList.mapM (cRes Try.prog Try.f34.ntmps) = some r34 := by kernel_rfl
def c35r0 : List AOper :=
  [{ dst := some 6, g := none, op := AOp.mv (Opd.c V.nils) }]
def c35r1 : List AOper :=
  [{ dst := some 8, g := none, op := AOp.mv (Opd.t 0) },
   { dst := some 9, g := none, op := AOp.mv (Opd.t 1) },
   { dst := some 10, g := none, op := AOp.mv (Opd.t 2) },
   { dst := some 11, g := none, op := AOp.mv (Opd.t 0) },
   { dst := some 12, g := none, op := AOp.lenL (Opd.t 11) },
   { dst := some 13, g := none, op := AOp.slc (Opd.t 8) (some (Opd.t 9)) (some (Opd.t 10)) (some (Opd.t 12)) 2 }]
def c35r2 : List AOper :=
  [{ dst := some 14, g := none, op := AOp.mv (Opd.t 1) },
   { dst := some 15, g := none, op := AOp.mv (Opd.t 2) },
   { dst := some 16, g := none, op := AOp.bin BinOp.eql (Opd.t 14) (Opd.t 15) }]
def c35r3 : List AOper :=
  [{ dst := some 17, g := none, op := AOp.mv (Opd.t 0) },
   { dst := some 6, g := none, op := AOp.mv (Opd.t 17) }]
def c35r4 : List AOper :=
  [{ dst := some 18, g := none, op := AOp.mv (Opd.t 0) },
   { dst := some 19, g := none, op := AOp.lenL (Opd.t 18) },
   { dst := some 7, g := none, op := AOp.mv (Opd.t 19) }]
def c35d0 : List (AOper × List Nat) :=
  [({ dst := some 20, g := none, op := AOp.mv (Opd.t 0) }, []),
   ({ dst := some 21, g := none, op := AOp.mv (Opd.t 1) }, []),
   ({ dst := some 22, g := none, op := AOp.slc (Opd.t 20) none (some (Opd.t 21)) none 2 }, [0, 1]),
   ({ dst := some 23, g := none, op := AOp.mv (Opd.t 0) }, []),
   ({ dst := some 24, g := none, op := AOp.mv (Opd.t 2) }, []),
   ({ dst := some 25, g := none, op := AOp.slc (Opd.t 23) (some (Opd.t 24)) none none 2 }, [3, 4]),
   ({ dst := some 26, g := none, op := AOp.append (Opd.t 22) (Opd.t 25) 2 32 false }, [2, 5]),
   ({ dst := some 0, g := none, op := AOp.mv (Opd.t 26) }, [6, 6, 0, 1, 2, 3, 4, 5, 6])]
def c35r5 : List AOper :=
  [{ dst := some 27, g := none, op := AOp.mv (Opd.t 0) },
   { dst := some 28, g := none, op := AOp.mv (Opd.t 0) },
   { dst := some 29, g := none, op := AOp.lenL (Opd.t 28) },
   { dst := some 30, g := none, op := AOp.mv (Opd.t 7) },
   { dst := some 31, g := none, op := AOp.slc (Opd.t 27) (some (Opd.t 29)) (some (Opd.t 30)) none 2 },
   { dst := none, g := none, op := AOp.clear (Opd.t 31) [V.str [], V.str []] }]
def c35r6 : List AOper :=
  [{ dst := some 32, g := none, op := AOp.mv (Opd.t 0) },
   { dst := some 6, g := none, op := AOp.mv (Opd.t 32) }]
def c35 : AC := (AC.seq (AC.region c35r0) (AC.seq (AC.region c35r1) (AC.seq (AC.seq (AC.region c35r2) (AC.cond (Opd.t 16) (AC.seq (AC.region c35r3) AC.ret) AC.skip)) (AC.seq (AC.region c35r4) (AC.seq (AC.drawn c35d0) (AC.seq (AC.region c35r5) (AC.seq (AC.region c35r6) AC.ret)))))))
def r35 : List ARes := [ARes.tmp 6]
theorem c35_ok : Try.f35.body.bind (cCode Try.prog Try.f35.ntmps) = some c35 := by kernel_rfl
theorem r35_ok : Try.f35.results.toList.mapM (cRes Try.prog Try.f35.ntmps) = some r35 := by kernel_rfl
def c36r0 : List AOper :=
  [{ dst := some 6, g := none, op := AOp.mv (Opd.c (V.int IntKind.i64 0)) },
   { dst := some 7, g := none, op := AOp.mv (Opd.c (V.bool false)) }]
def c36r1 : List AOper :=
  [{ dst := some 12, g := none, op := AOp.mv (Opd.t 0) },
   { dst := some 13, g := none, op := AOp.lenL (Opd.t 12) },
   { dst := some 8, g := none, op := AOp.mv (Opd.t 13) }]
def c36r2 : List AOper :=
  [{ dst := some 14, g := none, op := AOp.mv (Opd.t 8) },
   { dst := some 9, g := none, op := AOp.mv (Opd.c (V.int IntKind.i64 0)) },
   { dst := some 10, g := none, op := AOp.mv (Opd.t 14) }]
def c36r3 : List AOper :=
  [{ dst := some 15, g := none, op := AOp.mv (Opd.t 9) },
   { dst := some 16, g := none, op := AOp.mv (Opd.t 10) },
   { dst := some 17, g := none, op := AOp.bin BinOp.lss (Opd.t 15) (Opd.t 16) }]
def c36r4 : List AOper :=
  [{ dst := some 18, g := none, op := AOp.mv (Opd.t 9) },
   { dst := some 19, g := none, op := AOp.mv (Opd.t 10) },
   { dst := some 20, g := none, op := AOp.bin BinOp.add (Opd.t 18) (Opd.t 19) },
   { dst := some 21, g := none, op := AOp.convI IntKind.u64 (Opd.t 20) },
   { dst := some 22, g := none, op := AOp.bin BinOp.shr (Opd.t 21) (Opd.c (V.int IntKind.u64 1)) },
   { dst := some 23, g := none, op := AOp.convI IntKind.i64 (Opd.t 22) },
   { dst := some 11, g := none, op := AOp.mv (Opd.t 23) }]
def c36r5 : List AOper :=
  [{ dst := some 24, g := none, op := AOp.mv (Opd.t 2) },
   { dst := some 25, g := none, op := AOp.mv (Opd.t 0) },
   { dst := some 26, g := none, op := AOp.mv (Opd.t 11) },
   { dst := some 27, g := none, op := AOp.idxA (Opd.t 25) (Opd.t 26) none 2 },
   { dst := some 28, g := none, op := AOp.load (Opd.t 27) (some 2) },
   { dst := some 29, g := none, op := AOp.mv (Opd.t 1) },
   { dst := some 30, g := none, op := AOp.call (Opd.t 24) [Opd.t 28, Opd.t 29] },
   { dst := some 31, g := none, op := AOp.bin BinOp.lss (Opd.t 30) (Opd.c (V.int IntKind.i64 0)) }]
def c36r6 : List AOper :=
  [{ dst := some 32, g := none, op := AOp.mv (Opd.t 11) },
   { dst := some 33, g := none, op := AOp.bin BinOp.add (Opd.t 32) (Opd.c (V.int IntKind.i64 1)) },
   { dst := some 9, g := none, op := AOp.mv (Opd.t 33) }]
def c36r7 : List AOper :=
  [{ dst := some 34, g := none, op := AOp.mv (Opd.t 11) },
   { dst := some 10, g := none, op := AOp.mv (Opd.t 34) }]
def c36l0 : AC := (AC.seq (AC.seq (AC.region c36r3) (AC.cond (Opd.t 17) AC.skip (AC.exit 0))) (AC.block 1 (AC.seq (AC.region c36r4) (AC.seq (AC.region c36r5) (AC.cond (Opd.t 31) (AC.region c36r6) (AC.region c36r7))))))
def c36r8 : List AOper :=
  [{ dst := some 35, g := none, op := AOp.mv (Opd.t 9) },
   { dst := some 36, g := none, op := AOp.mv (Opd.t 9) },
   { dst := some 37, g := none, op := AOp.mv (Opd.t 8) },
   { dst := some 38, g := none, op := AOp.bin BinOp.lss (Opd.t 36) (Opd.t 37) },
   { dst := some 39, g := none, op := AOp.mv (Opd.t 38) },
   { dst := some 40, g := some (39, true), op := AOp.mv (Opd.t 2) },
   { dst := some 41, g := some (39, true), op := AOp.mv (Opd.t 0) },
   { dst := some 42, g := some (39, true), op := AOp.mv (Opd.t 9) },
   { dst := some 43, g := some (39, true), op := AOp.idxA (Opd.t 41) (Opd.t 42) none 2 },
   { dst := some 44, g := some (39, true), op := AOp.load (Opd.t 43) (some 2) },
   { dst := some 45, g := some (39, true), op := AOp.mv (Opd.t 1) },
   { dst := some 46, g := some (39, true), op := AOp.call (Opd.t 40) [Opd.t 44, Opd.t 45] },
   { dst := some 47, g := some (39, true), op := AOp.bin BinOp.eql (Opd.t 46) (Opd.c (V.int IntKind.i64 0)) },
   { dst := some 48, g := none, op := AOp.pick (Opd.t 39) (Opd.t 47) (Opd.c (V.bool false)) },
   { dst := some 6, g := none, op := AOp.mv (Opd.t 35) },
   { dst := some 7, g := none, op := AOp.mv (Opd.t 48) }]
def c36 : AC := (AC.seq (AC.region c36r0) (AC.seq (AC.region c36r1) (AC.seq (AC.region c36r2) (AC.seq (AC.block 0 (AC.loop c36l0)) (AC.seq (AC.region c36r8) AC.ret)))))
def r36 : List ARes := [ARes.tmp 6, ARes.tmp 7]
theorem c36_ok : Try.f36.body.bind (cCode Try.prog Try.f36.ntmps) = some c36 := by kernel_rfl
theorem r36_ok : Try.f36.results.toList.mapM (cRes Try.prog Try.f36.ntmps) = some r36 := by kernel_rfl
def c37r0 : List AOper :=
  [{ dst := some 2, g := none, op := AOp.box (Opd.t 0) },
   { dst := some 4, g := none, op := AOp.mv (Opd.c (V.int IntKind.i64 0)) }]
def c37r1 : List AOper :=
  [{ dst := some 5, g := none, op := AOp.fldA (Opd.t 2) 0 },
   { dst := some 6, g := none, op := AOp.load (Opd.t 5) none },
   { dst := some 7, g := none, op := AOp.mv (Opd.t 1) },
   { dst := some 8, g := none, op := AOp.call (Opd.c (V.fn 38 [])) [Opd.t 6, Opd.t 7] },
   { dst := some 4, g := none, op := AOp.mv (Opd.t 8) }]
def c37 : AC := (AC.seq (AC.region c37r0) (AC.seq (AC.region c37r1) AC.ret))
def r37 : List ARes := [ARes.tmp 4]
theorem c37_ok : Try.f37.body.bind (cCode Try.prog Try.f37.ntmps) = some c37 := by kernel_rfl
theorem r37_ok : Try.f37.results.toList.mapM (cRes Try.prog Try.f37.ntmps) = some r37 := by kernel_rfl
def c38r0 : List AOper :=
  [{ dst := some 4, g := none, op := AOp.mv (Opd.c (V.int IntKind.i64 0)) }]
def c38r1 : List AOper :=
  [{ dst := some 5, g := none, op := AOp.mv (Opd.t 0) },
   { dst := some 6, g := none, op := AOp.mv (Opd.t 1) },
   { dst := some 7, g := none, op := AOp.call (Opd.c (V.fn 45 [])) [Opd.t 5, Opd.t 6] },
   { dst := some 4, g := none, op := AOp.mv (Opd.t 7) }]
def c38 : AC := (AC.seq (AC.region c38r0) (AC.seq (AC.region c38r1) AC.ret))
def r38 : List ARes := [ARes.tmp 4]
theorem c38_ok : Try.f38.body.bind (cCode Try.prog Try.f38.ntmps) = some c38 := by kernel_rfl
theorem r38_ok : Try.f38.results.toList.mapM (cRes Try.prog Try.f38.ntmps) = some r38 := by kernel_rfl
def c41r0 : List AOper :=
  [{ dst := some 6, g := none, op := AOp.mv (Opd.c (V.int IntKind.i64 0)) },
   { dst := some 7, g := none, op := AOp.mv (Opd.c (V.bool false)) }]
def c41r1 : List AOper :=
  [{ dst := some 12, g := none, op := AOp.mv (Opd.t 0) },
   { dst := some 13, g := none, op := AOp.lenL (Opd.t 12) },
   { dst := some 8, g := none, op := AOp.mv (Opd.t 13) }]
def c41r2 : List AOper :=
  [{ dst := some 14, g := none, op := AOp.mv (Opd.t 8) },
   { dst := some 9, g := none, op := AOp.mv (Opd.c (V.int IntKind.i64 0)) },
   { dst := some 10, g := none, op := AOp.mv (Opd.t 14) }]
def c41r3 : List AOper :=
  [{ dst := some 15, g := none, op := AOp.mv (Opd.t 9) },
   { dst := some 16, g := none, op := AOp.mv (Opd.t 10) },
   { dst := some 17, g := none, op := AOp.bin BinOp.lss (Opd.t 15) (Opd.t 16) }]
def c41r4 : List AOper :=
  [{ dst := some 18, g := none, op := AOp.mv (Opd.t 9) },
   { dst := some 19, g := none, op := AOp.mv (Opd.t 10) },
   { dst := some 20, g := none, op := AOp.bin BinOp.add (Opd.t 18) (Opd.t 19) },
   { dst := some 21, g := none, op := AOp.convI IntKind.u64 (Opd.t 20) },
   { dst := some 22, g := none, op := AOp.bin BinOp.shr (Opd.t 21) (Opd.c (V.int IntKind.u64 1)) },
   { dst := some 23, g := none, op := AOp.convI IntKind.i64 (Opd.t 22) },
   { dst := some 11, g := none, op := AOp.mv (Opd.t 23) }]
def c41r5 : List AOper :=
  [{ dst := some 24, g := none, op := AOp.mv (Opd.t 2) },
   { dst := some 25, g := none, op := AOp.mv (Opd.t 0) },
   { dst := some 26, g := none, op := AOp.mv (Opd.t 11) },
   { dst := some 27, g := none, op := AOp.idxA (Opd.t 25) (Opd.t 26) none 2 },
   { dst := some 28, g := none, op := AOp.load (Opd.t 27) (some 2) },
   { dst := some 29, g := none, op := AOp.mv (Opd.t 1) },
   { dst := some 30, g := none, op := AOp.call (Opd.t 24) [Opd.t 28, Opd.t 29] },
   { dst := some 31, g := none, op := AOp.bin BinOp.lss (Opd.t 30) (Opd.c (V.int IntKind.i64 0)) }]
def c41r6 : List AOper :=
  [{ dst := some 32, g := none, op := AOp.mv (Opd.t 11) },
   { dst := some 33, g := none, op := AOp.bin BinOp.add (Opd.t 32) (Opd.c (V.int IntKind.i64 1)) },
   { dst := some 9, g := none, op := AOp.mv (Opd.t 33) }]
def c41r7 : List AOper :=
  [{ dst := some 34, g := none, op := AOp.mv (Opd.t 11) },
   { dst := some 10, g := none, op := AOp.mv (Opd.t 34) }]
def c41l0 : AC := (AC.seq (AC.seq (AC.region c41r3) (AC.cond (Opd.t 17) AC.skip (AC.exit 0))) (AC.block 1 (AC.seq (AC.region c41r4) (AC.seq (AC.region c41r5) (AC.cond (Opd.t 31) (AC.region c41r6) (AC.region c41r7))))))
def c41r8 : List AOper :=
  [{ dst := some 35, g := none, op := AOp.mv (Opd.t 9) },
   { dst := some 36, g := none, op := AOp.mv (Opd.t 9) },
   { dst := some 37, g := none, op := AOp.mv (Opd.t 8) },
   { dst := some 38, g := none, op := AOp.bin BinOp.lss (Opd.t 36) (Opd.t 37) },
   { dst := some 39, g := none, op := AOp.mv (Opd.t 38) },
   { dst := some 40, g := some (39, true), op := AOp.mv (Opd.t 2) },
   { dst := some 41, g := some (39, true), op := AOp.mv (Opd.t 0) },
   { dst := some 42, g := some (39, true), op := AOp.mv (Opd.t 9) },
   { dst := some 43, g := some (39, true), op := AOp.idxA (Opd.t 41) (Opd.t 42) none 2 },
   { dst := some 44, g := some (39, true), op := AOp.load (Opd.t 43) (some 2) },
   { dst := some 45, g := some (39, true), op := AOp.mv (Opd.t 1) },
   { dst := some 46, g := some (39, true), op := AOp.call (Opd.t 40) [Opd.t 44, Opd.t 45] },
   { dst := some 47, g := some (39, true), op := AOp.bin BinOp.eql (Opd.t 46) (Opd.c (V.int IntKind.i64 0)) },
   { dst := some 48, g := none, op := AOp.pick (Opd.t 39) (Opd.t 47) (Opd.c (V.bool false)) },
   { dst := some 6, g := none, op := AOp.mv (Opd.t 35) },
   { dst := some 7, g := none, op := AOp.mv (Opd.t 48) }]
def c41 : AC := (AC.seq (AC.region c41r0) (AC.seq (AC.region c41r1) (AC.seq (AC.region c41r2) (AC.seq (AC.block 0 (AC.loop c41l0)) (AC.seq (AC.region c41r8) AC.ret)))))
def r41 : List ARes := [ARes.tmp 6, ARes.tmp 7]
theorem c41_ok : Try.f41.body.bind (cCode Try.prog Try.f41.ntmps) = some c41 := by kernel_rfl
theorem r41_ok : Try.f41.results.toList.mapM (cRes Try.prog Try.f41.ntmps) = some r41 := by kernel_rfl
def c42r0 : List AOper :=
  [{ dst := some 2, g := none, op := AOp.box (Opd.t 0) },
   { dst := some 4, g := none, op := AOp.mv (Opd.c (V.int IntKind.i64 0)) }]
def c42r1 : List AOper :=
  [{ dst := some 5, g := none, op := AOp.fldA (Opd.t 2) 0 },
   { dst := some 6, g := none, op := AOp.load (Opd.t 5) none },
   { dst := some 7, g := none, op := AOp.mv (Opd.t 1) },
   { dst := some 8, g := none, op := AOp.call (Opd.c (V.fn 38 [])) [Opd.t 6, Opd.t 7] },
   { dst := some 4, g := none, op := AOp.mv (Opd.t 8) }]
def c42 : AC := (AC.seq (AC.region c42r0) (AC.seq (AC.region c42r1) AC.ret))
def r42 : List ARes := [ARes.tmp 4]
theorem c42_ok : Try.f42.body.bind (cCode Try.prog Try.f42.ntmps) = some c42 := by kernel_rfl
theorem r42_ok : Try.f42.results.toList.mapM (cRes Try.prog Try.f42.ntmps) = some r42 := by kernel_rfl
def c45r0 : List AOper :=
  [{ dst := some 4, g := none, op := AOp.mv (Opd.c (V.int IntKind.i64 0)) }]
def c45r1 : List AOper :=
  [{ dst := some 5, g := none, op := AOp.mv (Opd.t 0) },
   { dst := some 6, g := none, op := AOp.mv (Opd.t 1) },
   { dst := some 7, g := none, op := AOp.call (Opd.c (V.fn 48 [])) [Opd.t 5, Opd.t 6] },
   { dst := some 4, g := none, op := AOp.mv (Opd.t 7) }]
def c45 : AC := (AC.seq (AC.region c45r0) (AC.seq (AC.region c45r1) AC.ret))
def r45 : List ARes := [ARes.tmp 4]
theorem c45_ok : Try.f45.body.bind (cCode Try.prog Try.f45.ntmps) = some c45 := by kernel_rfl
theorem r45_ok : Try.f45.results.toList.mapM (cRes Try.prog Try.f45.ntmps) = some r45 := by kernel_rfl
end Go.Proofs.Ytoopckhogehdmaa
