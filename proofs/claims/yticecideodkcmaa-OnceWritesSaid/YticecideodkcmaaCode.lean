/-
  The abstract code of some functions: written by a program (wip/tools/gen.py); held against the translation by Lean.
-/
import Derived.Test.YticecideodkcmaaProg
import Derived.Test.YticecideodkcmaaSx6
import Derived.KernelRfl
namespace Go.Proofs.Yticecideodkcmaa
open Sx Go
set_option maxRecDepth 100000
def c3r0 : List AOper :=
  [{ dst := some 4, g := none, op := AOp.box (Opd.t 1) },
   { dst := some 5, g := none, op := AOp.box (Opd.t 2) },
   { dst := some 6, g := none, op := AOp.mv (Opd.c (V.bool false)) }]
def c3r1 : List AOper :=
  [{ dst := some 15, g := none, op := AOp.mv (Opd.t 0) },
   { dst := some 16, g := none, op := AOp.call (Opd.c (V.fn 8 [])) [Opd.t 15] },
   { dst := some 17, g := none, op := AOp.un UnOp.not (Opd.t 16) },
   { dst := some 18, g := none, op := AOp.mv (Opd.t 17) },
   { dst := some 19, g := some (18, false), op := AOp.load (Opd.t 5) (some 7) },
   { dst := some 20, g := some (18, false), op := AOp.bslice 1 7 [V.int IntKind.i64 0, V.int IntKind.i64 0, V.int IntKind.i64 0, V.str [], V.bool false, V.nils, V.str []] [(0, Opd.t 19)] },
   { dst := some 21, g := some (18, false), op := AOp.call (Opd.c (V.fn 8 [])) [Opd.t 20] },
   { dst := some 22, g := some (18, false), op := AOp.un UnOp.not (Opd.t 21) },
   { dst := some 23, g := none, op := AOp.pick (Opd.t 18) (Opd.c (V.bool true)) (Opd.t 22) }]
def c3r2 : List AOper :=
  [{ dst := some 24, g := none, op := AOp.call (Opd.c (V.fn 9 [])) [] },
   { dst := some 6, g := none, op := AOp.mv (Opd.t 24) }]
def c3r3 : List AOper :=
  [{ dst := some 26, g := none, op := AOp.mv (Opd.t 0) },
   { dst := some 27, g := none, op := AOp.idxA (Opd.t 4) (Opd.c (V.int IntKind.i64 0)) (some 2) 1 },
   { dst := some 28, g := none, op := AOp.load (Opd.t 27) none },
   { dst := some 29, g := none, op := AOp.idxA (Opd.t 4) (Opd.c (V.int IntKind.i64 1)) (some 2) 1 },
   { dst := some 30, g := none, op := AOp.load (Opd.t 29) none },
   { dst := some 31, g := none, op := AOp.call (Opd.c (V.fn 10 [])) [Opd.t 26, Opd.t 28, Opd.t 30] },
   { dst := some 25, g := none, op := AOp.mv (Opd.t 31) },
   { dst := some 32, g := none, op := AOp.ext (Opd.t 25) 0 },
   { dst := some 33, g := none, op := AOp.ext (Opd.t 25) 1 },
   { dst := some 7, g := none, op := AOp.alloc [V.int IntKind.i64 0, V.str [], V.bool false, V.nils, V.str []] },
   { dst := none, g := none, op := AOp.store (Opd.t 7) (Opd.t 32) 5 },
   { dst := some 8, g := none, op := AOp.mv (Opd.t 33) }]
def c3r4 : List AOper :=
  [{ dst := some 35, g := none, op := AOp.mv (Opd.t 0) },
   { dst := some 36, g := none, op := AOp.idxA (Opd.t 4) (Opd.c (V.int IntKind.i64 0)) (some 2) 1 },
   { dst := some 37, g := none, op := AOp.load (Opd.t 36) none },
   { dst := some 38, g := none, op := AOp.idxA (Opd.t 4) (Opd.c (V.int IntKind.i64 1)) (some 2) 1 },
   { dst := some 39, g := none, op := AOp.load (Opd.t 38) none },
   { dst := some 40, g := none, op := AOp.call (Opd.c (V.fn 11 [])) [Opd.t 35, Opd.t 37, Opd.t 39] },
   { dst := some 34, g := none, op := AOp.mv (Opd.t 40) },
   { dst := some 41, g := none, op := AOp.ext (Opd.t 34) 0 },
   { dst := some 42, g := none, op := AOp.ext (Opd.t 34) 1 },
   { dst := some 9, g := none, op := AOp.alloc [V.int IntKind.i64 0, V.str [], V.bool false, V.nils, V.str []] },
   { dst := none, g := none, op := AOp.store (Opd.t 9) (Opd.t 41) 5 },
   { dst := some 10, g := none, op := AOp.mv (Opd.t 42) }]
def c3r5 : List AOper :=
  [{ dst := some 44, g := none, op := AOp.mv (Opd.t 0) },
   { dst := some 45, g := none, op := AOp.load (Opd.t 5) (some 7) },
   { dst := some 46, g := none, op := AOp.call (Opd.c (V.fn 12 [])) [Opd.t 44, Opd.t 45] },
   { dst := some 43, g := none, op := AOp.mv (Opd.t 46) },
   { dst := some 47, g := none, op := AOp.ext (Opd.t 43) 0 },
   { dst := some 48, g := none, op := AOp.ext (Opd.t 43) 1 },
   { dst := some 11, g := none, op := AOp.mv (Opd.t 47) },
   { dst := some 12, g := none, op := AOp.mv (Opd.t 48) }]
def c3r6 : List AOper :=
  [{ dst := some 50, g := none, op := AOp.mv (Opd.t 0) },
   { dst := some 51, g := none, op := AOp.load (Opd.t 5) (some 7) },
   { dst := some 52, g := none, op := AOp.call (Opd.c (V.fn 13 [])) [Opd.t 50, Opd.t 51] },
   { dst := some 49, g := none, op := AOp.mv (Opd.t 52) },
   { dst := some 53, g := none, op := AOp.ext (Opd.t 49) 0 },
   { dst := some 54, g := none, op := AOp.ext (Opd.t 49) 1 },
   { dst := some 13, g := none, op := AOp.mv (Opd.t 53) },
   { dst := some 14, g := none, op := AOp.mv (Opd.t 54) }]
def c3r7 : List AOper :=
  [{ dst := some 55, g := none, op := AOp.load (Opd.t 7) (some 5) },
   { dst := some 56, g := none, op := AOp.load (Opd.t 9) (some 5) },
   { dst := some 57, g := none, op := AOp.call (Opd.c (V.fn 14 [])) [Opd.t 55, Opd.t 56] },
   { dst := some 58, g := none, op := AOp.mv (Opd.t 57) },
   { dst := some 59, g := some (58, true), op := AOp.mv (Opd.t 8) },
   { dst := some 60, g := some (58, true), op := AOp.mv (Opd.t 10) },
   { dst := some 61, g := some (58, true), op := AOp.bin BinOp.eql (Opd.t 59) (Opd.t 60) },
   { dst := some 62, g := none, op := AOp.pick (Opd.t 58) (Opd.t 61) (Opd.c (V.bool false)) },
   { dst := some 63, g := none, op := AOp.mv (Opd.t 62) },
   { dst := some 64, g := some (63, true), op := AOp.mv (Opd.t 11) },
   { dst := some 65, g := some (63, true), op := AOp.mv (Opd.t 13) },
   { dst := some 66, g := some (63, true), op := AOp.call (Opd.c (V.fn 15 [])) [Opd.t 64, Opd.t 65] },
   { dst := some 67, g := none, op := AOp.pick (Opd.t 63) (Opd.t 66) (Opd.c (V.bool false)) },
   { dst := some 68, g := none, op := AOp.mv (Opd.t 67) },
   { dst := some 69, g := some (68, true), op := AOp.mv (Opd.t 12) },
   { dst := some 70, g := some (68, true), op := AOp.mv (Opd.t 14) },
   { dst := some 71, g := some (68, true), op := AOp.bin BinOp.eql (Opd.t 69) (Opd.t 70) },
   { dst := some 72, g := none, op := AOp.pick (Opd.t 68) (Opd.t 71) (Opd.c (V.bool false)) },
   { dst := some 73, g := none, op := AOp.mv (Opd.t 72) },
   { dst := some 74, g := some (73, true), op := AOp.mv (Opd.t 0) },
   { dst := some 75, g := some (73, true), op := AOp.call (Opd.c (V.fn 16 [])) [Opd.t 74] },
   { dst := some 76, g := some (73, true), op := AOp.mv (Opd.t 0) },
   { dst := some 77, g := some (73, true), op := AOp.call (Opd.c (V.fn 17 [])) [Opd.t 76] },
   { dst := some 78, g := some (73, true), op := AOp.bin BinOp.eql (Opd.t 75) (Opd.t 77) },
   { dst := some 79, g := none, op := AOp.pick (Opd.t 73) (Opd.t 78) (Opd.c (V.bool false)) },
   { dst := some 80, g := none, op := AOp.mv (Opd.t 79) },
   { dst := some 81, g := some (80, true), op := AOp.call (Opd.c (V.fn 9 [])) [] },
   { dst := some 82, g := none, op := AOp.pick (Opd.t 80) (Opd.t 81) (Opd.c (V.bool false)) },
   { dst := some 6, g := none, op := AOp.mv (Opd.t 82) }]
def c3 : AC := (AC.seq (AC.region c3r0) (AC.seq (AC.seq (AC.region c3r1) (AC.cond (Opd.t 23) (AC.seq (AC.region c3r2) AC.ret) AC.skip)) (AC.seq (AC.region c3r3) (AC.seq (AC.region c3r4) (AC.seq (AC.region c3r5) (AC.seq (AC.region c3r6) (AC.seq (AC.region c3r7) AC.ret)))))))
def r3 : List ARes := [ARes.tmp 6]
theorem c3_ok : Try.f3.body.bind (cCode Try.prog Try.f3.ntmps) = some c3 := by kernel_rfl
theorem r3_ok : Try.f3.results.toList.mapM (cRes Try.prog Try.f3.ntmps) = some r3 := by kernel_rfl
def c4r0 : List AOper :=
  [{ dst := some 4, g := none, op := AOp.box (Opd.t 1) },
   { dst := some 6, g := none, op := AOp.mv (Opd.c (V.bool false)) }]
def c4r1 : List AOper :=
  [{ dst := some 21, g := none, op := AOp.mv (Opd.t 0) },
   { dst := some 22, g := none, op := AOp.call (Opd.c (V.fn 8 [])) [Opd.t 21] },
   { dst := some 23, g := none, op := AOp.un UnOp.not (Opd.t 22) },
   { dst := some 24, g := none, op := AOp.mv (Opd.t 23) },
   { dst := some 25, g := some (24, false), op := AOp.load (Opd.t 4) (some 7) },
   { dst := some 26, g := some (24, false), op := AOp.bslice 1 7 [V.int IntKind.i64 0, V.int IntKind.i64 0, V.int IntKind.i64 0, V.str [], V.bool false, V.nils, V.str []] [(0, Opd.t 25)] },
   { dst := some 27, g := some (24, false), op := AOp.call (Opd.c (V.fn 8 [])) [Opd.t 26] },
   { dst := some 28, g := some (24, false), op := AOp.un UnOp.not (Opd.t 27) },
   { dst := some 29, g := none, op := AOp.pick (Opd.t 24) (Opd.c (V.bool true)) (Opd.t 28) },
   { dst := some 30, g := none, op := AOp.mv (Opd.t 29) },
   { dst := some 31, g := some (30, false), op := AOp.load (Opd.t 4) (some 7) },
   { dst := some 32, g := some (30, false), op := AOp.bslice 1 7 [V.int IntKind.i64 0, V.int IntKind.i64 0, V.int IntKind.i64 0, V.str [], V.bool false, V.nils, V.str []] [(0, Opd.t 31)] },
   { dst := some 33, g := some (30, false), op := AOp.call (Opd.c (V.fn 17 [])) [Opd.t 32] },
   { dst := some 34, g := some (30, false), op := AOp.bin BinOp.neq (Opd.t 33) (Opd.c (V.int IntKind.i64 0)) },
   { dst := some 35, g := none, op := AOp.pick (Opd.t 30) (Opd.c (V.bool true)) (Opd.t 34) }]
def c4r2 : List AOper :=
  [{ dst := some 36, g := none, op := AOp.call (Opd.c (V.fn 9 [])) [] },
   { dst := some 6, g := none, op := AOp.mv (Opd.t 36) }]
def c4r3 : List AOper :=
  [{ dst := some 37, g := none, op := AOp.mv (Opd.t 0) },
   { dst := some 38, g := none, op := AOp.call (Opd.c (V.fn 18 [])) [Opd.t 37] },
   { dst := some 7, g := none, op := AOp.mv (Opd.t 38) }]
def c4r4 : List AOper :=
  [{ dst := some 40, g := none, op := AOp.mv (Opd.t 7) },
   { dst := some 41, g := none, op := AOp.load (Opd.t 4) (some 7) },
   { dst := some 42, g := none, op := AOp.call (Opd.c (V.fn 12 [])) [Opd.t 40, Opd.t 41] },
   { dst := some 39, g := none, op := AOp.mv (Opd.t 42) },
   { dst := some 43, g := none, op := AOp.ext (Opd.t 39) 0 },
   { dst := some 44, g := none, op := AOp.ext (Opd.t 39) 1 },
   { dst := some 8, g := none, op := AOp.mv (Opd.t 43) },
   { dst := some 9, g := none, op := AOp.mv (Opd.t 44) }]
def c4r5 : List AOper :=
  [{ dst := some 45, g := none, op := AOp.mv (Opd.t 9) },
   { dst := some 46, g := none, op := AOp.bin BinOp.neq (Opd.t 45) (Opd.c (V.int IntKind.i64 0)) }]
def c4r6 : List AOper :=
  [{ dst := some 48, g := none, op := AOp.mv (Opd.t 7) },
   { dst := some 49, g := none, op := AOp.fldA (Opd.t 4) 0 },
   { dst := some 50, g := none, op := AOp.load (Opd.t 49) none },
   { dst := some 51, g := none, op := AOp.fldA (Opd.t 4) 1 },
   { dst := some 52, g := none, op := AOp.load (Opd.t 51) none },
   { dst := some 53, g := none, op := AOp.call (Opd.c (V.fn 10 [])) [Opd.t 48, Opd.t 50, Opd.t 52] },
   { dst := some 47, g := none, op := AOp.mv (Opd.t 53) },
   { dst := some 54, g := none, op := AOp.ext (Opd.t 47) 0 },
   { dst := some 55, g := none, op := AOp.ext (Opd.t 47) 1 },
   { dst := some 10, g := none, op := AOp.alloc [V.int IntKind.i64 0, V.str [], V.bool false, V.nils, V.str []] },
   { dst := none, g := none, op := AOp.store (Opd.t 10) (Opd.t 54) 5 },
   { dst := some 11, g := none, op := AOp.mv (Opd.t 55) }]
def c4r7 : List AOper :=
  [{ dst := some 56, g := none, op := AOp.mv (Opd.t 9) },
   { dst := some 57, g := none, op := AOp.bin BinOp.eql (Opd.t 56) (Opd.c (V.int IntKind.i64 140)) },
   { dst := some 58, g := none, op := AOp.mv (Opd.t 57) },
   { dst := some 59, g := some (58, true), op := AOp.mv (Opd.t 11) },
   { dst := some 60, g := some (58, true), op := AOp.bin BinOp.eql (Opd.t 59) (Opd.c (V.int IntKind.i64 0)) },
   { dst := some 61, g := some (58, true), op := AOp.mv (Opd.t 60) },
   { dst := some 62, g := some (61, false), op := AOp.mv (Opd.t 11) },
   { dst := some 63, g := some (61, false), op := AOp.bin BinOp.eql (Opd.t 62) (Opd.c (V.int IntKind.i64 140)) },
   { dst := some 64, g := some (58, true), op := AOp.pick (Opd.t 61) (Opd.c (V.bool true)) (Opd.t 63) },
   { dst := some 65, g := none, op := AOp.pick (Opd.t 58) (Opd.t 64) (Opd.c (V.bool false)) },
   { dst := some 66, g := none, op := AOp.mv (Opd.t 65) },
   { dst := some 67, g := some (66, true), op := AOp.mv (Opd.t 8) },
   { dst := some 68, g := some (66, true), op := AOp.lenL (Opd.t 67) },
   { dst := some 69, g := some (66, true), op := AOp.bin BinOp.eql (Opd.t 68) (Opd.c (V.int IntKind.i64 0)) },
   { dst := some 70, g := none, op := AOp.pick (Opd.t 66) (Opd.t 69) (Opd.c (V.bool false)) },
   { dst := some 71, g := none, op := AOp.mv (Opd.t 70) },
   { dst := some 72, g := some (71, true), op := AOp.call (Opd.c (V.fn 9 [])) [] },
   { dst := some 73, g := none, op := AOp.pick (Opd.t 71) (Opd.t 72) (Opd.c (V.bool false)) },
   { dst := some 6, g := none, op := AOp.mv (Opd.t 73) }]
def c4r8 : List AOper :=
  [{ dst := some 75, g := none, op := AOp.mv (Opd.t 8) },
   { dst := some 76, g := none, op := AOp.fldA (Opd.t 4) 0 },
   { dst := some 77, g := none, op := AOp.load (Opd.t 76) none },
   { dst := some 78, g := none, op := AOp.fldA (Opd.t 4) 1 },
   { dst := some 79, g := none, op := AOp.load (Opd.t 78) none },
   { dst := some 80, g := none, op := AOp.call (Opd.c (V.fn 10 [])) [Opd.t 75, Opd.t 77, Opd.t 79] },
   { dst := some 74, g := none, op := AOp.mv (Opd.t 80) },
   { dst := some 81, g := none, op := AOp.ext (Opd.t 74) 0 },
   { dst := some 82, g := none, op := AOp.ext (Opd.t 74) 1 },
   { dst := some 12, g := none, op := AOp.alloc [V.int IntKind.i64 0, V.str [], V.bool false, V.nils, V.str []] },
   { dst := none, g := none, op := AOp.store (Opd.t 12) (Opd.t 81) 5 },
   { dst := some 13, g := none, op := AOp.mv (Opd.t 82) }]
def c4r9 : List AOper :=
  [{ dst := some 84, g := none, op := AOp.mv (Opd.t 8) },
   { dst := some 85, g := none, op := AOp.load (Opd.t 4) (some 7) },
   { dst := some 86, g := none, op := AOp.call (Opd.c (V.fn 12 [])) [Opd.t 84, Opd.t 85] },
   { dst := some 83, g := none, op := AOp.mv (Opd.t 86) },
   { dst := some 87, g := none, op := AOp.ext (Opd.t 83) 0 },
   { dst := some 88, g := none, op := AOp.ext (Opd.t 83) 1 },
   { dst := some 14, g := none, op := AOp.mv (Opd.t 87) },
   { dst := some 15, g := none, op := AOp.mv (Opd.t 88) }]
def c4r10 : List AOper :=
  [{ dst := some 89, g := none, op := AOp.mv (Opd.t 2) },
   { dst := some 90, g := none, op := AOp.bin BinOp.and (Opd.t 89) (Opd.c (V.int IntKind.i64 7)) },
   { dst := some 16, g := none, op := AOp.mv (Opd.t 90) }]
def c4r11 : List AOper :=
  [{ dst := some 92, g := none, op := AOp.mv (Opd.t 7) },
   { dst := some 93, g := none, op := AOp.mv (Opd.t 16) },
   { dst := some 94, g := none, op := AOp.call (Opd.c (V.fn 10 [])) [Opd.t 92, Opd.t 93, Opd.c (V.int IntKind.i64 5)] },
   { dst := some 91, g := none, op := AOp.mv (Opd.t 94) },
   { dst := some 95, g := none, op := AOp.ext (Opd.t 91) 0 },
   { dst := some 96, g := none, op := AOp.ext (Opd.t 91) 1 },
   { dst := some 17, g := none, op := AOp.alloc [V.int IntKind.i64 0, V.str [], V.bool false, V.nils, V.str []] },
   { dst := none, g := none, op := AOp.store (Opd.t 17) (Opd.t 95) 5 },
   { dst := some 18, g := none, op := AOp.mv (Opd.t 96) }]
def c4r12 : List AOper :=
  [{ dst := some 98, g := none, op := AOp.mv (Opd.t 8) },
   { dst := some 99, g := none, op := AOp.mv (Opd.t 16) },
   { dst := some 100, g := none, op := AOp.call (Opd.c (V.fn 10 [])) [Opd.t 98, Opd.t 99, Opd.c (V.int IntKind.i64 5)] },
   { dst := some 97, g := none, op := AOp.mv (Opd.t 100) },
   { dst := some 101, g := none, op := AOp.ext (Opd.t 97) 0 },
   { dst := some 102, g := none, op := AOp.ext (Opd.t 97) 1 },
   { dst := some 19, g := none, op := AOp.alloc [V.int IntKind.i64 0, V.str [], V.bool false, V.nils, V.str []] },
   { dst := none, g := none, op := AOp.store (Opd.t 19) (Opd.t 101) 5 },
   { dst := some 20, g := none, op := AOp.mv (Opd.t 102) }]
def c4r13 : List AOper :=
  [{ dst := some 103, g := none, op := AOp.mv (Opd.t 13) },
   { dst := some 104, g := none, op := AOp.bin BinOp.eql (Opd.t 103) (Opd.c (V.int IntKind.i64 0)) },
   { dst := some 105, g := none, op := AOp.mv (Opd.t 104) },
   { dst := some 106, g := some (105, true), op := AOp.load (Opd.t 12) (some 5) },
   { dst := some 107, g := some (105, true), op := AOp.fldA (Opd.t 4) 2 },
   { dst := some 108, g := some (105, true), op := AOp.load (Opd.t 107) (some 5) },
   { dst := some 109, g := some (105, true), op := AOp.call (Opd.c (V.fn 14 [])) [Opd.t 106, Opd.t 108] },
   { dst := some 110, g := none, op := AOp.pick (Opd.t 105) (Opd.t 109) (Opd.c (V.bool false)) },
   { dst := some 111, g := none, op := AOp.mv (Opd.t 110) },
   { dst := some 112, g := some (111, true), op := AOp.mv (Opd.t 15) },
   { dst := some 113, g := some (111, true), op := AOp.bin BinOp.eql (Opd.t 112) (Opd.c (V.int IntKind.i64 140)) },
   { dst := some 114, g := none, op := AOp.pick (Opd.t 111) (Opd.t 113) (Opd.c (V.bool false)) },
   { dst := some 115, g := none, op := AOp.mv (Opd.t 114) },
   { dst := some 116, g := some (115, true), op := AOp.mv (Opd.t 16) },
   { dst := some 117, g := some (115, true), op := AOp.fldA (Opd.t 4) 0 },
   { dst := some 118, g := some (115, true), op := AOp.load (Opd.t 117) none },
   { dst := some 119, g := some (115, true), op := AOp.bin BinOp.eql (Opd.t 116) (Opd.t 118) },
   { dst := some 120, g := some (115, true), op := AOp.mv (Opd.t 119) },
   { dst := some 121, g := some (120, false), op := AOp.load (Opd.t 17) (some 5) },
   { dst := some 122, g := some (120, false), op := AOp.load (Opd.t 19) (some 5) },
   { dst := some 123, g := some (120, false), op := AOp.call (Opd.c (V.fn 14 [])) [Opd.t 121, Opd.t 122] },
   { dst := some 124, g := some (120, false), op := AOp.mv (Opd.t 123) },
   { dst := some 125, g := some (124, true), op := AOp.mv (Opd.t 18) },
   { dst := some 126, g := some (124, true), op := AOp.mv (Opd.t 20) },
   { dst := some 127, g := some (124, true), op := AOp.bin BinOp.eql (Opd.t 125) (Opd.t 126) },
   { dst := some 128, g := some (120, false), op := AOp.pick (Opd.t 124) (Opd.t 127) (Opd.c (V.bool false)) },
   { dst := some 129, g := some (115, true), op := AOp.pick (Opd.t 120) (Opd.c (V.bool true)) (Opd.t 128) },
   { dst := some 130, g := none, op := AOp.pick (Opd.t 115) (Opd.t 129) (Opd.c (V.bool false)) },
   { dst := some 131, g := none, op := AOp.mv (Opd.t 130) },
   { dst := some 132, g := some (131, true), op := AOp.mv (Opd.t 8) },
   { dst := some 133, g := some (131, true), op := AOp.call (Opd.c (V.fn 16 [])) [Opd.t 132] },
   { dst := some 134, g := some (131, true), op := AOp.bin BinOp.eql (Opd.t 133) (Opd.c (V.int IntKind.i64 0)) },
   { dst := some 135, g := none, op := AOp.pick (Opd.t 131) (Opd.t 134) (Opd.c (V.bool false)) },
   { dst := some 136, g := none, op := AOp.mv (Opd.t 135) },
   { dst := some 137, g := some (136, true), op := AOp.call (Opd.c (V.fn 9 [])) [] },
   { dst := some 138, g := none, op := AOp.pick (Opd.t 136) (Opd.t 137) (Opd.c (V.bool false)) },
   { dst := some 6, g := none, op := AOp.mv (Opd.t 138) }]
def c4 : AC := (AC.seq (AC.region c4r0) (AC.seq (AC.seq (AC.region c4r1) (AC.cond (Opd.t 35) (AC.seq (AC.region c4r2) AC.ret) AC.skip)) (AC.seq (AC.region c4r3) (AC.seq (AC.region c4r4) (AC.seq (AC.seq (AC.region c4r5) (AC.cond (Opd.t 46) (AC.seq (AC.region c4r6) (AC.seq (AC.region c4r7) AC.ret)) AC.skip)) (AC.seq (AC.region c4r8) (AC.seq (AC.region c4r9) (AC.seq (AC.region c4r10) (AC.seq (AC.region c4r11) (AC.seq (AC.region c4r12) (AC.seq (AC.region c4r13) AC.ret)))))))))))
def r4 : List ARes := [ARes.tmp 6]
theorem c4_ok : Try.f4.body.bind (cCode Try.prog Try.f4.ntmps) = some c4 := by kernel_rfl
theorem r4_ok : Try.f4.results.toList.mapM (cRes Try.prog Try.f4.ntmps) = some r4 := by kernel_rfl
def c5r0 : List AOper :=
  [{ dst := some 4, g := none, op := AOp.mv (Opd.c (V.bool false)) }]
def c5r1 : List AOper :=
  [{ dst := some 21, g := none, op := AOp.mv (Opd.t 0) },
   { dst := some 22, g := none, op := AOp.call (Opd.c (V.fn 8 [])) [Opd.t 21] },
   { dst := some 23, g := none, op := AOp.un UnOp.not (Opd.t 22) },
   { dst := some 24, g := none, op := AOp.mv (Opd.t 23) },
   { dst := some 25, g := some (24, false), op := AOp.mv (Opd.t 1) },
   { dst := some 26, g := some (24, false), op := AOp.call (Opd.c (V.fn 8 [])) [Opd.t 25] },
   { dst := some 27, g := some (24, false), op := AOp.un UnOp.not (Opd.t 26) },
   { dst := some 28, g := none, op := AOp.pick (Opd.t 24) (Opd.c (V.bool true)) (Opd.t 27) }]
def c5r2 : List AOper :=
  [{ dst := some 29, g := none, op := AOp.call (Opd.c (V.fn 9 [])) [] },
   { dst := some 4, g := none, op := AOp.mv (Opd.t 29) }]
def c5r3 : List AOper :=
  [{ dst := some 31, g := none, op := AOp.mv (Opd.t 0) },
   { dst := some 32, g := none, op := AOp.mv (Opd.t 1) },
   { dst := some 33, g := none, op := AOp.call (Opd.c (V.fn 19 [])) [Opd.t 31, Opd.t 32] },
   { dst := some 30, g := none, op := AOp.mv (Opd.t 33) },
   { dst := some 34, g := none, op := AOp.ext (Opd.t 30) 0 },
   { dst := some 35, g := none, op := AOp.ext (Opd.t 30) 1 },
   { dst := some 5, g := none, op := AOp.mv (Opd.t 34) },
   { dst := some 6, g := none, op := AOp.mv (Opd.t 35) }]
def c5r4 : List AOper :=
  [{ dst := some 37, g := none, op := AOp.mv (Opd.t 0) },
   { dst := some 38, g := none, op := AOp.mv (Opd.t 1) },
   { dst := some 39, g := none, op := AOp.call (Opd.c (V.fn 20 [])) [Opd.t 37, Opd.t 38] },
   { dst := some 36, g := none, op := AOp.mv (Opd.t 39) },
   { dst := some 40, g := none, op := AOp.ext (Opd.t 36) 0 },
   { dst := some 41, g := none, op := AOp.ext (Opd.t 36) 1 },
   { dst := some 7, g := none, op := AOp.mv (Opd.t 40) },
   { dst := some 8, g := none, op := AOp.mv (Opd.t 41) }]
def c5r5 : List AOper :=
  [{ dst := some 42, g := none, op := AOp.mv (Opd.t 5) },
   { dst := some 43, g := none, op := AOp.mv (Opd.t 7) },
   { dst := some 44, g := none, op := AOp.call (Opd.c (V.fn 15 [])) [Opd.t 42, Opd.t 43] },
   { dst := some 45, g := none, op := AOp.un UnOp.not (Opd.t 44) },
   { dst := some 46, g := none, op := AOp.mv (Opd.t 45) },
   { dst := some 47, g := some (46, false), op := AOp.mv (Opd.t 6) },
   { dst := some 48, g := some (46, false), op := AOp.mv (Opd.t 8) },
   { dst := some 49, g := some (46, false), op := AOp.bin BinOp.neq (Opd.t 47) (Opd.t 48) },
   { dst := some 50, g := none, op := AOp.pick (Opd.t 46) (Opd.c (V.bool true)) (Opd.t 49) }]
def c5r6 : List AOper :=
  [{ dst := some 4, g := none, op := AOp.mv (Opd.c (V.bool false)) }]
def c5r7 : List AOper :=
  [{ dst := some 51, g := none, op := AOp.mv (Opd.t 0) },
   { dst := some 52, g := none, op := AOp.call (Opd.c (V.fn 18 [])) [Opd.t 51] },
   { dst := some 53, g := none, op := AOp.mv (Opd.t 1) },
   { dst := some 54, g := none, op := AOp.call (Opd.c (V.fn 18 [])) [Opd.t 53] },
   { dst := some 9, g := none, op := AOp.mv (Opd.t 52) },
   { dst := some 10, g := none, op := AOp.mv (Opd.t 54) }]
def c5r8 : List AOper :=
  [{ dst := some 56, g := none, op := AOp.mv (Opd.t 9) },
   { dst := some 57, g := none, op := AOp.mv (Opd.t 10) },
   { dst := some 58, g := none, op := AOp.call (Opd.c (V.fn 19 [])) [Opd.t 56, Opd.t 57] },
   { dst := some 55, g := none, op := AOp.mv (Opd.t 58) },
   { dst := some 59, g := none, op := AOp.ext (Opd.t 55) 0 },
   { dst := some 60, g := none, op := AOp.ext (Opd.t 55) 1 },
   { dst := some 11, g := none, op := AOp.mv (Opd.t 59) },
   { dst := some 12, g := none, op := AOp.mv (Opd.t 60) }]
def c5r9 : List AOper :=
  [{ dst := some 62, g := none, op := AOp.mv (Opd.t 10) },
   { dst := some 63, g := none, op := AOp.mv (Opd.t 9) },
   { dst := some 64, g := none, op := AOp.call (Opd.c (V.fn 19 [])) [Opd.t 62, Opd.t 63] },
   { dst := some 61, g := none, op := AOp.mv (Opd.t 64) },
   { dst := some 65, g := none, op := AOp.ext (Opd.t 61) 0 },
   { dst := some 66, g := none, op := AOp.ext (Opd.t 61) 1 },
   { dst := some 13, g := none, op := AOp.mv (Opd.t 65) },
   { dst := some 14, g := none, op := AOp.mv (Opd.t 66) }]
def c5r10 : List AOper :=
  [{ dst := some 67, g := none, op := AOp.mv (Opd.t 12) },
   { dst := some 68, g := none, op := AOp.bin BinOp.neq (Opd.t 67) (Opd.c (V.int IntKind.i64 0)) },
   { dst := some 69, g := none, op := AOp.mv (Opd.t 68) },
   { dst := some 70, g := some (69, false), op := AOp.mv (Opd.t 14) },
   { dst := some 71, g := some (69, false), op := AOp.bin BinOp.neq (Opd.t 70) (Opd.c (V.int IntKind.i64 0)) },
   { dst := some 72, g := none, op := AOp.pick (Opd.t 69) (Opd.c (V.bool true)) (Opd.t 71) },
   { dst := some 73, g := none, op := AOp.mv (Opd.t 72) },
   { dst := some 74, g := some (73, false), op := AOp.mv (Opd.t 11) },
   { dst := some 75, g := some (73, false), op := AOp.lenL (Opd.t 74) },
   { dst := some 76, g := some (73, false), op := AOp.mv (Opd.t 13) },
   { dst := some 77, g := some (73, false), op := AOp.lenL (Opd.t 76) },
   { dst := some 78, g := some (73, false), op := AOp.bin BinOp.neq (Opd.t 75) (Opd.t 77) },
   { dst := some 79, g := none, op := AOp.pick (Opd.t 73) (Opd.c (V.bool true)) (Opd.t 78) }]
def c5r11 : List AOper :=
  [{ dst := some 4, g := none, op := AOp.mv (Opd.c (V.bool false)) }]
def c5r12 : List AOper :=
  [{ dst := some 15, g := none, op := AOp.mv (Opd.c (V.int IntKind.i64 0)) }]
def c5r13 : List AOper :=
  [{ dst := some 80, g := none, op := AOp.mv (Opd.t 15) },
   { dst := some 81, g := none, op := AOp.mv (Opd.t 11) },
   { dst := some 82, g := none, op := AOp.lenL (Opd.t 81) },
   { dst := some 83, g := none, op := AOp.bin BinOp.lss (Opd.t 80) (Opd.t 82) }]
def c5d0 : List (AOper × List Nat) :=
  [({ dst := some 86, g := none, op := AOp.mv (Opd.t 11) }, []),
   ({ dst := some 87, g := none, op := AOp.mv (Opd.t 15) }, []),
   ({ dst := some 88, g := none, op := AOp.idxA (Opd.t 86) (Opd.t 87) none 7 }, [0, 1]),
   ({ dst := some 89, g := none, op := AOp.fldA (Opd.t 88) 0 }, [2]),
   ({ dst := some 90, g := none, op := AOp.load (Opd.t 89) none }, [3]),
   ({ dst := some 91, g := none, op := AOp.mv (Opd.t 13) }, []),
   ({ dst := some 92, g := none, op := AOp.mv (Opd.t 15) }, []),
   ({ dst := some 93, g := none, op := AOp.idxA (Opd.t 91) (Opd.t 92) none 7 }, [5, 6]),
   ({ dst := some 94, g := none, op := AOp.fldA (Opd.t 93) 0 }, [7]),
   ({ dst := some 95, g := none, op := AOp.load (Opd.t 94) none }, [8]),
   ({ dst := some 96, g := none, op := AOp.bin BinOp.neq (Opd.t 90) (Opd.t 95) }, [4, 9]),
   ({ dst := some 97, g := none, op := AOp.mv (Opd.t 96) }, [10]),
   ({ dst := some 98, g := some (97, false), op := AOp.mv (Opd.t 11) }, [11]),
   ({ dst := some 99, g := some (97, false), op := AOp.mv (Opd.t 15) }, [11]),
   ({ dst := some 100, g := some (97, false), op := AOp.idxA (Opd.t 98) (Opd.t 99) none 7 }, [12, 13, 11]),
   ({ dst := some 101, g := some (97, false), op := AOp.fldA (Opd.t 100) 1 }, [14, 11]),
   ({ dst := some 102, g := some (97, false), op := AOp.load (Opd.t 101) none }, [15, 11]),
   ({ dst := some 103, g := some (97, false), op := AOp.mv (Opd.t 13) }, [11]),
   ({ dst := some 104, g := some (97, false), op := AOp.mv (Opd.t 15) }, [11]),
   ({ dst := some 105, g := some (97, false), op := AOp.idxA (Opd.t 103) (Opd.t 104) none 7 }, [17, 18, 11]),
   ({ dst := some 106, g := some (97, false), op := AOp.fldA (Opd.t 105) 1 }, [19, 11]),
   ({ dst := some 107, g := some (97, false), op := AOp.load (Opd.t 106) none }, [20, 11]),
   ({ dst := some 108, g := some (97, false), op := AOp.bin BinOp.neq (Opd.t 102) (Opd.t 107) }, [16, 21, 11]),
   ({ dst := some 109, g := none, op := AOp.pick (Opd.t 97) (Opd.c (V.bool true)) (Opd.t 108) }, [11, 22])]
def c5r14 : List AOper :=
  [{ dst := some 4, g := none, op := AOp.mv (Opd.c (V.bool false)) }]
def c5r15 : List AOper :=
  [{ dst := some 84, g := none, op := AOp.mv (Opd.t 15) },
   { dst := some 85, g := none, op := AOp.bin BinOp.add (Opd.t 84) (Opd.c (V.int IntKind.i64 1)) },
   { dst := some 15, g := none, op := AOp.mv (Opd.t 85) }]
def c5l0 : AC := (AC.seq (AC.seq (AC.region c5r13) (AC.cond (Opd.t 83) AC.skip (AC.exit 0))) (AC.seq (AC.block 1 (AC.seq (AC.drawn c5d0) (AC.cond (Opd.t 109) (AC.seq (AC.region c5r14) AC.ret) AC.skip))) (AC.region c5r15)))
def c5r16 : List AOper :=
  [{ dst := some 16, g := none, op := AOp.mv (Opd.c (V.int IntKind.i64 0)) }]
def c5r17 : List AOper :=
  [{ dst := some 110, g := none, op := AOp.mv (Opd.t 16) },
   { dst := some 111, g := none, op := AOp.mv (Opd.t 9) },
   { dst := some 112, g := none, op := AOp.lenL (Opd.t 111) },
   { dst := some 113, g := none, op := AOp.bin BinOp.lss (Opd.t 110) (Opd.t 112) }]
def c5d1 : List (AOper × List Nat) :=
  [({ dst := some 117, g := none, op := AOp.mv (Opd.t 11) }, []),
   ({ dst := some 118, g := none, op := AOp.mv (Opd.t 9) }, []),
   ({ dst := some 119, g := none, op := AOp.mv (Opd.t 16) }, []),
   ({ dst := some 120, g := none, op := AOp.idxA (Opd.t 118) (Opd.t 119) none 7 }, [1, 2]),
   ({ dst := some 121, g := none, op := AOp.fldA (Opd.t 120) 0 }, [3]),
   ({ dst := some 122, g := none, op := AOp.load (Opd.t 121) none }, [4]),
   ({ dst := some 123, g := none, op := AOp.mv (Opd.t 9) }, []),
   ({ dst := some 124, g := none, op := AOp.mv (Opd.t 16) }, []),
   ({ dst := some 125, g := none, op := AOp.idxA (Opd.t 123) (Opd.t 124) none 7 }, [6, 7]),
   ({ dst := some 126, g := none, op := AOp.fldA (Opd.t 125) 1 }, [8]),
   ({ dst := some 127, g := none, op := AOp.load (Opd.t 126) none }, [9]),
   ({ dst := some 128, g := none, op := AOp.call (Opd.c (V.fn 10 [])) [Opd.t 117, Opd.t 122, Opd.t 127] }, [0, 5, 10]),
   ({ dst := some 116, g := none, op := AOp.mv (Opd.t 128) }, [11]),
   ({ dst := some 129, g := none, op := AOp.ext (Opd.t 116) 0 }, [12]),
   ({ dst := some 130, g := none, op := AOp.ext (Opd.t 116) 1 }, [12]),
   ({ dst := some 17, g := none, op := AOp.alloc [V.int IntKind.i64 0, V.str [], V.bool false, V.nils, V.str []] }, []),
   ({ dst := none, g := none, op := AOp.store (Opd.t 17) (Opd.t 129) 5 }, [15, 13, 11, 0, 1, 2, 3, 4, 5, 6, 7, 8, 9, 10, 11, 12, 13, 15]),
   ({ dst := some 18, g := none, op := AOp.mv (Opd.t 130) }, [14, 16, 0, 1, 2, 3, 4, 5, 6, 7, 8, 9, 10, 11, 12, 13, 14, 15, 16])]
def c5r18 : List AOper :=
  [{ dst := some 131, g := none, op := AOp.mv (Opd.t 18) },
   { dst := some 132, g := none, op := AOp.bin BinOp.neq (Opd.t 131) (Opd.c (V.int IntKind.i64 0)) },
   { dst := some 133, g := none, op := AOp.mv (Opd.t 132) },
   { dst := some 134, g := some (133, true), op := AOp.mv (Opd.t 18) },
   { dst := some 135, g := some (133, true), op := AOp.bin BinOp.neq (Opd.t 134) (Opd.c (V.int IntKind.i64 140)) },
   { dst := some 136, g := none, op := AOp.pick (Opd.t 133) (Opd.t 135) (Opd.c (V.bool false)) }]
def c5r19 : List AOper :=
  [{ dst := some 4, g := none, op := AOp.mv (Opd.c (V.bool false)) }]
def c5r20 : List AOper :=
  [{ dst := some 114, g := none, op := AOp.mv (Opd.t 16) },
   { dst := some 115, g := none, op := AOp.bin BinOp.add (Opd.t 114) (Opd.c (V.int IntKind.i64 1)) },
   { dst := some 16, g := none, op := AOp.mv (Opd.t 115) }]
def c5l1 : AC := (AC.seq (AC.seq (AC.region c5r17) (AC.cond (Opd.t 113) AC.skip (AC.exit 2))) (AC.seq (AC.block 3 (AC.seq (AC.drawn c5d1) (AC.seq (AC.region c5r18) (AC.cond (Opd.t 136) (AC.seq (AC.region c5r19) AC.ret) AC.skip)))) (AC.region c5r20)))
def c5r21 : List AOper :=
  [{ dst := some 138, g := none, op := AOp.mv (Opd.t 9) },
   { dst := some 139, g := none, op := AOp.mv (Opd.t 9) },
   { dst := some 140, g := none, op := AOp.call (Opd.c (V.fn 19 [])) [Opd.t 138, Opd.t 139] },
   { dst := some 137, g := none, op := AOp.mv (Opd.t 140) },
   { dst := some 141, g := none, op := AOp.ext (Opd.t 137) 0 },
   { dst := some 142, g := none, op := AOp.ext (Opd.t 137) 1 },
   { dst := some 19, g := none, op := AOp.mv (Opd.t 141) },
   { dst := some 20, g := none, op := AOp.mv (Opd.t 142) }]
def c5r22 : List AOper :=
  [{ dst := some 143, g := none, op := AOp.mv (Opd.t 20) },
   { dst := some 144, g := none, op := AOp.bin BinOp.eql (Opd.t 143) (Opd.c (V.int IntKind.i64 0)) },
   { dst := some 145, g := none, op := AOp.mv (Opd.t 144) },
   { dst := some 146, g := some (145, true), op := AOp.mv (Opd.t 19) },
   { dst := some 147, g := some (145, true), op := AOp.mv (Opd.t 9) },
   { dst := some 148, g := some (145, true), op := AOp.call (Opd.c (V.fn 15 [])) [Opd.t 146, Opd.t 147] },
   { dst := some 149, g := none, op := AOp.pick (Opd.t 145) (Opd.t 148) (Opd.c (V.bool false)) },
   { dst := some 150, g := none, op := AOp.mv (Opd.t 149) },
   { dst := some 151, g := some (150, true), op := AOp.call (Opd.c (V.fn 9 [])) [] },
   { dst := some 152, g := none, op := AOp.pick (Opd.t 150) (Opd.t 151) (Opd.c (V.bool false)) },
   { dst := some 4, g := none, op := AOp.mv (Opd.t 152) }]
def c5 : AC := (AC.seq (AC.region c5r0) (AC.seq (AC.seq (AC.region c5r1) (AC.cond (Opd.t 28) (AC.seq (AC.region c5r2) AC.ret) AC.skip)) (AC.seq (AC.region c5r3) (AC.seq (AC.region c5r4) (AC.seq (AC.seq (AC.region c5r5) (AC.cond (Opd.t 50) (AC.seq (AC.region c5r6) AC.ret) AC.skip)) (AC.seq (AC.region c5r7) (AC.seq (AC.region c5r8) (AC.seq (AC.region c5r9) (AC.seq (AC.seq (AC.region c5r10) (AC.cond (Opd.t 79) (AC.seq (AC.region c5r11) AC.ret) AC.skip)) (AC.seq (AC.seq (AC.region c5r12) (AC.block 0 (AC.loop c5l0))) (AC.seq (AC.seq (AC.region c5r16) (AC.block 2 (AC.loop c5l1))) (AC.seq (AC.region c5r21) (AC.seq (AC.region c5r22) AC.ret)))))))))))))
def r5 : List ARes := [ARes.tmp 4]
theorem c5_ok : Try.f5.body.bind (cCode Try.prog Try.f5.ntmps) = some c5 := by kernel_rfl
theorem r5_ok : Try.f5.results.toList.mapM (cRes Try.prog Try.f5.ntmps) = some r5 := by kernel_rfl
def c6r0 : List AOper :=
  [{ dst := some 6, g := none, op := AOp.mv (Opd.c (V.bool false)) }]
def c6r1 : List AOper :=
  [{ dst := some 19, g := none, op := AOp.mv (Opd.t 0) },
   { dst := some 20, g := none, op := AOp.call (Opd.c (V.fn 8 [])) [Opd.t 19] },
   { dst := some 21, g := none, op := AOp.un UnOp.not (Opd.t 20) },
   { dst := some 22, g := none, op := AOp.mv (Opd.t 21) },
   { dst := some 23, g := some (22, false), op := AOp.mv (Opd.t 1) },
   { dst := some 24, g := some (22, false), op := AOp.call (Opd.c (V.fn 8 [])) [Opd.t 23] },
   { dst := some 25, g := some (22, false), op := AOp.un UnOp.not (Opd.t 24) },
   { dst := some 26, g := none, op := AOp.pick (Opd.t 22) (Opd.c (V.bool true)) (Opd.t 25) },
   { dst := some 27, g := none, op := AOp.mv (Opd.t 26) },
   { dst := some 28, g := some (27, false), op := AOp.mv (Opd.t 2) },
   { dst := some 29, g := some (27, false), op := AOp.call (Opd.c (V.fn 8 [])) [Opd.t 28] },
   { dst := some 30, g := some (27, false), op := AOp.un UnOp.not (Opd.t 29) },
   { dst := some 31, g := none, op := AOp.pick (Opd.t 27) (Opd.c (V.bool true)) (Opd.t 30) }]
def c6r2 : List AOper :=
  [{ dst := some 32, g := none, op := AOp.call (Opd.c (V.fn 9 [])) [] },
   { dst := some 6, g := none, op := AOp.mv (Opd.t 32) }]
def c6r3 : List AOper :=
  [{ dst := some 33, g := none, op := AOp.mv (Opd.t 0) },
   { dst := some 34, g := none, op := AOp.call (Opd.c (V.fn 18 [])) [Opd.t 33] },
   { dst := some 35, g := none, op := AOp.mv (Opd.t 1) },
   { dst := some 36, g := none, op := AOp.call (Opd.c (V.fn 18 [])) [Opd.t 35] },
   { dst := some 37, g := none, op := AOp.mv (Opd.t 2) },
   { dst := some 38, g := none, op := AOp.call (Opd.c (V.fn 18 [])) [Opd.t 37] },
   { dst := some 7, g := none, op := AOp.mv (Opd.t 34) },
   { dst := some 8, g := none, op := AOp.mv (Opd.t 36) },
   { dst := some 9, g := none, op := AOp.mv (Opd.t 38) }]
def c6r4 : List AOper :=
  [{ dst := some 40, g := none, op := AOp.mv (Opd.t 7) },
   { dst := some 41, g := none, op := AOp.mv (Opd.t 8) },
   { dst := some 42, g := none, op := AOp.call (Opd.c (V.fn 19 [])) [Opd.t 40, Opd.t 41] },
   { dst := some 39, g := none, op := AOp.mv (Opd.t 42) },
   { dst := some 43, g := none, op := AOp.ext (Opd.t 39) 0 },
   { dst := some 44, g := none, op := AOp.ext (Opd.t 39) 1 },
   { dst := some 10, g := none, op := AOp.mv (Opd.t 43) },
   { dst := some 11, g := none, op := AOp.mv (Opd.t 44) }]
def c6r5 : List AOper :=
  [{ dst := some 46, g := none, op := AOp.mv (Opd.t 10) },
   { dst := some 47, g := none, op := AOp.mv (Opd.t 9) },
   { dst := some 48, g := none, op := AOp.call (Opd.c (V.fn 19 [])) [Opd.t 46, Opd.t 47] },
   { dst := some 45, g := none, op := AOp.mv (Opd.t 48) },
   { dst := some 49, g := none, op := AOp.ext (Opd.t 45) 0 },
   { dst := some 50, g := none, op := AOp.ext (Opd.t 45) 1 },
   { dst := some 12, g := none, op := AOp.mv (Opd.t 49) },
   { dst := some 13, g := none, op := AOp.mv (Opd.t 50) }]
def c6r6 : List AOper :=
  [{ dst := some 52, g := none, op := AOp.mv (Opd.t 8) },
   { dst := some 53, g := none, op := AOp.mv (Opd.t 9) },
   { dst := some 54, g := none, op := AOp.call (Opd.c (V.fn 19 [])) [Opd.t 52, Opd.t 53] },
   { dst := some 51, g := none, op := AOp.mv (Opd.t 54) },
   { dst := some 55, g := none, op := AOp.ext (Opd.t 51) 0 },
   { dst := some 56, g := none, op := AOp.ext (Opd.t 51) 1 },
   { dst := some 14, g := none, op := AOp.mv (Opd.t 55) },
   { dst := some 15, g := none, op := AOp.mv (Opd.t 56) }]
def c6r7 : List AOper :=
  [{ dst := some 58, g := none, op := AOp.mv (Opd.t 7) },
   { dst := some 59, g := none, op := AOp.mv (Opd.t 14) },
   { dst := some 60, g := none, op := AOp.call (Opd.c (V.fn 19 [])) [Opd.t 58, Opd.t 59] },
   { dst := some 57, g := none, op := AOp.mv (Opd.t 60) },
   { dst := some 61, g := none, op := AOp.ext (Opd.t 57) 0 },
   { dst := some 62, g := none, op := AOp.ext (Opd.t 57) 1 },
   { dst := some 16, g := none, op := AOp.mv (Opd.t 61) },
   { dst := some 17, g := none, op := AOp.mv (Opd.t 62) }]
def c6r8 : List AOper :=
  [{ dst := some 63, g := none, op := AOp.mv (Opd.t 11) },
   { dst := some 64, g := none, op := AOp.bin BinOp.neq (Opd.t 63) (Opd.c (V.int IntKind.i64 0)) },
   { dst := some 65, g := none, op := AOp.mv (Opd.t 64) },
   { dst := some 66, g := some (65, false), op := AOp.mv (Opd.t 13) },
   { dst := some 67, g := some (65, false), op := AOp.bin BinOp.neq (Opd.t 66) (Opd.c (V.int IntKind.i64 0)) },
   { dst := some 68, g := none, op := AOp.pick (Opd.t 65) (Opd.c (V.bool true)) (Opd.t 67) },
   { dst := some 69, g := none, op := AOp.mv (Opd.t 68) },
   { dst := some 70, g := some (69, false), op := AOp.mv (Opd.t 15) },
   { dst := some 71, g := some (69, false), op := AOp.bin BinOp.neq (Opd.t 70) (Opd.c (V.int IntKind.i64 0)) },
   { dst := some 72, g := none, op := AOp.pick (Opd.t 69) (Opd.c (V.bool true)) (Opd.t 71) },
   { dst := some 73, g := none, op := AOp.mv (Opd.t 72) },
   { dst := some 74, g := some (73, false), op := AOp.mv (Opd.t 17) },
   { dst := some 75, g := some (73, false), op := AOp.bin BinOp.neq (Opd.t 74) (Opd.c (V.int IntKind.i64 0)) },
   { dst := some 76, g := none, op := AOp.pick (Opd.t 73) (Opd.c (V.bool true)) (Opd.t 75) },
   { dst := some 77, g := none, op := AOp.mv (Opd.t 76) },
   { dst := some 78, g := some (77, false), op := AOp.mv (Opd.t 12) },
   { dst := some 79, g := some (77, false), op := AOp.lenL (Opd.t 78) },
   { dst := some 80, g := some (77, false), op := AOp.mv (Opd.t 16) },
   { dst := some 81, g := some (77, false), op := AOp.lenL (Opd.t 80) },
   { dst := some 82, g := some (77, false), op := AOp.bin BinOp.neq (Opd.t 79) (Opd.t 81) },
   { dst := some 83, g := none, op := AOp.pick (Opd.t 77) (Opd.c (V.bool true)) (Opd.t 82) }]
def c6r9 : List AOper :=
  [{ dst := some 6, g := none, op := AOp.mv (Opd.c (V.bool false)) }]
def c6r10 : List AOper :=
  [{ dst := some 18, g := none, op := AOp.mv (Opd.c (V.int IntKind.i64 0)) }]
def c6r11 : List AOper :=
  [{ dst := some 84, g := none, op := AOp.mv (Opd.t 18) },
   { dst := some 85, g := none, op := AOp.mv (Opd.t 12) },
   { dst := some 86, g := none, op := AOp.lenL (Opd.t 85) },
   { dst := some 87, g := none, op := AOp.bin BinOp.lss (Opd.t 84) (Opd.t 86) }]
def c6d0 : List (AOper × List Nat) :=
  [({ dst := some 90, g := none, op := AOp.mv (Opd.t 12) }, []),
   ({ dst := some 91, g := none, op := AOp.mv (Opd.t 18) }, []),
   ({ dst := some 92, g := none, op := AOp.idxA (Opd.t 90) (Opd.t 91) none 7 }, [0, 1]),
   ({ dst := some 93, g := none, op := AOp.fldA (Opd.t 92) 0 }, [2]),
   ({ dst := some 94, g := none, op := AOp.load (Opd.t 93) none }, [3]),
   ({ dst := some 95, g := none, op := AOp.mv (Opd.t 16) }, []),
   ({ dst := some 96, g := none, op := AOp.mv (Opd.t 18) }, []),
   ({ dst := some 97, g := none, op := AOp.idxA (Opd.t 95) (Opd.t 96) none 7 }, [5, 6]),
   ({ dst := some 98, g := none, op := AOp.fldA (Opd.t 97) 0 }, [7]),
   ({ dst := some 99, g := none, op := AOp.load (Opd.t 98) none }, [8]),
   ({ dst := some 100, g := none, op := AOp.bin BinOp.neq (Opd.t 94) (Opd.t 99) }, [4, 9]),
   ({ dst := some 101, g := none, op := AOp.mv (Opd.t 100) }, [10]),
   ({ dst := some 102, g := some (101, false), op := AOp.mv (Opd.t 12) }, [11]),
   ({ dst := some 103, g := some (101, false), op := AOp.mv (Opd.t 18) }, [11]),
   ({ dst := some 104, g := some (101, false), op := AOp.idxA (Opd.t 102) (Opd.t 103) none 7 }, [12, 13, 11]),
   ({ dst := some 105, g := some (101, false), op := AOp.fldA (Opd.t 104) 1 }, [14, 11]),
   ({ dst := some 106, g := some (101, false), op := AOp.load (Opd.t 105) none }, [15, 11]),
   ({ dst := some 107, g := some (101, false), op := AOp.mv (Opd.t 16) }, [11]),
   ({ dst := some 108, g := some (101, false), op := AOp.mv (Opd.t 18) }, [11]),
   ({ dst := some 109, g := some (101, false), op := AOp.idxA (Opd.t 107) (Opd.t 108) none 7 }, [17, 18, 11]),
   ({ dst := some 110, g := some (101, false), op := AOp.fldA (Opd.t 109) 1 }, [19, 11]),
   ({ dst := some 111, g := some (101, false), op := AOp.load (Opd.t 110) none }, [20, 11]),
   ({ dst := some 112, g := some (101, false), op := AOp.bin BinOp.neq (Opd.t 106) (Opd.t 111) }, [16, 21, 11]),
   ({ dst := some 113, g := none, op := AOp.pick (Opd.t 101) (Opd.c (V.bool true)) (Opd.t 112) }, [11, 22]),
   ({ dst := some 114, g := none, op := AOp.mv (Opd.t 113) }, [23, 11]),
   ({ dst := some 115, g := some (114, false), op := AOp.mv (Opd.t 12) }, [24]),
   ({ dst := some 116, g := some (114, false), op := AOp.mv (Opd.t 18) }, [24]),
   ({ dst := some 117, g := some (114, false), op := AOp.idxA (Opd.t 115) (Opd.t 116) none 7 }, [25, 26, 24]),
   ({ dst := some 118, g := some (114, false), op := AOp.fldA (Opd.t 117) 2 }, [27, 24]),
   ({ dst := some 119, g := some (114, false), op := AOp.load (Opd.t 118) (some 5) }, [28, 24]),
   ({ dst := some 120, g := some (114, false), op := AOp.mv (Opd.t 16) }, [24]),
   ({ dst := some 121, g := some (114, false), op := AOp.mv (Opd.t 18) }, [24]),
   ({ dst := some 122, g := some (114, false), op := AOp.idxA (Opd.t 120) (Opd.t 121) none 7 }, [30, 31, 24]),
   ({ dst := some 123, g := some (114, false), op := AOp.fldA (Opd.t 122) 2 }, [32, 24]),
   ({ dst := some 124, g := some (114, false), op := AOp.load (Opd.t 123) (some 5) }, [33, 24]),
   ({ dst := some 125, g := some (114, false), op := AOp.call (Opd.c (V.fn 14 [])) [Opd.t 119, Opd.t 124] }, [29, 34, 24, 24]),
   ({ dst := some 126, g := some (114, false), op := AOp.un UnOp.not (Opd.t 125) }, [35, 24]),
   ({ dst := some 127, g := none, op := AOp.pick (Opd.t 114) (Opd.c (V.bool true)) (Opd.t 126) }, [24, 36])]
def c6r12 : List AOper :=
  [{ dst := some 6, g := none, op := AOp.mv (Opd.c (V.bool false)) }]
def c6r13 : List AOper :=
  [{ dst := some 88, g := none, op := AOp.mv (Opd.t 18) },
   { dst := some 89, g := none, op := AOp.bin BinOp.add (Opd.t 88) (Opd.c (V.int IntKind.i64 1)) },
   { dst := some 18, g := none, op := AOp.mv (Opd.t 89) }]
def c6l0 : AC := (AC.seq (AC.seq (AC.region c6r11) (AC.cond (Opd.t 87) AC.skip (AC.exit 0))) (AC.seq (AC.block 1 (AC.seq (AC.drawn c6d0) (AC.cond (Opd.t 127) (AC.seq (AC.region c6r12) AC.ret) AC.skip))) (AC.region c6r13)))
def c6r14 : List AOper :=
  [{ dst := some 128, g := none, op := AOp.mv (Opd.t 12) },
   { dst := some 129, g := none, op := AOp.call (Opd.c (V.fn 16 [])) [Opd.t 128] },
   { dst := some 130, g := none, op := AOp.bin BinOp.eql (Opd.t 129) (Opd.c (V.int IntKind.i64 0)) },
   { dst := some 131, g := none, op := AOp.mv (Opd.t 130) },
   { dst := some 132, g := some (131, true), op := AOp.call (Opd.c (V.fn 9 [])) [] },
   { dst := some 133, g := none, op := AOp.pick (Opd.t 131) (Opd.t 132) (Opd.c (V.bool false)) },
   { dst := some 6, g := none, op := AOp.mv (Opd.t 133) }]
def c6 : AC := (AC.seq (AC.region c6r0) (AC.seq (AC.seq (AC.region c6r1) (AC.cond (Opd.t 31) (AC.seq (AC.region c6r2) AC.ret) AC.skip)) (AC.seq (AC.region c6r3) (AC.seq (AC.region c6r4) (AC.seq (AC.region c6r5) (AC.seq (AC.region c6r6) (AC.seq (AC.region c6r7) (AC.seq (AC.seq (AC.region c6r8) (AC.cond (Opd.t 83) (AC.seq (AC.region c6r9) AC.ret) AC.skip)) (AC.seq (AC.seq (AC.region c6r10) (AC.block 0 (AC.loop c6l0))) (AC.seq (AC.region c6r14) AC.ret))))))))))
def r6 : List ARes := [ARes.tmp 6]
theorem c6_ok : Try.f6.body.bind (cCode Try.prog Try.f6.ntmps) = some c6 := by kernel_rfl
theorem r6_ok : Try.f6.results.toList.mapM (cRes Try.prog Try.f6.ntmps) = some r6 := by kernel_rfl
def c7r0 : List AOper :=
  [{ dst := some 4, g := none, op := AOp.mv (Opd.c (V.bool false)) }]
def c7r1 : List AOper :=
  [{ dst := some 22, g := none, op := AOp.mv (Opd.t 0) },
   { dst := some 23, g := none, op := AOp.call (Opd.c (V.fn 8 [])) [Opd.t 22] },
   { dst := some 24, g := none, op := AOp.un UnOp.not (Opd.t 23) },
   { dst := some 25, g := none, op := AOp.mv (Opd.t 24) },
   { dst := some 26, g := some (25, false), op := AOp.mv (Opd.t 1) },
   { dst := some 27, g := some (25, false), op := AOp.lenL (Opd.t 26) },
   { dst := some 28, g := some (25, false), op := AOp.bin BinOp.gtr (Opd.t 27) (Opd.c (V.int IntKind.i64 20)) },
   { dst := some 29, g := none, op := AOp.pick (Opd.t 25) (Opd.c (V.bool true)) (Opd.t 28) }]
def c7r2 : List AOper :=
  [{ dst := some 30, g := none, op := AOp.call (Opd.c (V.fn 9 [])) [] },
   { dst := some 4, g := none, op := AOp.mv (Opd.t 30) }]
def c7r3 : List AOper :=
  [{ dst := some 5, g := none, op := AOp.mv (Opd.c (V.int IntKind.i64 0)) }]
def c7r4 : List AOper :=
  [{ dst := some 31, g := none, op := AOp.mv (Opd.t 5) },
   { dst := some 32, g := none, op := AOp.mv (Opd.t 1) },
   { dst := some 33, g := none, op := AOp.lenL (Opd.t 32) },
   { dst := some 34, g := none, op := AOp.bin BinOp.lss (Opd.t 31) (Opd.t 33) }]
def c7r5 : List AOper :=
  [{ dst := some 37, g := none, op := AOp.mv (Opd.t 1) },
   { dst := some 38, g := none, op := AOp.mv (Opd.t 5) },
   { dst := some 39, g := none, op := AOp.idxA (Opd.t 37) (Opd.t 38) none 2 },
   { dst := some 40, g := none, op := AOp.fldA (Opd.t 39) 0 },
   { dst := some 41, g := none, op := AOp.load (Opd.t 40) none },
   { dst := some 42, g := none, op := AOp.lenS (Opd.t 41) },
   { dst := some 43, g := none, op := AOp.bin BinOp.gtr (Opd.t 42) (Opd.c (V.int IntKind.i64 100)) },
   { dst := some 44, g := none, op := AOp.mv (Opd.t 43) },
   { dst := some 45, g := some (44, false), op := AOp.mv (Opd.t 1) },
   { dst := some 46, g := some (44, false), op := AOp.mv (Opd.t 5) },
   { dst := some 47, g := some (44, false), op := AOp.idxA (Opd.t 45) (Opd.t 46) none 2 },
   { dst := some 48, g := some (44, false), op := AOp.fldA (Opd.t 47) 1 },
   { dst := some 49, g := some (44, false), op := AOp.load (Opd.t 48) none },
   { dst := some 50, g := some (44, false), op := AOp.lenS (Opd.t 49) },
   { dst := some 51, g := some (44, false), op := AOp.bin BinOp.gtr (Opd.t 50) (Opd.c (V.int IntKind.i64 100)) },
   { dst := some 52, g := none, op := AOp.pick (Opd.t 44) (Opd.c (V.bool true)) (Opd.t 51) }]
def c7r6 : List AOper :=
  [{ dst := some 53, g := none, op := AOp.call (Opd.c (V.fn 9 [])) [] },
   { dst := some 4, g := none, op := AOp.mv (Opd.t 53) }]
def c7r7 : List AOper :=
  [{ dst := some 35, g := none, op := AOp.mv (Opd.t 5) },
   { dst := some 36, g := none, op := AOp.bin BinOp.add (Opd.t 35) (Opd.c (V.int IntKind.i64 1)) },
   { dst := some 5, g := none, op := AOp.mv (Opd.t 36) }]
def c7l0 : AC := (AC.seq (AC.seq (AC.region c7r4) (AC.cond (Opd.t 34) AC.skip (AC.exit 0))) (AC.seq (AC.block 1 (AC.seq (AC.region c7r5) (AC.cond (Opd.t 52) (AC.seq (AC.region c7r6) AC.ret) AC.skip))) (AC.region c7r7)))
def c7r8 : List AOper :=
  [{ dst := some 55, g := none, op := AOp.mv (Opd.t 1) },
   { dst := some 56, g := none, op := AOp.call (Opd.c (V.fn 21 [])) [Opd.t 55] },
   { dst := some 54, g := none, op := AOp.mv (Opd.t 56) },
   { dst := some 57, g := none, op := AOp.ext (Opd.t 54) 0 },
   { dst := some 58, g := none, op := AOp.ext (Opd.t 54) 1 },
   { dst := some 6, g := none, op := AOp.mv (Opd.t 57) },
   { dst := some 7, g := none, op := AOp.mv (Opd.t 58) }]
def c7r9 : List AOper :=
  [{ dst := some 60, g := none, op := AOp.mv (Opd.t 1) },
   { dst := some 61, g := none, op := AOp.call (Opd.c (V.fn 22 [])) [Opd.t 60] },
   { dst := some 59, g := none, op := AOp.mv (Opd.t 61) },
   { dst := some 62, g := none, op := AOp.ext (Opd.t 59) 0 },
   { dst := some 63, g := none, op := AOp.ext (Opd.t 59) 1 },
   { dst := some 8, g := none, op := AOp.mv (Opd.t 62) },
   { dst := some 9, g := none, op := AOp.mv (Opd.t 63) }]
def c7r10 : List AOper :=
  [{ dst := some 64, g := none, op := AOp.mv (Opd.t 6) },
   { dst := some 65, g := none, op := AOp.mv (Opd.t 8) },
   { dst := some 66, g := none, op := AOp.call (Opd.c (V.fn 15 [])) [Opd.t 64, Opd.t 65] },
   { dst := some 67, g := none, op := AOp.un UnOp.not (Opd.t 66) },
   { dst := some 68, g := none, op := AOp.mv (Opd.t 67) },
   { dst := some 69, g := some (68, false), op := AOp.mv (Opd.t 7) },
   { dst := some 70, g := some (68, false), op := AOp.mv (Opd.t 9) },
   { dst := some 71, g := some (68, false), op := AOp.bin BinOp.neq (Opd.t 69) (Opd.t 70) },
   { dst := some 72, g := none, op := AOp.pick (Opd.t 68) (Opd.c (V.bool true)) (Opd.t 71) }]
def c7r11 : List AOper :=
  [{ dst := some 4, g := none, op := AOp.mv (Opd.c (V.bool false)) }]
def c7r12 : List AOper :=
  [{ dst := some 10, g := none, op := AOp.mv (Opd.c (V.int IntKind.i64 0)) }]
def c7r13 : List AOper :=
  [{ dst := some 73, g := none, op := AOp.mv (Opd.t 10) },
   { dst := some 74, g := none, op := AOp.mv (Opd.t 0) },
   { dst := some 75, g := none, op := AOp.lenL (Opd.t 74) },
   { dst := some 76, g := none, op := AOp.bin BinOp.lss (Opd.t 73) (Opd.t 75) }]
def c7r14 : List AOper :=
  [{ dst := some 80, g := none, op := AOp.mv (Opd.t 0) },
   { dst := some 81, g := none, op := AOp.mv (Opd.t 10) },
   { dst := some 82, g := none, op := AOp.idxA (Opd.t 80) (Opd.t 81) none 7 },
   { dst := some 83, g := none, op := AOp.load (Opd.t 82) (some 7) },
   { dst := some 84, g := none, op := AOp.call (Opd.c (V.fn 23 [])) [Opd.t 83] },
   { dst := some 79, g := none, op := AOp.mv (Opd.t 84) },
   { dst := some 85, g := none, op := AOp.ext (Opd.t 79) 0 },
   { dst := some 86, g := none, op := AOp.ext (Opd.t 79) 1 },
   { dst := some 11, g := none, op := AOp.alloc [V.str [], V.str [], V.bool false] },
   { dst := none, g := none, op := AOp.store (Opd.t 11) (Opd.t 85) 3 },
   { dst := some 12, g := none, op := AOp.mv (Opd.t 86) }]
def c7r15 : List AOper :=
  [{ dst := some 88, g := none, op := AOp.mv (Opd.t 0) },
   { dst := some 89, g := none, op := AOp.mv (Opd.t 10) },
   { dst := some 90, g := none, op := AOp.idxA (Opd.t 88) (Opd.t 89) none 7 },
   { dst := some 91, g := none, op := AOp.load (Opd.t 90) (some 7) },
   { dst := some 92, g := none, op := AOp.call (Opd.c (V.fn 24 [])) [Opd.t 91] },
   { dst := some 87, g := none, op := AOp.mv (Opd.t 92) },
   { dst := some 93, g := none, op := AOp.ext (Opd.t 87) 0 },
   { dst := some 94, g := none, op := AOp.ext (Opd.t 87) 1 },
   { dst := some 13, g := none, op := AOp.alloc [V.str [], V.str [], V.bool false] },
   { dst := none, g := none, op := AOp.store (Opd.t 13) (Opd.t 93) 3 },
   { dst := some 14, g := none, op := AOp.mv (Opd.t 94) }]
def c7r16 : List AOper :=
  [{ dst := some 95, g := none, op := AOp.load (Opd.t 11) (some 3) },
   { dst := some 96, g := none, op := AOp.load (Opd.t 13) (some 3) },
   { dst := some 97, g := none, op := AOp.eqG true [2, 2, 0] (Opd.t 95) (Opd.t 96) },
   { dst := some 98, g := none, op := AOp.mv (Opd.t 97) },
   { dst := some 99, g := some (98, false), op := AOp.mv (Opd.t 12) },
   { dst := some 100, g := some (98, false), op := AOp.mv (Opd.t 14) },
   { dst := some 101, g := some (98, false), op := AOp.bin BinOp.neq (Opd.t 99) (Opd.t 100) },
   { dst := some 102, g := none, op := AOp.pick (Opd.t 98) (Opd.c (V.bool true)) (Opd.t 101) }]
def c7r17 : List AOper :=
  [{ dst := some 4, g := none, op := AOp.mv (Opd.c (V.bool false)) }]
def c7r18 : List AOper :=
  [{ dst := some 77, g := none, op := AOp.mv (Opd.t 10) },
   { dst := some 78, g := none, op := AOp.bin BinOp.add (Opd.t 77) (Opd.c (V.int IntKind.i64 1)) },
   { dst := some 10, g := none, op := AOp.mv (Opd.t 78) }]
def c7l1 : AC := (AC.seq (AC.seq (AC.region c7r13) (AC.cond (Opd.t 76) AC.skip (AC.exit 2))) (AC.seq (AC.block 3 (AC.seq (AC.region c7r14) (AC.seq (AC.region c7r15) (AC.seq (AC.region c7r16) (AC.cond (Opd.t 102) (AC.seq (AC.region c7r17) AC.ret) AC.skip))))) (AC.region c7r18)))
def c7r19 : List AOper :=
  [{ dst := some 15, g := none, op := AOp.mv (Opd.c V.nils) }]
def c7r20 : List AOper :=
  [{ dst := some 103, g := none, op := AOp.mv (Opd.t 0) },
   { dst := some 104, g := none, op := AOp.call (Opd.c (V.fn 18 [])) [Opd.t 103] },
   { dst := some 16, g := none, op := AOp.mv (Opd.t 104) }]
def c7r21 : List AOper :=
  [{ dst := some 17, g := none, op := AOp.mv (Opd.c (V.int IntKind.i64 0)) }]
def c7r22 : List AOper :=
  [{ dst := some 105, g := none, op := AOp.mv (Opd.t 17) },
   { dst := some 106, g := none, op := AOp.mv (Opd.t 16) },
   { dst := some 107, g := none, op := AOp.lenL (Opd.t 106) },
   { dst := some 108, g := none, op := AOp.bin BinOp.lss (Opd.t 105) (Opd.t 107) }]
def c7r23 : List AOper :=
  [{ dst := some 112, g := none, op := AOp.mv (Opd.t 16) },
   { dst := some 113, g := none, op := AOp.mv (Opd.t 17) },
   { dst := some 114, g := none, op := AOp.idxA (Opd.t 112) (Opd.t 113) none 7 },
   { dst := some 115, g := none, op := AOp.load (Opd.t 114) (some 7) },
   { dst := some 116, g := none, op := AOp.call (Opd.c (V.fn 23 [])) [Opd.t 115] },
   { dst := some 111, g := none, op := AOp.mv (Opd.t 116) },
   { dst := some 117, g := none, op := AOp.ext (Opd.t 111) 0 },
   { dst := some 118, g := none, op := AOp.ext (Opd.t 111) 1 },
   { dst := some 18, g := none, op := AOp.alloc [V.str [], V.str [], V.bool false] },
   { dst := none, g := none, op := AOp.store (Opd.t 18) (Opd.t 117) 3 },
   { dst := some 19, g := none, op := AOp.mv (Opd.t 118) }]
def c7r24 : List AOper :=
  [{ dst := some 119, g := none, op := AOp.mv (Opd.t 19) },
   { dst := some 120, g := none, op := AOp.bin BinOp.neq (Opd.t 119) (Opd.c (V.int IntKind.i64 0)) },
   { dst := some 121, g := none, op := AOp.mv (Opd.t 120) },
   { dst := some 122, g := some (121, false), op := AOp.fldA (Opd.t 18) 2 },
   { dst := some 123, g := some (121, false), op := AOp.load (Opd.t 122) none },
   { dst := some 124, g := none, op := AOp.pick (Opd.t 121) (Opd.c (V.bool true)) (Opd.t 123) }]
def c7r25 : List AOper :=
  [{ dst := some 4, g := none, op := AOp.mv (Opd.c (V.bool false)) }]
def c7r26 : List AOper :=
  [{ dst := some 125, g := none, op := AOp.mv (Opd.t 15) },
   { dst := some 126, g := none, op := AOp.fldA (Opd.t 18) 0 },
   { dst := some 127, g := none, op := AOp.load (Opd.t 126) none },
   { dst := some 128, g := none, op := AOp.fldA (Opd.t 18) 1 },
   { dst := some 129, g := none, op := AOp.load (Opd.t 128) none },
   { dst := some 130, g := none, op := AOp.build [V.str [], V.str []] [(0, 1, Opd.t 127), (1, 1, Opd.t 129)] },
   { dst := some 131, g := none, op := AOp.bslice 1 2 [V.str [], V.str []] [(0, Opd.t 130)] },
   { dst := some 132, g := none, op := AOp.append (Opd.t 125) (Opd.t 131) 2 32 false },
   { dst := some 15, g := none, op := AOp.mv (Opd.t 132) }]
def c7r27 : List AOper :=
  [{ dst := some 109, g := none, op := AOp.mv (Opd.t 17) },
   { dst := some 110, g := none, op := AOp.bin BinOp.add (Opd.t 109) (Opd.c (V.int IntKind.i64 1)) },
   { dst := some 17, g := none, op := AOp.mv (Opd.t 110) }]
def c7l2 : AC := (AC.seq (AC.seq (AC.region c7r22) (AC.cond (Opd.t 108) AC.skip (AC.exit 4))) (AC.seq (AC.block 5 (AC.seq (AC.region c7r23) (AC.seq (AC.seq (AC.region c7r24) (AC.cond (Opd.t 124) (AC.seq (AC.region c7r25) AC.ret) AC.skip)) (AC.region c7r26)))) (AC.region c7r27)))
def c7r28 : List AOper :=
  [{ dst := some 134, g := none, op := AOp.mv (Opd.t 15) },
   { dst := some 135, g := none, op := AOp.call (Opd.c (V.fn 21 [])) [Opd.t 134] },
   { dst := some 133, g := none, op := AOp.mv (Opd.t 135) },
   { dst := some 136, g := none, op := AOp.ext (Opd.t 133) 0 },
   { dst := some 137, g := none, op := AOp.ext (Opd.t 133) 1 },
   { dst := some 20, g := none, op := AOp.mv (Opd.t 136) },
   { dst := some 21, g := none, op := AOp.mv (Opd.t 137) }]
def c7r29 : List AOper :=
  [{ dst := some 138, g := none, op := AOp.mv (Opd.t 21) },
   { dst := some 139, g := none, op := AOp.bin BinOp.eql (Opd.t 138) (Opd.c (V.int IntKind.i64 0)) },
   { dst := some 140, g := none, op := AOp.mv (Opd.t 139) },
   { dst := some 141, g := some (140, true), op := AOp.mv (Opd.t 20) },
   { dst := some 142, g := some (140, true), op := AOp.mv (Opd.t 16) },
   { dst := some 143, g := some (140, true), op := AOp.call (Opd.c (V.fn 15 [])) [Opd.t 141, Opd.t 142] },
   { dst := some 144, g := none, op := AOp.pick (Opd.t 140) (Opd.t 143) (Opd.c (V.bool false)) },
   { dst := some 145, g := none, op := AOp.mv (Opd.t 144) },
   { dst := some 146, g := some (145, true), op := AOp.call (Opd.c (V.fn 9 [])) [] },
   { dst := some 147, g := none, op := AOp.pick (Opd.t 145) (Opd.t 146) (Opd.c (V.bool false)) },
   { dst := some 4, g := none, op := AOp.mv (Opd.t 147) }]
def c7 : AC := (AC.seq (AC.region c7r0) (AC.seq (AC.seq (AC.region c7r1) (AC.cond (Opd.t 29) (AC.seq (AC.region c7r2) AC.ret) AC.skip)) (AC.seq (AC.seq (AC.region c7r3) (AC.block 0 (AC.loop c7l0))) (AC.seq (AC.region c7r8) (AC.seq (AC.region c7r9) (AC.seq (AC.seq (AC.region c7r10) (AC.cond (Opd.t 72) (AC.seq (AC.region c7r11) AC.ret) AC.skip)) (AC.seq (AC.seq (AC.region c7r12) (AC.block 2 (AC.loop c7l1))) (AC.seq (AC.region c7r19) (AC.seq (AC.region c7r20) (AC.seq (AC.seq (AC.region c7r21) (AC.block 4 (AC.loop c7l2))) (AC.seq (AC.region c7r28) (AC.seq (AC.region c7r29) AC.ret))))))))))))
def r7 : List ARes := [ARes.tmp 4]
theorem c7_ok : Try.f7.body.bind (cCode Try.prog Try.f7.ntmps) = some c7 := by kernel_rfl
theorem r7_ok : Try.f7.results.toList.mapM (cRes Try.prog Try.f7.ntmps) = some r7 := by kernel_rfl
def c8r0 : List AOper :=
  [{ dst := some 2, g := none, op := AOp.mv (Opd.c (V.bool false)) }]
def c8r1 : List AOper :=
  [{ dst := some 3, g := none, op := AOp.mv (Opd.c (V.int IntKind.i64 0)) }]
def c8r2 : List AOper :=
  [{ dst := some 4, g := none, op := AOp.mv (Opd.t 3) },
   { dst := some 5, g := none, op := AOp.mv (Opd.t 0) },
   { dst := some 6, g := none, op := AOp.lenL (Opd.t 5) },
   { dst := some 7, g := none, op := AOp.bin BinOp.lss (Opd.t 4) (Opd.t 6) },
   { dst := some 8, g := none, op := AOp.mv (Opd.t 7) },
   { dst := some 9, g := some (8, true), op := AOp.mv (Opd.t 3) },
   { dst := some 10, g := some (8, true), op := AOp.bin BinOp.lss (Opd.t 9) (Opd.c (V.int IntKind.i64 20)) },
   { dst := some 11, g := none, op := AOp.pick (Opd.t 8) (Opd.t 10) (Opd.c (V.bool false)) }]
def c8r3 : List AOper :=
  [{ dst := some 14, g := none, op := AOp.mv (Opd.t 0) },
   { dst := some 15, g := none, op := AOp.mv (Opd.t 3) },
   { dst := some 16, g := none, op := AOp.idxA (Opd.t 14) (Opd.t 15) none 7 },
   { dst := some 17, g := none, op := AOp.fldA (Opd.t 16) 2 },
   { dst := some 18, g := none, op := AOp.fldA (Opd.t 17) 1 },
   { dst := some 19, g := none, op := AOp.load (Opd.t 18) none },
   { dst := some 20, g := none, op := AOp.lenS (Opd.t 19) },
   { dst := some 21, g := none, op := AOp.bin BinOp.gtr (Opd.t 20) (Opd.c (V.int IntKind.i64 100)) },
   { dst := some 22, g := none, op := AOp.mv (Opd.t 21) },
   { dst := some 23, g := some (22, false), op := AOp.mv (Opd.t 0) },
   { dst := some 24, g := some (22, false), op := AOp.mv (Opd.t 3) },
   { dst := some 25, g := some (22, false), op := AOp.idxA (Opd.t 23) (Opd.t 24) none 7 },
   { dst := some 26, g := some (22, false), op := AOp.fldA (Opd.t 25) 2 },
   { dst := some 27, g := some (22, false), op := AOp.fldA (Opd.t 26) 3 },
   { dst := some 28, g := some (22, false), op := AOp.load (Opd.t 27) none },
   { dst := some 29, g := some (22, false), op := AOp.lenL (Opd.t 28) },
   { dst := some 30, g := some (22, false), op := AOp.bin BinOp.gtr (Opd.t 29) (Opd.c (V.int IntKind.i64 20)) },
   { dst := some 31, g := none, op := AOp.pick (Opd.t 22) (Opd.c (V.bool true)) (Opd.t 30) },
   { dst := some 32, g := none, op := AOp.mv (Opd.t 31) },
   { dst := some 33, g := some (32, false), op := AOp.mv (Opd.t 0) },
   { dst := some 34, g := some (32, false), op := AOp.mv (Opd.t 3) },
   { dst := some 35, g := some (32, false), op := AOp.idxA (Opd.t 33) (Opd.t 34) none 7 },
   { dst := some 36, g := some (32, false), op := AOp.fldA (Opd.t 35) 2 },
   { dst := some 37, g := some (32, false), op := AOp.fldA (Opd.t 36) 4 },
   { dst := some 38, g := some (32, false), op := AOp.load (Opd.t 37) none },
   { dst := some 39, g := some (32, false), op := AOp.lenS (Opd.t 38) },
   { dst := some 40, g := some (32, false), op := AOp.bin BinOp.gtr (Opd.t 39) (Opd.c (V.int IntKind.i64 100)) },
   { dst := some 41, g := none, op := AOp.pick (Opd.t 32) (Opd.c (V.bool true)) (Opd.t 40) }]
def c8r4 : List AOper :=
  [{ dst := some 2, g := none, op := AOp.mv (Opd.c (V.bool false)) }]
def c8r5 : List AOper :=
  [{ dst := some 12, g := none, op := AOp.mv (Opd.t 3) },
   { dst := some 13, g := none, op := AOp.bin BinOp.add (Opd.t 12) (Opd.c (V.int IntKind.i64 1)) },
   { dst := some 3, g := none, op := AOp.mv (Opd.t 13) }]
def c8l0 : AC := (AC.seq (AC.seq (AC.region c8r2) (AC.cond (Opd.t 11) AC.skip (AC.exit 0))) (AC.seq (AC.block 1 (AC.seq (AC.region c8r3) (AC.cond (Opd.t 41) (AC.seq (AC.region c8r4) AC.ret) AC.skip))) (AC.region c8r5)))
def c8r6 : List AOper :=
  [{ dst := some 42, g := none, op := AOp.mv (Opd.t 0) },
   { dst := some 43, g := none, op := AOp.lenL (Opd.t 42) },
   { dst := some 44, g := none, op := AOp.bin BinOp.leq (Opd.t 43) (Opd.c (V.int IntKind.i64 20)) },
   { dst := some 2, g := none, op := AOp.mv (Opd.t 44) }]
def c8 : AC := (AC.seq (AC.region c8r0) (AC.seq (AC.seq (AC.region c8r1) (AC.block 0 (AC.loop c8l0))) (AC.seq (AC.region c8r6) AC.ret)))
def r8 : List ARes := [ARes.tmp 2]
theorem c8_ok : Try.f8.body.bind (cCode Try.prog Try.f8.ntmps) = some c8 := by kernel_rfl
theorem r8_ok : Try.f8.results.toList.mapM (cRes Try.prog Try.f8.ntmps) = some r8 := by kernel_rfl
def c9r0 : List AOper :=
  [{ dst := some 0, g := none, op := AOp.mv (Opd.c (V.bool false)) }]
def c9r1 : List AOper :=
  [{ dst := some 10, g := none, op := AOp.build [V.int IntKind.i64 0, V.str [], V.bool false, V.nils, V.str []] [(2, 1, Opd.c (V.bool true))] },
   { dst := some 11, g := none, op := AOp.build [V.int IntKind.i64 0, V.int IntKind.i64 0, V.int IntKind.i64 0, V.str [], V.bool false, V.nils, V.str []] [(0, 1, Opd.c (V.int IntKind.i64 2)), (1, 1, Opd.c (V.int IntKind.i64 5)), (2, 5, Opd.t 10)] },
   { dst := some 12, g := none, op := AOp.call (Opd.c (V.fn 12 [])) [Opd.c V.nils, Opd.t 11] },
   { dst := some 9, g := none, op := AOp.mv (Opd.t 12) },
   { dst := some 13, g := none, op := AOp.ext (Opd.t 9) 0 },
   { dst := some 14, g := none, op := AOp.ext (Opd.t 9) 1 },
   { dst := some 1, g := none, op := AOp.mv (Opd.t 13) },
   { dst := some 2, g := none, op := AOp.mv (Opd.t 14) }]
def c9r2 : List AOper :=
  [{ dst := some 16, g := none, op := AOp.mv (Opd.t 1) },
   { dst := some 17, g := none, op := AOp.call (Opd.c (V.fn 10 [])) [Opd.t 16, Opd.c (V.int IntKind.i64 2), Opd.c (V.int IntKind.i64 5)] },
   { dst := some 15, g := none, op := AOp.mv (Opd.t 17) },
   { dst := some 18, g := none, op := AOp.ext (Opd.t 15) 0 },
   { dst := some 19, g := none, op := AOp.ext (Opd.t 15) 1 },
   { dst := some 3, g := none, op := AOp.alloc [V.int IntKind.i64 0, V.str [], V.bool false, V.nils, V.str []] },
   { dst := none, g := none, op := AOp.store (Opd.t 3) (Opd.t 18) 5 },
   { dst := some 4, g := none, op := AOp.mv (Opd.t 19) }]
def c9r3 : List AOper :=
  [{ dst := some 21, g := none, op := AOp.mv (Opd.t 1) },
   { dst := some 22, g := none, op := AOp.call (Opd.c (V.fn 10 [])) [Opd.t 21, Opd.c (V.int IntKind.i64 2), Opd.c (V.int IntKind.i64 4)] },
   { dst := some 20, g := none, op := AOp.mv (Opd.t 22) },
   { dst := some 23, g := none, op := AOp.ext (Opd.t 20) 0 },
   { dst := some 24, g := none, op := AOp.ext (Opd.t 20) 1 },
   { dst := some 5, g := none, op := AOp.alloc [V.int IntKind.i64 0, V.str [], V.bool false, V.nils, V.str []] },
   { dst := none, g := none, op := AOp.store (Opd.t 5) (Opd.t 23) 5 },
   { dst := some 6, g := none, op := AOp.mv (Opd.t 24) }]
def c9r4 : List AOper :=
  [{ dst := some 25, g := none, op := AOp.mv (Opd.t 2) },
   { dst := some 26, g := none, op := AOp.bin BinOp.neq (Opd.t 25) (Opd.c (V.int IntKind.i64 0)) },
   { dst := some 27, g := none, op := AOp.mv (Opd.t 26) },
   { dst := some 28, g := some (27, false), op := AOp.mv (Opd.t 1) },
   { dst := some 29, g := some (27, false), op := AOp.lenL (Opd.t 28) },
   { dst := some 30, g := some (27, false), op := AOp.bin BinOp.neq (Opd.t 29) (Opd.c (V.int IntKind.i64 1)) },
   { dst := some 31, g := none, op := AOp.pick (Opd.t 27) (Opd.c (V.bool true)) (Opd.t 30) }]
def c9r5 : List AOper :=
  [{ dst := some 0, g := none, op := AOp.mv (Opd.c (V.bool false)) }]
def c9r6 : List AOper :=
  [{ dst := some 33, g := none, op := AOp.mv (Opd.t 1) },
   { dst := some 34, g := none, op := AOp.idxA (Opd.t 33) (Opd.c (V.int IntKind.i64 0)) none 7 },
   { dst := some 35, g := none, op := AOp.load (Opd.t 34) (some 7) },
   { dst := some 36, g := none, op := AOp.call (Opd.c (V.fn 23 [])) [Opd.t 35] },
   { dst := some 32, g := none, op := AOp.mv (Opd.t 36) },
   { dst := some 37, g := none, op := AOp.ext (Opd.t 32) 0 },
   { dst := some 38, g := none, op := AOp.ext (Opd.t 32) 1 },
   { dst := some 7, g := none, op := AOp.alloc [V.str [], V.str [], V.bool false] },
   { dst := none, g := none, op := AOp.store (Opd.t 7) (Opd.t 37) 3 },
   { dst := some 8, g := none, op := AOp.mv (Opd.t 38) }]
def c9r7 : List AOper :=
  [{ dst := some 39, g := none, op := AOp.mv (Opd.t 4) },
   { dst := some 40, g := none, op := AOp.bin BinOp.eql (Opd.t 39) (Opd.c (V.int IntKind.i64 0)) },
   { dst := some 41, g := none, op := AOp.mv (Opd.t 40) },
   { dst := some 42, g := some (41, true), op := AOp.fldA (Opd.t 3) 2 },
   { dst := some 43, g := some (41, true), op := AOp.load (Opd.t 42) none },
   { dst := some 44, g := none, op := AOp.pick (Opd.t 41) (Opd.t 43) (Opd.c (V.bool false)) },
   { dst := some 45, g := none, op := AOp.mv (Opd.t 44) },
   { dst := some 46, g := some (45, true), op := AOp.mv (Opd.t 6) },
   { dst := some 47, g := some (45, true), op := AOp.bin BinOp.eql (Opd.t 46) (Opd.c (V.int IntKind.i64 140)) },
   { dst := some 48, g := none, op := AOp.pick (Opd.t 45) (Opd.t 47) (Opd.c (V.bool false)) },
   { dst := some 49, g := none, op := AOp.mv (Opd.t 48) },
   { dst := some 50, g := some (49, true), op := AOp.mv (Opd.t 8) },
   { dst := some 51, g := some (49, true), op := AOp.bin BinOp.eql (Opd.t 50) (Opd.c (V.int IntKind.i64 0)) },
   { dst := some 52, g := none, op := AOp.pick (Opd.t 49) (Opd.t 51) (Opd.c (V.bool false)) },
   { dst := some 53, g := none, op := AOp.mv (Opd.t 52) },
   { dst := some 54, g := some (53, true), op := AOp.load (Opd.t 7) (some 3) },
   { dst := some 55, g := some (53, true), op := AOp.build [V.str [], V.str [], V.bool false] [(0, 1, Opd.c (V.str [116, 50])), (1, 1, Opd.c (V.str [5, 0, 1]))] },
   { dst := some 56, g := some (53, true), op := AOp.eqG false [2, 2, 0] (Opd.t 54) (Opd.t 55) },
   { dst := some 57, g := none, op := AOp.pick (Opd.t 53) (Opd.t 56) (Opd.c (V.bool false)) },
   { dst := some 0, g := none, op := AOp.mv (Opd.t 57) }]
def c9 : AC := (AC.seq (AC.region c9r0) (AC.seq (AC.region c9r1) (AC.seq (AC.region c9r2) (AC.seq (AC.region c9r3) (AC.seq (AC.seq (AC.region c9r4) (AC.cond (Opd.t 31) (AC.seq (AC.region c9r5) AC.ret) AC.skip)) (AC.seq (AC.region c9r6) (AC.seq (AC.region c9r7) AC.ret)))))))
def r9 : List ARes := [ARes.tmp 0]
theorem c9_ok : Try.f9.body.bind (cCode Try.prog Try.f9.ntmps) = some c9 := by kernel_rfl
theorem r9_ok : Try.f9.results.toList.mapM (cRes Try.prog Try.f9.ntmps) = some r9 := by kernel_rfl
def c10r0 : List AOper :=
  [{ dst := some 6, g := none, op := AOp.alloc [V.int IntKind.i64 0, V.str [], V.bool false, V.nils, V.str []] },
   { dst := some 7, g := none, op := AOp.mv (Opd.c (V.int IntKind.i64 0)) }]
def c10r1 : List AOper :=
  [{ dst := some 12, g := none, op := AOp.mv (Opd.t 0) },
   { dst := some 13, g := none, op := AOp.call (Opd.c (V.fn 25 [])) [Opd.t 12] },
   { dst := some 11, g := none, op := AOp.mv (Opd.t 13) },
   { dst := some 14, g := none, op := AOp.ext (Opd.t 11) 0 },
   { dst := some 15, g := none, op := AOp.ext (Opd.t 11) 1 },
   { dst := some 8, g := none, op := AOp.alloc [V.int IntKind.i64 0, V.int IntKind.i64 0, V.int IntKind.i64 0, V.str [], V.bool false, V.nils, V.str [], V.int IntKind.i64 0, V.int IntKind.i64 0, V.int IntKind.i64 0, V.str [], V.bool false, V.nils, V.str [], V.int IntKind.i64 0, V.int IntKind.i64 0, V.int IntKind.i64 0, V.str [], V.bool false, V.nils, V.str [], V.int IntKind.i64 0, V.int IntKind.i64 0, V.int IntKind.i64 0, V.str [], V.bool false, V.nils, V.str [], V.int IntKind.i64 0, V.int IntKind.i64 0, V.int IntKind.i64 0, V.str [], V.bool false, V.nils, V.str [], V.int IntKind.i64 0, V.int IntKind.i64 0, V.int IntKind.i64 0, V.str [], V.bool false, V.nils, V.str [], V.int IntKind.i64 0, V.int IntKind.i64 0, V.int IntKind.i64 0, V.str [], V.bool false, V.nils, V.str [], V.int IntKind.i64 0, V.int IntKind.i64 0, V.int IntKind.i64 0, V.str [], V.bool false, V.nils, V.str []] },
   { dst := none, g := none, op := AOp.store (Opd.t 8) (Opd.t 14) 56 },
   { dst := some 9, g := none, op := AOp.mv (Opd.t 15) }]
def c10r2 : List AOper :=
  [{ dst := some 16, g := none, op := AOp.mv (Opd.t 9) },
   { dst := some 17, g := none, op := AOp.un UnOp.not (Opd.t 16) },
   { dst := some 18, g := none, op := AOp.mv (Opd.t 17) },
   { dst := some 19, g := some (18, false), op := AOp.mv (Opd.t 1) },
   { dst := some 20, g := some (18, false), op := AOp.bin BinOp.lss (Opd.t 19) (Opd.c (V.int IntKind.i64 0)) },
   { dst := some 21, g := none, op := AOp.pick (Opd.t 18) (Opd.c (V.bool true)) (Opd.t 20) },
   { dst := some 22, g := none, op := AOp.mv (Opd.t 21) },
   { dst := some 23, g := some (22, false), op := AOp.mv (Opd.t 1) },
   { dst := some 24, g := some (22, false), op := AOp.bin BinOp.geq (Opd.t 23) (Opd.c (V.int IntKind.i64 8)) },
   { dst := some 25, g := none, op := AOp.pick (Opd.t 22) (Opd.c (V.bool true)) (Opd.t 24) },
   { dst := some 26, g := none, op := AOp.mv (Opd.t 25) },
   { dst := some 27, g := some (26, false), op := AOp.mv (Opd.t 2) },
   { dst := some 28, g := some (26, false), op := AOp.bin BinOp.lss (Opd.t 27) (Opd.c (V.int IntKind.i64 1)) },
   { dst := some 29, g := none, op := AOp.pick (Opd.t 26) (Opd.c (V.bool true)) (Opd.t 28) },
   { dst := some 30, g := none, op := AOp.mv (Opd.t 29) },
   { dst := some 31, g := some (30, false), op := AOp.mv (Opd.t 2) },
   { dst := some 32, g := some (30, false), op := AOp.bin BinOp.gtr (Opd.t 31) (Opd.c (V.int IntKind.i64 1099511627775)) },
   { dst := some 33, g := none, op := AOp.pick (Opd.t 30) (Opd.c (V.bool true)) (Opd.t 32) }]
def c10r3 : List AOper :=
  [{ dst := some 34, g := none, op := AOp.build [V.int IntKind.i64 0, V.str [], V.bool false, V.nils, V.str []] [] },
   { dst := none, g := none, op := AOp.store (Opd.t 6) (Opd.t 34) 5 },
   { dst := some 7, g := none, op := AOp.mv (Opd.c (V.int IntKind.i64 1)) }]
def c10r4 : List AOper :=
  [{ dst := some 35, g := none, op := AOp.mv (Opd.t 1) },
   { dst := some 36, g := none, op := AOp.idxA (Opd.t 8) (Opd.t 35) (some 8) 7 },
   { dst := some 37, g := none, op := AOp.load (Opd.t 36) (some 7) },
   { dst := some 10, g := none, op := AOp.alloc [V.int IntKind.i64 0, V.int IntKind.i64 0, V.int IntKind.i64 0, V.str [], V.bool false, V.nils, V.str []] },
   { dst := none, g := none, op := AOp.store (Opd.t 10) (Opd.t 37) 7 }]
def c10r5 : List AOper :=
  [{ dst := some 39, g := none, op := AOp.fldA (Opd.t 10) 1 },
   { dst := some 40, g := none, op := AOp.load (Opd.t 39) none },
   { dst := some 41, g := none, op := AOp.mv (Opd.t 2) },
   { dst := some 42, g := none, op := AOp.bin BinOp.lss (Opd.t 40) (Opd.t 41) },
   { dst := some 38, g := none, op := AOp.mv (Opd.t 42) }]
def c10r6 : List AOper :=
  [{ dst := some 43, g := none, op := AOp.build [V.int IntKind.i64 0, V.str [], V.bool false, V.nils, V.str []] [] },
   { dst := none, g := none, op := AOp.store (Opd.t 6) (Opd.t 43) 5 },
   { dst := some 7, g := none, op := AOp.mv (Opd.c (V.int IntKind.i64 3)) }]
def c10r7 : List AOper :=
  [{ dst := some 45, g := none, op := AOp.fldA (Opd.t 10) 1 },
   { dst := some 46, g := none, op := AOp.load (Opd.t 45) none },
   { dst := some 47, g := none, op := AOp.mv (Opd.t 2) },
   { dst := some 48, g := none, op := AOp.bin BinOp.gtr (Opd.t 46) (Opd.t 47) },
   { dst := some 44, g := none, op := AOp.mv (Opd.t 48) }]
def c10r8 : List AOper :=
  [{ dst := some 49, g := none, op := AOp.build [V.int IntKind.i64 0, V.str [], V.bool false, V.nils, V.str []] [] },
   { dst := none, g := none, op := AOp.store (Opd.t 6) (Opd.t 49) 5 },
   { dst := some 7, g := none, op := AOp.mv (Opd.c (V.int IntKind.i64 140)) }]
def c10r9 : List AOper :=
  [{ dst := some 50, g := none, op := AOp.mv (Opd.t 1) },
   { dst := some 51, g := none, op := AOp.idxA (Opd.t 8) (Opd.t 50) (some 8) 7 },
   { dst := some 52, g := none, op := AOp.fldA (Opd.t 51) 2 },
   { dst := some 53, g := none, op := AOp.load (Opd.t 52) (some 5) },
   { dst := none, g := none, op := AOp.store (Opd.t 6) (Opd.t 53) 5 },
   { dst := some 7, g := none, op := AOp.mv (Opd.c (V.int IntKind.i64 0)) }]
def c10 : AC := (AC.seq (AC.region c10r0) (AC.seq (AC.region c10r1) (AC.seq (AC.seq (AC.region c10r2) (AC.cond (Opd.t 33) (AC.seq (AC.region c10r3) AC.ret) AC.skip)) (AC.seq (AC.seq (AC.region c10r4) (AC.block 0 (AC.seq (AC.region c10r5) (AC.cond (Opd.t 38) (AC.seq (AC.region c10r6) AC.ret) (AC.seq (AC.region c10r7) (AC.cond (Opd.t 44) (AC.seq (AC.region c10r8) AC.ret) AC.skip)))))) (AC.seq (AC.region c10r9) AC.ret)))))
def r10 : List ARes := [ARes.cell 6 (some 5), ARes.tmp 7]
theorem c10_ok : Try.f10.body.bind (cCode Try.prog Try.f10.ntmps) = some c10 := by kernel_rfl
theorem r10_ok : Try.f10.results.toList.mapM (cRes Try.prog Try.f10.ntmps) = some r10 := by kernel_rfl
def c11r0 : List AOper :=
  [{ dst := some 6, g := none, op := AOp.alloc [V.int IntKind.i64 0, V.str [], V.bool false, V.nils, V.str []] },
   { dst := some 7, g := none, op := AOp.mv (Opd.c (V.int IntKind.i64 0)) }]
def c11r1 : List AOper :=
  [{ dst := some 9, g := none, op := AOp.mv (Opd.t 0) },
   { dst := some 10, g := none, op := AOp.call (Opd.c (V.fn 26 [])) [Opd.t 9] },
   { dst := some 11, g := none, op := AOp.un UnOp.not (Opd.t 10) },
   { dst := some 12, g := none, op := AOp.mv (Opd.t 11) },
   { dst := some 13, g := some (12, false), op := AOp.mv (Opd.t 1) },
   { dst := some 14, g := some (12, false), op := AOp.bin BinOp.lss (Opd.t 13) (Opd.c (V.int IntKind.i64 0)) },
   { dst := some 15, g := none, op := AOp.pick (Opd.t 12) (Opd.c (V.bool true)) (Opd.t 14) },
   { dst := some 16, g := none, op := AOp.mv (Opd.t 15) },
   { dst := some 17, g := some (16, false), op := AOp.mv (Opd.t 1) },
   { dst := some 18, g := some (16, false), op := AOp.bin BinOp.gtr (Opd.t 17) (Opd.c (V.int IntKind.i64 7)) },
   { dst := some 19, g := none, op := AOp.pick (Opd.t 16) (Opd.c (V.bool true)) (Opd.t 18) },
   { dst := some 20, g := none, op := AOp.mv (Opd.t 19) },
   { dst := some 21, g := some (20, false), op := AOp.mv (Opd.t 2) },
   { dst := some 22, g := some (20, false), op := AOp.bin BinOp.lss (Opd.t 21) (Opd.c (V.int IntKind.i64 1)) },
   { dst := some 23, g := none, op := AOp.pick (Opd.t 20) (Opd.c (V.bool true)) (Opd.t 22) },
   { dst := some 24, g := none, op := AOp.mv (Opd.t 23) },
   { dst := some 25, g := some (24, false), op := AOp.mv (Opd.t 2) },
   { dst := some 26, g := some (24, false), op := AOp.bin BinOp.gtr (Opd.t 25) (Opd.c (V.int IntKind.i64 1099511627775)) },
   { dst := some 27, g := none, op := AOp.pick (Opd.t 24) (Opd.c (V.bool true)) (Opd.t 26) }]
def c11r2 : List AOper :=
  [{ dst := some 28, g := none, op := AOp.build [V.int IntKind.i64 0, V.str [], V.bool false, V.nils, V.str []] [] },
   { dst := none, g := none, op := AOp.store (Opd.t 6) (Opd.t 28) 5 },
   { dst := some 7, g := none, op := AOp.mv (Opd.c (V.int IntKind.i64 1)) }]
def c11r3 : List AOper :=
  [{ dst := some 29, g := none, op := AOp.mv (Opd.t 0) },
   { dst := some 30, g := none, op := AOp.mv (Opd.t 1) },
   { dst := some 31, g := none, op := AOp.call (Opd.c (V.fn 27 [])) [Opd.t 29, Opd.t 30] },
   { dst := some 8, g := none, op := AOp.mv (Opd.t 31) }]
def c11r4 : List AOper :=
  [{ dst := some 32, g := none, op := AOp.mv (Opd.t 8) },
   { dst := some 33, g := none, op := AOp.bin BinOp.lss (Opd.t 32) (Opd.c (V.int IntKind.i64 0)) },
   { dst := some 34, g := none, op := AOp.mv (Opd.t 33) },
   { dst := some 35, g := some (34, false), op := AOp.mv (Opd.t 0) },
   { dst := some 36, g := some (34, false), op := AOp.mv (Opd.t 8) },
   { dst := some 37, g := some (34, false), op := AOp.idxA (Opd.t 35) (Opd.t 36) none 7 },
   { dst := some 38, g := some (34, false), op := AOp.fldA (Opd.t 37) 1 },
   { dst := some 39, g := some (34, false), op := AOp.load (Opd.t 38) none },
   { dst := some 40, g := some (34, false), op := AOp.mv (Opd.t 2) },
   { dst := some 41, g := some (34, false), op := AOp.bin BinOp.lss (Opd.t 39) (Opd.t 40) },
   { dst := some 42, g := none, op := AOp.pick (Opd.t 34) (Opd.c (V.bool true)) (Opd.t 41) }]
def c11r5 : List AOper :=
  [{ dst := some 43, g := none, op := AOp.build [V.int IntKind.i64 0, V.str [], V.bool false, V.nils, V.str []] [] },
   { dst := none, g := none, op := AOp.store (Opd.t 6) (Opd.t 43) 5 },
   { dst := some 7, g := none, op := AOp.mv (Opd.c (V.int IntKind.i64 3)) }]
def c11r6 : List AOper :=
  [{ dst := some 44, g := none, op := AOp.mv (Opd.t 0) },
   { dst := some 45, g := none, op := AOp.mv (Opd.t 8) },
   { dst := some 46, g := none, op := AOp.idxA (Opd.t 44) (Opd.t 45) none 7 },
   { dst := some 47, g := none, op := AOp.fldA (Opd.t 46) 1 },
   { dst := some 48, g := none, op := AOp.load (Opd.t 47) none },
   { dst := some 49, g := none, op := AOp.mv (Opd.t 2) },
   { dst := some 50, g := none, op := AOp.bin BinOp.gtr (Opd.t 48) (Opd.t 49) }]
def c11r7 : List AOper :=
  [{ dst := some 51, g := none, op := AOp.build [V.int IntKind.i64 0, V.str [], V.bool false, V.nils, V.str []] [] },
   { dst := none, g := none, op := AOp.store (Opd.t 6) (Opd.t 51) 5 },
   { dst := some 7, g := none, op := AOp.mv (Opd.c (V.int IntKind.i64 140)) }]
def c11r8 : List AOper :=
  [{ dst := some 52, g := none, op := AOp.mv (Opd.t 0) },
   { dst := some 53, g := none, op := AOp.mv (Opd.t 8) },
   { dst := some 54, g := none, op := AOp.idxA (Opd.t 52) (Opd.t 53) none 7 },
   { dst := some 55, g := none, op := AOp.fldA (Opd.t 54) 2 },
   { dst := some 56, g := none, op := AOp.load (Opd.t 55) (some 5) },
   { dst := none, g := none, op := AOp.store (Opd.t 6) (Opd.t 56) 5 },
   { dst := some 7, g := none, op := AOp.mv (Opd.c (V.int IntKind.i64 0)) }]
def c11 : AC := (AC.seq (AC.region c11r0) (AC.seq (AC.seq (AC.region c11r1) (AC.cond (Opd.t 27) (AC.seq (AC.region c11r2) AC.ret) AC.skip)) (AC.seq (AC.region c11r3) (AC.seq (AC.seq (AC.region c11r4) (AC.cond (Opd.t 42) (AC.seq (AC.region c11r5) AC.ret) AC.skip)) (AC.seq (AC.seq (AC.region c11r6) (AC.cond (Opd.t 50) (AC.seq (AC.region c11r7) AC.ret) AC.skip)) (AC.seq (AC.region c11r8) AC.ret))))))
def r11 : List ARes := [ARes.cell 6 (some 5), ARes.tmp 7]
theorem c11_ok : Try.f11.body.bind (cCode Try.prog Try.f11.ntmps) = some c11 := by kernel_rfl
theorem r11_ok : Try.f11.results.toList.mapM (cRes Try.prog Try.f11.ntmps) = some r11 := by kernel_rfl
def c12r0 : List AOper :=
  [{ dst := some 3, g := none, op := AOp.box (Opd.t 1) },
   { dst := some 4, g := none, op := AOp.mv (Opd.c V.nils) },
   { dst := some 5, g := none, op := AOp.mv (Opd.c (V.int IntKind.i64 0)) }]
def c12r1 : List AOper :=
  [{ dst := some 9, g := none, op := AOp.mv (Opd.t 0) },
   { dst := some 10, g := none, op := AOp.call (Opd.c (V.fn 25 [])) [Opd.t 9] },
   { dst := some 8, g := none, op := AOp.mv (Opd.t 10) },
   { dst := some 11, g := none, op := AOp.ext (Opd.t 8) 0 },
   { dst := some 12, g := none, op := AOp.ext (Opd.t 8) 1 },
   { dst := some 6, g := none, op := AOp.alloc [V.int IntKind.i64 0, V.int IntKind.i64 0, V.int IntKind.i64 0, V.str [], V.bool false, V.nils, V.str [], V.int IntKind.i64 0, V.int IntKind.i64 0, V.int IntKind.i64 0, V.str [], V.bool false, V.nils, V.str [], V.int IntKind.i64 0, V.int IntKind.i64 0, V.int IntKind.i64 0, V.str [], V.bool false, V.nils, V.str [], V.int IntKind.i64 0, V.int IntKind.i64 0, V.int IntKind.i64 0, V.str [], V.bool false, V.nils, V.str [], V.int IntKind.i64 0, V.int IntKind.i64 0, V.int IntKind.i64 0, V.str [], V.bool false, V.nils, V.str [], V.int IntKind.i64 0, V.int IntKind.i64 0, V.int IntKind.i64 0, V.str [], V.bool false, V.nils, V.str [], V.int IntKind.i64 0, V.int IntKind.i64 0, V.int IntKind.i64 0, V.str [], V.bool false, V.nils, V.str [], V.int IntKind.i64 0, V.int IntKind.i64 0, V.int IntKind.i64 0, V.str [], V.bool false, V.nils, V.str []] },
   { dst := none, g := none, op := AOp.store (Opd.t 6) (Opd.t 11) 56 },
   { dst := some 7, g := none, op := AOp.mv (Opd.t 12) }]
def c12r2 : List AOper :=
  [{ dst := some 14, g := none, op := AOp.mv (Opd.t 7) },
   { dst := some 15, g := none, op := AOp.un UnOp.not (Opd.t 14) },
   { dst := some 16, g := none, op := AOp.mv (Opd.t 15) },
   { dst := some 17, g := some (16, false), op := AOp.load (Opd.t 3) (some 7) },
   { dst := some 18, g := some (16, false), op := AOp.call (Opd.c (V.fn 28 [])) [Opd.t 17] },
   { dst := some 19, g := some (16, false), op := AOp.un UnOp.not (Opd.t 18) },
   { dst := some 20, g := none, op := AOp.pick (Opd.t 16) (Opd.c (V.bool true)) (Opd.t 19) },
   { dst := some 13, g := none, op := AOp.mv (Opd.t 20) }]
def c12r3 : List AOper :=
  [{ dst := some 4, g := none, op := AOp.mv (Opd.c V.nils) },
   { dst := some 5, g := none, op := AOp.mv (Opd.c (V.int IntKind.i64 1)) }]
def c12d0 : List (AOper × List Nat) :=
  [({ dst := some 22, g := none, op := AOp.fldA (Opd.t 3) 0 }, []),
   ({ dst := some 23, g := none, op := AOp.load (Opd.t 22) none }, [0]),
   ({ dst := some 24, g := none, op := AOp.idxA (Opd.t 6) (Opd.t 23) (some 8) 7 }, [1]),
   ({ dst := some 25, g := none, op := AOp.fldA (Opd.t 24) 1 }, [2]),
   ({ dst := some 26, g := none, op := AOp.load (Opd.t 25) none }, [3]),
   ({ dst := some 27, g := none, op := AOp.fldA (Opd.t 3) 1 }, []),
   ({ dst := some 28, g := none, op := AOp.load (Opd.t 27) none }, [5]),
   ({ dst := some 29, g := none, op := AOp.bin BinOp.geq (Opd.t 26) (Opd.t 28) }, [4, 6]),
   ({ dst := some 21, g := none, op := AOp.mv (Opd.t 29) }, [7])]
def c12r4 : List AOper :=
  [{ dst := some 4, g := none, op := AOp.mv (Opd.c V.nils) },
   { dst := some 5, g := none, op := AOp.mv (Opd.c (V.int IntKind.i64 140)) }]
def c12r5 : List AOper :=
  [{ dst := some 30, g := none, op := AOp.fldA (Opd.t 3) 0 },
   { dst := some 31, g := none, op := AOp.load (Opd.t 30) none },
   { dst := some 32, g := none, op := AOp.load (Opd.t 3) (some 7) },
   { dst := some 33, g := none, op := AOp.idxA (Opd.t 6) (Opd.t 31) (some 8) 7 },
   { dst := none, g := none, op := AOp.store (Opd.t 33) (Opd.t 32) 7 }]
def c12r6 : List AOper :=
  [{ dst := some 34, g := none, op := AOp.load (Opd.t 6) (some 56) },
   { dst := some 35, g := none, op := AOp.call (Opd.c (V.fn 29 [])) [Opd.t 34] },
   { dst := some 4, g := none, op := AOp.mv (Opd.t 35) },
   { dst := some 5, g := none, op := AOp.mv (Opd.c (V.int IntKind.i64 0)) }]
def c12 : AC := (AC.seq (AC.region c12r0) (AC.seq (AC.region c12r1) (AC.seq (AC.block 0 (AC.seq (AC.region c12r2) (AC.cond (Opd.t 13) (AC.seq (AC.region c12r3) AC.ret) (AC.seq (AC.drawn c12d0) (AC.cond (Opd.t 21) (AC.seq (AC.region c12r4) AC.ret) AC.skip))))) (AC.seq (AC.region c12r5) (AC.seq (AC.region c12r6) AC.ret)))))
def r12 : List ARes := [ARes.tmp 4, ARes.tmp 5]
theorem c12_ok : Try.f12.body.bind (cCode Try.prog Try.f12.ntmps) = some c12 := by kernel_rfl
theorem r12_ok : Try.f12.results.toList.mapM (cRes Try.prog Try.f12.ntmps) = some r12 := by kernel_rfl
def c13r0 : List AOper :=
  [{ dst := some 3, g := none, op := AOp.box (Opd.t 1) },
   { dst := some 4, g := none, op := AOp.mv (Opd.c V.nils) },
   { dst := some 5, g := none, op := AOp.mv (Opd.c (V.int IntKind.i64 0)) }]
def c13r1 : List AOper :=
  [{ dst := some 7, g := none, op := AOp.mv (Opd.t 0) },
   { dst := some 8, g := none, op := AOp.call (Opd.c (V.fn 26 [])) [Opd.t 7] },
   { dst := some 9, g := none, op := AOp.un UnOp.not (Opd.t 8) },
   { dst := some 10, g := none, op := AOp.mv (Opd.t 9) },
   { dst := some 11, g := some (10, false), op := AOp.load (Opd.t 3) (some 7) },
   { dst := some 12, g := some (10, false), op := AOp.call (Opd.c (V.fn 30 [])) [Opd.t 11] },
   { dst := some 13, g := some (10, false), op := AOp.un UnOp.not (Opd.t 12) },
   { dst := some 14, g := none, op := AOp.pick (Opd.t 10) (Opd.c (V.bool true)) (Opd.t 13) }]
def c13r2 : List AOper :=
  [{ dst := some 4, g := none, op := AOp.mv (Opd.c V.nils) },
   { dst := some 5, g := none, op := AOp.mv (Opd.c (V.int IntKind.i64 1)) }]
def c13r3 : List AOper :=
  [{ dst := some 15, g := none, op := AOp.mv (Opd.t 0) },
   { dst := some 16, g := none, op := AOp.fldA (Opd.t 3) 0 },
   { dst := some 17, g := none, op := AOp.load (Opd.t 16) none },
   { dst := some 18, g := none, op := AOp.call (Opd.c (V.fn 27 [])) [Opd.t 15, Opd.t 17] },
   { dst := some 6, g := none, op := AOp.mv (Opd.t 18) }]
def c13d0 : List (AOper × List Nat) :=
  [({ dst := some 19, g := none, op := AOp.mv (Opd.t 6) }, []),
   ({ dst := some 20, g := none, op := AOp.bin BinOp.geq (Opd.t 19) (Opd.c (V.int IntKind.i64 0)) }, [0]),
   ({ dst := some 21, g := none, op := AOp.mv (Opd.t 20) }, [1]),
   ({ dst := some 22, g := some (21, true), op := AOp.mv (Opd.t 0) }, [2]),
   ({ dst := some 23, g := some (21, true), op := AOp.mv (Opd.t 6) }, [2]),
   ({ dst := some 24, g := some (21, true), op := AOp.idxA (Opd.t 22) (Opd.t 23) none 7 }, [3, 4, 2]),
   ({ dst := some 25, g := some (21, true), op := AOp.fldA (Opd.t 24) 1 }, [5, 2]),
   ({ dst := some 26, g := some (21, true), op := AOp.load (Opd.t 25) none }, [6, 2]),
   ({ dst := some 27, g := some (21, true), op := AOp.fldA (Opd.t 3) 1 }, [2]),
   ({ dst := some 28, g := some (21, true), op := AOp.load (Opd.t 27) none }, [8, 2]),
   ({ dst := some 29, g := some (21, true), op := AOp.bin BinOp.geq (Opd.t 26) (Opd.t 28) }, [7, 9, 2]),
   ({ dst := some 30, g := none, op := AOp.pick (Opd.t 21) (Opd.t 29) (Opd.c (V.bool false)) }, [2, 10])]
def c13r4 : List AOper :=
  [{ dst := some 4, g := none, op := AOp.mv (Opd.c V.nils) },
   { dst := some 5, g := none, op := AOp.mv (Opd.c (V.int IntKind.i64 140)) }]
def c13r5 : List AOper :=
  [{ dst := some 31, g := none, op := AOp.mv (Opd.t 0) },
   { dst := some 32, g := none, op := AOp.load (Opd.t 3) (some 7) },
   { dst := some 33, g := none, op := AOp.call (Opd.c (V.fn 31 [])) [Opd.t 31, Opd.t 32] },
   { dst := some 4, g := none, op := AOp.mv (Opd.t 33) },
   { dst := some 5, g := none, op := AOp.mv (Opd.c (V.int IntKind.i64 0)) }]
def c13 : AC := (AC.seq (AC.region c13r0) (AC.seq (AC.seq (AC.region c13r1) (AC.cond (Opd.t 14) (AC.seq (AC.region c13r2) AC.ret) AC.skip)) (AC.seq (AC.seq (AC.region c13r3) (AC.seq (AC.drawn c13d0) (AC.cond (Opd.t 30) (AC.seq (AC.region c13r4) AC.ret) AC.skip))) (AC.seq (AC.region c13r5) AC.ret))))
def r13 : List ARes := [ARes.tmp 4, ARes.tmp 5]
theorem c13_ok : Try.f13.body.bind (cCode Try.prog Try.f13.ntmps) = some c13 := by kernel_rfl
theorem r13_ok : Try.f13.results.toList.mapM (cRes Try.prog Try.f13.ntmps) = some r13 := by kernel_rfl
def c14r0 : List AOper :=
  [{ dst := some 2, g := none, op := AOp.box (Opd.t 0) },
   { dst := some 3, g := none, op := AOp.box (Opd.t 1) },
   { dst := some 4, g := none, op := AOp.mv (Opd.c (V.bool false)) }]
def c14r1 : List AOper :=
  [{ dst := some 6, g := none, op := AOp.fldA (Opd.t 2) 0 },
   { dst := some 7, g := none, op := AOp.load (Opd.t 6) none },
   { dst := some 8, g := none, op := AOp.fldA (Opd.t 3) 0 },
   { dst := some 9, g := none, op := AOp.load (Opd.t 8) none },
   { dst := some 10, g := none, op := AOp.bin BinOp.neq (Opd.t 7) (Opd.t 9) },
   { dst := some 11, g := none, op := AOp.mv (Opd.t 10) },
   { dst := some 12, g := some (11, false), op := AOp.fldA (Opd.t 2) 1 },
   { dst := some 13, g := some (11, false), op := AOp.load (Opd.t 12) none },
   { dst := some 14, g := some (11, false), op := AOp.fldA (Opd.t 3) 1 },
   { dst := some 15, g := some (11, false), op := AOp.load (Opd.t 14) none },
   { dst := some 16, g := some (11, false), op := AOp.bin BinOp.neq (Opd.t 13) (Opd.t 15) },
   { dst := some 17, g := none, op := AOp.pick (Opd.t 11) (Opd.c (V.bool true)) (Opd.t 16) },
   { dst := some 18, g := none, op := AOp.mv (Opd.t 17) },
   { dst := some 19, g := some (18, false), op := AOp.fldA (Opd.t 2) 2 },
   { dst := some 20, g := some (18, false), op := AOp.load (Opd.t 19) none },
   { dst := some 21, g := some (18, false), op := AOp.fldA (Opd.t 3) 2 },
   { dst := some 22, g := some (18, false), op := AOp.load (Opd.t 21) none },
   { dst := some 23, g := some (18, false), op := AOp.eq true 0 (Opd.t 20) (Opd.t 22) },
   { dst := some 24, g := none, op := AOp.pick (Opd.t 18) (Opd.c (V.bool true)) (Opd.t 23) },
   { dst := some 25, g := none, op := AOp.mv (Opd.t 24) },
   { dst := some 26, g := some (25, false), op := AOp.fldA (Opd.t 2) 4 },
   { dst := some 27, g := some (25, false), op := AOp.load (Opd.t 26) none },
   { dst := some 28, g := some (25, false), op := AOp.fldA (Opd.t 3) 4 },
   { dst := some 29, g := some (25, false), op := AOp.load (Opd.t 28) none },
   { dst := some 30, g := some (25, false), op := AOp.bin BinOp.neq (Opd.t 27) (Opd.t 29) },
   { dst := some 31, g := none, op := AOp.pick (Opd.t 25) (Opd.c (V.bool true)) (Opd.t 30) },
   { dst := some 32, g := none, op := AOp.mv (Opd.t 31) },
   { dst := some 33, g := some (32, false), op := AOp.fldA (Opd.t 2) 3 },
   { dst := some 34, g := some (32, false), op := AOp.load (Opd.t 33) none },
   { dst := some 35, g := some (32, false), op := AOp.lenL (Opd.t 34) },
   { dst := some 36, g := some (32, false), op := AOp.fldA (Opd.t 3) 3 },
   { dst := some 37, g := some (32, false), op := AOp.load (Opd.t 36) none },
   { dst := some 38, g := some (32, false), op := AOp.lenL (Opd.t 37) },
   { dst := some 39, g := some (32, false), op := AOp.bin BinOp.neq (Opd.t 35) (Opd.t 38) },
   { dst := some 40, g := none, op := AOp.pick (Opd.t 32) (Opd.c (V.bool true)) (Opd.t 39) }]
def c14r2 : List AOper :=
  [{ dst := some 4, g := none, op := AOp.mv (Opd.c (V.bool false)) }]
def c14r3 : List AOper :=
  [{ dst := some 5, g := none, op := AOp.mv (Opd.c (V.int IntKind.i64 0)) }]
def c14r4 : List AOper :=
  [{ dst := some 41, g := none, op := AOp.mv (Opd.t 5) },
   { dst := some 42, g := none, op := AOp.fldA (Opd.t 2) 3 },
   { dst := some 43, g := none, op := AOp.load (Opd.t 42) none },
   { dst := some 44, g := none, op := AOp.lenL (Opd.t 43) },
   { dst := some 45, g := none, op := AOp.bin BinOp.lss (Opd.t 41) (Opd.t 44) }]
def c14d0 : List (AOper × List Nat) :=
  [({ dst := some 48, g := none, op := AOp.fldA (Opd.t 2) 3 }, []),
   ({ dst := some 49, g := none, op := AOp.load (Opd.t 48) none }, [0]),
   ({ dst := some 50, g := none, op := AOp.mv (Opd.t 5) }, []),
   ({ dst := some 51, g := none, op := AOp.idxA (Opd.t 49) (Opd.t 50) none 2 }, [1, 2]),
   ({ dst := some 52, g := none, op := AOp.load (Opd.t 51) (some 2) }, [3]),
   ({ dst := some 53, g := none, op := AOp.fldA (Opd.t 3) 3 }, []),
   ({ dst := some 54, g := none, op := AOp.load (Opd.t 53) none }, [5]),
   ({ dst := some 55, g := none, op := AOp.mv (Opd.t 5) }, []),
   ({ dst := some 56, g := none, op := AOp.idxA (Opd.t 54) (Opd.t 55) none 2 }, [6, 7]),
   ({ dst := some 57, g := none, op := AOp.load (Opd.t 56) (some 2) }, [8]),
   ({ dst := some 58, g := none, op := AOp.eqG true [2, 2] (Opd.t 52) (Opd.t 57) }, [4, 9])]
def c14r5 : List AOper :=
  [{ dst := some 4, g := none, op := AOp.mv (Opd.c (V.bool false)) }]
def c14r6 : List AOper :=
  [{ dst := some 46, g := none, op := AOp.mv (Opd.t 5) },
   { dst := some 47, g := none, op := AOp.bin BinOp.add (Opd.t 46) (Opd.c (V.int IntKind.i64 1)) },
   { dst := some 5, g := none, op := AOp.mv (Opd.t 47) }]
def c14l0 : AC := (AC.seq (AC.seq (AC.region c14r4) (AC.cond (Opd.t 45) AC.skip (AC.exit 0))) (AC.seq (AC.block 1 (AC.seq (AC.drawn c14d0) (AC.cond (Opd.t 58) (AC.seq (AC.region c14r5) AC.ret) AC.skip))) (AC.region c14r6)))
def c14r7 : List AOper :=
  [{ dst := some 4, g := none, op := AOp.mv (Opd.c (V.bool true)) }]
def c14 : AC := (AC.seq (AC.region c14r0) (AC.seq (AC.seq (AC.region c14r1) (AC.cond (Opd.t 40) (AC.seq (AC.region c14r2) AC.ret) AC.skip)) (AC.seq (AC.seq (AC.region c14r3) (AC.block 0 (AC.loop c14l0))) (AC.seq (AC.region c14r7) AC.ret))))
def r14 : List ARes := [ARes.tmp 4]
theorem c14_ok : Try.f14.body.bind (cCode Try.prog Try.f14.ntmps) = some c14 := by kernel_rfl
theorem r14_ok : Try.f14.results.toList.mapM (cRes Try.prog Try.f14.ntmps) = some r14 := by kernel_rfl
def c15r0 : List AOper :=
  [{ dst := some 4, g := none, op := AOp.mv (Opd.c (V.bool false)) }]
def c15r1 : List AOper :=
  [{ dst := some 6, g := none, op := AOp.mv (Opd.t 0) },
   { dst := some 7, g := none, op := AOp.lenL (Opd.t 6) },
   { dst := some 8, g := none, op := AOp.mv (Opd.t 1) },
   { dst := some 9, g := none, op := AOp.lenL (Opd.t 8) },
   { dst := some 10, g := none, op := AOp.bin BinOp.neq (Opd.t 7) (Opd.t 9) }]
def c15r2 : List AOper :=
  [{ dst := some 4, g := none, op := AOp.mv (Opd.c (V.bool false)) }]
def c15r3 : List AOper :=
  [{ dst := some 5, g := none, op := AOp.mv (Opd.c (V.int IntKind.i64 0)) }]
def c15r4 : List AOper :=
  [{ dst := some 11, g := none, op := AOp.mv (Opd.t 5) },
   { dst := some 12, g := none, op := AOp.mv (Opd.t 0) },
   { dst := some 13, g := none, op := AOp.lenL (Opd.t 12) },
   { dst := some 14, g := none, op := AOp.bin BinOp.lss (Opd.t 11) (Opd.t 13) }]
def c15d0 : List (AOper × List Nat) :=
  [({ dst := some 17, g := none, op := AOp.mv (Opd.t 0) }, []),
   ({ dst := some 18, g := none, op := AOp.mv (Opd.t 5) }, []),
   ({ dst := some 19, g := none, op := AOp.idxA (Opd.t 17) (Opd.t 18) none 7 }, [0, 1]),
   ({ dst := some 20, g := none, op := AOp.fldA (Opd.t 19) 0 }, [2]),
   ({ dst := some 21, g := none, op := AOp.load (Opd.t 20) none }, [3]),
   ({ dst := some 22, g := none, op := AOp.mv (Opd.t 1) }, []),
   ({ dst := some 23, g := none, op := AOp.mv (Opd.t 5) }, []),
   ({ dst := some 24, g := none, op := AOp.idxA (Opd.t 22) (Opd.t 23) none 7 }, [5, 6]),
   ({ dst := some 25, g := none, op := AOp.fldA (Opd.t 24) 0 }, [7]),
   ({ dst := some 26, g := none, op := AOp.load (Opd.t 25) none }, [8]),
   ({ dst := some 27, g := none, op := AOp.bin BinOp.neq (Opd.t 21) (Opd.t 26) }, [4, 9]),
   ({ dst := some 28, g := none, op := AOp.mv (Opd.t 27) }, [10]),
   ({ dst := some 29, g := some (28, false), op := AOp.mv (Opd.t 0) }, [11]),
   ({ dst := some 30, g := some (28, false), op := AOp.mv (Opd.t 5) }, [11]),
   ({ dst := some 31, g := some (28, false), op := AOp.idxA (Opd.t 29) (Opd.t 30) none 7 }, [12, 13, 11]),
   ({ dst := some 32, g := some (28, false), op := AOp.fldA (Opd.t 31) 1 }, [14, 11]),
   ({ dst := some 33, g := some (28, false), op := AOp.load (Opd.t 32) none }, [15, 11]),
   ({ dst := some 34, g := some (28, false), op := AOp.mv (Opd.t 1) }, [11]),
   ({ dst := some 35, g := some (28, false), op := AOp.mv (Opd.t 5) }, [11]),
   ({ dst := some 36, g := some (28, false), op := AOp.idxA (Opd.t 34) (Opd.t 35) none 7 }, [17, 18, 11]),
   ({ dst := some 37, g := some (28, false), op := AOp.fldA (Opd.t 36) 1 }, [19, 11]),
   ({ dst := some 38, g := some (28, false), op := AOp.load (Opd.t 37) none }, [20, 11]),
   ({ dst := some 39, g := some (28, false), op := AOp.bin BinOp.neq (Opd.t 33) (Opd.t 38) }, [16, 21, 11]),
   ({ dst := some 40, g := none, op := AOp.pick (Opd.t 28) (Opd.c (V.bool true)) (Opd.t 39) }, [11, 22]),
   ({ dst := some 41, g := none, op := AOp.mv (Opd.t 40) }, [23, 11]),
   ({ dst := some 42, g := some (41, false), op := AOp.mv (Opd.t 0) }, [24]),
   ({ dst := some 43, g := some (41, false), op := AOp.mv (Opd.t 5) }, [24]),
   ({ dst := some 44, g := some (41, false), op := AOp.idxA (Opd.t 42) (Opd.t 43) none 7 }, [25, 26, 24]),
   ({ dst := some 45, g := some (41, false), op := AOp.fldA (Opd.t 44) 2 }, [27, 24]),
   ({ dst := some 46, g := some (41, false), op := AOp.load (Opd.t 45) (some 5) }, [28, 24]),
   ({ dst := some 47, g := some (41, false), op := AOp.mv (Opd.t 1) }, [24]),
   ({ dst := some 48, g := some (41, false), op := AOp.mv (Opd.t 5) }, [24]),
   ({ dst := some 49, g := some (41, false), op := AOp.idxA (Opd.t 47) (Opd.t 48) none 7 }, [30, 31, 24]),
   ({ dst := some 50, g := some (41, false), op := AOp.fldA (Opd.t 49) 2 }, [32, 24]),
   ({ dst := some 51, g := some (41, false), op := AOp.load (Opd.t 50) (some 5) }, [33, 24]),
   ({ dst := some 52, g := some (41, false), op := AOp.call (Opd.c (V.fn 14 [])) [Opd.t 46, Opd.t 51] }, [29, 34, 24, 24]),
   ({ dst := some 53, g := some (41, false), op := AOp.un UnOp.not (Opd.t 52) }, [35, 24]),
   ({ dst := some 54, g := none, op := AOp.pick (Opd.t 41) (Opd.c (V.bool true)) (Opd.t 53) }, [24, 36])]
def c15r5 : List AOper :=
  [{ dst := some 4, g := none, op := AOp.mv (Opd.c (V.bool false)) }]
def c15r6 : List AOper :=
  [{ dst := some 15, g := none, op := AOp.mv (Opd.t 5) },
   { dst := some 16, g := none, op := AOp.bin BinOp.add (Opd.t 15) (Opd.c (V.int IntKind.i64 1)) },
   { dst := some 5, g := none, op := AOp.mv (Opd.t 16) }]
def c15l0 : AC := (AC.seq (AC.seq (AC.region c15r4) (AC.cond (Opd.t 14) AC.skip (AC.exit 0))) (AC.seq (AC.block 1 (AC.seq (AC.drawn c15d0) (AC.cond (Opd.t 54) (AC.seq (AC.region c15r5) AC.ret) AC.skip))) (AC.region c15r6)))
def c15r7 : List AOper :=
  [{ dst := some 4, g := none, op := AOp.mv (Opd.c (V.bool true)) }]
def c15 : AC := (AC.seq (AC.region c15r0) (AC.seq (AC.seq (AC.region c15r1) (AC.cond (Opd.t 10) (AC.seq (AC.region c15r2) AC.ret) AC.skip)) (AC.seq (AC.seq (AC.region c15r3) (AC.block 0 (AC.loop c15l0))) (AC.seq (AC.region c15r7) AC.ret))))
def r15 : List ARes := [ARes.tmp 4]
theorem c15_ok : Try.f15.body.bind (cCode Try.prog Try.f15.ntmps) = some c15 := by kernel_rfl
theorem r15_ok : Try.f15.results.toList.mapM (cRes Try.prog Try.f15.ntmps) = some r15 := by kernel_rfl
def c16r0 : List AOper :=
  [{ dst := some 2, g := none, op := AOp.mv (Opd.c (V.int IntKind.i64 0)) }]
def c16r1 : List AOper :=
  [{ dst := some 6, g := none, op := AOp.mv (Opd.t 0) },
   { dst := some 7, g := none, op := AOp.call (Opd.c (V.fn 25 [])) [Opd.t 6] },
   { dst := some 5, g := none, op := AOp.mv (Opd.t 7) },
   { dst := some 8, g := none, op := AOp.ext (Opd.t 5) 0 },
   { dst := some 9, g := none, op := AOp.ext (Opd.t 5) 1 },
   { dst := some 3, g := none, op := AOp.alloc [V.int IntKind.i64 0, V.int IntKind.i64 0, V.int IntKind.i64 0, V.str [], V.bool false, V.nils, V.str [], V.int IntKind.i64 0, V.int IntKind.i64 0, V.int IntKind.i64 0, V.str [], V.bool false, V.nils, V.str [], V.int IntKind.i64 0, V.int IntKind.i64 0, V.int IntKind.i64 0, V.str [], V.bool false, V.nils, V.str [], V.int IntKind.i64 0, V.int IntKind.i64 0, V.int IntKind.i64 0, V.str [], V.bool false, V.nils, V.str [], V.int IntKind.i64 0, V.int IntKind.i64 0, V.int IntKind.i64 0, V.str [], V.bool false, V.nils, V.str [], V.int IntKind.i64 0, V.int IntKind.i64 0, V.int IntKind.i64 0, V.str [], V.bool false, V.nils, V.str [], V.int IntKind.i64 0, V.int IntKind.i64 0, V.int IntKind.i64 0, V.str [], V.bool false, V.nils, V.str [], V.int IntKind.i64 0, V.int IntKind.i64 0, V.int IntKind.i64 0, V.str [], V.bool false, V.nils, V.str []] },
   { dst := none, g := none, op := AOp.store (Opd.t 3) (Opd.t 8) 56 },
   { dst := some 4, g := none, op := AOp.mv (Opd.t 9) }]
def c16r2 : List AOper :=
  [{ dst := some 10, g := none, op := AOp.mv (Opd.t 4) },
   { dst := some 11, g := none, op := AOp.un UnOp.not (Opd.t 10) }]
def c16r3 : List AOper :=
  [{ dst := some 2, g := none, op := AOp.mv (Opd.c (V.int IntKind.i64 1)) }]
def c16r4 : List AOper :=
  [{ dst := some 2, g := none, op := AOp.mv (Opd.c (V.int IntKind.i64 0)) }]
def c16 : AC := (AC.seq (AC.region c16r0) (AC.seq (AC.seq (AC.region c16r1) (AC.seq (AC.region c16r2) (AC.cond (Opd.t 11) (AC.seq (AC.region c16r3) AC.ret) AC.skip))) (AC.seq (AC.region c16r4) AC.ret)))
def r16 : List ARes := [ARes.tmp 2]
theorem c16_ok : Try.f16.body.bind (cCode Try.prog Try.f16.ntmps) = some c16 := by kernel_rfl
theorem r16_ok : Try.f16.results.toList.mapM (cRes Try.prog Try.f16.ntmps) = some r16 := by kernel_rfl
def c17r0 : List AOper :=
  [{ dst := some 2, g := none, op := AOp.mv (Opd.c (V.int IntKind.i64 0)) }]
def c17r1 : List AOper :=
  [{ dst := some 3, g := none, op := AOp.mv (Opd.t 0) },
   { dst := some 4, g := none, op := AOp.call (Opd.c (V.fn 26 [])) [Opd.t 3] },
   { dst := some 5, g := none, op := AOp.un UnOp.not (Opd.t 4) }]
def c17r2 : List AOper :=
  [{ dst := some 2, g := none, op := AOp.mv (Opd.c (V.int IntKind.i64 1)) }]
def c17r3 : List AOper :=
  [{ dst := some 2, g := none, op := AOp.mv (Opd.c (V.int IntKind.i64 0)) }]
def c17 : AC := (AC.seq (AC.region c17r0) (AC.seq (AC.seq (AC.region c17r1) (AC.cond (Opd.t 5) (AC.seq (AC.region c17r2) AC.ret) AC.skip)) (AC.seq (AC.region c17r3) AC.ret)))
def r17 : List ARes := [ARes.tmp 2]
theorem c17_ok : Try.f17.body.bind (cCode Try.prog Try.f17.ntmps) = some c17 := by kernel_rfl
theorem r17_ok : Try.f17.results.toList.mapM (cRes Try.prog Try.f17.ntmps) = some r17 := by kernel_rfl
def c18r0 : List AOper :=
  [{ dst := some 2, g := none, op := AOp.mv (Opd.c V.nils) }]
def c18r1 : List AOper :=
  [{ dst := some 3, g := none, op := AOp.mv (Opd.c V.nils) }]
def c18r2 : List AOper :=
  [{ dst := some 4, g := none, op := AOp.mv (Opd.c (V.int IntKind.i64 0)) }]
def c18r3 : List AOper :=
  [{ dst := some 7, g := none, op := AOp.mv (Opd.t 4) },
   { dst := some 8, g := none, op := AOp.mv (Opd.t 0) },
   { dst := some 9, g := none, op := AOp.lenL (Opd.t 8) },
   { dst := some 10, g := none, op := AOp.bin BinOp.lss (Opd.t 7) (Opd.t 9) }]
def c18r4 : List AOper :=
  [{ dst := some 14, g := none, op := AOp.mv (Opd.t 3) },
   { dst := some 15, g := none, op := AOp.mv (Opd.t 0) },
   { dst := some 16, g := none, op := AOp.mv (Opd.t 4) },
   { dst := some 17, g := none, op := AOp.idxA (Opd.t 15) (Opd.t 16) none 7 },
   { dst := some 18, g := none, op := AOp.load (Opd.t 17) (some 7) },
   { dst := some 19, g := none, op := AOp.call (Opd.c (V.fn 13 [])) [Opd.t 14, Opd.t 18] },
   { dst := some 13, g := none, op := AOp.mv (Opd.t 19) },
   { dst := some 20, g := none, op := AOp.ext (Opd.t 13) 0 },
   { dst := some 21, g := none, op := AOp.ext (Opd.t 13) 1 },
   { dst := some 5, g := none, op := AOp.mv (Opd.t 20) },
   { dst := some 6, g := none, op := AOp.mv (Opd.t 21) }]
def c18r5 : List AOper :=
  [{ dst := some 22, g := none, op := AOp.mv (Opd.t 6) },
   { dst := some 23, g := none, op := AOp.bin BinOp.eql (Opd.t 22) (Opd.c (V.int IntKind.i64 0)) }]
def c18r6 : List AOper :=
  [{ dst := some 24, g := none, op := AOp.mv (Opd.t 5) },
   { dst := some 3, g := none, op := AOp.mv (Opd.t 24) }]
def c18r7 : List AOper :=
  [{ dst := some 11, g := none, op := AOp.mv (Opd.t 4) },
   { dst := some 12, g := none, op := AOp.bin BinOp.add (Opd.t 11) (Opd.c (V.int IntKind.i64 1)) },
   { dst := some 4, g := none, op := AOp.mv (Opd.t 12) }]
def c18l0 : AC := (AC.seq (AC.seq (AC.region c18r3) (AC.cond (Opd.t 10) AC.skip (AC.exit 0))) (AC.seq (AC.block 1 (AC.seq (AC.region c18r4) (AC.seq (AC.region c18r5) (AC.cond (Opd.t 23) (AC.region c18r6) AC.skip)))) (AC.region c18r7)))
def c18r8 : List AOper :=
  [{ dst := some 25, g := none, op := AOp.mv (Opd.t 3) },
   { dst := some 2, g := none, op := AOp.mv (Opd.t 25) }]
def c18 : AC := (AC.seq (AC.region c18r0) (AC.seq (AC.region c18r1) (AC.seq (AC.seq (AC.region c18r2) (AC.block 0 (AC.loop c18l0))) (AC.seq (AC.region c18r8) AC.ret))))
def r18 : List ARes := [ARes.tmp 2]
theorem c18_ok : Try.f18.body.bind (cCode Try.prog Try.f18.ntmps) = some c18 := by kernel_rfl
theorem r18_ok : Try.f18.results.toList.mapM (cRes Try.prog Try.f18.ntmps) = some r18 := by kernel_rfl
def c19r0 : List AOper :=
  [{ dst := some 4, g := none, op := AOp.mv (Opd.c V.nils) },
   { dst := some 5, g := none, op := AOp.mv (Opd.c (V.int IntKind.i64 0)) }]
def c19r1 : List AOper :=
  [{ dst := some 13, g := none, op := AOp.mv (Opd.t 0) },
   { dst := some 14, g := none, op := AOp.call (Opd.c (V.fn 25 [])) [Opd.t 13] },
   { dst := some 12, g := none, op := AOp.mv (Opd.t 14) },
   { dst := some 15, g := none, op := AOp.ext (Opd.t 12) 0 },
   { dst := some 16, g := none, op := AOp.ext (Opd.t 12) 1 },
   { dst := some 6, g := none, op := AOp.alloc [V.int IntKind.i64 0, V.int IntKind.i64 0, V.int IntKind.i64 0, V.str [], V.bool false, V.nils, V.str [], V.int IntKind.i64 0, V.int IntKind.i64 0, V.int IntKind.i64 0, V.str [], V.bool false, V.nils, V.str [], V.int IntKind.i64 0, V.int IntKind.i64 0, V.int IntKind.i64 0, V.str [], V.bool false, V.nils, V.str [], V.int IntKind.i64 0, V.int IntKind.i64 0, V.int IntKind.i64 0, V.str [], V.bool false, V.nils, V.str [], V.int IntKind.i64 0, V.int IntKind.i64 0, V.int IntKind.i64 0, V.str [], V.bool false, V.nils, V.str [], V.int IntKind.i64 0, V.int IntKind.i64 0, V.int IntKind.i64 0, V.str [], V.bool false, V.nils, V.str [], V.int IntKind.i64 0, V.int IntKind.i64 0, V.int IntKind.i64 0, V.str [], V.bool false, V.nils, V.str [], V.int IntKind.i64 0, V.int IntKind.i64 0, V.int IntKind.i64 0, V.str [], V.bool false, V.nils, V.str []] },
   { dst := none, g := none, op := AOp.store (Opd.t 6) (Opd.t 15) 56 },
   { dst := some 7, g := none, op := AOp.mv (Opd.t 16) }]
def c19r2 : List AOper :=
  [{ dst := some 18, g := none, op := AOp.mv (Opd.t 1) },
   { dst := some 19, g := none, op := AOp.call (Opd.c (V.fn 25 [])) [Opd.t 18] },
   { dst := some 17, g := none, op := AOp.mv (Opd.t 19) },
   { dst := some 20, g := none, op := AOp.ext (Opd.t 17) 0 },
   { dst := some 21, g := none, op := AOp.ext (Opd.t 17) 1 },
   { dst := some 8, g := none, op := AOp.alloc [V.int IntKind.i64 0, V.int IntKind.i64 0, V.int IntKind.i64 0, V.str [], V.bool false, V.nils, V.str [], V.int IntKind.i64 0, V.int IntKind.i64 0, V.int IntKind.i64 0, V.str [], V.bool false, V.nils, V.str [], V.int IntKind.i64 0, V.int IntKind.i64 0, V.int IntKind.i64 0, V.str [], V.bool false, V.nils, V.str [], V.int IntKind.i64 0, V.int IntKind.i64 0, V.int IntKind.i64 0, V.str [], V.bool false, V.nils, V.str [], V.int IntKind.i64 0, V.int IntKind.i64 0, V.int IntKind.i64 0, V.str [], V.bool false, V.nils, V.str [], V.int IntKind.i64 0, V.int IntKind.i64 0, V.int IntKind.i64 0, V.str [], V.bool false, V.nils, V.str [], V.int IntKind.i64 0, V.int IntKind.i64 0, V.int IntKind.i64 0, V.str [], V.bool false, V.nils, V.str [], V.int IntKind.i64 0, V.int IntKind.i64 0, V.int IntKind.i64 0, V.str [], V.bool false, V.nils, V.str []] },
   { dst := none, g := none, op := AOp.store (Opd.t 8) (Opd.t 20) 56 },
   { dst := some 9, g := none, op := AOp.mv (Opd.t 21) }]
def c19r3 : List AOper :=
  [{ dst := some 22, g := none, op := AOp.mv (Opd.t 7) },
   { dst := some 23, g := none, op := AOp.un UnOp.not (Opd.t 22) },
   { dst := some 24, g := none, op := AOp.mv (Opd.t 23) },
   { dst := some 25, g := some (24, false), op := AOp.mv (Opd.t 9) },
   { dst := some 26, g := some (24, false), op := AOp.un UnOp.not (Opd.t 25) },
   { dst := some 27, g := none, op := AOp.pick (Opd.t 24) (Opd.c (V.bool true)) (Opd.t 26) }]
def c19r4 : List AOper :=
  [{ dst := some 4, g := none, op := AOp.mv (Opd.c V.nils) },
   { dst := some 5, g := none, op := AOp.mv (Opd.c (V.int IntKind.i64 1)) }]
def c19r5 : List AOper :=
  [{ dst := some 28, g := none, op := AOp.load (Opd.t 8) (some 56) },
   { dst := some 29, g := none, op := AOp.mv (Opd.c (V.int IntKind.i64 0)) }]
def c19r6 : List AOper :=
  [{ dst := some 30, g := none, op := AOp.bin BinOp.lss (Opd.t 29) (Opd.c (V.int IntKind.i64 8)) }]
def c19r7 : List AOper :=
  [{ dst := some 31, g := none, op := AOp.mv (Opd.t 29) },
   { dst := some 32, g := none, op := AOp.idxG (Opd.t 28) (Opd.t 29) 8 7 true },
   { dst := some 11, g := none, op := AOp.alloc [V.int IntKind.i64 0, V.int IntKind.i64 0, V.int IntKind.i64 0, V.str [], V.bool false, V.nils, V.str []] },
   { dst := some 10, g := none, op := AOp.mv (Opd.t 31) },
   { dst := none, g := none, op := AOp.store (Opd.t 11) (Opd.t 32) 7 }]
def c19d0 : List (AOper × List Nat) :=
  [({ dst := some 33, g := none, op := AOp.fldA (Opd.t 11) 1 }, []),
   ({ dst := some 34, g := none, op := AOp.load (Opd.t 33) none }, [0]),
   ({ dst := some 35, g := none, op := AOp.mv (Opd.t 10) }, []),
   ({ dst := some 36, g := none, op := AOp.idxA (Opd.t 6) (Opd.t 35) (some 8) 7 }, [2]),
   ({ dst := some 37, g := none, op := AOp.fldA (Opd.t 36) 1 }, [3]),
   ({ dst := some 38, g := none, op := AOp.load (Opd.t 37) none }, [4]),
   ({ dst := some 39, g := none, op := AOp.bin BinOp.gtr (Opd.t 34) (Opd.t 38) }, [1, 5])]
def c19r8 : List AOper :=
  [{ dst := some 40, g := none, op := AOp.mv (Opd.t 10) },
   { dst := some 41, g := none, op := AOp.load (Opd.t 11) (some 7) },
   { dst := some 42, g := none, op := AOp.idxA (Opd.t 6) (Opd.t 40) (some 8) 7 },
   { dst := none, g := none, op := AOp.store (Opd.t 42) (Opd.t 41) 7 }]
def c19r9 : List AOper :=
  [{ dst := some 43, g := none, op := AOp.bin BinOp.add (Opd.t 29) (Opd.c (V.int IntKind.i64 1)) },
   { dst := some 29, g := none, op := AOp.mv (Opd.t 43) }]
def c19l0 : AC := (AC.seq (AC.region c19r6) (AC.seq (AC.cond (Opd.t 30) AC.skip (AC.exit 0)) (AC.seq (AC.block 1 (AC.seq (AC.region c19r7) (AC.seq (AC.drawn c19d0) (AC.cond (Opd.t 39) (AC.region c19r8) AC.skip)))) (AC.region c19r9))))
def c19r10 : List AOper :=
  [{ dst := some 44, g := none, op := AOp.load (Opd.t 6) (some 56) },
   { dst := some 45, g := none, op := AOp.call (Opd.c (V.fn 29 [])) [Opd.t 44] },
   { dst := some 4, g := none, op := AOp.mv (Opd.t 45) },
   { dst := some 5, g := none, op := AOp.mv (Opd.c (V.int IntKind.i64 0)) }]
def c19 : AC := (AC.seq (AC.region c19r0) (AC.seq (AC.region c19r1) (AC.seq (AC.region c19r2) (AC.seq (AC.seq (AC.region c19r3) (AC.cond (Opd.t 27) (AC.seq (AC.region c19r4) AC.ret) AC.skip)) (AC.seq (AC.seq (AC.region c19r5) (AC.block 0 (AC.loop c19l0))) (AC.seq (AC.region c19r10) AC.ret))))))
def r19 : List ARes := [ARes.tmp 4, ARes.tmp 5]
theorem c19_ok : Try.f19.body.bind (cCode Try.prog Try.f19.ntmps) = some c19 := by kernel_rfl
theorem r19_ok : Try.f19.results.toList.mapM (cRes Try.prog Try.f19.ntmps) = some r19 := by kernel_rfl
def c20r0 : List AOper :=
  [{ dst := some 4, g := none, op := AOp.mv (Opd.c V.nils) },
   { dst := some 5, g := none, op := AOp.mv (Opd.c (V.int IntKind.i64 0)) }]
def c20r1 : List AOper :=
  [{ dst := some 9, g := none, op := AOp.mv (Opd.t 0) },
   { dst := some 10, g := none, op := AOp.call (Opd.c (V.fn 26 [])) [Opd.t 9] },
   { dst := some 11, g := none, op := AOp.un UnOp.not (Opd.t 10) },
   { dst := some 12, g := none, op := AOp.mv (Opd.t 11) },
   { dst := some 13, g := some (12, false), op := AOp.mv (Opd.t 1) },
   { dst := some 14, g := some (12, false), op := AOp.call (Opd.c (V.fn 26 [])) [Opd.t 13] },
   { dst := some 15, g := some (12, false), op := AOp.un UnOp.not (Opd.t 14) },
   { dst := some 16, g := none, op := AOp.pick (Opd.t 12) (Opd.c (V.bool true)) (Opd.t 15) }]
def c20r2 : List AOper :=
  [{ dst := some 4, g := none, op := AOp.mv (Opd.c V.nils) },
   { dst := some 5, g := none, op := AOp.mv (Opd.c (V.int IntKind.i64 1)) }]
def c20r3 : List AOper :=
  [{ dst := some 17, g := none, op := AOp.mv (Opd.t 0) },
   { dst := some 6, g := none, op := AOp.mv (Opd.t 17) }]
def c20r4 : List AOper :=
  [{ dst := some 7, g := none, op := AOp.mv (Opd.c (V.int IntKind.i64 0)) }]
def c20r5 : List AOper :=
  [{ dst := some 18, g := none, op := AOp.mv (Opd.t 7) },
   { dst := some 19, g := none, op := AOp.mv (Opd.t 1) },
   { dst := some 20, g := none, op := AOp.lenL (Opd.t 19) },
   { dst := some 21, g := none, op := AOp.bin BinOp.lss (Opd.t 18) (Opd.t 20) }]
def c20r6 : List AOper :=
  [{ dst := some 24, g := none, op := AOp.mv (Opd.t 0) },
   { dst := some 25, g := none, op := AOp.mv (Opd.t 1) },
   { dst := some 26, g := none, op := AOp.mv (Opd.t 7) },
   { dst := some 27, g := none, op := AOp.idxA (Opd.t 25) (Opd.t 26) none 7 },
   { dst := some 28, g := none, op := AOp.fldA (Opd.t 27) 0 },
   { dst := some 29, g := none, op := AOp.load (Opd.t 28) none },
   { dst := some 30, g := none, op := AOp.call (Opd.c (V.fn 27 [])) [Opd.t 24, Opd.t 29] },
   { dst := some 8, g := none, op := AOp.mv (Opd.t 30) }]
def c20d0 : List (AOper × List Nat) :=
  [({ dst := some 31, g := none, op := AOp.mv (Opd.t 8) }, []),
   ({ dst := some 32, g := none, op := AOp.bin BinOp.lss (Opd.t 31) (Opd.c (V.int IntKind.i64 0)) }, [0]),
   ({ dst := some 33, g := none, op := AOp.mv (Opd.t 32) }, [1]),
   ({ dst := some 34, g := some (33, false), op := AOp.mv (Opd.t 0) }, [2]),
   ({ dst := some 35, g := some (33, false), op := AOp.mv (Opd.t 8) }, [2]),
   ({ dst := some 36, g := some (33, false), op := AOp.idxA (Opd.t 34) (Opd.t 35) none 7 }, [3, 4, 2]),
   ({ dst := some 37, g := some (33, false), op := AOp.fldA (Opd.t 36) 1 }, [5, 2]),
   ({ dst := some 38, g := some (33, false), op := AOp.load (Opd.t 37) none }, [6, 2]),
   ({ dst := some 39, g := some (33, false), op := AOp.mv (Opd.t 1) }, [2]),
   ({ dst := some 40, g := some (33, false), op := AOp.mv (Opd.t 7) }, [2]),
   ({ dst := some 41, g := some (33, false), op := AOp.idxA (Opd.t 39) (Opd.t 40) none 7 }, [8, 9, 2]),
   ({ dst := some 42, g := some (33, false), op := AOp.fldA (Opd.t 41) 1 }, [10, 2]),
   ({ dst := some 43, g := some (33, false), op := AOp.load (Opd.t 42) none }, [11, 2]),
   ({ dst := some 44, g := some (33, false), op := AOp.bin BinOp.lss (Opd.t 38) (Opd.t 43) }, [7, 12, 2]),
   ({ dst := some 45, g := none, op := AOp.pick (Opd.t 33) (Opd.c (V.bool true)) (Opd.t 44) }, [2, 13])]
def c20r7 : List AOper :=
  [{ dst := some 46, g := none, op := AOp.mv (Opd.t 6) },
   { dst := some 47, g := none, op := AOp.mv (Opd.t 1) },
   { dst := some 48, g := none, op := AOp.mv (Opd.t 7) },
   { dst := some 49, g := none, op := AOp.idxA (Opd.t 47) (Opd.t 48) none 7 },
   { dst := some 50, g := none, op := AOp.load (Opd.t 49) (some 7) },
   { dst := some 51, g := none, op := AOp.call (Opd.c (V.fn 31 [])) [Opd.t 46, Opd.t 50] },
   { dst := some 6, g := none, op := AOp.mv (Opd.t 51) }]
def c20r8 : List AOper :=
  [{ dst := some 22, g := none, op := AOp.mv (Opd.t 7) },
   { dst := some 23, g := none, op := AOp.bin BinOp.add (Opd.t 22) (Opd.c (V.int IntKind.i64 1)) },
   { dst := some 7, g := none, op := AOp.mv (Opd.t 23) }]
def c20l0 : AC := (AC.seq (AC.seq (AC.region c20r5) (AC.cond (Opd.t 21) AC.skip (AC.exit 0))) (AC.seq (AC.block 1 (AC.seq (AC.region c20r6) (AC.seq (AC.drawn c20d0) (AC.cond (Opd.t 45) (AC.region c20r7) AC.skip)))) (AC.region c20r8)))
def c20r9 : List AOper :=
  [{ dst := some 52, g := none, op := AOp.mv (Opd.t 6) },
   { dst := some 4, g := none, op := AOp.mv (Opd.t 52) },
   { dst := some 5, g := none, op := AOp.mv (Opd.c (V.int IntKind.i64 0)) }]
def c20 : AC := (AC.seq (AC.region c20r0) (AC.seq (AC.seq (AC.region c20r1) (AC.cond (Opd.t 16) (AC.seq (AC.region c20r2) AC.ret) AC.skip)) (AC.seq (AC.region c20r3) (AC.seq (AC.seq (AC.region c20r4) (AC.block 0 (AC.loop c20l0))) (AC.seq (AC.region c20r9) AC.ret)))))
def r20 : List ARes := [ARes.tmp 4, ARes.tmp 5]
theorem c20_ok : Try.f20.body.bind (cCode Try.prog Try.f20.ntmps) = some c20 := by kernel_rfl
theorem r20_ok : Try.f20.results.toList.mapM (cRes Try.prog Try.f20.ntmps) = some r20 := by kernel_rfl
def c21r0 : List AOper :=
  [{ dst := some 2, g := none, op := AOp.mv (Opd.c V.nils) },
   { dst := some 3, g := none, op := AOp.mv (Opd.c (V.int IntKind.i64 0)) }]
def c21r1 : List AOper :=
  [{ dst := some 4, g := none, op := AOp.mv (Opd.c V.nils) }]
def c21r2 : List AOper :=
  [{ dst := some 15, g := none, op := AOp.mv (Opd.t 0) },
   { dst := some 16, g := none, op := AOp.lenL (Opd.t 15) },
   { dst := some 17, g := none, op := AOp.mv (Opd.c (V.int IntKind.i64 0)) }]
def c21r3 : List AOper :=
  [{ dst := some 18, g := none, op := AOp.bin BinOp.lss (Opd.t 17) (Opd.t 16) }]
def c21r4 : List AOper :=
  [{ dst := some 19, g := none, op := AOp.idxA (Opd.t 15) (Opd.t 17) none 2 },
   { dst := some 20, g := none, op := AOp.load (Opd.t 19) (some 2) },
   { dst := some 6, g := none, op := AOp.alloc [V.str [], V.str []] },
   { dst := none, g := none, op := AOp.store (Opd.t 6) (Opd.t 20) 2 }]
def c21r5 : List AOper :=
  [{ dst := some 21, g := none, op := AOp.fldA (Opd.t 6) 0 },
   { dst := some 22, g := none, op := AOp.load (Opd.t 21) none },
   { dst := some 23, g := none, op := AOp.lenS (Opd.t 22) },
   { dst := some 24, g := none, op := AOp.bin BinOp.neq (Opd.t 23) (Opd.c (V.int IntKind.i64 2)) },
   { dst := some 25, g := none, op := AOp.mv (Opd.t 24) },
   { dst := some 26, g := some (25, false), op := AOp.fldA (Opd.t 6) 0 },
   { dst := some 27, g := some (25, false), op := AOp.load (Opd.t 26) none },
   { dst := some 28, g := some (25, false), op := AOp.idxS (Opd.t 27) (Opd.c (V.int IntKind.i64 0)) },
   { dst := some 29, g := some (25, false), op := AOp.bin BinOp.neq (Opd.t 28) (Opd.c (V.int IntKind.u8 116)) },
   { dst := some 30, g := none, op := AOp.pick (Opd.t 25) (Opd.c (V.bool true)) (Opd.t 29) }]
def c21r6 : List AOper :=
  [{ dst := some 2, g := none, op := AOp.mv (Opd.c V.nils) },
   { dst := some 3, g := none, op := AOp.mv (Opd.c (V.int IntKind.i64 1)) }]
def c21r7 : List AOper :=
  [{ dst := some 7, g := none, op := AOp.alloc [V.int IntKind.i64 0, V.int IntKind.i64 0, V.int IntKind.i64 0] }]
def c21r8 : List AOper :=
  [{ dst := some 31, g := none, op := AOp.fldA (Opd.t 6) 1 },
   { dst := some 32, g := none, op := AOp.load (Opd.t 31) none },
   { dst := some 8, g := none, op := AOp.mv (Opd.t 32) }]
def c21r9 : List AOper :=
  [{ dst := some 33, g := none, op := AOp.mv (Opd.c (V.int IntKind.i64 0)) }]
def c21r10 : List AOper :=
  [{ dst := some 34, g := none, op := AOp.bin BinOp.lss (Opd.t 33) (Opd.c (V.int IntKind.i64 3)) }]
def c21r11 : List AOper :=
  [{ dst := some 35, g := none, op := AOp.mv (Opd.t 33) },
   { dst := some 9, g := none, op := AOp.mv (Opd.t 35) }]
def c21r12 : List AOper :=
  [{ dst := some 37, g := none, op := AOp.mv (Opd.t 8) },
   { dst := some 38, g := none, op := AOp.call (Opd.c (V.fn 32 [])) [Opd.t 37] },
   { dst := some 36, g := none, op := AOp.mv (Opd.t 38) },
   { dst := some 39, g := none, op := AOp.ext (Opd.t 36) 0 },
   { dst := some 40, g := none, op := AOp.ext (Opd.t 36) 1 },
   { dst := some 41, g := none, op := AOp.ext (Opd.t 36) 2 },
   { dst := some 10, g := none, op := AOp.mv (Opd.t 39) },
   { dst := some 11, g := none, op := AOp.mv (Opd.t 40) },
   { dst := some 12, g := none, op := AOp.mv (Opd.t 41) }]
def c21r13 : List AOper :=
  [{ dst := some 42, g := none, op := AOp.mv (Opd.t 12) },
   { dst := some 43, g := none, op := AOp.bin BinOp.neq (Opd.t 42) (Opd.c (V.int IntKind.i64 0)) }]
def c21r14 : List AOper :=
  [{ dst := some 2, g := none, op := AOp.mv (Opd.c V.nils) },
   { dst := some 3, g := none, op := AOp.mv (Opd.c (V.int IntKind.i64 1)) }]
def c21d0 : List (AOper × List Nat) :=
  [({ dst := some 44, g := none, op := AOp.mv (Opd.t 9) }, []),
   ({ dst := some 45, g := none, op := AOp.mv (Opd.t 10) }, []),
   ({ dst := some 46, g := none, op := AOp.mv (Opd.t 8) }, []),
   ({ dst := some 47, g := none, op := AOp.mv (Opd.t 11) }, []),
   ({ dst := some 48, g := none, op := AOp.slcS (Opd.t 46) (some (Opd.t 47)) none }, [2, 3]),
   ({ dst := some 49, g := none, op := AOp.idxA (Opd.t 7) (Opd.t 44) (some 3) 1 }, [0, 0, 1]),
   ({ dst := none, g := none, op := AOp.store (Opd.t 49) (Opd.t 45) 1 }, [5, 1, 0, 1]),
   ({ dst := some 8, g := none, op := AOp.mv (Opd.t 48) }, [4, 6, 0, 1, 2, 3, 4, 5, 6])]
def c21r15 : List AOper :=
  [{ dst := some 50, g := none, op := AOp.bin BinOp.add (Opd.t 33) (Opd.c (V.int IntKind.i64 1)) },
   { dst := some 33, g := none, op := AOp.mv (Opd.t 50) }]
def c21l1 : AC := (AC.seq (AC.region c21r10) (AC.seq (AC.cond (Opd.t 34) AC.skip (AC.exit 2)) (AC.seq (AC.block 3 (AC.seq (AC.region c21r11) (AC.seq (AC.region c21r12) (AC.seq (AC.seq (AC.region c21r13) (AC.cond (Opd.t 43) (AC.seq (AC.region c21r14) AC.ret) AC.skip)) (AC.drawn c21d0))))) (AC.region c21r15))))
def c21r16 : List AOper :=
  [{ dst := some 51, g := none, op := AOp.mv (Opd.t 8) },
   { dst := some 52, g := none, op := AOp.bin BinOp.neq (Opd.t 51) (Opd.c (V.str [])) },
   { dst := some 53, g := none, op := AOp.mv (Opd.t 52) },
   { dst := some 54, g := some (53, false), op := AOp.idxA (Opd.t 7) (Opd.c (V.int IntKind.i64 1)) (some 3) 1 },
   { dst := some 55, g := some (53, false), op := AOp.load (Opd.t 54) none },
   { dst := some 56, g := some (53, false), op := AOp.bin BinOp.gtr (Opd.t 55) (Opd.c (V.int IntKind.i64 999)) },
   { dst := some 57, g := none, op := AOp.pick (Opd.t 53) (Opd.c (V.bool true)) (Opd.t 56) },
   { dst := some 58, g := none, op := AOp.mv (Opd.t 57) },
   { dst := some 59, g := some (58, false), op := AOp.idxA (Opd.t 7) (Opd.c (V.int IntKind.i64 2)) (some 3) 1 },
   { dst := some 60, g := some (58, false), op := AOp.load (Opd.t 59) none },
   { dst := some 61, g := some (58, false), op := AOp.bin BinOp.gtr (Opd.t 60) (Opd.c (V.int IntKind.i64 1)) },
   { dst := some 62, g := none, op := AOp.pick (Opd.t 58) (Opd.c (V.bool true)) (Opd.t 61) }]
def c21r17 : List AOper :=
  [{ dst := some 2, g := none, op := AOp.mv (Opd.c V.nils) },
   { dst := some 3, g := none, op := AOp.mv (Opd.c (V.int IntKind.i64 1)) }]
def c21d1 : List (AOper × List Nat) :=
  [({ dst := some 63, g := none, op := AOp.mv (Opd.t 4) }, []),
   ({ dst := some 64, g := none, op := AOp.fldA (Opd.t 6) 0 }, []),
   ({ dst := some 65, g := none, op := AOp.load (Opd.t 64) none }, [1]),
   ({ dst := some 66, g := none, op := AOp.idxS (Opd.t 65) (Opd.c (V.int IntKind.i64 1)) }, [2]),
   ({ dst := some 67, g := none, op := AOp.convI IntKind.i64 (Opd.t 66) }, [3]),
   ({ dst := some 68, g := none, op := AOp.bin BinOp.sub (Opd.t 67) (Opd.c (V.int IntKind.i64 48)) }, [4]),
   ({ dst := some 69, g := none, op := AOp.idxA (Opd.t 7) (Opd.c (V.int IntKind.i64 0)) (some 3) 1 }, []),
   ({ dst := some 70, g := none, op := AOp.load (Opd.t 69) none }, [6]),
   ({ dst := some 71, g := none, op := AOp.idxA (Opd.t 7) (Opd.c (V.int IntKind.i64 1)) (some 3) 1 }, []),
   ({ dst := some 72, g := none, op := AOp.load (Opd.t 71) none }, [8]),
   ({ dst := some 73, g := none, op := AOp.idxA (Opd.t 7) (Opd.c (V.int IntKind.i64 2)) (some 3) 1 }, []),
   ({ dst := some 74, g := none, op := AOp.load (Opd.t 73) none }, [10]),
   ({ dst := some 75, g := none, op := AOp.bin BinOp.eql (Opd.t 74) (Opd.c (V.int IntKind.i64 1)) }, [11]),
   ({ dst := some 76, g := none, op := AOp.build [V.int IntKind.i64 0, V.str [], V.bool false, V.nils, V.str []] [(0, 1, Opd.t 72), (2, 1, Opd.t 75)] }, [9, 12]),
   ({ dst := some 77, g := none, op := AOp.build [V.int IntKind.i64 0, V.int IntKind.i64 0, V.int IntKind.i64 0, V.str [], V.bool false, V.nils, V.str []] [(0, 1, Opd.t 68), (1, 1, Opd.t 70), (2, 5, Opd.t 76)] }, [5, 7, 13]),
   ({ dst := some 78, g := none, op := AOp.bslice 1 7 [V.int IntKind.i64 0, V.int IntKind.i64 0, V.int IntKind.i64 0, V.str [], V.bool false, V.nils, V.str []] [(0, Opd.t 77)] }, [14]),
   ({ dst := some 79, g := none, op := AOp.append (Opd.t 63) (Opd.t 78) 7 88 false }, [0, 15]),
   ({ dst := some 4, g := none, op := AOp.mv (Opd.t 79) }, [16, 16, 0, 1, 2, 3, 4, 5, 6, 7, 8, 9, 10, 11, 12, 13, 14, 15, 16])]
def c21r18 : List AOper :=
  [{ dst := some 80, g := none, op := AOp.bin BinOp.add (Opd.t 17) (Opd.c (V.int IntKind.i64 1)) },
   { dst := some 17, g := none, op := AOp.mv (Opd.t 80) }]
def c21l0 : AC := (AC.seq (AC.region c21r3) (AC.seq (AC.cond (Opd.t 18) AC.skip (AC.exit 0)) (AC.seq (AC.block 1 (AC.seq (AC.region c21r4) (AC.seq (AC.seq (AC.region c21r5) (AC.cond (Opd.t 30) (AC.seq (AC.region c21r6) AC.ret) AC.skip)) (AC.seq (AC.region c21r7) (AC.seq (AC.region c21r8) (AC.seq (AC.seq (AC.region c21r9) (AC.block 2 (AC.loop c21l1))) (AC.seq (AC.seq (AC.region c21r16) (AC.cond (Opd.t 62) (AC.seq (AC.region c21r17) AC.ret) AC.skip)) (AC.drawn c21d1)))))))) (AC.region c21r18))))
def c21r19 : List AOper :=
  [{ dst := some 82, g := none, op := AOp.mv (Opd.t 4) },
   { dst := some 83, g := none, op := AOp.call (Opd.c (V.fn 25 [])) [Opd.t 82] },
   { dst := some 81, g := none, op := AOp.mv (Opd.t 83) },
   { dst := some 84, g := none, op := AOp.ext (Opd.t 81) 0 },
   { dst := some 85, g := none, op := AOp.ext (Opd.t 81) 1 },
   { dst := some 13, g := none, op := AOp.alloc [V.int IntKind.i64 0, V.int IntKind.i64 0, V.int IntKind.i64 0, V.str [], V.bool false, V.nils, V.str [], V.int IntKind.i64 0, V.int IntKind.i64 0, V.int IntKind.i64 0, V.str [], V.bool false, V.nils, V.str [], V.int IntKind.i64 0, V.int IntKind.i64 0, V.int IntKind.i64 0, V.str [], V.bool false, V.nils, V.str [], V.int IntKind.i64 0, V.int IntKind.i64 0, V.int IntKind.i64 0, V.str [], V.bool false, V.nils, V.str [], V.int IntKind.i64 0, V.int IntKind.i64 0, V.int IntKind.i64 0, V.str [], V.bool false, V.nils, V.str [], V.int IntKind.i64 0, V.int IntKind.i64 0, V.int IntKind.i64 0, V.str [], V.bool false, V.nils, V.str [], V.int IntKind.i64 0, V.int IntKind.i64 0, V.int IntKind.i64 0, V.str [], V.bool false, V.nils, V.str [], V.int IntKind.i64 0, V.int IntKind.i64 0, V.int IntKind.i64 0, V.str [], V.bool false, V.nils, V.str []] },
   { dst := none, g := none, op := AOp.store (Opd.t 13) (Opd.t 84) 56 },
   { dst := some 14, g := none, op := AOp.mv (Opd.t 85) }]
def c21r20 : List AOper :=
  [{ dst := some 86, g := none, op := AOp.mv (Opd.t 14) },
   { dst := some 87, g := none, op := AOp.un UnOp.not (Opd.t 86) }]
def c21r21 : List AOper :=
  [{ dst := some 2, g := none, op := AOp.mv (Opd.c V.nils) },
   { dst := some 3, g := none, op := AOp.mv (Opd.c (V.int IntKind.i64 1)) }]
def c21r22 : List AOper :=
  [{ dst := some 88, g := none, op := AOp.mv (Opd.t 4) },
   { dst := some 2, g := none, op := AOp.mv (Opd.t 88) },
   { dst := some 3, g := none, op := AOp.mv (Opd.c (V.int IntKind.i64 0)) }]
def c21 : AC := (AC.seq (AC.region c21r0) (AC.seq (AC.region c21r1) (AC.seq (AC.seq (AC.region c21r2) (AC.block 0 (AC.loop c21l0))) (AC.seq (AC.seq (AC.region c21r19) (AC.seq (AC.region c21r20) (AC.cond (Opd.t 87) (AC.seq (AC.region c21r21) AC.ret) AC.skip))) (AC.seq (AC.region c21r22) AC.ret)))))
def r21 : List ARes := [ARes.tmp 2, ARes.tmp 3]
theorem c21_ok : Try.f21.body.bind (cCode Try.prog Try.f21.ntmps) = some c21 := by kernel_rfl
theorem r21_ok : Try.f21.results.toList.mapM (cRes Try.prog Try.f21.ntmps) = some r21 := by kernel_rfl
def c22r0 : List AOper :=
  [{ dst := some 2, g := none, op := AOp.mv (Opd.c V.nils) },
   { dst := some 3, g := none, op := AOp.mv (Opd.c (V.int IntKind.i64 0)) }]
def c22r1 : List AOper :=
  [{ dst := some 4, g := none, op := AOp.mv (Opd.c V.nils) }]
def c22r2 : List AOper :=
  [{ dst := some 5, g := none, op := AOp.mv (Opd.c (V.int IntKind.i64 0)) }]
def c22r3 : List AOper :=
  [{ dst := some 8, g := none, op := AOp.mv (Opd.t 5) },
   { dst := some 9, g := none, op := AOp.mv (Opd.t 0) },
   { dst := some 10, g := none, op := AOp.lenL (Opd.t 9) },
   { dst := some 11, g := none, op := AOp.bin BinOp.lss (Opd.t 8) (Opd.t 10) }]
def c22r4 : List AOper :=
  [{ dst := some 15, g := none, op := AOp.mv (Opd.t 0) },
   { dst := some 16, g := none, op := AOp.mv (Opd.t 5) },
   { dst := some 17, g := none, op := AOp.idxA (Opd.t 15) (Opd.t 16) none 2 },
   { dst := some 18, g := none, op := AOp.load (Opd.t 17) (some 2) },
   { dst := some 19, g := none, op := AOp.call (Opd.c (V.fn 33 [])) [Opd.t 18] },
   { dst := some 14, g := none, op := AOp.mv (Opd.t 19) },
   { dst := some 20, g := none, op := AOp.ext (Opd.t 14) 0 },
   { dst := some 21, g := none, op := AOp.ext (Opd.t 14) 1 },
   { dst := some 6, g := none, op := AOp.alloc [V.int IntKind.i64 0, V.int IntKind.i64 0, V.int IntKind.i64 0, V.str [], V.bool false, V.nils, V.str []] },
   { dst := none, g := none, op := AOp.store (Opd.t 6) (Opd.t 20) 7 },
   { dst := some 7, g := none, op := AOp.mv (Opd.t 21) }]
def c22d0 : List (AOper × List Nat) :=
  [({ dst := some 22, g := none, op := AOp.mv (Opd.t 7) }, []),
   ({ dst := some 23, g := none, op := AOp.un UnOp.not (Opd.t 22) }, [0]),
   ({ dst := some 24, g := none, op := AOp.mv (Opd.t 23) }, [1]),
   ({ dst := some 25, g := some (24, false), op := AOp.mv (Opd.t 5) }, [2]),
   ({ dst := some 26, g := some (24, false), op := AOp.bin BinOp.gtr (Opd.t 25) (Opd.c (V.int IntKind.i64 0)) }, [3, 2]),
   ({ dst := some 27, g := some (24, false), op := AOp.mv (Opd.t 26) }, [4, 2, 2]),
   ({ dst := some 28, g := some (27, true), op := AOp.mv (Opd.t 0) }, [5]),
   ({ dst := some 29, g := some (27, true), op := AOp.mv (Opd.t 5) }, [5]),
   ({ dst := some 30, g := some (27, true), op := AOp.bin BinOp.sub (Opd.t 29) (Opd.c (V.int IntKind.i64 1)) }, [7, 5]),
   ({ dst := some 31, g := some (27, true), op := AOp.idxA (Opd.t 28) (Opd.t 30) none 2 }, [6, 8, 5]),
   ({ dst := some 32, g := some (27, true), op := AOp.fldA (Opd.t 31) 0 }, [9, 5]),
   ({ dst := some 33, g := some (27, true), op := AOp.load (Opd.t 32) none }, [10, 5]),
   ({ dst := some 34, g := some (27, true), op := AOp.mv (Opd.t 0) }, [5]),
   ({ dst := some 35, g := some (27, true), op := AOp.mv (Opd.t 5) }, [5]),
   ({ dst := some 36, g := some (27, true), op := AOp.idxA (Opd.t 34) (Opd.t 35) none 2 }, [12, 13, 5]),
   ({ dst := some 37, g := some (27, true), op := AOp.fldA (Opd.t 36) 0 }, [14, 5]),
   ({ dst := some 38, g := some (27, true), op := AOp.load (Opd.t 37) none }, [15, 5]),
   ({ dst := some 39, g := some (27, true), op := AOp.bin BinOp.geq (Opd.t 33) (Opd.t 38) }, [11, 16, 5]),
   ({ dst := some 40, g := some (24, false), op := AOp.pick (Opd.t 27) (Opd.t 39) (Opd.c (V.bool false)) }, [5, 17, 2]),
   ({ dst := some 41, g := none, op := AOp.pick (Opd.t 24) (Opd.c (V.bool true)) (Opd.t 40) }, [2, 18])]
def c22r5 : List AOper :=
  [{ dst := some 2, g := none, op := AOp.mv (Opd.c V.nils) },
   { dst := some 3, g := none, op := AOp.mv (Opd.c (V.int IntKind.i64 1)) }]
def c22r6 : List AOper :=
  [{ dst := some 42, g := none, op := AOp.mv (Opd.t 4) },
   { dst := some 43, g := none, op := AOp.load (Opd.t 6) (some 7) },
   { dst := some 44, g := none, op := AOp.bslice 1 7 [V.int IntKind.i64 0, V.int IntKind.i64 0, V.int IntKind.i64 0, V.str [], V.bool false, V.nils, V.str []] [(0, Opd.t 43)] },
   { dst := some 45, g := none, op := AOp.append (Opd.t 42) (Opd.t 44) 7 88 false },
   { dst := some 4, g := none, op := AOp.mv (Opd.t 45) }]
def c22r7 : List AOper :=
  [{ dst := some 12, g := none, op := AOp.mv (Opd.t 5) },
   { dst := some 13, g := none, op := AOp.bin BinOp.add (Opd.t 12) (Opd.c (V.int IntKind.i64 1)) },
   { dst := some 5, g := none, op := AOp.mv (Opd.t 13) }]
def c22l0 : AC := (AC.seq (AC.seq (AC.region c22r3) (AC.cond (Opd.t 11) AC.skip (AC.exit 0))) (AC.seq (AC.block 1 (AC.seq (AC.region c22r4) (AC.seq (AC.seq (AC.drawn c22d0) (AC.cond (Opd.t 41) (AC.seq (AC.region c22r5) AC.ret) AC.skip)) (AC.region c22r6)))) (AC.region c22r7)))
def c22r8 : List AOper :=
  [{ dst := some 46, g := none, op := AOp.mv (Opd.t 4) },
   { dst := some 2, g := none, op := AOp.mv (Opd.t 46) },
   { dst := some 3, g := none, op := AOp.mv (Opd.c (V.int IntKind.i64 0)) }]
def c22 : AC := (AC.seq (AC.region c22r0) (AC.seq (AC.region c22r1) (AC.seq (AC.seq (AC.region c22r2) (AC.block 0 (AC.loop c22l0))) (AC.seq (AC.region c22r8) AC.ret))))
def r22 : List ARes := [ARes.tmp 2, ARes.tmp 3]
theorem c22_ok : Try.f22.body.bind (cCode Try.prog Try.f22.ntmps) = some c22 := by kernel_rfl
theorem r22_ok : Try.f22.results.toList.mapM (cRes Try.prog Try.f22.ntmps) = some r22 := by kernel_rfl
def c23r0 : List AOper :=
  [{ dst := some 1, g := none, op := AOp.box (Opd.t 0) },
   { dst := some 2, g := none, op := AOp.alloc [V.str [], V.str [], V.bool false] },
   { dst := some 3, g := none, op := AOp.mv (Opd.c (V.int IntKind.i64 0)) }]
def c23r1 : List AOper :=
  [{ dst := some 10, g := none, op := AOp.load (Opd.t 1) (some 7) },
   { dst := some 11, g := none, op := AOp.call (Opd.c (V.fn 28 [])) [Opd.t 10] },
   { dst := some 12, g := none, op := AOp.un UnOp.not (Opd.t 11) }]
def c23r2 : List AOper :=
  [{ dst := some 13, g := none, op := AOp.build [V.str [], V.str [], V.bool false] [] },
   { dst := none, g := none, op := AOp.store (Opd.t 2) (Opd.t 13) 3 },
   { dst := some 3, g := none, op := AOp.mv (Opd.c (V.int IntKind.i64 1)) }]
def c23r3 : List AOper :=
  [{ dst := some 4, g := none, op := AOp.mv (Opd.c (V.int IntKind.i64 0)) }]
def c23r4 : List AOper :=
  [{ dst := some 14, g := none, op := AOp.fldA (Opd.t 1) 2 },
   { dst := some 15, g := none, op := AOp.fldA (Opd.t 14) 2 },
   { dst := some 16, g := none, op := AOp.load (Opd.t 15) none }]
def c23r5 : List AOper :=
  [{ dst := some 4, g := none, op := AOp.mv (Opd.c (V.int IntKind.i64 1)) }]
def c23r6 : List AOper :=
  [{ dst := some 5, g := none, op := AOp.allocT [V.nilp, V.nils] 68 }]
def c23r7 : List AOper :=
  [{ dst := some 17, g := none, op := AOp.fldA (Opd.t 1) 1 },
   { dst := some 18, g := none, op := AOp.load (Opd.t 17) none },
   { dst := some 19, g := none, op := AOp.fldA (Opd.t 1) 2 },
   { dst := some 20, g := none, op := AOp.fldA (Opd.t 19) 0 },
   { dst := some 21, g := none, op := AOp.load (Opd.t 20) none },
   { dst := some 22, g := none, op := AOp.mv (Opd.t 4) },
   { dst := some 23, g := none, op := AOp.bslice 3 1 [V.int IntKind.i64 0] [(0, Opd.t 18), (1, Opd.t 21), (2, Opd.t 22)] },
   { dst := some 24, g := none, op := AOp.lenL (Opd.t 23) },
   { dst := some 25, g := none, op := AOp.mv (Opd.c (V.int IntKind.i64 0)) }]
def c23r8 : List AOper :=
  [{ dst := some 26, g := none, op := AOp.bin BinOp.lss (Opd.t 25) (Opd.t 24) }]
def c23r9 : List AOper :=
  [{ dst := some 27, g := none, op := AOp.idxA (Opd.t 23) (Opd.t 25) none 1 },
   { dst := some 28, g := none, op := AOp.load (Opd.t 27) none },
   { dst := some 7, g := none, op := AOp.mv (Opd.t 28) }]
def c23r10 : List AOper :=
  [{ dst := some 30, g := none, op := AOp.mv (Opd.t 7) },
   { dst := some 31, g := none, op := AOp.call (Opd.c (V.fn 34 [])) [Opd.t 30] },
   { dst := some 29, g := none, op := AOp.mv (Opd.t 31) },
   { dst := some 32, g := none, op := AOp.ext (Opd.t 29) 0 },
   { dst := some 33, g := none, op := AOp.ext (Opd.t 29) 1 },
   { dst := some 8, g := none, op := AOp.mv (Opd.t 32) },
   { dst := some 9, g := none, op := AOp.mv (Opd.t 33) }]
def c23r11 : List AOper :=
  [{ dst := some 34, g := none, op := AOp.mv (Opd.t 8) },
   { dst := some 35, g := none, op := AOp.call (Opd.c (V.fn 35 [])) [Opd.t 5, Opd.t 34] }]
def c23r12 : List AOper :=
  [{ dst := some 36, g := none, op := AOp.bin BinOp.add (Opd.t 25) (Opd.c (V.int IntKind.i64 1)) },
   { dst := some 25, g := none, op := AOp.mv (Opd.t 36) }]
def c23l0 : AC := (AC.seq (AC.region c23r8) (AC.seq (AC.cond (Opd.t 26) AC.skip (AC.exit 0)) (AC.seq (AC.block 1 (AC.seq (AC.region c23r9) (AC.seq (AC.region c23r10) (AC.region c23r11)))) (AC.region c23r12))))
def c23d0 : List (AOper × List Nat) :=
  [({ dst := some 37, g := none, op := AOp.fldA (Opd.t 1) 0 }, []),
   ({ dst := some 38, g := none, op := AOp.load (Opd.t 37) none }, [0]),
   ({ dst := some 39, g := none, op := AOp.bin BinOp.add (Opd.c (V.int IntKind.i64 48)) (Opd.t 38) }, [1]),
   ({ dst := some 40, g := none, op := AOp.convI IntKind.u8 (Opd.t 39) }, [2]),
   ({ dst := some 41, g := none, op := AOp.bslice 2 1 [V.int IntKind.u8 0] [(0, Opd.c (V.int IntKind.u8 116)), (1, Opd.t 40)] }, [3]),
   ({ dst := some 42, g := none, op := AOp.b2s (Opd.t 41) }, [4]),
   ({ dst := some 43, g := none, op := AOp.call (Opd.c (V.fn 36 [])) [Opd.t 5] }, []),
   ({ dst := some 44, g := none, op := AOp.build [V.str [], V.str [], V.bool false] [(0, 1, Opd.t 42), (1, 1, Opd.t 43)] }, [5, 6]),
   ({ dst := none, g := none, op := AOp.store (Opd.t 2) (Opd.t 44) 3 }, [7, 6, 0, 1, 2, 3, 4, 5, 6, 7]),
   ({ dst := some 3, g := none, op := AOp.mv (Opd.c (V.int IntKind.i64 0)) }, [8, 0, 1, 2, 3, 4, 5, 6, 7, 8])]
def c23 : AC := (AC.seq (AC.region c23r0) (AC.seq (AC.seq (AC.region c23r1) (AC.cond (Opd.t 12) (AC.seq (AC.region c23r2) AC.ret) AC.skip)) (AC.seq (AC.region c23r3) (AC.seq (AC.seq (AC.region c23r4) (AC.cond (Opd.t 16) (AC.region c23r5) AC.skip)) (AC.seq (AC.region c23r6) (AC.seq (AC.seq (AC.region c23r7) (AC.block 0 (AC.loop c23l0))) (AC.seq (AC.drawn c23d0) AC.ret)))))))
def r23 : List ARes := [ARes.cell 2 (some 3), ARes.tmp 3]
theorem c23_ok : Try.f23.body.bind (cCode Try.prog Try.f23.ntmps) = some c23 := by kernel_rfl
theorem r23_ok : Try.f23.results.toList.mapM (cRes Try.prog Try.f23.ntmps) = some r23 := by kernel_rfl
def c24r0 : List AOper :=
  [{ dst := some 1, g := none, op := AOp.box (Opd.t 0) },
   { dst := some 2, g := none, op := AOp.alloc [V.str [], V.str [], V.bool false] },
   { dst := some 3, g := none, op := AOp.mv (Opd.c (V.int IntKind.i64 0)) }]
def c24r1 : List AOper :=
  [{ dst := some 5, g := none, op := AOp.load (Opd.t 1) (some 7) },
   { dst := some 6, g := none, op := AOp.call (Opd.c (V.fn 30 [])) [Opd.t 5] },
   { dst := some 7, g := none, op := AOp.un UnOp.not (Opd.t 6) }]
def c24r2 : List AOper :=
  [{ dst := some 8, g := none, op := AOp.build [V.str [], V.str [], V.bool false] [] },
   { dst := none, g := none, op := AOp.store (Opd.t 2) (Opd.t 8) 3 },
   { dst := some 3, g := none, op := AOp.mv (Opd.c (V.int IntKind.i64 1)) }]
def c24r3 : List AOper :=
  [{ dst := some 4, g := none, op := AOp.mv (Opd.c (V.int IntKind.i64 0)) }]
def c24r4 : List AOper :=
  [{ dst := some 9, g := none, op := AOp.fldA (Opd.t 1) 2 },
   { dst := some 10, g := none, op := AOp.fldA (Opd.t 9) 2 },
   { dst := some 11, g := none, op := AOp.load (Opd.t 10) none }]
def c24r5 : List AOper :=
  [{ dst := some 4, g := none, op := AOp.mv (Opd.c (V.int IntKind.i64 1)) }]
def c24d0 : List (AOper × List Nat) :=
  [({ dst := some 12, g := none, op := AOp.fldA (Opd.t 1) 0 }, []),
   ({ dst := some 13, g := none, op := AOp.load (Opd.t 12) none }, [0]),
   ({ dst := some 14, g := none, op := AOp.bin BinOp.add (Opd.c (V.int IntKind.i64 48)) (Opd.t 13) }, [1]),
   ({ dst := some 15, g := none, op := AOp.convI IntKind.u8 (Opd.t 14) }, [2]),
   ({ dst := some 16, g := none, op := AOp.bslice 2 1 [V.int IntKind.u8 0] [(0, Opd.c (V.int IntKind.u8 116)), (1, Opd.t 15)] }, [3]),
   ({ dst := some 17, g := none, op := AOp.b2s (Opd.t 16) }, [4]),
   ({ dst := some 18, g := none, op := AOp.fldA (Opd.t 1) 1 }, []),
   ({ dst := some 19, g := none, op := AOp.load (Opd.t 18) none }, [6]),
   ({ dst := some 20, g := none, op := AOp.call (Opd.c (V.fn 37 [])) [Opd.t 19] }, [7]),
   ({ dst := some 21, g := none, op := AOp.fldA (Opd.t 1) 2 }, []),
   ({ dst := some 22, g := none, op := AOp.fldA (Opd.t 21) 0 }, [9]),
   ({ dst := some 23, g := none, op := AOp.load (Opd.t 22) none }, [10]),
   ({ dst := some 24, g := none, op := AOp.call (Opd.c (V.fn 37 [])) [Opd.t 23] }, [11, 8]),
   ({ dst := some 25, g := none, op := AOp.bin BinOp.add (Opd.t 20) (Opd.t 24) }, [8, 12]),
   ({ dst := some 26, g := none, op := AOp.mv (Opd.t 4) }, []),
   ({ dst := some 27, g := none, op := AOp.call (Opd.c (V.fn 37 [])) [Opd.t 26] }, [14, 12]),
   ({ dst := some 28, g := none, op := AOp.bin BinOp.add (Opd.t 25) (Opd.t 27) }, [13, 15]),
   ({ dst := some 29, g := none, op := AOp.build [V.str [], V.str [], V.bool false] [(0, 1, Opd.t 17), (1, 1, Opd.t 28)] }, [5, 16]),
   ({ dst := none, g := none, op := AOp.store (Opd.t 2) (Opd.t 29) 3 }, [17, 15, 0, 1, 2, 3, 4, 5, 6, 7, 8, 9, 10, 11, 12, 13, 14, 15, 16, 17]),
   ({ dst := some 3, g := none, op := AOp.mv (Opd.c (V.int IntKind.i64 0)) }, [18, 0, 1, 2, 3, 4, 5, 6, 7, 8, 9, 10, 11, 12, 13, 14, 15, 16, 17, 18])]
def c24 : AC := (AC.seq (AC.region c24r0) (AC.seq (AC.seq (AC.region c24r1) (AC.cond (Opd.t 7) (AC.seq (AC.region c24r2) AC.ret) AC.skip)) (AC.seq (AC.region c24r3) (AC.seq (AC.seq (AC.region c24r4) (AC.cond (Opd.t 11) (AC.region c24r5) AC.skip)) (AC.seq (AC.drawn c24d0) AC.ret)))))
def r24 : List ARes := [ARes.cell 2 (some 3), ARes.tmp 3]
theorem c24_ok : Try.f24.body.bind (cCode Try.prog Try.f24.ntmps) = some c24 := by kernel_rfl
theorem r24_ok : Try.f24.results.toList.mapM (cRes Try.prog Try.f24.ntmps) = some r24 := by kernel_rfl
def c25r0 : List AOper :=
  [{ dst := some 2, g := none, op := AOp.alloc [V.int IntKind.i64 0, V.int IntKind.i64 0, V.int IntKind.i64 0, V.str [], V.bool false, V.nils, V.str [], V.int IntKind.i64 0, V.int IntKind.i64 0, V.int IntKind.i64 0, V.str [], V.bool false, V.nils, V.str [], V.int IntKind.i64 0, V.int IntKind.i64 0, V.int IntKind.i64 0, V.str [], V.bool false, V.nils, V.str [], V.int IntKind.i64 0, V.int IntKind.i64 0, V.int IntKind.i64 0, V.str [], V.bool false, V.nils, V.str [], V.int IntKind.i64 0, V.int IntKind.i64 0, V.int IntKind.i64 0, V.str [], V.bool false, V.nils, V.str [], V.int IntKind.i64 0, V.int IntKind.i64 0, V.int IntKind.i64 0, V.str [], V.bool false, V.nils, V.str [], V.int IntKind.i64 0, V.int IntKind.i64 0, V.int IntKind.i64 0, V.str [], V.bool false, V.nils, V.str [], V.int IntKind.i64 0, V.int IntKind.i64 0, V.int IntKind.i64 0, V.str [], V.bool false, V.nils, V.str []] },
   { dst := some 3, g := none, op := AOp.mv (Opd.c (V.bool false)) }]
def c25r1 : List AOper :=
  [{ dst := some 4, g := none, op := AOp.alloc [V.int IntKind.i64 0, V.int IntKind.i64 0, V.int IntKind.i64 0, V.str [], V.bool false, V.nils, V.str [], V.int IntKind.i64 0, V.int IntKind.i64 0, V.int IntKind.i64 0, V.str [], V.bool false, V.nils, V.str [], V.int IntKind.i64 0, V.int IntKind.i64 0, V.int IntKind.i64 0, V.str [], V.bool false, V.nils, V.str [], V.int IntKind.i64 0, V.int IntKind.i64 0, V.int IntKind.i64 0, V.str [], V.bool false, V.nils, V.str [], V.int IntKind.i64 0, V.int IntKind.i64 0, V.int IntKind.i64 0, V.str [], V.bool false, V.nils, V.str [], V.int IntKind.i64 0, V.int IntKind.i64 0, V.int IntKind.i64 0, V.str [], V.bool false, V.nils, V.str [], V.int IntKind.i64 0, V.int IntKind.i64 0, V.int IntKind.i64 0, V.str [], V.bool false, V.nils, V.str [], V.int IntKind.i64 0, V.int IntKind.i64 0, V.int IntKind.i64 0, V.str [], V.bool false, V.nils, V.str []] }]
def c25r2 : List AOper :=
  [{ dst := some 5, g := none, op := AOp.mv (Opd.c (V.int IntKind.i64 (-1))) }]
def c25r3 : List AOper :=
  [{ dst := some 8, g := none, op := AOp.mv (Opd.t 0) },
   { dst := some 9, g := none, op := AOp.lenL (Opd.t 8) },
   { dst := some 10, g := none, op := AOp.mv (Opd.c (V.int IntKind.i64 0)) }]
def c25r4 : List AOper :=
  [{ dst := some 11, g := none, op := AOp.bin BinOp.lss (Opd.t 10) (Opd.t 9) }]
def c25r5 : List AOper :=
  [{ dst := some 12, g := none, op := AOp.idxA (Opd.t 8) (Opd.t 10) none 7 },
   { dst := some 13, g := none, op := AOp.load (Opd.t 12) (some 7) },
   { dst := some 7, g := none, op := AOp.alloc [V.int IntKind.i64 0, V.int IntKind.i64 0, V.int IntKind.i64 0, V.str [], V.bool false, V.nils, V.str []] },
   { dst := none, g := none, op := AOp.store (Opd.t 7) (Opd.t 13) 7 }]
def c25r6 : List AOper :=
  [{ dst := some 14, g := none, op := AOp.load (Opd.t 7) (some 7) },
   { dst := some 15, g := none, op := AOp.call (Opd.c (V.fn 28 [])) [Opd.t 14] },
   { dst := some 16, g := none, op := AOp.un UnOp.not (Opd.t 15) },
   { dst := some 17, g := none, op := AOp.mv (Opd.t 16) },
   { dst := some 18, g := some (17, false), op := AOp.fldA (Opd.t 7) 0 },
   { dst := some 19, g := some (17, false), op := AOp.load (Opd.t 18) none },
   { dst := some 20, g := some (17, false), op := AOp.mv (Opd.t 5) },
   { dst := some 21, g := some (17, false), op := AOp.bin BinOp.leq (Opd.t 19) (Opd.t 20) },
   { dst := some 22, g := none, op := AOp.pick (Opd.t 17) (Opd.c (V.bool true)) (Opd.t 21) }]
def c25r7 : List AOper :=
  [{ dst := some 23, g := none, op := AOp.build [V.int IntKind.i64 0, V.int IntKind.i64 0, V.int IntKind.i64 0, V.str [], V.bool false, V.nils, V.str [], V.int IntKind.i64 0, V.int IntKind.i64 0, V.int IntKind.i64 0, V.str [], V.bool false, V.nils, V.str [], V.int IntKind.i64 0, V.int IntKind.i64 0, V.int IntKind.i64 0, V.str [], V.bool false, V.nils, V.str [], V.int IntKind.i64 0, V.int IntKind.i64 0, V.int IntKind.i64 0, V.str [], V.bool false, V.nils, V.str [], V.int IntKind.i64 0, V.int IntKind.i64 0, V.int IntKind.i64 0, V.str [], V.bool false, V.nils, V.str [], V.int IntKind.i64 0, V.int IntKind.i64 0, V.int IntKind.i64 0, V.str [], V.bool false, V.nils, V.str [], V.int IntKind.i64 0, V.int IntKind.i64 0, V.int IntKind.i64 0, V.str [], V.bool false, V.nils, V.str [], V.int IntKind.i64 0, V.int IntKind.i64 0, V.int IntKind.i64 0, V.str [], V.bool false, V.nils, V.str []] [] },
   { dst := none, g := none, op := AOp.store (Opd.t 2) (Opd.t 23) 56 },
   { dst := some 3, g := none, op := AOp.mv (Opd.c (V.bool false)) }]
def c25d0 : List (AOper × List Nat) :=
  [({ dst := some 24, g := none, op := AOp.fldA (Opd.t 7) 0 }, []),
   ({ dst := some 25, g := none, op := AOp.load (Opd.t 24) none }, [0]),
   ({ dst := some 26, g := none, op := AOp.load (Opd.t 7) (some 7) }, []),
   ({ dst := some 27, g := none, op := AOp.fldA (Opd.t 7) 0 }, []),
   ({ dst := some 28, g := none, op := AOp.load (Opd.t 27) none }, [3]),
   ({ dst := some 29, g := none, op := AOp.idxA (Opd.t 4) (Opd.t 25) (some 8) 7 }, [1, 0, 1, 2]),
   ({ dst := none, g := none, op := AOp.store (Opd.t 29) (Opd.t 26) 7 }, [5, 2, 0, 1, 2]),
   ({ dst := some 5, g := none, op := AOp.mv (Opd.t 28) }, [4, 6, 0, 1, 2, 3, 4, 5, 6])]
def c25r8 : List AOper :=
  [{ dst := some 30, g := none, op := AOp.bin BinOp.add (Opd.t 10) (Opd.c (V.int IntKind.i64 1)) },
   { dst := some 10, g := none, op := AOp.mv (Opd.t 30) }]
def c25l0 : AC := (AC.seq (AC.region c25r4) (AC.seq (AC.cond (Opd.t 11) AC.skip (AC.exit 0)) (AC.seq (AC.block 1 (AC.seq (AC.region c25r5) (AC.seq (AC.seq (AC.region c25r6) (AC.cond (Opd.t 22) (AC.seq (AC.region c25r7) AC.ret) AC.skip)) (AC.drawn c25d0)))) (AC.region c25r8))))
def c25r9 : List AOper :=
  [{ dst := some 31, g := none, op := AOp.load (Opd.t 4) (some 56) },
   { dst := none, g := none, op := AOp.store (Opd.t 2) (Opd.t 31) 56 },
   { dst := some 3, g := none, op := AOp.mv (Opd.c (V.bool true)) }]
def c25 : AC := (AC.seq (AC.region c25r0) (AC.seq (AC.region c25r1) (AC.seq (AC.region c25r2) (AC.seq (AC.seq (AC.region c25r3) (AC.block 0 (AC.loop c25l0))) (AC.seq (AC.region c25r9) AC.ret)))))
def r25 : List ARes := [ARes.cell 2 (some 56), ARes.tmp 3]
theorem c25_ok : Try.f25.body.bind (cCode Try.prog Try.f25.ntmps) = some c25 := by kernel_rfl
theorem r25_ok : Try.f25.results.toList.mapM (cRes Try.prog Try.f25.ntmps) = some r25 := by kernel_rfl
def c26r0 : List AOper :=
  [{ dst := some 2, g := none, op := AOp.mv (Opd.c (V.bool false)) }]
def c26r1 : List AOper :=
  [{ dst := some 3, g := none, op := AOp.mv (Opd.c (V.int IntKind.i64 0)) }]
def c26r2 : List AOper :=
  [{ dst := some 4, g := none, op := AOp.mv (Opd.t 3) },
   { dst := some 5, g := none, op := AOp.mv (Opd.t 0) },
   { dst := some 6, g := none, op := AOp.lenL (Opd.t 5) },
   { dst := some 7, g := none, op := AOp.bin BinOp.lss (Opd.t 4) (Opd.t 6) }]
def c26d0 : List (AOper × List Nat) :=
  [({ dst := some 10, g := none, op := AOp.mv (Opd.t 0) }, []),
   ({ dst := some 11, g := none, op := AOp.mv (Opd.t 3) }, []),
   ({ dst := some 12, g := none, op := AOp.idxA (Opd.t 10) (Opd.t 11) none 7 }, [0, 1]),
   ({ dst := some 13, g := none, op := AOp.load (Opd.t 12) (some 7) }, [2]),
   ({ dst := some 14, g := none, op := AOp.call (Opd.c (V.fn 30 [])) [Opd.t 13] }, [3]),
   ({ dst := some 15, g := none, op := AOp.un UnOp.not (Opd.t 14) }, [4]),
   ({ dst := some 16, g := none, op := AOp.mv (Opd.t 15) }, [5, 4]),
   ({ dst := some 17, g := some (16, false), op := AOp.mv (Opd.t 3) }, [6]),
   ({ dst := some 18, g := some (16, false), op := AOp.bin BinOp.gtr (Opd.t 17) (Opd.c (V.int IntKind.i64 0)) }, [7, 6]),
   ({ dst := some 19, g := some (16, false), op := AOp.mv (Opd.t 18) }, [8, 6, 6]),
   ({ dst := some 20, g := some (19, true), op := AOp.mv (Opd.t 0) }, [9]),
   ({ dst := some 21, g := some (19, true), op := AOp.mv (Opd.t 3) }, [9]),
   ({ dst := some 22, g := some (19, true), op := AOp.bin BinOp.sub (Opd.t 21) (Opd.c (V.int IntKind.i64 1)) }, [11, 9]),
   ({ dst := some 23, g := some (19, true), op := AOp.idxA (Opd.t 20) (Opd.t 22) none 7 }, [10, 12, 9]),
   ({ dst := some 24, g := some (19, true), op := AOp.fldA (Opd.t 23) 0 }, [13, 9]),
   ({ dst := some 25, g := some (19, true), op := AOp.load (Opd.t 24) none }, [14, 9]),
   ({ dst := some 26, g := some (19, true), op := AOp.mv (Opd.t 0) }, [9]),
   ({ dst := some 27, g := some (19, true), op := AOp.mv (Opd.t 3) }, [9]),
   ({ dst := some 28, g := some (19, true), op := AOp.idxA (Opd.t 26) (Opd.t 27) none 7 }, [16, 17, 9]),
   ({ dst := some 29, g := some (19, true), op := AOp.fldA (Opd.t 28) 0 }, [18, 9]),
   ({ dst := some 30, g := some (19, true), op := AOp.load (Opd.t 29) none }, [19, 9]),
   ({ dst := some 31, g := some (19, true), op := AOp.bin BinOp.geq (Opd.t 25) (Opd.t 30) }, [15, 20, 9]),
   ({ dst := some 32, g := some (16, false), op := AOp.pick (Opd.t 19) (Opd.t 31) (Opd.c (V.bool false)) }, [9, 21, 6]),
   ({ dst := some 33, g := none, op := AOp.pick (Opd.t 16) (Opd.c (V.bool true)) (Opd.t 32) }, [6, 22])]
def c26r3 : List AOper :=
  [{ dst := some 2, g := none, op := AOp.mv (Opd.c (V.bool false)) }]
def c26r4 : List AOper :=
  [{ dst := some 8, g := none, op := AOp.mv (Opd.t 3) },
   { dst := some 9, g := none, op := AOp.bin BinOp.add (Opd.t 8) (Opd.c (V.int IntKind.i64 1)) },
   { dst := some 3, g := none, op := AOp.mv (Opd.t 9) }]
def c26l0 : AC := (AC.seq (AC.seq (AC.region c26r2) (AC.cond (Opd.t 7) AC.skip (AC.exit 0))) (AC.seq (AC.block 1 (AC.seq (AC.drawn c26d0) (AC.cond (Opd.t 33) (AC.seq (AC.region c26r3) AC.ret) AC.skip))) (AC.region c26r4)))
def c26r5 : List AOper :=
  [{ dst := some 2, g := none, op := AOp.mv (Opd.c (V.bool true)) }]
def c26 : AC := (AC.seq (AC.region c26r0) (AC.seq (AC.seq (AC.region c26r1) (AC.block 0 (AC.loop c26l0))) (AC.seq (AC.region c26r5) AC.ret)))
def r26 : List ARes := [ARes.tmp 2]
theorem c26_ok : Try.f26.body.bind (cCode Try.prog Try.f26.ntmps) = some c26 := by kernel_rfl
theorem r26_ok : Try.f26.results.toList.mapM (cRes Try.prog Try.f26.ntmps) = some r26 := by kernel_rfl
def c27r0 : List AOper :=
  [{ dst := some 4, g := none, op := AOp.mv (Opd.c (V.int IntKind.i64 0)) }]
def c27r1 : List AOper :=
  [{ dst := some 5, g := none, op := AOp.mv (Opd.c (V.int IntKind.i64 0)) }]
def c27r2 : List AOper :=
  [{ dst := some 6, g := none, op := AOp.mv (Opd.t 5) },
   { dst := some 7, g := none, op := AOp.mv (Opd.t 0) },
   { dst := some 8, g := none, op := AOp.lenL (Opd.t 7) },
   { dst := some 9, g := none, op := AOp.bin BinOp.lss (Opd.t 6) (Opd.t 8) }]
def c27r3 : List AOper :=
  [{ dst := some 12, g := none, op := AOp.mv (Opd.t 0) },
   { dst := some 13, g := none, op := AOp.mv (Opd.t 5) },
   { dst := some 14, g := none, op := AOp.idxA (Opd.t 12) (Opd.t 13) none 7 },
   { dst := some 15, g := none, op := AOp.fldA (Opd.t 14) 0 },
   { dst := some 16, g := none, op := AOp.load (Opd.t 15) none },
   { dst := some 17, g := none, op := AOp.mv (Opd.t 1) },
   { dst := some 18, g := none, op := AOp.bin BinOp.eql (Opd.t 16) (Opd.t 17) }]
def c27r4 : List AOper :=
  [{ dst := some 19, g := none, op := AOp.mv (Opd.t 5) },
   { dst := some 4, g := none, op := AOp.mv (Opd.t 19) }]
def c27r5 : List AOper :=
  [{ dst := some 10, g := none, op := AOp.mv (Opd.t 5) },
   { dst := some 11, g := none, op := AOp.bin BinOp.add (Opd.t 10) (Opd.c (V.int IntKind.i64 1)) },
   { dst := some 5, g := none, op := AOp.mv (Opd.t 11) }]
def c27l0 : AC := (AC.seq (AC.seq (AC.region c27r2) (AC.cond (Opd.t 9) AC.skip (AC.exit 0))) (AC.seq (AC.block 1 (AC.seq (AC.region c27r3) (AC.cond (Opd.t 18) (AC.seq (AC.region c27r4) AC.ret) AC.skip))) (AC.region c27r5)))
def c27r6 : List AOper :=
  [{ dst := some 4, g := none, op := AOp.mv (Opd.c (V.int IntKind.i64 (-1))) }]
def c27 : AC := (AC.seq (AC.region c27r0) (AC.seq (AC.seq (AC.region c27r1) (AC.block 0 (AC.loop c27l0))) (AC.seq (AC.region c27r6) AC.ret)))
def r27 : List ARes := [ARes.tmp 4]
theorem c27_ok : Try.f27.body.bind (cCode Try.prog Try.f27.ntmps) = some c27 := by kernel_rfl
theorem r27_ok : Try.f27.results.toList.mapM (cRes Try.prog Try.f27.ntmps) = some r27 := by kernel_rfl
def c28r0 : List AOper :=
  [{ dst := some 1, g := none, op := AOp.box (Opd.t 0) },
   { dst := some 2, g := none, op := AOp.mv (Opd.c (V.bool false)) }]
def c28r1 : List AOper :=
  [{ dst := some 4, g := none, op := AOp.fldA (Opd.t 1) 2 },
   { dst := some 5, g := none, op := AOp.load (Opd.t 4) (some 5) },
   { dst := some 3, g := none, op := AOp.alloc [V.int IntKind.i64 0, V.str [], V.bool false, V.nils, V.str []] },
   { dst := none, g := none, op := AOp.store (Opd.t 3) (Opd.t 5) 5 }]
def c28r2 : List AOper :=
  [{ dst := some 6, g := none, op := AOp.fldA (Opd.t 1) 0 },
   { dst := some 7, g := none, op := AOp.load (Opd.t 6) none },
   { dst := some 8, g := none, op := AOp.bin BinOp.geq (Opd.t 7) (Opd.c (V.int IntKind.i64 0)) },
   { dst := some 9, g := none, op := AOp.mv (Opd.t 8) },
   { dst := some 10, g := some (9, true), op := AOp.fldA (Opd.t 1) 0 },
   { dst := some 11, g := some (9, true), op := AOp.load (Opd.t 10) none },
   { dst := some 12, g := some (9, true), op := AOp.bin BinOp.lss (Opd.t 11) (Opd.c (V.int IntKind.i64 8)) },
   { dst := some 13, g := none, op := AOp.pick (Opd.t 9) (Opd.t 12) (Opd.c (V.bool false)) },
   { dst := some 14, g := none, op := AOp.mv (Opd.t 13) },
   { dst := some 15, g := some (14, true), op := AOp.fldA (Opd.t 1) 1 },
   { dst := some 16, g := some (14, true), op := AOp.load (Opd.t 15) none },
   { dst := some 17, g := some (14, true), op := AOp.bin BinOp.geq (Opd.t 16) (Opd.c (V.int IntKind.i64 1)) },
   { dst := some 18, g := none, op := AOp.pick (Opd.t 14) (Opd.t 17) (Opd.c (V.bool false)) },
   { dst := some 19, g := none, op := AOp.mv (Opd.t 18) },
   { dst := some 20, g := some (19, true), op := AOp.fldA (Opd.t 1) 1 },
   { dst := some 21, g := some (19, true), op := AOp.load (Opd.t 20) none },
   { dst := some 22, g := some (19, true), op := AOp.bin BinOp.leq (Opd.t 21) (Opd.c (V.int IntKind.i64 1099511627775)) },
   { dst := some 23, g := none, op := AOp.pick (Opd.t 19) (Opd.t 22) (Opd.c (V.bool false)) },
   { dst := some 24, g := none, op := AOp.mv (Opd.t 23) },
   { dst := some 25, g := some (24, true), op := AOp.fldA (Opd.t 3) 1 },
   { dst := some 26, g := some (24, true), op := AOp.load (Opd.t 25) none },
   { dst := some 27, g := some (24, true), op := AOp.bin BinOp.eql (Opd.t 26) (Opd.c (V.str [])) },
   { dst := some 28, g := none, op := AOp.pick (Opd.t 24) (Opd.t 27) (Opd.c (V.bool false)) },
   { dst := some 29, g := none, op := AOp.mv (Opd.t 28) },
   { dst := some 30, g := some (29, true), op := AOp.fldA (Opd.t 3) 3 },
   { dst := some 31, g := some (29, true), op := AOp.load (Opd.t 30) none },
   { dst := some 32, g := some (29, true), op := AOp.lenL (Opd.t 31) },
   { dst := some 33, g := some (29, true), op := AOp.bin BinOp.eql (Opd.t 32) (Opd.c (V.int IntKind.i64 0)) },
   { dst := some 34, g := none, op := AOp.pick (Opd.t 29) (Opd.t 33) (Opd.c (V.bool false)) },
   { dst := some 35, g := none, op := AOp.mv (Opd.t 34) },
   { dst := some 36, g := some (35, true), op := AOp.fldA (Opd.t 3) 4 },
   { dst := some 37, g := some (35, true), op := AOp.load (Opd.t 36) none },
   { dst := some 38, g := some (35, true), op := AOp.bin BinOp.eql (Opd.t 37) (Opd.c (V.str [])) },
   { dst := some 39, g := none, op := AOp.pick (Opd.t 35) (Opd.t 38) (Opd.c (V.bool false)) },
   { dst := some 40, g := none, op := AOp.mv (Opd.t 39) },
   { dst := some 41, g := some (40, true), op := AOp.fldA (Opd.t 3) 0 },
   { dst := some 42, g := some (40, true), op := AOp.load (Opd.t 41) none },
   { dst := some 43, g := some (40, true), op := AOp.bin BinOp.geq (Opd.t 42) (Opd.c (V.int IntKind.i64 0)) },
   { dst := some 44, g := none, op := AOp.pick (Opd.t 40) (Opd.t 43) (Opd.c (V.bool false)) },
   { dst := some 45, g := none, op := AOp.mv (Opd.t 44) },
   { dst := some 46, g := some (45, true), op := AOp.fldA (Opd.t 3) 0 },
   { dst := some 47, g := some (45, true), op := AOp.load (Opd.t 46) none },
   { dst := some 48, g := some (45, true), op := AOp.bin BinOp.leq (Opd.t 47) (Opd.c (V.int IntKind.i64 999)) },
   { dst := some 49, g := none, op := AOp.pick (Opd.t 45) (Opd.t 48) (Opd.c (V.bool false)) },
   { dst := some 2, g := none, op := AOp.mv (Opd.t 49) }]
def c28 : AC := (AC.seq (AC.region c28r0) (AC.seq (AC.region c28r1) (AC.seq (AC.region c28r2) AC.ret)))
def r28 : List ARes := [ARes.tmp 2]
theorem c28_ok : Try.f28.body.bind (cCode Try.prog Try.f28.ntmps) = some c28 := by kernel_rfl
theorem r28_ok : Try.f28.results.toList.mapM (cRes Try.prog Try.f28.ntmps) = some r28 := by kernel_rfl
def c29r0 : List AOper :=
  [{ dst := some 1, g := none, op := AOp.box (Opd.t 0) },
   { dst := some 2, g := none, op := AOp.mv (Opd.c V.nils) }]
def c29r1 : List AOper :=
  [{ dst := some 3, g := none, op := AOp.slcA (Opd.t 1) none none 8 7 },
   { dst := some 4, g := none, op := AOp.call (Opd.c (V.fn 39 [])) [Opd.t 3] },
   { dst := some 5, g := none, op := AOp.call (Opd.c (V.fn 38 [])) [Opd.t 4, Opd.c (V.fn 40 [])] },
   { dst := some 2, g := none, op := AOp.mv (Opd.t 5) }]
def c29 : AC := (AC.seq (AC.region c29r0) (AC.seq (AC.region c29r1) AC.ret))
def r29 : List ARes := [ARes.tmp 2]
theorem c29_ok : Try.f29.body.bind (cCode Try.prog Try.f29.ntmps) = some c29 := by kernel_rfl
theorem r29_ok : Try.f29.results.toList.mapM (cRes Try.prog Try.f29.ntmps) = some r29 := by kernel_rfl
def c30r0 : List AOper :=
  [{ dst := some 1, g := none, op := AOp.box (Opd.t 0) },
   { dst := some 2, g := none, op := AOp.mv (Opd.c (V.bool false)) }]
def c30r1 : List AOper :=
  [{ dst := some 4, g := none, op := AOp.fldA (Opd.t 1) 2 },
   { dst := some 5, g := none, op := AOp.load (Opd.t 4) (some 5) },
   { dst := some 3, g := none, op := AOp.alloc [V.int IntKind.i64 0, V.str [], V.bool false, V.nils, V.str []] },
   { dst := none, g := none, op := AOp.store (Opd.t 3) (Opd.t 5) 5 }]
def c30r2 : List AOper :=
  [{ dst := some 6, g := none, op := AOp.fldA (Opd.t 1) 0 },
   { dst := some 7, g := none, op := AOp.load (Opd.t 6) none },
   { dst := some 8, g := none, op := AOp.bin BinOp.geq (Opd.t 7) (Opd.c (V.int IntKind.i64 0)) },
   { dst := some 9, g := none, op := AOp.mv (Opd.t 8) },
   { dst := some 10, g := some (9, true), op := AOp.fldA (Opd.t 1) 0 },
   { dst := some 11, g := some (9, true), op := AOp.load (Opd.t 10) none },
   { dst := some 12, g := some (9, true), op := AOp.bin BinOp.leq (Opd.t 11) (Opd.c (V.int IntKind.i64 7)) },
   { dst := some 13, g := none, op := AOp.pick (Opd.t 9) (Opd.t 12) (Opd.c (V.bool false)) },
   { dst := some 14, g := none, op := AOp.mv (Opd.t 13) },
   { dst := some 15, g := some (14, true), op := AOp.fldA (Opd.t 1) 1 },
   { dst := some 16, g := some (14, true), op := AOp.load (Opd.t 15) none },
   { dst := some 17, g := some (14, true), op := AOp.bin BinOp.geq (Opd.t 16) (Opd.c (V.int IntKind.i64 1)) },
   { dst := some 18, g := none, op := AOp.pick (Opd.t 14) (Opd.t 17) (Opd.c (V.bool false)) },
   { dst := some 19, g := none, op := AOp.mv (Opd.t 18) },
   { dst := some 20, g := some (19, true), op := AOp.fldA (Opd.t 1) 1 },
   { dst := some 21, g := some (19, true), op := AOp.load (Opd.t 20) none },
   { dst := some 22, g := some (19, true), op := AOp.bin BinOp.leq (Opd.t 21) (Opd.c (V.int IntKind.i64 1099511627775)) },
   { dst := some 23, g := none, op := AOp.pick (Opd.t 19) (Opd.t 22) (Opd.c (V.bool false)) },
   { dst := some 24, g := none, op := AOp.mv (Opd.t 23) },
   { dst := some 25, g := some (24, true), op := AOp.fldA (Opd.t 3) 1 },
   { dst := some 26, g := some (24, true), op := AOp.load (Opd.t 25) none },
   { dst := some 27, g := some (24, true), op := AOp.bin BinOp.eql (Opd.t 26) (Opd.c (V.str [])) },
   { dst := some 28, g := none, op := AOp.pick (Opd.t 24) (Opd.t 27) (Opd.c (V.bool false)) },
   { dst := some 29, g := none, op := AOp.mv (Opd.t 28) },
   { dst := some 30, g := some (29, true), op := AOp.fldA (Opd.t 3) 3 },
   { dst := some 31, g := some (29, true), op := AOp.load (Opd.t 30) none },
   { dst := some 32, g := some (29, true), op := AOp.lenL (Opd.t 31) },
   { dst := some 33, g := some (29, true), op := AOp.bin BinOp.eql (Opd.t 32) (Opd.c (V.int IntKind.i64 0)) },
   { dst := some 34, g := none, op := AOp.pick (Opd.t 29) (Opd.t 33) (Opd.c (V.bool false)) },
   { dst := some 35, g := none, op := AOp.mv (Opd.t 34) },
   { dst := some 36, g := some (35, true), op := AOp.fldA (Opd.t 3) 4 },
   { dst := some 37, g := some (35, true), op := AOp.load (Opd.t 36) none },
   { dst := some 38, g := some (35, true), op := AOp.bin BinOp.eql (Opd.t 37) (Opd.c (V.str [])) },
   { dst := some 39, g := none, op := AOp.pick (Opd.t 35) (Opd.t 38) (Opd.c (V.bool false)) },
   { dst := some 40, g := none, op := AOp.mv (Opd.t 39) },
   { dst := some 41, g := some (40, true), op := AOp.fldA (Opd.t 3) 0 },
   { dst := some 42, g := some (40, true), op := AOp.load (Opd.t 41) none },
   { dst := some 43, g := some (40, true), op := AOp.bin BinOp.geq (Opd.t 42) (Opd.c (V.int IntKind.i64 0)) },
   { dst := some 44, g := none, op := AOp.pick (Opd.t 40) (Opd.t 43) (Opd.c (V.bool false)) },
   { dst := some 45, g := none, op := AOp.mv (Opd.t 44) },
   { dst := some 46, g := some (45, true), op := AOp.fldA (Opd.t 3) 0 },
   { dst := some 47, g := some (45, true), op := AOp.load (Opd.t 46) none },
   { dst := some 48, g := some (45, true), op := AOp.bin BinOp.leq (Opd.t 47) (Opd.c (V.int IntKind.i64 999)) },
   { dst := some 49, g := none, op := AOp.pick (Opd.t 45) (Opd.t 48) (Opd.c (V.bool false)) },
   { dst := some 2, g := none, op := AOp.mv (Opd.t 49) }]
def c30 : AC := (AC.seq (AC.region c30r0) (AC.seq (AC.region c30r1) (AC.seq (AC.region c30r2) AC.ret)))
def r30 : List ARes := [ARes.tmp 2]
theorem c30_ok : Try.f30.body.bind (cCode Try.prog Try.f30.ntmps) = some c30 := by kernel_rfl
theorem r30_ok : Try.f30.results.toList.mapM (cRes Try.prog Try.f30.ntmps) = some r30 := by kernel_rfl
def c31r0 : List AOper :=
  [{ dst := some 3, g := none, op := AOp.box (Opd.t 1) },
   { dst := some 4, g := none, op := AOp.mv (Opd.c V.nils) }]
def c31r1 : List AOper :=
  [{ dst := some 5, g := none, op := AOp.mv (Opd.c V.nils) }]
def c31r2 : List AOper :=
  [{ dst := some 6, g := none, op := AOp.mv (Opd.c (V.bool false)) }]
def c31r3 : List AOper :=
  [{ dst := some 7, g := none, op := AOp.mv (Opd.c (V.int IntKind.i64 0)) }]
def c31r4 : List AOper :=
  [{ dst := some 8, g := none, op := AOp.mv (Opd.t 7) },
   { dst := some 9, g := none, op := AOp.mv (Opd.t 0) },
   { dst := some 10, g := none, op := AOp.lenL (Opd.t 9) },
   { dst := some 11, g := none, op := AOp.bin BinOp.lss (Opd.t 8) (Opd.t 10) }]
def c31d0 : List (AOper × List Nat) :=
  [({ dst := some 14, g := none, op := AOp.mv (Opd.t 6) }, []),
   ({ dst := some 15, g := none, op := AOp.un UnOp.not (Opd.t 14) }, [0]),
   ({ dst := some 16, g := none, op := AOp.mv (Opd.t 15) }, [1]),
   ({ dst := some 17, g := some (16, true), op := AOp.mv (Opd.t 0) }, [2]),
   ({ dst := some 18, g := some (16, true), op := AOp.mv (Opd.t 7) }, [2]),
   ({ dst := some 19, g := some (16, true), op := AOp.idxA (Opd.t 17) (Opd.t 18) none 7 }, [3, 4, 2]),
   ({ dst := some 20, g := some (16, true), op := AOp.fldA (Opd.t 19) 0 }, [5, 2]),
   ({ dst := some 21, g := some (16, true), op := AOp.load (Opd.t 20) none }, [6, 2]),
   ({ dst := some 22, g := some (16, true), op := AOp.fldA (Opd.t 3) 0 }, [2]),
   ({ dst := some 23, g := some (16, true), op := AOp.load (Opd.t 22) none }, [8, 2]),
   ({ dst := some 24, g := some (16, true), op := AOp.bin BinOp.geq (Opd.t 21) (Opd.t 23) }, [7, 9, 2]),
   ({ dst := some 25, g := none, op := AOp.pick (Opd.t 16) (Opd.t 24) (Opd.c (V.bool false)) }, [2, 10])]
def c31r5 : List AOper :=
  [{ dst := some 26, g := none, op := AOp.mv (Opd.t 5) },
   { dst := some 27, g := none, op := AOp.load (Opd.t 3) (some 7) },
   { dst := some 28, g := none, op := AOp.bslice 1 7 [V.int IntKind.i64 0, V.int IntKind.i64 0, V.int IntKind.i64 0, V.str [], V.bool false, V.nils, V.str []] [(0, Opd.t 27)] },
   { dst := some 29, g := none, op := AOp.append (Opd.t 26) (Opd.t 28) 7 88 false },
   { dst := some 5, g := none, op := AOp.mv (Opd.t 29) }]
def c31r6 : List AOper :=
  [{ dst := some 6, g := none, op := AOp.mv (Opd.c (V.bool true)) }]
def c31d1 : List (AOper × List Nat) :=
  [({ dst := some 30, g := none, op := AOp.mv (Opd.t 0) }, []),
   ({ dst := some 31, g := none, op := AOp.mv (Opd.t 7) }, []),
   ({ dst := some 32, g := none, op := AOp.idxA (Opd.t 30) (Opd.t 31) none 7 }, [0, 1]),
   ({ dst := some 33, g := none, op := AOp.fldA (Opd.t 32) 0 }, [2]),
   ({ dst := some 34, g := none, op := AOp.load (Opd.t 33) none }, [3]),
   ({ dst := some 35, g := none, op := AOp.fldA (Opd.t 3) 0 }, []),
   ({ dst := some 36, g := none, op := AOp.load (Opd.t 35) none }, [5]),
   ({ dst := some 37, g := none, op := AOp.bin BinOp.neq (Opd.t 34) (Opd.t 36) }, [4, 6])]
def c31r7 : List AOper :=
  [{ dst := some 38, g := none, op := AOp.mv (Opd.t 5) },
   { dst := some 39, g := none, op := AOp.mv (Opd.t 0) },
   { dst := some 40, g := none, op := AOp.mv (Opd.t 7) },
   { dst := some 41, g := none, op := AOp.idxA (Opd.t 39) (Opd.t 40) none 7 },
   { dst := some 42, g := none, op := AOp.load (Opd.t 41) (some 7) },
   { dst := some 43, g := none, op := AOp.bslice 1 7 [V.int IntKind.i64 0, V.int IntKind.i64 0, V.int IntKind.i64 0, V.str [], V.bool false, V.nils, V.str []] [(0, Opd.t 42)] },
   { dst := some 44, g := none, op := AOp.append (Opd.t 38) (Opd.t 43) 7 88 false },
   { dst := some 5, g := none, op := AOp.mv (Opd.t 44) }]
def c31r8 : List AOper :=
  [{ dst := some 12, g := none, op := AOp.mv (Opd.t 7) },
   { dst := some 13, g := none, op := AOp.bin BinOp.add (Opd.t 12) (Opd.c (V.int IntKind.i64 1)) },
   { dst := some 7, g := none, op := AOp.mv (Opd.t 13) }]
def c31l0 : AC := (AC.seq (AC.seq (AC.region c31r4) (AC.cond (Opd.t 11) AC.skip (AC.exit 0))) (AC.seq (AC.block 1 (AC.seq (AC.seq (AC.drawn c31d0) (AC.cond (Opd.t 25) (AC.seq (AC.region c31r5) (AC.region c31r6)) AC.skip)) (AC.seq (AC.drawn c31d1) (AC.cond (Opd.t 37) (AC.region c31r7) AC.skip)))) (AC.region c31r8)))
def c31r9 : List AOper :=
  [{ dst := some 45, g := none, op := AOp.mv (Opd.t 6) },
   { dst := some 46, g := none, op := AOp.un UnOp.not (Opd.t 45) }]
def c31r10 : List AOper :=
  [{ dst := some 47, g := none, op := AOp.mv (Opd.t 5) },
   { dst := some 48, g := none, op := AOp.load (Opd.t 3) (some 7) },
   { dst := some 49, g := none, op := AOp.bslice 1 7 [V.int IntKind.i64 0, V.int IntKind.i64 0, V.int IntKind.i64 0, V.str [], V.bool false, V.nils, V.str []] [(0, Opd.t 48)] },
   { dst := some 50, g := none, op := AOp.append (Opd.t 47) (Opd.t 49) 7 88 false },
   { dst := some 5, g := none, op := AOp.mv (Opd.t 50) }]
def c31r11 : List AOper :=
  [{ dst := some 51, g := none, op := AOp.mv (Opd.t 5) },
   { dst := some 4, g := none, op := AOp.mv (Opd.t 51) }]
def c31 : AC := (AC.seq (AC.region c31r0) (AC.seq (AC.region c31r1) (AC.seq (AC.region c31r2) (AC.seq (AC.seq (AC.region c31r3) (AC.block 0 (AC.loop c31l0))) (AC.seq (AC.seq (AC.region c31r9) (AC.cond (Opd.t 46) (AC.region c31r10) AC.skip)) (AC.seq (AC.region c31r11) AC.ret))))))
def r31 : List ARes := [ARes.tmp 4]
theorem c31_ok : Try.f31.body.bind (cCode Try.prog Try.f31.ntmps) = some c31 := by kernel_rfl
theorem r31_ok : Try.f31.results.toList.mapM (cRes Try.prog Try.f31.ntmps) = some r31 := by kernel_rfl
def c32r0 : List AOper :=
  [{ dst := some 2, g := none, op := AOp.mv (Opd.c (V.int IntKind.i64 0)) },
   { dst := some 3, g := none, op := AOp.mv (Opd.c (V.int IntKind.i64 0)) },
   { dst := some 4, g := none, op := AOp.mv (Opd.c (V.int IntKind.i64 0)) }]
def c32r1 : List AOper :=
  [{ dst := some 5, g := none, op := AOp.mv (Opd.c (V.int IntKind.i64 0)) }]
def c32r2 : List AOper :=
  [{ dst := some 8, g := none, op := AOp.mv (Opd.c (V.int IntKind.i64 0)) }]
def c32r3 : List AOper :=
  [{ dst := some 9, g := none, op := AOp.bin BinOp.lss (Opd.t 8) (Opd.c (V.int IntKind.i64 9)) }]
def c32r4 : List AOper :=
  [{ dst := some 10, g := none, op := AOp.mv (Opd.t 8) },
   { dst := some 6, g := none, op := AOp.mv (Opd.t 10) }]
def c32r5 : List AOper :=
  [{ dst := some 11, g := none, op := AOp.mv (Opd.t 6) },
   { dst := some 12, g := none, op := AOp.mv (Opd.t 0) },
   { dst := some 13, g := none, op := AOp.lenS (Opd.t 12) },
   { dst := some 14, g := none, op := AOp.bin BinOp.eql (Opd.t 11) (Opd.t 13) }]
def c32r6 : List AOper :=
  [{ dst := some 2, g := none, op := AOp.mv (Opd.c (V.int IntKind.i64 0)) },
   { dst := some 3, g := none, op := AOp.mv (Opd.c (V.int IntKind.i64 0)) },
   { dst := some 4, g := none, op := AOp.mv (Opd.c (V.int IntKind.i64 10)) }]
def c32r7 : List AOper :=
  [{ dst := some 15, g := none, op := AOp.mv (Opd.t 0) },
   { dst := some 16, g := none, op := AOp.mv (Opd.t 6) },
   { dst := some 17, g := none, op := AOp.idxS (Opd.t 15) (Opd.t 16) },
   { dst := some 7, g := none, op := AOp.mv (Opd.t 17) }]
def c32r8 : List AOper :=
  [{ dst := some 18, g := none, op := AOp.mv (Opd.t 5) },
   { dst := some 19, g := none, op := AOp.mv (Opd.t 7) },
   { dst := some 20, g := none, op := AOp.bin BinOp.and (Opd.t 19) (Opd.c (V.int IntKind.u8 127)) },
   { dst := some 21, g := none, op := AOp.convI IntKind.i64 (Opd.t 20) },
   { dst := some 22, g := none, op := AOp.mv (Opd.t 6) },
   { dst := some 23, g := none, op := AOp.bin BinOp.mul (Opd.c (V.int IntKind.i64 7)) (Opd.t 22) },
   { dst := some 24, g := none, op := AOp.bin BinOp.shl (Opd.t 21) (Opd.t 23) },
   { dst := some 25, g := none, op := AOp.bin BinOp.or (Opd.t 18) (Opd.t 24) },
   { dst := some 5, g := none, op := AOp.mv (Opd.t 25) }]
def c32r9 : List AOper :=
  [{ dst := some 26, g := none, op := AOp.mv (Opd.t 7) },
   { dst := some 27, g := none, op := AOp.bin BinOp.geq (Opd.t 26) (Opd.c (V.int IntKind.u8 128)) }]
def c32r10 : List AOper :=
  [{ dst := some 28, g := none, op := AOp.mv (Opd.t 6) },
   { dst := some 29, g := none, op := AOp.bin BinOp.gtr (Opd.t 28) (Opd.c (V.int IntKind.i64 0)) },
   { dst := some 30, g := none, op := AOp.mv (Opd.t 29) },
   { dst := some 31, g := some (30, true), op := AOp.mv (Opd.t 7) },
   { dst := some 32, g := some (30, true), op := AOp.bin BinOp.eql (Opd.t 31) (Opd.c (V.int IntKind.u8 0)) },
   { dst := some 33, g := none, op := AOp.pick (Opd.t 30) (Opd.t 32) (Opd.c (V.bool false)) },
   { dst := some 34, g := none, op := AOp.mv (Opd.t 33) },
   { dst := some 35, g := some (34, false), op := AOp.mv (Opd.t 5) },
   { dst := some 36, g := some (34, false), op := AOp.bin BinOp.gtr (Opd.t 35) (Opd.c (V.int IntKind.i64 4611686018427387904)) },
   { dst := some 37, g := none, op := AOp.pick (Opd.t 34) (Opd.c (V.bool true)) (Opd.t 36) }]
def c32r11 : List AOper :=
  [{ dst := some 38, g := none, op := AOp.mv (Opd.t 5) },
   { dst := some 39, g := none, op := AOp.mv (Opd.t 6) },
   { dst := some 40, g := none, op := AOp.bin BinOp.add (Opd.t 39) (Opd.c (V.int IntKind.i64 1)) },
   { dst := some 2, g := none, op := AOp.mv (Opd.t 38) },
   { dst := some 3, g := none, op := AOp.mv (Opd.t 40) },
   { dst := some 4, g := none, op := AOp.mv (Opd.c (V.int IntKind.i64 0)) }]
def c32r12 : List AOper :=
  [{ dst := some 41, g := none, op := AOp.bin BinOp.add (Opd.t 8) (Opd.c (V.int IntKind.i64 1)) },
   { dst := some 8, g := none, op := AOp.mv (Opd.t 41) }]
def c32l0 : AC := (AC.seq (AC.region c32r3) (AC.seq (AC.cond (Opd.t 9) AC.skip (AC.exit 0)) (AC.seq (AC.block 1 (AC.seq (AC.region c32r4) (AC.seq (AC.seq (AC.region c32r5) (AC.cond (Opd.t 14) (AC.seq (AC.region c32r6) AC.ret) AC.skip)) (AC.seq (AC.region c32r7) (AC.seq (AC.region c32r8) (AC.seq (AC.seq (AC.region c32r9) (AC.cond (Opd.t 27) (AC.exit 1) AC.skip)) (AC.seq (AC.seq (AC.region c32r10) (AC.cond (Opd.t 37) (AC.exit 0) AC.skip)) (AC.seq (AC.region c32r11) AC.ret)))))))) (AC.region c32r12))))
def c32r13 : List AOper :=
  [{ dst := some 2, g := none, op := AOp.mv (Opd.c (V.int IntKind.i64 0)) },
   { dst := some 3, g := none, op := AOp.mv (Opd.c (V.int IntKind.i64 0)) },
   { dst := some 4, g := none, op := AOp.mv (Opd.c (V.int IntKind.i64 11)) }]
def c32 : AC := (AC.seq (AC.region c32r0) (AC.seq (AC.region c32r1) (AC.seq (AC.seq (AC.region c32r2) (AC.block 0 (AC.loop c32l0))) (AC.seq (AC.region c32r13) AC.ret))))
def r32 : List ARes := [ARes.tmp 2, ARes.tmp 3, ARes.tmp 4]
theorem c32_ok : Try.f32.body.bind (cCode Try.prog Try.f32.ntmps) = some c32 := by kernel_rfl
theorem r32_ok : Try.f32.results.toList.mapM (cRes Try.prog Try.f32.ntmps) = some r32 := by kernel_rfl
def c33r0 : List AOper :=
  [{ dst := some 1, g := none, op := AOp.box (Opd.t 0) },
   { dst := some 2, g := none, op := AOp.alloc [V.int IntKind.i64 0, V.int IntKind.i64 0, V.int IntKind.i64 0, V.str [], V.bool false, V.nils, V.str []] },
   { dst := some 3, g := none, op := AOp.mv (Opd.c (V.bool false)) }]
def c33r1 : List AOper :=
  [{ dst := some 14, g := none, op := AOp.fldA (Opd.t 1) 0 },
   { dst := some 15, g := none, op := AOp.load (Opd.t 14) none },
   { dst := some 16, g := none, op := AOp.lenS (Opd.t 15) },
   { dst := some 17, g := none, op := AOp.bin BinOp.neq (Opd.t 16) (Opd.c (V.int IntKind.i64 2)) },
   { dst := some 18, g := none, op := AOp.mv (Opd.t 17) },
   { dst := some 19, g := some (18, false), op := AOp.fldA (Opd.t 1) 0 },
   { dst := some 20, g := some (18, false), op := AOp.load (Opd.t 19) none },
   { dst := some 21, g := some (18, false), op := AOp.idxS (Opd.t 20) (Opd.c (V.int IntKind.i64 0)) },
   { dst := some 22, g := some (18, false), op := AOp.bin BinOp.neq (Opd.t 21) (Opd.c (V.int IntKind.u8 116)) },
   { dst := some 23, g := none, op := AOp.pick (Opd.t 18) (Opd.c (V.bool true)) (Opd.t 22) }]
def c33r2 : List AOper :=
  [{ dst := some 24, g := none, op := AOp.build [V.int IntKind.i64 0, V.int IntKind.i64 0, V.int IntKind.i64 0, V.str [], V.bool false, V.nils, V.str []] [] },
   { dst := none, g := none, op := AOp.store (Opd.t 2) (Opd.t 24) 7 },
   { dst := some 3, g := none, op := AOp.mv (Opd.c (V.bool false)) }]
def c33r3 : List AOper :=
  [{ dst := some 26, g := none, op := AOp.fldA (Opd.t 1) 1 },
   { dst := some 27, g := none, op := AOp.load (Opd.t 26) none },
   { dst := some 28, g := none, op := AOp.call (Opd.c (V.fn 41 [])) [Opd.t 27] },
   { dst := some 25, g := none, op := AOp.mv (Opd.t 28) },
   { dst := some 29, g := none, op := AOp.ext (Opd.t 25) 0 },
   { dst := some 30, g := none, op := AOp.ext (Opd.t 25) 1 },
   { dst := some 31, g := none, op := AOp.ext (Opd.t 25) 2 },
   { dst := some 4, g := none, op := AOp.mv (Opd.t 29) },
   { dst := some 5, g := none, op := AOp.mv (Opd.t 30) },
   { dst := some 6, g := none, op := AOp.mv (Opd.t 31) }]
def c33r4 : List AOper :=
  [{ dst := some 32, g := none, op := AOp.mv (Opd.t 6) },
   { dst := some 33, g := none, op := AOp.bin BinOp.neq (Opd.t 32) (Opd.c (V.int IntKind.i64 0)) }]
def c33r5 : List AOper :=
  [{ dst := some 34, g := none, op := AOp.build [V.int IntKind.i64 0, V.int IntKind.i64 0, V.int IntKind.i64 0, V.str [], V.bool false, V.nils, V.str []] [] },
   { dst := none, g := none, op := AOp.store (Opd.t 2) (Opd.t 34) 7 },
   { dst := some 3, g := none, op := AOp.mv (Opd.c (V.bool false)) }]
def c33r6 : List AOper :=
  [{ dst := some 36, g := none, op := AOp.fldA (Opd.t 1) 1 },
   { dst := some 37, g := none, op := AOp.load (Opd.t 36) none },
   { dst := some 38, g := none, op := AOp.mv (Opd.t 5) },
   { dst := some 39, g := none, op := AOp.slcS (Opd.t 37) (some (Opd.t 38)) none },
   { dst := some 40, g := none, op := AOp.call (Opd.c (V.fn 41 [])) [Opd.t 39] },
   { dst := some 35, g := none, op := AOp.mv (Opd.t 40) },
   { dst := some 41, g := none, op := AOp.ext (Opd.t 35) 0 },
   { dst := some 42, g := none, op := AOp.ext (Opd.t 35) 1 },
   { dst := some 43, g := none, op := AOp.ext (Opd.t 35) 2 },
   { dst := some 7, g := none, op := AOp.mv (Opd.t 41) },
   { dst := some 8, g := none, op := AOp.mv (Opd.t 42) },
   { dst := some 9, g := none, op := AOp.mv (Opd.t 43) }]
def c33r7 : List AOper :=
  [{ dst := some 44, g := none, op := AOp.mv (Opd.t 9) },
   { dst := some 45, g := none, op := AOp.bin BinOp.neq (Opd.t 44) (Opd.c (V.int IntKind.i64 0)) },
   { dst := some 46, g := none, op := AOp.mv (Opd.t 45) },
   { dst := some 47, g := some (46, false), op := AOp.mv (Opd.t 7) },
   { dst := some 48, g := some (46, false), op := AOp.bin BinOp.gtr (Opd.t 47) (Opd.c (V.int IntKind.i64 999)) },
   { dst := some 49, g := none, op := AOp.pick (Opd.t 46) (Opd.c (V.bool true)) (Opd.t 48) }]
def c33r8 : List AOper :=
  [{ dst := some 50, g := none, op := AOp.build [V.int IntKind.i64 0, V.int IntKind.i64 0, V.int IntKind.i64 0, V.str [], V.bool false, V.nils, V.str []] [] },
   { dst := none, g := none, op := AOp.store (Opd.t 2) (Opd.t 50) 7 },
   { dst := some 3, g := none, op := AOp.mv (Opd.c (V.bool false)) }]
def c33r9 : List AOper :=
  [{ dst := some 52, g := none, op := AOp.fldA (Opd.t 1) 1 },
   { dst := some 53, g := none, op := AOp.load (Opd.t 52) none },
   { dst := some 54, g := none, op := AOp.mv (Opd.t 5) },
   { dst := some 55, g := none, op := AOp.mv (Opd.t 8) },
   { dst := some 56, g := none, op := AOp.bin BinOp.add (Opd.t 54) (Opd.t 55) },
   { dst := some 57, g := none, op := AOp.slcS (Opd.t 53) (some (Opd.t 56)) none },
   { dst := some 58, g := none, op := AOp.call (Opd.c (V.fn 41 [])) [Opd.t 57] },
   { dst := some 51, g := none, op := AOp.mv (Opd.t 58) },
   { dst := some 59, g := none, op := AOp.ext (Opd.t 51) 0 },
   { dst := some 60, g := none, op := AOp.ext (Opd.t 51) 1 },
   { dst := some 61, g := none, op := AOp.ext (Opd.t 51) 2 },
   { dst := some 10, g := none, op := AOp.mv (Opd.t 59) },
   { dst := some 11, g := none, op := AOp.mv (Opd.t 60) },
   { dst := some 12, g := none, op := AOp.mv (Opd.t 61) }]
def c33r10 : List AOper :=
  [{ dst := some 62, g := none, op := AOp.fldA (Opd.t 1) 0 },
   { dst := some 63, g := none, op := AOp.load (Opd.t 62) none },
   { dst := some 64, g := none, op := AOp.idxS (Opd.t 63) (Opd.c (V.int IntKind.i64 1)) },
   { dst := some 65, g := none, op := AOp.convI IntKind.i64 (Opd.t 64) },
   { dst := some 66, g := none, op := AOp.bin BinOp.sub (Opd.t 65) (Opd.c (V.int IntKind.i64 48)) },
   { dst := some 67, g := none, op := AOp.mv (Opd.t 4) },
   { dst := some 68, g := none, op := AOp.mv (Opd.t 7) },
   { dst := some 69, g := none, op := AOp.mv (Opd.t 10) },
   { dst := some 70, g := none, op := AOp.bin BinOp.eql (Opd.t 69) (Opd.c (V.int IntKind.i64 1)) },
   { dst := some 71, g := none, op := AOp.build [V.int IntKind.i64 0, V.str [], V.bool false, V.nils, V.str []] [(0, 1, Opd.t 68), (2, 1, Opd.t 70)] },
   { dst := some 72, g := none, op := AOp.build [V.int IntKind.i64 0, V.int IntKind.i64 0, V.int IntKind.i64 0, V.str [], V.bool false, V.nils, V.str []] [(0, 1, Opd.t 66), (1, 1, Opd.t 67), (2, 5, Opd.t 71)] },
   { dst := some 13, g := none, op := AOp.alloc [V.int IntKind.i64 0, V.int IntKind.i64 0, V.int IntKind.i64 0, V.str [], V.bool false, V.nils, V.str []] },
   { dst := none, g := none, op := AOp.store (Opd.t 13) (Opd.t 72) 7 }]
def c33d0 : List (AOper × List Nat) :=
  [({ dst := some 73, g := none, op := AOp.load (Opd.t 13) (some 7) }, []),
   ({ dst := some 74, g := none, op := AOp.mv (Opd.t 12) }, []),
   ({ dst := some 75, g := none, op := AOp.bin BinOp.eql (Opd.t 74) (Opd.c (V.int IntKind.i64 0)) }, [1]),
   ({ dst := some 76, g := none, op := AOp.mv (Opd.t 75) }, [2]),
   ({ dst := some 77, g := some (76, true), op := AOp.mv (Opd.t 5) }, [3]),
   ({ dst := some 78, g := some (76, true), op := AOp.mv (Opd.t 8) }, [3]),
   ({ dst := some 79, g := some (76, true), op := AOp.bin BinOp.add (Opd.t 77) (Opd.t 78) }, [4, 5, 3]),
   ({ dst := some 80, g := some (76, true), op := AOp.mv (Opd.t 11) }, [3]),
   ({ dst := some 81, g := some (76, true), op := AOp.bin BinOp.add (Opd.t 79) (Opd.t 80) }, [6, 7, 3]),
   ({ dst := some 82, g := some (76, true), op := AOp.fldA (Opd.t 1) 1 }, [3]),
   ({ dst := some 83, g := some (76, true), op := AOp.load (Opd.t 82) none }, [9, 3]),
   ({ dst := some 84, g := some (76, true), op := AOp.lenS (Opd.t 83) }, [10, 3]),
   ({ dst := some 85, g := some (76, true), op := AOp.bin BinOp.eql (Opd.t 81) (Opd.t 84) }, [8, 11, 3]),
   ({ dst := some 86, g := none, op := AOp.pick (Opd.t 76) (Opd.t 85) (Opd.c (V.bool false)) }, [3, 12]),
   ({ dst := some 87, g := none, op := AOp.mv (Opd.t 86) }, [13, 3]),
   ({ dst := some 88, g := some (87, true), op := AOp.mv (Opd.t 10) }, [14]),
   ({ dst := some 89, g := some (87, true), op := AOp.bin BinOp.leq (Opd.t 88) (Opd.c (V.int IntKind.i64 1)) }, [15, 14]),
   ({ dst := some 90, g := none, op := AOp.pick (Opd.t 87) (Opd.t 89) (Opd.c (V.bool false)) }, [14, 16]),
   ({ dst := some 91, g := none, op := AOp.mv (Opd.t 90) }, [17, 14]),
   ({ dst := some 92, g := some (91, true), op := AOp.load (Opd.t 13) (some 7) }, [18]),
   ({ dst := some 93, g := some (91, true), op := AOp.call (Opd.c (V.fn 30 [])) [Opd.t 92] }, [19, 18, 18]),
   ({ dst := some 94, g := none, op := AOp.pick (Opd.t 91) (Opd.t 93) (Opd.c (V.bool false)) }, [18, 20]),
   ({ dst := none, g := none, op := AOp.store (Opd.t 2) (Opd.t 73) 7 }, [0, 20, 0]),
   ({ dst := some 3, g := none, op := AOp.mv (Opd.t 94) }, [21, 22, 0, 1, 2, 3, 4, 5, 6, 7, 8, 9, 10, 11, 12, 13, 14, 15, 16, 17, 18, 19, 20, 21, 22])]
def c33 : AC := (AC.seq (AC.region c33r0) (AC.seq (AC.seq (AC.region c33r1) (AC.cond (Opd.t 23) (AC.seq (AC.region c33r2) AC.ret) AC.skip)) (AC.seq (AC.region c33r3) (AC.seq (AC.seq (AC.region c33r4) (AC.cond (Opd.t 33) (AC.seq (AC.region c33r5) AC.ret) AC.skip)) (AC.seq (AC.region c33r6) (AC.seq (AC.seq (AC.region c33r7) (AC.cond (Opd.t 49) (AC.seq (AC.region c33r8) AC.ret) AC.skip)) (AC.seq (AC.region c33r9) (AC.seq (AC.region c33r10) (AC.seq (AC.drawn c33d0) AC.ret)))))))))
def r33 : List ARes := [ARes.cell 2 (some 7), ARes.tmp 3]
theorem c33_ok : Try.f33.body.bind (cCode Try.prog Try.f33.ntmps) = some c33 := by kernel_rfl
theorem r33_ok : Try.f33.results.toList.mapM (cRes Try.prog Try.f33.ntmps) = some r33 := by kernel_rfl
def c34r0 : List AOper :=
  [{ dst := some 2, g := none, op := AOp.mv (Opd.c (V.str [])) },
   { dst := some 3, g := none, op := AOp.mv (Opd.c (V.int IntKind.i64 0)) }]
def c34r1 : List AOper :=
  [{ dst := some 5, g := none, op := AOp.mv (Opd.t 0) },
   { dst := some 6, g := none, op := AOp.bin BinOp.lss (Opd.t 5) (Opd.c (V.int IntKind.i64 0)) },
   { dst := some 7, g := none, op := AOp.mv (Opd.t 6) },
   { dst := some 8, g := some (7, false), op := AOp.mv (Opd.t 0) },
   { dst := some 9, g := some (7, false), op := AOp.bin BinOp.gtr (Opd.t 8) (Opd.c (V.int IntKind.i64 4611686018427387904)) },
   { dst := some 10, g := none, op := AOp.pick (Opd.t 7) (Opd.c (V.bool true)) (Opd.t 9) }]
def c34r2 : List AOper :=
  [{ dst := some 2, g := none, op := AOp.mv (Opd.c (V.str [])) },
   { dst := some 3, g := none, op := AOp.mv (Opd.c (V.int IntKind.i64 1)) }]
def c34r3 : List AOper :=
  [{ dst := some 4, g := none, op := AOp.mv (Opd.c V.nils) }]
def c34r4 : List AOper :=
  [{ dst := some 11, g := none, op := AOp.mv (Opd.t 0) },
   { dst := some 12, g := none, op := AOp.bin BinOp.geq (Opd.t 11) (Opd.c (V.int IntKind.i64 128)) }]
def c34r5 : List AOper :=
  [{ dst := some 15, g := none, op := AOp.mv (Opd.t 4) },
   { dst := some 16, g := none, op := AOp.mv (Opd.t 0) },
   { dst := some 17, g := none, op := AOp.convI IntKind.u8 (Opd.t 16) },
   { dst := some 18, g := none, op := AOp.bin BinOp.or (Opd.t 17) (Opd.c (V.int IntKind.u8 128)) },
   { dst := some 19, g := none, op := AOp.bslice 1 1 [V.int IntKind.u8 0] [(0, Opd.t 18)] },
   { dst := some 20, g := none, op := AOp.append (Opd.t 15) (Opd.t 19) 1 1 false },
   { dst := some 4, g := none, op := AOp.mv (Opd.t 20) }]
def c34r6 : List AOper :=
  [{ dst := some 13, g := none, op := AOp.mv (Opd.t 0) },
   { dst := some 14, g := none, op := AOp.bin BinOp.shr (Opd.t 13) (Opd.c (V.int IntKind.u64 7)) },
   { dst := some 0, g := none, op := AOp.mv (Opd.t 14) }]
def c34l0 : AC := (AC.seq (AC.seq (AC.region c34r4) (AC.cond (Opd.t 12) AC.skip (AC.exit 0))) (AC.seq (AC.block 1 (AC.region c34r5)) (AC.region c34r6)))
def c34r7 : List AOper :=
  [{ dst := some 21, g := none, op := AOp.mv (Opd.t 4) },
   { dst := some 22, g := none, op := AOp.mv (Opd.t 0) },
   { dst := some 23, g := none, op := AOp.convI IntKind.u8 (Opd.t 22) },
   { dst := some 24, g := none, op := AOp.bslice 1 1 [V.int IntKind.u8 0] [(0, Opd.t 23)] },
   { dst := some 25, g := none, op := AOp.append (Opd.t 21) (Opd.t 24) 1 1 false },
   { dst := some 26, g := none, op := AOp.b2s (Opd.t 25) },
   { dst := some 2, g := none, op := AOp.mv (Opd.t 26) },
   { dst := some 3, g := none, op := AOp.mv (Opd.c (V.int IntKind.i64 0)) }]
def c34 : AC := (AC.seq (AC.region c34r0) (AC.seq (AC.seq (AC.region c34r1) (AC.cond (Opd.t 10) (AC.seq (AC.region c34r2) AC.ret) AC.skip)) (AC.seq (AC.region c34r3) (AC.seq (AC.block 0 (AC.loop c34l0)) (AC.seq (AC.region c34r7) AC.ret)))))
def r34 : List ARes := [ARes.tmp 2, ARes.tmp 3]
theorem c34_ok : Try.f34.body.bind (cCode Try.prog Try.f34.ntmps) = some c34 := by kernel_rfl
theorem r34_ok : Try.f34.results.toList.mapM (cRes Try.prog Try.f34.ntmps) = some r34 := by kernel_rfl
def c35r0 : List AOper :=
  [{ dst := some 4, g := none, op := AOp.mv (Opd.c (V.int IntKind.i64 0)) },
   { dst := some 5, g := none, op := AOp.mv (Opd.c V.any) }]
def c35r1 : List AOper :=
  [{ dst := some 6, g := none, op := AOp.mv (Opd.t 0) },
   { dst := some 7, g := none, op := AOp.call (Opd.c (V.fn 42 [])) [Opd.t 6] }]
def c35r2 : List AOper :=
  [{ dst := some 8, g := none, op := AOp.mv (Opd.t 0) },
   { dst := some 9, g := none, op := AOp.mv (Opd.t 0) },
   { dst := some 10, g := none, op := AOp.nilck (Opd.t 9) },
   { dst := some 11, g := none, op := AOp.fldA (Opd.t 10) 1 },
   { dst := some 12, g := none, op := AOp.load (Opd.t 11) none },
   { dst := some 13, g := none, op := AOp.mv (Opd.t 1) },
   { dst := some 14, g := none, op := AOp.appendB (Opd.t 12) (Opd.t 13) 1 5 },
   { dst := some 15, g := none, op := AOp.nilck (Opd.t 8) },
   { dst := some 16, g := none, op := AOp.fldA (Opd.t 15) 1 },
   { dst := none, g := none, op := AOp.store (Opd.t 16) (Opd.t 14) 1 }]
def c35r3 : List AOper :=
  [{ dst := some 17, g := none, op := AOp.mv (Opd.t 1) },
   { dst := some 18, g := none, op := AOp.lenS (Opd.t 17) },
   { dst := some 4, g := none, op := AOp.mv (Opd.t 18) },
   { dst := some 5, g := none, op := AOp.mv (Opd.c V.any) }]
def c35 : AC := (AC.seq (AC.region c35r0) (AC.seq (AC.region c35r1) (AC.seq (AC.region c35r2) (AC.seq (AC.region c35r3) AC.ret))))
def r35 : List ARes := [ARes.tmp 4, ARes.tmp 5]
theorem c35_ok : Try.f35.body.bind (cCode Try.prog Try.f35.ntmps) = some c35 := by kernel_rfl
theorem r35_ok : Try.f35.results.toList.mapM (cRes Try.prog Try.f35.ntmps) = some r35 := by kernel_rfl
def c36r0 : List AOper :=
  [{ dst := some 2, g := none, op := AOp.mv (Opd.c (V.str [])) }]
def c36d0 : List (AOper × List Nat) :=
  [({ dst := some 3, g := none, op := AOp.mv (Opd.t 0) }, []),
   ({ dst := some 4, g := none, op := AOp.nilck (Opd.t 3) }, [0]),
   ({ dst := some 5, g := none, op := AOp.fldA (Opd.t 4) 1 }, [1]),
   ({ dst := some 6, g := none, op := AOp.load (Opd.t 5) none }, [2]),
   ({ dst := some 7, g := none, op := AOp.usd (Opd.t 6) }, [3]),
   ({ dst := some 8, g := none, op := AOp.mv (Opd.t 0) }, []),
   ({ dst := some 9, g := none, op := AOp.nilck (Opd.t 8) }, [5]),
   ({ dst := some 10, g := none, op := AOp.fldA (Opd.t 9) 1 }, [6]),
   ({ dst := some 11, g := none, op := AOp.load (Opd.t 10) none }, [7]),
   ({ dst := some 12, g := none, op := AOp.lenL (Opd.t 11) }, [8]),
   ({ dst := some 13, g := none, op := AOp.ustr (Opd.t 7) (Opd.t 12) 5 }, [4, 9]),
   ({ dst := some 2, g := none, op := AOp.mv (Opd.t 13) }, [10, 0, 1, 2, 3, 4, 5, 6, 7, 8, 9, 10])]
def c36 : AC := (AC.seq (AC.region c36r0) (AC.seq (AC.drawn c36d0) AC.ret))
def r36 : List ARes := [ARes.tmp 2]
theorem c36_ok : Try.f36.body.bind (cCode Try.prog Try.f36.ntmps) = some c36 := by kernel_rfl
theorem r36_ok : Try.f36.results.toList.mapM (cRes Try.prog Try.f36.ntmps) = some r36 := by kernel_rfl
def c37r0 : List AOper :=
  [{ dst := some 2, g := none, op := AOp.mv (Opd.c (V.str [])) }]
def c37r1 : List AOper :=
  [{ dst := some 6, g := none, op := AOp.mv (Opd.t 0) },
   { dst := some 7, g := none, op := AOp.call (Opd.c (V.fn 43 [])) [Opd.t 6] },
   { dst := some 5, g := none, op := AOp.mv (Opd.t 7) },
   { dst := some 8, g := none, op := AOp.ext (Opd.t 5) 0 },
   { dst := some 9, g := none, op := AOp.ext (Opd.t 5) 1 },
   { dst := some 3, g := none, op := AOp.mv (Opd.t 8) },
   { dst := some 4, g := none, op := AOp.mv (Opd.t 9) }]
def c37r2 : List AOper :=
  [{ dst := some 10, g := none, op := AOp.mv (Opd.t 3) },
   { dst := some 2, g := none, op := AOp.mv (Opd.t 10) }]
def c37 : AC := (AC.seq (AC.region c37r0) (AC.seq (AC.region c37r1) (AC.seq (AC.region c37r2) AC.ret)))
def r37 : List ARes := [ARes.tmp 2]
theorem c37_ok : Try.f37.body.bind (cCode Try.prog Try.f37.ntmps) = some c37 := by kernel_rfl
theorem r37_ok : Try.f37.results.toList.mapM (cRes Try.prog Try.f37.ntmps) = some r37 := by kernel_rfl
def c38r0 : List AOper :=
  [{ dst := some 4, g := none, op := AOp.mv (Opd.c V.nils) }]
def c38r1 : List AOper :=
  [{ dst := some 8, g := none, op := AOp.mv (Opd.t 0) },
   { dst := some 9, g := none, op := AOp.mv (Opd.t 1) },
   { dst := some 10, g := none, op := AOp.call (Opd.c (V.fn 44 [])) [Opd.t 8, Opd.t 9] },
   { dst := some 5, g := none, op := AOp.mv (Opd.t 10) }]
def c38r2 : List AOper :=
  [{ dst := some 11, g := none, op := AOp.mv (Opd.t 5) },
   { dst := some 12, g := none, op := AOp.bin BinOp.eql (Opd.t 11) (Opd.c (V.int IntKind.i64 (-1))) }]
def c38r3 : List AOper :=
  [{ dst := some 13, g := none, op := AOp.mv (Opd.t 0) },
   { dst := some 4, g := none, op := AOp.mv (Opd.t 13) }]
def c38r4 : List AOper :=
  [{ dst := some 14, g := none, op := AOp.mv (Opd.t 5) },
   { dst := some 15, g := none, op := AOp.bin BinOp.add (Opd.t 14) (Opd.c (V.int IntKind.i64 1)) },
   { dst := some 6, g := none, op := AOp.mv (Opd.t 15) }]
def c38r5 : List AOper :=
  [{ dst := some 16, g := none, op := AOp.mv (Opd.t 6) },
   { dst := some 17, g := none, op := AOp.mv (Opd.t 0) },
   { dst := some 18, g := none, op := AOp.lenL (Opd.t 17) },
   { dst := some 19, g := none, op := AOp.bin BinOp.lss (Opd.t 16) (Opd.t 18) }]
def c38r6 : List AOper :=
  [{ dst := some 22, g := none, op := AOp.mv (Opd.t 0) },
   { dst := some 23, g := none, op := AOp.mv (Opd.t 6) },
   { dst := some 24, g := none, op := AOp.idxA (Opd.t 22) (Opd.t 23) none 7 },
   { dst := some 25, g := none, op := AOp.load (Opd.t 24) (some 7) },
   { dst := some 7, g := none, op := AOp.alloc [V.int IntKind.i64 0, V.int IntKind.i64 0, V.int IntKind.i64 0, V.str [], V.bool false, V.nils, V.str []] },
   { dst := none, g := none, op := AOp.store (Opd.t 7) (Opd.t 25) 7 }]
def c38r7 : List AOper :=
  [{ dst := some 26, g := none, op := AOp.mv (Opd.t 1) },
   { dst := some 27, g := none, op := AOp.load (Opd.t 7) (some 7) },
   { dst := some 28, g := none, op := AOp.call (Opd.t 26) [Opd.t 27] },
   { dst := some 29, g := none, op := AOp.un UnOp.not (Opd.t 28) }]
def c38r8 : List AOper :=
  [{ dst := some 30, g := none, op := AOp.mv (Opd.t 0) },
   { dst := some 31, g := none, op := AOp.mv (Opd.t 5) },
   { dst := some 32, g := none, op := AOp.load (Opd.t 7) (some 7) },
   { dst := some 33, g := none, op := AOp.idxA (Opd.t 30) (Opd.t 31) none 7 },
   { dst := none, g := none, op := AOp.store (Opd.t 33) (Opd.t 32) 7 }]
def c38r9 : List AOper :=
  [{ dst := some 34, g := none, op := AOp.mv (Opd.t 5) },
   { dst := some 35, g := none, op := AOp.bin BinOp.add (Opd.t 34) (Opd.c (V.int IntKind.i64 1)) },
   { dst := some 5, g := none, op := AOp.mv (Opd.t 35) }]
def c38r10 : List AOper :=
  [{ dst := some 20, g := none, op := AOp.mv (Opd.t 6) },
   { dst := some 21, g := none, op := AOp.bin BinOp.add (Opd.t 20) (Opd.c (V.int IntKind.i64 1)) },
   { dst := some 6, g := none, op := AOp.mv (Opd.t 21) }]
def c38l0 : AC := (AC.seq (AC.seq (AC.region c38r5) (AC.cond (Opd.t 19) AC.skip (AC.exit 0))) (AC.seq (AC.block 1 (AC.seq (AC.region c38r6) (AC.seq (AC.region c38r7) (AC.cond (Opd.t 29) (AC.seq (AC.region c38r8) (AC.region c38r9)) AC.skip)))) (AC.region c38r10)))
def c38r11 : List AOper :=
  [{ dst := some 36, g := none, op := AOp.mv (Opd.t 0) },
   { dst := some 37, g := none, op := AOp.mv (Opd.t 5) },
   { dst := some 38, g := none, op := AOp.slc (Opd.t 36) (some (Opd.t 37)) none none 7 },
   { dst := none, g := none, op := AOp.clear (Opd.t 38) [V.int IntKind.i64 0, V.int IntKind.i64 0, V.int IntKind.i64 0, V.str [], V.bool false, V.nils, V.str []] }]
def c38r12 : List AOper :=
  [{ dst := some 39, g := none, op := AOp.mv (Opd.t 0) },
   { dst := some 40, g := none, op := AOp.mv (Opd.t 5) },
   { dst := some 41, g := none, op := AOp.slc (Opd.t 39) none (some (Opd.t 40)) none 7 },
   { dst := some 4, g := none, op := AOp.mv (Opd.t 41) }]
def c38 : AC := (AC.seq (AC.region c38r0) (AC.seq (AC.region c38r1) (AC.seq (AC.seq (AC.region c38r2) (AC.cond (Opd.t 12) (AC.seq (AC.region c38r3) AC.ret) AC.skip)) (AC.seq (AC.seq (AC.region c38r4) (AC.block 0 (AC.loop c38l0))) (AC.seq (AC.region c38r11) (AC.seq (AC.region c38r12) AC.ret))))))
def r38 : List ARes := [ARes.tmp 4]
theorem c38_ok : Try.f38.body.bind (cCode Try.prog Try.f38.ntmps) = some c38 := by kernel_rfl
theorem r38_ok : Try.f38.results.toList.mapM (cRes Try.prog Try.f38.ntmps) = some r38 := by kernel_rfl
def c39r0 : List AOper :=
  [{ dst := some 2, g := none, op := AOp.mv (Opd.c V.nils) }]
def c39r1 : List AOper :=
  [{ dst := some 3, g := none, op := AOp.mv (Opd.t 0) },
   { dst := some 4, g := none, op := AOp.eq false 2 (Opd.t 3) (Opd.c V.nils) }]
def c39r2 : List AOper :=
  [{ dst := some 2, g := none, op := AOp.mv (Opd.c V.nils) }]
def c39r3 : List AOper :=
  [{ dst := some 5, g := none, op := AOp.bslice 0 7 [V.int IntKind.i64 0, V.int IntKind.i64 0, V.int IntKind.i64 0, V.str [], V.bool false, V.nils, V.str []] [] },
   { dst := some 6, g := none, op := AOp.mv (Opd.t 0) },
   { dst := some 7, g := none, op := AOp.append (Opd.t 5) (Opd.t 6) 7 88 false },
   { dst := some 2, g := none, op := AOp.mv (Opd.t 7) }]
def c39 : AC := (AC.seq (AC.region c39r0) (AC.seq (AC.seq (AC.region c39r1) (AC.cond (Opd.t 4) (AC.seq (AC.region c39r2) AC.ret) AC.skip)) (AC.seq (AC.region c39r3) AC.ret)))
def r39 : List ARes := [ARes.tmp 2]
theorem c39_ok : Try.f39.body.bind (cCode Try.prog Try.f39.ntmps) = some c39 := by kernel_rfl
theorem r39_ok : Try.f39.results.toList.mapM (cRes Try.prog Try.f39.ntmps) = some r39 := by kernel_rfl
def c40r0 : List AOper :=
  [{ dst := some 1, g := none, op := AOp.box (Opd.t 0) },
   { dst := some 2, g := none, op := AOp.mv (Opd.c (V.bool false)) }]
def c40r1 : List AOper :=
  [{ dst := some 3, g := none, op := AOp.fldA (Opd.t 1) 1 },
   { dst := some 4, g := none, op := AOp.load (Opd.t 3) none },
   { dst := some 5, g := none, op := AOp.bin BinOp.eql (Opd.t 4) (Opd.c (V.int IntKind.i64 0)) },
   { dst := some 2, g := none, op := AOp.mv (Opd.t 5) }]
def c40 : AC := (AC.seq (AC.region c40r0) (AC.seq (AC.region c40r1) AC.ret))
def r40 : List ARes := [ARes.tmp 2]
theorem c40_ok : Try.f40.body.bind (cCode Try.prog Try.f40.ntmps) = some c40 := by kernel_rfl
theorem r40_ok : Try.f40.results.toList.mapM (cRes Try.prog Try.f40.ntmps) = some r40 := by kernel_rfl
def c41r0 : List AOper :=
  [{ dst := some 2, g := none, op := AOp.mv (Opd.c (V.int IntKind.i64 0)) },
   { dst := some 3, g := none, op := AOp.mv (Opd.c (V.int IntKind.i64 0)) },
   { dst := some 4, g := none, op := AOp.mv (Opd.c (V.int IntKind.i64 0)) }]
def c41r1 : List AOper :=
  [{ dst := some 5, g := none, op := AOp.mv (Opd.c (V.int IntKind.i64 0)) }]
def c41r2 : List AOper :=
  [{ dst := some 6, g := none, op := AOp.mv (Opd.c (V.int IntKind.i64 0)) }]
def c41r3 : List AOper :=
  [{ dst := some 7, g := none, op := AOp.mv (Opd.t 6) },
   { dst := some 8, g := none, op := AOp.bin BinOp.lss (Opd.t 7) (Opd.c (V.int IntKind.i64 9)) }]
def c41r4 : List AOper :=
  [{ dst := some 11, g := none, op := AOp.mv (Opd.t 6) },
   { dst := some 12, g := none, op := AOp.mv (Opd.t 0) },
   { dst := some 13, g := none, op := AOp.lenS (Opd.t 12) },
   { dst := some 14, g := none, op := AOp.bin BinOp.geq (Opd.t 11) (Opd.t 13) }]
def c41r5 : List AOper :=
  [{ dst := some 2, g := none, op := AOp.mv (Opd.c (V.int IntKind.i64 0)) },
   { dst := some 3, g := none, op := AOp.mv (Opd.c (V.int IntKind.i64 0)) },
   { dst := some 4, g := none, op := AOp.mv (Opd.c (V.int IntKind.i64 10)) }]
def c41r6 : List AOper :=
  [{ dst := some 15, g := none, op := AOp.mv (Opd.t 5) },
   { dst := some 16, g := none, op := AOp.mv (Opd.t 0) },
   { dst := some 17, g := none, op := AOp.mv (Opd.t 6) },
   { dst := some 18, g := none, op := AOp.idxS (Opd.t 16) (Opd.t 17) },
   { dst := some 19, g := none, op := AOp.bin BinOp.and (Opd.t 18) (Opd.c (V.int IntKind.u8 127)) },
   { dst := some 20, g := none, op := AOp.convI IntKind.i64 (Opd.t 19) },
   { dst := some 21, g := none, op := AOp.mv (Opd.t 6) },
   { dst := some 22, g := none, op := AOp.bin BinOp.mul (Opd.c (V.int IntKind.i64 7)) (Opd.t 21) },
   { dst := some 23, g := none, op := AOp.bin BinOp.shl (Opd.t 20) (Opd.t 22) },
   { dst := some 24, g := none, op := AOp.bin BinOp.or (Opd.t 15) (Opd.t 23) },
   { dst := some 5, g := none, op := AOp.mv (Opd.t 24) }]
def c41r7 : List AOper :=
  [{ dst := some 25, g := none, op := AOp.mv (Opd.t 0) },
   { dst := some 26, g := none, op := AOp.mv (Opd.t 6) },
   { dst := some 27, g := none, op := AOp.idxS (Opd.t 25) (Opd.t 26) },
   { dst := some 28, g := none, op := AOp.bin BinOp.lss (Opd.t 27) (Opd.c (V.int IntKind.u8 128)) }]
def c41r8 : List AOper :=
  [{ dst := some 29, g := none, op := AOp.mv (Opd.t 0) },
   { dst := some 30, g := none, op := AOp.mv (Opd.t 6) },
   { dst := some 31, g := none, op := AOp.idxS (Opd.t 29) (Opd.t 30) },
   { dst := some 32, g := none, op := AOp.bin BinOp.eql (Opd.t 31) (Opd.c (V.int IntKind.u8 0)) },
   { dst := some 33, g := none, op := AOp.mv (Opd.t 32) },
   { dst := some 34, g := some (33, true), op := AOp.mv (Opd.t 6) },
   { dst := some 35, g := some (33, true), op := AOp.bin BinOp.gtr (Opd.t 34) (Opd.c (V.int IntKind.i64 0)) },
   { dst := some 36, g := none, op := AOp.pick (Opd.t 33) (Opd.t 35) (Opd.c (V.bool false)) },
   { dst := some 37, g := none, op := AOp.mv (Opd.t 36) },
   { dst := some 38, g := some (37, false), op := AOp.mv (Opd.t 5) },
   { dst := some 39, g := some (37, false), op := AOp.bin BinOp.lss (Opd.t 38) (Opd.c (V.int IntKind.i64 0)) },
   { dst := some 40, g := none, op := AOp.pick (Opd.t 37) (Opd.c (V.bool true)) (Opd.t 39) },
   { dst := some 41, g := none, op := AOp.mv (Opd.t 40) },
   { dst := some 42, g := some (41, false), op := AOp.mv (Opd.t 5) },
   { dst := some 43, g := some (41, false), op := AOp.bin BinOp.gtr (Opd.t 42) (Opd.c (V.int IntKind.i64 4611686018427387904)) },
   { dst := some 44, g := none, op := AOp.pick (Opd.t 41) (Opd.c (V.bool true)) (Opd.t 43) }]
def c41r9 : List AOper :=
  [{ dst := some 2, g := none, op := AOp.mv (Opd.c (V.int IntKind.i64 0)) },
   { dst := some 3, g := none, op := AOp.mv (Opd.c (V.int IntKind.i64 0)) },
   { dst := some 4, g := none, op := AOp.mv (Opd.c (V.int IntKind.i64 11)) }]
def c41r10 : List AOper :=
  [{ dst := some 45, g := none, op := AOp.mv (Opd.t 5) },
   { dst := some 46, g := none, op := AOp.mv (Opd.t 6) },
   { dst := some 47, g := none, op := AOp.bin BinOp.add (Opd.t 46) (Opd.c (V.int IntKind.i64 1)) },
   { dst := some 2, g := none, op := AOp.mv (Opd.t 45) },
   { dst := some 3, g := none, op := AOp.mv (Opd.t 47) },
   { dst := some 4, g := none, op := AOp.mv (Opd.c (V.int IntKind.i64 0)) }]
def c41r11 : List AOper :=
  [{ dst := some 9, g := none, op := AOp.mv (Opd.t 6) },
   { dst := some 10, g := none, op := AOp.bin BinOp.add (Opd.t 9) (Opd.c (V.int IntKind.i64 1)) },
   { dst := some 6, g := none, op := AOp.mv (Opd.t 10) }]
def c41l0 : AC := (AC.seq (AC.seq (AC.region c41r3) (AC.cond (Opd.t 8) AC.skip (AC.exit 0))) (AC.seq (AC.block 1 (AC.seq (AC.seq (AC.region c41r4) (AC.cond (Opd.t 14) (AC.seq (AC.region c41r5) AC.ret) AC.skip)) (AC.seq (AC.region c41r6) (AC.seq (AC.region c41r7) (AC.cond (Opd.t 28) (AC.seq (AC.seq (AC.region c41r8) (AC.cond (Opd.t 44) (AC.seq (AC.region c41r9) AC.ret) AC.skip)) (AC.seq (AC.region c41r10) AC.ret)) AC.skip))))) (AC.region c41r11)))
def c41r12 : List AOper :=
  [{ dst := some 2, g := none, op := AOp.mv (Opd.c (V.int IntKind.i64 0)) },
   { dst := some 3, g := none, op := AOp.mv (Opd.c (V.int IntKind.i64 0)) },
   { dst := some 4, g := none, op := AOp.mv (Opd.c (V.int IntKind.i64 11)) }]
def c41 : AC := (AC.seq (AC.region c41r0) (AC.seq (AC.region c41r1) (AC.seq (AC.seq (AC.region c41r2) (AC.block 0 (AC.loop c41l0))) (AC.seq (AC.region c41r12) AC.ret))))
def r41 : List ARes := [ARes.tmp 2, ARes.tmp 3, ARes.tmp 4]
theorem c41_ok : Try.f41.body.bind (cCode Try.prog Try.f41.ntmps) = some c41 := by kernel_rfl
theorem r41_ok : Try.f41.results.toList.mapM (cRes Try.prog Try.f41.ntmps) = some r41 := by kernel_rfl
def c42r0 : List AOper :=
  [{ dst := some 2, g := none, op := AOp.mv (Opd.t 0) },
   { dst := some 3, g := none, op := AOp.nilck (Opd.t 2) },
   { dst := some 4, g := none, op := AOp.fldA (Opd.t 3) 0 },
   { dst := some 5, g := none, op := AOp.load (Opd.t 4) none },
   { dst := some 6, g := none, op := AOp.eq false 1 (Opd.t 5) (Opd.c V.nilp) }]
def c42r1 : List AOper :=
  [{ dst := some 7, g := none, op := AOp.mv (Opd.t 0) },
   { dst := some 8, g := none, op := AOp.mv (Opd.t 0) },
   { dst := some 9, g := none, op := AOp.cvU (Opd.t 8) },
   { dst := some 10, g := none, op := AOp.mv (Opd.t 9) },
   { dst := some 11, g := none, op := AOp.cvP (Opd.t 10) 68 2 },
   { dst := some 12, g := none, op := AOp.nilck (Opd.t 7) },
   { dst := some 13, g := none, op := AOp.fldA (Opd.t 12) 0 },
   { dst := none, g := none, op := AOp.store (Opd.t 13) (Opd.t 11) 1 }]
def c42r2 : List AOper :=
  [{ dst := some 14, g := none, op := AOp.mv (Opd.t 0) },
   { dst := some 15, g := none, op := AOp.nilck (Opd.t 14) },
   { dst := some 16, g := none, op := AOp.fldA (Opd.t 15) 0 },
   { dst := some 17, g := none, op := AOp.load (Opd.t 16) none },
   { dst := some 18, g := none, op := AOp.mv (Opd.t 0) },
   { dst := some 19, g := none, op := AOp.eq true 1 (Opd.t 17) (Opd.t 18) }]
def c42 : AC := (AC.seq (AC.region c42r0) (AC.cond (Opd.t 6) (AC.region c42r1) (AC.seq (AC.region c42r2) (AC.cond (Opd.t 19) AC.stop AC.skip))))
def r42 : List ARes := []
theorem c42_ok : Try.f42.body.bind (cCode Try.prog Try.f42.ntmps) = some c42 := by kernel_rfl
theorem r42_ok : Try.f42.results.toList.mapM (cRes Try.prog Try.f42.ntmps) = some r42 := by kernel_rfl
def c43r0 : List AOper :=
  [{ dst := some 2, g := none, op := AOp.mv (Opd.c (V.str [])) },
   { dst := some 3, g := none, op := AOp.mv (Opd.c (V.int IntKind.i64 0)) }]
def c43r1 : List AOper :=
  [{ dst := some 5, g := none, op := AOp.mv (Opd.t 0) },
   { dst := some 6, g := none, op := AOp.bin BinOp.lss (Opd.t 5) (Opd.c (V.int IntKind.i64 0)) },
   { dst := some 7, g := none, op := AOp.mv (Opd.t 6) },
   { dst := some 8, g := some (7, false), op := AOp.mv (Opd.t 0) },
   { dst := some 9, g := some (7, false), op := AOp.bin BinOp.gtr (Opd.t 8) (Opd.c (V.int IntKind.i64 4611686018427387904)) },
   { dst := some 10, g := none, op := AOp.pick (Opd.t 7) (Opd.c (V.bool true)) (Opd.t 9) }]
def c43r2 : List AOper :=
  [{ dst := some 2, g := none, op := AOp.mv (Opd.c (V.str [])) },
   { dst := some 3, g := none, op := AOp.mv (Opd.c (V.int IntKind.i64 1)) }]
def c43r3 : List AOper :=
  [{ dst := some 4, g := none, op := AOp.mv (Opd.c V.nils) }]
def c43r4 : List AOper :=
  [{ dst := some 11, g := none, op := AOp.mv (Opd.t 0) },
   { dst := some 12, g := none, op := AOp.bin BinOp.gtr (Opd.t 11) (Opd.c (V.int IntKind.i64 127)) }]
def c43r5 : List AOper :=
  [{ dst := some 13, g := none, op := AOp.mv (Opd.t 4) },
   { dst := some 14, g := none, op := AOp.mv (Opd.t 0) },
   { dst := some 15, g := none, op := AOp.bin BinOp.and (Opd.t 14) (Opd.c (V.int IntKind.i64 127)) },
   { dst := some 16, g := none, op := AOp.bin BinOp.or (Opd.t 15) (Opd.c (V.int IntKind.i64 128)) },
   { dst := some 17, g := none, op := AOp.convI IntKind.u8 (Opd.t 16) },
   { dst := some 18, g := none, op := AOp.bslice 1 1 [V.int IntKind.u8 0] [(0, Opd.t 17)] },
   { dst := some 19, g := none, op := AOp.append (Opd.t 13) (Opd.t 18) 1 1 false },
   { dst := some 4, g := none, op := AOp.mv (Opd.t 19) }]
def c43r6 : List AOper :=
  [{ dst := some 20, g := none, op := AOp.mv (Opd.t 0) },
   { dst := some 21, g := none, op := AOp.bin BinOp.shr (Opd.t 20) (Opd.c (V.int IntKind.u64 7)) },
   { dst := some 0, g := none, op := AOp.mv (Opd.t 21) }]
def c43l0 : AC := (AC.seq (AC.seq (AC.region c43r4) (AC.cond (Opd.t 12) AC.skip (AC.exit 0))) (AC.block 1 (AC.seq (AC.region c43r5) (AC.region c43r6))))
def c43r7 : List AOper :=
  [{ dst := some 22, g := none, op := AOp.mv (Opd.t 4) },
   { dst := some 23, g := none, op := AOp.mv (Opd.t 0) },
   { dst := some 24, g := none, op := AOp.convI IntKind.u8 (Opd.t 23) },
   { dst := some 25, g := none, op := AOp.bslice 1 1 [V.int IntKind.u8 0] [(0, Opd.t 24)] },
   { dst := some 26, g := none, op := AOp.append (Opd.t 22) (Opd.t 25) 1 1 false },
   { dst := some 27, g := none, op := AOp.b2s (Opd.t 26) },
   { dst := some 2, g := none, op := AOp.mv (Opd.t 27) },
   { dst := some 3, g := none, op := AOp.mv (Opd.c (V.int IntKind.i64 0)) }]
def c43 : AC := (AC.seq (AC.region c43r0) (AC.seq (AC.seq (AC.region c43r1) (AC.cond (Opd.t 10) (AC.seq (AC.region c43r2) AC.ret) AC.skip)) (AC.seq (AC.region c43r3) (AC.seq (AC.block 0 (AC.loop c43l0)) (AC.seq (AC.region c43r7) AC.ret)))))
def r43 : List ARes := [ARes.tmp 2, ARes.tmp 3]
theorem c43_ok : Try.f43.body.bind (cCode Try.prog Try.f43.ntmps) = some c43 := by kernel_rfl
theorem r43_ok : Try.f43.results.toList.mapM (cRes Try.prog Try.f43.ntmps) = some r43 := by kernel_rfl
def c44r0 : List AOper :=
  [{ dst := some 4, g := none, op := AOp.mv (Opd.c (V.int IntKind.i64 0)) }]
def c44r1 : List AOper :=
  [{ dst := some 6, g := none, op := AOp.mv (Opd.t 0) },
   { dst := some 7, g := none, op := AOp.lenL (Opd.t 6) },
   { dst := some 8, g := none, op := AOp.mv (Opd.c (V.int IntKind.i64 0)) }]
def c44r2 : List AOper :=
  [{ dst := some 9, g := none, op := AOp.bin BinOp.lss (Opd.t 8) (Opd.t 7) }]
def c44r3 : List AOper :=
  [{ dst := some 10, g := none, op := AOp.mv (Opd.t 8) },
   { dst := some 5, g := none, op := AOp.mv (Opd.t 10) }]
def c44r4 : List AOper :=
  [{ dst := some 11, g := none, op := AOp.mv (Opd.t 1) },
   { dst := some 12, g := none, op := AOp.mv (Opd.t 0) },
   { dst := some 13, g := none, op := AOp.mv (Opd.t 5) },
   { dst := some 14, g := none, op := AOp.idxA (Opd.t 12) (Opd.t 13) none 7 },
   { dst := some 15, g := none, op := AOp.load (Opd.t 14) (some 7) },
   { dst := some 16, g := none, op := AOp.call (Opd.t 11) [Opd.t 15] }]
def c44r5 : List AOper :=
  [{ dst := some 17, g := none, op := AOp.mv (Opd.t 5) },
   { dst := some 4, g := none, op := AOp.mv (Opd.t 17) }]
def c44r6 : List AOper :=
  [{ dst := some 18, g := none, op := AOp.bin BinOp.add (Opd.t 8) (Opd.c (V.int IntKind.i64 1)) },
   { dst := some 8, g := none, op := AOp.mv (Opd.t 18) }]
def c44l0 : AC := (AC.seq (AC.region c44r2) (AC.seq (AC.cond (Opd.t 9) AC.skip (AC.exit 0)) (AC.seq (AC.block 1 (AC.seq (AC.region c44r3) (AC.seq (AC.region c44r4) (AC.cond (Opd.t 16) (AC.seq (AC.region c44r5) AC.ret) AC.skip)))) (AC.region c44r6))))
def c44r7 : List AOper :=
  [{ dst := some 4, g := none, op := AOp.mv (Opd.c (V.int IntKind.i64 (-1))) }]
def c44 : AC := (AC.seq (AC.region c44r0) (AC.seq (AC.seq (AC.region c44r1) (AC.block 0 (AC.loop c44l0))) (AC.seq (AC.region c44r7) AC.ret)))
def r44 : List ARes := [ARes.tmp 4]
theorem c44_ok : Try.f44.body.bind (cCode Try.prog Try.f44.ntmps) = some c44 := by kernel_rfl
theorem r44_ok : Try.f44.results.toList.mapM (cRes Try.prog Try.f44.ntmps) = some r44 := by kernel_rfl
end Go.Proofs.Yticecideodkcmaa
