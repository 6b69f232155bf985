/-
  The abstract code of some functions: written by a program (wip/tools/gen.py); held against the translation by Lean.
-/
import Derived.Test.YtkidkiapfjhkeaaGreatDoorProg
import Derived.Test.YtkidkiapfjhkeaaGreatDoorSx7
import Derived.KernelRfl
namespace Go.Proofs.YtkidkiapfjhkeaaGreatDoor
open Sx Go
set_option maxRecDepth 100000
def c3r0 : List AOper :=
 [⟨some 4, none, .box (.t 1)⟩,
 ⟨some 6, none, .mv (.c (.bool false))⟩]
def c3r1 : List AOper :=
 [⟨some 21, none, .call (.c (.fn 8 [])) []⟩,
 ⟨some 7, none, .mv (.t 21)⟩]
def c3r2 : List AOper :=
 [⟨some 23, none, .mv (.t 7)⟩,
 ⟨some 24, none, .call (.c (.fn 9 [])) [.t 23, .c (.int .i64 0)]⟩,
 ⟨some 22, none, .mv (.t 24)⟩,
 ⟨some 25, none, .ext (.t 22) 0⟩,
 ⟨some 26, none, .ext (.t 22) 1⟩,
 ⟨some 8, none, .mv (.t 25)⟩,
 ⟨some 9, none, .mv (.t 26)⟩]
def c3r3 : List AOper :=
 [⟨some 27, none, .mv (.t 9)⟩,
 ⟨some 28, none, .bin .neq (.t 27) (.c (.int .i64 0))⟩,
 ⟨some 29, none, .mv (.t 28)⟩,
 ⟨some 30, some (29, false), .mv (.t 8)⟩,
 ⟨some 31, some (29, false), .eq false 1 (.t 30) (.c .nilp)⟩,
 ⟨some 32, none, .pick (.t 29) (.c (.bool true)) (.t 31)⟩,
 ⟨some 33, none, .mv (.t 32)⟩,
 ⟨some 34, some (33, false), .mv (.t 0)⟩,
 ⟨some 35, some (33, false), .lenL (.t 34)⟩,
 ⟨some 36, some (33, false), .bin .gtr (.t 35) (.c (.int .i64 40))⟩,
 ⟨some 37, none, .pick (.t 33) (.c (.bool true)) (.t 36)⟩,
 ⟨some 38, none, .mv (.t 37)⟩,
 ⟨some 39, some (38, false), .mv (.t 2)⟩,
 ⟨some 40, some (38, false), .lenL (.t 39)⟩,
 ⟨some 41, some (38, false), .bin .gtr (.t 40) (.c (.int .i64 10))⟩,
 ⟨some 42, none, .pick (.t 38) (.c (.bool true)) (.t 41)⟩]
def c3r4 : List AOper :=
 [⟨some 43, none, .mv (.t 9)⟩,
 ⟨some 44, none, .bin .eql (.t 43) (.c (.int .i64 0))⟩,
 ⟨some 45, none, .mv (.t 44)⟩,
 ⟨some 46, some (45, true), .mv (.t 8)⟩,
 ⟨some 47, some (45, true), .eq true 1 (.t 46) (.c .nilp)⟩,
 ⟨some 48, none, .pick (.t 45) (.t 47) (.c (.bool false))⟩,
 ⟨some 49, none, .mv (.t 48)⟩,
 ⟨some 50, some (49, true), .call (.c (.fn 10 [])) []⟩,
 ⟨some 51, none, .pick (.t 49) (.t 50) (.c (.bool false))⟩,
 ⟨some 6, none, .mv (.t 51)⟩]
def c3r5 : List AOper :=
 [⟨some 10, none, .mv (.c (.int .i64 0))⟩]
def c3r6 : List AOper :=
 [⟨some 11, none, .mv (.c (.int .i64 0))⟩]
def c3r7 : List AOper :=
 [⟨some 52, none, .mv (.t 11)⟩,
 ⟨some 53, none, .mv (.t 0)⟩,
 ⟨some 54, none, .lenL (.t 53)⟩,
 ⟨some 55, none, .bin .lss (.t 52) (.t 54)⟩]
def c3r8 : List AOper :=
 [⟨some 58, none, .mv (.t 0)⟩,
 ⟨some 59, none, .mv (.t 11)⟩,
 ⟨some 60, none, .idxA (.t 58) (.t 59) none 1⟩,
 ⟨some 61, none, .load (.t 60) none⟩,
 ⟨some 62, none, .lenS (.t 61)⟩,
 ⟨some 63, none, .bin .gtr (.t 62) (.c (.int .i64 100))⟩]
def c3r9 : List AOper :=
 [⟨some 64, none, .call (.c (.fn 10 [])) []⟩,
 ⟨some 6, none, .mv (.t 64)⟩]
def c3r10 : List AOper :=
 [⟨some 65, none, .mv (.t 8)⟩,
 ⟨some 66, none, .mv (.t 0)⟩,
 ⟨some 67, none, .mv (.t 11)⟩,
 ⟨some 68, none, .idxA (.t 66) (.t 67) none 1⟩,
 ⟨some 69, none, .load (.t 68) none⟩,
 ⟨some 70, none, .call (.c (.fn 11 [])) [.t 65, .t 69]⟩,
 ⟨some 71, none, .bin .neq (.t 70) (.c (.int .i64 0))⟩]
def c3r11 : List AOper :=
 [⟨some 6, none, .mv (.c (.bool false))⟩]
def c3r12 : List AOper :=
 [⟨some 72, none, .idxA (.t 4) (.c (.int .i64 0)) (some 2) 1⟩,
 ⟨some 73, none, .load (.t 72) none⟩,
 ⟨some 74, none, .mv (.t 11)⟩,
 ⟨some 75, none, .bin .shr (.t 73) (.t 74)⟩,
 ⟨some 76, none, .bin .and (.t 75) (.c (.int .i64 1))⟩,
 ⟨some 77, none, .bin .eql (.t 76) (.c (.int .i64 1))⟩]
def c3r13 : List AOper :=
 [⟨some 78, none, .mv (.t 8)⟩,
 ⟨some 79, none, .call (.c (.fn 12 [])) [.t 78]⟩,
 ⟨some 80, none, .bin .neq (.t 79) (.c (.int .i64 0))⟩]
def c3r14 : List AOper :=
 [⟨some 6, none, .mv (.c (.bool false))⟩]
def c3r15 : List AOper :=
 [⟨some 81, none, .mv (.t 11)⟩,
 ⟨some 82, none, .bin .add (.t 81) (.c (.int .i64 1))⟩,
 ⟨some 10, none, .mv (.t 82)⟩]
def c3r16 : List AOper :=
 [⟨some 83, none, .idxA (.t 4) (.c (.int .i64 1)) (some 2) 1⟩,
 ⟨some 84, none, .load (.t 83) none⟩,
 ⟨some 85, none, .mv (.t 11)⟩,
 ⟨some 86, none, .bin .shr (.t 84) (.t 85)⟩,
 ⟨some 87, none, .bin .and (.t 86) (.c (.int .i64 1))⟩,
 ⟨some 88, none, .bin .eql (.t 87) (.c (.int .i64 1))⟩]
def c3r17 : List AOper :=
 [⟨some 90, none, .mv (.t 8)⟩,
 ⟨some 91, none, .call (.c (.fn 13 [])) [.t 90]⟩,
 ⟨some 89, none, .mv (.t 91)⟩,
 ⟨some 92, none, .ext (.t 89) 0⟩,
 ⟨some 93, none, .ext (.t 89) 1⟩,
 ⟨some 12, none, .mv (.t 92)⟩,
 ⟨some 13, none, .mv (.t 93)⟩]
def c3r18 : List AOper :=
 [⟨some 94, none, .mv (.t 13)⟩,
 ⟨some 95, none, .bin .neq (.t 94) (.c (.int .i64 0))⟩]
def c3r19 : List AOper :=
 [⟨some 6, none, .mv (.c (.bool false))⟩]
def c3r20 : List AOper :=
 [⟨some 96, none, .mv (.t 11)⟩,
 ⟨some 97, none, .bin .add (.t 96) (.c (.int .i64 1))⟩,
 ⟨some 10, none, .mv (.t 97)⟩]
def c3r21 : List AOper :=
 [⟨some 56, none, .mv (.t 11)⟩,
 ⟨some 57, none, .bin .add (.t 56) (.c (.int .i64 1))⟩,
 ⟨some 11, none, .mv (.t 57)⟩]
def c3l0 : AC := (.seq (.seq (.region c3r7) (.cond (.t 55) .skip (.exit 0))) (.seq (.block 1 (.seq (.seq (.region c3r8) (.cond (.t 63) (.seq (.region c3r9) .ret) .skip)) (.seq (.seq (.region c3r10) (.cond (.t 71) (.seq (.region c3r11) .ret) .skip)) (.seq (.seq (.region c3r12) (.cond (.t 77) (.seq (.seq (.region c3r13) (.cond (.t 80) (.seq (.region c3r14) .ret) .skip)) (.region c3r15)) .skip)) (.seq (.region c3r16) (.cond (.t 88) (.seq (.seq (.region c3r17) (.seq (.region c3r18) (.cond (.t 95) (.seq (.region c3r19) .ret) .skip))) (.region c3r20)) .skip)))))) (.region c3r21)))
def c3r22 : List AOper :=
 [⟨some 98, none, .mv (.t 7)⟩,
 ⟨some 99, none, .mv (.t 2)⟩,
 ⟨some 100, none, .call (.c (.fn 14 [])) [.t 98, .t 99]⟩,
 ⟨some 101, none, .bin .neq (.t 100) (.c (.int .i64 0))⟩]
def c3r23 : List AOper :=
 [⟨some 6, none, .mv (.c (.bool false))⟩]
def c3r24 : List AOper :=
 [⟨some 103, none, .mv (.t 7)⟩,
 ⟨some 104, none, .call (.c (.fn 9 [])) [.t 103, .c (.int .i64 0)]⟩,
 ⟨some 102, none, .mv (.t 104)⟩,
 ⟨some 105, none, .ext (.t 102) 0⟩,
 ⟨some 106, none, .ext (.t 102) 1⟩,
 ⟨some 14, none, .mv (.t 105)⟩,
 ⟨some 15, none, .mv (.t 106)⟩]
def c3r25 : List AOper :=
 [⟨some 107, none, .mv (.t 15)⟩,
 ⟨some 108, none, .bin .neq (.t 107) (.c (.int .i64 0))⟩,
 ⟨some 109, none, .mv (.t 108)⟩,
 ⟨some 110, some (109, false), .mv (.t 14)⟩,
 ⟨some 111, some (109, false), .eq false 1 (.t 110) (.c .nilp)⟩,
 ⟨some 112, none, .pick (.t 109) (.c (.bool true)) (.t 111)⟩]
def c3r26 : List AOper :=
 [⟨some 6, none, .mv (.c (.bool false))⟩]
def c3r27 : List AOper :=
 [⟨some 113, none, .mv (.t 14)⟩,
 ⟨some 114, none, .call (.c (.fn 15 [])) [.t 113]⟩,
 ⟨some 16, none, .mv (.t 114)⟩]
def c3r28 : List AOper :=
 [⟨some 115, none, .mv (.t 16)⟩,
 ⟨some 116, none, .lenL (.t 115)⟩,
 ⟨some 17, none, .mv (.t 116)⟩]
def c3r29 : List AOper :=
 [⟨some 117, none, .mv (.t 17)⟩,
 ⟨some 118, none, .mv (.t 10)⟩,
 ⟨some 119, none, .bin .lss (.t 117) (.t 118)⟩,
 ⟨some 120, none, .mv (.t 119)⟩,
 ⟨some 121, some (120, false), .mv (.t 17)⟩,
 ⟨some 122, some (120, false), .mv (.t 0)⟩,
 ⟨some 123, some (120, false), .lenL (.t 122)⟩,
 ⟨some 124, some (120, false), .bin .gtr (.t 121) (.t 123)⟩,
 ⟨some 125, none, .pick (.t 120) (.c (.bool true)) (.t 124)⟩,
 ⟨some 126, none, .mv (.t 125)⟩,
 ⟨some 127, some (126, false), .mv (.t 16)⟩,
 ⟨some 128, some (126, false), .mv (.t 0)⟩,
 ⟨some 129, some (126, false), .mv (.t 17)⟩,
 ⟨some 130, some (126, false), .slc (.t 128) none (some (.t 129)) none 1⟩,
 ⟨some 131, some (126, false), .call (.c (.fn 16 [])) [.t 127, .t 130]⟩,
 ⟨some 132, some (126, false), .un .not (.t 131)⟩,
 ⟨some 133, none, .pick (.t 126) (.c (.bool true)) (.t 132)⟩,
 ⟨some 134, none, .mv (.t 133)⟩,
 ⟨some 135, some (134, false), .mv (.t 14)⟩,
 ⟨some 136, some (134, false), .call (.c (.fn 11 [])) [.t 135, .c (.str [109, 111, 114, 101])]⟩,
 ⟨some 137, some (134, false), .bin .neq (.t 136) (.c (.int .i64 0))⟩,
 ⟨some 138, none, .pick (.t 134) (.c (.bool true)) (.t 137)⟩,
 ⟨some 139, none, .mv (.t 138)⟩,
 ⟨some 140, some (139, false), .mv (.t 14)⟩,
 ⟨some 141, some (139, false), .call (.c (.fn 12 [])) [.t 140]⟩,
 ⟨some 142, some (139, false), .bin .neq (.t 141) (.c (.int .i64 0))⟩,
 ⟨some 143, none, .pick (.t 139) (.c (.bool true)) (.t 142)⟩,
 ⟨some 144, none, .mv (.t 143)⟩,
 ⟨some 145, some (144, false), .mv (.t 7)⟩,
 ⟨some 146, some (144, false), .call (.c (.fn 14 [])) [.t 145, .c .nils]⟩,
 ⟨some 147, some (144, false), .bin .neq (.t 146) (.c (.int .i64 0))⟩,
 ⟨some 148, none, .pick (.t 144) (.c (.bool true)) (.t 147)⟩]
def c3r30 : List AOper :=
 [⟨some 6, none, .mv (.c (.bool false))⟩]
def c3r31 : List AOper :=
 [⟨some 150, none, .mv (.t 7)⟩,
 ⟨some 151, none, .call (.c (.fn 9 [])) [.t 150, .c (.int .i64 0)]⟩,
 ⟨some 149, none, .mv (.t 151)⟩,
 ⟨some 152, none, .ext (.t 149) 0⟩,
 ⟨some 153, none, .ext (.t 149) 1⟩,
 ⟨some 18, none, .mv (.t 152)⟩,
 ⟨some 19, none, .mv (.t 153)⟩]
def c3r32 : List AOper :=
 [⟨some 154, none, .mv (.t 19)⟩,
 ⟨some 155, none, .bin .neq (.t 154) (.c (.int .i64 0))⟩,
 ⟨some 156, none, .mv (.t 155)⟩,
 ⟨some 157, some (156, false), .mv (.t 18)⟩,
 ⟨some 158, some (156, false), .eq false 1 (.t 157) (.c .nilp)⟩,
 ⟨some 159, none, .pick (.t 156) (.c (.bool true)) (.t 158)⟩]
def c3r33 : List AOper :=
 [⟨some 6, none, .mv (.c (.bool false))⟩]
def c3r34 : List AOper :=
 [⟨some 20, none, .mv (.c .nils)⟩]
def c3r35 : List AOper :=
 [⟨some 160, none, .mv (.t 20)⟩,
 ⟨some 161, none, .mv (.t 0)⟩,
 ⟨some 162, none, .mv (.t 17)⟩,
 ⟨some 163, none, .slc (.t 161) none (some (.t 162)) none 1⟩,
 ⟨some 164, none, .append (.t 160) (.t 163) 1 16 false⟩,
 ⟨some 20, none, .mv (.t 164)⟩]
def c3r36 : List AOper :=
 [⟨some 165, none, .mv (.t 18)⟩,
 ⟨some 166, none, .call (.c (.fn 15 [])) [.t 165]⟩,
 ⟨some 167, none, .mv (.t 20)⟩,
 ⟨some 168, none, .bslice 1 1 [.str []] [(0, .c (.str [109, 111, 114, 101]))]⟩,
 ⟨some 169, none, .append (.t 167) (.t 168) 1 16 false⟩,
 ⟨some 170, none, .call (.c (.fn 16 [])) [.t 166, .t 169]⟩,
 ⟨some 171, none, .mv (.t 170)⟩,
 ⟨some 172, some (171, true), .call (.c (.fn 10 [])) []⟩,
 ⟨some 173, none, .pick (.t 171) (.t 172) (.c (.bool false))⟩,
 ⟨some 6, none, .mv (.t 173)⟩]
def c3 : AC := (.seq (.region c3r0) (.seq (.region c3r1) (.seq (.region c3r2) (.seq (.seq (.region c3r3) (.cond (.t 42) (.seq (.region c3r4) .ret) .skip)) (.seq (.region c3r5) (.seq (.seq (.region c3r6) (.block 0 (.loop c3l0))) (.seq (.seq (.region c3r22) (.cond (.t 101) (.seq (.region c3r23) .ret) .skip)) (.seq (.region c3r24) (.seq (.seq (.region c3r25) (.cond (.t 112) (.seq (.region c3r26) .ret) .skip)) (.seq (.region c3r27) (.seq (.region c3r28) (.seq (.seq (.region c3r29) (.cond (.t 148) (.seq (.region c3r30) .ret) .skip)) (.seq (.region c3r31) (.seq (.seq (.region c3r32) (.cond (.t 159) (.seq (.region c3r33) .ret) .skip)) (.seq (.region c3r34) (.seq (.region c3r35) (.seq (.region c3r36) .ret)))))))))))))))))
def r3 : List ARes := [.tmp 6]
theorem c3_ok : Tryz.f3.body.bind (cCode Tryz.prog Tryz.f3.ntmps) = some c3 := by kernel_rfl
theorem r3_ok : Tryz.f3.results.toList.mapM (cRes Tryz.prog Tryz.f3.ntmps) = some r3 := by kernel_rfl
def c4r0 : List AOper :=
 [⟨some 4, none, .box (.t 1)⟩,
 ⟨some 6, none, .mv (.c (.bool false))⟩]
def c4r1 : List AOper :=
 [⟨some 16, none, .call (.c (.fn 8 [])) []⟩,
 ⟨some 7, none, .mv (.t 16)⟩]
def c4r2 : List AOper :=
 [⟨some 18, none, .mv (.t 7)⟩,
 ⟨some 19, none, .call (.c (.fn 9 [])) [.t 18, .c (.int .i64 0)]⟩,
 ⟨some 17, none, .mv (.t 19)⟩,
 ⟨some 20, none, .ext (.t 17) 0⟩,
 ⟨some 21, none, .ext (.t 17) 1⟩,
 ⟨some 8, none, .mv (.t 20)⟩,
 ⟨some 9, none, .mv (.t 21)⟩]
def c4r3 : List AOper :=
 [⟨some 22, none, .mv (.t 9)⟩,
 ⟨some 23, none, .bin .neq (.t 22) (.c (.int .i64 0))⟩,
 ⟨some 24, none, .mv (.t 23)⟩,
 ⟨some 25, some (24, false), .mv (.t 8)⟩,
 ⟨some 26, some (24, false), .eq false 1 (.t 25) (.c .nilp)⟩,
 ⟨some 27, none, .pick (.t 24) (.c (.bool true)) (.t 26)⟩,
 ⟨some 28, none, .mv (.t 27)⟩,
 ⟨some 29, some (28, false), .mv (.t 0)⟩,
 ⟨some 30, some (28, false), .lenL (.t 29)⟩,
 ⟨some 31, some (28, false), .bin .gtr (.t 30) (.c (.int .i64 30))⟩,
 ⟨some 32, none, .pick (.t 28) (.c (.bool true)) (.t 31)⟩,
 ⟨some 33, none, .mv (.t 32)⟩,
 ⟨some 34, some (33, false), .mv (.t 2)⟩,
 ⟨some 35, some (33, false), .lenL (.t 34)⟩,
 ⟨some 36, some (33, false), .bin .gtr (.t 35) (.c (.int .i64 10))⟩,
 ⟨some 37, none, .pick (.t 33) (.c (.bool true)) (.t 36)⟩]
def c4r4 : List AOper :=
 [⟨some 38, none, .mv (.t 9)⟩,
 ⟨some 39, none, .bin .eql (.t 38) (.c (.int .i64 0))⟩,
 ⟨some 40, none, .mv (.t 39)⟩,
 ⟨some 41, some (40, true), .mv (.t 8)⟩,
 ⟨some 42, some (40, true), .eq true 1 (.t 41) (.c .nilp)⟩,
 ⟨some 43, none, .pick (.t 40) (.t 42) (.c (.bool false))⟩,
 ⟨some 44, none, .mv (.t 43)⟩,
 ⟨some 45, some (44, true), .call (.c (.fn 10 [])) []⟩,
 ⟨some 46, none, .pick (.t 44) (.t 45) (.c (.bool false))⟩,
 ⟨some 6, none, .mv (.t 46)⟩]
def c4r5 : List AOper :=
 [⟨some 47, none, .mv (.t 7)⟩,
 ⟨some 48, none, .idxA (.t 4) (.c (.int .i64 0)) (some 2) 1⟩,
 ⟨some 49, none, .load (.t 48) none⟩,
 ⟨some 50, none, .bin .and (.t 49) (.c (.int .i64 255))⟩,
 ⟨some 51, none, .call (.c (.fn 17 [])) [.t 47, .t 50]⟩,
 ⟨some 52, none, .bin .neq (.t 51) (.c (.int .i64 0))⟩]
def c4r6 : List AOper :=
 [⟨some 6, none, .mv (.c (.bool false))⟩]
def c4r7 : List AOper :=
 [⟨some 10, none, .mv (.c (.int .i64 0))⟩,
 ⟨some 11, none, .mv (.c (.int .i64 0))⟩]
def c4r8 : List AOper :=
 [⟨some 12, none, .mv (.c (.int .i64 0))⟩]
def c4r9 : List AOper :=
 [⟨some 53, none, .mv (.t 12)⟩,
 ⟨some 54, none, .mv (.t 0)⟩,
 ⟨some 55, none, .lenL (.t 54)⟩,
 ⟨some 56, none, .bin .lss (.t 53) (.t 55)⟩,
 ⟨some 57, none, .mv (.t 56)⟩,
 ⟨some 58, some (57, true), .mv (.t 7)⟩,
 ⟨some 59, some (57, true), .call (.c (.fn 18 [])) [.t 58]⟩,
 ⟨some 60, some (57, true), .un .not (.t 59)⟩,
 ⟨some 61, none, .pick (.t 57) (.t 60) (.c (.bool false))⟩]
def c4r10 : List AOper :=
 [⟨some 64, none, .mv (.t 0)⟩,
 ⟨some 65, none, .mv (.t 12)⟩,
 ⟨some 66, none, .idxA (.t 64) (.t 65) none 1⟩,
 ⟨some 67, none, .load (.t 66) none⟩,
 ⟨some 68, none, .lenS (.t 67)⟩,
 ⟨some 69, none, .bin .gtr (.t 68) (.c (.int .i64 100))⟩]
def c4r11 : List AOper :=
 [⟨some 70, none, .call (.c (.fn 10 [])) []⟩,
 ⟨some 6, none, .mv (.t 70)⟩]
def c4r12 : List AOper :=
 [⟨some 71, none, .mv (.t 12)⟩,
 ⟨some 72, none, .bin .add (.t 71) (.c (.int .i64 1))⟩,
 ⟨some 11, none, .mv (.t 72)⟩]
def c4r13 : List AOper :=
 [⟨some 73, none, .mv (.t 8)⟩,
 ⟨some 74, none, .mv (.t 0)⟩,
 ⟨some 75, none, .mv (.t 12)⟩,
 ⟨some 76, none, .idxA (.t 74) (.t 75) none 1⟩,
 ⟨some 77, none, .load (.t 76) none⟩,
 ⟨some 78, none, .call (.c (.fn 11 [])) [.t 73, .t 77]⟩,
 ⟨some 79, none, .bin .eql (.t 78) (.c (.int .i64 0))⟩,
 ⟨some 80, none, .mv (.t 79)⟩,
 ⟨some 81, some (80, true), .mv (.t 8)⟩,
 ⟨some 82, some (80, true), .call (.c (.fn 12 [])) [.t 81]⟩,
 ⟨some 83, some (80, true), .bin .eql (.t 82) (.c (.int .i64 0))⟩,
 ⟨some 84, none, .pick (.t 80) (.t 83) (.c (.bool false))⟩]
def c4r14 : List AOper :=
 [⟨some 85, none, .mv (.t 12)⟩,
 ⟨some 86, none, .bin .add (.t 85) (.c (.int .i64 1))⟩,
 ⟨some 10, none, .mv (.t 86)⟩]
def c4r15 : List AOper :=
 [⟨some 87, none, .idxA (.t 4) (.c (.int .i64 1)) (some 2) 1⟩,
 ⟨some 88, none, .load (.t 87) none⟩,
 ⟨some 89, none, .mv (.t 12)⟩,
 ⟨some 90, none, .bin .shr (.t 88) (.t 89)⟩,
 ⟨some 91, none, .bin .and (.t 90) (.c (.int .i64 1))⟩,
 ⟨some 92, none, .bin .eql (.t 91) (.c (.int .i64 1))⟩]
def c4r16 : List AOper :=
 [⟨some 93, none, .mv (.t 8)⟩,
 ⟨some 94, none, .call (.c (.fn 13 [])) [.t 93]⟩]
def c4r17 : List AOper :=
 [⟨some 62, none, .mv (.t 12)⟩,
 ⟨some 63, none, .bin .add (.t 62) (.c (.int .i64 1))⟩,
 ⟨some 12, none, .mv (.t 63)⟩]
def c4l0 : AC := (.seq (.seq (.region c4r9) (.cond (.t 61) .skip (.exit 0))) (.seq (.block 1 (.seq (.seq (.region c4r10) (.cond (.t 69) (.seq (.region c4r11) .ret) .skip)) (.seq (.region c4r12) (.seq (.region c4r13) (.cond (.t 84) (.seq (.region c4r14) (.seq (.region c4r15) (.cond (.t 92) (.region c4r16) .skip))) .skip))))) (.region c4r17)))
def c4r18 : List AOper :=
 [⟨some 95, none, .mv (.t 7)⟩,
 ⟨some 96, none, .mv (.t 2)⟩,
 ⟨some 97, none, .call (.c (.fn 14 [])) [.t 95, .t 96]⟩,
 ⟨some 98, none, .bin .neq (.t 97) (.c (.int .i64 0))⟩]
def c4r19 : List AOper :=
 [⟨some 6, none, .mv (.c (.bool false))⟩]
def c4r20 : List AOper :=
 [⟨some 100, none, .mv (.t 7)⟩,
 ⟨some 101, none, .call (.c (.fn 9 [])) [.t 100, .c (.int .i64 0)]⟩,
 ⟨some 99, none, .mv (.t 101)⟩,
 ⟨some 102, none, .ext (.t 99) 0⟩,
 ⟨some 103, none, .ext (.t 99) 1⟩,
 ⟨some 13, none, .mv (.t 102)⟩,
 ⟨some 14, none, .mv (.t 103)⟩]
def c4r21 : List AOper :=
 [⟨some 104, none, .mv (.t 14)⟩,
 ⟨some 105, none, .bin .neq (.t 104) (.c (.int .i64 0))⟩,
 ⟨some 106, none, .mv (.t 105)⟩,
 ⟨some 107, some (106, false), .mv (.t 13)⟩,
 ⟨some 108, some (106, false), .eq false 1 (.t 107) (.c .nilp)⟩,
 ⟨some 109, none, .pick (.t 106) (.c (.bool true)) (.t 108)⟩]
def c4r22 : List AOper :=
 [⟨some 6, none, .mv (.c (.bool false))⟩]
def c4r23 : List AOper :=
 [⟨some 110, none, .mv (.t 13)⟩,
 ⟨some 111, none, .call (.c (.fn 15 [])) [.t 110]⟩,
 ⟨some 112, none, .lenL (.t 111)⟩,
 ⟨some 15, none, .mv (.t 112)⟩]
def c4d0 : List (AOper × List Nat) :=
 [(⟨some 113, none, .mv (.t 15)⟩, []),
 (⟨some 114, none, .mv (.t 10)⟩, []),
 (⟨some 115, none, .bin .geq (.t 113) (.t 114)⟩, [0, 1]),
 (⟨some 116, none, .mv (.t 115)⟩, [2]),
 (⟨some 117, some (116, true), .mv (.t 15)⟩, [3]),
 (⟨some 118, some (116, true), .mv (.t 11)⟩, [3]),
 (⟨some 119, some (116, true), .bin .leq (.t 117) (.t 118)⟩, [4, 5, 3]),
 (⟨some 120, none, .pick (.t 116) (.t 119) (.c (.bool false))⟩, [3, 6]),
 (⟨some 121, none, .mv (.t 120)⟩, [7, 3]),
 (⟨some 122, some (121, true), .mv (.t 13)⟩, [8]),
 (⟨some 123, some (121, true), .call (.c (.fn 15 [])) [.t 122]⟩, [9, 8, 8]),
 (⟨some 124, some (121, true), .mv (.t 0)⟩, [8]),
 (⟨some 125, some (121, true), .mv (.t 15)⟩, [8]),
 (⟨some 126, some (121, true), .slc (.t 124) none (some (.t 125)) none 1⟩, [11, 12, 8]),
 (⟨some 127, some (121, true), .call (.c (.fn 16 [])) [.t 123, .t 126]⟩, [10, 13, 10, 8]),
 (⟨some 128, none, .pick (.t 121) (.t 127) (.c (.bool false))⟩, [8, 14]),
 (⟨some 129, none, .mv (.t 128)⟩, [15, 14]),
 (⟨some 130, some (129, true), .call (.c (.fn 10 [])) []⟩, [16, 16]),
 (⟨some 131, none, .pick (.t 129) (.t 130) (.c (.bool false))⟩, [16, 17]),
 (⟨some 6, none, .mv (.t 131)⟩, [18, 17, 0, 1, 2, 3, 4, 5, 6, 7, 8, 9, 10, 11, 12, 13, 14, 15, 16, 17, 18])]
def c4 : AC := (.seq (.region c4r0) (.seq (.region c4r1) (.seq (.region c4r2) (.seq (.seq (.region c4r3) (.cond (.t 37) (.seq (.region c4r4) .ret) .skip)) (.seq (.seq (.region c4r5) (.cond (.t 52) (.seq (.region c4r6) .ret) .skip)) (.seq (.region c4r7) (.seq (.seq (.region c4r8) (.block 0 (.loop c4l0))) (.seq (.seq (.region c4r18) (.cond (.t 98) (.seq (.region c4r19) .ret) .skip)) (.seq (.region c4r20) (.seq (.seq (.region c4r21) (.cond (.t 109) (.seq (.region c4r22) .ret) .skip)) (.seq (.region c4r23) (.seq (.drawn c4d0) .ret))))))))))))
def r4 : List ARes := [.tmp 6]
theorem c4_ok : Tryz.f4.body.bind (cCode Tryz.prog Tryz.f4.ntmps) = some c4 := by kernel_rfl
theorem r4_ok : Tryz.f4.results.toList.mapM (cRes Tryz.prog Tryz.f4.ntmps) = some r4 := by kernel_rfl
def c5r0 : List AOper :=
 [⟨some 6, none, .mv (.c (.bool false))⟩]
def c5r1 : List AOper :=
 [⟨some 17, none, .call (.c (.fn 8 [])) []⟩,
 ⟨some 7, none, .mv (.t 17)⟩]
def c5r2 : List AOper :=
 [⟨some 19, none, .mv (.t 7)⟩,
 ⟨some 20, none, .call (.c (.fn 9 [])) [.t 19, .c (.int .i64 0)]⟩,
 ⟨some 18, none, .mv (.t 20)⟩,
 ⟨some 21, none, .ext (.t 18) 0⟩,
 ⟨some 22, none, .ext (.t 18) 1⟩,
 ⟨some 8, none, .mv (.t 21)⟩,
 ⟨some 9, none, .mv (.t 22)⟩]
def c5r3 : List AOper :=
 [⟨some 23, none, .mv (.t 9)⟩,
 ⟨some 24, none, .bin .neq (.t 23) (.c (.int .i64 0))⟩,
 ⟨some 25, none, .mv (.t 24)⟩,
 ⟨some 26, some (25, false), .mv (.t 8)⟩,
 ⟨some 27, some (25, false), .eq false 1 (.t 26) (.c .nilp)⟩,
 ⟨some 28, none, .pick (.t 25) (.c (.bool true)) (.t 27)⟩,
 ⟨some 29, none, .mv (.t 28)⟩,
 ⟨some 30, some (29, false), .mv (.t 0)⟩,
 ⟨some 31, some (29, false), .lenL (.t 30)⟩,
 ⟨some 32, some (29, false), .bin .gtr (.t 31) (.c (.int .i64 20))⟩,
 ⟨some 33, none, .pick (.t 29) (.c (.bool true)) (.t 32)⟩]
def c5r4 : List AOper :=
 [⟨some 34, none, .mv (.t 9)⟩,
 ⟨some 35, none, .bin .eql (.t 34) (.c (.int .i64 0))⟩,
 ⟨some 36, none, .mv (.t 35)⟩,
 ⟨some 37, some (36, true), .mv (.t 8)⟩,
 ⟨some 38, some (36, true), .eq true 1 (.t 37) (.c .nilp)⟩,
 ⟨some 39, none, .pick (.t 36) (.t 38) (.c (.bool false))⟩,
 ⟨some 40, none, .mv (.t 39)⟩,
 ⟨some 41, some (40, true), .call (.c (.fn 10 [])) []⟩,
 ⟨some 42, none, .pick (.t 40) (.t 41) (.c (.bool false))⟩,
 ⟨some 6, none, .mv (.t 42)⟩]
def c5r5 : List AOper :=
 [⟨some 10, none, .mv (.c (.int .i64 0))⟩]
def c5r6 : List AOper :=
 [⟨some 43, none, .mv (.t 10)⟩,
 ⟨some 44, none, .mv (.t 0)⟩,
 ⟨some 45, none, .lenL (.t 44)⟩,
 ⟨some 46, none, .bin .lss (.t 43) (.t 45)⟩]
def c5r7 : List AOper :=
 [⟨some 49, none, .mv (.t 0)⟩,
 ⟨some 50, none, .mv (.t 10)⟩,
 ⟨some 51, none, .idxA (.t 49) (.t 50) none 1⟩,
 ⟨some 52, none, .load (.t 51) none⟩,
 ⟨some 53, none, .lenS (.t 52)⟩,
 ⟨some 54, none, .bin .gtr (.t 53) (.c (.int .i64 100))⟩]
def c5r8 : List AOper :=
 [⟨some 55, none, .call (.c (.fn 10 [])) []⟩,
 ⟨some 6, none, .mv (.t 55)⟩]
def c5r9 : List AOper :=
 [⟨some 56, none, .mv (.t 8)⟩,
 ⟨some 57, none, .mv (.t 0)⟩,
 ⟨some 58, none, .mv (.t 10)⟩,
 ⟨some 59, none, .idxA (.t 57) (.t 58) none 1⟩,
 ⟨some 60, none, .load (.t 59) none⟩,
 ⟨some 61, none, .call (.c (.fn 11 [])) [.t 56, .t 60]⟩,
 ⟨some 11, none, .mv (.c (.int .i64 0))⟩,
 ⟨some 12, none, .mv (.t 61)⟩]
def c5r10 : List AOper :=
 [⟨some 62, none, .mv (.t 12)⟩,
 ⟨some 63, none, .bin .eql (.t 62) (.c (.int .i64 0))⟩]
def c5r11 : List AOper :=
 [⟨some 65, none, .mv (.t 8)⟩,
 ⟨some 66, none, .call (.c (.fn 13 [])) [.t 65]⟩,
 ⟨some 64, none, .mv (.t 66)⟩,
 ⟨some 67, none, .ext (.t 64) 0⟩,
 ⟨some 68, none, .ext (.t 64) 1⟩,
 ⟨some 11, none, .mv (.t 67)⟩,
 ⟨some 12, none, .mv (.t 68)⟩]
def c5r12 : List AOper :=
 [⟨some 69, none, .mv (.t 12)⟩,
 ⟨some 70, none, .bin .neq (.t 69) (.c (.int .i64 0))⟩,
 ⟨some 71, none, .mv (.t 70)⟩,
 ⟨some 72, some (71, false), .mv (.t 11)⟩,
 ⟨some 73, some (71, false), .mv (.t 10)⟩,
 ⟨some 74, some (71, false), .bin .add (.t 73) (.c (.int .i64 1))⟩,
 ⟨some 75, some (71, false), .bin .neq (.t 72) (.t 74)⟩,
 ⟨some 76, none, .pick (.t 71) (.c (.bool true)) (.t 75)⟩,
 ⟨some 77, none, .mv (.t 76)⟩,
 ⟨some 78, some (77, false), .mv (.t 8)⟩,
 ⟨some 79, some (77, false), .call (.c (.fn 19 [])) [.t 78]⟩,
 ⟨some 80, some (77, false), .mv (.t 11)⟩,
 ⟨some 81, some (77, false), .bin .neq (.t 79) (.t 80)⟩,
 ⟨some 82, none, .pick (.t 77) (.c (.bool true)) (.t 81)⟩]
def c5r13 : List AOper :=
 [⟨some 6, none, .mv (.c (.bool false))⟩]
def c5r14 : List AOper :=
 [⟨some 47, none, .mv (.t 10)⟩,
 ⟨some 48, none, .bin .add (.t 47) (.c (.int .i64 1))⟩,
 ⟨some 10, none, .mv (.t 48)⟩]
def c5l0 : AC := (.seq (.seq (.region c5r6) (.cond (.t 46) .skip (.exit 0))) (.seq (.block 1 (.seq (.seq (.region c5r7) (.cond (.t 54) (.seq (.region c5r8) .ret) .skip)) (.seq (.region c5r9) (.seq (.seq (.region c5r10) (.cond (.t 63) (.region c5r11) .skip)) (.seq (.region c5r12) (.cond (.t 82) (.seq (.region c5r13) .ret) .skip)))))) (.region c5r14)))
def c5r15 : List AOper :=
 [⟨some 83, none, .mv (.t 1)⟩,
 ⟨some 84, none, .bin .and (.t 83) (.c (.int .i64 255))⟩,
 ⟨some 85, none, .mv (.t 0)⟩,
 ⟨some 86, none, .lenL (.t 85)⟩,
 ⟨some 87, none, .bin .add (.t 86) (.c (.int .i64 1))⟩,
 ⟨some 88, none, .bin .rem (.t 84) (.t 87)⟩,
 ⟨some 13, none, .mv (.t 88)⟩]
def c5d0 : List (AOper × List Nat) :=
 [(⟨some 89, none, .mv (.t 8)⟩, []),
 (⟨some 90, none, .mv (.t 13)⟩, []),
 (⟨some 91, none, .call (.c (.fn 20 [])) [.t 89, .t 90]⟩, [0, 1]),
 (⟨some 92, none, .bin .neq (.t 91) (.c (.int .i64 0))⟩, [2]),
 (⟨some 93, none, .mv (.t 92)⟩, [3, 2]),
 (⟨some 94, some (93, false), .mv (.t 8)⟩, [4]),
 (⟨some 95, some (93, false), .call (.c (.fn 15 [])) [.t 94]⟩, [5, 4, 4]),
 (⟨some 96, some (93, false), .mv (.t 0)⟩, [4]),
 (⟨some 97, some (93, false), .mv (.t 13)⟩, [4]),
 (⟨some 98, some (93, false), .slc (.t 96) (some (.t 97)) none none 1⟩, [7, 8, 4]),
 (⟨some 99, some (93, false), .call (.c (.fn 16 [])) [.t 95, .t 98]⟩, [6, 9, 6, 4]),
 (⟨some 100, some (93, false), .un .not (.t 99)⟩, [10, 4]),
 (⟨some 101, none, .pick (.t 93) (.c (.bool true)) (.t 100)⟩, [4, 11]),
 (⟨some 102, none, .mv (.t 101)⟩, [12, 10]),
 (⟨some 103, some (102, false), .mv (.t 8)⟩, [13]),
 (⟨some 104, some (102, false), .mv (.t 0)⟩, [13]),
 (⟨some 105, some (102, false), .lenL (.t 104)⟩, [15, 13]),
 (⟨some 106, some (102, false), .bin .add (.t 105) (.c (.int .i64 1))⟩, [16, 13]),
 (⟨some 107, some (102, false), .call (.c (.fn 20 [])) [.t 103, .t 106]⟩, [14, 17, 13, 13]),
 (⟨some 108, some (102, false), .bin .neq (.t 107) (.c (.int .i64 1))⟩, [18, 13]),
 (⟨some 109, none, .pick (.t 102) (.c (.bool true)) (.t 108)⟩, [13, 19]),
 (⟨some 110, none, .mv (.t 109)⟩, [20, 18]),
 (⟨some 111, some (110, false), .mv (.t 7)⟩, [21]),
 (⟨some 112, some (110, false), .call (.c (.fn 14 [])) [.t 111, .c .nils]⟩, [22, 21, 21]),
 (⟨some 113, some (110, false), .bin .neq (.t 112) (.c (.int .i64 0))⟩, [23, 21]),
 (⟨some 114, none, .pick (.t 110) (.c (.bool true)) (.t 113)⟩, [21, 24])]
def c5r16 : List AOper :=
 [⟨some 6, none, .mv (.c (.bool false))⟩]
def c5r17 : List AOper :=
 [⟨some 115, none, .mv (.t 2)⟩,
 ⟨some 116, none, .bin .and (.t 115) (.c (.int .i64 255))⟩,
 ⟨some 117, none, .mv (.t 0)⟩,
 ⟨some 118, none, .lenL (.t 117)⟩,
 ⟨some 119, none, .bin .add (.t 118) (.c (.int .i64 1))⟩,
 ⟨some 120, none, .bin .rem (.t 116) (.t 119)⟩,
 ⟨some 14, none, .mv (.t 120)⟩]
def c5r18 : List AOper :=
 [⟨some 122, none, .mv (.t 7)⟩,
 ⟨some 123, none, .mv (.t 14)⟩,
 ⟨some 124, none, .call (.c (.fn 9 [])) [.t 122, .t 123]⟩,
 ⟨some 121, none, .mv (.t 124)⟩,
 ⟨some 125, none, .ext (.t 121) 0⟩,
 ⟨some 126, none, .ext (.t 121) 1⟩,
 ⟨some 15, none, .mv (.t 125)⟩,
 ⟨some 16, none, .mv (.t 126)⟩]
def c5d1 : List (AOper × List Nat) :=
 [(⟨some 127, none, .mv (.t 16)⟩, []),
 (⟨some 128, none, .bin .eql (.t 127) (.c (.int .i64 0))⟩, [0]),
 (⟨some 129, none, .mv (.t 128)⟩, [1]),
 (⟨some 130, some (129, true), .mv (.t 15)⟩, [2]),
 (⟨some 131, some (129, true), .eq true 1 (.t 130) (.c .nilp)⟩, [3, 2]),
 (⟨some 132, none, .pick (.t 129) (.t 131) (.c (.bool false))⟩, [2, 4]),
 (⟨some 133, none, .mv (.t 132)⟩, [5, 2]),
 (⟨some 134, some (133, true), .mv (.t 15)⟩, [6]),
 (⟨some 135, some (133, true), .call (.c (.fn 15 [])) [.t 134]⟩, [7, 6, 6]),
 (⟨some 136, some (133, true), .mv (.t 0)⟩, [6]),
 (⟨some 137, some (133, true), .mv (.t 13)⟩, [6]),
 (⟨some 138, some (133, true), .mv (.t 14)⟩, [6]),
 (⟨some 139, some (133, true), .mm true [.t 137, .t 138]⟩, [10, 11, 6]),
 (⟨some 140, some (133, true), .slc (.t 136) (some (.t 139)) none none 1⟩, [9, 12, 6]),
 (⟨some 141, some (133, true), .call (.c (.fn 16 [])) [.t 135, .t 140]⟩, [8, 13, 8, 6]),
 (⟨some 142, none, .pick (.t 133) (.t 141) (.c (.bool false))⟩, [6, 14]),
 (⟨some 143, none, .mv (.t 142)⟩, [15, 14]),
 (⟨some 144, some (143, true), .mv (.t 15)⟩, [16]),
 (⟨some 145, some (143, true), .call (.c (.fn 19 [])) [.t 144]⟩, [17, 16, 16]),
 (⟨some 146, some (143, true), .mv (.t 0)⟩, [16]),
 (⟨some 147, some (143, true), .lenL (.t 146)⟩, [19, 16]),
 (⟨some 148, some (143, true), .bin .add (.t 147) (.c (.int .i64 1))⟩, [20, 16]),
 (⟨some 149, some (143, true), .bin .eql (.t 145) (.t 148)⟩, [18, 21, 16]),
 (⟨some 150, none, .pick (.t 143) (.t 149) (.c (.bool false))⟩, [16, 22]),
 (⟨some 151, none, .mv (.t 150)⟩, [23, 18]),
 (⟨some 152, some (151, true), .call (.c (.fn 10 [])) []⟩, [24, 24]),
 (⟨some 153, none, .pick (.t 151) (.t 152) (.c (.bool false))⟩, [24, 25]),
 (⟨some 6, none, .mv (.t 153)⟩, [26, 25, 0, 1, 2, 3, 4, 5, 6, 7, 8, 9, 10, 11, 12, 13, 14, 15, 16, 17, 18, 19, 20, 21, 22, 23, 24, 25, 26])]
def c5 : AC := (.seq (.region c5r0) (.seq (.region c5r1) (.seq (.region c5r2) (.seq (.seq (.region c5r3) (.cond (.t 33) (.seq (.region c5r4) .ret) .skip)) (.seq (.seq (.region c5r5) (.block 0 (.loop c5l0))) (.seq (.region c5r15) (.seq (.seq (.drawn c5d0) (.cond (.t 114) (.seq (.region c5r16) .ret) .skip)) (.seq (.region c5r17) (.seq (.region c5r18) (.seq (.drawn c5d1) .ret))))))))))
def r5 : List ARes := [.tmp 6]
theorem c5_ok : Tryz.f5.body.bind (cCode Tryz.prog Tryz.f5.ntmps) = some c5 := by kernel_rfl
theorem r5_ok : Tryz.f5.results.toList.mapM (cRes Tryz.prog Tryz.f5.ntmps) = some r5 := by kernel_rfl
def c6r0 : List AOper :=
 [⟨some 4, none, .mv (.c (.bool false))⟩]
def c6r1 : List AOper :=
 [⟨some 17, none, .mv (.t 0)⟩,
 ⟨some 18, none, .call (.c (.fn 9 [])) [.c .nilp, .t 17]⟩,
 ⟨some 16, none, .mv (.t 18)⟩,
 ⟨some 19, none, .ext (.t 16) 0⟩,
 ⟨some 20, none, .ext (.t 16) 1⟩,
 ⟨some 5, none, .mv (.t 19)⟩,
 ⟨some 6, none, .mv (.t 20)⟩]
def c6r2 : List AOper :=
 [⟨some 22, none, .build [.nilm, .int .i64 0, .bool false] []⟩,
 ⟨some 23, none, .box (.t 22)⟩,
 ⟨some 24, none, .mv (.t 0)⟩,
 ⟨some 25, none, .call (.c (.fn 9 [])) [.t 23, .t 24]⟩,
 ⟨some 21, none, .mv (.t 25)⟩,
 ⟨some 26, none, .ext (.t 21) 0⟩,
 ⟨some 27, none, .ext (.t 21) 1⟩,
 ⟨some 7, none, .mv (.t 26)⟩,
 ⟨some 8, none, .mv (.t 27)⟩]
def c6r3 : List AOper :=
 [⟨some 29, none, .call (.c (.fn 8 [])) []⟩,
 ⟨some 30, none, .mv (.t 0)⟩,
 ⟨some 31, none, .call (.c (.fn 9 [])) [.t 29, .t 30]⟩,
 ⟨some 28, none, .mv (.t 31)⟩,
 ⟨some 32, none, .ext (.t 28) 0⟩,
 ⟨some 33, none, .ext (.t 28) 1⟩,
 ⟨some 9, none, .mv (.t 32)⟩,
 ⟨some 10, none, .mv (.t 33)⟩]
def c6r4 : List AOper :=
 [⟨some 34, none, .mv (.t 0)⟩,
 ⟨some 35, none, .bin .geq (.t 34) (.c (.int .i64 0))⟩,
 ⟨some 36, none, .mv (.t 35)⟩,
 ⟨some 37, some (36, true), .mv (.t 0)⟩,
 ⟨some 38, some (36, true), .bin .leq (.t 37) (.c (.int .i64 1048576))⟩,
 ⟨some 39, none, .pick (.t 36) (.t 38) (.c (.bool false))⟩,
 ⟨some 11, none, .mv (.t 39)⟩]
def c6r5 : List AOper :=
 [⟨some 40, none, .mv (.t 5)⟩,
 ⟨some 41, none, .eq true 1 (.t 40) (.c .nilp)⟩,
 ⟨some 42, none, .mv (.t 41)⟩,
 ⟨some 43, some (42, false), .mv (.t 6)⟩,
 ⟨some 44, some (42, false), .bin .neq (.t 43) (.c (.int .i64 1))⟩,
 ⟨some 45, none, .pick (.t 42) (.c (.bool true)) (.t 44)⟩,
 ⟨some 46, none, .mv (.t 45)⟩,
 ⟨some 47, some (46, false), .mv (.t 7)⟩,
 ⟨some 48, some (46, false), .eq true 1 (.t 47) (.c .nilp)⟩,
 ⟨some 49, none, .pick (.t 46) (.c (.bool true)) (.t 48)⟩,
 ⟨some 50, none, .mv (.t 49)⟩,
 ⟨some 51, some (50, false), .mv (.t 8)⟩,
 ⟨some 52, some (50, false), .bin .neq (.t 51) (.c (.int .i64 1))⟩,
 ⟨some 53, none, .pick (.t 50) (.c (.bool true)) (.t 52)⟩,
 ⟨some 54, none, .mv (.t 53)⟩,
 ⟨some 55, some (54, false), .mv (.t 10)⟩,
 ⟨some 56, some (54, false), .bin .eql (.t 55) (.c (.int .i64 0))⟩,
 ⟨some 57, some (54, false), .mv (.t 11)⟩,
 ⟨some 58, some (54, false), .eq true 0 (.t 56) (.t 57)⟩,
 ⟨some 59, none, .pick (.t 54) (.c (.bool true)) (.t 58)⟩,
 ⟨some 60, none, .mv (.t 59)⟩,
 ⟨some 61, some (60, false), .mv (.t 9)⟩,
 ⟨some 62, some (60, false), .eq true 1 (.t 61) (.c .nilp)⟩,
 ⟨some 63, some (60, false), .mv (.t 11)⟩,
 ⟨some 64, some (60, false), .eq true 0 (.t 62) (.t 63)⟩,
 ⟨some 65, none, .pick (.t 60) (.c (.bool true)) (.t 64)⟩,
 ⟨some 66, none, .mv (.t 65)⟩,
 ⟨some 67, some (66, false), .mv (.t 11)⟩,
 ⟨some 68, some (66, false), .un .not (.t 67)⟩,
 ⟨some 69, some (66, false), .mv (.t 68)⟩,
 ⟨some 70, some (69, true), .mv (.t 10)⟩,
 ⟨some 71, some (69, true), .bin .neq (.t 70) (.c (.int .i64 1))⟩,
 ⟨some 72, some (66, false), .pick (.t 69) (.t 71) (.c (.bool false))⟩,
 ⟨some 73, none, .pick (.t 66) (.c (.bool true)) (.t 72)⟩]
def c6r6 : List AOper :=
 [⟨some 4, none, .mv (.c (.bool false))⟩]
def c6r7 : List AOper :=
 [⟨some 74, none, .build [.nilp, .nils, .int .i64 0] []⟩,
 ⟨some 75, none, .box (.t 74)⟩,
 ⟨some 76, none, .bslice 2 1 [.nilp] [(0, .c .nilp), (1, .t 75)]⟩,
 ⟨some 12, none, .mv (.t 76)⟩]
def c6r8 : List AOper :=
 [⟨some 13, none, .mv (.c (.int .i64 0))⟩]
def c6r9 : List AOper :=
 [⟨some 77, none, .mv (.t 13)⟩,
 ⟨some 78, none, .mv (.t 12)⟩,
 ⟨some 79, none, .lenL (.t 78)⟩,
 ⟨some 80, none, .bin .lss (.t 77) (.t 79)⟩]
def c6r10 : List AOper :=
 [⟨some 84, none, .mv (.t 12)⟩,
 ⟨some 85, none, .mv (.t 13)⟩,
 ⟨some 86, none, .idxA (.t 84) (.t 85) none 1⟩,
 ⟨some 87, none, .load (.t 86) none⟩,
 ⟨some 88, none, .call (.c (.fn 13 [])) [.t 87]⟩,
 ⟨some 83, none, .mv (.t 88)⟩,
 ⟨some 89, none, .ext (.t 83) 0⟩,
 ⟨some 90, none, .ext (.t 83) 1⟩,
 ⟨some 14, none, .mv (.t 89)⟩,
 ⟨some 15, none, .mv (.t 90)⟩]
def c6r11 : List AOper :=
 [⟨some 91, none, .mv (.t 12)⟩,
 ⟨some 92, none, .mv (.t 13)⟩,
 ⟨some 93, none, .idxA (.t 91) (.t 92) none 1⟩,
 ⟨some 94, none, .load (.t 93) none⟩,
 ⟨some 95, none, .mv (.t 1)⟩,
 ⟨some 96, none, .call (.c (.fn 11 [])) [.t 94, .t 95]⟩,
 ⟨some 97, none, .bin .neq (.t 96) (.c (.int .i64 1))⟩,
 ⟨some 98, none, .mv (.t 97)⟩,
 ⟨some 99, some (98, false), .mv (.t 12)⟩,
 ⟨some 100, some (98, false), .mv (.t 13)⟩,
 ⟨some 101, some (98, false), .idxA (.t 99) (.t 100) none 1⟩,
 ⟨some 102, some (98, false), .load (.t 101) none⟩,
 ⟨some 103, some (98, false), .call (.c (.fn 12 [])) [.t 102]⟩,
 ⟨some 104, some (98, false), .bin .neq (.t 103) (.c (.int .i64 1))⟩,
 ⟨some 105, none, .pick (.t 98) (.c (.bool true)) (.t 104)⟩,
 ⟨some 106, none, .mv (.t 105)⟩,
 ⟨some 107, some (106, false), .mv (.t 14)⟩,
 ⟨some 108, some (106, false), .bin .neq (.t 107) (.c (.int .i64 0))⟩,
 ⟨some 109, none, .pick (.t 106) (.c (.bool true)) (.t 108)⟩,
 ⟨some 110, none, .mv (.t 109)⟩,
 ⟨some 111, some (110, false), .mv (.t 15)⟩,
 ⟨some 112, some (110, false), .bin .neq (.t 111) (.c (.int .i64 1))⟩,
 ⟨some 113, none, .pick (.t 110) (.c (.bool true)) (.t 112)⟩,
 ⟨some 114, none, .mv (.t 113)⟩,
 ⟨some 115, some (114, false), .mv (.t 12)⟩,
 ⟨some 116, some (114, false), .mv (.t 13)⟩,
 ⟨some 117, some (114, false), .idxA (.t 115) (.t 116) none 1⟩,
 ⟨some 118, some (114, false), .load (.t 117) none⟩,
 ⟨some 119, some (114, false), .mv (.t 0)⟩,
 ⟨some 120, some (114, false), .call (.c (.fn 20 [])) [.t 118, .t 119]⟩,
 ⟨some 121, some (114, false), .bin .neq (.t 120) (.c (.int .i64 1))⟩,
 ⟨some 122, none, .pick (.t 114) (.c (.bool true)) (.t 121)⟩,
 ⟨some 123, none, .mv (.t 122)⟩,
 ⟨some 124, some (123, false), .mv (.t 12)⟩,
 ⟨some 125, some (123, false), .mv (.t 13)⟩,
 ⟨some 126, some (123, false), .idxA (.t 124) (.t 125) none 1⟩,
 ⟨some 127, some (123, false), .load (.t 126) none⟩,
 ⟨some 128, some (123, false), .call (.c (.fn 15 [])) [.t 127]⟩,
 ⟨some 129, some (123, false), .lenL (.t 128)⟩,
 ⟨some 130, some (123, false), .bin .gtr (.t 129) (.c (.int .i64 0))⟩,
 ⟨some 131, none, .pick (.t 123) (.c (.bool true)) (.t 130)⟩,
 ⟨some 132, none, .mv (.t 131)⟩,
 ⟨some 133, some (132, false), .mv (.t 12)⟩,
 ⟨some 134, some (132, false), .mv (.t 13)⟩,
 ⟨some 135, some (132, false), .idxA (.t 133) (.t 134) none 1⟩,
 ⟨some 136, some (132, false), .load (.t 135) none⟩,
 ⟨some 137, some (132, false), .call (.c (.fn 19 [])) [.t 136]⟩,
 ⟨some 138, some (132, false), .bin .neq (.t 137) (.c (.int .i64 0))⟩,
 ⟨some 139, none, .pick (.t 132) (.c (.bool true)) (.t 138)⟩]
def c6r12 : List AOper :=
 [⟨some 4, none, .mv (.c (.bool false))⟩]
def c6r13 : List AOper :=
 [⟨some 81, none, .mv (.t 13)⟩,
 ⟨some 82, none, .bin .add (.t 81) (.c (.int .i64 1))⟩,
 ⟨some 13, none, .mv (.t 82)⟩]
def c6l0 : AC := (.seq (.seq (.region c6r9) (.cond (.t 80) .skip (.exit 0))) (.seq (.block 1 (.seq (.region c6r10) (.seq (.region c6r11) (.cond (.t 139) (.seq (.region c6r12) .ret) .skip)))) (.region c6r13)))
def c6r14 : List AOper :=
 [⟨some 140, none, .call (.c (.fn 10 [])) []⟩,
 ⟨some 4, none, .mv (.t 140)⟩]
def c6 : AC := (.seq (.region c6r0) (.seq (.region c6r1) (.seq (.region c6r2) (.seq (.region c6r3) (.seq (.region c6r4) (.seq (.seq (.region c6r5) (.cond (.t 73) (.seq (.region c6r6) .ret) .skip)) (.seq (.region c6r7) (.seq (.seq (.region c6r8) (.block 0 (.loop c6l0))) (.seq (.region c6r14) .ret)))))))))
def r6 : List ARes := [.tmp 4]
theorem c6_ok : Tryz.f6.body.bind (cCode Tryz.prog Tryz.f6.ntmps) = some c6 := by kernel_rfl
theorem r6_ok : Tryz.f6.results.toList.mapM (cRes Tryz.prog Tryz.f6.ntmps) = some r6 := by kernel_rfl
def c7r0 : List AOper :=
 [⟨some 2, none, .mv (.c (.bool false))⟩]
def c7r1 : List AOper :=
 [⟨some 9, none, .call (.c (.fn 8 [])) []⟩,
 ⟨some 10, none, .call (.c (.fn 21 [])) []⟩,
 ⟨some 11, none, .build [.nilp, .nilp, .nils, .int .i64 0, .bool false, .nils, .nils, .int .i64 0] [(0, 1, .t 9), (2, 3, .t 10)]⟩,
 ⟨some 12, none, .box (.t 11)⟩,
 ⟨some 3, none, .mv (.t 12)⟩]
def c7r2 : List AOper :=
 [⟨some 13, none, .mv (.t 3)⟩,
 ⟨some 14, none, .nilck (.t 13)⟩,
 ⟨some 15, none, .fldA (.t 14) 0⟩,
 ⟨some 16, none, .load (.t 15) none⟩,
 ⟨some 17, none, .eq false 1 (.t 16) (.c .nilp)⟩,
 ⟨some 18, none, .mv (.t 17)⟩,
 ⟨some 19, some (18, false), .mv (.t 3)⟩,
 ⟨some 20, some (18, false), .call (.c (.fn 22 [])) [.t 19, .c (.int .i64 0), .c .nils]⟩,
 ⟨some 21, some (18, false), .un .not (.t 20)⟩,
 ⟨some 22, none, .pick (.t 18) (.c (.bool true)) (.t 21)⟩]
def c7r3 : List AOper :=
 [⟨some 2, none, .mv (.c (.bool false))⟩]
def c7r4 : List AOper :=
 [⟨some 4, none, .mv (.c (.int .i64 0))⟩]
def c7r5 : List AOper :=
 [⟨some 23, none, .mv (.t 4)⟩,
 ⟨some 24, none, .mv (.t 0)⟩,
 ⟨some 25, none, .lenL (.t 24)⟩,
 ⟨some 26, none, .bin .lss (.t 23) (.t 25)⟩,
 ⟨some 27, none, .mv (.t 26)⟩,
 ⟨some 28, some (27, true), .mv (.t 4)⟩,
 ⟨some 29, some (27, true), .bin .lss (.t 28) (.c (.int .i64 60))⟩,
 ⟨some 30, none, .pick (.t 27) (.t 29) (.c (.bool false))⟩]
def c7r6 : List AOper :=
 [⟨some 33, none, .mv (.t 0)⟩,
 ⟨some 34, none, .mv (.t 4)⟩,
 ⟨some 35, none, .idxA (.t 33) (.t 34) none 4⟩,
 ⟨some 36, none, .load (.t 35) (some 4)⟩,
 ⟨some 5, none, .alloc [.int .i64 0, .int .i64 0, .str [], .nils]⟩,
 ⟨none, none, .store (.t 5) (.t 36) 4⟩]
def c7r7 : List AOper :=
 [⟨some 37, none, .fldA (.t 5) 2⟩,
 ⟨some 38, none, .load (.t 37) none⟩,
 ⟨some 39, none, .lenS (.t 38)⟩,
 ⟨some 40, none, .bin .gtr (.t 39) (.c (.int .i64 512))⟩,
 ⟨some 41, none, .mv (.t 40)⟩,
 ⟨some 42, some (41, true), .fldA (.t 5) 2⟩,
 ⟨some 43, some (41, true), .load (.t 42) none⟩,
 ⟨some 44, some (41, true), .lenS (.t 43)⟩,
 ⟨some 45, some (41, true), .bin .leq (.t 44) (.c (.int .i64 131072))⟩,
 ⟨some 46, none, .pick (.t 41) (.t 45) (.c (.bool false))⟩,
 ⟨some 47, none, .mv (.t 46)⟩,
 ⟨some 48, some (47, false), .fldA (.t 5) 2⟩,
 ⟨some 49, some (47, false), .load (.t 48) none⟩,
 ⟨some 50, some (47, false), .lenS (.t 49)⟩,
 ⟨some 51, some (47, false), .bin .gtr (.t 50) (.c (.int .i64 262144))⟩,
 ⟨some 52, none, .pick (.t 47) (.c (.bool true)) (.t 51)⟩]
def c7r8 : List AOper :=
 [⟨some 53, none, .call (.c (.fn 10 [])) []⟩,
 ⟨some 2, none, .mv (.t 53)⟩]
def c7r9 : List AOper :=
 [⟨some 54, none, .fldA (.t 5) 0⟩,
 ⟨some 55, none, .load (.t 54) none⟩,
 ⟨some 56, none, .bin .lss (.t 55) (.c (.int .i64 1))⟩,
 ⟨some 57, none, .mv (.t 56)⟩,
 ⟨some 58, some (57, false), .fldA (.t 5) 0⟩,
 ⟨some 59, some (57, false), .load (.t 58) none⟩,
 ⟨some 60, some (57, false), .bin .gtr (.t 59) (.c (.int .i64 5))⟩,
 ⟨some 61, none, .pick (.t 57) (.c (.bool true)) (.t 60)⟩,
 ⟨some 62, none, .mv (.t 61)⟩,
 ⟨some 63, some (62, false), .mv (.t 3)⟩,
 ⟨some 64, some (62, false), .nilck (.t 63)⟩,
 ⟨some 65, some (62, false), .fldA (.t 64) 1⟩,
 ⟨some 66, some (62, false), .load (.t 65) none⟩,
 ⟨some 67, some (62, false), .eq false 1 (.t 66) (.c .nilp)⟩,
 ⟨some 68, none, .pick (.t 62) (.c (.bool true)) (.t 67)⟩,
 ⟨some 6, none, .mv (.t 68)⟩]
def c7r10 : List AOper :=
 [⟨some 69, none, .mv (.t 6)⟩,
 ⟨some 70, none, .un .not (.t 69)⟩]
def c7r11 : List AOper :=
 [⟨some 72, none, .mv (.t 3)⟩,
 ⟨some 73, none, .load (.t 5) (some 4)⟩,
 ⟨some 74, none, .call (.c (.fn 23 [])) [.t 72, .t 73]⟩,
 ⟨some 71, none, .mv (.t 74)⟩,
 ⟨some 75, none, .ext (.t 71) 0⟩,
 ⟨some 76, none, .ext (.t 71) 1⟩,
 ⟨some 7, none, .mv (.t 75)⟩,
 ⟨some 8, none, .mv (.t 76)⟩]
def c7r12 : List AOper :=
 [⟨some 77, none, .mv (.t 7)⟩,
 ⟨some 78, none, .un .not (.t 77)⟩]
def c7r13 : List AOper :=
 [⟨some 2, none, .mv (.c (.bool false))⟩]
def c7r14 : List AOper :=
 [⟨some 79, none, .mv (.t 8)⟩,
 ⟨some 6, none, .mv (.t 79)⟩]
def c7r15 : List AOper :=
 [⟨some 80, none, .mv (.t 6)⟩]
def c7r16 : List AOper :=
 [⟨some 81, none, .mv (.t 3)⟩,
 ⟨some 82, none, .fldA (.t 5) 1⟩,
 ⟨some 83, none, .load (.t 82) none⟩,
 ⟨some 84, none, .fldA (.t 5) 3⟩,
 ⟨some 85, none, .load (.t 84) none⟩,
 ⟨some 86, none, .call (.c (.fn 22 [])) [.t 81, .t 83, .t 85]⟩,
 ⟨some 87, none, .un .not (.t 86)⟩]
def c7r17 : List AOper :=
 [⟨some 2, none, .mv (.c (.bool false))⟩]
def c7r18 : List AOper :=
 [⟨some 88, none, .mv (.t 3)⟩,
 ⟨some 89, none, .nilck (.t 88)⟩,
 ⟨some 90, none, .fldA (.t 89) 1⟩,
 ⟨some 91, none, .load (.t 90) none⟩,
 ⟨some 92, none, .eq false 1 (.t 91) (.c .nilp)⟩,
 ⟨some 93, none, .mv (.t 92)⟩,
 ⟨some 94, some (93, true), .mv (.t 3)⟩,
 ⟨some 95, some (93, true), .fldA (.t 5) 3⟩,
 ⟨some 96, some (93, true), .load (.t 95) none⟩,
 ⟨some 97, some (93, true), .call (.c (.fn 22 [])) [.t 94, .c (.int .i64 0), .t 96]⟩,
 ⟨some 98, some (93, true), .un .not (.t 97)⟩,
 ⟨some 99, none, .pick (.t 93) (.t 98) (.c (.bool false))⟩]
def c7r19 : List AOper :=
 [⟨some 2, none, .mv (.c (.bool false))⟩]
def c7d0 : List (AOper × List Nat) :=
 [(⟨some 100, none, .mv (.t 3)⟩, []),
 (⟨some 101, none, .nilck (.t 100)⟩, [0]),
 (⟨some 102, none, .fldA (.t 101) 1⟩, [1]),
 (⟨some 103, none, .load (.t 102) none⟩, [2]),
 (⟨some 104, none, .eq false 1 (.t 103) (.c .nilp)⟩, [3]),
 (⟨some 105, none, .mv (.t 104)⟩, [4]),
 (⟨some 106, some (105, false), .mv (.t 3)⟩, [5]),
 (⟨some 107, some (105, false), .call (.c (.fn 24 [])) [.t 106]⟩, [6, 5, 5]),
 (⟨some 108, some (105, false), .un .not (.t 107)⟩, [7, 5]),
 (⟨some 109, none, .pick (.t 105) (.c (.bool true)) (.t 108)⟩, [5, 8]),
 (⟨some 110, none, .mv (.t 109)⟩, [9, 7]),
 (⟨some 111, some (110, false), .mv (.t 3)⟩, [10]),
 (⟨some 112, some (110, false), .nilck (.t 111)⟩, [11, 10]),
 (⟨some 113, some (110, false), .fldA (.t 112) 1⟩, [12, 10]),
 (⟨some 114, some (110, false), .load (.t 113) none⟩, [13, 10]),
 (⟨some 115, some (110, false), .call (.c (.fn 15 [])) [.t 114]⟩, [14, 10, 10]),
 (⟨some 116, some (110, false), .mv (.t 3)⟩, [10]),
 (⟨some 117, some (110, false), .nilck (.t 116)⟩, [16, 10]),
 (⟨some 118, some (110, false), .fldA (.t 117) 5⟩, [17, 10]),
 (⟨some 119, some (110, false), .fldA (.t 118) 0⟩, [18, 10]),
 (⟨some 120, some (110, false), .load (.t 119) none⟩, [19, 10]),
 (⟨some 121, some (110, false), .call (.c (.fn 16 [])) [.t 115, .t 120]⟩, [15, 20, 15, 10]),
 (⟨some 122, some (110, false), .un .not (.t 121)⟩, [21, 10]),
 (⟨some 123, none, .pick (.t 110) (.c (.bool true)) (.t 122)⟩, [10, 22]),
 (⟨some 124, none, .mv (.t 123)⟩, [23, 21]),
 (⟨some 125, some (124, false), .mv (.t 3)⟩, [24]),
 (⟨some 126, some (124, false), .nilck (.t 125)⟩, [25, 24]),
 (⟨some 127, some (124, false), .fldA (.t 126) 1⟩, [26, 24]),
 (⟨some 128, some (124, false), .load (.t 127) none⟩, [27, 24]),
 (⟨some 129, some (124, false), .call (.c (.fn 19 [])) [.t 128]⟩, [28, 24, 24]),
 (⟨some 130, some (124, false), .mv (.t 3)⟩, [24]),
 (⟨some 131, some (124, false), .nilck (.t 130)⟩, [30, 24]),
 (⟨some 132, some (124, false), .fldA (.t 131) 5⟩, [31, 24]),
 (⟨some 133, some (124, false), .fldA (.t 132) 2⟩, [32, 24]),
 (⟨some 134, some (124, false), .load (.t 133) none⟩, [33, 24]),
 (⟨some 135, some (124, false), .bin .neq (.t 129) (.t 134)⟩, [29, 34, 24]),
 (⟨some 136, none, .pick (.t 124) (.c (.bool true)) (.t 135)⟩, [24, 35])]
def c7r20 : List AOper :=
 [⟨some 137, none, .mv (.t 3)⟩,
 ⟨some 138, none, .nilck (.t 137)⟩,
 ⟨some 139, none, .fldA (.t 138) 1⟩,
 ⟨some 140, none, .load (.t 139) none⟩,
 ⟨some 141, none, .eq false 1 (.t 140) (.c .nilp)⟩,
 ⟨some 142, none, .mv (.t 141)⟩,
 ⟨some 143, some (142, true), .call (.c (.fn 10 [])) []⟩,
 ⟨some 144, none, .pick (.t 142) (.t 143) (.c (.bool false))⟩,
 ⟨some 2, none, .mv (.t 144)⟩]
def c7r21 : List AOper :=
 [⟨some 31, none, .mv (.t 4)⟩,
 ⟨some 32, none, .bin .add (.t 31) (.c (.int .i64 1))⟩,
 ⟨some 4, none, .mv (.t 32)⟩]
def c7l0 : AC := (.seq (.seq (.region c7r5) (.cond (.t 30) .skip (.exit 0))) (.seq (.block 1 (.seq (.region c7r6) (.seq (.seq (.region c7r7) (.cond (.t 52) (.seq (.region c7r8) .ret) .skip)) (.seq (.region c7r9) (.seq (.seq (.region c7r10) (.cond (.t 70) (.seq (.region c7r11) (.seq (.seq (.region c7r12) (.cond (.t 78) (.seq (.region c7r13) .ret) .skip)) (.region c7r14))) .skip)) (.seq (.seq (.region c7r15) (.cond (.t 80) (.seq (.seq (.region c7r16) (.cond (.t 87) (.seq (.region c7r17) .ret) .skip)) (.seq (.region c7r18) (.cond (.t 99) (.seq (.region c7r19) .ret) .skip))) .skip)) (.seq (.drawn c7d0) (.cond (.t 136) (.seq (.region c7r20) .ret) .skip)))))))) (.region c7r21)))
def c7r22 : List AOper :=
 [⟨some 145, none, .call (.c (.fn 10 [])) []⟩,
 ⟨some 2, none, .mv (.t 145)⟩]
def c7 : AC := (.seq (.region c7r0) (.seq (.region c7r1) (.seq (.seq (.region c7r2) (.cond (.t 22) (.seq (.region c7r3) .ret) .skip)) (.seq (.seq (.region c7r4) (.block 0 (.loop c7l0))) (.seq (.region c7r22) .ret)))))
def r7 : List ARes := [.tmp 2]
theorem c7_ok : Tryz.f7.body.bind (cCode Tryz.prog Tryz.f7.ntmps) = some c7 := by kernel_rfl
theorem r7_ok : Tryz.f7.results.toList.mapM (cRes Tryz.prog Tryz.f7.ntmps) = some r7 := by kernel_rfl
def c8r0 : List AOper :=
 [⟨some 0, none, .mv (.c .nilp)⟩]
def c8r1 : List AOper :=
 [⟨some 1, none, .mkm⟩,
 ⟨some 2, none, .build [.nilm, .int .i64 0, .bool false] [(0, 1, .t 1), (1, 1, .c (.int .i64 (-1)))]⟩,
 ⟨some 3, none, .box (.t 2)⟩,
 ⟨some 0, none, .mv (.t 3)⟩]
def c8 : AC := (.seq (.region c8r0) (.seq (.region c8r1) .ret))
def r8 : List ARes := [.tmp 0]
theorem c8_ok : Tryz.f8.body.bind (cCode Tryz.prog Tryz.f8.ntmps) = some c8 := by kernel_rfl
theorem r8_ok : Tryz.f8.results.toList.mapM (cRes Tryz.prog Tryz.f8.ntmps) = some r8 := by kernel_rfl
def c9r0 : List AOper :=
 [⟨some 2, none, .box (.t 0)⟩,
 ⟨some 3, none, .box (.t 1)⟩,
 ⟨some 4, none, .mv (.c .nilp)⟩,
 ⟨some 5, none, .mv (.c (.int .i64 0))⟩]
def c9r1 : List AOper :=
 [⟨some 9, none, .load (.t 2) none⟩,
 ⟨some 10, none, .call (.c (.fn 25 [])) [.t 9]⟩,
 ⟨some 11, none, .un .not (.t 10)⟩,
 ⟨some 12, none, .mv (.t 11)⟩,
 ⟨some 13, some (12, false), .load (.t 3) none⟩,
 ⟨some 14, some (12, false), .bin .lss (.t 13) (.c (.int .i64 0))⟩,
 ⟨some 15, none, .pick (.t 12) (.c (.bool true)) (.t 14)⟩,
 ⟨some 16, none, .mv (.t 15)⟩,
 ⟨some 17, some (16, false), .load (.t 3) none⟩,
 ⟨some 18, some (16, false), .bin .gtr (.t 17) (.c (.int .i64 1048576))⟩,
 ⟨some 19, none, .pick (.t 16) (.c (.bool true)) (.t 18)⟩,
 ⟨some 8, none, .mv (.t 19)⟩]
def c9r2 : List AOper :=
 [⟨some 4, none, .mv (.c .nilp)⟩,
 ⟨some 5, none, .mv (.c (.int .i64 1))⟩]
def c9r3 : List AOper :=
 [⟨some 21, none, .load (.t 2) none⟩,
 ⟨some 22, none, .call (.c (.fn 18 [])) [.t 21]⟩,
 ⟨some 20, none, .mv (.t 22)⟩]
def c9r4 : List AOper :=
 [⟨some 4, none, .mv (.c .nilp)⟩,
 ⟨some 5, none, .mv (.c (.int .i64 50))⟩]
def c9r5 : List AOper :=
 [⟨some 23, none, .load (.t 2) none⟩,
 ⟨some 24, none, .load (.t 3) none⟩,
 ⟨some 25, none, .build [.nilp, .nils, .int .i64 0] [(0, 1, .t 23), (2, 1, .t 24)]⟩,
 ⟨some 26, none, .box (.t 25)⟩,
 ⟨some 6, none, .alloc [.nilp]⟩,
 ⟨none, none, .store (.t 6) (.t 26) 1⟩]
def c9r6 : List AOper :=
 [⟨some 27, none, .load (.t 2) none⟩,
 ⟨some 28, none, .mkf 27 [.t 3, .t 2, .t 6]⟩,
 ⟨some 29, none, .call (.c (.fn 26 [])) [.t 27, .t 28]⟩,
 ⟨some 7, none, .mv (.t 29)⟩]
def c9r7 : List AOper :=
 [⟨some 30, none, .mv (.t 7)⟩,
 ⟨some 31, none, .bin .eql (.t 30) (.c (.int .i64 0))⟩,
 ⟨some 32, none, .mv (.t 31)⟩,
 ⟨some 33, some (32, true), .load (.t 6) none⟩,
 ⟨some 34, some (32, true), .nilck (.t 33)⟩,
 ⟨some 35, some (32, true), .fldA (.t 34) 2⟩,
 ⟨some 36, some (32, true), .load (.t 35) none⟩,
 ⟨some 37, some (32, true), .bin .gtr (.t 36) (.c (.int .i64 99999998))⟩,
 ⟨some 38, none, .pick (.t 32) (.t 37) (.c (.bool false))⟩]
def c9r8 : List AOper :=
 [⟨some 7, none, .mv (.c (.int .i64 2))⟩]
def c9r9 : List AOper :=
 [⟨some 39, none, .mv (.t 7)⟩,
 ⟨some 40, none, .bin .eql (.t 39) (.c (.int .i64 0))⟩]
def c9d0 : List (AOper × List Nat) :=
 [(⟨some 41, none, .load (.t 2) none⟩, []),
 (⟨some 42, none, .load (.t 6) none⟩, []),
 (⟨some 43, none, .nilck (.t 42)⟩, [1]),
 (⟨some 44, none, .fldA (.t 43) 2⟩, [2]),
 (⟨some 45, none, .load (.t 44) none⟩, [3]),
 (⟨some 46, none, .call (.c (.fn 29 [])) [.t 45]⟩, [4]),
 (⟨some 47, none, .call (.c (.fn 32 [])) [.t 41, .t 46]⟩, [0, 5, 5]),
 (⟨some 7, none, .mv (.t 47)⟩, [6, 6, 0, 1, 2, 3, 4, 5, 6])]
def c9r10 : List AOper :=
 [⟨some 48, none, .mv (.t 7)⟩,
 ⟨some 49, none, .bin .neq (.t 48) (.c (.int .i64 0))⟩]
def c9r11 : List AOper :=
 [⟨some 50, none, .mv (.t 7)⟩,
 ⟨some 4, none, .mv (.c .nilp)⟩,
 ⟨some 5, none, .mv (.t 50)⟩]
def c9r12 : List AOper :=
 [⟨some 51, none, .load (.t 6) none⟩,
 ⟨some 4, none, .mv (.t 51)⟩,
 ⟨some 5, none, .mv (.c (.int .i64 0))⟩]
def c9 : AC := (.seq (.region c9r0) (.seq (.block 0 (.seq (.region c9r1) (.cond (.t 8) (.seq (.region c9r2) .ret) (.seq (.region c9r3) (.cond (.t 20) (.seq (.region c9r4) .ret) .skip))))) (.seq (.region c9r5) (.seq (.region c9r6) (.seq (.seq (.region c9r7) (.cond (.t 38) (.region c9r8) .skip)) (.seq (.seq (.region c9r9) (.cond (.t 40) (.drawn c9d0) .skip)) (.seq (.seq (.region c9r10) (.cond (.t 49) (.seq (.region c9r11) .ret) .skip)) (.seq (.region c9r12) .ret))))))))
def r9 : List ARes := [.tmp 4, .tmp 5]
theorem c9_ok : Tryz.f9.body.bind (cCode Tryz.prog Tryz.f9.ntmps) = some c9 := by kernel_rfl
theorem r9_ok : Tryz.f9.results.toList.mapM (cRes Tryz.prog Tryz.f9.ntmps) = some r9 := by kernel_rfl
def c10r0 : List AOper :=
 [⟨some 0, none, .mv (.c (.bool false))⟩]
def c10r1 : List AOper :=
 [⟨some 6, none, .call (.c (.fn 8 [])) []⟩,
 ⟨some 1, none, .mv (.t 6)⟩]
def c10r2 : List AOper :=
 [⟨some 8, none, .mv (.t 1)⟩,
 ⟨some 9, none, .call (.c (.fn 9 [])) [.t 8, .c (.int .i64 3)]⟩,
 ⟨some 7, none, .mv (.t 9)⟩,
 ⟨some 10, none, .ext (.t 7) 0⟩,
 ⟨some 11, none, .ext (.t 7) 1⟩,
 ⟨some 2, none, .mv (.t 10)⟩,
 ⟨some 3, none, .mv (.t 11)⟩]
def c10r3 : List AOper :=
 [⟨some 12, none, .mv (.t 3)⟩,
 ⟨some 13, none, .bin .neq (.t 12) (.c (.int .i64 0))⟩,
 ⟨some 14, none, .mv (.t 13)⟩,
 ⟨some 15, some (14, false), .mv (.t 2)⟩,
 ⟨some 16, some (14, false), .eq false 1 (.t 15) (.c .nilp)⟩,
 ⟨some 17, none, .pick (.t 14) (.c (.bool true)) (.t 16)⟩,
 ⟨some 18, none, .mv (.t 17)⟩,
 ⟨some 19, some (18, false), .mv (.t 2)⟩,
 ⟨some 20, some (18, false), .call (.c (.fn 19 [])) [.t 19]⟩,
 ⟨some 21, some (18, false), .bin .neq (.t 20) (.c (.int .i64 3))⟩,
 ⟨some 22, none, .pick (.t 18) (.c (.bool true)) (.t 21)⟩,
 ⟨some 23, none, .mv (.t 22)⟩,
 ⟨some 24, some (23, false), .mv (.t 2)⟩,
 ⟨some 25, some (23, false), .call (.c (.fn 11 [])) [.t 24, .c (.str [111, 110, 101])]⟩,
 ⟨some 26, some (23, false), .bin .neq (.t 25) (.c (.int .i64 0))⟩,
 ⟨some 27, none, .pick (.t 23) (.c (.bool true)) (.t 26)⟩,
 ⟨some 28, none, .mv (.t 27)⟩,
 ⟨some 29, some (28, false), .mv (.t 2)⟩,
 ⟨some 30, some (28, false), .call (.c (.fn 12 [])) [.t 29]⟩,
 ⟨some 31, some (28, false), .bin .neq (.t 30) (.c (.int .i64 0))⟩,
 ⟨some 32, none, .pick (.t 28) (.c (.bool true)) (.t 31)⟩,
 ⟨some 33, none, .mv (.t 32)⟩,
 ⟨some 34, some (33, false), .mv (.t 2)⟩,
 ⟨some 35, some (33, false), .call (.c (.fn 11 [])) [.t 34, .c (.str [116, 119, 111])]⟩,
 ⟨some 36, some (33, false), .bin .neq (.t 35) (.c (.int .i64 0))⟩,
 ⟨some 37, none, .pick (.t 33) (.c (.bool true)) (.t 36)⟩]
def c10r4 : List AOper :=
 [⟨some 0, none, .mv (.c (.bool false))⟩]
def c10r5 : List AOper :=
 [⟨some 38, none, .mv (.t 2)⟩,
 ⟨some 39, none, .call (.c (.fn 15 [])) [.t 38]⟩,
 ⟨some 40, none, .bslice 2 1 [.str []] [(0, .c (.str [111, 110, 101])), (1, .c (.str [116, 119, 111]))]⟩,
 ⟨some 41, none, .call (.c (.fn 16 [])) [.t 39, .t 40]⟩,
 ⟨some 42, none, .un .not (.t 41)⟩,
 ⟨some 43, none, .mv (.t 42)⟩,
 ⟨some 44, some (43, false), .mv (.t 1)⟩,
 ⟨some 45, some (43, false), .call (.c (.fn 14 [])) [.t 44, .c .nils]⟩,
 ⟨some 46, some (43, false), .bin .neq (.t 45) (.c (.int .i64 0))⟩,
 ⟨some 47, none, .pick (.t 43) (.c (.bool true)) (.t 46)⟩]
def c10r6 : List AOper :=
 [⟨some 0, none, .mv (.c (.bool false))⟩]
def c10r7 : List AOper :=
 [⟨some 49, none, .mv (.t 1)⟩,
 ⟨some 50, none, .call (.c (.fn 9 [])) [.t 49, .c (.int .i64 3)]⟩,
 ⟨some 48, none, .mv (.t 50)⟩,
 ⟨some 51, none, .ext (.t 48) 0⟩,
 ⟨some 52, none, .ext (.t 48) 1⟩,
 ⟨some 4, none, .mv (.t 51)⟩,
 ⟨some 5, none, .mv (.t 52)⟩]
def c10r8 : List AOper :=
 [⟨some 53, none, .mv (.t 5)⟩,
 ⟨some 54, none, .bin .eql (.t 53) (.c (.int .i64 0))⟩,
 ⟨some 55, none, .mv (.t 54)⟩,
 ⟨some 56, some (55, true), .mv (.t 4)⟩,
 ⟨some 57, some (55, true), .eq true 1 (.t 56) (.c .nilp)⟩,
 ⟨some 58, none, .pick (.t 55) (.t 57) (.c (.bool false))⟩,
 ⟨some 59, none, .mv (.t 58)⟩,
 ⟨some 60, some (59, true), .mv (.t 4)⟩,
 ⟨some 61, some (59, true), .call (.c (.fn 15 [])) [.t 60]⟩,
 ⟨some 62, some (59, true), .bslice 1 1 [.str []] [(0, .c (.str [111, 110, 101]))]⟩,
 ⟨some 63, some (59, true), .call (.c (.fn 16 [])) [.t 61, .t 62]⟩,
 ⟨some 64, none, .pick (.t 59) (.t 63) (.c (.bool false))⟩,
 ⟨some 65, none, .mv (.t 64)⟩,
 ⟨some 66, some (65, true), .mv (.t 4)⟩,
 ⟨some 67, some (65, true), .call (.c (.fn 19 [])) [.t 66]⟩,
 ⟨some 68, some (65, true), .bin .eql (.t 67) (.c (.int .i64 4))⟩,
 ⟨some 69, none, .pick (.t 65) (.t 68) (.c (.bool false))⟩,
 ⟨some 70, none, .mv (.t 69)⟩,
 ⟨some 71, some (70, true), .mv (.t 1)⟩,
 ⟨some 72, some (70, true), .call (.c (.fn 33 [])) [.t 71]⟩,
 ⟨some 73, some (70, true), .bslice 2 1 [.str []] [(0, .c (.str [108, 111, 103, 45, 48, 48, 48, 48, 48, 48, 48, 51])), (1, .c (.str [108, 111, 103, 45, 48, 48, 48, 48, 48, 48, 48, 52]))]⟩,
 ⟨some 74, some (70, true), .call (.c (.fn 16 [])) [.t 72, .t 73]⟩,
 ⟨some 75, none, .pick (.t 70) (.t 74) (.c (.bool false))⟩,
 ⟨some 0, none, .mv (.t 75)⟩]
def c10 : AC := (.seq (.region c10r0) (.seq (.region c10r1) (.seq (.region c10r2) (.seq (.seq (.region c10r3) (.cond (.t 37) (.seq (.region c10r4) .ret) .skip)) (.seq (.seq (.region c10r5) (.cond (.t 47) (.seq (.region c10r6) .ret) .skip)) (.seq (.region c10r7) (.seq (.region c10r8) .ret)))))))
def r10 : List ARes := [.tmp 0]
theorem c10_ok : Tryz.f10.body.bind (cCode Tryz.prog Tryz.f10.ntmps) = some c10 := by kernel_rfl
theorem r10_ok : Tryz.f10.results.toList.mapM (cRes Tryz.prog Tryz.f10.ntmps) = some r10 := by kernel_rfl
def c11r0 : List AOper :=
 [⟨some 4, none, .mv (.c (.int .i64 0))⟩]
def c11r1 : List AOper :=
 [⟨some 8, none, .mv (.t 0)⟩,
 ⟨some 9, none, .call (.c (.fn 34 [])) [.t 8]⟩,
 ⟨some 10, none, .un .not (.t 9)⟩,
 ⟨some 11, none, .mv (.t 10)⟩,
 ⟨some 12, some (11, false), .mv (.t 1)⟩,
 ⟨some 13, some (11, false), .lenS (.t 12)⟩,
 ⟨some 14, some (11, false), .bin .gtr (.t 13) (.c (.int .i64 131072))⟩,
 ⟨some 15, none, .pick (.t 11) (.c (.bool true)) (.t 14)⟩]
def c11r2 : List AOper :=
 [⟨some 4, none, .mv (.c (.int .i64 1))⟩]
def c11r3 : List AOper :=
 [⟨some 17, none, .mv (.t 1)⟩,
 ⟨some 18, none, .call (.c (.fn 35 [])) [.t 17]⟩,
 ⟨some 16, none, .mv (.t 18)⟩,
 ⟨some 19, none, .ext (.t 16) 0⟩,
 ⟨some 20, none, .ext (.t 16) 1⟩,
 ⟨some 5, none, .mv (.t 19)⟩,
 ⟨some 6, none, .mv (.t 20)⟩]
def c11d0 : List (AOper × List Nat) :=
 [(⟨some 21, none, .mv (.t 0)⟩, []),
 (⟨some 22, none, .nilck (.t 21)⟩, [0]),
 (⟨some 23, none, .fldA (.t 22) 0⟩, [1]),
 (⟨some 24, none, .load (.t 23) none⟩, [2]),
 (⟨some 25, none, .mv (.t 0)⟩, []),
 (⟨some 26, none, .nilck (.t 25)⟩, [4]),
 (⟨some 27, none, .fldA (.t 26) 2⟩, [5]),
 (⟨some 28, none, .load (.t 27) none⟩, [6]),
 (⟨some 29, none, .call (.c (.fn 29 [])) [.t 28]⟩, [7]),
 (⟨some 30, none, .mv (.t 5)⟩, []),
 (⟨some 31, none, .call (.c (.fn 36 [])) [.t 24, .t 29, .t 30]⟩, [3, 8, 9, 8]),
 (⟨some 7, none, .mv (.t 31)⟩, [10, 10, 0, 1, 2, 3, 4, 5, 6, 7, 8, 9, 10])]
def c11r4 : List AOper :=
 [⟨some 32, none, .mv (.t 7)⟩,
 ⟨some 33, none, .bin .eql (.t 32) (.c (.int .i64 0))⟩]
def c11d1 : List (AOper × List Nat) :=
 [(⟨some 34, none, .mv (.t 0)⟩, []),
 (⟨some 35, none, .mv (.t 0)⟩, []),
 (⟨some 36, none, .nilck (.t 35)⟩, [1]),
 (⟨some 37, none, .fldA (.t 36) 1⟩, [2]),
 (⟨some 38, none, .load (.t 37) none⟩, [3]),
 (⟨some 39, none, .mv (.t 1)⟩, []),
 (⟨some 40, none, .mv (.t 0)⟩, []),
 (⟨some 41, none, .nilck (.t 40)⟩, [6]),
 (⟨some 42, none, .fldA (.t 41) 2⟩, [7]),
 (⟨some 43, none, .load (.t 42) none⟩, [8]),
 (⟨some 44, none, .build [.str [], .int .i64 0] [(0, 1, .t 39), (1, 1, .t 43)]⟩, [5, 9]),
 (⟨some 45, none, .bslice 1 2 [.str [], .int .i64 0] [(0, .t 44)]⟩, [10]),
 (⟨some 46, none, .append (.t 38) (.t 45) 2 24 false⟩, [4, 11]),
 (⟨some 47, none, .nilck (.t 34)⟩, [0, 0, 1, 2, 3, 4, 5, 6, 7, 8, 9, 10, 11, 12]),
 (⟨some 48, none, .fldA (.t 47) 1⟩, [13, 0, 1, 2, 3, 4, 5, 6, 7, 8, 9, 10, 11, 12]),
 (⟨none, none, .store (.t 48) (.t 46) 1⟩, [14, 12, 12, 0, 1, 2, 3, 4, 5, 6, 7, 8, 9, 10, 11, 12])]
def c11r5 : List AOper :=
 [⟨some 49, none, .mv (.t 7)⟩,
 ⟨some 4, none, .mv (.t 49)⟩]
def c11 : AC := (.seq (.region c11r0) (.seq (.seq (.region c11r1) (.cond (.t 15) (.seq (.region c11r2) .ret) .skip)) (.seq (.region c11r3) (.seq (.drawn c11d0) (.seq (.seq (.region c11r4) (.cond (.t 33) (.drawn c11d1) .skip)) (.seq (.region c11r5) .ret))))))
def r11 : List ARes := [.tmp 4]
theorem c11_ok : Tryz.f11.body.bind (cCode Tryz.prog Tryz.f11.ntmps) = some c11 := by kernel_rfl
theorem r11_ok : Tryz.f11.results.toList.mapM (cRes Tryz.prog Tryz.f11.ntmps) = some r11 := by kernel_rfl
def c12r0 : List AOper :=
 [⟨some 2, none, .mv (.c (.int .i64 0))⟩]
def c12r1 : List AOper :=
 [⟨some 3, none, .mv (.t 0)⟩,
 ⟨some 4, none, .call (.c (.fn 34 [])) [.t 3]⟩,
 ⟨some 5, none, .un .not (.t 4)⟩]
def c12r2 : List AOper :=
 [⟨some 2, none, .mv (.c (.int .i64 1))⟩]
def c12d0 : List (AOper × List Nat) :=
 [(⟨some 6, none, .mv (.t 0)⟩, []),
 (⟨some 7, none, .nilck (.t 6)⟩, [0]),
 (⟨some 8, none, .fldA (.t 7) 0⟩, [1]),
 (⟨some 9, none, .load (.t 8) none⟩, [2]),
 (⟨some 10, none, .mv (.t 0)⟩, []),
 (⟨some 11, none, .nilck (.t 10)⟩, [4]),
 (⟨some 12, none, .fldA (.t 11) 2⟩, [5]),
 (⟨some 13, none, .load (.t 12) none⟩, [6]),
 (⟨some 14, none, .call (.c (.fn 29 [])) [.t 13]⟩, [7]),
 (⟨some 15, none, .call (.c (.fn 37 [])) [.t 9, .t 14]⟩, [3, 8, 8]),
 (⟨some 2, none, .mv (.t 15)⟩, [9, 9, 0, 1, 2, 3, 4, 5, 6, 7, 8, 9])]
def c12 : AC := (.seq (.region c12r0) (.seq (.seq (.region c12r1) (.cond (.t 5) (.seq (.region c12r2) .ret) .skip)) (.seq (.drawn c12d0) .ret)))
def r12 : List ARes := [.tmp 2]
theorem c12_ok : Tryz.f12.body.bind (cCode Tryz.prog Tryz.f12.ntmps) = some c12 := by kernel_rfl
theorem r12_ok : Tryz.f12.results.toList.mapM (cRes Tryz.prog Tryz.f12.ntmps) = some r12 := by kernel_rfl
def c13r0 : List AOper :=
 [⟨some 2, none, .mv (.c (.int .i64 0))⟩,
 ⟨some 3, none, .mv (.c (.int .i64 0))⟩]
def c13r1 : List AOper :=
 [⟨some 5, none, .mv (.t 0)⟩,
 ⟨some 6, none, .call (.c (.fn 12 [])) [.t 5]⟩,
 ⟨some 4, none, .mv (.t 6)⟩]
def c13r2 : List AOper :=
 [⟨some 7, none, .mv (.t 4)⟩,
 ⟨some 8, none, .bin .eql (.t 7) (.c (.int .i64 0))⟩,
 ⟨some 9, none, .mv (.t 8)⟩,
 ⟨some 10, some (9, true), .mv (.t 0)⟩,
 ⟨some 11, some (9, true), .nilck (.t 10)⟩,
 ⟨some 12, some (9, true), .fldA (.t 11) 2⟩,
 ⟨some 13, some (9, true), .load (.t 12) none⟩,
 ⟨some 14, some (9, true), .bin .geq (.t 13) (.c (.int .i64 99999998))⟩,
 ⟨some 15, none, .pick (.t 9) (.t 14) (.c (.bool false))⟩]
def c13r3 : List AOper :=
 [⟨some 4, none, .mv (.c (.int .i64 2))⟩]
def c13r4 : List AOper :=
 [⟨some 16, none, .mv (.t 4)⟩,
 ⟨some 17, none, .bin .eql (.t 16) (.c (.int .i64 0))⟩]
def c13d0 : List (AOper × List Nat) :=
 [(⟨some 18, none, .mv (.t 0)⟩, []),
 (⟨some 19, none, .nilck (.t 18)⟩, [0]),
 (⟨some 20, none, .fldA (.t 19) 0⟩, [1]),
 (⟨some 21, none, .load (.t 20) none⟩, [2]),
 (⟨some 22, none, .mv (.t 0)⟩, []),
 (⟨some 23, none, .nilck (.t 22)⟩, [4]),
 (⟨some 24, none, .fldA (.t 23) 2⟩, [5]),
 (⟨some 25, none, .load (.t 24) none⟩, [6]),
 (⟨some 26, none, .bin .add (.t 25) (.c (.int .i64 1))⟩, [7]),
 (⟨some 27, none, .call (.c (.fn 29 [])) [.t 26]⟩, [8]),
 (⟨some 28, none, .call (.c (.fn 32 [])) [.t 21, .t 27]⟩, [3, 9, 9]),
 (⟨some 4, none, .mv (.t 28)⟩, [10, 10, 0, 1, 2, 3, 4, 5, 6, 7, 8, 9, 10])]
def c13r5 : List AOper :=
 [⟨some 29, none, .mv (.t 4)⟩,
 ⟨some 30, none, .bin .neq (.t 29) (.c (.int .i64 0))⟩]
def c13r6 : List AOper :=
 [⟨some 31, none, .mv (.t 4)⟩,
 ⟨some 2, none, .mv (.c (.int .i64 0))⟩,
 ⟨some 3, none, .mv (.t 31)⟩]
def c13r7 : List AOper :=
 [⟨some 32, none, .mv (.t 0)⟩,
 ⟨some 33, none, .nilck (.t 32)⟩,
 ⟨some 34, none, .fldA (.t 33) 2⟩,
 ⟨some 35, none, .load (.t 34) none⟩,
 ⟨some 36, none, .bin .add (.t 35) (.c (.int .i64 1))⟩,
 ⟨some 37, none, .nilck (.t 32)⟩,
 ⟨some 38, none, .fldA (.t 37) 2⟩,
 ⟨none, none, .store (.t 38) (.t 36) 1⟩]
def c13r8 : List AOper :=
 [⟨some 39, none, .mv (.t 0)⟩,
 ⟨some 40, none, .nilck (.t 39)⟩,
 ⟨some 41, none, .fldA (.t 40) 2⟩,
 ⟨some 42, none, .load (.t 41) none⟩,
 ⟨some 2, none, .mv (.t 42)⟩,
 ⟨some 3, none, .mv (.c (.int .i64 0))⟩]
def c13 : AC := (.seq (.region c13r0) (.seq (.region c13r1) (.seq (.seq (.region c13r2) (.cond (.t 15) (.region c13r3) .skip)) (.seq (.seq (.region c13r4) (.cond (.t 17) (.drawn c13d0) .skip)) (.seq (.seq (.region c13r5) (.cond (.t 30) (.seq (.region c13r6) .ret) .skip)) (.seq (.region c13r7) (.seq (.region c13r8) .ret)))))))
def r13 : List ARes := [.tmp 2, .tmp 3]
theorem c13_ok : Tryz.f13.body.bind (cCode Tryz.prog Tryz.f13.ntmps) = some c13 := by kernel_rfl
theorem r13_ok : Tryz.f13.results.toList.mapM (cRes Tryz.prog Tryz.f13.ntmps) = some r13 := by kernel_rfl
def c14r0 : List AOper :=
 [⟨some 4, none, .mv (.c (.int .i64 0))⟩]
def c14r1 : List AOper :=
 [⟨some 9, none, .mv (.t 0)⟩,
 ⟨some 10, none, .call (.c (.fn 38 [])) [.t 9, .c .nils]⟩,
 ⟨some 11, none, .un .not (.t 10)⟩]
def c14r2 : List AOper :=
 [⟨some 4, none, .mv (.c (.int .i64 1))⟩]
def c14r3 : List AOper :=
 [⟨some 12, none, .mv (.t 0)⟩,
 ⟨some 13, none, .call (.c (.fn 33 [])) [.t 12]⟩,
 ⟨some 14, none, .lenL (.t 13)⟩,
 ⟨some 15, none, .mv (.c (.int .i64 0))⟩]
def c14r4 : List AOper :=
 [⟨some 16, none, .bin .lss (.t 15) (.t 14)⟩]
def c14r5 : List AOper :=
 [⟨some 17, none, .mv (.t 15)⟩,
 ⟨some 18, none, .idxA (.t 13) (.t 15) none 1⟩,
 ⟨some 19, none, .load (.t 18) none⟩,
 ⟨some 5, none, .mv (.t 17)⟩,
 ⟨some 6, none, .mv (.t 19)⟩]
def c14r6 : List AOper :=
 [⟨some 20, none, .mv (.t 0)⟩,
 ⟨some 21, none, .nilck (.t 20)⟩,
 ⟨some 22, none, .fldA (.t 21) 0⟩,
 ⟨some 23, none, .load (.t 22) none⟩,
 ⟨some 24, none, .mv (.t 6)⟩,
 ⟨some 25, none, .mget 1 (.t 23) (.t 24) .nilp false⟩,
 ⟨some 7, none, .mv (.t 25)⟩]
def c14r7 : List AOper :=
 [⟨some 8, none, .mv (.c (.int .i64 0))⟩]
def c14r8 : List AOper :=
 [⟨some 26, none, .mv (.t 1)⟩,
 ⟨some 27, none, .lenL (.t 26)⟩,
 ⟨some 28, none, .bin .gtr (.t 27) (.c (.int .i64 0))⟩]
def c14r9 : List AOper :=
 [⟨some 29, none, .mv (.t 1)⟩,
 ⟨some 30, none, .mv (.t 5)⟩,
 ⟨some 31, none, .mv (.t 1)⟩,
 ⟨some 32, none, .lenL (.t 31)⟩,
 ⟨some 33, none, .bin .rem (.t 30) (.t 32)⟩,
 ⟨some 34, none, .idxA (.t 29) (.t 33) none 1⟩,
 ⟨some 35, none, .load (.t 34) none⟩,
 ⟨some 36, none, .mm true [.c (.int .i64 0), .t 35]⟩,
 ⟨some 8, none, .mv (.t 36)⟩]
def c14d0 : List (AOper × List Nat) :=
 [(⟨some 37, none, .mv (.t 7)⟩, []),
 (⟨some 38, none, .mv (.t 7)⟩, []),
 (⟨some 39, none, .nilck (.t 38)⟩, [1]),
 (⟨some 40, none, .fldA (.t 39) 0⟩, [2]),
 (⟨some 41, none, .load (.t 40) none⟩, [3]),
 (⟨some 42, none, .mv (.t 7)⟩, []),
 (⟨some 43, none, .nilck (.t 42)⟩, [5]),
 (⟨some 44, none, .fldA (.t 43) 1⟩, [6]),
 (⟨some 45, none, .load (.t 44) none⟩, [7]),
 (⟨some 46, none, .mv (.t 8)⟩, []),
 (⟨some 47, none, .mv (.t 7)⟩, []),
 (⟨some 48, none, .nilck (.t 47)⟩, [10]),
 (⟨some 49, none, .fldA (.t 48) 0⟩, [11]),
 (⟨some 50, none, .load (.t 49) none⟩, [12]),
 (⟨some 51, none, .lenL (.t 50)⟩, [13]),
 (⟨some 52, none, .mv (.t 7)⟩, []),
 (⟨some 53, none, .nilck (.t 52)⟩, [15]),
 (⟨some 54, none, .fldA (.t 53) 1⟩, [16]),
 (⟨some 55, none, .load (.t 54) none⟩, [17]),
 (⟨some 56, none, .bin .sub (.t 51) (.t 55)⟩, [14, 18]),
 (⟨some 57, none, .mm false [.t 46, .t 56]⟩, [9, 19]),
 (⟨some 58, none, .bin .add (.t 45) (.t 57)⟩, [8, 20]),
 (⟨some 59, none, .slc (.t 41) none (some (.t 58)) none 1⟩, [4, 21]),
 (⟨some 60, none, .nilck (.t 37)⟩, [0, 0, 1, 2, 3, 4, 5, 6, 7, 8, 9, 10, 11, 12, 13, 14, 15, 16, 17, 18, 19, 20, 21, 22]),
 (⟨some 61, none, .fldA (.t 60) 0⟩, [23, 0, 1, 2, 3, 4, 5, 6, 7, 8, 9, 10, 11, 12, 13, 14, 15, 16, 17, 18, 19, 20, 21, 22]),
 (⟨none, none, .store (.t 61) (.t 59) 1⟩, [24, 22, 0, 1, 2, 3, 4, 5, 6, 7, 8, 9, 10, 11, 12, 13, 14, 15, 16, 17, 18, 19, 20, 21, 22])]
def c14r10 : List AOper :=
 [⟨some 62, none, .mv (.t 7)⟩,
 ⟨some 63, none, .mv (.t 7)⟩,
 ⟨some 64, none, .nilck (.t 63)⟩,
 ⟨some 65, none, .fldA (.t 64) 0⟩,
 ⟨some 66, none, .load (.t 65) none⟩,
 ⟨some 67, none, .lenL (.t 66)⟩,
 ⟨some 68, none, .nilck (.t 62)⟩,
 ⟨some 69, none, .fldA (.t 68) 1⟩,
 ⟨none, none, .store (.t 69) (.t 67) 1⟩]
def c14r11 : List AOper :=
 [⟨some 70, none, .bin .add (.t 15) (.c (.int .i64 1))⟩,
 ⟨some 15, none, .mv (.t 70)⟩]
def c14l0 : AC := (.seq (.region c14r4) (.seq (.cond (.t 16) .skip (.exit 0)) (.seq (.block 1 (.seq (.region c14r5) (.seq (.region c14r6) (.seq (.region c14r7) (.seq (.seq (.region c14r8) (.cond (.t 28) (.region c14r9) .skip)) (.seq (.drawn c14d0) (.region c14r10))))))) (.region c14r11))))
def c14r12 : List AOper :=
 [⟨some 71, none, .mv (.t 0)⟩,
 ⟨some 72, none, .mv (.t 0)⟩,
 ⟨some 73, none, .nilck (.t 71)⟩,
 ⟨some 74, none, .fldA (.t 73) 1⟩,
 ⟨none, none, .store (.t 74) (.c (.int .i64 (-1))) 1⟩,
 ⟨some 75, none, .nilck (.t 72)⟩,
 ⟨some 76, none, .fldA (.t 75) 2⟩,
 ⟨none, none, .store (.t 76) (.c (.bool false)) 1⟩]
def c14r13 : List AOper :=
 [⟨some 4, none, .mv (.c (.int .i64 0))⟩]
def c14 : AC := (.seq (.region c14r0) (.seq (.seq (.region c14r1) (.cond (.t 11) (.seq (.region c14r2) .ret) .skip)) (.seq (.seq (.region c14r3) (.block 0 (.loop c14l0))) (.seq (.region c14r12) (.seq (.region c14r13) .ret)))))
def r14 : List ARes := [.tmp 4]
theorem c14_ok : Tryz.f14.body.bind (cCode Tryz.prog Tryz.f14.ntmps) = some c14 := by kernel_rfl
theorem r14_ok : Tryz.f14.results.toList.mapM (cRes Tryz.prog Tryz.f14.ntmps) = some r14 := by kernel_rfl
def c15r0 : List AOper :=
 [⟨some 2, none, .mv (.c .nils)⟩]
def c15r1 : List AOper :=
 [⟨some 6, none, .mv (.t 0)⟩,
 ⟨some 7, none, .call (.c (.fn 34 [])) [.t 6]⟩,
 ⟨some 8, none, .un .not (.t 7)⟩]
def c15r2 : List AOper :=
 [⟨some 2, none, .mv (.c .nils)⟩]
def c15r3 : List AOper :=
 [⟨some 3, none, .mv (.c .nils)⟩]
def c15r4 : List AOper :=
 [⟨some 9, none, .mv (.t 0)⟩,
 ⟨some 10, none, .nilck (.t 9)⟩,
 ⟨some 11, none, .fldA (.t 10) 1⟩,
 ⟨some 12, none, .load (.t 11) none⟩,
 ⟨some 13, none, .lenL (.t 12)⟩,
 ⟨some 14, none, .mv (.c (.int .i64 0))⟩]
def c15r5 : List AOper :=
 [⟨some 15, none, .bin .lss (.t 14) (.t 13)⟩]
def c15r6 : List AOper :=
 [⟨some 16, none, .idxA (.t 12) (.t 14) none 2⟩,
 ⟨some 17, none, .load (.t 16) (some 2)⟩,
 ⟨some 5, none, .alloc [.str [], .int .i64 0]⟩,
 ⟨none, none, .store (.t 5) (.t 17) 2⟩]
def c15r7 : List AOper :=
 [⟨some 18, none, .mv (.t 3)⟩,
 ⟨some 19, none, .fldA (.t 5) 0⟩,
 ⟨some 20, none, .load (.t 19) none⟩,
 ⟨some 21, none, .bslice 1 1 [.str []] [(0, .t 20)]⟩,
 ⟨some 22, none, .append (.t 18) (.t 21) 1 16 false⟩,
 ⟨some 3, none, .mv (.t 22)⟩]
def c15r8 : List AOper :=
 [⟨some 23, none, .bin .add (.t 14) (.c (.int .i64 1))⟩,
 ⟨some 14, none, .mv (.t 23)⟩]
def c15l0 : AC := (.seq (.region c15r5) (.seq (.cond (.t 15) .skip (.exit 0)) (.seq (.block 1 (.seq (.region c15r6) (.region c15r7))) (.region c15r8))))
def c15r9 : List AOper :=
 [⟨some 24, none, .mv (.t 3)⟩,
 ⟨some 2, none, .mv (.t 24)⟩]
def c15 : AC := (.seq (.region c15r0) (.seq (.seq (.region c15r1) (.cond (.t 8) (.seq (.region c15r2) .ret) .skip)) (.seq (.region c15r3) (.seq (.seq (.region c15r4) (.block 0 (.loop c15l0))) (.seq (.region c15r9) .ret)))))
def r15 : List ARes := [.tmp 2]
theorem c15_ok : Tryz.f15.body.bind (cCode Tryz.prog Tryz.f15.ntmps) = some c15 := by kernel_rfl
theorem r15_ok : Tryz.f15.results.toList.mapM (cRes Tryz.prog Tryz.f15.ntmps) = some r15 := by kernel_rfl
def c16r0 : List AOper :=
 [⟨some 4, none, .mv (.c (.bool false))⟩]
def c16r1 : List AOper :=
 [⟨some 6, none, .mv (.t 0)⟩,
 ⟨some 7, none, .lenL (.t 6)⟩,
 ⟨some 8, none, .mv (.t 1)⟩,
 ⟨some 9, none, .lenL (.t 8)⟩,
 ⟨some 10, none, .bin .neq (.t 7) (.t 9)⟩]
def c16r2 : List AOper :=
 [⟨some 4, none, .mv (.c (.bool false))⟩]
def c16r3 : List AOper :=
 [⟨some 5, none, .mv (.c (.int .i64 0))⟩]
def c16r4 : List AOper :=
 [⟨some 11, none, .mv (.t 5)⟩,
 ⟨some 12, none, .mv (.t 0)⟩,
 ⟨some 13, none, .lenL (.t 12)⟩,
 ⟨some 14, none, .bin .lss (.t 11) (.t 13)⟩]
def c16d0 : List (AOper × List Nat) :=
 [(⟨some 17, none, .mv (.t 0)⟩, []),
 (⟨some 18, none, .mv (.t 5)⟩, []),
 (⟨some 19, none, .idxA (.t 17) (.t 18) none 1⟩, [0, 1]),
 (⟨some 20, none, .load (.t 19) none⟩, [2]),
 (⟨some 21, none, .mv (.t 1)⟩, []),
 (⟨some 22, none, .mv (.t 5)⟩, []),
 (⟨some 23, none, .idxA (.t 21) (.t 22) none 1⟩, [4, 5]),
 (⟨some 24, none, .load (.t 23) none⟩, [6]),
 (⟨some 25, none, .bin .neq (.t 20) (.t 24)⟩, [3, 7])]
def c16r5 : List AOper :=
 [⟨some 4, none, .mv (.c (.bool false))⟩]
def c16r6 : List AOper :=
 [⟨some 15, none, .mv (.t 5)⟩,
 ⟨some 16, none, .bin .add (.t 15) (.c (.int .i64 1))⟩,
 ⟨some 5, none, .mv (.t 16)⟩]
def c16l0 : AC := (.seq (.seq (.region c16r4) (.cond (.t 14) .skip (.exit 0))) (.seq (.block 1 (.seq (.drawn c16d0) (.cond (.t 25) (.seq (.region c16r5) .ret) .skip))) (.region c16r6)))
def c16r7 : List AOper :=
 [⟨some 4, none, .mv (.c (.bool true))⟩]
def c16 : AC := (.seq (.region c16r0) (.seq (.seq (.region c16r1) (.cond (.t 10) (.seq (.region c16r2) .ret) .skip)) (.seq (.seq (.region c16r3) (.block 0 (.loop c16l0))) (.seq (.region c16r7) .ret))))
def r16 : List ARes := [.tmp 4]
theorem c16_ok : Tryz.f16.body.bind (cCode Tryz.prog Tryz.f16.ntmps) = some c16 := by kernel_rfl
theorem r16_ok : Tryz.f16.results.toList.mapM (cRes Tryz.prog Tryz.f16.ntmps) = some r16 := by kernel_rfl
def c17r0 : List AOper :=
 [⟨some 4, none, .mv (.c (.int .i64 0))⟩]
def c17r1 : List AOper :=
 [⟨some 5, none, .mv (.t 0)⟩,
 ⟨some 6, none, .call (.c (.fn 38 [])) [.t 5, .c .nils]⟩,
 ⟨some 7, none, .un .not (.t 6)⟩]
def c17r2 : List AOper :=
 [⟨some 4, none, .mv (.c (.int .i64 1))⟩]
def c17r3 : List AOper :=
 [⟨some 8, none, .mv (.t 0)⟩,
 ⟨some 9, none, .mv (.t 1)⟩,
 ⟨some 10, none, .mm true [.t 9, .c (.int .i64 (-1))]⟩,
 ⟨some 11, none, .nilck (.t 8)⟩,
 ⟨some 12, none, .fldA (.t 11) 1⟩,
 ⟨none, none, .store (.t 12) (.t 10) 1⟩]
def c17r4 : List AOper :=
 [⟨some 4, none, .mv (.c (.int .i64 0))⟩]
def c17 : AC := (.seq (.region c17r0) (.seq (.seq (.region c17r1) (.cond (.t 7) (.seq (.region c17r2) .ret) .skip)) (.seq (.region c17r3) (.seq (.region c17r4) .ret))))
def r17 : List ARes := [.tmp 4]
theorem c17_ok : Tryz.f17.body.bind (cCode Tryz.prog Tryz.f17.ntmps) = some c17 := by kernel_rfl
theorem r17_ok : Tryz.f17.results.toList.mapM (cRes Tryz.prog Tryz.f17.ntmps) = some r17 := by kernel_rfl
def c18r0 : List AOper :=
 [⟨some 2, none, .mv (.c (.bool false))⟩]
def c18r1 : List AOper :=
 [⟨some 3, none, .mv (.t 0)⟩,
 ⟨some 4, none, .call (.c (.fn 38 [])) [.t 3, .c .nils]⟩,
 ⟨some 5, none, .mv (.t 4)⟩,
 ⟨some 6, some (5, true), .mv (.t 0)⟩,
 ⟨some 7, some (5, true), .nilck (.t 6)⟩,
 ⟨some 8, some (5, true), .fldA (.t 7) 2⟩,
 ⟨some 9, some (5, true), .load (.t 8) none⟩,
 ⟨some 10, none, .pick (.t 5) (.t 9) (.c (.bool false))⟩,
 ⟨some 2, none, .mv (.t 10)⟩]
def c18 : AC := (.seq (.region c18r0) (.seq (.region c18r1) .ret))
def r18 : List ARes := [.tmp 2]
theorem c18_ok : Tryz.f18.body.bind (cCode Tryz.prog Tryz.f18.ntmps) = some c18 := by kernel_rfl
theorem r18_ok : Tryz.f18.results.toList.mapM (cRes Tryz.prog Tryz.f18.ntmps) = some r18 := by kernel_rfl
def c19r0 : List AOper :=
 [⟨some 2, none, .mv (.c (.int .i64 0))⟩]
def c19r1 : List AOper :=
 [⟨some 3, none, .mv (.t 0)⟩,
 ⟨some 4, none, .call (.c (.fn 34 [])) [.t 3]⟩,
 ⟨some 5, none, .un .not (.t 4)⟩]
def c19r2 : List AOper :=
 [⟨some 2, none, .mv (.c (.int .i64 0))⟩]
def c19r3 : List AOper :=
 [⟨some 6, none, .mv (.t 0)⟩,
 ⟨some 7, none, .nilck (.t 6)⟩,
 ⟨some 8, none, .fldA (.t 7) 2⟩,
 ⟨some 9, none, .load (.t 8) none⟩,
 ⟨some 2, none, .mv (.t 9)⟩]
def c19 : AC := (.seq (.region c19r0) (.seq (.seq (.region c19r1) (.cond (.t 5) (.seq (.region c19r2) .ret) .skip)) (.seq (.region c19r3) .ret)))
def r19 : List ARes := [.tmp 2]
theorem c19_ok : Tryz.f19.body.bind (cCode Tryz.prog Tryz.f19.ntmps) = some c19 := by kernel_rfl
theorem r19_ok : Tryz.f19.results.toList.mapM (cRes Tryz.prog Tryz.f19.ntmps) = some r19 := by kernel_rfl
def c20r0 : List AOper :=
 [⟨some 2, none, .box (.t 0)⟩,
 ⟨some 3, none, .box (.t 1)⟩,
 ⟨some 4, none, .mv (.c (.int .i64 0))⟩]
def c20d0 : List (AOper × List Nat) :=
 [(⟨some 6, none, .load (.t 2) none⟩, []),
 (⟨some 7, none, .call (.c (.fn 34 [])) [.t 6]⟩, [0]),
 (⟨some 8, none, .un .not (.t 7)⟩, [1]),
 (⟨some 9, none, .mv (.t 8)⟩, [2, 1]),
 (⟨some 10, some (9, false), .load (.t 3) none⟩, [3]),
 (⟨some 11, some (9, false), .load (.t 2) none⟩, [3]),
 (⟨some 12, some (9, false), .nilck (.t 11)⟩, [5, 3]),
 (⟨some 13, some (9, false), .fldA (.t 12) 2⟩, [6, 3]),
 (⟨some 14, some (9, false), .load (.t 13) none⟩, [7, 3]),
 (⟨some 15, some (9, false), .bin .gtr (.t 10) (.t 14)⟩, [4, 8, 3]),
 (⟨some 16, none, .pick (.t 9) (.c (.bool true)) (.t 15)⟩, [3, 9])]
def c20r1 : List AOper :=
 [⟨some 4, none, .mv (.c (.int .i64 1))⟩]
def c20r2 : List AOper :=
 [⟨some 17, none, .load (.t 2) none⟩,
 ⟨some 18, none, .nilck (.t 17)⟩,
 ⟨some 19, none, .fldA (.t 18) 0⟩,
 ⟨some 20, none, .load (.t 19) none⟩,
 ⟨some 21, none, .mkf 39 [.t 3, .t 2]⟩,
 ⟨some 22, none, .call (.c (.fn 26 [])) [.t 20, .t 21]⟩,
 ⟨some 5, none, .mv (.t 22)⟩]
def c20r3 : List AOper :=
 [⟨some 23, none, .mv (.t 5)⟩,
 ⟨some 24, none, .bin .eql (.t 23) (.c (.int .i64 0))⟩]
def c20d1 : List (AOper × List Nat) :=
 [(⟨some 25, none, .load (.t 2) none⟩, []),
 (⟨some 26, none, .load (.t 2) none⟩, []),
 (⟨some 27, none, .nilck (.t 26)⟩, [1]),
 (⟨some 28, none, .fldA (.t 27) 1⟩, [2]),
 (⟨some 29, none, .load (.t 28) none⟩, [3]),
 (⟨some 30, none, .mkf 41 [.t 3]⟩, []),
 (⟨some 31, none, .call (.c (.fn 40 [])) [.t 29, .t 30]⟩, [4, 5]),
 (⟨some 32, none, .nilck (.t 25)⟩, [0, 0, 1, 2, 3, 4, 5, 6]),
 (⟨some 33, none, .fldA (.t 32) 1⟩, [7, 0, 1, 2, 3, 4, 5, 6]),
 (⟨none, none, .store (.t 33) (.t 31) 1⟩, [8, 6, 6, 0, 1, 2, 3, 4, 5, 6])]
def c20r4 : List AOper :=
 [⟨some 34, none, .mv (.t 5)⟩,
 ⟨some 4, none, .mv (.t 34)⟩]
def c20 : AC := (.seq (.region c20r0) (.seq (.seq (.drawn c20d0) (.cond (.t 16) (.seq (.region c20r1) .ret) .skip)) (.seq (.region c20r2) (.seq (.seq (.region c20r3) (.cond (.t 24) (.drawn c20d1) .skip)) (.seq (.region c20r4) .ret)))))
def r20 : List ARes := [.tmp 4]
theorem c20_ok : Tryz.f20.body.bind (cCode Tryz.prog Tryz.f20.ntmps) = some c20 := by kernel_rfl
theorem r20_ok : Tryz.f20.results.toList.mapM (cRes Tryz.prog Tryz.f20.ntmps) = some r20 := by kernel_rfl
def c21r0 : List AOper :=
 [⟨some 0, none, .alloc [.nils, .int .i64 0, .bool false]⟩]
def c21r1 : List AOper :=
 [⟨some 1, none, .build [.nils, .int .i64 0, .bool false] [(1, 1, .c (.int .i64 (-1)))]⟩,
 ⟨none, none, .store (.t 0) (.t 1) 3⟩]
def c21 : AC := (.seq (.region c21r0) (.seq (.region c21r1) .ret))
def r21 : List ARes := [.cell 0 (some 3)]
theorem c21_ok : Tryz.f21.body.bind (cCode Tryz.prog Tryz.f21.ntmps) = some c21 := by kernel_rfl
theorem r21_ok : Tryz.f21.results.toList.mapM (cRes Tryz.prog Tryz.f21.ntmps) = some r21 := by kernel_rfl
def c22r0 : List AOper :=
 [⟨some 6, none, .mv (.c (.bool false))⟩]
def c22r1 : List AOper :=
 [⟨some 9, none, .mv (.t 0)⟩,
 ⟨some 10, none, .mv (.t 0)⟩,
 ⟨some 11, none, .nilck (.t 10)⟩,
 ⟨some 12, none, .fldA (.t 11) 2⟩,
 ⟨some 13, none, .load (.t 12) (some 3)⟩,
 ⟨some 14, none, .mv (.t 2)⟩,
 ⟨some 15, none, .call (.c (.fn 42 [])) [.t 13, .t 14]⟩,
 ⟨some 16, none, .nilck (.t 9)⟩,
 ⟨some 17, none, .fldA (.t 16) 2⟩,
 ⟨none, none, .store (.t 17) (.t 15) 3⟩]
def c22r2 : List AOper :=
 [⟨some 18, none, .mv (.t 0)⟩,
 ⟨some 19, none, .nilck (.t 18)⟩,
 ⟨some 20, none, .fldA (.t 19) 0⟩,
 ⟨some 21, none, .load (.t 20) none⟩,
 ⟨some 22, none, .mv (.t 2)⟩,
 ⟨some 23, none, .call (.c (.fn 14 [])) [.t 21, .t 22]⟩,
 ⟨some 24, none, .bin .neq (.t 23) (.c (.int .i64 0))⟩]
def c22r3 : List AOper :=
 [⟨some 6, none, .mv (.c (.bool false))⟩]
def c22r4 : List AOper :=
 [⟨some 7, none, .mv (.c (.int .i64 0))⟩,
 ⟨some 8, none, .mv (.c (.int .i64 0))⟩]
def c22r5 : List AOper :=
 [⟨some 26, none, .mv (.t 0)⟩,
 ⟨some 27, none, .mv (.t 0)⟩,
 ⟨some 28, none, .nilck (.t 27)⟩,
 ⟨some 29, none, .fldA (.t 28) 0⟩,
 ⟨some 30, none, .load (.t 29) none⟩,
 ⟨some 31, none, .mv (.t 1)⟩,
 ⟨some 32, none, .call (.c (.fn 9 [])) [.t 30, .t 31]⟩,
 ⟨some 25, none, .mv (.t 32)⟩,
 ⟨some 33, none, .ext (.t 25) 0⟩,
 ⟨some 34, none, .ext (.t 25) 1⟩,
 ⟨some 35, none, .nilck (.t 26)⟩,
 ⟨some 36, none, .fldA (.t 35) 1⟩,
 ⟨none, none, .store (.t 36) (.t 33) 1⟩,
 ⟨some 7, none, .mv (.t 34)⟩]
def c22r6 : List AOper :=
 [⟨some 38, none, .mv (.t 0)⟩,
 ⟨some 39, none, .mv (.t 0)⟩,
 ⟨some 40, none, .mv (.t 0)⟩,
 ⟨some 41, none, .nilck (.t 40)⟩,
 ⟨some 42, none, .fldA (.t 41) 2⟩,
 ⟨some 43, none, .load (.t 42) (some 3)⟩,
 ⟨some 44, none, .mv (.t 1)⟩,
 ⟨some 45, none, .call (.c (.fn 43 [])) [.t 43, .t 44]⟩,
 ⟨some 37, none, .mv (.t 45)⟩,
 ⟨some 46, none, .ext (.t 37) 0⟩,
 ⟨some 47, none, .ext (.t 37) 1⟩,
 ⟨some 48, none, .ext (.t 37) 2⟩,
 ⟨some 49, none, .nilck (.t 38)⟩,
 ⟨some 50, none, .fldA (.t 49) 2⟩,
 ⟨none, none, .store (.t 50) (.t 46) 3⟩,
 ⟨some 51, none, .nilck (.t 39)⟩,
 ⟨some 52, none, .fldA (.t 51) 5⟩,
 ⟨none, none, .store (.t 52) (.t 47) 3⟩,
 ⟨some 8, none, .mv (.t 48)⟩]
def c22r7 : List AOper :=
 [⟨some 53, none, .mv (.t 7)⟩,
 ⟨some 54, none, .mv (.t 8)⟩,
 ⟨some 55, none, .bin .eql (.t 53) (.t 54)⟩,
 ⟨some 56, none, .mv (.t 55)⟩,
 ⟨some 57, some (56, true), .mv (.t 0)⟩,
 ⟨some 58, some (56, true), .nilck (.t 57)⟩,
 ⟨some 59, some (56, true), .fldA (.t 58) 1⟩,
 ⟨some 60, some (56, true), .load (.t 59) none⟩,
 ⟨some 61, some (56, true), .eq true 1 (.t 60) (.c .nilp)⟩,
 ⟨some 62, some (56, true), .mv (.t 8)⟩,
 ⟨some 63, some (56, true), .bin .eql (.t 62) (.c (.int .i64 0))⟩,
 ⟨some 64, some (56, true), .eq false 0 (.t 61) (.t 63)⟩,
 ⟨some 65, none, .pick (.t 56) (.t 64) (.c (.bool false))⟩,
 ⟨some 6, none, .mv (.t 65)⟩]
def c22 : AC := (.seq (.region c22r0) (.seq (.region c22r1) (.seq (.seq (.region c22r2) (.cond (.t 24) (.seq (.region c22r3) .ret) .skip)) (.seq (.region c22r4) (.seq (.region c22r5) (.seq (.region c22r6) (.seq (.region c22r7) .ret)))))))
def r22 : List ARes := [.tmp 6]
theorem c22_ok : Tryz.f22.body.bind (cCode Tryz.prog Tryz.f22.ntmps) = some c22 := by kernel_rfl
theorem r22_ok : Tryz.f22.results.toList.mapM (cRes Tryz.prog Tryz.f22.ntmps) = some r22 := by kernel_rfl
def c23r0 : List AOper :=
 [⟨some 3, none, .box (.t 1)⟩,
 ⟨some 4, none, .mv (.c (.bool false))⟩,
 ⟨some 5, none, .mv (.c (.bool false))⟩]
def c23r1 : List AOper :=
 [⟨some 6, none, .mv (.c (.int .i64 0))⟩,
 ⟨some 7, none, .mv (.c (.int .i64 0))⟩]
def c23r2 : List AOper :=
 [⟨some 9, none, .fldA (.t 3) 0⟩,
 ⟨some 10, none, .load (.t 9) none⟩]
def c23r3 : List AOper :=
 [⟨some 12, none, .bin .eql (.t 10) (.c (.int .i64 1))⟩,
 ⟨some 11, none, .mv (.t 12)⟩]
def c23d0 : List (AOper × List Nat) :=
 [(⟨some 13, none, .mv (.t 0)⟩, []),
 (⟨some 14, none, .nilck (.t 13)⟩, [0]),
 (⟨some 15, none, .fldA (.t 14) 1⟩, [1]),
 (⟨some 16, none, .load (.t 15) none⟩, [2]),
 (⟨some 17, none, .fldA (.t 3) 2⟩, []),
 (⟨some 18, none, .load (.t 17) none⟩, [4]),
 (⟨some 19, none, .call (.c (.fn 11 [])) [.t 16, .t 18]⟩, [3, 5]),
 (⟨some 6, none, .mv (.t 19)⟩, [6, 6, 0, 1, 2, 3, 4, 5, 6])]
def c23d1 : List (AOper × List Nat) :=
 [(⟨some 21, none, .mv (.t 0)⟩, []),
 (⟨some 22, none, .mv (.t 0)⟩, []),
 (⟨some 23, none, .mv (.t 0)⟩, []),
 (⟨some 24, none, .nilck (.t 23)⟩, [2]),
 (⟨some 25, none, .fldA (.t 24) 2⟩, [3]),
 (⟨some 26, none, .load (.t 25) (some 3)⟩, [4]),
 (⟨some 27, none, .mv (.t 0)⟩, []),
 (⟨some 28, none, .nilck (.t 27)⟩, [6]),
 (⟨some 29, none, .fldA (.t 28) 5⟩, [7]),
 (⟨some 30, none, .load (.t 29) (some 3)⟩, [8]),
 (⟨some 31, none, .fldA (.t 3) 2⟩, []),
 (⟨some 32, none, .load (.t 31) none⟩, [10]),
 (⟨some 33, none, .call (.c (.fn 44 [])) [.t 26, .t 30, .t 32]⟩, [5, 9, 11]),
 (⟨some 20, none, .mv (.t 33)⟩, [12]),
 (⟨some 34, none, .ext (.t 20) 0⟩, [13]),
 (⟨some 35, none, .ext (.t 20) 1⟩, [13]),
 (⟨some 36, none, .ext (.t 20) 2⟩, [13]),
 (⟨some 37, none, .nilck (.t 21)⟩, [0, 0, 2, 3, 4, 5, 6, 7, 8, 9, 10, 11, 12, 13, 14]),
 (⟨some 38, none, .fldA (.t 37) 2⟩, [17, 0, 2, 3, 4, 5, 6, 7, 8, 9, 10, 11, 12, 13, 14]),
 (⟨none, none, .store (.t 38) (.t 34) 3⟩, [18, 14, 12, 0, 2, 3, 4, 5, 6, 7, 8, 9, 10, 11, 12, 13, 14]),
 (⟨some 39, none, .nilck (.t 22)⟩, [1, 0, 1, 2, 3, 4, 5, 6, 7, 8, 9, 10, 11, 12, 13, 14, 15, 17, 18, 19]),
 (⟨some 40, none, .fldA (.t 39) 5⟩, [20, 0, 1, 2, 3, 4, 5, 6, 7, 8, 9, 10, 11, 12, 13, 14, 15, 17, 18, 19]),
 (⟨none, none, .store (.t 40) (.t 35) 3⟩, [21, 15, 19, 0, 1, 2, 3, 4, 5, 6, 7, 8, 9, 10, 11, 12, 13, 14, 15, 17, 18, 19]),
 (⟨some 7, none, .mv (.t 36)⟩, [16, 22, 0, 1, 2, 3, 4, 5, 6, 7, 8, 9, 10, 11, 12, 13, 14, 15, 16, 17, 18, 19, 20, 21, 22])]
def c23r4 : List AOper :=
 [⟨some 42, none, .bin .eql (.t 10) (.c (.int .i64 2))⟩,
 ⟨some 41, none, .mv (.t 42)⟩]
def c23r5 : List AOper :=
 [⟨some 43, none, .mv (.t 0)⟩,
 ⟨some 44, none, .nilck (.t 43)⟩,
 ⟨some 45, none, .fldA (.t 44) 1⟩,
 ⟨some 46, none, .load (.t 45) none⟩,
 ⟨some 47, none, .call (.c (.fn 12 [])) [.t 46]⟩,
 ⟨some 6, none, .mv (.t 47)⟩]
def c23d2 : List (AOper × List Nat) :=
 [(⟨some 49, none, .mv (.t 0)⟩, []),
 (⟨some 50, none, .mv (.t 0)⟩, []),
 (⟨some 51, none, .nilck (.t 50)⟩, [1]),
 (⟨some 52, none, .fldA (.t 51) 2⟩, [2]),
 (⟨some 53, none, .load (.t 52) (some 3)⟩, [3]),
 (⟨some 54, none, .mv (.t 0)⟩, []),
 (⟨some 55, none, .nilck (.t 54)⟩, [5]),
 (⟨some 56, none, .fldA (.t 55) 5⟩, [6]),
 (⟨some 57, none, .load (.t 56) (some 3)⟩, [7]),
 (⟨some 58, none, .call (.c (.fn 45 [])) [.t 53, .t 57]⟩, [4, 8]),
 (⟨some 48, none, .mv (.t 58)⟩, [9]),
 (⟨some 59, none, .ext (.t 48) 0⟩, [10]),
 (⟨some 60, none, .ext (.t 48) 1⟩, [10]),
 (⟨some 61, none, .nilck (.t 49)⟩, [0, 0, 1, 2, 3, 4, 5, 6, 7, 8, 9, 10, 11]),
 (⟨some 62, none, .fldA (.t 61) 2⟩, [13, 0, 1, 2, 3, 4, 5, 6, 7, 8, 9, 10, 11]),
 (⟨none, none, .store (.t 62) (.t 59) 3⟩, [14, 11, 9, 0, 1, 2, 3, 4, 5, 6, 7, 8, 9, 10, 11]),
 (⟨some 7, none, .mv (.t 60)⟩, [12, 15, 0, 1, 2, 3, 4, 5, 6, 7, 8, 9, 10, 11, 12, 13, 14, 15])]
def c23r6 : List AOper :=
 [⟨some 64, none, .bin .eql (.t 10) (.c (.int .i64 3))⟩,
 ⟨some 63, none, .mv (.t 64)⟩]
def c23r7 : List AOper :=
 [⟨some 8, none, .mv (.c (.int .i64 0))⟩]
def c23r8 : List AOper :=
 [⟨some 66, none, .mv (.t 0)⟩,
 ⟨some 67, none, .nilck (.t 66)⟩,
 ⟨some 68, none, .fldA (.t 67) 1⟩,
 ⟨some 69, none, .load (.t 68) none⟩,
 ⟨some 70, none, .call (.c (.fn 13 [])) [.t 69]⟩,
 ⟨some 65, none, .mv (.t 70)⟩,
 ⟨some 71, none, .ext (.t 65) 0⟩,
 ⟨some 72, none, .ext (.t 65) 1⟩,
 ⟨some 8, none, .mv (.t 71)⟩,
 ⟨some 6, none, .mv (.t 72)⟩]
def c23d3 : List (AOper × List Nat) :=
 [(⟨some 74, none, .mv (.t 0)⟩, []),
 (⟨some 75, none, .mv (.t 0)⟩, []),
 (⟨some 76, none, .mv (.t 0)⟩, []),
 (⟨some 77, none, .nilck (.t 76)⟩, [2]),
 (⟨some 78, none, .fldA (.t 77) 2⟩, [3]),
 (⟨some 79, none, .load (.t 78) (some 3)⟩, [4]),
 (⟨some 80, none, .mv (.t 0)⟩, []),
 (⟨some 81, none, .nilck (.t 80)⟩, [6]),
 (⟨some 82, none, .fldA (.t 81) 5⟩, [7]),
 (⟨some 83, none, .load (.t 82) (some 3)⟩, [8]),
 (⟨some 84, none, .call (.c (.fn 46 [])) [.t 79, .t 83]⟩, [5, 9]),
 (⟨some 73, none, .mv (.t 84)⟩, [10]),
 (⟨some 85, none, .ext (.t 73) 0⟩, [11]),
 (⟨some 86, none, .ext (.t 73) 1⟩, [11]),
 (⟨some 87, none, .ext (.t 73) 2⟩, [11]),
 (⟨some 88, none, .nilck (.t 74)⟩, [0, 0, 2, 3, 4, 5, 6, 7, 8, 9, 10, 11, 12]),
 (⟨some 89, none, .fldA (.t 88) 2⟩, [15, 0, 2, 3, 4, 5, 6, 7, 8, 9, 10, 11, 12]),
 (⟨none, none, .store (.t 89) (.t 85) 3⟩, [16, 12, 10, 0, 2, 3, 4, 5, 6, 7, 8, 9, 10, 11, 12]),
 (⟨some 90, none, .nilck (.t 75)⟩, [1, 0, 1, 2, 3, 4, 5, 6, 7, 8, 9, 10, 11, 12, 13, 15, 16, 17]),
 (⟨some 91, none, .fldA (.t 90) 5⟩, [18, 0, 1, 2, 3, 4, 5, 6, 7, 8, 9, 10, 11, 12, 13, 15, 16, 17]),
 (⟨none, none, .store (.t 91) (.t 86) 3⟩, [19, 13, 17, 0, 1, 2, 3, 4, 5, 6, 7, 8, 9, 10, 11, 12, 13, 15, 16, 17]),
 (⟨some 7, none, .mv (.t 87)⟩, [14, 20, 0, 1, 2, 3, 4, 5, 6, 7, 8, 9, 10, 11, 12, 13, 14, 15, 16, 17, 18, 19, 20])]
def c23r9 : List AOper :=
 [⟨some 92, none, .mv (.t 6)⟩,
 ⟨some 93, none, .bin .eql (.t 92) (.c (.int .i64 0))⟩,
 ⟨some 94, none, .mv (.t 93)⟩,
 ⟨some 95, some (94, true), .mv (.t 8)⟩,
 ⟨some 96, some (94, true), .mv (.t 0)⟩,
 ⟨some 97, some (94, true), .nilck (.t 96)⟩,
 ⟨some 98, some (94, true), .fldA (.t 97) 5⟩,
 ⟨some 99, some (94, true), .fldA (.t 98) 2⟩,
 ⟨some 100, some (94, true), .load (.t 99) none⟩,
 ⟨some 101, some (94, true), .bin .neq (.t 95) (.t 100)⟩,
 ⟨some 102, none, .pick (.t 94) (.t 101) (.c (.bool false))⟩,
 ⟨some 103, none, .mv (.t 102)⟩,
 ⟨some 104, some (103, false), .mv (.t 6)⟩,
 ⟨some 105, some (103, false), .bin .neq (.t 104) (.c (.int .i64 0))⟩,
 ⟨some 106, some (103, false), .mv (.t 105)⟩,
 ⟨some 107, some (106, true), .mv (.t 8)⟩,
 ⟨some 108, some (106, true), .bin .neq (.t 107) (.c (.int .i64 0))⟩,
 ⟨some 109, some (103, false), .pick (.t 106) (.t 108) (.c (.bool false))⟩,
 ⟨some 110, none, .pick (.t 103) (.c (.bool true)) (.t 109)⟩]
def c23r10 : List AOper :=
 [⟨some 4, none, .mv (.c (.bool false))⟩,
 ⟨some 5, none, .mv (.c (.bool false))⟩]
def c23r11 : List AOper :=
 [⟨some 112, none, .bin .eql (.t 10) (.c (.int .i64 4))⟩,
 ⟨some 111, none, .mv (.t 112)⟩]
def c23d4 : List (AOper × List Nat) :=
 [(⟨some 113, none, .mv (.t 0)⟩, []),
 (⟨some 114, none, .nilck (.t 113)⟩, [0]),
 (⟨some 115, none, .fldA (.t 114) 1⟩, [1]),
 (⟨some 116, none, .load (.t 115) none⟩, [2]),
 (⟨some 117, none, .fldA (.t 3) 1⟩, []),
 (⟨some 118, none, .load (.t 117) none⟩, [4]),
 (⟨some 119, none, .call (.c (.fn 20 [])) [.t 116, .t 118]⟩, [3, 5]),
 (⟨some 6, none, .mv (.t 119)⟩, [6, 6, 0, 1, 2, 3, 4, 5, 6])]
def c23d5 : List (AOper × List Nat) :=
 [(⟨some 121, none, .mv (.t 0)⟩, []),
 (⟨some 122, none, .mv (.t 0)⟩, []),
 (⟨some 123, none, .mv (.t 0)⟩, []),
 (⟨some 124, none, .nilck (.t 123)⟩, [2]),
 (⟨some 125, none, .fldA (.t 124) 2⟩, [3]),
 (⟨some 126, none, .load (.t 125) (some 3)⟩, [4]),
 (⟨some 127, none, .mv (.t 0)⟩, []),
 (⟨some 128, none, .nilck (.t 127)⟩, [6]),
 (⟨some 129, none, .fldA (.t 128) 5⟩, [7]),
 (⟨some 130, none, .load (.t 129) (some 3)⟩, [8]),
 (⟨some 131, none, .fldA (.t 3) 1⟩, []),
 (⟨some 132, none, .load (.t 131) none⟩, [10]),
 (⟨some 133, none, .call (.c (.fn 47 [])) [.t 126, .t 130, .t 132]⟩, [5, 9, 11]),
 (⟨some 120, none, .mv (.t 133)⟩, [12]),
 (⟨some 134, none, .ext (.t 120) 0⟩, [13]),
 (⟨some 135, none, .ext (.t 120) 1⟩, [13]),
 (⟨some 136, none, .ext (.t 120) 2⟩, [13]),
 (⟨some 137, none, .nilck (.t 121)⟩, [0, 0, 2, 3, 4, 5, 6, 7, 8, 9, 10, 11, 12, 13, 14]),
 (⟨some 138, none, .fldA (.t 137) 2⟩, [17, 0, 2, 3, 4, 5, 6, 7, 8, 9, 10, 11, 12, 13, 14]),
 (⟨none, none, .store (.t 138) (.t 134) 3⟩, [18, 14, 12, 0, 2, 3, 4, 5, 6, 7, 8, 9, 10, 11, 12, 13, 14]),
 (⟨some 139, none, .nilck (.t 122)⟩, [1, 0, 1, 2, 3, 4, 5, 6, 7, 8, 9, 10, 11, 12, 13, 14, 15, 17, 18, 19]),
 (⟨some 140, none, .fldA (.t 139) 5⟩, [20, 0, 1, 2, 3, 4, 5, 6, 7, 8, 9, 10, 11, 12, 13, 14, 15, 17, 18, 19]),
 (⟨none, none, .store (.t 140) (.t 135) 3⟩, [21, 15, 19, 0, 1, 2, 3, 4, 5, 6, 7, 8, 9, 10, 11, 12, 13, 14, 15, 17, 18, 19]),
 (⟨some 7, none, .mv (.t 136)⟩, [16, 22, 0, 1, 2, 3, 4, 5, 6, 7, 8, 9, 10, 11, 12, 13, 14, 15, 16, 17, 18, 19, 20, 21, 22])]
def c23r12 : List AOper :=
 [⟨some 142, none, .bin .eql (.t 10) (.c (.int .i64 5))⟩,
 ⟨some 141, none, .mv (.t 142)⟩]
def c23d6 : List (AOper × List Nat) :=
 [(⟨some 143, none, .mv (.t 0)⟩, []),
 (⟨some 144, none, .mv (.t 0)⟩, []),
 (⟨some 145, none, .nilck (.t 144)⟩, [1]),
 (⟨some 146, none, .fldA (.t 145) 2⟩, [2]),
 (⟨some 147, none, .load (.t 146) (some 3)⟩, [3]),
 (⟨some 148, none, .fldA (.t 3) 1⟩, []),
 (⟨some 149, none, .load (.t 148) none⟩, [5]),
 (⟨some 150, none, .call (.c (.fn 48 [])) [.t 147, .t 149]⟩, [4, 6]),
 (⟨some 151, none, .nilck (.t 143)⟩, [0, 0, 1, 2, 3, 4, 5, 6, 7]),
 (⟨some 152, none, .fldA (.t 151) 2⟩, [8, 0, 1, 2, 3, 4, 5, 6, 7]),
 (⟨none, none, .store (.t 152) (.t 150) 3⟩, [9, 7, 7, 0, 1, 2, 3, 4, 5, 6, 7])]
def c23d7 : List (AOper × List Nat) :=
 [(⟨some 153, none, .mv (.t 0)⟩, []),
 (⟨some 154, none, .nilck (.t 153)⟩, [0]),
 (⟨some 155, none, .fldA (.t 154) 0⟩, [1]),
 (⟨some 156, none, .load (.t 155) none⟩, [2]),
 (⟨some 157, none, .fldA (.t 3) 1⟩, []),
 (⟨some 158, none, .load (.t 157) none⟩, [4]),
 (⟨some 159, none, .call (.c (.fn 17 [])) [.t 156, .t 158]⟩, [3, 5]),
 (⟨some 160, none, .bin .eql (.t 159) (.c (.int .i64 0))⟩, [6]),
 (⟨some 4, none, .mv (.t 160)⟩, [7, 6, 0, 1, 2, 3, 4, 5, 6, 7]),
 (⟨some 5, none, .mv (.c (.bool false))⟩, [8, 0, 1, 2, 3, 4, 5, 6, 7, 8])]
def c23r13 : List AOper :=
 [⟨some 4, none, .mv (.c (.bool true))⟩,
 ⟨some 5, none, .mv (.c (.bool true))⟩]
def c23r14 : List AOper :=
 [⟨some 161, none, .mv (.t 6)⟩,
 ⟨some 162, none, .mv (.t 7)⟩,
 ⟨some 163, none, .bin .eql (.t 161) (.t 162)⟩,
 ⟨some 164, none, .mv (.t 7)⟩,
 ⟨some 165, none, .bin .eql (.t 164) (.c (.int .i64 50))⟩,
 ⟨some 166, none, .mv (.t 165)⟩,
 ⟨some 167, some (166, false), .mv (.t 7)⟩,
 ⟨some 168, some (166, false), .bin .eql (.t 167) (.c (.int .i64 2))⟩,
 ⟨some 169, none, .pick (.t 166) (.c (.bool true)) (.t 168)⟩,
 ⟨some 170, none, .mv (.t 169)⟩,
 ⟨some 171, some (170, false), .mv (.t 7)⟩,
 ⟨some 172, some (170, false), .bin .eql (.t 171) (.c (.int .i64 3))⟩,
 ⟨some 173, none, .pick (.t 170) (.c (.bool true)) (.t 172)⟩,
 ⟨some 4, none, .mv (.t 163)⟩,
 ⟨some 5, none, .mv (.t 173)⟩]
def c23 : AC := (.seq (.region c23r0) (.seq (.region c23r1) (.seq (.seq (.region c23r2) (.block 0 (.seq (.region c23r3) (.cond (.t 11) (.seq (.drawn c23d0) (.drawn c23d1)) (.seq (.region c23r4) (.cond (.t 41) (.seq (.region c23r5) (.drawn c23d2)) (.seq (.region c23r6) (.cond (.t 63) (.seq (.region c23r7) (.seq (.region c23r8) (.seq (.drawn c23d3) (.seq (.region c23r9) (.cond (.t 110) (.seq (.region c23r10) .ret) .skip))))) (.seq (.region c23r11) (.cond (.t 111) (.seq (.drawn c23d4) (.drawn c23d5)) (.seq (.region c23r12) (.cond (.t 141) (.seq (.drawn c23d6) (.seq (.drawn c23d7) .ret)) (.seq (.region c23r13) .ret))))))))))))) (.seq (.region c23r14) .ret))))
def r23 : List ARes := [.tmp 4, .tmp 5]
theorem c23_ok : Tryz.f23.body.bind (cCode Tryz.prog Tryz.f23.ntmps) = some c23 := by kernel_rfl
theorem r23_ok : Tryz.f23.results.toList.mapM (cRes Tryz.prog Tryz.f23.ntmps) = some r23 := by kernel_rfl
def c24r0 : List AOper :=
 [⟨some 2, none, .mv (.c (.bool false))⟩]
def c24r1 : List AOper :=
 [⟨some 10, none, .mv (.t 0)⟩,
 ⟨some 11, none, .nilck (.t 10)⟩,
 ⟨some 12, none, .fldA (.t 11) 0⟩,
 ⟨some 13, none, .load (.t 12) none⟩,
 ⟨some 14, none, .call (.c (.fn 33 [])) [.t 13]⟩,
 ⟨some 3, none, .mv (.t 14)⟩]
def c24r2 : List AOper :=
 [⟨some 15, none, .mv (.t 3)⟩,
 ⟨some 16, none, .mv (.t 0)⟩,
 ⟨some 17, none, .nilck (.t 16)⟩,
 ⟨some 18, none, .fldA (.t 17) 2⟩,
 ⟨some 19, none, .load (.t 18) (some 3)⟩,
 ⟨some 20, none, .call (.c (.fn 49 [])) [.t 19]⟩,
 ⟨some 21, none, .call (.c (.fn 16 [])) [.t 15, .t 20]⟩,
 ⟨some 22, none, .un .not (.t 21)⟩]
def c24r3 : List AOper :=
 [⟨some 2, none, .mv (.c (.bool false))⟩]
def c24r4 : List AOper :=
 [⟨some 4, none, .mv (.c (.int .i64 0))⟩]
def c24r5 : List AOper :=
 [⟨some 23, none, .mv (.t 4)⟩,
 ⟨some 24, none, .mv (.t 3)⟩,
 ⟨some 25, none, .lenL (.t 24)⟩,
 ⟨some 26, none, .bin .lss (.t 23) (.t 25)⟩,
 ⟨some 27, none, .mv (.t 26)⟩,
 ⟨some 28, some (27, true), .mv (.t 0)⟩,
 ⟨some 29, some (27, true), .nilck (.t 28)⟩,
 ⟨some 30, some (27, true), .fldA (.t 29) 2⟩,
 ⟨some 31, some (27, true), .fldA (.t 30) 2⟩,
 ⟨some 32, some (27, true), .load (.t 31) none⟩,
 ⟨some 33, some (27, true), .un .not (.t 32)⟩,
 ⟨some 34, none, .pick (.t 27) (.t 33) (.c (.bool false))⟩]
def c24d0 : List (AOper × List Nat) :=
 [(⟨some 38, none, .mv (.t 0)⟩, []),
 (⟨some 39, none, .nilck (.t 38)⟩, [0]),
 (⟨some 40, none, .fldA (.t 39) 0⟩, [1]),
 (⟨some 41, none, .load (.t 40) none⟩, [2]),
 (⟨some 42, none, .mv (.t 3)⟩, []),
 (⟨some 43, none, .mv (.t 4)⟩, []),
 (⟨some 44, none, .idxA (.t 42) (.t 43) none 1⟩, [4, 5]),
 (⟨some 45, none, .load (.t 44) none⟩, [6]),
 (⟨some 46, none, .call (.c (.fn 30 [])) [.t 41, .t 45]⟩, [3, 7]),
 (⟨some 37, none, .mv (.t 46)⟩, [8]),
 (⟨some 47, none, .ext (.t 37) 0⟩, [9]),
 (⟨some 48, none, .ext (.t 37) 1⟩, [9]),
 (⟨some 5, none, .mv (.t 47)⟩, [10, 8, 0, 1, 2, 3, 4, 5, 6, 7, 8, 9, 10]),
 (⟨some 6, none, .mv (.t 48)⟩, [11, 12, 0, 1, 2, 3, 4, 5, 6, 7, 8, 9, 10, 11, 12])]
def c24d1 : List (AOper × List Nat) :=
 [(⟨some 50, none, .mv (.t 0)⟩, []),
 (⟨some 51, none, .nilck (.t 50)⟩, [0]),
 (⟨some 52, none, .fldA (.t 51) 2⟩, [1]),
 (⟨some 53, none, .load (.t 52) (some 3)⟩, [2]),
 (⟨some 54, none, .mv (.t 3)⟩, []),
 (⟨some 55, none, .mv (.t 4)⟩, []),
 (⟨some 56, none, .idxA (.t 54) (.t 55) none 1⟩, [4, 5]),
 (⟨some 57, none, .load (.t 56) none⟩, [6]),
 (⟨some 58, none, .call (.c (.fn 50 [])) [.t 53, .t 57]⟩, [3, 7]),
 (⟨some 49, none, .mv (.t 58)⟩, [8]),
 (⟨some 59, none, .ext (.t 49) 0⟩, [9]),
 (⟨some 60, none, .ext (.t 49) 1⟩, [9]),
 (⟨some 61, none, .ext (.t 49) 2⟩, [9]),
 (⟨some 7, none, .mv (.t 59)⟩, [10, 8, 0, 1, 2, 3, 4, 5, 6, 7, 8, 9, 10]),
 (⟨some 8, none, .mv (.t 60)⟩, [11, 13, 0, 1, 2, 3, 4, 5, 6, 7, 8, 9, 10, 11, 13]),
 (⟨some 9, none, .mv (.t 61)⟩, [12, 14, 0, 1, 2, 3, 4, 5, 6, 7, 8, 9, 10, 11, 12, 13, 14])]
def c24r6 : List AOper :=
 [⟨some 62, none, .mv (.t 5)⟩,
 ⟨some 63, none, .mv (.t 7)⟩,
 ⟨some 64, none, .bin .neq (.t 62) (.t 63)⟩,
 ⟨some 65, none, .mv (.t 64)⟩,
 ⟨some 66, some (65, false), .mv (.t 6)⟩,
 ⟨some 67, some (65, false), .mv (.t 9)⟩,
 ⟨some 68, some (65, false), .bin .neq (.t 66) (.t 67)⟩,
 ⟨some 69, none, .pick (.t 65) (.c (.bool true)) (.t 68)⟩]
def c24r7 : List AOper :=
 [⟨some 2, none, .mv (.c (.bool false))⟩]
def c24r8 : List AOper :=
 [⟨some 35, none, .mv (.t 4)⟩,
 ⟨some 36, none, .bin .add (.t 35) (.c (.int .i64 1))⟩,
 ⟨some 4, none, .mv (.t 36)⟩]
def c24l0 : AC := (.seq (.seq (.region c24r5) (.cond (.t 34) .skip (.exit 0))) (.seq (.block 1 (.seq (.drawn c24d0) (.seq (.drawn c24d1) (.seq (.region c24r6) (.cond (.t 69) (.seq (.region c24r7) .ret) .skip))))) (.region c24r8)))
def c24r9 : List AOper :=
 [⟨some 2, none, .mv (.c (.bool true))⟩]
def c24 : AC := (.seq (.region c24r0) (.seq (.region c24r1) (.seq (.seq (.region c24r2) (.cond (.t 22) (.seq (.region c24r3) .ret) .skip)) (.seq (.seq (.region c24r4) (.block 0 (.loop c24l0))) (.seq (.region c24r9) .ret)))))
def r24 : List ARes := [.tmp 2]
theorem c24_ok : Tryz.f24.body.bind (cCode Tryz.prog Tryz.f24.ntmps) = some c24 := by kernel_rfl
theorem r24_ok : Tryz.f24.results.toList.mapM (cRes Tryz.prog Tryz.f24.ntmps) = some r24 := by kernel_rfl
def c25r0 : List AOper :=
 [⟨some 2, none, .mv (.c (.bool false))⟩]
def c25r1 : List AOper :=
 [⟨some 6, none, .mv (.t 0)⟩,
 ⟨some 7, none, .call (.c (.fn 51 [])) [.t 6, .c (.str [97])]⟩,
 ⟨some 5, none, .mv (.t 7)⟩,
 ⟨some 8, none, .ext (.t 5) 0⟩,
 ⟨some 9, none, .ext (.t 5) 1⟩,
 ⟨some 3, none, .mv (.t 8)⟩,
 ⟨some 4, none, .mv (.t 9)⟩]
def c25r2 : List AOper :=
 [⟨some 10, none, .mv (.t 4)⟩,
 ⟨some 11, none, .bin .neq (.t 10) (.c (.int .i64 1))⟩,
 ⟨some 2, none, .mv (.t 11)⟩]
def c25 : AC := (.seq (.region c25r0) (.seq (.region c25r1) (.seq (.region c25r2) .ret)))
def r25 : List ARes := [.tmp 2]
theorem c25_ok : Tryz.f25.body.bind (cCode Tryz.prog Tryz.f25.ntmps) = some c25 := by kernel_rfl
theorem r25_ok : Tryz.f25.results.toList.mapM (cRes Tryz.prog Tryz.f25.ntmps) = some r25 := by kernel_rfl
def c26r0 : List AOper :=
 [⟨some 4, none, .mv (.c (.int .i64 0))⟩]
def c26r1 : List AOper :=
 [⟨some 10, none, .mv (.t 0)⟩,
 ⟨some 11, none, .call (.c (.fn 33 [])) [.t 10]⟩,
 ⟨some 12, none, .lenL (.t 11)⟩,
 ⟨some 13, none, .mv (.c (.int .i64 0))⟩]
def c26r2 : List AOper :=
 [⟨some 14, none, .bin .lss (.t 13) (.t 12)⟩]
def c26r3 : List AOper :=
 [⟨some 15, none, .idxA (.t 11) (.t 13) none 1⟩,
 ⟨some 16, none, .load (.t 15) none⟩,
 ⟨some 6, none, .mv (.t 16)⟩]
def c26r4 : List AOper :=
 [⟨some 18, none, .mv (.t 6)⟩,
 ⟨some 19, none, .call (.c (.fn 52 [])) [.t 18]⟩,
 ⟨some 17, none, .mv (.t 19)⟩,
 ⟨some 20, none, .ext (.t 17) 0⟩,
 ⟨some 21, none, .ext (.t 17) 1⟩,
 ⟨some 7, none, .mv (.t 20)⟩,
 ⟨some 8, none, .mv (.t 21)⟩]
def c26r5 : List AOper :=
 [⟨some 22, none, .mv (.t 8)⟩,
 ⟨some 23, none, .un .not (.t 22)⟩]
def c26r6 : List AOper :=
 [⟨some 24, none, .mv (.t 1)⟩,
 ⟨some 25, none, .mv (.t 7)⟩,
 ⟨some 26, none, .call (.t 24) [.t 25]⟩,
 ⟨some 9, none, .mv (.t 26)⟩]
def c26r7 : List AOper :=
 [⟨some 27, none, .mv (.t 9)⟩,
 ⟨some 28, none, .bin .neq (.t 27) (.c (.int .i64 0))⟩]
def c26r8 : List AOper :=
 [⟨some 29, none, .mv (.t 9)⟩,
 ⟨some 4, none, .mv (.t 29)⟩]
def c26r9 : List AOper :=
 [⟨some 30, none, .bin .add (.t 13) (.c (.int .i64 1))⟩,
 ⟨some 13, none, .mv (.t 30)⟩]
def c26l0 : AC := (.seq (.region c26r2) (.seq (.cond (.t 14) .skip (.exit 0)) (.seq (.block 1 (.seq (.region c26r3) (.seq (.region c26r4) (.seq (.seq (.region c26r5) (.cond (.t 23) (.exit 1) .skip)) (.seq (.region c26r6) (.seq (.region c26r7) (.cond (.t 28) (.seq (.region c26r8) .ret) .skip))))))) (.region c26r9))))
def c26r10 : List AOper :=
 [⟨some 4, none, .mv (.c (.int .i64 0))⟩]
def c26 : AC := (.seq (.region c26r0) (.seq (.seq (.region c26r1) (.block 0 (.loop c26l0))) (.seq (.region c26r10) .ret)))
def r26 : List ARes := [.tmp 4]
theorem c26_ok : Tryz.f26.body.bind (cCode Tryz.prog Tryz.f26.ntmps) = some c26 := by kernel_rfl
theorem r26_ok : Tryz.f26.results.toList.mapM (cRes Tryz.prog Tryz.f26.ntmps) = some r26 := by kernel_rfl
def c27r0 : List AOper :=
 [⟨some 5, none, .mv (.c (.int .i64 0))⟩]
def c27r1 : List AOper :=
 [⟨some 12, none, .mv (.t 0)⟩,
 ⟨some 13, none, .load (.t 1) none⟩,
 ⟨some 14, none, .bin .lss (.t 12) (.t 13)⟩]
def c27d0 : List (AOper × List Nat) :=
 [(⟨some 15, none, .load (.t 2) none⟩, []),
 (⟨some 16, none, .mv (.t 0)⟩, []),
 (⟨some 17, none, .call (.c (.fn 29 [])) [.t 16]⟩, [1]),
 (⟨some 18, none, .call (.c (.fn 28 [])) [.t 15, .t 17]⟩, [0, 2, 2]),
 (⟨some 5, none, .mv (.t 18)⟩, [3, 3, 0, 1, 2, 3])]
def c27d1 : List (AOper × List Nat) :=
 [(⟨some 20, none, .load (.t 2) none⟩, []),
 (⟨some 21, none, .mv (.t 0)⟩, []),
 (⟨some 22, none, .call (.c (.fn 29 [])) [.t 21]⟩, [1]),
 (⟨some 23, none, .call (.c (.fn 30 [])) [.t 20, .t 22]⟩, [0, 2, 2]),
 (⟨some 19, none, .mv (.t 23)⟩, [3]),
 (⟨some 24, none, .ext (.t 19) 0⟩, [4]),
 (⟨some 25, none, .ext (.t 19) 1⟩, [4]),
 (⟨some 6, none, .mv (.t 24)⟩, [5, 3, 0, 1, 2, 3, 4, 5]),
 (⟨some 7, none, .mv (.t 25)⟩, [6, 7, 0, 1, 2, 3, 4, 5, 6, 7])]
def c27r2 : List AOper :=
 [⟨some 27, none, .mv (.t 6)⟩,
 ⟨some 28, none, .call (.c (.fn 31 [])) [.t 27]⟩,
 ⟨some 26, none, .mv (.t 28)⟩,
 ⟨some 29, none, .ext (.t 26) 0⟩,
 ⟨some 30, none, .ext (.t 26) 1⟩,
 ⟨some 8, none, .mv (.t 29)⟩,
 ⟨some 9, none, .mv (.t 30)⟩]
def c27r3 : List AOper :=
 [⟨some 31, none, .mv (.t 8)⟩,
 ⟨some 32, none, .lenL (.t 31)⟩,
 ⟨some 33, none, .mv (.c (.int .i64 0))⟩]
def c27r4 : List AOper :=
 [⟨some 34, none, .bin .lss (.t 33) (.t 32)⟩]
def c27r5 : List AOper :=
 [⟨some 35, none, .idxA (.t 31) (.t 33) none 1⟩,
 ⟨some 36, none, .load (.t 35) none⟩,
 ⟨some 11, none, .mv (.t 36)⟩]
def c27d2 : List (AOper × List Nat) :=
 [(⟨some 37, none, .load (.t 3) none⟩, []),
 (⟨some 38, none, .load (.t 3) none⟩, []),
 (⟨some 39, none, .nilck (.t 38)⟩, [1]),
 (⟨some 40, none, .fldA (.t 39) 1⟩, [2]),
 (⟨some 41, none, .load (.t 40) none⟩, [3]),
 (⟨some 42, none, .mv (.t 11)⟩, []),
 (⟨some 43, none, .mv (.t 0)⟩, []),
 (⟨some 44, none, .build [.str [], .int .i64 0] [(0, 1, .t 42), (1, 1, .t 43)]⟩, [5, 6]),
 (⟨some 45, none, .bslice 1 2 [.str [], .int .i64 0] [(0, .t 44)]⟩, [7]),
 (⟨some 46, none, .append (.t 41) (.t 45) 2 24 false⟩, [4, 8]),
 (⟨some 47, none, .nilck (.t 37)⟩, [0, 0, 1, 2, 3, 4, 5, 6, 7, 8, 9]),
 (⟨some 48, none, .fldA (.t 47) 1⟩, [10, 0, 1, 2, 3, 4, 5, 6, 7, 8, 9]),
 (⟨none, none, .store (.t 48) (.t 46) 1⟩, [11, 9, 9, 0, 1, 2, 3, 4, 5, 6, 7, 8, 9])]
def c27r6 : List AOper :=
 [⟨some 49, none, .bin .add (.t 33) (.c (.int .i64 1))⟩,
 ⟨some 33, none, .mv (.t 49)⟩]
def c27l0 : AC := (.seq (.region c27r4) (.seq (.cond (.t 34) .skip (.exit 0)) (.seq (.block 1 (.seq (.region c27r5) (.drawn c27d2))) (.region c27r6))))
def c27r7 : List AOper :=
 [⟨some 50, none, .load (.t 3) none⟩,
 ⟨some 51, none, .mv (.t 0)⟩,
 ⟨some 52, none, .bin .add (.t 51) (.c (.int .i64 1))⟩,
 ⟨some 53, none, .nilck (.t 50)⟩,
 ⟨some 54, none, .fldA (.t 53) 2⟩,
 ⟨none, none, .store (.t 54) (.t 52) 1⟩]
def c27r8 : List AOper :=
 [⟨some 55, none, .mv (.t 7)⟩,
 ⟨some 5, none, .mv (.t 55)⟩]
def c27 : AC := (.seq (.region c27r0) (.seq (.seq (.region c27r1) (.cond (.t 14) (.seq (.drawn c27d0) .ret) .skip)) (.seq (.drawn c27d1) (.seq (.region c27r2) (.seq (.seq (.region c27r3) (.block 0 (.loop c27l0))) (.seq (.region c27r7) (.seq (.region c27r8) .ret)))))))
def r27 : List ARes := [.tmp 5]
theorem c27_ok : Tryz.f27.body.bind (cCode Tryz.prog Tryz.f27.ntmps) = some c27 := by kernel_rfl
theorem r27_ok : Tryz.f27.results.toList.mapM (cRes Tryz.prog Tryz.f27.ntmps) = some r27 := by kernel_rfl
def c28r0 : List AOper :=
 [⟨some 4, none, .mv (.c (.int .i64 0))⟩]
def c28r1 : List AOper :=
 [⟨some 8, none, .mv (.t 0)⟩,
 ⟨some 9, none, .mv (.t 1)⟩,
 ⟨some 10, none, .call (.c (.fn 53 [])) [.t 8, .t 9, .c .nils]⟩,
 ⟨some 7, none, .mv (.t 10)⟩,
 ⟨some 11, none, .ext (.t 7) 0⟩,
 ⟨some 12, none, .ext (.t 7) 1⟩,
 ⟨some 5, none, .mv (.t 11)⟩,
 ⟨some 6, none, .mv (.t 12)⟩]
def c28r2 : List AOper :=
 [⟨some 13, none, .mv (.t 6)⟩,
 ⟨some 14, none, .bin .eql (.t 13) (.c (.int .i64 0))⟩]
def c28r3 : List AOper :=
 [⟨some 15, none, .mv (.t 0)⟩,
 ⟨some 16, none, .nilck (.t 15)⟩,
 ⟨some 17, none, .fldA (.t 16) 0⟩,
 ⟨some 18, none, .load (.t 17) none⟩,
 ⟨some 19, none, .mv (.t 1)⟩,
 ⟨none, none, .mdel 1 (.t 18) (.t 19)⟩]
def c28r4 : List AOper :=
 [⟨some 20, none, .mv (.t 6)⟩,
 ⟨some 4, none, .mv (.t 20)⟩]
def c28 : AC := (.seq (.region c28r0) (.seq (.region c28r1) (.seq (.seq (.region c28r2) (.cond (.t 14) (.region c28r3) .skip)) (.seq (.region c28r4) .ret))))
def r28 : List ARes := [.tmp 4]
theorem c28_ok : Tryz.f28.body.bind (cCode Tryz.prog Tryz.f28.ntmps) = some c28 := by kernel_rfl
theorem r28_ok : Tryz.f28.results.toList.mapM (cRes Tryz.prog Tryz.f28.ntmps) = some r28 := by kernel_rfl
def c29r0 : List AOper :=
 [⟨some 2, none, .mv (.c (.str []))⟩]
def c29r1 : List AOper :=
 [⟨some 4, none, .mv (.t 0)⟩,
 ⟨some 5, none, .call (.c (.fn 54 [])) [.t 4]⟩,
 ⟨some 3, none, .mv (.t 5)⟩]
def c29r2 : List AOper :=
 [⟨some 6, none, .mv (.t 3)⟩,
 ⟨some 7, none, .lenS (.t 6)⟩,
 ⟨some 8, none, .bin .sub (.c (.int .i64 8)) (.t 7)⟩,
 ⟨some 9, none, .call (.c (.fn 55 [])) [.c (.str [48]), .t 8]⟩,
 ⟨some 10, none, .bin .add (.c (.str [108, 111, 103, 45])) (.t 9)⟩,
 ⟨some 11, none, .mv (.t 3)⟩,
 ⟨some 12, none, .bin .add (.t 10) (.t 11)⟩,
 ⟨some 2, none, .mv (.t 12)⟩]
def c29 : AC := (.seq (.region c29r0) (.seq (.region c29r1) (.seq (.region c29r2) .ret)))
def r29 : List ARes := [.tmp 2]
theorem c29_ok : Tryz.f29.body.bind (cCode Tryz.prog Tryz.f29.ntmps) = some c29 := by kernel_rfl
theorem r29_ok : Tryz.f29.results.toList.mapM (cRes Tryz.prog Tryz.f29.ntmps) = some r29 := by kernel_rfl
def c30r0 : List AOper :=
 [⟨some 4, none, .mv (.c (.str []))⟩,
 ⟨some 5, none, .mv (.c (.int .i64 0))⟩]
def c30r1 : List AOper :=
 [⟨some 9, none, .mv (.t 0)⟩,
 ⟨some 10, none, .mv (.t 1)⟩,
 ⟨some 11, none, .call (.c (.fn 56 [])) [.t 9, .t 10]⟩,
 ⟨some 8, none, .mv (.t 11)⟩,
 ⟨some 12, none, .ext (.t 8) 0⟩,
 ⟨some 13, none, .ext (.t 8) 1⟩,
 ⟨some 6, none, .mv (.t 12)⟩,
 ⟨some 7, none, .mv (.t 13)⟩]
def c30r2 : List AOper :=
 [⟨some 14, none, .mv (.t 7)⟩,
 ⟨some 15, none, .bin .neq (.t 14) (.c (.int .i64 0))⟩]
def c30r3 : List AOper :=
 [⟨some 16, none, .mv (.t 7)⟩,
 ⟨some 4, none, .mv (.c (.str []))⟩,
 ⟨some 5, none, .mv (.t 16)⟩]
def c30r4 : List AOper :=
 [⟨some 17, none, .mv (.t 6)⟩,
 ⟨some 18, none, .nilck (.t 17)⟩,
 ⟨some 19, none, .fldA (.t 18) 0⟩,
 ⟨some 20, none, .load (.t 19) none⟩,
 ⟨some 21, none, .b2s (.t 20)⟩,
 ⟨some 4, none, .mv (.t 21)⟩,
 ⟨some 5, none, .mv (.c (.int .i64 0))⟩]
def c30 : AC := (.seq (.region c30r0) (.seq (.region c30r1) (.seq (.seq (.region c30r2) (.cond (.t 15) (.seq (.region c30r3) .ret) .skip)) (.seq (.region c30r4) .ret))))
def r30 : List ARes := [.tmp 4, .tmp 5]
theorem c30_ok : Tryz.f30.body.bind (cCode Tryz.prog Tryz.f30.ntmps) = some c30 := by kernel_rfl
theorem r30_ok : Tryz.f30.results.toList.mapM (cRes Tryz.prog Tryz.f30.ntmps) = some r30 := by kernel_rfl
def c31r0 : List AOper :=
 [⟨some 2, none, .mv (.c .nils)⟩,
 ⟨some 3, none, .mv (.c (.int .i64 0))⟩]
def c31r1 : List AOper :=
 [⟨some 4, none, .alloc [.nils]⟩]
def c31r2 : List AOper :=
 [⟨some 6, none, .mv (.t 0)⟩,
 ⟨some 7, none, .mkf 58 [.t 4]⟩,
 ⟨some 8, none, .call (.c (.fn 57 [])) [.t 6, .t 7]⟩,
 ⟨some 5, none, .mv (.t 8)⟩]
def c31r3 : List AOper :=
 [⟨some 9, none, .load (.t 4) none⟩,
 ⟨some 10, none, .mv (.t 5)⟩,
 ⟨some 2, none, .mv (.t 9)⟩,
 ⟨some 3, none, .mv (.t 10)⟩]
def c31 : AC := (.seq (.region c31r0) (.seq (.region c31r1) (.seq (.region c31r2) (.seq (.region c31r3) .ret))))
def r31 : List ARes := [.tmp 2, .tmp 3]
theorem c31_ok : Tryz.f31.body.bind (cCode Tryz.prog Tryz.f31.ntmps) = some c31 := by kernel_rfl
theorem r31_ok : Tryz.f31.results.toList.mapM (cRes Tryz.prog Tryz.f31.ntmps) = some r31 := by kernel_rfl
def c32r0 : List AOper :=
 [⟨some 4, none, .mv (.c (.int .i64 0))⟩]
def c32r1 : List AOper :=
 [⟨some 8, none, .mv (.t 0)⟩,
 ⟨some 9, none, .mv (.t 1)⟩,
 ⟨some 10, none, .bslice 1 1 [.str []] [(0, .t 9)]⟩,
 ⟨some 11, none, .call (.c (.fn 59 [])) [.t 8, .t 10]⟩,
 ⟨some 5, none, .mv (.t 11)⟩]
def c32r2 : List AOper :=
 [⟨some 12, none, .mv (.t 5)⟩,
 ⟨some 13, none, .bin .neq (.t 12) (.c (.int .i64 0))⟩]
def c32r3 : List AOper :=
 [⟨some 14, none, .mv (.t 5)⟩,
 ⟨some 4, none, .mv (.t 14)⟩]
def c32r4 : List AOper :=
 [⟨some 16, none, .mv (.t 0)⟩,
 ⟨some 17, none, .nilck (.t 16)⟩,
 ⟨some 18, none, .fldA (.t 17) 0⟩,
 ⟨some 19, none, .load (.t 18) none⟩,
 ⟨some 20, none, .mv (.t 1)⟩,
 ⟨some 21, none, .mget 1 (.t 19) (.t 20) .nilp true⟩,
 ⟨some 15, none, .mv (.t 21)⟩,
 ⟨some 22, none, .ext (.t 15) 0⟩,
 ⟨some 23, none, .ext (.t 15) 1⟩,
 ⟨some 6, none, .mv (.t 22)⟩,
 ⟨some 7, none, .mv (.t 23)⟩]
def c32r5 : List AOper :=
 [⟨some 24, none, .mv (.t 7)⟩]
def c32r6 : List AOper :=
 [⟨some 4, none, .mv (.c (.int .i64 1))⟩]
def c32r7 : List AOper :=
 [⟨some 25, none, .mv (.t 0)⟩,
 ⟨some 26, none, .nilck (.t 25)⟩,
 ⟨some 27, none, .fldA (.t 26) 0⟩,
 ⟨some 28, none, .load (.t 27) none⟩,
 ⟨some 29, none, .lenM (.t 28)⟩,
 ⟨some 30, none, .bin .geq (.t 29) (.c (.int .i64 256))⟩]
def c32r8 : List AOper :=
 [⟨some 4, none, .mv (.c (.int .i64 2))⟩]
def c32r9 : List AOper :=
 [⟨some 31, none, .mv (.t 0)⟩,
 ⟨some 32, none, .nilck (.t 31)⟩,
 ⟨some 33, none, .fldA (.t 32) 0⟩,
 ⟨some 34, none, .load (.t 33) none⟩,
 ⟨some 35, none, .mv (.t 1)⟩,
 ⟨some 36, none, .build [.nils, .int .i64 0] []⟩,
 ⟨some 37, none, .box (.t 36)⟩,
 ⟨none, none, .mupd 1 (.t 34) (.t 35) (.t 37)⟩]
def c32r10 : List AOper :=
 [⟨some 4, none, .mv (.c (.int .i64 0))⟩]
def c32 : AC := (.seq (.region c32r0) (.seq (.seq (.region c32r1) (.seq (.region c32r2) (.cond (.t 13) (.seq (.region c32r3) .ret) .skip))) (.seq (.seq (.region c32r4) (.seq (.region c32r5) (.cond (.t 24) (.seq (.region c32r6) .ret) .skip))) (.seq (.seq (.region c32r7) (.cond (.t 30) (.seq (.region c32r8) .ret) .skip)) (.seq (.region c32r9) (.seq (.region c32r10) .ret))))))
def r32 : List ARes := [.tmp 4]
theorem c32_ok : Tryz.f32.body.bind (cCode Tryz.prog Tryz.f32.ntmps) = some c32 := by kernel_rfl
theorem r32_ok : Tryz.f32.results.toList.mapM (cRes Tryz.prog Tryz.f32.ntmps) = some r32 := by kernel_rfl
def c33r0 : List AOper :=
 [⟨some 2, none, .mv (.c .nils)⟩]
def c33r1 : List AOper :=
 [⟨some 3, none, .mv (.t 0)⟩,
 ⟨some 4, none, .call (.c (.fn 38 [])) [.t 3, .c .nils]⟩,
 ⟨some 5, none, .un .not (.t 4)⟩]
def c33r2 : List AOper :=
 [⟨some 2, none, .mv (.c .nils)⟩]
def c33r3 : List AOper :=
 [⟨some 6, none, .mv (.t 0)⟩,
 ⟨some 7, none, .nilck (.t 6)⟩,
 ⟨some 8, none, .fldA (.t 7) 0⟩,
 ⟨some 9, none, .load (.t 8) none⟩,
 ⟨some 10, none, .call (.c (.fn 61 [])) [.t 9]⟩,
 ⟨some 11, none, .call (.c (.fn 60 [])) [.t 10]⟩,
 ⟨some 2, none, .mv (.t 11)⟩]
def c33 : AC := (.seq (.region c33r0) (.seq (.seq (.region c33r1) (.cond (.t 5) (.seq (.region c33r2) .ret) .skip)) (.seq (.region c33r3) .ret)))
def r33 : List ARes := [.tmp 2]
theorem c33_ok : Tryz.f33.body.bind (cCode Tryz.prog Tryz.f33.ntmps) = some c33 := by kernel_rfl
theorem r33_ok : Tryz.f33.results.toList.mapM (cRes Tryz.prog Tryz.f33.ntmps) = some r33 := by kernel_rfl
def c34r0 : List AOper :=
 [⟨some 2, none, .mv (.c (.bool false))⟩]
def c34r1 : List AOper :=
 [⟨some 3, none, .mv (.t 0)⟩,
 ⟨some 4, none, .eq true 1 (.t 3) (.c .nilp)⟩,
 ⟨some 5, none, .mv (.t 4)⟩,
 ⟨some 6, some (5, true), .mv (.t 0)⟩,
 ⟨some 7, some (5, true), .nilck (.t 6)⟩,
 ⟨some 8, some (5, true), .fldA (.t 7) 0⟩,
 ⟨some 9, some (5, true), .load (.t 8) none⟩,
 ⟨some 10, some (5, true), .eq true 1 (.t 9) (.c .nilp)⟩,
 ⟨some 11, none, .pick (.t 5) (.t 10) (.c (.bool false))⟩,
 ⟨some 2, none, .mv (.t 11)⟩]
def c34 : AC := (.seq (.region c34r0) (.seq (.region c34r1) .ret))
def r34 : List ARes := [.tmp 2]
theorem c34_ok : Tryz.f34.body.bind (cCode Tryz.prog Tryz.f34.ntmps) = some c34 := by kernel_rfl
theorem r34_ok : Tryz.f34.results.toList.mapM (cRes Tryz.prog Tryz.f34.ntmps) = some r34 := by kernel_rfl
def c35r0 : List AOper :=
 [⟨some 2, none, .mv (.c (.str []))⟩,
 ⟨some 3, none, .mv (.c (.int .i64 0))⟩]
def c35r1 : List AOper :=
 [⟨some 7, none, .mv (.t 0)⟩,
 ⟨some 8, none, .call (.c (.fn 62 [])) [.t 7]⟩,
 ⟨some 6, none, .mv (.t 8)⟩,
 ⟨some 9, none, .ext (.t 6) 0⟩,
 ⟨some 10, none, .ext (.t 6) 1⟩,
 ⟨some 4, none, .mv (.t 9)⟩,
 ⟨some 5, none, .mv (.t 10)⟩]
def c35r2 : List AOper :=
 [⟨some 11, none, .mv (.t 5)⟩,
 ⟨some 12, none, .bin .neq (.t 11) (.c (.int .i64 0))⟩]
def c35r3 : List AOper :=
 [⟨some 13, none, .mv (.t 5)⟩,
 ⟨some 2, none, .mv (.c (.str []))⟩,
 ⟨some 3, none, .mv (.t 13)⟩]
def c35r4 : List AOper :=
 [⟨some 14, none, .mv (.t 4)⟩,
 ⟨some 15, none, .call (.c (.fn 63 [])) [.t 14]⟩,
 ⟨some 2, none, .mv (.t 15)⟩,
 ⟨some 3, none, .mv (.c (.int .i64 0))⟩]
def c35 : AC := (.seq (.region c35r0) (.seq (.region c35r1) (.seq (.seq (.region c35r2) (.cond (.t 12) (.seq (.region c35r3) .ret) .skip)) (.seq (.region c35r4) .ret))))
def r35 : List ARes := [.tmp 2, .tmp 3]
theorem c35_ok : Tryz.f35.body.bind (cCode Tryz.prog Tryz.f35.ntmps) = some c35 := by kernel_rfl
theorem r35_ok : Tryz.f35.results.toList.mapM (cRes Tryz.prog Tryz.f35.ntmps) = some r35 := by kernel_rfl
def c36r0 : List AOper :=
 [⟨some 6, none, .mv (.c (.int .i64 0))⟩]
def c36r1 : List AOper :=
 [⟨some 10, none, .mv (.t 0)⟩,
 ⟨some 11, none, .mv (.t 1)⟩,
 ⟨some 12, none, .call (.c (.fn 53 [])) [.t 10, .t 11, .c .nils]⟩,
 ⟨some 9, none, .mv (.t 12)⟩,
 ⟨some 13, none, .ext (.t 9) 0⟩,
 ⟨some 14, none, .ext (.t 9) 1⟩,
 ⟨some 7, none, .mv (.t 13)⟩,
 ⟨some 8, none, .mv (.t 14)⟩]
def c36r2 : List AOper :=
 [⟨some 16, none, .mv (.t 8)⟩,
 ⟨some 17, none, .bin .neq (.t 16) (.c (.int .i64 0))⟩,
 ⟨some 15, none, .mv (.t 17)⟩]
def c36r3 : List AOper :=
 [⟨some 18, none, .mv (.t 8)⟩,
 ⟨some 6, none, .mv (.t 18)⟩]
def c36r4 : List AOper :=
 [⟨some 20, none, .mv (.t 2)⟩,
 ⟨some 21, none, .lenS (.t 20)⟩,
 ⟨some 22, none, .mv (.t 7)⟩,
 ⟨some 23, none, .nilck (.t 22)⟩,
 ⟨some 24, none, .fldA (.t 23) 0⟩,
 ⟨some 25, none, .load (.t 24) none⟩,
 ⟨some 26, none, .lenL (.t 25)⟩,
 ⟨some 27, none, .bin .sub (.c (.int .i64 4194304)) (.t 26)⟩,
 ⟨some 28, none, .bin .gtr (.t 21) (.t 27)⟩,
 ⟨some 19, none, .mv (.t 28)⟩]
def c36r5 : List AOper :=
 [⟨some 6, none, .mv (.c (.int .i64 2))⟩]
def c36r6 : List AOper :=
 [⟨some 29, none, .mv (.t 7)⟩,
 ⟨some 30, none, .mv (.t 7)⟩,
 ⟨some 31, none, .nilck (.t 30)⟩,
 ⟨some 32, none, .fldA (.t 31) 0⟩,
 ⟨some 33, none, .load (.t 32) none⟩,
 ⟨some 34, none, .mv (.t 2)⟩,
 ⟨some 35, none, .appendB (.t 33) (.t 34) 1 5⟩,
 ⟨some 36, none, .nilck (.t 29)⟩,
 ⟨some 37, none, .fldA (.t 36) 0⟩,
 ⟨none, none, .store (.t 37) (.t 35) 1⟩]
def c36r7 : List AOper :=
 [⟨some 6, none, .mv (.c (.int .i64 0))⟩]
def c36 : AC := (.seq (.region c36r0) (.seq (.region c36r1) (.seq (.block 0 (.seq (.region c36r2) (.cond (.t 15) (.seq (.region c36r3) .ret) (.seq (.region c36r4) (.cond (.t 19) (.seq (.region c36r5) .ret) .skip))))) (.seq (.region c36r6) (.seq (.region c36r7) .ret)))))
def r36 : List ARes := [.tmp 6]
theorem c36_ok : Tryz.f36.body.bind (cCode Tryz.prog Tryz.f36.ntmps) = some c36 := by kernel_rfl
theorem r36_ok : Tryz.f36.results.toList.mapM (cRes Tryz.prog Tryz.f36.ntmps) = some r36 := by kernel_rfl
def c37r0 : List AOper :=
 [⟨some 4, none, .mv (.c (.int .i64 0))⟩]
def c37r1 : List AOper :=
 [⟨some 8, none, .mv (.t 0)⟩,
 ⟨some 9, none, .mv (.t 1)⟩,
 ⟨some 10, none, .call (.c (.fn 53 [])) [.t 8, .t 9, .c .nils]⟩,
 ⟨some 7, none, .mv (.t 10)⟩,
 ⟨some 11, none, .ext (.t 7) 0⟩,
 ⟨some 12, none, .ext (.t 7) 1⟩,
 ⟨some 5, none, .mv (.t 11)⟩,
 ⟨some 6, none, .mv (.t 12)⟩]
def c37r2 : List AOper :=
 [⟨some 13, none, .mv (.t 6)⟩,
 ⟨some 14, none, .bin .eql (.t 13) (.c (.int .i64 0))⟩]
def c37r3 : List AOper :=
 [⟨some 15, none, .mv (.t 5)⟩,
 ⟨some 16, none, .mv (.t 5)⟩,
 ⟨some 17, none, .nilck (.t 16)⟩,
 ⟨some 18, none, .fldA (.t 17) 0⟩,
 ⟨some 19, none, .load (.t 18) none⟩,
 ⟨some 20, none, .lenL (.t 19)⟩,
 ⟨some 21, none, .nilck (.t 15)⟩,
 ⟨some 22, none, .fldA (.t 21) 1⟩,
 ⟨none, none, .store (.t 22) (.t 20) 1⟩]
def c37r4 : List AOper :=
 [⟨some 23, none, .mv (.t 6)⟩,
 ⟨some 4, none, .mv (.t 23)⟩]
def c37 : AC := (.seq (.region c37r0) (.seq (.region c37r1) (.seq (.seq (.region c37r2) (.cond (.t 14) (.region c37r3) .skip)) (.seq (.region c37r4) .ret))))
def r37 : List ARes := [.tmp 4]
theorem c37_ok : Tryz.f37.body.bind (cCode Tryz.prog Tryz.f37.ntmps) = some c37 := by kernel_rfl
theorem r37_ok : Tryz.f37.results.toList.mapM (cRes Tryz.prog Tryz.f37.ntmps) = some r37 := by kernel_rfl
def c38r0 : List AOper :=
 [⟨some 4, none, .mv (.c (.bool false))⟩]
def c38r1 : List AOper :=
 [⟨some 8, none, .mv (.t 0)⟩,
 ⟨some 9, none, .eq false 1 (.t 8) (.c .nilp)⟩,
 ⟨some 10, none, .mv (.t 9)⟩,
 ⟨some 11, some (10, false), .mv (.t 0)⟩,
 ⟨some 12, some (10, false), .nilck (.t 11)⟩,
 ⟨some 13, some (10, false), .fldA (.t 12) 0⟩,
 ⟨some 14, some (10, false), .load (.t 13) none⟩,
 ⟨some 15, some (10, false), .eq false 4 (.t 14) (.c .nilm)⟩,
 ⟨some 16, none, .pick (.t 10) (.c (.bool true)) (.t 15)⟩]
def c38r2 : List AOper :=
 [⟨some 4, none, .mv (.c (.bool false))⟩]
def c38r3 : List AOper :=
 [⟨some 5, none, .mv (.c (.fn 64 []))⟩]
def c38r4 : List AOper :=
 [⟨some 17, none, .mv (.t 1)⟩,
 ⟨some 18, none, .lenL (.t 17)⟩,
 ⟨some 19, none, .mv (.c (.int .i64 0))⟩]
def c38r5 : List AOper :=
 [⟨some 20, none, .bin .lss (.t 19) (.t 18)⟩]
def c38r6 : List AOper :=
 [⟨some 21, none, .idxA (.t 17) (.t 19) none 1⟩,
 ⟨some 22, none, .load (.t 21) none⟩,
 ⟨some 7, none, .mv (.t 22)⟩]
def c38r7 : List AOper :=
 [⟨some 23, none, .mv (.t 7)⟩,
 ⟨some 24, none, .bin .eql (.t 23) (.c (.str []))⟩,
 ⟨some 25, none, .mv (.t 24)⟩,
 ⟨some 26, some (25, false), .mv (.t 7)⟩,
 ⟨some 27, some (25, false), .lenS (.t 26)⟩,
 ⟨some 28, some (25, false), .bin .gtr (.t 27) (.c (.int .i64 32))⟩,
 ⟨some 29, none, .pick (.t 25) (.c (.bool true)) (.t 28)⟩,
 ⟨some 30, none, .mv (.t 29)⟩,
 ⟨some 31, some (30, false), .mv (.t 7)⟩,
 ⟨some 32, some (30, false), .mv (.t 5)⟩,
 ⟨some 33, some (30, false), .call (.c (.fn 65 [])) [.t 31, .t 32]⟩,
 ⟨some 34, some (30, false), .bin .geq (.t 33) (.c (.int .i64 0))⟩,
 ⟨some 35, none, .pick (.t 30) (.c (.bool true)) (.t 34)⟩]
def c38r8 : List AOper :=
 [⟨some 4, none, .mv (.c (.bool false))⟩]
def c38r9 : List AOper :=
 [⟨some 36, none, .bin .add (.t 19) (.c (.int .i64 1))⟩,
 ⟨some 19, none, .mv (.t 36)⟩]
def c38l0 : AC := (.seq (.region c38r5) (.seq (.cond (.t 20) .skip (.exit 0)) (.seq (.block 1 (.seq (.region c38r6) (.seq (.region c38r7) (.cond (.t 35) (.seq (.region c38r8) .ret) .skip)))) (.region c38r9))))
def c38r10 : List AOper :=
 [⟨some 4, none, .mv (.c (.bool true))⟩]
def c38 : AC := (.seq (.region c38r0) (.seq (.seq (.region c38r1) (.cond (.t 16) (.seq (.region c38r2) .ret) .skip)) (.seq (.region c38r3) (.seq (.seq (.region c38r4) (.block 0 (.loop c38l0))) (.seq (.region c38r10) .ret)))))
def r38 : List ARes := [.tmp 4]
theorem c38_ok : Tryz.f38.body.bind (cCode Tryz.prog Tryz.f38.ntmps) = some c38 := by kernel_rfl
theorem r38_ok : Tryz.f38.results.toList.mapM (cRes Tryz.prog Tryz.f38.ntmps) = some r38 := by kernel_rfl
def c39r0 : List AOper :=
 [⟨some 4, none, .mv (.c (.int .i64 0))⟩]
def c39r1 : List AOper :=
 [⟨some 5, none, .mv (.t 0)⟩,
 ⟨some 6, none, .load (.t 1) none⟩,
 ⟨some 7, none, .bin .geq (.t 5) (.t 6)⟩]
def c39r2 : List AOper :=
 [⟨some 4, none, .mv (.c (.int .i64 0))⟩]
def c39d0 : List (AOper × List Nat) :=
 [(⟨some 8, none, .load (.t 2) none⟩, []),
 (⟨some 9, none, .nilck (.t 8)⟩, [0]),
 (⟨some 10, none, .fldA (.t 9) 0⟩, [1]),
 (⟨some 11, none, .load (.t 10) none⟩, [2]),
 (⟨some 12, none, .mv (.t 0)⟩, []),
 (⟨some 13, none, .call (.c (.fn 29 [])) [.t 12]⟩, [4]),
 (⟨some 14, none, .call (.c (.fn 28 [])) [.t 11, .t 13]⟩, [3, 5, 5]),
 (⟨some 4, none, .mv (.t 14)⟩, [6, 6, 0, 1, 2, 3, 4, 5, 6])]
def c39 : AC := (.seq (.region c39r0) (.seq (.seq (.region c39r1) (.cond (.t 7) (.seq (.region c39r2) .ret) .skip)) (.seq (.drawn c39d0) .ret)))
def r39 : List ARes := [.tmp 4]
theorem c39_ok : Tryz.f39.body.bind (cCode Tryz.prog Tryz.f39.ntmps) = some c39 := by kernel_rfl
theorem r39_ok : Tryz.f39.results.toList.mapM (cRes Tryz.prog Tryz.f39.ntmps) = some r39 := by kernel_rfl
def c40r0 : List AOper :=
 [⟨some 4, none, .mv (.c .nils)⟩]
def c40r1 : List AOper :=
 [⟨some 8, none, .mv (.t 0)⟩,
 ⟨some 9, none, .mv (.t 1)⟩,
 ⟨some 10, none, .call (.c (.fn 66 [])) [.t 8, .t 9]⟩,
 ⟨some 5, none, .mv (.t 10)⟩]
def c40r2 : List AOper :=
 [⟨some 11, none, .mv (.t 5)⟩,
 ⟨some 12, none, .bin .eql (.t 11) (.c (.int .i64 (-1)))⟩]
def c40r3 : List AOper :=
 [⟨some 13, none, .mv (.t 0)⟩,
 ⟨some 4, none, .mv (.t 13)⟩]
def c40r4 : List AOper :=
 [⟨some 14, none, .mv (.t 5)⟩,
 ⟨some 15, none, .bin .add (.t 14) (.c (.int .i64 1))⟩,
 ⟨some 6, none, .mv (.t 15)⟩]
def c40r5 : List AOper :=
 [⟨some 16, none, .mv (.t 6)⟩,
 ⟨some 17, none, .mv (.t 0)⟩,
 ⟨some 18, none, .lenL (.t 17)⟩,
 ⟨some 19, none, .bin .lss (.t 16) (.t 18)⟩]
def c40r6 : List AOper :=
 [⟨some 22, none, .mv (.t 0)⟩,
 ⟨some 23, none, .mv (.t 6)⟩,
 ⟨some 24, none, .idxA (.t 22) (.t 23) none 2⟩,
 ⟨some 25, none, .load (.t 24) (some 2)⟩,
 ⟨some 7, none, .alloc [.str [], .int .i64 0]⟩,
 ⟨none, none, .store (.t 7) (.t 25) 2⟩]
def c40r7 : List AOper :=
 [⟨some 26, none, .mv (.t 1)⟩,
 ⟨some 27, none, .load (.t 7) (some 2)⟩,
 ⟨some 28, none, .call (.t 26) [.t 27]⟩,
 ⟨some 29, none, .un .not (.t 28)⟩]
def c40r8 : List AOper :=
 [⟨some 30, none, .mv (.t 0)⟩,
 ⟨some 31, none, .mv (.t 5)⟩,
 ⟨some 32, none, .load (.t 7) (some 2)⟩,
 ⟨some 33, none, .idxA (.t 30) (.t 31) none 2⟩,
 ⟨none, none, .store (.t 33) (.t 32) 2⟩]
def c40r9 : List AOper :=
 [⟨some 34, none, .mv (.t 5)⟩,
 ⟨some 35, none, .bin .add (.t 34) (.c (.int .i64 1))⟩,
 ⟨some 5, none, .mv (.t 35)⟩]
def c40r10 : List AOper :=
 [⟨some 20, none, .mv (.t 6)⟩,
 ⟨some 21, none, .bin .add (.t 20) (.c (.int .i64 1))⟩,
 ⟨some 6, none, .mv (.t 21)⟩]
def c40l0 : AC := (.seq (.seq (.region c40r5) (.cond (.t 19) .skip (.exit 0))) (.seq (.block 1 (.seq (.region c40r6) (.seq (.region c40r7) (.cond (.t 29) (.seq (.region c40r8) (.region c40r9)) .skip)))) (.region c40r10)))
def c40r11 : List AOper :=
 [⟨some 36, none, .mv (.t 0)⟩,
 ⟨some 37, none, .mv (.t 5)⟩,
 ⟨some 38, none, .slc (.t 36) (some (.t 37)) none none 2⟩,
 ⟨none, none, .clear (.t 38) [.str [], .int .i64 0]⟩]
def c40r12 : List AOper :=
 [⟨some 39, none, .mv (.t 0)⟩,
 ⟨some 40, none, .mv (.t 5)⟩,
 ⟨some 41, none, .slc (.t 39) none (some (.t 40)) none 2⟩,
 ⟨some 4, none, .mv (.t 41)⟩]
def c40 : AC := (.seq (.region c40r0) (.seq (.region c40r1) (.seq (.seq (.region c40r2) (.cond (.t 12) (.seq (.region c40r3) .ret) .skip)) (.seq (.seq (.region c40r4) (.block 0 (.loop c40l0))) (.seq (.region c40r11) (.seq (.region c40r12) .ret))))))
def r40 : List ARes := [.tmp 4]
theorem c40_ok : Tryz.f40.body.bind (cCode Tryz.prog Tryz.f40.ntmps) = some c40 := by kernel_rfl
theorem r40_ok : Tryz.f40.results.toList.mapM (cRes Tryz.prog Tryz.f40.ntmps) = some r40 := by kernel_rfl
def c41r0 : List AOper :=
 [⟨some 2, none, .box (.t 0)⟩,
 ⟨some 3, none, .mv (.c (.bool false))⟩]
def c41r1 : List AOper :=
 [⟨some 4, none, .fldA (.t 2) 1⟩,
 ⟨some 5, none, .load (.t 4) none⟩,
 ⟨some 6, none, .load (.t 1) none⟩,
 ⟨some 7, none, .bin .lss (.t 5) (.t 6)⟩,
 ⟨some 3, none, .mv (.t 7)⟩]
def c41 : AC := (.seq (.region c41r0) (.seq (.region c41r1) .ret))
def r41 : List ARes := [.tmp 3]
theorem c41_ok : Tryz.f41.body.bind (cCode Tryz.prog Tryz.f41.ntmps) = some c41 := by kernel_rfl
theorem r41_ok : Tryz.f41.results.toList.mapM (cRes Tryz.prog Tryz.f41.ntmps) = some r41 := by kernel_rfl
def c42r0 : List AOper :=
 [⟨some 2, none, .box (.t 0)⟩,
 ⟨some 4, none, .alloc [.nils, .int .i64 0, .bool false]⟩]
def c42r1 : List AOper :=
 [⟨some 9, none, .build [.nils, .int .i64 0, .bool false] [(1, 1, .c (.int .i64 (-1)))]⟩,
 ⟨some 5, none, .alloc [.nils, .int .i64 0, .bool false]⟩,
 ⟨none, none, .store (.t 5) (.t 9) 3⟩]
def c42r2 : List AOper :=
 [⟨some 6, none, .mv (.c (.int .i64 0))⟩]
def c42r3 : List AOper :=
 [⟨some 10, none, .mv (.t 6)⟩,
 ⟨some 11, none, .fldA (.t 2) 0⟩,
 ⟨some 12, none, .load (.t 11) none⟩,
 ⟨some 13, none, .lenL (.t 12)⟩,
 ⟨some 14, none, .bin .lss (.t 10) (.t 13)⟩]
def c42r4 : List AOper :=
 [⟨some 17, none, .fldA (.t 2) 0⟩,
 ⟨some 18, none, .load (.t 17) none⟩,
 ⟨some 19, none, .mv (.t 6)⟩,
 ⟨some 20, none, .idxA (.t 18) (.t 19) none 3⟩,
 ⟨some 21, none, .load (.t 20) (some 3)⟩,
 ⟨some 7, none, .alloc [.str [], .str [], .int .i64 0]⟩,
 ⟨none, none, .store (.t 7) (.t 21) 3⟩]
def c42r5 : List AOper :=
 [⟨some 8, none, .mv (.c (.int .i64 0))⟩]
def c42r6 : List AOper :=
 [⟨some 22, none, .mv (.t 1)⟩,
 ⟨some 23, none, .lenL (.t 22)⟩,
 ⟨some 24, none, .bin .gtr (.t 23) (.c (.int .i64 0))⟩]
def c42r7 : List AOper :=
 [⟨some 25, none, .mv (.t 1)⟩,
 ⟨some 26, none, .mv (.t 6)⟩,
 ⟨some 27, none, .mv (.t 1)⟩,
 ⟨some 28, none, .lenL (.t 27)⟩,
 ⟨some 29, none, .bin .rem (.t 26) (.t 28)⟩,
 ⟨some 30, none, .idxA (.t 25) (.t 29) none 1⟩,
 ⟨some 31, none, .load (.t 30) none⟩,
 ⟨some 32, none, .mm true [.c (.int .i64 0), .t 31]⟩,
 ⟨some 8, none, .mv (.t 32)⟩]
def c42r8 : List AOper :=
 [⟨some 33, none, .fldA (.t 7) 1⟩,
 ⟨some 34, none, .load (.t 33) none⟩,
 ⟨some 35, none, .fldA (.t 7) 2⟩,
 ⟨some 36, none, .load (.t 35) none⟩,
 ⟨some 37, none, .mv (.t 8)⟩,
 ⟨some 38, none, .fldA (.t 7) 1⟩,
 ⟨some 39, none, .load (.t 38) none⟩,
 ⟨some 40, none, .lenS (.t 39)⟩,
 ⟨some 41, none, .fldA (.t 7) 2⟩,
 ⟨some 42, none, .load (.t 41) none⟩,
 ⟨some 43, none, .bin .sub (.t 40) (.t 42)⟩,
 ⟨some 44, none, .mm false [.t 37, .t 43]⟩,
 ⟨some 45, none, .bin .add (.t 36) (.t 44)⟩,
 ⟨some 46, none, .slcS (.t 34) none (some (.t 45))⟩,
 ⟨some 47, none, .fldA (.t 7) 1⟩,
 ⟨none, none, .store (.t 47) (.t 46) 1⟩]
def c42r9 : List AOper :=
 [⟨some 48, none, .fldA (.t 7) 1⟩,
 ⟨some 49, none, .load (.t 48) none⟩,
 ⟨some 50, none, .lenS (.t 49)⟩,
 ⟨some 51, none, .fldA (.t 7) 2⟩,
 ⟨none, none, .store (.t 51) (.t 50) 1⟩]
def c42r10 : List AOper :=
 [⟨some 52, none, .fldA (.t 5) 0⟩,
 ⟨some 53, none, .load (.t 52) none⟩,
 ⟨some 54, none, .load (.t 7) (some 3)⟩,
 ⟨some 55, none, .bslice 1 3 [.str [], .str [], .int .i64 0] [(0, .t 54)]⟩,
 ⟨some 56, none, .append (.t 53) (.t 55) 3 40 false⟩,
 ⟨some 57, none, .fldA (.t 5) 0⟩,
 ⟨none, none, .store (.t 57) (.t 56) 1⟩]
def c42r11 : List AOper :=
 [⟨some 15, none, .mv (.t 6)⟩,
 ⟨some 16, none, .bin .add (.t 15) (.c (.int .i64 1))⟩,
 ⟨some 6, none, .mv (.t 16)⟩]
def c42l0 : AC := (.seq (.seq (.region c42r3) (.cond (.t 14) .skip (.exit 0))) (.seq (.block 1 (.seq (.region c42r4) (.seq (.region c42r5) (.seq (.seq (.region c42r6) (.cond (.t 24) (.region c42r7) .skip)) (.seq (.region c42r8) (.seq (.region c42r9) (.region c42r10))))))) (.region c42r11)))
def c42r12 : List AOper :=
 [⟨some 58, none, .load (.t 5) (some 3)⟩,
 ⟨none, none, .store (.t 4) (.t 58) 3⟩]
def c42 : AC := (.seq (.region c42r0) (.seq (.region c42r1) (.seq (.seq (.region c42r2) (.block 0 (.loop c42l0))) (.seq (.region c42r12) .ret))))
def r42 : List ARes := [.cell 4 (some 3)]
theorem c42_ok : Tryz.f42.body.bind (cCode Tryz.prog Tryz.f42.ntmps) = some c42 := by kernel_rfl
theorem r42_ok : Tryz.f42.results.toList.mapM (cRes Tryz.prog Tryz.f42.ntmps) = some r42 := by kernel_rfl
def c43r0 : List AOper :=
 [⟨some 2, none, .box (.t 0)⟩,
 ⟨some 4, none, .alloc [.nils, .int .i64 0, .bool false]⟩,
 ⟨some 5, none, .alloc [.nils, .nils, .int .i64 0]⟩,
 ⟨some 6, none, .mv (.c (.int .i64 0))⟩]
def c43r1 : List AOper :=
 [⟨some 21, none, .mv (.t 1)⟩,
 ⟨some 22, none, .bin .lss (.t 21) (.c (.int .i64 0))⟩,
 ⟨some 23, none, .mv (.t 22)⟩,
 ⟨some 24, some (23, false), .mv (.t 1)⟩,
 ⟨some 25, some (23, false), .bin .gtr (.t 24) (.c (.int .i64 1048576))⟩,
 ⟨some 26, none, .pick (.t 23) (.c (.bool true)) (.t 25)⟩]
def c43r2 : List AOper :=
 [⟨some 27, none, .load (.t 2) (some 3)⟩,
 ⟨some 28, none, .build [.nils, .nils, .int .i64 0] []⟩,
 ⟨none, none, .store (.t 4) (.t 27) 3⟩,
 ⟨none, none, .store (.t 5) (.t 28) 3⟩,
 ⟨some 6, none, .mv (.c (.int .i64 1))⟩]
def c43r3 : List AOper :=
 [⟨some 29, none, .fldA (.t 2) 2⟩,
 ⟨some 30, none, .load (.t 29) none⟩]
def c43r4 : List AOper :=
 [⟨some 31, none, .load (.t 2) (some 3)⟩,
 ⟨some 32, none, .build [.nils, .nils, .int .i64 0] []⟩,
 ⟨none, none, .store (.t 4) (.t 31) 3⟩,
 ⟨none, none, .store (.t 5) (.t 32) 3⟩,
 ⟨some 6, none, .mv (.c (.int .i64 50))⟩]
def c43r5 : List AOper :=
 [⟨some 33, none, .mv (.t 1)⟩,
 ⟨some 34, none, .build [.nils, .nils, .int .i64 0] [(2, 1, .t 33)]⟩,
 ⟨some 7, none, .alloc [.nils, .nils, .int .i64 0]⟩,
 ⟨none, none, .store (.t 7) (.t 34) 3⟩]
def c43r6 : List AOper :=
 [⟨some 35, none, .load (.t 2) (some 3)⟩,
 ⟨some 36, none, .call (.c (.fn 49 [])) [.t 35]⟩,
 ⟨some 8, none, .mv (.t 36)⟩]
def c43r7 : List AOper :=
 [⟨some 9, none, .mv (.c (.int .i64 0))⟩]
def c43r8 : List AOper :=
 [⟨some 37, none, .mv (.t 9)⟩,
 ⟨some 38, none, .mv (.t 8)⟩,
 ⟨some 39, none, .lenL (.t 38)⟩,
 ⟨some 40, none, .bin .lss (.t 37) (.t 39)⟩]
def c43r9 : List AOper :=
 [⟨some 43, none, .mv (.t 8)⟩,
 ⟨some 44, none, .mv (.t 9)⟩,
 ⟨some 45, none, .idxA (.t 43) (.t 44) none 1⟩,
 ⟨some 46, none, .load (.t 45) none⟩,
 ⟨some 47, none, .call (.c (.fn 67 [])) [.t 46]⟩,
 ⟨some 10, none, .mv (.t 47)⟩]
def c43r10 : List AOper :=
 [⟨some 48, none, .mv (.t 10)⟩,
 ⟨some 49, none, .bin .lss (.t 48) (.c (.int .i64 0))⟩]
def c43r11 : List AOper :=
 [⟨some 50, none, .mv (.t 10)⟩,
 ⟨some 51, none, .mv (.t 1)⟩,
 ⟨some 52, none, .bin .lss (.t 50) (.t 51)⟩]
def c43d0 : List (AOper × List Nat) :=
 [(⟨some 54, none, .load (.t 2) (some 3)⟩, []),
 (⟨some 55, none, .mv (.t 8)⟩, []),
 (⟨some 56, none, .mv (.t 9)⟩, []),
 (⟨some 57, none, .idxA (.t 55) (.t 56) none 1⟩, [1, 2]),
 (⟨some 58, none, .load (.t 57) none⟩, [3]),
 (⟨some 59, none, .call (.c (.fn 68 [])) [.t 54, .t 58]⟩, [0, 4]),
 (⟨some 53, none, .mv (.t 59)⟩, [5]),
 (⟨some 60, none, .ext (.t 53) 0⟩, [6]),
 (⟨some 61, none, .ext (.t 53) 1⟩, [6]),
 (⟨some 11, none, .alloc [.nils, .int .i64 0, .bool false]⟩, []),
 (⟨none, none, .store (.t 11) (.t 60) 3⟩, [9, 7, 5, 0, 1, 2, 3, 4, 5, 6, 7, 9]),
 (⟨some 12, none, .mv (.t 61)⟩, [8, 10, 0, 1, 2, 3, 4, 5, 6, 7, 8, 9, 10])]
def c43r12 : List AOper :=
 [⟨some 62, none, .load (.t 11) (some 3)⟩,
 ⟨none, none, .store (.t 2) (.t 62) 3⟩]
def c43r13 : List AOper :=
 [⟨some 63, none, .mv (.t 12)⟩,
 ⟨some 64, none, .bin .neq (.t 63) (.c (.int .i64 0))⟩]
def c43r14 : List AOper :=
 [⟨some 65, none, .load (.t 2) (some 3)⟩,
 ⟨some 66, none, .build [.nils, .nils, .int .i64 0] []⟩,
 ⟨some 67, none, .mv (.t 12)⟩,
 ⟨none, none, .store (.t 4) (.t 65) 3⟩,
 ⟨none, none, .store (.t 5) (.t 66) 3⟩,
 ⟨some 6, none, .mv (.t 67)⟩]
def c43r15 : List AOper :=
 [⟨some 68, none, .mv (.t 10)⟩,
 ⟨some 69, none, .bin .add (.t 68) (.c (.int .i64 1))⟩,
 ⟨some 70, none, .fldA (.t 7) 2⟩,
 ⟨none, none, .store (.t 70) (.t 69) 1⟩]
def c43d1 : List (AOper × List Nat) :=
 [(⟨some 72, none, .load (.t 2) (some 3)⟩, []),
 (⟨some 73, none, .mv (.t 8)⟩, []),
 (⟨some 74, none, .mv (.t 9)⟩, []),
 (⟨some 75, none, .idxA (.t 73) (.t 74) none 1⟩, [1, 2]),
 (⟨some 76, none, .load (.t 75) none⟩, [3]),
 (⟨some 77, none, .call (.c (.fn 50 [])) [.t 72, .t 76]⟩, [0, 4]),
 (⟨some 71, none, .mv (.t 77)⟩, [5]),
 (⟨some 78, none, .ext (.t 71) 0⟩, [6]),
 (⟨some 79, none, .ext (.t 71) 1⟩, [6]),
 (⟨some 80, none, .ext (.t 71) 2⟩, [6]),
 (⟨some 13, none, .mv (.t 78)⟩, [7, 5, 0, 1, 2, 3, 4, 5, 6, 7]),
 (⟨some 14, none, .mv (.t 79)⟩, [8, 10, 0, 1, 2, 3, 4, 5, 6, 7, 8, 10]),
 (⟨some 15, none, .mv (.t 80)⟩, [9, 11, 0, 1, 2, 3, 4, 5, 6, 7, 8, 9, 10, 11])]
def c43r16 : List AOper :=
 [⟨some 82, none, .mv (.t 13)⟩,
 ⟨some 83, none, .call (.c (.fn 69 [])) [.t 82]⟩,
 ⟨some 81, none, .mv (.t 83)⟩,
 ⟨some 84, none, .ext (.t 81) 0⟩,
 ⟨some 85, none, .ext (.t 81) 1⟩,
 ⟨some 16, none, .mv (.t 84)⟩,
 ⟨some 17, none, .mv (.t 85)⟩]
def c43r17 : List AOper :=
 [⟨some 18, none, .mv (.c (.int .i64 0))⟩]
def c43r18 : List AOper :=
 [⟨some 86, none, .mv (.t 18)⟩,
 ⟨some 87, none, .mv (.t 16)⟩,
 ⟨some 88, none, .lenL (.t 87)⟩,
 ⟨some 89, none, .bin .lss (.t 86) (.t 88)⟩]
def c43d2 : List (AOper × List Nat) :=
 [(⟨some 92, none, .fldA (.t 7) 0⟩, []),
 (⟨some 93, none, .load (.t 92) none⟩, [0]),
 (⟨some 94, none, .mv (.t 16)⟩, []),
 (⟨some 95, none, .mv (.t 18)⟩, []),
 (⟨some 96, none, .idxA (.t 94) (.t 95) none 1⟩, [2, 3]),
 (⟨some 97, none, .load (.t 96) none⟩, [4]),
 (⟨some 98, none, .bslice 1 1 [.str []] [(0, .t 97)]⟩, [5]),
 (⟨some 99, none, .append (.t 93) (.t 98) 1 16 false⟩, [1, 6]),
 (⟨some 100, none, .fldA (.t 7) 0⟩, [0, 1, 2, 3, 4, 5, 6, 7]),
 (⟨none, none, .store (.t 100) (.t 99) 1⟩, [8, 7, 7, 0, 1, 2, 3, 4, 5, 6, 7])]
def c43r19 : List AOper :=
 [⟨some 101, none, .fldA (.t 7) 1⟩,
 ⟨some 102, none, .load (.t 101) none⟩,
 ⟨some 103, none, .mv (.t 10)⟩,
 ⟨some 104, none, .bslice 1 1 [.int .i64 0] [(0, .t 103)]⟩,
 ⟨some 105, none, .append (.t 102) (.t 104) 1 8 false⟩,
 ⟨some 106, none, .fldA (.t 7) 1⟩,
 ⟨none, none, .store (.t 106) (.t 105) 1⟩]
def c43r20 : List AOper :=
 [⟨some 90, none, .mv (.t 18)⟩,
 ⟨some 91, none, .bin .add (.t 90) (.c (.int .i64 1))⟩,
 ⟨some 18, none, .mv (.t 91)⟩]
def c43l1 : AC := (.seq (.seq (.region c43r18) (.cond (.t 89) .skip (.exit 2))) (.seq (.block 3 (.seq (.drawn c43d2) (.region c43r19))) (.region c43r20)))
def c43r21 : List AOper :=
 [⟨some 41, none, .mv (.t 9)⟩,
 ⟨some 42, none, .bin .add (.t 41) (.c (.int .i64 1))⟩,
 ⟨some 9, none, .mv (.t 42)⟩]
def c43l0 : AC := (.seq (.seq (.region c43r8) (.cond (.t 40) .skip (.exit 0))) (.seq (.block 1 (.seq (.region c43r9) (.seq (.seq (.region c43r10) (.cond (.t 49) (.exit 1) .skip)) (.seq (.seq (.region c43r11) (.cond (.t 52) (.seq (.drawn c43d0) (.seq (.region c43r12) (.seq (.seq (.region c43r13) (.cond (.t 64) (.seq (.region c43r14) .ret) .skip)) (.exit 1)))) .skip)) (.seq (.region c43r15) (.seq (.drawn c43d1) (.seq (.region c43r16) (.seq (.region c43r17) (.block 2 (.loop c43l1)))))))))) (.region c43r21)))
def c43r22 : List AOper :=
 [⟨some 107, none, .fldA (.t 7) 2⟩,
 ⟨some 108, none, .load (.t 107) none⟩,
 ⟨some 109, none, .bin .gtr (.t 108) (.c (.int .i64 99999998))⟩]
def c43r23 : List AOper :=
 [⟨some 110, none, .load (.t 2) (some 3)⟩,
 ⟨some 111, none, .build [.nils, .nils, .int .i64 0] []⟩,
 ⟨none, none, .store (.t 4) (.t 110) 3⟩,
 ⟨none, none, .store (.t 5) (.t 111) 3⟩,
 ⟨some 6, none, .mv (.c (.int .i64 2))⟩]
def c43d3 : List (AOper × List Nat) :=
 [(⟨some 113, none, .load (.t 2) (some 3)⟩, []),
 (⟨some 114, none, .fldA (.t 7) 2⟩, []),
 (⟨some 115, none, .load (.t 114) none⟩, [1]),
 (⟨some 116, none, .call (.c (.fn 71 [])) [.t 115]⟩, [2]),
 (⟨some 117, none, .call (.c (.fn 70 [])) [.t 113, .t 116]⟩, [0, 3, 3]),
 (⟨some 112, none, .mv (.t 117)⟩, [4]),
 (⟨some 118, none, .ext (.t 112) 0⟩, [5]),
 (⟨some 119, none, .ext (.t 112) 1⟩, [5]),
 (⟨some 19, none, .alloc [.nils, .int .i64 0, .bool false]⟩, []),
 (⟨none, none, .store (.t 19) (.t 118) 3⟩, [8, 6, 4, 0, 1, 2, 3, 4, 5, 6, 8]),
 (⟨some 20, none, .mv (.t 119)⟩, [7, 9, 0, 1, 2, 3, 4, 5, 6, 7, 8, 9])]
def c43r24 : List AOper :=
 [⟨some 120, none, .mv (.t 20)⟩,
 ⟨some 121, none, .bin .neq (.t 120) (.c (.int .i64 0))⟩]
def c43r25 : List AOper :=
 [⟨some 122, none, .load (.t 19) (some 3)⟩,
 ⟨some 123, none, .build [.nils, .nils, .int .i64 0] []⟩,
 ⟨some 124, none, .mv (.t 20)⟩,
 ⟨none, none, .store (.t 4) (.t 122) 3⟩,
 ⟨none, none, .store (.t 5) (.t 123) 3⟩,
 ⟨some 6, none, .mv (.t 124)⟩]
def c43d4 : List (AOper × List Nat) :=
 [(⟨some 125, none, .load (.t 19) (some 3)⟩, []),
 (⟨some 126, none, .load (.t 7) (some 3)⟩, []),
 (⟨none, none, .store (.t 4) (.t 125) 3⟩, [0, 0]),
 (⟨none, none, .store (.t 5) (.t 126) 3⟩, [1, 2, 0, 1, 2]),
 (⟨some 6, none, .mv (.c (.int .i64 0))⟩, [3, 0, 1, 2, 3])]
def c43 : AC := (.seq (.region c43r0) (.seq (.seq (.region c43r1) (.cond (.t 26) (.seq (.region c43r2) .ret) .skip)) (.seq (.seq (.region c43r3) (.cond (.t 30) (.seq (.region c43r4) .ret) .skip)) (.seq (.region c43r5) (.seq (.region c43r6) (.seq (.seq (.region c43r7) (.block 0 (.loop c43l0))) (.seq (.seq (.region c43r22) (.cond (.t 109) (.seq (.region c43r23) .ret) .skip)) (.seq (.drawn c43d3) (.seq (.seq (.region c43r24) (.cond (.t 121) (.seq (.region c43r25) .ret) .skip)) (.seq (.drawn c43d4) .ret))))))))))
def r43 : List ARes := [.cell 4 (some 3), .cell 5 (some 3), .tmp 6]
theorem c43_ok : Tryz.f43.body.bind (cCode Tryz.prog Tryz.f43.ntmps) = some c43 := by kernel_rfl
theorem r43_ok : Tryz.f43.results.toList.mapM (cRes Tryz.prog Tryz.f43.ntmps) = some r43 := by kernel_rfl
def c44r0 : List AOper :=
 [⟨some 3, none, .box (.t 0)⟩,
 ⟨some 4, none, .box (.t 1)⟩,
 ⟨some 6, none, .alloc [.nils, .int .i64 0, .bool false]⟩,
 ⟨some 7, none, .alloc [.nils, .nils, .int .i64 0]⟩,
 ⟨some 8, none, .mv (.c (.int .i64 0))⟩]
def c44r1 : List AOper :=
 [⟨some 14, none, .mv (.t 2)⟩,
 ⟨some 15, none, .lenS (.t 14)⟩,
 ⟨some 16, none, .bin .gtr (.t 15) (.c (.int .i64 131072))⟩]
def c44d0 : List (AOper × List Nat) :=
 [(⟨some 17, none, .load (.t 3) (some 3)⟩, []),
 (⟨some 18, none, .load (.t 4) (some 3)⟩, []),
 (⟨none, none, .store (.t 6) (.t 17) 3⟩, [0, 0]),
 (⟨none, none, .store (.t 7) (.t 18) 3⟩, [1, 2, 0, 1, 2]),
 (⟨some 8, none, .mv (.c (.int .i64 1))⟩, [3, 0, 1, 2, 3])]
def c44r2 : List AOper :=
 [⟨some 20, none, .mv (.t 2)⟩,
 ⟨some 21, none, .call (.c (.fn 72 [])) [.t 20]⟩,
 ⟨some 19, none, .mv (.t 21)⟩,
 ⟨some 22, none, .ext (.t 19) 0⟩,
 ⟨some 23, none, .ext (.t 19) 1⟩,
 ⟨some 9, none, .mv (.t 22)⟩,
 ⟨some 10, none, .mv (.t 23)⟩]
def c44d1 : List (AOper × List Nat) :=
 [(⟨some 25, none, .load (.t 3) (some 3)⟩, []),
 (⟨some 26, none, .fldA (.t 4) 2⟩, []),
 (⟨some 27, none, .load (.t 26) none⟩, [1]),
 (⟨some 28, none, .call (.c (.fn 71 [])) [.t 27]⟩, [2]),
 (⟨some 29, none, .mv (.t 9)⟩, []),
 (⟨some 30, none, .call (.c (.fn 73 [])) [.t 25, .t 28, .t 29]⟩, [0, 3, 4, 3]),
 (⟨some 24, none, .mv (.t 30)⟩, [5]),
 (⟨some 31, none, .ext (.t 24) 0⟩, [6]),
 (⟨some 32, none, .ext (.t 24) 1⟩, [6]),
 (⟨some 11, none, .alloc [.nils, .int .i64 0, .bool false]⟩, []),
 (⟨none, none, .store (.t 11) (.t 31) 3⟩, [9, 7, 5, 0, 1, 2, 3, 4, 5, 6, 7, 9]),
 (⟨some 12, none, .mv (.t 32)⟩, [8, 10, 0, 1, 2, 3, 4, 5, 6, 7, 8, 9, 10])]
def c44r3 : List AOper :=
 [⟨some 33, none, .mv (.t 12)⟩,
 ⟨some 34, none, .bin .neq (.t 33) (.c (.int .i64 0))⟩]
def c44d2 : List (AOper × List Nat) :=
 [(⟨some 35, none, .load (.t 11) (some 3)⟩, []),
 (⟨some 36, none, .load (.t 4) (some 3)⟩, []),
 (⟨some 37, none, .mv (.t 12)⟩, []),
 (⟨none, none, .store (.t 6) (.t 35) 3⟩, [0, 0]),
 (⟨none, none, .store (.t 7) (.t 36) 3⟩, [1, 3, 0, 1, 3]),
 (⟨some 8, none, .mv (.t 37)⟩, [2, 4, 0, 1, 2, 3, 4])]
def c44r4 : List AOper :=
 [⟨some 38, none, .fldA (.t 4) 2⟩,
 ⟨some 39, none, .load (.t 38) none⟩,
 ⟨some 40, none, .build [.nils, .nils, .int .i64 0] [(2, 1, .t 39)]⟩,
 ⟨some 13, none, .alloc [.nils, .nils, .int .i64 0]⟩,
 ⟨none, none, .store (.t 13) (.t 40) 3⟩]
def c44r5 : List AOper :=
 [⟨some 41, none, .fldA (.t 13) 0⟩,
 ⟨some 42, none, .load (.t 41) none⟩,
 ⟨some 43, none, .fldA (.t 4) 0⟩,
 ⟨some 44, none, .load (.t 43) none⟩,
 ⟨some 45, none, .append (.t 42) (.t 44) 1 16 false⟩,
 ⟨some 46, none, .fldA (.t 13) 0⟩,
 ⟨none, none, .store (.t 46) (.t 45) 1⟩]
def c44r6 : List AOper :=
 [⟨some 47, none, .fldA (.t 13) 0⟩,
 ⟨some 48, none, .load (.t 47) none⟩,
 ⟨some 49, none, .mv (.t 2)⟩,
 ⟨some 50, none, .bslice 1 1 [.str []] [(0, .t 49)]⟩,
 ⟨some 51, none, .append (.t 48) (.t 50) 1 16 false⟩,
 ⟨some 52, none, .fldA (.t 13) 0⟩,
 ⟨none, none, .store (.t 52) (.t 51) 1⟩]
def c44r7 : List AOper :=
 [⟨some 53, none, .fldA (.t 13) 1⟩,
 ⟨some 54, none, .load (.t 53) none⟩,
 ⟨some 55, none, .fldA (.t 4) 1⟩,
 ⟨some 56, none, .load (.t 55) none⟩,
 ⟨some 57, none, .append (.t 54) (.t 56) 1 8 false⟩,
 ⟨some 58, none, .fldA (.t 13) 1⟩,
 ⟨none, none, .store (.t 58) (.t 57) 1⟩]
def c44r8 : List AOper :=
 [⟨some 59, none, .fldA (.t 13) 1⟩,
 ⟨some 60, none, .load (.t 59) none⟩,
 ⟨some 61, none, .fldA (.t 4) 2⟩,
 ⟨some 62, none, .load (.t 61) none⟩,
 ⟨some 63, none, .bslice 1 1 [.int .i64 0] [(0, .t 62)]⟩,
 ⟨some 64, none, .append (.t 60) (.t 63) 1 8 false⟩,
 ⟨some 65, none, .fldA (.t 13) 1⟩,
 ⟨none, none, .store (.t 65) (.t 64) 1⟩]
def c44d3 : List (AOper × List Nat) :=
 [(⟨some 66, none, .load (.t 11) (some 3)⟩, []),
 (⟨some 67, none, .load (.t 13) (some 3)⟩, []),
 (⟨none, none, .store (.t 6) (.t 66) 3⟩, [0, 0]),
 (⟨none, none, .store (.t 7) (.t 67) 3⟩, [1, 2, 0, 1, 2]),
 (⟨some 8, none, .mv (.c (.int .i64 0))⟩, [3, 0, 1, 2, 3])]
def c44 : AC := (.seq (.region c44r0) (.seq (.seq (.region c44r1) (.cond (.t 16) (.seq (.drawn c44d0) .ret) .skip)) (.seq (.region c44r2) (.seq (.drawn c44d1) (.seq (.seq (.region c44r3) (.cond (.t 34) (.seq (.drawn c44d2) .ret) .skip)) (.seq (.region c44r4) (.seq (.region c44r5) (.seq (.region c44r6) (.seq (.region c44r7) (.seq (.region c44r8) (.seq (.drawn c44d3) .ret)))))))))))
def r44 : List ARes := [.cell 6 (some 3), .cell 7 (some 3), .tmp 8]
theorem c44_ok : Tryz.f44.body.bind (cCode Tryz.prog Tryz.f44.ntmps) = some c44 := by kernel_rfl
theorem r44_ok : Tryz.f44.results.toList.mapM (cRes Tryz.prog Tryz.f44.ntmps) = some r44 := by kernel_rfl
def c45r0 : List AOper :=
 [⟨some 2, none, .box (.t 0)⟩,
 ⟨some 3, none, .box (.t 1)⟩,
 ⟨some 4, none, .alloc [.nils, .int .i64 0, .bool false]⟩,
 ⟨some 5, none, .mv (.c (.int .i64 0))⟩]
def c45d0 : List (AOper × List Nat) :=
 [(⟨some 6, none, .load (.t 2) (some 3)⟩, []),
 (⟨some 7, none, .fldA (.t 3) 2⟩, []),
 (⟨some 8, none, .load (.t 7) none⟩, [1]),
 (⟨some 9, none, .call (.c (.fn 71 [])) [.t 8]⟩, [2]),
 (⟨some 10, none, .call (.c (.fn 74 [])) [.t 6, .t 9]⟩, [0, 3, 3]),
 (⟨some 11, none, .ext (.t 10) 0⟩, [4]),
 (⟨some 12, none, .ext (.t 10) 1⟩, [4]),
 (⟨none, none, .store (.t 4) (.t 11) 3⟩, [5, 4, 0, 1, 2, 3, 4, 5, 6]),
 (⟨some 5, none, .mv (.t 12)⟩, [6, 7, 0, 1, 2, 3, 4, 5, 6, 7])]
def c45 : AC := (.seq (.region c45r0) (.seq (.drawn c45d0) .ret))
def r45 : List ARes := [.cell 4 (some 3), .tmp 5]
theorem c45_ok : Tryz.f45.body.bind (cCode Tryz.prog Tryz.f45.ntmps) = some c45 := by kernel_rfl
theorem r45_ok : Tryz.f45.results.toList.mapM (cRes Tryz.prog Tryz.f45.ntmps) = some r45 := by kernel_rfl
def c46r0 : List AOper :=
 [⟨some 2, none, .box (.t 0)⟩,
 ⟨some 3, none, .box (.t 1)⟩,
 ⟨some 4, none, .alloc [.nils, .int .i64 0, .bool false]⟩,
 ⟨some 5, none, .alloc [.nils, .nils, .int .i64 0]⟩,
 ⟨some 6, none, .mv (.c (.int .i64 0))⟩]
def c46r1 : List AOper :=
 [⟨some 12, none, .load (.t 2) (some 3)⟩,
 ⟨some 13, none, .load (.t 3) (some 3)⟩,
 ⟨some 14, none, .call (.c (.fn 45 [])) [.t 12, .t 13]⟩,
 ⟨some 11, none, .mv (.t 14)⟩,
 ⟨some 15, none, .ext (.t 11) 0⟩,
 ⟨some 16, none, .ext (.t 11) 1⟩,
 ⟨some 7, none, .alloc [.nils, .int .i64 0, .bool false]⟩,
 ⟨none, none, .store (.t 7) (.t 15) 3⟩,
 ⟨some 8, none, .mv (.t 16)⟩]
def c46r2 : List AOper :=
 [⟨some 17, none, .mv (.t 8)⟩,
 ⟨some 18, none, .bin .neq (.t 17) (.c (.int .i64 0))⟩]
def c46d0 : List (AOper × List Nat) :=
 [(⟨some 19, none, .load (.t 7) (some 3)⟩, []),
 (⟨some 20, none, .load (.t 3) (some 3)⟩, []),
 (⟨some 21, none, .mv (.t 8)⟩, []),
 (⟨none, none, .store (.t 4) (.t 19) 3⟩, [0, 0]),
 (⟨none, none, .store (.t 5) (.t 20) 3⟩, [1, 3, 0, 1, 3]),
 (⟨some 6, none, .mv (.t 21)⟩, [2, 4, 0, 1, 2, 3, 4])]
def c46r3 : List AOper :=
 [⟨some 22, none, .fldA (.t 3) 2⟩,
 ⟨some 23, none, .load (.t 22) none⟩,
 ⟨some 24, none, .bin .geq (.t 23) (.c (.int .i64 99999998))⟩]
def c46d1 : List (AOper × List Nat) :=
 [(⟨some 25, none, .load (.t 7) (some 3)⟩, []),
 (⟨some 26, none, .load (.t 3) (some 3)⟩, []),
 (⟨none, none, .store (.t 4) (.t 25) 3⟩, [0, 0]),
 (⟨none, none, .store (.t 5) (.t 26) 3⟩, [1, 2, 0, 1, 2]),
 (⟨some 6, none, .mv (.c (.int .i64 2))⟩, [3, 0, 1, 2, 3])]
def c46d2 : List (AOper × List Nat) :=
 [(⟨some 28, none, .load (.t 7) (some 3)⟩, []),
 (⟨some 29, none, .fldA (.t 3) 2⟩, []),
 (⟨some 30, none, .load (.t 29) none⟩, [1]),
 (⟨some 31, none, .bin .add (.t 30) (.c (.int .i64 1))⟩, [2]),
 (⟨some 32, none, .call (.c (.fn 71 [])) [.t 31]⟩, [3]),
 (⟨some 33, none, .call (.c (.fn 70 [])) [.t 28, .t 32]⟩, [0, 4, 4]),
 (⟨some 27, none, .mv (.t 33)⟩, [5]),
 (⟨some 34, none, .ext (.t 27) 0⟩, [6]),
 (⟨some 35, none, .ext (.t 27) 1⟩, [6]),
 (⟨some 9, none, .alloc [.nils, .int .i64 0, .bool false]⟩, []),
 (⟨none, none, .store (.t 9) (.t 34) 3⟩, [9, 7, 5, 0, 1, 2, 3, 4, 5, 6, 7, 9]),
 (⟨some 10, none, .mv (.t 35)⟩, [8, 10, 0, 1, 2, 3, 4, 5, 6, 7, 8, 9, 10])]
def c46r4 : List AOper :=
 [⟨some 36, none, .mv (.t 10)⟩,
 ⟨some 37, none, .bin .neq (.t 36) (.c (.int .i64 0))⟩]
def c46d3 : List (AOper × List Nat) :=
 [(⟨some 38, none, .load (.t 9) (some 3)⟩, []),
 (⟨some 39, none, .load (.t 3) (some 3)⟩, []),
 (⟨some 40, none, .mv (.t 10)⟩, []),
 (⟨none, none, .store (.t 4) (.t 38) 3⟩, [0, 0]),
 (⟨none, none, .store (.t 5) (.t 39) 3⟩, [1, 3, 0, 1, 3]),
 (⟨some 6, none, .mv (.t 40)⟩, [2, 4, 0, 1, 2, 3, 4])]
def c46r5 : List AOper :=
 [⟨some 41, none, .fldA (.t 3) 2⟩,
 ⟨some 42, none, .load (.t 41) none⟩,
 ⟨some 43, none, .bin .add (.t 42) (.c (.int .i64 1))⟩,
 ⟨some 44, none, .fldA (.t 3) 2⟩,
 ⟨none, none, .store (.t 44) (.t 43) 1⟩]
def c46d4 : List (AOper × List Nat) :=
 [(⟨some 45, none, .load (.t 9) (some 3)⟩, []),
 (⟨some 46, none, .load (.t 3) (some 3)⟩, []),
 (⟨none, none, .store (.t 4) (.t 45) 3⟩, [0, 0]),
 (⟨none, none, .store (.t 5) (.t 46) 3⟩, [1, 2, 0, 1, 2]),
 (⟨some 6, none, .mv (.c (.int .i64 0))⟩, [3, 0, 1, 2, 3])]
def c46 : AC := (.seq (.region c46r0) (.seq (.region c46r1) (.seq (.seq (.region c46r2) (.cond (.t 18) (.seq (.drawn c46d0) .ret) .skip)) (.seq (.seq (.region c46r3) (.cond (.t 24) (.seq (.drawn c46d1) .ret) .skip)) (.seq (.drawn c46d2) (.seq (.seq (.region c46r4) (.cond (.t 37) (.seq (.drawn c46d3) .ret) .skip)) (.seq (.region c46r5) (.seq (.drawn c46d4) .ret))))))))
def r46 : List ARes := [.cell 4 (some 3), .cell 5 (some 3), .tmp 6]
theorem c46_ok : Tryz.f46.body.bind (cCode Tryz.prog Tryz.f46.ntmps) = some c46 := by kernel_rfl
theorem r46_ok : Tryz.f46.results.toList.mapM (cRes Tryz.prog Tryz.f46.ntmps) = some r46 := by kernel_rfl
def c47r0 : List AOper :=
 [⟨some 3, none, .box (.t 0)⟩,
 ⟨some 4, none, .box (.t 1)⟩,
 ⟨some 6, none, .alloc [.nils, .int .i64 0, .bool false]⟩,
 ⟨some 7, none, .alloc [.nils, .nils, .int .i64 0]⟩,
 ⟨some 8, none, .mv (.c (.int .i64 0))⟩]
def c47r1 : List AOper :=
 [⟨some 16, none, .mv (.t 2)⟩,
 ⟨some 17, none, .fldA (.t 4) 2⟩,
 ⟨some 18, none, .load (.t 17) none⟩,
 ⟨some 19, none, .bin .gtr (.t 16) (.t 18)⟩]
def c47d0 : List (AOper × List Nat) :=
 [(⟨some 20, none, .load (.t 3) (some 3)⟩, []),
 (⟨some 21, none, .load (.t 4) (some 3)⟩, []),
 (⟨none, none, .store (.t 6) (.t 20) 3⟩, [0, 0]),
 (⟨none, none, .store (.t 7) (.t 21) 3⟩, [1, 2, 0, 1, 2]),
 (⟨some 8, none, .mv (.c (.int .i64 1))⟩, [3, 0, 1, 2, 3])]
def c47r2 : List AOper :=
 [⟨some 22, none, .load (.t 3) (some 3)⟩,
 ⟨some 23, none, .call (.c (.fn 49 [])) [.t 22]⟩,
 ⟨some 9, none, .mv (.t 23)⟩]
def c47r3 : List AOper :=
 [⟨some 10, none, .mv (.c (.int .i64 0))⟩]
def c47r4 : List AOper :=
 [⟨some 24, none, .mv (.t 10)⟩,
 ⟨some 25, none, .mv (.t 9)⟩,
 ⟨some 26, none, .lenL (.t 25)⟩,
 ⟨some 27, none, .bin .lss (.t 24) (.t 26)⟩]
def c47r5 : List AOper :=
 [⟨some 30, none, .mv (.t 9)⟩,
 ⟨some 31, none, .mv (.t 10)⟩,
 ⟨some 32, none, .idxA (.t 30) (.t 31) none 1⟩,
 ⟨some 33, none, .load (.t 32) none⟩,
 ⟨some 34, none, .call (.c (.fn 67 [])) [.t 33]⟩,
 ⟨some 11, none, .mv (.t 34)⟩]
def c47r6 : List AOper :=
 [⟨some 35, none, .mv (.t 11)⟩,
 ⟨some 36, none, .bin .geq (.t 35) (.c (.int .i64 0))⟩,
 ⟨some 37, none, .mv (.t 36)⟩,
 ⟨some 38, some (37, true), .mv (.t 11)⟩,
 ⟨some 39, some (37, true), .mv (.t 2)⟩,
 ⟨some 40, some (37, true), .bin .lss (.t 38) (.t 39)⟩,
 ⟨some 41, none, .pick (.t 37) (.t 40) (.c (.bool false))⟩]
def c47d1 : List (AOper × List Nat) :=
 [(⟨some 43, none, .load (.t 3) (some 3)⟩, []),
 (⟨some 44, none, .mv (.t 9)⟩, []),
 (⟨some 45, none, .mv (.t 10)⟩, []),
 (⟨some 46, none, .idxA (.t 44) (.t 45) none 1⟩, [1, 2]),
 (⟨some 47, none, .load (.t 46) none⟩, [3]),
 (⟨some 48, none, .call (.c (.fn 68 [])) [.t 43, .t 47]⟩, [0, 4]),
 (⟨some 42, none, .mv (.t 48)⟩, [5]),
 (⟨some 49, none, .ext (.t 42) 0⟩, [6]),
 (⟨some 50, none, .ext (.t 42) 1⟩, [6]),
 (⟨some 12, none, .alloc [.nils, .int .i64 0, .bool false]⟩, []),
 (⟨none, none, .store (.t 12) (.t 49) 3⟩, [9, 7, 5, 0, 1, 2, 3, 4, 5, 6, 7, 9]),
 (⟨some 13, none, .mv (.t 50)⟩, [8, 10, 0, 1, 2, 3, 4, 5, 6, 7, 8, 9, 10])]
def c47r7 : List AOper :=
 [⟨some 51, none, .load (.t 12) (some 3)⟩,
 ⟨none, none, .store (.t 3) (.t 51) 3⟩]
def c47r8 : List AOper :=
 [⟨some 52, none, .mv (.t 13)⟩,
 ⟨some 53, none, .bin .neq (.t 52) (.c (.int .i64 0))⟩]
def c47d2 : List (AOper × List Nat) :=
 [(⟨some 54, none, .load (.t 3) (some 3)⟩, []),
 (⟨some 55, none, .load (.t 4) (some 3)⟩, []),
 (⟨some 56, none, .mv (.t 13)⟩, []),
 (⟨none, none, .store (.t 6) (.t 54) 3⟩, [0, 0]),
 (⟨none, none, .store (.t 7) (.t 55) 3⟩, [1, 3, 0, 1, 3]),
 (⟨some 8, none, .mv (.t 56)⟩, [2, 4, 0, 1, 2, 3, 4])]
def c47r9 : List AOper :=
 [⟨some 28, none, .mv (.t 10)⟩,
 ⟨some 29, none, .bin .add (.t 28) (.c (.int .i64 1))⟩,
 ⟨some 10, none, .mv (.t 29)⟩]
def c47l0 : AC := (.seq (.seq (.region c47r4) (.cond (.t 27) .skip (.exit 0))) (.seq (.block 1 (.seq (.region c47r5) (.seq (.region c47r6) (.cond (.t 41) (.seq (.drawn c47d1) (.seq (.region c47r7) (.seq (.region c47r8) (.cond (.t 53) (.seq (.drawn c47d2) .ret) .skip)))) .skip)))) (.region c47r9)))
def c47r10 : List AOper :=
 [⟨some 57, none, .fldA (.t 4) 2⟩,
 ⟨some 58, none, .load (.t 57) none⟩,
 ⟨some 59, none, .build [.nils, .nils, .int .i64 0] [(2, 1, .t 58)]⟩,
 ⟨some 14, none, .alloc [.nils, .nils, .int .i64 0]⟩,
 ⟨none, none, .store (.t 14) (.t 59) 3⟩]
def c47r11 : List AOper :=
 [⟨some 15, none, .mv (.c (.int .i64 0))⟩]
def c47r12 : List AOper :=
 [⟨some 60, none, .mv (.t 15)⟩,
 ⟨some 61, none, .fldA (.t 4) 0⟩,
 ⟨some 62, none, .load (.t 61) none⟩,
 ⟨some 63, none, .lenL (.t 62)⟩,
 ⟨some 64, none, .bin .lss (.t 60) (.t 63)⟩,
 ⟨some 65, none, .mv (.t 64)⟩,
 ⟨some 66, some (65, true), .mv (.t 15)⟩,
 ⟨some 67, some (65, true), .fldA (.t 4) 1⟩,
 ⟨some 68, some (65, true), .load (.t 67) none⟩,
 ⟨some 69, some (65, true), .lenL (.t 68)⟩,
 ⟨some 70, some (65, true), .bin .lss (.t 66) (.t 69)⟩,
 ⟨some 71, none, .pick (.t 65) (.t 70) (.c (.bool false))⟩]
def c47r13 : List AOper :=
 [⟨some 74, none, .fldA (.t 4) 1⟩,
 ⟨some 75, none, .load (.t 74) none⟩,
 ⟨some 76, none, .mv (.t 15)⟩,
 ⟨some 77, none, .idxA (.t 75) (.t 76) none 1⟩,
 ⟨some 78, none, .load (.t 77) none⟩,
 ⟨some 79, none, .mv (.t 2)⟩,
 ⟨some 80, none, .bin .geq (.t 78) (.t 79)⟩]
def c47d3 : List (AOper × List Nat) :=
 [(⟨some 81, none, .fldA (.t 14) 0⟩, []),
 (⟨some 82, none, .load (.t 81) none⟩, [0]),
 (⟨some 83, none, .fldA (.t 4) 0⟩, []),
 (⟨some 84, none, .load (.t 83) none⟩, [2]),
 (⟨some 85, none, .mv (.t 15)⟩, []),
 (⟨some 86, none, .idxA (.t 84) (.t 85) none 1⟩, [3, 4]),
 (⟨some 87, none, .load (.t 86) none⟩, [5]),
 (⟨some 88, none, .bslice 1 1 [.str []] [(0, .t 87)]⟩, [6]),
 (⟨some 89, none, .append (.t 82) (.t 88) 1 16 false⟩, [1, 7]),
 (⟨some 90, none, .fldA (.t 14) 0⟩, [0, 1, 2, 3, 4, 5, 6, 7, 8]),
 (⟨none, none, .store (.t 90) (.t 89) 1⟩, [9, 8, 8, 0, 1, 2, 3, 4, 5, 6, 7, 8])]
def c47d4 : List (AOper × List Nat) :=
 [(⟨some 91, none, .fldA (.t 14) 1⟩, []),
 (⟨some 92, none, .load (.t 91) none⟩, [0]),
 (⟨some 93, none, .fldA (.t 4) 1⟩, []),
 (⟨some 94, none, .load (.t 93) none⟩, [2]),
 (⟨some 95, none, .mv (.t 15)⟩, []),
 (⟨some 96, none, .idxA (.t 94) (.t 95) none 1⟩, [3, 4]),
 (⟨some 97, none, .load (.t 96) none⟩, [5]),
 (⟨some 98, none, .bslice 1 1 [.int .i64 0] [(0, .t 97)]⟩, [6]),
 (⟨some 99, none, .append (.t 92) (.t 98) 1 8 false⟩, [1, 7]),
 (⟨some 100, none, .fldA (.t 14) 1⟩, [0, 1, 2, 3, 4, 5, 6, 7, 8]),
 (⟨none, none, .store (.t 100) (.t 99) 1⟩, [9, 8, 8, 0, 1, 2, 3, 4, 5, 6, 7, 8])]
def c47r14 : List AOper :=
 [⟨some 72, none, .mv (.t 15)⟩,
 ⟨some 73, none, .bin .add (.t 72) (.c (.int .i64 1))⟩,
 ⟨some 15, none, .mv (.t 73)⟩]
def c47l1 : AC := (.seq (.seq (.region c47r12) (.cond (.t 71) .skip (.exit 2))) (.seq (.block 3 (.seq (.region c47r13) (.cond (.t 80) (.seq (.drawn c47d3) (.drawn c47d4)) .skip))) (.region c47r14)))
def c47d5 : List (AOper × List Nat) :=
 [(⟨some 101, none, .load (.t 3) (some 3)⟩, []),
 (⟨some 102, none, .load (.t 14) (some 3)⟩, []),
 (⟨none, none, .store (.t 6) (.t 101) 3⟩, [0, 0]),
 (⟨none, none, .store (.t 7) (.t 102) 3⟩, [1, 2, 0, 1, 2]),
 (⟨some 8, none, .mv (.c (.int .i64 0))⟩, [3, 0, 1, 2, 3])]
def c47 : AC := (.seq (.region c47r0) (.seq (.seq (.region c47r1) (.cond (.t 19) (.seq (.drawn c47d0) .ret) .skip)) (.seq (.region c47r2) (.seq (.seq (.region c47r3) (.block 0 (.loop c47l0))) (.seq (.region c47r10) (.seq (.seq (.region c47r11) (.block 2 (.loop c47l1))) (.seq (.drawn c47d5) .ret)))))))
def r47 : List ARes := [.cell 6 (some 3), .cell 7 (some 3), .tmp 8]
theorem c47_ok : Tryz.f47.body.bind (cCode Tryz.prog Tryz.f47.ntmps) = some c47 := by kernel_rfl
theorem r47_ok : Tryz.f47.results.toList.mapM (cRes Tryz.prog Tryz.f47.ntmps) = some r47 := by kernel_rfl
def c48r0 : List AOper :=
 [⟨some 2, none, .box (.t 0)⟩,
 ⟨some 4, none, .alloc [.nils, .int .i64 0, .bool false]⟩]
def c48r1 : List AOper :=
 [⟨some 5, none, .mv (.t 1)⟩,
 ⟨some 6, none, .mm true [.t 5, .c (.int .i64 (-1))]⟩,
 ⟨some 7, none, .fldA (.t 2) 1⟩,
 ⟨none, none, .store (.t 7) (.t 6) 1⟩]
def c48r2 : List AOper :=
 [⟨some 8, none, .load (.t 2) (some 3)⟩,
 ⟨none, none, .store (.t 4) (.t 8) 3⟩]
def c48 : AC := (.seq (.region c48r0) (.seq (.region c48r1) (.seq (.region c48r2) .ret)))
def r48 : List ARes := [.cell 4 (some 3)]
theorem c48_ok : Tryz.f48.body.bind (cCode Tryz.prog Tryz.f48.ntmps) = some c48 := by kernel_rfl
theorem r48_ok : Tryz.f48.results.toList.mapM (cRes Tryz.prog Tryz.f48.ntmps) = some r48 := by kernel_rfl
def c49r0 : List AOper :=
 [⟨some 1, none, .box (.t 0)⟩,
 ⟨some 2, none, .mv (.c .nils)⟩]
def c49r1 : List AOper :=
 [⟨some 3, none, .mv (.c .nils)⟩]
def c49r2 : List AOper :=
 [⟨some 4, none, .mv (.c (.int .i64 0))⟩]
def c49r3 : List AOper :=
 [⟨some 5, none, .mv (.t 4)⟩,
 ⟨some 6, none, .fldA (.t 1) 0⟩,
 ⟨some 7, none, .load (.t 6) none⟩,
 ⟨some 8, none, .lenL (.t 7)⟩,
 ⟨some 9, none, .bin .lss (.t 5) (.t 8)⟩]
def c49r4 : List AOper :=
 [⟨some 12, none, .mv (.t 3)⟩,
 ⟨some 13, none, .fldA (.t 1) 0⟩,
 ⟨some 14, none, .load (.t 13) none⟩,
 ⟨some 15, none, .mv (.t 4)⟩,
 ⟨some 16, none, .idxA (.t 14) (.t 15) none 3⟩,
 ⟨some 17, none, .fldA (.t 16) 0⟩,
 ⟨some 18, none, .load (.t 17) none⟩,
 ⟨some 19, none, .bslice 1 1 [.str []] [(0, .t 18)]⟩,
 ⟨some 20, none, .append (.t 12) (.t 19) 1 16 false⟩,
 ⟨some 3, none, .mv (.t 20)⟩]
def c49r5 : List AOper :=
 [⟨some 10, none, .mv (.t 4)⟩,
 ⟨some 11, none, .bin .add (.t 10) (.c (.int .i64 1))⟩,
 ⟨some 4, none, .mv (.t 11)⟩]
def c49l0 : AC := (.seq (.seq (.region c49r3) (.cond (.t 9) .skip (.exit 0))) (.seq (.block 1 (.region c49r4)) (.region c49r5)))
def c49r6 : List AOper :=
 [⟨some 21, none, .mv (.t 3)⟩,
 ⟨some 2, none, .mv (.t 21)⟩]
def c49 : AC := (.seq (.region c49r0) (.seq (.region c49r1) (.seq (.seq (.region c49r2) (.block 0 (.loop c49l0))) (.seq (.region c49r6) .ret))))
def r49 : List ARes := [.tmp 2]
theorem c49_ok : Tryz.f49.body.bind (cCode Tryz.prog Tryz.f49.ntmps) = some c49 := by kernel_rfl
theorem r49_ok : Tryz.f49.results.toList.mapM (cRes Tryz.prog Tryz.f49.ntmps) = some r49 := by kernel_rfl
def c50r0 : List AOper :=
 [⟨some 2, none, .box (.t 0)⟩,
 ⟨some 4, none, .mv (.c (.str []))⟩,
 ⟨some 5, none, .mv (.c (.int .i64 0))⟩,
 ⟨some 6, none, .mv (.c (.int .i64 0))⟩]
def c50r1 : List AOper :=
 [⟨some 8, none, .mv (.t 1)⟩,
 ⟨some 9, none, .call (.c (.fn 75 [])) [.t 8]⟩,
 ⟨some 10, none, .un .not (.t 9)⟩]
def c50r2 : List AOper :=
 [⟨some 4, none, .mv (.c (.str []))⟩,
 ⟨some 5, none, .mv (.c (.int .i64 0))⟩,
 ⟨some 6, none, .mv (.c (.int .i64 1))⟩]
def c50r3 : List AOper :=
 [⟨some 11, none, .fldA (.t 2) 2⟩,
 ⟨some 12, none, .load (.t 11) none⟩]
def c50r4 : List AOper :=
 [⟨some 4, none, .mv (.c (.str []))⟩,
 ⟨some 5, none, .mv (.c (.int .i64 0))⟩,
 ⟨some 6, none, .mv (.c (.int .i64 50))⟩]
def c50r5 : List AOper :=
 [⟨some 13, none, .load (.t 2) (some 3)⟩,
 ⟨some 14, none, .mv (.t 1)⟩,
 ⟨some 15, none, .call (.c (.fn 76 [])) [.t 13, .t 14]⟩,
 ⟨some 7, none, .mv (.t 15)⟩]
def c50r6 : List AOper :=
 [⟨some 16, none, .mv (.t 7)⟩,
 ⟨some 17, none, .bin .lss (.t 16) (.c (.int .i64 0))⟩]
def c50r7 : List AOper :=
 [⟨some 4, none, .mv (.c (.str []))⟩,
 ⟨some 5, none, .mv (.c (.int .i64 0))⟩,
 ⟨some 6, none, .mv (.c (.int .i64 3))⟩]
def c50d0 : List (AOper × List Nat) :=
 [(⟨some 18, none, .fldA (.t 2) 0⟩, []),
 (⟨some 19, none, .load (.t 18) none⟩, [0]),
 (⟨some 20, none, .mv (.t 7)⟩, []),
 (⟨some 21, none, .idxA (.t 19) (.t 20) none 3⟩, [1, 2]),
 (⟨some 22, none, .fldA (.t 21) 1⟩, [3]),
 (⟨some 23, none, .load (.t 22) none⟩, [4]),
 (⟨some 24, none, .fldA (.t 2) 0⟩, []),
 (⟨some 25, none, .load (.t 24) none⟩, [6]),
 (⟨some 26, none, .mv (.t 7)⟩, []),
 (⟨some 27, none, .idxA (.t 25) (.t 26) none 3⟩, [7, 8]),
 (⟨some 28, none, .fldA (.t 27) 2⟩, [9]),
 (⟨some 29, none, .load (.t 28) none⟩, [10]),
 (⟨some 4, none, .mv (.t 23)⟩, [5, 0, 1, 2, 3, 4, 5]),
 (⟨some 5, none, .mv (.t 29)⟩, [11, 12, 0, 1, 2, 3, 4, 5, 6, 7, 8, 9, 10, 11, 12]),
 (⟨some 6, none, .mv (.c (.int .i64 0))⟩, [13, 0, 1, 2, 3, 4, 5, 6, 7, 8, 9, 10, 11, 12, 13])]
def c50 : AC := (.seq (.region c50r0) (.seq (.seq (.region c50r1) (.cond (.t 10) (.seq (.region c50r2) .ret) .skip)) (.seq (.seq (.region c50r3) (.cond (.t 12) (.seq (.region c50r4) .ret) .skip)) (.seq (.region c50r5) (.seq (.seq (.region c50r6) (.cond (.t 17) (.seq (.region c50r7) .ret) .skip)) (.seq (.drawn c50d0) .ret))))))
def r50 : List ARes := [.tmp 4, .tmp 5, .tmp 6]
theorem c50_ok : Tryz.f50.body.bind (cCode Tryz.prog Tryz.f50.ntmps) = some c50 := by kernel_rfl
theorem r50_ok : Tryz.f50.results.toList.mapM (cRes Tryz.prog Tryz.f50.ntmps) = some r50 := by kernel_rfl
def c51r0 : List AOper :=
 [⟨some 4, none, .mv (.c (.int .i64 0))⟩,
 ⟨some 5, none, .mv (.c (.int .i64 0))⟩]
def c51r1 : List AOper :=
 [⟨some 9, none, .mv (.t 0)⟩,
 ⟨some 10, none, .mv (.t 1)⟩,
 ⟨some 11, none, .call (.c (.fn 56 [])) [.t 9, .t 10]⟩,
 ⟨some 8, none, .mv (.t 11)⟩,
 ⟨some 12, none, .ext (.t 8) 0⟩,
 ⟨some 13, none, .ext (.t 8) 1⟩,
 ⟨some 6, none, .mv (.t 12)⟩,
 ⟨some 7, none, .mv (.t 13)⟩]
def c51r2 : List AOper :=
 [⟨some 14, none, .mv (.t 7)⟩,
 ⟨some 15, none, .bin .neq (.t 14) (.c (.int .i64 0))⟩]
def c51r3 : List AOper :=
 [⟨some 16, none, .mv (.t 7)⟩,
 ⟨some 4, none, .mv (.c (.int .i64 0))⟩,
 ⟨some 5, none, .mv (.t 16)⟩]
def c51r4 : List AOper :=
 [⟨some 17, none, .mv (.t 6)⟩,
 ⟨some 18, none, .nilck (.t 17)⟩,
 ⟨some 19, none, .fldA (.t 18) 1⟩,
 ⟨some 20, none, .load (.t 19) none⟩,
 ⟨some 4, none, .mv (.t 20)⟩,
 ⟨some 5, none, .mv (.c (.int .i64 0))⟩]
def c51 : AC := (.seq (.region c51r0) (.seq (.region c51r1) (.seq (.seq (.region c51r2) (.cond (.t 15) (.seq (.region c51r3) .ret) .skip)) (.seq (.region c51r4) .ret))))
def r51 : List ARes := [.tmp 4, .tmp 5]
theorem c51_ok : Tryz.f51.body.bind (cCode Tryz.prog Tryz.f51.ntmps) = some c51 := by kernel_rfl
theorem r51_ok : Tryz.f51.results.toList.mapM (cRes Tryz.prog Tryz.f51.ntmps) = some r51 := by kernel_rfl
def c53r0 : List AOper :=
 [⟨some 6, none, .mv (.c .nilp)⟩,
 ⟨some 7, none, .mv (.c (.int .i64 0))⟩]
def c53r1 : List AOper :=
 [⟨some 11, none, .mv (.t 0)⟩,
 ⟨some 12, none, .mv (.t 2)⟩,
 ⟨some 13, none, .mv (.t 1)⟩,
 ⟨some 14, none, .bslice 1 1 [.str []] [(0, .t 13)]⟩,
 ⟨some 15, none, .append (.t 12) (.t 14) 1 16 false⟩,
 ⟨some 16, none, .call (.c (.fn 59 [])) [.t 11, .t 15]⟩,
 ⟨some 8, none, .mv (.t 16)⟩]
def c53r2 : List AOper :=
 [⟨some 17, none, .mv (.t 8)⟩,
 ⟨some 18, none, .bin .neq (.t 17) (.c (.int .i64 0))⟩]
def c53r3 : List AOper :=
 [⟨some 19, none, .mv (.t 8)⟩,
 ⟨some 6, none, .mv (.c .nilp)⟩,
 ⟨some 7, none, .mv (.t 19)⟩]
def c53r4 : List AOper :=
 [⟨some 21, none, .mv (.t 0)⟩,
 ⟨some 22, none, .nilck (.t 21)⟩,
 ⟨some 23, none, .fldA (.t 22) 0⟩,
 ⟨some 24, none, .load (.t 23) none⟩,
 ⟨some 25, none, .mv (.t 1)⟩,
 ⟨some 26, none, .mget 1 (.t 24) (.t 25) .nilp true⟩,
 ⟨some 20, none, .mv (.t 26)⟩,
 ⟨some 27, none, .ext (.t 20) 0⟩,
 ⟨some 28, none, .ext (.t 20) 1⟩,
 ⟨some 9, none, .mv (.t 27)⟩,
 ⟨some 10, none, .mv (.t 28)⟩]
def c53r5 : List AOper :=
 [⟨some 29, none, .mv (.t 10)⟩,
 ⟨some 30, none, .un .not (.t 29)⟩]
def c53r6 : List AOper :=
 [⟨some 6, none, .mv (.c .nilp)⟩,
 ⟨some 7, none, .mv (.c (.int .i64 3))⟩]
def c53r7 : List AOper :=
 [⟨some 31, none, .mv (.t 9)⟩,
 ⟨some 6, none, .mv (.t 31)⟩,
 ⟨some 7, none, .mv (.c (.int .i64 0))⟩]
def c53 : AC := (.seq (.region c53r0) (.seq (.seq (.region c53r1) (.seq (.region c53r2) (.cond (.t 18) (.seq (.region c53r3) .ret) .skip))) (.seq (.region c53r4) (.seq (.seq (.region c53r5) (.cond (.t 30) (.seq (.region c53r6) .ret) .skip)) (.seq (.region c53r7) .ret)))))
def r53 : List ARes := [.tmp 6, .tmp 7]
theorem c53_ok : Tryz.f53.body.bind (cCode Tryz.prog Tryz.f53.ntmps) = some c53 := by kernel_rfl
theorem r53_ok : Tryz.f53.results.toList.mapM (cRes Tryz.prog Tryz.f53.ntmps) = some r53 := by kernel_rfl
def c56r0 : List AOper :=
 [⟨some 4, none, .mv (.c .nilp)⟩,
 ⟨some 5, none, .mv (.c (.int .i64 0))⟩]
def c56r1 : List AOper :=
 [⟨some 8, none, .mv (.t 0)⟩,
 ⟨some 9, none, .mv (.t 1)⟩,
 ⟨some 10, none, .bslice 1 1 [.str []] [(0, .t 9)]⟩,
 ⟨some 11, none, .call (.c (.fn 38 [])) [.t 8, .t 10]⟩,
 ⟨some 12, none, .un .not (.t 11)⟩]
def c56r2 : List AOper :=
 [⟨some 4, none, .mv (.c .nilp)⟩,
 ⟨some 5, none, .mv (.c (.int .i64 1))⟩]
def c56r3 : List AOper :=
 [⟨some 14, none, .mv (.t 0)⟩,
 ⟨some 15, none, .nilck (.t 14)⟩,
 ⟨some 16, none, .fldA (.t 15) 0⟩,
 ⟨some 17, none, .load (.t 16) none⟩,
 ⟨some 18, none, .mv (.t 1)⟩,
 ⟨some 19, none, .mget 1 (.t 17) (.t 18) .nilp true⟩,
 ⟨some 13, none, .mv (.t 19)⟩,
 ⟨some 20, none, .ext (.t 13) 0⟩,
 ⟨some 21, none, .ext (.t 13) 1⟩,
 ⟨some 6, none, .mv (.t 20)⟩,
 ⟨some 7, none, .mv (.t 21)⟩]
def c56r4 : List AOper :=
 [⟨some 23, none, .mv (.t 0)⟩,
 ⟨some 24, none, .nilck (.t 23)⟩,
 ⟨some 25, none, .fldA (.t 24) 2⟩,
 ⟨some 26, none, .load (.t 25) none⟩,
 ⟨some 22, none, .mv (.t 26)⟩]
def c56r5 : List AOper :=
 [⟨some 4, none, .mv (.c .nilp)⟩,
 ⟨some 5, none, .mv (.c (.int .i64 50))⟩]
def c56r6 : List AOper :=
 [⟨some 28, none, .mv (.t 7)⟩,
 ⟨some 29, none, .un .not (.t 28)⟩,
 ⟨some 27, none, .mv (.t 29)⟩]
def c56r7 : List AOper :=
 [⟨some 4, none, .mv (.c .nilp)⟩,
 ⟨some 5, none, .mv (.c (.int .i64 3))⟩]
def c56r8 : List AOper :=
 [⟨some 30, none, .mv (.t 6)⟩,
 ⟨some 4, none, .mv (.t 30)⟩,
 ⟨some 5, none, .mv (.c (.int .i64 0))⟩]
def c56 : AC := (.seq (.region c56r0) (.seq (.seq (.region c56r1) (.cond (.t 12) (.seq (.region c56r2) .ret) .skip)) (.seq (.region c56r3) (.seq (.block 0 (.seq (.region c56r4) (.cond (.t 22) (.seq (.region c56r5) .ret) (.seq (.region c56r6) (.cond (.t 27) (.seq (.region c56r7) .ret) .skip))))) (.seq (.region c56r8) .ret)))))
def r56 : List ARes := [.tmp 4, .tmp 5]
theorem c56_ok : Tryz.f56.body.bind (cCode Tryz.prog Tryz.f56.ntmps) = some c56 := by kernel_rfl
theorem r56_ok : Tryz.f56.results.toList.mapM (cRes Tryz.prog Tryz.f56.ntmps) = some r56 := by kernel_rfl
def c57r0 : List AOper :=
 [⟨some 4, none, .mv (.c (.int .i64 0))⟩]
def c57r1 : List AOper :=
 [⟨some 5, none, .mv (.c (.int .i64 0))⟩]
def c57r2 : List AOper :=
 [⟨some 10, none, .mv (.t 0)⟩,
 ⟨some 11, none, .mv (.t 5)⟩,
 ⟨some 12, none, .slcS (.t 10) (some (.t 11)) none⟩,
 ⟨some 13, none, .call (.c (.fn 86 [])) [.t 12]⟩,
 ⟨some 9, none, .mv (.t 13)⟩,
 ⟨some 14, none, .ext (.t 9) 0⟩,
 ⟨some 15, none, .ext (.t 9) 1⟩,
 ⟨some 16, none, .ext (.t 9) 2⟩,
 ⟨some 6, none, .mv (.t 14)⟩,
 ⟨some 7, none, .mv (.t 15)⟩,
 ⟨some 8, none, .mv (.t 16)⟩]
def c57r3 : List AOper :=
 [⟨some 17, none, .mv (.t 8)⟩,
 ⟨some 18, none, .bin .neq (.t 17) (.c (.int .i64 0))⟩]
def c57r4 : List AOper :=
 [⟨some 19, none, .mv (.t 5)⟩,
 ⟨some 4, none, .mv (.t 19)⟩]
def c57r5 : List AOper :=
 [⟨some 20, none, .mv (.t 1)⟩,
 ⟨some 21, none, .mv (.t 6)⟩,
 ⟨some 22, none, .call (.t 20) [.t 21]⟩]
def c57r6 : List AOper :=
 [⟨some 23, none, .mv (.t 5)⟩,
 ⟨some 24, none, .mv (.t 7)⟩,
 ⟨some 25, none, .bin .add (.t 23) (.t 24)⟩,
 ⟨some 5, none, .mv (.t 25)⟩]
def c57l0 : AC := (.block 1 (.seq (.region c57r2) (.seq (.seq (.region c57r3) (.cond (.t 18) (.seq (.region c57r4) .ret) .skip)) (.seq (.region c57r5) (.region c57r6)))))
def c57 : AC := (.seq (.region c57r0) (.seq (.region c57r1) (.block 0 (.loop c57l0))))
def r57 : List ARes := [.tmp 4]
theorem c57_ok : Tryz.f57.body.bind (cCode Tryz.prog Tryz.f57.ntmps) = some c57 := by kernel_rfl
theorem r57_ok : Tryz.f57.results.toList.mapM (cRes Tryz.prog Tryz.f57.ntmps) = some r57 := by kernel_rfl
def c58r0 : List AOper :=
 [⟨some 3, none, .load (.t 1) none⟩,
 ⟨some 4, none, .mv (.t 0)⟩,
 ⟨some 5, none, .bslice 1 1 [.str []] [(0, .t 4)]⟩,
 ⟨some 6, none, .append (.t 3) (.t 5) 1 16 false⟩,
 ⟨none, none, .store (.t 1) (.t 6) 1⟩]
def c58 : AC := (.region c58r0)
def r58 : List ARes := []
theorem c58_ok : Tryz.f58.body.bind (cCode Tryz.prog Tryz.f58.ntmps) = some c58 := by kernel_rfl
theorem r58_ok : Tryz.f58.results.toList.mapM (cRes Tryz.prog Tryz.f58.ntmps) = some r58 := by kernel_rfl
def c59r0 : List AOper :=
 [⟨some 4, none, .mv (.c (.int .i64 0))⟩]
def c59r1 : List AOper :=
 [⟨some 5, none, .mv (.t 0)⟩,
 ⟨some 6, none, .mv (.t 1)⟩,
 ⟨some 7, none, .call (.c (.fn 38 [])) [.t 5, .t 6]⟩,
 ⟨some 8, none, .un .not (.t 7)⟩]
def c59r2 : List AOper :=
 [⟨some 4, none, .mv (.c (.int .i64 1))⟩]
def c59r3 : List AOper :=
 [⟨some 9, none, .mv (.t 0)⟩,
 ⟨some 10, none, .mv (.t 0)⟩,
 ⟨some 11, none, .nilck (.t 10)⟩,
 ⟨some 12, none, .fldA (.t 11) 2⟩,
 ⟨some 13, none, .load (.t 12) none⟩,
 ⟨some 14, none, .mv (.t 13)⟩,
 ⟨some 15, some (14, false), .mv (.t 0)⟩,
 ⟨some 16, some (14, false), .nilck (.t 15)⟩,
 ⟨some 17, some (14, false), .fldA (.t 16) 1⟩,
 ⟨some 18, some (14, false), .load (.t 17) none⟩,
 ⟨some 19, some (14, false), .bin .eql (.t 18) (.c (.int .i64 0))⟩,
 ⟨some 20, none, .pick (.t 14) (.c (.bool true)) (.t 19)⟩,
 ⟨some 21, none, .nilck (.t 9)⟩,
 ⟨some 22, none, .fldA (.t 21) 2⟩,
 ⟨none, none, .store (.t 22) (.t 20) 1⟩]
def c59r4 : List AOper :=
 [⟨some 23, none, .mv (.t 0)⟩,
 ⟨some 24, none, .nilck (.t 23)⟩,
 ⟨some 25, none, .fldA (.t 24) 2⟩,
 ⟨some 26, none, .load (.t 25) none⟩]
def c59r5 : List AOper :=
 [⟨some 4, none, .mv (.c (.int .i64 50))⟩]
def c59r6 : List AOper :=
 [⟨some 27, none, .mv (.t 0)⟩,
 ⟨some 28, none, .nilck (.t 27)⟩,
 ⟨some 29, none, .fldA (.t 28) 1⟩,
 ⟨some 30, none, .load (.t 29) none⟩,
 ⟨some 31, none, .bin .gtr (.t 30) (.c (.int .i64 0))⟩]
def c59r7 : List AOper :=
 [⟨some 32, none, .mv (.t 0)⟩,
 ⟨some 33, none, .nilck (.t 32)⟩,
 ⟨some 34, none, .fldA (.t 33) 1⟩,
 ⟨some 35, none, .load (.t 34) none⟩,
 ⟨some 36, none, .bin .sub (.t 35) (.c (.int .i64 1))⟩,
 ⟨some 37, none, .nilck (.t 32)⟩,
 ⟨some 38, none, .fldA (.t 37) 1⟩,
 ⟨none, none, .store (.t 38) (.t 36) 1⟩]
def c59r8 : List AOper :=
 [⟨some 4, none, .mv (.c (.int .i64 0))⟩]
def c59 : AC := (.seq (.region c59r0) (.seq (.seq (.region c59r1) (.cond (.t 8) (.seq (.region c59r2) .ret) .skip)) (.seq (.seq (.region c59r3) (.seq (.region c59r4) (.cond (.t 26) (.seq (.region c59r5) .ret) .skip))) (.seq (.seq (.region c59r6) (.cond (.t 31) (.region c59r7) .skip)) (.seq (.region c59r8) .ret)))))
def r59 : List ARes := [.tmp 4]
theorem c59_ok : Tryz.f59.body.bind (cCode Tryz.prog Tryz.f59.ntmps) = some c59 := by kernel_rfl
theorem r59_ok : Tryz.f59.results.toList.mapM (cRes Tryz.prog Tryz.f59.ntmps) = some r59 := by kernel_rfl
def c62r0 : List AOper :=
 [⟨some 2, none, .mv (.c (.str []))⟩,
 ⟨some 3, none, .mv (.c (.int .i64 0))⟩]
def c62r1 : List AOper :=
 [⟨some 6, none, .mv (.t 0)⟩,
 ⟨some 7, none, .lenS (.t 6)⟩,
 ⟨some 8, none, .bin .gtr (.t 7) (.c (.int .i64 262144))⟩]
def c62r2 : List AOper :=
 [⟨some 2, none, .mv (.c (.str []))⟩,
 ⟨some 3, none, .mv (.c (.int .i64 1))⟩]
def c62r3 : List AOper :=
 [⟨some 10, none, .mv (.t 0)⟩,
 ⟨some 11, none, .lenS (.t 10)⟩,
 ⟨some 12, none, .call (.c (.fn 90 [])) [.t 11]⟩,
 ⟨some 9, none, .mv (.t 12)⟩,
 ⟨some 13, none, .ext (.t 9) 0⟩,
 ⟨some 14, none, .ext (.t 9) 1⟩,
 ⟨some 4, none, .mv (.t 13)⟩,
 ⟨some 5, none, .mv (.t 14)⟩]
def c62r4 : List AOper :=
 [⟨some 15, none, .mv (.t 4)⟩,
 ⟨some 16, none, .mv (.t 0)⟩,
 ⟨some 17, none, .bin .add (.t 15) (.t 16)⟩,
 ⟨some 2, none, .mv (.t 17)⟩,
 ⟨some 3, none, .mv (.c (.int .i64 0))⟩]
def c62 : AC := (.seq (.region c62r0) (.seq (.seq (.region c62r1) (.cond (.t 8) (.seq (.region c62r2) .ret) .skip)) (.seq (.region c62r3) (.seq (.region c62r4) .ret))))
def r62 : List ARes := [.tmp 2, .tmp 3]
theorem c62_ok : Tryz.f62.body.bind (cCode Tryz.prog Tryz.f62.ntmps) = some c62 := by kernel_rfl
theorem r62_ok : Tryz.f62.results.toList.mapM (cRes Tryz.prog Tryz.f62.ntmps) = some r62 := by kernel_rfl
def c63r0 : List AOper :=
 [⟨some 2, none, .mv (.c (.str []))⟩]
def c63r1 : List AOper :=
 [⟨some 3, none, .mv (.t 0)⟩,
 ⟨some 4, none, .mv (.t 0)⟩,
 ⟨some 5, none, .call (.c (.fn 92 [])) [.t 4]⟩,
 ⟨some 6, none, .call (.c (.fn 91 [])) [.t 5]⟩,
 ⟨some 7, none, .bin .add (.t 3) (.t 6)⟩,
 ⟨some 2, none, .mv (.t 7)⟩]
def c63 : AC := (.seq (.region c63r0) (.seq (.region c63r1) .ret))
def r63 : List ARes := [.tmp 2]
theorem c63_ok : Tryz.f63.body.bind (cCode Tryz.prog Tryz.f63.ntmps) = some c63 := by kernel_rfl
theorem r63_ok : Tryz.f63.results.toList.mapM (cRes Tryz.prog Tryz.f63.ntmps) = some r63 := by kernel_rfl
def c64r0 : List AOper :=
 [⟨some 2, none, .mv (.c (.bool false))⟩]
def c64r1 : List AOper :=
 [⟨some 3, none, .mv (.t 0)⟩,
 ⟨some 4, none, .bin .lss (.t 3) (.c (.int .i32 97))⟩,
 ⟨some 5, none, .mv (.t 4)⟩,
 ⟨some 6, some (5, false), .mv (.t 0)⟩,
 ⟨some 7, some (5, false), .bin .gtr (.t 6) (.c (.int .i32 122))⟩,
 ⟨some 8, none, .pick (.t 5) (.c (.bool true)) (.t 7)⟩,
 ⟨some 9, none, .mv (.t 8)⟩,
 ⟨some 10, some (9, true), .mv (.t 0)⟩,
 ⟨some 11, some (9, true), .bin .lss (.t 10) (.c (.int .i32 48))⟩,
 ⟨some 12, some (9, true), .mv (.t 11)⟩,
 ⟨some 13, some (12, false), .mv (.t 0)⟩,
 ⟨some 14, some (12, false), .bin .gtr (.t 13) (.c (.int .i32 57))⟩,
 ⟨some 15, some (9, true), .pick (.t 12) (.c (.bool true)) (.t 14)⟩,
 ⟨some 16, none, .pick (.t 9) (.t 15) (.c (.bool false))⟩,
 ⟨some 17, none, .mv (.t 16)⟩,
 ⟨some 18, some (17, true), .mv (.t 0)⟩,
 ⟨some 19, some (17, true), .bin .neq (.t 18) (.c (.int .i32 46))⟩,
 ⟨some 20, none, .pick (.t 17) (.t 19) (.c (.bool false))⟩,
 ⟨some 21, none, .mv (.t 20)⟩,
 ⟨some 22, some (21, true), .mv (.t 0)⟩,
 ⟨some 23, some (21, true), .bin .neq (.t 22) (.c (.int .i32 45))⟩,
 ⟨some 24, none, .pick (.t 21) (.t 23) (.c (.bool false))⟩,
 ⟨some 2, none, .mv (.t 24)⟩]
def c64 : AC := (.seq (.region c64r0) (.seq (.region c64r1) .ret))
def r64 : List ARes := [.tmp 2]
theorem c64_ok : Tryz.f64.body.bind (cCode Tryz.prog Tryz.f64.ntmps) = some c64 := by kernel_rfl
theorem r64_ok : Tryz.f64.results.toList.mapM (cRes Tryz.prog Tryz.f64.ntmps) = some r64 := by kernel_rfl
def c66r0 : List AOper :=
 [⟨some 4, none, .mv (.c (.int .i64 0))⟩]
def c66r1 : List AOper :=
 [⟨some 6, none, .mv (.t 0)⟩,
 ⟨some 7, none, .lenL (.t 6)⟩,
 ⟨some 8, none, .mv (.c (.int .i64 0))⟩]
def c66r2 : List AOper :=
 [⟨some 9, none, .bin .lss (.t 8) (.t 7)⟩]
def c66r3 : List AOper :=
 [⟨some 10, none, .mv (.t 8)⟩,
 ⟨some 5, none, .mv (.t 10)⟩]
def c66r4 : List AOper :=
 [⟨some 11, none, .mv (.t 1)⟩,
 ⟨some 12, none, .mv (.t 0)⟩,
 ⟨some 13, none, .mv (.t 5)⟩,
 ⟨some 14, none, .idxA (.t 12) (.t 13) none 2⟩,
 ⟨some 15, none, .load (.t 14) (some 2)⟩,
 ⟨some 16, none, .call (.t 11) [.t 15]⟩]
def c66r5 : List AOper :=
 [⟨some 17, none, .mv (.t 5)⟩,
 ⟨some 4, none, .mv (.t 17)⟩]
def c66r6 : List AOper :=
 [⟨some 18, none, .bin .add (.t 8) (.c (.int .i64 1))⟩,
 ⟨some 8, none, .mv (.t 18)⟩]
def c66l0 : AC := (.seq (.region c66r2) (.seq (.cond (.t 9) .skip (.exit 0)) (.seq (.block 1 (.seq (.region c66r3) (.seq (.region c66r4) (.cond (.t 16) (.seq (.region c66r5) .ret) .skip)))) (.region c66r6))))
def c66r7 : List AOper :=
 [⟨some 4, none, .mv (.c (.int .i64 (-1)))⟩]
def c66 : AC := (.seq (.region c66r0) (.seq (.seq (.region c66r1) (.block 0 (.loop c66l0))) (.seq (.region c66r7) .ret)))
def r66 : List ARes := [.tmp 4]
theorem c66_ok : Tryz.f66.body.bind (cCode Tryz.prog Tryz.f66.ntmps) = some c66 := by kernel_rfl
theorem r66_ok : Tryz.f66.results.toList.mapM (cRes Tryz.prog Tryz.f66.ntmps) = some r66 := by kernel_rfl
def c67r0 : List AOper :=
 [⟨some 2, none, .mv (.c (.int .i64 0))⟩]
def c67r1 : List AOper :=
 [⟨some 5, none, .mv (.t 0)⟩,
 ⟨some 6, none, .lenS (.t 5)⟩,
 ⟨some 7, none, .bin .neq (.t 6) (.c (.int .i64 12))⟩,
 ⟨some 8, none, .mv (.t 7)⟩,
 ⟨some 9, some (8, false), .mv (.t 0)⟩,
 ⟨some 10, some (8, false), .slcS (.t 9) none (some (.c (.int .i64 4)))⟩,
 ⟨some 11, some (8, false), .bin .neq (.t 10) (.c (.str [108, 111, 103, 45]))⟩,
 ⟨some 12, none, .pick (.t 8) (.c (.bool true)) (.t 11)⟩]
def c67r2 : List AOper :=
 [⟨some 2, none, .mv (.c (.int .i64 (-1)))⟩]
def c67r3 : List AOper :=
 [⟨some 3, none, .mv (.c (.int .i64 0))⟩]
def c67r4 : List AOper :=
 [⟨some 4, none, .mv (.c (.int .i64 4))⟩]
def c67r5 : List AOper :=
 [⟨some 13, none, .mv (.t 4)⟩,
 ⟨some 14, none, .bin .lss (.t 13) (.c (.int .i64 12))⟩]
def c67r6 : List AOper :=
 [⟨some 17, none, .mv (.t 0)⟩,
 ⟨some 18, none, .mv (.t 4)⟩,
 ⟨some 19, none, .idxS (.t 17) (.t 18)⟩,
 ⟨some 20, none, .bin .lss (.t 19) (.c (.int .u8 48))⟩,
 ⟨some 21, none, .mv (.t 20)⟩,
 ⟨some 22, some (21, false), .mv (.t 0)⟩,
 ⟨some 23, some (21, false), .mv (.t 4)⟩,
 ⟨some 24, some (21, false), .idxS (.t 22) (.t 23)⟩,
 ⟨some 25, some (21, false), .bin .gtr (.t 24) (.c (.int .u8 57))⟩,
 ⟨some 26, none, .pick (.t 21) (.c (.bool true)) (.t 25)⟩]
def c67r7 : List AOper :=
 [⟨some 2, none, .mv (.c (.int .i64 (-1)))⟩]
def c67r8 : List AOper :=
 [⟨some 27, none, .mv (.t 3)⟩,
 ⟨some 28, none, .bin .mul (.c (.int .i64 10)) (.t 27)⟩,
 ⟨some 29, none, .mv (.t 0)⟩,
 ⟨some 30, none, .mv (.t 4)⟩,
 ⟨some 31, none, .idxS (.t 29) (.t 30)⟩,
 ⟨some 32, none, .bin .sub (.t 31) (.c (.int .u8 48))⟩,
 ⟨some 33, none, .convI .i64 (.t 32)⟩,
 ⟨some 34, none, .bin .add (.t 28) (.t 33)⟩,
 ⟨some 3, none, .mv (.t 34)⟩]
def c67r9 : List AOper :=
 [⟨some 15, none, .mv (.t 4)⟩,
 ⟨some 16, none, .bin .add (.t 15) (.c (.int .i64 1))⟩,
 ⟨some 4, none, .mv (.t 16)⟩]
def c67l0 : AC := (.seq (.seq (.region c67r5) (.cond (.t 14) .skip (.exit 0))) (.seq (.block 1 (.seq (.seq (.region c67r6) (.cond (.t 26) (.seq (.region c67r7) .ret) .skip)) (.region c67r8))) (.region c67r9)))
def c67r10 : List AOper :=
 [⟨some 35, none, .mv (.t 3)⟩,
 ⟨some 36, none, .bin .gtr (.t 35) (.c (.int .i64 99999998))⟩]
def c67r11 : List AOper :=
 [⟨some 2, none, .mv (.c (.int .i64 (-1)))⟩]
def c67r12 : List AOper :=
 [⟨some 37, none, .mv (.t 3)⟩,
 ⟨some 2, none, .mv (.t 37)⟩]
def c67 : AC := (.seq (.region c67r0) (.seq (.seq (.region c67r1) (.cond (.t 12) (.seq (.region c67r2) .ret) .skip)) (.seq (.region c67r3) (.seq (.seq (.region c67r4) (.block 0 (.loop c67l0))) (.seq (.seq (.region c67r10) (.cond (.t 36) (.seq (.region c67r11) .ret) .skip)) (.seq (.region c67r12) .ret))))))
def r67 : List ARes := [.tmp 2]
theorem c67_ok : Tryz.f67.body.bind (cCode Tryz.prog Tryz.f67.ntmps) = some c67 := by kernel_rfl
theorem r67_ok : Tryz.f67.results.toList.mapM (cRes Tryz.prog Tryz.f67.ntmps) = some r67 := by kernel_rfl
def c68r0 : List AOper :=
 [⟨some 2, none, .box (.t 0)⟩,
 ⟨some 4, none, .alloc [.nils, .int .i64 0, .bool false]⟩,
 ⟨some 5, none, .mv (.c (.int .i64 0))⟩]
def c68r1 : List AOper :=
 [⟨some 8, none, .mv (.t 1)⟩,
 ⟨some 9, none, .call (.c (.fn 75 [])) [.t 8]⟩,
 ⟨some 10, none, .un .not (.t 9)⟩]
def c68r2 : List AOper :=
 [⟨some 11, none, .load (.t 2) (some 3)⟩,
 ⟨none, none, .store (.t 4) (.t 11) 3⟩,
 ⟨some 5, none, .mv (.c (.int .i64 1))⟩]
def c68r3 : List AOper :=
 [⟨some 13, none, .load (.t 2) (some 3)⟩,
 ⟨some 14, none, .call (.c (.fn 94 [])) [.t 13]⟩,
 ⟨some 12, none, .mv (.t 14)⟩,
 ⟨some 15, none, .ext (.t 12) 0⟩,
 ⟨some 16, none, .ext (.t 12) 1⟩,
 ⟨none, none, .store (.t 2) (.t 15) 3⟩,
 ⟨some 6, none, .mv (.t 16)⟩]
def c68r4 : List AOper :=
 [⟨some 17, none, .mv (.t 6)⟩,
 ⟨some 18, none, .bin .neq (.t 17) (.c (.int .i64 0))⟩]
def c68r5 : List AOper :=
 [⟨some 19, none, .load (.t 2) (some 3)⟩,
 ⟨some 20, none, .mv (.t 6)⟩,
 ⟨none, none, .store (.t 4) (.t 19) 3⟩,
 ⟨some 5, none, .mv (.t 20)⟩]
def c68r6 : List AOper :=
 [⟨some 21, none, .load (.t 2) (some 3)⟩,
 ⟨some 22, none, .mv (.t 1)⟩,
 ⟨some 23, none, .call (.c (.fn 76 [])) [.t 21, .t 22]⟩,
 ⟨some 7, none, .mv (.t 23)⟩]
def c68r7 : List AOper :=
 [⟨some 24, none, .mv (.t 7)⟩,
 ⟨some 25, none, .bin .lss (.t 24) (.c (.int .i64 0))⟩]
def c68r8 : List AOper :=
 [⟨some 26, none, .load (.t 2) (some 3)⟩,
 ⟨none, none, .store (.t 4) (.t 26) 3⟩,
 ⟨some 5, none, .mv (.c (.int .i64 3))⟩]
def c68r9 : List AOper :=
 [⟨some 27, none, .load (.t 2) (some 3)⟩,
 ⟨some 28, none, .mv (.t 7)⟩,
 ⟨some 29, none, .call (.c (.fn 95 [])) [.t 27, .t 28]⟩,
 ⟨none, none, .store (.t 4) (.t 29) 3⟩,
 ⟨some 5, none, .mv (.c (.int .i64 0))⟩]
def c68 : AC := (.seq (.region c68r0) (.seq (.seq (.region c68r1) (.cond (.t 10) (.seq (.region c68r2) .ret) .skip)) (.seq (.region c68r3) (.seq (.seq (.region c68r4) (.cond (.t 18) (.seq (.region c68r5) .ret) .skip)) (.seq (.region c68r6) (.seq (.seq (.region c68r7) (.cond (.t 25) (.seq (.region c68r8) .ret) .skip)) (.seq (.region c68r9) .ret)))))))
def r68 : List ARes := [.cell 4 (some 3), .tmp 5]
theorem c68_ok : Tryz.f68.body.bind (cCode Tryz.prog Tryz.f68.ntmps) = some c68 := by kernel_rfl
theorem r68_ok : Tryz.f68.results.toList.mapM (cRes Tryz.prog Tryz.f68.ntmps) = some r68 := by kernel_rfl
def c69r0 : List AOper :=
 [⟨some 2, none, .mv (.c .nils)⟩,
 ⟨some 3, none, .mv (.c (.int .i64 0))⟩]
def c69r1 : List AOper :=
 [⟨some 4, none, .mv (.c .nils)⟩]
def c69r2 : List AOper :=
 [⟨some 5, none, .mv (.c (.int .i64 0))⟩]
def c69r3 : List AOper :=
 [⟨some 10, none, .mv (.t 0)⟩,
 ⟨some 11, none, .mv (.t 5)⟩,
 ⟨some 12, none, .slcS (.t 10) (some (.t 11)) none⟩,
 ⟨some 13, none, .call (.c (.fn 96 [])) [.t 12]⟩,
 ⟨some 9, none, .mv (.t 13)⟩,
 ⟨some 14, none, .ext (.t 9) 0⟩,
 ⟨some 15, none, .ext (.t 9) 1⟩,
 ⟨some 16, none, .ext (.t 9) 2⟩,
 ⟨some 6, none, .mv (.t 14)⟩,
 ⟨some 7, none, .mv (.t 15)⟩,
 ⟨some 8, none, .mv (.t 16)⟩]
def c69r4 : List AOper :=
 [⟨some 17, none, .mv (.t 8)⟩,
 ⟨some 18, none, .bin .neq (.t 17) (.c (.int .i64 0))⟩]
def c69r5 : List AOper :=
 [⟨some 19, none, .mv (.t 4)⟩,
 ⟨some 20, none, .mv (.t 5)⟩,
 ⟨some 2, none, .mv (.t 19)⟩,
 ⟨some 3, none, .mv (.t 20)⟩]
def c69r6 : List AOper :=
 [⟨some 21, none, .mv (.t 4)⟩,
 ⟨some 22, none, .mv (.t 6)⟩,
 ⟨some 23, none, .bslice 1 1 [.str []] [(0, .t 22)]⟩,
 ⟨some 24, none, .append (.t 21) (.t 23) 1 16 false⟩,
 ⟨some 4, none, .mv (.t 24)⟩]
def c69r7 : List AOper :=
 [⟨some 25, none, .mv (.t 5)⟩,
 ⟨some 26, none, .mv (.t 7)⟩,
 ⟨some 27, none, .bin .add (.t 25) (.t 26)⟩,
 ⟨some 5, none, .mv (.t 27)⟩]
def c69l0 : AC := (.block 1 (.seq (.region c69r3) (.seq (.seq (.region c69r4) (.cond (.t 18) (.seq (.region c69r5) .ret) .skip)) (.seq (.region c69r6) (.region c69r7)))))
def c69 : AC := (.seq (.region c69r0) (.seq (.region c69r1) (.seq (.region c69r2) (.block 0 (.loop c69l0)))))
def r69 : List ARes := [.tmp 2, .tmp 3]
theorem c69_ok : Tryz.f69.body.bind (cCode Tryz.prog Tryz.f69.ntmps) = some c69 := by kernel_rfl
theorem r69_ok : Tryz.f69.results.toList.mapM (cRes Tryz.prog Tryz.f69.ntmps) = some r69 := by kernel_rfl
def c70r0 : List AOper :=
 [⟨some 2, none, .box (.t 0)⟩,
 ⟨some 4, none, .alloc [.nils, .int .i64 0, .bool false]⟩,
 ⟨some 5, none, .mv (.c (.int .i64 0))⟩]
def c70r1 : List AOper :=
 [⟨some 7, none, .mv (.t 1)⟩,
 ⟨some 8, none, .call (.c (.fn 75 [])) [.t 7]⟩,
 ⟨some 9, none, .un .not (.t 8)⟩]
def c70r2 : List AOper :=
 [⟨some 10, none, .load (.t 2) (some 3)⟩,
 ⟨none, none, .store (.t 4) (.t 10) 3⟩,
 ⟨some 5, none, .mv (.c (.int .i64 1))⟩]
def c70r3 : List AOper :=
 [⟨some 12, none, .load (.t 2) (some 3)⟩,
 ⟨some 13, none, .call (.c (.fn 94 [])) [.t 12]⟩,
 ⟨some 11, none, .mv (.t 13)⟩,
 ⟨some 14, none, .ext (.t 11) 0⟩,
 ⟨some 15, none, .ext (.t 11) 1⟩,
 ⟨none, none, .store (.t 2) (.t 14) 3⟩,
 ⟨some 6, none, .mv (.t 15)⟩]
def c70r4 : List AOper :=
 [⟨some 16, none, .mv (.t 6)⟩,
 ⟨some 17, none, .bin .neq (.t 16) (.c (.int .i64 0))⟩]
def c70r5 : List AOper :=
 [⟨some 18, none, .load (.t 2) (some 3)⟩,
 ⟨some 19, none, .mv (.t 6)⟩,
 ⟨none, none, .store (.t 4) (.t 18) 3⟩,
 ⟨some 5, none, .mv (.t 19)⟩]
def c70r6 : List AOper :=
 [⟨some 20, none, .load (.t 2) (some 3)⟩,
 ⟨some 21, none, .mv (.t 1)⟩,
 ⟨some 22, none, .call (.c (.fn 76 [])) [.t 20, .t 21]⟩,
 ⟨some 23, none, .bin .geq (.t 22) (.c (.int .i64 0))⟩]
def c70r7 : List AOper :=
 [⟨some 24, none, .load (.t 2) (some 3)⟩,
 ⟨none, none, .store (.t 4) (.t 24) 3⟩,
 ⟨some 5, none, .mv (.c (.int .i64 1))⟩]
def c70r8 : List AOper :=
 [⟨some 25, none, .fldA (.t 2) 0⟩,
 ⟨some 26, none, .load (.t 25) none⟩,
 ⟨some 27, none, .lenL (.t 26)⟩,
 ⟨some 28, none, .bin .geq (.t 27) (.c (.int .i64 256))⟩]
def c70r9 : List AOper :=
 [⟨some 29, none, .load (.t 2) (some 3)⟩,
 ⟨none, none, .store (.t 4) (.t 29) 3⟩,
 ⟨some 5, none, .mv (.c (.int .i64 2))⟩]
def c70r10 : List AOper :=
 [⟨some 30, none, .load (.t 2) (some 3)⟩,
 ⟨some 31, none, .mv (.t 1)⟩,
 ⟨some 32, none, .build [.str [], .str [], .int .i64 0] [(0, 1, .t 31)]⟩,
 ⟨some 33, none, .call (.c (.fn 97 [])) [.t 30, .t 32]⟩,
 ⟨none, none, .store (.t 4) (.t 33) 3⟩,
 ⟨some 5, none, .mv (.c (.int .i64 0))⟩]
def c70 : AC := (.seq (.region c70r0) (.seq (.seq (.region c70r1) (.cond (.t 9) (.seq (.region c70r2) .ret) .skip)) (.seq (.region c70r3) (.seq (.seq (.region c70r4) (.cond (.t 17) (.seq (.region c70r5) .ret) .skip)) (.seq (.seq (.region c70r6) (.cond (.t 23) (.seq (.region c70r7) .ret) .skip)) (.seq (.seq (.region c70r8) (.cond (.t 28) (.seq (.region c70r9) .ret) .skip)) (.seq (.region c70r10) .ret)))))))
def r70 : List ARes := [.cell 4 (some 3), .tmp 5]
theorem c70_ok : Tryz.f70.body.bind (cCode Tryz.prog Tryz.f70.ntmps) = some c70 := by kernel_rfl
theorem r70_ok : Tryz.f70.results.toList.mapM (cRes Tryz.prog Tryz.f70.ntmps) = some r70 := by kernel_rfl
def c71r0 : List AOper :=
 [⟨some 2, none, .mv (.c (.str []))⟩]
def c71r1 : List AOper :=
 [⟨some 3, none, .mv (.c (.str []))⟩]
def c71r2 : List AOper :=
 [⟨some 4, none, .mv (.c (.int .i64 0))⟩]
def c71r3 : List AOper :=
 [⟨some 5, none, .mv (.t 4)⟩,
 ⟨some 6, none, .bin .lss (.t 5) (.c (.int .i64 8))⟩]
def c71r4 : List AOper :=
 [⟨some 9, none, .mv (.t 0)⟩,
 ⟨some 10, none, .bin .rem (.t 9) (.c (.int .i64 10))⟩,
 ⟨some 11, none, .bin .add (.c (.int .i64 48)) (.t 10)⟩,
 ⟨some 12, none, .convI .u8 (.t 11)⟩,
 ⟨some 13, none, .bslice 1 1 [.int .u8 0] [(0, .t 12)]⟩,
 ⟨some 14, none, .b2s (.t 13)⟩,
 ⟨some 15, none, .mv (.t 3)⟩,
 ⟨some 16, none, .bin .add (.t 14) (.t 15)⟩,
 ⟨some 3, none, .mv (.t 16)⟩]
def c71r5 : List AOper :=
 [⟨some 17, none, .mv (.t 0)⟩,
 ⟨some 18, none, .bin .quo (.t 17) (.c (.int .i64 10))⟩,
 ⟨some 0, none, .mv (.t 18)⟩]
def c71r6 : List AOper :=
 [⟨some 7, none, .mv (.t 4)⟩,
 ⟨some 8, none, .bin .add (.t 7) (.c (.int .i64 1))⟩,
 ⟨some 4, none, .mv (.t 8)⟩]
def c71l0 : AC := (.seq (.seq (.region c71r3) (.cond (.t 6) .skip (.exit 0))) (.seq (.block 1 (.seq (.region c71r4) (.region c71r5))) (.region c71r6)))
def c71r7 : List AOper :=
 [⟨some 19, none, .mv (.t 3)⟩,
 ⟨some 20, none, .bin .add (.c (.str [108, 111, 103, 45])) (.t 19)⟩,
 ⟨some 2, none, .mv (.t 20)⟩]
def c71 : AC := (.seq (.region c71r0) (.seq (.region c71r1) (.seq (.seq (.region c71r2) (.block 0 (.loop c71l0))) (.seq (.region c71r7) .ret))))
def r71 : List ARes := [.tmp 2]
theorem c71_ok : Tryz.f71.body.bind (cCode Tryz.prog Tryz.f71.ntmps) = some c71 := by kernel_rfl
theorem r71_ok : Tryz.f71.results.toList.mapM (cRes Tryz.prog Tryz.f71.ntmps) = some r71 := by kernel_rfl
def c72r0 : List AOper :=
 [⟨some 2, none, .mv (.c (.str []))⟩,
 ⟨some 3, none, .mv (.c (.int .i64 0))⟩]
def c72r1 : List AOper :=
 [⟨some 7, none, .mv (.t 0)⟩,
 ⟨some 8, none, .call (.c (.fn 98 [])) [.t 7]⟩,
 ⟨some 6, none, .mv (.t 8)⟩,
 ⟨some 9, none, .ext (.t 6) 0⟩,
 ⟨some 10, none, .ext (.t 6) 1⟩,
 ⟨some 4, none, .mv (.t 9)⟩,
 ⟨some 5, none, .mv (.t 10)⟩]
def c72r2 : List AOper :=
 [⟨some 11, none, .mv (.t 5)⟩,
 ⟨some 12, none, .bin .neq (.t 11) (.c (.int .i64 0))⟩]
def c72r3 : List AOper :=
 [⟨some 13, none, .mv (.t 5)⟩,
 ⟨some 2, none, .mv (.c (.str []))⟩,
 ⟨some 3, none, .mv (.t 13)⟩]
def c72r4 : List AOper :=
 [⟨some 14, none, .mv (.t 4)⟩,
 ⟨some 15, none, .call (.c (.fn 99 [])) [.t 14]⟩,
 ⟨some 2, none, .mv (.t 15)⟩,
 ⟨some 3, none, .mv (.c (.int .i64 0))⟩]
def c72 : AC := (.seq (.region c72r0) (.seq (.region c72r1) (.seq (.seq (.region c72r2) (.cond (.t 12) (.seq (.region c72r3) .ret) .skip)) (.seq (.region c72r4) .ret))))
def r72 : List ARes := [.tmp 2, .tmp 3]
theorem c72_ok : Tryz.f72.body.bind (cCode Tryz.prog Tryz.f72.ntmps) = some c72 := by kernel_rfl
theorem r72_ok : Tryz.f72.results.toList.mapM (cRes Tryz.prog Tryz.f72.ntmps) = some r72 := by kernel_rfl
def c73r0 : List AOper :=
 [⟨some 3, none, .box (.t 0)⟩,
 ⟨some 6, none, .alloc [.nils, .int .i64 0, .bool false]⟩,
 ⟨some 7, none, .mv (.c (.int .i64 0))⟩]
def c73r1 : List AOper :=
 [⟨some 11, none, .mv (.t 1)⟩,
 ⟨some 12, none, .call (.c (.fn 75 [])) [.t 11]⟩,
 ⟨some 13, none, .un .not (.t 12)⟩]
def c73r2 : List AOper :=
 [⟨some 14, none, .load (.t 3) (some 3)⟩,
 ⟨none, none, .store (.t 6) (.t 14) 3⟩,
 ⟨some 7, none, .mv (.c (.int .i64 1))⟩]
def c73r3 : List AOper :=
 [⟨some 16, none, .load (.t 3) (some 3)⟩,
 ⟨some 17, none, .call (.c (.fn 94 [])) [.t 16]⟩,
 ⟨some 15, none, .mv (.t 17)⟩,
 ⟨some 18, none, .ext (.t 15) 0⟩,
 ⟨some 19, none, .ext (.t 15) 1⟩,
 ⟨none, none, .store (.t 3) (.t 18) 3⟩,
 ⟨some 8, none, .mv (.t 19)⟩]
def c73r4 : List AOper :=
 [⟨some 20, none, .mv (.t 8)⟩,
 ⟨some 21, none, .bin .neq (.t 20) (.c (.int .i64 0))⟩]
def c73r5 : List AOper :=
 [⟨some 22, none, .load (.t 3) (some 3)⟩,
 ⟨some 23, none, .mv (.t 8)⟩,
 ⟨none, none, .store (.t 6) (.t 22) 3⟩,
 ⟨some 7, none, .mv (.t 23)⟩]
def c73r6 : List AOper :=
 [⟨some 24, none, .load (.t 3) (some 3)⟩,
 ⟨some 25, none, .mv (.t 1)⟩,
 ⟨some 26, none, .call (.c (.fn 76 [])) [.t 24, .t 25]⟩,
 ⟨some 9, none, .mv (.t 26)⟩]
def c73r7 : List AOper :=
 [⟨some 27, none, .mv (.t 9)⟩,
 ⟨some 28, none, .bin .lss (.t 27) (.c (.int .i64 0))⟩]
def c73r8 : List AOper :=
 [⟨some 29, none, .load (.t 3) (some 3)⟩,
 ⟨none, none, .store (.t 6) (.t 29) 3⟩,
 ⟨some 7, none, .mv (.c (.int .i64 3))⟩]
def c73r9 : List AOper :=
 [⟨some 30, none, .fldA (.t 3) 0⟩,
 ⟨some 31, none, .load (.t 30) none⟩,
 ⟨some 32, none, .mv (.t 9)⟩,
 ⟨some 33, none, .idxA (.t 31) (.t 32) none 3⟩,
 ⟨some 34, none, .load (.t 33) (some 3)⟩,
 ⟨some 10, none, .alloc [.str [], .str [], .int .i64 0]⟩,
 ⟨none, none, .store (.t 10) (.t 34) 3⟩]
def c73r10 : List AOper :=
 [⟨some 35, none, .mv (.t 2)⟩,
 ⟨some 36, none, .lenS (.t 35)⟩,
 ⟨some 37, none, .fldA (.t 10) 1⟩,
 ⟨some 38, none, .load (.t 37) none⟩,
 ⟨some 39, none, .lenS (.t 38)⟩,
 ⟨some 40, none, .bin .sub (.c (.int .i64 4194304)) (.t 39)⟩,
 ⟨some 41, none, .bin .gtr (.t 36) (.t 40)⟩]
def c73r11 : List AOper :=
 [⟨some 42, none, .load (.t 3) (some 3)⟩,
 ⟨none, none, .store (.t 6) (.t 42) 3⟩,
 ⟨some 7, none, .mv (.c (.int .i64 2))⟩]
def c73r12 : List AOper :=
 [⟨some 43, none, .fldA (.t 10) 1⟩,
 ⟨some 44, none, .load (.t 43) none⟩,
 ⟨some 45, none, .mv (.t 2)⟩,
 ⟨some 46, none, .bin .add (.t 44) (.t 45)⟩,
 ⟨some 47, none, .fldA (.t 10) 1⟩,
 ⟨none, none, .store (.t 47) (.t 46) 1⟩]
def c73r13 : List AOper :=
 [⟨some 48, none, .load (.t 3) (some 3)⟩,
 ⟨some 49, none, .load (.t 10) (some 3)⟩,
 ⟨some 50, none, .call (.c (.fn 97 [])) [.t 48, .t 49]⟩,
 ⟨none, none, .store (.t 6) (.t 50) 3⟩,
 ⟨some 7, none, .mv (.c (.int .i64 0))⟩]
def c73 : AC := (.seq (.region c73r0) (.seq (.seq (.region c73r1) (.cond (.t 13) (.seq (.region c73r2) .ret) .skip)) (.seq (.region c73r3) (.seq (.seq (.region c73r4) (.cond (.t 21) (.seq (.region c73r5) .ret) .skip)) (.seq (.region c73r6) (.seq (.seq (.region c73r7) (.cond (.t 28) (.seq (.region c73r8) .ret) .skip)) (.seq (.region c73r9) (.seq (.seq (.region c73r10) (.cond (.t 41) (.seq (.region c73r11) .ret) .skip)) (.seq (.region c73r12) (.seq (.region c73r13) .ret))))))))))
def r73 : List ARes := [.cell 6 (some 3), .tmp 7]
theorem c73_ok : Tryz.f73.body.bind (cCode Tryz.prog Tryz.f73.ntmps) = some c73 := by kernel_rfl
theorem r73_ok : Tryz.f73.results.toList.mapM (cRes Tryz.prog Tryz.f73.ntmps) = some r73 := by kernel_rfl
def c74r0 : List AOper :=
 [⟨some 2, none, .box (.t 0)⟩,
 ⟨some 4, none, .alloc [.nils, .int .i64 0, .bool false]⟩,
 ⟨some 5, none, .mv (.c (.int .i64 0))⟩]
def c74r1 : List AOper :=
 [⟨some 9, none, .mv (.t 1)⟩,
 ⟨some 10, none, .call (.c (.fn 75 [])) [.t 9]⟩,
 ⟨some 11, none, .un .not (.t 10)⟩]
def c74r2 : List AOper :=
 [⟨some 12, none, .load (.t 2) (some 3)⟩,
 ⟨none, none, .store (.t 4) (.t 12) 3⟩,
 ⟨some 5, none, .mv (.c (.int .i64 1))⟩]
def c74r3 : List AOper :=
 [⟨some 14, none, .load (.t 2) (some 3)⟩,
 ⟨some 15, none, .call (.c (.fn 94 [])) [.t 14]⟩,
 ⟨some 13, none, .mv (.t 15)⟩,
 ⟨some 16, none, .ext (.t 13) 0⟩,
 ⟨some 17, none, .ext (.t 13) 1⟩,
 ⟨none, none, .store (.t 2) (.t 16) 3⟩,
 ⟨some 6, none, .mv (.t 17)⟩]
def c74r4 : List AOper :=
 [⟨some 18, none, .mv (.t 6)⟩,
 ⟨some 19, none, .bin .neq (.t 18) (.c (.int .i64 0))⟩]
def c74r5 : List AOper :=
 [⟨some 20, none, .load (.t 2) (some 3)⟩,
 ⟨some 21, none, .mv (.t 6)⟩,
 ⟨none, none, .store (.t 4) (.t 20) 3⟩,
 ⟨some 5, none, .mv (.t 21)⟩]
def c74r6 : List AOper :=
 [⟨some 22, none, .load (.t 2) (some 3)⟩,
 ⟨some 23, none, .mv (.t 1)⟩,
 ⟨some 24, none, .call (.c (.fn 76 [])) [.t 22, .t 23]⟩,
 ⟨some 7, none, .mv (.t 24)⟩]
def c74r7 : List AOper :=
 [⟨some 25, none, .mv (.t 7)⟩,
 ⟨some 26, none, .bin .lss (.t 25) (.c (.int .i64 0))⟩]
def c74r8 : List AOper :=
 [⟨some 27, none, .load (.t 2) (some 3)⟩,
 ⟨none, none, .store (.t 4) (.t 27) 3⟩,
 ⟨some 5, none, .mv (.c (.int .i64 3))⟩]
def c74r9 : List AOper :=
 [⟨some 28, none, .fldA (.t 2) 0⟩,
 ⟨some 29, none, .load (.t 28) none⟩,
 ⟨some 30, none, .mv (.t 7)⟩,
 ⟨some 31, none, .idxA (.t 29) (.t 30) none 3⟩,
 ⟨some 32, none, .load (.t 31) (some 3)⟩,
 ⟨some 8, none, .alloc [.str [], .str [], .int .i64 0]⟩,
 ⟨none, none, .store (.t 8) (.t 32) 3⟩]
def c74r10 : List AOper :=
 [⟨some 33, none, .fldA (.t 8) 1⟩,
 ⟨some 34, none, .load (.t 33) none⟩,
 ⟨some 35, none, .lenS (.t 34)⟩,
 ⟨some 36, none, .fldA (.t 8) 2⟩,
 ⟨none, none, .store (.t 36) (.t 35) 1⟩]
def c74r11 : List AOper :=
 [⟨some 37, none, .load (.t 2) (some 3)⟩,
 ⟨some 38, none, .load (.t 8) (some 3)⟩,
 ⟨some 39, none, .call (.c (.fn 97 [])) [.t 37, .t 38]⟩,
 ⟨none, none, .store (.t 4) (.t 39) 3⟩,
 ⟨some 5, none, .mv (.c (.int .i64 0))⟩]
def c74 : AC := (.seq (.region c74r0) (.seq (.seq (.region c74r1) (.cond (.t 11) (.seq (.region c74r2) .ret) .skip)) (.seq (.region c74r3) (.seq (.seq (.region c74r4) (.cond (.t 19) (.seq (.region c74r5) .ret) .skip)) (.seq (.region c74r6) (.seq (.seq (.region c74r7) (.cond (.t 26) (.seq (.region c74r8) .ret) .skip)) (.seq (.region c74r9) (.seq (.region c74r10) (.seq (.region c74r11) .ret)))))))))
def r74 : List ARes := [.cell 4 (some 3), .tmp 5]
theorem c74_ok : Tryz.f74.body.bind (cCode Tryz.prog Tryz.f74.ntmps) = some c74 := by kernel_rfl
theorem r74_ok : Tryz.f74.results.toList.mapM (cRes Tryz.prog Tryz.f74.ntmps) = some r74 := by kernel_rfl
def c75r0 : List AOper :=
 [⟨some 2, none, .mv (.c (.bool false))⟩]
def c75r1 : List AOper :=
 [⟨some 3, none, .mv (.c (.int .i64 0))⟩]
def c75r2 : List AOper :=
 [⟨some 5, none, .mv (.t 3)⟩,
 ⟨some 6, none, .mv (.t 0)⟩,
 ⟨some 7, none, .lenS (.t 6)⟩,
 ⟨some 8, none, .bin .lss (.t 5) (.t 7)⟩]
def c75r3 : List AOper :=
 [⟨some 11, none, .mv (.t 0)⟩,
 ⟨some 12, none, .mv (.t 3)⟩,
 ⟨some 13, none, .idxS (.t 11) (.t 12)⟩,
 ⟨some 4, none, .mv (.t 13)⟩]
def c75r4 : List AOper :=
 [⟨some 14, none, .mv (.t 4)⟩,
 ⟨some 15, none, .bin .lss (.t 14) (.c (.int .u8 97))⟩,
 ⟨some 16, none, .mv (.t 15)⟩,
 ⟨some 17, some (16, false), .mv (.t 4)⟩,
 ⟨some 18, some (16, false), .bin .gtr (.t 17) (.c (.int .u8 122))⟩,
 ⟨some 19, none, .pick (.t 16) (.c (.bool true)) (.t 18)⟩,
 ⟨some 20, none, .mv (.t 19)⟩,
 ⟨some 21, some (20, true), .mv (.t 4)⟩,
 ⟨some 22, some (20, true), .bin .lss (.t 21) (.c (.int .u8 48))⟩,
 ⟨some 23, some (20, true), .mv (.t 22)⟩,
 ⟨some 24, some (23, false), .mv (.t 4)⟩,
 ⟨some 25, some (23, false), .bin .gtr (.t 24) (.c (.int .u8 57))⟩,
 ⟨some 26, some (20, true), .pick (.t 23) (.c (.bool true)) (.t 25)⟩,
 ⟨some 27, none, .pick (.t 20) (.t 26) (.c (.bool false))⟩,
 ⟨some 28, none, .mv (.t 27)⟩,
 ⟨some 29, some (28, true), .mv (.t 4)⟩,
 ⟨some 30, some (28, true), .bin .neq (.t 29) (.c (.int .u8 46))⟩,
 ⟨some 31, none, .pick (.t 28) (.t 30) (.c (.bool false))⟩,
 ⟨some 32, none, .mv (.t 31)⟩,
 ⟨some 33, some (32, true), .mv (.t 4)⟩,
 ⟨some 34, some (32, true), .bin .neq (.t 33) (.c (.int .u8 45))⟩,
 ⟨some 35, none, .pick (.t 32) (.t 34) (.c (.bool false))⟩]
def c75r5 : List AOper :=
 [⟨some 2, none, .mv (.c (.bool false))⟩]
def c75r6 : List AOper :=
 [⟨some 9, none, .mv (.t 3)⟩,
 ⟨some 10, none, .bin .add (.t 9) (.c (.int .i64 1))⟩,
 ⟨some 3, none, .mv (.t 10)⟩]
def c75l0 : AC := (.seq (.seq (.region c75r2) (.cond (.t 8) .skip (.exit 0))) (.seq (.block 1 (.seq (.region c75r3) (.seq (.region c75r4) (.cond (.t 35) (.seq (.region c75r5) .ret) .skip)))) (.region c75r6)))
def c75r7 : List AOper :=
 [⟨some 36, none, .mv (.t 0)⟩,
 ⟨some 37, none, .lenS (.t 36)⟩,
 ⟨some 38, none, .bin .geq (.t 37) (.c (.int .i64 1))⟩,
 ⟨some 39, none, .mv (.t 38)⟩,
 ⟨some 40, some (39, true), .mv (.t 0)⟩,
 ⟨some 41, some (39, true), .lenS (.t 40)⟩,
 ⟨some 42, some (39, true), .bin .leq (.t 41) (.c (.int .i64 32))⟩,
 ⟨some 43, none, .pick (.t 39) (.t 42) (.c (.bool false))⟩,
 ⟨some 2, none, .mv (.t 43)⟩]
def c75 : AC := (.seq (.region c75r0) (.seq (.seq (.region c75r1) (.block 0 (.loop c75l0))) (.seq (.region c75r7) .ret)))
def r75 : List ARes := [.tmp 2]
theorem c75_ok : Tryz.f75.body.bind (cCode Tryz.prog Tryz.f75.ntmps) = some c75 := by kernel_rfl
theorem r75_ok : Tryz.f75.results.toList.mapM (cRes Tryz.prog Tryz.f75.ntmps) = some r75 := by kernel_rfl
def c76r0 : List AOper :=
 [⟨some 2, none, .box (.t 0)⟩,
 ⟨some 4, none, .mv (.c (.int .i64 0))⟩]
def c76r1 : List AOper :=
 [⟨some 5, none, .mv (.c (.int .i64 0))⟩]
def c76r2 : List AOper :=
 [⟨some 6, none, .mv (.t 5)⟩,
 ⟨some 7, none, .fldA (.t 2) 0⟩,
 ⟨some 8, none, .load (.t 7) none⟩,
 ⟨some 9, none, .lenL (.t 8)⟩,
 ⟨some 10, none, .bin .lss (.t 6) (.t 9)⟩]
def c76r3 : List AOper :=
 [⟨some 13, none, .fldA (.t 2) 0⟩,
 ⟨some 14, none, .load (.t 13) none⟩,
 ⟨some 15, none, .mv (.t 5)⟩,
 ⟨some 16, none, .idxA (.t 14) (.t 15) none 3⟩,
 ⟨some 17, none, .fldA (.t 16) 0⟩,
 ⟨some 18, none, .load (.t 17) none⟩,
 ⟨some 19, none, .mv (.t 1)⟩,
 ⟨some 20, none, .bin .eql (.t 18) (.t 19)⟩]
def c76r4 : List AOper :=
 [⟨some 21, none, .mv (.t 5)⟩,
 ⟨some 4, none, .mv (.t 21)⟩]
def c76r5 : List AOper :=
 [⟨some 11, none, .mv (.t 5)⟩,
 ⟨some 12, none, .bin .add (.t 11) (.c (.int .i64 1))⟩,
 ⟨some 5, none, .mv (.t 12)⟩]
def c76l0 : AC := (.seq (.seq (.region c76r2) (.cond (.t 10) .skip (.exit 0))) (.seq (.block 1 (.seq (.region c76r3) (.cond (.t 20) (.seq (.region c76r4) .ret) .skip))) (.region c76r5)))
def c76r6 : List AOper :=
 [⟨some 4, none, .mv (.c (.int .i64 (-1)))⟩]
def c76 : AC := (.seq (.region c76r0) (.seq (.seq (.region c76r1) (.block 0 (.loop c76l0))) (.seq (.region c76r6) .ret)))
def r76 : List ARes := [.tmp 4]
theorem c76_ok : Tryz.f76.body.bind (cCode Tryz.prog Tryz.f76.ntmps) = some c76 := by kernel_rfl
theorem r76_ok : Tryz.f76.results.toList.mapM (cRes Tryz.prog Tryz.f76.ntmps) = some r76 := by kernel_rfl
def c86r0 : List AOper :=
 [⟨some 2, none, .mv (.c (.str []))⟩,
 ⟨some 3, none, .mv (.c (.int .i64 0))⟩,
 ⟨some 4, none, .mv (.c (.int .i64 0))⟩]
def c86r1 : List AOper :=
 [⟨some 9, none, .mv (.t 0)⟩,
 ⟨some 10, none, .call (.c (.fn 109 [])) [.t 9]⟩,
 ⟨some 8, none, .mv (.t 10)⟩,
 ⟨some 11, none, .ext (.t 8) 0⟩,
 ⟨some 12, none, .ext (.t 8) 1⟩,
 ⟨some 13, none, .ext (.t 8) 2⟩,
 ⟨some 5, none, .mv (.t 11)⟩,
 ⟨some 6, none, .mv (.t 12)⟩,
 ⟨some 7, none, .mv (.t 13)⟩]
def c86r2 : List AOper :=
 [⟨some 14, none, .mv (.t 6)⟩,
 ⟨some 15, none, .bin .add (.t 14) (.c (.int .i64 4))⟩,
 ⟨some 6, none, .mv (.t 15)⟩]
def c86r3 : List AOper :=
 [⟨some 16, none, .mv (.t 7)⟩,
 ⟨some 17, none, .bin .neq (.t 16) (.c (.int .i64 0))⟩,
 ⟨some 18, none, .mv (.t 17)⟩,
 ⟨some 19, some (18, false), .mv (.t 6)⟩,
 ⟨some 20, some (18, false), .mv (.t 0)⟩,
 ⟨some 21, some (18, false), .lenS (.t 20)⟩,
 ⟨some 22, some (18, false), .bin .gtr (.t 19) (.t 21)⟩,
 ⟨some 23, none, .pick (.t 18) (.c (.bool true)) (.t 22)⟩,
 ⟨some 24, none, .mv (.t 23)⟩,
 ⟨some 25, some (24, false), .mv (.t 0)⟩,
 ⟨some 26, some (24, false), .mv (.t 6)⟩,
 ⟨some 27, some (24, false), .slcS (.t 25) none (some (.t 26))⟩,
 ⟨some 28, some (24, false), .call (.c (.fn 110 [])) [.t 27]⟩,
 ⟨some 29, some (24, false), .un .not (.t 28)⟩,
 ⟨some 30, none, .pick (.t 24) (.c (.bool true)) (.t 29)⟩]
def c86r4 : List AOper :=
 [⟨some 2, none, .mv (.c (.str []))⟩,
 ⟨some 3, none, .mv (.c (.int .i64 0))⟩,
 ⟨some 4, none, .mv (.c (.int .i64 30))⟩]
def c86r5 : List AOper :=
 [⟨some 31, none, .mv (.t 5)⟩,
 ⟨some 32, none, .mv (.t 6)⟩,
 ⟨some 2, none, .mv (.t 31)⟩,
 ⟨some 3, none, .mv (.t 32)⟩,
 ⟨some 4, none, .mv (.c (.int .i64 0))⟩]
def c86 : AC := (.seq (.region c86r0) (.seq (.region c86r1) (.seq (.seq (.region c86r2) (.seq (.region c86r3) (.cond (.t 30) (.seq (.region c86r4) .ret) .skip))) (.seq (.region c86r5) .ret))))
def r86 : List ARes := [.tmp 2, .tmp 3, .tmp 4]
theorem c86_ok : Tryz.f86.body.bind (cCode Tryz.prog Tryz.f86.ntmps) = some c86 := by kernel_rfl
theorem r86_ok : Tryz.f86.results.toList.mapM (cRes Tryz.prog Tryz.f86.ntmps) = some r86 := by kernel_rfl
def c90r0 : List AOper :=
 [⟨some 2, none, .mv (.c (.str []))⟩,
 ⟨some 3, none, .mv (.c (.int .i64 0))⟩]
def c90r1 : List AOper :=
 [⟨some 5, none, .mv (.t 0)⟩,
 ⟨some 6, none, .bin .lss (.t 5) (.c (.int .i64 0))⟩,
 ⟨some 7, none, .mv (.t 6)⟩,
 ⟨some 8, some (7, false), .mv (.t 0)⟩,
 ⟨some 9, some (7, false), .bin .gtr (.t 8) (.c (.int .i64 4611686018427387904))⟩,
 ⟨some 10, none, .pick (.t 7) (.c (.bool true)) (.t 9)⟩]
def c90r2 : List AOper :=
 [⟨some 2, none, .mv (.c (.str []))⟩,
 ⟨some 3, none, .mv (.c (.int .i64 1))⟩]
def c90r3 : List AOper :=
 [⟨some 4, none, .mv (.c .nils)⟩]
def c90r4 : List AOper :=
 [⟨some 11, none, .mv (.t 0)⟩,
 ⟨some 12, none, .bin .geq (.t 11) (.c (.int .i64 128))⟩]
def c90r5 : List AOper :=
 [⟨some 15, none, .mv (.t 4)⟩,
 ⟨some 16, none, .mv (.t 0)⟩,
 ⟨some 17, none, .convI .u8 (.t 16)⟩,
 ⟨some 18, none, .bin .or (.t 17) (.c (.int .u8 128))⟩,
 ⟨some 19, none, .bslice 1 1 [.int .u8 0] [(0, .t 18)]⟩,
 ⟨some 20, none, .append (.t 15) (.t 19) 1 1 false⟩,
 ⟨some 4, none, .mv (.t 20)⟩]
def c90r6 : List AOper :=
 [⟨some 13, none, .mv (.t 0)⟩,
 ⟨some 14, none, .bin .shr (.t 13) (.c (.int .u64 7))⟩,
 ⟨some 0, none, .mv (.t 14)⟩]
def c90l0 : AC := (.seq (.seq (.region c90r4) (.cond (.t 12) .skip (.exit 0))) (.seq (.block 1 (.region c90r5)) (.region c90r6)))
def c90r7 : List AOper :=
 [⟨some 21, none, .mv (.t 4)⟩,
 ⟨some 22, none, .mv (.t 0)⟩,
 ⟨some 23, none, .convI .u8 (.t 22)⟩,
 ⟨some 24, none, .bslice 1 1 [.int .u8 0] [(0, .t 23)]⟩,
 ⟨some 25, none, .append (.t 21) (.t 24) 1 1 false⟩,
 ⟨some 26, none, .b2s (.t 25)⟩,
 ⟨some 2, none, .mv (.t 26)⟩,
 ⟨some 3, none, .mv (.c (.int .i64 0))⟩]
def c90 : AC := (.seq (.region c90r0) (.seq (.seq (.region c90r1) (.cond (.t 10) (.seq (.region c90r2) .ret) .skip)) (.seq (.region c90r3) (.seq (.block 0 (.loop c90l0)) (.seq (.region c90r7) .ret)))))
def r90 : List ARes := [.tmp 2, .tmp 3]
theorem c90_ok : Tryz.f90.body.bind (cCode Tryz.prog Tryz.f90.ntmps) = some c90 := by kernel_rfl
theorem r90_ok : Tryz.f90.results.toList.mapM (cRes Tryz.prog Tryz.f90.ntmps) = some r90 := by kernel_rfl
def c91r0 : List AOper :=
 [⟨some 2, none, .mv (.c (.str []))⟩]
def c91r1 : List AOper :=
 [⟨some 3, none, .alloc [.int .u8 0, .int .u8 0, .int .u8 0, .int .u8 0]⟩]
def c91r2 : List AOper :=
 [⟨some 5, none, .mv (.c (.int .i64 0))⟩]
def c91r3 : List AOper :=
 [⟨some 6, none, .bin .lss (.t 5) (.c (.int .i64 4))⟩]
def c91r4 : List AOper :=
 [⟨some 7, none, .mv (.t 5)⟩,
 ⟨some 4, none, .mv (.t 7)⟩]
def c91r5 : List AOper :=
 [⟨some 8, none, .mv (.t 4)⟩,
 ⟨some 9, none, .mv (.t 0)⟩,
 ⟨some 10, none, .mv (.t 4)⟩,
 ⟨some 11, none, .bin .mul (.c (.int .i64 8)) (.t 10)⟩,
 ⟨some 12, none, .bin .shr (.t 9) (.t 11)⟩,
 ⟨some 13, none, .convI .u8 (.t 12)⟩,
 ⟨some 14, none, .idxA (.t 3) (.t 8) (some 4) 1⟩,
 ⟨none, none, .store (.t 14) (.t 13) 1⟩]
def c91r6 : List AOper :=
 [⟨some 15, none, .bin .add (.t 5) (.c (.int .i64 1))⟩,
 ⟨some 5, none, .mv (.t 15)⟩]
def c91l0 : AC := (.seq (.region c91r3) (.seq (.cond (.t 6) .skip (.exit 0)) (.seq (.block 1 (.seq (.region c91r4) (.region c91r5))) (.region c91r6))))
def c91r7 : List AOper :=
 [⟨some 16, none, .slcA (.t 3) none none 4 1⟩,
 ⟨some 17, none, .b2s (.t 16)⟩,
 ⟨some 2, none, .mv (.t 17)⟩]
def c91 : AC := (.seq (.region c91r0) (.seq (.region c91r1) (.seq (.seq (.region c91r2) (.block 0 (.loop c91l0))) (.seq (.region c91r7) .ret))))
def r91 : List ARes := [.tmp 2]
theorem c91_ok : Tryz.f91.body.bind (cCode Tryz.prog Tryz.f91.ntmps) = some c91 := by kernel_rfl
theorem r91_ok : Tryz.f91.results.toList.mapM (cRes Tryz.prog Tryz.f91.ntmps) = some r91 := by kernel_rfl
def c92r0 : List AOper :=
 [⟨some 2, none, .mv (.c (.int .i64 0))⟩]
def c92r1 : List AOper :=
 [⟨some 3, none, .mv (.t 0)⟩,
 ⟨some 4, none, .call (.c (.fn 114 [])) [.c (.int .i64 0), .t 3]⟩,
 ⟨some 2, none, .mv (.t 4)⟩]
def c92 : AC := (.seq (.region c92r0) (.seq (.region c92r1) .ret))
def r92 : List ARes := [.tmp 2]
theorem c92_ok : Tryz.f92.body.bind (cCode Tryz.prog Tryz.f92.ntmps) = some c92 := by kernel_rfl
theorem r92_ok : Tryz.f92.results.toList.mapM (cRes Tryz.prog Tryz.f92.ntmps) = some r92 := by kernel_rfl
def c94r0 : List AOper :=
 [⟨some 1, none, .box (.t 0)⟩,
 ⟨some 2, none, .alloc [.nils, .int .i64 0, .bool false]⟩,
 ⟨some 3, none, .mv (.c (.int .i64 0))⟩]
def c94r1 : List AOper :=
 [⟨some 4, none, .fldA (.t 1) 2⟩,
 ⟨some 5, none, .load (.t 4) none⟩,
 ⟨some 6, none, .mv (.t 5)⟩,
 ⟨some 7, some (6, false), .fldA (.t 1) 1⟩,
 ⟨some 8, some (6, false), .load (.t 7) none⟩,
 ⟨some 9, some (6, false), .bin .eql (.t 8) (.c (.int .i64 0))⟩,
 ⟨some 10, none, .pick (.t 6) (.c (.bool true)) (.t 9)⟩]
def c94r2 : List AOper :=
 [⟨some 11, none, .fldA (.t 1) 2⟩,
 ⟨none, none, .store (.t 11) (.c (.bool true)) 1⟩]
def c94r3 : List AOper :=
 [⟨some 12, none, .load (.t 1) (some 3)⟩,
 ⟨none, none, .store (.t 2) (.t 12) 3⟩,
 ⟨some 3, none, .mv (.c (.int .i64 50))⟩]
def c94r4 : List AOper :=
 [⟨some 13, none, .fldA (.t 1) 1⟩,
 ⟨some 14, none, .load (.t 13) none⟩,
 ⟨some 15, none, .bin .gtr (.t 14) (.c (.int .i64 0))⟩]
def c94r5 : List AOper :=
 [⟨some 16, none, .fldA (.t 1) 1⟩,
 ⟨some 17, none, .load (.t 16) none⟩,
 ⟨some 18, none, .bin .sub (.t 17) (.c (.int .i64 1))⟩,
 ⟨some 19, none, .fldA (.t 1) 1⟩,
 ⟨none, none, .store (.t 19) (.t 18) 1⟩]
def c94r6 : List AOper :=
 [⟨some 20, none, .load (.t 1) (some 3)⟩,
 ⟨none, none, .store (.t 2) (.t 20) 3⟩,
 ⟨some 3, none, .mv (.c (.int .i64 0))⟩]
def c94 : AC := (.seq (.region c94r0) (.seq (.seq (.region c94r1) (.cond (.t 10) (.seq (.region c94r2) (.seq (.region c94r3) .ret)) .skip)) (.seq (.seq (.region c94r4) (.cond (.t 15) (.region c94r5) .skip)) (.seq (.region c94r6) .ret))))
def r94 : List ARes := [.cell 2 (some 3), .tmp 3]
theorem c94_ok : Tryz.f94.body.bind (cCode Tryz.prog Tryz.f94.ntmps) = some c94 := by kernel_rfl
theorem r94_ok : Tryz.f94.results.toList.mapM (cRes Tryz.prog Tryz.f94.ntmps) = some r94 := by kernel_rfl
def c95r0 : List AOper :=
 [⟨some 2, none, .box (.t 0)⟩,
 ⟨some 4, none, .alloc [.nils, .int .i64 0, .bool false]⟩]
def c95r1 : List AOper :=
 [⟨some 5, none, .mv (.c .nils)⟩]
def c95r2 : List AOper :=
 [⟨some 6, none, .mv (.t 5)⟩,
 ⟨some 7, none, .fldA (.t 2) 0⟩,
 ⟨some 8, none, .load (.t 7) none⟩,
 ⟨some 9, none, .mv (.t 1)⟩,
 ⟨some 10, none, .slc (.t 8) none (some (.t 9)) none 3⟩,
 ⟨some 11, none, .append (.t 6) (.t 10) 3 40 false⟩,
 ⟨some 5, none, .mv (.t 11)⟩]
def c95r3 : List AOper :=
 [⟨some 12, none, .mv (.t 5)⟩,
 ⟨some 13, none, .fldA (.t 2) 0⟩,
 ⟨some 14, none, .load (.t 13) none⟩,
 ⟨some 15, none, .mv (.t 1)⟩,
 ⟨some 16, none, .bin .add (.t 15) (.c (.int .i64 1))⟩,
 ⟨some 17, none, .slc (.t 14) (some (.t 16)) none none 3⟩,
 ⟨some 18, none, .append (.t 12) (.t 17) 3 40 false⟩,
 ⟨some 19, none, .fldA (.t 2) 0⟩,
 ⟨none, none, .store (.t 19) (.t 18) 1⟩]
def c95r4 : List AOper :=
 [⟨some 20, none, .load (.t 2) (some 3)⟩,
 ⟨none, none, .store (.t 4) (.t 20) 3⟩]
def c95 : AC := (.seq (.region c95r0) (.seq (.region c95r1) (.seq (.region c95r2) (.seq (.region c95r3) (.seq (.region c95r4) .ret)))))
def r95 : List ARes := [.cell 4 (some 3)]
theorem c95_ok : Tryz.f95.body.bind (cCode Tryz.prog Tryz.f95.ntmps) = some c95 := by kernel_rfl
theorem r95_ok : Tryz.f95.results.toList.mapM (cRes Tryz.prog Tryz.f95.ntmps) = some r95 := by kernel_rfl
def c96r0 : List AOper :=
 [⟨some 2, none, .mv (.c (.str []))⟩,
 ⟨some 3, none, .mv (.c (.int .i64 0))⟩,
 ⟨some 4, none, .mv (.c (.int .i64 0))⟩]
def c96r1 : List AOper :=
 [⟨some 9, none, .mv (.t 0)⟩,
 ⟨some 10, none, .call (.c (.fn 115 [])) [.t 9]⟩,
 ⟨some 8, none, .mv (.t 10)⟩,
 ⟨some 11, none, .ext (.t 8) 0⟩,
 ⟨some 12, none, .ext (.t 8) 1⟩,
 ⟨some 13, none, .ext (.t 8) 2⟩,
 ⟨some 5, none, .mv (.t 11)⟩,
 ⟨some 6, none, .mv (.t 12)⟩,
 ⟨some 7, none, .mv (.t 13)⟩]
def c96r2 : List AOper :=
 [⟨some 14, none, .mv (.t 7)⟩,
 ⟨some 15, none, .bin .neq (.t 14) (.c (.int .i64 0))⟩,
 ⟨some 16, none, .mv (.t 15)⟩,
 ⟨some 17, some (16, false), .mv (.t 0)⟩,
 ⟨some 18, some (16, false), .lenS (.t 17)⟩,
 ⟨some 19, some (16, false), .mv (.t 6)⟩,
 ⟨some 20, some (16, false), .bin .sub (.t 18) (.t 19)⟩,
 ⟨some 21, some (16, false), .bin .lss (.t 20) (.c (.int .i64 4))⟩,
 ⟨some 22, none, .pick (.t 16) (.c (.bool true)) (.t 21)⟩,
 ⟨some 23, none, .mv (.t 22)⟩,
 ⟨some 24, some (23, false), .mv (.t 0)⟩,
 ⟨some 25, some (23, false), .mv (.t 6)⟩,
 ⟨some 26, some (23, false), .bin .add (.t 25) (.c (.int .i64 4))⟩,
 ⟨some 27, some (23, false), .slcS (.t 24) none (some (.t 26))⟩,
 ⟨some 28, some (23, false), .call (.c (.fn 116 [])) [.t 27]⟩,
 ⟨some 29, some (23, false), .un .not (.t 28)⟩,
 ⟨some 30, none, .pick (.t 23) (.c (.bool true)) (.t 29)⟩]
def c96r3 : List AOper :=
 [⟨some 2, none, .mv (.c (.str []))⟩,
 ⟨some 3, none, .mv (.c (.int .i64 0))⟩,
 ⟨some 4, none, .mv (.c (.int .i64 30))⟩]
def c96r4 : List AOper :=
 [⟨some 31, none, .mv (.t 5)⟩,
 ⟨some 32, none, .mv (.t 6)⟩,
 ⟨some 33, none, .bin .add (.t 32) (.c (.int .i64 4))⟩,
 ⟨some 2, none, .mv (.t 31)⟩,
 ⟨some 3, none, .mv (.t 33)⟩,
 ⟨some 4, none, .mv (.c (.int .i64 0))⟩]
def c96 : AC := (.seq (.region c96r0) (.seq (.region c96r1) (.seq (.seq (.region c96r2) (.cond (.t 30) (.seq (.region c96r3) .ret) .skip)) (.seq (.region c96r4) .ret))))
def r96 : List ARes := [.tmp 2, .tmp 3, .tmp 4]
theorem c96_ok : Tryz.f96.body.bind (cCode Tryz.prog Tryz.f96.ntmps) = some c96 := by kernel_rfl
theorem r96_ok : Tryz.f96.results.toList.mapM (cRes Tryz.prog Tryz.f96.ntmps) = some r96 := by kernel_rfl
def c97r0 : List AOper :=
 [⟨some 2, none, .box (.t 0)⟩,
 ⟨some 3, none, .box (.t 1)⟩,
 ⟨some 4, none, .alloc [.nils, .int .i64 0, .bool false]⟩]
def c97r1 : List AOper :=
 [⟨some 8, none, .load (.t 2) (some 3)⟩,
 ⟨some 9, none, .fldA (.t 3) 0⟩,
 ⟨some 10, none, .load (.t 9) none⟩,
 ⟨some 11, none, .call (.c (.fn 76 [])) [.t 8, .t 10]⟩,
 ⟨some 5, none, .mv (.t 11)⟩]
def c97r2 : List AOper :=
 [⟨some 12, none, .mv (.t 5)⟩,
 ⟨some 13, none, .bin .geq (.t 12) (.c (.int .i64 0))⟩]
def c97r3 : List AOper :=
 [⟨some 14, none, .load (.t 2) (some 3)⟩,
 ⟨some 15, none, .mv (.t 5)⟩,
 ⟨some 16, none, .call (.c (.fn 95 [])) [.t 14, .t 15]⟩,
 ⟨none, none, .store (.t 2) (.t 16) 3⟩]
def c97r4 : List AOper :=
 [⟨some 6, none, .mv (.c (.int .i64 0))⟩]
def c97d0 : List (AOper × List Nat) :=
 [(⟨some 17, none, .mv (.t 6)⟩, []),
 (⟨some 18, none, .fldA (.t 2) 0⟩, []),
 (⟨some 19, none, .load (.t 18) none⟩, [1]),
 (⟨some 20, none, .lenL (.t 19)⟩, [2]),
 (⟨some 21, none, .bin .lss (.t 17) (.t 20)⟩, [0, 3]),
 (⟨some 22, none, .mv (.t 21)⟩, [4]),
 (⟨some 23, some (22, true), .fldA (.t 2) 0⟩, [5]),
 (⟨some 24, some (22, true), .load (.t 23) none⟩, [6, 5]),
 (⟨some 25, some (22, true), .mv (.t 6)⟩, [5]),
 (⟨some 26, some (22, true), .idxA (.t 24) (.t 25) none 3⟩, [7, 8, 5]),
 (⟨some 27, some (22, true), .fldA (.t 26) 0⟩, [9, 5]),
 (⟨some 28, some (22, true), .load (.t 27) none⟩, [10, 5]),
 (⟨some 29, some (22, true), .fldA (.t 3) 0⟩, [5]),
 (⟨some 30, some (22, true), .load (.t 29) none⟩, [12, 5]),
 (⟨some 31, some (22, true), .bin .lss (.t 28) (.t 30)⟩, [11, 13, 5]),
 (⟨some 32, none, .pick (.t 22) (.t 31) (.c (.bool false))⟩, [5, 14])]
def c97r5 : List AOper :=
 [⟨some 33, none, .mv (.t 6)⟩,
 ⟨some 34, none, .bin .add (.t 33) (.c (.int .i64 1))⟩,
 ⟨some 6, none, .mv (.t 34)⟩]
def c97l0 : AC := (.seq (.seq (.drawn c97d0) (.cond (.t 32) .skip (.exit 0))) (.block 1 (.region c97r5)))
def c97r6 : List AOper :=
 [⟨some 7, none, .mv (.c .nils)⟩]
def c97r7 : List AOper :=
 [⟨some 35, none, .mv (.t 7)⟩,
 ⟨some 36, none, .fldA (.t 2) 0⟩,
 ⟨some 37, none, .load (.t 36) none⟩,
 ⟨some 38, none, .mv (.t 6)⟩,
 ⟨some 39, none, .slc (.t 37) none (some (.t 38)) none 3⟩,
 ⟨some 40, none, .append (.t 35) (.t 39) 3 40 false⟩,
 ⟨some 7, none, .mv (.t 40)⟩]
def c97r8 : List AOper :=
 [⟨some 41, none, .mv (.t 7)⟩,
 ⟨some 42, none, .load (.t 3) (some 3)⟩,
 ⟨some 43, none, .bslice 1 3 [.str [], .str [], .int .i64 0] [(0, .t 42)]⟩,
 ⟨some 44, none, .append (.t 41) (.t 43) 3 40 false⟩,
 ⟨some 7, none, .mv (.t 44)⟩]
def c97r9 : List AOper :=
 [⟨some 45, none, .mv (.t 7)⟩,
 ⟨some 46, none, .fldA (.t 2) 0⟩,
 ⟨some 47, none, .load (.t 46) none⟩,
 ⟨some 48, none, .mv (.t 6)⟩,
 ⟨some 49, none, .slc (.t 47) (some (.t 48)) none none 3⟩,
 ⟨some 50, none, .append (.t 45) (.t 49) 3 40 false⟩,
 ⟨some 51, none, .fldA (.t 2) 0⟩,
 ⟨none, none, .store (.t 51) (.t 50) 1⟩]
def c97r10 : List AOper :=
 [⟨some 52, none, .load (.t 2) (some 3)⟩,
 ⟨none, none, .store (.t 4) (.t 52) 3⟩]
def c97 : AC := (.seq (.region c97r0) (.seq (.seq (.region c97r1) (.seq (.region c97r2) (.cond (.t 13) (.region c97r3) .skip))) (.seq (.region c97r4) (.seq (.block 0 (.loop c97l0)) (.seq (.region c97r6) (.seq (.region c97r7) (.seq (.region c97r8) (.seq (.region c97r9) (.seq (.region c97r10) .ret)))))))))
def r97 : List ARes := [.cell 4 (some 3)]
theorem c97_ok : Tryz.f97.body.bind (cCode Tryz.prog Tryz.f97.ntmps) = some c97 := by kernel_rfl
theorem r97_ok : Tryz.f97.results.toList.mapM (cRes Tryz.prog Tryz.f97.ntmps) = some r97 := by kernel_rfl
def c98r0 : List AOper :=
 [⟨some 2, none, .mv (.c (.str []))⟩,
 ⟨some 3, none, .mv (.c (.int .i64 0))⟩]
def c98r1 : List AOper :=
 [⟨some 6, none, .mv (.t 0)⟩,
 ⟨some 7, none, .lenS (.t 6)⟩,
 ⟨some 8, none, .bin .gtr (.t 7) (.c (.int .i64 262144))⟩]
def c98r2 : List AOper :=
 [⟨some 2, none, .mv (.c (.str []))⟩,
 ⟨some 3, none, .mv (.c (.int .i64 1))⟩]
def c98r3 : List AOper :=
 [⟨some 10, none, .mv (.t 0)⟩,
 ⟨some 11, none, .lenS (.t 10)⟩,
 ⟨some 12, none, .call (.c (.fn 117 [])) [.t 11]⟩,
 ⟨some 9, none, .mv (.t 12)⟩,
 ⟨some 13, none, .ext (.t 9) 0⟩,
 ⟨some 14, none, .ext (.t 9) 1⟩,
 ⟨some 4, none, .mv (.t 13)⟩,
 ⟨some 5, none, .mv (.t 14)⟩]
def c98r4 : List AOper :=
 [⟨some 15, none, .mv (.t 4)⟩,
 ⟨some 16, none, .mv (.t 0)⟩,
 ⟨some 17, none, .bin .add (.t 15) (.t 16)⟩,
 ⟨some 2, none, .mv (.t 17)⟩,
 ⟨some 3, none, .mv (.c (.int .i64 0))⟩]
def c98 : AC := (.seq (.region c98r0) (.seq (.seq (.region c98r1) (.cond (.t 8) (.seq (.region c98r2) .ret) .skip)) (.seq (.region c98r3) (.seq (.region c98r4) .ret))))
def r98 : List ARes := [.tmp 2, .tmp 3]
theorem c98_ok : Tryz.f98.body.bind (cCode Tryz.prog Tryz.f98.ntmps) = some c98 := by kernel_rfl
theorem r98_ok : Tryz.f98.results.toList.mapM (cRes Tryz.prog Tryz.f98.ntmps) = some r98 := by kernel_rfl
def c99r0 : List AOper :=
 [⟨some 2, none, .mv (.c (.str []))⟩]
def c99r1 : List AOper :=
 [⟨some 3, none, .mv (.t 0)⟩,
 ⟨some 4, none, .mv (.t 0)⟩,
 ⟨some 5, none, .call (.c (.fn 119 [])) [.t 4]⟩,
 ⟨some 6, none, .call (.c (.fn 118 [])) [.t 5]⟩,
 ⟨some 7, none, .bin .add (.t 3) (.t 6)⟩,
 ⟨some 2, none, .mv (.t 7)⟩]
def c99 : AC := (.seq (.region c99r0) (.seq (.region c99r1) .ret))
def r99 : List ARes := [.tmp 2]
theorem c99_ok : Tryz.f99.body.bind (cCode Tryz.prog Tryz.f99.ntmps) = some c99 := by kernel_rfl
theorem r99_ok : Tryz.f99.results.toList.mapM (cRes Tryz.prog Tryz.f99.ntmps) = some r99 := by kernel_rfl
def c109r0 : List AOper :=
 [⟨some 2, none, .mv (.c (.str []))⟩,
 ⟨some 3, none, .mv (.c (.int .i64 0))⟩,
 ⟨some 4, none, .mv (.c (.int .i64 0))⟩]
def c109r1 : List AOper :=
 [⟨some 9, none, .mv (.t 0)⟩,
 ⟨some 10, none, .call (.c (.fn 131 [])) [.t 9]⟩,
 ⟨some 8, none, .mv (.t 10)⟩,
 ⟨some 11, none, .ext (.t 8) 0⟩,
 ⟨some 12, none, .ext (.t 8) 1⟩,
 ⟨some 13, none, .ext (.t 8) 2⟩,
 ⟨some 5, none, .mv (.t 11)⟩,
 ⟨some 6, none, .mv (.t 12)⟩,
 ⟨some 7, none, .mv (.t 13)⟩]
def c109r2 : List AOper :=
 [⟨some 15, none, .mv (.t 7)⟩,
 ⟨some 16, none, .bin .neq (.t 15) (.c (.int .i64 0))⟩,
 ⟨some 14, none, .mv (.t 16)⟩]
def c109r3 : List AOper :=
 [⟨some 17, none, .mv (.t 7)⟩,
 ⟨some 2, none, .mv (.c (.str []))⟩,
 ⟨some 3, none, .mv (.c (.int .i64 0))⟩,
 ⟨some 4, none, .mv (.t 17)⟩]
def c109r4 : List AOper :=
 [⟨some 19, none, .mv (.t 5)⟩,
 ⟨some 20, none, .bin .gtr (.t 19) (.c (.int .i64 262144))⟩,
 ⟨some 18, none, .mv (.t 20)⟩]
def c109r5 : List AOper :=
 [⟨some 2, none, .mv (.c (.str []))⟩,
 ⟨some 3, none, .mv (.c (.int .i64 0))⟩,
 ⟨some 4, none, .mv (.c (.int .i64 11))⟩]
def c109r6 : List AOper :=
 [⟨some 22, none, .mv (.t 0)⟩,
 ⟨some 23, none, .lenS (.t 22)⟩,
 ⟨some 24, none, .mv (.t 6)⟩,
 ⟨some 25, none, .bin .sub (.t 23) (.t 24)⟩,
 ⟨some 26, none, .mv (.t 5)⟩,
 ⟨some 27, none, .bin .lss (.t 25) (.t 26)⟩,
 ⟨some 21, none, .mv (.t 27)⟩]
def c109r7 : List AOper :=
 [⟨some 2, none, .mv (.c (.str []))⟩,
 ⟨some 3, none, .mv (.c (.int .i64 0))⟩,
 ⟨some 4, none, .mv (.c (.int .i64 10))⟩]
def c109r8 : List AOper :=
 [⟨some 28, none, .mv (.t 0)⟩,
 ⟨some 29, none, .mv (.t 6)⟩,
 ⟨some 30, none, .mv (.t 6)⟩,
 ⟨some 31, none, .mv (.t 5)⟩,
 ⟨some 32, none, .bin .add (.t 30) (.t 31)⟩,
 ⟨some 33, none, .slcS (.t 28) (some (.t 29)) (some (.t 32))⟩,
 ⟨some 34, none, .mv (.t 6)⟩,
 ⟨some 35, none, .mv (.t 5)⟩,
 ⟨some 36, none, .bin .add (.t 34) (.t 35)⟩,
 ⟨some 2, none, .mv (.t 33)⟩,
 ⟨some 3, none, .mv (.t 36)⟩,
 ⟨some 4, none, .mv (.c (.int .i64 0))⟩]
def c109 : AC := (.seq (.region c109r0) (.seq (.region c109r1) (.seq (.block 0 (.seq (.region c109r2) (.cond (.t 14) (.seq (.region c109r3) .ret) (.seq (.region c109r4) (.cond (.t 18) (.seq (.region c109r5) .ret) (.seq (.region c109r6) (.cond (.t 21) (.seq (.region c109r7) .ret) .skip))))))) (.seq (.region c109r8) .ret))))
def r109 : List ARes := [.tmp 2, .tmp 3, .tmp 4]
theorem c109_ok : Tryz.f109.body.bind (cCode Tryz.prog Tryz.f109.ntmps) = some c109 := by kernel_rfl
theorem r109_ok : Tryz.f109.results.toList.mapM (cRes Tryz.prog Tryz.f109.ntmps) = some r109 := by kernel_rfl
def c110r0 : List AOper :=
 [⟨some 2, none, .mv (.c (.bool false))⟩]
def c110r1 : List AOper :=
 [⟨some 4, none, .mv (.t 0)⟩,
 ⟨some 5, none, .lenS (.t 4)⟩,
 ⟨some 6, none, .bin .sub (.t 5) (.c (.int .i64 4))⟩,
 ⟨some 3, none, .mv (.t 6)⟩]
def c110d0 : List (AOper × List Nat) :=
 [(⟨some 7, none, .mv (.t 3)⟩, []),
 (⟨some 8, none, .bin .geq (.t 7) (.c (.int .i64 0))⟩, [0]),
 (⟨some 9, none, .mv (.t 8)⟩, [1]),
 (⟨some 10, some (9, true), .mv (.t 0)⟩, [2]),
 (⟨some 11, some (9, true), .mv (.t 3)⟩, [2]),
 (⟨some 12, some (9, true), .slcS (.t 10) (some (.t 11)) none⟩, [3, 4, 2]),
 (⟨some 13, some (9, true), .mv (.t 0)⟩, [2]),
 (⟨some 14, some (9, true), .mv (.t 3)⟩, [2]),
 (⟨some 15, some (9, true), .slcS (.t 13) none (some (.t 14))⟩, [6, 7, 2]),
 (⟨some 16, some (9, true), .call (.c (.fn 92 [])) [.t 15]⟩, [8, 2, 2]),
 (⟨some 17, some (9, true), .call (.c (.fn 91 [])) [.t 16]⟩, [9, 9, 2]),
 (⟨some 18, some (9, true), .bin .eql (.t 12) (.t 17)⟩, [5, 10, 2]),
 (⟨some 19, none, .pick (.t 9) (.t 18) (.c (.bool false))⟩, [2, 11]),
 (⟨some 2, none, .mv (.t 19)⟩, [12, 10, 0, 1, 2, 3, 4, 5, 6, 7, 8, 9, 10, 11, 12])]
def c110 : AC := (.seq (.region c110r0) (.seq (.region c110r1) (.seq (.drawn c110d0) .ret)))
def r110 : List ARes := [.tmp 2]
theorem c110_ok : Tryz.f110.body.bind (cCode Tryz.prog Tryz.f110.ntmps) = some c110 := by kernel_rfl
theorem r110_ok : Tryz.f110.results.toList.mapM (cRes Tryz.prog Tryz.f110.ntmps) = some r110 := by kernel_rfl
def c114r0 : List AOper :=
 [⟨some 4, none, .mv (.c (.int .i64 0))⟩]
def c114r1 : List AOper :=
 [⟨some 8, none, .mv (.t 0)⟩,
 ⟨some 9, none, .bin .and (.t 8) (.c (.int .i64 4294967295))⟩,
 ⟨some 10, none, .convI .u32 (.t 9)⟩,
 ⟨some 11, none, .un .xor (.t 10)⟩,
 ⟨some 5, none, .mv (.t 11)⟩]
def c114r2 : List AOper :=
 [⟨some 12, none, .mv (.t 1)⟩,
 ⟨some 13, none, .lenS (.t 12)⟩,
 ⟨some 14, none, .mv (.c (.int .i64 0))⟩]
def c114r3 : List AOper :=
 [⟨some 15, none, .bin .lss (.t 14) (.t 13)⟩]
def c114r4 : List AOper :=
 [⟨some 16, none, .mv (.t 14)⟩,
 ⟨some 6, none, .mv (.t 16)⟩]
def c114r5 : List AOper :=
 [⟨some 17, none, .mv (.t 5)⟩,
 ⟨some 18, none, .mv (.t 1)⟩,
 ⟨some 19, none, .mv (.t 6)⟩,
 ⟨some 20, none, .idxS (.t 18) (.t 19)⟩,
 ⟨some 21, none, .convI .u32 (.t 20)⟩,
 ⟨some 22, none, .bin .xor (.t 17) (.t 21)⟩,
 ⟨some 5, none, .mv (.t 22)⟩]
def c114r6 : List AOper :=
 [⟨some 23, none, .mv (.c (.int .i64 0))⟩]
def c114r7 : List AOper :=
 [⟨some 24, none, .bin .lss (.t 23) (.c (.int .i64 8))⟩]
def c114r8 : List AOper :=
 [⟨some 25, none, .mv (.t 5)⟩,
 ⟨some 26, none, .bin .and (.t 25) (.c (.int .u32 1))⟩,
 ⟨some 7, none, .mv (.t 26)⟩]
def c114r9 : List AOper :=
 [⟨some 27, none, .mv (.t 5)⟩,
 ⟨some 28, none, .bin .shr (.t 27) (.c (.int .u64 1))⟩,
 ⟨some 5, none, .mv (.t 28)⟩]
def c114r10 : List AOper :=
 [⟨some 29, none, .mv (.t 7)⟩,
 ⟨some 30, none, .bin .eql (.t 29) (.c (.int .u32 1))⟩]
def c114r11 : List AOper :=
 [⟨some 31, none, .mv (.t 5)⟩,
 ⟨some 32, none, .bin .xor (.t 31) (.c (.int .u32 2197175160))⟩,
 ⟨some 5, none, .mv (.t 32)⟩]
def c114r12 : List AOper :=
 [⟨some 33, none, .bin .add (.t 23) (.c (.int .i64 1))⟩,
 ⟨some 23, none, .mv (.t 33)⟩]
def c114l1 : AC := (.seq (.region c114r7) (.seq (.cond (.t 24) .skip (.exit 2)) (.seq (.block 3 (.seq (.region c114r8) (.seq (.region c114r9) (.seq (.region c114r10) (.cond (.t 30) (.region c114r11) .skip))))) (.region c114r12))))
def c114r13 : List AOper :=
 [⟨some 34, none, .bin .add (.t 14) (.c (.int .i64 1))⟩,
 ⟨some 14, none, .mv (.t 34)⟩]
def c114l0 : AC := (.seq (.region c114r3) (.seq (.cond (.t 15) .skip (.exit 0)) (.seq (.block 1 (.seq (.region c114r4) (.seq (.region c114r5) (.seq (.region c114r6) (.block 2 (.loop c114l1)))))) (.region c114r13))))
def c114r14 : List AOper :=
 [⟨some 35, none, .mv (.t 5)⟩,
 ⟨some 36, none, .un .xor (.t 35)⟩,
 ⟨some 37, none, .convI .i64 (.t 36)⟩,
 ⟨some 4, none, .mv (.t 37)⟩]
def c114 : AC := (.seq (.region c114r0) (.seq (.region c114r1) (.seq (.seq (.region c114r2) (.block 0 (.loop c114l0))) (.seq (.region c114r14) .ret))))
def r114 : List ARes := [.tmp 4]
theorem c114_ok : Tryz.f114.body.bind (cCode Tryz.prog Tryz.f114.ntmps) = some c114 := by kernel_rfl
theorem r114_ok : Tryz.f114.results.toList.mapM (cRes Tryz.prog Tryz.f114.ntmps) = some r114 := by kernel_rfl
def c115r0 : List AOper :=
 [⟨some 2, none, .mv (.c (.str []))⟩,
 ⟨some 3, none, .mv (.c (.int .i64 0))⟩,
 ⟨some 4, none, .mv (.c (.int .i64 0))⟩]
def c115r1 : List AOper :=
 [⟨some 9, none, .mv (.t 0)⟩,
 ⟨some 10, none, .call (.c (.fn 143 [])) [.t 9]⟩,
 ⟨some 8, none, .mv (.t 10)⟩,
 ⟨some 11, none, .ext (.t 8) 0⟩,
 ⟨some 12, none, .ext (.t 8) 1⟩,
 ⟨some 13, none, .ext (.t 8) 2⟩,
 ⟨some 5, none, .mv (.t 11)⟩,
 ⟨some 6, none, .mv (.t 12)⟩,
 ⟨some 7, none, .mv (.t 13)⟩]
def c115r2 : List AOper :=
 [⟨some 14, none, .mv (.t 7)⟩,
 ⟨some 15, none, .bin .neq (.t 14) (.c (.int .i64 0))⟩]
def c115r3 : List AOper :=
 [⟨some 16, none, .mv (.t 7)⟩,
 ⟨some 2, none, .mv (.c (.str []))⟩,
 ⟨some 3, none, .mv (.c (.int .i64 0))⟩,
 ⟨some 4, none, .mv (.t 16)⟩]
def c115r4 : List AOper :=
 [⟨some 17, none, .mv (.t 5)⟩,
 ⟨some 18, none, .bin .gtr (.t 17) (.c (.int .i64 262144))⟩]
def c115r5 : List AOper :=
 [⟨some 2, none, .mv (.c (.str []))⟩,
 ⟨some 3, none, .mv (.c (.int .i64 0))⟩,
 ⟨some 4, none, .mv (.c (.int .i64 11))⟩]
def c115r6 : List AOper :=
 [⟨some 19, none, .mv (.t 5)⟩,
 ⟨some 20, none, .mv (.t 0)⟩,
 ⟨some 21, none, .lenS (.t 20)⟩,
 ⟨some 22, none, .mv (.t 6)⟩,
 ⟨some 23, none, .bin .sub (.t 21) (.t 22)⟩,
 ⟨some 24, none, .bin .gtr (.t 19) (.t 23)⟩]
def c115r7 : List AOper :=
 [⟨some 2, none, .mv (.c (.str []))⟩,
 ⟨some 3, none, .mv (.c (.int .i64 0))⟩,
 ⟨some 4, none, .mv (.c (.int .i64 10))⟩]
def c115r8 : List AOper :=
 [⟨some 25, none, .mv (.t 0)⟩,
 ⟨some 26, none, .mv (.t 6)⟩,
 ⟨some 27, none, .mv (.t 6)⟩,
 ⟨some 28, none, .mv (.t 5)⟩,
 ⟨some 29, none, .bin .add (.t 27) (.t 28)⟩,
 ⟨some 30, none, .slcS (.t 25) (some (.t 26)) (some (.t 29))⟩,
 ⟨some 31, none, .mv (.t 6)⟩,
 ⟨some 32, none, .mv (.t 5)⟩,
 ⟨some 33, none, .bin .add (.t 31) (.t 32)⟩,
 ⟨some 2, none, .mv (.t 30)⟩,
 ⟨some 3, none, .mv (.t 33)⟩,
 ⟨some 4, none, .mv (.c (.int .i64 0))⟩]
def c115 : AC := (.seq (.region c115r0) (.seq (.region c115r1) (.seq (.seq (.region c115r2) (.cond (.t 15) (.seq (.region c115r3) .ret) .skip)) (.seq (.seq (.region c115r4) (.cond (.t 18) (.seq (.region c115r5) .ret) .skip)) (.seq (.seq (.region c115r6) (.cond (.t 24) (.seq (.region c115r7) .ret) .skip)) (.seq (.region c115r8) .ret))))))
def r115 : List ARes := [.tmp 2, .tmp 3, .tmp 4]
theorem c115_ok : Tryz.f115.body.bind (cCode Tryz.prog Tryz.f115.ntmps) = some c115 := by kernel_rfl
theorem r115_ok : Tryz.f115.results.toList.mapM (cRes Tryz.prog Tryz.f115.ntmps) = some r115 := by kernel_rfl
def c116r0 : List AOper :=
 [⟨some 2, none, .mv (.c (.bool false))⟩]
def c116d0 : List (AOper × List Nat) :=
 [(⟨some 3, none, .mv (.t 0)⟩, []),
 (⟨some 4, none, .lenS (.t 3)⟩, [0]),
 (⟨some 5, none, .bin .geq (.t 4) (.c (.int .i64 4))⟩, [1]),
 (⟨some 6, none, .mv (.t 5)⟩, [2]),
 (⟨some 7, some (6, true), .mv (.t 0)⟩, [3]),
 (⟨some 8, some (6, true), .mv (.t 0)⟩, [3]),
 (⟨some 9, some (6, true), .lenS (.t 8)⟩, [5, 3]),
 (⟨some 10, some (6, true), .bin .sub (.t 9) (.c (.int .i64 4))⟩, [6, 3]),
 (⟨some 11, some (6, true), .slcS (.t 7) (some (.t 10)) none⟩, [4, 7, 3]),
 (⟨some 12, some (6, true), .mv (.t 0)⟩, [3]),
 (⟨some 13, some (6, true), .mv (.t 0)⟩, [3]),
 (⟨some 14, some (6, true), .lenS (.t 13)⟩, [10, 3]),
 (⟨some 15, some (6, true), .bin .sub (.t 14) (.c (.int .i64 4))⟩, [11, 3]),
 (⟨some 16, some (6, true), .slcS (.t 12) none (some (.t 15))⟩, [9, 12, 3]),
 (⟨some 17, some (6, true), .call (.c (.fn 119 [])) [.t 16]⟩, [13, 3, 3]),
 (⟨some 18, some (6, true), .call (.c (.fn 118 [])) [.t 17]⟩, [14, 14, 3]),
 (⟨some 19, some (6, true), .bin .eql (.t 11) (.t 18)⟩, [8, 15, 3]),
 (⟨some 20, none, .pick (.t 6) (.t 19) (.c (.bool false))⟩, [3, 16]),
 (⟨some 2, none, .mv (.t 20)⟩, [17, 15, 0, 1, 2, 3, 4, 5, 6, 7, 8, 9, 10, 11, 12, 13, 14, 15, 16, 17])]
def c116 : AC := (.seq (.region c116r0) (.seq (.drawn c116d0) .ret))
def r116 : List ARes := [.tmp 2]
theorem c116_ok : Tryz.f116.body.bind (cCode Tryz.prog Tryz.f116.ntmps) = some c116 := by kernel_rfl
theorem r116_ok : Tryz.f116.results.toList.mapM (cRes Tryz.prog Tryz.f116.ntmps) = some r116 := by kernel_rfl
def c117r0 : List AOper :=
 [⟨some 2, none, .mv (.c (.str []))⟩,
 ⟨some 3, none, .mv (.c (.int .i64 0))⟩]
def c117r1 : List AOper :=
 [⟨some 5, none, .mv (.t 0)⟩,
 ⟨some 6, none, .bin .lss (.t 5) (.c (.int .i64 0))⟩,
 ⟨some 7, none, .mv (.t 6)⟩,
 ⟨some 8, some (7, false), .mv (.t 0)⟩,
 ⟨some 9, some (7, false), .bin .gtr (.t 8) (.c (.int .i64 4611686018427387904))⟩,
 ⟨some 10, none, .pick (.t 7) (.c (.bool true)) (.t 9)⟩]
def c117r2 : List AOper :=
 [⟨some 2, none, .mv (.c (.str []))⟩,
 ⟨some 3, none, .mv (.c (.int .i64 1))⟩]
def c117r3 : List AOper :=
 [⟨some 4, none, .mv (.c .nils)⟩]
def c117r4 : List AOper :=
 [⟨some 11, none, .mv (.t 0)⟩,
 ⟨some 12, none, .bin .gtr (.t 11) (.c (.int .i64 127))⟩]
def c117r5 : List AOper :=
 [⟨some 13, none, .mv (.t 4)⟩,
 ⟨some 14, none, .mv (.t 0)⟩,
 ⟨some 15, none, .bin .and (.t 14) (.c (.int .i64 127))⟩,
 ⟨some 16, none, .bin .or (.t 15) (.c (.int .i64 128))⟩,
 ⟨some 17, none, .convI .u8 (.t 16)⟩,
 ⟨some 18, none, .bslice 1 1 [.int .u8 0] [(0, .t 17)]⟩,
 ⟨some 19, none, .append (.t 13) (.t 18) 1 1 false⟩,
 ⟨some 4, none, .mv (.t 19)⟩]
def c117r6 : List AOper :=
 [⟨some 20, none, .mv (.t 0)⟩,
 ⟨some 21, none, .bin .shr (.t 20) (.c (.int .u64 7))⟩,
 ⟨some 0, none, .mv (.t 21)⟩]
def c117l0 : AC := (.seq (.seq (.region c117r4) (.cond (.t 12) .skip (.exit 0))) (.block 1 (.seq (.region c117r5) (.region c117r6))))
def c117r7 : List AOper :=
 [⟨some 22, none, .mv (.t 4)⟩,
 ⟨some 23, none, .mv (.t 0)⟩,
 ⟨some 24, none, .convI .u8 (.t 23)⟩,
 ⟨some 25, none, .bslice 1 1 [.int .u8 0] [(0, .t 24)]⟩,
 ⟨some 26, none, .append (.t 22) (.t 25) 1 1 false⟩,
 ⟨some 27, none, .b2s (.t 26)⟩,
 ⟨some 2, none, .mv (.t 27)⟩,
 ⟨some 3, none, .mv (.c (.int .i64 0))⟩]
def c117 : AC := (.seq (.region c117r0) (.seq (.seq (.region c117r1) (.cond (.t 10) (.seq (.region c117r2) .ret) .skip)) (.seq (.region c117r3) (.seq (.block 0 (.loop c117l0)) (.seq (.region c117r7) .ret)))))
def r117 : List ARes := [.tmp 2, .tmp 3]
theorem c117_ok : Tryz.f117.body.bind (cCode Tryz.prog Tryz.f117.ntmps) = some c117 := by kernel_rfl
theorem r117_ok : Tryz.f117.results.toList.mapM (cRes Tryz.prog Tryz.f117.ntmps) = some r117 := by kernel_rfl
def c118r0 : List AOper :=
 [⟨some 2, none, .mv (.c (.str []))⟩]
def c118r1 : List AOper :=
 [⟨some 3, none, .mv (.t 0)⟩,
 ⟨some 4, none, .bin .and (.t 3) (.c (.int .i64 255))⟩,
 ⟨some 5, none, .convI .u8 (.t 4)⟩,
 ⟨some 6, none, .mv (.t 0)⟩,
 ⟨some 7, none, .bin .shr (.t 6) (.c (.int .u64 8))⟩,
 ⟨some 8, none, .bin .and (.t 7) (.c (.int .i64 255))⟩,
 ⟨some 9, none, .convI .u8 (.t 8)⟩,
 ⟨some 10, none, .mv (.t 0)⟩,
 ⟨some 11, none, .bin .shr (.t 10) (.c (.int .u64 16))⟩,
 ⟨some 12, none, .bin .and (.t 11) (.c (.int .i64 255))⟩,
 ⟨some 13, none, .convI .u8 (.t 12)⟩,
 ⟨some 14, none, .mv (.t 0)⟩,
 ⟨some 15, none, .bin .shr (.t 14) (.c (.int .u64 24))⟩,
 ⟨some 16, none, .bin .and (.t 15) (.c (.int .i64 255))⟩,
 ⟨some 17, none, .convI .u8 (.t 16)⟩,
 ⟨some 18, none, .bslice 4 1 [.int .u8 0] [(0, .t 5), (1, .t 9), (2, .t 13), (3, .t 17)]⟩,
 ⟨some 19, none, .b2s (.t 18)⟩,
 ⟨some 2, none, .mv (.t 19)⟩]
def c118 : AC := (.seq (.region c118r0) (.seq (.region c118r1) .ret))
def r118 : List ARes := [.tmp 2]
theorem c118_ok : Tryz.f118.body.bind (cCode Tryz.prog Tryz.f118.ntmps) = some c118 := by kernel_rfl
theorem r118_ok : Tryz.f118.results.toList.mapM (cRes Tryz.prog Tryz.f118.ntmps) = some r118 := by kernel_rfl
def c119r0 : List AOper :=
 [⟨some 2, none, .mv (.c (.int .i64 0))⟩]
def c119r1 : List AOper :=
 [⟨some 3, none, .mv (.t 0)⟩,
 ⟨some 4, none, .call (.c (.fn 144 [])) [.c (.int .i64 0), .t 3]⟩,
 ⟨some 2, none, .mv (.t 4)⟩]
def c119 : AC := (.seq (.region c119r0) (.seq (.region c119r1) .ret))
def r119 : List ARes := [.tmp 2]
theorem c119_ok : Tryz.f119.body.bind (cCode Tryz.prog Tryz.f119.ntmps) = some c119 := by kernel_rfl
theorem r119_ok : Tryz.f119.results.toList.mapM (cRes Tryz.prog Tryz.f119.ntmps) = some r119 := by kernel_rfl
def c131r0 : List AOper :=
 [⟨some 2, none, .mv (.c (.int .i64 0))⟩,
 ⟨some 3, none, .mv (.c (.int .i64 0))⟩,
 ⟨some 4, none, .mv (.c (.int .i64 0))⟩]
def c131r1 : List AOper :=
 [⟨some 5, none, .mv (.c (.int .i64 0))⟩]
def c131r2 : List AOper :=
 [⟨some 8, none, .mv (.c (.int .i64 0))⟩]
def c131r3 : List AOper :=
 [⟨some 9, none, .bin .lss (.t 8) (.c (.int .i64 9))⟩]
def c131r4 : List AOper :=
 [⟨some 10, none, .mv (.t 8)⟩,
 ⟨some 6, none, .mv (.t 10)⟩]
def c131r5 : List AOper :=
 [⟨some 11, none, .mv (.t 6)⟩,
 ⟨some 12, none, .mv (.t 0)⟩,
 ⟨some 13, none, .lenS (.t 12)⟩,
 ⟨some 14, none, .bin .eql (.t 11) (.t 13)⟩]
def c131r6 : List AOper :=
 [⟨some 2, none, .mv (.c (.int .i64 0))⟩,
 ⟨some 3, none, .mv (.c (.int .i64 0))⟩,
 ⟨some 4, none, .mv (.c (.int .i64 10))⟩]
def c131r7 : List AOper :=
 [⟨some 15, none, .mv (.t 0)⟩,
 ⟨some 16, none, .mv (.t 6)⟩,
 ⟨some 17, none, .idxS (.t 15) (.t 16)⟩,
 ⟨some 7, none, .mv (.t 17)⟩]
def c131r8 : List AOper :=
 [⟨some 18, none, .mv (.t 5)⟩,
 ⟨some 19, none, .mv (.t 7)⟩,
 ⟨some 20, none, .bin .and (.t 19) (.c (.int .u8 127))⟩,
 ⟨some 21, none, .convI .i64 (.t 20)⟩,
 ⟨some 22, none, .mv (.t 6)⟩,
 ⟨some 23, none, .bin .mul (.c (.int .i64 7)) (.t 22)⟩,
 ⟨some 24, none, .bin .shl (.t 21) (.t 23)⟩,
 ⟨some 25, none, .bin .or (.t 18) (.t 24)⟩,
 ⟨some 5, none, .mv (.t 25)⟩]
def c131r9 : List AOper :=
 [⟨some 26, none, .mv (.t 7)⟩,
 ⟨some 27, none, .bin .geq (.t 26) (.c (.int .u8 128))⟩]
def c131r10 : List AOper :=
 [⟨some 28, none, .mv (.t 6)⟩,
 ⟨some 29, none, .bin .gtr (.t 28) (.c (.int .i64 0))⟩,
 ⟨some 30, none, .mv (.t 29)⟩,
 ⟨some 31, some (30, true), .mv (.t 7)⟩,
 ⟨some 32, some (30, true), .bin .eql (.t 31) (.c (.int .u8 0))⟩,
 ⟨some 33, none, .pick (.t 30) (.t 32) (.c (.bool false))⟩,
 ⟨some 34, none, .mv (.t 33)⟩,
 ⟨some 35, some (34, false), .mv (.t 5)⟩,
 ⟨some 36, some (34, false), .bin .gtr (.t 35) (.c (.int .i64 4611686018427387904))⟩,
 ⟨some 37, none, .pick (.t 34) (.c (.bool true)) (.t 36)⟩]
def c131r11 : List AOper :=
 [⟨some 38, none, .mv (.t 5)⟩,
 ⟨some 39, none, .mv (.t 6)⟩,
 ⟨some 40, none, .bin .add (.t 39) (.c (.int .i64 1))⟩,
 ⟨some 2, none, .mv (.t 38)⟩,
 ⟨some 3, none, .mv (.t 40)⟩,
 ⟨some 4, none, .mv (.c (.int .i64 0))⟩]
def c131r12 : List AOper :=
 [⟨some 41, none, .bin .add (.t 8) (.c (.int .i64 1))⟩,
 ⟨some 8, none, .mv (.t 41)⟩]
def c131l0 : AC := (.seq (.region c131r3) (.seq (.cond (.t 9) .skip (.exit 0)) (.seq (.block 1 (.seq (.region c131r4) (.seq (.seq (.region c131r5) (.cond (.t 14) (.seq (.region c131r6) .ret) .skip)) (.seq (.region c131r7) (.seq (.region c131r8) (.seq (.seq (.region c131r9) (.cond (.t 27) (.exit 1) .skip)) (.seq (.seq (.region c131r10) (.cond (.t 37) (.exit 0) .skip)) (.seq (.region c131r11) .ret)))))))) (.region c131r12))))
def c131r13 : List AOper :=
 [⟨some 2, none, .mv (.c (.int .i64 0))⟩,
 ⟨some 3, none, .mv (.c (.int .i64 0))⟩,
 ⟨some 4, none, .mv (.c (.int .i64 11))⟩]
def c131 : AC := (.seq (.region c131r0) (.seq (.region c131r1) (.seq (.seq (.region c131r2) (.block 0 (.loop c131l0))) (.seq (.region c131r13) .ret))))
def r131 : List ARes := [.tmp 2, .tmp 3, .tmp 4]
theorem c131_ok : Tryz.f131.body.bind (cCode Tryz.prog Tryz.f131.ntmps) = some c131 := by kernel_rfl
theorem r131_ok : Tryz.f131.results.toList.mapM (cRes Tryz.prog Tryz.f131.ntmps) = some r131 := by kernel_rfl
def c143r0 : List AOper :=
 [⟨some 2, none, .mv (.c (.int .i64 0))⟩,
 ⟨some 3, none, .mv (.c (.int .i64 0))⟩,
 ⟨some 4, none, .mv (.c (.int .i64 0))⟩]
def c143r1 : List AOper :=
 [⟨some 5, none, .mv (.c (.int .i64 0))⟩]
def c143r2 : List AOper :=
 [⟨some 6, none, .mv (.c (.int .i64 0))⟩]
def c143r3 : List AOper :=
 [⟨some 7, none, .mv (.t 6)⟩,
 ⟨some 8, none, .bin .lss (.t 7) (.c (.int .i64 9))⟩]
def c143r4 : List AOper :=
 [⟨some 11, none, .mv (.t 6)⟩,
 ⟨some 12, none, .mv (.t 0)⟩,
 ⟨some 13, none, .lenS (.t 12)⟩,
 ⟨some 14, none, .bin .geq (.t 11) (.t 13)⟩]
def c143r5 : List AOper :=
 [⟨some 2, none, .mv (.c (.int .i64 0))⟩,
 ⟨some 3, none, .mv (.c (.int .i64 0))⟩,
 ⟨some 4, none, .mv (.c (.int .i64 10))⟩]
def c143r6 : List AOper :=
 [⟨some 15, none, .mv (.t 5)⟩,
 ⟨some 16, none, .mv (.t 0)⟩,
 ⟨some 17, none, .mv (.t 6)⟩,
 ⟨some 18, none, .idxS (.t 16) (.t 17)⟩,
 ⟨some 19, none, .bin .and (.t 18) (.c (.int .u8 127))⟩,
 ⟨some 20, none, .convI .i64 (.t 19)⟩,
 ⟨some 21, none, .mv (.t 6)⟩,
 ⟨some 22, none, .bin .mul (.c (.int .i64 7)) (.t 21)⟩,
 ⟨some 23, none, .bin .shl (.t 20) (.t 22)⟩,
 ⟨some 24, none, .bin .or (.t 15) (.t 23)⟩,
 ⟨some 5, none, .mv (.t 24)⟩]
def c143r7 : List AOper :=
 [⟨some 25, none, .mv (.t 0)⟩,
 ⟨some 26, none, .mv (.t 6)⟩,
 ⟨some 27, none, .idxS (.t 25) (.t 26)⟩,
 ⟨some 28, none, .bin .lss (.t 27) (.c (.int .u8 128))⟩]
def c143r8 : List AOper :=
 [⟨some 29, none, .mv (.t 0)⟩,
 ⟨some 30, none, .mv (.t 6)⟩,
 ⟨some 31, none, .idxS (.t 29) (.t 30)⟩,
 ⟨some 32, none, .bin .eql (.t 31) (.c (.int .u8 0))⟩,
 ⟨some 33, none, .mv (.t 32)⟩,
 ⟨some 34, some (33, true), .mv (.t 6)⟩,
 ⟨some 35, some (33, true), .bin .gtr (.t 34) (.c (.int .i64 0))⟩,
 ⟨some 36, none, .pick (.t 33) (.t 35) (.c (.bool false))⟩,
 ⟨some 37, none, .mv (.t 36)⟩,
 ⟨some 38, some (37, false), .mv (.t 5)⟩,
 ⟨some 39, some (37, false), .bin .lss (.t 38) (.c (.int .i64 0))⟩,
 ⟨some 40, none, .pick (.t 37) (.c (.bool true)) (.t 39)⟩,
 ⟨some 41, none, .mv (.t 40)⟩,
 ⟨some 42, some (41, false), .mv (.t 5)⟩,
 ⟨some 43, some (41, false), .bin .gtr (.t 42) (.c (.int .i64 4611686018427387904))⟩,
 ⟨some 44, none, .pick (.t 41) (.c (.bool true)) (.t 43)⟩]
def c143r9 : List AOper :=
 [⟨some 2, none, .mv (.c (.int .i64 0))⟩,
 ⟨some 3, none, .mv (.c (.int .i64 0))⟩,
 ⟨some 4, none, .mv (.c (.int .i64 11))⟩]
def c143r10 : List AOper :=
 [⟨some 45, none, .mv (.t 5)⟩,
 ⟨some 46, none, .mv (.t 6)⟩,
 ⟨some 47, none, .bin .add (.t 46) (.c (.int .i64 1))⟩,
 ⟨some 2, none, .mv (.t 45)⟩,
 ⟨some 3, none, .mv (.t 47)⟩,
 ⟨some 4, none, .mv (.c (.int .i64 0))⟩]
def c143r11 : List AOper :=
 [⟨some 9, none, .mv (.t 6)⟩,
 ⟨some 10, none, .bin .add (.t 9) (.c (.int .i64 1))⟩,
 ⟨some 6, none, .mv (.t 10)⟩]
def c143l0 : AC := (.seq (.seq (.region c143r3) (.cond (.t 8) .skip (.exit 0))) (.seq (.block 1 (.seq (.seq (.region c143r4) (.cond (.t 14) (.seq (.region c143r5) .ret) .skip)) (.seq (.region c143r6) (.seq (.region c143r7) (.cond (.t 28) (.seq (.seq (.region c143r8) (.cond (.t 44) (.seq (.region c143r9) .ret) .skip)) (.seq (.region c143r10) .ret)) .skip))))) (.region c143r11)))
def c143r12 : List AOper :=
 [⟨some 2, none, .mv (.c (.int .i64 0))⟩,
 ⟨some 3, none, .mv (.c (.int .i64 0))⟩,
 ⟨some 4, none, .mv (.c (.int .i64 11))⟩]
def c143 : AC := (.seq (.region c143r0) (.seq (.region c143r1) (.seq (.seq (.region c143r2) (.block 0 (.loop c143l0))) (.seq (.region c143r12) .ret))))
def r143 : List ARes := [.tmp 2, .tmp 3, .tmp 4]
theorem c143_ok : Tryz.f143.body.bind (cCode Tryz.prog Tryz.f143.ntmps) = some c143 := by kernel_rfl
theorem r143_ok : Tryz.f143.results.toList.mapM (cRes Tryz.prog Tryz.f143.ntmps) = some r143 := by kernel_rfl
end Go.Proofs.YtkidkiapfjhkeaaGreatDoor
