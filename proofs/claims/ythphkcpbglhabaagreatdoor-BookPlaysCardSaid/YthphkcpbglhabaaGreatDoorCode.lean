/-
  The abstract code of some functions: written by a program (wip/tools/gen.py); held against the translation by Lean.
-/
import Derived.Test.YthphkcpbglhabaaGreatDoorProg
import Derived.Test.YthphkcpbglhabaaGreatDoorSx7
import Derived.KernelRfl
namespace Go.Proofs.YthphkcpbglhabaaGreatDoor
open Sx Go
set_option maxRecDepth 100000
def c3r0 : List AOper :=
 [⟨some 6, none, .mv (.c (.bool false))⟩]
def c3r1 : List AOper :=
 [⟨some 16, none, .call (.c (.fn 8 [])) []⟩,
 ⟨some 7, none, .mv (.t 16)⟩]
def c3r2 : List AOper :=
 [⟨some 18, none, .mv (.t 7)⟩,
 ⟨some 19, none, .call (.c (.fn 9 [])) [.t 18]⟩,
 ⟨some 17, none, .mv (.t 19)⟩,
 ⟨some 20, none, .ext (.t 17) 0⟩,
 ⟨some 21, none, .ext (.t 17) 1⟩,
 ⟨some 8, none, .mv (.t 20)⟩,
 ⟨some 9, none, .mv (.t 21)⟩]
def c3r3 : List AOper :=
 [⟨some 22, none, .mv (.t 9)⟩,
 ⟨some 23, none, .bin .neq (.t 22) (.c (.int .i64 0))⟩,
 ⟨some 24, none, .mv (.t 23)⟩,
 ⟨some 25, some (24, false), .mv (.t 8)⟩,
 ⟨some 26, some (24, false), .eq false 1 (.t 25) (.c .nilp)⟩,
 ⟨some 27, none, .pick (.t 24) (.c (.bool true)) (.t 26)⟩,
 ⟨some 28, none, .mv (.t 27)⟩,
 ⟨some 29, some (28, false), .mv (.t 2)⟩,
 ⟨some 30, some (28, false), .lenL (.t 29)⟩,
 ⟨some 31, some (28, false), .bin .gtr (.t 30) (.c (.int .i64 70))⟩,
 ⟨some 32, none, .pick (.t 28) (.c (.bool true)) (.t 31)⟩]
def c3r4 : List AOper :=
 [⟨some 33, none, .mv (.t 9)⟩,
 ⟨some 34, none, .bin .eql (.t 33) (.c (.int .i64 0))⟩,
 ⟨some 35, none, .mv (.t 34)⟩,
 ⟨some 36, some (35, true), .mv (.t 8)⟩,
 ⟨some 37, some (35, true), .eq true 1 (.t 36) (.c .nilp)⟩,
 ⟨some 38, none, .pick (.t 35) (.t 37) (.c (.bool false))⟩,
 ⟨some 39, none, .mv (.t 38)⟩,
 ⟨some 40, some (39, true), .call (.c (.fn 10 [])) []⟩,
 ⟨some 41, none, .pick (.t 39) (.t 40) (.c (.bool false))⟩,
 ⟨some 6, none, .mv (.t 41)⟩]
def c3r5 : List AOper :=
 [⟨some 42, none, .mv (.t 8)⟩,
 ⟨some 43, none, .mv (.t 0)⟩,
 ⟨some 44, none, .mv (.t 2)⟩,
 ⟨some 45, none, .call (.c (.fn 11 [])) [.t 42, .t 43, .t 44]⟩,
 ⟨some 10, none, .mv (.t 45)⟩]
def c3r6 : List AOper :=
 [⟨some 46, none, .mv (.t 10)⟩,
 ⟨some 47, none, .bin .neq (.t 46) (.c (.int .i64 0))⟩]
def c3r7 : List AOper :=
 [⟨some 48, none, .mv (.t 10)⟩,
 ⟨some 49, none, .bin .eql (.t 48) (.c (.int .i64 1))⟩,
 ⟨some 50, none, .mv (.t 49)⟩,
 ⟨some 51, some (50, true), .mv (.t 8)⟩,
 ⟨some 52, some (50, true), .call (.c (.fn 12 [])) [.t 51]⟩,
 ⟨some 53, some (50, true), .bin .eql (.t 52) (.c (.int .i64 0))⟩,
 ⟨some 54, none, .pick (.t 50) (.t 53) (.c (.bool false))⟩,
 ⟨some 55, none, .mv (.t 54)⟩,
 ⟨some 56, some (55, true), .mv (.t 8)⟩,
 ⟨some 57, some (55, true), .call (.c (.fn 13 [])) [.t 56]⟩,
 ⟨some 58, some (55, true), .lenL (.t 57)⟩,
 ⟨some 59, some (55, true), .bin .eql (.t 58) (.c (.int .i64 0))⟩,
 ⟨some 60, none, .pick (.t 55) (.t 59) (.c (.bool false))⟩,
 ⟨some 61, none, .mv (.t 60)⟩,
 ⟨some 62, some (61, true), .call (.c (.fn 10 [])) []⟩,
 ⟨some 63, none, .pick (.t 61) (.t 62) (.c (.bool false))⟩,
 ⟨some 6, none, .mv (.t 63)⟩]
def c3r8 : List AOper :=
 [⟨some 64, none, .mv (.t 8)⟩,
 ⟨some 65, none, .call (.c (.fn 12 [])) [.t 64]⟩,
 ⟨some 66, none, .mv (.t 0)⟩,
 ⟨some 67, none, .bin .neq (.t 65) (.t 66)⟩,
 ⟨some 68, none, .mv (.t 67)⟩,
 ⟨some 69, some (68, false), .mv (.t 8)⟩,
 ⟨some 70, some (68, false), .call (.c (.fn 13 [])) [.t 69]⟩,
 ⟨some 71, some (68, false), .mv (.t 2)⟩,
 ⟨some 72, some (68, false), .call (.c (.fn 14 [])) [.t 70, .t 71]⟩,
 ⟨some 73, some (68, false), .un .not (.t 72)⟩,
 ⟨some 74, none, .pick (.t 68) (.c (.bool true)) (.t 73)⟩]
def c3r9 : List AOper :=
 [⟨some 6, none, .mv (.c (.bool false))⟩]
def c3r10 : List AOper :=
 [⟨some 75, none, .mv (.t 8)⟩,
 ⟨some 76, none, .mv (.t 1)⟩,
 ⟨some 77, none, .call (.c (.fn 11 [])) [.t 75, .t 76, .c .nils]⟩,
 ⟨some 11, none, .mv (.t 77)⟩]
def c3r11 : List AOper :=
 [⟨some 78, none, .mv (.t 1)⟩,
 ⟨some 12, none, .mv (.t 78)⟩,
 ⟨some 13, none, .mv (.c (.int .i64 0))⟩]
def c3r12 : List AOper :=
 [⟨some 79, none, .mv (.t 1)⟩,
 ⟨some 80, none, .mv (.t 0)⟩,
 ⟨some 81, none, .bin .lss (.t 79) (.t 80)⟩,
 ⟨some 82, none, .mv (.t 81)⟩,
 ⟨some 83, some (82, false), .mv (.t 1)⟩,
 ⟨some 84, some (82, false), .bin .gtr (.t 83) (.c (.int .i64 1099511627775))⟩,
 ⟨some 85, none, .pick (.t 82) (.c (.bool true)) (.t 84)⟩]
def c3r13 : List AOper :=
 [⟨some 86, none, .mv (.t 0)⟩,
 ⟨some 87, none, .mv (.t 2)⟩,
 ⟨some 88, none, .lenL (.t 87)⟩,
 ⟨some 12, none, .mv (.t 86)⟩,
 ⟨some 13, none, .mv (.t 88)⟩]
def c3r14 : List AOper :=
 [⟨some 89, none, .mv (.t 11)⟩,
 ⟨some 90, none, .bin .eql (.t 89) (.c (.int .i64 0))⟩,
 ⟨some 91, none, .mv (.t 12)⟩,
 ⟨some 92, none, .mv (.t 1)⟩,
 ⟨some 93, none, .bin .eql (.t 91) (.t 92)⟩,
 ⟨some 94, none, .mv (.t 93)⟩,
 ⟨some 95, some (94, true), .mv (.t 13)⟩,
 ⟨some 96, some (94, true), .bin .eql (.t 95) (.c (.int .i64 0))⟩,
 ⟨some 97, none, .pick (.t 94) (.t 96) (.c (.bool false))⟩,
 ⟨some 98, none, .mv (.t 97)⟩,
 ⟨some 99, some (98, true), .mv (.t 1)⟩,
 ⟨some 100, some (98, true), .mv (.t 0)⟩,
 ⟨some 101, some (98, true), .bin .geq (.t 99) (.t 100)⟩,
 ⟨some 102, none, .pick (.t 98) (.t 101) (.c (.bool false))⟩,
 ⟨some 103, none, .mv (.t 102)⟩,
 ⟨some 104, some (103, true), .mv (.t 1)⟩,
 ⟨some 105, some (103, true), .bin .leq (.t 104) (.c (.int .i64 1099511627775))⟩,
 ⟨some 106, none, .pick (.t 103) (.t 105) (.c (.bool false))⟩,
 ⟨some 107, none, .eq true 0 (.t 90) (.t 106)⟩,
 ⟨some 108, none, .mv (.t 107)⟩,
 ⟨some 109, some (108, false), .mv (.t 7)⟩,
 ⟨some 110, some (108, false), .call (.c (.fn 15 [])) [.t 109, .c .nils]⟩,
 ⟨some 111, some (108, false), .bin .neq (.t 110) (.c (.int .i64 0))⟩,
 ⟨some 112, none, .pick (.t 108) (.c (.bool true)) (.t 111)⟩]
def c3r15 : List AOper :=
 [⟨some 6, none, .mv (.c (.bool false))⟩]
def c3r16 : List AOper :=
 [⟨some 114, none, .mv (.t 7)⟩,
 ⟨some 115, none, .call (.c (.fn 9 [])) [.t 114]⟩,
 ⟨some 113, none, .mv (.t 115)⟩,
 ⟨some 116, none, .ext (.t 113) 0⟩,
 ⟨some 117, none, .ext (.t 113) 1⟩,
 ⟨some 14, none, .mv (.t 116)⟩,
 ⟨some 15, none, .mv (.t 117)⟩]
def c3r17 : List AOper :=
 [⟨some 118, none, .mv (.t 15)⟩,
 ⟨some 119, none, .bin .eql (.t 118) (.c (.int .i64 0))⟩,
 ⟨some 120, none, .mv (.t 119)⟩,
 ⟨some 121, some (120, true), .mv (.t 14)⟩,
 ⟨some 122, some (120, true), .eq true 1 (.t 121) (.c .nilp)⟩,
 ⟨some 123, none, .pick (.t 120) (.t 122) (.c (.bool false))⟩,
 ⟨some 124, none, .mv (.t 123)⟩,
 ⟨some 125, some (124, true), .mv (.t 14)⟩,
 ⟨some 126, some (124, true), .call (.c (.fn 12 [])) [.t 125]⟩,
 ⟨some 127, some (124, true), .mv (.t 12)⟩,
 ⟨some 128, some (124, true), .bin .eql (.t 126) (.t 127)⟩,
 ⟨some 129, none, .pick (.t 124) (.t 128) (.c (.bool false))⟩,
 ⟨some 130, none, .mv (.t 129)⟩,
 ⟨some 131, some (130, true), .mv (.t 14)⟩,
 ⟨some 132, some (130, true), .call (.c (.fn 13 [])) [.t 131]⟩,
 ⟨some 133, some (130, true), .lenL (.t 132)⟩,
 ⟨some 134, some (130, true), .mv (.t 13)⟩,
 ⟨some 135, some (130, true), .bin .eql (.t 133) (.t 134)⟩,
 ⟨some 136, none, .pick (.t 130) (.t 135) (.c (.bool false))⟩,
 ⟨some 137, none, .mv (.t 136)⟩,
 ⟨some 138, some (137, true), .call (.c (.fn 10 [])) []⟩,
 ⟨some 139, none, .pick (.t 137) (.t 138) (.c (.bool false))⟩,
 ⟨some 6, none, .mv (.t 139)⟩]
def c3 : AC := (.seq (.region c3r0) (.seq (.region c3r1) (.seq (.region c3r2) (.seq (.seq (.region c3r3) (.cond (.t 32) (.seq (.region c3r4) .ret) .skip)) (.seq (.region c3r5) (.seq (.seq (.region c3r6) (.cond (.t 47) (.seq (.region c3r7) .ret) .skip)) (.seq (.seq (.region c3r8) (.cond (.t 74) (.seq (.region c3r9) .ret) .skip)) (.seq (.region c3r10) (.seq (.region c3r11) (.seq (.seq (.region c3r12) (.cond (.t 85) (.region c3r13) .skip)) (.seq (.seq (.region c3r14) (.cond (.t 112) (.seq (.region c3r15) .ret) .skip)) (.seq (.region c3r16) (.seq (.region c3r17) .ret)))))))))))))
def r3 : List ARes := [.tmp 6]
theorem c3_ok : Tryz.f3.body.bind (cCode Tryz.prog Tryz.f3.ntmps) = some c3 := by kernel_rfl
theorem r3_ok : Tryz.f3.results.toList.mapM (cRes Tryz.prog Tryz.f3.ntmps) = some r3 := by kernel_rfl
def c4r0 : List AOper :=
 [⟨some 2, none, .mv (.c (.bool false))⟩]
def c4r1 : List AOper :=
 [⟨some 16, none, .call (.c (.fn 8 [])) []⟩,
 ⟨some 3, none, .mv (.t 16)⟩]
def c4r2 : List AOper :=
 [⟨some 18, none, .mv (.t 3)⟩,
 ⟨some 19, none, .call (.c (.fn 9 [])) [.t 18]⟩,
 ⟨some 17, none, .mv (.t 19)⟩,
 ⟨some 20, none, .ext (.t 17) 0⟩,
 ⟨some 21, none, .ext (.t 17) 1⟩,
 ⟨some 4, none, .mv (.t 20)⟩,
 ⟨some 5, none, .mv (.t 21)⟩]
def c4r3 : List AOper :=
 [⟨some 22, none, .mv (.t 5)⟩,
 ⟨some 23, none, .bin .neq (.t 22) (.c (.int .i64 0))⟩,
 ⟨some 24, none, .mv (.t 23)⟩,
 ⟨some 25, some (24, false), .mv (.t 4)⟩,
 ⟨some 26, some (24, false), .eq false 1 (.t 25) (.c .nilp)⟩,
 ⟨some 27, none, .pick (.t 24) (.c (.bool true)) (.t 26)⟩]
def c4r4 : List AOper :=
 [⟨some 2, none, .mv (.c (.bool false))⟩]
def c4r5 : List AOper :=
 [⟨some 28, none, .build [.int .i64 0, .nils] []⟩,
 ⟨some 6, none, .alloc [.int .i64 0, .nils]⟩,
 ⟨none, none, .store (.t 6) (.t 28) 2⟩]
def c4r6 : List AOper :=
 [⟨some 7, none, .mv (.c (.int .i64 0))⟩]
def c4r7 : List AOper :=
 [⟨some 29, none, .mv (.t 7)⟩,
 ⟨some 30, none, .mv (.t 0)⟩,
 ⟨some 31, none, .lenL (.t 30)⟩,
 ⟨some 32, none, .bin .lss (.t 29) (.t 31)⟩,
 ⟨some 33, none, .mv (.t 32)⟩,
 ⟨some 34, some (33, true), .mv (.t 7)⟩,
 ⟨some 35, some (33, true), .bin .lss (.t 34) (.c (.int .i64 80))⟩,
 ⟨some 36, none, .pick (.t 33) (.t 35) (.c (.bool false))⟩]
def c4r8 : List AOper :=
 [⟨some 39, none, .mv (.t 0)⟩,
 ⟨some 40, none, .mv (.t 7)⟩,
 ⟨some 41, none, .idxA (.t 39) (.t 40) none 4⟩,
 ⟨some 42, none, .load (.t 41) (some 4)⟩,
 ⟨some 8, none, .alloc [.int .i64 0, .int .i64 0, .nils, .nils]⟩,
 ⟨none, none, .store (.t 8) (.t 42) 4⟩]
def c4r9 : List AOper :=
 [⟨some 43, none, .fldA (.t 8) 2⟩,
 ⟨some 44, none, .load (.t 43) none⟩,
 ⟨some 45, none, .lenL (.t 44)⟩,
 ⟨some 46, none, .bin .gtr (.t 45) (.c (.int .i64 70))⟩,
 ⟨some 47, none, .mv (.t 46)⟩,
 ⟨some 48, some (47, false), .fldA (.t 8) 3⟩,
 ⟨some 49, some (47, false), .load (.t 48) none⟩,
 ⟨some 50, some (47, false), .lenL (.t 49)⟩,
 ⟨some 51, some (47, false), .bin .gtr (.t 50) (.c (.int .i64 10))⟩,
 ⟨some 52, none, .pick (.t 47) (.c (.bool true)) (.t 51)⟩]
def c4r10 : List AOper :=
 [⟨some 53, none, .call (.c (.fn 10 [])) []⟩,
 ⟨some 2, none, .mv (.t 53)⟩]
def c4r11 : List AOper :=
 [⟨some 54, none, .load (.t 6) (some 2)⟩,
 ⟨some 9, none, .alloc [.int .i64 0, .nils]⟩,
 ⟨none, none, .store (.t 9) (.t 54) 2⟩]
def c4r12 : List AOper :=
 [⟨some 55, none, .fldA (.t 8) 0⟩,
 ⟨some 56, none, .load (.t 55) none⟩,
 ⟨some 57, none, .bin .neq (.t 56) (.c (.int .i64 1))⟩,
 ⟨some 58, none, .mv (.t 57)⟩,
 ⟨some 59, some (58, true), .fldA (.t 8) 0⟩,
 ⟨some 60, some (58, true), .load (.t 59) none⟩,
 ⟨some 61, some (58, true), .bin .neq (.t 60) (.c (.int .i64 2))⟩,
 ⟨some 62, none, .pick (.t 58) (.t 61) (.c (.bool false))⟩,
 ⟨some 10, none, .mv (.t 62)⟩]
def c4r13 : List AOper :=
 [⟨some 63, none, .fldA (.t 8) 0⟩,
 ⟨some 64, none, .load (.t 63) none⟩]
def c4r14 : List AOper :=
 [⟨some 66, none, .bin .eql (.t 64) (.c (.int .i64 1))⟩,
 ⟨some 65, none, .mv (.t 66)⟩]
def c4r15 : List AOper :=
 [⟨some 68, none, .load (.t 6) (some 2)⟩,
 ⟨some 69, none, .fldA (.t 8) 1⟩,
 ⟨some 70, none, .load (.t 69) none⟩,
 ⟨some 71, none, .fldA (.t 8) 2⟩,
 ⟨some 72, none, .load (.t 71) none⟩,
 ⟨some 73, none, .call (.c (.fn 16 [])) [.t 68, .t 70, .t 72]⟩,
 ⟨some 67, none, .mv (.t 73)⟩,
 ⟨some 74, none, .ext (.t 67) 0⟩,
 ⟨some 75, none, .ext (.t 67) 1⟩,
 ⟨some 11, none, .alloc [.int .i64 0, .nils]⟩,
 ⟨none, none, .store (.t 11) (.t 74) 2⟩,
 ⟨some 12, none, .mv (.t 75)⟩]
def c4r16 : List AOper :=
 [⟨some 76, none, .mv (.t 4)⟩,
 ⟨some 77, none, .fldA (.t 8) 1⟩,
 ⟨some 78, none, .load (.t 77) none⟩,
 ⟨some 79, none, .fldA (.t 8) 2⟩,
 ⟨some 80, none, .load (.t 79) none⟩,
 ⟨some 81, none, .call (.c (.fn 11 [])) [.t 76, .t 78, .t 80]⟩,
 ⟨some 13, none, .mv (.t 81)⟩]
def c4r17 : List AOper :=
 [⟨some 82, none, .mv (.t 13)⟩,
 ⟨some 83, none, .bin .eql (.t 82) (.c (.int .i64 50))⟩,
 ⟨some 84, none, .mv (.t 83)⟩,
 ⟨some 85, some (84, true), .mv (.t 3)⟩,
 ⟨some 86, some (84, true), .call (.c (.fn 17 [])) [.t 85]⟩,
 ⟨some 87, none, .pick (.t 84) (.t 86) (.c (.bool false))⟩,
 ⟨some 10, none, .mv (.t 87)⟩]
def c4r18 : List AOper :=
 [⟨some 88, none, .mv (.t 10)⟩,
 ⟨some 89, none, .un .not (.t 88)⟩,
 ⟨some 90, none, .mv (.t 89)⟩,
 ⟨some 91, some (90, true), .mv (.t 13)⟩,
 ⟨some 92, some (90, true), .mv (.t 12)⟩,
 ⟨some 93, some (90, true), .bin .neq (.t 91) (.t 92)⟩,
 ⟨some 94, none, .pick (.t 90) (.t 93) (.c (.bool false))⟩]
def c4r19 : List AOper :=
 [⟨some 2, none, .mv (.c (.bool false))⟩]
def c4r20 : List AOper :=
 [⟨some 95, none, .mv (.t 10)⟩,
 ⟨some 96, none, .mv (.t 95)⟩,
 ⟨some 97, some (96, true), .mv (.t 12)⟩,
 ⟨some 98, some (96, true), .bin .neq (.t 97) (.c (.int .i64 0))⟩,
 ⟨some 99, none, .pick (.t 96) (.t 98) (.c (.bool false))⟩]
def c4r21 : List AOper :=
 [⟨some 2, none, .mv (.c (.bool false))⟩]
def c4r22 : List AOper :=
 [⟨some 100, none, .load (.t 11) (some 2)⟩,
 ⟨none, none, .store (.t 9) (.t 100) 2⟩]
def c4r23 : List AOper :=
 [⟨some 101, none, .mv (.t 10)⟩,
 ⟨some 102, none, .un .not (.t 101)⟩]
def c4r24 : List AOper :=
 [⟨some 103, none, .load (.t 11) (some 2)⟩,
 ⟨none, none, .store (.t 6) (.t 103) 2⟩]
def c4r25 : List AOper :=
 [⟨some 105, none, .bin .eql (.t 64) (.c (.int .i64 2))⟩,
 ⟨some 104, none, .mv (.t 105)⟩]
def c4r26 : List AOper :=
 [⟨some 106, none, .mv (.t 3)⟩,
 ⟨some 107, none, .fldA (.t 8) 1⟩,
 ⟨some 108, none, .load (.t 107) none⟩,
 ⟨some 109, none, .bin .and (.t 108) (.c (.int .i64 15))⟩,
 ⟨some 110, none, .call (.c (.fn 18 [])) [.t 106, .t 109]⟩,
 ⟨some 111, none, .bin .neq (.t 110) (.c (.int .i64 0))⟩]
def c4r27 : List AOper :=
 [⟨some 2, none, .mv (.c (.bool false))⟩]
def c4r28 : List AOper :=
 [⟨some 112, none, .mv (.t 10)⟩]
def c4r29 : List AOper :=
 [⟨some 113, none, .mv (.t 3)⟩,
 ⟨some 114, none, .fldA (.t 8) 3⟩,
 ⟨some 115, none, .load (.t 114) none⟩,
 ⟨some 116, none, .call (.c (.fn 15 [])) [.t 113, .t 115]⟩,
 ⟨some 117, none, .bin .neq (.t 116) (.c (.int .i64 0))⟩]
def c4r30 : List AOper :=
 [⟨some 2, none, .mv (.c (.bool false))⟩]
def c4r31 : List AOper :=
 [⟨some 119, none, .mv (.t 3)⟩,
 ⟨some 120, none, .call (.c (.fn 9 [])) [.t 119]⟩,
 ⟨some 118, none, .mv (.t 120)⟩,
 ⟨some 121, none, .ext (.t 118) 0⟩,
 ⟨some 122, none, .ext (.t 118) 1⟩,
 ⟨some 14, none, .mv (.t 121)⟩,
 ⟨some 15, none, .mv (.t 122)⟩]
def c4r32 : List AOper :=
 [⟨some 123, none, .mv (.t 15)⟩,
 ⟨some 124, none, .bin .neq (.t 123) (.c (.int .i64 0))⟩,
 ⟨some 125, none, .mv (.t 124)⟩,
 ⟨some 126, some (125, false), .mv (.t 14)⟩,
 ⟨some 127, some (125, false), .eq false 1 (.t 126) (.c .nilp)⟩,
 ⟨some 128, none, .pick (.t 125) (.c (.bool true)) (.t 127)⟩]
def c4r33 : List AOper :=
 [⟨some 2, none, .mv (.c (.bool false))⟩]
def c4r34 : List AOper :=
 [⟨some 129, none, .mv (.t 14)⟩,
 ⟨some 4, none, .mv (.t 129)⟩]
def c4d0 : List (AOper × List Nat) :=
 [(⟨some 130, none, .mv (.t 4)⟩, []),
 (⟨some 131, none, .call (.c (.fn 12 [])) [.t 130]⟩, [0]),
 (⟨some 132, none, .fldA (.t 6) 0⟩, []),
 (⟨some 133, none, .load (.t 132) none⟩, [2]),
 (⟨some 134, none, .bin .neq (.t 131) (.t 133)⟩, [1, 3]),
 (⟨some 135, none, .mv (.t 134)⟩, [4, 1]),
 (⟨some 136, some (135, false), .mv (.t 4)⟩, [5]),
 (⟨some 137, some (135, false), .call (.c (.fn 13 [])) [.t 136]⟩, [6, 5, 5]),
 (⟨some 138, some (135, false), .fldA (.t 6) 1⟩, [5]),
 (⟨some 139, some (135, false), .load (.t 138) none⟩, [8, 5]),
 (⟨some 140, some (135, false), .call (.c (.fn 14 [])) [.t 137, .t 139]⟩, [7, 9, 7, 5]),
 (⟨some 141, some (135, false), .un .not (.t 140)⟩, [10, 5]),
 (⟨some 142, none, .pick (.t 135) (.c (.bool true)) (.t 141)⟩, [5, 11])]
def c4r35 : List AOper :=
 [⟨some 143, none, .load (.t 9) (some 2)⟩,
 ⟨none, none, .store (.t 6) (.t 143) 2⟩]
def c4d1 : List (AOper × List Nat) :=
 [(⟨some 144, none, .mv (.t 4)⟩, []),
 (⟨some 145, none, .call (.c (.fn 12 [])) [.t 144]⟩, [0]),
 (⟨some 146, none, .fldA (.t 6) 0⟩, []),
 (⟨some 147, none, .load (.t 146) none⟩, [2]),
 (⟨some 148, none, .bin .neq (.t 145) (.t 147)⟩, [1, 3]),
 (⟨some 149, none, .mv (.t 148)⟩, [4, 1]),
 (⟨some 150, some (149, false), .mv (.t 4)⟩, [5]),
 (⟨some 151, some (149, false), .call (.c (.fn 13 [])) [.t 150]⟩, [6, 5, 5]),
 (⟨some 152, some (149, false), .fldA (.t 6) 1⟩, [5]),
 (⟨some 153, some (149, false), .load (.t 152) none⟩, [8, 5]),
 (⟨some 154, some (149, false), .call (.c (.fn 14 [])) [.t 151, .t 153]⟩, [7, 9, 7, 5]),
 (⟨some 155, some (149, false), .un .not (.t 154)⟩, [10, 5]),
 (⟨some 156, none, .pick (.t 149) (.c (.bool true)) (.t 155)⟩, [5, 11])]
def c4r36 : List AOper :=
 [⟨some 2, none, .mv (.c (.bool false))⟩]
def c4r37 : List AOper :=
 [⟨some 37, none, .mv (.t 7)⟩,
 ⟨some 38, none, .bin .add (.t 37) (.c (.int .i64 1))⟩,
 ⟨some 7, none, .mv (.t 38)⟩]
def c4l0 : AC := (.seq (.seq (.region c4r7) (.cond (.t 36) .skip (.exit 0))) (.seq (.block 1 (.seq (.region c4r8) (.seq (.seq (.region c4r9) (.cond (.t 52) (.seq (.region c4r10) .ret) .skip)) (.seq (.region c4r11) (.seq (.region c4r12) (.seq (.seq (.region c4r13) (.block 2 (.seq (.region c4r14) (.cond (.t 65) (.seq (.region c4r15) (.seq (.region c4r16) (.seq (.region c4r17) (.seq (.seq (.region c4r18) (.cond (.t 94) (.seq (.region c4r19) .ret) .skip)) (.seq (.seq (.region c4r20) (.cond (.t 99) (.seq (.region c4r21) .ret) .skip)) (.seq (.region c4r22) (.seq (.region c4r23) (.cond (.t 102) (.region c4r24) .skip)))))))) (.seq (.region c4r25) (.cond (.t 104) (.seq (.region c4r26) (.cond (.t 111) (.seq (.region c4r27) .ret) .skip)) .skip)))))) (.seq (.seq (.region c4r28) (.cond (.t 112) (.seq (.seq (.region c4r29) (.cond (.t 117) (.seq (.region c4r30) .ret) .skip)) (.seq (.region c4r31) (.seq (.seq (.region c4r32) (.cond (.t 128) (.seq (.region c4r33) .ret) .skip)) (.seq (.region c4r34) (.seq (.drawn c4d0) (.cond (.t 142) (.region c4r35) .skip)))))) .skip)) (.seq (.drawn c4d1) (.cond (.t 156) (.seq (.region c4r36) .ret) .skip))))))))) (.region c4r37)))
def c4r38 : List AOper :=
 [⟨some 157, none, .call (.c (.fn 10 [])) []⟩,
 ⟨some 2, none, .mv (.t 157)⟩]
def c4 : AC := (.seq (.region c4r0) (.seq (.region c4r1) (.seq (.region c4r2) (.seq (.seq (.region c4r3) (.cond (.t 27) (.seq (.region c4r4) .ret) .skip)) (.seq (.region c4r5) (.seq (.seq (.region c4r6) (.block 0 (.loop c4l0))) (.seq (.region c4r38) .ret)))))))
def r4 : List ARes := [.tmp 2]
theorem c4_ok : Tryz.f4.body.bind (cCode Tryz.prog Tryz.f4.ntmps) = some c4 := by kernel_rfl
theorem r4_ok : Tryz.f4.results.toList.mapM (cRes Tryz.prog Tryz.f4.ntmps) = some r4 := by kernel_rfl
def c8r0 : List AOper :=
 [⟨some 0, none, .mv (.c .nilp)⟩]
def c8r1 : List AOper :=
 [⟨some 1, none, .mkm⟩,
 ⟨some 2, none, .build [.nilm, .int .i64 0, .bool false] [(0, 1, .t 1), (1, 1, .c (.int .i64 (-1)))]⟩,
 ⟨some 3, none, .box (.t 2)⟩,
 ⟨some 0, none, .mv (.t 3)⟩]
def c8 : AC := (.seq (.region c8r0) (.seq (.region c8r1) .ret))
def r8 : List ARes := [.tmp 0]
theorem c8_ok : Tryz.f8.body.bind (cCode Tryz.prog Tryz.f8.ntmps) = some c8 := by kernel_rfl
theorem r8_ok : Tryz.f8.results.toList.mapM (cRes Tryz.prog Tryz.f8.ntmps) = some r8 := by kernel_rfl
def c9r0 : List AOper :=
 [⟨some 2, none, .mv (.c .nilp)⟩,
 ⟨some 3, none, .mv (.c (.int .i64 0))⟩]
def c9r1 : List AOper :=
 [⟨some 12, none, .mv (.t 0)⟩,
 ⟨some 13, none, .call (.c (.fn 34 [])) [.t 12, .c (.int .i64 0)]⟩,
 ⟨some 11, none, .mv (.t 13)⟩,
 ⟨some 14, none, .ext (.t 11) 0⟩,
 ⟨some 15, none, .ext (.t 11) 1⟩,
 ⟨some 4, none, .mv (.t 14)⟩,
 ⟨some 5, none, .mv (.t 15)⟩]
def c9r2 : List AOper :=
 [⟨some 16, none, .mv (.t 5)⟩,
 ⟨some 17, none, .bin .neq (.t 16) (.c (.int .i64 0))⟩]
def c9r3 : List AOper :=
 [⟨some 18, none, .mv (.t 5)⟩,
 ⟨some 2, none, .mv (.c .nilp)⟩,
 ⟨some 3, none, .mv (.t 18)⟩]
def c9r4 : List AOper :=
 [⟨some 19, none, .mv (.t 4)⟩,
 ⟨some 20, none, .build [.nilp, .int .i64 0, .nils, .int .i64 0] [(0, 1, .t 19)]⟩,
 ⟨some 21, none, .box (.t 20)⟩,
 ⟨some 6, none, .mv (.t 21)⟩]
def c9r5 : List AOper :=
 [⟨some 22, none, .mv (.t 4)⟩,
 ⟨some 23, none, .call (.c (.fn 35 [])) [.t 22]⟩,
 ⟨some 7, none, .mv (.t 23)⟩]
def c9r6 : List AOper :=
 [⟨some 24, none, .mv (.t 7)⟩,
 ⟨some 25, none, .lenL (.t 24)⟩,
 ⟨some 26, none, .mv (.c (.int .i64 0))⟩]
def c9r7 : List AOper :=
 [⟨some 27, none, .bin .lss (.t 26) (.t 25)⟩]
def c9r8 : List AOper :=
 [⟨some 28, none, .idxA (.t 24) (.t 26) none 1⟩,
 ⟨some 29, none, .load (.t 28) none⟩,
 ⟨some 9, none, .mv (.t 29)⟩]
def c9r9 : List AOper :=
 [⟨some 10, none, .mv (.c (.bool false))⟩]
def c9r10 : List AOper :=
 [⟨some 31, none, .mv (.t 6)⟩,
 ⟨some 32, none, .mv (.t 6)⟩,
 ⟨some 33, none, .mv (.t 9)⟩,
 ⟨some 34, none, .call (.c (.fn 36 [])) [.t 33]⟩,
 ⟨some 30, none, .mv (.t 34)⟩,
 ⟨some 35, none, .ext (.t 30) 0⟩,
 ⟨some 36, none, .ext (.t 30) 1⟩,
 ⟨some 37, none, .ext (.t 30) 2⟩,
 ⟨some 38, none, .nilck (.t 31)⟩,
 ⟨some 39, none, .fldA (.t 38) 1⟩,
 ⟨none, none, .store (.t 39) (.t 35) 1⟩,
 ⟨some 40, none, .nilck (.t 32)⟩,
 ⟨some 41, none, .fldA (.t 40) 2⟩,
 ⟨none, none, .store (.t 41) (.t 36) 1⟩,
 ⟨some 10, none, .mv (.t 37)⟩]
def c9r11 : List AOper :=
 [⟨some 42, none, .mv (.t 10)⟩,
 ⟨some 43, none, .un .not (.t 42)⟩]
def c9r12 : List AOper :=
 [⟨some 2, none, .mv (.c .nilp)⟩,
 ⟨some 3, none, .mv (.c (.int .i64 1))⟩]
def c9r13 : List AOper :=
 [⟨some 44, none, .bin .add (.t 26) (.c (.int .i64 1))⟩,
 ⟨some 26, none, .mv (.t 44)⟩]
def c9l0 : AC := (.seq (.region c9r7) (.seq (.cond (.t 27) .skip (.exit 0)) (.seq (.block 1 (.seq (.region c9r8) (.seq (.region c9r9) (.seq (.region c9r10) (.seq (.region c9r11) (.cond (.t 43) (.seq (.region c9r12) .ret) .skip)))))) (.region c9r13))))
def c9r14 : List AOper :=
 [⟨some 45, none, .mv (.t 7)⟩,
 ⟨some 46, none, .lenL (.t 45)⟩,
 ⟨some 47, none, .bin .gtr (.t 46) (.c (.int .i64 0))⟩]
def c9r15 : List AOper :=
 [⟨some 48, none, .mv (.t 6)⟩,
 ⟨some 49, none, .call (.c (.fn 37 [])) [.t 48]⟩,
 ⟨some 5, none, .mv (.t 49)⟩]
def c9r16 : List AOper :=
 [⟨some 50, none, .mv (.t 5)⟩,
 ⟨some 51, none, .bin .eql (.t 50) (.c (.int .i64 0))⟩]
def c9r17 : List AOper :=
 [⟨some 52, none, .mv (.t 4)⟩,
 ⟨some 53, none, .mv (.t 4)⟩,
 ⟨some 54, none, .call (.c (.fn 39 [])) [.t 53]⟩,
 ⟨some 55, none, .call (.c (.fn 38 [])) [.t 52, .t 54]⟩,
 ⟨some 5, none, .mv (.t 55)⟩]
def c9r18 : List AOper :=
 [⟨some 56, none, .mv (.t 5)⟩,
 ⟨some 57, none, .bin .neq (.t 56) (.c (.int .i64 0))⟩]
def c9r19 : List AOper :=
 [⟨some 58, none, .mv (.t 5)⟩,
 ⟨some 2, none, .mv (.c .nilp)⟩,
 ⟨some 3, none, .mv (.t 58)⟩]
def c9r20 : List AOper :=
 [⟨some 59, none, .mv (.t 6)⟩,
 ⟨some 2, none, .mv (.t 59)⟩,
 ⟨some 3, none, .mv (.c (.int .i64 0))⟩]
def c9 : AC := (.seq (.region c9r0) (.seq (.region c9r1) (.seq (.seq (.region c9r2) (.cond (.t 17) (.seq (.region c9r3) .ret) .skip)) (.seq (.region c9r4) (.seq (.region c9r5) (.seq (.seq (.region c9r6) (.block 0 (.loop c9l0))) (.seq (.seq (.region c9r14) (.cond (.t 47) (.region c9r15) .skip)) (.seq (.seq (.region c9r16) (.cond (.t 51) (.region c9r17) .skip)) (.seq (.seq (.region c9r18) (.cond (.t 57) (.seq (.region c9r19) .ret) .skip)) (.seq (.region c9r20) .ret))))))))))
def r9 : List ARes := [.tmp 2, .tmp 3]
theorem c9_ok : Tryz.f9.body.bind (cCode Tryz.prog Tryz.f9.ntmps) = some c9 := by kernel_rfl
theorem r9_ok : Tryz.f9.results.toList.mapM (cRes Tryz.prog Tryz.f9.ntmps) = some r9 := by kernel_rfl
def c10r0 : List AOper :=
 [⟨some 0, none, .mv (.c (.bool false))⟩]
def c10r1 : List AOper :=
 [⟨some 6, none, .call (.c (.fn 8 [])) []⟩,
 ⟨some 1, none, .mv (.t 6)⟩]
def c10r2 : List AOper :=
 [⟨some 8, none, .mv (.t 1)⟩,
 ⟨some 9, none, .call (.c (.fn 9 [])) [.t 8]⟩,
 ⟨some 7, none, .mv (.t 9)⟩,
 ⟨some 10, none, .ext (.t 7) 0⟩,
 ⟨some 11, none, .ext (.t 7) 1⟩,
 ⟨some 2, none, .mv (.t 10)⟩,
 ⟨some 3, none, .mv (.t 11)⟩]
def c10r3 : List AOper :=
 [⟨some 12, none, .mv (.t 3)⟩,
 ⟨some 13, none, .bin .neq (.t 12) (.c (.int .i64 0))⟩,
 ⟨some 14, none, .mv (.t 13)⟩,
 ⟨some 15, some (14, false), .mv (.t 2)⟩,
 ⟨some 16, some (14, false), .eq false 1 (.t 15) (.c .nilp)⟩,
 ⟨some 17, none, .pick (.t 14) (.c (.bool true)) (.t 16)⟩,
 ⟨some 18, none, .mv (.t 17)⟩,
 ⟨some 19, some (18, false), .mv (.t 2)⟩,
 ⟨some 20, some (18, false), .call (.c (.fn 12 [])) [.t 19]⟩,
 ⟨some 21, some (18, false), .bin .neq (.t 20) (.c (.int .i64 0))⟩,
 ⟨some 22, none, .pick (.t 18) (.c (.bool true)) (.t 21)⟩,
 ⟨some 23, none, .mv (.t 22)⟩,
 ⟨some 24, some (23, false), .mv (.t 2)⟩,
 ⟨some 25, some (23, false), .call (.c (.fn 13 [])) [.t 24]⟩,
 ⟨some 26, some (23, false), .lenL (.t 25)⟩,
 ⟨some 27, some (23, false), .bin .gtr (.t 26) (.c (.int .i64 0))⟩,
 ⟨some 28, none, .pick (.t 23) (.c (.bool true)) (.t 27)⟩,
 ⟨some 29, none, .mv (.t 28)⟩,
 ⟨some 30, some (29, false), .mv (.t 2)⟩,
 ⟨some 31, some (29, false), .bslice 2 1 [.int .i64 0] [(0, .c (.int .i64 1)), (1, .c (.int .i64 2))]⟩,
 ⟨some 32, some (29, false), .call (.c (.fn 11 [])) [.t 30, .c (.int .i64 3), .t 31]⟩,
 ⟨some 33, some (29, false), .bin .neq (.t 32) (.c (.int .i64 0))⟩,
 ⟨some 34, none, .pick (.t 29) (.c (.bool true)) (.t 33)⟩,
 ⟨some 35, none, .mv (.t 34)⟩,
 ⟨some 36, some (35, false), .mv (.t 1)⟩,
 ⟨some 37, some (35, false), .call (.c (.fn 15 [])) [.t 36, .c .nils]⟩,
 ⟨some 38, some (35, false), .bin .neq (.t 37) (.c (.int .i64 0))⟩,
 ⟨some 39, none, .pick (.t 35) (.c (.bool true)) (.t 38)⟩]
def c10r4 : List AOper :=
 [⟨some 0, none, .mv (.c (.bool false))⟩]
def c10r5 : List AOper :=
 [⟨some 41, none, .mv (.t 1)⟩,
 ⟨some 42, none, .call (.c (.fn 9 [])) [.t 41]⟩,
 ⟨some 40, none, .mv (.t 42)⟩,
 ⟨some 43, none, .ext (.t 40) 0⟩,
 ⟨some 44, none, .ext (.t 40) 1⟩,
 ⟨some 4, none, .mv (.t 43)⟩,
 ⟨some 5, none, .mv (.t 44)⟩]
def c10r6 : List AOper :=
 [⟨some 45, none, .mv (.t 5)⟩,
 ⟨some 46, none, .bin .eql (.t 45) (.c (.int .i64 0))⟩,
 ⟨some 47, none, .mv (.t 46)⟩,
 ⟨some 48, some (47, true), .mv (.t 4)⟩,
 ⟨some 49, some (47, true), .eq true 1 (.t 48) (.c .nilp)⟩,
 ⟨some 50, none, .pick (.t 47) (.t 49) (.c (.bool false))⟩,
 ⟨some 51, none, .mv (.t 50)⟩,
 ⟨some 52, some (51, true), .mv (.t 4)⟩,
 ⟨some 53, some (51, true), .call (.c (.fn 12 [])) [.t 52]⟩,
 ⟨some 54, some (51, true), .bin .eql (.t 53) (.c (.int .i64 3))⟩,
 ⟨some 55, none, .pick (.t 51) (.t 54) (.c (.bool false))⟩,
 ⟨some 56, none, .mv (.t 55)⟩,
 ⟨some 57, some (56, true), .mv (.t 4)⟩,
 ⟨some 58, some (56, true), .call (.c (.fn 13 [])) [.t 57]⟩,
 ⟨some 59, some (56, true), .bslice 2 1 [.int .i64 0] [(0, .c (.int .i64 1)), (1, .c (.int .i64 2))]⟩,
 ⟨some 60, some (56, true), .call (.c (.fn 14 [])) [.t 58, .t 59]⟩,
 ⟨some 61, none, .pick (.t 56) (.t 60) (.c (.bool false))⟩,
 ⟨some 0, none, .mv (.t 61)⟩]
def c10 : AC := (.seq (.region c10r0) (.seq (.region c10r1) (.seq (.region c10r2) (.seq (.seq (.region c10r3) (.cond (.t 39) (.seq (.region c10r4) .ret) .skip)) (.seq (.region c10r5) (.seq (.region c10r6) .ret))))))
def r10 : List ARes := [.tmp 0]
theorem c10_ok : Tryz.f10.body.bind (cCode Tryz.prog Tryz.f10.ntmps) = some c10 := by kernel_rfl
theorem r10_ok : Tryz.f10.results.toList.mapM (cRes Tryz.prog Tryz.f10.ntmps) = some r10 := by kernel_rfl
def c11r0 : List AOper :=
 [⟨some 6, none, .mv (.c (.int .i64 0))⟩]
def c11r1 : List AOper :=
 [⟨some 9, none, .mv (.t 0)⟩,
 ⟨some 10, none, .call (.c (.fn 40 [])) [.t 9]⟩,
 ⟨some 11, none, .un .not (.t 10)⟩,
 ⟨some 12, none, .mv (.t 11)⟩,
 ⟨some 13, some (12, false), .mv (.t 1)⟩,
 ⟨some 14, some (12, false), .mv (.t 0)⟩,
 ⟨some 15, some (12, false), .nilck (.t 14)⟩,
 ⟨some 16, some (12, false), .fldA (.t 15) 1⟩,
 ⟨some 17, some (12, false), .load (.t 16) none⟩,
 ⟨some 18, some (12, false), .bin .lss (.t 13) (.t 17)⟩,
 ⟨some 19, none, .pick (.t 12) (.c (.bool true)) (.t 18)⟩,
 ⟨some 20, none, .mv (.t 19)⟩,
 ⟨some 21, some (20, false), .mv (.t 1)⟩,
 ⟨some 22, some (20, false), .mv (.t 2)⟩,
 ⟨some 23, some (20, false), .call (.c (.fn 41 [])) [.t 21, .t 22]⟩,
 ⟨some 24, some (20, false), .un .not (.t 23)⟩,
 ⟨some 25, none, .pick (.t 20) (.c (.bool true)) (.t 24)⟩]
def c11r2 : List AOper :=
 [⟨some 6, none, .mv (.c (.int .i64 1))⟩]
def c11r3 : List AOper :=
 [⟨some 26, none, .mv (.t 0)⟩,
 ⟨some 27, none, .mv (.t 0)⟩,
 ⟨some 28, none, .mv (.t 1)⟩,
 ⟨some 29, none, .mv (.t 2)⟩,
 ⟨some 30, none, .call (.c (.fn 42 [])) [.t 29]⟩,
 ⟨some 31, none, .nilck (.t 26)⟩,
 ⟨some 32, none, .fldA (.t 31) 1⟩,
 ⟨none, none, .store (.t 32) (.t 28) 1⟩,
 ⟨some 33, none, .nilck (.t 27)⟩,
 ⟨some 34, none, .fldA (.t 33) 2⟩,
 ⟨none, none, .store (.t 34) (.t 30) 1⟩]
def c11r4 : List AOper :=
 [⟨some 35, none, .mv (.t 0)⟩,
 ⟨some 36, none, .nilck (.t 35)⟩,
 ⟨some 37, none, .fldA (.t 36) 3⟩,
 ⟨some 38, none, .load (.t 37) none⟩,
 ⟨some 39, none, .bin .lss (.t 38) (.c (.int .i64 16))⟩]
def c11r5 : List AOper :=
 [⟨some 40, none, .mv (.t 0)⟩,
 ⟨some 41, none, .call (.c (.fn 37 [])) [.t 40]⟩,
 ⟨some 6, none, .mv (.t 41)⟩]
def c11r6 : List AOper :=
 [⟨some 43, none, .mv (.t 0)⟩,
 ⟨some 44, none, .nilck (.t 43)⟩,
 ⟨some 45, none, .fldA (.t 44) 0⟩,
 ⟨some 46, none, .load (.t 45) none⟩,
 ⟨some 47, none, .call (.c (.fn 43 [])) [.t 46]⟩,
 ⟨some 42, none, .mv (.t 47)⟩,
 ⟨some 48, none, .ext (.t 42) 0⟩,
 ⟨some 49, none, .ext (.t 42) 1⟩,
 ⟨some 7, none, .mv (.t 48)⟩,
 ⟨some 8, none, .mv (.t 49)⟩]
def c11r7 : List AOper :=
 [⟨some 50, none, .mv (.t 8)⟩,
 ⟨some 51, none, .bin .neq (.t 50) (.c (.int .i64 0))⟩]
def c11r8 : List AOper :=
 [⟨some 52, none, .mv (.t 8)⟩,
 ⟨some 6, none, .mv (.t 52)⟩]
def c11r9 : List AOper :=
 [⟨some 53, none, .mv (.t 0)⟩,
 ⟨some 54, none, .nilck (.t 53)⟩,
 ⟨some 55, none, .fldA (.t 54) 3⟩,
 ⟨none, none, .store (.t 55) (.c (.int .i64 0)) 1⟩]
def c11r10 : List AOper :=
 [⟨some 56, none, .mv (.t 0)⟩,
 ⟨some 57, none, .call (.c (.fn 37 [])) [.t 56]⟩,
 ⟨some 8, none, .mv (.t 57)⟩]
def c11r11 : List AOper :=
 [⟨some 58, none, .mv (.t 8)⟩,
 ⟨some 59, none, .bin .eql (.t 58) (.c (.int .i64 0))⟩]
def c11r12 : List AOper :=
 [⟨some 60, none, .mv (.t 0)⟩,
 ⟨some 61, none, .nilck (.t 60)⟩,
 ⟨some 62, none, .fldA (.t 61) 0⟩,
 ⟨some 63, none, .load (.t 62) none⟩,
 ⟨some 64, none, .mv (.t 7)⟩,
 ⟨some 65, none, .call (.c (.fn 38 [])) [.t 63, .t 64]⟩,
 ⟨some 8, none, .mv (.t 65)⟩]
def c11r13 : List AOper :=
 [⟨some 66, none, .mv (.t 8)⟩,
 ⟨some 6, none, .mv (.t 66)⟩]
def c11 : AC := (.seq (.region c11r0) (.seq (.seq (.region c11r1) (.cond (.t 25) (.seq (.region c11r2) .ret) .skip)) (.seq (.region c11r3) (.seq (.seq (.region c11r4) (.cond (.t 39) (.seq (.region c11r5) .ret) .skip)) (.seq (.region c11r6) (.seq (.seq (.region c11r7) (.cond (.t 51) (.seq (.region c11r8) .ret) .skip)) (.seq (.region c11r9) (.seq (.seq (.region c11r10) (.seq (.region c11r11) (.cond (.t 59) (.region c11r12) .skip))) (.seq (.region c11r13) .ret)))))))))
def r11 : List ARes := [.tmp 6]
theorem c11_ok : Tryz.f11.body.bind (cCode Tryz.prog Tryz.f11.ntmps) = some c11 := by kernel_rfl
theorem r11_ok : Tryz.f11.results.toList.mapM (cRes Tryz.prog Tryz.f11.ntmps) = some r11 := by kernel_rfl
def c12r0 : List AOper :=
 [⟨some 2, none, .mv (.c (.int .i64 0))⟩]
def c12r1 : List AOper :=
 [⟨some 3, none, .mv (.t 0)⟩,
 ⟨some 4, none, .call (.c (.fn 40 [])) [.t 3]⟩,
 ⟨some 5, none, .un .not (.t 4)⟩]
def c12r2 : List AOper :=
 [⟨some 2, none, .mv (.c (.int .i64 0))⟩]
def c12r3 : List AOper :=
 [⟨some 6, none, .mv (.t 0)⟩,
 ⟨some 7, none, .nilck (.t 6)⟩,
 ⟨some 8, none, .fldA (.t 7) 1⟩,
 ⟨some 9, none, .load (.t 8) none⟩,
 ⟨some 2, none, .mv (.t 9)⟩]
def c12 : AC := (.seq (.region c12r0) (.seq (.seq (.region c12r1) (.cond (.t 5) (.seq (.region c12r2) .ret) .skip)) (.seq (.region c12r3) .ret)))
def r12 : List ARes := [.tmp 2]
theorem c12_ok : Tryz.f12.body.bind (cCode Tryz.prog Tryz.f12.ntmps) = some c12 := by kernel_rfl
theorem r12_ok : Tryz.f12.results.toList.mapM (cRes Tryz.prog Tryz.f12.ntmps) = some r12 := by kernel_rfl
def c13r0 : List AOper :=
 [⟨some 2, none, .mv (.c .nils)⟩]
def c13r1 : List AOper :=
 [⟨some 3, none, .mv (.t 0)⟩,
 ⟨some 4, none, .call (.c (.fn 40 [])) [.t 3]⟩,
 ⟨some 5, none, .un .not (.t 4)⟩]
def c13r2 : List AOper :=
 [⟨some 2, none, .mv (.c .nils)⟩]
def c13r3 : List AOper :=
 [⟨some 6, none, .mv (.t 0)⟩,
 ⟨some 7, none, .nilck (.t 6)⟩,
 ⟨some 8, none, .fldA (.t 7) 2⟩,
 ⟨some 9, none, .load (.t 8) none⟩,
 ⟨some 10, none, .call (.c (.fn 42 [])) [.t 9]⟩,
 ⟨some 2, none, .mv (.t 10)⟩]
def c13 : AC := (.seq (.region c13r0) (.seq (.seq (.region c13r1) (.cond (.t 5) (.seq (.region c13r2) .ret) .skip)) (.seq (.region c13r3) .ret)))
def r13 : List ARes := [.tmp 2]
theorem c13_ok : Tryz.f13.body.bind (cCode Tryz.prog Tryz.f13.ntmps) = some c13 := by kernel_rfl
theorem r13_ok : Tryz.f13.results.toList.mapM (cRes Tryz.prog Tryz.f13.ntmps) = some r13 := by kernel_rfl
def c14r0 : List AOper :=
 [⟨some 4, none, .mv (.c (.bool false))⟩]
def c14r1 : List AOper :=
 [⟨some 6, none, .mv (.t 0)⟩,
 ⟨some 7, none, .lenL (.t 6)⟩,
 ⟨some 8, none, .mv (.t 1)⟩,
 ⟨some 9, none, .lenL (.t 8)⟩,
 ⟨some 10, none, .bin .neq (.t 7) (.t 9)⟩]
def c14r2 : List AOper :=
 [⟨some 4, none, .mv (.c (.bool false))⟩]
def c14r3 : List AOper :=
 [⟨some 5, none, .mv (.c (.int .i64 0))⟩]
def c14r4 : List AOper :=
 [⟨some 11, none, .mv (.t 5)⟩,
 ⟨some 12, none, .mv (.t 0)⟩,
 ⟨some 13, none, .lenL (.t 12)⟩,
 ⟨some 14, none, .bin .lss (.t 11) (.t 13)⟩]
def c14d0 : List (AOper × List Nat) :=
 [(⟨some 17, none, .mv (.t 0)⟩, []),
 (⟨some 18, none, .mv (.t 5)⟩, []),
 (⟨some 19, none, .idxA (.t 17) (.t 18) none 1⟩, [0, 1]),
 (⟨some 20, none, .load (.t 19) none⟩, [2]),
 (⟨some 21, none, .mv (.t 1)⟩, []),
 (⟨some 22, none, .mv (.t 5)⟩, []),
 (⟨some 23, none, .idxA (.t 21) (.t 22) none 1⟩, [4, 5]),
 (⟨some 24, none, .load (.t 23) none⟩, [6]),
 (⟨some 25, none, .bin .neq (.t 20) (.t 24)⟩, [3, 7])]
def c14r5 : List AOper :=
 [⟨some 4, none, .mv (.c (.bool false))⟩]
def c14r6 : List AOper :=
 [⟨some 15, none, .mv (.t 5)⟩,
 ⟨some 16, none, .bin .add (.t 15) (.c (.int .i64 1))⟩,
 ⟨some 5, none, .mv (.t 16)⟩]
def c14l0 : AC := (.seq (.seq (.region c14r4) (.cond (.t 14) .skip (.exit 0))) (.seq (.block 1 (.seq (.drawn c14d0) (.cond (.t 25) (.seq (.region c14r5) .ret) .skip))) (.region c14r6)))
def c14r7 : List AOper :=
 [⟨some 4, none, .mv (.c (.bool true))⟩]
def c14 : AC := (.seq (.region c14r0) (.seq (.seq (.region c14r1) (.cond (.t 10) (.seq (.region c14r2) .ret) .skip)) (.seq (.seq (.region c14r3) (.block 0 (.loop c14l0))) (.seq (.region c14r7) .ret))))
def r14 : List ARes := [.tmp 4]
theorem c14_ok : Tryz.f14.body.bind (cCode Tryz.prog Tryz.f14.ntmps) = some c14 := by kernel_rfl
theorem r14_ok : Tryz.f14.results.toList.mapM (cRes Tryz.prog Tryz.f14.ntmps) = some r14 := by kernel_rfl
def c15r0 : List AOper :=
 [⟨some 4, none, .mv (.c (.int .i64 0))⟩]
def c15r1 : List AOper :=
 [⟨some 9, none, .mv (.t 0)⟩,
 ⟨some 10, none, .call (.c (.fn 44 [])) [.t 9, .c .nils]⟩,
 ⟨some 11, none, .un .not (.t 10)⟩]
def c15r2 : List AOper :=
 [⟨some 4, none, .mv (.c (.int .i64 1))⟩]
def c15r3 : List AOper :=
 [⟨some 12, none, .mv (.t 0)⟩,
 ⟨some 13, none, .call (.c (.fn 45 [])) [.t 12]⟩,
 ⟨some 14, none, .lenL (.t 13)⟩,
 ⟨some 15, none, .mv (.c (.int .i64 0))⟩]
def c15r4 : List AOper :=
 [⟨some 16, none, .bin .lss (.t 15) (.t 14)⟩]
def c15r5 : List AOper :=
 [⟨some 17, none, .mv (.t 15)⟩,
 ⟨some 18, none, .idxA (.t 13) (.t 15) none 1⟩,
 ⟨some 19, none, .load (.t 18) none⟩,
 ⟨some 5, none, .mv (.t 17)⟩,
 ⟨some 6, none, .mv (.t 19)⟩]
def c15r6 : List AOper :=
 [⟨some 20, none, .mv (.t 0)⟩,
 ⟨some 21, none, .nilck (.t 20)⟩,
 ⟨some 22, none, .fldA (.t 21) 0⟩,
 ⟨some 23, none, .load (.t 22) none⟩,
 ⟨some 24, none, .mv (.t 6)⟩,
 ⟨some 25, none, .mget 1 (.t 23) (.t 24) .nilp false⟩,
 ⟨some 7, none, .mv (.t 25)⟩]
def c15r7 : List AOper :=
 [⟨some 8, none, .mv (.c (.int .i64 0))⟩]
def c15r8 : List AOper :=
 [⟨some 26, none, .mv (.t 1)⟩,
 ⟨some 27, none, .lenL (.t 26)⟩,
 ⟨some 28, none, .bin .gtr (.t 27) (.c (.int .i64 0))⟩]
def c15r9 : List AOper :=
 [⟨some 29, none, .mv (.t 1)⟩,
 ⟨some 30, none, .mv (.t 5)⟩,
 ⟨some 31, none, .mv (.t 1)⟩,
 ⟨some 32, none, .lenL (.t 31)⟩,
 ⟨some 33, none, .bin .rem (.t 30) (.t 32)⟩,
 ⟨some 34, none, .idxA (.t 29) (.t 33) none 1⟩,
 ⟨some 35, none, .load (.t 34) none⟩,
 ⟨some 36, none, .mm true [.c (.int .i64 0), .t 35]⟩,
 ⟨some 8, none, .mv (.t 36)⟩]
def c15d0 : List (AOper × List Nat) :=
 [(⟨some 37, none, .mv (.t 7)⟩, []),
 (⟨some 38, none, .mv (.t 7)⟩, []),
 (⟨some 39, none, .nilck (.t 38)⟩, [1]),
 (⟨some 40, none, .fldA (.t 39) 0⟩, [2]),
 (⟨some 41, none, .load (.t 40) none⟩, [3]),
 (⟨some 42, none, .mv (.t 7)⟩, []),
 (⟨some 43, none, .nilck (.t 42)⟩, [5]),
 (⟨some 44, none, .fldA (.t 43) 1⟩, [6]),
 (⟨some 45, none, .load (.t 44) none⟩, [7]),
 (⟨some 46, none, .mv (.t 8)⟩, []),
 (⟨some 47, none, .mv (.t 7)⟩, []),
 (⟨some 48, none, .nilck (.t 47)⟩, [10]),
 (⟨some 49, none, .fldA (.t 48) 0⟩, [11]),
 (⟨some 50, none, .load (.t 49) none⟩, [12]),
 (⟨some 51, none, .lenL (.t 50)⟩, [13]),
 (⟨some 52, none, .mv (.t 7)⟩, []),
 (⟨some 53, none, .nilck (.t 52)⟩, [15]),
 (⟨some 54, none, .fldA (.t 53) 1⟩, [16]),
 (⟨some 55, none, .load (.t 54) none⟩, [17]),
 (⟨some 56, none, .bin .sub (.t 51) (.t 55)⟩, [14, 18]),
 (⟨some 57, none, .mm false [.t 46, .t 56]⟩, [9, 19]),
 (⟨some 58, none, .bin .add (.t 45) (.t 57)⟩, [8, 20]),
 (⟨some 59, none, .slc (.t 41) none (some (.t 58)) none 1⟩, [4, 21]),
 (⟨some 60, none, .nilck (.t 37)⟩, [0, 0, 1, 2, 3, 4, 5, 6, 7, 8, 9, 10, 11, 12, 13, 14, 15, 16, 17, 18, 19, 20, 21, 22]),
 (⟨some 61, none, .fldA (.t 60) 0⟩, [23, 0, 1, 2, 3, 4, 5, 6, 7, 8, 9, 10, 11, 12, 13, 14, 15, 16, 17, 18, 19, 20, 21, 22]),
 (⟨none, none, .store (.t 61) (.t 59) 1⟩, [24, 22, 0, 1, 2, 3, 4, 5, 6, 7, 8, 9, 10, 11, 12, 13, 14, 15, 16, 17, 18, 19, 20, 21, 22])]
def c15r10 : List AOper :=
 [⟨some 62, none, .mv (.t 7)⟩,
 ⟨some 63, none, .mv (.t 7)⟩,
 ⟨some 64, none, .nilck (.t 63)⟩,
 ⟨some 65, none, .fldA (.t 64) 0⟩,
 ⟨some 66, none, .load (.t 65) none⟩,
 ⟨some 67, none, .lenL (.t 66)⟩,
 ⟨some 68, none, .nilck (.t 62)⟩,
 ⟨some 69, none, .fldA (.t 68) 1⟩,
 ⟨none, none, .store (.t 69) (.t 67) 1⟩]
def c15r11 : List AOper :=
 [⟨some 70, none, .bin .add (.t 15) (.c (.int .i64 1))⟩,
 ⟨some 15, none, .mv (.t 70)⟩]
def c15l0 : AC := (.seq (.region c15r4) (.seq (.cond (.t 16) .skip (.exit 0)) (.seq (.block 1 (.seq (.region c15r5) (.seq (.region c15r6) (.seq (.region c15r7) (.seq (.seq (.region c15r8) (.cond (.t 28) (.region c15r9) .skip)) (.seq (.drawn c15d0) (.region c15r10))))))) (.region c15r11))))
def c15r12 : List AOper :=
 [⟨some 71, none, .mv (.t 0)⟩,
 ⟨some 72, none, .mv (.t 0)⟩,
 ⟨some 73, none, .nilck (.t 71)⟩,
 ⟨some 74, none, .fldA (.t 73) 1⟩,
 ⟨none, none, .store (.t 74) (.c (.int .i64 (-1))) 1⟩,
 ⟨some 75, none, .nilck (.t 72)⟩,
 ⟨some 76, none, .fldA (.t 75) 2⟩,
 ⟨none, none, .store (.t 76) (.c (.bool false)) 1⟩]
def c15r13 : List AOper :=
 [⟨some 4, none, .mv (.c (.int .i64 0))⟩]
def c15 : AC := (.seq (.region c15r0) (.seq (.seq (.region c15r1) (.cond (.t 11) (.seq (.region c15r2) .ret) .skip)) (.seq (.seq (.region c15r3) (.block 0 (.loop c15l0))) (.seq (.region c15r12) (.seq (.region c15r13) .ret)))))
def r15 : List ARes := [.tmp 4]
theorem c15_ok : Tryz.f15.body.bind (cCode Tryz.prog Tryz.f15.ntmps) = some c15 := by kernel_rfl
theorem r15_ok : Tryz.f15.results.toList.mapM (cRes Tryz.prog Tryz.f15.ntmps) = some r15 := by kernel_rfl
def c16r0 : List AOper :=
 [⟨some 3, none, .box (.t 0)⟩,
 ⟨some 6, none, .alloc [.int .i64 0, .nils]⟩,
 ⟨some 7, none, .mv (.c (.int .i64 0))⟩]
def c16r1 : List AOper :=
 [⟨some 8, none, .mv (.t 1)⟩,
 ⟨some 9, none, .fldA (.t 3) 0⟩,
 ⟨some 10, none, .load (.t 9) none⟩,
 ⟨some 11, none, .bin .lss (.t 8) (.t 10)⟩,
 ⟨some 12, none, .mv (.t 11)⟩,
 ⟨some 13, some (12, false), .mv (.t 1)⟩,
 ⟨some 14, some (12, false), .bin .gtr (.t 13) (.c (.int .i64 1099511627775))⟩,
 ⟨some 15, none, .pick (.t 12) (.c (.bool true)) (.t 14)⟩,
 ⟨some 16, none, .mv (.t 15)⟩,
 ⟨some 17, some (16, false), .mv (.t 2)⟩,
 ⟨some 18, some (16, false), .call (.c (.fn 46 [])) [.t 17]⟩,
 ⟨some 19, some (16, false), .un .not (.t 18)⟩,
 ⟨some 20, none, .pick (.t 16) (.c (.bool true)) (.t 19)⟩]
def c16r2 : List AOper :=
 [⟨some 21, none, .load (.t 3) (some 2)⟩,
 ⟨none, none, .store (.t 6) (.t 21) 2⟩,
 ⟨some 7, none, .mv (.c (.int .i64 1))⟩]
def c16r3 : List AOper :=
 [⟨some 22, none, .mv (.t 1)⟩,
 ⟨some 23, none, .mv (.t 2)⟩,
 ⟨some 24, none, .build [.int .i64 0, .nils] [(0, 1, .t 22), (1, 1, .t 23)]⟩,
 ⟨none, none, .store (.t 6) (.t 24) 2⟩,
 ⟨some 7, none, .mv (.c (.int .i64 0))⟩]
def c16 : AC := (.seq (.region c16r0) (.seq (.seq (.region c16r1) (.cond (.t 20) (.seq (.region c16r2) .ret) .skip)) (.seq (.region c16r3) .ret)))
def r16 : List ARes := [.cell 6 (some 2), .tmp 7]
theorem c16_ok : Tryz.f16.body.bind (cCode Tryz.prog Tryz.f16.ntmps) = some c16 := by kernel_rfl
theorem r16_ok : Tryz.f16.results.toList.mapM (cRes Tryz.prog Tryz.f16.ntmps) = some r16 := by kernel_rfl
def c17r0 : List AOper :=
 [⟨some 2, none, .mv (.c (.bool false))⟩]
def c17r1 : List AOper :=
 [⟨some 3, none, .mv (.t 0)⟩,
 ⟨some 4, none, .call (.c (.fn 44 [])) [.t 3, .c .nils]⟩,
 ⟨some 5, none, .mv (.t 4)⟩,
 ⟨some 6, some (5, true), .mv (.t 0)⟩,
 ⟨some 7, some (5, true), .nilck (.t 6)⟩,
 ⟨some 8, some (5, true), .fldA (.t 7) 2⟩,
 ⟨some 9, some (5, true), .load (.t 8) none⟩,
 ⟨some 10, none, .pick (.t 5) (.t 9) (.c (.bool false))⟩,
 ⟨some 2, none, .mv (.t 10)⟩]
def c17 : AC := (.seq (.region c17r0) (.seq (.region c17r1) .ret))
def r17 : List ARes := [.tmp 2]
theorem c17_ok : Tryz.f17.body.bind (cCode Tryz.prog Tryz.f17.ntmps) = some c17 := by kernel_rfl
theorem r17_ok : Tryz.f17.results.toList.mapM (cRes Tryz.prog Tryz.f17.ntmps) = some r17 := by kernel_rfl
def c18r0 : List AOper :=
 [⟨some 4, none, .mv (.c (.int .i64 0))⟩]
def c18r1 : List AOper :=
 [⟨some 5, none, .mv (.t 0)⟩,
 ⟨some 6, none, .call (.c (.fn 44 [])) [.t 5, .c .nils]⟩,
 ⟨some 7, none, .un .not (.t 6)⟩]
def c18r2 : List AOper :=
 [⟨some 4, none, .mv (.c (.int .i64 1))⟩]
def c18r3 : List AOper :=
 [⟨some 8, none, .mv (.t 0)⟩,
 ⟨some 9, none, .mv (.t 1)⟩,
 ⟨some 10, none, .mm true [.t 9, .c (.int .i64 (-1))]⟩,
 ⟨some 11, none, .nilck (.t 8)⟩,
 ⟨some 12, none, .fldA (.t 11) 1⟩,
 ⟨none, none, .store (.t 12) (.t 10) 1⟩]
def c18r4 : List AOper :=
 [⟨some 4, none, .mv (.c (.int .i64 0))⟩]
def c18 : AC := (.seq (.region c18r0) (.seq (.seq (.region c18r1) (.cond (.t 7) (.seq (.region c18r2) .ret) .skip)) (.seq (.region c18r3) (.seq (.region c18r4) .ret))))
def r18 : List ARes := [.tmp 4]
theorem c18_ok : Tryz.f18.body.bind (cCode Tryz.prog Tryz.f18.ntmps) = some c18 := by kernel_rfl
theorem r18_ok : Tryz.f18.results.toList.mapM (cRes Tryz.prog Tryz.f18.ntmps) = some r18 := by kernel_rfl
def c34r0 : List AOper :=
 [⟨some 2, none, .box (.t 0)⟩,
 ⟨some 3, none, .box (.t 1)⟩,
 ⟨some 4, none, .mv (.c .nilp)⟩,
 ⟨some 5, none, .mv (.c (.int .i64 0))⟩]
def c34r1 : List AOper :=
 [⟨some 9, none, .load (.t 2) none⟩,
 ⟨some 10, none, .call (.c (.fn 68 [])) [.t 9]⟩,
 ⟨some 11, none, .un .not (.t 10)⟩,
 ⟨some 12, none, .mv (.t 11)⟩,
 ⟨some 13, some (12, false), .load (.t 3) none⟩,
 ⟨some 14, some (12, false), .bin .lss (.t 13) (.c (.int .i64 0))⟩,
 ⟨some 15, none, .pick (.t 12) (.c (.bool true)) (.t 14)⟩,
 ⟨some 16, none, .mv (.t 15)⟩,
 ⟨some 17, some (16, false), .load (.t 3) none⟩,
 ⟨some 18, some (16, false), .bin .gtr (.t 17) (.c (.int .i64 1048576))⟩,
 ⟨some 19, none, .pick (.t 16) (.c (.bool true)) (.t 18)⟩,
 ⟨some 8, none, .mv (.t 19)⟩]
def c34r2 : List AOper :=
 [⟨some 4, none, .mv (.c .nilp)⟩,
 ⟨some 5, none, .mv (.c (.int .i64 1))⟩]
def c34r3 : List AOper :=
 [⟨some 21, none, .load (.t 2) none⟩,
 ⟨some 22, none, .call (.c (.fn 17 [])) [.t 21]⟩,
 ⟨some 20, none, .mv (.t 22)⟩]
def c34r4 : List AOper :=
 [⟨some 4, none, .mv (.c .nilp)⟩,
 ⟨some 5, none, .mv (.c (.int .i64 50))⟩]
def c34r5 : List AOper :=
 [⟨some 23, none, .load (.t 2) none⟩,
 ⟨some 24, none, .load (.t 3) none⟩,
 ⟨some 25, none, .build [.nilp, .nils, .int .i64 0] [(0, 1, .t 23), (2, 1, .t 24)]⟩,
 ⟨some 26, none, .box (.t 25)⟩,
 ⟨some 6, none, .alloc [.nilp]⟩,
 ⟨none, none, .store (.t 6) (.t 26) 1⟩]
def c34r6 : List AOper :=
 [⟨some 27, none, .load (.t 2) none⟩,
 ⟨some 28, none, .mkf 70 [.t 3, .t 2, .t 6]⟩,
 ⟨some 29, none, .call (.c (.fn 69 [])) [.t 27, .t 28]⟩,
 ⟨some 7, none, .mv (.t 29)⟩]
def c34r7 : List AOper :=
 [⟨some 30, none, .mv (.t 7)⟩,
 ⟨some 31, none, .bin .eql (.t 30) (.c (.int .i64 0))⟩,
 ⟨some 32, none, .mv (.t 31)⟩,
 ⟨some 33, some (32, true), .load (.t 6) none⟩,
 ⟨some 34, some (32, true), .nilck (.t 33)⟩,
 ⟨some 35, some (32, true), .fldA (.t 34) 2⟩,
 ⟨some 36, some (32, true), .load (.t 35) none⟩,
 ⟨some 37, some (32, true), .bin .gtr (.t 36) (.c (.int .i64 99999998))⟩,
 ⟨some 38, none, .pick (.t 32) (.t 37) (.c (.bool false))⟩]
def c34r8 : List AOper :=
 [⟨some 7, none, .mv (.c (.int .i64 2))⟩]
def c34r9 : List AOper :=
 [⟨some 39, none, .mv (.t 7)⟩,
 ⟨some 40, none, .bin .eql (.t 39) (.c (.int .i64 0))⟩]
def c34d0 : List (AOper × List Nat) :=
 [(⟨some 41, none, .load (.t 2) none⟩, []),
 (⟨some 42, none, .load (.t 6) none⟩, []),
 (⟨some 43, none, .nilck (.t 42)⟩, [1]),
 (⟨some 44, none, .fldA (.t 43) 2⟩, [2]),
 (⟨some 45, none, .load (.t 44) none⟩, [3]),
 (⟨some 46, none, .call (.c (.fn 72 [])) [.t 45]⟩, [4]),
 (⟨some 47, none, .call (.c (.fn 75 [])) [.t 41, .t 46]⟩, [0, 5, 5]),
 (⟨some 7, none, .mv (.t 47)⟩, [6, 6, 0, 1, 2, 3, 4, 5, 6])]
def c34r10 : List AOper :=
 [⟨some 48, none, .mv (.t 7)⟩,
 ⟨some 49, none, .bin .neq (.t 48) (.c (.int .i64 0))⟩]
def c34r11 : List AOper :=
 [⟨some 50, none, .mv (.t 7)⟩,
 ⟨some 4, none, .mv (.c .nilp)⟩,
 ⟨some 5, none, .mv (.t 50)⟩]
def c34r12 : List AOper :=
 [⟨some 51, none, .load (.t 6) none⟩,
 ⟨some 4, none, .mv (.t 51)⟩,
 ⟨some 5, none, .mv (.c (.int .i64 0))⟩]
def c34 : AC := (.seq (.region c34r0) (.seq (.block 0 (.seq (.region c34r1) (.cond (.t 8) (.seq (.region c34r2) .ret) (.seq (.region c34r3) (.cond (.t 20) (.seq (.region c34r4) .ret) .skip))))) (.seq (.region c34r5) (.seq (.region c34r6) (.seq (.seq (.region c34r7) (.cond (.t 38) (.region c34r8) .skip)) (.seq (.seq (.region c34r9) (.cond (.t 40) (.drawn c34d0) .skip)) (.seq (.seq (.region c34r10) (.cond (.t 49) (.seq (.region c34r11) .ret) .skip)) (.seq (.region c34r12) .ret))))))))
def r34 : List ARes := [.tmp 4, .tmp 5]
theorem c34_ok : Tryz.f34.body.bind (cCode Tryz.prog Tryz.f34.ntmps) = some c34 := by kernel_rfl
theorem r34_ok : Tryz.f34.results.toList.mapM (cRes Tryz.prog Tryz.f34.ntmps) = some r34 := by kernel_rfl
def c35r0 : List AOper :=
 [⟨some 2, none, .mv (.c .nils)⟩]
def c35r1 : List AOper :=
 [⟨some 6, none, .mv (.t 0)⟩,
 ⟨some 7, none, .call (.c (.fn 76 [])) [.t 6]⟩,
 ⟨some 8, none, .un .not (.t 7)⟩]
def c35r2 : List AOper :=
 [⟨some 2, none, .mv (.c .nils)⟩]
def c35r3 : List AOper :=
 [⟨some 3, none, .mv (.c .nils)⟩]
def c35r4 : List AOper :=
 [⟨some 9, none, .mv (.t 0)⟩,
 ⟨some 10, none, .nilck (.t 9)⟩,
 ⟨some 11, none, .fldA (.t 10) 1⟩,
 ⟨some 12, none, .load (.t 11) none⟩,
 ⟨some 13, none, .lenL (.t 12)⟩,
 ⟨some 14, none, .mv (.c (.int .i64 0))⟩]
def c35r5 : List AOper :=
 [⟨some 15, none, .bin .lss (.t 14) (.t 13)⟩]
def c35r6 : List AOper :=
 [⟨some 16, none, .idxA (.t 12) (.t 14) none 2⟩,
 ⟨some 17, none, .load (.t 16) (some 2)⟩,
 ⟨some 5, none, .alloc [.str [], .int .i64 0]⟩,
 ⟨none, none, .store (.t 5) (.t 17) 2⟩]
def c35r7 : List AOper :=
 [⟨some 18, none, .mv (.t 3)⟩,
 ⟨some 19, none, .fldA (.t 5) 0⟩,
 ⟨some 20, none, .load (.t 19) none⟩,
 ⟨some 21, none, .bslice 1 1 [.str []] [(0, .t 20)]⟩,
 ⟨some 22, none, .append (.t 18) (.t 21) 1 16 false⟩,
 ⟨some 3, none, .mv (.t 22)⟩]
def c35r8 : List AOper :=
 [⟨some 23, none, .bin .add (.t 14) (.c (.int .i64 1))⟩,
 ⟨some 14, none, .mv (.t 23)⟩]
def c35l0 : AC := (.seq (.region c35r5) (.seq (.cond (.t 15) .skip (.exit 0)) (.seq (.block 1 (.seq (.region c35r6) (.region c35r7))) (.region c35r8))))
def c35r9 : List AOper :=
 [⟨some 24, none, .mv (.t 3)⟩,
 ⟨some 2, none, .mv (.t 24)⟩]
def c35 : AC := (.seq (.region c35r0) (.seq (.seq (.region c35r1) (.cond (.t 8) (.seq (.region c35r2) .ret) .skip)) (.seq (.region c35r3) (.seq (.seq (.region c35r4) (.block 0 (.loop c35l0))) (.seq (.region c35r9) .ret)))))
def r35 : List ARes := [.tmp 2]
theorem c35_ok : Tryz.f35.body.bind (cCode Tryz.prog Tryz.f35.ntmps) = some c35 := by kernel_rfl
theorem r35_ok : Tryz.f35.results.toList.mapM (cRes Tryz.prog Tryz.f35.ntmps) = some r35 := by kernel_rfl
def c36r0 : List AOper :=
 [⟨some 1, none, .box (.t 0)⟩,
 ⟨some 2, none, .mv (.c (.int .i64 0))⟩,
 ⟨some 3, none, .mv (.c .nils)⟩,
 ⟨some 4, none, .mv (.c (.bool false))⟩]
def c36r1 : List AOper :=
 [⟨some 5, none, .alloc [.bool false]⟩,
 ⟨none, none, .store (.t 5) (.c (.bool true)) 1⟩]
def c36r2 : List AOper :=
 [⟨some 10, none, .mkf 77 [.t 1, .t 5]⟩,
 ⟨some 6, none, .mv (.t 10)⟩]
def c36r3 : List AOper :=
 [⟨some 11, none, .mv (.t 6)⟩,
 ⟨some 12, none, .call (.t 11) []⟩,
 ⟨some 13, none, .mv (.t 6)⟩,
 ⟨some 14, none, .call (.t 13) []⟩,
 ⟨some 7, none, .mv (.t 12)⟩,
 ⟨some 8, none, .mv (.t 14)⟩]
def c36r4 : List AOper :=
 [⟨some 15, none, .mv (.t 8)⟩,
 ⟨some 16, none, .bin .gtr (.t 15) (.c (.int .i64 64))⟩]
def c36r5 : List AOper :=
 [⟨some 2, none, .mv (.c (.int .i64 0))⟩,
 ⟨some 3, none, .mv (.c .nils)⟩,
 ⟨some 4, none, .mv (.c (.bool false))⟩]
def c36r6 : List AOper :=
 [⟨some 9, none, .mv (.c .nils)⟩]
def c36r7 : List AOper :=
 [⟨some 17, none, .mv (.t 8)⟩,
 ⟨some 18, none, .mv (.c (.int .i64 0))⟩]
def c36r8 : List AOper :=
 [⟨some 19, none, .bin .lss (.t 18) (.t 17)⟩]
def c36r9 : List AOper :=
 [⟨some 20, none, .mv (.t 9)⟩,
 ⟨some 21, none, .mv (.t 6)⟩,
 ⟨some 22, none, .call (.t 21) []⟩,
 ⟨some 23, none, .bslice 1 1 [.int .i64 0] [(0, .t 22)]⟩,
 ⟨some 24, none, .append (.t 20) (.t 23) 1 8 false⟩,
 ⟨some 9, none, .mv (.t 24)⟩]
def c36r10 : List AOper :=
 [⟨some 25, none, .bin .add (.t 18) (.c (.int .i64 1))⟩,
 ⟨some 18, none, .mv (.t 25)⟩]
def c36l0 : AC := (.seq (.region c36r8) (.seq (.cond (.t 19) .skip (.exit 0)) (.seq (.block 1 (.region c36r9)) (.region c36r10))))
def c36r11 : List AOper :=
 [⟨some 26, none, .mv (.t 7)⟩,
 ⟨some 27, none, .mv (.t 9)⟩,
 ⟨some 28, none, .load (.t 5) none⟩,
 ⟨some 29, none, .mv (.t 28)⟩,
 ⟨some 30, some (29, true), .load (.t 1) none⟩,
 ⟨some 31, some (29, true), .bin .eql (.t 30) (.c (.str []))⟩,
 ⟨some 32, none, .pick (.t 29) (.t 31) (.c (.bool false))⟩,
 ⟨some 33, none, .mv (.t 32)⟩,
 ⟨some 34, some (33, true), .mv (.t 7)⟩,
 ⟨some 35, some (33, true), .mv (.t 9)⟩,
 ⟨some 36, some (33, true), .call (.c (.fn 41 [])) [.t 34, .t 35]⟩,
 ⟨some 37, none, .pick (.t 33) (.t 36) (.c (.bool false))⟩,
 ⟨some 2, none, .mv (.t 26)⟩,
 ⟨some 3, none, .mv (.t 27)⟩,
 ⟨some 4, none, .mv (.t 37)⟩]
def c36 : AC := (.seq (.region c36r0) (.seq (.region c36r1) (.seq (.region c36r2) (.seq (.region c36r3) (.seq (.seq (.region c36r4) (.cond (.t 16) (.seq (.region c36r5) .ret) .skip)) (.seq (.region c36r6) (.seq (.seq (.region c36r7) (.block 0 (.loop c36l0))) (.seq (.region c36r11) .ret))))))))
def r36 : List ARes := [.tmp 2, .tmp 3, .tmp 4]
theorem c36_ok : Tryz.f36.body.bind (cCode Tryz.prog Tryz.f36.ntmps) = some c36 := by kernel_rfl
theorem r36_ok : Tryz.f36.results.toList.mapM (cRes Tryz.prog Tryz.f36.ntmps) = some r36 := by kernel_rfl
def c37r0 : List AOper :=
 [⟨some 2, none, .mv (.c (.int .i64 0))⟩]
def c37d0 : List (AOper × List Nat) :=
 [(⟨some 4, none, .mv (.t 0)⟩, []),
 (⟨some 5, none, .nilck (.t 4)⟩, [0]),
 (⟨some 6, none, .fldA (.t 5) 0⟩, [1]),
 (⟨some 7, none, .load (.t 6) none⟩, [2]),
 (⟨some 8, none, .mv (.t 0)⟩, []),
 (⟨some 9, none, .nilck (.t 8)⟩, [4]),
 (⟨some 10, none, .fldA (.t 9) 1⟩, [5]),
 (⟨some 11, none, .load (.t 10) none⟩, [6]),
 (⟨some 12, none, .mv (.t 0)⟩, []),
 (⟨some 13, none, .nilck (.t 12)⟩, [8]),
 (⟨some 14, none, .fldA (.t 13) 2⟩, [9]),
 (⟨some 15, none, .load (.t 14) none⟩, [10]),
 (⟨some 16, none, .call (.c (.fn 80 [])) [.t 11, .t 15]⟩, [7, 11]),
 (⟨some 17, none, .call (.c (.fn 79 [])) [.t 7, .t 16]⟩, [3, 12, 12]),
 (⟨some 3, none, .mv (.t 17)⟩, [13, 13, 0, 1, 2, 3, 4, 5, 6, 7, 8, 9, 10, 11, 12, 13])]
def c37r1 : List AOper :=
 [⟨some 18, none, .mv (.t 3)⟩,
 ⟨some 19, none, .bin .eql (.t 18) (.c (.int .i64 0))⟩]
def c37r2 : List AOper :=
 [⟨some 20, none, .mv (.t 0)⟩,
 ⟨some 21, none, .nilck (.t 20)⟩,
 ⟨some 22, none, .fldA (.t 21) 0⟩,
 ⟨some 23, none, .load (.t 22) none⟩,
 ⟨some 24, none, .call (.c (.fn 81 [])) [.t 23]⟩,
 ⟨some 3, none, .mv (.t 24)⟩]
def c37r3 : List AOper :=
 [⟨some 25, none, .mv (.t 0)⟩,
 ⟨some 26, none, .nilck (.t 25)⟩,
 ⟨some 27, none, .fldA (.t 26) 3⟩,
 ⟨some 28, none, .load (.t 27) none⟩,
 ⟨some 29, none, .bin .add (.t 28) (.c (.int .i64 1))⟩,
 ⟨some 30, none, .nilck (.t 25)⟩,
 ⟨some 31, none, .fldA (.t 30) 3⟩,
 ⟨none, none, .store (.t 31) (.t 29) 1⟩]
def c37r4 : List AOper :=
 [⟨some 32, none, .mv (.t 3)⟩,
 ⟨some 2, none, .mv (.t 32)⟩]
def c37 : AC := (.seq (.region c37r0) (.seq (.drawn c37d0) (.seq (.seq (.region c37r1) (.cond (.t 19) (.region c37r2) .skip)) (.seq (.region c37r3) (.seq (.region c37r4) .ret)))))
def r37 : List ARes := [.tmp 2]
theorem c37_ok : Tryz.f37.body.bind (cCode Tryz.prog Tryz.f37.ntmps) = some c37 := by kernel_rfl
theorem r37_ok : Tryz.f37.results.toList.mapM (cRes Tryz.prog Tryz.f37.ntmps) = some r37 := by kernel_rfl
def c38r0 : List AOper :=
 [⟨some 2, none, .box (.t 0)⟩,
 ⟨some 3, none, .box (.t 1)⟩,
 ⟨some 4, none, .mv (.c (.int .i64 0))⟩]
def c38d0 : List (AOper × List Nat) :=
 [(⟨some 6, none, .load (.t 2) none⟩, []),
 (⟨some 7, none, .call (.c (.fn 76 [])) [.t 6]⟩, [0]),
 (⟨some 8, none, .un .not (.t 7)⟩, [1]),
 (⟨some 9, none, .mv (.t 8)⟩, [2, 1]),
 (⟨some 10, some (9, false), .load (.t 3) none⟩, [3]),
 (⟨some 11, some (9, false), .load (.t 2) none⟩, [3]),
 (⟨some 12, some (9, false), .nilck (.t 11)⟩, [5, 3]),
 (⟨some 13, some (9, false), .fldA (.t 12) 2⟩, [6, 3]),
 (⟨some 14, some (9, false), .load (.t 13) none⟩, [7, 3]),
 (⟨some 15, some (9, false), .bin .gtr (.t 10) (.t 14)⟩, [4, 8, 3]),
 (⟨some 16, none, .pick (.t 9) (.c (.bool true)) (.t 15)⟩, [3, 9])]
def c38r1 : List AOper :=
 [⟨some 4, none, .mv (.c (.int .i64 1))⟩]
def c38r2 : List AOper :=
 [⟨some 17, none, .load (.t 2) none⟩,
 ⟨some 18, none, .nilck (.t 17)⟩,
 ⟨some 19, none, .fldA (.t 18) 0⟩,
 ⟨some 20, none, .load (.t 19) none⟩,
 ⟨some 21, none, .mkf 82 [.t 3, .t 2]⟩,
 ⟨some 22, none, .call (.c (.fn 69 [])) [.t 20, .t 21]⟩,
 ⟨some 5, none, .mv (.t 22)⟩]
def c38r3 : List AOper :=
 [⟨some 23, none, .mv (.t 5)⟩,
 ⟨some 24, none, .bin .eql (.t 23) (.c (.int .i64 0))⟩]
def c38d1 : List (AOper × List Nat) :=
 [(⟨some 25, none, .load (.t 2) none⟩, []),
 (⟨some 26, none, .load (.t 2) none⟩, []),
 (⟨some 27, none, .nilck (.t 26)⟩, [1]),
 (⟨some 28, none, .fldA (.t 27) 1⟩, [2]),
 (⟨some 29, none, .load (.t 28) none⟩, [3]),
 (⟨some 30, none, .mkf 84 [.t 3]⟩, []),
 (⟨some 31, none, .call (.c (.fn 83 [])) [.t 29, .t 30]⟩, [4, 5]),
 (⟨some 32, none, .nilck (.t 25)⟩, [0, 0, 1, 2, 3, 4, 5, 6]),
 (⟨some 33, none, .fldA (.t 32) 1⟩, [7, 0, 1, 2, 3, 4, 5, 6]),
 (⟨none, none, .store (.t 33) (.t 31) 1⟩, [8, 6, 6, 0, 1, 2, 3, 4, 5, 6])]
def c38r4 : List AOper :=
 [⟨some 34, none, .mv (.t 5)⟩,
 ⟨some 4, none, .mv (.t 34)⟩]
def c38 : AC := (.seq (.region c38r0) (.seq (.seq (.drawn c38d0) (.cond (.t 16) (.seq (.region c38r1) .ret) .skip)) (.seq (.region c38r2) (.seq (.seq (.region c38r3) (.cond (.t 24) (.drawn c38d1) .skip)) (.seq (.region c38r4) .ret)))))
def r38 : List ARes := [.tmp 4]
theorem c38_ok : Tryz.f38.body.bind (cCode Tryz.prog Tryz.f38.ntmps) = some c38 := by kernel_rfl
theorem r38_ok : Tryz.f38.results.toList.mapM (cRes Tryz.prog Tryz.f38.ntmps) = some r38 := by kernel_rfl
def c39r0 : List AOper :=
 [⟨some 2, none, .mv (.c (.int .i64 0))⟩]
def c39r1 : List AOper :=
 [⟨some 3, none, .mv (.t 0)⟩,
 ⟨some 4, none, .call (.c (.fn 76 [])) [.t 3]⟩,
 ⟨some 5, none, .un .not (.t 4)⟩]
def c39r2 : List AOper :=
 [⟨some 2, none, .mv (.c (.int .i64 0))⟩]
def c39r3 : List AOper :=
 [⟨some 6, none, .mv (.t 0)⟩,
 ⟨some 7, none, .nilck (.t 6)⟩,
 ⟨some 8, none, .fldA (.t 7) 2⟩,
 ⟨some 9, none, .load (.t 8) none⟩,
 ⟨some 2, none, .mv (.t 9)⟩]
def c39 : AC := (.seq (.region c39r0) (.seq (.seq (.region c39r1) (.cond (.t 5) (.seq (.region c39r2) .ret) .skip)) (.seq (.region c39r3) .ret)))
def r39 : List ARes := [.tmp 2]
theorem c39_ok : Tryz.f39.body.bind (cCode Tryz.prog Tryz.f39.ntmps) = some c39 := by kernel_rfl
theorem r39_ok : Tryz.f39.results.toList.mapM (cRes Tryz.prog Tryz.f39.ntmps) = some r39 := by kernel_rfl
def c40r0 : List AOper :=
 [⟨some 2, none, .mv (.c (.bool false))⟩]
def c40r1 : List AOper :=
 [⟨some 3, none, .mv (.t 0)⟩,
 ⟨some 4, none, .eq true 1 (.t 3) (.c .nilp)⟩,
 ⟨some 5, none, .mv (.t 4)⟩,
 ⟨some 6, some (5, true), .mv (.t 0)⟩,
 ⟨some 7, some (5, true), .nilck (.t 6)⟩,
 ⟨some 8, some (5, true), .fldA (.t 7) 0⟩,
 ⟨some 9, some (5, true), .load (.t 8) none⟩,
 ⟨some 10, some (5, true), .eq true 1 (.t 9) (.c .nilp)⟩,
 ⟨some 11, none, .pick (.t 5) (.t 10) (.c (.bool false))⟩,
 ⟨some 2, none, .mv (.t 11)⟩]
def c40 : AC := (.seq (.region c40r0) (.seq (.region c40r1) .ret))
def r40 : List ARes := [.tmp 2]
theorem c40_ok : Tryz.f40.body.bind (cCode Tryz.prog Tryz.f40.ntmps) = some c40 := by kernel_rfl
theorem r40_ok : Tryz.f40.results.toList.mapM (cRes Tryz.prog Tryz.f40.ntmps) = some r40 := by kernel_rfl
def c41r0 : List AOper :=
 [⟨some 4, none, .mv (.c (.bool false))⟩]
def c41r1 : List AOper :=
 [⟨some 7, none, .mv (.t 1)⟩,
 ⟨some 8, none, .lenL (.t 7)⟩,
 ⟨some 9, none, .mv (.c (.int .i64 0))⟩]
def c41r2 : List AOper :=
 [⟨some 10, none, .bin .lss (.t 9) (.t 8)⟩]
def c41r3 : List AOper :=
 [⟨some 11, none, .mv (.t 9)⟩,
 ⟨some 12, none, .idxA (.t 7) (.t 9) none 1⟩,
 ⟨some 13, none, .load (.t 12) none⟩,
 ⟨some 5, none, .mv (.t 11)⟩,
 ⟨some 6, none, .mv (.t 13)⟩]
def c41r4 : List AOper :=
 [⟨some 14, none, .mv (.t 6)⟩,
 ⟨some 15, none, .bin .lss (.t 14) (.c (.int .i64 1))⟩,
 ⟨some 16, none, .mv (.t 15)⟩,
 ⟨some 17, some (16, false), .mv (.t 6)⟩,
 ⟨some 18, some (16, false), .bin .gtr (.t 17) (.c (.int .i64 1099511627775))⟩,
 ⟨some 19, none, .pick (.t 16) (.c (.bool true)) (.t 18)⟩,
 ⟨some 20, none, .mv (.t 19)⟩,
 ⟨some 21, some (20, false), .mv (.t 5)⟩,
 ⟨some 22, some (20, false), .bin .gtr (.t 21) (.c (.int .i64 0))⟩,
 ⟨some 23, some (20, false), .mv (.t 22)⟩,
 ⟨some 24, some (23, true), .mv (.t 1)⟩,
 ⟨some 25, some (23, true), .mv (.t 5)⟩,
 ⟨some 26, some (23, true), .bin .sub (.t 25) (.c (.int .i64 1))⟩,
 ⟨some 27, some (23, true), .idxA (.t 24) (.t 26) none 1⟩,
 ⟨some 28, some (23, true), .load (.t 27) none⟩,
 ⟨some 29, some (23, true), .mv (.t 6)⟩,
 ⟨some 30, some (23, true), .bin .geq (.t 28) (.t 29)⟩,
 ⟨some 31, some (20, false), .pick (.t 23) (.t 30) (.c (.bool false))⟩,
 ⟨some 32, none, .pick (.t 20) (.c (.bool true)) (.t 31)⟩]
def c41r5 : List AOper :=
 [⟨some 4, none, .mv (.c (.bool false))⟩]
def c41r6 : List AOper :=
 [⟨some 33, none, .bin .add (.t 9) (.c (.int .i64 1))⟩,
 ⟨some 9, none, .mv (.t 33)⟩]
def c41l0 : AC := (.seq (.region c41r2) (.seq (.cond (.t 10) .skip (.exit 0)) (.seq (.block 1 (.seq (.region c41r3) (.seq (.region c41r4) (.cond (.t 32) (.seq (.region c41r5) .ret) .skip)))) (.region c41r6))))
def c41r7 : List AOper :=
 [⟨some 34, none, .mv (.t 0)⟩,
 ⟨some 35, none, .bin .geq (.t 34) (.c (.int .i64 0))⟩,
 ⟨some 36, none, .mv (.t 35)⟩,
 ⟨some 37, some (36, true), .mv (.t 0)⟩,
 ⟨some 38, some (36, true), .bin .leq (.t 37) (.c (.int .i64 1099511627775))⟩,
 ⟨some 39, none, .pick (.t 36) (.t 38) (.c (.bool false))⟩,
 ⟨some 40, none, .mv (.t 39)⟩,
 ⟨some 41, some (40, true), .mv (.t 1)⟩,
 ⟨some 42, some (40, true), .lenL (.t 41)⟩,
 ⟨some 43, some (40, true), .bin .leq (.t 42) (.c (.int .i64 64))⟩,
 ⟨some 44, none, .pick (.t 40) (.t 43) (.c (.bool false))⟩,
 ⟨some 4, none, .mv (.t 44)⟩]
def c41 : AC := (.seq (.region c41r0) (.seq (.seq (.region c41r1) (.block 0 (.loop c41l0))) (.seq (.region c41r7) .ret)))
def r41 : List ARes := [.tmp 4]
theorem c41_ok : Tryz.f41.body.bind (cCode Tryz.prog Tryz.f41.ntmps) = some c41 := by kernel_rfl
theorem r41_ok : Tryz.f41.results.toList.mapM (cRes Tryz.prog Tryz.f41.ntmps) = some r41 := by kernel_rfl
def c42r0 : List AOper :=
 [⟨some 2, none, .mv (.c .nils)⟩]
def c42r1 : List AOper :=
 [⟨some 3, none, .mv (.t 0)⟩,
 ⟨some 4, none, .eq false 2 (.t 3) (.c .nils)⟩]
def c42r2 : List AOper :=
 [⟨some 2, none, .mv (.c .nils)⟩]
def c42r3 : List AOper :=
 [⟨some 5, none, .bslice 0 1 [.int .i64 0] []⟩,
 ⟨some 6, none, .mv (.t 0)⟩,
 ⟨some 7, none, .append (.t 5) (.t 6) 1 8 false⟩,
 ⟨some 2, none, .mv (.t 7)⟩]
def c42 : AC := (.seq (.region c42r0) (.seq (.seq (.region c42r1) (.cond (.t 4) (.seq (.region c42r2) .ret) .skip)) (.seq (.region c42r3) .ret)))
def r42 : List ARes := [.tmp 2]
theorem c42_ok : Tryz.f42.body.bind (cCode Tryz.prog Tryz.f42.ntmps) = some c42 := by kernel_rfl
theorem r42_ok : Tryz.f42.results.toList.mapM (cRes Tryz.prog Tryz.f42.ntmps) = some r42 := by kernel_rfl
def c43r0 : List AOper :=
 [⟨some 2, none, .mv (.c (.int .i64 0))⟩,
 ⟨some 3, none, .mv (.c (.int .i64 0))⟩]
def c43r1 : List AOper :=
 [⟨some 5, none, .mv (.t 0)⟩,
 ⟨some 6, none, .call (.c (.fn 81 [])) [.t 5]⟩,
 ⟨some 4, none, .mv (.t 6)⟩]
def c43r2 : List AOper :=
 [⟨some 7, none, .mv (.t 4)⟩,
 ⟨some 8, none, .bin .eql (.t 7) (.c (.int .i64 0))⟩,
 ⟨some 9, none, .mv (.t 8)⟩,
 ⟨some 10, some (9, true), .mv (.t 0)⟩,
 ⟨some 11, some (9, true), .nilck (.t 10)⟩,
 ⟨some 12, some (9, true), .fldA (.t 11) 2⟩,
 ⟨some 13, some (9, true), .load (.t 12) none⟩,
 ⟨some 14, some (9, true), .bin .geq (.t 13) (.c (.int .i64 99999998))⟩,
 ⟨some 15, none, .pick (.t 9) (.t 14) (.c (.bool false))⟩]
def c43r3 : List AOper :=
 [⟨some 4, none, .mv (.c (.int .i64 2))⟩]
def c43r4 : List AOper :=
 [⟨some 16, none, .mv (.t 4)⟩,
 ⟨some 17, none, .bin .eql (.t 16) (.c (.int .i64 0))⟩]
def c43d0 : List (AOper × List Nat) :=
 [(⟨some 18, none, .mv (.t 0)⟩, []),
 (⟨some 19, none, .nilck (.t 18)⟩, [0]),
 (⟨some 20, none, .fldA (.t 19) 0⟩, [1]),
 (⟨some 21, none, .load (.t 20) none⟩, [2]),
 (⟨some 22, none, .mv (.t 0)⟩, []),
 (⟨some 23, none, .nilck (.t 22)⟩, [4]),
 (⟨some 24, none, .fldA (.t 23) 2⟩, [5]),
 (⟨some 25, none, .load (.t 24) none⟩, [6]),
 (⟨some 26, none, .bin .add (.t 25) (.c (.int .i64 1))⟩, [7]),
 (⟨some 27, none, .call (.c (.fn 72 [])) [.t 26]⟩, [8]),
 (⟨some 28, none, .call (.c (.fn 75 [])) [.t 21, .t 27]⟩, [3, 9, 9]),
 (⟨some 4, none, .mv (.t 28)⟩, [10, 10, 0, 1, 2, 3, 4, 5, 6, 7, 8, 9, 10])]
def c43r5 : List AOper :=
 [⟨some 29, none, .mv (.t 4)⟩,
 ⟨some 30, none, .bin .neq (.t 29) (.c (.int .i64 0))⟩]
def c43r6 : List AOper :=
 [⟨some 31, none, .mv (.t 4)⟩,
 ⟨some 2, none, .mv (.c (.int .i64 0))⟩,
 ⟨some 3, none, .mv (.t 31)⟩]
def c43r7 : List AOper :=
 [⟨some 32, none, .mv (.t 0)⟩,
 ⟨some 33, none, .nilck (.t 32)⟩,
 ⟨some 34, none, .fldA (.t 33) 2⟩,
 ⟨some 35, none, .load (.t 34) none⟩,
 ⟨some 36, none, .bin .add (.t 35) (.c (.int .i64 1))⟩,
 ⟨some 37, none, .nilck (.t 32)⟩,
 ⟨some 38, none, .fldA (.t 37) 2⟩,
 ⟨none, none, .store (.t 38) (.t 36) 1⟩]
def c43r8 : List AOper :=
 [⟨some 39, none, .mv (.t 0)⟩,
 ⟨some 40, none, .nilck (.t 39)⟩,
 ⟨some 41, none, .fldA (.t 40) 2⟩,
 ⟨some 42, none, .load (.t 41) none⟩,
 ⟨some 2, none, .mv (.t 42)⟩,
 ⟨some 3, none, .mv (.c (.int .i64 0))⟩]
def c43 : AC := (.seq (.region c43r0) (.seq (.region c43r1) (.seq (.seq (.region c43r2) (.cond (.t 15) (.region c43r3) .skip)) (.seq (.seq (.region c43r4) (.cond (.t 17) (.drawn c43d0) .skip)) (.seq (.seq (.region c43r5) (.cond (.t 30) (.seq (.region c43r6) .ret) .skip)) (.seq (.region c43r7) (.seq (.region c43r8) .ret)))))))
def r43 : List ARes := [.tmp 2, .tmp 3]
theorem c43_ok : Tryz.f43.body.bind (cCode Tryz.prog Tryz.f43.ntmps) = some c43 := by kernel_rfl
theorem r43_ok : Tryz.f43.results.toList.mapM (cRes Tryz.prog Tryz.f43.ntmps) = some r43 := by kernel_rfl
def c44r0 : List AOper :=
 [⟨some 4, none, .mv (.c (.bool false))⟩]
def c44r1 : List AOper :=
 [⟨some 8, none, .mv (.t 0)⟩,
 ⟨some 9, none, .eq false 1 (.t 8) (.c .nilp)⟩,
 ⟨some 10, none, .mv (.t 9)⟩,
 ⟨some 11, some (10, false), .mv (.t 0)⟩,
 ⟨some 12, some (10, false), .nilck (.t 11)⟩,
 ⟨some 13, some (10, false), .fldA (.t 12) 0⟩,
 ⟨some 14, some (10, false), .load (.t 13) none⟩,
 ⟨some 15, some (10, false), .eq false 4 (.t 14) (.c .nilm)⟩,
 ⟨some 16, none, .pick (.t 10) (.c (.bool true)) (.t 15)⟩]
def c44r2 : List AOper :=
 [⟨some 4, none, .mv (.c (.bool false))⟩]
def c44r3 : List AOper :=
 [⟨some 5, none, .mv (.c (.fn 85 []))⟩]
def c44r4 : List AOper :=
 [⟨some 17, none, .mv (.t 1)⟩,
 ⟨some 18, none, .lenL (.t 17)⟩,
 ⟨some 19, none, .mv (.c (.int .i64 0))⟩]
def c44r5 : List AOper :=
 [⟨some 20, none, .bin .lss (.t 19) (.t 18)⟩]
def c44r6 : List AOper :=
 [⟨some 21, none, .idxA (.t 17) (.t 19) none 1⟩,
 ⟨some 22, none, .load (.t 21) none⟩,
 ⟨some 7, none, .mv (.t 22)⟩]
def c44r7 : List AOper :=
 [⟨some 23, none, .mv (.t 7)⟩,
 ⟨some 24, none, .bin .eql (.t 23) (.c (.str []))⟩,
 ⟨some 25, none, .mv (.t 24)⟩,
 ⟨some 26, some (25, false), .mv (.t 7)⟩,
 ⟨some 27, some (25, false), .lenS (.t 26)⟩,
 ⟨some 28, some (25, false), .bin .gtr (.t 27) (.c (.int .i64 32))⟩,
 ⟨some 29, none, .pick (.t 25) (.c (.bool true)) (.t 28)⟩,
 ⟨some 30, none, .mv (.t 29)⟩,
 ⟨some 31, some (30, false), .mv (.t 7)⟩,
 ⟨some 32, some (30, false), .mv (.t 5)⟩,
 ⟨some 33, some (30, false), .call (.c (.fn 86 [])) [.t 31, .t 32]⟩,
 ⟨some 34, some (30, false), .bin .geq (.t 33) (.c (.int .i64 0))⟩,
 ⟨some 35, none, .pick (.t 30) (.c (.bool true)) (.t 34)⟩]
def c44r8 : List AOper :=
 [⟨some 4, none, .mv (.c (.bool false))⟩]
def c44r9 : List AOper :=
 [⟨some 36, none, .bin .add (.t 19) (.c (.int .i64 1))⟩,
 ⟨some 19, none, .mv (.t 36)⟩]
def c44l0 : AC := (.seq (.region c44r5) (.seq (.cond (.t 20) .skip (.exit 0)) (.seq (.block 1 (.seq (.region c44r6) (.seq (.region c44r7) (.cond (.t 35) (.seq (.region c44r8) .ret) .skip)))) (.region c44r9))))
def c44r10 : List AOper :=
 [⟨some 4, none, .mv (.c (.bool true))⟩]
def c44 : AC := (.seq (.region c44r0) (.seq (.seq (.region c44r1) (.cond (.t 16) (.seq (.region c44r2) .ret) .skip)) (.seq (.region c44r3) (.seq (.seq (.region c44r4) (.block 0 (.loop c44l0))) (.seq (.region c44r10) .ret)))))
def r44 : List ARes := [.tmp 4]
theorem c44_ok : Tryz.f44.body.bind (cCode Tryz.prog Tryz.f44.ntmps) = some c44 := by kernel_rfl
theorem r44_ok : Tryz.f44.results.toList.mapM (cRes Tryz.prog Tryz.f44.ntmps) = some r44 := by kernel_rfl
def c45r0 : List AOper :=
 [⟨some 2, none, .mv (.c .nils)⟩]
def c45r1 : List AOper :=
 [⟨some 3, none, .mv (.t 0)⟩,
 ⟨some 4, none, .call (.c (.fn 44 [])) [.t 3, .c .nils]⟩,
 ⟨some 5, none, .un .not (.t 4)⟩]
def c45r2 : List AOper :=
 [⟨some 2, none, .mv (.c .nils)⟩]
def c45r3 : List AOper :=
 [⟨some 6, none, .mv (.t 0)⟩,
 ⟨some 7, none, .nilck (.t 6)⟩,
 ⟨some 8, none, .fldA (.t 7) 0⟩,
 ⟨some 9, none, .load (.t 8) none⟩,
 ⟨some 10, none, .call (.c (.fn 88 [])) [.t 9]⟩,
 ⟨some 11, none, .call (.c (.fn 87 [])) [.t 10]⟩,
 ⟨some 2, none, .mv (.t 11)⟩]
def c45 : AC := (.seq (.region c45r0) (.seq (.seq (.region c45r1) (.cond (.t 5) (.seq (.region c45r2) .ret) .skip)) (.seq (.region c45r3) .ret)))
def r45 : List ARes := [.tmp 2]
theorem c45_ok : Tryz.f45.body.bind (cCode Tryz.prog Tryz.f45.ntmps) = some c45 := by kernel_rfl
theorem r45_ok : Tryz.f45.results.toList.mapM (cRes Tryz.prog Tryz.f45.ntmps) = some r45 := by kernel_rfl
def c46r0 : List AOper :=
 [⟨some 2, none, .mv (.c (.bool false))⟩]
def c46r1 : List AOper :=
 [⟨some 3, none, .mv (.c (.int .i64 0))⟩]
def c46r2 : List AOper :=
 [⟨some 4, none, .mv (.t 3)⟩,
 ⟨some 5, none, .mv (.t 0)⟩,
 ⟨some 6, none, .lenL (.t 5)⟩,
 ⟨some 7, none, .bin .lss (.t 4) (.t 6)⟩,
 ⟨some 8, none, .mv (.t 7)⟩,
 ⟨some 9, some (8, true), .mv (.t 3)⟩,
 ⟨some 10, some (8, true), .bin .lss (.t 9) (.c (.int .i64 65))⟩,
 ⟨some 11, none, .pick (.t 8) (.t 10) (.c (.bool false))⟩]
def c46d0 : List (AOper × List Nat) :=
 [(⟨some 14, none, .mv (.t 0)⟩, []),
 (⟨some 15, none, .mv (.t 3)⟩, []),
 (⟨some 16, none, .idxA (.t 14) (.t 15) none 1⟩, [0, 1]),
 (⟨some 17, none, .load (.t 16) none⟩, [2]),
 (⟨some 18, none, .bin .lss (.t 17) (.c (.int .i64 1))⟩, [3]),
 (⟨some 19, none, .mv (.t 18)⟩, [4]),
 (⟨some 20, some (19, false), .mv (.t 0)⟩, [5]),
 (⟨some 21, some (19, false), .mv (.t 3)⟩, [5]),
 (⟨some 22, some (19, false), .idxA (.t 20) (.t 21) none 1⟩, [6, 7, 5]),
 (⟨some 23, some (19, false), .load (.t 22) none⟩, [8, 5]),
 (⟨some 24, some (19, false), .bin .gtr (.t 23) (.c (.int .i64 1099511627775))⟩, [9, 5]),
 (⟨some 25, none, .pick (.t 19) (.c (.bool true)) (.t 24)⟩, [5, 10]),
 (⟨some 26, none, .mv (.t 25)⟩, [11, 5]),
 (⟨some 27, some (26, false), .mv (.t 3)⟩, [12]),
 (⟨some 28, some (26, false), .bin .gtr (.t 27) (.c (.int .i64 0))⟩, [13, 12]),
 (⟨some 29, some (26, false), .mv (.t 28)⟩, [14, 12, 12]),
 (⟨some 30, some (29, true), .mv (.t 0)⟩, [15]),
 (⟨some 31, some (29, true), .mv (.t 3)⟩, [15]),
 (⟨some 32, some (29, true), .bin .sub (.t 31) (.c (.int .i64 1))⟩, [17, 15]),
 (⟨some 33, some (29, true), .idxA (.t 30) (.t 32) none 1⟩, [16, 18, 15]),
 (⟨some 34, some (29, true), .load (.t 33) none⟩, [19, 15]),
 (⟨some 35, some (29, true), .mv (.t 0)⟩, [15]),
 (⟨some 36, some (29, true), .mv (.t 3)⟩, [15]),
 (⟨some 37, some (29, true), .idxA (.t 35) (.t 36) none 1⟩, [21, 22, 15]),
 (⟨some 38, some (29, true), .load (.t 37) none⟩, [23, 15]),
 (⟨some 39, some (29, true), .bin .geq (.t 34) (.t 38)⟩, [20, 24, 15]),
 (⟨some 40, some (26, false), .pick (.t 29) (.t 39) (.c (.bool false))⟩, [15, 25, 12]),
 (⟨some 41, none, .pick (.t 26) (.c (.bool true)) (.t 40)⟩, [12, 26])]
def c46r3 : List AOper :=
 [⟨some 2, none, .mv (.c (.bool false))⟩]
def c46r4 : List AOper :=
 [⟨some 12, none, .mv (.t 3)⟩,
 ⟨some 13, none, .bin .add (.t 12) (.c (.int .i64 1))⟩,
 ⟨some 3, none, .mv (.t 13)⟩]
def c46l0 : AC := (.seq (.seq (.region c46r2) (.cond (.t 11) .skip (.exit 0))) (.seq (.block 1 (.seq (.drawn c46d0) (.cond (.t 41) (.seq (.region c46r3) .ret) .skip))) (.region c46r4)))
def c46r5 : List AOper :=
 [⟨some 42, none, .mv (.t 0)⟩,
 ⟨some 43, none, .lenL (.t 42)⟩,
 ⟨some 44, none, .bin .leq (.t 43) (.c (.int .i64 64))⟩,
 ⟨some 2, none, .mv (.t 44)⟩]
def c46 : AC := (.seq (.region c46r0) (.seq (.seq (.region c46r1) (.block 0 (.loop c46l0))) (.seq (.region c46r5) .ret)))
def r46 : List ARes := [.tmp 2]
theorem c46_ok : Tryz.f46.body.bind (cCode Tryz.prog Tryz.f46.ntmps) = some c46 := by kernel_rfl
theorem r46_ok : Tryz.f46.results.toList.mapM (cRes Tryz.prog Tryz.f46.ntmps) = some r46 := by kernel_rfl
def c47r0 : List AOper :=
 [⟨some 4, none, .mv (.c (.int .i64 0))⟩,
 ⟨some 5, none, .mv (.c (.int .i64 0))⟩]
def c47r1 : List AOper :=
 [⟨some 9, none, .mv (.t 0)⟩,
 ⟨some 10, none, .mv (.t 1)⟩,
 ⟨some 11, none, .call (.c (.fn 89 [])) [.t 9, .t 10]⟩,
 ⟨some 8, none, .mv (.t 11)⟩,
 ⟨some 12, none, .ext (.t 8) 0⟩,
 ⟨some 13, none, .ext (.t 8) 1⟩,
 ⟨some 6, none, .mv (.t 12)⟩,
 ⟨some 7, none, .mv (.t 13)⟩]
def c47r2 : List AOper :=
 [⟨some 14, none, .mv (.t 7)⟩,
 ⟨some 15, none, .bin .neq (.t 14) (.c (.int .i64 0))⟩]
def c47r3 : List AOper :=
 [⟨some 16, none, .mv (.t 7)⟩,
 ⟨some 4, none, .mv (.c (.int .i64 0))⟩,
 ⟨some 5, none, .mv (.t 16)⟩]
def c47r4 : List AOper :=
 [⟨some 17, none, .mv (.t 6)⟩,
 ⟨some 18, none, .nilck (.t 17)⟩,
 ⟨some 19, none, .fldA (.t 18) 1⟩,
 ⟨some 20, none, .load (.t 19) none⟩,
 ⟨some 4, none, .mv (.t 20)⟩,
 ⟨some 5, none, .mv (.c (.int .i64 0))⟩]
def c47 : AC := (.seq (.region c47r0) (.seq (.region c47r1) (.seq (.seq (.region c47r2) (.cond (.t 15) (.seq (.region c47r3) .ret) .skip)) (.seq (.region c47r4) .ret))))
def r47 : List ARes := [.tmp 4, .tmp 5]
theorem c47_ok : Tryz.f47.body.bind (cCode Tryz.prog Tryz.f47.ntmps) = some c47 := by kernel_rfl
theorem r47_ok : Tryz.f47.results.toList.mapM (cRes Tryz.prog Tryz.f47.ntmps) = some r47 := by kernel_rfl
def c68r0 : List AOper :=
 [⟨some 2, none, .mv (.c (.bool false))⟩]
def c68r1 : List AOper :=
 [⟨some 6, none, .mv (.t 0)⟩,
 ⟨some 7, none, .call (.c (.fn 47 [])) [.t 6, .c (.str [97])]⟩,
 ⟨some 5, none, .mv (.t 7)⟩,
 ⟨some 8, none, .ext (.t 5) 0⟩,
 ⟨some 9, none, .ext (.t 5) 1⟩,
 ⟨some 3, none, .mv (.t 8)⟩,
 ⟨some 4, none, .mv (.t 9)⟩]
def c68r2 : List AOper :=
 [⟨some 10, none, .mv (.t 4)⟩,
 ⟨some 11, none, .bin .neq (.t 10) (.c (.int .i64 1))⟩,
 ⟨some 2, none, .mv (.t 11)⟩]
def c68 : AC := (.seq (.region c68r0) (.seq (.region c68r1) (.seq (.region c68r2) .ret)))
def r68 : List ARes := [.tmp 2]
theorem c68_ok : Tryz.f68.body.bind (cCode Tryz.prog Tryz.f68.ntmps) = some c68 := by kernel_rfl
theorem r68_ok : Tryz.f68.results.toList.mapM (cRes Tryz.prog Tryz.f68.ntmps) = some r68 := by kernel_rfl
def c69r0 : List AOper :=
 [⟨some 4, none, .mv (.c (.int .i64 0))⟩]
def c69r1 : List AOper :=
 [⟨some 10, none, .mv (.t 0)⟩,
 ⟨some 11, none, .call (.c (.fn 45 [])) [.t 10]⟩,
 ⟨some 12, none, .lenL (.t 11)⟩,
 ⟨some 13, none, .mv (.c (.int .i64 0))⟩]
def c69r2 : List AOper :=
 [⟨some 14, none, .bin .lss (.t 13) (.t 12)⟩]
def c69r3 : List AOper :=
 [⟨some 15, none, .idxA (.t 11) (.t 13) none 1⟩,
 ⟨some 16, none, .load (.t 15) none⟩,
 ⟨some 6, none, .mv (.t 16)⟩]
def c69r4 : List AOper :=
 [⟨some 18, none, .mv (.t 6)⟩,
 ⟨some 19, none, .call (.c (.fn 122 [])) [.t 18]⟩,
 ⟨some 17, none, .mv (.t 19)⟩,
 ⟨some 20, none, .ext (.t 17) 0⟩,
 ⟨some 21, none, .ext (.t 17) 1⟩,
 ⟨some 7, none, .mv (.t 20)⟩,
 ⟨some 8, none, .mv (.t 21)⟩]
def c69r5 : List AOper :=
 [⟨some 22, none, .mv (.t 8)⟩,
 ⟨some 23, none, .un .not (.t 22)⟩]
def c69r6 : List AOper :=
 [⟨some 24, none, .mv (.t 1)⟩,
 ⟨some 25, none, .mv (.t 7)⟩,
 ⟨some 26, none, .call (.t 24) [.t 25]⟩,
 ⟨some 9, none, .mv (.t 26)⟩]
def c69r7 : List AOper :=
 [⟨some 27, none, .mv (.t 9)⟩,
 ⟨some 28, none, .bin .neq (.t 27) (.c (.int .i64 0))⟩]
def c69r8 : List AOper :=
 [⟨some 29, none, .mv (.t 9)⟩,
 ⟨some 4, none, .mv (.t 29)⟩]
def c69r9 : List AOper :=
 [⟨some 30, none, .bin .add (.t 13) (.c (.int .i64 1))⟩,
 ⟨some 13, none, .mv (.t 30)⟩]
def c69l0 : AC := (.seq (.region c69r2) (.seq (.cond (.t 14) .skip (.exit 0)) (.seq (.block 1 (.seq (.region c69r3) (.seq (.region c69r4) (.seq (.seq (.region c69r5) (.cond (.t 23) (.exit 1) .skip)) (.seq (.region c69r6) (.seq (.region c69r7) (.cond (.t 28) (.seq (.region c69r8) .ret) .skip))))))) (.region c69r9))))
def c69r10 : List AOper :=
 [⟨some 4, none, .mv (.c (.int .i64 0))⟩]
def c69 : AC := (.seq (.region c69r0) (.seq (.seq (.region c69r1) (.block 0 (.loop c69l0))) (.seq (.region c69r10) .ret)))
def r69 : List ARes := [.tmp 4]
theorem c69_ok : Tryz.f69.body.bind (cCode Tryz.prog Tryz.f69.ntmps) = some c69 := by kernel_rfl
theorem r69_ok : Tryz.f69.results.toList.mapM (cRes Tryz.prog Tryz.f69.ntmps) = some r69 := by kernel_rfl
def c70r0 : List AOper :=
 [⟨some 5, none, .mv (.c (.int .i64 0))⟩]
def c70r1 : List AOper :=
 [⟨some 12, none, .mv (.t 0)⟩,
 ⟨some 13, none, .load (.t 1) none⟩,
 ⟨some 14, none, .bin .lss (.t 12) (.t 13)⟩]
def c70d0 : List (AOper × List Nat) :=
 [(⟨some 15, none, .load (.t 2) none⟩, []),
 (⟨some 16, none, .mv (.t 0)⟩, []),
 (⟨some 17, none, .call (.c (.fn 72 [])) [.t 16]⟩, [1]),
 (⟨some 18, none, .call (.c (.fn 71 [])) [.t 15, .t 17]⟩, [0, 2, 2]),
 (⟨some 5, none, .mv (.t 18)⟩, [3, 3, 0, 1, 2, 3])]
def c70d1 : List (AOper × List Nat) :=
 [(⟨some 20, none, .load (.t 2) none⟩, []),
 (⟨some 21, none, .mv (.t 0)⟩, []),
 (⟨some 22, none, .call (.c (.fn 72 [])) [.t 21]⟩, [1]),
 (⟨some 23, none, .call (.c (.fn 73 [])) [.t 20, .t 22]⟩, [0, 2, 2]),
 (⟨some 19, none, .mv (.t 23)⟩, [3]),
 (⟨some 24, none, .ext (.t 19) 0⟩, [4]),
 (⟨some 25, none, .ext (.t 19) 1⟩, [4]),
 (⟨some 6, none, .mv (.t 24)⟩, [5, 3, 0, 1, 2, 3, 4, 5]),
 (⟨some 7, none, .mv (.t 25)⟩, [6, 7, 0, 1, 2, 3, 4, 5, 6, 7])]
def c70r2 : List AOper :=
 [⟨some 27, none, .mv (.t 6)⟩,
 ⟨some 28, none, .call (.c (.fn 74 [])) [.t 27]⟩,
 ⟨some 26, none, .mv (.t 28)⟩,
 ⟨some 29, none, .ext (.t 26) 0⟩,
 ⟨some 30, none, .ext (.t 26) 1⟩,
 ⟨some 8, none, .mv (.t 29)⟩,
 ⟨some 9, none, .mv (.t 30)⟩]
def c70r3 : List AOper :=
 [⟨some 31, none, .mv (.t 8)⟩,
 ⟨some 32, none, .lenL (.t 31)⟩,
 ⟨some 33, none, .mv (.c (.int .i64 0))⟩]
def c70r4 : List AOper :=
 [⟨some 34, none, .bin .lss (.t 33) (.t 32)⟩]
def c70r5 : List AOper :=
 [⟨some 35, none, .idxA (.t 31) (.t 33) none 1⟩,
 ⟨some 36, none, .load (.t 35) none⟩,
 ⟨some 11, none, .mv (.t 36)⟩]
def c70d2 : List (AOper × List Nat) :=
 [(⟨some 37, none, .load (.t 3) none⟩, []),
 (⟨some 38, none, .load (.t 3) none⟩, []),
 (⟨some 39, none, .nilck (.t 38)⟩, [1]),
 (⟨some 40, none, .fldA (.t 39) 1⟩, [2]),
 (⟨some 41, none, .load (.t 40) none⟩, [3]),
 (⟨some 42, none, .mv (.t 11)⟩, []),
 (⟨some 43, none, .mv (.t 0)⟩, []),
 (⟨some 44, none, .build [.str [], .int .i64 0] [(0, 1, .t 42), (1, 1, .t 43)]⟩, [5, 6]),
 (⟨some 45, none, .bslice 1 2 [.str [], .int .i64 0] [(0, .t 44)]⟩, [7]),
 (⟨some 46, none, .append (.t 41) (.t 45) 2 24 false⟩, [4, 8]),
 (⟨some 47, none, .nilck (.t 37)⟩, [0, 0, 1, 2, 3, 4, 5, 6, 7, 8, 9]),
 (⟨some 48, none, .fldA (.t 47) 1⟩, [10, 0, 1, 2, 3, 4, 5, 6, 7, 8, 9]),
 (⟨none, none, .store (.t 48) (.t 46) 1⟩, [11, 9, 9, 0, 1, 2, 3, 4, 5, 6, 7, 8, 9])]
def c70r6 : List AOper :=
 [⟨some 49, none, .bin .add (.t 33) (.c (.int .i64 1))⟩,
 ⟨some 33, none, .mv (.t 49)⟩]
def c70l0 : AC := (.seq (.region c70r4) (.seq (.cond (.t 34) .skip (.exit 0)) (.seq (.block 1 (.seq (.region c70r5) (.drawn c70d2))) (.region c70r6))))
def c70r7 : List AOper :=
 [⟨some 50, none, .load (.t 3) none⟩,
 ⟨some 51, none, .mv (.t 0)⟩,
 ⟨some 52, none, .bin .add (.t 51) (.c (.int .i64 1))⟩,
 ⟨some 53, none, .nilck (.t 50)⟩,
 ⟨some 54, none, .fldA (.t 53) 2⟩,
 ⟨none, none, .store (.t 54) (.t 52) 1⟩]
def c70r8 : List AOper :=
 [⟨some 55, none, .mv (.t 7)⟩,
 ⟨some 5, none, .mv (.t 55)⟩]
def c70 : AC := (.seq (.region c70r0) (.seq (.seq (.region c70r1) (.cond (.t 14) (.seq (.drawn c70d0) .ret) .skip)) (.seq (.drawn c70d1) (.seq (.region c70r2) (.seq (.seq (.region c70r3) (.block 0 (.loop c70l0))) (.seq (.region c70r7) (.seq (.region c70r8) .ret)))))))
def r70 : List ARes := [.tmp 5]
theorem c70_ok : Tryz.f70.body.bind (cCode Tryz.prog Tryz.f70.ntmps) = some c70 := by kernel_rfl
theorem r70_ok : Tryz.f70.results.toList.mapM (cRes Tryz.prog Tryz.f70.ntmps) = some r70 := by kernel_rfl
def c71r0 : List AOper :=
 [⟨some 4, none, .mv (.c (.int .i64 0))⟩]
def c71r1 : List AOper :=
 [⟨some 8, none, .mv (.t 0)⟩,
 ⟨some 9, none, .mv (.t 1)⟩,
 ⟨some 10, none, .call (.c (.fn 123 [])) [.t 8, .t 9, .c .nils]⟩,
 ⟨some 7, none, .mv (.t 10)⟩,
 ⟨some 11, none, .ext (.t 7) 0⟩,
 ⟨some 12, none, .ext (.t 7) 1⟩,
 ⟨some 5, none, .mv (.t 11)⟩,
 ⟨some 6, none, .mv (.t 12)⟩]
def c71r2 : List AOper :=
 [⟨some 13, none, .mv (.t 6)⟩,
 ⟨some 14, none, .bin .eql (.t 13) (.c (.int .i64 0))⟩]
def c71r3 : List AOper :=
 [⟨some 15, none, .mv (.t 0)⟩,
 ⟨some 16, none, .nilck (.t 15)⟩,
 ⟨some 17, none, .fldA (.t 16) 0⟩,
 ⟨some 18, none, .load (.t 17) none⟩,
 ⟨some 19, none, .mv (.t 1)⟩,
 ⟨none, none, .mdel 1 (.t 18) (.t 19)⟩]
def c71r4 : List AOper :=
 [⟨some 20, none, .mv (.t 6)⟩,
 ⟨some 4, none, .mv (.t 20)⟩]
def c71 : AC := (.seq (.region c71r0) (.seq (.region c71r1) (.seq (.seq (.region c71r2) (.cond (.t 14) (.region c71r3) .skip)) (.seq (.region c71r4) .ret))))
def r71 : List ARes := [.tmp 4]
theorem c71_ok : Tryz.f71.body.bind (cCode Tryz.prog Tryz.f71.ntmps) = some c71 := by kernel_rfl
theorem r71_ok : Tryz.f71.results.toList.mapM (cRes Tryz.prog Tryz.f71.ntmps) = some r71 := by kernel_rfl
def c72r0 : List AOper :=
 [⟨some 2, none, .mv (.c (.str []))⟩]
def c72r1 : List AOper :=
 [⟨some 4, none, .mv (.t 0)⟩,
 ⟨some 5, none, .call (.c (.fn 124 [])) [.t 4]⟩,
 ⟨some 3, none, .mv (.t 5)⟩]
def c72r2 : List AOper :=
 [⟨some 6, none, .mv (.t 3)⟩,
 ⟨some 7, none, .lenS (.t 6)⟩,
 ⟨some 8, none, .bin .sub (.c (.int .i64 8)) (.t 7)⟩,
 ⟨some 9, none, .call (.c (.fn 125 [])) [.c (.str [48]), .t 8]⟩,
 ⟨some 10, none, .bin .add (.c (.str [108, 111, 103, 45])) (.t 9)⟩,
 ⟨some 11, none, .mv (.t 3)⟩,
 ⟨some 12, none, .bin .add (.t 10) (.t 11)⟩,
 ⟨some 2, none, .mv (.t 12)⟩]
def c72 : AC := (.seq (.region c72r0) (.seq (.region c72r1) (.seq (.region c72r2) .ret)))
def r72 : List ARes := [.tmp 2]
theorem c72_ok : Tryz.f72.body.bind (cCode Tryz.prog Tryz.f72.ntmps) = some c72 := by kernel_rfl
theorem r72_ok : Tryz.f72.results.toList.mapM (cRes Tryz.prog Tryz.f72.ntmps) = some r72 := by kernel_rfl
def c73r0 : List AOper :=
 [⟨some 4, none, .mv (.c (.str []))⟩,
 ⟨some 5, none, .mv (.c (.int .i64 0))⟩]
def c73r1 : List AOper :=
 [⟨some 9, none, .mv (.t 0)⟩,
 ⟨some 10, none, .mv (.t 1)⟩,
 ⟨some 11, none, .call (.c (.fn 89 [])) [.t 9, .t 10]⟩,
 ⟨some 8, none, .mv (.t 11)⟩,
 ⟨some 12, none, .ext (.t 8) 0⟩,
 ⟨some 13, none, .ext (.t 8) 1⟩,
 ⟨some 6, none, .mv (.t 12)⟩,
 ⟨some 7, none, .mv (.t 13)⟩]
def c73r2 : List AOper :=
 [⟨some 14, none, .mv (.t 7)⟩,
 ⟨some 15, none, .bin .neq (.t 14) (.c (.int .i64 0))⟩]
def c73r3 : List AOper :=
 [⟨some 16, none, .mv (.t 7)⟩,
 ⟨some 4, none, .mv (.c (.str []))⟩,
 ⟨some 5, none, .mv (.t 16)⟩]
def c73r4 : List AOper :=
 [⟨some 17, none, .mv (.t 6)⟩,
 ⟨some 18, none, .nilck (.t 17)⟩,
 ⟨some 19, none, .fldA (.t 18) 0⟩,
 ⟨some 20, none, .load (.t 19) none⟩,
 ⟨some 21, none, .b2s (.t 20)⟩,
 ⟨some 4, none, .mv (.t 21)⟩,
 ⟨some 5, none, .mv (.c (.int .i64 0))⟩]
def c73 : AC := (.seq (.region c73r0) (.seq (.region c73r1) (.seq (.seq (.region c73r2) (.cond (.t 15) (.seq (.region c73r3) .ret) .skip)) (.seq (.region c73r4) .ret))))
def r73 : List ARes := [.tmp 4, .tmp 5]
theorem c73_ok : Tryz.f73.body.bind (cCode Tryz.prog Tryz.f73.ntmps) = some c73 := by kernel_rfl
theorem r73_ok : Tryz.f73.results.toList.mapM (cRes Tryz.prog Tryz.f73.ntmps) = some r73 := by kernel_rfl
def c74r0 : List AOper :=
 [⟨some 2, none, .mv (.c .nils)⟩,
 ⟨some 3, none, .mv (.c (.int .i64 0))⟩]
def c74r1 : List AOper :=
 [⟨some 4, none, .alloc [.nils]⟩]
def c74r2 : List AOper :=
 [⟨some 6, none, .mv (.t 0)⟩,
 ⟨some 7, none, .mkf 127 [.t 4]⟩,
 ⟨some 8, none, .call (.c (.fn 126 [])) [.t 6, .t 7]⟩,
 ⟨some 5, none, .mv (.t 8)⟩]
def c74r3 : List AOper :=
 [⟨some 9, none, .load (.t 4) none⟩,
 ⟨some 10, none, .mv (.t 5)⟩,
 ⟨some 2, none, .mv (.t 9)⟩,
 ⟨some 3, none, .mv (.t 10)⟩]
def c74 : AC := (.seq (.region c74r0) (.seq (.region c74r1) (.seq (.region c74r2) (.seq (.region c74r3) .ret))))
def r74 : List ARes := [.tmp 2, .tmp 3]
theorem c74_ok : Tryz.f74.body.bind (cCode Tryz.prog Tryz.f74.ntmps) = some c74 := by kernel_rfl
theorem r74_ok : Tryz.f74.results.toList.mapM (cRes Tryz.prog Tryz.f74.ntmps) = some r74 := by kernel_rfl
def c75r0 : List AOper :=
 [⟨some 4, none, .mv (.c (.int .i64 0))⟩]
def c75r1 : List AOper :=
 [⟨some 8, none, .mv (.t 0)⟩,
 ⟨some 9, none, .mv (.t 1)⟩,
 ⟨some 10, none, .bslice 1 1 [.str []] [(0, .t 9)]⟩,
 ⟨some 11, none, .call (.c (.fn 128 [])) [.t 8, .t 10]⟩,
 ⟨some 5, none, .mv (.t 11)⟩]
def c75r2 : List AOper :=
 [⟨some 12, none, .mv (.t 5)⟩,
 ⟨some 13, none, .bin .neq (.t 12) (.c (.int .i64 0))⟩]
def c75r3 : List AOper :=
 [⟨some 14, none, .mv (.t 5)⟩,
 ⟨some 4, none, .mv (.t 14)⟩]
def c75r4 : List AOper :=
 [⟨some 16, none, .mv (.t 0)⟩,
 ⟨some 17, none, .nilck (.t 16)⟩,
 ⟨some 18, none, .fldA (.t 17) 0⟩,
 ⟨some 19, none, .load (.t 18) none⟩,
 ⟨some 20, none, .mv (.t 1)⟩,
 ⟨some 21, none, .mget 1 (.t 19) (.t 20) .nilp true⟩,
 ⟨some 15, none, .mv (.t 21)⟩,
 ⟨some 22, none, .ext (.t 15) 0⟩,
 ⟨some 23, none, .ext (.t 15) 1⟩,
 ⟨some 6, none, .mv (.t 22)⟩,
 ⟨some 7, none, .mv (.t 23)⟩]
def c75r5 : List AOper :=
 [⟨some 24, none, .mv (.t 7)⟩]
def c75r6 : List AOper :=
 [⟨some 4, none, .mv (.c (.int .i64 1))⟩]
def c75r7 : List AOper :=
 [⟨some 25, none, .mv (.t 0)⟩,
 ⟨some 26, none, .nilck (.t 25)⟩,
 ⟨some 27, none, .fldA (.t 26) 0⟩,
 ⟨some 28, none, .load (.t 27) none⟩,
 ⟨some 29, none, .lenM (.t 28)⟩,
 ⟨some 30, none, .bin .geq (.t 29) (.c (.int .i64 256))⟩]
def c75r8 : List AOper :=
 [⟨some 4, none, .mv (.c (.int .i64 2))⟩]
def c75r9 : List AOper :=
 [⟨some 31, none, .mv (.t 0)⟩,
 ⟨some 32, none, .nilck (.t 31)⟩,
 ⟨some 33, none, .fldA (.t 32) 0⟩,
 ⟨some 34, none, .load (.t 33) none⟩,
 ⟨some 35, none, .mv (.t 1)⟩,
 ⟨some 36, none, .build [.nils, .int .i64 0] []⟩,
 ⟨some 37, none, .box (.t 36)⟩,
 ⟨none, none, .mupd 1 (.t 34) (.t 35) (.t 37)⟩]
def c75r10 : List AOper :=
 [⟨some 4, none, .mv (.c (.int .i64 0))⟩]
def c75 : AC := (.seq (.region c75r0) (.seq (.seq (.region c75r1) (.seq (.region c75r2) (.cond (.t 13) (.seq (.region c75r3) .ret) .skip))) (.seq (.seq (.region c75r4) (.seq (.region c75r5) (.cond (.t 24) (.seq (.region c75r6) .ret) .skip))) (.seq (.seq (.region c75r7) (.cond (.t 30) (.seq (.region c75r8) .ret) .skip)) (.seq (.region c75r9) (.seq (.region c75r10) .ret))))))
def r75 : List ARes := [.tmp 4]
theorem c75_ok : Tryz.f75.body.bind (cCode Tryz.prog Tryz.f75.ntmps) = some c75 := by kernel_rfl
theorem r75_ok : Tryz.f75.results.toList.mapM (cRes Tryz.prog Tryz.f75.ntmps) = some r75 := by kernel_rfl
def c76r0 : List AOper :=
 [⟨some 2, none, .mv (.c (.bool false))⟩]
def c76r1 : List AOper :=
 [⟨some 3, none, .mv (.t 0)⟩,
 ⟨some 4, none, .eq true 1 (.t 3) (.c .nilp)⟩,
 ⟨some 5, none, .mv (.t 4)⟩,
 ⟨some 6, some (5, true), .mv (.t 0)⟩,
 ⟨some 7, some (5, true), .nilck (.t 6)⟩,
 ⟨some 8, some (5, true), .fldA (.t 7) 0⟩,
 ⟨some 9, some (5, true), .load (.t 8) none⟩,
 ⟨some 10, some (5, true), .eq true 1 (.t 9) (.c .nilp)⟩,
 ⟨some 11, none, .pick (.t 5) (.t 10) (.c (.bool false))⟩,
 ⟨some 2, none, .mv (.t 11)⟩]
def c76 : AC := (.seq (.region c76r0) (.seq (.region c76r1) .ret))
def r76 : List ARes := [.tmp 2]
theorem c76_ok : Tryz.f76.body.bind (cCode Tryz.prog Tryz.f76.ntmps) = some c76 := by kernel_rfl
theorem r76_ok : Tryz.f76.results.toList.mapM (cRes Tryz.prog Tryz.f76.ntmps) = some r76 := by kernel_rfl
def c77r0 : List AOper :=
 [⟨some 2, none, .mv (.c (.int .i64 0))⟩]
def c77r1 : List AOper :=
 [⟨some 7, none, .load (.t 0) none⟩,
 ⟨some 8, none, .call (.c (.fn 78 [])) [.t 7]⟩,
 ⟨some 6, none, .mv (.t 8)⟩,
 ⟨some 9, none, .ext (.t 6) 0⟩,
 ⟨some 10, none, .ext (.t 6) 1⟩,
 ⟨some 11, none, .ext (.t 6) 2⟩,
 ⟨some 3, none, .mv (.t 9)⟩,
 ⟨some 4, none, .mv (.t 10)⟩,
 ⟨some 5, none, .mv (.t 11)⟩]
def c77r2 : List AOper :=
 [⟨some 12, none, .load (.t 1) none⟩,
 ⟨some 13, none, .mv (.t 12)⟩,
 ⟨some 14, some (13, true), .mv (.t 5)⟩,
 ⟨some 15, some (13, true), .bin .eql (.t 14) (.c (.int .i64 0))⟩,
 ⟨some 16, none, .pick (.t 13) (.t 15) (.c (.bool false))⟩,
 ⟨none, none, .store (.t 1) (.t 16) 1⟩]
def c77r3 : List AOper :=
 [⟨some 17, none, .load (.t 0) none⟩,
 ⟨some 18, none, .mv (.t 4)⟩,
 ⟨some 19, none, .slcS (.t 17) (some (.t 18)) none⟩,
 ⟨none, none, .store (.t 0) (.t 19) 1⟩]
def c77r4 : List AOper :=
 [⟨some 20, none, .mv (.t 3)⟩,
 ⟨some 2, none, .mv (.t 20)⟩]
def c77 : AC := (.seq (.region c77r0) (.seq (.region c77r1) (.seq (.region c77r2) (.seq (.region c77r3) (.seq (.region c77r4) .ret)))))
def r77 : List ARes := [.tmp 2]
theorem c77_ok : Tryz.f77.body.bind (cCode Tryz.prog Tryz.f77.ntmps) = some c77 := by kernel_rfl
theorem r77_ok : Tryz.f77.results.toList.mapM (cRes Tryz.prog Tryz.f77.ntmps) = some r77 := by kernel_rfl
def c78r0 : List AOper :=
 [⟨some 2, none, .mv (.c (.int .i64 0))⟩,
 ⟨some 3, none, .mv (.c (.int .i64 0))⟩,
 ⟨some 4, none, .mv (.c (.int .i64 0))⟩]
def c78r1 : List AOper :=
 [⟨some 5, none, .mv (.c (.int .i64 0))⟩]
def c78r2 : List AOper :=
 [⟨some 8, none, .mv (.c (.int .i64 0))⟩]
def c78r3 : List AOper :=
 [⟨some 9, none, .bin .lss (.t 8) (.c (.int .i64 9))⟩]
def c78r4 : List AOper :=
 [⟨some 10, none, .mv (.t 8)⟩,
 ⟨some 6, none, .mv (.t 10)⟩]
def c78r5 : List AOper :=
 [⟨some 11, none, .mv (.t 6)⟩,
 ⟨some 12, none, .mv (.t 0)⟩,
 ⟨some 13, none, .lenS (.t 12)⟩,
 ⟨some 14, none, .bin .eql (.t 11) (.t 13)⟩]
def c78r6 : List AOper :=
 [⟨some 2, none, .mv (.c (.int .i64 0))⟩,
 ⟨some 3, none, .mv (.c (.int .i64 0))⟩,
 ⟨some 4, none, .mv (.c (.int .i64 10))⟩]
def c78r7 : List AOper :=
 [⟨some 15, none, .mv (.t 0)⟩,
 ⟨some 16, none, .mv (.t 6)⟩,
 ⟨some 17, none, .idxS (.t 15) (.t 16)⟩,
 ⟨some 7, none, .mv (.t 17)⟩]
def c78r8 : List AOper :=
 [⟨some 18, none, .mv (.t 5)⟩,
 ⟨some 19, none, .mv (.t 7)⟩,
 ⟨some 20, none, .bin .and (.t 19) (.c (.int .u8 127))⟩,
 ⟨some 21, none, .convI .i64 (.t 20)⟩,
 ⟨some 22, none, .mv (.t 6)⟩,
 ⟨some 23, none, .bin .mul (.c (.int .i64 7)) (.t 22)⟩,
 ⟨some 24, none, .bin .shl (.t 21) (.t 23)⟩,
 ⟨some 25, none, .bin .or (.t 18) (.t 24)⟩,
 ⟨some 5, none, .mv (.t 25)⟩]
def c78r9 : List AOper :=
 [⟨some 26, none, .mv (.t 7)⟩,
 ⟨some 27, none, .bin .geq (.t 26) (.c (.int .u8 128))⟩]
def c78r10 : List AOper :=
 [⟨some 28, none, .mv (.t 6)⟩,
 ⟨some 29, none, .bin .gtr (.t 28) (.c (.int .i64 0))⟩,
 ⟨some 30, none, .mv (.t 29)⟩,
 ⟨some 31, some (30, true), .mv (.t 7)⟩,
 ⟨some 32, some (30, true), .bin .eql (.t 31) (.c (.int .u8 0))⟩,
 ⟨some 33, none, .pick (.t 30) (.t 32) (.c (.bool false))⟩,
 ⟨some 34, none, .mv (.t 33)⟩,
 ⟨some 35, some (34, false), .mv (.t 5)⟩,
 ⟨some 36, some (34, false), .bin .gtr (.t 35) (.c (.int .i64 4611686018427387904))⟩,
 ⟨some 37, none, .pick (.t 34) (.c (.bool true)) (.t 36)⟩]
def c78r11 : List AOper :=
 [⟨some 38, none, .mv (.t 5)⟩,
 ⟨some 39, none, .mv (.t 6)⟩,
 ⟨some 40, none, .bin .add (.t 39) (.c (.int .i64 1))⟩,
 ⟨some 2, none, .mv (.t 38)⟩,
 ⟨some 3, none, .mv (.t 40)⟩,
 ⟨some 4, none, .mv (.c (.int .i64 0))⟩]
def c78r12 : List AOper :=
 [⟨some 41, none, .bin .add (.t 8) (.c (.int .i64 1))⟩,
 ⟨some 8, none, .mv (.t 41)⟩]
def c78l0 : AC := (.seq (.region c78r3) (.seq (.cond (.t 9) .skip (.exit 0)) (.seq (.block 1 (.seq (.region c78r4) (.seq (.seq (.region c78r5) (.cond (.t 14) (.seq (.region c78r6) .ret) .skip)) (.seq (.region c78r7) (.seq (.region c78r8) (.seq (.seq (.region c78r9) (.cond (.t 27) (.exit 1) .skip)) (.seq (.seq (.region c78r10) (.cond (.t 37) (.exit 0) .skip)) (.seq (.region c78r11) .ret)))))))) (.region c78r12))))
def c78r13 : List AOper :=
 [⟨some 2, none, .mv (.c (.int .i64 0))⟩,
 ⟨some 3, none, .mv (.c (.int .i64 0))⟩,
 ⟨some 4, none, .mv (.c (.int .i64 11))⟩]
def c78 : AC := (.seq (.region c78r0) (.seq (.region c78r1) (.seq (.seq (.region c78r2) (.block 0 (.loop c78l0))) (.seq (.region c78r13) .ret))))
def r78 : List ARes := [.tmp 2, .tmp 3, .tmp 4]
theorem c78_ok : Tryz.f78.body.bind (cCode Tryz.prog Tryz.f78.ntmps) = some c78 := by kernel_rfl
theorem r78_ok : Tryz.f78.results.toList.mapM (cRes Tryz.prog Tryz.f78.ntmps) = some r78 := by kernel_rfl
def c79r0 : List AOper :=
 [⟨some 4, none, .mv (.c (.int .i64 0))⟩]
def c79r1 : List AOper :=
 [⟨some 8, none, .mv (.t 0)⟩,
 ⟨some 9, none, .call (.c (.fn 76 [])) [.t 8]⟩,
 ⟨some 10, none, .un .not (.t 9)⟩,
 ⟨some 11, none, .mv (.t 10)⟩,
 ⟨some 12, some (11, false), .mv (.t 1)⟩,
 ⟨some 13, some (11, false), .lenS (.t 12)⟩,
 ⟨some 14, some (11, false), .bin .gtr (.t 13) (.c (.int .i64 131072))⟩,
 ⟨some 15, none, .pick (.t 11) (.c (.bool true)) (.t 14)⟩]
def c79r2 : List AOper :=
 [⟨some 4, none, .mv (.c (.int .i64 1))⟩]
def c79r3 : List AOper :=
 [⟨some 17, none, .mv (.t 1)⟩,
 ⟨some 18, none, .call (.c (.fn 129 [])) [.t 17]⟩,
 ⟨some 16, none, .mv (.t 18)⟩,
 ⟨some 19, none, .ext (.t 16) 0⟩,
 ⟨some 20, none, .ext (.t 16) 1⟩,
 ⟨some 5, none, .mv (.t 19)⟩,
 ⟨some 6, none, .mv (.t 20)⟩]
def c79d0 : List (AOper × List Nat) :=
 [(⟨some 21, none, .mv (.t 0)⟩, []),
 (⟨some 22, none, .nilck (.t 21)⟩, [0]),
 (⟨some 23, none, .fldA (.t 22) 0⟩, [1]),
 (⟨some 24, none, .load (.t 23) none⟩, [2]),
 (⟨some 25, none, .mv (.t 0)⟩, []),
 (⟨some 26, none, .nilck (.t 25)⟩, [4]),
 (⟨some 27, none, .fldA (.t 26) 2⟩, [5]),
 (⟨some 28, none, .load (.t 27) none⟩, [6]),
 (⟨some 29, none, .call (.c (.fn 72 [])) [.t 28]⟩, [7]),
 (⟨some 30, none, .mv (.t 5)⟩, []),
 (⟨some 31, none, .call (.c (.fn 130 [])) [.t 24, .t 29, .t 30]⟩, [3, 8, 9, 8]),
 (⟨some 7, none, .mv (.t 31)⟩, [10, 10, 0, 1, 2, 3, 4, 5, 6, 7, 8, 9, 10])]
def c79r4 : List AOper :=
 [⟨some 32, none, .mv (.t 7)⟩,
 ⟨some 33, none, .bin .eql (.t 32) (.c (.int .i64 0))⟩]
def c79d1 : List (AOper × List Nat) :=
 [(⟨some 34, none, .mv (.t 0)⟩, []),
 (⟨some 35, none, .mv (.t 0)⟩, []),
 (⟨some 36, none, .nilck (.t 35)⟩, [1]),
 (⟨some 37, none, .fldA (.t 36) 1⟩, [2]),
 (⟨some 38, none, .load (.t 37) none⟩, [3]),
 (⟨some 39, none, .mv (.t 1)⟩, []),
 (⟨some 40, none, .mv (.t 0)⟩, []),
 (⟨some 41, none, .nilck (.t 40)⟩, [6]),
 (⟨some 42, none, .fldA (.t 41) 2⟩, [7]),
 (⟨some 43, none, .load (.t 42) none⟩, [8]),
 (⟨some 44, none, .build [.str [], .int .i64 0] [(0, 1, .t 39), (1, 1, .t 43)]⟩, [5, 9]),
 (⟨some 45, none, .bslice 1 2 [.str [], .int .i64 0] [(0, .t 44)]⟩, [10]),
 (⟨some 46, none, .append (.t 38) (.t 45) 2 24 false⟩, [4, 11]),
 (⟨some 47, none, .nilck (.t 34)⟩, [0, 0, 1, 2, 3, 4, 5, 6, 7, 8, 9, 10, 11, 12]),
 (⟨some 48, none, .fldA (.t 47) 1⟩, [13, 0, 1, 2, 3, 4, 5, 6, 7, 8, 9, 10, 11, 12]),
 (⟨none, none, .store (.t 48) (.t 46) 1⟩, [14, 12, 12, 0, 1, 2, 3, 4, 5, 6, 7, 8, 9, 10, 11, 12])]
def c79r5 : List AOper :=
 [⟨some 49, none, .mv (.t 7)⟩,
 ⟨some 4, none, .mv (.t 49)⟩]
def c79 : AC := (.seq (.region c79r0) (.seq (.seq (.region c79r1) (.cond (.t 15) (.seq (.region c79r2) .ret) .skip)) (.seq (.region c79r3) (.seq (.drawn c79d0) (.seq (.seq (.region c79r4) (.cond (.t 33) (.drawn c79d1) .skip)) (.seq (.region c79r5) .ret))))))
def r79 : List ARes := [.tmp 4]
theorem c79_ok : Tryz.f79.body.bind (cCode Tryz.prog Tryz.f79.ntmps) = some c79 := by kernel_rfl
theorem r79_ok : Tryz.f79.results.toList.mapM (cRes Tryz.prog Tryz.f79.ntmps) = some r79 := by kernel_rfl
def c80r0 : List AOper :=
 [⟨some 4, none, .mv (.c (.str []))⟩]
def c80r1 : List AOper :=
 [⟨some 5, none, .allocT [.nilp, .nils] 208⟩]
def c80r2 : List AOper :=
 [⟨some 10, none, .mv (.t 0)⟩,
 ⟨some 11, none, .mv (.t 1)⟩,
 ⟨some 12, none, .lenL (.t 11)⟩,
 ⟨some 13, none, .bslice 2 1 [.int .i64 0] [(0, .t 10), (1, .t 12)]⟩,
 ⟨some 14, none, .mv (.t 1)⟩,
 ⟨some 15, none, .append (.t 13) (.t 14) 1 8 false⟩,
 ⟨some 16, none, .lenL (.t 15)⟩,
 ⟨some 17, none, .mv (.c (.int .i64 0))⟩]
def c80r3 : List AOper :=
 [⟨some 18, none, .bin .lss (.t 17) (.t 16)⟩]
def c80r4 : List AOper :=
 [⟨some 19, none, .idxA (.t 15) (.t 17) none 1⟩,
 ⟨some 20, none, .load (.t 19) none⟩,
 ⟨some 7, none, .mv (.t 20)⟩]
def c80r5 : List AOper :=
 [⟨some 22, none, .mv (.t 7)⟩,
 ⟨some 23, none, .call (.c (.fn 131 [])) [.t 22]⟩,
 ⟨some 21, none, .mv (.t 23)⟩,
 ⟨some 24, none, .ext (.t 21) 0⟩,
 ⟨some 25, none, .ext (.t 21) 1⟩,
 ⟨some 8, none, .mv (.t 24)⟩,
 ⟨some 9, none, .mv (.t 25)⟩]
def c80r6 : List AOper :=
 [⟨some 26, none, .mv (.t 8)⟩,
 ⟨some 27, none, .call (.c (.fn 132 [])) [.t 5, .t 26]⟩]
def c80r7 : List AOper :=
 [⟨some 28, none, .bin .add (.t 17) (.c (.int .i64 1))⟩,
 ⟨some 17, none, .mv (.t 28)⟩]
def c80l0 : AC := (.seq (.region c80r3) (.seq (.cond (.t 18) .skip (.exit 0)) (.seq (.block 1 (.seq (.region c80r4) (.seq (.region c80r5) (.region c80r6)))) (.region c80r7))))
def c80r8 : List AOper :=
 [⟨some 29, none, .call (.c (.fn 133 [])) [.t 5]⟩,
 ⟨some 4, none, .mv (.t 29)⟩]
def c80 : AC := (.seq (.region c80r0) (.seq (.region c80r1) (.seq (.seq (.region c80r2) (.block 0 (.loop c80l0))) (.seq (.region c80r8) .ret))))
def r80 : List ARes := [.tmp 4]
theorem c80_ok : Tryz.f80.body.bind (cCode Tryz.prog Tryz.f80.ntmps) = some c80 := by kernel_rfl
theorem r80_ok : Tryz.f80.results.toList.mapM (cRes Tryz.prog Tryz.f80.ntmps) = some r80 := by kernel_rfl
def c81r0 : List AOper :=
 [⟨some 2, none, .mv (.c (.int .i64 0))⟩]
def c81r1 : List AOper :=
 [⟨some 3, none, .mv (.t 0)⟩,
 ⟨some 4, none, .call (.c (.fn 76 [])) [.t 3]⟩,
 ⟨some 5, none, .un .not (.t 4)⟩]
def c81r2 : List AOper :=
 [⟨some 2, none, .mv (.c (.int .i64 1))⟩]
def c81d0 : List (AOper × List Nat) :=
 [(⟨some 6, none, .mv (.t 0)⟩, []),
 (⟨some 7, none, .nilck (.t 6)⟩, [0]),
 (⟨some 8, none, .fldA (.t 7) 0⟩, [1]),
 (⟨some 9, none, .load (.t 8) none⟩, [2]),
 (⟨some 10, none, .mv (.t 0)⟩, []),
 (⟨some 11, none, .nilck (.t 10)⟩, [4]),
 (⟨some 12, none, .fldA (.t 11) 2⟩, [5]),
 (⟨some 13, none, .load (.t 12) none⟩, [6]),
 (⟨some 14, none, .call (.c (.fn 72 [])) [.t 13]⟩, [7]),
 (⟨some 15, none, .call (.c (.fn 134 [])) [.t 9, .t 14]⟩, [3, 8, 8]),
 (⟨some 2, none, .mv (.t 15)⟩, [9, 9, 0, 1, 2, 3, 4, 5, 6, 7, 8, 9])]
def c81 : AC := (.seq (.region c81r0) (.seq (.seq (.region c81r1) (.cond (.t 5) (.seq (.region c81r2) .ret) .skip)) (.seq (.drawn c81d0) .ret)))
def r81 : List ARes := [.tmp 2]
theorem c81_ok : Tryz.f81.body.bind (cCode Tryz.prog Tryz.f81.ntmps) = some c81 := by kernel_rfl
theorem r81_ok : Tryz.f81.results.toList.mapM (cRes Tryz.prog Tryz.f81.ntmps) = some r81 := by kernel_rfl
def c82r0 : List AOper :=
 [⟨some 4, none, .mv (.c (.int .i64 0))⟩]
def c82r1 : List AOper :=
 [⟨some 5, none, .mv (.t 0)⟩,
 ⟨some 6, none, .load (.t 1) none⟩,
 ⟨some 7, none, .bin .geq (.t 5) (.t 6)⟩]
def c82r2 : List AOper :=
 [⟨some 4, none, .mv (.c (.int .i64 0))⟩]
def c82d0 : List (AOper × List Nat) :=
 [(⟨some 8, none, .load (.t 2) none⟩, []),
 (⟨some 9, none, .nilck (.t 8)⟩, [0]),
 (⟨some 10, none, .fldA (.t 9) 0⟩, [1]),
 (⟨some 11, none, .load (.t 10) none⟩, [2]),
 (⟨some 12, none, .mv (.t 0)⟩, []),
 (⟨some 13, none, .call (.c (.fn 72 [])) [.t 12]⟩, [4]),
 (⟨some 14, none, .call (.c (.fn 71 [])) [.t 11, .t 13]⟩, [3, 5, 5]),
 (⟨some 4, none, .mv (.t 14)⟩, [6, 6, 0, 1, 2, 3, 4, 5, 6])]
def c82 : AC := (.seq (.region c82r0) (.seq (.seq (.region c82r1) (.cond (.t 7) (.seq (.region c82r2) .ret) .skip)) (.seq (.drawn c82d0) .ret)))
def r82 : List ARes := [.tmp 4]
theorem c82_ok : Tryz.f82.body.bind (cCode Tryz.prog Tryz.f82.ntmps) = some c82 := by kernel_rfl
theorem r82_ok : Tryz.f82.results.toList.mapM (cRes Tryz.prog Tryz.f82.ntmps) = some r82 := by kernel_rfl
def c83r0 : List AOper :=
 [⟨some 4, none, .mv (.c .nils)⟩]
def c83r1 : List AOper :=
 [⟨some 8, none, .mv (.t 0)⟩,
 ⟨some 9, none, .mv (.t 1)⟩,
 ⟨some 10, none, .call (.c (.fn 135 [])) [.t 8, .t 9]⟩,
 ⟨some 5, none, .mv (.t 10)⟩]
def c83r2 : List AOper :=
 [⟨some 11, none, .mv (.t 5)⟩,
 ⟨some 12, none, .bin .eql (.t 11) (.c (.int .i64 (-1)))⟩]
def c83r3 : List AOper :=
 [⟨some 13, none, .mv (.t 0)⟩,
 ⟨some 4, none, .mv (.t 13)⟩]
def c83r4 : List AOper :=
 [⟨some 14, none, .mv (.t 5)⟩,
 ⟨some 15, none, .bin .add (.t 14) (.c (.int .i64 1))⟩,
 ⟨some 6, none, .mv (.t 15)⟩]
def c83r5 : List AOper :=
 [⟨some 16, none, .mv (.t 6)⟩,
 ⟨some 17, none, .mv (.t 0)⟩,
 ⟨some 18, none, .lenL (.t 17)⟩,
 ⟨some 19, none, .bin .lss (.t 16) (.t 18)⟩]
def c83r6 : List AOper :=
 [⟨some 22, none, .mv (.t 0)⟩,
 ⟨some 23, none, .mv (.t 6)⟩,
 ⟨some 24, none, .idxA (.t 22) (.t 23) none 2⟩,
 ⟨some 25, none, .load (.t 24) (some 2)⟩,
 ⟨some 7, none, .alloc [.str [], .int .i64 0]⟩,
 ⟨none, none, .store (.t 7) (.t 25) 2⟩]
def c83r7 : List AOper :=
 [⟨some 26, none, .mv (.t 1)⟩,
 ⟨some 27, none, .load (.t 7) (some 2)⟩,
 ⟨some 28, none, .call (.t 26) [.t 27]⟩,
 ⟨some 29, none, .un .not (.t 28)⟩]
def c83r8 : List AOper :=
 [⟨some 30, none, .mv (.t 0)⟩,
 ⟨some 31, none, .mv (.t 5)⟩,
 ⟨some 32, none, .load (.t 7) (some 2)⟩,
 ⟨some 33, none, .idxA (.t 30) (.t 31) none 2⟩,
 ⟨none, none, .store (.t 33) (.t 32) 2⟩]
def c83r9 : List AOper :=
 [⟨some 34, none, .mv (.t 5)⟩,
 ⟨some 35, none, .bin .add (.t 34) (.c (.int .i64 1))⟩,
 ⟨some 5, none, .mv (.t 35)⟩]
def c83r10 : List AOper :=
 [⟨some 20, none, .mv (.t 6)⟩,
 ⟨some 21, none, .bin .add (.t 20) (.c (.int .i64 1))⟩,
 ⟨some 6, none, .mv (.t 21)⟩]
def c83l0 : AC := (.seq (.seq (.region c83r5) (.cond (.t 19) .skip (.exit 0))) (.seq (.block 1 (.seq (.region c83r6) (.seq (.region c83r7) (.cond (.t 29) (.seq (.region c83r8) (.region c83r9)) .skip)))) (.region c83r10)))
def c83r11 : List AOper :=
 [⟨some 36, none, .mv (.t 0)⟩,
 ⟨some 37, none, .mv (.t 5)⟩,
 ⟨some 38, none, .slc (.t 36) (some (.t 37)) none none 2⟩,
 ⟨none, none, .clear (.t 38) [.str [], .int .i64 0]⟩]
def c83r12 : List AOper :=
 [⟨some 39, none, .mv (.t 0)⟩,
 ⟨some 40, none, .mv (.t 5)⟩,
 ⟨some 41, none, .slc (.t 39) none (some (.t 40)) none 2⟩,
 ⟨some 4, none, .mv (.t 41)⟩]
def c83 : AC := (.seq (.region c83r0) (.seq (.region c83r1) (.seq (.seq (.region c83r2) (.cond (.t 12) (.seq (.region c83r3) .ret) .skip)) (.seq (.seq (.region c83r4) (.block 0 (.loop c83l0))) (.seq (.region c83r11) (.seq (.region c83r12) .ret))))))
def r83 : List ARes := [.tmp 4]
theorem c83_ok : Tryz.f83.body.bind (cCode Tryz.prog Tryz.f83.ntmps) = some c83 := by kernel_rfl
theorem r83_ok : Tryz.f83.results.toList.mapM (cRes Tryz.prog Tryz.f83.ntmps) = some r83 := by kernel_rfl
def c84r0 : List AOper :=
 [⟨some 2, none, .box (.t 0)⟩,
 ⟨some 3, none, .mv (.c (.bool false))⟩]
def c84r1 : List AOper :=
 [⟨some 4, none, .fldA (.t 2) 1⟩,
 ⟨some 5, none, .load (.t 4) none⟩,
 ⟨some 6, none, .load (.t 1) none⟩,
 ⟨some 7, none, .bin .lss (.t 5) (.t 6)⟩,
 ⟨some 3, none, .mv (.t 7)⟩]
def c84 : AC := (.seq (.region c84r0) (.seq (.region c84r1) .ret))
def r84 : List ARes := [.tmp 3]
theorem c84_ok : Tryz.f84.body.bind (cCode Tryz.prog Tryz.f84.ntmps) = some c84 := by kernel_rfl
theorem r84_ok : Tryz.f84.results.toList.mapM (cRes Tryz.prog Tryz.f84.ntmps) = some r84 := by kernel_rfl
def c85r0 : List AOper :=
 [⟨some 2, none, .mv (.c (.bool false))⟩]
def c85r1 : List AOper :=
 [⟨some 3, none, .mv (.t 0)⟩,
 ⟨some 4, none, .bin .lss (.t 3) (.c (.int .i32 97))⟩,
 ⟨some 5, none, .mv (.t 4)⟩,
 ⟨some 6, some (5, false), .mv (.t 0)⟩,
 ⟨some 7, some (5, false), .bin .gtr (.t 6) (.c (.int .i32 122))⟩,
 ⟨some 8, none, .pick (.t 5) (.c (.bool true)) (.t 7)⟩,
 ⟨some 9, none, .mv (.t 8)⟩,
 ⟨some 10, some (9, true), .mv (.t 0)⟩,
 ⟨some 11, some (9, true), .bin .lss (.t 10) (.c (.int .i32 48))⟩,
 ⟨some 12, some (9, true), .mv (.t 11)⟩,
 ⟨some 13, some (12, false), .mv (.t 0)⟩,
 ⟨some 14, some (12, false), .bin .gtr (.t 13) (.c (.int .i32 57))⟩,
 ⟨some 15, some (9, true), .pick (.t 12) (.c (.bool true)) (.t 14)⟩,
 ⟨some 16, none, .pick (.t 9) (.t 15) (.c (.bool false))⟩,
 ⟨some 17, none, .mv (.t 16)⟩,
 ⟨some 18, some (17, true), .mv (.t 0)⟩,
 ⟨some 19, some (17, true), .bin .neq (.t 18) (.c (.int .i32 46))⟩,
 ⟨some 20, none, .pick (.t 17) (.t 19) (.c (.bool false))⟩,
 ⟨some 21, none, .mv (.t 20)⟩,
 ⟨some 22, some (21, true), .mv (.t 0)⟩,
 ⟨some 23, some (21, true), .bin .neq (.t 22) (.c (.int .i32 45))⟩,
 ⟨some 24, none, .pick (.t 21) (.t 23) (.c (.bool false))⟩,
 ⟨some 2, none, .mv (.t 24)⟩]
def c85 : AC := (.seq (.region c85r0) (.seq (.region c85r1) .ret))
def r85 : List ARes := [.tmp 2]
theorem c85_ok : Tryz.f85.body.bind (cCode Tryz.prog Tryz.f85.ntmps) = some c85 := by kernel_rfl
theorem r85_ok : Tryz.f85.results.toList.mapM (cRes Tryz.prog Tryz.f85.ntmps) = some r85 := by kernel_rfl
def c89r0 : List AOper :=
 [⟨some 4, none, .mv (.c .nilp)⟩,
 ⟨some 5, none, .mv (.c (.int .i64 0))⟩]
def c89r1 : List AOper :=
 [⟨some 8, none, .mv (.t 0)⟩,
 ⟨some 9, none, .mv (.t 1)⟩,
 ⟨some 10, none, .bslice 1 1 [.str []] [(0, .t 9)]⟩,
 ⟨some 11, none, .call (.c (.fn 44 [])) [.t 8, .t 10]⟩,
 ⟨some 12, none, .un .not (.t 11)⟩]
def c89r2 : List AOper :=
 [⟨some 4, none, .mv (.c .nilp)⟩,
 ⟨some 5, none, .mv (.c (.int .i64 1))⟩]
def c89r3 : List AOper :=
 [⟨some 14, none, .mv (.t 0)⟩,
 ⟨some 15, none, .nilck (.t 14)⟩,
 ⟨some 16, none, .fldA (.t 15) 0⟩,
 ⟨some 17, none, .load (.t 16) none⟩,
 ⟨some 18, none, .mv (.t 1)⟩,
 ⟨some 19, none, .mget 1 (.t 17) (.t 18) .nilp true⟩,
 ⟨some 13, none, .mv (.t 19)⟩,
 ⟨some 20, none, .ext (.t 13) 0⟩,
 ⟨some 21, none, .ext (.t 13) 1⟩,
 ⟨some 6, none, .mv (.t 20)⟩,
 ⟨some 7, none, .mv (.t 21)⟩]
def c89r4 : List AOper :=
 [⟨some 23, none, .mv (.t 0)⟩,
 ⟨some 24, none, .nilck (.t 23)⟩,
 ⟨some 25, none, .fldA (.t 24) 2⟩,
 ⟨some 26, none, .load (.t 25) none⟩,
 ⟨some 22, none, .mv (.t 26)⟩]
def c89r5 : List AOper :=
 [⟨some 4, none, .mv (.c .nilp)⟩,
 ⟨some 5, none, .mv (.c (.int .i64 50))⟩]
def c89r6 : List AOper :=
 [⟨some 28, none, .mv (.t 7)⟩,
 ⟨some 29, none, .un .not (.t 28)⟩,
 ⟨some 27, none, .mv (.t 29)⟩]
def c89r7 : List AOper :=
 [⟨some 4, none, .mv (.c .nilp)⟩,
 ⟨some 5, none, .mv (.c (.int .i64 3))⟩]
def c89r8 : List AOper :=
 [⟨some 30, none, .mv (.t 6)⟩,
 ⟨some 4, none, .mv (.t 30)⟩,
 ⟨some 5, none, .mv (.c (.int .i64 0))⟩]
def c89 : AC := (.seq (.region c89r0) (.seq (.seq (.region c89r1) (.cond (.t 12) (.seq (.region c89r2) .ret) .skip)) (.seq (.region c89r3) (.seq (.block 0 (.seq (.region c89r4) (.cond (.t 22) (.seq (.region c89r5) .ret) (.seq (.region c89r6) (.cond (.t 27) (.seq (.region c89r7) .ret) .skip))))) (.seq (.region c89r8) .ret)))))
def r89 : List ARes := [.tmp 4, .tmp 5]
theorem c89_ok : Tryz.f89.body.bind (cCode Tryz.prog Tryz.f89.ntmps) = some c89 := by kernel_rfl
theorem r89_ok : Tryz.f89.results.toList.mapM (cRes Tryz.prog Tryz.f89.ntmps) = some r89 := by kernel_rfl
def c123r0 : List AOper :=
 [⟨some 6, none, .mv (.c .nilp)⟩,
 ⟨some 7, none, .mv (.c (.int .i64 0))⟩]
def c123r1 : List AOper :=
 [⟨some 11, none, .mv (.t 0)⟩,
 ⟨some 12, none, .mv (.t 2)⟩,
 ⟨some 13, none, .mv (.t 1)⟩,
 ⟨some 14, none, .bslice 1 1 [.str []] [(0, .t 13)]⟩,
 ⟨some 15, none, .append (.t 12) (.t 14) 1 16 false⟩,
 ⟨some 16, none, .call (.c (.fn 128 [])) [.t 11, .t 15]⟩,
 ⟨some 8, none, .mv (.t 16)⟩]
def c123r2 : List AOper :=
 [⟨some 17, none, .mv (.t 8)⟩,
 ⟨some 18, none, .bin .neq (.t 17) (.c (.int .i64 0))⟩]
def c123r3 : List AOper :=
 [⟨some 19, none, .mv (.t 8)⟩,
 ⟨some 6, none, .mv (.c .nilp)⟩,
 ⟨some 7, none, .mv (.t 19)⟩]
def c123r4 : List AOper :=
 [⟨some 21, none, .mv (.t 0)⟩,
 ⟨some 22, none, .nilck (.t 21)⟩,
 ⟨some 23, none, .fldA (.t 22) 0⟩,
 ⟨some 24, none, .load (.t 23) none⟩,
 ⟨some 25, none, .mv (.t 1)⟩,
 ⟨some 26, none, .mget 1 (.t 24) (.t 25) .nilp true⟩,
 ⟨some 20, none, .mv (.t 26)⟩,
 ⟨some 27, none, .ext (.t 20) 0⟩,
 ⟨some 28, none, .ext (.t 20) 1⟩,
 ⟨some 9, none, .mv (.t 27)⟩,
 ⟨some 10, none, .mv (.t 28)⟩]
def c123r5 : List AOper :=
 [⟨some 29, none, .mv (.t 10)⟩,
 ⟨some 30, none, .un .not (.t 29)⟩]
def c123r6 : List AOper :=
 [⟨some 6, none, .mv (.c .nilp)⟩,
 ⟨some 7, none, .mv (.c (.int .i64 3))⟩]
def c123r7 : List AOper :=
 [⟨some 31, none, .mv (.t 9)⟩,
 ⟨some 6, none, .mv (.t 31)⟩,
 ⟨some 7, none, .mv (.c (.int .i64 0))⟩]
def c123 : AC := (.seq (.region c123r0) (.seq (.seq (.region c123r1) (.seq (.region c123r2) (.cond (.t 18) (.seq (.region c123r3) .ret) .skip))) (.seq (.region c123r4) (.seq (.seq (.region c123r5) (.cond (.t 30) (.seq (.region c123r6) .ret) .skip)) (.seq (.region c123r7) .ret)))))
def r123 : List ARes := [.tmp 6, .tmp 7]
theorem c123_ok : Tryz.f123.body.bind (cCode Tryz.prog Tryz.f123.ntmps) = some c123 := by kernel_rfl
theorem r123_ok : Tryz.f123.results.toList.mapM (cRes Tryz.prog Tryz.f123.ntmps) = some r123 := by kernel_rfl
def c126r0 : List AOper :=
 [⟨some 4, none, .mv (.c (.int .i64 0))⟩]
def c126r1 : List AOper :=
 [⟨some 5, none, .mv (.c (.int .i64 0))⟩]
def c126r2 : List AOper :=
 [⟨some 10, none, .mv (.t 0)⟩,
 ⟨some 11, none, .mv (.t 5)⟩,
 ⟨some 12, none, .slcS (.t 10) (some (.t 11)) none⟩,
 ⟨some 13, none, .call (.c (.fn 165 [])) [.t 12]⟩,
 ⟨some 9, none, .mv (.t 13)⟩,
 ⟨some 14, none, .ext (.t 9) 0⟩,
 ⟨some 15, none, .ext (.t 9) 1⟩,
 ⟨some 16, none, .ext (.t 9) 2⟩,
 ⟨some 6, none, .mv (.t 14)⟩,
 ⟨some 7, none, .mv (.t 15)⟩,
 ⟨some 8, none, .mv (.t 16)⟩]
def c126r3 : List AOper :=
 [⟨some 17, none, .mv (.t 8)⟩,
 ⟨some 18, none, .bin .neq (.t 17) (.c (.int .i64 0))⟩]
def c126r4 : List AOper :=
 [⟨some 19, none, .mv (.t 5)⟩,
 ⟨some 4, none, .mv (.t 19)⟩]
def c126r5 : List AOper :=
 [⟨some 20, none, .mv (.t 1)⟩,
 ⟨some 21, none, .mv (.t 6)⟩,
 ⟨some 22, none, .call (.t 20) [.t 21]⟩]
def c126r6 : List AOper :=
 [⟨some 23, none, .mv (.t 5)⟩,
 ⟨some 24, none, .mv (.t 7)⟩,
 ⟨some 25, none, .bin .add (.t 23) (.t 24)⟩,
 ⟨some 5, none, .mv (.t 25)⟩]
def c126l0 : AC := (.block 1 (.seq (.region c126r2) (.seq (.seq (.region c126r3) (.cond (.t 18) (.seq (.region c126r4) .ret) .skip)) (.seq (.region c126r5) (.region c126r6)))))
def c126 : AC := (.seq (.region c126r0) (.seq (.region c126r1) (.block 0 (.loop c126l0))))
def r126 : List ARes := [.tmp 4]
theorem c126_ok : Tryz.f126.body.bind (cCode Tryz.prog Tryz.f126.ntmps) = some c126 := by kernel_rfl
theorem r126_ok : Tryz.f126.results.toList.mapM (cRes Tryz.prog Tryz.f126.ntmps) = some r126 := by kernel_rfl
def c127r0 : List AOper :=
 [⟨some 3, none, .load (.t 1) none⟩,
 ⟨some 4, none, .mv (.t 0)⟩,
 ⟨some 5, none, .bslice 1 1 [.str []] [(0, .t 4)]⟩,
 ⟨some 6, none, .append (.t 3) (.t 5) 1 16 false⟩,
 ⟨none, none, .store (.t 1) (.t 6) 1⟩]
def c127 : AC := (.region c127r0)
def r127 : List ARes := []
theorem c127_ok : Tryz.f127.body.bind (cCode Tryz.prog Tryz.f127.ntmps) = some c127 := by kernel_rfl
theorem r127_ok : Tryz.f127.results.toList.mapM (cRes Tryz.prog Tryz.f127.ntmps) = some r127 := by kernel_rfl
def c128r0 : List AOper :=
 [⟨some 4, none, .mv (.c (.int .i64 0))⟩]
def c128r1 : List AOper :=
 [⟨some 5, none, .mv (.t 0)⟩,
 ⟨some 6, none, .mv (.t 1)⟩,
 ⟨some 7, none, .call (.c (.fn 44 [])) [.t 5, .t 6]⟩,
 ⟨some 8, none, .un .not (.t 7)⟩]
def c128r2 : List AOper :=
 [⟨some 4, none, .mv (.c (.int .i64 1))⟩]
def c128r3 : List AOper :=
 [⟨some 9, none, .mv (.t 0)⟩,
 ⟨some 10, none, .mv (.t 0)⟩,
 ⟨some 11, none, .nilck (.t 10)⟩,
 ⟨some 12, none, .fldA (.t 11) 2⟩,
 ⟨some 13, none, .load (.t 12) none⟩,
 ⟨some 14, none, .mv (.t 13)⟩,
 ⟨some 15, some (14, false), .mv (.t 0)⟩,
 ⟨some 16, some (14, false), .nilck (.t 15)⟩,
 ⟨some 17, some (14, false), .fldA (.t 16) 1⟩,
 ⟨some 18, some (14, false), .load (.t 17) none⟩,
 ⟨some 19, some (14, false), .bin .eql (.t 18) (.c (.int .i64 0))⟩,
 ⟨some 20, none, .pick (.t 14) (.c (.bool true)) (.t 19)⟩,
 ⟨some 21, none, .nilck (.t 9)⟩,
 ⟨some 22, none, .fldA (.t 21) 2⟩,
 ⟨none, none, .store (.t 22) (.t 20) 1⟩]
def c128r4 : List AOper :=
 [⟨some 23, none, .mv (.t 0)⟩,
 ⟨some 24, none, .nilck (.t 23)⟩,
 ⟨some 25, none, .fldA (.t 24) 2⟩,
 ⟨some 26, none, .load (.t 25) none⟩]
def c128r5 : List AOper :=
 [⟨some 4, none, .mv (.c (.int .i64 50))⟩]
def c128r6 : List AOper :=
 [⟨some 27, none, .mv (.t 0)⟩,
 ⟨some 28, none, .nilck (.t 27)⟩,
 ⟨some 29, none, .fldA (.t 28) 1⟩,
 ⟨some 30, none, .load (.t 29) none⟩,
 ⟨some 31, none, .bin .gtr (.t 30) (.c (.int .i64 0))⟩]
def c128r7 : List AOper :=
 [⟨some 32, none, .mv (.t 0)⟩,
 ⟨some 33, none, .nilck (.t 32)⟩,
 ⟨some 34, none, .fldA (.t 33) 1⟩,
 ⟨some 35, none, .load (.t 34) none⟩,
 ⟨some 36, none, .bin .sub (.t 35) (.c (.int .i64 1))⟩,
 ⟨some 37, none, .nilck (.t 32)⟩,
 ⟨some 38, none, .fldA (.t 37) 1⟩,
 ⟨none, none, .store (.t 38) (.t 36) 1⟩]
def c128r8 : List AOper :=
 [⟨some 4, none, .mv (.c (.int .i64 0))⟩]
def c128 : AC := (.seq (.region c128r0) (.seq (.seq (.region c128r1) (.cond (.t 8) (.seq (.region c128r2) .ret) .skip)) (.seq (.seq (.region c128r3) (.seq (.region c128r4) (.cond (.t 26) (.seq (.region c128r5) .ret) .skip))) (.seq (.seq (.region c128r6) (.cond (.t 31) (.region c128r7) .skip)) (.seq (.region c128r8) .ret)))))
def r128 : List ARes := [.tmp 4]
theorem c128_ok : Tryz.f128.body.bind (cCode Tryz.prog Tryz.f128.ntmps) = some c128 := by kernel_rfl
theorem r128_ok : Tryz.f128.results.toList.mapM (cRes Tryz.prog Tryz.f128.ntmps) = some r128 := by kernel_rfl
def c129r0 : List AOper :=
 [⟨some 2, none, .mv (.c (.str []))⟩,
 ⟨some 3, none, .mv (.c (.int .i64 0))⟩]
def c129r1 : List AOper :=
 [⟨some 7, none, .mv (.t 0)⟩,
 ⟨some 8, none, .call (.c (.fn 166 [])) [.t 7]⟩,
 ⟨some 6, none, .mv (.t 8)⟩,
 ⟨some 9, none, .ext (.t 6) 0⟩,
 ⟨some 10, none, .ext (.t 6) 1⟩,
 ⟨some 4, none, .mv (.t 9)⟩,
 ⟨some 5, none, .mv (.t 10)⟩]
def c129r2 : List AOper :=
 [⟨some 11, none, .mv (.t 5)⟩,
 ⟨some 12, none, .bin .neq (.t 11) (.c (.int .i64 0))⟩]
def c129r3 : List AOper :=
 [⟨some 13, none, .mv (.t 5)⟩,
 ⟨some 2, none, .mv (.c (.str []))⟩,
 ⟨some 3, none, .mv (.t 13)⟩]
def c129r4 : List AOper :=
 [⟨some 14, none, .mv (.t 4)⟩,
 ⟨some 15, none, .call (.c (.fn 112 [])) [.t 14]⟩,
 ⟨some 2, none, .mv (.t 15)⟩,
 ⟨some 3, none, .mv (.c (.int .i64 0))⟩]
def c129 : AC := (.seq (.region c129r0) (.seq (.region c129r1) (.seq (.seq (.region c129r2) (.cond (.t 12) (.seq (.region c129r3) .ret) .skip)) (.seq (.region c129r4) .ret))))
def r129 : List ARes := [.tmp 2, .tmp 3]
theorem c129_ok : Tryz.f129.body.bind (cCode Tryz.prog Tryz.f129.ntmps) = some c129 := by kernel_rfl
theorem r129_ok : Tryz.f129.results.toList.mapM (cRes Tryz.prog Tryz.f129.ntmps) = some r129 := by kernel_rfl
def c130r0 : List AOper :=
 [⟨some 6, none, .mv (.c (.int .i64 0))⟩]
def c130r1 : List AOper :=
 [⟨some 10, none, .mv (.t 0)⟩,
 ⟨some 11, none, .mv (.t 1)⟩,
 ⟨some 12, none, .call (.c (.fn 123 [])) [.t 10, .t 11, .c .nils]⟩,
 ⟨some 9, none, .mv (.t 12)⟩,
 ⟨some 13, none, .ext (.t 9) 0⟩,
 ⟨some 14, none, .ext (.t 9) 1⟩,
 ⟨some 7, none, .mv (.t 13)⟩,
 ⟨some 8, none, .mv (.t 14)⟩]
def c130r2 : List AOper :=
 [⟨some 16, none, .mv (.t 8)⟩,
 ⟨some 17, none, .bin .neq (.t 16) (.c (.int .i64 0))⟩,
 ⟨some 15, none, .mv (.t 17)⟩]
def c130r3 : List AOper :=
 [⟨some 18, none, .mv (.t 8)⟩,
 ⟨some 6, none, .mv (.t 18)⟩]
def c130r4 : List AOper :=
 [⟨some 20, none, .mv (.t 2)⟩,
 ⟨some 21, none, .lenS (.t 20)⟩,
 ⟨some 22, none, .mv (.t 7)⟩,
 ⟨some 23, none, .nilck (.t 22)⟩,
 ⟨some 24, none, .fldA (.t 23) 0⟩,
 ⟨some 25, none, .load (.t 24) none⟩,
 ⟨some 26, none, .lenL (.t 25)⟩,
 ⟨some 27, none, .bin .sub (.c (.int .i64 4194304)) (.t 26)⟩,
 ⟨some 28, none, .bin .gtr (.t 21) (.t 27)⟩,
 ⟨some 19, none, .mv (.t 28)⟩]
def c130r5 : List AOper :=
 [⟨some 6, none, .mv (.c (.int .i64 2))⟩]
def c130r6 : List AOper :=
 [⟨some 29, none, .mv (.t 7)⟩,
 ⟨some 30, none, .mv (.t 7)⟩,
 ⟨some 31, none, .nilck (.t 30)⟩,
 ⟨some 32, none, .fldA (.t 31) 0⟩,
 ⟨some 33, none, .load (.t 32) none⟩,
 ⟨some 34, none, .mv (.t 2)⟩,
 ⟨some 35, none, .appendB (.t 33) (.t 34) 1 5⟩,
 ⟨some 36, none, .nilck (.t 29)⟩,
 ⟨some 37, none, .fldA (.t 36) 0⟩,
 ⟨none, none, .store (.t 37) (.t 35) 1⟩]
def c130r7 : List AOper :=
 [⟨some 6, none, .mv (.c (.int .i64 0))⟩]
def c130 : AC := (.seq (.region c130r0) (.seq (.region c130r1) (.seq (.block 0 (.seq (.region c130r2) (.cond (.t 15) (.seq (.region c130r3) .ret) (.seq (.region c130r4) (.cond (.t 19) (.seq (.region c130r5) .ret) .skip))))) (.seq (.region c130r6) (.seq (.region c130r7) .ret)))))
def r130 : List ARes := [.tmp 6]
theorem c130_ok : Tryz.f130.body.bind (cCode Tryz.prog Tryz.f130.ntmps) = some c130 := by kernel_rfl
theorem r130_ok : Tryz.f130.results.toList.mapM (cRes Tryz.prog Tryz.f130.ntmps) = some r130 := by kernel_rfl
def c131r0 : List AOper :=
 [⟨some 2, none, .mv (.c (.str []))⟩,
 ⟨some 3, none, .mv (.c (.int .i64 0))⟩]
def c131r1 : List AOper :=
 [⟨some 5, none, .mv (.t 0)⟩,
 ⟨some 6, none, .bin .lss (.t 5) (.c (.int .i64 0))⟩,
 ⟨some 7, none, .mv (.t 6)⟩,
 ⟨some 8, some (7, false), .mv (.t 0)⟩,
 ⟨some 9, some (7, false), .bin .gtr (.t 8) (.c (.int .i64 4611686018427387904))⟩,
 ⟨some 10, none, .pick (.t 7) (.c (.bool true)) (.t 9)⟩]
def c131r2 : List AOper :=
 [⟨some 2, none, .mv (.c (.str []))⟩,
 ⟨some 3, none, .mv (.c (.int .i64 1))⟩]
def c131r3 : List AOper :=
 [⟨some 4, none, .mv (.c .nils)⟩]
def c131r4 : List AOper :=
 [⟨some 11, none, .mv (.t 0)⟩,
 ⟨some 12, none, .bin .geq (.t 11) (.c (.int .i64 128))⟩]
def c131r5 : List AOper :=
 [⟨some 15, none, .mv (.t 4)⟩,
 ⟨some 16, none, .mv (.t 0)⟩,
 ⟨some 17, none, .convI .u8 (.t 16)⟩,
 ⟨some 18, none, .bin .or (.t 17) (.c (.int .u8 128))⟩,
 ⟨some 19, none, .bslice 1 1 [.int .u8 0] [(0, .t 18)]⟩,
 ⟨some 20, none, .append (.t 15) (.t 19) 1 1 false⟩,
 ⟨some 4, none, .mv (.t 20)⟩]
def c131r6 : List AOper :=
 [⟨some 13, none, .mv (.t 0)⟩,
 ⟨some 14, none, .bin .shr (.t 13) (.c (.int .u64 7))⟩,
 ⟨some 0, none, .mv (.t 14)⟩]
def c131l0 : AC := (.seq (.seq (.region c131r4) (.cond (.t 12) .skip (.exit 0))) (.seq (.block 1 (.region c131r5)) (.region c131r6)))
def c131r7 : List AOper :=
 [⟨some 21, none, .mv (.t 4)⟩,
 ⟨some 22, none, .mv (.t 0)⟩,
 ⟨some 23, none, .convI .u8 (.t 22)⟩,
 ⟨some 24, none, .bslice 1 1 [.int .u8 0] [(0, .t 23)]⟩,
 ⟨some 25, none, .append (.t 21) (.t 24) 1 1 false⟩,
 ⟨some 26, none, .b2s (.t 25)⟩,
 ⟨some 2, none, .mv (.t 26)⟩,
 ⟨some 3, none, .mv (.c (.int .i64 0))⟩]
def c131 : AC := (.seq (.region c131r0) (.seq (.seq (.region c131r1) (.cond (.t 10) (.seq (.region c131r2) .ret) .skip)) (.seq (.region c131r3) (.seq (.block 0 (.loop c131l0)) (.seq (.region c131r7) .ret)))))
def r131 : List ARes := [.tmp 2, .tmp 3]
theorem c131_ok : Tryz.f131.body.bind (cCode Tryz.prog Tryz.f131.ntmps) = some c131 := by kernel_rfl
theorem r131_ok : Tryz.f131.results.toList.mapM (cRes Tryz.prog Tryz.f131.ntmps) = some r131 := by kernel_rfl
def c132r0 : List AOper :=
 [⟨some 4, none, .mv (.c (.int .i64 0))⟩,
 ⟨some 5, none, .mv (.c .any)⟩]
def c132r1 : List AOper :=
 [⟨some 6, none, .mv (.t 0)⟩,
 ⟨some 7, none, .call (.c (.fn 167 [])) [.t 6]⟩]
def c132r2 : List AOper :=
 [⟨some 8, none, .mv (.t 0)⟩,
 ⟨some 9, none, .mv (.t 0)⟩,
 ⟨some 10, none, .nilck (.t 9)⟩,
 ⟨some 11, none, .fldA (.t 10) 1⟩,
 ⟨some 12, none, .load (.t 11) none⟩,
 ⟨some 13, none, .mv (.t 1)⟩,
 ⟨some 14, none, .appendB (.t 12) (.t 13) 1 5⟩,
 ⟨some 15, none, .nilck (.t 8)⟩,
 ⟨some 16, none, .fldA (.t 15) 1⟩,
 ⟨none, none, .store (.t 16) (.t 14) 1⟩]
def c132r3 : List AOper :=
 [⟨some 17, none, .mv (.t 1)⟩,
 ⟨some 18, none, .lenS (.t 17)⟩,
 ⟨some 4, none, .mv (.t 18)⟩,
 ⟨some 5, none, .mv (.c .any)⟩]
def c132 : AC := (.seq (.region c132r0) (.seq (.region c132r1) (.seq (.region c132r2) (.seq (.region c132r3) .ret))))
def r132 : List ARes := [.tmp 4, .tmp 5]
theorem c132_ok : Tryz.f132.body.bind (cCode Tryz.prog Tryz.f132.ntmps) = some c132 := by kernel_rfl
theorem r132_ok : Tryz.f132.results.toList.mapM (cRes Tryz.prog Tryz.f132.ntmps) = some r132 := by kernel_rfl
def c133r0 : List AOper :=
 [⟨some 2, none, .mv (.c (.str []))⟩]
def c133d0 : List (AOper × List Nat) :=
 [(⟨some 3, none, .mv (.t 0)⟩, []),
 (⟨some 4, none, .nilck (.t 3)⟩, [0]),
 (⟨some 5, none, .fldA (.t 4) 1⟩, [1]),
 (⟨some 6, none, .load (.t 5) none⟩, [2]),
 (⟨some 7, none, .usd (.t 6)⟩, [3]),
 (⟨some 8, none, .mv (.t 0)⟩, []),
 (⟨some 9, none, .nilck (.t 8)⟩, [5]),
 (⟨some 10, none, .fldA (.t 9) 1⟩, [6]),
 (⟨some 11, none, .load (.t 10) none⟩, [7]),
 (⟨some 12, none, .lenL (.t 11)⟩, [8]),
 (⟨some 13, none, .ustr (.t 7) (.t 12) 5⟩, [4, 9]),
 (⟨some 2, none, .mv (.t 13)⟩, [10, 0, 1, 2, 3, 4, 5, 6, 7, 8, 9, 10])]
def c133 : AC := (.seq (.region c133r0) (.seq (.drawn c133d0) .ret))
def r133 : List ARes := [.tmp 2]
theorem c133_ok : Tryz.f133.body.bind (cCode Tryz.prog Tryz.f133.ntmps) = some c133 := by kernel_rfl
theorem r133_ok : Tryz.f133.results.toList.mapM (cRes Tryz.prog Tryz.f133.ntmps) = some r133 := by kernel_rfl
def c134r0 : List AOper :=
 [⟨some 4, none, .mv (.c (.int .i64 0))⟩]
def c134r1 : List AOper :=
 [⟨some 8, none, .mv (.t 0)⟩,
 ⟨some 9, none, .mv (.t 1)⟩,
 ⟨some 10, none, .call (.c (.fn 123 [])) [.t 8, .t 9, .c .nils]⟩,
 ⟨some 7, none, .mv (.t 10)⟩,
 ⟨some 11, none, .ext (.t 7) 0⟩,
 ⟨some 12, none, .ext (.t 7) 1⟩,
 ⟨some 5, none, .mv (.t 11)⟩,
 ⟨some 6, none, .mv (.t 12)⟩]
def c134r2 : List AOper :=
 [⟨some 13, none, .mv (.t 6)⟩,
 ⟨some 14, none, .bin .eql (.t 13) (.c (.int .i64 0))⟩]
def c134r3 : List AOper :=
 [⟨some 15, none, .mv (.t 5)⟩,
 ⟨some 16, none, .mv (.t 5)⟩,
 ⟨some 17, none, .nilck (.t 16)⟩,
 ⟨some 18, none, .fldA (.t 17) 0⟩,
 ⟨some 19, none, .load (.t 18) none⟩,
 ⟨some 20, none, .lenL (.t 19)⟩,
 ⟨some 21, none, .nilck (.t 15)⟩,
 ⟨some 22, none, .fldA (.t 21) 1⟩,
 ⟨none, none, .store (.t 22) (.t 20) 1⟩]
def c134r4 : List AOper :=
 [⟨some 23, none, .mv (.t 6)⟩,
 ⟨some 4, none, .mv (.t 23)⟩]
def c134 : AC := (.seq (.region c134r0) (.seq (.region c134r1) (.seq (.seq (.region c134r2) (.cond (.t 14) (.region c134r3) .skip)) (.seq (.region c134r4) .ret))))
def r134 : List ARes := [.tmp 4]
theorem c134_ok : Tryz.f134.body.bind (cCode Tryz.prog Tryz.f134.ntmps) = some c134 := by kernel_rfl
theorem r134_ok : Tryz.f134.results.toList.mapM (cRes Tryz.prog Tryz.f134.ntmps) = some r134 := by kernel_rfl
def c135r0 : List AOper :=
 [⟨some 4, none, .mv (.c (.int .i64 0))⟩]
def c135r1 : List AOper :=
 [⟨some 6, none, .mv (.t 0)⟩,
 ⟨some 7, none, .lenL (.t 6)⟩,
 ⟨some 8, none, .mv (.c (.int .i64 0))⟩]
def c135r2 : List AOper :=
 [⟨some 9, none, .bin .lss (.t 8) (.t 7)⟩]
def c135r3 : List AOper :=
 [⟨some 10, none, .mv (.t 8)⟩,
 ⟨some 5, none, .mv (.t 10)⟩]
def c135r4 : List AOper :=
 [⟨some 11, none, .mv (.t 1)⟩,
 ⟨some 12, none, .mv (.t 0)⟩,
 ⟨some 13, none, .mv (.t 5)⟩,
 ⟨some 14, none, .idxA (.t 12) (.t 13) none 2⟩,
 ⟨some 15, none, .load (.t 14) (some 2)⟩,
 ⟨some 16, none, .call (.t 11) [.t 15]⟩]
def c135r5 : List AOper :=
 [⟨some 17, none, .mv (.t 5)⟩,
 ⟨some 4, none, .mv (.t 17)⟩]
def c135r6 : List AOper :=
 [⟨some 18, none, .bin .add (.t 8) (.c (.int .i64 1))⟩,
 ⟨some 8, none, .mv (.t 18)⟩]
def c135l0 : AC := (.seq (.region c135r2) (.seq (.cond (.t 9) .skip (.exit 0)) (.seq (.block 1 (.seq (.region c135r3) (.seq (.region c135r4) (.cond (.t 16) (.seq (.region c135r5) .ret) .skip)))) (.region c135r6))))
def c135r7 : List AOper :=
 [⟨some 4, none, .mv (.c (.int .i64 (-1)))⟩]
def c135 : AC := (.seq (.region c135r0) (.seq (.seq (.region c135r1) (.block 0 (.loop c135l0))) (.seq (.region c135r7) .ret)))
def r135 : List ARes := [.tmp 4]
theorem c135_ok : Tryz.f135.body.bind (cCode Tryz.prog Tryz.f135.ntmps) = some c135 := by kernel_rfl
theorem r135_ok : Tryz.f135.results.toList.mapM (cRes Tryz.prog Tryz.f135.ntmps) = some r135 := by kernel_rfl
def c112r0 : List AOper :=
 [⟨some 2, none, .mv (.c (.str []))⟩]
def c112r1 : List AOper :=
 [⟨some 3, none, .mv (.t 0)⟩,
 ⟨some 4, none, .mv (.t 0)⟩,
 ⟨some 5, none, .call (.c (.fn 154 [])) [.t 4]⟩,
 ⟨some 6, none, .call (.c (.fn 153 [])) [.t 5]⟩,
 ⟨some 7, none, .bin .add (.t 3) (.t 6)⟩,
 ⟨some 2, none, .mv (.t 7)⟩]
def c112 : AC := (.seq (.region c112r0) (.seq (.region c112r1) .ret))
def r112 : List ARes := [.tmp 2]
theorem c112_ok : Tryz.f112.body.bind (cCode Tryz.prog Tryz.f112.ntmps) = some c112 := by kernel_rfl
theorem r112_ok : Tryz.f112.results.toList.mapM (cRes Tryz.prog Tryz.f112.ntmps) = some r112 := by kernel_rfl
def c140r0 : List AOper :=
 [⟨some 2, none, .mv (.c (.bool false))⟩]
def c140r1 : List AOper :=
 [⟨some 4, none, .mv (.t 0)⟩,
 ⟨some 5, none, .lenS (.t 4)⟩,
 ⟨some 6, none, .bin .sub (.t 5) (.c (.int .i64 4))⟩,
 ⟨some 3, none, .mv (.t 6)⟩]
def c140d0 : List (AOper × List Nat) :=
 [(⟨some 7, none, .mv (.t 3)⟩, []),
 (⟨some 8, none, .bin .geq (.t 7) (.c (.int .i64 0))⟩, [0]),
 (⟨some 9, none, .mv (.t 8)⟩, [1]),
 (⟨some 10, some (9, true), .mv (.t 0)⟩, [2]),
 (⟨some 11, some (9, true), .mv (.t 3)⟩, [2]),
 (⟨some 12, some (9, true), .slcS (.t 10) (some (.t 11)) none⟩, [3, 4, 2]),
 (⟨some 13, some (9, true), .mv (.t 0)⟩, [2]),
 (⟨some 14, some (9, true), .mv (.t 3)⟩, [2]),
 (⟨some 15, some (9, true), .slcS (.t 13) none (some (.t 14))⟩, [6, 7, 2]),
 (⟨some 16, some (9, true), .call (.c (.fn 154 [])) [.t 15]⟩, [8, 2, 2]),
 (⟨some 17, some (9, true), .call (.c (.fn 153 [])) [.t 16]⟩, [9, 9, 2]),
 (⟨some 18, some (9, true), .bin .eql (.t 12) (.t 17)⟩, [5, 10, 2]),
 (⟨some 19, none, .pick (.t 9) (.t 18) (.c (.bool false))⟩, [2, 11]),
 (⟨some 2, none, .mv (.t 19)⟩, [12, 10, 0, 1, 2, 3, 4, 5, 6, 7, 8, 9, 10, 11, 12])]
def c140 : AC := (.seq (.region c140r0) (.seq (.region c140r1) (.seq (.drawn c140d0) .ret)))
def r140 : List ARes := [.tmp 2]
theorem c140_ok : Tryz.f140.body.bind (cCode Tryz.prog Tryz.f140.ntmps) = some c140 := by kernel_rfl
theorem r140_ok : Tryz.f140.results.toList.mapM (cRes Tryz.prog Tryz.f140.ntmps) = some r140 := by kernel_rfl
def c150r0 : List AOper :=
 [⟨some 2, none, .mv (.c (.str []))⟩,
 ⟨some 3, none, .mv (.c (.int .i64 0))⟩]
def c150r1 : List AOper :=
 [⟨some 5, none, .mv (.t 0)⟩,
 ⟨some 6, none, .bin .lss (.t 5) (.c (.int .i64 0))⟩,
 ⟨some 7, none, .mv (.t 6)⟩,
 ⟨some 8, some (7, false), .mv (.t 0)⟩,
 ⟨some 9, some (7, false), .bin .gtr (.t 8) (.c (.int .i64 4611686018427387904))⟩,
 ⟨some 10, none, .pick (.t 7) (.c (.bool true)) (.t 9)⟩]
def c150r2 : List AOper :=
 [⟨some 2, none, .mv (.c (.str []))⟩,
 ⟨some 3, none, .mv (.c (.int .i64 1))⟩]
def c150r3 : List AOper :=
 [⟨some 4, none, .mv (.c .nils)⟩]
def c150r4 : List AOper :=
 [⟨some 11, none, .mv (.t 0)⟩,
 ⟨some 12, none, .bin .gtr (.t 11) (.c (.int .i64 127))⟩]
def c150r5 : List AOper :=
 [⟨some 13, none, .mv (.t 4)⟩,
 ⟨some 14, none, .mv (.t 0)⟩,
 ⟨some 15, none, .bin .and (.t 14) (.c (.int .i64 127))⟩,
 ⟨some 16, none, .bin .or (.t 15) (.c (.int .i64 128))⟩,
 ⟨some 17, none, .convI .u8 (.t 16)⟩,
 ⟨some 18, none, .bslice 1 1 [.int .u8 0] [(0, .t 17)]⟩,
 ⟨some 19, none, .append (.t 13) (.t 18) 1 1 false⟩,
 ⟨some 4, none, .mv (.t 19)⟩]
def c150r6 : List AOper :=
 [⟨some 20, none, .mv (.t 0)⟩,
 ⟨some 21, none, .bin .shr (.t 20) (.c (.int .u64 7))⟩,
 ⟨some 0, none, .mv (.t 21)⟩]
def c150l0 : AC := (.seq (.seq (.region c150r4) (.cond (.t 12) .skip (.exit 0))) (.block 1 (.seq (.region c150r5) (.region c150r6))))
def c150r7 : List AOper :=
 [⟨some 22, none, .mv (.t 4)⟩,
 ⟨some 23, none, .mv (.t 0)⟩,
 ⟨some 24, none, .convI .u8 (.t 23)⟩,
 ⟨some 25, none, .bslice 1 1 [.int .u8 0] [(0, .t 24)]⟩,
 ⟨some 26, none, .append (.t 22) (.t 25) 1 1 false⟩,
 ⟨some 27, none, .b2s (.t 26)⟩,
 ⟨some 2, none, .mv (.t 27)⟩,
 ⟨some 3, none, .mv (.c (.int .i64 0))⟩]
def c150 : AC := (.seq (.region c150r0) (.seq (.seq (.region c150r1) (.cond (.t 10) (.seq (.region c150r2) .ret) .skip)) (.seq (.region c150r3) (.seq (.block 0 (.loop c150l0)) (.seq (.region c150r7) .ret)))))
def r150 : List ARes := [.tmp 2, .tmp 3]
theorem c150_ok : Tryz.f150.body.bind (cCode Tryz.prog Tryz.f150.ntmps) = some c150 := by kernel_rfl
theorem r150_ok : Tryz.f150.results.toList.mapM (cRes Tryz.prog Tryz.f150.ntmps) = some r150 := by kernel_rfl
def c153r0 : List AOper :=
 [⟨some 2, none, .mv (.c (.str []))⟩]
def c153r1 : List AOper :=
 [⟨some 3, none, .alloc [.int .u8 0, .int .u8 0, .int .u8 0, .int .u8 0]⟩]
def c153r2 : List AOper :=
 [⟨some 5, none, .mv (.c (.int .i64 0))⟩]
def c153r3 : List AOper :=
 [⟨some 6, none, .bin .lss (.t 5) (.c (.int .i64 4))⟩]
def c153r4 : List AOper :=
 [⟨some 7, none, .mv (.t 5)⟩,
 ⟨some 4, none, .mv (.t 7)⟩]
def c153r5 : List AOper :=
 [⟨some 8, none, .mv (.t 4)⟩,
 ⟨some 9, none, .mv (.t 0)⟩,
 ⟨some 10, none, .mv (.t 4)⟩,
 ⟨some 11, none, .bin .mul (.c (.int .i64 8)) (.t 10)⟩,
 ⟨some 12, none, .bin .shr (.t 9) (.t 11)⟩,
 ⟨some 13, none, .convI .u8 (.t 12)⟩,
 ⟨some 14, none, .idxA (.t 3) (.t 8) (some 4) 1⟩,
 ⟨none, none, .store (.t 14) (.t 13) 1⟩]
def c153r6 : List AOper :=
 [⟨some 15, none, .bin .add (.t 5) (.c (.int .i64 1))⟩,
 ⟨some 5, none, .mv (.t 15)⟩]
def c153l0 : AC := (.seq (.region c153r3) (.seq (.cond (.t 6) .skip (.exit 0)) (.seq (.block 1 (.seq (.region c153r4) (.region c153r5))) (.region c153r6))))
def c153r7 : List AOper :=
 [⟨some 16, none, .slcA (.t 3) none none 4 1⟩,
 ⟨some 17, none, .b2s (.t 16)⟩,
 ⟨some 2, none, .mv (.t 17)⟩]
def c153 : AC := (.seq (.region c153r0) (.seq (.region c153r1) (.seq (.seq (.region c153r2) (.block 0 (.loop c153l0))) (.seq (.region c153r7) .ret))))
def r153 : List ARes := [.tmp 2]
theorem c153_ok : Tryz.f153.body.bind (cCode Tryz.prog Tryz.f153.ntmps) = some c153 := by kernel_rfl
theorem r153_ok : Tryz.f153.results.toList.mapM (cRes Tryz.prog Tryz.f153.ntmps) = some r153 := by kernel_rfl
def c154r0 : List AOper :=
 [⟨some 2, none, .mv (.c (.int .i64 0))⟩]
def c154r1 : List AOper :=
 [⟨some 3, none, .mv (.t 0)⟩,
 ⟨some 4, none, .call (.c (.fn 184 [])) [.c (.int .i64 0), .t 3]⟩,
 ⟨some 2, none, .mv (.t 4)⟩]
def c154 : AC := (.seq (.region c154r0) (.seq (.region c154r1) .ret))
def r154 : List ARes := [.tmp 2]
theorem c154_ok : Tryz.f154.body.bind (cCode Tryz.prog Tryz.f154.ntmps) = some c154 := by kernel_rfl
theorem r154_ok : Tryz.f154.results.toList.mapM (cRes Tryz.prog Tryz.f154.ntmps) = some r154 := by kernel_rfl
def c156r0 : List AOper :=
 [⟨some 2, none, .mv (.c (.int .i64 0))⟩,
 ⟨some 3, none, .mv (.c (.int .i64 0))⟩,
 ⟨some 4, none, .mv (.c (.int .i64 0))⟩]
def c156r1 : List AOper :=
 [⟨some 5, none, .mv (.c (.int .i64 0))⟩]
def c156r2 : List AOper :=
 [⟨some 6, none, .mv (.c (.int .i64 0))⟩]
def c156r3 : List AOper :=
 [⟨some 7, none, .mv (.t 6)⟩,
 ⟨some 8, none, .bin .lss (.t 7) (.c (.int .i64 9))⟩]
def c156r4 : List AOper :=
 [⟨some 11, none, .mv (.t 6)⟩,
 ⟨some 12, none, .mv (.t 0)⟩,
 ⟨some 13, none, .lenS (.t 12)⟩,
 ⟨some 14, none, .bin .geq (.t 11) (.t 13)⟩]
def c156r5 : List AOper :=
 [⟨some 2, none, .mv (.c (.int .i64 0))⟩,
 ⟨some 3, none, .mv (.c (.int .i64 0))⟩,
 ⟨some 4, none, .mv (.c (.int .i64 10))⟩]
def c156r6 : List AOper :=
 [⟨some 15, none, .mv (.t 5)⟩,
 ⟨some 16, none, .mv (.t 0)⟩,
 ⟨some 17, none, .mv (.t 6)⟩,
 ⟨some 18, none, .idxS (.t 16) (.t 17)⟩,
 ⟨some 19, none, .bin .and (.t 18) (.c (.int .u8 127))⟩,
 ⟨some 20, none, .convI .i64 (.t 19)⟩,
 ⟨some 21, none, .mv (.t 6)⟩,
 ⟨some 22, none, .bin .mul (.c (.int .i64 7)) (.t 21)⟩,
 ⟨some 23, none, .bin .shl (.t 20) (.t 22)⟩,
 ⟨some 24, none, .bin .or (.t 15) (.t 23)⟩,
 ⟨some 5, none, .mv (.t 24)⟩]
def c156r7 : List AOper :=
 [⟨some 25, none, .mv (.t 0)⟩,
 ⟨some 26, none, .mv (.t 6)⟩,
 ⟨some 27, none, .idxS (.t 25) (.t 26)⟩,
 ⟨some 28, none, .bin .lss (.t 27) (.c (.int .u8 128))⟩]
def c156r8 : List AOper :=
 [⟨some 29, none, .mv (.t 0)⟩,
 ⟨some 30, none, .mv (.t 6)⟩,
 ⟨some 31, none, .idxS (.t 29) (.t 30)⟩,
 ⟨some 32, none, .bin .eql (.t 31) (.c (.int .u8 0))⟩,
 ⟨some 33, none, .mv (.t 32)⟩,
 ⟨some 34, some (33, true), .mv (.t 6)⟩,
 ⟨some 35, some (33, true), .bin .gtr (.t 34) (.c (.int .i64 0))⟩,
 ⟨some 36, none, .pick (.t 33) (.t 35) (.c (.bool false))⟩,
 ⟨some 37, none, .mv (.t 36)⟩,
 ⟨some 38, some (37, false), .mv (.t 5)⟩,
 ⟨some 39, some (37, false), .bin .lss (.t 38) (.c (.int .i64 0))⟩,
 ⟨some 40, none, .pick (.t 37) (.c (.bool true)) (.t 39)⟩,
 ⟨some 41, none, .mv (.t 40)⟩,
 ⟨some 42, some (41, false), .mv (.t 5)⟩,
 ⟨some 43, some (41, false), .bin .gtr (.t 42) (.c (.int .i64 4611686018427387904))⟩,
 ⟨some 44, none, .pick (.t 41) (.c (.bool true)) (.t 43)⟩]
def c156r9 : List AOper :=
 [⟨some 2, none, .mv (.c (.int .i64 0))⟩,
 ⟨some 3, none, .mv (.c (.int .i64 0))⟩,
 ⟨some 4, none, .mv (.c (.int .i64 11))⟩]
def c156r10 : List AOper :=
 [⟨some 45, none, .mv (.t 5)⟩,
 ⟨some 46, none, .mv (.t 6)⟩,
 ⟨some 47, none, .bin .add (.t 46) (.c (.int .i64 1))⟩,
 ⟨some 2, none, .mv (.t 45)⟩,
 ⟨some 3, none, .mv (.t 47)⟩,
 ⟨some 4, none, .mv (.c (.int .i64 0))⟩]
def c156r11 : List AOper :=
 [⟨some 9, none, .mv (.t 6)⟩,
 ⟨some 10, none, .bin .add (.t 9) (.c (.int .i64 1))⟩,
 ⟨some 6, none, .mv (.t 10)⟩]
def c156l0 : AC := (.seq (.seq (.region c156r3) (.cond (.t 8) .skip (.exit 0))) (.seq (.block 1 (.seq (.seq (.region c156r4) (.cond (.t 14) (.seq (.region c156r5) .ret) .skip)) (.seq (.region c156r6) (.seq (.region c156r7) (.cond (.t 28) (.seq (.seq (.region c156r8) (.cond (.t 44) (.seq (.region c156r9) .ret) .skip)) (.seq (.region c156r10) .ret)) .skip))))) (.region c156r11)))
def c156r12 : List AOper :=
 [⟨some 2, none, .mv (.c (.int .i64 0))⟩,
 ⟨some 3, none, .mv (.c (.int .i64 0))⟩,
 ⟨some 4, none, .mv (.c (.int .i64 11))⟩]
def c156 : AC := (.seq (.region c156r0) (.seq (.region c156r1) (.seq (.seq (.region c156r2) (.block 0 (.loop c156l0))) (.seq (.region c156r12) .ret))))
def r156 : List ARes := [.tmp 2, .tmp 3, .tmp 4]
theorem c156_ok : Tryz.f156.body.bind (cCode Tryz.prog Tryz.f156.ntmps) = some c156 := by kernel_rfl
theorem r156_ok : Tryz.f156.results.toList.mapM (cRes Tryz.prog Tryz.f156.ntmps) = some r156 := by kernel_rfl
def c165r0 : List AOper :=
 [⟨some 2, none, .mv (.c (.str []))⟩,
 ⟨some 3, none, .mv (.c (.int .i64 0))⟩,
 ⟨some 4, none, .mv (.c (.int .i64 0))⟩]
def c165r1 : List AOper :=
 [⟨some 9, none, .mv (.t 0)⟩,
 ⟨some 10, none, .call (.c (.fn 194 [])) [.t 9]⟩,
 ⟨some 8, none, .mv (.t 10)⟩,
 ⟨some 11, none, .ext (.t 8) 0⟩,
 ⟨some 12, none, .ext (.t 8) 1⟩,
 ⟨some 13, none, .ext (.t 8) 2⟩,
 ⟨some 5, none, .mv (.t 11)⟩,
 ⟨some 6, none, .mv (.t 12)⟩,
 ⟨some 7, none, .mv (.t 13)⟩]
def c165r2 : List AOper :=
 [⟨some 14, none, .mv (.t 6)⟩,
 ⟨some 15, none, .bin .add (.t 14) (.c (.int .i64 4))⟩,
 ⟨some 6, none, .mv (.t 15)⟩]
def c165r3 : List AOper :=
 [⟨some 16, none, .mv (.t 7)⟩,
 ⟨some 17, none, .bin .neq (.t 16) (.c (.int .i64 0))⟩,
 ⟨some 18, none, .mv (.t 17)⟩,
 ⟨some 19, some (18, false), .mv (.t 6)⟩,
 ⟨some 20, some (18, false), .mv (.t 0)⟩,
 ⟨some 21, some (18, false), .lenS (.t 20)⟩,
 ⟨some 22, some (18, false), .bin .gtr (.t 19) (.t 21)⟩,
 ⟨some 23, none, .pick (.t 18) (.c (.bool true)) (.t 22)⟩,
 ⟨some 24, none, .mv (.t 23)⟩,
 ⟨some 25, some (24, false), .mv (.t 0)⟩,
 ⟨some 26, some (24, false), .mv (.t 6)⟩,
 ⟨some 27, some (24, false), .slcS (.t 25) none (some (.t 26))⟩,
 ⟨some 28, some (24, false), .call (.c (.fn 140 [])) [.t 27]⟩,
 ⟨some 29, some (24, false), .un .not (.t 28)⟩,
 ⟨some 30, none, .pick (.t 24) (.c (.bool true)) (.t 29)⟩]
def c165r4 : List AOper :=
 [⟨some 2, none, .mv (.c (.str []))⟩,
 ⟨some 3, none, .mv (.c (.int .i64 0))⟩,
 ⟨some 4, none, .mv (.c (.int .i64 30))⟩]
def c165r5 : List AOper :=
 [⟨some 31, none, .mv (.t 5)⟩,
 ⟨some 32, none, .mv (.t 6)⟩,
 ⟨some 2, none, .mv (.t 31)⟩,
 ⟨some 3, none, .mv (.t 32)⟩,
 ⟨some 4, none, .mv (.c (.int .i64 0))⟩]
def c165 : AC := (.seq (.region c165r0) (.seq (.region c165r1) (.seq (.seq (.region c165r2) (.seq (.region c165r3) (.cond (.t 30) (.seq (.region c165r4) .ret) .skip))) (.seq (.region c165r5) .ret))))
def r165 : List ARes := [.tmp 2, .tmp 3, .tmp 4]
theorem c165_ok : Tryz.f165.body.bind (cCode Tryz.prog Tryz.f165.ntmps) = some c165 := by kernel_rfl
theorem r165_ok : Tryz.f165.results.toList.mapM (cRes Tryz.prog Tryz.f165.ntmps) = some r165 := by kernel_rfl
def c166r0 : List AOper :=
 [⟨some 2, none, .mv (.c (.str []))⟩,
 ⟨some 3, none, .mv (.c (.int .i64 0))⟩]
def c166r1 : List AOper :=
 [⟨some 6, none, .mv (.t 0)⟩,
 ⟨some 7, none, .lenS (.t 6)⟩,
 ⟨some 8, none, .bin .gtr (.t 7) (.c (.int .i64 262144))⟩]
def c166r2 : List AOper :=
 [⟨some 2, none, .mv (.c (.str []))⟩,
 ⟨some 3, none, .mv (.c (.int .i64 1))⟩]
def c166r3 : List AOper :=
 [⟨some 10, none, .mv (.t 0)⟩,
 ⟨some 11, none, .lenS (.t 10)⟩,
 ⟨some 12, none, .call (.c (.fn 131 [])) [.t 11]⟩,
 ⟨some 9, none, .mv (.t 12)⟩,
 ⟨some 13, none, .ext (.t 9) 0⟩,
 ⟨some 14, none, .ext (.t 9) 1⟩,
 ⟨some 4, none, .mv (.t 13)⟩,
 ⟨some 5, none, .mv (.t 14)⟩]
def c166r4 : List AOper :=
 [⟨some 15, none, .mv (.t 4)⟩,
 ⟨some 16, none, .mv (.t 0)⟩,
 ⟨some 17, none, .bin .add (.t 15) (.t 16)⟩,
 ⟨some 2, none, .mv (.t 17)⟩,
 ⟨some 3, none, .mv (.c (.int .i64 0))⟩]
def c166 : AC := (.seq (.region c166r0) (.seq (.seq (.region c166r1) (.cond (.t 8) (.seq (.region c166r2) .ret) .skip)) (.seq (.region c166r3) (.seq (.region c166r4) .ret))))
def r166 : List ARes := [.tmp 2, .tmp 3]
theorem c166_ok : Tryz.f166.body.bind (cCode Tryz.prog Tryz.f166.ntmps) = some c166 := by kernel_rfl
theorem r166_ok : Tryz.f166.results.toList.mapM (cRes Tryz.prog Tryz.f166.ntmps) = some r166 := by kernel_rfl
def c167r0 : List AOper :=
 [⟨some 2, none, .mv (.t 0)⟩,
 ⟨some 3, none, .nilck (.t 2)⟩,
 ⟨some 4, none, .fldA (.t 3) 0⟩,
 ⟨some 5, none, .load (.t 4) none⟩,
 ⟨some 6, none, .eq false 1 (.t 5) (.c .nilp)⟩]
def c167r1 : List AOper :=
 [⟨some 7, none, .mv (.t 0)⟩,
 ⟨some 8, none, .mv (.t 0)⟩,
 ⟨some 9, none, .cvU (.t 8)⟩,
 ⟨some 10, none, .mv (.t 9)⟩,
 ⟨some 11, none, .cvP (.t 10) 208 2⟩,
 ⟨some 12, none, .nilck (.t 7)⟩,
 ⟨some 13, none, .fldA (.t 12) 0⟩,
 ⟨none, none, .store (.t 13) (.t 11) 1⟩]
def c167r2 : List AOper :=
 [⟨some 14, none, .mv (.t 0)⟩,
 ⟨some 15, none, .nilck (.t 14)⟩,
 ⟨some 16, none, .fldA (.t 15) 0⟩,
 ⟨some 17, none, .load (.t 16) none⟩,
 ⟨some 18, none, .mv (.t 0)⟩,
 ⟨some 19, none, .eq true 1 (.t 17) (.t 18)⟩]
def c167 : AC := (.seq (.region c167r0) (.cond (.t 6) (.region c167r1) (.seq (.region c167r2) (.cond (.t 19) .stop .skip))))
def r167 : List ARes := []
theorem c167_ok : Tryz.f167.body.bind (cCode Tryz.prog Tryz.f167.ntmps) = some c167 := by kernel_rfl
theorem r167_ok : Tryz.f167.results.toList.mapM (cRes Tryz.prog Tryz.f167.ntmps) = some r167 := by kernel_rfl
def c194r0 : List AOper :=
 [⟨some 2, none, .mv (.c (.str []))⟩,
 ⟨some 3, none, .mv (.c (.int .i64 0))⟩,
 ⟨some 4, none, .mv (.c (.int .i64 0))⟩]
def c194r1 : List AOper :=
 [⟨some 9, none, .mv (.t 0)⟩,
 ⟨some 10, none, .call (.c (.fn 78 [])) [.t 9]⟩,
 ⟨some 8, none, .mv (.t 10)⟩,
 ⟨some 11, none, .ext (.t 8) 0⟩,
 ⟨some 12, none, .ext (.t 8) 1⟩,
 ⟨some 13, none, .ext (.t 8) 2⟩,
 ⟨some 5, none, .mv (.t 11)⟩,
 ⟨some 6, none, .mv (.t 12)⟩,
 ⟨some 7, none, .mv (.t 13)⟩]
def c194r2 : List AOper :=
 [⟨some 15, none, .mv (.t 7)⟩,
 ⟨some 16, none, .bin .neq (.t 15) (.c (.int .i64 0))⟩,
 ⟨some 14, none, .mv (.t 16)⟩]
def c194r3 : List AOper :=
 [⟨some 17, none, .mv (.t 7)⟩,
 ⟨some 2, none, .mv (.c (.str []))⟩,
 ⟨some 3, none, .mv (.c (.int .i64 0))⟩,
 ⟨some 4, none, .mv (.t 17)⟩]
def c194r4 : List AOper :=
 [⟨some 19, none, .mv (.t 5)⟩,
 ⟨some 20, none, .bin .gtr (.t 19) (.c (.int .i64 262144))⟩,
 ⟨some 18, none, .mv (.t 20)⟩]
def c194r5 : List AOper :=
 [⟨some 2, none, .mv (.c (.str []))⟩,
 ⟨some 3, none, .mv (.c (.int .i64 0))⟩,
 ⟨some 4, none, .mv (.c (.int .i64 11))⟩]
def c194r6 : List AOper :=
 [⟨some 22, none, .mv (.t 0)⟩,
 ⟨some 23, none, .lenS (.t 22)⟩,
 ⟨some 24, none, .mv (.t 6)⟩,
 ⟨some 25, none, .bin .sub (.t 23) (.t 24)⟩,
 ⟨some 26, none, .mv (.t 5)⟩,
 ⟨some 27, none, .bin .lss (.t 25) (.t 26)⟩,
 ⟨some 21, none, .mv (.t 27)⟩]
def c194r7 : List AOper :=
 [⟨some 2, none, .mv (.c (.str []))⟩,
 ⟨some 3, none, .mv (.c (.int .i64 0))⟩,
 ⟨some 4, none, .mv (.c (.int .i64 10))⟩]
def c194r8 : List AOper :=
 [⟨some 28, none, .mv (.t 0)⟩,
 ⟨some 29, none, .mv (.t 6)⟩,
 ⟨some 30, none, .mv (.t 6)⟩,
 ⟨some 31, none, .mv (.t 5)⟩,
 ⟨some 32, none, .bin .add (.t 30) (.t 31)⟩,
 ⟨some 33, none, .slcS (.t 28) (some (.t 29)) (some (.t 32))⟩,
 ⟨some 34, none, .mv (.t 6)⟩,
 ⟨some 35, none, .mv (.t 5)⟩,
 ⟨some 36, none, .bin .add (.t 34) (.t 35)⟩,
 ⟨some 2, none, .mv (.t 33)⟩,
 ⟨some 3, none, .mv (.t 36)⟩,
 ⟨some 4, none, .mv (.c (.int .i64 0))⟩]
def c194 : AC := (.seq (.region c194r0) (.seq (.region c194r1) (.seq (.block 0 (.seq (.region c194r2) (.cond (.t 14) (.seq (.region c194r3) .ret) (.seq (.region c194r4) (.cond (.t 18) (.seq (.region c194r5) .ret) (.seq (.region c194r6) (.cond (.t 21) (.seq (.region c194r7) .ret) .skip))))))) (.seq (.region c194r8) .ret))))
def r194 : List ARes := [.tmp 2, .tmp 3, .tmp 4]
theorem c194_ok : Tryz.f194.body.bind (cCode Tryz.prog Tryz.f194.ntmps) = some c194 := by kernel_rfl
theorem r194_ok : Tryz.f194.results.toList.mapM (cRes Tryz.prog Tryz.f194.ntmps) = some r194 := by kernel_rfl
def c184r0 : List AOper :=
 [⟨some 4, none, .mv (.c (.int .i64 0))⟩]
def c184r1 : List AOper :=
 [⟨some 8, none, .mv (.t 0)⟩,
 ⟨some 9, none, .bin .and (.t 8) (.c (.int .i64 4294967295))⟩,
 ⟨some 10, none, .convI .u32 (.t 9)⟩,
 ⟨some 11, none, .un .xor (.t 10)⟩,
 ⟨some 5, none, .mv (.t 11)⟩]
def c184r2 : List AOper :=
 [⟨some 12, none, .mv (.t 1)⟩,
 ⟨some 13, none, .lenS (.t 12)⟩,
 ⟨some 14, none, .mv (.c (.int .i64 0))⟩]
def c184r3 : List AOper :=
 [⟨some 15, none, .bin .lss (.t 14) (.t 13)⟩]
def c184r4 : List AOper :=
 [⟨some 16, none, .mv (.t 14)⟩,
 ⟨some 6, none, .mv (.t 16)⟩]
def c184r5 : List AOper :=
 [⟨some 17, none, .mv (.t 5)⟩,
 ⟨some 18, none, .mv (.t 1)⟩,
 ⟨some 19, none, .mv (.t 6)⟩,
 ⟨some 20, none, .idxS (.t 18) (.t 19)⟩,
 ⟨some 21, none, .convI .u32 (.t 20)⟩,
 ⟨some 22, none, .bin .xor (.t 17) (.t 21)⟩,
 ⟨some 5, none, .mv (.t 22)⟩]
def c184r6 : List AOper :=
 [⟨some 23, none, .mv (.c (.int .i64 0))⟩]
def c184r7 : List AOper :=
 [⟨some 24, none, .bin .lss (.t 23) (.c (.int .i64 8))⟩]
def c184r8 : List AOper :=
 [⟨some 25, none, .mv (.t 5)⟩,
 ⟨some 26, none, .bin .and (.t 25) (.c (.int .u32 1))⟩,
 ⟨some 7, none, .mv (.t 26)⟩]
def c184r9 : List AOper :=
 [⟨some 27, none, .mv (.t 5)⟩,
 ⟨some 28, none, .bin .shr (.t 27) (.c (.int .u64 1))⟩,
 ⟨some 5, none, .mv (.t 28)⟩]
def c184r10 : List AOper :=
 [⟨some 29, none, .mv (.t 7)⟩,
 ⟨some 30, none, .bin .eql (.t 29) (.c (.int .u32 1))⟩]
def c184r11 : List AOper :=
 [⟨some 31, none, .mv (.t 5)⟩,
 ⟨some 32, none, .bin .xor (.t 31) (.c (.int .u32 2197175160))⟩,
 ⟨some 5, none, .mv (.t 32)⟩]
def c184r12 : List AOper :=
 [⟨some 33, none, .bin .add (.t 23) (.c (.int .i64 1))⟩,
 ⟨some 23, none, .mv (.t 33)⟩]
def c184l1 : AC := (.seq (.region c184r7) (.seq (.cond (.t 24) .skip (.exit 2)) (.seq (.block 3 (.seq (.region c184r8) (.seq (.region c184r9) (.seq (.region c184r10) (.cond (.t 30) (.region c184r11) .skip))))) (.region c184r12))))
def c184r13 : List AOper :=
 [⟨some 34, none, .bin .add (.t 14) (.c (.int .i64 1))⟩,
 ⟨some 14, none, .mv (.t 34)⟩]
def c184l0 : AC := (.seq (.region c184r3) (.seq (.cond (.t 15) .skip (.exit 0)) (.seq (.block 1 (.seq (.region c184r4) (.seq (.region c184r5) (.seq (.region c184r6) (.block 2 (.loop c184l1)))))) (.region c184r13))))
def c184r14 : List AOper :=
 [⟨some 35, none, .mv (.t 5)⟩,
 ⟨some 36, none, .un .xor (.t 35)⟩,
 ⟨some 37, none, .convI .i64 (.t 36)⟩,
 ⟨some 4, none, .mv (.t 37)⟩]
def c184 : AC := (.seq (.region c184r0) (.seq (.region c184r1) (.seq (.seq (.region c184r2) (.block 0 (.loop c184l0))) (.seq (.region c184r14) .ret))))
def r184 : List ARes := [.tmp 4]
theorem c184_ok : Tryz.f184.body.bind (cCode Tryz.prog Tryz.f184.ntmps) = some c184 := by kernel_rfl
theorem r184_ok : Tryz.f184.results.toList.mapM (cRes Tryz.prog Tryz.f184.ntmps) = some r184 := by kernel_rfl
end Go.Proofs.YthphkcpbglhabaaGreatDoor
