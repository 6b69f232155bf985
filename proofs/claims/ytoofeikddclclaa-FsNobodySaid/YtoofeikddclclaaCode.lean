/-
  The abstract code of some functions: written by a program (wip/tools/gen.py); held against the translation by Lean.
-/
import Derived.Test.YtoofeikddclclaaProg
import Derived.Test.YtoofeikddclclaaSx7
import Derived.KernelRfl
namespace Go.Proofs.Ytoofeikddclclaa
open Sx Go
set_option maxRecDepth 100000
def c3r0 : List AOper :=
 [⟨some 6, none, .mv (.c (.bool false))⟩]
def c3r1 : List AOper :=
 [⟨some 19, none, .call (.c (.fn 8 [])) []⟩,
 ⟨some 7, none, .mv (.t 19)⟩]
def c3r2 : List AOper :=
 [⟨some 20, none, .mv (.t 7)⟩,
 ⟨some 21, none, .eq false 1 (.t 20) (.c .nilp)⟩,
 ⟨some 22, none, .mv (.t 21)⟩,
 ⟨some 23, some (22, false), .mv (.t 0)⟩,
 ⟨some 24, some (22, false), .lenL (.t 23)⟩,
 ⟨some 25, some (22, false), .bin .gtr (.t 24) (.c (.int .i64 30))⟩,
 ⟨some 26, none, .pick (.t 22) (.c (.bool true)) (.t 25)⟩,
 ⟨some 27, none, .mv (.t 26)⟩,
 ⟨some 28, some (27, false), .mv (.t 2)⟩,
 ⟨some 29, some (27, false), .lenL (.t 28)⟩,
 ⟨some 30, some (27, false), .bin .gtr (.t 29) (.c (.int .i64 10))⟩,
 ⟨some 31, none, .pick (.t 27) (.c (.bool true)) (.t 30)⟩]
def c3r3 : List AOper :=
 [⟨some 32, none, .mv (.t 7)⟩,
 ⟨some 33, none, .eq true 1 (.t 32) (.c .nilp)⟩,
 ⟨some 34, none, .mv (.t 33)⟩,
 ⟨some 35, some (34, true), .call (.c (.fn 9 [])) []⟩,
 ⟨some 36, none, .pick (.t 34) (.t 35) (.c (.bool false))⟩,
 ⟨some 6, none, .mv (.t 36)⟩]
def c3r4 : List AOper :=
 [⟨some 37, none, .bslice 3 1 [.str []] [(0, .c (.str [97])), (1, .c (.str [98])), (2, .c (.str [99]))]⟩,
 ⟨some 8, none, .mv (.t 37)⟩]
def c3r5 : List AOper :=
 [⟨some 9, none, .alloc [.str [], .str [], .str []]⟩,
 ⟨some 10, none, .alloc [.str [], .str [], .str []]⟩]
def c3r6 : List AOper :=
 [⟨some 11, none, .mv (.c (.int .i64 0))⟩]
def c3r7 : List AOper :=
 [⟨some 38, none, .mv (.t 11)⟩,
 ⟨some 39, none, .bin .lss (.t 38) (.c (.int .i64 3))⟩]
def c3r8 : List AOper :=
 [⟨some 42, none, .mv (.t 7)⟩,
 ⟨some 43, none, .mv (.t 8)⟩,
 ⟨some 44, none, .mv (.t 11)⟩,
 ⟨some 45, none, .idxA (.t 43) (.t 44) none 1⟩,
 ⟨some 46, none, .load (.t 45) none⟩,
 ⟨some 47, none, .call (.c (.fn 10 [])) [.t 42, .t 46]⟩,
 ⟨some 48, none, .bin .neq (.t 47) (.c (.int .i64 0))⟩]
def c3r9 : List AOper :=
 [⟨some 6, none, .mv (.c (.bool false))⟩]
def c3r10 : List AOper :=
 [⟨some 40, none, .mv (.t 11)⟩,
 ⟨some 41, none, .bin .add (.t 40) (.c (.int .i64 1))⟩,
 ⟨some 11, none, .mv (.t 41)⟩]
def c3l0 : AC := (.seq (.seq (.region c3r7) (.cond (.t 39) .skip (.exit 0))) (.seq (.block 1 (.seq (.region c3r8) (.cond (.t 48) (.seq (.region c3r9) .ret) .skip))) (.region c3r10)))
def c3r11 : List AOper :=
 [⟨some 12, none, .mv (.c (.int .i64 0))⟩]
def c3r12 : List AOper :=
 [⟨some 49, none, .mv (.t 12)⟩,
 ⟨some 50, none, .mv (.t 0)⟩,
 ⟨some 51, none, .lenL (.t 50)⟩,
 ⟨some 52, none, .bin .lss (.t 49) (.t 51)⟩]
def c3r13 : List AOper :=
 [⟨some 55, none, .mv (.t 12)⟩,
 ⟨some 56, none, .bin .rem (.t 55) (.c (.int .i64 3))⟩,
 ⟨some 13, none, .mv (.t 56)⟩]
def c3r14 : List AOper :=
 [⟨some 57, none, .mv (.t 0)⟩,
 ⟨some 58, none, .mv (.t 12)⟩,
 ⟨some 59, none, .idxA (.t 57) (.t 58) none 1⟩,
 ⟨some 60, none, .load (.t 59) none⟩,
 ⟨some 61, none, .lenS (.t 60)⟩,
 ⟨some 62, none, .bin .gtr (.t 61) (.c (.int .i64 40))⟩]
def c3r15 : List AOper :=
 [⟨some 63, none, .call (.c (.fn 9 [])) []⟩,
 ⟨some 6, none, .mv (.t 63)⟩]
def c3d0 : List (AOper × List Nat) :=
 [(⟨some 64, none, .mv (.t 7)⟩, []),
 (⟨some 65, none, .mv (.t 8)⟩, []),
 (⟨some 66, none, .mv (.t 13)⟩, []),
 (⟨some 67, none, .idxA (.t 65) (.t 66) none 1⟩, [1, 2]),
 (⟨some 68, none, .load (.t 67) none⟩, [3]),
 (⟨some 69, none, .mv (.t 0)⟩, []),
 (⟨some 70, none, .mv (.t 12)⟩, []),
 (⟨some 71, none, .idxA (.t 69) (.t 70) none 1⟩, [5, 6]),
 (⟨some 72, none, .load (.t 71) none⟩, [7]),
 (⟨some 73, none, .call (.c (.fn 11 [])) [.t 64, .t 68, .t 72]⟩, [0, 4, 8]),
 (⟨some 74, none, .bin .neq (.t 73) (.c (.int .i64 0))⟩, [9])]
def c3r16 : List AOper :=
 [⟨some 6, none, .mv (.c (.bool false))⟩]
def c3d1 : List (AOper × List Nat) :=
 [(⟨some 75, none, .mv (.t 13)⟩, []),
 (⟨some 76, none, .mv (.t 13)⟩, []),
 (⟨some 77, none, .idxA (.t 10) (.t 76) (some 3) 1⟩, [1]),
 (⟨some 78, none, .load (.t 77) none⟩, [2]),
 (⟨some 79, none, .mv (.t 0)⟩, []),
 (⟨some 80, none, .mv (.t 12)⟩, []),
 (⟨some 81, none, .idxA (.t 79) (.t 80) none 1⟩, [4, 5]),
 (⟨some 82, none, .load (.t 81) none⟩, [6]),
 (⟨some 83, none, .bin .add (.t 78) (.t 82)⟩, [3, 7]),
 (⟨some 84, none, .idxA (.t 10) (.t 75) (some 3) 1⟩, [0, 0, 1, 2, 3, 4, 5, 6, 7, 8]),
 (⟨none, none, .store (.t 84) (.t 83) 1⟩, [9, 8, 0, 1, 2, 3, 4, 5, 6, 7, 8])]
def c3r17 : List AOper :=
 [⟨some 85, none, .mv (.t 1)⟩,
 ⟨some 86, none, .mv (.t 12)⟩,
 ⟨some 87, none, .bin .shr (.t 85) (.t 86)⟩,
 ⟨some 88, none, .bin .and (.t 87) (.c (.int .i64 1))⟩,
 ⟨some 89, none, .bin .eql (.t 88) (.c (.int .i64 1))⟩]
def c3r18 : List AOper :=
 [⟨some 90, none, .mv (.t 7)⟩,
 ⟨some 91, none, .mv (.t 8)⟩,
 ⟨some 92, none, .mv (.t 13)⟩,
 ⟨some 93, none, .idxA (.t 91) (.t 92) none 1⟩,
 ⟨some 94, none, .load (.t 93) none⟩,
 ⟨some 95, none, .call (.c (.fn 12 [])) [.t 90, .t 94]⟩,
 ⟨some 96, none, .bin .neq (.t 95) (.c (.int .i64 0))⟩]
def c3r19 : List AOper :=
 [⟨some 6, none, .mv (.c (.bool false))⟩]
def c3r20 : List AOper :=
 [⟨some 97, none, .mv (.t 13)⟩,
 ⟨some 98, none, .mv (.t 13)⟩,
 ⟨some 99, none, .idxA (.t 10) (.t 98) (some 3) 1⟩,
 ⟨some 100, none, .load (.t 99) none⟩,
 ⟨some 101, none, .idxA (.t 9) (.t 97) (some 3) 1⟩,
 ⟨none, none, .store (.t 101) (.t 100) 1⟩]
def c3r21 : List AOper :=
 [⟨some 53, none, .mv (.t 12)⟩,
 ⟨some 54, none, .bin .add (.t 53) (.c (.int .i64 1))⟩,
 ⟨some 12, none, .mv (.t 54)⟩]
def c3l1 : AC := (.seq (.seq (.region c3r12) (.cond (.t 52) .skip (.exit 2))) (.seq (.block 3 (.seq (.region c3r13) (.seq (.seq (.region c3r14) (.cond (.t 62) (.seq (.region c3r15) .ret) .skip)) (.seq (.seq (.drawn c3d0) (.cond (.t 74) (.seq (.region c3r16) .ret) .skip)) (.seq (.drawn c3d1) (.seq (.region c3r17) (.cond (.t 89) (.seq (.seq (.region c3r18) (.cond (.t 96) (.seq (.region c3r19) .ret) .skip)) (.region c3r20)) .skip))))))) (.region c3r21)))
def c3r22 : List AOper :=
 [⟨some 102, none, .mv (.t 7)⟩,
 ⟨some 103, none, .mv (.t 2)⟩,
 ⟨some 104, none, .call (.c (.fn 13 [])) [.t 102, .t 103]⟩,
 ⟨some 105, none, .bin .neq (.t 104) (.c (.int .i64 0))⟩]
def c3r23 : List AOper :=
 [⟨some 6, none, .mv (.c (.bool false))⟩]
def c3r24 : List AOper :=
 [⟨some 14, none, .mv (.c (.int .i64 0))⟩]
def c3r25 : List AOper :=
 [⟨some 106, none, .mv (.t 14)⟩,
 ⟨some 107, none, .bin .lss (.t 106) (.c (.int .i64 3))⟩]
def c3r26 : List AOper :=
 [⟨some 111, none, .mv (.t 7)⟩,
 ⟨some 112, none, .mv (.t 8)⟩,
 ⟨some 113, none, .mv (.t 14)⟩,
 ⟨some 114, none, .idxA (.t 112) (.t 113) none 1⟩,
 ⟨some 115, none, .load (.t 114) none⟩,
 ⟨some 116, none, .call (.c (.fn 14 [])) [.t 111, .t 115]⟩,
 ⟨some 110, none, .mv (.t 116)⟩,
 ⟨some 117, none, .ext (.t 110) 0⟩,
 ⟨some 118, none, .ext (.t 110) 1⟩,
 ⟨some 15, none, .mv (.t 117)⟩,
 ⟨some 16, none, .mv (.t 118)⟩]
def c3r27 : List AOper :=
 [⟨some 120, none, .mv (.t 7)⟩,
 ⟨some 121, none, .mv (.t 8)⟩,
 ⟨some 122, none, .mv (.t 14)⟩,
 ⟨some 123, none, .idxA (.t 121) (.t 122) none 1⟩,
 ⟨some 124, none, .load (.t 123) none⟩,
 ⟨some 125, none, .call (.c (.fn 15 [])) [.t 120, .t 124]⟩,
 ⟨some 119, none, .mv (.t 125)⟩,
 ⟨some 126, none, .ext (.t 119) 0⟩,
 ⟨some 127, none, .ext (.t 119) 1⟩,
 ⟨some 17, none, .mv (.t 126)⟩,
 ⟨some 18, none, .mv (.t 127)⟩]
def c3r28 : List AOper :=
 [⟨some 128, none, .mv (.t 16)⟩,
 ⟨some 129, none, .bin .neq (.t 128) (.c (.int .i64 0))⟩,
 ⟨some 130, none, .mv (.t 129)⟩,
 ⟨some 131, some (130, false), .mv (.t 18)⟩,
 ⟨some 132, some (130, false), .bin .neq (.t 131) (.c (.int .i64 0))⟩,
 ⟨some 133, none, .pick (.t 130) (.c (.bool true)) (.t 132)⟩,
 ⟨some 134, none, .mv (.t 133)⟩,
 ⟨some 135, some (134, false), .mv (.t 17)⟩,
 ⟨some 136, some (134, false), .mv (.t 15)⟩,
 ⟨some 137, some (134, false), .lenS (.t 136)⟩,
 ⟨some 138, some (134, false), .bin .neq (.t 135) (.t 137)⟩,
 ⟨some 139, none, .pick (.t 134) (.c (.bool true)) (.t 138)⟩,
 ⟨some 140, none, .mv (.t 139)⟩,
 ⟨some 141, some (140, false), .mv (.t 15)⟩,
 ⟨some 142, some (140, false), .lenS (.t 141)⟩,
 ⟨some 143, some (140, false), .mv (.t 14)⟩,
 ⟨some 144, some (140, false), .idxA (.t 9) (.t 143) (some 3) 1⟩,
 ⟨some 145, some (140, false), .load (.t 144) none⟩,
 ⟨some 146, some (140, false), .lenS (.t 145)⟩,
 ⟨some 147, some (140, false), .bin .lss (.t 142) (.t 146)⟩,
 ⟨some 148, none, .pick (.t 140) (.c (.bool true)) (.t 147)⟩,
 ⟨some 149, none, .mv (.t 148)⟩,
 ⟨some 150, some (149, false), .mv (.t 15)⟩,
 ⟨some 151, some (149, false), .lenS (.t 150)⟩,
 ⟨some 152, some (149, false), .mv (.t 14)⟩,
 ⟨some 153, some (149, false), .idxA (.t 10) (.t 152) (some 3) 1⟩,
 ⟨some 154, some (149, false), .load (.t 153) none⟩,
 ⟨some 155, some (149, false), .lenS (.t 154)⟩,
 ⟨some 156, some (149, false), .bin .gtr (.t 151) (.t 155)⟩,
 ⟨some 157, none, .pick (.t 149) (.c (.bool true)) (.t 156)⟩,
 ⟨some 158, none, .mv (.t 157)⟩,
 ⟨some 159, some (158, false), .mv (.t 15)⟩,
 ⟨some 160, some (158, false), .mv (.t 14)⟩,
 ⟨some 161, some (158, false), .idxA (.t 10) (.t 160) (some 3) 1⟩,
 ⟨some 162, some (158, false), .load (.t 161) none⟩,
 ⟨some 163, some (158, false), .mv (.t 15)⟩,
 ⟨some 164, some (158, false), .lenS (.t 163)⟩,
 ⟨some 165, some (158, false), .slcS (.t 162) none (some (.t 164))⟩,
 ⟨some 166, some (158, false), .bin .neq (.t 159) (.t 165)⟩,
 ⟨some 167, none, .pick (.t 158) (.c (.bool true)) (.t 166)⟩]
def c3r29 : List AOper :=
 [⟨some 6, none, .mv (.c (.bool false))⟩]
def c3r30 : List AOper :=
 [⟨some 108, none, .mv (.t 14)⟩,
 ⟨some 109, none, .bin .add (.t 108) (.c (.int .i64 1))⟩,
 ⟨some 14, none, .mv (.t 109)⟩]
def c3l2 : AC := (.seq (.seq (.region c3r25) (.cond (.t 107) .skip (.exit 4))) (.seq (.block 5 (.seq (.region c3r26) (.seq (.region c3r27) (.seq (.region c3r28) (.cond (.t 167) (.seq (.region c3r29) .ret) .skip))))) (.region c3r30)))
def c3r31 : List AOper :=
 [⟨some 168, none, .call (.c (.fn 9 [])) []⟩,
 ⟨some 6, none, .mv (.t 168)⟩]
def c3 : AC := (.seq (.region c3r0) (.seq (.region c3r1) (.seq (.seq (.region c3r2) (.cond (.t 31) (.seq (.region c3r3) .ret) .skip)) (.seq (.region c3r4) (.seq (.region c3r5) (.seq (.seq (.region c3r6) (.block 0 (.loop c3l0))) (.seq (.seq (.region c3r11) (.block 2 (.loop c3l1))) (.seq (.seq (.region c3r22) (.cond (.t 105) (.seq (.region c3r23) .ret) .skip)) (.seq (.seq (.region c3r24) (.block 4 (.loop c3l2))) (.seq (.region c3r31) .ret))))))))))
def r3 : List ARes := [.tmp 6]
theorem c3_ok : Try.f3.body.bind (cCode Try.prog Try.f3.ntmps) = some c3 := by kernel_rfl
theorem r3_ok : Try.f3.results.toList.mapM (cRes Try.prog Try.f3.ntmps) = some r3 := by kernel_rfl
def c4r0 : List AOper :=
 [⟨some 2, none, .mv (.c (.bool false))⟩]
def c4r1 : List AOper :=
 [⟨some 12, none, .call (.c (.fn 8 [])) []⟩,
 ⟨some 3, none, .mv (.t 12)⟩]
def c4r2 : List AOper :=
 [⟨some 13, none, .mv (.t 3)⟩,
 ⟨some 14, none, .eq false 1 (.t 13) (.c .nilp)⟩,
 ⟨some 15, none, .mv (.t 14)⟩,
 ⟨some 16, some (15, false), .mv (.t 0)⟩,
 ⟨some 17, some (15, false), .lenL (.t 16)⟩,
 ⟨some 18, some (15, false), .bin .gtr (.t 17) (.c (.int .i64 20))⟩,
 ⟨some 19, none, .pick (.t 15) (.c (.bool true)) (.t 18)⟩,
 ⟨some 20, none, .mv (.t 19)⟩,
 ⟨some 21, some (20, false), .mv (.t 3)⟩,
 ⟨some 22, some (20, false), .call (.c (.fn 10 [])) [.t 21, .c (.str [112])]⟩,
 ⟨some 23, some (20, false), .bin .neq (.t 22) (.c (.int .i64 0))⟩,
 ⟨some 24, none, .pick (.t 20) (.c (.bool true)) (.t 23)⟩,
 ⟨some 25, none, .mv (.t 24)⟩,
 ⟨some 26, some (25, false), .mv (.t 3)⟩,
 ⟨some 27, some (25, false), .call (.c (.fn 10 [])) [.t 26, .c (.str [113])]⟩,
 ⟨some 28, some (25, false), .bin .neq (.t 27) (.c (.int .i64 0))⟩,
 ⟨some 29, none, .pick (.t 25) (.c (.bool true)) (.t 28)⟩]
def c4r3 : List AOper :=
 [⟨some 30, none, .mv (.t 3)⟩,
 ⟨some 31, none, .eq true 1 (.t 30) (.c .nilp)⟩,
 ⟨some 32, none, .mv (.t 31)⟩,
 ⟨some 33, some (32, true), .call (.c (.fn 9 [])) []⟩,
 ⟨some 34, none, .pick (.t 32) (.t 33) (.c (.bool false))⟩,
 ⟨some 2, none, .mv (.t 34)⟩]
def c4r4 : List AOper :=
 [⟨some 4, none, .mv (.c (.str []))⟩]
def c4r5 : List AOper :=
 [⟨some 5, none, .mv (.c (.int .i64 0))⟩]
def c4r6 : List AOper :=
 [⟨some 35, none, .mv (.t 5)⟩,
 ⟨some 36, none, .mv (.t 0)⟩,
 ⟨some 37, none, .lenL (.t 36)⟩,
 ⟨some 38, none, .bin .lss (.t 35) (.t 37)⟩]
def c4r7 : List AOper :=
 [⟨some 41, none, .mv (.t 0)⟩,
 ⟨some 42, none, .mv (.t 5)⟩,
 ⟨some 43, none, .idxA (.t 41) (.t 42) none 1⟩,
 ⟨some 44, none, .load (.t 43) none⟩,
 ⟨some 45, none, .lenS (.t 44)⟩,
 ⟨some 46, none, .bin .gtr (.t 45) (.c (.int .i64 40))⟩]
def c4r8 : List AOper :=
 [⟨some 47, none, .call (.c (.fn 9 [])) []⟩,
 ⟨some 2, none, .mv (.t 47)⟩]
def c4r9 : List AOper :=
 [⟨some 48, none, .mv (.t 3)⟩,
 ⟨some 49, none, .mv (.t 0)⟩,
 ⟨some 50, none, .mv (.t 5)⟩,
 ⟨some 51, none, .idxA (.t 49) (.t 50) none 1⟩,
 ⟨some 52, none, .load (.t 51) none⟩,
 ⟨some 53, none, .call (.c (.fn 11 [])) [.t 48, .c (.str [112]), .t 52]⟩,
 ⟨some 54, none, .bin .neq (.t 53) (.c (.int .i64 0))⟩]
def c4r10 : List AOper :=
 [⟨some 2, none, .mv (.c (.bool false))⟩]
def c4r11 : List AOper :=
 [⟨some 55, none, .mv (.t 4)⟩,
 ⟨some 56, none, .mv (.t 0)⟩,
 ⟨some 57, none, .mv (.t 5)⟩,
 ⟨some 58, none, .idxA (.t 56) (.t 57) none 1⟩,
 ⟨some 59, none, .load (.t 58) none⟩,
 ⟨some 60, none, .bin .add (.t 55) (.t 59)⟩,
 ⟨some 4, none, .mv (.t 60)⟩]
def c4r12 : List AOper :=
 [⟨some 39, none, .mv (.t 5)⟩,
 ⟨some 40, none, .bin .add (.t 39) (.c (.int .i64 1))⟩,
 ⟨some 5, none, .mv (.t 40)⟩]
def c4l0 : AC := (.seq (.seq (.region c4r6) (.cond (.t 38) .skip (.exit 0))) (.seq (.block 1 (.seq (.seq (.region c4r7) (.cond (.t 46) (.seq (.region c4r8) .ret) .skip)) (.seq (.seq (.region c4r9) (.cond (.t 54) (.seq (.region c4r10) .ret) .skip)) (.region c4r11)))) (.region c4r12)))
def c4r13 : List AOper :=
 [⟨some 61, none, .mv (.t 3)⟩,
 ⟨some 62, none, .mv (.t 4)⟩,
 ⟨some 63, none, .call (.c (.fn 11 [])) [.t 61, .c (.str [113]), .t 62]⟩,
 ⟨some 64, none, .bin .neq (.t 63) (.c (.int .i64 0))⟩,
 ⟨some 65, none, .mv (.t 64)⟩,
 ⟨some 66, some (65, false), .mv (.t 3)⟩,
 ⟨some 67, some (65, false), .call (.c (.fn 12 [])) [.t 66, .c (.str [112])]⟩,
 ⟨some 68, some (65, false), .bin .neq (.t 67) (.c (.int .i64 0))⟩,
 ⟨some 69, none, .pick (.t 65) (.c (.bool true)) (.t 68)⟩,
 ⟨some 70, none, .mv (.t 69)⟩,
 ⟨some 71, some (70, false), .mv (.t 3)⟩,
 ⟨some 72, some (70, false), .call (.c (.fn 13 [])) [.t 71, .c .nils]⟩,
 ⟨some 73, some (70, false), .bin .neq (.t 72) (.c (.int .i64 0))⟩,
 ⟨some 74, none, .pick (.t 70) (.c (.bool true)) (.t 73)⟩]
def c4r14 : List AOper :=
 [⟨some 2, none, .mv (.c (.bool false))⟩]
def c4r15 : List AOper :=
 [⟨some 76, none, .mv (.t 3)⟩,
 ⟨some 77, none, .call (.c (.fn 14 [])) [.t 76, .c (.str [112])]⟩,
 ⟨some 75, none, .mv (.t 77)⟩,
 ⟨some 78, none, .ext (.t 75) 0⟩,
 ⟨some 79, none, .ext (.t 75) 1⟩,
 ⟨some 6, none, .mv (.t 78)⟩,
 ⟨some 7, none, .mv (.t 79)⟩]
def c4r16 : List AOper :=
 [⟨some 81, none, .mv (.t 3)⟩,
 ⟨some 82, none, .call (.c (.fn 14 [])) [.t 81, .c (.str [113])]⟩,
 ⟨some 80, none, .mv (.t 82)⟩,
 ⟨some 83, none, .ext (.t 80) 0⟩,
 ⟨some 84, none, .ext (.t 80) 1⟩,
 ⟨some 8, none, .mv (.t 83)⟩,
 ⟨some 9, none, .mv (.t 84)⟩]
def c4r17 : List AOper :=
 [⟨some 86, none, .mv (.t 3)⟩,
 ⟨some 87, none, .call (.c (.fn 15 [])) [.t 86, .c (.str [112])]⟩,
 ⟨some 85, none, .mv (.t 87)⟩,
 ⟨some 88, none, .ext (.t 85) 0⟩,
 ⟨some 89, none, .ext (.t 85) 1⟩,
 ⟨some 10, none, .mv (.t 88)⟩,
 ⟨some 11, none, .mv (.t 89)⟩]
def c4r18 : List AOper :=
 [⟨some 90, none, .mv (.t 6)⟩,
 ⟨some 91, none, .mv (.t 4)⟩,
 ⟨some 92, none, .bin .eql (.t 90) (.t 91)⟩,
 ⟨some 93, none, .mv (.t 92)⟩,
 ⟨some 94, some (93, true), .mv (.t 8)⟩,
 ⟨some 95, some (93, true), .bin .eql (.t 94) (.c (.str []))⟩,
 ⟨some 96, none, .pick (.t 93) (.t 95) (.c (.bool false))⟩,
 ⟨some 97, none, .mv (.t 96)⟩,
 ⟨some 98, some (97, true), .mv (.t 10)⟩,
 ⟨some 99, some (97, true), .mv (.t 4)⟩,
 ⟨some 100, some (97, true), .lenS (.t 99)⟩,
 ⟨some 101, some (97, true), .bin .eql (.t 98) (.t 100)⟩,
 ⟨some 102, none, .pick (.t 97) (.t 101) (.c (.bool false))⟩,
 ⟨some 103, none, .mv (.t 102)⟩,
 ⟨some 104, some (103, true), .mv (.t 7)⟩,
 ⟨some 105, some (103, true), .bin .eql (.t 104) (.c (.int .i64 0))⟩,
 ⟨some 106, none, .pick (.t 103) (.t 105) (.c (.bool false))⟩,
 ⟨some 107, none, .mv (.t 106)⟩,
 ⟨some 108, some (107, true), .mv (.t 9)⟩,
 ⟨some 109, some (107, true), .bin .eql (.t 108) (.c (.int .i64 0))⟩,
 ⟨some 110, none, .pick (.t 107) (.t 109) (.c (.bool false))⟩,
 ⟨some 111, none, .mv (.t 110)⟩,
 ⟨some 112, some (111, true), .mv (.t 11)⟩,
 ⟨some 113, some (111, true), .bin .eql (.t 112) (.c (.int .i64 0))⟩,
 ⟨some 114, none, .pick (.t 111) (.t 113) (.c (.bool false))⟩,
 ⟨some 115, none, .mv (.t 114)⟩,
 ⟨some 116, some (115, true), .call (.c (.fn 9 [])) []⟩,
 ⟨some 117, none, .pick (.t 115) (.t 116) (.c (.bool false))⟩,
 ⟨some 2, none, .mv (.t 117)⟩]
def c4 : AC := (.seq (.region c4r0) (.seq (.region c4r1) (.seq (.seq (.region c4r2) (.cond (.t 29) (.seq (.region c4r3) .ret) .skip)) (.seq (.region c4r4) (.seq (.seq (.region c4r5) (.block 0 (.loop c4l0))) (.seq (.seq (.region c4r13) (.cond (.t 74) (.seq (.region c4r14) .ret) .skip)) (.seq (.region c4r15) (.seq (.region c4r16) (.seq (.region c4r17) (.seq (.region c4r18) .ret))))))))))
def r4 : List ARes := [.tmp 2]
theorem c4_ok : Try.f4.body.bind (cCode Try.prog Try.f4.ntmps) = some c4 := by kernel_rfl
theorem r4_ok : Try.f4.results.toList.mapM (cRes Try.prog Try.f4.ntmps) = some r4 := by kernel_rfl
def c5r0 : List AOper :=
 [⟨some 4, none, .mv (.c (.bool false))⟩]
def c5r1 : List AOper :=
 [⟨some 12, none, .call (.c (.fn 8 [])) []⟩,
 ⟨some 5, none, .mv (.t 12)⟩]
def c5r2 : List AOper :=
 [⟨some 13, none, .mv (.t 0)⟩,
 ⟨some 14, none, .bin .and (.t 13) (.c (.int .i64 255))⟩,
 ⟨some 15, none, .bin .rem (.t 14) (.c (.int .i64 40))⟩,
 ⟨some 16, none, .mv (.t 1)⟩,
 ⟨some 17, none, .bin .and (.t 16) (.c (.int .i64 255))⟩,
 ⟨some 18, none, .bin .rem (.t 17) (.c (.int .i64 50))⟩,
 ⟨some 6, none, .mv (.t 15)⟩,
 ⟨some 7, none, .mv (.t 18)⟩]
def c5r3 : List AOper :=
 [⟨some 19, none, .mv (.t 5)⟩,
 ⟨some 20, none, .eq false 1 (.t 19) (.c .nilp)⟩,
 ⟨some 21, none, .mv (.t 20)⟩,
 ⟨some 22, some (21, false), .mv (.t 5)⟩,
 ⟨some 23, some (21, false), .mv (.t 7)⟩,
 ⟨some 24, some (21, false), .call (.c (.fn 16 [])) [.t 22, .t 23]⟩,
 ⟨some 25, some (21, false), .bin .neq (.t 24) (.c (.int .i64 0))⟩,
 ⟨some 26, none, .pick (.t 21) (.c (.bool true)) (.t 25)⟩]
def c5r4 : List AOper :=
 [⟨some 4, none, .mv (.c (.bool false))⟩]
def c5r5 : List AOper :=
 [⟨some 8, none, .mv (.c (.int .i64 0))⟩]
def c5r6 : List AOper :=
 [⟨some 27, none, .mv (.t 8)⟩,
 ⟨some 28, none, .mv (.t 6)⟩,
 ⟨some 29, none, .bin .lss (.t 27) (.t 28)⟩]
def c5r7 : List AOper :=
 [⟨some 32, none, .mv (.t 5)⟩,
 ⟨some 33, none, .mv (.t 8)⟩,
 ⟨some 34, none, .bin .rem (.t 33) (.c (.int .i64 20))⟩,
 ⟨some 35, none, .bin .add (.c (.int .i64 97)) (.t 34)⟩,
 ⟨some 36, none, .convI .u8 (.t 35)⟩,
 ⟨some 37, none, .mv (.t 8)⟩,
 ⟨some 38, none, .bin .quo (.t 37) (.c (.int .i64 20))⟩,
 ⟨some 39, none, .bin .add (.c (.int .i64 97)) (.t 38)⟩,
 ⟨some 40, none, .convI .u8 (.t 39)⟩,
 ⟨some 41, none, .bslice 2 1 [.int .u8 0] [(0, .t 36), (1, .t 40)]⟩,
 ⟨some 42, none, .b2s (.t 41)⟩,
 ⟨some 43, none, .bin .add (.c (.str [102])) (.t 42)⟩,
 ⟨some 44, none, .call (.c (.fn 10 [])) [.t 32, .t 43]⟩,
 ⟨some 9, none, .mv (.t 44)⟩]
def c5r8 : List AOper :=
 [⟨some 45, none, .mv (.t 8)⟩,
 ⟨some 46, none, .mv (.t 7)⟩,
 ⟨some 47, none, .bin .lss (.t 45) (.t 46)⟩,
 ⟨some 48, none, .mv (.t 47)⟩,
 ⟨some 49, some (48, true), .mv (.t 9)⟩,
 ⟨some 50, some (48, true), .bin .neq (.t 49) (.c (.int .i64 0))⟩,
 ⟨some 51, none, .pick (.t 48) (.t 50) (.c (.bool false))⟩,
 ⟨some 52, none, .mv (.t 51)⟩,
 ⟨some 53, some (52, false), .mv (.t 8)⟩,
 ⟨some 54, some (52, false), .mv (.t 7)⟩,
 ⟨some 55, some (52, false), .bin .geq (.t 53) (.t 54)⟩,
 ⟨some 56, some (52, false), .mv (.t 55)⟩,
 ⟨some 57, some (56, true), .mv (.t 9)⟩,
 ⟨some 58, some (56, true), .bin .neq (.t 57) (.c (.int .i64 50))⟩,
 ⟨some 59, some (52, false), .pick (.t 56) (.t 58) (.c (.bool false))⟩,
 ⟨some 60, none, .pick (.t 52) (.c (.bool true)) (.t 59)⟩]
def c5r9 : List AOper :=
 [⟨some 4, none, .mv (.c (.bool false))⟩]
def c5r10 : List AOper :=
 [⟨some 30, none, .mv (.t 8)⟩,
 ⟨some 31, none, .bin .add (.t 30) (.c (.int .i64 1))⟩,
 ⟨some 8, none, .mv (.t 31)⟩]
def c5l0 : AC := (.seq (.seq (.region c5r6) (.cond (.t 29) .skip (.exit 0))) (.seq (.block 1 (.seq (.region c5r7) (.seq (.region c5r8) (.cond (.t 60) (.seq (.region c5r9) .ret) .skip)))) (.region c5r10)))
def c5r11 : List AOper :=
 [⟨some 62, none, .mv (.t 5)⟩,
 ⟨some 63, none, .call (.c (.fn 14 [])) [.t 62, .c (.str [102, 122, 122])]⟩,
 ⟨some 61, none, .mv (.t 63)⟩,
 ⟨some 64, none, .ext (.t 61) 0⟩,
 ⟨some 65, none, .ext (.t 61) 1⟩,
 ⟨some 10, none, .mv (.t 64)⟩,
 ⟨some 11, none, .mv (.t 65)⟩]
def c5r12 : List AOper :=
 [⟨some 66, none, .mv (.t 5)⟩,
 ⟨some 67, none, .call (.c (.fn 17 [])) [.t 66]⟩,
 ⟨some 68, none, .mv (.t 6)⟩,
 ⟨some 69, none, .mv (.t 7)⟩,
 ⟨some 70, none, .bin .gtr (.t 68) (.t 69)⟩,
 ⟨some 71, none, .eq true 0 (.t 67) (.t 70)⟩,
 ⟨some 72, none, .mv (.t 71)⟩,
 ⟨some 73, some (72, false), .mv (.t 5)⟩,
 ⟨some 74, some (72, false), .call (.c (.fn 18 [])) [.t 73]⟩,
 ⟨some 75, some (72, false), .lenL (.t 74)⟩,
 ⟨some 76, some (72, false), .mv (.t 6)⟩,
 ⟨some 77, some (72, false), .mv (.t 7)⟩,
 ⟨some 78, some (72, false), .mm false [.t 76, .t 77]⟩,
 ⟨some 79, some (72, false), .bin .neq (.t 75) (.t 78)⟩,
 ⟨some 80, none, .pick (.t 72) (.c (.bool true)) (.t 79)⟩,
 ⟨some 81, none, .mv (.t 80)⟩,
 ⟨some 82, some (81, false), .mv (.t 11)⟩,
 ⟨some 83, some (81, false), .bin .eql (.t 82) (.c (.int .i64 50))⟩,
 ⟨some 84, some (81, false), .mv (.t 6)⟩,
 ⟨some 85, some (81, false), .mv (.t 7)⟩,
 ⟨some 86, some (81, false), .bin .gtr (.t 84) (.t 85)⟩,
 ⟨some 87, some (81, false), .eq true 0 (.t 83) (.t 86)⟩,
 ⟨some 88, none, .pick (.t 81) (.c (.bool true)) (.t 87)⟩]
def c5r13 : List AOper :=
 [⟨some 4, none, .mv (.c (.bool false))⟩]
def c5r14 : List AOper :=
 [⟨some 89, none, .mv (.t 5)⟩,
 ⟨some 90, none, .call (.c (.fn 13 [])) [.t 89, .c .nils]⟩,
 ⟨some 91, none, .bin .eql (.t 90) (.c (.int .i64 0))⟩,
 ⟨some 92, none, .mv (.t 91)⟩,
 ⟨some 93, some (92, true), .mv (.t 5)⟩,
 ⟨some 94, some (92, true), .call (.c (.fn 17 [])) [.t 93]⟩,
 ⟨some 95, some (92, true), .un .not (.t 94)⟩,
 ⟨some 96, none, .pick (.t 92) (.t 95) (.c (.bool false))⟩,
 ⟨some 97, none, .mv (.t 96)⟩,
 ⟨some 98, some (97, true), .mv (.t 5)⟩,
 ⟨some 99, some (97, true), .call (.c (.fn 10 [])) [.t 98, .c (.str [120])]⟩,
 ⟨some 100, some (97, true), .bin .eql (.t 99) (.c (.int .i64 0))⟩,
 ⟨some 101, none, .pick (.t 97) (.t 100) (.c (.bool false))⟩,
 ⟨some 102, none, .mv (.t 101)⟩,
 ⟨some 103, some (102, true), .mv (.t 5)⟩,
 ⟨some 104, some (102, true), .call (.c (.fn 18 [])) [.t 103]⟩,
 ⟨some 105, some (102, true), .lenL (.t 104)⟩,
 ⟨some 106, some (102, true), .mv (.t 6)⟩,
 ⟨some 107, some (102, true), .mv (.t 7)⟩,
 ⟨some 108, some (102, true), .mm false [.t 106, .t 107]⟩,
 ⟨some 109, some (102, true), .bin .add (.t 108) (.c (.int .i64 1))⟩,
 ⟨some 110, some (102, true), .bin .eql (.t 105) (.t 109)⟩,
 ⟨some 111, none, .pick (.t 102) (.t 110) (.c (.bool false))⟩,
 ⟨some 112, none, .mv (.t 111)⟩,
 ⟨some 113, some (112, true), .call (.c (.fn 9 [])) []⟩,
 ⟨some 114, none, .pick (.t 112) (.t 113) (.c (.bool false))⟩,
 ⟨some 4, none, .mv (.t 114)⟩]
def c5 : AC := (.seq (.region c5r0) (.seq (.region c5r1) (.seq (.region c5r2) (.seq (.seq (.region c5r3) (.cond (.t 26) (.seq (.region c5r4) .ret) .skip)) (.seq (.seq (.region c5r5) (.block 0 (.loop c5l0))) (.seq (.region c5r11) (.seq (.seq (.region c5r12) (.cond (.t 88) (.seq (.region c5r13) .ret) .skip)) (.seq (.region c5r14) .ret))))))))
def r5 : List ARes := [.tmp 4]
theorem c5_ok : Try.f5.body.bind (cCode Try.prog Try.f5.ntmps) = some c5 := by kernel_rfl
theorem r5_ok : Try.f5.results.toList.mapM (cRes Try.prog Try.f5.ntmps) = some r5 := by kernel_rfl
def c6r0 : List AOper :=
 [⟨some 5, none, .box (.t 2)⟩,
 ⟨some 6, none, .mv (.c (.bool false))⟩]
def c6r1 : List AOper :=
 [⟨some 12, none, .call (.c (.fn 8 [])) []⟩,
 ⟨some 7, none, .mv (.t 12)⟩]
def c6r2 : List AOper :=
 [⟨some 13, none, .mv (.t 7)⟩,
 ⟨some 14, none, .eq false 1 (.t 13) (.c .nilp)⟩,
 ⟨some 15, none, .mv (.t 14)⟩,
 ⟨some 16, some (15, false), .idxA (.t 5) (.c (.int .i64 0)) (some 2) 1⟩,
 ⟨some 17, some (15, false), .load (.t 16) none⟩,
 ⟨some 18, some (15, false), .lenS (.t 17)⟩,
 ⟨some 19, some (15, false), .bin .gtr (.t 18) (.c (.int .i64 1024))⟩,
 ⟨some 20, none, .pick (.t 15) (.c (.bool true)) (.t 19)⟩,
 ⟨some 21, none, .mv (.t 20)⟩,
 ⟨some 22, some (21, false), .idxA (.t 5) (.c (.int .i64 1)) (some 2) 1⟩,
 ⟨some 23, some (21, false), .load (.t 22) none⟩,
 ⟨some 24, some (21, false), .lenS (.t 23)⟩,
 ⟨some 25, some (21, false), .bin .gtr (.t 24) (.c (.int .i64 1024))⟩,
 ⟨some 26, none, .pick (.t 21) (.c (.bool true)) (.t 25)⟩,
 ⟨some 27, none, .mv (.t 26)⟩,
 ⟨some 28, some (27, false), .mv (.t 0)⟩,
 ⟨some 29, some (27, false), .call (.c (.fn 19 [])) [.t 28]⟩,
 ⟨some 30, some (27, false), .un .not (.t 29)⟩,
 ⟨some 31, none, .pick (.t 27) (.c (.bool true)) (.t 30)⟩,
 ⟨some 32, none, .mv (.t 31)⟩,
 ⟨some 33, some (32, false), .mv (.t 1)⟩,
 ⟨some 34, some (32, false), .call (.c (.fn 19 [])) [.t 33]⟩,
 ⟨some 35, some (32, false), .un .not (.t 34)⟩,
 ⟨some 36, none, .pick (.t 32) (.c (.bool true)) (.t 35)⟩,
 ⟨some 37, none, .mv (.t 36)⟩,
 ⟨some 38, some (37, false), .mv (.t 0)⟩,
 ⟨some 39, some (37, false), .mv (.t 1)⟩,
 ⟨some 40, some (37, false), .bin .eql (.t 38) (.t 39)⟩,
 ⟨some 41, none, .pick (.t 37) (.c (.bool true)) (.t 40)⟩]
def c6r3 : List AOper :=
 [⟨some 42, none, .mv (.t 7)⟩,
 ⟨some 43, none, .eq true 1 (.t 42) (.c .nilp)⟩,
 ⟨some 44, none, .mv (.t 43)⟩,
 ⟨some 45, some (44, true), .call (.c (.fn 9 [])) []⟩,
 ⟨some 46, none, .pick (.t 44) (.t 45) (.c (.bool false))⟩,
 ⟨some 6, none, .mv (.t 46)⟩]
def c6r4 : List AOper :=
 [⟨some 47, none, .mv (.t 7)⟩,
 ⟨some 48, none, .mv (.t 0)⟩,
 ⟨some 49, none, .call (.c (.fn 10 [])) [.t 47, .t 48]⟩,
 ⟨some 50, none, .bin .neq (.t 49) (.c (.int .i64 0))⟩,
 ⟨some 51, none, .mv (.t 50)⟩,
 ⟨some 52, some (51, false), .mv (.t 7)⟩,
 ⟨some 53, some (51, false), .mv (.t 1)⟩,
 ⟨some 54, some (51, false), .call (.c (.fn 10 [])) [.t 52, .t 53]⟩,
 ⟨some 55, some (51, false), .bin .neq (.t 54) (.c (.int .i64 0))⟩,
 ⟨some 56, none, .pick (.t 51) (.c (.bool true)) (.t 55)⟩,
 ⟨some 57, none, .mv (.t 56)⟩,
 ⟨some 58, some (57, false), .mv (.t 7)⟩,
 ⟨some 59, some (57, false), .mv (.t 0)⟩,
 ⟨some 60, some (57, false), .call (.c (.fn 10 [])) [.t 58, .t 59]⟩,
 ⟨some 61, some (57, false), .bin .neq (.t 60) (.c (.int .i64 1))⟩,
 ⟨some 62, none, .pick (.t 57) (.c (.bool true)) (.t 61)⟩,
 ⟨some 63, none, .mv (.t 62)⟩,
 ⟨some 64, some (63, false), .mv (.t 7)⟩,
 ⟨some 65, some (63, false), .mv (.t 0)⟩,
 ⟨some 66, some (63, false), .idxA (.t 5) (.c (.int .i64 0)) (some 2) 1⟩,
 ⟨some 67, some (63, false), .load (.t 66) none⟩,
 ⟨some 68, some (63, false), .call (.c (.fn 11 [])) [.t 64, .t 65, .t 67]⟩,
 ⟨some 69, some (63, false), .bin .neq (.t 68) (.c (.int .i64 0))⟩,
 ⟨some 70, none, .pick (.t 63) (.c (.bool true)) (.t 69)⟩,
 ⟨some 71, none, .mv (.t 70)⟩,
 ⟨some 72, some (71, false), .mv (.t 7)⟩,
 ⟨some 73, some (71, false), .mv (.t 1)⟩,
 ⟨some 74, some (71, false), .idxA (.t 5) (.c (.int .i64 1)) (some 2) 1⟩,
 ⟨some 75, some (71, false), .load (.t 74) none⟩,
 ⟨some 76, some (71, false), .call (.c (.fn 11 [])) [.t 72, .t 73, .t 75]⟩,
 ⟨some 77, some (71, false), .bin .neq (.t 76) (.c (.int .i64 0))⟩,
 ⟨some 78, none, .pick (.t 71) (.c (.bool true)) (.t 77)⟩,
 ⟨some 79, none, .mv (.t 78)⟩,
 ⟨some 80, some (79, false), .mv (.t 7)⟩,
 ⟨some 81, some (79, false), .mv (.t 0)⟩,
 ⟨some 82, some (79, false), .call (.c (.fn 12 [])) [.t 80, .t 81]⟩,
 ⟨some 83, some (79, false), .bin .neq (.t 82) (.c (.int .i64 0))⟩,
 ⟨some 84, none, .pick (.t 79) (.c (.bool true)) (.t 83)⟩]
def c6r5 : List AOper :=
 [⟨some 6, none, .mv (.c (.bool false))⟩]
def c6r6 : List AOper :=
 [⟨some 85, none, .mv (.t 7)⟩,
 ⟨some 86, none, .mv (.t 0)⟩,
 ⟨some 87, none, .mv (.t 1)⟩,
 ⟨some 88, none, .call (.c (.fn 20 [])) [.t 85, .t 86, .t 87]⟩,
 ⟨some 89, none, .bin .neq (.t 88) (.c (.int .i64 0))⟩,
 ⟨some 90, none, .mv (.t 89)⟩,
 ⟨some 91, some (90, false), .mv (.t 7)⟩,
 ⟨some 92, some (90, false), .mv (.t 0)⟩,
 ⟨some 93, some (90, false), .mv (.t 1)⟩,
 ⟨some 94, some (90, false), .call (.c (.fn 20 [])) [.t 91, .t 92, .t 93]⟩,
 ⟨some 95, some (90, false), .bin .neq (.t 94) (.c (.int .i64 3))⟩,
 ⟨some 96, none, .pick (.t 90) (.c (.bool true)) (.t 95)⟩,
 ⟨some 97, none, .mv (.t 96)⟩,
 ⟨some 98, some (97, false), .mv (.t 7)⟩,
 ⟨some 99, some (97, false), .call (.c (.fn 13 [])) [.t 98, .c .nils]⟩,
 ⟨some 100, some (97, false), .bin .neq (.t 99) (.c (.int .i64 0))⟩,
 ⟨some 101, none, .pick (.t 97) (.c (.bool true)) (.t 100)⟩]
def c6r7 : List AOper :=
 [⟨some 6, none, .mv (.c (.bool false))⟩]
def c6r8 : List AOper :=
 [⟨some 103, none, .mv (.t 7)⟩,
 ⟨some 104, none, .mv (.t 1)⟩,
 ⟨some 105, none, .call (.c (.fn 14 [])) [.t 103, .t 104]⟩,
 ⟨some 102, none, .mv (.t 105)⟩,
 ⟨some 106, none, .ext (.t 102) 0⟩,
 ⟨some 107, none, .ext (.t 102) 1⟩,
 ⟨some 8, none, .mv (.t 106)⟩,
 ⟨some 9, none, .mv (.t 107)⟩]
def c6r9 : List AOper :=
 [⟨some 109, none, .mv (.t 7)⟩,
 ⟨some 110, none, .mv (.t 0)⟩,
 ⟨some 111, none, .call (.c (.fn 14 [])) [.t 109, .t 110]⟩,
 ⟨some 108, none, .mv (.t 111)⟩,
 ⟨some 112, none, .ext (.t 108) 0⟩,
 ⟨some 113, none, .ext (.t 108) 1⟩,
 ⟨some 10, none, .mv (.t 112)⟩,
 ⟨some 11, none, .mv (.t 113)⟩]
def c6r10 : List AOper :=
 [⟨some 114, none, .mv (.t 8)⟩,
 ⟨some 115, none, .idxA (.t 5) (.c (.int .i64 0)) (some 2) 1⟩,
 ⟨some 116, none, .load (.t 115) none⟩,
 ⟨some 117, none, .bin .eql (.t 114) (.t 116)⟩,
 ⟨some 118, none, .mv (.t 117)⟩,
 ⟨some 119, some (118, true), .mv (.t 9)⟩,
 ⟨some 120, some (118, true), .bin .eql (.t 119) (.c (.int .i64 0))⟩,
 ⟨some 121, none, .pick (.t 118) (.t 120) (.c (.bool false))⟩,
 ⟨some 122, none, .mv (.t 121)⟩,
 ⟨some 123, some (122, true), .mv (.t 11)⟩,
 ⟨some 124, some (122, true), .bin .eql (.t 123) (.c (.int .i64 3))⟩,
 ⟨some 125, none, .pick (.t 122) (.t 124) (.c (.bool false))⟩,
 ⟨some 126, none, .mv (.t 125)⟩,
 ⟨some 127, some (126, true), .mv (.t 7)⟩,
 ⟨some 128, some (126, true), .call (.c (.fn 18 [])) [.t 127]⟩,
 ⟨some 129, some (126, true), .mv (.t 1)⟩,
 ⟨some 130, some (126, true), .bslice 1 1 [.str []] [(0, .t 129)]⟩,
 ⟨some 131, some (126, true), .call (.c (.fn 21 [])) [.t 128, .t 130]⟩,
 ⟨some 132, none, .pick (.t 126) (.t 131) (.c (.bool false))⟩,
 ⟨some 133, none, .mv (.t 132)⟩,
 ⟨some 134, some (133, true), .mv (.t 7)⟩,
 ⟨some 135, some (133, true), .mv (.t 1)⟩,
 ⟨some 136, some (133, true), .call (.c (.fn 22 [])) [.t 134, .t 135]⟩,
 ⟨some 137, some (133, true), .bin .eql (.t 136) (.c (.int .i64 0))⟩,
 ⟨some 138, none, .pick (.t 133) (.t 137) (.c (.bool false))⟩,
 ⟨some 139, none, .mv (.t 138)⟩,
 ⟨some 140, some (139, true), .mv (.t 7)⟩,
 ⟨some 141, some (139, true), .call (.c (.fn 18 [])) [.t 140]⟩,
 ⟨some 142, some (139, true), .lenL (.t 141)⟩,
 ⟨some 143, some (139, true), .bin .eql (.t 142) (.c (.int .i64 0))⟩,
 ⟨some 144, none, .pick (.t 139) (.t 143) (.c (.bool false))⟩,
 ⟨some 145, none, .mv (.t 144)⟩,
 ⟨some 146, some (145, true), .call (.c (.fn 9 [])) []⟩,
 ⟨some 147, none, .pick (.t 145) (.t 146) (.c (.bool false))⟩,
 ⟨some 6, none, .mv (.t 147)⟩]
def c6 : AC := (.seq (.region c6r0) (.seq (.region c6r1) (.seq (.seq (.region c6r2) (.cond (.t 41) (.seq (.region c6r3) .ret) .skip)) (.seq (.seq (.region c6r4) (.cond (.t 84) (.seq (.region c6r5) .ret) .skip)) (.seq (.seq (.region c6r6) (.cond (.t 101) (.seq (.region c6r7) .ret) .skip)) (.seq (.region c6r8) (.seq (.region c6r9) (.seq (.region c6r10) .ret))))))))
def r6 : List ARes := [.tmp 6]
theorem c6_ok : Try.f6.body.bind (cCode Try.prog Try.f6.ntmps) = some c6 := by kernel_rfl
theorem r6_ok : Try.f6.results.toList.mapM (cRes Try.prog Try.f6.ntmps) = some r6 := by kernel_rfl
def c7r0 : List AOper :=
 [⟨some 6, none, .mv (.c (.bool false))⟩]
def c7r1 : List AOper :=
 [⟨some 13, none, .build [.nilm, .int .i64 0, .bool false] []⟩,
 ⟨some 14, none, .box (.t 13)⟩,
 ⟨some 15, none, .bslice 2 1 [.nilp] [(0, .c .nilp), (1, .t 14)]⟩,
 ⟨some 7, none, .mv (.t 15)⟩]
def c7r2 : List AOper :=
 [⟨some 8, none, .mv (.c (.int .i64 0))⟩]
def c7r3 : List AOper :=
 [⟨some 16, none, .mv (.t 8)⟩,
 ⟨some 17, none, .mv (.t 7)⟩,
 ⟨some 18, none, .lenL (.t 17)⟩,
 ⟨some 19, none, .bin .lss (.t 16) (.t 18)⟩]
def c7r4 : List AOper :=
 [⟨some 23, none, .mv (.t 7)⟩,
 ⟨some 24, none, .mv (.t 8)⟩,
 ⟨some 25, none, .idxA (.t 23) (.t 24) none 1⟩,
 ⟨some 26, none, .load (.t 25) none⟩,
 ⟨some 27, none, .mv (.t 0)⟩,
 ⟨some 28, none, .call (.c (.fn 14 [])) [.t 26, .t 27]⟩,
 ⟨some 22, none, .mv (.t 28)⟩,
 ⟨some 29, none, .ext (.t 22) 0⟩,
 ⟨some 30, none, .ext (.t 22) 1⟩,
 ⟨some 9, none, .mv (.t 29)⟩,
 ⟨some 10, none, .mv (.t 30)⟩]
def c7r5 : List AOper :=
 [⟨some 32, none, .mv (.t 7)⟩,
 ⟨some 33, none, .mv (.t 8)⟩,
 ⟨some 34, none, .idxA (.t 32) (.t 33) none 1⟩,
 ⟨some 35, none, .load (.t 34) none⟩,
 ⟨some 36, none, .mv (.t 0)⟩,
 ⟨some 37, none, .call (.c (.fn 15 [])) [.t 35, .t 36]⟩,
 ⟨some 31, none, .mv (.t 37)⟩,
 ⟨some 38, none, .ext (.t 31) 0⟩,
 ⟨some 39, none, .ext (.t 31) 1⟩,
 ⟨some 11, none, .mv (.t 38)⟩,
 ⟨some 12, none, .mv (.t 39)⟩]
def c7r6 : List AOper :=
 [⟨some 40, none, .mv (.t 9)⟩,
 ⟨some 41, none, .bin .neq (.t 40) (.c (.str []))⟩,
 ⟨some 42, none, .mv (.t 41)⟩,
 ⟨some 43, some (42, false), .mv (.t 10)⟩,
 ⟨some 44, some (42, false), .bin .neq (.t 43) (.c (.int .i64 1))⟩,
 ⟨some 45, none, .pick (.t 42) (.c (.bool true)) (.t 44)⟩,
 ⟨some 46, none, .mv (.t 45)⟩,
 ⟨some 47, some (46, false), .mv (.t 11)⟩,
 ⟨some 48, some (46, false), .bin .neq (.t 47) (.c (.int .i64 0))⟩,
 ⟨some 49, none, .pick (.t 46) (.c (.bool true)) (.t 48)⟩,
 ⟨some 50, none, .mv (.t 49)⟩,
 ⟨some 51, some (50, false), .mv (.t 12)⟩,
 ⟨some 52, some (50, false), .bin .neq (.t 51) (.c (.int .i64 1))⟩,
 ⟨some 53, none, .pick (.t 50) (.c (.bool true)) (.t 52)⟩,
 ⟨some 54, none, .mv (.t 53)⟩,
 ⟨some 55, some (54, false), .mv (.t 7)⟩,
 ⟨some 56, some (54, false), .mv (.t 8)⟩,
 ⟨some 57, some (54, false), .idxA (.t 55) (.t 56) none 1⟩,
 ⟨some 58, some (54, false), .load (.t 57) none⟩,
 ⟨some 59, some (54, false), .mv (.t 0)⟩,
 ⟨some 60, some (54, false), .call (.c (.fn 10 [])) [.t 58, .t 59]⟩,
 ⟨some 61, some (54, false), .bin .neq (.t 60) (.c (.int .i64 1))⟩,
 ⟨some 62, none, .pick (.t 54) (.c (.bool true)) (.t 61)⟩,
 ⟨some 63, none, .mv (.t 62)⟩,
 ⟨some 64, some (63, false), .mv (.t 7)⟩,
 ⟨some 65, some (63, false), .mv (.t 8)⟩,
 ⟨some 66, some (63, false), .idxA (.t 64) (.t 65) none 1⟩,
 ⟨some 67, some (63, false), .load (.t 66) none⟩,
 ⟨some 68, some (63, false), .mv (.t 0)⟩,
 ⟨some 69, some (63, false), .mv (.t 1)⟩,
 ⟨some 70, some (63, false), .call (.c (.fn 11 [])) [.t 67, .t 68, .t 69]⟩,
 ⟨some 71, some (63, false), .bin .neq (.t 70) (.c (.int .i64 1))⟩,
 ⟨some 72, none, .pick (.t 63) (.c (.bool true)) (.t 71)⟩,
 ⟨some 73, none, .mv (.t 72)⟩,
 ⟨some 74, some (73, false), .mv (.t 7)⟩,
 ⟨some 75, some (73, false), .mv (.t 8)⟩,
 ⟨some 76, some (73, false), .idxA (.t 74) (.t 75) none 1⟩,
 ⟨some 77, some (73, false), .load (.t 76) none⟩,
 ⟨some 78, some (73, false), .mv (.t 0)⟩,
 ⟨some 79, some (73, false), .call (.c (.fn 12 [])) [.t 77, .t 78]⟩,
 ⟨some 80, some (73, false), .bin .neq (.t 79) (.c (.int .i64 1))⟩,
 ⟨some 81, none, .pick (.t 73) (.c (.bool true)) (.t 80)⟩,
 ⟨some 82, none, .mv (.t 81)⟩,
 ⟨some 83, some (82, false), .mv (.t 7)⟩,
 ⟨some 84, some (82, false), .mv (.t 8)⟩,
 ⟨some 85, some (82, false), .idxA (.t 83) (.t 84) none 1⟩,
 ⟨some 86, some (82, false), .load (.t 85) none⟩,
 ⟨some 87, some (82, false), .mv (.t 0)⟩,
 ⟨some 88, some (82, false), .mv (.t 1)⟩,
 ⟨some 89, some (82, false), .call (.c (.fn 20 [])) [.t 86, .t 87, .t 88]⟩,
 ⟨some 90, some (82, false), .bin .neq (.t 89) (.c (.int .i64 1))⟩,
 ⟨some 91, none, .pick (.t 82) (.c (.bool true)) (.t 90)⟩,
 ⟨some 92, none, .mv (.t 91)⟩,
 ⟨some 93, some (92, false), .mv (.t 7)⟩,
 ⟨some 94, some (92, false), .mv (.t 8)⟩,
 ⟨some 95, some (92, false), .idxA (.t 93) (.t 94) none 1⟩,
 ⟨some 96, some (92, false), .load (.t 95) none⟩,
 ⟨some 97, some (92, false), .mv (.t 0)⟩,
 ⟨some 98, some (92, false), .call (.c (.fn 22 [])) [.t 96, .t 97]⟩,
 ⟨some 99, some (92, false), .bin .neq (.t 98) (.c (.int .i64 1))⟩,
 ⟨some 100, none, .pick (.t 92) (.c (.bool true)) (.t 99)⟩,
 ⟨some 101, none, .mv (.t 100)⟩,
 ⟨some 102, some (101, false), .mv (.t 7)⟩,
 ⟨some 103, some (101, false), .mv (.t 8)⟩,
 ⟨some 104, some (101, false), .idxA (.t 102) (.t 103) none 1⟩,
 ⟨some 105, some (101, false), .load (.t 104) none⟩,
 ⟨some 106, some (101, false), .call (.c (.fn 18 [])) [.t 105]⟩,
 ⟨some 107, some (101, false), .lenL (.t 106)⟩,
 ⟨some 108, some (101, false), .bin .gtr (.t 107) (.c (.int .i64 0))⟩,
 ⟨some 109, none, .pick (.t 101) (.c (.bool true)) (.t 108)⟩,
 ⟨some 110, none, .mv (.t 109)⟩,
 ⟨some 111, some (110, false), .mv (.t 7)⟩,
 ⟨some 112, some (110, false), .mv (.t 8)⟩,
 ⟨some 113, some (110, false), .idxA (.t 111) (.t 112) none 1⟩,
 ⟨some 114, some (110, false), .load (.t 113) none⟩,
 ⟨some 115, some (110, false), .mv (.t 2)⟩,
 ⟨some 116, some (110, false), .call (.c (.fn 16 [])) [.t 114, .t 115]⟩,
 ⟨some 117, some (110, false), .bin .neq (.t 116) (.c (.int .i64 1))⟩,
 ⟨some 118, none, .pick (.t 110) (.c (.bool true)) (.t 117)⟩,
 ⟨some 119, none, .mv (.t 118)⟩,
 ⟨some 120, some (119, false), .mv (.t 7)⟩,
 ⟨some 121, some (119, false), .mv (.t 8)⟩,
 ⟨some 122, some (119, false), .idxA (.t 120) (.t 121) none 1⟩,
 ⟨some 123, some (119, false), .load (.t 122) none⟩,
 ⟨some 124, some (119, false), .call (.c (.fn 17 [])) [.t 123]⟩,
 ⟨some 125, none, .pick (.t 119) (.c (.bool true)) (.t 124)⟩,
 ⟨some 126, none, .mv (.t 125)⟩,
 ⟨some 127, some (126, false), .mv (.t 7)⟩,
 ⟨some 128, some (126, false), .mv (.t 8)⟩,
 ⟨some 129, some (126, false), .idxA (.t 127) (.t 128) none 1⟩,
 ⟨some 130, some (126, false), .load (.t 129) none⟩,
 ⟨some 131, some (126, false), .call (.c (.fn 13 [])) [.t 130, .c .nils]⟩,
 ⟨some 132, some (126, false), .bin .neq (.t 131) (.c (.int .i64 1))⟩,
 ⟨some 133, none, .pick (.t 126) (.c (.bool true)) (.t 132)⟩]
def c7r7 : List AOper :=
 [⟨some 6, none, .mv (.c (.bool false))⟩]
def c7r8 : List AOper :=
 [⟨some 20, none, .mv (.t 8)⟩,
 ⟨some 21, none, .bin .add (.t 20) (.c (.int .i64 1))⟩,
 ⟨some 8, none, .mv (.t 21)⟩]
def c7l0 : AC := (.seq (.seq (.region c7r3) (.cond (.t 19) .skip (.exit 0))) (.seq (.block 1 (.seq (.region c7r4) (.seq (.region c7r5) (.seq (.region c7r6) (.cond (.t 133) (.seq (.region c7r7) .ret) .skip))))) (.region c7r8)))
def c7r9 : List AOper :=
 [⟨some 134, none, .call (.c (.fn 9 [])) []⟩,
 ⟨some 6, none, .mv (.t 134)⟩]
def c7 : AC := (.seq (.region c7r0) (.seq (.region c7r1) (.seq (.seq (.region c7r2) (.block 0 (.loop c7l0))) (.seq (.region c7r9) .ret))))
def r7 : List ARes := [.tmp 6]
theorem c7_ok : Try.f7.body.bind (cCode Try.prog Try.f7.ntmps) = some c7 := by kernel_rfl
theorem r7_ok : Try.f7.results.toList.mapM (cRes Try.prog Try.f7.ntmps) = some r7 := by kernel_rfl
def c8r0 : List AOper :=
 [⟨some 0, none, .mv (.c .nilp)⟩]
def c8r1 : List AOper :=
 [⟨some 1, none, .mkm⟩,
 ⟨some 2, none, .build [.nilm, .int .i64 0, .bool false] [(0, 1, .t 1), (1, 1, .c (.int .i64 (-1)))]⟩,
 ⟨some 3, none, .box (.t 2)⟩,
 ⟨some 0, none, .mv (.t 3)⟩]
def c8 : AC := (.seq (.region c8r0) (.seq (.region c8r1) .ret))
def r8 : List ARes := [.tmp 0]
theorem c8_ok : Try.f8.body.bind (cCode Try.prog Try.f8.ntmps) = some c8 := by kernel_rfl
theorem r8_ok : Try.f8.results.toList.mapM (cRes Try.prog Try.f8.ntmps) = some r8 := by kernel_rfl
def c9r0 : List AOper :=
 [⟨some 0, none, .mv (.c (.bool false))⟩]
def c9r1 : List AOper :=
 [⟨some 9, none, .call (.c (.fn 8 [])) []⟩,
 ⟨some 1, none, .mv (.t 9)⟩]
def c9r2 : List AOper :=
 [⟨some 10, none, .mv (.t 1)⟩,
 ⟨some 11, none, .eq false 1 (.t 10) (.c .nilp)⟩,
 ⟨some 12, none, .mv (.t 11)⟩,
 ⟨some 13, some (12, false), .mv (.t 1)⟩,
 ⟨some 14, some (12, false), .call (.c (.fn 10 [])) [.t 13, .c (.str [97])]⟩,
 ⟨some 15, some (12, false), .bin .neq (.t 14) (.c (.int .i64 0))⟩,
 ⟨some 16, none, .pick (.t 12) (.c (.bool true)) (.t 15)⟩,
 ⟨some 17, none, .mv (.t 16)⟩,
 ⟨some 18, some (17, false), .mv (.t 1)⟩,
 ⟨some 19, some (17, false), .call (.c (.fn 11 [])) [.t 18, .c (.str [97]), .c (.str [120, 121])]⟩,
 ⟨some 20, some (17, false), .bin .neq (.t 19) (.c (.int .i64 0))⟩,
 ⟨some 21, none, .pick (.t 17) (.c (.bool true)) (.t 20)⟩,
 ⟨some 22, none, .mv (.t 21)⟩,
 ⟨some 23, some (22, false), .mv (.t 1)⟩,
 ⟨some 24, some (22, false), .call (.c (.fn 12 [])) [.t 23, .c (.str [97])]⟩,
 ⟨some 25, some (22, false), .bin .neq (.t 24) (.c (.int .i64 0))⟩,
 ⟨some 26, none, .pick (.t 22) (.c (.bool true)) (.t 25)⟩,
 ⟨some 27, none, .mv (.t 26)⟩,
 ⟨some 28, some (27, false), .mv (.t 1)⟩,
 ⟨some 29, some (27, false), .call (.c (.fn 11 [])) [.t 28, .c (.str [97]), .c (.str [122])]⟩,
 ⟨some 30, some (27, false), .bin .neq (.t 29) (.c (.int .i64 0))⟩,
 ⟨some 31, none, .pick (.t 27) (.c (.bool true)) (.t 30)⟩]
def c9r3 : List AOper :=
 [⟨some 0, none, .mv (.c (.bool false))⟩]
def c9r4 : List AOper :=
 [⟨some 33, none, .mv (.t 1)⟩,
 ⟨some 34, none, .call (.c (.fn 14 [])) [.t 33, .c (.str [97])]⟩,
 ⟨some 32, none, .mv (.t 34)⟩,
 ⟨some 35, none, .ext (.t 32) 0⟩,
 ⟨some 36, none, .ext (.t 32) 1⟩,
 ⟨some 2, none, .mv (.t 35)⟩,
 ⟨some 3, none, .mv (.t 36)⟩]
def c9r5 : List AOper :=
 [⟨some 38, none, .mv (.t 1)⟩,
 ⟨some 39, none, .call (.c (.fn 15 [])) [.t 38, .c (.str [97])]⟩,
 ⟨some 37, none, .mv (.t 39)⟩,
 ⟨some 40, none, .ext (.t 37) 0⟩,
 ⟨some 41, none, .ext (.t 37) 1⟩,
 ⟨some 4, none, .mv (.t 40)⟩,
 ⟨some 5, none, .mv (.t 41)⟩]
def c9r6 : List AOper :=
 [⟨some 42, none, .mv (.t 1)⟩,
 ⟨some 43, none, .call (.c (.fn 13 [])) [.t 42, .c .nils]⟩,
 ⟨some 6, none, .mv (.t 43)⟩]
def c9r7 : List AOper :=
 [⟨some 45, none, .mv (.t 1)⟩,
 ⟨some 46, none, .call (.c (.fn 14 [])) [.t 45, .c (.str [97])]⟩,
 ⟨some 44, none, .mv (.t 46)⟩,
 ⟨some 47, none, .ext (.t 44) 0⟩,
 ⟨some 48, none, .ext (.t 44) 1⟩,
 ⟨some 7, none, .mv (.t 47)⟩,
 ⟨some 8, none, .mv (.t 48)⟩]
def c9r8 : List AOper :=
 [⟨some 49, none, .mv (.t 2)⟩,
 ⟨some 50, none, .bin .eql (.t 49) (.c (.str [120, 121, 122]))⟩,
 ⟨some 51, none, .mv (.t 50)⟩,
 ⟨some 52, some (51, true), .mv (.t 3)⟩,
 ⟨some 53, some (51, true), .bin .eql (.t 52) (.c (.int .i64 0))⟩,
 ⟨some 54, none, .pick (.t 51) (.t 53) (.c (.bool false))⟩,
 ⟨some 55, none, .mv (.t 54)⟩,
 ⟨some 56, some (55, true), .mv (.t 4)⟩,
 ⟨some 57, some (55, true), .bin .eql (.t 56) (.c (.int .i64 2))⟩,
 ⟨some 58, none, .pick (.t 55) (.t 57) (.c (.bool false))⟩,
 ⟨some 59, none, .mv (.t 58)⟩,
 ⟨some 60, some (59, true), .mv (.t 5)⟩,
 ⟨some 61, some (59, true), .bin .eql (.t 60) (.c (.int .i64 0))⟩,
 ⟨some 62, none, .pick (.t 59) (.t 61) (.c (.bool false))⟩,
 ⟨some 63, none, .mv (.t 62)⟩,
 ⟨some 64, some (63, true), .mv (.t 6)⟩,
 ⟨some 65, some (63, true), .bin .eql (.t 64) (.c (.int .i64 0))⟩,
 ⟨some 66, none, .pick (.t 63) (.t 65) (.c (.bool false))⟩,
 ⟨some 67, none, .mv (.t 66)⟩,
 ⟨some 68, some (67, true), .mv (.t 7)⟩,
 ⟨some 69, some (67, true), .bin .eql (.t 68) (.c (.str [120, 121]))⟩,
 ⟨some 70, none, .pick (.t 67) (.t 69) (.c (.bool false))⟩,
 ⟨some 71, none, .mv (.t 70)⟩,
 ⟨some 72, some (71, true), .mv (.t 8)⟩,
 ⟨some 73, some (71, true), .bin .eql (.t 72) (.c (.int .i64 0))⟩,
 ⟨some 74, none, .pick (.t 71) (.t 73) (.c (.bool false))⟩,
 ⟨some 0, none, .mv (.t 74)⟩]
def c9 : AC := (.seq (.region c9r0) (.seq (.region c9r1) (.seq (.seq (.region c9r2) (.cond (.t 31) (.seq (.region c9r3) .ret) .skip)) (.seq (.region c9r4) (.seq (.region c9r5) (.seq (.region c9r6) (.seq (.region c9r7) (.seq (.region c9r8) .ret))))))))
def r9 : List ARes := [.tmp 0]
theorem c9_ok : Try.f9.body.bind (cCode Try.prog Try.f9.ntmps) = some c9 := by kernel_rfl
theorem r9_ok : Try.f9.results.toList.mapM (cRes Try.prog Try.f9.ntmps) = some r9 := by kernel_rfl
def c10r0 : List AOper :=
 [⟨some 4, none, .mv (.c (.int .i64 0))⟩]
def c10r1 : List AOper :=
 [⟨some 8, none, .mv (.t 0)⟩,
 ⟨some 9, none, .mv (.t 1)⟩,
 ⟨some 10, none, .bslice 1 1 [.str []] [(0, .t 9)]⟩,
 ⟨some 11, none, .call (.c (.fn 23 [])) [.t 8, .t 10]⟩,
 ⟨some 5, none, .mv (.t 11)⟩]
def c10r2 : List AOper :=
 [⟨some 12, none, .mv (.t 5)⟩,
 ⟨some 13, none, .bin .neq (.t 12) (.c (.int .i64 0))⟩]
def c10r3 : List AOper :=
 [⟨some 14, none, .mv (.t 5)⟩,
 ⟨some 4, none, .mv (.t 14)⟩]
def c10r4 : List AOper :=
 [⟨some 16, none, .mv (.t 0)⟩,
 ⟨some 17, none, .nilck (.t 16)⟩,
 ⟨some 18, none, .fldA (.t 17) 0⟩,
 ⟨some 19, none, .load (.t 18) none⟩,
 ⟨some 20, none, .mv (.t 1)⟩,
 ⟨some 21, none, .mget 1 (.t 19) (.t 20) .nilp true⟩,
 ⟨some 15, none, .mv (.t 21)⟩,
 ⟨some 22, none, .ext (.t 15) 0⟩,
 ⟨some 23, none, .ext (.t 15) 1⟩,
 ⟨some 6, none, .mv (.t 22)⟩,
 ⟨some 7, none, .mv (.t 23)⟩]
def c10r5 : List AOper :=
 [⟨some 24, none, .mv (.t 7)⟩]
def c10r6 : List AOper :=
 [⟨some 4, none, .mv (.c (.int .i64 1))⟩]
def c10r7 : List AOper :=
 [⟨some 25, none, .mv (.t 0)⟩,
 ⟨some 26, none, .nilck (.t 25)⟩,
 ⟨some 27, none, .fldA (.t 26) 0⟩,
 ⟨some 28, none, .load (.t 27) none⟩,
 ⟨some 29, none, .lenM (.t 28)⟩,
 ⟨some 30, none, .bin .geq (.t 29) (.c (.int .i64 256))⟩]
def c10r8 : List AOper :=
 [⟨some 4, none, .mv (.c (.int .i64 2))⟩]
def c10r9 : List AOper :=
 [⟨some 31, none, .mv (.t 0)⟩,
 ⟨some 32, none, .nilck (.t 31)⟩,
 ⟨some 33, none, .fldA (.t 32) 0⟩,
 ⟨some 34, none, .load (.t 33) none⟩,
 ⟨some 35, none, .mv (.t 1)⟩,
 ⟨some 36, none, .build [.nils, .int .i64 0] []⟩,
 ⟨some 37, none, .box (.t 36)⟩,
 ⟨none, none, .mupd 1 (.t 34) (.t 35) (.t 37)⟩]
def c10r10 : List AOper :=
 [⟨some 4, none, .mv (.c (.int .i64 0))⟩]
def c10 : AC := (.seq (.region c10r0) (.seq (.seq (.region c10r1) (.seq (.region c10r2) (.cond (.t 13) (.seq (.region c10r3) .ret) .skip))) (.seq (.seq (.region c10r4) (.seq (.region c10r5) (.cond (.t 24) (.seq (.region c10r6) .ret) .skip))) (.seq (.seq (.region c10r7) (.cond (.t 30) (.seq (.region c10r8) .ret) .skip)) (.seq (.region c10r9) (.seq (.region c10r10) .ret))))))
def r10 : List ARes := [.tmp 4]
theorem c10_ok : Try.f10.body.bind (cCode Try.prog Try.f10.ntmps) = some c10 := by kernel_rfl
theorem r10_ok : Try.f10.results.toList.mapM (cRes Try.prog Try.f10.ntmps) = some r10 := by kernel_rfl
def c11r0 : List AOper :=
 [⟨some 6, none, .mv (.c (.int .i64 0))⟩]
def c11r1 : List AOper :=
 [⟨some 10, none, .mv (.t 0)⟩,
 ⟨some 11, none, .mv (.t 1)⟩,
 ⟨some 12, none, .call (.c (.fn 24 [])) [.t 10, .t 11, .c .nils]⟩,
 ⟨some 9, none, .mv (.t 12)⟩,
 ⟨some 13, none, .ext (.t 9) 0⟩,
 ⟨some 14, none, .ext (.t 9) 1⟩,
 ⟨some 7, none, .mv (.t 13)⟩,
 ⟨some 8, none, .mv (.t 14)⟩]
def c11r2 : List AOper :=
 [⟨some 16, none, .mv (.t 8)⟩,
 ⟨some 17, none, .bin .neq (.t 16) (.c (.int .i64 0))⟩,
 ⟨some 15, none, .mv (.t 17)⟩]
def c11r3 : List AOper :=
 [⟨some 18, none, .mv (.t 8)⟩,
 ⟨some 6, none, .mv (.t 18)⟩]
def c11r4 : List AOper :=
 [⟨some 20, none, .mv (.t 2)⟩,
 ⟨some 21, none, .lenS (.t 20)⟩,
 ⟨some 22, none, .mv (.t 7)⟩,
 ⟨some 23, none, .nilck (.t 22)⟩,
 ⟨some 24, none, .fldA (.t 23) 0⟩,
 ⟨some 25, none, .load (.t 24) none⟩,
 ⟨some 26, none, .lenL (.t 25)⟩,
 ⟨some 27, none, .bin .sub (.c (.int .i64 4194304)) (.t 26)⟩,
 ⟨some 28, none, .bin .gtr (.t 21) (.t 27)⟩,
 ⟨some 19, none, .mv (.t 28)⟩]
def c11r5 : List AOper :=
 [⟨some 6, none, .mv (.c (.int .i64 2))⟩]
def c11r6 : List AOper :=
 [⟨some 29, none, .mv (.t 7)⟩,
 ⟨some 30, none, .mv (.t 7)⟩,
 ⟨some 31, none, .nilck (.t 30)⟩,
 ⟨some 32, none, .fldA (.t 31) 0⟩,
 ⟨some 33, none, .load (.t 32) none⟩,
 ⟨some 34, none, .mv (.t 2)⟩,
 ⟨some 35, none, .appendB (.t 33) (.t 34) 1 5⟩,
 ⟨some 36, none, .nilck (.t 29)⟩,
 ⟨some 37, none, .fldA (.t 36) 0⟩,
 ⟨none, none, .store (.t 37) (.t 35) 1⟩]
def c11r7 : List AOper :=
 [⟨some 6, none, .mv (.c (.int .i64 0))⟩]
def c11 : AC := (.seq (.region c11r0) (.seq (.region c11r1) (.seq (.block 0 (.seq (.region c11r2) (.cond (.t 15) (.seq (.region c11r3) .ret) (.seq (.region c11r4) (.cond (.t 19) (.seq (.region c11r5) .ret) .skip))))) (.seq (.region c11r6) (.seq (.region c11r7) .ret)))))
def r11 : List ARes := [.tmp 6]
theorem c11_ok : Try.f11.body.bind (cCode Try.prog Try.f11.ntmps) = some c11 := by kernel_rfl
theorem r11_ok : Try.f11.results.toList.mapM (cRes Try.prog Try.f11.ntmps) = some r11 := by kernel_rfl
def c12r0 : List AOper :=
 [⟨some 4, none, .mv (.c (.int .i64 0))⟩]
def c12r1 : List AOper :=
 [⟨some 8, none, .mv (.t 0)⟩,
 ⟨some 9, none, .mv (.t 1)⟩,
 ⟨some 10, none, .call (.c (.fn 24 [])) [.t 8, .t 9, .c .nils]⟩,
 ⟨some 7, none, .mv (.t 10)⟩,
 ⟨some 11, none, .ext (.t 7) 0⟩,
 ⟨some 12, none, .ext (.t 7) 1⟩,
 ⟨some 5, none, .mv (.t 11)⟩,
 ⟨some 6, none, .mv (.t 12)⟩]
def c12r2 : List AOper :=
 [⟨some 13, none, .mv (.t 6)⟩,
 ⟨some 14, none, .bin .eql (.t 13) (.c (.int .i64 0))⟩]
def c12r3 : List AOper :=
 [⟨some 15, none, .mv (.t 5)⟩,
 ⟨some 16, none, .mv (.t 5)⟩,
 ⟨some 17, none, .nilck (.t 16)⟩,
 ⟨some 18, none, .fldA (.t 17) 0⟩,
 ⟨some 19, none, .load (.t 18) none⟩,
 ⟨some 20, none, .lenL (.t 19)⟩,
 ⟨some 21, none, .nilck (.t 15)⟩,
 ⟨some 22, none, .fldA (.t 21) 1⟩,
 ⟨none, none, .store (.t 22) (.t 20) 1⟩]
def c12r4 : List AOper :=
 [⟨some 23, none, .mv (.t 6)⟩,
 ⟨some 4, none, .mv (.t 23)⟩]
def c12 : AC := (.seq (.region c12r0) (.seq (.region c12r1) (.seq (.seq (.region c12r2) (.cond (.t 14) (.region c12r3) .skip)) (.seq (.region c12r4) .ret))))
def r12 : List ARes := [.tmp 4]
theorem c12_ok : Try.f12.body.bind (cCode Try.prog Try.f12.ntmps) = some c12 := by kernel_rfl
theorem r12_ok : Try.f12.results.toList.mapM (cRes Try.prog Try.f12.ntmps) = some r12 := by kernel_rfl
def c13r0 : List AOper :=
 [⟨some 4, none, .mv (.c (.int .i64 0))⟩]
def c13r1 : List AOper :=
 [⟨some 9, none, .mv (.t 0)⟩,
 ⟨some 10, none, .call (.c (.fn 25 [])) [.t 9, .c .nils]⟩,
 ⟨some 11, none, .un .not (.t 10)⟩]
def c13r2 : List AOper :=
 [⟨some 4, none, .mv (.c (.int .i64 1))⟩]
def c13r3 : List AOper :=
 [⟨some 12, none, .mv (.t 0)⟩,
 ⟨some 13, none, .call (.c (.fn 18 [])) [.t 12]⟩,
 ⟨some 14, none, .lenL (.t 13)⟩,
 ⟨some 15, none, .mv (.c (.int .i64 0))⟩]
def c13r4 : List AOper :=
 [⟨some 16, none, .bin .lss (.t 15) (.t 14)⟩]
def c13r5 : List AOper :=
 [⟨some 17, none, .mv (.t 15)⟩,
 ⟨some 18, none, .idxA (.t 13) (.t 15) none 1⟩,
 ⟨some 19, none, .load (.t 18) none⟩,
 ⟨some 5, none, .mv (.t 17)⟩,
 ⟨some 6, none, .mv (.t 19)⟩]
def c13r6 : List AOper :=
 [⟨some 20, none, .mv (.t 0)⟩,
 ⟨some 21, none, .nilck (.t 20)⟩,
 ⟨some 22, none, .fldA (.t 21) 0⟩,
 ⟨some 23, none, .load (.t 22) none⟩,
 ⟨some 24, none, .mv (.t 6)⟩,
 ⟨some 25, none, .mget 1 (.t 23) (.t 24) .nilp false⟩,
 ⟨some 7, none, .mv (.t 25)⟩]
def c13r7 : List AOper :=
 [⟨some 8, none, .mv (.c (.int .i64 0))⟩]
def c13r8 : List AOper :=
 [⟨some 26, none, .mv (.t 1)⟩,
 ⟨some 27, none, .lenL (.t 26)⟩,
 ⟨some 28, none, .bin .gtr (.t 27) (.c (.int .i64 0))⟩]
def c13r9 : List AOper :=
 [⟨some 29, none, .mv (.t 1)⟩,
 ⟨some 30, none, .mv (.t 5)⟩,
 ⟨some 31, none, .mv (.t 1)⟩,
 ⟨some 32, none, .lenL (.t 31)⟩,
 ⟨some 33, none, .bin .rem (.t 30) (.t 32)⟩,
 ⟨some 34, none, .idxA (.t 29) (.t 33) none 1⟩,
 ⟨some 35, none, .load (.t 34) none⟩,
 ⟨some 36, none, .mm true [.c (.int .i64 0), .t 35]⟩,
 ⟨some 8, none, .mv (.t 36)⟩]
def c13d0 : List (AOper × List Nat) :=
 [(⟨some 37, none, .mv (.t 7)⟩, []),
 (⟨some 38, none, .mv (.t 7)⟩, []),
 (⟨some 39, none, .nilck (.t 38)⟩, [1]),
 (⟨some 40, none, .fldA (.t 39) 0⟩, [2]),
 (⟨some 41, none, .load (.t 40) none⟩, [3]),
 (⟨some 42, none, .mv (.t 7)⟩, []),
 (⟨some 43, none, .nilck (.t 42)⟩, [5]),
 (⟨some 44, none, .fldA (.t 43) 1⟩, [6]),
 (⟨some 45, none, .load (.t 44) none⟩, [7]),
 (⟨some 46, none, .mv (.t 8)⟩, []),
 (⟨some 47, none, .mv (.t 7)⟩, []),
 (⟨some 48, none, .nilck (.t 47)⟩, [10]),
 (⟨some 49, none, .fldA (.t 48) 0⟩, [11]),
 (⟨some 50, none, .load (.t 49) none⟩, [12]),
 (⟨some 51, none, .lenL (.t 50)⟩, [13]),
 (⟨some 52, none, .mv (.t 7)⟩, []),
 (⟨some 53, none, .nilck (.t 52)⟩, [15]),
 (⟨some 54, none, .fldA (.t 53) 1⟩, [16]),
 (⟨some 55, none, .load (.t 54) none⟩, [17]),
 (⟨some 56, none, .bin .sub (.t 51) (.t 55)⟩, [14, 18]),
 (⟨some 57, none, .mm false [.t 46, .t 56]⟩, [9, 19]),
 (⟨some 58, none, .bin .add (.t 45) (.t 57)⟩, [8, 20]),
 (⟨some 59, none, .slc (.t 41) none (some (.t 58)) none 1⟩, [4, 21]),
 (⟨some 60, none, .nilck (.t 37)⟩, [0, 0, 1, 2, 3, 4, 5, 6, 7, 8, 9, 10, 11, 12, 13, 14, 15, 16, 17, 18, 19, 20, 21, 22]),
 (⟨some 61, none, .fldA (.t 60) 0⟩, [23, 0, 1, 2, 3, 4, 5, 6, 7, 8, 9, 10, 11, 12, 13, 14, 15, 16, 17, 18, 19, 20, 21, 22]),
 (⟨none, none, .store (.t 61) (.t 59) 1⟩, [24, 22, 0, 1, 2, 3, 4, 5, 6, 7, 8, 9, 10, 11, 12, 13, 14, 15, 16, 17, 18, 19, 20, 21, 22])]
def c13r10 : List AOper :=
 [⟨some 62, none, .mv (.t 7)⟩,
 ⟨some 63, none, .mv (.t 7)⟩,
 ⟨some 64, none, .nilck (.t 63)⟩,
 ⟨some 65, none, .fldA (.t 64) 0⟩,
 ⟨some 66, none, .load (.t 65) none⟩,
 ⟨some 67, none, .lenL (.t 66)⟩,
 ⟨some 68, none, .nilck (.t 62)⟩,
 ⟨some 69, none, .fldA (.t 68) 1⟩,
 ⟨none, none, .store (.t 69) (.t 67) 1⟩]
def c13r11 : List AOper :=
 [⟨some 70, none, .bin .add (.t 15) (.c (.int .i64 1))⟩,
 ⟨some 15, none, .mv (.t 70)⟩]
def c13l0 : AC := (.seq (.region c13r4) (.seq (.cond (.t 16) .skip (.exit 0)) (.seq (.block 1 (.seq (.region c13r5) (.seq (.region c13r6) (.seq (.region c13r7) (.seq (.seq (.region c13r8) (.cond (.t 28) (.region c13r9) .skip)) (.seq (.drawn c13d0) (.region c13r10))))))) (.region c13r11))))
def c13r12 : List AOper :=
 [⟨some 71, none, .mv (.t 0)⟩,
 ⟨some 72, none, .mv (.t 0)⟩,
 ⟨some 73, none, .nilck (.t 71)⟩,
 ⟨some 74, none, .fldA (.t 73) 1⟩,
 ⟨none, none, .store (.t 74) (.c (.int .i64 (-1))) 1⟩,
 ⟨some 75, none, .nilck (.t 72)⟩,
 ⟨some 76, none, .fldA (.t 75) 2⟩,
 ⟨none, none, .store (.t 76) (.c (.bool false)) 1⟩]
def c13r13 : List AOper :=
 [⟨some 4, none, .mv (.c (.int .i64 0))⟩]
def c13 : AC := (.seq (.region c13r0) (.seq (.seq (.region c13r1) (.cond (.t 11) (.seq (.region c13r2) .ret) .skip)) (.seq (.seq (.region c13r3) (.block 0 (.loop c13l0))) (.seq (.region c13r12) (.seq (.region c13r13) .ret)))))
def r13 : List ARes := [.tmp 4]
theorem c13_ok : Try.f13.body.bind (cCode Try.prog Try.f13.ntmps) = some c13 := by kernel_rfl
theorem r13_ok : Try.f13.results.toList.mapM (cRes Try.prog Try.f13.ntmps) = some r13 := by kernel_rfl
def c14r0 : List AOper :=
 [⟨some 4, none, .mv (.c (.str []))⟩,
 ⟨some 5, none, .mv (.c (.int .i64 0))⟩]
def c14r1 : List AOper :=
 [⟨some 9, none, .mv (.t 0)⟩,
 ⟨some 10, none, .mv (.t 1)⟩,
 ⟨some 11, none, .call (.c (.fn 26 [])) [.t 9, .t 10]⟩,
 ⟨some 8, none, .mv (.t 11)⟩,
 ⟨some 12, none, .ext (.t 8) 0⟩,
 ⟨some 13, none, .ext (.t 8) 1⟩,
 ⟨some 6, none, .mv (.t 12)⟩,
 ⟨some 7, none, .mv (.t 13)⟩]
def c14r2 : List AOper :=
 [⟨some 14, none, .mv (.t 7)⟩,
 ⟨some 15, none, .bin .neq (.t 14) (.c (.int .i64 0))⟩]
def c14r3 : List AOper :=
 [⟨some 16, none, .mv (.t 7)⟩,
 ⟨some 4, none, .mv (.c (.str []))⟩,
 ⟨some 5, none, .mv (.t 16)⟩]
def c14r4 : List AOper :=
 [⟨some 17, none, .mv (.t 6)⟩,
 ⟨some 18, none, .nilck (.t 17)⟩,
 ⟨some 19, none, .fldA (.t 18) 0⟩,
 ⟨some 20, none, .load (.t 19) none⟩,
 ⟨some 21, none, .b2s (.t 20)⟩,
 ⟨some 4, none, .mv (.t 21)⟩,
 ⟨some 5, none, .mv (.c (.int .i64 0))⟩]
def c14 : AC := (.seq (.region c14r0) (.seq (.region c14r1) (.seq (.seq (.region c14r2) (.cond (.t 15) (.seq (.region c14r3) .ret) .skip)) (.seq (.region c14r4) .ret))))
def r14 : List ARes := [.tmp 4, .tmp 5]
theorem c14_ok : Try.f14.body.bind (cCode Try.prog Try.f14.ntmps) = some c14 := by kernel_rfl
theorem r14_ok : Try.f14.results.toList.mapM (cRes Try.prog Try.f14.ntmps) = some r14 := by kernel_rfl
def c15r0 : List AOper :=
 [⟨some 4, none, .mv (.c (.int .i64 0))⟩,
 ⟨some 5, none, .mv (.c (.int .i64 0))⟩]
def c15r1 : List AOper :=
 [⟨some 9, none, .mv (.t 0)⟩,
 ⟨some 10, none, .mv (.t 1)⟩,
 ⟨some 11, none, .call (.c (.fn 26 [])) [.t 9, .t 10]⟩,
 ⟨some 8, none, .mv (.t 11)⟩,
 ⟨some 12, none, .ext (.t 8) 0⟩,
 ⟨some 13, none, .ext (.t 8) 1⟩,
 ⟨some 6, none, .mv (.t 12)⟩,
 ⟨some 7, none, .mv (.t 13)⟩]
def c15r2 : List AOper :=
 [⟨some 14, none, .mv (.t 7)⟩,
 ⟨some 15, none, .bin .neq (.t 14) (.c (.int .i64 0))⟩]
def c15r3 : List AOper :=
 [⟨some 16, none, .mv (.t 7)⟩,
 ⟨some 4, none, .mv (.c (.int .i64 0))⟩,
 ⟨some 5, none, .mv (.t 16)⟩]
def c15r4 : List AOper :=
 [⟨some 17, none, .mv (.t 6)⟩,
 ⟨some 18, none, .nilck (.t 17)⟩,
 ⟨some 19, none, .fldA (.t 18) 1⟩,
 ⟨some 20, none, .load (.t 19) none⟩,
 ⟨some 4, none, .mv (.t 20)⟩,
 ⟨some 5, none, .mv (.c (.int .i64 0))⟩]
def c15 : AC := (.seq (.region c15r0) (.seq (.region c15r1) (.seq (.seq (.region c15r2) (.cond (.t 15) (.seq (.region c15r3) .ret) .skip)) (.seq (.region c15r4) .ret))))
def r15 : List ARes := [.tmp 4, .tmp 5]
theorem c15_ok : Try.f15.body.bind (cCode Try.prog Try.f15.ntmps) = some c15 := by kernel_rfl
theorem r15_ok : Try.f15.results.toList.mapM (cRes Try.prog Try.f15.ntmps) = some r15 := by kernel_rfl
def c16r0 : List AOper :=
 [⟨some 4, none, .mv (.c (.int .i64 0))⟩]
def c16r1 : List AOper :=
 [⟨some 5, none, .mv (.t 0)⟩,
 ⟨some 6, none, .call (.c (.fn 25 [])) [.t 5, .c .nils]⟩,
 ⟨some 7, none, .un .not (.t 6)⟩]
def c16r2 : List AOper :=
 [⟨some 4, none, .mv (.c (.int .i64 1))⟩]
def c16r3 : List AOper :=
 [⟨some 8, none, .mv (.t 0)⟩,
 ⟨some 9, none, .mv (.t 1)⟩,
 ⟨some 10, none, .mm true [.t 9, .c (.int .i64 (-1))]⟩,
 ⟨some 11, none, .nilck (.t 8)⟩,
 ⟨some 12, none, .fldA (.t 11) 1⟩,
 ⟨none, none, .store (.t 12) (.t 10) 1⟩]
def c16r4 : List AOper :=
 [⟨some 4, none, .mv (.c (.int .i64 0))⟩]
def c16 : AC := (.seq (.region c16r0) (.seq (.seq (.region c16r1) (.cond (.t 7) (.seq (.region c16r2) .ret) .skip)) (.seq (.region c16r3) (.seq (.region c16r4) .ret))))
def r16 : List ARes := [.tmp 4]
theorem c16_ok : Try.f16.body.bind (cCode Try.prog Try.f16.ntmps) = some c16 := by kernel_rfl
theorem r16_ok : Try.f16.results.toList.mapM (cRes Try.prog Try.f16.ntmps) = some r16 := by kernel_rfl
def c17r0 : List AOper :=
 [⟨some 2, none, .mv (.c (.bool false))⟩]
def c17r1 : List AOper :=
 [⟨some 3, none, .mv (.t 0)⟩,
 ⟨some 4, none, .call (.c (.fn 25 [])) [.t 3, .c .nils]⟩,
 ⟨some 5, none, .mv (.t 4)⟩,
 ⟨some 6, some (5, true), .mv (.t 0)⟩,
 ⟨some 7, some (5, true), .nilck (.t 6)⟩,
 ⟨some 8, some (5, true), .fldA (.t 7) 2⟩,
 ⟨some 9, some (5, true), .load (.t 8) none⟩,
 ⟨some 10, none, .pick (.t 5) (.t 9) (.c (.bool false))⟩,
 ⟨some 2, none, .mv (.t 10)⟩]
def c17 : AC := (.seq (.region c17r0) (.seq (.region c17r1) .ret))
def r17 : List ARes := [.tmp 2]
theorem c17_ok : Try.f17.body.bind (cCode Try.prog Try.f17.ntmps) = some c17 := by kernel_rfl
theorem r17_ok : Try.f17.results.toList.mapM (cRes Try.prog Try.f17.ntmps) = some r17 := by kernel_rfl
def c18r0 : List AOper :=
 [⟨some 2, none, .mv (.c .nils)⟩]
def c18r1 : List AOper :=
 [⟨some 3, none, .mv (.t 0)⟩,
 ⟨some 4, none, .call (.c (.fn 25 [])) [.t 3, .c .nils]⟩,
 ⟨some 5, none, .un .not (.t 4)⟩]
def c18r2 : List AOper :=
 [⟨some 2, none, .mv (.c .nils)⟩]
def c18r3 : List AOper :=
 [⟨some 6, none, .mv (.t 0)⟩,
 ⟨some 7, none, .nilck (.t 6)⟩,
 ⟨some 8, none, .fldA (.t 7) 0⟩,
 ⟨some 9, none, .load (.t 8) none⟩,
 ⟨some 10, none, .call (.c (.fn 28 [])) [.t 9]⟩,
 ⟨some 11, none, .call (.c (.fn 27 [])) [.t 10]⟩,
 ⟨some 2, none, .mv (.t 11)⟩]
def c18 : AC := (.seq (.region c18r0) (.seq (.seq (.region c18r1) (.cond (.t 5) (.seq (.region c18r2) .ret) .skip)) (.seq (.region c18r3) .ret)))
def r18 : List ARes := [.tmp 2]
theorem c18_ok : Try.f18.body.bind (cCode Try.prog Try.f18.ntmps) = some c18 := by kernel_rfl
theorem r18_ok : Try.f18.results.toList.mapM (cRes Try.prog Try.f18.ntmps) = some r18 := by kernel_rfl
def c19r0 : List AOper :=
 [⟨some 2, none, .mv (.c (.bool false))⟩]
def c19r1 : List AOper :=
 [⟨some 3, none, .mv (.c (.int .i64 0))⟩]
def c19r2 : List AOper :=
 [⟨some 5, none, .mv (.t 3)⟩,
 ⟨some 6, none, .mv (.t 0)⟩,
 ⟨some 7, none, .lenS (.t 6)⟩,
 ⟨some 8, none, .bin .lss (.t 5) (.t 7)⟩]
def c19r3 : List AOper :=
 [⟨some 11, none, .mv (.t 0)⟩,
 ⟨some 12, none, .mv (.t 3)⟩,
 ⟨some 13, none, .idxS (.t 11) (.t 12)⟩,
 ⟨some 4, none, .mv (.t 13)⟩]
def c19r4 : List AOper :=
 [⟨some 14, none, .mv (.t 4)⟩,
 ⟨some 15, none, .bin .lss (.t 14) (.c (.int .u8 97))⟩,
 ⟨some 16, none, .mv (.t 15)⟩,
 ⟨some 17, some (16, false), .mv (.t 4)⟩,
 ⟨some 18, some (16, false), .bin .gtr (.t 17) (.c (.int .u8 122))⟩,
 ⟨some 19, none, .pick (.t 16) (.c (.bool true)) (.t 18)⟩,
 ⟨some 20, none, .mv (.t 19)⟩,
 ⟨some 21, some (20, true), .mv (.t 4)⟩,
 ⟨some 22, some (20, true), .bin .lss (.t 21) (.c (.int .u8 48))⟩,
 ⟨some 23, some (20, true), .mv (.t 22)⟩,
 ⟨some 24, some (23, false), .mv (.t 4)⟩,
 ⟨some 25, some (23, false), .bin .gtr (.t 24) (.c (.int .u8 57))⟩,
 ⟨some 26, some (20, true), .pick (.t 23) (.c (.bool true)) (.t 25)⟩,
 ⟨some 27, none, .pick (.t 20) (.t 26) (.c (.bool false))⟩,
 ⟨some 28, none, .mv (.t 27)⟩,
 ⟨some 29, some (28, true), .mv (.t 4)⟩,
 ⟨some 30, some (28, true), .bin .neq (.t 29) (.c (.int .u8 46))⟩,
 ⟨some 31, none, .pick (.t 28) (.t 30) (.c (.bool false))⟩,
 ⟨some 32, none, .mv (.t 31)⟩,
 ⟨some 33, some (32, true), .mv (.t 4)⟩,
 ⟨some 34, some (32, true), .bin .neq (.t 33) (.c (.int .u8 45))⟩,
 ⟨some 35, none, .pick (.t 32) (.t 34) (.c (.bool false))⟩]
def c19r5 : List AOper :=
 [⟨some 2, none, .mv (.c (.bool false))⟩]
def c19r6 : List AOper :=
 [⟨some 9, none, .mv (.t 3)⟩,
 ⟨some 10, none, .bin .add (.t 9) (.c (.int .i64 1))⟩,
 ⟨some 3, none, .mv (.t 10)⟩]
def c19l0 : AC := (.seq (.seq (.region c19r2) (.cond (.t 8) .skip (.exit 0))) (.seq (.block 1 (.seq (.region c19r3) (.seq (.region c19r4) (.cond (.t 35) (.seq (.region c19r5) .ret) .skip)))) (.region c19r6)))
def c19r7 : List AOper :=
 [⟨some 36, none, .mv (.t 0)⟩,
 ⟨some 37, none, .lenS (.t 36)⟩,
 ⟨some 38, none, .bin .geq (.t 37) (.c (.int .i64 1))⟩,
 ⟨some 39, none, .mv (.t 38)⟩,
 ⟨some 40, some (39, true), .mv (.t 0)⟩,
 ⟨some 41, some (39, true), .lenS (.t 40)⟩,
 ⟨some 42, some (39, true), .bin .leq (.t 41) (.c (.int .i64 32))⟩,
 ⟨some 43, none, .pick (.t 39) (.t 42) (.c (.bool false))⟩,
 ⟨some 2, none, .mv (.t 43)⟩]
def c19 : AC := (.seq (.region c19r0) (.seq (.seq (.region c19r1) (.block 0 (.loop c19l0))) (.seq (.region c19r7) .ret)))
def r19 : List ARes := [.tmp 2]
theorem c19_ok : Try.f19.body.bind (cCode Try.prog Try.f19.ntmps) = some c19 := by kernel_rfl
theorem r19_ok : Try.f19.results.toList.mapM (cRes Try.prog Try.f19.ntmps) = some r19 := by kernel_rfl
def c20r0 : List AOper :=
 [⟨some 6, none, .mv (.c (.int .i64 0))⟩]
def c20r1 : List AOper :=
 [⟨some 10, none, .mv (.t 0)⟩,
 ⟨some 11, none, .mv (.t 1)⟩,
 ⟨some 12, none, .mv (.t 2)⟩,
 ⟨some 13, none, .bslice 1 1 [.str []] [(0, .t 12)]⟩,
 ⟨some 14, none, .call (.c (.fn 24 [])) [.t 10, .t 11, .t 13]⟩,
 ⟨some 9, none, .mv (.t 14)⟩,
 ⟨some 15, none, .ext (.t 9) 0⟩,
 ⟨some 16, none, .ext (.t 9) 1⟩,
 ⟨some 7, none, .mv (.t 15)⟩,
 ⟨some 8, none, .mv (.t 16)⟩]
def c20r2 : List AOper :=
 [⟨some 17, none, .mv (.t 8)⟩,
 ⟨some 18, none, .bin .eql (.t 17) (.c (.int .i64 0))⟩]
def c20r3 : List AOper :=
 [⟨some 19, none, .mv (.t 0)⟩,
 ⟨some 20, none, .nilck (.t 19)⟩,
 ⟨some 21, none, .fldA (.t 20) 0⟩,
 ⟨some 22, none, .load (.t 21) none⟩,
 ⟨some 23, none, .mv (.t 1)⟩,
 ⟨none, none, .mdel 1 (.t 22) (.t 23)⟩]
def c20r4 : List AOper :=
 [⟨some 24, none, .mv (.t 0)⟩,
 ⟨some 25, none, .nilck (.t 24)⟩,
 ⟨some 26, none, .fldA (.t 25) 0⟩,
 ⟨some 27, none, .load (.t 26) none⟩,
 ⟨some 28, none, .mv (.t 2)⟩,
 ⟨some 29, none, .mv (.t 7)⟩,
 ⟨none, none, .mupd 1 (.t 27) (.t 28) (.t 29)⟩]
def c20r5 : List AOper :=
 [⟨some 30, none, .mv (.t 8)⟩,
 ⟨some 6, none, .mv (.t 30)⟩]
def c20 : AC := (.seq (.region c20r0) (.seq (.region c20r1) (.seq (.seq (.region c20r2) (.cond (.t 18) (.seq (.region c20r3) (.region c20r4)) .skip)) (.seq (.region c20r5) .ret))))
def r20 : List ARes := [.tmp 6]
theorem c20_ok : Try.f20.body.bind (cCode Try.prog Try.f20.ntmps) = some c20 := by kernel_rfl
theorem r20_ok : Try.f20.results.toList.mapM (cRes Try.prog Try.f20.ntmps) = some r20 := by kernel_rfl
def c21r0 : List AOper :=
 [⟨some 4, none, .mv (.c (.bool false))⟩]
def c21r1 : List AOper :=
 [⟨some 6, none, .mv (.t 0)⟩,
 ⟨some 7, none, .lenL (.t 6)⟩,
 ⟨some 8, none, .mv (.t 1)⟩,
 ⟨some 9, none, .lenL (.t 8)⟩,
 ⟨some 10, none, .bin .neq (.t 7) (.t 9)⟩]
def c21r2 : List AOper :=
 [⟨some 4, none, .mv (.c (.bool false))⟩]
def c21r3 : List AOper :=
 [⟨some 5, none, .mv (.c (.int .i64 0))⟩]
def c21r4 : List AOper :=
 [⟨some 11, none, .mv (.t 5)⟩,
 ⟨some 12, none, .mv (.t 0)⟩,
 ⟨some 13, none, .lenL (.t 12)⟩,
 ⟨some 14, none, .bin .lss (.t 11) (.t 13)⟩]
def c21d0 : List (AOper × List Nat) :=
 [(⟨some 17, none, .mv (.t 0)⟩, []),
 (⟨some 18, none, .mv (.t 5)⟩, []),
 (⟨some 19, none, .idxA (.t 17) (.t 18) none 1⟩, [0, 1]),
 (⟨some 20, none, .load (.t 19) none⟩, [2]),
 (⟨some 21, none, .mv (.t 1)⟩, []),
 (⟨some 22, none, .mv (.t 5)⟩, []),
 (⟨some 23, none, .idxA (.t 21) (.t 22) none 1⟩, [4, 5]),
 (⟨some 24, none, .load (.t 23) none⟩, [6]),
 (⟨some 25, none, .bin .neq (.t 20) (.t 24)⟩, [3, 7])]
def c21r5 : List AOper :=
 [⟨some 4, none, .mv (.c (.bool false))⟩]
def c21r6 : List AOper :=
 [⟨some 15, none, .mv (.t 5)⟩,
 ⟨some 16, none, .bin .add (.t 15) (.c (.int .i64 1))⟩,
 ⟨some 5, none, .mv (.t 16)⟩]
def c21l0 : AC := (.seq (.seq (.region c21r4) (.cond (.t 14) .skip (.exit 0))) (.seq (.block 1 (.seq (.drawn c21d0) (.cond (.t 25) (.seq (.region c21r5) .ret) .skip))) (.region c21r6)))
def c21r7 : List AOper :=
 [⟨some 4, none, .mv (.c (.bool true))⟩]
def c21 : AC := (.seq (.region c21r0) (.seq (.seq (.region c21r1) (.cond (.t 10) (.seq (.region c21r2) .ret) .skip)) (.seq (.seq (.region c21r3) (.block 0 (.loop c21l0))) (.seq (.region c21r7) .ret))))
def r21 : List ARes := [.tmp 4]
theorem c21_ok : Try.f21.body.bind (cCode Try.prog Try.f21.ntmps) = some c21 := by kernel_rfl
theorem r21_ok : Try.f21.results.toList.mapM (cRes Try.prog Try.f21.ntmps) = some r21 := by kernel_rfl
def c22r0 : List AOper :=
 [⟨some 4, none, .mv (.c (.int .i64 0))⟩]
def c22r1 : List AOper :=
 [⟨some 8, none, .mv (.t 0)⟩,
 ⟨some 9, none, .mv (.t 1)⟩,
 ⟨some 10, none, .call (.c (.fn 24 [])) [.t 8, .t 9, .c .nils]⟩,
 ⟨some 7, none, .mv (.t 10)⟩,
 ⟨some 11, none, .ext (.t 7) 0⟩,
 ⟨some 12, none, .ext (.t 7) 1⟩,
 ⟨some 5, none, .mv (.t 11)⟩,
 ⟨some 6, none, .mv (.t 12)⟩]
def c22r2 : List AOper :=
 [⟨some 13, none, .mv (.t 6)⟩,
 ⟨some 14, none, .bin .eql (.t 13) (.c (.int .i64 0))⟩]
def c22r3 : List AOper :=
 [⟨some 15, none, .mv (.t 0)⟩,
 ⟨some 16, none, .nilck (.t 15)⟩,
 ⟨some 17, none, .fldA (.t 16) 0⟩,
 ⟨some 18, none, .load (.t 17) none⟩,
 ⟨some 19, none, .mv (.t 1)⟩,
 ⟨none, none, .mdel 1 (.t 18) (.t 19)⟩]
def c22r4 : List AOper :=
 [⟨some 20, none, .mv (.t 6)⟩,
 ⟨some 4, none, .mv (.t 20)⟩]
def c22 : AC := (.seq (.region c22r0) (.seq (.region c22r1) (.seq (.seq (.region c22r2) (.cond (.t 14) (.region c22r3) .skip)) (.seq (.region c22r4) .ret))))
def r22 : List ARes := [.tmp 4]
theorem c22_ok : Try.f22.body.bind (cCode Try.prog Try.f22.ntmps) = some c22 := by kernel_rfl
theorem r22_ok : Try.f22.results.toList.mapM (cRes Try.prog Try.f22.ntmps) = some r22 := by kernel_rfl
def c23r0 : List AOper :=
 [⟨some 4, none, .mv (.c (.int .i64 0))⟩]
def c23r1 : List AOper :=
 [⟨some 5, none, .mv (.t 0)⟩,
 ⟨some 6, none, .mv (.t 1)⟩,
 ⟨some 7, none, .call (.c (.fn 25 [])) [.t 5, .t 6]⟩,
 ⟨some 8, none, .un .not (.t 7)⟩]
def c23r2 : List AOper :=
 [⟨some 4, none, .mv (.c (.int .i64 1))⟩]
def c23r3 : List AOper :=
 [⟨some 9, none, .mv (.t 0)⟩,
 ⟨some 10, none, .mv (.t 0)⟩,
 ⟨some 11, none, .nilck (.t 10)⟩,
 ⟨some 12, none, .fldA (.t 11) 2⟩,
 ⟨some 13, none, .load (.t 12) none⟩,
 ⟨some 14, none, .mv (.t 13)⟩,
 ⟨some 15, some (14, false), .mv (.t 0)⟩,
 ⟨some 16, some (14, false), .nilck (.t 15)⟩,
 ⟨some 17, some (14, false), .fldA (.t 16) 1⟩,
 ⟨some 18, some (14, false), .load (.t 17) none⟩,
 ⟨some 19, some (14, false), .bin .eql (.t 18) (.c (.int .i64 0))⟩,
 ⟨some 20, none, .pick (.t 14) (.c (.bool true)) (.t 19)⟩,
 ⟨some 21, none, .nilck (.t 9)⟩,
 ⟨some 22, none, .fldA (.t 21) 2⟩,
 ⟨none, none, .store (.t 22) (.t 20) 1⟩]
def c23r4 : List AOper :=
 [⟨some 23, none, .mv (.t 0)⟩,
 ⟨some 24, none, .nilck (.t 23)⟩,
 ⟨some 25, none, .fldA (.t 24) 2⟩,
 ⟨some 26, none, .load (.t 25) none⟩]
def c23r5 : List AOper :=
 [⟨some 4, none, .mv (.c (.int .i64 50))⟩]
def c23r6 : List AOper :=
 [⟨some 27, none, .mv (.t 0)⟩,
 ⟨some 28, none, .nilck (.t 27)⟩,
 ⟨some 29, none, .fldA (.t 28) 1⟩,
 ⟨some 30, none, .load (.t 29) none⟩,
 ⟨some 31, none, .bin .gtr (.t 30) (.c (.int .i64 0))⟩]
def c23r7 : List AOper :=
 [⟨some 32, none, .mv (.t 0)⟩,
 ⟨some 33, none, .nilck (.t 32)⟩,
 ⟨some 34, none, .fldA (.t 33) 1⟩,
 ⟨some 35, none, .load (.t 34) none⟩,
 ⟨some 36, none, .bin .sub (.t 35) (.c (.int .i64 1))⟩,
 ⟨some 37, none, .nilck (.t 32)⟩,
 ⟨some 38, none, .fldA (.t 37) 1⟩,
 ⟨none, none, .store (.t 38) (.t 36) 1⟩]
def c23r8 : List AOper :=
 [⟨some 4, none, .mv (.c (.int .i64 0))⟩]
def c23 : AC := (.seq (.region c23r0) (.seq (.seq (.region c23r1) (.cond (.t 8) (.seq (.region c23r2) .ret) .skip)) (.seq (.seq (.region c23r3) (.seq (.region c23r4) (.cond (.t 26) (.seq (.region c23r5) .ret) .skip))) (.seq (.seq (.region c23r6) (.cond (.t 31) (.region c23r7) .skip)) (.seq (.region c23r8) .ret)))))
def r23 : List ARes := [.tmp 4]
theorem c23_ok : Try.f23.body.bind (cCode Try.prog Try.f23.ntmps) = some c23 := by kernel_rfl
theorem r23_ok : Try.f23.results.toList.mapM (cRes Try.prog Try.f23.ntmps) = some r23 := by kernel_rfl
def c24r0 : List AOper :=
 [⟨some 6, none, .mv (.c .nilp)⟩,
 ⟨some 7, none, .mv (.c (.int .i64 0))⟩]
def c24r1 : List AOper :=
 [⟨some 11, none, .mv (.t 0)⟩,
 ⟨some 12, none, .mv (.t 2)⟩,
 ⟨some 13, none, .mv (.t 1)⟩,
 ⟨some 14, none, .bslice 1 1 [.str []] [(0, .t 13)]⟩,
 ⟨some 15, none, .append (.t 12) (.t 14) 1 16 false⟩,
 ⟨some 16, none, .call (.c (.fn 23 [])) [.t 11, .t 15]⟩,
 ⟨some 8, none, .mv (.t 16)⟩]
def c24r2 : List AOper :=
 [⟨some 17, none, .mv (.t 8)⟩,
 ⟨some 18, none, .bin .neq (.t 17) (.c (.int .i64 0))⟩]
def c24r3 : List AOper :=
 [⟨some 19, none, .mv (.t 8)⟩,
 ⟨some 6, none, .mv (.c .nilp)⟩,
 ⟨some 7, none, .mv (.t 19)⟩]
def c24r4 : List AOper :=
 [⟨some 21, none, .mv (.t 0)⟩,
 ⟨some 22, none, .nilck (.t 21)⟩,
 ⟨some 23, none, .fldA (.t 22) 0⟩,
 ⟨some 24, none, .load (.t 23) none⟩,
 ⟨some 25, none, .mv (.t 1)⟩,
 ⟨some 26, none, .mget 1 (.t 24) (.t 25) .nilp true⟩,
 ⟨some 20, none, .mv (.t 26)⟩,
 ⟨some 27, none, .ext (.t 20) 0⟩,
 ⟨some 28, none, .ext (.t 20) 1⟩,
 ⟨some 9, none, .mv (.t 27)⟩,
 ⟨some 10, none, .mv (.t 28)⟩]
def c24r5 : List AOper :=
 [⟨some 29, none, .mv (.t 10)⟩,
 ⟨some 30, none, .un .not (.t 29)⟩]
def c24r6 : List AOper :=
 [⟨some 6, none, .mv (.c .nilp)⟩,
 ⟨some 7, none, .mv (.c (.int .i64 3))⟩]
def c24r7 : List AOper :=
 [⟨some 31, none, .mv (.t 9)⟩,
 ⟨some 6, none, .mv (.t 31)⟩,
 ⟨some 7, none, .mv (.c (.int .i64 0))⟩]
def c24 : AC := (.seq (.region c24r0) (.seq (.seq (.region c24r1) (.seq (.region c24r2) (.cond (.t 18) (.seq (.region c24r3) .ret) .skip))) (.seq (.region c24r4) (.seq (.seq (.region c24r5) (.cond (.t 30) (.seq (.region c24r6) .ret) .skip)) (.seq (.region c24r7) .ret)))))
def r24 : List ARes := [.tmp 6, .tmp 7]
theorem c24_ok : Try.f24.body.bind (cCode Try.prog Try.f24.ntmps) = some c24 := by kernel_rfl
theorem r24_ok : Try.f24.results.toList.mapM (cRes Try.prog Try.f24.ntmps) = some r24 := by kernel_rfl
def c25r0 : List AOper :=
 [⟨some 4, none, .mv (.c (.bool false))⟩]
def c25r1 : List AOper :=
 [⟨some 8, none, .mv (.t 0)⟩,
 ⟨some 9, none, .eq false 1 (.t 8) (.c .nilp)⟩,
 ⟨some 10, none, .mv (.t 9)⟩,
 ⟨some 11, some (10, false), .mv (.t 0)⟩,
 ⟨some 12, some (10, false), .nilck (.t 11)⟩,
 ⟨some 13, some (10, false), .fldA (.t 12) 0⟩,
 ⟨some 14, some (10, false), .load (.t 13) none⟩,
 ⟨some 15, some (10, false), .eq false 4 (.t 14) (.c .nilm)⟩,
 ⟨some 16, none, .pick (.t 10) (.c (.bool true)) (.t 15)⟩]
def c25r2 : List AOper :=
 [⟨some 4, none, .mv (.c (.bool false))⟩]
def c25r3 : List AOper :=
 [⟨some 5, none, .mv (.c (.fn 29 []))⟩]
def c25r4 : List AOper :=
 [⟨some 17, none, .mv (.t 1)⟩,
 ⟨some 18, none, .lenL (.t 17)⟩,
 ⟨some 19, none, .mv (.c (.int .i64 0))⟩]
def c25r5 : List AOper :=
 [⟨some 20, none, .bin .lss (.t 19) (.t 18)⟩]
def c25r6 : List AOper :=
 [⟨some 21, none, .idxA (.t 17) (.t 19) none 1⟩,
 ⟨some 22, none, .load (.t 21) none⟩,
 ⟨some 7, none, .mv (.t 22)⟩]
def c25r7 : List AOper :=
 [⟨some 23, none, .mv (.t 7)⟩,
 ⟨some 24, none, .bin .eql (.t 23) (.c (.str []))⟩,
 ⟨some 25, none, .mv (.t 24)⟩,
 ⟨some 26, some (25, false), .mv (.t 7)⟩,
 ⟨some 27, some (25, false), .lenS (.t 26)⟩,
 ⟨some 28, some (25, false), .bin .gtr (.t 27) (.c (.int .i64 32))⟩,
 ⟨some 29, none, .pick (.t 25) (.c (.bool true)) (.t 28)⟩,
 ⟨some 30, none, .mv (.t 29)⟩,
 ⟨some 31, some (30, false), .mv (.t 7)⟩,
 ⟨some 32, some (30, false), .mv (.t 5)⟩,
 ⟨some 33, some (30, false), .call (.c (.fn 30 [])) [.t 31, .t 32]⟩,
 ⟨some 34, some (30, false), .bin .geq (.t 33) (.c (.int .i64 0))⟩,
 ⟨some 35, none, .pick (.t 30) (.c (.bool true)) (.t 34)⟩]
def c25r8 : List AOper :=
 [⟨some 4, none, .mv (.c (.bool false))⟩]
def c25r9 : List AOper :=
 [⟨some 36, none, .bin .add (.t 19) (.c (.int .i64 1))⟩,
 ⟨some 19, none, .mv (.t 36)⟩]
def c25l0 : AC := (.seq (.region c25r5) (.seq (.cond (.t 20) .skip (.exit 0)) (.seq (.block 1 (.seq (.region c25r6) (.seq (.region c25r7) (.cond (.t 35) (.seq (.region c25r8) .ret) .skip)))) (.region c25r9))))
def c25r10 : List AOper :=
 [⟨some 4, none, .mv (.c (.bool true))⟩]
def c25 : AC := (.seq (.region c25r0) (.seq (.seq (.region c25r1) (.cond (.t 16) (.seq (.region c25r2) .ret) .skip)) (.seq (.region c25r3) (.seq (.seq (.region c25r4) (.block 0 (.loop c25l0))) (.seq (.region c25r10) .ret)))))
def r25 : List ARes := [.tmp 4]
theorem c25_ok : Try.f25.body.bind (cCode Try.prog Try.f25.ntmps) = some c25 := by kernel_rfl
theorem r25_ok : Try.f25.results.toList.mapM (cRes Try.prog Try.f25.ntmps) = some r25 := by kernel_rfl
def c26r0 : List AOper :=
 [⟨some 4, none, .mv (.c .nilp)⟩,
 ⟨some 5, none, .mv (.c (.int .i64 0))⟩]
def c26r1 : List AOper :=
 [⟨some 8, none, .mv (.t 0)⟩,
 ⟨some 9, none, .mv (.t 1)⟩,
 ⟨some 10, none, .bslice 1 1 [.str []] [(0, .t 9)]⟩,
 ⟨some 11, none, .call (.c (.fn 25 [])) [.t 8, .t 10]⟩,
 ⟨some 12, none, .un .not (.t 11)⟩]
def c26r2 : List AOper :=
 [⟨some 4, none, .mv (.c .nilp)⟩,
 ⟨some 5, none, .mv (.c (.int .i64 1))⟩]
def c26r3 : List AOper :=
 [⟨some 14, none, .mv (.t 0)⟩,
 ⟨some 15, none, .nilck (.t 14)⟩,
 ⟨some 16, none, .fldA (.t 15) 0⟩,
 ⟨some 17, none, .load (.t 16) none⟩,
 ⟨some 18, none, .mv (.t 1)⟩,
 ⟨some 19, none, .mget 1 (.t 17) (.t 18) .nilp true⟩,
 ⟨some 13, none, .mv (.t 19)⟩,
 ⟨some 20, none, .ext (.t 13) 0⟩,
 ⟨some 21, none, .ext (.t 13) 1⟩,
 ⟨some 6, none, .mv (.t 20)⟩,
 ⟨some 7, none, .mv (.t 21)⟩]
def c26r4 : List AOper :=
 [⟨some 23, none, .mv (.t 0)⟩,
 ⟨some 24, none, .nilck (.t 23)⟩,
 ⟨some 25, none, .fldA (.t 24) 2⟩,
 ⟨some 26, none, .load (.t 25) none⟩,
 ⟨some 22, none, .mv (.t 26)⟩]
def c26r5 : List AOper :=
 [⟨some 4, none, .mv (.c .nilp)⟩,
 ⟨some 5, none, .mv (.c (.int .i64 50))⟩]
def c26r6 : List AOper :=
 [⟨some 28, none, .mv (.t 7)⟩,
 ⟨some 29, none, .un .not (.t 28)⟩,
 ⟨some 27, none, .mv (.t 29)⟩]
def c26r7 : List AOper :=
 [⟨some 4, none, .mv (.c .nilp)⟩,
 ⟨some 5, none, .mv (.c (.int .i64 3))⟩]
def c26r8 : List AOper :=
 [⟨some 30, none, .mv (.t 6)⟩,
 ⟨some 4, none, .mv (.t 30)⟩,
 ⟨some 5, none, .mv (.c (.int .i64 0))⟩]
def c26 : AC := (.seq (.region c26r0) (.seq (.seq (.region c26r1) (.cond (.t 12) (.seq (.region c26r2) .ret) .skip)) (.seq (.region c26r3) (.seq (.block 0 (.seq (.region c26r4) (.cond (.t 22) (.seq (.region c26r5) .ret) (.seq (.region c26r6) (.cond (.t 27) (.seq (.region c26r7) .ret) .skip))))) (.seq (.region c26r8) .ret)))))
def r26 : List ARes := [.tmp 4, .tmp 5]
theorem c26_ok : Try.f26.body.bind (cCode Try.prog Try.f26.ntmps) = some c26 := by kernel_rfl
theorem r26_ok : Try.f26.results.toList.mapM (cRes Try.prog Try.f26.ntmps) = some r26 := by kernel_rfl
def c29r0 : List AOper :=
 [⟨some 2, none, .mv (.c (.bool false))⟩]
def c29r1 : List AOper :=
 [⟨some 3, none, .mv (.t 0)⟩,
 ⟨some 4, none, .bin .lss (.t 3) (.c (.int .i32 97))⟩,
 ⟨some 5, none, .mv (.t 4)⟩,
 ⟨some 6, some (5, false), .mv (.t 0)⟩,
 ⟨some 7, some (5, false), .bin .gtr (.t 6) (.c (.int .i32 122))⟩,
 ⟨some 8, none, .pick (.t 5) (.c (.bool true)) (.t 7)⟩,
 ⟨some 9, none, .mv (.t 8)⟩,
 ⟨some 10, some (9, true), .mv (.t 0)⟩,
 ⟨some 11, some (9, true), .bin .lss (.t 10) (.c (.int .i32 48))⟩,
 ⟨some 12, some (9, true), .mv (.t 11)⟩,
 ⟨some 13, some (12, false), .mv (.t 0)⟩,
 ⟨some 14, some (12, false), .bin .gtr (.t 13) (.c (.int .i32 57))⟩,
 ⟨some 15, some (9, true), .pick (.t 12) (.c (.bool true)) (.t 14)⟩,
 ⟨some 16, none, .pick (.t 9) (.t 15) (.c (.bool false))⟩,
 ⟨some 17, none, .mv (.t 16)⟩,
 ⟨some 18, some (17, true), .mv (.t 0)⟩,
 ⟨some 19, some (17, true), .bin .neq (.t 18) (.c (.int .i32 46))⟩,
 ⟨some 20, none, .pick (.t 17) (.t 19) (.c (.bool false))⟩,
 ⟨some 21, none, .mv (.t 20)⟩,
 ⟨some 22, some (21, true), .mv (.t 0)⟩,
 ⟨some 23, some (21, true), .bin .neq (.t 22) (.c (.int .i32 45))⟩,
 ⟨some 24, none, .pick (.t 21) (.t 23) (.c (.bool false))⟩,
 ⟨some 2, none, .mv (.t 24)⟩]
def c29 : AC := (.seq (.region c29r0) (.seq (.region c29r1) .ret))
def r29 : List ARes := [.tmp 2]
theorem c29_ok : Try.f29.body.bind (cCode Try.prog Try.f29.ntmps) = some c29 := by kernel_rfl
theorem r29_ok : Try.f29.results.toList.mapM (cRes Try.prog Try.f29.ntmps) = some r29 := by kernel_rfl
end Go.Proofs.Ytoofeikddclclaa
