/-
  The abstract code of some functions: written by a program (wip/tools/gen.py); held against the translation by Lean.
-/
import Derived.Test.YtpipgcmiaccdkaaProg
import Derived.Test.YtpipgcmiaccdkaaSx7
import Derived.KernelRfl
namespace Go.Proofs.Ytpipgcmiaccdkaa
open Sx Go
set_option maxRecDepth 100000
def c3r0 : List AOper :=
 [⟨some 2, none, .box (.t 0)⟩,
 ⟨some 4, none, .mv (.c (.bool false))⟩]
def c3r1 : List AOper :=
 [⟨some 15, none, .load (.t 2) (some 4)⟩,
 ⟨some 16, none, .call (.c (.fn 9 [])) [.t 15]⟩,
 ⟨some 17, none, .un .not (.t 16)⟩,
 ⟨some 18, none, .mv (.t 17)⟩,
 ⟨some 19, some (18, false), .mv (.t 1)⟩,
 ⟨some 20, some (18, false), .lenS (.t 19)⟩,
 ⟨some 21, some (18, false), .bin .gtr (.t 20) (.c (.int .i64 4096))⟩,
 ⟨some 22, none, .pick (.t 18) (.c (.bool true)) (.t 21)⟩]
def c3r2 : List AOper :=
 [⟨some 23, none, .call (.c (.fn 10 [])) []⟩,
 ⟨some 4, none, .mv (.t 23)⟩]
def c3r3 : List AOper :=
 [⟨some 25, none, .load (.t 2) (some 4)⟩,
 ⟨some 26, none, .call (.c (.fn 11 [])) [.t 25]⟩,
 ⟨some 24, none, .mv (.t 26)⟩,
 ⟨some 27, none, .ext (.t 24) 0⟩,
 ⟨some 28, none, .ext (.t 24) 1⟩,
 ⟨some 5, none, .mv (.t 27)⟩,
 ⟨some 6, none, .mv (.t 28)⟩]
def c3r4 : List AOper :=
 [⟨some 30, none, .load (.t 2) (some 4)⟩,
 ⟨some 31, none, .call (.c (.fn 12 [])) [.t 30]⟩,
 ⟨some 29, none, .mv (.t 31)⟩,
 ⟨some 32, none, .ext (.t 29) 0⟩,
 ⟨some 33, none, .ext (.t 29) 1⟩,
 ⟨some 7, none, .mv (.t 32)⟩,
 ⟨some 8, none, .mv (.t 33)⟩]
def c3r5 : List AOper :=
 [⟨some 35, none, .mv (.t 1)⟩,
 ⟨some 36, none, .call (.c (.fn 13 [])) [.t 35]⟩,
 ⟨some 34, none, .mv (.t 36)⟩,
 ⟨some 37, none, .ext (.t 34) 0⟩,
 ⟨some 38, none, .ext (.t 34) 1⟩,
 ⟨some 9, none, .alloc [.nils, .nils, .int .i64 0, .int .i64 0]⟩,
 ⟨none, none, .store (.t 9) (.t 37) 4⟩,
 ⟨some 10, none, .mv (.t 38)⟩]
def c3r6 : List AOper :=
 [⟨some 40, none, .mv (.t 1)⟩,
 ⟨some 41, none, .call (.c (.fn 14 [])) [.t 40]⟩,
 ⟨some 39, none, .mv (.t 41)⟩,
 ⟨some 42, none, .ext (.t 39) 0⟩,
 ⟨some 43, none, .ext (.t 39) 1⟩,
 ⟨some 11, none, .alloc [.nils, .nils, .int .i64 0, .int .i64 0]⟩,
 ⟨none, none, .store (.t 11) (.t 42) 4⟩,
 ⟨some 12, none, .mv (.t 43)⟩]
def c3d0 : List (AOper × List Nat) :=
 [(⟨some 44, none, .mv (.t 5)⟩, []),
 (⟨some 45, none, .mv (.t 7)⟩, []),
 (⟨some 46, none, .bin .neq (.t 44) (.t 45)⟩, [0, 1]),
 (⟨some 47, none, .mv (.t 46)⟩, [2]),
 (⟨some 48, some (47, false), .mv (.t 6)⟩, [3]),
 (⟨some 49, some (47, false), .mv (.t 8)⟩, [3]),
 (⟨some 50, some (47, false), .bin .neq (.t 48) (.t 49)⟩, [4, 5, 3]),
 (⟨some 51, none, .pick (.t 47) (.c (.bool true)) (.t 50)⟩, [3, 6]),
 (⟨some 52, none, .mv (.t 51)⟩, [7, 3]),
 (⟨some 53, some (52, false), .load (.t 9) (some 4)⟩, [8]),
 (⟨some 54, some (52, false), .load (.t 11) (some 4)⟩, [8]),
 (⟨some 55, some (52, false), .call (.c (.fn 15 [])) [.t 53, .t 54]⟩, [9, 10, 8, 8]),
 (⟨some 56, some (52, false), .un .not (.t 55)⟩, [11, 8]),
 (⟨some 57, none, .pick (.t 52) (.c (.bool true)) (.t 56)⟩, [8, 12]),
 (⟨some 58, none, .mv (.t 57)⟩, [13, 11]),
 (⟨some 59, some (58, false), .mv (.t 10)⟩, [14]),
 (⟨some 60, some (58, false), .mv (.t 12)⟩, [14]),
 (⟨some 61, some (58, false), .bin .neq (.t 59) (.t 60)⟩, [15, 16, 14]),
 (⟨some 62, none, .pick (.t 58) (.c (.bool true)) (.t 61)⟩, [14, 17]),
 (⟨some 63, none, .mv (.t 62)⟩, [18, 14]),
 (⟨some 64, some (63, false), .load (.t 2) (some 4)⟩, [19]),
 (⟨some 65, some (63, false), .call (.c (.fn 16 [])) [.t 64]⟩, [20, 19, 19]),
 (⟨some 66, some (63, false), .load (.t 2) (some 4)⟩, [19]),
 (⟨some 67, some (63, false), .call (.c (.fn 17 [])) [.t 66]⟩, [22, 21, 19]),
 (⟨some 68, some (63, false), .bin .neq (.t 65) (.t 67)⟩, [21, 23, 19]),
 (⟨some 69, none, .pick (.t 63) (.c (.bool true)) (.t 68)⟩, [19, 24])]
def c3r7 : List AOper :=
 [⟨some 4, none, .mv (.c (.bool false))⟩]
def c3r8 : List AOper :=
 [⟨some 70, none, .mv (.t 6)⟩,
 ⟨some 71, none, .bin .neq (.t 70) (.c (.int .i64 0))⟩]
def c3r9 : List AOper :=
 [⟨some 72, none, .call (.c (.fn 10 [])) []⟩,
 ⟨some 4, none, .mv (.t 72)⟩]
def c3r10 : List AOper :=
 [⟨some 74, none, .mv (.t 5)⟩,
 ⟨some 75, none, .call (.c (.fn 13 [])) [.t 74]⟩,
 ⟨some 73, none, .mv (.t 75)⟩,
 ⟨some 76, none, .ext (.t 73) 0⟩,
 ⟨some 77, none, .ext (.t 73) 1⟩,
 ⟨some 13, none, .alloc [.nils, .nils, .int .i64 0, .int .i64 0]⟩,
 ⟨none, none, .store (.t 13) (.t 76) 4⟩,
 ⟨some 14, none, .mv (.t 77)⟩]
def c3r11 : List AOper :=
 [⟨some 78, none, .load (.t 13) (some 4)⟩,
 ⟨some 79, none, .load (.t 2) (some 4)⟩,
 ⟨some 80, none, .call (.c (.fn 15 [])) [.t 78, .t 79]⟩,
 ⟨some 81, none, .mv (.t 80)⟩,
 ⟨some 82, some (81, true), .mv (.t 14)⟩,
 ⟨some 83, some (81, true), .bin .eql (.t 82) (.c (.int .i64 0))⟩,
 ⟨some 84, none, .pick (.t 81) (.t 83) (.c (.bool false))⟩,
 ⟨some 85, none, .mv (.t 84)⟩,
 ⟨some 86, some (85, true), .call (.c (.fn 10 [])) []⟩,
 ⟨some 87, none, .pick (.t 85) (.t 86) (.c (.bool false))⟩,
 ⟨some 4, none, .mv (.t 87)⟩]
def c3 : AC := (.seq (.region c3r0) (.seq (.seq (.region c3r1) (.cond (.t 22) (.seq (.region c3r2) .ret) .skip)) (.seq (.region c3r3) (.seq (.region c3r4) (.seq (.region c3r5) (.seq (.region c3r6) (.seq (.seq (.drawn c3d0) (.cond (.t 69) (.seq (.region c3r7) .ret) .skip)) (.seq (.seq (.region c3r8) (.cond (.t 71) (.seq (.region c3r9) .ret) .skip)) (.seq (.region c3r10) (.seq (.region c3r11) .ret))))))))))
def r3 : List ARes := [.tmp 4]
theorem c3_ok : Try.f3.body.bind (cCode Try.prog Try.f3.ntmps) = some c3 := by kernel_rfl
theorem r3_ok : Try.f3.results.toList.mapM (cRes Try.prog Try.f3.ntmps) = some r3 := by kernel_rfl
def c4r0 : List AOper :=
 [⟨some 6, none, .mv (.c (.bool false))⟩]
def c4r1 : List AOper :=
 [⟨some 15, none, .mv (.t 0)⟩,
 ⟨some 16, none, .lenL (.t 15)⟩,
 ⟨some 17, none, .bin .gtr (.t 16) (.c (.int .i64 20))⟩,
 ⟨some 18, none, .mv (.t 17)⟩,
 ⟨some 19, some (18, false), .mv (.t 1)⟩,
 ⟨some 20, some (18, false), .lenS (.t 19)⟩,
 ⟨some 21, some (18, false), .bin .gtr (.t 20) (.c (.int .i64 100))⟩,
 ⟨some 22, none, .pick (.t 18) (.c (.bool true)) (.t 21)⟩,
 ⟨some 23, none, .mv (.t 22)⟩,
 ⟨some 24, some (23, false), .mv (.t 2)⟩,
 ⟨some 25, some (23, false), .lenS (.t 24)⟩,
 ⟨some 26, some (23, false), .bin .gtr (.t 25) (.c (.int .i64 100))⟩,
 ⟨some 27, none, .pick (.t 23) (.c (.bool true)) (.t 26)⟩]
def c4r2 : List AOper :=
 [⟨some 28, none, .call (.c (.fn 10 [])) []⟩,
 ⟨some 6, none, .mv (.t 28)⟩]
def c4r3 : List AOper :=
 [⟨some 29, none, .build [.nils, .int .i64 0, .int .i64 0] []⟩,
 ⟨some 30, none, .build [.nils, .int .i64 0, .int .i64 0] []⟩,
 ⟨some 7, none, .alloc [.nils, .int .i64 0, .int .i64 0]⟩,
 ⟨some 8, none, .alloc [.nils, .int .i64 0, .int .i64 0]⟩,
 ⟨none, none, .store (.t 7) (.t 29) 3⟩,
 ⟨none, none, .store (.t 8) (.t 30) 3⟩]
def c4r4 : List AOper :=
 [⟨some 9, none, .mv (.c (.int .i64 0))⟩]
def c4r5 : List AOper :=
 [⟨some 31, none, .mv (.t 9)⟩,
 ⟨some 32, none, .mv (.t 0)⟩,
 ⟨some 33, none, .lenL (.t 32)⟩,
 ⟨some 34, none, .bin .lss (.t 31) (.t 33)⟩]
def c4r6 : List AOper :=
 [⟨some 37, none, .mv (.t 0)⟩,
 ⟨some 38, none, .mv (.t 9)⟩,
 ⟨some 39, none, .idxA (.t 37) (.t 38) none 4⟩,
 ⟨some 40, none, .load (.t 39) (some 4)⟩,
 ⟨some 41, none, .call (.c (.fn 9 [])) [.t 40]⟩,
 ⟨some 42, none, .un .not (.t 41)⟩]
def c4r7 : List AOper :=
 [⟨some 43, none, .call (.c (.fn 10 [])) []⟩,
 ⟨some 6, none, .mv (.t 43)⟩]
def c4d0 : List (AOper × List Nat) :=
 [(⟨some 45, none, .load (.t 7) (some 3)⟩, []),
 (⟨some 46, none, .mv (.t 0)⟩, []),
 (⟨some 47, none, .mv (.t 9)⟩, []),
 (⟨some 48, none, .idxA (.t 46) (.t 47) none 4⟩, [1, 2]),
 (⟨some 49, none, .load (.t 48) (some 4)⟩, [3]),
 (⟨some 50, none, .call (.c (.fn 18 [])) [.t 45, .t 49]⟩, [0, 4]),
 (⟨some 44, none, .mv (.t 50)⟩, [5]),
 (⟨some 51, none, .ext (.t 44) 0⟩, [6]),
 (⟨some 52, none, .ext (.t 44) 1⟩, [6]),
 (⟨some 10, none, .alloc [.nils, .int .i64 0, .int .i64 0]⟩, []),
 (⟨none, none, .store (.t 10) (.t 51) 3⟩, [9, 7, 5, 0, 1, 2, 3, 4, 5, 6, 7, 9]),
 (⟨some 11, none, .mv (.t 52)⟩, [8, 10, 0, 1, 2, 3, 4, 5, 6, 7, 8, 9, 10])]
def c4d1 : List (AOper × List Nat) :=
 [(⟨some 54, none, .load (.t 8) (some 3)⟩, []),
 (⟨some 55, none, .mv (.t 0)⟩, []),
 (⟨some 56, none, .mv (.t 9)⟩, []),
 (⟨some 57, none, .idxA (.t 55) (.t 56) none 4⟩, [1, 2]),
 (⟨some 58, none, .load (.t 57) (some 4)⟩, [3]),
 (⟨some 59, none, .call (.c (.fn 19 [])) [.t 54, .t 58]⟩, [0, 4]),
 (⟨some 53, none, .mv (.t 59)⟩, [5]),
 (⟨some 60, none, .ext (.t 53) 0⟩, [6]),
 (⟨some 61, none, .ext (.t 53) 1⟩, [6]),
 (⟨some 12, none, .alloc [.nils, .int .i64 0, .int .i64 0]⟩, []),
 (⟨none, none, .store (.t 12) (.t 60) 3⟩, [9, 7, 5, 0, 1, 2, 3, 4, 5, 6, 7, 9]),
 (⟨some 13, none, .mv (.t 61)⟩, [8, 10, 0, 1, 2, 3, 4, 5, 6, 7, 8, 9, 10])]
def c4r8 : List AOper :=
 [⟨some 62, none, .mv (.t 11)⟩,
 ⟨some 63, none, .mv (.t 13)⟩,
 ⟨some 64, none, .bin .neq (.t 62) (.t 63)⟩,
 ⟨some 65, none, .mv (.t 64)⟩,
 ⟨some 66, some (65, false), .load (.t 10) (some 3)⟩,
 ⟨some 67, some (65, false), .load (.t 12) (some 3)⟩,
 ⟨some 68, some (65, false), .call (.c (.fn 20 [])) [.t 66, .t 67]⟩,
 ⟨some 69, some (65, false), .un .not (.t 68)⟩,
 ⟨some 70, none, .pick (.t 65) (.c (.bool true)) (.t 69)⟩]
def c4r9 : List AOper :=
 [⟨some 6, none, .mv (.c (.bool false))⟩]
def c4r10 : List AOper :=
 [⟨some 71, none, .mv (.t 11)⟩,
 ⟨some 72, none, .bin .eql (.t 71) (.c (.int .i64 0))⟩]
def c4d2 : List (AOper × List Nat) :=
 [(⟨some 73, none, .load (.t 10) (some 3)⟩, []),
 (⟨some 74, none, .load (.t 12) (some 3)⟩, []),
 (⟨none, none, .store (.t 7) (.t 73) 3⟩, [0, 0]),
 (⟨none, none, .store (.t 8) (.t 74) 3⟩, [1, 2, 0, 1, 2])]
def c4r11 : List AOper :=
 [⟨some 14, none, .mv (.c (.int .i64 (-1)))⟩]
def c4r12 : List AOper :=
 [⟨some 75, none, .mv (.t 14)⟩,
 ⟨some 76, none, .bin .lss (.t 75) (.c (.int .i64 4))⟩]
def c4d3 : List (AOper × List Nat) :=
 [(⟨some 79, none, .load (.t 7) (some 3)⟩, []),
 (⟨some 80, none, .mv (.t 14)⟩, []),
 (⟨some 81, none, .mv (.t 1)⟩, []),
 (⟨some 82, none, .mv (.t 2)⟩, []),
 (⟨some 83, none, .call (.c (.fn 22 [])) [.t 79, .t 80, .t 81, .t 82]⟩, [0, 1, 2, 3]),
 (⟨some 84, none, .load (.t 8) (some 3)⟩, []),
 (⟨some 85, none, .mv (.t 14)⟩, []),
 (⟨some 86, none, .mv (.t 1)⟩, []),
 (⟨some 87, none, .mv (.t 2)⟩, []),
 (⟨some 88, none, .call (.c (.fn 23 [])) [.t 84, .t 85, .t 86, .t 87]⟩, [5, 6, 7, 8, 4]),
 (⟨some 89, none, .call (.c (.fn 21 [])) [.t 83, .t 88]⟩, [4, 9, 9]),
 (⟨some 90, none, .un .not (.t 89)⟩, [10])]
def c4r13 : List AOper :=
 [⟨some 6, none, .mv (.c (.bool false))⟩]
def c4r14 : List AOper :=
 [⟨some 77, none, .mv (.t 14)⟩,
 ⟨some 78, none, .bin .add (.t 77) (.c (.int .i64 1))⟩,
 ⟨some 14, none, .mv (.t 78)⟩]
def c4l1 : AC := (.seq (.seq (.region c4r12) (.cond (.t 76) .skip (.exit 2))) (.seq (.block 3 (.seq (.drawn c4d3) (.cond (.t 90) (.seq (.region c4r13) .ret) .skip))) (.region c4r14)))
def c4r15 : List AOper :=
 [⟨some 35, none, .mv (.t 9)⟩,
 ⟨some 36, none, .bin .add (.t 35) (.c (.int .i64 1))⟩,
 ⟨some 9, none, .mv (.t 36)⟩]
def c4l0 : AC := (.seq (.seq (.region c4r5) (.cond (.t 34) .skip (.exit 0))) (.seq (.block 1 (.seq (.seq (.region c4r6) (.cond (.t 42) (.seq (.region c4r7) .ret) .skip)) (.seq (.drawn c4d0) (.seq (.drawn c4d1) (.seq (.seq (.region c4r8) (.cond (.t 70) (.seq (.region c4r9) .ret) .skip)) (.seq (.seq (.region c4r10) (.cond (.t 72) (.drawn c4d2) .skip)) (.seq (.region c4r11) (.block 2 (.loop c4l1))))))))) (.region c4r15)))
def c4r16 : List AOper :=
 [⟨some 91, none, .call (.c (.fn 10 [])) []⟩,
 ⟨some 6, none, .mv (.t 91)⟩]
def c4 : AC := (.seq (.region c4r0) (.seq (.seq (.region c4r1) (.cond (.t 27) (.seq (.region c4r2) .ret) .skip)) (.seq (.region c4r3) (.seq (.seq (.region c4r4) (.block 0 (.loop c4l0))) (.seq (.region c4r16) .ret)))))
def r4 : List ARes := [.tmp 6]
theorem c4_ok : Try.f4.body.bind (cCode Try.prog Try.f4.ntmps) = some c4 := by kernel_rfl
theorem r4_ok : Try.f4.results.toList.mapM (cRes Try.prog Try.f4.ntmps) = some r4 := by kernel_rfl
def c5r0 : List AOper :=
 [⟨some 2, none, .mv (.c (.bool false))⟩]
def c5r1 : List AOper :=
 [⟨some 11, none, .mv (.t 0)⟩,
 ⟨some 12, none, .lenL (.t 11)⟩,
 ⟨some 13, none, .bin .gtr (.t 12) (.c (.int .i64 20))⟩]
def c5r2 : List AOper :=
 [⟨some 14, none, .call (.c (.fn 10 [])) []⟩,
 ⟨some 2, none, .mv (.t 14)⟩]
def c5r3 : List AOper :=
 [⟨some 15, none, .build [.nils, .int .i64 0, .int .i64 0] []⟩,
 ⟨some 3, none, .alloc [.nils, .int .i64 0, .int .i64 0]⟩,
 ⟨none, none, .store (.t 3) (.t 15) 3⟩]
def c5r4 : List AOper :=
 [⟨some 4, none, .mv (.c (.int .i64 0))⟩]
def c5r5 : List AOper :=
 [⟨some 16, none, .mv (.t 4)⟩,
 ⟨some 17, none, .mv (.t 0)⟩,
 ⟨some 18, none, .lenL (.t 17)⟩,
 ⟨some 19, none, .bin .lss (.t 16) (.t 18)⟩]
def c5r6 : List AOper :=
 [⟨some 22, none, .mv (.t 0)⟩,
 ⟨some 23, none, .mv (.t 4)⟩,
 ⟨some 24, none, .idxA (.t 22) (.t 23) none 4⟩,
 ⟨some 25, none, .load (.t 24) (some 4)⟩,
 ⟨some 26, none, .call (.c (.fn 9 [])) [.t 25]⟩,
 ⟨some 27, none, .un .not (.t 26)⟩]
def c5r7 : List AOper :=
 [⟨some 28, none, .call (.c (.fn 10 [])) []⟩,
 ⟨some 2, none, .mv (.t 28)⟩]
def c5d0 : List (AOper × List Nat) :=
 [(⟨some 30, none, .load (.t 3) (some 3)⟩, []),
 (⟨some 31, none, .mv (.t 0)⟩, []),
 (⟨some 32, none, .mv (.t 4)⟩, []),
 (⟨some 33, none, .idxA (.t 31) (.t 32) none 4⟩, [1, 2]),
 (⟨some 34, none, .load (.t 33) (some 4)⟩, [3]),
 (⟨some 35, none, .call (.c (.fn 18 [])) [.t 30, .t 34]⟩, [0, 4]),
 (⟨some 29, none, .mv (.t 35)⟩, [5]),
 (⟨some 36, none, .ext (.t 29) 0⟩, [6]),
 (⟨some 37, none, .ext (.t 29) 1⟩, [6]),
 (⟨some 5, none, .alloc [.nils, .int .i64 0, .int .i64 0]⟩, []),
 (⟨none, none, .store (.t 5) (.t 36) 3⟩, [9, 7, 5, 0, 1, 2, 3, 4, 5, 6, 7, 9]),
 (⟨some 6, none, .mv (.t 37)⟩, [8, 10, 0, 1, 2, 3, 4, 5, 6, 7, 8, 9, 10])]
def c5r8 : List AOper :=
 [⟨some 38, none, .mv (.t 6)⟩,
 ⟨some 39, none, .bin .neq (.t 38) (.c (.int .i64 0))⟩]
def c5r9 : List AOper :=
 [⟨some 40, none, .fldA (.t 5) 1⟩,
 ⟨some 41, none, .load (.t 40) none⟩,
 ⟨some 42, none, .fldA (.t 3) 1⟩,
 ⟨some 43, none, .load (.t 42) none⟩,
 ⟨some 44, none, .bin .lss (.t 41) (.t 43)⟩,
 ⟨some 45, none, .mv (.t 44)⟩,
 ⟨some 46, some (45, false), .fldA (.t 5) 2⟩,
 ⟨some 47, some (45, false), .load (.t 46) none⟩,
 ⟨some 48, some (45, false), .fldA (.t 3) 2⟩,
 ⟨some 49, some (45, false), .load (.t 48) none⟩,
 ⟨some 50, some (45, false), .bin .lss (.t 47) (.t 49)⟩,
 ⟨some 51, none, .pick (.t 45) (.c (.bool true)) (.t 50)⟩]
def c5r10 : List AOper :=
 [⟨some 2, none, .mv (.c (.bool false))⟩]
def c5r11 : List AOper :=
 [⟨some 52, none, .load (.t 5) (some 3)⟩,
 ⟨none, none, .store (.t 3) (.t 52) 3⟩]
def c5r12 : List AOper :=
 [⟨some 7, none, .mv (.c (.int .i64 0))⟩]
def c5r13 : List AOper :=
 [⟨some 53, none, .mv (.t 7)⟩,
 ⟨some 54, none, .fldA (.t 3) 0⟩,
 ⟨some 55, none, .load (.t 54) none⟩,
 ⟨some 56, none, .lenL (.t 55)⟩,
 ⟨some 57, none, .bin .lss (.t 53) (.t 56)⟩]
def c5r14 : List AOper :=
 [⟨some 60, none, .fldA (.t 3) 0⟩,
 ⟨some 61, none, .load (.t 60) none⟩,
 ⟨some 62, none, .mv (.t 7)⟩,
 ⟨some 63, none, .idxA (.t 61) (.t 62) none 4⟩,
 ⟨some 64, none, .load (.t 63) (some 4)⟩,
 ⟨some 8, none, .alloc [.int .i64 0, .int .i64 0, .str [], .str []]⟩,
 ⟨none, none, .store (.t 8) (.t 64) 4⟩]
def c5r15 : List AOper :=
 [⟨some 65, none, .fldA (.t 8) 0⟩,
 ⟨some 66, none, .load (.t 65) none⟩,
 ⟨some 67, none, .fldA (.t 3) 2⟩,
 ⟨some 68, none, .load (.t 67) none⟩,
 ⟨some 69, none, .bin .geq (.t 66) (.t 68)⟩,
 ⟨some 70, none, .mv (.t 69)⟩,
 ⟨some 71, some (70, false), .fldA (.t 8) 2⟩,
 ⟨some 72, some (70, false), .load (.t 71) none⟩,
 ⟨some 73, some (70, false), .fldA (.t 8) 3⟩,
 ⟨some 74, some (70, false), .load (.t 73) none⟩,
 ⟨some 75, some (70, false), .bin .gtr (.t 72) (.t 74)⟩,
 ⟨some 76, none, .pick (.t 70) (.c (.bool true)) (.t 75)⟩]
def c5r16 : List AOper :=
 [⟨some 2, none, .mv (.c (.bool false))⟩]
def c5r17 : List AOper :=
 [⟨some 9, none, .mv (.c (.int .i64 0))⟩]
def c5r18 : List AOper :=
 [⟨some 77, none, .mv (.t 9)⟩,
 ⟨some 78, none, .mv (.t 7)⟩,
 ⟨some 79, none, .bin .lss (.t 77) (.t 78)⟩]
def c5r19 : List AOper :=
 [⟨some 82, none, .fldA (.t 3) 0⟩,
 ⟨some 83, none, .load (.t 82) none⟩,
 ⟨some 84, none, .mv (.t 9)⟩,
 ⟨some 85, none, .idxA (.t 83) (.t 84) none 4⟩,
 ⟨some 86, none, .load (.t 85) (some 4)⟩,
 ⟨some 10, none, .alloc [.int .i64 0, .int .i64 0, .str [], .str []]⟩,
 ⟨none, none, .store (.t 10) (.t 86) 4⟩]
def c5r20 : List AOper :=
 [⟨some 87, none, .fldA (.t 10) 0⟩,
 ⟨some 88, none, .load (.t 87) none⟩,
 ⟨some 89, none, .fldA (.t 8) 0⟩,
 ⟨some 90, none, .load (.t 89) none⟩,
 ⟨some 91, none, .bin .eql (.t 88) (.t 90)⟩,
 ⟨some 92, none, .mv (.t 91)⟩,
 ⟨some 93, some (92, false), .fldA (.t 10) 1⟩,
 ⟨some 94, some (92, false), .load (.t 93) none⟩,
 ⟨some 95, some (92, false), .fldA (.t 8) 1⟩,
 ⟨some 96, some (92, false), .load (.t 95) none⟩,
 ⟨some 97, some (92, false), .bin .gtr (.t 94) (.t 96)⟩,
 ⟨some 98, none, .pick (.t 92) (.c (.bool true)) (.t 97)⟩,
 ⟨some 99, none, .mv (.t 98)⟩,
 ⟨some 100, some (99, false), .fldA (.t 8) 1⟩,
 ⟨some 101, some (99, false), .load (.t 100) none⟩,
 ⟨some 102, some (99, false), .bin .gtr (.t 101) (.c (.int .i64 0))⟩,
 ⟨some 103, some (99, false), .mv (.t 102)⟩,
 ⟨some 104, some (103, true), .fldA (.t 10) 1⟩,
 ⟨some 105, some (103, true), .load (.t 104) none⟩,
 ⟨some 106, some (103, true), .fldA (.t 8) 1⟩,
 ⟨some 107, some (103, true), .load (.t 106) none⟩,
 ⟨some 108, some (103, true), .bin .eql (.t 105) (.t 107)⟩,
 ⟨some 109, some (99, false), .pick (.t 103) (.t 108) (.c (.bool false))⟩,
 ⟨some 110, some (99, false), .mv (.t 109)⟩,
 ⟨some 111, some (110, true), .fldA (.t 10) 3⟩,
 ⟨some 112, some (110, true), .load (.t 111) none⟩,
 ⟨some 113, some (110, true), .fldA (.t 8) 2⟩,
 ⟨some 114, some (110, true), .load (.t 113) none⟩,
 ⟨some 115, some (110, true), .bin .geq (.t 112) (.t 114)⟩,
 ⟨some 116, some (99, false), .pick (.t 110) (.t 115) (.c (.bool false))⟩,
 ⟨some 117, none, .pick (.t 99) (.c (.bool true)) (.t 116)⟩]
def c5r21 : List AOper :=
 [⟨some 2, none, .mv (.c (.bool false))⟩]
def c5r22 : List AOper :=
 [⟨some 80, none, .mv (.t 9)⟩,
 ⟨some 81, none, .bin .add (.t 80) (.c (.int .i64 1))⟩,
 ⟨some 9, none, .mv (.t 81)⟩]
def c5l2 : AC := (.seq (.seq (.region c5r18) (.cond (.t 79) .skip (.exit 4))) (.seq (.block 5 (.seq (.region c5r19) (.seq (.region c5r20) (.cond (.t 117) (.seq (.region c5r21) .ret) .skip)))) (.region c5r22)))
def c5r23 : List AOper :=
 [⟨some 58, none, .mv (.t 7)⟩,
 ⟨some 59, none, .bin .add (.t 58) (.c (.int .i64 1))⟩,
 ⟨some 7, none, .mv (.t 59)⟩]
def c5l1 : AC := (.seq (.seq (.region c5r13) (.cond (.t 57) .skip (.exit 2))) (.seq (.block 3 (.seq (.region c5r14) (.seq (.seq (.region c5r15) (.cond (.t 76) (.seq (.region c5r16) .ret) .skip)) (.seq (.region c5r17) (.block 4 (.loop c5l2)))))) (.region c5r23)))
def c5r24 : List AOper :=
 [⟨some 20, none, .mv (.t 4)⟩,
 ⟨some 21, none, .bin .add (.t 20) (.c (.int .i64 1))⟩,
 ⟨some 4, none, .mv (.t 21)⟩]
def c5l0 : AC := (.seq (.seq (.region c5r5) (.cond (.t 19) .skip (.exit 0))) (.seq (.block 1 (.seq (.seq (.region c5r6) (.cond (.t 27) (.seq (.region c5r7) .ret) .skip)) (.seq (.drawn c5d0) (.seq (.seq (.region c5r8) (.cond (.t 39) (.exit 1) .skip)) (.seq (.seq (.region c5r9) (.cond (.t 51) (.seq (.region c5r10) .ret) .skip)) (.seq (.region c5r11) (.seq (.region c5r12) (.block 2 (.loop c5l1))))))))) (.region c5r24)))
def c5r25 : List AOper :=
 [⟨some 118, none, .call (.c (.fn 10 [])) []⟩,
 ⟨some 2, none, .mv (.t 118)⟩]
def c5 : AC := (.seq (.region c5r0) (.seq (.seq (.region c5r1) (.cond (.t 13) (.seq (.region c5r2) .ret) .skip)) (.seq (.region c5r3) (.seq (.seq (.region c5r4) (.block 0 (.loop c5l0))) (.seq (.region c5r25) .ret)))))
def r5 : List ARes := [.tmp 2]
theorem c5_ok : Try.f5.body.bind (cCode Try.prog Try.f5.ntmps) = some c5 := by kernel_rfl
theorem r5_ok : Try.f5.results.toList.mapM (cRes Try.prog Try.f5.ntmps) = some r5 := by kernel_rfl
def c6r0 : List AOper :=
 [⟨some 6, none, .mv (.c (.bool false))⟩]
def c6r1 : List AOper :=
 [⟨some 19, none, .mv (.t 0)⟩,
 ⟨some 20, none, .lenL (.t 19)⟩,
 ⟨some 21, none, .bin .gtr (.t 20) (.c (.int .i64 10))⟩]
def c6r2 : List AOper :=
 [⟨some 22, none, .call (.c (.fn 10 [])) []⟩,
 ⟨some 6, none, .mv (.t 22)⟩]
def c6r3 : List AOper :=
 [⟨some 23, none, .build [.nils, .int .i64 0, .int .i64 0] []⟩,
 ⟨some 7, none, .alloc [.nils, .int .i64 0, .int .i64 0]⟩,
 ⟨none, none, .store (.t 7) (.t 23) 3⟩]
def c6r4 : List AOper :=
 [⟨some 8, none, .mv (.c (.int .i64 0))⟩]
def c6r5 : List AOper :=
 [⟨some 24, none, .mv (.t 8)⟩,
 ⟨some 25, none, .mv (.t 0)⟩,
 ⟨some 26, none, .lenL (.t 25)⟩,
 ⟨some 27, none, .bin .lss (.t 24) (.t 26)⟩]
def c6r6 : List AOper :=
 [⟨some 30, none, .mv (.t 0)⟩,
 ⟨some 31, none, .mv (.t 8)⟩,
 ⟨some 32, none, .idxA (.t 30) (.t 31) none 4⟩,
 ⟨some 33, none, .load (.t 32) (some 4)⟩,
 ⟨some 34, none, .call (.c (.fn 9 [])) [.t 33]⟩,
 ⟨some 35, none, .un .not (.t 34)⟩]
def c6r7 : List AOper :=
 [⟨some 36, none, .call (.c (.fn 10 [])) []⟩,
 ⟨some 6, none, .mv (.t 36)⟩]
def c6d0 : List (AOper × List Nat) :=
 [(⟨some 38, none, .load (.t 7) (some 3)⟩, []),
 (⟨some 39, none, .mv (.t 0)⟩, []),
 (⟨some 40, none, .mv (.t 8)⟩, []),
 (⟨some 41, none, .idxA (.t 39) (.t 40) none 4⟩, [1, 2]),
 (⟨some 42, none, .load (.t 41) (some 4)⟩, [3]),
 (⟨some 43, none, .call (.c (.fn 18 [])) [.t 38, .t 42]⟩, [0, 4]),
 (⟨some 37, none, .mv (.t 43)⟩, [5]),
 (⟨some 44, none, .ext (.t 37) 0⟩, [6]),
 (⟨some 45, none, .ext (.t 37) 1⟩, [6]),
 (⟨some 9, none, .alloc [.nils, .int .i64 0, .int .i64 0]⟩, []),
 (⟨none, none, .store (.t 9) (.t 44) 3⟩, [9, 7, 5, 0, 1, 2, 3, 4, 5, 6, 7, 9]),
 (⟨some 10, none, .mv (.t 45)⟩, [8, 10, 0, 1, 2, 3, 4, 5, 6, 7, 8, 9, 10])]
def c6r8 : List AOper :=
 [⟨some 46, none, .mv (.t 10)⟩,
 ⟨some 47, none, .bin .eql (.t 46) (.c (.int .i64 0))⟩]
def c6r9 : List AOper :=
 [⟨some 48, none, .load (.t 9) (some 3)⟩,
 ⟨none, none, .store (.t 7) (.t 48) 3⟩]
def c6r10 : List AOper :=
 [⟨some 28, none, .mv (.t 8)⟩,
 ⟨some 29, none, .bin .add (.t 28) (.c (.int .i64 1))⟩,
 ⟨some 8, none, .mv (.t 29)⟩]
def c6l0 : AC := (.seq (.seq (.region c6r5) (.cond (.t 27) .skip (.exit 0))) (.seq (.block 1 (.seq (.seq (.region c6r6) (.cond (.t 35) (.seq (.region c6r7) .ret) .skip)) (.seq (.drawn c6d0) (.seq (.region c6r8) (.cond (.t 47) (.region c6r9) .skip))))) (.region c6r10)))
def c6r11 : List AOper :=
 [⟨some 49, none, .fldA (.t 7) 0⟩,
 ⟨some 50, none, .load (.t 49) none⟩,
 ⟨some 51, none, .lenL (.t 50)⟩,
 ⟨some 52, none, .bin .eql (.t 51) (.c (.int .i64 0))⟩,
 ⟨some 53, none, .mv (.t 52)⟩,
 ⟨some 54, some (53, false), .fldA (.t 7) 2⟩,
 ⟨some 55, some (53, false), .load (.t 54) none⟩,
 ⟨some 56, some (53, false), .bin .lss (.t 55) (.c (.int .i64 1))⟩,
 ⟨some 57, none, .pick (.t 53) (.c (.bool true)) (.t 56)⟩,
 ⟨some 58, none, .mv (.t 57)⟩,
 ⟨some 59, some (58, false), .fldA (.t 7) 2⟩,
 ⟨some 60, some (58, false), .load (.t 59) none⟩,
 ⟨some 61, some (58, false), .bin .gtr (.t 60) (.c (.int .i64 536870912))⟩,
 ⟨some 62, none, .pick (.t 58) (.c (.bool true)) (.t 61)⟩]
def c6r12 : List AOper :=
 [⟨some 63, none, .call (.c (.fn 10 [])) []⟩,
 ⟨some 6, none, .mv (.t 63)⟩]
def c6r13 : List AOper :=
 [⟨some 64, none, .mv (.t 1)⟩,
 ⟨some 65, none, .bin .and (.t 64) (.c (.int .i64 255))⟩,
 ⟨some 66, none, .fldA (.t 7) 0⟩,
 ⟨some 67, none, .load (.t 66) none⟩,
 ⟨some 68, none, .lenL (.t 67)⟩,
 ⟨some 69, none, .bin .rem (.t 65) (.t 68)⟩,
 ⟨some 11, none, .mv (.t 69)⟩]
def c6r14 : List AOper :=
 [⟨some 70, none, .fldA (.t 7) 0⟩,
 ⟨some 71, none, .load (.t 70) none⟩,
 ⟨some 72, none, .mv (.t 11)⟩,
 ⟨some 73, none, .idxA (.t 71) (.t 72) none 4⟩,
 ⟨some 74, none, .load (.t 73) (some 4)⟩,
 ⟨some 12, none, .alloc [.int .i64 0, .int .i64 0, .str [], .str []]⟩,
 ⟨none, none, .store (.t 12) (.t 74) 4⟩]
def c6r15 : List AOper :=
 [⟨some 75, none, .fldA (.t 7) 2⟩,
 ⟨some 76, none, .load (.t 75) none⟩,
 ⟨some 77, none, .mv (.t 2)⟩,
 ⟨some 78, none, .bin .and (.t 77) (.c (.int .i64 255))⟩,
 ⟨some 79, none, .bin .rem (.t 78) (.c (.int .i64 3))⟩,
 ⟨some 80, none, .fldA (.t 12) 2⟩,
 ⟨some 81, none, .load (.t 80) none⟩,
 ⟨some 82, none, .fldA (.t 12) 3⟩,
 ⟨some 83, none, .load (.t 82) none⟩,
 ⟨some 84, none, .build [.int .i64 0, .int .i64 0, .str [], .str []] [(0, 1, .t 76), (1, 1, .t 79), (2, 1, .t 81), (3, 1, .t 83)]⟩,
 ⟨some 13, none, .alloc [.int .i64 0, .int .i64 0, .str [], .str []]⟩,
 ⟨none, none, .store (.t 13) (.t 84) 4⟩]
def c6r16 : List AOper :=
 [⟨some 86, none, .load (.t 7) (some 3)⟩,
 ⟨some 87, none, .load (.t 13) (some 4)⟩,
 ⟨some 88, none, .bslice 1 4 [.int .i64 0, .int .i64 0, .str [], .str []] [(0, .t 87)]⟩,
 ⟨some 89, none, .fldA (.t 12) 0⟩,
 ⟨some 90, none, .load (.t 89) none⟩,
 ⟨some 91, none, .bslice 1 1 [.int .i64 0] [(0, .t 90)]⟩,
 ⟨some 92, none, .fldA (.t 7) 1⟩,
 ⟨some 93, none, .load (.t 92) none⟩,
 ⟨some 94, none, .fldA (.t 7) 2⟩,
 ⟨some 95, none, .load (.t 94) none⟩,
 ⟨some 96, none, .bin .add (.t 95) (.c (.int .i64 1))⟩,
 ⟨some 97, none, .build [.nils, .nils, .int .i64 0, .int .i64 0] [(0, 1, .t 88), (1, 1, .t 91), (2, 1, .t 93), (3, 1, .t 96)]⟩,
 ⟨some 98, none, .call (.c (.fn 18 [])) [.t 86, .t 97]⟩,
 ⟨some 85, none, .mv (.t 98)⟩,
 ⟨some 99, none, .ext (.t 85) 0⟩,
 ⟨some 100, none, .ext (.t 85) 1⟩,
 ⟨some 14, none, .alloc [.nils, .int .i64 0, .int .i64 0]⟩,
 ⟨none, none, .store (.t 14) (.t 99) 3⟩,
 ⟨some 15, none, .mv (.t 100)⟩]
def c6r17 : List AOper :=
 [⟨some 101, none, .mv (.t 15)⟩,
 ⟨some 102, none, .bin .neq (.t 101) (.c (.int .i64 0))⟩]
def c6r18 : List AOper :=
 [⟨some 103, none, .mv (.t 15)⟩,
 ⟨some 104, none, .bin .eql (.t 103) (.c (.int .i64 120))⟩,
 ⟨some 105, none, .mv (.t 104)⟩,
 ⟨some 106, some (105, true), .fldA (.t 13) 1⟩,
 ⟨some 107, some (105, true), .load (.t 106) none⟩,
 ⟨some 108, some (105, true), .bin .gtr (.t 107) (.c (.int .i64 0))⟩,
 ⟨some 109, none, .pick (.t 105) (.t 108) (.c (.bool false))⟩,
 ⟨some 110, none, .mv (.t 109)⟩,
 ⟨some 111, some (110, true), .load (.t 7) (some 3)⟩,
 ⟨some 112, some (110, true), .fldA (.t 13) 1⟩,
 ⟨some 113, some (110, true), .load (.t 112) none⟩,
 ⟨some 114, some (110, true), .fldA (.t 12) 2⟩,
 ⟨some 115, some (110, true), .load (.t 114) none⟩,
 ⟨some 116, some (110, true), .fldA (.t 12) 3⟩,
 ⟨some 117, some (110, true), .load (.t 116) none⟩,
 ⟨some 118, some (110, true), .call (.c (.fn 22 [])) [.t 111, .t 113, .t 115, .t 117]⟩,
 ⟨some 119, some (110, true), .lenL (.t 118)⟩,
 ⟨some 120, some (110, true), .bin .gtr (.t 119) (.c (.int .i64 0))⟩,
 ⟨some 121, none, .pick (.t 110) (.t 120) (.c (.bool false))⟩,
 ⟨some 122, none, .mv (.t 121)⟩,
 ⟨some 123, some (122, true), .call (.c (.fn 10 [])) []⟩,
 ⟨some 124, none, .pick (.t 122) (.t 123) (.c (.bool false))⟩,
 ⟨some 6, none, .mv (.t 124)⟩]
def c6r19 : List AOper :=
 [⟨some 125, none, .fldA (.t 14) 0⟩,
 ⟨some 126, none, .load (.t 125) none⟩,
 ⟨some 127, none, .lenL (.t 126)⟩,
 ⟨some 128, none, .fldA (.t 7) 0⟩,
 ⟨some 129, none, .load (.t 128) none⟩,
 ⟨some 130, none, .lenL (.t 129)⟩,
 ⟨some 131, none, .bin .neq (.t 127) (.t 130)⟩]
def c6r20 : List AOper :=
 [⟨some 6, none, .mv (.c (.bool false))⟩]
def c6r21 : List AOper :=
 [⟨some 16, none, .mv (.c (.int .i64 0))⟩]
def c6r22 : List AOper :=
 [⟨some 132, none, .mv (.t 16)⟩,
 ⟨some 133, none, .fldA (.t 14) 0⟩,
 ⟨some 134, none, .load (.t 133) none⟩,
 ⟨some 135, none, .lenL (.t 134)⟩,
 ⟨some 136, none, .bin .lss (.t 132) (.t 135)⟩]
def c6d1 : List (AOper × List Nat) :=
 [(⟨some 139, none, .fldA (.t 14) 0⟩, []),
 (⟨some 140, none, .load (.t 139) none⟩, [0]),
 (⟨some 141, none, .mv (.t 16)⟩, []),
 (⟨some 142, none, .idxA (.t 140) (.t 141) none 4⟩, [1, 2]),
 (⟨some 143, none, .load (.t 142) (some 4)⟩, [3]),
 (⟨some 144, none, .load (.t 13) (some 4)⟩, []),
 (⟨some 145, none, .eqG false [1, 1, 2, 2] (.t 143) (.t 144)⟩, [4, 5]),
 (⟨some 17, none, .mv (.t 145)⟩, [6, 0, 1, 2, 3, 4, 5, 6])]
def c6r23 : List AOper :=
 [⟨some 18, none, .mv (.c (.int .i64 0))⟩]
def c6r24 : List AOper :=
 [⟨some 146, none, .mv (.t 18)⟩,
 ⟨some 147, none, .fldA (.t 7) 0⟩,
 ⟨some 148, none, .load (.t 147) none⟩,
 ⟨some 149, none, .lenL (.t 148)⟩,
 ⟨some 150, none, .bin .lss (.t 146) (.t 149)⟩]
def c6d2 : List (AOper × List Nat) :=
 [(⟨some 153, none, .mv (.t 17)⟩, []),
 (⟨some 154, none, .mv (.t 153)⟩, [0]),
 (⟨some 155, some (154, false), .fldA (.t 7) 0⟩, [1]),
 (⟨some 156, some (154, false), .load (.t 155) none⟩, [2, 1]),
 (⟨some 157, some (154, false), .mv (.t 18)⟩, [1]),
 (⟨some 158, some (154, false), .idxA (.t 156) (.t 157) none 4⟩, [3, 4, 1]),
 (⟨some 159, some (154, false), .load (.t 158) (some 4)⟩, [5, 1]),
 (⟨some 160, some (154, false), .fldA (.t 14) 0⟩, [1]),
 (⟨some 161, some (154, false), .load (.t 160) none⟩, [7, 1]),
 (⟨some 162, some (154, false), .mv (.t 16)⟩, [1]),
 (⟨some 163, some (154, false), .idxA (.t 161) (.t 162) none 4⟩, [8, 9, 1]),
 (⟨some 164, some (154, false), .load (.t 163) (some 4)⟩, [10, 1]),
 (⟨some 165, some (154, false), .eqG false [1, 1, 2, 2] (.t 159) (.t 164)⟩, [6, 11, 1]),
 (⟨some 166, some (154, false), .mv (.t 165)⟩, [12, 1, 1]),
 (⟨some 167, some (166, true), .mv (.t 18)⟩, [13]),
 (⟨some 168, some (166, true), .mv (.t 11)⟩, [13]),
 (⟨some 169, some (166, true), .bin .neq (.t 167) (.t 168)⟩, [14, 15, 13]),
 (⟨some 170, some (154, false), .pick (.t 166) (.t 169) (.c (.bool false))⟩, [13, 16, 1]),
 (⟨some 171, none, .pick (.t 154) (.c (.bool true)) (.t 170)⟩, [1, 17]),
 (⟨some 17, none, .mv (.t 171)⟩, [18, 13, 0, 1, 2, 3, 4, 5, 6, 7, 8, 9, 10, 11, 12, 13, 14, 15, 16, 17, 18])]
def c6r25 : List AOper :=
 [⟨some 151, none, .mv (.t 18)⟩,
 ⟨some 152, none, .bin .add (.t 151) (.c (.int .i64 1))⟩,
 ⟨some 18, none, .mv (.t 152)⟩]
def c6l2 : AC := (.seq (.seq (.region c6r24) (.cond (.t 150) .skip (.exit 4))) (.seq (.block 5 (.drawn c6d2)) (.region c6r25)))
def c6r26 : List AOper :=
 [⟨some 172, none, .mv (.t 17)⟩,
 ⟨some 173, none, .un .not (.t 172)⟩]
def c6r27 : List AOper :=
 [⟨some 6, none, .mv (.c (.bool false))⟩]
def c6r28 : List AOper :=
 [⟨some 137, none, .mv (.t 16)⟩,
 ⟨some 138, none, .bin .add (.t 137) (.c (.int .i64 1))⟩,
 ⟨some 16, none, .mv (.t 138)⟩]
def c6l1 : AC := (.seq (.seq (.region c6r22) (.cond (.t 136) .skip (.exit 2))) (.seq (.block 3 (.seq (.drawn c6d1) (.seq (.seq (.region c6r23) (.block 4 (.loop c6l2))) (.seq (.region c6r26) (.cond (.t 173) (.seq (.region c6r27) .ret) .skip))))) (.region c6r28)))
def c6r29 : List AOper :=
 [⟨some 174, none, .call (.c (.fn 10 [])) []⟩,
 ⟨some 6, none, .mv (.t 174)⟩]
def c6 : AC := (.seq (.region c6r0) (.seq (.seq (.region c6r1) (.cond (.t 21) (.seq (.region c6r2) .ret) .skip)) (.seq (.region c6r3) (.seq (.seq (.region c6r4) (.block 0 (.loop c6l0))) (.seq (.seq (.region c6r11) (.cond (.t 62) (.seq (.region c6r12) .ret) .skip)) (.seq (.region c6r13) (.seq (.region c6r14) (.seq (.region c6r15) (.seq (.region c6r16) (.seq (.seq (.region c6r17) (.cond (.t 102) (.seq (.region c6r18) .ret) .skip)) (.seq (.seq (.region c6r19) (.cond (.t 131) (.seq (.region c6r20) .ret) .skip)) (.seq (.seq (.region c6r21) (.block 2 (.loop c6l1))) (.seq (.region c6r29) .ret)))))))))))))
def r6 : List ARes := [.tmp 6]
theorem c6_ok : Try.f6.body.bind (cCode Try.prog Try.f6.ntmps) = some c6 := by kernel_rfl
theorem r6_ok : Try.f6.results.toList.mapM (cRes Try.prog Try.f6.ntmps) = some r6 := by kernel_rfl
def c7r0 : List AOper :=
 [⟨some 4, none, .box (.t 1)⟩,
 ⟨some 6, none, .mv (.c (.bool false))⟩]
def c7r1 : List AOper :=
 [⟨some 22, none, .mv (.t 0)⟩,
 ⟨some 23, none, .lenL (.t 22)⟩,
 ⟨some 24, none, .bin .gtr (.t 23) (.c (.int .i64 10))⟩]
def c7r2 : List AOper :=
 [⟨some 25, none, .call (.c (.fn 10 [])) []⟩,
 ⟨some 6, none, .mv (.t 25)⟩]
def c7r3 : List AOper :=
 [⟨some 26, none, .build [.nils, .int .i64 0, .int .i64 0] []⟩,
 ⟨some 7, none, .alloc [.nils, .int .i64 0, .int .i64 0]⟩,
 ⟨none, none, .store (.t 7) (.t 26) 3⟩]
def c7r4 : List AOper :=
 [⟨some 8, none, .mv (.c (.int .i64 0))⟩]
def c7r5 : List AOper :=
 [⟨some 27, none, .mv (.t 8)⟩,
 ⟨some 28, none, .mv (.t 0)⟩,
 ⟨some 29, none, .lenL (.t 28)⟩,
 ⟨some 30, none, .bin .lss (.t 27) (.t 29)⟩]
def c7r6 : List AOper :=
 [⟨some 33, none, .mv (.t 0)⟩,
 ⟨some 34, none, .mv (.t 8)⟩,
 ⟨some 35, none, .idxA (.t 33) (.t 34) none 4⟩,
 ⟨some 36, none, .load (.t 35) (some 4)⟩,
 ⟨some 37, none, .call (.c (.fn 9 [])) [.t 36]⟩,
 ⟨some 38, none, .un .not (.t 37)⟩]
def c7r7 : List AOper :=
 [⟨some 39, none, .call (.c (.fn 10 [])) []⟩,
 ⟨some 6, none, .mv (.t 39)⟩]
def c7d0 : List (AOper × List Nat) :=
 [(⟨some 41, none, .load (.t 7) (some 3)⟩, []),
 (⟨some 42, none, .mv (.t 0)⟩, []),
 (⟨some 43, none, .mv (.t 8)⟩, []),
 (⟨some 44, none, .idxA (.t 42) (.t 43) none 4⟩, [1, 2]),
 (⟨some 45, none, .load (.t 44) (some 4)⟩, [3]),
 (⟨some 46, none, .call (.c (.fn 18 [])) [.t 41, .t 45]⟩, [0, 4]),
 (⟨some 40, none, .mv (.t 46)⟩, [5]),
 (⟨some 47, none, .ext (.t 40) 0⟩, [6]),
 (⟨some 48, none, .ext (.t 40) 1⟩, [6]),
 (⟨some 9, none, .alloc [.nils, .int .i64 0, .int .i64 0]⟩, []),
 (⟨none, none, .store (.t 9) (.t 47) 3⟩, [9, 7, 5, 0, 1, 2, 3, 4, 5, 6, 7, 9]),
 (⟨some 10, none, .mv (.t 48)⟩, [8, 10, 0, 1, 2, 3, 4, 5, 6, 7, 8, 9, 10])]
def c7r8 : List AOper :=
 [⟨some 49, none, .mv (.t 10)⟩,
 ⟨some 50, none, .bin .eql (.t 49) (.c (.int .i64 0))⟩]
def c7r9 : List AOper :=
 [⟨some 51, none, .load (.t 9) (some 3)⟩,
 ⟨none, none, .store (.t 7) (.t 51) 3⟩]
def c7r10 : List AOper :=
 [⟨some 31, none, .mv (.t 8)⟩,
 ⟨some 32, none, .bin .add (.t 31) (.c (.int .i64 1))⟩,
 ⟨some 8, none, .mv (.t 32)⟩]
def c7l0 : AC := (.seq (.seq (.region c7r5) (.cond (.t 30) .skip (.exit 0))) (.seq (.block 1 (.seq (.seq (.region c7r6) (.cond (.t 38) (.seq (.region c7r7) .ret) .skip)) (.seq (.drawn c7d0) (.seq (.region c7r8) (.cond (.t 50) (.region c7r9) .skip))))) (.region c7r10)))
def c7d1 : List (AOper × List Nat) :=
 [(⟨some 52, none, .idxA (.t 4) (.c (.int .i64 0)) (some 3) 1⟩, []),
 (⟨some 53, none, .load (.t 52) none⟩, [0]),
 (⟨some 54, none, .idxA (.t 4) (.c (.int .i64 1)) (some 3) 1⟩, []),
 (⟨some 55, none, .load (.t 54) none⟩, [2]),
 (⟨some 56, none, .idxA (.t 4) (.c (.int .i64 2)) (some 3) 1⟩, []),
 (⟨some 57, none, .load (.t 56) none⟩, [4]),
 (⟨some 11, none, .mv (.t 53)⟩, [1, 0, 1]),
 (⟨some 12, none, .mv (.t 55)⟩, [3, 6, 0, 1, 2, 3, 6]),
 (⟨some 13, none, .mv (.t 57)⟩, [5, 7, 0, 1, 2, 3, 4, 5, 6, 7])]
def c7r11 : List AOper :=
 [⟨some 58, none, .mv (.t 11)⟩,
 ⟨some 59, none, .lenS (.t 58)⟩,
 ⟨some 60, none, .bin .gtr (.t 59) (.c (.int .i64 100))⟩,
 ⟨some 61, none, .mv (.t 60)⟩,
 ⟨some 62, some (61, false), .mv (.t 12)⟩,
 ⟨some 63, some (61, false), .lenS (.t 62)⟩,
 ⟨some 64, some (61, false), .bin .gtr (.t 63) (.c (.int .i64 100))⟩,
 ⟨some 65, none, .pick (.t 61) (.c (.bool true)) (.t 64)⟩,
 ⟨some 66, none, .mv (.t 65)⟩,
 ⟨some 67, some (66, false), .mv (.t 13)⟩,
 ⟨some 68, some (66, false), .lenS (.t 67)⟩,
 ⟨some 69, some (66, false), .bin .gtr (.t 68) (.c (.int .i64 100))⟩,
 ⟨some 70, none, .pick (.t 66) (.c (.bool true)) (.t 69)⟩,
 ⟨some 71, none, .mv (.t 70)⟩,
 ⟨some 72, some (71, false), .mv (.t 11)⟩,
 ⟨some 73, some (71, false), .mv (.t 12)⟩,
 ⟨some 74, some (71, false), .bin .gtr (.t 72) (.t 73)⟩,
 ⟨some 75, none, .pick (.t 71) (.c (.bool true)) (.t 74)⟩,
 ⟨some 76, none, .mv (.t 75)⟩,
 ⟨some 77, some (76, false), .mv (.t 12)⟩,
 ⟨some 78, some (76, false), .mv (.t 13)⟩,
 ⟨some 79, some (76, false), .bin .gtr (.t 77) (.t 78)⟩,
 ⟨some 80, none, .pick (.t 76) (.c (.bool true)) (.t 79)⟩]
def c7r12 : List AOper :=
 [⟨some 81, none, .call (.c (.fn 10 [])) []⟩,
 ⟨some 6, none, .mv (.t 81)⟩]
def c7r13 : List AOper :=
 [⟨some 82, none, .mv (.t 2)⟩,
 ⟨some 83, none, .bin .and (.t 82) (.c (.int .i64 255))⟩,
 ⟨some 84, none, .bin .rem (.t 83) (.c (.int .i64 3))⟩,
 ⟨some 14, none, .mv (.t 84)⟩]
def c7d2 : List (AOper × List Nat) :=
 [(⟨some 85, none, .load (.t 7) (some 3)⟩, []),
 (⟨some 86, none, .mv (.t 14)⟩, []),
 (⟨some 87, none, .mv (.t 11)⟩, []),
 (⟨some 88, none, .mv (.t 12)⟩, []),
 (⟨some 89, none, .call (.c (.fn 22 [])) [.t 85, .t 86, .t 87, .t 88]⟩, [0, 1, 2, 3]),
 (⟨some 90, none, .load (.t 7) (some 3)⟩, []),
 (⟨some 91, none, .mv (.t 14)⟩, []),
 (⟨some 92, none, .mv (.t 12)⟩, []),
 (⟨some 93, none, .mv (.t 13)⟩, []),
 (⟨some 94, none, .call (.c (.fn 22 [])) [.t 90, .t 91, .t 92, .t 93]⟩, [5, 6, 7, 8, 4]),
 (⟨some 95, none, .load (.t 7) (some 3)⟩, []),
 (⟨some 96, none, .mv (.t 14)⟩, []),
 (⟨some 97, none, .mv (.t 11)⟩, []),
 (⟨some 98, none, .mv (.t 13)⟩, []),
 (⟨some 99, none, .call (.c (.fn 22 [])) [.t 95, .t 96, .t 97, .t 98]⟩, [10, 11, 12, 13, 9]),
 (⟨some 15, none, .mv (.t 89)⟩, [4, 14, 0, 1, 2, 3, 4]),
 (⟨some 16, none, .mv (.t 94)⟩, [9, 15, 0, 1, 2, 3, 4, 5, 6, 7, 8, 9, 15]),
 (⟨some 17, none, .mv (.t 99)⟩, [14, 16, 0, 1, 2, 3, 4, 5, 6, 7, 8, 9, 10, 11, 12, 13, 14, 15, 16])]
def c7r14 : List AOper :=
 [⟨some 18, none, .mv (.c (.int .i64 0))⟩]
def c7r15 : List AOper :=
 [⟨some 100, none, .mv (.t 18)⟩,
 ⟨some 101, none, .mv (.t 17)⟩,
 ⟨some 102, none, .lenL (.t 101)⟩,
 ⟨some 103, none, .bin .lss (.t 100) (.t 102)⟩]
def c7r16 : List AOper :=
 [⟨some 19, none, .mv (.c (.bool false))⟩]
def c7r17 : List AOper :=
 [⟨some 20, none, .mv (.c (.int .i64 0))⟩]
def c7r18 : List AOper :=
 [⟨some 106, none, .mv (.t 20)⟩,
 ⟨some 107, none, .mv (.t 15)⟩,
 ⟨some 108, none, .lenL (.t 107)⟩,
 ⟨some 109, none, .bin .lss (.t 106) (.t 108)⟩]
def c7d3 : List (AOper × List Nat) :=
 [(⟨some 112, none, .mv (.t 19)⟩, []),
 (⟨some 113, none, .mv (.t 112)⟩, [0]),
 (⟨some 114, some (113, false), .mv (.t 15)⟩, [1]),
 (⟨some 115, some (113, false), .mv (.t 20)⟩, [1]),
 (⟨some 116, some (113, false), .idxA (.t 114) (.t 115) none 4⟩, [2, 3, 1]),
 (⟨some 117, some (113, false), .load (.t 116) (some 4)⟩, [4, 1]),
 (⟨some 118, some (113, false), .mv (.t 17)⟩, [1]),
 (⟨some 119, some (113, false), .mv (.t 18)⟩, [1]),
 (⟨some 120, some (113, false), .idxA (.t 118) (.t 119) none 4⟩, [6, 7, 1]),
 (⟨some 121, some (113, false), .load (.t 120) (some 4)⟩, [8, 1]),
 (⟨some 122, some (113, false), .eqG false [1, 1, 2, 2] (.t 117) (.t 121)⟩, [5, 9, 1]),
 (⟨some 123, none, .pick (.t 113) (.c (.bool true)) (.t 122)⟩, [1, 10]),
 (⟨some 19, none, .mv (.t 123)⟩, [11, 1, 0, 1, 2, 3, 4, 5, 6, 7, 8, 9, 10, 11])]
def c7r19 : List AOper :=
 [⟨some 110, none, .mv (.t 20)⟩,
 ⟨some 111, none, .bin .add (.t 110) (.c (.int .i64 1))⟩,
 ⟨some 20, none, .mv (.t 111)⟩]
def c7l2 : AC := (.seq (.seq (.region c7r18) (.cond (.t 109) .skip (.exit 4))) (.seq (.block 5 (.drawn c7d3)) (.region c7r19)))
def c7r20 : List AOper :=
 [⟨some 21, none, .mv (.c (.int .i64 0))⟩]
def c7r21 : List AOper :=
 [⟨some 124, none, .mv (.t 21)⟩,
 ⟨some 125, none, .mv (.t 16)⟩,
 ⟨some 126, none, .lenL (.t 125)⟩,
 ⟨some 127, none, .bin .lss (.t 124) (.t 126)⟩]
def c7d4 : List (AOper × List Nat) :=
 [(⟨some 130, none, .mv (.t 19)⟩, []),
 (⟨some 131, none, .mv (.t 130)⟩, [0]),
 (⟨some 132, some (131, false), .mv (.t 16)⟩, [1]),
 (⟨some 133, some (131, false), .mv (.t 21)⟩, [1]),
 (⟨some 134, some (131, false), .idxA (.t 132) (.t 133) none 4⟩, [2, 3, 1]),
 (⟨some 135, some (131, false), .load (.t 134) (some 4)⟩, [4, 1]),
 (⟨some 136, some (131, false), .mv (.t 17)⟩, [1]),
 (⟨some 137, some (131, false), .mv (.t 18)⟩, [1]),
 (⟨some 138, some (131, false), .idxA (.t 136) (.t 137) none 4⟩, [6, 7, 1]),
 (⟨some 139, some (131, false), .load (.t 138) (some 4)⟩, [8, 1]),
 (⟨some 140, some (131, false), .eqG false [1, 1, 2, 2] (.t 135) (.t 139)⟩, [5, 9, 1]),
 (⟨some 141, none, .pick (.t 131) (.c (.bool true)) (.t 140)⟩, [1, 10]),
 (⟨some 19, none, .mv (.t 141)⟩, [11, 1, 0, 1, 2, 3, 4, 5, 6, 7, 8, 9, 10, 11])]
def c7r22 : List AOper :=
 [⟨some 128, none, .mv (.t 21)⟩,
 ⟨some 129, none, .bin .add (.t 128) (.c (.int .i64 1))⟩,
 ⟨some 21, none, .mv (.t 129)⟩]
def c7l3 : AC := (.seq (.seq (.region c7r21) (.cond (.t 127) .skip (.exit 6))) (.seq (.block 7 (.drawn c7d4)) (.region c7r22)))
def c7r23 : List AOper :=
 [⟨some 142, none, .mv (.t 19)⟩,
 ⟨some 143, none, .un .not (.t 142)⟩,
 ⟨some 144, none, .mv (.t 143)⟩,
 ⟨some 145, some (144, false), .mv (.t 17)⟩,
 ⟨some 146, some (144, false), .mv (.t 18)⟩,
 ⟨some 147, some (144, false), .idxA (.t 145) (.t 146) none 4⟩,
 ⟨some 148, some (144, false), .fldA (.t 147) 1⟩,
 ⟨some 149, some (144, false), .load (.t 148) none⟩,
 ⟨some 150, some (144, false), .mv (.t 14)⟩,
 ⟨some 151, some (144, false), .bin .neq (.t 149) (.t 150)⟩,
 ⟨some 152, none, .pick (.t 144) (.c (.bool true)) (.t 151)⟩,
 ⟨some 153, none, .mv (.t 152)⟩,
 ⟨some 154, some (153, false), .mv (.t 17)⟩,
 ⟨some 155, some (153, false), .mv (.t 18)⟩,
 ⟨some 156, some (153, false), .idxA (.t 154) (.t 155) none 4⟩,
 ⟨some 157, some (153, false), .fldA (.t 156) 3⟩,
 ⟨some 158, some (153, false), .load (.t 157) none⟩,
 ⟨some 159, some (153, false), .mv (.t 11)⟩,
 ⟨some 160, some (153, false), .bin .lss (.t 158) (.t 159)⟩,
 ⟨some 161, none, .pick (.t 153) (.c (.bool true)) (.t 160)⟩,
 ⟨some 162, none, .mv (.t 161)⟩,
 ⟨some 163, some (162, false), .mv (.t 17)⟩,
 ⟨some 164, some (162, false), .mv (.t 18)⟩,
 ⟨some 165, some (162, false), .idxA (.t 163) (.t 164) none 4⟩,
 ⟨some 166, some (162, false), .fldA (.t 165) 2⟩,
 ⟨some 167, some (162, false), .load (.t 166) none⟩,
 ⟨some 168, some (162, false), .mv (.t 13)⟩,
 ⟨some 169, some (162, false), .bin .gtr (.t 167) (.t 168)⟩,
 ⟨some 170, none, .pick (.t 162) (.c (.bool true)) (.t 169)⟩]
def c7r24 : List AOper :=
 [⟨some 6, none, .mv (.c (.bool false))⟩]
def c7r25 : List AOper :=
 [⟨some 104, none, .mv (.t 18)⟩,
 ⟨some 105, none, .bin .add (.t 104) (.c (.int .i64 1))⟩,
 ⟨some 18, none, .mv (.t 105)⟩]
def c7l1 : AC := (.seq (.seq (.region c7r15) (.cond (.t 103) .skip (.exit 2))) (.seq (.block 3 (.seq (.region c7r16) (.seq (.seq (.region c7r17) (.block 4 (.loop c7l2))) (.seq (.seq (.region c7r20) (.block 6 (.loop c7l3))) (.seq (.region c7r23) (.cond (.t 170) (.seq (.region c7r24) .ret) .skip)))))) (.region c7r25)))
def c7r26 : List AOper :=
 [⟨some 171, none, .mv (.t 17)⟩,
 ⟨some 172, none, .lenL (.t 171)⟩,
 ⟨some 173, none, .mv (.t 15)⟩,
 ⟨some 174, none, .lenL (.t 173)⟩,
 ⟨some 175, none, .mv (.t 16)⟩,
 ⟨some 176, none, .lenL (.t 175)⟩,
 ⟨some 177, none, .mm true [.t 174, .t 176]⟩,
 ⟨some 178, none, .bin .geq (.t 172) (.t 177)⟩,
 ⟨some 179, none, .mv (.t 178)⟩,
 ⟨some 180, some (179, true), .mv (.t 17)⟩,
 ⟨some 181, some (179, true), .lenL (.t 180)⟩,
 ⟨some 182, some (179, true), .mv (.t 15)⟩,
 ⟨some 183, some (179, true), .lenL (.t 182)⟩,
 ⟨some 184, some (179, true), .mv (.t 16)⟩,
 ⟨some 185, some (179, true), .lenL (.t 184)⟩,
 ⟨some 186, some (179, true), .bin .add (.t 183) (.t 185)⟩,
 ⟨some 187, some (179, true), .bin .leq (.t 181) (.t 186)⟩,
 ⟨some 188, none, .pick (.t 179) (.t 187) (.c (.bool false))⟩,
 ⟨some 189, none, .mv (.t 188)⟩,
 ⟨some 190, some (189, true), .call (.c (.fn 10 [])) []⟩,
 ⟨some 191, none, .pick (.t 189) (.t 190) (.c (.bool false))⟩,
 ⟨some 6, none, .mv (.t 191)⟩]
def c7 : AC := (.seq (.region c7r0) (.seq (.seq (.region c7r1) (.cond (.t 24) (.seq (.region c7r2) .ret) .skip)) (.seq (.region c7r3) (.seq (.seq (.region c7r4) (.block 0 (.loop c7l0))) (.seq (.drawn c7d1) (.seq (.seq (.region c7r11) (.cond (.t 80) (.seq (.region c7r12) .ret) .skip)) (.seq (.region c7r13) (.seq (.drawn c7d2) (.seq (.seq (.region c7r14) (.block 2 (.loop c7l1))) (.seq (.region c7r26) .ret))))))))))
def r7 : List ARes := [.tmp 6]
theorem c7_ok : Try.f7.body.bind (cCode Try.prog Try.f7.ntmps) = some c7 := by kernel_rfl
theorem r7_ok : Try.f7.results.toList.mapM (cRes Try.prog Try.f7.ntmps) = some r7 := by kernel_rfl
def c8r0 : List AOper :=
 [⟨some 4, none, .mv (.c (.bool false))⟩]
def c8r1 : List AOper :=
 [⟨some 18, none, .mv (.t 0)⟩,
 ⟨some 19, none, .lenL (.t 18)⟩,
 ⟨some 20, none, .bin .gtr (.t 19) (.c (.int .i64 20))⟩,
 ⟨some 21, none, .mv (.t 20)⟩,
 ⟨some 22, some (21, false), .mv (.t 1)⟩,
 ⟨some 23, some (21, false), .lenL (.t 22)⟩,
 ⟨some 24, some (21, false), .bin .gtr (.t 23) (.c (.int .i64 20))⟩,
 ⟨some 25, none, .pick (.t 21) (.c (.bool true)) (.t 24)⟩]
def c8r2 : List AOper :=
 [⟨some 26, none, .call (.c (.fn 10 [])) []⟩,
 ⟨some 4, none, .mv (.t 26)⟩]
def c8r3 : List AOper :=
 [⟨some 5, none, .mv (.c .nils)⟩]
def c8r4 : List AOper :=
 [⟨some 6, none, .mv (.c (.int .i64 0))⟩]
def c8r5 : List AOper :=
 [⟨some 27, none, .mv (.t 6)⟩,
 ⟨some 28, none, .mv (.t 1)⟩,
 ⟨some 29, none, .lenL (.t 28)⟩,
 ⟨some 30, none, .bin .lss (.t 27) (.t 29)⟩]
def c8r6 : List AOper :=
 [⟨some 33, none, .mv (.t 1)⟩,
 ⟨some 34, none, .mv (.t 6)⟩,
 ⟨some 35, none, .idxA (.t 33) (.t 34) none 4⟩,
 ⟨some 36, none, .load (.t 35) (some 4)⟩,
 ⟨some 37, none, .call (.c (.fn 9 [])) [.t 36]⟩,
 ⟨some 38, none, .un .not (.t 37)⟩]
def c8r7 : List AOper :=
 [⟨some 39, none, .call (.c (.fn 10 [])) []⟩,
 ⟨some 4, none, .mv (.t 39)⟩]
def c8r8 : List AOper :=
 [⟨some 41, none, .mv (.t 1)⟩,
 ⟨some 42, none, .mv (.t 6)⟩,
 ⟨some 43, none, .idxA (.t 41) (.t 42) none 4⟩,
 ⟨some 44, none, .load (.t 43) (some 4)⟩,
 ⟨some 45, none, .call (.c (.fn 12 [])) [.t 44]⟩,
 ⟨some 40, none, .mv (.t 45)⟩,
 ⟨some 46, none, .ext (.t 40) 0⟩,
 ⟨some 47, none, .ext (.t 40) 1⟩,
 ⟨some 7, none, .mv (.t 46)⟩,
 ⟨some 8, none, .mv (.t 47)⟩]
def c8r9 : List AOper :=
 [⟨some 48, none, .mv (.t 8)⟩,
 ⟨some 49, none, .bin .eql (.t 48) (.c (.int .i64 0))⟩]
def c8r10 : List AOper :=
 [⟨some 50, none, .mv (.t 5)⟩,
 ⟨some 51, none, .mv (.t 7)⟩,
 ⟨some 52, none, .bslice 1 1 [.str []] [(0, .t 51)]⟩,
 ⟨some 53, none, .append (.t 50) (.t 52) 1 16 false⟩,
 ⟨some 5, none, .mv (.t 53)⟩]
def c8r11 : List AOper :=
 [⟨some 31, none, .mv (.t 6)⟩,
 ⟨some 32, none, .bin .add (.t 31) (.c (.int .i64 1))⟩,
 ⟨some 6, none, .mv (.t 32)⟩]
def c8l0 : AC := (.seq (.seq (.region c8r5) (.cond (.t 30) .skip (.exit 0))) (.seq (.block 1 (.seq (.seq (.region c8r6) (.cond (.t 38) (.seq (.region c8r7) .ret) .skip)) (.seq (.region c8r8) (.seq (.region c8r9) (.cond (.t 49) (.region c8r10) .skip))))) (.region c8r11)))
def c8r12 : List AOper :=
 [⟨some 9, none, .mv (.c (.int .i64 0))⟩]
def c8r13 : List AOper :=
 [⟨some 54, none, .mv (.t 9)⟩,
 ⟨some 55, none, .mv (.t 0)⟩,
 ⟨some 56, none, .lenL (.t 55)⟩,
 ⟨some 57, none, .bin .lss (.t 54) (.t 56)⟩]
def c8r14 : List AOper :=
 [⟨some 60, none, .mv (.t 0)⟩,
 ⟨some 61, none, .mv (.t 9)⟩,
 ⟨some 62, none, .idxA (.t 60) (.t 61) none 1⟩,
 ⟨some 63, none, .load (.t 62) none⟩,
 ⟨some 64, none, .lenS (.t 63)⟩,
 ⟨some 65, none, .bin .gtr (.t 64) (.c (.int .i64 1024))⟩]
def c8r15 : List AOper :=
 [⟨some 66, none, .call (.c (.fn 10 [])) []⟩,
 ⟨some 4, none, .mv (.t 66)⟩]
def c8r16 : List AOper :=
 [⟨some 58, none, .mv (.t 9)⟩,
 ⟨some 59, none, .bin .add (.t 58) (.c (.int .i64 1))⟩,
 ⟨some 9, none, .mv (.t 59)⟩]
def c8l1 : AC := (.seq (.seq (.region c8r13) (.cond (.t 57) .skip (.exit 2))) (.seq (.block 3 (.seq (.region c8r14) (.cond (.t 65) (.seq (.region c8r15) .ret) .skip))) (.region c8r16)))
def c8r17 : List AOper :=
 [⟨some 68, none, .mv (.t 0)⟩,
 ⟨some 69, none, .call (.c (.fn 24 [])) [.t 68]⟩,
 ⟨some 67, none, .mv (.t 69)⟩,
 ⟨some 70, none, .ext (.t 67) 0⟩,
 ⟨some 71, none, .ext (.t 67) 1⟩,
 ⟨some 10, none, .alloc [.nils, .int .i64 0, .int .i64 0]⟩,
 ⟨none, none, .store (.t 10) (.t 70) 3⟩,
 ⟨some 11, none, .mv (.t 71)⟩]
def c8r18 : List AOper :=
 [⟨some 73, none, .mv (.t 0)⟩,
 ⟨some 74, none, .call (.c (.fn 25 [])) [.t 73]⟩,
 ⟨some 72, none, .mv (.t 74)⟩,
 ⟨some 75, none, .ext (.t 72) 0⟩,
 ⟨some 76, none, .ext (.t 72) 1⟩,
 ⟨some 12, none, .alloc [.nils, .int .i64 0, .int .i64 0]⟩,
 ⟨none, none, .store (.t 12) (.t 75) 3⟩,
 ⟨some 13, none, .mv (.t 76)⟩]
def c8r19 : List AOper :=
 [⟨some 78, none, .mv (.t 5)⟩,
 ⟨some 79, none, .call (.c (.fn 24 [])) [.t 78]⟩,
 ⟨some 77, none, .mv (.t 79)⟩,
 ⟨some 80, none, .ext (.t 77) 0⟩,
 ⟨some 81, none, .ext (.t 77) 1⟩,
 ⟨some 14, none, .alloc [.nils, .int .i64 0, .int .i64 0]⟩,
 ⟨none, none, .store (.t 14) (.t 80) 3⟩,
 ⟨some 15, none, .mv (.t 81)⟩]
def c8r20 : List AOper :=
 [⟨some 83, none, .mv (.t 5)⟩,
 ⟨some 84, none, .call (.c (.fn 25 [])) [.t 83]⟩,
 ⟨some 82, none, .mv (.t 84)⟩,
 ⟨some 85, none, .ext (.t 82) 0⟩,
 ⟨some 86, none, .ext (.t 82) 1⟩,
 ⟨some 16, none, .alloc [.nils, .int .i64 0, .int .i64 0]⟩,
 ⟨none, none, .store (.t 16) (.t 85) 3⟩,
 ⟨some 17, none, .mv (.t 86)⟩]
def c8r21 : List AOper :=
 [⟨some 87, none, .load (.t 10) (some 3)⟩,
 ⟨some 88, none, .load (.t 12) (some 3)⟩,
 ⟨some 89, none, .call (.c (.fn 20 [])) [.t 87, .t 88]⟩,
 ⟨some 90, none, .mv (.t 89)⟩,
 ⟨some 91, some (90, true), .mv (.t 11)⟩,
 ⟨some 92, some (90, true), .mv (.t 13)⟩,
 ⟨some 93, some (90, true), .bin .eql (.t 91) (.t 92)⟩,
 ⟨some 94, none, .pick (.t 90) (.t 93) (.c (.bool false))⟩,
 ⟨some 95, none, .mv (.t 94)⟩,
 ⟨some 96, some (95, true), .load (.t 14) (some 3)⟩,
 ⟨some 97, some (95, true), .load (.t 16) (some 3)⟩,
 ⟨some 98, some (95, true), .call (.c (.fn 20 [])) [.t 96, .t 97]⟩,
 ⟨some 99, none, .pick (.t 95) (.t 98) (.c (.bool false))⟩,
 ⟨some 100, none, .mv (.t 99)⟩,
 ⟨some 101, some (100, true), .mv (.t 15)⟩,
 ⟨some 102, some (100, true), .mv (.t 17)⟩,
 ⟨some 103, some (100, true), .bin .eql (.t 101) (.t 102)⟩,
 ⟨some 104, none, .pick (.t 100) (.t 103) (.c (.bool false))⟩,
 ⟨some 105, none, .mv (.t 104)⟩,
 ⟨some 106, some (105, true), .call (.c (.fn 10 [])) []⟩,
 ⟨some 107, none, .pick (.t 105) (.t 106) (.c (.bool false))⟩,
 ⟨some 4, none, .mv (.t 107)⟩]
def c8 : AC := (.seq (.region c8r0) (.seq (.seq (.region c8r1) (.cond (.t 25) (.seq (.region c8r2) .ret) .skip)) (.seq (.region c8r3) (.seq (.seq (.region c8r4) (.block 0 (.loop c8l0))) (.seq (.seq (.region c8r12) (.block 2 (.loop c8l1))) (.seq (.region c8r17) (.seq (.region c8r18) (.seq (.region c8r19) (.seq (.region c8r20) (.seq (.region c8r21) .ret))))))))))
def r8 : List ARes := [.tmp 4]
theorem c8_ok : Try.f8.body.bind (cCode Try.prog Try.f8.ntmps) = some c8 := by kernel_rfl
theorem r8_ok : Try.f8.results.toList.mapM (cRes Try.prog Try.f8.ntmps) = some r8 := by kernel_rfl
def c9r0 : List AOper :=
 [⟨some 1, none, .box (.t 0)⟩,
 ⟨some 2, none, .mv (.c (.bool false))⟩]
def c9r1 : List AOper :=
 [⟨some 3, none, .mv (.c (.int .i64 0))⟩]
def c9r2 : List AOper :=
 [⟨some 4, none, .mv (.t 3)⟩,
 ⟨some 5, none, .fldA (.t 1) 0⟩,
 ⟨some 6, none, .load (.t 5) none⟩,
 ⟨some 7, none, .lenL (.t 6)⟩,
 ⟨some 8, none, .bin .lss (.t 4) (.t 7)⟩,
 ⟨some 9, none, .mv (.t 8)⟩,
 ⟨some 10, some (9, true), .mv (.t 3)⟩,
 ⟨some 11, some (9, true), .bin .lss (.t 10) (.c (.int .i64 140))⟩,
 ⟨some 12, none, .pick (.t 9) (.t 11) (.c (.bool false))⟩]
def c9r3 : List AOper :=
 [⟨some 15, none, .fldA (.t 1) 0⟩,
 ⟨some 16, none, .load (.t 15) none⟩,
 ⟨some 17, none, .mv (.t 3)⟩,
 ⟨some 18, none, .idxA (.t 16) (.t 17) none 4⟩,
 ⟨some 19, none, .fldA (.t 18) 2⟩,
 ⟨some 20, none, .load (.t 19) none⟩,
 ⟨some 21, none, .lenS (.t 20)⟩,
 ⟨some 22, none, .bin .gtr (.t 21) (.c (.int .i64 100))⟩,
 ⟨some 23, none, .mv (.t 22)⟩,
 ⟨some 24, some (23, false), .fldA (.t 1) 0⟩,
 ⟨some 25, some (23, false), .load (.t 24) none⟩,
 ⟨some 26, some (23, false), .mv (.t 3)⟩,
 ⟨some 27, some (23, false), .idxA (.t 25) (.t 26) none 4⟩,
 ⟨some 28, some (23, false), .fldA (.t 27) 3⟩,
 ⟨some 29, some (23, false), .load (.t 28) none⟩,
 ⟨some 30, some (23, false), .lenS (.t 29)⟩,
 ⟨some 31, some (23, false), .bin .gtr (.t 30) (.c (.int .i64 100))⟩,
 ⟨some 32, none, .pick (.t 23) (.c (.bool true)) (.t 31)⟩]
def c9r4 : List AOper :=
 [⟨some 2, none, .mv (.c (.bool false))⟩]
def c9r5 : List AOper :=
 [⟨some 13, none, .mv (.t 3)⟩,
 ⟨some 14, none, .bin .add (.t 13) (.c (.int .i64 1))⟩,
 ⟨some 3, none, .mv (.t 14)⟩]
def c9l0 : AC := (.seq (.seq (.region c9r2) (.cond (.t 12) .skip (.exit 0))) (.seq (.block 1 (.seq (.region c9r3) (.cond (.t 32) (.seq (.region c9r4) .ret) .skip))) (.region c9r5)))
def c9r6 : List AOper :=
 [⟨some 33, none, .fldA (.t 1) 0⟩,
 ⟨some 34, none, .load (.t 33) none⟩,
 ⟨some 35, none, .lenL (.t 34)⟩,
 ⟨some 36, none, .bin .leq (.t 35) (.c (.int .i64 140))⟩,
 ⟨some 37, none, .mv (.t 36)⟩,
 ⟨some 38, some (37, true), .fldA (.t 1) 1⟩,
 ⟨some 39, some (37, true), .load (.t 38) none⟩,
 ⟨some 40, some (37, true), .lenL (.t 39)⟩,
 ⟨some 41, some (37, true), .bin .leq (.t 40) (.c (.int .i64 140))⟩,
 ⟨some 42, none, .pick (.t 37) (.t 41) (.c (.bool false))⟩,
 ⟨some 2, none, .mv (.t 42)⟩]
def c9 : AC := (.seq (.region c9r0) (.seq (.seq (.region c9r1) (.block 0 (.loop c9l0))) (.seq (.region c9r6) .ret)))
def r9 : List ARes := [.tmp 2]
theorem c9_ok : Try.f9.body.bind (cCode Try.prog Try.f9.ntmps) = some c9 := by kernel_rfl
theorem r9_ok : Try.f9.results.toList.mapM (cRes Try.prog Try.f9.ntmps) = some r9 := by kernel_rfl
def c10r0 : List AOper :=
 [⟨some 0, none, .mv (.c (.bool false))⟩]
def c10r1 : List AOper :=
 [⟨some 8, none, .build [.int .i64 0, .int .i64 0, .str [], .str []] [(0, 1, .c (.int .i64 1)), (2, 1, .c (.str [97])), (3, 1, .c (.str [99]))]⟩,
 ⟨some 9, none, .bslice 1 4 [.int .i64 0, .int .i64 0, .str [], .str []] [(0, .t 8)]⟩,
 ⟨some 10, none, .build [.nils, .nils, .int .i64 0, .int .i64 0] [(0, 1, .t 9), (2, 1, .c (.int .i64 2)), (3, 1, .c (.int .i64 3))]⟩,
 ⟨some 1, none, .alloc [.nils, .nils, .int .i64 0, .int .i64 0]⟩,
 ⟨none, none, .store (.t 1) (.t 10) 4⟩]
def c10r2 : List AOper :=
 [⟨some 12, none, .load (.t 1) (some 4)⟩,
 ⟨some 13, none, .call (.c (.fn 11 [])) [.t 12]⟩,
 ⟨some 11, none, .mv (.t 13)⟩,
 ⟨some 14, none, .ext (.t 11) 0⟩,
 ⟨some 15, none, .ext (.t 11) 1⟩,
 ⟨some 2, none, .mv (.t 14)⟩,
 ⟨some 3, none, .mv (.t 15)⟩]
def c10r3 : List AOper :=
 [⟨some 17, none, .mv (.t 2)⟩,
 ⟨some 18, none, .call (.c (.fn 13 [])) [.t 17]⟩,
 ⟨some 16, none, .mv (.t 18)⟩,
 ⟨some 19, none, .ext (.t 16) 0⟩,
 ⟨some 20, none, .ext (.t 16) 1⟩,
 ⟨some 4, none, .alloc [.nils, .nils, .int .i64 0, .int .i64 0]⟩,
 ⟨none, none, .store (.t 4) (.t 19) 4⟩,
 ⟨some 5, none, .mv (.t 20)⟩]
def c10r4 : List AOper :=
 [⟨some 22, none, .build [.nils, .int .i64 0, .int .i64 0] []⟩,
 ⟨some 23, none, .load (.t 1) (some 4)⟩,
 ⟨some 24, none, .call (.c (.fn 18 [])) [.t 22, .t 23]⟩,
 ⟨some 21, none, .mv (.t 24)⟩,
 ⟨some 25, none, .ext (.t 21) 0⟩,
 ⟨some 26, none, .ext (.t 21) 1⟩,
 ⟨some 6, none, .alloc [.nils, .int .i64 0, .int .i64 0]⟩,
 ⟨none, none, .store (.t 6) (.t 25) 3⟩,
 ⟨some 7, none, .mv (.t 26)⟩]
def c10r5 : List AOper :=
 [⟨some 27, none, .mv (.t 3)⟩,
 ⟨some 28, none, .bin .eql (.t 27) (.c (.int .i64 0))⟩,
 ⟨some 29, none, .mv (.t 28)⟩,
 ⟨some 30, some (29, true), .mv (.t 2)⟩,
 ⟨some 31, some (29, true), .lenS (.t 30)⟩,
 ⟨some 32, some (29, true), .bin .eql (.t 31) (.c (.int .i64 10))⟩,
 ⟨some 33, none, .pick (.t 29) (.t 32) (.c (.bool false))⟩,
 ⟨some 34, none, .mv (.t 33)⟩,
 ⟨some 35, some (34, true), .load (.t 4) (some 4)⟩,
 ⟨some 36, some (34, true), .load (.t 1) (some 4)⟩,
 ⟨some 37, some (34, true), .call (.c (.fn 15 [])) [.t 35, .t 36]⟩,
 ⟨some 38, none, .pick (.t 34) (.t 37) (.c (.bool false))⟩,
 ⟨some 39, none, .mv (.t 38)⟩,
 ⟨some 40, some (39, true), .mv (.t 5)⟩,
 ⟨some 41, some (39, true), .bin .eql (.t 40) (.c (.int .i64 0))⟩,
 ⟨some 42, none, .pick (.t 39) (.t 41) (.c (.bool false))⟩,
 ⟨some 43, none, .mv (.t 42)⟩,
 ⟨some 44, some (43, true), .mv (.t 7)⟩,
 ⟨some 45, some (43, true), .bin .eql (.t 44) (.c (.int .i64 0))⟩,
 ⟨some 46, none, .pick (.t 43) (.t 45) (.c (.bool false))⟩,
 ⟨some 47, none, .mv (.t 46)⟩,
 ⟨some 48, some (47, true), .fldA (.t 6) 0⟩,
 ⟨some 49, some (47, true), .load (.t 48) none⟩,
 ⟨some 50, some (47, true), .lenL (.t 49)⟩,
 ⟨some 51, some (47, true), .bin .eql (.t 50) (.c (.int .i64 1))⟩,
 ⟨some 52, none, .pick (.t 47) (.t 51) (.c (.bool false))⟩,
 ⟨some 53, none, .mv (.t 52)⟩,
 ⟨some 54, some (53, true), .fldA (.t 6) 1⟩,
 ⟨some 55, some (53, true), .load (.t 54) none⟩,
 ⟨some 56, some (53, true), .bin .eql (.t 55) (.c (.int .i64 2))⟩,
 ⟨some 57, none, .pick (.t 53) (.t 56) (.c (.bool false))⟩,
 ⟨some 58, none, .mv (.t 57)⟩,
 ⟨some 59, some (58, true), .load (.t 6) (some 3)⟩,
 ⟨some 60, some (58, true), .call (.c (.fn 22 [])) [.t 59, .c (.int .i64 0), .c (.str [99]), .c (.str [100])]⟩,
 ⟨some 61, some (58, true), .lenL (.t 60)⟩,
 ⟨some 62, some (58, true), .bin .eql (.t 61) (.c (.int .i64 1))⟩,
 ⟨some 63, none, .pick (.t 58) (.t 62) (.c (.bool false))⟩,
 ⟨some 0, none, .mv (.t 63)⟩]
def c10 : AC := (.seq (.region c10r0) (.seq (.region c10r1) (.seq (.region c10r2) (.seq (.region c10r3) (.seq (.region c10r4) (.seq (.region c10r5) .ret))))))
def r10 : List ARes := [.tmp 0]
theorem c10_ok : Try.f10.body.bind (cCode Try.prog Try.f10.ntmps) = some c10 := by kernel_rfl
theorem r10_ok : Try.f10.results.toList.mapM (cRes Try.prog Try.f10.ntmps) = some r10 := by kernel_rfl
def c11r0 : List AOper :=
 [⟨some 1, none, .box (.t 0)⟩,
 ⟨some 2, none, .mv (.c (.str []))⟩,
 ⟨some 3, none, .mv (.c (.int .i64 0))⟩]
def c11r1 : List AOper :=
 [⟨some 13, none, .load (.t 1) (some 4)⟩,
 ⟨some 14, none, .call (.c (.fn 16 [])) [.t 13]⟩,
 ⟨some 4, none, .mv (.t 14)⟩]
def c11r2 : List AOper :=
 [⟨some 15, none, .mv (.t 4)⟩,
 ⟨some 16, none, .bin .neq (.t 15) (.c (.int .i64 0))⟩]
def c11r3 : List AOper :=
 [⟨some 17, none, .mv (.t 4)⟩,
 ⟨some 2, none, .mv (.c (.str []))⟩,
 ⟨some 3, none, .mv (.t 17)⟩]
def c11r4 : List AOper :=
 [⟨some 5, none, .allocT [.nilp, .nils] 57⟩]
def c11r5 : List AOper :=
 [⟨some 18, none, .mkf 26 [.t 5]⟩,
 ⟨some 6, none, .mv (.t 18)⟩]
def c11r6 : List AOper :=
 [⟨some 19, none, .mv (.t 6)⟩,
 ⟨some 20, none, .fldA (.t 1) 0⟩,
 ⟨some 21, none, .load (.t 20) none⟩,
 ⟨some 22, none, .lenL (.t 21)⟩,
 ⟨some 23, none, .bslice 1 1 [.int .i64 0] [(0, .t 22)]⟩,
 ⟨some 24, none, .call (.t 19) [.t 23]⟩]
def c11r7 : List AOper :=
 [⟨some 25, none, .fldA (.t 1) 0⟩,
 ⟨some 26, none, .load (.t 25) none⟩,
 ⟨some 27, none, .lenL (.t 26)⟩,
 ⟨some 28, none, .mv (.c (.int .i64 0))⟩]
def c11r8 : List AOper :=
 [⟨some 29, none, .bin .lss (.t 28) (.t 27)⟩]
def c11r9 : List AOper :=
 [⟨some 30, none, .idxA (.t 26) (.t 28) none 4⟩,
 ⟨some 31, none, .load (.t 30) (some 4)⟩,
 ⟨some 8, none, .alloc [.int .i64 0, .int .i64 0, .str [], .str []]⟩,
 ⟨none, none, .store (.t 8) (.t 31) 4⟩]
def c11r10 : List AOper :=
 [⟨some 32, none, .mv (.t 6)⟩,
 ⟨some 33, none, .fldA (.t 8) 0⟩,
 ⟨some 34, none, .load (.t 33) none⟩,
 ⟨some 35, none, .fldA (.t 8) 1⟩,
 ⟨some 36, none, .load (.t 35) none⟩,
 ⟨some 37, none, .bslice 2 1 [.int .i64 0] [(0, .t 34), (1, .t 36)]⟩,
 ⟨some 38, none, .call (.t 32) [.t 37]⟩]
def c11r11 : List AOper :=
 [⟨some 39, none, .fldA (.t 8) 2⟩,
 ⟨some 40, none, .load (.t 39) none⟩,
 ⟨some 41, none, .fldA (.t 8) 3⟩,
 ⟨some 42, none, .load (.t 41) none⟩,
 ⟨some 43, none, .bslice 2 1 [.str []] [(0, .t 40), (1, .t 42)]⟩,
 ⟨some 44, none, .lenL (.t 43)⟩,
 ⟨some 45, none, .mv (.c (.int .i64 0))⟩]
def c11r12 : List AOper :=
 [⟨some 46, none, .bin .lss (.t 45) (.t 44)⟩]
def c11r13 : List AOper :=
 [⟨some 47, none, .idxA (.t 43) (.t 45) none 1⟩,
 ⟨some 48, none, .load (.t 47) none⟩,
 ⟨some 10, none, .mv (.t 48)⟩]
def c11r14 : List AOper :=
 [⟨some 50, none, .mv (.t 10)⟩,
 ⟨some 51, none, .call (.c (.fn 29 [])) [.t 50]⟩,
 ⟨some 49, none, .mv (.t 51)⟩,
 ⟨some 52, none, .ext (.t 49) 0⟩,
 ⟨some 53, none, .ext (.t 49) 1⟩,
 ⟨some 11, none, .mv (.t 52)⟩,
 ⟨some 12, none, .mv (.t 53)⟩]
def c11r15 : List AOper :=
 [⟨some 54, none, .mv (.t 11)⟩,
 ⟨some 55, none, .call (.c (.fn 28 [])) [.t 5, .t 54]⟩]
def c11r16 : List AOper :=
 [⟨some 56, none, .bin .add (.t 45) (.c (.int .i64 1))⟩,
 ⟨some 45, none, .mv (.t 56)⟩]
def c11l1 : AC := (.seq (.region c11r12) (.seq (.cond (.t 46) .skip (.exit 2)) (.seq (.block 3 (.seq (.region c11r13) (.seq (.region c11r14) (.region c11r15)))) (.region c11r16))))
def c11r17 : List AOper :=
 [⟨some 57, none, .bin .add (.t 28) (.c (.int .i64 1))⟩,
 ⟨some 28, none, .mv (.t 57)⟩]
def c11l0 : AC := (.seq (.region c11r8) (.seq (.cond (.t 29) .skip (.exit 0)) (.seq (.block 1 (.seq (.region c11r9) (.seq (.region c11r10) (.seq (.region c11r11) (.block 2 (.loop c11l1)))))) (.region c11r17))))
def c11r18 : List AOper :=
 [⟨some 58, none, .mv (.t 6)⟩,
 ⟨some 59, none, .fldA (.t 1) 1⟩,
 ⟨some 60, none, .load (.t 59) none⟩,
 ⟨some 61, none, .lenL (.t 60)⟩,
 ⟨some 62, none, .bslice 1 1 [.int .i64 0] [(0, .t 61)]⟩,
 ⟨some 63, none, .call (.t 58) [.t 62]⟩]
def c11r19 : List AOper :=
 [⟨some 64, none, .mv (.t 6)⟩,
 ⟨some 65, none, .fldA (.t 1) 1⟩,
 ⟨some 66, none, .load (.t 65) none⟩,
 ⟨some 67, none, .call (.t 64) [.t 66]⟩]
def c11r20 : List AOper :=
 [⟨some 68, none, .mv (.t 6)⟩,
 ⟨some 69, none, .fldA (.t 1) 2⟩,
 ⟨some 70, none, .load (.t 69) none⟩,
 ⟨some 71, none, .fldA (.t 1) 3⟩,
 ⟨some 72, none, .load (.t 71) none⟩,
 ⟨some 73, none, .bslice 2 1 [.int .i64 0] [(0, .t 70), (1, .t 72)]⟩,
 ⟨some 74, none, .call (.t 68) [.t 73]⟩]
def c11r21 : List AOper :=
 [⟨some 75, none, .call (.c (.fn 30 [])) [.t 5]⟩,
 ⟨some 2, none, .mv (.t 75)⟩,
 ⟨some 3, none, .mv (.c (.int .i64 0))⟩]
def c11 : AC := (.seq (.region c11r0) (.seq (.seq (.region c11r1) (.seq (.region c11r2) (.cond (.t 16) (.seq (.region c11r3) .ret) .skip))) (.seq (.region c11r4) (.seq (.region c11r5) (.seq (.region c11r6) (.seq (.seq (.region c11r7) (.block 0 (.loop c11l0))) (.seq (.region c11r18) (.seq (.region c11r19) (.seq (.region c11r20) (.seq (.region c11r21) .ret))))))))))
def r11 : List ARes := [.tmp 2, .tmp 3]
theorem c11_ok : Try.f11.body.bind (cCode Try.prog Try.f11.ntmps) = some c11 := by kernel_rfl
theorem r11_ok : Try.f11.results.toList.mapM (cRes Try.prog Try.f11.ntmps) = some r11 := by kernel_rfl
def c12r0 : List AOper :=
 [⟨some 1, none, .box (.t 0)⟩,
 ⟨some 2, none, .mv (.c (.str []))⟩,
 ⟨some 3, none, .mv (.c (.int .i64 0))⟩]
def c12r1 : List AOper :=
 [⟨some 7, none, .load (.t 1) (some 4)⟩,
 ⟨some 8, none, .call (.c (.fn 31 [])) [.t 7]⟩,
 ⟨some 9, none, .un .not (.t 8)⟩]
def c12r2 : List AOper :=
 [⟨some 2, none, .mv (.c (.str []))⟩,
 ⟨some 3, none, .mv (.c (.int .i64 1))⟩]
def c12r3 : List AOper :=
 [⟨some 10, none, .fldA (.t 1) 0⟩,
 ⟨some 11, none, .load (.t 10) none⟩,
 ⟨some 12, none, .lenL (.t 11)⟩,
 ⟨some 13, none, .call (.c (.fn 32 [])) [.t 12]⟩,
 ⟨some 4, none, .mv (.t 13)⟩]
def c12r4 : List AOper :=
 [⟨some 5, none, .mv (.c (.int .i64 0))⟩]
def c12r5 : List AOper :=
 [⟨some 14, none, .mv (.t 5)⟩,
 ⟨some 15, none, .fldA (.t 1) 0⟩,
 ⟨some 16, none, .load (.t 15) none⟩,
 ⟨some 17, none, .lenL (.t 16)⟩,
 ⟨some 18, none, .bin .lss (.t 14) (.t 17)⟩]
def c12d0 : List (AOper × List Nat) :=
 [(⟨some 21, none, .mv (.t 4)⟩, []),
 (⟨some 22, none, .fldA (.t 1) 0⟩, []),
 (⟨some 23, none, .load (.t 22) none⟩, [1]),
 (⟨some 24, none, .mv (.t 5)⟩, []),
 (⟨some 25, none, .idxA (.t 23) (.t 24) none 4⟩, [2, 3]),
 (⟨some 26, none, .fldA (.t 25) 0⟩, [4]),
 (⟨some 27, none, .load (.t 26) none⟩, [5]),
 (⟨some 28, none, .call (.c (.fn 32 [])) [.t 27]⟩, [6]),
 (⟨some 29, none, .bin .add (.t 21) (.t 28)⟩, [0, 7]),
 (⟨some 30, none, .fldA (.t 1) 0⟩, []),
 (⟨some 31, none, .load (.t 30) none⟩, [9]),
 (⟨some 32, none, .mv (.t 5)⟩, []),
 (⟨some 33, none, .idxA (.t 31) (.t 32) none 4⟩, [10, 11]),
 (⟨some 34, none, .fldA (.t 33) 1⟩, [12]),
 (⟨some 35, none, .load (.t 34) none⟩, [13]),
 (⟨some 36, none, .call (.c (.fn 32 [])) [.t 35]⟩, [14, 7]),
 (⟨some 37, none, .bin .add (.t 29) (.t 36)⟩, [8, 15]),
 (⟨some 38, none, .fldA (.t 1) 0⟩, []),
 (⟨some 39, none, .load (.t 38) none⟩, [17]),
 (⟨some 40, none, .mv (.t 5)⟩, []),
 (⟨some 41, none, .idxA (.t 39) (.t 40) none 4⟩, [18, 19]),
 (⟨some 42, none, .fldA (.t 41) 2⟩, [20]),
 (⟨some 43, none, .load (.t 42) none⟩, [21]),
 (⟨some 44, none, .call (.c (.fn 33 [])) [.t 43]⟩, [22, 15]),
 (⟨some 45, none, .bin .add (.t 37) (.t 44)⟩, [16, 23]),
 (⟨some 46, none, .fldA (.t 1) 0⟩, []),
 (⟨some 47, none, .load (.t 46) none⟩, [25]),
 (⟨some 48, none, .mv (.t 5)⟩, []),
 (⟨some 49, none, .idxA (.t 47) (.t 48) none 4⟩, [26, 27]),
 (⟨some 50, none, .fldA (.t 49) 3⟩, [28]),
 (⟨some 51, none, .load (.t 50) none⟩, [29]),
 (⟨some 52, none, .call (.c (.fn 33 [])) [.t 51]⟩, [30, 23]),
 (⟨some 53, none, .bin .add (.t 45) (.t 52)⟩, [24, 31]),
 (⟨some 4, none, .mv (.t 53)⟩, [32, 31, 0, 1, 2, 3, 4, 5, 6, 7, 8, 9, 10, 11, 12, 13, 14, 15, 16, 17, 18, 19, 20, 21, 22, 23, 24, 25, 26, 27, 28, 29, 30, 31, 32])]
def c12r6 : List AOper :=
 [⟨some 19, none, .mv (.t 5)⟩,
 ⟨some 20, none, .bin .add (.t 19) (.c (.int .i64 1))⟩,
 ⟨some 5, none, .mv (.t 20)⟩]
def c12l0 : AC := (.seq (.seq (.region c12r5) (.cond (.t 18) .skip (.exit 0))) (.seq (.block 1 (.drawn c12d0)) (.region c12r6)))
def c12r7 : List AOper :=
 [⟨some 54, none, .mv (.t 4)⟩,
 ⟨some 55, none, .fldA (.t 1) 1⟩,
 ⟨some 56, none, .load (.t 55) none⟩,
 ⟨some 57, none, .lenL (.t 56)⟩,
 ⟨some 58, none, .call (.c (.fn 32 [])) [.t 57]⟩,
 ⟨some 59, none, .bin .add (.t 54) (.t 58)⟩,
 ⟨some 4, none, .mv (.t 59)⟩]
def c12r8 : List AOper :=
 [⟨some 6, none, .mv (.c (.int .i64 0))⟩]
def c12r9 : List AOper :=
 [⟨some 60, none, .mv (.t 6)⟩,
 ⟨some 61, none, .fldA (.t 1) 1⟩,
 ⟨some 62, none, .load (.t 61) none⟩,
 ⟨some 63, none, .lenL (.t 62)⟩,
 ⟨some 64, none, .bin .lss (.t 60) (.t 63)⟩]
def c12r10 : List AOper :=
 [⟨some 67, none, .mv (.t 4)⟩,
 ⟨some 68, none, .fldA (.t 1) 1⟩,
 ⟨some 69, none, .load (.t 68) none⟩,
 ⟨some 70, none, .mv (.t 6)⟩,
 ⟨some 71, none, .idxA (.t 69) (.t 70) none 1⟩,
 ⟨some 72, none, .load (.t 71) none⟩,
 ⟨some 73, none, .call (.c (.fn 32 [])) [.t 72]⟩,
 ⟨some 74, none, .bin .add (.t 67) (.t 73)⟩,
 ⟨some 4, none, .mv (.t 74)⟩]
def c12r11 : List AOper :=
 [⟨some 65, none, .mv (.t 6)⟩,
 ⟨some 66, none, .bin .add (.t 65) (.c (.int .i64 1))⟩,
 ⟨some 6, none, .mv (.t 66)⟩]
def c12l1 : AC := (.seq (.seq (.region c12r9) (.cond (.t 64) .skip (.exit 2))) (.seq (.block 3 (.region c12r10)) (.region c12r11)))
def c12d1 : List (AOper × List Nat) :=
 [(⟨some 75, none, .mv (.t 4)⟩, []),
 (⟨some 76, none, .fldA (.t 1) 2⟩, []),
 (⟨some 77, none, .load (.t 76) none⟩, [1]),
 (⟨some 78, none, .call (.c (.fn 32 [])) [.t 77]⟩, [2]),
 (⟨some 79, none, .bin .add (.t 75) (.t 78)⟩, [0, 3]),
 (⟨some 80, none, .fldA (.t 1) 3⟩, []),
 (⟨some 81, none, .load (.t 80) none⟩, [5]),
 (⟨some 82, none, .call (.c (.fn 32 [])) [.t 81]⟩, [6, 3]),
 (⟨some 83, none, .bin .add (.t 79) (.t 82)⟩, [4, 7]),
 (⟨some 2, none, .mv (.t 83)⟩, [8, 7, 0, 1, 2, 3, 4, 5, 6, 7, 8]),
 (⟨some 3, none, .mv (.c (.int .i64 0))⟩, [9, 0, 1, 2, 3, 4, 5, 6, 7, 8, 9])]
def c12 : AC := (.seq (.region c12r0) (.seq (.seq (.region c12r1) (.cond (.t 9) (.seq (.region c12r2) .ret) .skip)) (.seq (.region c12r3) (.seq (.seq (.region c12r4) (.block 0 (.loop c12l0))) (.seq (.region c12r7) (.seq (.seq (.region c12r8) (.block 2 (.loop c12l1))) (.seq (.drawn c12d1) .ret)))))))
def r12 : List ARes := [.tmp 2, .tmp 3]
theorem c12_ok : Try.f12.body.bind (cCode Try.prog Try.f12.ntmps) = some c12 := by kernel_rfl
theorem r12_ok : Try.f12.results.toList.mapM (cRes Try.prog Try.f12.ntmps) = some r12 := by kernel_rfl
def c13r0 : List AOper :=
 [⟨some 1, none, .box (.t 0)⟩,
 ⟨some 2, none, .alloc [.nils, .nils, .int .i64 0, .int .i64 0]⟩,
 ⟨some 3, none, .mv (.c (.int .i64 0))⟩]
def c13r1 : List AOper :=
 [⟨some 4, none, .alloc [.bool false]⟩,
 ⟨none, none, .store (.t 4) (.c (.bool true)) 1⟩]
def c13r2 : List AOper :=
 [⟨some 9, none, .mkf 34 [.t 1, .t 4]⟩,
 ⟨some 5, none, .alloc [.nilf]⟩,
 ⟨none, none, .store (.t 5) (.t 9) 1⟩]
def c13r3 : List AOper :=
 [⟨some 10, none, .mkf 36 [.t 1, .t 4]⟩,
 ⟨some 6, none, .alloc [.nilf]⟩,
 ⟨none, none, .store (.t 6) (.t 10) 1⟩]
def c13r4 : List AOper :=
 [⟨some 11, none, .mkf 38 [.t 5, .t 4]⟩,
 ⟨some 7, none, .mv (.t 11)⟩]
def c13r5 : List AOper :=
 [⟨some 8, none, .alloc [.nils, .nils, .int .i64 0, .int .i64 0]⟩]
def c13r6 : List AOper :=
 [⟨some 12, none, .mv (.t 7)⟩,
 ⟨some 13, none, .mkf 39 [.t 5, .t 6, .t 8]⟩,
 ⟨some 14, none, .call (.t 12) [.t 13]⟩]
def c13r7 : List AOper :=
 [⟨some 15, none, .mv (.t 7)⟩,
 ⟨some 16, none, .mkf 40 [.t 8, .t 5]⟩,
 ⟨some 17, none, .call (.t 15) [.t 16]⟩]
def c13d0 : List (AOper × List Nat) :=
 [(⟨some 18, none, .load (.t 5) none⟩, []),
 (⟨some 19, none, .call (.t 18) []⟩, [0]),
 (⟨some 20, none, .load (.t 5) none⟩, []),
 (⟨some 21, none, .call (.t 20) []⟩, [2, 1]),
 (⟨some 22, none, .fldA (.t 8) 2⟩, [0, 1]),
 (⟨none, none, .store (.t 22) (.t 19) 1⟩, [4, 1, 3, 0, 1]),
 (⟨some 23, none, .fldA (.t 8) 3⟩, [0, 1, 2, 3, 4, 5]),
 (⟨none, none, .store (.t 23) (.t 21) 1⟩, [6, 3, 5, 0, 1, 2, 3, 4, 5])]
def c13r8 : List AOper :=
 [⟨some 24, none, .load (.t 4) none⟩,
 ⟨some 25, none, .un .not (.t 24)⟩,
 ⟨some 26, none, .mv (.t 25)⟩,
 ⟨some 27, some (26, false), .load (.t 1) none⟩,
 ⟨some 28, some (26, false), .bin .neq (.t 27) (.c (.str []))⟩,
 ⟨some 29, none, .pick (.t 26) (.c (.bool true)) (.t 28)⟩,
 ⟨some 30, none, .mv (.t 29)⟩,
 ⟨some 31, some (30, false), .load (.t 8) (some 4)⟩,
 ⟨some 32, some (30, false), .call (.c (.fn 16 [])) [.t 31]⟩,
 ⟨some 33, some (30, false), .bin .neq (.t 32) (.c (.int .i64 0))⟩,
 ⟨some 34, none, .pick (.t 30) (.c (.bool true)) (.t 33)⟩]
def c13r9 : List AOper :=
 [⟨some 35, none, .build [.nils, .nils, .int .i64 0, .int .i64 0] []⟩,
 ⟨none, none, .store (.t 2) (.t 35) 4⟩,
 ⟨some 3, none, .mv (.c (.int .i64 120))⟩]
def c13r10 : List AOper :=
 [⟨some 36, none, .load (.t 8) (some 4)⟩,
 ⟨none, none, .store (.t 2) (.t 36) 4⟩,
 ⟨some 3, none, .mv (.c (.int .i64 0))⟩]
def c13 : AC := (.seq (.region c13r0) (.seq (.region c13r1) (.seq (.region c13r2) (.seq (.region c13r3) (.seq (.region c13r4) (.seq (.region c13r5) (.seq (.region c13r6) (.seq (.region c13r7) (.seq (.drawn c13d0) (.seq (.seq (.region c13r8) (.cond (.t 34) (.seq (.region c13r9) .ret) .skip)) (.seq (.region c13r10) .ret)))))))))))
def r13 : List ARes := [.cell 2 (some 4), .tmp 3]
theorem c13_ok : Try.f13.body.bind (cCode Try.prog Try.f13.ntmps) = some c13 := by kernel_rfl
theorem r13_ok : Try.f13.results.toList.mapM (cRes Try.prog Try.f13.ntmps) = some r13 := by kernel_rfl
def c14r0 : List AOper :=
 [⟨some 2, none, .alloc [.nils, .nils, .int .i64 0, .int .i64 0]⟩,
 ⟨some 3, none, .mv (.c (.int .i64 0))⟩]
def c14r1 : List AOper :=
 [⟨some 11, none, .mv (.t 0)⟩,
 ⟨some 12, none, .build [.str [], .bool false] [(0, 1, .t 11), (1, 1, .c (.bool true))]⟩,
 ⟨some 13, none, .box (.t 12)⟩,
 ⟨some 4, none, .mv (.t 13)⟩]
def c14r2 : List AOper :=
 [⟨some 14, none, .build [.nils, .nils, .int .i64 0, .int .i64 0] []⟩,
 ⟨some 5, none, .alloc [.nils, .nils, .int .i64 0, .int .i64 0]⟩,
 ⟨none, none, .store (.t 5) (.t 14) 4⟩]
def c14r3 : List AOper :=
 [⟨some 15, none, .mv (.t 4)⟩,
 ⟨some 16, none, .call (.c (.fn 41 [])) [.t 15]⟩,
 ⟨some 6, none, .mv (.t 16)⟩]
def c14r4 : List AOper :=
 [⟨some 7, none, .mv (.c (.int .i64 0))⟩]
def c14r5 : List AOper :=
 [⟨some 17, none, .mv (.t 7)⟩,
 ⟨some 18, none, .mv (.t 6)⟩,
 ⟨some 19, none, .bin .lss (.t 17) (.t 18)⟩,
 ⟨some 20, none, .mv (.t 19)⟩,
 ⟨some 21, some (20, true), .mv (.t 7)⟩,
 ⟨some 22, some (20, true), .bin .lss (.t 21) (.c (.int .i64 129))⟩,
 ⟨some 23, none, .pick (.t 20) (.t 22) (.c (.bool false))⟩,
 ⟨some 24, none, .mv (.t 23)⟩,
 ⟨some 25, some (24, true), .mv (.t 4)⟩,
 ⟨some 26, some (24, true), .nilck (.t 25)⟩,
 ⟨some 27, some (24, true), .fldA (.t 26) 1⟩,
 ⟨some 28, some (24, true), .load (.t 27) none⟩,
 ⟨some 29, none, .pick (.t 24) (.t 28) (.c (.bool false))⟩]
def c14r6 : List AOper :=
 [⟨some 32, none, .mv (.t 4)⟩,
 ⟨some 33, none, .call (.c (.fn 41 [])) [.t 32]⟩,
 ⟨some 34, none, .build [.int .i64 0, .int .i64 0, .str [], .str []] [(0, 1, .t 33)]⟩,
 ⟨some 8, none, .alloc [.int .i64 0, .int .i64 0, .str [], .str []]⟩,
 ⟨none, none, .store (.t 8) (.t 34) 4⟩]
def c14r7 : List AOper :=
 [⟨some 35, none, .mv (.t 4)⟩,
 ⟨some 36, none, .call (.c (.fn 41 [])) [.t 35]⟩,
 ⟨some 37, none, .fldA (.t 8) 1⟩,
 ⟨none, none, .store (.t 37) (.t 36) 1⟩]
def c14r8 : List AOper :=
 [⟨some 38, none, .mv (.t 4)⟩,
 ⟨some 39, none, .call (.c (.fn 42 [])) [.t 38]⟩,
 ⟨some 40, none, .fldA (.t 8) 2⟩,
 ⟨none, none, .store (.t 40) (.t 39) 1⟩]
def c14r9 : List AOper :=
 [⟨some 41, none, .mv (.t 4)⟩,
 ⟨some 42, none, .call (.c (.fn 42 [])) [.t 41]⟩,
 ⟨some 43, none, .fldA (.t 8) 3⟩,
 ⟨none, none, .store (.t 43) (.t 42) 1⟩]
def c14r10 : List AOper :=
 [⟨some 44, none, .fldA (.t 5) 0⟩,
 ⟨some 45, none, .load (.t 44) none⟩,
 ⟨some 46, none, .load (.t 8) (some 4)⟩,
 ⟨some 47, none, .bslice 1 4 [.int .i64 0, .int .i64 0, .str [], .str []] [(0, .t 46)]⟩,
 ⟨some 48, none, .append (.t 45) (.t 47) 4 48 false⟩,
 ⟨some 49, none, .fldA (.t 5) 0⟩,
 ⟨none, none, .store (.t 49) (.t 48) 1⟩]
def c14r11 : List AOper :=
 [⟨some 30, none, .mv (.t 7)⟩,
 ⟨some 31, none, .bin .add (.t 30) (.c (.int .i64 1))⟩,
 ⟨some 7, none, .mv (.t 31)⟩]
def c14l0 : AC := (.seq (.seq (.region c14r5) (.cond (.t 29) .skip (.exit 0))) (.seq (.block 1 (.seq (.region c14r6) (.seq (.region c14r7) (.seq (.region c14r8) (.seq (.region c14r9) (.region c14r10)))))) (.region c14r11)))
def c14r12 : List AOper :=
 [⟨some 50, none, .mv (.t 4)⟩,
 ⟨some 51, none, .call (.c (.fn 41 [])) [.t 50]⟩,
 ⟨some 9, none, .mv (.t 51)⟩]
def c14r13 : List AOper :=
 [⟨some 10, none, .mv (.c (.int .i64 0))⟩]
def c14r14 : List AOper :=
 [⟨some 52, none, .mv (.t 10)⟩,
 ⟨some 53, none, .mv (.t 9)⟩,
 ⟨some 54, none, .bin .lss (.t 52) (.t 53)⟩,
 ⟨some 55, none, .mv (.t 54)⟩,
 ⟨some 56, some (55, true), .mv (.t 10)⟩,
 ⟨some 57, some (55, true), .bin .lss (.t 56) (.c (.int .i64 129))⟩,
 ⟨some 58, none, .pick (.t 55) (.t 57) (.c (.bool false))⟩,
 ⟨some 59, none, .mv (.t 58)⟩,
 ⟨some 60, some (59, true), .mv (.t 4)⟩,
 ⟨some 61, some (59, true), .nilck (.t 60)⟩,
 ⟨some 62, some (59, true), .fldA (.t 61) 1⟩,
 ⟨some 63, some (59, true), .load (.t 62) none⟩,
 ⟨some 64, none, .pick (.t 59) (.t 63) (.c (.bool false))⟩]
def c14d0 : List (AOper × List Nat) :=
 [(⟨some 67, none, .fldA (.t 5) 1⟩, []),
 (⟨some 68, none, .load (.t 67) none⟩, [0]),
 (⟨some 69, none, .mv (.t 4)⟩, []),
 (⟨some 70, none, .call (.c (.fn 41 [])) [.t 69]⟩, [2]),
 (⟨some 71, none, .bslice 1 1 [.int .i64 0] [(0, .t 70)]⟩, [3]),
 (⟨some 72, none, .append (.t 68) (.t 71) 1 8 false⟩, [1, 4, 3]),
 (⟨some 73, none, .fldA (.t 5) 1⟩, [0, 1, 2, 3, 4, 5]),
 (⟨none, none, .store (.t 73) (.t 72) 1⟩, [6, 5, 5, 0, 1, 2, 3, 4, 5])]
def c14r15 : List AOper :=
 [⟨some 65, none, .mv (.t 10)⟩,
 ⟨some 66, none, .bin .add (.t 65) (.c (.int .i64 1))⟩,
 ⟨some 10, none, .mv (.t 66)⟩]
def c14l1 : AC := (.seq (.seq (.region c14r14) (.cond (.t 64) .skip (.exit 2))) (.seq (.block 3 (.drawn c14d0)) (.region c14r15)))
def c14r16 : List AOper :=
 [⟨some 74, none, .mv (.t 4)⟩,
 ⟨some 75, none, .call (.c (.fn 41 [])) [.t 74]⟩,
 ⟨some 76, none, .fldA (.t 5) 2⟩,
 ⟨none, none, .store (.t 76) (.t 75) 1⟩]
def c14r17 : List AOper :=
 [⟨some 77, none, .mv (.t 4)⟩,
 ⟨some 78, none, .call (.c (.fn 41 [])) [.t 77]⟩,
 ⟨some 79, none, .fldA (.t 5) 3⟩,
 ⟨none, none, .store (.t 79) (.t 78) 1⟩]
def c14r18 : List AOper :=
 [⟨some 80, none, .mv (.t 4)⟩,
 ⟨some 81, none, .nilck (.t 80)⟩,
 ⟨some 82, none, .fldA (.t 81) 1⟩,
 ⟨some 83, none, .load (.t 82) none⟩,
 ⟨some 84, none, .un .not (.t 83)⟩,
 ⟨some 85, none, .mv (.t 84)⟩,
 ⟨some 86, some (85, false), .mv (.t 4)⟩,
 ⟨some 87, some (85, false), .nilck (.t 86)⟩,
 ⟨some 88, some (85, false), .fldA (.t 87) 0⟩,
 ⟨some 89, some (85, false), .load (.t 88) none⟩,
 ⟨some 90, some (85, false), .bin .neq (.t 89) (.c (.str []))⟩,
 ⟨some 91, none, .pick (.t 85) (.c (.bool true)) (.t 90)⟩,
 ⟨some 92, none, .mv (.t 91)⟩,
 ⟨some 93, some (92, false), .fldA (.t 5) 0⟩,
 ⟨some 94, some (92, false), .load (.t 93) none⟩,
 ⟨some 95, some (92, false), .lenL (.t 94)⟩,
 ⟨some 96, some (92, false), .mv (.t 6)⟩,
 ⟨some 97, some (92, false), .bin .neq (.t 95) (.t 96)⟩,
 ⟨some 98, none, .pick (.t 92) (.c (.bool true)) (.t 97)⟩,
 ⟨some 99, none, .mv (.t 98)⟩,
 ⟨some 100, some (99, false), .fldA (.t 5) 1⟩,
 ⟨some 101, some (99, false), .load (.t 100) none⟩,
 ⟨some 102, some (99, false), .lenL (.t 101)⟩,
 ⟨some 103, some (99, false), .mv (.t 9)⟩,
 ⟨some 104, some (99, false), .bin .neq (.t 102) (.t 103)⟩,
 ⟨some 105, none, .pick (.t 99) (.c (.bool true)) (.t 104)⟩,
 ⟨some 106, none, .mv (.t 105)⟩,
 ⟨some 107, some (106, false), .load (.t 5) (some 4)⟩,
 ⟨some 108, some (106, false), .call (.c (.fn 31 [])) [.t 107]⟩,
 ⟨some 109, some (106, false), .un .not (.t 108)⟩,
 ⟨some 110, none, .pick (.t 106) (.c (.bool true)) (.t 109)⟩]
def c14r19 : List AOper :=
 [⟨some 111, none, .build [.nils, .nils, .int .i64 0, .int .i64 0] []⟩,
 ⟨none, none, .store (.t 2) (.t 111) 4⟩,
 ⟨some 3, none, .mv (.c (.int .i64 120))⟩]
def c14r20 : List AOper :=
 [⟨some 112, none, .load (.t 5) (some 4)⟩,
 ⟨none, none, .store (.t 2) (.t 112) 4⟩,
 ⟨some 3, none, .mv (.c (.int .i64 0))⟩]
def c14 : AC := (.seq (.region c14r0) (.seq (.region c14r1) (.seq (.region c14r2) (.seq (.region c14r3) (.seq (.seq (.region c14r4) (.block 0 (.loop c14l0))) (.seq (.region c14r12) (.seq (.seq (.region c14r13) (.block 2 (.loop c14l1))) (.seq (.region c14r16) (.seq (.region c14r17) (.seq (.seq (.region c14r18) (.cond (.t 110) (.seq (.region c14r19) .ret) .skip)) (.seq (.region c14r20) .ret)))))))))))
def r14 : List ARes := [.cell 2 (some 4), .tmp 3]
theorem c14_ok : Try.f14.body.bind (cCode Try.prog Try.f14.ntmps) = some c14 := by kernel_rfl
theorem r14_ok : Try.f14.results.toList.mapM (cRes Try.prog Try.f14.ntmps) = some r14 := by kernel_rfl
def c15r0 : List AOper :=
 [⟨some 2, none, .box (.t 0)⟩,
 ⟨some 3, none, .box (.t 1)⟩,
 ⟨some 4, none, .mv (.c (.bool false))⟩]
def c15r1 : List AOper :=
 [⟨some 5, none, .fldA (.t 2) 0⟩,
 ⟨some 6, none, .load (.t 5) none⟩,
 ⟨some 7, none, .fldA (.t 3) 0⟩,
 ⟨some 8, none, .load (.t 7) none⟩,
 ⟨some 9, none, .call (.c (.fn 21 [])) [.t 6, .t 8]⟩,
 ⟨some 10, none, .mv (.t 9)⟩,
 ⟨some 11, some (10, true), .fldA (.t 2) 1⟩,
 ⟨some 12, some (10, true), .load (.t 11) none⟩,
 ⟨some 13, some (10, true), .fldA (.t 3) 1⟩,
 ⟨some 14, some (10, true), .load (.t 13) none⟩,
 ⟨some 15, some (10, true), .call (.c (.fn 43 [])) [.t 12, .t 14]⟩,
 ⟨some 16, none, .pick (.t 10) (.t 15) (.c (.bool false))⟩,
 ⟨some 17, none, .mv (.t 16)⟩,
 ⟨some 18, some (17, true), .fldA (.t 2) 2⟩,
 ⟨some 19, some (17, true), .load (.t 18) none⟩,
 ⟨some 20, some (17, true), .fldA (.t 3) 2⟩,
 ⟨some 21, some (17, true), .load (.t 20) none⟩,
 ⟨some 22, some (17, true), .bin .eql (.t 19) (.t 21)⟩,
 ⟨some 23, none, .pick (.t 17) (.t 22) (.c (.bool false))⟩,
 ⟨some 24, none, .mv (.t 23)⟩,
 ⟨some 25, some (24, true), .fldA (.t 2) 3⟩,
 ⟨some 26, some (24, true), .load (.t 25) none⟩,
 ⟨some 27, some (24, true), .fldA (.t 3) 3⟩,
 ⟨some 28, some (24, true), .load (.t 27) none⟩,
 ⟨some 29, some (24, true), .bin .eql (.t 26) (.t 28)⟩,
 ⟨some 30, none, .pick (.t 24) (.t 29) (.c (.bool false))⟩,
 ⟨some 4, none, .mv (.t 30)⟩]
def c15 : AC := (.seq (.region c15r0) (.seq (.region c15r1) .ret))
def r15 : List ARes := [.tmp 4]
theorem c15_ok : Try.f15.body.bind (cCode Try.prog Try.f15.ntmps) = some c15 := by kernel_rfl
theorem r15_ok : Try.f15.results.toList.mapM (cRes Try.prog Try.f15.ntmps) = some r15 := by kernel_rfl
def c16r0 : List AOper :=
 [⟨some 1, none, .box (.t 0)⟩,
 ⟨some 2, none, .mv (.c (.int .i64 0))⟩]
def c16r1 : List AOper :=
 [⟨some 3, none, .mv (.c (.fn 44 []))⟩]
def c16r2 : List AOper :=
 [⟨some 4, none, .mv (.c (.fn 46 []))⟩]
def c16r3 : List AOper :=
 [⟨some 5, none, .fldA (.t 1) 0⟩,
 ⟨some 6, none, .load (.t 5) none⟩,
 ⟨some 7, none, .lenL (.t 6)⟩,
 ⟨some 8, none, .bin .gtr (.t 7) (.c (.int .i64 128))⟩,
 ⟨some 9, none, .mv (.t 8)⟩,
 ⟨some 10, some (9, false), .fldA (.t 1) 1⟩,
 ⟨some 11, some (9, false), .load (.t 10) none⟩,
 ⟨some 12, some (9, false), .lenL (.t 11)⟩,
 ⟨some 13, some (9, false), .bin .gtr (.t 12) (.c (.int .i64 128))⟩,
 ⟨some 14, none, .pick (.t 9) (.c (.bool true)) (.t 13)⟩,
 ⟨some 15, none, .mv (.t 14)⟩,
 ⟨some 16, some (15, false), .fldA (.t 1) 0⟩,
 ⟨some 17, some (15, false), .load (.t 16) none⟩,
 ⟨some 18, some (15, false), .mv (.t 3)⟩,
 ⟨some 19, some (15, false), .call (.c (.fn 47 [])) [.t 17, .t 18]⟩,
 ⟨some 20, none, .pick (.t 15) (.c (.bool true)) (.t 19)⟩,
 ⟨some 21, none, .mv (.t 20)⟩,
 ⟨some 22, some (21, false), .fldA (.t 1) 1⟩,
 ⟨some 23, some (21, false), .load (.t 22) none⟩,
 ⟨some 24, some (21, false), .mv (.t 4)⟩,
 ⟨some 25, some (21, false), .call (.c (.fn 48 [])) [.t 23, .t 24]⟩,
 ⟨some 26, none, .pick (.t 21) (.c (.bool true)) (.t 25)⟩,
 ⟨some 27, none, .mv (.t 26)⟩,
 ⟨some 28, some (27, false), .fldA (.t 1) 2⟩,
 ⟨some 29, some (27, false), .load (.t 28) none⟩,
 ⟨some 30, some (27, false), .fldA (.t 1) 3⟩,
 ⟨some 31, some (27, false), .load (.t 30) none⟩,
 ⟨some 32, some (27, false), .mm false [.t 29, .t 31]⟩,
 ⟨some 33, some (27, false), .bin .lss (.t 32) (.c (.int .i64 0))⟩,
 ⟨some 34, none, .pick (.t 27) (.c (.bool true)) (.t 33)⟩,
 ⟨some 35, none, .mv (.t 34)⟩,
 ⟨some 36, some (35, false), .fldA (.t 1) 2⟩,
 ⟨some 37, some (35, false), .load (.t 36) none⟩,
 ⟨some 38, some (35, false), .fldA (.t 1) 3⟩,
 ⟨some 39, some (35, false), .load (.t 38) none⟩,
 ⟨some 40, some (35, false), .mm true [.t 37, .t 39]⟩,
 ⟨some 41, some (35, false), .bin .gtr (.t 40) (.c (.int .i64 1073741824))⟩,
 ⟨some 42, none, .pick (.t 35) (.c (.bool true)) (.t 41)⟩]
def c16r4 : List AOper :=
 [⟨some 2, none, .mv (.c (.int .i64 1))⟩]
def c16r5 : List AOper :=
 [⟨some 2, none, .mv (.c (.int .i64 0))⟩]
def c16 : AC := (.seq (.region c16r0) (.seq (.region c16r1) (.seq (.region c16r2) (.seq (.seq (.region c16r3) (.cond (.t 42) (.seq (.region c16r4) .ret) .skip)) (.seq (.region c16r5) .ret)))))
def r16 : List ARes := [.tmp 2]
theorem c16_ok : Try.f16.body.bind (cCode Try.prog Try.f16.ntmps) = some c16 := by kernel_rfl
theorem r16_ok : Try.f16.results.toList.mapM (cRes Try.prog Try.f16.ntmps) = some r16 := by kernel_rfl
def c17r0 : List AOper :=
 [⟨some 1, none, .box (.t 0)⟩,
 ⟨some 2, none, .mv (.c (.int .i64 0))⟩]
def c17r1 : List AOper :=
 [⟨some 3, none, .load (.t 1) (some 4)⟩,
 ⟨some 4, none, .call (.c (.fn 31 [])) [.t 3]⟩,
 ⟨some 5, none, .un .not (.t 4)⟩]
def c17r2 : List AOper :=
 [⟨some 2, none, .mv (.c (.int .i64 1))⟩]
def c17r3 : List AOper :=
 [⟨some 2, none, .mv (.c (.int .i64 0))⟩]
def c17 : AC := (.seq (.region c17r0) (.seq (.seq (.region c17r1) (.cond (.t 5) (.seq (.region c17r2) .ret) .skip)) (.seq (.region c17r3) .ret)))
def r17 : List ARes := [.tmp 2]
theorem c17_ok : Try.f17.body.bind (cCode Try.prog Try.f17.ntmps) = some c17 := by kernel_rfl
theorem r17_ok : Try.f17.results.toList.mapM (cRes Try.prog Try.f17.ntmps) = some r17 := by kernel_rfl
def c18r0 : List AOper :=
 [⟨some 2, none, .box (.t 0)⟩,
 ⟨some 3, none, .box (.t 1)⟩,
 ⟨some 4, none, .alloc [.nils, .int .i64 0, .int .i64 0]⟩,
 ⟨some 5, none, .mv (.c (.int .i64 0))⟩]
def c18r1 : List AOper :=
 [⟨some 21, none, .load (.t 3) (some 4)⟩,
 ⟨some 22, none, .call (.c (.fn 16 [])) [.t 21]⟩,
 ⟨some 6, none, .mv (.t 22)⟩]
def c18r2 : List AOper :=
 [⟨some 23, none, .mv (.t 6)⟩,
 ⟨some 24, none, .bin .neq (.t 23) (.c (.int .i64 0))⟩]
def c18r3 : List AOper :=
 [⟨some 25, none, .build [.nils, .int .i64 0, .int .i64 0] []⟩,
 ⟨some 26, none, .mv (.t 6)⟩,
 ⟨none, none, .store (.t 4) (.t 25) 3⟩,
 ⟨some 5, none, .mv (.t 26)⟩]
def c18r4 : List AOper :=
 [⟨some 27, none, .mkm⟩,
 ⟨some 7, none, .mv (.t 27)⟩]
def c18r5 : List AOper :=
 [⟨some 28, none, .fldA (.t 2) 0⟩,
 ⟨some 29, none, .load (.t 28) none⟩,
 ⟨some 30, none, .lenL (.t 29)⟩,
 ⟨some 31, none, .mv (.c (.int .i64 0))⟩]
def c18r6 : List AOper :=
 [⟨some 32, none, .bin .lss (.t 31) (.t 30)⟩]
def c18r7 : List AOper :=
 [⟨some 33, none, .idxA (.t 29) (.t 31) none 4⟩,
 ⟨some 34, none, .load (.t 33) (some 4)⟩,
 ⟨some 9, none, .alloc [.int .i64 0, .int .i64 0, .str [], .str []]⟩,
 ⟨none, none, .store (.t 9) (.t 34) 4⟩]
def c18r8 : List AOper :=
 [⟨some 35, none, .mv (.t 7)⟩,
 ⟨some 36, none, .fldA (.t 9) 0⟩,
 ⟨some 37, none, .load (.t 36) none⟩,
 ⟨none, none, .mupd 0 (.t 35) (.t 37) (.c (.bool true))⟩]
def c18r9 : List AOper :=
 [⟨some 38, none, .bin .add (.t 31) (.c (.int .i64 1))⟩,
 ⟨some 31, none, .mv (.t 38)⟩]
def c18l0 : AC := (.seq (.region c18r6) (.seq (.cond (.t 32) .skip (.exit 0)) (.seq (.block 1 (.seq (.region c18r7) (.region c18r8))) (.region c18r9))))
def c18r10 : List AOper :=
 [⟨some 39, none, .mkm⟩,
 ⟨some 10, none, .mv (.t 39)⟩]
def c18r11 : List AOper :=
 [⟨some 40, none, .fldA (.t 3) 1⟩,
 ⟨some 41, none, .load (.t 40) none⟩,
 ⟨some 42, none, .lenL (.t 41)⟩,
 ⟨some 43, none, .mv (.c (.int .i64 0))⟩]
def c18r12 : List AOper :=
 [⟨some 44, none, .bin .lss (.t 43) (.t 42)⟩]
def c18r13 : List AOper :=
 [⟨some 45, none, .idxA (.t 41) (.t 43) none 1⟩,
 ⟨some 46, none, .load (.t 45) none⟩,
 ⟨some 12, none, .mv (.t 46)⟩]
def c18r14 : List AOper :=
 [⟨some 47, none, .mv (.t 7)⟩,
 ⟨some 48, none, .mv (.t 12)⟩,
 ⟨some 49, none, .mget 0 (.t 47) (.t 48) (.bool false) false⟩,
 ⟨some 50, none, .un .not (.t 49)⟩,
 ⟨some 51, none, .mv (.t 50)⟩,
 ⟨some 52, some (51, false), .mv (.t 10)⟩,
 ⟨some 53, some (51, false), .mv (.t 12)⟩,
 ⟨some 54, some (51, false), .mget 0 (.t 52) (.t 53) (.bool false) false⟩,
 ⟨some 55, none, .pick (.t 51) (.c (.bool true)) (.t 54)⟩]
def c18r15 : List AOper :=
 [⟨some 56, none, .build [.nils, .int .i64 0, .int .i64 0] []⟩,
 ⟨none, none, .store (.t 4) (.t 56) 3⟩,
 ⟨some 5, none, .mv (.c (.int .i64 120))⟩]
def c18r16 : List AOper :=
 [⟨some 57, none, .mv (.t 10)⟩,
 ⟨some 58, none, .mv (.t 12)⟩,
 ⟨none, none, .mupd 0 (.t 57) (.t 58) (.c (.bool true))⟩]
def c18r17 : List AOper :=
 [⟨some 59, none, .bin .add (.t 43) (.c (.int .i64 1))⟩,
 ⟨some 43, none, .mv (.t 59)⟩]
def c18l1 : AC := (.seq (.region c18r12) (.seq (.cond (.t 44) .skip (.exit 2)) (.seq (.block 3 (.seq (.region c18r13) (.seq (.seq (.region c18r14) (.cond (.t 55) (.seq (.region c18r15) .ret) .skip)) (.region c18r16)))) (.region c18r17))))
def c18r18 : List AOper :=
 [⟨some 60, none, .fldA (.t 3) 2⟩,
 ⟨some 61, none, .load (.t 60) none⟩,
 ⟨some 62, none, .fldA (.t 3) 3⟩,
 ⟨some 63, none, .load (.t 62) none⟩,
 ⟨some 64, none, .build [.nils, .int .i64 0, .int .i64 0] [(1, 1, .t 61), (2, 1, .t 63)]⟩,
 ⟨some 13, none, .alloc [.nils, .int .i64 0, .int .i64 0]⟩,
 ⟨none, none, .store (.t 13) (.t 64) 3⟩]
def c18r19 : List AOper :=
 [⟨some 65, none, .fldA (.t 2) 0⟩,
 ⟨some 66, none, .load (.t 65) none⟩,
 ⟨some 67, none, .lenL (.t 66)⟩,
 ⟨some 68, none, .mv (.c (.int .i64 0))⟩]
def c18r20 : List AOper :=
 [⟨some 69, none, .bin .lss (.t 68) (.t 67)⟩]
def c18r21 : List AOper :=
 [⟨some 70, none, .idxA (.t 66) (.t 68) none 4⟩,
 ⟨some 71, none, .load (.t 70) (some 4)⟩,
 ⟨some 15, none, .alloc [.int .i64 0, .int .i64 0, .str [], .str []]⟩,
 ⟨none, none, .store (.t 15) (.t 71) 4⟩]
def c18r22 : List AOper :=
 [⟨some 72, none, .mv (.t 10)⟩,
 ⟨some 73, none, .fldA (.t 15) 0⟩,
 ⟨some 74, none, .load (.t 73) none⟩,
 ⟨some 75, none, .mget 0 (.t 72) (.t 74) (.bool false) false⟩,
 ⟨some 76, none, .un .not (.t 75)⟩]
def c18r23 : List AOper :=
 [⟨some 77, none, .fldA (.t 13) 0⟩,
 ⟨some 78, none, .load (.t 77) none⟩,
 ⟨some 79, none, .load (.t 15) (some 4)⟩,
 ⟨some 80, none, .bslice 1 4 [.int .i64 0, .int .i64 0, .str [], .str []] [(0, .t 79)]⟩,
 ⟨some 81, none, .append (.t 78) (.t 80) 4 48 false⟩,
 ⟨some 82, none, .fldA (.t 13) 0⟩,
 ⟨none, none, .store (.t 82) (.t 81) 1⟩]
def c18r24 : List AOper :=
 [⟨some 83, none, .bin .add (.t 68) (.c (.int .i64 1))⟩,
 ⟨some 68, none, .mv (.t 83)⟩]
def c18l2 : AC := (.seq (.region c18r20) (.seq (.cond (.t 69) .skip (.exit 4)) (.seq (.block 5 (.seq (.region c18r21) (.seq (.region c18r22) (.cond (.t 76) (.region c18r23) .skip)))) (.region c18r24))))
def c18r25 : List AOper :=
 [⟨some 84, none, .fldA (.t 3) 0⟩,
 ⟨some 85, none, .load (.t 84) none⟩,
 ⟨some 86, none, .lenL (.t 85)⟩,
 ⟨some 87, none, .mv (.c (.int .i64 0))⟩]
def c18r26 : List AOper :=
 [⟨some 88, none, .bin .lss (.t 87) (.t 86)⟩]
def c18r27 : List AOper :=
 [⟨some 89, none, .idxA (.t 85) (.t 87) none 4⟩,
 ⟨some 90, none, .load (.t 89) (some 4)⟩,
 ⟨some 17, none, .alloc [.int .i64 0, .int .i64 0, .str [], .str []]⟩,
 ⟨none, none, .store (.t 17) (.t 90) 4⟩]
def c18r28 : List AOper :=
 [⟨some 91, none, .mv (.t 7)⟩,
 ⟨some 92, none, .fldA (.t 17) 0⟩,
 ⟨some 93, none, .load (.t 92) none⟩,
 ⟨some 94, none, .mget 0 (.t 91) (.t 93) (.bool false) false⟩,
 ⟨some 95, none, .mv (.t 94)⟩,
 ⟨some 96, some (95, false), .fldA (.t 17) 0⟩,
 ⟨some 97, some (95, false), .load (.t 96) none⟩,
 ⟨some 98, some (95, false), .fldA (.t 3) 3⟩,
 ⟨some 99, some (95, false), .load (.t 98) none⟩,
 ⟨some 100, some (95, false), .bin .geq (.t 97) (.t 99)⟩,
 ⟨some 101, none, .pick (.t 95) (.c (.bool true)) (.t 100)⟩]
def c18r29 : List AOper :=
 [⟨some 102, none, .build [.nils, .int .i64 0, .int .i64 0] []⟩,
 ⟨none, none, .store (.t 4) (.t 102) 3⟩,
 ⟨some 5, none, .mv (.c (.int .i64 120))⟩]
def c18r30 : List AOper :=
 [⟨some 103, none, .mv (.t 7)⟩,
 ⟨some 104, none, .fldA (.t 17) 0⟩,
 ⟨some 105, none, .load (.t 104) none⟩,
 ⟨none, none, .mupd 0 (.t 103) (.t 105) (.c (.bool true))⟩]
def c18r31 : List AOper :=
 [⟨some 106, none, .fldA (.t 13) 0⟩,
 ⟨some 107, none, .load (.t 106) none⟩,
 ⟨some 108, none, .load (.t 17) (some 4)⟩,
 ⟨some 109, none, .bslice 1 4 [.int .i64 0, .int .i64 0, .str [], .str []] [(0, .t 108)]⟩,
 ⟨some 110, none, .append (.t 107) (.t 109) 4 48 false⟩,
 ⟨some 111, none, .fldA (.t 13) 0⟩,
 ⟨none, none, .store (.t 111) (.t 110) 1⟩]
def c18r32 : List AOper :=
 [⟨some 112, none, .bin .add (.t 87) (.c (.int .i64 1))⟩,
 ⟨some 87, none, .mv (.t 112)⟩]
def c18l3 : AC := (.seq (.region c18r26) (.seq (.cond (.t 88) .skip (.exit 6)) (.seq (.block 7 (.seq (.region c18r27) (.seq (.seq (.region c18r28) (.cond (.t 101) (.seq (.region c18r29) .ret) .skip)) (.seq (.region c18r30) (.region c18r31))))) (.region c18r32))))
def c18r33 : List AOper :=
 [⟨some 113, none, .fldA (.t 13) 0⟩,
 ⟨some 114, none, .load (.t 113) none⟩,
 ⟨some 115, none, .call (.c (.fn 49 [])) [.t 114, .c (.fn 50 [])]⟩]
def c18r34 : List AOper :=
 [⟨some 18, none, .mv (.c (.int .i64 1))⟩]
def c18r35 : List AOper :=
 [⟨some 116, none, .mv (.t 18)⟩,
 ⟨some 117, none, .fldA (.t 13) 0⟩,
 ⟨some 118, none, .load (.t 117) none⟩,
 ⟨some 119, none, .lenL (.t 118)⟩,
 ⟨some 120, none, .bin .lss (.t 116) (.t 119)⟩]
def c18d0 : List (AOper × List Nat) :=
 [(⟨some 123, none, .fldA (.t 13) 0⟩, []),
 (⟨some 124, none, .load (.t 123) none⟩, [0]),
 (⟨some 125, none, .mv (.t 18)⟩, []),
 (⟨some 126, none, .bin .sub (.t 125) (.c (.int .i64 1))⟩, [2]),
 (⟨some 127, none, .idxA (.t 124) (.t 126) none 4⟩, [1, 3]),
 (⟨some 128, none, .load (.t 127) (some 4)⟩, [4]),
 (⟨some 129, none, .fldA (.t 13) 0⟩, []),
 (⟨some 130, none, .load (.t 129) none⟩, [6]),
 (⟨some 131, none, .mv (.t 18)⟩, []),
 (⟨some 132, none, .idxA (.t 130) (.t 131) none 4⟩, [7, 8]),
 (⟨some 133, none, .load (.t 132) (some 4)⟩, [9]),
 (⟨some 19, none, .alloc [.int .i64 0, .int .i64 0, .str [], .str []]⟩, []),
 (⟨some 20, none, .alloc [.int .i64 0, .int .i64 0, .str [], .str []]⟩, []),
 (⟨none, none, .store (.t 19) (.t 128) 4⟩, [11, 5, 0, 1, 2, 3, 4, 5, 11, 12]),
 (⟨none, none, .store (.t 20) (.t 133) 4⟩, [12, 10, 13, 0, 1, 2, 3, 4, 5, 6, 7, 8, 9, 10, 11, 12, 13])]
def c18r36 : List AOper :=
 [⟨some 134, none, .fldA (.t 19) 1⟩,
 ⟨some 135, none, .load (.t 134) none⟩,
 ⟨some 136, none, .bin .gtr (.t 135) (.c (.int .i64 0))⟩,
 ⟨some 137, none, .mv (.t 136)⟩,
 ⟨some 138, some (137, true), .fldA (.t 19) 1⟩,
 ⟨some 139, some (137, true), .load (.t 138) none⟩,
 ⟨some 140, some (137, true), .fldA (.t 20) 1⟩,
 ⟨some 141, some (137, true), .load (.t 140) none⟩,
 ⟨some 142, some (137, true), .bin .eql (.t 139) (.t 141)⟩,
 ⟨some 143, none, .pick (.t 137) (.t 142) (.c (.bool false))⟩,
 ⟨some 144, none, .mv (.t 143)⟩,
 ⟨some 145, some (144, true), .fldA (.t 20) 2⟩,
 ⟨some 146, some (144, true), .load (.t 145) none⟩,
 ⟨some 147, some (144, true), .fldA (.t 19) 3⟩,
 ⟨some 148, some (144, true), .load (.t 147) none⟩,
 ⟨some 149, some (144, true), .bin .leq (.t 146) (.t 148)⟩,
 ⟨some 150, none, .pick (.t 144) (.t 149) (.c (.bool false))⟩]
def c18r37 : List AOper :=
 [⟨some 151, none, .build [.nils, .int .i64 0, .int .i64 0] []⟩,
 ⟨none, none, .store (.t 4) (.t 151) 3⟩,
 ⟨some 5, none, .mv (.c (.int .i64 120))⟩]
def c18r38 : List AOper :=
 [⟨some 121, none, .mv (.t 18)⟩,
 ⟨some 122, none, .bin .add (.t 121) (.c (.int .i64 1))⟩,
 ⟨some 18, none, .mv (.t 122)⟩]
def c18l4 : AC := (.seq (.seq (.region c18r35) (.cond (.t 120) .skip (.exit 8))) (.seq (.block 9 (.seq (.drawn c18d0) (.seq (.region c18r36) (.cond (.t 150) (.seq (.region c18r37) .ret) .skip)))) (.region c18r38)))
def c18r39 : List AOper :=
 [⟨some 152, none, .fldA (.t 3) 2⟩,
 ⟨some 153, none, .load (.t 152) none⟩,
 ⟨some 154, none, .fldA (.t 2) 1⟩,
 ⟨some 155, none, .load (.t 154) none⟩,
 ⟨some 156, none, .bin .lss (.t 153) (.t 155)⟩,
 ⟨some 157, none, .mv (.t 156)⟩,
 ⟨some 158, some (157, false), .fldA (.t 3) 3⟩,
 ⟨some 159, some (157, false), .load (.t 158) none⟩,
 ⟨some 160, some (157, false), .fldA (.t 2) 2⟩,
 ⟨some 161, some (157, false), .load (.t 160) none⟩,
 ⟨some 162, some (157, false), .bin .lss (.t 159) (.t 161)⟩,
 ⟨some 163, none, .pick (.t 157) (.c (.bool true)) (.t 162)⟩]
def c18r40 : List AOper :=
 [⟨some 164, none, .build [.nils, .int .i64 0, .int .i64 0] []⟩,
 ⟨none, none, .store (.t 4) (.t 164) 3⟩,
 ⟨some 5, none, .mv (.c (.int .i64 120))⟩]
def c18r41 : List AOper :=
 [⟨some 165, none, .load (.t 13) (some 3)⟩,
 ⟨none, none, .store (.t 4) (.t 165) 3⟩,
 ⟨some 5, none, .mv (.c (.int .i64 0))⟩]
def c18 : AC := (.seq (.region c18r0) (.seq (.seq (.region c18r1) (.seq (.region c18r2) (.cond (.t 24) (.seq (.region c18r3) .ret) .skip))) (.seq (.region c18r4) (.seq (.seq (.region c18r5) (.block 0 (.loop c18l0))) (.seq (.region c18r10) (.seq (.seq (.region c18r11) (.block 2 (.loop c18l1))) (.seq (.region c18r18) (.seq (.seq (.region c18r19) (.block 4 (.loop c18l2))) (.seq (.seq (.region c18r25) (.block 6 (.loop c18l3))) (.seq (.region c18r33) (.seq (.seq (.region c18r34) (.block 8 (.loop c18l4))) (.seq (.seq (.region c18r39) (.cond (.t 163) (.seq (.region c18r40) .ret) .skip)) (.seq (.region c18r41) .ret)))))))))))))
def r18 : List ARes := [.cell 4 (some 3), .tmp 5]
theorem c18_ok : Try.f18.body.bind (cCode Try.prog Try.f18.ntmps) = some c18 := by kernel_rfl
theorem r18_ok : Try.f18.results.toList.mapM (cRes Try.prog Try.f18.ntmps) = some r18 := by kernel_rfl
def c19r0 : List AOper :=
 [⟨some 2, none, .box (.t 0)⟩,
 ⟨some 3, none, .box (.t 1)⟩,
 ⟨some 4, none, .alloc [.nils, .int .i64 0, .int .i64 0]⟩,
 ⟨some 5, none, .mv (.c (.int .i64 0))⟩]
def c19r1 : List AOper :=
 [⟨some 14, none, .load (.t 3) (some 4)⟩,
 ⟨some 15, none, .call (.c (.fn 31 [])) [.t 14]⟩,
 ⟨some 16, none, .un .not (.t 15)⟩]
def c19r2 : List AOper :=
 [⟨some 17, none, .build [.nils, .int .i64 0, .int .i64 0] []⟩,
 ⟨none, none, .store (.t 4) (.t 17) 3⟩,
 ⟨some 5, none, .mv (.c (.int .i64 1))⟩]
def c19r3 : List AOper :=
 [⟨some 18, none, .fldA (.t 3) 2⟩,
 ⟨some 19, none, .load (.t 18) none⟩,
 ⟨some 20, none, .fldA (.t 2) 1⟩,
 ⟨some 21, none, .load (.t 20) none⟩,
 ⟨some 22, none, .bin .lss (.t 19) (.t 21)⟩,
 ⟨some 23, none, .mv (.t 22)⟩,
 ⟨some 24, some (23, false), .fldA (.t 3) 3⟩,
 ⟨some 25, some (23, false), .load (.t 24) none⟩,
 ⟨some 26, some (23, false), .fldA (.t 2) 2⟩,
 ⟨some 27, some (23, false), .load (.t 26) none⟩,
 ⟨some 28, some (23, false), .bin .lss (.t 25) (.t 27)⟩,
 ⟨some 29, none, .pick (.t 23) (.c (.bool true)) (.t 28)⟩]
def c19r4 : List AOper :=
 [⟨some 30, none, .build [.nils, .int .i64 0, .int .i64 0] []⟩,
 ⟨none, none, .store (.t 4) (.t 30) 3⟩,
 ⟨some 5, none, .mv (.c (.int .i64 120))⟩]
def c19r5 : List AOper :=
 [⟨some 6, none, .mv (.c (.int .i64 0))⟩]
def c19r6 : List AOper :=
 [⟨some 31, none, .mv (.t 6)⟩,
 ⟨some 32, none, .fldA (.t 3) 1⟩,
 ⟨some 33, none, .load (.t 32) none⟩,
 ⟨some 34, none, .lenL (.t 33)⟩,
 ⟨some 35, none, .bin .lss (.t 31) (.t 34)⟩]
def c19d0 : List (AOper × List Nat) :=
 [(⟨some 38, none, .fldA (.t 2) 0⟩, []),
 (⟨some 39, none, .load (.t 38) none⟩, [0]),
 (⟨some 40, none, .fldA (.t 3) 1⟩, []),
 (⟨some 41, none, .load (.t 40) none⟩, [2]),
 (⟨some 42, none, .mv (.t 6)⟩, []),
 (⟨some 43, none, .idxA (.t 41) (.t 42) none 1⟩, [3, 4]),
 (⟨some 44, none, .load (.t 43) none⟩, [5]),
 (⟨some 45, none, .call (.c (.fn 51 [])) [.t 39, .t 44]⟩, [1, 6]),
 (⟨some 46, none, .bin .lss (.t 45) (.c (.int .i64 0))⟩, [7])]
def c19r7 : List AOper :=
 [⟨some 47, none, .build [.nils, .int .i64 0, .int .i64 0] []⟩,
 ⟨none, none, .store (.t 4) (.t 47) 3⟩,
 ⟨some 5, none, .mv (.c (.int .i64 120))⟩]
def c19r8 : List AOper :=
 [⟨some 7, none, .mv (.c (.int .i64 0))⟩]
def c19r9 : List AOper :=
 [⟨some 48, none, .mv (.t 7)⟩,
 ⟨some 49, none, .mv (.t 6)⟩,
 ⟨some 50, none, .bin .lss (.t 48) (.t 49)⟩]
def c19d1 : List (AOper × List Nat) :=
 [(⟨some 53, none, .fldA (.t 3) 1⟩, []),
 (⟨some 54, none, .load (.t 53) none⟩, [0]),
 (⟨some 55, none, .mv (.t 7)⟩, []),
 (⟨some 56, none, .idxA (.t 54) (.t 55) none 1⟩, [1, 2]),
 (⟨some 57, none, .load (.t 56) none⟩, [3]),
 (⟨some 58, none, .fldA (.t 3) 1⟩, []),
 (⟨some 59, none, .load (.t 58) none⟩, [5]),
 (⟨some 60, none, .mv (.t 6)⟩, []),
 (⟨some 61, none, .idxA (.t 59) (.t 60) none 1⟩, [6, 7]),
 (⟨some 62, none, .load (.t 61) none⟩, [8]),
 (⟨some 63, none, .bin .eql (.t 57) (.t 62)⟩, [4, 9])]
def c19r10 : List AOper :=
 [⟨some 64, none, .build [.nils, .int .i64 0, .int .i64 0] []⟩,
 ⟨none, none, .store (.t 4) (.t 64) 3⟩,
 ⟨some 5, none, .mv (.c (.int .i64 120))⟩]
def c19r11 : List AOper :=
 [⟨some 51, none, .mv (.t 7)⟩,
 ⟨some 52, none, .bin .add (.t 51) (.c (.int .i64 1))⟩,
 ⟨some 7, none, .mv (.t 52)⟩]
def c19l1 : AC := (.seq (.seq (.region c19r9) (.cond (.t 50) .skip (.exit 2))) (.seq (.block 3 (.seq (.drawn c19d1) (.cond (.t 63) (.seq (.region c19r10) .ret) .skip))) (.region c19r11)))
def c19r12 : List AOper :=
 [⟨some 36, none, .mv (.t 6)⟩,
 ⟨some 37, none, .bin .add (.t 36) (.c (.int .i64 1))⟩,
 ⟨some 6, none, .mv (.t 37)⟩]
def c19l0 : AC := (.seq (.seq (.region c19r6) (.cond (.t 35) .skip (.exit 0))) (.seq (.block 1 (.seq (.seq (.drawn c19d0) (.cond (.t 46) (.seq (.region c19r7) .ret) .skip)) (.seq (.region c19r8) (.block 2 (.loop c19l1))))) (.region c19r12)))
def c19r13 : List AOper :=
 [⟨some 8, none, .mv (.c .nils)⟩]
def c19r14 : List AOper :=
 [⟨some 9, none, .mv (.c (.int .i64 0))⟩]
def c19r15 : List AOper :=
 [⟨some 65, none, .mv (.t 9)⟩,
 ⟨some 66, none, .fldA (.t 2) 0⟩,
 ⟨some 67, none, .load (.t 66) none⟩,
 ⟨some 68, none, .lenL (.t 67)⟩,
 ⟨some 69, none, .bin .lss (.t 65) (.t 68)⟩]
def c19r16 : List AOper :=
 [⟨some 10, none, .mv (.c (.bool false))⟩]
def c19r17 : List AOper :=
 [⟨some 11, none, .mv (.c (.int .i64 0))⟩]
def c19r18 : List AOper :=
 [⟨some 72, none, .mv (.t 11)⟩,
 ⟨some 73, none, .fldA (.t 3) 1⟩,
 ⟨some 74, none, .load (.t 73) none⟩,
 ⟨some 75, none, .lenL (.t 74)⟩,
 ⟨some 76, none, .bin .lss (.t 72) (.t 75)⟩]
def c19d2 : List (AOper × List Nat) :=
 [(⟨some 79, none, .mv (.t 10)⟩, []),
 (⟨some 80, none, .mv (.t 79)⟩, [0]),
 (⟨some 81, some (80, false), .fldA (.t 3) 1⟩, [1]),
 (⟨some 82, some (80, false), .load (.t 81) none⟩, [2, 1]),
 (⟨some 83, some (80, false), .mv (.t 11)⟩, [1]),
 (⟨some 84, some (80, false), .idxA (.t 82) (.t 83) none 1⟩, [3, 4, 1]),
 (⟨some 85, some (80, false), .load (.t 84) none⟩, [5, 1]),
 (⟨some 86, some (80, false), .fldA (.t 2) 0⟩, [1]),
 (⟨some 87, some (80, false), .load (.t 86) none⟩, [7, 1]),
 (⟨some 88, some (80, false), .mv (.t 9)⟩, [1]),
 (⟨some 89, some (80, false), .idxA (.t 87) (.t 88) none 4⟩, [8, 9, 1]),
 (⟨some 90, some (80, false), .fldA (.t 89) 0⟩, [10, 1]),
 (⟨some 91, some (80, false), .load (.t 90) none⟩, [11, 1]),
 (⟨some 92, some (80, false), .bin .eql (.t 85) (.t 91)⟩, [6, 12, 1]),
 (⟨some 93, none, .pick (.t 80) (.c (.bool true)) (.t 92)⟩, [1, 13]),
 (⟨some 10, none, .mv (.t 93)⟩, [14, 1, 0, 1, 2, 3, 4, 5, 6, 7, 8, 9, 10, 11, 12, 13, 14])]
def c19r19 : List AOper :=
 [⟨some 77, none, .mv (.t 11)⟩,
 ⟨some 78, none, .bin .add (.t 77) (.c (.int .i64 1))⟩,
 ⟨some 11, none, .mv (.t 78)⟩]
def c19l3 : AC := (.seq (.seq (.region c19r18) (.cond (.t 76) .skip (.exit 6))) (.seq (.block 7 (.drawn c19d2)) (.region c19r19)))
def c19r20 : List AOper :=
 [⟨some 94, none, .mv (.t 10)⟩,
 ⟨some 95, none, .un .not (.t 94)⟩]
def c19r21 : List AOper :=
 [⟨some 96, none, .mv (.t 8)⟩,
 ⟨some 97, none, .fldA (.t 2) 0⟩,
 ⟨some 98, none, .load (.t 97) none⟩,
 ⟨some 99, none, .mv (.t 9)⟩,
 ⟨some 100, none, .idxA (.t 98) (.t 99) none 4⟩,
 ⟨some 101, none, .load (.t 100) (some 4)⟩,
 ⟨some 102, none, .bslice 1 4 [.int .i64 0, .int .i64 0, .str [], .str []] [(0, .t 101)]⟩,
 ⟨some 103, none, .append (.t 96) (.t 102) 4 48 false⟩,
 ⟨some 8, none, .mv (.t 103)⟩]
def c19r22 : List AOper :=
 [⟨some 70, none, .mv (.t 9)⟩,
 ⟨some 71, none, .bin .add (.t 70) (.c (.int .i64 1))⟩,
 ⟨some 9, none, .mv (.t 71)⟩]
def c19l2 : AC := (.seq (.seq (.region c19r15) (.cond (.t 69) .skip (.exit 4))) (.seq (.block 5 (.seq (.region c19r16) (.seq (.seq (.region c19r17) (.block 6 (.loop c19l3))) (.seq (.region c19r20) (.cond (.t 95) (.region c19r21) .skip))))) (.region c19r22)))
def c19r23 : List AOper :=
 [⟨some 12, none, .mv (.c (.int .i64 0))⟩]
def c19r24 : List AOper :=
 [⟨some 104, none, .mv (.t 12)⟩,
 ⟨some 105, none, .fldA (.t 3) 0⟩,
 ⟨some 106, none, .load (.t 105) none⟩,
 ⟨some 107, none, .lenL (.t 106)⟩,
 ⟨some 108, none, .bin .lss (.t 104) (.t 107)⟩]
def c19r25 : List AOper :=
 [⟨some 111, none, .fldA (.t 3) 0⟩,
 ⟨some 112, none, .load (.t 111) none⟩,
 ⟨some 113, none, .mv (.t 12)⟩,
 ⟨some 114, none, .idxA (.t 112) (.t 113) none 4⟩,
 ⟨some 115, none, .load (.t 114) (some 4)⟩,
 ⟨some 13, none, .alloc [.int .i64 0, .int .i64 0, .str [], .str []]⟩,
 ⟨none, none, .store (.t 13) (.t 115) 4⟩]
def c19r26 : List AOper :=
 [⟨some 116, none, .fldA (.t 2) 0⟩,
 ⟨some 117, none, .load (.t 116) none⟩,
 ⟨some 118, none, .fldA (.t 13) 0⟩,
 ⟨some 119, none, .load (.t 118) none⟩,
 ⟨some 120, none, .call (.c (.fn 51 [])) [.t 117, .t 119]⟩,
 ⟨some 121, none, .bin .geq (.t 120) (.c (.int .i64 0))⟩,
 ⟨some 122, none, .mv (.t 121)⟩,
 ⟨some 123, some (122, false), .fldA (.t 3) 0⟩,
 ⟨some 124, some (122, false), .load (.t 123) none⟩,
 ⟨some 125, some (122, false), .fldA (.t 13) 0⟩,
 ⟨some 126, some (122, false), .load (.t 125) none⟩,
 ⟨some 127, some (122, false), .call (.c (.fn 51 [])) [.t 124, .t 126]⟩,
 ⟨some 128, some (122, false), .mv (.t 12)⟩,
 ⟨some 129, some (122, false), .bin .neq (.t 127) (.t 128)⟩,
 ⟨some 130, none, .pick (.t 122) (.c (.bool true)) (.t 129)⟩,
 ⟨some 131, none, .mv (.t 130)⟩,
 ⟨some 132, some (131, false), .fldA (.t 13) 0⟩,
 ⟨some 133, some (131, false), .load (.t 132) none⟩,
 ⟨some 134, some (131, false), .fldA (.t 3) 3⟩,
 ⟨some 135, some (131, false), .load (.t 134) none⟩,
 ⟨some 136, some (131, false), .bin .geq (.t 133) (.t 135)⟩,
 ⟨some 137, none, .pick (.t 131) (.c (.bool true)) (.t 136)⟩]
def c19r27 : List AOper :=
 [⟨some 138, none, .build [.nils, .int .i64 0, .int .i64 0] []⟩,
 ⟨none, none, .store (.t 4) (.t 138) 3⟩,
 ⟨some 5, none, .mv (.c (.int .i64 120))⟩]
def c19r28 : List AOper :=
 [⟨some 139, none, .mv (.t 8)⟩,
 ⟨some 140, none, .load (.t 13) (some 4)⟩,
 ⟨some 141, none, .call (.c (.fn 52 [])) [.t 139, .t 140]⟩,
 ⟨some 8, none, .mv (.t 141)⟩]
def c19r29 : List AOper :=
 [⟨some 109, none, .mv (.t 12)⟩,
 ⟨some 110, none, .bin .add (.t 109) (.c (.int .i64 1))⟩,
 ⟨some 12, none, .mv (.t 110)⟩]
def c19l4 : AC := (.seq (.seq (.region c19r24) (.cond (.t 108) .skip (.exit 8))) (.seq (.block 9 (.seq (.region c19r25) (.seq (.seq (.region c19r26) (.cond (.t 137) (.seq (.region c19r27) .ret) .skip)) (.region c19r28)))) (.region c19r29)))
def c19r30 : List AOper :=
 [⟨some 142, none, .mv (.t 8)⟩,
 ⟨some 143, none, .call (.c (.fn 53 [])) [.t 142]⟩,
 ⟨some 144, none, .un .not (.t 143)⟩]
def c19r31 : List AOper :=
 [⟨some 145, none, .build [.nils, .int .i64 0, .int .i64 0] []⟩,
 ⟨none, none, .store (.t 4) (.t 145) 3⟩,
 ⟨some 5, none, .mv (.c (.int .i64 120))⟩]
def c19r32 : List AOper :=
 [⟨some 146, none, .mv (.t 8)⟩,
 ⟨some 147, none, .fldA (.t 3) 2⟩,
 ⟨some 148, none, .load (.t 147) none⟩,
 ⟨some 149, none, .fldA (.t 3) 3⟩,
 ⟨some 150, none, .load (.t 149) none⟩,
 ⟨some 151, none, .build [.nils, .int .i64 0, .int .i64 0] [(0, 1, .t 146), (1, 1, .t 148), (2, 1, .t 150)]⟩,
 ⟨none, none, .store (.t 4) (.t 151) 3⟩,
 ⟨some 5, none, .mv (.c (.int .i64 0))⟩]
def c19 : AC := (.seq (.region c19r0) (.seq (.seq (.region c19r1) (.cond (.t 16) (.seq (.region c19r2) .ret) .skip)) (.seq (.seq (.region c19r3) (.cond (.t 29) (.seq (.region c19r4) .ret) .skip)) (.seq (.seq (.region c19r5) (.block 0 (.loop c19l0))) (.seq (.region c19r13) (.seq (.seq (.region c19r14) (.block 4 (.loop c19l2))) (.seq (.seq (.region c19r23) (.block 8 (.loop c19l4))) (.seq (.seq (.region c19r30) (.cond (.t 144) (.seq (.region c19r31) .ret) .skip)) (.seq (.region c19r32) .ret)))))))))
def r19 : List ARes := [.cell 4 (some 3), .tmp 5]
theorem c19_ok : Try.f19.body.bind (cCode Try.prog Try.f19.ntmps) = some c19 := by kernel_rfl
theorem r19_ok : Try.f19.results.toList.mapM (cRes Try.prog Try.f19.ntmps) = some r19 := by kernel_rfl
def c20r0 : List AOper :=
 [⟨some 2, none, .box (.t 0)⟩,
 ⟨some 3, none, .box (.t 1)⟩,
 ⟨some 4, none, .mv (.c (.bool false))⟩]
def c20r1 : List AOper :=
 [⟨some 5, none, .fldA (.t 2) 0⟩,
 ⟨some 6, none, .load (.t 5) none⟩,
 ⟨some 7, none, .fldA (.t 3) 0⟩,
 ⟨some 8, none, .load (.t 7) none⟩,
 ⟨some 9, none, .call (.c (.fn 21 [])) [.t 6, .t 8]⟩,
 ⟨some 10, none, .mv (.t 9)⟩,
 ⟨some 11, some (10, true), .fldA (.t 2) 1⟩,
 ⟨some 12, some (10, true), .load (.t 11) none⟩,
 ⟨some 13, some (10, true), .fldA (.t 3) 1⟩,
 ⟨some 14, some (10, true), .load (.t 13) none⟩,
 ⟨some 15, some (10, true), .bin .eql (.t 12) (.t 14)⟩,
 ⟨some 16, none, .pick (.t 10) (.t 15) (.c (.bool false))⟩,
 ⟨some 17, none, .mv (.t 16)⟩,
 ⟨some 18, some (17, true), .fldA (.t 2) 2⟩,
 ⟨some 19, some (17, true), .load (.t 18) none⟩,
 ⟨some 20, some (17, true), .fldA (.t 3) 2⟩,
 ⟨some 21, some (17, true), .load (.t 20) none⟩,
 ⟨some 22, some (17, true), .bin .eql (.t 19) (.t 21)⟩,
 ⟨some 23, none, .pick (.t 17) (.t 22) (.c (.bool false))⟩,
 ⟨some 4, none, .mv (.t 23)⟩]
def c20 : AC := (.seq (.region c20r0) (.seq (.region c20r1) .ret))
def r20 : List ARes := [.tmp 4]
theorem c20_ok : Try.f20.body.bind (cCode Try.prog Try.f20.ntmps) = some c20 := by kernel_rfl
theorem r20_ok : Try.f20.results.toList.mapM (cRes Try.prog Try.f20.ntmps) = some r20 := by kernel_rfl
def c21r0 : List AOper :=
 [⟨some 4, none, .mv (.c (.bool false))⟩]
def c21r1 : List AOper :=
 [⟨some 6, none, .mv (.t 0)⟩,
 ⟨some 7, none, .lenL (.t 6)⟩,
 ⟨some 8, none, .mv (.t 1)⟩,
 ⟨some 9, none, .lenL (.t 8)⟩,
 ⟨some 10, none, .bin .neq (.t 7) (.t 9)⟩]
def c21r2 : List AOper :=
 [⟨some 4, none, .mv (.c (.bool false))⟩]
def c21r3 : List AOper :=
 [⟨some 5, none, .mv (.c (.int .i64 0))⟩]
def c21r4 : List AOper :=
 [⟨some 11, none, .mv (.t 5)⟩,
 ⟨some 12, none, .mv (.t 0)⟩,
 ⟨some 13, none, .lenL (.t 12)⟩,
 ⟨some 14, none, .bin .lss (.t 11) (.t 13)⟩]
def c21d0 : List (AOper × List Nat) :=
 [(⟨some 17, none, .mv (.t 0)⟩, []),
 (⟨some 18, none, .mv (.t 5)⟩, []),
 (⟨some 19, none, .idxA (.t 17) (.t 18) none 4⟩, [0, 1]),
 (⟨some 20, none, .load (.t 19) (some 4)⟩, [2]),
 (⟨some 21, none, .mv (.t 1)⟩, []),
 (⟨some 22, none, .mv (.t 5)⟩, []),
 (⟨some 23, none, .idxA (.t 21) (.t 22) none 4⟩, [4, 5]),
 (⟨some 24, none, .load (.t 23) (some 4)⟩, [6]),
 (⟨some 25, none, .eqG true [1, 1, 2, 2] (.t 20) (.t 24)⟩, [3, 7])]
def c21r5 : List AOper :=
 [⟨some 4, none, .mv (.c (.bool false))⟩]
def c21r6 : List AOper :=
 [⟨some 15, none, .mv (.t 5)⟩,
 ⟨some 16, none, .bin .add (.t 15) (.c (.int .i64 1))⟩,
 ⟨some 5, none, .mv (.t 16)⟩]
def c21l0 : AC := (.seq (.seq (.region c21r4) (.cond (.t 14) .skip (.exit 0))) (.seq (.block 1 (.seq (.drawn c21d0) (.cond (.t 25) (.seq (.region c21r5) .ret) .skip))) (.region c21r6)))
def c21r7 : List AOper :=
 [⟨some 4, none, .mv (.c (.bool true))⟩]
def c21 : AC := (.seq (.region c21r0) (.seq (.seq (.region c21r1) (.cond (.t 10) (.seq (.region c21r2) .ret) .skip)) (.seq (.seq (.region c21r3) (.block 0 (.loop c21l0))) (.seq (.region c21r7) .ret))))
def r21 : List ARes := [.tmp 4]
theorem c21_ok : Try.f21.body.bind (cCode Try.prog Try.f21.ntmps) = some c21 := by kernel_rfl
theorem r21_ok : Try.f21.results.toList.mapM (cRes Try.prog Try.f21.ntmps) = some r21 := by kernel_rfl
def c22r0 : List AOper :=
 [⟨some 4, none, .box (.t 0)⟩,
 ⟨some 5, none, .box (.t 1)⟩,
 ⟨some 6, none, .box (.t 2)⟩,
 ⟨some 7, none, .box (.t 3)⟩,
 ⟨some 8, none, .mv (.c .nils)⟩]
def c22r1 : List AOper :=
 [⟨some 9, none, .fldA (.t 4) 0⟩,
 ⟨some 10, none, .load (.t 9) none⟩,
 ⟨some 11, none, .call (.c (.fn 55 [])) [.t 10]⟩,
 ⟨some 12, none, .mkf 56 [.t 5, .t 6, .t 7]⟩,
 ⟨some 13, none, .call (.c (.fn 54 [])) [.t 11, .t 12]⟩,
 ⟨some 8, none, .mv (.t 13)⟩]
def c22 : AC := (.seq (.region c22r0) (.seq (.region c22r1) .ret))
def r22 : List ARes := [.tmp 8]
theorem c22_ok : Try.f22.body.bind (cCode Try.prog Try.f22.ntmps) = some c22 := by kernel_rfl
theorem r22_ok : Try.f22.results.toList.mapM (cRes Try.prog Try.f22.ntmps) = some r22 := by kernel_rfl
def c23r0 : List AOper :=
 [⟨some 4, none, .box (.t 0)⟩,
 ⟨some 8, none, .mv (.c .nils)⟩]
def c23r1 : List AOper :=
 [⟨some 9, none, .mv (.c .nils)⟩]
def c23r2 : List AOper :=
 [⟨some 10, none, .mv (.c (.int .i64 0))⟩]
def c23r3 : List AOper :=
 [⟨some 12, none, .mv (.t 10)⟩,
 ⟨some 13, none, .fldA (.t 4) 0⟩,
 ⟨some 14, none, .load (.t 13) none⟩,
 ⟨some 15, none, .lenL (.t 14)⟩,
 ⟨some 16, none, .bin .lss (.t 12) (.t 15)⟩]
def c23r4 : List AOper :=
 [⟨some 19, none, .fldA (.t 4) 0⟩,
 ⟨some 20, none, .load (.t 19) none⟩,
 ⟨some 21, none, .mv (.t 10)⟩,
 ⟨some 22, none, .idxA (.t 20) (.t 21) none 4⟩,
 ⟨some 23, none, .load (.t 22) (some 4)⟩,
 ⟨some 11, none, .alloc [.int .i64 0, .int .i64 0, .str [], .str []]⟩,
 ⟨none, none, .store (.t 11) (.t 23) 4⟩]
def c23r5 : List AOper :=
 [⟨some 24, none, .fldA (.t 11) 1⟩,
 ⟨some 25, none, .load (.t 24) none⟩,
 ⟨some 26, none, .mv (.t 1)⟩,
 ⟨some 27, none, .bin .eql (.t 25) (.t 26)⟩,
 ⟨some 28, none, .mv (.t 27)⟩,
 ⟨some 29, some (28, true), .fldA (.t 11) 3⟩,
 ⟨some 30, some (28, true), .load (.t 29) none⟩,
 ⟨some 31, some (28, true), .mv (.t 2)⟩,
 ⟨some 32, some (28, true), .bin .geq (.t 30) (.t 31)⟩,
 ⟨some 33, none, .pick (.t 28) (.t 32) (.c (.bool false))⟩,
 ⟨some 34, none, .mv (.t 33)⟩,
 ⟨some 35, some (34, true), .fldA (.t 11) 2⟩,
 ⟨some 36, some (34, true), .load (.t 35) none⟩,
 ⟨some 37, some (34, true), .mv (.t 3)⟩,
 ⟨some 38, some (34, true), .bin .leq (.t 36) (.t 37)⟩,
 ⟨some 39, none, .pick (.t 34) (.t 38) (.c (.bool false))⟩]
def c23r6 : List AOper :=
 [⟨some 40, none, .mv (.t 9)⟩,
 ⟨some 41, none, .load (.t 11) (some 4)⟩,
 ⟨some 42, none, .bslice 1 4 [.int .i64 0, .int .i64 0, .str [], .str []] [(0, .t 41)]⟩,
 ⟨some 43, none, .append (.t 40) (.t 42) 4 48 false⟩,
 ⟨some 9, none, .mv (.t 43)⟩]
def c23r7 : List AOper :=
 [⟨some 17, none, .mv (.t 10)⟩,
 ⟨some 18, none, .bin .add (.t 17) (.c (.int .i64 1))⟩,
 ⟨some 10, none, .mv (.t 18)⟩]
def c23l0 : AC := (.seq (.seq (.region c23r3) (.cond (.t 16) .skip (.exit 0))) (.seq (.block 1 (.seq (.region c23r4) (.seq (.region c23r5) (.cond (.t 39) (.region c23r6) .skip)))) (.region c23r7)))
def c23r8 : List AOper :=
 [⟨some 44, none, .mv (.t 9)⟩,
 ⟨some 8, none, .mv (.t 44)⟩]
def c23 : AC := (.seq (.region c23r0) (.seq (.region c23r1) (.seq (.seq (.region c23r2) (.block 0 (.loop c23l0))) (.seq (.region c23r8) .ret))))
def r23 : List ARes := [.tmp 8]
theorem c23_ok : Try.f23.body.bind (cCode Try.prog Try.f23.ntmps) = some c23 := by kernel_rfl
theorem r23_ok : Try.f23.results.toList.mapM (cRes Try.prog Try.f23.ntmps) = some r23 := by kernel_rfl
def c24r0 : List AOper :=
 [⟨some 2, none, .alloc [.nils, .int .i64 0, .int .i64 0]⟩,
 ⟨some 3, none, .mv (.c (.int .i64 0))⟩]
def c24r1 : List AOper :=
 [⟨some 4, none, .alloc [.nils, .int .i64 0, .int .i64 0]⟩]
def c24r2 : List AOper :=
 [⟨some 9, none, .mv (.t 0)⟩,
 ⟨some 10, none, .lenL (.t 9)⟩,
 ⟨some 11, none, .mv (.c (.int .i64 0))⟩]
def c24r3 : List AOper :=
 [⟨some 12, none, .bin .lss (.t 11) (.t 10)⟩]
def c24r4 : List AOper :=
 [⟨some 13, none, .idxA (.t 9) (.t 11) none 1⟩,
 ⟨some 14, none, .load (.t 13) none⟩,
 ⟨some 6, none, .mv (.t 14)⟩]
def c24r5 : List AOper :=
 [⟨some 16, none, .mv (.t 6)⟩,
 ⟨some 17, none, .call (.c (.fn 13 [])) [.t 16]⟩,
 ⟨some 15, none, .mv (.t 17)⟩,
 ⟨some 18, none, .ext (.t 15) 0⟩,
 ⟨some 19, none, .ext (.t 15) 1⟩,
 ⟨some 7, none, .alloc [.nils, .nils, .int .i64 0, .int .i64 0]⟩,
 ⟨none, none, .store (.t 7) (.t 18) 4⟩,
 ⟨some 8, none, .mv (.t 19)⟩]
def c24r6 : List AOper :=
 [⟨some 20, none, .mv (.t 8)⟩,
 ⟨some 21, none, .bin .eql (.t 20) (.c (.int .i64 0))⟩]
def c24r7 : List AOper :=
 [⟨some 23, none, .load (.t 4) (some 3)⟩,
 ⟨some 24, none, .load (.t 7) (some 4)⟩,
 ⟨some 25, none, .call (.c (.fn 18 [])) [.t 23, .t 24]⟩,
 ⟨some 22, none, .mv (.t 25)⟩,
 ⟨some 26, none, .ext (.t 22) 0⟩,
 ⟨some 27, none, .ext (.t 22) 1⟩,
 ⟨none, none, .store (.t 4) (.t 26) 3⟩,
 ⟨some 8, none, .mv (.t 27)⟩]
def c24r8 : List AOper :=
 [⟨some 28, none, .mv (.t 8)⟩,
 ⟨some 29, none, .bin .neq (.t 28) (.c (.int .i64 0))⟩]
def c24r9 : List AOper :=
 [⟨some 30, none, .build [.nils, .int .i64 0, .int .i64 0] []⟩,
 ⟨none, none, .store (.t 2) (.t 30) 3⟩,
 ⟨some 3, none, .mv (.c (.int .i64 120))⟩]
def c24r10 : List AOper :=
 [⟨some 31, none, .bin .add (.t 11) (.c (.int .i64 1))⟩,
 ⟨some 11, none, .mv (.t 31)⟩]
def c24l0 : AC := (.seq (.region c24r3) (.seq (.cond (.t 12) .skip (.exit 0)) (.seq (.block 1 (.seq (.region c24r4) (.seq (.region c24r5) (.seq (.seq (.region c24r6) (.cond (.t 21) (.region c24r7) .skip)) (.seq (.region c24r8) (.cond (.t 29) (.seq (.region c24r9) .ret) .skip)))))) (.region c24r10))))
def c24r11 : List AOper :=
 [⟨some 32, none, .load (.t 4) (some 3)⟩,
 ⟨none, none, .store (.t 2) (.t 32) 3⟩,
 ⟨some 3, none, .mv (.c (.int .i64 0))⟩]
def c24 : AC := (.seq (.region c24r0) (.seq (.region c24r1) (.seq (.seq (.region c24r2) (.block 0 (.loop c24l0))) (.seq (.region c24r11) .ret))))
def r24 : List ARes := [.cell 2 (some 3), .tmp 3]
theorem c24_ok : Try.f24.body.bind (cCode Try.prog Try.f24.ntmps) = some c24 := by kernel_rfl
theorem r24_ok : Try.f24.results.toList.mapM (cRes Try.prog Try.f24.ntmps) = some r24 := by kernel_rfl
def c25r0 : List AOper :=
 [⟨some 2, none, .alloc [.nils, .int .i64 0, .int .i64 0]⟩,
 ⟨some 3, none, .mv (.c (.int .i64 0))⟩]
def c25r1 : List AOper :=
 [⟨some 10, none, .build [.nils, .int .i64 0, .int .i64 0] []⟩,
 ⟨some 4, none, .alloc [.nils, .int .i64 0, .int .i64 0]⟩,
 ⟨none, none, .store (.t 4) (.t 10) 3⟩]
def c25r2 : List AOper :=
 [⟨some 5, none, .mv (.c (.int .i64 0))⟩]
def c25r3 : List AOper :=
 [⟨some 11, none, .mv (.t 5)⟩,
 ⟨some 12, none, .mv (.t 0)⟩,
 ⟨some 13, none, .lenL (.t 12)⟩,
 ⟨some 14, none, .bin .lss (.t 11) (.t 13)⟩]
def c25r4 : List AOper :=
 [⟨some 18, none, .mv (.t 0)⟩,
 ⟨some 19, none, .mv (.t 5)⟩,
 ⟨some 20, none, .idxA (.t 18) (.t 19) none 1⟩,
 ⟨some 21, none, .load (.t 20) none⟩,
 ⟨some 22, none, .call (.c (.fn 14 [])) [.t 21]⟩,
 ⟨some 17, none, .mv (.t 22)⟩,
 ⟨some 23, none, .ext (.t 17) 0⟩,
 ⟨some 24, none, .ext (.t 17) 1⟩,
 ⟨some 6, none, .alloc [.nils, .nils, .int .i64 0, .int .i64 0]⟩,
 ⟨none, none, .store (.t 6) (.t 23) 4⟩,
 ⟨some 7, none, .mv (.t 24)⟩]
def c25r5 : List AOper :=
 [⟨some 25, none, .mv (.t 7)⟩,
 ⟨some 26, none, .bin .neq (.t 25) (.c (.int .i64 0))⟩]
def c25r6 : List AOper :=
 [⟨some 27, none, .build [.nils, .int .i64 0, .int .i64 0] []⟩,
 ⟨none, none, .store (.t 2) (.t 27) 3⟩,
 ⟨some 3, none, .mv (.c (.int .i64 120))⟩]
def c25r7 : List AOper :=
 [⟨some 29, none, .load (.t 4) (some 3)⟩,
 ⟨some 30, none, .load (.t 6) (some 4)⟩,
 ⟨some 31, none, .call (.c (.fn 19 [])) [.t 29, .t 30]⟩,
 ⟨some 28, none, .mv (.t 31)⟩,
 ⟨some 32, none, .ext (.t 28) 0⟩,
 ⟨some 33, none, .ext (.t 28) 1⟩,
 ⟨some 8, none, .alloc [.nils, .int .i64 0, .int .i64 0]⟩,
 ⟨none, none, .store (.t 8) (.t 32) 3⟩,
 ⟨some 9, none, .mv (.t 33)⟩]
def c25r8 : List AOper :=
 [⟨some 34, none, .mv (.t 9)⟩,
 ⟨some 35, none, .bin .neq (.t 34) (.c (.int .i64 0))⟩]
def c25r9 : List AOper :=
 [⟨some 36, none, .build [.nils, .int .i64 0, .int .i64 0] []⟩,
 ⟨none, none, .store (.t 2) (.t 36) 3⟩,
 ⟨some 3, none, .mv (.c (.int .i64 120))⟩]
def c25r10 : List AOper :=
 [⟨some 37, none, .load (.t 8) (some 3)⟩,
 ⟨none, none, .store (.t 4) (.t 37) 3⟩]
def c25r11 : List AOper :=
 [⟨some 15, none, .mv (.t 5)⟩,
 ⟨some 16, none, .bin .add (.t 15) (.c (.int .i64 1))⟩,
 ⟨some 5, none, .mv (.t 16)⟩]
def c25l0 : AC := (.seq (.seq (.region c25r3) (.cond (.t 14) .skip (.exit 0))) (.seq (.block 1 (.seq (.region c25r4) (.seq (.seq (.region c25r5) (.cond (.t 26) (.seq (.region c25r6) .ret) .skip)) (.seq (.region c25r7) (.seq (.seq (.region c25r8) (.cond (.t 35) (.seq (.region c25r9) .ret) .skip)) (.region c25r10)))))) (.region c25r11)))
def c25r12 : List AOper :=
 [⟨some 38, none, .load (.t 4) (some 3)⟩,
 ⟨none, none, .store (.t 2) (.t 38) 3⟩,
 ⟨some 3, none, .mv (.c (.int .i64 0))⟩]
def c25 : AC := (.seq (.region c25r0) (.seq (.region c25r1) (.seq (.seq (.region c25r2) (.block 0 (.loop c25l0))) (.seq (.region c25r12) .ret))))
def r25 : List ARes := [.cell 2 (some 3), .tmp 3]
theorem c25_ok : Try.f25.body.bind (cCode Try.prog Try.f25.ntmps) = some c25 := by kernel_rfl
theorem r25_ok : Try.f25.results.toList.mapM (cRes Try.prog Try.f25.ntmps) = some r25 := by kernel_rfl
def c26r0 : List AOper :=
 [⟨some 7, none, .mv (.t 0)⟩,
 ⟨some 8, none, .lenL (.t 7)⟩,
 ⟨some 9, none, .mv (.c (.int .i64 0))⟩]
def c26r1 : List AOper :=
 [⟨some 10, none, .bin .lss (.t 9) (.t 8)⟩]
def c26r2 : List AOper :=
 [⟨some 11, none, .idxA (.t 7) (.t 9) none 1⟩,
 ⟨some 12, none, .load (.t 11) none⟩,
 ⟨some 4, none, .mv (.t 12)⟩]
def c26r3 : List AOper :=
 [⟨some 14, none, .mv (.t 4)⟩,
 ⟨some 15, none, .call (.c (.fn 27 [])) [.t 14]⟩,
 ⟨some 13, none, .mv (.t 15)⟩,
 ⟨some 16, none, .ext (.t 13) 0⟩,
 ⟨some 17, none, .ext (.t 13) 1⟩,
 ⟨some 5, none, .mv (.t 16)⟩,
 ⟨some 6, none, .mv (.t 17)⟩]
def c26r4 : List AOper :=
 [⟨some 18, none, .mv (.t 5)⟩,
 ⟨some 19, none, .call (.c (.fn 28 [])) [.t 1, .t 18]⟩]
def c26r5 : List AOper :=
 [⟨some 20, none, .bin .add (.t 9) (.c (.int .i64 1))⟩,
 ⟨some 9, none, .mv (.t 20)⟩]
def c26l0 : AC := (.seq (.region c26r1) (.seq (.cond (.t 10) .skip (.exit 0)) (.seq (.block 1 (.seq (.region c26r2) (.seq (.region c26r3) (.region c26r4)))) (.region c26r5))))
def c26 : AC := (.seq (.region c26r0) (.block 0 (.loop c26l0)))
def r26 : List ARes := []
theorem c26_ok : Try.f26.body.bind (cCode Try.prog Try.f26.ntmps) = some c26 := by kernel_rfl
theorem r26_ok : Try.f26.results.toList.mapM (cRes Try.prog Try.f26.ntmps) = some r26 := by kernel_rfl
def c27r0 : List AOper :=
 [⟨some 2, none, .mv (.c (.str []))⟩,
 ⟨some 3, none, .mv (.c (.int .i64 0))⟩]
def c27r1 : List AOper :=
 [⟨some 5, none, .mv (.t 0)⟩,
 ⟨some 6, none, .bin .lss (.t 5) (.c (.int .i64 0))⟩,
 ⟨some 7, none, .mv (.t 6)⟩,
 ⟨some 8, some (7, false), .mv (.t 0)⟩,
 ⟨some 9, some (7, false), .bin .gtr (.t 8) (.c (.int .i64 4611686018427387904))⟩,
 ⟨some 10, none, .pick (.t 7) (.c (.bool true)) (.t 9)⟩]
def c27r2 : List AOper :=
 [⟨some 2, none, .mv (.c (.str []))⟩,
 ⟨some 3, none, .mv (.c (.int .i64 1))⟩]
def c27r3 : List AOper :=
 [⟨some 4, none, .mv (.c .nils)⟩]
def c27r4 : List AOper :=
 [⟨some 11, none, .mv (.t 0)⟩,
 ⟨some 12, none, .bin .geq (.t 11) (.c (.int .i64 128))⟩]
def c27r5 : List AOper :=
 [⟨some 15, none, .mv (.t 4)⟩,
 ⟨some 16, none, .mv (.t 0)⟩,
 ⟨some 17, none, .convI .u8 (.t 16)⟩,
 ⟨some 18, none, .bin .or (.t 17) (.c (.int .u8 128))⟩,
 ⟨some 19, none, .bslice 1 1 [.int .u8 0] [(0, .t 18)]⟩,
 ⟨some 20, none, .append (.t 15) (.t 19) 1 1 false⟩,
 ⟨some 4, none, .mv (.t 20)⟩]
def c27r6 : List AOper :=
 [⟨some 13, none, .mv (.t 0)⟩,
 ⟨some 14, none, .bin .shr (.t 13) (.c (.int .u64 7))⟩,
 ⟨some 0, none, .mv (.t 14)⟩]
def c27l0 : AC := (.seq (.seq (.region c27r4) (.cond (.t 12) .skip (.exit 0))) (.seq (.block 1 (.region c27r5)) (.region c27r6)))
def c27r7 : List AOper :=
 [⟨some 21, none, .mv (.t 4)⟩,
 ⟨some 22, none, .mv (.t 0)⟩,
 ⟨some 23, none, .convI .u8 (.t 22)⟩,
 ⟨some 24, none, .bslice 1 1 [.int .u8 0] [(0, .t 23)]⟩,
 ⟨some 25, none, .append (.t 21) (.t 24) 1 1 false⟩,
 ⟨some 26, none, .b2s (.t 25)⟩,
 ⟨some 2, none, .mv (.t 26)⟩,
 ⟨some 3, none, .mv (.c (.int .i64 0))⟩]
def c27 : AC := (.seq (.region c27r0) (.seq (.seq (.region c27r1) (.cond (.t 10) (.seq (.region c27r2) .ret) .skip)) (.seq (.region c27r3) (.seq (.block 0 (.loop c27l0)) (.seq (.region c27r7) .ret)))))
def r27 : List ARes := [.tmp 2, .tmp 3]
theorem c27_ok : Try.f27.body.bind (cCode Try.prog Try.f27.ntmps) = some c27 := by kernel_rfl
theorem r27_ok : Try.f27.results.toList.mapM (cRes Try.prog Try.f27.ntmps) = some r27 := by kernel_rfl
def c28r0 : List AOper :=
 [⟨some 4, none, .mv (.c (.int .i64 0))⟩,
 ⟨some 5, none, .mv (.c .any)⟩]
def c28r1 : List AOper :=
 [⟨some 6, none, .mv (.t 0)⟩,
 ⟨some 7, none, .call (.c (.fn 57 [])) [.t 6]⟩]
def c28r2 : List AOper :=
 [⟨some 8, none, .mv (.t 0)⟩,
 ⟨some 9, none, .mv (.t 0)⟩,
 ⟨some 10, none, .nilck (.t 9)⟩,
 ⟨some 11, none, .fldA (.t 10) 1⟩,
 ⟨some 12, none, .load (.t 11) none⟩,
 ⟨some 13, none, .mv (.t 1)⟩,
 ⟨some 14, none, .appendB (.t 12) (.t 13) 1 5⟩,
 ⟨some 15, none, .nilck (.t 8)⟩,
 ⟨some 16, none, .fldA (.t 15) 1⟩,
 ⟨none, none, .store (.t 16) (.t 14) 1⟩]
def c28r3 : List AOper :=
 [⟨some 17, none, .mv (.t 1)⟩,
 ⟨some 18, none, .lenS (.t 17)⟩,
 ⟨some 4, none, .mv (.t 18)⟩,
 ⟨some 5, none, .mv (.c .any)⟩]
def c28 : AC := (.seq (.region c28r0) (.seq (.region c28r1) (.seq (.region c28r2) (.seq (.region c28r3) .ret))))
def r28 : List ARes := [.tmp 4, .tmp 5]
theorem c28_ok : Try.f28.body.bind (cCode Try.prog Try.f28.ntmps) = some c28 := by kernel_rfl
theorem r28_ok : Try.f28.results.toList.mapM (cRes Try.prog Try.f28.ntmps) = some r28 := by kernel_rfl
def c29r0 : List AOper :=
 [⟨some 2, none, .mv (.c (.str []))⟩,
 ⟨some 3, none, .mv (.c (.int .i64 0))⟩]
def c29r1 : List AOper :=
 [⟨some 6, none, .mv (.t 0)⟩,
 ⟨some 7, none, .lenS (.t 6)⟩,
 ⟨some 8, none, .bin .gtr (.t 7) (.c (.int .i64 262144))⟩]
def c29r2 : List AOper :=
 [⟨some 2, none, .mv (.c (.str []))⟩,
 ⟨some 3, none, .mv (.c (.int .i64 1))⟩]
def c29r3 : List AOper :=
 [⟨some 10, none, .mv (.t 0)⟩,
 ⟨some 11, none, .lenS (.t 10)⟩,
 ⟨some 12, none, .call (.c (.fn 27 [])) [.t 11]⟩,
 ⟨some 9, none, .mv (.t 12)⟩,
 ⟨some 13, none, .ext (.t 9) 0⟩,
 ⟨some 14, none, .ext (.t 9) 1⟩,
 ⟨some 4, none, .mv (.t 13)⟩,
 ⟨some 5, none, .mv (.t 14)⟩]
def c29r4 : List AOper :=
 [⟨some 15, none, .mv (.t 4)⟩,
 ⟨some 16, none, .mv (.t 0)⟩,
 ⟨some 17, none, .bin .add (.t 15) (.t 16)⟩,
 ⟨some 2, none, .mv (.t 17)⟩,
 ⟨some 3, none, .mv (.c (.int .i64 0))⟩]
def c29 : AC := (.seq (.region c29r0) (.seq (.seq (.region c29r1) (.cond (.t 8) (.seq (.region c29r2) .ret) .skip)) (.seq (.region c29r3) (.seq (.region c29r4) .ret))))
def r29 : List ARes := [.tmp 2, .tmp 3]
theorem c29_ok : Try.f29.body.bind (cCode Try.prog Try.f29.ntmps) = some c29 := by kernel_rfl
theorem r29_ok : Try.f29.results.toList.mapM (cRes Try.prog Try.f29.ntmps) = some r29 := by kernel_rfl
def c30r0 : List AOper :=
 [⟨some 2, none, .mv (.c (.str []))⟩]
def c30d0 : List (AOper × List Nat) :=
 [(⟨some 3, none, .mv (.t 0)⟩, []),
 (⟨some 4, none, .nilck (.t 3)⟩, [0]),
 (⟨some 5, none, .fldA (.t 4) 1⟩, [1]),
 (⟨some 6, none, .load (.t 5) none⟩, [2]),
 (⟨some 7, none, .usd (.t 6)⟩, [3]),
 (⟨some 8, none, .mv (.t 0)⟩, []),
 (⟨some 9, none, .nilck (.t 8)⟩, [5]),
 (⟨some 10, none, .fldA (.t 9) 1⟩, [6]),
 (⟨some 11, none, .load (.t 10) none⟩, [7]),
 (⟨some 12, none, .lenL (.t 11)⟩, [8]),
 (⟨some 13, none, .ustr (.t 7) (.t 12) 5⟩, [4, 9]),
 (⟨some 2, none, .mv (.t 13)⟩, [10, 0, 1, 2, 3, 4, 5, 6, 7, 8, 9, 10])]
def c30 : AC := (.seq (.region c30r0) (.seq (.drawn c30d0) .ret))
def r30 : List ARes := [.tmp 2]
theorem c30_ok : Try.f30.body.bind (cCode Try.prog Try.f30.ntmps) = some c30 := by kernel_rfl
theorem r30_ok : Try.f30.results.toList.mapM (cRes Try.prog Try.f30.ntmps) = some r30 := by kernel_rfl
def c31r0 : List AOper :=
 [⟨some 1, none, .box (.t 0)⟩,
 ⟨some 2, none, .mv (.c (.bool false))⟩]
def c31r1 : List AOper :=
 [⟨some 5, none, .fldA (.t 1) 0⟩,
 ⟨some 6, none, .load (.t 5) none⟩,
 ⟨some 7, none, .lenL (.t 6)⟩,
 ⟨some 8, none, .bin .gtr (.t 7) (.c (.int .i64 128))⟩,
 ⟨some 9, none, .mv (.t 8)⟩,
 ⟨some 10, some (9, false), .fldA (.t 1) 1⟩,
 ⟨some 11, some (9, false), .load (.t 10) none⟩,
 ⟨some 12, some (9, false), .lenL (.t 11)⟩,
 ⟨some 13, some (9, false), .bin .gtr (.t 12) (.c (.int .i64 128))⟩,
 ⟨some 14, none, .pick (.t 9) (.c (.bool true)) (.t 13)⟩]
def c31r2 : List AOper :=
 [⟨some 2, none, .mv (.c (.bool false))⟩]
def c31r3 : List AOper :=
 [⟨some 3, none, .mv (.c (.int .i64 0))⟩]
def c31r4 : List AOper :=
 [⟨some 15, none, .mv (.t 3)⟩,
 ⟨some 16, none, .fldA (.t 1) 0⟩,
 ⟨some 17, none, .load (.t 16) none⟩,
 ⟨some 18, none, .lenL (.t 17)⟩,
 ⟨some 19, none, .bin .lss (.t 15) (.t 18)⟩]
def c31r5 : List AOper :=
 [⟨some 22, none, .fldA (.t 1) 0⟩,
 ⟨some 23, none, .load (.t 22) none⟩,
 ⟨some 24, none, .mv (.t 3)⟩,
 ⟨some 25, none, .idxA (.t 23) (.t 24) none 4⟩,
 ⟨some 26, none, .load (.t 25) (some 4)⟩,
 ⟨some 27, none, .call (.c (.fn 58 [])) [.t 26]⟩,
 ⟨some 28, none, .un .not (.t 27)⟩]
def c31r6 : List AOper :=
 [⟨some 2, none, .mv (.c (.bool false))⟩]
def c31r7 : List AOper :=
 [⟨some 20, none, .mv (.t 3)⟩,
 ⟨some 21, none, .bin .add (.t 20) (.c (.int .i64 1))⟩,
 ⟨some 3, none, .mv (.t 21)⟩]
def c31l0 : AC := (.seq (.seq (.region c31r4) (.cond (.t 19) .skip (.exit 0))) (.seq (.block 1 (.seq (.region c31r5) (.cond (.t 28) (.seq (.region c31r6) .ret) .skip))) (.region c31r7)))
def c31r8 : List AOper :=
 [⟨some 4, none, .mv (.c (.int .i64 0))⟩]
def c31r9 : List AOper :=
 [⟨some 29, none, .mv (.t 4)⟩,
 ⟨some 30, none, .fldA (.t 1) 1⟩,
 ⟨some 31, none, .load (.t 30) none⟩,
 ⟨some 32, none, .lenL (.t 31)⟩,
 ⟨some 33, none, .bin .lss (.t 29) (.t 32)⟩]
def c31r10 : List AOper :=
 [⟨some 36, none, .fldA (.t 1) 1⟩,
 ⟨some 37, none, .load (.t 36) none⟩,
 ⟨some 38, none, .mv (.t 4)⟩,
 ⟨some 39, none, .idxA (.t 37) (.t 38) none 1⟩,
 ⟨some 40, none, .load (.t 39) none⟩,
 ⟨some 41, none, .call (.c (.fn 59 [])) [.t 40, .c (.int .i64 1)]⟩,
 ⟨some 42, none, .un .not (.t 41)⟩]
def c31r11 : List AOper :=
 [⟨some 2, none, .mv (.c (.bool false))⟩]
def c31r12 : List AOper :=
 [⟨some 34, none, .mv (.t 4)⟩,
 ⟨some 35, none, .bin .add (.t 34) (.c (.int .i64 1))⟩,
 ⟨some 4, none, .mv (.t 35)⟩]
def c31l1 : AC := (.seq (.seq (.region c31r9) (.cond (.t 33) .skip (.exit 2))) (.seq (.block 3 (.seq (.region c31r10) (.cond (.t 42) (.seq (.region c31r11) .ret) .skip))) (.region c31r12)))
def c31r13 : List AOper :=
 [⟨some 43, none, .fldA (.t 1) 2⟩,
 ⟨some 44, none, .load (.t 43) none⟩,
 ⟨some 45, none, .call (.c (.fn 59 [])) [.t 44, .c (.int .i64 0)]⟩,
 ⟨some 46, none, .mv (.t 45)⟩,
 ⟨some 47, some (46, true), .fldA (.t 1) 3⟩,
 ⟨some 48, some (46, true), .load (.t 47) none⟩,
 ⟨some 49, some (46, true), .call (.c (.fn 59 [])) [.t 48, .c (.int .i64 0)]⟩,
 ⟨some 50, none, .pick (.t 46) (.t 49) (.c (.bool false))⟩,
 ⟨some 2, none, .mv (.t 50)⟩]
def c31 : AC := (.seq (.region c31r0) (.seq (.seq (.region c31r1) (.cond (.t 14) (.seq (.region c31r2) .ret) .skip)) (.seq (.seq (.region c31r3) (.block 0 (.loop c31l0))) (.seq (.seq (.region c31r8) (.block 2 (.loop c31l1))) (.seq (.region c31r13) .ret)))))
def r31 : List ARes := [.tmp 2]
theorem c31_ok : Try.f31.body.bind (cCode Try.prog Try.f31.ntmps) = some c31 := by kernel_rfl
theorem r31_ok : Try.f31.results.toList.mapM (cRes Try.prog Try.f31.ntmps) = some r31 := by kernel_rfl
def c32r0 : List AOper :=
 [⟨some 2, none, .mv (.c (.str []))⟩]
def c32r1 : List AOper :=
 [⟨some 6, none, .mv (.t 0)⟩,
 ⟨some 7, none, .call (.c (.fn 60 [])) [.t 6]⟩,
 ⟨some 5, none, .mv (.t 7)⟩,
 ⟨some 8, none, .ext (.t 5) 0⟩,
 ⟨some 9, none, .ext (.t 5) 1⟩,
 ⟨some 3, none, .mv (.t 8)⟩,
 ⟨some 4, none, .mv (.t 9)⟩]
def c32r2 : List AOper :=
 [⟨some 10, none, .mv (.t 3)⟩,
 ⟨some 2, none, .mv (.t 10)⟩]
def c32 : AC := (.seq (.region c32r0) (.seq (.region c32r1) (.seq (.region c32r2) .ret)))
def r32 : List ARes := [.tmp 2]
theorem c32_ok : Try.f32.body.bind (cCode Try.prog Try.f32.ntmps) = some c32 := by kernel_rfl
theorem r32_ok : Try.f32.results.toList.mapM (cRes Try.prog Try.f32.ntmps) = some r32 := by kernel_rfl
def c33r0 : List AOper :=
 [⟨some 2, none, .mv (.c (.str []))⟩]
def c33r1 : List AOper :=
 [⟨some 6, none, .mv (.t 0)⟩,
 ⟨some 7, none, .call (.c (.fn 61 [])) [.t 6]⟩,
 ⟨some 5, none, .mv (.t 7)⟩,
 ⟨some 8, none, .ext (.t 5) 0⟩,
 ⟨some 9, none, .ext (.t 5) 1⟩,
 ⟨some 3, none, .mv (.t 8)⟩,
 ⟨some 4, none, .mv (.t 9)⟩]
def c33r2 : List AOper :=
 [⟨some 10, none, .mv (.t 3)⟩,
 ⟨some 2, none, .mv (.t 10)⟩]
def c33 : AC := (.seq (.region c33r0) (.seq (.region c33r1) (.seq (.region c33r2) .ret)))
def r33 : List ARes := [.tmp 2]
theorem c33_ok : Try.f33.body.bind (cCode Try.prog Try.f33.ntmps) = some c33 := by kernel_rfl
theorem r33_ok : Try.f33.results.toList.mapM (cRes Try.prog Try.f33.ntmps) = some r33 := by kernel_rfl
def c34r0 : List AOper :=
 [⟨some 2, none, .mv (.c (.int .i64 0))⟩]
def c34r1 : List AOper :=
 [⟨some 7, none, .load (.t 0) none⟩,
 ⟨some 8, none, .call (.c (.fn 35 [])) [.t 7]⟩,
 ⟨some 6, none, .mv (.t 8)⟩,
 ⟨some 9, none, .ext (.t 6) 0⟩,
 ⟨some 10, none, .ext (.t 6) 1⟩,
 ⟨some 11, none, .ext (.t 6) 2⟩,
 ⟨some 3, none, .mv (.t 9)⟩,
 ⟨some 4, none, .mv (.t 10)⟩,
 ⟨some 5, none, .mv (.t 11)⟩]
def c34r2 : List AOper :=
 [⟨some 12, none, .load (.t 1) none⟩,
 ⟨some 13, none, .mv (.t 12)⟩,
 ⟨some 14, some (13, true), .mv (.t 5)⟩,
 ⟨some 15, some (13, true), .bin .eql (.t 14) (.c (.int .i64 0))⟩,
 ⟨some 16, none, .pick (.t 13) (.t 15) (.c (.bool false))⟩,
 ⟨none, none, .store (.t 1) (.t 16) 1⟩]
def c34r3 : List AOper :=
 [⟨some 17, none, .load (.t 0) none⟩,
 ⟨some 18, none, .mv (.t 4)⟩,
 ⟨some 19, none, .slcS (.t 17) (some (.t 18)) none⟩,
 ⟨none, none, .store (.t 0) (.t 19) 1⟩]
def c34r4 : List AOper :=
 [⟨some 20, none, .mv (.t 3)⟩,
 ⟨some 2, none, .mv (.t 20)⟩]
def c34 : AC := (.seq (.region c34r0) (.seq (.region c34r1) (.seq (.region c34r2) (.seq (.region c34r3) (.seq (.region c34r4) .ret)))))
def r34 : List ARes := [.tmp 2]
theorem c34_ok : Try.f34.body.bind (cCode Try.prog Try.f34.ntmps) = some c34 := by kernel_rfl
theorem r34_ok : Try.f34.results.toList.mapM (cRes Try.prog Try.f34.ntmps) = some r34 := by kernel_rfl
def c35r0 : List AOper :=
 [⟨some 2, none, .mv (.c (.int .i64 0))⟩,
 ⟨some 3, none, .mv (.c (.int .i64 0))⟩,
 ⟨some 4, none, .mv (.c (.int .i64 0))⟩]
def c35r1 : List AOper :=
 [⟨some 5, none, .mv (.c (.int .i64 0))⟩]
def c35r2 : List AOper :=
 [⟨some 8, none, .mv (.c (.int .i64 0))⟩]
def c35r3 : List AOper :=
 [⟨some 9, none, .bin .lss (.t 8) (.c (.int .i64 9))⟩]
def c35r4 : List AOper :=
 [⟨some 10, none, .mv (.t 8)⟩,
 ⟨some 6, none, .mv (.t 10)⟩]
def c35r5 : List AOper :=
 [⟨some 11, none, .mv (.t 6)⟩,
 ⟨some 12, none, .mv (.t 0)⟩,
 ⟨some 13, none, .lenS (.t 12)⟩,
 ⟨some 14, none, .bin .eql (.t 11) (.t 13)⟩]
def c35r6 : List AOper :=
 [⟨some 2, none, .mv (.c (.int .i64 0))⟩,
 ⟨some 3, none, .mv (.c (.int .i64 0))⟩,
 ⟨some 4, none, .mv (.c (.int .i64 10))⟩]
def c35r7 : List AOper :=
 [⟨some 15, none, .mv (.t 0)⟩,
 ⟨some 16, none, .mv (.t 6)⟩,
 ⟨some 17, none, .idxS (.t 15) (.t 16)⟩,
 ⟨some 7, none, .mv (.t 17)⟩]
def c35r8 : List AOper :=
 [⟨some 18, none, .mv (.t 5)⟩,
 ⟨some 19, none, .mv (.t 7)⟩,
 ⟨some 20, none, .bin .and (.t 19) (.c (.int .u8 127))⟩,
 ⟨some 21, none, .convI .i64 (.t 20)⟩,
 ⟨some 22, none, .mv (.t 6)⟩,
 ⟨some 23, none, .bin .mul (.c (.int .i64 7)) (.t 22)⟩,
 ⟨some 24, none, .bin .shl (.t 21) (.t 23)⟩,
 ⟨some 25, none, .bin .or (.t 18) (.t 24)⟩,
 ⟨some 5, none, .mv (.t 25)⟩]
def c35r9 : List AOper :=
 [⟨some 26, none, .mv (.t 7)⟩,
 ⟨some 27, none, .bin .geq (.t 26) (.c (.int .u8 128))⟩]
def c35r10 : List AOper :=
 [⟨some 28, none, .mv (.t 6)⟩,
 ⟨some 29, none, .bin .gtr (.t 28) (.c (.int .i64 0))⟩,
 ⟨some 30, none, .mv (.t 29)⟩,
 ⟨some 31, some (30, true), .mv (.t 7)⟩,
 ⟨some 32, some (30, true), .bin .eql (.t 31) (.c (.int .u8 0))⟩,
 ⟨some 33, none, .pick (.t 30) (.t 32) (.c (.bool false))⟩,
 ⟨some 34, none, .mv (.t 33)⟩,
 ⟨some 35, some (34, false), .mv (.t 5)⟩,
 ⟨some 36, some (34, false), .bin .gtr (.t 35) (.c (.int .i64 4611686018427387904))⟩,
 ⟨some 37, none, .pick (.t 34) (.c (.bool true)) (.t 36)⟩]
def c35r11 : List AOper :=
 [⟨some 38, none, .mv (.t 5)⟩,
 ⟨some 39, none, .mv (.t 6)⟩,
 ⟨some 40, none, .bin .add (.t 39) (.c (.int .i64 1))⟩,
 ⟨some 2, none, .mv (.t 38)⟩,
 ⟨some 3, none, .mv (.t 40)⟩,
 ⟨some 4, none, .mv (.c (.int .i64 0))⟩]
def c35r12 : List AOper :=
 [⟨some 41, none, .bin .add (.t 8) (.c (.int .i64 1))⟩,
 ⟨some 8, none, .mv (.t 41)⟩]
def c35l0 : AC := (.seq (.region c35r3) (.seq (.cond (.t 9) .skip (.exit 0)) (.seq (.block 1 (.seq (.region c35r4) (.seq (.seq (.region c35r5) (.cond (.t 14) (.seq (.region c35r6) .ret) .skip)) (.seq (.region c35r7) (.seq (.region c35r8) (.seq (.seq (.region c35r9) (.cond (.t 27) (.exit 1) .skip)) (.seq (.seq (.region c35r10) (.cond (.t 37) (.exit 0) .skip)) (.seq (.region c35r11) .ret)))))))) (.region c35r12))))
def c35r13 : List AOper :=
 [⟨some 2, none, .mv (.c (.int .i64 0))⟩,
 ⟨some 3, none, .mv (.c (.int .i64 0))⟩,
 ⟨some 4, none, .mv (.c (.int .i64 11))⟩]
def c35 : AC := (.seq (.region c35r0) (.seq (.region c35r1) (.seq (.seq (.region c35r2) (.block 0 (.loop c35l0))) (.seq (.region c35r13) .ret))))
def r35 : List ARes := [.tmp 2, .tmp 3, .tmp 4]
theorem c35_ok : Try.f35.body.bind (cCode Try.prog Try.f35.ntmps) = some c35 := by kernel_rfl
theorem r35_ok : Try.f35.results.toList.mapM (cRes Try.prog Try.f35.ntmps) = some r35 := by kernel_rfl
def c36r0 : List AOper :=
 [⟨some 2, none, .mv (.c (.str []))⟩]
def c36r1 : List AOper :=
 [⟨some 7, none, .load (.t 0) none⟩,
 ⟨some 8, none, .call (.c (.fn 37 [])) [.t 7]⟩,
 ⟨some 6, none, .mv (.t 8)⟩,
 ⟨some 9, none, .ext (.t 6) 0⟩,
 ⟨some 10, none, .ext (.t 6) 1⟩,
 ⟨some 11, none, .ext (.t 6) 2⟩,
 ⟨some 3, none, .mv (.t 9)⟩,
 ⟨some 4, none, .mv (.t 10)⟩,
 ⟨some 5, none, .mv (.t 11)⟩]
def c36r2 : List AOper :=
 [⟨some 12, none, .load (.t 1) none⟩,
 ⟨some 13, none, .mv (.t 12)⟩,
 ⟨some 14, some (13, true), .mv (.t 5)⟩,
 ⟨some 15, some (13, true), .bin .eql (.t 14) (.c (.int .i64 0))⟩,
 ⟨some 16, none, .pick (.t 13) (.t 15) (.c (.bool false))⟩,
 ⟨none, none, .store (.t 1) (.t 16) 1⟩]
def c36r3 : List AOper :=
 [⟨some 17, none, .load (.t 0) none⟩,
 ⟨some 18, none, .mv (.t 4)⟩,
 ⟨some 19, none, .slcS (.t 17) (some (.t 18)) none⟩,
 ⟨none, none, .store (.t 0) (.t 19) 1⟩]
def c36r4 : List AOper :=
 [⟨some 20, none, .mv (.t 3)⟩,
 ⟨some 2, none, .mv (.t 20)⟩]
def c36 : AC := (.seq (.region c36r0) (.seq (.region c36r1) (.seq (.region c36r2) (.seq (.region c36r3) (.seq (.region c36r4) .ret)))))
def r36 : List ARes := [.tmp 2]
theorem c36_ok : Try.f36.body.bind (cCode Try.prog Try.f36.ntmps) = some c36 := by kernel_rfl
theorem r36_ok : Try.f36.results.toList.mapM (cRes Try.prog Try.f36.ntmps) = some r36 := by kernel_rfl
def c37r0 : List AOper :=
 [⟨some 2, none, .mv (.c (.str []))⟩,
 ⟨some 3, none, .mv (.c (.int .i64 0))⟩,
 ⟨some 4, none, .mv (.c (.int .i64 0))⟩]
def c37r1 : List AOper :=
 [⟨some 9, none, .mv (.t 0)⟩,
 ⟨some 10, none, .call (.c (.fn 35 [])) [.t 9]⟩,
 ⟨some 8, none, .mv (.t 10)⟩,
 ⟨some 11, none, .ext (.t 8) 0⟩,
 ⟨some 12, none, .ext (.t 8) 1⟩,
 ⟨some 13, none, .ext (.t 8) 2⟩,
 ⟨some 5, none, .mv (.t 11)⟩,
 ⟨some 6, none, .mv (.t 12)⟩,
 ⟨some 7, none, .mv (.t 13)⟩]
def c37r2 : List AOper :=
 [⟨some 15, none, .mv (.t 7)⟩,
 ⟨some 16, none, .bin .neq (.t 15) (.c (.int .i64 0))⟩,
 ⟨some 14, none, .mv (.t 16)⟩]
def c37r3 : List AOper :=
 [⟨some 17, none, .mv (.t 7)⟩,
 ⟨some 2, none, .mv (.c (.str []))⟩,
 ⟨some 3, none, .mv (.c (.int .i64 0))⟩,
 ⟨some 4, none, .mv (.t 17)⟩]
def c37r4 : List AOper :=
 [⟨some 19, none, .mv (.t 5)⟩,
 ⟨some 20, none, .bin .gtr (.t 19) (.c (.int .i64 262144))⟩,
 ⟨some 18, none, .mv (.t 20)⟩]
def c37r5 : List AOper :=
 [⟨some 2, none, .mv (.c (.str []))⟩,
 ⟨some 3, none, .mv (.c (.int .i64 0))⟩,
 ⟨some 4, none, .mv (.c (.int .i64 11))⟩]
def c37r6 : List AOper :=
 [⟨some 22, none, .mv (.t 0)⟩,
 ⟨some 23, none, .lenS (.t 22)⟩,
 ⟨some 24, none, .mv (.t 6)⟩,
 ⟨some 25, none, .bin .sub (.t 23) (.t 24)⟩,
 ⟨some 26, none, .mv (.t 5)⟩,
 ⟨some 27, none, .bin .lss (.t 25) (.t 26)⟩,
 ⟨some 21, none, .mv (.t 27)⟩]
def c37r7 : List AOper :=
 [⟨some 2, none, .mv (.c (.str []))⟩,
 ⟨some 3, none, .mv (.c (.int .i64 0))⟩,
 ⟨some 4, none, .mv (.c (.int .i64 10))⟩]
def c37r8 : List AOper :=
 [⟨some 28, none, .mv (.t 0)⟩,
 ⟨some 29, none, .mv (.t 6)⟩,
 ⟨some 30, none, .mv (.t 6)⟩,
 ⟨some 31, none, .mv (.t 5)⟩,
 ⟨some 32, none, .bin .add (.t 30) (.t 31)⟩,
 ⟨some 33, none, .slcS (.t 28) (some (.t 29)) (some (.t 32))⟩,
 ⟨some 34, none, .mv (.t 6)⟩,
 ⟨some 35, none, .mv (.t 5)⟩,
 ⟨some 36, none, .bin .add (.t 34) (.t 35)⟩,
 ⟨some 2, none, .mv (.t 33)⟩,
 ⟨some 3, none, .mv (.t 36)⟩,
 ⟨some 4, none, .mv (.c (.int .i64 0))⟩]
def c37 : AC := (.seq (.region c37r0) (.seq (.region c37r1) (.seq (.block 0 (.seq (.region c37r2) (.cond (.t 14) (.seq (.region c37r3) .ret) (.seq (.region c37r4) (.cond (.t 18) (.seq (.region c37r5) .ret) (.seq (.region c37r6) (.cond (.t 21) (.seq (.region c37r7) .ret) .skip))))))) (.seq (.region c37r8) .ret))))
def r37 : List ARes := [.tmp 2, .tmp 3, .tmp 4]
theorem c37_ok : Try.f37.body.bind (cCode Try.prog Try.f37.ntmps) = some c37 := by kernel_rfl
theorem r37_ok : Try.f37.results.toList.mapM (cRes Try.prog Try.f37.ntmps) = some r37 := by kernel_rfl
def c38r0 : List AOper :=
 [⟨some 6, none, .load (.t 1) none⟩,
 ⟨some 7, none, .call (.t 6) []⟩,
 ⟨some 4, none, .mv (.t 7)⟩]
def c38r1 : List AOper :=
 [⟨some 8, none, .load (.t 2) none⟩,
 ⟨some 9, none, .mv (.t 8)⟩,
 ⟨some 10, some (9, true), .mv (.t 4)⟩,
 ⟨some 11, some (9, true), .bin .leq (.t 10) (.c (.int .i64 128))⟩,
 ⟨some 12, none, .pick (.t 9) (.t 11) (.c (.bool false))⟩,
 ⟨none, none, .store (.t 2) (.t 12) 1⟩]
def c38r2 : List AOper :=
 [⟨some 5, none, .mv (.c (.int .i64 0))⟩]
def c38r3 : List AOper :=
 [⟨some 13, none, .mv (.t 5)⟩,
 ⟨some 14, none, .mv (.t 4)⟩,
 ⟨some 15, none, .bin .lss (.t 13) (.t 14)⟩,
 ⟨some 16, none, .mv (.t 15)⟩,
 ⟨some 17, some (16, true), .load (.t 2) none⟩,
 ⟨some 18, none, .pick (.t 16) (.t 17) (.c (.bool false))⟩]
def c38r4 : List AOper :=
 [⟨some 21, none, .mv (.t 0)⟩,
 ⟨some 22, none, .call (.t 21) []⟩]
def c38r5 : List AOper :=
 [⟨some 19, none, .mv (.t 5)⟩,
 ⟨some 20, none, .bin .add (.t 19) (.c (.int .i64 1))⟩,
 ⟨some 5, none, .mv (.t 20)⟩]
def c38l0 : AC := (.seq (.seq (.region c38r3) (.cond (.t 18) .skip (.exit 0))) (.seq (.block 1 (.region c38r4)) (.region c38r5)))
def c38 : AC := (.seq (.region c38r0) (.seq (.region c38r1) (.seq (.region c38r2) (.block 0 (.loop c38l0)))))
def r38 : List ARes := []
theorem c38_ok : Try.f38.body.bind (cCode Try.prog Try.f38.ntmps) = some c38 := by kernel_rfl
theorem r38_ok : Try.f38.results.toList.mapM (cRes Try.prog Try.f38.ntmps) = some r38 := by kernel_rfl
def c39d0 : List (AOper × List Nat) :=
 [(⟨some 4, none, .load (.t 0) none⟩, []),
 (⟨some 5, none, .call (.t 4) []⟩, [0]),
 (⟨some 6, none, .load (.t 0) none⟩, []),
 (⟨some 7, none, .call (.t 6) []⟩, [2, 1]),
 (⟨some 8, none, .build [.int .i64 0, .int .i64 0, .str [], .str []] [(0, 1, .t 5), (1, 1, .t 7)]⟩, [1, 3]),
 (⟨some 3, none, .alloc [.int .i64 0, .int .i64 0, .str [], .str []]⟩, []),
 (⟨none, none, .store (.t 3) (.t 8) 4⟩, [5, 4, 3, 0, 1, 2, 3, 4, 5])]
def c39d1 : List (AOper × List Nat) :=
 [(⟨some 9, none, .load (.t 1) none⟩, []),
 (⟨some 10, none, .call (.t 9) []⟩, [0]),
 (⟨some 11, none, .load (.t 1) none⟩, []),
 (⟨some 12, none, .call (.t 11) []⟩, [2, 1]),
 (⟨some 13, none, .fldA (.t 3) 2⟩, [0, 1]),
 (⟨none, none, .store (.t 13) (.t 10) 1⟩, [4, 1, 3, 0, 1]),
 (⟨some 14, none, .fldA (.t 3) 3⟩, [0, 1, 2, 3, 4, 5]),
 (⟨none, none, .store (.t 14) (.t 12) 1⟩, [6, 3, 5, 0, 1, 2, 3, 4, 5])]
def c39r0 : List AOper :=
 [⟨some 15, none, .fldA (.t 2) 0⟩,
 ⟨some 16, none, .load (.t 15) none⟩,
 ⟨some 17, none, .load (.t 3) (some 4)⟩,
 ⟨some 18, none, .bslice 1 4 [.int .i64 0, .int .i64 0, .str [], .str []] [(0, .t 17)]⟩,
 ⟨some 19, none, .append (.t 16) (.t 18) 4 48 false⟩,
 ⟨some 20, none, .fldA (.t 2) 0⟩,
 ⟨none, none, .store (.t 20) (.t 19) 1⟩]
def c39 : AC := (.seq (.drawn c39d0) (.seq (.drawn c39d1) (.region c39r0)))
def r39 : List ARes := []
theorem c39_ok : Try.f39.body.bind (cCode Try.prog Try.f39.ntmps) = some c39 := by kernel_rfl
theorem r39_ok : Try.f39.results.toList.mapM (cRes Try.prog Try.f39.ntmps) = some r39 := by kernel_rfl
def c40d0 : List (AOper × List Nat) :=
 [(⟨some 2, none, .fldA (.t 0) 1⟩, []),
 (⟨some 3, none, .load (.t 2) none⟩, [0]),
 (⟨some 4, none, .load (.t 1) none⟩, []),
 (⟨some 5, none, .call (.t 4) []⟩, [2]),
 (⟨some 6, none, .bslice 1 1 [.int .i64 0] [(0, .t 5)]⟩, [3]),
 (⟨some 7, none, .append (.t 3) (.t 6) 1 8 false⟩, [1, 4, 3]),
 (⟨some 8, none, .fldA (.t 0) 1⟩, [0, 1, 2, 3, 4, 5]),
 (⟨none, none, .store (.t 8) (.t 7) 1⟩, [6, 5, 5, 0, 1, 2, 3, 4, 5])]
def c40 : AC := (.drawn c40d0)
def r40 : List ARes := []
theorem c40_ok : Try.f40.body.bind (cCode Try.prog Try.f40.ntmps) = some c40 := by kernel_rfl
theorem r40_ok : Try.f40.results.toList.mapM (cRes Try.prog Try.f40.ntmps) = some r40 := by kernel_rfl
def c41r0 : List AOper :=
 [⟨some 2, none, .mv (.c (.int .i64 0))⟩]
def c41r1 : List AOper :=
 [⟨some 7, none, .mv (.t 0)⟩,
 ⟨some 8, none, .nilck (.t 7)⟩,
 ⟨some 9, none, .fldA (.t 8) 0⟩,
 ⟨some 10, none, .load (.t 9) none⟩,
 ⟨some 11, none, .call (.c (.fn 62 [])) [.t 10]⟩,
 ⟨some 6, none, .mv (.t 11)⟩,
 ⟨some 12, none, .ext (.t 6) 0⟩,
 ⟨some 13, none, .ext (.t 6) 1⟩,
 ⟨some 14, none, .ext (.t 6) 2⟩,
 ⟨some 3, none, .mv (.t 12)⟩,
 ⟨some 4, none, .mv (.t 13)⟩,
 ⟨some 5, none, .mv (.t 14)⟩]
def c41r2 : List AOper :=
 [⟨some 15, none, .mv (.t 5)⟩,
 ⟨some 16, none, .bin .neq (.t 15) (.c (.int .i64 0))⟩]
def c41r3 : List AOper :=
 [⟨some 17, none, .mv (.t 0)⟩,
 ⟨some 18, none, .nilck (.t 17)⟩,
 ⟨some 19, none, .fldA (.t 18) 1⟩,
 ⟨none, none, .store (.t 19) (.c (.bool false)) 1⟩]
def c41r4 : List AOper :=
 [⟨some 2, none, .mv (.c (.int .i64 0))⟩]
def c41r5 : List AOper :=
 [⟨some 20, none, .mv (.t 0)⟩,
 ⟨some 21, none, .mv (.t 0)⟩,
 ⟨some 22, none, .nilck (.t 21)⟩,
 ⟨some 23, none, .fldA (.t 22) 0⟩,
 ⟨some 24, none, .load (.t 23) none⟩,
 ⟨some 25, none, .mv (.t 4)⟩,
 ⟨some 26, none, .slcS (.t 24) (some (.t 25)) none⟩,
 ⟨some 27, none, .nilck (.t 20)⟩,
 ⟨some 28, none, .fldA (.t 27) 0⟩,
 ⟨none, none, .store (.t 28) (.t 26) 1⟩]
def c41r6 : List AOper :=
 [⟨some 29, none, .mv (.t 3)⟩,
 ⟨some 2, none, .mv (.t 29)⟩]
def c41 : AC := (.seq (.region c41r0) (.seq (.region c41r1) (.seq (.seq (.region c41r2) (.cond (.t 16) (.seq (.region c41r3) (.seq (.region c41r4) .ret)) .skip)) (.seq (.region c41r5) (.seq (.region c41r6) .ret)))))
def r41 : List ARes := [.tmp 2]
theorem c41_ok : Try.f41.body.bind (cCode Try.prog Try.f41.ntmps) = some c41 := by kernel_rfl
theorem r41_ok : Try.f41.results.toList.mapM (cRes Try.prog Try.f41.ntmps) = some r41 := by kernel_rfl
def c42r0 : List AOper :=
 [⟨some 2, none, .mv (.c (.str []))⟩]
def c42r1 : List AOper :=
 [⟨some 7, none, .mv (.t 0)⟩,
 ⟨some 8, none, .nilck (.t 7)⟩,
 ⟨some 9, none, .fldA (.t 8) 0⟩,
 ⟨some 10, none, .load (.t 9) none⟩,
 ⟨some 11, none, .call (.c (.fn 63 [])) [.t 10]⟩,
 ⟨some 6, none, .mv (.t 11)⟩,
 ⟨some 12, none, .ext (.t 6) 0⟩,
 ⟨some 13, none, .ext (.t 6) 1⟩,
 ⟨some 14, none, .ext (.t 6) 2⟩,
 ⟨some 3, none, .mv (.t 12)⟩,
 ⟨some 4, none, .mv (.t 13)⟩,
 ⟨some 5, none, .mv (.t 14)⟩]
def c42r2 : List AOper :=
 [⟨some 15, none, .mv (.t 5)⟩,
 ⟨some 16, none, .bin .neq (.t 15) (.c (.int .i64 0))⟩]
def c42r3 : List AOper :=
 [⟨some 17, none, .mv (.t 0)⟩,
 ⟨some 18, none, .nilck (.t 17)⟩,
 ⟨some 19, none, .fldA (.t 18) 1⟩,
 ⟨none, none, .store (.t 19) (.c (.bool false)) 1⟩]
def c42r4 : List AOper :=
 [⟨some 2, none, .mv (.c (.str []))⟩]
def c42r5 : List AOper :=
 [⟨some 20, none, .mv (.t 0)⟩,
 ⟨some 21, none, .mv (.t 0)⟩,
 ⟨some 22, none, .nilck (.t 21)⟩,
 ⟨some 23, none, .fldA (.t 22) 0⟩,
 ⟨some 24, none, .load (.t 23) none⟩,
 ⟨some 25, none, .mv (.t 4)⟩,
 ⟨some 26, none, .slcS (.t 24) (some (.t 25)) none⟩,
 ⟨some 27, none, .nilck (.t 20)⟩,
 ⟨some 28, none, .fldA (.t 27) 0⟩,
 ⟨none, none, .store (.t 28) (.t 26) 1⟩]
def c42r6 : List AOper :=
 [⟨some 29, none, .mv (.t 3)⟩,
 ⟨some 2, none, .mv (.t 29)⟩]
def c42 : AC := (.seq (.region c42r0) (.seq (.region c42r1) (.seq (.seq (.region c42r2) (.cond (.t 16) (.seq (.region c42r3) (.seq (.region c42r4) .ret)) .skip)) (.seq (.region c42r5) (.seq (.region c42r6) .ret)))))
def r42 : List ARes := [.tmp 2]
theorem c42_ok : Try.f42.body.bind (cCode Try.prog Try.f42.ntmps) = some c42 := by kernel_rfl
theorem r42_ok : Try.f42.results.toList.mapM (cRes Try.prog Try.f42.ntmps) = some r42 := by kernel_rfl
def c43r0 : List AOper :=
 [⟨some 4, none, .mv (.c (.bool false))⟩]
def c43r1 : List AOper :=
 [⟨some 6, none, .mv (.t 0)⟩,
 ⟨some 7, none, .lenL (.t 6)⟩,
 ⟨some 8, none, .mv (.t 1)⟩,
 ⟨some 9, none, .lenL (.t 8)⟩,
 ⟨some 10, none, .bin .neq (.t 7) (.t 9)⟩]
def c43r2 : List AOper :=
 [⟨some 4, none, .mv (.c (.bool false))⟩]
def c43r3 : List AOper :=
 [⟨some 5, none, .mv (.c (.int .i64 0))⟩]
def c43r4 : List AOper :=
 [⟨some 11, none, .mv (.t 5)⟩,
 ⟨some 12, none, .mv (.t 0)⟩,
 ⟨some 13, none, .lenL (.t 12)⟩,
 ⟨some 14, none, .bin .lss (.t 11) (.t 13)⟩]
def c43d0 : List (AOper × List Nat) :=
 [(⟨some 17, none, .mv (.t 0)⟩, []),
 (⟨some 18, none, .mv (.t 5)⟩, []),
 (⟨some 19, none, .idxA (.t 17) (.t 18) none 1⟩, [0, 1]),
 (⟨some 20, none, .load (.t 19) none⟩, [2]),
 (⟨some 21, none, .mv (.t 1)⟩, []),
 (⟨some 22, none, .mv (.t 5)⟩, []),
 (⟨some 23, none, .idxA (.t 21) (.t 22) none 1⟩, [4, 5]),
 (⟨some 24, none, .load (.t 23) none⟩, [6]),
 (⟨some 25, none, .bin .neq (.t 20) (.t 24)⟩, [3, 7])]
def c43r5 : List AOper :=
 [⟨some 4, none, .mv (.c (.bool false))⟩]
def c43r6 : List AOper :=
 [⟨some 15, none, .mv (.t 5)⟩,
 ⟨some 16, none, .bin .add (.t 15) (.c (.int .i64 1))⟩,
 ⟨some 5, none, .mv (.t 16)⟩]
def c43l0 : AC := (.seq (.seq (.region c43r4) (.cond (.t 14) .skip (.exit 0))) (.seq (.block 1 (.seq (.drawn c43d0) (.cond (.t 25) (.seq (.region c43r5) .ret) .skip))) (.region c43r6)))
def c43r7 : List AOper :=
 [⟨some 4, none, .mv (.c (.bool true))⟩]
def c43 : AC := (.seq (.region c43r0) (.seq (.seq (.region c43r1) (.cond (.t 10) (.seq (.region c43r2) .ret) .skip)) (.seq (.seq (.region c43r3) (.block 0 (.loop c43l0))) (.seq (.region c43r7) .ret))))
def r43 : List ARes := [.tmp 4]
theorem c43_ok : Try.f43.body.bind (cCode Try.prog Try.f43.ntmps) = some c43 := by kernel_rfl
theorem r43_ok : Try.f43.results.toList.mapM (cRes Try.prog Try.f43.ntmps) = some r43 := by kernel_rfl
def c44r0 : List AOper :=
 [⟨some 1, none, .box (.t 0)⟩,
 ⟨some 2, none, .mv (.c (.bool false))⟩]
def c44r1 : List AOper :=
 [⟨some 3, none, .fldA (.t 1) 0⟩,
 ⟨some 4, none, .load (.t 3) none⟩,
 ⟨some 5, none, .bin .lss (.t 4) (.c (.int .i64 1))⟩,
 ⟨some 6, none, .mv (.t 5)⟩,
 ⟨some 7, some (6, false), .fldA (.t 1) 0⟩,
 ⟨some 8, some (6, false), .load (.t 7) none⟩,
 ⟨some 9, some (6, false), .bin .gtr (.t 8) (.c (.int .i64 1073741824))⟩,
 ⟨some 10, none, .pick (.t 6) (.c (.bool true)) (.t 9)⟩,
 ⟨some 11, none, .mv (.t 10)⟩,
 ⟨some 12, some (11, false), .fldA (.t 1) 1⟩,
 ⟨some 13, some (11, false), .load (.t 12) none⟩,
 ⟨some 14, some (11, false), .bin .lss (.t 13) (.c (.int .i64 0))⟩,
 ⟨some 15, none, .pick (.t 11) (.c (.bool true)) (.t 14)⟩,
 ⟨some 16, none, .mv (.t 15)⟩,
 ⟨some 17, some (16, false), .fldA (.t 1) 1⟩,
 ⟨some 18, some (16, false), .load (.t 17) none⟩,
 ⟨some 19, some (16, false), .bin .geq (.t 18) (.c (.int .i64 3))⟩,
 ⟨some 20, none, .pick (.t 16) (.c (.bool true)) (.t 19)⟩,
 ⟨some 21, none, .mv (.t 20)⟩,
 ⟨some 22, some (21, false), .fldA (.t 1) 2⟩,
 ⟨some 23, some (21, false), .load (.t 22) none⟩,
 ⟨some 24, some (21, false), .call (.c (.fn 45 [])) [.t 23]⟩,
 ⟨some 25, some (21, false), .un .not (.t 24)⟩,
 ⟨some 26, none, .pick (.t 21) (.c (.bool true)) (.t 25)⟩,
 ⟨some 27, none, .mv (.t 26)⟩,
 ⟨some 28, some (27, false), .fldA (.t 1) 3⟩,
 ⟨some 29, some (27, false), .load (.t 28) none⟩,
 ⟨some 30, some (27, false), .call (.c (.fn 45 [])) [.t 29]⟩,
 ⟨some 31, some (27, false), .un .not (.t 30)⟩,
 ⟨some 32, none, .pick (.t 27) (.c (.bool true)) (.t 31)⟩,
 ⟨some 33, none, .mv (.t 32)⟩,
 ⟨some 34, some (33, false), .fldA (.t 1) 3⟩,
 ⟨some 35, some (33, false), .load (.t 34) none⟩,
 ⟨some 36, some (33, false), .fldA (.t 1) 2⟩,
 ⟨some 37, some (33, false), .load (.t 36) none⟩,
 ⟨some 38, some (33, false), .bin .lss (.t 35) (.t 37)⟩,
 ⟨some 39, none, .pick (.t 33) (.c (.bool true)) (.t 38)⟩,
 ⟨some 2, none, .mv (.t 39)⟩]
def c44 : AC := (.seq (.region c44r0) (.seq (.region c44r1) .ret))
def r44 : List ARes := [.tmp 2]
theorem c44_ok : Try.f44.body.bind (cCode Try.prog Try.f44.ntmps) = some c44 := by kernel_rfl
theorem r44_ok : Try.f44.results.toList.mapM (cRes Try.prog Try.f44.ntmps) = some r44 := by kernel_rfl
def c45r0 : List AOper :=
 [⟨some 2, none, .mv (.c (.bool false))⟩]
def c45r1 : List AOper :=
 [⟨some 3, none, .mv (.t 0)⟩,
 ⟨some 4, none, .bin .neq (.t 3) (.c (.str []))⟩,
 ⟨some 5, none, .mv (.t 4)⟩,
 ⟨some 6, some (5, true), .mv (.t 0)⟩,
 ⟨some 7, some (5, true), .lenS (.t 6)⟩,
 ⟨some 8, some (5, true), .bin .leq (.t 7) (.c (.int .i64 64))⟩,
 ⟨some 9, none, .pick (.t 5) (.t 8) (.c (.bool false))⟩,
 ⟨some 2, none, .mv (.t 9)⟩]
def c45 : AC := (.seq (.region c45r0) (.seq (.region c45r1) .ret))
def r45 : List ARes := [.tmp 2]
theorem c45_ok : Try.f45.body.bind (cCode Try.prog Try.f45.ntmps) = some c45 := by kernel_rfl
theorem r45_ok : Try.f45.results.toList.mapM (cRes Try.prog Try.f45.ntmps) = some r45 := by kernel_rfl
def c46r0 : List AOper :=
 [⟨some 2, none, .mv (.c (.bool false))⟩]
def c46r1 : List AOper :=
 [⟨some 3, none, .mv (.t 0)⟩,
 ⟨some 4, none, .bin .lss (.t 3) (.c (.int .i64 1))⟩,
 ⟨some 5, none, .mv (.t 4)⟩,
 ⟨some 6, some (5, false), .mv (.t 0)⟩,
 ⟨some 7, some (5, false), .bin .gtr (.t 6) (.c (.int .i64 1073741824))⟩,
 ⟨some 8, none, .pick (.t 5) (.c (.bool true)) (.t 7)⟩,
 ⟨some 2, none, .mv (.t 8)⟩]
def c46 : AC := (.seq (.region c46r0) (.seq (.region c46r1) .ret))
def r46 : List ARes := [.tmp 2]
theorem c46_ok : Try.f46.body.bind (cCode Try.prog Try.f46.ntmps) = some c46 := by kernel_rfl
theorem r46_ok : Try.f46.results.toList.mapM (cRes Try.prog Try.f46.ntmps) = some r46 := by kernel_rfl
def c47r0 : List AOper :=
 [⟨some 4, none, .mv (.c (.bool false))⟩]
def c47r1 : List AOper :=
 [⟨some 5, none, .mv (.t 0)⟩,
 ⟨some 6, none, .mv (.t 1)⟩,
 ⟨some 7, none, .call (.c (.fn 64 [])) [.t 5, .t 6]⟩,
 ⟨some 8, none, .bin .geq (.t 7) (.c (.int .i64 0))⟩,
 ⟨some 4, none, .mv (.t 8)⟩]
def c47 : AC := (.seq (.region c47r0) (.seq (.region c47r1) .ret))
def r47 : List ARes := [.tmp 4]
theorem c47_ok : Try.f47.body.bind (cCode Try.prog Try.f47.ntmps) = some c47 := by kernel_rfl
theorem r47_ok : Try.f47.results.toList.mapM (cRes Try.prog Try.f47.ntmps) = some r47 := by kernel_rfl
def c48r0 : List AOper :=
 [⟨some 4, none, .mv (.c (.bool false))⟩]
def c48r1 : List AOper :=
 [⟨some 5, none, .mv (.t 0)⟩,
 ⟨some 6, none, .mv (.t 1)⟩,
 ⟨some 7, none, .call (.c (.fn 65 [])) [.t 5, .t 6]⟩,
 ⟨some 8, none, .bin .geq (.t 7) (.c (.int .i64 0))⟩,
 ⟨some 4, none, .mv (.t 8)⟩]
def c48 : AC := (.seq (.region c48r0) (.seq (.region c48r1) .ret))
def r48 : List ARes := [.tmp 4]
theorem c48_ok : Try.f48.body.bind (cCode Try.prog Try.f48.ntmps) = some c48 := by kernel_rfl
theorem r48_ok : Try.f48.results.toList.mapM (cRes Try.prog Try.f48.ntmps) = some r48 := by kernel_rfl
def c49r0 : List AOper :=
 [⟨some 4, none, .mv (.t 0)⟩,
 ⟨some 5, none, .mv (.t 0)⟩,
 ⟨some 6, none, .lenL (.t 5)⟩,
 ⟨some 7, none, .mv (.t 1)⟩,
 ⟨some 8, none, .call (.c (.fn 66 [])) [.t 4, .t 6, .t 7]⟩]
def c49 : AC := (.region c49r0)
def r49 : List ARes := []
theorem c49_ok : Try.f49.body.bind (cCode Try.prog Try.f49.ntmps) = some c49 := by kernel_rfl
theorem r49_ok : Try.f49.results.toList.mapM (cRes Try.prog Try.f49.ntmps) = some r49 := by kernel_rfl
def c50r0 : List AOper :=
 [⟨some 2, none, .box (.t 0)⟩,
 ⟨some 3, none, .box (.t 1)⟩,
 ⟨some 4, none, .mv (.c (.int .i64 0))⟩]
def c50r1 : List AOper :=
 [⟨some 6, none, .fldA (.t 2) 1⟩,
 ⟨some 7, none, .load (.t 6) none⟩,
 ⟨some 8, none, .fldA (.t 3) 1⟩,
 ⟨some 9, none, .load (.t 8) none⟩,
 ⟨some 10, none, .bin .neq (.t 7) (.t 9)⟩,
 ⟨some 5, none, .mv (.t 10)⟩]
def c50r2 : List AOper :=
 [⟨some 11, none, .fldA (.t 2) 1⟩,
 ⟨some 12, none, .load (.t 11) none⟩,
 ⟨some 13, none, .fldA (.t 3) 1⟩,
 ⟨some 14, none, .load (.t 13) none⟩,
 ⟨some 15, none, .call (.c (.fn 67 [])) [.t 12, .t 14]⟩,
 ⟨some 4, none, .mv (.t 15)⟩]
def c50r3 : List AOper :=
 [⟨some 17, none, .fldA (.t 2) 1⟩,
 ⟨some 18, none, .load (.t 17) none⟩,
 ⟨some 19, none, .bin .eql (.t 18) (.c (.int .i64 0))⟩,
 ⟨some 16, none, .mv (.t 19)⟩]
def c50r4 : List AOper :=
 [⟨some 20, none, .fldA (.t 3) 0⟩,
 ⟨some 21, none, .load (.t 20) none⟩,
 ⟨some 22, none, .fldA (.t 2) 0⟩,
 ⟨some 23, none, .load (.t 22) none⟩,
 ⟨some 24, none, .call (.c (.fn 67 [])) [.t 21, .t 23]⟩,
 ⟨some 4, none, .mv (.t 24)⟩]
def c50r5 : List AOper :=
 [⟨some 25, none, .fldA (.t 2) 2⟩,
 ⟨some 26, none, .load (.t 25) none⟩,
 ⟨some 27, none, .fldA (.t 3) 2⟩,
 ⟨some 28, none, .load (.t 27) none⟩,
 ⟨some 29, none, .call (.c (.fn 68 [])) [.t 26, .t 28]⟩,
 ⟨some 4, none, .mv (.t 29)⟩]
def c50 : AC := (.seq (.region c50r0) (.seq (.block 0 (.seq (.region c50r1) (.cond (.t 5) (.seq (.region c50r2) .ret) (.seq (.region c50r3) (.cond (.t 16) (.seq (.region c50r4) .ret) .skip))))) (.seq (.region c50r5) .ret)))
def r50 : List ARes := [.tmp 4]
theorem c50_ok : Try.f50.body.bind (cCode Try.prog Try.f50.ntmps) = some c50 := by kernel_rfl
theorem r50_ok : Try.f50.results.toList.mapM (cRes Try.prog Try.f50.ntmps) = some r50 := by kernel_rfl
def c51r0 : List AOper :=
 [⟨some 4, none, .mv (.c (.int .i64 0))⟩]
def c51r1 : List AOper :=
 [⟨some 5, none, .mv (.c (.int .i64 0))⟩]
def c51r2 : List AOper :=
 [⟨some 6, none, .mv (.t 5)⟩,
 ⟨some 7, none, .mv (.t 0)⟩,
 ⟨some 8, none, .lenL (.t 7)⟩,
 ⟨some 9, none, .bin .lss (.t 6) (.t 8)⟩]
def c51r3 : List AOper :=
 [⟨some 12, none, .mv (.t 0)⟩,
 ⟨some 13, none, .mv (.t 5)⟩,
 ⟨some 14, none, .idxA (.t 12) (.t 13) none 4⟩,
 ⟨some 15, none, .fldA (.t 14) 0⟩,
 ⟨some 16, none, .load (.t 15) none⟩,
 ⟨some 17, none, .mv (.t 1)⟩,
 ⟨some 18, none, .bin .eql (.t 16) (.t 17)⟩]
def c51r4 : List AOper :=
 [⟨some 19, none, .mv (.t 5)⟩,
 ⟨some 4, none, .mv (.t 19)⟩]
def c51r5 : List AOper :=
 [⟨some 10, none, .mv (.t 5)⟩,
 ⟨some 11, none, .bin .add (.t 10) (.c (.int .i64 1))⟩,
 ⟨some 5, none, .mv (.t 11)⟩]
def c51l0 : AC := (.seq (.seq (.region c51r2) (.cond (.t 9) .skip (.exit 0))) (.seq (.block 1 (.seq (.region c51r3) (.cond (.t 18) (.seq (.region c51r4) .ret) .skip))) (.region c51r5)))
def c51r6 : List AOper :=
 [⟨some 4, none, .mv (.c (.int .i64 (-1)))⟩]
def c51 : AC := (.seq (.region c51r0) (.seq (.seq (.region c51r1) (.block 0 (.loop c51l0))) (.seq (.region c51r6) .ret)))
def r51 : List ARes := [.tmp 4]
theorem c51_ok : Try.f51.body.bind (cCode Try.prog Try.f51.ntmps) = some c51 := by kernel_rfl
theorem r51_ok : Try.f51.results.toList.mapM (cRes Try.prog Try.f51.ntmps) = some r51 := by kernel_rfl
def c52r0 : List AOper :=
 [⟨some 3, none, .box (.t 1)⟩,
 ⟨some 4, none, .mv (.c .nils)⟩]
def c52r1 : List AOper :=
 [⟨some 5, none, .mv (.c (.int .i64 0))⟩]
def c52d0 : List (AOper × List Nat) :=
 [(⟨some 7, none, .mv (.t 5)⟩, []),
 (⟨some 8, none, .mv (.t 0)⟩, []),
 (⟨some 9, none, .lenL (.t 8)⟩, [1]),
 (⟨some 10, none, .bin .lss (.t 7) (.t 9)⟩, [0, 2]),
 (⟨some 11, none, .mv (.t 10)⟩, [3]),
 (⟨some 12, some (11, true), .mv (.t 0)⟩, [4]),
 (⟨some 13, some (11, true), .mv (.t 5)⟩, [4]),
 (⟨some 14, some (11, true), .idxA (.t 12) (.t 13) none 4⟩, [5, 6, 4]),
 (⟨some 15, some (11, true), .load (.t 14) (some 4)⟩, [7, 4]),
 (⟨some 16, some (11, true), .load (.t 3) (some 4)⟩, [4]),
 (⟨some 17, some (11, true), .call (.c (.fn 69 [])) [.t 15, .t 16]⟩, [8, 9, 4, 4]),
 (⟨some 18, none, .pick (.t 11) (.t 17) (.c (.bool false))⟩, [4, 10])]
def c52r2 : List AOper :=
 [⟨some 19, none, .mv (.t 5)⟩,
 ⟨some 20, none, .bin .add (.t 19) (.c (.int .i64 1))⟩,
 ⟨some 5, none, .mv (.t 20)⟩]
def c52l0 : AC := (.seq (.seq (.drawn c52d0) (.cond (.t 18) .skip (.exit 0))) (.block 1 (.region c52r2)))
def c52r3 : List AOper :=
 [⟨some 6, none, .mv (.c .nils)⟩]
def c52r4 : List AOper :=
 [⟨some 21, none, .mv (.t 6)⟩,
 ⟨some 22, none, .mv (.t 0)⟩,
 ⟨some 23, none, .mv (.t 5)⟩,
 ⟨some 24, none, .slc (.t 22) none (some (.t 23)) none 4⟩,
 ⟨some 25, none, .append (.t 21) (.t 24) 4 48 false⟩,
 ⟨some 6, none, .mv (.t 25)⟩]
def c52r5 : List AOper :=
 [⟨some 26, none, .mv (.t 6)⟩,
 ⟨some 27, none, .load (.t 3) (some 4)⟩,
 ⟨some 28, none, .bslice 1 4 [.int .i64 0, .int .i64 0, .str [], .str []] [(0, .t 27)]⟩,
 ⟨some 29, none, .append (.t 26) (.t 28) 4 48 false⟩,
 ⟨some 6, none, .mv (.t 29)⟩]
def c52r6 : List AOper :=
 [⟨some 30, none, .mv (.t 6)⟩,
 ⟨some 31, none, .mv (.t 0)⟩,
 ⟨some 32, none, .mv (.t 5)⟩,
 ⟨some 33, none, .slc (.t 31) (some (.t 32)) none none 4⟩,
 ⟨some 34, none, .append (.t 30) (.t 33) 4 48 false⟩,
 ⟨some 4, none, .mv (.t 34)⟩]
def c52 : AC := (.seq (.region c52r0) (.seq (.region c52r1) (.seq (.block 0 (.loop c52l0)) (.seq (.region c52r3) (.seq (.region c52r4) (.seq (.region c52r5) (.seq (.region c52r6) .ret)))))))
def r52 : List ARes := [.tmp 4]
theorem c52_ok : Try.f52.body.bind (cCode Try.prog Try.f52.ntmps) = some c52 := by kernel_rfl
theorem r52_ok : Try.f52.results.toList.mapM (cRes Try.prog Try.f52.ntmps) = some r52 := by kernel_rfl
def c53r0 : List AOper :=
 [⟨some 2, none, .mv (.c (.bool false))⟩]
def c53r1 : List AOper :=
 [⟨some 3, none, .mv (.c (.int .i64 0))⟩]
def c53r2 : List AOper :=
 [⟨some 5, none, .mv (.t 3)⟩,
 ⟨some 6, none, .mv (.t 0)⟩,
 ⟨some 7, none, .lenL (.t 6)⟩,
 ⟨some 8, none, .bin .lss (.t 5) (.t 7)⟩]
def c53r3 : List AOper :=
 [⟨some 4, none, .mv (.c (.int .i64 0))⟩]
def c53r4 : List AOper :=
 [⟨some 11, none, .mv (.t 4)⟩,
 ⟨some 12, none, .mv (.t 3)⟩,
 ⟨some 13, none, .bin .lss (.t 11) (.t 12)⟩]
def c53d0 : List (AOper × List Nat) :=
 [(⟨some 16, none, .mv (.t 0)⟩, []),
 (⟨some 17, none, .mv (.t 3)⟩, []),
 (⟨some 18, none, .idxA (.t 16) (.t 17) none 4⟩, [0, 1]),
 (⟨some 19, none, .fldA (.t 18) 1⟩, [2]),
 (⟨some 20, none, .load (.t 19) none⟩, [3]),
 (⟨some 21, none, .bin .gtr (.t 20) (.c (.int .i64 0))⟩, [4]),
 (⟨some 22, none, .mv (.t 21)⟩, [5]),
 (⟨some 23, some (22, true), .mv (.t 0)⟩, [6]),
 (⟨some 24, some (22, true), .mv (.t 3)⟩, [6]),
 (⟨some 25, some (22, true), .idxA (.t 23) (.t 24) none 4⟩, [7, 8, 6]),
 (⟨some 26, some (22, true), .fldA (.t 25) 1⟩, [9, 6]),
 (⟨some 27, some (22, true), .load (.t 26) none⟩, [10, 6]),
 (⟨some 28, some (22, true), .mv (.t 0)⟩, [6]),
 (⟨some 29, some (22, true), .mv (.t 4)⟩, [6]),
 (⟨some 30, some (22, true), .idxA (.t 28) (.t 29) none 4⟩, [12, 13, 6]),
 (⟨some 31, some (22, true), .fldA (.t 30) 1⟩, [14, 6]),
 (⟨some 32, some (22, true), .load (.t 31) none⟩, [15, 6]),
 (⟨some 33, some (22, true), .bin .eql (.t 27) (.t 32)⟩, [11, 16, 6]),
 (⟨some 34, none, .pick (.t 22) (.t 33) (.c (.bool false))⟩, [6, 17]),
 (⟨some 35, none, .mv (.t 34)⟩, [18, 6]),
 (⟨some 36, some (35, true), .mv (.t 0)⟩, [19]),
 (⟨some 37, some (35, true), .mv (.t 3)⟩, [19]),
 (⟨some 38, some (35, true), .idxA (.t 36) (.t 37) none 4⟩, [20, 21, 19]),
 (⟨some 39, some (35, true), .fldA (.t 38) 3⟩, [22, 19]),
 (⟨some 40, some (35, true), .load (.t 39) none⟩, [23, 19]),
 (⟨some 41, some (35, true), .mv (.t 0)⟩, [19]),
 (⟨some 42, some (35, true), .mv (.t 4)⟩, [19]),
 (⟨some 43, some (35, true), .idxA (.t 41) (.t 42) none 4⟩, [25, 26, 19]),
 (⟨some 44, some (35, true), .fldA (.t 43) 2⟩, [27, 19]),
 (⟨some 45, some (35, true), .load (.t 44) none⟩, [28, 19]),
 (⟨some 46, some (35, true), .bin .geq (.t 40) (.t 45)⟩, [24, 29, 19]),
 (⟨some 47, none, .pick (.t 35) (.t 46) (.c (.bool false))⟩, [19, 30]),
 (⟨some 48, none, .mv (.t 47)⟩, [31, 19]),
 (⟨some 49, some (48, true), .mv (.t 0)⟩, [32]),
 (⟨some 50, some (48, true), .mv (.t 4)⟩, [32]),
 (⟨some 51, some (48, true), .idxA (.t 49) (.t 50) none 4⟩, [33, 34, 32]),
 (⟨some 52, some (48, true), .fldA (.t 51) 3⟩, [35, 32]),
 (⟨some 53, some (48, true), .load (.t 52) none⟩, [36, 32]),
 (⟨some 54, some (48, true), .mv (.t 0)⟩, [32]),
 (⟨some 55, some (48, true), .mv (.t 3)⟩, [32]),
 (⟨some 56, some (48, true), .idxA (.t 54) (.t 55) none 4⟩, [38, 39, 32]),
 (⟨some 57, some (48, true), .fldA (.t 56) 2⟩, [40, 32]),
 (⟨some 58, some (48, true), .load (.t 57) none⟩, [41, 32]),
 (⟨some 59, some (48, true), .bin .geq (.t 53) (.t 58)⟩, [37, 42, 32]),
 (⟨some 60, none, .pick (.t 48) (.t 59) (.c (.bool false))⟩, [32, 43])]
def c53r5 : List AOper :=
 [⟨some 2, none, .mv (.c (.bool false))⟩]
def c53r6 : List AOper :=
 [⟨some 14, none, .mv (.t 4)⟩,
 ⟨some 15, none, .bin .add (.t 14) (.c (.int .i64 1))⟩,
 ⟨some 4, none, .mv (.t 15)⟩]
def c53l1 : AC := (.seq (.seq (.region c53r4) (.cond (.t 13) .skip (.exit 2))) (.seq (.block 3 (.seq (.drawn c53d0) (.cond (.t 60) (.seq (.region c53r5) .ret) .skip))) (.region c53r6)))
def c53r7 : List AOper :=
 [⟨some 9, none, .mv (.t 3)⟩,
 ⟨some 10, none, .bin .add (.t 9) (.c (.int .i64 1))⟩,
 ⟨some 3, none, .mv (.t 10)⟩]
def c53l0 : AC := (.seq (.seq (.region c53r2) (.cond (.t 8) .skip (.exit 0))) (.seq (.block 1 (.seq (.region c53r3) (.block 2 (.loop c53l1)))) (.region c53r7)))
def c53r8 : List AOper :=
 [⟨some 2, none, .mv (.c (.bool true))⟩]
def c53 : AC := (.seq (.region c53r0) (.seq (.seq (.region c53r1) (.block 0 (.loop c53l0))) (.seq (.region c53r8) .ret)))
def r53 : List ARes := [.tmp 2]
theorem c53_ok : Try.f53.body.bind (cCode Try.prog Try.f53.ntmps) = some c53 := by kernel_rfl
theorem r53_ok : Try.f53.results.toList.mapM (cRes Try.prog Try.f53.ntmps) = some r53 := by kernel_rfl
def c54r0 : List AOper :=
 [⟨some 4, none, .mv (.c .nils)⟩]
def c54r1 : List AOper :=
 [⟨some 8, none, .mv (.t 0)⟩,
 ⟨some 9, none, .mv (.t 1)⟩,
 ⟨some 10, none, .call (.c (.fn 64 [])) [.t 8, .t 9]⟩,
 ⟨some 5, none, .mv (.t 10)⟩]
def c54r2 : List AOper :=
 [⟨some 11, none, .mv (.t 5)⟩,
 ⟨some 12, none, .bin .eql (.t 11) (.c (.int .i64 (-1)))⟩]
def c54r3 : List AOper :=
 [⟨some 13, none, .mv (.t 0)⟩,
 ⟨some 4, none, .mv (.t 13)⟩]
def c54r4 : List AOper :=
 [⟨some 14, none, .mv (.t 5)⟩,
 ⟨some 15, none, .bin .add (.t 14) (.c (.int .i64 1))⟩,
 ⟨some 6, none, .mv (.t 15)⟩]
def c54r5 : List AOper :=
 [⟨some 16, none, .mv (.t 6)⟩,
 ⟨some 17, none, .mv (.t 0)⟩,
 ⟨some 18, none, .lenL (.t 17)⟩,
 ⟨some 19, none, .bin .lss (.t 16) (.t 18)⟩]
def c54r6 : List AOper :=
 [⟨some 22, none, .mv (.t 0)⟩,
 ⟨some 23, none, .mv (.t 6)⟩,
 ⟨some 24, none, .idxA (.t 22) (.t 23) none 4⟩,
 ⟨some 25, none, .load (.t 24) (some 4)⟩,
 ⟨some 7, none, .alloc [.int .i64 0, .int .i64 0, .str [], .str []]⟩,
 ⟨none, none, .store (.t 7) (.t 25) 4⟩]
def c54r7 : List AOper :=
 [⟨some 26, none, .mv (.t 1)⟩,
 ⟨some 27, none, .load (.t 7) (some 4)⟩,
 ⟨some 28, none, .call (.t 26) [.t 27]⟩,
 ⟨some 29, none, .un .not (.t 28)⟩]
def c54r8 : List AOper :=
 [⟨some 30, none, .mv (.t 0)⟩,
 ⟨some 31, none, .mv (.t 5)⟩,
 ⟨some 32, none, .load (.t 7) (some 4)⟩,
 ⟨some 33, none, .idxA (.t 30) (.t 31) none 4⟩,
 ⟨none, none, .store (.t 33) (.t 32) 4⟩]
def c54r9 : List AOper :=
 [⟨some 34, none, .mv (.t 5)⟩,
 ⟨some 35, none, .bin .add (.t 34) (.c (.int .i64 1))⟩,
 ⟨some 5, none, .mv (.t 35)⟩]
def c54r10 : List AOper :=
 [⟨some 20, none, .mv (.t 6)⟩,
 ⟨some 21, none, .bin .add (.t 20) (.c (.int .i64 1))⟩,
 ⟨some 6, none, .mv (.t 21)⟩]
def c54l0 : AC := (.seq (.seq (.region c54r5) (.cond (.t 19) .skip (.exit 0))) (.seq (.block 1 (.seq (.region c54r6) (.seq (.region c54r7) (.cond (.t 29) (.seq (.region c54r8) (.region c54r9)) .skip)))) (.region c54r10)))
def c54r11 : List AOper :=
 [⟨some 36, none, .mv (.t 0)⟩,
 ⟨some 37, none, .mv (.t 5)⟩,
 ⟨some 38, none, .slc (.t 36) (some (.t 37)) none none 4⟩,
 ⟨none, none, .clear (.t 38) [.int .i64 0, .int .i64 0, .str [], .str []]⟩]
def c54r12 : List AOper :=
 [⟨some 39, none, .mv (.t 0)⟩,
 ⟨some 40, none, .mv (.t 5)⟩,
 ⟨some 41, none, .slc (.t 39) none (some (.t 40)) none 4⟩,
 ⟨some 4, none, .mv (.t 41)⟩]
def c54 : AC := (.seq (.region c54r0) (.seq (.region c54r1) (.seq (.seq (.region c54r2) (.cond (.t 12) (.seq (.region c54r3) .ret) .skip)) (.seq (.seq (.region c54r4) (.block 0 (.loop c54l0))) (.seq (.region c54r11) (.seq (.region c54r12) .ret))))))
def r54 : List ARes := [.tmp 4]
theorem c54_ok : Try.f54.body.bind (cCode Try.prog Try.f54.ntmps) = some c54 := by kernel_rfl
theorem r54_ok : Try.f54.results.toList.mapM (cRes Try.prog Try.f54.ntmps) = some r54 := by kernel_rfl
def c55r0 : List AOper :=
 [⟨some 2, none, .mv (.c .nils)⟩]
def c55r1 : List AOper :=
 [⟨some 3, none, .mv (.t 0)⟩,
 ⟨some 4, none, .eq false 2 (.t 3) (.c .nils)⟩]
def c55r2 : List AOper :=
 [⟨some 2, none, .mv (.c .nils)⟩]
def c55r3 : List AOper :=
 [⟨some 5, none, .bslice 0 4 [.int .i64 0, .int .i64 0, .str [], .str []] []⟩,
 ⟨some 6, none, .mv (.t 0)⟩,
 ⟨some 7, none, .append (.t 5) (.t 6) 4 48 false⟩,
 ⟨some 2, none, .mv (.t 7)⟩]
def c55 : AC := (.seq (.region c55r0) (.seq (.seq (.region c55r1) (.cond (.t 4) (.seq (.region c55r2) .ret) .skip)) (.seq (.region c55r3) .ret)))
def r55 : List ARes := [.tmp 2]
theorem c55_ok : Try.f55.body.bind (cCode Try.prog Try.f55.ntmps) = some c55 := by kernel_rfl
theorem r55_ok : Try.f55.results.toList.mapM (cRes Try.prog Try.f55.ntmps) = some r55 := by kernel_rfl
def c56r0 : List AOper :=
 [⟨some 4, none, .box (.t 0)⟩,
 ⟨some 5, none, .mv (.c (.bool false))⟩]
def c56r1 : List AOper :=
 [⟨some 6, none, .fldA (.t 4) 1⟩,
 ⟨some 7, none, .load (.t 6) none⟩,
 ⟨some 8, none, .load (.t 1) none⟩,
 ⟨some 9, none, .bin .neq (.t 7) (.t 8)⟩,
 ⟨some 10, none, .mv (.t 9)⟩,
 ⟨some 11, some (10, false), .fldA (.t 4) 3⟩,
 ⟨some 12, some (10, false), .load (.t 11) none⟩,
 ⟨some 13, some (10, false), .load (.t 2) none⟩,
 ⟨some 14, some (10, false), .bin .lss (.t 12) (.t 13)⟩,
 ⟨some 15, none, .pick (.t 10) (.c (.bool true)) (.t 14)⟩,
 ⟨some 16, none, .mv (.t 15)⟩,
 ⟨some 17, some (16, false), .fldA (.t 4) 2⟩,
 ⟨some 18, some (16, false), .load (.t 17) none⟩,
 ⟨some 19, some (16, false), .load (.t 3) none⟩,
 ⟨some 20, some (16, false), .bin .gtr (.t 18) (.t 19)⟩,
 ⟨some 21, none, .pick (.t 16) (.c (.bool true)) (.t 20)⟩,
 ⟨some 5, none, .mv (.t 21)⟩]
def c56 : AC := (.seq (.region c56r0) (.seq (.region c56r1) .ret))
def r56 : List ARes := [.tmp 5]
theorem c56_ok : Try.f56.body.bind (cCode Try.prog Try.f56.ntmps) = some c56 := by kernel_rfl
theorem r56_ok : Try.f56.results.toList.mapM (cRes Try.prog Try.f56.ntmps) = some r56 := by kernel_rfl
def c57r0 : List AOper :=
 [⟨some 2, none, .mv (.t 0)⟩,
 ⟨some 3, none, .nilck (.t 2)⟩,
 ⟨some 4, none, .fldA (.t 3) 0⟩,
 ⟨some 5, none, .load (.t 4) none⟩,
 ⟨some 6, none, .eq false 1 (.t 5) (.c .nilp)⟩]
def c57r1 : List AOper :=
 [⟨some 7, none, .mv (.t 0)⟩,
 ⟨some 8, none, .mv (.t 0)⟩,
 ⟨some 9, none, .cvU (.t 8)⟩,
 ⟨some 10, none, .mv (.t 9)⟩,
 ⟨some 11, none, .cvP (.t 10) 57 2⟩,
 ⟨some 12, none, .nilck (.t 7)⟩,
 ⟨some 13, none, .fldA (.t 12) 0⟩,
 ⟨none, none, .store (.t 13) (.t 11) 1⟩]
def c57r2 : List AOper :=
 [⟨some 14, none, .mv (.t 0)⟩,
 ⟨some 15, none, .nilck (.t 14)⟩,
 ⟨some 16, none, .fldA (.t 15) 0⟩,
 ⟨some 17, none, .load (.t 16) none⟩,
 ⟨some 18, none, .mv (.t 0)⟩,
 ⟨some 19, none, .eq true 1 (.t 17) (.t 18)⟩]
def c57 : AC := (.seq (.region c57r0) (.cond (.t 6) (.region c57r1) (.seq (.region c57r2) (.cond (.t 19) .stop .skip))))
def r57 : List ARes := []
theorem c57_ok : Try.f57.body.bind (cCode Try.prog Try.f57.ntmps) = some c57 := by kernel_rfl
theorem r57_ok : Try.f57.results.toList.mapM (cRes Try.prog Try.f57.ntmps) = some r57 := by kernel_rfl
def c58r0 : List AOper :=
 [⟨some 1, none, .box (.t 0)⟩,
 ⟨some 2, none, .mv (.c (.bool false))⟩]
def c58r1 : List AOper :=
 [⟨some 3, none, .fldA (.t 1) 0⟩,
 ⟨some 4, none, .load (.t 3) none⟩,
 ⟨some 5, none, .call (.c (.fn 59 [])) [.t 4, .c (.int .i64 1)]⟩,
 ⟨some 6, none, .mv (.t 5)⟩,
 ⟨some 7, some (6, true), .fldA (.t 1) 1⟩,
 ⟨some 8, some (6, true), .load (.t 7) none⟩,
 ⟨some 9, some (6, true), .bin .geq (.t 8) (.c (.int .i64 0))⟩,
 ⟨some 10, none, .pick (.t 6) (.t 9) (.c (.bool false))⟩,
 ⟨some 11, none, .mv (.t 10)⟩,
 ⟨some 12, some (11, true), .fldA (.t 1) 1⟩,
 ⟨some 13, some (11, true), .load (.t 12) none⟩,
 ⟨some 14, some (11, true), .bin .leq (.t 13) (.c (.int .i64 2))⟩,
 ⟨some 15, none, .pick (.t 11) (.t 14) (.c (.bool false))⟩,
 ⟨some 16, none, .mv (.t 15)⟩,
 ⟨some 17, some (16, true), .fldA (.t 1) 2⟩,
 ⟨some 18, some (16, true), .load (.t 17) none⟩,
 ⟨some 19, some (16, true), .call (.c (.fn 71 [])) [.t 18]⟩,
 ⟨some 20, none, .pick (.t 16) (.t 19) (.c (.bool false))⟩,
 ⟨some 21, none, .mv (.t 20)⟩,
 ⟨some 22, some (21, true), .fldA (.t 1) 3⟩,
 ⟨some 23, some (21, true), .load (.t 22) none⟩,
 ⟨some 24, some (21, true), .call (.c (.fn 71 [])) [.t 23]⟩,
 ⟨some 25, none, .pick (.t 21) (.t 24) (.c (.bool false))⟩,
 ⟨some 26, none, .mv (.t 25)⟩,
 ⟨some 27, some (26, true), .fldA (.t 1) 2⟩,
 ⟨some 28, some (26, true), .load (.t 27) none⟩,
 ⟨some 29, some (26, true), .fldA (.t 1) 3⟩,
 ⟨some 30, some (26, true), .load (.t 29) none⟩,
 ⟨some 31, some (26, true), .bin .leq (.t 28) (.t 30)⟩,
 ⟨some 32, none, .pick (.t 26) (.t 31) (.c (.bool false))⟩,
 ⟨some 2, none, .mv (.t 32)⟩]
def c58 : AC := (.seq (.region c58r0) (.seq (.region c58r1) .ret))
def r58 : List ARes := [.tmp 2]
theorem c58_ok : Try.f58.body.bind (cCode Try.prog Try.f58.ntmps) = some c58 := by kernel_rfl
theorem r58_ok : Try.f58.results.toList.mapM (cRes Try.prog Try.f58.ntmps) = some r58 := by kernel_rfl
def c59r0 : List AOper :=
 [⟨some 4, none, .mv (.c (.bool false))⟩]
def c59r1 : List AOper :=
 [⟨some 5, none, .mv (.t 0)⟩,
 ⟨some 6, none, .mv (.t 1)⟩,
 ⟨some 7, none, .bin .geq (.t 5) (.t 6)⟩,
 ⟨some 8, none, .mv (.t 7)⟩,
 ⟨some 9, some (8, true), .mv (.t 0)⟩,
 ⟨some 10, some (8, true), .bin .leq (.t 9) (.c (.int .i64 1073741824))⟩,
 ⟨some 11, none, .pick (.t 8) (.t 10) (.c (.bool false))⟩,
 ⟨some 4, none, .mv (.t 11)⟩]
def c59 : AC := (.seq (.region c59r0) (.seq (.region c59r1) .ret))
def r59 : List ARes := [.tmp 4]
theorem c59_ok : Try.f59.body.bind (cCode Try.prog Try.f59.ntmps) = some c59 := by kernel_rfl
theorem r59_ok : Try.f59.results.toList.mapM (cRes Try.prog Try.f59.ntmps) = some r59 := by kernel_rfl
def c60r0 : List AOper :=
 [⟨some 2, none, .mv (.c (.str []))⟩,
 ⟨some 3, none, .mv (.c (.int .i64 0))⟩]
def c60r1 : List AOper :=
 [⟨some 5, none, .mv (.t 0)⟩,
 ⟨some 6, none, .bin .lss (.t 5) (.c (.int .i64 0))⟩,
 ⟨some 7, none, .mv (.t 6)⟩,
 ⟨some 8, some (7, false), .mv (.t 0)⟩,
 ⟨some 9, some (7, false), .bin .gtr (.t 8) (.c (.int .i64 4611686018427387904))⟩,
 ⟨some 10, none, .pick (.t 7) (.c (.bool true)) (.t 9)⟩]
def c60r2 : List AOper :=
 [⟨some 2, none, .mv (.c (.str []))⟩,
 ⟨some 3, none, .mv (.c (.int .i64 1))⟩]
def c60r3 : List AOper :=
 [⟨some 4, none, .mv (.c .nils)⟩]
def c60r4 : List AOper :=
 [⟨some 11, none, .mv (.t 0)⟩,
 ⟨some 12, none, .bin .gtr (.t 11) (.c (.int .i64 127))⟩]
def c60r5 : List AOper :=
 [⟨some 13, none, .mv (.t 4)⟩,
 ⟨some 14, none, .mv (.t 0)⟩,
 ⟨some 15, none, .bin .and (.t 14) (.c (.int .i64 127))⟩,
 ⟨some 16, none, .bin .or (.t 15) (.c (.int .i64 128))⟩,
 ⟨some 17, none, .convI .u8 (.t 16)⟩,
 ⟨some 18, none, .bslice 1 1 [.int .u8 0] [(0, .t 17)]⟩,
 ⟨some 19, none, .append (.t 13) (.t 18) 1 1 false⟩,
 ⟨some 4, none, .mv (.t 19)⟩]
def c60r6 : List AOper :=
 [⟨some 20, none, .mv (.t 0)⟩,
 ⟨some 21, none, .bin .shr (.t 20) (.c (.int .u64 7))⟩,
 ⟨some 0, none, .mv (.t 21)⟩]
def c60l0 : AC := (.seq (.seq (.region c60r4) (.cond (.t 12) .skip (.exit 0))) (.block 1 (.seq (.region c60r5) (.region c60r6))))
def c60r7 : List AOper :=
 [⟨some 22, none, .mv (.t 4)⟩,
 ⟨some 23, none, .mv (.t 0)⟩,
 ⟨some 24, none, .convI .u8 (.t 23)⟩,
 ⟨some 25, none, .bslice 1 1 [.int .u8 0] [(0, .t 24)]⟩,
 ⟨some 26, none, .append (.t 22) (.t 25) 1 1 false⟩,
 ⟨some 27, none, .b2s (.t 26)⟩,
 ⟨some 2, none, .mv (.t 27)⟩,
 ⟨some 3, none, .mv (.c (.int .i64 0))⟩]
def c60 : AC := (.seq (.region c60r0) (.seq (.seq (.region c60r1) (.cond (.t 10) (.seq (.region c60r2) .ret) .skip)) (.seq (.region c60r3) (.seq (.block 0 (.loop c60l0)) (.seq (.region c60r7) .ret)))))
def r60 : List ARes := [.tmp 2, .tmp 3]
theorem c60_ok : Try.f60.body.bind (cCode Try.prog Try.f60.ntmps) = some c60 := by kernel_rfl
theorem r60_ok : Try.f60.results.toList.mapM (cRes Try.prog Try.f60.ntmps) = some r60 := by kernel_rfl
def c61r0 : List AOper :=
 [⟨some 2, none, .mv (.c (.str []))⟩,
 ⟨some 3, none, .mv (.c (.int .i64 0))⟩]
def c61r1 : List AOper :=
 [⟨some 6, none, .mv (.t 0)⟩,
 ⟨some 7, none, .lenS (.t 6)⟩,
 ⟨some 8, none, .bin .gtr (.t 7) (.c (.int .i64 262144))⟩]
def c61r2 : List AOper :=
 [⟨some 2, none, .mv (.c (.str []))⟩,
 ⟨some 3, none, .mv (.c (.int .i64 1))⟩]
def c61r3 : List AOper :=
 [⟨some 10, none, .mv (.t 0)⟩,
 ⟨some 11, none, .lenS (.t 10)⟩,
 ⟨some 12, none, .call (.c (.fn 60 [])) [.t 11]⟩,
 ⟨some 9, none, .mv (.t 12)⟩,
 ⟨some 13, none, .ext (.t 9) 0⟩,
 ⟨some 14, none, .ext (.t 9) 1⟩,
 ⟨some 4, none, .mv (.t 13)⟩,
 ⟨some 5, none, .mv (.t 14)⟩]
def c61r4 : List AOper :=
 [⟨some 15, none, .mv (.t 4)⟩,
 ⟨some 16, none, .mv (.t 0)⟩,
 ⟨some 17, none, .bin .add (.t 15) (.t 16)⟩,
 ⟨some 2, none, .mv (.t 17)⟩,
 ⟨some 3, none, .mv (.c (.int .i64 0))⟩]
def c61 : AC := (.seq (.region c61r0) (.seq (.seq (.region c61r1) (.cond (.t 8) (.seq (.region c61r2) .ret) .skip)) (.seq (.region c61r3) (.seq (.region c61r4) .ret))))
def r61 : List ARes := [.tmp 2, .tmp 3]
theorem c61_ok : Try.f61.body.bind (cCode Try.prog Try.f61.ntmps) = some c61 := by kernel_rfl
theorem r61_ok : Try.f61.results.toList.mapM (cRes Try.prog Try.f61.ntmps) = some r61 := by kernel_rfl
def c62r0 : List AOper :=
 [⟨some 2, none, .mv (.c (.int .i64 0))⟩,
 ⟨some 3, none, .mv (.c (.int .i64 0))⟩,
 ⟨some 4, none, .mv (.c (.int .i64 0))⟩]
def c62r1 : List AOper :=
 [⟨some 5, none, .mv (.c (.int .i64 0))⟩]
def c62r2 : List AOper :=
 [⟨some 6, none, .mv (.c (.int .i64 0))⟩]
def c62r3 : List AOper :=
 [⟨some 7, none, .mv (.t 6)⟩,
 ⟨some 8, none, .bin .lss (.t 7) (.c (.int .i64 9))⟩]
def c62r4 : List AOper :=
 [⟨some 11, none, .mv (.t 6)⟩,
 ⟨some 12, none, .mv (.t 0)⟩,
 ⟨some 13, none, .lenS (.t 12)⟩,
 ⟨some 14, none, .bin .geq (.t 11) (.t 13)⟩]
def c62r5 : List AOper :=
 [⟨some 2, none, .mv (.c (.int .i64 0))⟩,
 ⟨some 3, none, .mv (.c (.int .i64 0))⟩,
 ⟨some 4, none, .mv (.c (.int .i64 10))⟩]
def c62r6 : List AOper :=
 [⟨some 15, none, .mv (.t 5)⟩,
 ⟨some 16, none, .mv (.t 0)⟩,
 ⟨some 17, none, .mv (.t 6)⟩,
 ⟨some 18, none, .idxS (.t 16) (.t 17)⟩,
 ⟨some 19, none, .bin .and (.t 18) (.c (.int .u8 127))⟩,
 ⟨some 20, none, .convI .i64 (.t 19)⟩,
 ⟨some 21, none, .mv (.t 6)⟩,
 ⟨some 22, none, .bin .mul (.c (.int .i64 7)) (.t 21)⟩,
 ⟨some 23, none, .bin .shl (.t 20) (.t 22)⟩,
 ⟨some 24, none, .bin .or (.t 15) (.t 23)⟩,
 ⟨some 5, none, .mv (.t 24)⟩]
def c62r7 : List AOper :=
 [⟨some 25, none, .mv (.t 0)⟩,
 ⟨some 26, none, .mv (.t 6)⟩,
 ⟨some 27, none, .idxS (.t 25) (.t 26)⟩,
 ⟨some 28, none, .bin .lss (.t 27) (.c (.int .u8 128))⟩]
def c62r8 : List AOper :=
 [⟨some 29, none, .mv (.t 0)⟩,
 ⟨some 30, none, .mv (.t 6)⟩,
 ⟨some 31, none, .idxS (.t 29) (.t 30)⟩,
 ⟨some 32, none, .bin .eql (.t 31) (.c (.int .u8 0))⟩,
 ⟨some 33, none, .mv (.t 32)⟩,
 ⟨some 34, some (33, true), .mv (.t 6)⟩,
 ⟨some 35, some (33, true), .bin .gtr (.t 34) (.c (.int .i64 0))⟩,
 ⟨some 36, none, .pick (.t 33) (.t 35) (.c (.bool false))⟩,
 ⟨some 37, none, .mv (.t 36)⟩,
 ⟨some 38, some (37, false), .mv (.t 5)⟩,
 ⟨some 39, some (37, false), .bin .lss (.t 38) (.c (.int .i64 0))⟩,
 ⟨some 40, none, .pick (.t 37) (.c (.bool true)) (.t 39)⟩,
 ⟨some 41, none, .mv (.t 40)⟩,
 ⟨some 42, some (41, false), .mv (.t 5)⟩,
 ⟨some 43, some (41, false), .bin .gtr (.t 42) (.c (.int .i64 4611686018427387904))⟩,
 ⟨some 44, none, .pick (.t 41) (.c (.bool true)) (.t 43)⟩]
def c62r9 : List AOper :=
 [⟨some 2, none, .mv (.c (.int .i64 0))⟩,
 ⟨some 3, none, .mv (.c (.int .i64 0))⟩,
 ⟨some 4, none, .mv (.c (.int .i64 11))⟩]
def c62r10 : List AOper :=
 [⟨some 45, none, .mv (.t 5)⟩,
 ⟨some 46, none, .mv (.t 6)⟩,
 ⟨some 47, none, .bin .add (.t 46) (.c (.int .i64 1))⟩,
 ⟨some 2, none, .mv (.t 45)⟩,
 ⟨some 3, none, .mv (.t 47)⟩,
 ⟨some 4, none, .mv (.c (.int .i64 0))⟩]
def c62r11 : List AOper :=
 [⟨some 9, none, .mv (.t 6)⟩,
 ⟨some 10, none, .bin .add (.t 9) (.c (.int .i64 1))⟩,
 ⟨some 6, none, .mv (.t 10)⟩]
def c62l0 : AC := (.seq (.seq (.region c62r3) (.cond (.t 8) .skip (.exit 0))) (.seq (.block 1 (.seq (.seq (.region c62r4) (.cond (.t 14) (.seq (.region c62r5) .ret) .skip)) (.seq (.region c62r6) (.seq (.region c62r7) (.cond (.t 28) (.seq (.seq (.region c62r8) (.cond (.t 44) (.seq (.region c62r9) .ret) .skip)) (.seq (.region c62r10) .ret)) .skip))))) (.region c62r11)))
def c62r12 : List AOper :=
 [⟨some 2, none, .mv (.c (.int .i64 0))⟩,
 ⟨some 3, none, .mv (.c (.int .i64 0))⟩,
 ⟨some 4, none, .mv (.c (.int .i64 11))⟩]
def c62 : AC := (.seq (.region c62r0) (.seq (.region c62r1) (.seq (.seq (.region c62r2) (.block 0 (.loop c62l0))) (.seq (.region c62r12) .ret))))
def r62 : List ARes := [.tmp 2, .tmp 3, .tmp 4]
theorem c62_ok : Try.f62.body.bind (cCode Try.prog Try.f62.ntmps) = some c62 := by kernel_rfl
theorem r62_ok : Try.f62.results.toList.mapM (cRes Try.prog Try.f62.ntmps) = some r62 := by kernel_rfl
def c63r0 : List AOper :=
 [⟨some 2, none, .mv (.c (.str []))⟩,
 ⟨some 3, none, .mv (.c (.int .i64 0))⟩,
 ⟨some 4, none, .mv (.c (.int .i64 0))⟩]
def c63r1 : List AOper :=
 [⟨some 9, none, .mv (.t 0)⟩,
 ⟨some 10, none, .call (.c (.fn 62 [])) [.t 9]⟩,
 ⟨some 8, none, .mv (.t 10)⟩,
 ⟨some 11, none, .ext (.t 8) 0⟩,
 ⟨some 12, none, .ext (.t 8) 1⟩,
 ⟨some 13, none, .ext (.t 8) 2⟩,
 ⟨some 5, none, .mv (.t 11)⟩,
 ⟨some 6, none, .mv (.t 12)⟩,
 ⟨some 7, none, .mv (.t 13)⟩]
def c63r2 : List AOper :=
 [⟨some 14, none, .mv (.t 7)⟩,
 ⟨some 15, none, .bin .neq (.t 14) (.c (.int .i64 0))⟩]
def c63r3 : List AOper :=
 [⟨some 16, none, .mv (.t 7)⟩,
 ⟨some 2, none, .mv (.c (.str []))⟩,
 ⟨some 3, none, .mv (.c (.int .i64 0))⟩,
 ⟨some 4, none, .mv (.t 16)⟩]
def c63r4 : List AOper :=
 [⟨some 17, none, .mv (.t 5)⟩,
 ⟨some 18, none, .bin .gtr (.t 17) (.c (.int .i64 262144))⟩]
def c63r5 : List AOper :=
 [⟨some 2, none, .mv (.c (.str []))⟩,
 ⟨some 3, none, .mv (.c (.int .i64 0))⟩,
 ⟨some 4, none, .mv (.c (.int .i64 11))⟩]
def c63r6 : List AOper :=
 [⟨some 19, none, .mv (.t 5)⟩,
 ⟨some 20, none, .mv (.t 0)⟩,
 ⟨some 21, none, .lenS (.t 20)⟩,
 ⟨some 22, none, .mv (.t 6)⟩,
 ⟨some 23, none, .bin .sub (.t 21) (.t 22)⟩,
 ⟨some 24, none, .bin .gtr (.t 19) (.t 23)⟩]
def c63r7 : List AOper :=
 [⟨some 2, none, .mv (.c (.str []))⟩,
 ⟨some 3, none, .mv (.c (.int .i64 0))⟩,
 ⟨some 4, none, .mv (.c (.int .i64 10))⟩]
def c63r8 : List AOper :=
 [⟨some 25, none, .mv (.t 0)⟩,
 ⟨some 26, none, .mv (.t 6)⟩,
 ⟨some 27, none, .mv (.t 6)⟩,
 ⟨some 28, none, .mv (.t 5)⟩,
 ⟨some 29, none, .bin .add (.t 27) (.t 28)⟩,
 ⟨some 30, none, .slcS (.t 25) (some (.t 26)) (some (.t 29))⟩,
 ⟨some 31, none, .mv (.t 6)⟩,
 ⟨some 32, none, .mv (.t 5)⟩,
 ⟨some 33, none, .bin .add (.t 31) (.t 32)⟩,
 ⟨some 2, none, .mv (.t 30)⟩,
 ⟨some 3, none, .mv (.t 33)⟩,
 ⟨some 4, none, .mv (.c (.int .i64 0))⟩]
def c63 : AC := (.seq (.region c63r0) (.seq (.region c63r1) (.seq (.seq (.region c63r2) (.cond (.t 15) (.seq (.region c63r3) .ret) .skip)) (.seq (.seq (.region c63r4) (.cond (.t 18) (.seq (.region c63r5) .ret) .skip)) (.seq (.seq (.region c63r6) (.cond (.t 24) (.seq (.region c63r7) .ret) .skip)) (.seq (.region c63r8) .ret))))))
def r63 : List ARes := [.tmp 2, .tmp 3, .tmp 4]
theorem c63_ok : Try.f63.body.bind (cCode Try.prog Try.f63.ntmps) = some c63 := by kernel_rfl
theorem r63_ok : Try.f63.results.toList.mapM (cRes Try.prog Try.f63.ntmps) = some r63 := by kernel_rfl
def c64r0 : List AOper :=
 [⟨some 4, none, .mv (.c (.int .i64 0))⟩]
def c64r1 : List AOper :=
 [⟨some 6, none, .mv (.t 0)⟩,
 ⟨some 7, none, .lenL (.t 6)⟩,
 ⟨some 8, none, .mv (.c (.int .i64 0))⟩]
def c64r2 : List AOper :=
 [⟨some 9, none, .bin .lss (.t 8) (.t 7)⟩]
def c64r3 : List AOper :=
 [⟨some 10, none, .mv (.t 8)⟩,
 ⟨some 5, none, .mv (.t 10)⟩]
def c64r4 : List AOper :=
 [⟨some 11, none, .mv (.t 1)⟩,
 ⟨some 12, none, .mv (.t 0)⟩,
 ⟨some 13, none, .mv (.t 5)⟩,
 ⟨some 14, none, .idxA (.t 12) (.t 13) none 4⟩,
 ⟨some 15, none, .load (.t 14) (some 4)⟩,
 ⟨some 16, none, .call (.t 11) [.t 15]⟩]
def c64r5 : List AOper :=
 [⟨some 17, none, .mv (.t 5)⟩,
 ⟨some 4, none, .mv (.t 17)⟩]
def c64r6 : List AOper :=
 [⟨some 18, none, .bin .add (.t 8) (.c (.int .i64 1))⟩,
 ⟨some 8, none, .mv (.t 18)⟩]
def c64l0 : AC := (.seq (.region c64r2) (.seq (.cond (.t 9) .skip (.exit 0)) (.seq (.block 1 (.seq (.region c64r3) (.seq (.region c64r4) (.cond (.t 16) (.seq (.region c64r5) .ret) .skip)))) (.region c64r6))))
def c64r7 : List AOper :=
 [⟨some 4, none, .mv (.c (.int .i64 (-1)))⟩]
def c64 : AC := (.seq (.region c64r0) (.seq (.seq (.region c64r1) (.block 0 (.loop c64l0))) (.seq (.region c64r7) .ret)))
def r64 : List ARes := [.tmp 4]
theorem c64_ok : Try.f64.body.bind (cCode Try.prog Try.f64.ntmps) = some c64 := by kernel_rfl
theorem r64_ok : Try.f64.results.toList.mapM (cRes Try.prog Try.f64.ntmps) = some r64 := by kernel_rfl
def c65r0 : List AOper :=
 [⟨some 4, none, .mv (.c (.int .i64 0))⟩]
def c65r1 : List AOper :=
 [⟨some 6, none, .mv (.t 0)⟩,
 ⟨some 7, none, .lenL (.t 6)⟩,
 ⟨some 8, none, .mv (.c (.int .i64 0))⟩]
def c65r2 : List AOper :=
 [⟨some 9, none, .bin .lss (.t 8) (.t 7)⟩]
def c65r3 : List AOper :=
 [⟨some 10, none, .mv (.t 8)⟩,
 ⟨some 5, none, .mv (.t 10)⟩]
def c65r4 : List AOper :=
 [⟨some 11, none, .mv (.t 1)⟩,
 ⟨some 12, none, .mv (.t 0)⟩,
 ⟨some 13, none, .mv (.t 5)⟩,
 ⟨some 14, none, .idxA (.t 12) (.t 13) none 1⟩,
 ⟨some 15, none, .load (.t 14) none⟩,
 ⟨some 16, none, .call (.t 11) [.t 15]⟩]
def c65r5 : List AOper :=
 [⟨some 17, none, .mv (.t 5)⟩,
 ⟨some 4, none, .mv (.t 17)⟩]
def c65r6 : List AOper :=
 [⟨some 18, none, .bin .add (.t 8) (.c (.int .i64 1))⟩,
 ⟨some 8, none, .mv (.t 18)⟩]
def c65l0 : AC := (.seq (.region c65r2) (.seq (.cond (.t 9) .skip (.exit 0)) (.seq (.block 1 (.seq (.region c65r3) (.seq (.region c65r4) (.cond (.t 16) (.seq (.region c65r5) .ret) .skip)))) (.region c65r6))))
def c65r7 : List AOper :=
 [⟨some 4, none, .mv (.c (.int .i64 (-1)))⟩]
def c65 : AC := (.seq (.region c65r0) (.seq (.seq (.region c65r1) (.block 0 (.loop c65l0))) (.seq (.region c65r7) .ret)))
def r65 : List ARes := [.tmp 4]
theorem c65_ok : Try.f65.body.bind (cCode Try.prog Try.f65.ntmps) = some c65 := by kernel_rfl
theorem r65_ok : Try.f65.results.toList.mapM (cRes Try.prog Try.f65.ntmps) = some r65 := by kernel_rfl
def c66r0 : List AOper :=
 [⟨some 6, none, .mv (.c (.int .i64 20))⟩]
def c66r1 : List AOper :=
 [⟨some 10, none, .mv (.t 6)⟩,
 ⟨some 7, none, .mv (.c (.int .i64 0))⟩,
 ⟨some 8, none, .mv (.t 10)⟩]
def c66r2 : List AOper :=
 [⟨some 11, none, .mv (.t 8)⟩,
 ⟨some 12, none, .mv (.t 1)⟩,
 ⟨some 13, none, .bin .leq (.t 11) (.t 12)⟩]
def c66r3 : List AOper :=
 [⟨some 14, none, .mv (.t 0)⟩,
 ⟨some 15, none, .mv (.t 7)⟩,
 ⟨some 16, none, .mv (.t 8)⟩,
 ⟨some 17, none, .mv (.t 2)⟩,
 ⟨some 18, none, .call (.c (.fn 72 [])) [.t 14, .t 15, .t 16, .t 17]⟩]
def c66r4 : List AOper :=
 [⟨some 19, none, .mv (.t 8)⟩,
 ⟨some 7, none, .mv (.t 19)⟩]
def c66r5 : List AOper :=
 [⟨some 20, none, .mv (.t 8)⟩,
 ⟨some 21, none, .mv (.t 6)⟩,
 ⟨some 22, none, .bin .add (.t 20) (.t 21)⟩,
 ⟨some 8, none, .mv (.t 22)⟩]
def c66l0 : AC := (.seq (.seq (.region c66r2) (.cond (.t 13) .skip (.exit 0))) (.block 1 (.seq (.region c66r3) (.seq (.region c66r4) (.region c66r5)))))
def c66r6 : List AOper :=
 [⟨some 23, none, .mv (.t 0)⟩,
 ⟨some 24, none, .mv (.t 7)⟩,
 ⟨some 25, none, .mv (.t 1)⟩,
 ⟨some 26, none, .mv (.t 2)⟩,
 ⟨some 27, none, .call (.c (.fn 72 [])) [.t 23, .t 24, .t 25, .t 26]⟩]
def c66r7 : List AOper :=
 [⟨some 28, none, .mv (.t 6)⟩,
 ⟨some 29, none, .mv (.t 1)⟩,
 ⟨some 30, none, .bin .lss (.t 28) (.t 29)⟩]
def c66r8 : List AOper :=
 [⟨some 31, none, .mv (.t 6)⟩,
 ⟨some 32, none, .bin .mul (.c (.int .i64 2)) (.t 31)⟩,
 ⟨some 7, none, .mv (.c (.int .i64 0))⟩,
 ⟨some 8, none, .mv (.t 32)⟩]
def c66r9 : List AOper :=
 [⟨some 33, none, .mv (.t 8)⟩,
 ⟨some 34, none, .mv (.t 1)⟩,
 ⟨some 35, none, .bin .leq (.t 33) (.t 34)⟩]
def c66r10 : List AOper :=
 [⟨some 36, none, .mv (.t 0)⟩,
 ⟨some 37, none, .mv (.t 7)⟩,
 ⟨some 38, none, .mv (.t 7)⟩,
 ⟨some 39, none, .mv (.t 6)⟩,
 ⟨some 40, none, .bin .add (.t 38) (.t 39)⟩,
 ⟨some 41, none, .mv (.t 8)⟩,
 ⟨some 42, none, .mv (.t 2)⟩,
 ⟨some 43, none, .call (.c (.fn 73 [])) [.t 36, .t 37, .t 40, .t 41, .t 42]⟩]
def c66r11 : List AOper :=
 [⟨some 44, none, .mv (.t 8)⟩,
 ⟨some 7, none, .mv (.t 44)⟩]
def c66r12 : List AOper :=
 [⟨some 45, none, .mv (.t 8)⟩,
 ⟨some 46, none, .mv (.t 6)⟩,
 ⟨some 47, none, .bin .mul (.c (.int .i64 2)) (.t 46)⟩,
 ⟨some 48, none, .bin .add (.t 45) (.t 47)⟩,
 ⟨some 8, none, .mv (.t 48)⟩]
def c66l2 : AC := (.seq (.seq (.region c66r9) (.cond (.t 35) .skip (.exit 4))) (.block 5 (.seq (.region c66r10) (.seq (.region c66r11) (.region c66r12)))))
def c66r13 : List AOper :=
 [⟨some 49, none, .mv (.t 7)⟩,
 ⟨some 50, none, .mv (.t 6)⟩,
 ⟨some 51, none, .bin .add (.t 49) (.t 50)⟩,
 ⟨some 9, none, .mv (.t 51)⟩]
def c66r14 : List AOper :=
 [⟨some 52, none, .mv (.t 9)⟩,
 ⟨some 53, none, .mv (.t 1)⟩,
 ⟨some 54, none, .bin .lss (.t 52) (.t 53)⟩]
def c66r15 : List AOper :=
 [⟨some 55, none, .mv (.t 0)⟩,
 ⟨some 56, none, .mv (.t 7)⟩,
 ⟨some 57, none, .mv (.t 9)⟩,
 ⟨some 58, none, .mv (.t 1)⟩,
 ⟨some 59, none, .mv (.t 2)⟩,
 ⟨some 60, none, .call (.c (.fn 73 [])) [.t 55, .t 56, .t 57, .t 58, .t 59]⟩]
def c66r16 : List AOper :=
 [⟨some 61, none, .mv (.t 6)⟩,
 ⟨some 62, none, .bin .mul (.t 61) (.c (.int .i64 2))⟩,
 ⟨some 6, none, .mv (.t 62)⟩]
def c66l1 : AC := (.seq (.seq (.region c66r7) (.cond (.t 30) .skip (.exit 2))) (.block 3 (.seq (.region c66r8) (.seq (.block 4 (.loop c66l2)) (.seq (.seq (.region c66r13) (.seq (.region c66r14) (.cond (.t 54) (.region c66r15) .skip))) (.region c66r16))))))
def c66 : AC := (.seq (.region c66r0) (.seq (.region c66r1) (.seq (.block 0 (.loop c66l0)) (.seq (.region c66r6) (.block 2 (.loop c66l1))))))
def r66 : List ARes := []
theorem c66_ok : Try.f66.body.bind (cCode Try.prog Try.f66.ntmps) = some c66 := by kernel_rfl
theorem r66_ok : Try.f66.results.toList.mapM (cRes Try.prog Try.f66.ntmps) = some r66 := by kernel_rfl
def c67r0 : List AOper :=
 [⟨some 4, none, .mv (.c (.int .i64 0))⟩]
def c67r1 : List AOper :=
 [⟨some 7, none, .mv (.t 0)⟩,
 ⟨some 8, none, .call (.c (.fn 74 [])) [.t 7]⟩,
 ⟨some 5, none, .mv (.t 8)⟩]
def c67r2 : List AOper :=
 [⟨some 9, none, .mv (.t 1)⟩,
 ⟨some 10, none, .call (.c (.fn 74 [])) [.t 9]⟩,
 ⟨some 6, none, .mv (.t 10)⟩]
def c67r3 : List AOper :=
 [⟨some 11, none, .mv (.t 5)⟩]
def c67r4 : List AOper :=
 [⟨some 12, none, .mv (.t 6)⟩]
def c67r5 : List AOper :=
 [⟨some 4, none, .mv (.c (.int .i64 0))⟩]
def c67r6 : List AOper :=
 [⟨some 4, none, .mv (.c (.int .i64 (-1)))⟩]
def c67r7 : List AOper :=
 [⟨some 13, none, .mv (.t 6)⟩]
def c67r8 : List AOper :=
 [⟨some 4, none, .mv (.c (.int .i64 1))⟩]
def c67r9 : List AOper :=
 [⟨some 14, none, .mv (.t 0)⟩,
 ⟨some 15, none, .mv (.t 1)⟩,
 ⟨some 16, none, .bin .lss (.t 14) (.t 15)⟩]
def c67r10 : List AOper :=
 [⟨some 4, none, .mv (.c (.int .i64 (-1)))⟩]
def c67r11 : List AOper :=
 [⟨some 17, none, .mv (.t 0)⟩,
 ⟨some 18, none, .mv (.t 1)⟩,
 ⟨some 19, none, .bin .gtr (.t 17) (.t 18)⟩]
def c67r12 : List AOper :=
 [⟨some 4, none, .mv (.c (.int .i64 1))⟩]
def c67r13 : List AOper :=
 [⟨some 4, none, .mv (.c (.int .i64 0))⟩]
def c67 : AC := (.seq (.region c67r0) (.seq (.region c67r1) (.seq (.region c67r2) (.seq (.seq (.region c67r3) (.cond (.t 11) (.seq (.seq (.region c67r4) (.cond (.t 12) (.seq (.region c67r5) .ret) .skip)) (.seq (.region c67r6) .ret)) .skip)) (.seq (.seq (.region c67r7) (.cond (.t 13) (.seq (.region c67r8) .ret) .skip)) (.seq (.seq (.region c67r9) (.cond (.t 16) (.seq (.region c67r10) .ret) .skip)) (.seq (.seq (.region c67r11) (.cond (.t 19) (.seq (.region c67r12) .ret) .skip)) (.seq (.region c67r13) .ret))))))))
def r67 : List ARes := [.tmp 4]
theorem c67_ok : Try.f67.body.bind (cCode Try.prog Try.f67.ntmps) = some c67 := by kernel_rfl
theorem r67_ok : Try.f67.results.toList.mapM (cRes Try.prog Try.f67.ntmps) = some r67 := by kernel_rfl
def c68r0 : List AOper :=
 [⟨some 4, none, .mv (.c (.int .i64 0))⟩]
def c68r1 : List AOper :=
 [⟨some 7, none, .mv (.t 0)⟩,
 ⟨some 8, none, .call (.c (.fn 75 [])) [.t 7]⟩,
 ⟨some 5, none, .mv (.t 8)⟩]
def c68r2 : List AOper :=
 [⟨some 9, none, .mv (.t 1)⟩,
 ⟨some 10, none, .call (.c (.fn 75 [])) [.t 9]⟩,
 ⟨some 6, none, .mv (.t 10)⟩]
def c68r3 : List AOper :=
 [⟨some 11, none, .mv (.t 5)⟩]
def c68r4 : List AOper :=
 [⟨some 12, none, .mv (.t 6)⟩]
def c68r5 : List AOper :=
 [⟨some 4, none, .mv (.c (.int .i64 0))⟩]
def c68r6 : List AOper :=
 [⟨some 4, none, .mv (.c (.int .i64 (-1)))⟩]
def c68r7 : List AOper :=
 [⟨some 13, none, .mv (.t 6)⟩]
def c68r8 : List AOper :=
 [⟨some 4, none, .mv (.c (.int .i64 1))⟩]
def c68r9 : List AOper :=
 [⟨some 14, none, .mv (.t 0)⟩,
 ⟨some 15, none, .mv (.t 1)⟩,
 ⟨some 16, none, .bin .lss (.t 14) (.t 15)⟩]
def c68r10 : List AOper :=
 [⟨some 4, none, .mv (.c (.int .i64 (-1)))⟩]
def c68r11 : List AOper :=
 [⟨some 17, none, .mv (.t 0)⟩,
 ⟨some 18, none, .mv (.t 1)⟩,
 ⟨some 19, none, .bin .gtr (.t 17) (.t 18)⟩]
def c68r12 : List AOper :=
 [⟨some 4, none, .mv (.c (.int .i64 1))⟩]
def c68r13 : List AOper :=
 [⟨some 4, none, .mv (.c (.int .i64 0))⟩]
def c68 : AC := (.seq (.region c68r0) (.seq (.region c68r1) (.seq (.region c68r2) (.seq (.seq (.region c68r3) (.cond (.t 11) (.seq (.seq (.region c68r4) (.cond (.t 12) (.seq (.region c68r5) .ret) .skip)) (.seq (.region c68r6) .ret)) .skip)) (.seq (.seq (.region c68r7) (.cond (.t 13) (.seq (.region c68r8) .ret) .skip)) (.seq (.seq (.region c68r9) (.cond (.t 16) (.seq (.region c68r10) .ret) .skip)) (.seq (.seq (.region c68r11) (.cond (.t 19) (.seq (.region c68r12) .ret) .skip)) (.seq (.region c68r13) .ret))))))))
def r68 : List ARes := [.tmp 4]
theorem c68_ok : Try.f68.body.bind (cCode Try.prog Try.f68.ntmps) = some c68 := by kernel_rfl
theorem r68_ok : Try.f68.results.toList.mapM (cRes Try.prog Try.f68.ntmps) = some r68 := by kernel_rfl
def c69r0 : List AOper :=
 [⟨some 2, none, .box (.t 0)⟩,
 ⟨some 3, none, .box (.t 1)⟩,
 ⟨some 4, none, .mv (.c (.bool false))⟩]
def c69r1 : List AOper :=
 [⟨some 5, none, .fldA (.t 2) 1⟩,
 ⟨some 6, none, .load (.t 5) none⟩,
 ⟨some 7, none, .fldA (.t 3) 1⟩,
 ⟨some 8, none, .load (.t 7) none⟩,
 ⟨some 9, none, .bin .neq (.t 6) (.t 8)⟩]
def c69r2 : List AOper :=
 [⟨some 10, none, .fldA (.t 2) 1⟩,
 ⟨some 11, none, .load (.t 10) none⟩,
 ⟨some 12, none, .fldA (.t 3) 1⟩,
 ⟨some 13, none, .load (.t 12) none⟩,
 ⟨some 14, none, .bin .lss (.t 11) (.t 13)⟩,
 ⟨some 4, none, .mv (.t 14)⟩]
def c69r3 : List AOper :=
 [⟨some 15, none, .fldA (.t 2) 1⟩,
 ⟨some 16, none, .load (.t 15) none⟩,
 ⟨some 17, none, .bin .eql (.t 16) (.c (.int .i64 0))⟩]
def c69r4 : List AOper :=
 [⟨some 18, none, .fldA (.t 2) 0⟩,
 ⟨some 19, none, .load (.t 18) none⟩,
 ⟨some 20, none, .fldA (.t 3) 0⟩,
 ⟨some 21, none, .load (.t 20) none⟩,
 ⟨some 22, none, .bin .gtr (.t 19) (.t 21)⟩,
 ⟨some 4, none, .mv (.t 22)⟩]
def c69r5 : List AOper :=
 [⟨some 23, none, .fldA (.t 2) 2⟩,
 ⟨some 24, none, .load (.t 23) none⟩,
 ⟨some 25, none, .fldA (.t 3) 2⟩,
 ⟨some 26, none, .load (.t 25) none⟩,
 ⟨some 27, none, .bin .lss (.t 24) (.t 26)⟩,
 ⟨some 4, none, .mv (.t 27)⟩]
def c69 : AC := (.seq (.region c69r0) (.seq (.seq (.region c69r1) (.cond (.t 9) (.seq (.region c69r2) .ret) .skip)) (.seq (.seq (.region c69r3) (.cond (.t 17) (.seq (.region c69r4) .ret) .skip)) (.seq (.region c69r5) .ret))))
def r69 : List ARes := [.tmp 4]
theorem c69_ok : Try.f69.body.bind (cCode Try.prog Try.f69.ntmps) = some c69 := by kernel_rfl
theorem r69_ok : Try.f69.results.toList.mapM (cRes Try.prog Try.f69.ntmps) = some r69 := by kernel_rfl
def c71r0 : List AOper :=
 [⟨some 2, none, .mv (.c (.bool false))⟩]
def c71r1 : List AOper :=
 [⟨some 3, none, .mv (.t 0)⟩,
 ⟨some 4, none, .lenS (.t 3)⟩,
 ⟨some 5, none, .bin .geq (.t 4) (.c (.int .i64 1))⟩,
 ⟨some 6, none, .mv (.t 5)⟩,
 ⟨some 7, some (6, true), .mv (.t 0)⟩,
 ⟨some 8, some (6, true), .lenS (.t 7)⟩,
 ⟨some 9, some (6, true), .bin .leq (.t 8) (.c (.int .i64 64))⟩,
 ⟨some 10, none, .pick (.t 6) (.t 9) (.c (.bool false))⟩,
 ⟨some 2, none, .mv (.t 10)⟩]
def c71 : AC := (.seq (.region c71r0) (.seq (.region c71r1) .ret))
def r71 : List ARes := [.tmp 2]
theorem c71_ok : Try.f71.body.bind (cCode Try.prog Try.f71.ntmps) = some c71 := by kernel_rfl
theorem r71_ok : Try.f71.results.toList.mapM (cRes Try.prog Try.f71.ntmps) = some r71 := by kernel_rfl
def c72r0 : List AOper :=
 [⟨some 10, none, .mv (.t 1)⟩,
 ⟨some 11, none, .bin .add (.t 10) (.c (.int .i64 1))⟩,
 ⟨some 8, none, .mv (.t 11)⟩]
def c72r1 : List AOper :=
 [⟨some 12, none, .mv (.t 8)⟩,
 ⟨some 13, none, .mv (.t 2)⟩,
 ⟨some 14, none, .bin .lss (.t 12) (.t 13)⟩]
def c72r2 : List AOper :=
 [⟨some 17, none, .mv (.t 8)⟩,
 ⟨some 9, none, .mv (.t 17)⟩]
def c72d0 : List (AOper × List Nat) :=
 [(⟨some 18, none, .mv (.t 9)⟩, []),
 (⟨some 19, none, .mv (.t 1)⟩, []),
 (⟨some 20, none, .bin .gtr (.t 18) (.t 19)⟩, [0, 1]),
 (⟨some 21, none, .mv (.t 20)⟩, [2]),
 (⟨some 22, some (21, true), .mv (.t 3)⟩, [3]),
 (⟨some 23, some (21, true), .mv (.t 0)⟩, [3]),
 (⟨some 24, some (21, true), .mv (.t 9)⟩, [3]),
 (⟨some 25, some (21, true), .idxA (.t 23) (.t 24) none 4⟩, [5, 6, 3]),
 (⟨some 26, some (21, true), .load (.t 25) (some 4)⟩, [7, 3]),
 (⟨some 27, some (21, true), .mv (.t 0)⟩, [3]),
 (⟨some 28, some (21, true), .mv (.t 9)⟩, [3]),
 (⟨some 29, some (21, true), .bin .sub (.t 28) (.c (.int .i64 1))⟩, [10, 3]),
 (⟨some 30, some (21, true), .idxA (.t 27) (.t 29) none 4⟩, [9, 11, 3]),
 (⟨some 31, some (21, true), .load (.t 30) (some 4)⟩, [12, 3]),
 (⟨some 32, some (21, true), .call (.t 22) [.t 26, .t 31]⟩, [4, 8, 13, 3, 3]),
 (⟨some 33, some (21, true), .bin .lss (.t 32) (.c (.int .i64 0))⟩, [14, 3]),
 (⟨some 34, none, .pick (.t 21) (.t 33) (.c (.bool false))⟩, [3, 15])]
def c72d1 : List (AOper × List Nat) :=
 [(⟨some 37, none, .mv (.t 0)⟩, []),
 (⟨some 38, none, .mv (.t 9)⟩, []),
 (⟨some 39, none, .mv (.t 0)⟩, []),
 (⟨some 40, none, .mv (.t 9)⟩, []),
 (⟨some 41, none, .bin .sub (.t 40) (.c (.int .i64 1))⟩, [3]),
 (⟨some 42, none, .mv (.t 0)⟩, []),
 (⟨some 43, none, .mv (.t 9)⟩, []),
 (⟨some 44, none, .bin .sub (.t 43) (.c (.int .i64 1))⟩, [6]),
 (⟨some 45, none, .idxA (.t 42) (.t 44) none 4⟩, [5, 7]),
 (⟨some 46, none, .load (.t 45) (some 4)⟩, [8]),
 (⟨some 47, none, .mv (.t 0)⟩, []),
 (⟨some 48, none, .mv (.t 9)⟩, []),
 (⟨some 49, none, .idxA (.t 47) (.t 48) none 4⟩, [10, 11]),
 (⟨some 50, none, .load (.t 49) (some 4)⟩, [12]),
 (⟨some 51, none, .idxA (.t 37) (.t 38) none 4⟩, [0, 1, 0, 1, 5, 6, 7, 8, 9, 13]),
 (⟨none, none, .store (.t 51) (.t 46) 4⟩, [14, 9, 0, 1, 5, 6, 7, 8, 9, 13]),
 (⟨some 52, none, .idxA (.t 39) (.t 41) none 4⟩, [2, 4, 0, 1, 2, 3, 4, 5, 6, 7, 8, 9, 10, 11, 12, 13, 14, 15]),
 (⟨none, none, .store (.t 52) (.t 50) 4⟩, [16, 13, 15, 0, 1, 2, 3, 4, 5, 6, 7, 8, 9, 10, 11, 12, 13, 14, 15])]
def c72r3 : List AOper :=
 [⟨some 35, none, .mv (.t 9)⟩,
 ⟨some 36, none, .bin .sub (.t 35) (.c (.int .i64 1))⟩,
 ⟨some 9, none, .mv (.t 36)⟩]
def c72l1 : AC := (.seq (.seq (.drawn c72d0) (.cond (.t 34) .skip (.exit 2))) (.seq (.block 3 (.drawn c72d1)) (.region c72r3)))
def c72r4 : List AOper :=
 [⟨some 15, none, .mv (.t 8)⟩,
 ⟨some 16, none, .bin .add (.t 15) (.c (.int .i64 1))⟩,
 ⟨some 8, none, .mv (.t 16)⟩]
def c72l0 : AC := (.seq (.seq (.region c72r1) (.cond (.t 14) .skip (.exit 0))) (.seq (.block 1 (.seq (.region c72r2) (.block 2 (.loop c72l1)))) (.region c72r4)))
def c72 : AC := (.seq (.region c72r0) (.block 0 (.loop c72l0)))
def r72 : List ARes := []
theorem c72_ok : Try.f72.body.bind (cCode Try.prog Try.f72.ntmps) = some c72 := by kernel_rfl
theorem r72_ok : Try.f72.results.toList.mapM (cRes Try.prog Try.f72.ntmps) = some r72 := by kernel_rfl
def c73r0 : List AOper :=
 [⟨some 25, none, .mv (.t 2)⟩,
 ⟨some 26, none, .mv (.t 1)⟩,
 ⟨some 27, none, .bin .sub (.t 25) (.t 26)⟩,
 ⟨some 28, none, .bin .eql (.t 27) (.c (.int .i64 1))⟩]
def c73r1 : List AOper :=
 [⟨some 29, none, .mv (.t 2)⟩,
 ⟨some 10, none, .mv (.t 29)⟩]
def c73r2 : List AOper :=
 [⟨some 30, none, .mv (.t 3)⟩,
 ⟨some 11, none, .mv (.t 30)⟩]
def c73r3 : List AOper :=
 [⟨some 31, none, .mv (.t 10)⟩,
 ⟨some 32, none, .mv (.t 11)⟩,
 ⟨some 33, none, .bin .lss (.t 31) (.t 32)⟩]
def c73r4 : List AOper :=
 [⟨some 34, none, .mv (.t 10)⟩,
 ⟨some 35, none, .mv (.t 11)⟩,
 ⟨some 36, none, .bin .add (.t 34) (.t 35)⟩,
 ⟨some 37, none, .convI .u64 (.t 36)⟩,
 ⟨some 38, none, .bin .shr (.t 37) (.c (.int .u64 1))⟩,
 ⟨some 39, none, .convI .i64 (.t 38)⟩,
 ⟨some 12, none, .mv (.t 39)⟩]
def c73d0 : List (AOper × List Nat) :=
 [(⟨some 40, none, .mv (.t 4)⟩, []),
 (⟨some 41, none, .mv (.t 0)⟩, []),
 (⟨some 42, none, .mv (.t 12)⟩, []),
 (⟨some 43, none, .idxA (.t 41) (.t 42) none 4⟩, [1, 2]),
 (⟨some 44, none, .load (.t 43) (some 4)⟩, [3]),
 (⟨some 45, none, .mv (.t 0)⟩, []),
 (⟨some 46, none, .mv (.t 1)⟩, []),
 (⟨some 47, none, .idxA (.t 45) (.t 46) none 4⟩, [5, 6]),
 (⟨some 48, none, .load (.t 47) (some 4)⟩, [7]),
 (⟨some 49, none, .call (.t 40) [.t 44, .t 48]⟩, [0, 4, 8]),
 (⟨some 50, none, .bin .lss (.t 49) (.c (.int .i64 0))⟩, [9])]
def c73r5 : List AOper :=
 [⟨some 51, none, .mv (.t 12)⟩,
 ⟨some 52, none, .bin .add (.t 51) (.c (.int .i64 1))⟩,
 ⟨some 10, none, .mv (.t 52)⟩]
def c73r6 : List AOper :=
 [⟨some 53, none, .mv (.t 12)⟩,
 ⟨some 11, none, .mv (.t 53)⟩]
def c73l0 : AC := (.seq (.seq (.region c73r3) (.cond (.t 33) .skip (.exit 0))) (.block 1 (.seq (.region c73r4) (.seq (.drawn c73d0) (.cond (.t 50) (.region c73r5) (.region c73r6))))))
def c73r7 : List AOper :=
 [⟨some 54, none, .mv (.t 1)⟩,
 ⟨some 13, none, .mv (.t 54)⟩]
def c73r8 : List AOper :=
 [⟨some 55, none, .mv (.t 13)⟩,
 ⟨some 56, none, .mv (.t 10)⟩,
 ⟨some 57, none, .bin .sub (.t 56) (.c (.int .i64 1))⟩,
 ⟨some 58, none, .bin .lss (.t 55) (.t 57)⟩]
def c73d1 : List (AOper × List Nat) :=
 [(⟨some 61, none, .mv (.t 0)⟩, []),
 (⟨some 62, none, .mv (.t 13)⟩, []),
 (⟨some 63, none, .mv (.t 0)⟩, []),
 (⟨some 64, none, .mv (.t 13)⟩, []),
 (⟨some 65, none, .bin .add (.t 64) (.c (.int .i64 1))⟩, [3]),
 (⟨some 66, none, .mv (.t 0)⟩, []),
 (⟨some 67, none, .mv (.t 13)⟩, []),
 (⟨some 68, none, .bin .add (.t 67) (.c (.int .i64 1))⟩, [6]),
 (⟨some 69, none, .idxA (.t 66) (.t 68) none 4⟩, [5, 7]),
 (⟨some 70, none, .load (.t 69) (some 4)⟩, [8]),
 (⟨some 71, none, .mv (.t 0)⟩, []),
 (⟨some 72, none, .mv (.t 13)⟩, []),
 (⟨some 73, none, .idxA (.t 71) (.t 72) none 4⟩, [10, 11]),
 (⟨some 74, none, .load (.t 73) (some 4)⟩, [12]),
 (⟨some 75, none, .idxA (.t 61) (.t 62) none 4⟩, [0, 1, 0, 1, 5, 6, 7, 8, 9, 13]),
 (⟨none, none, .store (.t 75) (.t 70) 4⟩, [14, 9, 0, 1, 5, 6, 7, 8, 9, 13]),
 (⟨some 76, none, .idxA (.t 63) (.t 65) none 4⟩, [2, 4, 0, 1, 2, 3, 4, 5, 6, 7, 8, 9, 10, 11, 12, 13, 14, 15]),
 (⟨none, none, .store (.t 76) (.t 74) 4⟩, [16, 13, 15, 0, 1, 2, 3, 4, 5, 6, 7, 8, 9, 10, 11, 12, 13, 14, 15])]
def c73r9 : List AOper :=
 [⟨some 59, none, .mv (.t 13)⟩,
 ⟨some 60, none, .bin .add (.t 59) (.c (.int .i64 1))⟩,
 ⟨some 13, none, .mv (.t 60)⟩]
def c73l1 : AC := (.seq (.seq (.region c73r8) (.cond (.t 58) .skip (.exit 2))) (.seq (.block 3 (.drawn c73d1)) (.region c73r9)))
def c73r10 : List AOper :=
 [⟨some 77, none, .mv (.t 3)⟩,
 ⟨some 78, none, .mv (.t 2)⟩,
 ⟨some 79, none, .bin .sub (.t 77) (.t 78)⟩,
 ⟨some 80, none, .bin .eql (.t 79) (.c (.int .i64 1))⟩]
def c73r11 : List AOper :=
 [⟨some 81, none, .mv (.t 1)⟩,
 ⟨some 14, none, .mv (.t 81)⟩]
def c73r12 : List AOper :=
 [⟨some 82, none, .mv (.t 2)⟩,
 ⟨some 15, none, .mv (.t 82)⟩]
def c73r13 : List AOper :=
 [⟨some 83, none, .mv (.t 14)⟩,
 ⟨some 84, none, .mv (.t 15)⟩,
 ⟨some 85, none, .bin .lss (.t 83) (.t 84)⟩]
def c73r14 : List AOper :=
 [⟨some 86, none, .mv (.t 14)⟩,
 ⟨some 87, none, .mv (.t 15)⟩,
 ⟨some 88, none, .bin .add (.t 86) (.t 87)⟩,
 ⟨some 89, none, .convI .u64 (.t 88)⟩,
 ⟨some 90, none, .bin .shr (.t 89) (.c (.int .u64 1))⟩,
 ⟨some 91, none, .convI .i64 (.t 90)⟩,
 ⟨some 16, none, .mv (.t 91)⟩]
def c73d2 : List (AOper × List Nat) :=
 [(⟨some 92, none, .mv (.t 4)⟩, []),
 (⟨some 93, none, .mv (.t 0)⟩, []),
 (⟨some 94, none, .mv (.t 2)⟩, []),
 (⟨some 95, none, .idxA (.t 93) (.t 94) none 4⟩, [1, 2]),
 (⟨some 96, none, .load (.t 95) (some 4)⟩, [3]),
 (⟨some 97, none, .mv (.t 0)⟩, []),
 (⟨some 98, none, .mv (.t 16)⟩, []),
 (⟨some 99, none, .idxA (.t 97) (.t 98) none 4⟩, [5, 6]),
 (⟨some 100, none, .load (.t 99) (some 4)⟩, [7]),
 (⟨some 101, none, .call (.t 92) [.t 96, .t 100]⟩, [0, 4, 8]),
 (⟨some 102, none, .bin .lss (.t 101) (.c (.int .i64 0))⟩, [9]),
 (⟨some 103, none, .un .not (.t 102)⟩, [10])]
def c73r15 : List AOper :=
 [⟨some 104, none, .mv (.t 16)⟩,
 ⟨some 105, none, .bin .add (.t 104) (.c (.int .i64 1))⟩,
 ⟨some 14, none, .mv (.t 105)⟩]
def c73r16 : List AOper :=
 [⟨some 106, none, .mv (.t 16)⟩,
 ⟨some 15, none, .mv (.t 106)⟩]
def c73l2 : AC := (.seq (.seq (.region c73r13) (.cond (.t 85) .skip (.exit 4))) (.block 5 (.seq (.region c73r14) (.seq (.drawn c73d2) (.cond (.t 103) (.region c73r15) (.region c73r16))))))
def c73r17 : List AOper :=
 [⟨some 107, none, .mv (.t 2)⟩,
 ⟨some 17, none, .mv (.t 107)⟩]
def c73r18 : List AOper :=
 [⟨some 108, none, .mv (.t 17)⟩,
 ⟨some 109, none, .mv (.t 14)⟩,
 ⟨some 110, none, .bin .gtr (.t 108) (.t 109)⟩]
def c73d3 : List (AOper × List Nat) :=
 [(⟨some 113, none, .mv (.t 0)⟩, []),
 (⟨some 114, none, .mv (.t 17)⟩, []),
 (⟨some 115, none, .mv (.t 0)⟩, []),
 (⟨some 116, none, .mv (.t 17)⟩, []),
 (⟨some 117, none, .bin .sub (.t 116) (.c (.int .i64 1))⟩, [3]),
 (⟨some 118, none, .mv (.t 0)⟩, []),
 (⟨some 119, none, .mv (.t 17)⟩, []),
 (⟨some 120, none, .bin .sub (.t 119) (.c (.int .i64 1))⟩, [6]),
 (⟨some 121, none, .idxA (.t 118) (.t 120) none 4⟩, [5, 7]),
 (⟨some 122, none, .load (.t 121) (some 4)⟩, [8]),
 (⟨some 123, none, .mv (.t 0)⟩, []),
 (⟨some 124, none, .mv (.t 17)⟩, []),
 (⟨some 125, none, .idxA (.t 123) (.t 124) none 4⟩, [10, 11]),
 (⟨some 126, none, .load (.t 125) (some 4)⟩, [12]),
 (⟨some 127, none, .idxA (.t 113) (.t 114) none 4⟩, [0, 1, 0, 1, 5, 6, 7, 8, 9, 13]),
 (⟨none, none, .store (.t 127) (.t 122) 4⟩, [14, 9, 0, 1, 5, 6, 7, 8, 9, 13]),
 (⟨some 128, none, .idxA (.t 115) (.t 117) none 4⟩, [2, 4, 0, 1, 2, 3, 4, 5, 6, 7, 8, 9, 10, 11, 12, 13, 14, 15]),
 (⟨none, none, .store (.t 128) (.t 126) 4⟩, [16, 13, 15, 0, 1, 2, 3, 4, 5, 6, 7, 8, 9, 10, 11, 12, 13, 14, 15])]
def c73r19 : List AOper :=
 [⟨some 111, none, .mv (.t 17)⟩,
 ⟨some 112, none, .bin .sub (.t 111) (.c (.int .i64 1))⟩,
 ⟨some 17, none, .mv (.t 112)⟩]
def c73l3 : AC := (.seq (.seq (.region c73r18) (.cond (.t 110) .skip (.exit 6))) (.seq (.block 7 (.drawn c73d3)) (.region c73r19)))
def c73r20 : List AOper :=
 [⟨some 129, none, .mv (.t 1)⟩,
 ⟨some 130, none, .mv (.t 3)⟩,
 ⟨some 131, none, .bin .add (.t 129) (.t 130)⟩,
 ⟨some 132, none, .convI .u64 (.t 131)⟩,
 ⟨some 133, none, .bin .shr (.t 132) (.c (.int .u64 1))⟩,
 ⟨some 134, none, .convI .i64 (.t 133)⟩,
 ⟨some 18, none, .mv (.t 134)⟩]
def c73r21 : List AOper :=
 [⟨some 135, none, .mv (.t 18)⟩,
 ⟨some 136, none, .mv (.t 2)⟩,
 ⟨some 137, none, .bin .add (.t 135) (.t 136)⟩,
 ⟨some 19, none, .mv (.t 137)⟩]
def c73r22 : List AOper :=
 [⟨some 20, none, .mv (.c (.int .i64 0))⟩,
 ⟨some 21, none, .mv (.c (.int .i64 0))⟩]
def c73r23 : List AOper :=
 [⟨some 138, none, .mv (.t 2)⟩,
 ⟨some 139, none, .mv (.t 18)⟩,
 ⟨some 140, none, .bin .gtr (.t 138) (.t 139)⟩]
def c73r24 : List AOper :=
 [⟨some 141, none, .mv (.t 19)⟩,
 ⟨some 142, none, .mv (.t 3)⟩,
 ⟨some 143, none, .bin .sub (.t 141) (.t 142)⟩,
 ⟨some 20, none, .mv (.t 143)⟩]
def c73r25 : List AOper :=
 [⟨some 144, none, .mv (.t 18)⟩,
 ⟨some 21, none, .mv (.t 144)⟩]
def c73r26 : List AOper :=
 [⟨some 145, none, .mv (.t 1)⟩,
 ⟨some 20, none, .mv (.t 145)⟩]
def c73r27 : List AOper :=
 [⟨some 146, none, .mv (.t 2)⟩,
 ⟨some 21, none, .mv (.t 146)⟩]
def c73r28 : List AOper :=
 [⟨some 147, none, .mv (.t 19)⟩,
 ⟨some 148, none, .bin .sub (.t 147) (.c (.int .i64 1))⟩,
 ⟨some 22, none, .mv (.t 148)⟩]
def c73r29 : List AOper :=
 [⟨some 149, none, .mv (.t 20)⟩,
 ⟨some 150, none, .mv (.t 21)⟩,
 ⟨some 151, none, .bin .lss (.t 149) (.t 150)⟩]
def c73r30 : List AOper :=
 [⟨some 152, none, .mv (.t 20)⟩,
 ⟨some 153, none, .mv (.t 21)⟩,
 ⟨some 154, none, .bin .add (.t 152) (.t 153)⟩,
 ⟨some 155, none, .convI .u64 (.t 154)⟩,
 ⟨some 156, none, .bin .shr (.t 155) (.c (.int .u64 1))⟩,
 ⟨some 157, none, .convI .i64 (.t 156)⟩,
 ⟨some 23, none, .mv (.t 157)⟩]
def c73d4 : List (AOper × List Nat) :=
 [(⟨some 158, none, .mv (.t 4)⟩, []),
 (⟨some 159, none, .mv (.t 0)⟩, []),
 (⟨some 160, none, .mv (.t 22)⟩, []),
 (⟨some 161, none, .mv (.t 23)⟩, []),
 (⟨some 162, none, .bin .sub (.t 160) (.t 161)⟩, [2, 3]),
 (⟨some 163, none, .idxA (.t 159) (.t 162) none 4⟩, [1, 4]),
 (⟨some 164, none, .load (.t 163) (some 4)⟩, [5]),
 (⟨some 165, none, .mv (.t 0)⟩, []),
 (⟨some 166, none, .mv (.t 23)⟩, []),
 (⟨some 167, none, .idxA (.t 165) (.t 166) none 4⟩, [7, 8]),
 (⟨some 168, none, .load (.t 167) (some 4)⟩, [9]),
 (⟨some 169, none, .call (.t 158) [.t 164, .t 168]⟩, [0, 6, 10]),
 (⟨some 170, none, .bin .lss (.t 169) (.c (.int .i64 0))⟩, [11]),
 (⟨some 171, none, .un .not (.t 170)⟩, [12])]
def c73r31 : List AOper :=
 [⟨some 172, none, .mv (.t 23)⟩,
 ⟨some 173, none, .bin .add (.t 172) (.c (.int .i64 1))⟩,
 ⟨some 20, none, .mv (.t 173)⟩]
def c73r32 : List AOper :=
 [⟨some 174, none, .mv (.t 23)⟩,
 ⟨some 21, none, .mv (.t 174)⟩]
def c73l4 : AC := (.seq (.seq (.region c73r29) (.cond (.t 151) .skip (.exit 8))) (.block 9 (.seq (.region c73r30) (.seq (.drawn c73d4) (.cond (.t 171) (.region c73r31) (.region c73r32))))))
def c73r33 : List AOper :=
 [⟨some 175, none, .mv (.t 19)⟩,
 ⟨some 176, none, .mv (.t 20)⟩,
 ⟨some 177, none, .bin .sub (.t 175) (.t 176)⟩,
 ⟨some 24, none, .mv (.t 177)⟩]
def c73r34 : List AOper :=
 [⟨some 178, none, .mv (.t 20)⟩,
 ⟨some 179, none, .mv (.t 2)⟩,
 ⟨some 180, none, .bin .lss (.t 178) (.t 179)⟩,
 ⟨some 181, none, .mv (.t 180)⟩,
 ⟨some 182, some (181, true), .mv (.t 2)⟩,
 ⟨some 183, some (181, true), .mv (.t 24)⟩,
 ⟨some 184, some (181, true), .bin .lss (.t 182) (.t 183)⟩,
 ⟨some 185, none, .pick (.t 181) (.t 184) (.c (.bool false))⟩]
def c73r35 : List AOper :=
 [⟨some 186, none, .mv (.t 0)⟩,
 ⟨some 187, none, .mv (.t 20)⟩,
 ⟨some 188, none, .mv (.t 2)⟩,
 ⟨some 189, none, .mv (.t 24)⟩,
 ⟨some 190, none, .mv (.t 4)⟩,
 ⟨some 191, none, .call (.c (.fn 76 [])) [.t 186, .t 187, .t 188, .t 189, .t 190]⟩]
def c73r36 : List AOper :=
 [⟨some 192, none, .mv (.t 1)⟩,
 ⟨some 193, none, .mv (.t 20)⟩,
 ⟨some 194, none, .bin .lss (.t 192) (.t 193)⟩,
 ⟨some 195, none, .mv (.t 194)⟩,
 ⟨some 196, some (195, true), .mv (.t 20)⟩,
 ⟨some 197, some (195, true), .mv (.t 18)⟩,
 ⟨some 198, some (195, true), .bin .lss (.t 196) (.t 197)⟩,
 ⟨some 199, none, .pick (.t 195) (.t 198) (.c (.bool false))⟩]
def c73r37 : List AOper :=
 [⟨some 200, none, .mv (.t 0)⟩,
 ⟨some 201, none, .mv (.t 1)⟩,
 ⟨some 202, none, .mv (.t 20)⟩,
 ⟨some 203, none, .mv (.t 18)⟩,
 ⟨some 204, none, .mv (.t 4)⟩,
 ⟨some 205, none, .call (.c (.fn 73 [])) [.t 200, .t 201, .t 202, .t 203, .t 204]⟩]
def c73r38 : List AOper :=
 [⟨some 206, none, .mv (.t 18)⟩,
 ⟨some 207, none, .mv (.t 24)⟩,
 ⟨some 208, none, .bin .lss (.t 206) (.t 207)⟩,
 ⟨some 209, none, .mv (.t 208)⟩,
 ⟨some 210, some (209, true), .mv (.t 24)⟩,
 ⟨some 211, some (209, true), .mv (.t 3)⟩,
 ⟨some 212, some (209, true), .bin .lss (.t 210) (.t 211)⟩,
 ⟨some 213, none, .pick (.t 209) (.t 212) (.c (.bool false))⟩]
def c73r39 : List AOper :=
 [⟨some 214, none, .mv (.t 0)⟩,
 ⟨some 215, none, .mv (.t 18)⟩,
 ⟨some 216, none, .mv (.t 24)⟩,
 ⟨some 217, none, .mv (.t 3)⟩,
 ⟨some 218, none, .mv (.t 4)⟩,
 ⟨some 219, none, .call (.c (.fn 73 [])) [.t 214, .t 215, .t 216, .t 217, .t 218]⟩]
def c73 : AC := (.seq (.seq (.region c73r0) (.cond (.t 28) (.seq (.region c73r1) (.seq (.region c73r2) (.seq (.block 0 (.loop c73l0)) (.seq (.seq (.region c73r7) (.block 2 (.loop c73l1))) .ret)))) .skip)) (.seq (.seq (.region c73r10) (.cond (.t 80) (.seq (.region c73r11) (.seq (.region c73r12) (.seq (.block 4 (.loop c73l2)) (.seq (.seq (.region c73r17) (.block 6 (.loop c73l3))) .ret)))) .skip)) (.seq (.region c73r20) (.seq (.region c73r21) (.seq (.region c73r22) (.seq (.seq (.region c73r23) (.cond (.t 140) (.seq (.region c73r24) (.region c73r25)) (.seq (.region c73r26) (.region c73r27)))) (.seq (.region c73r28) (.seq (.block 8 (.loop c73l4)) (.seq (.region c73r33) (.seq (.seq (.region c73r34) (.cond (.t 185) (.region c73r35) .skip)) (.seq (.seq (.region c73r36) (.cond (.t 199) (.region c73r37) .skip)) (.seq (.region c73r38) (.cond (.t 213) (.region c73r39) .skip)))))))))))))
def r73 : List ARes := []
theorem c73_ok : Try.f73.body.bind (cCode Try.prog Try.f73.ntmps) = some c73 := by kernel_rfl
theorem r73_ok : Try.f73.results.toList.mapM (cRes Try.prog Try.f73.ntmps) = some r73 := by kernel_rfl
def c74r0 : List AOper :=
 [⟨some 2, none, .mv (.c (.bool false))⟩]
def c74r1 : List AOper :=
 [⟨some 3, none, .mv (.t 0)⟩,
 ⟨some 4, none, .mv (.t 0)⟩,
 ⟨some 5, none, .bin .neq (.t 3) (.t 4)⟩,
 ⟨some 2, none, .mv (.t 5)⟩]
def c74 : AC := (.seq (.region c74r0) (.seq (.region c74r1) .ret))
def r74 : List ARes := [.tmp 2]
theorem c74_ok : Try.f74.body.bind (cCode Try.prog Try.f74.ntmps) = some c74 := by kernel_rfl
theorem r74_ok : Try.f74.results.toList.mapM (cRes Try.prog Try.f74.ntmps) = some r74 := by kernel_rfl
def c75r0 : List AOper :=
 [⟨some 2, none, .mv (.c (.bool false))⟩]
def c75r1 : List AOper :=
 [⟨some 3, none, .mv (.t 0)⟩,
 ⟨some 4, none, .mv (.t 0)⟩,
 ⟨some 5, none, .bin .neq (.t 3) (.t 4)⟩,
 ⟨some 2, none, .mv (.t 5)⟩]
def c75 : AC := (.seq (.region c75r0) (.seq (.region c75r1) .ret))
def r75 : List ARes := [.tmp 2]
theorem c75_ok : Try.f75.body.bind (cCode Try.prog Try.f75.ntmps) = some c75 := by kernel_rfl
theorem r75_ok : Try.f75.results.toList.mapM (cRes Try.prog Try.f75.ntmps) = some r75 := by kernel_rfl
def c76r0 : List AOper :=
 [⟨some 12, none, .mv (.t 2)⟩,
 ⟨some 13, none, .mv (.t 1)⟩,
 ⟨some 14, none, .bin .sub (.t 12) (.t 13)⟩,
 ⟨some 10, none, .mv (.t 14)⟩]
def c76r1 : List AOper :=
 [⟨some 15, none, .mv (.t 3)⟩,
 ⟨some 16, none, .mv (.t 2)⟩,
 ⟨some 17, none, .bin .sub (.t 15) (.t 16)⟩,
 ⟨some 11, none, .mv (.t 17)⟩]
def c76r2 : List AOper :=
 [⟨some 18, none, .mv (.t 10)⟩,
 ⟨some 19, none, .mv (.t 11)⟩,
 ⟨some 20, none, .bin .neq (.t 18) (.t 19)⟩]
def c76r3 : List AOper :=
 [⟨some 21, none, .mv (.t 10)⟩,
 ⟨some 22, none, .mv (.t 11)⟩,
 ⟨some 23, none, .bin .gtr (.t 21) (.t 22)⟩]
def c76r4 : List AOper :=
 [⟨some 24, none, .mv (.t 0)⟩,
 ⟨some 25, none, .mv (.t 2)⟩,
 ⟨some 26, none, .mv (.t 10)⟩,
 ⟨some 27, none, .bin .sub (.t 25) (.t 26)⟩,
 ⟨some 28, none, .mv (.t 2)⟩,
 ⟨some 29, none, .mv (.t 11)⟩,
 ⟨some 30, none, .mv (.t 4)⟩,
 ⟨some 31, none, .call (.c (.fn 77 [])) [.t 24, .t 27, .t 28, .t 29, .t 30]⟩]
def c76r5 : List AOper :=
 [⟨some 32, none, .mv (.t 10)⟩,
 ⟨some 33, none, .mv (.t 11)⟩,
 ⟨some 34, none, .bin .sub (.t 32) (.t 33)⟩,
 ⟨some 10, none, .mv (.t 34)⟩]
def c76r6 : List AOper :=
 [⟨some 35, none, .mv (.t 0)⟩,
 ⟨some 36, none, .mv (.t 2)⟩,
 ⟨some 37, none, .mv (.t 10)⟩,
 ⟨some 38, none, .bin .sub (.t 36) (.t 37)⟩,
 ⟨some 39, none, .mv (.t 2)⟩,
 ⟨some 40, none, .mv (.t 11)⟩,
 ⟨some 41, none, .bin .add (.t 39) (.t 40)⟩,
 ⟨some 42, none, .mv (.t 10)⟩,
 ⟨some 43, none, .bin .sub (.t 41) (.t 42)⟩,
 ⟨some 44, none, .mv (.t 10)⟩,
 ⟨some 45, none, .mv (.t 4)⟩,
 ⟨some 46, none, .call (.c (.fn 77 [])) [.t 35, .t 38, .t 43, .t 44, .t 45]⟩]
def c76r7 : List AOper :=
 [⟨some 47, none, .mv (.t 11)⟩,
 ⟨some 48, none, .mv (.t 10)⟩,
 ⟨some 49, none, .bin .sub (.t 47) (.t 48)⟩,
 ⟨some 11, none, .mv (.t 49)⟩]
def c76l0 : AC := (.seq (.seq (.region c76r2) (.cond (.t 20) .skip (.exit 0))) (.block 1 (.seq (.region c76r3) (.cond (.t 23) (.seq (.region c76r4) (.region c76r5)) (.seq (.region c76r6) (.region c76r7))))))
def c76r8 : List AOper :=
 [⟨some 50, none, .mv (.t 0)⟩,
 ⟨some 51, none, .mv (.t 2)⟩,
 ⟨some 52, none, .mv (.t 10)⟩,
 ⟨some 53, none, .bin .sub (.t 51) (.t 52)⟩,
 ⟨some 54, none, .mv (.t 2)⟩,
 ⟨some 55, none, .mv (.t 10)⟩,
 ⟨some 56, none, .mv (.t 4)⟩,
 ⟨some 57, none, .call (.c (.fn 77 [])) [.t 50, .t 53, .t 54, .t 55, .t 56]⟩]
def c76 : AC := (.seq (.region c76r0) (.seq (.region c76r1) (.seq (.block 0 (.loop c76l0)) (.region c76r8))))
def r76 : List ARes := []
theorem c76_ok : Try.f76.body.bind (cCode Try.prog Try.f76.ntmps) = some c76 := by kernel_rfl
theorem r76_ok : Try.f76.results.toList.mapM (cRes Try.prog Try.f76.ntmps) = some r76 := by kernel_rfl
def c77r0 : List AOper :=
 [⟨some 10, none, .mv (.c (.int .i64 0))⟩]
def c77r1 : List AOper :=
 [⟨some 11, none, .mv (.t 10)⟩,
 ⟨some 12, none, .mv (.t 3)⟩,
 ⟨some 13, none, .bin .lss (.t 11) (.t 12)⟩]
def c77d0 : List (AOper × List Nat) :=
 [(⟨some 16, none, .mv (.t 0)⟩, []),
 (⟨some 17, none, .mv (.t 1)⟩, []),
 (⟨some 18, none, .mv (.t 10)⟩, []),
 (⟨some 19, none, .bin .add (.t 17) (.t 18)⟩, [1, 2]),
 (⟨some 20, none, .mv (.t 0)⟩, []),
 (⟨some 21, none, .mv (.t 2)⟩, []),
 (⟨some 22, none, .mv (.t 10)⟩, []),
 (⟨some 23, none, .bin .add (.t 21) (.t 22)⟩, [5, 6]),
 (⟨some 24, none, .mv (.t 0)⟩, []),
 (⟨some 25, none, .mv (.t 2)⟩, []),
 (⟨some 26, none, .mv (.t 10)⟩, []),
 (⟨some 27, none, .bin .add (.t 25) (.t 26)⟩, [9, 10]),
 (⟨some 28, none, .idxA (.t 24) (.t 27) none 4⟩, [8, 11]),
 (⟨some 29, none, .load (.t 28) (some 4)⟩, [12]),
 (⟨some 30, none, .mv (.t 0)⟩, []),
 (⟨some 31, none, .mv (.t 1)⟩, []),
 (⟨some 32, none, .mv (.t 10)⟩, []),
 (⟨some 33, none, .bin .add (.t 31) (.t 32)⟩, [15, 16]),
 (⟨some 34, none, .idxA (.t 30) (.t 33) none 4⟩, [14, 17]),
 (⟨some 35, none, .load (.t 34) (some 4)⟩, [18]),
 (⟨some 36, none, .idxA (.t 16) (.t 19) none 4⟩, [0, 3, 0, 1, 2, 3, 8, 9, 10, 11, 12, 13, 19]),
 (⟨none, none, .store (.t 36) (.t 29) 4⟩, [20, 13, 0, 1, 2, 3, 8, 9, 10, 11, 12, 13, 19]),
 (⟨some 37, none, .idxA (.t 20) (.t 23) none 4⟩, [4, 7, 0, 1, 2, 3, 4, 5, 6, 7, 8, 9, 10, 11, 12, 13, 14, 15, 16, 17, 18, 19, 20, 21]),
 (⟨none, none, .store (.t 37) (.t 35) 4⟩, [22, 19, 21, 0, 1, 2, 3, 4, 5, 6, 7, 8, 9, 10, 11, 12, 13, 14, 15, 16, 17, 18, 19, 20, 21])]
def c77r2 : List AOper :=
 [⟨some 14, none, .mv (.t 10)⟩,
 ⟨some 15, none, .bin .add (.t 14) (.c (.int .i64 1))⟩,
 ⟨some 10, none, .mv (.t 15)⟩]
def c77l0 : AC := (.seq (.seq (.region c77r1) (.cond (.t 13) .skip (.exit 0))) (.seq (.block 1 (.drawn c77d0)) (.region c77r2)))
def c77 : AC := (.seq (.region c77r0) (.block 0 (.loop c77l0)))
def r77 : List ARes := []
theorem c77_ok : Try.f77.body.bind (cCode Try.prog Try.f77.ntmps) = some c77 := by kernel_rfl
theorem r77_ok : Try.f77.results.toList.mapM (cRes Try.prog Try.f77.ntmps) = some r77 := by kernel_rfl
end Go.Proofs.Ytpipgcmiaccdkaa
