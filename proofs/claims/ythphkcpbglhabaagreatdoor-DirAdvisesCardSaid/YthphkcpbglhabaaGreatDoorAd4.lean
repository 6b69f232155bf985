/-
  Texts of this claim, laid together by a program (wip/tools/shrink.py).
-/
import Derived.Test.YthphkcpbglhabaaGreatDoorAd3
import Derived.Test.YthphkcpbglhabaaGreatDoorProg
import Derived.KernelRfl
import Derived.Shelf.SlIter.Nil
import Derived.Shelf.SortM.Plain
import Derived.Shelf.SortM.SortNone
import Derived.Shelf.GgClosure.StringsIndexFuncTop
import Derived.Ground.GgzProg
import Derived.Ground.SlgmProg
import Derived.Ground.GgwProg
import Derived.Shelf.Strconv.Itoa3
import Derived.Shelf.Strconv.AtoiAll
import Derived.Shelf.Strings.Repeat
import Derived.Shelf.Strings.Prefix
import Derived.Ground.NamesProg
namespace Go.Proofs.YthphkcpbglhabaaGreatDoor
open Sx Go
set_option maxRecDepth 100000
def oM (d x : Nat) : AOper := ⟨some d, none, .mv (.t x)⟩
def oMt (d k0 x : Nat) : AOper := ⟨some d, some (k0, true), .mv (.t x)⟩
def oMf (d k0 x : Nat) : AOper := ⟨some d, some (k0, false), .mv (.t x)⟩
def oL (d x : Nat) : AOper := ⟨some d, none, .load (.t x) none⟩
def oLt (d k0 x : Nat) : AOper := ⟨some d, some (k0, true), .load (.t x) none⟩
def oLf (d k0 x : Nat) : AOper := ⟨some d, some (k0, false), .load (.t x) none⟩
def oS (d x k : Nat) : AOper := ⟨some d, none, .load (.t x) (some k)⟩
def oSt (d k0 x k : Nat) : AOper := ⟨some d, some (k0, true), .load (.t x) (some k)⟩
def oSf (d k0 x k : Nat) : AOper := ⟨some d, some (k0, false), .load (.t x) (some k)⟩
def oF (d x k : Nat) : AOper := ⟨some d, none, .fldA (.t x) k⟩
def oFt (d k0 x k : Nat) : AOper := ⟨some d, some (k0, true), .fldA (.t x) k⟩
def oFf (d k0 x k : Nat) : AOper := ⟨some d, some (k0, false), .fldA (.t x) k⟩
def oN (d x : Nat) : AOper := ⟨some d, none, .nilck (.t x)⟩
def oNt (d k0 x : Nat) : AOper := ⟨some d, some (k0, true), .nilck (.t x)⟩
def oNf (d k0 x : Nat) : AOper := ⟨some d, some (k0, false), .nilck (.t x)⟩
def oE (d x k : Nat) : AOper := ⟨some d, none, .ext (.t x) k⟩
def oEt (d k0 x k : Nat) : AOper := ⟨some d, some (k0, true), .ext (.t x) k⟩
def oEf (d k0 x k : Nat) : AOper := ⟨some d, some (k0, false), .ext (.t x) k⟩
def oI (d x y k : Nat) : AOper := ⟨some d, none, .idxA (.t x) (.t y) none k⟩
def oIt (d k0 x y k : Nat) : AOper := ⟨some d, some (k0, true), .idxA (.t x) (.t y) none k⟩
def oIf (d k0 x y k : Nat) : AOper := ⟨some d, some (k0, false), .idxA (.t x) (.t y) none k⟩
def oB (d : Nat) (b : BinOp) (x y : Nat) : AOper := ⟨some d, none, .bin b (.t x) (.t y)⟩
def oBt (d k0 : Nat) (b : BinOp) (x y : Nat) : AOper := ⟨some d, some (k0, true), .bin b (.t x) (.t y)⟩
def oBf (d k0 : Nat) (b : BinOp) (x y : Nat) : AOper := ⟨some d, some (k0, false), .bin b (.t x) (.t y)⟩
def oK (d : Nat) (b : BinOp) (x : Nat) (n : Int) : AOper := ⟨some d, none, .bin b (.t x) (.c (.int .i64 n))⟩
def oKt (d k0 : Nat) (b : BinOp) (x : Nat) (n : Int) : AOper := ⟨some d, some (k0, true), .bin b (.t x) (.c (.int .i64 n))⟩
def oKf (d k0 : Nat) (b : BinOp) (x : Nat) (n : Int) : AOper := ⟨some d, some (k0, false), .bin b (.t x) (.c (.int .i64 n))⟩
def oT (d x y : Nat) : AOper := ⟨some d, none, .pick (.t x) (.c (.bool true)) (.t y)⟩
def oTt (d k0 x y : Nat) : AOper := ⟨some d, some (k0, true), .pick (.t x) (.c (.bool true)) (.t y)⟩
def oTf (d k0 x y : Nat) : AOper := ⟨some d, some (k0, false), .pick (.t x) (.c (.bool true)) (.t y)⟩
def oP (d x y : Nat) : AOper := ⟨some d, none, .pick (.t x) (.t y) (.c (.bool false))⟩
def oPt (d k0 x y : Nat) : AOper := ⟨some d, some (k0, true), .pick (.t x) (.t y) (.c (.bool false))⟩
def oPf (d k0 x y : Nat) : AOper := ⟨some d, some (k0, false), .pick (.t x) (.t y) (.c (.bool false))⟩
def oG (d x : Nat) : AOper := ⟨some d, none, .lenL (.t x)⟩
def oGt (d k0 x : Nat) : AOper := ⟨some d, some (k0, true), .lenL (.t x)⟩
def oGf (d k0 x : Nat) : AOper := ⟨some d, some (k0, false), .lenL (.t x)⟩
def oU (d x : Nat) : AOper := ⟨some d, none, .un .not (.t x)⟩
def oUt (d k0 x : Nat) : AOper := ⟨some d, some (k0, true), .un .not (.t x)⟩
def oUf (d k0 x : Nat) : AOper := ⟨some d, some (k0, false), .un .not (.t x)⟩
def oV (d : Nat) (x : Int) : AOper := ⟨some d, none, .mv (.c (.int .i64 x))⟩
def oVt (d k0 : Nat) (x : Int) : AOper := ⟨some d, some (k0, true), .mv (.c (.int .i64 x))⟩
def oVf (d k0 : Nat) (x : Int) : AOper := ⟨some d, some (k0, false), .mv (.c (.int .i64 x))⟩
def oo (d : Nat) (x : AOp) : AOper := ⟨some d, none, x⟩
def oot (d k0 : Nat) (x : AOp) : AOper := ⟨some d, some (k0, true), x⟩
def oof (d k0 : Nat) (x : AOp) : AOper := ⟨some d, some (k0, false), x⟩
def c5r0 : List AOper :=
 [oo 4 (.box (.t 1)),
 oo 5 (.box (.t 2)),
 oo 6 (.mv (.c (.bool false)))]
def c5r1 : List AOper :=
 [oS 32 4 25,
 oo 33 (.call (.c (.fn 19 [])) [.t 32]),
 oU 34 33,
 oM 35 34,
 oSf 36 35 5 25,
 oof 37 35 (.call (.c (.fn 19 [])) [.t 36]),
 oUf 38 35 37,
 oT 39 35 38]
def c5r2 : List AOper :=
 [oo 40 (.call (.c (.fn 20 [])) []),
 oM 6 40]
def c5r3 : List AOper :=
 [oo 41 (.call (.c (.fn 8 [])) []),
 oM 7 41]
def c5r4 : List AOper :=
 [oM 43 7,
 oo 44 (.call (.c (.fn 21 [])) [.t 43, .c (.int .i64 2)]),
 oM 42 44,
 oE 45 42 0,
 oE 46 42 1,
 oM 8 45,
 oM 9 46]
def c5r5 : List AOper :=
 [oM 47 9,
 oK 48 .neq 47 0,
 oM 49 48,
 oMf 50 49 8,
 oof 51 49 (.eq false 1 (.t 50) (.c .nilp)),
 oT 52 49 51,
 oM 53 52,
 oMf 54 53 8,
 oof 55 53 (.call (.c (.fn 22 [])) [.t 54, .c (.str [97]), .c (.int .i64 1)]),
 oKf 56 53 .neq 55 0,
 oT 57 53 56]
def c5r6 : List AOper :=
 [oo 6 (.mv (.c (.bool false)))]
def c5r7 : List AOper :=
 [oF 58 4 5,
 oL 59 58,
 oK 60 .and 59 255,
 oo 61 (.bin .add (.c (.int .i64 1)) (.t 60)),
 oF 62 4 23,
 oL 63 62,
 oF 64 4 24,
 oL 65 64,
 oo 66 (.build [.int .i64 0, .int .i64 0, .int .i64 0, .int .i64 0, .int .i64 0, .int .i64 0, .int .i64 0, .bool false, .int .i64 0, .str [], .str [], .str [], .bool false, .nils, .str [], .str [], .int .i64 0, .int .i64 0, .str [], .bool false, .nils, .str [], .nils, .nils, .nils] [(0, 1, .c (.int .i64 8)), (5, 1, .t 61), (23, 1, .t 63), (24, 1, .t 65)]),
 oo 10 (.alloc [.int .i64 0, .int .i64 0, .int .i64 0, .int .i64 0, .int .i64 0, .int .i64 0, .int .i64 0, .bool false, .int .i64 0, .str [], .str [], .str [], .bool false, .nils, .str [], .str [], .int .i64 0, .int .i64 0, .str [], .bool false, .nils, .str [], .nils, .nils, .nils]),
 ⟨none, none, .store (.t 10) (.t 66) 25⟩]
def c5r8 : List AOper :=
 [oF 67 5 7,
 oL 68 67,
 oF 69 5 23,
 oL 70 69,
 oF 71 5 24,
 oL 72 71,
 oo 73 (.build [.int .i64 0, .int .i64 0, .int .i64 0, .int .i64 0, .int .i64 0, .int .i64 0, .int .i64 0, .bool false, .int .i64 0, .str [], .str [], .str [], .bool false, .nils, .str [], .str [], .int .i64 0, .int .i64 0, .str [], .bool false, .nils, .str [], .nils, .nils, .nils] [(0, 1, .c (.int .i64 11)), (7, 1, .t 68), (23, 1, .t 70), (24, 1, .t 72)]),
 oo 11 (.alloc [.int .i64 0, .int .i64 0, .int .i64 0, .int .i64 0, .int .i64 0, .int .i64 0, .int .i64 0, .bool false, .int .i64 0, .str [], .str [], .str [], .bool false, .nils, .str [], .str [], .int .i64 0, .int .i64 0, .str [], .bool false, .nils, .str [], .nils, .nils, .nils]),
 ⟨none, none, .store (.t 11) (.t 73) 25⟩]
def c5r9 : List AOper :=
 [oS 74 10 25,
 oo 75 (.call (.c (.fn 23 [])) [.t 74]),
 oK 76 .neq 75 0,
 oM 77 76,
 oSf 78 77 11 25,
 oof 79 77 (.call (.c (.fn 23 [])) [.t 78]),
 oKf 80 77 .neq 79 0,
 oT 81 77 80]
def c5r10 : List AOper :=
 [oo 82 (.call (.c (.fn 20 [])) []),
 oM 6 82]
def c5r11 : List AOper :=
 [oo 83 (.bslice 5 1 [.int .i64 0] [(0, .c (.int .i64 7)), (1, .c (.int .i64 9)), (2, .c (.int .i64 10)), (3, .c (.int .i64 12)), (4, .c (.int .i64 13))]),
 oM 12 83]
def c5r12 : List AOper :=
 [oV 13 0]
def c5r13 : List AOper :=
 [oV 14 0]
def c5r14 : List AOper :=
 [oM 84 14,
 oK 85 .lss 84 12,
 oM 86 85,
 oMt 87 86 13,
 oKt 88 86 .lss 87 5,
 oP 89 86 88]
def c5r15 : List AOper :=
 [oM 93 8,
 oo 94 (.call (.c (.fn 24 [])) [.t 93]),
 oM 92 94,
 oE 95 92 0,
 oE 96 92 1,
 oM 15 95,
 oM 16 96]
def c5r16 : List AOper :=
 [oM 97 16,
 oK 98 .neq 97 0,
 oM 99 98,
 oMf 100 99 15,
 oGf 101 99 100,
 oKf 102 99 .neq 101 1,
 oT 103 99 102]
def c5r17 : List AOper :=
 [oo 6 (.mv (.c (.bool false)))]
def c5r18 : List AOper :=
 [oM 105 15,
 oo 106 (.idxA (.t 105) (.c (.int .i64 0)) none 3),
 oF 107 106 2,
 oL 108 107,
 oo 109 (.call (.c (.fn 25 [])) [.t 108]),
 oM 104 109,
 oE 110 104 0,
 oE 111 104 1,
 oo 17 (.alloc [.int .i64 0, .int .i64 0, .int .i64 0, .int .i64 0, .int .i64 0, .int .i64 0, .int .i64 0, .bool false, .int .i64 0, .str [], .str [], .str [], .bool false, .nils, .str [], .str [], .int .i64 0, .int .i64 0, .str [], .bool false, .nils, .str [], .nils, .nils, .nils]),
 ⟨none, none, .store (.t 17) (.t 110) 25⟩,oM 18 111]
def c5d0 : List (AOper × List Nat) :=
 [(oM 112 18, []),
 (oK 113 .neq 112 0, [0]),
 (oM 114 113, [1]),
 (oFf 115 114 17 0, [2]),
 (oLf 116 114 115, [3, 2]),
 (oMf 117 114 12, [2]),
 (oMf 118 114 13, [2]),
 (oIf 119 114 117 118 1, [5, 6, 2]),
 (oLf 120 114 119, [7, 2]),
 (oBf 121 114 .neq 116 120, [4, 8, 2]),
 (oT 122 114 121, [2, 9]),
 (oM 123 122, [10, 2]),
 (oMf 124 123 15, [11]),
 (oof 125 123 (.idxA (.t 124) (.c (.int .i64 0)) none 3), [12, 11]),
 (oFf 126 123 125 1, [13, 11]),
 (oLf 127 123 126, [14, 11]),
 (oMf 128 123 13, [11]),
 (oKf 129 123 .and 128 1, [16, 11]),
 (oBf 130 123 .neq 127 129, [15, 17, 11]),
 (oT 131 123 130, [11, 18])]
def c5r19 : List AOper :=
 [oo 6 (.mv (.c (.bool false)))]
def c5r20 : List AOper :=
 [oF 132 17 0,
 oL 133 132,
 oo 134 (.build [.int .i64 0, .int .i64 0, .int .i64 0, .int .i64 0, .int .i64 0, .int .i64 0, .int .i64 0, .bool false, .int .i64 0, .str [], .str [], .str [], .bool false, .nils, .str [], .str [], .int .i64 0, .int .i64 0, .str [], .bool false, .nils, .str [], .nils, .nils, .nils] [(0, 1, .c (.int .i64 14)), (5, 1, .t 133)]),
 oo 19 (.alloc [.int .i64 0, .int .i64 0, .int .i64 0, .int .i64 0, .int .i64 0, .int .i64 0, .int .i64 0, .bool false, .int .i64 0, .str [], .str [], .str [], .bool false, .nils, .str [], .str [], .int .i64 0, .int .i64 0, .str [], .bool false, .nils, .str [], .nils, .nils, .nils]),
 ⟨none, none, .store (.t 19) (.t 134) 25⟩]
def c5r21 : List AOper :=
 [oF 135 17 0,
 oL 136 135]
def c5r22 : List AOper :=
 [oK 138 .eql 136 7,
 oM 137 138]
def c5r23 : List AOper :=
 [oS 139 10 25,
 ⟨none, none, .store (.t 19) (.t 139) 25⟩]
def c5r24 : List AOper :=
 [oK 141 .eql 136 10,
 oM 140 141]
def c5r25 : List AOper :=
 [oS 142 11 25,
 ⟨none, none, .store (.t 19) (.t 142) 25⟩]
def c5r26 : List AOper :=
 [oF 143 17 6,
 oL 144 143,
 oF 145 19 6,
 ⟨none, none, .store (.t 145) (.t 144) 1⟩]
def c5r27 : List AOper :=
 [oS 146 19 25,
 oo 20 (.alloc [.int .i64 0, .int .i64 0, .int .i64 0, .int .i64 0, .int .i64 0, .int .i64 0, .int .i64 0, .bool false, .int .i64 0, .str [], .str [], .str [], .bool false, .nils, .str [], .str [], .int .i64 0, .int .i64 0, .str [], .bool false, .nils, .str [], .nils, .nils, .nils]),
 ⟨none, none, .store (.t 20) (.t 146) 25⟩]
def c5r28 : List AOper :=
 [oF 147 17 6,
 oL 148 147,
 oK 149 .sub 148 2,
 oF 150 20 6,
 ⟨none, none, .store (.t 150) (.t 149) 1⟩]
def c5d1 : List (AOper × List Nat) :=
 [(oM 152 8, []),
 (oM 153 15, []),
 (oo 154 (.idxA (.t 153) (.c (.int .i64 0)) none 3), [1]),
 (oF 155 154 1, [2]),
 (oL 156 155, [3]),
 (oS 157 20 25, []),
 (oo 158 (.call (.c (.fn 26 [])) [.t 152, .t 156, .t 157]), [0, 4, 5]),
 (oM 151 158, [6]),
 (oE 159 151 0, [7]),
 (oE 160 151 1, [7]),
 (oM 21 159, [8, 6, 0, 1, 2, 3, 4, 5, 6, 7, 8]),
 (oM 22 160, [9, 10, 0, 1, 2, 3, 4, 5, 6, 7, 8, 9, 10])]
def c5r29 : List AOper :=
 [oF 161 20 6,
 oL 162 161,
 oK 163 .geq 162 0,
 oM 164 163,
 oMt 165 164 22,
 oKt 166 164 .neq 165 0,
 oP 167 164 166]
def c5r30 : List AOper :=
 [oo 6 (.mv (.c (.bool false)))]
def c5d2 : List (AOper × List Nat) :=
 [(oM 169 8, []),
 (oM 170 15, []),
 (oo 171 (.idxA (.t 170) (.c (.int .i64 0)) none 3), [1]),
 (oF 172 171 1, [2]),
 (oL 173 172, [3]),
 (oo 174 (.bin .sub (.c (.int .i64 1)) (.t 173)), [4]),
 (oS 175 19 25, []),
 (oo 176 (.call (.c (.fn 26 [])) [.t 169, .t 174, .t 175]), [0, 5, 6]),
 (oM 168 176, [7]),
 (oE 177 168 0, [8]),
 (oE 178 168 1, [8]),
 (oM 23 177, [9, 7, 0, 1, 2, 3, 4, 5, 6, 7, 8, 9]),
 (oM 24 178, [10, 11, 0, 1, 2, 3, 4, 5, 6, 7, 8, 9, 10, 11])]
def c5r31 : List AOper :=
 [oM 179 24,
 oK 180 .neq 179 0]
def c5r32 : List AOper :=
 [oo 6 (.mv (.c (.bool false)))]
def c5r33 : List AOper :=
 [oM 182 8,
 oo 183 (.call (.c (.fn 24 [])) [.t 182]),
 oM 181 183,
 oE 184 181 0,
 oE 185 181 1,
 oM 25 184,
 oM 26 185]
def c5r34 : List AOper :=
 [oM 186 25,
 oM 187 15,
 oo 188 (.call (.c (.fn 27 [])) [.t 186, .t 187]),
 oU 189 188]
def c5r35 : List AOper :=
 [oo 6 (.mv (.c (.bool false)))]
def c5d3 : List (AOper × List Nat) :=
 [(oM 191 8, []),
 (oM 192 15, []),
 (oo 193 (.idxA (.t 192) (.c (.int .i64 0)) none 3), [1]),
 (oF 194 193 1, [2]),
 (oL 195 194, [3]),
 (oS 196 19 25, []),
 (oo 197 (.call (.c (.fn 26 [])) [.t 191, .t 195, .t 196]), [0, 4, 5]),
 (oM 190 197, [6]),
 (oE 198 190 0, [7]),
 (oE 199 190 1, [7]),
 (oM 27 198, [8, 6, 0, 1, 2, 3, 4, 5, 6, 7, 8]),
 (oM 28 199, [9, 10, 0, 1, 2, 3, 4, 5, 6, 7, 8, 9, 10])]
def c5r36 : List AOper :=
 [oM 200 28,
 oK 201 .neq 200 0]
def c5r37 : List AOper :=
 [oo 6 (.mv (.c (.bool false)))]
def c5d4 : List (AOper × List Nat) :=
 [(oM 203 8, []),
 (oM 204 15, []),
 (oo 205 (.idxA (.t 204) (.c (.int .i64 0)) none 3), [1]),
 (oF 206 205 1, [2]),
 (oL 207 206, [3]),
 (oS 208 19 25, []),
 (oo 209 (.call (.c (.fn 26 [])) [.t 203, .t 207, .t 208]), [0, 4, 5]),
 (oM 202 209, [6]),
 (oE 210 202 0, [7]),
 (oE 211 202 1, [7]),
 (oM 29 210, [8, 6, 0, 1, 2, 3, 4, 5, 6, 7, 8]),
 (oM 30 211, [9, 10, 0, 1, 2, 3, 4, 5, 6, 7, 8, 9, 10])]
def c5r38 : List AOper :=
 [oM 212 30,
 oK 213 .neq 212 0]
def c5r39 : List AOper :=
 [oo 6 (.mv (.c (.bool false)))]
def c5r40 : List AOper :=
 [oM 214 13,
 oK 215 .add 214 1,
 oM 13 215]
def c5r41 : List AOper :=
 [oM 216 0,
 oK 217 .and 216 255,
 oK 218 .rem 217 6,
 oM 219 13,
 oB 220 .eql 218 219,
 oM 221 220,
 oMt 222 221 14,
 oKt 223 221 .lss 222 6,
 oP 224 221 223]
def c5r42 : List AOper :=
 [oM 225 7,
 oo 226 (.call (.c (.fn 15 [])) [.t 225, .c .nils]),
 oK 227 .neq 226 0]
def c5r43 : List AOper :=
 [oo 6 (.mv (.c (.bool false)))]
def c5r44 : List AOper :=
 [oM 229 7,
 oo 230 (.call (.c (.fn 21 [])) [.t 229, .c (.int .i64 2)]),
 oM 228 230,
 oE 231 228 0,
 oE 232 228 1,
 oM 8 231,
 oM 9 232]
def c5r45 : List AOper :=
 [oM 233 9,
 oK 234 .neq 233 0,
 oM 235 234,
 oMf 236 235 8,
 oof 237 235 (.eq false 1 (.t 236) (.c .nilp)),
 oT 238 235 237]
def c5r46 : List AOper :=
 [oo 6 (.mv (.c (.bool false)))]
def c5r47 : List AOper :=
 [oM 239 13,
 oK 240 .eql 239 1]
def c5r48 : List AOper :=
 [oV 13 0]
def c5r49 : List AOper :=
 [oM 241 13,
 oK 242 .eql 241 3]
def c5r50 : List AOper :=
 [oV 13 2]
def c5r51 : List AOper :=
 [oM 90 14,
 oK 91 .add 90 1,
 oM 14 91]
def c5l0 : AC := (.seq (.seq (.region c5r14) (.cond (.t 89) .skip (.exit 0))) (.seq (.block 1 (.seq (.region c5r15) (.seq (.seq (.region c5r16) (.cond (.t 103) (.seq (.region c5r17) .ret) .skip)) (.seq (.region c5r18) (.seq (.seq (.drawn c5d0) (.cond (.t 131) (.seq (.region c5r19) .ret) .skip)) (.seq (.region c5r20) (.seq (.seq (.region c5r21) (.block 2 (.seq (.region c5r22) (.cond (.t 137) (.region c5r23) (.seq (.region c5r24) (.cond (.t 140) (.region c5r25) .skip)))))) (.seq (.region c5r26) (.seq (.region c5r27) (.seq (.region c5r28) (.seq (.seq (.drawn c5d1) (.seq (.region c5r29) (.cond (.t 167) (.seq (.region c5r30) .ret) .skip))) (.seq (.seq (.drawn c5d2) (.seq (.region c5r31) (.cond (.t 180) (.seq (.region c5r32) .ret) .skip))) (.seq (.seq (.region c5r33) (.seq (.region c5r34) (.cond (.t 189) (.seq (.region c5r35) .ret) .skip))) (.seq (.seq (.drawn c5d3) (.seq (.region c5r36) (.cond (.t 201) (.seq (.region c5r37) .ret) .skip))) (.seq (.seq (.drawn c5d4) (.seq (.region c5r38) (.cond (.t 213) (.seq (.region c5r39) .ret) .skip))) (.seq (.region c5r40) (.seq (.region c5r41) (.cond (.t 224) (.seq (.seq (.region c5r42) (.cond (.t 227) (.seq (.region c5r43) .ret) .skip)) (.seq (.seq (.region c5r44) (.seq (.region c5r45) (.cond (.t 238) (.seq (.region c5r46) .ret) .skip))) (.seq (.seq (.region c5r47) (.cond (.t 240) (.region c5r48) .skip)) (.seq (.region c5r49) (.cond (.t 242) (.region c5r50) .skip))))) .skip)))))))))))))))))) (.region c5r51)))
def c5r52 : List AOper :=
 [oM 243 8,
 oo 244 (.call (.c (.fn 28 [])) [.t 243]),
 oM 31 244]
def c5r53 : List AOper :=
 [oM 245 13,
 oK 246 .eql 245 5,
 oM 247 246,
 oMt 248 247 8,
 oot 249 247 (.call (.c (.fn 29 [])) [.t 248]),
 oKt 250 247 .eql 249 0,
 oP 251 247 250,
 oM 252 251,
 oMt 253 252 31,
 oGt 254 252 253,
 oKt 255 252 .eql 254 1,
 oP 256 252 255,
 oM 257 256,
 oMt 258 257 31,
 oot 259 257 (.idxA (.t 258) (.c (.int .i64 0)) none 6),
 oFt 260 257 259 4,
 oLt 261 257 260,
 oKt 262 257 .eql 261 1,
 oP 263 257 262,
 oM 264 263,
 oMt 265 264 31,
 oot 266 264 (.idxA (.t 265) (.c (.int .i64 0)) none 6),
 oFt 267 264 266 0,
 oLt 268 264 267,
 oKt 269 264 .gtr 268 1,
 oP 270 264 269,
 oM 271 270,
 oMt 272 271 31,
 oot 273 271 (.idxA (.t 272) (.c (.int .i64 0)) none 6),
 oFt 274 271 273 3,
 oLt 275 271 274,
 oKt 276 271 .gtr 275 1,
 oP 277 271 276,
 oM 278 277,
 oMt 279 278 31,
 oot 280 278 (.idxA (.t 279) (.c (.int .i64 0)) none 6),
 oFt 281 278 280 1,
 oSt 282 278 281 2,
 oot 283 278 (.build [.str [], .str []] []),
 oot 284 278 (.eqG false [2, 2] (.t 282) (.t 283)),
 oP 285 278 284,
 oM 286 285,
 oot 287 286 (.call (.c (.fn 20 [])) []),
 oP 288 286 287,
 oM 6 288]
def c5 : AC := (.seq (.region c5r0) (.seq (.seq (.region c5r1) (.cond (.t 39) (.seq (.region c5r2) .ret) .skip)) (.seq (.region c5r3) (.seq (.region c5r4) (.seq (.seq (.region c5r5) (.cond (.t 57) (.seq (.region c5r6) .ret) .skip)) (.seq (.region c5r7) (.seq (.region c5r8) (.seq (.seq (.region c5r9) (.cond (.t 81) (.seq (.region c5r10) .ret) .skip)) (.seq (.region c5r11) (.seq (.region c5r12) (.seq (.seq (.region c5r13) (.block 0 (.loop c5l0))) (.seq (.region c5r52) (.seq (.region c5r53) .ret)))))))))))))
def r5 : List ARes := [.tmp 6]
def c6r0 : List AOper :=
 [oo 6 (.mv (.c (.bool false)))]
def c6r1 : List AOper :=
 [oo 20 (.call (.c (.fn 8 [])) []),
 oM 7 20]
def c6r2 : List AOper :=
 [oM 22 7,
 oo 23 (.call (.c (.fn 21 [])) [.t 22, .c (.int .i64 3)]),
 oM 21 23,
 oE 24 21 0,
 oE 25 21 1,
 oM 8 24,
 oM 9 25]
def c6r3 : List AOper :=
 [oM 26 9,
 oK 27 .neq 26 0,
 oM 28 27,
 oMf 29 28 8,
 oof 30 28 (.eq false 1 (.t 29) (.c .nilp)),
 oT 31 28 30,
 oM 32 31,
 oMf 33 32 0,
 oof 34 32 (.lenS (.t 33)),
 oKf 35 32 .gtr 34 100,
 oT 36 32 35,
 oM 37 36,
 oMf 38 37 2,
 oGf 39 37 38,
 oKf 40 37 .gtr 39 20,
 oT 41 37 40]
def c6r4 : List AOper :=
 [oM 42 9,
 oK 43 .eql 42 0,
 oM 44 43,
 oMt 45 44 8,
 oot 46 44 (.eq true 1 (.t 45) (.c .nilp)),
 oP 47 44 46,
 oM 48 47,
 oot 49 48 (.call (.c (.fn 20 [])) []),
 oP 50 48 49,
 oM 6 50]
def c6r5 : List AOper :=
 [oM 51 1,
 oK 52 .and 51 3]
def c6r6 : List AOper :=
 [oK 54 .eql 52 1,
 oM 53 54]
def c6r7 : List AOper :=
 [oM 55 8,
 oM 56 0,
 oo 57 (.call (.c (.fn 30 [])) [.t 55, .t 56])]
def c6r8 : List AOper :=
 [oK 59 .eql 52 2,
 oM 58 59]
def c6r9 : List AOper :=
 [oM 60 8,
 oM 61 0,
 oo 62 (.call (.c (.fn 22 [])) [.t 60, .t 61, .c (.int .i64 1)])]
def c6r10 : List AOper :=
 [oM 63 8,
 oo 64 (.call (.c (.fn 28 [])) [.t 63]),
 oM 10 64]
def c6r11 : List AOper :=
 [oM 66 8,
 oo 67 (.call (.c (.fn 24 [])) [.t 66]),
 oM 65 67,
 oE 68 65 0,
 oE 69 65 1,
 oM 11 68,
 oM 12 69]
def c6r12 : List AOper :=
 [oV 13 0]
def c6r13 : List AOper :=
 [oM 70 13,
 oM 71 2,
 oG 72 71,
 oB 73 .lss 70 72]
def c6r14 : List AOper :=
 [oM 76 2,
 oM 77 13,
 oI 78 76 77 25,
 oS 79 78 25,
 oo 80 (.call (.c (.fn 19 [])) [.t 79]),
 oU 81 80]
def c6r15 : List AOper :=
 [oo 82 (.call (.c (.fn 20 [])) []),
 oM 6 82]
def c6r16 : List AOper :=
 [oM 83 2,
 oM 84 13,
 oI 85 83 84 25,
 oS 86 85 25,
 oo 14 (.alloc [.int .i64 0, .int .i64 0, .int .i64 0, .int .i64 0, .int .i64 0, .int .i64 0, .int .i64 0, .bool false, .int .i64 0, .str [], .str [], .str [], .bool false, .nils, .str [], .str [], .int .i64 0, .int .i64 0, .str [], .bool false, .nils, .str [], .nils, .nils, .nils]),
 ⟨none, none, .store (.t 14) (.t 86) 25⟩]
def c6r17 : List AOper :=
 [oF 87 14 2,
 oL 88 87,
 oK 89 .and 88 3,
 oK 90 .rem 89 3,
 oM 15 90]
def c6r18 : List AOper :=
 [oF 91 14 6,
 oL 92 91,
 oK 93 .eql 92 2,
 oM 94 93,
 oFt 95 94 14 0,
 oLt 96 94 95,
 oKt 97 94 .neq 96 3,
 oP 98 94 97]
def c6r19 : List AOper :=
 [oF 99 14 6,
 ⟨none, none, .store (.t 99) (.c (.int .i64 4)) 1⟩]
def c6r20 : List AOper :=
 [oM 101 8,
 oM 102 15,
 oS 103 14 25,
 oo 104 (.call (.c (.fn 26 [])) [.t 101, .t 102, .t 103]),
 oM 100 104,
 oE 105 100 0,
 oE 106 100 1,
 oM 16 105,
 oM 17 106]
def c6r21 : List AOper :=
 [oS 107 14 25,
 oo 108 (.call (.c (.fn 23 [])) [.t 107]),
 oK 109 .neq 108 0]
def c6r22 : List AOper :=
 [oM 110 17,
 oK 111 .neq 110 1]
def c6r23 : List AOper :=
 [oo 6 (.mv (.c (.bool false)))]
def c6r24 : List AOper :=
 [oM 112 17,
 oK 113 .neq 112 0,
 oM 114 113,
 oMf 115 114 16,
 oGf 116 114 115,
 oKf 117 114 .gtr 116 0,
 oMf 118 114 117,
 oFt 119 118 14 0,
 oLt 120 118 119,
 oKt 121 118 .neq 120 3,
 oPf 122 114 118 121,
 oT 123 114 122]
def c6r25 : List AOper :=
 [oo 6 (.mv (.c (.bool false)))]
def c6r26 : List AOper :=
 [oM 74 13,
 oK 75 .add 74 1,
 oM 13 75]
def c6l0 : AC := (.seq (.seq (.region c6r13) (.cond (.t 73) .skip (.exit 1))) (.seq (.block 2 (.seq (.seq (.region c6r14) (.cond (.t 81) (.seq (.region c6r15) .ret) .skip)) (.seq (.region c6r16) (.seq (.region c6r17) (.seq (.seq (.region c6r18) (.cond (.t 98) (.region c6r19) .skip)) (.seq (.region c6r20) (.seq (.seq (.region c6r21) (.cond (.t 109) (.seq (.seq (.region c6r22) (.cond (.t 111) (.seq (.region c6r23) .ret) .skip)) (.exit 2)) .skip)) (.seq (.region c6r24) (.cond (.t 123) (.seq (.region c6r25) .ret) .skip))))))))) (.region c6r26)))
def c6r27 : List AOper :=
 [oM 125 8,
 oo 126 (.call (.c (.fn 24 [])) [.t 125]),
 oM 124 126,
 oE 127 124 0,
 oE 128 124 1,
 oM 18 127,
 oM 19 128]
def c6r28 : List AOper :=
 [oM 129 10,
 oM 130 8,
 oo 131 (.call (.c (.fn 28 [])) [.t 130]),
 oo 132 (.call (.c (.fn 31 [])) [.t 129, .t 131]),
 oM 133 132,
 oMt 134 133 11,
 oMt 135 133 18,
 oot 136 133 (.call (.c (.fn 27 [])) [.t 134, .t 135]),
 oP 137 133 136,
 oM 138 137,
 oot 139 138 (.call (.c (.fn 20 [])) []),
 oP 140 138 139,
 oM 6 140]
def c6 : AC := (.seq (.region c6r0) (.seq (.region c6r1) (.seq (.region c6r2) (.seq (.seq (.region c6r3) (.cond (.t 41) (.seq (.region c6r4) .ret) .skip)) (.seq (.seq (.region c6r5) (.block 0 (.seq (.region c6r6) (.cond (.t 53) (.region c6r7) (.seq (.region c6r8) (.cond (.t 58) (.region c6r9) .skip)))))) (.seq (.region c6r10) (.seq (.region c6r11) (.seq (.seq (.region c6r12) (.block 1 (.loop c6l0))) (.seq (.region c6r27) (.seq (.region c6r28) .ret))))))))))
def r6 : List ARes := [.tmp 6]
def c7r0 : List AOper :=
 [oo 6 (.mv (.c (.bool false)))]
def c7r1 : List AOper :=
 [oM 12 0,
 oG 13 12,
 oK 14 .gtr 13 70,
 oM 15 14,
 oMf 16 15 1,
 oGf 17 15 16,
 oKf 18 15 .gtr 17 70,
 oT 19 15 18]
def c7r2 : List AOper :=
 [oo 20 (.call (.c (.fn 20 [])) []),
 oM 6 20]
def c7r3 : List AOper :=
 [oV 7 0]
def c7r4 : List AOper :=
 [oM 21 7,
 oM 22 0,
 oG 23 22,
 oB 24 .lss 21 23]
def c7r5 : List AOper :=
 [oM 27 0,
 oM 28 7,
 oI 29 27 28 6,
 oF 30 29 1,
 oF 31 30 0,
 oL 32 31,
 oo 33 (.lenS (.t 32)),
 oK 34 .gtr 33 100]
def c7r6 : List AOper :=
 [oo 35 (.call (.c (.fn 20 [])) []),
 oM 6 35]
def c7r7 : List AOper :=
 [oM 25 7,
 oK 26 .add 25 1,
 oM 7 26]
def c7l0 : AC := (.seq (.seq (.region c7r4) (.cond (.t 24) .skip (.exit 0))) (.seq (.block 1 (.seq (.region c7r5) (.cond (.t 34) (.seq (.region c7r6) .ret) .skip))) (.region c7r7)))
def c7r8 : List AOper :=
 [oM 37 0,
 oM 38 1,
 oM 39 2,
 oo 40 (.call (.c (.fn 32 [])) [.t 37, .t 38, .t 39]),
 oM 36 40,
 oE 41 36 0,
 oE 42 36 1,
 oo 8 (.alloc [.int .i64 0, .int .i64 0, .int .i64 0, .str [], .nils, .int .i64 0, .str [], .str [], .str [], .bool false, .nils, .str [], .str [], .int .i64 0]),
 ⟨none, none, .store (.t 8) (.t 41) 14⟩,oM 9 42]
def c7r9 : List AOper :=
 [oM 44 0,
 oM 45 1,
 oM 46 2,
 oo 47 (.call (.c (.fn 33 [])) [.t 44, .t 45, .t 46]),
 oM 43 47,
 oE 48 43 0,
 oE 49 43 1,
 oo 10 (.alloc [.int .i64 0, .int .i64 0, .int .i64 0, .str [], .nils, .int .i64 0, .str [], .str [], .str [], .bool false, .nils, .str [], .str [], .int .i64 0]),
 ⟨none, none, .store (.t 10) (.t 48) 14⟩,oM 11 49]
def c7r10 : List AOper :=
 [oF 50 8 0,
 oL 51 50,
 oF 52 10 0,
 oL 53 52,
 oB 54 .eql 51 53,
 oM 55 54,
 oFt 56 55 8 3,
 oLt 57 55 56,
 oFt 58 55 10 3,
 oLt 59 55 58,
 oBt 60 55 .eql 57 59,
 oP 61 55 60,
 oM 62 61,
 oFt 63 62 8 2,
 oLt 64 62 63,
 oFt 65 62 10 2,
 oLt 66 62 65,
 oBt 67 62 .eql 64 66,
 oP 68 62 67,
 oM 69 68,
 oFt 70 69 8 1,
 oLt 71 69 70,
 oFt 72 69 10 1,
 oLt 73 69 72,
 oBt 74 69 .eql 71 73,
 oP 75 69 74,
 oM 76 75,
 oMt 77 76 9,
 oMt 78 76 11,
 oot 79 76 (.eq false 0 (.t 77) (.t 78)),
 oP 80 76 79,
 oM 81 80,
 oot 82 81 (.call (.c (.fn 20 [])) []),
 oP 83 81 82,
 oM 6 83]
def c7 : AC := (.seq (.region c7r0) (.seq (.seq (.region c7r1) (.cond (.t 19) (.seq (.region c7r2) .ret) .skip)) (.seq (.seq (.region c7r3) (.block 0 (.loop c7l0))) (.seq (.region c7r8) (.seq (.region c7r9) (.seq (.region c7r10) .ret))))))
def r7 : List ARes := [.tmp 6]
theorem c7_ok : Tryz.f7.body.bind (cCode Tryz.prog Tryz.f7.ntmps) = some c7 := by kernel_rfl
theorem r7_ok : Tryz.f7.results.toList.mapM (cRes Tryz.prog Tryz.f7.ntmps) = some r7 := by kernel_rfl
def c8r0 : List AOper :=
 [oo 0 (.mv (.c .nilp))]
def c8r1 : List AOper :=
 [oo 1 (.mkm),
 oo 2 (.build [.nilm, .int .i64 0, .bool false] [(0, 1, .t 1), (1, 1, .c (.int .i64 (-1)))]),
 oo 3 (.box (.t 2)),
 oM 0 3]
def c8 : AC := (.seq (.region c8r0) (.seq (.region c8r1) .ret))
def r8 : List ARes := [.tmp 0]
theorem c8_ok : Tryz.f8.body.bind (cCode Tryz.prog Tryz.f8.ntmps) = some c8 := by kernel_rfl
theorem r8_ok : Tryz.f8.results.toList.mapM (cRes Tryz.prog Tryz.f8.ntmps) = some r8 := by kernel_rfl
def c15r0 : List AOper :=
 [oV 4 0]
def c15r1 : List AOper :=
 [oM 9 0,
 oo 10 (.call (.c (.fn 44 [])) [.t 9, .c .nils]),
 oU 11 10]
def c15r2 : List AOper :=
 [oV 4 1]
def c15r3 : List AOper :=
 [oM 12 0,
 oo 13 (.call (.c (.fn 45 [])) [.t 12]),
 oG 14 13,
 oV 15 0]
def c15r4 : List AOper :=
 [oB 16 .lss 15 14]
def c15r5 : List AOper :=
 [oM 17 15,
 oI 18 13 15 1,
 oL 19 18,
 oM 5 17,
 oM 6 19]
def c15r6 : List AOper :=
 [oM 20 0,
 oN 21 20,
 oF 22 21 0,
 oL 23 22,
 oM 24 6,
 oo 25 (.mget 1 (.t 23) (.t 24) .nilp false),
 oM 7 25]
def c15r7 : List AOper :=
 [oV 8 0]
def c15r8 : List AOper :=
 [oM 26 1,
 oG 27 26,
 oK 28 .gtr 27 0]
def c15r9 : List AOper :=
 [oM 29 1,
 oM 30 5,
 oM 31 1,
 oG 32 31,
 oB 33 .rem 30 32,
 oI 34 29 33 1,
 oL 35 34,
 oo 36 (.mm true [.c (.int .i64 0), .t 35]),
 oM 8 36]
def c15d0 : List (AOper × List Nat) :=
 [(oM 37 7, []),
 (oM 38 7, []),
 (oN 39 38, [1]),
 (oF 40 39 0, [2]),
 (oL 41 40, [3]),
 (oM 42 7, []),
 (oN 43 42, [5]),
 (oF 44 43 1, [6]),
 (oL 45 44, [7]),
 (oM 46 8, []),
 (oM 47 7, []),
 (oN 48 47, [10]),
 (oF 49 48 0, [11]),
 (oL 50 49, [12]),
 (oG 51 50, [13]),
 (oM 52 7, []),
 (oN 53 52, [15]),
 (oF 54 53 1, [16]),
 (oL 55 54, [17]),
 (oB 56 .sub 51 55, [14, 18]),
 (oo 57 (.mm false [.t 46, .t 56]), [9, 19]),
 (oB 58 .add 45 57, [8, 20]),
 (oo 59 (.slc (.t 41) none (some (.t 58)) none 1), [4, 21]),
 (oN 60 37, [0, 0, 1, 2, 3, 4, 5, 6, 7, 8, 9, 10, 11, 12, 13, 14, 15, 16, 17, 18, 19, 20, 21, 22]),
 (oF 61 60 0, [23, 0, 1, 2, 3, 4, 5, 6, 7, 8, 9, 10, 11, 12, 13, 14, 15, 16, 17, 18, 19, 20, 21, 22]),
 (⟨none, none, .store (.t 61) (.t 59) 1⟩, [24, 22, 0, 1, 2, 3, 4, 5, 6, 7, 8, 9, 10, 11, 12, 13, 14, 15, 16, 17, 18, 19, 20, 21, 22])]
def c15r10 : List AOper :=
 [oM 62 7,
 oM 63 7,
 oN 64 63,
 oF 65 64 0,
 oL 66 65,
 oG 67 66,
 oN 68 62,
 oF 69 68 1,
 ⟨none, none, .store (.t 69) (.t 67) 1⟩]
def c15r11 : List AOper :=
 [oK 70 .add 15 1,
 oM 15 70]
def c15l0 : AC := (.seq (.region c15r4) (.seq (.cond (.t 16) .skip (.exit 0)) (.seq (.block 1 (.seq (.region c15r5) (.seq (.region c15r6) (.seq (.region c15r7) (.seq (.seq (.region c15r8) (.cond (.t 28) (.region c15r9) .skip)) (.seq (.drawn c15d0) (.region c15r10))))))) (.region c15r11))))
def c15r12 : List AOper :=
 [oM 71 0,
 oM 72 0,
 oN 73 71,
 oF 74 73 1,
 ⟨none, none, .store (.t 74) (.c (.int .i64 (-1))) 1⟩,oN 75 72,
 oF 76 75 2,
 ⟨none, none, .store (.t 76) (.c (.bool false)) 1⟩]
def c15r13 : List AOper :=
 [oV 4 0]
def c15 : AC := (.seq (.region c15r0) (.seq (.seq (.region c15r1) (.cond (.t 11) (.seq (.region c15r2) .ret) .skip)) (.seq (.seq (.region c15r3) (.block 0 (.loop c15l0))) (.seq (.region c15r12) (.seq (.region c15r13) .ret)))))
def r15 : List ARes := [.tmp 4]
theorem c15_ok : Tryz.f15.body.bind (cCode Tryz.prog Tryz.f15.ntmps) = some c15 := by kernel_rfl
theorem r15_ok : Tryz.f15.results.toList.mapM (cRes Tryz.prog Tryz.f15.ntmps) = some r15 := by kernel_rfl
def c17r0 : List AOper :=
 [oo 2 (.mv (.c (.bool false)))]
def c17r1 : List AOper :=
 [oM 3 0,
 oo 4 (.call (.c (.fn 44 [])) [.t 3, .c .nils]),
 oM 5 4,
 oMt 6 5 0,
 oNt 7 5 6,
 oFt 8 5 7 2,
 oLt 9 5 8,
 oP 10 5 9,
 oM 2 10]
def c17 : AC := (.seq (.region c17r0) (.seq (.region c17r1) .ret))
def r17 : List ARes := [.tmp 2]
theorem c17_ok : Tryz.f17.body.bind (cCode Tryz.prog Tryz.f17.ntmps) = some c17 := by kernel_rfl
theorem r17_ok : Tryz.f17.results.toList.mapM (cRes Tryz.prog Tryz.f17.ntmps) = some r17 := by kernel_rfl
def c18r0 : List AOper :=
 [oV 4 0]
def c18r1 : List AOper :=
 [oM 5 0,
 oo 6 (.call (.c (.fn 44 [])) [.t 5, .c .nils]),
 oU 7 6]
def c18r2 : List AOper :=
 [oV 4 1]
def c18r3 : List AOper :=
 [oM 8 0,
 oM 9 1,
 oo 10 (.mm true [.t 9, .c (.int .i64 (-1))]),
 oN 11 8,
 oF 12 11 1,
 ⟨none, none, .store (.t 12) (.t 10) 1⟩]
def c18r4 : List AOper :=
 [oV 4 0]
def c18 : AC := (.seq (.region c18r0) (.seq (.seq (.region c18r1) (.cond (.t 7) (.seq (.region c18r2) .ret) .skip)) (.seq (.region c18r3) (.seq (.region c18r4) .ret))))
def c19r0 : List AOper :=
 [oo 1 (.box (.t 0)),
 oo 2 (.mv (.c (.bool false)))]
def c19r1 : List AOper :=
 [oF 9 1 8,
 oF 10 9 5,
 oL 11 10,
 oG 12 11,
 oK 13 .gtr 12 70,
 oM 14 13,
 oFf 15 14 1 17,
 oFf 16 14 15 3,
 oLf 17 14 16,
 oGf 18 14 17,
 oKf 19 14 .gtr 18 60,
 oT 20 14 19,
 oM 21 20,
 oFf 22 21 1 22,
 oLf 23 21 22,
 oGf 24 21 23,
 oKf 25 21 .gtr 24 70,
 oT 26 21 25,
 oM 27 26,
 oFf 28 27 1 23,
 oLf 29 27 28,
 oGf 30 27 29,
 oKf 31 27 .gtr 30 60,
 oT 32 27 31,
 oM 33 32,
 oFf 34 33 1 24,
 oLf 35 33 34,
 oGf 36 33 35,
 oKf 37 33 .gtr 36 20,
 oT 38 33 37]
def c19r2 : List AOper :=
 [oo 2 (.mv (.c (.bool false)))]
def c19r3 : List AOper :=
 [oF 39 1 8,
 oF 40 39 1,
 oL 41 40,
 oo 42 (.lenS (.t 41)),
 oo 43 (.mm false [.t 42, .c (.int .i64 1024)]),
 oF 44 1 8,
 oF 45 44 2,
 oL 46 45,
 oo 47 (.lenS (.t 46)),
 oo 48 (.mm false [.t 47, .c (.int .i64 1024)]),
 oB 49 .add 43 48,
 oF 50 1 8,
 oF 51 50 3,
 oL 52 51,
 oo 53 (.lenS (.t 52)),
 oo 54 (.mm false [.t 53, .c (.int .i64 1024)]),
 oB 55 .add 49 54,
 oF 56 1 8,
 oF 57 56 6,
 oF 58 57 0,
 oL 59 58,
 oo 60 (.lenS (.t 59)),
 oo 61 (.mm false [.t 60, .c (.int .i64 1024)]),
 oB 62 .add 55 61,
 oF 63 1 8,
 oF 64 63 6,
 oF 65 64 1,
 oL 66 65,
 oo 67 (.lenS (.t 66)),
 oo 68 (.mm false [.t 67, .c (.int .i64 1024)]),
 oB 69 .add 62 68,
 oF 70 1 17,
 oF 71 70 1,
 oL 72 71,
 oo 73 (.lenS (.t 72)),
 oo 74 (.mm false [.t 73, .c (.int .i64 1024)]),
 oB 75 .add 69 74,
 oF 76 1 17,
 oF 77 76 4,
 oL 78 77,
 oo 79 (.lenS (.t 78)),
 oo 80 (.mm false [.t 79, .c (.int .i64 1024)]),
 oB 81 .add 75 80,
 oM 3 81]
def c19r4 : List AOper :=
 [oV 4 0]
def c19r5 : List AOper :=
 [oM 82 4,
 oF 83 1 8,
 oF 84 83 5,
 oL 85 84,
 oG 86 85,
 oB 87 .lss 82 86]
def c19d0 : List (AOper × List Nat) :=
 [(oM 90 3, []),
 (oF 91 1 8, []),
 (oF 92 91 5, [1]),
 (oL 93 92, [2]),
 (oM 94 4, []),
 (oI 95 93 94 3, [3, 4]),
 (oF 96 95 0, [5]),
 (oL 97 96, [6]),
 (oo 98 (.lenS (.t 97)), [7]),
 (oo 99 (.mm false [.t 98, .c (.int .i64 1024)]), [8]),
 (oB 100 .add 90 99, [0, 9]),
 (oF 101 1 8, []),
 (oF 102 101 5, [11]),
 (oL 103 102, [12]),
 (oM 104 4, []),
 (oI 105 103 104 3, [13, 14]),
 (oF 106 105 1, [15]),
 (oL 107 106, [16]),
 (oo 108 (.lenS (.t 107)), [17]),
 (oo 109 (.mm false [.t 108, .c (.int .i64 1024)]), [18]),
 (oB 110 .add 100 109, [10, 19]),
 (oM 3 110, [20, 0, 1, 2, 3, 4, 5, 6, 7, 8, 9, 10, 11, 12, 13, 14, 15, 16, 17, 18, 19, 20])]
def c19r6 : List AOper :=
 [oM 88 4,
 oK 89 .add 88 1,
 oM 4 89]
def c19l0 : AC := (.seq (.seq (.region c19r5) (.cond (.t 87) .skip (.exit 0))) (.seq (.block 1 (.drawn c19d0)) (.region c19r6)))
def c19r7 : List AOper :=
 [oV 5 0]
def c19r8 : List AOper :=
 [oM 111 5,
 oF 112 1 17,
 oF 113 112 3,
 oL 114 113,
 oG 115 114,
 oB 116 .lss 111 115]
def c19d1 : List (AOper × List Nat) :=
 [(oM 119 3, []),
 (oF 120 1 17, []),
 (oF 121 120 3, [1]),
 (oL 122 121, [2]),
 (oM 123 5, []),
 (oI 124 122 123 2, [3, 4]),
 (oF 125 124 0, [5]),
 (oL 126 125, [6]),
 (oo 127 (.lenS (.t 126)), [7]),
 (oo 128 (.mm false [.t 127, .c (.int .i64 1024)]), [8]),
 (oB 129 .add 119 128, [0, 9]),
 (oF 130 1 17, []),
 (oF 131 130 3, [11]),
 (oL 132 131, [12]),
 (oM 133 5, []),
 (oI 134 132 133 2, [13, 14]),
 (oF 135 134 1, [15]),
 (oL 136 135, [16]),
 (oo 137 (.lenS (.t 136)), [17]),
 (oo 138 (.mm false [.t 137, .c (.int .i64 1024)]), [18]),
 (oB 139 .add 129 138, [10, 19]),
 (oM 3 139, [20, 0, 1, 2, 3, 4, 5, 6, 7, 8, 9, 10, 11, 12, 13, 14, 15, 16, 17, 18, 19, 20])]
def c19r9 : List AOper :=
 [oM 117 5,
 oK 118 .add 117 1,
 oM 5 118]
def c19l1 : AC := (.seq (.seq (.region c19r8) (.cond (.t 116) .skip (.exit 2))) (.seq (.block 3 (.drawn c19d1)) (.region c19r9)))
def c19r10 : List AOper :=
 [oV 6 0]
def c19r11 : List AOper :=
 [oM 140 6,
 oF 141 1 22,
 oL 142 141,
 oG 143 142,
 oB 144 .lss 140 143]
def c19d2 : List (AOper × List Nat) :=
 [(oM 147 3, []),
 (oF 148 1 22, []),
 (oL 149 148, [1]),
 (oM 150 6, []),
 (oI 151 149 150 6, [2, 3]),
 (oF 152 151 1, [4]),
 (oF 153 152 0, [5]),
 (oL 154 153, [6]),
 (oo 155 (.lenS (.t 154)), [7]),
 (oo 156 (.mm false [.t 155, .c (.int .i64 1024)]), [8]),
 (oB 157 .add 147 156, [0, 9]),
 (oF 158 1 22, []),
 (oL 159 158, [11]),
 (oM 160 6, []),
 (oI 161 159 160 6, [12, 13]),
 (oF 162 161 1, [14]),
 (oF 163 162 1, [15]),
 (oL 164 163, [16]),
 (oo 165 (.lenS (.t 164)), [17]),
 (oo 166 (.mm false [.t 165, .c (.int .i64 1024)]), [18]),
 (oB 167 .add 157 166, [10, 19]),
 (oM 3 167, [20, 0, 1, 2, 3, 4, 5, 6, 7, 8, 9, 10, 11, 12, 13, 14, 15, 16, 17, 18, 19, 20])]
def c19r12 : List AOper :=
 [oM 145 6,
 oK 146 .add 145 1,
 oM 6 146]
def c19l2 : AC := (.seq (.seq (.region c19r11) (.cond (.t 144) .skip (.exit 4))) (.seq (.block 5 (.drawn c19d2)) (.region c19r12)))
def c19r13 : List AOper :=
 [oV 7 0]
def c19r14 : List AOper :=
 [oM 168 7,
 oF 169 1 23,
 oL 170 169,
 oG 171 170,
 oB 172 .lss 168 171]
def c19d3 : List (AOper × List Nat) :=
 [(oM 175 3, []),
 (oF 176 1 23, []),
 (oL 177 176, [1]),
 (oM 178 7, []),
 (oI 179 177 178 4, [2, 3]),
 (oF 180 179 0, [4]),
 (oL 181 180, [5]),
 (oo 182 (.lenS (.t 181)), [6]),
 (oo 183 (.mm false [.t 182, .c (.int .i64 1024)]), [7]),
 (oB 184 .add 175 183, [0, 8]),
 (oF 185 1 23, []),
 (oL 186 185, [10]),
 (oM 187 7, []),
 (oI 188 186 187 4, [11, 12]),
 (oF 189 188 1, [13]),
 (oL 190 189, [14]),
 (oo 191 (.lenS (.t 190)), [15]),
 (oo 192 (.mm false [.t 191, .c (.int .i64 1024)]), [16]),
 (oB 193 .add 184 192, [9, 17]),
 (oM 3 193, [18, 0, 1, 2, 3, 4, 5, 6, 7, 8, 9, 10, 11, 12, 13, 14, 15, 16, 17, 18])]
def c19r15 : List AOper :=
 [oM 173 7,
 oK 174 .add 173 1,
 oM 7 174]
def c19l3 : AC := (.seq (.seq (.region c19r14) (.cond (.t 172) .skip (.exit 6))) (.seq (.block 7 (.drawn c19d3)) (.region c19r15)))
def c19r16 : List AOper :=
 [oV 8 0]
def c19r17 : List AOper :=
 [oM 194 8,
 oF 195 1 24,
 oL 196 195,
 oG 197 196,
 oB 198 .lss 194 197]
def c19d4 : List (AOper × List Nat) :=
 [(oM 201 3, []),
 (oF 202 1 24, []),
 (oL 203 202, [1]),
 (oM 204 8, []),
 (oI 205 203 204 7, [2, 3]),
 (oF 206 205 2, [4]),
 (oF 207 206 1, [5]),
 (oL 208 207, [6]),
 (oo 209 (.lenS (.t 208)), [7]),
 (oo 210 (.mm false [.t 209, .c (.int .i64 1024)]), [8]),
 (oB 211 .add 201 210, [0, 9]),
 (oF 212 1 24, []),
 (oL 213 212, [11]),
 (oM 214 8, []),
 (oI 215 213 214 7, [12, 13]),
 (oF 216 215 2, [14]),
 (oF 217 216 4, [15]),
 (oL 218 217, [16]),
 (oo 219 (.lenS (.t 218)), [17]),
 (oo 220 (.mm false [.t 219, .c (.int .i64 1024)]), [18]),
 (oB 221 .add 211 220, [10, 19]),
 (oF 222 1 24, []),
 (oL 223 222, [21]),
 (oM 224 8, []),
 (oI 225 223 224 7, [22, 23]),
 (oF 226 225 2, [24]),
 (oF 227 226 3, [25]),
 (oL 228 227, [26]),
 (oG 229 228, [27]),
 (oo 230 (.mm false [.t 229, .c (.int .i64 1024)]), [28]),
 (oB 231 .add 221 230, [20, 29]),
 (oM 3 231, [30, 0, 1, 2, 3, 4, 5, 6, 7, 8, 9, 10, 11, 12, 13, 14, 15, 16, 17, 18, 19, 20, 21, 22, 23, 24, 25, 26, 27, 28, 29, 30])]
def c19r18 : List AOper :=
 [oM 199 8,
 oK 200 .add 199 1,
 oM 8 200]
def c19l4 : AC := (.seq (.seq (.region c19r17) (.cond (.t 198) .skip (.exit 8))) (.seq (.block 9 (.drawn c19d4)) (.region c19r18)))
def c19r19 : List AOper :=
 [oM 232 3,
 oK 233 .lss 232 8192,
 oM 2 233]
def c19 : AC := (.seq (.region c19r0) (.seq (.seq (.region c19r1) (.cond (.t 38) (.seq (.region c19r2) .ret) .skip)) (.seq (.region c19r3) (.seq (.seq (.region c19r4) (.block 0 (.loop c19l0))) (.seq (.seq (.region c19r7) (.block 2 (.loop c19l1))) (.seq (.seq (.region c19r10) (.block 4 (.loop c19l2))) (.seq (.seq (.region c19r13) (.block 6 (.loop c19l3))) (.seq (.seq (.region c19r16) (.block 8 (.loop c19l4))) (.seq (.region c19r19) .ret)))))))))
def c20r0 : List AOper :=
 [oo 0 (.mv (.c (.bool false)))]
def c20r1 : List AOper :=
 [oo 10 (.call (.c (.fn 8 [])) []),
 oM 1 10]
def c20r2 : List AOper :=
 [oM 12 1,
 oo 13 (.call (.c (.fn 21 [])) [.t 12, .c (.int .i64 2)]),
 oM 11 13,
 oE 14 11 0,
 oE 15 11 1,
 oM 2 14,
 oM 3 15]
def c20r3 : List AOper :=
 [oM 16 3,
 oK 17 .neq 16 0,
 oM 18 17,
 oMf 19 18 2,
 oof 20 18 (.eq false 1 (.t 19) (.c .nilp)),
 oT 21 18 20,
 oM 22 21,
 oMf 23 22 2,
 oof 24 22 (.call (.c (.fn 29 [])) [.t 23]),
 oKf 25 22 .neq 24 0,
 oT 26 22 25,
 oM 27 26,
 oMf 28 27 2,
 oof 29 27 (.call (.c (.fn 30 [])) [.t 28, .c (.str [97])]),
 oKf 30 27 .neq 29 0,
 oT 31 27 30,
 oM 32 31,
 oMf 33 32 2,
 oof 34 32 (.call (.c (.fn 30 [])) [.t 33, .c (.str [97])]),
 oKf 35 32 .neq 34 200,
 oT 36 32 35,
 oM 37 36,
 oMf 38 37 2,
 oof 39 37 (.call (.c (.fn 29 [])) [.t 38]),
 oKf 40 37 .neq 39 5,
 oT 41 37 40]
def c20r4 : List AOper :=
 [oo 0 (.mv (.c (.bool false)))]
def c20r5 : List AOper :=
 [oo 42 (.build [.str [], .str []] [(1, 1, .c (.str [109]))]),
 oo 43 (.build [.int .i64 0, .str [], .str [], .int .i64 0, .int .i64 0, .int .i64 0] [(0, 1, .c (.int .i64 2)), (1, 2, .t 42), (3, 1, .c (.int .i64 2)), (5, 1, .c (.int .i64 2))]),
 oo 44 (.build [.str [], .str []] [(0, 1, .c (.str [109]))]),
 oo 45 (.build [.int .i64 0, .str [], .str [], .int .i64 0, .int .i64 0, .int .i64 0] [(0, 1, .c (.int .i64 3)), (1, 2, .t 44), (3, 1, .c (.int .i64 2)), (5, 1, .c (.int .i64 2))]),
 oo 46 (.bslice 2 6 [.int .i64 0, .str [], .str [], .int .i64 0, .int .i64 0, .int .i64 0] [(0, .t 43), (1, .t 45)]),
 oo 47 (.build [.int .i64 0, .int .i64 0, .int .i64 0, .int .i64 0, .int .i64 0, .int .i64 0, .int .i64 0, .bool false, .int .i64 0, .str [], .str [], .str [], .bool false, .nils, .str [], .str [], .int .i64 0, .int .i64 0, .str [], .bool false, .nils, .str [], .nils, .nils, .nils] [(0, 1, .c (.int .i64 14)), (6, 1, .c (.int .i64 2)), (5, 1, .c (.int .i64 5)), (22, 1, .t 46)]),
 oo 4 (.alloc [.int .i64 0, .int .i64 0, .int .i64 0, .int .i64 0, .int .i64 0, .int .i64 0, .int .i64 0, .bool false, .int .i64 0, .str [], .str [], .str [], .bool false, .nils, .str [], .str [], .int .i64 0, .int .i64 0, .str [], .bool false, .nils, .str [], .nils, .nils, .nils]),
 ⟨none, none, .store (.t 4) (.t 47) 25⟩]
def c20r6 : List AOper :=
 [oM 49 2,
 oS 50 4 25,
 oo 51 (.call (.c (.fn 26 [])) [.t 49, .c (.int .i64 0), .t 50]),
 oM 48 51,
 oE 52 48 0,
 oE 53 48 1,
 oM 5 52,
 oM 6 53]
def c20r7 : List AOper :=
 [oM 54 6,
 oK 55 .neq 54 0,
 oM 56 55,
 oMf 57 56 5,
 oGf 58 56 57,
 oKf 59 56 .gtr 58 0,
 oT 60 56 59,
 oM 61 60,
 oMf 62 61 1,
 oof 63 61 (.call (.c (.fn 15 [])) [.t 62, .c .nils]),
 oKf 64 61 .neq 63 0,
 oT 65 61 64]
def c20r8 : List AOper :=
 [oo 0 (.mv (.c (.bool false)))]
def c20r9 : List AOper :=
 [oM 67 1,
 oo 68 (.call (.c (.fn 21 [])) [.t 67, .c (.int .i64 2)]),
 oM 66 68,
 oE 69 66 0,
 oE 70 66 1,
 oM 7 69,
 oM 8 70]
def c20r10 : List AOper :=
 [oM 71 7,
 oo 72 (.call (.c (.fn 28 [])) [.t 71]),
 oM 9 72]
def c20r11 : List AOper :=
 [oM 73 8,
 oK 74 .eql 73 0,
 oM 75 74,
 oMt 76 75 9,
 oGt 77 75 76,
 oKt 78 75 .eql 77 2,
 oP 79 75 78,
 oM 80 79,
 oMt 81 80 9,
 oot 82 80 (.idxA (.t 81) (.c (.int .i64 1)) none 6),
 oSt 83 80 82 6,
 oot 84 80 (.build [.str [], .str []] [(0, 1, .c (.str [109]))]),
 oot 85 80 (.build [.int .i64 0, .str [], .str [], .int .i64 0, .int .i64 0, .int .i64 0] [(0, 1, .c (.int .i64 3)), (1, 2, .t 84), (3, 1, .c (.int .i64 2)), (5, 1, .c (.int .i64 2))]),
 oot 86 80 (.eqG false [1, 2, 2, 1, 1, 1] (.t 83) (.t 85)),
 oP 87 80 86,
 oM 88 87,
 oMt 89 88 7,
 oot 90 88 (.call (.c (.fn 29 [])) [.t 89]),
 oKt 91 88 .eql 90 0,
 oP 92 88 91,
 oM 0 92]
def c20 : AC := (.seq (.region c20r0) (.seq (.region c20r1) (.seq (.region c20r2) (.seq (.seq (.region c20r3) (.cond (.t 41) (.seq (.region c20r4) .ret) .skip)) (.seq (.region c20r5) (.seq (.seq (.region c20r6) (.seq (.region c20r7) (.cond (.t 65) (.seq (.region c20r8) .ret) .skip))) (.seq (.region c20r9) (.seq (.region c20r10) (.seq (.region c20r11) .ret)))))))))
def r20 : List ARes := [.tmp 0]
theorem c20_ok : Tryz.f20.body.bind (cCode Tryz.prog Tryz.f20.ntmps) = some c20 := by kernel_rfl
theorem r20_ok : Tryz.f20.results.toList.mapM (cRes Tryz.prog Tryz.f20.ntmps) = some r20 := by kernel_rfl
def c21r0 : List AOper :=
 [oo 4 (.mv (.c .nilp)),
 oV 5 0]
def c21r1 : List AOper :=
 [oM 17 0,
 oo 18 (.call (.c (.fn 47 [])) [.t 17, .c (.str [97])]),
 oM 16 18,
 oE 19 16 0,
 oE 20 16 1,
 oM 6 19,
 oM 7 20]
def c21r2 : List AOper :=
 [oM 21 7,
 oK 22 .eql 21 1,
 oM 23 22,
 oMf 24 23 1,
 oKf 25 23 .lss 24 1,
 oT 26 23 25,
 oM 27 26,
 oMf 28 27 1,
 oKf 29 27 .gtr 28 6,
 oT 30 27 29]
def c21r3 : List AOper :=
 [oo 4 (.mv (.c .nilp)),
 oV 5 1]
def c21r4 : List AOper :=
 [oM 32 0,
 oo 33 (.call (.c (.fn 34 [])) [.t 32, .c (.int .i64 0)]),
 oM 31 33,
 oE 34 31 0,
 oE 35 31 1,
 oM 8 34,
 oM 9 35]
def c21r5 : List AOper :=
 [oM 36 9,
 oK 37 .neq 36 0]
def c21r6 : List AOper :=
 [oM 38 9,
 oo 4 (.mv (.c .nilp)),
 oM 5 38]
def c21r7 : List AOper :=
 [oM 39 8,
 oM 40 1,
 oo 41 (.build [.int .i64 0, .str [], .str [], .int .i64 0, .int .i64 0, .int .i64 0] [(0, 1, .c (.int .i64 1)), (3, 1, .c (.int .i64 1)), (5, 1, .c (.int .i64 2))]),
 oo 42 (.bslice 1 6 [.int .i64 0, .str [], .str [], .int .i64 0, .int .i64 0, .int .i64 0] [(0, .t 41)]),
 oo 43 (.build [.nils, .int .i64 0, .int .i64 0, .int .i64 0, .int .i64 0, .int .i64 0, .int .i64 0, .int .i64 0, .int .i64 0] [(0, 1, .t 42), (2, 1, .c (.int .i64 1)), (3, 1, .c (.int .i64 2))]),
 oo 44 (.build [.nilp, .int .i64 0, .int .i64 0, .nils, .int .i64 0, .int .i64 0, .int .i64 0, .int .i64 0, .int .i64 0, .int .i64 0, .int .i64 0, .int .i64 0, .nilp, .nilp, .nilm] [(0, 1, .t 39), (1, 1, .t 40), (3, 9, .t 43)]),
 oo 45 (.box (.t 44)),
 oM 10 45]
def c21r8 : List AOper :=
 [oM 46 8,
 oo 47 (.call (.c (.fn 35 [])) [.t 46]),
 oG 48 47,
 oV 49 0]
def c21r9 : List AOper :=
 [oB 50 .lss 49 48]
def c21r10 : List AOper :=
 [oI 51 47 49 1,
 oL 52 51,
 oM 12 52]
def c21r11 : List AOper :=
 [oM 54 12,
 oM 55 1,
 oo 56 (.call (.c (.fn 48 [])) [.t 54, .t 55]),
 oM 53 56,
 oE 57 53 0,
 oE 58 53 1,
 oo 13 (.alloc [.nils, .int .i64 0, .int .i64 0, .int .i64 0, .int .i64 0, .int .i64 0, .int .i64 0, .int .i64 0, .int .i64 0]),
 ⟨none, none, .store (.t 13) (.t 57) 9⟩,oM 14 58]
def c21r12 : List AOper :=
 [oM 59 14,
 oU 60 59]
def c21r13 : List AOper :=
 [oo 4 (.mv (.c .nilp)),
 oV 5 1]
def c21r14 : List AOper :=
 [oM 61 10,
 oS 62 13 9,
 oN 63 61,
 oF 64 63 3,
 ⟨none, none, .store (.t 64) (.t 62) 9⟩]
def c21r15 : List AOper :=
 [oK 65 .add 49 1,
 oM 49 65]
def c21l0 : AC := (.seq (.region c21r9) (.seq (.cond (.t 50) .skip (.exit 0)) (.seq (.block 1 (.seq (.region c21r10) (.seq (.region c21r11) (.seq (.seq (.region c21r12) (.cond (.t 60) (.seq (.region c21r13) .ret) .skip)) (.region c21r14))))) (.region c21r15))))
def c21r16 : List AOper :=
 [oM 66 10,
 oN 67 66,
 oF 68 67 3,
 oS 69 68 9,
 oo 15 (.alloc [.nils, .int .i64 0, .int .i64 0, .int .i64 0, .int .i64 0, .int .i64 0, .int .i64 0, .int .i64 0, .int .i64 0]),
 ⟨none, none, .store (.t 15) (.t 69) 9⟩]
def c21r17 : List AOper :=
 [oF 70 15 4,
 oL 71 70,
 oK 72 .eql 71 7,
 oM 73 72,
 oFt 74 73 15 5,
 oLt 75 73 74,
 oKt 76 73 .eql 75 1,
 oP 77 73 76]
def c21r18 : List AOper :=
 [oS 78 15 9,
 oo 79 (.call (.c (.fn 49 [])) [.t 78]),
 ⟨none, none, .store (.t 15) (.t 79) 9⟩]
def c21r19 : List AOper :=
 [oM 80 10,
 oS 81 15 9,
 oo 82 (.call (.c (.fn 50 [])) [.t 80, .t 81]),
 oM 9 82]
def c21r20 : List AOper :=
 [oM 83 9,
 oK 84 .eql 83 0]
def c21r21 : List AOper :=
 [oM 85 8,
 oM 86 8,
 oo 87 (.call (.c (.fn 39 [])) [.t 86]),
 oo 88 (.call (.c (.fn 38 [])) [.t 85, .t 87]),
 oM 9 88]
def c21r22 : List AOper :=
 [oM 89 9,
 oK 90 .neq 89 0]
def c21r23 : List AOper :=
 [oM 91 9,
 oo 4 (.mv (.c .nilp)),
 oM 5 91]
def c21r24 : List AOper :=
 [oM 92 10,
 oo 93 (.mkm),
 oM 94 10,
 oo 95 (.mkb 51 (.t 94)),
 ⟨none, none, .mupd 0 (.t 93) (.c (.int .i64 5)) (.t 95)⟩,oM 96 10,
 oo 97 (.mkb 52 (.t 96)),
 ⟨none, none, .mupd 0 (.t 93) (.c (.int .i64 6)) (.t 97)⟩,oM 98 10,
 oo 99 (.mkb 53 (.t 98)),
 ⟨none, none, .mupd 0 (.t 93) (.c (.int .i64 7)) (.t 99)⟩,oM 100 93,
 oN 101 92,
 oF 102 101 14,
 ⟨none, none, .store (.t 102) (.t 100) 1⟩]
def c21r25 : List AOper :=
 [oM 103 10,
 oM 4 103,
 oV 5 0]
def c21 : AC := (.seq (.region c21r0) (.seq (.seq (.region c21r1) (.seq (.region c21r2) (.cond (.t 30) (.seq (.region c21r3) .ret) .skip))) (.seq (.region c21r4) (.seq (.seq (.region c21r5) (.cond (.t 37) (.seq (.region c21r6) .ret) .skip)) (.seq (.region c21r7) (.seq (.seq (.region c21r8) (.block 0 (.loop c21l0))) (.seq (.region c21r16) (.seq (.seq (.region c21r17) (.cond (.t 77) (.region c21r18) .skip)) (.seq (.seq (.region c21r19) (.seq (.region c21r20) (.cond (.t 84) (.region c21r21) .skip))) (.seq (.seq (.region c21r22) (.cond (.t 90) (.seq (.region c21r23) .ret) .skip)) (.seq (.region c21r24) (.seq (.region c21r25) .ret))))))))))))
def r21 : List ARes := [.tmp 4, .tmp 5]
theorem c21_ok : Tryz.f21.body.bind (cCode Tryz.prog Tryz.f21.ntmps) = some c21 := by kernel_rfl
theorem r21_ok : Tryz.f21.results.toList.mapM (cRes Tryz.prog Tryz.f21.ntmps) = some r21 := by kernel_rfl
def c22r0 : List AOper :=
 [oo 3 (.box (.t 0)),
 oo 5 (.box (.t 2)),
 oV 6 0]
def c22r1 : List AOper :=
 [oL 7 3,
 oM 8 1,
 oo 9 (.mkf 55 [.t 5, .t 3]),
 oo 10 (.call (.c (.fn 54 [])) [.t 7, .t 8, .t 9]),
 oM 6 10]
def c22 : AC := (.seq (.region c22r0) (.seq (.region c22r1) .ret))
def c23r0 : List AOper :=
 [oo 1 (.box (.t 0)),
 oV 2 0]
def c23r1 : List AOper :=
 [oS 6 1 25,
 oo 7 (.call (.c (.fn 56 [])) [.t 6]),
 oM 5 7,
 oE 8 5 0,
 oE 9 5 1,
 oM 3 8,
 oM 4 9]
def c23r2 : List AOper :=
 [oM 10 4,
 oU 11 10]
def c23r3 : List AOper :=
 [oV 2 1]
def c23r4 : List AOper :=
 [oV 2 0]
def c23 : AC := (.seq (.region c23r0) (.seq (.seq (.region c23r1) (.seq (.region c23r2) (.cond (.t 11) (.seq (.region c23r3) .ret) .skip))) (.seq (.region c23r4) .ret)))
def c24r0 : List AOper :=
 [oo 2 (.mv (.c .nils)),
 oV 3 0]
def c24r1 : List AOper :=
 [oM 9 0,
 oo 10 (.call (.c (.fn 57 [])) [.t 9]),
 oU 11 10,
 oM 8 11]
def c24r2 : List AOper :=
 [oo 2 (.mv (.c .nils)),
 oV 3 1]
def c24r3 : List AOper :=
 [oM 13 0,
 oN 14 13,
 oF 15 14 3,
 oF 16 15 4,
 oL 17 16,
 oK 18 .eql 17 0,
 oM 12 18]
def c24r4 : List AOper :=
 [oo 2 (.mv (.c .nils)),
 oV 3 0]
def c24r5 : List AOper :=
 [oM 20 0,
 oo 21 (.call (.c (.fn 58 [])) [.t 20]),
 oM 19 21,
 oE 22 19 0,
 oE 23 19 1,
 oo 5 (.alloc [.int .i64 0, .int .i64 0, .int .i64 0, .int .i64 0, .int .i64 0, .int .i64 0, .int .i64 0, .bool false, .int .i64 0, .str [], .str [], .str [], .bool false, .nils, .str [], .str [], .int .i64 0, .int .i64 0, .str [], .bool false, .nils, .str [], .nils, .nils, .nils]),
 oM 4 22,
 ⟨none, none, .store (.t 5) (.t 23) 25⟩]
def c24r6 : List AOper :=
 [oS 25 5 25,
 oo 26 (.call (.c (.fn 59 [])) [.t 25]),
 oM 24 26,
 oE 27 24 0,
 oE 28 24 1,
 oM 6 27,
 oM 7 28]
def c24r7 : List AOper :=
 [oM 29 4,
 oM 30 6,
 oo 31 (.build [.int .i64 0, .int .i64 0, .str []] [(0, 1, .c (.int .i64 (-1))), (1, 1, .t 29), (2, 1, .t 30)]),
 oo 32 (.bslice 1 3 [.int .i64 0, .int .i64 0, .str []] [(0, .t 31)]),
 oM 2 32,
 oV 3 0]
def c24 : AC := (.seq (.region c24r0) (.seq (.block 0 (.seq (.region c24r1) (.cond (.t 8) (.seq (.region c24r2) .ret) (.seq (.region c24r3) (.cond (.t 12) (.seq (.region c24r4) .ret) .skip))))) (.seq (.region c24r5) (.seq (.region c24r6) (.seq (.region c24r7) .ret)))))
def r24 : List ARes := [.tmp 2, .tmp 3]
theorem c24_ok : Tryz.f24.body.bind (cCode Tryz.prog Tryz.f24.ntmps) = some c24 := by kernel_rfl
theorem r24_ok : Tryz.f24.results.toList.mapM (cRes Tryz.prog Tryz.f24.ntmps) = some r24 := by kernel_rfl
def c26r0 : List AOper :=
 [oo 5 (.box (.t 2)),
 oo 6 (.mv (.c .nils)),
 oV 7 0]
def c26r1 : List AOper :=
 [oM 13 0,
 oo 14 (.call (.c (.fn 57 [])) [.t 13]),
 oU 15 14,
 oM 16 15,
 oMf 17 16 1,
 oKf 18 16 .lss 17 0,
 oT 19 16 18,
 oM 20 19,
 oMf 21 20 1,
 oMf 22 20 0,
 oNf 23 20 22,
 oFf 24 20 23 1,
 oLf 25 20 24,
 oBf 26 20 .geq 21 25,
 oMf 27 20 26,
 oMt 28 27 1,
 oKt 29 27 .lss 28 100,
 oPf 30 20 27 29,
 oT 31 20 30,
 oM 32 31,
 oSf 33 32 5 25,
 oof 34 32 (.call (.c (.fn 62 [])) [.t 33]),
 oKf 35 32 .neq 34 0,
 oT 36 32 35]
def c26r2 : List AOper :=
 [oo 6 (.mv (.c .nils)),
 oV 7 1]
def c26r3 : List AOper :=
 [oF 37 5 0,
 oL 38 37,
 oK 39 .eql 38 3]
def c26d0 : List (AOper × List Nat) :=
 [(oF 41 5 4, []),
 (oL 42 41, [0]),
 (oM 43 0, []),
 (oN 44 43, [2]),
 (oF 45 44 3, [3]),
 (oF 46 45 0, [4]),
 (oL 47 46, [5]),
 (oo 48 (.build [.int .i64 0, .int .i64 0, .int .i64 0, .int .i64 0, .int .i64 0, .int .i64 0, .int .i64 0, .bool false, .int .i64 0, .str [], .str [], .str [], .bool false, .nils, .str [], .str [], .int .i64 0, .int .i64 0, .str [], .bool false, .nils, .str [], .nils, .nils, .nils] [(0, 1, .c (.int .i64 4)), (4, 1, .t 42), (22, 1, .t 47)]), [1, 6]),
 (oo 49 (.call (.c (.fn 59 [])) [.t 48]), [7]),
 (oM 40 49, [8]),
 (oE 50 40 0, [9]),
 (oE 51 40 1, [9]),
 (oM 8 50, [10, 8, 0, 1, 2, 3, 4, 5, 6, 7, 8, 9, 10]),
 (oM 9 51, [11, 12, 0, 1, 2, 3, 4, 5, 6, 7, 8, 9, 10, 11, 12])]
def c26r4 : List AOper :=
 [oM 52 1,
 oM 53 8,
 oo 54 (.build [.int .i64 0, .int .i64 0, .str []] [(0, 1, .c (.int .i64 (-1))), (1, 1, .t 52), (2, 1, .t 53)]),
 oo 55 (.bslice 1 3 [.int .i64 0, .int .i64 0, .str []] [(0, .t 54)]),
 oM 6 55,
 oV 7 0]
def c26d1 : List (AOper × List Nat) :=
 [(oM 56 0, []),
 (oN 57 56, [0]),
 (oF 58 57 3, [1]),
 (oF 59 58 4, [2]),
 (oL 60 59, [3]),
 (oK 61 .eql 60 0, [4]),
 (oM 62 61, [5]),
 (oFf 63 62 5 6, [6]),
 (oLf 64 62 63, [7, 6]),
 (oMf 65 62 0, [6]),
 (oNf 66 62 65, [9, 6]),
 (oFf 67 62 66 3, [10, 6]),
 (oFf 68 62 67 1, [11, 6]),
 (oLf 69 62 68, [12, 6]),
 (oBf 70 62 .neq 64 69, [8, 13, 6]),
 (oT 71 62 70, [6, 14])]
def c26r5 : List AOper :=
 [oo 6 (.mv (.c .nils)),
 oV 7 0]
def c26d2 : List (AOper × List Nat) :=
 [(oM 73 0, []),
 (oN 74 73, [0]),
 (oF 75 74 14, [1]),
 (oL 76 75, [2]),
 (oM 77 0, []),
 (oN 78 77, [4]),
 (oF 79 78 3, [5]),
 (oF 80 79 4, [6]),
 (oL 81 80, [7]),
 (oo 82 (.mget 0 (.t 76) (.t 81) .nilf false), [3, 8]),
 (oM 83 1, []),
 (oS 84 5 25, []),
 (oo 85 (.call (.t 82) [.t 83, .t 84]), [9, 10, 11]),
 (oM 72 85, [12]),
 (oE 86 72 0, [13]),
 (oE 87 72 1, [13]),
 (oo 10 (.alloc [.nils, .int .i64 0, .int .i64 0, .int .i64 0, .int .i64 0, .int .i64 0, .int .i64 0, .int .i64 0, .int .i64 0]), []),
 (⟨none, none, .store (.t 10) (.t 86) 9⟩, [16, 14, 12, 0, 1, 2, 3, 4, 5, 6, 7, 8, 9, 10, 11, 12, 13, 14, 16]),
 (oM 11 87, [15, 17, 0, 1, 2, 3, 4, 5, 6, 7, 8, 9, 10, 11, 12, 13, 14, 15, 16, 17])]
def c26r6 : List AOper :=
 [oM 88 11,
 oU 89 88]
def c26r7 : List AOper :=
 [oo 6 (.mv (.c .nils)),
 oV 7 0]
def c26d3 : List (AOper × List Nat) :=
 [(oF 90 10 5, []),
 (oL 91 90, [0]),
 (oM 92 0, []),
 (oN 93 92, [2]),
 (oF 94 93 3, [3]),
 (oF 95 94 5, [4]),
 (oL 96 95, [5]),
 (oB 97 .neq 91 96, [1, 6]),
 (oM 98 97, [7]),
 (oFf 99 98 10 4, [8]),
 (oLf 100 98 99, [9, 8]),
 (oMf 101 98 0, [8]),
 (oNf 102 98 101, [11, 8]),
 (oFf 103 98 102 3, [12, 8]),
 (oFf 104 98 103 4, [13, 8]),
 (oLf 105 98 104, [14, 8]),
 (oBf 106 98 .neq 100 105, [10, 15, 8]),
 (oT 107 98 106, [8, 16])]
def c26r8 : List AOper :=
 [oM 108 0,
 oS 109 10 9,
 oo 110 (.call (.c (.fn 50 [])) [.t 108, .t 109]),
 oM 12 110]
def c26r9 : List AOper :=
 [oM 111 12,
 oK 112 .neq 111 0]
def c26r10 : List AOper :=
 [oM 113 12,
 oo 6 (.mv (.c .nils)),
 oM 7 113]
def c26r11 : List AOper :=
 [oM 114 0,
 oo 115 (.call (.c (.fn 24 [])) [.t 114]),
 oE 116 115 0,
 oE 117 115 1,
 oM 6 116,
 oM 7 117]
def c26 : AC := (.seq (.region c26r0) (.seq (.seq (.region c26r1) (.cond (.t 36) (.seq (.region c26r2) .ret) .skip)) (.seq (.seq (.region c26r3) (.cond (.t 39) (.seq (.drawn c26d0) (.seq (.region c26r4) .ret)) .skip)) (.seq (.seq (.drawn c26d1) (.cond (.t 71) (.seq (.region c26r5) .ret) .skip)) (.seq (.drawn c26d2) (.seq (.seq (.region c26r6) (.cond (.t 89) (.seq (.region c26r7) .ret) .skip)) (.seq (.seq (.drawn c26d3) (.cond (.t 107) (.seq (.region c26r8) (.seq (.region c26r9) (.cond (.t 112) (.seq (.region c26r10) .ret) .skip))) .skip)) (.seq (.region c26r11) .ret))))))))
def r26 : List ARes := [.tmp 6, .tmp 7]
theorem c26_ok : Tryz.f26.body.bind (cCode Tryz.prog Tryz.f26.ntmps) = some c26 := by kernel_rfl
theorem r26_ok : Tryz.f26.results.toList.mapM (cRes Tryz.prog Tryz.f26.ntmps) = some r26 := by kernel_rfl
def c28r0 : List AOper :=
 [oo 2 (.mv (.c .nils))]
def c28r1 : List AOper :=
 [oM 3 0,
 oo 4 (.call (.c (.fn 57 [])) [.t 3]),
 oU 5 4]
def c28r2 : List AOper :=
 [oo 2 (.mv (.c .nils))]
def c28r3 : List AOper :=
 [oM 6 0,
 oN 7 6,
 oF 8 7 3,
 oF 9 8 0,
 oL 10 9,
 oo 11 (.call (.c (.fn 63 [])) [.t 10]),
 oM 2 11]
def c28 : AC := (.seq (.region c28r0) (.seq (.seq (.region c28r1) (.cond (.t 5) (.seq (.region c28r2) .ret) .skip)) (.seq (.region c28r3) .ret)))
def r28 : List ARes := [.tmp 2]
theorem c28_ok : Tryz.f28.body.bind (cCode Tryz.prog Tryz.f28.ntmps) = some c28 := by kernel_rfl
theorem r28_ok : Tryz.f28.results.toList.mapM (cRes Tryz.prog Tryz.f28.ntmps) = some r28 := by kernel_rfl
def c29r0 : List AOper :=
 [oV 2 0]
def c29r1 : List AOper :=
 [oM 3 0,
 oo 4 (.call (.c (.fn 57 [])) [.t 3]),
 oU 5 4]
def c29r2 : List AOper :=
 [oV 2 0]
def c29r3 : List AOper :=
 [oM 6 0,
 oN 7 6,
 oF 8 7 3,
 oF 9 8 4,
 oL 10 9,
 oM 2 10]
def c29 : AC := (.seq (.region c29r0) (.seq (.seq (.region c29r1) (.cond (.t 5) (.seq (.region c29r2) .ret) .skip)) (.seq (.region c29r3) .ret)))
def r29 : List ARes := [.tmp 2]
theorem c29_ok : Tryz.f29.body.bind (cCode Tryz.prog Tryz.f29.ntmps) = some c29 := by kernel_rfl
theorem r29_ok : Tryz.f29.results.toList.mapM (cRes Tryz.prog Tryz.f29.ntmps) = some r29 := by kernel_rfl
def c30r0 : List AOper :=
 [oV 4 0]
def c30r1 : List AOper :=
 [oM 5 0,
 oM 6 1,
 oo 7 (.call (.c (.fn 54 [])) [.t 5, .t 6, .c (.fn 64 [])]),
 oM 4 7]
def c30 : AC := (.seq (.region c30r0) (.seq (.region c30r1) .ret))
def r30 : List ARes := [.tmp 4]
theorem c30_ok : Tryz.f30.body.bind (cCode Tryz.prog Tryz.f30.ntmps) = some c30 := by kernel_rfl
theorem r30_ok : Tryz.f30.results.toList.mapM (cRes Tryz.prog Tryz.f30.ntmps) = some r30 := by kernel_rfl
def c32r0 : List AOper :=
 [oo 6 (.alloc [.int .i64 0, .int .i64 0, .int .i64 0, .str [], .nils, .int .i64 0, .str [], .str [], .str [], .bool false, .nils, .str [], .str [], .int .i64 0]),
 oo 7 (.mv (.c (.bool false)))]
def c32r1 : List AOper :=
 [oM 18 0,
 oG 19 18,
 oM 20 1,
 oG 21 20,
 oB 22 .neq 19 21,
 oM 23 22,
 oMf 24 23 2,
 oKf 25 23 .lss 24 1,
 oT 26 23 25,
 oM 27 26,
 oMf 28 27 2,
 oKf 29 27 .gtr 28 6,
 oT 30 27 29]
def c32r2 : List AOper :=
 [oo 31 (.build [.int .i64 0, .int .i64 0, .int .i64 0, .str [], .nils, .int .i64 0, .str [], .str [], .str [], .bool false, .nils, .str [], .str [], .int .i64 0] []),
 ⟨none, none, .store (.t 6) (.t 31) 14⟩,oo 7 (.mv (.c (.bool false)))]
def c32r3 : List AOper :=
 [oM 32 2,
 oo 33 (.mks (.t 32) (.t 32) [.int .i64 0] 8),
 oM 8 33]
def c32r4 : List AOper :=
 [oM 34 2,
 oo 35 (.mks (.t 34) (.t 34) [.int .i64 0] 8),
 oM 9 35]
def c32r5 : List AOper :=
 [oM 36 0,
 oG 37 36,
 oV 38 0]
def c32r6 : List AOper :=
 [oB 39 .lss 38 37]
def c32r7 : List AOper :=
 [oM 40 38,
 oI 41 36 38 6,
 oS 42 41 6,
 oo 11 (.alloc [.int .i64 0, .str [], .str [], .int .i64 0, .int .i64 0, .int .i64 0]),
 oM 10 40,
 ⟨none, none, .store (.t 11) (.t 42) 6⟩]
def c32r8 : List AOper :=
 [oF 43 11 4,
 oL 44 43,
 oK 45 .lss 44 0,
 oM 46 45,
 oFf 47 46 11 4,
 oLf 48 46 47,
 oMf 49 46 2,
 oBf 50 46 .geq 48 49,
 oT 51 46 50,
 oM 52 51,
 oMf 53 52 1,
 oMf 54 52 10,
 oIf 55 52 53 54 1,
 oLf 56 52 55,
 oKf 57 52 .lss 56 0,
 oT 58 52 57,
 oM 59 58,
 oMf 60 59 1,
 oMf 61 59 10,
 oIf 62 59 60 61 1,
 oLf 63 59 62,
 oKf 64 59 .gtr 63 1099511627775,
 oT 65 59 64,
 oM 66 65,
 oMf 67 66 0,
 oGf 68 66 67,
 oKf 69 66 .gtr 68 64,
 oT 70 66 69]
def c32r9 : List AOper :=
 [oo 71 (.build [.int .i64 0, .int .i64 0, .int .i64 0, .str [], .nils, .int .i64 0, .str [], .str [], .str [], .bool false, .nils, .str [], .str [], .int .i64 0] []),
 ⟨none, none, .store (.t 6) (.t 71) 14⟩,oo 7 (.mv (.c (.bool false)))]
def c32d0 : List (AOper × List Nat) :=
 [(oM 72 8, []),
 (oF 73 11 4, []),
 (oL 74 73, [1]),
 (oI 75 72 74 1, [0, 2]),
 (oL 76 75, [3]),
 (oM 77 1, []),
 (oM 78 10, []),
 (oI 79 77 78 1, [5, 6]),
 (oL 80 79, [7]),
 (oB 81 .add 76 80, [4, 8]),
 (oI 82 72 74 1, [0, 2, 0, 1, 2, 3, 4, 5, 6, 7, 8, 9]),
 (⟨none, none, .store (.t 82) (.t 81) 1⟩, [10, 9, 0, 1, 2, 3, 4, 5, 6, 7, 8, 9])]
def c32r10 : List AOper :=
 [oM 83 9,
 oF 84 11 4,
 oL 85 84,
 oI 86 83 85 1,
 oL 87 86,
 oK 88 .add 87 1,
 oI 89 83 85 1,
 ⟨none, none, .store (.t 89) (.t 88) 1⟩]
def c32r11 : List AOper :=
 [oK 90 .add 38 1,
 oM 38 90]
def c32l0 : AC := (.seq (.region c32r6) (.seq (.cond (.t 39) .skip (.exit 0)) (.seq (.block 1 (.seq (.region c32r7) (.seq (.seq (.region c32r8) (.cond (.t 70) (.seq (.region c32r9) .ret) .skip)) (.seq (.drawn c32d0) (.region c32r10))))) (.region c32r11))))
def c32r12 : List AOper :=
 [oM 91 8,
 oM 92 8,
 oo 93 (.call (.c (.fn 66 [])) [.t 92]),
 oo 94 (.call (.c (.fn 65 [])) [.t 91, .t 93]),
 oM 12 94]
def c32r13 : List AOper :=
 [oM 95 8,
 oM 96 8,
 oo 97 (.call (.c (.fn 67 [])) [.t 96]),
 oo 98 (.call (.c (.fn 65 [])) [.t 95, .t 97]),
 oM 13 98]
def c32d1 : List (AOper × List Nat) :=
 [(oM 99 8, []),
 (oM 100 12, []),
 (oI 101 99 100 1, [0, 1]),
 (oL 102 101, [2]),
 (oM 103 8, []),
 (oM 104 13, []),
 (oI 105 103 104 1, [4, 5]),
 (oL 106 105, [6]),
 (oo 107 (.bin .mul (.c (.int .i64 2)) (.t 106)), [7]),
 (oK 108 .add 107 8, [8]),
 (oB 109 .leq 102 108, [3, 9])]
def c32r14 : List AOper :=
 [oo 110 (.build [.int .i64 0, .int .i64 0, .int .i64 0, .str [], .nils, .int .i64 0, .str [], .str [], .str [], .bool false, .nils, .str [], .str [], .int .i64 0] []),
 ⟨none, none, .store (.t 6) (.t 110) 14⟩,oo 7 (.mv (.c (.bool false)))]
def c32r15 : List AOper :=
 [oo 14 (.mv (.c (.int .i64 (-1))))]
def c32r16 : List AOper :=
 [oM 111 0,
 oG 112 111,
 oV 113 0]
def c32r17 : List AOper :=
 [oB 114 .lss 113 112]
def c32r18 : List AOper :=
 [oM 115 113,
 oI 116 111 113 6,
 oS 117 116 6,
 oo 16 (.alloc [.int .i64 0, .str [], .str [], .int .i64 0, .int .i64 0, .int .i64 0]),
 oM 15 115,
 ⟨none, none, .store (.t 16) (.t 117) 6⟩]
def c32d2 : List (AOper × List Nat) :=
 [(oF 118 16 4, []),
 (oL 119 118, [0]),
 (oM 120 12, []),
 (oB 121 .eql 119 120, [1, 2]),
 (oM 122 121, [3]),
 (oMt 123 122 14, [4]),
 (oKt 124 122 .lss 123 0, [5, 4]),
 (oMt 125 122 124, [6, 4, 4]),
 (oMf 126 125 1, [7]),
 (oMf 127 125 15, [7]),
 (oIf 128 125 126 127 1, [8, 9, 7]),
 (oLf 129 125 128, [10, 7]),
 (oMf 130 125 1, [7]),
 (oMf 131 125 14, [7]),
 (oIf 132 125 130 131 1, [12, 13, 7]),
 (oLf 133 125 132, [14, 7]),
 (oBf 134 125 .gtr 129 133, [11, 15, 7]),
 (oTt 135 122 125 134, [7, 16, 4]),
 (oP 136 122 135, [4, 17])]
def c32r19 : List AOper :=
 [oM 137 15,
 oM 14 137]
def c32r20 : List AOper :=
 [oK 138 .add 113 1,
 oM 113 138]
def c32l1 : AC := (.seq (.region c32r17) (.seq (.cond (.t 114) .skip (.exit 2)) (.seq (.block 3 (.seq (.region c32r18) (.seq (.drawn c32d2) (.cond (.t 136) (.region c32r19) .skip)))) (.region c32r20))))
def c32r21 : List AOper :=
 [oM 139 0,
 oM 140 14,
 oI 141 139 140 6,
 oF 142 141 1,
 oF 143 142 0,
 oL 144 143,
 oo 145 (.build [.int .i64 0, .int .i64 0, .int .i64 0, .str [], .nils, .int .i64 0, .str [], .str [], .str [], .bool false, .nils, .str [], .str [], .int .i64 0] [(0, 1, .c (.int .i64 2)), (3, 1, .t 144)]),
 oo 17 (.alloc [.int .i64 0, .int .i64 0, .int .i64 0, .str [], .nils, .int .i64 0, .str [], .str [], .str [], .bool false, .nils, .str [], .str [], .int .i64 0]),
 ⟨none, none, .store (.t 17) (.t 145) 14⟩]
def c32r22 : List AOper :=
 [oF 146 17 3,
 oL 147 146,
 oo 148 (.bin .eql (.t 147) (.c (.str [])))]
def c32r23 : List AOper :=
 [oF 149 17 3,
 ⟨none, none, .store (.t 149) (.c (.str [0])) 1⟩]
def c32d3 : List (AOper × List Nat) :=
 [(oM 150 9, []),
 (oM 151 12, []),
 (oI 152 150 151 1, [0, 1]),
 (oL 153 152, [2]),
 (oK 154 .gtr 153 1, [3]),
 (oM 155 154, [4]),
 (oMt 156 155 1, [5]),
 (oMt 157 155 14, [5]),
 (oIt 158 155 156 157 1, [6, 7, 5]),
 (oLt 159 155 158, [8, 5]),
 (oMt 160 155 8, [5]),
 (oMt 161 155 13, [5]),
 (oIt 162 155 160 161 1, [10, 11, 5]),
 (oLt 163 155 162, [12, 5]),
 (oBt 164 155 .add 159 163, [9, 13, 5]),
 (oMt 165 155 8, [5]),
 (oMt 166 155 12, [5]),
 (oIt 167 155 165 166 1, [15, 16, 5]),
 (oLt 168 155 167, [17, 5]),
 (oBt 169 155 .lss 164 168, [14, 18, 5]),
 (oP 170 155 169, [5, 19])]
def c32r24 : List AOper :=
 [oM 171 13,
 oF 172 17 0,
 ⟨none, none, .store (.t 172) (.c (.int .i64 4)) 1⟩,oF 173 17 2,
 ⟨none, none, .store (.t 173) (.t 171) 1⟩]
def c32r25 : List AOper :=
 [oS 174 17 14,
 ⟨none, none, .store (.t 6) (.t 174) 14⟩,oo 7 (.mv (.c (.bool true)))]
def c32 : AC := (.seq (.region c32r0) (.seq (.seq (.region c32r1) (.cond (.t 30) (.seq (.region c32r2) .ret) .skip)) (.seq (.region c32r3) (.seq (.region c32r4) (.seq (.seq (.region c32r5) (.block 0 (.loop c32l0))) (.seq (.region c32r12) (.seq (.region c32r13) (.seq (.seq (.drawn c32d1) (.cond (.t 109) (.seq (.region c32r14) .ret) .skip)) (.seq (.region c32r15) (.seq (.seq (.region c32r16) (.block 2 (.loop c32l1))) (.seq (.region c32r21) (.seq (.seq (.region c32r22) (.cond (.t 148) (.region c32r23) .skip)) (.seq (.seq (.drawn c32d3) (.cond (.t 170) (.region c32r24) .skip)) (.seq (.region c32r25) .ret))))))))))))))
def r32 : List ARes := [.cell 6 (some 14), .tmp 7]
theorem c32_ok : Tryz.f32.body.bind (cCode Tryz.prog Tryz.f32.ntmps) = some c32 := by kernel_rfl
theorem r32_ok : Tryz.f32.results.toList.mapM (cRes Tryz.prog Tryz.f32.ntmps) = some r32 := by kernel_rfl
def c33r0 : List AOper :=
 [oo 6 (.alloc [.int .i64 0, .int .i64 0, .int .i64 0, .str [], .nils, .int .i64 0, .str [], .str [], .str [], .bool false, .nils, .str [], .str [], .int .i64 0]),
 oo 7 (.mv (.c (.bool false)))]
def c33r1 : List AOper :=
 [oM 17 0,
 oG 18 17,
 oM 19 1,
 oG 20 19,
 oB 21 .neq 18 20,
 oM 22 21,
 oMf 23 22 0,
 oGf 24 22 23,
 oKf 25 22 .gtr 24 64,
 oT 26 22 25,
 oM 27 26,
 oMf 28 27 2,
 oKf 29 27 .lss 28 1,
 oT 30 27 29,
 oM 31 30,
 oMf 32 31 2,
 oKf 33 31 .gtr 32 6,
 oT 34 31 33]
def c33r2 : List AOper :=
 [oo 35 (.build [.int .i64 0, .int .i64 0, .int .i64 0, .str [], .nils, .int .i64 0, .str [], .str [], .str [], .bool false, .nils, .str [], .str [], .int .i64 0] []),
 ⟨none, none, .store (.t 6) (.t 35) 14⟩,oo 7 (.mv (.c (.bool false)))]
def c33r3 : List AOper :=
 [oM 36 2,
 oo 37 (.mks (.t 36) (.t 36) [.int .i64 0] 8),
 oM 8 37]
def c33r4 : List AOper :=
 [oM 38 2,
 oo 39 (.mks (.t 38) (.t 38) [.int .i64 0] 8),
 oM 9 39]
def c33r5 : List AOper :=
 [oV 10 0]
def c33r6 : List AOper :=
 [oM 40 10,
 oM 41 0,
 oG 42 41,
 oB 43 .lss 40 42]
def c33r7 : List AOper :=
 [oM 46 0,
 oM 47 10,
 oI 48 46 47 6,
 oF 49 48 4,
 oL 50 49,
 oK 51 .lss 50 0,
 oM 52 51,
 oMf 53 52 0,
 oMf 54 52 10,
 oIf 55 52 53 54 6,
 oFf 56 52 55 4,
 oLf 57 52 56,
 oMf 58 52 2,
 oBf 59 52 .geq 57 58,
 oT 60 52 59,
 oM 61 60,
 oMf 62 61 1,
 oMf 63 61 10,
 oIf 64 61 62 63 1,
 oLf 65 61 64,
 oKf 66 61 .lss 65 0,
 oT 67 61 66,
 oM 68 67,
 oMf 69 68 1,
 oMf 70 68 10,
 oIf 71 68 69 70 1,
 oLf 72 68 71,
 oKf 73 68 .gtr 72 1099511627775,
 oT 74 68 73]
def c33r8 : List AOper :=
 [oo 75 (.build [.int .i64 0, .int .i64 0, .int .i64 0, .str [], .nils, .int .i64 0, .str [], .str [], .str [], .bool false, .nils, .str [], .str [], .int .i64 0] []),
 ⟨none, none, .store (.t 6) (.t 75) 14⟩,oo 7 (.mv (.c (.bool false)))]
def c33d0 : List (AOper × List Nat) :=
 [(oM 76 8, []),
 (oM 77 0, []),
 (oM 78 10, []),
 (oI 79 77 78 6, [1, 2]),
 (oF 80 79 4, [3]),
 (oL 81 80, [4]),
 (oM 82 8, []),
 (oM 83 0, []),
 (oM 84 10, []),
 (oI 85 83 84 6, [7, 8]),
 (oF 86 85 4, [9]),
 (oL 87 86, [10]),
 (oI 88 82 87 1, [6, 11]),
 (oL 89 88, [12]),
 (oM 90 1, []),
 (oM 91 10, []),
 (oI 92 90 91 1, [14, 15]),
 (oL 93 92, [16]),
 (oB 94 .add 89 93, [13, 17]),
 (oI 95 76 81 1, [0, 5, 0, 1, 2, 3, 4, 5, 6, 7, 8, 9, 10, 11, 12, 13, 14, 15, 16, 17, 18]),
 (⟨none, none, .store (.t 95) (.t 94) 1⟩, [19, 18, 0, 1, 2, 3, 4, 5, 6, 7, 8, 9, 10, 11, 12, 13, 14, 15, 16, 17, 18])]
def c33r9 : List AOper :=
 [oM 96 9,
 oM 97 0,
 oM 98 10,
 oI 99 97 98 6,
 oF 100 99 4,
 oL 101 100,
 oI 102 96 101 1,
 oL 103 102,
 oK 104 .add 103 1,
 oI 105 96 101 1,
 ⟨none, none, .store (.t 105) (.t 104) 1⟩]
def c33r10 : List AOper :=
 [oM 44 10,
 oK 45 .add 44 1,
 oM 10 45]
def c33l0 : AC := (.seq (.seq (.region c33r6) (.cond (.t 43) .skip (.exit 0))) (.seq (.block 1 (.seq (.seq (.region c33r7) (.cond (.t 74) (.seq (.region c33r8) .ret) .skip)) (.seq (.drawn c33d0) (.region c33r9)))) (.region c33r10)))
def c33r11 : List AOper :=
 [oV 11 0,
 oV 12 0]
def c33r12 : List AOper :=
 [oV 13 0]
def c33r13 : List AOper :=
 [oM 106 13,
 oM 107 2,
 oB 108 .lss 106 107]
def c33d1 : List (AOper × List Nat) :=
 [(oM 111 8, []),
 (oM 112 13, []),
 (oI 113 111 112 1, [0, 1]),
 (oL 114 113, [2]),
 (oM 115 8, []),
 (oM 116 11, []),
 (oI 117 115 116 1, [4, 5]),
 (oL 118 117, [6]),
 (oB 119 .gtr 114 118, [3, 7])]
def c33r14 : List AOper :=
 [oM 120 13,
 oM 11 120]
def c33d2 : List (AOper × List Nat) :=
 [(oM 121 8, []),
 (oM 122 13, []),
 (oI 123 121 122 1, [0, 1]),
 (oL 124 123, [2]),
 (oM 125 8, []),
 (oM 126 12, []),
 (oI 127 125 126 1, [4, 5]),
 (oL 128 127, [6]),
 (oB 129 .lss 124 128, [3, 7])]
def c33r15 : List AOper :=
 [oM 130 13,
 oM 12 130]
def c33r16 : List AOper :=
 [oM 109 13,
 oK 110 .add 109 1,
 oM 13 110]
def c33l1 : AC := (.seq (.seq (.region c33r13) (.cond (.t 108) .skip (.exit 2))) (.seq (.block 3 (.seq (.seq (.drawn c33d1) (.cond (.t 119) (.region c33r14) .skip)) (.seq (.drawn c33d2) (.cond (.t 129) (.region c33r15) .skip)))) (.region c33r16)))
def c33d3 : List (AOper × List Nat) :=
 [(oM 131 8, []),
 (oM 132 11, []),
 (oI 133 131 132 1, [0, 1]),
 (oL 134 133, [2]),
 (oM 135 8, []),
 (oM 136 12, []),
 (oI 137 135 136 1, [4, 5]),
 (oL 138 137, [6]),
 (oo 139 (.bin .mul (.c (.int .i64 2)) (.t 138)), [7]),
 (oK 140 .add 139 8, [8]),
 (oB 141 .leq 134 140, [3, 9])]
def c33r17 : List AOper :=
 [oo 142 (.build [.int .i64 0, .int .i64 0, .int .i64 0, .str [], .nils, .int .i64 0, .str [], .str [], .str [], .bool false, .nils, .str [], .str [], .int .i64 0] []),
 ⟨none, none, .store (.t 6) (.t 142) 14⟩,oo 7 (.mv (.c (.bool false)))]
def c33r18 : List AOper :=
 [oo 14 (.mv (.c (.int .i64 (-1))))]
def c33r19 : List AOper :=
 [oV 15 0]
def c33r20 : List AOper :=
 [oM 143 15,
 oM 144 0,
 oG 145 144,
 oB 146 .lss 143 145]
def c33d4 : List (AOper × List Nat) :=
 [(oM 149 0, []),
 (oM 150 15, []),
 (oI 151 149 150 6, [0, 1]),
 (oF 152 151 4, [2]),
 (oL 153 152, [3]),
 (oM 154 11, []),
 (oB 155 .eql 153 154, [4, 5]),
 (oM 156 155, [6]),
 (oMt 157 156 14, [7]),
 (oKt 158 156 .lss 157 0, [8, 7]),
 (oMt 159 156 158, [9, 7, 7]),
 (oMf 160 159 1, [10]),
 (oMf 161 159 15, [10]),
 (oIf 162 159 160 161 1, [11, 12, 10]),
 (oLf 163 159 162, [13, 10]),
 (oMf 164 159 1, [10]),
 (oMf 165 159 14, [10]),
 (oIf 166 159 164 165 1, [15, 16, 10]),
 (oLf 167 159 166, [17, 10]),
 (oBf 168 159 .gtr 163 167, [14, 18, 10]),
 (oTt 169 156 159 168, [10, 19, 7]),
 (oP 170 156 169, [7, 20])]
def c33r21 : List AOper :=
 [oM 171 15,
 oM 14 171]
def c33r22 : List AOper :=
 [oM 147 15,
 oK 148 .add 147 1,
 oM 15 148]
def c33l2 : AC := (.seq (.seq (.region c33r20) (.cond (.t 146) .skip (.exit 4))) (.seq (.block 5 (.seq (.drawn c33d4) (.cond (.t 170) (.region c33r21) .skip))) (.region c33r22)))
def c33r23 : List AOper :=
 [oM 172 0,
 oM 173 14,
 oI 174 172 173 6,
 oF 175 174 1,
 oF 176 175 0,
 oL 177 176,
 oo 178 (.build [.int .i64 0, .int .i64 0, .int .i64 0, .str [], .nils, .int .i64 0, .str [], .str [], .str [], .bool false, .nils, .str [], .str [], .int .i64 0] [(0, 1, .c (.int .i64 2)), (3, 1, .t 177)]),
 oo 16 (.alloc [.int .i64 0, .int .i64 0, .int .i64 0, .str [], .nils, .int .i64 0, .str [], .str [], .str [], .bool false, .nils, .str [], .str [], .int .i64 0]),
 ⟨none, none, .store (.t 16) (.t 178) 14⟩]
def c33r24 : List AOper :=
 [oF 179 16 3,
 oL 180 179,
 oo 181 (.bin .eql (.t 180) (.c (.str [])))]
def c33r25 : List AOper :=
 [oF 182 16 3,
 ⟨none, none, .store (.t 182) (.c (.str [0])) 1⟩]
def c33d5 : List (AOper × List Nat) :=
 [(oM 183 9, []),
 (oM 184 11, []),
 (oI 185 183 184 1, [0, 1]),
 (oL 186 185, [2]),
 (oK 187 .gtr 186 1, [3]),
 (oM 188 187, [4]),
 (oMt 189 188 1, [5]),
 (oMt 190 188 14, [5]),
 (oIt 191 188 189 190 1, [6, 7, 5]),
 (oLt 192 188 191, [8, 5]),
 (oMt 193 188 8, [5]),
 (oMt 194 188 12, [5]),
 (oIt 195 188 193 194 1, [10, 11, 5]),
 (oLt 196 188 195, [12, 5]),
 (oBt 197 188 .add 192 196, [9, 13, 5]),
 (oMt 198 188 8, [5]),
 (oMt 199 188 11, [5]),
 (oIt 200 188 198 199 1, [15, 16, 5]),
 (oLt 201 188 200, [17, 5]),
 (oBt 202 188 .lss 197 201, [14, 18, 5]),
 (oP 203 188 202, [5, 19])]
def c33r26 : List AOper :=
 [oF 204 16 0,
 ⟨none, none, .store (.t 204) (.c (.int .i64 4)) 1⟩]
def c33r27 : List AOper :=
 [oM 205 12,
 oF 206 16 2,
 ⟨none, none, .store (.t 206) (.t 205) 1⟩]
def c33r28 : List AOper :=
 [oS 207 16 14,
 ⟨none, none, .store (.t 6) (.t 207) 14⟩,oo 7 (.mv (.c (.bool true)))]
def c33 : AC := (.seq (.region c33r0) (.seq (.seq (.region c33r1) (.cond (.t 34) (.seq (.region c33r2) .ret) .skip)) (.seq (.region c33r3) (.seq (.region c33r4) (.seq (.seq (.region c33r5) (.block 0 (.loop c33l0))) (.seq (.region c33r11) (.seq (.seq (.region c33r12) (.block 2 (.loop c33l1))) (.seq (.seq (.drawn c33d3) (.cond (.t 141) (.seq (.region c33r17) .ret) .skip)) (.seq (.region c33r18) (.seq (.seq (.region c33r19) (.block 4 (.loop c33l2))) (.seq (.region c33r23) (.seq (.seq (.region c33r24) (.cond (.t 181) (.region c33r25) .skip)) (.seq (.seq (.drawn c33d5) (.cond (.t 203) (.seq (.region c33r26) (.region c33r27)) .skip)) (.seq (.region c33r28) .ret))))))))))))))
def r33 : List ARes := [.cell 6 (some 14), .tmp 7]
theorem c33_ok : Tryz.f33.body.bind (cCode Tryz.prog Tryz.f33.ntmps) = some c33 := by kernel_rfl
theorem r33_ok : Tryz.f33.results.toList.mapM (cRes Tryz.prog Tryz.f33.ntmps) = some r33 := by kernel_rfl
def c34r0 : List AOper :=
 [oo 2 (.box (.t 0)),
 oo 3 (.box (.t 1)),
 oo 4 (.mv (.c .nilp)),
 oV 5 0]
def c34r1 : List AOper :=
 [oL 9 2,
 oo 10 (.call (.c (.fn 68 [])) [.t 9]),
 oU 11 10,
 oM 12 11,
 oLf 13 12 3,
 oKf 14 12 .lss 13 0,
 oT 15 12 14,
 oM 16 15,
 oLf 17 16 3,
 oKf 18 16 .gtr 17 1048576,
 oT 19 16 18,
 oM 8 19]
def c34r2 : List AOper :=
 [oo 4 (.mv (.c .nilp)),
 oV 5 1]
def c34r3 : List AOper :=
 [oL 21 2,
 oo 22 (.call (.c (.fn 17 [])) [.t 21]),
 oM 20 22]
def c34r4 : List AOper :=
 [oo 4 (.mv (.c .nilp)),
 oV 5 50]
def c34r5 : List AOper :=
 [oL 23 2,
 oL 24 3,
 oo 25 (.build [.nilp, .nils, .int .i64 0] [(0, 1, .t 23), (2, 1, .t 24)]),
 oo 26 (.box (.t 25)),
 oo 6 (.alloc [.nilp]),
 ⟨none, none, .store (.t 6) (.t 26) 1⟩]
def c34r6 : List AOper :=
 [oL 27 2,
 oo 28 (.mkf 70 [.t 3, .t 2, .t 6]),
 oo 29 (.call (.c (.fn 69 [])) [.t 27, .t 28]),
 oM 7 29]
def c34r7 : List AOper :=
 [oM 30 7,
 oK 31 .eql 30 0,
 oM 32 31,
 oLt 33 32 6,
 oNt 34 32 33,
 oFt 35 32 34 2,
 oLt 36 32 35,
 oKt 37 32 .gtr 36 99999998,
 oP 38 32 37]
def c34r8 : List AOper :=
 [oV 7 2]
def c34r9 : List AOper :=
 [oM 39 7,
 oK 40 .eql 39 0]
def c34d0 : List (AOper × List Nat) :=
 [(oL 41 2, []),
 (oL 42 6, []),
 (oN 43 42, [1]),
 (oF 44 43 2, [2]),
 (oL 45 44, [3]),
 (oo 46 (.call (.c (.fn 72 [])) [.t 45]), [4]),
 (oo 47 (.call (.c (.fn 75 [])) [.t 41, .t 46]), [0, 5, 5]),
 (oM 7 47, [6, 6, 0, 1, 2, 3, 4, 5, 6])]
def c34r10 : List AOper :=
 [oM 48 7,
 oK 49 .neq 48 0]
def c34r11 : List AOper :=
 [oM 50 7,
 oo 4 (.mv (.c .nilp)),
 oM 5 50]
def c34r12 : List AOper :=
 [oL 51 6,
 oM 4 51,
 oV 5 0]
def c34 : AC := (.seq (.region c34r0) (.seq (.block 0 (.seq (.region c34r1) (.cond (.t 8) (.seq (.region c34r2) .ret) (.seq (.region c34r3) (.cond (.t 20) (.seq (.region c34r4) .ret) .skip))))) (.seq (.region c34r5) (.seq (.region c34r6) (.seq (.seq (.region c34r7) (.cond (.t 38) (.region c34r8) .skip)) (.seq (.seq (.region c34r9) (.cond (.t 40) (.drawn c34d0) .skip)) (.seq (.seq (.region c34r10) (.cond (.t 49) (.seq (.region c34r11) .ret) .skip)) (.seq (.region c34r12) .ret))))))))
def r34 : List ARes := [.tmp 4, .tmp 5]
theorem c34_ok : Tryz.f34.body.bind (cCode Tryz.prog Tryz.f34.ntmps) = some c34 := by kernel_rfl
theorem r34_ok : Tryz.f34.results.toList.mapM (cRes Tryz.prog Tryz.f34.ntmps) = some r34 := by kernel_rfl
def c35r0 : List AOper :=
 [oo 2 (.mv (.c .nils))]
def c35r1 : List AOper :=
 [oM 6 0,
 oo 7 (.call (.c (.fn 76 [])) [.t 6]),
 oU 8 7]
def c35r2 : List AOper :=
 [oo 2 (.mv (.c .nils))]
def c35r3 : List AOper :=
 [oo 3 (.mv (.c .nils))]
def c35r4 : List AOper :=
 [oM 9 0,
 oN 10 9,
 oF 11 10 1,
 oL 12 11,
 oG 13 12,
 oV 14 0]
def c35r5 : List AOper :=
 [oB 15 .lss 14 13]
def c35r6 : List AOper :=
 [oI 16 12 14 2,
 oS 17 16 2,
 oo 5 (.alloc [.str [], .int .i64 0]),
 ⟨none, none, .store (.t 5) (.t 17) 2⟩]
def c35r7 : List AOper :=
 [oM 18 3,
 oF 19 5 0,
 oL 20 19,
 oo 21 (.bslice 1 1 [.str []] [(0, .t 20)]),
 oo 22 (.append (.t 18) (.t 21) 1 16 false),
 oM 3 22]
def c35r8 : List AOper :=
 [oK 23 .add 14 1,
 oM 14 23]
def c35l0 : AC := (.seq (.region c35r5) (.seq (.cond (.t 15) .skip (.exit 0)) (.seq (.block 1 (.seq (.region c35r6) (.region c35r7))) (.region c35r8))))
def c35r9 : List AOper :=
 [oM 24 3,
 oM 2 24]
def c35 : AC := (.seq (.region c35r0) (.seq (.seq (.region c35r1) (.cond (.t 8) (.seq (.region c35r2) .ret) .skip)) (.seq (.region c35r3) (.seq (.seq (.region c35r4) (.block 0 (.loop c35l0))) (.seq (.region c35r9) .ret)))))
def r35 : List ARes := [.tmp 2]
theorem c35_ok : Tryz.f35.body.bind (cCode Tryz.prog Tryz.f35.ntmps) = some c35 := by kernel_rfl
theorem r35_ok : Tryz.f35.results.toList.mapM (cRes Tryz.prog Tryz.f35.ntmps) = some r35 := by kernel_rfl
def c38r0 : List AOper :=
 [oo 2 (.box (.t 0)),
 oo 3 (.box (.t 1)),
 oV 4 0]
def c38d0 : List (AOper × List Nat) :=
 [(oL 6 2, []),
 (oo 7 (.call (.c (.fn 76 [])) [.t 6]), [0]),
 (oU 8 7, [1]),
 (oM 9 8, [2, 1]),
 (oLf 10 9 3, [3]),
 (oLf 11 9 2, [3]),
 (oNf 12 9 11, [5, 3]),
 (oFf 13 9 12 2, [6, 3]),
 (oLf 14 9 13, [7, 3]),
 (oBf 15 9 .gtr 10 14, [4, 8, 3]),
 (oT 16 9 15, [3, 9])]
def c38r1 : List AOper :=
 [oV 4 1]
def c38r2 : List AOper :=
 [oL 17 2,
 oN 18 17,
 oF 19 18 0,
 oL 20 19,
 oo 21 (.mkf 82 [.t 3, .t 2]),
 oo 22 (.call (.c (.fn 69 [])) [.t 20, .t 21]),
 oM 5 22]
def c38r3 : List AOper :=
 [oM 23 5,
 oK 24 .eql 23 0]
def c38d1 : List (AOper × List Nat) :=
 [(oL 25 2, []),
 (oL 26 2, []),
 (oN 27 26, [1]),
 (oF 28 27 1, [2]),
 (oL 29 28, [3]),
 (oo 30 (.mkf 84 [.t 3]), []),
 (oo 31 (.call (.c (.fn 83 [])) [.t 29, .t 30]), [4, 5]),
 (oN 32 25, [0, 0, 1, 2, 3, 4, 5, 6]),
 (oF 33 32 1, [7, 0, 1, 2, 3, 4, 5, 6]),
 (⟨none, none, .store (.t 33) (.t 31) 1⟩, [8, 6, 6, 0, 1, 2, 3, 4, 5, 6])]
def c38r4 : List AOper :=
 [oM 34 5,
 oM 4 34]
def c38 : AC := (.seq (.region c38r0) (.seq (.seq (.drawn c38d0) (.cond (.t 16) (.seq (.region c38r1) .ret) .skip)) (.seq (.region c38r2) (.seq (.seq (.region c38r3) (.cond (.t 24) (.drawn c38d1) .skip)) (.seq (.region c38r4) .ret)))))
def r38 : List ARes := [.tmp 4]
theorem c38_ok : Tryz.f38.body.bind (cCode Tryz.prog Tryz.f38.ntmps) = some c38 := by kernel_rfl
theorem r38_ok : Tryz.f38.results.toList.mapM (cRes Tryz.prog Tryz.f38.ntmps) = some r38 := by kernel_rfl
def c39r0 : List AOper :=
 [oV 2 0]
def c39r1 : List AOper :=
 [oM 3 0,
 oo 4 (.call (.c (.fn 76 [])) [.t 3]),
 oU 5 4]
def c39r2 : List AOper :=
 [oV 2 0]
def c39r3 : List AOper :=
 [oM 6 0,
 oN 7 6,
 oF 8 7 2,
 oL 9 8,
 oM 2 9]
def c39 : AC := (.seq (.region c39r0) (.seq (.seq (.region c39r1) (.cond (.t 5) (.seq (.region c39r2) .ret) .skip)) (.seq (.region c39r3) .ret)))
def r39 : List ARes := [.tmp 2]
theorem c39_ok : Tryz.f39.body.bind (cCode Tryz.prog Tryz.f39.ntmps) = some c39 := by kernel_rfl
theorem r39_ok : Tryz.f39.results.toList.mapM (cRes Tryz.prog Tryz.f39.ntmps) = some r39 := by kernel_rfl
def c44r0 : List AOper :=
 [oo 4 (.mv (.c (.bool false)))]
def c44r1 : List AOper :=
 [oM 8 0,
 oo 9 (.eq false 1 (.t 8) (.c .nilp)),
 oM 10 9,
 oMf 11 10 0,
 oNf 12 10 11,
 oFf 13 10 12 0,
 oLf 14 10 13,
 oof 15 10 (.eq false 4 (.t 14) (.c .nilm)),
 oT 16 10 15]
def c44r2 : List AOper :=
 [oo 4 (.mv (.c (.bool false)))]
def c44r3 : List AOper :=
 [oo 5 (.mv (.c (.fn 85 [])))]
def c44r4 : List AOper :=
 [oM 17 1,
 oG 18 17,
 oV 19 0]
def c44r5 : List AOper :=
 [oB 20 .lss 19 18]
def c44r6 : List AOper :=
 [oI 21 17 19 1,
 oL 22 21,
 oM 7 22]
def c44r7 : List AOper :=
 [oM 23 7,
 oo 24 (.bin .eql (.t 23) (.c (.str []))),
 oM 25 24,
 oMf 26 25 7,
 oof 27 25 (.lenS (.t 26)),
 oKf 28 25 .gtr 27 32,
 oT 29 25 28,
 oM 30 29,
 oMf 31 30 7,
 oMf 32 30 5,
 oof 33 30 (.call (.c (.fn 86 [])) [.t 31, .t 32]),
 oKf 34 30 .geq 33 0,
 oT 35 30 34]
def c44r8 : List AOper :=
 [oo 4 (.mv (.c (.bool false)))]
def c44r9 : List AOper :=
 [oK 36 .add 19 1,
 oM 19 36]
def c44l0 : AC := (.seq (.region c44r5) (.seq (.cond (.t 20) .skip (.exit 0)) (.seq (.block 1 (.seq (.region c44r6) (.seq (.region c44r7) (.cond (.t 35) (.seq (.region c44r8) .ret) .skip)))) (.region c44r9))))
def c44r10 : List AOper :=
 [oo 4 (.mv (.c (.bool true)))]
def c44 : AC := (.seq (.region c44r0) (.seq (.seq (.region c44r1) (.cond (.t 16) (.seq (.region c44r2) .ret) .skip)) (.seq (.region c44r3) (.seq (.seq (.region c44r4) (.block 0 (.loop c44l0))) (.seq (.region c44r10) .ret)))))
def r44 : List ARes := [.tmp 4]
theorem c44_ok : Tryz.f44.body.bind (cCode Tryz.prog Tryz.f44.ntmps) = some c44 := by kernel_rfl
theorem r44_ok : Tryz.f44.results.toList.mapM (cRes Tryz.prog Tryz.f44.ntmps) = some r44 := by kernel_rfl
def c45r0 : List AOper :=
 [oo 2 (.mv (.c .nils))]
def c45r1 : List AOper :=
 [oM 3 0,
 oo 4 (.call (.c (.fn 44 [])) [.t 3, .c .nils]),
 oU 5 4]
def c45r2 : List AOper :=
 [oo 2 (.mv (.c .nils))]
def c45r3 : List AOper :=
 [oM 6 0,
 oN 7 6,
 oF 8 7 0,
 oL 9 8,
 oo 10 (.call (.c (.fn 88 [])) [.t 9]),
 oo 11 (.call (.c (.fn 87 [])) [.t 10]),
 oM 2 11]
def c45 : AC := (.seq (.region c45r0) (.seq (.seq (.region c45r1) (.cond (.t 5) (.seq (.region c45r2) .ret) .skip)) (.seq (.region c45r3) .ret)))
def r45 : List ARes := [.tmp 2]
theorem c45_ok : Tryz.f45.body.bind (cCode Tryz.prog Tryz.f45.ntmps) = some c45 := by kernel_rfl
theorem r45_ok : Tryz.f45.results.toList.mapM (cRes Tryz.prog Tryz.f45.ntmps) = some r45 := by kernel_rfl
def c47r0 : List AOper :=
 [oV 4 0,
 oV 5 0]
def c47r1 : List AOper :=
 [oM 9 0,
 oM 10 1,
 oo 11 (.call (.c (.fn 89 [])) [.t 9, .t 10]),
 oM 8 11,
 oE 12 8 0,
 oE 13 8 1,
 oM 6 12,
 oM 7 13]
def c47r2 : List AOper :=
 [oM 14 7,
 oK 15 .neq 14 0]
def c47r3 : List AOper :=
 [oM 16 7,
 oV 4 0,
 oM 5 16]
def c47r4 : List AOper :=
 [oM 17 6,
 oN 18 17,
 oF 19 18 1,
 oL 20 19,
 oM 4 20,
 oV 5 0]
def c47 : AC := (.seq (.region c47r0) (.seq (.region c47r1) (.seq (.seq (.region c47r2) (.cond (.t 15) (.seq (.region c47r3) .ret) .skip)) (.seq (.region c47r4) .ret))))
def r47 : List ARes := [.tmp 4, .tmp 5]
theorem c47_ok : Tryz.f47.body.bind (cCode Tryz.prog Tryz.f47.ntmps) = some c47 := by kernel_rfl
theorem r47_ok : Tryz.f47.results.toList.mapM (cRes Tryz.prog Tryz.f47.ntmps) = some r47 := by kernel_rfl
def c48r0 : List AOper :=
 [oo 4 (.alloc [.nils, .int .i64 0, .int .i64 0, .int .i64 0, .int .i64 0, .int .i64 0, .int .i64 0, .int .i64 0, .int .i64 0]),
 oo 5 (.mv (.c (.bool false)))]
def c48r1 : List AOper :=
 [oM 11 0,
 oo 12 (.call (.c (.fn 90 [])) [.t 11]),
 oM 10 12,
 oE 13 10 0,
 oE 14 10 1,
 oo 6 (.alloc [.int .i64 0, .int .i64 0, .int .i64 0, .int .i64 0, .int .i64 0, .int .i64 0, .int .i64 0, .bool false, .int .i64 0, .str [], .str [], .str [], .bool false, .nils, .str [], .str [], .int .i64 0, .int .i64 0, .str [], .bool false, .nils, .str [], .nils, .nils, .nils]),
 ⟨none, none, .store (.t 6) (.t 13) 25⟩,oM 7 14]
def c48r2 : List AOper :=
 [oM 15 7,
 oK 16 .neq 15 0]
def c48r3 : List AOper :=
 [oo 17 (.build [.nils, .int .i64 0, .int .i64 0, .int .i64 0, .int .i64 0, .int .i64 0, .int .i64 0, .int .i64 0, .int .i64 0] []),
 ⟨none, none, .store (.t 4) (.t 17) 9⟩,oo 5 (.mv (.c (.bool false)))]
def c48r4 : List AOper :=
 [oF 18 6 22,
 oL 19 18,
 oF 20 6 6,
 oL 21 20,
 oF 22 6 3,
 oL 23 22,
 oF 24 6 5,
 oL 25 24,
 oF 26 6 8,
 oF 27 26 0,
 oL 28 27,
 oF 29 6 8,
 oF 30 29 8,
 oL 31 30,
 oF 32 6 1,
 oL 33 32,
 oF 34 6 2,
 oL 35 34,
 oF 36 6 4,
 oL 37 36,
 oo 38 (.build [.nils, .int .i64 0, .int .i64 0, .int .i64 0, .int .i64 0, .int .i64 0, .int .i64 0, .int .i64 0, .int .i64 0] [(0, 1, .t 19), (1, 1, .t 21), (2, 1, .t 23), (3, 1, .t 25), (4, 1, .t 28), (5, 1, .t 31), (6, 1, .t 33), (7, 1, .t 35), (8, 1, .t 37)]),
 oo 8 (.alloc [.nils, .int .i64 0, .int .i64 0, .int .i64 0, .int .i64 0, .int .i64 0, .int .i64 0, .int .i64 0, .int .i64 0]),
 ⟨none, none, .store (.t 8) (.t 38) 9⟩]
def c48r5 : List AOper :=
 [oF 39 8 4,
 oL 40 39,
 oK 41 .eql 40 0,
 oM 42 41,
 oFf 43 42 8 4,
 oLf 44 42 43,
 oKf 45 42 .eql 44 5,
 oT 46 42 45,
 oM 47 46,
 oFf 48 47 8 4,
 oLf 49 47 48,
 oKf 50 47 .eql 49 6,
 oT 51 47 50,
 oM 52 51,
 oFf 53 52 8 4,
 oLf 54 52 53,
 oKf 55 52 .eql 54 7,
 oT 56 52 55,
 oM 9 56]
def c48r6 : List AOper :=
 [oM 57 9,
 oU 58 57,
 oM 59 58,
 oSf 60 59 8 9,
 oof 61 59 (.call (.c (.fn 91 [])) [.t 60]),
 oMf 62 59 0,
 oBf 63 59 .neq 61 62,
 oT 64 59 63,
 oM 65 64,
 oFf 66 65 8 0,
 oLf 67 65 66,
 oMf 68 65 1,
 oof 69 65 (.call (.c (.fn 92 [])) [.t 67, .t 68]),
 oUf 70 65 69,
 oT 71 65 70,
 oM 72 71,
 oSf 73 72 8 9,
 oMf 74 72 1,
 oof 75 72 (.call (.c (.fn 93 [])) [.t 73, .t 74]),
 oUf 76 72 75,
 oT 77 72 76]
def c48r7 : List AOper :=
 [oo 78 (.build [.nils, .int .i64 0, .int .i64 0, .int .i64 0, .int .i64 0, .int .i64 0, .int .i64 0, .int .i64 0, .int .i64 0] []),
 ⟨none, none, .store (.t 4) (.t 78) 9⟩,oo 5 (.mv (.c (.bool false)))]
def c48r8 : List AOper :=
 [oS 79 8 9,
 ⟨none, none, .store (.t 4) (.t 79) 9⟩,oo 5 (.mv (.c (.bool true)))]
def c48 : AC := (.seq (.region c48r0) (.seq (.region c48r1) (.seq (.seq (.region c48r2) (.cond (.t 16) (.seq (.region c48r3) .ret) .skip)) (.seq (.region c48r4) (.seq (.region c48r5) (.seq (.seq (.region c48r6) (.cond (.t 77) (.seq (.region c48r7) .ret) .skip)) (.seq (.region c48r8) .ret)))))))
def r48 : List ARes := [.cell 4 (some 9), .tmp 5]
theorem c48_ok : Tryz.f48.body.bind (cCode Tryz.prog Tryz.f48.ntmps) = some c48 := by kernel_rfl
theorem r48_ok : Tryz.f48.results.toList.mapM (cRes Tryz.prog Tryz.f48.ntmps) = some r48 := by kernel_rfl
def c49r0 : List AOper :=
 [oo 1 (.box (.t 0)),
 oo 2 (.alloc [.nils, .int .i64 0, .int .i64 0, .int .i64 0, .int .i64 0, .int .i64 0, .int .i64 0, .int .i64 0, .int .i64 0])]
def c49r1 : List AOper :=
 [oF 3 1 1,
 oL 4 3,
 oK 5 .add 4 2,
 oF 6 1 1,
 ⟨none, none, .store (.t 6) (.t 5) 1⟩]
def c49r2 : List AOper :=
 [oF 7 1 2,
 oL 8 7,
 oK 9 .add 8 1,
 oF 10 1 2,
 ⟨none, none, .store (.t 10) (.t 9) 1⟩]
def c49r3 : List AOper :=
 [oF 11 1 3,
 oL 12 11,
 oK 13 .add 12 2,
 oF 14 1 3,
 ⟨none, none, .store (.t 14) (.t 13) 1⟩]
def c49r4 : List AOper :=
 [oF 15 1 5,
 ⟨none, none, .store (.t 15) (.c (.int .i64 1)) 1⟩]
def c49r5 : List AOper :=
 [oS 16 1 9,
 ⟨none, none, .store (.t 2) (.t 16) 9⟩]
def c49 : AC := (.seq (.region c49r0) (.seq (.region c49r1) (.seq (.region c49r2) (.seq (.region c49r3) (.seq (.region c49r4) (.seq (.region c49r5) .ret))))))
def r49 : List ARes := [.cell 2 (some 9)]
theorem c49_ok : Tryz.f49.body.bind (cCode Tryz.prog Tryz.f49.ntmps) = some c49 := by kernel_rfl
theorem r49_ok : Tryz.f49.results.toList.mapM (cRes Tryz.prog Tryz.f49.ntmps) = some r49 := by kernel_rfl
def c50r0 : List AOper :=
 [oo 3 (.box (.t 1)),
 oV 4 0]
def c50r1 : List AOper :=
 [oV 5 0]
def c50r2 : List AOper :=
 [oM 9 0,
 oN 10 9,
 oF 11 10 2,
 oL 12 11,
 oK 13 .geq 12 16]
def c50r3 : List AOper :=
 [oM 15 0,
 oN 16 15,
 oF 17 16 0,
 oL 18 17,
 oo 19 (.call (.c (.fn 43 [])) [.t 18]),
 oM 14 19,
 oE 20 14 0,
 oE 21 14 1,
 oM 6 20,
 oM 7 21]
def c50r4 : List AOper :=
 [oM 22 7,
 oK 23 .neq 22 0]
def c50r5 : List AOper :=
 [oM 24 7,
 oM 4 24]
def c50r6 : List AOper :=
 [oM 25 0,
 oM 26 6,
 oN 27 25,
 oF 28 27 2,
 ⟨none, none, .store (.t 28) (.c (.int .i64 0)) 1⟩,oM 5 26]
def c50d0 : List (AOper × List Nat) :=
 [(oM 29 0, []),
 (oN 30 29, [0]),
 (oF 31 30 0, [1]),
 (oL 32 31, [2]),
 (oS 33 3 9, []),
 (oo 34 (.call (.c (.fn 91 [])) [.t 33]), [4]),
 (oo 35 (.call (.c (.fn 79 [])) [.t 32, .t 34]), [3, 5, 5]),
 (oM 8 35, [6, 6, 0, 1, 2, 3, 4, 5, 6])]
def c50r7 : List AOper :=
 [oM 36 8,
 oK 37 .eql 36 0]
def c50r8 : List AOper :=
 [oM 38 0,
 oN 39 38,
 oF 40 39 0,
 oL 41 40,
 oo 42 (.call (.c (.fn 81 [])) [.t 41]),
 oM 8 42]
def c50r9 : List AOper :=
 [oM 43 8,
 oK 44 .eql 43 0,
 oM 45 44,
 oMt 46 45 5,
 oKt 47 45 .gtr 46 0,
 oP 48 45 47]
def c50r10 : List AOper :=
 [oM 49 0,
 oN 50 49,
 oF 51 50 0,
 oL 52 51,
 oM 53 5,
 oo 54 (.call (.c (.fn 38 [])) [.t 52, .t 53]),
 oM 8 54]
def c50r11 : List AOper :=
 [oM 55 8,
 oK 56 .eql 55 0]
def c50r12 : List AOper :=
 [oM 57 0,
 oS 58 3 9,
 oN 59 57,
 oF 60 59 3,
 ⟨none, none, .store (.t 60) (.t 58) 9⟩]
def c50r13 : List AOper :=
 [oM 61 0,
 oN 62 61,
 oF 63 62 2,
 oL 64 63,
 oK 65 .add 64 1,
 oN 66 61,
 oF 67 66 2,
 ⟨none, none, .store (.t 67) (.t 65) 1⟩]
def c50r14 : List AOper :=
 [oM 68 8,
 oM 4 68]
def c50 : AC := (.seq (.region c50r0) (.seq (.region c50r1) (.seq (.seq (.region c50r2) (.cond (.t 13) (.seq (.region c50r3) (.seq (.seq (.region c50r4) (.cond (.t 23) (.seq (.region c50r5) .ret) .skip)) (.region c50r6))) .skip)) (.seq (.drawn c50d0) (.seq (.seq (.region c50r7) (.cond (.t 37) (.region c50r8) .skip)) (.seq (.seq (.region c50r9) (.cond (.t 48) (.region c50r10) .skip)) (.seq (.seq (.region c50r11) (.cond (.t 56) (.seq (.region c50r12) (.region c50r13)) .skip)) (.seq (.region c50r14) .ret))))))))
def r50 : List ARes := [.tmp 4]
theorem c50_ok : Tryz.f50.body.bind (cCode Tryz.prog Tryz.f50.ntmps) = some c50 := by kernel_rfl
theorem r50_ok : Tryz.f50.results.toList.mapM (cRes Tryz.prog Tryz.f50.ntmps) = some r50 := by kernel_rfl
def c51r0 : List AOper :=
 [oo 5 (.box (.t 2)),
 oo 6 (.alloc [.nils, .int .i64 0, .int .i64 0, .int .i64 0, .int .i64 0, .int .i64 0, .int .i64 0, .int .i64 0, .int .i64 0]),
 oo 7 (.mv (.c (.bool false)))]
def c51r1 : List AOper :=
 [oM 15 0,
 oN 16 15,
 oF 17 16 3,
 oS 18 17 9,
 oo 8 (.alloc [.nils, .int .i64 0, .int .i64 0, .int .i64 0, .int .i64 0, .int .i64 0, .int .i64 0, .int .i64 0, .int .i64 0]),
 ⟨none, none, .store (.t 8) (.t 18) 9⟩]
def c51r2 : List AOper :=
 [oS 19 8 9,
 oF 20 8 6,
 oL 21 20,
 oo 22 (.call (.c (.fn 94 [])) [.t 19, .t 21]),
 oM 9 22]
def c51r3 : List AOper :=
 [oF 23 8 0,
 oL 24 23,
 oM 25 9,
 oI 26 24 25 6,
 oS 27 26 6,
 oo 10 (.alloc [.int .i64 0, .str [], .str [], .int .i64 0, .int .i64 0, .int .i64 0]),
 ⟨none, none, .store (.t 10) (.t 27) 6⟩]
def c51r4 : List AOper :=
 [oM 29 1,
 oF 30 10 4,
 oL 31 30,
 oB 32 .neq 29 31,
 oM 28 32]
def c51r5 : List AOper :=
 [oS 33 8 9,
 ⟨none, none, .store (.t 6) (.t 33) 9⟩,oo 7 (.mv (.c (.bool false)))]
def c51r6 : List AOper :=
 [oS 35 5 25,
 oo 36 (.call (.c (.fn 95 [])) [.t 35, .c (.int .i64 5)]),
 oM 34 36]
def c51r7 : List AOper :=
 [oS 37 8 9,
 oo 38 (.call (.c (.fn 96 [])) [.t 37]),
 ⟨none, none, .store (.t 6) (.t 38) 9⟩,oo 7 (.mv (.c (.bool true)))]
def c51d0 : List (AOper × List Nat) :=
 [(oS 40 5 25, []),
 (oo 41 (.call (.c (.fn 97 [])) [.t 40, .c (.int .i64 5)]), [0]),
 (oU 42 41, [1]),
 (oM 43 42, [2, 1]),
 (oFf 44 43 5 22, [3]),
 (oLf 45 43 44, [4, 3]),
 (oSf 46 43 8 9, [3]),
 (oof 47 43 (.call (.c (.fn 99 [])) [.t 46]), [6, 3, 3]),
 (oof 48 43 (.call (.c (.fn 98 [])) [.t 45, .t 47]), [5, 7, 7, 3]),
 (oUf 49 43 48, [8, 3]),
 (oT 50 43 49, [3, 9]),
 (oM 39 50, [10, 8])]
def c51r8 : List AOper :=
 [oS 51 8 9,
 ⟨none, none, .store (.t 6) (.t 51) 9⟩,oo 7 (.mv (.c (.bool false)))]
def c51d1 : List (AOper × List Nat) :=
 [(oF 53 5 22, []),
 (oL 54 53, [0]),
 (oo 55 (.idxA (.t 54) (.c (.int .i64 0)) none 6), [1]),
 (oF 56 55 1, [2]),
 (oS 57 56 2, [3]),
 (oF 58 5 22, []),
 (oL 59 58, [5]),
 (oo 60 (.idxA (.t 59) (.c (.int .i64 1)) none 6), [6]),
 (oF 61 60 1, [7]),
 (oS 62 61 2, [8]),
 (oo 63 (.call (.c (.fn 100 [])) [.t 57, .t 62]), [4, 9]),
 (oM 52 63, [10]),
 (oE 64 52 0, [11]),
 (oE 65 52 1, [11]),
 (oo 11 (.alloc [.str [], .str []]), []),
 (⟨none, none, .store (.t 11) (.t 64) 2⟩, [14, 12, 10, 0, 1, 2, 3, 4, 5, 6, 7, 8, 9, 10, 11, 12, 14]),
 (oM 12 65, [13, 15, 0, 1, 2, 3, 4, 5, 6, 7, 8, 9, 10, 11, 12, 13, 14, 15])]
def c51r9 : List AOper :=
 [oM 66 12,
 oK 67 .neq 66 0,
 oM 68 67,
 oSf 69 68 11 2,
 oFf 70 68 10 1,
 oSf 71 68 70 2,
 oof 72 68 (.eqG true [2, 2] (.t 69) (.t 71)),
 oT 73 68 72]
def c51r10 : List AOper :=
 [oS 74 8 9,
 ⟨none, none, .store (.t 6) (.t 74) 9⟩,oo 7 (.mv (.c (.bool false)))]
def c51r11 : List AOper :=
 [oS 75 8 9,
 oo 76 (.call (.c (.fn 99 [])) [.t 75]),
 oM 13 76]
def c51r12 : List AOper :=
 [oM 77 13,
 oG 78 77,
 oV 79 0]
def c51r13 : List AOper :=
 [oB 80 .lss 79 78]
def c51r14 : List AOper :=
 [oM 81 79,
 oM 14 81]
def c51d2 : List (AOper × List Nat) :=
 [(oM 82 13, []),
 (oM 83 14, []),
 (oM 84 13, []),
 (oM 85 14, []),
 (oF 86 5 22, []),
 (oL 87 86, [4]),
 (oM 88 14, []),
 (oI 89 87 88 6, [5, 6]),
 (oF 90 89 1, [7]),
 (oS 91 90 2, [8]),
 (oF 92 10 4, []),
 (oL 93 92, [10]),
 (oI 94 82 83 6, [0, 1, 0, 1, 4, 5, 6, 7, 8, 9]),
 (oF 95 94 1, [12, 0, 1, 4, 5, 6, 7, 8, 9]),
 (⟨none, none, .store (.t 95) (.t 91) 2⟩, [13, 9, 0, 1, 4, 5, 6, 7, 8, 9]),
 (oI 96 84 85 6, [2, 3, 0, 1, 2, 3, 4, 5, 6, 7, 8, 9, 10, 11, 12, 13, 14]),
 (oF 97 96 4, [15, 0, 1, 2, 3, 4, 5, 6, 7, 8, 9, 10, 11, 12, 13, 14]),
 (⟨none, none, .store (.t 97) (.t 93) 1⟩, [16, 11, 14, 0, 1, 2, 3, 4, 5, 6, 7, 8, 9, 10, 11, 12, 13, 14])]
def c51r15 : List AOper :=
 [oK 98 .add 79 1,
 oM 79 98]
def c51l0 : AC := (.seq (.region c51r13) (.seq (.cond (.t 80) .skip (.exit 1)) (.seq (.block 2 (.seq (.region c51r14) (.drawn c51d2))) (.region c51r15))))
def c51r16 : List AOper :=
 [oS 99 8 9,
 oM 100 9,
 oM 101 13,
 oo 102 (.call (.c (.fn 101 [])) [.t 99, .t 100, .c (.int .i64 1), .t 101]),
 oo 103 (.call (.c (.fn 96 [])) [.t 102]),
 ⟨none, none, .store (.t 6) (.t 103) 9⟩,oo 7 (.mv (.c (.bool true)))]
def c51 : AC := (.seq (.region c51r0) (.seq (.region c51r1) (.seq (.region c51r2) (.seq (.region c51r3) (.seq (.block 0 (.seq (.region c51r4) (.cond (.t 28) (.seq (.region c51r5) .ret) (.seq (.region c51r6) (.cond (.t 34) (.seq (.region c51r7) .ret) (.seq (.drawn c51d0) (.cond (.t 39) (.seq (.region c51r8) .ret) .skip))))))) (.seq (.seq (.drawn c51d1) (.seq (.region c51r9) (.cond (.t 73) (.seq (.region c51r10) .ret) .skip))) (.seq (.region c51r11) (.seq (.seq (.region c51r12) (.block 1 (.loop c51l0))) (.seq (.region c51r16) .ret)))))))))
def r51 : List ARes := [.cell 6 (some 9), .tmp 7]
theorem c51_ok : Tryz.f51.body.bind (cCode Tryz.prog Tryz.f51.ntmps) = some c51 := by kernel_rfl
theorem r51_ok : Tryz.f51.results.toList.mapM (cRes Tryz.prog Tryz.f51.ntmps) = some r51 := by kernel_rfl
def c53r0 : List AOper :=
 [oo 5 (.box (.t 2)),
 oo 6 (.alloc [.nils, .int .i64 0, .int .i64 0, .int .i64 0, .int .i64 0, .int .i64 0, .int .i64 0, .int .i64 0, .int .i64 0]),
 oo 7 (.mv (.c (.bool false)))]
def c53r1 : List AOper :=
 [oM 13 0,
 oN 14 13,
 oF 15 14 3,
 oS 16 15 9,
 oo 8 (.alloc [.nils, .int .i64 0, .int .i64 0, .int .i64 0, .int .i64 0, .int .i64 0, .int .i64 0, .int .i64 0, .int .i64 0]),
 ⟨none, none, .store (.t 8) (.t 16) 9⟩]
def c53d0 : List (AOper × List Nat) :=
 [(oM 17 1, []),
 (oF 18 8 7, []),
 (oL 19 18, [1]),
 (oB 20 .eql 17 19, [0, 2]),
 (oM 21 1, []),
 (oF 22 8 8, []),
 (oL 23 22, [5]),
 (oB 24 .eql 21 23, [4, 6]),
 (oM 9 20, [3, 0, 1, 2, 3]),
 (oM 10 24, [7, 8, 0, 1, 2, 3, 4, 5, 6, 7, 8])]
def c53r2 : List AOper :=
 [oF 25 8 5,
 oL 26 25]
def c53r3 : List AOper :=
 [oK 28 .eql 26 1,
 oM 27 28]
def c53r4 : List AOper :=
 [oM 30 9,
 oM 31 30,
 oFt 32 31 5 0,
 oLt 33 31 32,
 oKt 34 31 .eql 33 8,
 oP 35 31 34,
 oM 36 35,
 oMt 37 36 0,
 oNt 38 36 37,
 oFt 39 36 38 12,
 oFt 40 36 39 0,
 oLt 41 36 40,
 oot 42 36 (.eq false 1 (.t 41) (.c .nilp)),
 oP 43 36 42,
 oM 29 43]
def c53r5 : List AOper :=
 [oM 44 0,
 oN 45 44,
 oF 46 45 12,
 oF 47 46 0,
 ⟨none, none, .store (.t 47) (.t 5) 1⟩]
def c53r6 : List AOper :=
 [oS 48 8 9,
 ⟨none, none, .store (.t 6) (.t 48) 9⟩,oo 7 (.mv (.c (.bool true)))]
def c53r7 : List AOper :=
 [oM 50 10,
 oM 51 50,
 oSt 52 51 5 25,
 oot 53 51 (.call (.c (.fn 97 [])) [.t 52, .c (.int .i64 9)]),
 oP 54 51 53,
 oM 55 54,
 oMt 56 55 0,
 oNt 57 55 56,
 oFt 58 55 57 12,
 oFt 59 55 58 0,
 oLt 60 55 59,
 oot 61 55 (.eq true 1 (.t 60) (.c .nilp)),
 oP 62 55 61,
 oM 49 62]
def c53r8 : List AOper :=
 [oF 63 8 5,
 ⟨none, none, .store (.t 63) (.c (.int .i64 2)) 1⟩]
def c53r9 : List AOper :=
 [oS 64 8 9,
 ⟨none, none, .store (.t 6) (.t 64) 9⟩,oo 7 (.mv (.c (.bool true)))]
def c53r10 : List AOper :=
 [oM 66 9,
 oM 67 66,
 oSt 68 67 5 25,
 oot 69 67 (.call (.c (.fn 95 [])) [.t 68, .c (.int .i64 7)]),
 oP 70 67 69,
 oM 71 70,
 oMf 72 71 10,
 oMf 73 71 72,
 oSt 74 73 5 25,
 oot 75 73 (.call (.c (.fn 95 [])) [.t 74, .c (.int .i64 9)]),
 oPf 76 71 73 75,
 oT 77 71 76,
 oM 65 77]
def c53r11 : List AOper :=
 [oS 78 8 9,
 oo 79 (.call (.c (.fn 96 [])) [.t 78]),
 ⟨none, none, .store (.t 6) (.t 79) 9⟩,oo 7 (.mv (.c (.bool true)))]
def c53r12 : List AOper :=
 [oK 81 .eql 26 2,
 oM 80 81]
def c53r13 : List AOper :=
 [oM 83 9,
 oM 84 83,
 oFt 85 84 5 0,
 oLt 86 84 85,
 oKt 87 84 .eql 86 11,
 oP 88 84 87,
 oM 89 88,
 oMt 90 89 0,
 oNt 91 89 90,
 oFt 92 89 91 12,
 oFt 93 89 92 1,
 oLt 94 89 93,
 oot 95 89 (.eq false 1 (.t 94) (.c .nilp)),
 oP 96 89 95,
 oM 82 96]
def c53r14 : List AOper :=
 [oM 97 0,
 oN 98 97,
 oF 99 98 12,
 oF 100 99 1,
 ⟨none, none, .store (.t 100) (.t 5) 1⟩]
def c53r15 : List AOper :=
 [oS 101 8 9,
 ⟨none, none, .store (.t 6) (.t 101) 9⟩,oo 7 (.mv (.c (.bool true)))]
def c53r16 : List AOper :=
 [oM 103 10,
 oM 104 103,
 oSt 105 104 5 25,
 oot 106 104 (.call (.c (.fn 97 [])) [.t 105, .c (.int .i64 12)]),
 oP 107 104 106,
 oM 102 107]
def c53r17 : List AOper :=
 [oS 108 8 9,
 oF 109 8 6,
 oL 110 109,
 oo 111 (.call (.c (.fn 94 [])) [.t 108, .t 110]),
 oM 11 111]
def c53r18 : List AOper :=
 [oS 112 8 9,
 oo 113 (.call (.c (.fn 99 [])) [.t 112]),
 oo 114 (.idxA (.t 113) (.c (.int .i64 0)) none 6),
 oS 115 114 6,
 oo 12 (.alloc [.int .i64 0, .str [], .str [], .int .i64 0, .int .i64 0, .int .i64 0]),
 ⟨none, none, .store (.t 12) (.t 115) 6⟩]
def c53d1 : List (AOper × List Nat) :=
 [(oF 116 8 0, []),
 (oL 117 116, [0]),
 (oM 118 11, []),
 (oI 119 117 118 6, [1, 2]),
 (oF 120 119 1, [3]),
 (oS 121 120 2, [4]),
 (oF 122 8 8, []),
 (oL 123 122, [6]),
 (oF 124 12 1, [0, 1, 2, 3, 4, 5]),
 (⟨none, none, .store (.t 124) (.t 121) 2⟩, [8, 5, 0, 1, 2, 3, 4, 5]),
 (oF 125 12 4, [0, 1, 2, 3, 4, 5, 6, 7, 8, 9]),
 (⟨none, none, .store (.t 125) (.t 123) 1⟩, [10, 7, 9, 0, 1, 2, 3, 4, 5, 6, 7, 8, 9])]
def c53r19 : List AOper :=
 [oS 126 8 9,
 oM 127 11,
 oS 128 12 6,
 oo 129 (.bslice 1 6 [.int .i64 0, .str [], .str [], .int .i64 0, .int .i64 0, .int .i64 0] [(0, .t 128)]),
 oo 130 (.call (.c (.fn 101 [])) [.t 126, .t 127, .c (.int .i64 1), .t 129]),
 ⟨none, none, .store (.t 8) (.t 130) 9⟩]
def c53r20 : List AOper :=
 [oF 131 8 5,
 ⟨none, none, .store (.t 131) (.c (.int .i64 3)) 1⟩]
def c53r21 : List AOper :=
 [oS 132 8 9,
 ⟨none, none, .store (.t 6) (.t 132) 9⟩,oo 7 (.mv (.c (.bool true)))]
def c53r22 : List AOper :=
 [oK 134 .eql 26 3,
 oM 133 134]
def c53r23 : List AOper :=
 [oM 135 9,
 oM 136 135,
 oSt 137 136 5 25,
 oot 138 136 (.call (.c (.fn 97 [])) [.t 137, .c (.int .i64 13)]),
 oP 139 136 138]
def c53r24 : List AOper :=
 [oS 140 8 9,
 oo 141 (.call (.c (.fn 96 [])) [.t 140]),
 ⟨none, none, .store (.t 6) (.t 141) 9⟩,oo 7 (.mv (.c (.bool true)))]
def c53r25 : List AOper :=
 [oS 142 8 9,
 ⟨none, none, .store (.t 6) (.t 142) 9⟩,oo 7 (.mv (.c (.bool false)))]
def c53 : AC := (.seq (.region c53r0) (.seq (.region c53r1) (.seq (.drawn c53d0) (.seq (.seq (.region c53r2) (.block 0 (.seq (.region c53r3) (.cond (.t 27) (.block 1 (.seq (.region c53r4) (.cond (.t 29) (.seq (.region c53r5) (.seq (.region c53r6) .ret)) (.seq (.region c53r7) (.cond (.t 49) (.seq (.region c53r8) (.seq (.region c53r9) .ret)) (.seq (.region c53r10) (.cond (.t 65) (.seq (.region c53r11) .ret) .skip))))))) (.seq (.region c53r12) (.cond (.t 80) (.block 2 (.seq (.region c53r13) (.cond (.t 82) (.seq (.region c53r14) (.seq (.region c53r15) .ret)) (.seq (.region c53r16) (.cond (.t 102) (.seq (.region c53r17) (.seq (.region c53r18) (.seq (.drawn c53d1) (.seq (.region c53r19) (.seq (.region c53r20) (.seq (.region c53r21) .ret)))))) .skip))))) (.seq (.region c53r22) (.cond (.t 133) (.seq (.region c53r23) (.cond (.t 139) (.seq (.region c53r24) .ret) .skip)) .skip)))))))) (.seq (.region c53r25) .ret)))))
def c54r0 : List AOper :=
 [oo 4 (.box (.t 1)),
 oV 6 0]
def c54r1 : List AOper :=
 [oM 10 0,
 oo 11 (.call (.c (.fn 57 [])) [.t 10]),
 oU 12 11,
 oM 13 12,
 oLf 14 13 4,
 oof 15 13 (.call (.c (.fn 102 [])) [.t 14]),
 oUf 16 13 15,
 oT 17 13 16]
def c54r2 : List AOper :=
 [oV 6 1]
def c54r3 : List AOper :=
 [oM 18 0,
 oN 19 18,
 oF 20 19 3,
 oS 21 20 9,
 oo 7 (.alloc [.nils, .int .i64 0, .int .i64 0, .int .i64 0, .int .i64 0, .int .i64 0, .int .i64 0, .int .i64 0, .int .i64 0]),
 ⟨none, none, .store (.t 7) (.t 21) 9⟩]
def c54r4 : List AOper :=
 [oF 22 7 0,
 oL 23 22,
 oo 24 (.mkf 104 [.t 4]),
 oo 25 (.call (.c (.fn 103 [])) [.t 23, .t 24]),
 oM 8 25]
def c54r5 : List AOper :=
 [oM 26 2,
 oM 27 8,
 oo 28 (.call (.t 26) [.t 7, .t 27]),
 oM 9 28]
def c54r6 : List AOper :=
 [oM 30 9,
 oK 31 .eql 30 1,
 oM 29 31]
def c54r7 : List AOper :=
 [oM 32 9,
 oM 6 32]
def c54r8 : List AOper :=
 [oM 34 0,
 oN 35 34,
 oF 36 35 3,
 oF 37 36 4,
 oL 38 37,
 oK 39 .neq 38 0,
 oM 33 39]
def c54r9 : List AOper :=
 [oV 6 200]
def c54r10 : List AOper :=
 [oM 41 9,
 oK 42 .neq 41 0,
 oM 43 42,
 oFf 44 43 7 1,
 oLf 45 43 44,
 oFf 46 43 7 2,
 oLf 47 43 46,
 oFf 48 43 7 3,
 oLf 49 43 48,
 oof 50 43 (.mm true [.t 45, .t 47, .t 49]),
 oKf 51 43 .gtr 50 1099511627771,
 oT 52 43 51,
 oM 40 52]
def c54r11 : List AOper :=
 [oV 6 2]
def c54r12 : List AOper :=
 [oF 53 7 0,
 oL 54 53,
 oM 55 8,
 oI 56 54 55 6,
 oF 57 56 0,
 oL 58 57,
 oF 59 7 6,
 ⟨none, none, .store (.t 59) (.t 58) 1⟩]
def c54r13 : List AOper :=
 [oM 60 0,
 oo 61 (.build [.nilp, .nilp] []),
 oN 62 60,
 oF 63 62 12,
 ⟨none, none, .store (.t 63) (.t 61) 2⟩]
def c54r14 : List AOper :=
 [oM 64 0,
 oS 65 7 9,
 oo 66 (.call (.c (.fn 49 [])) [.t 65]),
 oo 67 (.call (.c (.fn 50 [])) [.t 64, .t 66]),
 oM 6 67]
def c54 : AC := (.seq (.region c54r0) (.seq (.seq (.region c54r1) (.cond (.t 17) (.seq (.region c54r2) .ret) .skip)) (.seq (.region c54r3) (.seq (.region c54r4) (.seq (.region c54r5) (.seq (.block 0 (.seq (.region c54r6) (.cond (.t 29) (.seq (.region c54r7) .ret) (.seq (.region c54r8) (.cond (.t 33) (.seq (.region c54r9) .ret) (.seq (.region c54r10) (.cond (.t 40) (.seq (.region c54r11) .ret) .skip))))))) (.seq (.region c54r12) (.seq (.region c54r13) (.seq (.region c54r14) .ret)))))))))
def r54 : List ARes := [.tmp 6]
theorem c54_ok : Tryz.f54.body.bind (cCode Tryz.prog Tryz.f54.ntmps) = some c54 := by kernel_rfl
theorem r54_ok : Tryz.f54.results.toList.mapM (cRes Tryz.prog Tryz.f54.ntmps) = some r54 := by kernel_rfl
def c57r0 : List AOper :=
 [oo 2 (.mv (.c (.bool false)))]
def c57r1 : List AOper :=
 [oM 3 0,
 oo 4 (.eq true 1 (.t 3) (.c .nilp)),
 oM 5 4,
 oMt 6 5 0,
 oNt 7 5 6,
 oFt 8 5 7 0,
 oLt 9 5 8,
 oot 10 5 (.eq true 1 (.t 9) (.c .nilp)),
 oP 11 5 10,
 oM 2 11]
def c57 : AC := (.seq (.region c57r0) (.seq (.region c57r1) .ret))
def r57 : List ARes := [.tmp 2]
theorem c57_ok : Tryz.f57.body.bind (cCode Tryz.prog Tryz.f57.ntmps) = some c57 := by kernel_rfl
theorem r57_ok : Tryz.f57.results.toList.mapM (cRes Tryz.prog Tryz.f57.ntmps) = some r57 := by kernel_rfl
def c59r0 : List AOper :=
 [oo 1 (.box (.t 0)),
 oo 2 (.mv (.c (.str []))),
 oV 3 0]
def c59r1 : List AOper :=
 [oS 7 1 25,
 oo 8 (.call (.c (.fn 111 [])) [.t 7]),
 oM 6 8,
 oE 9 6 0,
 oE 10 6 1,
 oM 4 9,
 oM 5 10]
def c59r2 : List AOper :=
 [oM 11 5,
 oU 12 11,
 oM 13 12,
 oMf 14 13 4,
 oof 15 13 (.lenS (.t 14)),
 oKf 16 13 .add 15 4,
 oKf 17 13 .gtr 16 262144,
 oT 18 13 17]
def c59r3 : List AOper :=
 [oo 2 (.mv (.c (.str []))),
 oV 3 1]
def c59r4 : List AOper :=
 [oM 19 4,
 oo 20 (.call (.c (.fn 112 [])) [.t 19]),
 oM 2 20,
 oV 3 0]
def c59 : AC := (.seq (.region c59r0) (.seq (.region c59r1) (.seq (.seq (.region c59r2) (.cond (.t 18) (.seq (.region c59r3) .ret) .skip)) (.seq (.region c59r4) .ret))))
def r59 : List ARes := [.tmp 2, .tmp 3]
theorem c59_ok : Tryz.f59.body.bind (cCode Tryz.prog Tryz.f59.ntmps) = some c59 := by kernel_rfl
theorem r59_ok : Tryz.f59.results.toList.mapM (cRes Tryz.prog Tryz.f59.ntmps) = some r59 := by kernel_rfl
def c62r0 : List AOper :=
 [oo 1 (.box (.t 0)),
 oV 2 0]
def c62r1 : List AOper :=
 [oS 6 1 25,
 oo 7 (.call (.c (.fn 111 [])) [.t 6]),
 oM 5 7,
 oE 8 5 0,
 oE 9 5 1,
 oM 3 8,
 oM 4 9]
def c62r2 : List AOper :=
 [oM 10 4,
 oU 11 10]
def c62r3 : List AOper :=
 [oV 2 1]
def c62r4 : List AOper :=
 [oV 2 0]
def c62 : AC := (.seq (.region c62r0) (.seq (.seq (.region c62r1) (.seq (.region c62r2) (.cond (.t 11) (.seq (.region c62r3) .ret) .skip))) (.seq (.region c62r4) .ret)))
def r62 : List ARes := [.tmp 2]
theorem c62_ok : Tryz.f62.body.bind (cCode Tryz.prog Tryz.f62.ntmps) = some c62 := by kernel_rfl
theorem r62_ok : Tryz.f62.results.toList.mapM (cRes Tryz.prog Tryz.f62.ntmps) = some r62 := by kernel_rfl
def c63r0 : List AOper :=
 [oo 2 (.mv (.c .nils))]
def c63r1 : List AOper :=
 [oM 3 0,
 oo 4 (.eq false 2 (.t 3) (.c .nils))]
def c63r2 : List AOper :=
 [oo 2 (.mv (.c .nils))]
def c63r3 : List AOper :=
 [oo 5 (.bslice 0 6 [.int .i64 0, .str [], .str [], .int .i64 0, .int .i64 0, .int .i64 0] []),
 oM 6 0,
 oo 7 (.append (.t 5) (.t 6) 6 64 false),
 oM 2 7]
def c63 : AC := (.seq (.region c63r0) (.seq (.seq (.region c63r1) (.cond (.t 4) (.seq (.region c63r2) .ret) .skip)) (.seq (.region c63r3) .ret)))
def r63 : List ARes := [.tmp 2]
theorem c63_ok : Tryz.f63.body.bind (cCode Tryz.prog Tryz.f63.ntmps) = some c63 := by kernel_rfl
theorem r63_ok : Tryz.f63.results.toList.mapM (cRes Tryz.prog Tryz.f63.ntmps) = some r63 := by kernel_rfl
def c64r0 : List AOper :=
 [oV 4 0]
def c64r1 : List AOper :=
 [oM 5 0,
 oN 6 5,
 oF 7 6 4,
 ⟨none, none, .store (.t 7) (.c (.int .i64 5)) 1⟩]
def c64r2 : List AOper :=
 [oM 8 0,
 oN 9 8,
 oF 10 9 0,
 oL 11 10,
 oG 12 11,
 oK 13 .geq 12 64]
def c64r3 : List AOper :=
 [oV 4 2]
def c64r4 : List AOper :=
 [oV 4 0]
def c64 : AC := (.seq (.region c64r0) (.seq (.region c64r1) (.seq (.seq (.region c64r2) (.cond (.t 13) (.seq (.region c64r3) .ret) .skip)) (.seq (.region c64r4) .ret))))
def r64 : List ARes := [.tmp 4]
theorem c64_ok : Tryz.f64.body.bind (cCode Tryz.prog Tryz.f64.ntmps) = some c64 := by kernel_rfl
theorem r64_ok : Tryz.f64.results.toList.mapM (cRes Tryz.prog Tryz.f64.ntmps) = some r64 := by kernel_rfl
def c65r0 : List AOper :=
 [oV 4 0]
def c65r1 : List AOper :=
 [oM 6 0,
 oG 7 6,
 oV 8 0]
def c65r2 : List AOper :=
 [oB 9 .lss 8 7]
def c65r3 : List AOper :=
 [oM 10 8,
 oM 5 10]
def c65r4 : List AOper :=
 [oM 11 1,
 oM 12 0,
 oM 13 5,
 oI 14 12 13 1,
 oL 15 14,
 oB 16 .eql 11 15]
def c65r5 : List AOper :=
 [oM 17 5,
 oM 4 17]
def c65r6 : List AOper :=
 [oK 18 .add 8 1,
 oM 8 18]
def c65l0 : AC := (.seq (.region c65r2) (.seq (.cond (.t 9) .skip (.exit 0)) (.seq (.block 1 (.seq (.region c65r3) (.seq (.region c65r4) (.cond (.t 16) (.seq (.region c65r5) .ret) .skip)))) (.region c65r6))))
def c65r7 : List AOper :=
 [oo 4 (.mv (.c (.int .i64 (-1))))]
def c65 : AC := (.seq (.region c65r0) (.seq (.seq (.region c65r1) (.block 0 (.loop c65l0))) (.seq (.region c65r7) .ret)))
def r65 : List ARes := [.tmp 4]
theorem c65_ok : Tryz.f65.body.bind (cCode Tryz.prog Tryz.f65.ntmps) = some c65 := by kernel_rfl
theorem r65_ok : Tryz.f65.results.toList.mapM (cRes Tryz.prog Tryz.f65.ntmps) = some r65 := by kernel_rfl
def c66r0 : List AOper :=
 [oV 2 0]
def c66r1 : List AOper :=
 [oM 5 0,
 oG 6 5,
 oK 7 .lss 6 1]
def c66r2 : List AOper :=
 [oo 8 (.dead),
 ⟨none, none, .dead⟩]
def c66r3 : List AOper :=
 [oM 9 0,
 oo 10 (.idxA (.t 9) (.c (.int .i64 0)) none 1),
 oL 11 10,
 oM 3 11]
def c66r4 : List AOper :=
 [oV 4 1]
def c66r5 : List AOper :=
 [oM 12 4,
 oM 13 0,
 oG 14 13,
 oB 15 .lss 12 14]
def c66r6 : List AOper :=
 [oM 18 3,
 oM 19 0,
 oM 20 4,
 oI 21 19 20 1,
 oL 22 21,
 oo 23 (.mm true [.t 18, .t 22]),
 oM 3 23]
def c66r7 : List AOper :=
 [oM 16 4,
 oK 17 .add 16 1,
 oM 4 17]
def c66l0 : AC := (.seq (.seq (.region c66r5) (.cond (.t 15) .skip (.exit 0))) (.seq (.block 1 (.region c66r6)) (.region c66r7)))
def c66r8 : List AOper :=
 [oM 24 3,
 oM 2 24]
def c66 : AC := (.seq (.region c66r0) (.seq (.seq (.region c66r1) (.cond (.t 7) (.region c66r2) .skip)) (.seq (.region c66r3) (.seq (.seq (.region c66r4) (.block 0 (.loop c66l0))) (.seq (.region c66r8) .ret)))))
def r66 : List ARes := [.tmp 2]
theorem c66_ok : Tryz.f66.body.bind (cCode Tryz.prog Tryz.f66.ntmps) = some c66 := by kernel_rfl
theorem r66_ok : Tryz.f66.results.toList.mapM (cRes Tryz.prog Tryz.f66.ntmps) = some r66 := by kernel_rfl
def c67r0 : List AOper :=
 [oV 2 0]
def c67r1 : List AOper :=
 [oM 5 0,
 oG 6 5,
 oK 7 .lss 6 1]
def c67r2 : List AOper :=
 [oo 8 (.dead),
 ⟨none, none, .dead⟩]
def c67r3 : List AOper :=
 [oM 9 0,
 oo 10 (.idxA (.t 9) (.c (.int .i64 0)) none 1),
 oL 11 10,
 oM 3 11]
def c67r4 : List AOper :=
 [oV 4 1]
def c67r5 : List AOper :=
 [oM 12 4,
 oM 13 0,
 oG 14 13,
 oB 15 .lss 12 14]
def c67r6 : List AOper :=
 [oM 18 3,
 oM 19 0,
 oM 20 4,
 oI 21 19 20 1,
 oL 22 21,
 oo 23 (.mm false [.t 18, .t 22]),
 oM 3 23]
def c67r7 : List AOper :=
 [oM 16 4,
 oK 17 .add 16 1,
 oM 4 17]
def c67l0 : AC := (.seq (.seq (.region c67r5) (.cond (.t 15) .skip (.exit 0))) (.seq (.block 1 (.region c67r6)) (.region c67r7)))
def c67r8 : List AOper :=
 [oM 24 3,
 oM 2 24]
def c67 : AC := (.seq (.region c67r0) (.seq (.seq (.region c67r1) (.cond (.t 7) (.region c67r2) .skip)) (.seq (.region c67r3) (.seq (.seq (.region c67r4) (.block 0 (.loop c67l0))) (.seq (.region c67r8) .ret)))))
def r67 : List ARes := [.tmp 2]
theorem c67_ok : Tryz.f67.body.bind (cCode Tryz.prog Tryz.f67.ntmps) = some c67 := by kernel_rfl
theorem r67_ok : Tryz.f67.results.toList.mapM (cRes Tryz.prog Tryz.f67.ntmps) = some r67 := by kernel_rfl
def c68r0 : List AOper :=
 [oo 2 (.mv (.c (.bool false)))]
def c68r1 : List AOper :=
 [oM 6 0,
 oo 7 (.call (.c (.fn 47 [])) [.t 6, .c (.str [97])]),
 oM 5 7,
 oE 8 5 0,
 oE 9 5 1,
 oM 3 8,
 oM 4 9]
def c68r2 : List AOper :=
 [oM 10 4,
 oK 11 .neq 10 1,
 oM 2 11]
def c68 : AC := (.seq (.region c68r0) (.seq (.region c68r1) (.seq (.region c68r2) .ret)))
def r68 : List ARes := [.tmp 2]
theorem c68_ok : Tryz.f68.body.bind (cCode Tryz.prog Tryz.f68.ntmps) = some c68 := by kernel_rfl
theorem r68_ok : Tryz.f68.results.toList.mapM (cRes Tryz.prog Tryz.f68.ntmps) = some r68 := by kernel_rfl
def c69r0 : List AOper :=
 [oV 4 0]
def c69r1 : List AOper :=
 [oM 10 0,
 oo 11 (.call (.c (.fn 45 [])) [.t 10]),
 oG 12 11,
 oV 13 0]
def c69r2 : List AOper :=
 [oB 14 .lss 13 12]
def c69r3 : List AOper :=
 [oI 15 11 13 1,
 oL 16 15,
 oM 6 16]
def c69r4 : List AOper :=
 [oM 18 6,
 oo 19 (.call (.c (.fn 122 [])) [.t 18]),
 oM 17 19,
 oE 20 17 0,
 oE 21 17 1,
 oM 7 20,
 oM 8 21]
def c69r5 : List AOper :=
 [oM 22 8,
 oU 23 22]
def c69r6 : List AOper :=
 [oM 24 1,
 oM 25 7,
 oo 26 (.call (.t 24) [.t 25]),
 oM 9 26]
def c69r7 : List AOper :=
 [oM 27 9,
 oK 28 .neq 27 0]
def c69r8 : List AOper :=
 [oM 29 9,
 oM 4 29]
def c69r9 : List AOper :=
 [oK 30 .add 13 1,
 oM 13 30]
def c69l0 : AC := (.seq (.region c69r2) (.seq (.cond (.t 14) .skip (.exit 0)) (.seq (.block 1 (.seq (.region c69r3) (.seq (.region c69r4) (.seq (.seq (.region c69r5) (.cond (.t 23) (.exit 1) .skip)) (.seq (.region c69r6) (.seq (.region c69r7) (.cond (.t 28) (.seq (.region c69r8) .ret) .skip))))))) (.region c69r9))))
def c69r10 : List AOper :=
 [oV 4 0]
def c69 : AC := (.seq (.region c69r0) (.seq (.seq (.region c69r1) (.block 0 (.loop c69l0))) (.seq (.region c69r10) .ret)))
def r69 : List ARes := [.tmp 4]
theorem c69_ok : Tryz.f69.body.bind (cCode Tryz.prog Tryz.f69.ntmps) = some c69 := by kernel_rfl
theorem r69_ok : Tryz.f69.results.toList.mapM (cRes Tryz.prog Tryz.f69.ntmps) = some r69 := by kernel_rfl
def c70r0 : List AOper :=
 [oV 5 0]
def c70r1 : List AOper :=
 [oM 12 0,
 oL 13 1,
 oB 14 .lss 12 13]
def c70d0 : List (AOper × List Nat) :=
 [(oL 15 2, []),
 (oM 16 0, []),
 (oo 17 (.call (.c (.fn 72 [])) [.t 16]), [1]),
 (oo 18 (.call (.c (.fn 71 [])) [.t 15, .t 17]), [0, 2, 2]),
 (oM 5 18, [3, 3, 0, 1, 2, 3])]
def c70d1 : List (AOper × List Nat) :=
 [(oL 20 2, []),
 (oM 21 0, []),
 (oo 22 (.call (.c (.fn 72 [])) [.t 21]), [1]),
 (oo 23 (.call (.c (.fn 73 [])) [.t 20, .t 22]), [0, 2, 2]),
 (oM 19 23, [3]),
 (oE 24 19 0, [4]),
 (oE 25 19 1, [4]),
 (oM 6 24, [5, 3, 0, 1, 2, 3, 4, 5]),
 (oM 7 25, [6, 7, 0, 1, 2, 3, 4, 5, 6, 7])]
def c70r2 : List AOper :=
 [oM 27 6,
 oo 28 (.call (.c (.fn 74 [])) [.t 27]),
 oM 26 28,
 oE 29 26 0,
 oE 30 26 1,
 oM 8 29,
 oM 9 30]
def c70r3 : List AOper :=
 [oM 31 8,
 oG 32 31,
 oV 33 0]
def c70r4 : List AOper :=
 [oB 34 .lss 33 32]
def c70r5 : List AOper :=
 [oI 35 31 33 1,
 oL 36 35,
 oM 11 36]
def c70d2 : List (AOper × List Nat) :=
 [(oL 37 3, []),
 (oL 38 3, []),
 (oN 39 38, [1]),
 (oF 40 39 1, [2]),
 (oL 41 40, [3]),
 (oM 42 11, []),
 (oM 43 0, []),
 (oo 44 (.build [.str [], .int .i64 0] [(0, 1, .t 42), (1, 1, .t 43)]), [5, 6]),
 (oo 45 (.bslice 1 2 [.str [], .int .i64 0] [(0, .t 44)]), [7]),
 (oo 46 (.append (.t 41) (.t 45) 2 24 false), [4, 8]),
 (oN 47 37, [0, 0, 1, 2, 3, 4, 5, 6, 7, 8, 9]),
 (oF 48 47 1, [10, 0, 1, 2, 3, 4, 5, 6, 7, 8, 9]),
 (⟨none, none, .store (.t 48) (.t 46) 1⟩, [11, 9, 9, 0, 1, 2, 3, 4, 5, 6, 7, 8, 9])]
def c70r6 : List AOper :=
 [oK 49 .add 33 1,
 oM 33 49]
def c70l0 : AC := (.seq (.region c70r4) (.seq (.cond (.t 34) .skip (.exit 0)) (.seq (.block 1 (.seq (.region c70r5) (.drawn c70d2))) (.region c70r6))))
def c70r7 : List AOper :=
 [oL 50 3,
 oM 51 0,
 oK 52 .add 51 1,
 oN 53 50,
 oF 54 53 2,
 ⟨none, none, .store (.t 54) (.t 52) 1⟩]
def c70r8 : List AOper :=
 [oM 55 7,
 oM 5 55]
def c70 : AC := (.seq (.region c70r0) (.seq (.seq (.region c70r1) (.cond (.t 14) (.seq (.drawn c70d0) .ret) .skip)) (.seq (.drawn c70d1) (.seq (.region c70r2) (.seq (.seq (.region c70r3) (.block 0 (.loop c70l0))) (.seq (.region c70r7) (.seq (.region c70r8) .ret)))))))
def r70 : List ARes := [.tmp 5]
theorem c70_ok : Tryz.f70.body.bind (cCode Tryz.prog Tryz.f70.ntmps) = some c70 := by kernel_rfl
theorem r70_ok : Tryz.f70.results.toList.mapM (cRes Tryz.prog Tryz.f70.ntmps) = some r70 := by kernel_rfl
def c71r0 : List AOper :=
 [oV 4 0]
def c71r1 : List AOper :=
 [oM 8 0,
 oM 9 1,
 oo 10 (.call (.c (.fn 123 [])) [.t 8, .t 9, .c .nils]),
 oM 7 10,
 oE 11 7 0,
 oE 12 7 1,
 oM 5 11,
 oM 6 12]
def c71r2 : List AOper :=
 [oM 13 6,
 oK 14 .eql 13 0]
def c71r3 : List AOper :=
 [oM 15 0,
 oN 16 15,
 oF 17 16 0,
 oL 18 17,
 oM 19 1,
 ⟨none, none, .mdel 1 (.t 18) (.t 19)⟩]
def c71r4 : List AOper :=
 [oM 20 6,
 oM 4 20]
def c71 : AC := (.seq (.region c71r0) (.seq (.region c71r1) (.seq (.seq (.region c71r2) (.cond (.t 14) (.region c71r3) .skip)) (.seq (.region c71r4) .ret))))
def r71 : List ARes := [.tmp 4]
theorem c71_ok : Tryz.f71.body.bind (cCode Tryz.prog Tryz.f71.ntmps) = some c71 := by kernel_rfl
theorem r71_ok : Tryz.f71.results.toList.mapM (cRes Tryz.prog Tryz.f71.ntmps) = some r71 := by kernel_rfl
def c72r0 : List AOper :=
 [oo 2 (.mv (.c (.str [])))]
def c72r1 : List AOper :=
 [oM 4 0,
 oo 5 (.call (.c (.fn 124 [])) [.t 4]),
 oM 3 5]
def c72r2 : List AOper :=
 [oM 6 3,
 oo 7 (.lenS (.t 6)),
 oo 8 (.bin .sub (.c (.int .i64 8)) (.t 7)),
 oo 9 (.call (.c (.fn 125 [])) [.c (.str [48]), .t 8]),
 oo 10 (.bin .add (.c (.str [108, 111, 103, 45])) (.t 9)),
 oM 11 3,
 oB 12 .add 10 11,
 oM 2 12]
def c72 : AC := (.seq (.region c72r0) (.seq (.region c72r1) (.seq (.region c72r2) .ret)))
def r72 : List ARes := [.tmp 2]
theorem c72_ok : Tryz.f72.body.bind (cCode Tryz.prog Tryz.f72.ntmps) = some c72 := by kernel_rfl
theorem r72_ok : Tryz.f72.results.toList.mapM (cRes Tryz.prog Tryz.f72.ntmps) = some r72 := by kernel_rfl
def c73r0 : List AOper :=
 [oo 4 (.mv (.c (.str []))),
 oV 5 0]
def c73r1 : List AOper :=
 [oM 9 0,
 oM 10 1,
 oo 11 (.call (.c (.fn 89 [])) [.t 9, .t 10]),
 oM 8 11,
 oE 12 8 0,
 oE 13 8 1,
 oM 6 12,
 oM 7 13]
def c73r2 : List AOper :=
 [oM 14 7,
 oK 15 .neq 14 0]
def c73r3 : List AOper :=
 [oM 16 7,
 oo 4 (.mv (.c (.str []))),
 oM 5 16]
def c73r4 : List AOper :=
 [oM 17 6,
 oN 18 17,
 oF 19 18 0,
 oL 20 19,
 oo 21 (.b2s (.t 20)),
 oM 4 21,
 oV 5 0]
def c73 : AC := (.seq (.region c73r0) (.seq (.region c73r1) (.seq (.seq (.region c73r2) (.cond (.t 15) (.seq (.region c73r3) .ret) .skip)) (.seq (.region c73r4) .ret))))
def r73 : List ARes := [.tmp 4, .tmp 5]
theorem c73_ok : Tryz.f73.body.bind (cCode Tryz.prog Tryz.f73.ntmps) = some c73 := by kernel_rfl
theorem r73_ok : Tryz.f73.results.toList.mapM (cRes Tryz.prog Tryz.f73.ntmps) = some r73 := by kernel_rfl
def c74r0 : List AOper :=
 [oo 2 (.mv (.c .nils)),
 oV 3 0]
def c74r1 : List AOper :=
 [oo 4 (.alloc [.nils])]
def c74r2 : List AOper :=
 [oM 6 0,
 oo 7 (.mkf 127 [.t 4]),
 oo 8 (.call (.c (.fn 126 [])) [.t 6, .t 7]),
 oM 5 8]
def c74r3 : List AOper :=
 [oL 9 4,
 oM 10 5,
 oM 2 9,
 oM 3 10]
def c74 : AC := (.seq (.region c74r0) (.seq (.region c74r1) (.seq (.region c74r2) (.seq (.region c74r3) .ret))))
def r74 : List ARes := [.tmp 2, .tmp 3]
theorem c74_ok : Tryz.f74.body.bind (cCode Tryz.prog Tryz.f74.ntmps) = some c74 := by kernel_rfl
theorem r74_ok : Tryz.f74.results.toList.mapM (cRes Tryz.prog Tryz.f74.ntmps) = some r74 := by kernel_rfl
def c75r0 : List AOper :=
 [oV 4 0]
def c75r1 : List AOper :=
 [oM 8 0,
 oM 9 1,
 oo 10 (.bslice 1 1 [.str []] [(0, .t 9)]),
 oo 11 (.call (.c (.fn 128 [])) [.t 8, .t 10]),
 oM 5 11]
def c75r2 : List AOper :=
 [oM 12 5,
 oK 13 .neq 12 0]
def c75r3 : List AOper :=
 [oM 14 5,
 oM 4 14]
def c75r4 : List AOper :=
 [oM 16 0,
 oN 17 16,
 oF 18 17 0,
 oL 19 18,
 oM 20 1,
 oo 21 (.mget 1 (.t 19) (.t 20) .nilp true),
 oM 15 21,
 oE 22 15 0,
 oE 23 15 1,
 oM 6 22,
 oM 7 23]
def c75r5 : List AOper :=
 [oM 24 7]
def c75r6 : List AOper :=
 [oV 4 1]
def c75r7 : List AOper :=
 [oM 25 0,
 oN 26 25,
 oF 27 26 0,
 oL 28 27,
 oo 29 (.lenM (.t 28)),
 oK 30 .geq 29 256]
def c75r8 : List AOper :=
 [oV 4 2]
def c75r9 : List AOper :=
 [oM 31 0,
 oN 32 31,
 oF 33 32 0,
 oL 34 33,
 oM 35 1,
 oo 36 (.build [.nils, .int .i64 0] []),
 oo 37 (.box (.t 36)),
 ⟨none, none, .mupd 1 (.t 34) (.t 35) (.t 37)⟩]
def c75r10 : List AOper :=
 [oV 4 0]
def c75 : AC := (.seq (.region c75r0) (.seq (.seq (.region c75r1) (.seq (.region c75r2) (.cond (.t 13) (.seq (.region c75r3) .ret) .skip))) (.seq (.seq (.region c75r4) (.seq (.region c75r5) (.cond (.t 24) (.seq (.region c75r6) .ret) .skip))) (.seq (.seq (.region c75r7) (.cond (.t 30) (.seq (.region c75r8) .ret) .skip)) (.seq (.region c75r9) (.seq (.region c75r10) .ret))))))
def r75 : List ARes := [.tmp 4]
theorem c75_ok : Tryz.f75.body.bind (cCode Tryz.prog Tryz.f75.ntmps) = some c75 := by kernel_rfl
theorem r75_ok : Tryz.f75.results.toList.mapM (cRes Tryz.prog Tryz.f75.ntmps) = some r75 := by kernel_rfl
def c76r0 : List AOper :=
 [oo 2 (.mv (.c (.bool false)))]
def c76r1 : List AOper :=
 [oM 3 0,
 oo 4 (.eq true 1 (.t 3) (.c .nilp)),
 oM 5 4,
 oMt 6 5 0,
 oNt 7 5 6,
 oFt 8 5 7 0,
 oLt 9 5 8,
 oot 10 5 (.eq true 1 (.t 9) (.c .nilp)),
 oP 11 5 10,
 oM 2 11]
def c76 : AC := (.seq (.region c76r0) (.seq (.region c76r1) .ret))
def r76 : List ARes := [.tmp 2]
theorem c76_ok : Tryz.f76.body.bind (cCode Tryz.prog Tryz.f76.ntmps) = some c76 := by kernel_rfl
theorem r76_ok : Tryz.f76.results.toList.mapM (cRes Tryz.prog Tryz.f76.ntmps) = some r76 := by kernel_rfl
def c78r0 : List AOper :=
 [oV 2 0,
 oV 3 0,
 oV 4 0]
def c78r1 : List AOper :=
 [oV 5 0]
def c78r2 : List AOper :=
 [oV 8 0]
def c78r3 : List AOper :=
 [oK 9 .lss 8 9]
def c78r4 : List AOper :=
 [oM 10 8,
 oM 6 10]
def c78r5 : List AOper :=
 [oM 11 6,
 oM 12 0,
 oo 13 (.lenS (.t 12)),
 oB 14 .eql 11 13]
def c78r6 : List AOper :=
 [oV 2 0,
 oV 3 0,
 oV 4 10]
def c78r7 : List AOper :=
 [oM 15 0,
 oM 16 6,
 oo 17 (.idxS (.t 15) (.t 16)),
 oM 7 17]
def c78r8 : List AOper :=
 [oM 18 5,
 oM 19 7,
 oo 20 (.bin .and (.t 19) (.c (.int .u8 127))),
 oo 21 (.convI .i64 (.t 20)),
 oM 22 6,
 oo 23 (.bin .mul (.c (.int .i64 7)) (.t 22)),
 oB 24 .shl 21 23,
 oB 25 .or 18 24,
 oM 5 25]
def c78r9 : List AOper :=
 [oM 26 7,
 oo 27 (.bin .geq (.t 26) (.c (.int .u8 128)))]
def c78r10 : List AOper :=
 [oM 28 6,
 oK 29 .gtr 28 0,
 oM 30 29,
 oMt 31 30 7,
 oot 32 30 (.bin .eql (.t 31) (.c (.int .u8 0))),
 oP 33 30 32,
 oM 34 33,
 oMf 35 34 5,
 oKf 36 34 .gtr 35 4611686018427387904,
 oT 37 34 36]
def c78r11 : List AOper :=
 [oM 38 5,
 oM 39 6,
 oK 40 .add 39 1,
 oM 2 38,
 oM 3 40,
 oV 4 0]
def c78r12 : List AOper :=
 [oK 41 .add 8 1,
 oM 8 41]
def c78l0 : AC := (.seq (.region c78r3) (.seq (.cond (.t 9) .skip (.exit 0)) (.seq (.block 1 (.seq (.region c78r4) (.seq (.seq (.region c78r5) (.cond (.t 14) (.seq (.region c78r6) .ret) .skip)) (.seq (.region c78r7) (.seq (.region c78r8) (.seq (.seq (.region c78r9) (.cond (.t 27) (.exit 1) .skip)) (.seq (.seq (.region c78r10) (.cond (.t 37) (.exit 0) .skip)) (.seq (.region c78r11) .ret)))))))) (.region c78r12))))
def c78r13 : List AOper :=
 [oV 2 0,
 oV 3 0,
 oV 4 11]
def c78 : AC := (.seq (.region c78r0) (.seq (.region c78r1) (.seq (.seq (.region c78r2) (.block 0 (.loop c78l0))) (.seq (.region c78r13) .ret))))
def r78 : List ARes := [.tmp 2, .tmp 3, .tmp 4]
theorem c78_ok : Tryz.f78.body.bind (cCode Tryz.prog Tryz.f78.ntmps) = some c78 := by kernel_rfl
theorem r78_ok : Tryz.f78.results.toList.mapM (cRes Tryz.prog Tryz.f78.ntmps) = some r78 := by kernel_rfl
def c79r0 : List AOper :=
 [oV 4 0]
def c79r1 : List AOper :=
 [oM 8 0,
 oo 9 (.call (.c (.fn 76 [])) [.t 8]),
 oU 10 9,
 oM 11 10,
 oMf 12 11 1,
 oof 13 11 (.lenS (.t 12)),
 oKf 14 11 .gtr 13 131072,
 oT 15 11 14]
def c79r2 : List AOper :=
 [oV 4 1]
def c79r3 : List AOper :=
 [oM 17 1,
 oo 18 (.call (.c (.fn 129 [])) [.t 17]),
 oM 16 18,
 oE 19 16 0,
 oE 20 16 1,
 oM 5 19,
 oM 6 20]
def c79d0 : List (AOper × List Nat) :=
 [(oM 21 0, []),
 (oN 22 21, [0]),
 (oF 23 22 0, [1]),
 (oL 24 23, [2]),
 (oM 25 0, []),
 (oN 26 25, [4]),
 (oF 27 26 2, [5]),
 (oL 28 27, [6]),
 (oo 29 (.call (.c (.fn 72 [])) [.t 28]), [7]),
 (oM 30 5, []),
 (oo 31 (.call (.c (.fn 130 [])) [.t 24, .t 29, .t 30]), [3, 8, 9, 8]),
 (oM 7 31, [10, 10, 0, 1, 2, 3, 4, 5, 6, 7, 8, 9, 10])]
def c79r4 : List AOper :=
 [oM 32 7,
 oK 33 .eql 32 0]
def c79d1 : List (AOper × List Nat) :=
 [(oM 34 0, []),
 (oM 35 0, []),
 (oN 36 35, [1]),
 (oF 37 36 1, [2]),
 (oL 38 37, [3]),
 (oM 39 1, []),
 (oM 40 0, []),
 (oN 41 40, [6]),
 (oF 42 41 2, [7]),
 (oL 43 42, [8]),
 (oo 44 (.build [.str [], .int .i64 0] [(0, 1, .t 39), (1, 1, .t 43)]), [5, 9]),
 (oo 45 (.bslice 1 2 [.str [], .int .i64 0] [(0, .t 44)]), [10]),
 (oo 46 (.append (.t 38) (.t 45) 2 24 false), [4, 11]),
 (oN 47 34, [0, 0, 1, 2, 3, 4, 5, 6, 7, 8, 9, 10, 11, 12]),
 (oF 48 47 1, [13, 0, 1, 2, 3, 4, 5, 6, 7, 8, 9, 10, 11, 12]),
 (⟨none, none, .store (.t 48) (.t 46) 1⟩, [14, 12, 12, 0, 1, 2, 3, 4, 5, 6, 7, 8, 9, 10, 11, 12])]
def c79r5 : List AOper :=
 [oM 49 7,
 oM 4 49]
def c79 : AC := (.seq (.region c79r0) (.seq (.seq (.region c79r1) (.cond (.t 15) (.seq (.region c79r2) .ret) .skip)) (.seq (.region c79r3) (.seq (.drawn c79d0) (.seq (.seq (.region c79r4) (.cond (.t 33) (.drawn c79d1) .skip)) (.seq (.region c79r5) .ret))))))
def r79 : List ARes := [.tmp 4]
theorem c79_ok : Tryz.f79.body.bind (cCode Tryz.prog Tryz.f79.ntmps) = some c79 := by kernel_rfl
theorem r79_ok : Tryz.f79.results.toList.mapM (cRes Tryz.prog Tryz.f79.ntmps) = some r79 := by kernel_rfl
def c81r0 : List AOper :=
 [oV 2 0]
def c81r1 : List AOper :=
 [oM 3 0,
 oo 4 (.call (.c (.fn 76 [])) [.t 3]),
 oU 5 4]
def c81r2 : List AOper :=
 [oV 2 1]
def c81d0 : List (AOper × List Nat) :=
 [(oM 6 0, []),
 (oN 7 6, [0]),
 (oF 8 7 0, [1]),
 (oL 9 8, [2]),
 (oM 10 0, []),
 (oN 11 10, [4]),
 (oF 12 11 2, [5]),
 (oL 13 12, [6]),
 (oo 14 (.call (.c (.fn 72 [])) [.t 13]), [7]),
 (oo 15 (.call (.c (.fn 134 [])) [.t 9, .t 14]), [3, 8, 8]),
 (oM 2 15, [9, 9, 0, 1, 2, 3, 4, 5, 6, 7, 8, 9])]
def c81 : AC := (.seq (.region c81r0) (.seq (.seq (.region c81r1) (.cond (.t 5) (.seq (.region c81r2) .ret) .skip)) (.seq (.drawn c81d0) .ret)))
def r81 : List ARes := [.tmp 2]
theorem c81_ok : Tryz.f81.body.bind (cCode Tryz.prog Tryz.f81.ntmps) = some c81 := by kernel_rfl
theorem r81_ok : Tryz.f81.results.toList.mapM (cRes Tryz.prog Tryz.f81.ntmps) = some r81 := by kernel_rfl
def c82r0 : List AOper :=
 [oV 4 0]
def c82r1 : List AOper :=
 [oM 5 0,
 oL 6 1,
 oB 7 .geq 5 6]
def c82r2 : List AOper :=
 [oV 4 0]
def c82d0 : List (AOper × List Nat) :=
 [(oL 8 2, []),
 (oN 9 8, [0]),
 (oF 10 9 0, [1]),
 (oL 11 10, [2]),
 (oM 12 0, []),
 (oo 13 (.call (.c (.fn 72 [])) [.t 12]), [4]),
 (oo 14 (.call (.c (.fn 71 [])) [.t 11, .t 13]), [3, 5, 5]),
 (oM 4 14, [6, 6, 0, 1, 2, 3, 4, 5, 6])]
def c82 : AC := (.seq (.region c82r0) (.seq (.seq (.region c82r1) (.cond (.t 7) (.seq (.region c82r2) .ret) .skip)) (.seq (.drawn c82d0) .ret)))
def r82 : List ARes := [.tmp 4]
theorem c82_ok : Tryz.f82.body.bind (cCode Tryz.prog Tryz.f82.ntmps) = some c82 := by kernel_rfl
theorem r82_ok : Tryz.f82.results.toList.mapM (cRes Tryz.prog Tryz.f82.ntmps) = some r82 := by kernel_rfl
def c83r0 : List AOper :=
 [oo 4 (.mv (.c .nils))]
def c83r1 : List AOper :=
 [oM 8 0,
 oM 9 1,
 oo 10 (.call (.c (.fn 135 [])) [.t 8, .t 9]),
 oM 5 10]
def c83r2 : List AOper :=
 [oM 11 5,
 oo 12 (.bin .eql (.t 11) (.c (.int .i64 (-1))))]
def c83r3 : List AOper :=
 [oM 13 0,
 oM 4 13]
def c83r4 : List AOper :=
 [oM 14 5,
 oK 15 .add 14 1,
 oM 6 15]
def c83r5 : List AOper :=
 [oM 16 6,
 oM 17 0,
 oG 18 17,
 oB 19 .lss 16 18]
def c83r6 : List AOper :=
 [oM 22 0,
 oM 23 6,
 oI 24 22 23 2,
 oS 25 24 2,
 oo 7 (.alloc [.str [], .int .i64 0]),
 ⟨none, none, .store (.t 7) (.t 25) 2⟩]
def c83r7 : List AOper :=
 [oM 26 1,
 oS 27 7 2,
 oo 28 (.call (.t 26) [.t 27]),
 oU 29 28]
def c83r8 : List AOper :=
 [oM 30 0,
 oM 31 5,
 oS 32 7 2,
 oI 33 30 31 2,
 ⟨none, none, .store (.t 33) (.t 32) 2⟩]
def c83r9 : List AOper :=
 [oM 34 5,
 oK 35 .add 34 1,
 oM 5 35]
def c83r10 : List AOper :=
 [oM 20 6,
 oK 21 .add 20 1,
 oM 6 21]
def c83l0 : AC := (.seq (.seq (.region c83r5) (.cond (.t 19) .skip (.exit 0))) (.seq (.block 1 (.seq (.region c83r6) (.seq (.region c83r7) (.cond (.t 29) (.seq (.region c83r8) (.region c83r9)) .skip)))) (.region c83r10)))
def c83r11 : List AOper :=
 [oM 36 0,
 oM 37 5,
 oo 38 (.slc (.t 36) (some (.t 37)) none none 2),
 ⟨none, none, .clear (.t 38) [.str [], .int .i64 0]⟩]
def c83r12 : List AOper :=
 [oM 39 0,
 oM 40 5,
 oo 41 (.slc (.t 39) none (some (.t 40)) none 2),
 oM 4 41]
def c83 : AC := (.seq (.region c83r0) (.seq (.region c83r1) (.seq (.seq (.region c83r2) (.cond (.t 12) (.seq (.region c83r3) .ret) .skip)) (.seq (.seq (.region c83r4) (.block 0 (.loop c83l0))) (.seq (.region c83r11) (.seq (.region c83r12) .ret))))))
def r83 : List ARes := [.tmp 4]
theorem c83_ok : Tryz.f83.body.bind (cCode Tryz.prog Tryz.f83.ntmps) = some c83 := by kernel_rfl
theorem r83_ok : Tryz.f83.results.toList.mapM (cRes Tryz.prog Tryz.f83.ntmps) = some r83 := by kernel_rfl
def c84r0 : List AOper :=
 [oo 2 (.box (.t 0)),
 oo 3 (.mv (.c (.bool false)))]
def c84r1 : List AOper :=
 [oF 4 2 1,
 oL 5 4,
 oL 6 1,
 oB 7 .lss 5 6,
 oM 3 7]
def c84 : AC := (.seq (.region c84r0) (.seq (.region c84r1) .ret))
def r84 : List ARes := [.tmp 3]
theorem c84_ok : Tryz.f84.body.bind (cCode Tryz.prog Tryz.f84.ntmps) = some c84 := by kernel_rfl
theorem r84_ok : Tryz.f84.results.toList.mapM (cRes Tryz.prog Tryz.f84.ntmps) = some r84 := by kernel_rfl
def c85r0 : List AOper :=
 [oo 2 (.mv (.c (.bool false)))]
def c85r1 : List AOper :=
 [oM 3 0,
 oo 4 (.bin .lss (.t 3) (.c (.int .i32 97))),
 oM 5 4,
 oMf 6 5 0,
 oof 7 5 (.bin .gtr (.t 6) (.c (.int .i32 122))),
 oT 8 5 7,
 oM 9 8,
 oMt 10 9 0,
 oot 11 9 (.bin .lss (.t 10) (.c (.int .i32 48))),
 oMt 12 9 11,
 oMf 13 12 0,
 oof 14 12 (.bin .gtr (.t 13) (.c (.int .i32 57))),
 oTt 15 9 12 14,
 oP 16 9 15,
 oM 17 16,
 oMt 18 17 0,
 oot 19 17 (.bin .neq (.t 18) (.c (.int .i32 46))),
 oP 20 17 19,
 oM 21 20,
 oMt 22 21 0,
 oot 23 21 (.bin .neq (.t 22) (.c (.int .i32 45))),
 oP 24 21 23,
 oM 2 24]
def c85 : AC := (.seq (.region c85r0) (.seq (.region c85r1) .ret))
def c89r0 : List AOper :=
 [oo 4 (.mv (.c .nilp)),
 oV 5 0]
def c89r1 : List AOper :=
 [oM 8 0,
 oM 9 1,
 oo 10 (.bslice 1 1 [.str []] [(0, .t 9)]),
 oo 11 (.call (.c (.fn 44 [])) [.t 8, .t 10]),
 oU 12 11]
def c89r2 : List AOper :=
 [oo 4 (.mv (.c .nilp)),
 oV 5 1]
def c89r3 : List AOper :=
 [oM 14 0,
 oN 15 14,
 oF 16 15 0,
 oL 17 16,
 oM 18 1,
 oo 19 (.mget 1 (.t 17) (.t 18) .nilp true),
 oM 13 19,
 oE 20 13 0,
 oE 21 13 1,
 oM 6 20,
 oM 7 21]
def c89r4 : List AOper :=
 [oM 23 0,
 oN 24 23,
 oF 25 24 2,
 oL 26 25,
 oM 22 26]
def c89r5 : List AOper :=
 [oo 4 (.mv (.c .nilp)),
 oV 5 50]
def c89r6 : List AOper :=
 [oM 28 7,
 oU 29 28,
 oM 27 29]
def c89r7 : List AOper :=
 [oo 4 (.mv (.c .nilp)),
 oV 5 3]
def c89r8 : List AOper :=
 [oM 30 6,
 oM 4 30,
 oV 5 0]
def c89 : AC := (.seq (.region c89r0) (.seq (.seq (.region c89r1) (.cond (.t 12) (.seq (.region c89r2) .ret) .skip)) (.seq (.region c89r3) (.seq (.block 0 (.seq (.region c89r4) (.cond (.t 22) (.seq (.region c89r5) .ret) (.seq (.region c89r6) (.cond (.t 27) (.seq (.region c89r7) .ret) .skip))))) (.seq (.region c89r8) .ret)))))
def r89 : List ARes := [.tmp 4, .tmp 5]
theorem c89_ok : Tryz.f89.body.bind (cCode Tryz.prog Tryz.f89.ntmps) = some c89 := by kernel_rfl
theorem r89_ok : Tryz.f89.results.toList.mapM (cRes Tryz.prog Tryz.f89.ntmps) = some r89 := by kernel_rfl
def c90r0 : List AOper :=
 [oo 2 (.alloc [.int .i64 0, .int .i64 0, .int .i64 0, .int .i64 0, .int .i64 0, .int .i64 0, .int .i64 0, .bool false, .int .i64 0, .str [], .str [], .str [], .bool false, .nils, .str [], .str [], .int .i64 0, .int .i64 0, .str [], .bool false, .nils, .str [], .nils, .nils, .nils]),
 oV 3 0]
def c90r1 : List AOper :=
 [oM 6 0,
 oo 7 (.call (.c (.fn 140 [])) [.t 6]),
 oU 8 7,
 oM 9 8,
 oMf 10 9 0,
 oof 11 9 (.lenS (.t 10)),
 oKf 12 9 .gtr 11 262144,
 oT 13 9 12]
def c90r2 : List AOper :=
 [oo 14 (.build [.int .i64 0, .int .i64 0, .int .i64 0, .int .i64 0, .int .i64 0, .int .i64 0, .int .i64 0, .bool false, .int .i64 0, .str [], .str [], .str [], .bool false, .nils, .str [], .str [], .int .i64 0, .int .i64 0, .str [], .bool false, .nils, .str [], .nils, .nils, .nils] []),
 ⟨none, none, .store (.t 2) (.t 14) 25⟩,oV 3 160]
def c90r3 : List AOper :=
 [oM 15 0,
 oM 16 0,
 oo 17 (.lenS (.t 16)),
 oK 18 .sub 17 4,
 oo 19 (.slcS (.t 15) none (some (.t 18))),
 oo 20 (.build [.str [], .bool false] [(0, 1, .t 19), (1, 1, .c (.bool true))]),
 oo 21 (.box (.t 20)),
 oM 4 21]
def c90r4 : List AOper :=
 [oo 5 (.alloc [.int .i64 0, .int .i64 0, .int .i64 0, .int .i64 0, .int .i64 0, .int .i64 0, .int .i64 0, .bool false, .int .i64 0, .str [], .str [], .str [], .bool false, .nils, .str [], .str [], .int .i64 0, .int .i64 0, .str [], .bool false, .nils, .str [], .nils, .nils, .nils])]
def c90r5 : List AOper :=
 [oM 22 4,
 oo 23 (.mki 217 (.t 22)),
 oo 24 (.call (.c (.fn 141 [])) [.t 23, .t 5]),
 oU 25 24,
 oM 26 25,
 oMf 27 26 4,
 oNf 28 26 27,
 oFf 29 26 28 1,
 oLf 30 26 29,
 oUf 31 26 30,
 oT 32 26 31,
 oM 33 32,
 oMf 34 33 4,
 oNf 35 33 34,
 oFf 36 33 35 0,
 oLf 37 33 36,
 oof 38 33 (.bin .neq (.t 37) (.c (.str []))),
 oT 39 33 38]
def c90r6 : List AOper :=
 [oo 40 (.build [.int .i64 0, .int .i64 0, .int .i64 0, .int .i64 0, .int .i64 0, .int .i64 0, .int .i64 0, .bool false, .int .i64 0, .str [], .str [], .str [], .bool false, .nils, .str [], .str [], .int .i64 0, .int .i64 0, .str [], .bool false, .nils, .str [], .nils, .nils, .nils] []),
 ⟨none, none, .store (.t 2) (.t 40) 25⟩,oV 3 160]
def c90r7 : List AOper :=
 [oS 41 5 25,
 ⟨none, none, .store (.t 2) (.t 41) 25⟩,oV 3 0]
def c90 : AC := (.seq (.region c90r0) (.seq (.seq (.region c90r1) (.cond (.t 13) (.seq (.region c90r2) .ret) .skip)) (.seq (.region c90r3) (.seq (.region c90r4) (.seq (.seq (.region c90r5) (.cond (.t 39) (.seq (.region c90r6) .ret) .skip)) (.seq (.region c90r7) .ret))))))
def r90 : List ARes := [.cell 2 (some 25), .tmp 3]
theorem c90_ok : Tryz.f90.body.bind (cCode Tryz.prog Tryz.f90.ntmps) = some c90 := by kernel_rfl
theorem r90_ok : Tryz.f90.results.toList.mapM (cRes Tryz.prog Tryz.f90.ntmps) = some r90 := by kernel_rfl
def c91r0 : List AOper :=
 [oo 1 (.box (.t 0)),
 oo 2 (.mv (.c (.str [])))]
def c91r1 : List AOper :=
 [oF 6 1 0,
 oL 7 6,
 oF 8 1 1,
 oL 9 8,
 oF 10 1 2,
 oL 11 10,
 oF 12 1 3,
 oL 13 12,
 oF 14 1 6,
 oL 15 14,
 oF 16 1 7,
 oL 17 16,
 oF 18 1 8,
 oL 19 18,
 oF 20 1 4,
 oL 21 20,
 oF 22 1 5,
 oL 23 22,
 oo 24 (.build [.int .i64 0, .str [], .str [], .str [], .bool false, .nils, .str [], .str [], .int .i64 0] [(0, 1, .t 21), (8, 1, .t 23)]),
 oo 25 (.build [.int .i64 0, .int .i64 0, .int .i64 0, .int .i64 0, .int .i64 0, .int .i64 0, .int .i64 0, .bool false, .int .i64 0, .str [], .str [], .str [], .bool false, .nils, .str [], .str [], .int .i64 0, .int .i64 0, .str [], .bool false, .nils, .str [], .nils, .nils, .nils] [(0, 1, .c (.int .i64 4)), (22, 1, .t 7), (6, 1, .t 9), (3, 1, .t 11), (5, 1, .t 13), (1, 1, .t 15), (2, 1, .t 17), (4, 1, .t 19), (8, 9, .t 24)]),
 oo 26 (.call (.c (.fn 59 [])) [.t 25]),
 oM 5 26,
 oE 27 5 0,
 oE 28 5 1,
 oM 3 27,
 oM 4 28]
def c91r2 : List AOper :=
 [oM 29 3,
 oM 2 29]
def c91 : AC := (.seq (.region c91r0) (.seq (.region c91r1) (.seq (.region c91r2) .ret)))
def r91 : List ARes := [.tmp 2]
theorem c91_ok : Tryz.f91.body.bind (cCode Tryz.prog Tryz.f91.ntmps) = some c91 := by kernel_rfl
theorem r91_ok : Tryz.f91.results.toList.mapM (cRes Tryz.prog Tryz.f91.ntmps) = some r91 := by kernel_rfl
def c92r0 : List AOper :=
 [oo 4 (.mv (.c (.bool false)))]
def c92r1 : List AOper :=
 [oo 5 (.mv (.c .nils))]
def c92r2 : List AOper :=
 [oM 8 0,
 oG 9 8,
 oV 10 0]
def c92r3 : List AOper :=
 [oB 11 .lss 10 9]
def c92r4 : List AOper :=
 [oI 12 8 10 6,
 oS 13 12 6,
 oo 7 (.alloc [.int .i64 0, .str [], .str [], .int .i64 0, .int .i64 0, .int .i64 0]),
 ⟨none, none, .store (.t 7) (.t 13) 6⟩]
def c92r5 : List AOper :=
 [oF 14 7 4,
 oL 15 14,
 oK 16 .lss 15 0,
 oM 17 16,
 oFf 18 17 7 4,
 oLf 19 17 18,
 oMf 20 17 1,
 oBf 21 17 .geq 19 20,
 oT 22 17 21,
 oM 23 22,
 oFf 24 23 7 5,
 oLf 25 23 24,
 oKf 26 23 .neq 25 2,
 oT 27 23 26]
def c92r6 : List AOper :=
 [oo 4 (.mv (.c (.bool false)))]
def c92r7 : List AOper :=
 [oM 28 5,
 oF 29 7 1,
 oS 30 29 2,
 oo 31 (.bslice 1 2 [.str [], .str []] [(0, .t 30)]),
 oo 32 (.append (.t 28) (.t 31) 2 32 false),
 oM 5 32]
def c92r8 : List AOper :=
 [oK 33 .add 10 1,
 oM 10 33]
def c92l0 : AC := (.seq (.region c92r3) (.seq (.cond (.t 11) .skip (.exit 0)) (.seq (.block 1 (.seq (.region c92r4) (.seq (.seq (.region c92r5) (.cond (.t 27) (.seq (.region c92r6) .ret) .skip)) (.region c92r7)))) (.region c92r8))))
def c92r9 : List AOper :=
 [oM 34 5,
 oo 35 (.call (.c (.fn 142 [])) [.t 34]),
 oM 4 35]
def c92 : AC := (.seq (.region c92r0) (.seq (.region c92r1) (.seq (.seq (.region c92r2) (.block 0 (.loop c92l0))) (.seq (.region c92r9) .ret))))
def r92 : List ARes := [.tmp 4]
theorem c92_ok : Tryz.f92.body.bind (cCode Tryz.prog Tryz.f92.ntmps) = some c92 := by kernel_rfl
theorem r92_ok : Tryz.f92.results.toList.mapM (cRes Tryz.prog Tryz.f92.ntmps) = some r92 := by kernel_rfl
def c93r0 : List AOper :=
 [oo 2 (.box (.t 0)),
 oo 4 (.mv (.c (.bool false)))]
def c93r1 : List AOper :=
 [oF 6 2 4,
 oL 7 6,
 oK 8 .eql 7 0]
def c93d0 : List (AOper × List Nat) :=
 [(oS 9 2 9, []),
 (oS 10 2 9, []),
 (oo 11 (.call (.c (.fn 96 [])) [.t 10]), [1]),
 (oo 12 (.call (.c (.fn 143 [])) [.t 9, .t 11]), [0, 2, 2]),
 (oM 4 12, [3, 3, 0, 1, 2, 3])]
def c93r2 : List AOper :=
 [oF 13 2 4,
 oL 14 13,
 oK 15 .eql 14 7,
 oM 16 15,
 oFt 17 16 2 5,
 oLt 18 16 17,
 oKt 19 16 .eql 18 3,
 oP 20 16 19]
def c93r3 : List AOper :=
 [oF 21 2 7,
 oL 22 21,
 oF 23 2 8,
 oL 24 23,
 oo 25 (.mm true [.t 22, .t 24]),
 oM 26 1,
 oB 27 .lss 25 26,
 oM 4 27]
def c93r4 : List AOper :=
 [oS 28 2 9,
 oF 29 2 6,
 oL 30 29,
 oo 31 (.call (.c (.fn 94 [])) [.t 28, .t 30]),
 oM 5 31]
def c93r5 : List AOper :=
 [oM 32 5,
 oK 33 .lss 32 0,
 oM 34 33,
 oFf 35 34 2 2,
 oLf 36 34 35,
 oKf 37 34 .lss 36 1,
 oT 38 34 37,
 oM 39 38,
 oFf 40 39 2 3,
 oLf 41 39 40,
 oKf 42 39 .lss 41 2,
 oT 43 39 42]
def c93r6 : List AOper :=
 [oo 4 (.mv (.c (.bool false)))]
def c93r7 : List AOper :=
 [oF 44 2 4,
 oL 45 44]
def c93r8 : List AOper :=
 [oK 47 .eql 45 5,
 oM 46 47]
def c93r9 : List AOper :=
 [oF 48 2 5,
 oL 49 48,
 oK 50 .eql 49 1,
 oM 51 50,
 oFt 52 51 2 7,
 oLt 53 51 52,
 oKt 54 51 .eql 53 0,
 oP 55 51 54,
 oM 56 55,
 oFt 57 56 2 8,
 oLt 58 56 57,
 oKt 59 56 .eql 58 0,
 oP 60 56 59,
 oM 4 60]
def c93r10 : List AOper :=
 [oK 62 .eql 45 6,
 oM 61 62]
def c93d1 : List (AOper × List Nat) :=
 [(oF 63 2 5, []),
 (oL 64 63, [0]),
 (oK 65 .eql 64 1, [1]),
 (oM 66 65, [2]),
 (oFt 67 66 2 8, [3]),
 (oLt 68 66 67, [4, 3]),
 (oKt 69 66 .eql 68 0, [5, 3]),
 (oP 70 66 69, [3, 6]),
 (oM 71 70, [7, 3]),
 (oMt 72 71 5, [8]),
 (oKt 73 71 .add 72 1, [9, 8]),
 (oFt 74 71 2 0, [8]),
 (oLt 75 71 74, [11, 8]),
 (oGt 76 71 75, [12, 8]),
 (oBt 77 71 .lss 73 76, [10, 13, 8]),
 (oP 78 71 77, [8, 14]),
 (oM 79 78, [15, 8]),
 (oFt 80 79 2 0, [16]),
 (oLt 81 79 80, [17, 16]),
 (oMt 82 79 5, [16]),
 (oKt 83 79 .add 82 1, [19, 16]),
 (oIt 84 79 81 83 6, [18, 20, 16]),
 (oFt 85 79 84 0, [21, 16]),
 (oLt 86 79 85, [22, 16]),
 (oFt 87 79 2 7, [16]),
 (oLt 88 79 87, [24, 16]),
 (oBt 89 79 .eql 86 88, [23, 25, 16]),
 (oP 90 79 89, [16, 26]),
 (oM 91 90, [27, 16]),
 (oFt 92 91 2 0, [28]),
 (oLt 93 91 92, [29, 28]),
 (oMt 94 91 5, [28]),
 (oIt 95 91 93 94 6, [30, 31, 28]),
 (oFt 96 91 95 4, [32, 28]),
 (oLt 97 91 96, [33, 28]),
 (oFt 98 91 2 0, [28]),
 (oLt 99 91 98, [35, 28]),
 (oMt 100 91 5, [28]),
 (oKt 101 91 .add 100 1, [37, 28]),
 (oIt 102 91 99 101 6, [36, 38, 28]),
 (oFt 103 91 102 4, [39, 28]),
 (oLt 104 91 103, [40, 28]),
 (oBt 105 91 .eql 97 104, [34, 41, 28]),
 (oP 106 91 105, [28, 42]),
 (oM 4 106, [43, 28, 0, 1, 2, 3, 4, 5, 6, 7, 8, 9, 10, 11, 12, 13, 14, 15, 16, 17, 18, 19, 20, 21, 22, 23, 24, 25, 26, 27, 28, 29, 30, 31, 32, 33, 34, 35, 36, 37, 38, 39, 40, 41, 42, 43])]
def c93d2 : List (AOper × List Nat) :=
 [(oF 107 2 5, []),
 (oL 108 107, [0]),
 (oK 109 .eql 108 1, [1]),
 (oM 110 109, [2]),
 (oFf 111 110 2 5, [3]),
 (oLf 112 110 111, [4, 3]),
 (oKf 113 110 .eql 112 2, [5, 3]),
 (oT 114 110 113, [3, 6]),
 (oM 115 114, [7, 3]),
 (oFt 116 115 2 8, [8]),
 (oLt 117 115 116, [9, 8]),
 (oMt 118 115 1, [8]),
 (oBt 119 115 .lss 117 118, [10, 11, 8]),
 (oP 120 115 119, [8, 12]),
 (oM 121 120, [13, 8]),
 (oFt 122 121 2 8, [14]),
 (oLt 123 121 122, [15, 14]),
 (oFt 124 121 2 7, [14]),
 (oLt 125 121 124, [17, 14]),
 (oBt 126 121 .neq 123 125, [16, 18, 14]),
 (oP 127 121 126, [14, 19]),
 (oM 128 127, [20, 14]),
 (oFt 129 128 2 0, [21]),
 (oLt 130 128 129, [22, 21]),
 (oMt 131 128 5, [21]),
 (oIt 132 128 130 131 6, [23, 24, 21]),
 (oFt 133 128 132 4, [25, 21]),
 (oLt 134 128 133, [26, 21]),
 (oFt 135 128 2 7, [21]),
 (oLt 136 128 135, [28, 21]),
 (oBt 137 128 .eql 134 136, [27, 29, 21]),
 (oP 138 128 137, [21, 30]),
 (oM 4 138, [31, 21, 0, 1, 2, 3, 4, 5, 6, 7, 8, 9, 10, 11, 12, 13, 14, 15, 16, 17, 18, 19, 20, 21, 22, 23, 24, 25, 26, 27, 28, 29, 30, 31])]
def c93 : AC := (.seq (.region c93r0) (.seq (.seq (.region c93r1) (.cond (.t 8) (.seq (.drawn c93d0) .ret) .skip)) (.seq (.seq (.region c93r2) (.cond (.t 20) (.seq (.region c93r3) .ret) .skip)) (.seq (.region c93r4) (.seq (.seq (.region c93r5) (.cond (.t 43) (.seq (.region c93r6) .ret) .skip)) (.seq (.seq (.region c93r7) (.block 0 (.seq (.region c93r8) (.cond (.t 46) (.seq (.region c93r9) .ret) (.seq (.region c93r10) (.cond (.t 61) (.seq (.drawn c93d1) .ret) .skip)))))) (.seq (.drawn c93d2) .ret)))))))
def r93 : List ARes := [.tmp 4]
theorem c93_ok : Tryz.f93.body.bind (cCode Tryz.prog Tryz.f93.ntmps) = some c93 := by kernel_rfl
theorem r93_ok : Tryz.f93.results.toList.mapM (cRes Tryz.prog Tryz.f93.ntmps) = some r93 := by kernel_rfl
def c94r0 : List AOper :=
 [oo 2 (.box (.t 0)),
 oo 3 (.box (.t 1)),
 oV 4 0]
def c94r1 : List AOper :=
 [oF 5 2 0,
 oL 6 5,
 oo 7 (.mkf 144 [.t 3]),
 oo 8 (.call (.c (.fn 103 [])) [.t 6, .t 7]),
 oM 4 8]
def c94 : AC := (.seq (.region c94r0) (.seq (.region c94r1) .ret))
def r94 : List ARes := [.tmp 4]
theorem c94_ok : Tryz.f94.body.bind (cCode Tryz.prog Tryz.f94.ntmps) = some c94 := by kernel_rfl
theorem r94_ok : Tryz.f94.results.toList.mapM (cRes Tryz.prog Tryz.f94.ntmps) = some r94 := by kernel_rfl
def c95r0 : List AOper :=
 [oo 2 (.box (.t 0)),
 oo 4 (.mv (.c (.bool false)))]
def c95r1 : List AOper :=
 [oF 5 2 0,
 oL 6 5,
 oK 7 .eql 6 15,
 oM 8 7,
 oFt 9 8 2 5,
 oLt 10 8 9,
 oMt 11 8 1,
 oBt 12 8 .eql 10 11,
 oP 13 8 12,
 oM 4 13]
def c95 : AC := (.seq (.region c95r0) (.seq (.region c95r1) .ret))
def r95 : List ARes := [.tmp 4]
theorem c95_ok : Tryz.f95.body.bind (cCode Tryz.prog Tryz.f95.ntmps) = some c95 := by kernel_rfl
theorem r95_ok : Tryz.f95.results.toList.mapM (cRes Tryz.prog Tryz.f95.ntmps) = some r95 := by kernel_rfl
def c96r0 : List AOper :=
 [oo 1 (.box (.t 0)),
 oo 2 (.alloc [.nils, .int .i64 0, .int .i64 0, .int .i64 0, .int .i64 0, .int .i64 0, .int .i64 0, .int .i64 0, .int .i64 0])]
def c96r1 : List AOper :=
 [oF 3 1 4,
 ⟨none, none, .store (.t 3) (.c (.int .i64 0)) 1⟩,oF 4 1 5,
 ⟨none, none, .store (.t 4) (.c (.int .i64 0)) 1⟩,oF 5 1 6,
 ⟨none, none, .store (.t 5) (.c (.int .i64 0)) 1⟩,oF 6 1 7,
 ⟨none, none, .store (.t 6) (.c (.int .i64 0)) 1⟩,oF 7 1 8,
 ⟨none, none, .store (.t 7) (.c (.int .i64 0)) 1⟩]
def c96r2 : List AOper :=
 [oS 8 1 9,
 ⟨none, none, .store (.t 2) (.t 8) 9⟩]
def c96 : AC := (.seq (.region c96r0) (.seq (.region c96r1) (.seq (.region c96r2) .ret)))
def r96 : List ARes := [.cell 2 (some 9)]
theorem c96_ok : Tryz.f96.body.bind (cCode Tryz.prog Tryz.f96.ntmps) = some c96 := by kernel_rfl
theorem r96_ok : Tryz.f96.results.toList.mapM (cRes Tryz.prog Tryz.f96.ntmps) = some r96 := by kernel_rfl
def c97r0 : List AOper :=
 [oo 2 (.box (.t 0)),
 oo 4 (.mv (.c (.bool false)))]
def c97r1 : List AOper :=
 [oF 5 2 0,
 oL 6 5,
 oK 7 .eql 6 14,
 oM 8 7,
 oFt 9 8 2 5,
 oLt 10 8 9,
 oMt 11 8 1,
 oBt 12 8 .eql 10 11,
 oP 13 8 12,
 oM 4 13]
def c97 : AC := (.seq (.region c97r0) (.seq (.region c97r1) .ret))
def r97 : List ARes := [.tmp 4]
theorem c97_ok : Tryz.f97.body.bind (cCode Tryz.prog Tryz.f97.ntmps) = some c97 := by kernel_rfl
theorem r97_ok : Tryz.f97.results.toList.mapM (cRes Tryz.prog Tryz.f97.ntmps) = some r97 := by kernel_rfl
def c98r0 : List AOper :=
 [oo 4 (.mv (.c (.bool false)))]
def c98r1 : List AOper :=
 [oM 5 0,
 oM 6 1,
 oo 7 (.call (.c (.fn 145 [])) [.t 5, .t 6, .c (.fn 146 [])]),
 oM 4 7]
def c98 : AC := (.seq (.region c98r0) (.seq (.region c98r1) .ret))
def r98 : List ARes := [.tmp 4]
theorem c98_ok : Tryz.f98.body.bind (cCode Tryz.prog Tryz.f98.ntmps) = some c98 := by kernel_rfl
theorem r98_ok : Tryz.f98.results.toList.mapM (cRes Tryz.prog Tryz.f98.ntmps) = some r98 := by kernel_rfl
def c99r0 : List AOper :=
 [oo 1 (.box (.t 0)),
 oo 2 (.mv (.c .nils))]
def c99r1 : List AOper :=
 [oF 4 1 3,
 oL 5 4,
 oK 6 .sub 5 2,
 oF 7 1 2,
 oL 8 7,
 oo 9 (.build [.int .i64 0, .str [], .str [], .int .i64 0, .int .i64 0, .int .i64 0] [(0, 1, .t 6), (3, 1, .t 8)]),
 oo 3 (.alloc [.int .i64 0, .str [], .str [], .int .i64 0, .int .i64 0, .int .i64 0]),
 ⟨none, none, .store (.t 3) (.t 9) 6⟩]
def c99r2 : List AOper :=
 [oF 10 1 4,
 oL 11 10,
 oK 12 .neq 11 5]
def c99r3 : List AOper :=
 [oS 13 3 6,
 oo 14 (.bslice 1 6 [.int .i64 0, .str [], .str [], .int .i64 0, .int .i64 0, .int .i64 0] [(0, .t 13)]),
 oM 2 14]
def c99r4 : List AOper :=
 [oS 15 3 6,
 oF 16 1 3,
 oL 17 16,
 oK 18 .sub 17 1,
 oF 19 1 2,
 oL 20 19,
 oo 21 (.build [.int .i64 0, .str [], .str [], .int .i64 0, .int .i64 0, .int .i64 0] [(0, 1, .t 18), (3, 1, .t 20)]),
 oo 22 (.bslice 2 6 [.int .i64 0, .str [], .str [], .int .i64 0, .int .i64 0, .int .i64 0] [(0, .t 15), (1, .t 21)]),
 oM 2 22]
def c99 : AC := (.seq (.region c99r0) (.seq (.region c99r1) (.seq (.seq (.region c99r2) (.cond (.t 12) (.seq (.region c99r3) .ret) .skip)) (.seq (.region c99r4) .ret))))
def r99 : List ARes := [.tmp 2]
theorem c99_ok : Tryz.f99.body.bind (cCode Tryz.prog Tryz.f99.ntmps) = some c99 := by kernel_rfl
theorem r99_ok : Tryz.f99.results.toList.mapM (cRes Tryz.prog Tryz.f99.ntmps) = some r99 := by kernel_rfl
def c100r0 : List AOper :=
 [oo 2 (.box (.t 0)),
 oo 3 (.box (.t 1)),
 oo 4 (.alloc [.str [], .str []]),
 oV 5 0]
def c100r1 : List AOper :=
 [oS 6 2 2,
 oo 7 (.call (.c (.fn 147 [])) [.t 6]),
 oU 8 7,
 oM 9 8,
 oSf 10 9 3 2,
 oof 11 9 (.call (.c (.fn 147 [])) [.t 10]),
 oUf 12 9 11,
 oT 13 9 12,
 oM 14 13,
 oFf 15 14 2 1,
 oLf 16 14 15,
 oof 17 14 (.bin .eql (.t 16) (.c (.str []))),
 oT 18 14 17,
 oM 19 18,
 oFf 20 19 3 0,
 oLf 21 19 20,
 oFf 22 19 2 1,
 oLf 23 19 22,
 oBf 24 19 .neq 21 23,
 oT 25 19 24]
def c100r2 : List AOper :=
 [oo 26 (.build [.str [], .str []] []),
 ⟨none, none, .store (.t 4) (.t 26) 2⟩,oV 5 1]
def c100r3 : List AOper :=
 [oF 27 2 0,
 oL 28 27,
 oF 29 3 1,
 oL 30 29,
 oo 31 (.build [.str [], .str []] [(0, 1, .t 28), (1, 1, .t 30)]),
 ⟨none, none, .store (.t 4) (.t 31) 2⟩,oV 5 0]
def c100 : AC := (.seq (.region c100r0) (.seq (.seq (.region c100r1) (.cond (.t 25) (.seq (.region c100r2) .ret) .skip)) (.seq (.region c100r3) .ret)))
def r100 : List ARes := [.cell 4 (some 2), .tmp 5]
theorem c100_ok : Tryz.f100.body.bind (cCode Tryz.prog Tryz.f100.ntmps) = some c100 := by kernel_rfl
theorem r100_ok : Tryz.f100.results.toList.mapM (cRes Tryz.prog Tryz.f100.ntmps) = some r100 := by kernel_rfl
def c101r0 : List AOper :=
 [oo 4 (.box (.t 0)),
 oo 8 (.alloc [.nils, .int .i64 0, .int .i64 0, .int .i64 0, .int .i64 0, .int .i64 0, .int .i64 0, .int .i64 0, .int .i64 0])]
def c101r1 : List AOper :=
 [oM 10 3,
 oG 11 10,
 oV 12 0]
def c101r2 : List AOper :=
 [oB 13 .lss 12 11]
def c101r3 : List AOper :=
 [oM 14 12,
 oM 9 14]
def c101r4 : List AOper :=
 [oM 15 3,
 oM 16 9,
 oI 17 15 16 6,
 oF 18 17 5,
 ⟨none, none, .store (.t 18) (.c (.int .i64 2)) 1⟩]
def c101r5 : List AOper :=
 [oK 19 .add 12 1,
 oM 12 19]
def c101l0 : AC := (.seq (.region c101r2) (.seq (.cond (.t 13) .skip (.exit 0)) (.seq (.block 1 (.seq (.region c101r3) (.region c101r4))) (.region c101r5))))
def c101d0 : List (AOper × List Nat) :=
 [(oF 20 4 0, []),
 (oL 21 20, [0]),
 (oM 22 1, []),
 (oo 23 (.slc (.t 21) none (some (.t 22)) none 6), [1, 2]),
 (oM 24 3, []),
 (oF 25 4 0, []),
 (oL 26 25, [5]),
 (oM 27 1, []),
 (oM 28 2, []),
 (oB 29 .add 27 28, [7, 8]),
 (oo 30 (.slc (.t 26) (some (.t 29)) none none 6), [6, 9]),
 (oo 31 (.bslice 3 1 [.nils] [(0, .t 23), (1, .t 24), (2, .t 30)]), [3, 4, 10]),
 (oo 32 (.call (.c (.fn 148 [])) [.t 31]), [11]),
 (oF 33 4 0, [0, 1, 2, 3, 4, 5, 6, 7, 8, 9, 10, 11, 12]),
 (⟨none, none, .store (.t 33) (.t 32) 1⟩, [13, 12, 12, 0, 1, 2, 3, 4, 5, 6, 7, 8, 9, 10, 11, 12])]
def c101r6 : List AOper :=
 [oS 34 4 9,
 ⟨none, none, .store (.t 8) (.t 34) 9⟩]
def c101 : AC := (.seq (.region c101r0) (.seq (.seq (.region c101r1) (.block 0 (.loop c101l0))) (.seq (.drawn c101d0) (.seq (.region c101r6) .ret))))
def r101 : List ARes := [.cell 8 (some 9)]
theorem c101_ok : Tryz.f101.body.bind (cCode Tryz.prog Tryz.f101.ntmps) = some c101 := by kernel_rfl
theorem r101_ok : Tryz.f101.results.toList.mapM (cRes Tryz.prog Tryz.f101.ntmps) = some r101 := by kernel_rfl
def c102r0 : List AOper :=
 [oo 2 (.mv (.c (.bool false)))]
def c102r1 : List AOper :=
 [oM 3 0,
 oo 4 (.bin .neq (.t 3) (.c (.str []))),
 oM 5 4,
 oMt 6 5 0,
 oot 7 5 (.lenS (.t 6)),
 oKt 8 5 .leq 7 64,
 oP 9 5 8,
 oM 2 9]
def c102 : AC := (.seq (.region c102r0) (.seq (.region c102r1) .ret))
def r102 : List ARes := [.tmp 2]
theorem c102_ok : Tryz.f102.body.bind (cCode Tryz.prog Tryz.f102.ntmps) = some c102 := by kernel_rfl
theorem r102_ok : Tryz.f102.results.toList.mapM (cRes Tryz.prog Tryz.f102.ntmps) = some r102 := by kernel_rfl
def c103r0 : List AOper :=
 [oV 4 0]
def c103r1 : List AOper :=
 [oM 6 0,
 oG 7 6,
 oV 8 0]
def c103r2 : List AOper :=
 [oB 9 .lss 8 7]
def c103r3 : List AOper :=
 [oM 10 8,
 oM 5 10]
def c103r4 : List AOper :=
 [oM 11 1,
 oM 12 0,
 oM 13 5,
 oI 14 12 13 6,
 oS 15 14 6,
 oo 16 (.call (.t 11) [.t 15])]
def c103r5 : List AOper :=
 [oM 17 5,
 oM 4 17]
def c103r6 : List AOper :=
 [oK 18 .add 8 1,
 oM 8 18]
def c103l0 : AC := (.seq (.region c103r2) (.seq (.cond (.t 9) .skip (.exit 0)) (.seq (.block 1 (.seq (.region c103r3) (.seq (.region c103r4) (.cond (.t 16) (.seq (.region c103r5) .ret) .skip)))) (.region c103r6))))
def c103r7 : List AOper :=
 [oo 4 (.mv (.c (.int .i64 (-1))))]
def c103 : AC := (.seq (.region c103r0) (.seq (.seq (.region c103r1) (.block 0 (.loop c103l0))) (.seq (.region c103r7) .ret)))
def r103 : List ARes := [.tmp 4]
theorem c103_ok : Tryz.f103.body.bind (cCode Tryz.prog Tryz.f103.ntmps) = some c103 := by kernel_rfl
theorem r103_ok : Tryz.f103.results.toList.mapM (cRes Tryz.prog Tryz.f103.ntmps) = some r103 := by kernel_rfl
def c104r0 : List AOper :=
 [oo 2 (.box (.t 0)),
 oo 3 (.mv (.c (.bool false)))]
def c104r1 : List AOper :=
 [oF 4 2 1,
 oS 5 4 2,
 oL 6 1,
 oo 7 (.call (.c (.fn 105 [])) [.t 5, .t 6]),
 oM 3 7]
def c104 : AC := (.seq (.region c104r0) (.seq (.region c104r1) .ret))
def r104 : List ARes := [.tmp 3]
theorem c104_ok : Tryz.f104.body.bind (cCode Tryz.prog Tryz.f104.ntmps) = some c104 := by kernel_rfl
theorem r104_ok : Tryz.f104.results.toList.mapM (cRes Tryz.prog Tryz.f104.ntmps) = some r104 := by kernel_rfl
def c105r0 : List AOper :=
 [oo 2 (.box (.t 0)),
 oo 4 (.mv (.c (.bool false)))]
def c105r1 : List AOper :=
 [oS 5 2 2,
 oo 6 (.call (.c (.fn 147 [])) [.t 5]),
 oM 7 6,
 oMt 8 7 1,
 oot 9 7 (.call (.c (.fn 102 [])) [.t 8]),
 oP 10 7 9,
 oM 11 10,
 oFt 12 11 2 0,
 oLt 13 11 12,
 oMt 14 11 1,
 oBt 15 11 .leq 13 14,
 oP 16 11 15,
 oM 17 16,
 oMt 18 17 1,
 oFt 19 17 2 1,
 oLt 20 17 19,
 oot 21 17 (.call (.c (.fn 149 [])) [.t 18, .t 20]),
 oP 22 17 21,
 oM 4 22]
def c105 : AC := (.seq (.region c105r0) (.seq (.region c105r1) .ret))
def r105 : List ARes := [.tmp 4]
theorem c105_ok : Tryz.f105.body.bind (cCode Tryz.prog Tryz.f105.ntmps) = some c105 := by kernel_rfl
theorem r105_ok : Tryz.f105.results.toList.mapM (cRes Tryz.prog Tryz.f105.ntmps) = some r105 := by kernel_rfl
def c111r0 : List AOper :=
 [oo 1 (.box (.t 0)),
 oo 2 (.mv (.c (.str []))),
 oo 3 (.mv (.c (.bool false)))]
def c111r1 : List AOper :=
 [oo 6 (.build [.nilp, .nils, .bool false] [(2, 1, .c (.bool true))]),
 oo 7 (.boxT (.t 6) 232 3),
 oM 4 7]
def c111r2 : List AOper :=
 [oM 8 4,
 oo 9 (.mki 230 (.t 8)),
 oo 10 (.call (.c (.fn 141 [])) [.t 9, .t 1]),
 oM 5 10]
def c111d0 : List (AOper × List Nat) :=
 [(oM 11 4, []),
 (oN 12 11, [0]),
 (oF 13 12 0, [1]),
 (oo 14 (.call (.c (.fn 133 [])) [.t 13]), [2]),
 (oM 15 5, []),
 (oM 16 15, [4, 3]),
 (oMt 17 16 4, [5]),
 (oNt 18 16 17, [6, 5]),
 (oFt 19 16 18 2, [7, 5]),
 (oLt 20 16 19, [8, 5]),
 (oP 21 16 20, [5, 9]),
 (oM 2 14, [3, 5, 0, 1, 2, 3]),
 (oM 3 21, [10, 11, 0, 1, 2, 3, 4, 5, 6, 7, 8, 9, 10, 11])]
def c111 : AC := (.seq (.region c111r0) (.seq (.region c111r1) (.seq (.region c111r2) (.seq (.drawn c111d0) .ret))))
def r111 : List ARes := [.tmp 2, .tmp 3]
theorem c111_ok : Tryz.f111.body.bind (cCode Tryz.prog Tryz.f111.ntmps) = some c111 := by kernel_rfl
theorem r111_ok : Tryz.f111.results.toList.mapM (cRes Tryz.prog Tryz.f111.ntmps) = some r111 := by kernel_rfl
def c112r0 : List AOper :=
 [oo 2 (.mv (.c (.str [])))]
def c112r1 : List AOper :=
 [oM 3 0,
 oM 4 0,
 oo 5 (.call (.c (.fn 154 [])) [.t 4]),
 oo 6 (.call (.c (.fn 153 [])) [.t 5]),
 oB 7 .add 3 6,
 oM 2 7]
def c112 : AC := (.seq (.region c112r0) (.seq (.region c112r1) .ret))
def r112 : List ARes := [.tmp 2]
theorem c112_ok : Tryz.f112.body.bind (cCode Tryz.prog Tryz.f112.ntmps) = some c112 := by kernel_rfl
theorem r112_ok : Tryz.f112.results.toList.mapM (cRes Tryz.prog Tryz.f112.ntmps) = some r112 := by kernel_rfl
def c123r0 : List AOper :=
 [oo 6 (.mv (.c .nilp)),
 oV 7 0]
def c123r1 : List AOper :=
 [oM 11 0,
 oM 12 2,
 oM 13 1,
 oo 14 (.bslice 1 1 [.str []] [(0, .t 13)]),
 oo 15 (.append (.t 12) (.t 14) 1 16 false),
 oo 16 (.call (.c (.fn 128 [])) [.t 11, .t 15]),
 oM 8 16]
def c123r2 : List AOper :=
 [oM 17 8,
 oK 18 .neq 17 0]
def c123r3 : List AOper :=
 [oM 19 8,
 oo 6 (.mv (.c .nilp)),
 oM 7 19]
def c123r4 : List AOper :=
 [oM 21 0,
 oN 22 21,
 oF 23 22 0,
 oL 24 23,
 oM 25 1,
 oo 26 (.mget 1 (.t 24) (.t 25) .nilp true),
 oM 20 26,
 oE 27 20 0,
 oE 28 20 1,
 oM 9 27,
 oM 10 28]
def c123r5 : List AOper :=
 [oM 29 10,
 oU 30 29]
def c123r6 : List AOper :=
 [oo 6 (.mv (.c .nilp)),
 oV 7 3]
def c123r7 : List AOper :=
 [oM 31 9,
 oM 6 31,
 oV 7 0]
def c123 : AC := (.seq (.region c123r0) (.seq (.seq (.region c123r1) (.seq (.region c123r2) (.cond (.t 18) (.seq (.region c123r3) .ret) .skip))) (.seq (.region c123r4) (.seq (.seq (.region c123r5) (.cond (.t 30) (.seq (.region c123r6) .ret) .skip)) (.seq (.region c123r7) .ret)))))
def r123 : List ARes := [.tmp 6, .tmp 7]
theorem c123_ok : Tryz.f123.body.bind (cCode Tryz.prog Tryz.f123.ntmps) = some c123 := by kernel_rfl
theorem r123_ok : Tryz.f123.results.toList.mapM (cRes Tryz.prog Tryz.f123.ntmps) = some r123 := by kernel_rfl
def c126r0 : List AOper :=
 [oV 4 0]
def c126r1 : List AOper :=
 [oV 5 0]
def c126r2 : List AOper :=
 [oM 10 0,
 oM 11 5,
 oo 12 (.slcS (.t 10) (some (.t 11)) none),
 oo 13 (.call (.c (.fn 165 [])) [.t 12]),
 oM 9 13,
 oE 14 9 0,
 oE 15 9 1,
 oE 16 9 2,
 oM 6 14,
 oM 7 15,
 oM 8 16]
def c126r3 : List AOper :=
 [oM 17 8,
 oK 18 .neq 17 0]
def c126r4 : List AOper :=
 [oM 19 5,
 oM 4 19]
def c126r5 : List AOper :=
 [oM 20 1,
 oM 21 6,
 oo 22 (.call (.t 20) [.t 21])]
def c126r6 : List AOper :=
 [oM 23 5,
 oM 24 7,
 oB 25 .add 23 24,
 oM 5 25]
def c126l0 : AC := (.block 1 (.seq (.region c126r2) (.seq (.seq (.region c126r3) (.cond (.t 18) (.seq (.region c126r4) .ret) .skip)) (.seq (.region c126r5) (.region c126r6)))))
def c126 : AC := (.seq (.region c126r0) (.seq (.region c126r1) (.block 0 (.loop c126l0))))
def r126 : List ARes := [.tmp 4]
theorem c126_ok : Tryz.f126.body.bind (cCode Tryz.prog Tryz.f126.ntmps) = some c126 := by kernel_rfl
theorem r126_ok : Tryz.f126.results.toList.mapM (cRes Tryz.prog Tryz.f126.ntmps) = some r126 := by kernel_rfl
def c127r0 : List AOper :=
 [oL 3 1,
 oM 4 0,
 oo 5 (.bslice 1 1 [.str []] [(0, .t 4)]),
 oo 6 (.append (.t 3) (.t 5) 1 16 false),
 ⟨none, none, .store (.t 1) (.t 6) 1⟩]
def c127 : AC := (.region c127r0)
def r127 : List ARes := []
theorem c127_ok : Tryz.f127.body.bind (cCode Tryz.prog Tryz.f127.ntmps) = some c127 := by kernel_rfl
theorem r127_ok : Tryz.f127.results.toList.mapM (cRes Tryz.prog Tryz.f127.ntmps) = some r127 := by kernel_rfl
def c128r0 : List AOper :=
 [oV 4 0]
def c128r1 : List AOper :=
 [oM 5 0,
 oM 6 1,
 oo 7 (.call (.c (.fn 44 [])) [.t 5, .t 6]),
 oU 8 7]
def c128r2 : List AOper :=
 [oV 4 1]
def c128r3 : List AOper :=
 [oM 9 0,
 oM 10 0,
 oN 11 10,
 oF 12 11 2,
 oL 13 12,
 oM 14 13,
 oMf 15 14 0,
 oNf 16 14 15,
 oFf 17 14 16 1,
 oLf 18 14 17,
 oKf 19 14 .eql 18 0,
 oT 20 14 19,
 oN 21 9,
 oF 22 21 2,
 ⟨none, none, .store (.t 22) (.t 20) 1⟩]
def c128r4 : List AOper :=
 [oM 23 0,
 oN 24 23,
 oF 25 24 2,
 oL 26 25]
def c128r5 : List AOper :=
 [oV 4 50]
def c128r6 : List AOper :=
 [oM 27 0,
 oN 28 27,
 oF 29 28 1,
 oL 30 29,
 oK 31 .gtr 30 0]
def c128r7 : List AOper :=
 [oM 32 0,
 oN 33 32,
 oF 34 33 1,
 oL 35 34,
 oK 36 .sub 35 1,
 oN 37 32,
 oF 38 37 1,
 ⟨none, none, .store (.t 38) (.t 36) 1⟩]
def c128r8 : List AOper :=
 [oV 4 0]
def c128 : AC := (.seq (.region c128r0) (.seq (.seq (.region c128r1) (.cond (.t 8) (.seq (.region c128r2) .ret) .skip)) (.seq (.seq (.region c128r3) (.seq (.region c128r4) (.cond (.t 26) (.seq (.region c128r5) .ret) .skip))) (.seq (.seq (.region c128r6) (.cond (.t 31) (.region c128r7) .skip)) (.seq (.region c128r8) .ret)))))
def r128 : List ARes := [.tmp 4]
theorem c128_ok : Tryz.f128.body.bind (cCode Tryz.prog Tryz.f128.ntmps) = some c128 := by kernel_rfl
theorem r128_ok : Tryz.f128.results.toList.mapM (cRes Tryz.prog Tryz.f128.ntmps) = some r128 := by kernel_rfl
def c129r0 : List AOper :=
 [oo 2 (.mv (.c (.str []))),
 oV 3 0]
def c129r1 : List AOper :=
 [oM 7 0,
 oo 8 (.call (.c (.fn 166 [])) [.t 7]),
 oM 6 8,
 oE 9 6 0,
 oE 10 6 1,
 oM 4 9,
 oM 5 10]
def c129r2 : List AOper :=
 [oM 11 5,
 oK 12 .neq 11 0]
def c129r3 : List AOper :=
 [oM 13 5,
 oo 2 (.mv (.c (.str []))),
 oM 3 13]
def c129r4 : List AOper :=
 [oM 14 4,
 oo 15 (.call (.c (.fn 112 [])) [.t 14]),
 oM 2 15,
 oV 3 0]
def c129 : AC := (.seq (.region c129r0) (.seq (.region c129r1) (.seq (.seq (.region c129r2) (.cond (.t 12) (.seq (.region c129r3) .ret) .skip)) (.seq (.region c129r4) .ret))))
def r129 : List ARes := [.tmp 2, .tmp 3]
theorem c129_ok : Tryz.f129.body.bind (cCode Tryz.prog Tryz.f129.ntmps) = some c129 := by kernel_rfl
theorem r129_ok : Tryz.f129.results.toList.mapM (cRes Tryz.prog Tryz.f129.ntmps) = some r129 := by kernel_rfl
def c130r0 : List AOper :=
 [oV 6 0]
def c130r1 : List AOper :=
 [oM 10 0,
 oM 11 1,
 oo 12 (.call (.c (.fn 123 [])) [.t 10, .t 11, .c .nils]),
 oM 9 12,
 oE 13 9 0,
 oE 14 9 1,
 oM 7 13,
 oM 8 14]
def c130r2 : List AOper :=
 [oM 16 8,
 oK 17 .neq 16 0,
 oM 15 17]
def c130r3 : List AOper :=
 [oM 18 8,
 oM 6 18]
def c130r4 : List AOper :=
 [oM 20 2,
 oo 21 (.lenS (.t 20)),
 oM 22 7,
 oN 23 22,
 oF 24 23 0,
 oL 25 24,
 oG 26 25,
 oo 27 (.bin .sub (.c (.int .i64 4194304)) (.t 26)),
 oB 28 .gtr 21 27,
 oM 19 28]
def c130r5 : List AOper :=
 [oV 6 2]
def c130r6 : List AOper :=
 [oM 29 7,
 oM 30 7,
 oN 31 30,
 oF 32 31 0,
 oL 33 32,
 oM 34 2,
 oo 35 (.appendB (.t 33) (.t 34) 1 5),
 oN 36 29,
 oF 37 36 0,
 ⟨none, none, .store (.t 37) (.t 35) 1⟩]
def c130r7 : List AOper :=
 [oV 6 0]
def c130 : AC := (.seq (.region c130r0) (.seq (.region c130r1) (.seq (.block 0 (.seq (.region c130r2) (.cond (.t 15) (.seq (.region c130r3) .ret) (.seq (.region c130r4) (.cond (.t 19) (.seq (.region c130r5) .ret) .skip))))) (.seq (.region c130r6) (.seq (.region c130r7) .ret)))))
def r130 : List ARes := [.tmp 6]
theorem c130_ok : Tryz.f130.body.bind (cCode Tryz.prog Tryz.f130.ntmps) = some c130 := by kernel_rfl
theorem r130_ok : Tryz.f130.results.toList.mapM (cRes Tryz.prog Tryz.f130.ntmps) = some r130 := by kernel_rfl
def c131r0 : List AOper :=
 [oo 2 (.mv (.c (.str []))),
 oV 3 0]
def c131r1 : List AOper :=
 [oM 5 0,
 oK 6 .lss 5 0,
 oM 7 6,
 oMf 8 7 0,
 oKf 9 7 .gtr 8 4611686018427387904,
 oT 10 7 9]
def c131r2 : List AOper :=
 [oo 2 (.mv (.c (.str []))),
 oV 3 1]
def c131r3 : List AOper :=
 [oo 4 (.mv (.c .nils))]
def c131r4 : List AOper :=
 [oM 11 0,
 oK 12 .geq 11 128]
def c131r5 : List AOper :=
 [oM 15 4,
 oM 16 0,
 oo 17 (.convI .u8 (.t 16)),
 oo 18 (.bin .or (.t 17) (.c (.int .u8 128))),
 oo 19 (.bslice 1 1 [.int .u8 0] [(0, .t 18)]),
 oo 20 (.append (.t 15) (.t 19) 1 1 false),
 oM 4 20]
def c131r6 : List AOper :=
 [oM 13 0,
 oo 14 (.bin .shr (.t 13) (.c (.int .u64 7))),
 oM 0 14]
def c131l0 : AC := (.seq (.seq (.region c131r4) (.cond (.t 12) .skip (.exit 0))) (.seq (.block 1 (.region c131r5)) (.region c131r6)))
def c131r7 : List AOper :=
 [oM 21 4,
 oM 22 0,
 oo 23 (.convI .u8 (.t 22)),
 oo 24 (.bslice 1 1 [.int .u8 0] [(0, .t 23)]),
 oo 25 (.append (.t 21) (.t 24) 1 1 false),
 oo 26 (.b2s (.t 25)),
 oM 2 26,
 oV 3 0]
def c131 : AC := (.seq (.region c131r0) (.seq (.seq (.region c131r1) (.cond (.t 10) (.seq (.region c131r2) .ret) .skip)) (.seq (.region c131r3) (.seq (.block 0 (.loop c131l0)) (.seq (.region c131r7) .ret)))))
def r131 : List ARes := [.tmp 2, .tmp 3]
theorem c131_ok : Tryz.f131.body.bind (cCode Tryz.prog Tryz.f131.ntmps) = some c131 := by kernel_rfl
theorem r131_ok : Tryz.f131.results.toList.mapM (cRes Tryz.prog Tryz.f131.ntmps) = some r131 := by kernel_rfl
def c132r0 : List AOper :=
 [oV 4 0,
 oo 5 (.mv (.c .any))]
def c132r1 : List AOper :=
 [oM 6 0,
 oo 7 (.call (.c (.fn 167 [])) [.t 6])]
def c132r2 : List AOper :=
 [oM 8 0,
 oM 9 0,
 oN 10 9,
 oF 11 10 1,
 oL 12 11,
 oM 13 1,
 oo 14 (.appendB (.t 12) (.t 13) 1 5),
 oN 15 8,
 oF 16 15 1,
 ⟨none, none, .store (.t 16) (.t 14) 1⟩]
def c132r3 : List AOper :=
 [oM 17 1,
 oo 18 (.lenS (.t 17)),
 oM 4 18,
 oo 5 (.mv (.c .any))]
def c132 : AC := (.seq (.region c132r0) (.seq (.region c132r1) (.seq (.region c132r2) (.seq (.region c132r3) .ret))))
def r132 : List ARes := [.tmp 4, .tmp 5]
theorem c132_ok : Tryz.f132.body.bind (cCode Tryz.prog Tryz.f132.ntmps) = some c132 := by kernel_rfl
theorem r132_ok : Tryz.f132.results.toList.mapM (cRes Tryz.prog Tryz.f132.ntmps) = some r132 := by kernel_rfl
def c133r0 : List AOper :=
 [oo 2 (.mv (.c (.str [])))]
def c133d0 : List (AOper × List Nat) :=
 [(oM 3 0, []),
 (oN 4 3, [0]),
 (oF 5 4 1, [1]),
 (oL 6 5, [2]),
 (oo 7 (.usd (.t 6)), [3]),
 (oM 8 0, []),
 (oN 9 8, [5]),
 (oF 10 9 1, [6]),
 (oL 11 10, [7]),
 (oG 12 11, [8]),
 (oo 13 (.ustr (.t 7) (.t 12) 5), [4, 9]),
 (oM 2 13, [10, 0, 1, 2, 3, 4, 5, 6, 7, 8, 9, 10])]
def c133 : AC := (.seq (.region c133r0) (.seq (.drawn c133d0) .ret))
def r133 : List ARes := [.tmp 2]
theorem c133_ok : Tryz.f133.body.bind (cCode Tryz.prog Tryz.f133.ntmps) = some c133 := by kernel_rfl
theorem r133_ok : Tryz.f133.results.toList.mapM (cRes Tryz.prog Tryz.f133.ntmps) = some r133 := by kernel_rfl
def c134r0 : List AOper :=
 [oV 4 0]
def c134r1 : List AOper :=
 [oM 8 0,
 oM 9 1,
 oo 10 (.call (.c (.fn 123 [])) [.t 8, .t 9, .c .nils]),
 oM 7 10,
 oE 11 7 0,
 oE 12 7 1,
 oM 5 11,
 oM 6 12]
def c134r2 : List AOper :=
 [oM 13 6,
 oK 14 .eql 13 0]
def c134r3 : List AOper :=
 [oM 15 5,
 oM 16 5,
 oN 17 16,
 oF 18 17 0,
 oL 19 18,
 oG 20 19,
 oN 21 15,
 oF 22 21 1,
 ⟨none, none, .store (.t 22) (.t 20) 1⟩]
def c134r4 : List AOper :=
 [oM 23 6,
 oM 4 23]
def c134 : AC := (.seq (.region c134r0) (.seq (.region c134r1) (.seq (.seq (.region c134r2) (.cond (.t 14) (.region c134r3) .skip)) (.seq (.region c134r4) .ret))))
def r134 : List ARes := [.tmp 4]
theorem c134_ok : Tryz.f134.body.bind (cCode Tryz.prog Tryz.f134.ntmps) = some c134 := by kernel_rfl
theorem r134_ok : Tryz.f134.results.toList.mapM (cRes Tryz.prog Tryz.f134.ntmps) = some r134 := by kernel_rfl
def c135r0 : List AOper :=
 [oV 4 0]
def c135r1 : List AOper :=
 [oM 6 0,
 oG 7 6,
 oV 8 0]
def c135r2 : List AOper :=
 [oB 9 .lss 8 7]
def c135r3 : List AOper :=
 [oM 10 8,
 oM 5 10]
def c135r4 : List AOper :=
 [oM 11 1,
 oM 12 0,
 oM 13 5,
 oI 14 12 13 2,
 oS 15 14 2,
 oo 16 (.call (.t 11) [.t 15])]
def c135r5 : List AOper :=
 [oM 17 5,
 oM 4 17]
def c135r6 : List AOper :=
 [oK 18 .add 8 1,
 oM 8 18]
def c135l0 : AC := (.seq (.region c135r2) (.seq (.cond (.t 9) .skip (.exit 0)) (.seq (.block 1 (.seq (.region c135r3) (.seq (.region c135r4) (.cond (.t 16) (.seq (.region c135r5) .ret) .skip)))) (.region c135r6))))
def c135r7 : List AOper :=
 [oo 4 (.mv (.c (.int .i64 (-1))))]
def c135 : AC := (.seq (.region c135r0) (.seq (.seq (.region c135r1) (.block 0 (.loop c135l0))) (.seq (.region c135r7) .ret)))
def r135 : List ARes := [.tmp 4]
theorem c135_ok : Tryz.f135.body.bind (cCode Tryz.prog Tryz.f135.ntmps) = some c135 := by kernel_rfl
theorem r135_ok : Tryz.f135.results.toList.mapM (cRes Tryz.prog Tryz.f135.ntmps) = some r135 := by kernel_rfl
def c140r0 : List AOper :=
 [oo 2 (.mv (.c (.bool false)))]
def c140r1 : List AOper :=
 [oM 4 0,
 oo 5 (.lenS (.t 4)),
 oK 6 .sub 5 4,
 oM 3 6]
def c140d0 : List (AOper × List Nat) :=
 [(oM 7 3, []),
 (oK 8 .geq 7 0, [0]),
 (oM 9 8, [1]),
 (oMt 10 9 0, [2]),
 (oMt 11 9 3, [2]),
 (oot 12 9 (.slcS (.t 10) (some (.t 11)) none), [3, 4, 2]),
 (oMt 13 9 0, [2]),
 (oMt 14 9 3, [2]),
 (oot 15 9 (.slcS (.t 13) none (some (.t 14))), [6, 7, 2]),
 (oot 16 9 (.call (.c (.fn 154 [])) [.t 15]), [8, 2, 2]),
 (oot 17 9 (.call (.c (.fn 153 [])) [.t 16]), [9, 9, 2]),
 (oBt 18 9 .eql 12 17, [5, 10, 2]),
 (oP 19 9 18, [2, 11]),
 (oM 2 19, [12, 10, 0, 1, 2, 3, 4, 5, 6, 7, 8, 9, 10, 11, 12])]
def c140 : AC := (.seq (.region c140r0) (.seq (.region c140r1) (.seq (.drawn c140d0) .ret)))
def r140 : List ARes := [.tmp 2]
theorem c140_ok : Tryz.f140.body.bind (cCode Tryz.prog Tryz.f140.ntmps) = some c140 := by kernel_rfl
theorem r140_ok : Tryz.f140.results.toList.mapM (cRes Tryz.prog Tryz.f140.ntmps) = some r140 := by kernel_rfl
def c141r0 : List AOper :=
 [oo 2 (.box (.t 0)),
 oo 4 (.mv (.c (.bool false)))]
def c141d0 : List (AOper × List Nat) :=
 [(oM 8 1, []),
 (oN 9 8, [0]),
 (oF 10 9 0, [1]),
 (oM 11 1, []),
 (oN 12 11, [3]),
 (oF 13 12 1, [4]),
 (oM 14 1, []),
 (oN 15 14, [6]),
 (oF 16 15 2, [7]),
 (oM 17 1, []),
 (oN 18 17, [9]),
 (oF 19 18 3, [10]),
 (oM 20 1, []),
 (oN 21 20, [12]),
 (oF 22 21 4, [13]),
 (oM 23 1, []),
 (oN 24 23, [15]),
 (oF 25 24 5, [16]),
 (oM 26 1, []),
 (oN 27 26, [18]),
 (oF 28 27 6, [19]),
 (oo 29 (.bslice 7 1 [.nilp] [(0, .t 10), (1, .t 13), (2, .t 16), (3, .t 19), (4, .t 22), (5, .t 25), (6, .t 28)]), [2, 5, 8, 11, 14, 17, 20]),
 (oG 30 29, [21]),
 (oV 31 0, [])]
def c141r1 : List AOper :=
 [oB 32 .lss 31 30]
def c141r2 : List AOper :=
 [oI 33 29 31 1,
 oL 34 33,
 oM 6 34]
def c141r3 : List AOper :=
 [oL 35 2,
 oM 36 6,
 oo 37 (.call (.inv 35 [(217, 253), (230, 255)]) [.unw 35, .t 36])]
def c141r4 : List AOper :=
 [oK 38 .add 31 1,
 oM 31 38]
def c141l0 : AC := (.seq (.region c141r1) (.seq (.cond (.t 32) .skip (.exit 0)) (.seq (.block 1 (.seq (.region c141r2) (.region c141r3))) (.region c141r4))))
def c141d1 : List (AOper × List Nat) :=
 [(oM 39 1, []),
 (oN 40 39, [0]),
 (oF 41 40 0, [1]),
 (oL 42 41, [2]),
 (oK 43 .lss 42 1, [3]),
 (oM 44 43, [4]),
 (oMf 45 44 1, [5]),
 (oNf 46 44 45, [6, 5]),
 (oFf 47 44 46 0, [7, 5]),
 (oLf 48 44 47, [8, 5]),
 (oKf 49 44 .gtr 48 15, [9, 5]),
 (oT 50 44 49, [5, 10]),
 (oM 51 50, [11, 5]),
 (oLf 52 51 2, [12]),
 (oMf 53 51 1, [12]),
 (oNf 54 51 53, [14, 12]),
 (oFf 55 51 54 7, [15, 12]),
 (oof 56 51 (.call (.c (.fn 171 [])) [.t 52, .t 55]), [13, 16, 12, 12]),
 (oUf 57 51 56, [17, 12]),
 (oT 58 51 57, [12, 18]),
 (oM 59 58, [19, 17]),
 (oLf 60 59 2, [20]),
 (oMf 61 59 1, [20]),
 (oNf 62 59 61, [22, 20]),
 (oFf 63 59 62 8, [23, 20]),
 (oof 64 59 (.call (.c (.fn 172 [])) [.t 60, .t 63]), [21, 24, 20, 20]),
 (oUf 65 59 64, [25, 20]),
 (oT 66 59 65, [20, 26]),
 (oM 67 66, [27, 25]),
 (oLf 68 67 2, [28]),
 (oMf 69 67 1, [28]),
 (oNf 70 67 69, [30, 28]),
 (oFf 71 67 70 17, [31, 28]),
 (oof 72 67 (.call (.c (.fn 173 [])) [.t 68, .t 71]), [29, 32, 28, 28]),
 (oUf 73 67 72, [33, 28]),
 (oT 74 67 73, [28, 34])]
def c141r5 : List AOper :=
 [oo 4 (.mv (.c (.bool false)))]
def c141d2 : List (AOper × List Nat) :=
 [(oL 75 2, []),
 (oM 76 1, []),
 (oN 77 76, [1]),
 (oF 78 77 17, [2]),
 (oF 79 78 3, [3]),
 (oo 80 (.mkf 175 [.t 2]), []),
 (oo 81 (.call (.c (.fn 174 [])) [.t 75, .t 79, .c (.int .i64 512), .t 80]), [0, 4, 5]),
 (oM 7 81, [6, 6, 0, 1, 2, 3, 4, 5, 6])]
def c141d3 : List (AOper × List Nat) :=
 [(oL 82 2, []),
 (oM 83 1, []),
 (oN 84 83, [1]),
 (oF 85 84 17, [2]),
 (oF 86 85 4, [3]),
 (oo 87 (.mkm1 "sorrel/post.text" (.t 82)), [0]),
 (oN 88 87, [5]),
 (oM 89 82, [0, 5, 6]),
 (oo 90 (.call (.inv 89 [(217, 254), (230, 256)]) [.unw 89, .t 86]), [7, 4])]
def c141d4 : List (AOper × List Nat) :=
 [(oM 91 7, []),
 (oM 92 91, [0]),
 (oLt 93 92 2, [1]),
 (oMt 94 92 1, [1]),
 (oNt 95 92 94, [3, 1]),
 (oFt 96 92 95 22, [4, 1]),
 (oot 97 92 (.mkf 177 [.t 2]), [1]),
 (oot 98 92 (.call (.c (.fn 176 [])) [.t 93, .t 96, .c (.int .i64 64), .t 97]), [2, 5, 6, 1, 1]),
 (oP 99 92 98, [1, 7]),
 (oM 7 99, [8, 7, 0, 1, 2, 3, 4, 5, 6, 7, 8])]
def c141d5 : List (AOper × List Nat) :=
 [(oM 100 7, []),
 (oM 101 100, [0]),
 (oLt 102 101 2, [1]),
 (oMt 103 101 1, [1]),
 (oNt 104 101 103, [3, 1]),
 (oFt 105 101 104 23, [4, 1]),
 (oot 106 101 (.mkf 179 [.t 2]), [1]),
 (oot 107 101 (.call (.c (.fn 178 [])) [.t 102, .t 105, .c (.int .i64 512), .t 106]), [2, 5, 6, 1, 1]),
 (oP 108 101 107, [1, 7]),
 (oM 7 108, [8, 7, 0, 1, 2, 3, 4, 5, 6, 7, 8])]
def c141d6 : List (AOper × List Nat) :=
 [(oM 109 7, []),
 (oM 110 109, [0]),
 (oLt 111 110 2, [1]),
 (oMt 112 110 1, [1]),
 (oNt 113 110 112, [3, 1]),
 (oFt 114 110 113 24, [4, 1]),
 (oot 115 110 (.mkf 181 [.t 2]), [1]),
 (oot 116 110 (.call (.c (.fn 180 [])) [.t 111, .t 114, .c (.int .i64 8), .t 115]), [2, 5, 6, 1, 1]),
 (oP 117 110 116, [1, 7]),
 (oM 4 117, [8, 7, 0, 1, 2, 3, 4, 5, 6, 7, 8])]
def c141 : AC := (.seq (.region c141r0) (.seq (.seq (.drawn c141d0) (.block 0 (.loop c141l0))) (.seq (.seq (.drawn c141d1) (.cond (.t 74) (.seq (.region c141r5) .ret) .skip)) (.seq (.drawn c141d2) (.seq (.drawn c141d3) (.seq (.drawn c141d4) (.seq (.drawn c141d5) (.seq (.drawn c141d6) .ret))))))))
def r141 : List ARes := [.tmp 4]
theorem c141_ok : Tryz.f141.body.bind (cCode Tryz.prog Tryz.f141.ntmps) = some c141 := by kernel_rfl
theorem r141_ok : Tryz.f141.results.toList.mapM (cRes Tryz.prog Tryz.f141.ntmps) = some r141 := by kernel_rfl
def c142r0 : List AOper :=
 [oo 2 (.mv (.c (.bool false)))]
def c142r1 : List AOper :=
 [oo 3 (.mv (.c (.str []))),
 oo 4 (.mv (.c (.bool false)))]
def c142r2 : List AOper :=
 [oM 7 0,
 oG 8 7,
 oV 9 0]
def c142r3 : List AOper :=
 [oB 10 .lss 9 8]
def c142r4 : List AOper :=
 [oI 11 7 9 2,
 oS 12 11 2,
 oo 6 (.alloc [.str [], .str []]),
 ⟨none, none, .store (.t 6) (.t 12) 2⟩]
def c142r5 : List AOper :=
 [oS 13 6 2,
 oo 14 (.call (.c (.fn 147 [])) [.t 13]),
 oU 15 14,
 oM 16 15,
 oMf 17 16 4,
 oT 18 16 17,
 oM 19 18,
 oFf 20 19 6 0,
 oLf 21 19 20,
 oMf 22 19 3,
 oBf 23 19 .neq 21 22,
 oT 24 19 23]
def c142r6 : List AOper :=
 [oo 2 (.mv (.c (.bool false)))]
def c142d0 : List (AOper × List Nat) :=
 [(oF 25 6 1, []),
 (oL 26 25, [0]),
 (oF 27 6 1, []),
 (oL 28 27, [2]),
 (oo 29 (.bin .eql (.t 28) (.c (.str []))), [3]),
 (oM 3 26, [1, 0, 1]),
 (oM 4 29, [4, 5, 0, 1, 2, 3, 4, 5])]
def c142r7 : List AOper :=
 [oK 30 .add 9 1,
 oM 9 30]
def c142l0 : AC := (.seq (.region c142r3) (.seq (.cond (.t 10) .skip (.exit 0)) (.seq (.block 1 (.seq (.region c142r4) (.seq (.seq (.region c142r5) (.cond (.t 24) (.seq (.region c142r6) .ret) .skip)) (.drawn c142d0)))) (.region c142r7))))
def c142r8 : List AOper :=
 [oM 31 4,
 oM 2 31]
def c142 : AC := (.seq (.region c142r0) (.seq (.region c142r1) (.seq (.seq (.region c142r2) (.block 0 (.loop c142l0))) (.seq (.region c142r8) .ret))))
def r142 : List ARes := [.tmp 2]
theorem c142_ok : Tryz.f142.body.bind (cCode Tryz.prog Tryz.f142.ntmps) = some c142 := by kernel_rfl
theorem r142_ok : Tryz.f142.results.toList.mapM (cRes Tryz.prog Tryz.f142.ntmps) = some r142 := by kernel_rfl
def c143r0 : List AOper :=
 [oo 2 (.box (.t 0)),
 oo 3 (.box (.t 1)),
 oo 4 (.mv (.c (.bool false)))]
def c143r1 : List AOper :=
 [oF 5 2 4,
 oL 6 5,
 oF 7 3 4,
 oL 8 7,
 oB 9 .eql 6 8,
 oM 10 9,
 oFt 11 10 2 5,
 oLt 12 10 11,
 oFt 13 10 3 5,
 oLt 14 10 13,
 oBt 15 10 .eql 12 14,
 oP 16 10 15,
 oM 17 16,
 oFt 18 17 2 6,
 oLt 19 17 18,
 oFt 20 17 3 6,
 oLt 21 17 20,
 oBt 22 17 .eql 19 21,
 oP 23 17 22,
 oM 24 23,
 oFt 25 24 2 7,
 oLt 26 24 25,
 oFt 27 24 3 7,
 oLt 28 24 27,
 oBt 29 24 .eql 26 28,
 oP 30 24 29,
 oM 31 30,
 oFt 32 31 2 8,
 oLt 33 31 32,
 oFt 34 31 3 8,
 oLt 35 31 34,
 oBt 36 31 .eql 33 35,
 oP 37 31 36,
 oM 4 37]
def c143 : AC := (.seq (.region c143r0) (.seq (.region c143r1) .ret))
def r143 : List ARes := [.tmp 4]
theorem c143_ok : Tryz.f143.body.bind (cCode Tryz.prog Tryz.f143.ntmps) = some c143 := by kernel_rfl
theorem r143_ok : Tryz.f143.results.toList.mapM (cRes Tryz.prog Tryz.f143.ntmps) = some r143 := by kernel_rfl
def c144r0 : List AOper :=
 [oo 2 (.box (.t 0)),
 oo 3 (.mv (.c (.bool false)))]
def c144r1 : List AOper :=
 [oF 4 2 0,
 oL 5 4,
 oL 6 1,
 oB 7 .eql 5 6,
 oM 3 7]
def c144 : AC := (.seq (.region c144r0) (.seq (.region c144r1) .ret))
def r144 : List ARes := [.tmp 3]
theorem c144_ok : Tryz.f144.body.bind (cCode Tryz.prog Tryz.f144.ntmps) = some c144 := by kernel_rfl
theorem r144_ok : Tryz.f144.results.toList.mapM (cRes Tryz.prog Tryz.f144.ntmps) = some r144 := by kernel_rfl
def c145r0 : List AOper :=
 [oo 6 (.mv (.c (.bool false)))]
def c145r1 : List AOper :=
 [oM 10 0,
 oG 11 10,
 oM 12 1,
 oG 13 12,
 oB 14 .neq 11 13]
def c145r2 : List AOper :=
 [oo 6 (.mv (.c (.bool false)))]
def c145r3 : List AOper :=
 [oM 15 0,
 oG 16 15,
 oV 17 0]
def c145r4 : List AOper :=
 [oB 18 .lss 17 16]
def c145r5 : List AOper :=
 [oM 19 17,
 oI 20 15 17 6,
 oS 21 20 6,
 oo 8 (.alloc [.int .i64 0, .str [], .str [], .int .i64 0, .int .i64 0, .int .i64 0]),
 oM 7 19,
 ⟨none, none, .store (.t 8) (.t 21) 6⟩]
def c145r6 : List AOper :=
 [oM 22 1,
 oM 23 7,
 oI 24 22 23 6,
 oS 25 24 6,
 oo 9 (.alloc [.int .i64 0, .str [], .str [], .int .i64 0, .int .i64 0, .int .i64 0]),
 ⟨none, none, .store (.t 9) (.t 25) 6⟩]
def c145r7 : List AOper :=
 [oM 26 2,
 oS 27 8 6,
 oS 28 9 6,
 oo 29 (.call (.t 26) [.t 27, .t 28]),
 oU 30 29]
def c145r8 : List AOper :=
 [oo 6 (.mv (.c (.bool false)))]
def c145r9 : List AOper :=
 [oK 31 .add 17 1,
 oM 17 31]
def c145l0 : AC := (.seq (.region c145r4) (.seq (.cond (.t 18) .skip (.exit 0)) (.seq (.block 1 (.seq (.region c145r5) (.seq (.region c145r6) (.seq (.region c145r7) (.cond (.t 30) (.seq (.region c145r8) .ret) .skip))))) (.region c145r9))))
def c145r10 : List AOper :=
 [oo 6 (.mv (.c (.bool true)))]
def c145 : AC := (.seq (.region c145r0) (.seq (.seq (.region c145r1) (.cond (.t 14) (.seq (.region c145r2) .ret) .skip)) (.seq (.seq (.region c145r3) (.block 0 (.loop c145l0))) (.seq (.region c145r10) .ret))))
def r145 : List ARes := [.tmp 6]
theorem c145_ok : Tryz.f145.body.bind (cCode Tryz.prog Tryz.f145.ntmps) = some c145 := by kernel_rfl
theorem r145_ok : Tryz.f145.results.toList.mapM (cRes Tryz.prog Tryz.f145.ntmps) = some r145 := by kernel_rfl
def c146r0 : List AOper :=
 [oo 2 (.box (.t 0)),
 oo 3 (.box (.t 1)),
 oo 4 (.mv (.c (.bool false)))]
def c146r1 : List AOper :=
 [oF 5 2 0,
 oL 6 5,
 oF 7 3 0,
 oL 8 7,
 oB 9 .eql 6 8,
 oM 10 9,
 oFt 11 10 2 3,
 oLt 12 10 11,
 oFt 13 10 3 3,
 oLt 14 10 13,
 oBt 15 10 .eql 12 14,
 oP 16 10 15,
 oM 4 16]
def c146 : AC := (.seq (.region c146r0) (.seq (.region c146r1) .ret))
def r146 : List ARes := [.tmp 4]
theorem c146_ok : Tryz.f146.body.bind (cCode Tryz.prog Tryz.f146.ntmps) = some c146 := by kernel_rfl
theorem r146_ok : Tryz.f146.results.toList.mapM (cRes Tryz.prog Tryz.f146.ntmps) = some r146 := by kernel_rfl
def c147r0 : List AOper :=
 [oo 1 (.box (.t 0)),
 oo 2 (.mv (.c (.bool false)))]
def c147r1 : List AOper :=
 [oF 3 1 0,
 oL 4 3,
 oo 5 (.lenS (.t 4)),
 oK 6 .leq 5 64,
 oM 7 6,
 oFt 8 7 1 1,
 oLt 9 7 8,
 oot 10 7 (.lenS (.t 9)),
 oKt 11 7 .leq 10 64,
 oP 12 7 11,
 oM 13 12,
 oFt 14 13 1 0,
 oLt 15 13 14,
 oFt 16 13 1 1,
 oLt 17 13 16,
 oot 18 13 (.call (.c (.fn 149 [])) [.t 15, .t 17]),
 oP 19 13 18,
 oM 2 19]
def c147 : AC := (.seq (.region c147r0) (.seq (.region c147r1) .ret))
def r147 : List ARes := [.tmp 2]
theorem c147_ok : Tryz.f147.body.bind (cCode Tryz.prog Tryz.f147.ntmps) = some c147 := by kernel_rfl
theorem r147_ok : Tryz.f147.results.toList.mapM (cRes Tryz.prog Tryz.f147.ntmps) = some r147 := by kernel_rfl
def c148r0 : List AOper :=
 [oo 2 (.mv (.c .nils))]
def c148r1 : List AOper :=
 [oV 3 0]
def c148r2 : List AOper :=
 [oM 9 0,
 oG 10 9,
 oV 11 0]
def c148r3 : List AOper :=
 [oB 12 .lss 11 10]
def c148r4 : List AOper :=
 [oI 13 9 11 1,
 oL 14 13,
 oM 5 14]
def c148r5 : List AOper :=
 [oM 15 3,
 oM 16 5,
 oG 17 16,
 oB 18 .add 15 17,
 oM 3 18]
def c148r6 : List AOper :=
 [oM 19 3,
 oK 20 .lss 19 0]
def c148r7 : List AOper :=
 [oo 21 (.dead),
 ⟨none, none, .dead⟩]
def c148r8 : List AOper :=
 [oK 22 .add 11 1,
 oM 11 22]
def c148l0 : AC := (.seq (.region c148r3) (.seq (.cond (.t 12) .skip (.exit 0)) (.seq (.block 1 (.seq (.region c148r4) (.seq (.region c148r5) (.seq (.region c148r6) (.cond (.t 20) (.region c148r7) .skip))))) (.region c148r8))))
def c148r9 : List AOper :=
 [oM 23 3,
 oo 24 (.call (.c (.fn 182 [])) [.c .nils, .t 23]),
 oM 6 24]
def c148r10 : List AOper :=
 [oM 25 0,
 oG 26 25,
 oV 27 0]
def c148r11 : List AOper :=
 [oB 28 .lss 27 26]
def c148r12 : List AOper :=
 [oI 29 25 27 1,
 oL 30 29,
 oM 8 30]
def c148r13 : List AOper :=
 [oM 31 6,
 oM 32 8,
 oo 33 (.append (.t 31) (.t 32) 6 64 false),
 oM 6 33]
def c148r14 : List AOper :=
 [oK 34 .add 27 1,
 oM 27 34]
def c148l1 : AC := (.seq (.region c148r11) (.seq (.cond (.t 28) .skip (.exit 2)) (.seq (.block 3 (.seq (.region c148r12) (.region c148r13))) (.region c148r14))))
def c148r15 : List AOper :=
 [oM 35 6,
 oM 2 35]
def c148 : AC := (.seq (.region c148r0) (.seq (.region c148r1) (.seq (.seq (.region c148r2) (.block 0 (.loop c148l0))) (.seq (.region c148r9) (.seq (.seq (.region c148r10) (.block 2 (.loop c148l1))) (.seq (.region c148r15) .ret))))))
def r148 : List ARes := [.tmp 2]
theorem c148_ok : Tryz.f148.body.bind (cCode Tryz.prog Tryz.f148.ntmps) = some c148 := by kernel_rfl
theorem r148_ok : Tryz.f148.results.toList.mapM (cRes Tryz.prog Tryz.f148.ntmps) = some r148 := by kernel_rfl
def c149r0 : List AOper :=
 [oo 4 (.mv (.c (.bool false)))]
def c149r1 : List AOper :=
 [oM 5 1,
 oo 6 (.bin .eql (.t 5) (.c (.str []))),
 oM 7 6,
 oMf 8 7 0,
 oMf 9 7 1,
 oBf 10 7 .lss 8 9,
 oT 11 7 10,
 oM 4 11]
def c149 : AC := (.seq (.region c149r0) (.seq (.region c149r1) .ret))
def r149 : List ARes := [.tmp 4]
theorem c149_ok : Tryz.f149.body.bind (cCode Tryz.prog Tryz.f149.ntmps) = some c149 := by kernel_rfl
theorem r149_ok : Tryz.f149.results.toList.mapM (cRes Tryz.prog Tryz.f149.ntmps) = some r149 := by kernel_rfl
def c153r0 : List AOper :=
 [oo 2 (.mv (.c (.str [])))]
def c153r1 : List AOper :=
 [oo 3 (.alloc [.int .u8 0, .int .u8 0, .int .u8 0, .int .u8 0])]
def c153r2 : List AOper :=
 [oV 5 0]
def c153r3 : List AOper :=
 [oK 6 .lss 5 4]
def c153r4 : List AOper :=
 [oM 7 5,
 oM 4 7]
def c153r5 : List AOper :=
 [oM 8 4,
 oM 9 0,
 oM 10 4,
 oo 11 (.bin .mul (.c (.int .i64 8)) (.t 10)),
 oB 12 .shr 9 11,
 oo 13 (.convI .u8 (.t 12)),
 oo 14 (.idxA (.t 3) (.t 8) (some 4) 1),
 ⟨none, none, .store (.t 14) (.t 13) 1⟩]
def c153r6 : List AOper :=
 [oK 15 .add 5 1,
 oM 5 15]
def c153l0 : AC := (.seq (.region c153r3) (.seq (.cond (.t 6) .skip (.exit 0)) (.seq (.block 1 (.seq (.region c153r4) (.region c153r5))) (.region c153r6))))
def c153r7 : List AOper :=
 [oo 16 (.slcA (.t 3) none none 4 1),
 oo 17 (.b2s (.t 16)),
 oM 2 17]
def c153 : AC := (.seq (.region c153r0) (.seq (.region c153r1) (.seq (.seq (.region c153r2) (.block 0 (.loop c153l0))) (.seq (.region c153r7) .ret))))
def r153 : List ARes := [.tmp 2]
theorem c153_ok : Tryz.f153.body.bind (cCode Tryz.prog Tryz.f153.ntmps) = some c153 := by kernel_rfl
theorem r153_ok : Tryz.f153.results.toList.mapM (cRes Tryz.prog Tryz.f153.ntmps) = some r153 := by kernel_rfl
def c154r0 : List AOper :=
 [oV 2 0]
def c154r1 : List AOper :=
 [oM 3 0,
 oo 4 (.call (.c (.fn 184 [])) [.c (.int .i64 0), .t 3]),
 oM 2 4]
def c154 : AC := (.seq (.region c154r0) (.seq (.region c154r1) .ret))
def r154 : List ARes := [.tmp 2]
theorem c154_ok : Tryz.f154.body.bind (cCode Tryz.prog Tryz.f154.ntmps) = some c154 := by kernel_rfl
theorem r154_ok : Tryz.f154.results.toList.mapM (cRes Tryz.prog Tryz.f154.ntmps) = some r154 := by kernel_rfl
def c165r0 : List AOper :=
 [oo 2 (.mv (.c (.str []))),
 oV 3 0,
 oV 4 0]
def c165r1 : List AOper :=
 [oM 9 0,
 oo 10 (.call (.c (.fn 194 [])) [.t 9]),
 oM 8 10,
 oE 11 8 0,
 oE 12 8 1,
 oE 13 8 2,
 oM 5 11,
 oM 6 12,
 oM 7 13]
def c165r2 : List AOper :=
 [oM 14 6,
 oK 15 .add 14 4,
 oM 6 15]
def c165r3 : List AOper :=
 [oM 16 7,
 oK 17 .neq 16 0,
 oM 18 17,
 oMf 19 18 6,
 oMf 20 18 0,
 oof 21 18 (.lenS (.t 20)),
 oBf 22 18 .gtr 19 21,
 oT 23 18 22,
 oM 24 23,
 oMf 25 24 0,
 oMf 26 24 6,
 oof 27 24 (.slcS (.t 25) none (some (.t 26))),
 oof 28 24 (.call (.c (.fn 140 [])) [.t 27]),
 oUf 29 24 28,
 oT 30 24 29]
def c165r4 : List AOper :=
 [oo 2 (.mv (.c (.str []))),
 oV 3 0,
 oV 4 30]
def c165r5 : List AOper :=
 [oM 31 5,
 oM 32 6,
 oM 2 31,
 oM 3 32,
 oV 4 0]
def c165 : AC := (.seq (.region c165r0) (.seq (.region c165r1) (.seq (.seq (.region c165r2) (.seq (.region c165r3) (.cond (.t 30) (.seq (.region c165r4) .ret) .skip))) (.seq (.region c165r5) .ret))))
def r165 : List ARes := [.tmp 2, .tmp 3, .tmp 4]
theorem c165_ok : Tryz.f165.body.bind (cCode Tryz.prog Tryz.f165.ntmps) = some c165 := by kernel_rfl
theorem r165_ok : Tryz.f165.results.toList.mapM (cRes Tryz.prog Tryz.f165.ntmps) = some r165 := by kernel_rfl
def c166r0 : List AOper :=
 [oo 2 (.mv (.c (.str []))),
 oV 3 0]
def c166r1 : List AOper :=
 [oM 6 0,
 oo 7 (.lenS (.t 6)),
 oK 8 .gtr 7 262144]
def c166r2 : List AOper :=
 [oo 2 (.mv (.c (.str []))),
 oV 3 1]
def c166r3 : List AOper :=
 [oM 10 0,
 oo 11 (.lenS (.t 10)),
 oo 12 (.call (.c (.fn 131 [])) [.t 11]),
 oM 9 12,
 oE 13 9 0,
 oE 14 9 1,
 oM 4 13,
 oM 5 14]
def c166r4 : List AOper :=
 [oM 15 4,
 oM 16 0,
 oB 17 .add 15 16,
 oM 2 17,
 oV 3 0]
def c166 : AC := (.seq (.region c166r0) (.seq (.seq (.region c166r1) (.cond (.t 8) (.seq (.region c166r2) .ret) .skip)) (.seq (.region c166r3) (.seq (.region c166r4) .ret))))
def r166 : List ARes := [.tmp 2, .tmp 3]
theorem c166_ok : Tryz.f166.body.bind (cCode Tryz.prog Tryz.f166.ntmps) = some c166 := by kernel_rfl
theorem r166_ok : Tryz.f166.results.toList.mapM (cRes Tryz.prog Tryz.f166.ntmps) = some r166 := by kernel_rfl
def c167r0 : List AOper :=
 [oM 2 0,
 oN 3 2,
 oF 4 3 0,
 oL 5 4,
 oo 6 (.eq false 1 (.t 5) (.c .nilp))]
def c167r1 : List AOper :=
 [oM 7 0,
 oM 8 0,
 oo 9 (.cvU (.t 8)),
 oM 10 9,
 oo 11 (.cvP (.t 10) [(207, 2), (208, 2), (231, 3), (232, 3)]),
 oN 12 7,
 oF 13 12 0,
 ⟨none, none, .store (.t 13) (.t 11) 1⟩]
def c167r2 : List AOper :=
 [oM 14 0,
 oN 15 14,
 oF 16 15 0,
 oL 17 16,
 oM 18 0,
 oo 19 (.eq true 1 (.t 17) (.t 18))]
def c167 : AC := (.seq (.region c167r0) (.cond (.t 6) (.region c167r1) (.seq (.region c167r2) (.cond (.t 19) .stop .skip))))
def r167 : List ARes := []
theorem c167_ok : Tryz.f167.body.bind (cCode Tryz.prog Tryz.f167.ntmps) = some c167 := by kernel_rfl
theorem r167_ok : Tryz.f167.results.toList.mapM (cRes Tryz.prog Tryz.f167.ntmps) = some r167 := by kernel_rfl
def c171r0 : List AOper :=
 [oo 4 (.mv (.c (.bool false)))]
def c171r1 : List AOper :=
 [oo 5 (.alloc [.int .i64 0]),
 ⟨none, none, .store (.t 5) (.c (.int .i64 0)) 1⟩]
def c171r2 : List AOper :=
 [oM 6 1,
 oN 7 6,
 oL 8 7]
def c171r3 : List AOper :=
 [⟨none, none, .store (.t 5) (.c (.int .i64 1)) 1⟩]
def c171r4 : List AOper :=
 [oM 9 0,
 oo 10 (.call (.inv 9 [(217, 253), (230, 255)]) [.unw 9, .t 5])]
def c171r5 : List AOper :=
 [oM 11 1,
 oL 12 5,
 oK 13 .eql 12 1,
 oN 14 11,
 ⟨none, none, .store (.t 14) (.t 13) 1⟩]
def c171r6 : List AOper :=
 [oL 15 5,
 oK 16 .leq 15 1,
 oM 4 16]
def c171 : AC := (.seq (.region c171r0) (.seq (.region c171r1) (.seq (.seq (.region c171r2) (.cond (.t 8) (.region c171r3) .skip)) (.seq (.region c171r4) (.seq (.region c171r5) (.seq (.region c171r6) .ret))))))
def r171 : List ARes := [.tmp 4]
theorem c171_ok : Tryz.f171.body.bind (cCode Tryz.prog Tryz.f171.ntmps) = some c171 := by kernel_rfl
theorem r171_ok : Tryz.f171.results.toList.mapM (cRes Tryz.prog Tryz.f171.ntmps) = some r171 := by kernel_rfl
def c172r0 : List AOper :=
 [oo 2 (.box (.t 0)),
 oo 4 (.mv (.c (.bool false)))]
def c172d0 : List (AOper × List Nat) :=
 [(oL 6 2, []),
 (oM 7 1, []),
 (oN 8 7, [1]),
 (oF 9 8 0, [2]),
 (oo 10 (.mkm1 "sorrel/post.number" (.t 6)), [0]),
 (oN 11 10, [4]),
 (oM 12 6, [0, 4, 5]),
 (oo 13 (.call (.inv 12 [(217, 253), (230, 255)]) [.unw 12, .t 9]), [6, 3])]
def c172d1 : List (AOper × List Nat) :=
 [(oL 14 2, []),
 (oM 15 1, []),
 (oN 16 15, [1]),
 (oF 17 16 1, [2]),
 (oo 18 (.mkm1 "sorrel/post.text" (.t 14)), [0]),
 (oN 19 18, [4]),
 (oM 20 14, [0, 4, 5]),
 (oo 21 (.call (.inv 20 [(217, 254), (230, 256)]) [.unw 20, .t 17]), [6, 3])]
def c172d2 : List (AOper × List Nat) :=
 [(oL 22 2, []),
 (oM 23 1, []),
 (oN 24 23, [1]),
 (oF 25 24 2, [2]),
 (oo 26 (.mkm1 "sorrel/post.text" (.t 22)), [0]),
 (oN 27 26, [4]),
 (oM 28 22, [0, 4, 5]),
 (oo 29 (.call (.inv 28 [(217, 254), (230, 256)]) [.unw 28, .t 25]), [6, 3])]
def c172d3 : List (AOper × List Nat) :=
 [(oL 30 2, []),
 (oM 31 1, []),
 (oN 32 31, [1]),
 (oF 33 32 3, [2]),
 (oo 34 (.mkm1 "sorrel/post.text" (.t 30)), [0]),
 (oN 35 34, [4]),
 (oM 36 30, [0, 4, 5]),
 (oo 37 (.call (.inv 36 [(217, 254), (230, 256)]) [.unw 36, .t 33]), [6, 3])]
def c172d4 : List (AOper × List Nat) :=
 [(oL 38 2, []),
 (oM 39 1, []),
 (oN 40 39, [1]),
 (oF 41 40 4, [2]),
 (oo 42 (.call (.c (.fn 171 [])) [.t 38, .t 41]), [0, 3]),
 (oM 43 42, [4, 4]),
 (oLt 44 43 2, [5]),
 (oMt 45 43 1, [5]),
 (oNt 46 43 45, [7, 5]),
 (oFt 47 43 46 5, [8, 5]),
 (oot 48 43 (.mkf 208 [.t 2]), [5]),
 (oot 49 43 (.call (.c (.fn 207 [])) [.t 44, .t 47, .c (.int .i64 64), .t 48]), [6, 9, 10, 5, 5]),
 (oP 50 43 49, [5, 11]),
 (oM 5 50, [12, 11, 0, 1, 2, 3, 4, 5, 6, 7, 8, 9, 10, 11, 12])]
def c172d5 : List (AOper × List Nat) :=
 [(oL 51 2, []),
 (oM 52 1, []),
 (oN 53 52, [1]),
 (oF 54 53 6, [2]),
 (oF 55 54 0, [3]),
 (oo 56 (.mkm1 "sorrel/post.text" (.t 51)), [0]),
 (oN 57 56, [5]),
 (oM 58 51, [0, 5, 6]),
 (oo 59 (.call (.inv 58 [(217, 254), (230, 256)]) [.unw 58, .t 55]), [7, 4])]
def c172d6 : List (AOper × List Nat) :=
 [(oL 60 2, []),
 (oM 61 1, []),
 (oN 62 61, [1]),
 (oF 63 62 6, [2]),
 (oF 64 63 1, [3]),
 (oo 65 (.mkm1 "sorrel/post.text" (.t 60)), [0]),
 (oN 66 65, [5]),
 (oM 67 60, [0, 5, 6]),
 (oo 68 (.call (.inv 67 [(217, 254), (230, 256)]) [.unw 67, .t 64]), [7, 4])]
def c172d7 : List (AOper × List Nat) :=
 [(oL 69 2, []),
 (oM 70 1, []),
 (oN 71 70, [1]),
 (oF 72 71 8, [2]),
 (oo 73 (.mkm1 "sorrel/post.number" (.t 69)), [0]),
 (oN 74 73, [4]),
 (oM 75 69, [0, 4, 5]),
 (oo 76 (.call (.inv 75 [(217, 253), (230, 255)]) [.unw 75, .t 72]), [6, 3])]
def c172r1 : List AOper :=
 [oM 77 5,
 oM 4 77]
def c172 : AC := (.seq (.region c172r0) (.seq (.drawn c172d0) (.seq (.drawn c172d1) (.seq (.drawn c172d2) (.seq (.drawn c172d3) (.seq (.drawn c172d4) (.seq (.drawn c172d5) (.seq (.drawn c172d6) (.seq (.drawn c172d7) (.seq (.region c172r1) .ret))))))))))
def r172 : List ARes := [.tmp 4]
theorem c172_ok : Tryz.f172.body.bind (cCode Tryz.prog Tryz.f172.ntmps) = some c172 := by kernel_rfl
theorem r172_ok : Tryz.f172.results.toList.mapM (cRes Tryz.prog Tryz.f172.ntmps) = some r172 := by kernel_rfl
def c173r0 : List AOper :=
 [oo 4 (.mv (.c (.bool false)))]
def c173r1 : List AOper :=
 [oM 6 1,
 oN 7 6,
 oF 8 7 0,
 oL 9 8,
 oo 5 (.alloc [.int .i64 0]),
 ⟨none, none, .store (.t 5) (.t 9) 1⟩]
def c173r2 : List AOper :=
 [oM 10 0,
 oo 11 (.call (.inv 10 [(217, 253), (230, 255)]) [.unw 10, .t 5])]
def c173r3 : List AOper :=
 [oM 12 1,
 oL 13 5,
 oN 14 12,
 oF 15 14 0,
 ⟨none, none, .store (.t 15) (.t 13) 1⟩]
def c173d0 : List (AOper × List Nat) :=
 [(oM 16 0, []),
 (oM 17 1, []),
 (oN 18 17, [1]),
 (oF 19 18 1, [2]),
 (oo 20 (.mkm1 "sorrel/post.text" (.t 16)), [0]),
 (oN 21 20, [4]),
 (oM 22 16, [0, 4, 5]),
 (oo 23 (.call (.inv 22 [(217, 254), (230, 256)]) [.unw 22, .t 19]), [6, 3])]
def c173r4 : List AOper :=
 [oM 24 0,
 oM 25 1,
 oN 26 25,
 oF 27 26 2,
 oo 28 (.call (.c (.fn 171 [])) [.t 24, .t 27]),
 oM 4 28]
def c173 : AC := (.seq (.region c173r0) (.seq (.region c173r1) (.seq (.region c173r2) (.seq (.region c173r3) (.seq (.drawn c173d0) (.seq (.region c173r4) .ret))))))
def r173 : List ARes := [.tmp 4]
theorem c173_ok : Tryz.f173.body.bind (cCode Tryz.prog Tryz.f173.ntmps) = some c173 := by kernel_rfl
theorem r173_ok : Tryz.f173.results.toList.mapM (cRes Tryz.prog Tryz.f173.ntmps) = some r173 := by kernel_rfl
def c174r0 : List AOper :=
 [oo 8 (.mv (.c (.bool false)))]
def c174r1 : List AOper :=
 [oM 12 1,
 oN 13 12,
 oL 14 13,
 oG 15 14,
 oo 9 (.alloc [.int .i64 0]),
 ⟨none, none, .store (.t 9) (.t 15) 1⟩]
def c174r2 : List AOper :=
 [oM 16 0,
 oo 17 (.call (.inv 16 [(217, 253), (230, 255)]) [.unw 16, .t 9])]
def c174r3 : List AOper :=
 [oL 18 9,
 oM 19 2,
 oB 20 .gtr 18 19]
def c174r4 : List AOper :=
 [oo 8 (.mv (.c (.bool false)))]
def c174r5 : List AOper :=
 [oL 21 9,
 oV 22 0]
def c174r6 : List AOper :=
 [oB 23 .lss 22 21]
def c174r7 : List AOper :=
 [oM 24 22,
 oM 10 24]
def c174r8 : List AOper :=
 [oo 11 (.alloc [.str [], .str []])]
def c174r9 : List AOper :=
 [oM 25 10,
 oM 26 1,
 oN 27 26,
 oL 28 27,
 oG 29 28,
 oB 30 .lss 25 29]
def c174r10 : List AOper :=
 [oM 31 1,
 oN 32 31,
 oL 33 32,
 oM 34 10,
 oI 35 33 34 2,
 oS 36 35 2,
 ⟨none, none, .store (.t 11) (.t 36) 2⟩]
def c174r11 : List AOper :=
 [oM 37 3,
 oo 38 (.call (.t 37) [.t 11]),
 oU 39 38]
def c174r12 : List AOper :=
 [oo 8 (.mv (.c (.bool false)))]
def c174r13 : List AOper :=
 [oM 40 10,
 oM 41 1,
 oN 42 41,
 oL 43 42,
 oG 44 43,
 oB 45 .geq 40 44]
def c174d0 : List (AOper × List Nat) :=
 [(oM 46 1, []),
 (oM 47 1, []),
 (oN 48 47, [1]),
 (oL 49 48, [2]),
 (oS 50 11 2, []),
 (oo 51 (.bslice 1 2 [.str [], .str []] [(0, .t 50)]), [4]),
 (oo 52 (.append (.t 49) (.t 51) 2 32 false), [3, 5]),
 (oN 53 46, [0, 0, 1, 2, 3, 4, 5, 6]),
 (⟨none, none, .store (.t 53) (.t 52) 1⟩, [7, 6, 6, 0, 1, 2, 3, 4, 5, 6])]
def c174r14 : List AOper :=
 [oK 54 .add 22 1,
 oM 22 54]
def c174l0 : AC := (.seq (.region c174r6) (.seq (.cond (.t 23) .skip (.exit 0)) (.seq (.block 1 (.seq (.region c174r7) (.seq (.region c174r8) (.seq (.seq (.region c174r9) (.cond (.t 30) (.region c174r10) .skip)) (.seq (.seq (.region c174r11) (.cond (.t 39) (.seq (.region c174r12) .ret) .skip)) (.seq (.region c174r13) (.cond (.t 45) (.drawn c174d0) .skip))))))) (.region c174r14))))
def c174r15 : List AOper :=
 [oo 8 (.mv (.c (.bool true)))]
def c174 : AC := (.seq (.region c174r0) (.seq (.region c174r1) (.seq (.region c174r2) (.seq (.seq (.region c174r3) (.cond (.t 20) (.seq (.region c174r4) .ret) .skip)) (.seq (.seq (.region c174r5) (.block 0 (.loop c174l0))) (.seq (.region c174r15) .ret))))))
def r174 : List ARes := [.tmp 8]
theorem c174_ok : Tryz.f174.body.bind (cCode Tryz.prog Tryz.f174.ntmps) = some c174 := by kernel_rfl
theorem r174_ok : Tryz.f174.results.toList.mapM (cRes Tryz.prog Tryz.f174.ntmps) = some r174 := by kernel_rfl
def c175r0 : List AOper :=
 [oo 3 (.mv (.c (.bool false)))]
def c175d0 : List (AOper × List Nat) :=
 [(oL 4 1, []),
 (oM 5 0, []),
 (oN 6 5, [1]),
 (oF 7 6 0, [2]),
 (oo 8 (.mkm1 "sorrel/post.text" (.t 4)), [0]),
 (oN 9 8, [4]),
 (oM 10 4, [0, 4, 5]),
 (oo 11 (.call (.inv 10 [(217, 254), (230, 256)]) [.unw 10, .t 7]), [6, 3])]
def c175d1 : List (AOper × List Nat) :=
 [(oL 12 1, []),
 (oM 13 0, []),
 (oN 14 13, [1]),
 (oF 15 14 1, [2]),
 (oo 16 (.mkm1 "sorrel/post.text" (.t 12)), [0]),
 (oN 17 16, [4]),
 (oM 18 12, [0, 4, 5]),
 (oo 19 (.call (.inv 18 [(217, 254), (230, 256)]) [.unw 18, .t 15]), [6, 3])]
def c175r1 : List AOper :=
 [oo 3 (.mv (.c (.bool true)))]
def c175 : AC := (.seq (.region c175r0) (.seq (.drawn c175d0) (.seq (.drawn c175d1) (.seq (.region c175r1) .ret))))
def r175 : List ARes := [.tmp 3]
theorem c175_ok : Tryz.f175.body.bind (cCode Tryz.prog Tryz.f175.ntmps) = some c175 := by kernel_rfl
theorem r175_ok : Tryz.f175.results.toList.mapM (cRes Tryz.prog Tryz.f175.ntmps) = some r175 := by kernel_rfl
def c176r0 : List AOper :=
 [oo 8 (.mv (.c (.bool false)))]
def c176r1 : List AOper :=
 [oM 12 1,
 oN 13 12,
 oL 14 13,
 oG 15 14,
 oo 9 (.alloc [.int .i64 0]),
 ⟨none, none, .store (.t 9) (.t 15) 1⟩]
def c176r2 : List AOper :=
 [oM 16 0,
 oo 17 (.call (.inv 16 [(217, 253), (230, 255)]) [.unw 16, .t 9])]
def c176r3 : List AOper :=
 [oL 18 9,
 oM 19 2,
 oB 20 .gtr 18 19]
def c176r4 : List AOper :=
 [oo 8 (.mv (.c (.bool false)))]
def c176r5 : List AOper :=
 [oL 21 9,
 oV 22 0]
def c176r6 : List AOper :=
 [oB 23 .lss 22 21]
def c176r7 : List AOper :=
 [oM 24 22,
 oM 10 24]
def c176r8 : List AOper :=
 [oo 11 (.alloc [.int .i64 0, .str [], .str [], .int .i64 0, .int .i64 0, .int .i64 0])]
def c176r9 : List AOper :=
 [oM 25 10,
 oM 26 1,
 oN 27 26,
 oL 28 27,
 oG 29 28,
 oB 30 .lss 25 29]
def c176r10 : List AOper :=
 [oM 31 1,
 oN 32 31,
 oL 33 32,
 oM 34 10,
 oI 35 33 34 6,
 oS 36 35 6,
 ⟨none, none, .store (.t 11) (.t 36) 6⟩]
def c176r11 : List AOper :=
 [oM 37 3,
 oo 38 (.call (.t 37) [.t 11]),
 oU 39 38]
def c176r12 : List AOper :=
 [oo 8 (.mv (.c (.bool false)))]
def c176r13 : List AOper :=
 [oM 40 10,
 oM 41 1,
 oN 42 41,
 oL 43 42,
 oG 44 43,
 oB 45 .geq 40 44]
def c176d0 : List (AOper × List Nat) :=
 [(oM 46 1, []),
 (oM 47 1, []),
 (oN 48 47, [1]),
 (oL 49 48, [2]),
 (oS 50 11 6, []),
 (oo 51 (.bslice 1 6 [.int .i64 0, .str [], .str [], .int .i64 0, .int .i64 0, .int .i64 0] [(0, .t 50)]), [4]),
 (oo 52 (.append (.t 49) (.t 51) 6 64 false), [3, 5]),
 (oN 53 46, [0, 0, 1, 2, 3, 4, 5, 6]),
 (⟨none, none, .store (.t 53) (.t 52) 1⟩, [7, 6, 6, 0, 1, 2, 3, 4, 5, 6])]
def c176r14 : List AOper :=
 [oK 54 .add 22 1,
 oM 22 54]
def c176l0 : AC := (.seq (.region c176r6) (.seq (.cond (.t 23) .skip (.exit 0)) (.seq (.block 1 (.seq (.region c176r7) (.seq (.region c176r8) (.seq (.seq (.region c176r9) (.cond (.t 30) (.region c176r10) .skip)) (.seq (.seq (.region c176r11) (.cond (.t 39) (.seq (.region c176r12) .ret) .skip)) (.seq (.region c176r13) (.cond (.t 45) (.drawn c176d0) .skip))))))) (.region c176r14))))
def c176r15 : List AOper :=
 [oo 8 (.mv (.c (.bool true)))]
def c176 : AC := (.seq (.region c176r0) (.seq (.region c176r1) (.seq (.region c176r2) (.seq (.seq (.region c176r3) (.cond (.t 20) (.seq (.region c176r4) .ret) .skip)) (.seq (.seq (.region c176r5) (.block 0 (.loop c176l0))) (.seq (.region c176r15) .ret))))))
def r176 : List ARes := [.tmp 8]
theorem c176_ok : Tryz.f176.body.bind (cCode Tryz.prog Tryz.f176.ntmps) = some c176 := by kernel_rfl
theorem r176_ok : Tryz.f176.results.toList.mapM (cRes Tryz.prog Tryz.f176.ntmps) = some r176 := by kernel_rfl
def c177r0 : List AOper :=
 [oo 3 (.mv (.c (.bool false)))]
def c177d0 : List (AOper × List Nat) :=
 [(oL 4 1, []),
 (oM 5 0, []),
 (oN 6 5, [1]),
 (oF 7 6 0, [2]),
 (oo 8 (.mkm1 "sorrel/post.number" (.t 4)), [0]),
 (oN 9 8, [4]),
 (oM 10 4, [0, 4, 5]),
 (oo 11 (.call (.inv 10 [(217, 253), (230, 255)]) [.unw 10, .t 7]), [6, 3])]
def c177d1 : List (AOper × List Nat) :=
 [(oL 12 1, []),
 (oM 13 0, []),
 (oN 14 13, [1]),
 (oF 15 14 1, [2]),
 (oF 16 15 0, [3]),
 (oo 17 (.mkm1 "sorrel/post.text" (.t 12)), [0]),
 (oN 18 17, [5]),
 (oM 19 12, [0, 5, 6]),
 (oo 20 (.call (.inv 19 [(217, 254), (230, 256)]) [.unw 19, .t 16]), [7, 4])]
def c177d2 : List (AOper × List Nat) :=
 [(oL 21 1, []),
 (oM 22 0, []),
 (oN 23 22, [1]),
 (oF 24 23 1, [2]),
 (oF 25 24 1, [3]),
 (oo 26 (.mkm1 "sorrel/post.text" (.t 21)), [0]),
 (oN 27 26, [5]),
 (oM 28 21, [0, 5, 6]),
 (oo 29 (.call (.inv 28 [(217, 254), (230, 256)]) [.unw 28, .t 25]), [7, 4])]
def c177d3 : List (AOper × List Nat) :=
 [(oL 30 1, []),
 (oM 31 0, []),
 (oN 32 31, [1]),
 (oF 33 32 3, [2]),
 (oo 34 (.mkm1 "sorrel/post.number" (.t 30)), [0]),
 (oN 35 34, [4]),
 (oM 36 30, [0, 4, 5]),
 (oo 37 (.call (.inv 36 [(217, 253), (230, 255)]) [.unw 36, .t 33]), [6, 3])]
def c177d4 : List (AOper × List Nat) :=
 [(oL 38 1, []),
 (oM 39 0, []),
 (oN 40 39, [1]),
 (oF 41 40 4, [2]),
 (oo 42 (.mkm1 "sorrel/post.number" (.t 38)), [0]),
 (oN 43 42, [4]),
 (oM 44 38, [0, 4, 5]),
 (oo 45 (.call (.inv 44 [(217, 253), (230, 255)]) [.unw 44, .t 41]), [6, 3])]
def c177d5 : List (AOper × List Nat) :=
 [(oL 46 1, []),
 (oM 47 0, []),
 (oN 48 47, [1]),
 (oF 49 48 5, [2]),
 (oo 50 (.mkm1 "sorrel/post.number" (.t 46)), [0]),
 (oN 51 50, [4]),
 (oM 52 46, [0, 4, 5]),
 (oo 53 (.call (.inv 52 [(217, 253), (230, 255)]) [.unw 52, .t 49]), [6, 3])]
def c177r1 : List AOper :=
 [oo 3 (.mv (.c (.bool true)))]
def c177 : AC := (.seq (.region c177r0) (.seq (.drawn c177d0) (.seq (.drawn c177d1) (.seq (.drawn c177d2) (.seq (.drawn c177d3) (.seq (.drawn c177d4) (.seq (.drawn c177d5) (.seq (.region c177r1) .ret))))))))
def r177 : List ARes := [.tmp 3]
theorem c177_ok : Tryz.f177.body.bind (cCode Tryz.prog Tryz.f177.ntmps) = some c177 := by kernel_rfl
theorem r177_ok : Tryz.f177.results.toList.mapM (cRes Tryz.prog Tryz.f177.ntmps) = some r177 := by kernel_rfl
def c178r0 : List AOper :=
 [oo 8 (.mv (.c (.bool false)))]
def c178r1 : List AOper :=
 [oM 12 1,
 oN 13 12,
 oL 14 13,
 oG 15 14,
 oo 9 (.alloc [.int .i64 0]),
 ⟨none, none, .store (.t 9) (.t 15) 1⟩]
def c178r2 : List AOper :=
 [oM 16 0,
 oo 17 (.call (.inv 16 [(217, 253), (230, 255)]) [.unw 16, .t 9])]
def c178r3 : List AOper :=
 [oL 18 9,
 oM 19 2,
 oB 20 .gtr 18 19]
def c178r4 : List AOper :=
 [oo 8 (.mv (.c (.bool false)))]
def c178r5 : List AOper :=
 [oL 21 9,
 oV 22 0]
def c178r6 : List AOper :=
 [oB 23 .lss 22 21]
def c178r7 : List AOper :=
 [oM 24 22,
 oM 10 24]
def c178r8 : List AOper :=
 [oo 11 (.alloc [.str [], .str [], .bool false, .int .i64 0])]
def c178r9 : List AOper :=
 [oM 25 10,
 oM 26 1,
 oN 27 26,
 oL 28 27,
 oG 29 28,
 oB 30 .lss 25 29]
def c178r10 : List AOper :=
 [oM 31 1,
 oN 32 31,
 oL 33 32,
 oM 34 10,
 oI 35 33 34 4,
 oS 36 35 4,
 ⟨none, none, .store (.t 11) (.t 36) 4⟩]
def c178r11 : List AOper :=
 [oM 37 3,
 oo 38 (.call (.t 37) [.t 11]),
 oU 39 38]
def c178r12 : List AOper :=
 [oo 8 (.mv (.c (.bool false)))]
def c178r13 : List AOper :=
 [oM 40 10,
 oM 41 1,
 oN 42 41,
 oL 43 42,
 oG 44 43,
 oB 45 .geq 40 44]
def c178d0 : List (AOper × List Nat) :=
 [(oM 46 1, []),
 (oM 47 1, []),
 (oN 48 47, [1]),
 (oL 49 48, [2]),
 (oS 50 11 4, []),
 (oo 51 (.bslice 1 4 [.str [], .str [], .bool false, .int .i64 0] [(0, .t 50)]), [4]),
 (oo 52 (.append (.t 49) (.t 51) 4 48 false), [3, 5]),
 (oN 53 46, [0, 0, 1, 2, 3, 4, 5, 6]),
 (⟨none, none, .store (.t 53) (.t 52) 1⟩, [7, 6, 6, 0, 1, 2, 3, 4, 5, 6])]
def c178r14 : List AOper :=
 [oK 54 .add 22 1,
 oM 22 54]
def c178l0 : AC := (.seq (.region c178r6) (.seq (.cond (.t 23) .skip (.exit 0)) (.seq (.block 1 (.seq (.region c178r7) (.seq (.region c178r8) (.seq (.seq (.region c178r9) (.cond (.t 30) (.region c178r10) .skip)) (.seq (.seq (.region c178r11) (.cond (.t 39) (.seq (.region c178r12) .ret) .skip)) (.seq (.region c178r13) (.cond (.t 45) (.drawn c178d0) .skip))))))) (.region c178r14))))
def c178r15 : List AOper :=
 [oo 8 (.mv (.c (.bool true)))]
def c178 : AC := (.seq (.region c178r0) (.seq (.region c178r1) (.seq (.region c178r2) (.seq (.seq (.region c178r3) (.cond (.t 20) (.seq (.region c178r4) .ret) .skip)) (.seq (.seq (.region c178r5) (.block 0 (.loop c178l0))) (.seq (.region c178r15) .ret))))))
def r178 : List ARes := [.tmp 8]
theorem c178_ok : Tryz.f178.body.bind (cCode Tryz.prog Tryz.f178.ntmps) = some c178 := by kernel_rfl
theorem r178_ok : Tryz.f178.results.toList.mapM (cRes Tryz.prog Tryz.f178.ntmps) = some r178 := by kernel_rfl
def c179r0 : List AOper :=
 [oo 3 (.mv (.c (.bool false)))]
def c179d0 : List (AOper × List Nat) :=
 [(oL 5 1, []),
 (oM 6 0, []),
 (oN 7 6, [1]),
 (oF 8 7 0, [2]),
 (oo 9 (.mkm1 "sorrel/post.text" (.t 5)), [0]),
 (oN 10 9, [4]),
 (oM 11 5, [0, 4, 5]),
 (oo 12 (.call (.inv 11 [(217, 254), (230, 256)]) [.unw 11, .t 8]), [6, 3])]
def c179d1 : List (AOper × List Nat) :=
 [(oL 13 1, []),
 (oM 14 0, []),
 (oN 15 14, [1]),
 (oF 16 15 1, [2]),
 (oo 17 (.mkm1 "sorrel/post.text" (.t 13)), [0]),
 (oN 18 17, [4]),
 (oM 19 13, [0, 4, 5]),
 (oo 20 (.call (.inv 19 [(217, 254), (230, 256)]) [.unw 19, .t 16]), [6, 3])]
def c179d2 : List (AOper × List Nat) :=
 [(oL 21 1, []),
 (oM 22 0, []),
 (oN 23 22, [1]),
 (oF 24 23 2, [2]),
 (oo 25 (.call (.c (.fn 171 [])) [.t 21, .t 24]), [0, 3]),
 (oM 4 25, [4, 4, 0, 1, 2, 3, 4])]
def c179d3 : List (AOper × List Nat) :=
 [(oL 26 1, []),
 (oM 27 0, []),
 (oN 28 27, [1]),
 (oF 29 28 3, [2]),
 (oo 30 (.mkm1 "sorrel/post.number" (.t 26)), [0]),
 (oN 31 30, [4]),
 (oM 32 26, [0, 4, 5]),
 (oo 33 (.call (.inv 32 [(217, 253), (230, 255)]) [.unw 32, .t 29]), [6, 3])]
def c179r1 : List AOper :=
 [oM 34 4,
 oM 3 34]
def c179 : AC := (.seq (.region c179r0) (.seq (.drawn c179d0) (.seq (.drawn c179d1) (.seq (.drawn c179d2) (.seq (.drawn c179d3) (.seq (.region c179r1) .ret))))))
def r179 : List ARes := [.tmp 3]
theorem c179_ok : Tryz.f179.body.bind (cCode Tryz.prog Tryz.f179.ntmps) = some c179 := by kernel_rfl
theorem r179_ok : Tryz.f179.results.toList.mapM (cRes Tryz.prog Tryz.f179.ntmps) = some r179 := by kernel_rfl
def c180r0 : List AOper :=
 [oo 8 (.mv (.c (.bool false)))]
def c180r1 : List AOper :=
 [oM 12 1,
 oN 13 12,
 oL 14 13,
 oG 15 14,
 oo 9 (.alloc [.int .i64 0]),
 ⟨none, none, .store (.t 9) (.t 15) 1⟩]
def c180r2 : List AOper :=
 [oM 16 0,
 oo 17 (.call (.inv 16 [(217, 253), (230, 255)]) [.unw 16, .t 9])]
def c180r3 : List AOper :=
 [oL 18 9,
 oM 19 2,
 oB 20 .gtr 18 19]
def c180r4 : List AOper :=
 [oo 8 (.mv (.c (.bool false)))]
def c180r5 : List AOper :=
 [oL 21 9,
 oV 22 0]
def c180r6 : List AOper :=
 [oB 23 .lss 22 21]
def c180r7 : List AOper :=
 [oM 24 22,
 oM 10 24]
def c180r8 : List AOper :=
 [oo 11 (.alloc [.int .i64 0, .int .i64 0, .int .i64 0, .str [], .bool false, .nils, .str []])]
def c180r9 : List AOper :=
 [oM 25 10,
 oM 26 1,
 oN 27 26,
 oL 28 27,
 oG 29 28,
 oB 30 .lss 25 29]
def c180r10 : List AOper :=
 [oM 31 1,
 oN 32 31,
 oL 33 32,
 oM 34 10,
 oI 35 33 34 7,
 oS 36 35 7,
 ⟨none, none, .store (.t 11) (.t 36) 7⟩]
def c180r11 : List AOper :=
 [oM 37 3,
 oo 38 (.call (.t 37) [.t 11]),
 oU 39 38]
def c180r12 : List AOper :=
 [oo 8 (.mv (.c (.bool false)))]
def c180r13 : List AOper :=
 [oM 40 10,
 oM 41 1,
 oN 42 41,
 oL 43 42,
 oG 44 43,
 oB 45 .geq 40 44]
def c180d0 : List (AOper × List Nat) :=
 [(oM 46 1, []),
 (oM 47 1, []),
 (oN 48 47, [1]),
 (oL 49 48, [2]),
 (oS 50 11 7, []),
 (oo 51 (.bslice 1 7 [.int .i64 0, .int .i64 0, .int .i64 0, .str [], .bool false, .nils, .str []] [(0, .t 50)]), [4]),
 (oo 52 (.append (.t 49) (.t 51) 7 88 false), [3, 5]),
 (oN 53 46, [0, 0, 1, 2, 3, 4, 5, 6]),
 (⟨none, none, .store (.t 53) (.t 52) 1⟩, [7, 6, 6, 0, 1, 2, 3, 4, 5, 6])]
def c180r14 : List AOper :=
 [oK 54 .add 22 1,
 oM 22 54]
def c180l0 : AC := (.seq (.region c180r6) (.seq (.cond (.t 23) .skip (.exit 0)) (.seq (.block 1 (.seq (.region c180r7) (.seq (.region c180r8) (.seq (.seq (.region c180r9) (.cond (.t 30) (.region c180r10) .skip)) (.seq (.seq (.region c180r11) (.cond (.t 39) (.seq (.region c180r12) .ret) .skip)) (.seq (.region c180r13) (.cond (.t 45) (.drawn c180d0) .skip))))))) (.region c180r14))))
def c180r15 : List AOper :=
 [oo 8 (.mv (.c (.bool true)))]
def c180 : AC := (.seq (.region c180r0) (.seq (.region c180r1) (.seq (.region c180r2) (.seq (.seq (.region c180r3) (.cond (.t 20) (.seq (.region c180r4) .ret) .skip)) (.seq (.seq (.region c180r5) (.block 0 (.loop c180l0))) (.seq (.region c180r15) .ret))))))
def r180 : List ARes := [.tmp 8]
theorem c180_ok : Tryz.f180.body.bind (cCode Tryz.prog Tryz.f180.ntmps) = some c180 := by kernel_rfl
theorem r180_ok : Tryz.f180.results.toList.mapM (cRes Tryz.prog Tryz.f180.ntmps) = some r180 := by kernel_rfl
def c181r0 : List AOper :=
 [oo 3 (.mv (.c (.bool false)))]
def c181d0 : List (AOper × List Nat) :=
 [(oL 5 1, []),
 (oM 6 0, []),
 (oN 7 6, [1]),
 (oF 8 7 0, [2]),
 (oo 9 (.mkm1 "sorrel/post.number" (.t 5)), [0]),
 (oN 10 9, [4]),
 (oM 11 5, [0, 4, 5]),
 (oo 12 (.call (.inv 11 [(217, 253), (230, 255)]) [.unw 11, .t 8]), [6, 3])]
def c181d1 : List (AOper × List Nat) :=
 [(oL 13 1, []),
 (oM 14 0, []),
 (oN 15 14, [1]),
 (oF 16 15 1, [2]),
 (oo 17 (.mkm1 "sorrel/post.number" (.t 13)), [0]),
 (oN 18 17, [4]),
 (oM 19 13, [0, 4, 5]),
 (oo 20 (.call (.inv 19 [(217, 253), (230, 255)]) [.unw 19, .t 16]), [6, 3])]
def c181d2 : List (AOper × List Nat) :=
 [(oM 21 0, []),
 (oN 22 21, [0]),
 (oF 23 22 2, [1]),
 (oF 24 23 3, [2]),
 (oL 25 24, [3]),
 (oG 26 25, [4]),
 (oK 27 .eql 26 0, [5]),
 (oM 28 27, [6]),
 (oLt 29 28 1, [7]),
 (oMt 30 28 0, [7]),
 (oNt 31 28 30, [9, 7]),
 (oFt 32 28 31 2, [10, 7]),
 (oot 33 28 (.call (.c (.fn 173 [])) [.t 29, .t 32]), [8, 11, 7, 7]),
 (oP 34 28 33, [7, 12]),
 (oM 4 34, [13, 12, 0, 1, 2, 3, 4, 5, 6, 7, 8, 9, 10, 11, 12, 13])]
def c181d3 : List (AOper × List Nat) :=
 [(oL 35 1, []),
 (oM 36 0, []),
 (oN 37 36, [1]),
 (oF 38 37 2, [2]),
 (oF 39 38 4, [3]),
 (oo 40 (.mkm1 "sorrel/post.text" (.t 35)), [0]),
 (oN 41 40, [5]),
 (oM 42 35, [0, 5, 6]),
 (oo 43 (.call (.inv 42 [(217, 254), (230, 256)]) [.unw 42, .t 39]), [7, 4])]
def c181r1 : List AOper :=
 [oM 44 4,
 oM 3 44]
def c181 : AC := (.seq (.region c181r0) (.seq (.drawn c181d0) (.seq (.drawn c181d1) (.seq (.drawn c181d2) (.seq (.drawn c181d3) (.seq (.region c181r1) .ret))))))
def r181 : List ARes := [.tmp 3]
theorem c181_ok : Tryz.f181.body.bind (cCode Tryz.prog Tryz.f181.ntmps) = some c181 := by kernel_rfl
theorem r181_ok : Tryz.f181.results.toList.mapM (cRes Tryz.prog Tryz.f181.ntmps) = some r181 := by kernel_rfl
def c182r0 : List AOper :=
 [oo 4 (.mv (.c .nils))]
def c182r1 : List AOper :=
 [oM 5 1,
 oK 6 .lss 5 0]
def c182r2 : List AOper :=
 [oo 7 (.dead),
 ⟨none, none, .dead⟩]
def c182r3 : List AOper :=
 [oM 8 1,
 oM 9 0,
 oo 10 (.capL (.t 9)),
 oM 11 0,
 oG 12 11,
 oB 13 .sub 10 12,
 oB 14 .sub 8 13,
 oM 1 14]
def c182r4 : List AOper :=
 [oM 15 1,
 oK 16 .gtr 15 0]
def c182r5 : List AOper :=
 [oM 17 0,
 oM 18 0,
 oo 19 (.capL (.t 18)),
 oo 20 (.slc (.t 17) none (some (.t 19)) none 6),
 oM 21 1,
 oo 22 (.appendZ (.t 20) (.t 21) 6 [.int .i64 0, .str [], .str [], .int .i64 0, .int .i64 0, .int .i64 0] 64),
 oM 23 0,
 oG 24 23,
 oo 25 (.slc (.t 22) none (some (.t 24)) none 6),
 oM 0 25]
def c182r6 : List AOper :=
 [oM 26 0,
 oM 4 26]
def c182 : AC := (.seq (.region c182r0) (.seq (.seq (.region c182r1) (.cond (.t 6) (.region c182r2) .skip)) (.seq (.seq (.region c182r3) (.seq (.region c182r4) (.cond (.t 16) (.region c182r5) .skip))) (.seq (.region c182r6) .ret))))
def r182 : List ARes := [.tmp 4]
theorem c182_ok : Tryz.f182.body.bind (cCode Tryz.prog Tryz.f182.ntmps) = some c182 := by kernel_rfl
theorem r182_ok : Tryz.f182.results.toList.mapM (cRes Tryz.prog Tryz.f182.ntmps) = some r182 := by kernel_rfl
def c184r0 : List AOper :=
 [oV 4 0]
def c184r1 : List AOper :=
 [oM 8 0,
 oK 9 .and 8 4294967295,
 oo 10 (.convI .u32 (.t 9)),
 oo 11 (.un .xor (.t 10)),
 oM 5 11]
def c184r2 : List AOper :=
 [oM 12 1,
 oo 13 (.lenS (.t 12)),
 oV 14 0]
def c184r3 : List AOper :=
 [oB 15 .lss 14 13]
def c184r4 : List AOper :=
 [oM 16 14,
 oM 6 16]
def c184r5 : List AOper :=
 [oM 17 5,
 oM 18 1,
 oM 19 6,
 oo 20 (.idxS (.t 18) (.t 19)),
 oo 21 (.convI .u32 (.t 20)),
 oB 22 .xor 17 21,
 oM 5 22]
def c184r6 : List AOper :=
 [oV 23 0]
def c184r7 : List AOper :=
 [oK 24 .lss 23 8]
def c184r8 : List AOper :=
 [oM 25 5,
 oo 26 (.bin .and (.t 25) (.c (.int .u32 1))),
 oM 7 26]
def c184r9 : List AOper :=
 [oM 27 5,
 oo 28 (.bin .shr (.t 27) (.c (.int .u64 1))),
 oM 5 28]
def c184r10 : List AOper :=
 [oM 29 7,
 oo 30 (.bin .eql (.t 29) (.c (.int .u32 1)))]
def c184r11 : List AOper :=
 [oM 31 5,
 oo 32 (.bin .xor (.t 31) (.c (.int .u32 2197175160))),
 oM 5 32]
def c184r12 : List AOper :=
 [oK 33 .add 23 1,
 oM 23 33]
def c184l1 : AC := (.seq (.region c184r7) (.seq (.cond (.t 24) .skip (.exit 2)) (.seq (.block 3 (.seq (.region c184r8) (.seq (.region c184r9) (.seq (.region c184r10) (.cond (.t 30) (.region c184r11) .skip))))) (.region c184r12))))
def c184r13 : List AOper :=
 [oK 34 .add 14 1,
 oM 14 34]
def c184l0 : AC := (.seq (.region c184r3) (.seq (.cond (.t 15) .skip (.exit 0)) (.seq (.block 1 (.seq (.region c184r4) (.seq (.region c184r5) (.seq (.region c184r6) (.block 2 (.loop c184l1)))))) (.region c184r13))))
def c184r14 : List AOper :=
 [oM 35 5,
 oo 36 (.un .xor (.t 35)),
 oo 37 (.convI .i64 (.t 36)),
 oM 4 37]
def c184 : AC := (.seq (.region c184r0) (.seq (.region c184r1) (.seq (.seq (.region c184r2) (.block 0 (.loop c184l0))) (.seq (.region c184r14) .ret))))
def r184 : List ARes := [.tmp 4]
theorem c184_ok : Tryz.f184.body.bind (cCode Tryz.prog Tryz.f184.ntmps) = some c184 := by kernel_rfl
theorem r184_ok : Tryz.f184.results.toList.mapM (cRes Tryz.prog Tryz.f184.ntmps) = some r184 := by kernel_rfl
def c194r0 : List AOper :=
 [oo 2 (.mv (.c (.str []))),
 oV 3 0,
 oV 4 0]
def c194r1 : List AOper :=
 [oM 9 0,
 oo 10 (.call (.c (.fn 78 [])) [.t 9]),
 oM 8 10,
 oE 11 8 0,
 oE 12 8 1,
 oE 13 8 2,
 oM 5 11,
 oM 6 12,
 oM 7 13]
def c194r2 : List AOper :=
 [oM 15 7,
 oK 16 .neq 15 0,
 oM 14 16]
def c194r3 : List AOper :=
 [oM 17 7,
 oo 2 (.mv (.c (.str []))),
 oV 3 0,
 oM 4 17]
def c194r4 : List AOper :=
 [oM 19 5,
 oK 20 .gtr 19 262144,
 oM 18 20]
def c194r5 : List AOper :=
 [oo 2 (.mv (.c (.str []))),
 oV 3 0,
 oV 4 11]
def c194r6 : List AOper :=
 [oM 22 0,
 oo 23 (.lenS (.t 22)),
 oM 24 6,
 oB 25 .sub 23 24,
 oM 26 5,
 oB 27 .lss 25 26,
 oM 21 27]
def c194r7 : List AOper :=
 [oo 2 (.mv (.c (.str []))),
 oV 3 0,
 oV 4 10]
def c194r8 : List AOper :=
 [oM 28 0,
 oM 29 6,
 oM 30 6,
 oM 31 5,
 oB 32 .add 30 31,
 oo 33 (.slcS (.t 28) (some (.t 29)) (some (.t 32))),
 oM 34 6,
 oM 35 5,
 oB 36 .add 34 35,
 oM 2 33,
 oM 3 36,
 oV 4 0]
def c194 : AC := (.seq (.region c194r0) (.seq (.region c194r1) (.seq (.block 0 (.seq (.region c194r2) (.cond (.t 14) (.seq (.region c194r3) .ret) (.seq (.region c194r4) (.cond (.t 18) (.seq (.region c194r5) .ret) (.seq (.region c194r6) (.cond (.t 21) (.seq (.region c194r7) .ret) .skip))))))) (.seq (.region c194r8) .ret))))
def r194 : List ARes := [.tmp 2, .tmp 3, .tmp 4]
theorem c194_ok : Tryz.f194.body.bind (cCode Tryz.prog Tryz.f194.ntmps) = some c194 := by kernel_rfl
theorem r194_ok : Tryz.f194.results.toList.mapM (cRes Tryz.prog Tryz.f194.ntmps) = some r194 := by kernel_rfl
def c207r0 : List AOper :=
 [oo 8 (.mv (.c (.bool false)))]
def c207r1 : List AOper :=
 [oM 12 1,
 oN 13 12,
 oL 14 13,
 oG 15 14,
 oo 9 (.alloc [.int .i64 0]),
 ⟨none, none, .store (.t 9) (.t 15) 1⟩]
def c207r2 : List AOper :=
 [oM 16 0,
 oo 17 (.call (.inv 16 [(217, 253), (230, 255)]) [.unw 16, .t 9])]
def c207r3 : List AOper :=
 [oL 18 9,
 oM 19 2,
 oB 20 .gtr 18 19]
def c207r4 : List AOper :=
 [oo 8 (.mv (.c (.bool false)))]
def c207r5 : List AOper :=
 [oL 21 9,
 oV 22 0]
def c207r6 : List AOper :=
 [oB 23 .lss 22 21]
def c207r7 : List AOper :=
 [oM 24 22,
 oM 10 24]
def c207r8 : List AOper :=
 [oo 11 (.alloc [.str [], .str [], .bool false])]
def c207r9 : List AOper :=
 [oM 25 10,
 oM 26 1,
 oN 27 26,
 oL 28 27,
 oG 29 28,
 oB 30 .lss 25 29]
def c207r10 : List AOper :=
 [oM 31 1,
 oN 32 31,
 oL 33 32,
 oM 34 10,
 oI 35 33 34 3,
 oS 36 35 3,
 ⟨none, none, .store (.t 11) (.t 36) 3⟩]
def c207r11 : List AOper :=
 [oM 37 3,
 oo 38 (.call (.t 37) [.t 11]),
 oU 39 38]
def c207r12 : List AOper :=
 [oo 8 (.mv (.c (.bool false)))]
def c207r13 : List AOper :=
 [oM 40 10,
 oM 41 1,
 oN 42 41,
 oL 43 42,
 oG 44 43,
 oB 45 .geq 40 44]
def c207d0 : List (AOper × List Nat) :=
 [(oM 46 1, []),
 (oM 47 1, []),
 (oN 48 47, [1]),
 (oL 49 48, [2]),
 (oS 50 11 3, []),
 (oo 51 (.bslice 1 3 [.str [], .str [], .bool false] [(0, .t 50)]), [4]),
 (oo 52 (.append (.t 49) (.t 51) 3 40 false), [3, 5]),
 (oN 53 46, [0, 0, 1, 2, 3, 4, 5, 6]),
 (⟨none, none, .store (.t 53) (.t 52) 1⟩, [7, 6, 6, 0, 1, 2, 3, 4, 5, 6])]
def c207r14 : List AOper :=
 [oK 54 .add 22 1,
 oM 22 54]
def c207l0 : AC := (.seq (.region c207r6) (.seq (.cond (.t 23) .skip (.exit 0)) (.seq (.block 1 (.seq (.region c207r7) (.seq (.region c207r8) (.seq (.seq (.region c207r9) (.cond (.t 30) (.region c207r10) .skip)) (.seq (.seq (.region c207r11) (.cond (.t 39) (.seq (.region c207r12) .ret) .skip)) (.seq (.region c207r13) (.cond (.t 45) (.drawn c207d0) .skip))))))) (.region c207r14))))
def c207r15 : List AOper :=
 [oo 8 (.mv (.c (.bool true)))]
def c207 : AC := (.seq (.region c207r0) (.seq (.region c207r1) (.seq (.region c207r2) (.seq (.seq (.region c207r3) (.cond (.t 20) (.seq (.region c207r4) .ret) .skip)) (.seq (.seq (.region c207r5) (.block 0 (.loop c207l0))) (.seq (.region c207r15) .ret))))))
def r207 : List ARes := [.tmp 8]
theorem c207_ok : Tryz.f207.body.bind (cCode Tryz.prog Tryz.f207.ntmps) = some c207 := by kernel_rfl
theorem r207_ok : Tryz.f207.results.toList.mapM (cRes Tryz.prog Tryz.f207.ntmps) = some r207 := by kernel_rfl
def c208r0 : List AOper :=
 [oo 3 (.mv (.c (.bool false)))]
def c208d0 : List (AOper × List Nat) :=
 [(oL 4 1, []),
 (oM 5 0, []),
 (oN 6 5, [1]),
 (oF 7 6 0, [2]),
 (oo 8 (.mkm1 "sorrel/post.text" (.t 4)), [0]),
 (oN 9 8, [4]),
 (oM 10 4, [0, 4, 5]),
 (oo 11 (.call (.inv 10 [(217, 254), (230, 256)]) [.unw 10, .t 7]), [6, 3])]
def c208d1 : List (AOper × List Nat) :=
 [(oL 12 1, []),
 (oM 13 0, []),
 (oN 14 13, [1]),
 (oF 15 14 1, [2]),
 (oo 16 (.mkm1 "sorrel/post.text" (.t 12)), [0]),
 (oN 17 16, [4]),
 (oM 18 12, [0, 4, 5]),
 (oo 19 (.call (.inv 18 [(217, 254), (230, 256)]) [.unw 18, .t 15]), [6, 3])]
def c208d2 : List (AOper × List Nat) :=
 [(oL 20 1, []),
 (oM 21 0, []),
 (oN 22 21, [1]),
 (oF 23 22 2, [2]),
 (oo 24 (.call (.c (.fn 171 [])) [.t 20, .t 23]), [0, 3]),
 (oM 3 24, [4, 4, 0, 1, 2, 3, 4])]
def c208 : AC := (.seq (.region c208r0) (.seq (.drawn c208d0) (.seq (.drawn c208d1) (.seq (.drawn c208d2) .ret))))
def r208 : List ARes := [.tmp 3]
theorem c208_ok : Tryz.f208.body.bind (cCode Tryz.prog Tryz.f208.ntmps) = some c208 := by kernel_rfl
theorem r208_ok : Tryz.f208.results.toList.mapM (cRes Tryz.prog Tryz.f208.ntmps) = some r208 := by kernel_rfl
def c253r0 : List AOper :=
 [oM 8 0,
 oN 9 8,
 oF 10 9 0,
 oL 11 10,
 oo 12 (.call (.c (.fn 78 [])) [.t 11]),
 oM 7 12,
 oE 13 7 0,
 oE 14 7 1,
 oE 15 7 2,
 oM 4 13,
 oM 5 14,
 oM 6 15]
def c253r1 : List AOper :=
 [oM 16 0,
 oM 17 0,
 oN 18 17,
 oF 19 18 1,
 oL 20 19,
 oM 21 20,
 oMt 22 21 6,
 oKt 23 21 .eql 22 0,
 oP 24 21 23,
 oM 25 24,
 oMt 26 25 4,
 oKt 27 25 .leq 26 1099511627775,
 oP 28 25 27,
 oN 29 16,
 oF 30 29 1,
 ⟨none, none, .store (.t 30) (.t 28) 1⟩]
def c253d0 : List (AOper × List Nat) :=
 [(oM 31 1, []),
 (oM 32 0, []),
 (oM 33 4, []),
 (oM 34 0, []),
 (oN 35 34, [3]),
 (oF 36 35 0, [4]),
 (oL 37 36, [5]),
 (oM 38 5, []),
 (oo 39 (.slcS (.t 37) (some (.t 38)) none), [6, 7]),
 (oN 40 31, [0, 0, 2, 6]),
 (⟨none, none, .store (.t 40) (.t 33) 1⟩, [9, 2, 0, 2, 6]),
 (oN 41 32, [1, 0, 1, 2, 3, 4, 5, 6, 7, 8, 9, 10]),
 (oF 42 41 0, [11, 0, 1, 2, 3, 4, 5, 6, 7, 8, 9, 10]),
 (⟨none, none, .store (.t 42) (.t 39) 1⟩, [12, 8, 10, 0, 1, 2, 3, 4, 5, 6, 7, 8, 9, 10])]
def c253 : AC := (.seq (.region c253r0) (.seq (.region c253r1) (.drawn c253d0)))
def r253 : List ARes := []
theorem c253_ok : Tryz.f253.body.bind (cCode Tryz.prog Tryz.f253.ntmps) = some c253 := by kernel_rfl
theorem r253_ok : Tryz.f253.results.toList.mapM (cRes Tryz.prog Tryz.f253.ntmps) = some r253 := by kernel_rfl
def c254r0 : List AOper :=
 [oM 8 0,
 oN 9 8,
 oF 10 9 0,
 oL 11 10,
 oo 12 (.call (.c (.fn 194 [])) [.t 11]),
 oM 7 12,
 oE 13 7 0,
 oE 14 7 1,
 oE 15 7 2,
 oM 4 13,
 oM 5 14,
 oM 6 15]
def c254r1 : List AOper :=
 [oM 16 0,
 oM 17 0,
 oN 18 17,
 oF 19 18 1,
 oL 20 19,
 oM 21 20,
 oMt 22 21 6,
 oKt 23 21 .eql 22 0,
 oP 24 21 23,
 oM 25 24,
 oMt 26 25 4,
 oot 27 25 (.lenS (.t 26)),
 oKt 28 25 .leq 27 256,
 oP 29 25 28,
 oN 30 16,
 oF 31 30 1,
 ⟨none, none, .store (.t 31) (.t 29) 1⟩]
def c254d0 : List (AOper × List Nat) :=
 [(oM 32 1, []),
 (oM 33 0, []),
 (oM 34 4, []),
 (oM 35 0, []),
 (oN 36 35, [3]),
 (oF 37 36 0, [4]),
 (oL 38 37, [5]),
 (oM 39 5, []),
 (oo 40 (.slcS (.t 38) (some (.t 39)) none), [6, 7]),
 (oN 41 32, [0, 0, 2, 6]),
 (⟨none, none, .store (.t 41) (.t 34) 1⟩, [9, 2, 0, 2, 6]),
 (oN 42 33, [1, 0, 1, 2, 3, 4, 5, 6, 7, 8, 9, 10]),
 (oF 43 42 0, [11, 0, 1, 2, 3, 4, 5, 6, 7, 8, 9, 10]),
 (⟨none, none, .store (.t 43) (.t 40) 1⟩, [12, 8, 10, 0, 1, 2, 3, 4, 5, 6, 7, 8, 9, 10])]
def c254 : AC := (.seq (.region c254r0) (.seq (.region c254r1) (.drawn c254d0)))
def r254 : List ARes := []
theorem c254_ok : Tryz.f254.body.bind (cCode Tryz.prog Tryz.f254.ntmps) = some c254 := by kernel_rfl
theorem r254_ok : Tryz.f254.results.toList.mapM (cRes Tryz.prog Tryz.f254.ntmps) = some r254 := by kernel_rfl
def c255r0 : List AOper :=
 [oM 7 1,
 oN 8 7,
 oL 9 8,
 oo 10 (.call (.c (.fn 131 [])) [.t 9]),
 oM 6 10,
 oE 11 6 0,
 oE 12 6 1,
 oM 4 11,
 oM 5 12]
def c255r1 : List AOper :=
 [oM 13 0,
 oM 14 0,
 oN 15 14,
 oF 16 15 2,
 oL 17 16,
 oM 18 17,
 oMt 19 18 5,
 oKt 20 18 .eql 19 0,
 oP 21 18 20,
 oM 22 21,
 oMt 23 22 1,
 oNt 24 22 23,
 oLt 25 22 24,
 oKt 26 22 .leq 25 1099511627775,
 oP 27 22 26,
 oN 28 13,
 oF 29 28 2,
 ⟨none, none, .store (.t 29) (.t 27) 1⟩]
def c255r2 : List AOper :=
 [oM 30 0,
 oN 31 30,
 oF 32 31 0,
 oM 33 4,
 oo 34 (.call (.c (.fn 132 [])) [.t 32, .t 33])]
def c255 : AC := (.seq (.region c255r0) (.seq (.region c255r1) (.region c255r2)))
def r255 : List ARes := []
theorem c255_ok : Tryz.f255.body.bind (cCode Tryz.prog Tryz.f255.ntmps) = some c255 := by kernel_rfl
theorem r255_ok : Tryz.f255.results.toList.mapM (cRes Tryz.prog Tryz.f255.ntmps) = some r255 := by kernel_rfl
def c256r0 : List AOper :=
 [oM 7 1,
 oN 8 7,
 oL 9 8,
 oo 10 (.call (.c (.fn 166 [])) [.t 9]),
 oM 6 10,
 oE 11 6 0,
 oE 12 6 1,
 oM 4 11,
 oM 5 12]
def c256r1 : List AOper :=
 [oM 13 0,
 oM 14 0,
 oN 15 14,
 oF 16 15 2,
 oL 17 16,
 oM 18 17,
 oMt 19 18 5,
 oKt 20 18 .eql 19 0,
 oP 21 18 20,
 oM 22 21,
 oMt 23 22 1,
 oNt 24 22 23,
 oLt 25 22 24,
 oot 26 22 (.lenS (.t 25)),
 oKt 27 22 .leq 26 256,
 oP 28 22 27,
 oN 29 13,
 oF 30 29 2,
 ⟨none, none, .store (.t 30) (.t 28) 1⟩]
def c256r2 : List AOper :=
 [oM 31 0,
 oN 32 31,
 oF 33 32 0,
 oM 34 4,
 oo 35 (.call (.c (.fn 132 [])) [.t 33, .t 34])]
def c256 : AC := (.seq (.region c256r0) (.seq (.region c256r1) (.region c256r2)))
def r256 : List ARes := []
theorem c256_ok : Tryz.f256.body.bind (cCode Tryz.prog Tryz.f256.ntmps) = some c256 := by kernel_rfl
theorem r256_ok : Tryz.f256.results.toList.mapM (cRes Tryz.prog Tryz.f256.ntmps) = some r256 := by kernel_rfl
set_option linter.unusedSimpArgs false
set_option linter.unusedVariables false
set_option linter.unnecessarySimpa false
attribute [local simp] stepV condR boundsC appendG appendO copyV srcC guardB isCall opStep Opd.ev put readAt aBin aUn args0 V.celled V.ones V.one V.cells putAt bounds bound1 elemsOf srcOf appendV fillAt fillEl V.pures V.pure unwind evs ARes.ev mkRes V.ren V.renL O.ren eqCells eq1 aEq aMM hasTy hasTyN okTy mmGo Known HLe OLe VsLe.refl VLe.refl VLe.cap Stay VsLe V.frz V.frzL O.frz fr clearV rn KnownR Objs OLeO ObjsE nm back V.calls setAll ren_ite take_map_len List.take_of_length_le
attribute [local simp ↓] upd_app tl_cons tl_nil
theorem prog_mixed : Tryz.prog.follows .mixedOrders = true := by kernel_rfl
theorem wrap_small {n : Int} (h1 : -9223372036854775808 ≤ n) (h2 : n ≤ 9223372036854775807) : IntKind.i64.wrap n = n := by
 simp only [IntKind.wrap, IntKind.signed, IntKind.bits]
 simp [Int.bmod_def]; omega
theorem wrap_u8 (n : Nat) : IntKind.u8.wrap (n : Int) = ((n % 256 : Nat) : Int) := by
 simp only [IntKind.wrap, IntKind.signed, IntKind.bits]; simp
theorem iOr64 (a b : Int) : iOr .i64 a b = IntKind.i64.wrap ((BitVec.ofInt 64 a ||| BitVec.ofInt 64 b).toNat : Int) := rfl
theorem iOr8 (a b : Int) : iOr .u8 a b = IntKind.u8.wrap ((BitVec.ofInt 8 a ||| BitVec.ofInt 8 b).toNat : Int) := rfl
theorem iAnd8 (a b : Int) : iAnd .u8 a b = IntKind.u8.wrap ((BitVec.ofInt 8 a &&& BitVec.ofInt 8 b).toNat : Int) := rfl
theorem iShl64 (a b : Int) : iShl .i64 a b = IntKind.i64.wrap (a * 2 ^ (min b.toNat 64)) := rfl
theorem iShr64 (a b : Int) : iShr .i64 a b = a.fdiv (2 ^ (min b.toNat 64)) := rfl
theorem ofInt_nat (m n : Nat) (h : n < 2 ^ m) : (BitVec.ofInt m (n : Int)).toNat = n := by
 rw [BitVec.ofInt_natCast, BitVec.toNat_ofNat, Nat.mod_eq_of_lt h]
theorem byteEls_len (l : List UInt8) : (byteEls l).length = l.length := by simp [byteEls]
theorem byteEls_app (a b : List UInt8) : byteEls (a ++ b) = byteEls a ++ byteEls b := by simp [byteEls]
theorem byteEls_snoc (l : List UInt8) (b : UInt8) : byteEls l ++ [[V.int .u8 (b.toNat : Int)]] = byteEls (l ++ [b]) := by simp [byteEls]
theorem byteEls_nil : byteEls [] = [] := rfl
theorem take_byteEls {l : List UInt8} {n : Nat} (h : l.length ≤ n) : (byteEls l).take n = byteEls l := List.take_of_length_le (by simpa [byteEls] using h)
theorem bytesOf_byteEls : ∀ l : List UInt8, bytesOf (byteEls l) = some l
 | [] => rfl
 | b :: l => by
  have := bytesOf_byteEls l
  simp only [byteEls] at this
  simp [byteEls, bytesOf, this]
theorem byteOk_byteEls : ∀ l : List UInt8, byteOk (byteEls l) = true
 | [] => rfl
 | b :: l => by
  have h := byteOk_byteEls l
  have hb := b.toNat_lt
  simp only [byteEls] at h
  simp [byteEls, byteOk, h]; omega
def vput (n : Nat) : List UInt8 := if n < 128 then [UInt8.ofNat n] else UInt8.ofNat (n % 128 + 128) :: vput (n / 128)
termination_by n
decreasing_by omega
theorem vput_small {n : Nat} (h : n < 128) : vput n = [UInt8.ofNat n] := by rw [vput, if_pos h]
theorem vput_big {n : Nat} (h : 128 ≤ n) : vput n = UInt8.ofNat (n % 128 + 128) :: vput (n / 128) := by rw [vput, if_neg (by omega)]
theorem vput_len : ∀ (k n : Nat), n < 128 ^ (k + 1) → (vput n).length ≤ k + 1
 | 0, n, h => by rw [vput_small (by simpa using h)]; simp
 | k + 1, n, h => by
  by_cases hn : n < 128
  ·rw [vput_small hn]; simp
  ·rw [vput_big (by omega), List.length_cons]
   have := vput_len k (n / 128) (by rw [Nat.pow_succ] at h; exact Nat.div_lt_of_lt_mul (by rw [Nat.mul_comm]; exact h))
   omega
theorem vput_len9 {n : Nat} (h : n ≤ 4611686018427387904) : (vput n).length ≤ 9 := vput_len 8 n (Nat.lt_of_le_of_lt h (by decide))
def vtakeGo : Nat → List UInt8 → Nat → Nat → Nat × Nat × Int
 | 0, _, _, _ => (0, 0, 11)
 | _ + 1, [], _, _ => (0, 0, 10)
 | m + 1, c :: r, k, n =>
  if 128 ≤ c.toNat then vtakeGo m r (k + 1) (n + c.toNat % 128 * 128 ^ k)
  else if (0 < k ∧ c.toNat = 0) ∨ 4611686018427387904 < n + c.toNat * 128 ^ k then (0, 0, 11) else (n + c.toNat * 128 ^ k, k + 1, 0)
def vtake (l : List UInt8) : Nat × Nat × Int := vtakeGo 9 l 0 0
theorem or_sum {a b i : Nat} (hb : b < 2 ^ i) : b ||| a * 2 ^ i = b + a * 2 ^ i := by
 rw [Nat.or_comm, Nat.mul_comm, ← Nat.two_pow_add_eq_or_of_lt hb, Nat.add_comm]
theorem pow128 (k : Nat) : 128 ^ k = 2 ^ (7 * k) := by rw [show (128 : Nat) = 2 ^ 7 from rfl, ← Nat.pow_mul]
theorem or_step {n c k : Nat} (hk : k ≤ 8) (hn : n < 128 ^ k) (hc : c < 128) :
  iOr .i64 (n : Int) (iShl .i64 (c : Int) (IntKind.i64.wrap (7 * (k : Int)))) = ((n + c * 128 ^ k : Nat) : Int) ∧ n + c * 128 ^ k < 128 ^ (k + 1) := by
 rw [iOr64, iShl64]
 have h7 : IntKind.i64.wrap (7 * (k : Int)) = ((7 * k : Nat) : Int) := by rw [wrap_small (by omega) (by omega)]; omega
 have hlt : n + c * 128 ^ k < 128 ^ (k + 1) := by
  rw [Nat.pow_succ]
  have : c * 128 ^ k ≤ 127 * 128 ^ k := Nat.mul_le_mul_right _ (by omega)
  omega
 have htop : (128 : Nat) ^ (k + 1) ≤ 128 ^ 9 := Nat.pow_le_pow_right (by omega) (by omega)
 have hval : (128 : Nat) ^ 9 = 9223372036854775808 := by decide
 have hmin : min (7 * k) 64 = 7 * k := by omega
 have hcast : (c : Int) * 2 ^ (7 * k) = ((c * 128 ^ k : Nat) : Int) := by rw [pow128]; simp
 refine ⟨?_, hlt⟩
 rw [h7, Int.toNat_natCast, hmin, hcast, wrap_small (n := ((c * 128 ^ k : Nat) : Int)) (by omega) (by omega), BitVec.toNat_or, ofInt_nat 64 n (by omega), ofInt_nat 64 (c * 128 ^ k) (by omega)]
 rw [pow128, or_sum (by rw [← pow128]; exact hn), wrap_small (by omega) (by rw [← pow128]; omega)]
theorem and127_u8 : ∀ b : Nat, b < 256 → iAnd .u8 (b : Int) 127 = ((b % 128 : Nat) : Int) := by
 intro b hb
 rw [iAnd8, BitVec.toNat_and, ofInt_nat 8 b (by omega), show (BitVec.ofInt 8 127).toNat = 2 ^ 7 - 1 from rfl, Nat.and_two_pow_sub_one_eq_mod, wrap_u8]
 congr 1; omega
theorem or128 (m : Nat) (h : m < 256) : m ||| 128 = m % 128 + 128 := by
 have : ∀ m : Fin 256, m.val ||| 128 = m.val % 128 + 128 := by decide +kernel
 exact this ⟨m, h⟩
theorem byte_more (n : Nat) : iOr .u8 (IntKind.u8.wrap (n : Int)) 128 = ((UInt8.ofNat (n % 128 + 128)).toNat : Int) := by
 rw [iOr8]
 simp only [wrap_u8]
 rw [BitVec.toNat_or, ofInt_nat 8 (n % 256) (by omega), show (BitVec.ofInt 8 128).toNat = 128 from rfl, or128 _ (by omega), UInt8.toNat_ofNat']
 congr 1; omega
theorem byte_last (n : Nat) (h : n < 128) : IntKind.u8.wrap (n : Int) = ((UInt8.ofNat n).toNat : Int) := by
 rw [wrap_u8, UInt8.toNat_ofNat']
theorem shr7 (n : Nat) : iShr .i64 (n : Int) 7 = ((n / 128 : Nat) : Int) := by
 rw [iShr64]
 have : min (7 : Int).toNat 64 = 7 := by decide
 rw [this]
 rw [Int.fdiv_eq_ediv_of_nonneg _ (by decide)]
 simp
theorem vtakeGo_put : ∀ (m n k acc : Nat) (r : List UInt8), n < 128 ^ (m + 1) → acc + n * 128 ^ k ≤ 4611686018427387904 → (0 < k → 0 < n) → vtakeGo (m + 1) (vput n ++ r) k acc = (acc + n * 128 ^ k, k + (vput n).length, 0)
 | m, n, k, acc, r, hm, hle, hk => by
  by_cases hn : n < 128
  ·have e : (UInt8.ofNat n).toNat = n := by rw [UInt8.toNat_ofNat', Nat.mod_eq_of_lt (by omega)]
   rw [vput_small hn]
   simp only [List.singleton_append, vtakeGo, e]
   rw [if_neg (by omega), if_neg (by rintro (⟨h1, h2⟩ | h); have := hk h1; omega; omega)]
   simp
  ·have e : (UInt8.ofNat (n % 128 + 128)).toNat = n % 128 + 128 := by rw [UInt8.toNat_ofNat', Nat.mod_eq_of_lt (by omega)]
   rw [vput_big (by omega)]
   simp only [List.cons_append, vtakeGo, e]
   rw [if_pos (by omega)]
   cases m with
   | zero => simp at hm; omega
   | succ m =>
    have e2 : acc + (n % 128 + 128) % 128 * 128 ^ k + n / 128 * 128 ^ (k + 1) = acc + n * 128 ^ k := by
     rw [Nat.pow_succ, show (n % 128 + 128) % 128 = n % 128 from by omega]
     have h1 : n * 128 ^ k = (n / 128 * 128 + n % 128) * 128 ^ k := by rw [Nat.div_add_mod' n 128]
     rw [h1, Nat.add_mul, Nat.mul_assoc, Nat.mul_comm 128 (128 ^ k)]; omega
    rw [vtakeGo_put m (n / 128) (k + 1) _ r (by rw [Nat.pow_succ] at hm; exact Nat.div_lt_of_lt_mul (by rw [Nat.mul_comm]; exact hm)) (by rw [e2]; exact hle) (fun _ => by omega)]
    rw [e2]; simp; omega
theorem vtake_put {n : Nat} (h : n ≤ 4611686018427387904) (r : List UInt8) : vtake (vput n ++ r) = (n, (vput n).length, 0) := by
 have := vtakeGo_put 8 n 0 0 r (Nat.lt_of_le_of_lt h (by decide)) (by simpa using h) (by omega)
 simpa [vtake] using this
theorem vtakeGo_bound : ∀ (m : Nat) (l : List UInt8) (k n : Nat), (vtakeGo m l k n).1 ≤ 4611686018427387904 ∧ ((vtakeGo m l k n).2.2 = 0 → (vtakeGo m l k n).2.1 ≤ k + l.length ∧ k < (vtakeGo m l k n).2.1) ∧ ((vtakeGo m l k n).2.2 ≠ 0 → (vtakeGo m l k n).1 = 0 ∧ (vtakeGo m l k n).2.1 = 0) ∧
  ((vtakeGo m l k n).2.2 = 0 ∨ (vtakeGo m l k n).2.2 = 10 ∨ (vtakeGo m l k n).2.2 = 11)
 | 0, l, k, n => by simp [vtakeGo]
 | m + 1, [], k, n => by simp [vtakeGo]
 | m + 1, c :: r, k, n => by
  simp only [vtakeGo]
  split
  ·obtain ⟨h1, h2, h3, h4⟩ := vtakeGo_bound m r (k + 1) (n + c.toNat % 128 * 128 ^ k)
   refine ⟨h1, fun h => ?_, h3, h4⟩
   have := h2 h
   simp only [List.length_cons]; omega
  ·split
   ·simp
   ·rename_i h
    refine ⟨by simp only; omega, fun _ => by simp, fun h => absurd rfl h, .inl rfl⟩
theorem vtake_le (l : List UInt8) : (vtake l).2.1 ≤ l.length := by
 obtain ⟨_, h2, h3, _⟩ := vtakeGo_bound 9 l 0 0
 unfold vtake
 by_cases h : (vtakeGo 9 l 0 0).2.2 = 0
 ·have := (h2 h).1; omega
 ·rw [(h3 h).2]; exact Nat.zero_le _
attribute [local simp ↓] upd_app tl_cons tl_nil
attribute [local simp] byteEls_snoc byteEls_len bytesOf_byteEls
def vputM (n : Int) : List UInt8 × Int := if 0 ≤ n ∧ n ≤ 4611686018427387904 then (vput n.toNat, 0) else ([], 1)
theorem vput_tri (n : Int) : Tri Tryz.prog 131 [.int .i64 n] [] (fun v H => v = .tup [.str (vputM n).1, .int .i64 (vputM n).2] ∧ H = []) := by
 refine Tri.of_run' Tryz.func131 rfl c131_ok (by simp [Tryz.ntmps131]) ?_
 by_cases h0 : n < 0
 ·(repeat (first | refine Run.adm rfl ?_ | refine Run.seq ?_ | ((first | apply Run.opS rfl | apply Run.condS); (· (simp -implicitDefEqProofs [h0]; first | exact ⟨rfl, rfl⟩ | exact rfl)))))
  refine Run.retI Tryz.func131 r131_ok trivial (by simp -implicitDefEqProofs [r131]; rfl) (by simp ) ?_ (by simp -implicitDefEqProofs ) (by simp -implicitDefEqProofs )
  simp [vputM, show ¬ 0 ≤ n by omega]
 by_cases h1 : 4611686018427387904 < n
 ·(repeat (first | refine Run.adm rfl ?_ | refine Run.seq ?_ | ((first | apply Run.opS rfl | apply Run.condS); (· (simp -implicitDefEqProofs [h0, h1]; first | exact ⟨rfl, rfl⟩ | exact rfl)))))
  refine Run.retI Tryz.func131 r131_ok trivial (by simp -implicitDefEqProofs [r131]; rfl) (by simp ) ?_ (by simp -implicitDefEqProofs ) (by simp -implicitDefEqProofs )
  simp [vputM, show ¬ n ≤ 4611686018427387904 by omega]
 obtain ⟨m0, rfl⟩ : ∃ m : Nat, n = m := ⟨n.toNat, by omega⟩
 have hM : vputM m0 = (vput m0, 0) := by rw [vputM, if_pos ⟨by omega, by omega⟩, Int.toNat_natCast]
 rw [hM]
 (repeat (first | refine Run.adm rfl ?_ | refine Run.seq ?_ | ((first | apply Run.opS rfl | apply Run.condS); (· (simp -implicitDefEqProofs [h0, h1]; first | exact ⟨rfl, rfl⟩ | exact rfl)))))
 refine Run.nilA 4 1 (by simp) ?_
 refine Run.loopC [0] (fun (a : Nat × List UInt8) => ([(0, .int .i64 a.1), (4, .sl 0 0 a.2.length 1 none)], [.arr (byteEls a.2) 1])) (fun a => a.1 ≤ 4611686018427387904 ∧ a.2 ++ vput a.1 = vput m0) (fun a => a.1) (m0, [])
  ⟨by simp only; omega, by simp⟩ (by rfl) (by decide) (by simp) (by simp [byteEls_nil]) ?_
 rintro ⟨m, o⟩ ⟨hm, hgo⟩ ih
 simp only at hm hgo ih ⊢
 have hlo : o.length + (vput m).length ≤ 9 := by
  rw [← List.length_append, hgo]; exact vput_len9 (by omega)
 by_cases hlt : 128 ≤ m
 ·have hlt' : (128 : Int) ≤ m := by omega
  have hb : o.length + 1 ≤ 70368744177664 := by omega
  obtain ⟨b, hbb⟩ : ∃ b, b = UInt8.ofNat (m % 128 + 128) := ⟨_, rfl⟩
  have hbm := byte_more m
  rw [← hbb] at hbm
  (repeat (first | refine Run.adm rfl ?_ | refine Run.seq ?_ | ((first | apply Run.opS rfl | apply Run.condS); (· (simp -implicitDefEqProofs [hlt', hbm, hb]; first | exact ⟨rfl, rfl⟩ | exact rfl)))))
  refine Run.mv [2] _ _ (by rfl) (by decide) (by simp -implicitDefEqProofs [shr7]) (by simp -implicitDefEqProofs [shr7]) (ih ((m / 128, o ++ [b])) ?_ ?_)
  ·rw [vput_big hlt, ← hbb] at hgo
   exact ⟨by simp only; omega, by simpa using hgo⟩
  ·simp only; omega
 ·have hlt' : ¬ (128 : Int) ≤ m := by omega
  have hb : o.length + 1 ≤ 70368744177664 := by omega
  obtain ⟨b, hbb⟩ : ∃ b, b = UInt8.ofNat m := ⟨_, rfl⟩
  have hbl := byte_last m (by omega)
  rw [← hbb] at hbl
  have htk : (byteEls (o ++ [b])).take (o.length + 1) = byteEls (o ++ [b]) := take_byteEls (by simp)
  (repeat (first | refine Run.adm rfl ?_ | refine Run.seq ?_ | ((first | apply Run.opS rfl | apply Run.condS); (· (simp -implicitDefEqProofs [hlt', hbl, hb, htk]; first | exact ⟨rfl, rfl⟩ | exact rfl)))))
  refine Run.mv [] [(2, .str (o ++ [b])), (3, .int .i64 0)] [] (by rfl) (by decide) (by simp -implicitDefEqProofs) (by simp -implicitDefEqProofs) ?_
  refine Run.retI Tryz.func131 r131_ok trivial (by simp -implicitDefEqProofs [r131]; rfl) (by simp ) ?_ (by simp -implicitDefEqProofs ) (by simp -implicitDefEqProofs )
  rw [vput_small (by omega), ← hbb] at hgo
  simp [hgo]
theorem vput_at (n : Int) (H : List O) : Tri Tryz.prog 131 [.int .i64 n] H (fun v H' => v = .tup [.str (vputM n).1, .int .i64 (vputM n).2] ∧ H' = H) := (vput_tri n).at rfl rfl H
def vtakeV (l : List UInt8) : V := .tup [.int .i64 (vtake l).1, .int .i64 (vtake l).2.1, .int .i64 (vtake l).2.2]
theorem vtake_tri (l : List UInt8) (hl : l.length ≤ 70368744177664) : Tri Tryz.prog 78 [.str l] [] (fun v H => v = vtakeV l ∧ H = []) := by
 refine Tri.of_run' Tryz.func78 rfl c78_ok (by simp [Tryz.ntmps78]) ?_
 (repeat (first | refine Run.adm rfl ?_ | refine Run.seq ?_ | ((first | apply Run.opS rfl | apply Run.condS); (· (simp -implicitDefEqProofs; first | exact ⟨rfl, rfl⟩ | exact rfl)))))
 refine Run.loopC [] (fun (a : Nat × Nat) => ([(0, .str l), (5, .int .i64 a.2), (8, .int .i64 a.1)], [])) (fun a => a.1 ≤ 9 ∧ a.1 ≤ l.length ∧ a.2 < 128 ^ a.1 ∧ vtakeGo (9 - a.1) (l.drop a.1) a.1 a.2 = vtake l) (fun a => 9 - a.1) (0, 0)
  ⟨by simp, by simp, by simp, by simp [vtake]⟩ (by rfl) (by decide) (by simp) (by simp) ?_
 rintro ⟨k, n⟩ ⟨hk, hkl, hn, hgo⟩ ih
 simp only at hk hkl hn hgo ih ⊢
 by_cases h9 : k < 9
 ·have h9' : (k : Int) < 9 := by omega
  obtain ⟨m, hm⟩ : ∃ m, 9 - k = m + 1 := ⟨8 - k, by omega⟩
  rw [hm] at hgo
  by_cases hkL : k = l.length
  ·subst hkL
   rw [List.drop_length, vtakeGo] at hgo
   (repeat (first | refine Run.adm rfl ?_ | refine Run.seq ?_ | ((first | apply Run.opS rfl | apply Run.condS); (· (simp -implicitDefEqProofs [h9']; first | exact ⟨rfl, rfl⟩ | exact rfl)))))
   refine Run.retI Tryz.func78 r78_ok trivial (by simp -implicitDefEqProofs [r78]; rfl) (by simp ) ?_ (by simp -implicitDefEqProofs ) (by simp -implicitDefEqProofs )
   simp [vtakeV, ← hgo]
  ·have hkL' : ¬ (k : Int) = (l.length : Int) := by omega
   obtain ⟨c, hc, hdrop⟩ : ∃ c, l[k]? = some c ∧ l.drop k = c :: l.drop (k + 1) := ⟨l[k]'(by omega), by simp [show k < l.length by omega], List.drop_eq_getElem_cons (by omega)⟩
   rw [hdrop, vtakeGo] at hgo
   have hc256 := c.toNat_lt
   obtain ⟨c7, hc7⟩ : ∃ c7, c7 = c.toNat % 128 := ⟨_, rfl⟩
   obtain ⟨ho1, ho2⟩ := or_step (n := n) (c := c7) (k := k) (by omega) hn (by omega)
   have hand := and127_u8 c.toNat (by omega)
   rw [← hc7] at hand hgo
   have hm0 : 0 ≤ IntKind.i64.wrap (7 * (k : Int)) := by rw [wrap_small (by omega) (by omega)]; omega
   have hcw : IntKind.i64.wrap (c7 : Int) = (c7 : Int) := wrap_small (by omega) (by omega)
   generalize hn' : n + c7 * 128 ^ k = n' at ho1 ho2 hgo
   have hw := wrap_small (n := (k : Int) + 1) (by omega) (by omega)
   (repeat (first | refine Run.adm rfl ?_ | refine Run.seq ?_ | ((first | apply Run.opS rfl | apply Run.condS); (· (simp -implicitDefEqProofs [h9', hkL', hc, hand, hcw, hm0, ho1]; first | exact ⟨rfl, rfl⟩ | exact rfl)))))
   by_cases hb : 128 ≤ c.toNat
   ·have hb' : (128 : Int) ≤ c.toNat := by omega
    (repeat (first | refine Run.adm rfl ?_ | refine Run.seq ?_ | ((first | apply Run.opS rfl | apply Run.condS); (· (simp -implicitDefEqProofs [hb, hb']; first | exact ⟨rfl, rfl⟩ | exact rfl)))))
    refine Run.mv [] _ _ (by rfl) (by decide) (by simp -implicitDefEqProofs [hw]) (by simp -implicitDefEqProofs [hw]) (ih ((k + 1, n')) ?_ ?_)
    ·rw [if_pos hb] at hgo
     exact ⟨by omega, by simp only; omega, ho2, by simp only; rw [show 9 - (k + 1) = m by omega]; exact hgo⟩
    ·simp only; omega
   ·have hb' : ¬ (128 : Int) ≤ c.toNat := by omega
    have e : c7 = c.toNat := by rw [hc7]; exact Nat.mod_eq_of_lt (by omega)
    rw [if_neg hb, ← e, hn', e] at hgo
    by_cases hbad : (0 < k ∧ c.toNat = 0) ∨ 4611686018427387904 < n'
    ·rw [if_pos hbad] at hgo
     have hfin : vtakeV l = .tup [.int .i64 0, .int .i64 0, .int .i64 11] := by simp [vtakeV, ← hgo]
     rcases hbad with ⟨hk0, hc0⟩ | hbig
     ·(repeat (first | refine Run.adm rfl ?_ | refine Run.seq ?_ | ((first | apply Run.opS rfl | apply Run.condS); (· (simp -implicitDefEqProofs [hb, hb', hk0, hc0]; first | exact ⟨rfl, rfl⟩ | exact rfl)))))
      refine Run.retI Tryz.func78 r78_ok trivial (by simp -implicitDefEqProofs [r78]; rfl) (by simp ) ?_ (by simp -implicitDefEqProofs ) (by simp -implicitDefEqProofs )
      simp [hfin]
     ·have hbig' : (4611686018427387904 : Int) < n' := by omega
      by_cases hz : 0 < k ∧ c.toNat = 0
      ·(repeat (first | refine Run.adm rfl ?_ | refine Run.seq ?_ | ((first | apply Run.opS rfl | apply Run.condS); (· (simp -implicitDefEqProofs [hb, hb', hz]; first | exact ⟨rfl, rfl⟩ | exact rfl)))))
       refine Run.retI Tryz.func78 r78_ok trivial (by simp -implicitDefEqProofs [r78]; rfl) (by simp ) ?_ (by simp -implicitDefEqProofs ) (by simp -implicitDefEqProofs )
       simp [hfin]
      ·by_cases hk0 : 0 < k
       ·have hc0 : ¬ c.toNat = 0 := fun h => hz ⟨hk0, h⟩
        (repeat (first | refine Run.adm rfl ?_ | refine Run.seq ?_ | ((first | apply Run.opS rfl | apply Run.condS); (· (simp -implicitDefEqProofs [hb, hb', hk0, hc0, hbig, hbig']; first | exact ⟨rfl, rfl⟩ | exact rfl)))))
        refine Run.retI Tryz.func78 r78_ok trivial (by simp -implicitDefEqProofs [r78]; rfl) (by simp ) ?_ (by simp -implicitDefEqProofs ) (by simp -implicitDefEqProofs )
        simp [hfin]
       ·(repeat (first | refine Run.adm rfl ?_ | refine Run.seq ?_ | ((first | apply Run.opS rfl | apply Run.condS); (· (simp -implicitDefEqProofs [hb, hb', hk0, hbig, hbig']; first | exact ⟨rfl, rfl⟩ | exact rfl)))))
        refine Run.retI Tryz.func78 r78_ok trivial (by simp -implicitDefEqProofs [r78]; rfl) (by simp ) ?_ (by simp -implicitDefEqProofs ) (by simp -implicitDefEqProofs )
        simp [hfin]
    ·rw [if_neg hbad] at hgo
     have hfin : vtakeV l = .tup [.int .i64 n', .int .i64 (k + 1), .int .i64 0] := by simp [vtakeV, ← hgo]
     have hsm : ¬ 4611686018427387904 < n' := fun h => hbad (.inr h)
     have hsm' : ¬ (4611686018427387904 : Int) < n' := by omega
     by_cases hk0 : 0 < k
     ·have hc0 : ¬ c.toNat = 0 := fun h => hbad (.inl ⟨hk0, h⟩)
      (repeat (first | refine Run.adm rfl ?_ | refine Run.seq ?_ | ((first | apply Run.opS rfl | apply Run.condS); (· (simp -implicitDefEqProofs [hb, hb', hk0, hc0, hsm, hsm', hw]; first | exact ⟨rfl, rfl⟩ | exact rfl)))))
      refine Run.retI Tryz.func78 r78_ok trivial (by simp -implicitDefEqProofs [r78]; rfl) (by simp ) ?_ (by simp -implicitDefEqProofs ) (by simp -implicitDefEqProofs )
      simp [hfin]
     ·(repeat (first | refine Run.adm rfl ?_ | refine Run.seq ?_ | ((first | apply Run.opS rfl | apply Run.condS); (· (simp -implicitDefEqProofs [hb, hb', hk0, hsm, hsm', hw]; first | exact ⟨rfl, rfl⟩ | exact rfl)))))
      refine Run.retI Tryz.func78 r78_ok trivial (by simp -implicitDefEqProofs [r78]; rfl) (by simp ) ?_ (by simp -implicitDefEqProofs ) (by simp -implicitDefEqProofs )
      simp [hfin]
 ·have h9' : ¬ (k : Int) < 9 := by omega
  have : k = 9 := by omega
  subst this
  (repeat (first | refine Run.adm rfl ?_ | refine Run.seq ?_ | ((first | apply Run.opS rfl | apply Run.condS); (· (simp -implicitDefEqProofs; first | exact ⟨rfl, rfl⟩ | exact rfl)))))
  refine Run.retI Tryz.func78 r78_ok trivial (by simp -implicitDefEqProofs [r78]; rfl) (by simp ) ?_ (by simp -implicitDefEqProofs ) (by simp -implicitDefEqProofs )
  simp [vtakeV, ← hgo, vtakeGo]
attribute [local simp ↓] upd_app tl_cons tl_nil
theorem vtake_at (l : List UInt8) (hl : l.length ≤ 70368744177664) (H : List O) : Tri Tryz.prog 78 [.str l] H (fun v H' => v = vtakeV l ∧ H' = H) := (vtake_tri l hl).at rfl rfl H
end Go.Proofs.YthphkcpbglhabaaGreatDoor
namespace Go.Proofs
open Go.Shelf
def Tryz.keys88_ren : Go.Shelf.Ren := ⟨fun | 7 => 88 | 10 => 139 | n => n, fun | 23 => 86 | 26 => 9 | 3 => 104 | 28 => 168 | 0 => 0 | 27 => 167 | 33 => 140 | 4 => 4 | n => n, fun | n => n⟩
theorem Tryz.keys88 : Go.Proofs.SlLaysZ.n7 Tryz.prog Tryz.keys88_ren := {
 mixed := by kernel_rfl
 f7 := ⟨Tryz.f88.name, by decide, Tryz.func88.trans (congrArg some (by kernel_rfl))⟩
 f10 := ⟨Tryz.f139.name, by decide, Tryz.func139.trans (congrArg some (by kernel_rfl))⟩
 t0 := Tryz.underlying0
 a0 := Tryz.isAgg0
 z0 := Tryz.sizeOf0
 v0 := Tryz.zeroValue0
 t4 := Tryz.underlying4
 a4 := Tryz.isAgg4
 z4 := Tryz.sizeOf4
 v4 := Tryz.zeroValue4
 t23 := Tryz.underlying86
 a23 := Tryz.isAgg86
 z23 := Tryz.sizeOf86
 v23 := Tryz.zeroValue86
 t26 := Tryz.underlying9
 a26 := Tryz.isAgg9
 z26 := Tryz.sizeOf9
 v26 := Tryz.zeroValue9
 t27 := Tryz.underlying167
 a27 := Tryz.isAgg167
 z27 := Tryz.sizeOf167
 v27 := Tryz.zeroValue167
 t28 := Tryz.underlying168
 a28 := Tryz.isAgg168
 z28 := Tryz.sizeOf168
 v28 := Tryz.zeroValue168
 t33 := Tryz.underlying140
 a33 := Tryz.isAgg140
 z33 := Tryz.sizeOf140
 v33 := Tryz.zeroValue140 }
def Tryz.sorted87_ren : Go.Shelf.Ren := ⟨fun | 6 => 87 | 8 => 137 | 9 => 138 | 11 => 168 | 13 => 170 | 12 => 169 | 23 => 205 | 24 => 206 | 14 => 196 | 15 => 197 | 16 => 198 | 17 => 199 | 18 => 200 | 19 => 201 | 20 => 202 | 21 => 203 | 22 => 204 | 25 => 219 | 26 => 220 | 27 => 221 | 28 => 222 | 29 => 223 | 30 => 224 | 31 => 232 | n => n, fun | 26 => 9 | 28 => 168 | 24 => 94 | 0 => 0 | 3 => 3 | 37 => 233 | 48 => 278 | 50 => 281 | 4 => 4 | 40 => 288 | 39 => 287 | 45 => 197 | 5 => 5 | 9 => 9 | 51 => 310 | 55 => 246 | 57 => 323 | 58 => 324 | 33 => 140 | n => n, fun | n => n⟩
theorem Tryz.sorted87 : Go.Proofs.SlLaysZ.n6 Tryz.prog Tryz.sorted87_ren := {
 mixed := by kernel_rfl
 f6 := ⟨Tryz.f87.name, by decide, Tryz.func87.trans (congrArg some (by kernel_rfl))⟩
 f8 := ⟨Tryz.f137.name, by decide, Tryz.func137.trans (congrArg some (by kernel_rfl))⟩
 f11 := ⟨Tryz.f168.name, by decide, Tryz.func168.trans (congrArg some (by kernel_rfl))⟩
 t0 := Tryz.underlying0
 a0 := Tryz.isAgg0
 z0 := Tryz.sizeOf0
 v0 := Tryz.zeroValue0
 t24 := Tryz.underlying94
 a24 := Tryz.isAgg94
 z24 := Tryz.sizeOf94
 v24 := Tryz.zeroValue94
 t26 := Tryz.underlying9
 a26 := Tryz.isAgg9
 z26 := Tryz.sizeOf9
 v26 := Tryz.zeroValue9
 t28 := Tryz.underlying168
 a28 := Tryz.isAgg168
 z28 := Tryz.sizeOf168
 v28 := Tryz.zeroValue168
 i26 := by kernel_rfl }
def Tryz.sort138_ren : Go.Shelf.Ren := ⟨fun | 6 => 138 | 8 => 170 | 9 => 169 | 19 => 205 | 20 => 206 | 21 => 196 | 22 => 197 | 23 => 198 | 24 => 199 | 25 => 200 | 26 => 201 | 27 => 202 | 28 => 203 | 29 => 204 | 36 => 219 | 31 => 220 | 32 => 221 | 37 => 222 | 38 => 223 | 39 => 224 | 41 => 232 | n => n, fun | 27 => 94 | 29 => 9 | 3 => 3 | 32 => 233 | 26 => 94 | 0 => 0 | 44 => 278 | 46 => 281 | 4 => 4 | 36 => 288 | 35 => 287 | 41 => 197 | 5 => 5 | 9 => 9 | 53 => 310 | 57 => 246 | 63 => 323 | 64 => 324 | n => n, fun | n => n⟩
theorem Tryz.sort138 : Go.Proofs.SlLaysM.n6 Tryz.prog Tryz.sort138_ren := {
 mixed := by kernel_rfl
 f6 := ⟨Tryz.f138.name, by decide, Tryz.func138.trans (congrArg some (by kernel_rfl))⟩
 f8 := Tryz.func170.trans (congrArg some (by kernel_rfl))
 f9 := ⟨Tryz.f169.name, by decide, Tryz.func169.trans (congrArg some (by kernel_rfl))⟩
 f19 := Tryz.func205.trans (congrArg some (by kernel_rfl))
 f20 := Tryz.func206.trans (congrArg some (by kernel_rfl))
 f21 := ⟨Tryz.f196.name, by decide, Tryz.func196.trans (congrArg some (by kernel_rfl))⟩
 f22 := ⟨Tryz.f197.name, by decide, Tryz.func197.trans (congrArg some (by kernel_rfl))⟩
 f23 := ⟨Tryz.f198.name, by decide, Tryz.func198.trans (congrArg some (by kernel_rfl))⟩
 f24 := ⟨Tryz.f199.name, by decide, Tryz.func199.trans (congrArg some (by kernel_rfl))⟩
 f25 := ⟨Tryz.f200.name, by decide, Tryz.func200.trans (congrArg some (by kernel_rfl))⟩
 f26 := ⟨Tryz.f201.name, by decide, Tryz.func201.trans (congrArg some (by kernel_rfl))⟩
 f27 := ⟨Tryz.f202.name, by decide, Tryz.func202.trans (congrArg some (by kernel_rfl))⟩
 f28 := ⟨Tryz.f203.name, by decide, Tryz.func203.trans (congrArg some (by kernel_rfl))⟩
 f29 := ⟨Tryz.f204.name, by decide, Tryz.func204.trans (congrArg some (by kernel_rfl))⟩
 f31 := Tryz.func220.trans (congrArg some (by kernel_rfl))
 f32 := Tryz.func221.trans (congrArg some (by kernel_rfl))
 f36 := ⟨Tryz.f219.name, by decide, Tryz.func219.trans (congrArg some (by kernel_rfl))⟩
 f37 := ⟨Tryz.f222.name, by decide, Tryz.func222.trans (congrArg some (by kernel_rfl))⟩
 f38 := ⟨Tryz.f223.name, by decide, Tryz.func223.trans (congrArg some (by kernel_rfl))⟩
 f39 := ⟨Tryz.f224.name, by decide, Tryz.func224.trans (congrArg some (by kernel_rfl))⟩
 f41 := ⟨Tryz.f232.name, by decide, Tryz.func232.trans (congrArg some (by kernel_rfl))⟩
 t0 := Tryz.underlying0
 a0 := Tryz.isAgg0
 z0 := Tryz.sizeOf0
 v0 := Tryz.zeroValue0
 t3 := Tryz.underlying3
 a3 := Tryz.isAgg3
 z3 := Tryz.sizeOf3
 v3 := Tryz.zeroValue3
 t4 := Tryz.underlying4
 a4 := Tryz.isAgg4
 z4 := Tryz.sizeOf4
 v4 := Tryz.zeroValue4
 t5 := Tryz.underlying5
 a5 := Tryz.isAgg5
 z5 := Tryz.sizeOf5
 v5 := Tryz.zeroValue5
 t9 := Tryz.underlying9
 a9 := Tryz.isAgg9
 z9 := Tryz.sizeOf9
 v9 := Tryz.zeroValue9
 t26 := Tryz.underlying94
 a26 := Tryz.isAgg94
 z26 := Tryz.sizeOf94
 v26 := Tryz.zeroValue94
 t27 := Tryz.underlying94
 a27 := Tryz.isAgg94
 z27 := Tryz.sizeOf94
 v27 := Tryz.zeroValue94
 t29 := Tryz.underlying9
 a29 := Tryz.isAgg9
 z29 := Tryz.sizeOf9
 v29 := Tryz.zeroValue9
 t32 := Tryz.underlying233
 a32 := Tryz.isAgg233
 z32 := Tryz.sizeOf233
 v32 := Tryz.zeroValue233
 t35 := Tryz.underlying287
 a35 := Tryz.isAgg287
 z35 := Tryz.sizeOf287
 v35 := Tryz.zeroValue287
 t36 := Tryz.underlying288
 a36 := Tryz.isAgg288
 z36 := Tryz.sizeOf288
 v36 := Tryz.zeroValue288
 t41 := Tryz.underlying197
 a41 := Tryz.isAgg197
 z41 := Tryz.sizeOf197
 v41 := Tryz.zeroValue197
 t44 := Tryz.underlying278
 a44 := Tryz.isAgg278
 z44 := Tryz.sizeOf278
 v44 := Tryz.zeroValue278
 t46 := Tryz.underlying281
 a46 := Tryz.isAgg281
 z46 := Tryz.sizeOf281
 v46 := Tryz.zeroValue281
 t53 := Tryz.underlying310
 a53 := Tryz.isAgg310
 z53 := Tryz.sizeOf310
 v53 := Tryz.zeroValue310
 t57 := Tryz.underlying246
 a57 := Tryz.isAgg246
 z57 := Tryz.sizeOf246
 v57 := Tryz.zeroValue246
 t63 := Tryz.underlying323
 a63 := Tryz.isAgg323
 z63 := Tryz.sizeOf323
 v63 := Tryz.zeroValue323
 t64 := Tryz.underlying324
 a64 := Tryz.isAgg324
 z64 := Tryz.sizeOf324
 v64 := Tryz.zeroValue324 }
def Tryz.l86_ren : Go.Shelf.Ren := ⟨fun | 15 => 86 | 20 => 136 | n => n, fun | 9 => 9 | 23 => 164 | 3 => 3 | 4 => 4 | 0 => 0 | 21 => 21 | n => n, fun | n => n⟩
theorem Tryz.l86 : Go.Proofs.LaysGw.n15 Tryz.prog Tryz.l86_ren := {
 mixed := by kernel_rfl
 f15 := Tryz.func86.trans (congrArg some (by kernel_rfl))
 f20 := Tryz.func136.trans (congrArg some (by kernel_rfl))
 t0 := Tryz.underlying0
 a0 := Tryz.isAgg0
 z0 := Tryz.sizeOf0
 v0 := Tryz.zeroValue0
 i0 := by kernel_rfl
 t3 := Tryz.underlying3
 a3 := Tryz.isAgg3
 z3 := Tryz.sizeOf3
 v3 := Tryz.zeroValue3
 i3 := by kernel_rfl
 t4 := Tryz.underlying4
 a4 := Tryz.isAgg4
 z4 := Tryz.sizeOf4
 v4 := Tryz.zeroValue4
 i4 := by kernel_rfl
 t9 := Tryz.underlying9
 a9 := Tryz.isAgg9
 z9 := Tryz.sizeOf9
 v9 := Tryz.zeroValue9
 i9 := by kernel_rfl
 t21 := Tryz.underlying21
 a21 := Tryz.isAgg21
 z21 := Tryz.sizeOf21
 v21 := Tryz.zeroValue21
 i21 := by kernel_rfl
 t23 := Tryz.underlying164
 a23 := Tryz.isAgg164
 z23 := Tryz.sizeOf164
 v23 := Tryz.zeroValue164
 i23 := by kernel_rfl }
def Tryz.itoa124_ren : Go.Shelf.Ren := ⟨fun | 171 => 124 | 243 => 160 | 246 => 189 | 283 => 214 | 284 => 215 | 285 => 216 | 286 => 217 | 129 => 206 | 317 => 228 | 318 => 229 | 319 => 230 | 320 => 231 | 337 => 235 | 338 => 236 | n => n, fun | 3 => 3 | 9 => 9 | 2 => 2 | 4 => 4 | 171 => 305 | 0 => 0 | 53 => 281 | 37 => 105 | 5 => 5 | 173 => 307 | 212 => 321 | 51 => 278 | 20 => 20 | 213 => 322 | 46 => 233 | 232 => 330 | 233 => 331 | n => n, fun | 17 => 2 | 18 => 4 | 19 => 5 | n => n⟩
theorem Tryz.itoa124 : Go.Proofs.LaysM.n171 Tryz.prog Tryz.itoa124_ren := {
 mixed := by kernel_rfl
 f129 := Tryz.func206.trans (congrArg some (by kernel_rfl))
 f171 := Tryz.func124.trans (congrArg some (by kernel_rfl))
 f243 := Tryz.func160.trans (congrArg some (by kernel_rfl))
 f246 := Tryz.func189.trans (congrArg some (by kernel_rfl))
 f283 := Tryz.func214.trans (congrArg some (by kernel_rfl))
 f284 := Tryz.func215.trans (congrArg some (by kernel_rfl))
 f285 := Tryz.func216.trans (congrArg some (by kernel_rfl))
 f286 := Tryz.func217.trans (congrArg some (by kernel_rfl))
 f317 := Tryz.func228.trans (congrArg some (by kernel_rfl))
 f318 := Tryz.func229.trans (congrArg some (by kernel_rfl))
 f319 := Tryz.func230.trans (congrArg some (by kernel_rfl))
 f320 := Tryz.func231.trans (congrArg some (by kernel_rfl))
 f337 := Tryz.func235.trans (congrArg some (by kernel_rfl))
 f338 := Tryz.func236.trans (congrArg some (by kernel_rfl))
 t0 := Tryz.underlying0
 a0 := Tryz.isAgg0
 z0 := Tryz.sizeOf0
 v0 := Tryz.zeroValue0
 t2 := Tryz.underlying2
 a2 := Tryz.isAgg2
 z2 := Tryz.sizeOf2
 v2 := Tryz.zeroValue2
 t3 := Tryz.underlying3
 a3 := Tryz.isAgg3
 z3 := Tryz.sizeOf3
 v3 := Tryz.zeroValue3
 t4 := Tryz.underlying4
 a4 := Tryz.isAgg4
 z4 := Tryz.sizeOf4
 v4 := Tryz.zeroValue4
 t5 := Tryz.underlying5
 a5 := Tryz.isAgg5
 z5 := Tryz.sizeOf5
 v5 := Tryz.zeroValue5
 t9 := Tryz.underlying9
 a9 := Tryz.isAgg9
 z9 := Tryz.sizeOf9
 v9 := Tryz.zeroValue9
 t20 := Tryz.underlying20
 a20 := Tryz.isAgg20
 z20 := Tryz.sizeOf20
 v20 := Tryz.zeroValue20
 t37 := Tryz.underlying105
 a37 := Tryz.isAgg105
 z37 := Tryz.sizeOf105
 v37 := Tryz.zeroValue105
 t46 := Tryz.underlying233
 a46 := Tryz.isAgg233
 z46 := Tryz.sizeOf233
 v46 := Tryz.zeroValue233
 t51 := Tryz.underlying278
 a51 := Tryz.isAgg278
 z51 := Tryz.sizeOf278
 v51 := Tryz.zeroValue278
 t53 := Tryz.underlying281
 a53 := Tryz.isAgg281
 z53 := Tryz.sizeOf281
 v53 := Tryz.zeroValue281
 t171 := Tryz.underlying305
 a171 := Tryz.isAgg305
 z171 := Tryz.sizeOf305
 v171 := Tryz.zeroValue305
 t173 := Tryz.underlying307
 a173 := Tryz.isAgg307
 z173 := Tryz.sizeOf307
 v173 := Tryz.zeroValue307
 t212 := Tryz.underlying321
 a212 := Tryz.isAgg321
 z212 := Tryz.sizeOf321
 v212 := Tryz.zeroValue321
 t213 := Tryz.underlying322
 a213 := Tryz.isAgg322
 z213 := Tryz.sizeOf322
 t232 := Tryz.underlying330
 a232 := Tryz.isAgg330
 z232 := Tryz.sizeOf330
 v232 := Tryz.zeroValue330
 t233 := Tryz.underlying331
 a233 := Tryz.isAgg331
 z233 := Tryz.sizeOf331
 v233 := Tryz.zeroValue331
 g17 := by kernel_rfl
 g18 := by kernel_rfl
 g19 := by kernel_rfl
 i0 := by kernel_rfl
 i2 := by kernel_rfl
 i3 := by kernel_rfl
 i4 := by kernel_rfl
 i5 := by kernel_rfl
 i9 := by kernel_rfl
 i20 := by kernel_rfl
 i37 := by kernel_rfl
 i46 := by kernel_rfl
 i51 := by kernel_rfl
 i53 := by kernel_rfl
 i171 := by kernel_rfl
 i173 := by kernel_rfl
 i212 := by kernel_rfl
 i232 := by kernel_rfl
 i233 := by kernel_rfl
 m17 := by kernel_rfl
 m18 := by kernel_rfl
 m19 := by kernel_rfl }
def Tryz.repeat125_ren : Go.Shelf.Ren := ⟨fun | 105 => 125 | 212 => 161 | 99 => 162 | 165 => 163 | 166 => 132 | 170 => 164 | 169 => 133 | 263 => 190 | 264 => 191 | 206 => 192 | 240 => 167 | 241 => 193 | 276 => 195 | 277 => 218 | n => n, fun | 9 => 9 | 3 => 3 | 4 => 4 | 20 => 20 | 0 => 0 | 46 => 233 | 109 => 236 | 5 => 5 | 72 => 208 | 76 => 212 | 51 => 278 | 146 => 279 | 53 => 281 | 148 => 282 | 70 => 206 | 37 => 105 | 75 => 211 | 127 => 240 | 164 => 284 | 80 => 172 | n => n, fun | n => n⟩
theorem Tryz.repeat125 : Go.Proofs.Lays.n105 Tryz.prog Tryz.repeat125_ren := {
 mixed := by kernel_rfl
 f99 := Tryz.func162.trans (congrArg some (by kernel_rfl))
 f105 := Tryz.func125.trans (congrArg some (by kernel_rfl))
 f165 := Tryz.func163.trans (congrArg some (by kernel_rfl))
 f166 := Tryz.func132.trans (congrArg some (by kernel_rfl))
 f169 := Tryz.func133.trans (congrArg some (by kernel_rfl))
 f170 := Tryz.func164.trans (congrArg some (by kernel_rfl))
 f206 := Tryz.func192.trans (congrArg some (by kernel_rfl))
 f212 := Tryz.func161.trans (congrArg some (by kernel_rfl))
 f240 := Tryz.func167.trans (congrArg some (by kernel_rfl))
 f241 := Tryz.func193.trans (congrArg some (by kernel_rfl))
 f263 := Tryz.func190.trans (congrArg some (by kernel_rfl))
 f264 := Tryz.func191.trans (congrArg some (by kernel_rfl))
 f276 := Tryz.func195.trans (congrArg some (by kernel_rfl))
 f277 := Tryz.func218.trans (congrArg some (by kernel_rfl))
 t0 := Tryz.underlying0
 a0 := Tryz.isAgg0
 z0 := Tryz.sizeOf0
 v0 := Tryz.zeroValue0
 t3 := Tryz.underlying3
 a3 := Tryz.isAgg3
 z3 := Tryz.sizeOf3
 v3 := Tryz.zeroValue3
 t4 := Tryz.underlying4
 a4 := Tryz.isAgg4
 z4 := Tryz.sizeOf4
 v4 := Tryz.zeroValue4
 t5 := Tryz.underlying5
 a5 := Tryz.isAgg5
 z5 := Tryz.sizeOf5
 v5 := Tryz.zeroValue5
 t9 := Tryz.underlying9
 a9 := Tryz.isAgg9
 z9 := Tryz.sizeOf9
 v9 := Tryz.zeroValue9
 t20 := Tryz.underlying20
 a20 := Tryz.isAgg20
 z20 := Tryz.sizeOf20
 v20 := Tryz.zeroValue20
 t37 := Tryz.underlying105
 a37 := Tryz.isAgg105
 z37 := Tryz.sizeOf105
 v37 := Tryz.zeroValue105
 t46 := Tryz.underlying233
 a46 := Tryz.isAgg233
 z46 := Tryz.sizeOf233
 v46 := Tryz.zeroValue233
 t51 := Tryz.underlying278
 a51 := Tryz.isAgg278
 z51 := Tryz.sizeOf278
 v51 := Tryz.zeroValue278
 t53 := Tryz.underlying281
 a53 := Tryz.isAgg281
 z53 := Tryz.sizeOf281
 v53 := Tryz.zeroValue281
 t70 := Tryz.underlying206
 a70 := Tryz.isAgg206
 z70 := Tryz.sizeOf206
 v70 := Tryz.zeroValue206
 t72 := Tryz.underlying208
 a72 := Tryz.isAgg208
 z72 := Tryz.sizeOf208
 v72 := Tryz.zeroValue208
 t75 := Tryz.underlying211
 a75 := Tryz.isAgg211
 z75 := Tryz.sizeOf211
 v75 := Tryz.zeroValue211
 t76 := Tryz.underlying212
 a76 := Tryz.isAgg212
 z76 := Tryz.sizeOf212
 v76 := Tryz.zeroValue212
 t109 := Tryz.underlying236
 a109 := Tryz.isAgg236
 z109 := Tryz.sizeOf236
 v109 := Tryz.zeroValue236
 t127 := Tryz.underlying240
 a127 := Tryz.isAgg240
 z127 := Tryz.sizeOf240
 v127 := Tryz.zeroValue240
 t146 := Tryz.underlying279
 a146 := Tryz.isAgg279
 z146 := Tryz.sizeOf279
 v146 := Tryz.zeroValue279
 t148 := Tryz.underlying282
 a148 := Tryz.isAgg282
 z148 := Tryz.sizeOf282
 v148 := Tryz.zeroValue282
 t164 := Tryz.underlying284
 a164 := Tryz.isAgg284
 z164 := Tryz.sizeOf284
 v164 := Tryz.zeroValue284 }
def Tryz.trim159_ren : Go.Shelf.Ren := ⟨fun | 101 => 159 | 208 => 188 | 206 => 192 | n => n, fun | 9 => 9 | 4 => 4 | 3 => 3 | n => n, fun | n => n⟩
theorem Tryz.trim159 : Go.Proofs.Lays.n101 Tryz.prog Tryz.trim159_ren := {
 mixed := by kernel_rfl
 f101 := Tryz.func159.trans (congrArg some (by kernel_rfl))
 f206 := Tryz.func192.trans (congrArg some (by kernel_rfl))
 f208 := Tryz.func188.trans (congrArg some (by kernel_rfl))
 t3 := Tryz.underlying3
 a3 := Tryz.isAgg3
 z3 := Tryz.sizeOf3
 v3 := Tryz.zeroValue3
 t4 := Tryz.underlying4
 a4 := Tryz.isAgg4
 z4 := Tryz.sizeOf4
 v4 := Tryz.zeroValue4
 t9 := Tryz.underlying9
 a9 := Tryz.isAgg9
 z9 := Tryz.sizeOf9
 v9 := Tryz.zeroValue9 }
def Tryz.atoi158_ren : Go.Shelf.Ren := ⟨fun | 172 => 158 | 244 => 186 | 245 => 187 | 247 => 209 | 279 => 210 | 280 => 211 | 281 => 212 | 282 => 213 | 287 => 225 | 316 => 226 | 171 => 124 | 205 => 227 | 321 => 233 | 322 => 234 | 243 => 160 | 246 => 189 | 283 => 214 | 284 => 215 | 285 => 216 | 286 => 217 | 129 => 206 | 317 => 228 | 318 => 229 | 319 => 230 | 320 => 231 | 337 => 235 | 338 => 236 | n => n, fun | 9 => 9 | 3 => 3 | 75 => 211 | 76 => 212 | 4 => 4 | 5 => 5 | 167 => 299 | 37 => 105 | 0 => 0 | 85 => 300 | 2 => 2 | 168 => 302 | 53 => 281 | 175 => 315 | 46 => 233 | 210 => 318 | 127 => 240 | 145 => 329 | 143 => 327 | 21 => 21 | 171 => 305 | 173 => 307 | 212 => 321 | 51 => 278 | 20 => 20 | 213 => 322 | 232 => 330 | 233 => 331 | 80 => 172 | n => n, fun | 15 => 0 | 16 => 1 | 17 => 2 | 18 => 4 | 19 => 5 | n => n⟩
theorem Tryz.atoi158 : Go.Proofs.LaysC.n172 Tryz.prog Tryz.atoi158_ren := {
 mixed := by kernel_rfl
 f129 := Tryz.func206.trans (congrArg some (by kernel_rfl))
 f171 := Tryz.func124.trans (congrArg some (by kernel_rfl))
 f172 := Tryz.func158.trans (congrArg some (by kernel_rfl))
 f205 := Tryz.func227.trans (congrArg some (by kernel_rfl))
 f243 := Tryz.func160.trans (congrArg some (by kernel_rfl))
 f244 := Tryz.func186.trans (congrArg some (by kernel_rfl))
 f245 := Tryz.func187.trans (congrArg some (by kernel_rfl))
 f246 := Tryz.func189.trans (congrArg some (by kernel_rfl))
 f247 := Tryz.func209.trans (congrArg some (by kernel_rfl))
 f279 := Tryz.func210.trans (congrArg some (by kernel_rfl))
 f280 := Tryz.func211.trans (congrArg some (by kernel_rfl))
 f281 := Tryz.func212.trans (congrArg some (by kernel_rfl))
 f282 := Tryz.func213.trans (congrArg some (by kernel_rfl))
 f283 := Tryz.func214.trans (congrArg some (by kernel_rfl))
 f284 := Tryz.func215.trans (congrArg some (by kernel_rfl))
 f285 := Tryz.func216.trans (congrArg some (by kernel_rfl))
 f286 := Tryz.func217.trans (congrArg some (by kernel_rfl))
 f287 := Tryz.func225.trans (congrArg some (by kernel_rfl))
 f316 := Tryz.func226.trans (congrArg some (by kernel_rfl))
 f317 := Tryz.func228.trans (congrArg some (by kernel_rfl))
 f318 := Tryz.func229.trans (congrArg some (by kernel_rfl))
 f319 := Tryz.func230.trans (congrArg some (by kernel_rfl))
 f320 := Tryz.func231.trans (congrArg some (by kernel_rfl))
 f321 := Tryz.func233.trans (congrArg some (by kernel_rfl))
 f322 := Tryz.func234.trans (congrArg some (by kernel_rfl))
 f337 := Tryz.func235.trans (congrArg some (by kernel_rfl))
 f338 := Tryz.func236.trans (congrArg some (by kernel_rfl))
 t0 := Tryz.underlying0
 a0 := Tryz.isAgg0
 z0 := Tryz.sizeOf0
 v0 := Tryz.zeroValue0
 t2 := Tryz.underlying2
 a2 := Tryz.isAgg2
 z2 := Tryz.sizeOf2
 v2 := Tryz.zeroValue2
 t3 := Tryz.underlying3
 a3 := Tryz.isAgg3
 z3 := Tryz.sizeOf3
 v3 := Tryz.zeroValue3
 t4 := Tryz.underlying4
 a4 := Tryz.isAgg4
 z4 := Tryz.sizeOf4
 v4 := Tryz.zeroValue4
 t5 := Tryz.underlying5
 a5 := Tryz.isAgg5
 z5 := Tryz.sizeOf5
 v5 := Tryz.zeroValue5
 t9 := Tryz.underlying9
 a9 := Tryz.isAgg9
 z9 := Tryz.sizeOf9
 v9 := Tryz.zeroValue9
 t20 := Tryz.underlying20
 a20 := Tryz.isAgg20
 z20 := Tryz.sizeOf20
 v20 := Tryz.zeroValue20
 t21 := Tryz.underlying21
 a21 := Tryz.isAgg21
 z21 := Tryz.sizeOf21
 v21 := Tryz.zeroValue21
 t37 := Tryz.underlying105
 a37 := Tryz.isAgg105
 z37 := Tryz.sizeOf105
 v37 := Tryz.zeroValue105
 t46 := Tryz.underlying233
 a46 := Tryz.isAgg233
 z46 := Tryz.sizeOf233
 v46 := Tryz.zeroValue233
 t51 := Tryz.underlying278
 a51 := Tryz.isAgg278
 z51 := Tryz.sizeOf278
 v51 := Tryz.zeroValue278
 t53 := Tryz.underlying281
 a53 := Tryz.isAgg281
 z53 := Tryz.sizeOf281
 v53 := Tryz.zeroValue281
 t75 := Tryz.underlying211
 a75 := Tryz.isAgg211
 z75 := Tryz.sizeOf211
 v75 := Tryz.zeroValue211
 t76 := Tryz.underlying212
 a76 := Tryz.isAgg212
 z76 := Tryz.sizeOf212
 v76 := Tryz.zeroValue212
 t85 := Tryz.underlying300
 a85 := Tryz.isAgg300
 z85 := Tryz.sizeOf300
 v85 := Tryz.zeroValue300
 t127 := Tryz.underlying240
 a127 := Tryz.isAgg240
 z127 := Tryz.sizeOf240
 v127 := Tryz.zeroValue240
 t143 := Tryz.underlying327
 a143 := Tryz.isAgg327
 z143 := Tryz.sizeOf327
 v143 := Tryz.zeroValue327
 t145 := Tryz.underlying329
 a145 := Tryz.isAgg329
 z145 := Tryz.sizeOf329
 v145 := Tryz.zeroValue329
 t167 := Tryz.underlying299
 a167 := Tryz.isAgg299
 z167 := Tryz.sizeOf299
 v167 := Tryz.zeroValue299
 t168 := Tryz.underlying302
 a168 := Tryz.isAgg302
 z168 := Tryz.sizeOf302
 v168 := Tryz.zeroValue302
 t171 := Tryz.underlying305
 a171 := Tryz.isAgg305
 z171 := Tryz.sizeOf305
 v171 := Tryz.zeroValue305
 t173 := Tryz.underlying307
 a173 := Tryz.isAgg307
 z173 := Tryz.sizeOf307
 v173 := Tryz.zeroValue307
 t175 := Tryz.underlying315
 a175 := Tryz.isAgg315
 z175 := Tryz.sizeOf315
 v175 := Tryz.zeroValue315
 t210 := Tryz.underlying318
 a210 := Tryz.isAgg318
 z210 := Tryz.sizeOf318
 v210 := Tryz.zeroValue318
 t212 := Tryz.underlying321
 a212 := Tryz.isAgg321
 z212 := Tryz.sizeOf321
 v212 := Tryz.zeroValue321
 t213 := Tryz.underlying322
 a213 := Tryz.isAgg322
 z213 := Tryz.sizeOf322
 t232 := Tryz.underlying330
 a232 := Tryz.isAgg330
 z232 := Tryz.sizeOf330
 v232 := Tryz.zeroValue330
 t233 := Tryz.underlying331
 a233 := Tryz.isAgg331
 z233 := Tryz.sizeOf331
 v233 := Tryz.zeroValue331
 g15 := by kernel_rfl
 g16 := by kernel_rfl
 g17 := by kernel_rfl
 g18 := by kernel_rfl
 g19 := by kernel_rfl
 t80 := Tryz.underlying172
 a80 := Tryz.isAgg172
 z80 := Tryz.sizeOf172
 v80 := Tryz.zeroValue172
 i0 := by kernel_rfl
 i2 := by kernel_rfl
 i3 := by kernel_rfl
 i4 := by kernel_rfl
 i5 := by kernel_rfl
 i9 := by kernel_rfl
 i20 := by kernel_rfl
 i21 := by kernel_rfl
 i37 := by kernel_rfl
 i46 := by kernel_rfl
 i51 := by kernel_rfl
 i53 := by kernel_rfl
 i75 := by kernel_rfl
 i76 := by kernel_rfl
 i80 := by kernel_rfl
 i85 := by kernel_rfl
 i127 := by kernel_rfl
 i143 := by kernel_rfl
 i145 := by kernel_rfl
 i167 := by kernel_rfl
 i168 := by kernel_rfl
 i171 := by kernel_rfl
 i173 := by kernel_rfl
 i175 := by kernel_rfl
 i210 := by kernel_rfl
 i212 := by kernel_rfl
 i232 := by kernel_rfl
 i233 := by kernel_rfl
 m15 := by kernel_rfl
 m16 := by kernel_rfl
 m17 := by kernel_rfl
 m18 := by kernel_rfl
 m19 := by kernel_rfl
 c0 := by kernel_rfl
 c2 := by kernel_rfl
 c3 := by kernel_rfl
 c4 := by kernel_rfl
 c5 := by kernel_rfl
 c9 := by kernel_rfl
 c20 := by kernel_rfl
 c21 := by kernel_rfl
 c37 := by kernel_rfl
 c46 := by kernel_rfl
 c51 := by kernel_rfl
 c53 := by kernel_rfl
 c75 := by kernel_rfl
 c76 := by kernel_rfl
 c80 := by kernel_rfl
 c85 := by kernel_rfl
 c127 := by kernel_rfl
 c143 := by kernel_rfl
 c145 := by kernel_rfl
 c167 := by kernel_rfl
 c168 := by kernel_rfl
 c171 := by kernel_rfl
 c173 := by kernel_rfl
 c175 := by kernel_rfl
 c210 := by kernel_rfl
 c212 := by kernel_rfl
 c213 := by kernel_rfl
 c232 := by kernel_rfl
 c233 := by kernel_rfl }
end Go.Proofs
namespace Go.Proofs.YthphkcpbglhabaaGreatDoor
open Sx Go Go.RowKit
set_option maxRecDepth 100000
set_option linter.unusedSimpArgs false
set_option linter.unusedVariables false
set_option linter.unnecessarySimpa false
attribute [local simp] stepV condR boundsC appendG appendO copyV srcC guardB isCall opStep Opd.ev put readAt aBin aUn args0 V.celled V.ones V.one V.cells putAt bounds bound1 elemsOf srcOf appendV fillAt fillEl V.pures V.pure unwind evs ARes.ev mkRes V.ren V.renL O.ren eqCells eq1 aEq aMM hasTy hasTyN okTy mmGo Known HLe OLe VsLe.refl VLe.refl VLe.cap Stay VsLe V.frz V.frzL O.frz fr clearV rn KnownR Objs OLeO ObjsE nm back V.calls setAll ren_ite take_map_len List.take_of_length_le
attribute [local simp ↓] upd_app tl_cons tl_nil
abbrev Bs := List UInt8
def encS (s : Bs) : List V := [.str s]
theorem encS_ren (ρ) (s : Bs) : V.renL ρ (encS s) = encS s := rfl
theorem encS_ones (s) : V.ones (encS s) = true := rfl
theorem encS_len (s) : (encS s).length = 1 := rfl
theorem encS_take (s) : (encS s).take 1 = encS s := rfl
attribute [local simp] encS_ren encS_ones encS_len encS_take KnownS
theorem lt_of_get {X : List O} {i : Nat} {o : O} (h : X[i]? = some o) : i < X.length := (List.getElem?_eq_some_iff.1 h).1
theorem set_same {X : List O} {i : Nat} {o : O} (h : X[i]? = some o) : X.set i o = X := by
 obtain ⟨h1, h2⟩ := List.getElem?_eq_some_iff.1 h
 rw [← h2, List.set_getElem_self]
theorem setG {X : List O} {i : Nat} {o : O} (h : X[i]? = some o) (o' : O) : (X.set i o')[i]? = some o' := List.getElem?_set_self (lt_of_get h)
theorem setN {X : List O} {i j : Nat} (h : i ≠ j) (o' : O) : (X.set i o')[j]? = X[j]? := List.getElem?_set_ne h
def oddP (r : Nat) : Bool := (decide (r < 97) || decide (122 < r)) && (decide (r < 48) || decide (57 < r)) && !decide (r = 46) && !decide (r = 45)
theorem odd_at (w : World) : PredAt Tryz.prog 85 #[] encR oddP w := fun W r _ => by
 unfold FnGives
 by_cases h1 : r < 97 <;> by_cases h2 : 122 < r <;> by_cases h3 : r < 48 <;> by_cases h4 : 57 < r <;> by_cases h5 : r = 46 <;> by_cases h6 : r = 45
 all_goals
  have z1 : ((r : Int) < 97) ↔ r < 97 := by omega
  have z2 : ((122 : Int) < r) ↔ 122 < r := by omega
  have z3 : ((r : Int) < 48) ↔ r < 48 := by omega
  have z4 : ((57 : Int) < r) ↔ 57 < r := by omega
  have z5 : ((r : Int) = 46) ↔ r = 46 := by omega
  have z6 : ((r : Int) = 45) ↔ r = 45 := by omega
  go_enter Tryz.func85, Tryz.ntmps85
  go_wp2
  all_goals first | (exfalso; omega) | (go_ret; exact ⟨by simp [oddP, h1, h2, h3, h4, h5, h6, z5, z6], 0, rfl⟩)
def idxN (s : Bs) : Int := Lib.idxFunc oddP true ⟨s.toArray⟩
theorem idx_at (s : Bs) (H : List O) : Tri Tryz.prog 86 [.str s, .fn 85 []] H (fun v H' => v = .int .i64 (idxN s) ∧ H' = H) := by
 refine ⟨⟨Tryz.f86, Tryz.func86, by kernel_rfl, by kernel_rfl⟩, fun c w cargs hh hv => ?_⟩
 have hsz : cargs.size = 2 := by rw [← hv.1]; rfl
 have ha := (hv.2 0 (by simp) (by omega)).str_inv
 obtain ⟨cs, hb, hcs⟩ := (hv.2 1 (by simp) (by omega)).fn_inv
 have hcs0 : cs = #[] := by
  have := hcs.1
  exact Array.size_eq_zero_iff.1 (by simpa using this.symm)
 subst hcs0
 rw [args2 hsz]
 rw [ha, hb]
 have hk := Any.strings_IndexFunc Tryz.l86 85 #[] (enters_of Tryz.func85 (by kernel_rfl) rfl) oddP ⟨s.toArray⟩ w (odd_at w)
 refine Calls.mono hk ?_
 rintro e w' ⟨rfl, hbl⟩
 obtain ⟨g1, g2⟩ := hh.below hbl
 exact ⟨_, _, c, _, ⟨rfl, rfl⟩, rfl, .int .., g1, g2⟩
def mayN (s : Bs) : Bool := !decide (s = []) && !decide (32 < s.length) && decide (idxN s < 0)
theorem may_tri (X : List O) {d m : Nat} {fu : Int} {off : Bool} (hd : X[d]? = some (.row [.mp m, .int .i64 fu, .bool off])) (l : List Bs) (hl : l.length ≤ 1000) :
  Tri Tryz.prog 44 [.ptr d 0, .vs (l.map encS) 1] X (fun v H => v = .bool (l.all mayN) ∧ H = X) := by
 refine Tri.of_run' Tryz.func44 rfl c44_ok (by simp [Tryz.ntmps44]) ?_
 (repeat (first | refine Run.adm rfl ?_ | refine Run.seq ?_ | ((first | apply Run.opS rfl | apply Run.condS); (· (simp -implicitDefEqProofs [hd]; first | exact ⟨rfl, rfl⟩ | exact rfl)))))
 refine Run.sl [(5, .fn 85 []), (17, .vs (l.map encS) 1), (18, .int .i64 l.length), (19, .int .i64 (0 : Nat))] (by simp [VLe.refl]) ?_
 refine Run.loopS (fun (i : Nat) => ([(5, .fn 85 []), (17, .vs (l.map encS) 1), (18, .int .i64 l.length), (19, .int .i64 i)], X)) (fun i => i ≤ l.length ∧ (l.take i).all mayN = true) (fun i => l.length - i) ?_ 0 ⟨Nat.zero_le _, by simp⟩
 rintro i ⟨hi, hall⟩ ih
 by_cases hlt : i < l.length
 ·obtain ⟨s, hs, hsi, -, hmem⟩ := getL hlt
  have hlt' : (i : Int) < l.length := by omega
  have hw := wrap_small (n := (i : Int) + 1) (by omega) (by omega)
  have hbad : mayN s = false → l.all mayN = false := fun h => by
   cases ha : l.all mayN with
   | false => rfl
   | true => rw [List.all_eq_true.1 ha s (List.mem_of_getElem? hs)] at h; cases h
  by_cases c1 : s = []
  ·(repeat (first | refine Run.adm rfl ?_ | refine Run.seq ?_ | ((first | apply Run.opS rfl | apply Run.condS); (· (simp -implicitDefEqProofs [hlt, hlt', hs, hsi, encS, c1]; first | exact ⟨rfl, rfl⟩ | exact rfl)))))
   refine Run.retS Tryz.func44 r44_ok trivial (by simp [r44]; rfl) ?_
   exact ⟨by simp [hbad (by simp [mayN, c1])], rfl⟩
  by_cases c2 : 32 < s.length
  ·have c2' : (32 : Int) < s.length := by omega
   (repeat (first | refine Run.adm rfl ?_ | refine Run.seq ?_ | ((first | apply Run.opS rfl | apply Run.condS); (· (simp -implicitDefEqProofs [hlt, hlt', hs, hsi, encS, c1, c2, c2']; first | exact ⟨rfl, rfl⟩ | exact rfl)))))
   refine Run.retS Tryz.func44 r44_ok trivial (by simp [r44]; rfl) ?_
   exact ⟨by simp [hbad (by simp [mayN, c2])], rfl⟩
  have c2' : ¬ (32 : Int) < s.length := by omega
  (repeat (first | refine Run.adm rfl ?_ | refine Run.seq ?_ | ((first | apply Run.opS rfl | apply Run.condS); (· (simp -implicitDefEqProofs [hlt, hlt', hs, hsi, encS, c1, c2, c2']; first | exact ⟨rfl, rfl⟩ | exact rfl)))))
  refine Run.opC rfl (by simp) rfl (idx_at s _) ?_
  rintro v h' ⟨rfl, rfl⟩
  by_cases c3 : idxN s < 0
  ·have c3' : ¬ 0 ≤ idxN s := by omega
   (repeat (first | refine Run.adm rfl ?_ | refine Run.seq ?_ | ((first | apply Run.opS rfl | apply Run.condS); (· (simp -implicitDefEqProofs [c3']; first | exact ⟨rfl, rfl⟩ | exact rfl)))))
   refine Run.sl _ ?_ (ih (i + 1) ⟨by omega, ?_⟩ (by omega))
   ·simp [hw, VLe.refl]
   ·rw [List.take_add_one, hs]
    simp only [Option.toList_some, List.all_append, hall, Bool.true_and, List.all_cons, List.all_nil, Bool.and_true]
    simp [mayN, c1, c2, c3]
  ·have c3' : 0 ≤ idxN s := by omega
   (repeat (first | refine Run.adm rfl ?_ | refine Run.seq ?_ | ((first | apply Run.opS rfl | apply Run.condS); (· (simp -implicitDefEqProofs [c3']; first | exact ⟨rfl, rfl⟩ | exact rfl)))))
   refine Run.retS Tryz.func44 r44_ok trivial (by simp [r44]; rfl) ?_
   exact ⟨by simp [hbad (by simp [mayN, c3])], rfl⟩
 ·have : i = l.length := by omega
  subst this
  rw [List.take_length] at hall
  (repeat (first | refine Run.adm rfl ?_ | refine Run.seq ?_ | ((first | apply Run.opS rfl | apply Run.condS); (· (simp -implicitDefEqProofs; first | exact ⟨rfl, rfl⟩ | exact rfl)))))
  refine Run.retS Tryz.func44 r44_ok trivial (by simp [r44]; rfl) ?_
  exact ⟨by simp [hall], rfl⟩
def doI (ok : Bool) (fu : Int) (off : Bool) : Int × Int × Bool :=
 if ok = true then (if off = true ∨ fu = 0 then (50, fu, true) else (0, if 0 < fu then fu - 1 else fu, false)) else (1, fu, off)
theorem doing_tri (X : List O) {d m : Nat} {fu : Int} {off : Bool} (hd : X[d]? = some (.row [.mp m, .int .i64 fu, .bool off])) (hfu : -1 ≤ fu ∧ fu ≤ 9223372036854775807) (l : List Bs) (hl : l.length ≤ 1000) :
  Tri Tryz.prog 128 [.ptr d 0, .vs (l.map encS) 1] X (fun v H => v = .int .i64 (doI (l.all mayN) fu off).1 ∧ H = X.set d (.row [.mp m, .int .i64 (doI (l.all mayN) fu off).2.1, .bool (doI (l.all mayN) fu off).2.2])) := by
 refine Tri.of_run' Tryz.func128 rfl c128_ok (by simp [Tryz.ntmps128]) ?_
 have hmy := may_tri X hd l hl
 (repeat (first | refine Run.adm rfl ?_ | refine Run.seq ?_ | ((first | apply Run.opS rfl | apply Run.condS); (· (simp -implicitDefEqProofs; first | exact ⟨rfl, rfl⟩ | exact rfl)))))
 refine Run.opC rfl rfl rfl hmy ?_
 rintro v h' ⟨rfl, rfl⟩
 cases hok : l.all mayN with
 | false =>
  (repeat (first | refine Run.adm rfl ?_ | refine Run.seq ?_ | ((first | apply Run.opS rfl | apply Run.condS); (· (simp -implicitDefEqProofs; first | exact ⟨rfl, rfl⟩ | exact rfl)))))
  refine Run.retS Tryz.func128 r128_ok trivial (by simp [r128]; rfl) ?_
  refine ⟨by simp [doI], ?_⟩
  simp only [doI, Bool.false_eq_true, if_false]
  exact (set_same hd).symm
 | true =>
  cases off with
  | true =>
   (repeat (first | refine Run.adm rfl ?_ | refine Run.seq ?_ | ((first | apply Run.opS rfl | apply Run.condS); (· (simp -implicitDefEqProofs [hd, setG hd]; first | exact ⟨rfl, rfl⟩ | exact rfl)))))
   refine Run.retS Tryz.func128 r128_ok trivial (by simp [r128]; rfl) ?_
   refine ⟨by simp [doI], by simp [doI]⟩
  | false =>
   by_cases hf0 : fu = 0
   ·(repeat (first | refine Run.adm rfl ?_ | refine Run.seq ?_ | ((first | apply Run.opS rfl | apply Run.condS); (· (simp -implicitDefEqProofs [hd, setG hd, hf0]; first | exact ⟨rfl, rfl⟩ | exact rfl)))))
    refine Run.retS Tryz.func128 r128_ok trivial (by simp [r128]; rfl) ?_
    refine ⟨by simp [doI, hf0], by simp [doI, hf0]⟩
   ·by_cases hf1 : 0 < fu
    ·have hw := wrap_small (n := fu - 1) (by omega) (by omega)
     (repeat (first | refine Run.adm rfl ?_ | refine Run.seq ?_ | ((first | apply Run.opS rfl | apply Run.condS); (· (simp -implicitDefEqProofs [hd, setG hd, hf0, hf1]; first | exact ⟨rfl, rfl⟩ | exact rfl)))))
     refine Run.retS Tryz.func128 r128_ok trivial (by simp [r128]; rfl) ?_
     refine ⟨by simp [doI, hf0, hf1], by simp [doI, hf0, hf1, hw]⟩
    ·(repeat (first | refine Run.adm rfl ?_ | refine Run.seq ?_ | ((first | apply Run.opS rfl | apply Run.condS); (· (simp -implicitDefEqProofs [hd, setG hd, hf0, hf1]; first | exact ⟨rfl, rfl⟩ | exact rfl)))))
     refine Run.retS Tryz.func128 r128_ok trivial (by simp [r128]; rfl) ?_
     refine ⟨by simp [doI, hf0, hf1], by simp [doI, hf0, hf1]⟩
open Sx Go
attribute [local simp ↓] upd_app tl_cons tl_nil
def Kept (X X' : List O) (F : List Nat) : Prop := X.length ≤ X'.length ∧ ∀ i, i < X.length → i ∉ F → X'[i]? = X[i]?
theorem Kept.refl (X F) : Kept X X F := ⟨Nat.le_refl _, fun _ _ _ => rfl⟩
theorem Kept.trans {X Y Z F G} (h : Kept X Y F) (k : Kept Y Z G) : Kept X Z (F ++ G) :=
 ⟨Nat.le_trans h.1 k.1, fun i hi hf => by
  simp only [List.mem_append, not_or] at hf
  rw [k.2 i (Nat.lt_of_lt_of_le hi h.1) hf.2, h.2 i hi hf.1]⟩
theorem Kept.mono {X Y F G} (h : Kept X Y F) (hs : ∀ i ∈ F, i ∈ G) : Kept X Y G := ⟨h.1, fun i hi hf => h.2 i hi fun hm => hf (hs i hm)⟩
theorem Kept.app {X Y F} (h : Kept X Y F) (L : List O) : Kept X (Y ++ L) F :=
 ⟨Nat.le_trans h.1 (by simp), fun i hi hf => by rw [List.getElem?_append_left (Nat.lt_of_lt_of_le hi h.1)]; exact h.2 i hi hf⟩
theorem Kept.set {X Y F} (h : Kept X Y F) (j : Nat) (o : O) (hj : j ∈ F ∨ X.length ≤ j) : Kept X (Y.set j o) F :=
 ⟨by simpa using h.1, fun i hi hf => by
  rw [List.getElem?_set_ne]
  ·exact h.2 i hi hf
  ·rintro rfl
   rcases hj with hj | hj
   ·exact hf hj
   ·omega⟩
theorem Kept.get {X Y F} (h : Kept X Y F) {i : Nat} {o : O} (hi : X[i]? = some o) (hf : i ∉ F) : Y[i]? = some o := by rw [h.2 i (lt_of_get hi) hf]; exact hi
theorem run_to {E : Env} {k : List AItem} {t : T} {h : List O} (slots : List (Nat × V)) (P : List O → Prop) (hs : KnownS t slots) (hp : P h) (hr : ∀ Y, P Y → Run E ⟨k, tl slots, Y⟩) : Run E ⟨k, t, h⟩ := Run.sl slots hs (hr h hp)
theorem getA {X : List O} {i : Nat} {o : O} (h : X[i]? = some o) (L : List O) : (X ++ L)[i]? = some o := by rw [List.getElem?_append_left (lt_of_get h)]; exact h
structure FileM where
 name : Bs
 bytes : Bs
 sure : Nat
 deriving DecidableEq
structure FP where
 f : FileM
 p : Nat
 a : Nat
def entV (q : FP) : V × V := (.str q.f.name, .ptr q.p 0)
def FileAt (X : List O) (q : FP) : Prop := X[q.p]? = some (.row [.sl q.a 0 q.f.bytes.length 1 none, .int .i64 q.f.sure]) ∧ X[q.a]? = some (.arr (byteEls q.f.bytes) 1)
def foot (d m : Nat) (l : List FP) : List Nat := d :: m :: l.flatMap fun q => [q.p, q.a]
structure DiskAt (X : List O) (d m : Nat) (l : List FP) (fu : Int) (off : Bool) : Prop where
 row : X[d]? = some (.row [.mp m, .int .i64 fu, .bool off])
 map : X[m]? = some (.map (l.map entV))
 file : ∀ q ∈ l, FileAt X q
 nd : (foot d m l).Nodup
 names : (l.map (·.f.name)).Nodup
 fuse : -1 ≤ fu ∧ fu ≤ 9223372036854775807
 len : l.length ≤ 256
 ok : ∀ q ∈ l, q.f.bytes.length ≤ 4194304 ∧ q.f.sure ≤ q.f.bytes.length
theorem DiskAt.lt {X d m l fu off} (h : DiskAt X d m l fu off) : ∀ i ∈ foot d m l, i < X.length := by
 intro i hi
 simp only [foot, List.mem_cons, List.mem_flatMap, List.not_mem_nil, or_false] at hi
 rcases hi with rfl | rfl | ⟨q, hq, rfl | rfl⟩
 ·exact lt_of_get h.row
 ·exact lt_of_get h.map
 ·exact lt_of_get (h.file q hq).1
 ·exact lt_of_get (h.file q hq).2
theorem foot_p {d m : Nat} {l : List FP} {q : FP} (hq : q ∈ l) : q.p ∈ foot d m l ∧ q.a ∈ foot d m l := by
 simp only [foot, List.mem_cons, List.mem_flatMap]
 exact ⟨.inr (.inr ⟨q, hq, by simp⟩), .inr (.inr ⟨q, hq, by simp⟩)⟩
theorem DiskAt.ne {X d m l fu off} (h : DiskAt X d m l fu off) : d ≠ m ∧ ∀ q ∈ l, q.p ≠ d ∧ q.a ≠ d ∧ q.p ≠ m ∧ q.a ≠ m ∧ q.p ≠ q.a := by
 have hn := h.nd
 simp only [foot, List.nodup_cons, List.mem_cons, not_or] at hn
 obtain ⟨⟨h1, h2⟩, h3, h4⟩ := hn
 refine ⟨h1, fun q hq => ?_⟩
 have e1 : q.p ∈ l.flatMap fun q => [q.p, q.a] := List.mem_flatMap.2 ⟨q, hq, by simp⟩
 have e2 : q.a ∈ l.flatMap fun q => [q.p, q.a] := List.mem_flatMap.2 ⟨q, hq, by simp⟩
 refine ⟨fun e => h2 (e ▸ e1), fun e => h2 (e ▸ e2), fun e => h3 (e ▸ e1), fun e => h3 (e ▸ e2), fun e => ?_⟩
 have : ∀ {l : List FP}, (l.flatMap fun q => [q.p, q.a]).Nodup → ∀ q ∈ l, q.p ≠ q.a := by
  intro l
  induction l with
  | nil => intro _ q hq; simp at hq
  | cons x l ih =>
   intro hn q hq
   simp only [List.flatMap_cons, List.cons_append, List.nil_append, List.nodup_cons, List.mem_cons, not_or] at hn
   rcases List.mem_cons.1 hq with rfl | hq
   ·exact hn.1.1
   ·exact ih hn.2.2 q hq
 exact this h4 q hq e
theorem DiskAt.turn {X Y d m l fu off fu' off'} (h : DiskAt X d m l fu off) (hr : Y[d]? = some (.row [.mp m, .int .i64 fu', .bool off'])) (hk : Kept X Y [d]) (hf : -1 ≤ fu' ∧ fu' ≤ 9223372036854775807) : DiskAt Y d m l fu' off' := by
 obtain ⟨h1, h2⟩ := h.ne
 refine ⟨hr, hk.get h.map (by simp [h1.symm]), fun q hq => ?_, h.nd, h.names, hf, h.len, h.ok⟩
 obtain ⟨n1, n2, -⟩ := h2 q hq
 obtain ⟨g1, g2⟩ := h.file q hq
 exact ⟨hk.get g1 (by simpa using n1), hk.get g2 (by simpa using n2)⟩
theorem mFind_file (name : Bs) : ∀ (l : List FP) (i : Nat), (∃ j q, l[j]? = some q ∧ q.f.name = name ∧ mFind 1 (.str name) (l.map entV) i = some (some (i + j)) ∧ l.find? (fun q => decide (q.f.name = name)) = some q) ∨ ((∀ q ∈ l, q.f.name ≠ name) ∧ mFind 1 (.str name) (l.map entV) i = some none ∧ l.find? (fun q => decide (q.f.name = name)) = none)
 | [], i => .inr ⟨by simp, rfl, rfl⟩
 | x :: l, i => by
  by_cases h : x.f.name = name
  ·exact .inl ⟨0, x, rfl, h, by simp [mFind, entV, kEq, h], by simp [h]⟩
  ·have h' : ¬ name = x.f.name := fun e => h e.symm
   rcases mFind_file name l (i + 1) with ⟨j, q, h1, h2, h3, h4⟩ | ⟨h1, h2, h3⟩
   ·refine .inl ⟨j + 1, q, by simpa using h1, h2, ?_, by simp [h, h4]⟩
    simp only [List.map_cons, mFind, entV, kEq, h', if_true, decide_false]
    rw [h3]; congr 2; omega
   ·refine .inr ⟨fun q hq => ?_, ?_, by simp [h, h3]⟩
    ·rcases List.mem_cons.1 hq with rfl | hq
     ·exact h
     ·exact h1 q hq
    ·simp only [List.map_cons, mFind, entV, kEq, h', if_true, decide_false]
     rw [h2]
def findF (l : List FP) (name : Bs) : Option FP := l.find? (fun q => decide (q.f.name = name))
def findR (l : List FP) (name : Bs) (dr : Int × Int × Bool) : V × Int := if dr.1 = 0 then (match findF l name with | some q => (.ptr q.p 0, 0) | none => (.nilp, 3)) else (.nilp, dr.1)
theorem doI_fuse {ok : Bool} {fu : Int} {off : Bool} (h : -1 ≤ fu ∧ fu ≤ 9223372036854775807) : -1 ≤ (doI ok fu off).2.1 ∧ (doI ok fu off).2.1 ≤ 9223372036854775807 := by
 unfold doI
 repeat' split
 all_goals simp only; omega
theorem find_tri (X : List O) {d m : Nat} {l : List FP} {fu : Int} {off : Bool} (hd : DiskAt X d m l fu off) (name : Bs) :
  Tri Tryz.prog 123 [.ptr d 0, .str name, .nils] X (fun v Y => v = .tup [(findR l name (doI (mayN name) fu off)).1, .int .i64 (findR l name (doI (mayN name) fu off)).2] ∧ DiskAt Y d m l (doI (mayN name) fu off).2.1 (doI (mayN name) fu off).2.2 ∧ Kept X Y [d]) := by
 refine Tri.of_run' Tryz.func123 rfl c123_ok (by simp [Tryz.ntmps123]) ?_
 obtain ⟨D, hD⟩ : ∃ D, D = doI (mayN name) fu off := ⟨_, rfl⟩
 have hf2 := doI_fuse (ok := mayN name) (off := off) hd.fuse
 rw [← hD] at hf2 ⊢
 (repeat (first | refine Run.adm rfl ?_ | refine Run.seq ?_ | ((first | apply Run.opS rfl | apply Run.condS); (· (simp -implicitDefEqProofs; first | exact ⟨rfl, rfl⟩ | exact rfl)))))
 refine Run.frzS (X.length + 1) (es := [[.str name]]) (sz := 1) (by simp) ?_
 refine run_to [(0, .ptr d 0), (1, .str name), (11, .ptr d 0), (15, .vs ([name].map encS) 1)] (fun Y => Kept X Y []) (by simp [encS]) (((Kept.refl X []).app _).set _ _ (.inr (by omega))) ?_
 intro Y hY
 have hdY := hY.get hd.row (by simp)
 have hall : [name].all mayN = mayN name := by simp
 have hdo := doing_tri Y hdY hd.fuse [name] (by simp)
 rw [hall, ← hD] at hdo
 (repeat (first | refine Run.adm rfl ?_ | refine Run.seq ?_ | ((first | apply Run.opS rfl | apply Run.condS); (· (simp -implicitDefEqProofs; first | exact ⟨rfl, rfl⟩ | exact rfl)))))
 refine Run.opC rfl rfl rfl hdo ?_
 rintro v Z ⟨rfl, rfl⟩
 have hk : Kept X (Y.set d (.row [.mp m, .int .i64 D.2.1, .bool D.2.2])) [d] := (hY.mono (by simp)).set _ _ (.inl (by simp))
 have hat := hd.turn (setG hdY _) hk hf2
 generalize Y.set d (.row [.mp m, .int .i64 D.2.1, .bool D.2.2]) = Z at *
 by_cases h0 : D.1 = 0
 rotate_left
 ·(repeat (first | refine Run.adm rfl ?_ | refine Run.seq ?_ | ((first | apply Run.opS rfl | apply Run.condS); (· (simp -implicitDefEqProofs [h0]; first | exact ⟨rfl, rfl⟩ | exact rfl)))))
  refine Run.retS Tryz.func123 r123_ok trivial (by simp [r123]; rfl) ?_
  exact ⟨by simp [findR, h0], hat, hk⟩
 rcases mFind_file name l 0 with ⟨j, q, h1, h2, h3, h4⟩ | ⟨h1, h2, h3⟩
 ·simp only [Nat.zero_add] at h3
  have h1' : (l.map entV)[j]? = some (entV q) := by rw [List.getElem?_map, h1]; rfl
  (repeat (first | refine Run.adm rfl ?_ | refine Run.seq ?_ | ((first | apply Run.opS rfl | apply Run.condS); (· (simp -implicitDefEqProofs [h0, hat.row, hat.map, h3, h1', h1, entV]; first | exact ⟨rfl, rfl⟩ | exact rfl)))))
  refine Run.retS Tryz.func123 r123_ok trivial (by simp [r123]; rfl) ?_
  exact ⟨by simp [findR, h0, findF, h4], hat, hk⟩
 ·(repeat (first | refine Run.adm rfl ?_ | refine Run.seq ?_ | ((first | apply Run.opS rfl | apply Run.condS); (· (simp -implicitDefEqProofs [h0, hat.row, hat.map, h2]; first | exact ⟨rfl, rfl⟩ | exact rfl)))))
  refine Run.retS Tryz.func123 r123_ok trivial (by simp [r123]; rfl) ?_
  exact ⟨by simp [findR, h0, findF, h3], hat, hk⟩
end Go.Proofs.YthphkcpbglhabaaGreatDoor
