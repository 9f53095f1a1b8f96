/-
  What the program's functions are in Ads, printed by a program.
-/
import Derived.Test.YtflmbknimebmnaaAdsDef
set_option linter.unusedVariables false
set_option maxRecDepth 100000
namespace Go.Proofs.Ytflmbknimebmnaa
open Go Ads
namespace Ir
abbrev zM (d s : Nat) : Ins := ⟨some d, none, .p .mov, [.t s]⟩
abbrev zF (d s o : Nat) : Ins := ⟨some d, none, .p (.faddr o), [.t s]⟩
abbrev zN (d s : Nat) : Ins := ⟨some d, none, .p .nilchk, [.t s]⟩
abbrev zL (d s : Nat) : Ins := ⟨some d, none, .r .load1, [.t s]⟩
abbrev zMg (d s g : Nat) (b : Bool) : Ins := ⟨some d, some (g, b), .p .mov, [.t s]⟩
abbrev zFg (d s o g : Nat) (b : Bool) : Ins := ⟨some d, some (g, b), .p (.faddr o), [.t s]⟩
abbrev zNg (d s g : Nat) (b : Bool) : Ins := ⟨some d, some (g, b), .p .nilchk, [.t s]⟩
abbrev zLg (d s g : Nat) (b : Bool) : Ins := ⟨some d, some (g, b), .r .load1, [.t s]⟩
abbrev zP (d : Nat) (o : POp) (l : List Rand) : Ins := ⟨some d, none, .p o, l⟩
abbrev zPg (d : Nat) (o : POp) (l : List Rand) (g : Nat) (b : Bool) : Ins := ⟨some d, some (g, b), .p o, l⟩
abbrev zS (n : Nat) (l : List Rand) : Ins := ⟨none, none, .e (.store n), l⟩
abbrev zz : AV := .int .i64 0
abbrev zI (n : Int) : Rand := .c (.int .i64 n)
abbrev zC (d f : Nat) (l : List Rand) : Ins := ⟨some d, none, .call, .c (.func (.func f) [] []) :: l⟩
abbrev zCg (d f : Nat) (l : List Rand) (g : Nat) (b : Bool) : Ins := ⟨some d, some (g, b), .call, .c (.func (.func f) [] []) :: l⟩
abbrev zC0 (d f : Nat) : Ins := ⟨some d, none, .call, [.c (.func (.func f) [] [])]⟩
abbrev zC1 (d f v : Nat) : Ins := ⟨some d, none, .call, [.c (.func (.func f) [] []), .t v]⟩
abbrev zC2 (d f v w : Nat) : Ins := ⟨some d, none, .call, [.c (.func (.func f) [] []), .t v, .t w]⟩
abbrev zC3 (d f v w x : Nat) : Ins := ⟨some d, none, .call, [.c (.func (.func f) [] []), .t v, .t w, .t x]⟩
abbrev zC4 (d f v w x y : Nat) : Ins := ⟨some d, none, .call, [.c (.func (.func f) [] []), .t v, .t w, .t x, .t y]⟩
abbrev zC5 (d f v w x y z : Nat) : Ins := ⟨some d, none, .call, [.c (.func (.func f) [] []), .t v, .t w, .t x, .t y, .t z]⟩
abbrev zQ (d : Nat) (o : POp) (a : Nat) : Ins := ⟨some d, none, .p o, [.t a]⟩
abbrev zR (d : Nat) (o : POp) (a b : Nat) : Ins := ⟨some d, none, .p o, [.t a, .t b]⟩
abbrev zO (d n s : Nat) : Ins := ⟨some d, none, .r (.loadN n), [.t s]⟩
abbrev zV (d : Nat) (n : Int) : Ins := ⟨some d, none, .p .mov, [.c (.int .i64 n)]⟩
abbrev zK (d : Nat) (v : AV) : Ins := ⟨some d, none, .p .mov, [.c v]⟩
abbrev zB (d s : Nat) : Ins := ⟨some d, none, .a .box, [.t s]⟩
abbrev zA (d n b x y : Nat) : Ins := ⟨some d, none, .e (.append n b), [.t x, .t y]⟩
def C3 : AFunc := ⟨101, [.tmp 4],
 (.seq (.ops [zK 4 (.bool false)])
 (.seq (.ops [zM 10 0,
 zM 11 1,
 zC2 12 9 10 11,
 zM 9 12,
 zQ 13 (.ext 0) 9,
 zQ 14 (.ext 1) 9,
 zM 5 13,
 zM 6 14])
 (.seq (.ops [zM 16 0,
 zM 17 1,
 zC2 18 10 16 17,
 zM 15 18,
 zQ 19 (.ext 0) 15,
 zQ 20 (.ext 1) 15,
 zM 7 19,
 zM 8 20])
 (.seq (.seq (.ops [zM 21 5,
 zM 22 6,
 zM 23 7,
 zM 24 8,
 zC4 25 11 21 22 23 24,
 zQ 26 .not 25])
 (.cond (.t 26)
 (.seq (.ops [zK 4 (.bool false)])
 .ret)
 .skip))
 (.seq (.ops [zM 28 0,
 zM 29 1,
 zC2 30 12 28 29,
 zM 27 30,
 zQ 31 (.ext 0) 27,
 zQ 32 (.ext 1) 27,
 zM 5 31,
 zM 6 32])
 (.seq (.ops [zM 34 0,
 zM 35 1,
 zC2 36 13 34 35,
 zM 33 36,
 zQ 37 (.ext 0) 33,
 zQ 38 (.ext 1) 33,
 zM 7 37,
 zM 8 38])
 (.seq (.seq (.ops [zM 39 5,
 zM 40 6,
 zM 41 7,
 zM 42 8,
 zC4 43 11 39 40 41 42,
 zQ 44 .not 43])
 (.cond (.t 44)
 (.seq (.ops [zK 4 (.bool false)])
 .ret)
 .skip))
 (.seq (.ops [zM 46 0,
 zM 47 1,
 zC2 48 14 46 47,
 zM 45 48,
 zQ 49 (.ext 0) 45,
 zQ 50 (.ext 1) 45,
 zM 5 49,
 zM 6 50])
 (.seq (.ops [zM 52 0,
 zM 53 1,
 zC2 54 15 52 53,
 zM 51 54,
 zQ 55 (.ext 0) 51,
 zQ 56 (.ext 1) 51,
 zM 7 55,
 zM 8 56])
 (.seq (.seq (.ops [zM 57 5,
 zM 58 6,
 zM 59 7,
 zM 60 8,
 zC4 61 11 57 58 59 60,
 zQ 62 .not 61])
 (.cond (.t 62)
 (.seq (.ops [zK 4 (.bool false)])
 .ret)
 .skip))
 (.seq (.ops [zM 64 0,
 zM 65 1,
 zC2 66 16 64 65,
 zM 63 66,
 zQ 67 (.ext 0) 63,
 zQ 68 (.ext 1) 63,
 zM 5 67,
 zM 6 68])
 (.seq (.ops [zM 70 0,
 zM 71 1,
 zC2 72 17 70 71,
 zM 69 72,
 zQ 73 (.ext 0) 69,
 zQ 74 (.ext 1) 69,
 zM 7 73,
 zM 8 74])
 (.seq (.seq (.ops [zM 75 5,
 zM 76 6,
 zM 77 7,
 zM 78 8,
 zC4 79 11 75 76 77 78,
 zQ 80 .not 79])
 (.cond (.t 80)
 (.seq (.ops [zK 4 (.bool false)])
 .ret)
 .skip))
 (.seq (.ops [zM 82 0,
 zM 83 1,
 zC2 84 18 82 83,
 zM 81 84,
 zQ 85 (.ext 0) 81,
 zQ 86 (.ext 1) 81,
 zM 5 85,
 zM 6 86])
 (.seq (.ops [zM 88 0,
 zM 89 1,
 zC2 90 19 88 89,
 zM 87 90,
 zQ 91 (.ext 0) 87,
 zQ 92 (.ext 1) 87,
 zM 7 91,
 zM 8 92])
 (.seq (.ops [zM 93 5,
 zM 94 6,
 zM 95 7,
 zM 96 8,
 zC4 97 11 93 94 95 96,
 zM 98 97,
 ⟨some 99, some (98, true), .call, [.c (.func (.func 20) [] [])]⟩,
 zP 100 .pick [.t 98, .t 99, .c (.bool false)],
 zM 4 100])
 .ret))))))))))))))))⟩
abbrev f_escapementlaw01_TicksTwo : Nat := 3
abbrev C_escapementlaw01_TicksTwo : AFunc := C3
def C4 : AFunc := ⟨58, [.tmp 4],
 (.seq (.ops [zK 4 (.bool false)])
 (.seq (.ops [zM 14 1,
 zC1 15 21 14,
 zM 5 15])
 (.seq (.ops [zM 17 0,
 zM 18 5,
 zC2 19 22 17 18,
 zM 16 19,
 zQ 20 (.ext 0) 16,
 zQ 21 (.ext 1) 16,
 zM 6 20,
 zM 7 21])
 (.seq (.ops [zM 23 0,
 zM 24 1,
 zC2 25 23 23 24,
 zM 22 25,
 zQ 26 (.ext 0) 22,
 zQ 27 (.ext 1) 22,
 zM 8 26,
 zM 9 27])
 (.seq (.ops [zM 29 5,
 zC1 30 24 29,
 zM 28 30,
 zQ 31 (.ext 0) 28,
 zQ 32 (.ext 1) 28,
 zM 10 31,
 zM 11 32])
 (.seq (.ops [zM 34 1,
 zC1 35 25 34,
 zM 33 35,
 zQ 36 (.ext 0) 33,
 zQ 37 (.ext 1) 33,
 zM 12 36,
 zM 13 37])
 (.seq (.ops [zM 38 6,
 zM 39 7,
 zM 40 8,
 zM 41 9,
 zC4 42 11 38 39 40 41,
 zM 43 42,
 zMg 44 10 43 true,
 zMg 45 11 43 true,
 zMg 46 12 43 true,
 zMg 47 13 43 true,
 zCg 48 11 [.t 44, .t 45, .t 46, .t 47] 43 true,
 zP 49 .pick [.t 43, .t 48, .c (.bool false)],
 zM 50 49,
 zMg 51 5 50 true,
 zMg 52 1 50 true,
 zCg 53 26 [.t 51, .t 52] 50 true,
 zP 54 .pick [.t 50, .t 53, .c (.bool false)],
 zM 55 54,
 ⟨some 56, some (55, true), .call, [.c (.func (.func 20) [] [])]⟩,
 zP 57 .pick [.t 55, .t 56, .c (.bool false)],
 zM 4 57])
 .ret)))))))⟩
abbrev f_escapementlaw01_TicksMany : Nat := 4
abbrev C_escapementlaw01_TicksMany : AFunc := C4
def C5 : AFunc := ⟨114, [.tmp 4],
 (.seq (.ops [zK 4 (.bool false)])
 (.seq (.seq (.ops [zC0 18 20,
 zQ 19 .not 18])
 (.cond (.t 19)
 (.seq (.ops [zK 4 (.bool false)])
 .ret)
 .skip))
 (.seq (.ops [zM 20 0,
 zC 21 27 [.t 20, zI 1099511627777],
 zM 22 1,
 zC 23 27 [.t 22, zI 1099511627777],
 zM 0 21,
 zM 1 23])
 (.seq (.ops [zM 25 0,
 zM 26 1,
 zC2 27 9 25 26,
 zM 24 27,
 zQ 28 (.ext 0) 24,
 zQ 29 (.ext 1) 24,
 zM 5 28,
 zM 6 29])
 (.seq (.seq (.ops [zM 30 6,
 zP 31 (.bin .eql) [.t 30, zI 0]])
 (.cond (.t 31)
 (.seq (.ops [zM 33 5,
 zM 34 1,
 zC2 35 12 33 34,
 zM 32 35,
 zQ 36 (.ext 0) 32,
 zQ 37 (.ext 1) 32,
 zM 7 36,
 zM 8 37])
 (.seq (.ops [zM 38 8,
 zP 39 (.bin .neq) [.t 38, zI 0],
 zM 40 39,
 zMg 41 7 40 false,
 zMg 42 0 40 false,
 zPg 43 (.bin .neq) [.t 41, .t 42] 40 false,
 zP 44 .pick [.t 40, .c (.bool true), .t 43]])
 (.cond (.t 44)
 (.seq (.ops [zK 4 (.bool false)])
 .ret)
 .skip)))
 (.seq (.ops [zM 45 6,
 zP 46 (.bin .neq) [.t 45, zI 10],
 zM 47 46,
 zMg 48 0 47 false,
 zMg 49 1 47 false,
 zPg 50 (.bin .sub) [zI 1099511627776, .t 49] 47 false,
 zPg 51 (.bin .leq) [.t 48, .t 50] 47 false,
 zP 52 .pick [.t 47, .c (.bool true), .t 51]])
 (.cond (.t 52)
 (.seq (.ops [zK 4 (.bool false)])
 .ret)
 .skip))))
 (.seq (.seq (.ops [zM 53 1,
 zP 54 (.bin .eql) [.t 53, zI 0]])
 (.cond (.t 54)
 (.seq (.ops [zK 4 (.bool true)])
 .ret)
 .skip))
 (.seq (.ops [zM 56 0,
 zM 57 1,
 zC2 58 16 56 57,
 zM 55 58,
 zQ 59 (.ext 0) 55,
 zQ 60 (.ext 1) 55,
 zM 9 59,
 zM 10 60])
 (.seq (.ops [zM 62 9,
 zM 63 1,
 zC2 64 14 62 63,
 zM 61 64,
 zQ 65 (.ext 0) 61,
 zQ 66 (.ext 1) 61,
 zM 11 65,
 zM 12 66])
 (.seq (.seq (.ops [zM 67 10,
 zP 68 (.bin .neq) [.t 67, zI 0],
 zM 69 68,
 zMg 70 12 69 false,
 zPg 71 (.bin .neq) [.t 70, zI 0] 69 false,
 zP 72 .pick [.t 69, .c (.bool true), .t 71],
 zM 73 72,
 zMg 74 11 73 false,
 zMg 75 0 73 false,
 zPg 76 (.bin .gtr) [.t 74, .t 75] 73 false,
 zP 77 .pick [.t 73, .c (.bool true), .t 76],
 zM 78 77,
 zMg 79 0 78 false,
 zMg 80 11 78 false,
 zPg 81 (.bin .sub) [.t 79, .t 80] 78 false,
 zMg 82 1 78 false,
 zPg 83 (.bin .geq) [.t 81, .t 82] 78 false,
 zP 84 .pick [.t 78, .c (.bool true), .t 83]])
 (.cond (.t 84)
 (.seq (.ops [zK 4 (.bool false)])
 .ret)
 .skip))
 (.seq (.ops [zM 85 0,
 zC 86 27 [.t 85, zI 1048576],
 zM 13 86])
 (.seq (.ops [zM 88 13,
 zM 89 1,
 zC 90 27 [.t 89, zI 1048576],
 zP 91 (.bin .add) [.t 90, zI 1],
 zC2 92 14 88 91,
 zM 87 92,
 zQ 93 (.ext 0) 87,
 zQ 94 (.ext 1) 87,
 zM 14 93,
 zM 15 94])
 (.seq (.ops [zM 96 14,
 zM 97 1,
 zC 98 27 [.t 97, zI 1048576],
 zP 99 (.bin .add) [.t 98, zI 1],
 zC2 100 16 96 99,
 zM 95 100,
 zQ 101 (.ext 0) 95,
 zQ 102 (.ext 1) 95,
 zM 16 101,
 zM 17 102])
 (.seq (.ops [zM 103 15,
 zP 104 (.bin .eql) [.t 103, zI 0],
 zM 105 104,
 zMg 106 17 105 true,
 zPg 107 (.bin .eql) [.t 106, zI 0] 105 true,
 zP 108 .pick [.t 105, .t 107, .c (.bool false)],
 zM 109 108,
 zMg 110 16 109 true,
 zMg 111 13 109 true,
 zPg 112 (.bin .eql) [.t 110, .t 111] 109 true,
 zP 113 .pick [.t 109, .t 112, .c (.bool false)],
 zM 4 113])
 .ret)))))))))))))⟩
abbrev f_escapementlaw01_TicksBack : Nat := 5
abbrev C_escapementlaw01_TicksBack : AFunc := C5
def C6 : AFunc := ⟨112, [.tmp 6],
 (.seq (.ops [zK 6 (.bool false)])
 (.seq (.ops [zM 13 0,
 zC 14 27 [.t 13, zI 1048576],
 zP 15 (.bin .add) [zI 1, .t 14],
 zM 16 1,
 zC 17 27 [.t 16, zI 1048576],
 zP 18 (.bin .add) [zI 1, .t 17],
 zM 19 2,
 zC 20 27 [.t 19, zI 1000],
 zP 21 (.bin .add) [zI 1, .t 20],
 zM 0 15,
 zM 1 18,
 zM 2 21])
 (.seq (.ops [zM 23 0,
 zM 24 1,
 zC2 25 18 23 24,
 zM 22 25,
 zQ 26 (.ext 0) 22,
 zQ 27 (.ext 1) 22,
 zM 7 26,
 zM 8 27])
 (.seq (.ops [zM 29 0,
 zM 30 1,
 ⟨some 31, none, .a (.bslice [zz] 2 1 [0, 1]), [.t 29, .t 30]⟩,
 zC 32 22 [zI 1099511627776, .t 31],
 zM 28 32,
 zQ 33 (.ext 0) 28,
 zQ 34 (.ext 1) 28,
 zM 9 33,
 zM 10 34])
 (.seq (.seq (.ops [zM 35 8,
 zP 36 (.bin .neq) [.t 35, zI 0],
 zM 37 36,
 zMg 38 10 37 false,
 zPg 39 (.bin .neq) [.t 38, zI 0] 37 false,
 zP 40 .pick [.t 37, .c (.bool true), .t 39],
 zM 41 40,
 zMg 42 7 41 false,
 zPg 43 (.bin .lss) [.t 42, zI 1] 41 false,
 zP 44 .pick [.t 41, .c (.bool true), .t 43],
 zM 45 44,
 zMg 46 0 45 false,
 zMg 47 7 45 false,
 zPg 48 (.bin .rem) [.t 46, .t 47] 45 false,
 zPg 49 (.bin .neq) [.t 48, zI 0] 45 false,
 zP 50 .pick [.t 45, .c (.bool true), .t 49],
 zM 51 50,
 zMg 52 1 51 false,
 zMg 53 7 51 false,
 zPg 54 (.bin .rem) [.t 52, .t 53] 51 false,
 zPg 55 (.bin .neq) [.t 54, zI 0] 51 false,
 zP 56 .pick [.t 51, .c (.bool true), .t 55],
 zM 57 56,
 zMg 58 0 57 false,
 zMg 59 2 57 false,
 zPg 60 (.bin .rem) [.t 58, .t 59] 57 false,
 zPg 61 (.bin .eql) [.t 60, zI 0] 57 false,
 zMg 62 61 57 false,
 zMg 63 1 62 true,
 zMg 64 2 62 true,
 zPg 65 (.bin .rem) [.t 63, .t 64] 62 true,
 zPg 66 (.bin .eql) [.t 65, zI 0] 62 true,
 zPg 67 .pick [.t 62, .t 66, .c (.bool false)] 57 false,
 zMg 68 67 57 false,
 zMg 69 7 68 true,
 zMg 70 2 68 true,
 zPg 71 (.bin .rem) [.t 69, .t 70] 68 true,
 zPg 72 (.bin .neq) [.t 71, zI 0] 68 true,
 zPg 73 .pick [.t 68, .t 72, .c (.bool false)] 57 false,
 zP 74 .pick [.t 57, .c (.bool true), .t 73]])
 (.cond (.t 74)
 (.seq (.ops [zK 6 (.bool false)])
 .ret)
 .skip))
 (.seq (.ops [zM 76 1,
 zM 77 0,
 zC2 78 18 76 77,
 zM 75 78,
 zQ 79 (.ext 0) 75,
 zQ 80 (.ext 1) 75,
 zM 11 79,
 zM 12 80])
 (.seq (.ops [zM 81 12,
 zP 82 (.bin .eql) [.t 81, zI 0],
 zM 83 82,
 zMg 84 11 83 true,
 zMg 85 7 83 true,
 zPg 86 (.bin .eql) [.t 84, .t 85] 83 true,
 zP 87 .pick [.t 83, .t 86, .c (.bool false)],
 zM 88 87,
 zMg 89 9 88 true,
 zMg 90 0 88 true,
 zPg 91 (.bin .rem) [.t 89, .t 90] 88 true,
 zPg 92 (.bin .eql) [.t 91, zI 0] 88 true,
 zP 93 .pick [.t 88, .t 92, .c (.bool false)],
 zM 94 93,
 zMg 95 9 94 true,
 zMg 96 1 94 true,
 zPg 97 (.bin .rem) [.t 95, .t 96] 94 true,
 zPg 98 (.bin .eql) [.t 97, zI 0] 94 true,
 zP 99 .pick [.t 94, .t 98, .c (.bool false)],
 zM 100 99,
 zMg 101 7 100 true,
 zMg 102 9 100 true,
 zPg 103 (.bin .mul) [.t 101, .t 102] 100 true,
 zMg 104 0 100 true,
 zMg 105 1 100 true,
 zPg 106 (.bin .mul) [.t 104, .t 105] 100 true,
 zPg 107 (.bin .eql) [.t 103, .t 106] 100 true,
 zP 108 .pick [.t 100, .t 107, .c (.bool false)],
 zM 109 108,
 ⟨some 110, some (109, true), .call, [.c (.func (.func 20) [] [])]⟩,
 zP 111 .pick [.t 109, .t 110, .c (.bool false)],
 zM 6 111])
 .ret)))))))⟩
abbrev f_escapementlaw01_TicksDivide : Nat := 6
abbrev C_escapementlaw01_TicksDivide : AFunc := C6
def L_escapementlaw01_TicksAll_0 : AC := (.seq (.seq (.ops [zM 15 5,
 zM 16 0,
 zQ 17 .lenS 16,
 zR 18 (.bin .lss) 15 17,
 zM 19 18,
 zMg 20 5 19 true,
 zPg 21 (.bin .lss) [.t 20, zI 10] 19 true,
 zP 22 .pick [.t 19, .t 21, .c (.bool false)]])
 (.cond (.t 22)
 .skip
 (.exit 0)))
 (.seq (.block 1 (.seq (.ops [zM 25 3,
 zM 26 0,
 zM 27 5,
 zR 28 (.iaddrS 1) 26 27,
 zL 29 28,
 zC 30 27 [.t 29, zI 12],
 zP 31 (.bin .add) [zI 1, .t 30],
 ⟨some 32, none, .a (.bslice [zz] 1 1 [0]), [.t 31]⟩,
 zA 33 1 8 25 32,
 zM 3 33])
 (.ops [zM 34 4,
 zM 35 3,
 zM 36 5,
 zR 37 (.iaddrS 1) 35 36,
 zL 38 37,
 zR 39 (.bin .add) 34 38,
 zM 4 39])))
 (.ops [zM 23 5,
 zP 24 (.bin .add) [.t 23, zI 1],
 zM 5 24])))
def L_escapementlaw01_TicksAll_2 : AC := (.seq (.seq (.ops [zM 71 12,
 zM 72 3,
 zQ 73 .lenS 72,
 zR 74 (.bin .lss) 71 73])
 (.cond (.t 74)
 .skip
 (.exit 4)))
 (.seq (.block 5 (.ops [zM 77 11,
 zM 78 77,
 zMg 79 10 78 true,
 zMg 80 3 78 true,
 zMg 81 12 78 true,
 zPg 82 (.iaddrS 1) [.t 80, .t 81] 78 true,
 zLg 83 82 78 true,
 zPg 84 (.bin .rem) [.t 79, .t 83] 78 true,
 zPg 85 (.bin .eql) [.t 84, zI 0] 78 true,
 zP 86 .pick [.t 78, .t 85, .c (.bool false)],
 zM 11 86]))
 (.ops [zM 75 12,
 zP 76 (.bin .add) [.t 75, zI 1],
 zM 12 76])))
def L_escapementlaw01_TicksAll_1 : AC := (.seq (.seq (.ops [zM 65 10,
 zM 66 6,
 zP 67 .mn [.t 66, zI 4096],
 zR 68 (.bin .leq) 65 67])
 (.cond (.t 68)
 .skip
 (.exit 2)))
 (.seq (.block 3 (.seq (.ops [zK 11 (.bool true)])
 (.seq (.seq (.ops [zV 12 0])
 (.block 4 (.loop L_escapementlaw01_TicksAll_2)))
 (.seq (.ops [zM 87 11,
 zM 88 10,
 zM 89 6,
 zR 90 (.bin .eql) 88 89,
 zR 91 (.neq .bool) 87 90])
 (.cond (.t 91)
 (.seq (.ops [zK 2 (.bool false)])
 .ret)
 .skip)))))
 (.ops [zM 69 10,
 zP 70 (.bin .add) [.t 69, zI 1],
 zM 10 70])))
def C7 : AFunc := ⟨108, [.tmp 2],
 (.seq (.ops [zK 2 (.bool false)])
 (.seq (.ops [zK 3 .nils])
 (.seq (.ops [zV 4 0])
 (.seq (.seq (.ops [zV 5 0])
 (.block 0 (.loop L_escapementlaw01_TicksAll_0)))
 (.seq (.ops [zM 41 3,
 zC 42 22 [zI 1099511627776, .t 41],
 zM 40 42,
 zQ 43 (.ext 0) 40,
 zQ 44 (.ext 1) 40,
 zM 6 43,
 zM 7 44])
 (.seq (.ops [zM 46 3,
 zC1 47 24 46,
 zM 45 47,
 zQ 48 (.ext 0) 45,
 zQ 49 (.ext 1) 45,
 zM 8 48,
 zM 9 49])
 (.seq (.seq (.ops [zM 50 7,
 zP 51 (.bin .neq) [.t 50, zI 0],
 zM 52 51,
 zMg 53 9 52 false,
 zPg 54 (.bin .neq) [.t 53, zI 0] 52 false,
 zP 55 .pick [.t 52, .c (.bool true), .t 54],
 zM 56 55,
 zMg 57 8 56 false,
 zMg 58 4 56 false,
 zPg 59 (.bin .neq) [.t 57, .t 58] 56 false,
 zP 60 .pick [.t 56, .c (.bool true), .t 59],
 zM 61 60,
 zMg 62 6 61 false,
 zPg 63 (.bin .lss) [.t 62, zI 1] 61 false,
 zP 64 .pick [.t 61, .c (.bool true), .t 63]])
 (.cond (.t 64)
 (.seq (.ops [zK 2 (.bool false)])
 .ret)
 .skip))
 (.seq (.seq (.ops [zV 10 1])
 (.block 2 (.loop L_escapementlaw01_TicksAll_1)))
 (.seq (.ops [zM 93 6,
 zP 94 (.bin .sub) [.t 93, zI 1],
 zM 95 3,
 zC2 96 22 94 95,
 zM 92 96,
 zQ 97 (.ext 0) 92,
 zQ 98 (.ext 1) 92,
 zM 13 97,
 zM 14 98])
 (.seq (.ops [zM 99 13,
 zP 100 (.bin .eql) [.t 99, zI 0],
 zM 101 100,
 zMg 102 14 101 true,
 zPg 103 (.bin .eql) [.t 102, zI 10] 101 true,
 zP 104 .pick [.t 101, .t 103, .c (.bool false)],
 zM 105 104,
 ⟨some 106, some (105, true), .call, [.c (.func (.func 20) [] [])]⟩,
 zP 107 .pick [.t 105, .t 106, .c (.bool false)],
 zM 2 107])
 .ret))))))))))⟩
abbrev f_escapementlaw01_TicksAll : Nat := 7
abbrev C_escapementlaw01_TicksAll : AFunc := C7
def L_escapementlaw01_TicksKnown_1 : AC := (.seq (.seq (.ops [zM 11 3,
 zM 12 1,
 zQ 13 .lenS 12,
 zR 14 (.bin .lss) 11 13])
 (.cond (.t 14)
 .skip
 (.exit 2)))
 (.seq (.block 3 (.seq (.dops [zM 17 1,
 zM 18 2,
 zR 19 (.iaddrS 1) 17 18,
 zL 20 19,
 zM 21 1,
 zM 22 3,
 zR 23 (.iaddrS 1) 21 22,
 zL 24 23,
 zC2 25 3 20 24,
 zQ 26 .not 25,
 zM 27 26,
 zMg 28 1 27 false,
 zMg 29 2 27 false,
 zPg 30 (.iaddrS 1) [.t 28, .t 29] 27 false,
 zLg 31 30 27 false,
 zMg 32 1 27 false,
 zMg 33 3 27 false,
 zPg 34 (.iaddrS 1) [.t 32, .t 33] 27 false,
 zLg 35 34 27 false,
 ⟨some 36, some (27, false), .a (.bslice [zz] 2 1 [0, 1]), [.t 35, zI 3]⟩,
 zCg 37 4 [.t 31, .t 36] 27 false,
 zPg 38 .not [.t 37] 27 false,
 zP 39 .pick [.t 27, .c (.bool true), .t 38],
 zM 40 39,
 zMg 41 1 40 false,
 zMg 42 2 40 false,
 zPg 43 (.iaddrS 1) [.t 41, .t 42] 40 false,
 zLg 44 43 40 false,
 zMg 45 1 40 false,
 zMg 46 3 40 false,
 zPg 47 (.iaddrS 1) [.t 45, .t 46] 40 false,
 zLg 48 47 40 false,
 ⟨some 49, some (40, false), .a (.bslice [zz] 2 1 [0, 1]), [.t 44, .t 48]⟩,
 zCg 50 4 [zI 1099511627776, .t 49] 40 false,
 zPg 51 .not [.t 50] 40 false,
 zP 52 .pick [.t 40, .c (.bool true), .t 51]] [[], [], [], [], [], [], [], [], [], [], [], [], [], [], [], [], [], [], [], [], [], [], [], [], [], [], [], [], [], [], [], [], [], [], [], []])
 (.cond (.t 52)
 (.seq (.ops [zK 0 (.bool false)])
 .ret)
 .skip)))
 (.ops [zM 15 3,
 zP 16 (.bin .add) [.t 15, zI 1],
 zM 3 16])))
def L_escapementlaw01_TicksKnown_0 : AC := (.seq (.seq (.ops [zM 5 2,
 zM 6 1,
 zQ 7 .lenS 6,
 zR 8 (.bin .lss) 5 7])
 (.cond (.t 8)
 .skip
 (.exit 0)))
 (.seq (.block 1 (.seq (.ops [zV 3 0])
 (.block 2 (.loop L_escapementlaw01_TicksKnown_1))))
 (.ops [zM 9 2,
 zP 10 (.bin .add) [.t 9, zI 1],
 zM 2 10])))
def C8 : AFunc := ⟨69, [.tmp 0],
 (.seq (.ops [zK 0 (.bool false)])
 (.seq (.ops [⟨some 4, none, .a (.bslice [zz] 13 1 [0, 1, 2, 3, 4, 5, 6, 7, 8, 9, 10, 11, 12]), [zI (-9223372036854775808), zI (-1), zI 0, zI 1, zI 2, zI 63, zI 1048576, zI 1048577, zI 549755813888, zI 1099511627775, zI 1099511627776, zI 1099511627777, zI 9223372036854775807]⟩,
 zM 1 4])
 (.seq (.seq (.ops [zV 2 0])
 (.block 0 (.loop L_escapementlaw01_TicksKnown_0)))
 (.seq (.ops [zK 53 (.bool true),
 ⟨some 54, some (53, true), .call, [.c (.func (.func 20) [] [])]⟩,
 zP 55 .pick [.t 53, .t 54, .c (.bool false)],
 zM 56 55,
 zCg 57 4 [zI 0, .c .nils] 56 true,
 zP 58 .pick [.t 56, .t 57, .c (.bool false)],
 zM 59 58,
 zCg 60 4 [zI 5, .c .nils] 59 true,
 zP 61 .pick [.t 59, .t 60, .c (.bool false)],
 zM 62 61,
 zCg 63 4 [zI (-1), .c .nils] 62 true,
 zP 64 .pick [.t 62, .t 63, .c (.bool false)],
 zM 65 64,
 ⟨some 66, some (65, true), .a (.bslice [zz] 5 1 [0, 1, 2, 3, 4]), [zI 6, zI 8, zI 9, zI 11, zI 10]⟩,
 zCg 67 7 [.t 66] 65 true,
 zP 68 .pick [.t 65, .t 67, .c (.bool false)],
 zM 0 68])
 .ret))))⟩
abbrev f_escapementlaw01_TicksKnown : Nat := 8
abbrev C_escapementlaw01_TicksKnown : AFunc := C8
def C9 : AFunc := ⟨17, [.tmp 4, .tmp 5],
 (.seq (.ops [zV 4 0,
 zV 5 0])
 (.seq (.seq (.ops [zM 6 0,
 zM 7 1,
 ⟨some 8, none, .a (.bslice [zz] 2 1 [0, 1]), [.t 6, .t 7]⟩,
 zC1 9 28 8,
 zQ 10 .not 9])
 (.cond (.t 10)
 (.seq (.ops [zV 4 0,
 zV 5 2])
 .ret)
 .skip))
 (.seq (.ops [zM 11 0,
 zM 12 1,
 zR 13 (.bin .add) 11 12,
 zC 14 29 [.t 13, zI 0],
 zQ 15 (.ext 0) 14,
 zQ 16 (.ext 1) 14,
 zM 4 15,
 zM 5 16])
 .ret)))⟩
abbrev f_ticks_Add : Nat := 9
abbrev C_ticks_Add : AFunc := C9
def C10 : AFunc := ⟨21, [.tmp 4, .tmp 5],
 (.seq (.ops [zV 4 0,
 zV 5 0])
 (.seq (.seq (.ops [zM 6 0,
 zC1 7 30 6,
 zQ 8 .not 7,
 zM 9 8,
 zMg 10 1 9 false,
 zCg 11 30 [.t 10] 9 false,
 zPg 12 .not [.t 11] 9 false,
 zP 13 .pick [.t 9, .c (.bool true), .t 12]])
 (.cond (.t 13)
 (.seq (.ops [zV 4 0,
 zV 5 2])
 .ret)
 .skip))
 (.seq (.seq (.ops [zM 14 0,
 zM 15 1,
 zR 16 (.bin .add) 14 15,
 zP 17 (.bin .gtr) [.t 16, zI 1099511627776]])
 (.cond (.t 17)
 (.seq (.ops [zV 4 0,
 zV 5 10])
 .ret)
 .skip))
 (.seq (.ops [zM 18 0,
 zM 19 1,
 zR 20 (.bin .add) 18 19,
 zM 4 20,
 zV 5 0])
 .ret))))⟩
abbrev f_escapementref01_Add : Nat := 10
abbrev C_escapementref01_Add : AFunc := C10
def C11 : AFunc := ⟨17, [.tmp 8],
 (.seq (.ops [zK 8 (.bool false)])
 (.seq (.ops [zM 9 0,
 zM 10 2,
 zR 11 (.bin .eql) 9 10,
 zM 12 11,
 zMg 13 1 12 true,
 zMg 14 3 12 true,
 zPg 15 (.bin .eql) [.t 13, .t 14] 12 true,
 zP 16 .pick [.t 12, .t 15, .c (.bool false)],
 zM 8 16])
 .ret))⟩
abbrev f_escapementlaw01_two : Nat := 11
abbrev C_escapementlaw01_two : AFunc := C11
def C12 : AFunc := ⟨19, [.tmp 4, .tmp 5],
 (.seq (.ops [zV 4 0,
 zV 5 0])
 (.seq (.seq (.ops [zM 6 0,
 zM 7 1,
 ⟨some 8, none, .a (.bslice [zz] 2 1 [0, 1]), [.t 6, .t 7]⟩,
 zC1 9 28 8,
 zQ 10 .not 9,
 zM 11 10,
 zMg 12 1 11 false,
 zMg 13 0 11 false,
 zPg 14 (.bin .gtr) [.t 12, .t 13] 11 false,
 zP 15 .pick [.t 11, .c (.bool true), .t 14]])
 (.cond (.t 15)
 (.seq (.ops [zV 4 0,
 zV 5 2])
 .ret)
 .skip))
 (.seq (.ops [zM 16 0,
 zM 17 1,
 zR 18 (.bin .sub) 16 17,
 zM 4 18,
 zV 5 0])
 .ret)))⟩
abbrev f_ticks_Sub : Nat := 12
abbrev C_ticks_Sub : AFunc := C12
def C13 : AFunc := ⟨22, [.tmp 4, .tmp 5],
 (.seq (.ops [zV 4 0,
 zV 5 0])
 (.seq (.seq (.ops [zM 6 0,
 zC1 7 30 6,
 zQ 8 .not 7,
 zM 9 8,
 zMg 10 1 9 false,
 zCg 11 30 [.t 10] 9 false,
 zPg 12 .not [.t 11] 9 false,
 zP 13 .pick [.t 9, .c (.bool true), .t 12],
 zM 14 13,
 zMg 15 1 14 false,
 zMg 16 0 14 false,
 zPg 17 (.bin .gtr) [.t 15, .t 16] 14 false,
 zP 18 .pick [.t 14, .c (.bool true), .t 17]])
 (.cond (.t 18)
 (.seq (.ops [zV 4 0,
 zV 5 2])
 .ret)
 .skip))
 (.seq (.ops [zM 19 0,
 zM 20 1,
 zR 21 (.bin .sub) 19 20,
 zM 4 21,
 zV 5 0])
 .ret)))⟩
abbrev f_escapementref01_Sub : Nat := 13
abbrev C_escapementref01_Sub : AFunc := C13
def C14 : AFunc := ⟨29, [.tmp 4, .tmp 5],
 (.seq (.ops [zV 4 0,
 zV 5 0])
 (.seq (.seq (.ops [zM 8 0,
 zM 9 1,
 ⟨some 10, none, .a (.bslice [zz] 2 1 [0, 1]), [.t 8, .t 9]⟩,
 zC1 11 28 10,
 zQ 12 .not 11])
 (.cond (.t 12)
 (.seq (.ops [zV 4 0,
 zV 5 2])
 .ret)
 .skip))
 (.seq (.ops [zM 14 0,
 zQ 15 (.conv .u64) 14,
 zM 16 1,
 zQ 17 (.conv .u64) 16,
 zC2 18 31 15 17,
 zM 13 18,
 zQ 19 (.ext 0) 13,
 zQ 20 (.ext 1) 13,
 zM 6 19,
 zM 7 20])
 (.seq (.seq (.ops [zM 21 6,
 zP 22 (.bin .gtr) [.t 21, .c (.int .u64 0)],
 zM 23 22,
 zMg 24 7 23 false,
 zPg 25 (.bin .gtr) [.t 24, .c (.int .u64 1099511627776)] 23 false,
 zP 26 .pick [.t 23, .c (.bool true), .t 25]])
 (.cond (.t 26)
 (.seq (.ops [zV 4 0,
 zV 5 10])
 .ret)
 .skip))
 (.seq (.ops [zM 27 7,
 zQ 28 (.conv .i64) 27,
 zM 4 28,
 zV 5 0])
 .ret)))))⟩
abbrev f_ticks_Mul : Nat := 14
abbrev C_ticks_Mul : AFunc := C14
def C15 : AFunc := ⟨25, [.tmp 4, .tmp 5],
 (.seq (.ops [zV 4 0,
 zV 5 0])
 (.seq (.seq (.ops [zM 6 0,
 zC1 7 30 6,
 zQ 8 .not 7,
 zM 9 8,
 zMg 10 1 9 false,
 zCg 11 30 [.t 10] 9 false,
 zPg 12 .not [.t 11] 9 false,
 zP 13 .pick [.t 9, .c (.bool true), .t 12]])
 (.cond (.t 13)
 (.seq (.ops [zV 4 0,
 zV 5 2])
 .ret)
 .skip))
 (.seq (.seq (.ops [zM 14 0,
 zP 15 (.bin .gtr) [.t 14, zI 0],
 zM 16 15,
 zMg 17 1 16 true,
 zMg 18 0 16 true,
 zPg 19 (.bin .quo) [zI 1099511627776, .t 18] 16 true,
 zPg 20 (.bin .gtr) [.t 17, .t 19] 16 true,
 zP 21 .pick [.t 16, .t 20, .c (.bool false)]])
 (.cond (.t 21)
 (.seq (.ops [zV 4 0,
 zV 5 10])
 .ret)
 .skip))
 (.seq (.ops [zM 22 0,
 zM 23 1,
 zR 24 (.bin .mul) 22 23,
 zM 4 24,
 zV 5 0])
 .ret))))⟩
abbrev f_escapementref01_Mul : Nat := 15
abbrev C_escapementref01_Mul : AFunc := C15
def C16 : AFunc := ⟨18, [.tmp 4, .tmp 5],
 (.seq (.ops [zV 4 0,
 zV 5 0])
 (.seq (.seq (.ops [zM 6 0,
 zM 7 1,
 ⟨some 8, none, .a (.bslice [zz] 2 1 [0, 1]), [.t 6, .t 7]⟩,
 zC1 9 28 8,
 zQ 10 .not 9,
 zM 11 10,
 zMg 12 1 11 false,
 zPg 13 (.bin .eql) [.t 12, zI 0] 11 false,
 zP 14 .pick [.t 11, .c (.bool true), .t 13]])
 (.cond (.t 14)
 (.seq (.ops [zV 4 0,
 zV 5 2])
 .ret)
 .skip))
 (.seq (.ops [zM 15 0,
 zM 16 1,
 zR 17 (.bin .quo) 15 16,
 zM 4 17,
 zV 5 0])
 .ret)))⟩
abbrev f_ticks_Div : Nat := 16
abbrev C_ticks_Div : AFunc := C16
def C17 : AFunc := ⟨21, [.tmp 4, .tmp 5],
 (.seq (.ops [zV 4 0,
 zV 5 0])
 (.seq (.seq (.ops [zM 6 0,
 zC1 7 30 6,
 zQ 8 .not 7,
 zM 9 8,
 zMg 10 1 9 false,
 zCg 11 30 [.t 10] 9 false,
 zPg 12 .not [.t 11] 9 false,
 zP 13 .pick [.t 9, .c (.bool true), .t 12],
 zM 14 13,
 zMg 15 1 14 false,
 zPg 16 (.bin .eql) [.t 15, zI 0] 14 false,
 zP 17 .pick [.t 14, .c (.bool true), .t 16]])
 (.cond (.t 17)
 (.seq (.ops [zV 4 0,
 zV 5 2])
 .ret)
 .skip))
 (.seq (.ops [zM 18 0,
 zM 19 1,
 zR 20 (.bin .quo) 18 19,
 zM 4 20,
 zV 5 0])
 .ret)))⟩
abbrev f_escapementref01_Div : Nat := 17
abbrev C_escapementref01_Div : AFunc := C17
def L_ticks_Gcd_0 : AC := (.seq (.seq (.ops [zM 11 1,
 zP 12 (.bin .neq) [.t 11, zI 0]])
 (.cond (.t 12)
 .skip
 (.exit 0)))
 (.block 1 (.dops [zM 13 1,
 zM 14 0,
 zM 15 1,
 zR 16 (.bin .rem) 14 15,
 zM 0 13,
 zM 1 16] [[], [], [], [], [], []])))
def C18 : AFunc := ⟨18, [.tmp 4, .tmp 5],
 (.seq (.ops [zV 4 0,
 zV 5 0])
 (.seq (.seq (.ops [zM 6 0,
 zM 7 1,
 ⟨some 8, none, .a (.bslice [zz] 2 1 [0, 1]), [.t 6, .t 7]⟩,
 zC1 9 28 8,
 zQ 10 .not 9])
 (.cond (.t 10)
 (.seq (.ops [zV 4 0,
 zV 5 2])
 .ret)
 .skip))
 (.seq (.block 0 (.loop L_ticks_Gcd_0))
 (.seq (.ops [zM 17 0,
 zM 4 17,
 zV 5 0])
 .ret))))⟩
abbrev f_ticks_Gcd : Nat := 18
abbrev C_ticks_Gcd : AFunc := C18
def L_escapementref01_Gcd_0 : AC := (.seq (.seq (.ops [zM 15 1,
 zP 16 (.bin .gtr) [.t 15, zI 0]])
 (.cond (.t 16)
 .skip
 (.exit 0)))
 (.block 1 (.seq (.ops [zM 17 0,
 zM 18 1,
 zR 19 (.bin .rem) 17 18,
 zM 6 19])
 (.seq (.ops [zM 20 1,
 zM 0 20])
 (.ops [zM 21 6,
 zM 1 21])))))
def C19 : AFunc := ⟨23, [.tmp 4, .tmp 5],
 (.seq (.ops [zV 4 0,
 zV 5 0])
 (.seq (.seq (.ops [zM 7 0,
 zC1 8 30 7,
 zQ 9 .not 8,
 zM 10 9,
 zMg 11 1 10 false,
 zCg 12 30 [.t 11] 10 false,
 zPg 13 .not [.t 12] 10 false,
 zP 14 .pick [.t 10, .c (.bool true), .t 13]])
 (.cond (.t 14)
 (.seq (.ops [zV 4 0,
 zV 5 2])
 .ret)
 .skip))
 (.seq (.block 0 (.loop L_escapementref01_Gcd_0))
 (.seq (.ops [zM 22 0,
 zM 4 22,
 zV 5 0])
 .ret))))⟩
abbrev f_escapementref01_Gcd : Nat := 19
abbrev C_escapementref01_Gcd : AFunc := C19
def C20 : AFunc := ⟨144, [.tmp 0],
 (.seq (.ops [zK 0 (.bool false)])
 (.seq (.ops [zC 12 9 [zI 1099511627776, zI 0],
 zM 11 12,
 zQ 13 (.ext 0) 11,
 zQ 14 (.ext 1) 11,
 zM 1 13,
 zM 2 14])
 (.seq (.ops [zC 16 9 [zI 1099511627776, zI 1],
 zM 15 16,
 zQ 17 (.ext 0) 15,
 zQ 18 (.ext 1) 15,
 zM 3 17,
 zM 4 18])
 (.seq (.ops [zC 20 12 [zI 3, zI 4],
 zM 19 20,
 zQ 21 (.ext 0) 19,
 zQ 22 (.ext 1) 19,
 zM 5 21,
 zM 6 22])
 (.seq (.ops [zC 24 14 [zI 1048576, zI 1048576],
 zM 23 24,
 zQ 25 (.ext 0) 23,
 zQ 26 (.ext 1) 23,
 zM 7 25,
 zM 8 26])
 (.seq (.ops [zC 28 14 [zI 1048577, zI 1048576],
 zM 27 28,
 zQ 29 (.ext 0) 27,
 zQ 30 (.ext 1) 27,
 zM 9 29,
 zM 10 30])
 (.seq (.seq (.ops [zM 31 1,
 zM 32 2,
 zC 33 32 [.t 31, .t 32, zI 1099511627776, zI 0],
 zQ 34 .not 33,
 zM 35 34,
 zMg 36 3 35 false,
 zMg 37 4 35 false,
 zCg 38 32 [.t 36, .t 37, zI 0, zI 10] 35 false,
 zPg 39 .not [.t 38] 35 false,
 zP 40 .pick [.t 35, .c (.bool true), .t 39],
 zM 41 40,
 zMg 42 5 41 false,
 zMg 43 6 41 false,
 zCg 44 32 [.t 42, .t 43, zI 0, zI 2] 41 false,
 zPg 45 .not [.t 44] 41 false,
 zP 46 .pick [.t 41, .c (.bool true), .t 45],
 zM 47 46,
 zMg 48 7 47 false,
 zMg 49 8 47 false,
 zCg 50 32 [.t 48, .t 49, zI 1099511627776, zI 0] 47 false,
 zPg 51 .not [.t 50] 47 false,
 zP 52 .pick [.t 47, .c (.bool true), .t 51],
 zM 53 52,
 zMg 54 9 53 false,
 zMg 55 10 53 false,
 zCg 56 32 [.t 54, .t 55, zI 0, zI 10] 53 false,
 zPg 57 .not [.t 56] 53 false,
 zP 58 .pick [.t 53, .c (.bool true), .t 57]])
 (.cond (.t 58)
 (.seq (.ops [zK 0 (.bool false)])
 .ret)
 .skip))
 (.seq (.ops [zC 60 16 [zI 7, zI 2],
 zM 59 60,
 zQ 61 (.ext 0) 59,
 zQ 62 (.ext 1) 59,
 zM 1 61,
 zM 2 62])
 (.seq (.ops [zC 64 16 [zI 7, zI 0],
 zM 63 64,
 zQ 65 (.ext 0) 63,
 zQ 66 (.ext 1) 63,
 zM 3 65,
 zM 4 66])
 (.seq (.ops [zC 68 18 [zI 12, zI 18],
 zM 67 68,
 zQ 69 (.ext 0) 67,
 zQ 70 (.ext 1) 67,
 zM 5 69,
 zM 6 70])
 (.seq (.ops [zC 72 18 [zI 0, zI 5],
 zM 71 72,
 zQ 73 (.ext 0) 71,
 zQ 74 (.ext 1) 71,
 zM 7 73,
 zM 8 74])
 (.seq (.seq (.ops [zM 75 1,
 zM 76 2,
 zC 77 32 [.t 75, .t 76, zI 3, zI 0],
 zQ 78 .not 77,
 zM 79 78,
 zMg 80 3 79 false,
 zMg 81 4 79 false,
 zCg 82 32 [.t 80, .t 81, zI 0, zI 2] 79 false,
 zPg 83 .not [.t 82] 79 false,
 zP 84 .pick [.t 79, .c (.bool true), .t 83],
 zM 85 84,
 zMg 86 5 85 false,
 zMg 87 6 85 false,
 zCg 88 32 [.t 86, .t 87, zI 6, zI 0] 85 false,
 zPg 89 .not [.t 88] 85 false,
 zP 90 .pick [.t 85, .c (.bool true), .t 89],
 zM 91 90,
 zMg 92 7 91 false,
 zMg 93 8 91 false,
 zCg 94 32 [.t 92, .t 93, zI 5, zI 0] 91 false,
 zPg 95 .not [.t 94] 91 false,
 zP 96 .pick [.t 91, .c (.bool true), .t 95]])
 (.cond (.t 96)
 (.seq (.ops [zK 0 (.bool false)])
 .ret)
 .skip))
 (.seq (.ops [⟨some 98, none, .a (.bslice [zz] 3 1 [0, 1, 2]), [zI 4, zI 6, zI 10]⟩,
 zC 99 22 [zI 100, .t 98],
 zM 97 99,
 zQ 100 (.ext 0) 97,
 zQ 101 (.ext 1) 97,
 zM 1 100,
 zM 2 101])
 (.seq (.ops [⟨some 103, none, .a (.bslice [zz] 3 1 [0, 1, 2]), [zI 4, zI 6, zI 10]⟩,
 zC 104 22 [zI 59, .t 103],
 zM 102 104,
 zQ 105 (.ext 0) 102,
 zQ 106 (.ext 1) 102,
 zM 3 105,
 zM 4 106])
 (.seq (.ops [zC 108 22 [zI 1, .c .nils],
 zM 107 108,
 zQ 109 (.ext 0) 107,
 zQ 110 (.ext 1) 107,
 zM 5 109,
 zM 6 110])
 (.seq (.ops [⟨some 112, none, .a (.bslice [zz] 3 1 [0, 1, 2]), [zI 1, zI 2, zI 3]⟩,
 zC1 113 24 112,
 zM 111 113,
 zQ 114 (.ext 0) 111,
 zQ 115 (.ext 1) 111,
 zM 7 114,
 zM 8 115])
 (.seq (.ops [⟨some 117, none, .a (.bslice [zz] 1 1 [0]), [zI (-1)]⟩,
 zC1 118 24 117,
 zM 116 118,
 zQ 119 (.ext 0) 116,
 zQ 120 (.ext 1) 116,
 zM 9 119,
 zM 10 120])
 (.seq (.ops [zM 121 1,
 zM 122 2,
 zC 123 32 [.t 121, .t 122, zI 60, zI 0],
 zM 124 123,
 zMg 125 3 124 true,
 zMg 126 4 124 true,
 zCg 127 32 [.t 125, .t 126, zI 0, zI 10] 124 true,
 zP 128 .pick [.t 124, .t 127, .c (.bool false)],
 zM 129 128,
 zMg 130 5 129 true,
 zMg 131 6 129 true,
 zCg 132 32 [.t 130, .t 131, zI 1, zI 0] 129 true,
 zP 133 .pick [.t 129, .t 132, .c (.bool false)],
 zM 134 133,
 zMg 135 7 134 true,
 zMg 136 8 134 true,
 zCg 137 32 [.t 135, .t 136, zI 6, zI 0] 134 true,
 zP 138 .pick [.t 134, .t 137, .c (.bool false)],
 zM 139 138,
 zMg 140 9 139 true,
 zMg 141 10 139 true,
 zCg 142 32 [.t 140, .t 141, zI 0, zI 2] 139 true,
 zP 143 .pick [.t 139, .t 142, .c (.bool false)],
 zM 0 143])
 .ret))))))))))))))))))⟩
abbrev f_escapementlaw01_works : Nat := 20
abbrev C_escapementlaw01_works : AFunc := C20
def C21 : AFunc := ⟨7, [.tmp 2],
 (.seq (.ops [zK 2 .nils])
 (.seq (.ops [zK 3 .nils])
 (.seq (.ops [zM 4 3,
 zM 5 0,
 zA 6 1 8 4 5,
 zM 2 6])
 .ret)))⟩
abbrev f_escapementref00_CopyInts : Nat := 21
abbrev C_escapementref00_CopyInts : AFunc := C21
def C22 : AFunc := ⟨53, [.tmp 4, .tmp 5],
 (.seq (.ops [zV 4 0,
 zV 5 0])
 (.seq (.seq (.ops [zM 7 0,
 ⟨some 8, none, .a (.bslice [zz] 1 1 [0]), [.t 7]⟩,
 zC1 9 28 8,
 zQ 10 .not 9,
 zM 11 10,
 zMg 12 1 11 false,
 zCg 13 28 [.t 12] 11 false,
 zPg 14 .not [.t 13] 11 false,
 zP 15 .pick [.t 11, .c (.bool true), .t 14],
 zM 16 15,
 zMg 17 1 16 false,
 zCg 18 33 [.t 17, zI 0] 16 false,
 zP 19 .pick [.t 16, .c (.bool true), .t 18]])
 (.cond (.t 19)
 (.seq (.ops [zV 4 0,
 zV 5 2])
 .ret)
 .skip))
 (.seq (.ops [zP 20 (.build [zz, zz] [(0, 1)]) [zI 1],
 zB 21 20,
 zM 6 21])
 (.seq (.ops [zM 22 6,
 zQ 23 (.mkfunc (.func 35) 1) 22,
 zM 24 1,
 zC2 25 34 23 24])
 (.seq (.seq (.ops [zM 26 6,
 zN 27 26,
 zF 28 27 1,
 zL 29 28,
 zP 30 (.bin .eql) [.t 29, zI 0],
 zM 31 30,
 zMg 32 6 31 true,
 zNg 33 32 31 true,
 zFg 34 33 0 31 true,
 zLg 35 34 31 true,
 zMg 36 0 31 true,
 zPg 37 (.bin .gtr) [.t 35, .t 36] 31 true,
 zP 38 .pick [.t 31, .t 37, .c (.bool false)]])
 (.cond (.t 38)
 (.ops [zM 39 6,
 zN 40 39,
 zF 41 40 1,
 zS 1 [.t 41, zI 10]])
 .skip))
 (.seq (.dops [zM 42 6,
 zN 43 42,
 zF 44 43 0,
 zL 45 44,
 zM 46 6,
 zN 47 46,
 zF 48 47 1,
 zL 49 48,
 zC2 50 29 45 49,
 zQ 51 (.ext 0) 50,
 zQ 52 (.ext 1) 50,
 zM 4 51,
 zM 5 52] [[], [], [], [], [], [], [], [], [], [], [], [], []])
 .ret))))))⟩
abbrev f_ticks_Lcm : Nat := 22
abbrev C_ticks_Lcm : AFunc := C22
def L_escapementref01_Lcm_0 : AC := (.seq (.seq (.ops [zM 16 6,
 zM 17 1,
 zQ 18 .lenS 17,
 zR 19 (.bin .lss) 16 18])
 (.cond (.t 19)
 .skip
 (.exit 0)))
 (.seq (.block 1 (.seq (.ops [zM 22 1,
 zM 23 6,
 zR 24 (.iaddrS 1) 22 23,
 zL 25 24,
 zC1 26 30 25,
 zQ 27 .not 26,
 zM 28 27,
 zMg 29 1 28 false,
 zMg 30 6 28 false,
 zPg 31 (.iaddrS 1) [.t 29, .t 30] 28 false,
 zLg 32 31 28 false,
 zPg 33 (.bin .eql) [.t 32, zI 0] 28 false,
 zP 34 .pick [.t 28, .c (.bool true), .t 33]])
 (.cond (.t 34)
 (.seq (.ops [zV 4 0,
 zV 5 2])
 .ret)
 .skip)))
 (.ops [zM 20 6,
 zP 21 (.bin .add) [.t 20, zI 1],
 zM 6 21])))
def L_escapementref01_Lcm_1 : AC := (.seq (.seq (.ops [zM 35 8,
 zM 36 1,
 zQ 37 .lenS 36,
 zR 38 (.bin .lss) 35 37])
 (.cond (.t 38)
 .skip
 (.exit 2)))
 (.seq (.block 3 (.seq (.ops [zM 42 7,
 zM 43 1,
 zM 44 8,
 zR 45 (.iaddrS 1) 43 44,
 zL 46 45,
 zC2 47 19 42 46,
 zM 41 47,
 zQ 48 (.ext 0) 41,
 zQ 49 (.ext 1) 41,
 zM 9 48,
 zM 10 49])
 (.seq (.ops [zM 51 7,
 zM 52 1,
 zM 53 8,
 zR 54 (.iaddrS 1) 52 53,
 zL 55 54,
 zM 56 9,
 zR 57 (.bin .quo) 55 56,
 zC2 58 15 51 57,
 zM 50 58,
 zQ 59 (.ext 0) 50,
 zQ 60 (.ext 1) 50,
 zM 11 59,
 zM 12 60])
 (.seq (.seq (.ops [zM 61 12,
 zP 62 (.bin .neq) [.t 61, zI 0]])
 (.cond (.t 62)
 (.seq (.ops [zV 4 0,
 zV 5 10])
 .ret)
 .skip))
 (.ops [zM 63 11,
 zM 7 63])))))
 (.ops [zM 39 8,
 zP 40 (.bin .add) [.t 39, zI 1],
 zM 8 40])))
def C23 : AFunc := ⟨68, [.tmp 4, .tmp 5],
 (.seq (.ops [zV 4 0,
 zV 5 0])
 (.seq (.seq (.ops [zM 13 0,
 zC1 14 30 13,
 zQ 15 .not 14])
 (.cond (.t 15)
 (.seq (.ops [zV 4 0,
 zV 5 2])
 .ret)
 .skip))
 (.seq (.seq (.ops [zV 6 0])
 (.block 0 (.loop L_escapementref01_Lcm_0)))
 (.seq (.ops [zV 7 1])
 (.seq (.seq (.ops [zV 8 0])
 (.block 2 (.loop L_escapementref01_Lcm_1)))
 (.seq (.seq (.ops [zM 64 7,
 zM 65 0,
 zR 66 (.bin .gtr) 64 65])
 (.cond (.t 66)
 (.seq (.ops [zV 4 0,
 zV 5 10])
 .ret)
 .skip))
 (.seq (.ops [zM 67 7,
 zM 4 67,
 zV 5 0])
 .ret)))))))⟩
abbrev f_escapementref01_Lcm : Nat := 23
abbrev C_escapementref01_Lcm : AFunc := C23
def C24 : AFunc := ⟨25, [.tmp 2, .tmp 3],
 (.seq (.ops [zV 2 0,
 zV 3 0])
 (.seq (.seq (.ops [zM 5 0,
 zC1 6 28 5,
 zQ 7 .not 6])
 (.cond (.t 7)
 (.seq (.ops [zV 2 0,
 zV 3 2])
 .ret)
 .skip))
 (.seq (.ops [zP 8 (.build [zz, zz] []) [],
 zB 9 8,
 zM 4 9])
 (.seq (.ops [zM 10 4,
 zQ 11 (.mkfunc (.func 36) 1) 10,
 zM 12 0,
 zC2 13 34 11 12])
 (.seq (.dops [zM 14 4,
 zN 15 14,
 zF 16 15 0,
 zL 17 16,
 zM 18 4,
 zN 19 18,
 zF 20 19 1,
 zL 21 20,
 zC2 22 29 17 21,
 zQ 23 (.ext 0) 22,
 zQ 24 (.ext 1) 22,
 zM 2 23,
 zM 3 24] [[], [], [], [], [], [], [], [], [], [], [], [], []])
 .ret)))))⟩
abbrev f_ticks_Sum : Nat := 24
abbrev C_ticks_Sum : AFunc := C24
def L_escapementref01_Sum_0 : AC := (.seq (.seq (.ops [zM 9 4,
 zM 10 0,
 zQ 11 .lenS 10,
 zR 12 (.bin .lss) 9 11])
 (.cond (.t 12)
 .skip
 (.exit 0)))
 (.seq (.block 1 (.seq (.ops [zM 15 0,
 zM 16 4,
 zR 17 (.iaddrS 1) 15 16,
 zL 18 17,
 zC1 19 30 18,
 zQ 20 .not 19])
 (.cond (.t 20)
 (.seq (.ops [zV 2 0,
 zV 3 2])
 .ret)
 .skip)))
 (.ops [zM 13 4,
 zP 14 (.bin .add) [.t 13, zI 1],
 zM 4 14])))
def L_escapementref01_Sum_1 : AC := (.seq (.seq (.ops [zM 21 6,
 zM 22 0,
 zQ 23 .lenS 22,
 zR 24 (.bin .lss) 21 23])
 (.cond (.t 24)
 .skip
 (.exit 2)))
 (.seq (.block 3 (.seq (.ops [zM 28 5,
 zM 29 0,
 zM 30 6,
 zR 31 (.iaddrS 1) 29 30,
 zL 32 31,
 zC2 33 10 28 32,
 zM 27 33,
 zQ 34 (.ext 0) 27,
 zQ 35 (.ext 1) 27,
 zM 7 34,
 zM 8 35])
 (.seq (.seq (.ops [zM 36 8,
 zP 37 (.bin .neq) [.t 36, zI 0]])
 (.cond (.t 37)
 (.seq (.ops [zM 38 8,
 zV 2 0,
 zM 3 38])
 .ret)
 .skip))
 (.ops [zM 39 7,
 zM 5 39]))))
 (.ops [zM 25 6,
 zP 26 (.bin .add) [.t 25, zI 1],
 zM 6 26])))
def C25 : AFunc := ⟨41, [.tmp 2, .tmp 3],
 (.seq (.ops [zV 2 0,
 zV 3 0])
 (.seq (.seq (.ops [zV 4 0])
 (.block 0 (.loop L_escapementref01_Sum_0)))
 (.seq (.ops [zV 5 0])
 (.seq (.seq (.ops [zV 6 0])
 (.block 2 (.loop L_escapementref01_Sum_1)))
 (.seq (.ops [zM 40 5,
 zM 2 40,
 zV 3 0])
 .ret)))))⟩
abbrev f_escapementref01_Sum : Nat := 25
abbrev C_escapementref01_Sum : AFunc := C25
def L_escapementref00_EqInts_0 : AC := (.seq (.seq (.ops [zM 11 5,
 zM 12 0,
 zQ 13 .lenS 12,
 zR 14 (.bin .lss) 11 13])
 (.cond (.t 14)
 .skip
 (.exit 0)))
 (.seq (.block 1 (.seq (.dops [zM 17 0,
 zM 18 5,
 zR 19 (.iaddrS 1) 17 18,
 zL 20 19,
 zM 21 1,
 zM 22 5,
 zR 23 (.iaddrS 1) 21 22,
 zL 24 23,
 zR 25 (.bin .neq) 20 24] [[], [], [], [], [], [], [], [], []])
 (.cond (.t 25)
 (.seq (.ops [zK 4 (.bool false)])
 .ret)
 .skip)))
 (.ops [zM 15 5,
 zP 16 (.bin .add) [.t 15, zI 1],
 zM 5 16])))
def C26 : AFunc := ⟨26, [.tmp 4],
 (.seq (.ops [zK 4 (.bool false)])
 (.seq (.seq (.ops [zM 6 0,
 zQ 7 .lenS 6,
 zM 8 1,
 zQ 9 .lenS 8,
 zR 10 (.bin .neq) 7 9])
 (.cond (.t 10)
 (.seq (.ops [zK 4 (.bool false)])
 .ret)
 .skip))
 (.seq (.seq (.ops [zV 5 0])
 (.block 0 (.loop L_escapementref00_EqInts_0)))
 (.seq (.ops [zK 4 (.bool true)])
 .ret))))⟩
abbrev f_escapementref00_EqInts : Nat := 26
abbrev C_escapementref00_EqInts : AFunc := C26
def C27 : AFunc := ⟨14, [.tmp 4],
 (.seq (.ops [zV 4 0])
 (.seq (.ops [zM 5 0,
 zM 6 1,
 zR 7 (.bin .rem) 5 6,
 zM 0 7])
 (.seq (.seq (.ops [zM 8 0,
 zP 9 (.bin .lss) [.t 8, zI 0]])
 (.cond (.t 9)
 (.ops [zM 10 0,
 zM 11 1,
 zR 12 (.bin .add) 10 11,
 zM 0 12])
 .skip))
 (.seq (.ops [zM 13 0,
 zM 4 13])
 .ret))))⟩
abbrev f_escapementref00_Bring : Nat := 27
abbrev C_escapementref00_Bring : AFunc := C27
def L_ticks_tick_0 : AC := (.seq (.ops [zR 8 (.bin .lss) 7 6])
 (.seq (.cond (.t 8)
 .skip
 (.exit 0))
 (.seq (.block 1 (.seq (.ops [zR 9 (.iaddrS 1) 5 7,
 zL 10 9,
 zM 4 10])
 (.seq (.ops [zM 11 4,
 zP 12 (.bin .lss) [.t 11, zI 0],
 zM 13 12,
 zMg 14 4 13 false,
 zPg 15 (.bin .gtr) [.t 14, zI 1099511627776] 13 false,
 zP 16 .pick [.t 13, .c (.bool true), .t 15]])
 (.cond (.t 16)
 (.seq (.ops [zK 2 (.bool false)])
 .ret)
 .skip))))
 (.ops [zP 17 (.bin .add) [.t 7, zI 1],
 zM 7 17]))))
def C28 : AFunc := ⟨18, [.tmp 2],
 (.seq (.ops [zK 2 (.bool false)])
 (.seq (.seq (.ops [zM 5 0,
 zQ 6 .lenS 5,
 zV 7 0])
 (.block 0 (.loop L_ticks_tick_0)))
 (.seq (.ops [zK 2 (.bool true)])
 .ret)))⟩
abbrev f_ticks_tick : Nat := 28
abbrev C_ticks_tick : AFunc := C28
def C29 : AFunc := ⟨16, [.tmp 4, .tmp 5],
 (.seq (.ops [zV 4 0,
 zV 5 0])
 (.seq (.seq (.ops [zM 6 1,
 zP 7 (.bin .eql) [.t 6, zI 0],
 zM 8 7,
 zMg 9 0 8 true,
 zPg 10 (.bin .gtr) [.t 9, zI 1099511627776] 8 true,
 zP 11 .pick [.t 8, .t 10, .c (.bool false)]])
 (.cond (.t 11)
 (.ops [zV 1 10])
 .skip))
 (.seq (.seq (.ops [zM 12 1,
 zP 13 (.bin .neq) [.t 12, zI 0]])
 (.cond (.t 13)
 (.seq (.ops [zM 14 1,
 zV 4 0,
 zM 5 14])
 .ret)
 .skip))
 (.seq (.ops [zM 15 0,
 zM 4 15,
 zV 5 0])
 .ret))))⟩
abbrev f_ticks_told : Nat := 29
abbrev C_ticks_told : AFunc := C29
def C30 : AFunc := ⟨9, [.tmp 2],
 (.seq (.ops [zK 2 (.bool false)])
 (.seq (.ops [zM 3 0,
 zP 4 (.bin .geq) [.t 3, zI 0],
 zM 5 4,
 zMg 6 0 5 true,
 zPg 7 (.bin .leq) [.t 6, zI 1099511627776] 5 true,
 zP 8 .pick [.t 5, .t 7, .c (.bool false)],
 zM 2 8])
 .ret))⟩
abbrev f_escapementref01_tick : Nat := 30
abbrev C_escapementref01_tick : AFunc := C30
def C31 : AFunc := ⟨51, [.tmp 4, .tmp 5],
 (.seq (.ops [zP 4 .mov [.c (.int .u64 0)],
 zP 5 .mov [.c (.int .u64 0)]])
 (.seq (.ops [zM 14 0,
 zP 15 (.bin .and) [.t 14, .c (.int .u64 4294967295)],
 zM 6 15])
 (.seq (.ops [zM 16 0,
 zP 17 (.bin .shr) [.t 16, .c (.int .u64 32)],
 zM 7 17])
 (.seq (.ops [zM 18 1,
 zP 19 (.bin .and) [.t 18, .c (.int .u64 4294967295)],
 zM 8 19])
 (.seq (.ops [zM 20 1,
 zP 21 (.bin .shr) [.t 20, .c (.int .u64 32)],
 zM 9 21])
 (.seq (.ops [zM 22 6,
 zM 23 8,
 zR 24 (.bin .mul) 22 23,
 zM 10 24])
 (.seq (.ops [zM 25 7,
 zM 26 8,
 zR 27 (.bin .mul) 25 26,
 zM 28 10,
 zP 29 (.bin .shr) [.t 28, .c (.int .u64 32)],
 zR 30 (.bin .add) 27 29,
 zM 11 30])
 (.seq (.ops [zM 31 11,
 zP 32 (.bin .and) [.t 31, .c (.int .u64 4294967295)],
 zM 12 32])
 (.seq (.ops [zM 33 11,
 zP 34 (.bin .shr) [.t 33, .c (.int .u64 32)],
 zM 13 34])
 (.seq (.ops [zM 35 12,
 zM 36 6,
 zM 37 9,
 zR 38 (.bin .mul) 36 37,
 zR 39 (.bin .add) 35 38,
 zM 12 39])
 (.seq (.ops [zM 40 7,
 zM 41 9,
 zR 42 (.bin .mul) 40 41,
 zM 43 13,
 zR 44 (.bin .add) 42 43,
 zM 45 12,
 zP 46 (.bin .shr) [.t 45, .c (.int .u64 32)],
 zR 47 (.bin .add) 44 46,
 zM 4 47])
 (.seq (.ops [zM 48 0,
 zM 49 1,
 zR 50 (.bin .mul) 48 49,
 zM 5 50])
 .ret))))))))))))⟩
abbrev f_math_bits_Mul64 : Nat := 31
abbrev C_math_bits_Mul64 : AFunc := C31
def C32 : AFunc := ⟨17, [.tmp 8],
 (.seq (.ops [zK 8 (.bool false)])
 (.seq (.ops [zM 9 0,
 zM 10 2,
 zR 11 (.bin .eql) 9 10,
 zM 12 11,
 zMg 13 1 12 true,
 zMg 14 3 12 true,
 zPg 15 (.bin .eql) [.t 13, .t 14] 12 true,
 zP 16 .pick [.t 12, .t 15, .c (.bool false)],
 zM 8 16])
 .ret))⟩
abbrev f_escapementlaw01_is : Nat := 32
abbrev C_escapementlaw01_is : AFunc := C32
def C33 : AFunc := ⟨9, [.tmp 4],
 (.seq (.ops [zK 4 (.bool false)])
 (.seq (.ops [zM 5 0,
 zM 6 1,
 zC2 7 37 5 6,
 zP 8 (.bin .geq) [.t 7, zI 0],
 zM 4 8])
 .ret))⟩
abbrev f_slices_Contains_int_int : Nat := 33
abbrev C_slices_Contains_int_int : AFunc := C33
def L_ticks_each_0 : AC := (.seq (.ops [zR 9 (.bin .lss) 8 7])
 (.seq (.cond (.t 9)
 .skip
 (.exit 0))
 (.seq (.block 1 (.seq (.ops [zR 10 (.iaddrS 1) 6 8,
 zL 11 10,
 zM 5 11])
 (.ops [zM 12 0,
 zM 13 5,
 ⟨some 14, none, .call, [.t 12, .t 13]⟩])))
 (.ops [zP 15 (.bin .add) [.t 8, zI 1],
 zM 8 15]))))
def C34 : AFunc := ⟨16, [],
 (.seq (.ops [zM 6 1,
 zQ 7 .lenS 6,
 zV 8 0])
 (.block 0 (.loop L_ticks_each_0)))⟩
abbrev f_ticks_each : Nat := 34
abbrev C_ticks_each : AFunc := C34
def C35 : AFunc := ⟨37, [],
 (.seq (.ops [zM 6 0,
 zN 7 6,
 zF 8 7 1,
 zL 9 8,
 zP 10 (.bin .eql) [.t 9, zI 0]])
 (.cond (.t 10)
 (.seq (.ops [zM 12 0,
 zN 13 12,
 zF 14 13 0,
 zL 15 14,
 zM 16 1,
 zC2 17 18 15 16,
 zM 11 17,
 zQ 18 (.ext 0) 11,
 zQ 19 (.ext 1) 11,
 zM 4 18,
 zM 5 19])
 (.dops [zM 21 0,
 zM 22 0,
 zM 23 0,
 zN 24 23,
 zF 25 24 0,
 zL 26 25,
 zM 27 1,
 zM 28 4,
 zR 29 (.bin .quo) 27 28,
 zC2 30 14 26 29,
 zM 20 30,
 zQ 31 (.ext 0) 20,
 zQ 32 (.ext 1) 20,
 zN 33 21,
 zF 34 33 0,
 zS 1 [.t 34, .t 31],
 zN 35 22,
 zF 36 35 1,
 zS 1 [.t 36, .t 32]] [[], [], [], [], [], [], [], [], [], [], [], [], [], [], [], [], [], [], []]))
 .skip))⟩
abbrev f_ticks_count_multiple : Nat := 35
abbrev C_ticks_count_multiple : AFunc := C35
def C36 : AFunc := ⟨24, [],
 (.seq (.ops [zM 4 0,
 zN 5 4,
 zF 6 5 1,
 zL 7 6,
 zP 8 (.bin .eql) [.t 7, zI 0]])
 (.cond (.t 8)
 (.ops [zM 10 0,
 zM 11 0,
 zM 12 0,
 zN 13 12,
 zF 14 13 0,
 zL 15 14,
 zM 16 1,
 zC2 17 9 15 16,
 zM 9 17,
 zQ 18 (.ext 0) 9,
 zQ 19 (.ext 1) 9,
 zN 20 10,
 zF 21 20 0,
 zS 1 [.t 21, .t 18],
 zN 22 11,
 zF 23 22 1,
 zS 1 [.t 23, .t 19]])
 .skip))⟩
abbrev f_ticks_count_add : Nat := 36
abbrev C_ticks_count_add : AFunc := C36
def L_slices_Index_int_int_0 : AC := (.seq (.ops [zR 9 (.bin .lss) 8 7])
 (.seq (.cond (.t 9)
 .skip
 (.exit 0))
 (.seq (.block 1 (.seq (.ops [zM 10 8,
 zM 5 10])
 (.seq (.ops [zM 11 1,
 zM 12 0,
 zM 13 5,
 zR 14 (.iaddrS 1) 12 13,
 zL 15 14,
 zR 16 (.bin .eql) 11 15])
 (.cond (.t 16)
 (.seq (.ops [zM 17 5,
 zM 4 17])
 .ret)
 .skip))))
 (.ops [zP 18 (.bin .add) [.t 8, zI 1],
 zM 8 18]))))
def C37 : AFunc := ⟨19, [.tmp 4],
 (.seq (.ops [zV 4 0])
 (.seq (.seq (.ops [zM 6 0,
 zQ 7 .lenS 6,
 zV 8 0])
 (.block 0 (.loop L_slices_Index_int_int_0)))
 (.seq (.ops [zV 4 (-1)])
 .ret)))⟩
abbrev f_slices_Index_int_int : Nat := 37
abbrev C_slices_Index_int_int : AFunc := C37
def T : Tr AFunc := (.node (.node (.node (.node (.node (.node .nil (some C31) .nil) (some C15) .nil) (some C7) (.node .nil (some C23) .nil)) (some C3) (.node (.node (.node .nil (some C35) .nil) (some C19) .nil) (some C11) (.node .nil (some C27) .nil))) none (.node (.node (.node (.node .nil (some C33) .nil) (some C17) .nil) (some C9) (.node .nil (some C25) .nil)) (some C5) (.node (.node (.node .nil (some C37) .nil) (some C21) .nil) (some C13) (.node .nil (some C29) .nil)))) none (.node (.node (.node (.node (.node .nil (some C32) .nil) (some C16) .nil) (some C8) (.node .nil (some C24) .nil)) (some C4) (.node (.node (.node .nil (some C36) .nil) (some C20) .nil) (some C12) (.node .nil (some C28) .nil))) none (.node (.node (.node (.node .nil (some C34) .nil) (some C18) .nil) (some C10) (.node .nil (some C26) .nil)) (some C6) (.node (.node .nil (some C22) .nil) (some C14) (.node .nil (some C30) .nil)))))
def fs (f : Nat) : Option AFunc := Tr.get T f
def ms (t : Nat) (n : String) : Option Nat := none
end Ir
end Go.Proofs.Ytflmbknimebmnaa
