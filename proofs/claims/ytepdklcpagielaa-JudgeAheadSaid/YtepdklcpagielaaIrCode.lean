/-
  What the program's functions are in Ads, printed by a program.
-/
import Derived.Test.YtepdklcpagielaaAdsDef
set_option linter.unusedVariables false
set_option maxRecDepth 100000
namespace Go.Proofs.Ytepdklcpagielaa
open Go Ads
namespace Ir
abbrev zM (d s : Nat) : Ins := ⟨some d, none, .p .mov, [.t s]⟩
abbrev zF (d s o : Nat) : Ins := ⟨some d, none, .p (.faddr o), [.t s]⟩
abbrev zN (d s : Nat) : Ins := ⟨some d, none, .p .nilchk, [.t s]⟩
abbrev zL (d s : Nat) : Ins := ⟨some d, none, .r .load1, [.t s]⟩
abbrev zMg (d s g : Nat) (b : Bool) : Ins := ⟨some d, some (g, b), .p .mov, [.t s]⟩
abbrev zFg (d s o g : Nat) (b : Bool) : Ins := ⟨some d, some (g, b), .p (.faddr o), [.t s]⟩
abbrev zNg (d s g : Nat) (b : Bool) : Ins := ⟨some d, some (g, b), .p .nilchk, [.t s]⟩
abbrev zLg (d s g : Nat) (b : Bool) : Ins := ⟨some d, some (g, b), .r .load1, [.t s]⟩
abbrev zP (d : Nat) (o : POp) (l : List Rand) : Ins := ⟨some d, none, .p o, l⟩
abbrev zPg (d : Nat) (o : POp) (l : List Rand) (g : Nat) (b : Bool) : Ins := ⟨some d, some (g, b), .p o, l⟩
abbrev zS (n : Nat) (l : List Rand) : Ins := ⟨none, none, .e (.store n), l⟩
def L_escapementlaw26_JudgeAhead_0 : AC := (.seq (.seq (.ops [zM 33 12,
zM 34 10,
zP 35 (.bin .lss) [.t 33, .t 34]])
(.cond (.t 35)
.skip
(.exit 0)))
(.seq (.block 1 (.ops [zM 38 11,
zM 39 1,
zM 40 12,
zP 41 (.iaddrS 7) [.t 39, .t 40],
zF 42 41 0,
zL 43 42,
zP 44 .mn [.t 43, .c (.int .i64 400)],
zP 45 .mx [.t 38, .t 44],
zM 11 45]))
(.ops [zM 36 12,
zP 37 (.bin .add) [.t 36, .c (.int .i64 1)],
zM 12 37])))
def C5 : AFunc := ⟨105, [.tmp 6],
(.seq (.ops [⟨some 3, none, .a .box, [.t 0]⟩,
zP 6 .mov [.c (.bool false)]])
(.seq (.ops [zM 16 1,
zM 17 1,
zP 18 .lenS [.t 17],
zP 19 .mn [.t 18, .c (.int .i64 200)],
zP 20 (.slice 7 false true false) [.t 16, .t 19],
zM 1 20])
(.seq (.ops [⟨some 22, none, .r (.loadN 2), [.t 3]⟩,
zM 23 1,
⟨some 24, none, .call, [.c (.func (.func 18) [] []), .t 22, .t 23, .c (.int .i64 400)]⟩,
zM 21 24,
zP 25 (.ext 0) [.t 21],
zP 26 (.ext 1) [.t 21],
zP 27 (.ext 2) [.t 21],
zM 7 25,
zM 8 26,
zM 9 27])
(.seq (.ops [zM 28 2,
zM 29 1,
zP 30 .lenS [.t 29],
zP 31 (.bin .add) [.t 30, .c (.int .i64 1)],
⟨some 32, none, .call, [.c (.func (.func 22) [] []), .t 28, .t 31]⟩,
zM 10 32])
(.seq (.ops [zP 11 .mov [.c (.int .i64 0)]])
(.seq (.seq (.ops [zP 12 .mov [.c (.int .i64 0)]])
(.block 0 (.loop L_escapementlaw26_JudgeAhead_0)))
(.seq (.dops [⟨some 47, none, .r (.loadN 2), [.t 3]⟩,
zM 48 1,
zM 49 10,
zP 50 (.slice 7 false true false) [.t 48, .t 49],
zM 51 11,
⟨some 52, none, .call, [.c (.func (.func 18) [] []), .t 47, .t 50, .t 51]⟩,
zM 46 52,
zP 53 (.ext 0) [.t 46],
zP 54 (.ext 1) [.t 46],
zP 55 (.ext 2) [.t 46],
zM 13 53,
zM 14 54,
zM 15 55] [[], [], [], [], [], [], [], [], [], [], [], [], []])
(.seq (.seq (.ops [zM 56 9,
zP 57 (.bin .neq) [.t 56, .c (.int .i64 0)],
zM 58 57,
zMg 59 15 58 false,
zPg 60 (.bin .neq) [.t 59, .c (.int .i64 0)] 58 false,
zP 61 .pick [.t 58, .c (.bool true), .t 60]])
(.cond (.t 61)
(.seq (.ops [zM 62 9,
zM 63 15,
zP 64 (.bin .eql) [.t 62, .t 63],
zM 65 64,
⟨some 66, some (65, true), .call, [.c (.func (.func 21) [] [])]⟩,
zP 67 .pick [.t 65, .t 66, .c (.bool false)],
zM 6 67])
.ret)
.skip))
(.seq (.seq (.ops [zM 68 7,
zP 69 (.bin .gtr) [.t 68, .c (.int .i64 1)],
zM 70 69,
zMg 71 8 70 true,
zMg 72 10 70 true,
zPg 73 (.bin .lss) [.t 71, .t 72] 70 true,
zP 74 .pick [.t 70, .t 73, .c (.bool false)]])
(.cond (.t 74)
(.seq (.ops [zM 75 13,
zM 76 7,
zP 77 (.bin .eql) [.t 75, .t 76],
zM 78 77,
zMg 79 14 78 true,
zMg 80 8 78 true,
zPg 81 (.bin .eql) [.t 79, .t 80] 78 true,
zP 82 .pick [.t 78, .t 81, .c (.bool false)],
zM 83 82,
⟨some 84, some (83, true), .call, [.c (.func (.func 21) [] [])]⟩,
zP 85 .pick [.t 83, .t 84, .c (.bool false)],
zM 6 85])
.ret)
.skip))
(.seq (.ops [zM 86 7,
zP 87 (.bin .eql) [.t 86, .c (.int .i64 1)],
zM 88 87,
zMg 89 8 88 true,
zMg 90 10 88 true,
zPg 91 (.bin .lss) [.t 89, .t 90] 88 true,
zP 92 .pick [.t 88, .t 91, .c (.bool false)],
zM 93 92,
zMg 94 13 93 false,
zPg 95 (.bin .eql) [.t 94, .c (.int .i64 0)] 93 false,
zP 96 .pick [.t 93, .c (.bool true), .t 95],
zM 97 96,
zMg 98 14 97 false,
zMg 99 10 97 false,
zPg 100 (.bin .geq) [.t 98, .t 99] 97 false,
zP 101 .pick [.t 97, .c (.bool true), .t 100],
zM 102 101,
⟨some 103, some (102, true), .call, [.c (.func (.func 21) [] [])]⟩,
zP 104 .pick [.t 102, .t 103, .c (.bool false)],
zM 6 104])
.ret))))))))))⟩
abbrev f_escapementlaw26_JudgeAhead : Nat := 5
abbrev C_escapementlaw26_JudgeAhead : AFunc := C5
def C18 : AFunc := ⟨39, [.tmp 6, .tmp 7, .tmp 8],
(.seq (.ops [⟨some 3, none, .a .box, [.t 0]⟩,
zP 6 .mov [.c (.int .i64 0)],
zP 7 .mov [.c (.int .i64 0)],
zP 8 .mov [.c (.int .i64 0)]])
(.seq (.seq (.ops [⟨some 11, none, .r (.loadN 2), [.t 3]⟩,
⟨some 12, none, .call, [.c (.func (.func 41) [] []), .t 11]⟩,
zM 9 12])
(.seq (.ops [zM 13 9,
zP 14 (.bin .neq) [.t 13, .c (.int .i64 0)]])
(.cond (.t 14)
(.seq (.ops [zM 15 9,
zP 6 .mov [.c (.int .i64 0)],
zP 7 .mov [.c (.int .i64 0)],
zM 8 15])
.ret)
.skip)))
(.seq (.seq (.ops [zM 16 2,
zP 17 (.bin .lss) [.t 16, .c (.int .i64 0)],
zM 18 17,
zMg 19 2 18 false,
zPg 20 (.bin .gtr) [.t 19, .c (.int .i64 10000)] 18 false,
zP 21 .pick [.t 18, .c (.bool true), .t 20]])
(.cond (.t 21)
(.seq (.ops [zP 6 .mov [.c (.int .i64 0)],
zP 7 .mov [.c (.int .i64 0)],
zP 8 .mov [.c (.int .i64 5)]])
.ret)
.skip))
(.seq (.ops [zF 22 3 0,
zL 23 22,
⟨some 24, none, .call, [.c (.func (.func 42) [] []), .t 23]⟩,
zP 25 (.build [.nils, .nils] [(0, 1)]) [.t 24],
zM 26 2,
zP 27 (.build [.nils, .nils, (.bool false), (.int .i64 0), (.int .i64 0), (.int .i64 0), (.int .i64 0), (.bool false), (.int .i64 0), (.int .i64 0), (.int .i64 0), (.bool false), (.int .i64 0), (.int .i64 0), (.int .i64 0), (.bool false), (.int .i64 0), (.int .i64 0), (.int .i64 0), (.bool false), (.int .i64 0), (.int .i64 0), (.int .i64 0), (.bool false), (.int .i64 0), (.bool false), (.int .i64 0), (.int .i64 0), (.int .i64 0), (.int .i64 0), (.bool false), (.int .i64 0), (.int .i64 0), (.int .i64 0), (.bool false), (.int .i64 0), (.int .i64 0), (.int .i64 0), (.bool false), (.int .i64 0), (.int .i64 0), (.int .i64 0), (.bool false), (.int .i64 0), (.int .i64 0), (.int .i64 0), (.bool false), (.int .i64 0), (.bool false), (.int .i64 0), (.int .i64 0), (.int .i64 0), (.int .i64 0), (.bool false), (.int .i64 0), (.int .i64 0), (.int .i64 0), (.bool false), (.int .i64 0), (.int .i64 0), (.int .i64 0), (.bool false), (.int .i64 0), (.int .i64 0), (.int .i64 0), (.bool false), (.int .i64 0), (.int .i64 0), (.int .i64 0), (.bool false), (.int .i64 0), (.bool false), (.int .i64 0), (.int .i64 0), (.int .i64 0), (.int .i64 0), (.bool false), (.int .i64 0), (.int .i64 0), (.int .i64 0), (.bool false), (.int .i64 0), (.int .i64 0), (.int .i64 0), (.bool false), (.int .i64 0), (.int .i64 0), (.int .i64 0), (.bool false), (.int .i64 0), (.int .i64 0), (.int .i64 0), (.bool false), (.int .i64 0), (.int .i64 0), (.int .i64 0), (.bool false), (.bool false), (.int .i64 0)] [(0, 2), (94, 1)]) [.t 25, .t 26],
⟨some 28, none, .a .box, [.t 27]⟩,
zM 10 28])
(.seq (.seq (.ops [zM 29 10,
zM 30 1,
⟨some 31, none, .call, [.c (.func (.func 43) [] []), .t 29, .t 30]⟩,
zM 6 31])
(.seq (.ops [zM 32 6,
zP 33 (.bin .eql) [.t 32, .c (.int .i64 0)]])
(.cond (.t 33)
(.seq (.ops [zP 6 .mov [.c (.int .i64 0)],
zP 7 .mov [.c (.int .i64 0)],
zP 8 .mov [.c (.int .i64 0)]])
.ret)
.skip)))
(.seq (.dops [zM 34 6,
zM 35 10,
zN 36 35,
zF 37 36 98,
zL 38 37,
zM 6 34,
zM 7 38,
zP 8 .mov [.c (.int .i64 0)]] [[], [], [], [], [], [], [], []])
.ret))))))⟩
abbrev f_judge_Find : Nat := 18
abbrev C_judge_Find : AFunc := C18
def C21 : AFunc := ⟨46, [.tmp 0],
(.seq (.ops [zP 0 .mov [.c (.bool false)]])
(.seq (.ops [zP 5 (.build [(.int .i64 0), (.int .i64 0), (.int .i64 0), (.int .i64 0), (.int .i64 0), (.int .i64 0), (.str [])] [(0, 1), (1, 1)]) [.c (.int .i64 1), .c (.int .i64 6)],
⟨some 1, none, .a (.alloc [(.int .i64 0), (.int .i64 0), (.int .i64 0), (.int .i64 0), (.int .i64 0), (.int .i64 0), (.str [])]), []⟩,
zS 7 [.t 1, .t 5]])
(.seq (.ops [zP 6 (.build [(.int .i64 0), (.int .i64 0), (.int .i64 0), (.int .i64 0), (.int .i64 0), (.int .i64 0), (.str [])] [(0, 1), (1, 1), (3, 1)]) [.c (.int .i64 1), .c (.int .i64 1), .c (.int .i64 (-1))],
zP 7 (.build [(.int .i64 0), (.int .i64 0), (.int .i64 0), (.int .i64 0), (.int .i64 0), (.int .i64 0), (.str [])] [(0, 1), (1, 1), (3, 1)]) [.c (.int .i64 2), .c (.int .i64 1), .c (.int .i64 (-1))],
⟨some 2, none, .a (.alloc [(.int .i64 0), (.int .i64 0), (.int .i64 0), (.int .i64 0), (.int .i64 0), (.int .i64 0), (.str [])]), []⟩,
⟨some 3, none, .a (.alloc [(.int .i64 0), (.int .i64 0), (.int .i64 0), (.int .i64 0), (.int .i64 0), (.int .i64 0), (.str [])]), []⟩,
zS 7 [.t 2, .t 6],
zS 7 [.t 3, .t 7]])
(.seq (.ops [⟨some 8, none, .call, [.c (.func (.func 49) [] []), .c (.int .i64 5), .c (.int .i64 0), .c (.int .i64 0), .c .nils]⟩,
zM 9 8,
⟨some 10, some (9, true), .r (.loadN 7), [.t 1]⟩,
⟨some 11, some (9, true), .r (.loadN 7), [.t 2]⟩,
⟨some 12, some (9, true), .r (.loadN 7), [.t 3]⟩,
⟨some 13, some (9, true), .a (.bslice [(.int .i64 0), (.int .i64 0), (.int .i64 0), (.int .i64 0), (.int .i64 0), (.int .i64 0), (.str [])] 3 7 [0, 1, 2]), [.t 10, .t 11, .t 12]⟩,
⟨some 14, some (9, true), .call, [.c (.func (.func 49) [] []), .c (.int .i64 5), .c (.int .i64 0), .c (.int .i64 0), .t 13]⟩,
zP 15 .pick [.t 9, .t 14, .c (.bool false)],
zM 16 15,
⟨some 17, some (16, true), .r (.loadN 7), [.t 1]⟩,
⟨some 18, some (16, true), .r (.loadN 7), [.t 2]⟩,
⟨some 19, some (16, true), .r (.loadN 7), [.t 3]⟩,
⟨some 20, some (16, true), .a (.bslice [(.int .i64 0), (.int .i64 0), (.int .i64 0), (.int .i64 0), (.int .i64 0), (.int .i64 0), (.str [])] 3 7 [0, 1, 2]), [.t 17, .t 18, .t 19]⟩,
⟨some 21, some (16, true), .call, [.c (.func (.func 49) [] []), .c (.int .i64 3), .c (.int .i64 0), .c (.int .i64 0), .t 20]⟩,
zP 22 .pick [.t 16, .t 21, .c (.bool false)],
zM 23 22,
⟨some 24, some (23, true), .r (.loadN 7), [.t 1]⟩,
⟨some 25, some (23, true), .r (.loadN 7), [.t 3]⟩,
⟨some 26, some (23, true), .a (.bslice [(.int .i64 0), (.int .i64 0), (.int .i64 0), (.int .i64 0), (.int .i64 0), (.int .i64 0), (.str [])] 2 7 [0, 1]), [.t 24, .t 25]⟩,
⟨some 27, some (23, true), .call, [.c (.func (.func 49) [] []), .c (.int .i64 2), .c (.int .i64 3), .c (.int .i64 1), .t 26]⟩,
zP 28 .pick [.t 23, .t 27, .c (.bool false)],
zM 29 28,
⟨some 30, some (29, true), .r (.loadN 7), [.t 1]⟩,
⟨some 31, some (29, true), .a (.bslice [(.int .i64 0), (.int .i64 0), (.int .i64 0), (.int .i64 0), (.int .i64 0), (.int .i64 0), (.str [])] 1 7 [0]), [.t 30]⟩,
⟨some 32, some (29, true), .call, [.c (.func (.func 49) [] []), .c (.int .i64 2), .c (.int .i64 3), .c (.int .i64 1), .t 31]⟩,
zP 33 .pick [.t 29, .t 32, .c (.bool false)],
zM 4 33])
(.seq (.ops [zM 34 4,
zM 35 34,
zPg 36 (.build [(.int .i64 0), (.int .i64 0), (.int .i64 0), (.int .i64 0), (.int .i64 0), (.int .i64 0), (.str [])] [(1, 1), (3, 1)]) [.c (.int .i64 1), .c (.int .i64 (-1))] 35 true,
⟨some 37, some (35, true), .a (.bslice [(.int .i64 0), (.int .i64 0), (.int .i64 0), (.int .i64 0), (.int .i64 0), (.int .i64 0), (.str [])] 1 7 [0]), [.t 36]⟩,
⟨some 38, some (35, true), .call, [.c (.func (.func 49) [] []), .c (.int .i64 5), .c (.int .i64 2), .c (.int .i64 0), .t 37]⟩,
zP 39 .pick [.t 35, .t 38, .c (.bool false)],
zM 40 39,
⟨some 41, some (40, true), .r (.loadN 7), [.t 1]⟩,
zPg 42 (.build [(.int .i64 0), (.int .i64 0), (.int .i64 0), (.int .i64 0), (.int .i64 0), (.int .i64 0), (.str [])] [(0, 1), (1, 1)]) [.c (.int .i64 1), .c (.int .i64 1)] 40 true,
⟨some 43, some (40, true), .a (.bslice [(.int .i64 0), (.int .i64 0), (.int .i64 0), (.int .i64 0), (.int .i64 0), (.int .i64 0), (.str [])] 2 7 [0, 1]), [.t 41, .t 42]⟩,
⟨some 44, some (40, true), .call, [.c (.func (.func 49) [] []), .c (.int .i64 5), .c (.int .i64 5), .c (.int .i64 1), .t 43]⟩,
zP 45 .pick [.t 40, .t 44, .c (.bool false)],
zM 0 45])
.ret)))))⟩
abbrev f_escapementlaw26_works : Nat := 21
abbrev C_escapementlaw26_works : AFunc := C21
def C22 : AFunc := ⟨14, [.tmp 4],
(.seq (.ops [zP 4 .mov [.c (.int .i64 0)]])
(.seq (.ops [zM 5 0,
zM 6 1,
zP 7 (.bin .rem) [.t 5, .t 6],
zM 0 7])
(.seq (.seq (.ops [zM 8 0,
zP 9 (.bin .lss) [.t 8, .c (.int .i64 0)]])
(.cond (.t 9)
(.ops [zM 10 0,
zM 11 1,
zP 12 (.bin .add) [.t 10, .t 11],
zM 0 12])
.skip))
(.seq (.ops [zM 13 0,
zM 4 13])
.ret))))⟩
abbrev f_escapementref00_Bring : Nat := 22
abbrev C_escapementref00_Bring : AFunc := C22
def C41 : AFunc := ⟨27, [.tmp 2],
(.seq (.ops [⟨some 1, none, .a .box, [.t 0]⟩,
zP 2 .mov [.c (.int .i64 0)]])
(.seq (.ops [zF 4 1 0,
zL 5 4,
⟨some 6, none, .call, [.c (.func (.func 56) [] []), .t 5, .c (.func (.func 57) [] [])]⟩,
zM 7 6,
zFg 8 1 1 7 false,
zLg 9 8 7 false,
zPg 10 (.mkfunc (.func 60) 0) [.t 1] 7 false,
⟨some 11, some (7, false), .call, [.c (.func (.func 59) [] []), .t 9, .t 10]⟩,
zP 12 .pick [.t 7, .c (.bool true), .t 11],
zM 3 12])
(.seq (.seq (.ops [zM 13 3,
zM 14 13,
zFg 15 1 0 14 false,
zLg 16 15 14 false,
zPg 17 .lenS [.t 16] 14 false,
⟨some 18, some (14, false), .call, [.c (.func (.func 62) [] []), .t 17, .c (.int .i64 1), .c (.int .i64 4)]⟩,
zPg 19 .not [.t 18] 14 false,
zP 20 .pick [.t 14, .c (.bool true), .t 19],
zM 21 20,
zFg 22 1 1 21 false,
zLg 23 22 21 false,
zPg 24 .lenS [.t 23] 21 false,
zPg 25 (.bin .gtr) [.t 24, .c (.int .i64 8)] 21 false,
zP 26 .pick [.t 21, .c (.bool true), .t 25]])
(.cond (.t 26)
(.seq (.ops [zP 2 .mov [.c (.int .i64 50)]])
.ret)
.skip))
(.seq (.ops [zP 2 .mov [.c (.int .i64 0)]])
.ret))))⟩
abbrev f_conf_Check : Nat := 41
abbrev C_conf_Check : AFunc := C41
def C42 : AFunc := ⟨8, [.tmp 2],
(.seq (.ops [zP 2 .mov [.c .nils]])
(.seq (.seq (.ops [zM 3 0,
zP 4 (.eq .nilsl) [.t 3, .c .nils]])
(.cond (.t 4)
(.seq (.ops [zP 2 .mov [.c .nils]])
.ret)
.skip))
(.seq (.ops [⟨some 5, none, .a (.bslice [(.int .i64 0), (.int .i64 0), .nils] 0 3 []), []⟩,
zM 6 0,
⟨some 7, none, .e (.append 3 40), [.t 5, .t 6]⟩,
zM 2 7])
.ret)))⟩
abbrev f_slices_Clone_api_Part_api_Part : Nat := 42
abbrev C_slices_Clone_api_Part_api_Part : AFunc := C42
def L_judge_look_find_0 : AC := (.seq (.ops [zP 11 (.bin .lss) [.t 10, .t 9]])
(.seq (.cond (.t 11)
.skip
(.exit 0))
(.seq (.block 1 (.seq (.ops [zM 12 10,
zP 13 (.iaddrS 7) [.t 8, .t 10],
⟨some 14, none, .r (.loadN 7), [.t 13]⟩,
⟨some 6, none, .a (.alloc [(.int .i64 0), (.int .i64 0), (.int .i64 0), (.int .i64 0), (.int .i64 0), (.int .i64 0), (.str [])]), []⟩,
zM 5 12,
zS 7 [.t 6, .t 14]])
(.seq (.ops [zM 15 0,
zM 16 5,
zN 17 15,
zF 18 17 98,
zS 1 [.t 18, .t 16]])
(.ops [zM 19 0,
⟨some 20, none, .r (.loadN 7), [.t 6]⟩,
⟨some 21, none, .call, [.c (.func (.func 64) [] []), .t 19, .t 20]⟩]))))
(.ops [zP 22 (.bin .add) [.t 10, .c (.int .i64 1)],
zM 10 22]))))
def C43 : AFunc := ⟨34, [.cell 4 1 false],
(.seq (.ops [⟨some 4, none, .a (.alloc [(.int .i64 0)]), []⟩])
(.seq (.ops [zP 7 (.mkfunc (.func 63) 0) [.t 4],
⟨none, none, .bad, [.c (.bool true), .t 7, .t 7, .t 7]⟩])
(.seq (.seq (.ops [zM 8 1,
zP 9 .lenS [.t 8],
zP 10 .mov [.c (.int .i64 0)]])
(.block 0 (.loop L_judge_look_find_0)))
(.seq (.ops [zM 23 0,
zM 24 1,
zP 25 .lenS [.t 24],
zN 26 23,
zF 27 26 98,
zS 1 [.t 27, .t 25]])
(.seq (.ops [zM 28 0,
zM 29 0,
zN 30 29,
zF 31 30 94,
zL 32 31,
⟨some 33, none, .call, [.c (.func (.func 65) [] []), .t 28, .t 32]⟩])
(.seq (.ops [zS 1 [.t 4, .c (.int .i64 0)]])
.ret))))))⟩
abbrev f_judge_look_find : Nat := 43
abbrev C_judge_look_find : AFunc := C43
def C49 : AFunc := ⟨32, [.tmp 8],
(.seq (.ops [zP 8 .mov [.c (.bool false)]])
(.seq (.ops [⟨some 13, none, .call, [.c (.func (.func 75) [] [])]⟩,
zM 14 3,
zM 15 0,
⟨some 16, none, .call, [.c (.func (.func 18) [] []), .t 13, .t 14, .t 15]⟩,
zM 12 16,
zP 17 (.ext 0) [.t 12],
zP 18 (.ext 1) [.t 12],
zP 19 (.ext 2) [.t 12],
zM 9 17,
zM 10 18,
zM 11 19])
(.seq (.ops [zM 20 9,
zM 21 1,
zP 22 (.bin .eql) [.t 20, .t 21],
zM 23 22,
zMg 24 10 23 true,
zMg 25 2 23 true,
zPg 26 (.bin .eql) [.t 24, .t 25] 23 true,
zP 27 .pick [.t 23, .t 26, .c (.bool false)],
zM 28 27,
zMg 29 11 28 true,
zPg 30 (.bin .eql) [.t 29, .c (.int .i64 0)] 28 true,
zP 31 .pick [.t 28, .t 30, .c (.bool false)],
zM 8 31])
.ret)))⟩
abbrev f_escapementlaw26_finds : Nat := 49
abbrev C_escapementlaw26_finds : AFunc := C49
def C56 : AFunc := ⟨9, [.tmp 4],
(.seq (.ops [zP 4 .mov [.c (.bool false)]])
(.seq (.ops [zM 5 0,
zM 6 1,
⟨some 7, none, .call, [.c (.func (.func 79) [] []), .t 5, .t 6]⟩,
zP 8 (.bin .geq) [.t 7, .c (.int .i64 0)],
zM 4 8])
.ret))⟩
abbrev f_slices_ContainsFunc_api_Part_api_Part : Nat := 56
abbrev C_slices_ContainsFunc_api_Part_api_Part : AFunc := C56
def C57 : AFunc := ⟨6, [.tmp 2],
(.seq (.ops [⟨some 1, none, .a .box, [.t 0]⟩,
zP 2 .mov [.c (.bool false)]])
(.seq (.ops [⟨some 3, none, .r (.loadN 3), [.t 1]⟩,
⟨some 4, none, .call, [.c (.func (.func 58) [] []), .t 3]⟩,
zP 5 .not [.t 4],
zM 2 5])
.ret))⟩
abbrev f_conf_Check_1 : Nat := 57
abbrev C_conf_Check_1 : AFunc := C57
def C58 : AFunc := ⟨26, [.tmp 2],
(.seq (.ops [⟨some 1, none, .a .box, [.t 0]⟩,
zP 2 .mov [.c (.bool false)]])
(.seq (.seq (.ops [zF 3 1 0,
zL 4 3,
⟨some 5, none, .call, [.c (.func (.func 62) [] []), .t 4, .c (.int .i64 1), .c (.int .i64 64)]⟩,
zP 6 .not [.t 5],
zM 7 6,
zFg 8 1 1 7 false,
zLg 9 8 7 false,
zFg 10 1 0 7 false,
zLg 11 10 7 false,
⟨some 12, some (7, false), .call, [.c (.func (.func 62) [] []), .t 9, .c (.int .i64 1), .t 11]⟩,
zPg 13 .not [.t 12] 7 false,
zP 14 .pick [.t 7, .c (.bool true), .t 13],
zM 15 14,
zFg 16 1 2 15 false,
zLg 17 16 15 false,
zPg 18 .lenS [.t 17] 15 false,
zPg 19 (.bin .gtr) [.t 18, .c (.int .i64 4)] 15 false,
zP 20 .pick [.t 15, .c (.bool true), .t 19]])
(.cond (.t 20)
(.seq (.ops [zP 2 .mov [.c (.bool false)]])
.ret)
.skip))
(.seq (.ops [zF 21 1 2,
zL 22 21,
zP 23 (.mkfunc (.func 81) 0) [.t 1],
⟨some 24, none, .call, [.c (.func (.func 80) [] []), .t 22, .t 23]⟩,
zP 25 .not [.t 24],
zM 2 25])
.ret)))⟩
abbrev f_conf_partMay : Nat := 58
abbrev C_conf_partMay : AFunc := C58
def C59 : AFunc := ⟨9, [.tmp 4],
(.seq (.ops [zP 4 .mov [.c (.bool false)]])
(.seq (.ops [zM 5 0,
zM 6 1,
⟨some 7, none, .call, [.c (.func (.func 83) [] []), .t 5, .t 6]⟩,
zP 8 (.bin .geq) [.t 7, .c (.int .i64 0)],
zM 4 8])
.ret))⟩
abbrev f_slices_ContainsFunc_api_Port_api_Port : Nat := 59
abbrev C_slices_ContainsFunc_api_Port_api_Port : AFunc := C59
def C60 : AFunc := ⟨10, [.tmp 3],
(.seq (.ops [⟨some 2, none, .a .box, [.t 0]⟩,
zP 3 .mov [.c (.bool false)]])
(.seq (.ops [⟨some 4, none, .r (.loadN 6), [.t 2]⟩,
zF 5 1 0,
zL 6 5,
zP 7 .lenS [.t 6],
⟨some 8, none, .call, [.c (.func (.func 61) [] []), .t 4, .t 7]⟩,
zP 9 .not [.t 8],
zM 3 9])
.ret))⟩
abbrev f_conf_Check_2 : Nat := 60
abbrev C_conf_Check_2 : AFunc := C60
def C61 : AFunc := ⟨55, [.tmp 4],
(.seq (.ops [⟨some 2, none, .a .box, [.t 0]⟩,
zP 4 .mov [.c (.bool false)]])
(.seq (.ops [zP 5 .mov [.c (.bool false)]])
(.seq (.seq (.ops [zF 6 2 0,
zL 7 6])
(.block 0 (.seq (.ops [zP 9 (.bin .eql) [.t 7, .c (.int .i64 1)],
zM 8 9])
(.cond (.t 8)
(.ops [zF 10 2 4,
zL 11 10,
zP 12 (.bin .eql) [.t 11, .c (.int .i64 0)],
zM 13 12,
zFg 14 2 5 13 true,
zLg 15 14 13 true,
⟨some 16, some (13, true), .call, [.c (.func (.func 62) [] []), .t 15, .c (.int .i64 1), .c (.int .i64 64)]⟩,
zP 17 .pick [.t 13, .t 16, .c (.bool false)],
zM 5 17])
(.seq (.ops [zP 19 (.bin .eql) [.t 7, .c (.int .i64 2)],
zM 18 19])
(.cond (.t 18)
(.ops [zF 20 2 5,
zL 21 20,
zP 22 (.bin .eql) [.t 21, .c (.int .i64 0)],
zM 23 22,
zFg 24 2 4 23 true,
zLg 25 24 23 true,
⟨some 26, some (23, true), .call, [.c (.func (.func 62) [] []), .t 25, .c (.int .i64 1), .c (.int .i64 4)]⟩,
zP 27 .pick [.t 23, .t 26, .c (.bool false)],
zM 5 27])
.skip))))))
(.seq (.ops [zM 28 5,
zM 29 28,
zFg 30 2 1 29 true,
zLg 31 30 29 true,
zMg 32 1 29 true,
zPg 33 (.bin .sub) [.t 32, .c (.int .i64 1)] 29 true,
⟨some 34, some (29, true), .call, [.c (.func (.func 62) [] []), .t 31, .c (.int .i64 0), .t 33]⟩,
zP 35 .pick [.t 29, .t 34, .c (.bool false)],
zM 36 35,
zFg 37 2 2 36 true,
zLg 38 37 36 true,
zMg 39 1 36 true,
zPg 40 (.bin .sub) [.t 39, .c (.int .i64 1)] 36 true,
⟨some 41, some (36, true), .call, [.c (.func (.func 62) [] []), .t 38, .c (.int .i64 0), .t 40]⟩,
zP 42 .pick [.t 36, .t 41, .c (.bool false)],
zM 43 42,
zFg 44 2 1 43 true,
zLg 45 44 43 true,
zFg 46 2 2 43 true,
zLg 47 46 43 true,
zPg 48 (.bin .neq) [.t 45, .t 47] 43 true,
zP 49 .pick [.t 43, .t 48, .c (.bool false)],
zM 50 49,
zFg 51 2 3 50 true,
zLg 52 51 50 true,
⟨some 53, some (50, true), .call, [.c (.func (.func 62) [] []), .t 52, .c (.int .i64 1), .c (.int .i64 16)]⟩,
zP 54 .pick [.t 50, .t 53, .c (.bool false)],
zM 4 54])
.ret))))⟩
abbrev f_conf_portMay : Nat := 61
abbrev C_conf_portMay : AFunc := C61
def C62 : AFunc := ⟨15, [.tmp 6],
(.seq (.ops [zP 6 .mov [.c (.bool false)]])
(.seq (.ops [zM 7 1,
zM 8 0,
zP 9 (.bin .leq) [.t 7, .t 8],
zM 10 9,
zMg 11 0 10 true,
zMg 12 2 10 true,
zPg 13 (.bin .leq) [.t 11, .t 12] 10 true,
zP 14 .pick [.t 10, .t 13, .c (.bool false)],
zM 6 14])
.ret))⟩
abbrev f_conf_within : Nat := 62
abbrev C_conf_within : AFunc := C62
def C63 : AFunc := ⟨7, [],
(.seq (.ops [⟨some 2, none, .bad, [.c (.bool false), .c (.bool false), .c (.bool false), .c (.bool false)]⟩,
zM 1 2])
(.seq (.ops [zM 3 1,
zP 4 (.neq .iface) [.t 3, .c .nili]])
(.cond (.t 4)
(.ops [zM 5 1,
zP 6 (.tassert 115 false (.int .i64 0)) [.t 5],
zS 1 [.t 0, .t 6]])
.skip)))⟩
abbrev f_judge_look_find_1 : Nat := 63
abbrev C_judge_look_find_1 : AFunc := C63
def C64 : AFunc := ⟨113, [],
(.seq (.ops [⟨some 3, none, .a .box, [.t 1]⟩])
(.seq (.ops [zM 5 0,
⟨some 6, none, .r (.loadN 7), [.t 3]⟩,
⟨some 7, none, .call, [.c (.func (.func 85) [] []), .t 5, .t 6]⟩,
⟨some 8, none, .call, [.c (.func (.func 84) [] []), .t 7, .c (.int .i64 1)]⟩])
(.seq (.ops [zM 9 0,
zF 10 3 0,
zL 11 10,
⟨some 12, none, .call, [.c (.func (.func 65) [] []), .t 9, .t 11]⟩])
(.seq (.dops [zM 13 0,
zF 14 3 2,
zL 15 14,
zN 16 13,
zF 17 16 2,
zP 18 (.iaddrA 23 4) [.t 17, .t 15],
zM 4 18] [[], [], [], [], [], [], []])
(.seq (.dops [zM 19 4,
zN 20 19,
zF 21 20 0,
zL 22 21,
zF 23 3 1,
zL 24 23,
zP 25 (.bin .eql) [.t 24, .c (.int .i64 6)],
zP 26 (.neq .bool) [.t 22, .t 25],
⟨some 27, none, .call, [.c (.func (.func 84) [] []), .t 26, .c (.int .i64 2)]⟩] [[], [], [], [], [], [], [], [], []])
(.seq (.dops [zF 28 3 1,
zL 29 28,
zP 30 (.bin .neq) [.t 29, .c (.int .i64 1)],
zM 31 30,
zMg 32 0 31 false,
zNg 33 32 31 false,
zFg 34 33 96 31 false,
zLg 35 34 31 false,
zPg 36 .not [.t 35] 31 false,
zMg 37 36 31 false,
zMg 38 0 37 true,
⟨some 39, some (37, true), .call, [.c (.func (.func 86) [] []), .t 38]⟩,
zFg 40 3 2 37 true,
zLg 41 40 37 true,
zPg 42 (.bin .eql) [.t 39, .t 41] 37 true,
zPg 43 .pick [.t 37, .t 42, .c (.bool false)] 31 false,
zP 44 .pick [.t 31, .c (.bool true), .t 43],
⟨some 45, none, .call, [.c (.func (.func 84) [] []), .t 44, .c (.int .i64 3)]⟩] [[], [], [], [], [], [], [], [], [], [], [], [], [], [0, 12], [], [], [], []])
(.seq (.ops [zM 46 4,
⟨some 47, none, .r (.loadN 7), [.t 3]⟩,
⟨some 48, none, .call, [.c (.func (.func 87) [] []), .t 46, .t 47]⟩,
⟨some 49, none, .call, [.c (.func (.func 84) [] []), .t 48, .c (.int .i64 5)]⟩])
(.seq (.seq (.ops [⟨some 50, none, .r (.loadN 7), [.t 3]⟩,
⟨some 51, none, .call, [.c (.func (.func 88) [] []), .t 50]⟩])
(.cond (.t 51)
(.seq (.ops [zM 52 0,
zM 53 4,
⟨some 54, none, .r (.loadN 7), [.t 3]⟩,
⟨some 55, none, .call, [.c (.func (.func 89) [] []), .t 52, .t 53, .t 54]⟩])
.ret)
.skip))
(.seq (.seq (.ops [zF 56 3 3,
zL 57 56,
zP 58 (.bin .neq) [.t 57, .c (.int .i64 (-1))]])
(.cond (.t 58)
(.dops [zM 59 4,
⟨some 60, none, .r (.loadN 7), [.t 3]⟩,
zM 61 0,
zN 62 61,
zF 63 62 0,
zF 64 63 0,
zL 65 64,
zF 66 3 2,
zL 67 66,
zP 68 (.iaddrS 3) [.t 65, .t 67],
zF 69 68 2,
zL 70 69,
zF 71 3 3,
zL 72 71,
zP 73 (.iaddrS 8) [.t 70, .t 72],
⟨some 74, none, .r (.loadN 8), [.t 73]⟩,
⟨some 75, none, .call, [.c (.func (.func 90) [] []), .t 59, .t 60, .t 74]⟩] [[], [], [], [], [], [], [], [], [], [], [], [], [], [], [], [], []])
.skip))
(.seq (.ops [zM 76 0,
⟨some 77, none, .r (.loadN 7), [.t 3]⟩,
⟨some 78, none, .call, [.c (.func (.func 91) [] []), .t 76, .t 77]⟩,
⟨some 79, none, .call, [.c (.func (.func 84) [] []), .t 78, .c (.int .i64 8)]⟩])
(.seq (.seq (.ops [zF 80 3 1,
zL 81 80,
zP 82 (.bin .eql) [.t 81, .c (.int .i64 1)]])
(.cond (.t 82)
(.seq (.ops [zM 83 0,
zN 84 83,
zF 85 84 96,
zS 1 [.t 85, .c (.bool true)]])
(.ops [zM 86 4,
zN 87 86,
zF 88 87 4,
zL 89 88,
zP 90 (.bin .add) [.t 89, .c (.int .i64 1)],
zN 91 86,
zF 92 91 4,
zS 1 [.t 92, .t 90]]))
.skip))
(.seq (.ops [zF 93 3 3,
zL 94 93,
zP 95 (.bin .neq) [.t 94, .c (.int .i64 (-1))]])
(.cond (.t 95)
(.dops [zM 96 4,
⟨some 97, none, .r (.loadN 7), [.t 3]⟩,
zM 98 0,
zN 99 98,
zF 100 99 0,
zF 101 100 0,
zL 102 101,
zF 103 3 2,
zL 104 103,
zP 105 (.iaddrS 3) [.t 102, .t 104],
zF 106 105 2,
zL 107 106,
zF 108 3 3,
zL 109 108,
zP 110 (.iaddrS 8) [.t 107, .t 109],
⟨some 111, none, .r (.loadN 8), [.t 110]⟩,
⟨some 112, none, .call, [.c (.func (.func 92) [] []), .t 96, .t 97, .t 111]⟩] [[], [], [], [], [], [], [], [], [], [], [], [], [], [], [], [], []])
.skip)))))))))))))⟩
abbrev f_judge_look_note : Nat := 64
abbrev C_judge_look_note : AFunc := C64
def L_judge_look_to_0 : AC := (.seq (.seq (.ops [zM 4 0,
zN 5 4,
zF 6 5 95,
zL 7 6,
zM 8 1,
zP 9 (.bin .lss) [.t 7, .t 8]])
(.cond (.t 9)
.skip
(.exit 0)))
(.block 1 (.ops [zM 10 0,
⟨some 11, none, .call, [.c (.func (.func 93) [] []), .t 10]⟩])))
def C65 : AFunc := ⟨12, [],
(.block 0 (.loop L_judge_look_to_0))⟩
abbrev f_judge_look_to : Nat := 65
abbrev C_judge_look_to : AFunc := C65
def C75 : AFunc := ⟨6, [.cell 0 2 true],
(.seq (.ops [⟨some 0, none, .a (.alloc [.nils, .nils]), []⟩])
(.seq (.ops [zP 1 (.build [(.int .i64 0), (.int .i64 0), (.int .i64 0), (.int .i64 0), (.int .i64 0), (.int .i64 0), (.int .i64 0), (.int .i64 0)] [(0, 1), (1, 1), (2, 1)]) [.c (.int .i64 8), .c (.int .i64 8), .c (.int .i64 2)],
⟨some 2, none, .a (.bslice [(.int .i64 0), (.int .i64 0), (.int .i64 0), (.int .i64 0), (.int .i64 0), (.int .i64 0), (.int .i64 0), (.int .i64 0)] 1 8 [0]), [.t 1]⟩,
zP 3 (.build [(.int .i64 0), (.int .i64 0), .nils] [(0, 1), (1, 1), (2, 1)]) [.c (.int .i64 4), .c (.int .i64 2), .t 2],
⟨some 4, none, .a (.bslice [(.int .i64 0), (.int .i64 0), .nils] 1 3 [0]), [.t 3]⟩,
zP 5 (.build [.nils, .nils] [(0, 1)]) [.t 4],
zS 2 [.t 0, .t 5]])
.ret))⟩
abbrev f_escapementlaw26_chapter : Nat := 75
abbrev C_escapementlaw26_chapter : AFunc := C75
def L_slices_IndexFunc_api_Part_api_Part_0 : AC := (.seq (.ops [zP 9 (.bin .lss) [.t 8, .t 7]])
(.seq (.cond (.t 9)
.skip
(.exit 0))
(.seq (.block 1 (.seq (.ops [zM 10 8,
zM 5 10])
(.seq (.ops [zM 11 1,
zM 12 0,
zM 13 5,
zP 14 (.iaddrS 3) [.t 12, .t 13],
⟨some 15, none, .r (.loadN 3), [.t 14]⟩,
⟨some 16, none, .call, [.t 11, .t 15]⟩])
(.cond (.t 16)
(.seq (.ops [zM 17 5,
zM 4 17])
.ret)
.skip))))
(.ops [zP 18 (.bin .add) [.t 8, .c (.int .i64 1)],
zM 8 18]))))
def C79 : AFunc := ⟨19, [.tmp 4],
(.seq (.ops [zP 4 .mov [.c (.int .i64 0)]])
(.seq (.seq (.ops [zM 6 0,
zP 7 .lenS [.t 6],
zP 8 .mov [.c (.int .i64 0)]])
(.block 0 (.loop L_slices_IndexFunc_api_Part_api_Part_0)))
(.seq (.ops [zP 4 .mov [.c (.int .i64 (-1))]])
.ret)))⟩
abbrev f_slices_IndexFunc_api_Part_api_Part : Nat := 79
abbrev C_slices_IndexFunc_api_Part_api_Part : AFunc := C79
def C80 : AFunc := ⟨9, [.tmp 4],
(.seq (.ops [zP 4 .mov [.c (.bool false)]])
(.seq (.ops [zM 5 0,
zM 6 1,
⟨some 7, none, .call, [.c (.func (.func 100) [] []), .t 5, .t 6]⟩,
zP 8 (.bin .geq) [.t 7, .c (.int .i64 0)],
zM 4 8])
.ret))⟩
abbrev f_slices_ContainsFunc_api_Task_api_Task : Nat := 80
abbrev C_slices_ContainsFunc_api_Task_api_Task : AFunc := C80
def C81 : AFunc := ⟨9, [.tmp 3],
(.seq (.ops [⟨some 2, none, .a .box, [.t 0]⟩,
zP 3 .mov [.c (.bool false)]])
(.seq (.ops [⟨some 4, none, .r (.loadN 8), [.t 2]⟩,
zF 5 1 1,
zL 6 5,
⟨some 7, none, .call, [.c (.func (.func 82) [] []), .t 4, .t 6]⟩,
zP 8 .not [.t 7],
zM 3 8])
.ret))⟩
abbrev f_conf_partMay_1 : Nat := 81
abbrev C_conf_partMay_1 : AFunc := C81
def C82 : AFunc := ⟨86, [.tmp 4],
(.seq (.ops [⟨some 2, none, .a .box, [.t 0]⟩,
zP 4 .mov [.c (.bool false)]])
(.seq (.ops [zF 6 2 0,
zL 7 6,
⟨some 8, none, .call, [.c (.func (.func 62) [] []), .t 7, .c (.int .i64 1), .c (.int .i64 64)]⟩,
zM 9 8,
zFg 10 2 1 9 true,
zLg 11 10 9 true,
zFg 12 2 0 9 true,
zLg 13 12 9 true,
⟨some 14, some (9, true), .call, [.c (.func (.func 62) [] []), .t 11, .c (.int .i64 1), .t 13]⟩,
zP 15 .pick [.t 9, .t 14, .c (.bool false)],
zM 16 15,
zFg 17 2 2 16 true,
zLg 18 17 16 true,
zFg 19 2 1 16 true,
zLg 20 19 16 true,
⟨some 21, some (16, true), .call, [.c (.func (.func 62) [] []), .t 18, .c (.int .i64 1), .t 20]⟩,
zP 22 .pick [.t 16, .t 21, .c (.bool false)],
zM 5 22])
(.seq (.seq (.ops [zM 23 5,
zP 24 .not [.t 23],
zM 25 24,
zFg 26 2 3 25 false,
zLg 27 26 25 false,
⟨some 28, some (25, false), .call, [.c (.func (.func 62) [] []), .t 27, .c (.int .i64 0), .c (.int .i64 255)]⟩,
zPg 29 .not [.t 28] 25 false,
zP 30 .pick [.t 25, .c (.bool true), .t 29],
zM 31 30,
zFg 32 2 5 31 false,
zLg 33 32 31 false,
⟨some 34, some (31, false), .call, [.c (.func (.func 62) [] []), .t 33, .c (.int .i64 0), .c (.int .i64 4)]⟩,
zPg 35 .not [.t 34] 31 false,
zP 36 .pick [.t 31, .c (.bool true), .t 35]])
(.cond (.t 36)
(.seq (.ops [zP 4 .mov [.c (.bool false)]])
.ret)
.skip))
(.seq (.seq (.ops [zF 37 2 3,
zL 38 37,
zP 39 (.bin .eql) [.t 38, .c (.int .i64 0)],
zM 40 39,
zFg 41 2 4 40 true,
zLg 42 41 40 true,
zPg 43 (.bin .neq) [.t 42, .c (.int .i64 0)] 40 true,
zP 44 .pick [.t 40, .t 43, .c (.bool false)],
zM 45 44,
zFg 46 2 3 45 false,
zLg 47 46 45 false,
zPg 48 (.bin .neq) [.t 47, .c (.int .i64 0)] 45 false,
zMg 49 48 45 false,
zFg 50 2 4 49 true,
zLg 51 50 49 true,
zFg 52 2 2 49 true,
zLg 53 52 49 true,
⟨some 54, some (49, true), .call, [.c (.func (.func 62) [] []), .t 51, .c (.int .i64 1), .t 53]⟩,
zPg 55 .not [.t 54] 49 true,
zPg 56 .pick [.t 49, .t 55, .c (.bool false)] 45 false,
zP 57 .pick [.t 45, .c (.bool true), .t 56]])
(.cond (.t 57)
(.seq (.ops [zP 4 .mov [.c (.bool false)]])
.ret)
.skip))
(.seq (.seq (.ops [zF 58 2 5,
zL 59 58,
zP 60 (.bin .eql) [.t 59, .c (.int .i64 0)]])
(.cond (.t 60)
(.seq (.ops [zF 61 2 6,
zL 62 61,
zP 63 (.bin .eql) [.t 62, .c (.int .i64 0)],
zM 64 63,
zFg 65 2 7 64 true,
zLg 66 65 64 true,
zPg 67 (.bin .eql) [.t 66, .c (.int .i64 0)] 64 true,
zP 68 .pick [.t 64, .t 67, .c (.bool false)],
zM 4 68])
.ret)
.skip))
(.seq (.dops [zF 69 2 6,
zL 70 69,
zM 71 1,
zF 72 2 2,
zL 73 72,
zP 74 .mn [.t 71, .t 73],
⟨some 75, none, .call, [.c (.func (.func 62) [] []), .t 70, .c (.int .i64 1), .t 74]⟩,
zM 76 75,
zFg 77 2 7 76 true,
zLg 78 77 76 true,
zFg 79 2 2 76 true,
zLg 80 79 76 true,
zFg 81 2 6 76 true,
zLg 82 81 76 true,
zPg 83 (.bin .quo) [.t 80, .t 82] 76 true,
⟨some 84, some (76, true), .call, [.c (.func (.func 62) [] []), .t 78, .c (.int .i64 1), .t 83]⟩,
zP 85 .pick [.t 76, .t 84, .c (.bool false)],
zM 4 85] [[], [], [], [], [], [], [], [], [], [], [], [], [], [], [], [], [], []])
.ret))))))⟩
abbrev f_conf_taskMay : Nat := 82
abbrev C_conf_taskMay : AFunc := C82
def L_slices_IndexFunc_api_Port_api_Port_0 : AC := (.seq (.ops [zP 9 (.bin .lss) [.t 8, .t 7]])
(.seq (.cond (.t 9)
.skip
(.exit 0))
(.seq (.block 1 (.seq (.ops [zM 10 8,
zM 5 10])
(.seq (.ops [zM 11 1,
zM 12 0,
zM 13 5,
zP 14 (.iaddrS 6) [.t 12, .t 13],
⟨some 15, none, .r (.loadN 6), [.t 14]⟩,
⟨some 16, none, .call, [.t 11, .t 15]⟩])
(.cond (.t 16)
(.seq (.ops [zM 17 5,
zM 4 17])
.ret)
.skip))))
(.ops [zP 18 (.bin .add) [.t 8, .c (.int .i64 1)],
zM 8 18]))))
def C83 : AFunc := ⟨19, [.tmp 4],
(.seq (.ops [zP 4 .mov [.c (.int .i64 0)]])
(.seq (.seq (.ops [zM 6 0,
zP 7 .lenS [.t 6],
zP 8 .mov [.c (.int .i64 0)]])
(.block 0 (.loop L_slices_IndexFunc_api_Port_api_Port_0)))
(.seq (.ops [zP 4 .mov [.c (.int .i64 (-1))]])
.ret)))⟩
abbrev f_slices_IndexFunc_api_Port_api_Port : Nat := 83
abbrev C_slices_IndexFunc_api_Port_api_Port : AFunc := C83
def C84 : AFunc := ⟨8, [],
(.seq (.ops [zM 4 0,
zP 5 .not [.t 4]])
(.cond (.t 5)
(.ops [zM 6 1,
zP 7 (.mkiface 115) [.t 6],
⟨none, none, .panic, [.t 7]⟩])
.skip))⟩
abbrev f_judge_must : Nat := 84
abbrev C_judge_must : AFunc := C84
def C85 : AFunc := ⟨81, [.tmp 4],
(.seq (.ops [⟨some 3, none, .a .box, [.t 1]⟩,
zP 4 .mov [.c (.bool false)]])
(.seq (.seq (.dops [zF 5 3 0,
zL 6 5,
zM 7 0,
zN 8 7,
zF 9 8 95,
zL 10 9,
zP 11 (.bin .lss) [.t 6, .t 10],
zM 12 11,
zFg 13 3 0 12 false,
zLg 14 13 12 false,
zMg 15 0 12 false,
zNg 16 15 12 false,
zFg 17 16 94 12 false,
zLg 18 17 12 false,
zPg 19 (.bin .gtr) [.t 14, .t 18] 12 false,
zP 20 .pick [.t 12, .c (.bool true), .t 19],
zM 21 20,
zFg 22 3 1 21 false,
zLg 23 22 21 false,
zPg 24 (.bin .lss) [.t 23, .c (.int .i64 1)] 21 false,
zP 25 .pick [.t 21, .c (.bool true), .t 24],
zM 26 25,
zFg 27 3 1 26 false,
zLg 28 27 26 false,
zPg 29 (.bin .gtr) [.t 28, .c (.int .i64 8)] 26 false,
zP 30 .pick [.t 26, .c (.bool true), .t 29],
zM 31 30,
zFg 32 3 2 31 false,
zLg 33 32 31 false,
zPg 34 (.bin .lss) [.t 33, .c (.int .i64 0)] 31 false,
zP 35 .pick [.t 31, .c (.bool true), .t 34],
zM 36 35,
zFg 37 3 2 36 false,
zLg 38 37 36 false,
zMg 39 0 36 false,
zNg 40 39 36 false,
zFg 41 40 0 36 false,
zFg 42 41 0 36 false,
zLg 43 42 36 false,
zPg 44 .lenS [.t 43] 36 false,
zPg 45 (.bin .geq) [.t 38, .t 44] 36 false,
zP 46 .pick [.t 36, .c (.bool true), .t 45]] [[], [], [], [], [], [], [], [], [], [], [], [], [], [], [], [], [], [], [], [], [], [], [], [], [], [], [], [], [], [], [], [], [], [], [], [], [], [], [], [], [], []])
(.cond (.t 46)
(.seq (.ops [zP 4 .mov [.c (.bool false)]])
.ret)
.skip))
(.seq (.seq (.ops [⟨some 47, none, .r (.loadN 7), [.t 3]⟩,
⟨some 48, none, .call, [.c (.func (.func 88) [] []), .t 47]⟩])
(.cond (.t 48)
(.seq (.ops [zF 49 3 3,
zL 50 49,
zP 51 (.bin .eql) [.t 50, .c (.int .i64 0)],
zM 4 51])
.ret)
.skip))
(.seq (.dops [zF 52 3 3,
zL 53 52,
zP 54 (.bin .geq) [.t 53, .c (.int .i64 0)],
zM 55 54,
zFg 56 3 3 55 false,
zLg 57 56 55 false,
zPg 58 (.bin .eql) [.t 57, .c (.int .i64 (-1))] 55 false,
zMg 59 58 55 false,
zFg 60 3 1 59 true,
zLg 61 60 59 true,
zPg 62 (.bin .eql) [.t 61, .c (.int .i64 1)] 59 true,
zPg 63 .pick [.t 59, .t 62, .c (.bool false)] 55 false,
zP 64 .pick [.t 55, .c (.bool true), .t 63],
zM 65 64,
zFg 66 3 3 65 true,
zLg 67 66 65 true,
zMg 68 0 65 true,
zNg 69 68 65 true,
zFg 70 69 0 65 true,
zFg 71 70 0 65 true,
zLg 72 71 65 true,
zFg 73 3 2 65 true,
zLg 74 73 65 true,
zPg 75 (.iaddrS 3) [.t 72, .t 74] 65 true,
zFg 76 75 2 65 true,
zLg 77 76 65 true,
zPg 78 .lenS [.t 77] 65 true,
zPg 79 (.bin .lss) [.t 67, .t 78] 65 true,
zP 80 .pick [.t 65, .t 79, .c (.bool false)],
zM 4 80] [[], [], [], [], [], [], [], [], [], [], [], [], [], [], [], [], [], [], [], [], [], [], [], [], [], [], [], [], [], []])
.ret))))⟩
abbrev f_judge_look_shaped : Nat := 85
abbrev C_judge_look_shaped : AFunc := C85
def L_judge_look_could_0 : AC := (.seq (.ops [zP 10 (.bin .lss) [.t 9, .t 8]])
(.seq (.cond (.t 10)
.skip
(.exit 0))
(.seq (.block 1 (.seq (.ops [zM 11 9,
zM 4 11])
(.seq (.ops [zM 12 0,
zM 13 4,
zN 14 12,
zF 15 14 2,
zP 16 (.iaddrA 23 4) [.t 15, .t 13],
zM 5 16])
(.seq (.dops [zM 17 5,
⟨some 18, none, .call, [.c (.func (.func 102) [] []), .t 17]⟩,
zM 19 18,
zMg 20 3 19 true,
zPg 21 (.bin .eql) [.t 20, .c (.int .i64 (-1))] 19 true,
zMg 22 21 19 true,
zMg 23 5 22 false,
zNg 24 23 22 false,
zFg 25 24 3 22 false,
zLg 26 25 22 false,
zMg 27 0 22 false,
zMg 28 3 22 false,
zNg 29 27 22 false,
zFg 30 29 2 22 false,
zPg 31 (.iaddrA 23 4) [.t 30, .t 28] 22 false,
zFg 32 31 3 22 false,
zLg 33 32 22 false,
zPg 34 (.bin .lss) [.t 26, .t 33] 22 false,
zPg 35 .pick [.t 22, .c (.bool true), .t 34] 19 true,
zP 36 .pick [.t 19, .t 35, .c (.bool false)]] [[], [], [], [], [], [], [], [], [], [], [], [], [], [], [], [], [], [], [], []])
(.cond (.t 36)
(.ops [zM 37 4,
zM 3 37])
.skip)))))
(.ops [zP 38 (.bin .add) [.t 9, .c (.int .i64 1)],
zM 9 38]))))
def C86 : AFunc := ⟨40, [.tmp 2],
(.seq (.ops [zP 2 .mov [.c (.int .i64 0)]])
(.seq (.ops [zP 3 .mov [.c (.int .i64 (-1))]])
(.seq (.seq (.ops [zM 6 0,
⟨some 7, none, .call, [.c (.func (.func 101) [] []), .t 6]⟩,
zP 8 .lenS [.t 7],
zP 9 .mov [.c (.int .i64 0)]])
(.block 0 (.loop L_judge_look_could_0)))
(.seq (.ops [zM 39 3,
zM 2 39])
.ret))))⟩
abbrev f_judge_look_could : Nat := 86
abbrev C_judge_look_could : AFunc := C86
def C87 : AFunc := ⟨54, [.tmp 4],
(.seq (.ops [⟨some 3, none, .a .box, [.t 1]⟩,
zP 4 .mov [.c (.bool false)]])
(.seq (.block 0 (.seq (.ops [zF 6 3 1,
zL 7 6,
zP 8 (.bin .eql) [.t 7, .c (.int .i64 7)],
zM 9 8,
zFg 10 3 1 9 false,
zLg 11 10 9 false,
zPg 12 (.bin .eql) [.t 11, .c (.int .i64 8)] 9 false,
zP 13 .pick [.t 9, .c (.bool true), .t 12],
zM 5 13])
(.cond (.t 5)
(.seq (.ops [zM 14 0,
zN 15 14,
zF 16 15 5,
zP 17 (.sliceArr 4 4 false false false) [.t 16],
⟨some 18, none, .call, [.c (.func (.func 103) [] []), .t 17, .c (.func (.func 104) [] [])]⟩,
zP 19 .not [.t 18],
zM 4 19])
.ret)
(.seq (.ops [zF 21 3 1,
zL 22 21,
zP 23 (.bin .eql) [.t 22, .c (.int .i64 2)],
zM 20 23])
(.cond (.t 20)
(.seq (.dops [zF 24 3 5,
zL 25 24,
zP 26 (.bin .neq) [.t 25, .c (.int .i64 0)],
zM 27 26,
zMg 28 0 27 false,
zFg 29 3 3 27 false,
zLg 30 29 27 false,
zNg 31 28 27 false,
zFg 32 31 5 27 false,
zPg 33 (.iaddrA 4 4) [.t 32, .t 30] 27 false,
zFg 34 33 0 27 false,
zLg 35 34 27 false,
zPg 36 .not [.t 35] 27 false,
zP 37 .pick [.t 27, .c (.bool true), .t 36],
zM 4 37] [[], [], [], [], [], [], [], [], [], [], [], [], [], [], []])
.ret)
(.seq (.ops [⟨some 39, none, .r (.loadN 7), [.t 3]⟩,
⟨some 40, none, .call, [.c (.func (.func 88) [] []), .t 39]⟩,
zM 41 40,
zFg 42 3 3 41 false,
zLg 43 42 41 false,
zPg 44 (.bin .eql) [.t 43, .c (.int .i64 (-1))] 41 false,
zP 45 .pick [.t 41, .c (.bool true), .t 44],
zM 38 45])
(.cond (.t 38)
(.seq (.ops [zP 4 .mov [.c (.bool true)]])
.ret)
.skip)))))))
(.seq (.dops [zM 46 0,
zF 47 3 3,
zL 48 47,
zN 49 46,
zF 50 49 5,
zP 51 (.iaddrA 4 4) [.t 50, .t 48],
zF 52 51 0,
zL 53 52,
zM 4 53] [[], [], [], [], [], [], [], [], []])
.ret)))⟩
abbrev f_judge_part_there : Nat := 87
abbrev C_judge_part_there : AFunc := C87
def C88 : AFunc := ⟨16, [.tmp 2],
(.seq (.ops [⟨some 1, none, .a .box, [.t 0]⟩,
zP 2 .mov [.c (.bool false)]])
(.seq (.ops [zF 3 1 1,
zL 4 3,
zP 5 (.bin .eql) [.t 4, .c (.int .i64 6)],
zM 6 5,
zFg 7 1 1 6 false,
zLg 8 7 6 false,
zPg 9 (.bin .eql) [.t 8, .c (.int .i64 7)] 6 false,
zP 10 .pick [.t 6, .c (.bool true), .t 9],
zM 11 10,
zFg 12 1 1 11 false,
zLg 13 12 11 false,
zPg 14 (.bin .eql) [.t 13, .c (.int .i64 8)] 11 false,
zP 15 .pick [.t 11, .c (.bool true), .t 14],
zM 2 15])
.ret))⟩
abbrev f_judge_whole : Nat := 88
abbrev C_judge_whole : AFunc := C88
def C89 : AFunc := ⟨71, [],
(.seq (.ops [⟨some 5, none, .a .box, [.t 2]⟩])
(.seq (.dops [zM 7 0,
zN 8 7,
zF 9 8 0,
zF 10 9 0,
zL 11 10,
zF 12 5 2,
zL 13 12,
zP 14 (.iaddrS 3) [.t 11, .t 13],
zM 6 14] [[], [], [], [], [], [], [], [], []])
(.seq (.seq (.ops [zF 15 5 1,
zL 16 15])
(.block 0 (.seq (.ops [zP 18 (.bin .eql) [.t 16, .c (.int .i64 7)],
zM 17 18])
(.cond (.t 17)
(.seq (.ops [zM 19 1,
zP 20 (.build [(.bool false), (.int .i64 0), (.int .i64 0), (.int .i64 0), (.int .i64 0), (.bool false), (.int .i64 0), (.int .i64 0), (.int .i64 0), (.bool false), (.int .i64 0), (.int .i64 0), (.int .i64 0), (.bool false), (.int .i64 0), (.int .i64 0), (.int .i64 0), (.bool false), (.int .i64 0), (.int .i64 0), (.int .i64 0), (.bool false), (.int .i64 0)] []) [],
zN 21 19,
zS 23 [.t 21, .t 20]])
(.seq (.ops [zM 22 0,
zN 23 22,
zF 24 23 97,
zS 1 [.t 24, .c (.bool true)]])
.ret))
(.seq (.ops [zP 26 (.bin .eql) [.t 16, .c (.int .i64 6)],
zM 25 26])
(.cond (.t 25)
(.ops [zM 27 1,
zP 28 (.build [(.bool false), (.int .i64 0), (.int .i64 0), (.int .i64 0), (.int .i64 0), (.bool false), (.int .i64 0), (.int .i64 0), (.int .i64 0), (.bool false), (.int .i64 0), (.int .i64 0), (.int .i64 0), (.bool false), (.int .i64 0), (.int .i64 0), (.int .i64 0), (.bool false), (.int .i64 0), (.int .i64 0), (.int .i64 0), (.bool false), (.int .i64 0)] [(0, 1)]) [.c (.bool true)],
zN 29 27,
zS 23 [.t 29, .t 28]])
(.seq (.ops [zP 31 (.bin .eql) [.t 16, .c (.int .i64 8)],
zM 30 31])
(.cond (.t 30)
(.dops [zM 32 6,
zM 33 6,
zF 34 5 4,
zL 35 34,
zP 36 (.bin .quo) [.t 35, .c (.int .i64 100)],
zF 37 5 4,
zL 38 37,
zP 39 (.bin .rem) [.t 38, .c (.int .i64 100)],
zN 40 32,
zF 41 40 0,
zS 1 [.t 41, .t 36],
zN 42 33,
zF 43 42 1,
zS 1 [.t 43, .t 39]] [[], [], [], [], [], [], [0, 11], [], [], [], [], [], [], []])
.skip))))))))
(.seq (.dops [zM 44 1,
zM 45 1,
zM 46 6,
zN 47 46,
zF 48 47 0,
zL 49 48,
zM 50 6,
zN 51 50,
zF 52 51 1,
zL 53 52,
zN 54 44,
zF 55 54 1,
zS 1 [.t 55, .t 49],
zN 56 45,
zF 57 56 2,
zS 1 [.t 57, .t 53]] [[], [], [], [], [], [], [], [], [], [], [], [], [], [], [], []])
(.dops [zM 58 1,
zM 59 1,
zF 60 5 0,
zL 61 60,
zM 62 6,
zN 63 62,
zF 64 63 0,
zL 65 64,
zP 66 (.bin .add) [.t 61, .t 65],
zN 67 58,
zF 68 67 4,
zS 1 [.t 68, .c (.int .i64 0)],
zN 69 59,
zF 70 69 3,
zS 1 [.t 70, .t 66]] [[], [], [], [0, 12], [], [], [], [], [], [], [], [], [], [], []])))))⟩
abbrev f_judge_look_turn : Nat := 89
abbrev C_judge_look_turn : AFunc := C89
def C90 : AFunc := ⟨53, [],
(.seq (.ops [⟨some 4, none, .a .box, [.t 1]⟩,
⟨some 5, none, .a .box, [.t 2]⟩])
(.seq (.dops [zM 7 0,
zF 8 4 3,
zL 9 8,
zN 10 7,
zF 11 10 5,
zP 12 (.iaddrA 4 4) [.t 11, .t 9],
⟨some 13, none, .r (.loadN 4), [.t 12]⟩,
⟨some 6, none, .a (.alloc [(.bool false), (.int .i64 0), (.int .i64 0), (.int .i64 0)]), []⟩,
zS 4 [.t 6, .t 13]] [[], [], [], [], [], [], [], [], []])
(.seq (.seq (.ops [zF 14 4 1,
zL 15 14,
zP 16 (.bin .eql) [.t 15, .c (.int .i64 2)]])
(.cond (.t 16)
(.seq (.ops [zF 17 4 5,
zL 18 17,
zP 19 (.bin .neq) [.t 18, .c (.int .i64 0)],
zM 20 19,
zFg 21 4 0 20 false,
zLg 22 21 20 false,
zFg 23 6 3 20 false,
zLg 24 23 20 false,
zPg 25 (.bin .geq) [.t 22, .t 24] 20 false,
zP 26 .pick [.t 20, .c (.bool true), .t 25],
⟨some 27, none, .call, [.c (.func (.func 84) [] []), .t 26, .c (.int .i64 6)]⟩])
.ret)
.skip))
(.seq (.ops [zF 28 4 1,
zL 29 28,
zP 30 (.bin .eql) [.t 29, .c (.int .i64 4)],
zM 31 30,
zFg 32 4 0 31 false,
zLg 33 32 31 false,
zFg 34 6 1 31 false,
zLg 35 34 31 false,
zFg 36 5 1 31 false,
zLg 37 36 31 false,
zPg 38 (.bin .add) [.t 35, .t 37] 31 false,
zPg 39 (.bin .lss) [.t 33, .t 38] 31 false,
zP 40 .pick [.t 31, .c (.bool true), .t 39],
⟨some 41, none, .call, [.c (.func (.func 84) [] []), .t 40, .c (.int .i64 7)]⟩])
(.ops [zF 42 4 1,
zL 43 42,
zP 44 (.bin .neq) [.t 43, .c (.int .i64 1)],
zM 45 44,
zFg 46 6 2 45 false,
zLg 47 46 45 false,
zFg 48 5 2 45 false,
zLg 49 48 45 false,
zPg 50 (.bin .lss) [.t 47, .t 49] 45 false,
zP 51 .pick [.t 45, .c (.bool true), .t 50],
⟨some 52, none, .call, [.c (.func (.func 84) [] []), .t 51, .c (.int .i64 7)]⟩])))))⟩
abbrev f_judge_part_timely : Nat := 90
abbrev C_judge_part_timely : AFunc := C90
def L_judge_look_shares_0 : AC := (.seq (.ops [zP 82 (.bin .lss) [.t 81, .t 80]])
(.seq (.cond (.t 82)
.skip
(.exit 1))
(.seq (.block 2 (.seq (.ops [zM 83 81,
zP 84 (.iaddrS 23) [.t 79, .t 81],
⟨some 85, none, .r (.loadN 23), [.t 84]⟩,
⟨some 8, none, .a (.alloc [(.bool false), (.int .i64 0), (.int .i64 0), (.int .i64 0), (.int .i64 0), (.bool false), (.int .i64 0), (.int .i64 0), (.int .i64 0), (.bool false), (.int .i64 0), (.int .i64 0), (.int .i64 0), (.bool false), (.int .i64 0), (.int .i64 0), (.int .i64 0), (.bool false), (.int .i64 0), (.int .i64 0), (.int .i64 0), (.bool false), (.int .i64 0)]), []⟩,
zM 7 83,
zS 23 [.t 8, .t 85]])
(.seq (.dops [zM 86 7,
zF 87 3 2,
zL 88 87,
zP 89 (.bin .neq) [.t 86, .t 88],
zM 90 89,
zFg 91 8 21 90 true,
zLg 92 91 90 true,
zP 93 .pick [.t 90, .t 92, .c (.bool false)],
zM 94 93,
zMg 95 0 94 true,
zNg 96 95 94 true,
zFg 97 96 0 94 true,
zFg 98 97 0 94 true,
zLg 99 98 94 true,
zMg 100 7 94 true,
zPg 101 (.iaddrS 3) [.t 99, .t 100] 94 true,
zFg 102 101 2 94 true,
zLg 103 102 94 true,
zFg 104 8 22 94 true,
zLg 105 104 94 true,
zPg 106 (.iaddrS 8) [.t 103, .t 105] 94 true,
zFg 107 106 5 94 true,
zLg 108 107 94 true,
zMg 109 6 94 true,
zPg 110 (.bin .eql) [.t 108, .t 109] 94 true,
zP 111 .pick [.t 94, .t 110, .c (.bool false)]] [[], [], [], [], [], [], [], [], [], [], [], [], [], [], [], [], [], [], [], [], [], [], [], [], [], []])
(.cond (.t 111)
(.seq (.ops [zP 4 .mov [.c (.bool false)]])
.ret)
.skip))))
(.ops [zP 112 (.bin .add) [.t 81, .c (.int .i64 1)],
zM 81 112]))))
def C91 : AFunc := ⟨122, [.tmp 4],
(.seq (.ops [⟨some 3, none, .a .box, [.t 1]⟩,
zP 4 .mov [.c (.bool false)]])
(.seq (.dops [zM 9 0,
zF 10 3 2,
zL 11 10,
zN 12 9,
zF 13 12 2,
zP 14 (.iaddrA 23 4) [.t 13, .t 11],
zM 5 14] [[], [], [], [], [], [], []])
(.seq (.block 0 (.seq (.ops [zF 16 3 1,
zL 17 16,
zP 18 (.bin .eql) [.t 17, .c (.int .i64 1)],
zM 15 18])
(.cond (.t 15)
(.seq (.dops [zM 19 5,
zN 20 19,
zF 21 20 21,
zL 22 21,
zP 23 .not [.t 22],
zM 24 23,
zMg 25 5 24 false,
zNg 26 25 24 false,
zFg 27 26 22 24 false,
zLg 28 27 24 false,
zFg 29 3 3 24 false,
zLg 30 29 24 false,
zPg 31 (.bin .eql) [.t 28, .t 30] 24 false,
zP 32 .pick [.t 24, .c (.bool true), .t 31],
zM 4 32] [[], [], [], [], [], [], [], [], [], [], [], [], [], [], []])
.ret)
(.seq (.ops [zF 34 3 1,
zL 35 34,
zP 36 (.bin .neq) [.t 35, .c (.int .i64 5)],
zM 37 36,
zFg 38 3 5 37 false,
zLg 39 38 37 false,
zPg 40 (.bin .neq) [.t 39, .c (.int .i64 0)] 37 false,
zP 41 .pick [.t 37, .c (.bool true), .t 40],
zM 33 41])
(.cond (.t 33)
(.seq (.ops [zP 4 .mov [.c (.bool true)]])
.ret)
(.seq (.ops [zF 43 3 4,
zL 44 43,
zP 45 (.bin .eql) [.t 44, .c (.int .i64 5)],
zM 42 45])
(.cond (.t 42)
(.seq (.dops [zM 46 5,
zN 47 46,
zF 48 47 21,
zL 49 48,
zM 50 49,
zMg 51 5 50 true,
zNg 52 51 50 true,
zFg 53 52 22 50 true,
zLg 54 53 50 true,
zFg 55 3 3 50 true,
zLg 56 55 50 true,
zPg 57 (.bin .eql) [.t 54, .t 56] 50 true,
zP 58 .pick [.t 50, .t 57, .c (.bool false)],
zM 4 58] [[], [], [], [], [], [], [], [], [], [], [], [], [], []])
.ret)
(.seq (.ops [zF 60 3 4,
zL 61 60,
zP 62 (.bin .neq) [.t 61, .c (.int .i64 4)],
zM 59 62])
(.cond (.t 59)
(.seq (.ops [zP 4 .mov [.c (.bool true)]])
.ret)
.skip)))))))))
(.seq (.dops [zM 63 0,
zN 64 63,
zF 65 64 0,
zF 66 65 0,
zL 67 66,
zF 68 3 2,
zL 69 68,
zP 70 (.iaddrS 3) [.t 67, .t 69],
zF 71 70 2,
zL 72 71,
zF 73 3 3,
zL 74 73,
zP 75 (.iaddrS 8) [.t 72, .t 74],
zF 76 75 5,
zL 77 76,
zM 6 77] [[], [], [], [], [], [], [], [], [], [], [], [], [], [], [], []])
(.seq (.seq (.ops [zM 78 0,
⟨some 79, none, .call, [.c (.func (.func 101) [] []), .t 78]⟩,
zP 80 .lenS [.t 79],
zP 81 .mov [.c (.int .i64 0)]])
(.block 1 (.loop L_judge_look_shares_0)))
(.seq (.ops [zM 113 5,
zN 114 113,
zF 115 114 21,
zL 116 115,
zP 117 .not [.t 116],
zM 118 117,
zMg 119 6 118 true,
zPg 120 (.bin .gtr) [.t 119, .c (.int .i64 0)] 118 true,
zP 121 .pick [.t 118, .t 120, .c (.bool false)],
zM 4 121])
.ret))))))⟩
abbrev f_judge_look_shares : Nat := 91
abbrev C_judge_look_shares : AFunc := C91
def C92 : AFunc := ⟨87, [],
(.seq (.ops [⟨some 4, none, .a .box, [.t 1]⟩,
⟨some 5, none, .a .box, [.t 2]⟩])
(.seq (.dops [zM 7 0,
zF 8 4 3,
zL 9 8,
zN 10 7,
zF 11 10 5,
zP 12 (.iaddrA 4 4) [.t 11, .t 9],
zM 6 12] [[], [], [], [], [], [], []])
(.seq (.ops [zF 13 4 1,
zL 14 13])
(.block 0 (.seq (.ops [zP 16 (.bin .eql) [.t 14, .c (.int .i64 1)],
zM 15 16])
(.cond (.t 15)
(.ops [zM 17 6,
zN 18 17,
zF 19 18 2,
zL 20 19,
zP 21 (.bin .add) [.t 20, .c (.int .i64 1)],
zN 22 17,
zF 23 22 2,
zS 1 [.t 23, .t 21]])
(.seq (.ops [zP 25 (.bin .eql) [.t 14, .c (.int .i64 2)],
zM 24 25])
(.cond (.t 24)
(.seq (.ops [zF 26 4 5,
zL 27 26,
zP 28 (.bin .eql) [.t 27, .c (.int .i64 0)]])
(.cond (.t 28)
(.ops [zM 29 6,
zF 30 4 0,
zL 31 30,
zF 32 4 0,
zL 33 32,
zF 34 5 0,
zL 35 34,
zP 36 (.bin .add) [.t 33, .t 35],
zP 37 (.build [(.bool false), (.int .i64 0), (.int .i64 0), (.int .i64 0)] [(0, 1), (1, 1), (3, 1)]) [.c (.bool true), .t 31, .t 36],
zN 38 29,
zS 4 [.t 38, .t 37]])
.skip))
(.seq (.seq (.ops [zP 40 (.bin .eql) [.t 14, .c (.int .i64 3)],
zM 39 40])
(.cond (.t 39)
.skip
(.ops [zP 41 (.bin .eql) [.t 14, .c (.int .i64 4)],
zM 39 41])))
(.cond (.t 39)
(.seq (.ops [zM 42 6,
zN 43 42,
zF 44 43 0,
zS 1 [.t 44, .c (.bool false)]])
(.dops [zM 45 0,
zM 46 0,
zN 47 46,
zF 48 47 21,
zL 49 48,
zM 50 49,
zMg 51 0 50 true,
zNg 52 51 50 true,
zFg 53 52 22 50 true,
zLg 54 53 50 true,
zFg 55 4 3 50 true,
zLg 56 55 50 true,
zPg 57 (.bin .neq) [.t 54, .t 56] 50 true,
zP 58 .pick [.t 50, .t 57, .c (.bool false)],
zN 59 45,
zF 60 59 21,
zS 1 [.t 60, .t 58]] [[], [], [], [], [], [], [], [], [], [], [], [], [], [], [], [], []]))
(.seq (.ops [zP 62 (.bin .eql) [.t 14, .c (.int .i64 5)],
zM 61 62])
(.cond (.t 61)
(.seq (.ops [zF 63 4 5,
zL 64 63,
zP 65 (.bin .eql) [.t 64, .c (.int .i64 0)],
zM 66 65,
zFg 67 4 4 66 true,
zLg 68 67 66 true,
zPg 69 (.bin .eql) [.t 68, .c (.int .i64 4)] 66 true,
zMg 70 69 66 true,
zFg 71 4 4 70 false,
zLg 72 71 70 false,
zPg 73 (.bin .eql) [.t 72, .c (.int .i64 5)] 70 false,
zPg 74 .pick [.t 70, .c (.bool true), .t 73] 66 true,
zP 75 .pick [.t 66, .t 74, .c (.bool false)]])
(.cond (.t 75)
(.dops [zM 76 0,
zM 77 0,
zF 78 4 4,
zL 79 78,
zP 80 (.bin .eql) [.t 79, .c (.int .i64 4)],
zF 81 4 3,
zL 82 81,
zN 83 76,
zF 84 83 21,
zS 1 [.t 84, .t 80],
zN 85 77,
zF 86 85 22,
zS 1 [.t 86, .t 82]] [[], [], [], [], [], [], [0, 10], [], [], [], [], [], []])
.skip))
.skip))))))))))))⟩
abbrev f_judge_part_does : Nat := 92
abbrev C_judge_part_does : AFunc := C92
def L_judge_look_by_0 : AC := (.seq (.ops [zP 10 (.bin .lss) [.t 9, .t 8]])
(.seq (.cond (.t 10)
.skip
(.exit 0))
(.seq (.block 1 (.seq (.ops [zP 11 (.iaddrS 23) [.t 7, .t 9],
⟨some 12, none, .r (.loadN 23), [.t 11]⟩,
⟨some 3, none, .a (.alloc [(.bool false), (.int .i64 0), (.int .i64 0), (.int .i64 0), (.int .i64 0), (.bool false), (.int .i64 0), (.int .i64 0), (.int .i64 0), (.bool false), (.int .i64 0), (.int .i64 0), (.int .i64 0), (.bool false), (.int .i64 0), (.int .i64 0), (.int .i64 0), (.bool false), (.int .i64 0), (.int .i64 0), (.int .i64 0), (.bool false), (.int .i64 0)]), []⟩,
zS 23 [.t 3, .t 12]])
(.ops [zF 13 3 0,
zL 14 13,
zP 15 .not [.t 14],
zM 16 15,
zFg 17 3 21 16 false,
zLg 18 17 16 false,
zPg 19 .not [.t 18] 16 false,
zP 20 .pick [.t 16, .c (.bool true), .t 19],
zM 21 20,
⟨some 22, some (21, false), .call, [.c (.func (.func 102) [] []), .t 3]⟩,
zP 23 .pick [.t 21, .c (.bool true), .t 22],
⟨some 24, none, .call, [.c (.func (.func 84) [] []), .t 23, .c (.int .i64 8)]⟩])))
(.ops [zP 25 (.bin .add) [.t 9, .c (.int .i64 1)],
zM 9 25]))))
def L_judge_look_by_1 : AC := (.seq (.ops [zP 59 (.bin .lss) [.t 58, .t 57]])
(.seq (.cond (.t 59)
.skip
(.exit 2))
(.seq (.block 3 (.seq (.ops [zM 60 58,
zM 4 60])
(.seq (.ops [zM 61 0,
zM 62 4,
zN 63 61,
zF 64 63 2,
zP 65 (.iaddrA 23 4) [.t 64, .t 62],
zM 5 65])
(.seq (.dops [zM 66 5,
zN 67 66,
zF 68 67 0,
zL 69 68,
zM 70 69,
zMg 71 5 70 true,
zNg 72 71 70 true,
zFg 73 72 3 70 true,
zLg 74 73 70 true,
zMg 75 0 70 true,
zNg 76 75 70 true,
zFg 77 76 95 70 true,
zLg 78 77 70 true,
zPg 79 (.bin .eql) [.t 74, .t 78] 70 true,
zP 80 .pick [.t 70, .t 79, .c (.bool false)]] [[], [], [], [], [], [], [], [], [], [], [], [], [], [], []])
(.cond (.t 80)
(.seq (.dops [zM 81 5,
zN 82 81,
zF 83 82 4,
zL 84 83,
zM 85 5,
zN 86 85,
zF 87 86 2,
zL 88 87,
zP 89 (.bin .eql) [.t 84, .t 88],
⟨some 90, none, .call, [.c (.func (.func 84) [] []), .t 89, .c (.int .i64 4)]⟩] [[], [], [], [], [], [], [], [], [], []])
(.dops [zM 91 5,
zM 92 5,
zM 93 0,
zN 94 93,
zF 95 94 95,
zL 96 95,
zM 97 5,
zN 98 97,
zF 99 98 1,
zL 100 99,
zP 101 (.bin .add) [.t 96, .t 100],
zN 102 91,
zF 103 102 4,
zS 1 [.t 103, .c (.int .i64 0)],
zN 104 92,
zF 105 104 3,
zS 1 [.t 105, .t 101]] [[], [], [], [], [], [], [], [], [], [], [], [], [], [], [], [], []]))
.skip)))))
(.ops [zP 106 (.bin .add) [.t 58, .c (.int .i64 1)],
zM 58 106]))))
def C93 : AFunc := ⟨107, [],
(.seq (.seq (.ops [zM 6 0,
⟨some 7, none, .call, [.c (.func (.func 101) [] []), .t 6]⟩,
zP 8 .lenS [.t 7],
zP 9 .mov [.c (.int .i64 0)]])
(.block 0 (.loop L_judge_look_by_0)))
(.seq (.ops [zM 26 0,
zN 27 26,
zF 28 27 96,
zL 29 28,
zM 30 29,
zMg 31 0 30 false,
zNg 32 31 30 false,
zFg 33 32 97 30 false,
zLg 34 33 30 false,
zP 35 .pick [.t 30, .c (.bool true), .t 34],
zM 36 35,
zMg 37 0 36 false,
⟨some 38, some (36, false), .call, [.c (.func (.func 86) [] []), .t 37]⟩,
zPg 39 (.bin .eql) [.t 38, .c (.int .i64 (-1))] 36 false,
zP 40 .pick [.t 36, .c (.bool true), .t 39],
⟨some 41, none, .call, [.c (.func (.func 84) [] []), .t 40, .c (.int .i64 3)]⟩])
(.seq (.ops [zM 42 0,
zN 43 42,
zF 44 43 95,
zL 45 44,
zP 46 (.bin .add) [.t 45, .c (.int .i64 1)],
zN 47 42,
zF 48 47 95,
zS 1 [.t 48, .t 46]])
(.seq (.ops [zM 49 0,
zM 50 0,
zN 51 49,
zF 52 51 96,
zS 1 [.t 52, .c (.bool false)],
zN 53 50,
zF 54 53 97,
zS 1 [.t 54, .c (.bool false)]])
(.seq (.ops [zM 55 0,
⟨some 56, none, .call, [.c (.func (.func 101) [] []), .t 55]⟩,
zP 57 .lenS [.t 56],
zP 58 .mov [.c (.int .i64 0)]])
(.block 2 (.loop L_judge_look_by_1)))))))⟩
abbrev f_judge_look_by : Nat := 93
abbrev C_judge_look_by : AFunc := C93
def L_slices_IndexFunc_api_Task_api_Task_0 : AC := (.seq (.ops [zP 9 (.bin .lss) [.t 8, .t 7]])
(.seq (.cond (.t 9)
.skip
(.exit 0))
(.seq (.block 1 (.seq (.ops [zM 10 8,
zM 5 10])
(.seq (.ops [zM 11 1,
zM 12 0,
zM 13 5,
zP 14 (.iaddrS 8) [.t 12, .t 13],
⟨some 15, none, .r (.loadN 8), [.t 14]⟩,
⟨some 16, none, .call, [.t 11, .t 15]⟩])
(.cond (.t 16)
(.seq (.ops [zM 17 5,
zM 4 17])
.ret)
.skip))))
(.ops [zP 18 (.bin .add) [.t 8, .c (.int .i64 1)],
zM 8 18]))))
def C100 : AFunc := ⟨19, [.tmp 4],
(.seq (.ops [zP 4 .mov [.c (.int .i64 0)]])
(.seq (.seq (.ops [zM 6 0,
zP 7 .lenS [.t 6],
zP 8 .mov [.c (.int .i64 0)]])
(.block 0 (.loop L_slices_IndexFunc_api_Task_api_Task_0)))
(.seq (.ops [zP 4 .mov [.c (.int .i64 (-1))]])
.ret)))⟩
abbrev f_slices_IndexFunc_api_Task_api_Task : Nat := 100
abbrev C_slices_IndexFunc_api_Task_api_Task : AFunc := C100
def C101 : AFunc := ⟨13, [.tmp 2],
(.seq (.ops [zP 2 .mov [.c .nils]])
(.seq (.dops [zM 3 0,
zN 4 3,
zF 5 4 2,
zM 6 0,
zN 7 6,
zF 8 7 0,
zF 9 8 0,
zL 10 9,
zP 11 .lenS [.t 10],
zP 12 (.sliceArr 23 4 false true false) [.t 5, .t 11],
zM 2 12] [[], [], [], [], [], [], [], [], [], [], []])
.ret))⟩
abbrev f_judge_look_all : Nat := 101
abbrev C_judge_look_all : AFunc := C101
def C102 : AFunc := ⟨18, [.tmp 2],
(.seq (.ops [zP 2 .mov [.c (.bool false)]])
(.seq (.dops [zM 3 0,
zN 4 3,
zF 5 4 0,
zL 6 5,
zM 7 6,
zMg 8 0 7 true,
zNg 9 8 7 true,
zFg 10 9 4 7 true,
zLg 11 10 7 true,
zMg 12 0 7 true,
zNg 13 12 7 true,
zFg 14 13 2 7 true,
zLg 15 14 7 true,
zPg 16 (.bin .lss) [.t 11, .t 15] 7 true,
zP 17 .pick [.t 7, .t 16, .c (.bool false)],
zM 2 17] [[], [], [], [], [], [], [], [], [], [], [], [], [], [], [], []])
.ret))⟩
abbrev f_judge_part_left : Nat := 102
abbrev C_judge_part_left : AFunc := C102
def C103 : AFunc := ⟨9, [.tmp 4],
(.seq (.ops [zP 4 .mov [.c (.bool false)]])
(.seq (.ops [zM 5 0,
zM 6 1,
⟨some 7, none, .call, [.c (.func (.func 111) [] []), .t 5, .t 6]⟩,
zP 8 (.bin .geq) [.t 7, .c (.int .i64 0)],
zM 4 8])
.ret))⟩
abbrev f_slices_ContainsFunc_judge_job_judge_job : Nat := 103
abbrev C_slices_ContainsFunc_judge_job_judge_job : AFunc := C103
def C104 : AFunc := ⟨5, [.tmp 2],
(.seq (.ops [⟨some 1, none, .a .box, [.t 0]⟩,
zP 2 .mov [.c (.bool false)]])
(.seq (.ops [zF 3 1 0,
zL 4 3,
zM 2 4])
.ret))⟩
abbrev f_judge_part_there_1 : Nat := 104
abbrev C_judge_part_there_1 : AFunc := C104
def L_slices_IndexFunc_judge_job_judge_job_0 : AC := (.seq (.ops [zP 9 (.bin .lss) [.t 8, .t 7]])
(.seq (.cond (.t 9)
.skip
(.exit 0))
(.seq (.block 1 (.seq (.ops [zM 10 8,
zM 5 10])
(.seq (.ops [zM 11 1,
zM 12 0,
zM 13 5,
zP 14 (.iaddrS 4) [.t 12, .t 13],
⟨some 15, none, .r (.loadN 4), [.t 14]⟩,
⟨some 16, none, .call, [.t 11, .t 15]⟩])
(.cond (.t 16)
(.seq (.ops [zM 17 5,
zM 4 17])
.ret)
.skip))))
(.ops [zP 18 (.bin .add) [.t 8, .c (.int .i64 1)],
zM 8 18]))))
def C111 : AFunc := ⟨19, [.tmp 4],
(.seq (.ops [zP 4 .mov [.c (.int .i64 0)]])
(.seq (.seq (.ops [zM 6 0,
zP 7 .lenS [.t 6],
zP 8 .mov [.c (.int .i64 0)]])
(.block 0 (.loop L_slices_IndexFunc_judge_job_judge_job_0)))
(.seq (.ops [zP 4 .mov [.c (.int .i64 (-1))]])
.ret)))⟩
abbrev f_slices_IndexFunc_judge_job_judge_job : Nat := 111
abbrev C_slices_IndexFunc_judge_job_judge_job : AFunc := C111
def T : Tr AFunc := (.node (.node (.node (.node (.node (.node (.node .nil (some C63) .nil) none .nil) none (.node (.node .nil (some C79) .nil) none (.node .nil (some C111) .nil))) none (.node (.node .nil none (.node .nil (some C103) .nil)) none (.node (.node .nil (some C87) .nil) none .nil))) none (.node (.node .nil none (.node (.node .nil (some C83) .nil) none .nil)) none (.node (.node (.node .nil (some C75) .nil) (some C43) .nil) none (.node (.node .nil (some C91) .nil) (some C59) .nil)))) none (.node (.node (.node (.node (.node .nil (some C65) .nil) none .nil) none (.node (.node .nil (some C81) .nil) (some C49) .nil)) none (.node (.node .nil (some C41) .nil) none (.node (.node .nil (some C89) .nil) (some C57) .nil))) (some C5) (.node (.node (.node .nil none (.node .nil (some C101) .nil)) (some C21) (.node (.node .nil (some C85) .nil) none .nil)) none (.node .nil none (.node (.node .nil (some C93) .nil) (some C61) .nil))))) none (.node (.node (.node (.node (.node (.node .nil (some C64) .nil) none .nil) none (.node (.node .nil (some C80) .nil) none .nil)) none (.node (.node .nil none (.node .nil (some C104) .nil)) none (.node (.node .nil (some C88) .nil) (some C56) .nil))) none (.node (.node (.node .nil none (.node .nil (some C100) .nil)) none (.node (.node .nil (some C84) .nil) none .nil)) none (.node .nil none (.node (.node .nil (some C92) .nil) (some C60) .nil)))) none (.node (.node (.node .nil (some C18) (.node (.node .nil (some C82) .nil) none .nil)) none (.node (.node .nil (some C42) .nil) none (.node (.node .nil (some C90) .nil) (some C58) .nil))) none (.node (.node (.node .nil none (.node .nil (some C102) .nil)) (some C22) (.node (.node .nil (some C86) .nil) none .nil)) none (.node .nil none (.node .nil (some C62) .nil))))))
def fs (f : Nat) : Option AFunc := Tr.get T f
def ms (t : Nat) (n : String) : Option Nat := none
end Ir
end Go.Proofs.Ytepdklcpagielaa
