/-
  What the program's functions are in Ads, printed by a program.
-/
import Derived.Test.YtepdklcpagielaaAdsDef
set_option linter.unusedVariables false
set_option maxRecDepth 100000
namespace Go.Proofs.Ytepdklcpagielaa
open Go Ads
namespace Ir
abbrev zM (d s : Nat) : Ins := ⟨some d, none, .p .mov, [.t s]⟩
abbrev zF (d s o : Nat) : Ins := ⟨some d, none, .p (.faddr o), [.t s]⟩
abbrev zN (d s : Nat) : Ins := ⟨some d, none, .p .nilchk, [.t s]⟩
abbrev zL (d s : Nat) : Ins := ⟨some d, none, .r .load1, [.t s]⟩
abbrev zMg (d s g : Nat) (b : Bool) : Ins := ⟨some d, some (g, b), .p .mov, [.t s]⟩
abbrev zFg (d s o g : Nat) (b : Bool) : Ins := ⟨some d, some (g, b), .p (.faddr o), [.t s]⟩
abbrev zNg (d s g : Nat) (b : Bool) : Ins := ⟨some d, some (g, b), .p .nilchk, [.t s]⟩
abbrev zLg (d s g : Nat) (b : Bool) : Ins := ⟨some d, some (g, b), .r .load1, [.t s]⟩
abbrev zP (d : Nat) (o : POp) (l : List Rand) : Ins := ⟨some d, none, .p o, l⟩
abbrev zPg (d : Nat) (o : POp) (l : List Rand) (g : Nat) (b : Bool) : Ins := ⟨some d, some (g, b), .p o, l⟩
abbrev zS (n : Nat) (l : List Rand) : Ins := ⟨none, none, .e (.store n), l⟩
def L_escapementlaw26_JudgeFinds_0 : AC := (.seq (.seq (.ops [zM 51 15,
zM 52 1,
zP 53 .lenS [.t 52],
zP 54 (.bin .lss) [.t 51, .t 53]])
(.cond (.t 54)
.skip
(.exit 0)))
(.seq (.block 1 (.seq (.dops [zM 57 8,
zM 58 15,
zP 59 (.iaddrS 7) [.t 57, .t 58],
⟨some 60, none, .r (.loadN 7), [.t 59]⟩,
zM 61 1,
zM 62 15,
zP 63 (.iaddrS 7) [.t 61, .t 62],
⟨some 64, none, .r (.loadN 7), [.t 63]⟩,
zP 65 (.neq (.cells [0, 0, 0, 0, 0, 0, 2])) [.t 60, .t 64]] [[], [], [], [], [], [], [], [], []])
(.cond (.t 65)
(.seq (.ops [zP 6 .mov [.c (.bool false)]])
.ret)
.skip)))
(.ops [zM 55 15,
zP 56 (.bin .add) [.t 55, .c (.int .i64 1)],
zM 15 56])))
def C4 : AFunc := ⟨87, [.tmp 6],
(.seq (.ops [⟨some 3, none, .a .box, [.t 0]⟩,
zP 6 .mov [.c (.bool false)]])
(.seq (.ops [zM 16 1,
zM 17 1,
zP 18 .lenS [.t 17],
zP 19 .mn [.t 18, .c (.int .i64 300)],
zP 20 (.slice 7 false true false) [.t 16, .t 19],
zM 1 20])
(.seq (.seq (.ops [zM 21 2,
zP 22 (.bin .gtr) [.t 21, .c (.int .i64 600)],
zM 23 22,
zMg 24 2 23 true,
zPg 25 (.bin .rem) [.t 24, .c (.int .i64 5)] 23 true,
zPg 26 (.bin .neq) [.t 25, .c (.int .i64 0)] 23 true,
zP 27 .pick [.t 23, .t 26, .c (.bool false)]])
(.cond (.t 27)
(.ops [zM 28 2,
zP 29 (.bin .rem) [.t 28, .c (.int .i64 600)],
zM 2 29])
.skip))
(.seq (.ops [⟨some 30, none, .r (.loadN 2), [.t 3]⟩,
⟨some 31, none, .call, [.c (.func (.func 17) [] []), .t 30]⟩,
⟨some 7, none, .a (.alloc [.nils, .nils]), []⟩,
zS 2 [.t 7, .t 31]])
(.seq (.ops [zP 8 .mov [.c .nils]])
(.seq (.ops [zM 32 8,
zM 33 1,
⟨some 34, none, .e (.append 7 64), [.t 32, .t 33]⟩,
zM 8 34])
(.seq (.ops [⟨some 36, none, .r (.loadN 2), [.t 3]⟩,
zM 37 8,
zM 38 2,
⟨some 39, none, .call, [.c (.func (.func 18) [] []), .t 36, .t 37, .t 38]⟩,
zM 35 39,
zP 40 (.ext 0) [.t 35],
zP 41 (.ext 1) [.t 35],
zP 42 (.ext 2) [.t 35],
zM 9 40,
zM 10 41,
zM 11 42])
(.seq (.ops [⟨some 44, none, .r (.loadN 2), [.t 7]⟩,
zM 45 1,
zM 46 2,
⟨some 47, none, .call, [.c (.func (.func 19) [] []), .t 44, .t 45, .t 46]⟩,
zM 43 47,
zP 48 (.ext 0) [.t 43],
zP 49 (.ext 1) [.t 43],
zP 50 (.ext 2) [.t 43],
zM 12 48,
zM 13 49,
zM 14 50])
(.seq (.seq (.ops [zP 15 .mov [.c (.int .i64 0)]])
(.block 0 (.loop L_escapementlaw26_JudgeFinds_0)))
(.seq (.ops [zM 66 9,
zM 67 12,
zP 68 (.bin .eql) [.t 66, .t 67],
zM 69 68,
zMg 70 10 69 true,
zMg 71 13 69 true,
zPg 72 (.bin .eql) [.t 70, .t 71] 69 true,
zP 73 .pick [.t 69, .t 72, .c (.bool false)],
zM 74 73,
zMg 75 11 74 true,
zMg 76 14 74 true,
zPg 77 (.bin .eql) [.t 75, .t 76] 74 true,
zP 78 .pick [.t 74, .t 77, .c (.bool false)],
zM 79 78,
⟨some 80, some (79, true), .r (.loadN 2), [.t 3]⟩,
⟨some 81, some (79, true), .r (.loadN 2), [.t 7]⟩,
⟨some 82, some (79, true), .call, [.c (.func (.func 20) [] []), .t 80, .t 81]⟩,
zP 83 .pick [.t 79, .t 82, .c (.bool false)],
zM 84 83,
⟨some 85, some (84, true), .call, [.c (.func (.func 21) [] [])]⟩,
zP 86 .pick [.t 84, .t 85, .c (.bool false)],
zM 6 86])
.ret))))))))))⟩
abbrev f_escapementlaw26_JudgeFinds : Nat := 4
abbrev C_escapementlaw26_JudgeFinds : AFunc := C4
def L_escapementlaw26_JudgeCounts_0 : AC := (.seq (.seq (.ops [zM 23 9,
zM 24 7,
zP 25 .lenS [.t 24],
zP 26 (.bin .lss) [.t 23, .t 25]])
(.cond (.t 26)
.skip
(.exit 0)))
(.seq (.block 1 (.seq (.seq (.dops [zM 29 7,
zM 30 9,
zP 31 (.iaddrS 7) [.t 29, .t 30],
⟨some 32, none, .r (.loadN 7), [.t 31]⟩,
zM 33 8,
zM 34 9,
zP 35 (.iaddrS 7) [.t 33, .t 34],
⟨some 36, none, .r (.loadN 7), [.t 35]⟩,
zP 37 (.neq (.cells [0, 0, 0, 0, 0, 0, 2])) [.t 32, .t 36]] [[], [], [], [], [], [], [], [], []])
(.cond (.t 37)
(.seq (.ops [zP 6 .mov [.c (.bool false)]])
.ret)
.skip))
(.ops [zM 38 7,
zM 39 9,
zP 40 (.iaddrS 7) [.t 38, .t 39],
zF 41 40 0,
zS 1 [.t 41, .c (.int .i64 (-1))]])))
(.ops [zM 27 9,
zP 28 (.bin .add) [.t 27, .c (.int .i64 1)],
zM 9 28])))
def L_escapementlaw26_JudgeCounts_1 : AC := (.seq (.seq (.ops [zM 45 11,
zM 46 8,
zP 47 .lenS [.t 46],
zP 48 (.bin .lss) [.t 45, .t 47]])
(.cond (.t 48)
.skip
(.exit 2)))
(.seq (.block 3 (.seq (.dops [zM 51 11,
zM 52 10,
zP 53 .lenS [.t 52],
zP 54 (.bin .geq) [.t 51, .t 53],
zM 55 54,
zMg 56 10 55 false,
zMg 57 11 55 false,
zPg 58 (.iaddrS 7) [.t 56, .t 57] 55 false,
⟨some 59, some (55, false), .r (.loadN 7), [.t 58]⟩,
zMg 60 8 55 false,
zMg 61 11 55 false,
zPg 62 (.iaddrS 7) [.t 60, .t 61] 55 false,
⟨some 63, some (55, false), .r (.loadN 7), [.t 62]⟩,
zPg 64 (.neq (.cells [0, 0, 0, 0, 0, 0, 2])) [.t 59, .t 63] 55 false,
zP 65 .pick [.t 55, .c (.bool true), .t 64]] [[], [], [], [], [], [], [], [], [], [], [], [], [], [], []])
(.cond (.t 65)
(.seq (.ops [zP 6 .mov [.c (.bool false)]])
.ret)
.skip)))
(.ops [zM 49 11,
zP 50 (.bin .add) [.t 49, .c (.int .i64 1)],
zM 11 50])))
def C6 : AFunc := ⟨84, [.tmp 6],
(.seq (.ops [⟨some 5, none, .a .box, [.t 2]⟩,
zP 6 .mov [.c (.bool false)]])
(.seq (.ops [zM 12 0,
zM 13 1,
⟨some 14, none, .call, [.c (.func (.func 23) [] []), .t 12, .t 13]⟩,
zM 15 0,
zM 16 1,
⟨some 17, none, .call, [.c (.func (.func 24) [] []), .t 15, .t 16]⟩,
zM 7 14,
zM 8 17])
(.seq (.seq (.ops [zM 18 7,
zP 19 .lenS [.t 18],
zM 20 8,
zP 21 .lenS [.t 20],
zP 22 (.bin .neq) [.t 19, .t 21]])
(.cond (.t 22)
(.seq (.ops [zP 6 .mov [.c (.bool false)]])
.ret)
.skip))
(.seq (.seq (.ops [zP 9 .mov [.c (.int .i64 0)]])
(.block 0 (.loop L_escapementlaw26_JudgeCounts_0)))
(.seq (.ops [zM 42 0,
zM 43 1,
⟨some 44, none, .call, [.c (.func (.func 23) [] []), .t 42, .t 43]⟩,
zM 10 44])
(.seq (.seq (.ops [zP 11 .mov [.c (.int .i64 0)]])
(.block 2 (.loop L_escapementlaw26_JudgeCounts_1)))
(.seq (.dops [zM 66 0,
zM 67 1,
zP 68 (.iaddrA 1 2) [.t 5, .c (.int .i64 0)],
zL 69 68,
zP 70 (.iaddrA 1 2) [.t 5, .c (.int .i64 1)],
zL 71 70,
⟨some 72, none, .call, [.c (.func (.func 25) [] []), .t 66, .t 67, .t 69, .t 71]⟩,
zM 73 0,
zM 74 1,
zP 75 (.iaddrA 1 2) [.t 5, .c (.int .i64 0)],
zL 76 75,
zP 77 (.iaddrA 1 2) [.t 5, .c (.int .i64 1)],
zL 78 77,
⟨some 79, none, .call, [.c (.func (.func 26) [] []), .t 73, .t 74, .t 76, .t 78]⟩,
zP 80 (.bin .eql) [.t 72, .t 79],
zM 81 80,
⟨some 82, some (81, true), .call, [.c (.func (.func 21) [] [])]⟩,
zP 83 .pick [.t 81, .t 82, .c (.bool false)],
zM 6 83] [[], [], [], [], [], [], [], [], [], [], [0, 7], [], [0, 7], [], [], [], [], [], []])
.ret)))))))⟩
abbrev f_escapementlaw26_JudgeCounts : Nat := 6
abbrev C_escapementlaw26_JudgeCounts : AFunc := C6
def L_escapementlaw26_JudgeKnown_1 : AC := (.seq (.seq (.ops [zM 106 14,
zM 107 11,
zP 108 .lenS [.t 107],
zP 109 (.bin .lss) [.t 106, .t 108]])
(.cond (.t 109)
.skip
(.exit 2)))
(.seq (.block 3 (.seq (.dops [⟨some 112, none, .a (.bslice [(.int .i64 0), (.int .i64 0), (.int .i64 0), (.int .i64 0), (.int .i64 0), (.int .i64 0), (.str [])] 0 7 []), []⟩,
zM 113 13,
⟨some 114, none, .e (.append 7 64), [.t 112, .t 113]⟩,
zM 115 11,
zM 116 14,
zP 117 (.iaddrS 7) [.t 115, .t 116],
⟨some 118, none, .r (.loadN 7), [.t 117]⟩,
⟨some 119, none, .a (.bslice [(.int .i64 0), (.int .i64 0), (.int .i64 0), (.int .i64 0), (.int .i64 0), (.int .i64 0), (.str [])] 1 7 [0]), [.t 118]⟩,
⟨some 120, none, .e (.append 7 64), [.t 114, .t 119]⟩,
zM 15 120] [[], [], [], [], [], [], [0, 3], [], [], []])
(.seq (.ops [⟨some 121, none, .call, [.c (.func (.func 27) [] [])]⟩,
zM 122 15,
⟨some 123, none, .call, [.c (.func (.func 4) [] []), .t 121, .t 122, .c (.int .i64 3)]⟩,
zP 124 .not [.t 123]])
(.cond (.t 124)
(.seq (.ops [zP 0 .mov [.c (.bool false)]])
.ret)
.skip))))
(.ops [zM 110 14,
zP 111 (.bin .add) [.t 110, .c (.int .i64 1)],
zM 14 111])))
def L_escapementlaw26_JudgeKnown_0 : AC := (.seq (.seq (.ops [zM 76 12,
zM 77 11,
zP 78 .lenS [.t 77],
zP 79 (.bin .lss) [.t 76, .t 78]])
(.cond (.t 79)
.skip
(.exit 0)))
(.seq (.block 1 (.seq (.ops [zP 13 .mov [.c .nils]])
(.seq (.ops [zM 82 13,
zM 83 10,
⟨some 84, none, .e (.append 7 64), [.t 82, .t 83]⟩,
zM 13 84])
(.seq (.ops [zM 85 13,
zM 86 11,
zM 87 12,
zP 88 (.iaddrS 7) [.t 86, .t 87],
⟨some 89, none, .r (.loadN 7), [.t 88]⟩,
⟨some 90, none, .a (.bslice [(.int .i64 0), (.int .i64 0), (.int .i64 0), (.int .i64 0), (.int .i64 0), (.int .i64 0), (.str [])] 1 7 [0]), [.t 89]⟩,
⟨some 91, none, .e (.append 7 64), [.t 85, .t 90]⟩,
zM 13 91])
(.seq (.seq (.ops [⟨some 92, none, .call, [.c (.func (.func 27) [] [])]⟩,
zM 93 13,
⟨some 94, none, .call, [.c (.func (.func 4) [] []), .t 92, .t 93, .c (.int .i64 50)]⟩,
zP 95 .not [.t 94],
zM 96 95,
⟨some 97, some (96, false), .call, [.c (.func (.func 27) [] [])]⟩,
zMg 98 13 96 false,
zPg 99 (.build [(.int .i64 0), (.int .i64 0), (.int .i64 0), (.int .i64 0), (.int .i64 0), (.int .i64 0), (.str [])] [(0, 1), (1, 1)]) [.c (.int .i64 1), .c (.int .i64 4)] 96 false,
zPg 100 (.build [(.int .i64 0), (.int .i64 0), (.int .i64 0), (.int .i64 0), (.int .i64 0), (.int .i64 0), (.str [])] [(0, 1), (1, 1), (3, 1)]) [.c (.int .i64 1), .c (.int .i64 1), .c (.int .i64 (-1))] 96 false,
⟨some 101, some (96, false), .a (.bslice [(.int .i64 0), (.int .i64 0), (.int .i64 0), (.int .i64 0), (.int .i64 0), (.int .i64 0), (.str [])] 2 7 [0, 1]), [.t 99, .t 100]⟩,
⟨some 102, some (96, false), .e (.append 7 64), [.t 98, .t 101]⟩,
⟨some 103, some (96, false), .call, [.c (.func (.func 4) [] []), .t 97, .t 102, .c (.int .i64 2)]⟩,
zPg 104 .not [.t 103] 96 false,
zP 105 .pick [.t 96, .c (.bool true), .t 104]])
(.cond (.t 105)
(.seq (.ops [zP 0 .mov [.c (.bool false)]])
.ret)
.skip))
(.seq (.ops [zP 14 .mov [.c (.int .i64 0)]])
(.block 2 (.loop L_escapementlaw26_JudgeKnown_1))))))))
(.ops [zM 80 12,
zP 81 (.bin .add) [.t 80, .c (.int .i64 1)],
zM 12 81])))
def L_escapementlaw26_JudgeKnown_3 : AC := (.seq (.seq (.ops [zM 167 19,
zP 168 (.bin .lss) [.t 167, .c (.int .i64 6)]])
(.cond (.t 168)
.skip
(.exit 6)))
(.seq (.block 7 (.seq (.ops [⟨some 171, none, .call, [.c (.func (.func 27) [] [])]⟩,
⟨some 172, none, .a (.bslice [(.int .i64 0), (.int .i64 0), (.int .i64 0), (.int .i64 0), (.int .i64 0), (.int .i64 0), (.str [])] 0 7 []), []⟩,
zM 173 16,
⟨some 174, none, .e (.append 7 64), [.t 172, .t 173]⟩,
zM 175 18,
zM 176 19,
zP 177 (.build [(.int .i64 0), (.int .i64 0), (.int .i64 0), (.int .i64 0), (.int .i64 0), (.int .i64 0), (.str [])] [(0, 1), (1, 1)]) [.t 175, .t 176],
⟨some 178, none, .a (.bslice [(.int .i64 0), (.int .i64 0), (.int .i64 0), (.int .i64 0), (.int .i64 0), (.int .i64 0), (.str [])] 1 7 [0]), [.t 177]⟩,
⟨some 179, none, .e (.append 7 64), [.t 174, .t 178]⟩,
zM 180 18,
zP 181 (.bin .add) [.t 180, .c (.int .i64 1)],
⟨some 182, none, .call, [.c (.func (.func 4) [] []), .t 171, .t 179, .t 181]⟩,
zP 183 .not [.t 182]])
(.cond (.t 183)
(.seq (.ops [zP 0 .mov [.c (.bool false)]])
.ret)
.skip)))
(.ops [zM 169 19,
zP 170 (.bin .add) [.t 169, .c (.int .i64 1)],
zM 19 170])))
def L_escapementlaw26_JudgeKnown_2 : AC := (.seq (.seq (.ops [zM 138 18,
zP 139 (.bin .lss) [.t 138, .c (.int .i64 48)]])
(.cond (.t 139)
.skip
(.exit 4)))
(.seq (.block 5 (.seq (.seq (.ops [zM 142 18,
zP 143 (.bin .rem) [.t 142, .c (.int .i64 4)],
zP 144 (.bin .lss) [.t 143, .c (.int .i64 2)]])
(.cond (.t 144)
(.seq (.ops [zM 145 16,
zM 146 18,
zP 147 (.build [(.int .i64 0), (.int .i64 0), (.int .i64 0), (.int .i64 0), (.int .i64 0), (.int .i64 0), (.str [])] [(0, 1), (1, 1), (3, 1)]) [.t 146, .c (.int .i64 1), .c (.int .i64 (-1))],
⟨some 148, none, .a (.bslice [(.int .i64 0), (.int .i64 0), (.int .i64 0), (.int .i64 0), (.int .i64 0), (.int .i64 0), (.str [])] 1 7 [0]), [.t 147]⟩,
⟨some 149, none, .e (.append 7 64), [.t 145, .t 148]⟩,
zM 16 149])
(.ops [zM 150 17,
zM 151 18,
zP 152 (.build [(.int .i64 0), (.int .i64 0), (.int .i64 0), (.int .i64 0), (.int .i64 0), (.int .i64 0), (.str [])] [(0, 1), (1, 1), (3, 1)]) [.t 151, .c (.int .i64 1), .c (.int .i64 (-1))],
⟨some 153, none, .a (.bslice [(.int .i64 0), (.int .i64 0), (.int .i64 0), (.int .i64 0), (.int .i64 0), (.int .i64 0), (.str [])] 1 7 [0]), [.t 152]⟩,
⟨some 154, none, .e (.append 7 64), [.t 150, .t 153]⟩,
zM 17 154]))
.skip))
(.seq (.seq (.ops [⟨some 155, none, .call, [.c (.func (.func 27) [] [])]⟩,
⟨some 156, none, .a (.bslice [(.int .i64 0), (.int .i64 0), (.int .i64 0), (.int .i64 0), (.int .i64 0), (.int .i64 0), (.str [])] 0 7 []), []⟩,
zM 157 17,
⟨some 158, none, .e (.append 7 64), [.t 156, .t 157]⟩,
zM 159 18,
zP 160 (.build [(.int .i64 0), (.int .i64 0), (.int .i64 0), (.int .i64 0), (.int .i64 0), (.int .i64 0), (.str [])] [(0, 1), (1, 1)]) [.t 159, .c (.int .i64 2)],
⟨some 161, none, .a (.bslice [(.int .i64 0), (.int .i64 0), (.int .i64 0), (.int .i64 0), (.int .i64 0), (.int .i64 0), (.str [])] 1 7 [0]), [.t 160]⟩,
⟨some 162, none, .e (.append 7 64), [.t 158, .t 161]⟩,
zM 163 18,
zP 164 (.bin .add) [.t 163, .c (.int .i64 1)],
⟨some 165, none, .call, [.c (.func (.func 4) [] []), .t 155, .t 162, .t 164]⟩,
zP 166 .not [.t 165]])
(.cond (.t 166)
(.seq (.ops [zP 0 .mov [.c (.bool false)]])
.ret)
.skip))
(.seq (.ops [zP 19 .mov [.c (.int .i64 1)]])
(.block 6 (.loop L_escapementlaw26_JudgeKnown_3))))))
(.ops [zM 140 18,
zP 141 (.bin .add) [.t 140, .c (.int .i64 1)],
zM 18 141])))
def C7 : AFunc := ⟨208, [.tmp 0],
(.seq (.ops [zP 0 .mov [.c (.bool false)]])
(.seq (.ops [zP 21 (.build [.nils, .nils] []) [],
⟨some 22, none, .call, [.c (.func (.func 18) [] []), .t 21, .c .nils, .c (.int .i64 0)]⟩,
zM 20 22,
zP 23 (.ext 0) [.t 20],
zP 24 (.ext 1) [.t 20],
zP 25 (.ext 2) [.t 20],
zM 1 23,
zM 2 24,
zM 3 25])
(.seq (.ops [⟨some 27, none, .call, [.c (.func (.func 27) [] [])]⟩,
⟨some 28, none, .call, [.c (.func (.func 18) [] []), .t 27, .c .nils, .c (.int .i64 (-1))]⟩,
zM 26 28,
zP 29 (.ext 0) [.t 26],
zP 30 (.ext 1) [.t 26],
zP 31 (.ext 2) [.t 26],
zM 4 29,
zM 5 30,
zM 6 31])
(.seq (.ops [⟨some 33, none, .call, [.c (.func (.func 27) [] [])]⟩,
⟨some 34, none, .call, [.c (.func (.func 18) [] []), .t 33, .c .nils, .c (.int .i64 10001)]⟩,
zM 32 34,
zP 35 (.ext 0) [.t 32],
zP 36 (.ext 1) [.t 32],
zP 37 (.ext 2) [.t 32],
zM 7 35,
zM 8 36,
zM 9 37])
(.seq (.ops [zP 38 (.build [(.int .i64 0), (.int .i64 0), (.int .i64 0), (.int .i64 0), (.int .i64 0), (.int .i64 0), (.str [])] [(1, 1)]) [.c (.int .i64 6)],
zP 39 (.build [(.int .i64 0), (.int .i64 0), (.int .i64 0), (.int .i64 0), (.int .i64 0), (.int .i64 0), (.str [])] [(1, 1), (2, 1)]) [.c (.int .i64 6), .c (.int .i64 1)],
zP 40 (.build [(.int .i64 0), (.int .i64 0), (.int .i64 0), (.int .i64 0), (.int .i64 0), (.int .i64 0), (.str [])] [(1, 1)]) [.c (.int .i64 2)],
zP 41 (.build [(.int .i64 0), (.int .i64 0), (.int .i64 0), (.int .i64 0), (.int .i64 0), (.int .i64 0), (.str [])] [(1, 1), (2, 1)]) [.c (.int .i64 2), .c (.int .i64 1)],
zP 42 (.build [(.int .i64 0), (.int .i64 0), (.int .i64 0), (.int .i64 0), (.int .i64 0), (.int .i64 0), (.str [])] [(1, 1), (4, 1)]) [.c (.int .i64 5), .c (.int .i64 4)],
zP 43 (.build [(.int .i64 0), (.int .i64 0), (.int .i64 0), (.int .i64 0), (.int .i64 0), (.int .i64 0), (.str [])] [(1, 1)]) [.c (.int .i64 1)],
⟨some 44, none, .a (.bslice [(.int .i64 0), (.int .i64 0), (.int .i64 0), (.int .i64 0), (.int .i64 0), (.int .i64 0), (.str [])] 6 7 [0, 1, 2, 3, 4, 5]), [.t 38, .t 39, .t 40, .t 41, .t 42, .t 43]⟩,
zM 10 44])
(.seq (.ops [zP 45 (.build [(.int .i64 0), (.int .i64 0), (.int .i64 0), (.int .i64 0), (.int .i64 0), (.int .i64 0), (.str [])] []) [],
zP 46 (.build [(.int .i64 0), (.int .i64 0), (.int .i64 0), (.int .i64 0), (.int .i64 0), (.int .i64 0), (.str [])] [(0, 1), (1, 1)]) [.c (.int .i64 (-1)), .c (.int .i64 1)],
zP 47 (.build [(.int .i64 0), (.int .i64 0), (.int .i64 0), (.int .i64 0), (.int .i64 0), (.int .i64 0), (.str [])] [(0, 1), (1, 1)]) [.c (.int .i64 51), .c (.int .i64 1)],
zP 48 (.build [(.int .i64 0), (.int .i64 0), (.int .i64 0), (.int .i64 0), (.int .i64 0), (.int .i64 0), (.str [])] [(1, 1)]) [.c (.int .i64 9)],
zP 49 (.build [(.int .i64 0), (.int .i64 0), (.int .i64 0), (.int .i64 0), (.int .i64 0), (.int .i64 0), (.str [])] [(1, 1), (2, 1)]) [.c (.int .i64 1), .c (.int .i64 2)],
zP 50 (.build [(.int .i64 0), (.int .i64 0), (.int .i64 0), (.int .i64 0), (.int .i64 0), (.int .i64 0), (.str [])] [(1, 1), (2, 1)]) [.c (.int .i64 1), .c (.int .i64 (-1))],
zP 51 (.build [(.int .i64 0), (.int .i64 0), (.int .i64 0), (.int .i64 0), (.int .i64 0), (.int .i64 0), (.str [])] [(1, 1), (3, 1)]) [.c (.int .i64 1), .c (.int .i64 (-2))],
zP 52 (.build [(.int .i64 0), (.int .i64 0), (.int .i64 0), (.int .i64 0), (.int .i64 0), (.int .i64 0), (.str [])] [(1, 1), (3, 1)]) [.c (.int .i64 1), .c (.int .i64 1)],
zP 53 (.build [(.int .i64 0), (.int .i64 0), (.int .i64 0), (.int .i64 0), (.int .i64 0), (.int .i64 0), (.str [])] [(1, 1), (3, 1)]) [.c (.int .i64 3), .c (.int .i64 (-1))],
zP 54 (.build [(.int .i64 0), (.int .i64 0), (.int .i64 0), (.int .i64 0), (.int .i64 0), (.int .i64 0), (.str [])] [(1, 1), (3, 1)]) [.c (.int .i64 6), .c (.int .i64 1)],
zP 55 (.build [(.int .i64 0), (.int .i64 0), (.int .i64 0), (.int .i64 0), (.int .i64 0), (.int .i64 0), (.str [])] [(1, 1)]) [.c (.int .i64 7)],
zP 56 (.build [(.int .i64 0), (.int .i64 0), (.int .i64 0), (.int .i64 0), (.int .i64 0), (.int .i64 0), (.str [])] [(1, 1), (4, 1)]) [.c (.int .i64 8), .c (.int .i64 402)],
zP 57 (.build [(.int .i64 0), (.int .i64 0), (.int .i64 0), (.int .i64 0), (.int .i64 0), (.int .i64 0), (.str [])] [(1, 1)]) [.c (.int .i64 6)],
zP 58 (.build [(.int .i64 0), (.int .i64 0), (.int .i64 0), (.int .i64 0), (.int .i64 0), (.int .i64 0), (.str [])] [(1, 1)]) [.c (.int .i64 1)],
zP 59 (.build [(.int .i64 0), (.int .i64 0), (.int .i64 0), (.int .i64 0), (.int .i64 0), (.int .i64 0), (.str [])] [(0, 1), (1, 1), (2, 1)]) [.c (.int .i64 1), .c (.int .i64 1), .c (.int .i64 1)],
zP 60 (.build [(.int .i64 0), (.int .i64 0), (.int .i64 0), (.int .i64 0), (.int .i64 0), (.int .i64 0), (.str [])] [(0, 1), (1, 1)]) [.c (.int .i64 1), .c (.int .i64 1)],
zP 61 (.build [(.int .i64 0), (.int .i64 0), (.int .i64 0), (.int .i64 0), (.int .i64 0), (.int .i64 0), (.str [])] [(0, 1), (1, 1), (3, 1)]) [.c (.int .i64 1), .c (.int .i64 1), .c (.int .i64 (-1))],
zP 62 (.build [(.int .i64 0), (.int .i64 0), (.int .i64 0), (.int .i64 0), (.int .i64 0), (.int .i64 0), (.str [])] [(0, 1), (1, 1)]) [.c (.int .i64 2), .c (.int .i64 1)],
zP 63 (.build [(.int .i64 0), (.int .i64 0), (.int .i64 0), (.int .i64 0), (.int .i64 0), (.int .i64 0), (.str [])] [(0, 1), (1, 1)]) [.c (.int .i64 4), .c (.int .i64 1)],
zP 64 (.build [(.int .i64 0), (.int .i64 0), (.int .i64 0), (.int .i64 0), (.int .i64 0), (.int .i64 0), (.str [])] [(0, 1), (1, 1)]) [.c (.int .i64 1), .c (.int .i64 3)],
zP 65 (.build [(.int .i64 0), (.int .i64 0), (.int .i64 0), (.int .i64 0), (.int .i64 0), (.int .i64 0), (.str [])] [(0, 1), (1, 1)]) [.c (.int .i64 1), .c (.int .i64 4)],
zP 66 (.build [(.int .i64 0), (.int .i64 0), (.int .i64 0), (.int .i64 0), (.int .i64 0), (.int .i64 0), (.str [])] [(0, 1), (1, 1), (4, 1)]) [.c (.int .i64 1), .c (.int .i64 5), .c (.int .i64 5)],
zP 67 (.build [(.int .i64 0), (.int .i64 0), (.int .i64 0), (.int .i64 0), (.int .i64 0), (.int .i64 0), (.str [])] [(0, 1), (1, 1), (4, 1)]) [.c (.int .i64 1), .c (.int .i64 5), .c (.int .i64 4)],
zP 68 (.build [(.int .i64 0), (.int .i64 0), (.int .i64 0), (.int .i64 0), (.int .i64 0), (.int .i64 0), (.str [])] [(0, 1), (1, 1), (2, 1), (4, 1)]) [.c (.int .i64 1), .c (.int .i64 5), .c (.int .i64 1), .c (.int .i64 4)],
zP 69 (.build [(.int .i64 0), (.int .i64 0), (.int .i64 0), (.int .i64 0), (.int .i64 0), (.int .i64 0), (.str [])] [(0, 1), (1, 1), (2, 1), (4, 1)]) [.c (.int .i64 1), .c (.int .i64 5), .c (.int .i64 1), .c (.int .i64 5)],
zP 70 (.build [(.int .i64 0), (.int .i64 0), (.int .i64 0), (.int .i64 0), (.int .i64 0), (.int .i64 0), (.str [])] [(0, 1), (1, 1), (2, 1), (4, 1), (5, 1)]) [.c (.int .i64 1), .c (.int .i64 5), .c (.int .i64 1), .c (.int .i64 4), .c (.int .i64 9)],
zP 71 (.build [(.int .i64 0), (.int .i64 0), (.int .i64 0), (.int .i64 0), (.int .i64 0), (.int .i64 0), (.str [])] [(1, 1)]) [.c (.int .i64 2)],
zP 72 (.build [(.int .i64 0), (.int .i64 0), (.int .i64 0), (.int .i64 0), (.int .i64 0), (.int .i64 0), (.str [])] [(1, 1), (5, 1)]) [.c (.int .i64 2), .c (.int .i64 141)],
zP 73 (.build [(.int .i64 0), (.int .i64 0), (.int .i64 0), (.int .i64 0), (.int .i64 0), (.int .i64 0), (.str [])] [(0, 1), (1, 1)]) [.c (.int .i64 1), .c (.int .i64 7)],
zP 74 (.build [(.int .i64 0), (.int .i64 0), (.int .i64 0), (.int .i64 0), (.int .i64 0), (.int .i64 0), (.str [])] [(0, 1), (1, 1), (2, 1)]) [.c (.int .i64 1), .c (.int .i64 7), .c (.int .i64 1)],
⟨some 75, none, .a (.bslice [(.int .i64 0), (.int .i64 0), (.int .i64 0), (.int .i64 0), (.int .i64 0), (.int .i64 0), (.str [])] 30 7 [0, 1, 2, 3, 4, 5, 6, 7, 8, 9, 10, 11, 12, 13, 14, 15, 16, 17, 18, 19, 20, 21, 22, 23, 24, 25, 26, 27, 28, 29]), [.t 45, .t 46, .t 47, .t 48, .t 49, .t 50, .t 51, .t 52, .t 53, .t 54, .t 55, .t 56, .t 57, .t 58, .t 59, .t 60, .t 61, .t 62, .t 63, .t 64, .t 65, .t 66, .t 67, .t 68, .t 69, .t 70, .t 71, .t 72, .t 73, .t 74]⟩,
zM 11 75])
(.seq (.seq (.ops [zP 12 .mov [.c (.int .i64 0)]])
(.block 0 (.loop L_escapementlaw26_JudgeKnown_0)))
(.seq (.ops [⟨some 125, none, .a (.bslice [(.int .i64 0), (.int .i64 0), (.int .i64 0), (.int .i64 0), (.int .i64 0), (.int .i64 0), (.str [])] 0 7 []), []⟩,
zM 126 10,
zP 127 (.slice 7 false true false) [.t 126, .c (.int .i64 1)],
⟨some 128, none, .e (.append 7 64), [.t 125, .t 127]⟩,
zP 129 (.build [(.int .i64 0), (.int .i64 0), (.int .i64 0), (.int .i64 0), (.int .i64 0), (.int .i64 0), (.str [])] [(1, 1)]) [.c (.int .i64 2)],
⟨some 130, none, .a (.bslice [(.int .i64 0), (.int .i64 0), (.int .i64 0), (.int .i64 0), (.int .i64 0), (.int .i64 0), (.str [])] 1 7 [0]), [.t 129]⟩,
⟨some 131, none, .e (.append 7 64), [.t 128, .t 130]⟩,
zM 16 131])
(.seq (.ops [⟨some 132, none, .a (.bslice [(.int .i64 0), (.int .i64 0), (.int .i64 0), (.int .i64 0), (.int .i64 0), (.int .i64 0), (.str [])] 0 7 []), []⟩,
zM 133 16,
⟨some 134, none, .e (.append 7 64), [.t 132, .t 133]⟩,
zP 135 (.build [(.int .i64 0), (.int .i64 0), (.int .i64 0), (.int .i64 0), (.int .i64 0), (.int .i64 0), (.str [])] [(1, 1)]) [.c (.int .i64 4)],
⟨some 136, none, .a (.bslice [(.int .i64 0), (.int .i64 0), (.int .i64 0), (.int .i64 0), (.int .i64 0), (.int .i64 0), (.str [])] 1 7 [0]), [.t 135]⟩,
⟨some 137, none, .e (.append 7 64), [.t 134, .t 136]⟩,
zM 17 137])
(.seq (.seq (.ops [zP 18 .mov [.c (.int .i64 0)]])
(.block 4 (.loop L_escapementlaw26_JudgeKnown_2)))
(.seq (.ops [zP 184 .mov [.c (.bool true)],
⟨some 185, some (184, true), .call, [.c (.func (.func 21) [] [])]⟩,
zP 186 .pick [.t 184, .t 185, .c (.bool false)],
zM 187 186,
zMg 188 3 187 true,
zPg 189 (.bin .eql) [.t 188, .c (.int .i64 50)] 187 true,
zP 190 .pick [.t 187, .t 189, .c (.bool false)],
zM 191 190,
zMg 192 6 191 true,
zPg 193 (.bin .eql) [.t 192, .c (.int .i64 5)] 191 true,
zP 194 .pick [.t 191, .t 193, .c (.bool false)],
zM 195 194,
zMg 196 9 195 true,
zPg 197 (.bin .eql) [.t 196, .c (.int .i64 5)] 195 true,
zP 198 .pick [.t 195, .t 197, .c (.bool false)],
zM 199 198,
zMg 200 16 199 true,
zPg 201 (.build [(.int .i64 0), (.int .i64 0)] [(0, 1), (1, 1)]) [.c (.int .i64 3), .c (.int .i64 9)] 199 true,
⟨some 202, some (199, true), .call, [.c (.func (.func 6) [] []), .t 200, .c (.int .i64 0), .t 201]⟩,
zP 203 .pick [.t 199, .t 202, .c (.bool false)],
zM 204 203,
zPg 205 (.build [(.int .i64 0), (.int .i64 0)] []) [] 204 true,
⟨some 206, some (204, true), .call, [.c (.func (.func 6) [] []), .c .nils, .c (.int .i64 9), .t 205]⟩,
zP 207 .pick [.t 204, .t 206, .c (.bool false)],
zM 0 207])
.ret)))))))))))⟩
abbrev f_escapementlaw26_JudgeKnown : Nat := 7
abbrev C_escapementlaw26_JudgeKnown : AFunc := C7
def L_escapementref05_Copy_0 : AC := (.seq (.seq (.ops [zM 8 4,
zF 9 1 0,
zL 10 9,
zP 11 .lenS [.t 10],
zP 12 (.bin .lss) [.t 8, .t 11]])
(.cond (.t 12)
.skip
(.exit 0)))
(.seq (.block 1 (.seq (.ops [zF 15 1 0,
zL 16 15,
zM 17 4,
zP 18 (.iaddrS 3) [.t 16, .t 17],
⟨some 19, none, .r (.loadN 3), [.t 18]⟩,
⟨some 5, none, .a (.alloc [(.int .i64 0), (.int .i64 0), .nils]), []⟩,
zS 3 [.t 5, .t 19]])
(.seq (.ops [zP 6 .mov [.c .nils]])
(.seq (.ops [zM 20 6,
zF 21 5 2,
zL 22 21,
⟨some 23, none, .e (.append 8 64), [.t 20, .t 22]⟩,
zF 24 5 2,
zS 1 [.t 24, .t 23]])
(.ops [zF 25 3 0,
zL 26 25,
⟨some 27, none, .r (.loadN 3), [.t 5]⟩,
⟨some 28, none, .a (.bslice [(.int .i64 0), (.int .i64 0), .nils] 1 3 [0]), [.t 27]⟩,
⟨some 29, none, .e (.append 3 40), [.t 26, .t 28]⟩,
zF 30 3 0,
zS 1 [.t 30, .t 29]])))))
(.ops [zM 13 4,
zP 14 (.bin .add) [.t 13, .c (.int .i64 1)],
zM 4 14])))
def C17 : AFunc := ⟨38, [.cell 2 2 true],
(.seq (.ops [⟨some 1, none, .a .box, [.t 0]⟩,
⟨some 2, none, .a (.alloc [.nils, .nils]), []⟩])
(.seq (.ops [zP 7 (.build [.nils, .nils] []) [],
⟨some 3, none, .a (.alloc [.nils, .nils]), []⟩,
zS 2 [.t 3, .t 7]])
(.seq (.seq (.ops [zP 4 .mov [.c (.int .i64 0)]])
(.block 0 (.loop L_escapementref05_Copy_0)))
(.seq (.ops [zF 31 3 1,
zL 32 31,
zF 33 1 1,
zL 34 33,
⟨some 35, none, .e (.append 6 48), [.t 32, .t 34]⟩,
zF 36 3 1,
zS 1 [.t 36, .t 35]])
(.seq (.ops [⟨some 37, none, .r (.loadN 2), [.t 3]⟩,
zS 2 [.t 2, .t 37]])
.ret)))))⟩
abbrev f_escapementref05_Copy : Nat := 17
abbrev C_escapementref05_Copy : AFunc := C17
def C18 : AFunc := ⟨39, [.tmp 6, .tmp 7, .tmp 8],
(.seq (.ops [⟨some 3, none, .a .box, [.t 0]⟩,
zP 6 .mov [.c (.int .i64 0)],
zP 7 .mov [.c (.int .i64 0)],
zP 8 .mov [.c (.int .i64 0)]])
(.seq (.seq (.ops [⟨some 11, none, .r (.loadN 2), [.t 3]⟩,
⟨some 12, none, .call, [.c (.func (.func 41) [] []), .t 11]⟩,
zM 9 12])
(.seq (.ops [zM 13 9,
zP 14 (.bin .neq) [.t 13, .c (.int .i64 0)]])
(.cond (.t 14)
(.seq (.ops [zM 15 9,
zP 6 .mov [.c (.int .i64 0)],
zP 7 .mov [.c (.int .i64 0)],
zM 8 15])
.ret)
.skip)))
(.seq (.seq (.ops [zM 16 2,
zP 17 (.bin .lss) [.t 16, .c (.int .i64 0)],
zM 18 17,
zMg 19 2 18 false,
zPg 20 (.bin .gtr) [.t 19, .c (.int .i64 10000)] 18 false,
zP 21 .pick [.t 18, .c (.bool true), .t 20]])
(.cond (.t 21)
(.seq (.ops [zP 6 .mov [.c (.int .i64 0)],
zP 7 .mov [.c (.int .i64 0)],
zP 8 .mov [.c (.int .i64 5)]])
.ret)
.skip))
(.seq (.ops [zF 22 3 0,
zL 23 22,
⟨some 24, none, .call, [.c (.func (.func 42) [] []), .t 23]⟩,
zP 25 (.build [.nils, .nils] [(0, 1)]) [.t 24],
zM 26 2,
zP 27 (.build [.nils, .nils, (.bool false), (.int .i64 0), (.int .i64 0), (.int .i64 0), (.int .i64 0), (.bool false), (.int .i64 0), (.int .i64 0), (.int .i64 0), (.bool false), (.int .i64 0), (.int .i64 0), (.int .i64 0), (.bool false), (.int .i64 0), (.int .i64 0), (.int .i64 0), (.bool false), (.int .i64 0), (.int .i64 0), (.int .i64 0), (.bool false), (.int .i64 0), (.bool false), (.int .i64 0), (.int .i64 0), (.int .i64 0), (.int .i64 0), (.bool false), (.int .i64 0), (.int .i64 0), (.int .i64 0), (.bool false), (.int .i64 0), (.int .i64 0), (.int .i64 0), (.bool false), (.int .i64 0), (.int .i64 0), (.int .i64 0), (.bool false), (.int .i64 0), (.int .i64 0), (.int .i64 0), (.bool false), (.int .i64 0), (.bool false), (.int .i64 0), (.int .i64 0), (.int .i64 0), (.int .i64 0), (.bool false), (.int .i64 0), (.int .i64 0), (.int .i64 0), (.bool false), (.int .i64 0), (.int .i64 0), (.int .i64 0), (.bool false), (.int .i64 0), (.int .i64 0), (.int .i64 0), (.bool false), (.int .i64 0), (.int .i64 0), (.int .i64 0), (.bool false), (.int .i64 0), (.bool false), (.int .i64 0), (.int .i64 0), (.int .i64 0), (.int .i64 0), (.bool false), (.int .i64 0), (.int .i64 0), (.int .i64 0), (.bool false), (.int .i64 0), (.int .i64 0), (.int .i64 0), (.bool false), (.int .i64 0), (.int .i64 0), (.int .i64 0), (.bool false), (.int .i64 0), (.int .i64 0), (.int .i64 0), (.bool false), (.int .i64 0), (.int .i64 0), (.int .i64 0), (.bool false), (.bool false), (.int .i64 0)] [(0, 2), (94, 1)]) [.t 25, .t 26],
⟨some 28, none, .a .box, [.t 27]⟩,
zM 10 28])
(.seq (.seq (.ops [zM 29 10,
zM 30 1,
⟨some 31, none, .call, [.c (.func (.func 43) [] []), .t 29, .t 30]⟩,
zM 6 31])
(.seq (.ops [zM 32 6,
zP 33 (.bin .eql) [.t 32, .c (.int .i64 0)]])
(.cond (.t 33)
(.seq (.ops [zP 6 .mov [.c (.int .i64 0)],
zP 7 .mov [.c (.int .i64 0)],
zP 8 .mov [.c (.int .i64 0)]])
.ret)
.skip)))
(.seq (.dops [zM 34 6,
zM 35 10,
zN 36 35,
zF 37 36 98,
zL 38 37,
zM 6 34,
zM 7 38,
zP 8 .mov [.c (.int .i64 0)]] [[], [], [], [], [], [], [], []])
.ret))))))⟩
abbrev f_judge_Find : Nat := 18
abbrev C_judge_Find : AFunc := C18
def L_escapementref26_Find_0 : AC := (.seq (.seq (.ops [zM 30 11,
zM 31 1,
zP 32 .lenS [.t 31],
zP 33 (.bin .lss) [.t 30, .t 32]])
(.cond (.t 33)
.skip
(.exit 0)))
(.seq (.block 1 (.seq (.seq (.ops [zM 36 10,
zM 37 1,
zM 38 11,
zP 39 (.iaddrS 7) [.t 37, .t 38],
⟨some 40, none, .r (.loadN 7), [.t 39]⟩,
zM 41 2,
⟨some 42, none, .call, [.c (.func (.func 45) [] []), .t 36, .t 40, .t 41]⟩,
zP 43 .not [.t 42]])
(.cond (.t 43)
(.seq (.ops [zM 44 11,
zP 6 .mov [.c (.int .i64 1)],
zM 7 44,
zP 8 .mov [.c (.int .i64 0)]])
.ret)
.skip))
(.seq (.seq (.ops [zM 45 10,
zM 46 1,
zM 47 11,
zP 48 (.iaddrS 7) [.t 46, .t 47],
zF 49 48 0,
zL 50 49,
⟨some 51, none, .call, [.c (.func (.func 46) [] []), .t 45, .t 50]⟩,
zM 12 51])
(.seq (.ops [zM 52 12,
zP 53 (.bin .gtr) [.t 52, .c (.int .i64 0)]])
(.cond (.t 53)
(.seq (.ops [zM 54 12,
zM 55 11,
zM 6 54,
zM 7 55,
zP 8 .mov [.c (.int .i64 0)]])
.ret)
.skip)))
(.seq (.seq (.ops [zM 56 10,
zM 57 1,
zM 58 11,
zP 59 (.iaddrS 7) [.t 57, .t 58],
⟨some 60, none, .r (.loadN 7), [.t 59]⟩,
⟨some 61, none, .call, [.c (.func (.func 47) [] []), .t 56, .t 60]⟩,
zM 13 61])
(.seq (.ops [zM 62 13,
zP 63 (.bin .gtr) [.t 62, .c (.int .i64 0)]])
(.cond (.t 63)
(.seq (.ops [zM 64 13,
zM 65 11,
zM 6 64,
zM 7 65,
zP 8 .mov [.c (.int .i64 0)]])
.ret)
.skip)))
(.ops [zM 66 10,
zM 67 1,
zM 68 11,
zP 69 (.iaddrS 7) [.t 67, .t 68],
⟨some 70, none, .r (.loadN 7), [.t 69]⟩,
⟨some 71, none, .call, [.c (.func (.func 48) [] []), .t 66, .t 70]⟩])))))
(.ops [zM 34 11,
zP 35 (.bin .add) [.t 34, .c (.int .i64 1)],
zM 11 35])))
def C19 : AFunc := ⟨80, [.tmp 6, .tmp 7, .tmp 8],
(.seq (.ops [⟨some 3, none, .a .box, [.t 0]⟩,
zP 6 .mov [.c (.int .i64 0)],
zP 7 .mov [.c (.int .i64 0)],
zP 8 .mov [.c (.int .i64 0)]])
(.seq (.seq (.ops [⟨some 15, none, .r (.loadN 2), [.t 3]⟩,
⟨some 16, none, .call, [.c (.func (.func 44) [] []), .t 15]⟩,
zM 9 16])
(.seq (.ops [zM 17 9,
zP 18 (.bin .neq) [.t 17, .c (.int .i64 0)]])
(.cond (.t 18)
(.seq (.ops [zM 19 9,
zP 6 .mov [.c (.int .i64 0)],
zP 7 .mov [.c (.int .i64 0)],
zM 8 19])
.ret)
.skip)))
(.seq (.seq (.ops [zM 20 2,
zP 21 (.bin .lss) [.t 20, .c (.int .i64 0)],
zM 22 21,
zMg 23 2 22 false,
zPg 24 (.bin .gtr) [.t 23, .c (.int .i64 10000)] 22 false,
zP 25 .pick [.t 22, .c (.bool true), .t 24]])
(.cond (.t 25)
(.seq (.ops [zP 6 .mov [.c (.int .i64 0)],
zP 7 .mov [.c (.int .i64 0)],
zP 8 .mov [.c (.int .i64 5)]])
.ret)
.skip))
(.seq (.ops [⟨some 26, none, .r (.loadN 2), [.t 3]⟩,
⟨some 27, none, .call, [.c (.func (.func 17) [] []), .t 26]⟩,
zP 28 (.build [.nils, .nils, (.bool false), (.int .i64 0), (.int .i64 0), (.int .i64 0), (.int .i64 0), (.bool false), (.int .i64 0), (.int .i64 0), (.int .i64 0), (.bool false), (.int .i64 0), (.int .i64 0), (.int .i64 0), (.bool false), (.int .i64 0), (.int .i64 0), (.int .i64 0), (.bool false), (.int .i64 0), (.int .i64 0), (.int .i64 0), (.bool false), (.int .i64 0), (.bool false), (.int .i64 0), (.int .i64 0), (.int .i64 0), (.int .i64 0), (.bool false), (.int .i64 0), (.int .i64 0), (.int .i64 0), (.bool false), (.int .i64 0), (.int .i64 0), (.int .i64 0), (.bool false), (.int .i64 0), (.int .i64 0), (.int .i64 0), (.bool false), (.int .i64 0), (.int .i64 0), (.int .i64 0), (.bool false), (.int .i64 0), (.bool false), (.int .i64 0), (.int .i64 0), (.int .i64 0), (.int .i64 0), (.bool false), (.int .i64 0), (.int .i64 0), (.int .i64 0), (.bool false), (.int .i64 0), (.int .i64 0), (.int .i64 0), (.bool false), (.int .i64 0), (.int .i64 0), (.int .i64 0), (.bool false), (.int .i64 0), (.int .i64 0), (.int .i64 0), (.bool false), (.int .i64 0), (.bool false), (.int .i64 0), (.int .i64 0), (.int .i64 0), (.int .i64 0), (.bool false), (.int .i64 0), (.int .i64 0), (.int .i64 0), (.bool false), (.int .i64 0), (.int .i64 0), (.int .i64 0), (.bool false), (.int .i64 0), (.int .i64 0), (.int .i64 0), (.bool false), (.int .i64 0), (.int .i64 0), (.int .i64 0), (.bool false), (.int .i64 0), (.int .i64 0), (.bool false), (.bool false)] [(0, 2)]) [.t 27],
⟨some 29, none, .a .box, [.t 28]⟩,
zM 10 29])
(.seq (.seq (.ops [zP 11 .mov [.c (.int .i64 0)]])
(.block 0 (.loop L_escapementref26_Find_0)))
(.seq (.seq (.ops [zM 72 10,
zM 73 2,
⟨some 74, none, .call, [.c (.func (.func 46) [] []), .t 72, .t 73]⟩,
zM 14 74])
(.seq (.ops [zM 75 14,
zP 76 (.bin .gtr) [.t 75, .c (.int .i64 0)]])
(.cond (.t 76)
(.seq (.ops [zM 77 14,
zM 78 1,
zP 79 .lenS [.t 78],
zM 6 77,
zM 7 79,
zP 8 .mov [.c (.int .i64 0)]])
.ret)
.skip)))
(.seq (.ops [zP 6 .mov [.c (.int .i64 0)],
zP 7 .mov [.c (.int .i64 0)],
zP 8 .mov [.c (.int .i64 0)]])
.ret)))))))⟩
abbrev f_escapementref26_Find : Nat := 19
abbrev C_escapementref26_Find : AFunc := C19
def L_escapementref05_Same_1 : AC := (.seq (.seq (.ops [zM 64 8,
zF 65 6 2,
zL 66 65,
zP 67 .lenS [.t 66],
zP 68 (.bin .lss) [.t 64, .t 67]])
(.cond (.t 68)
.skip
(.exit 2)))
(.seq (.block 3 (.seq (.dops [zF 71 6 2,
zL 72 71,
zM 73 8,
zP 74 (.iaddrS 8) [.t 72, .t 73],
⟨some 75, none, .r (.loadN 8), [.t 74]⟩,
zF 76 7 2,
zL 77 76,
zM 78 8,
zP 79 (.iaddrS 8) [.t 77, .t 78],
⟨some 80, none, .r (.loadN 8), [.t 79]⟩,
zP 81 (.neq (.cells [0, 0, 0, 0, 0, 0, 0, 0])) [.t 75, .t 80]] [[], [], [], [], [], [], [], [], [], [], []])
(.cond (.t 81)
(.seq (.ops [zP 4 .mov [.c (.bool false)]])
.ret)
.skip)))
(.ops [zM 69 8,
zP 70 (.bin .add) [.t 69, .c (.int .i64 1)],
zM 8 70])))
def L_escapementref05_Same_0 : AC := (.seq (.seq (.ops [zM 26 5,
zF 27 2 0,
zL 28 27,
zP 29 .lenS [.t 28],
zP 30 (.bin .lss) [.t 26, .t 29]])
(.cond (.t 30)
.skip
(.exit 0)))
(.seq (.block 1 (.seq (.dops [zF 33 2 0,
zL 34 33,
zM 35 5,
zP 36 (.iaddrS 3) [.t 34, .t 35],
⟨some 37, none, .r (.loadN 3), [.t 36]⟩,
zF 38 3 0,
zL 39 38,
zM 40 5,
zP 41 (.iaddrS 3) [.t 39, .t 40],
⟨some 42, none, .r (.loadN 3), [.t 41]⟩,
⟨some 6, none, .a (.alloc [(.int .i64 0), (.int .i64 0), .nils]), []⟩,
⟨some 7, none, .a (.alloc [(.int .i64 0), (.int .i64 0), .nils]), []⟩,
zS 3 [.t 6, .t 37],
zS 3 [.t 7, .t 42]] [[], [], [], [], [], [], [0, 13], [], [], [0, 13], [], [], [], []])
(.seq (.seq (.ops [zF 43 6 0,
zL 44 43,
zF 45 7 0,
zL 46 45,
zP 47 (.bin .neq) [.t 44, .t 46],
zM 48 47,
zFg 49 6 1 48 false,
zLg 50 49 48 false,
zFg 51 7 1 48 false,
zLg 52 51 48 false,
zPg 53 (.bin .neq) [.t 50, .t 52] 48 false,
zP 54 .pick [.t 48, .c (.bool true), .t 53],
zM 55 54,
zFg 56 6 2 55 false,
zLg 57 56 55 false,
zPg 58 .lenS [.t 57] 55 false,
zFg 59 7 2 55 false,
zLg 60 59 55 false,
zPg 61 .lenS [.t 60] 55 false,
zPg 62 (.bin .neq) [.t 58, .t 61] 55 false,
zP 63 .pick [.t 55, .c (.bool true), .t 62]])
(.cond (.t 63)
(.seq (.ops [zP 4 .mov [.c (.bool false)]])
.ret)
.skip))
(.seq (.ops [zP 8 .mov [.c (.int .i64 0)]])
(.block 2 (.loop L_escapementref05_Same_1))))))
(.ops [zM 31 5,
zP 32 (.bin .add) [.t 31, .c (.int .i64 1)],
zM 5 32])))
def L_escapementref05_Same_2 : AC := (.seq (.seq (.ops [zM 82 9,
zF 83 2 1,
zL 84 83,
zP 85 .lenS [.t 84],
zP 86 (.bin .lss) [.t 82, .t 85]])
(.cond (.t 86)
.skip
(.exit 4)))
(.seq (.block 5 (.seq (.dops [zF 89 2 1,
zL 90 89,
zM 91 9,
zP 92 (.iaddrS 6) [.t 90, .t 91],
⟨some 93, none, .r (.loadN 6), [.t 92]⟩,
zF 94 3 1,
zL 95 94,
zM 96 9,
zP 97 (.iaddrS 6) [.t 95, .t 96],
⟨some 98, none, .r (.loadN 6), [.t 97]⟩,
zP 99 (.neq (.cells [0, 0, 0, 0, 0, 0])) [.t 93, .t 98]] [[], [], [], [], [], [], [], [], [], [], []])
(.cond (.t 99)
(.seq (.ops [zP 4 .mov [.c (.bool false)]])
.ret)
.skip)))
(.ops [zM 87 9,
zP 88 (.bin .add) [.t 87, .c (.int .i64 1)],
zM 9 88])))
def C20 : AFunc := ⟨100, [.tmp 4],
(.seq (.ops [⟨some 2, none, .a .box, [.t 0]⟩,
⟨some 3, none, .a .box, [.t 1]⟩,
zP 4 .mov [.c (.bool false)]])
(.seq (.seq (.ops [zF 10 2 0,
zL 11 10,
zP 12 .lenS [.t 11],
zF 13 3 0,
zL 14 13,
zP 15 .lenS [.t 14],
zP 16 (.bin .neq) [.t 12, .t 15],
zM 17 16,
zFg 18 2 1 17 false,
zLg 19 18 17 false,
zPg 20 .lenS [.t 19] 17 false,
zFg 21 3 1 17 false,
zLg 22 21 17 false,
zPg 23 .lenS [.t 22] 17 false,
zPg 24 (.bin .neq) [.t 20, .t 23] 17 false,
zP 25 .pick [.t 17, .c (.bool true), .t 24]])
(.cond (.t 25)
(.seq (.ops [zP 4 .mov [.c (.bool false)]])
.ret)
.skip))
(.seq (.seq (.ops [zP 5 .mov [.c (.int .i64 0)]])
(.block 0 (.loop L_escapementref05_Same_0)))
(.seq (.seq (.ops [zP 9 .mov [.c (.int .i64 0)]])
(.block 4 (.loop L_escapementref05_Same_2)))
(.seq (.ops [zP 4 .mov [.c (.bool true)]])
.ret)))))⟩
abbrev f_escapementref05_Same : Nat := 20
abbrev C_escapementref05_Same : AFunc := C20
def C21 : AFunc := ⟨46, [.tmp 0],
(.seq (.ops [zP 0 .mov [.c (.bool false)]])
(.seq (.ops [zP 5 (.build [(.int .i64 0), (.int .i64 0), (.int .i64 0), (.int .i64 0), (.int .i64 0), (.int .i64 0), (.str [])] [(0, 1), (1, 1)]) [.c (.int .i64 1), .c (.int .i64 6)],
⟨some 1, none, .a (.alloc [(.int .i64 0), (.int .i64 0), (.int .i64 0), (.int .i64 0), (.int .i64 0), (.int .i64 0), (.str [])]), []⟩,
zS 7 [.t 1, .t 5]])
(.seq (.ops [zP 6 (.build [(.int .i64 0), (.int .i64 0), (.int .i64 0), (.int .i64 0), (.int .i64 0), (.int .i64 0), (.str [])] [(0, 1), (1, 1), (3, 1)]) [.c (.int .i64 1), .c (.int .i64 1), .c (.int .i64 (-1))],
zP 7 (.build [(.int .i64 0), (.int .i64 0), (.int .i64 0), (.int .i64 0), (.int .i64 0), (.int .i64 0), (.str [])] [(0, 1), (1, 1), (3, 1)]) [.c (.int .i64 2), .c (.int .i64 1), .c (.int .i64 (-1))],
⟨some 2, none, .a (.alloc [(.int .i64 0), (.int .i64 0), (.int .i64 0), (.int .i64 0), (.int .i64 0), (.int .i64 0), (.str [])]), []⟩,
⟨some 3, none, .a (.alloc [(.int .i64 0), (.int .i64 0), (.int .i64 0), (.int .i64 0), (.int .i64 0), (.int .i64 0), (.str [])]), []⟩,
zS 7 [.t 2, .t 6],
zS 7 [.t 3, .t 7]])
(.seq (.ops [⟨some 8, none, .call, [.c (.func (.func 49) [] []), .c (.int .i64 5), .c (.int .i64 0), .c (.int .i64 0), .c .nils]⟩,
zM 9 8,
⟨some 10, some (9, true), .r (.loadN 7), [.t 1]⟩,
⟨some 11, some (9, true), .r (.loadN 7), [.t 2]⟩,
⟨some 12, some (9, true), .r (.loadN 7), [.t 3]⟩,
⟨some 13, some (9, true), .a (.bslice [(.int .i64 0), (.int .i64 0), (.int .i64 0), (.int .i64 0), (.int .i64 0), (.int .i64 0), (.str [])] 3 7 [0, 1, 2]), [.t 10, .t 11, .t 12]⟩,
⟨some 14, some (9, true), .call, [.c (.func (.func 49) [] []), .c (.int .i64 5), .c (.int .i64 0), .c (.int .i64 0), .t 13]⟩,
zP 15 .pick [.t 9, .t 14, .c (.bool false)],
zM 16 15,
⟨some 17, some (16, true), .r (.loadN 7), [.t 1]⟩,
⟨some 18, some (16, true), .r (.loadN 7), [.t 2]⟩,
⟨some 19, some (16, true), .r (.loadN 7), [.t 3]⟩,
⟨some 20, some (16, true), .a (.bslice [(.int .i64 0), (.int .i64 0), (.int .i64 0), (.int .i64 0), (.int .i64 0), (.int .i64 0), (.str [])] 3 7 [0, 1, 2]), [.t 17, .t 18, .t 19]⟩,
⟨some 21, some (16, true), .call, [.c (.func (.func 49) [] []), .c (.int .i64 3), .c (.int .i64 0), .c (.int .i64 0), .t 20]⟩,
zP 22 .pick [.t 16, .t 21, .c (.bool false)],
zM 23 22,
⟨some 24, some (23, true), .r (.loadN 7), [.t 1]⟩,
⟨some 25, some (23, true), .r (.loadN 7), [.t 3]⟩,
⟨some 26, some (23, true), .a (.bslice [(.int .i64 0), (.int .i64 0), (.int .i64 0), (.int .i64 0), (.int .i64 0), (.int .i64 0), (.str [])] 2 7 [0, 1]), [.t 24, .t 25]⟩,
⟨some 27, some (23, true), .call, [.c (.func (.func 49) [] []), .c (.int .i64 2), .c (.int .i64 3), .c (.int .i64 1), .t 26]⟩,
zP 28 .pick [.t 23, .t 27, .c (.bool false)],
zM 29 28,
⟨some 30, some (29, true), .r (.loadN 7), [.t 1]⟩,
⟨some 31, some (29, true), .a (.bslice [(.int .i64 0), (.int .i64 0), (.int .i64 0), (.int .i64 0), (.int .i64 0), (.int .i64 0), (.str [])] 1 7 [0]), [.t 30]⟩,
⟨some 32, some (29, true), .call, [.c (.func (.func 49) [] []), .c (.int .i64 2), .c (.int .i64 3), .c (.int .i64 1), .t 31]⟩,
zP 33 .pick [.t 29, .t 32, .c (.bool false)],
zM 4 33])
(.seq (.ops [zM 34 4,
zM 35 34,
zPg 36 (.build [(.int .i64 0), (.int .i64 0), (.int .i64 0), (.int .i64 0), (.int .i64 0), (.int .i64 0), (.str [])] [(1, 1), (3, 1)]) [.c (.int .i64 1), .c (.int .i64 (-1))] 35 true,
⟨some 37, some (35, true), .a (.bslice [(.int .i64 0), (.int .i64 0), (.int .i64 0), (.int .i64 0), (.int .i64 0), (.int .i64 0), (.str [])] 1 7 [0]), [.t 36]⟩,
⟨some 38, some (35, true), .call, [.c (.func (.func 49) [] []), .c (.int .i64 5), .c (.int .i64 2), .c (.int .i64 0), .t 37]⟩,
zP 39 .pick [.t 35, .t 38, .c (.bool false)],
zM 40 39,
⟨some 41, some (40, true), .r (.loadN 7), [.t 1]⟩,
zPg 42 (.build [(.int .i64 0), (.int .i64 0), (.int .i64 0), (.int .i64 0), (.int .i64 0), (.int .i64 0), (.str [])] [(0, 1), (1, 1)]) [.c (.int .i64 1), .c (.int .i64 1)] 40 true,
⟨some 43, some (40, true), .a (.bslice [(.int .i64 0), (.int .i64 0), (.int .i64 0), (.int .i64 0), (.int .i64 0), (.int .i64 0), (.str [])] 2 7 [0, 1]), [.t 41, .t 42]⟩,
⟨some 44, some (40, true), .call, [.c (.func (.func 49) [] []), .c (.int .i64 5), .c (.int .i64 5), .c (.int .i64 1), .t 43]⟩,
zP 45 .pick [.t 40, .t 44, .c (.bool false)],
zM 0 45])
.ret)))))⟩
abbrev f_escapementlaw26_works : Nat := 21
abbrev C_escapementlaw26_works : AFunc := C21
def L_judge_Of_0 : AC := (.seq (.ops [zP 10 (.bin .lss) [.t 9, .t 8]])
(.seq (.cond (.t 10)
.skip
(.exit 0))
(.seq (.block 1 (.seq (.ops [zP 11 (.iaddrS 7) [.t 7, .t 9],
⟨some 12, none, .r (.loadN 7), [.t 11]⟩,
⟨some 6, none, .a (.alloc [(.int .i64 0), (.int .i64 0), (.int .i64 0), (.int .i64 0), (.int .i64 0), (.int .i64 0), (.str [])]), []⟩,
zS 7 [.t 6, .t 12]])
(.seq (.ops [zF 13 6 2,
zL 14 13,
zM 15 1,
zP 16 (.bin .eql) [.t 14, .t 15]])
(.cond (.t 16)
(.ops [zM 17 4,
⟨some 18, none, .r (.loadN 7), [.t 6]⟩,
⟨some 19, none, .a (.bslice [(.int .i64 0), (.int .i64 0), (.int .i64 0), (.int .i64 0), (.int .i64 0), (.int .i64 0), (.str [])] 1 7 [0]), [.t 18]⟩,
⟨some 20, none, .e (.append 7 64), [.t 17, .t 19]⟩,
zM 4 20])
.skip))))
(.ops [zP 21 (.bin .add) [.t 9, .c (.int .i64 1)],
zM 9 21]))))
def C23 : AFunc := ⟨23, [.tmp 4],
(.seq (.ops [zP 4 .mov [.c .nils]])
(.seq (.seq (.ops [zM 7 0,
zP 8 .lenS [.t 7],
zP 9 .mov [.c (.int .i64 0)]])
(.block 0 (.loop L_judge_Of_0)))
(.seq (.ops [zM 22 4,
zM 4 22])
.ret)))⟩
abbrev f_judge_Of : Nat := 23
abbrev C_judge_Of : AFunc := C23
def L_escapementref26_Of_0 : AC := (.seq (.seq (.ops [zM 7 6,
zM 8 0,
zP 9 .lenS [.t 8],
zP 10 (.bin .lss) [.t 7, .t 9]])
(.cond (.t 10)
.skip
(.exit 0)))
(.seq (.block 1 (.seq (.ops [zM 13 0,
zM 14 6,
zP 15 (.iaddrS 7) [.t 13, .t 14],
zF 16 15 2,
zL 17 16,
zM 18 1,
zP 19 (.bin .eql) [.t 17, .t 18]])
(.cond (.t 19)
(.ops [zM 20 5,
zM 21 0,
zM 22 6,
zP 23 (.iaddrS 7) [.t 21, .t 22],
⟨some 24, none, .r (.loadN 7), [.t 23]⟩,
⟨some 25, none, .a (.bslice [(.int .i64 0), (.int .i64 0), (.int .i64 0), (.int .i64 0), (.int .i64 0), (.int .i64 0), (.str [])] 1 7 [0]), [.t 24]⟩,
⟨some 26, none, .e (.append 7 64), [.t 20, .t 25]⟩,
zM 5 26])
.skip)))
(.ops [zM 11 6,
zP 12 (.bin .add) [.t 11, .c (.int .i64 1)],
zM 6 12])))
def C24 : AFunc := ⟨28, [.tmp 4],
(.seq (.ops [zP 4 .mov [.c .nils]])
(.seq (.ops [zP 5 .mov [.c .nils]])
(.seq (.seq (.ops [zP 6 .mov [.c (.int .i64 0)]])
(.block 0 (.loop L_escapementref26_Of_0)))
(.seq (.ops [zM 27 5,
zM 4 27])
.ret))))⟩
abbrev f_escapementref26_Of : Nat := 24
abbrev C_escapementref26_Of : AFunc := C24
def L_judge_Ran_0 : AC := (.seq (.ops [zP 16 (.bin .lss) [.t 15, .t 14]])
(.seq (.cond (.t 16)
.skip
(.exit 0))
(.seq (.block 1 (.seq (.ops [zP 17 (.iaddrS 7) [.t 13, .t 15],
⟨some 18, none, .r (.loadN 7), [.t 17]⟩,
⟨some 10, none, .a (.alloc [(.int .i64 0), (.int .i64 0), (.int .i64 0), (.int .i64 0), (.int .i64 0), (.int .i64 0), (.str [])]), []⟩,
zS 7 [.t 10, .t 18]])
(.seq (.ops [zF 19 10 1,
zL 20 19,
zP 21 (.bin .eql) [.t 20, .c (.int .i64 1)],
zM 22 21,
zMg 23 2 22 true,
zFg 24 10 0 22 true,
zLg 25 24 22 true,
zPg 26 (.bin .leq) [.t 23, .t 25] 22 true,
zP 27 .pick [.t 22, .t 26, .c (.bool false)],
zM 28 27,
zFg 29 10 0 28 true,
zLg 30 29 28 true,
zMg 31 3 28 true,
zPg 32 (.bin .lss) [.t 30, .t 31] 28 true,
zP 33 .pick [.t 28, .t 32, .c (.bool false)]])
(.cond (.t 33)
(.ops [zM 34 8,
zP 35 (.bin .add) [.t 34, .c (.int .i64 1)],
zM 8 35])
.skip))))
(.ops [zP 36 (.bin .add) [.t 15, .c (.int .i64 1)],
zM 15 36]))))
def C25 : AFunc := ⟨38, [.tmp 8],
(.seq (.ops [zP 8 .mov [.c (.int .i64 0)]])
(.seq (.seq (.ops [zM 11 0,
zM 12 1,
⟨some 13, none, .call, [.c (.func (.func 23) [] []), .t 11, .t 12]⟩,
zP 14 .lenS [.t 13],
zP 15 .mov [.c (.int .i64 0)]])
(.block 0 (.loop L_judge_Ran_0)))
(.seq (.ops [zM 37 8,
zM 8 37])
.ret)))⟩
abbrev f_judge_Ran : Nat := 25
abbrev C_judge_Ran : AFunc := C25
def L_escapementref26_Ran_0 : AC := (.seq (.seq (.ops [zM 11 10,
zM 12 0,
zP 13 .lenS [.t 12],
zP 14 (.bin .lss) [.t 11, .t 13]])
(.cond (.t 14)
.skip
(.exit 0)))
(.seq (.block 1 (.seq (.ops [zM 17 0,
zM 18 10,
zP 19 (.iaddrS 7) [.t 17, .t 18],
zF 20 19 1,
zL 21 20,
zP 22 (.bin .eql) [.t 21, .c (.int .i64 1)],
zM 23 22,
zMg 24 0 23 true,
zMg 25 10 23 true,
zPg 26 (.iaddrS 7) [.t 24, .t 25] 23 true,
zFg 27 26 2 23 true,
zLg 28 27 23 true,
zMg 29 1 23 true,
zPg 30 (.bin .eql) [.t 28, .t 29] 23 true,
zP 31 .pick [.t 23, .t 30, .c (.bool false)],
zM 32 31,
zMg 33 0 32 true,
zMg 34 10 32 true,
zPg 35 (.iaddrS 7) [.t 33, .t 34] 32 true,
zFg 36 35 0 32 true,
zLg 37 36 32 true,
zMg 38 2 32 true,
zPg 39 (.bin .geq) [.t 37, .t 38] 32 true,
zP 40 .pick [.t 32, .t 39, .c (.bool false)],
zM 41 40,
zMg 42 0 41 true,
zMg 43 10 41 true,
zPg 44 (.iaddrS 7) [.t 42, .t 43] 41 true,
zFg 45 44 0 41 true,
zLg 46 45 41 true,
zMg 47 3 41 true,
zPg 48 (.bin .lss) [.t 46, .t 47] 41 true,
zP 49 .pick [.t 41, .t 48, .c (.bool false)]])
(.cond (.t 49)
(.ops [zM 50 9,
zP 51 (.bin .add) [.t 50, .c (.int .i64 1)],
zM 9 51])
.skip)))
(.ops [zM 15 10,
zP 16 (.bin .add) [.t 15, .c (.int .i64 1)],
zM 10 16])))
def C26 : AFunc := ⟨53, [.tmp 8],
(.seq (.ops [zP 8 .mov [.c (.int .i64 0)]])
(.seq (.ops [zP 9 .mov [.c (.int .i64 0)]])
(.seq (.seq (.ops [zP 10 .mov [.c (.int .i64 0)]])
(.block 0 (.loop L_escapementref26_Ran_0)))
(.seq (.ops [zM 52 9,
zM 8 52])
.ret))))⟩
abbrev f_escapementref26_Ran : Nat := 26
abbrev C_escapementref26_Ran : AFunc := C26
def C27 : AFunc := ⟨11, [.cell 0 2 true],
(.seq (.ops [⟨some 0, none, .a (.alloc [.nils, .nils]), []⟩])
(.seq (.ops [zP 2 (.build [(.int .i64 0), (.int .i64 0), (.int .i64 0), (.int .i64 0), (.int .i64 0), (.int .i64 0), (.int .i64 0), (.int .i64 0)] [(0, 1), (1, 1), (2, 1), (5, 1), (6, 1), (7, 1)]) [.c (.int .i64 40), .c (.int .i64 30), .c (.int .i64 3), .c (.int .i64 2), .c (.int .i64 2), .c (.int .i64 1)],
⟨some 1, none, .a (.alloc [(.int .i64 0), (.int .i64 0), (.int .i64 0), (.int .i64 0), (.int .i64 0), (.int .i64 0), (.int .i64 0), (.int .i64 0)]), []⟩,
zS 8 [.t 1, .t 2]])
(.seq (.ops [⟨some 3, none, .r (.loadN 8), [.t 1]⟩,
⟨some 4, none, .a (.bslice [(.int .i64 0), (.int .i64 0), (.int .i64 0), (.int .i64 0), (.int .i64 0), (.int .i64 0), (.int .i64 0), (.int .i64 0)] 1 8 [0]), [.t 3]⟩,
zP 5 (.build [(.int .i64 0), (.int .i64 0), .nils] [(0, 1), (1, 1), (2, 1)]) [.c (.int .i64 4), .c (.int .i64 2), .t 4],
⟨some 6, none, .r (.loadN 8), [.t 1]⟩,
⟨some 7, none, .a (.bslice [(.int .i64 0), (.int .i64 0), (.int .i64 0), (.int .i64 0), (.int .i64 0), (.int .i64 0), (.int .i64 0), (.int .i64 0)] 1 8 [0]), [.t 6]⟩,
zP 8 (.build [(.int .i64 0), (.int .i64 0), .nils] [(0, 1), (1, 1), (2, 1)]) [.c (.int .i64 4), .c (.int .i64 2), .t 7],
⟨some 9, none, .a (.bslice [(.int .i64 0), (.int .i64 0), .nils] 2 3 [0, 1]), [.t 5, .t 8]⟩,
zP 10 (.build [.nils, .nils] [(0, 1)]) [.t 9],
zS 2 [.t 0, .t 10]])
.ret)))⟩
abbrev f_escapementlaw26_two : Nat := 27
abbrev C_escapementlaw26_two : AFunc := C27
def C41 : AFunc := ⟨27, [.tmp 2],
(.seq (.ops [⟨some 1, none, .a .box, [.t 0]⟩,
zP 2 .mov [.c (.int .i64 0)]])
(.seq (.ops [zF 4 1 0,
zL 5 4,
⟨some 6, none, .call, [.c (.func (.func 56) [] []), .t 5, .c (.func (.func 57) [] [])]⟩,
zM 7 6,
zFg 8 1 1 7 false,
zLg 9 8 7 false,
zPg 10 (.mkfunc (.func 60) 0) [.t 1] 7 false,
⟨some 11, some (7, false), .call, [.c (.func (.func 59) [] []), .t 9, .t 10]⟩,
zP 12 .pick [.t 7, .c (.bool true), .t 11],
zM 3 12])
(.seq (.seq (.ops [zM 13 3,
zM 14 13,
zFg 15 1 0 14 false,
zLg 16 15 14 false,
zPg 17 .lenS [.t 16] 14 false,
⟨some 18, some (14, false), .call, [.c (.func (.func 62) [] []), .t 17, .c (.int .i64 1), .c (.int .i64 4)]⟩,
zPg 19 .not [.t 18] 14 false,
zP 20 .pick [.t 14, .c (.bool true), .t 19],
zM 21 20,
zFg 22 1 1 21 false,
zLg 23 22 21 false,
zPg 24 .lenS [.t 23] 21 false,
zPg 25 (.bin .gtr) [.t 24, .c (.int .i64 8)] 21 false,
zP 26 .pick [.t 21, .c (.bool true), .t 25]])
(.cond (.t 26)
(.seq (.ops [zP 2 .mov [.c (.int .i64 50)]])
.ret)
.skip))
(.seq (.ops [zP 2 .mov [.c (.int .i64 0)]])
.ret))))⟩
abbrev f_conf_Check : Nat := 41
abbrev C_conf_Check : AFunc := C41
def C42 : AFunc := ⟨8, [.tmp 2],
(.seq (.ops [zP 2 .mov [.c .nils]])
(.seq (.seq (.ops [zM 3 0,
zP 4 (.eq .nilsl) [.t 3, .c .nils]])
(.cond (.t 4)
(.seq (.ops [zP 2 .mov [.c .nils]])
.ret)
.skip))
(.seq (.ops [⟨some 5, none, .a (.bslice [(.int .i64 0), (.int .i64 0), .nils] 0 3 []), []⟩,
zM 6 0,
⟨some 7, none, .e (.append 3 40), [.t 5, .t 6]⟩,
zM 2 7])
.ret)))⟩
abbrev f_slices_Clone_api_Part_api_Part : Nat := 42
abbrev C_slices_Clone_api_Part_api_Part : AFunc := C42
def L_judge_look_find_0 : AC := (.seq (.ops [zP 11 (.bin .lss) [.t 10, .t 9]])
(.seq (.cond (.t 11)
.skip
(.exit 0))
(.seq (.block 1 (.seq (.ops [zM 12 10,
zP 13 (.iaddrS 7) [.t 8, .t 10],
⟨some 14, none, .r (.loadN 7), [.t 13]⟩,
⟨some 6, none, .a (.alloc [(.int .i64 0), (.int .i64 0), (.int .i64 0), (.int .i64 0), (.int .i64 0), (.int .i64 0), (.str [])]), []⟩,
zM 5 12,
zS 7 [.t 6, .t 14]])
(.seq (.ops [zM 15 0,
zM 16 5,
zN 17 15,
zF 18 17 98,
zS 1 [.t 18, .t 16]])
(.ops [zM 19 0,
⟨some 20, none, .r (.loadN 7), [.t 6]⟩,
⟨some 21, none, .call, [.c (.func (.func 64) [] []), .t 19, .t 20]⟩]))))
(.ops [zP 22 (.bin .add) [.t 10, .c (.int .i64 1)],
zM 10 22]))))
def C43 : AFunc := ⟨34, [.cell 4 1 false],
(.seq (.ops [⟨some 4, none, .a (.alloc [(.int .i64 0)]), []⟩])
(.seq (.ops [zP 7 (.mkfunc (.func 63) 0) [.t 4],
⟨none, none, .bad, [.c (.bool true), .t 7, .t 7, .t 7]⟩])
(.seq (.seq (.ops [zM 8 1,
zP 9 .lenS [.t 8],
zP 10 .mov [.c (.int .i64 0)]])
(.block 0 (.loop L_judge_look_find_0)))
(.seq (.ops [zM 23 0,
zM 24 1,
zP 25 .lenS [.t 24],
zN 26 23,
zF 27 26 98,
zS 1 [.t 27, .t 25]])
(.seq (.ops [zM 28 0,
zM 29 0,
zN 30 29,
zF 31 30 94,
zL 32 31,
⟨some 33, none, .call, [.c (.func (.func 65) [] []), .t 28, .t 32]⟩])
(.seq (.ops [zS 1 [.t 4, .c (.int .i64 0)]])
.ret))))))⟩
abbrev f_judge_look_find : Nat := 43
abbrev C_judge_look_find : AFunc := C43
def L_escapementref05_Check_0 : AC := (.seq (.seq (.ops [zM 16 3,
zF 17 1 0,
zL 18 17,
zP 19 .lenS [.t 18],
zP 20 (.bin .lss) [.t 16, .t 19]])
(.cond (.t 20)
.skip
(.exit 0)))
(.seq (.block 1 (.seq (.ops [zF 23 1 0,
zL 24 23,
zM 25 3,
zP 26 (.iaddrS 3) [.t 24, .t 25],
⟨some 27, none, .r (.loadN 3), [.t 26]⟩,
⟨some 28, none, .call, [.c (.func (.func 67) [] []), .t 27]⟩,
zP 29 .not [.t 28]])
(.cond (.t 29)
(.seq (.ops [zP 2 .mov [.c (.int .i64 50)]])
.ret)
.skip)))
(.ops [zM 21 3,
zP 22 (.bin .add) [.t 21, .c (.int .i64 1)],
zM 3 22])))
def L_escapementref05_Check_1 : AC := (.seq (.seq (.ops [zM 30 4,
zF 31 1 1,
zL 32 31,
zP 33 .lenS [.t 32],
zP 34 (.bin .lss) [.t 30, .t 33]])
(.cond (.t 34)
.skip
(.exit 2)))
(.seq (.block 3 (.seq (.dops [zF 37 1 1,
zL 38 37,
zM 39 4,
zP 40 (.iaddrS 6) [.t 38, .t 39],
⟨some 41, none, .r (.loadN 6), [.t 40]⟩,
zF 42 1 0,
zL 43 42,
zP 44 .lenS [.t 43],
⟨some 45, none, .call, [.c (.func (.func 68) [] []), .t 41, .t 44]⟩,
zP 46 .not [.t 45]] [[], [], [], [], [], [], [], [], [], []])
(.cond (.t 46)
(.seq (.ops [zP 2 .mov [.c (.int .i64 50)]])
.ret)
.skip)))
(.ops [zM 35 4,
zP 36 (.bin .add) [.t 35, .c (.int .i64 1)],
zM 4 36])))
def C44 : AFunc := ⟨47, [.tmp 2],
(.seq (.ops [⟨some 1, none, .a .box, [.t 0]⟩,
zP 2 .mov [.c (.int .i64 0)]])
(.seq (.seq (.ops [zF 5 1 0,
zL 6 5,
zP 7 .lenS [.t 6],
⟨some 8, none, .call, [.c (.func (.func 66) [] []), .t 7, .c (.int .i64 1), .c (.int .i64 4)]⟩,
zP 9 .not [.t 8],
zM 10 9,
zFg 11 1 1 10 false,
zLg 12 11 10 false,
zPg 13 .lenS [.t 12] 10 false,
zPg 14 (.bin .gtr) [.t 13, .c (.int .i64 8)] 10 false,
zP 15 .pick [.t 10, .c (.bool true), .t 14]])
(.cond (.t 15)
(.seq (.ops [zP 2 .mov [.c (.int .i64 50)]])
.ret)
.skip))
(.seq (.seq (.ops [zP 3 .mov [.c (.int .i64 0)]])
(.block 0 (.loop L_escapementref05_Check_0)))
(.seq (.seq (.ops [zP 4 .mov [.c (.int .i64 0)]])
(.block 2 (.loop L_escapementref05_Check_1)))
(.seq (.ops [zP 2 .mov [.c (.int .i64 0)]])
.ret)))))⟩
abbrev f_escapementref05_Check : Nat := 44
abbrev C_escapementref05_Check : AFunc := C44
def C45 : AFunc := ⟨86, [.tmp 6],
(.seq (.ops [⟨some 4, none, .a .box, [.t 1]⟩,
zP 6 .mov [.c (.bool false)]])
(.seq (.seq (.dops [zF 8 4 0,
zL 9 8,
zM 10 0,
zN 11 10,
zF 12 11 94,
zL 13 12,
zP 14 (.bin .lss) [.t 9, .t 13],
zM 15 14,
zFg 16 4 0 15 false,
zLg 17 16 15 false,
zMg 18 2 15 false,
zPg 19 (.bin .gtr) [.t 17, .t 18] 15 false,
zP 20 .pick [.t 15, .c (.bool true), .t 19],
zM 21 20,
zFg 22 4 1 21 false,
zLg 23 22 21 false,
zPg 24 (.bin .lss) [.t 23, .c (.int .i64 1)] 21 false,
zP 25 .pick [.t 21, .c (.bool true), .t 24],
zM 26 25,
zFg 27 4 1 26 false,
zLg 28 27 26 false,
zPg 29 (.bin .gtr) [.t 28, .c (.int .i64 8)] 26 false,
zP 30 .pick [.t 26, .c (.bool true), .t 29],
zM 31 30,
zFg 32 4 2 31 false,
zLg 33 32 31 false,
zPg 34 (.bin .lss) [.t 33, .c (.int .i64 0)] 31 false,
zP 35 .pick [.t 31, .c (.bool true), .t 34],
zM 36 35,
zFg 37 4 2 36 false,
zLg 38 37 36 false,
zMg 39 0 36 false,
zNg 40 39 36 false,
zFg 41 40 0 36 false,
zFg 42 41 0 36 false,
zLg 43 42 36 false,
zPg 44 .lenS [.t 43] 36 false,
zPg 45 (.bin .geq) [.t 38, .t 44] 36 false,
zP 46 .pick [.t 36, .c (.bool true), .t 45]] [[], [], [], [], [], [], [], [], [], [], [], [], [], [], [], [], [], [], [], [], [], [], [], [], [], [], [], [], [], [], [], [], [], [], [], [], [], [], []])
(.cond (.t 46)
(.seq (.ops [zP 6 .mov [.c (.bool false)]])
.ret)
.skip))
(.seq (.seq (.ops [zF 47 4 1,
zL 48 47,
zP 49 (.bin .eql) [.t 48, .c (.int .i64 6)],
zM 50 49,
zFg 51 4 1 50 false,
zLg 52 51 50 false,
zPg 53 (.bin .eql) [.t 52, .c (.int .i64 7)] 50 false,
zP 54 .pick [.t 50, .c (.bool true), .t 53],
zM 55 54,
zFg 56 4 1 55 false,
zLg 57 56 55 false,
zPg 58 (.bin .eql) [.t 57, .c (.int .i64 8)] 55 false,
zP 59 .pick [.t 55, .c (.bool true), .t 58]])
(.cond (.t 59)
(.seq (.ops [zF 60 4 3,
zL 61 60,
zP 62 (.bin .eql) [.t 61, .c (.int .i64 0)],
zM 6 62])
.ret)
.skip))
(.seq (.ops [zP 7 .mov [.c (.int .i64 0)]])
(.seq (.seq (.ops [zF 63 4 1,
zL 64 63,
zP 65 (.bin .eql) [.t 64, .c (.int .i64 1)]])
(.cond (.t 65)
(.ops [zP 7 .mov [.c (.int .i64 (-1))]])
.skip))
(.seq (.dops [zF 66 4 3,
zL 67 66,
zM 68 7,
zP 69 (.bin .geq) [.t 67, .t 68],
zM 70 69,
zFg 71 4 3 70 true,
zLg 72 71 70 true,
zMg 73 0 70 true,
zNg 74 73 70 true,
zFg 75 74 0 70 true,
zFg 76 75 0 70 true,
zLg 77 76 70 true,
zFg 78 4 2 70 true,
zLg 79 78 70 true,
zPg 80 (.iaddrS 3) [.t 77, .t 79] 70 true,
zFg 81 80 2 70 true,
zLg 82 81 70 true,
zPg 83 .lenS [.t 82] 70 true,
zPg 84 (.bin .lss) [.t 72, .t 83] 70 true,
zP 85 .pick [.t 70, .t 84, .c (.bool false)],
zM 6 85] [[], [], [], [], [], [], [], [], [], [], [], [], [], [], [], [], [], [], [], [], []])
.ret))))))⟩
abbrev f_escapementref26_known_shaped : Nat := 45
abbrev C_escapementref26_known_shaped : AFunc := C45
def L_escapementref26_known_to_0 : AC := (.seq (.seq (.ops [zM 6 0,
zN 7 6,
zF 8 7 94,
zL 9 8,
zM 10 1,
zP 11 (.bin .lss) [.t 9, .t 10]])
(.cond (.t 11)
.skip
(.exit 0)))
(.block 1 (.seq (.ops [zM 12 0,
⟨some 13, none, .call, [.c (.func (.func 69) [] []), .t 12]⟩,
zM 5 13])
(.seq (.ops [zM 14 5,
zP 15 (.bin .gtr) [.t 14, .c (.int .i64 0)]])
(.cond (.t 15)
(.seq (.ops [zM 16 5,
zM 4 16])
.ret)
.skip)))))
def C46 : AFunc := ⟨17, [.tmp 4],
(.seq (.ops [zP 4 .mov [.c (.int .i64 0)]])
(.seq (.block 0 (.loop L_escapementref26_known_to_0))
(.seq (.ops [zP 4 .mov [.c (.int .i64 0)]])
.ret)))⟩
abbrev f_escapementref26_known_to : Nat := 46
abbrev C_escapementref26_known_to : AFunc := C46
def C47 : AFunc := ⟨112, [.tmp 4],
(.seq (.ops [⟨some 3, none, .a .box, [.t 1]⟩,
zP 4 .mov [.c (.int .i64 0)]])
(.seq (.dops [zM 7 0,
zF 8 3 2,
zL 9 8,
zN 10 7,
zF 11 10 2,
zP 12 (.iaddrA 23 4) [.t 11, .t 9],
⟨some 13, none, .r (.loadN 23), [.t 12]⟩,
⟨some 5, none, .a (.alloc [(.bool false), (.int .i64 0), (.int .i64 0), (.int .i64 0), (.int .i64 0), (.bool false), (.int .i64 0), (.int .i64 0), (.int .i64 0), (.bool false), (.int .i64 0), (.int .i64 0), (.int .i64 0), (.bool false), (.int .i64 0), (.int .i64 0), (.int .i64 0), (.bool false), (.int .i64 0), (.int .i64 0), (.int .i64 0), (.bool false), (.int .i64 0)]), []⟩,
zS 23 [.t 5, .t 13]] [[], [], [], [], [], [], [], [], []])
(.seq (.ops [⟨some 6, none, .a (.alloc [(.int .i64 0), (.int .i64 0), (.int .i64 0), (.int .i64 0), (.int .i64 0), (.int .i64 0), (.int .i64 0), (.int .i64 0)]), []⟩])
(.seq (.seq (.dops [zF 14 3 3,
zL 15 14,
zP 16 (.bin .geq) [.t 15, .c (.int .i64 0)],
zM 17 16,
zFg 18 3 3 17 true,
zLg 19 18 17 true,
zMg 20 0 17 true,
zNg 21 20 17 true,
zFg 22 21 0 17 true,
zFg 23 22 0 17 true,
zLg 24 23 17 true,
zFg 25 3 2 17 true,
zLg 26 25 17 true,
zPg 27 (.iaddrS 3) [.t 24, .t 26] 17 true,
zFg 28 27 2 17 true,
zLg 29 28 17 true,
zPg 30 .lenS [.t 29] 17 true,
zPg 31 (.bin .lss) [.t 19, .t 30] 17 true,
zP 32 .pick [.t 17, .t 31, .c (.bool false)]] [[], [], [], [], [], [], [], [], [], [], [], [], [], [], [], [], [], [], []])
(.cond (.t 32)
(.dops [zM 33 0,
zN 34 33,
zF 35 34 0,
zF 36 35 0,
zL 37 36,
zF 38 3 2,
zL 39 38,
zP 40 (.iaddrS 3) [.t 37, .t 39],
zF 41 40 2,
zL 42 41,
zF 43 3 3,
zL 44 43,
zP 45 (.iaddrS 8) [.t 42, .t 44],
⟨some 46, none, .r (.loadN 8), [.t 45]⟩,
zS 8 [.t 6, .t 46]] [[], [], [], [], [], [], [], [], [], [], [], [], [], [], []])
.skip))
(.seq (.block 0 (.seq (.ops [zF 48 5 0,
zL 49 48,
zF 50 3 1,
zL 51 50,
zP 52 (.bin .eql) [.t 51, .c (.int .i64 6)],
zP 53 (.eq .bool) [.t 49, .t 52],
zM 47 53])
(.cond (.t 47)
(.seq (.ops [zP 4 .mov [.c (.int .i64 2)]])
.ret)
(.seq (.dops [zF 55 3 1,
zL 56 55,
zP 57 (.bin .eql) [.t 56, .c (.int .i64 1)],
zM 58 57,
zMg 59 0 58 true,
zNg 60 59 58 true,
zFg 61 60 95 58 true,
zLg 62 61 58 true,
zMg 63 62 58 true,
zMg 64 0 63 false,
⟨some 65, some (63, false), .call, [.c (.func (.func 70) [] []), .t 64]⟩,
zFg 66 3 2 63 false,
zLg 67 66 63 false,
zPg 68 (.bin .neq) [.t 65, .t 67] 63 false,
zPg 69 .pick [.t 63, .c (.bool true), .t 68] 58 true,
zP 70 .pick [.t 58, .t 69, .c (.bool false)],
zM 54 70] [[], [], [], [], [], [], [], [], [], [], [], [], [0, 11], [], [], [], []])
(.cond (.t 54)
(.seq (.ops [zP 4 .mov [.c (.int .i64 3)]])
.ret)
(.seq (.ops [⟨some 72, none, .r (.loadN 23), [.t 5]⟩,
⟨some 73, none, .r (.loadN 7), [.t 3]⟩,
⟨some 74, none, .call, [.c (.func (.func 71) [] []), .t 72, .t 73]⟩,
zP 75 .not [.t 74],
zM 71 75])
(.cond (.t 71)
(.seq (.ops [zP 4 .mov [.c (.int .i64 5)]])
.ret)
(.seq (.dops [zF 77 3 1,
zL 78 77,
zP 79 (.bin .eql) [.t 78, .c (.int .i64 2)],
zM 80 79,
zFg 81 3 5 80 true,
zLg 82 81 80 true,
zPg 83 (.bin .eql) [.t 82, .c (.int .i64 0)] 80 true,
zP 84 .pick [.t 80, .t 83, .c (.bool false)],
zM 85 84,
zFg 86 3 0 85 true,
zLg 87 86 85 true,
zFg 88 3 3 85 true,
zLg 89 88 85 true,
zFg 90 5 5 85 true,
zPg 91 (.iaddrA 4 4) [.t 90, .t 89] 85 true,
zFg 92 91 3 85 true,
zLg 93 92 85 true,
zPg 94 (.bin .lss) [.t 87, .t 93] 85 true,
zP 95 .pick [.t 85, .t 94, .c (.bool false)],
zM 76 95] [[], [], [], [], [], [], [], [], [], [], [], [], [], [], [], [], [], [], [], []])
(.cond (.t 76)
(.seq (.ops [zP 4 .mov [.c (.int .i64 6)]])
.ret)
(.seq (.ops [zF 97 3 3,
zL 98 97,
zP 99 (.bin .geq) [.t 98, .c (.int .i64 0)],
zM 100 99,
⟨some 101, some (100, true), .r (.loadN 23), [.t 5]⟩,
⟨some 102, some (100, true), .r (.loadN 7), [.t 3]⟩,
⟨some 103, some (100, true), .r (.loadN 8), [.t 6]⟩,
⟨some 104, some (100, true), .call, [.c (.func (.func 72) [] []), .t 101, .t 102, .t 103]⟩,
zPg 105 .not [.t 104] 100 true,
zP 106 .pick [.t 100, .t 105, .c (.bool false)],
zM 96 106])
(.cond (.t 96)
(.seq (.ops [zP 4 .mov [.c (.int .i64 7)]])
.ret)
(.seq (.ops [zM 108 0,
⟨some 109, none, .r (.loadN 7), [.t 3]⟩,
⟨some 110, none, .call, [.c (.func (.func 73) [] []), .t 108, .t 109]⟩,
zP 111 .not [.t 110],
zM 107 111])
(.cond (.t 107)
(.seq (.ops [zP 4 .mov [.c (.int .i64 8)]])
.ret)
.skip)))))))))))))
(.seq (.ops [zP 4 .mov [.c (.int .i64 0)]])
.ret))))))⟩
abbrev f_escapementref26_known_breaks : Nat := 47
abbrev C_escapementref26_known_breaks : AFunc := C47
def C48 : AFunc := ⟨119, [],
(.seq (.ops [⟨some 3, none, .a .box, [.t 1]⟩])
(.seq (.ops [zM 5 0,
⟨some 6, none, .r (.loadN 7), [.t 3]⟩,
⟨some 7, none, .call, [.c (.func (.func 74) [] []), .t 5, .t 6]⟩])
(.seq (.dops [zM 8 0,
zF 9 3 2,
zL 10 9,
zN 11 8,
zF 12 11 2,
zP 13 (.iaddrA 23 4) [.t 12, .t 10],
⟨some 14, none, .r (.loadN 23), [.t 13]⟩,
⟨some 4, none, .a (.alloc [(.bool false), (.int .i64 0), (.int .i64 0), (.int .i64 0), (.int .i64 0), (.bool false), (.int .i64 0), (.int .i64 0), (.int .i64 0), (.bool false), (.int .i64 0), (.int .i64 0), (.int .i64 0), (.bool false), (.int .i64 0), (.int .i64 0), (.int .i64 0), (.bool false), (.int .i64 0), (.int .i64 0), (.int .i64 0), (.bool false), (.int .i64 0)]), []⟩,
zS 23 [.t 4, .t 14]] [[], [], [], [], [], [], [], [], []])
(.seq (.seq (.ops [zF 15 3 1,
zL 16 15])
(.block 0 (.seq (.ops [zP 18 (.bin .eql) [.t 16, .c (.int .i64 2)],
zM 17 18])
(.cond (.t 17)
(.seq (.ops [zF 19 3 5,
zL 20 19,
zP 21 (.bin .eql) [.t 20, .c (.int .i64 0)]])
(.cond (.t 21)
(.dops [zF 22 3 3,
zL 23 22,
zF 24 3 0,
zL 25 24,
zF 26 3 0,
zL 27 26,
zM 28 0,
zN 29 28,
zF 30 29 0,
zF 31 30 0,
zL 32 31,
zF 33 3 2,
zL 34 33,
zP 35 (.iaddrS 3) [.t 32, .t 34],
zF 36 35 2,
zL 37 36,
zF 38 3 3,
zL 39 38,
zP 40 (.iaddrS 8) [.t 37, .t 39],
zF 41 40 0,
zL 42 41,
zP 43 (.bin .add) [.t 27, .t 42],
zP 44 (.build [(.bool false), (.int .i64 0), (.int .i64 0), (.int .i64 0)] [(0, 1), (1, 1), (3, 1)]) [.c (.bool true), .t 25, .t 43],
zF 45 4 5,
zP 46 (.iaddrA 4 4) [.t 45, .t 23],
zS 4 [.t 46, .t 44]] [[], [], [], [], [], [], [], [], [], [], [], [], [], [], [], [], [], [], [], [], [], [], [], [], [], []])
.skip))
(.seq (.ops [zP 48 (.bin .eql) [.t 16, .c (.int .i64 1)],
zM 47 48])
(.cond (.t 47)
(.seq (.ops [zM 49 0,
zN 50 49,
zF 51 50 95,
zS 1 [.t 51, .c (.bool true)]])
(.seq (.ops [zF 52 4 4,
zL 53 52,
zP 54 (.bin .add) [.t 53, .c (.int .i64 1)],
zF 55 4 4,
zS 1 [.t 55, .t 54]])
(.seq (.ops [zF 56 3 3,
zL 57 56,
zP 58 (.bin .geq) [.t 57, .c (.int .i64 0)]])
(.cond (.t 58)
(.dops [zF 59 3 3,
zL 60 59,
zF 61 3 3,
zL 62 61,
zF 63 4 5,
zP 64 (.iaddrA 4 4) [.t 63, .t 62],
zF 65 64 2,
zL 66 65,
zP 67 (.bin .add) [.t 66, .c (.int .i64 1)],
zF 68 4 5,
zP 69 (.iaddrA 4 4) [.t 68, .t 60],
zF 70 69 2,
zS 1 [.t 70, .t 67]] [[], [], [], [], [], [], [], [], [], [], [], [], []])
.skip))))
(.seq (.seq (.ops [zP 72 (.bin .eql) [.t 16, .c (.int .i64 3)],
zM 71 72])
(.cond (.t 71)
.skip
(.ops [zP 73 (.bin .eql) [.t 16, .c (.int .i64 4)],
zM 71 73])))
(.cond (.t 71)
(.seq (.ops [zF 74 3 3,
zL 75 74,
zF 76 4 5,
zP 77 (.iaddrA 4 4) [.t 76, .t 75],
zF 78 77 0,
zS 1 [.t 78, .c (.bool false)]])
(.ops [zF 79 4 21,
zL 80 79,
zM 81 80,
zFg 82 4 22 81 true,
zLg 83 82 81 true,
zFg 84 3 3 81 true,
zLg 85 84 81 true,
zPg 86 (.bin .neq) [.t 83, .t 85] 81 true,
zP 87 .pick [.t 81, .t 86, .c (.bool false)],
zF 88 4 21,
zS 1 [.t 88, .t 87]]))
(.seq (.ops [zP 90 (.bin .eql) [.t 16, .c (.int .i64 5)],
zM 89 90])
(.cond (.t 89)
(.seq (.seq (.ops [zF 91 3 5,
zL 92 91,
zP 93 (.bin .eql) [.t 92, .c (.int .i64 0)],
zM 94 93,
zFg 95 3 4 94 true,
zLg 96 95 94 true,
zPg 97 (.bin .eql) [.t 96, .c (.int .i64 4)] 94 true,
zP 98 .pick [.t 94, .t 97, .c (.bool false)]])
(.cond (.t 98)
(.seq (.ops [zF 99 4 21,
zS 1 [.t 99, .c (.bool true)]])
(.ops [zF 100 3 3,
zL 101 100,
zF 102 4 22,
zS 1 [.t 102, .t 101]]))
.skip))
(.seq (.ops [zF 103 3 5,
zL 104 103,
zP 105 (.bin .eql) [.t 104, .c (.int .i64 0)],
zM 106 105,
zFg 107 3 4 106 true,
zLg 108 107 106 true,
zPg 109 (.bin .eql) [.t 108, .c (.int .i64 5)] 106 true,
zP 110 .pick [.t 106, .t 109, .c (.bool false)]])
(.cond (.t 110)
(.ops [zF 111 4 21,
zS 1 [.t 111, .c (.bool false)]])
.skip)))
.skip))))))))))
(.dops [zM 112 0,
zF 113 3 2,
zL 114 113,
⟨some 115, none, .r (.loadN 23), [.t 4]⟩,
zN 116 112,
zF 117 116 2,
zP 118 (.iaddrA 23 4) [.t 117, .t 114],
zS 23 [.t 118, .t 115]] [[], [], [], [], [], [], [], []])))))⟩
abbrev f_escapementref26_known_behind : Nat := 48
abbrev C_escapementref26_known_behind : AFunc := C48
def C49 : AFunc := ⟨32, [.tmp 8],
(.seq (.ops [zP 8 .mov [.c (.bool false)]])
(.seq (.ops [⟨some 13, none, .call, [.c (.func (.func 75) [] [])]⟩,
zM 14 3,
zM 15 0,
⟨some 16, none, .call, [.c (.func (.func 18) [] []), .t 13, .t 14, .t 15]⟩,
zM 12 16,
zP 17 (.ext 0) [.t 12],
zP 18 (.ext 1) [.t 12],
zP 19 (.ext 2) [.t 12],
zM 9 17,
zM 10 18,
zM 11 19])
(.seq (.ops [zM 20 9,
zM 21 1,
zP 22 (.bin .eql) [.t 20, .t 21],
zM 23 22,
zMg 24 10 23 true,
zMg 25 2 23 true,
zPg 26 (.bin .eql) [.t 24, .t 25] 23 true,
zP 27 .pick [.t 23, .t 26, .c (.bool false)],
zM 28 27,
zMg 29 11 28 true,
zPg 30 (.bin .eql) [.t 29, .c (.int .i64 0)] 28 true,
zP 31 .pick [.t 28, .t 30, .c (.bool false)],
zM 8 31])
.ret)))⟩
abbrev f_escapementlaw26_finds : Nat := 49
abbrev C_escapementlaw26_finds : AFunc := C49
def C56 : AFunc := ⟨9, [.tmp 4],
(.seq (.ops [zP 4 .mov [.c (.bool false)]])
(.seq (.ops [zM 5 0,
zM 6 1,
⟨some 7, none, .call, [.c (.func (.func 79) [] []), .t 5, .t 6]⟩,
zP 8 (.bin .geq) [.t 7, .c (.int .i64 0)],
zM 4 8])
.ret))⟩
abbrev f_slices_ContainsFunc_api_Part_api_Part : Nat := 56
abbrev C_slices_ContainsFunc_api_Part_api_Part : AFunc := C56
def C57 : AFunc := ⟨6, [.tmp 2],
(.seq (.ops [⟨some 1, none, .a .box, [.t 0]⟩,
zP 2 .mov [.c (.bool false)]])
(.seq (.ops [⟨some 3, none, .r (.loadN 3), [.t 1]⟩,
⟨some 4, none, .call, [.c (.func (.func 58) [] []), .t 3]⟩,
zP 5 .not [.t 4],
zM 2 5])
.ret))⟩
abbrev f_conf_Check_1 : Nat := 57
abbrev C_conf_Check_1 : AFunc := C57
def C58 : AFunc := ⟨26, [.tmp 2],
(.seq (.ops [⟨some 1, none, .a .box, [.t 0]⟩,
zP 2 .mov [.c (.bool false)]])
(.seq (.seq (.ops [zF 3 1 0,
zL 4 3,
⟨some 5, none, .call, [.c (.func (.func 62) [] []), .t 4, .c (.int .i64 1), .c (.int .i64 64)]⟩,
zP 6 .not [.t 5],
zM 7 6,
zFg 8 1 1 7 false,
zLg 9 8 7 false,
zFg 10 1 0 7 false,
zLg 11 10 7 false,
⟨some 12, some (7, false), .call, [.c (.func (.func 62) [] []), .t 9, .c (.int .i64 1), .t 11]⟩,
zPg 13 .not [.t 12] 7 false,
zP 14 .pick [.t 7, .c (.bool true), .t 13],
zM 15 14,
zFg 16 1 2 15 false,
zLg 17 16 15 false,
zPg 18 .lenS [.t 17] 15 false,
zPg 19 (.bin .gtr) [.t 18, .c (.int .i64 4)] 15 false,
zP 20 .pick [.t 15, .c (.bool true), .t 19]])
(.cond (.t 20)
(.seq (.ops [zP 2 .mov [.c (.bool false)]])
.ret)
.skip))
(.seq (.ops [zF 21 1 2,
zL 22 21,
zP 23 (.mkfunc (.func 81) 0) [.t 1],
⟨some 24, none, .call, [.c (.func (.func 80) [] []), .t 22, .t 23]⟩,
zP 25 .not [.t 24],
zM 2 25])
.ret)))⟩
abbrev f_conf_partMay : Nat := 58
abbrev C_conf_partMay : AFunc := C58
def C59 : AFunc := ⟨9, [.tmp 4],
(.seq (.ops [zP 4 .mov [.c (.bool false)]])
(.seq (.ops [zM 5 0,
zM 6 1,
⟨some 7, none, .call, [.c (.func (.func 83) [] []), .t 5, .t 6]⟩,
zP 8 (.bin .geq) [.t 7, .c (.int .i64 0)],
zM 4 8])
.ret))⟩
abbrev f_slices_ContainsFunc_api_Port_api_Port : Nat := 59
abbrev C_slices_ContainsFunc_api_Port_api_Port : AFunc := C59
def C60 : AFunc := ⟨10, [.tmp 3],
(.seq (.ops [⟨some 2, none, .a .box, [.t 0]⟩,
zP 3 .mov [.c (.bool false)]])
(.seq (.ops [⟨some 4, none, .r (.loadN 6), [.t 2]⟩,
zF 5 1 0,
zL 6 5,
zP 7 .lenS [.t 6],
⟨some 8, none, .call, [.c (.func (.func 61) [] []), .t 4, .t 7]⟩,
zP 9 .not [.t 8],
zM 3 9])
.ret))⟩
abbrev f_conf_Check_2 : Nat := 60
abbrev C_conf_Check_2 : AFunc := C60
def C61 : AFunc := ⟨55, [.tmp 4],
(.seq (.ops [⟨some 2, none, .a .box, [.t 0]⟩,
zP 4 .mov [.c (.bool false)]])
(.seq (.ops [zP 5 .mov [.c (.bool false)]])
(.seq (.seq (.ops [zF 6 2 0,
zL 7 6])
(.block 0 (.seq (.ops [zP 9 (.bin .eql) [.t 7, .c (.int .i64 1)],
zM 8 9])
(.cond (.t 8)
(.ops [zF 10 2 4,
zL 11 10,
zP 12 (.bin .eql) [.t 11, .c (.int .i64 0)],
zM 13 12,
zFg 14 2 5 13 true,
zLg 15 14 13 true,
⟨some 16, some (13, true), .call, [.c (.func (.func 62) [] []), .t 15, .c (.int .i64 1), .c (.int .i64 64)]⟩,
zP 17 .pick [.t 13, .t 16, .c (.bool false)],
zM 5 17])
(.seq (.ops [zP 19 (.bin .eql) [.t 7, .c (.int .i64 2)],
zM 18 19])
(.cond (.t 18)
(.ops [zF 20 2 5,
zL 21 20,
zP 22 (.bin .eql) [.t 21, .c (.int .i64 0)],
zM 23 22,
zFg 24 2 4 23 true,
zLg 25 24 23 true,
⟨some 26, some (23, true), .call, [.c (.func (.func 62) [] []), .t 25, .c (.int .i64 1), .c (.int .i64 4)]⟩,
zP 27 .pick [.t 23, .t 26, .c (.bool false)],
zM 5 27])
.skip))))))
(.seq (.ops [zM 28 5,
zM 29 28,
zFg 30 2 1 29 true,
zLg 31 30 29 true,
zMg 32 1 29 true,
zPg 33 (.bin .sub) [.t 32, .c (.int .i64 1)] 29 true,
⟨some 34, some (29, true), .call, [.c (.func (.func 62) [] []), .t 31, .c (.int .i64 0), .t 33]⟩,
zP 35 .pick [.t 29, .t 34, .c (.bool false)],
zM 36 35,
zFg 37 2 2 36 true,
zLg 38 37 36 true,
zMg 39 1 36 true,
zPg 40 (.bin .sub) [.t 39, .c (.int .i64 1)] 36 true,
⟨some 41, some (36, true), .call, [.c (.func (.func 62) [] []), .t 38, .c (.int .i64 0), .t 40]⟩,
zP 42 .pick [.t 36, .t 41, .c (.bool false)],
zM 43 42,
zFg 44 2 1 43 true,
zLg 45 44 43 true,
zFg 46 2 2 43 true,
zLg 47 46 43 true,
zPg 48 (.bin .neq) [.t 45, .t 47] 43 true,
zP 49 .pick [.t 43, .t 48, .c (.bool false)],
zM 50 49,
zFg 51 2 3 50 true,
zLg 52 51 50 true,
⟨some 53, some (50, true), .call, [.c (.func (.func 62) [] []), .t 52, .c (.int .i64 1), .c (.int .i64 16)]⟩,
zP 54 .pick [.t 50, .t 53, .c (.bool false)],
zM 4 54])
.ret))))⟩
abbrev f_conf_portMay : Nat := 61
abbrev C_conf_portMay : AFunc := C61
def C62 : AFunc := ⟨15, [.tmp 6],
(.seq (.ops [zP 6 .mov [.c (.bool false)]])
(.seq (.ops [zM 7 1,
zM 8 0,
zP 9 (.bin .leq) [.t 7, .t 8],
zM 10 9,
zMg 11 0 10 true,
zMg 12 2 10 true,
zPg 13 (.bin .leq) [.t 11, .t 12] 10 true,
zP 14 .pick [.t 10, .t 13, .c (.bool false)],
zM 6 14])
.ret))⟩
abbrev f_conf_within : Nat := 62
abbrev C_conf_within : AFunc := C62
def C63 : AFunc := ⟨7, [],
(.seq (.ops [⟨some 2, none, .bad, [.c (.bool false), .c (.bool false), .c (.bool false), .c (.bool false)]⟩,
zM 1 2])
(.seq (.ops [zM 3 1,
zP 4 (.neq .iface) [.t 3, .c .nili]])
(.cond (.t 4)
(.ops [zM 5 1,
zP 6 (.tassert 115 false (.int .i64 0)) [.t 5],
zS 1 [.t 0, .t 6]])
.skip)))⟩
abbrev f_judge_look_find_1 : Nat := 63
abbrev C_judge_look_find_1 : AFunc := C63
def C64 : AFunc := ⟨113, [],
(.seq (.ops [⟨some 3, none, .a .box, [.t 1]⟩])
(.seq (.ops [zM 5 0,
⟨some 6, none, .r (.loadN 7), [.t 3]⟩,
⟨some 7, none, .call, [.c (.func (.func 85) [] []), .t 5, .t 6]⟩,
⟨some 8, none, .call, [.c (.func (.func 84) [] []), .t 7, .c (.int .i64 1)]⟩])
(.seq (.ops [zM 9 0,
zF 10 3 0,
zL 11 10,
⟨some 12, none, .call, [.c (.func (.func 65) [] []), .t 9, .t 11]⟩])
(.seq (.dops [zM 13 0,
zF 14 3 2,
zL 15 14,
zN 16 13,
zF 17 16 2,
zP 18 (.iaddrA 23 4) [.t 17, .t 15],
zM 4 18] [[], [], [], [], [], [], []])
(.seq (.dops [zM 19 4,
zN 20 19,
zF 21 20 0,
zL 22 21,
zF 23 3 1,
zL 24 23,
zP 25 (.bin .eql) [.t 24, .c (.int .i64 6)],
zP 26 (.neq .bool) [.t 22, .t 25],
⟨some 27, none, .call, [.c (.func (.func 84) [] []), .t 26, .c (.int .i64 2)]⟩] [[], [], [], [], [], [], [], [], []])
(.seq (.dops [zF 28 3 1,
zL 29 28,
zP 30 (.bin .neq) [.t 29, .c (.int .i64 1)],
zM 31 30,
zMg 32 0 31 false,
zNg 33 32 31 false,
zFg 34 33 96 31 false,
zLg 35 34 31 false,
zPg 36 .not [.t 35] 31 false,
zMg 37 36 31 false,
zMg 38 0 37 true,
⟨some 39, some (37, true), .call, [.c (.func (.func 86) [] []), .t 38]⟩,
zFg 40 3 2 37 true,
zLg 41 40 37 true,
zPg 42 (.bin .eql) [.t 39, .t 41] 37 true,
zPg 43 .pick [.t 37, .t 42, .c (.bool false)] 31 false,
zP 44 .pick [.t 31, .c (.bool true), .t 43],
⟨some 45, none, .call, [.c (.func (.func 84) [] []), .t 44, .c (.int .i64 3)]⟩] [[], [], [], [], [], [], [], [], [], [], [], [], [], [0, 12], [], [], [], []])
(.seq (.ops [zM 46 4,
⟨some 47, none, .r (.loadN 7), [.t 3]⟩,
⟨some 48, none, .call, [.c (.func (.func 87) [] []), .t 46, .t 47]⟩,
⟨some 49, none, .call, [.c (.func (.func 84) [] []), .t 48, .c (.int .i64 5)]⟩])
(.seq (.seq (.ops [⟨some 50, none, .r (.loadN 7), [.t 3]⟩,
⟨some 51, none, .call, [.c (.func (.func 88) [] []), .t 50]⟩])
(.cond (.t 51)
(.seq (.ops [zM 52 0,
zM 53 4,
⟨some 54, none, .r (.loadN 7), [.t 3]⟩,
⟨some 55, none, .call, [.c (.func (.func 89) [] []), .t 52, .t 53, .t 54]⟩])
.ret)
.skip))
(.seq (.seq (.ops [zF 56 3 3,
zL 57 56,
zP 58 (.bin .neq) [.t 57, .c (.int .i64 (-1))]])
(.cond (.t 58)
(.dops [zM 59 4,
⟨some 60, none, .r (.loadN 7), [.t 3]⟩,
zM 61 0,
zN 62 61,
zF 63 62 0,
zF 64 63 0,
zL 65 64,
zF 66 3 2,
zL 67 66,
zP 68 (.iaddrS 3) [.t 65, .t 67],
zF 69 68 2,
zL 70 69,
zF 71 3 3,
zL 72 71,
zP 73 (.iaddrS 8) [.t 70, .t 72],
⟨some 74, none, .r (.loadN 8), [.t 73]⟩,
⟨some 75, none, .call, [.c (.func (.func 90) [] []), .t 59, .t 60, .t 74]⟩] [[], [], [], [], [], [], [], [], [], [], [], [], [], [], [], [], []])
.skip))
(.seq (.ops [zM 76 0,
⟨some 77, none, .r (.loadN 7), [.t 3]⟩,
⟨some 78, none, .call, [.c (.func (.func 91) [] []), .t 76, .t 77]⟩,
⟨some 79, none, .call, [.c (.func (.func 84) [] []), .t 78, .c (.int .i64 8)]⟩])
(.seq (.seq (.ops [zF 80 3 1,
zL 81 80,
zP 82 (.bin .eql) [.t 81, .c (.int .i64 1)]])
(.cond (.t 82)
(.seq (.ops [zM 83 0,
zN 84 83,
zF 85 84 96,
zS 1 [.t 85, .c (.bool true)]])
(.ops [zM 86 4,
zN 87 86,
zF 88 87 4,
zL 89 88,
zP 90 (.bin .add) [.t 89, .c (.int .i64 1)],
zN 91 86,
zF 92 91 4,
zS 1 [.t 92, .t 90]]))
.skip))
(.seq (.ops [zF 93 3 3,
zL 94 93,
zP 95 (.bin .neq) [.t 94, .c (.int .i64 (-1))]])
(.cond (.t 95)
(.dops [zM 96 4,
⟨some 97, none, .r (.loadN 7), [.t 3]⟩,
zM 98 0,
zN 99 98,
zF 100 99 0,
zF 101 100 0,
zL 102 101,
zF 103 3 2,
zL 104 103,
zP 105 (.iaddrS 3) [.t 102, .t 104],
zF 106 105 2,
zL 107 106,
zF 108 3 3,
zL 109 108,
zP 110 (.iaddrS 8) [.t 107, .t 109],
⟨some 111, none, .r (.loadN 8), [.t 110]⟩,
⟨some 112, none, .call, [.c (.func (.func 92) [] []), .t 96, .t 97, .t 111]⟩] [[], [], [], [], [], [], [], [], [], [], [], [], [], [], [], [], []])
.skip)))))))))))))⟩
abbrev f_judge_look_note : Nat := 64
abbrev C_judge_look_note : AFunc := C64
def L_judge_look_to_0 : AC := (.seq (.seq (.ops [zM 4 0,
zN 5 4,
zF 6 5 95,
zL 7 6,
zM 8 1,
zP 9 (.bin .lss) [.t 7, .t 8]])
(.cond (.t 9)
.skip
(.exit 0)))
(.block 1 (.ops [zM 10 0,
⟨some 11, none, .call, [.c (.func (.func 93) [] []), .t 10]⟩])))
def C65 : AFunc := ⟨12, [],
(.block 0 (.loop L_judge_look_to_0))⟩
abbrev f_judge_look_to : Nat := 65
abbrev C_judge_look_to : AFunc := C65
def C66 : AFunc := ⟨15, [.tmp 6],
(.seq (.ops [zP 6 .mov [.c (.bool false)]])
(.seq (.ops [zM 7 0,
zM 8 1,
zP 9 (.bin .geq) [.t 7, .t 8],
zM 10 9,
zMg 11 0 10 true,
zMg 12 2 10 true,
zPg 13 (.bin .leq) [.t 11, .t 12] 10 true,
zP 14 .pick [.t 10, .t 13, .c (.bool false)],
zM 6 14])
.ret))⟩
abbrev f_escapementref05_within : Nat := 66
abbrev C_escapementref05_within : AFunc := C66
def L_escapementref05_part_0 : AC := (.seq (.seq (.ops [zM 22 3,
zF 23 1 2,
zL 24 23,
zP 25 .lenS [.t 24],
zP 26 (.bin .lss) [.t 22, .t 25]])
(.cond (.t 26)
.skip
(.exit 0)))
(.seq (.block 1 (.seq (.dops [zF 29 1 2,
zL 30 29,
zM 31 3,
zP 32 (.iaddrS 8) [.t 30, .t 31],
⟨some 33, none, .r (.loadN 8), [.t 32]⟩,
zF 34 1 1,
zL 35 34,
⟨some 36, none, .call, [.c (.func (.func 94) [] []), .t 33, .t 35]⟩,
zP 37 .not [.t 36]] [[], [], [], [], [], [], [], [], []])
(.cond (.t 37)
(.seq (.ops [zP 2 .mov [.c (.bool false)]])
.ret)
.skip)))
(.ops [zM 27 3,
zP 28 (.bin .add) [.t 27, .c (.int .i64 1)],
zM 3 28])))
def C67 : AFunc := ⟨38, [.tmp 2],
(.seq (.ops [⟨some 1, none, .a .box, [.t 0]⟩,
zP 2 .mov [.c (.bool false)]])
(.seq (.seq (.ops [zF 4 1 0,
zL 5 4,
⟨some 6, none, .call, [.c (.func (.func 66) [] []), .t 5, .c (.int .i64 1), .c (.int .i64 64)]⟩,
zP 7 .not [.t 6],
zM 8 7,
zFg 9 1 1 8 false,
zLg 10 9 8 false,
zFg 11 1 0 8 false,
zLg 12 11 8 false,
⟨some 13, some (8, false), .call, [.c (.func (.func 66) [] []), .t 10, .c (.int .i64 1), .t 12]⟩,
zPg 14 .not [.t 13] 8 false,
zP 15 .pick [.t 8, .c (.bool true), .t 14],
zM 16 15,
zFg 17 1 2 16 false,
zLg 18 17 16 false,
zPg 19 .lenS [.t 18] 16 false,
zPg 20 (.bin .gtr) [.t 19, .c (.int .i64 4)] 16 false,
zP 21 .pick [.t 16, .c (.bool true), .t 20]])
(.cond (.t 21)
(.seq (.ops [zP 2 .mov [.c (.bool false)]])
.ret)
.skip))
(.seq (.seq (.ops [zP 3 .mov [.c (.int .i64 0)]])
(.block 0 (.loop L_escapementref05_part_0)))
(.seq (.ops [zP 2 .mov [.c (.bool true)]])
.ret))))⟩
abbrev f_escapementref05_part : Nat := 67
abbrev C_escapementref05_part : AFunc := C67
def C68 : AFunc := ⟨61, [.tmp 4],
(.seq (.ops [⟨some 2, none, .a .box, [.t 0]⟩,
zP 4 .mov [.c (.bool false)]])
(.seq (.ops [zF 6 2 0,
zL 7 6,
zP 8 (.bin .eql) [.t 7, .c (.int .i64 1)],
zM 9 8,
zFg 10 2 4 9 true,
zLg 11 10 9 true,
zPg 12 (.bin .eql) [.t 11, .c (.int .i64 0)] 9 true,
zP 13 .pick [.t 9, .t 12, .c (.bool false)],
zM 14 13,
zFg 15 2 5 14 true,
zLg 16 15 14 true,
⟨some 17, some (14, true), .call, [.c (.func (.func 66) [] []), .t 16, .c (.int .i64 1), .c (.int .i64 64)]⟩,
zP 18 .pick [.t 14, .t 17, .c (.bool false)],
zM 19 18,
zFg 20 2 0 19 false,
zLg 21 20 19 false,
zPg 22 (.bin .eql) [.t 21, .c (.int .i64 2)] 19 false,
zMg 23 22 19 false,
zFg 24 2 5 23 true,
zLg 25 24 23 true,
zPg 26 (.bin .eql) [.t 25, .c (.int .i64 0)] 23 true,
zPg 27 .pick [.t 23, .t 26, .c (.bool false)] 19 false,
zMg 28 27 19 false,
zFg 29 2 4 28 true,
zLg 30 29 28 true,
⟨some 31, some (28, true), .call, [.c (.func (.func 66) [] []), .t 30, .c (.int .i64 1), .c (.int .i64 4)]⟩,
zPg 32 .pick [.t 28, .t 31, .c (.bool false)] 19 false,
zP 33 .pick [.t 19, .c (.bool true), .t 32],
zM 5 33])
(.seq (.ops [zM 34 5,
zM 35 34,
zFg 36 2 1 35 true,
zLg 37 36 35 true,
zMg 38 1 35 true,
zPg 39 (.bin .sub) [.t 38, .c (.int .i64 1)] 35 true,
⟨some 40, some (35, true), .call, [.c (.func (.func 66) [] []), .t 37, .c (.int .i64 0), .t 39]⟩,
zP 41 .pick [.t 35, .t 40, .c (.bool false)],
zM 42 41,
zFg 43 2 2 42 true,
zLg 44 43 42 true,
zMg 45 1 42 true,
zPg 46 (.bin .sub) [.t 45, .c (.int .i64 1)] 42 true,
⟨some 47, some (42, true), .call, [.c (.func (.func 66) [] []), .t 44, .c (.int .i64 0), .t 46]⟩,
zP 48 .pick [.t 42, .t 47, .c (.bool false)],
zM 49 48,
zFg 50 2 1 49 true,
zLg 51 50 49 true,
zFg 52 2 2 49 true,
zLg 53 52 49 true,
zPg 54 (.bin .neq) [.t 51, .t 53] 49 true,
zP 55 .pick [.t 49, .t 54, .c (.bool false)],
zM 56 55,
zFg 57 2 3 56 true,
zLg 58 57 56 true,
⟨some 59, some (56, true), .call, [.c (.func (.func 66) [] []), .t 58, .c (.int .i64 1), .c (.int .i64 16)]⟩,
zP 60 .pick [.t 56, .t 59, .c (.bool false)],
zM 4 60])
.ret)))⟩
abbrev f_escapementref05_port : Nat := 68
abbrev C_escapementref05_port : AFunc := C68
def L_escapementref26_known_by_0 : AC := (.seq (.seq (.ops [zM 7 3,
zM 8 0,
zN 9 8,
zF 10 9 0,
zF 11 10 0,
zL 12 11,
zP 13 .lenS [.t 12],
zP 14 (.bin .lss) [.t 7, .t 13]])
(.cond (.t 14)
.skip
(.exit 0)))
(.seq (.block 1 (.seq (.ops [zM 17 0,
zM 18 3,
zN 19 17,
zF 20 19 2,
zP 21 (.iaddrA 23 4) [.t 20, .t 18],
⟨some 22, none, .r (.loadN 23), [.t 21]⟩,
⟨some 4, none, .a (.alloc [(.bool false), (.int .i64 0), (.int .i64 0), (.int .i64 0), (.int .i64 0), (.bool false), (.int .i64 0), (.int .i64 0), (.int .i64 0), (.bool false), (.int .i64 0), (.int .i64 0), (.int .i64 0), (.bool false), (.int .i64 0), (.int .i64 0), (.int .i64 0), (.bool false), (.int .i64 0), (.int .i64 0), (.int .i64 0), (.bool false), (.int .i64 0)]), []⟩,
zS 23 [.t 4, .t 22]])
(.seq (.ops [zF 23 4 0,
zL 24 23,
zM 25 24,
zFg 26 4 21 25 true,
zLg 27 26 25 true,
zP 28 .pick [.t 25, .t 27, .c (.bool false)],
zM 29 28,
zFg 30 4 4 29 true,
zLg 31 30 29 true,
zFg 32 4 2 29 true,
zLg 33 32 29 true,
zPg 34 (.bin .geq) [.t 31, .t 33] 29 true,
zP 35 .pick [.t 29, .t 34, .c (.bool false)]])
(.cond (.t 35)
(.seq (.ops [zP 2 .mov [.c (.int .i64 8)]])
.ret)
.skip))))
(.ops [zM 15 3,
zP 16 (.bin .add) [.t 15, .c (.int .i64 1)],
zM 3 16])))
def L_escapementref26_known_by_1 : AC := (.seq (.seq (.ops [zM 67 5,
zM 68 0,
zN 69 68,
zF 70 69 0,
zF 71 70 0,
zL 72 71,
zP 73 .lenS [.t 72],
zP 74 (.bin .lss) [.t 67, .t 73]])
(.cond (.t 74)
.skip
(.exit 2)))
(.seq (.block 3 (.seq (.ops [zM 77 0,
zM 78 5,
zN 79 77,
zF 80 79 2,
zP 81 (.iaddrA 23 4) [.t 80, .t 78],
⟨some 82, none, .r (.loadN 23), [.t 81]⟩,
⟨some 6, none, .a (.alloc [(.bool false), (.int .i64 0), (.int .i64 0), (.int .i64 0), (.int .i64 0), (.bool false), (.int .i64 0), (.int .i64 0), (.int .i64 0), (.bool false), (.int .i64 0), (.int .i64 0), (.int .i64 0), (.bool false), (.int .i64 0), (.int .i64 0), (.int .i64 0), (.bool false), (.int .i64 0), (.int .i64 0), (.int .i64 0), (.bool false), (.int .i64 0)]), []⟩,
zS 23 [.t 6, .t 82]])
(.seq (.seq (.dops [zF 83 6 0,
zL 84 83,
zP 85 .not [.t 84],
zM 86 85,
zFg 87 6 3 86 false,
zLg 88 87 86 false,
zMg 89 0 86 false,
zNg 90 89 86 false,
zFg 91 90 94 86 false,
zLg 92 91 86 false,
zPg 93 (.bin .neq) [.t 88, .t 92] 86 false,
zP 94 .pick [.t 86, .c (.bool true), .t 93]] [[], [], [], [], [], [], [], [], [], [], [], []])
(.cond (.t 94)
(.exit 3)
.skip))
(.seq (.seq (.ops [zF 95 6 4,
zL 96 95,
zF 97 6 2,
zL 98 97,
zP 99 (.bin .neq) [.t 96, .t 98]])
(.cond (.t 99)
(.seq (.ops [zP 2 .mov [.c (.int .i64 4)]])
.ret)
.skip))
(.seq (.ops [zF 100 6 4,
zS 1 [.t 100, .c (.int .i64 0)]])
(.seq (.dops [zM 101 0,
zN 102 101,
zF 103 102 94,
zL 104 103,
zF 105 6 1,
zL 106 105,
zP 107 (.bin .add) [.t 104, .t 106],
zF 108 6 3,
zS 1 [.t 108, .t 107]] [[], [], [], [], [], [], [], [], []])
(.dops [zM 109 0,
zM 110 5,
⟨some 111, none, .r (.loadN 23), [.t 6]⟩,
zN 112 109,
zF 113 112 2,
zP 114 (.iaddrA 23 4) [.t 113, .t 110],
zS 23 [.t 114, .t 111]] [[], [], [], [], [], [], []])))))))
(.ops [zM 75 5,
zP 76 (.bin .add) [.t 75, .c (.int .i64 1)],
zM 5 76])))
def C69 : AFunc := ⟨115, [.tmp 2],
(.seq (.ops [zP 2 .mov [.c (.int .i64 0)]])
(.seq (.seq (.ops [zP 3 .mov [.c (.int .i64 0)]])
(.block 0 (.loop L_escapementref26_known_by_0)))
(.seq (.seq (.ops [zM 36 0,
zN 37 36,
zF 38 37 95,
zL 39 38,
zP 40 .not [.t 39],
zM 41 40,
zMg 42 0 41 true,
zNg 43 42 41 true,
zFg 44 43 96 41 true,
zLg 45 44 41 true,
zPg 46 .not [.t 45] 41 true,
zP 47 .pick [.t 41, .t 46, .c (.bool false)],
zM 48 47,
zMg 49 0 48 true,
⟨some 50, some (48, true), .call, [.c (.func (.func 70) [] []), .t 49]⟩,
zPg 51 (.bin .geq) [.t 50, .c (.int .i64 0)] 48 true,
zP 52 .pick [.t 48, .t 51, .c (.bool false)]])
(.cond (.t 52)
(.seq (.ops [zP 2 .mov [.c (.int .i64 3)]])
.ret)
.skip))
(.seq (.ops [zM 53 0,
zM 54 0,
zN 55 54,
zF 56 55 94,
zL 57 56,
zP 58 (.bin .add) [.t 57, .c (.int .i64 1)],
zN 59 53,
zF 60 59 94,
zS 1 [.t 60, .t 58]])
(.seq (.ops [zM 61 0,
zN 62 61,
zF 63 62 95,
zS 1 [.t 63, .c (.bool false)]])
(.seq (.ops [zM 64 0,
zN 65 64,
zF 66 65 96,
zS 1 [.t 66, .c (.bool false)]])
(.seq (.seq (.ops [zP 5 .mov [.c (.int .i64 0)]])
(.block 2 (.loop L_escapementref26_known_by_1)))
(.seq (.ops [zP 2 .mov [.c (.int .i64 0)]])
.ret))))))))⟩
abbrev f_escapementref26_known_by : Nat := 69
abbrev C_escapementref26_known_by : AFunc := C69
def L_escapementref26_known_could_0 : AC := (.seq (.seq (.ops [zM 6 4,
zM 7 0,
zN 8 7,
zF 9 8 0,
zF 10 9 0,
zL 11 10,
zP 12 .lenS [.t 11],
zP 13 (.bin .lss) [.t 6, .t 12]])
(.cond (.t 13)
.skip
(.exit 0)))
(.seq (.block 1 (.seq (.ops [zM 16 0,
zM 17 4,
zN 18 16,
zF 19 18 2,
zP 20 (.iaddrA 23 4) [.t 19, .t 17],
⟨some 21, none, .r (.loadN 23), [.t 20]⟩,
⟨some 5, none, .a (.alloc [(.bool false), (.int .i64 0), (.int .i64 0), (.int .i64 0), (.int .i64 0), (.bool false), (.int .i64 0), (.int .i64 0), (.int .i64 0), (.bool false), (.int .i64 0), (.int .i64 0), (.int .i64 0), (.bool false), (.int .i64 0), (.int .i64 0), (.int .i64 0), (.bool false), (.int .i64 0), (.int .i64 0), (.int .i64 0), (.bool false), (.int .i64 0)]), []⟩,
zS 23 [.t 5, .t 21]])
(.seq (.dops [zF 22 5 0,
zL 23 22,
zM 24 23,
zFg 25 5 4 24 true,
zLg 26 25 24 true,
zFg 27 5 2 24 true,
zLg 28 27 24 true,
zPg 29 (.bin .lss) [.t 26, .t 28] 24 true,
zP 30 .pick [.t 24, .t 29, .c (.bool false)],
zM 31 30,
zMg 32 3 31 true,
zPg 33 (.bin .lss) [.t 32, .c (.int .i64 0)] 31 true,
zMg 34 33 31 true,
zFg 35 5 3 34 false,
zLg 36 35 34 false,
zMg 37 0 34 false,
zMg 38 3 34 false,
zNg 39 37 34 false,
zFg 40 39 2 34 false,
zPg 41 (.iaddrA 23 4) [.t 40, .t 38] 34 false,
zFg 42 41 3 34 false,
zLg 43 42 34 false,
zPg 44 (.bin .lss) [.t 36, .t 43] 34 false,
zPg 45 .pick [.t 34, .c (.bool true), .t 44] 31 true,
zP 46 .pick [.t 31, .t 45, .c (.bool false)]] [[], [], [], [], [], [], [], [], [], [], [], [], [], [], [], [], [], [], [], [], [], [], [], [], []])
(.cond (.t 46)
(.ops [zM 47 4,
zM 3 47])
.skip))))
(.ops [zM 14 4,
zP 15 (.bin .add) [.t 14, .c (.int .i64 1)],
zM 4 15])))
def C70 : AFunc := ⟨49, [.tmp 2],
(.seq (.ops [zP 2 .mov [.c (.int .i64 0)]])
(.seq (.ops [zP 3 .mov [.c (.int .i64 (-1))]])
(.seq (.seq (.ops [zP 4 .mov [.c (.int .i64 0)]])
(.block 0 (.loop L_escapementref26_known_could_0)))
(.seq (.ops [zM 48 3,
zM 2 48])
.ret))))⟩
abbrev f_escapementref26_known_could : Nat := 70
abbrev C_escapementref26_known_could : AFunc := C70
def C71 : AFunc := ⟨50, [.tmp 4],
(.seq (.ops [⟨some 2, none, .a .box, [.t 0]⟩,
⟨some 3, none, .a .box, [.t 1]⟩,
zP 4 .mov [.c (.bool false)]])
(.seq (.seq (.ops [zF 5 3 1,
zL 6 5])
(.block 0 (.seq (.ops [zP 8 (.bin .eql) [.t 6, .c (.int .i64 2)],
zM 7 8])
(.cond (.t 7)
(.seq (.ops [zF 9 3 5,
zL 10 9,
zP 11 (.bin .neq) [.t 10, .c (.int .i64 0)],
zM 12 11,
zFg 13 3 3 12 false,
zLg 14 13 12 false,
zFg 15 2 5 12 false,
zPg 16 (.iaddrA 4 4) [.t 15, .t 14] 12 false,
zFg 17 16 0 12 false,
zLg 18 17 12 false,
zPg 19 .not [.t 18] 12 false,
zP 20 .pick [.t 12, .c (.bool true), .t 19],
zM 4 20])
.ret)
(.seq (.ops [zP 22 (.bin .eql) [.t 6, .c (.int .i64 1)],
zM 21 22])
(.cond (.t 21)
(.seq (.ops [zF 23 3 3,
zL 24 23,
zP 25 (.bin .lss) [.t 24, .c (.int .i64 0)],
zM 26 25,
zFg 27 3 3 26 false,
zLg 28 27 26 false,
zFg 29 2 5 26 false,
zPg 30 (.iaddrA 4 4) [.t 29, .t 28] 26 false,
zFg 31 30 0 26 false,
zLg 32 31 26 false,
zP 33 .pick [.t 26, .c (.bool true), .t 32],
zM 4 33])
.ret)
(.seq (.seq (.ops [zP 35 (.bin .eql) [.t 6, .c (.int .i64 3)],
zM 34 35])
(.cond (.t 34)
.skip
(.seq (.ops [zP 36 (.bin .eql) [.t 6, .c (.int .i64 4)],
zM 34 36])
(.cond (.t 34)
.skip
(.ops [zP 37 (.bin .eql) [.t 6, .c (.int .i64 5)],
zM 34 37])))))
(.cond (.t 34)
(.seq (.ops [zF 38 3 3,
zL 39 38,
zF 40 2 5,
zP 41 (.iaddrA 4 4) [.t 40, .t 39],
zF 42 41 0,
zL 43 42,
zM 4 43])
.ret)
(.seq (.seq (.ops [zP 45 (.bin .eql) [.t 6, .c (.int .i64 7)],
zM 44 45])
(.cond (.t 44)
.skip
(.ops [zP 46 (.bin .eql) [.t 6, .c (.int .i64 8)],
zM 44 46])))
(.cond (.t 44)
(.seq (.ops [⟨some 47, none, .r (.loadN 23), [.t 2]⟩,
⟨some 48, none, .call, [.c (.func (.func 95) [] []), .t 47]⟩,
zP 49 .not [.t 48],
zM 4 49])
.ret)
.skip))))))))))
(.seq (.ops [zP 4 .mov [.c (.bool true)]])
.ret)))⟩
abbrev f_escapementref26_part_there : Nat := 71
abbrev C_escapementref26_part_there : AFunc := C71
def C72 : AFunc := ⟨46, [.tmp 6],
(.seq (.ops [⟨some 3, none, .a .box, [.t 0]⟩,
⟨some 4, none, .a .box, [.t 1]⟩,
⟨some 5, none, .a .box, [.t 2]⟩,
zP 6 .mov [.c (.bool false)]])
(.seq (.seq (.ops [zF 8 4 1,
zL 9 8,
zP 10 (.bin .neq) [.t 9, .c (.int .i64 1)],
zM 11 10,
zFg 12 4 1 11 true,
zLg 13 12 11 true,
zPg 14 (.bin .neq) [.t 13, .c (.int .i64 3)] 11 true,
zP 15 .pick [.t 11, .t 14, .c (.bool false)],
zM 16 15,
zFg 17 4 1 16 true,
zLg 18 17 16 true,
zPg 19 (.bin .neq) [.t 18, .c (.int .i64 5)] 16 true,
zP 20 .pick [.t 16, .t 19, .c (.bool false)]])
(.cond (.t 20)
(.seq (.ops [zP 6 .mov [.c (.bool true)]])
.ret)
.skip))
(.seq (.ops [zF 21 4 3,
zL 22 21,
zF 23 3 5,
zP 24 (.iaddrA 4 4) [.t 23, .t 22],
⟨some 25, none, .r (.loadN 4), [.t 24]⟩,
⟨some 7, none, .a (.alloc [(.bool false), (.int .i64 0), (.int .i64 0), (.int .i64 0)]), []⟩,
zS 4 [.t 7, .t 25]])
(.seq (.ops [zF 26 4 0,
zL 27 26,
zF 28 7 1,
zL 29 28,
zF 30 5 1,
zL 31 30,
zP 32 (.bin .add) [.t 29, .t 31],
zP 33 (.bin .lss) [.t 27, .t 32],
zM 34 33,
zFg 35 4 1 34 true,
zLg 36 35 34 true,
zPg 37 (.bin .neq) [.t 36, .c (.int .i64 1)] 34 true,
zMg 38 37 34 true,
zFg 39 7 2 38 false,
zLg 40 39 38 false,
zFg 41 5 2 38 false,
zLg 42 41 38 false,
zPg 43 (.bin .lss) [.t 40, .t 42] 38 false,
zPg 44 .pick [.t 38, .c (.bool true), .t 43] 34 true,
zP 45 .pick [.t 34, .t 44, .c (.bool false)],
zM 6 45])
.ret))))⟩
abbrev f_escapementref26_part_timely : Nat := 72
abbrev C_escapementref26_part_timely : AFunc := C72
def C73 : AFunc := ⟨82, [.tmp 4],
(.seq (.ops [⟨some 3, none, .a .box, [.t 1]⟩,
zP 4 .mov [.c (.bool false)]])
(.seq (.dops [zM 7 0,
zF 8 3 2,
zL 9 8,
zN 10 7,
zF 11 10 2,
zP 12 (.iaddrA 23 4) [.t 11, .t 9],
⟨some 13, none, .r (.loadN 23), [.t 12]⟩,
⟨some 5, none, .a (.alloc [(.bool false), (.int .i64 0), (.int .i64 0), (.int .i64 0), (.int .i64 0), (.bool false), (.int .i64 0), (.int .i64 0), (.int .i64 0), (.bool false), (.int .i64 0), (.int .i64 0), (.int .i64 0), (.bool false), (.int .i64 0), (.int .i64 0), (.int .i64 0), (.bool false), (.int .i64 0), (.int .i64 0), (.int .i64 0), (.bool false), (.int .i64 0)]), []⟩,
zS 23 [.t 5, .t 13]] [[], [], [], [], [], [], [], [], []])
(.seq (.seq (.ops [zF 14 3 1,
zL 15 14,
zP 16 (.bin .eql) [.t 15, .c (.int .i64 1)]])
(.cond (.t 16)
(.seq (.ops [zF 17 5 21,
zL 18 17,
zP 19 .not [.t 18],
zM 20 19,
zFg 21 5 22 20 false,
zLg 22 21 20 false,
zFg 23 3 3 20 false,
zLg 24 23 20 false,
zPg 25 (.bin .eql) [.t 22, .t 24] 20 false,
zP 26 .pick [.t 20, .c (.bool true), .t 25],
zM 4 26])
.ret)
.skip))
(.seq (.seq (.ops [zF 27 3 1,
zL 28 27,
zP 29 (.bin .neq) [.t 28, .c (.int .i64 5)],
zM 30 29,
zFg 31 3 5 30 false,
zLg 32 31 30 false,
zPg 33 (.bin .neq) [.t 32, .c (.int .i64 0)] 30 false,
zP 34 .pick [.t 30, .c (.bool true), .t 33]])
(.cond (.t 34)
(.seq (.ops [zP 4 .mov [.c (.bool true)]])
.ret)
.skip))
(.seq (.seq (.ops [zF 35 3 4,
zL 36 35,
zP 37 (.bin .eql) [.t 36, .c (.int .i64 4)]])
(.cond (.t 37)
(.seq (.dops [zM 38 0,
zN 39 38,
zF 40 39 0,
zF 41 40 0,
zL 42 41,
zF 43 3 2,
zL 44 43,
zP 45 (.iaddrS 3) [.t 42, .t 44],
zF 46 45 2,
zL 47 46,
zF 48 3 3,
zL 49 48,
zP 50 (.iaddrS 8) [.t 47, .t 49],
zF 51 50 5,
zL 52 51,
zM 6 52] [[], [], [], [], [], [], [], [], [], [], [], [], [], [], [], []])
(.seq (.ops [zF 53 5 21,
zL 54 53,
zP 55 .not [.t 54],
zM 56 55,
zMg 57 6 56 true,
zPg 58 (.bin .gtr) [.t 57, .c (.int .i64 0)] 56 true,
zP 59 .pick [.t 56, .t 58, .c (.bool false)],
zM 60 59,
zMg 61 0 60 true,
zFg 62 3 2 60 true,
zLg 63 62 60 true,
zMg 64 6 60 true,
⟨some 65, some (60, true), .call, [.c (.func (.func 96) [] []), .t 61, .t 63, .t 64]⟩,
zPg 66 .not [.t 65] 60 true,
zP 67 .pick [.t 60, .t 66, .c (.bool false)],
zM 4 67])
.ret))
.skip))
(.seq (.ops [zF 68 3 4,
zL 69 68,
zP 70 (.bin .neq) [.t 69, .c (.int .i64 5)],
zM 71 70,
zFg 72 5 21 71 false,
zLg 73 72 71 false,
zMg 74 73 71 false,
zFg 75 5 22 74 true,
zLg 76 75 74 true,
zFg 77 3 3 74 true,
zLg 78 77 74 true,
zPg 79 (.bin .eql) [.t 76, .t 78] 74 true,
zPg 80 .pick [.t 74, .t 79, .c (.bool false)] 71 false,
zP 81 .pick [.t 71, .c (.bool true), .t 80],
zM 4 81])
.ret))))))⟩
abbrev f_escapementref26_known_shares : Nat := 73
abbrev C_escapementref26_known_shares : AFunc := C73
def C74 : AFunc := ⟨91, [],
(.seq (.ops [⟨some 3, none, .a .box, [.t 1]⟩])
(.seq (.dops [zM 7 0,
zF 8 3 2,
zL 9 8,
zN 10 7,
zF 11 10 2,
zP 12 (.iaddrA 23 4) [.t 11, .t 9],
⟨some 13, none, .r (.loadN 23), [.t 12]⟩,
⟨some 4, none, .a (.alloc [(.bool false), (.int .i64 0), (.int .i64 0), (.int .i64 0), (.int .i64 0), (.bool false), (.int .i64 0), (.int .i64 0), (.int .i64 0), (.bool false), (.int .i64 0), (.int .i64 0), (.int .i64 0), (.bool false), (.int .i64 0), (.int .i64 0), (.int .i64 0), (.bool false), (.int .i64 0), (.int .i64 0), (.int .i64 0), (.bool false), (.int .i64 0)]), []⟩,
zS 23 [.t 4, .t 13]] [[], [], [], [], [], [], [], [], []])
(.seq (.seq (.ops [zF 14 3 1,
zL 15 14])
(.block 0 (.seq (.ops [zP 17 (.bin .eql) [.t 15, .c (.int .i64 6)],
zM 16 17])
(.cond (.t 16)
(.seq (.dops [zM 18 0,
zN 19 18,
zF 20 19 0,
zF 21 20 0,
zL 22 21,
zF 23 3 2,
zL 24 23,
zP 25 (.iaddrS 3) [.t 22, .t 24],
⟨some 26, none, .r (.loadN 3), [.t 25]⟩,
⟨some 5, none, .a (.alloc [(.int .i64 0), (.int .i64 0), .nils]), []⟩,
zS 3 [.t 5, .t 26]] [[], [], [], [], [], [], [], [], [], [], []])
(.ops [zF 27 5 0,
zL 28 27,
zF 29 5 1,
zL 30 29,
zF 31 3 0,
zL 32 31,
zF 33 5 0,
zL 34 33,
zP 35 (.bin .add) [.t 32, .t 34],
zP 36 (.build [(.bool false), (.int .i64 0), (.int .i64 0), (.int .i64 0), (.int .i64 0), (.bool false), (.int .i64 0), (.int .i64 0), (.int .i64 0), (.bool false), (.int .i64 0), (.int .i64 0), (.int .i64 0), (.bool false), (.int .i64 0), (.int .i64 0), (.int .i64 0), (.bool false), (.int .i64 0), (.int .i64 0), (.int .i64 0), (.bool false), (.int .i64 0)] [(0, 1), (1, 1), (2, 1), (3, 1)]) [.c (.bool true), .t 28, .t 30, .t 35],
zS 23 [.t 4, .t 36]]))
(.seq (.ops [zP 38 (.bin .eql) [.t 15, .c (.int .i64 7)],
zM 37 38])
(.cond (.t 37)
(.seq (.ops [zP 39 (.build [(.bool false), (.int .i64 0), (.int .i64 0), (.int .i64 0), (.int .i64 0), (.bool false), (.int .i64 0), (.int .i64 0), (.int .i64 0), (.bool false), (.int .i64 0), (.int .i64 0), (.int .i64 0), (.bool false), (.int .i64 0), (.int .i64 0), (.int .i64 0), (.bool false), (.int .i64 0), (.int .i64 0), (.int .i64 0), (.bool false), (.int .i64 0)] []) [],
zS 23 [.t 4, .t 39]])
(.ops [zM 40 0,
zN 41 40,
zF 42 41 96,
zS 1 [.t 42, .c (.bool true)]]))
(.seq (.ops [zP 44 (.bin .eql) [.t 15, .c (.int .i64 8)],
zM 43 44])
(.cond (.t 43)
(.seq (.ops [zF 45 3 4,
zL 46 45,
zP 47 (.bin .quo) [.t 46, .c (.int .i64 100)],
zF 48 4 1,
zS 1 [.t 48, .t 47]])
(.seq (.ops [zF 49 3 4,
zL 50 49,
zP 51 (.bin .rem) [.t 50, .c (.int .i64 100)],
zF 52 4 2,
zS 1 [.t 52, .t 51]])
(.seq (.ops [zF 53 4 4,
zS 1 [.t 53, .c (.int .i64 0)]])
(.seq (.ops [zF 54 3 0,
zL 55 54,
zF 56 4 1,
zL 57 56,
zP 58 (.bin .add) [.t 55, .t 57],
zF 59 4 3,
zS 1 [.t 59, .t 58]])
(.seq (.dops [zM 60 0,
zN 61 60,
zF 62 61 0,
zF 63 62 0,
zL 64 63,
zF 65 3 2,
zL 66 65,
zP 67 (.iaddrS 3) [.t 64, .t 66],
⟨some 68, none, .r (.loadN 3), [.t 67]⟩,
⟨some 6, none, .a (.alloc [(.int .i64 0), (.int .i64 0), .nils]), []⟩,
zS 3 [.t 6, .t 68]] [[], [], [], [], [], [], [], [], [], [], []])
(.seq (.ops [zF 69 4 1,
zL 70 69,
zF 71 6 0,
zS 1 [.t 71, .t 70]])
(.seq (.ops [zF 72 4 2,
zL 73 72,
zF 74 6 1,
zS 1 [.t 74, .t 73]])
(.dops [zM 75 0,
zN 76 75,
zF 77 76 0,
zF 78 77 0,
zL 79 78,
zF 80 3 2,
zL 81 80,
⟨some 82, none, .r (.loadN 3), [.t 6]⟩,
zP 83 (.iaddrS 3) [.t 79, .t 81],
zS 3 [.t 83, .t 82]] [[], [], [], [], [], [], [], [], [], []]))))))))
.skip))))))))
(.dops [zM 84 0,
zF 85 3 2,
zL 86 85,
⟨some 87, none, .r (.loadN 23), [.t 4]⟩,
zN 88 84,
zF 89 88 2,
zP 90 (.iaddrA 23 4) [.t 89, .t 86],
zS 23 [.t 90, .t 87]] [[], [], [], [], [], [], [], []]))))⟩
abbrev f_escapementref26_known_begins : Nat := 74
abbrev C_escapementref26_known_begins : AFunc := C74
def C75 : AFunc := ⟨6, [.cell 0 2 true],
(.seq (.ops [⟨some 0, none, .a (.alloc [.nils, .nils]), []⟩])
(.seq (.ops [zP 1 (.build [(.int .i64 0), (.int .i64 0), (.int .i64 0), (.int .i64 0), (.int .i64 0), (.int .i64 0), (.int .i64 0), (.int .i64 0)] [(0, 1), (1, 1), (2, 1)]) [.c (.int .i64 8), .c (.int .i64 8), .c (.int .i64 2)],
⟨some 2, none, .a (.bslice [(.int .i64 0), (.int .i64 0), (.int .i64 0), (.int .i64 0), (.int .i64 0), (.int .i64 0), (.int .i64 0), (.int .i64 0)] 1 8 [0]), [.t 1]⟩,
zP 3 (.build [(.int .i64 0), (.int .i64 0), .nils] [(0, 1), (1, 1), (2, 1)]) [.c (.int .i64 4), .c (.int .i64 2), .t 2],
⟨some 4, none, .a (.bslice [(.int .i64 0), (.int .i64 0), .nils] 1 3 [0]), [.t 3]⟩,
zP 5 (.build [.nils, .nils] [(0, 1)]) [.t 4],
zS 2 [.t 0, .t 5]])
.ret))⟩
abbrev f_escapementlaw26_chapter : Nat := 75
abbrev C_escapementlaw26_chapter : AFunc := C75
def L_slices_IndexFunc_api_Part_api_Part_0 : AC := (.seq (.ops [zP 9 (.bin .lss) [.t 8, .t 7]])
(.seq (.cond (.t 9)
.skip
(.exit 0))
(.seq (.block 1 (.seq (.ops [zM 10 8,
zM 5 10])
(.seq (.ops [zM 11 1,
zM 12 0,
zM 13 5,
zP 14 (.iaddrS 3) [.t 12, .t 13],
⟨some 15, none, .r (.loadN 3), [.t 14]⟩,
⟨some 16, none, .call, [.t 11, .t 15]⟩])
(.cond (.t 16)
(.seq (.ops [zM 17 5,
zM 4 17])
.ret)
.skip))))
(.ops [zP 18 (.bin .add) [.t 8, .c (.int .i64 1)],
zM 8 18]))))
def C79 : AFunc := ⟨19, [.tmp 4],
(.seq (.ops [zP 4 .mov [.c (.int .i64 0)]])
(.seq (.seq (.ops [zM 6 0,
zP 7 .lenS [.t 6],
zP 8 .mov [.c (.int .i64 0)]])
(.block 0 (.loop L_slices_IndexFunc_api_Part_api_Part_0)))
(.seq (.ops [zP 4 .mov [.c (.int .i64 (-1))]])
.ret)))⟩
abbrev f_slices_IndexFunc_api_Part_api_Part : Nat := 79
abbrev C_slices_IndexFunc_api_Part_api_Part : AFunc := C79
def C80 : AFunc := ⟨9, [.tmp 4],
(.seq (.ops [zP 4 .mov [.c (.bool false)]])
(.seq (.ops [zM 5 0,
zM 6 1,
⟨some 7, none, .call, [.c (.func (.func 100) [] []), .t 5, .t 6]⟩,
zP 8 (.bin .geq) [.t 7, .c (.int .i64 0)],
zM 4 8])
.ret))⟩
abbrev f_slices_ContainsFunc_api_Task_api_Task : Nat := 80
abbrev C_slices_ContainsFunc_api_Task_api_Task : AFunc := C80
def C81 : AFunc := ⟨9, [.tmp 3],
(.seq (.ops [⟨some 2, none, .a .box, [.t 0]⟩,
zP 3 .mov [.c (.bool false)]])
(.seq (.ops [⟨some 4, none, .r (.loadN 8), [.t 2]⟩,
zF 5 1 1,
zL 6 5,
⟨some 7, none, .call, [.c (.func (.func 82) [] []), .t 4, .t 6]⟩,
zP 8 .not [.t 7],
zM 3 8])
.ret))⟩
abbrev f_conf_partMay_1 : Nat := 81
abbrev C_conf_partMay_1 : AFunc := C81
def C82 : AFunc := ⟨86, [.tmp 4],
(.seq (.ops [⟨some 2, none, .a .box, [.t 0]⟩,
zP 4 .mov [.c (.bool false)]])
(.seq (.ops [zF 6 2 0,
zL 7 6,
⟨some 8, none, .call, [.c (.func (.func 62) [] []), .t 7, .c (.int .i64 1), .c (.int .i64 64)]⟩,
zM 9 8,
zFg 10 2 1 9 true,
zLg 11 10 9 true,
zFg 12 2 0 9 true,
zLg 13 12 9 true,
⟨some 14, some (9, true), .call, [.c (.func (.func 62) [] []), .t 11, .c (.int .i64 1), .t 13]⟩,
zP 15 .pick [.t 9, .t 14, .c (.bool false)],
zM 16 15,
zFg 17 2 2 16 true,
zLg 18 17 16 true,
zFg 19 2 1 16 true,
zLg 20 19 16 true,
⟨some 21, some (16, true), .call, [.c (.func (.func 62) [] []), .t 18, .c (.int .i64 1), .t 20]⟩,
zP 22 .pick [.t 16, .t 21, .c (.bool false)],
zM 5 22])
(.seq (.seq (.ops [zM 23 5,
zP 24 .not [.t 23],
zM 25 24,
zFg 26 2 3 25 false,
zLg 27 26 25 false,
⟨some 28, some (25, false), .call, [.c (.func (.func 62) [] []), .t 27, .c (.int .i64 0), .c (.int .i64 255)]⟩,
zPg 29 .not [.t 28] 25 false,
zP 30 .pick [.t 25, .c (.bool true), .t 29],
zM 31 30,
zFg 32 2 5 31 false,
zLg 33 32 31 false,
⟨some 34, some (31, false), .call, [.c (.func (.func 62) [] []), .t 33, .c (.int .i64 0), .c (.int .i64 4)]⟩,
zPg 35 .not [.t 34] 31 false,
zP 36 .pick [.t 31, .c (.bool true), .t 35]])
(.cond (.t 36)
(.seq (.ops [zP 4 .mov [.c (.bool false)]])
.ret)
.skip))
(.seq (.seq (.ops [zF 37 2 3,
zL 38 37,
zP 39 (.bin .eql) [.t 38, .c (.int .i64 0)],
zM 40 39,
zFg 41 2 4 40 true,
zLg 42 41 40 true,
zPg 43 (.bin .neq) [.t 42, .c (.int .i64 0)] 40 true,
zP 44 .pick [.t 40, .t 43, .c (.bool false)],
zM 45 44,
zFg 46 2 3 45 false,
zLg 47 46 45 false,
zPg 48 (.bin .neq) [.t 47, .c (.int .i64 0)] 45 false,
zMg 49 48 45 false,
zFg 50 2 4 49 true,
zLg 51 50 49 true,
zFg 52 2 2 49 true,
zLg 53 52 49 true,
⟨some 54, some (49, true), .call, [.c (.func (.func 62) [] []), .t 51, .c (.int .i64 1), .t 53]⟩,
zPg 55 .not [.t 54] 49 true,
zPg 56 .pick [.t 49, .t 55, .c (.bool false)] 45 false,
zP 57 .pick [.t 45, .c (.bool true), .t 56]])
(.cond (.t 57)
(.seq (.ops [zP 4 .mov [.c (.bool false)]])
.ret)
.skip))
(.seq (.seq (.ops [zF 58 2 5,
zL 59 58,
zP 60 (.bin .eql) [.t 59, .c (.int .i64 0)]])
(.cond (.t 60)
(.seq (.ops [zF 61 2 6,
zL 62 61,
zP 63 (.bin .eql) [.t 62, .c (.int .i64 0)],
zM 64 63,
zFg 65 2 7 64 true,
zLg 66 65 64 true,
zPg 67 (.bin .eql) [.t 66, .c (.int .i64 0)] 64 true,
zP 68 .pick [.t 64, .t 67, .c (.bool false)],
zM 4 68])
.ret)
.skip))
(.seq (.dops [zF 69 2 6,
zL 70 69,
zM 71 1,
zF 72 2 2,
zL 73 72,
zP 74 .mn [.t 71, .t 73],
⟨some 75, none, .call, [.c (.func (.func 62) [] []), .t 70, .c (.int .i64 1), .t 74]⟩,
zM 76 75,
zFg 77 2 7 76 true,
zLg 78 77 76 true,
zFg 79 2 2 76 true,
zLg 80 79 76 true,
zFg 81 2 6 76 true,
zLg 82 81 76 true,
zPg 83 (.bin .quo) [.t 80, .t 82] 76 true,
⟨some 84, some (76, true), .call, [.c (.func (.func 62) [] []), .t 78, .c (.int .i64 1), .t 83]⟩,
zP 85 .pick [.t 76, .t 84, .c (.bool false)],
zM 4 85] [[], [], [], [], [], [], [], [], [], [], [], [], [], [], [], [], [], []])
.ret))))))⟩
abbrev f_conf_taskMay : Nat := 82
abbrev C_conf_taskMay : AFunc := C82
def L_slices_IndexFunc_api_Port_api_Port_0 : AC := (.seq (.ops [zP 9 (.bin .lss) [.t 8, .t 7]])
(.seq (.cond (.t 9)
.skip
(.exit 0))
(.seq (.block 1 (.seq (.ops [zM 10 8,
zM 5 10])
(.seq (.ops [zM 11 1,
zM 12 0,
zM 13 5,
zP 14 (.iaddrS 6) [.t 12, .t 13],
⟨some 15, none, .r (.loadN 6), [.t 14]⟩,
⟨some 16, none, .call, [.t 11, .t 15]⟩])
(.cond (.t 16)
(.seq (.ops [zM 17 5,
zM 4 17])
.ret)
.skip))))
(.ops [zP 18 (.bin .add) [.t 8, .c (.int .i64 1)],
zM 8 18]))))
def C83 : AFunc := ⟨19, [.tmp 4],
(.seq (.ops [zP 4 .mov [.c (.int .i64 0)]])
(.seq (.seq (.ops [zM 6 0,
zP 7 .lenS [.t 6],
zP 8 .mov [.c (.int .i64 0)]])
(.block 0 (.loop L_slices_IndexFunc_api_Port_api_Port_0)))
(.seq (.ops [zP 4 .mov [.c (.int .i64 (-1))]])
.ret)))⟩
abbrev f_slices_IndexFunc_api_Port_api_Port : Nat := 83
abbrev C_slices_IndexFunc_api_Port_api_Port : AFunc := C83
def C84 : AFunc := ⟨8, [],
(.seq (.ops [zM 4 0,
zP 5 .not [.t 4]])
(.cond (.t 5)
(.ops [zM 6 1,
zP 7 (.mkiface 115) [.t 6],
⟨none, none, .panic, [.t 7]⟩])
.skip))⟩
abbrev f_judge_must : Nat := 84
abbrev C_judge_must : AFunc := C84
def C85 : AFunc := ⟨81, [.tmp 4],
(.seq (.ops [⟨some 3, none, .a .box, [.t 1]⟩,
zP 4 .mov [.c (.bool false)]])
(.seq (.seq (.dops [zF 5 3 0,
zL 6 5,
zM 7 0,
zN 8 7,
zF 9 8 95,
zL 10 9,
zP 11 (.bin .lss) [.t 6, .t 10],
zM 12 11,
zFg 13 3 0 12 false,
zLg 14 13 12 false,
zMg 15 0 12 false,
zNg 16 15 12 false,
zFg 17 16 94 12 false,
zLg 18 17 12 false,
zPg 19 (.bin .gtr) [.t 14, .t 18] 12 false,
zP 20 .pick [.t 12, .c (.bool true), .t 19],
zM 21 20,
zFg 22 3 1 21 false,
zLg 23 22 21 false,
zPg 24 (.bin .lss) [.t 23, .c (.int .i64 1)] 21 false,
zP 25 .pick [.t 21, .c (.bool true), .t 24],
zM 26 25,
zFg 27 3 1 26 false,
zLg 28 27 26 false,
zPg 29 (.bin .gtr) [.t 28, .c (.int .i64 8)] 26 false,
zP 30 .pick [.t 26, .c (.bool true), .t 29],
zM 31 30,
zFg 32 3 2 31 false,
zLg 33 32 31 false,
zPg 34 (.bin .lss) [.t 33, .c (.int .i64 0)] 31 false,
zP 35 .pick [.t 31, .c (.bool true), .t 34],
zM 36 35,
zFg 37 3 2 36 false,
zLg 38 37 36 false,
zMg 39 0 36 false,
zNg 40 39 36 false,
zFg 41 40 0 36 false,
zFg 42 41 0 36 false,
zLg 43 42 36 false,
zPg 44 .lenS [.t 43] 36 false,
zPg 45 (.bin .geq) [.t 38, .t 44] 36 false,
zP 46 .pick [.t 36, .c (.bool true), .t 45]] [[], [], [], [], [], [], [], [], [], [], [], [], [], [], [], [], [], [], [], [], [], [], [], [], [], [], [], [], [], [], [], [], [], [], [], [], [], [], [], [], [], []])
(.cond (.t 46)
(.seq (.ops [zP 4 .mov [.c (.bool false)]])
.ret)
.skip))
(.seq (.seq (.ops [⟨some 47, none, .r (.loadN 7), [.t 3]⟩,
⟨some 48, none, .call, [.c (.func (.func 88) [] []), .t 47]⟩])
(.cond (.t 48)
(.seq (.ops [zF 49 3 3,
zL 50 49,
zP 51 (.bin .eql) [.t 50, .c (.int .i64 0)],
zM 4 51])
.ret)
.skip))
(.seq (.dops [zF 52 3 3,
zL 53 52,
zP 54 (.bin .geq) [.t 53, .c (.int .i64 0)],
zM 55 54,
zFg 56 3 3 55 false,
zLg 57 56 55 false,
zPg 58 (.bin .eql) [.t 57, .c (.int .i64 (-1))] 55 false,
zMg 59 58 55 false,
zFg 60 3 1 59 true,
zLg 61 60 59 true,
zPg 62 (.bin .eql) [.t 61, .c (.int .i64 1)] 59 true,
zPg 63 .pick [.t 59, .t 62, .c (.bool false)] 55 false,
zP 64 .pick [.t 55, .c (.bool true), .t 63],
zM 65 64,
zFg 66 3 3 65 true,
zLg 67 66 65 true,
zMg 68 0 65 true,
zNg 69 68 65 true,
zFg 70 69 0 65 true,
zFg 71 70 0 65 true,
zLg 72 71 65 true,
zFg 73 3 2 65 true,
zLg 74 73 65 true,
zPg 75 (.iaddrS 3) [.t 72, .t 74] 65 true,
zFg 76 75 2 65 true,
zLg 77 76 65 true,
zPg 78 .lenS [.t 77] 65 true,
zPg 79 (.bin .lss) [.t 67, .t 78] 65 true,
zP 80 .pick [.t 65, .t 79, .c (.bool false)],
zM 4 80] [[], [], [], [], [], [], [], [], [], [], [], [], [], [], [], [], [], [], [], [], [], [], [], [], [], [], [], [], [], []])
.ret))))⟩
abbrev f_judge_look_shaped : Nat := 85
abbrev C_judge_look_shaped : AFunc := C85
def L_judge_look_could_0 : AC := (.seq (.ops [zP 10 (.bin .lss) [.t 9, .t 8]])
(.seq (.cond (.t 10)
.skip
(.exit 0))
(.seq (.block 1 (.seq (.ops [zM 11 9,
zM 4 11])
(.seq (.ops [zM 12 0,
zM 13 4,
zN 14 12,
zF 15 14 2,
zP 16 (.iaddrA 23 4) [.t 15, .t 13],
zM 5 16])
(.seq (.dops [zM 17 5,
⟨some 18, none, .call, [.c (.func (.func 102) [] []), .t 17]⟩,
zM 19 18,
zMg 20 3 19 true,
zPg 21 (.bin .eql) [.t 20, .c (.int .i64 (-1))] 19 true,
zMg 22 21 19 true,
zMg 23 5 22 false,
zNg 24 23 22 false,
zFg 25 24 3 22 false,
zLg 26 25 22 false,
zMg 27 0 22 false,
zMg 28 3 22 false,
zNg 29 27 22 false,
zFg 30 29 2 22 false,
zPg 31 (.iaddrA 23 4) [.t 30, .t 28] 22 false,
zFg 32 31 3 22 false,
zLg 33 32 22 false,
zPg 34 (.bin .lss) [.t 26, .t 33] 22 false,
zPg 35 .pick [.t 22, .c (.bool true), .t 34] 19 true,
zP 36 .pick [.t 19, .t 35, .c (.bool false)]] [[], [], [], [], [], [], [], [], [], [], [], [], [], [], [], [], [], [], [], []])
(.cond (.t 36)
(.ops [zM 37 4,
zM 3 37])
.skip)))))
(.ops [zP 38 (.bin .add) [.t 9, .c (.int .i64 1)],
zM 9 38]))))
def C86 : AFunc := ⟨40, [.tmp 2],
(.seq (.ops [zP 2 .mov [.c (.int .i64 0)]])
(.seq (.ops [zP 3 .mov [.c (.int .i64 (-1))]])
(.seq (.seq (.ops [zM 6 0,
⟨some 7, none, .call, [.c (.func (.func 101) [] []), .t 6]⟩,
zP 8 .lenS [.t 7],
zP 9 .mov [.c (.int .i64 0)]])
(.block 0 (.loop L_judge_look_could_0)))
(.seq (.ops [zM 39 3,
zM 2 39])
.ret))))⟩
abbrev f_judge_look_could : Nat := 86
abbrev C_judge_look_could : AFunc := C86
def C87 : AFunc := ⟨54, [.tmp 4],
(.seq (.ops [⟨some 3, none, .a .box, [.t 1]⟩,
zP 4 .mov [.c (.bool false)]])
(.seq (.block 0 (.seq (.ops [zF 6 3 1,
zL 7 6,
zP 8 (.bin .eql) [.t 7, .c (.int .i64 7)],
zM 9 8,
zFg 10 3 1 9 false,
zLg 11 10 9 false,
zPg 12 (.bin .eql) [.t 11, .c (.int .i64 8)] 9 false,
zP 13 .pick [.t 9, .c (.bool true), .t 12],
zM 5 13])
(.cond (.t 5)
(.seq (.ops [zM 14 0,
zN 15 14,
zF 16 15 5,
zP 17 (.sliceArr 4 4 false false false) [.t 16],
⟨some 18, none, .call, [.c (.func (.func 103) [] []), .t 17, .c (.func (.func 104) [] [])]⟩,
zP 19 .not [.t 18],
zM 4 19])
.ret)
(.seq (.ops [zF 21 3 1,
zL 22 21,
zP 23 (.bin .eql) [.t 22, .c (.int .i64 2)],
zM 20 23])
(.cond (.t 20)
(.seq (.dops [zF 24 3 5,
zL 25 24,
zP 26 (.bin .neq) [.t 25, .c (.int .i64 0)],
zM 27 26,
zMg 28 0 27 false,
zFg 29 3 3 27 false,
zLg 30 29 27 false,
zNg 31 28 27 false,
zFg 32 31 5 27 false,
zPg 33 (.iaddrA 4 4) [.t 32, .t 30] 27 false,
zFg 34 33 0 27 false,
zLg 35 34 27 false,
zPg 36 .not [.t 35] 27 false,
zP 37 .pick [.t 27, .c (.bool true), .t 36],
zM 4 37] [[], [], [], [], [], [], [], [], [], [], [], [], [], [], []])
.ret)
(.seq (.ops [⟨some 39, none, .r (.loadN 7), [.t 3]⟩,
⟨some 40, none, .call, [.c (.func (.func 88) [] []), .t 39]⟩,
zM 41 40,
zFg 42 3 3 41 false,
zLg 43 42 41 false,
zPg 44 (.bin .eql) [.t 43, .c (.int .i64 (-1))] 41 false,
zP 45 .pick [.t 41, .c (.bool true), .t 44],
zM 38 45])
(.cond (.t 38)
(.seq (.ops [zP 4 .mov [.c (.bool true)]])
.ret)
.skip)))))))
(.seq (.dops [zM 46 0,
zF 47 3 3,
zL 48 47,
zN 49 46,
zF 50 49 5,
zP 51 (.iaddrA 4 4) [.t 50, .t 48],
zF 52 51 0,
zL 53 52,
zM 4 53] [[], [], [], [], [], [], [], [], []])
.ret)))⟩
abbrev f_judge_part_there : Nat := 87
abbrev C_judge_part_there : AFunc := C87
def C88 : AFunc := ⟨16, [.tmp 2],
(.seq (.ops [⟨some 1, none, .a .box, [.t 0]⟩,
zP 2 .mov [.c (.bool false)]])
(.seq (.ops [zF 3 1 1,
zL 4 3,
zP 5 (.bin .eql) [.t 4, .c (.int .i64 6)],
zM 6 5,
zFg 7 1 1 6 false,
zLg 8 7 6 false,
zPg 9 (.bin .eql) [.t 8, .c (.int .i64 7)] 6 false,
zP 10 .pick [.t 6, .c (.bool true), .t 9],
zM 11 10,
zFg 12 1 1 11 false,
zLg 13 12 11 false,
zPg 14 (.bin .eql) [.t 13, .c (.int .i64 8)] 11 false,
zP 15 .pick [.t 11, .c (.bool true), .t 14],
zM 2 15])
.ret))⟩
abbrev f_judge_whole : Nat := 88
abbrev C_judge_whole : AFunc := C88
def C89 : AFunc := ⟨71, [],
(.seq (.ops [⟨some 5, none, .a .box, [.t 2]⟩])
(.seq (.dops [zM 7 0,
zN 8 7,
zF 9 8 0,
zF 10 9 0,
zL 11 10,
zF 12 5 2,
zL 13 12,
zP 14 (.iaddrS 3) [.t 11, .t 13],
zM 6 14] [[], [], [], [], [], [], [], [], []])
(.seq (.seq (.ops [zF 15 5 1,
zL 16 15])
(.block 0 (.seq (.ops [zP 18 (.bin .eql) [.t 16, .c (.int .i64 7)],
zM 17 18])
(.cond (.t 17)
(.seq (.ops [zM 19 1,
zP 20 (.build [(.bool false), (.int .i64 0), (.int .i64 0), (.int .i64 0), (.int .i64 0), (.bool false), (.int .i64 0), (.int .i64 0), (.int .i64 0), (.bool false), (.int .i64 0), (.int .i64 0), (.int .i64 0), (.bool false), (.int .i64 0), (.int .i64 0), (.int .i64 0), (.bool false), (.int .i64 0), (.int .i64 0), (.int .i64 0), (.bool false), (.int .i64 0)] []) [],
zN 21 19,
zS 23 [.t 21, .t 20]])
(.seq (.ops [zM 22 0,
zN 23 22,
zF 24 23 97,
zS 1 [.t 24, .c (.bool true)]])
.ret))
(.seq (.ops [zP 26 (.bin .eql) [.t 16, .c (.int .i64 6)],
zM 25 26])
(.cond (.t 25)
(.ops [zM 27 1,
zP 28 (.build [(.bool false), (.int .i64 0), (.int .i64 0), (.int .i64 0), (.int .i64 0), (.bool false), (.int .i64 0), (.int .i64 0), (.int .i64 0), (.bool false), (.int .i64 0), (.int .i64 0), (.int .i64 0), (.bool false), (.int .i64 0), (.int .i64 0), (.int .i64 0), (.bool false), (.int .i64 0), (.int .i64 0), (.int .i64 0), (.bool false), (.int .i64 0)] [(0, 1)]) [.c (.bool true)],
zN 29 27,
zS 23 [.t 29, .t 28]])
(.seq (.ops [zP 31 (.bin .eql) [.t 16, .c (.int .i64 8)],
zM 30 31])
(.cond (.t 30)
(.dops [zM 32 6,
zM 33 6,
zF 34 5 4,
zL 35 34,
zP 36 (.bin .quo) [.t 35, .c (.int .i64 100)],
zF 37 5 4,
zL 38 37,
zP 39 (.bin .rem) [.t 38, .c (.int .i64 100)],
zN 40 32,
zF 41 40 0,
zS 1 [.t 41, .t 36],
zN 42 33,
zF 43 42 1,
zS 1 [.t 43, .t 39]] [[], [], [], [], [], [], [0, 11], [], [], [], [], [], [], []])
.skip))))))))
(.seq (.dops [zM 44 1,
zM 45 1,
zM 46 6,
zN 47 46,
zF 48 47 0,
zL 49 48,
zM 50 6,
zN 51 50,
zF 52 51 1,
zL 53 52,
zN 54 44,
zF 55 54 1,
zS 1 [.t 55, .t 49],
zN 56 45,
zF 57 56 2,
zS 1 [.t 57, .t 53]] [[], [], [], [], [], [], [], [], [], [], [], [], [], [], [], []])
(.dops [zM 58 1,
zM 59 1,
zF 60 5 0,
zL 61 60,
zM 62 6,
zN 63 62,
zF 64 63 0,
zL 65 64,
zP 66 (.bin .add) [.t 61, .t 65],
zN 67 58,
zF 68 67 4,
zS 1 [.t 68, .c (.int .i64 0)],
zN 69 59,
zF 70 69 3,
zS 1 [.t 70, .t 66]] [[], [], [], [0, 12], [], [], [], [], [], [], [], [], [], [], []])))))⟩
abbrev f_judge_look_turn : Nat := 89
abbrev C_judge_look_turn : AFunc := C89
def C90 : AFunc := ⟨53, [],
(.seq (.ops [⟨some 4, none, .a .box, [.t 1]⟩,
⟨some 5, none, .a .box, [.t 2]⟩])
(.seq (.dops [zM 7 0,
zF 8 4 3,
zL 9 8,
zN 10 7,
zF 11 10 5,
zP 12 (.iaddrA 4 4) [.t 11, .t 9],
⟨some 13, none, .r (.loadN 4), [.t 12]⟩,
⟨some 6, none, .a (.alloc [(.bool false), (.int .i64 0), (.int .i64 0), (.int .i64 0)]), []⟩,
zS 4 [.t 6, .t 13]] [[], [], [], [], [], [], [], [], []])
(.seq (.seq (.ops [zF 14 4 1,
zL 15 14,
zP 16 (.bin .eql) [.t 15, .c (.int .i64 2)]])
(.cond (.t 16)
(.seq (.ops [zF 17 4 5,
zL 18 17,
zP 19 (.bin .neq) [.t 18, .c (.int .i64 0)],
zM 20 19,
zFg 21 4 0 20 false,
zLg 22 21 20 false,
zFg 23 6 3 20 false,
zLg 24 23 20 false,
zPg 25 (.bin .geq) [.t 22, .t 24] 20 false,
zP 26 .pick [.t 20, .c (.bool true), .t 25],
⟨some 27, none, .call, [.c (.func (.func 84) [] []), .t 26, .c (.int .i64 6)]⟩])
.ret)
.skip))
(.seq (.ops [zF 28 4 1,
zL 29 28,
zP 30 (.bin .eql) [.t 29, .c (.int .i64 4)],
zM 31 30,
zFg 32 4 0 31 false,
zLg 33 32 31 false,
zFg 34 6 1 31 false,
zLg 35 34 31 false,
zFg 36 5 1 31 false,
zLg 37 36 31 false,
zPg 38 (.bin .add) [.t 35, .t 37] 31 false,
zPg 39 (.bin .lss) [.t 33, .t 38] 31 false,
zP 40 .pick [.t 31, .c (.bool true), .t 39],
⟨some 41, none, .call, [.c (.func (.func 84) [] []), .t 40, .c (.int .i64 7)]⟩])
(.ops [zF 42 4 1,
zL 43 42,
zP 44 (.bin .neq) [.t 43, .c (.int .i64 1)],
zM 45 44,
zFg 46 6 2 45 false,
zLg 47 46 45 false,
zFg 48 5 2 45 false,
zLg 49 48 45 false,
zPg 50 (.bin .lss) [.t 47, .t 49] 45 false,
zP 51 .pick [.t 45, .c (.bool true), .t 50],
⟨some 52, none, .call, [.c (.func (.func 84) [] []), .t 51, .c (.int .i64 7)]⟩])))))⟩
abbrev f_judge_part_timely : Nat := 90
abbrev C_judge_part_timely : AFunc := C90
def L_judge_look_shares_0 : AC := (.seq (.ops [zP 82 (.bin .lss) [.t 81, .t 80]])
(.seq (.cond (.t 82)
.skip
(.exit 1))
(.seq (.block 2 (.seq (.ops [zM 83 81,
zP 84 (.iaddrS 23) [.t 79, .t 81],
⟨some 85, none, .r (.loadN 23), [.t 84]⟩,
⟨some 8, none, .a (.alloc [(.bool false), (.int .i64 0), (.int .i64 0), (.int .i64 0), (.int .i64 0), (.bool false), (.int .i64 0), (.int .i64 0), (.int .i64 0), (.bool false), (.int .i64 0), (.int .i64 0), (.int .i64 0), (.bool false), (.int .i64 0), (.int .i64 0), (.int .i64 0), (.bool false), (.int .i64 0), (.int .i64 0), (.int .i64 0), (.bool false), (.int .i64 0)]), []⟩,
zM 7 83,
zS 23 [.t 8, .t 85]])
(.seq (.dops [zM 86 7,
zF 87 3 2,
zL 88 87,
zP 89 (.bin .neq) [.t 86, .t 88],
zM 90 89,
zFg 91 8 21 90 true,
zLg 92 91 90 true,
zP 93 .pick [.t 90, .t 92, .c (.bool false)],
zM 94 93,
zMg 95 0 94 true,
zNg 96 95 94 true,
zFg 97 96 0 94 true,
zFg 98 97 0 94 true,
zLg 99 98 94 true,
zMg 100 7 94 true,
zPg 101 (.iaddrS 3) [.t 99, .t 100] 94 true,
zFg 102 101 2 94 true,
zLg 103 102 94 true,
zFg 104 8 22 94 true,
zLg 105 104 94 true,
zPg 106 (.iaddrS 8) [.t 103, .t 105] 94 true,
zFg 107 106 5 94 true,
zLg 108 107 94 true,
zMg 109 6 94 true,
zPg 110 (.bin .eql) [.t 108, .t 109] 94 true,
zP 111 .pick [.t 94, .t 110, .c (.bool false)]] [[], [], [], [], [], [], [], [], [], [], [], [], [], [], [], [], [], [], [], [], [], [], [], [], [], []])
(.cond (.t 111)
(.seq (.ops [zP 4 .mov [.c (.bool false)]])
.ret)
.skip))))
(.ops [zP 112 (.bin .add) [.t 81, .c (.int .i64 1)],
zM 81 112]))))
def C91 : AFunc := ⟨122, [.tmp 4],
(.seq (.ops [⟨some 3, none, .a .box, [.t 1]⟩,
zP 4 .mov [.c (.bool false)]])
(.seq (.dops [zM 9 0,
zF 10 3 2,
zL 11 10,
zN 12 9,
zF 13 12 2,
zP 14 (.iaddrA 23 4) [.t 13, .t 11],
zM 5 14] [[], [], [], [], [], [], []])
(.seq (.block 0 (.seq (.ops [zF 16 3 1,
zL 17 16,
zP 18 (.bin .eql) [.t 17, .c (.int .i64 1)],
zM 15 18])
(.cond (.t 15)
(.seq (.dops [zM 19 5,
zN 20 19,
zF 21 20 21,
zL 22 21,
zP 23 .not [.t 22],
zM 24 23,
zMg 25 5 24 false,
zNg 26 25 24 false,
zFg 27 26 22 24 false,
zLg 28 27 24 false,
zFg 29 3 3 24 false,
zLg 30 29 24 false,
zPg 31 (.bin .eql) [.t 28, .t 30] 24 false,
zP 32 .pick [.t 24, .c (.bool true), .t 31],
zM 4 32] [[], [], [], [], [], [], [], [], [], [], [], [], [], [], []])
.ret)
(.seq (.ops [zF 34 3 1,
zL 35 34,
zP 36 (.bin .neq) [.t 35, .c (.int .i64 5)],
zM 37 36,
zFg 38 3 5 37 false,
zLg 39 38 37 false,
zPg 40 (.bin .neq) [.t 39, .c (.int .i64 0)] 37 false,
zP 41 .pick [.t 37, .c (.bool true), .t 40],
zM 33 41])
(.cond (.t 33)
(.seq (.ops [zP 4 .mov [.c (.bool true)]])
.ret)
(.seq (.ops [zF 43 3 4,
zL 44 43,
zP 45 (.bin .eql) [.t 44, .c (.int .i64 5)],
zM 42 45])
(.cond (.t 42)
(.seq (.dops [zM 46 5,
zN 47 46,
zF 48 47 21,
zL 49 48,
zM 50 49,
zMg 51 5 50 true,
zNg 52 51 50 true,
zFg 53 52 22 50 true,
zLg 54 53 50 true,
zFg 55 3 3 50 true,
zLg 56 55 50 true,
zPg 57 (.bin .eql) [.t 54, .t 56] 50 true,
zP 58 .pick [.t 50, .t 57, .c (.bool false)],
zM 4 58] [[], [], [], [], [], [], [], [], [], [], [], [], [], []])
.ret)
(.seq (.ops [zF 60 3 4,
zL 61 60,
zP 62 (.bin .neq) [.t 61, .c (.int .i64 4)],
zM 59 62])
(.cond (.t 59)
(.seq (.ops [zP 4 .mov [.c (.bool true)]])
.ret)
.skip)))))))))
(.seq (.dops [zM 63 0,
zN 64 63,
zF 65 64 0,
zF 66 65 0,
zL 67 66,
zF 68 3 2,
zL 69 68,
zP 70 (.iaddrS 3) [.t 67, .t 69],
zF 71 70 2,
zL 72 71,
zF 73 3 3,
zL 74 73,
zP 75 (.iaddrS 8) [.t 72, .t 74],
zF 76 75 5,
zL 77 76,
zM 6 77] [[], [], [], [], [], [], [], [], [], [], [], [], [], [], [], []])
(.seq (.seq (.ops [zM 78 0,
⟨some 79, none, .call, [.c (.func (.func 101) [] []), .t 78]⟩,
zP 80 .lenS [.t 79],
zP 81 .mov [.c (.int .i64 0)]])
(.block 1 (.loop L_judge_look_shares_0)))
(.seq (.ops [zM 113 5,
zN 114 113,
zF 115 114 21,
zL 116 115,
zP 117 .not [.t 116],
zM 118 117,
zMg 119 6 118 true,
zPg 120 (.bin .gtr) [.t 119, .c (.int .i64 0)] 118 true,
zP 121 .pick [.t 118, .t 120, .c (.bool false)],
zM 4 121])
.ret))))))⟩
abbrev f_judge_look_shares : Nat := 91
abbrev C_judge_look_shares : AFunc := C91
def C92 : AFunc := ⟨87, [],
(.seq (.ops [⟨some 4, none, .a .box, [.t 1]⟩,
⟨some 5, none, .a .box, [.t 2]⟩])
(.seq (.dops [zM 7 0,
zF 8 4 3,
zL 9 8,
zN 10 7,
zF 11 10 5,
zP 12 (.iaddrA 4 4) [.t 11, .t 9],
zM 6 12] [[], [], [], [], [], [], []])
(.seq (.ops [zF 13 4 1,
zL 14 13])
(.block 0 (.seq (.ops [zP 16 (.bin .eql) [.t 14, .c (.int .i64 1)],
zM 15 16])
(.cond (.t 15)
(.ops [zM 17 6,
zN 18 17,
zF 19 18 2,
zL 20 19,
zP 21 (.bin .add) [.t 20, .c (.int .i64 1)],
zN 22 17,
zF 23 22 2,
zS 1 [.t 23, .t 21]])
(.seq (.ops [zP 25 (.bin .eql) [.t 14, .c (.int .i64 2)],
zM 24 25])
(.cond (.t 24)
(.seq (.ops [zF 26 4 5,
zL 27 26,
zP 28 (.bin .eql) [.t 27, .c (.int .i64 0)]])
(.cond (.t 28)
(.ops [zM 29 6,
zF 30 4 0,
zL 31 30,
zF 32 4 0,
zL 33 32,
zF 34 5 0,
zL 35 34,
zP 36 (.bin .add) [.t 33, .t 35],
zP 37 (.build [(.bool false), (.int .i64 0), (.int .i64 0), (.int .i64 0)] [(0, 1), (1, 1), (3, 1)]) [.c (.bool true), .t 31, .t 36],
zN 38 29,
zS 4 [.t 38, .t 37]])
.skip))
(.seq (.seq (.ops [zP 40 (.bin .eql) [.t 14, .c (.int .i64 3)],
zM 39 40])
(.cond (.t 39)
.skip
(.ops [zP 41 (.bin .eql) [.t 14, .c (.int .i64 4)],
zM 39 41])))
(.cond (.t 39)
(.seq (.ops [zM 42 6,
zN 43 42,
zF 44 43 0,
zS 1 [.t 44, .c (.bool false)]])
(.dops [zM 45 0,
zM 46 0,
zN 47 46,
zF 48 47 21,
zL 49 48,
zM 50 49,
zMg 51 0 50 true,
zNg 52 51 50 true,
zFg 53 52 22 50 true,
zLg 54 53 50 true,
zFg 55 4 3 50 true,
zLg 56 55 50 true,
zPg 57 (.bin .neq) [.t 54, .t 56] 50 true,
zP 58 .pick [.t 50, .t 57, .c (.bool false)],
zN 59 45,
zF 60 59 21,
zS 1 [.t 60, .t 58]] [[], [], [], [], [], [], [], [], [], [], [], [], [], [], [], [], []]))
(.seq (.ops [zP 62 (.bin .eql) [.t 14, .c (.int .i64 5)],
zM 61 62])
(.cond (.t 61)
(.seq (.ops [zF 63 4 5,
zL 64 63,
zP 65 (.bin .eql) [.t 64, .c (.int .i64 0)],
zM 66 65,
zFg 67 4 4 66 true,
zLg 68 67 66 true,
zPg 69 (.bin .eql) [.t 68, .c (.int .i64 4)] 66 true,
zMg 70 69 66 true,
zFg 71 4 4 70 false,
zLg 72 71 70 false,
zPg 73 (.bin .eql) [.t 72, .c (.int .i64 5)] 70 false,
zPg 74 .pick [.t 70, .c (.bool true), .t 73] 66 true,
zP 75 .pick [.t 66, .t 74, .c (.bool false)]])
(.cond (.t 75)
(.dops [zM 76 0,
zM 77 0,
zF 78 4 4,
zL 79 78,
zP 80 (.bin .eql) [.t 79, .c (.int .i64 4)],
zF 81 4 3,
zL 82 81,
zN 83 76,
zF 84 83 21,
zS 1 [.t 84, .t 80],
zN 85 77,
zF 86 85 22,
zS 1 [.t 86, .t 82]] [[], [], [], [], [], [], [0, 10], [], [], [], [], [], []])
.skip))
.skip))))))))))))⟩
abbrev f_judge_part_does : Nat := 92
abbrev C_judge_part_does : AFunc := C92
def L_judge_look_by_0 : AC := (.seq (.ops [zP 10 (.bin .lss) [.t 9, .t 8]])
(.seq (.cond (.t 10)
.skip
(.exit 0))
(.seq (.block 1 (.seq (.ops [zP 11 (.iaddrS 23) [.t 7, .t 9],
⟨some 12, none, .r (.loadN 23), [.t 11]⟩,
⟨some 3, none, .a (.alloc [(.bool false), (.int .i64 0), (.int .i64 0), (.int .i64 0), (.int .i64 0), (.bool false), (.int .i64 0), (.int .i64 0), (.int .i64 0), (.bool false), (.int .i64 0), (.int .i64 0), (.int .i64 0), (.bool false), (.int .i64 0), (.int .i64 0), (.int .i64 0), (.bool false), (.int .i64 0), (.int .i64 0), (.int .i64 0), (.bool false), (.int .i64 0)]), []⟩,
zS 23 [.t 3, .t 12]])
(.ops [zF 13 3 0,
zL 14 13,
zP 15 .not [.t 14],
zM 16 15,
zFg 17 3 21 16 false,
zLg 18 17 16 false,
zPg 19 .not [.t 18] 16 false,
zP 20 .pick [.t 16, .c (.bool true), .t 19],
zM 21 20,
⟨some 22, some (21, false), .call, [.c (.func (.func 102) [] []), .t 3]⟩,
zP 23 .pick [.t 21, .c (.bool true), .t 22],
⟨some 24, none, .call, [.c (.func (.func 84) [] []), .t 23, .c (.int .i64 8)]⟩])))
(.ops [zP 25 (.bin .add) [.t 9, .c (.int .i64 1)],
zM 9 25]))))
def L_judge_look_by_1 : AC := (.seq (.ops [zP 59 (.bin .lss) [.t 58, .t 57]])
(.seq (.cond (.t 59)
.skip
(.exit 2))
(.seq (.block 3 (.seq (.ops [zM 60 58,
zM 4 60])
(.seq (.ops [zM 61 0,
zM 62 4,
zN 63 61,
zF 64 63 2,
zP 65 (.iaddrA 23 4) [.t 64, .t 62],
zM 5 65])
(.seq (.dops [zM 66 5,
zN 67 66,
zF 68 67 0,
zL 69 68,
zM 70 69,
zMg 71 5 70 true,
zNg 72 71 70 true,
zFg 73 72 3 70 true,
zLg 74 73 70 true,
zMg 75 0 70 true,
zNg 76 75 70 true,
zFg 77 76 95 70 true,
zLg 78 77 70 true,
zPg 79 (.bin .eql) [.t 74, .t 78] 70 true,
zP 80 .pick [.t 70, .t 79, .c (.bool false)]] [[], [], [], [], [], [], [], [], [], [], [], [], [], [], []])
(.cond (.t 80)
(.seq (.dops [zM 81 5,
zN 82 81,
zF 83 82 4,
zL 84 83,
zM 85 5,
zN 86 85,
zF 87 86 2,
zL 88 87,
zP 89 (.bin .eql) [.t 84, .t 88],
⟨some 90, none, .call, [.c (.func (.func 84) [] []), .t 89, .c (.int .i64 4)]⟩] [[], [], [], [], [], [], [], [], [], []])
(.dops [zM 91 5,
zM 92 5,
zM 93 0,
zN 94 93,
zF 95 94 95,
zL 96 95,
zM 97 5,
zN 98 97,
zF 99 98 1,
zL 100 99,
zP 101 (.bin .add) [.t 96, .t 100],
zN 102 91,
zF 103 102 4,
zS 1 [.t 103, .c (.int .i64 0)],
zN 104 92,
zF 105 104 3,
zS 1 [.t 105, .t 101]] [[], [], [], [], [], [], [], [], [], [], [], [], [], [], [], [], []]))
.skip)))))
(.ops [zP 106 (.bin .add) [.t 58, .c (.int .i64 1)],
zM 58 106]))))
def C93 : AFunc := ⟨107, [],
(.seq (.seq (.ops [zM 6 0,
⟨some 7, none, .call, [.c (.func (.func 101) [] []), .t 6]⟩,
zP 8 .lenS [.t 7],
zP 9 .mov [.c (.int .i64 0)]])
(.block 0 (.loop L_judge_look_by_0)))
(.seq (.ops [zM 26 0,
zN 27 26,
zF 28 27 96,
zL 29 28,
zM 30 29,
zMg 31 0 30 false,
zNg 32 31 30 false,
zFg 33 32 97 30 false,
zLg 34 33 30 false,
zP 35 .pick [.t 30, .c (.bool true), .t 34],
zM 36 35,
zMg 37 0 36 false,
⟨some 38, some (36, false), .call, [.c (.func (.func 86) [] []), .t 37]⟩,
zPg 39 (.bin .eql) [.t 38, .c (.int .i64 (-1))] 36 false,
zP 40 .pick [.t 36, .c (.bool true), .t 39],
⟨some 41, none, .call, [.c (.func (.func 84) [] []), .t 40, .c (.int .i64 3)]⟩])
(.seq (.ops [zM 42 0,
zN 43 42,
zF 44 43 95,
zL 45 44,
zP 46 (.bin .add) [.t 45, .c (.int .i64 1)],
zN 47 42,
zF 48 47 95,
zS 1 [.t 48, .t 46]])
(.seq (.ops [zM 49 0,
zM 50 0,
zN 51 49,
zF 52 51 96,
zS 1 [.t 52, .c (.bool false)],
zN 53 50,
zF 54 53 97,
zS 1 [.t 54, .c (.bool false)]])
(.seq (.ops [zM 55 0,
⟨some 56, none, .call, [.c (.func (.func 101) [] []), .t 55]⟩,
zP 57 .lenS [.t 56],
zP 58 .mov [.c (.int .i64 0)]])
(.block 2 (.loop L_judge_look_by_1)))))))⟩
abbrev f_judge_look_by : Nat := 93
abbrev C_judge_look_by : AFunc := C93
def C94 : AFunc := ⟨90, [.tmp 4],
(.seq (.ops [⟨some 2, none, .a .box, [.t 0]⟩,
zP 4 .mov [.c (.bool false)]])
(.seq (.seq (.ops [zF 5 2 0,
zL 6 5,
⟨some 7, none, .call, [.c (.func (.func 66) [] []), .t 6, .c (.int .i64 1), .c (.int .i64 64)]⟩,
zP 8 .not [.t 7],
zM 9 8,
zFg 10 2 1 9 false,
zLg 11 10 9 false,
zFg 12 2 0 9 false,
zLg 13 12 9 false,
⟨some 14, some (9, false), .call, [.c (.func (.func 66) [] []), .t 11, .c (.int .i64 1), .t 13]⟩,
zPg 15 .not [.t 14] 9 false,
zP 16 .pick [.t 9, .c (.bool true), .t 15],
zM 17 16,
zFg 18 2 2 17 false,
zLg 19 18 17 false,
zFg 20 2 1 17 false,
zLg 21 20 17 false,
⟨some 22, some (17, false), .call, [.c (.func (.func 66) [] []), .t 19, .c (.int .i64 1), .t 21]⟩,
zPg 23 .not [.t 22] 17 false,
zP 24 .pick [.t 17, .c (.bool true), .t 23],
zM 25 24,
zFg 26 2 3 25 false,
zLg 27 26 25 false,
⟨some 28, some (25, false), .call, [.c (.func (.func 66) [] []), .t 27, .c (.int .i64 0), .c (.int .i64 255)]⟩,
zPg 29 .not [.t 28] 25 false,
zP 30 .pick [.t 25, .c (.bool true), .t 29],
zM 31 30,
zFg 32 2 5 31 false,
zLg 33 32 31 false,
⟨some 34, some (31, false), .call, [.c (.func (.func 66) [] []), .t 33, .c (.int .i64 0), .c (.int .i64 4)]⟩,
zPg 35 .not [.t 34] 31 false,
zP 36 .pick [.t 31, .c (.bool true), .t 35]])
(.cond (.t 36)
(.seq (.ops [zP 4 .mov [.c (.bool false)]])
.ret)
.skip))
(.seq (.seq (.ops [zF 37 2 3,
zL 38 37,
zP 39 (.bin .eql) [.t 38, .c (.int .i64 0)],
zM 40 39,
zFg 41 2 4 40 true,
zLg 42 41 40 true,
zPg 43 (.bin .neq) [.t 42, .c (.int .i64 0)] 40 true,
zP 44 .pick [.t 40, .t 43, .c (.bool false)],
zM 45 44,
zFg 46 2 3 45 false,
zLg 47 46 45 false,
zPg 48 (.bin .neq) [.t 47, .c (.int .i64 0)] 45 false,
zMg 49 48 45 false,
zFg 50 2 4 49 true,
zLg 51 50 49 true,
zFg 52 2 2 49 true,
zLg 53 52 49 true,
⟨some 54, some (49, true), .call, [.c (.func (.func 66) [] []), .t 51, .c (.int .i64 1), .t 53]⟩,
zPg 55 .not [.t 54] 49 true,
zPg 56 .pick [.t 49, .t 55, .c (.bool false)] 45 false,
zP 57 .pick [.t 45, .c (.bool true), .t 56]])
(.cond (.t 57)
(.seq (.ops [zP 4 .mov [.c (.bool false)]])
.ret)
.skip))
(.seq (.seq (.ops [zF 58 2 5,
zL 59 58,
zP 60 (.bin .eql) [.t 59, .c (.int .i64 0)]])
(.cond (.t 60)
(.seq (.ops [zF 61 2 6,
zL 62 61,
zP 63 (.bin .eql) [.t 62, .c (.int .i64 0)],
zM 64 63,
zFg 65 2 7 64 true,
zLg 66 65 64 true,
zPg 67 (.bin .eql) [.t 66, .c (.int .i64 0)] 64 true,
zP 68 .pick [.t 64, .t 67, .c (.bool false)],
zM 4 68])
.ret)
.skip))
(.seq (.ops [zF 69 2 6,
zL 70 69,
zM 71 1,
⟨some 72, none, .call, [.c (.func (.func 66) [] []), .t 70, .c (.int .i64 1), .t 71]⟩,
zM 73 72,
zFg 74 2 7 73 true,
zLg 75 74 73 true,
zFg 76 2 2 73 true,
zLg 77 76 73 true,
⟨some 78, some (73, true), .call, [.c (.func (.func 66) [] []), .t 75, .c (.int .i64 1), .t 77]⟩,
zP 79 .pick [.t 73, .t 78, .c (.bool false)],
zM 80 79,
zFg 81 2 6 80 true,
zLg 82 81 80 true,
zFg 83 2 7 80 true,
zLg 84 83 80 true,
zPg 85 (.bin .mul) [.t 82, .t 84] 80 true,
zFg 86 2 2 80 true,
zLg 87 86 80 true,
zPg 88 (.bin .leq) [.t 85, .t 87] 80 true,
zP 89 .pick [.t 80, .t 88, .c (.bool false)],
zM 4 89])
.ret)))))⟩
abbrev f_escapementref05_task : Nat := 94
abbrev C_escapementref05_task : AFunc := C94
def C95 : AFunc := ⟨25, [.tmp 2],
(.seq (.ops [⟨some 1, none, .a .box, [.t 0]⟩,
zP 2 .mov [.c (.bool false)]])
(.seq (.ops [zF 3 1 5,
zP 4 (.iaddrA 4 4) [.t 3, .c (.int .i64 0)],
zF 5 4 0,
zL 6 5,
zM 7 6,
zFg 8 1 5 7 false,
zPg 9 (.iaddrA 4 4) [.t 8, .c (.int .i64 1)] 7 false,
zFg 10 9 0 7 false,
zLg 11 10 7 false,
zP 12 .pick [.t 7, .c (.bool true), .t 11],
zM 13 12,
zFg 14 1 5 13 false,
zPg 15 (.iaddrA 4 4) [.t 14, .c (.int .i64 2)] 13 false,
zFg 16 15 0 13 false,
zLg 17 16 13 false,
zP 18 .pick [.t 13, .c (.bool true), .t 17],
zM 19 18,
zFg 20 1 5 19 false,
zPg 21 (.iaddrA 4 4) [.t 20, .c (.int .i64 3)] 19 false,
zFg 22 21 0 19 false,
zLg 23 22 19 false,
zP 24 .pick [.t 19, .c (.bool true), .t 23],
zM 2 24])
.ret))⟩
abbrev f_escapementref26_part_some : Nat := 95
abbrev C_escapementref26_part_some : AFunc := C95
def L_escapementref26_known_taken_0 : AC := (.seq (.seq (.ops [zM 8 7,
zM 9 0,
zN 10 9,
zF 11 10 0,
zF 12 11 0,
zL 13 12,
zP 14 .lenS [.t 13],
zP 15 (.bin .lss) [.t 8, .t 14]])
(.cond (.t 15)
.skip
(.exit 0)))
(.seq (.block 1 (.seq (.dops [zM 18 7,
zM 19 1,
zP 20 (.bin .neq) [.t 18, .t 19],
zM 21 20,
zMg 22 0 21 true,
zMg 23 7 21 true,
zNg 24 22 21 true,
zFg 25 24 2 21 true,
zPg 26 (.iaddrA 23 4) [.t 25, .t 23] 21 true,
zFg 27 26 21 21 true,
zLg 28 27 21 true,
zP 29 .pick [.t 21, .t 28, .c (.bool false)],
zM 30 29,
zMg 31 0 30 true,
zNg 32 31 30 true,
zFg 33 32 0 30 true,
zFg 34 33 0 30 true,
zLg 35 34 30 true,
zMg 36 7 30 true,
zPg 37 (.iaddrS 3) [.t 35, .t 36] 30 true,
zFg 38 37 2 30 true,
zLg 39 38 30 true,
zMg 40 0 30 true,
zMg 41 7 30 true,
zNg 42 40 30 true,
zFg 43 42 2 30 true,
zPg 44 (.iaddrA 23 4) [.t 43, .t 41] 30 true,
zFg 45 44 22 30 true,
zLg 46 45 30 true,
zPg 47 (.iaddrS 8) [.t 39, .t 46] 30 true,
zFg 48 47 5 30 true,
zLg 49 48 30 true,
zMg 50 2 30 true,
zPg 51 (.bin .eql) [.t 49, .t 50] 30 true,
zP 52 .pick [.t 30, .t 51, .c (.bool false)]] [[], [], [], [], [], [], [], [], [], [], [], [], [], [], [], [], [], [], [], [], [], [], [], [], [], [], [], [], [], [], [], [], [], [], []])
(.cond (.t 52)
(.seq (.ops [zP 6 .mov [.c (.bool true)]])
.ret)
.skip)))
(.ops [zM 16 7,
zP 17 (.bin .add) [.t 16, .c (.int .i64 1)],
zM 7 17])))
def C96 : AFunc := ⟨53, [.tmp 6],
(.seq (.ops [zP 6 .mov [.c (.bool false)]])
(.seq (.seq (.ops [zP 7 .mov [.c (.int .i64 0)]])
(.block 0 (.loop L_escapementref26_known_taken_0)))
(.seq (.ops [zP 6 .mov [.c (.bool false)]])
.ret)))⟩
abbrev f_escapementref26_known_taken : Nat := 96
abbrev C_escapementref26_known_taken : AFunc := C96
def L_slices_IndexFunc_api_Task_api_Task_0 : AC := (.seq (.ops [zP 9 (.bin .lss) [.t 8, .t 7]])
(.seq (.cond (.t 9)
.skip
(.exit 0))
(.seq (.block 1 (.seq (.ops [zM 10 8,
zM 5 10])
(.seq (.ops [zM 11 1,
zM 12 0,
zM 13 5,
zP 14 (.iaddrS 8) [.t 12, .t 13],
⟨some 15, none, .r (.loadN 8), [.t 14]⟩,
⟨some 16, none, .call, [.t 11, .t 15]⟩])
(.cond (.t 16)
(.seq (.ops [zM 17 5,
zM 4 17])
.ret)
.skip))))
(.ops [zP 18 (.bin .add) [.t 8, .c (.int .i64 1)],
zM 8 18]))))
def C100 : AFunc := ⟨19, [.tmp 4],
(.seq (.ops [zP 4 .mov [.c (.int .i64 0)]])
(.seq (.seq (.ops [zM 6 0,
zP 7 .lenS [.t 6],
zP 8 .mov [.c (.int .i64 0)]])
(.block 0 (.loop L_slices_IndexFunc_api_Task_api_Task_0)))
(.seq (.ops [zP 4 .mov [.c (.int .i64 (-1))]])
.ret)))⟩
abbrev f_slices_IndexFunc_api_Task_api_Task : Nat := 100
abbrev C_slices_IndexFunc_api_Task_api_Task : AFunc := C100
def C101 : AFunc := ⟨13, [.tmp 2],
(.seq (.ops [zP 2 .mov [.c .nils]])
(.seq (.dops [zM 3 0,
zN 4 3,
zF 5 4 2,
zM 6 0,
zN 7 6,
zF 8 7 0,
zF 9 8 0,
zL 10 9,
zP 11 .lenS [.t 10],
zP 12 (.sliceArr 23 4 false true false) [.t 5, .t 11],
zM 2 12] [[], [], [], [], [], [], [], [], [], [], []])
.ret))⟩
abbrev f_judge_look_all : Nat := 101
abbrev C_judge_look_all : AFunc := C101
def C102 : AFunc := ⟨18, [.tmp 2],
(.seq (.ops [zP 2 .mov [.c (.bool false)]])
(.seq (.dops [zM 3 0,
zN 4 3,
zF 5 4 0,
zL 6 5,
zM 7 6,
zMg 8 0 7 true,
zNg 9 8 7 true,
zFg 10 9 4 7 true,
zLg 11 10 7 true,
zMg 12 0 7 true,
zNg 13 12 7 true,
zFg 14 13 2 7 true,
zLg 15 14 7 true,
zPg 16 (.bin .lss) [.t 11, .t 15] 7 true,
zP 17 .pick [.t 7, .t 16, .c (.bool false)],
zM 2 17] [[], [], [], [], [], [], [], [], [], [], [], [], [], [], [], []])
.ret))⟩
abbrev f_judge_part_left : Nat := 102
abbrev C_judge_part_left : AFunc := C102
def C103 : AFunc := ⟨9, [.tmp 4],
(.seq (.ops [zP 4 .mov [.c (.bool false)]])
(.seq (.ops [zM 5 0,
zM 6 1,
⟨some 7, none, .call, [.c (.func (.func 111) [] []), .t 5, .t 6]⟩,
zP 8 (.bin .geq) [.t 7, .c (.int .i64 0)],
zM 4 8])
.ret))⟩
abbrev f_slices_ContainsFunc_judge_job_judge_job : Nat := 103
abbrev C_slices_ContainsFunc_judge_job_judge_job : AFunc := C103
def C104 : AFunc := ⟨5, [.tmp 2],
(.seq (.ops [⟨some 1, none, .a .box, [.t 0]⟩,
zP 2 .mov [.c (.bool false)]])
(.seq (.ops [zF 3 1 0,
zL 4 3,
zM 2 4])
.ret))⟩
abbrev f_judge_part_there_1 : Nat := 104
abbrev C_judge_part_there_1 : AFunc := C104
def L_slices_IndexFunc_judge_job_judge_job_0 : AC := (.seq (.ops [zP 9 (.bin .lss) [.t 8, .t 7]])
(.seq (.cond (.t 9)
.skip
(.exit 0))
(.seq (.block 1 (.seq (.ops [zM 10 8,
zM 5 10])
(.seq (.ops [zM 11 1,
zM 12 0,
zM 13 5,
zP 14 (.iaddrS 4) [.t 12, .t 13],
⟨some 15, none, .r (.loadN 4), [.t 14]⟩,
⟨some 16, none, .call, [.t 11, .t 15]⟩])
(.cond (.t 16)
(.seq (.ops [zM 17 5,
zM 4 17])
.ret)
.skip))))
(.ops [zP 18 (.bin .add) [.t 8, .c (.int .i64 1)],
zM 8 18]))))
def C111 : AFunc := ⟨19, [.tmp 4],
(.seq (.ops [zP 4 .mov [.c (.int .i64 0)]])
(.seq (.seq (.ops [zM 6 0,
zP 7 .lenS [.t 6],
zP 8 .mov [.c (.int .i64 0)]])
(.block 0 (.loop L_slices_IndexFunc_judge_job_judge_job_0)))
(.seq (.ops [zP 4 .mov [.c (.int .i64 (-1))]])
.ret)))⟩
abbrev f_slices_IndexFunc_judge_job_judge_job : Nat := 111
abbrev C_slices_IndexFunc_judge_job_judge_job : AFunc := C111
def T : Tr AFunc := (.node (.node (.node (.node (.node (.node (.node .nil (some C63) .nil) none (.node .nil (some C95) .nil)) none (.node (.node .nil (some C79) .nil) (some C47) (.node .nil (some C111) .nil))) (some C7) (.node (.node (.node .nil (some C71) .nil) none (.node .nil (some C103) .nil)) (some C23) (.node (.node .nil (some C87) .nil) none .nil))) none (.node (.node (.node (.node .nil (some C67) .nil) none .nil) (some C19) (.node (.node .nil (some C83) .nil) none .nil)) none (.node (.node (.node .nil (some C75) .nil) (some C43) .nil) (some C27) (.node (.node .nil (some C91) .nil) (some C59) .nil)))) none (.node (.node (.node (.node (.node .nil (some C65) .nil) none .nil) (some C17) (.node (.node .nil (some C81) .nil) (some C49) .nil)) none (.node (.node (.node .nil (some C73) .nil) (some C41) .nil) (some C25) (.node (.node .nil (some C89) .nil) (some C57) .nil))) none (.node (.node (.node (.node .nil (some C69) .nil) none (.node .nil (some C101) .nil)) (some C21) (.node (.node .nil (some C85) .nil) none .nil)) none (.node (.node .nil (some C45) .nil) none (.node (.node .nil (some C93) .nil) (some C61) .nil))))) none (.node (.node (.node (.node (.node (.node .nil (some C64) .nil) none (.node .nil (some C96) .nil)) none (.node (.node .nil (some C80) .nil) (some C48) .nil)) none (.node (.node (.node .nil (some C72) .nil) none (.node .nil (some C104) .nil)) (some C24) (.node (.node .nil (some C88) .nil) (some C56) .nil))) (some C4) (.node (.node (.node (.node .nil (some C68) .nil) none (.node .nil (some C100) .nil)) (some C20) (.node (.node .nil (some C84) .nil) none .nil)) none (.node (.node .nil (some C44) .nil) none (.node (.node .nil (some C92) .nil) (some C60) .nil)))) none (.node (.node (.node (.node (.node .nil (some C66) .nil) none .nil) (some C18) (.node (.node .nil (some C82) .nil) none .nil)) none (.node (.node (.node .nil (some C74) .nil) (some C42) .nil) (some C26) (.node (.node .nil (some C90) .nil) (some C58) .nil))) (some C6) (.node (.node (.node (.node .nil (some C70) .nil) none (.node .nil (some C102) .nil)) none (.node (.node .nil (some C86) .nil) none .nil)) none (.node (.node .nil (some C46) .nil) none (.node (.node .nil (some C94) .nil) (some C62) .nil))))))
def fs (f : Nat) : Option AFunc := Tr.get T f
def ms (t : Nat) (n : String) : Option Nat := none
end Ir
end Go.Proofs.Ytepdklcpagielaa
