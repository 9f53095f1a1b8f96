/-
  What the program's functions are in Ads, printed by a program.
-/
import Derived.Test.YtnlcabhfkpafmaaGreatAdsDef
set_option linter.unusedVariables false
set_option maxRecDepth 100000
namespace Go.Proofs.YtnlcabhfkpafmaaGreat
open Go Ads
namespace Ir
abbrev zM (d s : Nat) : Ins := ⟨some d, none, .p .mov, [.t s]⟩
abbrev zF (d s o : Nat) : Ins := ⟨some d, none, .p (.faddr o), [.t s]⟩
abbrev zN (d s : Nat) : Ins := ⟨some d, none, .p .nilchk, [.t s]⟩
abbrev zL (d s : Nat) : Ins := ⟨some d, none, .r .load1, [.t s]⟩
abbrev zMg (d s g : Nat) (b : Bool) : Ins := ⟨some d, some (g, b), .p .mov, [.t s]⟩
abbrev zFg (d s o g : Nat) (b : Bool) : Ins := ⟨some d, some (g, b), .p (.faddr o), [.t s]⟩
abbrev zNg (d s g : Nat) (b : Bool) : Ins := ⟨some d, some (g, b), .p .nilchk, [.t s]⟩
abbrev zLg (d s g : Nat) (b : Bool) : Ins := ⟨some d, some (g, b), .r .load1, [.t s]⟩
abbrev zP (d : Nat) (o : POp) (l : List Rand) : Ins := ⟨some d, none, .p o, l⟩
abbrev zPg (d : Nat) (o : POp) (l : List Rand) (g : Nat) (b : Bool) : Ins := ⟨some d, some (g, b), .p o, l⟩
abbrev zS (n : Nat) (l : List Rand) : Ins := ⟨none, none, .e (.store n), l⟩
def L_escapementlaw18_RoomWaits_1 : AC := (.seq (.seq (.ops [zM 88 18,
zM 89 5,
zP 90 .lenS [.t 89],
zP 91 (.bin .lss) [.t 88, .t 90],
zM 92 91,
zMg 93 17 92 true,
zP 94 .pick [.t 92, .t 93, .c (.bool false)],
zM 95 94,
zMg 96 15 95 true,
zPg 97 .not [.t 96] 95 true,
zP 98 .pick [.t 95, .t 97, .c (.bool false)]])
(.cond (.t 98)
.skip
(.exit 2)))
(.seq (.block 3 (.seq (.dops [zM 101 13,
zM 102 18,
zM 103 6,
zM 104 18,
⟨some 105, none, .call, [.c (.func (.func 14) [] []), .t 103, .t 104]⟩,
zP 106 .lenS [.t 105],
zP 107 (.bin .gtr) [.t 106, .c (.int .i64 0)],
zP 108 (.iaddrA 4 4) [.t 9, .t 101],
zP 109 (.iaddrA 1 4) [.t 108, .t 102],
zS 1 [.t 109, .t 107]] [[], [], [], [], [], [], [], [], [], []])
(.ops [zM 110 13,
zP 111 (.iaddrA 1 4) [.t 10, .t 110],
zS 1 [.t 111, .c (.int .i64 0)]])))
(.ops [zM 99 18,
zP 100 (.bin .add) [.t 99, .c (.int .i64 1)],
zM 18 100])))
def L_escapementlaw18_RoomWaits_2 : AC := (.seq (.seq (.ops [zM 123 23,
zM 124 5,
zP 125 .lenS [.t 124],
zP 126 (.bin .lss) [.t 123, .t 125],
zM 127 126,
zMg 128 20 127 true,
zP 129 .pick [.t 127, .t 128, .c (.bool false)],
zM 130 129,
zMg 131 22 130 true,
zP 132 .pick [.t 130, .t 131, .c (.bool false)]])
(.cond (.t 132)
.skip
(.exit 4)))
(.seq (.block 5 (.seq (.ops [zM 136 6,
zM 137 23,
⟨some 138, none, .call, [.c (.func (.func 13) [] []), .t 136, .t 137]⟩,
zM 135 138,
zP 139 (.ext 0) [.t 135],
zP 140 (.ext 1) [.t 135],
zM 24 139,
zM 25 140])
(.seq (.seq (.ops [zM 141 25,
zP 142 .not [.t 141],
zM 143 142,
zMg 144 24 143 false,
zMg 145 21 143 false,
zPg 146 (.bin .geq) [.t 144, .t 145] 143 false,
zP 147 .pick [.t 143, .c (.bool true), .t 146],
zM 148 147,
zMg 149 23 148 false,
zMg 150 19 148 false,
zPg 151 (.bin .eql) [.t 149, .t 150] 148 false,
zP 152 .pick [.t 148, .c (.bool true), .t 151]])
(.cond (.t 152)
(.exit 5)
.skip))
(.seq (.seq (.ops [zM 153 6,
zM 154 19,
⟨some 155, none, .call, [.c (.func (.func 14) [] []), .t 153, .t 154]⟩,
zP 156 .lenS [.t 155],
zP 157 (.bin .eql) [.t 156, .c (.int .i64 0)],
zM 158 157,
zMg 159 19 158 false,
zPg 160 (.bin .geq) [.t 159, .c (.int .i64 4)] 158 false,
zP 161 .pick [.t 158, .c (.bool true), .t 160],
zM 162 161,
zMg 163 23 162 false,
zMg 164 19 162 false,
zPg 165 (.iaddrA 4 4) [.t 9, .t 163] 162 false,
zPg 166 (.iaddrA 1 4) [.t 165, .t 164] 162 false,
zLg 167 166 162 false,
zPg 168 .not [.t 167] 162 false,
zP 169 .pick [.t 162, .c (.bool true), .t 168],
zM 170 169,
zMg 171 23 170 false,
zPg 172 (.iaddrA 1 4) [.t 10, .t 171] 170 false,
zLg 173 172 170 false,
zPg 174 (.bin .neq) [.t 173, .c (.int .i64 0)] 170 false,
zMg 175 174 170 false,
zMg 176 23 175 true,
zPg 177 (.iaddrA 1 4) [.t 10, .t 176] 175 true,
zLg 178 177 175 true,
zMg 179 19 175 true,
zPg 180 (.bin .add) [.t 179, .c (.int .i64 1)] 175 true,
zPg 181 (.bin .neq) [.t 178, .t 180] 175 true,
zPg 182 .pick [.t 175, .t 181, .c (.bool false)] 170 false,
zP 183 .pick [.t 170, .c (.bool true), .t 182]])
(.cond (.t 183)
(.seq (.ops [zP 4 .mov [.c (.bool false)]])
.ret)
.skip))
(.ops [zM 184 23,
zM 185 19,
zP 186 (.bin .add) [.t 185, .c (.int .i64 1)],
zP 187 (.iaddrA 1 4) [.t 10, .t 184],
zS 1 [.t 187, .t 186]])))))
(.ops [zM 133 23,
zP 134 (.bin .add) [.t 133, .c (.int .i64 1)],
zM 23 134])))
def L_escapementlaw18_RoomWaits_4 : AC := (.seq (.seq (.ops [zM 198 27,
zM 199 5,
zP 200 .lenS [.t 199],
zP 201 (.bin .lss) [.t 198, .t 200]])
(.cond (.t 201)
.skip
(.exit 8)))
(.seq (.block 9 (.dops [zM 204 26,
zM 205 27,
zM 206 26,
zM 207 27,
zP 208 (.iaddrA 4 4) [.t 9, .t 206],
zP 209 (.iaddrA 1 4) [.t 208, .t 207],
zL 210 209,
zM 211 210,
zMg 212 6 211 true,
zMg 213 27 211 true,
⟨some 214, some (211, true), .call, [.c (.func (.func 14) [] []), .t 212, .t 213]⟩,
zPg 215 .lenS [.t 214] 211 true,
zPg 216 (.bin .gtr) [.t 215, .c (.int .i64 0)] 211 true,
zP 217 .pick [.t 211, .t 216, .c (.bool false)],
zP 218 (.iaddrA 4 4) [.t 9, .t 204],
zP 219 (.iaddrA 1 4) [.t 218, .t 205],
zS 1 [.t 219, .t 217]] [[], [], [], [], [], [], [], [], [], [], [], [], [], [], [], [], []]))
(.ops [zM 202 27,
zP 203 (.bin .add) [.t 202, .c (.int .i64 1)],
zM 27 203])))
def L_escapementlaw18_RoomWaits_3 : AC := (.seq (.seq (.ops [zM 192 26,
zM 193 5,
zP 194 .lenS [.t 193],
zP 195 (.bin .lss) [.t 192, .t 194]])
(.cond (.t 195)
.skip
(.exit 6)))
(.seq (.block 7 (.seq (.ops [zP 27 .mov [.c (.int .i64 0)]])
(.block 8 (.loop L_escapementlaw18_RoomWaits_4))))
(.ops [zM 196 26,
zP 197 (.bin .add) [.t 196, .c (.int .i64 1)],
zM 26 197])))
def L_escapementlaw18_RoomWaits_0 : AC := (.seq (.seq (.ops [zM 45 11,
zM 46 1,
zP 47 .lenS [.t 46],
zP 48 (.bin .lss) [.t 45, .t 47],
zM 49 48,
zMg 50 11 49 true,
zPg 51 (.bin .lss) [.t 50, .c (.int .i64 150)] 49 true,
zP 52 .pick [.t 49, .t 51, .c (.bool false)]])
(.cond (.t 52)
.skip
(.exit 0)))
(.seq (.block 1 (.seq (.ops [zM 55 1,
zM 56 11,
zP 57 (.iaddrS 1) [.t 55, .t 56],
zL 58 57,
⟨some 59, none, .call, [.c (.func (.func 12) [] []), .t 58, .c (.int .i64 9600)]⟩,
zM 12 59])
(.seq (.seq (.ops [zM 60 12,
zP 61 (.bin .rem) [.t 60, .c (.int .i64 3)],
zP 62 (.bin .eql) [.t 61, .c (.int .i64 0)],
zM 63 62,
zMg 64 5 63 true,
zPg 65 .lenS [.t 64] 63 true,
zPg 66 (.bin .gtr) [.t 65, .c (.int .i64 0)] 63 true,
zP 67 .pick [.t 63, .t 66, .c (.bool false)]])
(.cond (.t 67)
(.seq (.ops [zM 68 12,
zP 69 (.bin .quo) [.t 68, .c (.int .i64 3)],
zM 70 5,
zP 71 .lenS [.t 70],
zP 72 (.bin .rem) [.t 69, .t 71],
zM 13 72])
(.seq (.ops [zM 74 6,
zM 75 13,
⟨some 76, none, .call, [.c (.func (.func 13) [] []), .t 74, .t 75]⟩,
zM 73 76,
zP 77 (.ext 0) [.t 73],
zP 78 (.ext 1) [.t 73],
zM 14 77,
zM 15 78])
(.seq (.ops [zM 79 8,
zM 80 12,
⟨some 81, none, .call, [.c (.func (.func 11) [] []), .t 79, .t 80]⟩])
(.seq (.ops [zM 83 6,
zM 84 13,
⟨some 85, none, .call, [.c (.func (.func 13) [] []), .t 83, .t 84]⟩,
zM 82 85,
zP 86 (.ext 0) [.t 82],
zP 87 (.ext 1) [.t 82],
zM 16 86,
zM 17 87])
(.seq (.seq (.ops [zP 18 .mov [.c (.int .i64 0)]])
(.block 2 (.loop L_escapementlaw18_RoomWaits_1)))
(.exit 1))))))
.skip))
(.seq (.ops [zM 113 6,
⟨some 114, none, .call, [.c (.func (.func 15) [] []), .t 113]⟩,
zM 112 114,
zP 115 (.ext 0) [.t 112],
zP 116 (.ext 1) [.t 112],
zM 19 115,
zM 20 116])
(.seq (.ops [zM 118 6,
zM 119 19,
⟨some 120, none, .call, [.c (.func (.func 13) [] []), .t 118, .t 119]⟩,
zM 117 120,
zP 121 (.ext 0) [.t 117],
zP 122 (.ext 1) [.t 117],
zM 21 121,
zM 22 122])
(.seq (.seq (.ops [zP 23 .mov [.c (.int .i64 0)]])
(.block 4 (.loop L_escapementlaw18_RoomWaits_2)))
(.seq (.seq (.ops [zM 188 8,
zM 189 12,
⟨some 190, none, .call, [.c (.func (.func 11) [] []), .t 188, .t 189]⟩,
zP 191 .not [.t 190]])
(.cond (.t 191)
(.seq (.ops [zP 4 .mov [.c (.bool false)]])
.ret)
.skip))
(.seq (.ops [zP 26 .mov [.c (.int .i64 0)]])
(.block 6 (.loop L_escapementlaw18_RoomWaits_3))))))))))
(.ops [zM 53 11,
zP 54 (.bin .add) [.t 53, .c (.int .i64 1)],
zM 11 54])))
def C4 : AFunc := ⟨221, [.tmp 4],
(.seq (.ops [zP 4 .mov [.c (.bool false)]])
(.seq (.ops [zM 28 0,
⟨some 29, none, .call, [.c (.func (.func 8) [] []), .t 28]⟩,
zM 5 29])
(.seq (.ops [zM 31 5,
⟨some 32, none, .call, [.c (.func (.func 9) [] []), .t 31]⟩,
zM 30 32,
zP 33 (.ext 0) [.t 30],
zP 34 (.ext 1) [.t 30],
zM 6 33,
zM 7 34])
(.seq (.seq (.ops [zM 35 7,
zP 36 (.bin .neq) [.t 35, .c (.int .i64 0)],
zM 37 36,
zMg 38 6 37 false,
zPg 39 (.eq .nilptr) [.t 38, .c .nilp] 37 false,
zP 40 .pick [.t 37, .c (.bool true), .t 39]])
(.cond (.t 40)
(.seq (.ops [zP 4 .mov [.c (.bool false)]])
.ret)
.skip))
(.seq (.ops [zM 41 6,
zM 42 5,
zP 43 (.build [.nilp, .nils, (.int .i64 0), .nils] [(0, 1), (1, 1)]) [.t 41, .t 42],
⟨some 44, none, .a .box, [.t 43]⟩,
zM 8 44])
(.seq (.ops [⟨some 9, none, .a (.alloc [(.bool false), (.bool false), (.bool false), (.bool false), (.bool false), (.bool false), (.bool false), (.bool false), (.bool false), (.bool false), (.bool false), (.bool false), (.bool false), (.bool false), (.bool false), (.bool false)]), []⟩])
(.seq (.ops [⟨some 10, none, .a (.alloc [(.int .i64 0), (.int .i64 0), (.int .i64 0), (.int .i64 0)]), []⟩])
(.seq (.seq (.ops [zP 11 .mov [.c (.int .i64 0)]])
(.block 0 (.loop L_escapementlaw18_RoomWaits_0)))
(.seq (.ops [⟨some 220, none, .call, [.c (.func (.func 7) [] [])]⟩,
zM 4 220])
.ret)))))))))⟩
abbrev f_escapementlaw18_RoomWaits : Nat := 4
abbrev C_escapementlaw18_RoomWaits : AFunc := C4
def C7 : AFunc := ⟨114, [.tmp 0],
(.seq (.ops [zP 0 .mov [.c (.bool false)]])
(.seq (.ops [zP 10 (.build [(.int .i64 0), (.int .i64 0), (.int .i64 0), (.int .i64 0), (.int .i64 0), (.int .i64 0), (.int .i64 0), (.int .i64 0)] [(0, 1), (1, 1), (2, 1), (3, 1), (4, 1)]) [.c (.int .i64 20), .c (.int .i64 10), .c (.int .i64 4), .c (.int .i64 1), .c (.int .i64 1)],
zP 11 (.build [(.int .i64 0), (.int .i64 0), (.int .i64 0), (.int .i64 0), (.int .i64 0), (.int .i64 0), (.int .i64 0), (.int .i64 0)] [(0, 1), (1, 1), (2, 1), (3, 1), (4, 1)]) [.c (.int .i64 30), .c (.int .i64 20), .c (.int .i64 6), .c (.int .i64 1), .c (.int .i64 3)],
⟨some 12, none, .a (.bslice [(.int .i64 0), (.int .i64 0), (.int .i64 0), (.int .i64 0), (.int .i64 0), (.int .i64 0), (.int .i64 0), (.int .i64 0)] 2 8 [0, 1]), [.t 10, .t 11]⟩,
zM 1 12])
(.seq (.ops [zM 14 1,
⟨some 15, none, .call, [.c (.func (.func 9) [] []), .t 14]⟩,
zM 13 15,
zP 16 (.ext 0) [.t 13],
zP 17 (.ext 1) [.t 13],
zM 2 16,
zM 3 17])
(.seq (.seq (.ops [zM 18 3,
zP 19 (.bin .neq) [.t 18, .c (.int .i64 0)],
zM 20 19,
zMg 21 2 20 false,
zPg 22 (.eq .nilptr) [.t 21, .c .nilp] 20 false,
zP 23 .pick [.t 20, .c (.bool true), .t 22]])
(.cond (.t 23)
(.seq (.ops [zP 0 .mov [.c (.bool false)]])
.ret)
.skip))
(.seq (.ops [zP 24 (.build [(.int .i64 0), (.int .i64 0), (.str [])] [(0, 1)]) [.c (.int .i64 2)],
zP 25 (.build [(.int .i64 0), (.int .i64 0), (.str [])] [(0, 1), (1, 1)]) [.c (.int .i64 1), .c (.int .i64 3)],
zP 26 (.build [(.int .i64 0), (.int .i64 0), (.str [])] [(0, 1)]) [.c (.int .i64 3)],
zP 27 (.build [(.int .i64 0), (.int .i64 0), (.str [])] [(0, 1), (1, 1)]) [.c (.int .i64 1), .c (.int .i64 3)],
⟨some 28, none, .a (.bslice [(.int .i64 0), (.int .i64 0), (.str [])] 4 3 [0, 1, 2, 3]), [.t 24, .t 25, .t 26, .t 27]⟩,
zM 4 28])
(.seq (.ops [zP 29 (.build [(.int .i64 0), (.int .i64 0), (.str [])] [(0, 1), (1, 1)]) [.c (.int .i64 1), .c (.int .i64 2)],
⟨some 30, none, .a (.bslice [(.int .i64 0), (.int .i64 0), (.str [])] 1 3 [0]), [.t 29]⟩,
zM 5 30])
(.seq (.ops [zM 31 2,
zM 32 4,
⟨some 33, none, .call, [.c (.func (.func 28) [] []), .t 31, .c (.int .i64 1), .t 32, .c (.int .i64 0)]⟩,
zP 34 (.bin .eql) [.t 33, .c (.int .i64 0)],
zM 35 34,
zMg 36 2 35 true,
⟨some 37, some (35, true), .call, [.c (.func (.func 31) [] []), .t 36, .c (.int .i64 1)]⟩,
zP 38 .pick [.t 35, .t 37, .c (.bool false)],
zM 39 38,
zMg 40 2 39 true,
⟨some 41, some (39, true), .call, [.c (.func (.func 22) [] []), .t 40, .c (.int .i64 1), .c (.int .i64 0)]⟩,
zPg 42 (.bin .eql) [.t 41, .c (.int .i64 0)] 39 true,
zP 43 .pick [.t 39, .t 42, .c (.bool false)],
zM 44 43,
zMg 45 2 44 true,
⟨some 46, some (44, true), .call, [.c (.func (.func 20) [] []), .t 45, .c (.int .i64 1)]⟩,
zPg 47 (.bin .eql) [.t 46, .c (.int .i64 0)] 44 true,
zP 48 .pick [.t 44, .t 47, .c (.bool false)],
zM 6 48])
(.seq (.ops [zM 49 2,
zM 50 5,
⟨some 51, none, .call, [.c (.func (.func 28) [] []), .t 49, .c (.int .i64 0), .t 50, .c (.int .i64 1)]⟩,
zP 52 (.bin .eql) [.t 51, .c (.int .i64 0)],
zM 53 52,
zMg 54 2 53 true,
⟨some 55, some (53, true), .call, [.c (.func (.func 31) [] []), .t 54, .c (.int .i64 1)]⟩,
zP 56 .pick [.t 53, .t 55, .c (.bool false)],
zM 7 56])
(.seq (.ops [zM 57 2,
⟨some 58, none, .call, [.c (.func (.func 21) [] []), .t 57, .c (.int .i64 1)]⟩,
zP 59 (.bin .eql) [.t 58, .c (.int .i64 0)],
zM 60 59,
zMg 61 2 60 true,
⟨some 62, some (60, true), .call, [.c (.func (.func 21) [] []), .t 61, .c (.int .i64 1)]⟩,
zPg 63 (.bin .eql) [.t 62, .c (.int .i64 0)] 60 true,
zP 64 .pick [.t 60, .t 63, .c (.bool false)],
zM 65 64,
zMg 66 2 65 true,
⟨some 67, some (65, true), .call, [.c (.func (.func 21) [] []), .t 66, .c (.int .i64 1)]⟩,
zPg 68 (.bin .eql) [.t 67, .c (.int .i64 0)] 65 true,
zP 69 .pick [.t 65, .t 68, .c (.bool false)],
zM 70 69,
zMg 71 2 70 true,
⟨some 72, some (70, true), .call, [.c (.func (.func 23) [] []), .t 71, .c (.int .i64 1)]⟩,
zPg 73 (.bin .eql) [.t 72, .c (.int .i64 0)] 70 true,
zP 74 .pick [.t 70, .t 73, .c (.bool false)],
zM 75 74,
zMg 76 2 75 true,
⟨some 77, some (75, true), .call, [.c (.func (.func 20) [] []), .t 76, .c (.int .i64 1)]⟩,
zPg 78 (.bin .eql) [.t 77, .c (.int .i64 0)] 75 true,
zP 79 .pick [.t 75, .t 78, .c (.bool false)],
zM 80 79,
zMg 81 2 80 true,
⟨some 82, some (80, true), .call, [.c (.func (.func 31) [] []), .t 81, .c (.int .i64 0)]⟩,
zP 83 .pick [.t 80, .t 82, .c (.bool false)],
zM 8 83])
(.seq (.ops [zM 84 2,
zM 85 5,
⟨some 86, none, .call, [.c (.func (.func 28) [] []), .t 84, .c (.int .i64 0), .t 85, .c (.int .i64 25)]⟩,
zP 87 (.bin .eql) [.t 86, .c (.int .i64 141)],
zM 88 87,
zMg 89 2 88 true,
⟨some 90, some (88, true), .call, [.c (.func (.func 27) [] []), .t 89, .c (.int .i64 0)]⟩,
zP 91 .pick [.t 88, .t 90, .c (.bool false)],
zM 92 91,
zMg 93 2 92 true,
zMg 94 5 92 true,
⟨some 95, some (92, true), .call, [.c (.func (.func 28) [] []), .t 93, .c (.int .i64 0), .t 94, .c (.int .i64 15)]⟩,
zPg 96 (.bin .eql) [.t 95, .c (.int .i64 140)] 92 true,
zP 97 .pick [.t 92, .t 96, .c (.bool false)],
zM 98 97,
zMg 99 2 98 true,
zMg 100 5 98 true,
⟨some 101, some (98, true), .call, [.c (.func (.func 28) [] []), .t 99, .c (.int .i64 0), .t 100, .c (.int .i64 21)]⟩,
zPg 102 (.bin .eql) [.t 101, .c (.int .i64 0)] 98 true,
zP 103 .pick [.t 98, .t 102, .c (.bool false)],
zM 9 103])
(.seq (.ops [zM 104 6,
zM 105 104,
zMg 106 7 105 true,
zP 107 .pick [.t 105, .t 106, .c (.bool false)],
zM 108 107,
zMg 109 8 108 true,
zP 110 .pick [.t 108, .t 109, .c (.bool false)],
zM 111 110,
zMg 112 9 111 true,
zP 113 .pick [.t 111, .t 112, .c (.bool false)],
zM 0 113])
.ret)))))))))))⟩
abbrev f_escapementlaw18_works : Nat := 7
abbrev C_escapementlaw18_works : AFunc := C7
def L_escapementlaw18_made_0 : AC := (.seq (.seq (.ops [zM 8 4,
zM 9 0,
zP 10 .lenS [.t 9],
zP 11 (.bin .lss) [.t 8, .t 10],
zM 12 11,
zMg 13 4 12 true,
zPg 14 (.bin .lss) [.t 13, .c (.int .i64 4)] 12 true,
zP 15 .pick [.t 12, .t 14, .c (.bool false)]])
(.cond (.t 15)
.skip
(.exit 0)))
(.seq (.block 1 (.seq (.ops [zM 18 0,
zM 19 4,
zP 20 (.iaddrS 8) [.t 18, .t 19],
zF 21 20 0,
zL 22 21,
⟨some 23, none, .call, [.c (.func (.func 12) [] []), .t 22, .c (.int .i64 64)]⟩,
zP 24 (.bin .add) [.c (.int .i64 1), .t 23],
zM 5 24])
(.seq (.ops [zM 25 0,
zM 26 4,
zP 27 (.iaddrS 8) [.t 25, .t 26],
zF 28 27 1,
zL 29 28,
zM 30 5,
⟨some 31, none, .call, [.c (.func (.func 12) [] []), .t 29, .t 30]⟩,
zP 32 (.bin .add) [.c (.int .i64 1), .t 31],
zM 6 32])
(.seq (.dops [zM 33 5,
zM 34 6,
zM 35 0,
zM 36 4,
zP 37 (.iaddrS 8) [.t 35, .t 36],
zF 38 37 2,
zL 39 38,
zM 40 6,
⟨some 41, none, .call, [.c (.func (.func 12) [] []), .t 39, .t 40]⟩,
zP 42 (.bin .add) [.c (.int .i64 1), .t 41],
zM 43 0,
zM 44 4,
zP 45 (.iaddrS 8) [.t 43, .t 44],
zF 46 45 3,
zL 47 46,
⟨some 48, none, .call, [.c (.func (.func 12) [] []), .t 47, .c (.int .i64 16)]⟩,
zP 49 (.build [(.int .i64 0), (.int .i64 0), (.int .i64 0), (.int .i64 0), (.int .i64 0), (.int .i64 0), (.int .i64 0), (.int .i64 0)] [(0, 1), (1, 1), (2, 1), (3, 1)]) [.t 33, .t 34, .t 42, .t 48],
⟨some 7, none, .a (.alloc [(.int .i64 0), (.int .i64 0), (.int .i64 0), (.int .i64 0), (.int .i64 0), (.int .i64 0), (.int .i64 0), (.int .i64 0)]), []⟩,
zS 8 [.t 7, .t 49]] [[], [], [], [], [], [], [], [], [], [], [], [], [], [], [0, 9], [], [], [], []])
(.seq (.seq (.ops [zF 50 7 3,
zL 51 50,
zP 52 (.bin .gtr) [.t 51, .c (.int .i64 0)]])
(.cond (.t 52)
(.ops [zF 53 7 2,
zL 54 53,
zF 55 7 4,
zS 1 [.t 55, .t 54]])
.skip))
(.ops [zM 56 3,
⟨some 57, none, .r (.loadN 8), [.t 7]⟩,
⟨some 58, none, .a (.bslice [(.int .i64 0), (.int .i64 0), (.int .i64 0), (.int .i64 0), (.int .i64 0), (.int .i64 0), (.int .i64 0), (.int .i64 0)] 1 8 [0]), [.t 57]⟩,
⟨some 59, none, .e (.append 8 64), [.t 56, .t 58]⟩,
zM 3 59]))))))
(.ops [zM 16 4,
zP 17 (.bin .add) [.t 16, .c (.int .i64 1)],
zM 4 17])))
def C8 : AFunc := ⟨61, [.tmp 2],
(.seq (.ops [zP 2 .mov [.c .nils]])
(.seq (.ops [zP 3 .mov [.c .nils]])
(.seq (.seq (.ops [zP 4 .mov [.c (.int .i64 0)]])
(.block 0 (.loop L_escapementlaw18_made_0)))
(.seq (.ops [zM 60 3,
zM 2 60])
.ret))))⟩
abbrev f_escapementlaw18_made : Nat := 8
abbrev C_escapementlaw18_made : AFunc := C8
def L_room_New_0 : AC := (.seq (.ops [zP 28 (.bin .lss) [.t 27, .t 26]])
(.seq (.cond (.t 28)
.skip
(.exit 0))
(.seq (.block 1 (.seq (.ops [zP 29 (.iaddrS 8) [.t 25, .t 27],
⟨some 30, none, .r (.loadN 8), [.t 29]⟩,
⟨some 7, none, .a (.alloc [(.int .i64 0), (.int .i64 0), (.int .i64 0), (.int .i64 0), (.int .i64 0), (.int .i64 0), (.int .i64 0), (.int .i64 0)]), []⟩,
zS 8 [.t 7, .t 30]])
(.seq (.ops [zF 32 7 0,
zL 33 32,
⟨some 34, none, .call, [.c (.func (.func 37) [] []), .t 33]⟩,
zM 31 34,
zP 35 (.ext 0) [.t 31],
zP 36 (.ext 1) [.t 31],
zM 8 35,
zM 9 36])
(.ops [zM 37 5,
zM 38 5,
zN 39 38,
zF 40 39 3,
zL 41 40,
zM 42 8,
⟨some 43, none, .a (.bslice [.nilp] 1 1 [0]), [.t 42]⟩,
⟨some 44, none, .e (.append 1 8), [.t 41, .t 43]⟩,
zN 45 37,
zF 46 45 3,
zS 1 [.t 46, .t 44]]))))
(.ops [zP 47 (.bin .add) [.t 27, .c (.int .i64 1)],
zM 27 47]))))
def C9 : AFunc := ⟨66, [.tmp 2, .tmp 3],
(.seq (.ops [zP 2 .mov [.c .nilp],
zP 3 .mov [.c (.int .i64 0)]])
(.seq (.seq (.ops [zM 10 0,
zM 11 0,
zP 12 .lenS [.t 11],
⟨some 13, none, .a (.mkslice [(.int .i64 0)] 1 8), [.t 12, .t 12]⟩,
⟨some 14, none, .call, [.c (.func (.func 10) [] []), .t 10, .t 13]⟩,
zM 4 14])
(.seq (.ops [zM 15 4,
zP 16 (.bin .neq) [.t 15, .c (.int .i64 0)]])
(.cond (.t 16)
(.seq (.ops [zM 17 4,
zP 2 .mov [.c .nilp],
zM 3 17])
.ret)
.skip)))
(.seq (.dops [zM 18 0,
⟨some 19, none, .call, [.c (.func (.func 36) [] []), .t 18]⟩,
zM 20 0,
zP 21 .lenS [.t 20],
⟨some 22, none, .a (.mkslice [.nilp] 1 8), [.t 21, .t 21]⟩,
zP 23 (.build [.nilp, .nilp, .nils, .nils, .nils] [(2, 1), (4, 1)]) [.t 19, .t 22],
⟨some 24, none, .a .box, [.t 23]⟩,
zM 5 24] [[], [], [], [], [], [], [], []])
(.seq (.seq (.ops [zM 25 0,
zP 26 .lenS [.t 25],
zP 27 .mov [.c (.int .i64 0)]])
(.block 0 (.loop L_room_New_0)))
(.seq (.ops [zM 49 5,
zM 50 0,
⟨some 51, none, .call, [.c (.func (.func 38) [] []), .t 50]⟩,
zM 48 51,
zP 52 (.ext 0) [.t 48],
zP 53 (.ext 1) [.t 48],
zN 54 49,
zF 55 54 0,
zS 1 [.t 55, .t 52]])
(.seq (.ops [zM 57 5,
zM 58 0,
zP 59 .lenS [.t 58],
⟨some 60, none, .call, [.c (.func (.func 39) [] []), .t 59]⟩,
zM 56 60,
zP 61 (.ext 0) [.t 56],
zP 62 (.ext 1) [.t 56],
zN 63 57,
zF 64 63 1,
zS 1 [.t 64, .t 61]])
(.seq (.ops [zM 65 5,
zM 2 65,
zP 3 .mov [.c (.int .i64 0)]])
.ret)))))))⟩
abbrev f_room_New : Nat := 9
abbrev C_room_New : AFunc := C9
def C10 : AFunc := ⟨21, [.tmp 4],
(.seq (.ops [zP 4 .mov [.c (.int .i64 0)]])
(.seq (.ops [zM 6 1,
⟨some 7, none, .call, [.c (.func (.func 40) [] []), .t 6, .c (.func (.func 41) [] [])]⟩,
zM 5 7])
(.seq (.seq (.ops [zM 8 5,
zM 9 8,
zMg 10 0 9 false,
⟨some 11, some (9, false), .call, [.c (.func (.func 42) [] []), .t 10]⟩,
zPg 12 .not [.t 11] 9 false,
zP 13 .pick [.t 9, .c (.bool true), .t 12],
zM 14 13,
zMg 15 1 14 false,
zPg 16 .lenS [.t 15] 14 false,
zMg 17 0 14 false,
zPg 18 .lenS [.t 17] 14 false,
zPg 19 (.bin .neq) [.t 16, .t 18] 14 false,
zP 20 .pick [.t 14, .c (.bool true), .t 19]])
(.cond (.t 20)
(.seq (.ops [zP 4 .mov [.c (.int .i64 2)]])
.ret)
.skip))
(.seq (.ops [zP 4 .mov [.c (.int .i64 0)]])
.ret))))⟩
abbrev f_demand_Check : Nat := 10
abbrev C_demand_Check : AFunc := C10
def C11 : AFunc := ⟨227, [.tmp 4],
(.seq (.ops [zP 4 .mov [.c (.bool false)]])
(.seq (.seq (.ops [zM 12 1,
zP 13 (.bin .rem) [.t 12, .c (.int .i64 3)],
zP 14 (.bin .eql) [.t 13, .c (.int .i64 0)],
zM 15 14,
zMg 16 0 15 true,
zNg 17 16 15 true,
zFg 18 17 1 15 true,
zLg 19 18 15 true,
zPg 20 .lenS [.t 19] 15 true,
zPg 21 (.bin .gtr) [.t 20, .c (.int .i64 0)] 15 true,
zP 22 .pick [.t 15, .t 21, .c (.bool false)]])
(.cond (.t 22)
(.seq (.dops [zM 23 0,
zN 24 23,
zF 25 24 0,
zL 26 25,
zM 27 1,
zP 28 (.bin .quo) [.t 27, .c (.int .i64 3)],
zM 29 0,
zN 30 29,
zF 31 30 1,
zL 32 31,
zP 33 .lenS [.t 32],
zP 34 (.bin .rem) [.t 28, .t 33],
zP 35 (.build [(.int .i64 0), (.int .i64 0), (.str [])] [(0, 1), (1, 1)]) [.c (.int .i64 1), .c (.int .i64 64)],
⟨some 36, none, .a (.bslice [(.int .i64 0), (.int .i64 0), (.str [])] 1 3 [0]), [.t 35]⟩,
zM 37 0,
zN 38 37,
zF 39 38 2,
zL 40 39,
⟨some 41, none, .call, [.c (.func (.func 28) [] []), .t 26, .t 34, .t 36, .t 40]⟩] [[], [], [], [], [], [], [], [], [], [], [], [], [], [], [], [], [], [], []])
(.seq (.ops [zP 4 .mov [.c (.bool true)]])
.ret))
.skip))
(.seq (.ops [zM 42 0,
zM 43 0,
zN 44 43,
zF 45 44 2,
zL 46 45,
zP 47 (.bin .add) [.t 46, .c (.int .i64 1)],
zN 48 42,
zF 49 48 2,
zS 1 [.t 49, .t 47]])
(.seq (.ops [zM 51 0,
zN 52 51,
zF 53 52 0,
zL 54 53,
⟨some 55, none, .call, [.c (.func (.func 15) [] []), .t 54]⟩,
zM 50 55,
zP 56 (.ext 0) [.t 50],
zP 57 (.ext 1) [.t 50],
zM 5 56,
zM 6 57])
(.seq (.seq (.ops [zM 58 6,
zP 59 .not [.t 58],
zM 60 59,
zMg 61 5 60 false,
zPg 62 (.bin .lss) [.t 61, .c (.int .i64 0)] 60 false,
zP 63 .pick [.t 60, .c (.bool true), .t 62],
zM 64 63,
zMg 65 5 64 false,
zMg 66 0 64 false,
zNg 67 66 64 false,
zFg 68 67 1 64 false,
zLg 69 68 64 false,
zPg 70 .lenS [.t 69] 64 false,
zPg 71 (.bin .geq) [.t 65, .t 70] 64 false,
zP 72 .pick [.t 64, .c (.bool true), .t 71]])
(.cond (.t 72)
(.seq (.ops [zM 73 6,
zP 74 .not [.t 73],
zM 75 74,
zMg 76 0 75 true,
zNg 77 76 75 true,
zFg 78 77 0 75 true,
zLg 79 78 75 true,
⟨some 80, some (75, true), .call, [.c (.func (.func 34) [] []), .t 79]⟩,
zPg 81 .lenS [.t 80] 75 true,
zPg 82 (.bin .eql) [.t 81, .c (.int .i64 0)] 75 true,
zP 83 .pick [.t 75, .t 82, .c (.bool false)],
zM 4 83])
.ret)
.skip))
(.seq (.ops [zM 84 1,
zP 85 (.bin .quo) [.t 84, .c (.int .i64 24)],
zP 86 (.bin .rem) [.t 85, .c (.int .i64 4)],
zM 7 86])
(.seq (.seq (.ops [zM 87 1,
zP 88 (.bin .quo) [.t 87, .c (.int .i64 3)],
zP 89 (.bin .rem) [.t 88, .c (.int .i64 8)]])
(.block 0 (.seq (.seq (.ops [zP 119 (.bin .eql) [.t 89, .c (.int .i64 0)],
zM 118 119])
(.cond (.t 118)
.skip
(.seq (.ops [zP 120 (.bin .eql) [.t 89, .c (.int .i64 1)],
zM 118 120])
(.cond (.t 118)
.skip
(.ops [zP 121 (.bin .eql) [.t 89, .c (.int .i64 2)],
zM 118 121])))))
(.cond (.t 118)
(.seq (.ops [zM 123 0,
zM 124 7,
⟨some 125, none, .call, [.c (.func (.func 43) [] []), .t 123, .t 124]⟩,
zM 122 125,
zP 126 (.ext 0) [.t 122],
zP 127 (.ext 1) [.t 122],
zM 8 126,
zM 9 127])
(.seq (.ops [zM 128 0,
zN 129 128,
zF 130 129 0,
zL 131 130,
zM 132 5,
zM 133 7,
⟨some 134, none, .call, [.c (.func (.func 22) [] []), .t 131, .t 132, .t 133]⟩,
zM 10 134])
(.seq (.ops [zM 135 0,
zN 136 135,
zF 137 136 1,
zL 138 137,
zM 139 5,
zP 140 (.iaddrS 8) [.t 138, .t 139],
zF 141 140 3,
zL 142 141,
zM 143 7,
zP 144 (.bin .shr) [.t 142, .t 143],
zP 145 (.bin .and) [.t 144, .c (.int .i64 1)],
zP 146 (.bin .eql) [.t 145, .c (.int .i64 1)],
zM 11 146])
(.seq (.seq (.ops [zM 147 11,
zM 148 147,
zMg 149 10 148 true,
zPg 150 (.bin .eql) [.t 149, .c (.int .i64 131)] 148 true,
zP 151 .pick [.t 148, .t 150, .c (.bool false)],
zM 152 151,
zMg 153 9 152 true,
zPg 154 .not [.t 153] 152 true,
zMg 155 154 152 true,
zMg 156 8 155 false,
zMg 157 5 155 false,
zPg 158 (.bin .neq) [.t 156, .t 157] 155 false,
zPg 159 .pick [.t 155, .c (.bool true), .t 158] 152 true,
zP 160 .pick [.t 152, .t 159, .c (.bool false)],
zM 161 160,
zMg 162 11 161 false,
zMg 163 162 161 false,
zMg 164 9 163 true,
zPg 165 .pick [.t 163, .t 164, .c (.bool false)] 161 false,
zMg 166 165 161 false,
zMg 167 8 166 true,
zMg 168 5 166 true,
zPg 169 (.bin .neq) [.t 167, .t 168] 166 true,
zPg 170 .pick [.t 166, .t 169, .c (.bool false)] 161 false,
zP 171 .pick [.t 161, .c (.bool true), .t 170]])
(.cond (.t 171)
(.seq (.ops [zP 4 .mov [.c (.bool false)]])
.ret)
.skip))
(.seq (.ops [zM 172 10,
zP 173 (.bin .eql) [.t 172, .c (.int .i64 0)],
zM 174 173,
zMg 175 0 174 true,
zNg 176 175 174 true,
zFg 177 176 0 174 true,
zLg 178 177 174 true,
zMg 179 5 174 true,
⟨some 180, some (174, true), .call, [.c (.func (.func 14) [] []), .t 178, .t 179]⟩,
zPg 181 .lenS [.t 180] 174 true,
zPg 182 (.bin .eql) [.t 181, .c (.int .i64 1)] 174 true,
zP 183 .pick [.t 174, .t 182, .c (.bool false)]])
(.cond (.t 183)
(.ops [zM 184 0,
zM 185 0,
zN 186 185,
zF 187 186 3,
zL 188 187,
zM 189 5,
⟨some 190, none, .a (.bslice [(.int .i64 0)] 1 1 [0]), [.t 189]⟩,
⟨some 191, none, .e (.append 1 8), [.t 188, .t 190]⟩,
zN 192 184,
zF 193 192 3,
zS 1 [.t 193, .t 191]])
.skip))))))
(.seq (.ops [zP 195 (.bin .eql) [.t 89, .c (.int .i64 3)],
zM 194 195])
(.cond (.t 194)
(.seq (.ops [zM 196 0,
zN 197 196,
zF 198 197 0,
zL 199 198,
zM 200 5,
⟨some 201, none, .call, [.c (.func (.func 23) [] []), .t 199, .t 200]⟩,
zP 202 (.bin .eql) [.t 201, .c (.int .i64 0)],
zM 203 202,
zMg 204 0 203 true,
zNg 205 204 203 true,
zFg 206 205 0 203 true,
zLg 207 206 203 true,
zMg 208 5 203 true,
⟨some 209, some (203, true), .call, [.c (.func (.func 14) [] []), .t 207, .t 208]⟩,
zPg 210 .lenS [.t 209] 203 true,
zPg 211 (.bin .eql) [.t 210, .c (.int .i64 0)] 203 true,
zP 212 .pick [.t 203, .t 211, .c (.bool false)]])
(.cond (.t 212)
(.ops [zM 213 0,
zM 214 5,
⟨some 215, none, .call, [.c (.func (.func 44) [] []), .t 213, .t 214]⟩])
.skip))
(.seq (.ops [zP 217 (.bin .eql) [.t 89, .c (.int .i64 4)],
zM 216 217])
(.cond (.t 216)
(.seq (.ops [zM 218 0,
zM 219 5,
⟨some 220, none, .call, [.c (.func (.func 44) [] []), .t 218, .t 219]⟩])
(.seq (.ops [zM 221 0,
zN 222 221,
zF 223 222 0,
zL 224 223,
zM 225 5,
⟨some 226, none, .call, [.c (.func (.func 27) [] []), .t 224, .t 225]⟩,
zM 4 226])
.ret))
(.seq (.dops [zM 90 0,
zN 91 90,
zF 92 91 0,
zL 93 92,
zM 94 5,
⟨some 95, none, .call, [.c (.func (.func 21) [] []), .t 93, .t 94]⟩,
zP 96 (.bin .eql) [.t 95, .c (.int .i64 0)],
zM 97 96,
zMg 98 0 97 false,
zNg 99 98 97 false,
zFg 100 99 0 97 false,
zLg 101 100 97 false,
zMg 102 5 97 false,
zMg 103 0 97 false,
zNg 104 103 97 false,
zFg 105 104 2 97 false,
zLg 106 105 97 false,
⟨some 107, some (97, false), .call, [.c (.func (.func 32) [] []), .t 101, .t 102, .t 106]⟩,
zPg 108 (.bin .neq) [.t 107, .c (.int .i64 0)] 97 false,
zP 109 .pick [.t 97, .c (.bool true), .t 108],
zM 110 109,
zMg 111 0 110 false,
zNg 112 111 110 false,
zFg 113 112 0 110 false,
zLg 114 113 110 false,
zMg 115 5 110 false,
⟨some 116, some (110, false), .call, [.c (.func (.func 45) [] []), .t 114, .t 115]⟩,
zP 117 .pick [.t 110, .c (.bool true), .t 116],
zM 4 117] [[], [], [], [], [], [], [], [], [], [], [], [], [], [], [], [], [], [], [], [], [], [], [], [], [], [], [], [], []])
.ret)))))))))
(.seq (.ops [zP 4 .mov [.c (.bool true)]])
.ret))))))))⟩
abbrev f_escapementlaw18_play_step : Nat := 11
abbrev C_escapementlaw18_play_step : AFunc := C11
def C12 : AFunc := ⟨14, [.tmp 4],
(.seq (.ops [zP 4 .mov [.c (.int .i64 0)]])
(.seq (.ops [zM 5 0,
zM 6 1,
zP 7 (.bin .rem) [.t 5, .t 6],
zM 0 7])
(.seq (.seq (.ops [zM 8 0,
zP 9 (.bin .lss) [.t 8, .c (.int .i64 0)]])
(.cond (.t 9)
(.ops [zM 10 0,
zM 11 1,
zP 12 (.bin .add) [.t 10, .t 11],
zM 0 12])
.skip))
(.seq (.ops [zM 13 0,
zM 4 13])
.ret))))⟩
abbrev f_escapementref00_Bring : Nat := 12
abbrev C_escapementref00_Bring : AFunc := C12
def C13 : AFunc := ⟨18, [.tmp 4, .tmp 5],
(.seq (.ops [zP 4 .mov [.c (.int .i64 0)],
zP 5 .mov [.c (.bool false)]])
(.seq (.ops [zM 9 0,
zM 10 1,
⟨some 11, none, .call, [.c (.func (.func 46) [] []), .t 9, .t 10]⟩,
zM 8 11,
zP 12 (.ext 0) [.t 8],
zP 13 (.ext 1) [.t 8],
zM 6 12,
zM 7 13])
(.seq (.seq (.ops [zM 14 7,
zP 15 (.bin .neq) [.t 14, .c (.int .i64 0)]])
(.cond (.t 15)
(.seq (.ops [zP 4 .mov [.c (.int .i64 0)],
zP 5 .mov [.c (.bool false)]])
.ret)
.skip))
(.seq (.ops [zM 16 6,
⟨some 17, none, .call, [.c (.func (.func 47) [] []), .t 16]⟩,
zM 4 17,
zP 5 .mov [.c (.bool true)]])
.ret))))⟩
abbrev f_room_Room_Deadline : Nat := 13
abbrev C_room_Room_Deadline : AFunc := C13
def C14 : AFunc := ⟨21, [.tmp 4],
(.seq (.ops [zP 4 .mov [.c .nils]])
(.seq (.seq (.ops [zM 8 0,
zM 9 1,
⟨some 10, none, .call, [.c (.func (.func 46) [] []), .t 8, .t 9]⟩,
zM 7 10,
zP 11 (.ext 0) [.t 7],
zP 12 (.ext 1) [.t 7],
zM 5 11,
zM 6 12])
(.seq (.ops [zM 13 6,
zP 14 (.bin .neq) [.t 13, .c (.int .i64 0)]])
(.cond (.t 14)
(.seq (.ops [zP 4 .mov [.c .nils]])
.ret)
.skip)))
(.seq (.ops [zM 15 0,
zN 16 15,
zF 17 16 0,
zL 18 17,
zM 19 1,
⟨some 20, none, .call, [.c (.func (.func 48) [] []), .t 18, .t 19]⟩,
zM 4 20])
.ret)))⟩
abbrev f_room_Room_Held : Nat := 14
abbrev C_room_Room_Held : AFunc := C14
def C15 : AFunc := ⟨60, [.tmp 2, .tmp 3],
(.seq (.ops [zP 2 .mov [.c (.int .i64 0)],
zP 3 .mov [.c (.bool false)]])
(.seq (.seq (.ops [zM 9 0,
⟨some 10, none, .call, [.c (.func (.func 49) [] []), .t 9]⟩])
(.cond (.t 10)
(.seq (.ops [zP 2 .mov [.c (.int .i64 0)],
zP 3 .mov [.c (.bool false)]])
.ret)
.skip))
(.seq (.seq (.ops [zM 12 0,
⟨some 13, none, .call, [.c (.func (.func 30) [] []), .t 12]⟩,
zM 11 13,
zP 14 (.ext 0) [.t 11],
zP 15 (.ext 1) [.t 11],
zP 16 (.ext 2) [.t 11],
zM 4 14,
zM 5 15,
zM 6 16])
(.seq (.ops [zM 17 6])
(.cond (.t 17)
(.seq (.ops [zM 18 4,
zM 2 18,
zP 3 .mov [.c (.bool true)]])
.ret)
.skip)))
(.seq (.ops [zM 20 0,
zN 21 20,
zF 22 21 1,
zL 23 22,
⟨some 24, none, .call, [.c (.func (.func 50) [] []), .t 23]⟩,
zM 19 24,
zP 25 (.ext 0) [.t 19],
zP 26 (.ext 1) [.t 19],
zP 27 (.ext 2) [.t 19],
zM 7 25,
zM 8 26,
zM 3 27])
(.seq (.block 0 (.seq (.ops [zM 29 3,
zP 30 .not [.t 29],
zM 28 30])
(.cond (.t 28)
(.seq (.ops [zP 2 .mov [.c (.int .i64 0)],
zP 3 .mov [.c (.bool false)]])
.ret)
(.seq (.seq (.ops [zM 32 0,
zN 33 32,
zF 34 33 4,
zL 35 34,
zM 36 7,
zP 37 (.iaddrS 1) [.t 35, .t 36],
zL 38 37,
⟨some 39, none, .call, [.c (.func (.func 51) [] []), .t 38]⟩,
zM 31 39])
(.cond (.t 31)
.skip
(.dops [zM 40 0,
zN 41 40,
zF 42 41 2,
zL 43 42,
zM 44 7,
⟨some 45, none, .call, [.c (.func (.func 52) [] []), .t 43, .t 44]⟩,
zM 46 0,
zN 47 46,
zF 48 47 0,
zL 49 48,
⟨some 50, none, .call, [.c (.func (.func 53) [] []), .t 49]⟩,
zP 51 (.bin .gtr) [.t 45, .t 50],
zM 31 51] [[], [], [], [], [], [], [], [], [], [0, 6], [], [], []])))
(.cond (.t 31)
(.seq (.ops [zM 52 7,
zM 2 52,
zP 3 .mov [.c (.bool true)]])
.ret)
.skip)))))
(.seq (.ops [zM 53 0,
zN 54 53,
zF 55 54 0,
zL 56 55,
⟨some 57, none, .call, [.c (.func (.func 54) [] []), .t 56]⟩,
zP 58 (.ext 0) [.t 57],
zP 59 (.ext 1) [.t 57],
zM 2 58,
zM 3 59])
.ret))))))⟩
abbrev f_room_Room_Who : Nat := 15
abbrev C_room_Room_Who : AFunc := C15
def C20 : AFunc := ⟨8, [.tmp 4],
(.seq (.ops [zP 4 .mov [.c (.int .i64 0)]])
(.seq (.ops [zM 5 0,
zM 6 1,
⟨some 7, none, .call, [.c (.func (.func 79) [] []), .t 5, .t 6, .c (.func (.func 80) [] [])]⟩,
zM 4 7])
.ret))⟩
abbrev f_room_Room_Did : Nat := 20
abbrev C_room_Room_Did : AFunc := C20
def C21 : AFunc := ⟨8, [.tmp 4],
(.seq (.ops [zP 4 .mov [.c (.int .i64 0)]])
(.seq (.ops [zM 5 0,
zM 6 1,
⟨some 7, none, .call, [.c (.func (.func 79) [] []), .t 5, .t 6, .c (.func (.func 81) [] [])]⟩,
zM 4 7])
.ret))⟩
abbrev f_room_Room_Run : Nat := 21
abbrev C_room_Room_Run : AFunc := C21
def C22 : AFunc := ⟨11, [.tmp 6],
(.seq (.ops [⟨some 3, none, .a .box, [.t 0]⟩,
⟨some 4, none, .a .box, [.t 1]⟩,
⟨some 5, none, .a .box, [.t 2]⟩,
zP 6 .mov [.c (.int .i64 0)]])
(.seq (.ops [zL 7 3,
zL 8 4,
zP 9 (.mkfunc (.func 82) 0) [.t 3, .t 4, .t 5],
⟨some 10, none, .call, [.c (.func (.func 79) [] []), .t 7, .t 8, .t 9]⟩,
zM 6 10])
.ret))⟩
abbrev f_room_Room_Lock : Nat := 22
abbrev C_room_Room_Lock : AFunc := C22
def C23 : AFunc := ⟨9, [.tmp 4],
(.seq (.ops [⟨some 2, none, .a .box, [.t 0]⟩,
⟨some 3, none, .a .box, [.t 1]⟩,
zP 4 .mov [.c (.int .i64 0)]])
(.seq (.ops [zL 5 2,
zL 6 3,
zP 7 (.mkfunc (.func 86) 0) [.t 2, .t 3],
⟨some 8, none, .call, [.c (.func (.func 79) [] []), .t 5, .t 6, .t 7]⟩,
zM 4 8])
.ret))⟩
abbrev f_room_Room_Unlock : Nat := 23
abbrev C_room_Room_Unlock : AFunc := C23
def C27 : AFunc := ⟨33, [.tmp 4],
(.seq (.ops [zP 4 .mov [.c (.bool false)]])
(.seq (.seq (.ops [zM 8 0,
zM 9 1,
⟨some 10, none, .call, [.c (.func (.func 46) [] []), .t 8, .t 9]⟩,
zM 7 10,
zP 11 (.ext 0) [.t 7],
zP 12 (.ext 1) [.t 7],
zM 5 11,
zM 6 12])
(.seq (.ops [zM 13 6,
zP 14 (.bin .neq) [.t 13, .c (.int .i64 0)]])
(.cond (.t 14)
(.seq (.ops [zP 4 .mov [.c (.bool false)]])
.ret)
.skip)))
(.seq (.ops [zM 15 0,
zN 16 15,
zF 17 16 4,
zL 18 17,
zM 19 1,
zP 20 (.iaddrS 1) [.t 18, .t 19],
zS 1 [.t 20, .c .nilp]])
(.seq (.ops [zM 21 0,
zN 22 21,
zF 23 22 1,
zL 24 23,
zM 25 1,
⟨some 26, none, .call, [.c (.func (.func 92) [] []), .t 24, .t 25]⟩])
(.seq (.ops [zM 27 0,
zN 28 27,
zF 29 28 0,
zL 30 29,
zM 31 1,
⟨some 32, none, .call, [.c (.func (.func 93) [] []), .t 30, .t 31]⟩])
(.seq (.ops [zP 4 .mov [.c (.bool true)]])
.ret))))))⟩
abbrev f_room_Room_End : Nat := 27
abbrev C_room_Room_End : AFunc := C27
def C28 : AFunc := ⟨70, [.tmp 8],
(.seq (.ops [zP 8 .mov [.c (.int .i64 0)]])
(.seq (.seq (.ops [zM 13 0,
zM 14 1,
⟨some 15, none, .call, [.c (.func (.func 94) [] []), .t 13, .t 14]⟩,
zM 9 15])
(.seq (.ops [zM 16 9,
zP 17 (.bin .neq) [.t 16, .c (.int .i64 0)]])
(.cond (.t 17)
(.seq (.ops [zM 18 9,
zM 8 18])
.ret)
.skip)))
(.seq (.seq (.ops [zM 19 0,
zN 20 19,
zF 21 20 4,
zL 22 21,
zM 23 1,
zP 24 (.iaddrS 1) [.t 22, .t 23],
zL 25 24,
zP 26 (.neq .nilptr) [.t 25, .c .nilp]])
(.cond (.t 26)
(.seq (.ops [zP 8 .mov [.c (.int .i64 141)]])
.ret)
.skip))
(.seq (.ops [zM 28 0,
zN 29 28,
zF 30 29 2,
zL 31 30,
zM 32 1,
zP 33 (.iaddrS 8) [.t 31, .t 32],
⟨some 34, none, .r (.loadN 8), [.t 33]⟩,
zM 35 2,
zM 36 3,
⟨some 37, none, .call, [.c (.func (.func 95) [] []), .t 34, .t 35, .t 36]⟩,
zM 27 37,
zP 38 (.ext 0) [.t 27],
zP 39 (.ext 1) [.t 27],
zM 10 38,
zM 11 39])
(.seq (.seq (.ops [zM 40 11,
zP 41 (.bin .neq) [.t 40, .c (.int .i64 0)]])
(.cond (.t 41)
(.seq (.ops [zM 42 11,
zM 8 42])
.ret)
.skip))
(.seq (.seq (.ops [zM 43 0,
zN 44 43,
zF 45 44 3,
zL 46 45,
zM 47 1,
zP 48 (.iaddrS 1) [.t 46, .t 47],
zL 49 48,
zM 50 3,
⟨some 51, none, .call, [.c (.func (.func 96) [] []), .t 49, .t 50]⟩,
zM 12 51])
(.seq (.ops [zM 52 12,
zP 53 (.bin .neq) [.t 52, .c (.int .i64 0)]])
(.cond (.t 53)
(.seq (.ops [zM 54 12,
zM 8 54])
.ret)
.skip)))
(.seq (.ops [zM 55 0,
zN 56 55,
zF 57 56 4,
zL 58 57,
zM 59 1,
zM 60 10,
zP 61 (.iaddrS 1) [.t 58, .t 59],
zS 1 [.t 61, .t 60]])
(.seq (.dops [zM 62 0,
zN 63 62,
zF 64 63 1,
zL 65 64,
zM 66 1,
zM 67 10,
⟨some 68, none, .call, [.c (.func (.func 47) [] []), .t 67]⟩,
⟨some 69, none, .call, [.c (.func (.func 97) [] []), .t 65, .t 66, .t 68]⟩,
zM 8 69] [[], [], [], [0, 7], [], [], [], [], []])
.ret))))))))⟩
abbrev f_room_Room_Release : Nat := 28
abbrev C_room_Room_Release : AFunc := C28
def L_room_Room_Sole_0 : AC := (.seq (.ops [zP 16 (.bin .lss) [.t 15, .t 14]])
(.seq (.cond (.t 16)
.skip
(.exit 0))
(.seq (.block 1 (.seq (.ops [zM 17 15,
zP 18 (.iaddrS 1) [.t 13, .t 15],
zL 19 18,
zM 5 17,
zM 6 19])
(.seq (.ops [zM 20 6,
⟨some 21, none, .call, [.c (.func (.func 83) [] []), .t 20]⟩,
zM 7 21])
(.seq (.ops [zM 22 7,
zP 23 (.bin .geq) [.t 22, .c (.int .i64 2)]])
(.cond (.t 23)
(.seq (.ops [zM 24 5,
zM 25 7,
zM 2 24,
zM 3 25,
zP 4 .mov [.c (.bool true)]])
.ret)
.skip)))))
(.ops [zP 26 (.bin .add) [.t 15, .c (.int .i64 1)],
zM 15 26]))))
def C30 : AFunc := ⟨27, [.tmp 2, .tmp 3, .tmp 4],
(.seq (.ops [zP 2 .mov [.c (.int .i64 0)],
zP 3 .mov [.c (.int .i64 0)],
zP 4 .mov [.c (.bool false)]])
(.seq (.seq (.ops [zM 8 0,
⟨some 9, none, .call, [.c (.func (.func 49) [] []), .t 8]⟩])
(.cond (.t 9)
(.seq (.ops [zP 2 .mov [.c (.int .i64 0)],
zP 3 .mov [.c (.int .i64 0)],
zP 4 .mov [.c (.bool false)]])
.ret)
.skip))
(.seq (.seq (.ops [zM 10 0,
zN 11 10,
zF 12 11 4,
zL 13 12,
zP 14 .lenS [.t 13],
zP 15 .mov [.c (.int .i64 0)]])
(.block 0 (.loop L_room_Room_Sole_0)))
(.seq (.ops [zP 2 .mov [.c (.int .i64 0)],
zP 3 .mov [.c (.int .i64 0)],
zP 4 .mov [.c (.bool false)]])
.ret))))⟩
abbrev f_room_Room_Sole : Nat := 30
abbrev C_room_Room_Sole : AFunc := C30
def C31 : AFunc := ⟨18, [.tmp 4],
(.seq (.ops [zP 4 .mov [.c (.bool false)]])
(.seq (.ops [zM 8 0,
⟨some 9, none, .call, [.c (.func (.func 15) [] []), .t 8]⟩,
zM 7 9,
zP 10 (.ext 0) [.t 7],
zP 11 (.ext 1) [.t 7],
zM 5 10,
zM 6 11])
(.seq (.ops [zM 12 5,
zM 13 1,
zP 14 (.bin .eql) [.t 12, .t 13],
zM 15 14,
zMg 16 6 15 true,
zP 17 .pick [.t 15, .t 16, .c (.bool false)],
zM 4 17])
.ret)))⟩
abbrev f_escapementlaw18_who : Nat := 31
abbrev C_escapementlaw18_who : AFunc := C31
def C32 : AFunc := ⟨20, [.tmp 6],
(.seq (.ops [zP 6 .mov [.c (.int .i64 0)]])
(.seq (.ops [zM 10 0,
zM 11 1,
⟨some 12, none, .call, [.c (.func (.func 46) [] []), .t 10, .t 11]⟩,
zM 9 12,
zP 13 (.ext 0) [.t 9],
zP 14 (.ext 1) [.t 9],
zM 7 13,
zM 8 14])
(.seq (.seq (.ops [zM 15 8,
zP 16 (.bin .neq) [.t 15, .c (.int .i64 0)]])
(.cond (.t 16)
(.seq (.ops [zP 6 .mov [.c (.int .i64 0)]])
.ret)
.skip))
(.seq (.ops [zM 17 7,
zM 18 2,
⟨some 19, none, .call, [.c (.func (.func 99) [] []), .t 17, .t 18]⟩,
zM 6 19])
.ret))))⟩
abbrev f_room_Room_Fault : Nat := 32
abbrev C_room_Room_Fault : AFunc := C32
def C34 : AFunc := ⟨10, [.tmp 2],
(.seq (.ops [zP 2 .mov [.c .nils]])
(.seq (.seq (.ops [zM 3 0,
⟨some 4, none, .call, [.c (.func (.func 49) [] []), .t 3]⟩])
(.cond (.t 4)
(.seq (.ops [zP 2 .mov [.c .nils]])
.ret)
.skip))
(.seq (.ops [zM 5 0,
zN 6 5,
zF 7 6 1,
zL 8 7,
⟨some 9, none, .call, [.c (.func (.func 100) [] []), .t 8]⟩,
zM 2 9])
.ret)))⟩
abbrev f_room_Room_Jobs : Nat := 34
abbrev C_room_Room_Jobs : AFunc := C34
def C35 : AFunc := ⟨21, [.cell 4 3 true, .tmp 5],
(.seq (.ops [⟨some 4, none, .a (.alloc [(.int .i64 0), (.int .i64 0), (.str [])]), []⟩,
zP 5 .mov [.c (.bool false)]])
(.seq (.ops [zM 9 0,
zM 10 1,
⟨some 11, none, .call, [.c (.func (.func 46) [] []), .t 9, .t 10]⟩,
zM 8 11,
zP 12 (.ext 0) [.t 8],
zP 13 (.ext 1) [.t 8],
zM 6 12,
zM 7 13])
(.seq (.seq (.ops [zM 14 7,
zP 15 (.bin .neq) [.t 14, .c (.int .i64 0)]])
(.cond (.t 15)
(.seq (.ops [zP 16 (.build [(.int .i64 0), (.int .i64 0), (.str [])] []) [],
zS 3 [.t 4, .t 16],
zP 5 .mov [.c (.bool false)]])
.ret)
.skip))
(.seq (.ops [zM 17 6,
⟨some 18, none, .call, [.c (.func (.func 101) [] []), .t 17]⟩,
zP 19 (.ext 0) [.t 18],
zP 20 (.ext 1) [.t 18],
zS 3 [.t 4, .t 19],
zM 5 20])
.ret))))⟩
abbrev f_room_Room_Next : Nat := 35
abbrev C_room_Room_Next : AFunc := C35
def C36 : AFunc := ⟨8, [.tmp 2],
(.seq (.ops [zP 2 .mov [.c .nils]])
(.seq (.seq (.ops [zM 3 0,
zP 4 (.eq .nilsl) [.t 3, .c .nils]])
(.cond (.t 4)
(.seq (.ops [zP 2 .mov [.c .nils]])
.ret)
.skip))
(.seq (.ops [⟨some 5, none, .a (.bslice [(.int .i64 0), (.int .i64 0), (.int .i64 0), (.int .i64 0), (.int .i64 0), (.int .i64 0), (.int .i64 0), (.int .i64 0)] 0 8 []), []⟩,
zM 6 0,
⟨some 7, none, .e (.append 8 64), [.t 5, .t 6]⟩,
zM 2 7])
.ret)))⟩
abbrev f_slices_Clone_api_Task_api_Task : Nat := 36
abbrev C_slices_Clone_api_Task_api_Task : AFunc := C36
def C37 : AFunc := ⟨10, [.tmp 2, .tmp 3],
(.seq (.ops [zP 2 .mov [.c .nilp],
zP 3 .mov [.c (.int .i64 0)]])
(.seq (.seq (.ops [zM 4 0,
⟨some 5, none, .call, [.c (.func (.func 102) [] []), .t 4]⟩,
zP 6 .not [.t 5]])
(.cond (.t 6)
(.seq (.ops [zP 2 .mov [.c .nilp],
zP 3 .mov [.c (.int .i64 2)]])
.ret)
.skip))
(.seq (.ops [zM 7 0,
zP 8 (.build [(.int .i64 0), (.int .i64 0)] [(0, 1)]) [.t 7],
⟨some 9, none, .a .box, [.t 8]⟩,
zM 2 9,
zP 3 .mov [.c (.int .i64 0)]])
.ret)))⟩
abbrev f_spore_New : Nat := 37
abbrev C_spore_New : AFunc := C37
def C38 : AFunc := ⟨11, [.tmp 2, .tmp 3],
(.seq (.ops [zP 2 .mov [.c .nilp],
zP 3 .mov [.c (.int .i64 0)]])
(.seq (.seq (.ops [zM 4 0,
zP 5 .lenS [.t 4],
zP 6 (.bin .gtr) [.t 5, .c (.int .i64 4)]])
(.cond (.t 6)
(.seq (.ops [zP 2 .mov [.c .nilp],
zP 3 .mov [.c (.int .i64 5)]])
.ret)
.skip))
(.seq (.ops [zM 7 0,
⟨some 8, none, .call, [.c (.func (.func 36) [] []), .t 7]⟩,
zP 9 (.build [.nils, .nils, (.bool false)] [(0, 1), (2, 1)]) [.t 8, .c (.bool true)],
⟨some 10, none, .a .box, [.t 9]⟩,
zM 2 10,
zP 3 .mov [.c (.int .i64 0)]])
.ret)))⟩
abbrev f_stack_New : Nat := 38
abbrev C_stack_New : AFunc := C38
def C39 : AFunc := ⟨14, [.tmp 2, .tmp 3],
(.seq (.ops [zP 2 .mov [.c .nilp],
zP 3 .mov [.c (.int .i64 0)]])
(.seq (.seq (.ops [zM 4 0,
zP 5 (.bin .lss) [.t 4, .c (.int .i64 0)],
zM 6 5,
zMg 7 0 6 false,
zPg 8 (.bin .gtr) [.t 7, .c (.int .i64 4)] 6 false,
zP 9 .pick [.t 6, .c (.bool true), .t 8]])
(.cond (.t 9)
(.seq (.ops [zP 2 .mov [.c .nilp],
zP 3 .mov [.c (.int .i64 2)]])
.ret)
.skip))
(.seq (.ops [⟨some 10, none, .call, [.c (.func (.func 103) [] [])]⟩,
zM 11 0,
zP 12 (.build [.nilp, (.int .i64 0)] [(0, 1), (1, 1)]) [.t 10, .t 11],
⟨some 13, none, .a .box, [.t 12]⟩,
zM 2 13,
zP 3 .mov [.c (.int .i64 0)]])
.ret)))⟩
abbrev f_ready_New : Nat := 39
abbrev C_ready_New : AFunc := C39
def C40 : AFunc := ⟨9, [.tmp 4],
(.seq (.ops [zP 4 .mov [.c (.bool false)]])
(.seq (.ops [zM 5 0,
zM 6 1,
⟨some 7, none, .call, [.c (.func (.func 104) [] []), .t 5, .t 6]⟩,
zP 8 (.bin .geq) [.t 7, .c (.int .i64 0)],
zM 4 8])
.ret))⟩
abbrev f_slices_ContainsFunc_int_int : Nat := 40
abbrev C_slices_ContainsFunc_int_int : AFunc := C40
def C41 : AFunc := ⟨9, [.tmp 2],
(.seq (.ops [zP 2 .mov [.c (.bool false)]])
(.seq (.ops [zM 3 0,
zP 4 (.bin .lss) [.t 3, .c (.int .i64 0)],
zM 5 4,
zMg 6 0 5 false,
zPg 7 (.bin .gtr) [.t 6, .c (.int .i64 32768)] 5 false,
zP 8 .pick [.t 5, .c (.bool true), .t 7],
zM 2 8])
.ret))⟩
abbrev f_demand_Check_1 : Nat := 41
abbrev C_demand_Check_1 : AFunc := C41
def C42 : AFunc := ⟨11, [.tmp 2],
(.seq (.ops [zP 2 .mov [.c (.bool false)]])
(.seq (.ops [zM 3 0,
zP 4 .lenS [.t 3],
zP 5 (.bin .leq) [.t 4, .c (.int .i64 4)],
zM 6 5,
zMg 7 0 6 true,
⟨some 8, some (6, true), .call, [.c (.func (.func 105) [] []), .t 7, .c (.func (.func 106) [] [])]⟩,
zPg 9 .not [.t 8] 6 true,
zP 10 .pick [.t 6, .t 9, .c (.bool false)],
zM 2 10])
.ret))⟩
abbrev f_demand_all : Nat := 42
abbrev C_demand_all : AFunc := C42
def L_escapementlaw18_play_held_1 : AC := (.seq (.seq (.ops [zM 24 8,
zM 25 7,
zP 26 .lenS [.t 25],
zP 27 (.bin .lss) [.t 24, .t 26]])
(.cond (.t 27)
.skip
(.exit 2)))
(.seq (.block 3 (.seq (.ops [zM 30 7,
zM 31 8,
zP 32 (.iaddrS 1) [.t 30, .t 31],
zL 33 32,
zM 34 1,
zP 35 (.bin .eql) [.t 33, .t 34]])
(.cond (.t 35)
(.seq (.ops [zM 36 6,
zM 4 36,
zP 5 .mov [.c (.bool true)]])
.ret)
.skip)))
(.ops [zM 28 8,
zP 29 (.bin .add) [.t 28, .c (.int .i64 1)],
zM 8 29])))
def L_escapementlaw18_play_held_0 : AC := (.seq (.seq (.ops [zM 9 6,
zM 10 0,
zN 11 10,
zF 12 11 1,
zL 13 12,
zP 14 .lenS [.t 13],
zP 15 (.bin .lss) [.t 9, .t 14]])
(.cond (.t 15)
.skip
(.exit 0)))
(.seq (.block 1 (.seq (.ops [zM 18 0,
zN 19 18,
zF 20 19 0,
zL 21 20,
zM 22 6,
⟨some 23, none, .call, [.c (.func (.func 14) [] []), .t 21, .t 22]⟩,
zM 7 23])
(.seq (.ops [zP 8 .mov [.c (.int .i64 0)]])
(.block 2 (.loop L_escapementlaw18_play_held_1)))))
(.ops [zM 16 6,
zP 17 (.bin .add) [.t 16, .c (.int .i64 1)],
zM 6 17])))
def C43 : AFunc := ⟨37, [.tmp 4, .tmp 5],
(.seq (.ops [zP 4 .mov [.c (.int .i64 0)],
zP 5 .mov [.c (.bool false)]])
(.seq (.seq (.ops [zP 6 .mov [.c (.int .i64 0)]])
(.block 0 (.loop L_escapementlaw18_play_held_0)))
(.seq (.ops [zP 4 .mov [.c (.int .i64 0)],
zP 5 .mov [.c (.bool false)]])
.ret)))⟩
abbrev f_escapementlaw18_play_held : Nat := 43
abbrev C_escapementlaw18_play_held : AFunc := C43
def L_escapementlaw18_play_gone_0 : AC := (.seq (.seq (.ops [zM 6 5,
zM 7 0,
zN 8 7,
zF 9 8 3,
zL 10 9,
zP 11 .lenS [.t 10],
zP 12 (.bin .lss) [.t 6, .t 11]])
(.cond (.t 12)
.skip
(.exit 0)))
(.seq (.block 1 (.seq (.ops [zM 15 0,
zN 16 15,
zF 17 16 3,
zL 18 17,
zM 19 5,
zP 20 (.iaddrS 1) [.t 18, .t 19],
zL 21 20,
zM 22 1,
zP 23 (.bin .neq) [.t 21, .t 22]])
(.cond (.t 23)
(.ops [zM 24 4,
zM 25 0,
zN 26 25,
zF 27 26 3,
zL 28 27,
zM 29 5,
zP 30 (.iaddrS 1) [.t 28, .t 29],
zL 31 30,
⟨some 32, none, .a (.bslice [(.int .i64 0)] 1 1 [0]), [.t 31]⟩,
⟨some 33, none, .e (.append 1 8), [.t 24, .t 32]⟩,
zM 4 33])
.skip)))
(.ops [zM 13 5,
zP 14 (.bin .add) [.t 13, .c (.int .i64 1)],
zM 5 14])))
def C44 : AFunc := ⟨38, [],
(.seq (.ops [zP 4 .mov [.c .nils]])
(.seq (.seq (.ops [zP 5 .mov [.c (.int .i64 0)]])
(.block 0 (.loop L_escapementlaw18_play_gone_0)))
(.ops [zM 34 0,
zM 35 4,
zN 36 34,
zF 37 36 3,
zS 1 [.t 37, .t 35]])))⟩
abbrev f_escapementlaw18_play_gone : Nat := 44
abbrev C_escapementlaw18_play_gone : AFunc := C44
def C45 : AFunc := ⟨20, [.tmp 4],
(.seq (.ops [zP 4 .mov [.c (.bool false)]])
(.seq (.ops [zM 8 0,
zM 9 1,
⟨some 10, none, .call, [.c (.func (.func 35) [] []), .t 8, .t 9]⟩,
zM 7 10,
zP 11 (.ext 0) [.t 7],
zP 12 (.ext 1) [.t 7],
⟨some 5, none, .a (.alloc [(.int .i64 0), (.int .i64 0), (.str [])]), []⟩,
zS 3 [.t 5, .t 11],
zM 6 12])
(.seq (.ops [zM 13 6,
zP 14 .not [.t 13],
zM 15 14,
zFg 16 5 0 15 false,
zLg 17 16 15 false,
zPg 18 (.bin .neq) [.t 17, .c (.int .i64 1)] 15 false,
zP 19 .pick [.t 15, .c (.bool true), .t 18],
zM 4 19])
.ret)))⟩
abbrev f_escapementlaw18_noRun : Nat := 45
abbrev C_escapementlaw18_noRun : AFunc := C45
def C46 : AFunc := ⟨28, [.tmp 4, .tmp 5],
(.seq (.ops [zP 4 .mov [.c .nilp],
zP 5 .mov [.c (.int .i64 0)]])
(.seq (.seq (.ops [zM 7 0,
zM 8 1,
⟨some 9, none, .call, [.c (.func (.func 94) [] []), .t 7, .t 8]⟩,
zM 6 9])
(.seq (.ops [zM 10 6,
zP 11 (.bin .neq) [.t 10, .c (.int .i64 0)]])
(.cond (.t 11)
(.seq (.ops [zM 12 6,
zP 4 .mov [.c .nilp],
zM 5 12])
.ret)
.skip)))
(.seq (.seq (.ops [zM 13 0,
zN 14 13,
zF 15 14 4,
zL 16 15,
zM 17 1,
zP 18 (.iaddrS 1) [.t 16, .t 17],
zL 19 18,
zP 20 (.eq .nilptr) [.t 19, .c .nilp]])
(.cond (.t 20)
(.seq (.ops [zP 4 .mov [.c .nilp],
zP 5 .mov [.c (.int .i64 250)]])
.ret)
.skip))
(.seq (.ops [zM 21 0,
zN 22 21,
zF 23 22 4,
zL 24 23,
zM 25 1,
zP 26 (.iaddrS 1) [.t 24, .t 25],
zL 27 26,
zM 4 27,
zP 5 .mov [.c (.int .i64 0)]])
.ret))))⟩
abbrev f_room_Room_of : Nat := 46
abbrev C_room_Room_of : AFunc := C46
def C47 : AFunc := ⟨9, [.tmp 2],
(.seq (.ops [zP 2 .mov [.c (.int .i64 0)]])
(.seq (.seq (.ops [zM 3 0,
⟨some 4, none, .call, [.c (.func (.func 108) [] []), .t 3]⟩])
(.cond (.t 4)
(.seq (.ops [zP 2 .mov [.c (.int .i64 0)]])
.ret)
.skip))
(.seq (.ops [zM 5 0,
zN 6 5,
zF 7 6 9,
zL 8 7,
zM 2 8])
.ret)))⟩
abbrev f_job_Job_Deadline : Nat := 47
abbrev C_job_Job_Deadline : AFunc := C47
def L_stack_Stack_Held_0 : AC := (.seq (.ops [zP 18 (.bin .lss) [.t 17, .t 16]])
(.seq (.cond (.t 18)
.skip
(.exit 0))
(.seq (.block 1 (.seq (.ops [zP 19 (.iaddrS 2) [.t 15, .t 17],
⟨some 20, none, .r (.loadN 2), [.t 19]⟩,
⟨some 7, none, .a (.alloc [(.int .i64 0), (.int .i64 0)]), []⟩,
zS 2 [.t 7, .t 20]])
(.seq (.ops [zM 21 5,
⟨some 22, none, .r (.loadN 2), [.t 7]⟩,
⟨some 23, none, .call, [.t 21, .t 22]⟩])
(.cond (.t 23)
(.ops [zM 24 4,
zF 25 7 1,
zL 26 25,
⟨some 27, none, .a (.bslice [(.int .i64 0)] 1 1 [0]), [.t 26]⟩,
⟨some 28, none, .e (.append 1 8), [.t 24, .t 27]⟩,
zM 4 28])
.skip))))
(.ops [zP 29 (.bin .add) [.t 17, .c (.int .i64 1)],
zM 17 29]))))
def C48 : AFunc := ⟨31, [.tmp 4],
(.seq (.ops [zP 4 .mov [.c .nils]])
(.seq (.seq (.ops [zM 8 0,
zP 9 (.eq .nilptr) [.t 8, .c .nilp]])
(.cond (.t 9)
(.seq (.ops [zP 4 .mov [.c .nils]])
.ret)
.skip))
(.seq (.ops [zM 10 1,
⟨some 11, none, .call, [.c (.func (.func 109) [] []), .t 10]⟩,
zM 5 11])
(.seq (.seq (.ops [zM 12 0,
zN 13 12,
zF 14 13 1,
zL 15 14,
zP 16 .lenS [.t 15],
zP 17 .mov [.c (.int .i64 0)]])
(.block 0 (.loop L_stack_Stack_Held_0)))
(.seq (.ops [zM 30 4,
zM 4 30])
.ret)))))⟩
abbrev f_stack_Stack_Held : Nat := 48
abbrev C_stack_Stack_Held : AFunc := C48
def C49 : AFunc := ⟨12, [.tmp 2],
(.seq (.ops [zP 2 .mov [.c (.bool false)]])
(.seq (.ops [zM 3 0,
zP 4 (.eq .nilptr) [.t 3, .c .nilp],
zM 5 4,
zMg 6 0 5 false,
zNg 7 6 5 false,
zFg 8 7 0 5 false,
zLg 9 8 5 false,
zPg 10 (.eq .nilptr) [.t 9, .c .nilp] 5 false,
zP 11 .pick [.t 5, .c (.bool true), .t 10],
zM 2 11])
.ret))⟩
abbrev f_room_Room_none : Nat := 49
abbrev C_room_Room_none : AFunc := C49
def C50 : AFunc := ⟨15, [.tmp 2, .tmp 3, .tmp 4],
(.seq (.ops [zP 2 .mov [.c (.int .i64 0)],
zP 3 .mov [.c (.int .i64 0)],
zP 4 .mov [.c (.bool false)]])
(.seq (.seq (.ops [zM 5 0,
⟨some 6, none, .call, [.c (.func (.func 110) [] []), .t 5]⟩])
(.cond (.t 6)
(.seq (.ops [zP 2 .mov [.c (.int .i64 0)],
zP 3 .mov [.c (.int .i64 0)],
zP 4 .mov [.c (.bool false)]])
.ret)
.skip))
(.seq (.ops [zM 7 0,
zN 8 7,
zF 9 8 0,
zL 10 9,
⟨some 11, none, .call, [.c (.func (.func 111) [] []), .t 10]⟩,
zP 12 (.ext 0) [.t 11],
zP 13 (.ext 1) [.t 11],
zP 14 (.ext 2) [.t 11],
zM 2 12,
zM 3 13,
zM 4 14])
.ret)))⟩
abbrev f_ready_Queue_First : Nat := 50
abbrev C_ready_Queue_First : AFunc := C50
def C51 : AFunc := ⟨12, [.tmp 2],
(.seq (.ops [zP 2 .mov [.c (.bool false)]])
(.seq (.ops [zM 3 0,
⟨some 4, none, .call, [.c (.func (.func 108) [] []), .t 3]⟩,
zP 5 .not [.t 4],
zM 6 5,
zMg 7 0 6 true,
zNg 8 7 6 true,
zFg 9 8 14 6 true,
zLg 10 9 6 true,
zP 11 .pick [.t 6, .t 10, .c (.bool false)],
zM 2 11])
.ret))⟩
abbrev f_job_Job_Begun : Nat := 51
abbrev C_job_Job_Begun : AFunc := C51
def L_level_Level_0 : AC := (.seq (.ops [zP 19 (.bin .lss) [.t 18, .t 17]])
(.seq (.cond (.t 19)
.skip
(.exit 0))
(.seq (.block 1 (.seq (.ops [zP 20 (.iaddrS 8) [.t 16, .t 18],
⟨some 21, none, .r (.loadN 8), [.t 20]⟩,
⟨some 7, none, .a (.alloc [(.int .i64 0), (.int .i64 0), (.int .i64 0), (.int .i64 0), (.int .i64 0), (.int .i64 0), (.int .i64 0), (.int .i64 0)]), []⟩,
zS 8 [.t 7, .t 21]])
(.seq (.dops [zF 22 7 1,
zL 23 22,
zM 24 0,
zM 25 1,
zP 26 (.iaddrS 8) [.t 24, .t 25],
zF 27 26 1,
zL 28 27,
zP 29 (.bin .gtr) [.t 23, .t 28]] [[], [], [], [], [], [], [], []])
(.cond (.t 29)
(.ops [zM 30 5,
zP 31 (.bin .add) [.t 30, .c (.int .i64 1)],
zM 5 31])
.skip))))
(.ops [zP 32 (.bin .add) [.t 18, .c (.int .i64 1)],
zM 18 32]))))
def C52 : AFunc := ⟨34, [.tmp 4],
(.seq (.ops [zP 4 .mov [.c (.int .i64 0)]])
(.seq (.seq (.ops [zM 8 1,
zP 9 (.bin .lss) [.t 8, .c (.int .i64 0)],
zM 10 9,
zMg 11 1 10 false,
zMg 12 0 10 false,
zPg 13 .lenS [.t 12] 10 false,
zPg 14 (.bin .geq) [.t 11, .t 13] 10 false,
zP 15 .pick [.t 10, .c (.bool true), .t 14]])
(.cond (.t 15)
(.seq (.ops [zP 4 .mov [.c (.int .i64 0)]])
.ret)
.skip))
(.seq (.ops [zP 5 .mov [.c (.int .i64 1)]])
(.seq (.seq (.ops [zM 16 0,
zP 17 .lenS [.t 16],
zP 18 .mov [.c (.int .i64 0)]])
(.block 0 (.loop L_level_Level_0)))
(.seq (.ops [zM 33 5,
zM 4 33])
.ret)))))⟩
abbrev f_level_Level : Nat := 52
abbrev C_level_Level : AFunc := C52
def L_stack_Stack_Ceiling_0 : AC := (.seq (.ops [zP 13 (.bin .lss) [.t 12, .t 11]])
(.seq (.cond (.t 13)
.skip
(.exit 0))
(.seq (.block 1 (.seq (.ops [zP 14 (.iaddrS 2) [.t 10, .t 12],
⟨some 15, none, .r (.loadN 2), [.t 14]⟩,
⟨some 4, none, .a (.alloc [(.int .i64 0), (.int .i64 0)]), []⟩,
zS 2 [.t 4, .t 15]])
(.dops [zM 16 2,
zM 17 0,
zN 18 17,
zF 19 18 0,
zL 20 19,
zF 21 4 1,
zL 22 21,
⟨some 23, none, .call, [.c (.func (.func 112) [] []), .t 20, .t 22]⟩,
zP 24 .mx [.t 16, .t 23],
zM 2 24] [[], [], [], [], [], [], [], [], [], []])))
(.ops [zP 25 (.bin .add) [.t 12, .c (.int .i64 1)],
zM 12 25]))))
def C53 : AFunc := ⟨27, [.tmp 2],
(.seq (.ops [zP 2 .mov [.c (.int .i64 0)]])
(.seq (.seq (.ops [zM 5 0,
zP 6 (.eq .nilptr) [.t 5, .c .nilp]])
(.cond (.t 6)
(.seq (.ops [zP 2 .mov [.c (.int .i64 0)]])
.ret)
.skip))
(.seq (.seq (.ops [zM 7 0,
zN 8 7,
zF 9 8 1,
zL 10 9,
zP 11 .lenS [.t 10],
zP 12 .mov [.c (.int .i64 0)]])
(.block 0 (.loop L_stack_Stack_Ceiling_0)))
(.seq (.ops [zM 26 2,
zM 2 26])
.ret))))⟩
abbrev f_stack_Stack_Ceiling : Nat := 53
abbrev C_stack_Stack_Ceiling : AFunc := C53
def C54 : AFunc := ⟨27, [.tmp 2, .tmp 3],
(.seq (.ops [zP 2 .mov [.c (.int .i64 0)],
zP 3 .mov [.c (.bool false)]])
(.seq (.seq (.ops [zM 4 0,
zP 5 (.eq .nilptr) [.t 4, .c .nilp],
zM 6 5,
zMg 7 0 6 false,
zNg 8 7 6 false,
zFg 9 8 1 6 false,
zLg 10 9 6 false,
zPg 11 .lenS [.t 10] 6 false,
zPg 12 (.bin .eql) [.t 11, .c (.int .i64 0)] 6 false,
zP 13 .pick [.t 6, .c (.bool true), .t 12]])
(.cond (.t 13)
(.seq (.ops [zP 2 .mov [.c (.int .i64 0)],
zP 3 .mov [.c (.bool false)]])
.ret)
.skip))
(.seq (.dops [zM 14 0,
zN 15 14,
zF 16 15 1,
zL 17 16,
zM 18 0,
zN 19 18,
zF 20 19 1,
zL 21 20,
zP 22 .lenS [.t 21],
zP 23 (.bin .sub) [.t 22, .c (.int .i64 1)],
zP 24 (.iaddrS 2) [.t 17, .t 23],
zF 25 24 0,
zL 26 25,
zM 2 26,
zP 3 .mov [.c (.bool true)]] [[], [], [], [], [], [], [], [], [], [], [], [], [], [], []])
.ret)))⟩
abbrev f_stack_Stack_Top : Nat := 54
abbrev C_stack_Stack_Top : AFunc := C54
def C79 : AFunc := ⟨21, [.tmp 6],
(.seq (.ops [zP 6 .mov [.c (.int .i64 0)]])
(.seq (.ops [zM 10 0,
zM 11 1,
⟨some 12, none, .call, [.c (.func (.func 46) [] []), .t 10, .t 11]⟩,
zM 9 12,
zP 13 (.ext 0) [.t 9],
zP 14 (.ext 1) [.t 9],
zM 7 13,
zM 8 14])
(.seq (.seq (.ops [zM 15 8,
zP 16 (.bin .neq) [.t 15, .c (.int .i64 0)]])
(.cond (.t 16)
(.seq (.ops [zM 17 8,
zM 6 17])
.ret)
.skip))
(.seq (.ops [zM 18 2,
zM 19 7,
⟨some 20, none, .call, [.t 18, .t 19]⟩,
zM 6 20])
.ret))))⟩
abbrev f_room_Room_with : Nat := 79
abbrev C_room_Room_with : AFunc := C79
def C80 : AFunc := ⟨23, [.tmp 2],
(.seq (.ops [zP 2 .mov [.c (.int .i64 0)]])
(.seq (.seq (.ops [zM 4 0,
⟨some 5, none, .call, [.c (.func (.func 108) [] []), .t 4]⟩])
(.cond (.t 5)
(.seq (.ops [zP 2 .mov [.c (.int .i64 1)]])
.ret)
.skip))
(.seq (.ops [zM 6 0,
zN 7 6,
zF 8 7 0,
zL 9 8,
⟨some 10, none, .call, [.c (.func (.func 132) [] []), .t 9]⟩,
zM 3 10])
(.seq (.ops [zM 11 0,
zM 12 0,
zN 13 12,
zF 14 13 14,
zL 15 14,
zM 16 15,
zMg 17 3 16 false,
zPg 18 (.bin .eql) [.t 17, .c (.int .i64 0)] 16 false,
zP 19 .pick [.t 16, .c (.bool true), .t 18],
zN 20 11,
zF 21 20 14,
zS 1 [.t 21, .t 19]])
(.seq (.ops [zM 22 3,
zM 2 22])
.ret)))))⟩
abbrev f_job_Job_Did : Nat := 80
abbrev C_job_Job_Did : AFunc := C80
def C81 : AFunc := ⟨43, [.tmp 2],
(.seq (.ops [zP 2 .mov [.c (.int .i64 0)]])
(.seq (.block 0 (.seq (.ops [zM 5 0,
⟨some 6, none, .call, [.c (.func (.func 108) [] []), .t 5]⟩,
zM 4 6])
(.cond (.t 4)
(.seq (.ops [zP 2 .mov [.c (.int .i64 1)]])
.ret)
(.seq (.ops [zM 8 0,
zN 9 8,
zF 10 9 11,
zL 11 10,
zP 12 (.bin .eql) [.t 11, .c (.int .i64 3)],
zM 7 12])
(.cond (.t 7)
(.seq (.ops [zP 2 .mov [.c (.int .i64 250)]])
.ret)
.skip)))))
(.seq (.seq (.ops [zM 13 0,
zN 14 13,
zF 15 14 0,
zL 16 15,
⟨some 17, none, .call, [.c (.func (.func 133) [] []), .t 16]⟩,
zM 3 17])
(.seq (.ops [zM 18 3,
zP 19 (.bin .neq) [.t 18, .c (.int .i64 0)]])
(.cond (.t 19)
(.seq (.ops [zM 20 3,
zM 2 20])
.ret)
.skip)))
(.seq (.ops [zM 21 0,
zN 22 21,
zF 23 22 14,
zS 1 [.t 23, .c (.bool true)]])
(.seq (.ops [zM 24 0,
zN 25 24,
zF 26 25 10,
zL 27 26,
zP 28 (.bin .add) [.t 27, .c (.int .i64 1)],
zN 29 24,
zF 30 29 10,
zS 1 [.t 30, .t 28]])
(.seq (.seq (.ops [zM 31 0,
zN 32 31,
zF 33 32 11,
zL 34 33,
zP 35 (.bin .neq) [.t 34, .c (.int .i64 0)]])
(.cond (.t 35)
(.ops [zM 36 0,
zN 37 36,
zF 38 37 12,
zL 39 38,
zP 40 (.bin .add) [.t 39, .c (.int .i64 1)],
zN 41 36,
zF 42 41 12,
zS 1 [.t 42, .t 40]])
.skip))
(.seq (.ops [zP 2 .mov [.c (.int .i64 0)]])
.ret)))))))⟩
abbrev f_job_Job_Run : Nat := 81
abbrev C_job_Job_Run : AFunc := C81
def C82 : AFunc := ⟨27, [.tmp 5],
(.seq (.ops [zP 5 .mov [.c (.int .i64 0)]])
(.seq (.seq (.ops [zM 7 0,
⟨some 8, none, .call, [.c (.func (.func 83) [] []), .t 7]⟩,
zP 9 (.bin .geq) [.t 8, .c (.int .i64 2)]])
(.cond (.t 9)
(.seq (.ops [zP 5 .mov [.c (.int .i64 130)]])
.ret)
.skip))
(.seq (.dops [zL 10 1,
zN 11 10,
zF 12 11 0,
zL 13 12,
zL 14 2,
zL 15 3,
⟨some 16, none, .call, [.c (.func (.func 84) [] []), .t 13, .t 14, .t 15]⟩,
zM 6 16] [[], [], [], [], [], [], [], []])
(.seq (.seq (.ops [zM 17 6,
zP 18 (.bin .eql) [.t 17, .c (.int .i64 0)],
zM 19 18,
zMg 20 0 19 true,
⟨some 21, some (19, true), .call, [.c (.func (.func 83) [] []), .t 20]⟩,
zPg 22 (.bin .eql) [.t 21, .c (.int .i64 0)] 19 true,
zP 23 .pick [.t 19, .t 22, .c (.bool false)]])
(.cond (.t 23)
(.seq (.ops [zM 24 0,
⟨some 25, none, .call, [.c (.func (.func 85) [] []), .t 24, .c (.int .i64 1)]⟩,
zM 5 25])
.ret)
.skip))
(.seq (.ops [zM 26 6,
zM 5 26])
.ret)))))⟩
abbrev f_room_Room_Lock_1 : Nat := 82
abbrev C_room_Room_Lock_1 : AFunc := C82
def C83 : AFunc := ⟨11, [.tmp 2],
(.seq (.ops [zP 2 .mov [.c (.int .i64 0)]])
(.seq (.ops [zM 6 0,
⟨some 7, none, .call, [.c (.func (.func 134) [] []), .t 6]⟩,
zM 5 7,
zP 8 (.ext 0) [.t 5],
zP 9 (.ext 1) [.t 5],
zM 3 8,
zM 4 9])
(.seq (.ops [zM 10 3,
zM 2 10])
.ret)))⟩
abbrev f_room_section : Nat := 83
abbrev C_room_section : AFunc := C83
def C84 : AFunc := ⟨50, [.tmp 6],
(.seq (.ops [⟨some 5, none, .a .box, [.t 2]⟩,
zP 6 .mov [.c (.int .i64 0)]])
(.seq (.seq (.ops [zM 9 0,
zM 10 1,
⟨some 11, none, .call, [.c (.func (.func 135) [] []), .t 9, .t 10]⟩,
zM 7 11])
(.seq (.ops [zM 12 7,
zP 13 (.bin .neq) [.t 12, .c (.int .i64 0)]])
(.cond (.t 13)
(.seq (.ops [zM 14 7,
zM 6 14])
.ret)
.skip)))
(.seq (.ops [zP 15 (.mkfunc (.func 136) 0) [.t 5],
zM 8 15])
(.seq (.block 0 (.seq (.dops [zM 17 0,
zN 18 17,
zF 19 18 0,
zL 20 19,
zM 21 1,
zL 22 5,
⟨some 23, none, .call, [.c (.func (.func 137) [] []), .t 20, .t 21, .t 22]⟩,
zP 24 .not [.t 23],
zM 16 24] [[], [], [], [], [], [], [], [], []])
(.cond (.t 16)
(.seq (.ops [zP 6 .mov [.c (.int .i64 133)]])
.ret)
(.seq (.ops [zM 26 0,
zN 27 26,
zF 28 27 1,
zL 29 28,
zM 30 8,
⟨some 31, none, .call, [.c (.func (.func 138) [] []), .t 29, .t 30]⟩,
zM 25 31])
(.cond (.t 25)
(.seq (.ops [zP 6 .mov [.c (.int .i64 131)]])
.ret)
(.seq (.ops [zM 33 0,
zM 34 1,
⟨some 35, none, .call, [.c (.func (.func 48) [] []), .t 33, .t 34]⟩,
zP 36 .lenS [.t 35],
zP 37 (.bin .geq) [.t 36, .c (.int .i64 4)],
zM 32 37])
(.cond (.t 32)
(.seq (.ops [zP 6 .mov [.c (.int .i64 130)]])
.ret)
.skip)))))))
(.seq (.dops [zM 38 0,
zM 39 0,
zN 40 39,
zF 41 40 1,
zL 42 41,
zM 43 1,
zL 44 5,
zP 45 (.build [(.int .i64 0), (.int .i64 0)] [(0, 1), (1, 1)]) [.t 43, .t 44],
⟨some 46, none, .a (.bslice [(.int .i64 0), (.int .i64 0)] 1 2 [0]), [.t 45]⟩,
⟨some 47, none, .e (.append 2 16), [.t 42, .t 46]⟩,
zN 48 38,
zF 49 48 1,
zS 1 [.t 49, .t 47]] [[], [], [], [], [], [], [], [], [], [], [], [], []])
(.seq (.ops [zP 6 .mov [.c (.int .i64 0)]])
.ret))))))⟩
abbrev f_stack_Stack_Lock : Nat := 84
abbrev C_stack_Stack_Lock : AFunc := C84
def C85 : AFunc := ⟨65, [.tmp 4],
(.seq (.ops [zP 4 .mov [.c (.int .i64 0)]])
(.seq (.block 0 (.seq (.ops [zM 6 0,
⟨some 7, none, .call, [.c (.func (.func 108) [] []), .t 6]⟩,
zM 5 7])
(.cond (.t 5)
(.seq (.ops [zP 4 .mov [.c (.int .i64 1)]])
.ret)
(.seq (.seq (.ops [zM 9 1,
zP 10 (.bin .lss) [.t 9, .c (.int .i64 1)],
zM 8 10])
(.cond (.t 8)
.skip
(.ops [zM 11 1,
zP 12 (.bin .gtr) [.t 11, .c (.int .i64 3)],
zM 8 12])))
(.cond (.t 8)
(.seq (.ops [zP 4 .mov [.c (.int .i64 2)]])
.ret)
(.seq (.ops [zM 14 0,
zN 15 14,
zF 16 15 11,
zL 17 16,
zP 18 (.bin .eql) [.t 17, .c (.int .i64 3)],
zM 19 18,
zMg 20 1 19 true,
zPg 21 (.bin .eql) [.t 20, .c (.int .i64 2)] 19 true,
zP 22 .pick [.t 19, .t 21, .c (.bool false)],
zM 13 22])
(.cond (.t 13)
(.seq (.ops [zM 23 0,
zM 24 1,
zN 25 23,
zF 26 25 11,
zS 1 [.t 26, .t 24]])
(.seq (.ops [zP 4 .mov [.c (.int .i64 0)]])
.ret))
(.seq (.ops [zM 28 0,
zN 29 28,
zF 30 29 11,
zL 31 30,
zP 32 (.bin .neq) [.t 31, .c (.int .i64 0)],
zM 27 32])
(.cond (.t 27)
(.seq (.ops [zP 4 .mov [.c (.int .i64 130)]])
.ret)
(.seq (.dops [zM 34 1,
zP 35 (.bin .neq) [.t 34, .c (.int .i64 1)],
zM 36 35,
zMg 37 0 36 true,
zNg 38 37 36 true,
zFg 39 38 13 36 true,
zLg 40 39 36 true,
zMg 41 0 36 true,
zNg 42 41 36 true,
zFg 43 42 1 36 true,
zFg 44 43 7 36 true,
zLg 45 44 36 true,
zPg 46 (.bin .geq) [.t 40, .t 45] 36 true,
zP 47 .pick [.t 36, .t 46, .c (.bool false)],
zM 33 47] [[], [], [], [], [], [], [], [], [], [], [], [], [], [], []])
(.cond (.t 33)
(.seq (.ops [zP 4 .mov [.c (.int .i64 170)]])
.ret)
(.seq (.ops [zM 49 1,
zP 50 (.bin .neq) [.t 49, .c (.int .i64 1)],
zM 48 50])
(.cond (.t 48)
(.ops [zM 51 0,
zN 52 51,
zF 53 52 13,
zL 54 53,
zP 55 (.bin .add) [.t 54, .c (.int .i64 1)],
zN 56 51,
zF 57 56 13,
zS 1 [.t 57, .t 55]])
.skip)))))))))))))
(.seq (.ops [zM 58 0,
zM 59 0,
zM 60 1,
zN 61 58,
zF 62 61 11,
zS 1 [.t 62, .t 60],
zN 63 59,
zF 64 63 12,
zS 1 [.t 64, .c (.int .i64 0)]])
(.seq (.ops [zP 4 .mov [.c (.int .i64 0)]])
.ret))))⟩
abbrev f_job_Job_Enter : Nat := 85
abbrev C_job_Job_Enter : AFunc := C85
def C86 : AFunc := ⟨29, [.tmp 4],
(.seq (.ops [zP 4 .mov [.c (.int .i64 0)]])
(.seq (.seq (.dops [zL 8 1,
zN 9 8,
zF 10 9 0,
zL 11 10,
zL 12 2,
⟨some 13, none, .call, [.c (.func (.func 87) [] []), .t 11, .t 12]⟩,
zM 7 13,
zP 14 (.ext 0) [.t 7],
zP 15 (.ext 1) [.t 7],
zM 5 14,
zM 6 15] [[], [], [], [], [], [], [], [], [], [], []])
(.seq (.ops [zM 16 6,
zP 17 (.bin .neq) [.t 16, .c (.int .i64 0)]])
(.cond (.t 17)
(.seq (.ops [zM 18 6,
zM 4 18])
.ret)
.skip)))
(.seq (.seq (.dops [zL 19 1,
zN 20 19,
zF 21 20 0,
zL 22 21,
zL 23 2,
⟨some 24, none, .call, [.c (.func (.func 48) [] []), .t 22, .t 23]⟩,
zP 25 .lenS [.t 24],
zP 26 (.bin .eql) [.t 25, .c (.int .i64 0)]] [[], [], [], [], [], [], [], []])
(.cond (.t 26)
(.ops [zM 27 0,
⟨some 28, none, .call, [.c (.func (.func 88) [] []), .t 27]⟩])
.skip))
(.seq (.ops [zP 4 .mov [.c (.int .i64 0)]])
.ret))))⟩
abbrev f_room_Room_Unlock_1 : Nat := 86
abbrev C_room_Room_Unlock_1 : AFunc := C86
def C87 : AFunc := ⟨46, [.tmp 4, .tmp 5],
(.seq (.ops [zP 4 .mov [.c (.int .i64 0)],
zP 5 .mov [.c (.int .i64 0)]])
(.seq (.seq (.ops [zM 8 0,
zM 9 1,
⟨some 10, none, .call, [.c (.func (.func 135) [] []), .t 8, .t 9]⟩,
zM 6 10])
(.seq (.ops [zM 11 6,
zP 12 (.bin .neq) [.t 11, .c (.int .i64 0)]])
(.cond (.t 12)
(.seq (.ops [zM 13 6,
zP 4 .mov [.c (.int .i64 0)],
zM 5 13])
.ret)
.skip)))
(.seq (.ops [zM 14 0,
zM 15 1,
⟨some 16, none, .call, [.c (.func (.func 139) [] []), .t 14, .t 15]⟩,
zM 7 16])
(.seq (.seq (.ops [zM 17 7,
zP 18 (.bin .lss) [.t 17, .c (.int .i64 0)]])
(.cond (.t 18)
(.seq (.ops [zP 4 .mov [.c (.int .i64 0)],
zP 5 .mov [.c (.int .i64 132)]])
.ret)
.skip))
(.seq (.ops [zM 19 0,
zN 20 19,
zF 21 20 1,
zL 22 21,
zM 23 7,
zP 24 (.iaddrS 2) [.t 22, .t 23],
zF 25 24 1,
zL 26 25,
zM 4 26])
(.seq (.dops [zM 27 0,
zM 28 0,
zN 29 28,
zF 30 29 1,
zL 31 30,
zM 32 7,
zM 33 7,
zP 34 (.slice 2 false true true) [.t 31, .t 32, .t 33],
zM 35 0,
zN 36 35,
zF 37 36 1,
zL 38 37,
zM 39 7,
zP 40 (.bin .add) [.t 39, .c (.int .i64 1)],
zP 41 (.slice 2 true false false) [.t 38, .t 40],
⟨some 42, none, .e (.append 2 16), [.t 34, .t 41]⟩,
zN 43 27,
zF 44 43 1,
zS 1 [.t 44, .t 42]] [[], [], [], [], [], [], [], [], [], [], [], [], [], [], [], [], [], [], []])
(.seq (.ops [zM 45 4,
zM 4 45,
zP 5 .mov [.c (.int .i64 0)]])
.ret)))))))⟩
abbrev f_stack_Stack_Unlock : Nat := 87
abbrev C_stack_Stack_Unlock : AFunc := C87
def C88 : AFunc := ⟨18, [.tmp 2],
(.seq (.ops [zP 2 .mov [.c (.int .i64 0)]])
(.seq (.block 0 (.seq (.ops [zM 4 0,
⟨some 5, none, .call, [.c (.func (.func 108) [] []), .t 4]⟩,
zM 3 5])
(.cond (.t 3)
(.seq (.ops [zP 2 .mov [.c (.int .i64 1)]])
.ret)
(.seq (.ops [zM 7 0,
zN 8 7,
zF 9 8 11,
zL 10 9,
zP 11 (.bin .eql) [.t 10, .c (.int .i64 0)],
zM 6 11])
(.cond (.t 6)
(.seq (.ops [zP 2 .mov [.c (.int .i64 132)]])
.ret)
.skip)))))
(.seq (.ops [zM 12 0,
zM 13 0,
zN 14 12,
zF 15 14 11,
zS 1 [.t 15, .c (.int .i64 0)],
zN 16 13,
zF 17 16 12,
zS 1 [.t 17, .c (.int .i64 0)]])
(.seq (.ops [zP 2 .mov [.c (.int .i64 0)]])
.ret))))⟩
abbrev f_job_Job_Leave : Nat := 88
abbrev C_job_Job_Leave : AFunc := C88
def C92 : AFunc := ⟨16, [.tmp 4],
(.seq (.ops [zP 4 .mov [.c (.bool false)]])
(.seq (.ops [zM 5 0,
⟨some 6, none, .call, [.c (.func (.func 110) [] []), .t 5]⟩,
zP 7 .not [.t 6],
zM 8 7,
zMg 9 0 8 true,
zNg 10 9 8 true,
zFg 11 10 0 8 true,
zLg 12 11 8 true,
zMg 13 1 8 true,
⟨some 14, some (8, true), .call, [.c (.func (.func 140) [] []), .t 12, .t 13]⟩,
zP 15 .pick [.t 8, .t 14, .c (.bool false)],
zM 4 15])
.ret))⟩
abbrev f_ready_Queue_Remove : Nat := 92
abbrev C_ready_Queue_Remove : AFunc := C92
def L_stack_Stack_Drop_0 : AC := (.seq (.seq (.ops [zM 13 6,
zP 14 (.bin .eql) [.t 13, .c (.int .i64 0)]])
(.cond (.t 14)
.skip
(.exit 0)))
(.seq (.block 1 (.ops [zM 21 4,
zM 22 5,
⟨some 23, none, .a (.bslice [(.int .i64 0)] 1 1 [0]), [.t 22]⟩,
⟨some 24, none, .e (.append 1 8), [.t 21, .t 23]⟩,
zM 4 24]))
(.ops [zM 16 0,
zM 17 1,
⟨some 18, none, .call, [.c (.func (.func 87) [] []), .t 16, .t 17]⟩,
zM 15 18,
zP 19 (.ext 0) [.t 15],
zP 20 (.ext 1) [.t 15],
zM 5 19,
zM 6 20])))
def C93 : AFunc := ⟨26, [.tmp 4],
(.seq (.ops [zP 4 .mov [.c .nils]])
(.seq (.seq (.ops [zM 8 0,
zM 9 1,
⟨some 10, none, .call, [.c (.func (.func 87) [] []), .t 8, .t 9]⟩,
zM 7 10,
zP 11 (.ext 0) [.t 7],
zP 12 (.ext 1) [.t 7],
zM 5 11,
zM 6 12])
(.block 0 (.loop L_stack_Stack_Drop_0)))
(.seq (.ops [zM 25 4,
zM 4 25])
.ret)))⟩
abbrev f_stack_Stack_Drop : Nat := 93
abbrev C_stack_Stack_Drop : AFunc := C93
def C94 : AFunc := ⟨18, [.tmp 4],
(.seq (.ops [zP 4 .mov [.c (.int .i64 0)]])
(.seq (.block 0 (.seq (.ops [zM 6 0,
⟨some 7, none, .call, [.c (.func (.func 49) [] []), .t 6]⟩,
zM 5 7])
(.cond (.t 5)
(.seq (.ops [zP 4 .mov [.c (.int .i64 1)]])
.ret)
(.seq (.seq (.ops [zM 9 1,
zP 10 (.bin .lss) [.t 9, .c (.int .i64 0)],
zM 8 10])
(.cond (.t 8)
.skip
(.ops [zM 11 1,
zM 12 0,
zN 13 12,
zF 14 13 2,
zL 15 14,
zP 16 .lenS [.t 15],
zP 17 (.bin .geq) [.t 11, .t 16],
zM 8 17])))
(.cond (.t 8)
(.seq (.ops [zP 4 .mov [.c (.int .i64 9)]])
.ret)
.skip)))))
(.seq (.ops [zP 4 .mov [.c (.int .i64 0)]])
.ret)))⟩
abbrev f_room_Room_has : Nat := 94
abbrev C_room_Room_has : AFunc := C94
def C95 : AFunc := ⟨39, [.tmp 6, .tmp 7],
(.seq (.ops [⟨some 3, none, .a .box, [.t 0]⟩,
zP 6 .mov [.c .nilp],
zP 7 .mov [.c (.int .i64 0)]])
(.seq (.seq (.ops [⟨some 11, none, .r (.loadN 8), [.t 3]⟩,
⟨some 12, none, .a (.bslice [(.int .i64 0), (.int .i64 0), (.int .i64 0), (.int .i64 0), (.int .i64 0), (.int .i64 0), (.int .i64 0), (.int .i64 0)] 1 8 [0]), [.t 11]⟩,
⟨some 13, none, .a (.bslice [(.int .i64 0)] 1 1 [0]), [.c (.int .i64 0)]⟩,
⟨some 14, none, .call, [.c (.func (.func 10) [] []), .t 12, .t 13]⟩,
zM 8 14])
(.block 0 (.seq (.seq (.ops [zM 16 8,
zP 17 (.bin .neq) [.t 16, .c (.int .i64 0)],
zM 15 17])
(.cond (.t 15)
.skip
(.ops [zM 18 2,
zP 19 (.bin .lss) [.t 18, .c (.int .i64 0)],
zM 15 19])))
(.cond (.t 15)
(.seq (.ops [zP 6 .mov [.c .nilp],
zP 7 .mov [.c (.int .i64 2)]])
.ret)
(.seq (.ops [zM 21 2,
zP 22 (.bin .gtr) [.t 21, .c (.int .i64 1099511627776)],
zM 20 22])
(.cond (.t 20)
(.seq (.ops [zP 6 .mov [.c .nilp],
zP 7 .mov [.c (.int .i64 10)]])
.ret)
.skip))))))
(.seq (.ops [zM 24 1,
⟨some 25, none, .call, [.c (.func (.func 141) [] []), .t 24]⟩,
zM 23 25,
zP 26 (.ext 0) [.t 23],
zP 27 (.ext 1) [.t 23],
zM 9 26,
zM 10 27])
(.seq (.seq (.ops [zM 28 10,
zP 29 (.bin .neq) [.t 28, .c (.int .i64 0)]])
(.cond (.t 29)
(.seq (.ops [zM 30 10,
zP 6 .mov [.c .nilp],
zM 7 30])
.ret)
.skip))
(.seq (.ops [zM 31 9,
⟨some 32, none, .r (.loadN 8), [.t 3]⟩,
zM 33 2,
zF 34 3 1,
zL 35 34,
zP 36 (.bin .add) [.t 33, .t 35],
zP 37 (.build [.nilp, (.int .i64 0), (.int .i64 0), (.int .i64 0), (.int .i64 0), (.int .i64 0), (.int .i64 0), (.int .i64 0), (.int .i64 0), (.int .i64 0), (.int .i64 0), (.int .i64 0), (.int .i64 0), (.int .i64 0), (.bool false)] [(0, 1), (1, 8), (9, 1)]) [.t 31, .t 32, .t 36],
⟨some 38, none, .a .box, [.t 37]⟩,
zM 6 38,
zP 7 .mov [.c (.int .i64 0)]])
.ret)))))⟩
abbrev f_job_New : Nat := 95
abbrev C_job_New : AFunc := C95
def C96 : AFunc := ⟨24, [.tmp 4],
(.seq (.ops [zP 4 .mov [.c (.int .i64 0)]])
(.seq (.ops [zM 7 0,
zP 8 (.mkfunc (.func 142) 1) [.t 7],
zM 5 8])
(.seq (.ops [zM 9 5,
zM 10 1,
⟨some 11, none, .call, [.t 9, .t 10]⟩,
zM 6 11])
(.seq (.seq (.ops [zM 12 6,
zP 13 (.bin .eql) [.t 12, .c (.int .i64 0)]])
(.cond (.t 13)
(.ops [zM 14 0,
zM 15 1,
zM 16 0,
zN 17 16,
zF 18 17 0,
zL 19 18,
zP 20 (.bin .add) [.t 15, .t 19],
zN 21 14,
zF 22 21 1,
zS 1 [.t 22, .t 20]])
.skip))
(.seq (.ops [zM 23 6,
zM 4 23])
.ret)))))⟩
abbrev f_spore_Guard_Release : Nat := 96
abbrev C_spore_Guard_Release : AFunc := C96
def C97 : AFunc := ⟨35, [.tmp 6],
(.seq (.ops [zP 6 .mov [.c (.int .i64 0)]])
(.seq (.block 0 (.seq (.ops [zM 8 0,
⟨some 9, none, .call, [.c (.func (.func 110) [] []), .t 8]⟩,
zM 7 9])
(.cond (.t 7)
(.seq (.ops [zP 6 .mov [.c (.int .i64 1)]])
.ret)
(.seq (.ops [zM 11 1,
zP 12 (.bin .lss) [.t 11, .c (.int .i64 0)],
zM 13 12,
zMg 14 1 13 false,
zMg 15 0 13 false,
zNg 16 15 13 false,
zFg 17 16 1 13 false,
zLg 18 17 13 false,
zPg 19 (.bin .geq) [.t 14, .t 18] 13 false,
zP 20 .pick [.t 13, .c (.bool true), .t 19],
zM 10 20])
(.cond (.t 10)
(.seq (.ops [zP 6 .mov [.c (.int .i64 9)]])
.ret)
(.seq (.ops [zM 22 2,
zP 23 (.bin .lss) [.t 22, .c (.int .i64 0)],
zM 24 23,
zMg 25 2 24 false,
zPg 26 (.bin .gtr) [.t 25, .c (.int .i64 1099511627840)] 24 false,
zP 27 .pick [.t 24, .c (.bool true), .t 26],
zM 21 27])
(.cond (.t 21)
(.seq (.ops [zP 6 .mov [.c (.int .i64 2)]])
.ret)
.skip)))))))
(.seq (.ops [zM 28 0,
zN 29 28,
zF 30 29 0,
zL 31 30,
zM 32 1,
zM 33 2,
⟨some 34, none, .call, [.c (.func (.func 143) [] []), .t 31, .t 32, .t 33]⟩,
zM 6 34])
.ret)))⟩
abbrev f_ready_Queue_Put : Nat := 97
abbrev C_ready_Queue_Put : AFunc := C97
def C99 : AFunc := ⟨45, [.tmp 4],
(.seq (.ops [zP 4 .mov [.c (.int .i64 0)]])
(.seq (.ops [zM 8 0,
⟨some 9, none, .call, [.c (.func (.func 101) [] []), .t 8]⟩,
zM 7 9,
zP 10 (.ext 0) [.t 7],
zP 11 (.ext 1) [.t 7],
⟨some 5, none, .a (.alloc [(.int .i64 0), (.int .i64 0), (.str [])]), []⟩,
zS 3 [.t 5, .t 10],
zM 6 11])
(.seq (.block 0 (.seq (.ops [zM 13 6,
zP 14 .not [.t 13],
zM 12 14])
(.cond (.t 12)
(.seq (.ops [zP 4 .mov [.c (.int .i64 0)]])
.ret)
(.seq (.ops [zM 16 1,
zM 17 0,
zN 18 17,
zF 19 18 9,
zL 20 19,
zP 21 (.bin .geq) [.t 16, .t 20],
zM 15 21])
(.cond (.t 15)
(.seq (.ops [zP 4 .mov [.c (.int .i64 3)]])
.ret)
(.seq (.dops [zM 23 0,
zN 24 23,
zF 25 24 10,
zL 26 25,
zM 27 0,
zN 28 27,
zF 29 28 1,
zF 30 29 2,
zL 31 30,
zP 32 (.bin .geq) [.t 26, .t 31],
zM 33 32,
zMg 34 0 33 true,
zNg 35 34 33 true,
zFg 36 35 0 33 true,
zLg 37 36 33 true,
⟨some 38, some (33, true), .call, [.c (.func (.func 145) [] []), .t 37]⟩,
zPg 39 (.bin .gtr) [.t 38, .c (.int .i64 0)] 33 true,
zP 40 .pick [.t 33, .t 39, .c (.bool false)],
zM 22 40] [[], [], [], [], [], [], [], [], [], [], [], [], [], [], [], [], [], [], []])
(.cond (.t 22)
(.seq (.ops [zP 4 .mov [.c (.int .i64 1)]])
.ret)
(.seq (.ops [zM 42 0,
⟨some 43, none, .r (.loadN 3), [.t 5]⟩,
⟨some 44, none, .call, [.c (.func (.func 146) [] []), .t 42, .t 43]⟩,
zM 41 44])
(.cond (.t 41)
(.seq (.ops [zP 4 .mov [.c (.int .i64 2)]])
.ret)
.skip)))))))))
(.seq (.ops [zP 4 .mov [.c (.int .i64 0)]])
.ret))))⟩
abbrev f_job_Job_Fault : Nat := 99
abbrev C_job_Job_Fault : AFunc := C99
def C100 : AFunc := ⟨10, [.tmp 2],
(.seq (.ops [zP 2 .mov [.c .nils]])
(.seq (.seq (.ops [zM 3 0,
⟨some 4, none, .call, [.c (.func (.func 110) [] []), .t 3]⟩])
(.cond (.t 4)
(.seq (.ops [zP 2 .mov [.c .nils]])
.ret)
.skip))
(.seq (.ops [zM 5 0,
zN 6 5,
zF 7 6 0,
zL 8 7,
⟨some 9, none, .call, [.c (.func (.func 147) [] []), .t 8]⟩,
zM 2 9])
.ret)))⟩
abbrev f_ready_Queue_Jobs : Nat := 100
abbrev C_ready_Queue_Jobs : AFunc := C100
def C101 : AFunc := ⟨14, [.cell 2 3 true, .tmp 3],
(.seq (.ops [⟨some 2, none, .a (.alloc [(.int .i64 0), (.int .i64 0), (.str [])]), []⟩,
zP 3 .mov [.c (.bool false)]])
(.seq (.seq (.ops [zM 4 0,
⟨some 5, none, .call, [.c (.func (.func 108) [] []), .t 4]⟩])
(.cond (.t 5)
(.seq (.ops [zP 6 (.build [(.int .i64 0), (.int .i64 0), (.str [])] []) [],
zS 3 [.t 2, .t 6],
zP 3 .mov [.c (.bool false)]])
.ret)
.skip))
(.seq (.ops [zM 7 0,
zN 8 7,
zF 9 8 0,
zL 10 9,
⟨some 11, none, .call, [.c (.func (.func 148) [] []), .t 10]⟩,
zP 12 (.ext 0) [.t 11],
zP 13 (.ext 1) [.t 11],
zS 3 [.t 2, .t 12],
zM 3 13])
.ret)))⟩
abbrev f_job_Job_Next : Nat := 101
abbrev C_job_Job_Next : AFunc := C101
def C102 : AFunc := ⟨9, [.tmp 2],
(.seq (.ops [zP 2 .mov [.c (.bool false)]])
(.seq (.ops [zM 3 0,
zP 4 (.bin .geq) [.t 3, .c (.int .i64 1)],
zM 5 4,
zMg 6 0 5 true,
zPg 7 (.bin .leq) [.t 6, .c (.int .i64 64)] 5 true,
zP 8 .pick [.t 5, .t 7, .c (.bool false)],
zM 2 8])
.ret))⟩
abbrev f_spore_may : Nat := 102
abbrev C_spore_may : AFunc := C102
def C103 : AFunc := ⟨5, [.tmp 0],
(.seq (.ops [zP 0 .mov [.c .nilp]])
(.seq (.ops [zP 1 (.build [.nils, (.int .i64 0), (.int .i64 0), (.int .i64 0), (.int .i64 0), (.int .i64 0), (.int .i64 0), (.int .i64 0), (.int .i64 0), (.int .i64 0), (.int .i64 0), (.int .i64 0), (.int .i64 0), (.int .i64 0), (.int .i64 0), (.int .i64 0), (.int .i64 0), (.int .i64 0), (.int .i64 0), (.int .i64 0), (.int .i64 0), (.int .i64 0), (.int .i64 0), (.int .i64 0), (.int .i64 0), (.int .i64 0), (.int .i64 0), (.int .i64 0), (.int .i64 0), (.int .i64 0), (.int .i64 0), (.int .i64 0), (.int .i64 0), (.int .i64 0), (.int .i64 0), (.int .i64 0), (.int .i64 0), (.int .i64 0), (.int .i64 0), (.int .i64 0), (.int .i64 0), (.int .i64 0), (.int .i64 0), (.int .i64 0), (.int .i64 0), (.int .i64 0), (.int .i64 0), (.int .i64 0), (.int .i64 0), (.int .i64 0), (.int .i64 0), (.int .i64 0), (.int .i64 0), (.int .i64 0), (.int .i64 0), (.int .i64 0), (.int .i64 0), (.int .i64 0), (.int .i64 0), (.int .i64 0), (.int .i64 0), (.int .i64 0), (.int .i64 0), (.int .i64 0), (.int .i64 0)] []) [],
⟨some 2, none, .a .box, [.t 1]⟩,
zP 3 (.build [.nilp] [(0, 1)]) [.t 2],
⟨some 4, none, .a .box, [.t 3]⟩,
zM 0 4])
.ret))⟩
abbrev f_rank_New : Nat := 103
abbrev C_rank_New : AFunc := C103
def L_slices_IndexFunc_int_int_0 : AC := (.seq (.ops [zP 9 (.bin .lss) [.t 8, .t 7]])
(.seq (.cond (.t 9)
.skip
(.exit 0))
(.seq (.block 1 (.seq (.ops [zM 10 8,
zM 5 10])
(.seq (.ops [zM 11 1,
zM 12 0,
zM 13 5,
zP 14 (.iaddrS 1) [.t 12, .t 13],
zL 15 14,
⟨some 16, none, .call, [.t 11, .t 15]⟩])
(.cond (.t 16)
(.seq (.ops [zM 17 5,
zM 4 17])
.ret)
.skip))))
(.ops [zP 18 (.bin .add) [.t 8, .c (.int .i64 1)],
zM 8 18]))))
def C104 : AFunc := ⟨19, [.tmp 4],
(.seq (.ops [zP 4 .mov [.c (.int .i64 0)]])
(.seq (.seq (.ops [zM 6 0,
zP 7 .lenS [.t 6],
zP 8 .mov [.c (.int .i64 0)]])
(.block 0 (.loop L_slices_IndexFunc_int_int_0)))
(.seq (.ops [zP 4 .mov [.c (.int .i64 (-1))]])
.ret)))⟩
abbrev f_slices_IndexFunc_int_int : Nat := 104
abbrev C_slices_IndexFunc_int_int : AFunc := C104
def C105 : AFunc := ⟨9, [.tmp 4],
(.seq (.ops [zP 4 .mov [.c (.bool false)]])
(.seq (.ops [zM 5 0,
zM 6 1,
⟨some 7, none, .call, [.c (.func (.func 149) [] []), .t 5, .t 6]⟩,
zP 8 (.bin .geq) [.t 7, .c (.int .i64 0)],
zM 4 8])
.ret))⟩
abbrev f_slices_ContainsFunc_api_Task_api_Task : Nat := 105
abbrev C_slices_ContainsFunc_api_Task_api_Task : AFunc := C105
def C106 : AFunc := ⟨6, [.tmp 2],
(.seq (.ops [⟨some 1, none, .a .box, [.t 0]⟩,
zP 2 .mov [.c (.bool false)]])
(.seq (.ops [⟨some 3, none, .r (.loadN 8), [.t 1]⟩,
⟨some 4, none, .call, [.c (.func (.func 107) [] []), .t 3]⟩,
zP 5 .not [.t 4],
zM 2 5])
.ret))⟩
abbrev f_demand_all_1 : Nat := 106
abbrev C_demand_all_1 : AFunc := C106
def C107 : AFunc := ⟨25, [.tmp 2],
(.seq (.ops [⟨some 1, none, .a .box, [.t 0]⟩,
zP 2 .mov [.c (.bool false)]])
(.seq (.ops [zF 3 1 2,
zL 4 3,
zP 5 (.bin .leq) [.c (.int .i64 1), .t 4],
zM 6 5,
zFg 7 1 2 6 true,
zLg 8 7 6 true,
zFg 9 1 1 6 true,
zLg 10 9 6 true,
zPg 11 (.bin .leq) [.t 8, .t 10] 6 true,
zP 12 .pick [.t 6, .t 11, .c (.bool false)],
zM 13 12,
zFg 14 1 1 13 true,
zLg 15 14 13 true,
zFg 16 1 0 13 true,
zLg 17 16 13 true,
zPg 18 (.bin .leq) [.t 15, .t 17] 13 true,
zP 19 .pick [.t 13, .t 18, .c (.bool false)],
zM 20 19,
zFg 21 1 0 20 true,
zLg 22 21 20 true,
zPg 23 (.bin .leq) [.t 22, .c (.int .i64 64)] 20 true,
zP 24 .pick [.t 20, .t 23, .c (.bool false)],
zM 2 24])
.ret))⟩
abbrev f_demand_may : Nat := 107
abbrev C_demand_may : AFunc := C107
def C108 : AFunc := ⟨12, [.tmp 2],
(.seq (.ops [zP 2 .mov [.c (.bool false)]])
(.seq (.ops [zM 3 0,
zP 4 (.eq .nilptr) [.t 3, .c .nilp],
zM 5 4,
zMg 6 0 5 false,
zNg 7 6 5 false,
zFg 8 7 0 5 false,
zLg 9 8 5 false,
zPg 10 (.eq .nilptr) [.t 9, .c .nilp] 5 false,
zP 11 .pick [.t 5, .c (.bool true), .t 10],
zM 2 11])
.ret))⟩
abbrev f_job_Job_none : Nat := 108
abbrev C_job_Job_none : AFunc := C108
def C109 : AFunc := ⟨4, [.tmp 2],
(.seq (.ops [⟨some 1, none, .a .box, [.t 0]⟩,
zP 2 .mov [.c .nilf]])
(.seq (.ops [zP 3 (.mkfunc (.func 150) 0) [.t 1],
zM 2 3])
.ret))⟩
abbrev f_stack_of : Nat := 109
abbrev C_stack_of : AFunc := C109
def C110 : AFunc := ⟨12, [.tmp 2],
(.seq (.ops [zP 2 .mov [.c (.bool false)]])
(.seq (.ops [zM 3 0,
zP 4 (.eq .nilptr) [.t 3, .c .nilp],
zM 5 4,
zMg 6 0 5 false,
zNg 7 6 5 false,
zFg 8 7 0 5 false,
zLg 9 8 5 false,
zPg 10 (.eq .nilptr) [.t 9, .c .nilp] 5 false,
zP 11 .pick [.t 5, .c (.bool true), .t 10],
zM 2 11])
.ret))⟩
abbrev f_ready_Queue_none : Nat := 110
abbrev C_ready_Queue_none : AFunc := C110
def C111 : AFunc := ⟨38, [.tmp 2, .tmp 3, .tmp 4],
(.seq (.ops [zP 2 .mov [.c (.int .i64 0)],
zP 3 .mov [.c (.int .i64 0)],
zP 4 .mov [.c (.bool false)]])
(.seq (.seq (.ops [zM 5 0,
⟨some 6, none, .call, [.c (.func (.func 151) [] []), .t 5]⟩,
zM 7 6,
zMg 8 0 7 false,
zNg 9 8 7 false,
zFg 10 9 0 7 false,
zLg 11 10 7 false,
zNg 12 11 7 false,
zFg 13 12 0 7 false,
zLg 14 13 7 false,
zPg 15 .lenS [.t 14] 7 false,
zPg 16 (.bin .eql) [.t 15, .c (.int .i64 0)] 7 false,
zP 17 .pick [.t 7, .c (.bool true), .t 16]])
(.cond (.t 17)
(.seq (.ops [zP 2 .mov [.c (.int .i64 0)],
zP 3 .mov [.c (.int .i64 0)],
zP 4 .mov [.c (.bool false)]])
.ret)
.skip))
(.seq (.dops [zM 18 0,
zN 19 18,
zF 20 19 0,
zL 21 20,
zN 22 21,
zF 23 22 0,
zL 24 23,
zP 25 (.iaddrS 2) [.t 24, .c (.int .i64 0)],
zF 26 25 0,
zL 27 26,
zM 28 0,
zN 29 28,
zF 30 29 0,
zL 31 30,
zN 32 31,
zF 33 32 0,
zL 34 33,
zP 35 (.iaddrS 2) [.t 34, .c (.int .i64 0)],
zF 36 35 1,
zL 37 36,
zM 2 27,
zM 3 37,
zP 4 .mov [.c (.bool true)]] [[], [], [], [], [], [], [], [], [], [], [], [], [], [], [], [], [], [], [], [], [], [], []])
.ret)))⟩
abbrev f_rank_Rank_First : Nat := 111
abbrev C_rank_Rank_First : AFunc := C111
def C112 : AFunc := ⟨8, [.tmp 4],
(.seq (.ops [⟨some 2, none, .a .box, [.t 0]⟩,
⟨some 3, none, .a .box, [.t 1]⟩,
zP 4 .mov [.c (.int .i64 0)]])
(.seq (.ops [zL 5 2,
zP 6 (.mkfunc (.func 153) 0) [.t 2, .t 3],
⟨some 7, none, .call, [.c (.func (.func 152) [] []), .t 5, .t 6]⟩,
zM 4 7])
.ret))⟩
abbrev f_level_Ceiling : Nat := 112
abbrev C_level_Ceiling : AFunc := C112
def C132 : AFunc := ⟨19, [.tmp 2],
(.seq (.ops [zP 2 .mov [.c (.int .i64 0)]])
(.seq (.block 0 (.seq (.ops [zM 4 0,
⟨some 5, none, .call, [.c (.func (.func 161) [] []), .t 4]⟩,
zM 3 5])
(.cond (.t 3)
(.seq (.ops [zP 2 .mov [.c (.int .i64 1)]])
.ret)
(.seq (.ops [zM 7 0,
zN 8 7,
zF 9 8 0,
zL 10 9,
zP 11 .lenS [.t 10],
zP 12 (.bin .eql) [.t 11, .c (.int .i64 0)],
zM 13 12,
zMg 14 0 13 false,
⟨some 15, some (13, false), .call, [.c (.func (.func 162) [] []), .t 14]⟩,
zP 16 .pick [.t 13, .c (.bool true), .t 15],
zM 6 16])
(.cond (.t 6)
(.seq (.ops [zP 2 .mov [.c (.int .i64 250)]])
.ret)
.skip)))))
(.seq (.ops [zM 17 0,
⟨some 18, none, .call, [.c (.func (.func 163) [] []), .t 17]⟩])
(.seq (.ops [zP 2 .mov [.c (.int .i64 0)]])
.ret))))⟩
abbrev f_act_Row_Did : Nat := 132
abbrev C_act_Row_Did : AFunc := C132
def C133 : AFunc := ⟨30, [.tmp 2],
(.seq (.ops [zP 2 .mov [.c (.int .i64 0)]])
(.seq (.block 0 (.seq (.ops [zM 4 0,
⟨some 5, none, .call, [.c (.func (.func 161) [] []), .t 4]⟩,
zM 3 5])
(.cond (.t 3)
(.seq (.ops [zP 2 .mov [.c (.int .i64 1)]])
.ret)
(.seq (.ops [zM 7 0,
⟨some 8, none, .call, [.c (.func (.func 162) [] []), .t 7]⟩,
zP 9 .not [.t 8],
zM 6 9])
(.cond (.t 6)
(.seq (.ops [zP 2 .mov [.c (.int .i64 250)]])
.ret)
.skip)))))
(.seq (.seq (.ops [zM 10 0,
zN 11 10,
zF 12 11 0,
zL 13 12,
zP 14 (.iaddrS 3) [.t 13, .c (.int .i64 0)],
zF 15 14 1,
zL 16 15,
zP 17 (.bin .sub) [.t 16, .c (.int .i64 1)],
zP 18 (.iaddrS 3) [.t 13, .c (.int .i64 0)],
zF 19 18 1,
zS 1 [.t 19, .t 17]])
(.seq (.ops [zM 20 0,
zN 21 20,
zF 22 21 0,
zL 23 22,
zP 24 (.iaddrS 3) [.t 23, .c (.int .i64 0)],
zF 25 24 1,
zL 26 25,
zP 27 (.bin .eql) [.t 26, .c (.int .i64 0)]])
(.cond (.t 27)
(.ops [zM 28 0,
⟨some 29, none, .call, [.c (.func (.func 163) [] []), .t 28]⟩])
.skip)))
(.seq (.ops [zP 2 .mov [.c (.int .i64 0)]])
.ret))))⟩
abbrev f_act_Row_Ran : Nat := 133
abbrev C_act_Row_Ran : AFunc := C133
def C134 : AFunc := ⟨14, [.tmp 2, .tmp 3],
(.seq (.ops [zP 2 .mov [.c (.int .i64 0)],
zP 3 .mov [.c (.int .i64 0)]])
(.seq (.seq (.ops [zM 4 0,
⟨some 5, none, .call, [.c (.func (.func 108) [] []), .t 4]⟩])
(.cond (.t 5)
(.seq (.ops [zP 2 .mov [.c (.int .i64 0)],
zP 3 .mov [.c (.int .i64 0)]])
.ret)
.skip))
(.seq (.dops [zM 6 0,
zN 7 6,
zF 8 7 11,
zL 9 8,
zM 10 0,
zN 11 10,
zF 12 11 12,
zL 13 12,
zM 2 9,
zM 3 13] [[], [], [], [], [], [], [], [], [], []])
.ret)))⟩
abbrev f_job_Job_In : Nat := 134
abbrev C_job_Job_In : AFunc := C134
def C135 : AFunc := ⟨27, [.tmp 4],
(.seq (.ops [zP 4 .mov [.c (.int .i64 0)]])
(.seq (.block 0 (.seq (.ops [zM 6 0,
zP 7 (.eq .nilptr) [.t 6, .c .nilp],
zM 8 7,
zMg 9 0 8 false,
zNg 10 9 8 false,
zFg 11 10 2 8 false,
zLg 12 11 8 false,
zPg 13 .not [.t 12] 8 false,
zP 14 .pick [.t 8, .c (.bool true), .t 13],
zM 5 14])
(.cond (.t 5)
(.seq (.ops [zP 4 .mov [.c (.int .i64 1)]])
.ret)
(.seq (.ops [zM 16 1,
zP 17 (.bin .lss) [.t 16, .c (.int .i64 0)],
zM 18 17,
zMg 19 1 18 false,
zMg 20 0 18 false,
zNg 21 20 18 false,
zFg 22 21 0 18 false,
zLg 23 22 18 false,
zPg 24 .lenS [.t 23] 18 false,
zPg 25 (.bin .geq) [.t 19, .t 24] 18 false,
zP 26 .pick [.t 18, .c (.bool true), .t 25],
zM 15 26])
(.cond (.t 15)
(.seq (.ops [zP 4 .mov [.c (.int .i64 9)]])
.ret)
.skip)))))
(.seq (.ops [zP 4 .mov [.c (.int .i64 0)]])
.ret)))⟩
abbrev f_stack_Stack_asked : Nat := 135
abbrev C_stack_Stack_asked : AFunc := C135
def C136 : AFunc := ⟨8, [.tmp 3],
(.seq (.ops [⟨some 2, none, .a .box, [.t 0]⟩,
zP 3 .mov [.c (.bool false)]])
(.seq (.ops [zF 4 2 1,
zL 5 4,
zL 6 1,
zP 7 (.bin .eql) [.t 5, .t 6],
zM 3 7])
.ret))⟩
abbrev f_stack_Stack_Lock_1 : Nat := 136
abbrev C_stack_Stack_Lock_1 : AFunc := C136
def C137 : AFunc := ⟨32, [.tmp 6],
(.seq (.ops [zP 6 .mov [.c (.bool false)]])
(.seq (.seq (.ops [zM 7 1,
zP 8 (.bin .lss) [.t 7, .c (.int .i64 0)],
zM 9 8,
zMg 10 1 9 false,
zMg 11 0 9 false,
zPg 12 .lenS [.t 11] 9 false,
zPg 13 (.bin .geq) [.t 10, .t 12] 9 false,
zP 14 .pick [.t 9, .c (.bool true), .t 13],
zM 15 14,
zMg 16 2 15 false,
zPg 17 (.bin .lss) [.t 16, .c (.int .i64 0)] 15 false,
zP 18 .pick [.t 15, .c (.bool true), .t 17],
zM 19 18,
zMg 20 2 19 false,
zPg 21 (.bin .geq) [.t 20, .c (.int .i64 8)] 19 false,
zP 22 .pick [.t 19, .c (.bool true), .t 21]])
(.cond (.t 22)
(.seq (.ops [zP 6 .mov [.c (.bool false)]])
.ret)
.skip))
(.seq (.dops [zM 23 0,
zM 24 1,
zP 25 (.iaddrS 8) [.t 23, .t 24],
zF 26 25 3,
zL 27 26,
zM 28 2,
zP 29 (.bin .shl) [.c (.int .i64 1), .t 28],
zP 30 (.bin .and) [.t 27, .t 29],
zP 31 (.bin .neq) [.t 30, .c (.int .i64 0)],
zM 6 31] [[], [], [], [], [], [], [], [], [], []])
.ret)))⟩
abbrev f_level_Uses : Nat := 137
abbrev C_level_Uses : AFunc := C137
def C138 : AFunc := ⟨9, [.tmp 4],
(.seq (.ops [zP 4 .mov [.c (.bool false)]])
(.seq (.ops [zM 5 0,
zM 6 1,
⟨some 7, none, .call, [.c (.func (.func 164) [] []), .t 5, .t 6]⟩,
zP 8 (.bin .geq) [.t 7, .c (.int .i64 0)],
zM 4 8])
.ret))⟩
abbrev f_slices_ContainsFunc_stack_entry_stack_entry : Nat := 138
abbrev C_slices_ContainsFunc_stack_entry_stack_entry : AFunc := C138
def L_stack_Stack_last_0a : AC := (.seq (.ops [zM 6 15])
(.ops [⟨some 7, none, .a (.alloc [(.int .i64 0), (.int .i64 0)]), []⟩,
zS 2 [.t 7, .t 16]]))
def L_stack_Stack_last_0b : AC := (.block 1 (.seq (.ops [zL 17 5,
⟨some 18, none, .r (.loadN 2), [.t 7]⟩,
⟨some 19, none, .call, [.t 17, .t 18]⟩])
(.cond (.t 19)
(.seq (.ops [zM 20 6,
zS 1 [.t 4, .t 20]])
.ret)
.skip)))
def C139 : AFunc := ⟨21, [.cell 4 1 false],
(.seq (.ops [⟨some 4, none, .a (.alloc [(.int .i64 0)]), []⟩])
(.seq (.ops [zM 8 1,
⟨some 9, none, .call, [.c (.func (.func 109) [] []), .t 8]⟩,
⟨some 5, none, .a (.alloc [.nilf]), []⟩,
zS 1 [.t 5, .t 9]])
(.seq (.seq (.ops [zM 10 0,
zN 11 10,
zF 12 11 1,
zL 13 12,
⟨some 14, none, .call, [.c (.func (.func 165) [] []), .t 13]⟩])
(.block 0 (.rangeFunc (.t 14) [15, 16] L_stack_Stack_last_0a L_stack_Stack_last_0b)))
(.seq (.ops [zS 1 [.t 4, .c (.int .i64 (-1))]])
.ret))))⟩
abbrev f_stack_Stack_last : Nat := 139
abbrev C_stack_Stack_last : AFunc := C139
def C140 : AFunc := ⟨21, [.tmp 4],
(.seq (.ops [zP 4 .mov [.c (.bool false)]])
(.seq (.ops [zM 8 0,
zM 9 1,
⟨some 10, none, .call, [.c (.func (.func 166) [] []), .t 8, .t 9]⟩,
zM 7 10,
zP 11 (.ext 0) [.t 7],
zP 12 (.ext 1) [.t 7],
zM 5 11,
zM 6 12])
(.seq (.seq (.ops [zM 13 6])
(.cond (.t 13)
(.ops [zM 14 0,
zN 15 14,
zF 16 15 0,
zL 17 16,
zM 18 5,
⟨some 19, none, .call, [.c (.func (.func 167) [] []), .t 17, .t 18]⟩])
.skip))
(.seq (.ops [zM 20 6,
zM 4 20])
.ret))))⟩
abbrev f_rank_Rank_Remove : Nat := 140
abbrev C_rank_Rank_Remove : AFunc := C140
def C141 : AFunc := ⟨13, [.tmp 2, .tmp 3],
(.seq (.ops [zP 2 .mov [.c .nilp],
zP 3 .mov [.c (.int .i64 0)]])
(.seq (.seq (.ops [zM 4 0,
zP 5 .lenS [.t 4],
zP 6 (.bin .gtr) [.t 5, .c (.int .i64 32)]])
(.cond (.t 6)
(.seq (.ops [zP 2 .mov [.c .nilp],
zP 3 .mov [.c (.int .i64 5)]])
.ret)
.skip))
(.seq (.seq (.ops [zM 7 0,
⟨some 8, none, .call, [.c (.func (.func 168) [] []), .t 7, .c (.func (.func 169) [] [])]⟩])
(.cond (.t 8)
(.seq (.ops [zP 2 .mov [.c .nilp],
zP 3 .mov [.c (.int .i64 2)]])
.ret)
.skip))
(.seq (.ops [zM 9 0,
⟨some 10, none, .call, [.c (.func (.func 171) [] []), .t 9]⟩,
zP 11 (.build [.nils, (.bool false)] [(0, 1), (1, 1)]) [.t 10, .c (.bool true)],
⟨some 12, none, .a .box, [.t 11]⟩,
zM 2 12,
zP 3 .mov [.c (.int .i64 0)]])
.ret))))⟩
abbrev f_act_New : Nat := 141
abbrev C_act_New : AFunc := C141
def C142 : AFunc := ⟨21, [.tmp 4],
(.seq (.ops [zP 4 .mov [.c (.int .i64 0)]])
(.seq (.block 0 (.seq (.ops [zM 6 0,
⟨some 7, none, .call, [.c (.func (.func 144) [] []), .t 6]⟩,
zM 5 7])
(.cond (.t 5)
(.seq (.ops [zP 4 .mov [.c (.int .i64 1)]])
.ret)
(.seq (.ops [zM 9 1,
zP 10 (.bin .lss) [.t 9, .c (.int .i64 0)],
zM 8 10])
(.cond (.t 8)
(.seq (.ops [zP 4 .mov [.c (.int .i64 2)]])
.ret)
(.seq (.ops [zM 12 1,
zP 13 (.bin .gtr) [.t 12, .c (.int .i64 1099511627776)],
zM 11 13])
(.cond (.t 11)
(.seq (.ops [zP 4 .mov [.c (.int .i64 10)]])
.ret)
(.seq (.ops [zM 15 1,
zM 16 0,
zN 17 16,
zF 18 17 1,
zL 19 18,
zP 20 (.bin .lss) [.t 15, .t 19],
zM 14 20])
(.cond (.t 14)
(.seq (.ops [zP 4 .mov [.c (.int .i64 140)]])
.ret)
.skip)))))))))
(.seq (.ops [zP 4 .mov [.c (.int .i64 0)]])
.ret)))⟩
abbrev f_spore_Guard_asked : Nat := 142
abbrev C_spore_Guard_asked : AFunc := C142
def C143 : AFunc := ⟨55, [.tmp 6],
(.seq (.ops [zP 6 .mov [.c (.int .i64 0)]])
(.seq (.seq (.ops [zM 10 0,
zM 11 1,
⟨some 12, none, .call, [.c (.func (.func 172) [] []), .t 10, .t 11]⟩,
zM 7 12])
(.seq (.ops [zM 13 7,
zP 14 (.bin .neq) [.t 13, .c (.int .i64 0)]])
(.cond (.t 14)
(.seq (.ops [zM 15 7,
zM 6 15])
.ret)
.skip)))
(.seq (.seq (.ops [zM 17 0,
zM 18 1,
⟨some 19, none, .call, [.c (.func (.func 166) [] []), .t 17, .t 18]⟩,
zM 16 19,
zP 20 (.ext 0) [.t 16],
zP 21 (.ext 1) [.t 16],
zM 8 20,
zM 9 21])
(.seq (.ops [zM 22 9])
(.cond (.t 22)
(.seq (.ops [zP 6 .mov [.c (.int .i64 141)]])
.ret)
.skip)))
(.seq (.dops [zM 23 0,
zN 24 23,
zF 25 24 0,
zL 26 25,
zM 27 0,
zN 28 27,
zF 29 28 0,
zL 30 29,
zN 31 30,
zF 32 31 0,
zL 33 32,
zM 34 1,
zM 35 2,
zP 36 (.build [(.int .i64 0), (.int .i64 0)] [(0, 1), (1, 1)]) [.t 34, .t 35],
⟨some 37, none, .a (.bslice [(.int .i64 0), (.int .i64 0)] 1 2 [0]), [.t 36]⟩,
⟨some 38, none, .e (.append 2 16), [.t 33, .t 37]⟩,
zN 39 26,
zF 40 39 0,
zS 1 [.t 40, .t 38]] [[], [], [], [0, 16], [], [], [], [], [], [], [], [], [], [], [], [], [], [], []])
(.seq (.dops [zM 41 0,
zN 42 41,
zF 43 42 0,
zL 44 43,
zM 45 0,
zN 46 45,
zF 47 46 0,
zL 48 47,
zN 49 48,
zF 50 49 0,
zL 51 50,
zP 52 .lenS [.t 51],
zP 53 (.bin .sub) [.t 52, .c (.int .i64 1)],
⟨some 54, none, .call, [.c (.func (.func 173) [] []), .t 44, .t 53]⟩] [[], [], [], [], [], [], [], [], [], [], [], [], [], []])
(.seq (.ops [zP 6 .mov [.c (.int .i64 0)]])
.ret))))))⟩
abbrev f_rank_Rank_Put : Nat := 143
abbrev C_rank_Rank_Put : AFunc := C143
def C144 : AFunc := ⟨12, [.tmp 2],
(.seq (.ops [zP 2 .mov [.c (.bool false)]])
(.seq (.ops [zM 3 0,
zP 4 (.eq .nilptr) [.t 3, .c .nilp],
zM 5 4,
zMg 6 0 5 false,
zNg 7 6 5 false,
zFg 8 7 0 5 false,
zLg 9 8 5 false,
zPg 10 (.bin .eql) [.t 9, .c (.int .i64 0)] 5 false,
zP 11 .pick [.t 5, .c (.bool true), .t 10],
zM 2 11])
.ret))⟩
abbrev f_spore_Guard_none : Nat := 144
abbrev C_spore_Guard_none : AFunc := C144
def L_act_Row_Left_0 : AC := (.seq (.ops [zP 13 (.bin .lss) [.t 12, .t 11]])
(.seq (.cond (.t 13)
.skip
(.exit 0))
(.seq (.block 1 (.seq (.ops [zP 14 (.iaddrS 3) [.t 10, .t 12],
⟨some 15, none, .r (.loadN 3), [.t 14]⟩,
⟨some 4, none, .a (.alloc [(.int .i64 0), (.int .i64 0), (.str [])]), []⟩,
zS 3 [.t 4, .t 15]])
(.seq (.ops [zF 16 4 0,
zL 17 16,
zP 18 (.bin .eql) [.t 17, .c (.int .i64 1)]])
(.cond (.t 18)
(.ops [zM 19 2,
zF 20 4 1,
zL 21 20,
zP 22 (.bin .add) [.t 19, .t 21],
zM 2 22])
.skip))))
(.ops [zP 23 (.bin .add) [.t 12, .c (.int .i64 1)],
zM 12 23]))))
def C145 : AFunc := ⟨25, [.tmp 2],
(.seq (.ops [zP 2 .mov [.c (.int .i64 0)]])
(.seq (.seq (.ops [zM 5 0,
⟨some 6, none, .call, [.c (.func (.func 161) [] []), .t 5]⟩])
(.cond (.t 6)
(.seq (.ops [zP 2 .mov [.c (.int .i64 0)]])
.ret)
.skip))
(.seq (.seq (.ops [zM 7 0,
zN 8 7,
zF 9 8 0,
zL 10 9,
zP 11 .lenS [.t 10],
zP 12 .mov [.c (.int .i64 0)]])
(.block 0 (.loop L_act_Row_Left_0)))
(.seq (.ops [zM 24 2,
zM 2 24])
.ret))))⟩
abbrev f_act_Row_Left : Nat := 145
abbrev C_act_Row_Left : AFunc := C145
def C146 : AFunc := ⟨38, [.tmp 4],
(.seq (.ops [⟨some 3, none, .a .box, [.t 1]⟩,
zP 4 .mov [.c (.bool false)]])
(.seq (.seq (.ops [zM 5 0,
zN 6 5,
zF 7 6 11,
zL 8 7])
(.block 0 (.seq (.ops [zP 10 (.bin .eql) [.t 8, .c (.int .i64 2)],
zM 9 10])
(.cond (.t 9)
(.seq (.dops [zM 11 0,
zN 12 11,
zF 13 12 12,
zL 14 13,
zM 15 0,
zN 16 15,
zF 17 16 1,
zF 18 17 6,
zL 19 18,
zP 20 (.bin .geq) [.t 14, .t 19],
zM 4 20] [[], [], [], [], [], [], [], [], [], [], []])
.ret)
(.seq (.ops [zP 22 (.bin .eql) [.t 8, .c (.int .i64 1)],
zM 21 22])
(.cond (.t 21)
(.seq (.dops [zM 23 0,
zN 24 23,
zF 25 24 12,
zL 26 25,
zM 27 0,
zN 28 27,
zF 29 28 1,
zF 30 29 4,
zL 31 30,
zP 32 (.bin .geq) [.t 26, .t 31],
zM 33 32,
zFg 34 3 0 33 true,
zLg 35 34 33 true,
zPg 36 (.bin .eql) [.t 35, .c (.int .i64 1)] 33 true,
zP 37 .pick [.t 33, .t 36, .c (.bool false)],
zM 4 37] [[], [], [], [], [], [], [], [], [], [], [], [], [], [], [], []])
.ret)
.skip))))))
(.seq (.ops [zP 4 .mov [.c (.bool false)]])
.ret)))⟩
abbrev f_job_Job_over : Nat := 146
abbrev C_job_Job_over : AFunc := C146
def L_rank_Rank_Ids_0 : AC := (.seq (.ops [zP 21 (.bin .lss) [.t 20, .t 19]])
(.seq (.cond (.t 21)
.skip
(.exit 0))
(.seq (.block 1 (.seq (.ops [zP 22 (.iaddrS 2) [.t 18, .t 20],
⟨some 23, none, .r (.loadN 2), [.t 22]⟩,
⟨some 5, none, .a (.alloc [(.int .i64 0), (.int .i64 0)]), []⟩,
zS 2 [.t 5, .t 23]])
(.ops [zM 24 2,
zF 25 5 0,
zL 26 25,
⟨some 27, none, .a (.bslice [(.int .i64 0)] 1 1 [0]), [.t 26]⟩,
⟨some 28, none, .e (.append 1 8), [.t 24, .t 27]⟩,
zM 2 28])))
(.ops [zP 29 (.bin .add) [.t 20, .c (.int .i64 1)],
zM 20 29]))))
def C147 : AFunc := ⟨31, [.tmp 2],
(.seq (.ops [zP 2 .mov [.c .nils]])
(.seq (.seq (.ops [zM 6 0,
⟨some 7, none, .call, [.c (.func (.func 151) [] []), .t 6]⟩])
(.cond (.t 7)
(.seq (.ops [zP 2 .mov [.c .nils]])
.ret)
.skip))
(.seq (.ops [zM 8 0,
zN 9 8,
zF 10 9 0,
zL 11 10,
zN 12 11,
zF 13 12 0,
zL 14 13,
⟨some 15, none, .call, [.c (.func (.func 174) [] []), .t 14]⟩,
zM 3 15])
(.seq (.ops [zM 16 3,
⟨some 17, none, .call, [.c (.func (.func 175) [] []), .t 16, .c (.func (.func 176) [] [])]⟩])
(.seq (.seq (.ops [zM 18 3,
zP 19 .lenS [.t 18],
zP 20 .mov [.c (.int .i64 0)]])
(.block 0 (.loop L_rank_Rank_Ids_0)))
(.seq (.ops [zM 30 2,
zM 2 30])
.ret))))))⟩
abbrev f_rank_Rank_Ids : Nat := 147
abbrev C_rank_Rank_Ids : AFunc := C147
def C148 : AFunc := ⟨21, [.cell 2 3 true, .tmp 3],
(.seq (.ops [⟨some 2, none, .a (.alloc [(.int .i64 0), (.int .i64 0), (.str [])]), []⟩,
zP 3 .mov [.c (.bool false)]])
(.seq (.seq (.ops [zM 4 0,
⟨some 5, none, .call, [.c (.func (.func 161) [] []), .t 4]⟩,
zM 6 5,
zMg 7 0 6 false,
zNg 8 7 6 false,
zFg 9 8 0 6 false,
zLg 10 9 6 false,
zPg 11 .lenS [.t 10] 6 false,
zPg 12 (.bin .eql) [.t 11, .c (.int .i64 0)] 6 false,
zP 13 .pick [.t 6, .c (.bool true), .t 12]])
(.cond (.t 13)
(.seq (.ops [zP 14 (.build [(.int .i64 0), (.int .i64 0), (.str [])] []) [],
zS 3 [.t 2, .t 14],
zP 3 .mov [.c (.bool false)]])
.ret)
.skip))
(.seq (.ops [zM 15 0,
zN 16 15,
zF 17 16 0,
zL 18 17,
zP 19 (.iaddrS 3) [.t 18, .c (.int .i64 0)],
⟨some 20, none, .r (.loadN 3), [.t 19]⟩,
zS 3 [.t 2, .t 20],
zP 3 .mov [.c (.bool true)]])
.ret)))⟩
abbrev f_act_Row_Next : Nat := 148
abbrev C_act_Row_Next : AFunc := C148
def L_slices_IndexFunc_api_Task_api_Task_0 : AC := (.seq (.ops [zP 9 (.bin .lss) [.t 8, .t 7]])
(.seq (.cond (.t 9)
.skip
(.exit 0))
(.seq (.block 1 (.seq (.ops [zM 10 8,
zM 5 10])
(.seq (.ops [zM 11 1,
zM 12 0,
zM 13 5,
zP 14 (.iaddrS 8) [.t 12, .t 13],
⟨some 15, none, .r (.loadN 8), [.t 14]⟩,
⟨some 16, none, .call, [.t 11, .t 15]⟩])
(.cond (.t 16)
(.seq (.ops [zM 17 5,
zM 4 17])
.ret)
.skip))))
(.ops [zP 18 (.bin .add) [.t 8, .c (.int .i64 1)],
zM 8 18]))))
def C149 : AFunc := ⟨19, [.tmp 4],
(.seq (.ops [zP 4 .mov [.c (.int .i64 0)]])
(.seq (.seq (.ops [zM 6 0,
zP 7 .lenS [.t 6],
zP 8 .mov [.c (.int .i64 0)]])
(.block 0 (.loop L_slices_IndexFunc_api_Task_api_Task_0)))
(.seq (.ops [zP 4 .mov [.c (.int .i64 (-1))]])
.ret)))⟩
abbrev f_slices_IndexFunc_api_Task_api_Task : Nat := 149
abbrev C_slices_IndexFunc_api_Task_api_Task : AFunc := C149
def C150 : AFunc := ⟨8, [.tmp 3],
(.seq (.ops [⟨some 2, none, .a .box, [.t 0]⟩,
zP 3 .mov [.c (.bool false)]])
(.seq (.ops [zF 4 2 0,
zL 5 4,
zL 6 1,
zP 7 (.bin .eql) [.t 5, .t 6],
zM 3 7])
.ret))⟩
abbrev f_stack_of_1 : Nat := 150
abbrev C_stack_of_1 : AFunc := C150
def C151 : AFunc := ⟨12, [.tmp 2],
(.seq (.ops [zP 2 .mov [.c (.bool false)]])
(.seq (.ops [zM 3 0,
zP 4 (.eq .nilptr) [.t 3, .c .nilp],
zM 5 4,
zMg 6 0 5 false,
zNg 7 6 5 false,
zFg 8 7 0 5 false,
zLg 9 8 5 false,
zPg 10 (.eq .nilptr) [.t 9, .c .nilp] 5 false,
zP 11 .pick [.t 5, .c (.bool true), .t 10],
zM 2 11])
.ret))⟩
abbrev f_rank_Rank_none : Nat := 151
abbrev C_rank_Rank_none : AFunc := C151
def L_level_highest_api_Task_0 : AC := (.seq (.ops [zP 10 (.bin .lss) [.t 9, .t 8]])
(.seq (.cond (.t 10)
.skip
(.exit 0))
(.seq (.block 1 (.seq (.ops [zM 11 9,
zP 12 (.iaddrS 8) [.t 7, .t 9],
⟨some 13, none, .r (.loadN 8), [.t 12]⟩,
⟨some 6, none, .a (.alloc [(.int .i64 0), (.int .i64 0), (.int .i64 0), (.int .i64 0), (.int .i64 0), (.int .i64 0), (.int .i64 0), (.int .i64 0)]), []⟩,
zM 5 11,
zS 8 [.t 6, .t 13]])
(.ops [zM 14 4,
zM 15 1,
zM 16 5,
⟨some 17, none, .r (.loadN 8), [.t 6]⟩,
⟨some 18, none, .call, [.t 15, .t 16, .t 17]⟩,
zP 19 .mx [.t 14, .t 18],
zM 4 19])))
(.ops [zP 20 (.bin .add) [.t 9, .c (.int .i64 1)],
zM 9 20]))))
def C152 : AFunc := ⟨22, [.tmp 4],
(.seq (.ops [zP 4 .mov [.c (.int .i64 0)]])
(.seq (.seq (.ops [zM 7 0,
zP 8 .lenS [.t 7],
zP 9 .mov [.c (.int .i64 0)]])
(.block 0 (.loop L_level_highest_api_Task_0)))
(.seq (.ops [zM 21 4,
zM 4 21])
.ret)))⟩
abbrev f_level_highest_api_Task : Nat := 152
abbrev C_level_highest_api_Task : AFunc := C152
def C153 : AFunc := ⟨15, [.tmp 6],
(.seq (.ops [⟨some 5, none, .a .box, [.t 1]⟩,
zP 6 .mov [.c (.int .i64 0)]])
(.seq (.seq (.ops [zL 7 2,
zM 8 0,
zL 9 3,
⟨some 10, none, .call, [.c (.func (.func 137) [] []), .t 7, .t 8, .t 9]⟩,
zP 11 .not [.t 10]])
(.cond (.t 11)
(.seq (.ops [zP 6 .mov [.c (.int .i64 0)]])
.ret)
.skip))
(.seq (.ops [zL 12 2,
zM 13 0,
⟨some 14, none, .call, [.c (.func (.func 52) [] []), .t 12, .t 13]⟩,
zM 6 14])
.ret)))⟩
abbrev f_level_Ceiling_1 : Nat := 153
abbrev C_level_Ceiling_1 : AFunc := C153
def C161 : AFunc := ⟨12, [.tmp 2],
(.seq (.ops [zP 2 .mov [.c (.bool false)]])
(.seq (.ops [zM 3 0,
zP 4 (.eq .nilptr) [.t 3, .c .nilp],
zM 5 4,
zMg 6 0 5 false,
zNg 7 6 5 false,
zFg 8 7 1 5 false,
zLg 9 8 5 false,
zPg 10 .not [.t 9] 5 false,
zP 11 .pick [.t 5, .c (.bool true), .t 10],
zM 2 11])
.ret))⟩
abbrev f_act_Row_none : Nat := 161
abbrev C_act_Row_none : AFunc := C161
def C162 : AFunc := ⟨19, [.tmp 2],
(.seq (.ops [zP 2 .mov [.c (.bool false)]])
(.seq (.ops [zM 3 0,
zN 4 3,
zF 5 4 0,
zL 6 5,
zP 7 .lenS [.t 6],
zP 8 (.bin .gtr) [.t 7, .c (.int .i64 0)],
zM 9 8,
zMg 10 0 9 true,
zNg 11 10 9 true,
zFg 12 11 0 9 true,
zLg 13 12 9 true,
zPg 14 (.iaddrS 3) [.t 13, .c (.int .i64 0)] 9 true,
zFg 15 14 0 9 true,
zLg 16 15 9 true,
zPg 17 (.bin .eql) [.t 16, .c (.int .i64 1)] 9 true,
zP 18 .pick [.t 9, .t 17, .c (.bool false)],
zM 2 18])
.ret))⟩
abbrev f_act_Row_runs : Nat := 162
abbrev C_act_Row_runs : AFunc := C162
def C163 : AFunc := ⟨20, [],
(.dops [zM 2 0,
zM 3 0,
zN 4 3,
zF 5 4 0,
zL 6 5,
zM 7 0,
zN 8 7,
zF 9 8 0,
zL 10 9,
zP 11 .lenS [.t 10],
zM 12 0,
zN 13 12,
zF 14 13 0,
zL 15 14,
zP 16 .lenS [.t 15],
zP 17 (.slice 3 true true true) [.t 6, .c (.int .i64 1), .t 11, .t 16],
zN 18 2,
zF 19 18 0,
zS 1 [.t 19, .t 17]] [[], [], [], [], [], [], [], [], [], [], [], [], [], [], [], [], [], [], []])⟩
abbrev f_act_Row_on : Nat := 163
abbrev C_act_Row_on : AFunc := C163
def L_slices_IndexFunc_stack_entry_stack_entry_0 : AC := (.seq (.ops [zP 9 (.bin .lss) [.t 8, .t 7]])
(.seq (.cond (.t 9)
.skip
(.exit 0))
(.seq (.block 1 (.seq (.ops [zM 10 8,
zM 5 10])
(.seq (.ops [zM 11 1,
zM 12 0,
zM 13 5,
zP 14 (.iaddrS 2) [.t 12, .t 13],
⟨some 15, none, .r (.loadN 2), [.t 14]⟩,
⟨some 16, none, .call, [.t 11, .t 15]⟩])
(.cond (.t 16)
(.seq (.ops [zM 17 5,
zM 4 17])
.ret)
.skip))))
(.ops [zP 18 (.bin .add) [.t 8, .c (.int .i64 1)],
zM 8 18]))))
def C164 : AFunc := ⟨19, [.tmp 4],
(.seq (.ops [zP 4 .mov [.c (.int .i64 0)]])
(.seq (.seq (.ops [zM 6 0,
zP 7 .lenS [.t 6],
zP 8 .mov [.c (.int .i64 0)]])
(.block 0 (.loop L_slices_IndexFunc_stack_entry_stack_entry_0)))
(.seq (.ops [zP 4 .mov [.c (.int .i64 (-1))]])
.ret)))⟩
abbrev f_slices_IndexFunc_stack_entry_stack_entry : Nat := 164
abbrev C_slices_IndexFunc_stack_entry_stack_entry : AFunc := C164
def C165 : AFunc := ⟨4, [.tmp 2],
(.seq (.ops [⟨some 1, none, .a .box, [.t 0]⟩,
zP 2 .mov [.c .nilf]])
(.seq (.ops [zP 3 (.mkfunc (.func 180) 0) [.t 1],
zM 2 3])
.ret))⟩
abbrev f_slices_Backward_stack_entry_stack_entry : Nat := 165
abbrev C_slices_Backward_stack_entry_stack_entry : AFunc := C165
def C166 : AFunc := ⟨30, [.tmp 4, .tmp 5],
(.seq (.ops [zP 4 .mov [.c (.int .i64 0)],
zP 5 .mov [.c (.bool false)]])
(.seq (.seq (.ops [zM 6 0,
zM 7 1,
⟨some 8, none, .call, [.c (.func (.func 172) [] []), .t 6, .t 7]⟩,
zP 9 (.bin .neq) [.t 8, .c (.int .i64 0)]])
(.cond (.t 9)
(.seq (.ops [zP 4 .mov [.c (.int .i64 0)],
zP 5 .mov [.c (.bool false)]])
.ret)
.skip))
(.seq (.dops [zM 10 0,
zN 11 10,
zF 12 11 0,
zL 13 12,
zM 14 1,
zN 15 13,
zF 16 15 1,
zP 17 (.iaddrA 1 64) [.t 16, .t 14],
zL 18 17,
zP 19 (.bin .sub) [.t 18, .c (.int .i64 1)],
zM 20 0,
zN 21 20,
zF 22 21 0,
zL 23 22,
zM 24 1,
zN 25 23,
zF 26 25 1,
zP 27 (.iaddrA 1 64) [.t 26, .t 24],
zL 28 27,
zP 29 (.bin .gtr) [.t 28, .c (.int .i64 0)],
zM 4 19,
zM 5 29] [[], [], [], [], [], [], [], [], [], [], [], [], [], [], [], [], [], [], [], [], [], []])
.ret)))⟩
abbrev f_rank_Rank_at : Nat := 166
abbrev C_rank_Rank_at : AFunc := C166
def C167 : AFunc := ⟨60, [],
(.seq (.ops [zM 6 0,
zN 7 6,
zF 8 7 0,
zL 9 8,
zP 10 .lenS [.t 9],
zP 11 (.bin .sub) [.t 10, .c (.int .i64 1)],
zM 4 11])
(.seq (.ops [zM 12 0,
zN 13 12,
zF 14 13 0,
zL 15 14,
zM 16 4,
zP 17 (.iaddrS 2) [.t 15, .t 16],
⟨some 18, none, .r (.loadN 2), [.t 17]⟩,
⟨some 5, none, .a (.alloc [(.int .i64 0), (.int .i64 0)]), []⟩,
zS 2 [.t 5, .t 18]])
(.seq (.dops [zM 19 0,
zM 20 0,
zN 21 20,
zF 22 21 0,
zL 23 22,
zM 24 1,
zP 25 (.iaddrS 2) [.t 23, .t 24],
zF 26 25 0,
zL 27 26,
zN 28 19,
zF 29 28 1,
zP 30 (.iaddrA 1 64) [.t 29, .t 27],
zS 1 [.t 30, .c (.int .i64 0)]] [[], [], [], [], [], [], [], [], [], [], [], [], []])
(.seq (.ops [zM 31 0,
zM 32 0,
zN 33 32,
zF 34 33 0,
zL 35 34,
zM 36 4,
zP 37 (.slice 2 false true false) [.t 35, .t 36],
zN 38 31,
zF 39 38 0,
zS 1 [.t 39, .t 37]])
(.seq (.seq (.ops [zM 40 1,
zM 41 4,
zP 42 (.bin .eql) [.t 40, .t 41]])
(.cond (.t 42)
.ret
.skip))
(.seq (.ops [zM 43 0,
zM 44 1,
⟨some 45, none, .r (.loadN 2), [.t 5]⟩,
⟨some 46, none, .call, [.c (.func (.func 181) [] []), .t 43, .t 44, .t 45]⟩])
(.seq (.ops [zM 47 0,
zM 48 1,
⟨some 49, none, .call, [.c (.func (.func 173) [] []), .t 47, .t 48]⟩])
(.dops [zM 50 0,
zM 51 0,
zF 52 5 0,
zL 53 52,
zN 54 51,
zF 55 54 1,
zP 56 (.iaddrA 1 64) [.t 55, .t 53],
zL 57 56,
zP 58 (.bin .sub) [.t 57, .c (.int .i64 1)],
⟨some 59, none, .call, [.c (.func (.func 182) [] []), .t 50, .t 58]⟩] [[], [], [], [], [], [], [], [], [], []]))))))))⟩
abbrev f_rank_heaped_cut : Nat := 167
abbrev C_rank_heaped_cut : AFunc := C167
def C168 : AFunc := ⟨9, [.tmp 4],
(.seq (.ops [zP 4 .mov [.c (.bool false)]])
(.seq (.ops [zM 5 0,
zM 6 1,
⟨some 7, none, .call, [.c (.func (.func 183) [] []), .t 5, .t 6]⟩,
zP 8 (.bin .geq) [.t 7, .c (.int .i64 0)],
zM 4 8])
.ret))⟩
abbrev f_slices_ContainsFunc_api_Op_api_Op : Nat := 168
abbrev C_slices_ContainsFunc_api_Op_api_Op : AFunc := C168
def C169 : AFunc := ⟨6, [.tmp 2],
(.seq (.ops [⟨some 1, none, .a .box, [.t 0]⟩,
zP 2 .mov [.c (.bool false)]])
(.seq (.ops [⟨some 3, none, .r (.loadN 3), [.t 1]⟩,
⟨some 4, none, .call, [.c (.func (.func 170) [] []), .t 3]⟩,
zP 5 (.bin .neq) [.t 4, .c (.int .i64 0)],
zM 2 5])
.ret))⟩
abbrev f_act_New_1 : Nat := 169
abbrev C_act_New_1 : AFunc := C169
def C170 : AFunc := ⟨39, [.tmp 2],
(.seq (.ops [⟨some 1, none, .a .box, [.t 0]⟩,
zP 2 .mov [.c (.int .i64 0)]])
(.seq (.dops [⟨some 7, none, .call, [.c (.func (.func 184) [] [])]⟩,
zF 8 1 0,
zL 9 8,
⟨some 10, none, .r (.lookup true (.agg [(.int .i64 0), (.int .i64 0)])), [.t 7, .t 9]⟩,
zM 6 10,
zP 11 (.ext 0) [.t 6],
zP 12 (.ext 1) [.t 6],
⟨some 3, none, .a (.alloc [(.int .i64 0), (.int .i64 0)]), []⟩,
zS 2 [.t 3, .t 11],
zM 4 12] [[], [], [0, 1], [], [], [], [], [], [], []])
(.seq (.ops [zP 5 .mov [.c (.int .i64 0)]])
(.seq (.seq (.ops [zF 13 1 0,
zL 14 13,
zP 15 (.bin .eql) [.t 14, .c (.int .i64 6)]])
(.cond (.t 15)
(.ops [zP 5 .mov [.c (.int .i64 16)]])
.skip))
(.seq (.seq (.ops [zM 16 4,
zP 17 .not [.t 16],
zM 18 17,
zFg 19 1 1 18 false,
zLg 20 19 18 false,
zFg 21 3 0 18 false,
zLg 22 21 18 false,
zPg 23 (.bin .lss) [.t 20, .t 22] 18 false,
zP 24 .pick [.t 18, .c (.bool true), .t 23],
zM 25 24,
zFg 26 1 1 25 false,
zLg 27 26 25 false,
zFg 28 3 1 25 false,
zLg 29 28 25 false,
zPg 30 (.bin .gtr) [.t 27, .t 29] 25 false,
zP 31 .pick [.t 25, .c (.bool true), .t 30],
zM 32 31,
zFg 33 1 2 32 false,
zLg 34 33 32 false,
zPg 35 .lenStr [.t 34] 32 false,
zMg 36 5 32 false,
zPg 37 (.bin .gtr) [.t 35, .t 36] 32 false,
zP 38 .pick [.t 32, .c (.bool true), .t 37]])
(.cond (.t 38)
(.seq (.ops [zP 2 .mov [.c (.int .i64 2)]])
.ret)
.skip))
(.seq (.ops [zP 2 .mov [.c (.int .i64 0)]])
.ret))))))⟩
abbrev f_act_Check : Nat := 170
abbrev C_act_Check : AFunc := C170
def C171 : AFunc := ⟨8, [.tmp 2],
(.seq (.ops [zP 2 .mov [.c .nils]])
(.seq (.seq (.ops [zM 3 0,
zP 4 (.eq .nilsl) [.t 3, .c .nils]])
(.cond (.t 4)
(.seq (.ops [zP 2 .mov [.c .nils]])
.ret)
.skip))
(.seq (.ops [⟨some 5, none, .a (.bslice [(.int .i64 0), (.int .i64 0), (.str [])] 0 3 []), []⟩,
zM 6 0,
⟨some 7, none, .e (.append 3 32), [.t 5, .t 6]⟩,
zM 2 7])
.ret)))⟩
abbrev f_slices_Clone_api_Op_api_Op : Nat := 171
abbrev C_slices_Clone_api_Op_api_Op : AFunc := C171
def C172 : AFunc := ⟨15, [.tmp 4],
(.seq (.ops [zP 4 .mov [.c (.int .i64 0)]])
(.seq (.block 0 (.seq (.ops [zM 6 0,
⟨some 7, none, .call, [.c (.func (.func 151) [] []), .t 6]⟩,
zM 5 7])
(.cond (.t 5)
(.seq (.ops [zP 4 .mov [.c (.int .i64 1)]])
.ret)
(.seq (.ops [zM 9 1,
zP 10 (.bin .lss) [.t 9, .c (.int .i64 0)],
zM 11 10,
zMg 12 1 11 false,
zPg 13 (.bin .geq) [.t 12, .c (.int .i64 64)] 11 false,
zP 14 .pick [.t 11, .c (.bool true), .t 13],
zM 8 14])
(.cond (.t 8)
(.seq (.ops [zP 4 .mov [.c (.int .i64 9)]])
.ret)
.skip)))))
(.seq (.ops [zP 4 .mov [.c (.int .i64 0)]])
.ret)))⟩
abbrev f_rank_Rank_asked : Nat := 172
abbrev C_rank_Rank_asked : AFunc := C172
def L_rank_heaped_up_0 : AC := (.seq (.seq (.dops [zM 12 1,
zP 13 (.bin .gtr) [.t 12, .c (.int .i64 0)],
zM 14 13,
⟨some 15, some (14, true), .r (.loadN 2), [.t 4]⟩,
zMg 16 0 14 true,
zNg 17 16 14 true,
zFg 18 17 0 14 true,
zLg 19 18 14 true,
zMg 20 1 14 true,
zPg 21 (.bin .sub) [.t 20, .c (.int .i64 1)] 14 true,
zPg 22 (.bin .quo) [.t 21, .c (.int .i64 2)] 14 true,
zPg 23 (.iaddrS 2) [.t 19, .t 22] 14 true,
⟨some 24, some (14, true), .r (.loadN 2), [.t 23]⟩,
⟨some 25, some (14, true), .call, [.c (.func (.func 185) [] []), .t 15, .t 24]⟩,
zP 26 .pick [.t 14, .t 25, .c (.bool false)]] [[], [], [], [], [], [], [], [], [], [], [], [], [], [], []])
(.cond (.t 26)
.skip
(.exit 0)))
(.block 1 (.seq (.ops [zM 27 0,
zM 28 1,
zM 29 0,
zN 30 29,
zF 31 30 0,
zL 32 31,
zM 33 1,
zP 34 (.bin .sub) [.t 33, .c (.int .i64 1)],
zP 35 (.bin .quo) [.t 34, .c (.int .i64 2)],
zP 36 (.iaddrS 2) [.t 32, .t 35],
⟨some 37, none, .r (.loadN 2), [.t 36]⟩,
⟨some 38, none, .call, [.c (.func (.func 181) [] []), .t 27, .t 28, .t 37]⟩])
(.ops [zM 39 1,
zP 40 (.bin .sub) [.t 39, .c (.int .i64 1)],
zP 41 (.bin .quo) [.t 40, .c (.int .i64 2)],
zM 1 41]))))
def C173 : AFunc := ⟨46, [],
(.seq (.ops [zM 5 0,
zN 6 5,
zF 7 6 0,
zL 8 7,
zM 9 1,
zP 10 (.iaddrS 2) [.t 8, .t 9],
⟨some 11, none, .r (.loadN 2), [.t 10]⟩,
⟨some 4, none, .a (.alloc [(.int .i64 0), (.int .i64 0)]), []⟩,
zS 2 [.t 4, .t 11]])
(.seq (.block 0 (.loop L_rank_heaped_up_0))
(.ops [zM 42 0,
zM 43 1,
⟨some 44, none, .r (.loadN 2), [.t 4]⟩,
⟨some 45, none, .call, [.c (.func (.func 181) [] []), .t 42, .t 43, .t 44]⟩])))⟩
abbrev f_rank_heaped_up : Nat := 173
abbrev C_rank_heaped_up : AFunc := C173
def C174 : AFunc := ⟨8, [.tmp 2],
(.seq (.ops [zP 2 .mov [.c .nils]])
(.seq (.seq (.ops [zM 3 0,
zP 4 (.eq .nilsl) [.t 3, .c .nils]])
(.cond (.t 4)
(.seq (.ops [zP 2 .mov [.c .nils]])
.ret)
.skip))
(.seq (.ops [⟨some 5, none, .a (.bslice [(.int .i64 0), (.int .i64 0)] 0 2 []), []⟩,
zM 6 0,
⟨some 7, none, .e (.append 2 16), [.t 5, .t 6]⟩,
zM 2 7])
.ret)))⟩
abbrev f_slices_Clone_rank_one_rank_one : Nat := 174
abbrev C_slices_Clone_rank_one_rank_one : AFunc := C174
def C175 : AFunc := ⟨14, [],
(.seq (.ops [zM 5 0,
zP 6 .lenS [.t 5],
zM 4 6])
(.ops [zM 7 0,
zM 8 4,
zM 9 4,
zP 10 (.conv .u64) [.t 9],
⟨some 11, none, .call, [.c (.func (.func 187) [] []), .t 10]⟩,
zM 12 1,
⟨some 13, none, .call, [.c (.func (.func 186) [] []), .t 7, .c (.int .i64 0), .t 8, .t 11, .t 12]⟩]))⟩
abbrev f_slices_SortFunc_rank_one_rank_one : Nat := 175
abbrev C_slices_SortFunc_rank_one_rank_one : AFunc := C175
def C176 : AFunc := ⟨17, [.tmp 4],
(.seq (.ops [⟨some 2, none, .a .box, [.t 0]⟩,
⟨some 3, none, .a .box, [.t 1]⟩,
zP 4 .mov [.c (.int .i64 0)]])
(.seq (.dops [zF 5 2 1,
zL 6 5,
zF 7 3 1,
zL 8 7,
⟨some 9, none, .call, [.c (.func (.func 178) [] []), .t 6, .t 8]⟩,
zF 10 2 0,
zL 11 10,
zF 12 3 0,
zL 13 12,
⟨some 14, none, .call, [.c (.func (.func 178) [] []), .t 11, .t 13]⟩,
⟨some 15, none, .a (.bslice [(.int .i64 0)] 2 1 [0, 1]), [.t 9, .t 14]⟩,
⟨some 16, none, .call, [.c (.func (.func 177) [] []), .t 15]⟩,
zM 4 16] [[], [], [], [], [], [], [0, 5], [], [0, 5], [], [], [], []])
.ret))⟩
abbrev f_rank_Rank_Ids_1 : Nat := 176
abbrev C_rank_Rank_Ids_1 : AFunc := C176
def L_cmp_Or_int_0 : AC := (.seq (.ops [zP 9 (.bin .lss) [.t 8, .t 7]])
(.seq (.cond (.t 9)
.skip
(.exit 0))
(.seq (.block 1 (.seq (.ops [zP 10 (.iaddrS 1) [.t 6, .t 8],
zL 11 10,
zM 5 11])
(.seq (.ops [zM 12 5,
zM 13 3,
zP 14 (.bin .neq) [.t 12, .t 13]])
(.cond (.t 14)
(.seq (.ops [zM 15 5,
zM 2 15])
.ret)
.skip))))
(.ops [zP 16 (.bin .add) [.t 8, .c (.int .i64 1)],
zM 8 16]))))
def C177 : AFunc := ⟨18, [.tmp 2],
(.seq (.ops [zP 2 .mov [.c (.int .i64 0)]])
(.seq (.ops [zP 3 .mov [.c (.int .i64 0)]])
(.seq (.seq (.ops [zM 6 0,
zP 7 .lenS [.t 6],
zP 8 .mov [.c (.int .i64 0)]])
(.block 0 (.loop L_cmp_Or_int_0)))
(.seq (.ops [zM 17 3,
zM 2 17])
.ret))))⟩
abbrev f_cmp_Or_int : Nat := 177
abbrev C_cmp_Or_int : AFunc := C177
def C178 : AFunc := ⟨20, [.tmp 4],
(.seq (.ops [zP 4 .mov [.c (.int .i64 0)]])
(.seq (.ops [zM 7 0,
⟨some 8, none, .call, [.c (.func (.func 188) [] []), .t 7]⟩,
zM 5 8])
(.seq (.ops [zM 9 1,
⟨some 10, none, .call, [.c (.func (.func 188) [] []), .t 9]⟩,
zM 6 10])
(.seq (.seq (.ops [zM 11 5])
(.cond (.t 11)
(.seq (.seq (.ops [zM 12 6])
(.cond (.t 12)
(.seq (.ops [zP 4 .mov [.c (.int .i64 0)]])
.ret)
.skip))
(.seq (.ops [zP 4 .mov [.c (.int .i64 (-1))]])
.ret))
.skip))
(.seq (.seq (.ops [zM 13 6])
(.cond (.t 13)
(.seq (.ops [zP 4 .mov [.c (.int .i64 1)]])
.ret)
.skip))
(.seq (.seq (.ops [zM 14 0,
zM 15 1,
zP 16 (.bin .lss) [.t 14, .t 15]])
(.cond (.t 16)
(.seq (.ops [zP 4 .mov [.c (.int .i64 (-1))]])
.ret)
.skip))
(.seq (.seq (.ops [zM 17 0,
zM 18 1,
zP 19 (.bin .gtr) [.t 17, .t 18]])
(.cond (.t 19)
(.seq (.ops [zP 4 .mov [.c (.int .i64 1)]])
.ret)
.skip))
(.seq (.ops [zP 4 .mov [.c (.int .i64 0)]])
.ret))))))))⟩
abbrev f_cmp_Compare_int : Nat := 178
abbrev C_cmp_Compare_int : AFunc := C178
def L_slices_Backward_stack_entry_stack_entry_1_0 : AC := (.seq (.seq (.ops [zM 7 3,
zP 8 (.bin .geq) [.t 7, .c (.int .i64 0)]])
(.cond (.t 8)
.skip
(.exit 0)))
(.seq (.block 1 (.seq (.ops [zM 11 0,
zM 12 3,
zL 13 1,
zM 14 3,
zP 15 (.iaddrS 2) [.t 13, .t 14],
⟨some 16, none, .r (.loadN 2), [.t 15]⟩,
⟨some 17, none, .call, [.t 11, .t 12, .t 16]⟩,
zP 18 .not [.t 17]])
(.cond (.t 18)
.ret
.skip)))
(.ops [zM 9 3,
zP 10 (.bin .sub) [.t 9, .c (.int .i64 1)],
zM 3 10])))
def C180 : AFunc := ⟨19, [],
(.seq (.ops [zL 4 1,
zP 5 .lenS [.t 4],
zP 6 (.bin .sub) [.t 5, .c (.int .i64 1)],
zM 3 6])
(.block 0 (.loop L_slices_Backward_stack_entry_stack_entry_1_0)))⟩
abbrev f_slices_Backward_stack_entry_stack_entry_1 : Nat := 180
abbrev C_slices_Backward_stack_entry_stack_entry_1 : AFunc := C180
def C181 : AFunc := ⟨21, [],
(.seq (.ops [⟨some 5, none, .a .box, [.t 2]⟩])
(.seq (.dops [zM 6 0,
zN 7 6,
zF 8 7 0,
zL 9 8,
zM 10 1,
⟨some 11, none, .r (.loadN 2), [.t 5]⟩,
zP 12 (.iaddrS 2) [.t 9, .t 10],
zS 2 [.t 12, .t 11]] [[], [], [], [], [], [], [], []])
(.dops [zM 13 0,
zF 14 5 0,
zL 15 14,
zM 16 1,
zP 17 (.bin .add) [.t 16, .c (.int .i64 1)],
zN 18 13,
zF 19 18 1,
zP 20 (.iaddrA 1 64) [.t 19, .t 15],
zS 1 [.t 20, .t 17]] [[], [], [], [], [], [], [], [], []])))⟩
abbrev f_rank_heaped_lay : Nat := 181
abbrev C_rank_heaped_lay : AFunc := C181
def L_rank_heaped_down_0 : AC := (.block 1 (.seq (.ops [zM 13 1,
zP 14 (.bin .mul) [.c (.int .i64 2), .t 13],
zP 15 (.bin .add) [.t 14, .c (.int .i64 1)],
zM 5 15])
(.seq (.seq (.dops [zM 16 5,
zP 17 (.bin .add) [.t 16, .c (.int .i64 1)],
zM 18 0,
zN 19 18,
zF 20 19 0,
zL 21 20,
zP 22 .lenS [.t 21],
zP 23 (.bin .lss) [.t 17, .t 22],
zM 24 23,
zMg 25 0 24 true,
zNg 26 25 24 true,
zFg 27 26 0 24 true,
zLg 28 27 24 true,
zMg 29 5 24 true,
zPg 30 (.bin .add) [.t 29, .c (.int .i64 1)] 24 true,
zPg 31 (.iaddrS 2) [.t 28, .t 30] 24 true,
⟨some 32, some (24, true), .r (.loadN 2), [.t 31]⟩,
zMg 33 0 24 true,
zNg 34 33 24 true,
zFg 35 34 0 24 true,
zLg 36 35 24 true,
zMg 37 5 24 true,
zPg 38 (.iaddrS 2) [.t 36, .t 37] 24 true,
⟨some 39, some (24, true), .r (.loadN 2), [.t 38]⟩,
⟨some 40, some (24, true), .call, [.c (.func (.func 185) [] []), .t 32, .t 39]⟩,
zP 41 .pick [.t 24, .t 40, .c (.bool false)]] [[], [], [], [], [], [], [], [], [], [], [], [], [], [], [], [], [], [], [], [], [], [], [], [], [], []])
(.cond (.t 41)
(.ops [zM 42 5,
zP 43 (.bin .add) [.t 42, .c (.int .i64 1)],
zM 5 43])
.skip))
(.seq (.seq (.dops [zM 44 5,
zM 45 0,
zN 46 45,
zF 47 46 0,
zL 48 47,
zP 49 .lenS [.t 48],
zP 50 (.bin .geq) [.t 44, .t 49],
zM 51 50,
zMg 52 0 51 false,
zNg 53 52 51 false,
zFg 54 53 0 51 false,
zLg 55 54 51 false,
zMg 56 5 51 false,
zPg 57 (.iaddrS 2) [.t 55, .t 56] 51 false,
⟨some 58, some (51, false), .r (.loadN 2), [.t 57]⟩,
⟨some 59, some (51, false), .r (.loadN 2), [.t 4]⟩,
⟨some 60, some (51, false), .call, [.c (.func (.func 185) [] []), .t 58, .t 59]⟩,
zPg 61 .not [.t 60] 51 false,
zP 62 .pick [.t 51, .c (.bool true), .t 61]] [[], [], [], [], [], [], [], [], [], [], [], [], [], [], [], [], [], [], []])
(.cond (.t 62)
(.exit 0)
.skip))
(.seq (.ops [zM 63 0,
zM 64 1,
zM 65 0,
zN 66 65,
zF 67 66 0,
zL 68 67,
zM 69 5,
zP 70 (.iaddrS 2) [.t 68, .t 69],
⟨some 71, none, .r (.loadN 2), [.t 70]⟩,
⟨some 72, none, .call, [.c (.func (.func 181) [] []), .t 63, .t 64, .t 71]⟩])
(.ops [zM 73 5,
zM 1 73]))))))
def C182 : AFunc := ⟨78, [],
(.seq (.ops [zM 6 0,
zN 7 6,
zF 8 7 0,
zL 9 8,
zM 10 1,
zP 11 (.iaddrS 2) [.t 9, .t 10],
⟨some 12, none, .r (.loadN 2), [.t 11]⟩,
⟨some 4, none, .a (.alloc [(.int .i64 0), (.int .i64 0)]), []⟩,
zS 2 [.t 4, .t 12]])
(.seq (.block 0 (.loop L_rank_heaped_down_0))
(.ops [zM 74 0,
zM 75 1,
⟨some 76, none, .r (.loadN 2), [.t 4]⟩,
⟨some 77, none, .call, [.c (.func (.func 181) [] []), .t 74, .t 75, .t 76]⟩])))⟩
abbrev f_rank_heaped_down : Nat := 182
abbrev C_rank_heaped_down : AFunc := C182
def L_slices_IndexFunc_api_Op_api_Op_0 : AC := (.seq (.ops [zP 9 (.bin .lss) [.t 8, .t 7]])
(.seq (.cond (.t 9)
.skip
(.exit 0))
(.seq (.block 1 (.seq (.ops [zM 10 8,
zM 5 10])
(.seq (.ops [zM 11 1,
zM 12 0,
zM 13 5,
zP 14 (.iaddrS 3) [.t 12, .t 13],
⟨some 15, none, .r (.loadN 3), [.t 14]⟩,
⟨some 16, none, .call, [.t 11, .t 15]⟩])
(.cond (.t 16)
(.seq (.ops [zM 17 5,
zM 4 17])
.ret)
.skip))))
(.ops [zP 18 (.bin .add) [.t 8, .c (.int .i64 1)],
zM 8 18]))))
def C183 : AFunc := ⟨19, [.tmp 4],
(.seq (.ops [zP 4 .mov [.c (.int .i64 0)]])
(.seq (.seq (.ops [zM 6 0,
zP 7 .lenS [.t 6],
zP 8 .mov [.c (.int .i64 0)]])
(.block 0 (.loop L_slices_IndexFunc_api_Op_api_Op_0)))
(.seq (.ops [zP 4 .mov [.c (.int .i64 (-1))]])
.ret)))⟩
abbrev f_slices_IndexFunc_api_Op_api_Op : Nat := 183
abbrev C_slices_IndexFunc_api_Op_api_Op : AFunc := C183
def C184 : AFunc := ⟨15, [.tmp 0],
(.seq (.ops [zP 0 .mov [.c .nilm]])
(.seq (.ops [zP 3 (.build [(.int .i64 0), (.int .i64 0)] [(0, 1), (1, 1)]) [.c (.int .i64 1), .c (.int .i64 64)],
zP 4 (.build [(.int .i64 0), (.int .i64 0)] [(0, 1), (1, 1)]) [.c (.int .i64 0), .c (.int .i64 7)],
⟨some 1, none, .a (.alloc [(.int .i64 0), (.int .i64 0)]), []⟩,
⟨some 2, none, .a (.alloc [(.int .i64 0), (.int .i64 0)]), []⟩,
zS 2 [.t 1, .t 3],
zS 2 [.t 2, .t 4]])
(.seq (.ops [⟨some 5, none, .a .mkmap, []⟩,
⟨some 6, none, .r (.loadN 2), [.t 1]⟩,
⟨none, none, .e .ins, [.t 5, .c (.int .i64 1), .t 6]⟩,
⟨some 7, none, .r (.loadN 2), [.t 1]⟩,
⟨none, none, .e .ins, [.t 5, .c (.int .i64 8), .t 7]⟩,
⟨some 8, none, .r (.loadN 2), [.t 2]⟩,
⟨none, none, .e .ins, [.t 5, .c (.int .i64 2), .t 8]⟩,
⟨some 9, none, .r (.loadN 2), [.t 2]⟩,
⟨none, none, .e .ins, [.t 5, .c (.int .i64 6), .t 9]⟩,
⟨some 10, none, .r (.loadN 2), [.t 2]⟩,
⟨none, none, .e .ins, [.t 5, .c (.int .i64 7), .t 10]⟩,
zP 11 (.build [(.int .i64 0), (.int .i64 0)] []) [],
⟨none, none, .e .ins, [.t 5, .c (.int .i64 3), .t 11]⟩,
zP 12 (.build [(.int .i64 0), (.int .i64 0)] []) [],
⟨none, none, .e .ins, [.t 5, .c (.int .i64 4), .t 12]⟩,
zP 13 (.build [(.int .i64 0), (.int .i64 0)] []) [],
⟨none, none, .e .ins, [.t 5, .c (.int .i64 5), .t 13]⟩,
zM 14 5,
zM 0 14])
.ret)))⟩
abbrev f_act_spans : Nat := 184
abbrev C_act_spans : AFunc := C184
def C185 : AFunc := ⟨24, [.tmp 4],
(.seq (.ops [⟨some 2, none, .a .box, [.t 0]⟩,
⟨some 3, none, .a .box, [.t 1]⟩,
zP 4 .mov [.c (.bool false)]])
(.seq (.ops [zF 5 2 1,
zL 6 5,
zF 7 3 1,
zL 8 7,
zP 9 (.bin .lss) [.t 6, .t 8],
zM 10 9,
zFg 11 2 1 10 false,
zLg 12 11 10 false,
zFg 13 3 1 10 false,
zLg 14 13 10 false,
zPg 15 (.bin .eql) [.t 12, .t 14] 10 false,
zMg 16 15 10 false,
zFg 17 2 0 16 true,
zLg 18 17 16 true,
zFg 19 3 0 16 true,
zLg 20 19 16 true,
zPg 21 (.bin .lss) [.t 18, .t 20] 16 true,
zPg 22 .pick [.t 16, .t 21, .c (.bool false)] 10 false,
zP 23 .pick [.t 10, .c (.bool true), .t 22],
zM 4 23])
.ret))⟩
abbrev f_rank_one_ahead : Nat := 185
abbrev C_rank_one_ahead : AFunc := C185
def L_slices_pdqsortCmpFunc_rank_one_0 : AC := (.block 1 (.seq (.ops [zM 21 2,
zM 22 1,
zP 23 (.bin .sub) [.t 21, .t 22],
zM 12 23])
(.seq (.seq (.ops [zM 24 12,
zP 25 (.bin .leq) [.t 24, .c (.int .i64 12)]])
(.cond (.t 25)
(.seq (.ops [zM 26 0,
zM 27 1,
zM 28 2,
zM 29 4,
⟨some 30, none, .call, [.c (.func (.func 189) [] []), .t 26, .t 27, .t 28, .t 29]⟩])
.ret)
.skip))
(.seq (.seq (.ops [zM 31 3,
zP 32 (.bin .eql) [.t 31, .c (.int .i64 0)]])
(.cond (.t 32)
(.seq (.ops [zM 33 0,
zM 34 1,
zM 35 2,
zM 36 4,
⟨some 37, none, .call, [.c (.func (.func 190) [] []), .t 33, .t 34, .t 35, .t 36]⟩])
.ret)
.skip))
(.seq (.seq (.ops [zM 38 10,
zP 39 .not [.t 38]])
(.cond (.t 39)
(.seq (.ops [zM 40 0,
zM 41 1,
zM 42 2,
zM 43 4,
⟨some 44, none, .call, [.c (.func (.func 191) [] []), .t 40, .t 41, .t 42, .t 43]⟩])
(.ops [zM 45 3,
zP 46 (.bin .sub) [.t 45, .c (.int .i64 1)],
zM 3 46]))
.skip))
(.seq (.ops [zM 48 0,
zM 49 1,
zM 50 2,
zM 51 4,
⟨some 52, none, .call, [.c (.func (.func 192) [] []), .t 48, .t 49, .t 50, .t 51]⟩,
zM 47 52,
zP 53 (.ext 0) [.t 47],
zP 54 (.ext 1) [.t 47],
zM 13 53,
zM 14 54])
(.seq (.seq (.ops [zM 55 14,
zP 56 (.bin .eql) [.t 55, .c (.int .i64 2)]])
(.cond (.t 56)
(.seq (.ops [zM 57 0,
zM 58 1,
zM 59 2,
zM 60 4,
⟨some 61, none, .call, [.c (.func (.func 193) [] []), .t 57, .t 58, .t 59, .t 60]⟩])
(.seq (.ops [zM 62 2,
zP 63 (.bin .sub) [.t 62, .c (.int .i64 1)],
zM 64 13,
zM 65 1,
zP 66 (.bin .sub) [.t 64, .t 65],
zP 67 (.bin .sub) [.t 63, .t 66],
zM 13 67])
(.ops [zP 14 .mov [.c (.int .i64 1)]])))
.skip))
(.seq (.seq (.ops [zM 68 10,
zM 69 68,
zMg 70 11 69 true,
zP 71 .pick [.t 69, .t 70, .c (.bool false)],
zM 72 71,
zMg 73 14 72 true,
zPg 74 (.bin .eql) [.t 73, .c (.int .i64 1)] 72 true,
zP 75 .pick [.t 72, .t 74, .c (.bool false)]])
(.cond (.t 75)
(.seq (.ops [zM 76 0,
zM 77 1,
zM 78 2,
zM 79 4,
⟨some 80, none, .call, [.c (.func (.func 194) [] []), .t 76, .t 77, .t 78, .t 79]⟩])
(.cond (.t 80)
.ret
.skip))
.skip))
(.seq (.seq (.dops [zM 81 1,
zP 82 (.bin .gtr) [.t 81, .c (.int .i64 0)],
zM 83 82,
zMg 84 4 83 true,
zMg 85 0 83 true,
zMg 86 1 83 true,
zPg 87 (.bin .sub) [.t 86, .c (.int .i64 1)] 83 true,
zPg 88 (.iaddrS 2) [.t 85, .t 87] 83 true,
⟨some 89, some (83, true), .r (.loadN 2), [.t 88]⟩,
zMg 90 0 83 true,
zMg 91 13 83 true,
zPg 92 (.iaddrS 2) [.t 90, .t 91] 83 true,
⟨some 93, some (83, true), .r (.loadN 2), [.t 92]⟩,
⟨some 94, some (83, true), .call, [.t 84, .t 89, .t 93]⟩,
zPg 95 (.bin .lss) [.t 94, .c (.int .i64 0)] 83 true,
zPg 96 .not [.t 95] 83 true,
zP 97 .pick [.t 83, .t 96, .c (.bool false)]] [[], [], [], [], [], [], [], [], [], [], [], [], [], [], [], [], []])
(.cond (.t 97)
(.seq (.ops [zM 98 0,
zM 99 1,
zM 100 2,
zM 101 13,
zM 102 4,
⟨some 103, none, .call, [.c (.func (.func 195) [] []), .t 98, .t 99, .t 100, .t 101, .t 102]⟩,
zM 15 103])
(.seq (.ops [zM 104 15,
zM 1 104])
(.exit 1)))
.skip))
(.seq (.ops [zM 106 0,
zM 107 1,
zM 108 2,
zM 109 13,
zM 110 4,
⟨some 111, none, .call, [.c (.func (.func 196) [] []), .t 106, .t 107, .t 108, .t 109, .t 110]⟩,
zM 105 111,
zP 112 (.ext 0) [.t 105],
zP 113 (.ext 1) [.t 105],
zM 16 112,
zM 17 113])
(.seq (.ops [zM 114 17,
zM 11 114])
(.seq (.ops [zM 115 16,
zM 116 1,
zP 117 (.bin .sub) [.t 115, .t 116],
zM 118 2,
zM 119 16,
zP 120 (.bin .sub) [.t 118, .t 119],
zM 18 117,
zM 19 120])
(.seq (.ops [zM 121 12,
zP 122 (.bin .quo) [.t 121, .c (.int .i64 8)],
zM 20 122])
(.seq (.ops [zM 123 18,
zM 124 19,
zP 125 (.bin .lss) [.t 123, .t 124]])
(.cond (.t 125)
(.seq (.ops [zM 126 18,
zM 127 20,
zP 128 (.bin .geq) [.t 126, .t 127],
zM 10 128])
(.seq (.ops [zM 129 0,
zM 130 1,
zM 131 16,
zM 132 3,
zM 133 4,
⟨some 134, none, .call, [.c (.func (.func 186) [] []), .t 129, .t 130, .t 131, .t 132, .t 133]⟩])
(.ops [zM 135 16,
zP 136 (.bin .add) [.t 135, .c (.int .i64 1)],
zM 1 136])))
(.seq (.ops [zM 137 19,
zM 138 20,
zP 139 (.bin .geq) [.t 137, .t 138],
zM 10 139])
(.seq (.ops [zM 140 0,
zM 141 16,
zP 142 (.bin .add) [.t 141, .c (.int .i64 1)],
zM 143 2,
zM 144 3,
zM 145 4,
⟨some 146, none, .call, [.c (.func (.func 186) [] []), .t 140, .t 142, .t 143, .t 144, .t 145]⟩])
(.ops [zM 147 16,
zM 2 147]))))))))))))))))))
def C186 : AFunc := ⟨148, [],
(.seq (.ops [zP 10 .mov [.c (.bool true)]])
(.seq (.ops [zP 11 .mov [.c (.bool true)]])
(.block 0 (.loop L_slices_pdqsortCmpFunc_rank_one_0))))⟩
abbrev f_slices_pdqsortCmpFunc_rank_one : Nat := 186
abbrev C_slices_pdqsortCmpFunc_rank_one : AFunc := C186
def C187 : AFunc := ⟨8, [.tmp 2],
(.seq (.ops [zP 2 .mov [.c (.int .i64 0)]])
(.seq (.cond (.c (.bool false))
(.seq (.ops [zM 3 0,
zP 4 (.conv .u32) [.t 3],
⟨some 5, none, .call, [.c (.func (.func 197) [] []), .t 4]⟩,
zM 2 5])
.ret)
.skip)
(.seq (.ops [zM 6 0,
⟨some 7, none, .call, [.c (.func (.func 198) [] []), .t 6]⟩,
zM 2 7])
.ret)))⟩
abbrev f_math_bits_Len : Nat := 187
abbrev C_math_bits_Len : AFunc := C187
def C188 : AFunc := ⟨6, [.tmp 2],
(.seq (.ops [zP 2 .mov [.c (.bool false)]])
(.seq (.ops [zM 3 0,
zM 4 0,
zP 5 (.bin .neq) [.t 3, .t 4],
zM 2 5])
.ret))⟩
abbrev f_cmp_isNaN_int : Nat := 188
abbrev C_cmp_isNaN_int : AFunc := C188
def L_slices_insertionSortCmpFunc_rank_one_1 : AC := (.seq (.seq (.dops [zM 18 9,
zM 19 1,
zP 20 (.bin .gtr) [.t 18, .t 19],
zM 21 20,
zMg 22 3 21 true,
zMg 23 0 21 true,
zMg 24 9 21 true,
zPg 25 (.iaddrS 2) [.t 23, .t 24] 21 true,
⟨some 26, some (21, true), .r (.loadN 2), [.t 25]⟩,
zMg 27 0 21 true,
zMg 28 9 21 true,
zPg 29 (.bin .sub) [.t 28, .c (.int .i64 1)] 21 true,
zPg 30 (.iaddrS 2) [.t 27, .t 29] 21 true,
⟨some 31, some (21, true), .r (.loadN 2), [.t 30]⟩,
⟨some 32, some (21, true), .call, [.t 22, .t 26, .t 31]⟩,
zPg 33 (.bin .lss) [.t 32, .c (.int .i64 0)] 21 true,
zP 34 .pick [.t 21, .t 33, .c (.bool false)]] [[], [], [], [], [], [], [], [], [], [], [], [], [], [], [], [], []])
(.cond (.t 34)
.skip
(.exit 2)))
(.seq (.block 3 (.dops [zM 37 0,
zM 38 9,
zM 39 0,
zM 40 9,
zP 41 (.bin .sub) [.t 40, .c (.int .i64 1)],
zM 42 0,
zM 43 9,
zP 44 (.bin .sub) [.t 43, .c (.int .i64 1)],
zP 45 (.iaddrS 2) [.t 42, .t 44],
⟨some 46, none, .r (.loadN 2), [.t 45]⟩,
zM 47 0,
zM 48 9,
zP 49 (.iaddrS 2) [.t 47, .t 48],
⟨some 50, none, .r (.loadN 2), [.t 49]⟩,
zP 51 (.iaddrS 2) [.t 37, .t 38],
zS 2 [.t 51, .t 46],
zP 52 (.iaddrS 2) [.t 39, .t 41],
zS 2 [.t 52, .t 50]] [[], [], [], [], [], [], [], [], [], [], [], [], [], [], [], [], [], []]))
(.ops [zM 35 9,
zP 36 (.bin .sub) [.t 35, .c (.int .i64 1)],
zM 9 36])))
def L_slices_insertionSortCmpFunc_rank_one_0 : AC := (.seq (.seq (.ops [zM 12 8,
zM 13 2,
zP 14 (.bin .lss) [.t 12, .t 13]])
(.cond (.t 14)
.skip
(.exit 0)))
(.seq (.block 1 (.seq (.ops [zM 17 8,
zM 9 17])
(.block 2 (.loop L_slices_insertionSortCmpFunc_rank_one_1))))
(.ops [zM 15 8,
zP 16 (.bin .add) [.t 15, .c (.int .i64 1)],
zM 8 16])))
def C189 : AFunc := ⟨53, [],
(.seq (.ops [zM 10 1,
zP 11 (.bin .add) [.t 10, .c (.int .i64 1)],
zM 8 11])
(.block 0 (.loop L_slices_insertionSortCmpFunc_rank_one_0)))⟩
abbrev f_slices_insertionSortCmpFunc_rank_one : Nat := 189
abbrev C_slices_insertionSortCmpFunc_rank_one : AFunc := C189
def C198 : AFunc := ⟨25, [.tmp 2],
(.seq (.ops [zP 2 .mov [.c (.int .i64 0)]])
(.seq (.seq (.ops [zM 3 0,
zP 4 (.bin .geq) [.t 3, .c (.int .u64 4294967296)]])
(.cond (.t 4)
(.seq (.ops [zM 5 0,
zP 6 (.bin .shr) [.t 5, .c (.int .u64 32)],
zM 0 6])
(.ops [zP 2 .mov [.c (.int .i64 32)]]))
.skip))
(.seq (.seq (.ops [zM 7 0,
zP 8 (.bin .geq) [.t 7, .c (.int .u64 65536)]])
(.cond (.t 8)
(.seq (.ops [zM 9 0,
zP 10 (.bin .shr) [.t 9, .c (.int .u64 16)],
zM 0 10])
(.ops [zM 11 2,
zP 12 (.bin .add) [.t 11, .c (.int .i64 16)],
zM 2 12]))
.skip))
(.seq (.seq (.ops [zM 13 0,
zP 14 (.bin .geq) [.t 13, .c (.int .u64 256)]])
(.cond (.t 14)
(.seq (.ops [zM 15 0,
zP 16 (.bin .shr) [.t 15, .c (.int .u64 8)],
zM 0 16])
(.ops [zM 17 2,
zP 18 (.bin .add) [.t 17, .c (.int .i64 8)],
zM 2 18]))
.skip))
(.seq (.ops [zM 19 2,
zM 20 0,
zP 21 (.conv .u8) [.t 20],
zP 22 .idxS [.c (.str [0, 1, 2, 2, 3, 3, 3, 3, 4, 4, 4, 4, 4, 4, 4, 4, 5, 5, 5, 5, 5, 5, 5, 5, 5, 5, 5, 5, 5, 5, 5, 5, 6, 6, 6, 6, 6, 6, 6, 6, 6, 6, 6, 6, 6, 6, 6, 6, 6, 6, 6, 6, 6, 6, 6, 6, 6, 6, 6, 6, 6, 6, 6, 6, 7, 7, 7, 7, 7, 7, 7, 7, 7, 7, 7, 7, 7, 7, 7, 7, 7, 7, 7, 7, 7, 7, 7, 7, 7, 7, 7, 7, 7, 7, 7, 7, 7, 7, 7, 7, 7, 7, 7, 7, 7, 7, 7, 7, 7, 7, 7, 7, 7, 7, 7, 7, 7, 7, 7, 7, 7, 7, 7, 7, 7, 7, 7, 7, 8, 8, 8, 8, 8, 8, 8, 8, 8, 8, 8, 8, 8, 8, 8, 8, 8, 8, 8, 8, 8, 8, 8, 8, 8, 8, 8, 8, 8, 8, 8, 8, 8, 8, 8, 8, 8, 8, 8, 8, 8, 8, 8, 8, 8, 8, 8, 8, 8, 8, 8, 8, 8, 8, 8, 8, 8, 8, 8, 8, 8, 8, 8, 8, 8, 8, 8, 8, 8, 8, 8, 8, 8, 8, 8, 8, 8, 8, 8, 8, 8, 8, 8, 8, 8, 8, 8, 8, 8, 8, 8, 8, 8, 8, 8, 8, 8, 8, 8, 8, 8, 8, 8, 8, 8, 8, 8, 8, 8, 8, 8, 8, 8, 8, 8, 8, 8, 8, 8, 8, 8, 8, 8, 8, 8, 8, 8, 8]), .t 21],
zP 23 (.conv .i64) [.t 22],
zP 24 (.bin .add) [.t 19, .t 23],
zM 2 24])
.ret)))))⟩
abbrev f_math_bits_Len64 : Nat := 198
abbrev C_math_bits_Len64 : AFunc := C198
def T : Tr AFunc := (.node (.node (.node (.node (.node (.node .nil (some C31) (.node .nil (some C95) .nil)) (some C15) (.node (.node (.node .nil (some C143) .nil) (some C79) .nil) (some C47) (.node (.node .nil (some C175) .nil) (some C111) .nil))) (some C7) (.node (.node (.node (.node .nil (some C135) .nil) none .nil) (some C39) (.node (.node .nil (some C167) .nil) (some C103) .nil)) (some C23) (.node (.node (.node .nil (some C151) .nil) (some C87) .nil) none (.node (.node .nil (some C183) .nil) none .nil)))) none (.node (.node (.node .nil (some C35) (.node (.node .nil (some C163) .nil) (some C99) .nil)) none (.node (.node (.node .nil (some C147) .nil) (some C83) .nil) (some C51) .nil)) (some C11) (.node (.node (.node (.node .nil (some C139) .nil) none .nil) (some C43) (.node (.node .nil (some C171) .nil) (some C107) .nil)) (some C27) (.node .nil none (.node (.node .nil (some C187) .nil) none .nil))))) none (.node (.node (.node (.node .nil none (.node (.node .nil (some C161) .nil) (some C97) .nil)) none (.node (.node (.node .nil (some C145) .nil) (some C81) .nil) (some C49) (.node (.node .nil (some C177) .nil) none .nil))) (some C9) (.node (.node (.node (.node .nil (some C137) .nil) none .nil) (some C41) (.node (.node .nil (some C169) .nil) (some C105) .nil)) none (.node (.node (.node .nil (some C153) .nil) none .nil) none (.node (.node .nil (some C185) .nil) none .nil)))) none (.node (.node (.node (.node (.node .nil (some C133) .nil) none .nil) (some C37) (.node (.node .nil (some C165) .nil) (some C101) .nil)) (some C21) (.node (.node (.node .nil (some C149) .nil) (some C85) .nil) (some C53) (.node (.node .nil (some C181) .nil) none .nil))) (some C13) (.node (.node (.node (.node .nil (some C141) .nil) none .nil) (some C45) (.node (.node .nil (some C173) .nil) (some C109) .nil)) none (.node (.node .nil (some C93) .nil) none (.node (.node .nil (some C189) .nil) none .nil)))))) none (.node (.node (.node (.node (.node .nil (some C32) (.node .nil (some C96) .nil)) none (.node (.node (.node .nil (some C144) .nil) (some C80) .nil) (some C48) (.node (.node .nil (some C176) .nil) (some C112) .nil))) (some C8) (.node (.node (.node (.node .nil (some C136) .nil) none .nil) (some C40) (.node (.node .nil (some C168) .nil) (some C104) .nil)) none (.node (.node (.node .nil (some C152) .nil) (some C88) .nil) none (.node (.node .nil (some C184) .nil) none .nil)))) (some C4) (.node (.node (.node (.node (.node .nil (some C132) .nil) none .nil) (some C36) (.node (.node .nil (some C164) .nil) (some C100) .nil)) (some C20) (.node (.node (.node .nil (some C148) .nil) (some C84) .nil) (some C52) (.node (.node .nil (some C180) .nil) none .nil))) (some C12) (.node (.node (.node (.node .nil (some C140) .nil) none .nil) (some C44) (.node (.node .nil (some C172) .nil) (some C108) .nil)) (some C28) (.node (.node .nil (some C92) .nil) none (.node (.node .nil (some C188) .nil) none .nil))))) none (.node (.node (.node (.node .nil (some C34) (.node (.node .nil (some C162) .nil) none .nil)) none (.node (.node (.node .nil (some C146) .nil) (some C82) .nil) (some C50) (.node (.node .nil (some C178) .nil) none .nil))) (some C10) (.node (.node (.node (.node .nil (some C138) .nil) none .nil) (some C42) (.node (.node .nil (some C170) .nil) (some C106) .nil)) none (.node .nil none (.node (.node .nil (some C186) .nil) none .nil)))) none (.node (.node (.node (.node (.node .nil (some C134) .nil) none (.node .nil (some C198) .nil)) (some C38) (.node (.node .nil (some C166) .nil) (some C102) .nil)) (some C22) (.node (.node (.node .nil (some C150) .nil) (some C86) .nil) (some C54) (.node (.node .nil (some C182) .nil) none .nil))) (some C14) (.node (.node (.node (.node .nil (some C142) .nil) none .nil) (some C46) (.node (.node .nil (some C174) .nil) (some C110) .nil)) (some C30) (.node (.node .nil (some C94) .nil) none .nil))))))
def fs (f : Nat) : Option AFunc := Tr.get T f
def ms (t : Nat) (n : String) : Option Nat := none
end Ir
end Go.Proofs.YtnlcabhfkpafmaaGreat
