/-
  What the program's functions are in Ads, printed by a program.
-/
import Derived.Test.YtglmcmjionhikaaGreatAdsDef
set_option linter.unusedVariables false
set_option maxRecDepth 100000
namespace Go.Proofs.YtglmcmjionhikaaGreat
open Go Ads
namespace Ir
abbrev zM (d s : Nat) : Ins := ⟨some d, none, .p .mov, [.t s]⟩
abbrev zF (d s o : Nat) : Ins := ⟨some d, none, .p (.faddr o), [.t s]⟩
abbrev zN (d s : Nat) : Ins := ⟨some d, none, .p .nilchk, [.t s]⟩
abbrev zL (d s : Nat) : Ins := ⟨some d, none, .r .load1, [.t s]⟩
abbrev zMg (d s g : Nat) (b : Bool) : Ins := ⟨some d, some (g, b), .p .mov, [.t s]⟩
abbrev zFg (d s o g : Nat) (b : Bool) : Ins := ⟨some d, some (g, b), .p (.faddr o), [.t s]⟩
abbrev zNg (d s g : Nat) (b : Bool) : Ins := ⟨some d, some (g, b), .p .nilchk, [.t s]⟩
abbrev zLg (d s g : Nat) (b : Bool) : Ins := ⟨some d, some (g, b), .r .load1, [.t s]⟩
def zs (l : List Nat) : String := String.ofList (l.map Char.ofNat)
abbrev zP (d : Nat) (o : POp) (l : List Rand) : Ins := ⟨some d, none, .p o, l⟩
abbrev zPg (d : Nat) (o : POp) (l : List Rand) (g : Nat) (b : Bool) : Ins := ⟨some d, some (g, b), .p o, l⟩
abbrev zS (n : Nat) (l : List Rand) : Ins := ⟨none, none, .e (.store n), l⟩
def L_escapementlaw25_KernelNames_0 : AC := (.seq (.seq (.ops [zM 151 18,
 zM 152 13,
 zP 153 .lenS [.t 152],
 zP 154 (.bin .lss) [.t 151, .t 153]])
(.cond (.t 154)
.skip
(.exit 0)))
(.seq (.block 1 (.seq (.ops [zM 157 13,
 zM 158 18,
 zP 159 (.iaddrS 7) [.t 157, .t 158],
 zF 160 159 1,
 zL 161 160,
 zP 162 (.bin .eql) [.t 161, .c (.int .i64 5)],
 zM 163 162,
 zMg 164 13 163 true,
 zMg 165 18 163 true,
 zPg 166 (.iaddrS 7) [.t 164, .t 165] 163 true,
 zFg 167 166 4 163 true,
 zLg 168 167 163 true,
 zPg 169 (.bin .eql) [.t 168, .c (.int .i64 7)] 163 true,
 zP 170 .pick [.t 163, .t 169, .c (.bool false)],
 zM 171 170,
 zMg 172 13 171 true,
 zMg 173 18 171 true,
 zPg 174 (.iaddrS 7) [.t 172, .t 173] 171 true,
 zFg 175 174 2 171 true,
 zLg 176 175 171 true,
 zPg 177 (.bin .eql) [.t 176, .c (.int .i64 1)] 171 true,
 zP 178 .pick [.t 171, .t 177, .c (.bool false)],
 zM 179 178,
 zMg 180 13 179 true,
 zMg 181 18 179 true,
 zPg 182 (.iaddrS 7) [.t 180, .t 181] 179 true,
 zFg 183 182 6 179 true,
 zLg 184 183 179 true,
 zPg 185 (.bin .eql) [.t 184, .c (.str [97, 98, 99])] 179 true,
 zP 186 .pick [.t 179, .t 185, .c (.bool false)],
 zM 187 186,
 zMg 188 13 187 true,
 zMg 189 18 187 true,
 zPg 190 (.iaddrS 7) [.t 188, .t 189] 187 true,
 zFg 191 190 5 187 true,
 zLg 192 191 187 true,
 zPg 193 (.bin .eql) [.t 192, .c (.int .i64 0)] 187 true,
 zP 194 .pick [.t 187, .t 193, .c (.bool false)]])
(.cond (.t 194)
(.ops [zM 195 17,
 zP 196 (.bin .add) [.t 195, .c (.int .i64 1)],
 zM 17 196])
.skip)))
(.ops [zM 155 18,
 zP 156 (.bin .add) [.t 155, .c (.int .i64 1)],
 zM 18 156])))
def L_escapementlaw25_KernelNames_1 : AC := (.seq (.seq (.ops [zM 218 21,
 zP 219 (.bin .lss) [.t 218, .c (.int .i64 2)]])
(.cond (.t 219)
.skip
(.exit 2)))
(.seq (.block 3 (.seq (.ops [zM 223 20,
⟨some 224, none, .call, [.c (.func (.func 8) [] []), .t 223, .c (.int .i64 1)]⟩,
 zM 222 224,
 zP 225 (.ext 0) [.t 222],
 zP 226 (.ext 1) [.t 222],
 zM 22 225,
 zM 23 226])
(.seq (.ops [zM 228 20,
⟨some 229, none, .call, [.c (.func (.func 12) [] []), .t 228, .c (.int .i64 0)]⟩,
 zM 227 229,
 zP 230 (.ext 0) [.t 227],
 zP 231 (.ext 1) [.t 227],
 zM 24 230,
 zM 25 231])
(.seq (.seq (.ops [zM 232 20,
 zP 233 (.build [(.int .i64 0), (.int .i64 0), (.int .i64 0), (.int .i64 0), (.int .i64 0), .nils] []) [],
⟨some 234, none, .call, [.c (.func (.func 13) [] []), .t 232, .t 233]⟩,
 zP 235 (.bin .neq) [.t 234, .c (.int .i64 1)],
 zM 236 235,
 zMg 237 23 236 false,
 zP 238 .pick [.t 236, .c (.bool true), .t 237],
 zM 239 238,
 zMg 240 20 239 false,
⟨some 241, some (239, false), .call, [.c (.func (.func 14) [] []), .t 240]⟩,
 zMg 242 24 239 false,
 zPg 243 (.bin .add) [.t 241, .t 242] 239 false,
 zMg 244 25 239 false,
 zPg 245 (.bin .add) [.t 243, .t 244] 239 false,
 zMg 246 20 239 false,
⟨some 247, some (239, false), .call, [.c (.func (.func 11) [] []), .t 246, .c (.int .i64 0), .c (.int .i64 1)]⟩,
 zPg 248 (.bin .add) [.t 245, .t 247] 239 false,
 zMg 249 20 239 false,
⟨some 250, some (239, false), .call, [.c (.func (.func 9) [] []), .t 249]⟩,
 zPg 251 .lenS [.t 250] 239 false,
 zPg 252 (.bin .add) [.t 248, .t 251] 239 false,
 zMg 253 20 239 false,
⟨some 254, some (239, false), .call, [.c (.func (.func 10) [] []), .t 253, .c (.int .i64 0)]⟩,
 zPg 255 .lenS [.t 254] 239 false,
 zPg 256 (.bin .add) [.t 252, .t 255] 239 false,
 zMg 257 20 239 false,
⟨some 258, some (239, false), .call, [.c (.func (.func 15) [] []), .t 257]⟩,
 zPg 259 (.field 0 1 false) [.t 258] 239 false,
 zPg 260 .lenS [.t 259] 239 false,
 zPg 261 (.bin .add) [.t 256, .t 260] 239 false,
 zPg 262 (.bin .neq) [.t 261, .c (.int .i64 0)] 239 false,
 zP 263 .pick [.t 239, .c (.bool true), .t 262],
 zM 264 263,
 zMg 265 20 264 false,
⟨some 266, some (264, false), .call, [.c (.func (.func 16) [] []), .t 265, .c (.int .i64 0)]⟩,
 zP 267 .pick [.t 264, .c (.bool true), .t 266]])
(.cond (.t 267)
(.seq (.ops [zP 0 .mov [.c (.bool false)]])
.ret)
.skip))
(.ops [zP 268 (.build [.nilp, .nilp, .nilp, .nilp, .nils, .nils, .nils, .nils, (.int .i64 0), (.int .i64 0), (.int .i64 0), .nils, .nils, .nils] []) [],
⟨some 269, none, .a .box, [.t 268]⟩,
 zM 20 269])))))
(.ops [zM 220 21,
 zP 221 (.bin .add) [.t 220, .c (.int .i64 1)],
 zM 21 221])))
def C3 : AFunc := ⟨305, [.tmp 0],
(.seq (.ops [zP 0 .mov [.c (.bool false)]])
(.seq (.ops [zP 27 (.build [.nils, .nils] []) [],
⟨some 28, none, .call, [.c (.func (.func 5) [] []), .t 27]⟩,
 zM 26 28,
 zP 29 (.ext 0) [.t 26],
 zP 30 (.ext 1) [.t 26],
 zM 1 29,
 zM 2 30])
(.seq (.ops [⟨some 32, none, .call, [.c (.func (.func 6) [] [])]⟩,
⟨some 33, none, .call, [.c (.func (.func 5) [] []), .t 32]⟩,
 zM 31 33,
 zP 34 (.ext 0) [.t 31],
 zP 35 (.ext 1) [.t 31],
 zM 3 34,
 zM 4 35])
(.seq (.seq (.ops [zM 36 4,
 zP 37 (.bin .neq) [.t 36, .c (.int .i64 0)],
 zM 38 37,
 zMg 39 3 38 false,
 zPg 40 (.eq .nilptr) [.t 39, .c .nilp] 38 false,
 zP 41 .pick [.t 38, .c (.bool true), .t 40]])
(.cond (.t 41)
(.seq (.ops [zP 0 .mov [.c (.bool false)]])
.ret)
.skip))
(.seq (.ops [zP 42 (.build [(.int .i64 0), (.int .i64 0), (.str [])] [(0, 1)]) [.c (.int .i64 4)],
 zP 43 (.build [(.int .i64 0), (.int .i64 0), (.str [])] [(0, 1), (1, 1)]) [.c (.int .i64 1), .c (.int .i64 2)],
 zP 44 (.build [(.int .i64 0), (.int .i64 0), (.str [])] [(0, 1)]) [.c (.int .i64 5)],
 zP 45 (.build [(.int .i64 0), (.int .i64 0), (.str [])] [(0, 1), (1, 1)]) [.c (.int .i64 1), .c (.int .i64 1)],
⟨some 46, none, .a (.bslice [(.int .i64 0), (.int .i64 0), (.str [])] 4 3 [0, 1, 2, 3]), [.t 42, .t 43, .t 44, .t 45]⟩,
 zM 5 46])
(.seq (.ops [zM 47 3,
 zP 48 (.build [(.int .i64 0), (.int .i64 0), (.int .i64 0), (.int .i64 0), (.int .i64 0), .nils] []) [],
 zP 49 (.build [(.int .i64 0), (.int .i64 0), (.int .i64 0), (.int .i64 0), (.int .i64 0), .nils] [(0, 1)]) [.c (.int .i64 9)],
 zP 50 (.build [(.int .i64 0), (.int .i64 0), (.int .i64 0), (.int .i64 0), (.int .i64 0), .nils] [(0, 1)]) [.c (.int .i64 1)],
 zP 51 (.build [(.int .i64 0), (.int .i64 0), (.int .i64 0), (.int .i64 0), (.int .i64 0), .nils] [(0, 1), (3, 1)]) [.c (.int .i64 1), .c (.int .i64 65)],
 zP 52 (.build [(.int .i64 0), (.int .i64 0), (.int .i64 0), (.int .i64 0), (.int .i64 0), .nils] [(0, 1), (1, 1)]) [.c (.int .i64 3), .c (.int .i64 2)],
 zP 53 (.build [(.int .i64 0), (.int .i64 0), (.int .i64 0), (.int .i64 0), (.int .i64 0), .nils] [(0, 1), (1, 1)]) [.c (.int .i64 3), .c (.int .i64 (-1))],
 zP 54 (.build [(.int .i64 0), (.int .i64 0), (.int .i64 0), (.int .i64 0), (.int .i64 0), .nils] [(0, 1), (2, 1)]) [.c (.int .i64 2), .c (.int .i64 1)],
 zP 55 (.build [(.int .i64 0), (.int .i64 0), (.int .i64 0), (.int .i64 0), (.int .i64 0), .nils] [(0, 1)]) [.c (.int .i64 2)],
 zP 56 (.build [(.int .i64 0), (.int .i64 0), (.int .i64 0), (.int .i64 0), (.int .i64 0), .nils] [(0, 1)]) [.c (.int .i64 4)],
 zP 57 (.build [(.int .i64 0), (.int .i64 0), (.int .i64 0), (.int .i64 0), (.int .i64 0), .nils] [(0, 1)]) [.c (.int .i64 7)],
 zP 58 (.build [(.int .i64 0), (.int .i64 0), (.int .i64 0), (.int .i64 0), (.int .i64 0), .nils] [(0, 1)]) [.c (.int .i64 3)],
 zP 59 (.build [(.int .i64 0), (.int .i64 0), (.int .i64 0), (.int .i64 0), (.int .i64 0), .nils] [(0, 1)]) [.c (.int .i64 3)],
 zP 60 (.build [(.int .i64 0), (.int .i64 0), (.int .i64 0), (.int .i64 0), (.int .i64 0), .nils] [(0, 1), (1, 1)]) [.c (.int .i64 3), .c (.int .i64 1)],
 zP 61 (.build [(.int .i64 0), (.int .i64 0), (.int .i64 0), (.int .i64 0), (.int .i64 0), .nils] [(0, 1)]) [.c (.int .i64 6)],
 zP 62 (.build [(.int .i64 0), (.int .i64 0), (.int .i64 0), (.int .i64 0), (.int .i64 0), .nils] [(0, 1), (3, 1)]) [.c (.int .i64 8), .c (.int .i64 9)],
 zP 63 (.build [(.int .i64 0), (.int .i64 0), (.int .i64 0), (.int .i64 0), (.int .i64 0), .nils] [(0, 1), (3, 1), (4, 1)]) [.c (.int .i64 5), .c (.int .i64 2), .c (.int .i64 2)],
⟨some 64, none, .a (.bslice [(.int .i64 0), (.int .i64 0), (.int .i64 0), (.int .i64 0), (.int .i64 0), .nils] 16 6 [0, 1, 2, 3, 4, 5, 6, 7, 8, 9, 10, 11, 12, 13, 14, 15]), [.t 48, .t 49, .t 50, .t 51, .t 52, .t 53, .t 54, .t 55, .t 56, .t 57, .t 58, .t 59, .t 60, .t 61, .t 62, .t 63]⟩,
⟨some 65, none, .a (.bslice [(.int .i64 0)] 16 1 [0, 1, 2, 3, 4, 5, 6, 7, 8, 9, 10, 11, 12, 13, 14, 15]), [.c (.int .i64 2), .c (.int .i64 2), .c (.int .i64 2), .c (.int .i64 2), .c (.int .i64 9), .c (.int .i64 9), .c (.int .i64 9), .c (.int .i64 250), .c (.int .i64 250), .c (.int .i64 250), .c (.int .i64 0), .c (.int .i64 250), .c (.int .i64 0), .c (.int .i64 250), .c (.int .i64 9), .c (.int .i64 120)]⟩,
⟨some 66, none, .call, [.c (.func (.func 7) [] []), .t 47, .t 64, .t 65]⟩,
 zM 6 66])
(.seq (.ops [zM 67 3,
 zM 68 5,
 zP 69 (.build [(.int .i64 0), (.int .i64 0), (.int .i64 0), (.int .i64 0), (.int .i64 0), .nils] [(0, 1), (5, 1)]) [.c (.int .i64 2), .t 68],
 zM 70 5,
 zP 71 (.build [(.int .i64 0), (.int .i64 0), (.int .i64 0), (.int .i64 0), (.int .i64 0), .nils] [(0, 1), (1, 1), (5, 1)]) [.c (.int .i64 2), .c (.int .i64 1), .t 70],
 zP 72 (.build [(.int .i64 0), (.int .i64 0), (.int .i64 0), (.int .i64 0), (.int .i64 0), .nils] [(0, 1), (3, 1)]) [.c (.int .i64 1), .c (.int .i64 1)],
⟨some 73, none, .a (.bslice [(.int .i64 0), (.int .i64 0), (.int .i64 0), (.int .i64 0), (.int .i64 0), .nils] 3 6 [0, 1, 2]), [.t 69, .t 71, .t 72]⟩,
⟨some 74, none, .a (.bslice [(.int .i64 0)] 3 1 [0, 1, 2]), [.c (.int .i64 0), .c (.int .i64 0), .c (.int .i64 0)]⟩,
⟨some 75, none, .call, [.c (.func (.func 7) [] []), .t 67, .t 73, .t 74]⟩,
 zM 7 75])
(.seq (.ops [zM 77 3,
⟨some 78, none, .call, [.c (.func (.func 8) [] []), .t 77, .c (.int .i64 1)]⟩,
 zM 76 78,
 zP 79 (.ext 0) [.t 76],
 zP 80 (.ext 1) [.t 76],
 zM 8 79,
 zM 9 80])
(.seq (.ops [zM 81 3,
 zP 82 (.build [(.int .i64 0), (.int .i64 0), (.int .i64 0), (.int .i64 0), (.int .i64 0), .nils] [(0, 1), (3, 1)]) [.c (.int .i64 1), .c (.int .i64 3)],
⟨some 83, none, .a (.bslice [(.int .i64 0), (.int .i64 0), (.int .i64 0), (.int .i64 0), (.int .i64 0), .nils] 1 6 [0]), [.t 82]⟩,
⟨some 84, none, .a (.bslice [(.int .i64 0)] 1 1 [0]), [.c (.int .i64 0)]⟩,
⟨some 85, none, .call, [.c (.func (.func 7) [] []), .t 81, .t 83, .t 84]⟩,
 zM 10 85])
(.seq (.ops [zM 87 3,
⟨some 88, none, .call, [.c (.func (.func 8) [] []), .t 87, .c (.int .i64 1)]⟩,
 zM 86 88,
 zP 89 (.ext 0) [.t 86],
 zP 90 (.ext 1) [.t 86],
 zM 11 89,
 zM 12 90])
(.seq (.ops [zM 91 3,
⟨some 92, none, .call, [.c (.func (.func 9) [] []), .t 91]⟩,
 zM 13 92])
(.seq (.ops [zM 93 9,
 zM 94 93,
 zMg 95 8 94 true,
 zPg 96 (.bin .eql) [.t 95, .c (.int .i64 0)] 94 true,
 zP 97 .pick [.t 94, .t 96, .c (.bool false)],
 zM 98 97,
 zMg 99 12 98 true,
 zPg 100 .not [.t 99] 98 true,
 zP 101 .pick [.t 98, .t 100, .c (.bool false)],
 zM 102 101,
 zMg 103 11 102 true,
 zPg 104 (.bin .eql) [.t 103, .c (.int .i64 0)] 102 true,
 zP 105 .pick [.t 102, .t 104, .c (.bool false)],
 zM 106 105,
 zMg 107 3 106 true,
⟨some 108, some (106, true), .call, [.c (.func (.func 10) [] []), .t 107, .c (.int .i64 0)]⟩,
 zPg 109 .lenS [.t 108] 106 true,
 zPg 110 (.bin .eql) [.t 109, .c (.int .i64 1)] 106 true,
 zP 111 .pick [.t 106, .t 110, .c (.bool false)],
 zM 112 111,
 zMg 113 3 112 true,
⟨some 114, some (112, true), .call, [.c (.func (.func 10) [] []), .t 113, .c (.int .i64 1)]⟩,
 zPg 115 .lenS [.t 114] 112 true,
 zPg 116 (.bin .eql) [.t 115, .c (.int .i64 1)] 112 true,
 zP 117 .pick [.t 112, .t 116, .c (.bool false)],
 zM 118 117,
 zMg 119 13 118 true,
 zPg 120 .lenS [.t 119] 118 true,
 zPg 121 (.bin .gtr) [.t 120, .c (.int .i64 3)] 118 true,
 zP 122 .pick [.t 118, .t 121, .c (.bool false)],
 zM 123 122,
 zMg 124 13 123 true,
 zMg 125 13 123 true,
 zPg 126 .lenS [.t 125] 123 true,
 zPg 127 (.bin .sub) [.t 126, .c (.int .i64 1)] 123 true,
 zPg 128 (.iaddrS 7) [.t 124, .t 127] 123 true,
⟨some 129, some (123, true), .r (.loadN 7), [.t 128]⟩,
 zPg 130 (.build [(.int .i64 0), (.int .i64 0), (.int .i64 0), (.int .i64 0), (.int .i64 0), (.int .i64 0), (.str [])] [(0, 1), (1, 1), (2, 1), (4, 1)]) [.c (.int .i64 3), .c (.int .i64 5), .c (.int .i64 1), .c (.int .i64 5)] 123 true,
 zPg 131 (.eq (.cells [0, 0, 0, 0, 0, 0, 2])) [.t 129, .t 130] 123 true,
 zP 132 .pick [.t 123, .t 131, .c (.bool false)],
 zM 14 132])
(.seq (.ops [zP 133 (.build [(.int .i64 0), (.int .i64 0), (.str [])] [(0, 1), (2, 1)]) [.c (.int .i64 6), .c (.str [97, 98, 99])],
 zP 134 (.build [(.int .i64 0), (.int .i64 0), (.str [])] [(0, 1)]) [.c (.int .i64 7)],
 zP 135 (.build [(.int .i64 0), (.int .i64 0), (.str [])] [(0, 1), (1, 1)]) [.c (.int .i64 6), .c (.int .i64 7)],
 zP 136 (.build [(.int .i64 0), (.int .i64 0), (.str [])] [(0, 1), (1, 1)]) [.c (.int .i64 8), .c (.int .i64 50)],
⟨some 137, none, .a (.bslice [(.int .i64 0), (.int .i64 0), (.str [])] 4 3 [0, 1, 2, 3]), [.t 133, .t 134, .t 135, .t 136]⟩,
 zM 15 137])
(.seq (.ops [zM 138 3,
 zP 139 (.build [(.int .i64 0), (.int .i64 0), (.int .i64 0), (.int .i64 0), (.int .i64 0), .nils] [(0, 1), (3, 1)]) [.c (.int .i64 1), .c (.int .i64 40)],
 zM 140 15,
 zP 141 (.build [(.int .i64 0), (.int .i64 0), (.int .i64 0), (.int .i64 0), (.int .i64 0), .nils] [(0, 1), (5, 1)]) [.c (.int .i64 2), .t 140],
 zP 142 (.build [(.int .i64 0), (.int .i64 0), (.str [])] [(0, 1)]) [.c (.int .i64 7)],
⟨some 143, none, .a (.bslice [(.int .i64 0), (.int .i64 0), (.str [])] 1 3 [0]), [.t 142]⟩,
 zP 144 (.build [(.int .i64 0), (.int .i64 0), (.int .i64 0), (.int .i64 0), (.int .i64 0), .nils] [(0, 1), (1, 1), (5, 1)]) [.c (.int .i64 2), .c (.int .i64 1), .t 143],
 zP 145 (.build [(.int .i64 0), (.int .i64 0), (.int .i64 0), (.int .i64 0), (.int .i64 0), .nils] [(0, 1), (3, 1)]) [.c (.int .i64 1), .c (.int .i64 4)],
⟨some 146, none, .a (.bslice [(.int .i64 0), (.int .i64 0), (.int .i64 0), (.int .i64 0), (.int .i64 0), .nils] 4 6 [0, 1, 2, 3]), [.t 139, .t 141, .t 144, .t 145]⟩,
⟨some 147, none, .a (.bslice [(.int .i64 0)] 4 1 [0, 1, 2, 3]), [.c (.int .i64 0), .c (.int .i64 0), .c (.int .i64 0), .c (.int .i64 0)]⟩,
⟨some 148, none, .call, [.c (.func (.func 7) [] []), .t 138, .t 146, .t 147]⟩,
 zM 16 148])
(.seq (.ops [zP 17 .mov [.c (.int .i64 0)]])
(.seq (.ops [zM 149 3,
⟨some 150, none, .call, [.c (.func (.func 9) [] []), .t 149]⟩,
 zM 13 150])
(.seq (.seq (.ops [zP 18 .mov [.c (.int .i64 0)]])
(.block 0 (.loop L_escapementlaw25_KernelNames_0)))
(.seq (.ops [zM 197 17,
 zP 198 (.bin .eql) [.t 197, .c (.int .i64 1)],
 zM 199 198,
 zMg 200 3 199 true,
⟨some 201, some (199, true), .call, [.c (.func (.func 11) [] []), .t 200, .c (.int .i64 0), .c (.int .i64 4)]⟩,
 zPg 202 (.bin .eql) [.t 201, .c (.int .i64 2)] 199 true,
 zP 203 .pick [.t 199, .t 202, .c (.bool false)],
 zM 204 203,
 zMg 205 3 204 true,
 zPg 206 (.build [(.int .i64 0), (.int .i64 0), (.int .i64 0), (.int .i64 0), (.int .i64 0), .nils] [(0, 1), (3, 1), (4, 1)]) [.c (.int .i64 5), .c (.int .i64 4), .c (.int .i64 2)] 204 true,
 zPg 207 (.build [(.int .i64 0), (.int .i64 0), (.int .i64 0), (.int .i64 0), (.int .i64 0), .nils] [(0, 1)]) [.c (.int .i64 2)] 204 true,
 zPg 208 (.build [(.int .i64 0), (.int .i64 0), (.int .i64 0), (.int .i64 0), (.int .i64 0), .nils] [(0, 1), (1, 1)]) [.c (.int .i64 4), .c (.int .i64 1)] 204 true,
 zPg 209 (.build [(.int .i64 0), (.int .i64 0), (.int .i64 0), (.int .i64 0), (.int .i64 0), .nils] [(0, 1), (3, 1)]) [.c (.int .i64 1), .c (.int .i64 4)] 204 true,
 zPg 210 (.build [(.int .i64 0), (.int .i64 0), (.int .i64 0), (.int .i64 0), (.int .i64 0), .nils] [(0, 1), (1, 1)]) [.c (.int .i64 4), .c (.int .i64 1)] 204 true,
 zPg 211 (.build [(.int .i64 0), (.int .i64 0), (.int .i64 0), (.int .i64 0), (.int .i64 0), .nils] [(0, 1), (3, 1)]) [.c (.int .i64 1), .c (.int .i64 8)] 204 true,
 zPg 212 (.build [(.int .i64 0), (.int .i64 0), (.int .i64 0), (.int .i64 0), (.int .i64 0), .nils] [(0, 1)]) [.c (.int .i64 7)] 204 true,
 zPg 213 (.build [(.int .i64 0), (.int .i64 0), (.int .i64 0), (.int .i64 0), (.int .i64 0), .nils] [(0, 1), (3, 1)]) [.c (.int .i64 1), .c (.int .i64 64)] 204 true,
⟨some 214, some (204, true), .a (.bslice [(.int .i64 0), (.int .i64 0), (.int .i64 0), (.int .i64 0), (.int .i64 0), .nils] 8 6 [0, 1, 2, 3, 4, 5, 6, 7]), [.t 206, .t 207, .t 208, .t 209, .t 210, .t 211, .t 212, .t 213]⟩,
⟨some 215, some (204, true), .a (.bslice [(.int .i64 0)] 8 1 [0, 1, 2, 3, 4, 5, 6, 7]), [.c (.int .i64 0), .c (.int .i64 250), .c (.int .i64 250), .c (.int .i64 0), .c (.int .i64 0), .c (.int .i64 0), .c (.int .i64 0), .c (.int .i64 0)]⟩,
⟨some 216, some (204, true), .call, [.c (.func (.func 7) [] []), .t 205, .t 214, .t 215]⟩,
 zP 217 .pick [.t 204, .t 216, .c (.bool false)],
 zM 19 217])
(.seq (.ops [zP 20 .mov [.c .nilp]])
(.seq (.seq (.ops [zP 21 .mov [.c (.int .i64 0)]])
(.block 2 (.loop L_escapementlaw25_KernelNames_1)))
(.seq (.ops [zP 270 .mov [.c (.bool true)],
⟨some 271, some (270, true), .call, [.c (.func (.func 17) [] [])]⟩,
 zP 272 .pick [.t 270, .t 271, .c (.bool false)],
 zM 273 272,
 zMg 274 2 273 true,
 zPg 275 (.bin .eql) [.t 274, .c (.int .i64 50)] 273 true,
 zP 276 .pick [.t 273, .t 275, .c (.bool false)],
 zM 277 276,
 zMg 278 6 277 true,
 zP 279 .pick [.t 277, .t 278, .c (.bool false)],
 zM 280 279,
 zMg 281 7 280 true,
 zP 282 .pick [.t 280, .t 281, .c (.bool false)],
 zM 283 282,
 zMg 284 10 283 true,
 zP 285 .pick [.t 283, .t 284, .c (.bool false)],
 zM 286 285,
 zMg 287 14 286 true,
 zP 288 .pick [.t 286, .t 287, .c (.bool false)],
 zM 289 288,
 zMg 290 16 289 true,
 zP 291 .pick [.t 289, .t 290, .c (.bool false)],
 zM 292 291,
 zMg 293 19 292 true,
 zP 294 .pick [.t 292, .t 293, .c (.bool false)],
 zM 295 294,
 zMg 296 3 295 true,
⟨some 297, some (295, true), .call, [.c (.func (.func 16) [] []), .t 296, .c (.int .i64 0)]⟩,
 zPg 298 .not [.t 297] 295 true,
 zP 299 .pick [.t 295, .t 298, .c (.bool false)],
 zM 300 299,
 zMg 301 3 300 true,
⟨some 302, some (300, true), .call, [.c (.func (.func 16) [] []), .t 301, .c (.int .i64 1)]⟩,
 zPg 303 .not [.t 302] 300 true,
 zP 304 .pick [.t 300, .t 303, .c (.bool false)],
 zM 0 304])
.ret)))))))))))))))))))))⟩
abbrev f_escapementlaw25_KernelNames : Nat := 3
abbrev C_escapementlaw25_KernelNames : AFunc := C3
def C5 : AFunc := ⟨38, [.tmp 2, .tmp 3],
(.seq (.ops [⟨some 1, none, .a .box, [.t 0]⟩,
 zP 2 .mov [.c .nilp],
 zP 3 .mov [.c (.int .i64 0)]])
(.seq (.seq (.ops [⟨some 8, none, .r (.loadN 2), [.t 1]⟩,
⟨some 9, none, .call, [.c (.func (.func 23) [] []), .t 8]⟩,
 zM 4 9])
(.seq (.ops [zM 10 4,
 zP 11 (.bin .neq) [.t 10, .c (.int .i64 0)]])
(.cond (.t 11)
(.seq (.ops [zM 12 4,
 zP 2 .mov [.c .nilp],
 zM 3 12])
.ret)
.skip)))
(.seq (.ops [zF 14 1 1,
 zL 15 14,
⟨some 16, none, .call, [.c (.func (.func 24) [] []), .t 15]⟩,
 zM 13 16,
 zP 17 (.ext 0) [.t 13],
 zP 18 (.ext 1) [.t 13],
 zM 5 17,
 zM 6 18])
(.seq (.seq (.ops [zM 19 6,
 zP 20 (.bin .neq) [.t 19, .c (.int .i64 0)]])
(.cond (.t 20)
(.seq (.ops [zM 21 6,
 zP 2 .mov [.c .nilp],
 zM 3 21])
.ret)
.skip))
(.seq (.ops [zF 22 1 0,
 zL 23 22,
 zP 24 .lenS [.t 23],
 zM 7 24])
(.seq (.dops [⟨some 25, none, .call, [.c (.func (.func 25) [] [])]⟩,
 zM 26 5,
⟨some 27, none, .call, [.c (.func (.func 26) [] [])]⟩,
⟨some 28, none, .call, [.c (.func (.func 27) [] [])]⟩,
 zP 29 (.build [.nilp, .nilp, .nilp, .nilp] [(0, 1), (1, 1), (2, 1), (3, 1)]) [.t 25, .t 26, .t 27, .t 28],
⟨some 30, none, .r (.loadN 2), [.t 1]⟩,
⟨some 31, none, .call, [.c (.func (.func 28) [] []), .t 30]⟩,
 zM 32 7,
⟨some 33, none, .a (.mkslice [.nilp] 1 8), [.t 32, .t 32]⟩,
 zM 34 7,
⟨some 35, none, .a (.mkslice [.nilp] 1 8), [.t 34, .t 34]⟩,
 zP 36 (.build [.nilp, .nilp, .nilp, .nilp, .nils, .nils, .nils, .nils, (.int .i64 0), (.int .i64 0), (.int .i64 0), .nils, .nils, .nils] [(0, 4), (4, 2), (8, 1), (11, 1), (12, 1)]) [.t 29, .t 31, .c (.int .i64 (-1)), .t 33, .t 35],
⟨some 37, none, .a .box, [.t 36]⟩,
 zM 2 37,
 zP 3 .mov [.c (.int .i64 0)]] [[], [], [], [], [], [0, 1, 3, 4], [], [], [], [], [], [], [], [], []])
.ret))))))⟩
abbrev f_kernel_New : Nat := 5
abbrev C_kernel_New : AFunc := C5
def C6 : AFunc := ⟨13, [.cell 0 2 true],
(.seq (.ops [⟨some 0, none, .a (.alloc [.nils, .nils]), []⟩])
(.seq (.ops [zP 2 (.build [(.int .i64 0), (.int .i64 0), (.int .i64 0), (.int .i64 0), (.int .i64 0), (.int .i64 0), (.int .i64 0), (.int .i64 0)] [(0, 1), (1, 1), (2, 1), (3, 1), (4, 1), (5, 1), (6, 1), (7, 1)]) [.c (.int .i64 40), .c (.int .i64 40), .c (.int .i64 3), .c (.int .i64 1), .c (.int .i64 1), .c (.int .i64 1), .c (.int .i64 2), .c (.int .i64 1)],
⟨some 1, none, .a (.alloc [(.int .i64 0), (.int .i64 0), (.int .i64 0), (.int .i64 0), (.int .i64 0), (.int .i64 0), (.int .i64 0), (.int .i64 0)]), []⟩,
 zS 8 [.t 1, .t 2]])
(.seq (.ops [⟨some 3, none, .r (.loadN 8), [.t 1]⟩,
⟨some 4, none, .a (.bslice [(.int .i64 0), (.int .i64 0), (.int .i64 0), (.int .i64 0), (.int .i64 0), (.int .i64 0), (.int .i64 0), (.int .i64 0)] 1 8 [0]), [.t 3]⟩,
 zP 5 (.build [(.int .i64 0), (.int .i64 0), .nils] [(0, 1), (1, 1), (2, 1)]) [.c (.int .i64 4), .c (.int .i64 2), .t 4],
⟨some 6, none, .r (.loadN 8), [.t 1]⟩,
⟨some 7, none, .a (.bslice [(.int .i64 0), (.int .i64 0), (.int .i64 0), (.int .i64 0), (.int .i64 0), (.int .i64 0), (.int .i64 0), (.int .i64 0)] 1 8 [0]), [.t 6]⟩,
 zP 8 (.build [(.int .i64 0), (.int .i64 0), .nils] [(0, 1), (1, 1), (2, 1)]) [.c (.int .i64 4), .c (.int .i64 2), .t 7],
⟨some 9, none, .a (.bslice [(.int .i64 0), (.int .i64 0), .nils] 2 3 [0, 1]), [.t 5, .t 8]⟩,
 zP 10 (.build [(.int .i64 0), (.int .i64 0), (.int .i64 0), (.int .i64 0), (.int .i64 0), (.int .i64 0)] [(0, 1), (1, 1), (2, 1), (3, 1), (4, 1)]) [.c (.int .i64 2), .c (.int .i64 0), .c (.int .i64 1), .c (.int .i64 4), .c (.int .i64 2)],
⟨some 11, none, .a (.bslice [(.int .i64 0), (.int .i64 0), (.int .i64 0), (.int .i64 0), (.int .i64 0), (.int .i64 0)] 1 6 [0]), [.t 10]⟩,
 zP 12 (.build [.nils, .nils] [(0, 1), (1, 1)]) [.t 9, .t 11],
 zS 2 [.t 0, .t 12]])
.ret)))⟩
abbrev f_escapementlaw25_two : Nat := 6
abbrev C_escapementlaw25_two : AFunc := C6
def L_escapementlaw25_did_0 : AC := (.seq (.seq (.ops [zM 8 7,
 zM 9 1,
 zP 10 .lenS [.t 9],
 zP 11 (.bin .lss) [.t 8, .t 10]])
(.cond (.t 11)
.skip
(.exit 0)))
(.seq (.block 1 (.seq (.dops [zM 14 0,
 zM 15 1,
 zM 16 7,
 zP 17 (.iaddrS 6) [.t 15, .t 16],
⟨some 18, none, .r (.loadN 6), [.t 17]⟩,
⟨some 19, none, .call, [.c (.func (.func 13) [] []), .t 14, .t 18]⟩,
 zM 20 2,
 zM 21 7,
 zP 22 (.iaddrS 1) [.t 20, .t 21],
 zL 23 22,
 zP 24 (.bin .neq) [.t 19, .t 23]] [[], [], [], [], [], [], [], [], [], [0, 6], []])
(.cond (.t 24)
(.seq (.ops [zP 6 .mov [.c (.bool false)]])
.ret)
.skip)))
(.ops [zM 12 7,
 zP 13 (.bin .add) [.t 12, .c (.int .i64 1)],
 zM 7 13])))
def C7 : AFunc := ⟨25, [.tmp 6],
(.seq (.ops [zP 6 .mov [.c (.bool false)]])
(.seq (.seq (.ops [zP 7 .mov [.c (.int .i64 0)]])
(.block 0 (.loop L_escapementlaw25_did_0)))
(.seq (.ops [zP 6 .mov [.c (.bool true)]])
.ret)))⟩
abbrev f_escapementlaw25_did : Nat := 7
abbrev C_escapementlaw25_did : AFunc := C7
def C8 : AFunc := ⟨17, [.tmp 4, .tmp 5],
(.seq (.ops [zP 4 .mov [.c (.int .i64 0)],
 zP 5 .mov [.c (.bool false)]])
(.seq (.seq (.ops [zM 6 0,
⟨some 7, none, .call, [.c (.func (.func 29) [] []), .t 6]⟩])
(.cond (.t 7)
(.seq (.ops [zP 4 .mov [.c (.int .i64 0)],
 zP 5 .mov [.c (.bool false)]])
.ret)
.skip))
(.seq (.ops [zM 8 0,
 zN 9 8,
 zF 10 9 0,
 zF 11 10 0,
 zL 12 11,
 zM 13 1,
⟨some 14, none, .call, [.c (.func (.func 30) [] []), .t 12, .t 13]⟩,
 zP 15 (.ext 0) [.t 14],
 zP 16 (.ext 1) [.t 14],
 zM 4 15,
 zM 5 16])
.ret)))⟩
abbrev f_kernel_Kernel_Holder : Nat := 8
abbrev C_kernel_Kernel_Holder : AFunc := C8
def C9 : AFunc := ⟨10, [.tmp 2],
(.seq (.ops [zP 2 .mov [.c .nils]])
(.seq (.seq (.ops [zM 3 0,
⟨some 4, none, .call, [.c (.func (.func 29) [] []), .t 3]⟩])
(.cond (.t 4)
(.seq (.ops [zP 2 .mov [.c .nils]])
.ret)
.skip))
(.seq (.ops [zM 5 0,
 zN 6 5,
 zF 7 6 13,
 zL 8 7,
⟨some 9, none, .call, [.c (.func (.func 31) [] []), .t 8]⟩,
 zM 2 9])
.ret)))⟩
abbrev f_kernel_Kernel_Notes : Nat := 9
abbrev C_kernel_Kernel_Notes : AFunc := C9
def C10 : AFunc := ⟨17, [.tmp 4],
(.seq (.ops [zP 4 .mov [.c .nils]])
(.seq (.seq (.ops [zM 5 0,
 zM 6 1,
⟨some 7, none, .call, [.c (.func (.func 16) [] []), .t 5, .t 6]⟩,
 zP 8 .not [.t 7]])
(.cond (.t 8)
(.seq (.ops [zP 4 .mov [.c .nils]])
.ret)
.skip))
(.seq (.ops [zM 9 0,
 zN 10 9,
 zF 11 10 12,
 zL 12 11,
 zM 13 1,
 zP 14 (.iaddrS 1) [.t 12, .t 13],
 zL 15 14,
⟨some 16, none, .call, [.c (.func (.func 32) [] []), .t 15]⟩,
 zM 4 16])
.ret)))⟩
abbrev f_kernel_Kernel_Jobs : Nat := 10
abbrev C_kernel_Kernel_Jobs : AFunc := C10
def C11 : AFunc := ⟨17, [.tmp 6],
(.seq (.ops [zP 6 .mov [.c (.int .i64 0)]])
(.seq (.seq (.ops [zM 7 0,
⟨some 8, none, .call, [.c (.func (.func 29) [] []), .t 7]⟩])
(.cond (.t 8)
(.seq (.ops [zP 6 .mov [.c (.int .i64 0)]])
.ret)
.skip))
(.seq (.ops [zM 9 0,
 zN 10 9,
 zF 11 10 0,
 zF 12 11 2,
 zL 13 12,
 zM 14 1,
 zM 15 2,
⟨some 16, none, .call, [.c (.func (.func 33) [] []), .t 13, .t 14, .t 15]⟩,
 zM 6 16])
.ret)))⟩
abbrev f_kernel_Kernel_Count : Nat := 11
abbrev C_kernel_Kernel_Count : AFunc := C11
def C12 : AFunc := ⟨26, [.tmp 4, .tmp 5],
(.seq (.ops [zP 4 .mov [.c (.int .i64 0)],
 zP 5 .mov [.c (.int .i64 0)]])
(.seq (.seq (.ops [zM 6 0,
 zM 7 1,
⟨some 8, none, .call, [.c (.func (.func 16) [] []), .t 6, .t 7]⟩,
 zP 9 .not [.t 8]])
(.cond (.t 9)
(.seq (.ops [zP 4 .mov [.c (.int .i64 0)],
 zP 5 .mov [.c (.int .i64 0)]])
.ret)
.skip))
(.seq (.dops [zM 10 0,
 zN 11 10,
 zF 12 11 11,
 zL 13 12,
 zM 14 1,
 zP 15 (.iaddrS 1) [.t 13, .t 14],
 zL 16 15,
⟨some 17, none, .call, [.c (.func (.func 34) [] []), .t 16]⟩,
 zM 18 0,
 zN 19 18,
 zF 20 19 11,
 zL 21 20,
 zM 22 1,
 zP 23 (.iaddrS 1) [.t 21, .t 22],
 zL 24 23,
⟨some 25, none, .call, [.c (.func (.func 35) [] []), .t 24]⟩,
 zM 4 17,
 zM 5 25] [[], [], [], [], [], [], [], [], [], [], [], [0, 8], [], [], [0, 8], [], [], []])
.ret)))⟩
abbrev f_kernel_Kernel_Budget : Nat := 12
abbrev C_kernel_Kernel_Budget : AFunc := C12
def C13 : AFunc := ⟨29, [.tmp 4],
(.seq (.ops [⟨some 3, none, .a .box, [.t 1]⟩,
 zP 4 .mov [.c (.int .i64 0)]])
(.seq (.seq (.ops [zM 8 0,
⟨some 9, none, .call, [.c (.func (.func 29) [] []), .t 8]⟩])
(.cond (.t 9)
(.seq (.ops [zP 4 .mov [.c (.int .i64 1)]])
.ret)
.skip))
(.seq (.dops [⟨some 11, none, .call, [.c (.func (.func 36) [] [])]⟩,
 zF 12 3 0,
 zL 13 12,
⟨some 14, none, .r (.lookup true .nilf), [.t 11, .t 13]⟩,
 zM 10 14,
 zP 15 (.ext 0) [.t 10],
 zP 16 (.ext 1) [.t 10],
 zM 5 15,
 zM 6 16] [[], [], [0, 1], [], [], [], [], [], []])
(.seq (.seq (.ops [zM 17 6,
 zP 18 .not [.t 17]])
(.cond (.t 18)
(.seq (.ops [zP 4 .mov [.c (.int .i64 2)]])
.ret)
.skip))
(.seq (.seq (.ops [zM 19 0,
⟨some 20, none, .r (.loadN 6), [.t 3]⟩,
⟨some 21, none, .call, [.c (.func (.func 37) [] []), .t 19, .t 20]⟩,
 zM 7 21])
(.seq (.ops [zM 22 7,
 zP 23 (.bin .neq) [.t 22, .c (.int .i64 0)]])
(.cond (.t 23)
(.seq (.ops [zM 24 7,
 zM 4 24])
.ret)
.skip)))
(.seq (.ops [zM 25 5,
 zM 26 0,
⟨some 27, none, .r (.loadN 6), [.t 3]⟩,
⟨some 28, none, .call, [.t 25, .t 26, .t 27]⟩,
 zM 4 28])
.ret))))))⟩
abbrev f_kernel_Kernel_Do : Nat := 13
abbrev C_kernel_Kernel_Do : AFunc := C13
def C14 : AFunc := ⟨9, [.tmp 2],
(.seq (.ops [zP 2 .mov [.c (.int .i64 0)]])
(.seq (.seq (.ops [zM 3 0,
⟨some 4, none, .call, [.c (.func (.func 29) [] []), .t 3]⟩])
(.cond (.t 4)
(.seq (.ops [zP 2 .mov [.c (.int .i64 0)]])
.ret)
.skip))
(.seq (.ops [zM 5 0,
 zN 6 5,
 zF 7 6 10,
 zL 8 7,
 zM 2 8])
.ret)))⟩
abbrev f_kernel_Kernel_Now : Nat := 14
abbrev C_kernel_Kernel_Now : AFunc := C14
def C15 : AFunc := ⟨11, [.cell 2 2 true],
(.seq (.ops [⟨some 2, none, .a (.alloc [.nils, .nils]), []⟩])
(.seq (.seq (.ops [zM 3 0,
⟨some 4, none, .call, [.c (.func (.func 29) [] []), .t 3]⟩])
(.cond (.t 4)
(.seq (.ops [zP 5 (.build [.nils, .nils] []) [],
 zS 2 [.t 2, .t 5]])
.ret)
.skip))
(.seq (.ops [zM 6 0,
 zN 7 6,
 zF 8 7 4,
⟨some 9, none, .r (.loadN 2), [.t 8]⟩,
⟨some 10, none, .call, [.c (.func (.func 28) [] []), .t 9]⟩,
 zS 2 [.t 2, .t 10]])
.ret)))⟩
abbrev f_kernel_Kernel_Config : Nat := 15
abbrev C_kernel_Kernel_Config : AFunc := C15
def C16 : AFunc := ⟨31, [.tmp 4],
(.seq (.ops [zP 4 .mov [.c (.bool false)]])
(.seq (.ops [zM 5 0,
⟨some 6, none, .call, [.c (.func (.func 29) [] []), .t 5]⟩,
 zP 7 .not [.t 6],
 zM 8 7,
 zMg 9 1 8 true,
 zPg 10 (.bin .geq) [.t 9, .c (.int .i64 0)] 8 true,
 zP 11 .pick [.t 8, .t 10, .c (.bool false)],
 zM 12 11,
 zMg 13 1 12 true,
 zMg 14 0 12 true,
 zNg 15 14 12 true,
 zFg 16 15 11 12 true,
 zLg 17 16 12 true,
 zPg 18 .lenS [.t 17] 12 true,
 zPg 19 (.bin .lss) [.t 13, .t 18] 12 true,
 zP 20 .pick [.t 12, .t 19, .c (.bool false)],
 zM 21 20,
 zMg 22 0 21 true,
 zNg 23 22 21 true,
 zFg 24 23 11 21 true,
 zLg 25 24 21 true,
 zMg 26 1 21 true,
 zPg 27 (.iaddrS 1) [.t 25, .t 26] 21 true,
 zLg 28 27 21 true,
 zPg 29 (.neq .nilptr) [.t 28, .c .nilp] 21 true,
 zP 30 .pick [.t 21, .t 29, .c (.bool false)],
 zM 4 30])
.ret))⟩
abbrev f_kernel_Kernel_In : Nat := 16
abbrev C_kernel_Kernel_In : AFunc := C16
def L_escapementlaw25_works_0 : AC := (.seq (.seq (.ops [zM 72 9,
 zM 73 7,
 zP 74 .lenS [.t 73],
 zP 75 (.bin .lss) [.t 72, .t 74]])
(.cond (.t 75)
.skip
(.exit 0)))
(.seq (.block 1 (.seq (.dops [zM 78 8,
 zM 79 9,
 zP 80 (.iaddrS 7) [.t 78, .t 79],
⟨some 81, none, .r (.loadN 7), [.t 80]⟩,
 zM 82 7,
 zM 83 9,
 zP 84 (.iaddrS 7) [.t 82, .t 83],
⟨some 85, none, .r (.loadN 7), [.t 84]⟩,
 zP 86 (.neq (.cells [0, 0, 0, 0, 0, 0, 2])) [.t 81, .t 85]] [[], [], [], [], [], [], [], [], []])
(.cond (.t 86)
(.seq (.ops [zP 0 .mov [.c (.bool false)]])
.ret)
.skip)))
(.ops [zM 76 9,
 zP 77 (.bin .add) [.t 76, .c (.int .i64 1)],
 zM 9 77])))
def C17 : AFunc := ⟨142, [.tmp 0],
(.seq (.ops [zP 0 .mov [.c (.bool false)]])
(.seq (.ops [zP 16 (.build [(.int .i64 0), (.int .i64 0), (.int .i64 0), (.int .i64 0), (.int .i64 0), (.int .i64 0), (.int .i64 0), (.int .i64 0)] [(0, 1), (1, 1), (2, 1)]) [.c (.int .i64 8), .c (.int .i64 8), .c (.int .i64 2)],
⟨some 17, none, .a (.bslice [(.int .i64 0), (.int .i64 0), (.int .i64 0), (.int .i64 0), (.int .i64 0), (.int .i64 0), (.int .i64 0), (.int .i64 0)] 1 8 [0]), [.t 16]⟩,
 zP 18 (.build [(.int .i64 0), (.int .i64 0), .nils] [(0, 1), (1, 1), (2, 1)]) [.c (.int .i64 4), .c (.int .i64 2), .t 17],
⟨some 19, none, .a (.bslice [(.int .i64 0), (.int .i64 0), .nils] 1 3 [0]), [.t 18]⟩,
 zP 20 (.build [.nils, .nils] [(0, 1)]) [.t 19],
⟨some 21, none, .call, [.c (.func (.func 5) [] []), .t 20]⟩,
 zM 15 21,
 zP 22 (.ext 0) [.t 15],
 zP 23 (.ext 1) [.t 15],
 zM 1 22,
 zM 2 23])
(.seq (.seq (.ops [zM 24 2,
 zP 25 (.bin .neq) [.t 24, .c (.int .i64 0)],
 zM 26 25,
 zMg 27 1 26 false,
 zPg 28 (.eq .nilptr) [.t 27, .c .nilp] 26 false,
 zP 29 .pick [.t 26, .c (.bool true), .t 28]])
(.cond (.t 29)
(.seq (.ops [zP 0 .mov [.c (.bool false)]])
.ret)
.skip))
(.seq (.ops [zM 30 1,
 zP 31 (.build [(.int .i64 0), (.int .i64 0), (.int .i64 0), (.int .i64 0), (.int .i64 0), .nils] [(0, 1), (3, 1)]) [.c (.int .i64 1), .c (.int .i64 1)],
⟨some 32, none, .call, [.c (.func (.func 13) [] []), .t 30, .t 31]⟩,
 zM 3 32])
(.seq (.ops [zM 33 1,
 zP 34 (.build [(.int .i64 0), (.int .i64 0), (.int .i64 0), (.int .i64 0), (.int .i64 0), .nils] [(0, 1)]) [.c (.int .i64 3)],
⟨some 35, none, .call, [.c (.func (.func 13) [] []), .t 33, .t 34]⟩,
 zM 4 35])
(.seq (.ops [zM 36 1,
⟨some 37, none, .call, [.c (.func (.func 38) [] []), .c (.int .i64 2)]⟩,
 zP 38 (.build [(.int .i64 0), (.int .i64 0), (.int .i64 0), (.int .i64 0), (.int .i64 0), .nils] [(0, 1), (5, 1)]) [.c (.int .i64 2), .t 37],
⟨some 39, none, .call, [.c (.func (.func 13) [] []), .t 36, .t 38]⟩,
 zM 5 39])
(.seq (.ops [zM 40 1,
 zP 41 (.build [(.int .i64 0), (.int .i64 0), (.int .i64 0), (.int .i64 0), (.int .i64 0), .nils] [(0, 1), (3, 1)]) [.c (.int .i64 1), .c (.int .i64 4)],
⟨some 42, none, .call, [.c (.func (.func 13) [] []), .t 40, .t 41]⟩,
 zM 6 42])
(.seq (.ops [zP 43 (.build [(.int .i64 0), (.int .i64 0), (.int .i64 0), (.int .i64 0), (.int .i64 0), (.int .i64 0), (.str [])] [(0, 1), (1, 1)]) [.c (.int .i64 1), .c (.int .i64 6)],
 zP 44 (.build [(.int .i64 0), (.int .i64 0), (.int .i64 0), (.int .i64 0), (.int .i64 0), (.int .i64 0), (.str [])] [(0, 1), (1, 1)]) [.c (.int .i64 1), .c (.int .i64 2)],
 zP 45 (.build [(.int .i64 0), (.int .i64 0), (.int .i64 0), (.int .i64 0), (.int .i64 0), (.int .i64 0), (.str [])] [(0, 1), (1, 1)]) [.c (.int .i64 1), .c (.int .i64 1)],
 zP 46 (.build [(.int .i64 0), (.int .i64 0), (.int .i64 0), (.int .i64 0), (.int .i64 0), (.int .i64 0), (.str [])] [(0, 1), (1, 1)]) [.c (.int .i64 2), .c (.int .i64 1)],
 zP 47 (.build [(.int .i64 0), (.int .i64 0), (.int .i64 0), (.int .i64 0), (.int .i64 0), (.int .i64 0), (.str [])] [(0, 1), (1, 1)]) [.c (.int .i64 2), .c (.int .i64 3)],
⟨some 48, none, .a (.bslice [(.int .i64 0), (.int .i64 0), (.int .i64 0), (.int .i64 0), (.int .i64 0), (.int .i64 0), (.str [])] 5 7 [0, 1, 2, 3, 4]), [.t 43, .t 44, .t 45, .t 46, .t 47]⟩,
 zM 7 48])
(.seq (.ops [zM 49 1,
⟨some 50, none, .call, [.c (.func (.func 9) [] []), .t 49]⟩,
 zM 8 50])
(.seq (.seq (.ops [zM 51 3,
 zP 52 (.bin .neq) [.t 51, .c (.int .i64 0)],
 zM 53 52,
 zMg 54 4 53 false,
 zPg 55 (.bin .neq) [.t 54, .c (.int .i64 0)] 53 false,
 zP 56 .pick [.t 53, .c (.bool true), .t 55],
 zM 57 56,
 zMg 58 5 57 false,
 zPg 59 (.bin .neq) [.t 58, .c (.int .i64 0)] 57 false,
 zP 60 .pick [.t 57, .c (.bool true), .t 59],
 zM 61 60,
 zMg 62 6 61 false,
 zPg 63 (.bin .neq) [.t 62, .c (.int .i64 0)] 61 false,
 zP 64 .pick [.t 61, .c (.bool true), .t 63],
 zM 65 64,
 zMg 66 8 65 false,
 zPg 67 .lenS [.t 66] 65 false,
 zMg 68 7 65 false,
 zPg 69 .lenS [.t 68] 65 false,
 zPg 70 (.bin .neq) [.t 67, .t 69] 65 false,
 zP 71 .pick [.t 65, .c (.bool true), .t 70]])
(.cond (.t 71)
(.seq (.ops [zP 0 .mov [.c (.bool false)]])
.ret)
.skip))
(.seq (.seq (.ops [zP 9 .mov [.c (.int .i64 0)]])
(.block 0 (.loop L_escapementlaw25_works_0)))
(.seq (.ops [zM 88 1,
⟨some 89, none, .call, [.c (.func (.func 12) [] []), .t 88, .c (.int .i64 0)]⟩,
 zM 87 89,
 zP 90 (.ext 0) [.t 87],
 zP 91 (.ext 1) [.t 87],
 zM 10 90,
 zM 11 91])
(.seq (.ops [zM 92 1,
⟨some 93, none, .call, [.c (.func (.func 38) [] []), .c (.int .i64 1)]⟩,
 zP 94 (.build [(.int .i64 0), (.int .i64 0), (.int .i64 0), (.int .i64 0), (.int .i64 0), .nils] [(0, 1), (5, 1)]) [.c (.int .i64 2), .t 93],
⟨some 95, none, .call, [.c (.func (.func 13) [] []), .t 92, .t 94]⟩,
 zM 12 95])
(.seq (.ops [zM 96 1,
 zP 97 (.build [(.int .i64 0), (.int .i64 0), (.int .i64 0), (.int .i64 0), (.int .i64 0), .nils] [(0, 1)]) [.c (.int .i64 4)],
⟨some 98, none, .call, [.c (.func (.func 13) [] []), .t 96, .t 97]⟩,
 zM 13 98])
(.seq (.ops [zM 99 1,
 zP 100 (.build [(.int .i64 0), (.int .i64 0), (.int .i64 0), (.int .i64 0), (.int .i64 0), .nils] [(0, 1), (3, 1)]) [.c (.int .i64 1), .c (.int .i64 1)],
⟨some 101, none, .call, [.c (.func (.func 13) [] []), .t 99, .t 100]⟩,
 zM 14 101])
(.seq (.ops [zM 102 1,
⟨some 103, none, .call, [.c (.func (.func 9) [] []), .t 102]⟩,
 zM 8 103])
(.seq (.ops [zM 104 1,
⟨some 105, none, .call, [.c (.func (.func 14) [] []), .t 104]⟩,
 zP 106 (.bin .eql) [.t 105, .c (.int .i64 6)],
 zM 107 106,
 zMg 108 10 107 true,
 zPg 109 (.bin .eql) [.t 108, .c (.int .i64 0)] 107 true,
 zP 110 .pick [.t 107, .t 109, .c (.bool false)],
 zM 111 110,
 zMg 112 11 111 true,
 zPg 113 (.bin .eql) [.t 112, .c (.int .i64 5)] 111 true,
 zP 114 .pick [.t 111, .t 113, .c (.bool false)],
 zM 115 114,
 zMg 116 12 115 true,
 zPg 117 (.bin .eql) [.t 116, .c (.int .i64 140)] 115 true,
 zP 118 .pick [.t 115, .t 117, .c (.bool false)],
 zM 119 118,
 zMg 120 13 119 true,
 zPg 121 (.bin .eql) [.t 120, .c (.int .i64 0)] 119 true,
 zP 122 .pick [.t 119, .t 121, .c (.bool false)],
 zM 123 122,
 zMg 124 14 123 true,
 zPg 125 (.bin .eql) [.t 124, .c (.int .i64 0)] 123 true,
 zP 126 .pick [.t 123, .t 125, .c (.bool false)],
 zM 127 126,
 zMg 128 1 127 true,
⟨some 129, some (127, true), .call, [.c (.func (.func 16) [] []), .t 128, .c (.int .i64 0)]⟩,
 zPg 130 .not [.t 129] 127 true,
 zP 131 .pick [.t 127, .t 130, .c (.bool false)],
 zM 132 131,
 zMg 133 8 132 true,
 zMg 134 8 132 true,
 zPg 135 .lenS [.t 134] 132 true,
 zPg 136 (.bin .sub) [.t 135, .c (.int .i64 1)] 132 true,
 zPg 137 (.iaddrS 7) [.t 133, .t 136] 132 true,
⟨some 138, some (132, true), .r (.loadN 7), [.t 137]⟩,
 zPg 139 (.build [(.int .i64 0), (.int .i64 0), (.int .i64 0), (.int .i64 0), (.int .i64 0), (.int .i64 0), (.str [])] [(0, 1), (1, 1)]) [.c (.int .i64 5), .c (.int .i64 7)] 132 true,
 zPg 140 (.eq (.cells [0, 0, 0, 0, 0, 0, 2])) [.t 138, .t 139] 132 true,
 zP 141 .pick [.t 132, .t 140, .c (.bool false)],
 zM 0 141])
.ret)))))))))))))))))⟩
abbrev f_escapementlaw25_works : Nat := 17
abbrev C_escapementlaw25_works : AFunc := C17
def C23 : AFunc := ⟨27, [.tmp 2],
(.seq (.ops [⟨some 1, none, .a .box, [.t 0]⟩,
 zP 2 .mov [.c (.int .i64 0)]])
(.seq (.ops [zF 4 1 0,
 zL 5 4,
⟨some 6, none, .call, [.c (.func (.func 51) [] []), .t 5, .c (.func (.func 52) [] [])]⟩,
 zM 7 6,
 zFg 8 1 1 7 false,
 zLg 9 8 7 false,
 zPg 10 (.mkfunc (.func 55) 0) [.t 1] 7 false,
⟨some 11, some (7, false), .call, [.c (.func (.func 54) [] []), .t 9, .t 10]⟩,
 zP 12 .pick [.t 7, .c (.bool true), .t 11],
 zM 3 12])
(.seq (.seq (.ops [zM 13 3,
 zM 14 13,
 zFg 15 1 0 14 false,
 zLg 16 15 14 false,
 zPg 17 .lenS [.t 16] 14 false,
⟨some 18, some (14, false), .call, [.c (.func (.func 57) [] []), .t 17, .c (.int .i64 1), .c (.int .i64 4)]⟩,
 zPg 19 .not [.t 18] 14 false,
 zP 20 .pick [.t 14, .c (.bool true), .t 19],
 zM 21 20,
 zFg 22 1 1 21 false,
 zLg 23 22 21 false,
 zPg 24 .lenS [.t 23] 21 false,
 zPg 25 (.bin .gtr) [.t 24, .c (.int .i64 8)] 21 false,
 zP 26 .pick [.t 21, .c (.bool true), .t 25]])
(.cond (.t 26)
(.seq (.ops [zP 2 .mov [.c (.int .i64 50)]])
.ret)
.skip))
(.seq (.ops [zP 2 .mov [.c (.int .i64 0)]])
.ret))))⟩
abbrev f_conf_Check : Nat := 23
abbrev C_conf_Check : AFunc := C23
def L_route_New_0 : AC := (.seq (.ops [zP 17 (.bin .lss) [.t 16, .t 15]])
(.seq (.cond (.t 17)
.skip
(.exit 0))
(.seq (.block 1 (.seq (.ops [zP 18 (.iaddrS 6) [.t 14, .t 16],
⟨some 19, none, .r (.loadN 6), [.t 18]⟩,
⟨some 6, none, .a (.alloc [(.int .i64 0), (.int .i64 0), (.int .i64 0), (.int .i64 0), (.int .i64 0), (.int .i64 0)]), []⟩,
 zS 6 [.t 6, .t 19]])
(.seq (.ops [⟨some 21, none, .r (.loadN 6), [.t 6]⟩,
⟨some 22, none, .call, [.c (.func (.func 58) [] []), .t 21]⟩,
 zM 20 22,
 zP 23 (.ext 0) [.t 20],
 zP 24 (.ext 1) [.t 20],
 zM 7 23,
 zM 8 24])
(.seq (.seq (.ops [zM 25 8,
 zP 26 (.bin .neq) [.t 25, .c (.int .i64 0)]])
(.cond (.t 26)
(.seq (.ops [zM 27 8,
 zP 2 .mov [.c .nilp],
 zM 3 27])
.ret)
.skip))
(.dops [zM 28 4,
 zM 29 4,
 zN 30 29,
 zF 31 30 0,
 zL 32 31,
 zM 33 7,
 zF 34 6 1,
 zL 35 34,
 zF 36 6 2,
 zL 37 36,
 zP 38 (.build [.nilp, (.int .i64 0), (.int .i64 0)] [(0, 1), (1, 1), (2, 1)]) [.t 33, .t 35, .t 37],
⟨some 39, none, .a .box, [.t 38]⟩,
⟨some 40, none, .a (.bslice [.nilp] 1 1 [0]), [.t 39]⟩,
⟨some 41, none, .e (.append 1 8), [.t 32, .t 40]⟩,
 zN 42 28,
 zF 43 42 0,
 zS 1 [.t 43, .t 41]] [[], [], [], [], [], [], [], [], [], [], [], [], [], [], [], [], []])))))
(.ops [zP 44 (.bin .add) [.t 16, .c (.int .i64 1)],
 zM 16 44]))))
def C24 : AFunc := ⟨46, [.tmp 2, .tmp 3],
(.seq (.ops [zP 2 .mov [.c .nilp],
 zP 3 .mov [.c (.int .i64 0)]])
(.seq (.seq (.ops [zM 9 0,
 zP 10 .lenS [.t 9],
 zP 11 (.bin .gtr) [.t 10, .c (.int .i64 8)]])
(.cond (.t 11)
(.seq (.ops [zP 2 .mov [.c .nilp],
 zP 3 .mov [.c (.int .i64 5)]])
.ret)
.skip))
(.seq (.ops [zP 12 (.build [.nils, (.bool false)] [(1, 1)]) [.c (.bool true)],
⟨some 13, none, .a .box, [.t 12]⟩,
 zM 4 13])
(.seq (.seq (.ops [zM 14 0,
 zP 15 .lenS [.t 14],
 zP 16 .mov [.c (.int .i64 0)]])
(.block 0 (.loop L_route_New_0)))
(.seq (.ops [zM 45 4,
 zM 2 45,
 zP 3 .mov [.c (.int .i64 0)]])
.ret)))))⟩
abbrev f_route_New : Nat := 24
abbrev C_route_New : AFunc := C24
def C25 : AFunc := ⟨3, [.tmp 0],
(.seq (.ops [zP 0 .mov [.c .nilp]])
(.seq (.ops [zP 1 (.build [(.bool false), .nils, (.bool false), .nils, (.bool false), .nils, (.bool false), .nils, (.bool false)] [(0, 1)]) [.c (.bool true)],
⟨some 2, none, .a .box, [.t 1]⟩,
 zM 0 2])
.ret))⟩
abbrev f_claim_New : Nat := 25
abbrev C_claim_New : AFunc := C25
def L_health_New_0 : AC := (.seq (.ops [zP 8 (.bin .lss) [.t 7, .c (.int .i64 4)]])
(.seq (.cond (.t 8)
.skip
(.exit 0))
(.seq (.block 1 (.seq (.ops [zM 9 7,
 zM 3 9])
(.dops [zM 10 1,
 zM 11 3,
⟨some 12, none, .r (.loadN 5), [.t 2]⟩,
 zN 13 10,
 zF 14 13 1,
 zP 15 (.iaddrA 5 4) [.t 14, .t 11],
 zS 5 [.t 15, .t 12]] [[], [], [], [], [], [], []])))
(.ops [zP 16 (.bin .add) [.t 7, .c (.int .i64 1)],
 zM 7 16]))))
def C26 : AFunc := ⟨18, [.tmp 0],
(.seq (.ops [zP 0 .mov [.c .nilp]])
(.seq (.ops [zP 4 (.build [(.bool false), (.int .i64 0), (.int .i64 0), (.int .i64 0), (.int .i64 0), (.int .i64 0), (.int .i64 0), (.int .i64 0), (.int .i64 0), (.int .i64 0), (.int .i64 0), (.int .i64 0), (.int .i64 0), (.int .i64 0), (.int .i64 0), (.int .i64 0), (.int .i64 0), (.int .i64 0), (.int .i64 0), (.int .i64 0), (.int .i64 0), (.int .i64 0), (.int .i64 0), (.int .i64 0), (.int .i64 0), (.int .i64 0), (.int .i64 0), (.int .i64 0), (.int .i64 0), (.int .i64 0), (.int .i64 0), (.int .i64 0), (.int .i64 0), (.int .i64 0), (.int .i64 0), (.int .i64 0), (.int .i64 0), (.int .i64 0), (.int .i64 0), (.int .i64 0), (.int .i64 0), (.int .i64 0), (.int .i64 0), (.int .i64 0), (.int .i64 0)] [(0, 1)]) [.c (.bool true)],
⟨some 5, none, .a .box, [.t 4]⟩,
 zM 1 5])
(.seq (.ops [zP 6 (.build [(.int .i64 0), (.int .i64 0), (.int .i64 0), (.int .i64 0), (.int .i64 0)] [(1, 1), (2, 1), (3, 1)]) [.c (.int .i64 1), .c (.int .i64 1), .c (.int .i64 1)],
⟨some 2, none, .a (.alloc [(.int .i64 0), (.int .i64 0), (.int .i64 0), (.int .i64 0), (.int .i64 0)]), []⟩,
 zS 5 [.t 2, .t 6]])
(.seq (.seq (.ops [zP 7 .mov [.c (.int .i64 0)]])
(.block 0 (.loop L_health_New_0)))
(.seq (.ops [zM 17 1,
 zM 0 17])
.ret)))))⟩
abbrev f_health_New : Nat := 26
abbrev C_health_New : AFunc := C26
def C27 : AFunc := ⟨4, [.tmp 0],
(.seq (.ops [zP 0 .mov [.c .nilp]])
(.seq (.ops [⟨some 1, none, .call, [.c (.func (.func 59) [] [])]⟩,
 zP 2 (.build [.nilp] [(0, 1)]) [.t 1],
⟨some 3, none, .a .box, [.t 2]⟩,
 zM 0 3])
.ret))⟩
abbrev f_bell_New : Nat := 27
abbrev C_bell_New : AFunc := C27
def L_kernel_copied_0 : AC := (.seq (.ops [zP 16 (.bin .lss) [.t 15, .t 14]])
(.seq (.cond (.t 16)
.skip
(.exit 0))
(.seq (.block 1 (.seq (.ops [zM 17 15,
 zM 4 17])
(.dops [zF 18 3 0,
 zL 19 18,
 zM 20 4,
 zF 21 3 0,
 zL 22 21,
 zM 23 4,
 zP 24 (.iaddrS 3) [.t 22, .t 23],
 zF 25 24 2,
 zL 26 25,
⟨some 27, none, .call, [.c (.func (.func 62) [] []), .t 26]⟩,
 zP 28 (.iaddrS 3) [.t 19, .t 20],
 zF 29 28 2,
 zS 1 [.t 29, .t 27]] [[], [0, 10], [], [], [], [], [], [], [], [], [], [], []])))
(.ops [zP 30 (.bin .add) [.t 15, .c (.int .i64 1)],
 zM 15 30]))))
def C28 : AFunc := ⟨32, [.cell 2 2 true],
(.seq (.ops [⟨some 1, none, .a .box, [.t 0]⟩,
⟨some 2, none, .a (.alloc [.nils, .nils]), []⟩])
(.seq (.dops [zF 5 1 0,
 zL 6 5,
⟨some 7, none, .call, [.c (.func (.func 60) [] []), .t 6]⟩,
 zF 8 1 1,
 zL 9 8,
⟨some 10, none, .call, [.c (.func (.func 61) [] []), .t 9]⟩,
 zP 11 (.build [.nils, .nils] [(0, 1), (1, 1)]) [.t 7, .t 10],
⟨some 3, none, .a (.alloc [.nils, .nils]), []⟩,
 zS 2 [.t 3, .t 11]] [[], [], [], [], [0, 3], [], [], [], []])
(.seq (.seq (.ops [zF 12 3 0,
 zL 13 12,
 zP 14 .lenS [.t 13],
 zP 15 .mov [.c (.int .i64 0)]])
(.block 0 (.loop L_kernel_copied_0)))
(.seq (.ops [⟨some 31, none, .r (.loadN 2), [.t 3]⟩,
 zS 2 [.t 2, .t 31]])
.ret))))⟩
abbrev f_kernel_copied : Nat := 28
abbrev C_kernel_copied : AFunc := C28
def C29 : AFunc := ⟨12, [.tmp 2],
(.seq (.ops [zP 2 .mov [.c (.bool false)]])
(.seq (.ops [zM 3 0,
 zP 4 (.eq .nilptr) [.t 3, .c .nilp],
 zM 5 4,
 zMg 6 0 5 false,
 zNg 7 6 5 false,
 zFg 8 7 11 5 false,
 zLg 9 8 5 false,
 zPg 10 (.eq .nilsl) [.t 9, .c .nils] 5 false,
 zP 11 .pick [.t 5, .c (.bool true), .t 10],
 zM 2 11])
.ret))⟩
abbrev f_kernel_Kernel_none : Nat := 29
abbrev C_kernel_Kernel_none : AFunc := C29
def C30 : AFunc := ⟨25, [.tmp 4, .tmp 5],
(.seq (.ops [zP 4 .mov [.c (.int .i64 0)],
 zP 5 .mov [.c (.bool false)]])
(.seq (.ops [zM 7 0,
 zM 8 1,
⟨some 9, none, .call, [.c (.func (.func 63) [] []), .t 7, .t 8]⟩,
 zM 6 9])
(.seq (.seq (.ops [zM 10 6,
 zP 11 (.eq .nilptr) [.t 10, .c .nilp],
 zM 12 11,
 zMg 13 6 12 false,
 zNg 14 13 12 false,
 zFg 15 14 1 12 false,
 zLg 16 15 12 false,
 zPg 17 .not [.t 16] 12 false,
 zP 18 .pick [.t 12, .c (.bool true), .t 17]])
(.cond (.t 18)
(.seq (.ops [zP 4 .mov [.c (.int .i64 0)],
 zP 5 .mov [.c (.bool false)]])
.ret)
.skip))
(.seq (.ops [zM 19 6,
 zN 20 19,
 zF 21 20 0,
 zL 22 21,
 zP 23 (.iaddrS 1) [.t 22, .c (.int .i64 0)],
 zL 24 23,
 zM 4 24,
 zP 5 .mov [.c (.bool true)]])
.ret))))⟩
abbrev f_claim_Claim_Holder : Nat := 30
abbrev C_claim_Claim_Holder : AFunc := C30
def C31 : AFunc := ⟨8, [.tmp 2],
(.seq (.ops [zP 2 .mov [.c .nils]])
(.seq (.seq (.ops [zM 3 0,
 zP 4 (.eq .nilsl) [.t 3, .c .nils]])
(.cond (.t 4)
(.seq (.ops [zP 2 .mov [.c .nils]])
.ret)
.skip))
(.seq (.ops [⟨some 5, none, .a (.bslice [(.int .i64 0), (.int .i64 0), (.int .i64 0), (.int .i64 0), (.int .i64 0), (.int .i64 0), (.str [])] 0 7 []), []⟩,
 zM 6 0,
⟨some 7, none, .e (.append 7 64), [.t 5, .t 6]⟩,
 zM 2 7])
.ret)))⟩
abbrev f_slices_Clone_api_Note_api_Note : Nat := 31
abbrev C_slices_Clone_api_Note_api_Note : AFunc := C31
def C32 : AFunc := ⟨10, [.tmp 2],
(.seq (.ops [zP 2 .mov [.c .nils]])
(.seq (.seq (.ops [zM 3 0,
⟨some 4, none, .call, [.c (.func (.func 64) [] []), .t 3]⟩])
(.cond (.t 4)
(.seq (.ops [zP 2 .mov [.c .nils]])
.ret)
.skip))
(.seq (.ops [zM 5 0,
 zN 6 5,
 zF 7 6 1,
 zL 8 7,
⟨some 9, none, .call, [.c (.func (.func 65) [] []), .t 8]⟩,
 zM 2 9])
.ret)))⟩
abbrev f_room_Room_Jobs : Nat := 32
abbrev C_room_Room_Jobs : AFunc := C32
def C33 : AFunc := ⟨20, [.tmp 6],
(.seq (.ops [zP 6 .mov [.c (.int .i64 0)]])
(.seq (.seq (.ops [zM 7 0,
 zM 8 1,
 zM 9 2,
⟨some 10, none, .call, [.c (.func (.func 66) [] []), .t 7, .t 8, .t 9]⟩,
 zP 11 (.bin .neq) [.t 10, .c (.int .i64 0)]])
(.cond (.t 11)
(.seq (.ops [zP 6 .mov [.c (.int .i64 0)]])
.ret)
.skip))
(.seq (.ops [zM 12 0,
 zM 13 1,
 zM 14 2,
 zN 15 12,
 zF 16 15 21,
 zP 17 (.iaddrA 5 4) [.t 16, .t 13],
 zP 18 (.iaddrA 1 5) [.t 17, .t 14],
 zL 19 18,
 zM 6 19])
.ret)))⟩
abbrev f_health_Monitor_Count : Nat := 33
abbrev C_health_Monitor_Count : AFunc := C33
def C34 : AFunc := ⟨9, [.tmp 2],
(.seq (.ops [zP 2 .mov [.c (.int .i64 0)]])
(.seq (.seq (.ops [zM 3 0,
⟨some 4, none, .call, [.c (.func (.func 67) [] []), .t 3]⟩])
(.cond (.t 4)
(.seq (.ops [zP 2 .mov [.c (.int .i64 0)]])
.ret)
.skip))
(.seq (.ops [zM 5 0,
 zN 6 5,
 zF 7 6 2,
 zL 8 7,
 zM 2 8])
.ret)))⟩
abbrev f_purse_Purse_Left : Nat := 34
abbrev C_purse_Purse_Left : AFunc := C34
def C35 : AFunc := ⟨9, [.tmp 2],
(.seq (.ops [zP 2 .mov [.c (.int .i64 0)]])
(.seq (.seq (.ops [zM 3 0,
⟨some 4, none, .call, [.c (.func (.func 67) [] []), .t 3]⟩])
(.cond (.t 4)
(.seq (.ops [zP 2 .mov [.c (.int .i64 0)]])
.ret)
.skip))
(.seq (.ops [zM 5 0,
 zN 6 5,
 zF 7 6 3,
 zL 8 7,
 zM 2 8])
.ret)))⟩
abbrev f_purse_Purse_Ends : Nat := 35
abbrev C_purse_Purse_Ends : AFunc := C35
def C36 : AFunc := ⟨3, [.tmp 0],
(.seq (.ops [zP 0 .mov [.c .nilm]])
(.seq (.ops [⟨some 1, none, .a .mkmap, []⟩,
⟨none, none, .e .ins, [.t 1, .c (.int .i64 1), .c (.func (.func 68) [] [])]⟩,
⟨none, none, .e .ins, [.t 1, .c (.int .i64 2), .c (.func (.func 69) [] [])]⟩,
⟨none, none, .e .ins, [.t 1, .c (.int .i64 3), .c (.func (.func 70) [] [])]⟩,
⟨none, none, .e .ins, [.t 1, .c (.int .i64 4), .c (.func (.func 71) [] [])]⟩,
⟨none, none, .e .ins, [.t 1, .c (.int .i64 5), .c (.func (.func 72) [] [])]⟩,
⟨none, none, .e .ins, [.t 1, .c (.int .i64 6), .c (.func (.func 73) [] [])]⟩,
⟨none, none, .e .ins, [.t 1, .c (.int .i64 7), .c (.func (.func 74) [] [])]⟩,
⟨none, none, .e .ins, [.t 1, .c (.int .i64 8), .c (.func (.func 75) [] [])]⟩,
 zM 2 1,
 zM 0 2])
.ret))⟩
abbrev f_kernel_commands : Nat := 36
abbrev C_kernel_commands : AFunc := C36
def C37 : AFunc := ⟨63, [.tmp 4],
(.seq (.ops [⟨some 3, none, .a .box, [.t 1]⟩,
 zP 4 .mov [.c (.int .i64 0)]])
(.seq (.seq (.ops [zF 5 3 0,
 zL 6 5,
 zP 7 (.bin .eql) [.t 6, .c (.int .i64 1)]])
(.cond (.t 7)
(.seq (.ops [zP 4 .mov [.c (.int .i64 0)]])
.ret)
.skip))
(.seq (.seq (.dops [zF 8 3 1,
 zL 9 8,
 zP 10 (.bin .lss) [.t 9, .c (.int .i64 0)],
 zM 11 10,
 zFg 12 3 1 11 false,
 zLg 13 12 11 false,
 zMg 14 0 11 false,
 zNg 15 14 11 false,
 zFg 16 15 11 11 false,
 zLg 17 16 11 false,
 zPg 18 .lenS [.t 17] 11 false,
 zPg 19 (.bin .geq) [.t 13, .t 18] 11 false,
 zP 20 .pick [.t 11, .c (.bool true), .t 19]] [[], [], [], [], [], [], [], [], [], [], [], [], []])
(.cond (.t 20)
(.seq (.ops [zP 4 .mov [.c (.int .i64 9)]])
.ret)
.skip))
(.seq (.seq (.ops [zF 21 3 0,
 zL 22 21,
 zP 23 (.bin .eql) [.t 22, .c (.int .i64 2)],
 zM 24 23,
 zFg 25 3 0 24 false,
 zLg 26 25 24 false,
 zPg 27 (.bin .eql) [.t 26, .c (.int .i64 6)] 24 false,
 zP 28 .pick [.t 24, .c (.bool true), .t 27]])
(.cond (.t 28)
(.seq (.dops [zF 29 3 2,
 zL 30 29,
 zP 31 (.bin .lss) [.t 30, .c (.int .i64 0)],
 zM 32 31,
 zFg 33 3 2 32 false,
 zLg 34 33 32 false,
 zMg 35 0 32 false,
 zNg 36 35 32 false,
 zFg 37 36 4 32 false,
 zFg 38 37 0 32 false,
 zLg 39 38 32 false,
 zFg 40 3 1 32 false,
 zLg 41 40 32 false,
 zPg 42 (.iaddrS 3) [.t 39, .t 41] 32 false,
 zFg 43 42 2 32 false,
 zLg 44 43 32 false,
 zPg 45 .lenS [.t 44] 32 false,
 zPg 46 (.bin .geq) [.t 34, .t 45] 32 false,
 zP 47 .pick [.t 32, .c (.bool true), .t 46]] [[], [], [], [], [], [], [], [], [], [], [], [], [], [], [], [], [], [], []])
(.cond (.t 47)
(.seq (.ops [zP 4 .mov [.c (.int .i64 9)]])
.ret)
.skip))
.skip))
(.seq (.seq (.ops [zF 48 3 0,
 zL 49 48,
 zP 50 (.bin .neq) [.t 49, .c (.int .i64 3)],
 zM 51 50,
 zFg 52 3 0 51 true,
 zLg 53 52 51 true,
 zPg 54 (.bin .neq) [.t 53, .c (.int .i64 8)] 51 true,
 zP 55 .pick [.t 51, .t 54, .c (.bool false)],
 zM 56 55,
 zMg 57 0 56 true,
 zFg 58 3 1 56 true,
 zLg 59 58 56 true,
⟨some 60, some (56, true), .call, [.c (.func (.func 16) [] []), .t 57, .t 59]⟩,
 zPg 61 .not [.t 60] 56 true,
 zP 62 .pick [.t 56, .t 61, .c (.bool false)]])
(.cond (.t 62)
(.seq (.ops [zP 4 .mov [.c (.int .i64 250)]])
.ret)
.skip))
(.seq (.ops [zP 4 .mov [.c (.int .i64 0)]])
.ret))))))⟩
abbrev f_kernel_Kernel_asked : Nat := 37
abbrev C_kernel_Kernel_asked : AFunc := C37
def C38 : AFunc := ⟨6, [.tmp 2],
(.seq (.ops [zP 2 .mov [.c .nils]])
(.seq (.ops [zM 3 0,
 zP 4 (.build [(.int .i64 0), (.int .i64 0), (.str [])] [(0, 1), (1, 1)]) [.c (.int .i64 1), .t 3],
⟨some 5, none, .a (.bslice [(.int .i64 0), (.int .i64 0), (.str [])] 1 3 [0]), [.t 4]⟩,
 zM 2 5])
.ret))⟩
abbrev f_escapementlaw25_run : Nat := 38
abbrev C_escapementlaw25_run : AFunc := C38
def C47 : AFunc := ⟨8, [.tmp 2],
(.seq (.ops [zP 2 .mov [.c .nils]])
(.seq (.seq (.ops [zM 3 0,
 zP 4 (.eq .nilsl) [.t 3, .c .nils]])
(.cond (.t 4)
(.seq (.ops [zP 2 .mov [.c .nils]])
.ret)
.skip))
(.seq (.ops [⟨some 5, none, .a (.bslice [(.int .i64 0), (.int .i64 0), (.str [])] 0 3 []), []⟩,
 zM 6 0,
⟨some 7, none, .e (.append 3 32), [.t 5, .t 6]⟩,
 zM 2 7])
.ret)))⟩
abbrev f_slices_Clone_api_Op_api_Op : Nat := 47
abbrev C_slices_Clone_api_Op_api_Op : AFunc := C47
def C51 : AFunc := ⟨9, [.tmp 4],
(.seq (.ops [zP 4 .mov [.c (.bool false)]])
(.seq (.ops [zM 5 0,
 zM 6 1,
⟨some 7, none, .call, [.c (.func (.func 86) [] []), .t 5, .t 6]⟩,
 zP 8 (.bin .geq) [.t 7, .c (.int .i64 0)],
 zM 4 8])
.ret))⟩
abbrev f_slices_ContainsFunc_api_Part_api_Part : Nat := 51
abbrev C_slices_ContainsFunc_api_Part_api_Part : AFunc := C51
def C52 : AFunc := ⟨6, [.tmp 2],
(.seq (.ops [⟨some 1, none, .a .box, [.t 0]⟩,
 zP 2 .mov [.c (.bool false)]])
(.seq (.ops [⟨some 3, none, .r (.loadN 3), [.t 1]⟩,
⟨some 4, none, .call, [.c (.func (.func 53) [] []), .t 3]⟩,
 zP 5 .not [.t 4],
 zM 2 5])
.ret))⟩
abbrev f_conf_Check_1 : Nat := 52
abbrev C_conf_Check_1 : AFunc := C52
def C53 : AFunc := ⟨26, [.tmp 2],
(.seq (.ops [⟨some 1, none, .a .box, [.t 0]⟩,
 zP 2 .mov [.c (.bool false)]])
(.seq (.seq (.ops [zF 3 1 0,
 zL 4 3,
⟨some 5, none, .call, [.c (.func (.func 57) [] []), .t 4, .c (.int .i64 1), .c (.int .i64 64)]⟩,
 zP 6 .not [.t 5],
 zM 7 6,
 zFg 8 1 1 7 false,
 zLg 9 8 7 false,
 zFg 10 1 0 7 false,
 zLg 11 10 7 false,
⟨some 12, some (7, false), .call, [.c (.func (.func 57) [] []), .t 9, .c (.int .i64 1), .t 11]⟩,
 zPg 13 .not [.t 12] 7 false,
 zP 14 .pick [.t 7, .c (.bool true), .t 13],
 zM 15 14,
 zFg 16 1 2 15 false,
 zLg 17 16 15 false,
 zPg 18 .lenS [.t 17] 15 false,
 zPg 19 (.bin .gtr) [.t 18, .c (.int .i64 4)] 15 false,
 zP 20 .pick [.t 15, .c (.bool true), .t 19]])
(.cond (.t 20)
(.seq (.ops [zP 2 .mov [.c (.bool false)]])
.ret)
.skip))
(.seq (.ops [zF 21 1 2,
 zL 22 21,
 zP 23 (.mkfunc (.func 88) 0) [.t 1],
⟨some 24, none, .call, [.c (.func (.func 87) [] []), .t 22, .t 23]⟩,
 zP 25 .not [.t 24],
 zM 2 25])
.ret)))⟩
abbrev f_conf_partMay : Nat := 53
abbrev C_conf_partMay : AFunc := C53
def C54 : AFunc := ⟨9, [.tmp 4],
(.seq (.ops [zP 4 .mov [.c (.bool false)]])
(.seq (.ops [zM 5 0,
 zM 6 1,
⟨some 7, none, .call, [.c (.func (.func 90) [] []), .t 5, .t 6]⟩,
 zP 8 (.bin .geq) [.t 7, .c (.int .i64 0)],
 zM 4 8])
.ret))⟩
abbrev f_slices_ContainsFunc_api_Port_api_Port : Nat := 54
abbrev C_slices_ContainsFunc_api_Port_api_Port : AFunc := C54
def C55 : AFunc := ⟨10, [.tmp 3],
(.seq (.ops [⟨some 2, none, .a .box, [.t 0]⟩,
 zP 3 .mov [.c (.bool false)]])
(.seq (.ops [⟨some 4, none, .r (.loadN 6), [.t 2]⟩,
 zF 5 1 0,
 zL 6 5,
 zP 7 .lenS [.t 6],
⟨some 8, none, .call, [.c (.func (.func 56) [] []), .t 4, .t 7]⟩,
 zP 9 .not [.t 8],
 zM 3 9])
.ret))⟩
abbrev f_conf_Check_2 : Nat := 55
abbrev C_conf_Check_2 : AFunc := C55
def C56 : AFunc := ⟨55, [.tmp 4],
(.seq (.ops [⟨some 2, none, .a .box, [.t 0]⟩,
 zP 4 .mov [.c (.bool false)]])
(.seq (.ops [zP 5 .mov [.c (.bool false)]])
(.seq (.seq (.ops [zF 6 2 0,
 zL 7 6])
(.block 0 (.seq (.ops [zP 9 (.bin .eql) [.t 7, .c (.int .i64 1)],
 zM 8 9])
(.cond (.t 8)
(.ops [zF 10 2 4,
 zL 11 10,
 zP 12 (.bin .eql) [.t 11, .c (.int .i64 0)],
 zM 13 12,
 zFg 14 2 5 13 true,
 zLg 15 14 13 true,
⟨some 16, some (13, true), .call, [.c (.func (.func 57) [] []), .t 15, .c (.int .i64 1), .c (.int .i64 64)]⟩,
 zP 17 .pick [.t 13, .t 16, .c (.bool false)],
 zM 5 17])
(.seq (.ops [zP 19 (.bin .eql) [.t 7, .c (.int .i64 2)],
 zM 18 19])
(.cond (.t 18)
(.ops [zF 20 2 5,
 zL 21 20,
 zP 22 (.bin .eql) [.t 21, .c (.int .i64 0)],
 zM 23 22,
 zFg 24 2 4 23 true,
 zLg 25 24 23 true,
⟨some 26, some (23, true), .call, [.c (.func (.func 57) [] []), .t 25, .c (.int .i64 1), .c (.int .i64 4)]⟩,
 zP 27 .pick [.t 23, .t 26, .c (.bool false)],
 zM 5 27])
.skip))))))
(.seq (.ops [zM 28 5,
 zM 29 28,
 zFg 30 2 1 29 true,
 zLg 31 30 29 true,
 zMg 32 1 29 true,
 zPg 33 (.bin .sub) [.t 32, .c (.int .i64 1)] 29 true,
⟨some 34, some (29, true), .call, [.c (.func (.func 57) [] []), .t 31, .c (.int .i64 0), .t 33]⟩,
 zP 35 .pick [.t 29, .t 34, .c (.bool false)],
 zM 36 35,
 zFg 37 2 2 36 true,
 zLg 38 37 36 true,
 zMg 39 1 36 true,
 zPg 40 (.bin .sub) [.t 39, .c (.int .i64 1)] 36 true,
⟨some 41, some (36, true), .call, [.c (.func (.func 57) [] []), .t 38, .c (.int .i64 0), .t 40]⟩,
 zP 42 .pick [.t 36, .t 41, .c (.bool false)],
 zM 43 42,
 zFg 44 2 1 43 true,
 zLg 45 44 43 true,
 zFg 46 2 2 43 true,
 zLg 47 46 43 true,
 zPg 48 (.bin .neq) [.t 45, .t 47] 43 true,
 zP 49 .pick [.t 43, .t 48, .c (.bool false)],
 zM 50 49,
 zFg 51 2 3 50 true,
 zLg 52 51 50 true,
⟨some 53, some (50, true), .call, [.c (.func (.func 57) [] []), .t 52, .c (.int .i64 1), .c (.int .i64 16)]⟩,
 zP 54 .pick [.t 50, .t 53, .c (.bool false)],
 zM 4 54])
.ret))))⟩
abbrev f_conf_portMay : Nat := 56
abbrev C_conf_portMay : AFunc := C56
def C57 : AFunc := ⟨15, [.tmp 6],
(.seq (.ops [zP 6 .mov [.c (.bool false)]])
(.seq (.ops [zM 7 1,
 zM 8 0,
 zP 9 (.bin .leq) [.t 7, .t 8],
 zM 10 9,
 zMg 11 0 10 true,
 zMg 12 2 10 true,
 zPg 13 (.bin .leq) [.t 11, .t 12] 10 true,
 zP 14 .pick [.t 10, .t 13, .c (.bool false)],
 zM 6 14])
.ret))⟩
abbrev f_conf_within : Nat := 57
abbrev C_conf_within : AFunc := C57
def C58 : AFunc := ⟨31, [.tmp 2, .tmp 3],
(.seq (.ops [⟨some 1, none, .a .box, [.t 0]⟩,
 zP 2 .mov [.c .nilp],
 zP 3 .mov [.c (.int .i64 0)]])
(.seq (.seq (.ops [⟨some 5, none, .r (.loadN 6), [.t 1]⟩,
⟨some 6, none, .call, [.c (.func (.func 91) [] []), .t 5]⟩,
 zM 4 6])
(.seq (.ops [zM 7 4,
 zP 8 (.bin .neq) [.t 7, .c (.int .i64 0)]])
(.cond (.t 8)
(.seq (.ops [zM 9 4,
 zP 2 .mov [.c .nilp],
 zM 3 9])
.ret)
.skip)))
(.seq (.seq (.ops [zF 10 1 0,
 zL 11 10,
 zP 12 (.bin .eql) [.t 11, .c (.int .i64 1)]])
(.cond (.t 12)
(.seq (.ops [zF 13 1 3,
 zL 14 13,
 zF 15 1 5,
 zL 16 15,
 zP 17 (.build [(.str []), (.int .i64 0), (.int .i64 0), (.bool false)] [(2, 1)]) [.t 16],
⟨some 18, none, .a .box, [.t 17]⟩,
 zP 19 (.mkiface 176) [.t 18],
 zP 20 (.build [(.int .i64 0), .nili] [(0, 1), (1, 1)]) [.t 14, .t 19],
⟨some 21, none, .a .box, [.t 20]⟩,
 zM 2 21,
 zP 3 .mov [.c (.int .i64 0)]])
.ret)
.skip))
(.seq (.ops [zF 22 1 3,
 zL 23 22,
 zF 24 1 4,
 zL 25 24,
 zP 26 (.build [.nils, (.int .i64 0)] [(1, 1)]) [.t 25],
⟨some 27, none, .a .box, [.t 26]⟩,
 zP 28 (.mkiface 183) [.t 27],
 zP 29 (.build [(.int .i64 0), .nili] [(0, 1), (1, 1)]) [.t 23, .t 28],
⟨some 30, none, .a .box, [.t 29]⟩,
 zM 2 30,
 zP 3 .mov [.c (.int .i64 0)]])
.ret))))⟩
abbrev f_port_New : Nat := 58
abbrev C_port_New : AFunc := C58
def C59 : AFunc := ⟨5, [.tmp 0],
(.seq (.ops [zP 0 .mov [.c .nilp]])
(.seq (.ops [zP 1 (.build [.nils, (.int .i64 0), (.int .i64 0), (.int .i64 0), (.int .i64 0), (.int .i64 0), (.int .i64 0), (.int .i64 0), (.int .i64 0), (.int .i64 0), (.int .i64 0), (.int .i64 0), (.int .i64 0), (.int .i64 0), (.int .i64 0), (.int .i64 0), (.int .i64 0), (.int .i64 0), (.int .i64 0), (.int .i64 0), (.int .i64 0), (.int .i64 0), (.int .i64 0), (.int .i64 0), (.int .i64 0), (.int .i64 0), (.int .i64 0), (.int .i64 0), (.int .i64 0), (.int .i64 0), (.int .i64 0), (.int .i64 0), (.int .i64 0), (.int .i64 0), (.int .i64 0), (.int .i64 0), (.int .i64 0), (.int .i64 0), (.int .i64 0), (.int .i64 0), (.int .i64 0), (.int .i64 0), (.int .i64 0), (.int .i64 0), (.int .i64 0), (.int .i64 0), (.int .i64 0), (.int .i64 0), (.int .i64 0), (.int .i64 0), (.int .i64 0), (.int .i64 0), (.int .i64 0), (.int .i64 0), (.int .i64 0), (.int .i64 0), (.int .i64 0), (.int .i64 0), (.int .i64 0), (.int .i64 0), (.int .i64 0), (.int .i64 0), (.int .i64 0), (.int .i64 0), (.int .i64 0)] []) [],
⟨some 2, none, .a .box, [.t 1]⟩,
 zP 3 (.build [.nilp] [(0, 1)]) [.t 2],
⟨some 4, none, .a .box, [.t 3]⟩,
 zM 0 4])
.ret))⟩
abbrev f_rank_New : Nat := 59
abbrev C_rank_New : AFunc := C59
def C60 : AFunc := ⟨8, [.tmp 2],
(.seq (.ops [zP 2 .mov [.c .nils]])
(.seq (.seq (.ops [zM 3 0,
 zP 4 (.eq .nilsl) [.t 3, .c .nils]])
(.cond (.t 4)
(.seq (.ops [zP 2 .mov [.c .nils]])
.ret)
.skip))
(.seq (.ops [⟨some 5, none, .a (.bslice [(.int .i64 0), (.int .i64 0), .nils] 0 3 []), []⟩,
 zM 6 0,
⟨some 7, none, .e (.append 3 40), [.t 5, .t 6]⟩,
 zM 2 7])
.ret)))⟩
abbrev f_slices_Clone_api_Part_api_Part : Nat := 60
abbrev C_slices_Clone_api_Part_api_Part : AFunc := C60
def C61 : AFunc := ⟨8, [.tmp 2],
(.seq (.ops [zP 2 .mov [.c .nils]])
(.seq (.seq (.ops [zM 3 0,
 zP 4 (.eq .nilsl) [.t 3, .c .nils]])
(.cond (.t 4)
(.seq (.ops [zP 2 .mov [.c .nils]])
.ret)
.skip))
(.seq (.ops [⟨some 5, none, .a (.bslice [(.int .i64 0), (.int .i64 0), (.int .i64 0), (.int .i64 0), (.int .i64 0), (.int .i64 0)] 0 6 []), []⟩,
 zM 6 0,
⟨some 7, none, .e (.append 6 48), [.t 5, .t 6]⟩,
 zM 2 7])
.ret)))⟩
abbrev f_slices_Clone_api_Port_api_Port : Nat := 61
abbrev C_slices_Clone_api_Port_api_Port : AFunc := C61
def C62 : AFunc := ⟨8, [.tmp 2],
(.seq (.ops [zP 2 .mov [.c .nils]])
(.seq (.seq (.ops [zM 3 0,
 zP 4 (.eq .nilsl) [.t 3, .c .nils]])
(.cond (.t 4)
(.seq (.ops [zP 2 .mov [.c .nils]])
.ret)
.skip))
(.seq (.ops [⟨some 5, none, .a (.bslice [(.int .i64 0), (.int .i64 0), (.int .i64 0), (.int .i64 0), (.int .i64 0), (.int .i64 0), (.int .i64 0), (.int .i64 0)] 0 8 []), []⟩,
 zM 6 0,
⟨some 7, none, .e (.append 8 64), [.t 5, .t 6]⟩,
 zM 2 7])
.ret)))⟩
abbrev f_slices_Clone_api_Task_api_Task : Nat := 62
abbrev C_slices_Clone_api_Task_api_Task : AFunc := C62
def C63 : AFunc := ⟨21, [.tmp 4],
(.seq (.ops [zP 4 .mov [.c .nilp]])
(.seq (.seq (.ops [zM 5 0,
⟨some 6, none, .call, [.c (.func (.func 92) [] []), .t 5]⟩,
 zM 7 6,
 zMg 8 1 7 false,
 zPg 9 (.bin .lss) [.t 8, .c (.int .i64 1)] 7 false,
 zP 10 .pick [.t 7, .c (.bool true), .t 9],
 zM 11 10,
 zMg 12 1 11 false,
 zPg 13 (.bin .gtr) [.t 12, .c (.int .i64 4)] 11 false,
 zP 14 .pick [.t 11, .c (.bool true), .t 13]])
(.cond (.t 14)
(.seq (.ops [zP 4 .mov [.c .nilp]])
.ret)
.skip))
(.seq (.ops [zM 15 0,
 zM 16 1,
 zP 17 (.bin .sub) [.t 16, .c (.int .i64 1)],
 zN 18 15,
 zF 19 18 1,
 zP 20 (.iaddrA 2 4) [.t 19, .t 17],
 zM 4 20])
.ret)))⟩
abbrev f_claim_Claim_of : Nat := 63
abbrev C_claim_Claim_of : AFunc := C63
def C64 : AFunc := ⟨12, [.tmp 2],
(.seq (.ops [zP 2 .mov [.c (.bool false)]])
(.seq (.ops [zM 3 0,
 zP 4 (.eq .nilptr) [.t 3, .c .nilp],
 zM 5 4,
 zMg 6 0 5 false,
 zNg 7 6 5 false,
 zFg 8 7 0 5 false,
 zLg 9 8 5 false,
 zPg 10 (.eq .nilptr) [.t 9, .c .nilp] 5 false,
 zP 11 .pick [.t 5, .c (.bool true), .t 10],
 zM 2 11])
.ret))⟩
abbrev f_room_Room_none : Nat := 64
abbrev C_room_Room_none : AFunc := C64
def C65 : AFunc := ⟨10, [.tmp 2],
(.seq (.ops [zP 2 .mov [.c .nils]])
(.seq (.seq (.ops [zM 3 0,
⟨some 4, none, .call, [.c (.func (.func 93) [] []), .t 3]⟩])
(.cond (.t 4)
(.seq (.ops [zP 2 .mov [.c .nils]])
.ret)
.skip))
(.seq (.ops [zM 5 0,
 zN 6 5,
 zF 7 6 0,
 zL 8 7,
⟨some 9, none, .call, [.c (.func (.func 94) [] []), .t 8]⟩,
 zM 2 9])
.ret)))⟩
abbrev f_ready_Queue_Jobs : Nat := 65
abbrev C_ready_Queue_Jobs : AFunc := C65
def C66 : AFunc := ⟨32, [.tmp 6],
(.seq (.ops [zP 6 .mov [.c (.int .i64 0)]])
(.seq (.block 0 (.seq (.ops [zM 8 0,
 zP 9 (.eq .nilptr) [.t 8, .c .nilp],
 zM 10 9,
 zMg 11 0 10 false,
 zNg 12 11 10 false,
 zFg 13 12 0 10 false,
 zLg 14 13 10 false,
 zPg 15 .not [.t 14] 10 false,
 zP 16 .pick [.t 10, .c (.bool true), .t 15],
 zM 7 16])
(.cond (.t 7)
(.seq (.ops [zP 6 .mov [.c (.int .i64 1)]])
.ret)
(.seq (.ops [zM 18 1,
 zP 19 (.bin .lss) [.t 18, .c (.int .i64 0)],
 zM 20 19,
 zMg 21 1 20 false,
 zPg 22 (.bin .geq) [.t 21, .c (.int .i64 4)] 20 false,
 zP 23 .pick [.t 20, .c (.bool true), .t 22],
 zM 24 23,
 zMg 25 2 24 false,
 zPg 26 (.bin .lss) [.t 25, .c (.int .i64 1)] 24 false,
 zP 27 .pick [.t 24, .c (.bool true), .t 26],
 zM 28 27,
 zMg 29 2 28 false,
 zPg 30 (.bin .gtr) [.t 29, .c (.int .i64 4)] 28 false,
 zP 31 .pick [.t 28, .c (.bool true), .t 30],
 zM 17 31])
(.cond (.t 17)
(.seq (.ops [zP 6 .mov [.c (.int .i64 9)]])
.ret)
.skip)))))
(.seq (.ops [zP 6 .mov [.c (.int .i64 0)]])
.ret)))⟩
abbrev f_health_Monitor_asked : Nat := 66
abbrev C_health_Monitor_asked : AFunc := C66
def C67 : AFunc := ⟨13, [.tmp 2],
(.seq (.ops [zP 2 .mov [.c (.bool false)]])
(.seq (.ops [zM 3 0,
 zP 4 (.eq .nilptr) [.t 3, .c .nilp],
 zM 5 4,
 zMg 6 0 5 false,
 zNg 7 6 5 false,
 zFg 8 7 0 5 false,
⟨some 9, some (5, false), .r (.loadN 2), [.t 8]⟩,
 zPg 10 (.build [(.int .i64 0), (.int .i64 0)] []) [] 5 false,
 zPg 11 (.eq (.cells [0, 0])) [.t 9, .t 10] 5 false,
 zP 12 .pick [.t 5, .c (.bool true), .t 11],
 zM 2 12])
.ret))⟩
abbrev f_purse_Purse_none : Nat := 67
abbrev C_purse_Purse_none : AFunc := C67
def L_kernel_Kernel_ticks_0 : AC := (.seq (.ops [zP 24 (.bin .lss) [.t 23, .t 22]])
(.seq (.cond (.t 24)
.skip
(.exit 1))
(.seq (.block 2 (.ops [zM 25 0,
⟨some 26, none, .call, [.c (.func (.func 95) [] []), .t 25]⟩]))
(.ops [zP 27 (.bin .add) [.t 23, .c (.int .i64 1)],
 zM 23 27]))))
def C68 : AFunc := ⟨28, [.tmp 4],
(.seq (.ops [⟨some 3, none, .a .box, [.t 1]⟩,
 zP 4 .mov [.c (.int .i64 0)]])
(.seq (.block 0 (.seq (.seq (.ops [zF 6 3 3,
 zL 7 6,
 zP 8 (.bin .lss) [.t 7, .c (.int .i64 1)],
 zM 5 8])
(.cond (.t 5)
.skip
(.ops [zF 9 3 3,
 zL 10 9,
 zP 11 (.bin .gtr) [.t 10, .c (.int .i64 64)],
 zM 5 11])))
(.cond (.t 5)
(.seq (.ops [zP 4 .mov [.c (.int .i64 2)]])
.ret)
(.seq (.dops [zM 13 0,
 zN 14 13,
 zF 15 14 10,
 zL 16 15,
 zF 17 3 3,
 zL 18 17,
 zP 19 (.bin .add) [.t 16, .t 18],
 zP 20 (.bin .gtr) [.t 19, .c (.int .i64 1099511627776)],
 zM 12 20] [[], [], [], [], [], [], [], [], []])
(.cond (.t 12)
(.seq (.ops [zP 4 .mov [.c (.int .i64 10)]])
.ret)
.skip)))))
(.seq (.seq (.ops [zF 21 3 3,
 zL 22 21,
 zP 23 .mov [.c (.int .i64 0)]])
(.block 1 (.loop L_kernel_Kernel_ticks_0)))
(.seq (.ops [zP 4 .mov [.c (.int .i64 0)]])
.ret))))⟩
abbrev f_kernel_Kernel_ticks : Nat := 68
abbrev C_kernel_Kernel_ticks : AFunc := C68
def C69 : AFunc := ⟨48, [.tmp 4],
(.seq (.ops [⟨some 3, none, .a .box, [.t 1]⟩,
 zP 4 .mov [.c (.int .i64 0)]])
(.seq (.seq (.dops [zM 6 0,
 zN 7 6,
 zF 8 7 11,
 zL 9 8,
 zF 10 3 1,
 zL 11 10,
 zP 12 (.iaddrS 1) [.t 9, .t 11],
 zL 13 12,
⟨some 14, none, .call, [.c (.func (.func 96) [] []), .t 13]⟩] [[], [], [], [], [], [], [], [], []])
(.cond (.t 14)
(.seq (.ops [zP 4 .mov [.c (.int .i64 250)]])
.ret)
.skip))
(.seq (.seq (.dops [zM 15 0,
 zN 16 15,
 zF 17 16 12,
 zL 18 17,
 zF 19 3 1,
 zL 20 19,
 zP 21 (.iaddrS 1) [.t 18, .t 20],
 zL 22 21,
 zF 23 3 2,
 zL 24 23,
 zF 25 3 5,
 zL 26 25,
 zM 27 0,
 zN 28 27,
 zF 29 28 10,
 zL 30 29,
⟨some 31, none, .call, [.c (.func (.func 97) [] []), .t 22, .t 24, .t 26, .t 30]⟩,
 zM 5 31] [[], [], [], [], [], [], [], [], [], [], [], [], [], [], [], [], [], []])
(.seq (.ops [zM 32 5,
 zP 33 (.bin .neq) [.t 32, .c (.int .i64 0)]])
(.cond (.t 33)
(.seq (.ops [zM 34 5,
 zM 4 34])
.ret)
.skip)))
(.seq (.ops [zM 35 0,
 zF 36 3 1,
 zL 37 36,
 zF 38 3 2,
 zL 39 38,
 zP 40 (.build [(.int .i64 0), (.int .i64 0), (.int .i64 0), (.int .i64 0), (.int .i64 0), (.int .i64 0), (.str [])] []) [],
⟨some 41, none, .call, [.c (.func (.func 98) [] []), .t 35, .c (.int .i64 2), .t 37, .t 39, .t 40]⟩])
(.seq (.ops [zM 42 0,
 zF 43 3 1,
 zL 44 43,
 zF 45 3 2,
 zL 46 45,
⟨some 47, none, .call, [.c (.func (.func 99) [] []), .t 42, .t 44, .t 46]⟩])
(.seq (.ops [zP 4 .mov [.c (.int .i64 0)]])
.ret))))))⟩
abbrev f_kernel_Kernel_release : Nat := 69
abbrev C_kernel_Kernel_release : AFunc := C69
def C70 : AFunc := ⟨95, [.tmp 4],
(.seq (.ops [⟨some 3, none, .a .box, [.t 1]⟩,
 zP 4 .mov [.c (.int .i64 0)]])
(.seq (.seq (.dops [zM 10 0,
 zF 11 3 1,
 zL 12 11,
⟨some 13, none, .call, [.c (.func (.func 16) [] []), .t 10, .t 12]⟩,
 zM 14 13,
 zMg 15 0 14 false,
⟨some 16, some (14, false), .call, [.c (.func (.func 100) [] []), .t 15]⟩,
 zP 17 .pick [.t 14, .c (.bool true), .t 16],
 zM 18 17,
 zMg 19 0 18 false,
 zNg 20 19 18 false,
 zFg 21 20 10 18 false,
 zLg 22 21 18 false,
 zMg 23 0 18 false,
 zNg 24 23 18 false,
 zFg 25 24 9 18 false,
 zLg 26 25 18 false,
 zPg 27 (.bin .lss) [.t 22, .t 26] 18 false,
 zP 28 .pick [.t 18, .c (.bool true), .t 27]] [[], [], [], [], [], [], [], [], [], [], [], [], [], [], [], [], [], [], []])
(.cond (.t 28)
(.seq (.ops [zP 4 .mov [.c (.int .i64 250)]])
.ret)
.skip))
(.seq (.seq (.dops [zM 29 0,
 zN 30 29,
 zF 31 30 4,
⟨some 32, none, .r (.loadN 2), [.t 31]⟩,
 zM 33 0,
⟨some 34, none, .call, [.c (.func (.func 102) [] []), .t 33]⟩,
 zF 35 3 1,
 zL 36 35,
⟨some 37, none, .call, [.c (.func (.func 101) [] []), .t 32, .t 34, .t 36]⟩,
 zM 5 37] [[], [], [], [0, 6], [], [], [], [0, 6], [], []])
(.seq (.ops [zM 38 5,
 zP 39 (.bin .neq) [.t 38, .c (.int .i64 0)]])
(.cond (.t 39)
(.seq (.ops [zM 40 5,
 zM 4 40])
.ret)
.skip)))
(.seq (.dops [zM 41 0,
 zN 42 41,
 zF 43 42 4,
 zF 44 43 0,
 zL 45 44,
 zF 46 3 1,
 zL 47 46,
 zP 48 (.iaddrS 3) [.t 45, .t 47],
⟨some 49, none, .r (.loadN 3), [.t 48]⟩,
⟨some 6, none, .a (.alloc [(.int .i64 0), (.int .i64 0), .nils]), []⟩,
 zS 3 [.t 6, .t 49]] [[], [], [], [], [], [], [], [], [], [], []])
(.seq (.dops [zF 51 6 0,
 zL 52 51,
 zF 53 6 1,
 zL 54 53,
 zM 55 0,
 zN 56 55,
 zF 57 56 10,
 zL 58 57,
⟨some 59, none, .call, [.c (.func (.func 103) [] []), .t 52, .t 54, .t 58]⟩,
 zM 50 59,
 zP 60 (.ext 0) [.t 50],
 zP 61 (.ext 1) [.t 50],
 zM 7 60,
 zM 8 61] [[], [], [], [], [], [], [], [], [], [], [], [], [], []])
(.seq (.seq (.ops [zM 62 8,
 zP 63 (.bin .neq) [.t 62, .c (.int .i64 0)]])
(.cond (.t 63)
(.seq (.ops [zM 64 8,
 zM 4 64])
.ret)
.skip))
(.seq (.ops [zF 66 6 2,
 zL 67 66,
⟨some 68, none, .call, [.c (.func (.func 104) [] []), .t 67]⟩,
 zM 65 68,
 zP 69 (.ext 0) [.t 65],
 zP 70 (.ext 1) [.t 65],
 zM 9 69,
 zM 8 70])
(.seq (.seq (.ops [zM 71 8,
 zP 72 (.bin .neq) [.t 71, .c (.int .i64 0)]])
(.cond (.t 72)
(.seq (.ops [zM 73 8,
 zM 4 73])
.ret)
.skip))
(.seq (.dops [zM 74 0,
 zN 75 74,
 zF 76 75 11,
 zL 77 76,
 zF 78 3 1,
 zL 79 78,
 zM 80 0,
 zN 81 80,
 zF 82 81 12,
 zL 83 82,
 zF 84 3 1,
 zL 85 84,
 zM 86 7,
 zM 87 9,
 zP 88 (.iaddrS 1) [.t 77, .t 79],
 zS 1 [.t 88, .t 86],
 zP 89 (.iaddrS 1) [.t 83, .t 85],
 zS 1 [.t 89, .t 87]] [[], [], [], [], [], [], [], [], [], [], [], [0, 16], [], [], [], [], [], []])
(.seq (.ops [zM 90 0,
 zF 91 3 1,
 zL 92 91,
 zP 93 (.build [(.int .i64 0), (.int .i64 0), (.int .i64 0), (.int .i64 0), (.int .i64 0), (.int .i64 0), (.str [])] []) [],
⟨some 94, none, .call, [.c (.func (.func 98) [] []), .t 90, .c (.int .i64 6), .t 92, .c (.int .i64 0), .t 93]⟩])
(.seq (.ops [zP 4 .mov [.c (.int .i64 0)]])
.ret)))))))))))⟩
abbrev f_kernel_Kernel_join : Nat := 70
abbrev C_kernel_Kernel_join : AFunc := C70
def C71 : AFunc := ⟨16, [.tmp 4],
(.seq (.ops [⟨some 3, none, .a .box, [.t 1]⟩,
 zP 4 .mov [.c (.int .i64 0)]])
(.seq (.seq (.ops [zM 5 0,
⟨some 6, none, .call, [.c (.func (.func 100) [] []), .t 5]⟩])
(.cond (.t 6)
(.seq (.ops [zP 4 .mov [.c (.int .i64 250)]])
.ret)
.skip))
(.seq (.dops [zM 7 0,
 zN 8 7,
 zF 9 8 11,
 zL 10 9,
 zF 11 3 1,
 zL 12 11,
 zP 13 (.iaddrS 1) [.t 10, .t 12],
 zL 14 13,
⟨some 15, none, .call, [.c (.func (.func 105) [] []), .t 14]⟩,
 zM 4 15] [[], [], [], [], [], [], [], [], [], []])
.ret)))⟩
abbrev f_kernel_Kernel_leave : Nat := 71
abbrev C_kernel_Kernel_leave : AFunc := C71
def C72 : AFunc := ⟨61, [.tmp 4],
(.seq (.ops [⟨some 3, none, .a .box, [.t 1]⟩,
 zP 4 .mov [.c (.int .i64 0)]])
(.seq (.seq (.dops [zM 7 0,
⟨some 8, none, .call, [.c (.func (.func 100) [] []), .t 7]⟩,
 zM 9 8,
 zMg 10 0 9 false,
 zNg 11 10 9 false,
 zFg 12 11 10 9 false,
 zLg 13 12 9 false,
 zMg 14 0 9 false,
 zNg 15 14 9 false,
 zFg 16 15 9 9 false,
 zLg 17 16 9 false,
 zPg 18 (.bin .lss) [.t 13, .t 17] 9 false,
 zP 19 .pick [.t 9, .c (.bool true), .t 18]] [[], [], [], [], [], [], [], [], [], [], [], [], []])
(.cond (.t 19)
(.seq (.ops [zP 4 .mov [.c (.int .i64 250)]])
.ret)
.skip))
(.seq (.dops [zM 21 0,
 zN 22 21,
 zF 23 22 4,
⟨some 24, none, .r (.loadN 2), [.t 23]⟩,
 zM 25 0,
⟨some 26, none, .call, [.c (.func (.func 102) [] []), .t 25]⟩,
 zF 27 3 1,
 zL 28 27,
 zF 29 3 3,
 zL 30 29,
 zF 31 3 4,
 zL 32 31,
⟨some 33, none, .call, [.c (.func (.func 106) [] []), .t 24, .t 26, .t 28, .t 30, .t 32]⟩,
 zM 20 33,
 zP 34 (.ext 0) [.t 20],
 zP 35 (.ext 1) [.t 20],
⟨some 5, none, .a (.alloc [.nils, .nils]), []⟩,
 zS 2 [.t 5, .t 34],
 zM 6 35] [[], [], [], [0, 6], [], [], [], [0, 6], [], [0, 6], [], [0, 6], [], [], [], [], [], [], []])
(.seq (.seq (.ops [zM 36 6,
 zP 37 (.bin .neq) [.t 36, .c (.int .i64 0)]])
(.cond (.t 37)
(.seq (.ops [zM 38 6,
 zM 4 38])
.ret)
.skip))
(.seq (.dops [zM 39 0,
 zM 40 0,
⟨some 41, none, .r (.loadN 2), [.t 5]⟩,
 zF 42 3 1,
 zL 43 42,
 zN 44 39,
 zF 45 44 6,
 zS 2 [.t 45, .t 41],
 zN 46 40,
 zF 47 46 8,
 zS 1 [.t 47, .t 43]] [[], [], [], [], [0, 8], [], [], [], [], [], []])
(.seq (.dops [zM 48 0,
 zN 49 48,
 zF 50 49 11,
 zL 51 50,
 zF 52 3 1,
 zL 53 52,
 zP 54 (.iaddrS 1) [.t 51, .t 53],
 zL 55 54,
 zF 56 3 3,
 zL 57 56,
 zF 58 3 4,
 zL 59 58,
⟨some 60, none, .call, [.c (.func (.func 107) [] []), .t 55, .t 57, .t 59]⟩,
 zM 4 60] [[], [], [], [], [], [], [], [], [], [], [], [], [], []])
.ret))))))⟩
abbrev f_kernel_Kernel_change : Nat := 72
abbrev C_kernel_Kernel_change : AFunc := C72
def C73 : AFunc := ⟨18, [.tmp 4],
(.seq (.ops [⟨some 3, none, .a .box, [.t 1]⟩,
 zP 4 .mov [.c (.int .i64 0)]])
(.seq (.seq (.ops [zM 5 0,
 zF 6 3 1,
 zL 7 6,
 zF 8 3 2,
 zL 9 8,
⟨some 10, none, .call, [.c (.func (.func 108) [] []), .t 5, .t 7, .t 9]⟩,
 zP 11 .not [.t 10]])
(.cond (.t 11)
(.seq (.ops [zP 4 .mov [.c (.int .i64 250)]])
.ret)
.skip))
(.seq (.ops [zM 12 0,
 zF 13 3 1,
 zL 14 13,
 zF 15 3 2,
 zL 16 15,
⟨some 17, none, .call, [.c (.func (.func 109) [] []), .t 12, .t 14, .t 16, .c (.int .i64 0)]⟩])
(.seq (.ops [zP 4 .mov [.c (.int .i64 0)]])
.ret))))⟩
abbrev f_kernel_Kernel_killed : Nat := 73
abbrev C_kernel_Kernel_killed : AFunc := C73
def C74 : AFunc := ⟨9, [.tmp 4],
(.seq (.ops [⟨some 3, none, .a .box, [.t 1]⟩,
 zP 4 .mov [.c (.int .i64 0)]])
(.seq (.ops [zM 5 0,
 zF 6 3 1,
 zL 7 6,
⟨some 8, none, .call, [.c (.func (.func 110) [] []), .t 5, .t 7]⟩])
(.seq (.ops [zP 4 .mov [.c (.int .i64 0)]])
.ret)))⟩
abbrev f_kernel_Kernel_halt : Nat := 74
abbrev C_kernel_Kernel_halt : AFunc := C74
def C75 : AFunc := ⟨17, [.tmp 4],
(.seq (.ops [⟨some 3, none, .a .box, [.t 1]⟩,
 zP 4 .mov [.c (.int .i64 0)]])
(.seq (.dops [zM 5 0,
 zN 6 5,
 zF 7 6 0,
 zF 8 7 2,
 zL 9 8,
 zF 10 3 1,
 zL 11 10,
 zF 12 3 3,
 zL 13 12,
 zF 14 3 4,
 zL 15 14,
⟨some 16, none, .call, [.c (.func (.func 111) [] []), .t 9, .t 11, .t 13, .t 15]⟩,
 zM 4 16] [[], [], [], [], [], [], [], [], [], [], [], [], []])
.ret))⟩
abbrev f_kernel_Kernel_heal : Nat := 75
abbrev C_kernel_Kernel_heal : AFunc := C75
def L_slices_IndexFunc_api_Part_api_Part_0 : AC := (.seq (.ops [zP 9 (.bin .lss) [.t 8, .t 7]])
(.seq (.cond (.t 9)
.skip
(.exit 0))
(.seq (.block 1 (.seq (.ops [zM 10 8,
 zM 5 10])
(.seq (.ops [zM 11 1,
 zM 12 0,
 zM 13 5,
 zP 14 (.iaddrS 3) [.t 12, .t 13],
⟨some 15, none, .r (.loadN 3), [.t 14]⟩,
⟨some 16, none, .call, [.t 11, .t 15]⟩])
(.cond (.t 16)
(.seq (.ops [zM 17 5,
 zM 4 17])
.ret)
.skip))))
(.ops [zP 18 (.bin .add) [.t 8, .c (.int .i64 1)],
 zM 8 18]))))
def C86 : AFunc := ⟨19, [.tmp 4],
(.seq (.ops [zP 4 .mov [.c (.int .i64 0)]])
(.seq (.seq (.ops [zM 6 0,
 zP 7 .lenS [.t 6],
 zP 8 .mov [.c (.int .i64 0)]])
(.block 0 (.loop L_slices_IndexFunc_api_Part_api_Part_0)))
(.seq (.ops [zP 4 .mov [.c (.int .i64 (-1))]])
.ret)))⟩
abbrev f_slices_IndexFunc_api_Part_api_Part : Nat := 86
abbrev C_slices_IndexFunc_api_Part_api_Part : AFunc := C86
def C87 : AFunc := ⟨9, [.tmp 4],
(.seq (.ops [zP 4 .mov [.c (.bool false)]])
(.seq (.ops [zM 5 0,
 zM 6 1,
⟨some 7, none, .call, [.c (.func (.func 116) [] []), .t 5, .t 6]⟩,
 zP 8 (.bin .geq) [.t 7, .c (.int .i64 0)],
 zM 4 8])
.ret))⟩
abbrev f_slices_ContainsFunc_api_Task_api_Task : Nat := 87
abbrev C_slices_ContainsFunc_api_Task_api_Task : AFunc := C87
def C88 : AFunc := ⟨9, [.tmp 3],
(.seq (.ops [⟨some 2, none, .a .box, [.t 0]⟩,
 zP 3 .mov [.c (.bool false)]])
(.seq (.ops [⟨some 4, none, .r (.loadN 8), [.t 2]⟩,
 zF 5 1 1,
 zL 6 5,
⟨some 7, none, .call, [.c (.func (.func 89) [] []), .t 4, .t 6]⟩,
 zP 8 .not [.t 7],
 zM 3 8])
.ret))⟩
abbrev f_conf_partMay_1 : Nat := 88
abbrev C_conf_partMay_1 : AFunc := C88
def C89 : AFunc := ⟨86, [.tmp 4],
(.seq (.ops [⟨some 2, none, .a .box, [.t 0]⟩,
 zP 4 .mov [.c (.bool false)]])
(.seq (.ops [zF 6 2 0,
 zL 7 6,
⟨some 8, none, .call, [.c (.func (.func 57) [] []), .t 7, .c (.int .i64 1), .c (.int .i64 64)]⟩,
 zM 9 8,
 zFg 10 2 1 9 true,
 zLg 11 10 9 true,
 zFg 12 2 0 9 true,
 zLg 13 12 9 true,
⟨some 14, some (9, true), .call, [.c (.func (.func 57) [] []), .t 11, .c (.int .i64 1), .t 13]⟩,
 zP 15 .pick [.t 9, .t 14, .c (.bool false)],
 zM 16 15,
 zFg 17 2 2 16 true,
 zLg 18 17 16 true,
 zFg 19 2 1 16 true,
 zLg 20 19 16 true,
⟨some 21, some (16, true), .call, [.c (.func (.func 57) [] []), .t 18, .c (.int .i64 1), .t 20]⟩,
 zP 22 .pick [.t 16, .t 21, .c (.bool false)],
 zM 5 22])
(.seq (.seq (.ops [zM 23 5,
 zP 24 .not [.t 23],
 zM 25 24,
 zFg 26 2 3 25 false,
 zLg 27 26 25 false,
⟨some 28, some (25, false), .call, [.c (.func (.func 57) [] []), .t 27, .c (.int .i64 0), .c (.int .i64 255)]⟩,
 zPg 29 .not [.t 28] 25 false,
 zP 30 .pick [.t 25, .c (.bool true), .t 29],
 zM 31 30,
 zFg 32 2 5 31 false,
 zLg 33 32 31 false,
⟨some 34, some (31, false), .call, [.c (.func (.func 57) [] []), .t 33, .c (.int .i64 0), .c (.int .i64 4)]⟩,
 zPg 35 .not [.t 34] 31 false,
 zP 36 .pick [.t 31, .c (.bool true), .t 35]])
(.cond (.t 36)
(.seq (.ops [zP 4 .mov [.c (.bool false)]])
.ret)
.skip))
(.seq (.seq (.ops [zF 37 2 3,
 zL 38 37,
 zP 39 (.bin .eql) [.t 38, .c (.int .i64 0)],
 zM 40 39,
 zFg 41 2 4 40 true,
 zLg 42 41 40 true,
 zPg 43 (.bin .neq) [.t 42, .c (.int .i64 0)] 40 true,
 zP 44 .pick [.t 40, .t 43, .c (.bool false)],
 zM 45 44,
 zFg 46 2 3 45 false,
 zLg 47 46 45 false,
 zPg 48 (.bin .neq) [.t 47, .c (.int .i64 0)] 45 false,
 zMg 49 48 45 false,
 zFg 50 2 4 49 true,
 zLg 51 50 49 true,
 zFg 52 2 2 49 true,
 zLg 53 52 49 true,
⟨some 54, some (49, true), .call, [.c (.func (.func 57) [] []), .t 51, .c (.int .i64 1), .t 53]⟩,
 zPg 55 .not [.t 54] 49 true,
 zPg 56 .pick [.t 49, .t 55, .c (.bool false)] 45 false,
 zP 57 .pick [.t 45, .c (.bool true), .t 56]])
(.cond (.t 57)
(.seq (.ops [zP 4 .mov [.c (.bool false)]])
.ret)
.skip))
(.seq (.seq (.ops [zF 58 2 5,
 zL 59 58,
 zP 60 (.bin .eql) [.t 59, .c (.int .i64 0)]])
(.cond (.t 60)
(.seq (.ops [zF 61 2 6,
 zL 62 61,
 zP 63 (.bin .eql) [.t 62, .c (.int .i64 0)],
 zM 64 63,
 zFg 65 2 7 64 true,
 zLg 66 65 64 true,
 zPg 67 (.bin .eql) [.t 66, .c (.int .i64 0)] 64 true,
 zP 68 .pick [.t 64, .t 67, .c (.bool false)],
 zM 4 68])
.ret)
.skip))
(.seq (.dops [zF 69 2 6,
 zL 70 69,
 zM 71 1,
 zF 72 2 2,
 zL 73 72,
 zP 74 .mn [.t 71, .t 73],
⟨some 75, none, .call, [.c (.func (.func 57) [] []), .t 70, .c (.int .i64 1), .t 74]⟩,
 zM 76 75,
 zFg 77 2 7 76 true,
 zLg 78 77 76 true,
 zFg 79 2 2 76 true,
 zLg 80 79 76 true,
 zFg 81 2 6 76 true,
 zLg 82 81 76 true,
 zPg 83 (.bin .quo) [.t 80, .t 82] 76 true,
⟨some 84, some (76, true), .call, [.c (.func (.func 57) [] []), .t 78, .c (.int .i64 1), .t 83]⟩,
 zP 85 .pick [.t 76, .t 84, .c (.bool false)],
 zM 4 85] [[], [], [], [], [], [], [], [], [], [], [], [], [], [], [], [], [], []])
.ret))))))⟩
abbrev f_conf_taskMay : Nat := 89
abbrev C_conf_taskMay : AFunc := C89
def L_slices_IndexFunc_api_Port_api_Port_0 : AC := (.seq (.ops [zP 9 (.bin .lss) [.t 8, .t 7]])
(.seq (.cond (.t 9)
.skip
(.exit 0))
(.seq (.block 1 (.seq (.ops [zM 10 8,
 zM 5 10])
(.seq (.ops [zM 11 1,
 zM 12 0,
 zM 13 5,
 zP 14 (.iaddrS 6) [.t 12, .t 13],
⟨some 15, none, .r (.loadN 6), [.t 14]⟩,
⟨some 16, none, .call, [.t 11, .t 15]⟩])
(.cond (.t 16)
(.seq (.ops [zM 17 5,
 zM 4 17])
.ret)
.skip))))
(.ops [zP 18 (.bin .add) [.t 8, .c (.int .i64 1)],
 zM 8 18]))))
def C90 : AFunc := ⟨19, [.tmp 4],
(.seq (.ops [zP 4 .mov [.c (.int .i64 0)]])
(.seq (.seq (.ops [zM 6 0,
 zP 7 .lenS [.t 6],
 zP 8 .mov [.c (.int .i64 0)]])
(.block 0 (.loop L_slices_IndexFunc_api_Port_api_Port_0)))
(.seq (.ops [zP 4 .mov [.c (.int .i64 (-1))]])
.ret)))⟩
abbrev f_slices_IndexFunc_api_Port_api_Port : Nat := 90
abbrev C_slices_IndexFunc_api_Port_api_Port : AFunc := C90
def C91 : AFunc := ⟨53, [.tmp 2],
(.seq (.ops [⟨some 1, none, .a .box, [.t 0]⟩,
 zP 2 .mov [.c (.int .i64 0)]])
(.seq (.ops [zP 3 .mov [.c (.bool false)]])
(.seq (.seq (.ops [zF 4 1 0,
 zL 5 4])
(.block 0 (.seq (.ops [zP 7 (.bin .eql) [.t 5, .c (.int .i64 1)],
 zM 6 7])
(.cond (.t 6)
(.ops [zF 8 1 4,
 zL 9 8,
 zP 10 (.bin .eql) [.t 9, .c (.int .i64 0)],
 zM 11 10,
 zFg 12 1 5 11 true,
 zLg 13 12 11 true,
⟨some 14, some (11, true), .call, [.c (.func (.func 117) [] []), .t 13, .c (.int .i64 1), .c (.int .i64 64)]⟩,
 zP 15 .pick [.t 11, .t 14, .c (.bool false)],
 zM 3 15])
(.seq (.ops [zP 17 (.bin .eql) [.t 5, .c (.int .i64 2)],
 zM 16 17])
(.cond (.t 16)
(.ops [zF 18 1 5,
 zL 19 18,
 zP 20 (.bin .eql) [.t 19, .c (.int .i64 0)],
 zM 21 20,
 zFg 22 1 4 21 true,
 zLg 23 22 21 true,
⟨some 24, some (21, true), .call, [.c (.func (.func 117) [] []), .t 23, .c (.int .i64 1), .c (.int .i64 4)]⟩,
 zP 25 .pick [.t 21, .t 24, .c (.bool false)],
 zM 3 25])
.skip))))))
(.seq (.seq (.ops [zM 26 3,
 zP 27 .not [.t 26],
 zM 28 27,
 zFg 29 1 1 28 false,
 zLg 30 29 28 false,
⟨some 31, some (28, false), .call, [.c (.func (.func 117) [] []), .t 30, .c (.int .i64 0), .c (.int .i64 3)]⟩,
 zPg 32 .not [.t 31] 28 false,
 zP 33 .pick [.t 28, .c (.bool true), .t 32],
 zM 34 33,
 zFg 35 1 2 34 false,
 zLg 36 35 34 false,
⟨some 37, some (34, false), .call, [.c (.func (.func 117) [] []), .t 36, .c (.int .i64 0), .c (.int .i64 3)]⟩,
 zPg 38 .not [.t 37] 34 false,
 zP 39 .pick [.t 34, .c (.bool true), .t 38],
 zM 40 39,
 zFg 41 1 1 40 false,
 zLg 42 41 40 false,
 zFg 43 1 2 40 false,
 zLg 44 43 40 false,
 zPg 45 (.bin .eql) [.t 42, .t 44] 40 false,
 zP 46 .pick [.t 40, .c (.bool true), .t 45],
 zM 47 46,
 zFg 48 1 3 47 false,
 zLg 49 48 47 false,
⟨some 50, some (47, false), .call, [.c (.func (.func 117) [] []), .t 49, .c (.int .i64 1), .c (.int .i64 16)]⟩,
 zPg 51 .not [.t 50] 47 false,
 zP 52 .pick [.t 47, .c (.bool true), .t 51]])
(.cond (.t 52)
(.seq (.ops [zP 2 .mov [.c (.int .i64 50)]])
.ret)
.skip))
(.seq (.ops [zP 2 .mov [.c (.int .i64 0)]])
.ret)))))⟩
abbrev f_port_Check : Nat := 91
abbrev C_port_Check : AFunc := C91
def C92 : AFunc := ⟨12, [.tmp 2],
(.seq (.ops [zP 2 .mov [.c (.bool false)]])
(.seq (.ops [zM 3 0,
 zP 4 (.eq .nilptr) [.t 3, .c .nilp],
 zM 5 4,
 zMg 6 0 5 false,
 zNg 7 6 5 false,
 zFg 8 7 0 5 false,
 zLg 9 8 5 false,
 zPg 10 .not [.t 9] 5 false,
 zP 11 .pick [.t 5, .c (.bool true), .t 10],
 zM 2 11])
.ret))⟩
abbrev f_claim_Claim_none : Nat := 92
abbrev C_claim_Claim_none : AFunc := C92
def C93 : AFunc := ⟨12, [.tmp 2],
(.seq (.ops [zP 2 .mov [.c (.bool false)]])
(.seq (.ops [zM 3 0,
 zP 4 (.eq .nilptr) [.t 3, .c .nilp],
 zM 5 4,
 zMg 6 0 5 false,
 zNg 7 6 5 false,
 zFg 8 7 0 5 false,
 zLg 9 8 5 false,
 zPg 10 (.eq .nilptr) [.t 9, .c .nilp] 5 false,
 zP 11 .pick [.t 5, .c (.bool true), .t 10],
 zM 2 11])
.ret))⟩
abbrev f_ready_Queue_none : Nat := 93
abbrev C_ready_Queue_none : AFunc := C93
def L_rank_Rank_Ids_0 : AC := (.seq (.ops [zP 21 (.bin .lss) [.t 20, .t 19]])
(.seq (.cond (.t 21)
.skip
(.exit 0))
(.seq (.block 1 (.seq (.ops [zP 22 (.iaddrS 2) [.t 18, .t 20],
⟨some 23, none, .r (.loadN 2), [.t 22]⟩,
⟨some 5, none, .a (.alloc [(.int .i64 0), (.int .i64 0)]), []⟩,
 zS 2 [.t 5, .t 23]])
(.ops [zM 24 2,
 zF 25 5 0,
 zL 26 25,
⟨some 27, none, .a (.bslice [(.int .i64 0)] 1 1 [0]), [.t 26]⟩,
⟨some 28, none, .e (.append 1 8), [.t 24, .t 27]⟩,
 zM 2 28])))
(.ops [zP 29 (.bin .add) [.t 20, .c (.int .i64 1)],
 zM 20 29]))))
def C94 : AFunc := ⟨31, [.tmp 2],
(.seq (.ops [zP 2 .mov [.c .nils]])
(.seq (.seq (.ops [zM 6 0,
⟨some 7, none, .call, [.c (.func (.func 118) [] []), .t 6]⟩])
(.cond (.t 7)
(.seq (.ops [zP 2 .mov [.c .nils]])
.ret)
.skip))
(.seq (.ops [zM 8 0,
 zN 9 8,
 zF 10 9 0,
 zL 11 10,
 zN 12 11,
 zF 13 12 0,
 zL 14 13,
⟨some 15, none, .call, [.c (.func (.func 119) [] []), .t 14]⟩,
 zM 3 15])
(.seq (.ops [zM 16 3,
⟨some 17, none, .call, [.c (.func (.func 120) [] []), .t 16, .c (.func (.func 121) [] [])]⟩])
(.seq (.seq (.ops [zM 18 3,
 zP 19 .lenS [.t 18],
 zP 20 .mov [.c (.int .i64 0)]])
(.block 0 (.loop L_rank_Rank_Ids_0)))
(.seq (.ops [zM 30 2,
 zM 2 30])
.ret))))))⟩
abbrev f_rank_Rank_Ids : Nat := 94
abbrev C_rank_Rank_Ids : AFunc := C94
def C95 : AFunc := ⟨44, [],
(.seq (.ops [zM 4 0,
 zM 5 0,
 zP 6 (.mkfunc (.func 125) 1) [.t 5],
⟨some 7, none, .call, [.c (.func (.func 124) [] []), .t 4, .t 6]⟩])
(.seq (.ops [zM 8 0,
 zM 9 0,
 zP 10 (.mkfunc (.func 126) 1) [.t 9],
⟨some 11, none, .call, [.c (.func (.func 124) [] []), .t 8, .t 10]⟩])
(.seq (.ops [zM 12 0,
⟨some 13, none, .call, [.c (.func (.func 127) [] []), .t 12]⟩])
(.seq (.seq (.ops [zM 15 0,
 zN 16 15,
 zF 17 16 11,
 zL 18 17,
⟨some 19, none, .call, [.c (.func (.func 128) [] []), .t 18]⟩,
 zM 14 19,
 zP 20 (.ext 0) [.t 14],
 zP 21 (.ext 1) [.t 14],
 zM 2 20,
 zM 3 21])
(.seq (.ops [zM 22 3])
(.cond (.t 22)
(.seq (.ops [zM 23 0,
 zM 24 2,
⟨some 25, none, .call, [.c (.func (.func 129) [] []), .t 23, .t 24]⟩])
(.seq (.ops [zM 26 0,
 zM 27 2,
⟨some 28, none, .call, [.c (.func (.func 16) [] []), .t 26, .t 27]⟩])
(.cond (.t 28)
(.ops [zM 29 0,
 zN 30 29,
 zF 31 30 11,
 zL 32 31,
 zM 33 2,
 zP 34 (.iaddrS 1) [.t 32, .t 33],
 zL 35 34,
⟨some 36, none, .call, [.c (.func (.func 130) [] []), .t 35]⟩])
.skip)))
.skip)))
(.ops [zM 37 0,
 zN 38 37,
 zF 39 38 10,
 zL 40 39,
 zP 41 (.bin .add) [.t 40, .c (.int .i64 1)],
 zN 42 37,
 zF 43 42 10,
 zS 1 [.t 43, .t 41]])))))⟩
abbrev f_kernel_Kernel_tick : Nat := 95
abbrev C_kernel_Kernel_tick : AFunc := C95
def C96 : AFunc := ⟨26, [.tmp 2],
(.seq (.ops [zP 2 .mov [.c (.bool false)]])
(.seq (.ops [zM 3 0,
⟨some 4, none, .call, [.c (.func (.func 67) [] []), .t 3]⟩,
 zP 5 .not [.t 4],
 zM 6 5,
 zMg 7 0 6 true,
 zNg 8 7 6 true,
 zFg 9 8 6 6 true,
 zLg 10 9 6 true,
 zPg 11 .not [.t 10] 6 true,
 zP 12 .pick [.t 6, .t 11, .c (.bool false)],
 zM 13 12,
 zMg 14 0 13 true,
 zNg 15 14 13 true,
 zFg 16 15 5 13 true,
 zLg 17 16 13 true,
 zMg 18 17 13 true,
 zMg 19 0 18 false,
 zNg 20 19 18 false,
 zFg 21 20 4 18 false,
 zLg 22 21 18 false,
 zPg 23 (.neq .nilptr) [.t 22, .c .nilp] 18 false,
 zPg 24 .pick [.t 18, .c (.bool true), .t 23] 13 true,
 zP 25 .pick [.t 13, .t 24, .c (.bool false)],
 zM 2 25])
.ret))⟩
abbrev f_purse_Purse_Waits : Nat := 96
abbrev C_purse_Purse_Waits : AFunc := C96
def C97 : AFunc := ⟨70, [.tmp 8],
(.seq (.ops [zP 8 .mov [.c (.int .i64 0)]])
(.seq (.seq (.ops [zM 13 0,
 zM 14 1,
⟨some 15, none, .call, [.c (.func (.func 131) [] []), .t 13, .t 14]⟩,
 zM 9 15])
(.seq (.ops [zM 16 9,
 zP 17 (.bin .neq) [.t 16, .c (.int .i64 0)]])
(.cond (.t 17)
(.seq (.ops [zM 18 9,
 zM 8 18])
.ret)
.skip)))
(.seq (.seq (.ops [zM 19 0,
 zN 20 19,
 zF 21 20 4,
 zL 22 21,
 zM 23 1,
 zP 24 (.iaddrS 1) [.t 22, .t 23],
 zL 25 24,
 zP 26 (.neq .nilptr) [.t 25, .c .nilp]])
(.cond (.t 26)
(.seq (.ops [zP 8 .mov [.c (.int .i64 141)]])
.ret)
.skip))
(.seq (.ops [zM 28 0,
 zN 29 28,
 zF 30 29 2,
 zL 31 30,
 zM 32 1,
 zP 33 (.iaddrS 8) [.t 31, .t 32],
⟨some 34, none, .r (.loadN 8), [.t 33]⟩,
 zM 35 2,
 zM 36 3,
⟨some 37, none, .call, [.c (.func (.func 132) [] []), .t 34, .t 35, .t 36]⟩,
 zM 27 37,
 zP 38 (.ext 0) [.t 27],
 zP 39 (.ext 1) [.t 27],
 zM 10 38,
 zM 11 39])
(.seq (.seq (.ops [zM 40 11,
 zP 41 (.bin .neq) [.t 40, .c (.int .i64 0)]])
(.cond (.t 41)
(.seq (.ops [zM 42 11,
 zM 8 42])
.ret)
.skip))
(.seq (.seq (.ops [zM 43 0,
 zN 44 43,
 zF 45 44 3,
 zL 46 45,
 zM 47 1,
 zP 48 (.iaddrS 1) [.t 46, .t 47],
 zL 49 48,
 zM 50 3,
⟨some 51, none, .call, [.c (.func (.func 133) [] []), .t 49, .t 50]⟩,
 zM 12 51])
(.seq (.ops [zM 52 12,
 zP 53 (.bin .neq) [.t 52, .c (.int .i64 0)]])
(.cond (.t 53)
(.seq (.ops [zM 54 12,
 zM 8 54])
.ret)
.skip)))
(.seq (.ops [zM 55 0,
 zN 56 55,
 zF 57 56 4,
 zL 58 57,
 zM 59 1,
 zM 60 10,
 zP 61 (.iaddrS 1) [.t 58, .t 59],
 zS 1 [.t 61, .t 60]])
(.seq (.dops [zM 62 0,
 zN 63 62,
 zF 64 63 1,
 zL 65 64,
 zM 66 1,
 zM 67 10,
⟨some 68, none, .call, [.c (.func (.func 135) [] []), .t 67]⟩,
⟨some 69, none, .call, [.c (.func (.func 134) [] []), .t 65, .t 66, .t 68]⟩,
 zM 8 69] [[], [], [], [0, 7], [], [], [], [], []])
.ret))))))))⟩
abbrev f_room_Room_Release : Nat := 97
abbrev C_room_Room_Release : AFunc := C97
def C98 : AFunc := ⟨31, [],
(.seq (.ops [⟨some 9, none, .a .box, [.t 4]⟩])
(.seq (.ops [zM 10 0,
 zN 11 10,
 zF 12 11 10,
 zL 13 12,
 zM 14 1,
 zM 15 2,
 zM 16 3,
 zF 17 9 0,
 zS 1 [.t 17, .t 13],
 zF 18 9 1,
 zS 1 [.t 18, .t 14],
 zF 19 9 2,
 zS 1 [.t 19, .t 15],
 zF 20 9 3,
 zS 1 [.t 20, .t 16]])
(.dops [zM 21 0,
 zM 22 0,
 zN 23 22,
 zF 24 23 13,
 zL 25 24,
⟨some 26, none, .r (.loadN 7), [.t 9]⟩,
⟨some 27, none, .a (.bslice [(.int .i64 0), (.int .i64 0), (.int .i64 0), (.int .i64 0), (.int .i64 0), (.int .i64 0), (.str [])] 1 7 [0]), [.t 26]⟩,
⟨some 28, none, .e (.append 7 64), [.t 25, .t 27]⟩,
 zN 29 21,
 zF 30 29 13,
 zS 1 [.t 30, .t 28]] [[], [], [], [], [], [], [], [], [], [], []])))⟩
abbrev f_kernel_Kernel_note : Nat := 98
abbrev C_kernel_Kernel_note : AFunc := C98
def C99 : AFunc := ⟨31, [.tmp 6],
(.seq (.ops [zP 6 .mov [.c (.bool false)]])
(.seq (.seq (.ops [zM 10 0,
 zN 11 10,
 zF 12 11 12,
 zL 13 12,
 zM 14 1,
 zP 15 (.iaddrS 1) [.t 13, .t 14],
 zL 16 15,
 zM 17 2,
⟨some 18, none, .call, [.c (.func (.func 136) [] []), .t 16, .t 17]⟩,
 zM 9 18,
 zP 19 (.ext 0) [.t 9],
 zP 20 (.ext 1) [.t 9],
⟨some 7, none, .a (.alloc [(.int .i64 0), (.int .i64 0), (.str [])]), []⟩,
 zS 3 [.t 7, .t 19],
 zM 8 20])
(.seq (.ops [zM 21 8])
(.cond (.t 21)
(.seq (.ops [zP 6 .mov [.c (.bool false)]])
.ret)
.skip)))
(.seq (.ops [zM 22 0,
 zM 23 1,
 zM 24 2,
 zP 25 (.build [(.int .i64 0), (.int .i64 0), (.int .i64 0), (.int .i64 0), (.int .i64 0), (.int .i64 0), (.str [])] []) [],
⟨some 26, none, .call, [.c (.func (.func 98) [] []), .t 22, .c (.int .i64 3), .t 23, .t 24, .t 25]⟩])
(.seq (.ops [zM 27 0,
 zM 28 1,
 zM 29 2,
⟨some 30, none, .call, [.c (.func (.func 137) [] []), .t 27, .t 28, .t 29]⟩])
(.seq (.ops [zP 6 .mov [.c (.bool true)]])
.ret)))))⟩
abbrev f_kernel_Kernel_done : Nat := 99
abbrev C_kernel_Kernel_done : AFunc := C99
def C100 : AFunc := ⟨8, [.tmp 2],
(.seq (.ops [zP 2 .mov [.c (.bool false)]])
(.seq (.ops [zM 3 0,
 zN 4 3,
 zF 5 4 11,
 zL 6 5,
⟨some 7, none, .call, [.c (.func (.func 138) [] []), .t 6, .c (.func (.func 96) [] [])]⟩,
 zM 2 7])
.ret))⟩
abbrev f_kernel_Kernel_waits : Nat := 100
abbrev C_kernel_Kernel_waits : AFunc := C100
def C101 : AFunc := ⟨39, [.tmp 6],
(.seq (.ops [⟨some 3, none, .a .box, [.t 0]⟩,
 zP 6 .mov [.c (.int .i64 0)]])
(.seq (.seq (.ops [⟨some 9, none, .r (.loadN 2), [.t 3]⟩,
 zM 10 1,
⟨some 11, none, .call, [.c (.func (.func 139) [] []), .t 9, .t 10]⟩,
 zM 7 11])
(.seq (.ops [zM 12 7,
 zP 13 (.bin .neq) [.t 12, .c (.int .i64 0)]])
(.cond (.t 13)
(.seq (.ops [zM 14 7,
 zM 6 14])
.ret)
.skip)))
(.seq (.seq (.ops [zM 15 2,
 zP 16 (.bin .lss) [.t 15, .c (.int .i64 0)],
 zM 17 16,
 zMg 18 2 17 false,
 zMg 19 1 17 false,
 zPg 20 .lenS [.t 19] 17 false,
 zPg 21 (.bin .geq) [.t 18, .t 20] 17 false,
 zP 22 .pick [.t 17, .c (.bool true), .t 21]])
(.cond (.t 22)
(.seq (.ops [zP 6 .mov [.c (.int .i64 9)]])
.ret)
.skip))
(.seq (.ops [⟨some 8, none, .a (.alloc [(.bool false), (.bool false), (.bool false), (.bool false)]), []⟩])
(.seq (.ops [zP 23 (.sliceArr 1 4 false false false) [.t 8],
 zM 24 1,
⟨some 25, none, .e (.copy 1), [.t 23, .t 24]⟩])
(.seq (.ops [zM 26 2,
 zP 27 (.iaddrA 1 4) [.t 8, .t 26],
 zS 1 [.t 27, .c (.bool true)]])
(.seq (.dops [⟨some 29, none, .r (.loadN 2), [.t 3]⟩,
 zM 30 1,
 zP 31 .lenS [.t 30],
 zP 32 (.sliceArr 1 4 false true false) [.t 8, .t 31],
⟨some 33, none, .call, [.c (.func (.func 140) [] []), .t 29, .t 32]⟩,
 zM 28 33,
 zP 34 (.ext 0) [.t 28],
 zP 35 (.ext 1) [.t 28],
 zP 36 (.ext 2) [.t 28],
 zM 6 36] [[], [], [], [], [], [], [], [], [], []])
(.seq (.ops [zP 37 (.sliceArr 1 4 false false false) [.t 8],
⟨none, none, .e (.clear [(.bool false)]), [.t 37]⟩])
(.seq (.ops [zM 38 6,
 zM 6 38])
.ret)))))))))⟩
abbrev f_gate_Join : Nat := 101
abbrev C_gate_Join : AFunc := C101
def C102 : AFunc := ⟨14, [.tmp 2],
(.seq (.ops [zP 2 .mov [.c .nils]])
(.seq (.ops [zM 4 0,
 zN 5 4,
 zF 6 5 11,
 zL 7 6,
 zP 8 .lenS [.t 7],
⟨some 9, none, .a (.mkslice [(.bool false)] 1 1), [.t 8, .t 8]⟩,
⟨some 3, none, .a (.alloc [.nils]), []⟩,
 zS 1 [.t 3, .t 9]])
(.seq (.ops [zM 10 0,
 zP 11 (.mkfunc (.func 141) 0) [.t 3],
⟨some 12, none, .call, [.c (.func (.func 124) [] []), .t 10, .t 11]⟩])
(.seq (.ops [zL 13 3,
 zM 2 13])
.ret))))⟩
abbrev f_kernel_Kernel_who : Nat := 102
abbrev C_kernel_Kernel_who : AFunc := C102
def C103 : AFunc := ⟨28, [.tmp 6, .tmp 7],
(.seq (.ops [zP 6 .mov [.c .nilp],
 zP 7 .mov [.c (.int .i64 0)]])
(.seq (.ops [zM 9 0,
 zM 10 1,
 zP 11 (.build [(.int .i64 0), (.int .i64 0)] [(0, 1), (1, 1)]) [.t 9, .t 10],
⟨some 8, none, .a (.alloc [(.int .i64 0), (.int .i64 0)]), []⟩,
 zS 2 [.t 8, .t 11]])
(.seq (.block 0 (.seq (.seq (.ops [⟨some 13, none, .r (.loadN 2), [.t 8]⟩,
⟨some 14, none, .call, [.c (.func (.func 142) [] []), .t 13]⟩,
 zP 15 .not [.t 14],
 zM 12 15])
(.cond (.t 12)
.skip
(.ops [zM 16 2,
 zP 17 (.bin .lss) [.t 16, .c (.int .i64 0)],
 zM 12 17])))
(.cond (.t 12)
(.seq (.ops [zP 6 .mov [.c .nilp],
 zP 7 .mov [.c (.int .i64 2)]])
.ret)
(.seq (.ops [zM 19 2,
 zP 20 (.bin .gtr) [.t 19, .c (.int .i64 1099511627776)],
 zM 18 20])
(.cond (.t 18)
(.seq (.ops [zP 6 .mov [.c .nilp],
 zP 7 .mov [.c (.int .i64 10)]])
.ret)
.skip)))))
(.seq (.ops [⟨some 21, none, .r (.loadN 2), [.t 8]⟩,
 zM 22 1,
 zM 23 2,
 zM 24 0,
 zP 25 (.bin .add) [.t 23, .t 24],
 zP 26 (.build [(.int .i64 0), (.int .i64 0), (.int .i64 0), (.int .i64 0), .nilp, (.bool false), (.bool false), (.int .i64 0)] [(0, 2), (2, 1), (3, 1)]) [.t 21, .t 22, .t 25],
⟨some 27, none, .a .box, [.t 26]⟩,
 zM 6 27,
 zP 7 .mov [.c (.int .i64 0)]])
.ret))))⟩
abbrev f_purse_New : Nat := 103
abbrev C_purse_New : AFunc := C103
def L_room_New_0 : AC := (.seq (.ops [zP 28 (.bin .lss) [.t 27, .t 26]])
(.seq (.cond (.t 28)
.skip
(.exit 0))
(.seq (.block 1 (.seq (.ops [zP 29 (.iaddrS 8) [.t 25, .t 27],
⟨some 30, none, .r (.loadN 8), [.t 29]⟩,
⟨some 7, none, .a (.alloc [(.int .i64 0), (.int .i64 0), (.int .i64 0), (.int .i64 0), (.int .i64 0), (.int .i64 0), (.int .i64 0), (.int .i64 0)]), []⟩,
 zS 8 [.t 7, .t 30]])
(.seq (.ops [zF 32 7 0,
 zL 33 32,
⟨some 34, none, .call, [.c (.func (.func 144) [] []), .t 33]⟩,
 zM 31 34,
 zP 35 (.ext 0) [.t 31],
 zP 36 (.ext 1) [.t 31],
 zM 8 35,
 zM 9 36])
(.ops [zM 37 5,
 zM 38 5,
 zN 39 38,
 zF 40 39 3,
 zL 41 40,
 zM 42 8,
⟨some 43, none, .a (.bslice [.nilp] 1 1 [0]), [.t 42]⟩,
⟨some 44, none, .e (.append 1 8), [.t 41, .t 43]⟩,
 zN 45 37,
 zF 46 45 3,
 zS 1 [.t 46, .t 44]]))))
(.ops [zP 47 (.bin .add) [.t 27, .c (.int .i64 1)],
 zM 27 47]))))
def C104 : AFunc := ⟨66, [.tmp 2, .tmp 3],
(.seq (.ops [zP 2 .mov [.c .nilp],
 zP 3 .mov [.c (.int .i64 0)]])
(.seq (.seq (.ops [zM 10 0,
 zM 11 0,
 zP 12 .lenS [.t 11],
⟨some 13, none, .a (.mkslice [(.int .i64 0)] 1 8), [.t 12, .t 12]⟩,
⟨some 14, none, .call, [.c (.func (.func 143) [] []), .t 10, .t 13]⟩,
 zM 4 14])
(.seq (.ops [zM 15 4,
 zP 16 (.bin .neq) [.t 15, .c (.int .i64 0)]])
(.cond (.t 16)
(.seq (.ops [zM 17 4,
 zP 2 .mov [.c .nilp],
 zM 3 17])
.ret)
.skip)))
(.seq (.dops [zM 18 0,
⟨some 19, none, .call, [.c (.func (.func 62) [] []), .t 18]⟩,
 zM 20 0,
 zP 21 .lenS [.t 20],
⟨some 22, none, .a (.mkslice [.nilp] 1 8), [.t 21, .t 21]⟩,
 zP 23 (.build [.nilp, .nilp, .nils, .nils, .nils] [(2, 1), (4, 1)]) [.t 19, .t 22],
⟨some 24, none, .a .box, [.t 23]⟩,
 zM 5 24] [[], [], [], [], [], [], [], []])
(.seq (.seq (.ops [zM 25 0,
 zP 26 .lenS [.t 25],
 zP 27 .mov [.c (.int .i64 0)]])
(.block 0 (.loop L_room_New_0)))
(.seq (.ops [zM 49 5,
 zM 50 0,
⟨some 51, none, .call, [.c (.func (.func 145) [] []), .t 50]⟩,
 zM 48 51,
 zP 52 (.ext 0) [.t 48],
 zP 53 (.ext 1) [.t 48],
 zN 54 49,
 zF 55 54 0,
 zS 1 [.t 55, .t 52]])
(.seq (.ops [zM 57 5,
 zM 58 0,
 zP 59 .lenS [.t 58],
⟨some 60, none, .call, [.c (.func (.func 146) [] []), .t 59]⟩,
 zM 56 60,
 zP 61 (.ext 0) [.t 56],
 zP 62 (.ext 1) [.t 56],
 zN 63 57,
 zF 64 63 1,
 zS 1 [.t 64, .t 61]])
(.seq (.ops [zM 65 5,
 zM 2 65,
 zP 3 .mov [.c (.int .i64 0)]])
.ret)))))))⟩
abbrev f_room_New : Nat := 104
abbrev C_room_New : AFunc := C104
def C105 : AFunc := ⟨12, [.tmp 2],
(.seq (.ops [zP 2 .mov [.c (.int .i64 0)]])
(.seq (.ops [zM 4 0,
⟨some 5, none, .call, [.c (.func (.func 147) [] []), .t 4]⟩,
 zM 3 5])
(.seq (.seq (.ops [zM 6 3,
 zP 7 (.bin .eql) [.t 6, .c (.int .i64 0)]])
(.cond (.t 7)
(.ops [zM 8 0,
 zN 9 8,
 zF 10 9 5,
 zS 1 [.t 10, .c (.bool true)]])
.skip))
(.seq (.ops [zM 11 3,
 zM 2 11])
.ret))))⟩
abbrev f_purse_Purse_Leave : Nat := 105
abbrev C_purse_Purse_Leave : AFunc := C105
def C106 : AFunc := ⟨58, [.cell 10 2 true, .tmp 11],
(.seq (.ops [⟨some 5, none, .a .box, [.t 0]⟩,
⟨some 10, none, .a (.alloc [.nils, .nils]), []⟩,
 zP 11 .mov [.c (.int .i64 0)]])
(.seq (.seq (.ops [⟨some 15, none, .r (.loadN 2), [.t 5]⟩,
 zM 16 1,
⟨some 17, none, .call, [.c (.func (.func 139) [] []), .t 15, .t 16]⟩,
 zM 12 17])
(.seq (.ops [zM 18 12,
 zP 19 (.bin .neq) [.t 18, .c (.int .i64 0)]])
(.cond (.t 19)
(.seq (.ops [zP 20 (.build [.nils, .nils] []) [],
 zM 21 12,
 zS 2 [.t 10, .t 20],
 zM 11 21])
.ret)
.skip)))
(.seq (.seq (.ops [zM 22 2,
 zP 23 (.bin .lss) [.t 22, .c (.int .i64 0)],
 zM 24 23,
 zMg 25 2 24 false,
 zMg 26 1 24 false,
 zPg 27 .lenS [.t 26] 24 false,
 zPg 28 (.bin .geq) [.t 25, .t 27] 24 false,
 zP 29 .pick [.t 24, .c (.bool true), .t 28]])
(.cond (.t 29)
(.seq (.ops [zP 30 (.build [.nils, .nils] []) [],
 zS 2 [.t 10, .t 30],
 zP 11 .mov [.c (.int .i64 9)]])
.ret)
.skip))
(.seq (.ops [⟨some 31, none, .r (.loadN 2), [.t 5]⟩,
 zM 32 2,
 zM 33 3,
 zM 34 4,
⟨some 35, none, .call, [.c (.func (.func 148) [] []), .t 31, .t 32, .t 33, .t 34]⟩,
⟨some 13, none, .a (.alloc [.nils, .nils]), []⟩,
 zS 2 [.t 13, .t 35]])
(.seq (.ops [⟨some 36, none, .r (.loadN 2), [.t 13]⟩,
⟨some 37, none, .call, [.c (.func (.func 23) [] []), .t 36]⟩,
 zM 14 37])
(.seq (.seq (.ops [zM 38 14,
 zP 39 (.bin .eql) [.t 38, .c (.int .i64 0)],
 zM 40 39,
 zMg 41 1 40 true,
 zMg 42 2 40 true,
 zPg 43 (.iaddrS 1) [.t 41, .t 42] 40 true,
 zLg 44 43 40 true,
 zP 45 .pick [.t 40, .t 44, .c (.bool false)]])
(.cond (.t 45)
(.ops [⟨some 47, none, .r (.loadN 2), [.t 13]⟩,
 zM 48 1,
⟨some 49, none, .call, [.c (.func (.func 140) [] []), .t 47, .t 48]⟩,
 zM 46 49,
 zP 50 (.ext 0) [.t 46],
 zP 51 (.ext 1) [.t 46],
 zP 52 (.ext 2) [.t 46],
 zM 14 52])
.skip))
(.seq (.seq (.ops [zM 53 14,
 zP 54 (.bin .neq) [.t 53, .c (.int .i64 0)]])
(.cond (.t 54)
(.seq (.ops [zP 55 (.build [.nils, .nils] []) [],
 zM 56 14,
 zS 2 [.t 10, .t 55],
 zM 11 56])
.ret)
.skip))
(.seq (.ops [⟨some 57, none, .r (.loadN 2), [.t 13]⟩,
 zS 2 [.t 10, .t 57],
 zP 11 .mov [.c (.int .i64 0)]])
.ret))))))))⟩
abbrev f_gate_Change : Nat := 106
abbrev C_gate_Change : AFunc := C106
def C107 : AFunc := ⟨23, [.tmp 6],
(.seq (.ops [zP 6 .mov [.c (.int .i64 0)]])
(.seq (.seq (.ops [zM 9 0,
⟨some 10, none, .call, [.c (.func (.func 147) [] []), .t 9]⟩,
 zM 7 10])
(.seq (.ops [zM 11 7,
 zP 12 (.bin .neq) [.t 11, .c (.int .i64 0)]])
(.cond (.t 12)
(.seq (.ops [zM 13 7,
 zM 6 13])
.ret)
.skip)))
(.seq (.ops [zM 14 1,
 zM 15 2,
 zP 16 (.build [(.int .i64 0), (.int .i64 0)] [(0, 1), (1, 1)]) [.t 14, .t 15],
⟨some 8, none, .a (.alloc [(.int .i64 0), (.int .i64 0)]), []⟩,
 zS 2 [.t 8, .t 16]])
(.seq (.seq (.ops [⟨some 17, none, .r (.loadN 2), [.t 8]⟩,
⟨some 18, none, .call, [.c (.func (.func 142) [] []), .t 17]⟩,
 zP 19 .not [.t 18]])
(.cond (.t 19)
(.seq (.ops [zP 6 .mov [.c (.int .i64 2)]])
.ret)
.skip))
(.seq (.ops [zM 20 0,
 zN 21 20,
 zF 22 21 4,
 zS 1 [.t 22, .t 8]])
(.seq (.ops [zP 6 .mov [.c (.int .i64 0)]])
.ret))))))⟩
abbrev f_purse_Purse_Change : Nat := 107
abbrev C_purse_Purse_Change : AFunc := C107
def C108 : AFunc := ⟨26, [.tmp 6],
(.seq (.ops [zP 6 .mov [.c (.bool false)]])
(.seq (.seq (.ops [zM 9 0,
 zM 10 1,
⟨some 11, none, .call, [.c (.func (.func 16) [] []), .t 9, .t 10]⟩,
 zP 12 .not [.t 11]])
(.cond (.t 12)
(.seq (.ops [zP 6 .mov [.c (.bool false)]])
.ret)
.skip))
(.seq (.ops [zM 14 0,
 zN 15 14,
 zF 16 15 12,
 zL 17 16,
 zM 18 1,
 zP 19 (.iaddrS 1) [.t 17, .t 18],
 zL 20 19,
 zM 21 2,
⟨some 22, none, .call, [.c (.func (.func 149) [] []), .t 20, .t 21]⟩,
 zM 13 22,
 zP 23 (.ext 0) [.t 13],
 zP 24 (.ext 1) [.t 13],
 zM 7 23,
 zM 8 24])
(.seq (.ops [zM 25 8,
 zM 6 25])
.ret))))⟩
abbrev f_kernel_Kernel_has : Nat := 108
abbrev C_kernel_Kernel_has : AFunc := C108
def C109 : AFunc := ⟨18, [],
(.seq (.ops [zM 8 0,
 zM 9 1,
 zM 10 2,
 zM 11 3,
 zP 12 (.build [(.int .i64 0), (.int .i64 0), (.int .i64 0), (.int .i64 0), (.int .i64 0), (.int .i64 0), (.str [])] [(4, 1)]) [.t 11],
⟨some 13, none, .call, [.c (.func (.func 98) [] []), .t 8, .c (.int .i64 4), .t 9, .t 10, .t 12]⟩])
(.ops [zM 14 0,
 zM 15 1,
 zM 16 2,
⟨some 17, none, .call, [.c (.func (.func 137) [] []), .t 14, .t 15, .t 16]⟩]))⟩
abbrev f_kernel_Kernel_kill : Nat := 109
abbrev C_kernel_Kernel_kill : AFunc := C109
def C110 : AFunc := ⟨48, [],
(.seq (.ops [zM 4 0,
 zM 5 1,
⟨some 6, none, .call, [.c (.func (.func 150) [] []), .t 4, .t 5, .c (.int .i64 0)]⟩])
(.seq (.dops [zM 7 0,
 zM 8 0,
 zN 9 8,
 zF 10 9 9,
 zL 11 10,
 zM 12 0,
 zN 13 12,
 zF 14 13 11,
 zL 15 14,
 zM 16 1,
 zP 17 (.iaddrS 1) [.t 15, .t 16],
 zL 18 17,
⟨some 19, none, .call, [.c (.func (.func 35) [] []), .t 18]⟩,
 zP 20 .mx [.t 11, .t 19],
 zN 21 7,
 zF 22 21 9,
 zS 1 [.t 22, .t 20]] [[], [], [], [], [0, 13], [], [], [], [], [], [], [], [], [], [], [], []])
(.seq (.dops [zM 23 0,
 zN 24 23,
 zF 25 24 11,
 zL 26 25,
 zM 27 1,
 zM 28 0,
 zN 29 28,
 zF 30 29 12,
 zL 31 30,
 zM 32 1,
 zP 33 (.iaddrS 1) [.t 26, .t 27],
 zS 1 [.t 33, .c .nilp],
 zP 34 (.iaddrS 1) [.t 31, .t 32],
 zS 1 [.t 34, .c .nilp]] [[], [], [], [], [], [], [], [], [], [], [], [], [], []])
(.seq (.ops [zM 35 0,
 zM 36 1,
 zP 37 (.build [(.int .i64 0), (.int .i64 0), (.int .i64 0), (.int .i64 0), (.int .i64 0), (.int .i64 0), (.str [])] []) [],
⟨some 38, none, .call, [.c (.func (.func 98) [] []), .t 35, .c (.int .i64 7), .t 36, .c (.int .i64 0), .t 37]⟩])
(.seq (.ops [zM 39 0,
 zN 40 39,
 zF 41 40 8,
 zL 42 41,
 zM 43 1,
 zP 44 (.bin .eql) [.t 42, .t 43]])
(.cond (.t 44)
(.ops [zM 45 0,
 zN 46 45,
 zF 47 46 8,
 zS 1 [.t 47, .c (.int .i64 (-1))]])
.skip))))))⟩
abbrev f_kernel_Kernel_gone : Nat := 110
abbrev C_kernel_Kernel_gone : AFunc := C110
def C111 : AFunc := ⟨35, [.tmp 8],
(.seq (.ops [zP 8 .mov [.c (.int .i64 0)]])
(.seq (.seq (.ops [zM 11 0,
 zM 12 1,
 zM 13 2,
⟨some 14, none, .call, [.c (.func (.func 66) [] []), .t 11, .t 12, .t 13]⟩,
 zM 9 14])
(.seq (.ops [zM 15 9,
 zP 16 (.bin .neq) [.t 15, .c (.int .i64 0)]])
(.cond (.t 16)
(.seq (.ops [zM 17 9,
 zM 8 17])
.ret)
.skip)))
(.seq (.ops [zP 10 .mov [.c (.int .i64 1)]])
(.seq (.seq (.ops [zM 18 2,
 zP 19 (.bin .eql) [.t 18, .c (.int .i64 4)]])
(.cond (.t 19)
(.ops [zP 10 .mov [.c (.int .i64 0)]])
.skip))
(.seq (.seq (.ops [zM 20 3,
 zM 21 10,
 zP 22 (.bin .lss) [.t 20, .t 21],
 zM 23 22,
 zMg 24 3 23 false,
 zPg 25 (.bin .gtr) [.t 24, .c (.int .i64 3)] 23 false,
 zP 26 .pick [.t 23, .c (.bool true), .t 25]])
(.cond (.t 26)
(.seq (.ops [zP 8 .mov [.c (.int .i64 2)]])
.ret)
.skip))
(.seq (.ops [zM 27 0,
 zM 28 1,
 zM 29 2,
 zM 30 3,
 zN 31 27,
 zF 32 31 1,
 zP 33 (.iaddrA 5 4) [.t 32, .t 28],
 zP 34 (.iaddrA 1 5) [.t 33, .t 29],
 zS 1 [.t 34, .t 30]])
(.seq (.ops [zP 8 .mov [.c (.int .i64 0)]])
.ret)))))))⟩
abbrev f_health_Monitor_Set : Nat := 111
abbrev C_health_Monitor_Set : AFunc := C111
def C112 : AFunc := ⟨9, [.tmp 4],
(.seq (.ops [zP 4 .mov [.c (.bool false)]])
(.seq (.ops [zM 5 0,
 zM 6 1,
⟨some 7, none, .call, [.c (.func (.func 151) [] []), .t 5, .t 6]⟩,
 zP 8 (.bin .geq) [.t 7, .c (.int .i64 0)],
 zM 4 8])
.ret))⟩
abbrev f_slices_ContainsFunc_int_int : Nat := 112
abbrev C_slices_ContainsFunc_int_int : AFunc := C112
def L_slices_IndexFunc_api_Task_api_Task_0 : AC := (.seq (.ops [zP 9 (.bin .lss) [.t 8, .t 7]])
(.seq (.cond (.t 9)
.skip
(.exit 0))
(.seq (.block 1 (.seq (.ops [zM 10 8,
 zM 5 10])
(.seq (.ops [zM 11 1,
 zM 12 0,
 zM 13 5,
 zP 14 (.iaddrS 8) [.t 12, .t 13],
⟨some 15, none, .r (.loadN 8), [.t 14]⟩,
⟨some 16, none, .call, [.t 11, .t 15]⟩])
(.cond (.t 16)
(.seq (.ops [zM 17 5,
 zM 4 17])
.ret)
.skip))))
(.ops [zP 18 (.bin .add) [.t 8, .c (.int .i64 1)],
 zM 8 18]))))
def C116 : AFunc := ⟨19, [.tmp 4],
(.seq (.ops [zP 4 .mov [.c (.int .i64 0)]])
(.seq (.seq (.ops [zM 6 0,
 zP 7 .lenS [.t 6],
 zP 8 .mov [.c (.int .i64 0)]])
(.block 0 (.loop L_slices_IndexFunc_api_Task_api_Task_0)))
(.seq (.ops [zP 4 .mov [.c (.int .i64 (-1))]])
.ret)))⟩
abbrev f_slices_IndexFunc_api_Task_api_Task : Nat := 116
abbrev C_slices_IndexFunc_api_Task_api_Task : AFunc := C116
def C117 : AFunc := ⟨15, [.tmp 6],
(.seq (.ops [zP 6 .mov [.c (.bool false)]])
(.seq (.ops [zM 7 1,
 zM 8 0,
 zP 9 (.bin .leq) [.t 7, .t 8],
 zM 10 9,
 zMg 11 0 10 true,
 zMg 12 2 10 true,
 zPg 13 (.bin .leq) [.t 11, .t 12] 10 true,
 zP 14 .pick [.t 10, .t 13, .c (.bool false)],
 zM 6 14])
.ret))⟩
abbrev f_port_within : Nat := 117
abbrev C_port_within : AFunc := C117
def C118 : AFunc := ⟨12, [.tmp 2],
(.seq (.ops [zP 2 .mov [.c (.bool false)]])
(.seq (.ops [zM 3 0,
 zP 4 (.eq .nilptr) [.t 3, .c .nilp],
 zM 5 4,
 zMg 6 0 5 false,
 zNg 7 6 5 false,
 zFg 8 7 0 5 false,
 zLg 9 8 5 false,
 zPg 10 (.eq .nilptr) [.t 9, .c .nilp] 5 false,
 zP 11 .pick [.t 5, .c (.bool true), .t 10],
 zM 2 11])
.ret))⟩
abbrev f_rank_Rank_none : Nat := 118
abbrev C_rank_Rank_none : AFunc := C118
def C119 : AFunc := ⟨8, [.tmp 2],
(.seq (.ops [zP 2 .mov [.c .nils]])
(.seq (.seq (.ops [zM 3 0,
 zP 4 (.eq .nilsl) [.t 3, .c .nils]])
(.cond (.t 4)
(.seq (.ops [zP 2 .mov [.c .nils]])
.ret)
.skip))
(.seq (.ops [⟨some 5, none, .a (.bslice [(.int .i64 0), (.int .i64 0)] 0 2 []), []⟩,
 zM 6 0,
⟨some 7, none, .e (.append 2 16), [.t 5, .t 6]⟩,
 zM 2 7])
.ret)))⟩
abbrev f_slices_Clone_rank_one_rank_one : Nat := 119
abbrev C_slices_Clone_rank_one_rank_one : AFunc := C119
def C120 : AFunc := ⟨14, [],
(.seq (.ops [zM 5 0,
 zP 6 .lenS [.t 5],
 zM 4 6])
(.ops [zM 7 0,
 zM 8 4,
 zM 9 4,
 zP 10 (.conv .u64) [.t 9],
⟨some 11, none, .call, [.c (.func (.func 153) [] []), .t 10]⟩,
 zM 12 1,
⟨some 13, none, .call, [.c (.func (.func 152) [] []), .t 7, .c (.int .i64 0), .t 8, .t 11, .t 12]⟩]))⟩
abbrev f_slices_SortFunc_rank_one_rank_one : Nat := 120
abbrev C_slices_SortFunc_rank_one_rank_one : AFunc := C120
def C121 : AFunc := ⟨17, [.tmp 4],
(.seq (.ops [⟨some 2, none, .a .box, [.t 0]⟩,
⟨some 3, none, .a .box, [.t 1]⟩,
 zP 4 .mov [.c (.int .i64 0)]])
(.seq (.dops [zF 5 2 1,
 zL 6 5,
 zF 7 3 1,
 zL 8 7,
⟨some 9, none, .call, [.c (.func (.func 123) [] []), .t 6, .t 8]⟩,
 zF 10 2 0,
 zL 11 10,
 zF 12 3 0,
 zL 13 12,
⟨some 14, none, .call, [.c (.func (.func 123) [] []), .t 11, .t 13]⟩,
⟨some 15, none, .a (.bslice [(.int .i64 0)] 2 1 [0, 1]), [.t 9, .t 14]⟩,
⟨some 16, none, .call, [.c (.func (.func 122) [] []), .t 15]⟩,
 zM 4 16] [[], [], [], [], [], [], [0, 5], [], [0, 5], [], [], [], []])
.ret))⟩
abbrev f_rank_Rank_Ids_1 : Nat := 121
abbrev C_rank_Rank_Ids_1 : AFunc := C121
def L_cmp_Or_int_0 : AC := (.seq (.ops [zP 9 (.bin .lss) [.t 8, .t 7]])
(.seq (.cond (.t 9)
.skip
(.exit 0))
(.seq (.block 1 (.seq (.ops [zP 10 (.iaddrS 1) [.t 6, .t 8],
 zL 11 10,
 zM 5 11])
(.seq (.ops [zM 12 5,
 zM 13 3,
 zP 14 (.bin .neq) [.t 12, .t 13]])
(.cond (.t 14)
(.seq (.ops [zM 15 5,
 zM 2 15])
.ret)
.skip))))
(.ops [zP 16 (.bin .add) [.t 8, .c (.int .i64 1)],
 zM 8 16]))))
def C122 : AFunc := ⟨18, [.tmp 2],
(.seq (.ops [zP 2 .mov [.c (.int .i64 0)]])
(.seq (.ops [zP 3 .mov [.c (.int .i64 0)]])
(.seq (.seq (.ops [zM 6 0,
 zP 7 .lenS [.t 6],
 zP 8 .mov [.c (.int .i64 0)]])
(.block 0 (.loop L_cmp_Or_int_0)))
(.seq (.ops [zM 17 3,
 zM 2 17])
.ret))))⟩
abbrev f_cmp_Or_int : Nat := 122
abbrev C_cmp_Or_int : AFunc := C122
def C123 : AFunc := ⟨20, [.tmp 4],
(.seq (.ops [zP 4 .mov [.c (.int .i64 0)]])
(.seq (.ops [zM 7 0,
⟨some 8, none, .call, [.c (.func (.func 154) [] []), .t 7]⟩,
 zM 5 8])
(.seq (.ops [zM 9 1,
⟨some 10, none, .call, [.c (.func (.func 154) [] []), .t 9]⟩,
 zM 6 10])
(.seq (.seq (.ops [zM 11 5])
(.cond (.t 11)
(.seq (.seq (.ops [zM 12 6])
(.cond (.t 12)
(.seq (.ops [zP 4 .mov [.c (.int .i64 0)]])
.ret)
.skip))
(.seq (.ops [zP 4 .mov [.c (.int .i64 (-1))]])
.ret))
.skip))
(.seq (.seq (.ops [zM 13 6])
(.cond (.t 13)
(.seq (.ops [zP 4 .mov [.c (.int .i64 1)]])
.ret)
.skip))
(.seq (.seq (.ops [zM 14 0,
 zM 15 1,
 zP 16 (.bin .lss) [.t 14, .t 15]])
(.cond (.t 16)
(.seq (.ops [zP 4 .mov [.c (.int .i64 (-1))]])
.ret)
.skip))
(.seq (.seq (.ops [zM 17 0,
 zM 18 1,
 zP 19 (.bin .gtr) [.t 17, .t 18]])
(.cond (.t 19)
(.seq (.ops [zP 4 .mov [.c (.int .i64 1)]])
.ret)
.skip))
(.seq (.ops [zP 4 .mov [.c (.int .i64 0)]])
.ret))))))))⟩
abbrev f_cmp_Compare_int : Nat := 123
abbrev C_cmp_Compare_int : AFunc := C123
def L_kernel_Kernel_each_0 : AC := (.seq (.ops [zP 11 (.bin .lss) [.t 10, .t 9]])
(.seq (.cond (.t 11)
.skip
(.exit 0))
(.seq (.block 1 (.seq (.ops [zM 12 10,
 zM 4 12])
(.seq (.ops [zM 13 0,
 zM 14 4,
⟨some 15, none, .call, [.c (.func (.func 16) [] []), .t 13, .t 14]⟩])
(.cond (.t 15)
(.ops [zM 16 1,
 zM 17 4,
⟨some 18, none, .call, [.t 16, .t 17]⟩])
.skip))))
(.ops [zP 19 (.bin .add) [.t 10, .c (.int .i64 1)],
 zM 10 19]))))
def C124 : AFunc := ⟨20, [],
(.seq (.ops [zM 5 0,
 zN 6 5,
 zF 7 6 11,
 zL 8 7,
 zP 9 .lenS [.t 8],
 zP 10 .mov [.c (.int .i64 0)]])
(.block 0 (.loop L_kernel_Kernel_each_0)))⟩
abbrev f_kernel_Kernel_each : Nat := 124
abbrev C_kernel_Kernel_each : AFunc := C124
def C125 : AFunc := ⟨75, [],
(.seq (.dops [zM 8 0,
 zN 9 8,
 zF 10 9 11,
 zL 11 10,
 zM 12 1,
 zP 13 (.iaddrS 1) [.t 11, .t 12],
 zL 14 13,
 zM 15 0,
 zN 16 15,
 zF 17 16 10,
 zL 18 17,
⟨some 19, none, .call, [.c (.func (.func 155) [] []), .t 14, .t 18]⟩,
 zM 7 19,
 zP 20 (.ext 0) [.t 7],
 zP 21 (.ext 1) [.t 7],
 zM 4 20,
 zM 5 21] [[], [], [], [], [], [], [], [], [], [], [], [], [], [], [], [], []])
(.block 0 (.seq (.ops [zM 23 4,
 zP 24 .not [.t 23],
 zM 22 24])
(.cond (.t 22)
.skip
(.seq (.ops [zM 26 0,
 zN 27 26,
 zF 28 27 11,
 zL 29 28,
 zM 30 1,
 zP 31 (.iaddrS 1) [.t 29, .t 30],
 zL 32 31,
⟨some 33, none, .call, [.c (.func (.func 156) [] []), .t 32]⟩,
 zM 25 33])
(.cond (.t 25)
(.ops [zM 34 0,
 zM 35 1,
⟨some 36, none, .call, [.c (.func (.func 110) [] []), .t 34, .t 35]⟩])
(.seq (.ops [zM 38 0,
 zN 39 38,
 zF 40 39 8,
 zL 41 40,
 zM 42 1,
 zP 43 (.bin .eql) [.t 41, .t 42],
 zM 37 43])
(.cond (.t 37)
(.seq (.ops [zM 44 0,
 zM 45 1,
⟨some 46, none, .call, [.c (.func (.func 150) [] []), .t 44, .t 45, .c (.int .i64 0)]⟩])
(.seq (.ops [zM 47 0,
 zM 48 0,
 zM 49 0,
 zN 50 49,
 zF 51 50 6,
⟨some 52, none, .r (.loadN 2), [.t 51]⟩,
 zN 53 47,
 zF 54 53 4,
 zS 2 [.t 54, .t 52],
 zN 55 48,
 zF 56 55 8,
 zS 1 [.t 56, .c (.int .i64 (-1))]])
(.seq (.ops [zM 57 0,
 zN 58 57,
 zF 59 58 4,
 zF 60 59 0,
 zL 61 60,
 zM 62 1,
 zP 63 (.iaddrS 3) [.t 61, .t 62],
⟨some 64, none, .r (.loadN 3), [.t 63]⟩,
⟨some 6, none, .a (.alloc [(.int .i64 0), (.int .i64 0), .nils]), []⟩,
 zS 3 [.t 6, .t 64]])
(.ops [zM 65 0,
 zM 66 1,
 zF 67 6 0,
 zL 68 67,
 zP 69 (.bin .mul) [.c (.int .i64 100), .t 68],
 zF 70 6 1,
 zL 71 70,
 zP 72 (.bin .add) [.t 69, .t 71],
 zP 73 (.build [(.int .i64 0), (.int .i64 0), (.int .i64 0), (.int .i64 0), (.int .i64 0), (.int .i64 0), (.str [])] [(4, 1)]) [.t 72],
⟨some 74, none, .call, [.c (.func (.func 98) [] []), .t 65, .c (.int .i64 8), .t 66, .c (.int .i64 0), .t 73]⟩]))))
.skip))))))))⟩
abbrev f_kernel_Kernel_turned : Nat := 125
abbrev C_kernel_Kernel_turned : AFunc := C125
def L_kernel_Kernel_late_0 : AC := (.seq (.ops [zP 16 (.bin .lss) [.t 15, .t 14]])
(.seq (.cond (.t 16)
.skip
(.exit 0))
(.seq (.block 1 (.seq (.ops [zP 17 (.iaddrS 1) [.t 13, .t 15],
 zL 18 17,
 zM 5 18])
(.seq (.dops [zM 19 0,
 zM 20 1,
 zM 21 5,
⟨some 22, none, .call, [.c (.func (.func 108) [] []), .t 19, .t 20, .t 21]⟩,
 zM 23 22,
 zMg 24 0 23 true,
 zNg 25 24 23 true,
 zFg 26 25 12 23 true,
 zLg 27 26 23 true,
 zMg 28 1 23 true,
 zPg 29 (.iaddrS 1) [.t 27, .t 28] 23 true,
 zLg 30 29 23 true,
 zMg 31 5 23 true,
 zMg 32 0 23 true,
 zNg 33 32 23 true,
 zFg 34 33 10 23 true,
 zLg 35 34 23 true,
⟨some 36, some (23, true), .call, [.c (.func (.func 157) [] []), .t 30, .t 31, .t 35]⟩,
 zPg 37 (.bin .eql) [.t 36, .c (.int .i64 3)] 23 true,
 zP 38 .pick [.t 23, .t 37, .c (.bool false)]] [[], [], [], [], [], [], [], [], [], [], [], [], [], [], [], [], [], [], [], []])
(.cond (.t 38)
(.ops [zM 39 0,
 zM 40 1,
 zM 41 5,
⟨some 42, none, .call, [.c (.func (.func 158) [] []), .t 39, .t 40, .t 41, .c (.int .i64 3)]⟩])
.skip))))
(.ops [zP 43 (.bin .add) [.t 15, .c (.int .i64 1)],
 zM 15 43]))))
def C126 : AFunc := ⟨44, [],
(.seq (.ops [zM 6 0,
 zN 7 6,
 zF 8 7 12,
 zL 9 8,
 zM 10 1,
 zP 11 (.iaddrS 1) [.t 9, .t 10],
 zL 12 11,
⟨some 13, none, .call, [.c (.func (.func 32) [] []), .t 12]⟩,
 zP 14 .lenS [.t 13],
 zP 15 .mov [.c (.int .i64 0)]])
(.block 0 (.loop L_kernel_Kernel_late_0)))⟩
abbrev f_kernel_Kernel_late : Nat := 126
abbrev C_kernel_Kernel_late : AFunc := C126
def L_kernel_Kernel_rings_0 : AC := (.seq (.ops [zP 19 (.bin .lss) [.t 18, .t 17]])
(.seq (.cond (.t 19)
.skip
(.exit 0))
(.seq (.block 1 (.seq (.ops [zP 20 (.iaddrS 3) [.t 16, .t 18],
⟨some 21, none, .r (.loadN 3), [.t 20]⟩,
⟨some 3, none, .a (.alloc [(.int .i64 0), (.int .i64 0), (.int .i64 0)]), []⟩,
 zS 3 [.t 3, .t 21]])
(.seq (.dops [zF 22 3 2,
 zL 23 22,
 zP 24 (.bin .quo) [.t 23, .c (.int .i64 4)],
 zF 25 3 2,
 zL 26 25,
 zP 27 (.bin .rem) [.t 26, .c (.int .i64 4)],
 zM 4 24,
 zM 5 27] [[], [], [], [], [], [], [], []])
(.seq (.ops [zM 28 0,
 zM 29 4,
⟨some 30, none, .call, [.c (.func (.func 16) [] []), .t 28, .t 29]⟩,
 zM 31 30,
 zMg 32 0 31 true,
 zNg 33 32 31 true,
 zFg 34 33 11 31 true,
 zLg 35 34 31 true,
 zMg 36 4 31 true,
 zPg 37 (.iaddrS 1) [.t 35, .t 36] 31 true,
 zLg 38 37 31 true,
⟨some 39, some (31, true), .call, [.c (.func (.func 96) [] []), .t 38]⟩,
 zPg 40 .not [.t 39] 31 true,
 zP 41 .pick [.t 31, .t 40, .c (.bool false)]])
(.cond (.t 41)
(.seq (.dops [zM 42 0,
 zN 43 42,
 zF 44 43 12,
 zL 45 44,
 zM 46 4,
 zP 47 (.iaddrS 1) [.t 45, .t 46],
 zL 48 47,
 zM 49 5,
 zP 50 (.build [(.int .i64 0), (.int .i64 0), (.str [])] [(0, 1), (1, 1)]) [.c (.int .i64 1), .c (.int .i64 1)],
⟨some 51, none, .a (.bslice [(.int .i64 0), (.int .i64 0), (.str [])] 1 3 [0]), [.t 50]⟩,
 zM 52 0,
 zN 53 52,
 zF 54 53 10,
 zL 55 54,
⟨some 56, none, .call, [.c (.func (.func 97) [] []), .t 48, .t 49, .t 51, .t 55]⟩,
 zM 6 56] [[], [], [], [], [], [], [], [], [], [], [], [], [], [], [], []])
(.ops [zM 57 0,
 zM 58 4,
 zM 59 5,
 zM 60 6,
 zP 61 (.build [(.int .i64 0), (.int .i64 0), (.int .i64 0), (.int .i64 0), (.int .i64 0), (.int .i64 0), (.str [])] [(5, 1)]) [.t 60],
⟨some 62, none, .call, [.c (.func (.func 98) [] []), .t 57, .c (.int .i64 2), .t 58, .t 59, .t 61]⟩]))
.skip)))))
(.ops [zP 63 (.bin .add) [.t 18, .c (.int .i64 1)],
 zM 18 63]))))
def C127 : AFunc := ⟨64, [],
(.seq (.dops [zM 7 0,
 zN 8 7,
 zF 9 8 0,
 zF 10 9 3,
 zL 11 10,
 zM 12 0,
 zN 13 12,
 zF 14 13 10,
 zL 15 14,
⟨some 16, none, .call, [.c (.func (.func 159) [] []), .t 11, .t 15]⟩,
 zP 17 .lenS [.t 16],
 zP 18 .mov [.c (.int .i64 0)]] [[], [], [], [], [], [], [], [], [], [], [], []])
(.block 0 (.loop L_kernel_Kernel_rings_0)))⟩
abbrev f_kernel_Kernel_rings : Nat := 127
abbrev C_kernel_Kernel_rings : AFunc := C127
def L_turn_Who_0 : AC := (.seq (.ops [zP 16 (.bin .lss) [.t 15, .t 14]])
(.seq (.cond (.t 16)
.skip
(.exit 0))
(.seq (.block 1 (.seq (.ops [zM 17 15,
 zP 18 (.iaddrS 1) [.t 13, .t 15],
 zL 19 18,
 zM 5 17,
 zM 6 19])
(.seq (.ops [zM 20 6,
⟨some 21, none, .call, [.c (.func (.func 156) [] []), .t 20]⟩,
 zP 22 .not [.t 21],
 zM 23 22,
 zMg 24 6 23 true,
⟨some 25, some (23, true), .call, [.c (.func (.func 34) [] []), .t 24]⟩,
 zPg 26 (.bin .gtr) [.t 25, .c (.int .i64 0)] 23 true,
 zP 27 .pick [.t 23, .t 26, .c (.bool false)]])
(.cond (.t 27)
(.ops [zM 28 4,
 zM 29 5,
 zM 30 6,
⟨some 31, none, .call, [.c (.func (.func 35) [] []), .t 30]⟩,
⟨some 32, none, .call, [.c (.func (.func 160) [] []), .t 28, .t 29, .t 31]⟩])
.skip))))
(.ops [zP 33 (.bin .add) [.t 15, .c (.int .i64 1)],
 zM 15 33]))))
def C128 : AFunc := ⟨44, [.tmp 2, .tmp 3],
(.seq (.ops [zP 2 .mov [.c (.int .i64 0)],
 zP 3 .mov [.c (.bool false)]])
(.seq (.ops [⟨some 8, none, .call, [.c (.func (.func 59) [] [])]⟩,
 zM 4 8])
(.seq (.seq (.ops [zM 9 0,
 zM 10 0,
 zP 11 .lenS [.t 10],
 zP 12 .mn [.t 11, .c (.int .i64 4)],
 zP 13 (.slice 1 false true false) [.t 9, .t 12],
 zP 14 .lenS [.t 13],
 zP 15 .mov [.c (.int .i64 0)]])
(.block 0 (.loop L_turn_Who_0)))
(.seq (.ops [zM 34 4,
 zP 35 (.mkfunc (.func 161) 1) [.t 34],
 zM 7 35])
(.seq (.ops [zM 37 7,
⟨some 38, none, .call, [.t 37]⟩,
 zM 36 38,
 zP 39 (.ext 0) [.t 36],
 zP 40 (.ext 1) [.t 36],
 zP 41 (.ext 2) [.t 36],
 zM 2 39,
 zM 3 41])
(.seq (.ops [zM 42 2,
 zM 43 3,
 zM 2 42,
 zM 3 43])
.ret))))))⟩
abbrev f_turn_Who : Nat := 128
abbrev C_turn_Who : AFunc := C128
def L_kernel_Kernel_run_0 : AC := (.seq (.seq (.ops [zM 9 4,
 zP 10 .not [.t 9],
 zM 11 10,
 zMg 12 0 11 true,
 zMg 13 1 11 true,
⟨some 14, some (11, true), .call, [.c (.func (.func 16) [] []), .t 12, .t 13]⟩,
 zP 15 .pick [.t 11, .t 14, .c (.bool false)]])
(.cond (.t 15)
.skip
(.exit 0)))
(.block 1 (.seq (.ops [zM 17 0,
 zN 18 17,
 zF 19 18 12,
 zL 20 19,
 zM 21 1,
 zP 22 (.iaddrS 1) [.t 20, .t 21],
 zL 23 22,
⟨some 24, none, .call, [.c (.func (.func 162) [] []), .t 23]⟩,
 zM 16 24,
 zP 25 (.ext 0) [.t 16],
 zP 26 (.ext 1) [.t 16],
 zM 5 25,
 zM 6 26])
(.seq (.seq (.ops [zM 27 6,
 zP 28 .not [.t 27]])
(.cond (.t 28)
(.seq (.ops [zM 29 0,
 zM 30 1,
 zP 31 (.build [(.int .i64 0), (.int .i64 0), (.int .i64 0), (.int .i64 0), (.int .i64 0), (.int .i64 0), (.str [])] []) [],
⟨some 32, none, .call, [.c (.func (.func 98) [] []), .t 29, .c (.int .i64 1), .t 30, .c (.int .i64 (-1)), .t 31]⟩])
.ret)
.skip))
(.seq (.ops [zM 34 0,
 zN 35 34,
 zF 36 35 12,
 zL 37 36,
 zM 38 1,
 zP 39 (.iaddrS 1) [.t 37, .t 38],
 zL 40 39,
 zM 41 5,
⟨some 42, none, .call, [.c (.func (.func 136) [] []), .t 40, .t 41]⟩,
 zM 33 42,
 zP 43 (.ext 0) [.t 33],
 zP 44 (.ext 1) [.t 33],
⟨some 7, none, .a (.alloc [(.int .i64 0), (.int .i64 0), (.str [])]), []⟩,
 zS 3 [.t 7, .t 43],
 zM 8 44])
(.seq (.ops [zF 45 7 0,
 zL 46 45])
(.block 2 (.seq (.ops [zP 53 (.bin .eql) [.t 46, .c (.int .i64 1)],
 zM 52 53])
(.cond (.t 52)
(.ops [zM 54 0,
 zM 55 1,
 zM 56 5,
⟨some 57, none, .call, [.c (.func (.func 163) [] []), .t 54, .t 55, .t 56]⟩,
 zM 4 57])
(.seq (.ops [zP 59 (.bin .eql) [.t 46, .c (.int .i64 4)],
 zM 58 59])
(.cond (.t 58)
(.ops [zM 60 0,
 zM 61 1,
 zM 62 5,
⟨some 63, none, .call, [.c (.func (.func 164) [] []), .t 60, .t 61, .t 62]⟩,
 zP 64 .not [.t 63],
 zM 4 64])
(.ops [zM 47 0,
 zM 48 1,
 zM 49 5,
⟨some 50, none, .r (.loadN 3), [.t 7]⟩,
⟨some 51, none, .call, [.c (.func (.func 165) [] []), .t 47, .t 48, .t 49, .t 50]⟩]))))))))))))
def C129 : AFunc := ⟨65, [],
(.seq (.ops [zP 4 .mov [.c (.bool false)]])
(.block 0 (.loop L_kernel_Kernel_run_0)))⟩
abbrev f_kernel_Kernel_run : Nat := 129
abbrev C_kernel_Kernel_run : AFunc := C129
def C130 : AFunc := ⟨24, [.tmp 2],
(.seq (.ops [zP 2 .mov [.c (.int .i64 0)]])
(.seq (.block 0 (.seq (.ops [zM 4 0,
⟨some 5, none, .call, [.c (.func (.func 67) [] []), .t 4]⟩,
 zM 3 5])
(.cond (.t 3)
(.seq (.ops [zP 2 .mov [.c (.int .i64 1)]])
.ret)
(.seq (.ops [zM 7 0,
 zN 8 7,
 zF 9 8 6,
 zL 10 9,
 zM 6 10])
(.cond (.t 6)
(.seq (.ops [zP 2 .mov [.c (.int .i64 250)]])
.ret)
(.seq (.ops [zM 12 0,
 zN 13 12,
 zF 14 13 2,
 zL 15 14,
 zP 16 (.bin .eql) [.t 15, .c (.int .i64 0)],
 zM 11 16])
(.cond (.t 11)
(.seq (.ops [zP 2 .mov [.c (.int .i64 8)]])
.ret)
.skip)))))))
(.seq (.ops [zM 17 0,
 zN 18 17,
 zF 19 18 2,
 zL 20 19,
 zP 21 (.bin .sub) [.t 20, .c (.int .i64 1)],
 zN 22 17,
 zF 23 22 2,
 zS 1 [.t 23, .t 21]])
(.seq (.ops [zP 2 .mov [.c (.int .i64 0)]])
.ret))))⟩
abbrev f_purse_Purse_Charge : Nat := 130
abbrev C_purse_Purse_Charge : AFunc := C130
def C131 : AFunc := ⟨18, [.tmp 4],
(.seq (.ops [zP 4 .mov [.c (.int .i64 0)]])
(.seq (.block 0 (.seq (.ops [zM 6 0,
⟨some 7, none, .call, [.c (.func (.func 64) [] []), .t 6]⟩,
 zM 5 7])
(.cond (.t 5)
(.seq (.ops [zP 4 .mov [.c (.int .i64 1)]])
.ret)
(.seq (.seq (.ops [zM 9 1,
 zP 10 (.bin .lss) [.t 9, .c (.int .i64 0)],
 zM 8 10])
(.cond (.t 8)
.skip
(.ops [zM 11 1,
 zM 12 0,
 zN 13 12,
 zF 14 13 2,
 zL 15 14,
 zP 16 .lenS [.t 15],
 zP 17 (.bin .geq) [.t 11, .t 16],
 zM 8 17])))
(.cond (.t 8)
(.seq (.ops [zP 4 .mov [.c (.int .i64 9)]])
.ret)
.skip)))))
(.seq (.ops [zP 4 .mov [.c (.int .i64 0)]])
.ret)))⟩
abbrev f_room_Room_has : Nat := 131
abbrev C_room_Room_has : AFunc := C131
def C132 : AFunc := ⟨39, [.tmp 6, .tmp 7],
(.seq (.ops [⟨some 3, none, .a .box, [.t 0]⟩,
 zP 6 .mov [.c .nilp],
 zP 7 .mov [.c (.int .i64 0)]])
(.seq (.seq (.ops [⟨some 11, none, .r (.loadN 8), [.t 3]⟩,
⟨some 12, none, .a (.bslice [(.int .i64 0), (.int .i64 0), (.int .i64 0), (.int .i64 0), (.int .i64 0), (.int .i64 0), (.int .i64 0), (.int .i64 0)] 1 8 [0]), [.t 11]⟩,
⟨some 13, none, .a (.bslice [(.int .i64 0)] 1 1 [0]), [.c (.int .i64 0)]⟩,
⟨some 14, none, .call, [.c (.func (.func 143) [] []), .t 12, .t 13]⟩,
 zM 8 14])
(.block 0 (.seq (.seq (.ops [zM 16 8,
 zP 17 (.bin .neq) [.t 16, .c (.int .i64 0)],
 zM 15 17])
(.cond (.t 15)
.skip
(.ops [zM 18 2,
 zP 19 (.bin .lss) [.t 18, .c (.int .i64 0)],
 zM 15 19])))
(.cond (.t 15)
(.seq (.ops [zP 6 .mov [.c .nilp],
 zP 7 .mov [.c (.int .i64 2)]])
.ret)
(.seq (.ops [zM 21 2,
 zP 22 (.bin .gtr) [.t 21, .c (.int .i64 1099511627776)],
 zM 20 22])
(.cond (.t 20)
(.seq (.ops [zP 6 .mov [.c .nilp],
 zP 7 .mov [.c (.int .i64 10)]])
.ret)
.skip))))))
(.seq (.ops [zM 24 1,
⟨some 25, none, .call, [.c (.func (.func 166) [] []), .t 24]⟩,
 zM 23 25,
 zP 26 (.ext 0) [.t 23],
 zP 27 (.ext 1) [.t 23],
 zM 9 26,
 zM 10 27])
(.seq (.seq (.ops [zM 28 10,
 zP 29 (.bin .neq) [.t 28, .c (.int .i64 0)]])
(.cond (.t 29)
(.seq (.ops [zM 30 10,
 zP 6 .mov [.c .nilp],
 zM 7 30])
.ret)
.skip))
(.seq (.ops [zM 31 9,
⟨some 32, none, .r (.loadN 8), [.t 3]⟩,
 zM 33 2,
 zF 34 3 1,
 zL 35 34,
 zP 36 (.bin .add) [.t 33, .t 35],
 zP 37 (.build [.nilp, (.int .i64 0), (.int .i64 0), (.int .i64 0), (.int .i64 0), (.int .i64 0), (.int .i64 0), (.int .i64 0), (.int .i64 0), (.int .i64 0), (.int .i64 0), (.int .i64 0), (.int .i64 0), (.int .i64 0), (.bool false)] [(0, 1), (1, 8), (9, 1)]) [.t 31, .t 32, .t 36],
⟨some 38, none, .a .box, [.t 37]⟩,
 zM 6 38,
 zP 7 .mov [.c (.int .i64 0)]])
.ret)))))⟩
abbrev f_job_New : Nat := 132
abbrev C_job_New : AFunc := C132
def C133 : AFunc := ⟨24, [.tmp 4],
(.seq (.ops [zP 4 .mov [.c (.int .i64 0)]])
(.seq (.ops [zM 7 0,
 zP 8 (.mkfunc (.func 167) 1) [.t 7],
 zM 5 8])
(.seq (.ops [zM 9 5,
 zM 10 1,
⟨some 11, none, .call, [.t 9, .t 10]⟩,
 zM 6 11])
(.seq (.seq (.ops [zM 12 6,
 zP 13 (.bin .eql) [.t 12, .c (.int .i64 0)]])
(.cond (.t 13)
(.ops [zM 14 0,
 zM 15 1,
 zM 16 0,
 zN 17 16,
 zF 18 17 0,
 zL 19 18,
 zP 20 (.bin .add) [.t 15, .t 19],
 zN 21 14,
 zF 22 21 1,
 zS 1 [.t 22, .t 20]])
.skip))
(.seq (.ops [zM 23 6,
 zM 4 23])
.ret)))))⟩
abbrev f_spore_Guard_Release : Nat := 133
abbrev C_spore_Guard_Release : AFunc := C133
def C134 : AFunc := ⟨35, [.tmp 6],
(.seq (.ops [zP 6 .mov [.c (.int .i64 0)]])
(.seq (.block 0 (.seq (.ops [zM 8 0,
⟨some 9, none, .call, [.c (.func (.func 93) [] []), .t 8]⟩,
 zM 7 9])
(.cond (.t 7)
(.seq (.ops [zP 6 .mov [.c (.int .i64 1)]])
.ret)
(.seq (.ops [zM 11 1,
 zP 12 (.bin .lss) [.t 11, .c (.int .i64 0)],
 zM 13 12,
 zMg 14 1 13 false,
 zMg 15 0 13 false,
 zNg 16 15 13 false,
 zFg 17 16 1 13 false,
 zLg 18 17 13 false,
 zPg 19 (.bin .geq) [.t 14, .t 18] 13 false,
 zP 20 .pick [.t 13, .c (.bool true), .t 19],
 zM 10 20])
(.cond (.t 10)
(.seq (.ops [zP 6 .mov [.c (.int .i64 9)]])
.ret)
(.seq (.ops [zM 22 2,
 zP 23 (.bin .lss) [.t 22, .c (.int .i64 0)],
 zM 24 23,
 zMg 25 2 24 false,
 zPg 26 (.bin .gtr) [.t 25, .c (.int .i64 1099511627840)] 24 false,
 zP 27 .pick [.t 24, .c (.bool true), .t 26],
 zM 21 27])
(.cond (.t 21)
(.seq (.ops [zP 6 .mov [.c (.int .i64 2)]])
.ret)
.skip)))))))
(.seq (.ops [zM 28 0,
 zN 29 28,
 zF 30 29 0,
 zL 31 30,
 zM 32 1,
 zM 33 2,
⟨some 34, none, .call, [.c (.func (.func 160) [] []), .t 31, .t 32, .t 33]⟩,
 zM 6 34])
.ret)))⟩
abbrev f_ready_Queue_Put : Nat := 134
abbrev C_ready_Queue_Put : AFunc := C134
def C135 : AFunc := ⟨9, [.tmp 2],
(.seq (.ops [zP 2 .mov [.c (.int .i64 0)]])
(.seq (.seq (.ops [zM 3 0,
⟨some 4, none, .call, [.c (.func (.func 168) [] []), .t 3]⟩])
(.cond (.t 4)
(.seq (.ops [zP 2 .mov [.c (.int .i64 0)]])
.ret)
.skip))
(.seq (.ops [zM 5 0,
 zN 6 5,
 zF 7 6 9,
 zL 8 7,
 zM 2 8])
.ret)))⟩
abbrev f_job_Job_Deadline : Nat := 135
abbrev C_job_Job_Deadline : AFunc := C135
def C136 : AFunc := ⟨21, [.cell 4 3 true, .tmp 5],
(.seq (.ops [⟨some 4, none, .a (.alloc [(.int .i64 0), (.int .i64 0), (.str [])]), []⟩,
 zP 5 .mov [.c (.bool false)]])
(.seq (.ops [zM 9 0,
 zM 10 1,
⟨some 11, none, .call, [.c (.func (.func 169) [] []), .t 9, .t 10]⟩,
 zM 8 11,
 zP 12 (.ext 0) [.t 8],
 zP 13 (.ext 1) [.t 8],
 zM 6 12,
 zM 7 13])
(.seq (.seq (.ops [zM 14 7,
 zP 15 (.bin .neq) [.t 14, .c (.int .i64 0)]])
(.cond (.t 15)
(.seq (.ops [zP 16 (.build [(.int .i64 0), (.int .i64 0), (.str [])] []) [],
 zS 3 [.t 4, .t 16],
 zP 5 .mov [.c (.bool false)]])
.ret)
.skip))
(.seq (.ops [zM 17 6,
⟨some 18, none, .call, [.c (.func (.func 170) [] []), .t 17]⟩,
 zP 19 (.ext 0) [.t 18],
 zP 20 (.ext 1) [.t 18],
 zS 3 [.t 4, .t 19],
 zM 5 20])
.ret))))⟩
abbrev f_room_Room_Next : Nat := 136
abbrev C_room_Room_Next : AFunc := C136
def C137 : AFunc := ⟨39, [],
(.seq (.ops [zM 10 0,
 zN 11 10,
 zF 12 11 12,
 zL 13 12,
 zM 14 1,
 zP 15 (.iaddrS 1) [.t 13, .t 14],
 zL 16 15,
 zM 6 16])
(.seq (.seq (.ops [zM 18 6,
⟨some 19, none, .call, [.c (.func (.func 171) [] []), .t 18]⟩,
 zM 17 19,
 zP 20 (.ext 0) [.t 17],
 zP 21 (.ext 1) [.t 17],
 zP 22 (.ext 2) [.t 17],
 zM 7 20,
 zM 8 21,
 zM 9 22])
(.seq (.ops [zM 23 9,
 zM 24 23,
 zMg 25 7 24 true,
 zMg 26 2 24 true,
 zPg 27 (.bin .eql) [.t 25, .t 26] 24 true,
 zP 28 .pick [.t 24, .t 27, .c (.bool false)]])
(.cond (.t 28)
(.ops [zM 29 0,
 zN 30 29,
 zF 31 30 0,
 zF 32 31 0,
 zL 33 32,
 zM 34 1,
⟨some 35, none, .call, [.c (.func (.func 172) [] []), .t 33, .t 34]⟩])
.skip)))
(.ops [zM 36 6,
 zM 37 2,
⟨some 38, none, .call, [.c (.func (.func 173) [] []), .t 36, .t 37]⟩])))⟩
abbrev f_kernel_Kernel_end : Nat := 137
abbrev C_kernel_Kernel_end : AFunc := C137
def C138 : AFunc := ⟨9, [.tmp 4],
(.seq (.ops [zP 4 .mov [.c (.bool false)]])
(.seq (.ops [zM 5 0,
 zM 6 1,
⟨some 7, none, .call, [.c (.func (.func 174) [] []), .t 5, .t 6]⟩,
 zP 8 (.bin .geq) [.t 7, .c (.int .i64 0)],
 zM 4 8])
.ret))⟩
abbrev f_slices_ContainsFunc_purse_Purse_purse_Purse : Nat := 138
abbrev C_slices_ContainsFunc_purse_Purse_purse_Purse : AFunc := C138
def C139 : AFunc := ⟨17, [.tmp 4],
(.seq (.ops [⟨some 2, none, .a .box, [.t 0]⟩,
 zP 4 .mov [.c (.int .i64 0)]])
(.seq (.seq (.ops [⟨some 6, none, .r (.loadN 2), [.t 2]⟩,
⟨some 7, none, .call, [.c (.func (.func 23) [] []), .t 6]⟩,
 zM 5 7])
(.seq (.ops [zM 8 5,
 zP 9 (.bin .neq) [.t 8, .c (.int .i64 0)]])
(.cond (.t 9)
(.seq (.ops [zM 10 5,
 zM 4 10])
.ret)
.skip)))
(.seq (.seq (.ops [zM 11 1,
 zP 12 .lenS [.t 11],
 zF 13 2 0,
 zL 14 13,
 zP 15 .lenS [.t 14],
 zP 16 (.bin .neq) [.t 12, .t 15]])
(.cond (.t 16)
(.seq (.ops [zP 4 .mov [.c (.int .i64 2)]])
.ret)
.skip))
(.seq (.ops [zP 4 .mov [.c (.int .i64 0)]])
.ret))))⟩
abbrev f_gate_asked : Nat := 139
abbrev C_gate_asked : AFunc := C139
def L_gate_Test_0 : AC := (.seq (.ops [zP 33 (.bin .lss) [.t 32, .t 31]])
(.seq (.cond (.t 33)
.skip
(.exit 0))
(.seq (.block 1 (.seq (.ops [zM 34 32,
 zP 35 (.iaddrS 3) [.t 30, .t 32],
⟨some 36, none, .r (.loadN 3), [.t 35]⟩,
⟨some 11, none, .a (.alloc [(.int .i64 0), (.int .i64 0), .nils]), []⟩,
 zM 10 34,
 zS 3 [.t 11, .t 36]])
(.seq (.ops [zM 37 1,
 zM 38 10,
 zP 39 (.iaddrS 1) [.t 37, .t 38],
 zL 40 39])
(.cond (.t 40)
(.ops [zM 41 8,
⟨some 42, none, .r (.loadN 3), [.t 11]⟩,
⟨some 43, none, .a (.bslice [(.int .i64 0), (.int .i64 0), .nils] 1 3 [0]), [.t 42]⟩,
⟨some 44, none, .e (.append 3 40), [.t 41, .t 43]⟩,
 zM 45 9,
 zM 46 10,
⟨some 47, none, .a (.bslice [(.int .i64 0)] 1 1 [0]), [.t 46]⟩,
⟨some 48, none, .e (.append 1 8), [.t 45, .t 47]⟩,
 zM 8 44,
 zM 9 48])
.skip))))
(.ops [zP 49 (.bin .add) [.t 32, .c (.int .i64 1)],
 zM 32 49]))))
def L_gate_Test_1 : AC := (.seq (.ops [zP 58 (.bin .lss) [.t 57, .t 56]])
(.seq (.cond (.t 58)
.skip
(.exit 2))
(.seq (.block 3 (.seq (.ops [zM 59 57,
 zP 60 (.iaddrS 1) [.t 55, .t 57],
 zL 61 60,
 zM 13 59,
 zM 14 61])
(.seq (.ops [zM 63 8,
 zM 64 13,
⟨some 65, none, .call, [.c (.func (.func 176) [] []), .t 63, .t 64]⟩,
 zM 62 65,
 zP 66 (.ext 0) [.t 62],
 zP 67 (.ext 1) [.t 62],
 zM 15 66,
 zM 16 67])
(.seq (.ops [zM 68 16,
 zP 69 (.bin .neq) [.t 68, .c (.int .i64 0)]])
(.cond (.t 69)
(.seq (.ops [zM 70 14,
 zM 71 15,
 zM 72 16,
 zM 4 70,
 zM 5 71,
 zM 6 72])
.ret)
.skip)))))
(.ops [zP 73 (.bin .add) [.t 57, .c (.int .i64 1)],
 zM 57 73]))))
def C140 : AFunc := ⟨74, [.tmp 4, .tmp 5, .tmp 6],
(.seq (.ops [⟨some 2, none, .a .box, [.t 0]⟩,
 zP 4 .mov [.c (.int .i64 0)],
 zP 5 .mov [.c (.int .i64 0)],
 zP 6 .mov [.c (.int .i64 0)]])
(.seq (.seq (.ops [⟨some 17, none, .r (.loadN 2), [.t 2]⟩,
 zM 18 1,
⟨some 19, none, .call, [.c (.func (.func 139) [] []), .t 17, .t 18]⟩,
 zM 7 19])
(.seq (.ops [zM 20 7,
 zP 21 (.bin .neq) [.t 20, .c (.int .i64 0)]])
(.cond (.t 21)
(.seq (.ops [zM 22 7,
 zP 4 .mov [.c (.int .i64 0)],
 zP 5 .mov [.c (.int .i64 0)],
 zM 6 22])
.ret)
.skip)))
(.seq (.ops [zM 23 1,
 zP 24 .lenS [.t 23],
⟨some 25, none, .a (.mkslice [(.int .i64 0), (.int .i64 0), .nils] 3 40), [.c (.int .i64 0), .t 24]⟩,
 zM 8 25])
(.seq (.ops [zM 26 1,
 zP 27 .lenS [.t 26],
⟨some 28, none, .a (.mkslice [(.int .i64 0)] 1 8), [.c (.int .i64 0), .t 27]⟩,
 zM 9 28])
(.seq (.seq (.ops [zF 29 2 0,
 zL 30 29,
 zP 31 .lenS [.t 30],
 zP 32 .mov [.c (.int .i64 0)]])
(.block 0 (.loop L_gate_Test_0)))
(.seq (.seq (.ops [zM 50 8,
⟨some 51, none, .call, [.c (.func (.func 175) [] []), .t 50]⟩,
 zM 12 51])
(.seq (.ops [zM 52 12,
 zP 53 (.bin .neq) [.t 52, .c (.int .i64 0)]])
(.cond (.t 53)
(.seq (.ops [zM 54 12,
 zP 4 .mov [.c (.int .i64 (-1))],
 zP 5 .mov [.c (.int .i64 0)],
 zM 6 54])
.ret)
.skip)))
(.seq (.seq (.ops [zM 55 9,
 zP 56 .lenS [.t 55],
 zP 57 .mov [.c (.int .i64 0)]])
(.block 2 (.loop L_gate_Test_1)))
(.seq (.ops [zP 4 .mov [.c (.int .i64 (-1))],
 zP 5 .mov [.c (.int .i64 0)],
 zP 6 .mov [.c (.int .i64 0)]])
.ret))))))))⟩
abbrev f_gate_Test : Nat := 140
abbrev C_gate_Test : AFunc := C140
def C141 : AFunc := ⟨6, [],
(.ops [zL 3 1,
 zM 4 0,
 zP 5 (.iaddrS 1) [.t 3, .t 4],
 zS 1 [.t 5, .c (.bool true)]])⟩
abbrev f_kernel_Kernel_who_1 : Nat := 141
abbrev C_kernel_Kernel_who_1 : AFunc := C141
def C142 : AFunc := ⟨18, [.tmp 2],
(.seq (.ops [⟨some 1, none, .a .box, [.t 0]⟩,
 zP 2 .mov [.c (.bool false)]])
(.seq (.ops [zF 3 1 1,
 zL 4 3,
 zP 5 (.bin .leq) [.c (.int .i64 1), .t 4],
 zM 6 5,
 zFg 7 1 1 6 true,
 zLg 8 7 6 true,
 zFg 9 1 0 6 true,
 zLg 10 9 6 true,
 zPg 11 (.bin .leq) [.t 8, .t 10] 6 true,
 zP 12 .pick [.t 6, .t 11, .c (.bool false)],
 zM 13 12,
 zFg 14 1 0 13 true,
 zLg 15 14 13 true,
 zPg 16 (.bin .leq) [.t 15, .c (.int .i64 64)] 13 true,
 zP 17 .pick [.t 13, .t 16, .c (.bool false)],
 zM 2 17])
.ret))⟩
abbrev f_purse_server_may : Nat := 142
abbrev C_purse_server_may : AFunc := C142
def C143 : AFunc := ⟨21, [.tmp 4],
(.seq (.ops [zP 4 .mov [.c (.int .i64 0)]])
(.seq (.ops [zM 6 1,
⟨some 7, none, .call, [.c (.func (.func 112) [] []), .t 6, .c (.func (.func 177) [] [])]⟩,
 zM 5 7])
(.seq (.seq (.ops [zM 8 5,
 zM 9 8,
 zMg 10 0 9 false,
⟨some 11, some (9, false), .call, [.c (.func (.func 178) [] []), .t 10]⟩,
 zPg 12 .not [.t 11] 9 false,
 zP 13 .pick [.t 9, .c (.bool true), .t 12],
 zM 14 13,
 zMg 15 1 14 false,
 zPg 16 .lenS [.t 15] 14 false,
 zMg 17 0 14 false,
 zPg 18 .lenS [.t 17] 14 false,
 zPg 19 (.bin .neq) [.t 16, .t 18] 14 false,
 zP 20 .pick [.t 14, .c (.bool true), .t 19]])
(.cond (.t 20)
(.seq (.ops [zP 4 .mov [.c (.int .i64 2)]])
.ret)
.skip))
(.seq (.ops [zP 4 .mov [.c (.int .i64 0)]])
.ret))))⟩
abbrev f_demand_Check : Nat := 143
abbrev C_demand_Check : AFunc := C143
def C144 : AFunc := ⟨10, [.tmp 2, .tmp 3],
(.seq (.ops [zP 2 .mov [.c .nilp],
 zP 3 .mov [.c (.int .i64 0)]])
(.seq (.seq (.ops [zM 4 0,
⟨some 5, none, .call, [.c (.func (.func 179) [] []), .t 4]⟩,
 zP 6 .not [.t 5]])
(.cond (.t 6)
(.seq (.ops [zP 2 .mov [.c .nilp],
 zP 3 .mov [.c (.int .i64 2)]])
.ret)
.skip))
(.seq (.ops [zM 7 0,
 zP 8 (.build [(.int .i64 0), (.int .i64 0)] [(0, 1)]) [.t 7],
⟨some 9, none, .a .box, [.t 8]⟩,
 zM 2 9,
 zP 3 .mov [.c (.int .i64 0)]])
.ret)))⟩
abbrev f_spore_New : Nat := 144
abbrev C_spore_New : AFunc := C144
def C145 : AFunc := ⟨11, [.tmp 2, .tmp 3],
(.seq (.ops [zP 2 .mov [.c .nilp],
 zP 3 .mov [.c (.int .i64 0)]])
(.seq (.seq (.ops [zM 4 0,
 zP 5 .lenS [.t 4],
 zP 6 (.bin .gtr) [.t 5, .c (.int .i64 4)]])
(.cond (.t 6)
(.seq (.ops [zP 2 .mov [.c .nilp],
 zP 3 .mov [.c (.int .i64 5)]])
.ret)
.skip))
(.seq (.ops [zM 7 0,
⟨some 8, none, .call, [.c (.func (.func 62) [] []), .t 7]⟩,
 zP 9 (.build [.nils, .nils, (.bool false)] [(0, 1), (2, 1)]) [.t 8, .c (.bool true)],
⟨some 10, none, .a .box, [.t 9]⟩,
 zM 2 10,
 zP 3 .mov [.c (.int .i64 0)]])
.ret)))⟩
abbrev f_stack_New : Nat := 145
abbrev C_stack_New : AFunc := C145
def C146 : AFunc := ⟨14, [.tmp 2, .tmp 3],
(.seq (.ops [zP 2 .mov [.c .nilp],
 zP 3 .mov [.c (.int .i64 0)]])
(.seq (.seq (.ops [zM 4 0,
 zP 5 (.bin .lss) [.t 4, .c (.int .i64 0)],
 zM 6 5,
 zMg 7 0 6 false,
 zPg 8 (.bin .gtr) [.t 7, .c (.int .i64 4)] 6 false,
 zP 9 .pick [.t 6, .c (.bool true), .t 8]])
(.cond (.t 9)
(.seq (.ops [zP 2 .mov [.c .nilp],
 zP 3 .mov [.c (.int .i64 2)]])
.ret)
.skip))
(.seq (.ops [⟨some 10, none, .call, [.c (.func (.func 59) [] [])]⟩,
 zM 11 0,
 zP 12 (.build [.nilp, (.int .i64 0)] [(0, 1), (1, 1)]) [.t 10, .t 11],
⟨some 13, none, .a .box, [.t 12]⟩,
 zM 2 13,
 zP 3 .mov [.c (.int .i64 0)]])
.ret)))⟩
abbrev f_ready_New : Nat := 146
abbrev C_ready_New : AFunc := C146
def C147 : AFunc := ⟨20, [.tmp 2],
(.seq (.ops [zP 2 .mov [.c (.int .i64 0)]])
(.seq (.block 0 (.seq (.ops [zM 4 0,
⟨some 5, none, .call, [.c (.func (.func 67) [] []), .t 4]⟩,
 zM 3 5])
(.cond (.t 3)
(.seq (.ops [zP 2 .mov [.c (.int .i64 1)]])
.ret)
(.seq (.seq (.ops [zM 7 0,
 zN 8 7,
 zF 9 8 6,
 zL 10 9,
 zM 6 10])
(.cond (.t 6)
.skip
(.seq (.ops [zM 11 0,
 zN 12 11,
 zF 13 12 5,
 zL 14 13,
 zM 6 14])
(.cond (.t 6)
.skip
(.ops [zM 15 0,
 zN 16 15,
 zF 17 16 4,
 zL 18 17,
 zP 19 (.neq .nilptr) [.t 18, .c .nilp],
 zM 6 19])))))
(.cond (.t 6)
(.seq (.ops [zP 2 .mov [.c (.int .i64 250)]])
.ret)
.skip)))))
(.seq (.ops [zP 2 .mov [.c (.int .i64 0)]])
.ret)))⟩
abbrev f_purse_Purse_settled : Nat := 147
abbrev C_purse_Purse_settled : AFunc := C147
def L_gate_other_0 : AC := (.seq (.ops [zP 23 (.bin .lss) [.t 22, .t 21]])
(.seq (.cond (.t 23)
.skip
(.exit 0))
(.seq (.block 1 (.seq (.ops [zM 24 22,
 zM 10 24])
(.seq (.ops [zF 25 9 0,
 zL 26 25,
 zM 27 10,
 zP 28 (.iaddrS 3) [.t 26, .t 27],
 zM 11 28])
(.seq (.ops [zM 29 11,
 zM 30 11,
 zN 31 30,
 zF 32 31 2,
 zL 33 32,
⟨some 34, none, .call, [.c (.func (.func 62) [] []), .t 33]⟩,
 zN 35 29,
 zF 36 35 2,
 zS 1 [.t 36, .t 34]])
(.seq (.ops [zM 37 10,
 zM 38 1,
 zP 39 (.bin .eql) [.t 37, .t 38]])
(.cond (.t 39)
(.ops [zM 40 11,
 zM 41 11,
 zM 42 2,
 zM 43 3,
 zN 44 40,
 zF 45 44 0,
 zS 1 [.t 45, .t 42],
 zN 46 41,
 zF 47 46 1,
 zS 1 [.t 47, .t 43]])
.skip))))))
(.ops [zP 48 (.bin .add) [.t 22, .c (.int .i64 1)],
 zM 22 48]))))
def C148 : AFunc := ⟨50, [.cell 8 2 true],
(.seq (.ops [⟨some 4, none, .a .box, [.t 0]⟩,
⟨some 8, none, .a (.alloc [.nils, .nils]), []⟩])
(.seq (.dops [zF 12 4 0,
 zL 13 12,
⟨some 14, none, .call, [.c (.func (.func 60) [] []), .t 13]⟩,
 zF 15 4 1,
 zL 16 15,
⟨some 17, none, .call, [.c (.func (.func 61) [] []), .t 16]⟩,
 zP 18 (.build [.nils, .nils] [(0, 1), (1, 1)]) [.t 14, .t 17],
⟨some 9, none, .a (.alloc [.nils, .nils]), []⟩,
 zS 2 [.t 9, .t 18]] [[], [], [], [], [0, 3], [], [], [], []])
(.seq (.seq (.ops [zF 19 9 0,
 zL 20 19,
 zP 21 .lenS [.t 20],
 zP 22 .mov [.c (.int .i64 0)]])
(.block 0 (.loop L_gate_other_0)))
(.seq (.ops [⟨some 49, none, .r (.loadN 2), [.t 9]⟩,
 zS 2 [.t 8, .t 49]])
.ret))))⟩
abbrev f_gate_other : Nat := 148
abbrev C_gate_other : AFunc := C148
def C149 : AFunc := ⟨18, [.tmp 4, .tmp 5],
(.seq (.ops [zP 4 .mov [.c (.int .i64 0)],
 zP 5 .mov [.c (.bool false)]])
(.seq (.ops [zM 9 0,
 zM 10 1,
⟨some 11, none, .call, [.c (.func (.func 169) [] []), .t 9, .t 10]⟩,
 zM 8 11,
 zP 12 (.ext 0) [.t 8],
 zP 13 (.ext 1) [.t 8],
 zM 6 12,
 zM 7 13])
(.seq (.seq (.ops [zM 14 7,
 zP 15 (.bin .neq) [.t 14, .c (.int .i64 0)]])
(.cond (.t 15)
(.seq (.ops [zP 4 .mov [.c (.int .i64 0)],
 zP 5 .mov [.c (.bool false)]])
.ret)
.skip))
(.seq (.ops [zM 16 6,
⟨some 17, none, .call, [.c (.func (.func 135) [] []), .t 16]⟩,
 zM 4 17,
 zP 5 .mov [.c (.bool true)]])
.ret))))⟩
abbrev f_room_Room_Deadline : Nat := 149
abbrev C_room_Room_Deadline : AFunc := C149
def L_kernel_Kernel_killAll_0 : AC := (.seq (.ops [zP 18 (.bin .lss) [.t 17, .t 16]])
(.seq (.cond (.t 18)
.skip
(.exit 0))
(.seq (.block 1 (.seq (.ops [zP 19 (.iaddrS 1) [.t 15, .t 17],
 zL 20 19,
 zM 7 20])
(.ops [zM 21 0,
 zM 22 1,
 zM 23 7,
 zM 24 2,
⟨some 25, none, .call, [.c (.func (.func 109) [] []), .t 21, .t 22, .t 23, .t 24]⟩])))
(.ops [zP 26 (.bin .add) [.t 17, .c (.int .i64 1)],
 zM 17 26]))))
def C150 : AFunc := ⟨27, [],
(.seq (.ops [zM 8 0,
 zN 9 8,
 zF 10 9 12,
 zL 11 10,
 zM 12 1,
 zP 13 (.iaddrS 1) [.t 11, .t 12],
 zL 14 13,
⟨some 15, none, .call, [.c (.func (.func 32) [] []), .t 14]⟩,
 zP 16 .lenS [.t 15],
 zP 17 .mov [.c (.int .i64 0)]])
(.block 0 (.loop L_kernel_Kernel_killAll_0)))⟩
abbrev f_kernel_Kernel_killAll : Nat := 150
abbrev C_kernel_Kernel_killAll : AFunc := C150
def L_slices_IndexFunc_int_int_0 : AC := (.seq (.ops [zP 9 (.bin .lss) [.t 8, .t 7]])
(.seq (.cond (.t 9)
.skip
(.exit 0))
(.seq (.block 1 (.seq (.ops [zM 10 8,
 zM 5 10])
(.seq (.ops [zM 11 1,
 zM 12 0,
 zM 13 5,
 zP 14 (.iaddrS 1) [.t 12, .t 13],
 zL 15 14,
⟨some 16, none, .call, [.t 11, .t 15]⟩])
(.cond (.t 16)
(.seq (.ops [zM 17 5,
 zM 4 17])
.ret)
.skip))))
(.ops [zP 18 (.bin .add) [.t 8, .c (.int .i64 1)],
 zM 8 18]))))
def C151 : AFunc := ⟨19, [.tmp 4],
(.seq (.ops [zP 4 .mov [.c (.int .i64 0)]])
(.seq (.seq (.ops [zM 6 0,
 zP 7 .lenS [.t 6],
 zP 8 .mov [.c (.int .i64 0)]])
(.block 0 (.loop L_slices_IndexFunc_int_int_0)))
(.seq (.ops [zP 4 .mov [.c (.int .i64 (-1))]])
.ret)))⟩
abbrev f_slices_IndexFunc_int_int : Nat := 151
abbrev C_slices_IndexFunc_int_int : AFunc := C151
def L_slices_pdqsortCmpFunc_rank_one_0 : AC := (.block 1 (.seq (.ops [zM 21 2,
 zM 22 1,
 zP 23 (.bin .sub) [.t 21, .t 22],
 zM 12 23])
(.seq (.seq (.ops [zM 24 12,
 zP 25 (.bin .leq) [.t 24, .c (.int .i64 12)]])
(.cond (.t 25)
(.seq (.ops [zM 26 0,
 zM 27 1,
 zM 28 2,
 zM 29 4,
⟨some 30, none, .call, [.c (.func (.func 180) [] []), .t 26, .t 27, .t 28, .t 29]⟩])
.ret)
.skip))
(.seq (.seq (.ops [zM 31 3,
 zP 32 (.bin .eql) [.t 31, .c (.int .i64 0)]])
(.cond (.t 32)
(.seq (.ops [zM 33 0,
 zM 34 1,
 zM 35 2,
 zM 36 4,
⟨some 37, none, .call, [.c (.func (.func 181) [] []), .t 33, .t 34, .t 35, .t 36]⟩])
.ret)
.skip))
(.seq (.seq (.ops [zM 38 10,
 zP 39 .not [.t 38]])
(.cond (.t 39)
(.seq (.ops [zM 40 0,
 zM 41 1,
 zM 42 2,
 zM 43 4,
⟨some 44, none, .call, [.c (.func (.func 182) [] []), .t 40, .t 41, .t 42, .t 43]⟩])
(.ops [zM 45 3,
 zP 46 (.bin .sub) [.t 45, .c (.int .i64 1)],
 zM 3 46]))
.skip))
(.seq (.ops [zM 48 0,
 zM 49 1,
 zM 50 2,
 zM 51 4,
⟨some 52, none, .call, [.c (.func (.func 183) [] []), .t 48, .t 49, .t 50, .t 51]⟩,
 zM 47 52,
 zP 53 (.ext 0) [.t 47],
 zP 54 (.ext 1) [.t 47],
 zM 13 53,
 zM 14 54])
(.seq (.seq (.ops [zM 55 14,
 zP 56 (.bin .eql) [.t 55, .c (.int .i64 2)]])
(.cond (.t 56)
(.seq (.ops [zM 57 0,
 zM 58 1,
 zM 59 2,
 zM 60 4,
⟨some 61, none, .call, [.c (.func (.func 184) [] []), .t 57, .t 58, .t 59, .t 60]⟩])
(.seq (.ops [zM 62 2,
 zP 63 (.bin .sub) [.t 62, .c (.int .i64 1)],
 zM 64 13,
 zM 65 1,
 zP 66 (.bin .sub) [.t 64, .t 65],
 zP 67 (.bin .sub) [.t 63, .t 66],
 zM 13 67])
(.ops [zP 14 .mov [.c (.int .i64 1)]])))
.skip))
(.seq (.seq (.ops [zM 68 10,
 zM 69 68,
 zMg 70 11 69 true,
 zP 71 .pick [.t 69, .t 70, .c (.bool false)],
 zM 72 71,
 zMg 73 14 72 true,
 zPg 74 (.bin .eql) [.t 73, .c (.int .i64 1)] 72 true,
 zP 75 .pick [.t 72, .t 74, .c (.bool false)]])
(.cond (.t 75)
(.seq (.ops [zM 76 0,
 zM 77 1,
 zM 78 2,
 zM 79 4,
⟨some 80, none, .call, [.c (.func (.func 185) [] []), .t 76, .t 77, .t 78, .t 79]⟩])
(.cond (.t 80)
.ret
.skip))
.skip))
(.seq (.seq (.dops [zM 81 1,
 zP 82 (.bin .gtr) [.t 81, .c (.int .i64 0)],
 zM 83 82,
 zMg 84 4 83 true,
 zMg 85 0 83 true,
 zMg 86 1 83 true,
 zPg 87 (.bin .sub) [.t 86, .c (.int .i64 1)] 83 true,
 zPg 88 (.iaddrS 2) [.t 85, .t 87] 83 true,
⟨some 89, some (83, true), .r (.loadN 2), [.t 88]⟩,
 zMg 90 0 83 true,
 zMg 91 13 83 true,
 zPg 92 (.iaddrS 2) [.t 90, .t 91] 83 true,
⟨some 93, some (83, true), .r (.loadN 2), [.t 92]⟩,
⟨some 94, some (83, true), .call, [.t 84, .t 89, .t 93]⟩,
 zPg 95 (.bin .lss) [.t 94, .c (.int .i64 0)] 83 true,
 zPg 96 .not [.t 95] 83 true,
 zP 97 .pick [.t 83, .t 96, .c (.bool false)]] [[], [], [], [], [], [], [], [], [], [], [], [], [], [], [], [], []])
(.cond (.t 97)
(.seq (.ops [zM 98 0,
 zM 99 1,
 zM 100 2,
 zM 101 13,
 zM 102 4,
⟨some 103, none, .call, [.c (.func (.func 186) [] []), .t 98, .t 99, .t 100, .t 101, .t 102]⟩,
 zM 15 103])
(.seq (.ops [zM 104 15,
 zM 1 104])
(.exit 1)))
.skip))
(.seq (.ops [zM 106 0,
 zM 107 1,
 zM 108 2,
 zM 109 13,
 zM 110 4,
⟨some 111, none, .call, [.c (.func (.func 187) [] []), .t 106, .t 107, .t 108, .t 109, .t 110]⟩,
 zM 105 111,
 zP 112 (.ext 0) [.t 105],
 zP 113 (.ext 1) [.t 105],
 zM 16 112,
 zM 17 113])
(.seq (.ops [zM 114 17,
 zM 11 114])
(.seq (.ops [zM 115 16,
 zM 116 1,
 zP 117 (.bin .sub) [.t 115, .t 116],
 zM 118 2,
 zM 119 16,
 zP 120 (.bin .sub) [.t 118, .t 119],
 zM 18 117,
 zM 19 120])
(.seq (.ops [zM 121 12,
 zP 122 (.bin .quo) [.t 121, .c (.int .i64 8)],
 zM 20 122])
(.seq (.ops [zM 123 18,
 zM 124 19,
 zP 125 (.bin .lss) [.t 123, .t 124]])
(.cond (.t 125)
(.seq (.ops [zM 126 18,
 zM 127 20,
 zP 128 (.bin .geq) [.t 126, .t 127],
 zM 10 128])
(.seq (.ops [zM 129 0,
 zM 130 1,
 zM 131 16,
 zM 132 3,
 zM 133 4,
⟨some 134, none, .call, [.c (.func (.func 152) [] []), .t 129, .t 130, .t 131, .t 132, .t 133]⟩])
(.ops [zM 135 16,
 zP 136 (.bin .add) [.t 135, .c (.int .i64 1)],
 zM 1 136])))
(.seq (.ops [zM 137 19,
 zM 138 20,
 zP 139 (.bin .geq) [.t 137, .t 138],
 zM 10 139])
(.seq (.ops [zM 140 0,
 zM 141 16,
 zP 142 (.bin .add) [.t 141, .c (.int .i64 1)],
 zM 143 2,
 zM 144 3,
 zM 145 4,
⟨some 146, none, .call, [.c (.func (.func 152) [] []), .t 140, .t 142, .t 143, .t 144, .t 145]⟩])
(.ops [zM 147 16,
 zM 2 147]))))))))))))))))))
def C152 : AFunc := ⟨148, [],
(.seq (.ops [zP 10 .mov [.c (.bool true)]])
(.seq (.ops [zP 11 .mov [.c (.bool true)]])
(.block 0 (.loop L_slices_pdqsortCmpFunc_rank_one_0))))⟩
abbrev f_slices_pdqsortCmpFunc_rank_one : Nat := 152
abbrev C_slices_pdqsortCmpFunc_rank_one : AFunc := C152
def C153 : AFunc := ⟨8, [.tmp 2],
(.seq (.ops [zP 2 .mov [.c (.int .i64 0)]])
(.seq (.cond (.c (.bool false))
(.seq (.ops [zM 3 0,
 zP 4 (.conv .u32) [.t 3],
⟨some 5, none, .call, [.c (.func (.func 188) [] []), .t 4]⟩,
 zM 2 5])
.ret)
.skip)
(.seq (.ops [zM 6 0,
⟨some 7, none, .call, [.c (.func (.func 189) [] []), .t 6]⟩,
 zM 2 7])
.ret)))⟩
abbrev f_math_bits_Len : Nat := 153
abbrev C_math_bits_Len : AFunc := C153
def C154 : AFunc := ⟨6, [.tmp 2],
(.seq (.ops [zP 2 .mov [.c (.bool false)]])
(.seq (.ops [zM 3 0,
 zM 4 0,
 zP 5 (.bin .neq) [.t 3, .t 4],
 zM 2 5])
.ret))⟩
abbrev f_cmp_isNaN_int : Nat := 154
abbrev C_cmp_isNaN_int : AFunc := C154
def C155 : AFunc := ⟨83, [.tmp 4, .tmp 5],
(.seq (.ops [zP 4 .mov [.c (.bool false)],
 zP 5 .mov [.c (.int .i64 0)]])
(.seq (.block 0 (.seq (.ops [zM 7 0,
⟨some 8, none, .call, [.c (.func (.func 67) [] []), .t 7]⟩,
 zM 6 8])
(.cond (.t 6)
(.seq (.ops [zP 4 .mov [.c (.bool false)],
 zP 5 .mov [.c (.int .i64 1)]])
.ret)
(.seq (.seq (.ops [zM 10 0,
 zN 11 10,
 zF 12 11 6,
 zL 13 12,
 zM 9 13])
(.cond (.t 9)
.skip
(.ops [zM 14 0,
 zN 15 14,
 zF 16 15 3,
 zL 17 16,
 zM 18 1,
 zP 19 (.bin .lss) [.t 17, .t 18],
 zM 9 19])))
(.cond (.t 9)
(.seq (.ops [zP 4 .mov [.c (.bool false)],
 zP 5 .mov [.c (.int .i64 250)]])
.ret)
(.seq (.ops [zM 21 0,
 zN 22 21,
 zF 23 22 3,
 zL 24 23,
 zM 25 1,
 zP 26 (.bin .gtr) [.t 24, .t 25],
 zM 20 26])
(.cond (.t 20)
(.seq (.ops [zP 4 .mov [.c (.bool false)],
 zP 5 .mov [.c (.int .i64 0)]])
.ret)
.skip)))))))
(.seq (.dops [zM 27 0,
 zN 28 27,
 zF 29 28 7,
 zL 30 29,
 zM 31 0,
 zN 32 31,
 zF 33 32 2,
 zL 34 33,
 zP 35 (.bin .add) [.t 30, .t 34],
 zN 36 27,
 zF 37 36 7,
 zS 1 [.t 37, .t 35]] [[], [], [], [], [], [], [], [], [], [], [], []])
(.seq (.ops [zM 38 0,
 zN 39 38,
 zF 40 39 2,
 zS 1 [.t 40, .c (.int .i64 0)]])
(.seq (.seq (.ops [zM 41 0,
 zN 42 41,
 zF 43 42 5,
 zL 44 43])
(.cond (.t 44)
(.seq (.ops [zM 45 0,
 zN 46 45,
 zF 47 46 6,
 zS 1 [.t 47, .c (.bool true)]])
(.seq (.ops [zP 4 .mov [.c (.bool true)],
 zP 5 .mov [.c (.int .i64 0)]])
.ret))
.skip))
(.seq (.seq (.ops [zM 48 0,
 zN 49 48,
 zF 50 49 4,
 zL 51 50,
 zP 52 (.neq .nilptr) [.t 51, .c .nilp]])
(.cond (.t 52)
(.ops [zM 53 0,
 zM 54 0,
 zM 55 0,
 zN 56 55,
 zF 57 56 4,
 zL 58 57,
 zN 59 58,
⟨some 60, none, .r (.loadN 2), [.t 59]⟩,
 zN 61 53,
 zF 62 61 0,
 zS 2 [.t 62, .t 60],
 zN 63 54,
 zF 64 63 4,
 zS 1 [.t 64, .c .nilp]])
.skip))
(.seq (.dops [zM 65 0,
 zM 66 0,
 zM 67 0,
 zN 68 67,
 zF 69 68 0,
 zF 70 69 1,
 zL 71 70,
 zM 72 1,
 zM 73 0,
 zN 74 73,
 zF 75 74 0,
 zF 76 75 0,
 zL 77 76,
 zP 78 (.bin .add) [.t 72, .t 77],
 zN 79 65,
 zF 80 79 2,
 zS 1 [.t 80, .t 71],
 zN 81 66,
 zF 82 81 3,
 zS 1 [.t 82, .t 78]] [[], [], [], [], [], [], [], [], [], [], [], [], [], [], [], [], [], [], [], []])
(.seq (.ops [zP 4 .mov [.c (.bool true)],
 zP 5 .mov [.c (.int .i64 0)]])
.ret))))))))⟩
abbrev f_purse_Purse_Turn : Nat := 155
abbrev C_purse_Purse_Turn : AFunc := C155
def C156 : AFunc := ⟨12, [.tmp 2],
(.seq (.ops [zP 2 .mov [.c (.bool false)]])
(.seq (.ops [zM 3 0,
⟨some 4, none, .call, [.c (.func (.func 67) [] []), .t 3]⟩,
 zP 5 .not [.t 4],
 zM 6 5,
 zMg 7 0 6 true,
 zNg 8 7 6 true,
 zFg 9 8 6 6 true,
 zLg 10 9 6 true,
 zP 11 .pick [.t 6, .t 10, .c (.bool false)],
 zM 2 11])
.ret))⟩
abbrev f_purse_Purse_Gone : Nat := 156
abbrev C_purse_Purse_Gone : AFunc := C156
def C157 : AFunc := ⟨20, [.tmp 6],
(.seq (.ops [zP 6 .mov [.c (.int .i64 0)]])
(.seq (.ops [zM 10 0,
 zM 11 1,
⟨some 12, none, .call, [.c (.func (.func 169) [] []), .t 10, .t 11]⟩,
 zM 9 12,
 zP 13 (.ext 0) [.t 9],
 zP 14 (.ext 1) [.t 9],
 zM 7 13,
 zM 8 14])
(.seq (.seq (.ops [zM 15 8,
 zP 16 (.bin .neq) [.t 15, .c (.int .i64 0)]])
(.cond (.t 16)
(.seq (.ops [zP 6 .mov [.c (.int .i64 0)]])
.ret)
.skip))
(.seq (.ops [zM 17 7,
 zM 18 2,
⟨some 19, none, .call, [.c (.func (.func 190) [] []), .t 17, .t 18]⟩,
 zM 6 19])
.ret))))⟩
abbrev f_room_Room_Fault : Nat := 157
abbrev C_room_Room_Fault : AFunc := C157
def C158 : AFunc := ⟨44, [],
(.seq (.ops [zM 11 0,
 zN 12 11,
 zF 13 12 0,
 zF 14 13 2,
 zL 15 14,
 zM 16 1,
 zM 17 3,
⟨some 18, none, .call, [.c (.func (.func 191) [] []), .t 15, .t 16, .t 17]⟩,
 zM 10 18,
 zP 19 (.ext 0) [.t 10],
 zP 20 (.ext 1) [.t 10],
 zM 8 19,
 zM 9 20])
(.seq (.ops [zM 21 8])
(.block 0 (.seq (.ops [zP 23 (.bin .eql) [.t 21, .c (.int .i64 1)],
 zM 22 23])
(.cond (.t 22)
(.seq (.ops [zM 24 0,
 zM 25 1,
 zM 26 2,
⟨some 27, none, .call, [.c (.func (.func 108) [] []), .t 24, .t 25, .t 26]⟩])
(.cond (.t 27)
(.ops [zM 28 0,
 zM 29 1,
 zM 30 2,
 zM 31 3,
⟨some 32, none, .call, [.c (.func (.func 109) [] []), .t 28, .t 29, .t 30, .t 31]⟩])
.skip))
(.seq (.ops [zP 34 (.bin .eql) [.t 21, .c (.int .i64 2)],
 zM 33 34])
(.cond (.t 33)
(.ops [zM 35 0,
 zM 36 1,
 zM 37 3,
⟨some 38, none, .call, [.c (.func (.func 150) [] []), .t 35, .t 36, .t 37]⟩])
(.seq (.ops [zP 40 (.bin .eql) [.t 21, .c (.int .i64 3)],
 zM 39 40])
(.cond (.t 39)
(.ops [zM 41 0,
 zM 42 1,
⟨some 43, none, .call, [.c (.func (.func 110) [] []), .t 41, .t 42]⟩])
.skip)))))))))⟩
abbrev f_kernel_Kernel_tell : Nat := 158
abbrev C_kernel_Kernel_tell : AFunc := C158
def L_bell_Bells_Due_0 : AC := (.seq (.seq (.ops [zM 15 6,
 zM 16 15,
 zMg 17 5 16 true,
 zMg 18 1 16 true,
 zPg 19 (.bin .leq) [.t 17, .t 18] 16 true,
 zP 20 .pick [.t 16, .t 19, .c (.bool false)]])
(.cond (.t 20)
.skip
(.exit 0)))
(.seq (.block 1 (.seq (.ops [zM 27 0,
 zN 28 27,
 zF 29 28 0,
 zL 30 29,
⟨some 31, none, .call, [.c (.func (.func 193) [] []), .t 30]⟩,
 zM 26 31,
 zP 32 (.ext 0) [.t 26],
 zP 33 (.ext 1) [.t 26],
 zP 34 (.ext 2) [.t 26],
 zM 7 32,
 zM 8 33,
 zM 9 34])
(.ops [zM 35 4,
 zM 36 5,
 zM 37 7,
 zP 38 (.bin .quo) [.t 37, .c (.int .i64 16)],
 zM 39 7,
 zP 40 (.bin .rem) [.t 39, .c (.int .i64 16)],
 zP 41 (.build [(.int .i64 0), (.int .i64 0), (.int .i64 0)] [(0, 1), (1, 1), (2, 1)]) [.t 36, .t 38, .t 40],
⟨some 42, none, .a (.bslice [(.int .i64 0), (.int .i64 0), (.int .i64 0)] 1 3 [0]), [.t 41]⟩,
⟨some 43, none, .e (.append 3 24), [.t 35, .t 42]⟩,
 zM 4 43])))
(.ops [zM 22 0,
⟨some 23, none, .call, [.c (.func (.func 192) [] []), .t 22]⟩,
 zM 21 23,
 zP 24 (.ext 0) [.t 21],
 zP 25 (.ext 1) [.t 21],
 zM 5 24,
 zM 6 25])))
def C159 : AFunc := ⟨45, [.tmp 4],
(.seq (.ops [zP 4 .mov [.c .nils]])
(.seq (.seq (.ops [zM 11 0,
⟨some 12, none, .call, [.c (.func (.func 192) [] []), .t 11]⟩,
 zM 10 12,
 zP 13 (.ext 0) [.t 10],
 zP 14 (.ext 1) [.t 10],
 zM 5 13,
 zM 6 14])
(.block 0 (.loop L_bell_Bells_Due_0)))
(.seq (.ops [zM 44 4,
 zM 4 44])
.ret)))⟩
abbrev f_bell_Bells_Due : Nat := 159
abbrev C_bell_Bells_Due : AFunc := C159
def C160 : AFunc := ⟨55, [.tmp 6],
(.seq (.ops [zP 6 .mov [.c (.int .i64 0)]])
(.seq (.seq (.ops [zM 10 0,
 zM 11 1,
⟨some 12, none, .call, [.c (.func (.func 194) [] []), .t 10, .t 11]⟩,
 zM 7 12])
(.seq (.ops [zM 13 7,
 zP 14 (.bin .neq) [.t 13, .c (.int .i64 0)]])
(.cond (.t 14)
(.seq (.ops [zM 15 7,
 zM 6 15])
.ret)
.skip)))
(.seq (.seq (.ops [zM 17 0,
 zM 18 1,
⟨some 19, none, .call, [.c (.func (.func 195) [] []), .t 17, .t 18]⟩,
 zM 16 19,
 zP 20 (.ext 0) [.t 16],
 zP 21 (.ext 1) [.t 16],
 zM 8 20,
 zM 9 21])
(.seq (.ops [zM 22 9])
(.cond (.t 22)
(.seq (.ops [zP 6 .mov [.c (.int .i64 141)]])
.ret)
.skip)))
(.seq (.dops [zM 23 0,
 zN 24 23,
 zF 25 24 0,
 zL 26 25,
 zM 27 0,
 zN 28 27,
 zF 29 28 0,
 zL 30 29,
 zN 31 30,
 zF 32 31 0,
 zL 33 32,
 zM 34 1,
 zM 35 2,
 zP 36 (.build [(.int .i64 0), (.int .i64 0)] [(0, 1), (1, 1)]) [.t 34, .t 35],
⟨some 37, none, .a (.bslice [(.int .i64 0), (.int .i64 0)] 1 2 [0]), [.t 36]⟩,
⟨some 38, none, .e (.append 2 16), [.t 33, .t 37]⟩,
 zN 39 26,
 zF 40 39 0,
 zS 1 [.t 40, .t 38]] [[], [], [], [0, 16], [], [], [], [], [], [], [], [], [], [], [], [], [], [], []])
(.seq (.dops [zM 41 0,
 zN 42 41,
 zF 43 42 0,
 zL 44 43,
 zM 45 0,
 zN 46 45,
 zF 47 46 0,
 zL 48 47,
 zN 49 48,
 zF 50 49 0,
 zL 51 50,
 zP 52 .lenS [.t 51],
 zP 53 (.bin .sub) [.t 52, .c (.int .i64 1)],
⟨some 54, none, .call, [.c (.func (.func 196) [] []), .t 44, .t 53]⟩] [[], [], [], [], [], [], [], [], [], [], [], [], [], []])
(.seq (.ops [zP 6 .mov [.c (.int .i64 0)]])
.ret))))))⟩
abbrev f_rank_Rank_Put : Nat := 160
abbrev C_rank_Rank_Put : AFunc := C160
def C161 : AFunc := ⟨38, [.tmp 2, .tmp 3, .tmp 4],
(.seq (.ops [zP 2 .mov [.c (.int .i64 0)],
 zP 3 .mov [.c (.int .i64 0)],
 zP 4 .mov [.c (.bool false)]])
(.seq (.seq (.ops [zM 5 0,
⟨some 6, none, .call, [.c (.func (.func 118) [] []), .t 5]⟩,
 zM 7 6,
 zMg 8 0 7 false,
 zNg 9 8 7 false,
 zFg 10 9 0 7 false,
 zLg 11 10 7 false,
 zNg 12 11 7 false,
 zFg 13 12 0 7 false,
 zLg 14 13 7 false,
 zPg 15 .lenS [.t 14] 7 false,
 zPg 16 (.bin .eql) [.t 15, .c (.int .i64 0)] 7 false,
 zP 17 .pick [.t 7, .c (.bool true), .t 16]])
(.cond (.t 17)
(.seq (.ops [zP 2 .mov [.c (.int .i64 0)],
 zP 3 .mov [.c (.int .i64 0)],
 zP 4 .mov [.c (.bool false)]])
.ret)
.skip))
(.seq (.dops [zM 18 0,
 zN 19 18,
 zF 20 19 0,
 zL 21 20,
 zN 22 21,
 zF 23 22 0,
 zL 24 23,
 zP 25 (.iaddrS 2) [.t 24, .c (.int .i64 0)],
 zF 26 25 0,
 zL 27 26,
 zM 28 0,
 zN 29 28,
 zF 30 29 0,
 zL 31 30,
 zN 32 31,
 zF 33 32 0,
 zL 34 33,
 zP 35 (.iaddrS 2) [.t 34, .c (.int .i64 0)],
 zF 36 35 1,
 zL 37 36,
 zM 2 27,
 zM 3 37,
 zP 4 .mov [.c (.bool true)]] [[], [], [], [], [], [], [], [], [], [], [], [], [], [], [], [], [], [], [], [], [], [], []])
.ret)))⟩
abbrev f_rank_Rank_First : Nat := 161
abbrev C_rank_Rank_First : AFunc := C161
def C162 : AFunc := ⟨60, [.tmp 2, .tmp 3],
(.seq (.ops [zP 2 .mov [.c (.int .i64 0)],
 zP 3 .mov [.c (.bool false)]])
(.seq (.seq (.ops [zM 9 0,
⟨some 10, none, .call, [.c (.func (.func 64) [] []), .t 9]⟩])
(.cond (.t 10)
(.seq (.ops [zP 2 .mov [.c (.int .i64 0)],
 zP 3 .mov [.c (.bool false)]])
.ret)
.skip))
(.seq (.seq (.ops [zM 12 0,
⟨some 13, none, .call, [.c (.func (.func 171) [] []), .t 12]⟩,
 zM 11 13,
 zP 14 (.ext 0) [.t 11],
 zP 15 (.ext 1) [.t 11],
 zP 16 (.ext 2) [.t 11],
 zM 4 14,
 zM 5 15,
 zM 6 16])
(.seq (.ops [zM 17 6])
(.cond (.t 17)
(.seq (.ops [zM 18 4,
 zM 2 18,
 zP 3 .mov [.c (.bool true)]])
.ret)
.skip)))
(.seq (.ops [zM 20 0,
 zN 21 20,
 zF 22 21 1,
 zL 23 22,
⟨some 24, none, .call, [.c (.func (.func 197) [] []), .t 23]⟩,
 zM 19 24,
 zP 25 (.ext 0) [.t 19],
 zP 26 (.ext 1) [.t 19],
 zP 27 (.ext 2) [.t 19],
 zM 7 25,
 zM 8 26,
 zM 3 27])
(.seq (.block 0 (.seq (.ops [zM 29 3,
 zP 30 .not [.t 29],
 zM 28 30])
(.cond (.t 28)
(.seq (.ops [zP 2 .mov [.c (.int .i64 0)],
 zP 3 .mov [.c (.bool false)]])
.ret)
(.seq (.seq (.ops [zM 32 0,
 zN 33 32,
 zF 34 33 4,
 zL 35 34,
 zM 36 7,
 zP 37 (.iaddrS 1) [.t 35, .t 36],
 zL 38 37,
⟨some 39, none, .call, [.c (.func (.func 198) [] []), .t 38]⟩,
 zM 31 39])
(.cond (.t 31)
.skip
(.dops [zM 40 0,
 zN 41 40,
 zF 42 41 2,
 zL 43 42,
 zM 44 7,
⟨some 45, none, .call, [.c (.func (.func 199) [] []), .t 43, .t 44]⟩,
 zM 46 0,
 zN 47 46,
 zF 48 47 0,
 zL 49 48,
⟨some 50, none, .call, [.c (.func (.func 200) [] []), .t 49]⟩,
 zP 51 (.bin .gtr) [.t 45, .t 50],
 zM 31 51] [[], [], [], [], [], [], [], [], [], [0, 6], [], [], []])))
(.cond (.t 31)
(.seq (.ops [zM 52 7,
 zM 2 52,
 zP 3 .mov [.c (.bool true)]])
.ret)
.skip)))))
(.seq (.ops [zM 53 0,
 zN 54 53,
 zF 55 54 0,
 zL 56 55,
⟨some 57, none, .call, [.c (.func (.func 201) [] []), .t 56]⟩,
 zP 58 (.ext 0) [.t 57],
 zP 59 (.ext 1) [.t 57],
 zM 2 58,
 zM 3 59])
.ret))))))⟩
abbrev f_room_Room_Who : Nat := 162
abbrev C_room_Room_Who : AFunc := C162
def C163 : AFunc := ⟨47, [.tmp 6],
(.seq (.ops [zP 6 .mov [.c (.bool false)]])
(.seq (.ops [zM 9 0,
 zN 10 9,
 zF 11 10 12,
 zL 12 11,
 zM 13 1,
 zP 14 (.iaddrS 1) [.t 12, .t 13],
 zL 15 14,
 zM 7 15])
(.seq (.seq (.ops [zM 16 7,
 zM 17 2,
 zM 18 0,
 zN 19 18,
 zF 20 19 10,
 zL 21 20,
⟨some 22, none, .call, [.c (.func (.func 157) [] []), .t 16, .t 17, .t 21]⟩,
 zM 8 22])
(.seq (.ops [zM 23 8,
 zP 24 (.bin .neq) [.t 23, .c (.int .i64 0)]])
(.cond (.t 24)
(.seq (.ops [zM 25 0,
 zM 26 1,
 zM 27 2,
 zM 28 8,
⟨some 29, none, .call, [.c (.func (.func 158) [] []), .t 25, .t 26, .t 27, .t 28]⟩])
(.seq (.ops [zP 6 .mov [.c (.bool false)]])
.ret))
.skip)))
(.seq (.ops [zM 30 7,
 zM 31 2,
⟨some 32, none, .call, [.c (.func (.func 202) [] []), .t 30, .t 31]⟩])
(.seq (.ops [zM 33 0,
 zM 34 1,
 zM 35 2,
 zP 36 (.build [(.int .i64 0), (.int .i64 0), (.int .i64 0), (.int .i64 0), (.int .i64 0), (.int .i64 0), (.str [])] []) [],
⟨some 37, none, .call, [.c (.func (.func 98) [] []), .t 33, .c (.int .i64 1), .t 34, .t 35, .t 36]⟩])
(.seq (.seq (.ops [zM 38 0,
 zM 39 1,
 zM 40 2,
⟨some 41, none, .call, [.c (.func (.func 99) [] []), .t 38, .t 39, .t 40]⟩,
 zP 42 .not [.t 41]])
(.cond (.t 42)
(.ops [zM 43 0,
 zM 44 1,
 zM 45 2,
⟨some 46, none, .call, [.c (.func (.func 203) [] []), .t 43, .t 44, .t 45]⟩])
.skip))
(.seq (.ops [zP 6 .mov [.c (.bool true)]])
.ret)))))))⟩
abbrev f_kernel_Kernel_ran : Nat := 163
abbrev C_kernel_Kernel_ran : AFunc := C163
def C164 : AFunc := ⟨82, [.tmp 6],
(.seq (.ops [zP 6 .mov [.c (.bool false)]])
(.seq (.ops [zM 12 0,
 zN 13 12,
 zF 14 13 12,
 zL 15 14,
 zM 16 1,
 zP 17 (.iaddrS 1) [.t 15, .t 16],
 zL 18 17,
 zM 7 18])
(.seq (.seq (.ops [zM 19 7,
 zM 20 2,
⟨some 21, none, .call, [.c (.func (.func 204) [] []), .t 19, .t 20]⟩,
 zM 8 21])
(.seq (.ops [zM 22 8,
 zP 23 (.bin .neq) [.t 22, .c (.int .i64 0)]])
(.cond (.t 23)
(.seq (.ops [zM 24 0,
 zM 25 1,
 zM 26 2,
 zM 27 8,
 zP 28 (.build [(.int .i64 0), (.int .i64 0), (.int .i64 0), (.int .i64 0), (.int .i64 0), (.int .i64 0), (.str [])] [(4, 1), (5, 1)]) [.c (.int .i64 4), .t 27],
⟨some 29, none, .call, [.c (.func (.func 205) [] []), .t 24, .t 25, .t 26, .t 28]⟩])
(.seq (.ops [zP 6 .mov [.c (.bool true)]])
.ret))
.skip)))
(.seq (.ops [zM 30 0,
 zM 31 1,
 zM 32 2,
⟨some 33, none, .call, [.c (.func (.func 206) [] []), .t 30, .t 31, .t 32]⟩,
⟨some 9, none, .a (.alloc [(.int .i64 0), (.int .i64 0), (.int .i64 0), (.int .i64 0), (.int .i64 0), (.int .i64 0), (.int .i64 0), (.int .i64 0)]), []⟩,
 zS 8 [.t 9, .t 33]])
(.seq (.seq (.dops [zM 35 0,
 zN 36 35,
 zF 37 36 0,
 zF 38 37 0,
 zL 39 38,
 zM 40 1,
 zF 41 9 5,
 zL 42 41,
⟨some 43, none, .call, [.c (.func (.func 207) [] []), .t 39, .t 40, .t 42]⟩,
 zM 34 43,
 zP 44 (.ext 0) [.t 34],
 zP 45 (.ext 1) [.t 34],
 zM 10 44,
 zM 11 45] [[], [], [], [], [], [], [], [], [], [], [], [], [], []])
(.seq (.dops [zM 46 10,
 zP 47 .not [.t 46],
 zM 48 47,
 zMg 49 0 48 false,
 zNg 50 49 48 false,
 zFg 51 50 11 48 false,
 zLg 52 51 48 false,
 zMg 53 1 48 false,
 zPg 54 (.iaddrS 1) [.t 52, .t 53] 48 false,
 zLg 55 54 48 false,
⟨some 56, some (48, false), .call, [.c (.func (.func 34) [] []), .t 55]⟩,
 zFg 57 9 6 48 false,
 zLg 58 57 48 false,
 zPg 59 (.bin .lss) [.t 56, .t 58] 48 false,
 zP 60 .pick [.t 48, .c (.bool true), .t 59]] [[], [], [], [], [], [], [], [], [], [], [], [], [0, 11], [], []])
(.cond (.t 60)
(.seq (.ops [zM 61 0,
 zM 62 1,
 zP 63 (.build [(.int .i64 0), (.int .i64 0), (.int .i64 0), (.int .i64 0), (.int .i64 0), (.int .i64 0), (.str [])] [(4, 1)]) [.c (.int .i64 1)],
⟨some 64, none, .call, [.c (.func (.func 98) [] []), .t 61, .c (.int .i64 1), .t 62, .c (.int .i64 (-1)), .t 63]⟩])
(.seq (.ops [zP 6 .mov [.c (.bool false)]])
.ret))
.skip)))
(.seq (.dops [zM 65 0,
 zN 66 65,
 zF 67 66 0,
 zF 68 67 0,
 zL 69 68,
 zM 70 1,
 zF 71 9 5,
 zL 72 71,
⟨some 73, none, .call, [.c (.func (.func 208) [] []), .t 69, .t 70, .t 72]⟩,
 zM 74 7,
 zM 75 2,
⟨some 76, none, .call, [.c (.func (.func 209) [] []), .t 74, .t 75]⟩] [[], [], [], [], [], [], [], [], [], [], [], []])
(.seq (.ops [zM 77 0,
 zM 78 1,
 zM 79 2,
 zP 80 (.build [(.int .i64 0), (.int .i64 0), (.int .i64 0), (.int .i64 0), (.int .i64 0), (.int .i64 0), (.str [])] [(4, 1)]) [.c (.int .i64 4)],
⟨some 81, none, .call, [.c (.func (.func 205) [] []), .t 77, .t 78, .t 79, .t 80]⟩])
(.seq (.ops [zP 6 .mov [.c (.bool true)]])
.ret))))))))⟩
abbrev f_kernel_Kernel_take : Nat := 164
abbrev C_kernel_Kernel_take : AFunc := C164
def C165 : AFunc := ⟨105, [],
(.seq (.ops [⟨some 7, none, .a .box, [.t 3]⟩])
(.seq (.dops [zM 10 0,
 zN 11 10,
 zF 12 11 12,
 zL 13 12,
 zM 14 1,
 zP 15 (.iaddrS 1) [.t 13, .t 14],
 zL 16 15,
 zF 17 7 0,
 zL 18 17,
 zP 19 (.build [(.int .i64 0), (.int .i64 0), (.int .i64 0), (.int .i64 0), (.int .i64 0), (.int .i64 0), (.str [])] [(4, 1)]) [.t 18],
⟨some 9, none, .a (.alloc [(.int .i64 0), (.int .i64 0), (.int .i64 0), (.int .i64 0), (.int .i64 0), (.int .i64 0), (.str [])]), []⟩,
 zM 8 16,
 zS 7 [.t 9, .t 19]] [[], [], [], [], [], [], [], [], [], [], [], [], []])
(.seq (.seq (.ops [zF 20 7 0,
 zL 21 20])
(.block 0 (.seq (.ops [zP 41 (.bin .eql) [.t 21, .c (.int .i64 2)],
 zM 40 41])
(.cond (.t 40)
(.ops [zM 42 8,
 zM 43 2,
 zF 44 7 1,
 zL 45 44,
⟨some 46, none, .call, [.c (.func (.func 210) [] []), .t 42, .t 43, .t 45]⟩,
 zF 47 9 5,
 zS 1 [.t 47, .t 46]])
(.seq (.ops [zP 49 (.bin .eql) [.t 21, .c (.int .i64 3)],
 zM 48 49])
(.cond (.t 48)
(.ops [zM 50 8,
 zM 51 2,
⟨some 52, none, .call, [.c (.func (.func 211) [] []), .t 50, .t 51]⟩,
 zF 53 9 5,
 zS 1 [.t 53, .t 52]])
(.seq (.ops [zP 55 (.bin .eql) [.t 21, .c (.int .i64 5)],
 zM 54 55])
(.cond (.t 54)
(.seq (.ops [zM 56 8,
 zM 57 2,
⟨some 58, none, .call, [.c (.func (.func 212) [] []), .t 56, .t 57]⟩,
 zF 59 9 5,
 zS 1 [.t 59, .t 58]])
(.seq (.ops [zF 60 9 5,
 zL 61 60,
 zP 62 (.bin .eql) [.t 61, .c (.int .i64 0)]])
(.cond (.t 62)
(.dops [zM 63 0,
 zN 64 63,
 zF 65 64 0,
 zF 66 65 0,
 zL 67 66,
 zM 68 1,
 zM 69 0,
 zM 70 1,
 zM 71 2,
⟨some 72, none, .call, [.c (.func (.func 206) [] []), .t 69, .t 70, .t 71]⟩,
 zP 73 (.field 5 1 false) [.t 72],
⟨some 74, none, .call, [.c (.func (.func 213) [] []), .t 67, .t 68, .t 73]⟩] [[], [], [], [], [0, 10], [], [], [], [], [], [], []])
.skip)))
(.seq (.ops [zP 76 (.bin .eql) [.t 21, .c (.int .i64 6)],
 zM 75 76])
(.cond (.t 75)
(.dops [zM 77 0,
 zN 78 77,
 zF 79 78 0,
 zF 80 79 1,
 zL 81 80,
 zM 82 1,
 zF 83 7 1,
 zL 84 83,
 zF 85 7 2,
 zL 86 85,
 zM 87 0,
 zN 88 87,
 zF 89 88 10,
 zL 90 89,
⟨some 91, none, .call, [.c (.func (.func 214) [] []), .t 81, .t 82, .t 84, .t 86, .t 90]⟩,
 zF 92 9 5,
 zS 1 [.t 92, .t 91]] [[], [], [], [], [], [], [], [], [], [], [], [], [], [], [], [], []])
(.seq (.ops [zP 94 (.bin .eql) [.t 21, .c (.int .i64 7)],
 zM 93 94])
(.cond (.t 93)
(.ops [zM 95 0,
 zM 96 1,
 zF 97 7 1,
 zL 98 97,
⟨some 99, none, .call, [.c (.func (.func 215) [] []), .t 95, .t 96, .t 98]⟩,
 zS 7 [.t 9, .t 99]])
(.dops [zM 22 0,
 zN 23 22,
 zF 24 23 0,
 zF 25 24 3,
 zL 26 25,
 zM 27 1,
 zP 28 (.bin .mul) [.c (.int .i64 4), .t 27],
 zM 29 2,
 zP 30 (.bin .add) [.t 28, .t 29],
 zM 31 0,
 zN 32 31,
 zF 33 32 10,
 zL 34 33,
 zF 35 7 1,
 zL 36 35,
 zP 37 (.bin .add) [.t 34, .t 36],
⟨some 38, none, .call, [.c (.func (.func 216) [] []), .t 26, .c (.int .i64 1), .t 30, .t 37]⟩,
 zF 39 9 5,
 zS 1 [.t 39, .t 38]] [[], [], [], [], [], [], [], [], [], [], [], [], [], [], [], [], [], [], []])))))))))))))
(.ops [zM 100 0,
 zM 101 1,
 zM 102 2,
⟨some 103, none, .r (.loadN 7), [.t 9]⟩,
⟨some 104, none, .call, [.c (.func (.func 205) [] []), .t 100, .t 101, .t 102, .t 103]⟩]))))⟩
abbrev f_kernel_Kernel_act : Nat := 165
abbrev C_kernel_Kernel_act : AFunc := C165
def C166 : AFunc := ⟨13, [.tmp 2, .tmp 3],
(.seq (.ops [zP 2 .mov [.c .nilp],
 zP 3 .mov [.c (.int .i64 0)]])
(.seq (.seq (.ops [zM 4 0,
 zP 5 .lenS [.t 4],
 zP 6 (.bin .gtr) [.t 5, .c (.int .i64 32)]])
(.cond (.t 6)
(.seq (.ops [zP 2 .mov [.c .nilp],
 zP 3 .mov [.c (.int .i64 5)]])
.ret)
.skip))
(.seq (.seq (.ops [zM 7 0,
⟨some 8, none, .call, [.c (.func (.func 217) [] []), .t 7, .c (.func (.func 218) [] [])]⟩])
(.cond (.t 8)
(.seq (.ops [zP 2 .mov [.c .nilp],
 zP 3 .mov [.c (.int .i64 2)]])
.ret)
.skip))
(.seq (.ops [zM 9 0,
⟨some 10, none, .call, [.c (.func (.func 47) [] []), .t 9]⟩,
 zP 11 (.build [.nils, (.bool false)] [(0, 1), (1, 1)]) [.t 10, .c (.bool true)],
⟨some 12, none, .a .box, [.t 11]⟩,
 zM 2 12,
 zP 3 .mov [.c (.int .i64 0)]])
.ret))))⟩
abbrev f_act_New : Nat := 166
abbrev C_act_New : AFunc := C166
def C167 : AFunc := ⟨21, [.tmp 4],
(.seq (.ops [zP 4 .mov [.c (.int .i64 0)]])
(.seq (.block 0 (.seq (.ops [zM 6 0,
⟨some 7, none, .call, [.c (.func (.func 220) [] []), .t 6]⟩,
 zM 5 7])
(.cond (.t 5)
(.seq (.ops [zP 4 .mov [.c (.int .i64 1)]])
.ret)
(.seq (.ops [zM 9 1,
 zP 10 (.bin .lss) [.t 9, .c (.int .i64 0)],
 zM 8 10])
(.cond (.t 8)
(.seq (.ops [zP 4 .mov [.c (.int .i64 2)]])
.ret)
(.seq (.ops [zM 12 1,
 zP 13 (.bin .gtr) [.t 12, .c (.int .i64 1099511627776)],
 zM 11 13])
(.cond (.t 11)
(.seq (.ops [zP 4 .mov [.c (.int .i64 10)]])
.ret)
(.seq (.ops [zM 15 1,
 zM 16 0,
 zN 17 16,
 zF 18 17 1,
 zL 19 18,
 zP 20 (.bin .lss) [.t 15, .t 19],
 zM 14 20])
(.cond (.t 14)
(.seq (.ops [zP 4 .mov [.c (.int .i64 140)]])
.ret)
.skip)))))))))
(.seq (.ops [zP 4 .mov [.c (.int .i64 0)]])
.ret)))⟩
abbrev f_spore_Guard_asked : Nat := 167
abbrev C_spore_Guard_asked : AFunc := C167
def C168 : AFunc := ⟨12, [.tmp 2],
(.seq (.ops [zP 2 .mov [.c (.bool false)]])
(.seq (.ops [zM 3 0,
 zP 4 (.eq .nilptr) [.t 3, .c .nilp],
 zM 5 4,
 zMg 6 0 5 false,
 zNg 7 6 5 false,
 zFg 8 7 0 5 false,
 zLg 9 8 5 false,
 zPg 10 (.eq .nilptr) [.t 9, .c .nilp] 5 false,
 zP 11 .pick [.t 5, .c (.bool true), .t 10],
 zM 2 11])
.ret))⟩
abbrev f_job_Job_none : Nat := 168
abbrev C_job_Job_none : AFunc := C168
def C169 : AFunc := ⟨28, [.tmp 4, .tmp 5],
(.seq (.ops [zP 4 .mov [.c .nilp],
 zP 5 .mov [.c (.int .i64 0)]])
(.seq (.seq (.ops [zM 7 0,
 zM 8 1,
⟨some 9, none, .call, [.c (.func (.func 131) [] []), .t 7, .t 8]⟩,
 zM 6 9])
(.seq (.ops [zM 10 6,
 zP 11 (.bin .neq) [.t 10, .c (.int .i64 0)]])
(.cond (.t 11)
(.seq (.ops [zM 12 6,
 zP 4 .mov [.c .nilp],
 zM 5 12])
.ret)
.skip)))
(.seq (.seq (.ops [zM 13 0,
 zN 14 13,
 zF 15 14 4,
 zL 16 15,
 zM 17 1,
 zP 18 (.iaddrS 1) [.t 16, .t 17],
 zL 19 18,
 zP 20 (.eq .nilptr) [.t 19, .c .nilp]])
(.cond (.t 20)
(.seq (.ops [zP 4 .mov [.c .nilp],
 zP 5 .mov [.c (.int .i64 250)]])
.ret)
.skip))
(.seq (.ops [zM 21 0,
 zN 22 21,
 zF 23 22 4,
 zL 24 23,
 zM 25 1,
 zP 26 (.iaddrS 1) [.t 24, .t 25],
 zL 27 26,
 zM 4 27,
 zP 5 .mov [.c (.int .i64 0)]])
.ret))))⟩
abbrev f_room_Room_of : Nat := 169
abbrev C_room_Room_of : AFunc := C169
def C170 : AFunc := ⟨14, [.cell 2 3 true, .tmp 3],
(.seq (.ops [⟨some 2, none, .a (.alloc [(.int .i64 0), (.int .i64 0), (.str [])]), []⟩,
 zP 3 .mov [.c (.bool false)]])
(.seq (.seq (.ops [zM 4 0,
⟨some 5, none, .call, [.c (.func (.func 168) [] []), .t 4]⟩])
(.cond (.t 5)
(.seq (.ops [zP 6 (.build [(.int .i64 0), (.int .i64 0), (.str [])] []) [],
 zS 3 [.t 2, .t 6],
 zP 3 .mov [.c (.bool false)]])
.ret)
.skip))
(.seq (.ops [zM 7 0,
 zN 8 7,
 zF 9 8 0,
 zL 10 9,
⟨some 11, none, .call, [.c (.func (.func 221) [] []), .t 10]⟩,
 zP 12 (.ext 0) [.t 11],
 zP 13 (.ext 1) [.t 11],
 zS 3 [.t 2, .t 12],
 zM 3 13])
.ret)))⟩
abbrev f_job_Job_Next : Nat := 170
abbrev C_job_Job_Next : AFunc := C170
def L_room_Room_Sole_0 : AC := (.seq (.ops [zP 16 (.bin .lss) [.t 15, .t 14]])
(.seq (.cond (.t 16)
.skip
(.exit 0))
(.seq (.block 1 (.seq (.ops [zM 17 15,
 zP 18 (.iaddrS 1) [.t 13, .t 15],
 zL 19 18,
 zM 5 17,
 zM 6 19])
(.seq (.ops [zM 20 6,
⟨some 21, none, .call, [.c (.func (.func 222) [] []), .t 20]⟩,
 zM 7 21])
(.seq (.ops [zM 22 7,
 zP 23 (.bin .geq) [.t 22, .c (.int .i64 2)]])
(.cond (.t 23)
(.seq (.ops [zM 24 5,
 zM 25 7,
 zM 2 24,
 zM 3 25,
 zP 4 .mov [.c (.bool true)]])
.ret)
.skip)))))
(.ops [zP 26 (.bin .add) [.t 15, .c (.int .i64 1)],
 zM 15 26]))))
def C171 : AFunc := ⟨27, [.tmp 2, .tmp 3, .tmp 4],
(.seq (.ops [zP 2 .mov [.c (.int .i64 0)],
 zP 3 .mov [.c (.int .i64 0)],
 zP 4 .mov [.c (.bool false)]])
(.seq (.seq (.ops [zM 8 0,
⟨some 9, none, .call, [.c (.func (.func 64) [] []), .t 8]⟩])
(.cond (.t 9)
(.seq (.ops [zP 2 .mov [.c (.int .i64 0)],
 zP 3 .mov [.c (.int .i64 0)],
 zP 4 .mov [.c (.bool false)]])
.ret)
.skip))
(.seq (.seq (.ops [zM 10 0,
 zN 11 10,
 zF 12 11 4,
 zL 13 12,
 zP 14 .lenS [.t 13],
 zP 15 .mov [.c (.int .i64 0)]])
(.block 0 (.loop L_room_Room_Sole_0)))
(.seq (.ops [zP 2 .mov [.c (.int .i64 0)],
 zP 3 .mov [.c (.int .i64 0)],
 zP 4 .mov [.c (.bool false)]])
.ret))))⟩
abbrev f_room_Room_Sole : Nat := 171
abbrev C_room_Room_Sole : AFunc := C171
def C172 : AFunc := ⟨42, [.tmp 4, .tmp 5],
(.seq (.ops [⟨some 3, none, .a .box, [.t 1]⟩,
 zP 4 .mov [.c (.int .i64 0)],
 zP 5 .mov [.c (.bool false)]])
(.seq (.ops [zM 9 0,
 zL 10 3,
⟨some 11, none, .call, [.c (.func (.func 223) [] []), .t 9, .t 10]⟩,
 zM 8 11,
 zP 12 (.ext 0) [.t 8],
 zP 13 (.ext 1) [.t 8],
 zM 6 12,
 zM 5 13])
(.seq (.seq (.ops [zM 14 5,
 zP 15 .not [.t 14]])
(.cond (.t 15)
(.seq (.ops [zP 4 .mov [.c (.int .i64 0)],
 zP 5 .mov [.c (.bool false)]])
.ret)
.skip))
(.seq (.ops [zM 16 0,
 zM 17 6,
⟨some 18, none, .call, [.c (.func (.func 63) [] []), .t 16, .t 17]⟩,
 zM 7 18])
(.seq (.ops [zM 19 7,
 zM 20 7,
 zN 21 20,
 zF 22 21 1,
 zL 23 22,
 zM 24 23,
 zMg 25 7 24 true,
 zLg 26 3 24 true,
⟨some 27, some (24, true), .call, [.c (.func (.func 224) [] []), .t 25, .t 26]⟩,
 zPg 28 .not [.t 27] 24 true,
 zP 29 .pick [.t 24, .t 28, .c (.bool false)],
 zN 30 19,
 zF 31 30 1,
 zS 1 [.t 31, .t 29]])
(.seq (.ops [zM 32 7,
 zM 33 7,
 zN 34 33,
 zF 35 34 0,
 zL 36 35,
 zP 37 (.mkfunc (.func 226) 0) [.t 3],
⟨some 38, none, .call, [.c (.func (.func 225) [] []), .t 36, .t 37]⟩,
 zN 39 32,
 zF 40 39 0,
 zS 1 [.t 40, .t 38]])
(.seq (.ops [zM 41 6,
 zM 4 41,
 zP 5 .mov [.c (.bool true)]])
.ret)))))))⟩
abbrev f_claim_Claim_Drop : Nat := 172
abbrev C_claim_Claim_Drop : AFunc := C172
def C173 : AFunc := ⟨33, [.tmp 4],
(.seq (.ops [zP 4 .mov [.c (.bool false)]])
(.seq (.seq (.ops [zM 8 0,
 zM 9 1,
⟨some 10, none, .call, [.c (.func (.func 169) [] []), .t 8, .t 9]⟩,
 zM 7 10,
 zP 11 (.ext 0) [.t 7],
 zP 12 (.ext 1) [.t 7],
 zM 5 11,
 zM 6 12])
(.seq (.ops [zM 13 6,
 zP 14 (.bin .neq) [.t 13, .c (.int .i64 0)]])
(.cond (.t 14)
(.seq (.ops [zP 4 .mov [.c (.bool false)]])
.ret)
.skip)))
(.seq (.ops [zM 15 0,
 zN 16 15,
 zF 17 16 4,
 zL 18 17,
 zM 19 1,
 zP 20 (.iaddrS 1) [.t 18, .t 19],
 zS 1 [.t 20, .c .nilp]])
(.seq (.ops [zM 21 0,
 zN 22 21,
 zF 23 22 1,
 zL 24 23,
 zM 25 1,
⟨some 26, none, .call, [.c (.func (.func 227) [] []), .t 24, .t 25]⟩])
(.seq (.ops [zM 27 0,
 zN 28 27,
 zF 29 28 0,
 zL 30 29,
 zM 31 1,
⟨some 32, none, .call, [.c (.func (.func 228) [] []), .t 30, .t 31]⟩])
(.seq (.ops [zP 4 .mov [.c (.bool true)]])
.ret))))))⟩
abbrev f_room_Room_End : Nat := 173
abbrev C_room_Room_End : AFunc := C173
def L_slices_IndexFunc_purse_Purse_purse_Purse_0 : AC := (.seq (.ops [zP 9 (.bin .lss) [.t 8, .t 7]])
(.seq (.cond (.t 9)
.skip
(.exit 0))
(.seq (.block 1 (.seq (.ops [zM 10 8,
 zM 5 10])
(.seq (.ops [zM 11 1,
 zM 12 0,
 zM 13 5,
 zP 14 (.iaddrS 1) [.t 12, .t 13],
 zL 15 14,
⟨some 16, none, .call, [.t 11, .t 15]⟩])
(.cond (.t 16)
(.seq (.ops [zM 17 5,
 zM 4 17])
.ret)
.skip))))
(.ops [zP 18 (.bin .add) [.t 8, .c (.int .i64 1)],
 zM 8 18]))))
def C174 : AFunc := ⟨19, [.tmp 4],
(.seq (.ops [zP 4 .mov [.c (.int .i64 0)]])
(.seq (.seq (.ops [zM 6 0,
 zP 7 .lenS [.t 6],
 zP 8 .mov [.c (.int .i64 0)]])
(.block 0 (.loop L_slices_IndexFunc_purse_Purse_purse_Purse_0)))
(.seq (.ops [zP 4 .mov [.c (.int .i64 (-1))]])
.ret)))⟩
abbrev f_slices_IndexFunc_purse_Purse_purse_Purse : Nat := 174
abbrev C_slices_IndexFunc_purse_Purse_purse_Purse : AFunc := C174
def C175 : AFunc := ⟨16, [.tmp 2],
(.seq (.ops [zP 2 .mov [.c (.int .i64 0)]])
(.seq (.ops [zM 6 0,
⟨some 7, none, .call, [.c (.func (.func 229) [] []), .t 6]⟩,
 zM 5 7,
 zP 8 (.ext 0) [.t 5],
 zP 9 (.ext 1) [.t 5],
⟨some 3, none, .a (.alloc [(.int .i64 0), (.int .i64 0)]), []⟩,
 zS 2 [.t 3, .t 8],
 zM 4 9])
(.seq (.block 0 (.seq (.ops [zM 11 4,
 zP 12 .not [.t 11],
 zM 10 12])
(.cond (.t 10)
(.seq (.ops [zP 2 .mov [.c (.int .i64 2)]])
.ret)
(.seq (.ops [⟨some 14, none, .r (.loadN 2), [.t 3]⟩,
⟨some 15, none, .call, [.c (.func (.func 230) [] []), .t 14]⟩,
 zM 13 15])
(.cond (.t 13)
(.seq (.ops [zP 2 .mov [.c (.int .i64 120)]])
.ret)
.skip)))))
(.seq (.ops [zP 2 .mov [.c (.int .i64 0)]])
.ret))))⟩
abbrev f_share_Test : Nat := 175
abbrev C_share_Test : AFunc := C175
def L_local_Test_0 : AC := (.seq (.ops [zP 70 (.bin .lss) [.t 69, .t 68]])
(.seq (.cond (.t 70)
.skip
(.exit 0))
(.seq (.block 1 (.seq (.ops [zP 71 (.iaddrS 8) [.t 67, .t 69],
⟨some 72, none, .r (.loadN 8), [.t 71]⟩,
⟨some 12, none, .a (.alloc [(.int .i64 0), (.int .i64 0), (.int .i64 0), (.int .i64 0), (.int .i64 0), (.int .i64 0), (.int .i64 0), (.int .i64 0)]), []⟩,
 zS 8 [.t 12, .t 72]])
(.ops [zM 73 10,
 zF 74 12 1,
 zL 75 74,
 zP 76 .mx [.t 73, .t 75],
 zM 10 76])))
(.ops [zP 77 (.bin .add) [.t 69, .c (.int .i64 1)],
 zM 69 77]))))
def L_local_Test_1a : AC := (.seq (.ops [zM 13 90])
(.ops [zM 14 91]))
def L_local_Test_1b : AC := (.block 3 (.seq (.ops [zM 92 14,
 zP 93 (.bin .lss) [.t 92, .c (.int .i64 0)]])
(.cond (.t 93)
(.seq (.ops [zM 94 13,
 zS 1 [.t 4, .t 94],
 zS 1 [.t 5, .c (.int .i64 120)]])
.ret)
.skip)))
def C176 : AFunc := ⟨95, [.cell 4 1 false, .cell 5 1 false],
(.seq (.ops [⟨some 4, none, .a (.alloc [(.int .i64 0)]), []⟩,
⟨some 5, none, .a (.alloc [(.int .i64 0)]), []⟩])
(.seq (.ops [zM 16 0,
 zM 17 1,
⟨some 18, none, .call, [.c (.func (.func 231) [] []), .t 16, .t 17]⟩,
 zM 15 18,
 zP 19 (.ext 0) [.t 15],
 zP 20 (.ext 1) [.t 15],
⟨some 6, none, .a (.alloc [(.int .i64 0), (.int .i64 0), .nils, .nils, (.int .i64 0), .nils]), []⟩,
 zS 6 [.t 6, .t 19],
 zS 1 [.t 5, .t 20]])
(.seq (.seq (.ops [zL 21 5,
 zP 22 (.bin .neq) [.t 21, .c (.int .i64 0)],
 zM 23 22,
 zFg 24 6 0 23 false,
 zFg 25 24 2 23 false,
 zLg 26 25 23 false,
 zPg 27 .lenS [.t 26] 23 false,
 zPg 28 (.bin .eql) [.t 27, .c (.int .i64 0)] 23 false,
 zP 29 .pick [.t 23, .c (.bool true), .t 28]])
(.cond (.t 29)
(.seq (.dops [zL 30 5,
 zS 1 [.t 4, .c (.int .i64 0)],
 zS 1 [.t 5, .t 30]] [[0, 2], [], []])
.ret)
.skip))
(.seq (.ops [zF 32 6 0,
 zF 33 32 2,
 zL 34 33,
 zF 35 6 0,
 zF 36 35 0,
 zL 37 36,
⟨some 38, none, .call, [.c (.func (.func 232) [] []), .t 34, .t 37]⟩,
 zM 31 38,
 zP 39 (.ext 0) [.t 31],
 zP 40 (.ext 1) [.t 31],
 zM 7 39,
 zS 1 [.t 5, .t 40]])
(.seq (.seq (.ops [zL 41 5,
 zP 42 (.bin .neq) [.t 41, .c (.int .i64 0)]])
(.cond (.t 42)
(.seq (.dops [zL 43 5,
 zS 1 [.t 4, .c (.int .i64 0)],
 zS 1 [.t 5, .t 43]] [[0, 2], [], []])
.ret)
.skip))
(.seq (.seq (.ops [zF 45 6 0,
 zF 46 45 2,
 zL 47 46,
 zF 48 6 5,
 zL 49 48,
 zM 50 7,
⟨some 51, none, .call, [.c (.func (.func 233) [] []), .t 47, .t 49, .t 50]⟩,
 zM 44 51,
 zP 52 (.ext 0) [.t 44],
 zP 53 (.ext 1) [.t 44],
 zM 8 52,
 zM 9 53])
(.seq (.dops [zM 54 8,
 zM 55 7,
 zF 56 6 0,
 zF 57 56 0,
 zL 58 57,
 zP 59 (.bin .quo) [.t 55, .t 58],
 zF 60 6 0,
 zF 61 60 1,
 zL 62 61,
 zP 63 (.bin .mul) [.t 59, .t 62],
 zP 64 (.bin .gtr) [.t 54, .t 63]] [[], [], [], [], [], [], [], [], [], [], []])
(.cond (.t 64)
(.seq (.ops [zS 1 [.t 4, .c (.int .i64 0)],
 zS 1 [.t 5, .c (.int .i64 120)]])
.ret)
.skip)))
(.seq (.ops [zP 10 .mov [.c (.int .i64 0)]])
(.seq (.seq (.ops [zF 65 6 0,
 zF 66 65 2,
 zL 67 66,
 zP 68 .lenS [.t 67],
 zP 69 .mov [.c (.int .i64 0)]])
(.block 0 (.loop L_local_Test_0)))
(.seq (.seq (.dops [⟨some 78, none, .r (.loadN 6), [.t 6]⟩,
 zM 79 7,
 zM 80 10,
 zF 81 6 0,
 zF 82 81 0,
 zL 83 82,
 zF 84 6 0,
 zF 85 84 0,
 zL 86 85,
⟨some 87, none, .a (.bslice [(.int .i64 0)] 4 1 [0, 1, 2, 3]), [.t 79, .t 80, .t 83, .t 86]⟩,
⟨some 88, none, .call, [.c (.func (.func 235) [] []), .t 87]⟩,
⟨some 89, none, .call, [.c (.func (.func 234) [] []), .t 78, .t 88]⟩] [[0, 11], [], [], [], [], [], [], [], [], [], [], []])
(.block 2 (.rangeFunc (.t 89) [90, 91] L_local_Test_1a L_local_Test_1b)))
(.seq (.ops [zS 1 [.t 4, .c (.int .i64 0)],
 zS 1 [.t 5, .c (.int .i64 0)]])
.ret))))))))))⟩
abbrev f_local_Test : Nat := 176
abbrev C_local_Test : AFunc := C176
def C177 : AFunc := ⟨9, [.tmp 2],
(.seq (.ops [zP 2 .mov [.c (.bool false)]])
(.seq (.ops [zM 3 0,
 zP 4 (.bin .lss) [.t 3, .c (.int .i64 0)],
 zM 5 4,
 zMg 6 0 5 false,
 zPg 7 (.bin .gtr) [.t 6, .c (.int .i64 32768)] 5 false,
 zP 8 .pick [.t 5, .c (.bool true), .t 7],
 zM 2 8])
.ret))⟩
abbrev f_demand_Check_1 : Nat := 177
abbrev C_demand_Check_1 : AFunc := C177
def C178 : AFunc := ⟨11, [.tmp 2],
(.seq (.ops [zP 2 .mov [.c (.bool false)]])
(.seq (.ops [zM 3 0,
 zP 4 .lenS [.t 3],
 zP 5 (.bin .leq) [.t 4, .c (.int .i64 4)],
 zM 6 5,
 zMg 7 0 6 true,
⟨some 8, some (6, true), .call, [.c (.func (.func 87) [] []), .t 7, .c (.func (.func 236) [] [])]⟩,
 zPg 9 .not [.t 8] 6 true,
 zP 10 .pick [.t 6, .t 9, .c (.bool false)],
 zM 2 10])
.ret))⟩
abbrev f_demand_all : Nat := 178
abbrev C_demand_all : AFunc := C178
def C179 : AFunc := ⟨9, [.tmp 2],
(.seq (.ops [zP 2 .mov [.c (.bool false)]])
(.seq (.ops [zM 3 0,
 zP 4 (.bin .geq) [.t 3, .c (.int .i64 1)],
 zM 5 4,
 zMg 6 0 5 true,
 zPg 7 (.bin .leq) [.t 6, .c (.int .i64 64)] 5 true,
 zP 8 .pick [.t 5, .t 7, .c (.bool false)],
 zM 2 8])
.ret))⟩
abbrev f_spore_may : Nat := 179
abbrev C_spore_may : AFunc := C179
def L_slices_insertionSortCmpFunc_rank_one_1 : AC := (.seq (.seq (.dops [zM 18 9,
 zM 19 1,
 zP 20 (.bin .gtr) [.t 18, .t 19],
 zM 21 20,
 zMg 22 3 21 true,
 zMg 23 0 21 true,
 zMg 24 9 21 true,
 zPg 25 (.iaddrS 2) [.t 23, .t 24] 21 true,
⟨some 26, some (21, true), .r (.loadN 2), [.t 25]⟩,
 zMg 27 0 21 true,
 zMg 28 9 21 true,
 zPg 29 (.bin .sub) [.t 28, .c (.int .i64 1)] 21 true,
 zPg 30 (.iaddrS 2) [.t 27, .t 29] 21 true,
⟨some 31, some (21, true), .r (.loadN 2), [.t 30]⟩,
⟨some 32, some (21, true), .call, [.t 22, .t 26, .t 31]⟩,
 zPg 33 (.bin .lss) [.t 32, .c (.int .i64 0)] 21 true,
 zP 34 .pick [.t 21, .t 33, .c (.bool false)]] [[], [], [], [], [], [], [], [], [], [], [], [], [], [], [], [], []])
(.cond (.t 34)
.skip
(.exit 2)))
(.seq (.block 3 (.dops [zM 37 0,
 zM 38 9,
 zM 39 0,
 zM 40 9,
 zP 41 (.bin .sub) [.t 40, .c (.int .i64 1)],
 zM 42 0,
 zM 43 9,
 zP 44 (.bin .sub) [.t 43, .c (.int .i64 1)],
 zP 45 (.iaddrS 2) [.t 42, .t 44],
⟨some 46, none, .r (.loadN 2), [.t 45]⟩,
 zM 47 0,
 zM 48 9,
 zP 49 (.iaddrS 2) [.t 47, .t 48],
⟨some 50, none, .r (.loadN 2), [.t 49]⟩,
 zP 51 (.iaddrS 2) [.t 37, .t 38],
 zS 2 [.t 51, .t 46],
 zP 52 (.iaddrS 2) [.t 39, .t 41],
 zS 2 [.t 52, .t 50]] [[], [], [], [], [], [], [], [], [], [], [], [], [], [], [], [], [], []]))
(.ops [zM 35 9,
 zP 36 (.bin .sub) [.t 35, .c (.int .i64 1)],
 zM 9 36])))
def L_slices_insertionSortCmpFunc_rank_one_0 : AC := (.seq (.seq (.ops [zM 12 8,
 zM 13 2,
 zP 14 (.bin .lss) [.t 12, .t 13]])
(.cond (.t 14)
.skip
(.exit 0)))
(.seq (.block 1 (.seq (.ops [zM 17 8,
 zM 9 17])
(.block 2 (.loop L_slices_insertionSortCmpFunc_rank_one_1))))
(.ops [zM 15 8,
 zP 16 (.bin .add) [.t 15, .c (.int .i64 1)],
 zM 8 16])))
def C180 : AFunc := ⟨53, [],
(.seq (.ops [zM 10 1,
 zP 11 (.bin .add) [.t 10, .c (.int .i64 1)],
 zM 8 11])
(.block 0 (.loop L_slices_insertionSortCmpFunc_rank_one_0)))⟩
abbrev f_slices_insertionSortCmpFunc_rank_one : Nat := 180
abbrev C_slices_insertionSortCmpFunc_rank_one : AFunc := C180
def L_slices_heapSortCmpFunc_rank_one_0 : AC := (.seq (.seq (.ops [zM 20 11,
 zP 21 (.bin .geq) [.t 20, .c (.int .i64 0)]])
(.cond (.t 21)
.skip
(.exit 0)))
(.seq (.block 1 (.ops [zM 24 0,
 zM 25 11,
 zM 26 10,
 zM 27 8,
 zM 28 3,
⟨some 29, none, .call, [.c (.func (.func 238) [] []), .t 24, .t 25, .t 26, .t 27, .t 28]⟩]))
(.ops [zM 22 11,
 zP 23 (.bin .sub) [.t 22, .c (.int .i64 1)],
 zM 11 23])))
def L_slices_heapSortCmpFunc_rank_one_1 : AC := (.seq (.seq (.ops [zM 32 12,
 zP 33 (.bin .geq) [.t 32, .c (.int .i64 0)]])
(.cond (.t 33)
.skip
(.exit 2)))
(.seq (.block 3 (.seq (.dops [zM 36 0,
 zM 37 8,
 zM 38 0,
 zM 39 8,
 zM 40 12,
 zP 41 (.bin .add) [.t 39, .t 40],
 zM 42 0,
 zM 43 8,
 zM 44 12,
 zP 45 (.bin .add) [.t 43, .t 44],
 zP 46 (.iaddrS 2) [.t 42, .t 45],
⟨some 47, none, .r (.loadN 2), [.t 46]⟩,
 zM 48 0,
 zM 49 8,
 zP 50 (.iaddrS 2) [.t 48, .t 49],
⟨some 51, none, .r (.loadN 2), [.t 50]⟩,
 zP 52 (.iaddrS 2) [.t 36, .t 37],
 zS 2 [.t 52, .t 47],
 zP 53 (.iaddrS 2) [.t 38, .t 41],
 zS 2 [.t 53, .t 51]] [[], [], [], [], [], [], [], [], [], [], [], [], [], [], [], [], [], [], [], []])
(.ops [zM 54 0,
 zM 55 9,
 zM 56 12,
 zM 57 8,
 zM 58 3,
⟨some 59, none, .call, [.c (.func (.func 238) [] []), .t 54, .t 55, .t 56, .t 57, .t 58]⟩])))
(.ops [zM 34 12,
 zP 35 (.bin .sub) [.t 34, .c (.int .i64 1)],
 zM 12 35])))
def C181 : AFunc := ⟨60, [],
(.seq (.ops [zM 13 1,
 zM 8 13])
(.seq (.ops [zP 9 .mov [.c (.int .i64 0)]])
(.seq (.ops [zM 14 2,
 zM 15 1,
 zP 16 (.bin .sub) [.t 14, .t 15],
 zM 10 16])
(.seq (.seq (.ops [zM 17 10,
 zP 18 (.bin .sub) [.t 17, .c (.int .i64 1)],
 zP 19 (.bin .quo) [.t 18, .c (.int .i64 2)],
 zM 11 19])
(.block 0 (.loop L_slices_heapSortCmpFunc_rank_one_0)))
(.seq (.ops [zM 30 10,
 zP 31 (.bin .sub) [.t 30, .c (.int .i64 1)],
 zM 12 31])
(.block 2 (.loop L_slices_heapSortCmpFunc_rank_one_1)))))))⟩
abbrev f_slices_heapSortCmpFunc_rank_one : Nat := 181
abbrev C_slices_heapSortCmpFunc_rank_one : AFunc := C181
def L_slices_breakPatternsCmpFunc_rank_one_0 : AC := (.seq (.seq (.ops [zM 28 11,
 zM 29 1,
 zM 30 8,
 zP 31 (.bin .quo) [.t 30, .c (.int .i64 4)],
 zP 32 (.bin .mul) [.t 31, .c (.int .i64 2)],
 zP 33 (.bin .add) [.t 29, .t 32],
 zP 34 (.bin .add) [.t 33, .c (.int .i64 1)],
 zP 35 (.bin .leq) [.t 28, .t 34]])
(.cond (.t 35)
.skip
(.exit 0)))
(.seq (.block 1 (.seq (.ops [⟨some 38, none, .call, [.c (.func (.func 240) [] []), .t 9]⟩,
 zM 39 10,
 zP 40 (.bin .sub) [.t 39, .c (.int .u64 1)],
 zP 41 (.bin .and) [.t 38, .t 40],
 zP 42 (.conv .i64) [.t 41],
 zM 12 42])
(.seq (.seq (.ops [zM 43 12,
 zM 44 8,
 zP 45 (.bin .geq) [.t 43, .t 44]])
(.cond (.t 45)
(.ops [zM 46 12,
 zM 47 8,
 zP 48 (.bin .sub) [.t 46, .t 47],
 zM 12 48])
.skip))
(.dops [zM 49 0,
 zM 50 11,
 zM 51 0,
 zM 52 1,
 zM 53 12,
 zP 54 (.bin .add) [.t 52, .t 53],
 zM 55 0,
 zM 56 1,
 zM 57 12,
 zP 58 (.bin .add) [.t 56, .t 57],
 zP 59 (.iaddrS 2) [.t 55, .t 58],
⟨some 60, none, .r (.loadN 2), [.t 59]⟩,
 zM 61 0,
 zM 62 11,
 zP 63 (.iaddrS 2) [.t 61, .t 62],
⟨some 64, none, .r (.loadN 2), [.t 63]⟩,
 zP 65 (.iaddrS 2) [.t 49, .t 50],
 zS 2 [.t 65, .t 60],
 zP 66 (.iaddrS 2) [.t 51, .t 54],
 zS 2 [.t 66, .t 64]] [[], [], [], [], [], [], [], [], [], [], [], [], [], [], [], [], [], [], [], []]))))
(.ops [zM 36 11,
 zP 37 (.bin .add) [.t 36, .c (.int .i64 1)],
 zM 11 37])))
def C182 : AFunc := ⟨67, [],
(.seq (.ops [zM 13 2,
 zM 14 1,
 zP 15 (.bin .sub) [.t 13, .t 14],
 zM 8 15])
(.seq (.ops [zM 16 8,
 zP 17 (.bin .geq) [.t 16, .c (.int .i64 8)]])
(.cond (.t 17)
(.seq (.ops [zM 18 8,
 zP 19 (.conv .u64) [.t 18],
⟨some 9, none, .a (.alloc [(.int .u64 0)]), []⟩,
 zS 1 [.t 9, .t 19]])
(.seq (.ops [zM 20 8,
⟨some 21, none, .call, [.c (.func (.func 239) [] []), .t 20]⟩,
 zM 10 21])
(.seq (.ops [zM 22 1,
 zM 23 8,
 zP 24 (.bin .quo) [.t 23, .c (.int .i64 4)],
 zP 25 (.bin .mul) [.t 24, .c (.int .i64 2)],
 zP 26 (.bin .add) [.t 22, .t 25],
 zP 27 (.bin .sub) [.t 26, .c (.int .i64 1)],
 zM 11 27])
(.block 0 (.loop L_slices_breakPatternsCmpFunc_rank_one_0)))))
.skip)))⟩
abbrev f_slices_breakPatternsCmpFunc_rank_one : Nat := 182
abbrev C_slices_breakPatternsCmpFunc_rank_one : AFunc := C182
def C183 : AFunc := ⟨63, [.tmp 8, .tmp 9],
(.seq (.ops [zP 8 .mov [.c (.int .i64 0)],
 zP 9 .mov [.c (.int .i64 0)]])
(.seq (.ops [zM 15 2,
 zM 16 1,
 zP 17 (.bin .sub) [.t 15, .t 16],
 zM 10 17])
(.seq (.ops [⟨some 11, none, .a (.alloc [(.int .i64 0)]), []⟩])
(.seq (.ops [zM 18 1,
 zM 19 10,
 zP 20 (.bin .quo) [.t 19, .c (.int .i64 4)],
 zP 21 (.bin .mul) [.t 20, .c (.int .i64 1)],
 zP 22 (.bin .add) [.t 18, .t 21],
 zM 12 22])
(.seq (.ops [zM 23 1,
 zM 24 10,
 zP 25 (.bin .quo) [.t 24, .c (.int .i64 4)],
 zP 26 (.bin .mul) [.t 25, .c (.int .i64 2)],
 zP 27 (.bin .add) [.t 23, .t 26],
 zM 13 27])
(.seq (.ops [zM 28 1,
 zM 29 10,
 zP 30 (.bin .quo) [.t 29, .c (.int .i64 4)],
 zP 31 (.bin .mul) [.t 30, .c (.int .i64 3)],
 zP 32 (.bin .add) [.t 28, .t 31],
 zM 14 32])
(.seq (.seq (.ops [zM 33 10,
 zP 34 (.bin .geq) [.t 33, .c (.int .i64 8)]])
(.cond (.t 34)
(.seq (.seq (.ops [zM 35 10,
 zP 36 (.bin .geq) [.t 35, .c (.int .i64 50)]])
(.cond (.t 36)
(.seq (.ops [zM 37 0,
 zM 38 12,
 zM 39 3,
⟨some 40, none, .call, [.c (.func (.func 241) [] []), .t 37, .t 38, .t 11, .t 39]⟩,
 zM 12 40])
(.seq (.ops [zM 41 0,
 zM 42 13,
 zM 43 3,
⟨some 44, none, .call, [.c (.func (.func 241) [] []), .t 41, .t 42, .t 11, .t 43]⟩,
 zM 13 44])
(.ops [zM 45 0,
 zM 46 14,
 zM 47 3,
⟨some 48, none, .call, [.c (.func (.func 241) [] []), .t 45, .t 46, .t 11, .t 47]⟩,
 zM 14 48])))
.skip))
(.ops [zM 49 0,
 zM 50 12,
 zM 51 13,
 zM 52 14,
 zM 53 3,
⟨some 54, none, .call, [.c (.func (.func 242) [] []), .t 49, .t 50, .t 51, .t 52, .t 11, .t 53]⟩,
 zM 13 54]))
.skip))
(.seq (.ops [zL 55 11])
(.block 0 (.seq (.ops [zP 58 (.bin .eql) [.t 55, .c (.int .i64 0)],
 zM 57 58])
(.cond (.t 57)
(.seq (.ops [zM 59 13,
 zM 8 59,
 zP 9 .mov [.c (.int .i64 1)]])
.ret)
(.seq (.ops [zP 61 (.bin .eql) [.t 55, .c (.int .i64 12)],
 zM 60 61])
(.cond (.t 60)
(.seq (.ops [zM 62 13,
 zM 8 62,
 zP 9 .mov [.c (.int .i64 2)]])
.ret)
(.seq (.ops [zM 56 13,
 zM 8 56,
 zP 9 .mov [.c (.int .i64 0)]])
.ret))))))))))))))⟩
abbrev f_slices_choosePivotCmpFunc_rank_one : Nat := 183
abbrev C_slices_choosePivotCmpFunc_rank_one : AFunc := C183
def L_slices_reverseRangeCmpFunc_rank_one_0 : AC := (.seq (.seq (.ops [zM 13 8,
 zM 14 9,
 zP 15 (.bin .lss) [.t 13, .t 14]])
(.cond (.t 15)
.skip
(.exit 0)))
(.block 1 (.seq (.dops [zM 16 0,
 zM 17 8,
 zM 18 0,
 zM 19 9,
 zM 20 0,
 zM 21 9,
 zP 22 (.iaddrS 2) [.t 20, .t 21],
⟨some 23, none, .r (.loadN 2), [.t 22]⟩,
 zM 24 0,
 zM 25 8,
 zP 26 (.iaddrS 2) [.t 24, .t 25],
⟨some 27, none, .r (.loadN 2), [.t 26]⟩,
 zP 28 (.iaddrS 2) [.t 16, .t 17],
 zS 2 [.t 28, .t 23],
 zP 29 (.iaddrS 2) [.t 18, .t 19],
 zS 2 [.t 29, .t 27]] [[], [], [], [], [], [], [], [], [], [], [], [], [], [], [], []])
(.seq (.ops [zM 30 8,
 zP 31 (.bin .add) [.t 30, .c (.int .i64 1)],
 zM 8 31])
(.ops [zM 32 9,
 zP 33 (.bin .sub) [.t 32, .c (.int .i64 1)],
 zM 9 33])))))
def C184 : AFunc := ⟨34, [],
(.seq (.ops [zM 10 1,
 zM 8 10])
(.seq (.ops [zM 11 2,
 zP 12 (.bin .sub) [.t 11, .c (.int .i64 1)],
 zM 9 12])
(.block 0 (.loop L_slices_reverseRangeCmpFunc_rank_one_0))))⟩
abbrev f_slices_reverseRangeCmpFunc_rank_one : Nat := 184
abbrev C_slices_reverseRangeCmpFunc_rank_one : AFunc := C184
def L_slices_partialInsertionSortCmpFunc_rank_one_1 : AC := (.seq (.seq (.dops [zM 19 9,
 zM 20 2,
 zP 21 (.bin .lss) [.t 19, .t 20],
 zM 22 21,
 zMg 23 3 22 true,
 zMg 24 0 22 true,
 zMg 25 9 22 true,
 zPg 26 (.iaddrS 2) [.t 24, .t 25] 22 true,
⟨some 27, some (22, true), .r (.loadN 2), [.t 26]⟩,
 zMg 28 0 22 true,
 zMg 29 9 22 true,
 zPg 30 (.bin .sub) [.t 29, .c (.int .i64 1)] 22 true,
 zPg 31 (.iaddrS 2) [.t 28, .t 30] 22 true,
⟨some 32, some (22, true), .r (.loadN 2), [.t 31]⟩,
⟨some 33, some (22, true), .call, [.t 23, .t 27, .t 32]⟩,
 zPg 34 (.bin .lss) [.t 33, .c (.int .i64 0)] 22 true,
 zPg 35 .not [.t 34] 22 true,
 zP 36 .pick [.t 22, .t 35, .c (.bool false)]] [[], [], [], [], [], [], [], [], [], [], [], [], [], [], [], [], [], []])
(.cond (.t 36)
.skip
(.exit 2)))
(.block 3 (.ops [zM 37 9,
 zP 38 (.bin .add) [.t 37, .c (.int .i64 1)],
 zM 9 38])))
def L_slices_partialInsertionSortCmpFunc_rank_one_2 : AC := (.seq (.seq (.ops [zM 68 11,
 zP 69 (.bin .geq) [.t 68, .c (.int .i64 1)]])
(.cond (.t 69)
.skip
(.exit 4)))
(.seq (.block 5 (.seq (.seq (.dops [zM 72 3,
 zM 73 0,
 zM 74 11,
 zP 75 (.iaddrS 2) [.t 73, .t 74],
⟨some 76, none, .r (.loadN 2), [.t 75]⟩,
 zM 77 0,
 zM 78 11,
 zP 79 (.bin .sub) [.t 78, .c (.int .i64 1)],
 zP 80 (.iaddrS 2) [.t 77, .t 79],
⟨some 81, none, .r (.loadN 2), [.t 80]⟩,
⟨some 82, none, .call, [.t 72, .t 76, .t 81]⟩,
 zP 83 (.bin .lss) [.t 82, .c (.int .i64 0)],
 zP 84 .not [.t 83]] [[], [], [], [], [], [], [], [], [], [], [], [], []])
(.cond (.t 84)
(.exit 4)
.skip))
(.dops [zM 85 0,
 zM 86 11,
 zM 87 0,
 zM 88 11,
 zP 89 (.bin .sub) [.t 88, .c (.int .i64 1)],
 zM 90 0,
 zM 91 11,
 zP 92 (.bin .sub) [.t 91, .c (.int .i64 1)],
 zP 93 (.iaddrS 2) [.t 90, .t 92],
⟨some 94, none, .r (.loadN 2), [.t 93]⟩,
 zM 95 0,
 zM 96 11,
 zP 97 (.iaddrS 2) [.t 95, .t 96],
⟨some 98, none, .r (.loadN 2), [.t 97]⟩,
 zP 99 (.iaddrS 2) [.t 85, .t 86],
 zS 2 [.t 99, .t 94],
 zP 100 (.iaddrS 2) [.t 87, .t 89],
 zS 2 [.t 100, .t 98]] [[], [], [], [], [], [], [], [], [], [], [], [], [], [], [], [], [], []])))
(.ops [zM 70 11,
 zP 71 (.bin .sub) [.t 70, .c (.int .i64 1)],
 zM 11 71])))
def L_slices_partialInsertionSortCmpFunc_rank_one_3 : AC := (.seq (.seq (.ops [zM 107 12,
 zM 108 2,
 zP 109 (.bin .lss) [.t 107, .t 108]])
(.cond (.t 109)
.skip
(.exit 6)))
(.seq (.block 7 (.seq (.seq (.dops [zM 112 3,
 zM 113 0,
 zM 114 12,
 zP 115 (.iaddrS 2) [.t 113, .t 114],
⟨some 116, none, .r (.loadN 2), [.t 115]⟩,
 zM 117 0,
 zM 118 12,
 zP 119 (.bin .sub) [.t 118, .c (.int .i64 1)],
 zP 120 (.iaddrS 2) [.t 117, .t 119],
⟨some 121, none, .r (.loadN 2), [.t 120]⟩,
⟨some 122, none, .call, [.t 112, .t 116, .t 121]⟩,
 zP 123 (.bin .lss) [.t 122, .c (.int .i64 0)],
 zP 124 .not [.t 123]] [[], [], [], [], [], [], [], [], [], [], [], [], []])
(.cond (.t 124)
(.exit 6)
.skip))
(.dops [zM 125 0,
 zM 126 12,
 zM 127 0,
 zM 128 12,
 zP 129 (.bin .sub) [.t 128, .c (.int .i64 1)],
 zM 130 0,
 zM 131 12,
 zP 132 (.bin .sub) [.t 131, .c (.int .i64 1)],
 zP 133 (.iaddrS 2) [.t 130, .t 132],
⟨some 134, none, .r (.loadN 2), [.t 133]⟩,
 zM 135 0,
 zM 136 12,
 zP 137 (.iaddrS 2) [.t 135, .t 136],
⟨some 138, none, .r (.loadN 2), [.t 137]⟩,
 zP 139 (.iaddrS 2) [.t 125, .t 126],
 zS 2 [.t 139, .t 134],
 zP 140 (.iaddrS 2) [.t 127, .t 129],
 zS 2 [.t 140, .t 138]] [[], [], [], [], [], [], [], [], [], [], [], [], [], [], [], [], [], []])))
(.ops [zM 110 12,
 zP 111 (.bin .add) [.t 110, .c (.int .i64 1)],
 zM 12 111])))
def L_slices_partialInsertionSortCmpFunc_rank_one_0 : AC := (.seq (.seq (.ops [zM 15 10,
 zP 16 (.bin .lss) [.t 15, .c (.int .i64 5)]])
(.cond (.t 16)
.skip
(.exit 0)))
(.seq (.block 1 (.seq (.block 2 (.loop L_slices_partialInsertionSortCmpFunc_rank_one_1))
(.seq (.seq (.ops [zM 39 9,
 zM 40 2,
 zP 41 (.bin .eql) [.t 39, .t 40]])
(.cond (.t 41)
(.seq (.ops [zP 8 .mov [.c (.bool true)]])
.ret)
.skip))
(.seq (.seq (.ops [zM 42 2,
 zM 43 1,
 zP 44 (.bin .sub) [.t 42, .t 43],
 zP 45 (.bin .lss) [.t 44, .c (.int .i64 50)]])
(.cond (.t 45)
(.seq (.ops [zP 8 .mov [.c (.bool false)]])
.ret)
.skip))
(.seq (.dops [zM 46 0,
 zM 47 9,
 zM 48 0,
 zM 49 9,
 zP 50 (.bin .sub) [.t 49, .c (.int .i64 1)],
 zM 51 0,
 zM 52 9,
 zP 53 (.bin .sub) [.t 52, .c (.int .i64 1)],
 zP 54 (.iaddrS 2) [.t 51, .t 53],
⟨some 55, none, .r (.loadN 2), [.t 54]⟩,
 zM 56 0,
 zM 57 9,
 zP 58 (.iaddrS 2) [.t 56, .t 57],
⟨some 59, none, .r (.loadN 2), [.t 58]⟩,
 zP 60 (.iaddrS 2) [.t 46, .t 47],
 zS 2 [.t 60, .t 55],
 zP 61 (.iaddrS 2) [.t 48, .t 50],
 zS 2 [.t 61, .t 59]] [[], [], [], [], [], [], [], [], [], [], [], [], [], [], [], [], [], []])
(.seq (.seq (.ops [zM 62 9,
 zM 63 1,
 zP 64 (.bin .sub) [.t 62, .t 63],
 zP 65 (.bin .geq) [.t 64, .c (.int .i64 2)]])
(.cond (.t 65)
(.seq (.ops [zM 66 9,
 zP 67 (.bin .sub) [.t 66, .c (.int .i64 1)],
 zM 11 67])
(.block 4 (.loop L_slices_partialInsertionSortCmpFunc_rank_one_2)))
.skip))
(.seq (.ops [zM 101 2,
 zM 102 9,
 zP 103 (.bin .sub) [.t 101, .t 102],
 zP 104 (.bin .geq) [.t 103, .c (.int .i64 2)]])
(.cond (.t 104)
(.seq (.ops [zM 105 9,
 zP 106 (.bin .add) [.t 105, .c (.int .i64 1)],
 zM 12 106])
(.block 6 (.loop L_slices_partialInsertionSortCmpFunc_rank_one_3)))
.skip))))))))
(.ops [zM 17 10,
 zP 18 (.bin .add) [.t 17, .c (.int .i64 1)],
 zM 10 18])))
def C185 : AFunc := ⟨141, [.tmp 8],
(.seq (.ops [zP 8 .mov [.c (.bool false)]])
(.seq (.ops [zM 13 1,
 zP 14 (.bin .add) [.t 13, .c (.int .i64 1)],
 zM 9 14])
(.seq (.seq (.ops [zP 10 .mov [.c (.int .i64 0)]])
(.block 0 (.loop L_slices_partialInsertionSortCmpFunc_rank_one_0)))
(.seq (.ops [zP 8 .mov [.c (.bool false)]])
.ret))))⟩
abbrev f_slices_partialInsertionSortCmpFunc_rank_one : Nat := 185
abbrev C_slices_partialInsertionSortCmpFunc_rank_one : AFunc := C185
def L_slices_partitionEqualCmpFunc_rank_one_1 : AC := (.seq (.seq (.dops [zM 31 11,
 zM 32 12,
 zP 33 (.bin .leq) [.t 31, .t 32],
 zM 34 33,
 zMg 35 4 34 true,
 zMg 36 0 34 true,
 zMg 37 1 34 true,
 zPg 38 (.iaddrS 2) [.t 36, .t 37] 34 true,
⟨some 39, some (34, true), .r (.loadN 2), [.t 38]⟩,
 zMg 40 0 34 true,
 zMg 41 11 34 true,
 zPg 42 (.iaddrS 2) [.t 40, .t 41] 34 true,
⟨some 43, some (34, true), .r (.loadN 2), [.t 42]⟩,
⟨some 44, some (34, true), .call, [.t 35, .t 39, .t 43]⟩,
 zPg 45 (.bin .lss) [.t 44, .c (.int .i64 0)] 34 true,
 zPg 46 .not [.t 45] 34 true,
 zP 47 .pick [.t 34, .t 46, .c (.bool false)]] [[], [], [], [], [], [], [], [], [], [], [], [], [], [], [], [], []])
(.cond (.t 47)
.skip
(.exit 2)))
(.block 3 (.ops [zM 48 11,
 zP 49 (.bin .add) [.t 48, .c (.int .i64 1)],
 zM 11 49])))
def L_slices_partitionEqualCmpFunc_rank_one_2 : AC := (.seq (.seq (.dops [zM 50 11,
 zM 51 12,
 zP 52 (.bin .leq) [.t 50, .t 51],
 zM 53 52,
 zMg 54 4 53 true,
 zMg 55 0 53 true,
 zMg 56 1 53 true,
 zPg 57 (.iaddrS 2) [.t 55, .t 56] 53 true,
⟨some 58, some (53, true), .r (.loadN 2), [.t 57]⟩,
 zMg 59 0 53 true,
 zMg 60 12 53 true,
 zPg 61 (.iaddrS 2) [.t 59, .t 60] 53 true,
⟨some 62, some (53, true), .r (.loadN 2), [.t 61]⟩,
⟨some 63, some (53, true), .call, [.t 54, .t 58, .t 62]⟩,
 zPg 64 (.bin .lss) [.t 63, .c (.int .i64 0)] 53 true,
 zP 65 .pick [.t 53, .t 64, .c (.bool false)]] [[], [], [], [], [], [], [], [], [], [], [], [], [], [], [], []])
(.cond (.t 65)
.skip
(.exit 4)))
(.block 5 (.ops [zM 66 12,
 zP 67 (.bin .sub) [.t 66, .c (.int .i64 1)],
 zM 12 67])))
def L_slices_partitionEqualCmpFunc_rank_one_0 : AC := (.block 1 (.seq (.block 2 (.loop L_slices_partitionEqualCmpFunc_rank_one_1))
(.seq (.block 4 (.loop L_slices_partitionEqualCmpFunc_rank_one_2))
(.seq (.seq (.ops [zM 68 11,
 zM 69 12,
 zP 70 (.bin .gtr) [.t 68, .t 69]])
(.cond (.t 70)
(.exit 0)
.skip))
(.seq (.dops [zM 71 0,
 zM 72 11,
 zM 73 0,
 zM 74 12,
 zM 75 0,
 zM 76 12,
 zP 77 (.iaddrS 2) [.t 75, .t 76],
⟨some 78, none, .r (.loadN 2), [.t 77]⟩,
 zM 79 0,
 zM 80 11,
 zP 81 (.iaddrS 2) [.t 79, .t 80],
⟨some 82, none, .r (.loadN 2), [.t 81]⟩,
 zP 83 (.iaddrS 2) [.t 71, .t 72],
 zS 2 [.t 83, .t 78],
 zP 84 (.iaddrS 2) [.t 73, .t 74],
 zS 2 [.t 84, .t 82]] [[], [], [], [], [], [], [], [], [], [], [], [], [], [], [], []])
(.seq (.ops [zM 85 11,
 zP 86 (.bin .add) [.t 85, .c (.int .i64 1)],
 zM 11 86])
(.ops [zM 87 12,
 zP 88 (.bin .sub) [.t 87, .c (.int .i64 1)],
 zM 12 88])))))))
def C186 : AFunc := ⟨90, [.tmp 10],
(.seq (.ops [zP 10 .mov [.c (.int .i64 0)]])
(.seq (.dops [zM 13 0,
 zM 14 1,
 zM 15 0,
 zM 16 3,
 zM 17 0,
 zM 18 3,
 zP 19 (.iaddrS 2) [.t 17, .t 18],
⟨some 20, none, .r (.loadN 2), [.t 19]⟩,
 zM 21 0,
 zM 22 1,
 zP 23 (.iaddrS 2) [.t 21, .t 22],
⟨some 24, none, .r (.loadN 2), [.t 23]⟩,
 zP 25 (.iaddrS 2) [.t 13, .t 14],
 zS 2 [.t 25, .t 20],
 zP 26 (.iaddrS 2) [.t 15, .t 16],
 zS 2 [.t 26, .t 24]] [[], [], [], [], [], [], [], [], [], [], [], [], [], [], [], []])
(.seq (.ops [zM 27 1,
 zP 28 (.bin .add) [.t 27, .c (.int .i64 1)],
 zM 29 2,
 zP 30 (.bin .sub) [.t 29, .c (.int .i64 1)],
 zM 11 28,
 zM 12 30])
(.seq (.block 0 (.loop L_slices_partitionEqualCmpFunc_rank_one_0))
(.seq (.ops [zM 89 11,
 zM 10 89])
.ret)))))⟩
abbrev f_slices_partitionEqualCmpFunc_rank_one : Nat := 186
abbrev C_slices_partitionEqualCmpFunc_rank_one : AFunc := C186
def L_slices_partitionCmpFunc_rank_one_0 : AC := (.seq (.seq (.dops [zM 32 12,
 zM 33 13,
 zP 34 (.bin .leq) [.t 32, .t 33],
 zM 35 34,
 zMg 36 4 35 true,
 zMg 37 0 35 true,
 zMg 38 12 35 true,
 zPg 39 (.iaddrS 2) [.t 37, .t 38] 35 true,
⟨some 40, some (35, true), .r (.loadN 2), [.t 39]⟩,
 zMg 41 0 35 true,
 zMg 42 1 35 true,
 zPg 43 (.iaddrS 2) [.t 41, .t 42] 35 true,
⟨some 44, some (35, true), .r (.loadN 2), [.t 43]⟩,
⟨some 45, some (35, true), .call, [.t 36, .t 40, .t 44]⟩,
 zPg 46 (.bin .lss) [.t 45, .c (.int .i64 0)] 35 true,
 zP 47 .pick [.t 35, .t 46, .c (.bool false)]] [[], [], [], [], [], [], [], [], [], [], [], [], [], [], [], []])
(.cond (.t 47)
.skip
(.exit 0)))
(.block 1 (.ops [zM 48 12,
 zP 49 (.bin .add) [.t 48, .c (.int .i64 1)],
 zM 12 49])))
def L_slices_partitionCmpFunc_rank_one_1 : AC := (.seq (.seq (.dops [zM 50 12,
 zM 51 13,
 zP 52 (.bin .leq) [.t 50, .t 51],
 zM 53 52,
 zMg 54 4 53 true,
 zMg 55 0 53 true,
 zMg 56 13 53 true,
 zPg 57 (.iaddrS 2) [.t 55, .t 56] 53 true,
⟨some 58, some (53, true), .r (.loadN 2), [.t 57]⟩,
 zMg 59 0 53 true,
 zMg 60 1 53 true,
 zPg 61 (.iaddrS 2) [.t 59, .t 60] 53 true,
⟨some 62, some (53, true), .r (.loadN 2), [.t 61]⟩,
⟨some 63, some (53, true), .call, [.t 54, .t 58, .t 62]⟩,
 zPg 64 (.bin .lss) [.t 63, .c (.int .i64 0)] 53 true,
 zPg 65 .not [.t 64] 53 true,
 zP 66 .pick [.t 53, .t 65, .c (.bool false)]] [[], [], [], [], [], [], [], [], [], [], [], [], [], [], [], [], []])
(.cond (.t 66)
.skip
(.exit 2)))
(.block 3 (.ops [zM 67 13,
 zP 68 (.bin .sub) [.t 67, .c (.int .i64 1)],
 zM 13 68])))
def L_slices_partitionCmpFunc_rank_one_3 : AC := (.seq (.seq (.dops [zM 105 12,
 zM 106 13,
 zP 107 (.bin .leq) [.t 105, .t 106],
 zM 108 107,
 zMg 109 4 108 true,
 zMg 110 0 108 true,
 zMg 111 12 108 true,
 zPg 112 (.iaddrS 2) [.t 110, .t 111] 108 true,
⟨some 113, some (108, true), .r (.loadN 2), [.t 112]⟩,
 zMg 114 0 108 true,
 zMg 115 1 108 true,
 zPg 116 (.iaddrS 2) [.t 114, .t 115] 108 true,
⟨some 117, some (108, true), .r (.loadN 2), [.t 116]⟩,
⟨some 118, some (108, true), .call, [.t 109, .t 113, .t 117]⟩,
 zPg 119 (.bin .lss) [.t 118, .c (.int .i64 0)] 108 true,
 zP 120 .pick [.t 108, .t 119, .c (.bool false)]] [[], [], [], [], [], [], [], [], [], [], [], [], [], [], [], []])
(.cond (.t 120)
.skip
(.exit 6)))
(.block 7 (.ops [zM 121 12,
 zP 122 (.bin .add) [.t 121, .c (.int .i64 1)],
 zM 12 122])))
def L_slices_partitionCmpFunc_rank_one_4 : AC := (.seq (.seq (.dops [zM 123 12,
 zM 124 13,
 zP 125 (.bin .leq) [.t 123, .t 124],
 zM 126 125,
 zMg 127 4 126 true,
 zMg 128 0 126 true,
 zMg 129 13 126 true,
 zPg 130 (.iaddrS 2) [.t 128, .t 129] 126 true,
⟨some 131, some (126, true), .r (.loadN 2), [.t 130]⟩,
 zMg 132 0 126 true,
 zMg 133 1 126 true,
 zPg 134 (.iaddrS 2) [.t 132, .t 133] 126 true,
⟨some 135, some (126, true), .r (.loadN 2), [.t 134]⟩,
⟨some 136, some (126, true), .call, [.t 127, .t 131, .t 135]⟩,
 zPg 137 (.bin .lss) [.t 136, .c (.int .i64 0)] 126 true,
 zPg 138 .not [.t 137] 126 true,
 zP 139 .pick [.t 126, .t 138, .c (.bool false)]] [[], [], [], [], [], [], [], [], [], [], [], [], [], [], [], [], []])
(.cond (.t 139)
.skip
(.exit 8)))
(.block 9 (.ops [zM 140 13,
 zP 141 (.bin .sub) [.t 140, .c (.int .i64 1)],
 zM 13 141])))
def L_slices_partitionCmpFunc_rank_one_2 : AC := (.block 5 (.seq (.block 6 (.loop L_slices_partitionCmpFunc_rank_one_3))
(.seq (.block 8 (.loop L_slices_partitionCmpFunc_rank_one_4))
(.seq (.seq (.ops [zM 142 12,
 zM 143 13,
 zP 144 (.bin .gtr) [.t 142, .t 143]])
(.cond (.t 144)
(.exit 4)
.skip))
(.seq (.dops [zM 145 0,
 zM 146 12,
 zM 147 0,
 zM 148 13,
 zM 149 0,
 zM 150 13,
 zP 151 (.iaddrS 2) [.t 149, .t 150],
⟨some 152, none, .r (.loadN 2), [.t 151]⟩,
 zM 153 0,
 zM 154 12,
 zP 155 (.iaddrS 2) [.t 153, .t 154],
⟨some 156, none, .r (.loadN 2), [.t 155]⟩,
 zP 157 (.iaddrS 2) [.t 145, .t 146],
 zS 2 [.t 157, .t 152],
 zP 158 (.iaddrS 2) [.t 147, .t 148],
 zS 2 [.t 158, .t 156]] [[], [], [], [], [], [], [], [], [], [], [], [], [], [], [], []])
(.seq (.ops [zM 159 12,
 zP 160 (.bin .add) [.t 159, .c (.int .i64 1)],
 zM 12 160])
(.ops [zM 161 13,
 zP 162 (.bin .sub) [.t 161, .c (.int .i64 1)],
 zM 13 162])))))))
def C187 : AFunc := ⟨178, [.tmp 10, .tmp 11],
(.seq (.ops [zP 10 .mov [.c (.int .i64 0)],
 zP 11 .mov [.c (.bool false)]])
(.seq (.dops [zM 14 0,
 zM 15 1,
 zM 16 0,
 zM 17 3,
 zM 18 0,
 zM 19 3,
 zP 20 (.iaddrS 2) [.t 18, .t 19],
⟨some 21, none, .r (.loadN 2), [.t 20]⟩,
 zM 22 0,
 zM 23 1,
 zP 24 (.iaddrS 2) [.t 22, .t 23],
⟨some 25, none, .r (.loadN 2), [.t 24]⟩,
 zP 26 (.iaddrS 2) [.t 14, .t 15],
 zS 2 [.t 26, .t 21],
 zP 27 (.iaddrS 2) [.t 16, .t 17],
 zS 2 [.t 27, .t 25]] [[], [], [], [], [], [], [], [], [], [], [], [], [], [], [], []])
(.seq (.ops [zM 28 1,
 zP 29 (.bin .add) [.t 28, .c (.int .i64 1)],
 zM 30 2,
 zP 31 (.bin .sub) [.t 30, .c (.int .i64 1)],
 zM 12 29,
 zM 13 31])
(.seq (.block 0 (.loop L_slices_partitionCmpFunc_rank_one_0))
(.seq (.block 2 (.loop L_slices_partitionCmpFunc_rank_one_1))
(.seq (.seq (.ops [zM 69 12,
 zM 70 13,
 zP 71 (.bin .gtr) [.t 69, .t 70]])
(.cond (.t 71)
(.seq (.dops [zM 72 0,
 zM 73 13,
 zM 74 0,
 zM 75 1,
 zM 76 0,
 zM 77 1,
 zP 78 (.iaddrS 2) [.t 76, .t 77],
⟨some 79, none, .r (.loadN 2), [.t 78]⟩,
 zM 80 0,
 zM 81 13,
 zP 82 (.iaddrS 2) [.t 80, .t 81],
⟨some 83, none, .r (.loadN 2), [.t 82]⟩,
 zP 84 (.iaddrS 2) [.t 72, .t 73],
 zS 2 [.t 84, .t 79],
 zP 85 (.iaddrS 2) [.t 74, .t 75],
 zS 2 [.t 85, .t 83]] [[], [], [], [], [], [], [], [], [], [], [], [], [], [], [], []])
(.seq (.ops [zM 86 13,
 zM 10 86,
 zP 11 .mov [.c (.bool true)]])
.ret))
.skip))
(.seq (.dops [zM 87 0,
 zM 88 12,
 zM 89 0,
 zM 90 13,
 zM 91 0,
 zM 92 13,
 zP 93 (.iaddrS 2) [.t 91, .t 92],
⟨some 94, none, .r (.loadN 2), [.t 93]⟩,
 zM 95 0,
 zM 96 12,
 zP 97 (.iaddrS 2) [.t 95, .t 96],
⟨some 98, none, .r (.loadN 2), [.t 97]⟩,
 zP 99 (.iaddrS 2) [.t 87, .t 88],
 zS 2 [.t 99, .t 94],
 zP 100 (.iaddrS 2) [.t 89, .t 90],
 zS 2 [.t 100, .t 98]] [[], [], [], [], [], [], [], [], [], [], [], [], [], [], [], []])
(.seq (.ops [zM 101 12,
 zP 102 (.bin .add) [.t 101, .c (.int .i64 1)],
 zM 12 102])
(.seq (.ops [zM 103 13,
 zP 104 (.bin .sub) [.t 103, .c (.int .i64 1)],
 zM 13 104])
(.seq (.block 4 (.loop L_slices_partitionCmpFunc_rank_one_2))
(.seq (.dops [zM 163 0,
 zM 164 13,
 zM 165 0,
 zM 166 1,
 zM 167 0,
 zM 168 1,
 zP 169 (.iaddrS 2) [.t 167, .t 168],
⟨some 170, none, .r (.loadN 2), [.t 169]⟩,
 zM 171 0,
 zM 172 13,
 zP 173 (.iaddrS 2) [.t 171, .t 172],
⟨some 174, none, .r (.loadN 2), [.t 173]⟩,
 zP 175 (.iaddrS 2) [.t 163, .t 164],
 zS 2 [.t 175, .t 170],
 zP 176 (.iaddrS 2) [.t 165, .t 166],
 zS 2 [.t 176, .t 174]] [[], [], [], [], [], [], [], [], [], [], [], [], [], [], [], []])
(.seq (.ops [zM 177 13,
 zM 10 177,
 zP 11 .mov [.c (.bool false)]])
.ret))))))))))))⟩
abbrev f_slices_partitionCmpFunc_rank_one : Nat := 187
abbrev C_slices_partitionCmpFunc_rank_one : AFunc := C187
def C188 : AFunc := ⟨19, [.tmp 2],
(.seq (.ops [zP 2 .mov [.c (.int .i64 0)]])
(.seq (.seq (.ops [zM 3 0,
 zP 4 (.bin .geq) [.t 3, .c (.int .u32 65536)]])
(.cond (.t 4)
(.seq (.ops [zM 5 0,
 zP 6 (.bin .shr) [.t 5, .c (.int .u64 16)],
 zM 0 6])
(.ops [zP 2 .mov [.c (.int .i64 16)]]))
.skip))
(.seq (.seq (.ops [zM 7 0,
 zP 8 (.bin .geq) [.t 7, .c (.int .u32 256)]])
(.cond (.t 8)
(.seq (.ops [zM 9 0,
 zP 10 (.bin .shr) [.t 9, .c (.int .u64 8)],
 zM 0 10])
(.ops [zM 11 2,
 zP 12 (.bin .add) [.t 11, .c (.int .i64 8)],
 zM 2 12]))
.skip))
(.seq (.ops [zM 13 2,
 zM 14 0,
 zP 15 (.conv .u8) [.t 14],
 zP 16 .idxS [.c (.str [0, 1, 2, 2, 3, 3, 3, 3, 4, 4, 4, 4, 4, 4, 4, 4, 5, 5, 5, 5, 5, 5, 5, 5, 5, 5, 5, 5, 5, 5, 5, 5, 6, 6, 6, 6, 6, 6, 6, 6, 6, 6, 6, 6, 6, 6, 6, 6, 6, 6, 6, 6, 6, 6, 6, 6, 6, 6, 6, 6, 6, 6, 6, 6, 7, 7, 7, 7, 7, 7, 7, 7, 7, 7, 7, 7, 7, 7, 7, 7, 7, 7, 7, 7, 7, 7, 7, 7, 7, 7, 7, 7, 7, 7, 7, 7, 7, 7, 7, 7, 7, 7, 7, 7, 7, 7, 7, 7, 7, 7, 7, 7, 7, 7, 7, 7, 7, 7, 7, 7, 7, 7, 7, 7, 7, 7, 7, 7, 8, 8, 8, 8, 8, 8, 8, 8, 8, 8, 8, 8, 8, 8, 8, 8, 8, 8, 8, 8, 8, 8, 8, 8, 8, 8, 8, 8, 8, 8, 8, 8, 8, 8, 8, 8, 8, 8, 8, 8, 8, 8, 8, 8, 8, 8, 8, 8, 8, 8, 8, 8, 8, 8, 8, 8, 8, 8, 8, 8, 8, 8, 8, 8, 8, 8, 8, 8, 8, 8, 8, 8, 8, 8, 8, 8, 8, 8, 8, 8, 8, 8, 8, 8, 8, 8, 8, 8, 8, 8, 8, 8, 8, 8, 8, 8, 8, 8, 8, 8, 8, 8, 8, 8, 8, 8, 8, 8, 8, 8, 8, 8, 8, 8, 8, 8, 8, 8, 8, 8, 8, 8, 8, 8, 8, 8, 8, 8]), .t 15],
 zP 17 (.conv .i64) [.t 16],
 zP 18 (.bin .add) [.t 13, .t 17],
 zM 2 18])
.ret))))⟩
abbrev f_math_bits_Len32 : Nat := 188
abbrev C_math_bits_Len32 : AFunc := C188
def C189 : AFunc := ⟨25, [.tmp 2],
(.seq (.ops [zP 2 .mov [.c (.int .i64 0)]])
(.seq (.seq (.ops [zM 3 0,
 zP 4 (.bin .geq) [.t 3, .c (.int .u64 4294967296)]])
(.cond (.t 4)
(.seq (.ops [zM 5 0,
 zP 6 (.bin .shr) [.t 5, .c (.int .u64 32)],
 zM 0 6])
(.ops [zP 2 .mov [.c (.int .i64 32)]]))
.skip))
(.seq (.seq (.ops [zM 7 0,
 zP 8 (.bin .geq) [.t 7, .c (.int .u64 65536)]])
(.cond (.t 8)
(.seq (.ops [zM 9 0,
 zP 10 (.bin .shr) [.t 9, .c (.int .u64 16)],
 zM 0 10])
(.ops [zM 11 2,
 zP 12 (.bin .add) [.t 11, .c (.int .i64 16)],
 zM 2 12]))
.skip))
(.seq (.seq (.ops [zM 13 0,
 zP 14 (.bin .geq) [.t 13, .c (.int .u64 256)]])
(.cond (.t 14)
(.seq (.ops [zM 15 0,
 zP 16 (.bin .shr) [.t 15, .c (.int .u64 8)],
 zM 0 16])
(.ops [zM 17 2,
 zP 18 (.bin .add) [.t 17, .c (.int .i64 8)],
 zM 2 18]))
.skip))
(.seq (.ops [zM 19 2,
 zM 20 0,
 zP 21 (.conv .u8) [.t 20],
 zP 22 .idxS [.c (.str [0, 1, 2, 2, 3, 3, 3, 3, 4, 4, 4, 4, 4, 4, 4, 4, 5, 5, 5, 5, 5, 5, 5, 5, 5, 5, 5, 5, 5, 5, 5, 5, 6, 6, 6, 6, 6, 6, 6, 6, 6, 6, 6, 6, 6, 6, 6, 6, 6, 6, 6, 6, 6, 6, 6, 6, 6, 6, 6, 6, 6, 6, 6, 6, 7, 7, 7, 7, 7, 7, 7, 7, 7, 7, 7, 7, 7, 7, 7, 7, 7, 7, 7, 7, 7, 7, 7, 7, 7, 7, 7, 7, 7, 7, 7, 7, 7, 7, 7, 7, 7, 7, 7, 7, 7, 7, 7, 7, 7, 7, 7, 7, 7, 7, 7, 7, 7, 7, 7, 7, 7, 7, 7, 7, 7, 7, 7, 7, 8, 8, 8, 8, 8, 8, 8, 8, 8, 8, 8, 8, 8, 8, 8, 8, 8, 8, 8, 8, 8, 8, 8, 8, 8, 8, 8, 8, 8, 8, 8, 8, 8, 8, 8, 8, 8, 8, 8, 8, 8, 8, 8, 8, 8, 8, 8, 8, 8, 8, 8, 8, 8, 8, 8, 8, 8, 8, 8, 8, 8, 8, 8, 8, 8, 8, 8, 8, 8, 8, 8, 8, 8, 8, 8, 8, 8, 8, 8, 8, 8, 8, 8, 8, 8, 8, 8, 8, 8, 8, 8, 8, 8, 8, 8, 8, 8, 8, 8, 8, 8, 8, 8, 8, 8, 8, 8, 8, 8, 8, 8, 8, 8, 8, 8, 8, 8, 8, 8, 8, 8, 8, 8, 8, 8, 8, 8, 8]), .t 21],
 zP 23 (.conv .i64) [.t 22],
 zP 24 (.bin .add) [.t 19, .t 23],
 zM 2 24])
.ret)))))⟩
abbrev f_math_bits_Len64 : Nat := 189
abbrev C_math_bits_Len64 : AFunc := C189
end Ir
end Go.Proofs.YtglmcmjionhikaaGreat
