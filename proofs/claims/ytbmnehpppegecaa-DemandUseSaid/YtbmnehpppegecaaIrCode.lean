/-
  What the program's functions are in Ads, printed by a program.
-/
import Derived.Test.YtbmnehpppegecaaAdsDef
set_option linter.unusedVariables false
set_option maxRecDepth 100000
namespace Go.Proofs.Ytbmnehpppegecaa
open Go Ads
namespace Ir
abbrev zM (d s : Nat) : Ins := ⟨some d, none, .p .mov, [.t s]⟩
abbrev zF (d s o : Nat) : Ins := ⟨some d, none, .p (.faddr o), [.t s]⟩
abbrev zN (d s : Nat) : Ins := ⟨some d, none, .p .nilchk, [.t s]⟩
abbrev zL (d s : Nat) : Ins := ⟨some d, none, .r .load1, [.t s]⟩
abbrev zMg (d s g : Nat) (b : Bool) : Ins := ⟨some d, some (g, b), .p .mov, [.t s]⟩
abbrev zFg (d s o g : Nat) (b : Bool) : Ins := ⟨some d, some (g, b), .p (.faddr o), [.t s]⟩
abbrev zNg (d s g : Nat) (b : Bool) : Ins := ⟨some d, some (g, b), .p .nilchk, [.t s]⟩
abbrev zLg (d s g : Nat) (b : Bool) : Ins := ⟨some d, some (g, b), .r .load1, [.t s]⟩
abbrev zP (d : Nat) (o : POp) (l : List Rand) : Ins := ⟨some d, none, .p o, l⟩
abbrev zPg (d : Nat) (o : POp) (l : List Rand) (g : Nat) (b : Bool) : Ins := ⟨some d, some (g, b), .p o, l⟩
abbrev zS (n : Nat) (l : List Rand) : Ins := ⟨none, none, .e (.store n), l⟩
abbrev zz : AV := .int .i64 0
abbrev zI (n : Int) : Rand := .c (.int .i64 n)
abbrev zC (d f : Nat) (l : List Rand) : Ins := ⟨some d, none, .call, .c (.func (.func f) [] []) :: l⟩
abbrev zCg (d f : Nat) (l : List Rand) (g : Nat) (b : Bool) : Ins := ⟨some d, some (g, b), .call, .c (.func (.func f) [] []) :: l⟩
abbrev zC0 (d f : Nat) : Ins := ⟨some d, none, .call, [.c (.func (.func f) [] [])]⟩
abbrev zC1 (d f v : Nat) : Ins := ⟨some d, none, .call, [.c (.func (.func f) [] []), .t v]⟩
abbrev zC2 (d f v w : Nat) : Ins := ⟨some d, none, .call, [.c (.func (.func f) [] []), .t v, .t w]⟩
abbrev zC3 (d f v w x : Nat) : Ins := ⟨some d, none, .call, [.c (.func (.func f) [] []), .t v, .t w, .t x]⟩
abbrev zC4 (d f v w x y : Nat) : Ins := ⟨some d, none, .call, [.c (.func (.func f) [] []), .t v, .t w, .t x, .t y]⟩
abbrev zC5 (d f v w x y z : Nat) : Ins := ⟨some d, none, .call, [.c (.func (.func f) [] []), .t v, .t w, .t x, .t y, .t z]⟩
abbrev zQ (d : Nat) (o : POp) (a : Nat) : Ins := ⟨some d, none, .p o, [.t a]⟩
abbrev zR (d : Nat) (o : POp) (a b : Nat) : Ins := ⟨some d, none, .p o, [.t a, .t b]⟩
abbrev zO (d n s : Nat) : Ins := ⟨some d, none, .r (.loadN n), [.t s]⟩
abbrev zV (d : Nat) (n : Int) : Ins := ⟨some d, none, .p .mov, [.c (.int .i64 n)]⟩
abbrev zK (d : Nat) (v : AV) : Ins := ⟨some d, none, .p .mov, [.c v]⟩
abbrev zB (d s : Nat) : Ins := ⟨some d, none, .a .box, [.t s]⟩
abbrev zA (d n b x y : Nat) : Ins := ⟨some d, none, .e (.append n b), [.t x, .t y]⟩
def C3 : AFunc := ⟨69, [.tmp 6],
 (.seq (.ops [zK 6 (.bool false)])
 (.seq (.ops [zM 16 0,
 zM 17 1,
 zM 18 2,
 zC3 19 13 16 17 18,
 zM 15 19,
 zQ 20 (.ext 0) 15,
 zQ 21 (.ext 1) 15,
 zM 7 20,
 zM 8 21])
 (.seq (.ops [zM 23 0,
 zM 24 1,
 zM 25 2,
 zC3 26 14 23 24 25,
 zM 22 26,
 zQ 27 (.ext 0) 22,
 zQ 28 (.ext 1) 22,
 zM 9 27,
 zM 10 28])
 (.seq (.ops [zM 30 0,
 zM 31 1,
 zC2 32 15 30 31,
 zM 29 32,
 zQ 33 (.ext 0) 29,
 zQ 34 (.ext 1) 29,
 zM 11 33,
 zM 12 34])
 (.seq (.ops [zM 36 0,
 zM 37 1,
 zC2 38 16 36 37,
 zM 35 38,
 zQ 39 (.ext 0) 35,
 zQ 40 (.ext 1) 35,
 zM 13 39,
 zM 14 40])
 (.seq (.ops [zM 41 0,
 zC1 42 17 41,
 zM 43 0,
 zC1 44 18 43,
 zR 45 (.bin .eql) 42 44,
 zM 46 45,
 zMg 47 7 46 true,
 zMg 48 9 46 true,
 zPg 49 (.bin .eql) [.t 47, .t 48] 46 true,
 zP 50 .pick [.t 46, .t 49, .c (.bool false)],
 zM 51 50,
 zMg 52 8 51 true,
 zMg 53 10 51 true,
 zPg 54 (.bin .eql) [.t 52, .t 53] 51 true,
 zP 55 .pick [.t 51, .t 54, .c (.bool false)],
 zM 56 55,
 zMg 57 11 56 true,
 zMg 58 13 56 true,
 zCg 59 19 [.t 57, .t 58] 56 true,
 zP 60 .pick [.t 56, .t 59, .c (.bool false)],
 zM 61 60,
 zMg 62 12 61 true,
 zMg 63 14 61 true,
 zPg 64 (.bin .eql) [.t 62, .t 63] 61 true,
 zP 65 .pick [.t 61, .t 64, .c (.bool false)],
 zM 66 65,
 ⟨some 67, some (66, true), .call, [.c (.func (.func 20) [] [])]⟩,
 zP 68 .pick [.t 66, .t 67, .c (.bool false)],
 zM 6 68])
 .ret))))))⟩
abbrev f_escapementlaw09_DelayWaits : Nat := 3
abbrev C_escapementlaw09_DelayWaits : AFunc := C3
def C4 : AFunc := ⟨36, [.tmp 6],
 (.seq (.ops [zK 6 (.bool false)])
 (.seq (.ops [zM 12 0,
 zM 13 1,
 zM 14 2,
 zC3 15 21 12 13 14,
 zM 11 15,
 zQ 16 (.ext 0) 11,
 zQ 17 (.ext 1) 11,
 zM 7 16,
 zM 8 17])
 (.seq (.ops [zM 19 0,
 zM 20 1,
 zM 21 2,
 zC3 22 22 19 20 21,
 zM 18 22,
 zQ 23 (.ext 0) 18,
 zQ 24 (.ext 1) 18,
 zM 9 23,
 zM 10 24])
 (.seq (.ops [zM 25 7,
 zM 26 9,
 zR 27 (.bin .eql) 25 26,
 zM 28 27,
 zMg 29 8 28 true,
 zMg 30 10 28 true,
 zPg 31 (.bin .eql) [.t 29, .t 30] 28 true,
 zP 32 .pick [.t 28, .t 31, .c (.bool false)],
 zM 33 32,
 ⟨some 34, some (33, true), .call, [.c (.func (.func 20) [] [])]⟩,
 zP 35 .pick [.t 33, .t 34, .c (.bool false)],
 zM 6 35])
 .ret))))⟩
abbrev f_escapementlaw09_DelayOf : Nat := 4
abbrev C_escapementlaw09_DelayOf : AFunc := C4
def L_escapementlaw09_DelayGrows_2 : AC := (.seq (.seq (.ops [zM 59 12,
 zM 60 7,
 zP 61 (.iaddrS 3) [.t 60, zI 0],
 zF 62 61 2,
 zL 63 62,
 zQ 64 .lenS 63,
 zR 65 (.bin .lss) 59 64])
 (.cond (.t 65)
 .skip
 (.exit 4)))
 (.seq (.block 5 (.dops [zM 68 10,
 zM 69 68,
 zMg 70 0 69 false,
 zMg 71 9 69 false,
 zPg 72 (.iaddrS 3) [.t 70, .t 71] 69 false,
 zFg 73 72 2 69 false,
 zLg 74 73 69 false,
 zMg 75 11 69 false,
 zPg 76 (.iaddrS 8) [.t 74, .t 75] 69 false,
 zFg 77 76 5 69 false,
 zLg 78 77 69 false,
 zPg 79 (.bin .gtr) [.t 78, zI 0] 69 false,
 zMg 80 79 69 false,
 zMg 81 0 80 true,
 zMg 82 9 80 true,
 zPg 83 (.iaddrS 3) [.t 81, .t 82] 80 true,
 zFg 84 83 2 80 true,
 zLg 85 84 80 true,
 zMg 86 11 80 true,
 zPg 87 (.iaddrS 8) [.t 85, .t 86] 80 true,
 zFg 88 87 5 80 true,
 zLg 89 88 80 true,
 zMg 90 7 80 true,
 zPg 91 (.iaddrS 3) [.t 90, zI 0] 80 true,
 zFg 92 91 2 80 true,
 zLg 93 92 80 true,
 zMg 94 12 80 true,
 zPg 95 (.iaddrS 8) [.t 93, .t 94] 80 true,
 zFg 96 95 5 80 true,
 zLg 97 96 80 true,
 zPg 98 (.bin .eql) [.t 89, .t 97] 80 true,
 zPg 99 .pick [.t 80, .t 98, .c (.bool false)] 69 false,
 zP 100 .pick [.t 69, .c (.bool true), .t 99],
 zM 10 100] [[], [], [], [], [], [], [], [], [], [], [], [], [], [], [], [], [], [], [], [], [], [], [], [], [], [], [], [], [], [], [], [], [], []]))
 (.ops [zM 66 12,
 zP 67 (.bin .add) [.t 66, zI 1],
 zM 12 67])))
def L_escapementlaw09_DelayGrows_1 : AC := (.seq (.seq (.ops [zM 49 11,
 zM 50 0,
 zM 51 9,
 zR 52 (.iaddrS 3) 50 51,
 zF 53 52 2,
 zL 54 53,
 zQ 55 .lenS 54,
 zR 56 (.bin .lss) 49 55])
 (.cond (.t 56)
 .skip
 (.exit 2)))
 (.seq (.block 3 (.seq (.ops [zV 12 0])
 (.block 4 (.loop L_escapementlaw09_DelayGrows_2))))
 (.ops [zM 57 11,
 zP 58 (.bin .add) [.t 57, zI 1],
 zM 11 58])))
def L_escapementlaw09_DelayGrows_3 : AC := (.seq (.seq (.ops [zM 179 21,
 zM 180 13,
 zQ 181 .lenS 180,
 zR 182 (.bin .lss) 179 181])
 (.cond (.t 182)
 .skip
 (.exit 6)))
 (.seq (.block 7 (.seq (.ops [zM 186 0,
 zM 187 9,
 zM 188 21,
 zC3 189 13 186 187 188,
 zM 185 189,
 zQ 190 (.ext 0) 185,
 zQ 191 (.ext 1) 185,
 zM 22 190,
 zM 23 191])
 (.seq (.ops [zM 193 8,
 zM 194 9,
 zM 195 21,
 zC3 196 13 193 194 195,
 zM 192 196,
 zQ 197 (.ext 0) 192,
 zQ 198 (.ext 1) 192,
 zM 24 197,
 zM 25 198])
 (.seq (.dops [zM 199 23,
 zP 200 (.bin .neq) [.t 199, zI 0],
 zM 201 200,
 zMg 202 25 201 false,
 zPg 203 (.bin .neq) [.t 202, zI 0] 201 false,
 zP 204 .pick [.t 201, .c (.bool true), .t 203],
 zM 205 204,
 zMg 206 24 205 false,
 zMg 207 22 205 false,
 zPg 208 (.bin .lss) [.t 206, .t 207] 205 false,
 zP 209 .pick [.t 205, .c (.bool true), .t 208],
 zM 210 209,
 zMg 211 15 210 false,
 zMg 212 21 210 false,
 zPg 213 (.iaddrS 1) [.t 211, .t 212] 210 false,
 zLg 214 213 210 false,
 zMg 215 13 210 false,
 zMg 216 21 210 false,
 zPg 217 (.iaddrS 1) [.t 215, .t 216] 210 false,
 zLg 218 217 210 false,
 zPg 219 (.bin .lss) [.t 214, .t 218] 210 false,
 zP 220 .pick [.t 210, .c (.bool true), .t 219],
 zM 221 220,
 zMg 222 0 221 false,
 zMg 223 9 221 false,
 zPg 224 (.iaddrS 3) [.t 222, .t 223] 221 false,
 zFg 225 224 2 221 false,
 zLg 226 225 221 false,
 zMg 227 21 221 false,
 zPg 228 (.iaddrS 8) [.t 226, .t 227] 221 false,
 zFg 229 228 5 221 false,
 zLg 230 229 221 false,
 zPg 231 (.bin .gtr) [.t 230, zI 0] 221 false,
 zMg 232 231 221 false,
 zMg 233 10 232 true,
 zPg 234 .pick [.t 232, .t 233, .c (.bool false)] 221 false,
 zMg 235 234 221 false,
 zMg 236 7 235 true,
 zPg 237 (.iaddrS 3) [.t 236, zI 0] 235 true,
 zFg 238 237 0 235 true,
 zLg 239 238 235 true,
 zPg 240 (.bin .gtr) [.t 239, zI 0] 235 true,
 zPg 241 .pick [.t 235, .t 240, .c (.bool false)] 221 false,
 zMg 242 241 221 false,
 zMg 243 24 242 true,
 zMg 244 22 242 true,
 zMg 245 7 242 true,
 zPg 246 (.iaddrS 3) [.t 245, zI 0] 242 true,
 zFg 247 246 0 242 true,
 zLg 248 247 242 true,
 zPg 249 (.bin .mul) [zI 2, .t 248] 242 true,
 zPg 250 (.bin .add) [.t 244, .t 249] 242 true,
 zPg 251 (.bin .gtr) [.t 243, .t 250] 242 true,
 zPg 252 .pick [.t 242, .t 251, .c (.bool false)] 221 false,
 zP 253 .pick [.t 221, .c (.bool true), .t 252]] [[], [], [], [], [], [], [], [], [], [], [], [], [], [], [], [], [], [], [], [], [], [], [], [], [], [], [], [], [], [], [], [], [], [], [], [], [], [], [], [], [], [], [], [], [], [], [], [], [], [], [], [], [], [], []])
 (.cond (.t 253)
 (.seq (.ops [zK 6 (.bool false)])
 .ret)
 .skip)))))
 (.ops [zM 183 21,
 zP 184 (.bin .add) [.t 183, zI 1],
 zM 21 184])))
def L_escapementlaw09_DelayGrows_0 : AC := (.seq (.seq (.ops [zM 43 9,
 zM 44 0,
 zQ 45 .lenS 44,
 zR 46 (.bin .lss) 43 45])
 (.cond (.t 46)
 .skip
 (.exit 0)))
 (.seq (.block 1 (.seq (.ops [zK 10 (.bool false)])
 (.seq (.seq (.ops [zV 11 0])
 (.block 2 (.loop L_escapementlaw09_DelayGrows_1)))
 (.seq (.ops [zM 102 0,
 zM 103 9,
 zC2 104 15 102 103,
 zM 101 104,
 zQ 105 (.ext 0) 101,
 zQ 106 (.ext 1) 101,
 zM 13 105,
 zM 14 106])
 (.seq (.ops [zM 108 8,
 zM 109 9,
 zC2 110 15 108 109,
 zM 107 110,
 zQ 111 (.ext 0) 107,
 zQ 112 (.ext 1) 107,
 zM 15 111,
 zM 16 112])
 (.seq (.ops [zM 114 0,
 zM 115 9,
 zM 116 2,
 zC3 117 21 114 115 116,
 zM 113 117,
 zQ 118 (.ext 0) 113,
 zQ 119 (.ext 1) 113,
 zM 17 118,
 zM 18 119])
 (.seq (.ops [zM 121 8,
 zM 122 9,
 zM 123 2,
 zC3 124 21 121 122 123,
 zM 120 124,
 zQ 125 (.ext 0) 120,
 zQ 126 (.ext 1) 120,
 zM 19 125,
 zM 20 126])
 (.seq (.seq (.ops [zM 127 14,
 zP 128 (.bin .neq) [.t 127, zI 0],
 zM 129 128,
 zMg 130 16 129 false,
 zPg 131 (.bin .neq) [.t 130, zI 0] 129 false,
 zP 132 .pick [.t 129, .c (.bool true), .t 131],
 zM 133 132,
 zMg 134 18 133 false,
 zPg 135 (.bin .neq) [.t 134, zI 0] 133 false,
 zP 136 .pick [.t 133, .c (.bool true), .t 135],
 zM 137 136,
 zMg 138 20 137 false,
 zPg 139 (.bin .neq) [.t 138, zI 0] 137 false,
 zP 140 .pick [.t 137, .c (.bool true), .t 139],
 zM 141 140,
 zMg 142 13 141 false,
 zPg 143 .lenS [.t 142] 141 false,
 zMg 144 15 141 false,
 zPg 145 .lenS [.t 144] 141 false,
 zPg 146 (.bin .neq) [.t 143, .t 145] 141 false,
 zP 147 .pick [.t 141, .c (.bool true), .t 146],
 zM 148 147,
 zMg 149 13 148 false,
 zPg 150 .lenS [.t 149] 148 false,
 zMg 151 0 148 false,
 zMg 152 9 148 false,
 zPg 153 (.iaddrS 3) [.t 151, .t 152] 148 false,
 zFg 154 153 2 148 false,
 zLg 155 154 148 false,
 zPg 156 .lenS [.t 155] 148 false,
 zPg 157 (.bin .neq) [.t 150, .t 156] 148 false,
 zP 158 .pick [.t 148, .c (.bool true), .t 157],
 zM 159 158,
 zMg 160 19 159 false,
 zMg 161 17 159 false,
 zPg 162 (.bin .lss) [.t 160, .t 161] 159 false,
 zP 163 .pick [.t 159, .c (.bool true), .t 162],
 zM 164 163,
 zMg 165 10 164 false,
 zPg 166 .not [.t 165] 164 false,
 zMg 167 166 164 false,
 zMg 168 17 167 true,
 zMg 169 19 167 true,
 zPg 170 (.bin .neq) [.t 168, .t 169] 167 true,
 zMg 171 170 167 true,
 zMg 172 13 171 false,
 zMg 173 15 171 false,
 zCg 174 19 [.t 172, .t 173] 171 false,
 zPg 175 .not [.t 174] 171 false,
 zPg 176 .pick [.t 171, .c (.bool true), .t 175] 167 true,
 zPg 177 .pick [.t 167, .t 176, .c (.bool false)] 164 false,
 zP 178 .pick [.t 164, .c (.bool true), .t 177]])
 (.cond (.t 178)
 (.seq (.ops [zK 6 (.bool false)])
 .ret)
 .skip))
 (.seq (.ops [zV 21 0])
 (.block 6 (.loop L_escapementlaw09_DelayGrows_3)))))))))))
 (.ops [zM 47 9,
 zP 48 (.bin .add) [.t 47, zI 1],
 zM 9 48])))
def C5 : AFunc := ⟨254, [.tmp 6],
 (.seq (.ops [zB 4 1,
 zK 6 (.bool false)])
 (.seq (.seq (.ops [zC0 26 20,
 zQ 27 .not 26])
 (.cond (.t 27)
 (.seq (.ops [zK 6 (.bool false)])
 .ret)
 .skip))
 (.seq (.ops [zM 28 0,
 zC 29 23 [.t 28, zI 3],
 zM 0 29])
 (.seq (.ops [zO 30 3 4,
 ⟨some 31, none, .a (.bslice [zz, zz, .nils] 1 3 [0]), [.t 30]⟩,
 zC 32 23 [.t 31, zI 1],
 zM 7 32])
 (.seq (.seq (.ops [zM 33 7,
 zQ 34 .lenS 33,
 zP 35 (.bin .neq) [.t 34, zI 1]])
 (.cond (.t 35)
 (.seq (.ops [zK 6 (.bool false)])
 .ret)
 .skip))
 (.seq (.ops [zM 36 2,
 zC 37 24 [.t 36, zI 70],
 zM 2 37])
 (.seq (.ops [⟨some 38, none, .a (.bslice [zz, zz, .nils] 0 3 []), []⟩,
 zM 39 0,
 zA 40 3 40 38 39,
 zM 41 7,
 zA 42 3 40 40 41,
 zM 8 42])
 (.seq (.seq (.ops [zV 9 0])
 (.block 0 (.loop L_escapementlaw09_DelayGrows_0)))
 (.seq (.ops [zK 6 (.bool true)])
 .ret)))))))))⟩
abbrev f_escapementlaw09_DelayGrows : Nat := 5
abbrev C_escapementlaw09_DelayGrows : AFunc := C5
def L_escapementlaw09_DelayFalls_1 : AC := (.seq (.seq (.ops [zM 71 14,
 zM 72 0,
 zM 73 7,
 zR 74 (.iaddrS 3) 72 73,
 zF 75 74 2,
 zL 76 75,
 zQ 77 .lenS 76,
 zR 78 (.bin .lss) 71 77])
 (.cond (.t 78)
 .skip
 (.exit 2)))
 (.seq (.block 3 (.seq (.ops [zM 81 0,
 zM 82 7,
 zR 83 (.iaddrS 3) 81 82,
 zF 84 83 2,
 zL 85 84,
 zM 86 14,
 zR 87 (.iaddrS 8) 85 86,
 zO 88 8 87,
 ⟨some 15, none, .a (.alloc [zz, zz, zz, zz, zz, zz, zz, zz]), []⟩,
 zS 8 [.t 15, .t 88]])
 (.seq (.ops [zF 89 15 1,
 zL 90 89,
 zM 91 1,
 zM 92 2,
 zR 93 .mx 91 92,
 zR 94 (.bin .gtr) 90 93,
 zM 95 94,
 zMg 96 10 95 true,
 zFg 97 15 4 95 true,
 zLg 98 97 95 true,
 zPg 99 (.bin .lss) [.t 96, .t 98] 95 true,
 zMg 100 99 95 true,
 zMg 101 10 100 false,
 zFg 102 15 6 100 false,
 zLg 103 102 100 false,
 zPg 104 (.bin .lss) [.t 101, .t 103] 100 false,
 zPg 105 .pick [.t 100, .c (.bool true), .t 104] 95 true,
 zP 106 .pick [.t 95, .t 105, .c (.bool false)]])
 (.cond (.t 106)
 (.seq (.ops [zK 6 (.bool false)])
 .ret)
 .skip))))
 (.ops [zM 79 14,
 zP 80 (.bin .add) [.t 79, zI 1],
 zM 14 80])))
def L_escapementlaw09_DelayFalls_0 : AC := (.seq (.seq (.ops [zM 22 7,
 zM 23 0,
 zQ 24 .lenS 23,
 zR 25 (.bin .lss) 22 24])
 (.cond (.t 25)
 .skip
 (.exit 0)))
 (.seq (.block 1 (.seq (.ops [zM 29 0,
 zM 30 7,
 zM 31 1,
 zM 32 2,
 zR 33 .mn 31 32,
 zC3 34 21 29 30 33,
 zM 28 34,
 zQ 35 (.ext 0) 28,
 zQ 36 (.ext 1) 28,
 zM 8 35,
 zM 9 36])
 (.seq (.ops [zM 38 0,
 zM 39 7,
 zM 40 1,
 zM 41 2,
 zR 42 .mx 40 41,
 zC3 43 21 38 39 42,
 zM 37 43,
 zQ 44 (.ext 0) 37,
 zQ 45 (.ext 1) 37,
 zM 10 44,
 zM 11 45])
 (.seq (.ops [zM 47 0,
 zM 48 7,
 zC 49 21 [.t 47, .t 48, zI 64],
 zM 46 49,
 zQ 50 (.ext 0) 46,
 zQ 51 (.ext 1) 46,
 zM 12 50,
 zM 13 51])
 (.seq (.seq (.ops [zM 52 9,
 zP 53 (.bin .neq) [.t 52, zI 0],
 zM 54 53,
 zMg 55 11 54 false,
 zPg 56 (.bin .neq) [.t 55, zI 0] 54 false,
 zP 57 .pick [.t 54, .c (.bool true), .t 56],
 zM 58 57,
 zMg 59 13 58 false,
 zPg 60 (.bin .neq) [.t 59, zI 0] 58 false,
 zP 61 .pick [.t 58, .c (.bool true), .t 60],
 zM 62 61,
 zMg 63 10 62 false,
 zMg 64 8 62 false,
 zPg 65 (.bin .gtr) [.t 63, .t 64] 62 false,
 zP 66 .pick [.t 62, .c (.bool true), .t 65],
 zM 67 66,
 zMg 68 12 67 false,
 zPg 69 (.bin .neq) [.t 68, zI 0] 67 false,
 zP 70 .pick [.t 67, .c (.bool true), .t 69]])
 (.cond (.t 70)
 (.seq (.ops [zK 6 (.bool false)])
 .ret)
 .skip))
 (.seq (.ops [zV 14 0])
 (.block 2 (.loop L_escapementlaw09_DelayFalls_1))))))))
 (.ops [zM 26 7,
 zP 27 (.bin .add) [.t 26, zI 1],
 zM 7 27])))
def C6 : AFunc := ⟨108, [.tmp 6],
 (.seq (.ops [zK 6 (.bool false)])
 (.seq (.ops [zM 16 0,
 zC 17 23 [.t 16, zI 4],
 zM 0 17])
 (.seq (.ops [zM 18 1,
 zC 19 24 [.t 18, zI 70],
 zM 20 2,
 zC 21 24 [.t 20, zI 70],
 zM 1 19,
 zM 2 21])
 (.seq (.seq (.ops [zV 7 0])
 (.block 0 (.loop L_escapementlaw09_DelayFalls_0)))
 (.seq (.ops [zC0 107 20,
 zM 6 107])
 .ret)))))⟩
abbrev f_escapementlaw09_DelayFalls : Nat := 6
abbrev C_escapementlaw09_DelayFalls : AFunc := C6
def L_escapementlaw09_DelayNames_0 : AC := (.seq (.seq (.ops [zM 117 18,
 zP 118 (.bin .lss) [.t 117, zI 14]])
 (.cond (.t 118)
 .skip
 (.exit 0)))
 (.seq (.block 1 (.seq (.ops [zO 121 3 1,
 ⟨some 19, none, .a (.alloc [zz, zz, .nils]), []⟩,
 zS 3 [.t 19, .t 121]])
 (.seq (.ops [zF 122 1 2,
 zL 123 122,
 zP 124 (.iaddrS 8) [.t 123, zI 0],
 zO 125 8 124,
 ⟨some 20, none, .a (.alloc [zz, zz, zz, zz, zz, zz, zz, zz]), []⟩,
 zS 8 [.t 20, .t 125]])
 (.seq (.seq (.ops [zM 126 18])
 (.block 2 (.seq (.ops [zP 129 (.bin .eql) [.t 126, zI 0],
 zM 128 129])
 (.cond (.t 128)
 (.ops [zF 130 19 0,
 zS 1 [.t 130, zI 65]])
 (.seq (.ops [zP 132 (.bin .eql) [.t 126, zI 1],
 zM 131 132])
 (.cond (.t 131)
 (.ops [zF 133 19 1,
 zS 1 [.t 133, zI 65]])
 (.seq (.ops [zP 135 (.bin .eql) [.t 126, zI 2],
 zM 134 135])
 (.cond (.t 134)
 (.ops [zF 136 19 1,
 zS 1 [.t 136, zI 0]])
 (.seq (.ops [zP 138 (.bin .eql) [.t 126, zI 3],
 zM 137 138])
 (.cond (.t 137)
 (.ops [zF 139 20 2,
 zS 1 [.t 139, zI 65]])
 (.seq (.ops [zP 141 (.bin .eql) [.t 126, zI 4],
 zM 140 141])
 (.cond (.t 140)
 (.ops [zF 142 20 4,
 zS 1 [.t 142, zI 65]])
 (.seq (.ops [zP 144 (.bin .eql) [.t 126, zI 5],
 zM 143 144])
 (.cond (.t 143)
 (.ops [zF 145 20 4,
 zS 1 [.t 145, zI (-1)]])
 (.seq (.ops [zP 147 (.bin .eql) [.t 126, zI 6],
 zM 146 147])
 (.cond (.t 146)
 (.ops [zF 148 20 5,
 zS 1 [.t 148, zI 5]])
 (.seq (.ops [zP 150 (.bin .eql) [.t 126, zI 7],
 zM 149 150])
 (.cond (.t 149)
 (.ops [zF 151 20 5,
 zS 1 [.t 151, zI (-1)]])
 (.seq (.ops [zP 153 (.bin .eql) [.t 126, zI 8],
 zM 152 153])
 (.cond (.t 152)
 (.ops [zF 154 20 5,
 zS 1 [.t 154, zI 0]])
 (.seq (.ops [zP 156 (.bin .eql) [.t 126, zI 9],
 zM 155 156])
 (.cond (.t 155)
 (.ops [zF 157 20 6,
 zS 1 [.t 157, zI 33]])
 (.seq (.ops [zP 159 (.bin .eql) [.t 126, zI 10],
 zM 158 159])
 (.cond (.t 158)
 (.ops [zF 160 20 6,
 zS 1 [.t 160, zI 0]])
 (.seq (.ops [zP 162 (.bin .eql) [.t 126, zI 11],
 zM 161 162])
 (.cond (.t 161)
 (.ops [zF 163 20 7,
 zS 1 [.t 163, zI 0]])
 (.seq (.ops [zP 165 (.bin .eql) [.t 126, zI 12],
 zM 164 165])
 (.cond (.t 164)
 (.ops [zF 166 20 7,
 zS 1 [.t 166, zI 4611686018427387904]])
 (.ops [zF 127 19 1,
 zS 1 [.t 127, zI 31]])))))))))))))))))))))))))))))
 (.seq (.ops [zO 167 8 20,
 ⟨some 168, none, .a (.bslice [zz, zz, zz, zz, zz, zz, zz, zz] 1 8 [0]), [.t 167]⟩,
 zF 169 19 2,
 zS 1 [.t 169, .t 168]])
 (.seq (.ops [zO 171 3 19,
 ⟨some 172, none, .a (.bslice [zz, zz, .nils] 1 3 [0]), [.t 171]⟩,
 zC 173 15 [.t 172, zI 0],
 zM 170 173,
 zQ 174 (.ext 0) 170,
 zQ 175 (.ext 1) 170,
 zM 21 174,
 zM 22 175])
 (.seq (.ops [zO 176 3 19,
 ⟨some 177, none, .a (.bslice [zz, zz, .nils] 1 3 [0]), [.t 176]⟩,
 zC1 178 17 177,
 zP 179 (.bin .neq) [.t 178, zI 2],
 zM 180 179,
 zMg 181 22 180 false,
 zPg 182 (.bin .neq) [.t 181, zI 2] 180 false,
 zP 183 .pick [.t 180, .c (.bool true), .t 182]])
 (.cond (.t 183)
 (.seq (.ops [zK 0 (.bool false)])
 .ret)
 .skip))))))))
 (.ops [zM 119 18,
 zP 120 (.bin .add) [.t 119, zI 1],
 zM 18 120])))
def C7 : AFunc := ⟨190, [.tmp 0],
 (.seq (.ops [zK 0 (.bool false)])
 (.seq (.ops [zP 23 (.build [zz, zz, zz, zz, zz, zz, zz, zz] [(0, 1), (1, 1), (2, 1), (4, 1), (5, 1), (6, 1), (7, 1)]) [zI 64, zI 64, zI 64, zI 64, zI 4, zI 32, zI 2],
 ⟨some 24, none, .a (.bslice [zz, zz, zz, zz, zz, zz, zz, zz] 1 8 [0]), [.t 23]⟩,
 zP 25 (.build [zz, zz, .nils] [(0, 1), (1, 1), (2, 1)]) [zI 64, zI 64, .t 24],
 ⟨some 1, none, .a (.alloc [zz, zz, .nils]), []⟩,
 zS 3 [.t 1, .t 25]])
 (.seq (.ops [zO 26 3 1,
 zO 27 3 1,
 zO 28 3 1,
 zO 29 3 1,
 ⟨some 30, none, .a (.bslice [zz, zz, .nils] 4 3 [0, 1, 2, 3]), [.t 26, .t 27, .t 28, .t 29]⟩,
 zM 2 30])
 (.seq (.ops [zM 32 2,
 zC 33 13 [.t 32, zI 3, zI 0],
 zM 31 33,
 zQ 34 (.ext 0) 31,
 zQ 35 (.ext 1) 31,
 zM 3 34,
 zM 4 35])
 (.seq (.ops [zM 37 2,
 zC 38 21 [.t 37, zI 0, zI 63],
 zM 36 38,
 zQ 39 (.ext 0) 36,
 zQ 40 (.ext 1) 36,
 zM 5 39,
 zM 6 40])
 (.seq (.ops [zM 42 2,
 zC 43 13 [.t 42, zI 4, zI 0],
 zM 41 43,
 zQ 44 (.ext 0) 41,
 zQ 45 (.ext 1) 41,
 zM 7 44,
 zM 8 45])
 (.seq (.ops [zM 47 2,
 zC 48 13 [.t 47, zI 0, zI 1],
 zM 46 48,
 zQ 49 (.ext 0) 46,
 zQ 50 (.ext 1) 46,
 zM 9 49,
 zM 10 50])
 (.seq (.ops [zM 52 2,
 zC 53 15 [.t 52, zI (-1)],
 zM 51 53,
 zQ 54 (.ext 0) 51,
 zQ 55 (.ext 1) 51,
 zM 11 54,
 zM 12 55])
 (.seq (.ops [zM 57 2,
 zC 58 21 [.t 57, zI 0, zI (-1)],
 zM 56 58,
 zQ 59 (.ext 0) 56,
 zQ 60 (.ext 1) 56,
 zM 13 59,
 zM 14 60])
 (.seq (.ops [zM 62 2,
 zC 63 21 [.t 62, zI 9, zI (-1)],
 zM 61 63,
 zQ 64 (.ext 0) 61,
 zQ 65 (.ext 1) 61,
 zM 15 64,
 zM 16 65])
 (.seq (.ops [zM 66 2,
 zC1 67 17 66,
 zP 68 (.bin .eql) [.t 67, zI 0],
 zM 69 68,
 zCg 70 17 [.c .nils] 69 true,
 zPg 71 (.bin .eql) [.t 70, zI 0] 69 true,
 zP 72 .pick [.t 69, .t 71, .c (.bool false)],
 zM 73 72,
 zMg 74 2 73 true,
 ⟨some 75, some (73, true), .r (.loadN 3), [.t 1]⟩,
 ⟨some 76, some (73, true), .a (.bslice [zz, zz, .nils] 1 3 [0]), [.t 75]⟩,
 ⟨some 77, some (73, true), .e (.append 3 40), [.t 74, .t 76]⟩,
 zCg 78 17 [.t 77] 73 true,
 zPg 79 (.bin .eql) [.t 78, zI 2] 73 true,
 zP 80 .pick [.t 73, .t 79, .c (.bool false)],
 zM 81 80,
 zMg 82 3 81 true,
 zPg 83 (.bin .eql) [.t 82, zI 384] 81 true,
 zP 84 .pick [.t 81, .t 83, .c (.bool false)],
 zM 85 84,
 zMg 86 4 85 true,
 zPg 87 (.bin .eql) [.t 86, zI 0] 85 true,
 zP 88 .pick [.t 85, .t 87, .c (.bool false)],
 zM 89 88,
 zMg 90 5 89 true,
 zPg 91 (.bin .eql) [.t 90, zI 447] 89 true,
 zP 92 .pick [.t 89, .t 91, .c (.bool false)],
 zM 93 92,
 zMg 94 6 93 true,
 zPg 95 (.bin .eql) [.t 94, zI 0] 93 true,
 zP 96 .pick [.t 93, .t 95, .c (.bool false)],
 zM 97 96,
 zMg 98 8 97 true,
 zPg 99 (.bin .eql) [.t 98, zI 9] 97 true,
 zP 100 .pick [.t 97, .t 99, .c (.bool false)],
 zM 101 100,
 zMg 102 10 101 true,
 zPg 103 (.bin .eql) [.t 102, zI 9] 101 true,
 zP 104 .pick [.t 101, .t 103, .c (.bool false)],
 zM 105 104,
 zMg 106 12 105 true,
 zPg 107 (.bin .eql) [.t 106, zI 9] 105 true,
 zP 108 .pick [.t 105, .t 107, .c (.bool false)],
 zM 109 108,
 zMg 110 14 109 true,
 zPg 111 (.bin .eql) [.t 110, zI 2] 109 true,
 zP 112 .pick [.t 109, .t 111, .c (.bool false)],
 zM 113 112,
 zMg 114 16 113 true,
 zPg 115 (.bin .eql) [.t 114, zI 9] 113 true,
 zP 116 .pick [.t 113, .t 115, .c (.bool false)],
 zM 17 116])
 (.seq (.seq (.ops [zV 18 0])
 (.block 0 (.loop L_escapementlaw09_DelayNames_0)))
 (.seq (.ops [zK 184 (.bool true),
 ⟨some 185, some (184, true), .call, [.c (.func (.func 20) [] [])]⟩,
 zP 186 .pick [.t 184, .t 185, .c (.bool false)],
 zM 187 186,
 zMg 188 17 187 true,
 zP 189 .pick [.t 187, .t 188, .c (.bool false)],
 zM 0 189])
 .ret)))))))))))))⟩
abbrev f_escapementlaw09_DelayNames : Nat := 7
abbrev C_escapementlaw09_DelayNames : AFunc := C7
def C8 : AFunc := ⟨53, [.tmp 6],
 (.seq (.ops [zK 6 (.bool false)])
 (.seq (.ops [zM 12 1,
 zC1 13 25 12,
 zM 7 13])
 (.seq (.ops [zM 15 0,
 zM 16 7,
 zM 17 2,
 zC3 18 26 15 16 17,
 zM 14 18,
 zQ 19 (.ext 0) 14,
 zQ 20 (.ext 1) 14,
 zM 8 19,
 zM 9 20])
 (.seq (.ops [zM 22 0,
 zM 23 1,
 zM 24 2,
 zC3 25 27 22 23 24,
 zM 21 25,
 zQ 26 (.ext 0) 21,
 zQ 27 (.ext 1) 21,
 zM 10 26,
 zM 11 27])
 (.seq (.ops [zM 28 0,
 zM 29 7,
 zC2 30 28 28 29,
 zM 31 0,
 zM 32 1,
 zC2 33 29 31 32,
 zR 34 (.bin .eql) 30 33,
 zM 35 34,
 zMg 36 8 35 true,
 zMg 37 10 35 true,
 zPg 38 (.bin .eql) [.t 36, .t 37] 35 true,
 zP 39 .pick [.t 35, .t 38, .c (.bool false)],
 zM 40 39,
 zMg 41 9 40 true,
 zMg 42 11 40 true,
 zPg 43 (.bin .eql) [.t 41, .t 42] 40 true,
 zP 44 .pick [.t 40, .t 43, .c (.bool false)],
 zM 45 44,
 zMg 46 7 45 true,
 zMg 47 1 45 true,
 zCg 48 19 [.t 46, .t 47] 45 true,
 zP 49 .pick [.t 45, .t 48, .c (.bool false)],
 zM 50 49,
 ⟨some 51, some (50, true), .call, [.c (.func (.func 30) [] [])]⟩,
 zP 52 .pick [.t 50, .t 51, .c (.bool false)],
 zM 6 52])
 .ret)))))⟩
abbrev f_escapementlaw08_DemandOf : Nat := 8
abbrev C_escapementlaw08_DemandOf : AFunc := C8
def C9 : AFunc := ⟨90, [.tmp 6],
 (.seq (.ops [zK 6 (.bool false)])
 (.seq (.ops [zM 20 0,
 zM 21 2,
 zC2 22 31 20 21,
 zM 19 22,
 zQ 23 (.ext 0) 19,
 zQ 24 (.ext 1) 19,
 zM 7 23,
 zM 8 24])
 (.seq (.ops [zM 26 0,
 zM 27 2,
 zC2 28 32 26 27,
 zM 25 28,
 zQ 29 (.ext 0) 25,
 zQ 30 (.ext 1) 25,
 zM 9 29,
 zM 10 30])
 (.seq (.ops [zM 32 0,
 zM 33 1,
 zM 34 2,
 zC3 35 33 32 33 34,
 zM 31 35,
 zQ 36 (.ext 0) 31,
 zQ 37 (.ext 1) 31,
 zM 11 36,
 zM 12 37])
 (.seq (.ops [zM 39 0,
 zM 40 1,
 zM 41 2,
 zC3 42 34 39 40 41,
 zM 38 42,
 zQ 43 (.ext 0) 38,
 zQ 44 (.ext 1) 38,
 zM 13 43,
 zM 14 44])
 (.seq (.ops [zM 46 0,
 zM 47 1,
 zM 48 9,
 zC3 49 33 46 47 48,
 zM 45 49,
 zQ 50 (.ext 0) 45,
 zQ 51 (.ext 1) 45,
 zM 15 50,
 zM 16 51])
 (.seq (.ops [zM 53 0,
 zM 54 1,
 zM 55 9,
 zC3 56 34 53 54 55,
 zM 52 56,
 zQ 57 (.ext 0) 52,
 zQ 58 (.ext 1) 52,
 zM 17 57,
 zM 18 58])
 (.seq (.ops [zM 59 7,
 zM 60 9,
 zR 61 (.bin .eql) 59 60,
 zM 62 61,
 zMg 63 8 62 true,
 zMg 64 10 62 true,
 zPg 65 (.bin .eql) [.t 63, .t 64] 62 true,
 zP 66 .pick [.t 62, .t 65, .c (.bool false)],
 zM 67 66,
 zMg 68 11 67 true,
 zMg 69 13 67 true,
 zPg 70 (.bin .eql) [.t 68, .t 69] 67 true,
 zP 71 .pick [.t 67, .t 70, .c (.bool false)],
 zM 72 71,
 zMg 73 12 72 true,
 zMg 74 14 72 true,
 zPg 75 (.bin .eql) [.t 73, .t 74] 72 true,
 zP 76 .pick [.t 72, .t 75, .c (.bool false)],
 zM 77 76,
 zMg 78 15 77 true,
 zMg 79 17 77 true,
 zPg 80 (.bin .eql) [.t 78, .t 79] 77 true,
 zP 81 .pick [.t 77, .t 80, .c (.bool false)],
 zM 82 81,
 zMg 83 16 82 true,
 zMg 84 18 82 true,
 zPg 85 (.bin .eql) [.t 83, .t 84] 82 true,
 zP 86 .pick [.t 82, .t 85, .c (.bool false)],
 zM 87 86,
 ⟨some 88, some (87, true), .call, [.c (.func (.func 30) [] [])]⟩,
 zP 89 .pick [.t 87, .t 88, .c (.bool false)],
 zM 6 89])
 .ret))))))))⟩
abbrev f_escapementlaw08_DemandUse : Nat := 9
abbrev C_escapementlaw08_DemandUse : AFunc := C9
def L_escapementlaw08_DemandSound_1 : AC := (.seq (.seq (.ops [zM 41 13,
 zP 42 (.bin .lss) [.t 41, zI 10]])
 (.cond (.t 42)
 .skip
 (.exit 2)))
 (.seq (.block 3 (.seq (.seq (.ops [zM 45 1,
 zQ 46 .lenS 45,
 zP 47 (.bin .gtr) [.t 46, zI 0]])
 (.cond (.t 47)
 (.ops [zM 48 12,
 zM 49 1,
 zM 50 11,
 zP 51 (.bin .mul) [.t 50, zI 10],
 zM 52 13,
 zR 53 (.bin .add) 51 52,
 zM 54 1,
 zQ 55 .lenS 54,
 zR 56 (.bin .rem) 53 55,
 zR 57 (.iaddrS 1) 49 56,
 zL 58 57,
 zC 59 24 [.t 58, zI 20],
 zR 60 (.bin .add) 48 59,
 zM 12 60])
 .skip))
 (.seq (.seq (.ops [zM 61 12,
 zM 62 8,
 zR 63 (.bin .geq) 61 62])
 (.cond (.t 63)
 (.seq (.ops [zM 64 9,
 zM 65 12,
 zM 66 0,
 zM 67 11,
 zR 68 (.iaddrS 8) 66 67,
 zF 69 68 1,
 zL 70 69,
 zR 71 (.bin .add) 65 70,
 zM 72 8,
 zR 73 (.bin .sub) 71 72,
 ⟨some 74, none, .a (.bslice [zz] 1 1 [0]), [.t 73]⟩,
 zA 75 1 8 64 74,
 zM 9 75])
 (.dops [zM 76 10,
 zM 77 0,
 zM 78 11,
 zR 79 (.iaddrS 8) 77 78,
 zF 80 79 2,
 zL 81 80,
 zM 82 7,
 zM 83 11,
 zR 84 (.iaddrS 1) 82 83,
 zL 85 84,
 zR 86 (.bin .add) 81 85,
 ⟨some 87, none, .a (.bslice [zz] 1 1 [0]), [.t 86]⟩,
 zA 88 1 8 76 87,
 zM 10 88] [[], [], [], [], [], [], [], [], [], [], [], [], [], []]))
 .skip))
 (.ops [zM 89 12,
 zM 90 0,
 zM 91 11,
 zR 92 (.iaddrS 8) 90 91,
 zF 93 92 0,
 zL 94 93,
 zR 95 (.bin .add) 89 94,
 zM 12 95]))))
 (.ops [zM 43 13,
 zP 44 (.bin .add) [.t 43, zI 1],
 zM 13 44])))
def L_escapementlaw08_DemandSound_0 : AC := (.seq (.seq (.ops [zM 28 11,
 zM 29 0,
 zQ 30 .lenS 29,
 zR 31 (.bin .lss) 28 30])
 (.cond (.t 31)
 .skip
 (.exit 0)))
 (.seq (.block 1 (.seq (.ops [zM 34 7,
 zM 35 11,
 zM 36 2,
 zM 37 11,
 zR 38 (.bin .add) 36 37,
 zC 39 24 [.t 38, zI 5],
 zR 40 (.iaddrS 1) 34 35,
 zS 1 [.t 40, .t 39]])
 (.seq (.ops [zV 12 0])
 (.seq (.ops [zV 13 0])
 (.block 2 (.loop L_escapementlaw08_DemandSound_1))))))
 (.ops [zM 32 11,
 zP 33 (.bin .add) [.t 32, zI 1],
 zM 11 33])))
def L_escapementlaw08_DemandSound_3 : AC := (.seq (.seq (.ops [zM 100 16,
 zM 101 9,
 zQ 102 .lenS 101,
 zR 103 (.bin .lss) 100 102])
 (.cond (.t 103)
 .skip
 (.exit 6)))
 (.seq (.block 7 (.seq (.ops [zM 106 9,
 zM 107 16,
 zR 108 (.iaddrS 1) 106 107,
 zL 109 108,
 zM 110 14,
 zR 111 (.bin .leq) 109 110])
 (.cond (.t 111)
 (.ops [zM 112 15,
 zM 113 10,
 zM 114 16,
 zR 115 (.iaddrS 1) 113 114,
 zL 116 115,
 zR 117 (.bin .add) 112 116,
 zM 15 117])
 .skip)))
 (.ops [zM 104 16,
 zP 105 (.bin .add) [.t 104, zI 1],
 zM 16 105])))
def L_escapementlaw08_DemandSound_2 : AC := (.seq (.seq (.ops [zM 96 14,
 zP 97 (.bin .lss) [.t 96, zI 200]])
 (.cond (.t 97)
 .skip
 (.exit 4)))
 (.seq (.block 5 (.seq (.ops [zV 15 0])
 (.seq (.seq (.ops [zV 16 0])
 (.block 6 (.loop L_escapementlaw08_DemandSound_3)))
 (.seq (.ops [zM 119 0,
 zM 120 7,
 zM 121 14,
 zC3 122 26 119 120 121,
 zM 118 122,
 zQ 123 (.ext 0) 118,
 zQ 124 (.ext 1) 118,
 zM 17 123,
 zM 18 124])
 (.seq (.ops [zM 125 18,
 zP 126 (.bin .neq) [.t 125, zI 0],
 zM 127 126,
 zMg 128 15 127 false,
 zMg 129 17 127 false,
 zPg 130 (.bin .gtr) [.t 128, .t 129] 127 false,
 zP 131 .pick [.t 127, .c (.bool true), .t 130]])
 (.cond (.t 131)
 (.seq (.ops [zK 6 (.bool false)])
 .ret)
 .skip))))))
 (.ops [zM 98 14,
 zP 99 (.bin .add) [.t 98, zI 1],
 zM 14 99])))
def C10 : AFunc := ⟨132, [.tmp 6],
 (.seq (.ops [zK 6 (.bool false)])
 (.seq (.seq (.ops [zC0 19 30,
 zQ 20 .not 19])
 (.cond (.t 20)
 (.seq (.ops [zK 6 (.bool false)])
 .ret)
 .skip))
 (.seq (.ops [zM 21 0,
 zC1 22 35 21,
 zM 0 22])
 (.seq (.ops [zM 23 0,
 zQ 24 .lenS 23,
 ⟨some 25, none, .a (.mkslice [zz] 1 8), [.t 24, .t 24]⟩,
 zM 7 25])
 (.seq (.ops [zM 26 2,
 zC 27 24 [.t 26, zI 200],
 zM 8 27])
 (.seq (.ops [zK 9 .nils,
 zK 10 .nils])
 (.seq (.seq (.ops [zV 11 0])
 (.block 0 (.loop L_escapementlaw08_DemandSound_0)))
 (.seq (.seq (.ops [zV 14 0])
 (.block 4 (.loop L_escapementlaw08_DemandSound_2)))
 (.seq (.ops [zK 6 (.bool true)])
 .ret)))))))))⟩
abbrev f_escapementlaw08_DemandSound : Nat := 10
abbrev C_escapementlaw08_DemandSound : AFunc := C10
def C11 : AFunc := ⟨101, [.tmp 6],
 (.seq (.ops [zK 6 (.bool false)])
 (.seq (.ops [zM 18 0,
 zC1 19 35 18,
 zM 0 19])
 (.seq (.ops [zM 20 0,
 zQ 21 .lenS 20,
 ⟨some 22, none, .a (.mkslice [zz] 1 8), [.t 21, .t 21]⟩,
 zM 7 22])
 (.seq (.ops [zM 24 0,
 zM 25 1,
 zC 26 24 [.t 25, zI 64],
 zP 27 (.bin .add) [zI 1, .t 26],
 zC2 28 31 24 27,
 zM 23 28,
 zQ 29 (.ext 0) 23,
 zQ 30 (.ext 1) 23,
 zM 8 29,
 zM 9 30])
 (.seq (.seq (.ops [zM 31 9,
 zP 32 (.bin .neq) [.t 31, zI 0]])
 (.cond (.t 32)
 (.seq (.ops [zM 33 9,
 zP 34 (.bin .eql) [.t 33, zI 5],
 zM 35 34,
 ⟨some 36, some (35, true), .call, [.c (.func (.func 30) [] [])]⟩,
 zP 37 .pick [.t 35, .t 36, .c (.bool false)],
 zM 6 37])
 .ret)
 .skip))
 (.seq (.ops [zM 38 2,
 zC 39 24 [.t 38, zI 9000],
 zP 40 (.bin .add) [zI 64, .t 39],
 zM 2 40])
 (.seq (.ops [zM 42 0,
 zM 43 7,
 zM 44 2,
 zC3 45 26 42 43 44,
 zM 41 45,
 zQ 46 (.ext 0) 41,
 zQ 47 (.ext 1) 41,
 zM 10 46,
 zM 11 47])
 (.seq (.ops [zM 49 0,
 zM 50 7,
 zM 51 2,
 zM 52 8,
 zR 53 (.bin .add) 51 52,
 zC3 54 26 49 50 53,
 zM 48 54,
 zQ 55 (.ext 0) 48,
 zQ 56 (.ext 1) 48,
 zM 12 55,
 zM 13 56])
 (.seq (.ops [zM 58 0,
 zM 59 7,
 zM 60 2,
 zP 61 (.bin .add) [.t 60, zI 1],
 zC3 62 26 58 59 61,
 zM 57 62,
 zQ 63 (.ext 0) 57,
 zQ 64 (.ext 1) 57,
 zM 14 63,
 zM 15 64])
 (.seq (.ops [zM 66 0,
 zM 67 7,
 zM 68 8,
 zC3 69 33 66 67 68,
 zM 65 69,
 zQ 70 (.ext 0) 65,
 zQ 71 (.ext 1) 65,
 zM 16 70,
 zM 17 71])
 (.seq (.ops [zM 72 11,
 zP 73 (.bin .eql) [.t 72, zI 0],
 zM 74 73,
 zMg 75 13 74 true,
 zPg 76 (.bin .eql) [.t 75, zI 0] 74 true,
 zP 77 .pick [.t 74, .t 76, .c (.bool false)],
 zM 78 77,
 zMg 79 15 78 true,
 zPg 80 (.bin .eql) [.t 79, zI 0] 78 true,
 zP 81 .pick [.t 78, .t 80, .c (.bool false)],
 zM 82 81,
 zMg 83 17 82 true,
 zPg 84 (.bin .eql) [.t 83, zI 0] 82 true,
 zP 85 .pick [.t 82, .t 84, .c (.bool false)],
 zM 86 85,
 zMg 87 12 86 true,
 zMg 88 10 86 true,
 zMg 89 16 86 true,
 zPg 90 (.bin .add) [.t 88, .t 89] 86 true,
 zPg 91 (.bin .eql) [.t 87, .t 90] 86 true,
 zP 92 .pick [.t 86, .t 91, .c (.bool false)],
 zM 93 92,
 zMg 94 14 93 true,
 zMg 95 10 93 true,
 zPg 96 (.bin .geq) [.t 94, .t 95] 93 true,
 zP 97 .pick [.t 93, .t 96, .c (.bool false)],
 zM 98 97,
 ⟨some 99, some (98, true), .call, [.c (.func (.func 30) [] [])]⟩,
 zP 100 .pick [.t 98, .t 99, .c (.bool false)],
 zM 6 100])
 .ret)))))))))))⟩
abbrev f_escapementlaw08_DemandMore : Nat := 11
abbrev C_escapementlaw08_DemandMore : AFunc := C11
def L_escapementlaw08_DemandNames_0 : AC := (.seq (.seq (.ops [zM 36 2,
 zM 37 1,
 zQ 38 .lenS 37,
 zR 39 (.bin .lss) 36 38])
 (.cond (.t 39)
 .skip
 (.exit 0)))
 (.seq (.block 1 (.seq (.ops [zM 43 1,
 zM 44 2,
 zM 45 2,
 zP 46 (.bin .add) [.t 45, zI 1],
 zP 47 (.slice 8 true true false) [.t 43, .t 44, .t 46],
 ⟨some 48, none, .a (.bslice [zz] 1 1 [0]), [zI 0]⟩,
 zC 49 26 [.t 47, .t 48, zI 1],
 zM 42 49,
 zQ 50 (.ext 0) 42,
 zQ 51 (.ext 1) 42,
 zM 3 50,
 zM 4 51])
 (.seq (.ops [zM 53 1,
 zM 54 2,
 zM 55 2,
 zP 56 (.bin .add) [.t 55, zI 1],
 zP 57 (.slice 8 true true false) [.t 53, .t 54, .t 56],
 zC 58 31 [.t 57, zI 1],
 zM 52 58,
 zQ 59 (.ext 0) 52,
 zQ 60 (.ext 1) 52,
 zM 5 59,
 zM 6 60])
 (.seq (.ops [zM 61 4,
 zP 62 (.bin .neq) [.t 61, zI 2],
 zM 63 62,
 zMg 64 6 63 false,
 zPg 65 (.bin .neq) [.t 64, zI 2] 63 false,
 zP 66 .pick [.t 63, .c (.bool true), .t 65],
 zM 67 66,
 zMg 68 1 67 false,
 zMg 69 2 67 false,
 zMg 70 2 67 false,
 zPg 71 (.bin .add) [.t 70, zI 1] 67 false,
 zPg 72 (.slice 8 true true false) [.t 68, .t 69, .t 71] 67 false,
 ⟨some 73, some (67, false), .a (.bslice [zz] 1 1 [0]), [zI 0]⟩,
 zCg 74 28 [.t 72, .t 73] 67 false,
 zPg 75 (.bin .neq) [.t 74, zI 2] 67 false,
 zP 76 .pick [.t 67, .c (.bool true), .t 75]])
 (.cond (.t 76)
 (.seq (.ops [zK 0 (.bool false)])
 .ret)
 .skip)))))
 (.ops [zM 40 2,
 zP 41 (.bin .add) [.t 40, zI 1],
 zM 2 41])))
def C12 : AFunc := ⟨202, [.tmp 0],
 (.seq (.ops [zK 0 (.bool false)])
 (.seq (.ops [zP 29 (.build [zz, zz, zz, zz, zz, zz, zz, zz] []) [],
 zP 30 (.build [zz, zz, zz, zz, zz, zz, zz, zz] [(0, 1), (1, 1), (2, 1)]) [zI 65, zI 1, zI 1],
 zP 31 (.build [zz, zz, zz, zz, zz, zz, zz, zz] [(0, 1), (1, 1), (2, 1)]) [zI 5, zI 6, zI 1],
 zP 32 (.build [zz, zz, zz, zz, zz, zz, zz, zz] [(0, 1), (1, 1), (2, 1)]) [zI 5, zI 5, zI 6],
 zP 33 (.build [zz, zz, zz, zz, zz, zz, zz, zz] [(0, 1), (1, 1)]) [zI 5, zI 5],
 zP 34 (.build [zz, zz, zz, zz, zz, zz, zz, zz] [(0, 1), (2, 1)]) [zI 5, zI 1],
 ⟨some 35, none, .a (.bslice [zz, zz, zz, zz, zz, zz, zz, zz] 6 8 [0, 1, 2, 3, 4, 5]), [.t 29, .t 30, .t 31, .t 32, .t 33, .t 34]⟩,
 zM 1 35])
 (.seq (.seq (.ops [zV 2 0])
 (.block 0 (.loop L_escapementlaw08_DemandNames_0)))
 (.seq (.ops [zP 77 (.build [zz, zz, zz, zz, zz, zz, zz, zz] [(0, 1), (1, 1), (2, 1)]) [zI 64, zI 64, zI 64],
 ⟨some 7, none, .a (.alloc [zz, zz, zz, zz, zz, zz, zz, zz]), []⟩,
 zS 8 [.t 7, .t 77]])
 (.seq (.ops [zO 78 8 7,
 zO 79 8 7,
 zO 80 8 7,
 zO 81 8 7,
 ⟨some 82, none, .a (.bslice [zz, zz, zz, zz, zz, zz, zz, zz] 4 8 [0, 1, 2, 3]), [.t 78, .t 79, .t 80, .t 81]⟩,
 zM 8 82])
 (.seq (.dops [zM 84 8,
 zO 85 8 7,
 ⟨some 86, none, .a (.bslice [zz, zz, zz, zz, zz, zz, zz, zz] 1 8 [0]), [.t 85]⟩,
 zA 87 8 64 84 86,
 ⟨some 88, none, .a (.mkslice [zz] 1 8), [zI 5, zI 5]⟩,
 zC 89 26 [.t 87, .t 88, zI 1],
 zM 83 89,
 zQ 90 (.ext 0) 83,
 zQ 91 (.ext 1) 83,
 zM 9 90,
 zM 10 91] [[], [], [], [], [], [], [], [], [], [], []])
 (.seq (.ops [zM 93 8,
 ⟨some 94, none, .a (.bslice [zz] 4 1 [0, 1, 2, 3]), [zI 0, zI 0, zI 0, zI 32769]⟩,
 zC 95 26 [.t 93, .t 94, zI 1],
 zM 92 95,
 zQ 96 (.ext 0) 92,
 zQ 97 (.ext 1) 92,
 zM 11 96,
 zM 12 97])
 (.seq (.ops [zM 99 8,
 ⟨some 100, none, .a (.bslice [zz] 4 1 [0, 1, 2, 3]), [zI 0, zI 0, zI 0, zI (-1)]⟩,
 zC 101 26 [.t 99, .t 100, zI 1],
 zM 98 101,
 zQ 102 (.ext 0) 98,
 zQ 103 (.ext 1) 98,
 zM 13 102,
 zM 14 103])
 (.seq (.ops [zM 105 8,
 ⟨some 106, none, .a (.bslice [zz] 4 1 [0, 1, 2, 3]), [zI 0, zI 0, zI 0, zI 32768]⟩,
 zC 107 26 [.t 105, .t 106, zI 64],
 zM 104 107,
 zQ 108 (.ext 0) 104,
 zQ 109 (.ext 1) 104,
 zM 15 108,
 zM 16 109])
 (.seq (.ops [zM 111 8,
 ⟨some 112, none, .a (.mkslice [zz] 1 8), [zI 4, zI 4]⟩,
 zC 113 26 [.t 111, .t 112, zI 1048577],
 zM 110 113,
 zQ 114 (.ext 0) 110,
 zQ 115 (.ext 1) 110,
 zM 17 114,
 zM 18 115])
 (.seq (.ops [zM 117 8,
 ⟨some 118, none, .a (.mkslice [zz] 1 8), [zI 4, zI 4]⟩,
 zC 119 26 [.t 117, .t 118, zI 1048576],
 zM 116 119,
 zQ 120 (.ext 0) 116,
 zQ 121 (.ext 1) 116,
 zM 19 120,
 zM 20 121])
 (.seq (.ops [zM 123 8,
 ⟨some 124, none, .a (.mkslice [zz] 1 8), [zI 4, zI 4]⟩,
 zC 125 33 [.t 123, .t 124, zI 65],
 zM 122 125,
 zQ 126 (.ext 0) 122,
 zQ 127 (.ext 1) 122,
 zM 21 126,
 zM 22 127])
 (.seq (.ops [zM 129 8,
 ⟨some 130, none, .a (.mkslice [zz] 1 8), [zI 4, zI 4]⟩,
 zC 131 33 [.t 129, .t 130, zI 0],
 zM 128 131,
 zQ 132 (.ext 0) 128,
 zQ 133 (.ext 1) 128,
 zM 23 132,
 zM 24 133])
 (.seq (.ops [zC 135 31 [.c .nils, zI 64],
 zM 134 135,
 zQ 136 (.ext 0) 134,
 zQ 137 (.ext 1) 134,
 zM 25 136,
 zM 26 137])
 (.seq (.ops [zM 139 8,
 zC 140 31 [.t 139, zI 0],
 zM 138 140,
 zQ 141 (.ext 0) 138,
 zQ 142 (.ext 1) 138,
 zM 27 141,
 zM 28 142])
 (.seq (.ops [zK 143 (.bool true),
 ⟨some 144, some (143, true), .call, [.c (.func (.func 30) [] [])]⟩,
 zP 145 .pick [.t 143, .t 144, .c (.bool false)],
 zM 146 145,
 zMg 147 10 146 true,
 zPg 148 (.bin .eql) [.t 147, zI 2] 146 true,
 zP 149 .pick [.t 146, .t 148, .c (.bool false)],
 zM 150 149,
 zMg 151 12 150 true,
 zPg 152 (.bin .eql) [.t 151, zI 2] 150 true,
 zP 153 .pick [.t 150, .t 152, .c (.bool false)],
 zM 154 153,
 zMg 155 14 154 true,
 zPg 156 (.bin .eql) [.t 155, zI 2] 154 true,
 zP 157 .pick [.t 154, .t 156, .c (.bool false)],
 zM 158 157,
 zMg 159 15 158 true,
 zPg 160 (.bin .eql) [.t 159, zI 33024] 158 true,
 zP 161 .pick [.t 158, .t 160, .c (.bool false)],
 zM 162 161,
 zMg 163 16 162 true,
 zPg 164 (.bin .eql) [.t 163, zI 0] 162 true,
 zP 165 .pick [.t 162, .t 164, .c (.bool false)],
 zM 166 165,
 zMg 167 18 166 true,
 zPg 168 (.bin .eql) [.t 167, zI 2] 166 true,
 zP 169 .pick [.t 166, .t 168, .c (.bool false)],
 zM 170 169,
 zMg 171 19 170 true,
 zPg 172 (.bin .eql) [.t 171, zI 4194304] 170 true,
 zP 173 .pick [.t 170, .t 172, .c (.bool false)],
 zM 174 173,
 zMg 175 20 174 true,
 zPg 176 (.bin .eql) [.t 175, zI 0] 174 true,
 zP 177 .pick [.t 174, .t 176, .c (.bool false)],
 zM 178 177,
 zMg 179 22 178 true,
 zPg 180 (.bin .eql) [.t 179, zI 2] 178 true,
 zP 181 .pick [.t 178, .t 180, .c (.bool false)],
 zM 182 181,
 zMg 183 24 182 true,
 zPg 184 (.bin .eql) [.t 183, zI 2] 182 true,
 zP 185 .pick [.t 182, .t 184, .c (.bool false)],
 zM 186 185,
 zMg 187 25 186 true,
 zPg 188 (.bin .eql) [.t 187, zI 64] 186 true,
 zP 189 .pick [.t 186, .t 188, .c (.bool false)],
 zM 190 189,
 zMg 191 26 190 true,
 zPg 192 (.bin .eql) [.t 191, zI 0] 190 true,
 zP 193 .pick [.t 190, .t 192, .c (.bool false)],
 zM 194 193,
 zMg 195 28 194 true,
 zPg 196 (.bin .eql) [.t 195, zI 2] 194 true,
 zP 197 .pick [.t 194, .t 196, .c (.bool false)],
 zM 198 197,
 zCg 199 28 [.c .nils, .c .nils] 198 true,
 zPg 200 (.bin .eql) [.t 199, zI 0] 198 true,
 zP 201 .pick [.t 198, .t 200, .c (.bool false)],
 zM 0 201])
 .ret))))))))))))))))⟩
abbrev f_escapementlaw08_DemandNames : Nat := 12
abbrev C_escapementlaw08_DemandNames : AFunc := C12
def C13 : AFunc := ⟨39, [.tmp 6, .tmp 7],
 (.seq (.ops [zV 6 0,
 zV 7 0])
 (.seq (.ops [zM 11 0,
 zM 12 1,
 zC2 13 36 11 12,
 zM 10 13,
 zQ 14 (.ext 0) 10,
 zQ 15 (.ext 1) 10,
 ⟨some 8, none, .a (.alloc [zz, zz, .nils, .nils, zz]), []⟩,
 zS 5 [.t 8, .t 14],
 zM 9 15])
 (.seq (.block 0 (.seq (.ops [zM 17 9,
 zP 18 (.bin .neq) [.t 17, zI 0],
 zM 16 18])
 (.cond (.t 16)
 (.seq (.ops [zM 19 9,
 zV 6 0,
 zM 7 19])
 .ret)
 (.seq (.ops [zM 21 2,
 zP 22 (.bin .lss) [.t 21, zI 0],
 zM 23 22,
 zMg 24 2 23 false,
 zFg 25 8 0 23 false,
 zFg 26 25 2 23 false,
 zLg 27 26 23 false,
 zPg 28 .lenS [.t 27] 23 false,
 zPg 29 (.bin .geq) [.t 24, .t 28] 23 false,
 zP 30 .pick [.t 23, .c (.bool true), .t 29],
 zM 20 30])
 (.cond (.t 20)
 (.seq (.ops [zV 6 0,
 zV 7 9])
 .ret)
 .skip)))))
 (.seq (.dops [zO 31 5 8,
 zF 32 8 0,
 zF 33 32 2,
 zL 34 33,
 zM 35 2,
 zR 36 (.iaddrS 8) 34 35,
 zO 37 8 36,
 zC2 38 37 31 37,
 zM 6 38,
 zV 7 0] [[], [], [], [], [], [], [], [], [], []])
 .ret))))⟩
abbrev f_delay_Wait : Nat := 13
abbrev C_delay_Wait : AFunc := C13
def C14 : AFunc := ⟨47, [.tmp 6, .tmp 7],
 (.seq (.ops [zV 6 0,
 zV 7 0])
 (.seq (.seq (.ops [zM 9 0,
 zC1 10 18 9,
 zM 8 10])
 (.seq (.ops [zM 11 8,
 zP 12 (.bin .neq) [.t 11, zI 0]])
 (.cond (.t 12)
 (.seq (.ops [zM 13 8,
 zV 6 0,
 zM 7 13])
 .ret)
 .skip)))
 (.seq (.seq (.ops [zM 14 1,
 zP 15 (.bin .lss) [.t 14, zI 0],
 zM 16 15,
 zMg 17 1 16 false,
 zMg 18 0 16 false,
 zPg 19 .lenS [.t 18] 16 false,
 zPg 20 (.bin .geq) [.t 17, .t 19] 16 false,
 zP 21 .pick [.t 16, .c (.bool true), .t 20],
 zM 22 21,
 zMg 23 2 22 false,
 zPg 24 (.bin .lss) [.t 23, zI 0] 22 false,
 zP 25 .pick [.t 22, .c (.bool true), .t 24],
 zM 26 25,
 zMg 27 2 26 false,
 zMg 28 0 26 false,
 zMg 29 1 26 false,
 zPg 30 (.iaddrS 3) [.t 28, .t 29] 26 false,
 zFg 31 30 2 26 false,
 zLg 32 31 26 false,
 zPg 33 .lenS [.t 32] 26 false,
 zPg 34 (.bin .geq) [.t 27, .t 33] 26 false,
 zP 35 .pick [.t 26, .c (.bool true), .t 34]])
 (.cond (.t 35)
 (.seq (.ops [zV 6 0,
 zV 7 9])
 .ret)
 .skip))
 (.seq (.ops [zM 36 0,
 zM 37 1,
 zM 38 0,
 zM 39 1,
 zR 40 (.iaddrS 3) 38 39,
 zF 41 40 2,
 zL 42 41,
 zM 43 2,
 zR 44 (.iaddrS 8) 42 43,
 zO 45 8 44,
 zC3 46 38 36 37 45,
 zM 6 46,
 zV 7 0])
 .ret))))⟩
abbrev f_escapementref09_Wait : Nat := 14
abbrev C_escapementref09_Wait : AFunc := C14
def L_delay_More_0 : AC := (.seq (.ops [zR 30 (.bin .lss) 29 28])
 (.seq (.cond (.t 30)
 .skip
 (.exit 0))
 (.seq (.block 1 (.seq (.ops [zM 31 29,
 zR 32 (.iaddrS 8) 27 29,
 zO 33 8 32,
 ⟨some 10, none, .a (.alloc [zz, zz, zz, zz, zz, zz, zz, zz]), []⟩,
 zM 9 31,
 zS 8 [.t 10, .t 33]])
 (.dops [zM 34 8,
 zM 35 9,
 zF 36 10 7,
 zL 37 36,
 zO 38 5 6,
 zO 39 8 10,
 zC2 40 37 38 39,
 zF 41 10 6,
 zL 42 41,
 zR 43 (.bin .add) 40 42,
 zP 44 (.bin .sub) [.t 43, zI 1],
 zR 45 (.bin .mul) 37 44,
 zR 46 (.iaddrS 1) 34 35,
 zS 1 [.t 46, .t 45]] [[], [], [], [0, 7], [], [], [], [], [0, 7], [], [], [], [], []])))
 (.ops [zP 47 (.bin .add) [.t 29, zI 1],
 zM 29 47]))))
def C15 : AFunc := ⟨49, [.tmp 4, .tmp 5],
 (.seq (.ops [zK 4 .nils,
 zV 5 0])
 (.seq (.ops [zM 12 0,
 zM 13 1,
 zC2 14 36 12 13,
 zM 11 14,
 zQ 15 (.ext 0) 11,
 zQ 16 (.ext 1) 11,
 ⟨some 6, none, .a (.alloc [zz, zz, .nils, .nils, zz]), []⟩,
 zS 5 [.t 6, .t 15],
 zM 7 16])
 (.seq (.seq (.ops [zM 17 7,
 zP 18 (.bin .neq) [.t 17, zI 0]])
 (.cond (.t 18)
 (.seq (.ops [zM 19 7,
 zK 4 .nils,
 zM 5 19])
 .ret)
 .skip))
 (.seq (.ops [zF 20 6 0,
 zF 21 20 2,
 zL 22 21,
 zQ 23 .lenS 22,
 ⟨some 24, none, .a (.mkslice [zz] 1 8), [.t 23, .t 23]⟩,
 zM 8 24])
 (.seq (.seq (.ops [zF 25 6 0,
 zF 26 25 2,
 zL 27 26,
 zQ 28 .lenS 27,
 zV 29 0])
 (.block 0 (.loop L_delay_More_0)))
 (.seq (.ops [zM 48 8,
 zM 4 48,
 zV 5 0])
 .ret))))))⟩
abbrev f_delay_More : Nat := 15
abbrev C_delay_More : AFunc := C15
def L_escapementref09_More_0 : AC := (.seq (.seq (.ops [zM 24 8,
 zM 25 0,
 zM 26 1,
 zR 27 (.iaddrS 3) 25 26,
 zF 28 27 2,
 zL 29 28,
 zQ 30 .lenS 29,
 zR 31 (.bin .lss) 24 30])
 (.cond (.t 31)
 .skip
 (.exit 0)))
 (.seq (.block 1 (.seq (.ops [zM 34 0,
 zM 35 1,
 zR 36 (.iaddrS 3) 34 35,
 zF 37 36 2,
 zL 38 37,
 zM 39 8,
 zR 40 (.iaddrS 8) 38 39,
 zO 41 8 40,
 ⟨some 9, none, .a (.alloc [zz, zz, zz, zz, zz, zz, zz, zz]), []⟩,
 zS 8 [.t 9, .t 41]])
 (.seq (.ops [zV 10 0])
 (.seq (.seq (.ops [zF 42 9 5,
 zL 43 42,
 zP 44 (.bin .gtr) [.t 43, zI 0]])
 (.cond (.t 44)
 (.dops [zF 45 9 7,
 zL 46 45,
 zM 47 0,
 zM 48 1,
 zO 49 8 9,
 zC3 50 38 47 48 49,
 zF 51 9 6,
 zL 52 51,
 zR 53 (.bin .add) 50 52,
 zP 54 (.bin .sub) [.t 53, zI 1],
 zR 55 (.bin .mul) 46 54,
 zM 10 55] [[], [0, 6], [], [], [], [], [], [0, 6], [], [], [], []])
 .skip))
 (.ops [zM 56 7,
 zM 57 10,
 ⟨some 58, none, .a (.bslice [zz] 1 1 [0]), [.t 57]⟩,
 zA 59 1 8 56 58,
 zM 7 59])))))
 (.ops [zM 32 8,
 zP 33 (.bin .add) [.t 32, zI 1],
 zM 8 33])))
def C16 : AFunc := ⟨61, [.tmp 4, .tmp 5],
 (.seq (.ops [zK 4 .nils,
 zV 5 0])
 (.seq (.seq (.ops [zM 11 0,
 zC1 12 18 11,
 zM 6 12])
 (.seq (.ops [zM 13 6,
 zP 14 (.bin .neq) [.t 13, zI 0]])
 (.cond (.t 14)
 (.seq (.ops [zM 15 6,
 zK 4 .nils,
 zM 5 15])
 .ret)
 .skip)))
 (.seq (.seq (.ops [zM 16 1,
 zP 17 (.bin .lss) [.t 16, zI 0],
 zM 18 17,
 zMg 19 1 18 false,
 zMg 20 0 18 false,
 zPg 21 .lenS [.t 20] 18 false,
 zPg 22 (.bin .geq) [.t 19, .t 21] 18 false,
 zP 23 .pick [.t 18, .c (.bool true), .t 22]])
 (.cond (.t 23)
 (.seq (.ops [zK 4 .nils,
 zV 5 9])
 .ret)
 .skip))
 (.seq (.ops [zK 7 .nils])
 (.seq (.seq (.ops [zV 8 0])
 (.block 0 (.loop L_escapementref09_More_0)))
 (.seq (.ops [zM 60 7,
 zM 4 60,
 zV 5 0])
 .ret))))))⟩
abbrev f_escapementref09_More : Nat := 16
abbrev C_escapementref09_More : AFunc := C16
def L_delay_Check_0 : AC := (.seq (.ops [zR 12 (.bin .lss) 11 10])
 (.seq (.cond (.t 12)
 .skip
 (.exit 0))
 (.seq (.block 1 (.seq (.ops [zR 13 (.iaddrS 3) 9 11,
 zO 14 3 13,
 ⟨some 4, none, .a (.alloc [zz, zz, .nils]), []⟩,
 zS 3 [.t 4, .t 14]])
 (.seq (.seq (.ops [zF 15 4 0,
 zL 16 15,
 zP 17 (.bin .lss) [.t 16, zI 1],
 zM 18 17,
 zFg 19 4 0 18 false,
 zLg 20 19 18 false,
 zPg 21 (.bin .gtr) [.t 20, zI 64] 18 false,
 zP 22 .pick [.t 18, .c (.bool true), .t 21],
 zM 23 22,
 zFg 24 4 1 23 false,
 zLg 25 24 23 false,
 zPg 26 (.bin .lss) [.t 25, zI 1] 23 false,
 zP 27 .pick [.t 23, .c (.bool true), .t 26],
 zM 28 27,
 zFg 29 4 1 28 false,
 zLg 30 29 28 false,
 zFg 31 4 0 28 false,
 zLg 32 31 28 false,
 zPg 33 (.bin .gtr) [.t 30, .t 32] 28 false,
 zP 34 .pick [.t 28, .c (.bool true), .t 33]])
 (.cond (.t 34)
 (.seq (.ops [zV 2 2])
 .ret)
 .skip))
 (.seq (.seq (.dops [zF 35 4 2,
 zL 36 35,
 zF 37 4 2,
 zL 38 37,
 zQ 39 .lenS 38,
 ⟨some 40, none, .a (.mkslice [zz] 1 8), [.t 39, .t 39]⟩,
 zC2 41 28 36 40,
 zM 5 41] [[], [], [], [], [], [], [], []])
 (.seq (.ops [zM 42 5,
 zP 43 (.bin .neq) [.t 42, zI 0]])
 (.cond (.t 43)
 (.seq (.ops [zM 44 5,
 zM 2 44])
 .ret)
 .skip)))
 (.seq (.ops [zF 45 4 2,
 zL 46 45,
 zQ 47 (.mkfunc (.func 40) 0) 4,
 zC2 48 39 46 47])
 (.cond (.t 48)
 (.seq (.ops [zV 2 2])
 .ret)
 .skip))))))
 (.ops [zP 49 (.bin .add) [.t 11, zI 1],
 zM 11 49]))))
def C17 : AFunc := ⟨50, [.tmp 2],
 (.seq (.ops [zV 2 0])
 (.seq (.seq (.ops [zM 6 0,
 zQ 7 .lenS 6,
 zP 8 (.bin .gtr) [.t 7, zI 4]])
 (.cond (.t 8)
 (.seq (.ops [zV 2 2])
 .ret)
 .skip))
 (.seq (.seq (.ops [zM 9 0,
 zQ 10 .lenS 9,
 zV 11 0])
 (.block 0 (.loop L_delay_Check_0)))
 (.seq (.ops [zV 2 0])
 .ret))))⟩
abbrev f_delay_Check : Nat := 17
abbrev C_delay_Check : AFunc := C17
def L_escapementref09_Check_1 : AC := (.seq (.seq (.ops [zM 45 5,
 zF 46 4 2,
 zL 47 46,
 zQ 48 .lenS 47,
 zR 49 (.bin .lss) 45 48])
 (.cond (.t 49)
 .skip
 (.exit 2)))
 (.seq (.block 3 (.seq (.dops [zF 52 4 2,
 zL 53 52,
 zM 54 5,
 zR 55 (.iaddrS 8) 53 54,
 zO 56 8 55,
 zF 57 4 1,
 zL 58 57,
 zC2 59 43 56 58,
 zQ 60 .not 59] [[], [], [], [], [], [], [], [], []])
 (.cond (.t 60)
 (.seq (.ops [zV 2 2])
 .ret)
 .skip)))
 (.ops [zM 50 5,
 zP 51 (.bin .add) [.t 50, zI 1],
 zM 5 51])))
def L_escapementref09_Check_0 : AC := (.seq (.seq (.ops [zM 9 3,
 zM 10 0,
 zQ 11 .lenS 10,
 zR 12 (.bin .lss) 9 11])
 (.cond (.t 12)
 .skip
 (.exit 0)))
 (.seq (.block 1 (.seq (.ops [zM 15 0,
 zM 16 3,
 zR 17 (.iaddrS 3) 15 16,
 zO 18 3 17,
 ⟨some 4, none, .a (.alloc [zz, zz, .nils]), []⟩,
 zS 3 [.t 4, .t 18]])
 (.seq (.seq (.ops [zF 19 4 0,
 zL 20 19,
 zP 21 (.bin .lss) [.t 20, zI 1],
 zM 22 21,
 zFg 23 4 0 22 false,
 zLg 24 23 22 false,
 zPg 25 (.bin .gtr) [.t 24, zI 64] 22 false,
 zP 26 .pick [.t 22, .c (.bool true), .t 25],
 zM 27 26,
 zFg 28 4 1 27 false,
 zLg 29 28 27 false,
 zPg 30 (.bin .lss) [.t 29, zI 1] 27 false,
 zP 31 .pick [.t 27, .c (.bool true), .t 30],
 zM 32 31,
 zFg 33 4 1 32 false,
 zLg 34 33 32 false,
 zFg 35 4 0 32 false,
 zLg 36 35 32 false,
 zPg 37 (.bin .gtr) [.t 34, .t 36] 32 false,
 zP 38 .pick [.t 32, .c (.bool true), .t 37],
 zM 39 38,
 zFg 40 4 2 39 false,
 zLg 41 40 39 false,
 zCg 42 42 [.t 41] 39 false,
 zPg 43 .not [.t 42] 39 false,
 zP 44 .pick [.t 39, .c (.bool true), .t 43]])
 (.cond (.t 44)
 (.seq (.ops [zV 2 2])
 .ret)
 .skip))
 (.seq (.ops [zV 5 0])
 (.block 2 (.loop L_escapementref09_Check_1))))))
 (.ops [zM 13 3,
 zP 14 (.bin .add) [.t 13, zI 1],
 zM 3 14])))
def C18 : AFunc := ⟨61, [.tmp 2],
 (.seq (.ops [zV 2 0])
 (.seq (.seq (.ops [zM 6 0,
 zQ 7 .lenS 6,
 zP 8 (.bin .gtr) [.t 7, zI 4]])
 (.cond (.t 8)
 (.seq (.ops [zV 2 2])
 .ret)
 .skip))
 (.seq (.seq (.ops [zV 3 0])
 (.block 0 (.loop L_escapementref09_Check_0)))
 (.seq (.ops [zV 2 0])
 .ret))))⟩
abbrev f_escapementref09_Check : Nat := 18
abbrev C_escapementref09_Check : AFunc := C18
def L_escapementref00_EqInts_0 : AC := (.seq (.seq (.ops [zM 11 5,
 zM 12 0,
 zQ 13 .lenS 12,
 zR 14 (.bin .lss) 11 13])
 (.cond (.t 14)
 .skip
 (.exit 0)))
 (.seq (.block 1 (.seq (.dops [zM 17 0,
 zM 18 5,
 zR 19 (.iaddrS 1) 17 18,
 zL 20 19,
 zM 21 1,
 zM 22 5,
 zR 23 (.iaddrS 1) 21 22,
 zL 24 23,
 zR 25 (.bin .neq) 20 24] [[], [], [], [], [], [], [], [], []])
 (.cond (.t 25)
 (.seq (.ops [zK 4 (.bool false)])
 .ret)
 .skip)))
 (.ops [zM 15 5,
 zP 16 (.bin .add) [.t 15, zI 1],
 zM 5 16])))
def C19 : AFunc := ⟨26, [.tmp 4],
 (.seq (.ops [zK 4 (.bool false)])
 (.seq (.seq (.ops [zM 6 0,
 zQ 7 .lenS 6,
 zM 8 1,
 zQ 9 .lenS 8,
 zR 10 (.bin .neq) 7 9])
 (.cond (.t 10)
 (.seq (.ops [zK 4 (.bool false)])
 .ret)
 .skip))
 (.seq (.seq (.ops [zV 5 0])
 (.block 0 (.loop L_escapementref00_EqInts_0)))
 (.seq (.ops [zK 4 (.bool true)])
 .ret))))⟩
abbrev f_escapementref00_EqInts : Nat := 19
abbrev C_escapementref00_EqInts : AFunc := C19
def C20 : AFunc := ⟨97, [.tmp 0],
 (.seq (.ops [zK 0 (.bool false)])
 (.seq (.ops [zC0 15 44,
 zM 1 15])
 (.seq (.dops [zM 16 1,
 zP 17 (.iaddrS 3) [.t 16, zI 0],
 zO 18 3 17,
 zM 19 1,
 zP 20 (.iaddrS 3) [.t 19, zI 2],
 zO 21 3 20,
 ⟨some 22, none, .a (.bslice [zz, zz, .nils] 2 3 [0, 1]), [.t 18, .t 21]⟩,
 zM 2 22] [[], [], [], [], [], [], [], []])
 (.seq (.ops [zM 24 1,
 zC 25 13 [.t 24, zI 0, zI 0],
 zM 23 25,
 zQ 26 (.ext 0) 23,
 zQ 27 (.ext 1) 23,
 zM 3 26,
 zM 4 27])
 (.seq (.ops [zM 29 1,
 zC 30 13 [.t 29, zI 1, zI 0],
 zM 28 30,
 zQ 31 (.ext 0) 28,
 zQ 32 (.ext 1) 28,
 zM 5 31,
 zM 6 32])
 (.seq (.ops [zM 34 2,
 zC 35 13 [.t 34, zI 0, zI 0],
 zM 33 35,
 zQ 36 (.ext 0) 33,
 zQ 37 (.ext 1) 33,
 zM 7 36,
 zM 8 37])
 (.seq (.ops [zM 39 1,
 zC 40 21 [.t 39, zI 1, zI 11],
 zM 38 40,
 zQ 41 (.ext 0) 38,
 zQ 42 (.ext 1) 38,
 zM 9 41,
 zM 10 42])
 (.seq (.ops [zM 44 1,
 zC 45 21 [.t 44, zI 1, zI 12],
 zM 43 45,
 zQ 46 (.ext 0) 43,
 zQ 47 (.ext 1) 43,
 zM 11 46,
 zM 12 47])
 (.seq (.ops [zM 49 2,
 zC 50 21 [.t 49, zI 0, zI 3],
 zM 48 50,
 zQ 51 (.ext 0) 48,
 zQ 52 (.ext 1) 48,
 zM 13 51,
 zM 14 52])
 (.seq (.ops [zM 53 3,
 zP 54 (.bin .eql) [.t 53, zI 14],
 zM 55 54,
 zMg 56 5 55 true,
 zPg 57 (.bin .eql) [.t 56, zI 10] 55 true,
 zP 58 .pick [.t 55, .t 57, .c (.bool false)],
 zM 59 58,
 zMg 60 7 59 true,
 zPg 61 (.bin .eql) [.t 60, zI 0] 59 true,
 zP 62 .pick [.t 59, .t 61, .c (.bool false)],
 zM 63 62,
 zMg 64 8 63 true,
 zPg 65 (.bin .eql) [.t 64, zI 0] 63 true,
 zP 66 .pick [.t 63, .t 65, .c (.bool false)],
 zM 67 66,
 zMg 68 1 67 true,
 ⟨some 69, some (67, true), .a (.bslice [zz] 1 1 [0]), [zI 15]⟩,
 zCg 70 45 [.t 68, zI 0, .t 69] 67 true,
 zP 71 .pick [.t 67, .t 70, .c (.bool false)],
 zM 72 71,
 zMg 73 1 72 true,
 ⟨some 74, some (72, true), .a (.bslice [zz] 1 1 [0]), [zI 20]⟩,
 zCg 75 45 [.t 73, zI 1, .t 74] 72 true,
 zP 76 .pick [.t 72, .t 75, .c (.bool false)],
 zM 77 76,
 zMg 78 1 77 true,
 zCg 79 45 [.t 78, zI 2, .c .nils] 77 true,
 zP 80 .pick [.t 77, .t 79, .c (.bool false)],
 zM 81 80,
 zMg 82 9 81 true,
 zPg 83 (.bin .eql) [.t 82, zI 11] 81 true,
 zP 84 .pick [.t 81, .t 83, .c (.bool false)],
 zM 85 84,
 zMg 86 11 85 true,
 zPg 87 (.bin .eql) [.t 86, zI 0] 85 true,
 zP 88 .pick [.t 85, .t 87, .c (.bool false)],
 zM 89 88,
 zMg 90 13 89 true,
 zPg 91 (.bin .eql) [.t 90, zI 3] 89 true,
 zP 92 .pick [.t 89, .t 91, .c (.bool false)],
 zM 93 92,
 zMg 94 14 93 true,
 zPg 95 (.bin .eql) [.t 94, zI 0] 93 true,
 zP 96 .pick [.t 93, .t 95, .c (.bool false)],
 zM 0 96])
 .ret))))))))))⟩
abbrev f_escapementlaw09_works : Nat := 20
abbrev C_escapementlaw09_works : AFunc := C20
def L_delay_Of_0 : AC := (.seq (.ops [zR 29 (.bin .lss) 28 27])
 (.seq (.cond (.t 29)
 .skip
 (.exit 1))
 (.seq (.block 2 (.seq (.ops [zR 30 (.iaddrS 8) 26 28,
 zO 31 8 30,
 ⟨some 10, none, .a (.alloc [zz, zz, zz, zz, zz, zz, zz, zz]), []⟩,
 zS 8 [.t 10, .t 31]])
 (.seq (.ops [zF 32 10 1,
 zL 33 32,
 zM 34 2,
 zR 35 (.bin .gtr) 33 34])
 (.cond (.t 35)
 (.ops [zM 36 6,
 zO 37 5 8,
 zO 38 8 10,
 zC2 39 46 37 38,
 zR 40 .mx 36 39,
 zM 6 40])
 .skip))))
 (.ops [zP 41 (.bin .add) [.t 28, zI 1],
 zM 28 41]))))
def C21 : AFunc := ⟨43, [.tmp 6, .tmp 7],
 (.seq (.ops [zV 6 0,
 zV 7 0])
 (.seq (.ops [zM 12 0,
 zM 13 1,
 zC2 14 36 12 13,
 zM 11 14,
 zQ 15 (.ext 0) 11,
 zQ 16 (.ext 1) 11,
 ⟨some 8, none, .a (.alloc [zz, zz, .nils, .nils, zz]), []⟩,
 zS 5 [.t 8, .t 15],
 zM 7 16])
 (.seq (.block 0 (.seq (.ops [zM 18 7,
 zP 19 (.bin .neq) [.t 18, zI 0],
 zM 17 19])
 (.cond (.t 17)
 (.seq (.ops [zM 20 7,
 zV 6 0,
 zM 7 20])
 .ret)
 (.seq (.ops [zM 22 2,
 zP 23 (.bin .lss) [.t 22, zI 0],
 zM 21 23])
 (.cond (.t 21)
 (.seq (.ops [zV 6 0,
 zV 7 2])
 .ret)
 .skip)))))
 (.seq (.seq (.ops [zF 24 8 0,
 zF 25 24 2,
 zL 26 25,
 zQ 27 .lenS 26,
 zV 28 0])
 (.block 1 (.loop L_delay_Of_0)))
 (.seq (.ops [zM 42 6,
 zM 6 42,
 zV 7 0])
 .ret)))))⟩
abbrev f_delay_Of : Nat := 21
abbrev C_delay_Of : AFunc := C21
def L_escapementref09_Of_0 : AC := (.seq (.seq (.ops [zM 27 10,
 zM 28 0,
 zM 29 1,
 zR 30 (.iaddrS 3) 28 29,
 zF 31 30 2,
 zL 32 31,
 zQ 33 .lenS 32,
 zR 34 (.bin .lss) 27 33])
 (.cond (.t 34)
 .skip
 (.exit 0)))
 (.seq (.block 1 (.seq (.ops [zM 37 0,
 zM 38 1,
 zR 39 (.iaddrS 3) 37 38,
 zF 40 39 2,
 zL 41 40,
 zM 42 10,
 zR 43 (.iaddrS 8) 41 42,
 zO 44 8 43,
 ⟨some 11, none, .a (.alloc [zz, zz, zz, zz, zz, zz, zz, zz]), []⟩,
 zS 8 [.t 11, .t 44]])
 (.seq (.seq (.ops [zF 45 11 1,
 zL 46 45,
 zM 47 2,
 zR 48 (.bin .leq) 46 47])
 (.cond (.t 48)
 (.exit 1)
 .skip))
 (.seq (.ops [zM 49 9,
 zF 50 11 4,
 zL 51 50,
 zR 52 .mx 49 51,
 zM 9 52])
 (.seq (.ops [zF 53 11 5,
 zL 54 53,
 zP 55 (.bin .gtr) [.t 54, zI 0]])
 (.cond (.t 55)
 (.dops [zM 56 9,
 zM 57 0,
 zM 58 1,
 zO 59 8 11,
 zC3 60 38 57 58 59,
 zF 61 11 6,
 zL 62 61,
 zP 63 (.bin .mul) [zI 2, .t 62],
 zR 64 (.bin .add) 60 63,
 zP 65 (.bin .sub) [.t 64, zI 1],
 zR 66 .mx 56 65,
 zM 9 66] [[], [], [], [], [], [], [0, 5], [], [], [], [], []])
 .skip))))))
 (.ops [zM 35 10,
 zP 36 (.bin .add) [.t 35, zI 1],
 zM 10 36])))
def C22 : AFunc := ⟨68, [.tmp 6, .tmp 7],
 (.seq (.ops [zV 6 0,
 zV 7 0])
 (.seq (.seq (.ops [zM 12 0,
 zC1 13 18 12,
 zM 8 13])
 (.seq (.ops [zM 14 8,
 zP 15 (.bin .neq) [.t 14, zI 0]])
 (.cond (.t 15)
 (.seq (.ops [zM 16 8,
 zV 6 0,
 zM 7 16])
 .ret)
 .skip)))
 (.seq (.seq (.ops [zM 17 1,
 zP 18 (.bin .lss) [.t 17, zI 0],
 zM 19 18,
 zMg 20 1 19 false,
 zMg 21 0 19 false,
 zPg 22 .lenS [.t 21] 19 false,
 zPg 23 (.bin .geq) [.t 20, .t 22] 19 false,
 zP 24 .pick [.t 19, .c (.bool true), .t 23]])
 (.cond (.t 24)
 (.seq (.ops [zV 6 0,
 zV 7 9])
 .ret)
 .skip))
 (.seq (.seq (.ops [zM 25 2,
 zP 26 (.bin .lss) [.t 25, zI 0]])
 (.cond (.t 26)
 (.seq (.ops [zV 6 0,
 zV 7 2])
 .ret)
 .skip))
 (.seq (.ops [zV 9 0])
 (.seq (.seq (.ops [zV 10 0])
 (.block 0 (.loop L_escapementref09_Of_0)))
 (.seq (.ops [zM 67 9,
 zM 6 67,
 zV 7 0])
 .ret)))))))⟩
abbrev f_escapementref09_Of : Nat := 22
abbrev C_escapementref09_Of : AFunc := C22
def L_escapementlaw09_made_1 : AC := (.seq (.seq (.ops [zM 40 8,
 zM 41 0,
 zM 42 6,
 zR 43 (.iaddrS 3) 41 42,
 zF 44 43 2,
 zL 45 44,
 zQ 46 .lenS 45,
 zR 47 (.bin .lss) 40 46,
 zM 48 47,
 zMg 49 8 48 true,
 zPg 50 (.bin .lss) [.t 49, zI 4] 48 true,
 zP 51 .pick [.t 48, .t 50, .c (.bool false)]])
 (.cond (.t 51)
 .skip
 (.exit 2)))
 (.seq (.block 3 (.seq (.ops [zM 54 0,
 zM 55 6,
 zR 56 (.iaddrS 3) 54 55,
 zF 57 56 2,
 zL 58 57,
 zM 59 8,
 zR 60 (.iaddrS 8) 58 59,
 zO 61 8 60,
 ⟨some 9, none, .a (.alloc [zz, zz, zz, zz, zz, zz, zz, zz]), []⟩,
 zS 8 [.t 9, .t 61]])
 (.seq (.ops [zF 62 9 0,
 zL 63 62,
 zC 64 24 [.t 63, zI 64],
 zP 65 (.bin .add) [zI 1, .t 64],
 zQ 66 (.build [zz, zz, zz, zz, zz, zz, zz, zz] [(0, 1)]) 65,
 ⟨some 10, none, .a (.alloc [zz, zz, zz, zz, zz, zz, zz, zz]), []⟩,
 zS 8 [.t 10, .t 66]])
 (.seq (.ops [zF 67 9 1,
 zL 68 67,
 zF 69 10 0,
 zL 70 69,
 zC2 71 24 68 70,
 zP 72 (.bin .add) [zI 1, .t 71],
 zF 73 10 1,
 zS 1 [.t 73, .t 72]])
 (.seq (.ops [zF 74 9 2,
 zL 75 74,
 zF 76 10 1,
 zL 77 76,
 zC2 78 24 75 77,
 zP 79 (.bin .add) [zI 1, .t 78],
 zF 80 10 2,
 zS 1 [.t 80, .t 79]])
 (.seq (.ops [zF 81 9 4,
 zL 82 81,
 zF 83 10 2,
 zL 84 83,
 zP 85 (.bin .add) [.t 84, zI 1],
 zC2 86 24 82 85,
 zF 87 10 4,
 zS 1 [.t 87, .t 86]])
 (.seq (.ops [zF 88 9 5,
 zL 89 88,
 zC 90 24 [.t 89, zI 5],
 zF 91 10 5,
 zS 1 [.t 91, .t 90]])
 (.seq (.seq (.ops [zF 92 10 5,
 zL 93 92,
 zP 94 (.bin .gtr) [.t 93, zI 0]])
 (.cond (.t 94)
 (.seq (.ops [zF 95 9 6,
 zL 96 95,
 zF 97 7 1,
 zL 98 97,
 zF 99 10 2,
 zL 100 99,
 zR 101 .mn 98 100,
 zC2 102 24 96 101,
 zP 103 (.bin .add) [zI 1, .t 102],
 zF 104 10 6,
 zS 1 [.t 104, .t 103]])
 (.dops [zF 105 9 7,
 zL 106 105,
 zF 107 10 2,
 zL 108 107,
 zF 109 10 6,
 zL 110 109,
 zR 111 (.bin .quo) 108 110,
 zC2 112 24 106 111,
 zP 113 (.bin .add) [zI 1, .t 112],
 zF 114 10 7,
 zS 1 [.t 114, .t 113]] [[], [], [], [], [], [], [], [], [], [], []]))
 .skip))
 (.ops [zF 115 7 2,
 zL 116 115,
 zO 117 8 10,
 ⟨some 118, none, .a (.bslice [zz, zz, zz, zz, zz, zz, zz, zz] 1 8 [0]), [.t 117]⟩,
 zA 119 8 64 116 118,
 zF 120 7 2,
 zS 1 [.t 120, .t 119]])))))))))
 (.ops [zM 52 8,
 zP 53 (.bin .add) [.t 52, zI 1],
 zM 8 53])))
def L_escapementlaw09_made_0 : AC := (.seq (.seq (.ops [zM 11 6,
 zM 12 0,
 zQ 13 .lenS 12,
 zR 14 (.bin .lss) 11 13,
 zM 15 14,
 zMg 16 6 15 true,
 zMg 17 1 15 true,
 zPg 18 (.bin .lss) [.t 16, .t 17] 15 true,
 zP 19 .pick [.t 15, .t 18, .c (.bool false)]])
 (.cond (.t 19)
 .skip
 (.exit 0)))
 (.seq (.block 1 (.seq (.ops [zM 22 0,
 zM 23 6,
 zR 24 (.iaddrS 3) 22 23,
 zF 25 24 0,
 zL 26 25,
 zC 27 24 [.t 26, zI 64],
 zP 28 (.bin .add) [zI 1, .t 27],
 zQ 29 (.build [zz, zz, .nils] [(0, 1)]) 28,
 ⟨some 7, none, .a (.alloc [zz, zz, .nils]), []⟩,
 zS 3 [.t 7, .t 29]])
 (.seq (.dops [zM 30 0,
 zM 31 6,
 zR 32 (.iaddrS 3) 30 31,
 zF 33 32 1,
 zL 34 33,
 zF 35 7 0,
 zL 36 35,
 zC2 37 24 34 36,
 zP 38 (.bin .add) [zI 1, .t 37],
 zF 39 7 1,
 zS 1 [.t 39, .t 38]] [[], [], [], [], [], [], [], [], [], [], []])
 (.seq (.seq (.ops [zV 8 0])
 (.block 2 (.loop L_escapementlaw09_made_1)))
 (.ops [zM 121 5,
 zO 122 3 7,
 ⟨some 123, none, .a (.bslice [zz, zz, .nils] 1 3 [0]), [.t 122]⟩,
 zA 124 3 40 121 123,
 zM 5 124])))))
 (.ops [zM 20 6,
 zP 21 (.bin .add) [.t 20, zI 1],
 zM 6 21])))
def C23 : AFunc := ⟨126, [.tmp 4],
 (.seq (.ops [zK 4 .nils])
 (.seq (.ops [zK 5 .nils])
 (.seq (.seq (.ops [zV 6 0])
 (.block 0 (.loop L_escapementlaw09_made_0)))
 (.seq (.ops [zM 125 5,
 zM 4 125])
 .ret))))⟩
abbrev f_escapementlaw09_made : Nat := 23
abbrev C_escapementlaw09_made : AFunc := C23
def C24 : AFunc := ⟨14, [.tmp 4],
 (.seq (.ops [zV 4 0])
 (.seq (.ops [zM 5 0,
 zM 6 1,
 zR 7 (.bin .rem) 5 6,
 zM 0 7])
 (.seq (.seq (.ops [zM 8 0,
 zP 9 (.bin .lss) [.t 8, zI 0]])
 (.cond (.t 9)
 (.ops [zM 10 0,
 zM 11 1,
 zR 12 (.bin .add) 10 11,
 zM 0 12])
 .skip))
 (.seq (.ops [zM 13 0,
 zM 4 13])
 .ret))))⟩
abbrev f_escapementref00_Bring : Nat := 24
abbrev C_escapementref00_Bring : AFunc := C24
def C25 : AFunc := ⟨7, [.tmp 2],
 (.seq (.ops [zK 2 .nils])
 (.seq (.ops [zK 3 .nils])
 (.seq (.ops [zM 4 3,
 zM 5 0,
 zA 6 1 8 4 5,
 zM 2 6])
 .ret)))⟩
abbrev f_escapementref00_CopyInts : Nat := 25
abbrev C_escapementref00_CopyInts : AFunc := C25
def C26 : AFunc := ⟨27, [.tmp 6, .tmp 7],
 (.seq (.ops [zB 5 2,
 zV 6 0,
 zV 7 0])
 (.seq (.seq (.ops [zM 9 0,
 zM 10 1,
 zC2 11 28 9 10,
 zM 8 11])
 (.seq (.ops [zM 12 8,
 zP 13 (.bin .neq) [.t 12, zI 0],
 zM 14 13,
 zLg 15 5 14 false,
 zPg 16 (.bin .lss) [.t 15, zI 0] 14 false,
 zP 17 .pick [.t 14, .c (.bool true), .t 16],
 zM 18 17,
 zLg 19 5 18 false,
 zPg 20 (.bin .gtr) [.t 19, zI 1048576] 18 false,
 zP 21 .pick [.t 18, .c (.bool true), .t 20]])
 (.cond (.t 21)
 (.seq (.ops [zV 6 0,
 zV 7 2])
 .ret)
 .skip)))
 (.seq (.ops [zM 22 0,
 zM 23 1,
 zQ 24 (.mkfunc (.func 49) 0) 5,
 zC3 25 48 22 23 24,
 zC1 26 47 25,
 zM 6 26,
 zV 7 0])
 .ret)))⟩
abbrev f_demand_Of : Nat := 26
abbrev C_demand_Of : AFunc := C26
def L_escapementref08_Of_0 : AC := (.seq (.seq (.ops [zM 23 9,
 zM 24 0,
 zQ 25 .lenS 24,
 zR 26 (.bin .lss) 23 25])
 (.cond (.t 26)
 .skip
 (.exit 0)))
 (.seq (.block 1 (.seq (.ops [zM 29 2,
 zM 30 0,
 zM 31 9,
 zR 32 (.iaddrS 8) 30 31,
 zF 33 32 1,
 zL 34 33,
 zR 35 (.bin .geq) 29 34])
 (.cond (.t 35)
 (.seq (.dops [zM 36 2,
 zM 37 0,
 zM 38 9,
 zR 39 (.iaddrS 8) 37 38,
 zF 40 39 1,
 zL 41 40,
 zR 42 (.bin .sub) 36 41,
 zM 43 0,
 zM 44 9,
 zR 45 (.iaddrS 8) 43 44,
 zF 46 45 0,
 zL 47 46,
 zR 48 (.bin .quo) 42 47,
 zP 49 (.bin .add) [zI 1, .t 48],
 zM 10 49] [[], [], [], [], [], [], [], [], [], [], [], [], [], [], []])
 (.dops [zM 50 8,
 zM 51 10,
 zM 52 0,
 zM 53 9,
 zR 54 (.iaddrS 8) 52 53,
 zF 55 54 2,
 zL 56 55,
 zM 57 1,
 zM 58 9,
 zR 59 (.iaddrS 1) 57 58,
 zL 60 59,
 zR 61 (.bin .add) 56 60,
 zR 62 (.bin .mul) 51 61,
 zR 63 (.bin .add) 50 62,
 zM 8 63] [[], [], [], [], [], [], [], [], [], [], [], [], [], [], []]))
 .skip)))
 (.ops [zM 27 9,
 zP 28 (.bin .add) [.t 27, zI 1],
 zM 9 28])))
def C27 : AFunc := ⟨65, [.tmp 6, .tmp 7],
 (.seq (.ops [zV 6 0,
 zV 7 0])
 (.seq (.seq (.ops [zM 11 0,
 zM 12 1,
 zC2 13 29 11 12,
 zP 14 (.bin .neq) [.t 13, zI 0],
 zM 15 14,
 zMg 16 2 15 false,
 zPg 17 (.bin .lss) [.t 16, zI 0] 15 false,
 zP 18 .pick [.t 15, .c (.bool true), .t 17],
 zM 19 18,
 zMg 20 2 19 false,
 zPg 21 (.bin .gtr) [.t 20, zI 1048576] 19 false,
 zP 22 .pick [.t 19, .c (.bool true), .t 21]])
 (.cond (.t 22)
 (.seq (.ops [zV 6 0,
 zV 7 2])
 .ret)
 .skip))
 (.seq (.ops [zV 8 0])
 (.seq (.seq (.ops [zV 9 0])
 (.block 0 (.loop L_escapementref08_Of_0)))
 (.seq (.ops [zM 64 8,
 zM 6 64,
 zV 7 0])
 .ret)))))⟩
abbrev f_escapementref08_Of : Nat := 27
abbrev C_escapementref08_Of : AFunc := C27
def C28 : AFunc := ⟨21, [.tmp 4],
 (.seq (.ops [zV 4 0])
 (.seq (.ops [zM 6 1,
 zC 7 50 [.t 6, .c (.func (.func 51) [] [])],
 zM 5 7])
 (.seq (.seq (.ops [zM 8 5,
 zM 9 8,
 zMg 10 0 9 false,
 zCg 11 52 [.t 10] 9 false,
 zPg 12 .not [.t 11] 9 false,
 zP 13 .pick [.t 9, .c (.bool true), .t 12],
 zM 14 13,
 zMg 15 1 14 false,
 zPg 16 .lenS [.t 15] 14 false,
 zMg 17 0 14 false,
 zPg 18 .lenS [.t 17] 14 false,
 zPg 19 (.bin .neq) [.t 16, .t 18] 14 false,
 zP 20 .pick [.t 14, .c (.bool true), .t 19]])
 (.cond (.t 20)
 (.seq (.ops [zV 4 2])
 .ret)
 .skip))
 (.seq (.ops [zV 4 0])
 .ret))))⟩
abbrev f_demand_Check : Nat := 28
abbrev C_demand_Check : AFunc := C28
def L_escapementref08_Check_0 : AC := (.seq (.seq (.ops [zM 16 6,
 zM 17 1,
 zQ 18 .lenS 17,
 zR 19 (.bin .lss) 16 18,
 zM 20 19,
 zMg 21 5 20 true,
 zP 22 .pick [.t 20, .t 21, .c (.bool false)]])
 (.cond (.t 22)
 .skip
 (.exit 0)))
 (.seq (.block 1 (.ops [zM 25 1,
 zM 26 6,
 zR 27 (.iaddrS 1) 25 26,
 zL 28 27,
 zP 29 (.bin .geq) [.t 28, zI 0],
 zM 30 29,
 zMg 31 1 30 true,
 zMg 32 6 30 true,
 zPg 33 (.iaddrS 1) [.t 31, .t 32] 30 true,
 zLg 34 33 30 true,
 zPg 35 (.bin .leq) [.t 34, zI 32768] 30 true,
 zP 36 .pick [.t 30, .t 35, .c (.bool false)],
 zM 5 36]))
 (.ops [zM 23 6,
 zP 24 (.bin .add) [.t 23, zI 1],
 zM 6 24])))
def C29 : AFunc := ⟨39, [.tmp 4],
 (.seq (.ops [zV 4 0])
 (.seq (.ops [zM 7 0,
 zC1 8 42 7,
 zM 9 8,
 zMg 10 1 9 true,
 zPg 11 .lenS [.t 10] 9 true,
 zMg 12 0 9 true,
 zPg 13 .lenS [.t 12] 9 true,
 zPg 14 (.bin .eql) [.t 11, .t 13] 9 true,
 zP 15 .pick [.t 9, .t 14, .c (.bool false)],
 zM 5 15])
 (.seq (.seq (.ops [zV 6 0])
 (.block 0 (.loop L_escapementref08_Check_0)))
 (.seq (.seq (.ops [zM 37 5,
 zQ 38 .not 37])
 (.cond (.t 38)
 (.seq (.ops [zV 4 2])
 .ret)
 .skip))
 (.seq (.ops [zV 4 0])
 .ret)))))⟩
abbrev f_escapementref08_Check : Nat := 29
abbrev C_escapementref08_Check : AFunc := C29
def L_escapementlaw08_works_0 : AC := (.seq (.seq (.ops [zM 20 3,
 zM 21 1,
 zQ 22 .lenS 21,
 zR 23 (.bin .lss) 20 22])
 (.cond (.t 23)
 .skip
 (.exit 0)))
 (.seq (.block 1 (.seq (.dops [zC0 27 53,
 ⟨some 28, none, .a (.bslice [zz] 2 1 [0, 1]), [zI 0, zI 0]⟩,
 zM 29 1,
 zM 30 3,
 zR 31 (.iaddrS 1) 29 30,
 zL 32 31,
 zC3 33 26 27 28 32,
 zM 26 33,
 zQ 34 (.ext 0) 26,
 zQ 35 (.ext 1) 26,
 zM 4 34,
 zM 5 35] [[], [], [], [], [], [0, 1], [], [], [], [], [], []])
 (.seq (.ops [zM 36 4,
 zM 37 2,
 zM 38 3,
 zR 39 (.iaddrS 1) 37 38,
 zL 40 39,
 zR 41 (.bin .neq) 36 40,
 zM 42 41,
 zMg 43 5 42 false,
 zPg 44 (.bin .neq) [.t 43, zI 0] 42 false,
 zP 45 .pick [.t 42, .c (.bool true), .t 44]])
 (.cond (.t 45)
 (.seq (.ops [zK 0 (.bool false)])
 .ret)
 .skip))))
 (.ops [zM 24 3,
 zP 25 (.bin .add) [.t 24, zI 1],
 zM 3 25])))
def C30 : AFunc := ⟨105, [.tmp 0],
 (.seq (.ops [zK 0 (.bool false)])
 (.seq (.ops [⟨some 18, none, .a (.bslice [zz] 6 1 [0, 1, 2, 3, 4, 5]), [zI 3, zI 4, zI 8, zI 9, zI 10, zI 14]⟩,
 ⟨some 19, none, .a (.bslice [zz] 6 1 [0, 1, 2, 3, 4, 5]), [zI 0, zI 2, zI 2, zI 4, zI 7, zI 9]⟩,
 zM 1 18,
 zM 2 19])
 (.seq (.seq (.ops [zV 3 0])
 (.block 0 (.loop L_escapementlaw08_works_0)))
 (.seq (.ops [zC0 47 53,
 zP 48 (.slice 8 false true false) [.t 47, zI 1],
 ⟨some 49, none, .a (.bslice [zz] 1 1 [0]), [zI 1]⟩,
 zC 50 26 [.t 48, .t 49, zI 9],
 zM 46 50,
 zQ 51 (.ext 0) 46,
 zQ 52 (.ext 1) 46,
 zM 6 51,
 zM 7 52])
 (.seq (.ops [zC0 54 53,
 zC 55 31 [.t 54, zI 4],
 zM 53 55,
 zQ 56 (.ext 0) 53,
 zQ 57 (.ext 1) 53,
 zM 8 56,
 zM 9 57])
 (.seq (.ops [zC0 59 53,
 zC 60 31 [.t 59, zI 7],
 zM 58 60,
 zQ 61 (.ext 0) 58,
 zQ 62 (.ext 1) 58,
 zM 10 61,
 zM 11 62])
 (.seq (.ops [zC0 64 53,
 ⟨some 65, none, .a (.bslice [zz] 2 1 [0, 1]), [zI 0, zI 0]⟩,
 zC 66 33 [.t 64, .t 65, zI 20],
 zM 63 66,
 zQ 67 (.ext 0) 63,
 zQ 68 (.ext 1) 63,
 zM 12 67,
 zM 13 68])
 (.seq (.ops [zP 70 (.build [zz, zz, zz, zz, zz, zz, zz, zz] [(0, 1), (1, 1), (2, 1)]) [zI 64, zI 1, zI 1],
 zP 71 (.build [zz, zz, zz, zz, zz, zz, zz, zz] [(0, 1), (1, 1), (2, 1)]) [zI 63, zI 1, zI 1],
 zP 72 (.build [zz, zz, zz, zz, zz, zz, zz, zz] [(0, 1), (1, 1), (2, 1)]) [zI 61, zI 1, zI 1],
 ⟨some 73, none, .a (.bslice [zz, zz, zz, zz, zz, zz, zz, zz] 3 8 [0, 1, 2]), [.t 70, .t 71, .t 72]⟩,
 zC 74 31 [.t 73, zI 59],
 zM 69 74,
 zQ 75 (.ext 0) 69,
 zQ 76 (.ext 1) 69,
 zM 14 75,
 zM 15 76])
 (.seq (.ops [zC0 78 53,
 zP 79 (.slice 8 false true false) [.t 78, zI 1],
 zC 80 26 [.t 79, .c .nils, zI 3],
 zM 77 80,
 zQ 81 (.ext 0) 77,
 zQ 82 (.ext 1) 77,
 zM 16 81,
 zM 17 82])
 (.seq (.ops [zM 83 6,
 zP 84 (.bin .eql) [.t 83, zI 6],
 zM 85 84,
 zMg 86 8 85 true,
 zPg 87 (.bin .eql) [.t 86, zI 20] 85 true,
 zP 88 .pick [.t 85, .t 87, .c (.bool false)],
 zM 89 88,
 zMg 90 10 89 true,
 zPg 91 (.bin .eql) [.t 90, zI 70] 89 true,
 zP 92 .pick [.t 89, .t 91, .c (.bool false)],
 zM 93 92,
 zMg 94 12 93 true,
 zPg 95 (.bin .eql) [.t 94, zI 14] 93 true,
 zP 96 .pick [.t 93, .t 95, .c (.bool false)],
 zM 97 96,
 zMg 98 15 97 true,
 zPg 99 (.bin .eql) [.t 98, zI 5] 97 true,
 zP 100 .pick [.t 97, .t 99, .c (.bool false)],
 zM 101 100,
 zMg 102 17 101 true,
 zPg 103 (.bin .eql) [.t 102, zI 2] 101 true,
 zP 104 .pick [.t 101, .t 103, .c (.bool false)],
 zM 0 104])
 .ret))))))))))⟩
abbrev f_escapementlaw08_works : Nat := 30
abbrev C_escapementlaw08_works : AFunc := C30
def L_demand_Hyper_0 : AC := (.seq (.ops [zR 26 (.bin .lss) 25 24])
 (.seq (.cond (.t 26)
 .skip
 (.exit 0))
 (.seq (.block 1 (.seq (.ops [zR 27 (.iaddrS 8) 23 25,
 zO 28 8 27,
 ⟨some 8, none, .a (.alloc [zz, zz, zz, zz, zz, zz, zz, zz]), []⟩,
 zS 8 [.t 8, .t 28]])
 (.seq (.ops [zM 30 6,
 zF 31 8 0,
 zL 32 31,
 ⟨some 33, none, .a (.bslice [zz] 2 1 [0, 1]), [.t 30, .t 32]⟩,
 zC 34 54 [zI 4096, .t 33],
 zM 29 34,
 zQ 35 (.ext 0) 29,
 zQ 36 (.ext 1) 29,
 zM 9 35,
 zM 10 36])
 (.seq (.seq (.ops [zM 37 10,
 zP 38 (.bin .neq) [.t 37, zI 0]])
 (.cond (.t 38)
 (.seq (.ops [zV 4 0,
 zV 5 5])
 .ret)
 .skip))
 (.ops [zM 39 9,
 zM 6 39])))))
 (.ops [zP 40 (.bin .add) [.t 25, zI 1],
 zM 25 40]))))
def C31 : AFunc := ⟨42, [.tmp 4, .tmp 5],
 (.seq (.ops [zV 4 0,
 zV 5 0])
 (.seq (.seq (.ops [zM 11 0,
 zC1 12 52 11,
 zQ 13 .not 12,
 zM 14 13,
 zMg 15 1 14 false,
 zPg 16 (.bin .lss) [.t 15, zI 1] 14 false,
 zP 17 .pick [.t 14, .c (.bool true), .t 16],
 zM 18 17,
 zMg 19 1 18 false,
 zPg 20 (.bin .gtr) [.t 19, zI 64] 18 false,
 zP 21 .pick [.t 18, .c (.bool true), .t 20]])
 (.cond (.t 21)
 (.seq (.ops [zV 4 0,
 zV 5 2])
 .ret)
 .skip))
 (.seq (.ops [zM 22 1,
 zM 6 22])
 (.seq (.seq (.ops [zM 23 0,
 zQ 24 .lenS 23,
 zV 25 0])
 (.block 0 (.loop L_demand_Hyper_0)))
 (.seq (.ops [zM 41 6,
 zM 4 41,
 zV 5 0])
 .ret)))))⟩
abbrev f_demand_Hyper : Nat := 31
abbrev C_demand_Hyper : AFunc := C31
def L_escapementref08_Hyper_1 : AC := (.seq (.seq (.ops [zM 23 8,
 zM 24 0,
 zQ 25 .lenS 24,
 zR 26 (.bin .lss) 23 25])
 (.cond (.t 26)
 .skip
 (.exit 2)))
 (.seq (.block 3 (.ops [zM 29 7,
 zM 30 29,
 zMg 31 6 30 true,
 zMg 32 0 30 true,
 zMg 33 8 30 true,
 zPg 34 (.iaddrS 8) [.t 32, .t 33] 30 true,
 zFg 35 34 0 30 true,
 zLg 36 35 30 true,
 zPg 37 (.bin .rem) [.t 31, .t 36] 30 true,
 zPg 38 (.bin .eql) [.t 37, zI 0] 30 true,
 zP 39 .pick [.t 30, .t 38, .c (.bool false)],
 zM 7 39]))
 (.ops [zM 27 8,
 zP 28 (.bin .add) [.t 27, zI 1],
 zM 8 28])))
def L_escapementref08_Hyper_0 : AC := (.seq (.seq (.ops [zM 21 6,
 zP 22 (.bin .leq) [.t 21, zI 4096]])
 (.cond (.t 22)
 .skip
 (.exit 0)))
 (.block 1 (.seq (.ops [zK 7 (.bool true)])
 (.seq (.seq (.ops [zV 8 0])
 (.block 2 (.loop L_escapementref08_Hyper_1)))
 (.seq (.seq (.ops [zM 40 7])
 (.cond (.t 40)
 (.seq (.ops [zM 41 6,
 zM 4 41,
 zV 5 0])
 .ret)
 .skip))
 (.ops [zM 42 6,
 zM 43 1,
 zR 44 (.bin .add) 42 43,
 zM 6 44]))))))
def C32 : AFunc := ⟨45, [.tmp 4, .tmp 5],
 (.seq (.ops [zV 4 0,
 zV 5 0])
 (.seq (.seq (.ops [zM 9 0,
 zC1 10 42 9,
 zQ 11 .not 10,
 zM 12 11,
 zMg 13 1 12 false,
 zPg 14 (.bin .lss) [.t 13, zI 1] 12 false,
 zP 15 .pick [.t 12, .c (.bool true), .t 14],
 zM 16 15,
 zMg 17 1 16 false,
 zPg 18 (.bin .gtr) [.t 17, zI 64] 16 false,
 zP 19 .pick [.t 16, .c (.bool true), .t 18]])
 (.cond (.t 19)
 (.seq (.ops [zV 4 0,
 zV 5 2])
 .ret)
 .skip))
 (.seq (.ops [zM 20 1,
 zM 6 20])
 (.seq (.block 0 (.loop L_escapementref08_Hyper_0))
 (.seq (.ops [zV 4 0,
 zV 5 5])
 .ret)))))⟩
abbrev f_escapementref08_Hyper : Nat := 32
abbrev C_escapementref08_Hyper : AFunc := C32
def C33 : AFunc := ⟨30, [.tmp 6, .tmp 7],
 (.seq (.ops [zB 5 2,
 zV 6 0,
 zV 7 0])
 (.seq (.seq (.ops [zM 9 0,
 zM 10 1,
 zC2 11 28 9 10,
 zM 8 11])
 (.seq (.ops [zM 12 8,
 zP 13 (.bin .neq) [.t 12, zI 0],
 zM 14 13,
 zLg 15 5 14 false,
 zPg 16 (.bin .lss) [.t 15, zI 1] 14 false,
 zP 17 .pick [.t 14, .c (.bool true), .t 16],
 zM 18 17,
 zLg 19 5 18 false,
 zPg 20 (.bin .gtr) [.t 19, zI 1048576] 18 false,
 zP 21 .pick [.t 18, .c (.bool true), .t 20]])
 (.cond (.t 21)
 (.seq (.ops [zV 6 0,
 zV 7 2])
 .ret)
 .skip)))
 (.seq (.seq (.ops [zM 22 0,
 zQ 23 (.mkfunc (.func 55) 0) 5,
 zC2 24 39 22 23])
 (.cond (.t 24)
 (.seq (.ops [zV 6 0,
 zV 7 2])
 .ret)
 .skip))
 (.seq (.ops [zM 25 0,
 zM 26 1,
 zQ 27 (.mkfunc (.func 56) 0) 5,
 zC3 28 48 25 26 27,
 zC1 29 47 28,
 zM 6 29,
 zV 7 0])
 .ret))))⟩
abbrev f_demand_Use : Nat := 33
abbrev C_demand_Use : AFunc := C33
def L_escapementref08_Use_0 : AC := (.seq (.seq (.ops [zM 22 9,
 zM 23 0,
 zQ 24 .lenS 23,
 zR 25 (.bin .lss) 22 24])
 (.cond (.t 25)
 .skip
 (.exit 0)))
 (.seq (.block 1 (.seq (.seq (.ops [zM 28 2,
 zM 29 0,
 zM 30 9,
 zR 31 (.iaddrS 8) 29 30,
 zF 32 31 0,
 zL 33 32,
 zR 34 (.bin .rem) 28 33,
 zP 35 (.bin .neq) [.t 34, zI 0]])
 (.cond (.t 35)
 (.seq (.ops [zV 6 0,
 zV 7 2])
 .ret)
 .skip))
 (.dops [zM 36 8,
 zM 37 2,
 zM 38 0,
 zM 39 9,
 zR 40 (.iaddrS 8) 38 39,
 zF 41 40 0,
 zL 42 41,
 zR 43 (.bin .quo) 37 42,
 zM 44 0,
 zM 45 9,
 zR 46 (.iaddrS 8) 44 45,
 zF 47 46 2,
 zL 48 47,
 zM 49 1,
 zM 50 9,
 zR 51 (.iaddrS 1) 49 50,
 zL 52 51,
 zR 53 (.bin .add) 48 52,
 zR 54 (.bin .mul) 43 53,
 zR 55 (.bin .add) 36 54,
 zM 8 55] [[], [], [], [], [], [], [], [], [], [], [], [], [], [], [], [], [], [], [], [], []])))
 (.ops [zM 26 9,
 zP 27 (.bin .add) [.t 26, zI 1],
 zM 9 27])))
def C34 : AFunc := ⟨57, [.tmp 6, .tmp 7],
 (.seq (.ops [zV 6 0,
 zV 7 0])
 (.seq (.seq (.ops [zM 10 0,
 zM 11 1,
 zC2 12 29 10 11,
 zP 13 (.bin .neq) [.t 12, zI 0],
 zM 14 13,
 zMg 15 2 14 false,
 zPg 16 (.bin .lss) [.t 15, zI 1] 14 false,
 zP 17 .pick [.t 14, .c (.bool true), .t 16],
 zM 18 17,
 zMg 19 2 18 false,
 zPg 20 (.bin .gtr) [.t 19, zI 1048576] 18 false,
 zP 21 .pick [.t 18, .c (.bool true), .t 20]])
 (.cond (.t 21)
 (.seq (.ops [zV 6 0,
 zV 7 2])
 .ret)
 .skip))
 (.seq (.ops [zV 8 0])
 (.seq (.seq (.ops [zV 9 0])
 (.block 0 (.loop L_escapementref08_Use_0)))
 (.seq (.ops [zM 56 8,
 zM 6 56,
 zV 7 0])
 .ret)))))⟩
abbrev f_escapementref08_Use : Nat := 34
abbrev C_escapementref08_Use : AFunc := C34
def L_escapementlaw08_made_0 : AC := (.seq (.seq (.ops [zM 7 4,
 zM 8 0,
 zQ 9 .lenS 8,
 zR 10 (.bin .lss) 7 9,
 zM 11 10,
 zMg 12 4 11 true,
 zPg 13 (.bin .lss) [.t 12, zI 4] 11 true,
 zP 14 .pick [.t 11, .t 13, .c (.bool false)]])
 (.cond (.t 14)
 .skip
 (.exit 0)))
 (.seq (.block 1 (.seq (.ops [zM 17 0,
 zM 18 4,
 zR 19 (.iaddrS 8) 17 18,
 zF 20 19 0,
 zL 21 20,
 zC 22 24 [.t 21, zI 64],
 zP 23 (.bin .add) [zI 1, .t 22],
 zM 5 23])
 (.seq (.ops [zM 24 0,
 zM 25 4,
 zR 26 (.iaddrS 8) 24 25,
 zF 27 26 1,
 zL 28 27,
 zM 29 5,
 zC2 30 24 28 29,
 zP 31 (.bin .add) [zI 1, .t 30],
 zM 6 31])
 (.ops [zM 32 3,
 zM 33 5,
 zM 34 6,
 zM 35 0,
 zM 36 4,
 zR 37 (.iaddrS 8) 35 36,
 zF 38 37 2,
 zL 39 38,
 zM 40 6,
 zC2 41 24 39 40,
 zP 42 (.bin .add) [zI 1, .t 41],
 zP 43 (.build [zz, zz, zz, zz, zz, zz, zz, zz] [(0, 1), (1, 1), (2, 1)]) [.t 33, .t 34, .t 42],
 ⟨some 44, none, .a (.bslice [zz, zz, zz, zz, zz, zz, zz, zz] 1 8 [0]), [.t 43]⟩,
 zA 45 8 64 32 44,
 zM 3 45]))))
 (.ops [zM 15 4,
 zP 16 (.bin .add) [.t 15, zI 1],
 zM 4 16])))
def C35 : AFunc := ⟨47, [.tmp 2],
 (.seq (.ops [zK 2 .nils])
 (.seq (.ops [zK 3 .nils])
 (.seq (.seq (.ops [zV 4 0])
 (.block 0 (.loop L_escapementlaw08_made_0)))
 (.seq (.ops [zM 46 3,
 zM 2 46])
 .ret))))⟩
abbrev f_escapementlaw08_made : Nat := 35
abbrev C_escapementlaw08_made : AFunc := C35
def C36 : AFunc := ⟨29, [.cell 4 5 true, .tmp 5],
 (.seq (.ops [⟨some 4, none, .a (.alloc [zz, zz, .nils, .nils, zz]), []⟩,
 zV 5 0])
 (.seq (.seq (.ops [zM 7 0,
 zC1 8 17 7,
 zM 6 8])
 (.seq (.ops [zM 9 6,
 zP 10 (.bin .neq) [.t 9, zI 0]])
 (.cond (.t 10)
 (.seq (.ops [zP 11 (.build [zz, zz, .nils, .nils, zz] []) [],
 zM 12 6,
 zS 5 [.t 4, .t 11],
 zM 5 12])
 .ret)
 .skip)))
 (.seq (.seq (.ops [zM 13 1,
 zP 14 (.bin .lss) [.t 13, zI 0],
 zM 15 14,
 zMg 16 1 15 false,
 zMg 17 0 15 false,
 zPg 18 .lenS [.t 17] 15 false,
 zPg 19 (.bin .geq) [.t 16, .t 18] 15 false,
 zP 20 .pick [.t 15, .c (.bool true), .t 19]])
 (.cond (.t 20)
 (.seq (.ops [zP 21 (.build [zz, zz, .nils, .nils, zz] []) [],
 zS 5 [.t 4, .t 21],
 zV 5 9])
 .ret)
 .skip))
 (.seq (.ops [zM 22 0,
 zM 23 1,
 zR 24 (.iaddrS 3) 22 23,
 zO 25 3 24,
 zM 26 0,
 zM 27 1,
 zP 28 (.build [zz, zz, .nils, .nils, zz] [(0, 3), (3, 1), (4, 1)]) [.t 25, .t 26, .t 27],
 zS 5 [.t 4, .t 28],
 zV 5 0])
 .ret))))⟩
abbrev f_delay_of : Nat := 36
abbrev C_delay_of : AFunc := C36
def L_delay_seen_wait_0a : AC := (.ops [⟨some 5, none, .a (.alloc [zz, zz, .nils]), []⟩,
 zS 3 [.t 5, .t 13]])
def L_delay_seen_wait_0b : AC := (.block 1 (.ops [zL 14 4,
 zF 15 5 0,
 zL 16 15,
 zP 17 (.bin .mul) [zI 2, .t 16],
 zR 18 (.bin .add) 14 17,
 zS 1 [.t 4, .t 18]]))
def C37 : AFunc := ⟨20, [.cell 4 1 false],
 (.seq (.ops [zB 2 0,
 zB 3 1,
 ⟨some 4, none, .a (.alloc [zz]), []⟩])
 (.seq (.seq (.ops [zF 6 3 5,
 zL 7 6,
 zP 8 (.bin .eql) [.t 7, zI 0]])
 (.cond (.t 8)
 (.seq (.ops [zS 1 [.t 4, zI 0]])
 .ret)
 .skip))
 (.seq (.seq (.ops [zO 9 5 2,
 zF 10 3 5,
 zL 11 10,
 zC2 12 57 9 11])
 (.block 0 (.rangeFunc (.t 12) [13] L_delay_seen_wait_0a L_delay_seen_wait_0b)))
 (.seq (.ops [zL 19 4,
 zS 1 [.t 4, .t 19]])
 .ret))))⟩
abbrev f_delay_seen_wait : Nat := 37
abbrev C_delay_seen_wait : AFunc := C37
def L_escapementref09_wait_0 : AC := (.seq (.seq (.ops [zM 9 8,
 zM 10 0,
 zQ 11 .lenS 10,
 zR 12 (.bin .lss) 9 11])
 (.cond (.t 12)
 .skip
 (.exit 0)))
 (.seq (.block 1 (.seq (.dops [zF 15 5 5,
 zL 16 15,
 zP 17 (.bin .gtr) [.t 16, zI 0],
 zM 18 17,
 zMg 19 8 18 true,
 zMg 20 1 18 true,
 zPg 21 (.bin .neq) [.t 19, .t 20] 18 true,
 zP 22 .pick [.t 18, .t 21, .c (.bool false)],
 zM 23 22,
 zMg 24 0 23 true,
 zMg 25 8 23 true,
 zPg 26 (.iaddrS 3) [.t 24, .t 25] 23 true,
 ⟨some 27, some (23, true), .r (.loadN 3), [.t 26]⟩,
 zFg 28 5 5 23 true,
 zLg 29 28 23 true,
 zCg 30 58 [.t 27, .t 29] 23 true,
 zP 31 .pick [.t 23, .t 30, .c (.bool false)]] [[], [], [], [], [], [], [], [], [], [], [], [], [], [], [], [], []])
 (.cond (.t 31)
 (.ops [zM 32 7,
 zM 33 0,
 zM 34 8,
 zR 35 (.iaddrS 3) 33 34,
 zF 36 35 0,
 zL 37 36,
 zP 38 (.bin .mul) [zI 2, .t 37],
 zR 39 (.bin .add) 32 38,
 zM 7 39])
 .skip)))
 (.ops [zM 13 8,
 zP 14 (.bin .add) [.t 13, zI 1],
 zM 8 14])))
def C38 : AFunc := ⟨41, [.tmp 6],
 (.seq (.ops [zB 5 2,
 zV 6 0])
 (.seq (.ops [zV 7 0])
 (.seq (.seq (.ops [zV 8 0])
 (.block 0 (.loop L_escapementref09_wait_0)))
 (.seq (.ops [zM 40 7,
 zM 6 40])
 .ret))))⟩
abbrev f_escapementref09_wait : Nat := 38
abbrev C_escapementref09_wait : AFunc := C38
def C39 : AFunc := ⟨9, [.tmp 4],
 (.seq (.ops [zK 4 (.bool false)])
 (.seq (.ops [zM 5 0,
 zM 6 1,
 zC2 7 59 5 6,
 zP 8 (.bin .geq) [.t 7, zI 0],
 zM 4 8])
 .ret))⟩
abbrev f_slices_ContainsFunc_api_Task_api_Task : Nat := 39
abbrev C_slices_ContainsFunc_api_Task_api_Task : AFunc := C39
def C40 : AFunc := ⟨9, [.tmp 3],
 (.seq (.ops [zB 2 0,
 zK 3 (.bool false)])
 (.seq (.ops [zO 4 8 2,
 zF 5 1 1,
 zL 6 5,
 zC2 7 41 4 6,
 zQ 8 .not 7,
 zM 3 8])
 .ret))⟩
abbrev f_delay_Check_1 : Nat := 40
abbrev C_delay_Check_1 : AFunc := C40
def C41 : AFunc := ⟨56, [.tmp 4],
 (.seq (.ops [zB 2 0,
 zK 4 (.bool false)])
 (.seq (.block 0 (.seq (.seq (.ops [zF 6 2 4,
 zL 7 6,
 zP 8 (.bin .lss) [.t 7, zI 0],
 zM 5 8])
 (.cond (.t 5)
 .skip
 (.seq (.ops [zF 9 2 4,
 zL 10 9,
 zF 11 2 2,
 zL 12 11,
 zR 13 (.bin .gtr) 10 12,
 zM 5 13])
 (.cond (.t 5)
 .skip
 (.seq (.ops [zF 14 2 5,
 zL 15 14,
 zP 16 (.bin .lss) [.t 15, zI 0],
 zM 5 16])
 (.cond (.t 5)
 .skip
 (.ops [zF 17 2 5,
 zL 18 17,
 zP 19 (.bin .gtr) [.t 18, zI 4],
 zM 5 19])))))))
 (.cond (.t 5)
 (.seq (.ops [zK 4 (.bool false)])
 .ret)
 (.seq (.ops [zF 21 2 5,
 zL 22 21,
 zP 23 (.bin .eql) [.t 22, zI 0],
 zM 20 23])
 (.cond (.t 20)
 (.seq (.ops [zF 24 2 6,
 zL 25 24,
 zP 26 (.bin .eql) [.t 25, zI 0],
 zM 27 26,
 zFg 28 2 7 27 true,
 zLg 29 28 27 true,
 zPg 30 (.bin .eql) [.t 29, zI 0] 27 true,
 zP 31 .pick [.t 27, .t 30, .c (.bool false)],
 zM 4 31])
 .ret)
 .skip)))))
 (.seq (.dops [zF 32 2 6,
 zL 33 32,
 zP 34 (.bin .leq) [zI 1, .t 33],
 zM 35 34,
 zFg 36 2 6 35 true,
 zLg 37 36 35 true,
 zMg 38 1 35 true,
 zPg 39 (.bin .leq) [.t 37, .t 38] 35 true,
 zP 40 .pick [.t 35, .t 39, .c (.bool false)],
 zM 41 40,
 zFg 42 2 7 41 true,
 zLg 43 42 41 true,
 zPg 44 (.bin .leq) [zI 1, .t 43] 41 true,
 zP 45 .pick [.t 41, .t 44, .c (.bool false)],
 zM 46 45,
 zFg 47 2 7 46 true,
 zLg 48 47 46 true,
 zFg 49 2 2 46 true,
 zLg 50 49 46 true,
 zFg 51 2 6 46 true,
 zLg 52 51 46 true,
 zPg 53 (.bin .quo) [.t 50, .t 52] 46 true,
 zPg 54 (.bin .leq) [.t 48, .t 53] 46 true,
 zP 55 .pick [.t 46, .t 54, .c (.bool false)],
 zM 4 55] [[], [], [], [], [], [], [], [], [], [], [], [], [], [], [], [], [], [], [], [], [], [], [], [], []])
 .ret)))⟩
abbrev f_delay_may : Nat := 41
abbrev C_delay_may : AFunc := C41
def L_escapementref08_Tasks_0 : AC := (.seq (.seq (.ops [zM 4 3,
 zM 5 0,
 zQ 6 .lenS 5,
 zR 7 (.bin .lss) 4 6])
 (.cond (.t 7)
 .skip
 (.exit 0)))
 (.seq (.block 1 (.seq (.ops [zM 10 0,
 zM 11 3,
 zR 12 (.iaddrS 8) 10 11,
 zO 13 8 12,
 zC1 14 60 13,
 zQ 15 .not 14])
 (.cond (.t 15)
 (.seq (.ops [zK 2 (.bool false)])
 .ret)
 .skip)))
 (.ops [zM 8 3,
 zP 9 (.bin .add) [.t 8, zI 1],
 zM 3 9])))
def C42 : AFunc := ⟨19, [.tmp 2],
 (.seq (.ops [zK 2 (.bool false)])
 (.seq (.seq (.ops [zV 3 0])
 (.block 0 (.loop L_escapementref08_Tasks_0)))
 (.seq (.ops [zM 16 0,
 zQ 17 .lenS 16,
 zP 18 (.bin .leq) [.t 17, zI 4],
 zM 2 18])
 .ret)))⟩
abbrev f_escapementref08_Tasks : Nat := 42
abbrev C_escapementref08_Tasks : AFunc := C42
def C43 : AFunc := ⟨67, [.tmp 4],
 (.seq (.ops [zB 2 0,
 zK 4 (.bool false)])
 (.seq (.seq (.ops [zF 5 2 4,
 zL 6 5,
 zP 7 (.bin .lss) [.t 6, zI 0],
 zM 8 7,
 zFg 9 2 4 8 false,
 zLg 10 9 8 false,
 zFg 11 2 2 8 false,
 zLg 12 11 8 false,
 zPg 13 (.bin .gtr) [.t 10, .t 12] 8 false,
 zP 14 .pick [.t 8, .c (.bool true), .t 13],
 zM 15 14,
 zFg 16 2 5 15 false,
 zLg 17 16 15 false,
 zPg 18 (.bin .lss) [.t 17, zI 0] 15 false,
 zP 19 .pick [.t 15, .c (.bool true), .t 18],
 zM 20 19,
 zFg 21 2 5 20 false,
 zLg 22 21 20 false,
 zPg 23 (.bin .gtr) [.t 22, zI 4] 20 false,
 zP 24 .pick [.t 20, .c (.bool true), .t 23]])
 (.cond (.t 24)
 (.seq (.ops [zK 4 (.bool false)])
 .ret)
 .skip))
 (.seq (.seq (.ops [zF 25 2 5,
 zL 26 25,
 zP 27 (.bin .eql) [.t 26, zI 0]])
 (.cond (.t 27)
 (.seq (.ops [zF 28 2 6,
 zL 29 28,
 zP 30 (.bin .eql) [.t 29, zI 0],
 zM 31 30,
 zFg 32 2 7 31 true,
 zLg 33 32 31 true,
 zPg 34 (.bin .eql) [.t 33, zI 0] 31 true,
 zP 35 .pick [.t 31, .t 34, .c (.bool false)],
 zM 4 35])
 .ret)
 .skip))
 (.seq (.ops [zF 36 2 6,
 zL 37 36,
 zP 38 (.bin .geq) [.t 37, zI 1],
 zM 39 38,
 zFg 40 2 6 39 true,
 zLg 41 40 39 true,
 zMg 42 1 39 true,
 zPg 43 (.bin .leq) [.t 41, .t 42] 39 true,
 zP 44 .pick [.t 39, .t 43, .c (.bool false)],
 zM 45 44,
 zFg 46 2 7 45 true,
 zLg 47 46 45 true,
 zPg 48 (.bin .geq) [.t 47, zI 1] 45 true,
 zP 49 .pick [.t 45, .t 48, .c (.bool false)],
 zM 50 49,
 zFg 51 2 7 50 true,
 zLg 52 51 50 true,
 zFg 53 2 2 50 true,
 zLg 54 53 50 true,
 zPg 55 (.bin .leq) [.t 52, .t 54] 50 true,
 zP 56 .pick [.t 50, .t 55, .c (.bool false)],
 zM 57 56,
 zFg 58 2 6 57 true,
 zLg 59 58 57 true,
 zFg 60 2 7 57 true,
 zLg 61 60 57 true,
 zPg 62 (.bin .mul) [.t 59, .t 61] 57 true,
 zFg 63 2 2 57 true,
 zLg 64 63 57 true,
 zPg 65 (.bin .leq) [.t 62, .t 64] 57 true,
 zP 66 .pick [.t 57, .t 65, .c (.bool false)],
 zM 4 66])
 .ret))))⟩
abbrev f_escapementref09_task : Nat := 43
abbrev C_escapementref09_task : AFunc := C43
def C44 : AFunc := ⟨9, [.tmp 0],
 (.seq (.ops [zK 0 .nils])
 (.seq (.ops [zP 1 (.build [zz, zz, zz, zz, zz, zz, zz, zz] [(0, 1), (1, 1), (2, 1), (5, 1), (6, 1), (7, 1)]) [zI 10, zI 10, zI 4, zI 1, zI 2, zI 1],
 ⟨some 2, none, .a (.bslice [zz, zz, zz, zz, zz, zz, zz, zz] 1 8 [0]), [.t 1]⟩,
 zP 3 (.build [zz, zz, .nils] [(0, 1), (1, 1), (2, 1)]) [zI 5, zI 2, .t 2],
 zP 4 (.build [zz, zz, zz, zz, zz, zz, zz, zz] [(0, 1), (1, 1), (2, 1), (5, 1), (6, 1), (7, 1), (4, 1)]) [zI 20, zI 12, zI 3, zI 1, zI 1, zI 2, zI 2],
 ⟨some 5, none, .a (.bslice [zz, zz, zz, zz, zz, zz, zz, zz] 1 8 [0]), [.t 4]⟩,
 zP 6 (.build [zz, zz, .nils] [(0, 1), (1, 1), (2, 1)]) [zI 7, zI 3, .t 5],
 zP 7 (.build [zz, zz, .nils] [(0, 1), (1, 1)]) [zI 4, zI 1],
 ⟨some 8, none, .a (.bslice [zz, zz, .nils] 3 3 [0, 1, 2]), [.t 3, .t 6, .t 7]⟩,
 zM 0 8])
 .ret))⟩
abbrev f_escapementlaw09_three : Nat := 44
abbrev C_escapementlaw09_three : AFunc := C44
def C45 : AFunc := ⟨22, [.tmp 6],
 (.seq (.ops [zK 6 (.bool false)])
 (.seq (.ops [zM 10 0,
 zM 11 1,
 zC2 12 15 10 11,
 zM 9 12,
 zQ 13 (.ext 0) 9,
 zQ 14 (.ext 1) 9,
 zM 7 13,
 zM 8 14])
 (.seq (.ops [zM 15 8,
 zP 16 (.bin .eql) [.t 15, zI 0],
 zM 17 16,
 zMg 18 7 17 true,
 zMg 19 2 17 true,
 zCg 20 19 [.t 18, .t 19] 17 true,
 zP 21 .pick [.t 17, .t 20, .c (.bool false)],
 zM 6 21])
 .ret)))⟩
abbrev f_escapementlaw09_more : Nat := 45
abbrev C_escapementlaw09_more : AFunc := C45
def C46 : AFunc := ⟨21, [.tmp 4],
 (.seq (.ops [zB 2 0,
 zB 3 1,
 zV 4 0])
 (.seq (.seq (.ops [zF 5 3 5,
 zL 6 5,
 zP 7 (.bin .eql) [.t 6, zI 0]])
 (.cond (.t 7)
 (.seq (.ops [zF 8 3 4,
 zL 9 8,
 zM 4 9])
 .ret)
 .skip))
 (.seq (.dops [zF 10 3 4,
 zL 11 10,
 zO 12 5 2,
 zO 13 8 3,
 zC2 14 37 12 13,
 zF 15 3 6,
 zL 16 15,
 zP 17 (.bin .mul) [zI 2, .t 16],
 zR 18 (.bin .add) 14 17,
 zP 19 (.bin .sub) [.t 18, zI 1],
 zR 20 .mx 11 19,
 zM 4 20] [[], [0, 5], [], [], [], [], [0, 5], [], [], [], [], []])
 .ret)))⟩
abbrev f_delay_seen_by : Nat := 46
abbrev C_delay_seen_by : AFunc := C46
def L_demand_sum_0 : AC := (.seq (.ops [zR 8 (.bin .lss) 7 6])
 (.seq (.cond (.t 8)
 .skip
 (.exit 0))
 (.seq (.block 1 (.seq (.ops [zR 9 (.iaddrS 1) 5 7,
 zL 10 9,
 zM 4 10])
 (.ops [zM 11 2,
 zM 12 4,
 zR 13 (.bin .add) 11 12,
 zM 2 13])))
 (.ops [zP 14 (.bin .add) [.t 7, zI 1],
 zM 7 14]))))
def C47 : AFunc := ⟨16, [.tmp 2],
 (.seq (.ops [zV 2 0])
 (.seq (.seq (.ops [zM 5 0,
 zQ 6 .lenS 5,
 zV 7 0])
 (.block 0 (.loop L_demand_sum_0)))
 (.seq (.ops [zM 15 2,
 zM 2 15])
 .ret)))⟩
abbrev f_demand_sum : Nat := 47
abbrev C_demand_sum : AFunc := C47
def L_demand_each_0 : AC := (.seq (.ops [zR 16 (.bin .lss) 15 14])
 (.seq (.cond (.t 16)
 .skip
 (.exit 0))
 (.seq (.block 1 (.seq (.ops [zM 17 15,
 zR 18 (.iaddrS 8) 13 15,
 zO 19 8 18,
 ⟨some 9, none, .a (.alloc [zz, zz, zz, zz, zz, zz, zz, zz]), []⟩,
 zM 8 17,
 zS 8 [.t 9, .t 19]])
 (.dops [zM 20 7,
 zM 21 8,
 zM 22 2,
 zO 23 8 9,
 ⟨some 24, none, .call, [.t 22, .t 23]⟩,
 zF 25 9 2,
 zL 26 25,
 zM 27 1,
 zM 28 8,
 zR 29 (.iaddrS 1) 27 28,
 zL 30 29,
 zR 31 (.bin .add) 26 30,
 zR 32 (.bin .mul) 24 31,
 zR 33 (.iaddrS 1) 20 21,
 zS 1 [.t 33, .t 32]] [[], [], [], [], [], [], [0, 5], [], [], [], [0, 5], [], [], [], []])))
 (.ops [zP 34 (.bin .add) [.t 15, zI 1],
 zM 15 34]))))
def C48 : AFunc := ⟨36, [.tmp 6],
 (.seq (.ops [zK 6 .nils])
 (.seq (.ops [zM 10 0,
 zQ 11 .lenS 10,
 ⟨some 12, none, .a (.mkslice [zz] 1 8), [.t 11, .t 11]⟩,
 zM 7 12])
 (.seq (.seq (.ops [zM 13 0,
 zQ 14 .lenS 13,
 zV 15 0])
 (.block 0 (.loop L_demand_each_0)))
 (.seq (.ops [zM 35 7,
 zM 6 35])
 .ret))))⟩
abbrev f_demand_each : Nat := 48
abbrev C_demand_each : AFunc := C48
def C49 : AFunc := ⟨16, [.tmp 3],
 (.seq (.ops [zB 2 0,
 zV 3 0])
 (.seq (.seq (.ops [zL 4 1,
 zF 5 2 1,
 zL 6 5,
 zR 7 (.bin .lss) 4 6])
 (.cond (.t 7)
 (.seq (.ops [zV 3 0])
 .ret)
 .skip))
 (.seq (.ops [zL 8 1,
 zF 9 2 1,
 zL 10 9,
 zR 11 (.bin .sub) 8 10,
 zF 12 2 0,
 zL 13 12,
 zR 14 (.bin .quo) 11 13,
 zP 15 (.bin .add) [zI 1, .t 14],
 zM 3 15])
 .ret)))⟩
abbrev f_demand_Of_1 : Nat := 49
abbrev C_demand_Of_1 : AFunc := C49
def C50 : AFunc := ⟨9, [.tmp 4],
 (.seq (.ops [zK 4 (.bool false)])
 (.seq (.ops [zM 5 0,
 zM 6 1,
 zC2 7 61 5 6,
 zP 8 (.bin .geq) [.t 7, zI 0],
 zM 4 8])
 .ret))⟩
abbrev f_slices_ContainsFunc_int_int : Nat := 50
abbrev C_slices_ContainsFunc_int_int : AFunc := C50
def C51 : AFunc := ⟨9, [.tmp 2],
 (.seq (.ops [zK 2 (.bool false)])
 (.seq (.ops [zM 3 0,
 zP 4 (.bin .lss) [.t 3, zI 0],
 zM 5 4,
 zMg 6 0 5 false,
 zPg 7 (.bin .gtr) [.t 6, zI 32768] 5 false,
 zP 8 .pick [.t 5, .c (.bool true), .t 7],
 zM 2 8])
 .ret))⟩
abbrev f_demand_Check_1 : Nat := 51
abbrev C_demand_Check_1 : AFunc := C51
def C52 : AFunc := ⟨11, [.tmp 2],
 (.seq (.ops [zK 2 (.bool false)])
 (.seq (.ops [zM 3 0,
 zQ 4 .lenS 3,
 zP 5 (.bin .leq) [.t 4, zI 4],
 zM 6 5,
 zMg 7 0 6 true,
 zCg 8 39 [.t 7, .c (.func (.func 62) [] [])] 6 true,
 zPg 9 .not [.t 8] 6 true,
 zP 10 .pick [.t 6, .t 9, .c (.bool false)],
 zM 2 10])
 .ret))⟩
abbrev f_demand_all : Nat := 52
abbrev C_demand_all : AFunc := C52
def C53 : AFunc := ⟨4, [.tmp 0],
 (.seq (.ops [zK 0 .nils])
 (.seq (.ops [zP 1 (.build [zz, zz, zz, zz, zz, zz, zz, zz] [(0, 1), (1, 1), (2, 1)]) [zI 5, zI 4, zI 2],
 zP 2 (.build [zz, zz, zz, zz, zz, zz, zz, zz] [(0, 1), (1, 1), (2, 1)]) [zI 10, zI 10, zI 3],
 ⟨some 3, none, .a (.bslice [zz, zz, zz, zz, zz, zz, zz, zz] 2 8 [0, 1]), [.t 1, .t 2]⟩,
 zM 0 3])
 .ret))⟩
abbrev f_escapementlaw08_two : Nat := 53
abbrev C_escapementlaw08_two : AFunc := C53
def C54 : AFunc := ⟨53, [.tmp 4, .tmp 5],
 (.seq (.ops [zV 4 0,
 zV 5 0])
 (.seq (.seq (.ops [zM 7 0,
 ⟨some 8, none, .a (.bslice [zz] 1 1 [0]), [.t 7]⟩,
 zC1 9 64 8,
 zQ 10 .not 9,
 zM 11 10,
 zMg 12 1 11 false,
 zCg 13 64 [.t 12] 11 false,
 zPg 14 .not [.t 13] 11 false,
 zP 15 .pick [.t 11, .c (.bool true), .t 14],
 zM 16 15,
 zMg 17 1 16 false,
 zCg 18 65 [.t 17, zI 0] 16 false,
 zP 19 .pick [.t 16, .c (.bool true), .t 18]])
 (.cond (.t 19)
 (.seq (.ops [zV 4 0,
 zV 5 2])
 .ret)
 .skip))
 (.seq (.ops [zP 20 (.build [zz, zz] [(0, 1)]) [zI 1],
 zB 21 20,
 zM 6 21])
 (.seq (.ops [zM 22 6,
 zQ 23 (.mkfunc (.func 67) 1) 22,
 zM 24 1,
 zC2 25 66 23 24])
 (.seq (.seq (.ops [zM 26 6,
 zN 27 26,
 zF 28 27 1,
 zL 29 28,
 zP 30 (.bin .eql) [.t 29, zI 0],
 zM 31 30,
 zMg 32 6 31 true,
 zNg 33 32 31 true,
 zFg 34 33 0 31 true,
 zLg 35 34 31 true,
 zMg 36 0 31 true,
 zPg 37 (.bin .gtr) [.t 35, .t 36] 31 true,
 zP 38 .pick [.t 31, .t 37, .c (.bool false)]])
 (.cond (.t 38)
 (.ops [zM 39 6,
 zN 40 39,
 zF 41 40 1,
 zS 1 [.t 41, zI 10]])
 .skip))
 (.seq (.dops [zM 42 6,
 zN 43 42,
 zF 44 43 0,
 zL 45 44,
 zM 46 6,
 zN 47 46,
 zF 48 47 1,
 zL 49 48,
 zC2 50 68 45 49,
 zQ 51 (.ext 0) 50,
 zQ 52 (.ext 1) 50,
 zM 4 51,
 zM 5 52] [[], [], [], [], [], [], [], [], [], [], [], [], []])
 .ret))))))⟩
abbrev f_ticks_Lcm : Nat := 54
abbrev C_ticks_Lcm : AFunc := C54
def C55 : AFunc := ⟨9, [.tmp 3],
 (.seq (.ops [zB 2 0,
 zK 3 (.bool false)])
 (.seq (.ops [zL 4 1,
 zF 5 2 0,
 zL 6 5,
 zR 7 (.bin .rem) 4 6,
 zP 8 (.bin .neq) [.t 7, zI 0],
 zM 3 8])
 .ret))⟩
abbrev f_demand_Use_1 : Nat := 55
abbrev C_demand_Use_1 : AFunc := C55
def C56 : AFunc := ⟨8, [.tmp 3],
 (.seq (.ops [zB 2 0,
 zV 3 0])
 (.seq (.ops [zL 4 1,
 zF 5 2 0,
 zL 6 5,
 zR 7 (.bin .quo) 4 6,
 zM 3 7])
 .ret))⟩
abbrev f_demand_Use_2 : Nat := 56
abbrev C_demand_Use_2 : AFunc := C56
def C57 : AFunc := ⟨6, [.tmp 4],
 (.seq (.ops [zB 2 0,
 zB 3 1,
 zK 4 .nilf])
 (.seq (.ops [zR 5 (.mkfunc (.func 69) 0) 2 3,
 zM 4 5])
 .ret))⟩
abbrev f_delay_seen_sharers : Nat := 57
abbrev C_delay_seen_sharers : AFunc := C57
def L_escapementref09_uses_0 : AC := (.seq (.seq (.ops [zM 6 5,
 zF 7 2 2,
 zL 8 7,
 zQ 9 .lenS 8,
 zR 10 (.bin .lss) 6 9])
 (.cond (.t 10)
 .skip
 (.exit 0)))
 (.seq (.block 1 (.seq (.ops [zF 13 2 2,
 zL 14 13,
 zM 15 5,
 zR 16 (.iaddrS 8) 14 15,
 zF 17 16 5,
 zL 18 17,
 zM 19 1,
 zR 20 (.bin .eql) 18 19])
 (.cond (.t 20)
 (.seq (.ops [zK 4 (.bool true)])
 .ret)
 .skip)))
 (.ops [zM 11 5,
 zP 12 (.bin .add) [.t 11, zI 1],
 zM 5 12])))
def C58 : AFunc := ⟨21, [.tmp 4],
 (.seq (.ops [zB 2 0,
 zK 4 (.bool false)])
 (.seq (.seq (.ops [zV 5 0])
 (.block 0 (.loop L_escapementref09_uses_0)))
 (.seq (.ops [zK 4 (.bool false)])
 .ret)))⟩
abbrev f_escapementref09_uses : Nat := 58
abbrev C_escapementref09_uses : AFunc := C58
def L_slices_IndexFunc_api_Task_api_Task_0 : AC := (.seq (.ops [zR 9 (.bin .lss) 8 7])
 (.seq (.cond (.t 9)
 .skip
 (.exit 0))
 (.seq (.block 1 (.seq (.ops [zM 10 8,
 zM 5 10])
 (.seq (.ops [zM 11 1,
 zM 12 0,
 zM 13 5,
 zR 14 (.iaddrS 8) 12 13,
 zO 15 8 14,
 ⟨some 16, none, .call, [.t 11, .t 15]⟩])
 (.cond (.t 16)
 (.seq (.ops [zM 17 5,
 zM 4 17])
 .ret)
 .skip))))
 (.ops [zP 18 (.bin .add) [.t 8, zI 1],
 zM 8 18]))))
def C59 : AFunc := ⟨19, [.tmp 4],
 (.seq (.ops [zV 4 0])
 (.seq (.seq (.ops [zM 6 0,
 zQ 7 .lenS 6,
 zV 8 0])
 (.block 0 (.loop L_slices_IndexFunc_api_Task_api_Task_0)))
 (.seq (.ops [zV 4 (-1)])
 .ret)))⟩
abbrev f_slices_IndexFunc_api_Task_api_Task : Nat := 59
abbrev C_slices_IndexFunc_api_Task_api_Task : AFunc := C59
def C60 : AFunc := ⟨35, [.tmp 2],
 (.seq (.ops [zB 1 0,
 zK 2 (.bool false)])
 (.seq (.ops [zF 3 1 0,
 zL 4 3,
 zP 5 (.bin .geq) [.t 4, zI 1],
 zM 6 5,
 zFg 7 1 0 6 true,
 zLg 8 7 6 true,
 zPg 9 (.bin .leq) [.t 8, zI 64] 6 true,
 zP 10 .pick [.t 6, .t 9, .c (.bool false)],
 zM 11 10,
 zFg 12 1 1 11 true,
 zLg 13 12 11 true,
 zPg 14 (.bin .geq) [.t 13, zI 1] 11 true,
 zP 15 .pick [.t 11, .t 14, .c (.bool false)],
 zM 16 15,
 zFg 17 1 1 16 true,
 zLg 18 17 16 true,
 zFg 19 1 0 16 true,
 zLg 20 19 16 true,
 zPg 21 (.bin .leq) [.t 18, .t 20] 16 true,
 zP 22 .pick [.t 16, .t 21, .c (.bool false)],
 zM 23 22,
 zFg 24 1 2 23 true,
 zLg 25 24 23 true,
 zPg 26 (.bin .geq) [.t 25, zI 1] 23 true,
 zP 27 .pick [.t 23, .t 26, .c (.bool false)],
 zM 28 27,
 zFg 29 1 2 28 true,
 zLg 30 29 28 true,
 zFg 31 1 1 28 true,
 zLg 32 31 28 true,
 zPg 33 (.bin .leq) [.t 30, .t 32] 28 true,
 zP 34 .pick [.t 28, .t 33, .c (.bool false)],
 zM 2 34])
 .ret))⟩
abbrev f_escapementref08_task : Nat := 60
abbrev C_escapementref08_task : AFunc := C60
def L_slices_IndexFunc_int_int_0 : AC := (.seq (.ops [zR 9 (.bin .lss) 8 7])
 (.seq (.cond (.t 9)
 .skip
 (.exit 0))
 (.seq (.block 1 (.seq (.ops [zM 10 8,
 zM 5 10])
 (.seq (.ops [zM 11 1,
 zM 12 0,
 zM 13 5,
 zR 14 (.iaddrS 1) 12 13,
 zL 15 14,
 ⟨some 16, none, .call, [.t 11, .t 15]⟩])
 (.cond (.t 16)
 (.seq (.ops [zM 17 5,
 zM 4 17])
 .ret)
 .skip))))
 (.ops [zP 18 (.bin .add) [.t 8, zI 1],
 zM 8 18]))))
def C61 : AFunc := ⟨19, [.tmp 4],
 (.seq (.ops [zV 4 0])
 (.seq (.seq (.ops [zM 6 0,
 zQ 7 .lenS 6,
 zV 8 0])
 (.block 0 (.loop L_slices_IndexFunc_int_int_0)))
 (.seq (.ops [zV 4 (-1)])
 .ret)))⟩
abbrev f_slices_IndexFunc_int_int : Nat := 61
abbrev C_slices_IndexFunc_int_int : AFunc := C61
def C62 : AFunc := ⟨6, [.tmp 2],
 (.seq (.ops [zB 1 0,
 zK 2 (.bool false)])
 (.seq (.ops [zO 3 8 1,
 zC1 4 63 3,
 zQ 5 .not 4,
 zM 2 5])
 .ret))⟩
abbrev f_demand_all_1 : Nat := 62
abbrev C_demand_all_1 : AFunc := C62
def C63 : AFunc := ⟨25, [.tmp 2],
 (.seq (.ops [zB 1 0,
 zK 2 (.bool false)])
 (.seq (.ops [zF 3 1 2,
 zL 4 3,
 zP 5 (.bin .leq) [zI 1, .t 4],
 zM 6 5,
 zFg 7 1 2 6 true,
 zLg 8 7 6 true,
 zFg 9 1 1 6 true,
 zLg 10 9 6 true,
 zPg 11 (.bin .leq) [.t 8, .t 10] 6 true,
 zP 12 .pick [.t 6, .t 11, .c (.bool false)],
 zM 13 12,
 zFg 14 1 1 13 true,
 zLg 15 14 13 true,
 zFg 16 1 0 13 true,
 zLg 17 16 13 true,
 zPg 18 (.bin .leq) [.t 15, .t 17] 13 true,
 zP 19 .pick [.t 13, .t 18, .c (.bool false)],
 zM 20 19,
 zFg 21 1 0 20 true,
 zLg 22 21 20 true,
 zPg 23 (.bin .leq) [.t 22, zI 64] 20 true,
 zP 24 .pick [.t 20, .t 23, .c (.bool false)],
 zM 2 24])
 .ret))⟩
abbrev f_demand_may : Nat := 63
abbrev C_demand_may : AFunc := C63
def L_ticks_tick_0 : AC := (.seq (.ops [zR 8 (.bin .lss) 7 6])
 (.seq (.cond (.t 8)
 .skip
 (.exit 0))
 (.seq (.block 1 (.seq (.ops [zR 9 (.iaddrS 1) 5 7,
 zL 10 9,
 zM 4 10])
 (.seq (.ops [zM 11 4,
 zP 12 (.bin .lss) [.t 11, zI 0],
 zM 13 12,
 zMg 14 4 13 false,
 zPg 15 (.bin .gtr) [.t 14, zI 1099511627776] 13 false,
 zP 16 .pick [.t 13, .c (.bool true), .t 15]])
 (.cond (.t 16)
 (.seq (.ops [zK 2 (.bool false)])
 .ret)
 .skip))))
 (.ops [zP 17 (.bin .add) [.t 7, zI 1],
 zM 7 17]))))
def C64 : AFunc := ⟨18, [.tmp 2],
 (.seq (.ops [zK 2 (.bool false)])
 (.seq (.seq (.ops [zM 5 0,
 zQ 6 .lenS 5,
 zV 7 0])
 (.block 0 (.loop L_ticks_tick_0)))
 (.seq (.ops [zK 2 (.bool true)])
 .ret)))⟩
abbrev f_ticks_tick : Nat := 64
abbrev C_ticks_tick : AFunc := C64
def C65 : AFunc := ⟨9, [.tmp 4],
 (.seq (.ops [zK 4 (.bool false)])
 (.seq (.ops [zM 5 0,
 zM 6 1,
 zC2 7 71 5 6,
 zP 8 (.bin .geq) [.t 7, zI 0],
 zM 4 8])
 .ret))⟩
abbrev f_slices_Contains_int_int : Nat := 65
abbrev C_slices_Contains_int_int : AFunc := C65
def L_ticks_each_0 : AC := (.seq (.ops [zR 9 (.bin .lss) 8 7])
 (.seq (.cond (.t 9)
 .skip
 (.exit 0))
 (.seq (.block 1 (.seq (.ops [zR 10 (.iaddrS 1) 6 8,
 zL 11 10,
 zM 5 11])
 (.ops [zM 12 0,
 zM 13 5,
 ⟨some 14, none, .call, [.t 12, .t 13]⟩])))
 (.ops [zP 15 (.bin .add) [.t 8, zI 1],
 zM 8 15]))))
def C66 : AFunc := ⟨16, [],
 (.seq (.ops [zM 6 1,
 zQ 7 .lenS 6,
 zV 8 0])
 (.block 0 (.loop L_ticks_each_0)))⟩
abbrev f_ticks_each : Nat := 66
abbrev C_ticks_each : AFunc := C66
def C67 : AFunc := ⟨37, [],
 (.seq (.ops [zM 6 0,
 zN 7 6,
 zF 8 7 1,
 zL 9 8,
 zP 10 (.bin .eql) [.t 9, zI 0]])
 (.cond (.t 10)
 (.seq (.ops [zM 12 0,
 zN 13 12,
 zF 14 13 0,
 zL 15 14,
 zM 16 1,
 zC2 17 72 15 16,
 zM 11 17,
 zQ 18 (.ext 0) 11,
 zQ 19 (.ext 1) 11,
 zM 4 18,
 zM 5 19])
 (.dops [zM 21 0,
 zM 22 0,
 zM 23 0,
 zN 24 23,
 zF 25 24 0,
 zL 26 25,
 zM 27 1,
 zM 28 4,
 zR 29 (.bin .quo) 27 28,
 zC2 30 73 26 29,
 zM 20 30,
 zQ 31 (.ext 0) 20,
 zQ 32 (.ext 1) 20,
 zN 33 21,
 zF 34 33 0,
 zS 1 [.t 34, .t 31],
 zN 35 22,
 zF 36 35 1,
 zS 1 [.t 36, .t 32]] [[], [], [], [], [], [], [], [], [], [], [], [], [], [], [], [], [], [], []]))
 .skip))⟩
abbrev f_ticks_count_multiple : Nat := 67
abbrev C_ticks_count_multiple : AFunc := C67
def C68 : AFunc := ⟨16, [.tmp 4, .tmp 5],
 (.seq (.ops [zV 4 0,
 zV 5 0])
 (.seq (.seq (.ops [zM 6 1,
 zP 7 (.bin .eql) [.t 6, zI 0],
 zM 8 7,
 zMg 9 0 8 true,
 zPg 10 (.bin .gtr) [.t 9, zI 1099511627776] 8 true,
 zP 11 .pick [.t 8, .t 10, .c (.bool false)]])
 (.cond (.t 11)
 (.ops [zV 1 10])
 .skip))
 (.seq (.seq (.ops [zM 12 1,
 zP 13 (.bin .neq) [.t 12, zI 0]])
 (.cond (.t 13)
 (.seq (.ops [zM 14 1,
 zV 4 0,
 zM 5 14])
 .ret)
 .skip))
 (.seq (.ops [zM 15 0,
 zM 4 15,
 zV 5 0])
 .ret))))⟩
abbrev f_ticks_told : Nat := 68
abbrev C_ticks_told : AFunc := C68
def L_delay_seen_sharers_1_0 : AC := (.seq (.ops [zR 11 (.bin .lss) 10 9])
 (.seq (.cond (.t 11)
 .skip
 (.exit 0))
 (.seq (.block 1 (.seq (.ops [zM 12 10,
 zR 13 (.iaddrS 3) 8 10,
 zO 14 3 13,
 ⟨some 5, none, .a (.alloc [zz, zz, .nils]), []⟩,
 zM 4 12,
 zS 3 [.t 5, .t 14]])
 (.seq (.ops [zF 15 5 2,
 zL 16 15,
 zQ 17 (.mkfunc (.func 70) 0) 2,
 zC2 18 39 16 17,
 zM 6 18])
 (.seq (.ops [zM 19 4,
 zF 20 1 4,
 zL 21 20,
 zR 22 (.bin .neq) 19 21,
 zM 23 22,
 zMg 24 6 23 true,
 zP 25 .pick [.t 23, .t 24, .c (.bool false)],
 zM 26 25,
 zMg 27 0 26 true,
 ⟨some 28, some (26, true), .r (.loadN 3), [.t 5]⟩,
 ⟨some 29, some (26, true), .call, [.t 27, .t 28]⟩,
 zPg 30 .not [.t 29] 26 true,
 zP 31 .pick [.t 26, .t 30, .c (.bool false)]])
 (.cond (.t 31)
 .ret
 .skip)))))
 (.ops [zP 32 (.bin .add) [.t 10, zI 1],
 zM 10 32]))))
def C69 : AFunc := ⟨33, [],
 (.seq (.ops [zF 7 1 3,
 zL 8 7,
 zQ 9 .lenS 8,
 zV 10 0])
 (.block 0 (.loop L_delay_seen_sharers_1_0)))⟩
abbrev f_delay_seen_sharers_1 : Nat := 69
abbrev C_delay_seen_sharers_1 : AFunc := C69
def C70 : AFunc := ⟨8, [.tmp 3],
 (.seq (.ops [zB 2 0,
 zK 3 (.bool false)])
 (.seq (.ops [zF 4 2 5,
 zL 5 4,
 zL 6 1,
 zR 7 (.bin .eql) 5 6,
 zM 3 7])
 .ret))⟩
abbrev f_delay_seen_sharers_1_1 : Nat := 70
abbrev C_delay_seen_sharers_1_1 : AFunc := C70
def L_slices_Index_int_int_0 : AC := (.seq (.ops [zR 9 (.bin .lss) 8 7])
 (.seq (.cond (.t 9)
 .skip
 (.exit 0))
 (.seq (.block 1 (.seq (.ops [zM 10 8,
 zM 5 10])
 (.seq (.ops [zM 11 1,
 zM 12 0,
 zM 13 5,
 zR 14 (.iaddrS 1) 12 13,
 zL 15 14,
 zR 16 (.bin .eql) 11 15])
 (.cond (.t 16)
 (.seq (.ops [zM 17 5,
 zM 4 17])
 .ret)
 .skip))))
 (.ops [zP 18 (.bin .add) [.t 8, zI 1],
 zM 8 18]))))
def C71 : AFunc := ⟨19, [.tmp 4],
 (.seq (.ops [zV 4 0])
 (.seq (.seq (.ops [zM 6 0,
 zQ 7 .lenS 6,
 zV 8 0])
 (.block 0 (.loop L_slices_Index_int_int_0)))
 (.seq (.ops [zV 4 (-1)])
 .ret)))⟩
abbrev f_slices_Index_int_int : Nat := 71
abbrev C_slices_Index_int_int : AFunc := C71
def L_ticks_Gcd_0 : AC := (.seq (.seq (.ops [zM 11 1,
 zP 12 (.bin .neq) [.t 11, zI 0]])
 (.cond (.t 12)
 .skip
 (.exit 0)))
 (.block 1 (.dops [zM 13 1,
 zM 14 0,
 zM 15 1,
 zR 16 (.bin .rem) 14 15,
 zM 0 13,
 zM 1 16] [[], [], [], [], [], []])))
def C72 : AFunc := ⟨18, [.tmp 4, .tmp 5],
 (.seq (.ops [zV 4 0,
 zV 5 0])
 (.seq (.seq (.ops [zM 6 0,
 zM 7 1,
 ⟨some 8, none, .a (.bslice [zz] 2 1 [0, 1]), [.t 6, .t 7]⟩,
 zC1 9 64 8,
 zQ 10 .not 9])
 (.cond (.t 10)
 (.seq (.ops [zV 4 0,
 zV 5 2])
 .ret)
 .skip))
 (.seq (.block 0 (.loop L_ticks_Gcd_0))
 (.seq (.ops [zM 17 0,
 zM 4 17,
 zV 5 0])
 .ret))))⟩
abbrev f_ticks_Gcd : Nat := 72
abbrev C_ticks_Gcd : AFunc := C72
def C73 : AFunc := ⟨29, [.tmp 4, .tmp 5],
 (.seq (.ops [zV 4 0,
 zV 5 0])
 (.seq (.seq (.ops [zM 8 0,
 zM 9 1,
 ⟨some 10, none, .a (.bslice [zz] 2 1 [0, 1]), [.t 8, .t 9]⟩,
 zC1 11 64 10,
 zQ 12 .not 11])
 (.cond (.t 12)
 (.seq (.ops [zV 4 0,
 zV 5 2])
 .ret)
 .skip))
 (.seq (.ops [zM 14 0,
 zQ 15 (.conv .u64) 14,
 zM 16 1,
 zQ 17 (.conv .u64) 16,
 zC2 18 74 15 17,
 zM 13 18,
 zQ 19 (.ext 0) 13,
 zQ 20 (.ext 1) 13,
 zM 6 19,
 zM 7 20])
 (.seq (.seq (.ops [zM 21 6,
 zP 22 (.bin .gtr) [.t 21, .c (.int .u64 0)],
 zM 23 22,
 zMg 24 7 23 false,
 zPg 25 (.bin .gtr) [.t 24, .c (.int .u64 1099511627776)] 23 false,
 zP 26 .pick [.t 23, .c (.bool true), .t 25]])
 (.cond (.t 26)
 (.seq (.ops [zV 4 0,
 zV 5 10])
 .ret)
 .skip))
 (.seq (.ops [zM 27 7,
 zQ 28 (.conv .i64) 27,
 zM 4 28,
 zV 5 0])
 .ret)))))⟩
abbrev f_ticks_Mul : Nat := 73
abbrev C_ticks_Mul : AFunc := C73
def C74 : AFunc := ⟨51, [.tmp 4, .tmp 5],
 (.seq (.ops [zP 4 .mov [.c (.int .u64 0)],
 zP 5 .mov [.c (.int .u64 0)]])
 (.seq (.ops [zM 14 0,
 zP 15 (.bin .and) [.t 14, .c (.int .u64 4294967295)],
 zM 6 15])
 (.seq (.ops [zM 16 0,
 zP 17 (.bin .shr) [.t 16, .c (.int .u64 32)],
 zM 7 17])
 (.seq (.ops [zM 18 1,
 zP 19 (.bin .and) [.t 18, .c (.int .u64 4294967295)],
 zM 8 19])
 (.seq (.ops [zM 20 1,
 zP 21 (.bin .shr) [.t 20, .c (.int .u64 32)],
 zM 9 21])
 (.seq (.ops [zM 22 6,
 zM 23 8,
 zR 24 (.bin .mul) 22 23,
 zM 10 24])
 (.seq (.ops [zM 25 7,
 zM 26 8,
 zR 27 (.bin .mul) 25 26,
 zM 28 10,
 zP 29 (.bin .shr) [.t 28, .c (.int .u64 32)],
 zR 30 (.bin .add) 27 29,
 zM 11 30])
 (.seq (.ops [zM 31 11,
 zP 32 (.bin .and) [.t 31, .c (.int .u64 4294967295)],
 zM 12 32])
 (.seq (.ops [zM 33 11,
 zP 34 (.bin .shr) [.t 33, .c (.int .u64 32)],
 zM 13 34])
 (.seq (.ops [zM 35 12,
 zM 36 6,
 zM 37 9,
 zR 38 (.bin .mul) 36 37,
 zR 39 (.bin .add) 35 38,
 zM 12 39])
 (.seq (.ops [zM 40 7,
 zM 41 9,
 zR 42 (.bin .mul) 40 41,
 zM 43 13,
 zR 44 (.bin .add) 42 43,
 zM 45 12,
 zP 46 (.bin .shr) [.t 45, .c (.int .u64 32)],
 zR 47 (.bin .add) 44 46,
 zM 4 47])
 (.seq (.ops [zM 48 0,
 zM 49 1,
 zR 50 (.bin .mul) 48 49,
 zM 5 50])
 .ret))))))))))))⟩
abbrev f_math_bits_Mul64 : Nat := 74
abbrev C_math_bits_Mul64 : AFunc := C74
def T : Tr AFunc := (.node (.node (.node (.node (.node (.node (.node .nil (some C63) .nil) (some C31) .nil) (some C15) (.node .nil (some C47) .nil)) (some C7) (.node (.node (.node .nil (some C71) .nil) (some C39) .nil) (some C23) (.node .nil (some C55) .nil))) (some C3) (.node (.node (.node (.node .nil (some C67) .nil) (some C35) .nil) (some C19) (.node .nil (some C51) .nil)) (some C11) (.node (.node .nil (some C43) .nil) (some C27) (.node .nil (some C59) .nil)))) none (.node (.node (.node (.node (.node .nil (some C65) .nil) (some C33) .nil) (some C17) (.node .nil (some C49) .nil)) (some C9) (.node (.node (.node .nil (some C73) .nil) (some C41) .nil) (some C25) (.node .nil (some C57) .nil))) (some C5) (.node (.node (.node (.node .nil (some C69) .nil) (some C37) .nil) (some C21) (.node .nil (some C53) .nil)) (some C13) (.node (.node .nil (some C45) .nil) (some C29) (.node .nil (some C61) .nil))))) none (.node (.node (.node (.node (.node (.node .nil (some C64) .nil) (some C32) .nil) (some C16) (.node .nil (some C48) .nil)) (some C8) (.node (.node (.node .nil (some C72) .nil) (some C40) .nil) (some C24) (.node .nil (some C56) .nil))) (some C4) (.node (.node (.node (.node .nil (some C68) .nil) (some C36) .nil) (some C20) (.node .nil (some C52) .nil)) (some C12) (.node (.node .nil (some C44) .nil) (some C28) (.node .nil (some C60) .nil)))) none (.node (.node (.node (.node (.node .nil (some C66) .nil) (some C34) .nil) (some C18) (.node .nil (some C50) .nil)) (some C10) (.node (.node (.node .nil (some C74) .nil) (some C42) .nil) (some C26) (.node .nil (some C58) .nil))) (some C6) (.node (.node (.node (.node .nil (some C70) .nil) (some C38) .nil) (some C22) (.node .nil (some C54) .nil)) (some C14) (.node (.node .nil (some C46) .nil) (some C30) (.node .nil (some C62) .nil))))))
def fs (f : Nat) : Option AFunc := Tr.get T f
def ms (t : Nat) (n : String) : Option Nat := none
end Ir
end Go.Proofs.Ytbmnehpppegecaa
