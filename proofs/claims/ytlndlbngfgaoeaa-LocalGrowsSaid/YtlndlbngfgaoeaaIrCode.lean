/-
  What the program's functions are in Ads, printed by a program.
-/
import Derived.Test.YtlndlbngfgaoeaaAdsDef
set_option linter.unusedVariables false
set_option maxRecDepth 100000
namespace Go.Proofs.Ytlndlbngfgaoeaa
open Go Ads
namespace Ir
abbrev zM (d s : Nat) : Ins := ⟨some d, none, .p .mov, [.t s]⟩
abbrev zF (d s o : Nat) : Ins := ⟨some d, none, .p (.faddr o), [.t s]⟩
abbrev zN (d s : Nat) : Ins := ⟨some d, none, .p .nilchk, [.t s]⟩
abbrev zL (d s : Nat) : Ins := ⟨some d, none, .r .load1, [.t s]⟩
abbrev zMg (d s g : Nat) (b : Bool) : Ins := ⟨some d, some (g, b), .p .mov, [.t s]⟩
abbrev zFg (d s o g : Nat) (b : Bool) : Ins := ⟨some d, some (g, b), .p (.faddr o), [.t s]⟩
abbrev zNg (d s g : Nat) (b : Bool) : Ins := ⟨some d, some (g, b), .p .nilchk, [.t s]⟩
abbrev zLg (d s g : Nat) (b : Bool) : Ins := ⟨some d, some (g, b), .r .load1, [.t s]⟩
abbrev zP (d : Nat) (o : POp) (l : List Rand) : Ins := ⟨some d, none, .p o, l⟩
abbrev zPg (d : Nat) (o : POp) (l : List Rand) (g : Nat) (b : Bool) : Ins := ⟨some d, some (g, b), .p o, l⟩
abbrev zS (n : Nat) (l : List Rand) : Ins := ⟨none, none, .e (.store n), l⟩
abbrev zz : AV := .int .i64 0
abbrev zI (n : Int) : Rand := .c (.int .i64 n)
abbrev zC (d f : Nat) (l : List Rand) : Ins := ⟨some d, none, .call, .c (.func (.func f) [] []) :: l⟩
abbrev zCg (d f : Nat) (l : List Rand) (g : Nat) (b : Bool) : Ins := ⟨some d, some (g, b), .call, .c (.func (.func f) [] []) :: l⟩
abbrev zC0 (d f : Nat) : Ins := ⟨some d, none, .call, [.c (.func (.func f) [] [])]⟩
abbrev zC1 (d f v : Nat) : Ins := ⟨some d, none, .call, [.c (.func (.func f) [] []), .t v]⟩
abbrev zC2 (d f v w : Nat) : Ins := ⟨some d, none, .call, [.c (.func (.func f) [] []), .t v, .t w]⟩
abbrev zC3 (d f v w x : Nat) : Ins := ⟨some d, none, .call, [.c (.func (.func f) [] []), .t v, .t w, .t x]⟩
abbrev zC4 (d f v w x y : Nat) : Ins := ⟨some d, none, .call, [.c (.func (.func f) [] []), .t v, .t w, .t x, .t y]⟩
abbrev zC5 (d f v w x y z : Nat) : Ins := ⟨some d, none, .call, [.c (.func (.func f) [] []), .t v, .t w, .t x, .t y, .t z]⟩
abbrev zQ (d : Nat) (o : POp) (a : Nat) : Ins := ⟨some d, none, .p o, [.t a]⟩
abbrev zR (d : Nat) (o : POp) (a b : Nat) : Ins := ⟨some d, none, .p o, [.t a, .t b]⟩
abbrev zO (d n s : Nat) : Ins := ⟨some d, none, .r (.loadN n), [.t s]⟩
abbrev zV (d : Nat) (n : Int) : Ins := ⟨some d, none, .p .mov, [.c (.int .i64 n)]⟩
abbrev zK (d : Nat) (v : AV) : Ins := ⟨some d, none, .p .mov, [.c v]⟩
abbrev zB (d s : Nat) : Ins := ⟨some d, none, .a .box, [.t s]⟩
abbrev zA (d n b x y : Nat) : Ins := ⟨some d, none, .e (.append n b), [.t x, .t y]⟩
def L_escapementlaw10_LocalAll_0 : AC := (.seq (.seq (.ops [zM 41 10,
 zP 42 (.bin .lss) [.t 41, zI 60]])
 (.cond (.t 42)
 .skip
 (.exit 0)))
 (.seq (.block 1 (.seq (.ops [zM 45 2,
 zM 46 10,
 zM 47 10,
 zR 48 (.bin .mul) 46 47,
 zR 49 (.bin .add) 45 48,
 zC 50 14 [.t 49, zI 30000],
 zM 11 50])
 (.seq (.ops [zM 52 0,
 zM 53 7,
 zM 54 11,
 zC3 55 16 52 53 54,
 zM 51 55,
 zQ 56 (.ext 0) 51,
 zQ 57 (.ext 1) 51,
 zM 12 56,
 zM 13 57])
 (.seq (.ops [zM 58 13,
 zP 59 (.bin .neq) [.t 58, zI 0],
 zM 60 59,
 zMg 61 12 60 false,
 zPg 62 (.bin .lss) [.t 61, zI 0] 60 false,
 zMg 63 62 60 false,
 zMg 64 0 63 true,
 zMg 65 7 63 true,
 zPg 66 (.iaddrS 3) [.t 64, .t 65] 63 true,
 ⟨some 67, some (63, true), .r (.loadN 3), [.t 66]⟩,
 zMg 68 11 63 true,
 zCg 69 17 [.t 67, .t 68] 63 true,
 zPg 70 (.bin .gtr) [.t 69, zI 0] 63 true,
 zPg 71 .pick [.t 63, .t 70, .c (.bool false)] 60 false,
 zP 72 .pick [.t 60, .c (.bool true), .t 71]])
 (.cond (.t 72)
 (.seq (.ops [zK 6 (.bool false)])
 .ret)
 .skip)))))
 (.ops [zM 43 10,
 zP 44 (.bin .add) [.t 43, zI 1],
 zM 10 44])))
def C3 : AFunc := ⟨74, [.tmp 6],
 (.seq (.ops [zK 6 (.bool false)])
 (.seq (.ops [zM 14 0,
 zC 15 12 [.t 14, zI 4],
 zM 0 15])
 (.seq (.seq (.ops [zM 16 0,
 zQ 17 .lenS 16,
 zP 18 (.bin .eql) [.t 17, zI 0]])
 (.cond (.t 18)
 (.seq (.ops [zC0 19 13,
 zM 6 19])
 .ret)
 .skip))
 (.seq (.ops [zM 20 1,
 zM 21 0,
 zQ 22 .lenS 21,
 zC2 23 14 20 22,
 zM 7 23])
 (.seq (.ops [zM 25 0,
 zM 26 7,
 zC2 27 15 25 26,
 zM 24 27,
 zQ 28 (.ext 0) 24,
 zQ 29 (.ext 1) 24,
 zM 8 28,
 zM 9 29])
 (.seq (.seq (.ops [zM 30 9,
 zP 31 (.bin .neq) [.t 30, zI 0]])
 (.cond (.t 31)
 (.seq (.ops [zM 32 9,
 zP 33 (.bin .eql) [.t 32, zI 120],
 zM 34 33,
 zMg 35 9 34 false,
 zPg 36 (.bin .eql) [.t 35, zI 5] 34 false,
 zP 37 .pick [.t 34, .c (.bool true), .t 36],
 zM 38 37,
 ⟨some 39, some (38, true), .call, [.c (.func (.func 13) [] [])]⟩,
 zP 40 .pick [.t 38, .t 39, .c (.bool false)],
 zM 6 40])
 .ret)
 .skip))
 (.seq (.seq (.ops [zV 10 0])
 (.block 0 (.loop L_escapementlaw10_LocalAll_0)))
 (.seq (.ops [zC0 73 13,
 zM 6 73])
 .ret))))))))⟩
abbrev f_escapementlaw10_LocalAll : Nat := 3
abbrev C_escapementlaw10_LocalAll : AFunc := C3
def L_escapementlaw10_LocalGrows_0 : AC := (.seq (.seq (.ops [zM 83 18,
 zF 84 13 2,
 zL 85 84,
 zQ 86 .lenS 85,
 zR 87 (.bin .lss) 83 86])
 (.cond (.t 87)
 .skip
 (.exit 0)))
 (.seq (.block 1 (.seq (.ops [zF 90 13 2,
 zL 91 90,
 zM 92 18,
 zR 93 (.iaddrS 8) 91 92,
 zO 94 8 93,
 ⟨some 19, none, .a (.alloc [zz, zz, zz, zz, zz, zz, zz, zz]), []⟩,
 zS 8 [.t 19, .t 94]])
 (.ops [zM 95 17,
 zF 96 19 0,
 zL 97 96,
 zF 98 19 1,
 zL 99 98,
 zF 100 19 2,
 zL 101 100,
 zP 102 (.bin .sub) [.t 101, zI 1],
 zP 103 .mx [.t 102, zI 1],
 zP 104 (.build [zz, zz, zz, zz, zz, zz, zz, zz] [(0, 1), (1, 1), (2, 1)]) [.t 97, .t 99, .t 103],
 ⟨some 105, none, .a (.bslice [zz, zz, zz, zz, zz, zz, zz, zz] 1 8 [0]), [.t 104]⟩,
 zA 106 8 64 95 105,
 zM 17 106])))
 (.ops [zM 88 18,
 zP 89 (.bin .add) [.t 88, zI 1],
 zM 18 89])))
def C4 : AFunc := ⟨124, [.tmp 6],
 (.seq (.ops [zB 4 1,
 zK 6 (.bool false)])
 (.seq (.ops [zM 22 0,
 zC 23 12 [.t 22, zI 3],
 zM 0 23])
 (.seq (.ops [zO 24 3 4,
 ⟨some 25, none, .a (.bslice [zz, zz, .nils] 1 3 [0]), [.t 24]⟩,
 zC 26 12 [.t 25, zI 1],
 zM 7 26])
 (.seq (.seq (.ops [zM 27 0,
 zQ 28 .lenS 27,
 zP 29 (.bin .eql) [.t 28, zI 0],
 zM 30 29,
 zMg 31 7 30 false,
 zPg 32 .lenS [.t 31] 30 false,
 zPg 33 (.bin .neq) [.t 32, zI 1] 30 false,
 zP 34 .pick [.t 30, .c (.bool true), .t 33]])
 (.cond (.t 34)
 (.seq (.ops [zC0 35 13,
 zM 6 35])
 .ret)
 .skip))
 (.seq (.ops [zM 36 2,
 zM 37 0,
 zQ 38 .lenS 37,
 zC2 39 14 36 38,
 zM 8 39])
 (.seq (.ops [zM 41 0,
 zM 42 8,
 zC2 43 15 41 42,
 zM 40 43,
 zQ 44 (.ext 0) 40,
 zQ 45 (.ext 1) 40,
 zM 9 44,
 zM 10 45])
 (.seq (.ops [⟨some 47, none, .a (.bslice [zz, zz, .nils] 0 3 []), []⟩,
 zM 48 0,
 zA 49 3 40 47 48,
 zM 50 7,
 zA 51 3 40 49 50,
 zM 52 8,
 zC2 53 15 51 52,
 zM 46 53,
 zQ 54 (.ext 0) 46,
 zQ 55 (.ext 1) 46,
 zM 11 54,
 zM 12 55])
 (.seq (.seq (.ops [zM 56 10,
 zP 57 (.bin .neq) [.t 56, zI 0],
 zM 58 57,
 zMg 59 12 58 true,
 zPg 60 (.bin .eql) [.t 59, zI 0] 58 true,
 zP 61 .pick [.t 58, .t 60, .c (.bool false)]])
 (.cond (.t 61)
 (.seq (.ops [zK 6 (.bool false)])
 .ret)
 .skip))
 (.seq (.seq (.ops [zM 62 10,
 zP 63 (.bin .neq) [.t 62, zI 0]])
 (.cond (.t 63)
 (.seq (.ops [zC0 64 13,
 zM 6 64])
 .ret)
 .skip))
 (.seq (.ops [zM 65 0,
 zM 66 8,
 zR 67 (.iaddrS 3) 65 66,
 zO 68 3 67,
 ⟨some 13, none, .a (.alloc [zz, zz, .nils]), []⟩,
 zS 3 [.t 13, .t 68]])
 (.seq (.ops [zF 69 13 1,
 zL 70 69,
 zP 71 (.bin .add) [.t 70, zI 1],
 zF 72 13 0,
 zL 73 72,
 zR 74 .mn 71 73,
 zF 75 13 1,
 zS 1 [.t 75, .t 74]])
 (.seq (.ops [zO 76 3 13,
 ⟨some 77, none, .a (.bslice [zz, zz, .nils] 1 3 [0]), [.t 76]⟩,
 zM 14 77])
 (.seq (.ops [zM 79 14,
 zC 80 15 [.t 79, zI 0],
 zM 78 80,
 zQ 81 (.ext 0) 78,
 zQ 82 (.ext 1) 78,
 zM 15 81,
 zM 16 82])
 (.seq (.ops [zK 17 .nils])
 (.seq (.seq (.ops [zV 18 0])
 (.block 0 (.loop L_escapementlaw10_LocalGrows_0)))
 (.seq (.ops [zM 107 17,
 zF 108 13 2,
 zS 1 [.t 108, .t 107]])
 (.seq (.ops [zO 110 3 13,
 ⟨some 111, none, .a (.bslice [zz, zz, .nils] 1 3 [0]), [.t 110]⟩,
 zC 112 15 [.t 111, zI 0],
 zM 109 112,
 zQ 113 (.ext 0) 109,
 zQ 114 (.ext 1) 109,
 zM 20 113,
 zM 21 114])
 (.seq (.ops [zM 115 16,
 zP 116 (.bin .eql) [.t 115, zI 0],
 zM 117 116,
 zMg 118 21 117 true,
 zPg 119 (.bin .eql) [.t 118, zI 0] 117 true,
 zP 120 .pick [.t 117, .t 119, .c (.bool false)],
 zM 121 120,
 ⟨some 122, some (121, true), .call, [.c (.func (.func 13) [] [])]⟩,
 zP 123 .pick [.t 121, .t 122, .c (.bool false)],
 zM 6 123])
 .ret))))))))))))))))))⟩
abbrev f_escapementlaw10_LocalGrows : Nat := 4
abbrev C_escapementlaw10_LocalGrows : AFunc := C4
def L_escapementlaw10_LocalKeeps_1 : AC := (.seq (.seq (.ops [zM 58 16,
 zM 59 12,
 zQ 60 .lenS 59,
 zR 61 (.bin .lss) 58 60])
 (.cond (.t 61)
 .skip
 (.exit 2)))
 (.seq (.block 3 (.seq (.seq (.ops [zM 64 12,
 zM 65 16,
 zR 66 (.iaddrS 2) 64 65,
 zF 67 66 1,
 zL 68 67,
 zP 69 (.bin .gtr) [.t 68, zI 0],
 zM 70 69,
 zMg 71 12 70 true,
 zMg 72 16 70 true,
 zPg 73 (.iaddrS 2) [.t 71, .t 72] 70 true,
 zFg 74 73 0 70 true,
 zLg 75 74 70 true,
 zMg 76 15 70 true,
 zPg 77 (.bin .leq) [.t 75, .t 76] 70 true,
 zP 78 .pick [.t 70, .t 77, .c (.bool false)]])
 (.cond (.t 78)
 (.seq (.ops [zK 6 (.bool false)])
 .ret)
 .skip))
 (.seq (.ops [zM 79 15,
 zM 80 13,
 zM 81 16,
 zR 82 (.iaddrS 1) 80 81,
 zL 83 82,
 zR 84 (.bin .geq) 79 83])
 (.cond (.t 84)
 (.seq (.dops [zM 85 12,
 zM 86 16,
 zM 87 15,
 zF 88 8 2,
 zL 89 88,
 zM 90 16,
 zR 91 (.iaddrS 8) 89 90,
 zF 92 91 1,
 zL 93 92,
 zR 94 (.bin .add) 87 93,
 zF 95 8 2,
 zL 96 95,
 zM 97 16,
 zR 98 (.iaddrS 8) 96 97,
 zF 99 98 2,
 zL 100 99,
 zR 101 (.build [zz, zz] [(0, 1), (1, 1)]) 94 100,
 zR 102 (.iaddrS 2) 85 86,
 zS 2 [.t 102, .t 101]] [[], [], [], [], [], [], [], [], [], [], [], [], [], [], [], [], [], [], []])
 (.seq (.ops [zM 103 13,
 zM 104 16,
 zM 105 15,
 zF 106 8 2,
 zL 107 106,
 zM 108 16,
 zR 109 (.iaddrS 8) 107 108,
 zF 110 109 0,
 zL 111 110,
 zR 112 (.bin .add) 105 111,
 zR 113 (.iaddrS 1) 103 104,
 zS 1 [.t 113, .t 112]])
 (.seq (.seq (.ops [zM 114 2,
 zQ 115 .lenS 114,
 zP 116 (.bin .gtr) [.t 115, zI 0]])
 (.cond (.t 116)
 (.dops [zM 117 13,
 zM 118 16,
 zM 119 13,
 zM 120 16,
 zR 121 (.iaddrS 1) 119 120,
 zL 122 121,
 zM 123 2,
 zM 124 14,
 zM 125 2,
 zQ 126 .lenS 125,
 zR 127 (.bin .rem) 124 126,
 zR 128 (.iaddrS 1) 123 127,
 zL 129 128,
 zC 130 14 [.t 129, zI 30],
 zR 131 (.bin .add) 122 130,
 zR 132 (.iaddrS 1) 117 118,
 zS 1 [.t 132, .t 131]] [[], [], [], [], [], [0, 14], [], [], [], [], [], [], [], [], [], [], []])
 .skip))
 (.ops [zM 133 14,
 zP 134 (.bin .add) [.t 133, zI 1],
 zM 14 134]))))
 .skip))))
 (.ops [zM 62 16,
 zP 63 (.bin .add) [.t 62, zI 1],
 zM 16 63])))
def L_escapementlaw10_LocalKeeps_2 : AC := (.seq (.seq (.ops [zM 140 18,
 zM 141 12,
 zQ 142 .lenS 141,
 zR 143 (.bin .lss) 140 142])
 (.cond (.t 143)
 .skip
 (.exit 4)))
 (.seq (.block 5 (.seq (.dops [zM 146 12,
 zM 147 18,
 zR 148 (.iaddrS 2) 146 147,
 zF 149 148 1,
 zL 150 149,
 zP 151 (.bin .gtr) [.t 150, zI 0],
 zM 152 151,
 zMg 153 17 152 true,
 zPg 154 (.bin .lss) [.t 153, zI 0] 152 true,
 zMg 155 154 152 true,
 zMg 156 12 155 false,
 zMg 157 18 155 false,
 zPg 158 (.iaddrS 2) [.t 156, .t 157] 155 false,
 zFg 159 158 0 155 false,
 zLg 160 159 155 false,
 zMg 161 12 155 false,
 zMg 162 17 155 false,
 zPg 163 (.iaddrS 2) [.t 161, .t 162] 155 false,
 zFg 164 163 0 155 false,
 zLg 165 164 155 false,
 zPg 166 (.bin .lss) [.t 160, .t 165] 155 false,
 zPg 167 .pick [.t 155, .c (.bool true), .t 166] 152 true,
 zP 168 .pick [.t 152, .t 167, .c (.bool false)]] [[], [], [], [], [], [], [], [], [], [], [], [], [], [], [], [], [], [], [], [], [], [], []])
 (.cond (.t 168)
 (.ops [zM 169 18,
 zM 17 169])
 .skip)))
 (.ops [zM 144 18,
 zP 145 (.bin .add) [.t 144, zI 1],
 zM 18 145])))
def L_escapementlaw10_LocalKeeps_0 : AC := (.seq (.seq (.ops [zM 54 15,
 zP 55 (.bin .lss) [.t 54, zI 400]])
 (.cond (.t 55)
 .skip
 (.exit 0)))
 (.seq (.block 1 (.seq (.seq (.ops [zV 16 0])
 (.block 2 (.loop L_escapementlaw10_LocalKeeps_1)))
 (.seq (.seq (.ops [zM 135 11,
 zM 136 15,
 zR 137 (.iaddrS 1) 135 136,
 zL 138 137,
 zQ 139 .not 138])
 (.cond (.t 139)
 (.exit 1)
 .skip))
 (.seq (.ops [zV 17 (-1)])
 (.seq (.seq (.ops [zV 18 0])
 (.block 4 (.loop L_escapementlaw10_LocalKeeps_2)))
 (.seq (.ops [zM 170 17,
 zP 171 (.bin .geq) [.t 170, zI 0]])
 (.cond (.t 171)
 (.ops [zM 172 12,
 zM 173 17,
 zM 174 12,
 zM 175 17,
 zR 176 (.iaddrS 2) 174 175,
 zF 177 176 1,
 zL 178 177,
 zP 179 (.bin .sub) [.t 178, zI 1],
 zR 180 (.iaddrS 2) 172 173,
 zF 181 180 1,
 zS 1 [.t 181, .t 179]])
 .skip)))))))
 (.ops [zM 56 15,
 zP 57 (.bin .add) [.t 56, zI 1],
 zM 15 57])))
def C5 : AFunc := ⟨182, [.tmp 6],
 (.seq (.ops [zB 3 0,
 zK 6 (.bool false)])
 (.seq (.seq (.ops [zC0 19 13,
 zQ 20 .not 19])
 (.cond (.t 20)
 (.seq (.ops [zK 6 (.bool false)])
 .ret)
 .skip))
 (.seq (.ops [zO 21 3 3,
 ⟨some 22, none, .a (.bslice [zz, zz, .nils] 1 3 [0]), [.t 21]⟩,
 zC 23 12 [.t 22, zI 1],
 zM 7 23])
 (.seq (.seq (.ops [zM 24 7,
 zQ 25 .lenS 24,
 zP 26 (.bin .neq) [.t 25, zI 1]])
 (.cond (.t 26)
 (.seq (.ops [zK 6 (.bool false)])
 .ret)
 .skip))
 (.seq (.ops [zM 27 7,
 zP 28 (.iaddrS 3) [.t 27, zI 0],
 zO 29 3 28,
 ⟨some 8, none, .a (.alloc [zz, zz, .nils]), []⟩,
 zS 3 [.t 8, .t 29]])
 (.seq (.seq (.ops [zM 31 7,
 zC 32 15 [.t 31, zI 0],
 zM 30 32,
 zQ 33 (.ext 0) 30,
 zQ 34 (.ext 1) 30,
 zM 9 33,
 zM 10 34])
 (.seq (.ops [zM 35 10,
 zP 36 (.bin .neq) [.t 35, zI 0]])
 (.cond (.t 36)
 (.seq (.ops [zM 37 10,
 zP 38 (.bin .eql) [.t 37, zI 120],
 zM 39 38,
 zMg 40 10 39 false,
 zPg 41 (.bin .eql) [.t 40, zI 5] 39 false,
 zP 42 .pick [.t 39, .c (.bool true), .t 41],
 zM 6 42])
 .ret)
 .skip)))
 (.seq (.ops [zO 43 3 8,
 zM 44 1,
 zC 45 18 [.t 43, .t 44, .c .nils],
 zM 11 45])
 (.seq (.ops [zF 46 8 2,
 zL 47 46,
 zQ 48 .lenS 47,
 ⟨some 49, none, .a (.mkslice [zz, zz] 2 16), [.t 48, .t 48]⟩,
 zM 12 49])
 (.seq (.ops [zF 50 8 2,
 zL 51 50,
 zQ 52 .lenS 51,
 ⟨some 53, none, .a (.mkslice [zz] 1 8), [.t 52, .t 52]⟩,
 zM 13 53])
 (.seq (.ops [zV 14 0])
 (.seq (.seq (.ops [zV 15 0])
 (.block 0 (.loop L_escapementlaw10_LocalKeeps_0)))
 (.seq (.ops [zK 6 (.bool true)])
 .ret))))))))))))⟩
abbrev f_escapementlaw10_LocalKeeps : Nat := 5
abbrev C_escapementlaw10_LocalKeeps : AFunc := C5
def C6 : AFunc := ⟨162, [.tmp 0],
 (.seq (.ops [zK 0 (.bool false)])
 (.seq (.ops [zC 24 15 [.c .nils, zI 0],
 zM 23 24,
 zQ 25 (.ext 0) 23,
 zQ 26 (.ext 1) 23,
 zM 1 25,
 zM 2 26])
 (.seq (.ops [zP 28 (.build [zz, zz, .nils] []) [],
 ⟨some 29, none, .a (.bslice [zz, zz, .nils] 1 3 [0]), [.t 28]⟩,
 zC 30 15 [.t 29, zI 0],
 zM 27 30,
 zQ 31 (.ext 0) 27,
 zQ 32 (.ext 1) 27,
 zM 3 31,
 zM 4 32])
 (.seq (.ops [zC 34 19 [.c .nils],
 zC 35 15 [.t 34, zI 0],
 zM 33 35,
 zQ 36 (.ext 0) 33,
 zQ 37 (.ext 1) 33,
 zM 5 36,
 zM 6 37])
 (.seq (.ops [zC 39 19 [.c .nils],
 zC 40 16 [.t 39, zI 0, zI (-1)],
 zM 38 40,
 zQ 41 (.ext 0) 38,
 zQ 42 (.ext 1) 38,
 zM 7 41,
 zM 8 42])
 (.seq (.ops [zC 44 19 [.c .nils],
 zC 45 16 [.t 44, zI 0, zI 1048576],
 zM 43 45,
 zQ 46 (.ext 0) 43,
 zQ 47 (.ext 1) 43,
 zM 9 46,
 zM 10 47])
 (.seq (.ops [zC 49 19 [.c .nils],
 zC 50 16 [.t 49, zI 1, zI 5],
 zM 48 50,
 zQ 51 (.ext 0) 48,
 zQ 52 (.ext 1) 48,
 zM 11 51,
 zM 12 52])
 (.seq (.ops [zP 53 (.build [zz, zz, zz, zz, zz, zz, zz, zz] [(0, 1), (1, 1), (2, 1)]) [zI 64, zI 64, zI 64],
 ⟨some 54, none, .a (.bslice [zz, zz, zz, zz, zz, zz, zz, zz] 1 8 [0]), [.t 53]⟩,
 zP 55 (.build [zz, zz, .nils] [(0, 1), (1, 1), (2, 1)]) [zI 64, zI 64, .t 54],
 ⟨some 56, none, .a (.bslice [zz, zz, .nils] 1 3 [0]), [.t 55]⟩,
 zM 13 56])
 (.seq (.ops [zM 58 13,
 zC 59 15 [.t 58, zI 0],
 zM 57 59,
 zQ 60 (.ext 0) 57,
 zQ 61 (.ext 1) 57,
 zM 14 60,
 zM 15 61])
 (.seq (.ops [zM 62 13,
 zM 63 13,
 zP 64 (.iaddrS 3) [.t 63, zI 0],
 zF 65 64 2,
 zL 66 65,
 zP 67 (.build [zz, zz, zz, zz, zz, zz, zz, zz] [(0, 1), (1, 1), (2, 1)]) [zI 63, zI 63, zI 1],
 zP 68 (.build [zz, zz, zz, zz, zz, zz, zz, zz] [(0, 1), (1, 1), (2, 1)]) [zI 61, zI 9, zI 1],
 ⟨some 69, none, .a (.bslice [zz, zz, zz, zz, zz, zz, zz, zz] 2 8 [0, 1]), [.t 67, .t 68]⟩,
 zA 70 8 64 66 69,
 zP 71 (.iaddrS 3) [.t 62, zI 0],
 zF 72 71 2,
 zS 1 [.t 72, .t 70]])
 (.seq (.ops [zM 74 13,
 zC 75 15 [.t 74, zI 0],
 zM 73 75,
 zQ 76 (.ext 0) 73,
 zQ 77 (.ext 1) 73,
 zM 16 76,
 zM 17 77])
 (.seq (.ops [zP 78 (.build [zz, zz, zz, zz, zz, zz, zz, zz] [(0, 1), (1, 1), (2, 1), (5, 1), (6, 1), (7, 1)]) [zI 8, zI 8, zI 4, zI 1, zI 2, zI 2],
 zP 79 (.build [zz, zz, zz, zz, zz, zz, zz, zz] [(0, 1), (1, 1), (2, 1)]) [zI 8, zI 4, zI 2],
 ⟨some 80, none, .a (.bslice [zz, zz, zz, zz, zz, zz, zz, zz] 2 8 [0, 1]), [.t 78, .t 79]⟩,
 zP 81 (.build [zz, zz, .nils] [(0, 1), (1, 1), (2, 1)]) [zI 4, zI 4, .t 80],
 ⟨some 82, none, .a (.bslice [zz, zz, .nils] 1 3 [0]), [.t 81]⟩,
 zM 18 82])
 (.seq (.ops [zM 84 18,
 zC 85 15 [.t 84, zI 0],
 zM 83 85,
 zQ 86 (.ext 0) 83,
 zQ 87 (.ext 1) 83,
 zM 19 86,
 zM 20 87])
 (.seq (.ops [zM 88 18,
 zP 89 (.iaddrS 3) [.t 88, zI 0],
 zF 90 89 2,
 zL 91 90,
 zP 92 (.iaddrS 8) [.t 91, zI 1],
 zF 93 92 2,
 zS 1 [.t 93, zI 1]])
 (.seq (.ops [zM 95 18,
 zC 96 15 [.t 95, zI 0],
 zM 94 96,
 zQ 97 (.ext 0) 94,
 zQ 98 (.ext 1) 94,
 zM 21 97,
 zM 22 98])
 (.seq (.ops [zK 99 (.bool true),
 ⟨some 100, some (99, true), .call, [.c (.func (.func 13) [] [])]⟩,
 zP 101 .pick [.t 99, .t 100, .c (.bool false)],
 zM 102 101,
 zMg 103 2 102 true,
 zPg 104 (.bin .eql) [.t 103, zI 9] 102 true,
 zP 105 .pick [.t 102, .t 104, .c (.bool false)],
 zM 106 105,
 zMg 107 4 106 true,
 zPg 108 (.bin .eql) [.t 107, zI 2] 106 true,
 zP 109 .pick [.t 106, .t 108, .c (.bool false)],
 zM 110 109,
 zMg 111 5 110 true,
 zPg 112 (.bin .eql) [.t 111, zI 0] 110 true,
 zP 113 .pick [.t 110, .t 112, .c (.bool false)],
 zM 114 113,
 zMg 115 6 114 true,
 zPg 116 (.bin .eql) [.t 115, zI 0] 114 true,
 zP 117 .pick [.t 114, .t 116, .c (.bool false)],
 zM 118 117,
 zMg 119 8 118 true,
 zPg 120 (.bin .eql) [.t 119, zI 2] 118 true,
 zP 121 .pick [.t 118, .t 120, .c (.bool false)],
 zM 122 121,
 zMg 123 10 122 true,
 zPg 124 (.bin .eql) [.t 123, zI 0] 122 true,
 zP 125 .pick [.t 122, .t 124, .c (.bool false)],
 zM 126 125,
 zMg 127 9 126 true,
 zPg 128 (.bin .gtr) [.t 127, zI 0] 126 true,
 zP 129 .pick [.t 126, .t 128, .c (.bool false)],
 zM 130 129,
 zMg 131 12 130 true,
 zPg 132 (.bin .eql) [.t 131, zI 9] 130 true,
 zP 133 .pick [.t 130, .t 132, .c (.bool false)],
 zM 134 133,
 zMg 135 14 134 true,
 zPg 136 (.bin .eql) [.t 135, zI 0] 134 true,
 zP 137 .pick [.t 134, .t 136, .c (.bool false)],
 zM 138 137,
 zMg 139 15 138 true,
 zPg 140 (.bin .eql) [.t 139, zI 0] 138 true,
 zP 141 .pick [.t 138, .t 140, .c (.bool false)],
 zM 142 141,
 zMg 143 17 142 true,
 zPg 144 (.bin .eql) [.t 143, zI 5] 142 true,
 zP 145 .pick [.t 142, .t 144, .c (.bool false)],
 zM 146 145,
 zMg 147 19 146 true,
 zPg 148 (.bin .eql) [.t 147, zI 4] 146 true,
 zP 149 .pick [.t 146, .t 148, .c (.bool false)],
 zM 150 149,
 zMg 151 20 150 true,
 zPg 152 (.bin .eql) [.t 151, zI 120] 150 true,
 zP 153 .pick [.t 150, .t 152, .c (.bool false)],
 zM 154 153,
 zMg 155 21 154 true,
 zPg 156 (.bin .eql) [.t 155, zI 0] 154 true,
 zP 157 .pick [.t 154, .t 156, .c (.bool false)],
 zM 158 157,
 zMg 159 22 158 true,
 zPg 160 (.bin .eql) [.t 159, zI 0] 158 true,
 zP 161 .pick [.t 158, .t 160, .c (.bool false)],
 zM 0 161])
 .ret))))))))))))))))⟩
abbrev f_escapementlaw10_LocalNames : Nat := 6
abbrev C_escapementlaw10_LocalNames : AFunc := C6
def L_escapementlaw30_TuneTight_1 : AC := (.seq (.seq (.ops [zM 69 6,
 zM 70 0,
 zM 71 3,
 zR 72 (.iaddrS 3) 70 71,
 zF 73 72 0,
 zL 74 73,
 zR 75 (.bin .leq) 69 74,
 zM 76 75,
 zMg 77 4 76 true,
 zPg 78 (.bin .eql) [.t 77, zI 0] 76 true,
 zMg 79 78 76 true,
 zMg 80 6 79 false,
 zMg 81 4 79 false,
 zPg 82 (.bin .leq) [.t 80, .t 81] 79 false,
 zPg 83 .pick [.t 79, .c (.bool true), .t 82] 76 true,
 zP 84 .pick [.t 76, .t 83, .c (.bool false)]])
 (.cond (.t 84)
 .skip
 (.exit 2)))
 (.seq (.block 3 (.seq (.ops [zM 88 0,
 zM 89 3,
 zM 90 6,
 zC3 91 28 88 89 90,
 zM 92 3,
 zC2 93 15 91 92,
 zM 87 93,
 zQ 94 (.ext 0) 87,
 zQ 95 (.ext 1) 87,
 zM 7 94,
 zM 8 95])
 (.seq (.ops [zM 96 8,
 zP 97 (.bin .eql) [.t 96, zI 0],
 zM 98 6,
 zM 99 4,
 zR 100 (.bin .eql) 98 99,
 zR 101 (.neq .bool) 97 100])
 (.cond (.t 101)
 (.seq (.ops [zK 2 (.bool false)])
 .ret)
 .skip))))
 (.ops [zM 85 6,
 zP 86 (.bin .add) [.t 85, zI 1],
 zM 6 86])))
def L_escapementlaw30_TuneTight_0 : AC := (.seq (.seq (.ops [zM 13 3,
 zM 14 0,
 zQ 15 .lenS 14,
 zR 16 (.bin .lss) 13 15])
 (.cond (.t 16)
 .skip
 (.exit 0)))
 (.seq (.block 1 (.seq (.seq (.ops [zM 19 0,
 zM 20 3,
 zR 21 (.iaddrS 3) 19 20,
 zF 22 21 0,
 zL 23 22,
 zP 24 (.bin .lss) [.t 23, zI 1],
 zM 25 24,
 zMg 26 0 25 false,
 zMg 27 3 25 false,
 zPg 28 (.iaddrS 3) [.t 26, .t 27] 25 false,
 zFg 29 28 0 25 false,
 zLg 30 29 25 false,
 zPg 31 (.bin .gtr) [.t 30, zI 24] 25 false,
 zP 32 .pick [.t 25, .c (.bool true), .t 31]])
 (.cond (.t 32)
 (.exit 1)
 .skip))
 (.seq (.ops [zM 34 0,
 zM 35 3,
 zC2 36 27 34 35,
 zM 33 36,
 zQ 37 (.ext 0) 33,
 zQ 38 (.ext 1) 33,
 zM 4 37,
 zM 5 38])
 (.seq (.seq (.ops [zM 39 5,
 zP 40 (.bin .neq) [.t 39, zI 0],
 zM 41 40,
 zMg 42 5 41 true,
 zPg 43 (.bin .neq) [.t 42, zI 120] 41 true,
 zMg 44 43 41 true,
 zMg 45 4 44 false,
 zPg 46 (.bin .neq) [.t 45, zI 0] 44 false,
 zPg 47 .pick [.t 44, .c (.bool true), .t 46] 41 true,
 zP 48 .pick [.t 41, .t 47, .c (.bool false)],
 zM 49 48,
 zMg 50 4 49 false,
 zPg 51 (.bin .lss) [.t 50, zI 0] 49 false,
 zP 52 .pick [.t 49, .c (.bool true), .t 51],
 zM 53 52,
 zMg 54 4 53 false,
 zMg 55 0 53 false,
 zMg 56 3 53 false,
 zPg 57 (.iaddrS 3) [.t 55, .t 56] 53 false,
 zFg 58 57 0 53 false,
 zLg 59 58 53 false,
 zPg 60 (.bin .gtr) [.t 54, .t 59] 53 false,
 zP 61 .pick [.t 53, .c (.bool true), .t 60],
 zM 62 61,
 zMg 63 4 62 false,
 zPg 64 (.bin .eql) [.t 63, zI 0] 62 false,
 zMg 65 5 62 false,
 zPg 66 (.bin .eql) [.t 65, zI 0] 62 false,
 zPg 67 (.eq .bool) [.t 64, .t 66] 62 false,
 zP 68 .pick [.t 62, .c (.bool true), .t 67]])
 (.cond (.t 68)
 (.seq (.ops [zK 2 (.bool false)])
 .ret)
 .skip))
 (.seq (.ops [zV 6 1])
 (.block 2 (.loop L_escapementlaw30_TuneTight_1)))))))
 (.ops [zM 17 3,
 zP 18 (.bin .add) [.t 17, zI 1],
 zM 3 18])))
def C8 : AFunc := ⟨102, [.tmp 2],
 (.seq (.ops [zK 2 (.bool false)])
 (.seq (.seq (.ops [zC0 9 26,
 zQ 10 .not 9])
 (.cond (.t 10)
 (.seq (.ops [zK 2 (.bool false)])
 .ret)
 .skip))
 (.seq (.ops [zM 11 0,
 zC1 12 20 11,
 zM 0 12])
 (.seq (.seq (.ops [zV 3 0])
 (.block 0 (.loop L_escapementlaw30_TuneTight_0)))
 (.seq (.ops [zK 2 (.bool true)])
 .ret)))))⟩
abbrev f_escapementlaw30_TuneTight : Nat := 8
abbrev C_escapementlaw30_TuneTight : AFunc := C8
def C9 : AFunc := ⟨194, [.tmp 6],
 (.seq (.ops [zB 5 2,
 zK 6 (.bool false)])
 (.seq (.ops [zM 24 0,
 zC1 25 20 24,
 zM 0 25])
 (.seq (.ops [zM 27 0,
 zC1 28 21 27,
 zM 26 28,
 zQ 29 (.ext 0) 26,
 zQ 30 (.ext 1) 26,
 zQ 31 (.ext 2) 26,
 zM 7 29,
 zM 8 30,
 zM 9 31])
 (.seq (.ops [zM 33 0,
 zC1 34 29 33,
 zM 32 34,
 zQ 35 (.ext 0) 32,
 zQ 36 (.ext 1) 32,
 zQ 37 (.ext 2) 32,
 zM 10 35,
 zM 11 36,
 zM 12 37])
 (.seq (.seq (.ops [zM 38 12,
 zP 39 (.bin .neq) [.t 38, zI 0],
 zM 40 39,
 zMg 41 9 40 true,
 zMg 42 12 40 true,
 zPg 43 (.bin .neq) [.t 41, .t 42] 40 true,
 zP 44 .pick [.t 40, .t 43, .c (.bool false)],
 zM 45 44,
 zMg 46 12 45 false,
 zPg 47 (.bin .eql) [.t 46, zI 0] 45 false,
 zMg 48 47 45 false,
 zMg 49 9 48 true,
 zPg 50 (.bin .eql) [.t 49, zI 0] 48 true,
 zMg 51 10 48 true,
 zMg 52 11 48 true,
 zPg 53 (.bin .leq) [.t 51, .t 52] 48 true,
 zPg 54 (.neq .bool) [.t 50, .t 53] 48 true,
 zPg 55 .pick [.t 48, .t 54, .c (.bool false)] 45 false,
 zP 56 .pick [.t 45, .c (.bool true), .t 55],
 zM 57 56,
 zMg 58 9 57 false,
 zPg 59 (.bin .eql) [.t 58, zI 0] 57 false,
 zMg 60 59 57 false,
 zMg 61 7 60 true,
 zMg 62 11 60 true,
 zPg 63 (.bin .mul) [.t 61, .t 62] 60 true,
 zMg 64 10 60 true,
 zMg 65 8 60 true,
 zPg 66 (.bin .mul) [.t 64, .t 65] 60 true,
 zPg 67 (.bin .add) [.t 63, .t 66] 60 true,
 zMg 68 11 60 true,
 zMg 69 8 60 true,
 zPg 70 (.bin .mul) [.t 68, .t 69] 60 true,
 zPg 71 (.bin .neq) [.t 67, .t 70] 60 true,
 zPg 72 .pick [.t 60, .t 71, .c (.bool false)] 57 false,
 zP 73 .pick [.t 57, .c (.bool true), .t 72]])
 (.cond (.t 73)
 (.seq (.ops [zK 6 (.bool false)])
 .ret)
 .skip))
 (.seq (.seq (.ops [zM 74 0,
 zQ 75 .lenS 74,
 zP 76 (.bin .eql) [.t 75, zI 0]])
 (.cond (.t 76)
 (.seq (.ops [zC0 77 26,
 zM 6 77])
 .ret)
 .skip))
 (.seq (.ops [zM 78 1,
 zM 79 0,
 zQ 80 .lenS 79,
 zC2 81 14 78 80,
 zM 13 81])
 (.seq (.dops [zP 82 (.iaddrA 1 2) [.t 5, zI 0],
 zL 83 82,
 zC 84 14 [.t 83, zI 10],
 zP 85 (.bin .add) [zI 1, .t 84],
 zP 86 (.iaddrA 1 2) [.t 5, zI 1],
 zL 87 86,
 zC 88 14 [.t 87, zI 10],
 zP 89 (.bin .add) [zI 1, .t 88],
 zM 14 85,
 zM 15 89] [[], [], [], [], [], [0, 3], [], [], [], []])
 (.seq (.ops [zM 91 0,
 zM 92 13,
 zM 93 14,
 zM 94 15,
 zR 95 .mn 93 94,
 zC3 96 30 91 92 95,
 zM 90 96,
 zQ 97 (.ext 0) 90,
 zQ 98 (.ext 1) 90,
 zQ 99 (.ext 2) 90,
 zM 16 97,
 zM 17 98,
 zM 18 99])
 (.seq (.ops [zM 101 0,
 zM 102 13,
 zM 103 14,
 zM 104 15,
 zR 105 .mx 103 104,
 zC3 106 30 101 102 105,
 zM 100 106,
 zQ 107 (.ext 0) 100,
 zQ 108 (.ext 1) 100,
 zQ 109 (.ext 2) 100,
 zM 19 107,
 zM 20 108,
 zM 21 109])
 (.seq (.seq (.ops [zM 110 18,
 zP 111 (.bin .eql) [.t 110, zI 0],
 zM 112 111,
 zMg 113 21 112 true,
 zPg 114 (.bin .neq) [.t 113, zI 0] 112 true,
 zMg 115 114 112 true,
 zMg 116 20 115 false,
 zMg 117 16 115 false,
 zPg 118 (.bin .mul) [.t 116, .t 117] 115 false,
 zMg 119 17 115 false,
 zMg 120 19 115 false,
 zPg 121 (.bin .mul) [.t 119, .t 120] 115 false,
 zPg 122 (.bin .gtr) [.t 118, .t 121] 115 false,
 zPg 123 .pick [.t 115, .c (.bool true), .t 122] 112 true,
 zMg 124 123 112 true,
 zMg 125 16 124 false,
 zPg 126 (.bin .lss) [.t 125, zI 1] 124 false,
 zPg 127 .pick [.t 124, .c (.bool true), .t 126] 112 true,
 zMg 128 127 112 true,
 zMg 129 16 128 false,
 zMg 130 14 128 false,
 zMg 131 15 128 false,
 zPg 132 .mn [.t 130, .t 131] 128 false,
 zPg 133 (.bin .gtr) [.t 129, .t 132] 128 false,
 zPg 134 .pick [.t 128, .c (.bool true), .t 133] 112 true,
 zMg 135 134 112 true,
 zMg 136 17 135 false,
 zPg 137 (.bin .lss) [.t 136, zI 1] 135 false,
 zPg 138 .pick [.t 135, .c (.bool true), .t 137] 112 true,
 zMg 139 138 112 true,
 zMg 140 17 139 false,
 zMg 141 16 139 false,
 zPg 142 (.bin .gtr) [.t 140, .t 141] 139 false,
 zPg 143 .pick [.t 139, .c (.bool true), .t 142] 112 true,
 zP 144 .pick [.t 112, .t 143, .c (.bool false)],
 zM 145 144,
 zMg 146 21 145 false,
 zPg 147 (.bin .eql) [.t 146, zI 0] 145 false,
 zMg 148 147 145 false,
 zMg 149 19 148 true,
 zPg 150 (.bin .lss) [.t 149, zI 1] 148 true,
 zMg 151 150 148 true,
 zMg 152 20 151 false,
 zPg 153 (.bin .lss) [.t 152, zI 1] 151 false,
 zPg 154 .pick [.t 151, .c (.bool true), .t 153] 148 true,
 zMg 155 154 148 true,
 zMg 156 20 155 false,
 zMg 157 19 155 false,
 zPg 158 (.bin .gtr) [.t 156, .t 157] 155 false,
 zPg 159 .pick [.t 155, .c (.bool true), .t 158] 148 true,
 zPg 160 .pick [.t 148, .t 159, .c (.bool false)] 145 false,
 zP 161 .pick [.t 145, .c (.bool true), .t 160]])
 (.cond (.t 161)
 (.seq (.ops [zK 6 (.bool false)])
 .ret)
 .skip))
 (.seq (.seq (.ops [zM 162 18,
 zP 163 (.bin .neq) [.t 162, zI 0]])
 (.cond (.t 163)
 (.seq (.ops [zM 164 16,
 zP 165 (.bin .eql) [.t 164, zI 0],
 zM 166 165,
 zMg 167 17 166 true,
 zPg 168 (.bin .eql) [.t 167, zI 0] 166 true,
 zP 169 .pick [.t 166, .t 168, .c (.bool false)],
 zM 170 169,
 ⟨some 171, some (170, true), .call, [.c (.func (.func 26) [] [])]⟩,
 zP 172 .pick [.t 170, .t 171, .c (.bool false)],
 zM 6 172])
 .ret)
 .skip))
 (.seq (.ops [zM 173 0,
 zM 174 13,
 zM 175 16,
 zR 176 (.iaddrS 3) 173 174,
 zF 177 176 0,
 zS 1 [.t 177, .t 175]])
 (.seq (.ops [zM 179 0,
 zM 180 13,
 zC2 181 27 179 180,
 zM 178 181,
 zQ 182 (.ext 0) 178,
 zQ 183 (.ext 1) 178,
 zM 22 182,
 zM 23 183])
 (.seq (.ops [zM 184 22,
 zM 185 17,
 zR 186 (.bin .eql) 184 185,
 zM 187 186,
 zMg 188 23 187 true,
 zPg 189 (.bin .eql) [.t 188, zI 0] 187 true,
 zP 190 .pick [.t 187, .t 189, .c (.bool false)],
 zM 191 190,
 ⟨some 192, some (191, true), .call, [.c (.func (.func 26) [] [])]⟩,
 zP 193 .pick [.t 191, .t 192, .c (.bool false)],
 zM 6 193])
 .ret)))))))))))))))⟩
abbrev f_escapementlaw30_TuneShares : Nat := 9
abbrev C_escapementlaw30_TuneShares : AFunc := C9
def C10 : AFunc := ⟨213, [.tmp 0],
 (.seq (.ops [zK 0 (.bool false)])
 (.seq (.ops [zC 39 31 [.c .nils],
 zM 38 39,
 zQ 40 (.ext 0) 38,
 zQ 41 (.ext 1) 38,
 zM 1 40,
 zM 2 41])
 (.seq (.ops [⟨some 43, none, .a (.mkslice [zz, zz, .nils] 3 40), [zI 5, zI 5]⟩,
 zC1 44 31 43,
 zM 42 44,
 zQ 45 (.ext 0) 42,
 zQ 46 (.ext 1) 42,
 zM 3 45,
 zM 4 46])
 (.seq (.ops [zC 48 27 [.c .nils, zI 0],
 zM 47 48,
 zQ 49 (.ext 0) 47,
 zQ 50 (.ext 1) 47,
 zM 5 49,
 zM 6 50])
 (.seq (.ops [zC 52 32 [zI 1, zI 1],
 zC 53 27 [.t 52, zI (-1)],
 zM 51 53,
 zQ 54 (.ext 0) 51,
 zQ 55 (.ext 1) 51,
 zM 7 54,
 zM 8 55])
 (.seq (.ops [zC 57 32 [zI 1, zI 1],
 zC 58 30 [.t 57, zI 2, zI 4],
 zM 56 58,
 zQ 59 (.ext 0) 56,
 zQ 60 (.ext 1) 56,
 zQ 61 (.ext 2) 56,
 zM 9 59,
 zM 10 60,
 zM 11 61])
 (.seq (.ops [zC 63 32 [zI 1, zI 1],
 zC 64 30 [.t 63, zI 0, zI 0],
 zM 62 64,
 zQ 65 (.ext 0) 62,
 zQ 66 (.ext 1) 62,
 zQ 67 (.ext 2) 62,
 zM 12 65,
 zM 13 66,
 zM 14 67])
 (.seq (.ops [zC 69 32 [zI 1, zI 1],
 zC 70 30 [.t 69, zI 0, zI 65],
 zM 68 70,
 zQ 71 (.ext 0) 68,
 zQ 72 (.ext 1) 68,
 zQ 73 (.ext 2) 68,
 zM 15 71,
 zM 16 72,
 zM 17 73])
 (.seq (.ops [zP 75 (.build [zz, zz, .nils] [(0, 1)]) [zI 7],
 ⟨some 76, none, .a (.bslice [zz, zz, .nils] 1 3 [0]), [.t 75]⟩,
 zC 77 27 [.t 76, zI 0],
 zM 74 77,
 zQ 78 (.ext 0) 74,
 zQ 79 (.ext 1) 74,
 zM 18 78,
 zM 19 79])
 (.seq (.ops [zP 81 (.build [zz, zz, .nils] [(0, 1)]) [zI 0],
 ⟨some 82, none, .a (.bslice [zz, zz, .nils] 1 3 [0]), [.t 81]⟩,
 zC 83 27 [.t 82, zI 0],
 zM 80 83,
 zQ 84 (.ext 0) 80,
 zQ 85 (.ext 1) 80,
 zM 20 84,
 zM 21 85])
 (.seq (.ops [zP 87 (.build [zz, zz, .nils] [(0, 1)]) [zI 65],
 ⟨some 88, none, .a (.bslice [zz, zz, .nils] 1 3 [0]), [.t 87]⟩,
 zC 89 27 [.t 88, zI 0],
 zM 86 89,
 zQ 90 (.ext 0) 86,
 zQ 91 (.ext 1) 86,
 zM 22 90,
 zM 23 91])
 (.seq (.ops [zP 92 (.build [zz, zz, zz, zz, zz, zz, zz, zz] [(0, 1), (1, 1), (2, 1)]) [zI 8, zI 2, zI 2],
 zP 93 (.build [zz, zz, zz, zz, zz, zz, zz, zz] [(0, 1), (1, 1), (2, 1)]) [zI 8, zI 2, zI 2],
 ⟨some 94, none, .a (.bslice [zz, zz, zz, zz, zz, zz, zz, zz] 2 8 [0, 1]), [.t 92, .t 93]⟩,
 zP 95 (.build [zz, zz, .nils] [(0, 1), (2, 1)]) [zI 4, .t 94],
 ⟨some 96, none, .a (.bslice [zz, zz, .nils] 1 3 [0]), [.t 95]⟩,
 zM 24 96])
 (.seq (.ops [zM 98 24,
 zC 99 27 [.t 98, zI 0],
 zM 97 99,
 zQ 100 (.ext 0) 97,
 zQ 101 (.ext 1) 97,
 zM 25 100,
 zM 26 101])
 (.seq (.ops [zC 103 21 [.c .nils],
 zM 102 103,
 zQ 104 (.ext 0) 102,
 zQ 105 (.ext 1) 102,
 zQ 106 (.ext 2) 102,
 zM 27 104,
 zM 28 105,
 zM 29 106])
 (.seq (.ops [zP 108 (.build [zz, zz, .nils] [(0, 1), (1, 1)]) [zI 3, zI 3],
 ⟨some 109, none, .a (.bslice [zz, zz, .nils] 1 3 [0]), [.t 108]⟩,
 zC1 110 21 109,
 zM 107 110,
 zQ 111 (.ext 0) 107,
 zQ 112 (.ext 1) 107,
 zQ 113 (.ext 2) 107,
 zM 30 111,
 zM 31 112,
 zM 32 113])
 (.seq (.ops [zP 115 (.build [zz, zz, .nils] [(0, 1)]) [zI 3],
 ⟨some 116, none, .a (.bslice [zz, zz, .nils] 1 3 [0]), [.t 115]⟩,
 zC1 117 21 116,
 zM 114 117,
 zQ 118 (.ext 0) 114,
 zQ 119 (.ext 1) 114,
 zQ 120 (.ext 2) 114,
 zM 33 118,
 zM 34 119,
 zM 35 120])
 (.seq (.ops [zC 122 23 [.c .nils, .c .nils],
 zM 121 122,
 zQ 123 (.ext 0) 121,
 zQ 124 (.ext 1) 121,
 zM 36 123,
 zM 37 124])
 (.seq (.ops [zK 125 (.bool true),
 ⟨some 126, some (125, true), .call, [.c (.func (.func 26) [] [])]⟩,
 zP 127 .pick [.t 125, .t 126, .c (.bool false)],
 zM 128 127,
 zMg 129 2 128 true,
 zPg 130 (.bin .eql) [.t 129, zI 2] 128 true,
 zP 131 .pick [.t 128, .t 130, .c (.bool false)],
 zM 132 131,
 zMg 133 4 132 true,
 zPg 134 (.bin .eql) [.t 133, zI 2] 132 true,
 zP 135 .pick [.t 132, .t 134, .c (.bool false)],
 zM 136 135,
 zMg 137 6 136 true,
 zPg 138 (.bin .eql) [.t 137, zI 9] 136 true,
 zP 139 .pick [.t 136, .t 138, .c (.bool false)],
 zM 140 139,
 zMg 141 8 140 true,
 zPg 142 (.bin .eql) [.t 141, zI 9] 140 true,
 zP 143 .pick [.t 140, .t 142, .c (.bool false)],
 zM 144 143,
 zMg 145 11 144 true,
 zPg 146 (.bin .eql) [.t 145, zI 9] 144 true,
 zP 147 .pick [.t 144, .t 146, .c (.bool false)],
 zM 148 147,
 zMg 149 14 148 true,
 zPg 150 (.bin .eql) [.t 149, zI 2] 148 true,
 zP 151 .pick [.t 148, .t 150, .c (.bool false)],
 zM 152 151,
 zMg 153 17 152 true,
 zPg 154 (.bin .eql) [.t 153, zI 2] 152 true,
 zP 155 .pick [.t 152, .t 154, .c (.bool false)],
 zM 156 155,
 zMg 157 18 156 true,
 zPg 158 (.bin .eql) [.t 157, zI 1] 156 true,
 zP 159 .pick [.t 156, .t 158, .c (.bool false)],
 zM 160 159,
 zMg 161 19 160 true,
 zPg 162 (.bin .eql) [.t 161, zI 0] 160 true,
 zP 163 .pick [.t 160, .t 162, .c (.bool false)],
 zM 164 163,
 zMg 165 21 164 true,
 zPg 166 (.bin .eql) [.t 165, zI 120] 164 true,
 zP 167 .pick [.t 164, .t 166, .c (.bool false)],
 zM 168 167,
 zMg 169 23 168 true,
 zPg 170 (.bin .eql) [.t 169, zI 120] 168 true,
 zP 171 .pick [.t 168, .t 170, .c (.bool false)],
 zM 172 171,
 zMg 173 26 172 true,
 zPg 174 (.bin .eql) [.t 173, zI 120] 172 true,
 zP 175 .pick [.t 172, .t 174, .c (.bool false)],
 zM 176 175,
 zMg 177 27 176 true,
 zPg 178 (.bin .eql) [.t 177, zI 1] 176 true,
 zP 179 .pick [.t 176, .t 178, .c (.bool false)],
 zM 180 179,
 zMg 181 28 180 true,
 zPg 182 (.bin .eql) [.t 181, zI 1] 180 true,
 zP 183 .pick [.t 180, .t 182, .c (.bool false)],
 zM 184 183,
 zMg 185 29 184 true,
 zPg 186 (.bin .eql) [.t 185, zI 0] 184 true,
 zP 187 .pick [.t 184, .t 186, .c (.bool false)],
 zM 188 187,
 zMg 189 30 188 true,
 zPg 190 (.bin .eql) [.t 189, zI 0] 188 true,
 zP 191 .pick [.t 188, .t 190, .c (.bool false)],
 zM 192 191,
 zMg 193 31 192 true,
 zPg 194 (.bin .eql) [.t 193, zI 1] 192 true,
 zP 195 .pick [.t 192, .t 194, .c (.bool false)],
 zM 196 195,
 zMg 197 32 196 true,
 zPg 198 (.bin .eql) [.t 197, zI 0] 196 true,
 zP 199 .pick [.t 196, .t 198, .c (.bool false)],
 zM 200 199,
 zMg 201 35 200 true,
 zPg 202 (.bin .eql) [.t 201, zI 2] 200 true,
 zP 203 .pick [.t 200, .t 202, .c (.bool false)],
 zM 204 203,
 zMg 205 36 204 true,
 zPg 206 .lenS [.t 205] 204 true,
 zPg 207 (.bin .eql) [.t 206, zI 0] 204 true,
 zP 208 .pick [.t 204, .t 207, .c (.bool false)],
 zM 209 208,
 zMg 210 37 209 true,
 zPg 211 (.bin .eql) [.t 210, zI 0] 209 true,
 zP 212 .pick [.t 209, .t 211, .c (.bool false)],
 zM 0 212])
 .ret))))))))))))))))))⟩
abbrev f_escapementlaw30_TuneNames : Nat := 10
abbrev C_escapementlaw30_TuneNames : AFunc := C10
def L_escapementlaw30_TuneGate_0 : AC := (.seq (.seq (.ops [zM 57 9,
 zM 58 5,
 zQ 59 .lenS 58,
 zR 60 (.bin .lss) 57 59])
 (.cond (.t 60)
 .skip
 (.exit 0)))
 (.seq (.block 1 (.seq (.seq (.ops [zO 63 2 7,
 zM 64 8,
 zM 65 9,
 zC3 66 35 63 64 65,
 zP 67 (.bin .neq) [.t 66, zI 0],
 zM 68 67,
 zMg 69 9 68 true,
 zMg 70 5 68 true,
 zPg 71 .lenS [.t 70] 68 true,
 zPg 72 (.bin .sub) [.t 71, zI 1] 68 true,
 zPg 73 (.bin .eql) [.t 69, .t 72] 68 true,
 zP 74 .pick [.t 68, .t 73, .c (.bool false)]])
 (.cond (.t 74)
 (.seq (.ops [zK 2 (.bool false)])
 .ret)
 .skip))
 (.ops [zM 75 8,
 zM 76 9,
 zR 77 (.iaddrS 1) 75 76,
 zS 1 [.t 77, .c (.bool true)]])))
 (.ops [zM 61 9,
 zP 62 (.bin .add) [.t 61, zI 1],
 zM 9 62])))
def C11 : AFunc := ⟨98, [.tmp 2],
 (.seq (.ops [zK 2 (.bool false)])
 (.seq (.ops [zM 13 0,
 zC1 14 20 13,
 zM 0 14])
 (.seq (.ops [zM 16 0,
 zC1 17 31 16,
 zM 15 17,
 zQ 18 (.ext 0) 15,
 zQ 19 (.ext 1) 15,
 zM 3 18,
 zM 4 19])
 (.seq (.seq (.ops [zM 20 4,
 zP 21 (.bin .neq) [.t 20, zI 0]])
 (.cond (.t 21)
 (.seq (.ops [zM 22 3,
 zQ 23 .lenS 22,
 zP 24 (.bin .eql) [.t 23, zI 0],
 zM 25 24,
 ⟨some 26, some (25, true), .call, [.c (.func (.func 26) [] [])]⟩,
 zP 27 .pick [.t 25, .t 26, .c (.bool false)],
 zM 2 27])
 .ret)
 .skip))
 (.seq (.ops [zM 29 0,
 zM 30 3,
 zC2 31 23 29 30,
 zM 28 31,
 zQ 32 (.ext 0) 28,
 zQ 33 (.ext 1) 28,
 zM 5 32,
 zM 6 33])
 (.seq (.seq (.ops [zM 34 6,
 zP 35 (.bin .neq) [.t 34, zI 0],
 zM 36 35,
 zMg 37 5 36 false,
 zPg 38 .lenS [.t 37] 36 false,
 zMg 39 0 36 false,
 zPg 40 .lenS [.t 39] 36 false,
 zPg 41 (.bin .neq) [.t 38, .t 40] 36 false,
 zP 42 .pick [.t 36, .c (.bool true), .t 41],
 zM 43 42,
 zMg 44 5 43 false,
 zCg 45 33 [.t 44] 43 false,
 zPg 46 (.bin .neq) [.t 45, zI 0] 43 false,
 zP 47 .pick [.t 43, .c (.bool true), .t 46]])
 (.cond (.t 47)
 (.seq (.ops [zK 2 (.bool false)])
 .ret)
 .skip))
 (.seq (.ops [zM 48 5,
 zQ 49 (.build [.nils, .nils] [(0, 1)]) 48,
 ⟨some 7, none, .a (.alloc [.nils, .nils]), []⟩,
 zS 2 [.t 7, .t 49]])
 (.seq (.seq (.ops [zO 50 2 7,
 zC1 51 34 50,
 zP 52 (.bin .neq) [.t 51, zI 0]])
 (.cond (.t 52)
 (.seq (.ops [zC0 53 26,
 zM 2 53])
 .ret)
 .skip))
 (.seq (.ops [zM 54 5,
 zQ 55 .lenS 54,
 ⟨some 56, none, .a (.mkslice [(.bool false)] 1 1), [.t 55, .t 55]⟩,
 zM 8 56])
 (.seq (.seq (.ops [zV 9 0])
 (.block 0 (.loop L_escapementlaw30_TuneGate_0)))
 (.seq (.ops [zO 79 2 7,
 zM 80 8,
 zC2 81 36 79 80,
 zM 78 81,
 zQ 82 (.ext 0) 78,
 zQ 83 (.ext 1) 78,
 zQ 84 (.ext 2) 78,
 zM 10 82,
 zM 11 83,
 zM 12 84])
 (.seq (.ops [zM 85 10,
 zP 86 (.bin .eql) [.t 85, zI (-1)],
 zM 87 86,
 zMg 88 11 87 true,
 zPg 89 (.bin .eql) [.t 88, zI 0] 87 true,
 zP 90 .pick [.t 87, .t 89, .c (.bool false)],
 zM 91 90,
 zMg 92 12 91 true,
 zPg 93 (.bin .eql) [.t 92, zI 0] 91 true,
 zP 94 .pick [.t 91, .t 93, .c (.bool false)],
 zM 95 94,
 ⟨some 96, some (95, true), .call, [.c (.func (.func 26) [] [])]⟩,
 zP 97 .pick [.t 95, .t 96, .c (.bool false)],
 zM 2 97])
 .ret))))))))))))⟩
abbrev f_escapementlaw30_TuneGate : Nat := 11
abbrev C_escapementlaw30_TuneGate : AFunc := C11
def L_escapementlaw10_made_1 : AC := (.seq (.seq (.ops [zM 40 8,
 zM 41 0,
 zM 42 6,
 zR 43 (.iaddrS 3) 41 42,
 zF 44 43 2,
 zL 45 44,
 zQ 46 .lenS 45,
 zR 47 (.bin .lss) 40 46,
 zM 48 47,
 zMg 49 8 48 true,
 zPg 50 (.bin .lss) [.t 49, zI 4] 48 true,
 zP 51 .pick [.t 48, .t 50, .c (.bool false)]])
 (.cond (.t 51)
 .skip
 (.exit 2)))
 (.seq (.block 3 (.seq (.ops [zM 54 0,
 zM 55 6,
 zR 56 (.iaddrS 3) 54 55,
 zF 57 56 2,
 zL 58 57,
 zM 59 8,
 zR 60 (.iaddrS 8) 58 59,
 zO 61 8 60,
 ⟨some 9, none, .a (.alloc [zz, zz, zz, zz, zz, zz, zz, zz]), []⟩,
 zS 8 [.t 9, .t 61]])
 (.seq (.ops [zF 62 9 0,
 zL 63 62,
 zC 64 14 [.t 63, zI 48],
 zP 65 (.bin .add) [zI 1, .t 64],
 zQ 66 (.build [zz, zz, zz, zz, zz, zz, zz, zz] [(0, 1)]) 65,
 ⟨some 10, none, .a (.alloc [zz, zz, zz, zz, zz, zz, zz, zz]), []⟩,
 zS 8 [.t 10, .t 66]])
 (.seq (.ops [zF 67 9 1,
 zL 68 67,
 zF 69 10 0,
 zL 70 69,
 zC2 71 14 68 70,
 zP 72 (.bin .add) [zI 1, .t 71],
 zF 73 10 1,
 zS 1 [.t 73, .t 72]])
 (.seq (.ops [zF 74 9 2,
 zL 75 74,
 zF 76 10 1,
 zL 77 76,
 zC2 78 14 75 77,
 zP 79 (.bin .add) [zI 1, .t 78],
 zF 80 10 2,
 zS 1 [.t 80, .t 79]])
 (.seq (.ops [zF 81 9 4,
 zL 82 81,
 zF 83 10 2,
 zL 84 83,
 zP 85 (.bin .add) [.t 84, zI 1],
 zC2 86 14 82 85,
 zF 87 10 4,
 zS 1 [.t 87, .t 86]])
 (.seq (.ops [zF 88 9 5,
 zL 89 88,
 zC 90 14 [.t 89, zI 5],
 zF 91 10 5,
 zS 1 [.t 91, .t 90]])
 (.seq (.seq (.ops [zF 92 10 5,
 zL 93 92,
 zP 94 (.bin .gtr) [.t 93, zI 0]])
 (.cond (.t 94)
 (.seq (.ops [zF 95 9 6,
 zL 96 95,
 zF 97 7 1,
 zL 98 97,
 zF 99 10 2,
 zL 100 99,
 zR 101 .mn 98 100,
 zC2 102 14 96 101,
 zP 103 (.bin .add) [zI 1, .t 102],
 zF 104 10 6,
 zS 1 [.t 104, .t 103]])
 (.dops [zF 105 9 7,
 zL 106 105,
 zF 107 10 2,
 zL 108 107,
 zF 109 10 6,
 zL 110 109,
 zR 111 (.bin .quo) 108 110,
 zC2 112 14 106 111,
 zP 113 (.bin .add) [zI 1, .t 112],
 zF 114 10 7,
 zS 1 [.t 114, .t 113]] [[], [], [], [], [], [], [], [], [], [], []]))
 .skip))
 (.ops [zF 115 7 2,
 zL 116 115,
 zO 117 8 10,
 ⟨some 118, none, .a (.bslice [zz, zz, zz, zz, zz, zz, zz, zz] 1 8 [0]), [.t 117]⟩,
 zA 119 8 64 116 118,
 zF 120 7 2,
 zS 1 [.t 120, .t 119]])))))))))
 (.ops [zM 52 8,
 zP 53 (.bin .add) [.t 52, zI 1],
 zM 8 53])))
def L_escapementlaw10_made_0 : AC := (.seq (.seq (.ops [zM 11 6,
 zM 12 0,
 zQ 13 .lenS 12,
 zR 14 (.bin .lss) 11 13,
 zM 15 14,
 zMg 16 6 15 true,
 zMg 17 1 15 true,
 zPg 18 (.bin .lss) [.t 16, .t 17] 15 true,
 zP 19 .pick [.t 15, .t 18, .c (.bool false)]])
 (.cond (.t 19)
 .skip
 (.exit 0)))
 (.seq (.block 1 (.seq (.ops [zM 22 0,
 zM 23 6,
 zR 24 (.iaddrS 3) 22 23,
 zF 25 24 0,
 zL 26 25,
 zC 27 14 [.t 26, zI 10],
 zP 28 (.bin .add) [zI 1, .t 27],
 zQ 29 (.build [zz, zz, .nils] [(0, 1)]) 28,
 ⟨some 7, none, .a (.alloc [zz, zz, .nils]), []⟩,
 zS 3 [.t 7, .t 29]])
 (.seq (.dops [zM 30 0,
 zM 31 6,
 zR 32 (.iaddrS 3) 30 31,
 zF 33 32 1,
 zL 34 33,
 zF 35 7 0,
 zL 36 35,
 zC2 37 14 34 36,
 zP 38 (.bin .add) [zI 1, .t 37],
 zF 39 7 1,
 zS 1 [.t 39, .t 38]] [[], [], [], [], [], [], [], [], [], [], []])
 (.seq (.seq (.ops [zV 8 0])
 (.block 2 (.loop L_escapementlaw10_made_1)))
 (.ops [zM 121 5,
 zO 122 3 7,
 ⟨some 123, none, .a (.bslice [zz, zz, .nils] 1 3 [0]), [.t 122]⟩,
 zA 124 3 40 121 123,
 zM 5 124])))))
 (.ops [zM 20 6,
 zP 21 (.bin .add) [.t 20, zI 1],
 zM 6 21])))
def C12 : AFunc := ⟨126, [.tmp 4],
 (.seq (.ops [zK 4 .nils])
 (.seq (.ops [zK 5 .nils])
 (.seq (.seq (.ops [zV 6 0])
 (.block 0 (.loop L_escapementlaw10_made_0)))
 (.seq (.ops [zM 125 5,
 zM 4 125])
 .ret))))⟩
abbrev f_escapementlaw10_made : Nat := 12
abbrev C_escapementlaw10_made : AFunc := C12
def C13 : AFunc := ⟨89, [.tmp 0],
 (.seq (.ops [zK 0 (.bool false)])
 (.seq (.ops [zP 12 (.build [zz, zz, zz, zz, zz, zz, zz, zz] [(0, 1), (1, 1), (2, 1)]) [zI 20, zI 12, zI 2],
 ⟨some 1, none, .a (.alloc [zz, zz, zz, zz, zz, zz, zz, zz]), []⟩,
 zS 8 [.t 1, .t 12]])
 (.seq (.ops [zO 14 8 1,
 ⟨some 15, none, .a (.bslice [zz, zz, zz, zz, zz, zz, zz, zz] 1 8 [0]), [.t 14]⟩,
 zC1 16 19 15,
 zC 17 16 [.t 16, zI 0, zI 11],
 zM 13 17,
 zQ 18 (.ext 0) 13,
 zQ 19 (.ext 1) 13,
 zM 2 18,
 zM 3 19])
 (.seq (.ops [zO 21 8 1,
 ⟨some 22, none, .a (.bslice [zz, zz, zz, zz, zz, zz, zz, zz] 1 8 [0]), [.t 21]⟩,
 zC1 23 19 22,
 zC 24 16 [.t 23, zI 0, zI 12],
 zM 20 24,
 zQ 25 (.ext 0) 20,
 zQ 26 (.ext 1) 20,
 zM 4 25,
 zM 5 26])
 (.seq (.ops [zO 28 8 1,
 ⟨some 29, none, .a (.bslice [zz, zz, zz, zz, zz, zz, zz, zz] 1 8 [0]), [.t 28]⟩,
 zC1 30 19 29,
 zC 31 15 [.t 30, zI 0],
 zM 27 31,
 zQ 32 (.ext 0) 27,
 zQ 33 (.ext 1) 27,
 zM 6 32,
 zM 7 33])
 (.seq (.ops [zF 34 1 2,
 zS 1 [.t 34, zI 4]])
 (.seq (.ops [zO 36 8 1,
 ⟨some 37, none, .a (.bslice [zz, zz, zz, zz, zz, zz, zz, zz] 1 8 [0]), [.t 36]⟩,
 zC1 38 19 37,
 zC 39 15 [.t 38, zI 0],
 zM 35 39,
 zQ 40 (.ext 0) 35,
 zQ 41 (.ext 1) 35,
 zM 8 40,
 zM 9 41])
 (.seq (.ops [zF 42 1 2,
 zS 1 [.t 42, zI 2]])
 (.seq (.ops [zO 44 8 1,
 zP 45 (.build [zz, zz, zz, zz, zz, zz, zz, zz] [(0, 1), (1, 1), (2, 1)]) [zI 5, zI 5, zI 2],
 ⟨some 46, none, .a (.bslice [zz, zz, zz, zz, zz, zz, zz, zz] 2 8 [0, 1]), [.t 44, .t 45]⟩,
 zC1 47 19 46,
 zC 48 15 [.t 47, zI 0],
 zM 43 48,
 zQ 49 (.ext 0) 43,
 zQ 50 (.ext 1) 43,
 zM 10 49,
 zM 11 50])
 (.seq (.ops [zM 51 2,
 zP 52 (.bin .eql) [.t 51, zI 2],
 zM 53 52,
 zMg 54 3 53 true,
 zPg 55 (.bin .eql) [.t 54, zI 0] 53 true,
 zP 56 .pick [.t 53, .t 55, .c (.bool false)],
 zM 57 56,
 zMg 58 4 57 true,
 zPg 59 (.bin .eql) [.t 58, zI 1] 57 true,
 zP 60 .pick [.t 57, .t 59, .c (.bool false)],
 zM 61 60,
 zMg 62 5 61 true,
 zPg 63 (.bin .eql) [.t 62, zI 0] 61 true,
 zP 64 .pick [.t 61, .t 63, .c (.bool false)],
 zM 65 64,
 zMg 66 6 65 true,
 zPg 67 (.bin .eql) [.t 66, zI 0] 65 true,
 zP 68 .pick [.t 65, .t 67, .c (.bool false)],
 zM 69 68,
 zMg 70 7 69 true,
 zPg 71 (.bin .eql) [.t 70, zI 0] 69 true,
 zP 72 .pick [.t 69, .t 71, .c (.bool false)],
 zM 73 72,
 zMg 74 8 73 true,
 zPg 75 (.bin .eql) [.t 74, zI 12] 73 true,
 zP 76 .pick [.t 73, .t 75, .c (.bool false)],
 zM 77 76,
 zMg 78 9 77 true,
 zPg 79 (.bin .eql) [.t 78, zI 120] 77 true,
 zP 80 .pick [.t 77, .t 79, .c (.bool false)],
 zM 81 80,
 zMg 82 10 81 true,
 zPg 83 (.bin .eql) [.t 82, zI 0] 81 true,
 zP 84 .pick [.t 81, .t 83, .c (.bool false)],
 zM 85 84,
 zMg 86 11 85 true,
 zPg 87 (.bin .eql) [.t 86, zI 120] 85 true,
 zP 88 .pick [.t 85, .t 87, .c (.bool false)],
 zM 0 88])
 .ret))))))))))⟩
abbrev f_escapementlaw10_works : Nat := 13
abbrev C_escapementlaw10_works : AFunc := C13
def C14 : AFunc := ⟨14, [.tmp 4],
 (.seq (.ops [zV 4 0])
 (.seq (.ops [zM 5 0,
 zM 6 1,
 zR 7 (.bin .rem) 5 6,
 zM 0 7])
 (.seq (.seq (.ops [zM 8 0,
 zP 9 (.bin .lss) [.t 8, zI 0]])
 (.cond (.t 9)
 (.ops [zM 10 0,
 zM 11 1,
 zR 12 (.bin .add) 10 11,
 zM 0 12])
 .skip))
 (.seq (.ops [zM 13 0,
 zM 4 13])
 .ret))))⟩
abbrev f_escapementref00_Bring : Nat := 14
abbrev C_escapementref00_Bring : AFunc := C14
def L_local_Test_0 : AC := (.seq (.ops [zR 70 (.bin .lss) 69 68])
 (.seq (.cond (.t 70)
 .skip
 (.exit 0))
 (.seq (.block 1 (.seq (.ops [zR 71 (.iaddrS 8) 67 69,
 zO 72 8 71,
 ⟨some 12, none, .a (.alloc [zz, zz, zz, zz, zz, zz, zz, zz]), []⟩,
 zS 8 [.t 12, .t 72]])
 (.ops [zM 73 10,
 zF 74 12 1,
 zL 75 74,
 zR 76 .mx 73 75,
 zM 10 76])))
 (.ops [zP 77 (.bin .add) [.t 69, zI 1],
 zM 69 77]))))
def L_local_Test_1a : AC := (.seq (.ops [zM 13 90])
 (.ops [zM 14 91]))
def L_local_Test_1b : AC := (.block 3 (.seq (.ops [zM 92 14,
 zP 93 (.bin .lss) [.t 92, zI 0]])
 (.cond (.t 93)
 (.seq (.ops [zM 94 13,
 zS 1 [.t 4, .t 94],
 zS 1 [.t 5, zI 120]])
 .ret)
 .skip)))
def C15 : AFunc := ⟨95, [.cell 4 1 false, .cell 5 1 false],
 (.seq (.ops [⟨some 4, none, .a (.alloc [zz]), []⟩,
 ⟨some 5, none, .a (.alloc [zz]), []⟩])
 (.seq (.ops [zM 16 0,
 zM 17 1,
 zC2 18 37 16 17,
 zM 15 18,
 zQ 19 (.ext 0) 15,
 zQ 20 (.ext 1) 15,
 ⟨some 6, none, .a (.alloc [zz, zz, .nils, .nils, zz, .nils]), []⟩,
 zS 6 [.t 6, .t 19],
 zS 1 [.t 5, .t 20]])
 (.seq (.seq (.ops [zL 21 5,
 zP 22 (.bin .neq) [.t 21, zI 0],
 zM 23 22,
 zFg 24 6 0 23 false,
 zFg 25 24 2 23 false,
 zLg 26 25 23 false,
 zPg 27 .lenS [.t 26] 23 false,
 zPg 28 (.bin .eql) [.t 27, zI 0] 23 false,
 zP 29 .pick [.t 23, .c (.bool true), .t 28]])
 (.cond (.t 29)
 (.seq (.dops [zL 30 5,
 zS 1 [.t 4, zI 0],
 zS 1 [.t 5, .t 30]] [[0, 2], [], []])
 .ret)
 .skip))
 (.seq (.ops [zF 32 6 0,
 zF 33 32 2,
 zL 34 33,
 zF 35 6 0,
 zF 36 35 0,
 zL 37 36,
 zC2 38 38 34 37,
 zM 31 38,
 zQ 39 (.ext 0) 31,
 zQ 40 (.ext 1) 31,
 zM 7 39,
 zS 1 [.t 5, .t 40]])
 (.seq (.seq (.ops [zL 41 5,
 zP 42 (.bin .neq) [.t 41, zI 0]])
 (.cond (.t 42)
 (.seq (.dops [zL 43 5,
 zS 1 [.t 4, zI 0],
 zS 1 [.t 5, .t 43]] [[0, 2], [], []])
 .ret)
 .skip))
 (.seq (.seq (.ops [zF 45 6 0,
 zF 46 45 2,
 zL 47 46,
 zF 48 6 5,
 zL 49 48,
 zM 50 7,
 zC3 51 39 47 49 50,
 zM 44 51,
 zQ 52 (.ext 0) 44,
 zQ 53 (.ext 1) 44,
 zM 8 52,
 zM 9 53])
 (.seq (.dops [zM 54 8,
 zM 55 7,
 zF 56 6 0,
 zF 57 56 0,
 zL 58 57,
 zR 59 (.bin .quo) 55 58,
 zF 60 6 0,
 zF 61 60 1,
 zL 62 61,
 zR 63 (.bin .mul) 59 62,
 zR 64 (.bin .gtr) 54 63] [[], [], [], [], [], [], [], [], [], [], []])
 (.cond (.t 64)
 (.seq (.ops [zS 1 [.t 4, zI 0],
 zS 1 [.t 5, zI 120]])
 .ret)
 .skip)))
 (.seq (.ops [zV 10 0])
 (.seq (.seq (.ops [zF 65 6 0,
 zF 66 65 2,
 zL 67 66,
 zQ 68 .lenS 67,
 zV 69 0])
 (.block 0 (.loop L_local_Test_0)))
 (.seq (.seq (.dops [zO 78 6 6,
 zM 79 7,
 zM 80 10,
 zF 81 6 0,
 zF 82 81 0,
 zL 83 82,
 zF 84 6 0,
 zF 85 84 0,
 zL 86 85,
 ⟨some 87, none, .a (.bslice [zz] 4 1 [0, 1, 2, 3]), [.t 79, .t 80, .t 83, .t 86]⟩,
 zC1 88 41 87,
 zC2 89 40 78 88] [[0, 11], [], [], [], [], [], [], [], [], [], [], []])
 (.block 2 (.rangeFunc (.t 89) [90, 91] L_local_Test_1a L_local_Test_1b)))
 (.seq (.ops [zS 1 [.t 4, zI 0],
 zS 1 [.t 5, zI 0]])
 .ret))))))))))⟩
abbrev f_local_Test : Nat := 15
abbrev C_local_Test : AFunc := C15
def C16 : AFunc := ⟨28, [.tmp 6, .tmp 7],
 (.seq (.ops [zV 6 0,
 zV 7 0])
 (.seq (.ops [zM 11 0,
 zM 12 1,
 zC2 13 37 11 12,
 zM 10 13,
 zQ 14 (.ext 0) 10,
 zQ 15 (.ext 1) 10,
 ⟨some 8, none, .a (.alloc [zz, zz, .nils, .nils, zz, .nils]), []⟩,
 zS 6 [.t 8, .t 14],
 zM 9 15])
 (.seq (.block 0 (.seq (.ops [zM 17 9,
 zP 18 (.bin .neq) [.t 17, zI 0],
 zM 16 18])
 (.cond (.t 16)
 (.seq (.ops [zM 19 9,
 zV 6 0,
 zM 7 19])
 .ret)
 (.seq (.seq (.ops [zM 21 2,
 zP 22 (.bin .lss) [.t 21, zI 0],
 zM 20 22])
 (.cond (.t 20)
 .skip
 (.ops [zM 23 2,
 zP 24 (.bin .gtr) [.t 23, zI 1048576],
 zM 20 24])))
 (.cond (.t 20)
 (.seq (.ops [zV 6 0,
 zV 7 2])
 .ret)
 .skip)))))
 (.seq (.ops [zO 25 6 8,
 zM 26 2,
 zC2 27 42 25 26,
 zM 6 27,
 zV 7 0])
 .ret))))⟩
abbrev f_local_Slack : Nat := 16
abbrev C_local_Slack : AFunc := C16
def L_escapementlaw10_asks_0 : AC := (.seq (.seq (.ops [zM 8 6,
 zF 9 2 2,
 zL 10 9,
 zQ 11 .lenS 10,
 zR 12 (.bin .lss) 8 11])
 (.cond (.t 12)
 .skip
 (.exit 0)))
 (.seq (.block 1 (.seq (.ops [zF 15 2 2,
 zL 16 15,
 zM 17 6,
 zR 18 (.iaddrS 8) 16 17,
 zO 19 8 18,
 ⟨some 7, none, .a (.alloc [zz, zz, zz, zz, zz, zz, zz, zz]), []⟩,
 zS 8 [.t 7, .t 19]])
 (.seq (.ops [zM 20 1,
 zF 21 7 1,
 zL 22 21,
 zR 23 (.bin .geq) 20 22])
 (.cond (.t 23)
 (.dops [zM 24 5,
 zM 25 1,
 zF 26 7 1,
 zL 27 26,
 zR 28 (.bin .sub) 25 27,
 zF 29 7 0,
 zL 30 29,
 zR 31 (.bin .quo) 28 30,
 zP 32 (.bin .add) [zI 1, .t 31],
 zF 33 7 2,
 zL 34 33,
 zR 35 (.bin .mul) 32 34,
 zR 36 (.bin .add) 24 35,
 zM 5 36] [[], [], [], [], [], [], [], [], [], [], [], [], [], []])
 .skip))))
 (.ops [zM 13 6,
 zP 14 (.bin .add) [.t 13, zI 1],
 zM 6 14])))
def C17 : AFunc := ⟨38, [.tmp 4],
 (.seq (.ops [zB 2 0,
 zV 4 0])
 (.seq (.ops [zV 5 0])
 (.seq (.seq (.ops [zV 6 0])
 (.block 0 (.loop L_escapementlaw10_asks_0)))
 (.seq (.ops [zM 37 5,
 zM 4 37])
 .ret))))⟩
abbrev f_escapementlaw10_asks : Nat := 17
abbrev C_escapementlaw10_asks : AFunc := C17
def L_escapementlaw10_given_1 : AC := (.seq (.seq (.ops [zM 31 9,
 zF 32 3 0,
 zL 33 32,
 zR 34 (.bin .lss) 31 33])
 (.cond (.t 34)
 .skip
 (.exit 2)))
 (.seq (.block 3 (.seq (.ops [zM 37 8,
 zP 38 (.bin .gtr) [.t 37, zI 0],
 zM 39 38,
 zMg 40 8 39 true,
 zFg 41 3 0 39 true,
 zLg 42 41 39 true,
 zMg 43 9 39 true,
 zPg 44 (.bin .sub) [.t 42, .t 43] 39 true,
 zPg 45 (.bin .geq) [.t 40, .t 44] 39 true,
 zMg 46 45 39 true,
 zMg 47 7 46 false,
 zMg 48 9 46 false,
 zPg 49 (.bin .rem) [.t 48, zI 20] 46 false,
 zPg 50 (.bin .shr) [.t 47, .t 49] 46 false,
 zPg 51 (.bin .and) [.t 50, zI 1] 46 false,
 zPg 52 (.bin .eql) [.t 51, zI 1] 46 false,
 zPg 53 .pick [.t 46, .c (.bool true), .t 52] 39 true,
 zP 54 .pick [.t 39, .t 53, .c (.bool false)],
 zM 10 54])
 (.seq (.seq (.ops [zM 55 10])
 (.cond (.t 55)
 (.ops [zM 56 8,
 zP 57 (.bin .sub) [.t 56, zI 1],
 zM 8 57])
 .skip))
 (.ops [zM 58 2,
 zM 59 10,
 ⟨some 60, none, .a (.bslice [(.bool false)] 1 1 [0]), [.t 59]⟩,
 zA 61 1 1 58 60,
 zM 2 61]))))
 (.ops [zM 35 9,
 zP 36 (.bin .add) [.t 35, zI 1],
 zM 9 36])))
def L_escapementlaw10_given_0 : AC := (.seq (.seq (.ops [zM 11 2,
 zQ 12 .lenS 11,
 zP 13 (.bin .lss) [.t 12, zI 400]])
 (.cond (.t 13)
 .skip
 (.exit 0)))
 (.block 1 (.seq (.ops [zV 7 0])
 (.seq (.seq (.ops [zM 14 1,
 zQ 15 .lenS 14,
 zP 16 (.bin .gtr) [.t 15, zI 0]])
 (.cond (.t 16)
 (.ops [zM 17 1,
 zM 18 2,
 zQ 19 .lenS 18,
 zF 20 3 0,
 zL 21 20,
 zR 22 (.bin .quo) 19 21,
 zM 23 1,
 zQ 24 .lenS 23,
 zR 25 (.bin .rem) 22 24,
 zR 26 (.iaddrS 1) 17 25,
 zL 27 26,
 zC 28 14 [.t 27, zI 1048576],
 zM 7 28])
 .skip))
 (.seq (.ops [zF 29 3 1,
 zL 30 29,
 zM 8 30])
 (.seq (.ops [zV 9 0])
 (.block 2 (.loop L_escapementlaw10_given_1))))))))
def C18 : AFunc := ⟨63, [.tmp 6],
 (.seq (.ops [zB 3 0,
 zK 6 .nils])
 (.seq (.block 0 (.loop L_escapementlaw10_given_0))
 (.seq (.ops [zM 62 2,
 zM 6 62])
 .ret)))⟩
abbrev f_escapementlaw10_given : Nat := 18
abbrev C_escapementlaw10_given : AFunc := C18
def C19 : AFunc := ⟨6, [.tmp 2],
 (.seq (.ops [zK 2 .nils])
 (.seq (.ops [zM 3 0,
 zP 4 (.build [zz, zz, .nils] [(0, 1), (1, 1), (2, 1)]) [zI 5, zI 2, .t 3],
 ⟨some 5, none, .a (.bslice [zz, zz, .nils] 1 3 [0]), [.t 4]⟩,
 zM 2 5])
 .ret))⟩
abbrev f_escapementlaw10_one : Nat := 19
abbrev C_escapementlaw10_one : AFunc := C19
def L_escapementlaw30_cutParts_0 : AC := (.seq (.seq (.ops [zM 7 4,
 zM 8 0,
 zQ 9 .lenS 8,
 zR 10 (.bin .lss) 7 9,
 zM 11 10,
 zMg 12 4 11 true,
 zPg 13 (.bin .lss) [.t 12, zI 6] 11 true,
 zP 14 .pick [.t 11, .t 13, .c (.bool false)]])
 (.cond (.t 14)
 .skip
 (.exit 0)))
 (.seq (.block 1 (.seq (.ops [zM 17 0,
 zM 18 4,
 zR 19 (.iaddrS 3) 17 18,
 zO 20 3 19,
 ⟨some 5, none, .a (.alloc [zz, zz, .nils]), []⟩,
 zS 3 [.t 5, .t 20]])
 (.seq (.ops [zK 6 .nils])
 (.seq (.ops [zM 21 6,
 zF 22 5 2,
 zL 23 22,
 zF 24 5 2,
 zL 25 24,
 zQ 26 .lenS 25,
 zP 27 .mn [.t 26, zI 6],
 zR 28 (.slice 8 false true false) 23 27,
 zA 29 8 64 21 28,
 zF 30 5 2,
 zS 1 [.t 30, .t 29]])
 (.ops [zM 31 3,
 zO 32 3 5,
 ⟨some 33, none, .a (.bslice [zz, zz, .nils] 1 3 [0]), [.t 32]⟩,
 zA 34 3 40 31 33,
 zM 3 34])))))
 (.ops [zM 15 4,
 zP 16 (.bin .add) [.t 15, zI 1],
 zM 4 16])))
def C20 : AFunc := ⟨36, [.tmp 2],
 (.seq (.ops [zK 2 .nils])
 (.seq (.ops [zK 3 .nils])
 (.seq (.seq (.ops [zV 4 0])
 (.block 0 (.loop L_escapementlaw30_cutParts_0)))
 (.seq (.ops [zM 35 3,
 zM 2 35])
 .ret))))⟩
abbrev f_escapementlaw30_cutParts : Nat := 20
abbrev C_escapementlaw30_cutParts : AFunc := C20
def C21 : AFunc := ⟨27, [.tmp 2, .tmp 3, .tmp 4],
 (.seq (.ops [zV 2 0,
 zV 3 0,
 zV 4 0])
 (.seq (.ops [zM 6 0,
 zC1 7 29 6,
 zM 5 7,
 zQ 8 (.ext 0) 5,
 zQ 9 (.ext 1) 5,
 zQ 10 (.ext 2) 5,
 zM 2 8,
 zM 3 9,
 zM 4 10])
 (.seq (.block 0 (.seq (.ops [zM 12 4,
 zP 13 (.bin .neq) [.t 12, zI 0],
 zM 11 13])
 (.cond (.t 11)
 (.seq (.ops [zM 14 4,
 zV 2 0,
 zV 3 0,
 zM 4 14])
 .ret)
 (.seq (.ops [zM 16 2,
 zM 17 3,
 zR 18 (.bin .gtr) 16 17,
 zM 15 18])
 (.cond (.t 15)
 (.seq (.ops [zV 2 0,
 zV 3 0,
 zV 4 120])
 .ret)
 (.seq (.ops [zM 20 2,
 zM 21 3,
 zR 22 (.bin .eql) 20 21,
 zM 19 22])
 (.cond (.t 19)
 (.seq (.ops [zV 2 0,
 zV 3 1,
 zV 4 0])
 .ret)
 .skip)))))))
 (.seq (.ops [zM 23 3,
 zM 24 2,
 zR 25 (.bin .sub) 23 24,
 zM 26 3,
 zM 2 25,
 zM 3 26,
 zV 4 0])
 .ret))))⟩
abbrev f_tune_Left : Nat := 21
abbrev C_tune_Left : AFunc := C21
def L_tune_With_0 : AC := (.seq (.ops [zR 18 (.bin .lss) 17 16])
 (.seq (.cond (.t 18)
 .skip
 (.exit 0))
 (.seq (.block 1 (.seq (.ops [zM 19 17,
 zM 7 19])
 (.seq (.ops [zM 20 6,
 zM 21 7,
 zM 22 1,
 zM 23 7,
 zR 24 (.iaddrS 1) 22 23,
 zL 25 24,
 zR 26 (.iaddrS 3) 20 21,
 zF 27 26 1,
 zS 1 [.t 27, .t 25]])
 (.ops [zM 28 6,
 zM 29 7,
 zM 30 6,
 zM 31 7,
 zR 32 (.iaddrS 3) 30 31,
 zF 33 32 2,
 zL 34 33,
 zC1 35 45 34,
 zR 36 (.iaddrS 3) 28 29,
 zF 37 36 2,
 zS 1 [.t 37, .t 35]]))))
 (.ops [zP 38 (.bin .add) [.t 17, zI 1],
 zM 17 38]))))
def C23 : AFunc := ⟨40, [.tmp 4, .tmp 5],
 (.seq (.ops [zK 4 .nils,
 zV 5 0])
 (.seq (.seq (.ops [zM 8 0,
 zQ 9 .lenS 8,
 zM 10 1,
 zQ 11 .lenS 10,
 zR 12 (.bin .neq) 9 11])
 (.cond (.t 12)
 (.seq (.ops [zK 4 .nils,
 zV 5 2])
 .ret)
 .skip))
 (.seq (.ops [zM 13 0,
 zC1 14 44 13,
 zM 6 14])
 (.seq (.seq (.ops [zM 15 6,
 zQ 16 .lenS 15,
 zV 17 0])
 (.block 0 (.loop L_tune_With_0)))
 (.seq (.ops [zM 39 6,
 zM 4 39,
 zV 5 0])
 .ret)))))⟩
abbrev f_tune_With : Nat := 23
abbrev C_tune_With : AFunc := C23
def C26 : AFunc := ⟨119, [.tmp 0],
 (.seq (.ops [zK 0 (.bool false)])
 (.seq (.ops [zC 17 32 [zI 2, zI 3],
 zC1 18 21 17,
 zM 16 18,
 zQ 19 (.ext 0) 16,
 zQ 20 (.ext 1) 16,
 zQ 21 (.ext 2) 16,
 zM 1 19,
 zM 2 20,
 zM 3 21])
 (.seq (.ops [zC 23 32 [zI 4, zI 1],
 zC1 24 21 23,
 zM 22 24,
 zQ 25 (.ext 0) 22,
 zQ 26 (.ext 1) 22,
 zQ 27 (.ext 2) 22,
 zM 4 25,
 zM 5 26,
 zM 6 27])
 (.seq (.ops [zC 29 32 [zI 9, zI 9],
 ⟨some 30, none, .a (.bslice [zz] 2 1 [0, 1]), [zI 1, zI 2]⟩,
 zC2 31 23 29 30,
 zM 28 31,
 zQ 32 (.ext 0) 28,
 zQ 33 (.ext 1) 28,
 zM 7 32,
 zM 8 33])
 (.seq (.ops [zC 35 32 [zI 1, zI 1],
 zP 36 (.slice 3 false true false) [.t 35, zI 1],
 ⟨some 37, none, .a (.bslice [zz] 2 1 [0, 1]), [zI 1, zI 2]⟩,
 zC2 38 23 36 37,
 zM 34 38,
 zQ 39 (.ext 0) 34,
 zQ 40 (.ext 1) 34,
 zM 9 39,
 zM 10 40])
 (.seq (.ops [zC 41 32 [zI 1, zI 1],
 zP 42 (.slice 3 false true false) [.t 41, zI 1],
 zM 11 42])
 (.seq (.ops [zM 43 11,
 zP 44 (.iaddrS 3) [.t 43, zI 0],
 zF 45 44 2,
 zL 46 45,
 zP 47 (.iaddrS 8) [.t 46, zI 0],
 zF 48 47 2,
 zS 1 [.t 48, zI 8]])
 (.seq (.ops [zM 50 11,
 zC 51 27 [.t 50, zI 0],
 zM 49 51,
 zQ 52 (.ext 0) 49,
 zQ 53 (.ext 1) 49,
 zM 12 52,
 zM 13 53])
 (.seq (.ops [zM 55 11,
 zC 56 27 [.t 55, zI 1],
 zM 54 56,
 zQ 57 (.ext 0) 54,
 zQ 58 (.ext 1) 54,
 zM 14 57,
 zM 15 58])
 (.seq (.ops [zM 59 1,
 zP 60 (.bin .eql) [.t 59, zI 1],
 zM 61 60,
 zMg 62 2 61 true,
 zPg 63 (.bin .eql) [.t 62, zI 8] 61 true,
 zP 64 .pick [.t 61, .t 63, .c (.bool false)],
 zM 65 64,
 zMg 66 3 65 true,
 zPg 67 (.bin .eql) [.t 66, zI 0] 65 true,
 zP 68 .pick [.t 65, .t 67, .c (.bool false)],
 zM 69 68,
 zMg 70 6 69 true,
 zPg 71 (.bin .eql) [.t 70, zI 120] 69 true,
 zP 72 .pick [.t 69, .t 71, .c (.bool false)],
 zM 73 72,
 zMg 74 8 73 true,
 zPg 75 (.bin .eql) [.t 74, zI 0] 73 true,
 zP 76 .pick [.t 73, .t 75, .c (.bool false)],
 zM 77 76,
 zMg 78 7 77 true,
 zPg 79 .lenS [.t 78] 77 true,
 zPg 80 (.bin .eql) [.t 79, zI 2] 77 true,
 zP 81 .pick [.t 77, .t 80, .c (.bool false)],
 zM 82 81,
 zMg 83 7 82 true,
 zPg 84 (.iaddrS 3) [.t 83, zI 0] 82 true,
 zFg 85 84 1 82 true,
 zLg 86 85 82 true,
 zPg 87 (.bin .eql) [.t 86, zI 1] 82 true,
 zP 88 .pick [.t 82, .t 87, .c (.bool false)],
 zM 89 88,
 zMg 90 7 89 true,
 zPg 91 (.iaddrS 3) [.t 90, zI 1] 89 true,
 zFg 92 91 1 89 true,
 zLg 93 92 89 true,
 zPg 94 (.bin .eql) [.t 93, zI 2] 89 true,
 zP 95 .pick [.t 89, .t 94, .c (.bool false)],
 zM 96 95,
 zMg 97 7 96 true,
 zPg 98 (.iaddrS 3) [.t 97, zI 1] 96 true,
 zFg 99 98 0 96 true,
 zLg 100 99 96 true,
 zPg 101 (.bin .eql) [.t 100, zI 8] 96 true,
 zP 102 .pick [.t 96, .t 101, .c (.bool false)],
 zM 103 102,
 zMg 104 10 103 true,
 zPg 105 (.bin .eql) [.t 104, zI 2] 103 true,
 zP 106 .pick [.t 103, .t 105, .c (.bool false)],
 zM 107 106,
 zMg 108 12 107 true,
 zPg 109 (.bin .eql) [.t 108, zI 4] 107 true,
 zP 110 .pick [.t 107, .t 109, .c (.bool false)],
 zM 111 110,
 zMg 112 13 111 true,
 zPg 113 (.bin .eql) [.t 112, zI 0] 111 true,
 zP 114 .pick [.t 111, .t 113, .c (.bool false)],
 zM 115 114,
 zMg 116 15 115 true,
 zPg 117 (.bin .eql) [.t 116, zI 9] 115 true,
 zP 118 .pick [.t 115, .t 117, .c (.bool false)],
 zM 0 118])
 .ret))))))))))⟩
abbrev f_escapementlaw30_works : Nat := 26
abbrev C_escapementlaw30_works : AFunc := C26
def C27 : AFunc := ⟨21, [.tmp 4, .tmp 5],
 (.seq (.ops [zV 4 0,
 zV 5 0])
 (.seq (.seq (.ops [zM 6 0,
 zM 7 1,
 zC2 8 46 6 7,
 zQ 9 .not 8])
 (.cond (.t 9)
 (.seq (.ops [zV 4 0,
 zV 5 9])
 .ret)
 .skip))
 (.seq (.seq (.ops [zM 10 0,
 zM 11 1,
 zM 12 0,
 zM 13 1,
 zR 14 (.iaddrS 3) 12 13,
 zF 15 14 0,
 zL 16 15,
 zC3 17 47 10 11 16,
 zM 4 17])
 (.seq (.ops [zM 18 4,
 zP 19 (.bin .eql) [.t 18, zI 0]])
 (.cond (.t 19)
 (.seq (.ops [zV 4 0,
 zV 5 120])
 .ret)
 .skip)))
 (.seq (.ops [zM 20 4,
 zM 4 20,
 zV 5 0])
 .ret))))⟩
abbrev f_tune_Need : Nat := 27
abbrev C_tune_Need : AFunc := C27
def C28 : AFunc := ⟨16, [.tmp 6],
 (.seq (.ops [zK 6 .nils])
 (.seq (.ops [zM 8 0,
 zC1 9 20 8,
 zM 7 9])
 (.seq (.ops [zM 10 7,
 zM 11 1,
 zM 12 2,
 zR 13 (.iaddrS 3) 10 11,
 zF 14 13 1,
 zS 1 [.t 14, .t 12]])
 (.seq (.ops [zM 15 7,
 zM 6 15])
 .ret))))⟩
abbrev f_escapementlaw30_budget : Nat := 28
abbrev C_escapementlaw30_budget : AFunc := C28
def C29 : AFunc := ⟨18, [.tmp 2, .tmp 3, .tmp 4],
 (.seq (.ops [zV 2 0,
 zV 3 0,
 zV 4 0])
 (.seq (.ops [zM 8 0,
 zC1 9 48 8,
 zM 7 9,
 zQ 10 (.ext 0) 7,
 zQ 11 (.ext 1) 7,
 ⟨some 5, none, .a (.alloc [zz, zz]), []⟩,
 zS 2 [.t 5, .t 10],
 zM 6 11])
 (.seq (.seq (.ops [zM 12 6,
 zQ 13 .not 12])
 (.cond (.t 13)
 (.seq (.ops [zV 2 0,
 zV 3 0,
 zV 4 2])
 .ret)
 .skip))
 (.seq (.dops [zF 14 5 0,
 zL 15 14,
 zF 16 5 1,
 zL 17 16,
 zM 2 15,
 zM 3 17,
 zV 4 0] [[], [], [], [], [], [], []])
 .ret))))⟩
abbrev f_share_Sum : Nat := 29
abbrev C_share_Sum : AFunc := C29
def L_tune_Best_0 : AC := (.seq (.ops [zR 25 (.bin .lss) 24 23])
 (.seq (.cond (.t 25)
 .skip
 (.exit 1))
 (.seq (.block 2 (.seq (.ops [zM 26 24,
 zM 10 26])
 (.seq (.ops [zM 27 10,
 zP 28 (.bin .add) [.t 27, zI 1],
 zM 29 0,
 zM 30 1,
 zM 31 10,
 zP 32 (.bin .add) [.t 31, zI 1],
 zC3 33 47 29 30 32,
 zR 34 (.build [zz, zz] [(0, 1), (1, 1)]) 28 33,
 ⟨some 11, none, .a (.alloc [zz, zz]), []⟩,
 zS 2 [.t 11, .t 34]])
 (.seq (.ops [zO 35 2 11,
 zQ 36 (.mkfunc (.func 49) 1) 35,
 zM 12 36])
 (.seq (.ops [zF 37 11 1,
 zL 38 37,
 zP 39 (.bin .gtr) [.t 38, zI 0],
 zM 40 39,
 zMg 41 12 40 true,
 ⟨some 42, some (40, true), .r (.loadN 2), [.t 9]⟩,
 ⟨some 43, some (40, true), .call, [.t 41, .t 42]⟩,
 zP 44 .pick [.t 40, .t 43, .c (.bool false)]])
 (.cond (.t 44)
 (.ops [zO 45 2 11,
 zS 2 [.t 9, .t 45]])
 .skip))))))
 (.ops [zP 46 (.bin .add) [.t 24, zI 1],
 zM 24 46]))))
def C30 : AFunc := ⟨54, [.tmp 6, .tmp 7, .tmp 8],
 (.seq (.ops [zV 6 0,
 zV 7 0,
 zV 8 0])
 (.seq (.block 0 (.seq (.ops [zM 14 0,
 zM 15 1,
 zC2 16 46 14 15,
 zQ 17 .not 16,
 zM 13 17])
 (.cond (.t 13)
 (.seq (.ops [zV 6 0,
 zV 7 0,
 zV 8 9])
 .ret)
 (.seq (.seq (.ops [zM 19 2,
 zP 20 (.bin .lss) [.t 19, zI 1],
 zM 18 20])
 (.cond (.t 18)
 .skip
 (.ops [zM 21 2,
 zP 22 (.bin .gtr) [.t 21, zI 64],
 zM 18 22])))
 (.cond (.t 18)
 (.seq (.ops [zV 6 0,
 zV 7 0,
 zV 8 2])
 .ret)
 .skip)))))
 (.seq (.ops [⟨some 9, none, .a (.alloc [zz, zz]), []⟩])
 (.seq (.seq (.ops [zM 23 2,
 zV 24 0])
 (.block 1 (.loop L_tune_Best_0)))
 (.seq (.seq (.ops [zF 47 9 0,
 zL 48 47,
 zP 49 (.bin .eql) [.t 48, zI 0]])
 (.cond (.t 49)
 (.seq (.ops [zV 6 0,
 zV 7 0,
 zV 8 120])
 .ret)
 .skip))
 (.seq (.dops [zF 50 9 0,
 zL 51 50,
 zF 52 9 1,
 zL 53 52,
 zM 6 51,
 zM 7 53,
 zV 8 0] [[], [], [], [], [], [], []])
 .ret))))))⟩
abbrev f_tune_Best : Nat := 30
abbrev C_tune_Best : AFunc := C30
def L_tune_Needs_0 : AC := (.seq (.ops [zR 19 (.bin .lss) 18 17])
 (.seq (.cond (.t 19)
 .skip
 (.exit 0))
 (.seq (.block 1 (.seq (.ops [zM 20 18,
 zM 4 20])
 (.seq (.ops [zM 22 0,
 zM 23 4,
 zC2 24 27 22 23,
 zM 21 24,
 zQ 25 (.ext 0) 21,
 zQ 26 (.ext 1) 21,
 zM 5 25,
 zM 6 26])
 (.seq (.seq (.ops [zM 27 6,
 zP 28 (.bin .neq) [.t 27, zI 0]])
 (.cond (.t 28)
 (.seq (.ops [zM 29 6,
 zK 2 .nils,
 zM 3 29])
 .ret)
 .skip))
 (.ops [zM 30 2,
 zM 31 5,
 ⟨some 32, none, .a (.bslice [zz] 1 1 [0]), [.t 31]⟩,
 zA 33 1 8 30 32,
 zM 2 33])))))
 (.ops [zP 34 (.bin .add) [.t 18, zI 1],
 zM 18 34]))))
def C31 : AFunc := ⟨49, [.tmp 2, .tmp 3],
 (.seq (.ops [zK 2 .nils,
 zV 3 0])
 (.seq (.seq (.ops [zM 8 0,
 zQ 9 .lenS 8,
 zP 10 (.bin .eql) [.t 9, zI 0],
 zM 11 10,
 zMg 12 0 11 false,
 zPg 13 .lenS [.t 12] 11 false,
 zPg 14 (.bin .gtr) [.t 13, zI 4] 11 false,
 zP 15 .pick [.t 11, .c (.bool true), .t 14]])
 (.cond (.t 15)
 (.seq (.ops [zK 2 .nils,
 zV 3 2])
 .ret)
 .skip))
 (.seq (.seq (.ops [zM 16 0,
 zQ 17 .lenS 16,
 zV 18 0])
 (.block 0 (.loop L_tune_Needs_0)))
 (.seq (.ops [zM 36 0,
 zM 37 2,
 zC2 38 23 36 37,
 zM 35 38,
 zQ 39 (.ext 0) 35,
 zQ 40 (.ext 1) 35,
 zM 7 39,
 zM 3 40])
 (.seq (.seq (.ops [zM 41 3,
 zP 42 (.bin .neq) [.t 41, zI 0],
 zM 43 42,
 zMg 44 7 43 false,
 zCg 45 33 [.t 44] 43 false,
 zPg 46 (.bin .neq) [.t 45, zI 0] 43 false,
 zP 47 .pick [.t 43, .c (.bool true), .t 46]])
 (.cond (.t 47)
 (.seq (.ops [zK 2 .nils,
 zV 3 120])
 .ret)
 .skip))
 (.seq (.ops [zM 48 2,
 zM 2 48,
 zV 3 0])
 .ret))))))⟩
abbrev f_tune_Needs : Nat := 31
abbrev C_tune_Needs : AFunc := C31
def C32 : AFunc := ⟨14, [.tmp 4],
 (.seq (.ops [zK 4 .nils])
 (.seq (.ops [zM 5 0,
 zP 6 (.build [zz, zz, zz, zz, zz, zz, zz, zz] [(0, 1), (1, 1), (2, 1)]) [zI 8, zI 8, zI 2],
 ⟨some 7, none, .a (.bslice [zz, zz, zz, zz, zz, zz, zz, zz] 1 8 [0]), [.t 6]⟩,
 zP 8 (.build [zz, zz, .nils] [(0, 1), (1, 1), (2, 1)]) [zI 4, .t 5, .t 7],
 zM 9 1,
 zP 10 (.build [zz, zz, zz, zz, zz, zz, zz, zz] [(0, 1), (1, 1), (2, 1)]) [zI 8, zI 8, zI 3],
 ⟨some 11, none, .a (.bslice [zz, zz, zz, zz, zz, zz, zz, zz] 1 8 [0]), [.t 10]⟩,
 zP 12 (.build [zz, zz, .nils] [(0, 1), (1, 1), (2, 1)]) [zI 8, .t 9, .t 11],
 ⟨some 13, none, .a (.bslice [zz, zz, .nils] 2 3 [0, 1]), [.t 8, .t 12]⟩,
 zM 4 13])
 .ret))⟩
abbrev f_escapementlaw30_pair : Nat := 32
abbrev C_escapementlaw30_pair : AFunc := C32
def C33 : AFunc := ⟨16, [.tmp 2],
 (.seq (.ops [zV 2 0])
 (.seq (.ops [zM 6 0,
 zC1 7 48 6,
 zM 5 7,
 zQ 8 (.ext 0) 5,
 zQ 9 (.ext 1) 5,
 ⟨some 3, none, .a (.alloc [zz, zz]), []⟩,
 zS 2 [.t 3, .t 8],
 zM 4 9])
 (.seq (.block 0 (.seq (.ops [zM 11 4,
 zQ 12 .not 11,
 zM 10 12])
 (.cond (.t 10)
 (.seq (.ops [zV 2 2])
 .ret)
 (.seq (.ops [zO 14 2 3,
 zC1 15 50 14,
 zM 13 15])
 (.cond (.t 13)
 (.seq (.ops [zV 2 120])
 .ret)
 .skip)))))
 (.seq (.ops [zV 2 0])
 .ret))))⟩
abbrev f_share_Test : Nat := 33
abbrev C_share_Test : AFunc := C33
def C34 : AFunc := ⟨27, [.tmp 2],
 (.seq (.ops [zB 1 0,
 zV 2 0])
 (.seq (.ops [zF 4 1 0,
 zL 5 4,
 zC 6 51 [.t 5, .c (.func (.func 52) [] [])],
 zM 7 6,
 zFg 8 1 1 7 false,
 zLg 9 8 7 false,
 zPg 10 (.mkfunc (.func 55) 0) [.t 1] 7 false,
 zCg 11 54 [.t 9, .t 10] 7 false,
 zP 12 .pick [.t 7, .c (.bool true), .t 11],
 zM 3 12])
 (.seq (.seq (.ops [zM 13 3,
 zM 14 13,
 zFg 15 1 0 14 false,
 zLg 16 15 14 false,
 zPg 17 .lenS [.t 16] 14 false,
 zCg 18 57 [.t 17, zI 1, zI 4] 14 false,
 zPg 19 .not [.t 18] 14 false,
 zP 20 .pick [.t 14, .c (.bool true), .t 19],
 zM 21 20,
 zFg 22 1 1 21 false,
 zLg 23 22 21 false,
 zPg 24 .lenS [.t 23] 21 false,
 zPg 25 (.bin .gtr) [.t 24, zI 8] 21 false,
 zP 26 .pick [.t 21, .c (.bool true), .t 25]])
 (.cond (.t 26)
 (.seq (.ops [zV 2 50])
 .ret)
 .skip))
 (.seq (.ops [zV 2 0])
 .ret))))⟩
abbrev f_conf_Check : Nat := 34
abbrev C_conf_Check : AFunc := C34
def C35 : AFunc := ⟨39, [.tmp 6],
 (.seq (.ops [zB 3 0,
 zV 6 0])
 (.seq (.seq (.ops [zO 9 2 3,
 zM 10 1,
 zC2 11 58 9 10,
 zM 7 11])
 (.seq (.ops [zM 12 7,
 zP 13 (.bin .neq) [.t 12, zI 0]])
 (.cond (.t 13)
 (.seq (.ops [zM 14 7,
 zM 6 14])
 .ret)
 .skip)))
 (.seq (.seq (.ops [zM 15 2,
 zP 16 (.bin .lss) [.t 15, zI 0],
 zM 17 16,
 zMg 18 2 17 false,
 zMg 19 1 17 false,
 zPg 20 .lenS [.t 19] 17 false,
 zPg 21 (.bin .geq) [.t 18, .t 20] 17 false,
 zP 22 .pick [.t 17, .c (.bool true), .t 21]])
 (.cond (.t 22)
 (.seq (.ops [zV 6 9])
 .ret)
 .skip))
 (.seq (.ops [⟨some 8, none, .a (.alloc [(.bool false), (.bool false), (.bool false), (.bool false)]), []⟩])
 (.seq (.ops [zQ 23 (.sliceArr 1 4 false false false) 8,
 zM 24 1,
 ⟨some 25, none, .e (.copy 1), [.t 23, .t 24]⟩])
 (.seq (.ops [zM 26 2,
 zR 27 (.iaddrA 1 4) 8 26,
 zS 1 [.t 27, .c (.bool true)]])
 (.seq (.dops [zO 29 2 3,
 zM 30 1,
 zQ 31 .lenS 30,
 zR 32 (.sliceArr 1 4 false true false) 8 31,
 zC2 33 36 29 32,
 zM 28 33,
 zQ 34 (.ext 0) 28,
 zQ 35 (.ext 1) 28,
 zQ 36 (.ext 2) 28,
 zM 6 36] [[], [], [], [], [], [], [], [], [], []])
 (.seq (.ops [zQ 37 (.sliceArr 1 4 false false false) 8,
 ⟨none, none, .e (.clear [(.bool false)]), [.t 37]⟩])
 (.seq (.ops [zM 38 6,
 zM 6 38])
 .ret)))))))))⟩
abbrev f_gate_Join : Nat := 35
abbrev C_gate_Join : AFunc := C35
def L_gate_Test_0 : AC := (.seq (.ops [zR 33 (.bin .lss) 32 31])
 (.seq (.cond (.t 33)
 .skip
 (.exit 0))
 (.seq (.block 1 (.seq (.ops [zM 34 32,
 zR 35 (.iaddrS 3) 30 32,
 zO 36 3 35,
 ⟨some 11, none, .a (.alloc [zz, zz, .nils]), []⟩,
 zM 10 34,
 zS 3 [.t 11, .t 36]])
 (.seq (.ops [zM 37 1,
 zM 38 10,
 zR 39 (.iaddrS 1) 37 38,
 zL 40 39])
 (.cond (.t 40)
 (.ops [zM 41 8,
 zO 42 3 11,
 ⟨some 43, none, .a (.bslice [zz, zz, .nils] 1 3 [0]), [.t 42]⟩,
 zA 44 3 40 41 43,
 zM 45 9,
 zM 46 10,
 ⟨some 47, none, .a (.bslice [zz] 1 1 [0]), [.t 46]⟩,
 zA 48 1 8 45 47,
 zM 8 44,
 zM 9 48])
 .skip))))
 (.ops [zP 49 (.bin .add) [.t 32, zI 1],
 zM 32 49]))))
def L_gate_Test_1 : AC := (.seq (.ops [zR 58 (.bin .lss) 57 56])
 (.seq (.cond (.t 58)
 .skip
 (.exit 2))
 (.seq (.block 3 (.seq (.ops [zM 59 57,
 zR 60 (.iaddrS 1) 55 57,
 zL 61 60,
 zM 13 59,
 zM 14 61])
 (.seq (.ops [zM 63 8,
 zM 64 13,
 zC2 65 15 63 64,
 zM 62 65,
 zQ 66 (.ext 0) 62,
 zQ 67 (.ext 1) 62,
 zM 15 66,
 zM 16 67])
 (.seq (.ops [zM 68 16,
 zP 69 (.bin .neq) [.t 68, zI 0]])
 (.cond (.t 69)
 (.seq (.ops [zM 70 14,
 zM 71 15,
 zM 72 16,
 zM 4 70,
 zM 5 71,
 zM 6 72])
 .ret)
 .skip)))))
 (.ops [zP 73 (.bin .add) [.t 57, zI 1],
 zM 57 73]))))
def C36 : AFunc := ⟨74, [.tmp 4, .tmp 5, .tmp 6],
 (.seq (.ops [zB 2 0,
 zV 4 0,
 zV 5 0,
 zV 6 0])
 (.seq (.seq (.ops [zO 17 2 2,
 zM 18 1,
 zC2 19 58 17 18,
 zM 7 19])
 (.seq (.ops [zM 20 7,
 zP 21 (.bin .neq) [.t 20, zI 0]])
 (.cond (.t 21)
 (.seq (.ops [zM 22 7,
 zV 4 0,
 zV 5 0,
 zM 6 22])
 .ret)
 .skip)))
 (.seq (.ops [zM 23 1,
 zQ 24 .lenS 23,
 ⟨some 25, none, .a (.mkslice [zz, zz, .nils] 3 40), [zI 0, .t 24]⟩,
 zM 8 25])
 (.seq (.ops [zM 26 1,
 zQ 27 .lenS 26,
 ⟨some 28, none, .a (.mkslice [zz] 1 8), [zI 0, .t 27]⟩,
 zM 9 28])
 (.seq (.seq (.ops [zF 29 2 0,
 zL 30 29,
 zQ 31 .lenS 30,
 zV 32 0])
 (.block 0 (.loop L_gate_Test_0)))
 (.seq (.seq (.ops [zM 50 8,
 zC1 51 33 50,
 zM 12 51])
 (.seq (.ops [zM 52 12,
 zP 53 (.bin .neq) [.t 52, zI 0]])
 (.cond (.t 53)
 (.seq (.ops [zM 54 12,
 zV 4 (-1),
 zV 5 0,
 zM 6 54])
 .ret)
 .skip)))
 (.seq (.seq (.ops [zM 55 9,
 zQ 56 .lenS 55,
 zV 57 0])
 (.block 2 (.loop L_gate_Test_1)))
 (.seq (.ops [zV 4 (-1),
 zV 5 0,
 zV 6 0])
 .ret))))))))⟩
abbrev f_gate_Test : Nat := 36
abbrev C_gate_Test : AFunc := C36
def C37 : AFunc := ⟨26, [.cell 4 6 true, .tmp 5],
 (.seq (.ops [⟨some 4, none, .a (.alloc [zz, zz, .nils, .nils, zz, .nils]), []⟩,
 zV 5 0])
 (.seq (.ops [zM 9 0,
 zM 10 1,
 zC2 11 59 9 10,
 zM 8 11,
 zQ 12 (.ext 0) 8,
 zQ 13 (.ext 1) 8,
 zM 6 12,
 zM 7 13])
 (.seq (.seq (.ops [zM 14 7,
 zP 15 (.bin .neq) [.t 14, zI 0]])
 (.cond (.t 15)
 (.seq (.ops [zP 16 (.build [zz, zz, .nils, .nils, zz, .nils] []) [],
 zM 17 7,
 zS 6 [.t 4, .t 16],
 zM 5 17])
 .ret)
 .skip))
 (.seq (.ops [zM 18 0,
 zM 19 1,
 zR 20 (.iaddrS 3) 18 19,
 zO 21 3 20,
 zM 22 0,
 zM 23 1,
 zM 24 6,
 zP 25 (.build [zz, zz, .nils, .nils, zz, .nils] [(0, 3), (3, 1), (4, 1), (5, 1)]) [.t 21, .t 22, .t 23, .t 24],
 zS 6 [.t 4, .t 25],
 zV 5 0])
 .ret))))⟩
abbrev f_local_of : Nat := 37
abbrev C_local_of : AFunc := C37
def L_demand_Hyper_0 : AC := (.seq (.ops [zR 26 (.bin .lss) 25 24])
 (.seq (.cond (.t 26)
 .skip
 (.exit 0))
 (.seq (.block 1 (.seq (.ops [zR 27 (.iaddrS 8) 23 25,
 zO 28 8 27,
 ⟨some 8, none, .a (.alloc [zz, zz, zz, zz, zz, zz, zz, zz]), []⟩,
 zS 8 [.t 8, .t 28]])
 (.seq (.ops [zM 30 6,
 zF 31 8 0,
 zL 32 31,
 ⟨some 33, none, .a (.bslice [zz] 2 1 [0, 1]), [.t 30, .t 32]⟩,
 zC 34 61 [zI 4096, .t 33],
 zM 29 34,
 zQ 35 (.ext 0) 29,
 zQ 36 (.ext 1) 29,
 zM 9 35,
 zM 10 36])
 (.seq (.seq (.ops [zM 37 10,
 zP 38 (.bin .neq) [.t 37, zI 0]])
 (.cond (.t 38)
 (.seq (.ops [zV 4 0,
 zV 5 5])
 .ret)
 .skip))
 (.ops [zM 39 9,
 zM 6 39])))))
 (.ops [zP 40 (.bin .add) [.t 25, zI 1],
 zM 25 40]))))
def C38 : AFunc := ⟨42, [.tmp 4, .tmp 5],
 (.seq (.ops [zV 4 0,
 zV 5 0])
 (.seq (.seq (.ops [zM 11 0,
 zC1 12 60 11,
 zQ 13 .not 12,
 zM 14 13,
 zMg 15 1 14 false,
 zPg 16 (.bin .lss) [.t 15, zI 1] 14 false,
 zP 17 .pick [.t 14, .c (.bool true), .t 16],
 zM 18 17,
 zMg 19 1 18 false,
 zPg 20 (.bin .gtr) [.t 19, zI 64] 18 false,
 zP 21 .pick [.t 18, .c (.bool true), .t 20]])
 (.cond (.t 21)
 (.seq (.ops [zV 4 0,
 zV 5 2])
 .ret)
 .skip))
 (.seq (.ops [zM 22 1,
 zM 6 22])
 (.seq (.seq (.ops [zM 23 0,
 zQ 24 .lenS 23,
 zV 25 0])
 (.block 0 (.loop L_demand_Hyper_0)))
 (.seq (.ops [zM 41 6,
 zM 4 41,
 zV 5 0])
 .ret)))))⟩
abbrev f_demand_Hyper : Nat := 38
abbrev C_demand_Hyper : AFunc := C38
def C39 : AFunc := ⟨30, [.tmp 6, .tmp 7],
 (.seq (.ops [zB 5 2,
 zV 6 0,
 zV 7 0])
 (.seq (.seq (.ops [zM 9 0,
 zM 10 1,
 zC2 11 62 9 10,
 zM 8 11])
 (.seq (.ops [zM 12 8,
 zP 13 (.bin .neq) [.t 12, zI 0],
 zM 14 13,
 zLg 15 5 14 false,
 zPg 16 (.bin .lss) [.t 15, zI 1] 14 false,
 zP 17 .pick [.t 14, .c (.bool true), .t 16],
 zM 18 17,
 zLg 19 5 18 false,
 zPg 20 (.bin .gtr) [.t 19, zI 1048576] 18 false,
 zP 21 .pick [.t 18, .c (.bool true), .t 20]])
 (.cond (.t 21)
 (.seq (.ops [zV 6 0,
 zV 7 2])
 .ret)
 .skip)))
 (.seq (.seq (.ops [zM 22 0,
 zQ 23 (.mkfunc (.func 64) 0) 5,
 zC2 24 63 22 23])
 (.cond (.t 24)
 (.seq (.ops [zV 6 0,
 zV 7 2])
 .ret)
 .skip))
 (.seq (.ops [zM 25 0,
 zM 26 1,
 zQ 27 (.mkfunc (.func 67) 0) 5,
 zC3 28 66 25 26 27,
 zC1 29 65 28,
 zM 6 29,
 zV 7 0])
 .ret))))⟩
abbrev f_demand_Use : Nat := 39
abbrev C_demand_Use : AFunc := C39
def C40 : AFunc := ⟨6, [.tmp 4],
 (.seq (.ops [zB 2 0,
 zB 3 1,
 zK 4 .nilf])
 (.seq (.ops [zR 5 (.mkfunc (.func 68) 0) 3 2,
 zM 4 5])
 .ret))⟩
abbrev f_local_look_slacks : Nat := 40
abbrev C_local_look_slacks : AFunc := C40
def L_local_sum_0 : AC := (.seq (.ops [zR 8 (.bin .lss) 7 6])
 (.seq (.cond (.t 8)
 .skip
 (.exit 0))
 (.seq (.block 1 (.seq (.ops [zR 9 (.iaddrS 1) 5 7,
 zL 10 9,
 zM 4 10])
 (.ops [zM 11 2,
 zM 12 4,
 zR 13 (.bin .add) 11 12,
 zM 2 13])))
 (.ops [zP 14 (.bin .add) [.t 7, zI 1],
 zM 7 14]))))
def C41 : AFunc := ⟨16, [.tmp 2],
 (.seq (.ops [zV 2 0])
 (.seq (.seq (.ops [zM 5 0,
 zQ 6 .lenS 5,
 zV 7 0])
 (.block 0 (.loop L_local_sum_0)))
 (.seq (.ops [zM 15 2,
 zM 2 15])
 .ret)))⟩
abbrev f_local_sum : Nat := 41
abbrev C_local_sum : AFunc := C41
def C42 : AFunc := ⟨38, [.tmp 4],
 (.seq (.ops [zB 2 0,
 zV 4 0])
 (.seq (.ops [zF 10 2 0,
 zF 11 10 0,
 zL 12 11,
 zF 13 2 0,
 zF 14 13 1,
 zL 15 14,
 zM 16 1,
 zC3 17 70 12 15 16,
 zM 9 17,
 zQ 18 (.ext 0) 9,
 zQ 19 (.ext 1) 9,
 zM 5 18,
 zM 6 19])
 (.seq (.ops [zF 21 2 3,
 zL 22 21,
 zF 23 2 4,
 zL 24 23,
 zM 25 1,
 zC3 26 71 22 24 25,
 zM 20 26,
 zQ 27 (.ext 0) 20,
 zQ 28 (.ext 1) 20,
 zM 7 27,
 zM 8 28])
 (.seq (.ops [zM 29 5,
 zO 30 6 2,
 zM 31 1,
 zC2 32 69 30 31,
 zQ 33 .neg 32,
 zM 34 7,
 zQ 35 .neg 34,
 ⟨some 36, none, .a (.bslice [zz] 3 1 [0, 1, 2]), [.t 29, .t 33, .t 35]⟩,
 zC1 37 41 36,
 zM 4 37])
 .ret))))⟩
abbrev f_local_look_slack : Nat := 42
abbrev C_local_look_slack : AFunc := C42
def C44 : AFunc := ⟨8, [.tmp 2],
 (.seq (.ops [zK 2 .nils])
 (.seq (.seq (.ops [zM 3 0,
 zP 4 (.eq .nilsl) [.t 3, .c .nils]])
 (.cond (.t 4)
 (.seq (.ops [zK 2 .nils])
 .ret)
 .skip))
 (.seq (.ops [⟨some 5, none, .a (.bslice [zz, zz, .nils] 0 3 []), []⟩,
 zM 6 0,
 zA 7 3 40 5 6,
 zM 2 7])
 .ret)))⟩
abbrev f_slices_Clone_api_Part_api_Part : Nat := 44
abbrev C_slices_Clone_api_Part_api_Part : AFunc := C44
def C45 : AFunc := ⟨8, [.tmp 2],
 (.seq (.ops [zK 2 .nils])
 (.seq (.seq (.ops [zM 3 0,
 zP 4 (.eq .nilsl) [.t 3, .c .nils]])
 (.cond (.t 4)
 (.seq (.ops [zK 2 .nils])
 .ret)
 .skip))
 (.seq (.ops [⟨some 5, none, .a (.bslice [zz, zz, zz, zz, zz, zz, zz, zz] 0 8 []), []⟩,
 zM 6 0,
 zA 7 8 64 5 6,
 zM 2 7])
 .ret)))⟩
abbrev f_slices_Clone_api_Task_api_Task : Nat := 45
abbrev C_slices_Clone_api_Task_api_Task : AFunc := C45
def C46 : AFunc := ⟨13, [.tmp 4],
 (.seq (.ops [zK 4 (.bool false)])
 (.seq (.ops [zM 5 1,
 zP 6 (.bin .geq) [.t 5, zI 0],
 zM 7 6,
 zMg 8 1 7 true,
 zMg 9 0 7 true,
 zPg 10 .lenS [.t 9] 7 true,
 zPg 11 (.bin .lss) [.t 8, .t 10] 7 true,
 zP 12 .pick [.t 7, .t 11, .c (.bool false)],
 zM 4 12])
 .ret))⟩
abbrev f_tune_there : Nat := 46
abbrev C_tune_there : AFunc := C46
def L_tune_need_0 : AC := (.seq (.ops [zR 21 (.bin .lss) 20 19])
 (.seq (.cond (.t 21)
 .skip
 (.exit 0))
 (.seq (.block 1 (.seq (.ops [zM 22 20,
 zM 9 22])
 (.seq (.ops [zM 23 8,
 zM 24 9,
 zP 25 (.bin .add) [.t 24, zI 1],
 ⟨some 26, none, .call, [.t 23, .t 25]⟩])
 (.cond (.t 26)
 (.seq (.ops [zM 27 9,
 zP 28 (.bin .add) [.t 27, zI 1],
 zM 6 28])
 .ret)
 .skip))))
 (.ops [zP 29 (.bin .add) [.t 20, zI 1],
 zM 20 29]))))
def C47 : AFunc := ⟨30, [.tmp 6],
 (.seq (.ops [zB 4 1,
 zV 6 0])
 (.seq (.ops [zM 10 0,
 zC1 11 44 10,
 ⟨some 7, none, .a (.alloc [.nils]), []⟩,
 zS 1 [.t 7, .t 11]])
 (.seq (.ops [zL 12 7,
 zL 13 4,
 zM 14 2,
 zR 15 (.iaddrS 3) 12 13,
 zF 16 15 0,
 zS 1 [.t 16, .t 14]])
 (.seq (.ops [zR 17 (.mkfunc (.func 72) 0) 7 4,
 zM 8 17])
 (.seq (.seq (.ops [zM 18 2,
 zP 19 .mn [.t 18, zI 64],
 zV 20 0])
 (.block 0 (.loop L_tune_need_0)))
 (.seq (.ops [zV 6 0])
 .ret))))))⟩
abbrev f_tune_need : Nat := 47
abbrev C_tune_need : AFunc := C47
def L_share_sum_0 : AC := (.seq (.ops [zR 15 (.bin .lss) 14 13])
 (.seq (.cond (.t 15)
 .skip
 (.exit 0))
 (.seq (.block 1 (.seq (.ops [zR 16 (.iaddrS 3) 12 14,
 zO 17 3 16,
 ⟨some 6, none, .a (.alloc [zz, zz, .nils]), []⟩,
 zS 3 [.t 6, .t 17]])
 (.seq (.seq (.ops [zF 18 6 0,
 zL 19 18,
 zP 20 (.bin .gtr) [.t 19, zI 64],
 zM 21 20,
 zFg 22 6 1 21 false,
 zLg 23 22 21 false,
 zPg 24 (.bin .lss) [.t 23, zI 1] 21 false,
 zP 25 .pick [.t 21, .c (.bool true), .t 24],
 zM 26 25,
 zFg 27 6 1 26 false,
 zLg 28 27 26 false,
 zFg 29 6 0 26 false,
 zLg 30 29 26 false,
 zPg 31 (.bin .gtr) [.t 28, .t 30] 26 false,
 zP 32 .pick [.t 26, .c (.bool true), .t 31]])
 (.cond (.t 32)
 (.seq (.ops [zO 33 2 4,
 zS 2 [.t 2, .t 33],
 zK 3 (.bool false)])
 .ret)
 .skip))
 (.ops [zO 34 2 4,
 zF 35 6 1,
 zL 36 35,
 zF 37 6 0,
 zL 38 37,
 zR 39 (.build [zz, zz] [(0, 1), (1, 1)]) 36 38,
 zC2 40 73 34 39,
 zS 2 [.t 4, .t 40]]))))
 (.ops [zP 41 (.bin .add) [.t 14, zI 1],
 zM 14 41]))))
def C48 : AFunc := ⟨43, [.cell 2 2 true, .tmp 3],
 (.seq (.ops [⟨some 2, none, .a (.alloc [zz, zz]), []⟩,
 zK 3 (.bool false)])
 (.seq (.ops [zP 7 (.build [zz, zz] [(0, 1), (1, 1)]) [zI 0, zI 1],
 ⟨some 4, none, .a (.alloc [zz, zz]), []⟩,
 zS 2 [.t 4, .t 7]])
 (.seq (.seq (.ops [zM 8 0,
 zQ 9 .lenS 8,
 zP 10 (.bin .gtr) [.t 9, zI 4]])
 (.cond (.t 10)
 (.seq (.ops [zO 11 2 4,
 zS 2 [.t 2, .t 11],
 zK 3 (.bool false)])
 .ret)
 .skip))
 (.seq (.seq (.ops [zM 12 0,
 zQ 13 .lenS 12,
 zV 14 0])
 (.block 0 (.loop L_share_sum_0)))
 (.seq (.ops [zO 42 2 4,
 zS 2 [.t 2, .t 42],
 zK 3 (.bool true)])
 .ret)))))⟩
abbrev f_share_sum : Nat := 48
abbrev C_share_sum : AFunc := C48
def C49 : AFunc := ⟨21, [.tmp 4],
 (.seq (.ops [zB 2 0,
 zB 3 1,
 zK 4 (.bool false)])
 (.seq (.ops [zF 5 3 0,
 zL 6 5,
 zP 7 (.bin .eql) [.t 6, zI 0],
 zM 8 7,
 zFg 9 2 1 8 false,
 zLg 10 9 8 false,
 zFg 11 3 0 8 false,
 zLg 12 11 8 false,
 zPg 13 (.bin .mul) [.t 10, .t 12] 8 false,
 zFg 14 3 1 8 false,
 zLg 15 14 8 false,
 zFg 16 2 0 8 false,
 zLg 17 16 8 false,
 zPg 18 (.bin .mul) [.t 15, .t 17] 8 false,
 zPg 19 (.bin .lss) [.t 13, .t 18] 8 false,
 zP 20 .pick [.t 8, .c (.bool true), .t 19],
 zM 4 20])
 .ret))⟩
abbrev f_tune_part_less : Nat := 49
abbrev C_tune_part_less : AFunc := C49
def C50 : AFunc := ⟨13, [.tmp 2],
 (.seq (.ops [zB 1 0,
 zK 2 (.bool false)])
 (.seq (.ops [zF 3 1 0,
 zL 4 3,
 zF 5 1 1,
 zL 6 5,
 zR 7 (.bin .gtr) 4 6,
 zM 8 7,
 ⟨some 9, some (8, true), .r (.loadN 2), [.t 1]⟩,
 zPg 10 (.build [zz, zz] [(0, 1), (1, 1)]) [zI 1, zI 1] 8 true,
 zPg 11 (.neq (.cells [0, 0])) [.t 9, .t 10] 8 true,
 zP 12 .pick [.t 8, .t 11, .c (.bool false)],
 zM 2 12])
 .ret))⟩
abbrev f_share_fraction_int_above : Nat := 50
abbrev C_share_fraction_int_above : AFunc := C50
def C51 : AFunc := ⟨9, [.tmp 4],
 (.seq (.ops [zK 4 (.bool false)])
 (.seq (.ops [zM 5 0,
 zM 6 1,
 zC2 7 74 5 6,
 zP 8 (.bin .geq) [.t 7, zI 0],
 zM 4 8])
 .ret))⟩
abbrev f_slices_ContainsFunc_api_Part_api_Part : Nat := 51
abbrev C_slices_ContainsFunc_api_Part_api_Part : AFunc := C51
def C52 : AFunc := ⟨6, [.tmp 2],
 (.seq (.ops [zB 1 0,
 zK 2 (.bool false)])
 (.seq (.ops [zO 3 3 1,
 zC1 4 53 3,
 zQ 5 .not 4,
 zM 2 5])
 .ret))⟩
abbrev f_conf_Check_1 : Nat := 52
abbrev C_conf_Check_1 : AFunc := C52
def C53 : AFunc := ⟨26, [.tmp 2],
 (.seq (.ops [zB 1 0,
 zK 2 (.bool false)])
 (.seq (.seq (.ops [zF 3 1 0,
 zL 4 3,
 zC 5 57 [.t 4, zI 1, zI 64],
 zQ 6 .not 5,
 zM 7 6,
 zFg 8 1 1 7 false,
 zLg 9 8 7 false,
 zFg 10 1 0 7 false,
 zLg 11 10 7 false,
 zCg 12 57 [.t 9, zI 1, .t 11] 7 false,
 zPg 13 .not [.t 12] 7 false,
 zP 14 .pick [.t 7, .c (.bool true), .t 13],
 zM 15 14,
 zFg 16 1 2 15 false,
 zLg 17 16 15 false,
 zPg 18 .lenS [.t 17] 15 false,
 zPg 19 (.bin .gtr) [.t 18, zI 4] 15 false,
 zP 20 .pick [.t 15, .c (.bool true), .t 19]])
 (.cond (.t 20)
 (.seq (.ops [zK 2 (.bool false)])
 .ret)
 .skip))
 (.seq (.ops [zF 21 1 2,
 zL 22 21,
 zQ 23 (.mkfunc (.func 75) 0) 1,
 zC2 24 63 22 23,
 zQ 25 .not 24,
 zM 2 25])
 .ret)))⟩
abbrev f_conf_partMay : Nat := 53
abbrev C_conf_partMay : AFunc := C53
def C54 : AFunc := ⟨9, [.tmp 4],
 (.seq (.ops [zK 4 (.bool false)])
 (.seq (.ops [zM 5 0,
 zM 6 1,
 zC2 7 77 5 6,
 zP 8 (.bin .geq) [.t 7, zI 0],
 zM 4 8])
 .ret))⟩
abbrev f_slices_ContainsFunc_api_Port_api_Port : Nat := 54
abbrev C_slices_ContainsFunc_api_Port_api_Port : AFunc := C54
def C55 : AFunc := ⟨10, [.tmp 3],
 (.seq (.ops [zB 2 0,
 zK 3 (.bool false)])
 (.seq (.ops [zO 4 6 2,
 zF 5 1 0,
 zL 6 5,
 zQ 7 .lenS 6,
 zC2 8 56 4 7,
 zQ 9 .not 8,
 zM 3 9])
 .ret))⟩
abbrev f_conf_Check_2 : Nat := 55
abbrev C_conf_Check_2 : AFunc := C55
def C56 : AFunc := ⟨55, [.tmp 4],
 (.seq (.ops [zB 2 0,
 zK 4 (.bool false)])
 (.seq (.ops [zK 5 (.bool false)])
 (.seq (.seq (.ops [zF 6 2 0,
 zL 7 6])
 (.block 0 (.seq (.ops [zP 9 (.bin .eql) [.t 7, zI 1],
 zM 8 9])
 (.cond (.t 8)
 (.ops [zF 10 2 4,
 zL 11 10,
 zP 12 (.bin .eql) [.t 11, zI 0],
 zM 13 12,
 zFg 14 2 5 13 true,
 zLg 15 14 13 true,
 zCg 16 57 [.t 15, zI 1, zI 64] 13 true,
 zP 17 .pick [.t 13, .t 16, .c (.bool false)],
 zM 5 17])
 (.seq (.ops [zP 19 (.bin .eql) [.t 7, zI 2],
 zM 18 19])
 (.cond (.t 18)
 (.ops [zF 20 2 5,
 zL 21 20,
 zP 22 (.bin .eql) [.t 21, zI 0],
 zM 23 22,
 zFg 24 2 4 23 true,
 zLg 25 24 23 true,
 zCg 26 57 [.t 25, zI 1, zI 4] 23 true,
 zP 27 .pick [.t 23, .t 26, .c (.bool false)],
 zM 5 27])
 .skip))))))
 (.seq (.ops [zM 28 5,
 zM 29 28,
 zFg 30 2 1 29 true,
 zLg 31 30 29 true,
 zMg 32 1 29 true,
 zPg 33 (.bin .sub) [.t 32, zI 1] 29 true,
 zCg 34 57 [.t 31, zI 0, .t 33] 29 true,
 zP 35 .pick [.t 29, .t 34, .c (.bool false)],
 zM 36 35,
 zFg 37 2 2 36 true,
 zLg 38 37 36 true,
 zMg 39 1 36 true,
 zPg 40 (.bin .sub) [.t 39, zI 1] 36 true,
 zCg 41 57 [.t 38, zI 0, .t 40] 36 true,
 zP 42 .pick [.t 36, .t 41, .c (.bool false)],
 zM 43 42,
 zFg 44 2 1 43 true,
 zLg 45 44 43 true,
 zFg 46 2 2 43 true,
 zLg 47 46 43 true,
 zPg 48 (.bin .neq) [.t 45, .t 47] 43 true,
 zP 49 .pick [.t 43, .t 48, .c (.bool false)],
 zM 50 49,
 zFg 51 2 3 50 true,
 zLg 52 51 50 true,
 zCg 53 57 [.t 52, zI 1, zI 16] 50 true,
 zP 54 .pick [.t 50, .t 53, .c (.bool false)],
 zM 4 54])
 .ret))))⟩
abbrev f_conf_portMay : Nat := 56
abbrev C_conf_portMay : AFunc := C56
def C57 : AFunc := ⟨15, [.tmp 6],
 (.seq (.ops [zK 6 (.bool false)])
 (.seq (.ops [zM 7 1,
 zM 8 0,
 zR 9 (.bin .leq) 7 8,
 zM 10 9,
 zMg 11 0 10 true,
 zMg 12 2 10 true,
 zPg 13 (.bin .leq) [.t 11, .t 12] 10 true,
 zP 14 .pick [.t 10, .t 13, .c (.bool false)],
 zM 6 14])
 .ret))⟩
abbrev f_conf_within : Nat := 57
abbrev C_conf_within : AFunc := C57
def C58 : AFunc := ⟨17, [.tmp 4],
 (.seq (.ops [zB 2 0,
 zV 4 0])
 (.seq (.seq (.ops [zO 6 2 2,
 zC1 7 34 6,
 zM 5 7])
 (.seq (.ops [zM 8 5,
 zP 9 (.bin .neq) [.t 8, zI 0]])
 (.cond (.t 9)
 (.seq (.ops [zM 10 5,
 zM 4 10])
 .ret)
 .skip)))
 (.seq (.seq (.ops [zM 11 1,
 zQ 12 .lenS 11,
 zF 13 2 0,
 zL 14 13,
 zQ 15 .lenS 14,
 zR 16 (.bin .neq) 12 15])
 (.cond (.t 16)
 (.seq (.ops [zV 4 2])
 .ret)
 .skip))
 (.seq (.ops [zV 4 0])
 .ret))))⟩
abbrev f_gate_asked : Nat := 58
abbrev C_gate_asked : AFunc := C58
def L_delay_More_0 : AC := (.seq (.ops [zR 30 (.bin .lss) 29 28])
 (.seq (.cond (.t 30)
 .skip
 (.exit 0))
 (.seq (.block 1 (.seq (.ops [zM 31 29,
 zR 32 (.iaddrS 8) 27 29,
 zO 33 8 32,
 ⟨some 10, none, .a (.alloc [zz, zz, zz, zz, zz, zz, zz, zz]), []⟩,
 zM 9 31,
 zS 8 [.t 10, .t 33]])
 (.dops [zM 34 8,
 zM 35 9,
 zF 36 10 7,
 zL 37 36,
 zO 38 5 6,
 zO 39 8 10,
 zC2 40 79 38 39,
 zF 41 10 6,
 zL 42 41,
 zR 43 (.bin .add) 40 42,
 zP 44 (.bin .sub) [.t 43, zI 1],
 zR 45 (.bin .mul) 37 44,
 zR 46 (.iaddrS 1) 34 35,
 zS 1 [.t 46, .t 45]] [[], [], [], [0, 7], [], [], [], [], [0, 7], [], [], [], [], []])))
 (.ops [zP 47 (.bin .add) [.t 29, zI 1],
 zM 29 47]))))
def C59 : AFunc := ⟨49, [.tmp 4, .tmp 5],
 (.seq (.ops [zK 4 .nils,
 zV 5 0])
 (.seq (.ops [zM 12 0,
 zM 13 1,
 zC2 14 78 12 13,
 zM 11 14,
 zQ 15 (.ext 0) 11,
 zQ 16 (.ext 1) 11,
 ⟨some 6, none, .a (.alloc [zz, zz, .nils, .nils, zz]), []⟩,
 zS 5 [.t 6, .t 15],
 zM 7 16])
 (.seq (.seq (.ops [zM 17 7,
 zP 18 (.bin .neq) [.t 17, zI 0]])
 (.cond (.t 18)
 (.seq (.ops [zM 19 7,
 zK 4 .nils,
 zM 5 19])
 .ret)
 .skip))
 (.seq (.ops [zF 20 6 0,
 zF 21 20 2,
 zL 22 21,
 zQ 23 .lenS 22,
 ⟨some 24, none, .a (.mkslice [zz] 1 8), [.t 23, .t 23]⟩,
 zM 8 24])
 (.seq (.seq (.ops [zF 25 6 0,
 zF 26 25 2,
 zL 27 26,
 zQ 28 .lenS 27,
 zV 29 0])
 (.block 0 (.loop L_delay_More_0)))
 (.seq (.ops [zM 48 8,
 zM 4 48,
 zV 5 0])
 .ret))))))⟩
abbrev f_delay_More : Nat := 59
abbrev C_delay_More : AFunc := C59
def C60 : AFunc := ⟨11, [.tmp 2],
 (.seq (.ops [zK 2 (.bool false)])
 (.seq (.ops [zM 3 0,
 zQ 4 .lenS 3,
 zP 5 (.bin .leq) [.t 4, zI 4],
 zM 6 5,
 zMg 7 0 6 true,
 zCg 8 63 [.t 7, .c (.func (.func 80) [] [])] 6 true,
 zPg 9 .not [.t 8] 6 true,
 zP 10 .pick [.t 6, .t 9, .c (.bool false)],
 zM 2 10])
 .ret))⟩
abbrev f_demand_all : Nat := 60
abbrev C_demand_all : AFunc := C60
def C61 : AFunc := ⟨53, [.tmp 4, .tmp 5],
 (.seq (.ops [zV 4 0,
 zV 5 0])
 (.seq (.seq (.ops [zM 7 0,
 ⟨some 8, none, .a (.bslice [zz] 1 1 [0]), [.t 7]⟩,
 zC1 9 82 8,
 zQ 10 .not 9,
 zM 11 10,
 zMg 12 1 11 false,
 zCg 13 82 [.t 12] 11 false,
 zPg 14 .not [.t 13] 11 false,
 zP 15 .pick [.t 11, .c (.bool true), .t 14],
 zM 16 15,
 zMg 17 1 16 false,
 zCg 18 83 [.t 17, zI 0] 16 false,
 zP 19 .pick [.t 16, .c (.bool true), .t 18]])
 (.cond (.t 19)
 (.seq (.ops [zV 4 0,
 zV 5 2])
 .ret)
 .skip))
 (.seq (.ops [zP 20 (.build [zz, zz] [(0, 1)]) [zI 1],
 zB 21 20,
 zM 6 21])
 (.seq (.ops [zM 22 6,
 zQ 23 (.mkfunc (.func 85) 1) 22,
 zM 24 1,
 zC2 25 84 23 24])
 (.seq (.seq (.ops [zM 26 6,
 zN 27 26,
 zF 28 27 1,
 zL 29 28,
 zP 30 (.bin .eql) [.t 29, zI 0],
 zM 31 30,
 zMg 32 6 31 true,
 zNg 33 32 31 true,
 zFg 34 33 0 31 true,
 zLg 35 34 31 true,
 zMg 36 0 31 true,
 zPg 37 (.bin .gtr) [.t 35, .t 36] 31 true,
 zP 38 .pick [.t 31, .t 37, .c (.bool false)]])
 (.cond (.t 38)
 (.ops [zM 39 6,
 zN 40 39,
 zF 41 40 1,
 zS 1 [.t 41, zI 10]])
 .skip))
 (.seq (.dops [zM 42 6,
 zN 43 42,
 zF 44 43 0,
 zL 45 44,
 zM 46 6,
 zN 47 46,
 zF 48 47 1,
 zL 49 48,
 zC2 50 86 45 49,
 zQ 51 (.ext 0) 50,
 zQ 52 (.ext 1) 50,
 zM 4 51,
 zM 5 52] [[], [], [], [], [], [], [], [], [], [], [], [], []])
 .ret))))))⟩
abbrev f_ticks_Lcm : Nat := 61
abbrev C_ticks_Lcm : AFunc := C61
def C62 : AFunc := ⟨21, [.tmp 4],
 (.seq (.ops [zV 4 0])
 (.seq (.ops [zM 6 1,
 zC 7 87 [.t 6, .c (.func (.func 88) [] [])],
 zM 5 7])
 (.seq (.seq (.ops [zM 8 5,
 zM 9 8,
 zMg 10 0 9 false,
 zCg 11 60 [.t 10] 9 false,
 zPg 12 .not [.t 11] 9 false,
 zP 13 .pick [.t 9, .c (.bool true), .t 12],
 zM 14 13,
 zMg 15 1 14 false,
 zPg 16 .lenS [.t 15] 14 false,
 zMg 17 0 14 false,
 zPg 18 .lenS [.t 17] 14 false,
 zPg 19 (.bin .neq) [.t 16, .t 18] 14 false,
 zP 20 .pick [.t 14, .c (.bool true), .t 19]])
 (.cond (.t 20)
 (.seq (.ops [zV 4 2])
 .ret)
 .skip))
 (.seq (.ops [zV 4 0])
 .ret))))⟩
abbrev f_demand_Check : Nat := 62
abbrev C_demand_Check : AFunc := C62
def C63 : AFunc := ⟨9, [.tmp 4],
 (.seq (.ops [zK 4 (.bool false)])
 (.seq (.ops [zM 5 0,
 zM 6 1,
 zC2 7 89 5 6,
 zP 8 (.bin .geq) [.t 7, zI 0],
 zM 4 8])
 .ret))⟩
abbrev f_slices_ContainsFunc_api_Task_api_Task : Nat := 63
abbrev C_slices_ContainsFunc_api_Task_api_Task : AFunc := C63
def C64 : AFunc := ⟨9, [.tmp 3],
 (.seq (.ops [zB 2 0,
 zK 3 (.bool false)])
 (.seq (.ops [zL 4 1,
 zF 5 2 0,
 zL 6 5,
 zR 7 (.bin .rem) 4 6,
 zP 8 (.bin .neq) [.t 7, zI 0],
 zM 3 8])
 .ret))⟩
abbrev f_demand_Use_1 : Nat := 64
abbrev C_demand_Use_1 : AFunc := C64
def L_demand_sum_0 : AC := (.seq (.ops [zR 8 (.bin .lss) 7 6])
 (.seq (.cond (.t 8)
 .skip
 (.exit 0))
 (.seq (.block 1 (.seq (.ops [zR 9 (.iaddrS 1) 5 7,
 zL 10 9,
 zM 4 10])
 (.ops [zM 11 2,
 zM 12 4,
 zR 13 (.bin .add) 11 12,
 zM 2 13])))
 (.ops [zP 14 (.bin .add) [.t 7, zI 1],
 zM 7 14]))))
def C65 : AFunc := ⟨16, [.tmp 2],
 (.seq (.ops [zV 2 0])
 (.seq (.seq (.ops [zM 5 0,
 zQ 6 .lenS 5,
 zV 7 0])
 (.block 0 (.loop L_demand_sum_0)))
 (.seq (.ops [zM 15 2,
 zM 2 15])
 .ret)))⟩
abbrev f_demand_sum : Nat := 65
abbrev C_demand_sum : AFunc := C65
def L_demand_each_0 : AC := (.seq (.ops [zR 16 (.bin .lss) 15 14])
 (.seq (.cond (.t 16)
 .skip
 (.exit 0))
 (.seq (.block 1 (.seq (.ops [zM 17 15,
 zR 18 (.iaddrS 8) 13 15,
 zO 19 8 18,
 ⟨some 9, none, .a (.alloc [zz, zz, zz, zz, zz, zz, zz, zz]), []⟩,
 zM 8 17,
 zS 8 [.t 9, .t 19]])
 (.dops [zM 20 7,
 zM 21 8,
 zM 22 2,
 zO 23 8 9,
 ⟨some 24, none, .call, [.t 22, .t 23]⟩,
 zF 25 9 2,
 zL 26 25,
 zM 27 1,
 zM 28 8,
 zR 29 (.iaddrS 1) 27 28,
 zL 30 29,
 zR 31 (.bin .add) 26 30,
 zR 32 (.bin .mul) 24 31,
 zR 33 (.iaddrS 1) 20 21,
 zS 1 [.t 33, .t 32]] [[], [], [], [], [], [], [0, 5], [], [], [], [0, 5], [], [], [], []])))
 (.ops [zP 34 (.bin .add) [.t 15, zI 1],
 zM 15 34]))))
def C66 : AFunc := ⟨36, [.tmp 6],
 (.seq (.ops [zK 6 .nils])
 (.seq (.ops [zM 10 0,
 zQ 11 .lenS 10,
 ⟨some 12, none, .a (.mkslice [zz] 1 8), [.t 11, .t 11]⟩,
 zM 7 12])
 (.seq (.seq (.ops [zM 13 0,
 zQ 14 .lenS 13,
 zV 15 0])
 (.block 0 (.loop L_demand_each_0)))
 (.seq (.ops [zM 35 7,
 zM 6 35])
 .ret))))⟩
abbrev f_demand_each : Nat := 66
abbrev C_demand_each : AFunc := C66
def C67 : AFunc := ⟨8, [.tmp 3],
 (.seq (.ops [zB 2 0,
 zV 3 0])
 (.seq (.ops [zL 4 1,
 zF 5 2 0,
 zL 6 5,
 zR 7 (.bin .quo) 4 6,
 zM 3 7])
 .ret))⟩
abbrev f_demand_Use_2 : Nat := 67
abbrev C_demand_Use_2 : AFunc := C67
def L_local_look_slacks_1_0 : AC := (.seq (.seq (.ops [zM 5 4,
 zL 6 1,
 zR 7 (.bin .leq) 5 6])
 (.cond (.t 7)
 .skip
 (.exit 0)))
 (.seq (.block 1 (.seq (.ops [zO 10 6 2,
 zM 11 4,
 zC2 12 69 10 11,
 zP 13 (.bin .gtr) [.t 12, zI 0],
 zM 14 13,
 zMg 15 0 14 true,
 zMg 16 4 14 true,
 ⟨some 17, some (14, true), .r (.loadN 6), [.t 2]⟩,
 zMg 18 4 14 true,
 zCg 19 42 [.t 17, .t 18] 14 true,
 ⟨some 20, some (14, true), .call, [.t 15, .t 16, .t 19]⟩,
 zPg 21 .not [.t 20] 14 true,
 zP 22 .pick [.t 14, .t 21, .c (.bool false)]])
 (.cond (.t 22)
 .ret
 .skip)))
 (.ops [zM 8 4,
 zP 9 (.bin .add) [.t 8, zI 1],
 zM 4 9])))
def C68 : AFunc := ⟨23, [],
 (.seq (.ops [zV 4 1])
 (.block 0 (.loop L_local_look_slacks_1_0)))⟩
abbrev f_local_look_slacks_1 : Nat := 68
abbrev C_local_look_slacks_1 : AFunc := C68
def C69 : AFunc := ⟨18, [.tmp 4],
 (.seq (.ops [zB 2 0,
 zV 4 0])
 (.seq (.ops [zF 8 2 0,
 zF 9 8 2,
 zL 10 9,
 zF 11 2 5,
 zL 12 11,
 zM 13 1,
 zC3 14 90 10 12 13,
 zM 7 14,
 zQ 15 (.ext 0) 7,
 zQ 16 (.ext 1) 7,
 zM 5 15,
 zM 6 16])
 (.seq (.ops [zM 17 5,
 zM 4 17])
 .ret)))⟩
abbrev f_local_look_asks : Nat := 69
abbrev C_local_look_asks : AFunc := C69
def C70 : AFunc := ⟨29, [.tmp 6, .tmp 7],
 (.seq (.ops [zV 6 0,
 zV 7 0])
 (.seq (.ops [zM 11 0,
 zM 12 1,
 zC2 13 91 11 12,
 zM 10 13,
 zQ 14 (.ext 0) 10,
 zQ 15 (.ext 1) 10,
 ⟨some 8, none, .a (.alloc [zz, zz]), []⟩,
 zS 2 [.t 8, .t 14],
 zM 9 15])
 (.seq (.seq (.ops [zM 16 9,
 zQ 17 .not 16,
 zM 18 17,
 zMg 19 2 18 false,
 zPg 20 (.bin .lss) [.t 19, zI 0] 18 false,
 zP 21 .pick [.t 18, .c (.bool true), .t 20],
 zM 22 21,
 zMg 23 2 22 false,
 zPg 24 (.bin .gtr) [.t 23, zI 1048576] 22 false,
 zP 25 .pick [.t 22, .c (.bool true), .t 24]])
 (.cond (.t 25)
 (.seq (.ops [zV 6 0,
 zV 7 2])
 .ret)
 .skip))
 (.seq (.ops [zO 26 2 8,
 zM 27 2,
 zC2 28 92 26 27,
 zM 6 28,
 zV 7 0])
 .ret))))⟩
abbrev f_supply_Of : Nat := 70
abbrev C_supply_Of : AFunc := C70
def L_delay_Of_0 : AC := (.seq (.ops [zR 29 (.bin .lss) 28 27])
 (.seq (.cond (.t 29)
 .skip
 (.exit 1))
 (.seq (.block 2 (.seq (.ops [zR 30 (.iaddrS 8) 26 28,
 zO 31 8 30,
 ⟨some 10, none, .a (.alloc [zz, zz, zz, zz, zz, zz, zz, zz]), []⟩,
 zS 8 [.t 10, .t 31]])
 (.seq (.ops [zF 32 10 1,
 zL 33 32,
 zM 34 2,
 zR 35 (.bin .gtr) 33 34])
 (.cond (.t 35)
 (.ops [zM 36 6,
 zO 37 5 8,
 zO 38 8 10,
 zC2 39 93 37 38,
 zR 40 .mx 36 39,
 zM 6 40])
 .skip))))
 (.ops [zP 41 (.bin .add) [.t 28, zI 1],
 zM 28 41]))))
def C71 : AFunc := ⟨43, [.tmp 6, .tmp 7],
 (.seq (.ops [zV 6 0,
 zV 7 0])
 (.seq (.ops [zM 12 0,
 zM 13 1,
 zC2 14 78 12 13,
 zM 11 14,
 zQ 15 (.ext 0) 11,
 zQ 16 (.ext 1) 11,
 ⟨some 8, none, .a (.alloc [zz, zz, .nils, .nils, zz]), []⟩,
 zS 5 [.t 8, .t 15],
 zM 7 16])
 (.seq (.block 0 (.seq (.ops [zM 18 7,
 zP 19 (.bin .neq) [.t 18, zI 0],
 zM 17 19])
 (.cond (.t 17)
 (.seq (.ops [zM 20 7,
 zV 6 0,
 zM 7 20])
 .ret)
 (.seq (.ops [zM 22 2,
 zP 23 (.bin .lss) [.t 22, zI 0],
 zM 21 23])
 (.cond (.t 21)
 (.seq (.ops [zV 6 0,
 zV 7 2])
 .ret)
 .skip)))))
 (.seq (.seq (.ops [zF 24 8 0,
 zF 25 24 2,
 zL 26 25,
 zQ 27 .lenS 26,
 zV 28 0])
 (.block 1 (.loop L_delay_Of_0)))
 (.seq (.ops [zM 42 6,
 zM 6 42,
 zV 7 0])
 .ret)))))⟩
abbrev f_delay_Of : Nat := 71
abbrev C_delay_Of : AFunc := C71
def C72 : AFunc := ⟨20, [.tmp 4],
 (.seq (.ops [zK 4 (.bool false)])
 (.seq (.ops [zL 7 1,
 zL 8 2,
 zM 9 0,
 zR 10 (.iaddrS 3) 7 8,
 zF 11 10 1,
 zS 1 [.t 11, .t 9]])
 (.seq (.ops [zL 13 1,
 zL 14 2,
 zC2 15 15 13 14,
 zM 12 15,
 zQ 16 (.ext 0) 12,
 zQ 17 (.ext 1) 12,
 zM 5 16,
 zM 6 17])
 (.seq (.ops [zM 18 6,
 zP 19 (.bin .eql) [.t 18, zI 0],
 zM 4 19])
 .ret))))⟩
abbrev f_tune_need_1 : Nat := 72
abbrev C_tune_need_1 : AFunc := C72
def C73 : AFunc := ⟨40, [.cell 4 2 true],
 (.seq (.ops [zB 2 0,
 zB 3 1,
 ⟨some 4, none, .a (.alloc [zz, zz]), []⟩])
 (.seq (.dops [zF 10 2 0,
 zL 11 10,
 zF 12 3 1,
 zL 13 12,
 zR 14 (.bin .mul) 11 13,
 zF 15 3 0,
 zL 16 15,
 zF 17 2 1,
 zL 18 17,
 zR 19 (.bin .mul) 16 18,
 zR 20 (.bin .add) 14 19,
 zF 21 2 1,
 zL 22 21,
 zF 23 3 1,
 zL 24 23,
 zR 25 (.bin .mul) 22 24,
 zM 5 20,
 zM 6 25] [[], [], [], [], [], [], [], [], [], [], [], [], [], [], [], [], [], []])
 (.seq (.ops [zM 27 5,
 zM 28 6,
 zC2 29 94 27 28,
 zM 26 29,
 zQ 30 (.ext 0) 26,
 zQ 31 (.ext 1) 26,
 zM 7 30,
 zM 8 31])
 (.seq (.ops [zM 32 7,
 zM 9 32])
 (.seq (.dops [zM 33 5,
 zM 34 9,
 zR 35 (.bin .quo) 33 34,
 zM 36 6,
 zM 37 9,
 zR 38 (.bin .quo) 36 37,
 zR 39 (.build [zz, zz] [(0, 1), (1, 1)]) 35 38,
 zS 2 [.t 4, .t 39]] [[], [], [], [], [], [], [], []])
 .ret)))))⟩
abbrev f_share_fraction_int_plus : Nat := 73
abbrev C_share_fraction_int_plus : AFunc := C73
def L_slices_IndexFunc_api_Part_api_Part_0 : AC := (.seq (.ops [zR 9 (.bin .lss) 8 7])
 (.seq (.cond (.t 9)
 .skip
 (.exit 0))
 (.seq (.block 1 (.seq (.ops [zM 10 8,
 zM 5 10])
 (.seq (.ops [zM 11 1,
 zM 12 0,
 zM 13 5,
 zR 14 (.iaddrS 3) 12 13,
 zO 15 3 14,
 ⟨some 16, none, .call, [.t 11, .t 15]⟩])
 (.cond (.t 16)
 (.seq (.ops [zM 17 5,
 zM 4 17])
 .ret)
 .skip))))
 (.ops [zP 18 (.bin .add) [.t 8, zI 1],
 zM 8 18]))))
def C74 : AFunc := ⟨19, [.tmp 4],
 (.seq (.ops [zV 4 0])
 (.seq (.seq (.ops [zM 6 0,
 zQ 7 .lenS 6,
 zV 8 0])
 (.block 0 (.loop L_slices_IndexFunc_api_Part_api_Part_0)))
 (.seq (.ops [zV 4 (-1)])
 .ret)))⟩
abbrev f_slices_IndexFunc_api_Part_api_Part : Nat := 74
abbrev C_slices_IndexFunc_api_Part_api_Part : AFunc := C74
def C75 : AFunc := ⟨9, [.tmp 3],
 (.seq (.ops [zB 2 0,
 zK 3 (.bool false)])
 (.seq (.ops [zO 4 8 2,
 zF 5 1 1,
 zL 6 5,
 zC2 7 76 4 6,
 zQ 8 .not 7,
 zM 3 8])
 .ret))⟩
abbrev f_conf_partMay_1 : Nat := 75
abbrev C_conf_partMay_1 : AFunc := C75
def C76 : AFunc := ⟨86, [.tmp 4],
 (.seq (.ops [zB 2 0,
 zK 4 (.bool false)])
 (.seq (.ops [zF 6 2 0,
 zL 7 6,
 zC 8 57 [.t 7, zI 1, zI 64],
 zM 9 8,
 zFg 10 2 1 9 true,
 zLg 11 10 9 true,
 zFg 12 2 0 9 true,
 zLg 13 12 9 true,
 zCg 14 57 [.t 11, zI 1, .t 13] 9 true,
 zP 15 .pick [.t 9, .t 14, .c (.bool false)],
 zM 16 15,
 zFg 17 2 2 16 true,
 zLg 18 17 16 true,
 zFg 19 2 1 16 true,
 zLg 20 19 16 true,
 zCg 21 57 [.t 18, zI 1, .t 20] 16 true,
 zP 22 .pick [.t 16, .t 21, .c (.bool false)],
 zM 5 22])
 (.seq (.seq (.ops [zM 23 5,
 zQ 24 .not 23,
 zM 25 24,
 zFg 26 2 3 25 false,
 zLg 27 26 25 false,
 zCg 28 57 [.t 27, zI 0, zI 255] 25 false,
 zPg 29 .not [.t 28] 25 false,
 zP 30 .pick [.t 25, .c (.bool true), .t 29],
 zM 31 30,
 zFg 32 2 5 31 false,
 zLg 33 32 31 false,
 zCg 34 57 [.t 33, zI 0, zI 4] 31 false,
 zPg 35 .not [.t 34] 31 false,
 zP 36 .pick [.t 31, .c (.bool true), .t 35]])
 (.cond (.t 36)
 (.seq (.ops [zK 4 (.bool false)])
 .ret)
 .skip))
 (.seq (.seq (.ops [zF 37 2 3,
 zL 38 37,
 zP 39 (.bin .eql) [.t 38, zI 0],
 zM 40 39,
 zFg 41 2 4 40 true,
 zLg 42 41 40 true,
 zPg 43 (.bin .neq) [.t 42, zI 0] 40 true,
 zP 44 .pick [.t 40, .t 43, .c (.bool false)],
 zM 45 44,
 zFg 46 2 3 45 false,
 zLg 47 46 45 false,
 zPg 48 (.bin .neq) [.t 47, zI 0] 45 false,
 zMg 49 48 45 false,
 zFg 50 2 4 49 true,
 zLg 51 50 49 true,
 zFg 52 2 2 49 true,
 zLg 53 52 49 true,
 zCg 54 57 [.t 51, zI 1, .t 53] 49 true,
 zPg 55 .not [.t 54] 49 true,
 zPg 56 .pick [.t 49, .t 55, .c (.bool false)] 45 false,
 zP 57 .pick [.t 45, .c (.bool true), .t 56]])
 (.cond (.t 57)
 (.seq (.ops [zK 4 (.bool false)])
 .ret)
 .skip))
 (.seq (.seq (.ops [zF 58 2 5,
 zL 59 58,
 zP 60 (.bin .eql) [.t 59, zI 0]])
 (.cond (.t 60)
 (.seq (.ops [zF 61 2 6,
 zL 62 61,
 zP 63 (.bin .eql) [.t 62, zI 0],
 zM 64 63,
 zFg 65 2 7 64 true,
 zLg 66 65 64 true,
 zPg 67 (.bin .eql) [.t 66, zI 0] 64 true,
 zP 68 .pick [.t 64, .t 67, .c (.bool false)],
 zM 4 68])
 .ret)
 .skip))
 (.seq (.dops [zF 69 2 6,
 zL 70 69,
 zM 71 1,
 zF 72 2 2,
 zL 73 72,
 zR 74 .mn 71 73,
 zC 75 57 [.t 70, zI 1, .t 74],
 zM 76 75,
 zFg 77 2 7 76 true,
 zLg 78 77 76 true,
 zFg 79 2 2 76 true,
 zLg 80 79 76 true,
 zFg 81 2 6 76 true,
 zLg 82 81 76 true,
 zPg 83 (.bin .quo) [.t 80, .t 82] 76 true,
 zCg 84 57 [.t 78, zI 1, .t 83] 76 true,
 zP 85 .pick [.t 76, .t 84, .c (.bool false)],
 zM 4 85] [[], [], [], [], [], [], [], [], [], [], [], [], [], [], [], [], [], []])
 .ret))))))⟩
abbrev f_conf_taskMay : Nat := 76
abbrev C_conf_taskMay : AFunc := C76
def L_slices_IndexFunc_api_Port_api_Port_0 : AC := (.seq (.ops [zR 9 (.bin .lss) 8 7])
 (.seq (.cond (.t 9)
 .skip
 (.exit 0))
 (.seq (.block 1 (.seq (.ops [zM 10 8,
 zM 5 10])
 (.seq (.ops [zM 11 1,
 zM 12 0,
 zM 13 5,
 zR 14 (.iaddrS 6) 12 13,
 zO 15 6 14,
 ⟨some 16, none, .call, [.t 11, .t 15]⟩])
 (.cond (.t 16)
 (.seq (.ops [zM 17 5,
 zM 4 17])
 .ret)
 .skip))))
 (.ops [zP 18 (.bin .add) [.t 8, zI 1],
 zM 8 18]))))
def C77 : AFunc := ⟨19, [.tmp 4],
 (.seq (.ops [zV 4 0])
 (.seq (.seq (.ops [zM 6 0,
 zQ 7 .lenS 6,
 zV 8 0])
 (.block 0 (.loop L_slices_IndexFunc_api_Port_api_Port_0)))
 (.seq (.ops [zV 4 (-1)])
 .ret)))⟩
abbrev f_slices_IndexFunc_api_Port_api_Port : Nat := 77
abbrev C_slices_IndexFunc_api_Port_api_Port : AFunc := C77
def C78 : AFunc := ⟨29, [.cell 4 5 true, .tmp 5],
 (.seq (.ops [⟨some 4, none, .a (.alloc [zz, zz, .nils, .nils, zz]), []⟩,
 zV 5 0])
 (.seq (.seq (.ops [zM 7 0,
 zC1 8 95 7,
 zM 6 8])
 (.seq (.ops [zM 9 6,
 zP 10 (.bin .neq) [.t 9, zI 0]])
 (.cond (.t 10)
 (.seq (.ops [zP 11 (.build [zz, zz, .nils, .nils, zz] []) [],
 zM 12 6,
 zS 5 [.t 4, .t 11],
 zM 5 12])
 .ret)
 .skip)))
 (.seq (.seq (.ops [zM 13 1,
 zP 14 (.bin .lss) [.t 13, zI 0],
 zM 15 14,
 zMg 16 1 15 false,
 zMg 17 0 15 false,
 zPg 18 .lenS [.t 17] 15 false,
 zPg 19 (.bin .geq) [.t 16, .t 18] 15 false,
 zP 20 .pick [.t 15, .c (.bool true), .t 19]])
 (.cond (.t 20)
 (.seq (.ops [zP 21 (.build [zz, zz, .nils, .nils, zz] []) [],
 zS 5 [.t 4, .t 21],
 zV 5 9])
 .ret)
 .skip))
 (.seq (.ops [zM 22 0,
 zM 23 1,
 zR 24 (.iaddrS 3) 22 23,
 zO 25 3 24,
 zM 26 0,
 zM 27 1,
 zP 28 (.build [zz, zz, .nils, .nils, zz] [(0, 3), (3, 1), (4, 1)]) [.t 25, .t 26, .t 27],
 zS 5 [.t 4, .t 28],
 zV 5 0])
 .ret))))⟩
abbrev f_delay_of : Nat := 78
abbrev C_delay_of : AFunc := C78
def L_delay_seen_wait_0a : AC := (.ops [⟨some 5, none, .a (.alloc [zz, zz, .nils]), []⟩,
 zS 3 [.t 5, .t 13]])
def L_delay_seen_wait_0b : AC := (.block 1 (.ops [zL 14 4,
 zF 15 5 0,
 zL 16 15,
 zP 17 (.bin .mul) [zI 2, .t 16],
 zR 18 (.bin .add) 14 17,
 zS 1 [.t 4, .t 18]]))
def C79 : AFunc := ⟨20, [.cell 4 1 false],
 (.seq (.ops [zB 2 0,
 zB 3 1,
 ⟨some 4, none, .a (.alloc [zz]), []⟩])
 (.seq (.seq (.ops [zF 6 3 5,
 zL 7 6,
 zP 8 (.bin .eql) [.t 7, zI 0]])
 (.cond (.t 8)
 (.seq (.ops [zS 1 [.t 4, zI 0]])
 .ret)
 .skip))
 (.seq (.seq (.ops [zO 9 5 2,
 zF 10 3 5,
 zL 11 10,
 zC2 12 96 9 11])
 (.block 0 (.rangeFunc (.t 12) [13] L_delay_seen_wait_0a L_delay_seen_wait_0b)))
 (.seq (.ops [zL 19 4,
 zS 1 [.t 4, .t 19]])
 .ret))))⟩
abbrev f_delay_seen_wait : Nat := 79
abbrev C_delay_seen_wait : AFunc := C79
def C80 : AFunc := ⟨6, [.tmp 2],
 (.seq (.ops [zB 1 0,
 zK 2 (.bool false)])
 (.seq (.ops [zO 3 8 1,
 zC1 4 81 3,
 zQ 5 .not 4,
 zM 2 5])
 .ret))⟩
abbrev f_demand_all_1 : Nat := 80
abbrev C_demand_all_1 : AFunc := C80
def C81 : AFunc := ⟨25, [.tmp 2],
 (.seq (.ops [zB 1 0,
 zK 2 (.bool false)])
 (.seq (.ops [zF 3 1 2,
 zL 4 3,
 zP 5 (.bin .leq) [zI 1, .t 4],
 zM 6 5,
 zFg 7 1 2 6 true,
 zLg 8 7 6 true,
 zFg 9 1 1 6 true,
 zLg 10 9 6 true,
 zPg 11 (.bin .leq) [.t 8, .t 10] 6 true,
 zP 12 .pick [.t 6, .t 11, .c (.bool false)],
 zM 13 12,
 zFg 14 1 1 13 true,
 zLg 15 14 13 true,
 zFg 16 1 0 13 true,
 zLg 17 16 13 true,
 zPg 18 (.bin .leq) [.t 15, .t 17] 13 true,
 zP 19 .pick [.t 13, .t 18, .c (.bool false)],
 zM 20 19,
 zFg 21 1 0 20 true,
 zLg 22 21 20 true,
 zPg 23 (.bin .leq) [.t 22, zI 64] 20 true,
 zP 24 .pick [.t 20, .t 23, .c (.bool false)],
 zM 2 24])
 .ret))⟩
abbrev f_demand_may : Nat := 81
abbrev C_demand_may : AFunc := C81
def L_ticks_tick_0 : AC := (.seq (.ops [zR 8 (.bin .lss) 7 6])
 (.seq (.cond (.t 8)
 .skip
 (.exit 0))
 (.seq (.block 1 (.seq (.ops [zR 9 (.iaddrS 1) 5 7,
 zL 10 9,
 zM 4 10])
 (.seq (.ops [zM 11 4,
 zP 12 (.bin .lss) [.t 11, zI 0],
 zM 13 12,
 zMg 14 4 13 false,
 zPg 15 (.bin .gtr) [.t 14, zI 1099511627776] 13 false,
 zP 16 .pick [.t 13, .c (.bool true), .t 15]])
 (.cond (.t 16)
 (.seq (.ops [zK 2 (.bool false)])
 .ret)
 .skip))))
 (.ops [zP 17 (.bin .add) [.t 7, zI 1],
 zM 7 17]))))
def C82 : AFunc := ⟨18, [.tmp 2],
 (.seq (.ops [zK 2 (.bool false)])
 (.seq (.seq (.ops [zM 5 0,
 zQ 6 .lenS 5,
 zV 7 0])
 (.block 0 (.loop L_ticks_tick_0)))
 (.seq (.ops [zK 2 (.bool true)])
 .ret)))⟩
abbrev f_ticks_tick : Nat := 82
abbrev C_ticks_tick : AFunc := C82
def C83 : AFunc := ⟨9, [.tmp 4],
 (.seq (.ops [zK 4 (.bool false)])
 (.seq (.ops [zM 5 0,
 zM 6 1,
 zC2 7 97 5 6,
 zP 8 (.bin .geq) [.t 7, zI 0],
 zM 4 8])
 .ret))⟩
abbrev f_slices_Contains_int_int : Nat := 83
abbrev C_slices_Contains_int_int : AFunc := C83
def L_ticks_each_0 : AC := (.seq (.ops [zR 9 (.bin .lss) 8 7])
 (.seq (.cond (.t 9)
 .skip
 (.exit 0))
 (.seq (.block 1 (.seq (.ops [zR 10 (.iaddrS 1) 6 8,
 zL 11 10,
 zM 5 11])
 (.ops [zM 12 0,
 zM 13 5,
 ⟨some 14, none, .call, [.t 12, .t 13]⟩])))
 (.ops [zP 15 (.bin .add) [.t 8, zI 1],
 zM 8 15]))))
def C84 : AFunc := ⟨16, [],
 (.seq (.ops [zM 6 1,
 zQ 7 .lenS 6,
 zV 8 0])
 (.block 0 (.loop L_ticks_each_0)))⟩
abbrev f_ticks_each : Nat := 84
abbrev C_ticks_each : AFunc := C84
def C85 : AFunc := ⟨37, [],
 (.seq (.ops [zM 6 0,
 zN 7 6,
 zF 8 7 1,
 zL 9 8,
 zP 10 (.bin .eql) [.t 9, zI 0]])
 (.cond (.t 10)
 (.seq (.ops [zM 12 0,
 zN 13 12,
 zF 14 13 0,
 zL 15 14,
 zM 16 1,
 zC2 17 94 15 16,
 zM 11 17,
 zQ 18 (.ext 0) 11,
 zQ 19 (.ext 1) 11,
 zM 4 18,
 zM 5 19])
 (.dops [zM 21 0,
 zM 22 0,
 zM 23 0,
 zN 24 23,
 zF 25 24 0,
 zL 26 25,
 zM 27 1,
 zM 28 4,
 zR 29 (.bin .quo) 27 28,
 zC2 30 98 26 29,
 zM 20 30,
 zQ 31 (.ext 0) 20,
 zQ 32 (.ext 1) 20,
 zN 33 21,
 zF 34 33 0,
 zS 1 [.t 34, .t 31],
 zN 35 22,
 zF 36 35 1,
 zS 1 [.t 36, .t 32]] [[], [], [], [], [], [], [], [], [], [], [], [], [], [], [], [], [], [], []]))
 .skip))⟩
abbrev f_ticks_count_multiple : Nat := 85
abbrev C_ticks_count_multiple : AFunc := C85
def C86 : AFunc := ⟨16, [.tmp 4, .tmp 5],
 (.seq (.ops [zV 4 0,
 zV 5 0])
 (.seq (.seq (.ops [zM 6 1,
 zP 7 (.bin .eql) [.t 6, zI 0],
 zM 8 7,
 zMg 9 0 8 true,
 zPg 10 (.bin .gtr) [.t 9, zI 1099511627776] 8 true,
 zP 11 .pick [.t 8, .t 10, .c (.bool false)]])
 (.cond (.t 11)
 (.ops [zV 1 10])
 .skip))
 (.seq (.seq (.ops [zM 12 1,
 zP 13 (.bin .neq) [.t 12, zI 0]])
 (.cond (.t 13)
 (.seq (.ops [zM 14 1,
 zV 4 0,
 zM 5 14])
 .ret)
 .skip))
 (.seq (.ops [zM 15 0,
 zM 4 15,
 zV 5 0])
 .ret))))⟩
abbrev f_ticks_told : Nat := 86
abbrev C_ticks_told : AFunc := C86
def C87 : AFunc := ⟨9, [.tmp 4],
 (.seq (.ops [zK 4 (.bool false)])
 (.seq (.ops [zM 5 0,
 zM 6 1,
 zC2 7 99 5 6,
 zP 8 (.bin .geq) [.t 7, zI 0],
 zM 4 8])
 .ret))⟩
abbrev f_slices_ContainsFunc_int_int : Nat := 87
abbrev C_slices_ContainsFunc_int_int : AFunc := C87
def C88 : AFunc := ⟨9, [.tmp 2],
 (.seq (.ops [zK 2 (.bool false)])
 (.seq (.ops [zM 3 0,
 zP 4 (.bin .lss) [.t 3, zI 0],
 zM 5 4,
 zMg 6 0 5 false,
 zPg 7 (.bin .gtr) [.t 6, zI 32768] 5 false,
 zP 8 .pick [.t 5, .c (.bool true), .t 7],
 zM 2 8])
 .ret))⟩
abbrev f_demand_Check_1 : Nat := 88
abbrev C_demand_Check_1 : AFunc := C88
def L_slices_IndexFunc_api_Task_api_Task_0 : AC := (.seq (.ops [zR 9 (.bin .lss) 8 7])
 (.seq (.cond (.t 9)
 .skip
 (.exit 0))
 (.seq (.block 1 (.seq (.ops [zM 10 8,
 zM 5 10])
 (.seq (.ops [zM 11 1,
 zM 12 0,
 zM 13 5,
 zR 14 (.iaddrS 8) 12 13,
 zO 15 8 14,
 ⟨some 16, none, .call, [.t 11, .t 15]⟩])
 (.cond (.t 16)
 (.seq (.ops [zM 17 5,
 zM 4 17])
 .ret)
 .skip))))
 (.ops [zP 18 (.bin .add) [.t 8, zI 1],
 zM 8 18]))))
def C89 : AFunc := ⟨19, [.tmp 4],
 (.seq (.ops [zV 4 0])
 (.seq (.seq (.ops [zM 6 0,
 zQ 7 .lenS 6,
 zV 8 0])
 (.block 0 (.loop L_slices_IndexFunc_api_Task_api_Task_0)))
 (.seq (.ops [zV 4 (-1)])
 .ret)))⟩
abbrev f_slices_IndexFunc_api_Task_api_Task : Nat := 89
abbrev C_slices_IndexFunc_api_Task_api_Task : AFunc := C89
def C90 : AFunc := ⟨27, [.tmp 6, .tmp 7],
 (.seq (.ops [zB 5 2,
 zV 6 0,
 zV 7 0])
 (.seq (.seq (.ops [zM 9 0,
 zM 10 1,
 zC2 11 62 9 10,
 zM 8 11])
 (.seq (.ops [zM 12 8,
 zP 13 (.bin .neq) [.t 12, zI 0],
 zM 14 13,
 zLg 15 5 14 false,
 zPg 16 (.bin .lss) [.t 15, zI 0] 14 false,
 zP 17 .pick [.t 14, .c (.bool true), .t 16],
 zM 18 17,
 zLg 19 5 18 false,
 zPg 20 (.bin .gtr) [.t 19, zI 1048576] 18 false,
 zP 21 .pick [.t 18, .c (.bool true), .t 20]])
 (.cond (.t 21)
 (.seq (.ops [zV 6 0,
 zV 7 2])
 .ret)
 .skip)))
 (.seq (.ops [zM 22 0,
 zM 23 1,
 zQ 24 (.mkfunc (.func 100) 0) 5,
 zC3 25 66 22 23 24,
 zC1 26 65 25,
 zM 6 26,
 zV 7 0])
 .ret)))⟩
abbrev f_demand_Of : Nat := 90
abbrev C_demand_Of : AFunc := C90
def C91 : AFunc := ⟨27, [.cell 4 2 true, .tmp 5],
 (.seq (.ops [⟨some 4, none, .a (.alloc [zz, zz]), []⟩,
 zK 5 (.bool false)])
 (.seq (.ops [zM 7 0,
 zM 8 1,
 zR 9 (.build [zz, zz] [(0, 1), (1, 1)]) 7 8,
 zQ 10 (.build [zz, zz] [(0, 2)]) 9,
 ⟨some 6, none, .a (.alloc [zz, zz]), []⟩,
 zS 2 [.t 6, .t 10]])
 (.seq (.ops [zO 11 2 6,
 zM 12 0,
 zP 13 (.bin .leq) [zI 1, .t 12],
 zM 14 13,
 zMg 15 0 14 true,
 zPg 16 (.bin .leq) [.t 15, zI 64] 14 true,
 zP 17 .pick [.t 14, .t 16, .c (.bool false)],
 zM 18 17,
 zMg 19 1 18 true,
 zPg 20 (.bin .leq) [zI 1, .t 19] 18 true,
 zP 21 .pick [.t 18, .t 20, .c (.bool false)],
 zM 22 21,
 zMg 23 1 22 true,
 zMg 24 0 22 true,
 zPg 25 (.bin .leq) [.t 23, .t 24] 22 true,
 zP 26 .pick [.t 22, .t 25, .c (.bool false)],
 zS 2 [.t 4, .t 11],
 zM 5 26])
 .ret)))⟩
abbrev f_supply_of : Nat := 91
abbrev C_supply_of : AFunc := C91
def C92 : AFunc := ⟨40, [.tmp 4],
 (.seq (.ops [zB 2 0,
 zV 4 0])
 (.seq (.ops [zF 7 2 0,
 zO 8 2 7,
 zC1 9 101 8,
 zM 5 9])
 (.seq (.seq (.ops [zM 10 1,
 zM 11 5,
 zR 12 (.bin .lss) 10 11])
 (.cond (.t 12)
 (.seq (.ops [zV 4 0])
 .ret)
 .skip))
 (.seq (.ops [zM 13 1,
 zM 14 5,
 zR 15 (.bin .sub) 13 14,
 zF 16 2 0,
 zF 17 16 0,
 zL 18 17,
 zC2 19 102 15 18,
 zM 6 19])
 (.seq (.dops [zM 20 6,
 zF 21 2 0,
 zF 22 21 1,
 zL 23 22,
 zR 24 (.bin .mul) 20 23,
 zM 25 1,
 zM 26 5,
 zR 27 (.bin .sub) 25 26,
 zM 28 6,
 zF 29 2 0,
 zF 30 29 0,
 zL 31 30,
 zR 32 (.bin .mul) 28 31,
 zR 33 (.bin .sub) 27 32,
 zF 34 2 0,
 zO 35 2 34,
 zC1 36 101 35,
 zR 37 (.bin .sub) 33 36,
 zP 38 .mx [zI 0, .t 37],
 zR 39 (.bin .add) 24 38,
 zM 4 39] [[], [], [], [0, 17], [], [], [], [], [], [], [], [0, 17], [], [], [], [], [], [], [], [], []])
 .ret)))))⟩
abbrev f_supply_server_gives : Nat := 92
abbrev C_supply_server_gives : AFunc := C92
def C93 : AFunc := ⟨21, [.tmp 4],
 (.seq (.ops [zB 2 0,
 zB 3 1,
 zV 4 0])
 (.seq (.seq (.ops [zF 5 3 5,
 zL 6 5,
 zP 7 (.bin .eql) [.t 6, zI 0]])
 (.cond (.t 7)
 (.seq (.ops [zF 8 3 4,
 zL 9 8,
 zM 4 9])
 .ret)
 .skip))
 (.seq (.dops [zF 10 3 4,
 zL 11 10,
 zO 12 5 2,
 zO 13 8 3,
 zC2 14 79 12 13,
 zF 15 3 6,
 zL 16 15,
 zP 17 (.bin .mul) [zI 2, .t 16],
 zR 18 (.bin .add) 14 17,
 zP 19 (.bin .sub) [.t 18, zI 1],
 zR 20 .mx 11 19,
 zM 4 20] [[], [0, 5], [], [], [], [], [0, 5], [], [], [], [], []])
 .ret)))⟩
abbrev f_delay_seen_by : Nat := 93
abbrev C_delay_seen_by : AFunc := C93
def L_ticks_Gcd_0 : AC := (.seq (.seq (.ops [zM 11 1,
 zP 12 (.bin .neq) [.t 11, zI 0]])
 (.cond (.t 12)
 .skip
 (.exit 0)))
 (.block 1 (.dops [zM 13 1,
 zM 14 0,
 zM 15 1,
 zR 16 (.bin .rem) 14 15,
 zM 0 13,
 zM 1 16] [[], [], [], [], [], []])))
def C94 : AFunc := ⟨18, [.tmp 4, .tmp 5],
 (.seq (.ops [zV 4 0,
 zV 5 0])
 (.seq (.seq (.ops [zM 6 0,
 zM 7 1,
 ⟨some 8, none, .a (.bslice [zz] 2 1 [0, 1]), [.t 6, .t 7]⟩,
 zC1 9 82 8,
 zQ 10 .not 9])
 (.cond (.t 10)
 (.seq (.ops [zV 4 0,
 zV 5 2])
 .ret)
 .skip))
 (.seq (.block 0 (.loop L_ticks_Gcd_0))
 (.seq (.ops [zM 17 0,
 zM 4 17,
 zV 5 0])
 .ret))))⟩
abbrev f_ticks_Gcd : Nat := 94
abbrev C_ticks_Gcd : AFunc := C94
def L_delay_Check_0 : AC := (.seq (.ops [zR 12 (.bin .lss) 11 10])
 (.seq (.cond (.t 12)
 .skip
 (.exit 0))
 (.seq (.block 1 (.seq (.ops [zR 13 (.iaddrS 3) 9 11,
 zO 14 3 13,
 ⟨some 4, none, .a (.alloc [zz, zz, .nils]), []⟩,
 zS 3 [.t 4, .t 14]])
 (.seq (.seq (.ops [zF 15 4 0,
 zL 16 15,
 zP 17 (.bin .lss) [.t 16, zI 1],
 zM 18 17,
 zFg 19 4 0 18 false,
 zLg 20 19 18 false,
 zPg 21 (.bin .gtr) [.t 20, zI 64] 18 false,
 zP 22 .pick [.t 18, .c (.bool true), .t 21],
 zM 23 22,
 zFg 24 4 1 23 false,
 zLg 25 24 23 false,
 zPg 26 (.bin .lss) [.t 25, zI 1] 23 false,
 zP 27 .pick [.t 23, .c (.bool true), .t 26],
 zM 28 27,
 zFg 29 4 1 28 false,
 zLg 30 29 28 false,
 zFg 31 4 0 28 false,
 zLg 32 31 28 false,
 zPg 33 (.bin .gtr) [.t 30, .t 32] 28 false,
 zP 34 .pick [.t 28, .c (.bool true), .t 33]])
 (.cond (.t 34)
 (.seq (.ops [zV 2 2])
 .ret)
 .skip))
 (.seq (.seq (.dops [zF 35 4 2,
 zL 36 35,
 zF 37 4 2,
 zL 38 37,
 zQ 39 .lenS 38,
 ⟨some 40, none, .a (.mkslice [zz] 1 8), [.t 39, .t 39]⟩,
 zC2 41 62 36 40,
 zM 5 41] [[], [], [], [], [], [], [], []])
 (.seq (.ops [zM 42 5,
 zP 43 (.bin .neq) [.t 42, zI 0]])
 (.cond (.t 43)
 (.seq (.ops [zM 44 5,
 zM 2 44])
 .ret)
 .skip)))
 (.seq (.ops [zF 45 4 2,
 zL 46 45,
 zQ 47 (.mkfunc (.func 103) 0) 4,
 zC2 48 63 46 47])
 (.cond (.t 48)
 (.seq (.ops [zV 2 2])
 .ret)
 .skip))))))
 (.ops [zP 49 (.bin .add) [.t 11, zI 1],
 zM 11 49]))))
def C95 : AFunc := ⟨50, [.tmp 2],
 (.seq (.ops [zV 2 0])
 (.seq (.seq (.ops [zM 6 0,
 zQ 7 .lenS 6,
 zP 8 (.bin .gtr) [.t 7, zI 4]])
 (.cond (.t 8)
 (.seq (.ops [zV 2 2])
 .ret)
 .skip))
 (.seq (.seq (.ops [zM 9 0,
 zQ 10 .lenS 9,
 zV 11 0])
 (.block 0 (.loop L_delay_Check_0)))
 (.seq (.ops [zV 2 0])
 .ret))))⟩
abbrev f_delay_Check : Nat := 95
abbrev C_delay_Check : AFunc := C95
def C96 : AFunc := ⟨6, [.tmp 4],
 (.seq (.ops [zB 2 0,
 zB 3 1,
 zK 4 .nilf])
 (.seq (.ops [zR 5 (.mkfunc (.func 105) 0) 2 3,
 zM 4 5])
 .ret))⟩
abbrev f_delay_seen_sharers : Nat := 96
abbrev C_delay_seen_sharers : AFunc := C96
def L_slices_Index_int_int_0 : AC := (.seq (.ops [zR 9 (.bin .lss) 8 7])
 (.seq (.cond (.t 9)
 .skip
 (.exit 0))
 (.seq (.block 1 (.seq (.ops [zM 10 8,
 zM 5 10])
 (.seq (.ops [zM 11 1,
 zM 12 0,
 zM 13 5,
 zR 14 (.iaddrS 1) 12 13,
 zL 15 14,
 zR 16 (.bin .eql) 11 15])
 (.cond (.t 16)
 (.seq (.ops [zM 17 5,
 zM 4 17])
 .ret)
 .skip))))
 (.ops [zP 18 (.bin .add) [.t 8, zI 1],
 zM 8 18]))))
def C97 : AFunc := ⟨19, [.tmp 4],
 (.seq (.ops [zV 4 0])
 (.seq (.seq (.ops [zM 6 0,
 zQ 7 .lenS 6,
 zV 8 0])
 (.block 0 (.loop L_slices_Index_int_int_0)))
 (.seq (.ops [zV 4 (-1)])
 .ret)))⟩
abbrev f_slices_Index_int_int : Nat := 97
abbrev C_slices_Index_int_int : AFunc := C97
def C98 : AFunc := ⟨29, [.tmp 4, .tmp 5],
 (.seq (.ops [zV 4 0,
 zV 5 0])
 (.seq (.seq (.ops [zM 8 0,
 zM 9 1,
 ⟨some 10, none, .a (.bslice [zz] 2 1 [0, 1]), [.t 8, .t 9]⟩,
 zC1 11 82 10,
 zQ 12 .not 11])
 (.cond (.t 12)
 (.seq (.ops [zV 4 0,
 zV 5 2])
 .ret)
 .skip))
 (.seq (.ops [zM 14 0,
 zQ 15 (.conv .u64) 14,
 zM 16 1,
 zQ 17 (.conv .u64) 16,
 zC2 18 107 15 17,
 zM 13 18,
 zQ 19 (.ext 0) 13,
 zQ 20 (.ext 1) 13,
 zM 6 19,
 zM 7 20])
 (.seq (.seq (.ops [zM 21 6,
 zP 22 (.bin .gtr) [.t 21, .c (.int .u64 0)],
 zM 23 22,
 zMg 24 7 23 false,
 zPg 25 (.bin .gtr) [.t 24, .c (.int .u64 1099511627776)] 23 false,
 zP 26 .pick [.t 23, .c (.bool true), .t 25]])
 (.cond (.t 26)
 (.seq (.ops [zV 4 0,
 zV 5 10])
 .ret)
 .skip))
 (.seq (.ops [zM 27 7,
 zQ 28 (.conv .i64) 27,
 zM 4 28,
 zV 5 0])
 .ret)))))⟩
abbrev f_ticks_Mul : Nat := 98
abbrev C_ticks_Mul : AFunc := C98
def L_slices_IndexFunc_int_int_0 : AC := (.seq (.ops [zR 9 (.bin .lss) 8 7])
 (.seq (.cond (.t 9)
 .skip
 (.exit 0))
 (.seq (.block 1 (.seq (.ops [zM 10 8,
 zM 5 10])
 (.seq (.ops [zM 11 1,
 zM 12 0,
 zM 13 5,
 zR 14 (.iaddrS 1) 12 13,
 zL 15 14,
 ⟨some 16, none, .call, [.t 11, .t 15]⟩])
 (.cond (.t 16)
 (.seq (.ops [zM 17 5,
 zM 4 17])
 .ret)
 .skip))))
 (.ops [zP 18 (.bin .add) [.t 8, zI 1],
 zM 8 18]))))
def C99 : AFunc := ⟨19, [.tmp 4],
 (.seq (.ops [zV 4 0])
 (.seq (.seq (.ops [zM 6 0,
 zQ 7 .lenS 6,
 zV 8 0])
 (.block 0 (.loop L_slices_IndexFunc_int_int_0)))
 (.seq (.ops [zV 4 (-1)])
 .ret)))⟩
abbrev f_slices_IndexFunc_int_int : Nat := 99
abbrev C_slices_IndexFunc_int_int : AFunc := C99
def C100 : AFunc := ⟨16, [.tmp 3],
 (.seq (.ops [zB 2 0,
 zV 3 0])
 (.seq (.seq (.ops [zL 4 1,
 zF 5 2 1,
 zL 6 5,
 zR 7 (.bin .lss) 4 6])
 (.cond (.t 7)
 (.seq (.ops [zV 3 0])
 .ret)
 .skip))
 (.seq (.ops [zL 8 1,
 zF 9 2 1,
 zL 10 9,
 zR 11 (.bin .sub) 8 10,
 zF 12 2 0,
 zL 13 12,
 zR 14 (.bin .quo) 11 13,
 zP 15 (.bin .add) [zI 1, .t 14],
 zM 3 15])
 .ret)))⟩
abbrev f_demand_Of_1 : Nat := 100
abbrev C_demand_Of_1 : AFunc := C100
def C101 : AFunc := ⟨8, [.tmp 2],
 (.seq (.ops [zB 1 0,
 zV 2 0])
 (.seq (.ops [zF 3 1 0,
 zL 4 3,
 zF 5 1 1,
 zL 6 5,
 zR 7 (.bin .sub) 4 6,
 zM 2 7])
 .ret))⟩
abbrev f_supply_pair_idle : Nat := 101
abbrev C_supply_pair_idle : AFunc := C101
def C102 : AFunc := ⟨14, [.tmp 4],
 (.seq (.ops [zV 4 0])
 (.seq (.ops [zM 8 0,
 zM 9 1,
 zC2 10 108 8 9,
 zM 7 10,
 zQ 11 (.ext 0) 7,
 zQ 12 (.ext 1) 7,
 zM 5 11,
 zM 6 12])
 (.seq (.ops [zM 13 5,
 zM 4 13])
 .ret)))⟩
abbrev f_supply_over : Nat := 102
abbrev C_supply_over : AFunc := C102
def C103 : AFunc := ⟨9, [.tmp 3],
 (.seq (.ops [zB 2 0,
 zK 3 (.bool false)])
 (.seq (.ops [zO 4 8 2,
 zF 5 1 1,
 zL 6 5,
 zC2 7 104 4 6,
 zQ 8 .not 7,
 zM 3 8])
 .ret))⟩
abbrev f_delay_Check_1 : Nat := 103
abbrev C_delay_Check_1 : AFunc := C103
def C104 : AFunc := ⟨56, [.tmp 4],
 (.seq (.ops [zB 2 0,
 zK 4 (.bool false)])
 (.seq (.block 0 (.seq (.seq (.ops [zF 6 2 4,
 zL 7 6,
 zP 8 (.bin .lss) [.t 7, zI 0],
 zM 5 8])
 (.cond (.t 5)
 .skip
 (.seq (.ops [zF 9 2 4,
 zL 10 9,
 zF 11 2 2,
 zL 12 11,
 zR 13 (.bin .gtr) 10 12,
 zM 5 13])
 (.cond (.t 5)
 .skip
 (.seq (.ops [zF 14 2 5,
 zL 15 14,
 zP 16 (.bin .lss) [.t 15, zI 0],
 zM 5 16])
 (.cond (.t 5)
 .skip
 (.ops [zF 17 2 5,
 zL 18 17,
 zP 19 (.bin .gtr) [.t 18, zI 4],
 zM 5 19])))))))
 (.cond (.t 5)
 (.seq (.ops [zK 4 (.bool false)])
 .ret)
 (.seq (.ops [zF 21 2 5,
 zL 22 21,
 zP 23 (.bin .eql) [.t 22, zI 0],
 zM 20 23])
 (.cond (.t 20)
 (.seq (.ops [zF 24 2 6,
 zL 25 24,
 zP 26 (.bin .eql) [.t 25, zI 0],
 zM 27 26,
 zFg 28 2 7 27 true,
 zLg 29 28 27 true,
 zPg 30 (.bin .eql) [.t 29, zI 0] 27 true,
 zP 31 .pick [.t 27, .t 30, .c (.bool false)],
 zM 4 31])
 .ret)
 .skip)))))
 (.seq (.dops [zF 32 2 6,
 zL 33 32,
 zP 34 (.bin .leq) [zI 1, .t 33],
 zM 35 34,
 zFg 36 2 6 35 true,
 zLg 37 36 35 true,
 zMg 38 1 35 true,
 zPg 39 (.bin .leq) [.t 37, .t 38] 35 true,
 zP 40 .pick [.t 35, .t 39, .c (.bool false)],
 zM 41 40,
 zFg 42 2 7 41 true,
 zLg 43 42 41 true,
 zPg 44 (.bin .leq) [zI 1, .t 43] 41 true,
 zP 45 .pick [.t 41, .t 44, .c (.bool false)],
 zM 46 45,
 zFg 47 2 7 46 true,
 zLg 48 47 46 true,
 zFg 49 2 2 46 true,
 zLg 50 49 46 true,
 zFg 51 2 6 46 true,
 zLg 52 51 46 true,
 zPg 53 (.bin .quo) [.t 50, .t 52] 46 true,
 zPg 54 (.bin .leq) [.t 48, .t 53] 46 true,
 zP 55 .pick [.t 46, .t 54, .c (.bool false)],
 zM 4 55] [[], [], [], [], [], [], [], [], [], [], [], [], [], [], [], [], [], [], [], [], [], [], [], [], []])
 .ret)))⟩
abbrev f_delay_may : Nat := 104
abbrev C_delay_may : AFunc := C104
def L_delay_seen_sharers_1_0 : AC := (.seq (.ops [zR 11 (.bin .lss) 10 9])
 (.seq (.cond (.t 11)
 .skip
 (.exit 0))
 (.seq (.block 1 (.seq (.ops [zM 12 10,
 zR 13 (.iaddrS 3) 8 10,
 zO 14 3 13,
 ⟨some 5, none, .a (.alloc [zz, zz, .nils]), []⟩,
 zM 4 12,
 zS 3 [.t 5, .t 14]])
 (.seq (.ops [zF 15 5 2,
 zL 16 15,
 zQ 17 (.mkfunc (.func 106) 0) 2,
 zC2 18 63 16 17,
 zM 6 18])
 (.seq (.ops [zM 19 4,
 zF 20 1 4,
 zL 21 20,
 zR 22 (.bin .neq) 19 21,
 zM 23 22,
 zMg 24 6 23 true,
 zP 25 .pick [.t 23, .t 24, .c (.bool false)],
 zM 26 25,
 zMg 27 0 26 true,
 ⟨some 28, some (26, true), .r (.loadN 3), [.t 5]⟩,
 ⟨some 29, some (26, true), .call, [.t 27, .t 28]⟩,
 zPg 30 .not [.t 29] 26 true,
 zP 31 .pick [.t 26, .t 30, .c (.bool false)]])
 (.cond (.t 31)
 .ret
 .skip)))))
 (.ops [zP 32 (.bin .add) [.t 10, zI 1],
 zM 10 32]))))
def C105 : AFunc := ⟨33, [],
 (.seq (.ops [zF 7 1 3,
 zL 8 7,
 zQ 9 .lenS 8,
 zV 10 0])
 (.block 0 (.loop L_delay_seen_sharers_1_0)))⟩
abbrev f_delay_seen_sharers_1 : Nat := 105
abbrev C_delay_seen_sharers_1 : AFunc := C105
def C106 : AFunc := ⟨8, [.tmp 3],
 (.seq (.ops [zB 2 0,
 zK 3 (.bool false)])
 (.seq (.ops [zF 4 2 5,
 zL 5 4,
 zL 6 1,
 zR 7 (.bin .eql) 5 6,
 zM 3 7])
 .ret))⟩
abbrev f_delay_seen_sharers_1_1 : Nat := 106
abbrev C_delay_seen_sharers_1_1 : AFunc := C106
def C107 : AFunc := ⟨51, [.tmp 4, .tmp 5],
 (.seq (.ops [zP 4 .mov [.c (.int .u64 0)],
 zP 5 .mov [.c (.int .u64 0)]])
 (.seq (.ops [zM 14 0,
 zP 15 (.bin .and) [.t 14, .c (.int .u64 4294967295)],
 zM 6 15])
 (.seq (.ops [zM 16 0,
 zP 17 (.bin .shr) [.t 16, .c (.int .u64 32)],
 zM 7 17])
 (.seq (.ops [zM 18 1,
 zP 19 (.bin .and) [.t 18, .c (.int .u64 4294967295)],
 zM 8 19])
 (.seq (.ops [zM 20 1,
 zP 21 (.bin .shr) [.t 20, .c (.int .u64 32)],
 zM 9 21])
 (.seq (.ops [zM 22 6,
 zM 23 8,
 zR 24 (.bin .mul) 22 23,
 zM 10 24])
 (.seq (.ops [zM 25 7,
 zM 26 8,
 zR 27 (.bin .mul) 25 26,
 zM 28 10,
 zP 29 (.bin .shr) [.t 28, .c (.int .u64 32)],
 zR 30 (.bin .add) 27 29,
 zM 11 30])
 (.seq (.ops [zM 31 11,
 zP 32 (.bin .and) [.t 31, .c (.int .u64 4294967295)],
 zM 12 32])
 (.seq (.ops [zM 33 11,
 zP 34 (.bin .shr) [.t 33, .c (.int .u64 32)],
 zM 13 34])
 (.seq (.ops [zM 35 12,
 zM 36 6,
 zM 37 9,
 zR 38 (.bin .mul) 36 37,
 zR 39 (.bin .add) 35 38,
 zM 12 39])
 (.seq (.ops [zM 40 7,
 zM 41 9,
 zR 42 (.bin .mul) 40 41,
 zM 43 13,
 zR 44 (.bin .add) 42 43,
 zM 45 12,
 zP 46 (.bin .shr) [.t 45, .c (.int .u64 32)],
 zR 47 (.bin .add) 44 46,
 zM 4 47])
 (.seq (.ops [zM 48 0,
 zM 49 1,
 zR 50 (.bin .mul) 48 49,
 zM 5 50])
 .ret))))))))))))⟩
abbrev f_math_bits_Mul64 : Nat := 107
abbrev C_math_bits_Mul64 : AFunc := C107
def C108 : AFunc := ⟨18, [.tmp 4, .tmp 5],
 (.seq (.ops [zV 4 0,
 zV 5 0])
 (.seq (.seq (.ops [zM 6 0,
 zM 7 1,
 ⟨some 8, none, .a (.bslice [zz] 2 1 [0, 1]), [.t 6, .t 7]⟩,
 zC1 9 82 8,
 zQ 10 .not 9,
 zM 11 10,
 zMg 12 1 11 false,
 zPg 13 (.bin .eql) [.t 12, zI 0] 11 false,
 zP 14 .pick [.t 11, .c (.bool true), .t 13]])
 (.cond (.t 14)
 (.seq (.ops [zV 4 0,
 zV 5 2])
 .ret)
 .skip))
 (.seq (.ops [zM 15 0,
 zM 16 1,
 zR 17 (.bin .quo) 15 16,
 zM 4 17,
 zV 5 0])
 .ret)))⟩
abbrev f_ticks_Div : Nat := 108
abbrev C_ticks_Div : AFunc := C108
def T : Tr AFunc := (.node (.node (.node (.node (.node (.node (.node .nil (some C63) .nil) (some C31) (.node .nil (some C95) .nil)) (some C15) (.node (.node .nil (some C79) .nil) (some C47) .nil)) none (.node (.node (.node .nil (some C71) .nil) (some C39) (.node .nil (some C103) .nil)) (some C23) (.node (.node .nil (some C87) .nil) (some C55) .nil))) (some C3) (.node (.node (.node (.node .nil (some C67) .nil) (some C35) (.node .nil (some C99) .nil)) (some C19) (.node (.node .nil (some C83) .nil) (some C51) .nil)) (some C11) (.node (.node (.node .nil (some C75) .nil) none (.node .nil (some C107) .nil)) (some C27) (.node (.node .nil (some C91) .nil) (some C59) .nil)))) none (.node (.node (.node (.node (.node .nil (some C65) .nil) (some C33) (.node .nil (some C97) .nil)) (some C17) (.node (.node .nil (some C81) .nil) (some C49) .nil)) (some C9) (.node (.node (.node .nil (some C73) .nil) (some C41) (.node .nil (some C105) .nil)) none (.node (.node .nil (some C89) .nil) (some C57) .nil))) (some C5) (.node (.node (.node (.node .nil (some C69) .nil) (some C37) (.node .nil (some C101) .nil)) (some C21) (.node (.node .nil (some C85) .nil) (some C53) .nil)) (some C13) (.node (.node (.node .nil (some C77) .nil) (some C45) .nil) (some C29) (.node (.node .nil (some C93) .nil) (some C61) .nil))))) none (.node (.node (.node (.node (.node (.node .nil (some C64) .nil) (some C32) (.node .nil (some C96) .nil)) (some C16) (.node (.node .nil (some C80) .nil) (some C48) .nil)) (some C8) (.node (.node (.node .nil (some C72) .nil) (some C40) (.node .nil (some C104) .nil)) none (.node (.node .nil (some C88) .nil) (some C56) .nil))) (some C4) (.node (.node (.node (.node .nil (some C68) .nil) (some C36) (.node .nil (some C100) .nil)) (some C20) (.node (.node .nil (some C84) .nil) (some C52) .nil)) (some C12) (.node (.node (.node .nil (some C76) .nil) (some C44) (.node .nil (some C108) .nil)) (some C28) (.node (.node .nil (some C92) .nil) (some C60) .nil)))) none (.node (.node (.node (.node (.node .nil (some C66) .nil) (some C34) (.node .nil (some C98) .nil)) (some C18) (.node (.node .nil (some C82) .nil) (some C50) .nil)) (some C10) (.node (.node (.node .nil (some C74) .nil) (some C42) (.node .nil (some C106) .nil)) (some C26) (.node (.node .nil (some C90) .nil) (some C58) .nil))) (some C6) (.node (.node (.node (.node .nil (some C70) .nil) (some C38) (.node .nil (some C102) .nil)) none (.node (.node .nil (some C86) .nil) (some C54) .nil)) (some C14) (.node (.node (.node .nil (some C78) .nil) (some C46) .nil) (some C30) (.node (.node .nil (some C94) .nil) (some C62) .nil))))))
def fs (f : Nat) : Option AFunc := Tr.get T f
def ms (t : Nat) (n : String) : Option Nat := none
end Ir
end Go.Proofs.Ytlndlbngfgaoeaa
