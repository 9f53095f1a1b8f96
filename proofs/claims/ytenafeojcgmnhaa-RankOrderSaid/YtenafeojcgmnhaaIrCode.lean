/-
  What the program's functions are in Ads, printed by a program.
-/
import Derived.Test.YtenafeojcgmnhaaAdsDef
set_option linter.unusedVariables false
set_option maxRecDepth 100000
namespace Go.Proofs.Ytenafeojcgmnhaa
open Go Ads
namespace Ir
abbrev zM(d s:Nat):bq:=⟨some d,none,.p .Fy,[.t s]⟩
abbrev zF(d s o:Nat):bq:=⟨some d,none,.p (.va o),[.t s]⟩
abbrev zN(d s:Nat):bq:=⟨some d,none,.p .oJ,[.t s]⟩
abbrev zL(d s:Nat):bq:=⟨some d,none,.r .bW,[.t s]⟩
abbrev bp(d s g:Nat)(b:Bool):bq:=⟨some d,some (g,b),.p .Fy,[.t s]⟩
abbrev rq(d s o g:Nat)(b:Bool):bq:=⟨some d,some (g,b),.p (.va o),[.t s]⟩
abbrev Aa(d s g:Nat)(b:Bool):bq:=⟨some d,some (g,b),.p .oJ,[.t s]⟩
abbrev kZ(d s g:Nat)(b:Bool):bq:=⟨some d,some (g,b),.r .bW,[.t s]⟩
abbrev zP(d:Nat)(o:pz)(l:List bG):bq:=⟨some d,none,.p o,l⟩
abbrev bK(d:Nat)(o:pz)(l:List bG)(g:Nat)(b:Bool):bq:=⟨some d,some (g,b),.p o,l⟩
abbrev zS(n:Nat)(l:List bG):bq:=⟨none,none,.e (.store n),l⟩
abbrev zz:AV:=.int .i64 0
abbrev zI(n:Int):bG:=.c (.int .i64 n)
abbrev zC(d f:Nat)(l:List bG):bq:=⟨some d,none,.call,.c (.func (.func f) [] [])::l⟩
abbrev kO(d f:Nat)(l:List bG)(g:Nat)(b:Bool):bq:=⟨some d,some (g,b),.call,.c (.func (.func f) [] [])::l⟩
abbrev IV(d f:Nat):bq:=⟨some d,none,.call,[.c (.func (.func f) [] [])]⟩
abbrev jP(d f v:Nat):bq:=⟨some d,none,.call,[.c (.func (.func f) [] []),.t v]⟩
abbrev kY(d f v w:Nat):bq:=⟨some d,none,.call,[.c (.func (.func f) [] []),.t v,.t w]⟩
abbrev zW(d f v w x:Nat):bq:=⟨some d,none,.call,[.c (.func (.func f) [] []),.t v,.t w,.t x]⟩
abbrev KL(d f v w x y:Nat):bq:=⟨some d,none,.call,[.c (.func (.func f) [] []),.t v,.t w,.t x,.t y]⟩
abbrev KM(d f v w x y z:Nat):bq:=⟨some d,none,.call,[.c (.func (.func f) [] []),.t v,.t w,.t x,.t y,.t z]⟩
abbrev zQ(d:Nat)(o:pz)(a:Nat):bq:=⟨some d,none,.p o,[.t a]⟩
abbrev zR(d:Nat)(o:pz)(a b:Nat):bq:=⟨some d,none,.p o,[.t a,.t b]⟩
abbrev zO(d n s:Nat):bq:=⟨some d,none,.r (.aO n),[.t s]⟩
abbrev zV(d:Nat)(n:Int):bq:=⟨some d,none,.p .Fy,[.c (.int .i64 n)]⟩
abbrev zK(d:Nat)(v:AV):bq:=⟨some d,none,.p .Fy,[.c v]⟩
abbrev zB(d s:Nat):bq:=⟨some d,none,.a .box,[.t s]⟩
abbrev zA(d n b x y:Nat):bq:=⟨some d,none,.e (.append n b),[.t x,.t y]⟩
def fJ:AC:=(.seq (.seq (.ops [zM 24 7,
 zM 25 0,
 zQ 26 .dc 25,
 zR 27 (.bin .lss) 24 26,
 zM 28 27,
 bp 29 7 28 true,
 bK 30 (.bin .lss) [.t 29,zI 200] 28 true,
 zP 31 .pick [.t 28,.t 30,.c (.bool false)]])
 (.cond (.t 31)
 .skip
 (.exit 0)))
 (.seq (.block 1 (.seq (.ops [zM 34 0,
 zM 35 7,
 zR 36 (.ak 3) 34 35,
 zF 37 36 1,
 zL 38 37,
 zC 39 13 [.t 38,zI 64],
 zM 8 39])
 (.seq (.ops [zM 40 0,
 zM 41 7,
 zR 42 (.ak 3) 40 41,
 zF 43 42 0,
 zL 44 43,
 ⟨some 45,none,.call,[.c (.func (.func 13) [] []),.t 44,zI 3]⟩])
 (.block 2 (.seq (.ops [zP 61 (.bin .eql) [.t 45,zI 0],
 zM 60 61])
 (.cond (.t 60)
 (.seq (.ops [zM 62 3,
 zM 63 8,
 zM 64 0,
 zM 65 7,
 zR 66 (.ak 3) 64 65,
 zF 67 66 2,
 zL 68 67,
 zW 69 14 62 63 68,
 zM 9 69])
 (.seq (.seq (.ops [zM 70 9,
 zP 71 (.bin .eql) [.t 70,zI 0],
 zM 72 8,
 zR 73 (.bV 1 64) 4 72,
 zL 74 73,
 zR 75 (.eq .bool) 71 74])
 (.cond (.t 75)
 (.seq (.ops [zK 2 (.bool false)])
 .ret)
 .skip))
 (.seq (.ops [zM 76 8,
 zR 77 (.bV 1 64) 4 76,
 zL 78 77,
 zQ 79 .not 78])
 (.cond (.t 79)
 (.seq (.ops [zM 80 8,
 zR 81 (.bV 1 64) 4 80,
 zS 1 [.t 81,.c (.bool true)]])
 (.seq (.ops [zM 82 8,
 zM 83 0,
 zM 84 7,
 zR 85 (.ak 3) 83 84,
 zF 86 85 2,
 zL 87 86,
 zR 88 (.bV 1 64) 5 82,
 zS 1 [.t 88,.t 87]])
 (.ops [zM 89 6,
 zP 90 (.bin .add) [.t 89,zI 1],
 zM 6 90])))
 .skip))))
 (.seq (.ops [zP 92 (.bin .eql) [.t 45,zI 1],
 zM 91 92])
 (.cond (.t 91)
 (.seq (.ops [zM 93 3,
 zM 94 8,
 zM 95 0,
 zM 96 7,
 zR 97 (.ak 3) 95 96,
 zF 98 97 2,
 zL 99 98,
 zW 100 15 93 94 99,
 zM 10 100])
 (.seq (.bN [zM 101 8,
 zR 102 (.bV 1 64) 4 101,
 zL 103 102,
 zM 104 103,
 bp 105 0 104 true,
 bp 106 7 104 true,
 bK 107 (.ak 3) [.t 105,.t 106] 104 true,
 rq 108 107 2 104 true,
 kZ 109 108 104 true,
 bp 110 8 104 true,
 bK 111 (.bV 1 64) [.t 5,.t 110] 104 true,
 kZ 112 111 104 true,
 bK 113 (.bin .leq) [.t 109,.t 112] 104 true,
 zP 114 .pick [.t 104,.t 113,.c (.bool false)],
 zM 11 114] [[],[],[],[],[],[],[],[],[],[],[],[],[],[],[]])
 (.seq (.seq (.ops [zM 115 10,
 zP 116 (.bin .eql) [.t 115,zI 0],
 zM 117 11,
 zR 118 (.neq .bool) 116 117])
 (.cond (.t 118)
 (.seq (.ops [zK 2 (.bool false)])
 .ret)
 .skip))
 (.seq (.ops [zM 119 11])
 (.cond (.t 119)
 (.ops [zM 120 8,
 zM 121 0,
 zM 122 7,
 zR 123 (.ak 3) 121 122,
 zF 124 123 2,
 zL 125 124,
 zR 126 (.bV 1 64) 5 120,
 zS 1 [.t 126,.t 125]])
 .skip)))))
 (.seq (.seq (.bN [zM 46 3,
 zM 47 8,
 kY 48 16 46 47,
 zM 49 8,
 zR 50 (.bV 1 64) 4 49,
 zL 51 50,
 zR 52 (.neq .bool) 48 51] [[],[],[],[],[],[0,3],[]])
 (.cond (.t 52)
 (.seq (.ops [zK 2 (.bool false)])
 .ret)
 .skip))
 (.seq (.ops [zM 53 8,
 zR 54 (.bV 1 64) 4 53,
 zL 55 54])
 (.cond (.t 55)
 (.seq (.ops [zM 56 8,
 zR 57 (.bV 1 64) 4 56,
 zS 1 [.t 57,.c (.bool false)]])
 (.ops [zM 58 6,
 zP 59 (.bin .sub) [.t 58,zI 1],
 zM 6 59]))
 .skip)))))))))))
 (.ops [zM 32 7,
 zP 33 (.bin .add) [.t 32,zI 1],
 zM 7 33])))
def fK:AC:=(.seq (.seq (.ops [zM 131 14,
 zM 132 6,
 zR 133 (.bin .lss) 131 132])
 (.cond (.t 133)
 .skip
 (.exit 3)))
 (.seq (.block 4 (.seq (.ops [zM 137 3,
 jP 138 18 137,
 zM 136 138,
 zQ 139 (.ext 0) 136,
 zQ 140 (.ext 1) 136,
 zQ 141 (.ext 2) 136,
 zM 15 139,
 zM 16 140,
 zM 17 141])
 (.seq (.seq (.ops [zM 142 17,
 zQ 143 .not 142,
 zM 144 143,
 bp 145 15 144 false,
 bK 146 (.bin .lss) [.t 145,zI 0] 144 false,
 zP 147 .pick [.t 144,.c (.bool true),.t 146],
 zM 148 147,
 bp 149 15 148 false,
 bK 150 (.bin .gtr) [.t 149,zI 63] 148 false,
 zP 151 .pick [.t 148,.c (.bool true),.t 150],
 zM 152 151,
 bp 153 15 152 false,
 bK 154 (.bV 1 64) [.t 4,.t 153] 152 false,
 kZ 155 154 152 false,
 bK 156 .not [.t 155] 152 false,
 zP 157 .pick [.t 152,.c (.bool true),.t 156],
 zM 158 157,
 bp 159 15 158 false,
 bK 160 (.bV 1 64) [.t 5,.t 159] 158 false,
 kZ 161 160 158 false,
 bp 162 16 158 false,
 bK 163 (.bin .neq) [.t 161,.t 162] 158 false,
 zP 164 .pick [.t 158,.c (.bool true),.t 163],
 zM 165 164,
 bp 166 14 165 false,
 bK 167 (.bin .gtr) [.t 166,zI 0] 165 false,
 bp 168 167 165 false,
 bp 169 16 168 true,
 bp 170 12 168 true,
 bK 171 (.bin .lss) [.t 169,.t 170] 168 true,
 bp 172 171 168 true,
 bp 173 16 172 false,
 bp 174 12 172 false,
 bK 175 (.bin .eql) [.t 173,.t 174] 172 false,
 bp 176 175 172 false,
 bp 177 15 176 true,
 bp 178 13 176 true,
 bK 179 (.bin .lss) [.t 177,.t 178] 176 true,
 bK 180 .pick [.t 176,.t 179,.c (.bool false)] 172 false,
 bK 181 .pick [.t 172,.c (.bool true),.t 180] 168 true,
 bK 182 .pick [.t 168,.t 181,.c (.bool false)] 165 false,
 zP 183 .pick [.t 165,.c (.bool true),.t 182]])
 (.cond (.t 183)
 (.seq (.ops [zK 2 (.bool false)])
 .ret)
 .skip))
 (.seq (.ops [zM 184 15,
 zR 185 (.bV 1 64) 4 184,
 zS 1 [.t 185,.c (.bool false)]])
 (.ops [zM 186 16,
 zM 187 15,
 zM 12 186,
 zM 13 187])))))
 (.ops [zM 134 14,
 zP 135 (.bin .add) [.t 134,zI 1],
 zM 14 135])))
def C3:aC:=⟨201,[.tmp 2],
 (.seq (.ops [zK 2 (.bool false)])
 (.seq (.seq (.ops [IV 21 11,
 zQ 22 .not 21])
 (.cond (.t 22)
 (.seq (.ops [zK 2 (.bool false)])
 .ret)
 .skip))
 (.seq (.ops [IV 23 12,
 zM 3 23])
 (.seq (.ops [⟨some 4,none,.a (.alloc [(.bool false),(.bool false),(.bool false),(.bool false),(.bool false),(.bool false),(.bool false),(.bool false),(.bool false),(.bool false),(.bool false),(.bool false),(.bool false),(.bool false),(.bool false),(.bool false),(.bool false),(.bool false),(.bool false),(.bool false),(.bool false),(.bool false),(.bool false),(.bool false),(.bool false),(.bool false),(.bool false),(.bool false),(.bool false),(.bool false),(.bool false),(.bool false),(.bool false),(.bool false),(.bool false),(.bool false),(.bool false),(.bool false),(.bool false),(.bool false),(.bool false),(.bool false),(.bool false),(.bool false),(.bool false),(.bool false),(.bool false),(.bool false),(.bool false),(.bool false),(.bool false),(.bool false),(.bool false),(.bool false),(.bool false),(.bool false),(.bool false),(.bool false),(.bool false),(.bool false),(.bool false),(.bool false),(.bool false),(.bool false)]),[]⟩])
 (.seq (.ops [⟨some 5,none,.a (.alloc [zz,zz,zz,zz,zz,zz,zz,zz,zz,zz,zz,zz,zz,zz,zz,zz,zz,zz,zz,zz,zz,zz,zz,zz,zz,zz,zz,zz,zz,zz,zz,zz,zz,zz,zz,zz,zz,zz,zz,zz,zz,zz,zz,zz,zz,zz,zz,zz,zz,zz,zz,zz,zz,zz,zz,zz,zz,zz,zz,zz,zz,zz,zz,zz]),[]⟩])
 (.seq (.ops [zV 6 0])
 (.seq (.seq (.ops [zV 7 0])
 (.block 0 (.loop fJ)))
 (.seq (.seq (.ops [zM 127 3,
 jP 128 17 127,
 zM 129 6,
 zR 130 (.bin .neq) 128 129])
 (.cond (.t 130)
 (.seq (.ops [zK 2 (.bool false)])
 .ret)
 .skip))
 (.seq (.ops [zV 12 0,
 zV 13 0])
 (.seq (.seq (.ops [zV 14 0])
 (.block 3 (.loop fK)))
 (.seq (.ops [zM 189 3,
 jP 190 18 189,
 zM 188 190,
 zQ 191 (.ext 0) 188,
 zQ 192 (.ext 1) 188,
 zQ 193 (.ext 2) 188,
 zM 18 191,
 zM 19 192,
 zM 20 193])
 (.seq (.ops [zM 194 20,
 zQ 195 .not 194,
 zM 196 195,
 bp 197 3 196 true,
 kO 198 17 [.t 197] 196 true,
 bK 199 (.bin .eql) [.t 198,zI 0] 196 true,
 zP 200 .pick [.t 196,.t 199,.c (.bool false)],
 zM 2 200])
 .ret))))))))))))⟩
def fI:AC:=(.seq (.seq (.ops [zM 17 8,
 zM 18 7,
 zR 19 (.bin .lss) 17 18])
 (.cond (.t 19)
 .skip
 (.exit 0)))
 (.seq (.block 1 (.seq (.ops [zM 22 5,
 zM 23 8,
 zM 24 0,
 zM 25 8,
 zR 26 (.ak 1) 24 25,
 zL 27 26,
 zW 28 14 22 23 27,
 zP 29 (.bin .neq) [.t 28,zI 0]])
 (.cond (.t 29)
 (.seq (.ops [zK 4 (.bool false)])
 .ret)
 .skip)))
 (.ops [zM 20 8,
 zP 21 (.bin .add) [.t 20,zI 1],
 zM 8 21])))
def dA:AC:=(.seq (.seq (.ops [zM 30 9,
 zM 31 7,
 zR 32 (.bin .lss) 30 31])
 (.cond (.t 32)
 .skip
 (.exit 2)))
 (.seq (.block 3 (.seq (.ops [zM 35 9,
 zM 36 1,
 zM 37 7,
 kY 38 13 36 37,
 zR 39 (.bin .add) 35 38,
 zM 40 7,
 zR 41 (.bin .rem) 39 40,
 zM 10 41])
 (.seq (.ops [zM 42 6,
 zM 43 10,
 zM 44 0,
 zM 45 10,
 zR 46 (.ak 1) 44 45,
 zL 47 46,
 zP 48 .mx [.t 47,zI 1099511627776],
 zW 49 14 42 43 48,
 zP 50 (.bin .neq) [.t 49,zI 0],
 zM 51 50,
 bp 52 6 51 false,
 bp 53 10 51 false,
 bp 54 0 51 false,
 bp 55 10 51 false,
 bK 56 (.ak 1) [.t 54,.t 55] 51 false,
 kZ 57 56 51 false,
 kO 58 15 [.t 52,.t 53,.t 57] 51 false,
 bK 59 (.bin .neq) [.t 58,zI 0] 51 false,
 zP 60 .pick [.t 51,.c (.bool true),.t 59],
 zM 61 60,
 bp 62 9 61 false,
 bK 63 (.bin .rem) [.t 62,zI 3] 61 false,
 bK 64 (.bin .eql) [.t 63,zI 0] 61 false,
 bp 65 64 61 false,
 bp 66 6 65 true,
 bp 67 10 65 true,
 kO 68 16 [.t 66,.t 67] 65 true,
 bK 69 .not [.t 68] 65 true,
 bp 70 69 65 true,
 bp 71 6 70 false,
 bp 72 10 70 false,
 bp 73 0 70 false,
 bp 74 10 70 false,
 bK 75 (.ak 1) [.t 73,.t 74] 70 false,
 kZ 76 75 70 false,
 kO 77 14 [.t 71,.t 72,.t 76] 70 false,
 bK 78 (.bin .neq) [.t 77,zI 0] 70 false,
 bK 79 .pick [.t 70,.c (.bool true),.t 78] 65 true,
 bK 80 .pick [.t 65,.t 79,.c (.bool false)] 61 false,
 zP 81 .pick [.t 61,.c (.bool true),.t 80]])
 (.cond (.t 81)
 (.seq (.ops [zK 4 (.bool false)])
 .ret)
 .skip))))
 (.ops [zM 33 9,
 zP 34 (.bin .add) [.t 33,zI 1],
 zM 9 34])))
def C4:aC:=⟨97,[.tmp 4],
 (.seq (.ops [zK 4 (.bool false)])
 (.seq (.ops [IV 12 12,
 IV 13 12,
 zM 5 12,
 zM 6 13])
 (.seq (.ops [zM 14 0,
 zQ 15 .dc 14,
 zP 16 .mn [.t 15,zI 64],
 zM 7 16])
 (.seq (.seq (.ops [zV 8 0])
 (.block 0 (.loop fI)))
 (.seq (.seq (.ops [zV 9 0])
 (.block 2 (.loop dA)))
 (.seq (.ops [zM 82 5,
 jP 83 19 82,
 zM 11 83])
 (.seq (.ops [zM 84 11,
 zM 85 6,
 jP 86 19 85,
 kY 87 20 84 86,
 zM 88 87,
 bp 89 11 88 true,
 bK 90 .dc [.t 89] 88 true,
 bp 91 7 88 true,
 bK 92 (.bin .eql) [.t 90,.t 91] 88 true,
 zP 93 .pick [.t 88,.t 92,.c (.bool false)],
 zM 94 93,
 ⟨some 95,some (94,true),.call,[.c (.func (.func 11) [] [])]⟩,
 zP 96 .pick [.t 94,.t 95,.c (.bool false)],
 zM 4 96])
 .ret)))))))⟩
def fM:AC:=(.seq (.seq (.ops [zM 10 5,
 zM 11 0,
 zQ 12 .dc 11,
 zR 13 (.bin .lss) 10 12,
 zM 14 13,
 bp 15 5 14 true,
 bK 16 (.bin .lss) [.t 15,zI 300] 14 true,
 zP 17 .pick [.t 14,.t 16,.c (.bool false)]])
 (.cond (.t 17)
 .skip
 (.exit 0)))
 (.seq (.block 1 (.seq (.ops [zM 20 3,
 zM 21 4,
 zM 22 0,
 zM 23 5,
 zR 24 (.ak 3) 22 23,
 zO 25 3 24,
 zW 26 22 20 21 25,
 zQ 27 .not 26,
 zM 28 27,
 bp 29 3 28 false,
 bp 30 4 28 false,
 bp 31 0 28 false,
 bp 32 5 28 false,
 bK 33 (.ak 3) [.t 31,.t 32] 28 false,
 rq 34 33 1 28 false,
 kZ 35 34 28 false,
 kO 36 23 [.t 29,.t 30,.t 35] 28 false,
 bK 37 .not [.t 36] 28 false,
 zP 38 .pick [.t 28,.c (.bool true),.t 37]])
 (.cond (.t 38)
 (.seq (.ops [zK 2 (.bool false)])
 .ret)
 .skip)))
 (.ops [zM 18 5,
 zP 19 (.bin .add) [.t 18,zI 1],
 zM 5 19])))
def fN:AC:=(.seq (.seq (.ops [zM 46 7,
 zM 47 6,
 zQ 48 .dc 47,
 zR 49 (.bin .lss) 46 48])
 (.cond (.t 49)
 .skip
 (.exit 2)))
 (.seq (.block 3 (.ops [zM 52 6,
 zM 53 7,
 zR 54 (.ak 1) 52 53,
 zS 1 [.t 54,zI (-1)]]))
 (.ops [zM 50 7,
 zP 51 (.bin .add) [.t 50,zI 1],
 zM 7 51])))
def C5:aC:=⟨63,[.tmp 2],
 (.seq (.ops [zK 2 (.bool false)])
 (.seq (.ops [IV 8 12,
 IV 9 21,
 zM 3 8,
 zM 4 9])
 (.seq (.seq (.ops [zV 5 0])
 (.block 0 (.loop fM)))
 (.seq (.ops [zM 39 3,
 jP 40 19 39,
 zM 6 40])
 (.seq (.seq (.ops [zM 41 6,
 zM 42 4,
 jP 43 24 42,
 kY 44 20 41 43,
 zQ 45 .not 44])
 (.cond (.t 45)
 (.seq (.ops [zK 2 (.bool false)])
 .ret)
 .skip))
 (.seq (.seq (.ops [zV 7 0])
 (.block 2 (.loop fN)))
 (.seq (.ops [zM 55 3,
 jP 56 19 55,
 zM 57 4,
 jP 58 24 57,
 kY 59 20 56 58,
 zM 60 59,
 ⟨some 61,some (60,true),.call,[.c (.func (.func 11) [] [])]⟩,
 zP 62 .pick [.t 60,.t 61,.c (.bool false)],
 zM 2 62])
 .ret)))))))⟩
def fF:AC:=(.seq (.seq (.ops [zM 14 2,
 zP 15 (.bin .lss) [.t 14,zI 2]])
 (.cond (.t 15)
 .skip
 (.exit 0)))
 (.seq (.block 1 (.seq (.ops [zM 19 1,
 jP 20 25 19,
 zM 18 20,
 zQ 21 (.ext 0) 18,
 zQ 22 (.ext 1) 18,
 zQ 23 (.ext 2) 18,
 zM 3 21,
 zM 4 22,
 zM 5 23])
 (.seq (.ops [zM 25 1,
 jP 26 18 25,
 zM 24 26,
 zQ 27 (.ext 0) 24,
 zQ 28 (.ext 1) 24,
 zQ 29 (.ext 2) 24,
 zM 6 27,
 zM 7 28,
 zM 8 29])
 (.seq (.ops [zM 31 1,
 zC 32 26 [.t 31,zI 0],
 zM 30 32,
 zQ 33 (.ext 0) 30,
 zQ 34 (.ext 1) 30,
 zM 9 33,
 zM 10 34])
 (.seq (.seq (.ops [zM 35 1,
 zC 36 14 [.t 35,zI (-1),zI 0],
 zP 37 (.bin .neq) [.t 36,zI 1],
 zM 38 37,
 bp 39 1 38 false,
 kO 40 15 [.t 39,zI 64,zI 0] 38 false,
 bK 41 (.bin .neq) [.t 40,zI 1] 38 false,
 zP 42 .pick [.t 38,.c (.bool true),.t 41],
 zM 43 42,
 bp 44 1 43 false,
 kO 45 16 [.t 44,zI 0] 43 false,
 zP 46 .pick [.t 43,.c (.bool true),.t 45],
 zM 47 46,
 bp 48 5 47 false,
 zP 49 .pick [.t 47,.c (.bool true),.t 48],
 zM 50 49,
 bp 51 8 50 false,
 zP 52 .pick [.t 50,.c (.bool true),.t 51],
 zM 53 52,
 bp 54 10 53 false,
 zP 55 .pick [.t 53,.c (.bool true),.t 54],
 zM 56 55,
 bp 57 1 56 false,
 kO 58 17 [.t 57] 56 false,
 bK 59 (.bin .neq) [.t 58,zI 0] 56 false,
 zP 60 .pick [.t 56,.c (.bool true),.t 59],
 zM 61 60,
 bp 62 1 61 false,
 kO 63 19 [.t 62] 61 false,
 bK 64 .dc [.t 63] 61 false,
 bK 65 (.bin .neq) [.t 64,zI 0] 61 false,
 zP 66 .pick [.t 61,.c (.bool true),.t 65]])
 (.cond (.t 66)
 (.seq (.ops [zK 0 (.bool false)])
 .ret)
 .skip))
 (.ops [zP 67 (.build [.de] []) [],
 zB 68 67,
 zM 1 68]))))))
 (.ops [zM 16 2,
 zP 17 (.bin .add) [.t 16,zI 1],
 zM 2 17])))
def fG:AC:=(.seq (.seq (.ops [zM 69 12,
 zP 70 (.bin .lss) [.t 69,zI 70]])
 (.cond (.t 70)
 .skip
 (.exit 2)))
 (.seq (.block 3 (.ops [zM 73 11,
 zM 74 12,
 zP 75 (.bin .mul) [.t 74,zI 37],
 zP 76 (.bin .rem) [.t 75,zI 66],
 zP 77 (.bin .sub) [.t 76,zI 1],
 zM 78 12,
 zP 79 (.bin .rem) [.t 78,zI 5],
 zR 80 (.build [zz,zz,zz] [(1,1),(2,1)]) 77 79,
 zM 81 12,
 zM 82 12,
 zQ 83 .neg 82,
 zP 84 (.build [zz,zz,zz] [(0,1),(1,1),(2,1)]) [zI 1,.t 81,.t 83],
 ⟨some 85,none,.a (.dF [zz,zz,zz] 2 3 [0,1]),[.t 80,.t 84]⟩,
 zA 86 3 24 73 85,
 zM 11 86]))
 (.ops [zM 71 12,
 zP 72 (.bin .add) [.t 71,zI 1],
 zM 12 72])))
def fH:AC:=(.seq (.seq (.ops [zM 99 13,
 zP 100 (.bin .lss) [.t 99,zI 70]])
 (.cond (.t 100)
 .skip
 (.exit 4)))
 (.seq (.block 5 (.ops [zM 103 11,
 zP 104 (.build [zz,zz,zz] [(0,1)]) [zI 3],
 ⟨some 105,none,.a (.dF [zz,zz,zz] 1 3 [0]),[.t 104]⟩,
 zA 106 3 24 103 105,
 zM 11 106]))
 (.ops [zM 101 13,
 zP 102 (.bin .add) [.t 101,zI 1],
 zM 13 102])))
def C6:aC:=⟨122,[.tmp 0],
 (.seq (.ops [zK 0 (.bool false)])
 (.seq (.ops [zK 1 .de])
 (.seq (.seq (.ops [zV 2 0])
 (.block 0 (.loop fF)))
 (.seq (.ops [zK 11 .aN])
 (.seq (.seq (.ops [zV 12 0])
 (.block 2 (.loop fG)))
 (.seq (.ops [zM 87 11,
 zP 88 (.build [zz,zz,zz] [(1,1)]) [zI 64],
 zP 89 (.build [zz,zz,zz] [(1,1)]) [zI (-1)],
 zP 90 (.build [zz,zz,zz] [(0,1),(1,1)]) [zI 1,zI 64],
 zP 91 (.build [zz,zz,zz] [(0,1),(1,1)]) [zI 1,zI (-1)],
 zP 92 (.build [zz,zz,zz] [(0,1),(1,1)]) [zI 2,zI 70],
 zP 93 (.build [zz,zz,zz] [(0,1),(1,1)]) [zI 2,zI 5],
 zP 94 (.build [zz,zz,zz] [(0,1),(1,1)]) [zI 1,zI 5],
 zP 95 (.build [zz,zz,zz] [(1,1),(2,1)]) [zI 5,zI (-9223372036854775808)],
 zP 96 (.build [zz,zz,zz] [(0,1),(1,1),(2,1)]) [zI 1,zI 6,zI 9223372036854775807],
 ⟨some 97,none,.a (.dF [zz,zz,zz] 9 3 [0,1,2,3,4,5,6,7,8]),[.t 88,.t 89,.t 90,.t 91,.t 92,.t 93,.t 94,.t 95,.t 96]⟩,
 zA 98 3 24 87 97,
 zM 11 98])
 (.seq (.seq (.ops [zV 13 0])
 (.block 4 (.loop fH)))
 (.seq (.ops [zK 107 (.bool true),
 ⟨some 108,some (107,true),.call,[.c (.func (.func 11) [] [])]⟩,
 zP 109 .pick [.t 107,.t 108,.c (.bool false)],
 zM 110 109,
 bp 111 11 110 true,
 kO 112 5 [.t 111] 110 true,
 zP 113 .pick [.t 110,.t 112,.c (.bool false)],
 zM 114 113,
 kO 115 5 [.c .aN] 114 true,
 zP 116 .pick [.t 114,.t 115,.c (.bool false)],
 zM 117 116,
 bp 118 11 117 true,
 bK 119 (.slice 3 false true false) [.t 118,zI 140] 117 true,
 kO 120 3 [.t 119] 117 true,
 zP 121 .pick [.t 117,.t 120,.c (.bool false)],
 zM 0 121])
 .ret))))))))⟩
def fh:AC:=(.seq (.seq (.ops [zM 32 9,
 zM 33 1,
 zQ 34 .dc 33,
 zR 35 (.bin .lss) 32 34,
 zM 36 35,
 bp 37 9 36 true,
 bK 38 (.bin .lss) [.t 37,zI 200] 36 true,
 zP 39 .pick [.t 36,.t 38,.c (.bool false)],
 zM 40 39,
 bp 41 8 40 true,
 bK 42 (.bin .eql) [.t 41,zI 0] 40 true,
 zP 43 .pick [.t 40,.t 42,.c (.bool false)]])
 (.cond (.t 43)
 .skip
 (.exit 0)))
 (.seq (.block 1 (.seq (.ops [zM 46 1,
 zM 47 9,
 zR 48 (.ak 3) 46 47,
 zO 49 3 48,
 ⟨some 10,none,.a (.alloc [zz,zz,zz]),[]⟩,
 zS 3 [.t 10,.t 49]])
 (.seq (.ops [zK 11 (.bool true)])
 (.seq (.seq (.ops [zF 50 10 0,
 zL 51 50,
 ⟨some 52,none,.call,[.c (.func (.func 13) [] []),.t 51,zI 3]⟩])
 (.block 2 (.seq (.ops [zP 63 (.bin .eql) [.t 52,zI 0],
 zM 62 63])
 (.cond (.t 62)
 (.bN [zM 64 5,
 zF 65 10 1,
 zL 66 65,
 zF 67 10 2,
 zL 68 67,
 zW 69 29 64 66 68,
 zM 70 7,
 zF 71 10 1,
 zL 72 71,
 zF 73 10 2,
 zL 74 73,
 zW 75 30 70 72 74,
 zR 76 (.bin .eql) 69 75,
 zM 11 76] [[],[],[],[],[],[],[],[],[0,6],[],[0,6],[],[],[]])
 (.seq (.ops [zP 78 (.bin .eql) [.t 52,zI 1],
 zM 77 78])
 (.cond (.t 77)
 (.bN [zM 79 5,
 zF 80 10 1,
 zL 81 80,
 kY 82 31 79 81,
 zM 83 7,
 zF 84 10 1,
 zL 85 84,
 kY 86 32 83 85,
 zR 87 (.eq .bool) 82 86,
 zM 11 87] [[],[],[],[],[],[],[0,4],[],[],[]])
 (.bN [zM 53 5,
 zF 54 10 2,
 zL 55 54,
 kY 56 33 53 55,
 zM 57 7,
 zF 58 10 2,
 zL 59 58,
 kY 60 34 57 59,
 kY 61 20 56 60,
 zM 11 61] [[],[],[],[],[],[],[0,4],[],[],[]])))))))
 (.seq (.ops [zM 88 11,
 zQ 89 .not 88,
 zM 90 89,
 bp 91 5 90 false,
 bp 92 7 90 false,
 kO 93 35 [.t 91,.t 92] 90 false,
 bK 94 .not [.t 93] 90 false,
 zP 95 .pick [.t 90,.c (.bool true),.t 94]])
 (.cond (.t 95)
 (.seq (.ops [zK 4 (.bool false)])
 .ret)
 .skip))))))
 (.ops [zM 44 9,
 zP 45 (.bin .add) [.t 44,zI 1],
 zM 9 45])))
def C7:aC:=⟨97,[.tmp 4],
 (.seq (.ops [zK 4 (.bool false)])
 (.seq (.ops [zM 13 0,
 jP 14 27 13,
 zM 12 14,
 zQ 15 (.ext 0) 12,
 zQ 16 (.ext 1) 12,
 zM 5 15,
 zM 6 16])
 (.seq (.ops [zM 18 0,
 jP 19 28 18,
 zM 17 19,
 zQ 20 (.ext 0) 17,
 zQ 21 (.ext 1) 17,
 zM 7 20,
 zM 8 21])
 (.seq (.seq (.ops [zM 22 6,
 zM 23 8,
 zR 24 (.bin .neq) 22 23,
 zM 25 24,
 bp 26 5 25 false,
 bK 27 (.eq .iW) [.t 26,.c .de] 25 false,
 bp 28 8 25 false,
 bK 29 (.bin .neq) [.t 28,zI 0] 25 false,
 bK 30 (.neq .bool) [.t 27,.t 29] 25 false,
 zP 31 .pick [.t 25,.c (.bool true),.t 30]])
 (.cond (.t 31)
 (.seq (.ops [zK 4 (.bool false)])
 .ret)
 .skip))
 (.seq (.seq (.ops [zV 9 0])
 (.block 0 (.loop fh)))
 (.seq (.ops [IV 96 36,
 zM 4 96])
 .ret))))))⟩
def eX:AC:=(.seq (.seq (.ops [zM 29 8,
 zM 30 0,
 zQ 31 .dc 30,
 zR 32 (.bin .lss) 29 31,
 zM 33 32,
 bp 34 8 33 true,
 bK 35 (.bin .lss) [.t 34,zI 100] 33 true,
 zP 36 .pick [.t 33,.t 35,.c (.bool false)]])
 (.cond (.t 36)
 .skip
 (.exit 0)))
 (.seq (.block 1 (.seq (.bN [zM 39 0,
 zM 40 8,
 zR 41 (.ak 3) 39 40,
 zF 42 41 1,
 zL 43 42,
 zC 44 13 [.t 43,zI 4],
 zM 45 0,
 zM 46 8,
 zR 47 (.ak 3) 45 46,
 zF 48 47 2,
 zL 49 48,
 zC 50 13 [.t 49,zI 200],
 zM 9 44,
 zM 10 50] [[],[],[],[],[],[],[],[],[],[],[0,6],[],[],[]])
 (.seq (.seq (.ops [zM 51 0,
 zM 52 8,
 zR 53 (.ak 3) 51 52,
 zF 54 53 0,
 zL 55 54,
 zC 56 13 [.t 55,zI 3],
 zP 57 (.bin .eql) [.t 56,zI 2]])
 (.cond (.t 57)
 (.seq (.seq (.bN [zM 58 5,
 zM 59 9,
 kY 60 31 58 59,
 zM 61 9,
 zR 62 (.bV 1 4) 7 61,
 zL 63 62,
 zP 64 (.bin .gtr) [.t 63,zI 0],
 zR 65 (.neq .bool) 60 64] [[],[],[],[],[],[0,3],[],[]])
 (.cond (.t 65)
 (.seq (.ops [zK 4 (.bool false)])
 .ret)
 .skip))
 (.seq (.ops [zM 66 9,
 zR 67 (.bV 1 4) 7 66,
 zS 1 [.t 67,zI 0]])
 (.exit 1)))
 .skip))
 (.seq (.seq (.bN [zM 68 5,
 zM 69 9,
 zM 70 10,
 zW 71 29 68 69 70,
 zP 72 (.bin .eql) [.t 71,zI 0],
 zM 73 9,
 zR 74 (.bV 1 4) 7 73,
 zL 75 74,
 zP 76 (.bin .eql) [.t 75,zI 0],
 zR 77 (.neq .bool) 72 76] [[],[],[],[],[],[],[],[0,4],[],[]])
 (.cond (.t 77)
 (.seq (.ops [zK 4 (.bool false)])
 .ret)
 .skip))
 (.seq (.ops [zM 78 9,
 zR 79 (.bV 1 4) 7 78,
 zL 80 79,
 zP 81 (.bin .eql) [.t 80,zI 0]])
 (.cond (.t 81)
 (.ops [zM 82 9,
 zM 83 10,
 zP 84 (.bin .add) [.t 83,zI 1],
 zR 85 (.bV 1 4) 7 82,
 zS 1 [.t 85,.t 84]])
 .skip))))))
 (.ops [zM 37 8,
 zP 38 (.bin .add) [.t 37,zI 1],
 zM 8 38])))
def eY:AC:=(.seq (.seq (.ops [zM 92 15,
 zP 93 (.bin .lss) [.t 92,zI 4]])
 (.cond (.t 93)
 .skip
 (.exit 2)))
 (.seq (.block 3 (.seq (.ops [zM 96 14,
 zM 97 96,
 bp 98 15 97 false,
 bK 99 (.bV 1 4) [.t 7,.t 98] 97 false,
 kZ 100 99 97 false,
 bK 101 (.bin .gtr) [.t 100,zI 0] 97 false,
 zP 102 .pick [.t 97,.c (.bool true),.t 101],
 zM 14 102])
 (.seq (.ops [zM 103 13,
 zM 104 103,
 bp 105 15 104 true,
 bK 106 (.bV 1 4) [.t 7,.t 105] 104 true,
 kZ 107 106 104 true,
 bK 108 (.bin .gtr) [.t 107,zI 0] 104 true,
 zP 109 .pick [.t 104,.t 108,.c (.bool false)],
 zM 110 109,
 bp 111 15 110 true,
 bK 112 (.bV 1 4) [.t 7,.t 111] 110 true,
 kZ 113 112 110 true,
 bK 114 (.bin .sub) [.t 113,zI 1] 110 true,
 bp 115 12 110 true,
 bK 116 (.bin .lss) [.t 114,.t 115] 110 true,
 bp 117 116 110 true,
 bp 118 15 117 false,
 bK 119 (.bV 1 4) [.t 7,.t 118] 117 false,
 kZ 120 119 117 false,
 bK 121 (.bin .sub) [.t 120,zI 1] 117 false,
 bp 122 12 117 false,
 bK 123 (.bin .eql) [.t 121,.t 122] 117 false,
 bp 124 123 117 false,
 bp 125 15 124 true,
 bp 126 11 124 true,
 bK 127 (.bin .lss) [.t 125,.t 126] 124 true,
 bK 128 .pick [.t 124,.t 127,.c (.bool false)] 117 false,
 bK 129 .pick [.t 117,.c (.bool true),.t 128] 110 true,
 zP 130 .pick [.t 110,.t 129,.c (.bool false)]])
 (.cond (.t 130)
 (.seq (.ops [zK 4 (.bool false)])
 .ret)
 .skip))))
 (.ops [zM 94 15,
 zP 95 (.bin .add) [.t 94,zI 1],
 zM 15 95])))
def eZ:AC:=(.seq (.seq (.ops [zM 159 19,
 zM 160 18,
 zQ 161 .dc 160,
 zR 162 (.bin .lss) 159 161])
 (.cond (.t 162)
 .skip
 (.exit 4)))
 (.seq (.block 5 (.seq (.ops [zM 165 18,
 zM 166 19,
 zR 167 (.ak 1) 165 166,
 zL 168 167,
 zC 169 13 [.t 168,zI 4],
 zR 170 (.bV 1 4) 7 169,
 zL 171 170,
 zP 172 (.bin .sub) [.t 171,zI 1],
 zM 173 16,
 zR 174 (.bin .leq) 172 173,
 zM 20 174])
 (.seq (.bN [zM 175 20,
 zM 176 19,
 zM 177 17,
 zQ 178 .dc 177,
 zR 179 (.bin .lss) 176 178,
 zR 180 (.neq .bool) 175 179,
 zM 181 180,
 bp 182 19 181 false,
 bp 183 17 181 false,
 bK 184 .dc [.t 183] 181 false,
 bK 185 (.bin .lss) [.t 182,.t 184] 181 false,
 bp 186 185 181 false,
 bp 187 17 186 true,
 bp 188 19 186 true,
 bK 189 (.ak 1) [.t 187,.t 188] 186 true,
 kZ 190 189 186 true,
 bp 191 18 186 true,
 bp 192 19 186 true,
 bK 193 (.ak 1) [.t 191,.t 192] 186 true,
 kZ 194 193 186 true,
 bK 195 (.bin .neq) [.t 190,.t 194] 186 true,
 bK 196 .pick [.t 186,.t 195,.c (.bool false)] 181 false,
 zP 197 .pick [.t 181,.c (.bool true),.t 196]] [[],[],[],[],[],[],[],[],[],[],[],[],[],[],[],[],[],[],[],[],[],[],[]])
 (.cond (.t 197)
 (.seq (.ops [zK 4 (.bool false)])
 .ret)
 .skip))))
 (.ops [zM 163 19,
 zP 164 (.bin .add) [.t 163,zI 1],
 zM 19 164])))
def C8:aC:=⟨198,[.tmp 4],
 (.seq (.ops [zK 4 (.bool false)])
 (.seq (.seq (.ops [IV 21 36,
 zQ 22 .not 21])
 (.cond (.t 22)
 (.seq (.ops [zK 4 (.bool false)])
 .ret)
 .skip))
 (.seq (.ops [zC 24 27 [zI 4],
 zM 23 24,
 zQ 25 (.ext 0) 23,
 zQ 26 (.ext 1) 23,
 zM 5 25,
 zM 6 26])
 (.seq (.seq (.ops [zM 27 6,
 zP 28 (.bin .neq) [.t 27,zI 0]])
 (.cond (.t 28)
 (.seq (.ops [zK 4 (.bool false)])
 .ret)
 .skip))
 (.seq (.ops [⟨some 7,none,.a (.alloc [zz,zz,zz,zz]),[]⟩])
 (.seq (.seq (.ops [zV 8 0])
 (.block 0 (.loop eX)))
 (.seq (.ops [zM 87 5,
 jP 88 37 87,
 zM 86 88,
 zQ 89 (.ext 0) 86,
 zQ 90 (.ext 1) 86,
 zQ 91 (.ext 2) 86,
 zM 11 89,
 zM 12 90,
 zM 13 91])
 (.seq (.ops [zK 14 (.bool false)])
 (.seq (.seq (.ops [zV 15 0])
 (.block 2 (.loop eY)))
 (.seq (.seq (.ops [zM 131 13,
 zM 132 14,
 zR 133 (.neq .bool) 131 132,
 zM 134 133,
 bp 135 13 134 false,
 bp 136 135 134 false,
 bp 137 11 136 true,
 kO 138 13 [.t 137,zI 4] 136 true,
 bK 139 (.bV 1 4) [.t 7,.t 138] 136 true,
 kZ 140 139 136 true,
 bp 141 12 136 true,
 bK 142 (.bin .add) [.t 141,zI 1] 136 true,
 bK 143 (.bin .neq) [.t 140,.t 142] 136 true,
 bK 144 .pick [.t 136,.t 143,.c (.bool false)] 134 false,
 zP 145 .pick [.t 134,.c (.bool true),.t 144]])
 (.cond (.t 145)
 (.seq (.ops [zK 4 (.bool false)])
 .ret)
 .skip))
 (.seq (.ops [zM 146 1,
 zC 147 13 [.t 146,zI 220],
 zP 148 (.bin .sub) [.t 147,zI 10],
 zM 16 148])
 (.seq (.ops [zM 149 5,
 zM 150 16,
 kY 151 33 149 150,
 zM 152 5,
 jP 153 38 152,
 zM 17 151,
 zM 18 153])
 (.seq (.seq (.ops [zM 154 17,
 zQ 155 .dc 154,
 zM 156 18,
 zQ 157 .dc 156,
 zR 158 (.bin .gtr) 155 157])
 (.cond (.t 158)
 (.seq (.ops [zK 4 (.bool false)])
 .ret)
 .skip))
 (.seq (.seq (.ops [zV 19 0])
 (.block 4 (.loop eZ)))
 (.seq (.ops [zK 4 (.bool true)])
 .ret)))))))))))))))⟩
def fe:AC:=(.seq (.seq (.ops [zM 28 11,
 zP 29 (.bin .lss) [.t 28,zI 4]])
 (.cond (.t 29)
 .skip
 (.exit 0)))
 (.seq (.block 1 (.seq (.ops [zM 32 11,
 zM 33 2,
 zC 34 13 [.t 33,zI 4],
 zR 35 (.bin .add) 32 34,
 zP 36 (.bin .rem) [.t 35,zI 4],
 zM 12 36])
 (.seq (.ops [zM 37 9,
 zM 38 12,
 zM 39 12,
 zR 40 (.bV 1 4) 3 39,
 zL 41 40,
 zC 42 13 [.t 41,zI 100],
 zW 43 29 37 38 42,
 zP 44 (.bin .neq) [.t 43,zI 0]])
 (.cond (.t 44)
 (.seq (.ops [zK 6 (.bool false)])
 .ret)
 .skip))))
 (.ops [zM 30 11,
 zP 31 (.bin .add) [.t 30,zI 1],
 zM 11 31])))
def ff:AC:=(.seq (.seq (.ops [zM 45 13,
 zP 46 (.bin .lss) [.t 45,zI 4]])
 (.cond (.t 46)
 .skip
 (.exit 2)))
 (.seq (.block 3 (.seq (.ops [zM 49 13,
 zR 50 (.bV 1 4) 4 49,
 zL 51 50,
 zM 52 51,
 bp 53 7 52 true,
 bp 54 13 52 true,
 bp 55 13 52 true,
 bK 56 (.bV 1 4) [.t 3,.t 55] 52 true,
 kZ 57 56 52 true,
 kO 58 13 [.t 57,zI 100] 52 true,
 kO 59 29 [.t 53,.t 54,.t 58] 52 true,
 bK 60 (.bin .neq) [.t 59,zI 0] 52 true,
 zP 61 .pick [.t 52,.t 60,.c (.bool false)],
 zM 62 61,
 bp 63 13 62 false,
 bK 64 (.bV 1 4) [.t 4,.t 63] 62 false,
 kZ 65 64 62 false,
 bK 66 .not [.t 65] 62 false,
 bp 67 66 62 false,
 bp 68 9 67 true,
 bp 69 13 67 true,
 kO 70 31 [.t 68,.t 69] 67 true,
 bK 71 .not [.t 70] 67 true,
 bK 72 .pick [.t 67,.t 71,.c (.bool false)] 62 false,
 zP 73 .pick [.t 62,.c (.bool true),.t 72]])
 (.cond (.t 73)
 (.seq (.ops [zK 6 (.bool false)])
 .ret)
 .skip)))
 (.ops [zM 47 13,
 zP 48 (.bin .add) [.t 47,zI 1],
 zM 13 48])))
def C9:aC:=⟨82,[.tmp 6],
 (.seq (.ops [zB 3 0,
 zB 4 1,
 zK 6 (.bool false)])
 (.seq (.ops [zC 15 27 [zI 4],
 zM 14 15,
 zQ 16 (.ext 0) 14,
 zQ 17 (.ext 1) 14,
 zM 7 16,
 zM 8 17])
 (.seq (.ops [zC 19 27 [zI 4],
 zM 18 19,
 zQ 20 (.ext 0) 18,
 zQ 21 (.ext 1) 18,
 zM 9 20,
 zM 10 21])
 (.seq (.seq (.ops [zM 22 8,
 zP 23 (.bin .neq) [.t 22,zI 0],
 zM 24 23,
 bp 25 10 24 false,
 bK 26 (.bin .neq) [.t 25,zI 0] 24 false,
 zP 27 .pick [.t 24,.c (.bool true),.t 26]])
 (.cond (.t 27)
 (.seq (.ops [zK 6 (.bool false)])
 .ret)
 .skip))
 (.seq (.seq (.ops [zV 11 0])
 (.block 0 (.loop fe)))
 (.seq (.seq (.ops [zV 13 0])
 (.block 2 (.loop ff)))
 (.seq (.ops [zM 74 7,
 jP 75 38 74,
 zM 76 9,
 jP 77 38 76,
 kY 78 20 75 77,
 zM 79 78,
 ⟨some 80,some (79,true),.call,[.c (.func (.func 36) [] [])]⟩,
 zP 81 .pick [.t 79,.t 80,.c (.bool false)],
 zM 6 81])
 .ret)))))))⟩
def e8:AC:=(.seq (.seq (.ops [zM 14 2,
 zP 15 (.bin .lss) [.t 14,zI 2]])
 (.cond (.t 15)
 .skip
 (.exit 0)))
 (.seq (.block 1 (.seq (.ops [zM 19 1,
 jP 20 37 19,
 zM 18 20,
 zQ 21 (.ext 0) 18,
 zQ 22 (.ext 1) 18,
 zQ 23 (.ext 2) 18,
 zM 3 21,
 zM 4 22,
 zM 5 23])
 (.seq (.ops [zM 25 1,
 zC 26 39 [.t 25,zI 0],
 zM 24 26,
 zQ 27 (.ext 0) 24,
 zQ 28 (.ext 1) 24,
 zM 6 27,
 zM 7 28])
 (.seq (.seq (.ops [zM 29 1,
 zC 30 29 [.t 29,zI (-1),zI 0],
 zP 31 (.bin .neq) [.t 30,zI 1],
 zM 32 31,
 bp 33 1 32 false,
 kO 34 31 [.t 33,zI 0] 32 false,
 zP 35 .pick [.t 32,.c (.bool true),.t 34],
 zM 36 35,
 bp 37 5 36 false,
 zP 38 .pick [.t 36,.c (.bool true),.t 37],
 zM 39 38,
 bp 40 7 39 false,
 zP 41 .pick [.t 39,.c (.bool true),.t 40],
 zM 42 41,
 bp 43 1 42 false,
 kO 44 33 [.t 43,zI 5] 42 false,
 bK 45 .dc [.t 44] 42 false,
 bK 46 (.bin .neq) [.t 45,zI 0] 42 false,
 zP 47 .pick [.t 42,.c (.bool true),.t 46],
 zM 48 47,
 bp 49 1 48 false,
 kO 50 38 [.t 49] 48 false,
 bK 51 .dc [.t 50] 48 false,
 bK 52 (.bin .neq) [.t 51,zI 0] 48 false,
 zP 53 .pick [.t 48,.c (.bool true),.t 52]])
 (.cond (.t 53)
 (.seq (.ops [zK 0 (.bool false)])
 .ret)
 .skip))
 (.ops [zP 54 (.build [.de,zz] []) [],
 zB 55 54,
 zM 1 55])))))
 (.ops [zM 16 2,
 zP 17 (.bin .add) [.t 16,zI 1],
 zM 2 17])))
def fc:AC:=(.seq (.seq (.ops [zM 63 11,
 zM 64 8,
 zQ 65 .dc 64,
 zR 66 (.bin .lss) 63 65])
 (.cond (.t 66)
 .skip
 (.exit 4)))
 (.seq (.block 5 (.bN [zM 69 10,
 zM 70 8,
 zM 71 11,
 zR 72 (.ak 1) 70 71,
 zL 73 72,
 zP 74 (.build [zz,zz,zz] [(1,1),(2,1)]) [.t 73,zI 5],
 zM 75 11,
 zP 76 (.bin .rem) [.t 75,zI 4],
 zM 77 8,
 zM 78 11,
 zR 79 (.ak 1) 77 78,
 zL 80 79,
 zR 81 (.build [zz,zz,zz] [(1,1),(2,1)]) 76 80,
 zM 82 8,
 zM 83 11,
 zR 84 (.ak 1) 82 83,
 zL 85 84,
 zP 86 (.build [zz,zz,zz] [(0,1),(2,1)]) [zI 2,.t 85],
 zM 87 8,
 zM 88 11,
 zR 89 (.ak 1) 87 88,
 zL 90 89,
 zP 91 (.build [zz,zz,zz] [(0,1),(1,1)]) [zI 1,.t 90],
 ⟨some 92,none,.a (.dF [zz,zz,zz] 4 3 [0,1,2,3]),[.t 74,.t 81,.t 86,.t 91]⟩,
 zA 93 3 24 69 92,
 zM 10 93] [[],[],[],[],[],[],[],[],[],[],[],[],[],[],[],[],[],[],[],[],[],[],[],[],[],[]]))
 (.ops [zM 67 11,
 zP 68 (.bin .add) [.t 67,zI 1],
 zM 11 68])))
def e9:AC:=(.seq (.seq (.ops [zM 57 9,
 zM 58 8,
 zQ 59 .dc 58,
 zR 60 (.bin .lss) 57 59])
 (.cond (.t 60)
 .skip
 (.exit 2)))
 (.seq (.block 3 (.seq (.ops [zK 10 .aN])
 (.seq (.seq (.ops [zV 11 0])
 (.block 4 (.loop fc)))
 (.seq (.ops [zM 94 8,
 zM 95 9,
 zR 96 (.ak 1) 94 95,
 zL 97 96,
 zM 98 10,
 kY 99 7 97 98,
 zQ 100 .not 99])
 (.cond (.t 100)
 (.seq (.ops [zK 0 (.bool false)])
 .ret)
 .skip)))))
 (.ops [zM 61 9,
 zP 62 (.bin .add) [.t 61,zI 1],
 zM 9 62])))
def RA:aC:=⟨121,[.tmp 0],
 (.seq (.ops [zK 0 (.bool false)])
 (.seq (.ops [zK 1 .de])
 (.seq (.seq (.ops [zV 2 0])
 (.block 0 (.loop e8)))
 (.seq (.ops [⟨some 56,none,.a (.dF [zz] 12 1 [0,1,2,3,4,5,6,7,8,9,10,11]),[zI (-9223372036854775808),zI (-1),zI 0,zI 1,zI 2,zI 3,zI 4,zI 5,zI 1099511627776,zI 1099511627840,zI 1099511627841,zI 9223372036854775807]⟩,
 zM 8 56])
 (.seq (.seq (.ops [zV 9 0])
 (.block 2 (.loop e9)))
 (.seq (.ops [zC 102 27 [zI 0],
 zM 101 102,
 zQ 103 (.ext 0) 101,
 zQ 104 (.ext 1) 101,
 zM 12 103,
 zM 13 104])
 (.seq (.ops [zK 105 (.bool true),
 ⟨some 106,some (105,true),.call,[.c (.func (.func 36) [] [])]⟩,
 zP 107 .pick [.t 105,.t 106,.c (.bool false)],
 zM 108 107,
 bp 109 13 108 true,
 bK 110 (.bin .eql) [.t 109,zI 0] 108 true,
 zP 111 .pick [.t 108,.t 110,.c (.bool false)],
 zM 112 111,
 bp 113 12 112 true,
 bK 114 (.neq .iW) [.t 113,.c .de] 112 true,
 zP 115 .pick [.t 112,.t 114,.c (.bool false)],
 zM 116 115,
 bp 117 12 116 true,
 kO 118 29 [.t 117,zI 0,zI 0] 116 true,
 bK 119 (.bin .eql) [.t 118,zI 9] 116 true,
 zP 120 .pick [.t 116,.t 119,.c (.bool false)],
 zM 0 120])
 .ret)))))))⟩
def Tb:aC:=⟨84,[.tmp 0],
 (.seq (.ops [zK 0 (.bool false)])
 (.seq (.ops [IV 5 12,
 zM 1 5])
 (.seq (.seq (.ops [zM 6 1,
 zC 7 14 [.t 6,zI 5,zI 9],
 zP 8 (.bin .neq) [.t 7,zI 0],
 zM 9 8,
 bp 10 1 9 false,
 kO 11 14 [.t 10,zI 3,zI 9] 9 false,
 bK 12 (.bin .neq) [.t 11,zI 0] 9 false,
 zP 13 .pick [.t 9,.c (.bool true),.t 12],
 zM 14 13,
 bp 15 1 14 false,
 kO 16 14 [.t 15,zI 7,zI 4] 14 false,
 bK 17 (.bin .neq) [.t 16,zI 0] 14 false,
 zP 18 .pick [.t 14,.c (.bool true),.t 17],
 zM 19 18,
 bp 20 1 19 false,
 kO 21 19 [.t 20] 19 false,
 ⟨some 22,some (19,false),.a (.dF [zz] 3 1 [0,1,2]),[zI 7,zI 3,zI 5]⟩,
 kO 23 20 [.t 21,.t 22] 19 false,
 bK 24 .not [.t 23] 19 false,
 zP 25 .pick [.t 19,.c (.bool true),.t 24]])
 (.cond (.t 25)
 (.seq (.ops [zK 0 (.bool false)])
 .ret)
 .skip))
 (.seq (.seq (.ops [zM 26 1,
 zC 27 14 [.t 26,zI 5,zI 1],
 zP 28 (.bin .neq) [.t 27,zI 141],
 zM 29 28,
 bp 30 1 29 false,
 kO 31 15 [.t 30,zI 5,zI 10] 29 false,
 bK 32 (.bin .neq) [.t 31,zI 2] 29 false,
 zP 33 .pick [.t 29,.c (.bool true),.t 32],
 zM 34 33,
 bp 35 1 34 false,
 kO 36 15 [.t 35,zI 5,zI 2] 34 false,
 bK 37 (.bin .neq) [.t 36,zI 0] 34 false,
 zP 38 .pick [.t 34,.c (.bool true),.t 37]])
 (.cond (.t 38)
 (.seq (.ops [zK 0 (.bool false)])
 .ret)
 .skip))
 (.seq (.ops [zM 40 1,
 jP 41 25 40,
 zM 39 41,
 zQ 42 (.ext 0) 39,
 zQ 43 (.ext 1) 39,
 zQ 44 (.ext 2) 39,
 zM 2 42,
 zM 3 43,
 zM 4 44])
 (.seq (.seq (.ops [zM 45 2,
 zP 46 (.bin .neq) [.t 45,zI 5],
 zM 47 46,
 bp 48 3 47 false,
 bK 49 (.bin .neq) [.t 48,zI 2] 47 false,
 zP 50 .pick [.t 47,.c (.bool true),.t 49],
 zM 51 50,
 bp 52 4 51 false,
 bK 53 .not [.t 52] 51 false,
 zP 54 .pick [.t 51,.c (.bool true),.t 53],
 zM 55 54,
 bp 56 1 55 false,
 kO 57 16 [.t 56,zI 5] 55 false,
 bK 58 .not [.t 57] 55 false,
 zP 59 .pick [.t 55,.c (.bool true),.t 58],
 zM 60 59,
 bp 61 1 60 false,
 kO 62 16 [.t 61,zI 5] 60 false,
 zP 63 .pick [.t 60,.c (.bool true),.t 62]])
 (.cond (.t 63)
 (.seq (.ops [zK 0 (.bool false)])
 .ret)
 .skip))
 (.seq (.ops [zM 65 1,
 jP 66 18 65,
 zM 64 66,
 zQ 67 (.ext 0) 64,
 zQ 68 (.ext 1) 64,
 zQ 69 (.ext 2) 64,
 zM 2 67,
 zM 3 68,
 zM 4 69])
 (.seq (.ops [zM 70 2,
 zP 71 (.bin .eql) [.t 70,zI 7],
 zM 72 71,
 bp 73 3 72 true,
 bK 74 (.bin .eql) [.t 73,zI 4] 72 true,
 zP 75 .pick [.t 72,.t 74,.c (.bool false)],
 zM 76 75,
 bp 77 4 76 true,
 zP 78 .pick [.t 76,.t 77,.c (.bool false)],
 zM 79 78,
 bp 80 1 79 true,
 kO 81 17 [.t 80] 79 true,
 bK 82 (.bin .eql) [.t 81,zI 1] 79 true,
 zP 83 .pick [.t 79,.t 82,.c (.bool false)],
 zM 0 83])
 .ret))))))))⟩
def RB:aC:=⟨5,[.tmp 0],
 (.seq (.ops [zK 0 .de])
 (.seq (.ops [zP 1 (.build [.aN,zz,zz,zz,zz,zz,zz,zz,zz,zz,zz,zz,zz,zz,zz,zz,zz,zz,zz,zz,zz,zz,zz,zz,zz,zz,zz,zz,zz,zz,zz,zz,zz,zz,zz,zz,zz,zz,zz,zz,zz,zz,zz,zz,zz,zz,zz,zz,zz,zz,zz,zz,zz,zz,zz,zz,zz,zz,zz,zz,zz,zz,zz,zz,zz] []) [],
 zB 2 1,
 zQ 3 (.build [.de] [(0,1)]) 2,
 zB 4 3,
 zM 0 4])
 .ret))⟩
def RC:aC:=⟨14,[.tmp 4],
 (.seq (.ops [zV 4 0])
 (.seq (.ops [zM 5 0,
 zM 6 1,
 zR 7 (.bin .rem) 5 6,
 zM 0 7])
 (.seq (.seq (.ops [zM 8 0,
 zP 9 (.bin .lss) [.t 8,zI 0]])
 (.cond (.t 9)
 (.ops [zM 10 0,
 zM 11 1,
 zR 12 (.bin .add) 10 11,
 zM 0 12])
 .skip))
 (.seq (.ops [zM 13 0,
 zM 4 13])
 .ret))))⟩
def Oz:aC:=⟨55,[.tmp 6],
 (.seq (.ops [zV 6 0])
 (.seq (.seq (.ops [zM 10 0,
 zM 11 1,
 kY 12 40 10 11,
 zM 7 12])
 (.seq (.ops [zM 13 7,
 zP 14 (.bin .neq) [.t 13,zI 0]])
 (.cond (.t 14)
 (.seq (.ops [zM 15 7,
 zM 6 15])
 .ret)
 .skip)))
 (.seq (.seq (.ops [zM 17 0,
 zM 18 1,
 kY 19 41 17 18,
 zM 16 19,
 zQ 20 (.ext 0) 16,
 zQ 21 (.ext 1) 16,
 zM 8 20,
 zM 9 21])
 (.seq (.ops [zM 22 9])
 (.cond (.t 22)
 (.seq (.ops [zV 6 141])
 .ret)
 .skip)))
 (.seq (.bN [zM 23 0,
 zN 24 23,
 zF 25 24 0,
 zL 26 25,
 zM 27 0,
 zN 28 27,
 zF 29 28 0,
 zL 30 29,
 zN 31 30,
 zF 32 31 0,
 zL 33 32,
 zM 34 1,
 zM 35 2,
 zR 36 (.build [zz,zz] [(0,1),(1,1)]) 34 35,
 ⟨some 37,none,.a (.dF [zz,zz] 1 2 [0]),[.t 36]⟩,
 zA 38 2 16 33 37,
 zN 39 26,
 zF 40 39 0,
 zS 1 [.t 40,.t 38]] [[],[],[],[0,16],[],[],[],[],[],[],[],[],[],[],[],[],[],[],[]])
 (.seq (.bN [zM 41 0,
 zN 42 41,
 zF 43 42 0,
 zL 44 43,
 zM 45 0,
 zN 46 45,
 zF 47 46 0,
 zL 48 47,
 zN 49 48,
 zF 50 49 0,
 zL 51 50,
 zQ 52 .dc 51,
 zP 53 (.bin .sub) [.t 52,zI 1],
 kY 54 42 44 53] [[],[],[],[],[],[],[],[],[],[],[],[],[],[]])
 (.seq (.ops [zV 6 0])
 .ret))))))⟩
def OA:aC:=⟨56,[.tmp 6],
 (.seq (.ops [zV 6 0])
 (.seq (.seq (.ops [zM 10 0,
 zM 11 1,
 kY 12 40 10 11,
 zM 7 12])
 (.seq (.ops [zM 13 7,
 zP 14 (.bin .neq) [.t 13,zI 0]])
 (.cond (.t 14)
 (.seq (.ops [zM 15 7,
 zM 6 15])
 .ret)
 .skip)))
 (.seq (.ops [zM 17 0,
 zM 18 1,
 kY 19 41 17 18,
 zM 16 19,
 zQ 20 (.ext 0) 16,
 zQ 21 (.ext 1) 16,
 zM 8 20,
 zM 9 21])
 (.seq (.block 0 (.seq (.ops [zM 23 9,
 zQ 24 .not 23,
 zM 22 24])
 (.cond (.t 22)
 (.seq (.ops [zV 6 8])
 .ret)
 (.seq (.ops [zM 26 2,
 zM 27 0,
 zN 28 27,
 zF 29 28 0,
 zL 30 29,
 zN 31 30,
 zF 32 31 0,
 zL 33 32,
 zM 34 8,
 zR 35 (.ak 2) 33 34,
 zF 36 35 1,
 zL 37 36,
 zR 38 (.bin .gtr) 26 37,
 zM 25 38])
 (.cond (.t 25)
 (.seq (.ops [zV 6 2])
 .ret)
 .skip)))))
 (.seq (.ops [zM 39 0,
 zN 40 39,
 zF 41 40 0,
 zL 42 41,
 zN 43 42,
 zF 44 43 0,
 zL 45 44,
 zM 46 8,
 zM 47 2,
 zR 48 (.ak 2) 45 46,
 zF 49 48 1,
 zS 1 [.t 49,.t 47]])
 (.seq (.ops [zM 50 0,
 zN 51 50,
 zF 52 51 0,
 zL 53 52,
 zM 54 8,
 kY 55 42 53 54])
 (.seq (.ops [zV 6 0])
 .ret)))))))⟩
def OB:aC:=⟨21,[.tmp 4],
 (.seq (.ops [zK 4 (.bool false)])
 (.seq (.ops [zM 8 0,
 zM 9 1,
 kY 10 41 8 9,
 zM 7 10,
 zQ 11 (.ext 0) 7,
 zQ 12 (.ext 1) 7,
 zM 5 11,
 zM 6 12])
 (.seq (.seq (.ops [zM 13 6])
 (.cond (.t 13)
 (.ops [zM 14 0,
 zN 15 14,
 zF 16 15 0,
 zL 17 16,
 zM 18 5,
 kY 19 43 17 18])
 .skip))
 (.seq (.ops [zM 20 6,
 zM 4 20])
 .ret))))⟩
def OC:aC:=⟨10,[.tmp 2],
 (.seq (.ops [zV 2 0])
 (.seq (.seq (.ops [zM 3 0,
 jP 4 44 3])
 (.cond (.t 4)
 (.seq (.ops [zV 2 0])
 .ret)
 .skip))
 (.seq (.ops [zM 5 0,
 zN 6 5,
 zF 7 6 0,
 zL 8 7,
 jP 9 45 8,
 zM 2 9])
 .ret)))⟩
def OD:aC:=⟨20,[.tmp 2,.tmp 3,.tmp 4],
 (.seq (.ops [zV 2 0,
 zV 3 0,
 zK 4 (.bool false)])
 (.seq (.seq (.ops [zM 6 0,
 jP 7 25 6,
 zM 5 7,
 zQ 8 (.ext 0) 5,
 zQ 9 (.ext 1) 5,
 zQ 10 (.ext 2) 5,
 zM 2 8,
 zM 3 9,
 zM 4 10])
 (.seq (.ops [zM 11 4])
 (.cond (.t 11)
 (.ops [zM 12 0,
 zN 13 12,
 zF 14 13 0,
 zL 15 14,
 ⟨some 16,none,.call,[.c (.func (.func 43) [] []),.t 15,zI 0]⟩])
 .skip)))
 (.seq (.ops [zM 17 2,
 zM 18 3,
 zM 19 4,
 zM 2 17,
 zM 3 18,
 zM 4 19])
 .ret)))⟩
def lZ:AC:=(.seq (.ops [zR 21 (.bin .lss) 20 19])
 (.seq (.cond (.t 21)
 .skip
 (.exit 0))
 (.seq (.block 1 (.seq (.ops [zR 22 (.ak 2) 18 20,
 zO 23 2 22,
 ⟨some 5,none,.a (.alloc [zz,zz]),[]⟩,
 zS 2 [.t 5,.t 23]])
 (.ops [zM 24 2,
 zF 25 5 0,
 zL 26 25,
 ⟨some 27,none,.a (.dF [zz] 1 1 [0]),[.t 26]⟩,
 zA 28 1 8 24 27,
 zM 2 28])))
 (.ops [zP 29 (.bin .add) [.t 20,zI 1],
 zM 20 29]))))
def NU:aC:=⟨31,[.tmp 2],
 (.seq (.ops [zK 2 .aN])
 (.seq (.seq (.ops [zM 6 0,
 jP 7 44 6])
 (.cond (.t 7)
 (.seq (.ops [zK 2 .aN])
 .ret)
 .skip))
 (.seq (.ops [zM 8 0,
 zN 9 8,
 zF 10 9 0,
 zL 11 10,
 zN 12 11,
 zF 13 12 0,
 zL 14 13,
 jP 15 46 14,
 zM 3 15])
 (.seq (.ops [zM 16 3,
 ⟨some 17,none,.call,[.c (.func (.func 47) [] []),.t 16,.c (.func (.func 48) [] [])]⟩])
 (.seq (.seq (.ops [zM 18 3,
 zQ 19 .dc 18,
 zV 20 0])
 (.block 0 (.loop lZ)))
 (.seq (.ops [zM 30 2,
 zM 2 30])
 .ret))))))⟩
def lf:AC:=(.seq (.seq (.ops [zM 11 5,
 zM 12 0,
 zQ 13 .dc 12,
 zR 14 (.bin .lss) 11 13])
 (.cond (.t 14)
 .skip
 (.exit 0)))
 (.seq (.block 1 (.seq (.bN [zM 17 0,
 zM 18 5,
 zR 19 (.ak 1) 17 18,
 zL 20 19,
 zM 21 1,
 zM 22 5,
 zR 23 (.ak 1) 21 22,
 zL 24 23,
 zR 25 (.bin .neq) 20 24] [[],[],[],[],[],[],[],[],[]])
 (.cond (.t 25)
 (.seq (.ops [zK 4 (.bool false)])
 .ret)
 .skip)))
 (.ops [zM 15 5,
 zP 16 (.bin .add) [.t 15,zI 1],
 zM 5 16])))
def RD:aC:=⟨26,[.tmp 4],
 (.seq (.ops [zK 4 (.bool false)])
 (.seq (.seq (.ops [zM 6 0,
 zQ 7 .dc 6,
 zM 8 1,
 zQ 9 .dc 8,
 zR 10 (.bin .neq) 7 9])
 (.cond (.t 10)
 (.seq (.ops [zK 4 (.bool false)])
 .ret)
 .skip))
 (.seq (.seq (.ops [zV 5 0])
 (.block 0 (.loop lf)))
 (.seq (.ops [zK 4 (.bool true)])
 .ret))))⟩
def RE:aC:=⟨3,[.tmp 0],
 (.seq (.ops [zK 0 .de])
 (.seq (.ops [zP 1 (.build [.aN] []) [],
 zB 2 1,
 zM 0 2])
 .ret))⟩
def RF:aC:=⟨82,[.tmp 6],
 (.seq (.ops [zB 5 2,
 zK 6 (.bool false)])
 (.seq (.seq (.ops [zF 13 5 0,
 zL 14 13,
 ⟨some 15,none,.call,[.c (.func (.func 13) [] []),.t 14,zI 4]⟩])
 (.block 0 (.seq (.ops [zP 17 (.bin .eql) [.t 15,zI 0],
 zM 16 17])
 (.cond (.t 16)
 (.seq (.bN [zM 18 0,
 zF 19 5 1,
 zL 20 19,
 zF 21 5 2,
 zL 22 21,
 zW 23 14 18 20 22,
 zM 24 1,
 zF 25 5 1,
 zL 26 25,
 zF 27 5 2,
 zL 28 27,
 zW 29 51 24 26 28,
 zR 30 (.bin .eql) 23 29,
 zM 6 30] [[],[],[],[],[],[],[],[],[0,6],[],[0,6],[],[],[]])
 .ret)
 (.seq (.ops [zP 32 (.bin .eql) [.t 15,zI 1],
 zM 31 32])
 (.cond (.t 31)
 (.seq (.bN [zM 33 0,
 zF 34 5 1,
 zL 35 34,
 zF 36 5 2,
 zL 37 36,
 zW 38 15 33 35 37,
 zM 39 1,
 zF 40 5 1,
 zL 41 40,
 zF 42 5 2,
 zL 43 42,
 zW 44 52 39 41 43,
 zR 45 (.bin .eql) 38 44,
 zM 6 45] [[],[],[],[],[],[],[],[],[0,6],[],[0,6],[],[],[]])
 .ret)
 (.seq (.ops [zP 47 (.bin .eql) [.t 15,zI 2],
 zM 46 47])
 (.cond (.t 46)
 (.seq (.bN [zM 48 0,
 zF 49 5 1,
 zL 50 49,
 kY 51 16 48 50,
 zM 52 1,
 zF 53 5 1,
 zL 54 53,
 kY 55 53 52 54,
 zR 56 (.eq .bool) 51 55,
 zM 6 56] [[],[],[],[],[],[],[0,4],[],[],[]])
 .ret)
 .skip))))))))
 (.seq (.ops [zM 58 0,
 jP 59 18 58,
 zM 57 59,
 zQ 60 (.ext 0) 57,
 zQ 61 (.ext 1) 57,
 zQ 62 (.ext 2) 57,
 zM 7 60,
 zM 8 61,
 zM 9 62])
 (.seq (.ops [zM 64 1,
 jP 65 54 64,
 zM 63 65,
 zQ 66 (.ext 0) 63,
 zQ 67 (.ext 1) 63,
 zQ 68 (.ext 2) 63,
 zM 10 66,
 zM 11 67,
 zM 12 68])
 (.seq (.ops [zM 69 7,
 zM 70 10,
 zR 71 (.bin .eql) 69 70,
 zM 72 71,
 bp 73 8 72 true,
 bp 74 11 72 true,
 bK 75 (.bin .eql) [.t 73,.t 74] 72 true,
 zP 76 .pick [.t 72,.t 75,.c (.bool false)],
 zM 77 76,
 bp 78 9 77 true,
 bp 79 12 77 true,
 bK 80 (.eq .bool) [.t 78,.t 79] 77 true,
 zP 81 .pick [.t 77,.t 80,.c (.bool false)],
 zM 6 81])
 .ret)))))⟩
def RG:aC:=⟨71,[.tmp 6],
 (.seq (.ops [zK 6 (.bool false)])
 (.seq (.ops [zM 18 0,
 jP 19 25 18,
 zM 17 19,
 zQ 20 (.ext 0) 17,
 zQ 21 (.ext 1) 17,
 zQ 22 (.ext 2) 17,
 zM 7 20,
 zM 8 21,
 zM 9 22])
 (.seq (.ops [zM 24 1,
 jP 25 55 24,
 zM 23 25,
 zQ 26 (.ext 0) 23,
 zQ 27 (.ext 1) 23,
 zQ 28 (.ext 2) 23,
 zM 10 26,
 zM 11 27,
 zM 12 28])
 (.seq (.ops [zM 30 0,
 zM 31 2,
 kY 32 26 30 31,
 zM 29 32,
 zQ 33 (.ext 0) 29,
 zQ 34 (.ext 1) 29,
 zM 13 33,
 zM 14 34])
 (.seq (.ops [zM 36 1,
 zM 37 2,
 kY 38 56 36 37,
 zM 35 38,
 zQ 39 (.ext 0) 35,
 zQ 40 (.ext 1) 35,
 zM 15 39,
 zM 16 40])
 (.seq (.ops [zM 41 7,
 zM 42 10,
 zR 43 (.bin .eql) 41 42,
 zM 44 43,
 bp 45 8 44 true,
 bp 46 11 44 true,
 bK 47 (.bin .eql) [.t 45,.t 46] 44 true,
 zP 48 .pick [.t 44,.t 47,.c (.bool false)],
 zM 49 48,
 bp 50 9 49 true,
 bp 51 12 49 true,
 bK 52 (.eq .bool) [.t 50,.t 51] 49 true,
 zP 53 .pick [.t 49,.t 52,.c (.bool false)],
 zM 54 53,
 bp 55 13 54 true,
 bp 56 15 54 true,
 bK 57 (.bin .eql) [.t 55,.t 56] 54 true,
 zP 58 .pick [.t 54,.t 57,.c (.bool false)],
 zM 59 58,
 bp 60 14 59 true,
 bp 61 16 59 true,
 bK 62 (.eq .bool) [.t 60,.t 61] 59 true,
 zP 63 .pick [.t 59,.t 62,.c (.bool false)],
 zM 64 63,
 bp 65 0 64 true,
 kO 66 17 [.t 65] 64 true,
 bp 67 1 64 true,
 kO 68 57 [.t 67] 64 true,
 bK 69 (.bin .eql) [.t 66,.t 68] 64 true,
 zP 70 .pick [.t 64,.t 69,.c (.bool false)],
 zM 6 70])
 .ret))))))⟩
def gx:AC:=(.seq (.seq (.ops [zM 5 4,
 zM 6 0,
 zN 7 6,
 zF 8 7 0,
 zL 9 8,
 zQ 10 .dc 9,
 zR 11 (.bin .lss) 5 10])
 (.cond (.t 11)
 .skip
 (.exit 0)))
 (.seq (.block 1 (.ops [zM 14 3,
 zM 15 0,
 zN 16 15,
 zF 17 16 0,
 zL 18 17,
 zM 19 4,
 zR 20 (.ak 2) 18 19,
 zF 21 20 0,
 zL 22 21,
 ⟨some 23,none,.a (.dF [zz] 1 1 [0]),[.t 22]⟩,
 zA 24 1 8 14 23,
 zM 3 24]))
 (.ops [zM 12 4,
 zP 13 (.bin .add) [.t 12,zI 1],
 zM 4 13])))
def RH:aC:=⟨26,[.tmp 2],
 (.seq (.ops [zK 2 .aN])
 (.seq (.ops [zK 3 .aN])
 (.seq (.seq (.ops [zV 4 0])
 (.block 0 (.loop gx)))
 (.seq (.ops [zM 25 3,
 zM 2 25])
 .ret))))⟩
def OE:aC:=⟨38,[.tmp 2,.tmp 3,.tmp 4],
 (.seq (.ops [zV 2 0,
 zV 3 0,
 zK 4 (.bool false)])
 (.seq (.seq (.ops [zM 5 0,
 jP 6 44 5,
 zM 7 6,
 bp 8 0 7 false,
 Aa 9 8 7 false,
 rq 10 9 0 7 false,
 kZ 11 10 7 false,
 Aa 12 11 7 false,
 rq 13 12 0 7 false,
 kZ 14 13 7 false,
 bK 15 .dc [.t 14] 7 false,
 bK 16 (.bin .eql) [.t 15,zI 0] 7 false,
 zP 17 .pick [.t 7,.c (.bool true),.t 16]])
 (.cond (.t 17)
 (.seq (.ops [zV 2 0,
 zV 3 0,
 zK 4 (.bool false)])
 .ret)
 .skip))
 (.seq (.bN [zM 18 0,
 zN 19 18,
 zF 20 19 0,
 zL 21 20,
 zN 22 21,
 zF 23 22 0,
 zL 24 23,
 zP 25 (.ak 2) [.t 24,zI 0],
 zF 26 25 0,
 zL 27 26,
 zM 28 0,
 zN 29 28,
 zF 30 29 0,
 zL 31 30,
 zN 32 31,
 zF 33 32 0,
 zL 34 33,
 zP 35 (.ak 2) [.t 34,zI 0],
 zF 36 35 1,
 zL 37 36,
 zM 2 27,
 zM 3 37,
 zK 4 (.bool true)] [[],[],[],[],[],[],[],[],[],[],[],[],[],[],[],[],[],[],[],[],[],[],[]])
 .ret)))⟩
def OF:aC:=⟨26,[.tmp 4,.tmp 5],
 (.seq (.ops [zV 4 0,
 zK 5 (.bool false)])
 (.seq (.ops [zM 8 0,
 zM 9 1,
 kY 10 41 8 9,
 zM 7 10,
 zQ 11 (.ext 0) 7,
 zQ 12 (.ext 1) 7,
 zM 6 11,
 zM 5 12])
 (.seq (.seq (.ops [zM 13 5,
 zQ 14 .not 13])
 (.cond (.t 14)
 (.seq (.ops [zV 4 0,
 zK 5 (.bool false)])
 .ret)
 .skip))
 (.seq (.ops [zM 15 0,
 zN 16 15,
 zF 17 16 0,
 zL 18 17,
 zN 19 18,
 zF 20 19 0,
 zL 21 20,
 zM 22 6,
 zR 23 (.ak 2) 21 22,
 zF 24 23 1,
 zL 25 24,
 zM 4 25,
 zK 5 (.bool true)])
 .ret))))⟩
def RI:aC:=⟨14,[.tmp 2,.tmp 3],
 (.seq (.ops [zK 2 .de,
 zV 3 0])
 (.seq (.seq (.ops [zM 4 0,
 zP 5 (.bin .lss) [.t 4,zI 0],
 zM 6 5,
 bp 7 0 6 false,
 bK 8 (.bin .gtr) [.t 7,zI 4] 6 false,
 zP 9 .pick [.t 6,.c (.bool true),.t 8]])
 (.cond (.t 9)
 (.seq (.ops [zK 2 .de,
 zV 3 2])
 .ret)
 .skip))
 (.seq (.ops [IV 10 12,
 zM 11 0,
 zR 12 (.build [.de,zz] [(0,1),(1,1)]) 10 11,
 zB 13 12,
 zM 2 13,
 zV 3 0])
 .ret)))⟩
def iZ:AC:=(.seq (.seq (.ops [zM 15 5,
 zM 16 0,
 zR 17 (.bin .lss) 15 16])
 (.cond (.t 17)
 .skip
 (.exit 0)))
 (.seq (.block 1 (.ops [zM 20 4,
 zM 21 4,
 zN 22 21,
 zF 23 22 0,
 zL 24 23,
 ⟨some 25,none,.a (.dF [zz] 1 1 [0]),[zI (-1)]⟩,
 zA 26 1 8 24 25,
 zN 27 20,
 zF 28 27 0,
 zS 1 [.t 28,.t 26]]))
 (.ops [zM 18 5,
 zP 19 (.bin .add) [.t 18,zI 1],
 zM 5 19])))
def RJ:aC:=⟨30,[.tmp 2,.tmp 3],
 (.seq (.ops [zK 2 .de,
 zV 3 0])
 (.seq (.seq (.ops [zM 6 0,
 zP 7 (.bin .lss) [.t 6,zI 0],
 zM 8 7,
 bp 9 0 8 false,
 bK 10 (.bin .gtr) [.t 9,zI 4] 8 false,
 zP 11 .pick [.t 8,.c (.bool true),.t 10]])
 (.cond (.t 11)
 (.seq (.ops [zK 2 .de,
 zV 3 2])
 .ret)
 .skip))
 (.seq (.ops [⟨some 12,none,.a (.dF [zz] 0 1 []),[]⟩,
 zQ 13 (.build [.aN] [(0,1)]) 12,
 zB 14 13,
 zM 4 14])
 (.seq (.seq (.ops [zV 5 0])
 (.block 0 (.loop iZ)))
 (.seq (.ops [zM 29 4,
 zM 2 29,
 zV 3 0])
 .ret)))))⟩
def OG:aC:=⟨35,[.tmp 6],
 (.seq (.ops [zV 6 0])
 (.seq (.block 0 (.seq (.ops [zM 8 0,
 jP 9 58 8,
 zM 7 9])
 (.cond (.t 7)
 (.seq (.ops [zV 6 1])
 .ret)
 (.seq (.ops [zM 11 1,
 zP 12 (.bin .lss) [.t 11,zI 0],
 zM 13 12,
 bp 14 1 13 false,
 bp 15 0 13 false,
 Aa 16 15 13 false,
 rq 17 16 1 13 false,
 kZ 18 17 13 false,
 bK 19 (.bin .geq) [.t 14,.t 18] 13 false,
 zP 20 .pick [.t 13,.c (.bool true),.t 19],
 zM 10 20])
 (.cond (.t 10)
 (.seq (.ops [zV 6 9])
 .ret)
 (.seq (.ops [zM 22 2,
 zP 23 (.bin .lss) [.t 22,zI 0],
 zM 24 23,
 bp 25 2 24 false,
 bK 26 (.bin .gtr) [.t 25,zI 1099511627840] 24 false,
 zP 27 .pick [.t 24,.c (.bool true),.t 26],
 zM 21 27])
 (.cond (.t 21)
 (.seq (.ops [zV 6 2])
 .ret)
 .skip)))))))
 (.seq (.ops [zM 28 0,
 zN 29 28,
 zF 30 29 0,
 zL 31 30,
 zM 32 1,
 zM 33 2,
 zW 34 14 31 32 33,
 zM 6 34])
 .ret)))⟩
def RK:aC:=⟨34,[.tmp 6],
 (.seq (.ops [zV 6 0])
 (.seq (.seq (.ops [zM 7 1,
 zP 8 (.bin .lss) [.t 7,zI 0],
 zM 9 8,
 bp 10 1 9 false,
 bp 11 0 9 false,
 Aa 12 11 9 false,
 rq 13 12 0 9 false,
 kZ 14 13 9 false,
 bK 15 .dc [.t 14] 9 false,
 bK 16 (.bin .geq) [.t 10,.t 15] 9 false,
 zP 17 .pick [.t 9,.c (.bool true),.t 16]])
 (.cond (.t 17)
 (.seq (.ops [zV 6 9])
 .ret)
 .skip))
 (.seq (.seq (.ops [zM 18 2,
 zP 19 (.bin .lss) [.t 18,zI 0],
 zM 20 19,
 bp 21 2 20 false,
 bK 22 (.bin .gtr) [.t 21,zI 1099511627840] 20 false,
 zP 23 .pick [.t 20,.c (.bool true),.t 22]])
 (.cond (.t 23)
 (.seq (.ops [zV 6 2])
 .ret)
 .skip))
 (.seq (.seq (.ops [zM 24 0,
 zM 25 1,
 kY 26 59 24 25])
 (.cond (.t 26)
 (.seq (.ops [zV 6 141])
 .ret)
 .skip))
 (.seq (.ops [zM 27 0,
 zN 28 27,
 zF 29 28 0,
 zL 30 29,
 zM 31 1,
 zM 32 2,
 zR 33 (.ak 1) 30 31,
 zS 1 [.t 33,.t 32]])
 (.seq (.ops [zV 6 0])
 .ret))))))⟩
def OH:aC:=⟨16,[.tmp 4],
 (.seq (.ops [zK 4 (.bool false)])
 (.seq (.ops [zM 5 0,
 jP 6 58 5,
 zQ 7 .not 6,
 zM 8 7,
 bp 9 0 8 true,
 Aa 10 9 8 true,
 rq 11 10 0 8 true,
 kZ 12 11 8 true,
 bp 13 1 8 true,
 kO 14 16 [.t 12,.t 13] 8 true,
 zP 15 .pick [.t 8,.t 14,.c (.bool false)],
 zM 4 15])
 .ret))⟩
def RL:aC:=⟨15,[.tmp 4],
 (.seq (.ops [zK 4 (.bool false)])
 (.seq (.seq (.ops [zM 5 0,
 zM 6 1,
 kY 7 59 5 6,
 zQ 8 .not 7])
 (.cond (.t 8)
 (.seq (.ops [zK 4 (.bool false)])
 .ret)
 .skip))
 (.seq (.ops [zM 9 0,
 zN 10 9,
 zF 11 10 0,
 zL 12 11,
 zM 13 1,
 zR 14 (.ak 1) 12 13,
 zS 1 [.t 14,zI (-1)]])
 (.seq (.ops [zK 4 (.bool true)])
 .ret))))⟩
def jV:AC:=(.seq (.ops [zR 13 (.bin .lss) 12 11])
 (.seq (.cond (.t 13)
 .skip
 (.exit 0))
 (.seq (.block 1 (.seq (.ops [zR 14 (.ak 1) 10 12,
 zL 15 14,
 zM 6 15])
 (.seq (.ops [zM 17 0,
 zM 18 6,
 kY 19 39 17 18,
 zM 16 19,
 zQ 20 (.ext 0) 16,
 zQ 21 (.ext 1) 16,
 zM 7 20,
 zM 8 21])
 (.seq (.ops [zM 22 7,
 zM 23 1,
 zR 24 (.bin .leq) 22 23])
 (.cond (.t 24)
 (.ops [zM 25 4,
 zM 26 6,
 ⟨some 27,none,.a (.dF [zz] 1 1 [0]),[.t 26]⟩,
 zA 28 1 8 25 27,
 zM 4 28])
 .skip)))))
 (.ops [zP 29 (.bin .add) [.t 12,zI 1],
 zM 12 29]))))
def OI:aC:=⟨31,[.tmp 4],
 (.seq (.ops [zK 4 .aN])
 (.seq (.seq (.ops [zM 9 0,
 jP 10 38 9,
 zQ 11 .dc 10,
 zV 12 0])
 (.block 0 (.loop jV)))
 (.seq (.ops [zM 30 4,
 zM 4 30])
 .ret)))⟩
def fm:AC:=(.seq (.seq (.ops [zM 10 7,
 zM 11 6,
 zQ 12 .dc 11,
 zR 13 (.bin .lss) 10 12])
 (.cond (.t 13)
 .skip
 (.exit 0)))
 (.seq (.block 1 (.seq (.bN [zM 16 0,
 zN 17 16,
 zF 18 17 0,
 zL 19 18,
 zM 20 6,
 zM 21 7,
 zR 22 (.ak 1) 20 21,
 zL 23 22,
 zR 24 (.ak 1) 19 23,
 zL 25 24,
 zM 26 1,
 zR 27 (.bin .leq) 25 26] [[],[],[],[],[],[],[],[],[],[],[],[]])
 (.cond (.t 27)
 (.ops [zM 28 5,
 zM 29 6,
 zM 30 7,
 zR 31 (.ak 1) 29 30,
 zL 32 31,
 ⟨some 33,none,.a (.dF [zz] 1 1 [0]),[.t 32]⟩,
 zA 34 1 8 28 33,
 zM 5 34])
 .skip)))
 (.ops [zM 14 7,
 zP 15 (.bin .add) [.t 14,zI 1],
 zM 7 15])))
def RM:aC:=⟨36,[.tmp 4],
 (.seq (.ops [zK 4 .aN])
 (.seq (.ops [zK 5 .aN])
 (.seq (.ops [zM 8 0,
 jP 9 60 8,
 zM 6 9])
 (.seq (.seq (.ops [zV 7 0])
 (.block 0 (.loop fm)))
 (.seq (.ops [zM 35 5,
 zM 4 35])
 .ret)))))⟩
def iM:AC:=(.seq (.seq (.ops [zM 52 12,
 zM 53 11,
 zQ 54 .dc 53,
 zR 55 (.bin .lss) 52 54])
 (.cond (.t 55)
 .skip
 (.exit 0)))
 (.seq (.block 1 (.ops [zM 58 11,
 zM 59 12,
 zR 60 (.ak 1) 58 59,
 zS 1 [.t 60,zI (-1)]]))
 (.ops [zM 56 12,
 zP 57 (.bin .add) [.t 56,zI 1],
 zM 12 57])))
def iN:AC:=(.seq (.seq (.ops [zM 61 13,
 zP 62 (.bin .lss) [.t 61,zI 6]])
 (.cond (.t 62)
 .skip
 (.exit 2)))
 (.seq (.block 3 (.seq (.ops [zM 66 0,
 zM 67 13,
 kY 68 39 66 67,
 zM 65 68,
 zQ 69 (.ext 0) 65,
 zQ 70 (.ext 1) 65,
 zM 14 69,
 zM 15 70])
 (.seq (.ops [zM 72 1,
 zM 73 13,
 kY 74 62 72 73,
 zM 71 74,
 zQ 75 (.ext 0) 71,
 zQ 76 (.ext 1) 71,
 zM 16 75,
 zM 17 76])
 (.seq (.ops [zM 77 14,
 zM 78 16,
 zR 79 (.bin .neq) 77 78,
 zM 80 79,
 bp 81 15 80 false,
 bp 82 17 80 false,
 bK 83 (.neq .bool) [.t 81,.t 82] 80 false,
 zP 84 .pick [.t 80,.c (.bool true),.t 83]])
 (.cond (.t 84)
 (.seq (.ops [zK 4 (.bool false)])
 .ret)
 .skip)))))
 (.ops [zM 63 13,
 zP 64 (.bin .add) [.t 63,zI 1],
 zM 13 64])))
def RN:aC:=⟨85,[.tmp 4],
 (.seq (.ops [zK 4 (.bool false)])
 (.seq (.ops [zM 19 0,
 jP 20 37 19,
 zM 18 20,
 zQ 21 (.ext 0) 18,
 zQ 22 (.ext 1) 18,
 zQ 23 (.ext 2) 18,
 zM 5 21,
 zM 6 22,
 zM 7 23])
 (.seq (.ops [zM 25 1,
 jP 26 61 25,
 zM 24 26,
 zQ 27 (.ext 0) 24,
 zQ 28 (.ext 1) 24,
 zQ 29 (.ext 2) 24,
 zM 8 27,
 zM 9 28,
 zM 10 29])
 (.seq (.ops [zM 30 0,
 jP 31 38 30,
 zM 11 31])
 (.seq (.seq (.ops [zM 32 5,
 zM 33 8,
 zR 34 (.bin .neq) 32 33,
 zM 35 34,
 bp 36 6 35 false,
 bp 37 9 35 false,
 bK 38 (.bin .neq) [.t 36,.t 37] 35 false,
 zP 39 .pick [.t 35,.c (.bool true),.t 38],
 zM 40 39,
 bp 41 7 40 false,
 bp 42 10 40 false,
 bK 43 (.neq .bool) [.t 41,.t 42] 40 false,
 zP 44 .pick [.t 40,.c (.bool true),.t 43],
 zM 45 44,
 bp 46 11 45 false,
 bp 47 1 45 false,
 kO 48 60 [.t 47] 45 false,
 kO 49 20 [.t 46,.t 48] 45 false,
 bK 50 .not [.t 49] 45 false,
 zP 51 .pick [.t 45,.c (.bool true),.t 50]])
 (.cond (.t 51)
 (.seq (.ops [zK 4 (.bool false)])
 .ret)
 .skip))
 (.seq (.seq (.ops [zV 12 0])
 (.block 0 (.loop iM)))
 (.seq (.seq (.ops [zV 13 (-1)])
 (.block 2 (.loop iN)))
 (.seq (.ops [zK 4 (.bool true)])
 .ret))))))))⟩
def Tc:aC:=⟨79,[.tmp 0],
 (.seq (.ops [zK 0 (.bool false)])
 (.seq (.ops [zC 7 27 [zI 3],
 zM 6 7,
 zQ 8 (.ext 0) 6,
 zQ 9 (.ext 1) 6,
 zM 1 8,
 zM 2 9])
 (.seq (.seq (.ops [zM 10 2,
 zP 11 (.bin .neq) [.t 10,zI 0],
 zM 12 11,
 bp 13 1 12 false,
 kO 14 29 [.t 13,zI 2,zI 9] 12 false,
 bK 15 (.bin .neq) [.t 14,zI 0] 12 false,
 zP 16 .pick [.t 12,.c (.bool true),.t 15],
 zM 17 16,
 bp 18 1 17 false,
 kO 19 29 [.t 18,zI 0,zI 9] 17 false,
 bK 20 (.bin .neq) [.t 19,zI 0] 17 false,
 zP 21 .pick [.t 17,.c (.bool true),.t 20],
 zM 22 21,
 bp 23 1 22 false,
 kO 24 29 [.t 23,zI 1,zI 4] 22 false,
 bK 25 (.bin .neq) [.t 24,zI 0] 22 false,
 zP 26 .pick [.t 22,.c (.bool true),.t 25],
 zM 27 26,
 bp 28 1 27 false,
 kO 29 38 [.t 28] 27 false,
 ⟨some 30,some (27,false),.a (.dF [zz] 3 1 [0,1,2]),[zI 1,zI 0,zI 2]⟩,
 kO 31 20 [.t 29,.t 30] 27 false,
 bK 32 .not [.t 31] 27 false,
 zP 33 .pick [.t 27,.c (.bool true),.t 32]])
 (.cond (.t 33)
 (.seq (.ops [zK 0 (.bool false)])
 .ret)
 .skip))
 (.seq (.ops [zM 35 1,
 jP 36 37 35,
 zM 34 36,
 zQ 37 (.ext 0) 34,
 zQ 38 (.ext 1) 34,
 zQ 39 (.ext 2) 34,
 zM 3 37,
 zM 4 38,
 zM 5 39])
 (.seq (.seq (.ops [zM 40 3,
 zP 41 (.bin .neq) [.t 40,zI 1],
 zM 42 41,
 bp 43 4 42 false,
 bK 44 (.bin .neq) [.t 43,zI 4] 42 false,
 zP 45 .pick [.t 42,.c (.bool true),.t 44],
 zM 46 45,
 bp 47 5 46 false,
 bK 48 .not [.t 47] 46 false,
 zP 49 .pick [.t 46,.c (.bool true),.t 48],
 zM 50 49,
 bp 51 1 50 false,
 kO 52 29 [.t 51,zI 1,zI 5] 50 false,
 bK 53 (.bin .neq) [.t 52,zI 141] 50 false,
 zP 54 .pick [.t 50,.c (.bool true),.t 53],
 zM 55 54,
 bp 56 1 55 false,
 kO 57 29 [.t 56,zI 3,zI 5] 55 false,
 bK 58 (.bin .neq) [.t 57,zI 9] 55 false,
 zP 59 .pick [.t 55,.c (.bool true),.t 58],
 zM 60 59,
 bp 61 1 60 false,
 kO 62 31 [.t 61,zI 0] 60 false,
 bK 63 .not [.t 62] 60 false,
 zP 64 .pick [.t 60,.c (.bool true),.t 63],
 zM 65 64,
 bp 66 1 65 false,
 kO 67 31 [.t 66,zI 0] 65 false,
 zP 68 .pick [.t 65,.c (.bool true),.t 67]])
 (.cond (.t 68)
 (.seq (.ops [zK 0 (.bool false)])
 .ret)
 .skip))
 (.seq (.ops [zM 69 1,
 zC 70 33 [.t 69,zI 8],
 ⟨some 71,none,.a (.dF [zz] 1 1 [0]),[zI 1]⟩,
 kY 72 20 70 71,
 zM 73 72,
 bp 74 1 73 true,
 kO 75 33 [.t 74,zI 9] 73 true,
 ⟨some 76,some (73,true),.a (.dF [zz] 2 1 [0,1]),[zI 1,zI 2]⟩,
 kO 77 20 [.t 75,.t 76] 73 true,
 zP 78 .pick [.t 73,.t 77,.c (.bool false)],
 zM 0 78])
 .ret))))))⟩
def OJ:aC:=⟨15,[.tmp 2,.tmp 3,.tmp 4],
 (.seq (.ops [zV 2 0,
 zV 3 0,
 zK 4 (.bool false)])
 (.seq (.seq (.ops [zM 5 0,
 jP 6 58 5])
 (.cond (.t 6)
 (.seq (.ops [zV 2 0,
 zV 3 0,
 zK 4 (.bool false)])
 .ret)
 .skip))
 (.seq (.ops [zM 7 0,
 zN 8 7,
 zF 9 8 0,
 zL 10 9,
 jP 11 25 10,
 zQ 12 (.ext 0) 11,
 zQ 13 (.ext 1) 11,
 zQ 14 (.ext 2) 11,
 zM 2 12,
 zM 3 13,
 zM 4 14])
 .ret)))⟩
def OK:aC:=⟨10,[.tmp 2],
 (.seq (.ops [zK 2 .aN])
 (.seq (.seq (.ops [zM 3 0,
 jP 4 58 3])
 (.cond (.t 4)
 (.seq (.ops [zK 2 .aN])
 .ret)
 .skip))
 (.seq (.ops [zM 5 0,
 zN 6 5,
 zF 7 6 0,
 zL 8 7,
 jP 9 19 8,
 zM 2 9])
 .ret)))⟩
def OL:aC:=⟨16,[.tmp 4,.tmp 5],
 (.seq (.ops [zV 4 0,
 zK 5 (.bool false)])
 (.seq (.seq (.ops [zM 6 0,
 jP 7 58 6])
 (.cond (.t 7)
 (.seq (.ops [zV 4 0,
 zK 5 (.bool false)])
 .ret)
 .skip))
 (.seq (.ops [zM 8 0,
 zN 9 8,
 zF 10 9 0,
 zL 11 10,
 zM 12 1,
 kY 13 26 11 12,
 zQ 14 (.ext 0) 13,
 zQ 15 (.ext 1) 13,
 zM 4 14,
 zM 5 15])
 .ret)))⟩
def OM:aC:=⟨15,[.tmp 4],
 (.seq (.ops [zV 4 0])
 (.seq (.block 0 (.seq (.ops [zM 6 0,
 jP 7 44 6,
 zM 5 7])
 (.cond (.t 5)
 (.seq (.ops [zV 4 1])
 .ret)
 (.seq (.ops [zM 9 1,
 zP 10 (.bin .lss) [.t 9,zI 0],
 zM 11 10,
 bp 12 1 11 false,
 bK 13 (.bin .geq) [.t 12,zI 64] 11 false,
 zP 14 .pick [.t 11,.c (.bool true),.t 13],
 zM 8 14])
 (.cond (.t 8)
 (.seq (.ops [zV 4 9])
 .ret)
 .skip)))))
 (.seq (.ops [zV 4 0])
 .ret)))⟩
def ON:aC:=⟨30,[.tmp 4,.tmp 5],
 (.seq (.ops [zV 4 0,
 zK 5 (.bool false)])
 (.seq (.seq (.ops [zM 6 0,
 zM 7 1,
 kY 8 40 6 7,
 zP 9 (.bin .neq) [.t 8,zI 0]])
 (.cond (.t 9)
 (.seq (.ops [zV 4 0,
 zK 5 (.bool false)])
 .ret)
 .skip))
 (.seq (.bN [zM 10 0,
 zN 11 10,
 zF 12 11 0,
 zL 13 12,
 zM 14 1,
 zN 15 13,
 zF 16 15 1,
 zR 17 (.bV 1 64) 16 14,
 zL 18 17,
 zP 19 (.bin .sub) [.t 18,zI 1],
 zM 20 0,
 zN 21 20,
 zF 22 21 0,
 zL 23 22,
 zM 24 1,
 zN 25 23,
 zF 26 25 1,
 zR 27 (.bV 1 64) 26 24,
 zL 28 27,
 zP 29 (.bin .gtr) [.t 28,zI 0],
 zM 4 19,
 zM 5 29] [[],[],[],[],[],[],[],[],[],[],[],[],[],[],[],[],[],[],[],[],[],[]])
 .ret)))⟩
def lg:AC:=(.seq (.seq (.bN [zM 12 1,
 zP 13 (.bin .gtr) [.t 12,zI 0],
 zM 14 13,
 ⟨some 15,some (14,true),.r (.aO 2),[.t 4]⟩,
 bp 16 0 14 true,
 Aa 17 16 14 true,
 rq 18 17 0 14 true,
 kZ 19 18 14 true,
 bp 20 1 14 true,
 bK 21 (.bin .sub) [.t 20,zI 1] 14 true,
 bK 22 (.bin .quo) [.t 21,zI 2] 14 true,
 bK 23 (.ak 2) [.t 19,.t 22] 14 true,
 ⟨some 24,some (14,true),.r (.aO 2),[.t 23]⟩,
 kO 25 63 [.t 15,.t 24] 14 true,
 zP 26 .pick [.t 14,.t 25,.c (.bool false)]] [[],[],[],[],[],[],[],[],[],[],[],[],[],[],[]])
 (.cond (.t 26)
 .skip
 (.exit 0)))
 (.block 1 (.seq (.ops [zM 27 0,
 zM 28 1,
 zM 29 0,
 zN 30 29,
 zF 31 30 0,
 zL 32 31,
 zM 33 1,
 zP 34 (.bin .sub) [.t 33,zI 1],
 zP 35 (.bin .quo) [.t 34,zI 2],
 zR 36 (.ak 2) 32 35,
 zO 37 2 36,
 zW 38 64 27 28 37])
 (.ops [zM 39 1,
 zP 40 (.bin .sub) [.t 39,zI 1],
 zP 41 (.bin .quo) [.t 40,zI 2],
 zM 1 41]))))
def RO:aC:=⟨46,[],
 (.seq (.ops [zM 5 0,
 zN 6 5,
 zF 7 6 0,
 zL 8 7,
 zM 9 1,
 zR 10 (.ak 2) 8 9,
 zO 11 2 10,
 ⟨some 4,none,.a (.alloc [zz,zz]),[]⟩,
 zS 2 [.t 4,.t 11]])
 (.seq (.block 0 (.loop lg))
 (.ops [zM 42 0,
 zM 43 1,
 zO 44 2 4,
 zW 45 64 42 43 44])))⟩
def RP:aC:=⟨60,[],
 (.seq (.ops [zM 6 0,
 zN 7 6,
 zF 8 7 0,
 zL 9 8,
 zQ 10 .dc 9,
 zP 11 (.bin .sub) [.t 10,zI 1],
 zM 4 11])
 (.seq (.ops [zM 12 0,
 zN 13 12,
 zF 14 13 0,
 zL 15 14,
 zM 16 4,
 zR 17 (.ak 2) 15 16,
 zO 18 2 17,
 ⟨some 5,none,.a (.alloc [zz,zz]),[]⟩,
 zS 2 [.t 5,.t 18]])
 (.seq (.bN [zM 19 0,
 zM 20 0,
 zN 21 20,
 zF 22 21 0,
 zL 23 22,
 zM 24 1,
 zR 25 (.ak 2) 23 24,
 zF 26 25 0,
 zL 27 26,
 zN 28 19,
 zF 29 28 1,
 zR 30 (.bV 1 64) 29 27,
 zS 1 [.t 30,zI 0]] [[],[],[],[],[],[],[],[],[],[],[],[],[]])
 (.seq (.ops [zM 31 0,
 zM 32 0,
 zN 33 32,
 zF 34 33 0,
 zL 35 34,
 zM 36 4,
 zR 37 (.slice 2 false true false) 35 36,
 zN 38 31,
 zF 39 38 0,
 zS 1 [.t 39,.t 37]])
 (.seq (.seq (.ops [zM 40 1,
 zM 41 4,
 zR 42 (.bin .eql) 40 41])
 (.cond (.t 42)
 .ret
 .skip))
 (.seq (.ops [zM 43 0,
 zM 44 1,
 zO 45 2 5,
 zW 46 64 43 44 45])
 (.seq (.ops [zM 47 0,
 zM 48 1,
 kY 49 42 47 48])
 (.bN [zM 50 0,
 zM 51 0,
 zF 52 5 0,
 zL 53 52,
 zN 54 51,
 zF 55 54 1,
 zR 56 (.bV 1 64) 55 53,
 zL 57 56,
 zP 58 (.bin .sub) [.t 57,zI 1],
 kY 59 65 50 58] [[],[],[],[],[],[],[],[],[],[]]))))))))⟩
def NV:aC:=⟨12,[.tmp 2],
 (.seq (.ops [zK 2 (.bool false)])
 (.seq (.ops [zM 3 0,
 zP 4 (.eq .iW) [.t 3,.c .de],
 zM 5 4,
 bp 6 0 5 false,
 Aa 7 6 5 false,
 rq 8 7 0 5 false,
 kZ 9 8 5 false,
 bK 10 (.eq .iW) [.t 9,.c .de] 5 false,
 zP 11 .pick [.t 5,.c (.bool true),.t 10],
 zM 2 11])
 .ret))⟩
def RQ:aC:=⟨10,[.tmp 2],
 (.seq (.ops [zV 2 0])
 (.seq (.seq (.ops [zM 3 0,
 zP 4 (.eq .iW) [.t 3,.c .de]])
 (.cond (.t 4)
 (.seq (.ops [zV 2 0])
 .ret)
 .skip))
 (.seq (.ops [zM 5 0,
 zN 6 5,
 zF 7 6 0,
 zL 8 7,
 zQ 9 .dc 8,
 zM 2 9])
 .ret)))⟩
def OO:aC:=⟨8,[.tmp 2],
 (.seq (.ops [zK 2 .aN])
 (.seq (.seq (.ops [zM 3 0,
 zP 4 (.eq .mW) [.t 3,.c .aN]])
 (.cond (.t 4)
 (.seq (.ops [zK 2 .aN])
 .ret)
 .skip))
 (.seq (.ops [⟨some 5,none,.a (.dF [zz,zz] 0 2 []),[]⟩,
 zM 6 0,
 zA 7 2 16 5 6,
 zM 2 7])
 .ret)))⟩
def NW:aC:=⟨14,[],
 (.seq (.ops [zM 5 0,
 zQ 6 .dc 5,
 zM 4 6])
 (.ops [zM 7 0,
 zM 8 4,
 zM 9 4,
 zQ 10 (.conv .u64) 9,
 jP 11 67 10,
 zM 12 1,
 ⟨some 13,none,.call,[.c (.func (.func 66) [] []),.t 7,zI 0,.t 8,.t 11,.t 12]⟩]))⟩
def RR:aC:=⟨17,[.tmp 4],
 (.seq (.ops [zB 2 0,
 zB 3 1,
 zV 4 0])
 (.seq (.bN [zF 5 2 1,
 zL 6 5,
 zF 7 3 1,
 zL 8 7,
 kY 9 50 6 8,
 zF 10 2 0,
 zL 11 10,
 zF 12 3 0,
 zL 13 12,
 kY 14 50 11 13,
 ⟨some 15,none,.a (.dF [zz] 2 1 [0,1]),[.t 9,.t 14]⟩,
 jP 16 49 15,
 zM 4 16] [[],[],[],[],[],[],[0,5],[],[0,5],[],[],[],[]])
 .ret))⟩
def uN:AC:=(.seq (.ops [zR 9 (.bin .lss) 8 7])
 (.seq (.cond (.t 9)
 .skip
 (.exit 0))
 (.seq (.block 1 (.seq (.ops [zR 10 (.ak 1) 6 8,
 zL 11 10,
 zM 5 11])
 (.seq (.ops [zM 12 5,
 zM 13 3,
 zR 14 (.bin .neq) 12 13])
 (.cond (.t 14)
 (.seq (.ops [zM 15 5,
 zM 2 15])
 .ret)
 .skip))))
 (.ops [zP 16 (.bin .add) [.t 8,zI 1],
 zM 8 16]))))
def RT:aC:=⟨18,[.tmp 2],
 (.seq (.ops [zV 2 0])
 (.seq (.ops [zV 3 0])
 (.seq (.seq (.ops [zM 6 0,
 zQ 7 .dc 6,
 zV 8 0])
 (.block 0 (.loop uN)))
 (.seq (.ops [zM 17 3,
 zM 2 17])
 .ret))))⟩
def RU:aC:=⟨20,[.tmp 4],
 (.seq (.ops [zV 4 0])
 (.seq (.ops [zM 7 0,
 jP 8 68 7,
 zM 5 8])
 (.seq (.ops [zM 9 1,
 jP 10 68 9,
 zM 6 10])
 (.seq (.seq (.ops [zM 11 5])
 (.cond (.t 11)
 (.seq (.seq (.ops [zM 12 6])
 (.cond (.t 12)
 (.seq (.ops [zV 4 0])
 .ret)
 .skip))
 (.seq (.ops [zV 4 (-1)])
 .ret))
 .skip))
 (.seq (.seq (.ops [zM 13 6])
 (.cond (.t 13)
 (.seq (.ops [zV 4 1])
 .ret)
 .skip))
 (.seq (.seq (.ops [zM 14 0,
 zM 15 1,
 zR 16 (.bin .lss) 14 15])
 (.cond (.t 16)
 (.seq (.ops [zV 4 (-1)])
 .ret)
 .skip))
 (.seq (.seq (.ops [zM 17 0,
 zM 18 1,
 zR 19 (.bin .gtr) 17 18])
 (.cond (.t 19)
 (.seq (.ops [zV 4 1])
 .ret)
 .skip))
 (.seq (.ops [zV 4 0])
 .ret))))))))⟩
def RV:aC:=⟨22,[.tmp 6],
 (.seq (.ops [zV 6 0])
 (.seq (.seq (.ops [zM 7 1,
 zP 8 (.bin .lss) [.t 7,zI 0],
 zM 9 8,
 bp 10 1 9 false,
 bK 11 (.bin .gtr) [.t 10,zI 63] 9 false,
 zP 12 .pick [.t 9,.c (.bool true),.t 11]])
 (.cond (.t 12)
 (.seq (.ops [zV 6 9])
 .ret)
 .skip))
 (.seq (.seq (.ops [zM 13 0,
 zM 14 1,
 kY 15 69 13 14,
 zP 16 (.bin .geq) [.t 15,zI 0]])
 (.cond (.t 16)
 (.seq (.ops [zV 6 141])
 .ret)
 .skip))
 (.seq (.ops [zM 17 0,
 zM 18 1,
 zM 19 2,
 zR 20 (.build [zz,zz] [(0,1),(1,1)]) 18 19,
 kY 21 70 17 20])
 (.seq (.ops [zV 6 0])
 .ret)))))⟩
def RW:aC:=⟨37,[.tmp 6],
 (.seq (.ops [zV 6 0])
 (.seq (.seq (.ops [zM 8 1,
 zP 9 (.bin .lss) [.t 8,zI 0],
 zM 10 9,
 bp 11 1 10 false,
 bK 12 (.bin .gtr) [.t 11,zI 63] 10 false,
 zP 13 .pick [.t 10,.c (.bool true),.t 12]])
 (.cond (.t 13)
 (.seq (.ops [zV 6 9])
 .ret)
 .skip))
 (.seq (.ops [zM 14 0,
 zM 15 1,
 kY 16 69 14 15,
 zM 7 16])
 (.seq (.seq (.ops [zM 17 7,
 zP 18 (.bin .lss) [.t 17,zI 0]])
 (.cond (.t 18)
 (.seq (.ops [zV 6 8])
 .ret)
 .skip))
 (.seq (.seq (.ops [zM 19 2,
 zM 20 0,
 zN 21 20,
 zF 22 21 0,
 zL 23 22,
 zM 24 7,
 zR 25 (.ak 2) 23 24,
 zF 26 25 1,
 zL 27 26,
 zR 28 (.bin .gtr) 19 27])
 (.cond (.t 28)
 (.seq (.ops [zV 6 2])
 .ret)
 .skip))
 (.seq (.ops [zM 29 0,
 zM 30 1,
 kY 31 53 29 30])
 (.seq (.ops [zM 32 0,
 zM 33 1,
 zM 34 2,
 zR 35 (.build [zz,zz] [(0,1),(1,1)]) 33 34,
 kY 36 70 32 35])
 (.seq (.ops [zV 6 0])
 .ret))))))))⟩
def eP:AC:=(.seq (.seq (.ops [zM 8 6,
 zM 9 0,
 zN 10 9,
 zF 11 10 0,
 zL 12 11,
 zQ 13 .dc 12,
 zR 14 (.bin .lss) 8 13])
 (.cond (.t 14)
 .skip
 (.exit 0)))
 (.seq (.block 1 (.seq (.ops [zM 17 0,
 zN 18 17,
 zF 19 18 0,
 zL 20 19,
 zM 21 6,
 zR 22 (.ak 2) 20 21,
 zF 23 22 0,
 zL 24 23,
 zM 25 1,
 zR 26 (.bin .neq) 24 25])
 (.cond (.t 26)
 (.ops [zM 27 5,
 zM 28 0,
 zN 29 28,
 zF 30 29 0,
 zL 31 30,
 zM 32 6,
 zR 33 (.ak 2) 31 32,
 zO 34 2 33,
 ⟨some 35,none,.a (.dF [zz,zz] 1 2 [0]),[.t 34]⟩,
 zA 36 2 16 27 35,
 zM 5 36])
 .skip)))
 (.ops [zM 15 6,
 zP 16 (.bin .add) [.t 15,zI 1],
 zM 6 16])))
def RX:aC:=⟨50,[.tmp 4],
 (.seq (.ops [zK 4 (.bool false)])
 (.seq (.ops [zK 5 .aN])
 (.seq (.seq (.ops [zV 6 0])
 (.block 0 (.loop eP)))
 (.seq (.ops [zM 37 5,
 zQ 38 .dc 37,
 zM 39 0,
 zN 40 39,
 zF 41 40 0,
 zL 42 41,
 zQ 43 .dc 42,
 zR 44 (.bin .lss) 38 43,
 zM 7 44])
 (.seq (.ops [zM 45 0,
 zM 46 5,
 zN 47 45,
 zF 48 47 0,
 zS 1 [.t 48,.t 46]])
 (.seq (.ops [zM 49 7,
 zM 4 49])
 .ret))))))⟩
def RY:aC:=⟨21,[.tmp 2,.tmp 3,.tmp 4],
 (.seq (.ops [zV 2 0,
 zV 3 0,
 zK 4 (.bool false)])
 (.seq (.ops [zM 9 0,
 jP 10 55 9,
 zM 8 10,
 zQ 11 (.ext 0) 8,
 zQ 12 (.ext 1) 8,
 zQ 13 (.ext 2) 8,
 zM 5 11,
 zM 6 12,
 zM 7 13])
 (.seq (.seq (.ops [zM 14 7])
 (.cond (.t 14)
 (.ops [zM 15 0,
 zM 16 5,
 kY 17 53 15 16])
 .skip))
 (.seq (.ops [zM 18 5,
 zM 19 6,
 zM 20 7,
 zM 2 18,
 zM 3 19,
 zM 4 20])
 .ret))))⟩
def RZ:aC:=⟨25,[.tmp 2,.tmp 3,.tmp 4],
 (.seq (.ops [zV 2 0,
 zV 3 0,
 zK 4 (.bool false)])
 (.seq (.seq (.ops [zM 5 0,
 zN 6 5,
 zF 7 6 0,
 zL 8 7,
 zQ 9 .dc 8,
 zP 10 (.bin .eql) [.t 9,zI 0]])
 (.cond (.t 10)
 (.seq (.ops [zV 2 0,
 zV 3 0,
 zK 4 (.bool false)])
 .ret)
 .skip))
 (.seq (.bN [zM 11 0,
 zN 12 11,
 zF 13 12 0,
 zL 14 13,
 zP 15 (.ak 2) [.t 14,zI 0],
 zF 16 15 0,
 zL 17 16,
 zM 18 0,
 zN 19 18,
 zF 20 19 0,
 zL 21 20,
 zP 22 (.ak 2) [.t 21,zI 0],
 zF 23 22 1,
 zL 24 23,
 zM 2 17,
 zM 3 24,
 zK 4 (.bool true)] [[],[],[],[],[],[],[],[],[],[],[],[],[],[],[],[],[]])
 .ret)))⟩
def R1:aC:=⟨20,[.tmp 4,.tmp 5],
 (.seq (.ops [zV 4 0,
 zK 5 (.bool false)])
 (.seq (.ops [zM 7 0,
 zM 8 1,
 kY 9 69 7 8,
 zM 6 9])
 (.seq (.seq (.ops [zM 10 6,
 zP 11 (.bin .lss) [.t 10,zI 0]])
 (.cond (.t 11)
 (.seq (.ops [zV 4 0,
 zK 5 (.bool false)])
 .ret)
 .skip))
 (.seq (.ops [zM 12 0,
 zN 13 12,
 zF 14 13 0,
 zL 15 14,
 zM 16 6,
 zR 17 (.ak 2) 15 16,
 zF 18 17 1,
 zL 19 18,
 zM 4 19,
 zK 5 (.bool true)])
 .ret))))⟩
def R2:aC:=⟨8,[.tmp 2],
 (.seq (.ops [zV 2 0])
 (.seq (.ops [zM 3 0,
 zN 4 3,
 zF 5 4 0,
 zL 6 5,
 zQ 7 .dc 6,
 zM 2 7])
 .ret))⟩
def NX:aC:=⟨12,[.tmp 2],
 (.seq (.ops [zK 2 (.bool false)])
 (.seq (.ops [zM 3 0,
 zP 4 (.eq .iW) [.t 3,.c .de],
 zM 5 4,
 bp 6 0 5 false,
 Aa 7 6 5 false,
 rq 8 7 0 5 false,
 kZ 9 8 5 false,
 bK 10 (.eq .iW) [.t 9,.c .de] 5 false,
 zP 11 .pick [.t 5,.c (.bool true),.t 10],
 zM 2 11])
 .ret))⟩
def R3:aC:=⟨26,[.tmp 4],
 (.seq (.ops [zK 4 (.bool false)])
 (.seq (.ops [zM 5 1,
 zP 6 (.bin .geq) [.t 5,zI 0],
 zM 7 6,
 bp 8 1 7 true,
 bp 9 0 7 true,
 Aa 10 9 7 true,
 rq 11 10 0 7 true,
 kZ 12 11 7 true,
 bK 13 .dc [.t 12] 7 true,
 bK 14 (.bin .lss) [.t 8,.t 13] 7 true,
 zP 15 .pick [.t 7,.t 14,.c (.bool false)],
 zM 16 15,
 bp 17 0 16 true,
 Aa 18 17 16 true,
 rq 19 18 0 16 true,
 kZ 20 19 16 true,
 bp 21 1 16 true,
 bK 22 (.ak 1) [.t 20,.t 21] 16 true,
 kZ 23 22 16 true,
 bK 24 (.bin .geq) [.t 23,zI 0] 16 true,
 zP 25 .pick [.t 16,.t 24,.c (.bool false)],
 zM 4 25])
 .ret))⟩
def fk:AC:=(.seq (.seq (.bN [zM 20 5,
 zM 21 3,
 zQ 22 .dc 21,
 zR 23 (.bin .lss) 20 22,
 zM 24 23,
 bp 25 0 24 true,
 Aa 26 25 24 true,
 rq 27 26 0 24 true,
 kZ 28 27 24 true,
 bp 29 3 24 true,
 bp 30 5 24 true,
 bK 31 (.ak 1) [.t 29,.t 30] 24 true,
 kZ 32 31 24 true,
 bK 33 (.ak 1) [.t 28,.t 32] 24 true,
 kZ 34 33 24 true,
 bp 35 0 24 true,
 Aa 36 35 24 true,
 rq 37 36 0 24 true,
 kZ 38 37 24 true,
 bp 39 4 24 true,
 bK 40 (.ak 1) [.t 38,.t 39] 24 true,
 kZ 41 40 24 true,
 bK 42 (.bin .leq) [.t 34,.t 41] 24 true,
 zP 43 .pick [.t 24,.t 42,.c (.bool false)]] [[],[],[],[],[],[],[],[],[],[],[],[],[],[],[],[],[],[],[],[],[],[],[],[]])
 (.cond (.t 43)
 .skip
 (.exit 2)))
 (.block 3 (.ops [zM 44 5,
 zP 45 (.bin .add) [.t 44,zI 1],
 zM 5 45])))
def fj:AC:=(.seq (.seq (.ops [zM 7 4,
 zM 8 0,
 zN 9 8,
 zF 10 9 0,
 zL 11 10,
 zQ 12 .dc 11,
 zR 13 (.bin .lss) 7 12])
 (.cond (.t 13)
 .skip
 (.exit 0)))
 (.seq (.block 1 (.seq (.seq (.ops [zM 16 0,
 zM 17 4,
 kY 18 59 16 17,
 zQ 19 .not 18])
 (.cond (.t 19)
 (.exit 1)
 .skip))
 (.seq (.ops [zV 5 0])
 (.seq (.block 2 (.loop fk))
 (.seq (.ops [zK 6 .aN])
 (.seq (.ops [zM 46 6,
 zM 47 3,
 zM 48 5,
 zR 49 (.slice 1 false true false) 47 48,
 zA 50 1 8 46 49,
 zM 6 50])
 (.seq (.ops [zM 51 6,
 zM 52 4,
 ⟨some 53,none,.a (.dF [zz] 1 1 [0]),[.t 52]⟩,
 zA 54 1 8 51 53,
 zM 6 54])
 (.ops [zM 55 6,
 zM 56 3,
 zM 57 5,
 zR 58 (.slice 1 true false false) 56 57,
 zA 59 1 8 55 58,
 zM 3 59]))))))))
 (.ops [zM 14 4,
 zP 15 (.bin .add) [.t 14,zI 1],
 zM 4 15])))
def R4:aC:=⟨61,[.tmp 2],
 (.seq (.ops [zK 2 .aN])
 (.seq (.ops [zK 3 .aN])
 (.seq (.seq (.ops [zV 4 0])
 (.block 0 (.loop fj)))
 (.seq (.ops [zM 60 3,
 zM 2 60])
 .ret))))⟩
def R5:aC:=⟨23,[.tmp 2,.tmp 3,.tmp 4],
 (.seq (.ops [zV 2 0,
 zV 3 0,
 zK 4 (.bool false)])
 (.seq (.ops [zM 6 0,
 jP 7 60 6,
 zM 5 7])
 (.seq (.seq (.ops [zM 8 5,
 zQ 9 .dc 8,
 zP 10 (.bin .eql) [.t 9,zI 0]])
 (.cond (.t 10)
 (.seq (.ops [zV 2 0,
 zV 3 0,
 zK 4 (.bool false)])
 .ret)
 .skip))
 (.seq (.bN [zM 11 5,
 zP 12 (.ak 1) [.t 11,zI 0],
 zL 13 12,
 zM 14 0,
 zN 15 14,
 zF 16 15 0,
 zL 17 16,
 zM 18 5,
 zP 19 (.ak 1) [.t 18,zI 0],
 zL 20 19,
 zR 21 (.ak 1) 17 20,
 zL 22 21,
 zM 2 13,
 zM 3 22,
 zK 4 (.bool true)] [[],[],[],[],[],[],[],[],[],[],[],[],[],[],[]])
 .ret))))⟩
def R6:aC:=⟨17,[.tmp 4,.tmp 5],
 (.seq (.ops [zV 4 0,
 zK 5 (.bool false)])
 (.seq (.seq (.ops [zM 6 0,
 zM 7 1,
 kY 8 59 6 7,
 zQ 9 .not 8])
 (.cond (.t 9)
 (.seq (.ops [zV 4 0,
 zK 5 (.bool false)])
 .ret)
 .skip))
 (.seq (.ops [zM 10 0,
 zN 11 10,
 zF 12 11 0,
 zL 13 12,
 zM 14 1,
 zR 15 (.ak 1) 13 14,
 zL 16 15,
 zM 4 16,
 zK 5 (.bool true)])
 .ret)))⟩
def R7:aC:=⟨24,[.tmp 4],
 (.seq (.ops [zB 2 0,
 zB 3 1,
 zK 4 (.bool false)])
 (.seq (.ops [zF 5 2 1,
 zL 6 5,
 zF 7 3 1,
 zL 8 7,
 zR 9 (.bin .lss) 6 8,
 zM 10 9,
 rq 11 2 1 10 false,
 kZ 12 11 10 false,
 rq 13 3 1 10 false,
 kZ 14 13 10 false,
 bK 15 (.bin .eql) [.t 12,.t 14] 10 false,
 bp 16 15 10 false,
 rq 17 2 0 16 true,
 kZ 18 17 16 true,
 rq 19 3 0 16 true,
 kZ 20 19 16 true,
 bK 21 (.bin .lss) [.t 18,.t 20] 16 true,
 bK 22 .pick [.t 16,.t 21,.c (.bool false)] 10 false,
 zP 23 .pick [.t 10,.c (.bool true),.t 22],
 zM 4 23])
 .ret))⟩
def R8:aC:=⟨21,[],
 (.seq (.ops [zB 5 2])
 (.seq (.bN [zM 6 0,
 zN 7 6,
 zF 8 7 0,
 zL 9 8,
 zM 10 1,
 zO 11 2 5,
 zR 12 (.ak 2) 9 10,
 zS 2 [.t 12,.t 11]] [[],[],[],[],[],[],[],[]])
 (.bN [zM 13 0,
 zF 14 5 0,
 zL 15 14,
 zM 16 1,
 zP 17 (.bin .add) [.t 16,zI 1],
 zN 18 13,
 zF 19 18 1,
 zR 20 (.bV 1 64) 19 15,
 zS 1 [.t 20,.t 17]] [[],[],[],[],[],[],[],[],[]])))⟩
def gU:AC:=(.block 1 (.seq (.ops [zM 13 1,
 zP 14 (.bin .mul) [zI 2,.t 13],
 zP 15 (.bin .add) [.t 14,zI 1],
 zM 5 15])
 (.seq (.seq (.bN [zM 16 5,
 zP 17 (.bin .add) [.t 16,zI 1],
 zM 18 0,
 zN 19 18,
 zF 20 19 0,
 zL 21 20,
 zQ 22 .dc 21,
 zR 23 (.bin .lss) 17 22,
 zM 24 23,
 bp 25 0 24 true,
 Aa 26 25 24 true,
 rq 27 26 0 24 true,
 kZ 28 27 24 true,
 bp 29 5 24 true,
 bK 30 (.bin .add) [.t 29,zI 1] 24 true,
 bK 31 (.ak 2) [.t 28,.t 30] 24 true,
 ⟨some 32,some (24,true),.r (.aO 2),[.t 31]⟩,
 bp 33 0 24 true,
 Aa 34 33 24 true,
 rq 35 34 0 24 true,
 kZ 36 35 24 true,
 bp 37 5 24 true,
 bK 38 (.ak 2) [.t 36,.t 37] 24 true,
 ⟨some 39,some (24,true),.r (.aO 2),[.t 38]⟩,
 kO 40 63 [.t 32,.t 39] 24 true,
 zP 41 .pick [.t 24,.t 40,.c (.bool false)]] [[],[],[],[],[],[],[],[],[],[],[],[],[],[],[],[],[],[],[],[],[],[],[],[],[],[]])
 (.cond (.t 41)
 (.ops [zM 42 5,
 zP 43 (.bin .add) [.t 42,zI 1],
 zM 5 43])
 .skip))
 (.seq (.seq (.bN [zM 44 5,
 zM 45 0,
 zN 46 45,
 zF 47 46 0,
 zL 48 47,
 zQ 49 .dc 48,
 zR 50 (.bin .geq) 44 49,
 zM 51 50,
 bp 52 0 51 false,
 Aa 53 52 51 false,
 rq 54 53 0 51 false,
 kZ 55 54 51 false,
 bp 56 5 51 false,
 bK 57 (.ak 2) [.t 55,.t 56] 51 false,
 ⟨some 58,some (51,false),.r (.aO 2),[.t 57]⟩,
 ⟨some 59,some (51,false),.r (.aO 2),[.t 4]⟩,
 kO 60 63 [.t 58,.t 59] 51 false,
 bK 61 .not [.t 60] 51 false,
 zP 62 .pick [.t 51,.c (.bool true),.t 61]] [[],[],[],[],[],[],[],[],[],[],[],[],[],[],[],[],[],[],[]])
 (.cond (.t 62)
 (.exit 0)
 .skip))
 (.seq (.ops [zM 63 0,
 zM 64 1,
 zM 65 0,
 zN 66 65,
 zF 67 66 0,
 zL 68 67,
 zM 69 5,
 zR 70 (.ak 2) 68 69,
 zO 71 2 70,
 zW 72 64 63 64 71])
 (.ops [zM 73 5,
 zM 1 73]))))))
def R9:aC:=⟨78,[],
 (.seq (.ops [zM 6 0,
 zN 7 6,
 zF 8 7 0,
 zL 9 8,
 zM 10 1,
 zR 11 (.ak 2) 9 10,
 zO 12 2 11,
 ⟨some 4,none,.a (.alloc [zz,zz]),[]⟩,
 zS 2 [.t 4,.t 12]])
 (.seq (.block 0 (.loop gU))
 (.ops [zM 74 0,
 zM 75 1,
 zO 76 2 4,
 zW 77 64 74 75 76])))⟩
def eo:AC:=(.block 1 (.seq (.ops [zM 21 2,
 zM 22 1,
 zR 23 (.bin .sub) 21 22,
 zM 12 23])
 (.seq (.seq (.ops [zM 24 12,
 zP 25 (.bin .leq) [.t 24,zI 12]])
 (.cond (.t 25)
 (.seq (.ops [zM 26 0,
 zM 27 1,
 zM 28 2,
 zM 29 4,
 KL 30 71 26 27 28 29])
 .ret)
 .skip))
 (.seq (.seq (.ops [zM 31 3,
 zP 32 (.bin .eql) [.t 31,zI 0]])
 (.cond (.t 32)
 (.seq (.ops [zM 33 0,
 zM 34 1,
 zM 35 2,
 zM 36 4,
 KL 37 72 33 34 35 36])
 .ret)
 .skip))
 (.seq (.seq (.ops [zM 38 10,
 zQ 39 .not 38])
 (.cond (.t 39)
 (.seq (.ops [zM 40 0,
 zM 41 1,
 zM 42 2,
 zM 43 4,
 KL 44 73 40 41 42 43])
 (.ops [zM 45 3,
 zP 46 (.bin .sub) [.t 45,zI 1],
 zM 3 46]))
 .skip))
 (.seq (.ops [zM 48 0,
 zM 49 1,
 zM 50 2,
 zM 51 4,
 KL 52 74 48 49 50 51,
 zM 47 52,
 zQ 53 (.ext 0) 47,
 zQ 54 (.ext 1) 47,
 zM 13 53,
 zM 14 54])
 (.seq (.seq (.ops [zM 55 14,
 zP 56 (.bin .eql) [.t 55,zI 2]])
 (.cond (.t 56)
 (.seq (.ops [zM 57 0,
 zM 58 1,
 zM 59 2,
 zM 60 4,
 KL 61 75 57 58 59 60])
 (.seq (.ops [zM 62 2,
 zP 63 (.bin .sub) [.t 62,zI 1],
 zM 64 13,
 zM 65 1,
 zR 66 (.bin .sub) 64 65,
 zR 67 (.bin .sub) 63 66,
 zM 13 67])
 (.ops [zV 14 1])))
 .skip))
 (.seq (.seq (.ops [zM 68 10,
 zM 69 68,
 bp 70 11 69 true,
 zP 71 .pick [.t 69,.t 70,.c (.bool false)],
 zM 72 71,
 bp 73 14 72 true,
 bK 74 (.bin .eql) [.t 73,zI 1] 72 true,
 zP 75 .pick [.t 72,.t 74,.c (.bool false)]])
 (.cond (.t 75)
 (.seq (.ops [zM 76 0,
 zM 77 1,
 zM 78 2,
 zM 79 4,
 KL 80 76 76 77 78 79])
 (.cond (.t 80)
 .ret
 .skip))
 .skip))
 (.seq (.seq (.bN [zM 81 1,
 zP 82 (.bin .gtr) [.t 81,zI 0],
 zM 83 82,
 bp 84 4 83 true,
 bp 85 0 83 true,
 bp 86 1 83 true,
 bK 87 (.bin .sub) [.t 86,zI 1] 83 true,
 bK 88 (.ak 2) [.t 85,.t 87] 83 true,
 ⟨some 89,some (83,true),.r (.aO 2),[.t 88]⟩,
 bp 90 0 83 true,
 bp 91 13 83 true,
 bK 92 (.ak 2) [.t 90,.t 91] 83 true,
 ⟨some 93,some (83,true),.r (.aO 2),[.t 92]⟩,
 ⟨some 94,some (83,true),.call,[.t 84,.t 89,.t 93]⟩,
 bK 95 (.bin .lss) [.t 94,zI 0] 83 true,
 bK 96 .not [.t 95] 83 true,
 zP 97 .pick [.t 83,.t 96,.c (.bool false)]] [[],[],[],[],[],[],[],[],[],[],[],[],[],[],[],[],[]])
 (.cond (.t 97)
 (.seq (.ops [zM 98 0,
 zM 99 1,
 zM 100 2,
 zM 101 13,
 zM 102 4,
 KM 103 77 98 99 100 101 102,
 zM 15 103])
 (.seq (.ops [zM 104 15,
 zM 1 104])
 (.exit 1)))
 .skip))
 (.seq (.ops [zM 106 0,
 zM 107 1,
 zM 108 2,
 zM 109 13,
 zM 110 4,
 KM 111 78 106 107 108 109 110,
 zM 105 111,
 zQ 112 (.ext 0) 105,
 zQ 113 (.ext 1) 105,
 zM 16 112,
 zM 17 113])
 (.seq (.ops [zM 114 17,
 zM 11 114])
 (.seq (.ops [zM 115 16,
 zM 116 1,
 zR 117 (.bin .sub) 115 116,
 zM 118 2,
 zM 119 16,
 zR 120 (.bin .sub) 118 119,
 zM 18 117,
 zM 19 120])
 (.seq (.ops [zM 121 12,
 zP 122 (.bin .quo) [.t 121,zI 8],
 zM 20 122])
 (.seq (.ops [zM 123 18,
 zM 124 19,
 zR 125 (.bin .lss) 123 124])
 (.cond (.t 125)
 (.seq (.ops [zM 126 18,
 zM 127 20,
 zR 128 (.bin .geq) 126 127,
 zM 10 128])
 (.seq (.ops [zM 129 0,
 zM 130 1,
 zM 131 16,
 zM 132 3,
 zM 133 4,
 KM 134 66 129 130 131 132 133])
 (.ops [zM 135 16,
 zP 136 (.bin .add) [.t 135,zI 1],
 zM 1 136])))
 (.seq (.ops [zM 137 19,
 zM 138 20,
 zR 139 (.bin .geq) 137 138,
 zM 10 139])
 (.seq (.ops [zM 140 0,
 zM 141 16,
 zP 142 (.bin .add) [.t 141,zI 1],
 zM 143 2,
 zM 144 3,
 zM 145 4,
 KM 146 66 140 142 143 144 145])
 (.ops [zM 147 16,
 zM 2 147]))))))))))))))))))
def Lv:aC:=⟨148,[],
 (.seq (.ops [zK 10 (.bool true)])
 (.seq (.ops [zK 11 (.bool true)])
 (.block 0 (.loop eo))))⟩
def Sc:aC:=⟨8,[.tmp 2],
 (.seq (.ops [zV 2 0])
 (.seq (.cond (.c (.bool false))
 (.seq (.ops [zM 3 0,
 zQ 4 (.conv .u32) 3,
 jP 5 79 4,
 zM 2 5])
 .ret)
 .skip)
 (.seq (.ops [zM 6 0,
 jP 7 80 6,
 zM 2 7])
 .ret)))⟩
def Sd:aC:=⟨6,[.tmp 2],
 (.seq (.ops [zK 2 (.bool false)])
 (.seq (.ops [zM 3 0,
 zM 4 0,
 zR 5 (.bin .neq) 3 4,
 zM 2 5])
 .ret))⟩
def gO:AC:=(.seq (.seq (.ops [zM 6 5,
 zM 7 0,
 zN 8 7,
 zF 9 8 0,
 zL 10 9,
 zQ 11 .dc 10,
 zR 12 (.bin .lss) 6 11])
 (.cond (.t 12)
 .skip
 (.exit 0)))
 (.seq (.block 1 (.seq (.ops [zM 15 0,
 zN 16 15,
 zF 17 16 0,
 zL 18 17,
 zM 19 5,
 zR 20 (.ak 2) 18 19,
 zF 21 20 0,
 zL 22 21,
 zM 23 1,
 zR 24 (.bin .eql) 22 23])
 (.cond (.t 24)
 (.seq (.ops [zM 25 5,
 zM 4 25])
 .ret)
 .skip)))
 (.ops [zM 13 5,
 zP 14 (.bin .add) [.t 13,zI 1],
 zM 5 14])))
def Se:aC:=⟨26,[.tmp 4],
 (.seq (.ops [zV 4 0])
 (.seq (.seq (.ops [zV 5 0])
 (.block 0 (.loop gO)))
 (.seq (.ops [zV 4 (-1)])
 .ret)))⟩
def gy:AC:=(.seq (.seq (.bN [zM 6 5,
 zM 7 0,
 zN 8 7,
 zF 9 8 0,
 zL 10 9,
 zQ 11 .dc 10,
 zR 12 (.bin .lss) 6 11,
 zM 13 12,
 bp 14 0 13 true,
 Aa 15 14 13 true,
 rq 16 15 0 13 true,
 kZ 17 16 13 true,
 bp 18 5 13 true,
 bK 19 (.ak 2) [.t 17,.t 18] 13 true,
 rq 20 19 1 13 true,
 kZ 21 20 13 true,
 rq 22 3 1 13 true,
 kZ 23 22 13 true,
 bK 24 (.bin .lss) [.t 21,.t 23] 13 true,
 bp 25 24 13 true,
 bp 26 0 25 false,
 Aa 27 26 25 false,
 rq 28 27 0 25 false,
 kZ 29 28 25 false,
 bp 30 5 25 false,
 bK 31 (.ak 2) [.t 29,.t 30] 25 false,
 rq 32 31 1 25 false,
 kZ 33 32 25 false,
 rq 34 3 1 25 false,
 kZ 35 34 25 false,
 bK 36 (.bin .eql) [.t 33,.t 35] 25 false,
 bp 37 36 25 false,
 bp 38 0 37 true,
 Aa 39 38 37 true,
 rq 40 39 0 37 true,
 kZ 41 40 37 true,
 bp 42 5 37 true,
 bK 43 (.ak 2) [.t 41,.t 42] 37 true,
 rq 44 43 0 37 true,
 kZ 45 44 37 true,
 rq 46 3 0 37 true,
 kZ 47 46 37 true,
 bK 48 (.bin .lss) [.t 45,.t 47] 37 true,
 bK 49 .pick [.t 37,.t 48,.c (.bool false)] 25 false,
 bK 50 .pick [.t 25,.c (.bool true),.t 49] 13 true,
 zP 51 .pick [.t 13,.t 50,.c (.bool false)]] [[],[],[],[],[],[],[],[],[],[],[],[],[],[],[],[],[],[],[],[],[],[],[],[],[],[],[],[],[],[],[],[],[],[],[],[],[],[],[],[],[],[],[],[],[],[]])
 (.cond (.t 51)
 .skip
 (.exit 0)))
 (.block 1 (.seq (.ops [zM 52 4,
 zM 53 0,
 zN 54 53,
 zF 55 54 0,
 zL 56 55,
 zM 57 5,
 zR 58 (.ak 2) 56 57,
 zO 59 2 58,
 ⟨some 60,none,.a (.dF [zz,zz] 1 2 [0]),[.t 59]⟩,
 zA 61 2 16 52 60,
 zM 4 61])
 (.ops [zM 62 5,
 zP 63 (.bin .add) [.t 62,zI 1],
 zM 5 63]))))
def Sf:aC:=⟨79,[],
 (.seq (.ops [zB 3 1])
 (.seq (.ops [zK 4 .aN])
 (.seq (.ops [zV 5 0])
 (.seq (.block 0 (.loop gy))
 (.seq (.ops [zM 64 4,
 zO 65 2 3,
 ⟨some 66,none,.a (.dF [zz,zz] 1 2 [0]),[.t 65]⟩,
 zA 67 2 16 64 66,
 zM 4 67])
 (.ops [zM 68 0,
 zM 69 4,
 zM 70 0,
 zN 71 70,
 zF 72 71 0,
 zL 73 72,
 zM 74 5,
 zR 75 (.slice 2 true false false) 73 74,
 zA 76 2 16 69 75,
 zN 77 68,
 zF 78 77 0,
 zS 1 [.t 78,.t 76]]))))))⟩
def c9:AC:=(.seq (.seq (.bN [zM 18 9,
 zM 19 1,
 zR 20 (.bin .gtr) 18 19,
 zM 21 20,
 bp 22 3 21 true,
 bp 23 0 21 true,
 bp 24 9 21 true,
 bK 25 (.ak 2) [.t 23,.t 24] 21 true,
 ⟨some 26,some (21,true),.r (.aO 2),[.t 25]⟩,
 bp 27 0 21 true,
 bp 28 9 21 true,
 bK 29 (.bin .sub) [.t 28,zI 1] 21 true,
 bK 30 (.ak 2) [.t 27,.t 29] 21 true,
 ⟨some 31,some (21,true),.r (.aO 2),[.t 30]⟩,
 ⟨some 32,some (21,true),.call,[.t 22,.t 26,.t 31]⟩,
 bK 33 (.bin .lss) [.t 32,zI 0] 21 true,
 zP 34 .pick [.t 21,.t 33,.c (.bool false)]] [[],[],[],[],[],[],[],[],[],[],[],[],[],[],[],[],[]])
 (.cond (.t 34)
 .skip
 (.exit 2)))
 (.seq (.block 3 (.bN [zM 37 0,
 zM 38 9,
 zM 39 0,
 zM 40 9,
 zP 41 (.bin .sub) [.t 40,zI 1],
 zM 42 0,
 zM 43 9,
 zP 44 (.bin .sub) [.t 43,zI 1],
 zR 45 (.ak 2) 42 44,
 zO 46 2 45,
 zM 47 0,
 zM 48 9,
 zR 49 (.ak 2) 47 48,
 zO 50 2 49,
 zR 51 (.ak 2) 37 38,
 zS 2 [.t 51,.t 46],
 zR 52 (.ak 2) 39 41,
 zS 2 [.t 52,.t 50]] [[],[],[],[],[],[],[],[],[],[],[],[],[],[],[],[],[],[]]))
 (.ops [zM 35 9,
 zP 36 (.bin .sub) [.t 35,zI 1],
 zM 9 36])))
def cZ:AC:=(.seq (.seq (.ops [zM 12 8,
 zM 13 2,
 zR 14 (.bin .lss) 12 13])
 (.cond (.t 14)
 .skip
 (.exit 0)))
 (.seq (.block 1 (.seq (.ops [zM 17 8,
 zM 9 17])
 (.block 2 (.loop c9))))
 (.ops [zM 15 8,
 zP 16 (.bin .add) [.t 15,zI 1],
 zM 8 16])))
def OP:aC:=⟨53,[],
 (.seq (.ops [zM 10 1,
 zP 11 (.bin .add) [.t 10,zI 1],
 zM 8 11])
 (.block 0 (.loop cZ)))⟩
def dV:AC:=(.seq (.seq (.ops [zM 20 11,
 zP 21 (.bin .geq) [.t 20,zI 0]])
 (.cond (.t 21)
 .skip
 (.exit 0)))
 (.seq (.block 1 (.ops [zM 24 0,
 zM 25 11,
 zM 26 10,
 zM 27 8,
 zM 28 3,
 KM 29 81 24 25 26 27 28]))
 (.ops [zM 22 11,
 zP 23 (.bin .sub) [.t 22,zI 1],
 zM 11 23])))
def dW:AC:=(.seq (.seq (.ops [zM 32 12,
 zP 33 (.bin .geq) [.t 32,zI 0]])
 (.cond (.t 33)
 .skip
 (.exit 2)))
 (.seq (.block 3 (.seq (.bN [zM 36 0,
 zM 37 8,
 zM 38 0,
 zM 39 8,
 zM 40 12,
 zR 41 (.bin .add) 39 40,
 zM 42 0,
 zM 43 8,
 zM 44 12,
 zR 45 (.bin .add) 43 44,
 zR 46 (.ak 2) 42 45,
 zO 47 2 46,
 zM 48 0,
 zM 49 8,
 zR 50 (.ak 2) 48 49,
 zO 51 2 50,
 zR 52 (.ak 2) 36 37,
 zS 2 [.t 52,.t 47],
 zR 53 (.ak 2) 38 41,
 zS 2 [.t 53,.t 51]] [[],[],[],[],[],[],[],[],[],[],[],[],[],[],[],[],[],[],[],[]])
 (.ops [zM 54 0,
 zM 55 9,
 zM 56 12,
 zM 57 8,
 zM 58 3,
 KM 59 81 54 55 56 57 58])))
 (.ops [zM 34 12,
 zP 35 (.bin .sub) [.t 34,zI 1],
 zM 12 35])))
def Sg:aC:=⟨60,[],
 (.seq (.ops [zM 13 1,
 zM 8 13])
 (.seq (.ops [zV 9 0])
 (.seq (.ops [zM 14 2,
 zM 15 1,
 zR 16 (.bin .sub) 14 15,
 zM 10 16])
 (.seq (.seq (.ops [zM 17 10,
 zP 18 (.bin .sub) [.t 17,zI 1],
 zP 19 (.bin .quo) [.t 18,zI 2],
 zM 11 19])
 (.block 0 (.loop dV)))
 (.seq (.ops [zM 30 10,
 zP 31 (.bin .sub) [.t 30,zI 1],
 zM 12 31])
 (.block 2 (.loop dW)))))))⟩
def cY:AC:=(.seq (.seq (.ops [zM 28 11,
 zM 29 1,
 zM 30 8,
 zP 31 (.bin .quo) [.t 30,zI 4],
 zP 32 (.bin .mul) [.t 31,zI 2],
 zR 33 (.bin .add) 29 32,
 zP 34 (.bin .add) [.t 33,zI 1],
 zR 35 (.bin .leq) 28 34])
 (.cond (.t 35)
 .skip
 (.exit 0)))
 (.seq (.block 1 (.seq (.ops [jP 38 83 9,
 zM 39 10,
 zP 40 (.bin .sub) [.t 39,.c (.int .u64 1)],
 zR 41 (.bin .and) 38 40,
 zQ 42 (.conv .i64) 41,
 zM 12 42])
 (.seq (.seq (.ops [zM 43 12,
 zM 44 8,
 zR 45 (.bin .geq) 43 44])
 (.cond (.t 45)
 (.ops [zM 46 12,
 zM 47 8,
 zR 48 (.bin .sub) 46 47,
 zM 12 48])
 .skip))
 (.bN [zM 49 0,
 zM 50 11,
 zM 51 0,
 zM 52 1,
 zM 53 12,
 zR 54 (.bin .add) 52 53,
 zM 55 0,
 zM 56 1,
 zM 57 12,
 zR 58 (.bin .add) 56 57,
 zR 59 (.ak 2) 55 58,
 zO 60 2 59,
 zM 61 0,
 zM 62 11,
 zR 63 (.ak 2) 61 62,
 zO 64 2 63,
 zR 65 (.ak 2) 49 50,
 zS 2 [.t 65,.t 60],
 zR 66 (.ak 2) 51 54,
 zS 2 [.t 66,.t 64]] [[],[],[],[],[],[],[],[],[],[],[],[],[],[],[],[],[],[],[],[]]))))
 (.ops [zM 36 11,
 zP 37 (.bin .add) [.t 36,zI 1],
 zM 11 37])))
def Sh:aC:=⟨67,[],
 (.seq (.ops [zM 13 2,
 zM 14 1,
 zR 15 (.bin .sub) 13 14,
 zM 8 15])
 (.seq (.ops [zM 16 8,
 zP 17 (.bin .geq) [.t 16,zI 8]])
 (.cond (.t 17)
 (.seq (.ops [zM 18 8,
 zQ 19 (.conv .u64) 18,
 ⟨some 9,none,.a (.alloc [(.int .u64 0)]),[]⟩,
 zS 1 [.t 9,.t 19]])
 (.seq (.ops [zM 20 8,
 jP 21 82 20,
 zM 10 21])
 (.seq (.ops [zM 22 1,
 zM 23 8,
 zP 24 (.bin .quo) [.t 23,zI 4],
 zP 25 (.bin .mul) [.t 24,zI 2],
 zR 26 (.bin .add) 22 25,
 zP 27 (.bin .sub) [.t 26,zI 1],
 zM 11 27])
 (.block 0 (.loop cY)))))
 .skip)))⟩
def Si:aC:=⟨63,[.tmp 8,.tmp 9],
 (.seq (.ops [zV 8 0,
 zV 9 0])
 (.seq (.ops [zM 15 2,
 zM 16 1,
 zR 17 (.bin .sub) 15 16,
 zM 10 17])
 (.seq (.ops [⟨some 11,none,.a (.alloc [zz]),[]⟩])
 (.seq (.ops [zM 18 1,
 zM 19 10,
 zP 20 (.bin .quo) [.t 19,zI 4],
 zP 21 (.bin .mul) [.t 20,zI 1],
 zR 22 (.bin .add) 18 21,
 zM 12 22])
 (.seq (.ops [zM 23 1,
 zM 24 10,
 zP 25 (.bin .quo) [.t 24,zI 4],
 zP 26 (.bin .mul) [.t 25,zI 2],
 zR 27 (.bin .add) 23 26,
 zM 13 27])
 (.seq (.ops [zM 28 1,
 zM 29 10,
 zP 30 (.bin .quo) [.t 29,zI 4],
 zP 31 (.bin .mul) [.t 30,zI 3],
 zR 32 (.bin .add) 28 31,
 zM 14 32])
 (.seq (.seq (.ops [zM 33 10,
 zP 34 (.bin .geq) [.t 33,zI 8]])
 (.cond (.t 34)
 (.seq (.seq (.ops [zM 35 10,
 zP 36 (.bin .geq) [.t 35,zI 50]])
 (.cond (.t 36)
 (.seq (.ops [zM 37 0,
 zM 38 12,
 zM 39 3,
 KL 40 84 37 38 11 39,
 zM 12 40])
 (.seq (.ops [zM 41 0,
 zM 42 13,
 zM 43 3,
 KL 44 84 41 42 11 43,
 zM 13 44])
 (.ops [zM 45 0,
 zM 46 14,
 zM 47 3,
 KL 48 84 45 46 11 47,
 zM 14 48])))
 .skip))
 (.ops [zM 49 0,
 zM 50 12,
 zM 51 13,
 zM 52 14,
 zM 53 3,
 zC 54 85 [.t 49,.t 50,.t 51,.t 52,.t 11,.t 53],
 zM 13 54]))
 .skip))
 (.seq (.ops [zL 55 11])
 (.block 0 (.seq (.ops [zP 58 (.bin .eql) [.t 55,zI 0],
 zM 57 58])
 (.cond (.t 57)
 (.seq (.ops [zM 59 13,
 zM 8 59,
 zV 9 1])
 .ret)
 (.seq (.ops [zP 61 (.bin .eql) [.t 55,zI 12],
 zM 60 61])
 (.cond (.t 60)
 (.seq (.ops [zM 62 13,
 zM 8 62,
 zV 9 2])
 .ret)
 (.seq (.ops [zM 56 13,
 zM 8 56,
 zV 9 0])
 .ret))))))))))))))⟩
def dn:AC:=(.seq (.seq (.ops [zM 13 8,
 zM 14 9,
 zR 15 (.bin .lss) 13 14])
 (.cond (.t 15)
 .skip
 (.exit 0)))
 (.block 1 (.seq (.bN [zM 16 0,
 zM 17 8,
 zM 18 0,
 zM 19 9,
 zM 20 0,
 zM 21 9,
 zR 22 (.ak 2) 20 21,
 zO 23 2 22,
 zM 24 0,
 zM 25 8,
 zR 26 (.ak 2) 24 25,
 zO 27 2 26,
 zR 28 (.ak 2) 16 17,
 zS 2 [.t 28,.t 23],
 zR 29 (.ak 2) 18 19,
 zS 2 [.t 29,.t 27]] [[],[],[],[],[],[],[],[],[],[],[],[],[],[],[],[]])
 (.seq (.ops [zM 30 8,
 zP 31 (.bin .add) [.t 30,zI 1],
 zM 8 31])
 (.ops [zM 32 9,
 zP 33 (.bin .sub) [.t 32,zI 1],
 zM 9 33])))))
def Sj:aC:=⟨34,[],
 (.seq (.ops [zM 10 1,
 zM 8 10])
 (.seq (.ops [zM 11 2,
 zP 12 (.bin .sub) [.t 11,zI 1],
 zM 9 12])
 (.block 0 (.loop dn))))⟩
def cA:AC:=(.seq (.seq (.bN [zM 19 9,
 zM 20 2,
 zR 21 (.bin .lss) 19 20,
 zM 22 21,
 bp 23 3 22 true,
 bp 24 0 22 true,
 bp 25 9 22 true,
 bK 26 (.ak 2) [.t 24,.t 25] 22 true,
 ⟨some 27,some (22,true),.r (.aO 2),[.t 26]⟩,
 bp 28 0 22 true,
 bp 29 9 22 true,
 bK 30 (.bin .sub) [.t 29,zI 1] 22 true,
 bK 31 (.ak 2) [.t 28,.t 30] 22 true,
 ⟨some 32,some (22,true),.r (.aO 2),[.t 31]⟩,
 ⟨some 33,some (22,true),.call,[.t 23,.t 27,.t 32]⟩,
 bK 34 (.bin .lss) [.t 33,zI 0] 22 true,
 bK 35 .not [.t 34] 22 true,
 zP 36 .pick [.t 22,.t 35,.c (.bool false)]] [[],[],[],[],[],[],[],[],[],[],[],[],[],[],[],[],[],[]])
 (.cond (.t 36)
 .skip
 (.exit 2)))
 (.block 3 (.ops [zM 37 9,
 zP 38 (.bin .add) [.t 37,zI 1],
 zM 9 38])))
def cB:AC:=(.seq (.seq (.ops [zM 68 11,
 zP 69 (.bin .geq) [.t 68,zI 1]])
 (.cond (.t 69)
 .skip
 (.exit 4)))
 (.seq (.block 5 (.seq (.seq (.bN [zM 72 3,
 zM 73 0,
 zM 74 11,
 zR 75 (.ak 2) 73 74,
 zO 76 2 75,
 zM 77 0,
 zM 78 11,
 zP 79 (.bin .sub) [.t 78,zI 1],
 zR 80 (.ak 2) 77 79,
 zO 81 2 80,
 ⟨some 82,none,.call,[.t 72,.t 76,.t 81]⟩,
 zP 83 (.bin .lss) [.t 82,zI 0],
 zQ 84 .not 83] [[],[],[],[],[],[],[],[],[],[],[],[],[]])
 (.cond (.t 84)
 (.exit 4)
 .skip))
 (.bN [zM 85 0,
 zM 86 11,
 zM 87 0,
 zM 88 11,
 zP 89 (.bin .sub) [.t 88,zI 1],
 zM 90 0,
 zM 91 11,
 zP 92 (.bin .sub) [.t 91,zI 1],
 zR 93 (.ak 2) 90 92,
 zO 94 2 93,
 zM 95 0,
 zM 96 11,
 zR 97 (.ak 2) 95 96,
 zO 98 2 97,
 zR 99 (.ak 2) 85 86,
 zS 2 [.t 99,.t 94],
 zR 100 (.ak 2) 87 89,
 zS 2 [.t 100,.t 98]] [[],[],[],[],[],[],[],[],[],[],[],[],[],[],[],[],[],[]])))
 (.ops [zM 70 11,
 zP 71 (.bin .sub) [.t 70,zI 1],
 zM 11 71])))
def cC:AC:=(.seq (.seq (.ops [zM 107 12,
 zM 108 2,
 zR 109 (.bin .lss) 107 108])
 (.cond (.t 109)
 .skip
 (.exit 6)))
 (.seq (.block 7 (.seq (.seq (.bN [zM 112 3,
 zM 113 0,
 zM 114 12,
 zR 115 (.ak 2) 113 114,
 zO 116 2 115,
 zM 117 0,
 zM 118 12,
 zP 119 (.bin .sub) [.t 118,zI 1],
 zR 120 (.ak 2) 117 119,
 zO 121 2 120,
 ⟨some 122,none,.call,[.t 112,.t 116,.t 121]⟩,
 zP 123 (.bin .lss) [.t 122,zI 0],
 zQ 124 .not 123] [[],[],[],[],[],[],[],[],[],[],[],[],[]])
 (.cond (.t 124)
 (.exit 6)
 .skip))
 (.bN [zM 125 0,
 zM 126 12,
 zM 127 0,
 zM 128 12,
 zP 129 (.bin .sub) [.t 128,zI 1],
 zM 130 0,
 zM 131 12,
 zP 132 (.bin .sub) [.t 131,zI 1],
 zR 133 (.ak 2) 130 132,
 zO 134 2 133,
 zM 135 0,
 zM 136 12,
 zR 137 (.ak 2) 135 136,
 zO 138 2 137,
 zR 139 (.ak 2) 125 126,
 zS 2 [.t 139,.t 134],
 zR 140 (.ak 2) 127 129,
 zS 2 [.t 140,.t 138]] [[],[],[],[],[],[],[],[],[],[],[],[],[],[],[],[],[],[]])))
 (.ops [zM 110 12,
 zP 111 (.bin .add) [.t 110,zI 1],
 zM 12 111])))
def cz:AC:=(.seq (.seq (.ops [zM 15 10,
 zP 16 (.bin .lss) [.t 15,zI 5]])
 (.cond (.t 16)
 .skip
 (.exit 0)))
 (.seq (.block 1 (.seq (.block 2 (.loop cA))
 (.seq (.seq (.ops [zM 39 9,
 zM 40 2,
 zR 41 (.bin .eql) 39 40])
 (.cond (.t 41)
 (.seq (.ops [zK 8 (.bool true)])
 .ret)
 .skip))
 (.seq (.seq (.ops [zM 42 2,
 zM 43 1,
 zR 44 (.bin .sub) 42 43,
 zP 45 (.bin .lss) [.t 44,zI 50]])
 (.cond (.t 45)
 (.seq (.ops [zK 8 (.bool false)])
 .ret)
 .skip))
 (.seq (.bN [zM 46 0,
 zM 47 9,
 zM 48 0,
 zM 49 9,
 zP 50 (.bin .sub) [.t 49,zI 1],
 zM 51 0,
 zM 52 9,
 zP 53 (.bin .sub) [.t 52,zI 1],
 zR 54 (.ak 2) 51 53,
 zO 55 2 54,
 zM 56 0,
 zM 57 9,
 zR 58 (.ak 2) 56 57,
 zO 59 2 58,
 zR 60 (.ak 2) 46 47,
 zS 2 [.t 60,.t 55],
 zR 61 (.ak 2) 48 50,
 zS 2 [.t 61,.t 59]] [[],[],[],[],[],[],[],[],[],[],[],[],[],[],[],[],[],[]])
 (.seq (.seq (.ops [zM 62 9,
 zM 63 1,
 zR 64 (.bin .sub) 62 63,
 zP 65 (.bin .geq) [.t 64,zI 2]])
 (.cond (.t 65)
 (.seq (.ops [zM 66 9,
 zP 67 (.bin .sub) [.t 66,zI 1],
 zM 11 67])
 (.block 4 (.loop cB)))
 .skip))
 (.seq (.ops [zM 101 2,
 zM 102 9,
 zR 103 (.bin .sub) 101 102,
 zP 104 (.bin .geq) [.t 103,zI 2]])
 (.cond (.t 104)
 (.seq (.ops [zM 105 9,
 zP 106 (.bin .add) [.t 105,zI 1],
 zM 12 106])
 (.block 6 (.loop cC)))
 .skip))))))))
 (.ops [zM 17 10,
 zP 18 (.bin .add) [.t 17,zI 1],
 zM 10 18])))
def Sk:aC:=⟨141,[.tmp 8],
 (.seq (.ops [zK 8 (.bool false)])
 (.seq (.ops [zM 13 1,
 zP 14 (.bin .add) [.t 13,zI 1],
 zM 9 14])
 (.seq (.seq (.ops [zV 10 0])
 (.block 0 (.loop cz)))
 (.seq (.ops [zK 8 (.bool false)])
 .ret))))⟩
def gA:AC:=(.seq (.seq (.bN [zM 31 11,
 zM 32 12,
 zR 33 (.bin .leq) 31 32,
 zM 34 33,
 bp 35 4 34 true,
 bp 36 0 34 true,
 bp 37 1 34 true,
 bK 38 (.ak 2) [.t 36,.t 37] 34 true,
 ⟨some 39,some (34,true),.r (.aO 2),[.t 38]⟩,
 bp 40 0 34 true,
 bp 41 11 34 true,
 bK 42 (.ak 2) [.t 40,.t 41] 34 true,
 ⟨some 43,some (34,true),.r (.aO 2),[.t 42]⟩,
 ⟨some 44,some (34,true),.call,[.t 35,.t 39,.t 43]⟩,
 bK 45 (.bin .lss) [.t 44,zI 0] 34 true,
 bK 46 .not [.t 45] 34 true,
 zP 47 .pick [.t 34,.t 46,.c (.bool false)]] [[],[],[],[],[],[],[],[],[],[],[],[],[],[],[],[],[]])
 (.cond (.t 47)
 .skip
 (.exit 2)))
 (.block 3 (.ops [zM 48 11,
 zP 49 (.bin .add) [.t 48,zI 1],
 zM 11 49])))
def gC:AC:=(.seq (.seq (.bN [zM 50 11,
 zM 51 12,
 zR 52 (.bin .leq) 50 51,
 zM 53 52,
 bp 54 4 53 true,
 bp 55 0 53 true,
 bp 56 1 53 true,
 bK 57 (.ak 2) [.t 55,.t 56] 53 true,
 ⟨some 58,some (53,true),.r (.aO 2),[.t 57]⟩,
 bp 59 0 53 true,
 bp 60 12 53 true,
 bK 61 (.ak 2) [.t 59,.t 60] 53 true,
 ⟨some 62,some (53,true),.r (.aO 2),[.t 61]⟩,
 ⟨some 63,some (53,true),.call,[.t 54,.t 58,.t 62]⟩,
 bK 64 (.bin .lss) [.t 63,zI 0] 53 true,
 zP 65 .pick [.t 53,.t 64,.c (.bool false)]] [[],[],[],[],[],[],[],[],[],[],[],[],[],[],[],[]])
 (.cond (.t 65)
 .skip
 (.exit 4)))
 (.block 5 (.ops [zM 66 12,
 zP 67 (.bin .sub) [.t 66,zI 1],
 zM 12 67])))
def gz:AC:=(.block 1 (.seq (.block 2 (.loop gA))
 (.seq (.block 4 (.loop gC))
 (.seq (.seq (.ops [zM 68 11,
 zM 69 12,
 zR 70 (.bin .gtr) 68 69])
 (.cond (.t 70)
 (.exit 0)
 .skip))
 (.seq (.bN [zM 71 0,
 zM 72 11,
 zM 73 0,
 zM 74 12,
 zM 75 0,
 zM 76 12,
 zR 77 (.ak 2) 75 76,
 zO 78 2 77,
 zM 79 0,
 zM 80 11,
 zR 81 (.ak 2) 79 80,
 zO 82 2 81,
 zR 83 (.ak 2) 71 72,
 zS 2 [.t 83,.t 78],
 zR 84 (.ak 2) 73 74,
 zS 2 [.t 84,.t 82]] [[],[],[],[],[],[],[],[],[],[],[],[],[],[],[],[]])
 (.seq (.ops [zM 85 11,
 zP 86 (.bin .add) [.t 85,zI 1],
 zM 11 86])
 (.ops [zM 87 12,
 zP 88 (.bin .sub) [.t 87,zI 1],
 zM 12 88])))))))
def Td:aC:=⟨90,[.tmp 10],
 (.seq (.ops [zV 10 0])
 (.seq (.bN [zM 13 0,
 zM 14 1,
 zM 15 0,
 zM 16 3,
 zM 17 0,
 zM 18 3,
 zR 19 (.ak 2) 17 18,
 zO 20 2 19,
 zM 21 0,
 zM 22 1,
 zR 23 (.ak 2) 21 22,
 zO 24 2 23,
 zR 25 (.ak 2) 13 14,
 zS 2 [.t 25,.t 20],
 zR 26 (.ak 2) 15 16,
 zS 2 [.t 26,.t 24]] [[],[],[],[],[],[],[],[],[],[],[],[],[],[],[],[]])
 (.seq (.ops [zM 27 1,
 zP 28 (.bin .add) [.t 27,zI 1],
 zM 29 2,
 zP 30 (.bin .sub) [.t 29,zI 1],
 zM 11 28,
 zM 12 30])
 (.seq (.block 0 (.loop gz))
 (.seq (.ops [zM 89 11,
 zM 10 89])
 .ret)))))⟩
def dK:AC:=(.seq (.seq (.bN [zM 32 12,
 zM 33 13,
 zR 34 (.bin .leq) 32 33,
 zM 35 34,
 bp 36 4 35 true,
 bp 37 0 35 true,
 bp 38 12 35 true,
 bK 39 (.ak 2) [.t 37,.t 38] 35 true,
 ⟨some 40,some (35,true),.r (.aO 2),[.t 39]⟩,
 bp 41 0 35 true,
 bp 42 1 35 true,
 bK 43 (.ak 2) [.t 41,.t 42] 35 true,
 ⟨some 44,some (35,true),.r (.aO 2),[.t 43]⟩,
 ⟨some 45,some (35,true),.call,[.t 36,.t 40,.t 44]⟩,
 bK 46 (.bin .lss) [.t 45,zI 0] 35 true,
 zP 47 .pick [.t 35,.t 46,.c (.bool false)]] [[],[],[],[],[],[],[],[],[],[],[],[],[],[],[],[]])
 (.cond (.t 47)
 .skip
 (.exit 0)))
 (.block 1 (.ops [zM 48 12,
 zP 49 (.bin .add) [.t 48,zI 1],
 zM 12 49])))
def dL:AC:=(.seq (.seq (.bN [zM 50 12,
 zM 51 13,
 zR 52 (.bin .leq) 50 51,
 zM 53 52,
 bp 54 4 53 true,
 bp 55 0 53 true,
 bp 56 13 53 true,
 bK 57 (.ak 2) [.t 55,.t 56] 53 true,
 ⟨some 58,some (53,true),.r (.aO 2),[.t 57]⟩,
 bp 59 0 53 true,
 bp 60 1 53 true,
 bK 61 (.ak 2) [.t 59,.t 60] 53 true,
 ⟨some 62,some (53,true),.r (.aO 2),[.t 61]⟩,
 ⟨some 63,some (53,true),.call,[.t 54,.t 58,.t 62]⟩,
 bK 64 (.bin .lss) [.t 63,zI 0] 53 true,
 bK 65 .not [.t 64] 53 true,
 zP 66 .pick [.t 53,.t 65,.c (.bool false)]] [[],[],[],[],[],[],[],[],[],[],[],[],[],[],[],[],[]])
 (.cond (.t 66)
 .skip
 (.exit 2)))
 (.block 3 (.ops [zM 67 13,
 zP 68 (.bin .sub) [.t 67,zI 1],
 zM 13 68])))
def dN:AC:=(.seq (.seq (.bN [zM 105 12,
 zM 106 13,
 zR 107 (.bin .leq) 105 106,
 zM 108 107,
 bp 109 4 108 true,
 bp 110 0 108 true,
 bp 111 12 108 true,
 bK 112 (.ak 2) [.t 110,.t 111] 108 true,
 ⟨some 113,some (108,true),.r (.aO 2),[.t 112]⟩,
 bp 114 0 108 true,
 bp 115 1 108 true,
 bK 116 (.ak 2) [.t 114,.t 115] 108 true,
 ⟨some 117,some (108,true),.r (.aO 2),[.t 116]⟩,
 ⟨some 118,some (108,true),.call,[.t 109,.t 113,.t 117]⟩,
 bK 119 (.bin .lss) [.t 118,zI 0] 108 true,
 zP 120 .pick [.t 108,.t 119,.c (.bool false)]] [[],[],[],[],[],[],[],[],[],[],[],[],[],[],[],[]])
 (.cond (.t 120)
 .skip
 (.exit 6)))
 (.block 7 (.ops [zM 121 12,
 zP 122 (.bin .add) [.t 121,zI 1],
 zM 12 122])))
def dO:AC:=(.seq (.seq (.bN [zM 123 12,
 zM 124 13,
 zR 125 (.bin .leq) 123 124,
 zM 126 125,
 bp 127 4 126 true,
 bp 128 0 126 true,
 bp 129 13 126 true,
 bK 130 (.ak 2) [.t 128,.t 129] 126 true,
 ⟨some 131,some (126,true),.r (.aO 2),[.t 130]⟩,
 bp 132 0 126 true,
 bp 133 1 126 true,
 bK 134 (.ak 2) [.t 132,.t 133] 126 true,
 ⟨some 135,some (126,true),.r (.aO 2),[.t 134]⟩,
 ⟨some 136,some (126,true),.call,[.t 127,.t 131,.t 135]⟩,
 bK 137 (.bin .lss) [.t 136,zI 0] 126 true,
 bK 138 .not [.t 137] 126 true,
 zP 139 .pick [.t 126,.t 138,.c (.bool false)]] [[],[],[],[],[],[],[],[],[],[],[],[],[],[],[],[],[]])
 (.cond (.t 139)
 .skip
 (.exit 8)))
 (.block 9 (.ops [zM 140 13,
 zP 141 (.bin .sub) [.t 140,zI 1],
 zM 13 141])))
def dM:AC:=(.block 5 (.seq (.block 6 (.loop dN))
 (.seq (.block 8 (.loop dO))
 (.seq (.seq (.ops [zM 142 12,
 zM 143 13,
 zR 144 (.bin .gtr) 142 143])
 (.cond (.t 144)
 (.exit 4)
 .skip))
 (.seq (.bN [zM 145 0,
 zM 146 12,
 zM 147 0,
 zM 148 13,
 zM 149 0,
 zM 150 13,
 zR 151 (.ak 2) 149 150,
 zO 152 2 151,
 zM 153 0,
 zM 154 12,
 zR 155 (.ak 2) 153 154,
 zO 156 2 155,
 zR 157 (.ak 2) 145 146,
 zS 2 [.t 157,.t 152],
 zR 158 (.ak 2) 147 148,
 zS 2 [.t 158,.t 156]] [[],[],[],[],[],[],[],[],[],[],[],[],[],[],[],[]])
 (.seq (.ops [zM 159 12,
 zP 160 (.bin .add) [.t 159,zI 1],
 zM 12 160])
 (.ops [zM 161 13,
 zP 162 (.bin .sub) [.t 161,zI 1],
 zM 13 162])))))))
def Sl:aC:=⟨178,[.tmp 10,.tmp 11],
 (.seq (.ops [zV 10 0,
 zK 11 (.bool false)])
 (.seq (.bN [zM 14 0,
 zM 15 1,
 zM 16 0,
 zM 17 3,
 zM 18 0,
 zM 19 3,
 zR 20 (.ak 2) 18 19,
 zO 21 2 20,
 zM 22 0,
 zM 23 1,
 zR 24 (.ak 2) 22 23,
 zO 25 2 24,
 zR 26 (.ak 2) 14 15,
 zS 2 [.t 26,.t 21],
 zR 27 (.ak 2) 16 17,
 zS 2 [.t 27,.t 25]] [[],[],[],[],[],[],[],[],[],[],[],[],[],[],[],[]])
 (.seq (.ops [zM 28 1,
 zP 29 (.bin .add) [.t 28,zI 1],
 zM 30 2,
 zP 31 (.bin .sub) [.t 30,zI 1],
 zM 12 29,
 zM 13 31])
 (.seq (.block 0 (.loop dK))
 (.seq (.block 2 (.loop dL))
 (.seq (.seq (.ops [zM 69 12,
 zM 70 13,
 zR 71 (.bin .gtr) 69 70])
 (.cond (.t 71)
 (.seq (.bN [zM 72 0,
 zM 73 13,
 zM 74 0,
 zM 75 1,
 zM 76 0,
 zM 77 1,
 zR 78 (.ak 2) 76 77,
 zO 79 2 78,
 zM 80 0,
 zM 81 13,
 zR 82 (.ak 2) 80 81,
 zO 83 2 82,
 zR 84 (.ak 2) 72 73,
 zS 2 [.t 84,.t 79],
 zR 85 (.ak 2) 74 75,
 zS 2 [.t 85,.t 83]] [[],[],[],[],[],[],[],[],[],[],[],[],[],[],[],[]])
 (.seq (.ops [zM 86 13,
 zM 10 86,
 zK 11 (.bool true)])
 .ret))
 .skip))
 (.seq (.bN [zM 87 0,
 zM 88 12,
 zM 89 0,
 zM 90 13,
 zM 91 0,
 zM 92 13,
 zR 93 (.ak 2) 91 92,
 zO 94 2 93,
 zM 95 0,
 zM 96 12,
 zR 97 (.ak 2) 95 96,
 zO 98 2 97,
 zR 99 (.ak 2) 87 88,
 zS 2 [.t 99,.t 94],
 zR 100 (.ak 2) 89 90,
 zS 2 [.t 100,.t 98]] [[],[],[],[],[],[],[],[],[],[],[],[],[],[],[],[]])
 (.seq (.ops [zM 101 12,
 zP 102 (.bin .add) [.t 101,zI 1],
 zM 12 102])
 (.seq (.ops [zM 103 13,
 zP 104 (.bin .sub) [.t 103,zI 1],
 zM 13 104])
 (.seq (.block 4 (.loop dM))
 (.seq (.bN [zM 163 0,
 zM 164 13,
 zM 165 0,
 zM 166 1,
 zM 167 0,
 zM 168 1,
 zR 169 (.ak 2) 167 168,
 zO 170 2 169,
 zM 171 0,
 zM 172 13,
 zR 173 (.ak 2) 171 172,
 zO 174 2 173,
 zR 175 (.ak 2) 163 164,
 zS 2 [.t 175,.t 170],
 zR 176 (.ak 2) 165 166,
 zS 2 [.t 176,.t 174]] [[],[],[],[],[],[],[],[],[],[],[],[],[],[],[],[]])
 (.seq (.ops [zM 177 13,
 zM 10 177,
 zK 11 (.bool false)])
 .ret))))))))))))⟩
def Te:aC:=⟨19,[.tmp 2],
 (.seq (.ops [zV 2 0])
 (.seq (.seq (.ops [zM 3 0,
 zP 4 (.bin .geq) [.t 3,.c (.int .u32 65536)]])
 (.cond (.t 4)
 (.seq (.ops [zM 5 0,
 zP 6 (.bin .shr) [.t 5,.c (.int .u64 16)],
 zM 0 6])
 (.ops [zV 2 16]))
 .skip))
 (.seq (.seq (.ops [zM 7 0,
 zP 8 (.bin .geq) [.t 7,.c (.int .u32 256)]])
 (.cond (.t 8)
 (.seq (.ops [zM 9 0,
 zP 10 (.bin .shr) [.t 9,.c (.int .u64 8)],
 zM 0 10])
 (.ops [zM 11 2,
 zP 12 (.bin .add) [.t 11,zI 8],
 zM 2 12]))
 .skip))
 (.seq (.ops [zM 13 2,
 zM 14 0,
 zQ 15 (.conv .u8) 14,
 zP 16 .za [.c (.str [0,1,2,2,3,3,3,3,4,4,4,4,4,4,4,4,5,5,5,5,5,5,5,5,5,5,5,5,5,5,5,5,6,6,6,6,6,6,6,6,6,6,6,6,6,6,6,6,6,6,6,6,6,6,6,6,6,6,6,6,6,6,6,6,7,7,7,7,7,7,7,7,7,7,7,7,7,7,7,7,7,7,7,7,7,7,7,7,7,7,7,7,7,7,7,7,7,7,7,7,7,7,7,7,7,7,7,7,7,7,7,7,7,7,7,7,7,7,7,7,7,7,7,7,7,7,7,7,8,8,8,8,8,8,8,8,8,8,8,8,8,8,8,8,8,8,8,8,8,8,8,8,8,8,8,8,8,8,8,8,8,8,8,8,8,8,8,8,8,8,8,8,8,8,8,8,8,8,8,8,8,8,8,8,8,8,8,8,8,8,8,8,8,8,8,8,8,8,8,8,8,8,8,8,8,8,8,8,8,8,8,8,8,8,8,8,8,8,8,8,8,8,8,8,8,8,8,8,8,8,8,8,8,8,8,8,8,8,8,8,8,8,8,8,8,8,8,8,8,8,8,8,8,8,8,8]),.t 15],
 zQ 17 (.conv .i64) 16,
 zR 18 (.bin .add) 13 17,
 zM 2 18])
 .ret))))⟩
def Sm:aC:=⟨25,[.tmp 2],
 (.seq (.ops [zV 2 0])
 (.seq (.seq (.ops [zM 3 0,
 zP 4 (.bin .geq) [.t 3,.c (.int .u64 4294967296)]])
 (.cond (.t 4)
 (.seq (.ops [zM 5 0,
 zP 6 (.bin .shr) [.t 5,.c (.int .u64 32)],
 zM 0 6])
 (.ops [zV 2 32]))
 .skip))
 (.seq (.seq (.ops [zM 7 0,
 zP 8 (.bin .geq) [.t 7,.c (.int .u64 65536)]])
 (.cond (.t 8)
 (.seq (.ops [zM 9 0,
 zP 10 (.bin .shr) [.t 9,.c (.int .u64 16)],
 zM 0 10])
 (.ops [zM 11 2,
 zP 12 (.bin .add) [.t 11,zI 16],
 zM 2 12]))
 .skip))
 (.seq (.seq (.ops [zM 13 0,
 zP 14 (.bin .geq) [.t 13,.c (.int .u64 256)]])
 (.cond (.t 14)
 (.seq (.ops [zM 15 0,
 zP 16 (.bin .shr) [.t 15,.c (.int .u64 8)],
 zM 0 16])
 (.ops [zM 17 2,
 zP 18 (.bin .add) [.t 17,zI 8],
 zM 2 18]))
 .skip))
 (.seq (.ops [zM 19 2,
 zM 20 0,
 zQ 21 (.conv .u8) 20,
 zP 22 .za [.c (.str [0,1,2,2,3,3,3,3,4,4,4,4,4,4,4,4,5,5,5,5,5,5,5,5,5,5,5,5,5,5,5,5,6,6,6,6,6,6,6,6,6,6,6,6,6,6,6,6,6,6,6,6,6,6,6,6,6,6,6,6,6,6,6,6,7,7,7,7,7,7,7,7,7,7,7,7,7,7,7,7,7,7,7,7,7,7,7,7,7,7,7,7,7,7,7,7,7,7,7,7,7,7,7,7,7,7,7,7,7,7,7,7,7,7,7,7,7,7,7,7,7,7,7,7,7,7,7,7,8,8,8,8,8,8,8,8,8,8,8,8,8,8,8,8,8,8,8,8,8,8,8,8,8,8,8,8,8,8,8,8,8,8,8,8,8,8,8,8,8,8,8,8,8,8,8,8,8,8,8,8,8,8,8,8,8,8,8,8,8,8,8,8,8,8,8,8,8,8,8,8,8,8,8,8,8,8,8,8,8,8,8,8,8,8,8,8,8,8,8,8,8,8,8,8,8,8,8,8,8,8,8,8,8,8,8,8,8,8,8,8,8,8,8,8,8,8,8,8,8,8,8,8,8,8,8,8]),.t 21],
 zQ 23 (.conv .i64) 22,
 zR 24 (.bin .add) 19 23,
 zM 2 24])
 .ret)))))⟩
def dX:AC:=(.block 1 (.seq (.ops [zM 13 10,
 zP 14 (.bin .mul) [zI 2,.t 13],
 zP 15 (.bin .add) [.t 14,zI 1],
 zM 11 15])
 (.seq (.seq (.ops [zM 16 11,
 zM 17 2,
 zR 18 (.bin .geq) 16 17])
 (.cond (.t 18)
 (.exit 0)
 .skip))
 (.seq (.seq (.bN [zM 19 11,
 zP 20 (.bin .add) [.t 19,zI 1],
 zM 21 2,
 zR 22 (.bin .lss) 20 21,
 zM 23 22,
 bp 24 4 23 true,
 bp 25 0 23 true,
 bp 26 3 23 true,
 bp 27 11 23 true,
 bK 28 (.bin .add) [.t 26,.t 27] 23 true,
 bK 29 (.ak 2) [.t 25,.t 28] 23 true,
 ⟨some 30,some (23,true),.r (.aO 2),[.t 29]⟩,
 bp 31 0 23 true,
 bp 32 3 23 true,
 bp 33 11 23 true,
 bK 34 (.bin .add) [.t 32,.t 33] 23 true,
 bK 35 (.bin .add) [.t 34,zI 1] 23 true,
 bK 36 (.ak 2) [.t 31,.t 35] 23 true,
 ⟨some 37,some (23,true),.r (.aO 2),[.t 36]⟩,
 ⟨some 38,some (23,true),.call,[.t 24,.t 30,.t 37]⟩,
 bK 39 (.bin .lss) [.t 38,zI 0] 23 true,
 zP 40 .pick [.t 23,.t 39,.c (.bool false)]] [[],[],[],[],[],[],[],[],[],[],[],[],[],[],[],[],[],[],[],[],[],[]])
 (.cond (.t 40)
 (.ops [zM 41 11,
 zP 42 (.bin .add) [.t 41,zI 1],
 zM 11 42])
 .skip))
 (.seq (.seq (.bN [zM 43 4,
 zM 44 0,
 zM 45 3,
 zM 46 10,
 zR 47 (.bin .add) 45 46,
 zR 48 (.ak 2) 44 47,
 zO 49 2 48,
 zM 50 0,
 zM 51 3,
 zM 52 11,
 zR 53 (.bin .add) 51 52,
 zR 54 (.ak 2) 50 53,
 zO 55 2 54,
 ⟨some 56,none,.call,[.t 43,.t 49,.t 55]⟩,
 zP 57 (.bin .lss) [.t 56,zI 0],
 zQ 58 .not 57] [[],[],[],[],[],[],[],[],[],[],[],[],[],[],[],[]])
 (.cond (.t 58)
 .ret
 .skip))
 (.seq (.bN [zM 59 0,
 zM 60 3,
 zM 61 10,
 zR 62 (.bin .add) 60 61,
 zM 63 0,
 zM 64 3,
 zM 65 11,
 zR 66 (.bin .add) 64 65,
 zM 67 0,
 zM 68 3,
 zM 69 11,
 zR 70 (.bin .add) 68 69,
 zR 71 (.ak 2) 67 70,
 zO 72 2 71,
 zM 73 0,
 zM 74 3,
 zM 75 10,
 zR 76 (.bin .add) 74 75,
 zR 77 (.ak 2) 73 76,
 zO 78 2 77,
 zR 79 (.ak 2) 59 62,
 zS 2 [.t 79,.t 72],
 zR 80 (.ak 2) 63 66,
 zS 2 [.t 80,.t 78]] [[],[],[],[],[],[],[],[],[],[],[],[],[],[],[],[],[],[],[],[],[],[],[],[]])
 (.ops [zM 81 11,
 zM 10 81])))))))
def Sn:aC:=⟨82,[],
 (.seq (.ops [zM 12 1,
 zM 10 12])
 (.block 0 (.loop dX)))⟩
def Tf:aC:=⟨7,[.tmp 2],
 (.seq (.ops [zP 2 .Fy [.c (.int .u64 0)]])
 (.seq (.ops [zM 3 0,
 zQ 4 (.conv .u64) 3,
 jP 5 67 4,
 zP 6 (.bin .shl) [.c (.int .u64 1),.t 5],
 zM 2 6])
 .ret))⟩
def So:aC:=⟨33,[.tmp 2],
 (.seq (.ops [zP 2 .Fy [.c (.int .u64 0)]])
 (.seq (.bN [zM 3 0,
 zN 4 3,
 zL 5 4,
 zM 6 0,
 zN 7 6,
 zL 8 7,
 zP 9 (.bin .shl) [.t 8,.c (.int .u64 13)],
 zR 10 (.bin .xor) 5 9,
 zN 11 3,
 zS 1 [.t 11,.t 10]] [[],[],[],[],[],[],[],[],[],[]])
 (.seq (.bN [zM 12 0,
 zN 13 12,
 zL 14 13,
 zM 15 0,
 zN 16 15,
 zL 17 16,
 zP 18 (.bin .shr) [.t 17,.c (.int .u64 7)],
 zR 19 (.bin .xor) 14 18,
 zN 20 12,
 zS 1 [.t 20,.t 19]] [[],[],[],[],[],[],[],[],[],[]])
 (.seq (.bN [zM 21 0,
 zN 22 21,
 zL 23 22,
 zM 24 0,
 zN 25 24,
 zL 26 25,
 zP 27 (.bin .shl) [.t 26,.c (.int .u64 17)],
 zR 28 (.bin .xor) 23 27,
 zN 29 21,
 zS 1 [.t 29,.t 28]] [[],[],[],[],[],[],[],[],[],[]])
 (.seq (.ops [zM 30 0,
 zN 31 30,
 zL 32 31,
 zM 2 32])
 .ret)))))⟩
def Sq:aC:=⟨18,[.tmp 8],
 (.seq (.ops [zV 8 0])
 (.seq (.ops [zM 9 0,
 zM 10 1,
 zP 11 (.bin .sub) [.t 10,zI 1],
 zM 12 1,
 zM 13 1,
 zP 14 (.bin .add) [.t 13,zI 1],
 zM 15 2,
 zM 16 3,
 zC 17 85 [.t 9,.t 11,.t 12,.t 14,.t 15,.t 16],
 zM 8 17])
 .ret))⟩
def Sr:aC:=⟨41,[.tmp 12],
 (.seq (.ops [zV 12 0])
 (.seq (.ops [zM 14 0,
 zM 15 1,
 zM 16 2,
 zM 17 4,
 zM 18 5,
 KM 19 86 14 15 16 17 18,
 zM 13 19,
 zQ 20 (.ext 0) 13,
 zQ 21 (.ext 1) 13,
 zM 1 20,
 zM 2 21])
 (.seq (.ops [zM 23 0,
 zM 24 2,
 zM 25 3,
 zM 26 4,
 zM 27 5,
 KM 28 86 23 24 25 26 27,
 zM 22 28,
 zQ 29 (.ext 0) 22,
 zQ 30 (.ext 1) 22,
 zM 2 29,
 zM 3 30])
 (.seq (.ops [zM 32 0,
 zM 33 1,
 zM 34 2,
 zM 35 4,
 zM 36 5,
 KM 37 86 32 33 34 35 36,
 zM 31 37,
 zQ 38 (.ext 0) 31,
 zQ 39 (.ext 1) 31,
 zM 1 38,
 zM 2 39])
 (.seq (.ops [zM 40 2,
 zM 12 40])
 .ret)))))⟩
def Ss:aC:=⟨32,[.tmp 10,.tmp 11],
 (.seq (.ops [zV 10 0,
 zV 11 0])
 (.seq (.seq (.bN [zM 12 4,
 zM 13 0,
 zM 14 2,
 zR 15 (.ak 2) 13 14,
 zO 16 2 15,
 zM 17 0,
 zM 18 1,
 zR 19 (.ak 2) 17 18,
 zO 20 2 19,
 ⟨some 21,none,.call,[.t 12,.t 16,.t 20]⟩,
 zP 22 (.bin .lss) [.t 21,zI 0]] [[],[],[],[],[],[],[],[],[],[],[]])
 (.cond (.t 22)
 (.seq (.ops [zM 23 3,
 zN 24 23,
 zL 25 24,
 zP 26 (.bin .add) [.t 25,zI 1],
 zN 27 23,
 zS 1 [.t 27,.t 26]])
 (.seq (.ops [zM 28 2,
 zM 29 1,
 zM 10 28,
 zM 11 29])
 .ret))
 .skip))
 (.seq (.ops [zM 30 1,
 zM 31 2,
 zM 10 30,
 zM 11 31])
 .ret)))⟩
def T:Tr aC:=(.node (.node (.node (.node (.node (.node (.node .nil (some R7) .nil) (some OH) .nil) (some OA) (.node (.node .nil (some Te) .nil) (some NW) .nil)) (some C7) (.node (.node (.node .nil (some OP) .nil) (some OL) .nil) (some RG) (.node .nil (some RZ) .nil))) (some C3) (.node (.node (.node (.node .nil (some Sc) .nil) (some RN) .nil) (some NU) (.node (.node .nil (some So) .nil) (some RV) .nil)) (some Tb) (.node (.node (.node .nil (some Sj) .nil) (some RP) .nil) (some RI) (.node .nil (some R3) .nil)))) none (.node (.node (.node (.node (.node .nil (some R9) .nil) (some OI) .nil) (some OC) (.node (.node .nil (some Sn) .nil) (some RT) .nil)) (some C9) (.node (.node (.node .nil (some Sh) .nil) (some ON) .nil) (some OE) (.node .nil (some R2) .nil))) (some C5) (.node (.node (.node (.node .nil (some Se) .nil) (some OJ) .nil) (some RE) (.node (.node .nil (some Sr) .nil) (some RX) .nil)) (some RC) (.node (.node (.node .nil (some Td) .nil) (some RQ) .nil) (some OG) (.node .nil (some R5) .nil))))) none (.node (.node (.node (.node (.node (.node .nil (some R8) .nil) (some RL) .nil) (some OB) (.node (.node .nil (some Sm) .nil) (some RR) .nil)) (some C8) (.node (.node (.node .nil (some Sg) .nil) (some OM) .nil) (some RH) (.node .nil (some R1) .nil))) (some C4) (.node (.node (.node (.node .nil (some Sd) .nil) (some Tc) .nil) (some RD) (.node (.node .nil (some Sq) .nil) (some RW) .nil)) (some RB) (.node (.node (.node .nil (some Sk) .nil) (some NV) .nil) (some RJ) (.node .nil (some R4) .nil)))) none (.node (.node (.node (.node (.node .nil (some Lv) .nil) (some RM) .nil) (some OD) (.node (.node .nil (some Tf) .nil) (some RU) .nil)) (some RA) (.node (.node (.node .nil (some Si) .nil) (some RO) .nil) (some OF) (.node .nil (some NX) .nil))) (some C6) (.node (.node (.node (.node .nil (some Sf) .nil) (some OK) .nil) (some RF) (.node (.node .nil (some Ss) .nil) (some RY) .nil)) (some Oz) (.node (.node (.node .nil (some Sl) .nil) (some OO) .nil) (some RK) (.node .nil (some R6) .nil))))))
def fs(f:Nat):Option aC:=Tr.get T f
def ms(t:Nat)(n:String):Option Nat:=none
end Ir
end Go.Proofs.Ytenafeojcgmnhaa
