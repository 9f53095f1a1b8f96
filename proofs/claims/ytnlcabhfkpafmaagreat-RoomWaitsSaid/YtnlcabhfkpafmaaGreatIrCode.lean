/-
  What the program's functions are in Ads, printed by a program.
-/
import Derived.Test.YtnlcabhfkpafmaaGreatAdsDef
set_option linter.unusedVariables false
set_option maxRecDepth 100000
namespace Go.Proofs.YtnlcabhfkpafmaaGreat
open Go Ads
namespace Ir
abbrev zM(d s:Nat):bu:=⟨some d,none,.p .Ly,[.t s]⟩
abbrev zF(d s o:Nat):bu:=⟨some d,none,.p (.vO o),[.t s]⟩
abbrev zN(d s:Nat):bu:=⟨some d,none,.p .pT,[.t s]⟩
abbrev zL(d s:Nat):bu:=⟨some d,none,.r .bY,[.t s]⟩
abbrev bH(d s g:Nat)(b:Bool):bu:=⟨some d,some (g,b),.p .Ly,[.t s]⟩
abbrev lC(d s o g:Nat)(b:Bool):bu:=⟨some d,some (g,b),.p (.vO o),[.t s]⟩
abbrev su(d s g:Nat)(b:Bool):bu:=⟨some d,some (g,b),.p .pT,[.t s]⟩
abbrev kT(d s g:Nat)(b:Bool):bu:=⟨some d,some (g,b),.r .bY,[.t s]⟩
abbrev zP(d:Nat)(o:qk)(l:List bE):bu:=⟨some d,none,.p o,l⟩
abbrev bV(d:Nat)(o:qk)(l:List bE)(g:Nat)(b:Bool):bu:=⟨some d,some (g,b),.p o,l⟩
abbrev zS(n:Nat)(l:List bE):bu:=⟨none,none,.e (.store n),l⟩
abbrev zz:AV:=.int .i64 0
abbrev zI(n:Int):bE:=.c (.int .i64 n)
abbrev zC(d f:Nat)(l:List bE):bu:=⟨some d,none,.call,.c (.func (.func f) [] [])::l⟩
abbrev gz(d f:Nat)(l:List bE)(g:Nat)(b:Bool):bu:=⟨some d,some (g,b),.call,.c (.func (.func f) [] [])::l⟩
abbrev XK(d f:Nat):bu:=⟨some d,none,.call,[.c (.func (.func f) [] [])]⟩
abbrev eY(d f v:Nat):bu:=⟨some d,none,.call,[.c (.func (.func f) [] []),.t v]⟩
abbrev iR(d f v w:Nat):bu:=⟨some d,none,.call,[.c (.func (.func f) [] []),.t v,.t w]⟩
abbrev Ec(d f v w x:Nat):bu:=⟨some d,none,.call,[.c (.func (.func f) [] []),.t v,.t w,.t x]⟩
abbrev SJ(d f v w x y:Nat):bu:=⟨some d,none,.call,[.c (.func (.func f) [] []),.t v,.t w,.t x,.t y]⟩
abbrev XL(d f v w x y z:Nat):bu:=⟨some d,none,.call,[.c (.func (.func f) [] []),.t v,.t w,.t x,.t y,.t z]⟩
abbrev zQ(d:Nat)(o:qk)(a:Nat):bu:=⟨some d,none,.p o,[.t a]⟩
abbrev zR(d:Nat)(o:qk)(a b:Nat):bu:=⟨some d,none,.p o,[.t a,.t b]⟩
abbrev zO(d n s:Nat):bu:=⟨some d,none,.r (.bf n),[.t s]⟩
abbrev zV(d:Nat)(n:Int):bu:=⟨some d,none,.p .Ly,[.c (.int .i64 n)]⟩
abbrev zK(d:Nat)(v:AV):bu:=⟨some d,none,.p .Ly,[.c v]⟩
abbrev zB(d s:Nat):bu:=⟨some d,none,.a .box,[.t s]⟩
abbrev zA(d n b x y:Nat):bu:=⟨some d,none,.e (.append n b),[.t x,.t y]⟩
def gj:AC:=(.seq (.seq (.ops [zM 60 10,
 zM 61 8,
 zN 62 61,
 zF 63 62 3,
 zL 64 63,
 zQ 65 .bX 64,
 zR 66 (.bin .lss) 60 65])
 (.cond (.t 66)
 .skip
 (.exit 2)))
 (.seq (.block 3 (.seq (.ops [zM 70 6,
 zM 71 8,
 zN 72 71,
 zF 73 72 3,
 zL 74 73,
 zM 75 10,
 zP 76 (.bin .sub) [.t 75,zI 1],
 zR 77 (.aG 1) 74 76,
 zL 78 77,
 iR 79 13 70 78,
 zM 69 79,
 zQ 80 (.ext 0) 69,
 zQ 81 (.ext 1) 69,
 zM 11 80,
 zM 12 81])
 (.seq (.ops [zM 83 6,
 zM 84 8,
 zN 85 84,
 zF 86 85 3,
 zL 87 86,
 zM 88 10,
 zR 89 (.aG 1) 87 88,
 zL 90 89,
 iR 91 13 83 90,
 zM 82 91,
 zQ 92 (.ext 0) 82,
 zQ 93 (.ext 1) 82,
 zM 13 92,
 zM 14 93])
 (.seq (.ops [zM 94 12,
 zQ 95 .not 94,
 zM 96 95,
 bH 97 14 96 false,
 bV 98 .not [.t 97] 96 false,
 zP 99 .pick [.t 96,.c (.bool true),.t 98],
 zM 100 99,
 bH 101 13 100 false,
 bH 102 11 100 false,
 bV 103 (.bin .gtr) [.t 101,.t 102] 100 false,
 zP 104 .pick [.t 100,.c (.bool true),.t 103]])
 (.cond (.t 104)
 (.seq (.ops [zK 4 (.bool false)])
 .ret)
 .skip)))))
 (.ops [zM 67 10,
 zP 68 (.bin .add) [.t 67,zI 1],
 zM 10 68])))
def ga:AC:=(.seq (.seq (.ops [zM 42 9,
 zM 43 1,
 zQ 44 .bX 43,
 zR 45 (.bin .lss) 42 44,
 zM 46 45,
 bH 47 9 46 true,
 bV 48 (.bin .lss) [.t 47,zI 150] 46 true,
 zP 49 .pick [.t 46,.t 48,.c (.bool false)]])
 (.cond (.t 49)
 .skip
 (.exit 0)))
 (.seq (.block 1 (.seq (.seq (.ops [zM 52 8,
 zM 53 1,
 zM 54 9,
 zR 55 (.aG 1) 53 54,
 zL 56 55,
 zC 57 12 [.t 56,zI 9600],
 iR 58 11 52 57,
 zQ 59 .not 58])
 (.cond (.t 59)
 (.seq (.ops [zK 4 (.bool false)])
 .ret)
 .skip))
 (.seq (.ops [zV 10 1])
 (.block 2 (.loop gj)))))
 (.ops [zM 50 9,
 zP 51 (.bin .add) [.t 50,zI 1],
 zM 9 51])))
def C3:aq:=⟨105,[.tmp 4],
 (.seq (.ops [zK 4 (.bool false)])
 (.seq (.seq (.ops [XK 15 7,
 zQ 16 .not 15])
 (.cond (.t 16)
 (.seq (.ops [zK 4 (.bool false)])
 .ret)
 .skip))
 (.seq (.ops [zM 17 0,
 eY 18 8 17,
 zM 5 18])
 (.seq (.ops [zM 20 5,
 eY 21 9 20,
 zM 19 21,
 zQ 22 (.ext 0) 19,
 zQ 23 (.ext 1) 19,
 zM 6 22,
 zM 7 23])
 (.seq (.seq (.ops [zM 24 7,
 zP 25 (.bin .neq) [.t 24,zI 0],
 zM 26 25,
 bH 27 6 26 false,
 bV 28 (.eq .dh) [.t 27,.c .bq] 26 false,
 zP 29 .pick [.t 26,.c (.bool true),.t 28],
 zM 30 29,
 bH 31 5 30 false,
 bH 32 5 30 false,
 bV 33 .bX [.t 32] 30 false,
 ⟨some 34,some (30,false),.a (.jH [zz] 1 8),[.t 33,.t 33]⟩,
 gz 35 10 [.t 31,.t 34] 30 false,
 bV 36 (.bin .neq) [.t 35,zI 0] 30 false,
 zP 37 .pick [.t 30,.c (.bool true),.t 36]])
 (.cond (.t 37)
 (.seq (.ops [zK 4 (.bool false)])
 .ret)
 .skip))
 (.seq (.ops [zM 38 6,
 zM 39 5,
 zR 40 (.build [.bq,.aH,zz,.aH] [(0,1),(1,1)]) 38 39,
 zB 41 40,
 zM 8 41])
 (.seq (.seq (.ops [zV 9 0])
 (.block 0 (.loop ga)))
 (.seq (.ops [zK 4 (.bool true)])
 .ret))))))))⟩
def dJ:AC:=(.seq (.seq (.ops [zM 88 18,
 zM 89 5,
 zQ 90 .bX 89,
 zR 91 (.bin .lss) 88 90,
 zM 92 91,
 bH 93 17 92 true,
 zP 94 .pick [.t 92,.t 93,.c (.bool false)],
 zM 95 94,
 bH 96 15 95 true,
 bV 97 .not [.t 96] 95 true,
 zP 98 .pick [.t 95,.t 97,.c (.bool false)]])
 (.cond (.t 98)
 .skip
 (.exit 2)))
 (.seq (.block 3 (.seq (.cB [zM 101 13,
 zM 102 18,
 zM 103 6,
 zM 104 18,
 iR 105 14 103 104,
 zQ 106 .bX 105,
 zP 107 (.bin .gtr) [.t 106,zI 0],
 zR 108 (.dR 4 4) 9 101,
 zR 109 (.dR 1 4) 108 102,
 zS 1 [.t 109,.t 107]] [[],[],[],[],[],[],[],[],[],[]])
 (.ops [zM 110 13,
 zR 111 (.dR 1 4) 10 110,
 zS 1 [.t 111,zI 0]])))
 (.ops [zM 99 18,
 zP 100 (.bin .add) [.t 99,zI 1],
 zM 18 100])))
def dK:AC:=(.seq (.seq (.ops [zM 123 23,
 zM 124 5,
 zQ 125 .bX 124,
 zR 126 (.bin .lss) 123 125,
 zM 127 126,
 bH 128 20 127 true,
 zP 129 .pick [.t 127,.t 128,.c (.bool false)],
 zM 130 129,
 bH 131 22 130 true,
 zP 132 .pick [.t 130,.t 131,.c (.bool false)]])
 (.cond (.t 132)
 .skip
 (.exit 4)))
 (.seq (.block 5 (.seq (.ops [zM 136 6,
 zM 137 23,
 iR 138 13 136 137,
 zM 135 138,
 zQ 139 (.ext 0) 135,
 zQ 140 (.ext 1) 135,
 zM 24 139,
 zM 25 140])
 (.seq (.seq (.ops [zM 141 25,
 zQ 142 .not 141,
 zM 143 142,
 bH 144 24 143 false,
 bH 145 21 143 false,
 bV 146 (.bin .geq) [.t 144,.t 145] 143 false,
 zP 147 .pick [.t 143,.c (.bool true),.t 146],
 zM 148 147,
 bH 149 23 148 false,
 bH 150 19 148 false,
 bV 151 (.bin .eql) [.t 149,.t 150] 148 false,
 zP 152 .pick [.t 148,.c (.bool true),.t 151]])
 (.cond (.t 152)
 (.exit 5)
 .skip))
 (.seq (.seq (.ops [zM 153 6,
 zM 154 19,
 iR 155 14 153 154,
 zQ 156 .bX 155,
 zP 157 (.bin .eql) [.t 156,zI 0],
 zM 158 157,
 bH 159 19 158 false,
 bV 160 (.bin .geq) [.t 159,zI 4] 158 false,
 zP 161 .pick [.t 158,.c (.bool true),.t 160],
 zM 162 161,
 bH 163 23 162 false,
 bH 164 19 162 false,
 bV 165 (.dR 4 4) [.t 9,.t 163] 162 false,
 bV 166 (.dR 1 4) [.t 165,.t 164] 162 false,
 kT 167 166 162 false,
 bV 168 .not [.t 167] 162 false,
 zP 169 .pick [.t 162,.c (.bool true),.t 168],
 zM 170 169,
 bH 171 23 170 false,
 bV 172 (.dR 1 4) [.t 10,.t 171] 170 false,
 kT 173 172 170 false,
 bV 174 (.bin .neq) [.t 173,zI 0] 170 false,
 bH 175 174 170 false,
 bH 176 23 175 true,
 bV 177 (.dR 1 4) [.t 10,.t 176] 175 true,
 kT 178 177 175 true,
 bH 179 19 175 true,
 bV 180 (.bin .add) [.t 179,zI 1] 175 true,
 bV 181 (.bin .neq) [.t 178,.t 180] 175 true,
 bV 182 .pick [.t 175,.t 181,.c (.bool false)] 170 false,
 zP 183 .pick [.t 170,.c (.bool true),.t 182]])
 (.cond (.t 183)
 (.seq (.ops [zK 4 (.bool false)])
 .ret)
 .skip))
 (.ops [zM 184 23,
 zM 185 19,
 zP 186 (.bin .add) [.t 185,zI 1],
 zR 187 (.dR 1 4) 10 184,
 zS 1 [.t 187,.t 186]])))))
 (.ops [zM 133 23,
 zP 134 (.bin .add) [.t 133,zI 1],
 zM 23 134])))
def fD:AC:=(.seq (.seq (.ops [zM 198 27,
 zM 199 5,
 zQ 200 .bX 199,
 zR 201 (.bin .lss) 198 200])
 (.cond (.t 201)
 .skip
 (.exit 8)))
 (.seq (.block 9 (.cB [zM 204 26,
 zM 205 27,
 zM 206 26,
 zM 207 27,
 zR 208 (.dR 4 4) 9 206,
 zR 209 (.dR 1 4) 208 207,
 zL 210 209,
 zM 211 210,
 bH 212 6 211 true,
 bH 213 27 211 true,
 gz 214 14 [.t 212,.t 213] 211 true,
 bV 215 .bX [.t 214] 211 true,
 bV 216 (.bin .gtr) [.t 215,zI 0] 211 true,
 zP 217 .pick [.t 211,.t 216,.c (.bool false)],
 zR 218 (.dR 4 4) 9 204,
 zR 219 (.dR 1 4) 218 205,
 zS 1 [.t 219,.t 217]] [[],[],[],[],[],[],[],[],[],[],[],[],[],[],[],[],[]]))
 (.ops [zM 202 27,
 zP 203 (.bin .add) [.t 202,zI 1],
 zM 27 203])))
def fA:AC:=(.seq (.seq (.ops [zM 192 26,
 zM 193 5,
 zQ 194 .bX 193,
 zR 195 (.bin .lss) 192 194])
 (.cond (.t 195)
 .skip
 (.exit 6)))
 (.seq (.block 7 (.seq (.ops [zV 27 0])
 (.block 8 (.loop fD))))
 (.ops [zM 196 26,
 zP 197 (.bin .add) [.t 196,zI 1],
 zM 26 197])))
def cH:AC:=(.seq (.seq (.ops [zM 45 11,
 zM 46 1,
 zQ 47 .bX 46,
 zR 48 (.bin .lss) 45 47,
 zM 49 48,
 bH 50 11 49 true,
 bV 51 (.bin .lss) [.t 50,zI 150] 49 true,
 zP 52 .pick [.t 49,.t 51,.c (.bool false)]])
 (.cond (.t 52)
 .skip
 (.exit 0)))
 (.seq (.block 1 (.seq (.ops [zM 55 1,
 zM 56 11,
 zR 57 (.aG 1) 55 56,
 zL 58 57,
 zC 59 12 [.t 58,zI 9600],
 zM 12 59])
 (.seq (.seq (.ops [zM 60 12,
 zP 61 (.bin .rem) [.t 60,zI 3],
 zP 62 (.bin .eql) [.t 61,zI 0],
 zM 63 62,
 bH 64 5 63 true,
 bV 65 .bX [.t 64] 63 true,
 bV 66 (.bin .gtr) [.t 65,zI 0] 63 true,
 zP 67 .pick [.t 63,.t 66,.c (.bool false)]])
 (.cond (.t 67)
 (.seq (.ops [zM 68 12,
 zP 69 (.bin .quo) [.t 68,zI 3],
 zM 70 5,
 zQ 71 .bX 70,
 zR 72 (.bin .rem) 69 71,
 zM 13 72])
 (.seq (.ops [zM 74 6,
 zM 75 13,
 iR 76 13 74 75,
 zM 73 76,
 zQ 77 (.ext 0) 73,
 zQ 78 (.ext 1) 73,
 zM 14 77,
 zM 15 78])
 (.seq (.ops [zM 79 8,
 zM 80 12,
 iR 81 11 79 80])
 (.seq (.ops [zM 83 6,
 zM 84 13,
 iR 85 13 83 84,
 zM 82 85,
 zQ 86 (.ext 0) 82,
 zQ 87 (.ext 1) 82,
 zM 16 86,
 zM 17 87])
 (.seq (.seq (.ops [zV 18 0])
 (.block 2 (.loop dJ)))
 (.exit 1))))))
 .skip))
 (.seq (.ops [zM 113 6,
 eY 114 15 113,
 zM 112 114,
 zQ 115 (.ext 0) 112,
 zQ 116 (.ext 1) 112,
 zM 19 115,
 zM 20 116])
 (.seq (.ops [zM 118 6,
 zM 119 19,
 iR 120 13 118 119,
 zM 117 120,
 zQ 121 (.ext 0) 117,
 zQ 122 (.ext 1) 117,
 zM 21 121,
 zM 22 122])
 (.seq (.seq (.ops [zV 23 0])
 (.block 4 (.loop dK)))
 (.seq (.seq (.ops [zM 188 8,
 zM 189 12,
 iR 190 11 188 189,
 zQ 191 .not 190])
 (.cond (.t 191)
 (.seq (.ops [zK 4 (.bool false)])
 .ret)
 .skip))
 (.seq (.ops [zV 26 0])
 (.block 6 (.loop fA))))))))))
 (.ops [zM 53 11,
 zP 54 (.bin .add) [.t 53,zI 1],
 zM 11 54])))
def C4:aq:=⟨221,[.tmp 4],
 (.seq (.ops [zK 4 (.bool false)])
 (.seq (.ops [zM 28 0,
 eY 29 8 28,
 zM 5 29])
 (.seq (.ops [zM 31 5,
 eY 32 9 31,
 zM 30 32,
 zQ 33 (.ext 0) 30,
 zQ 34 (.ext 1) 30,
 zM 6 33,
 zM 7 34])
 (.seq (.seq (.ops [zM 35 7,
 zP 36 (.bin .neq) [.t 35,zI 0],
 zM 37 36,
 bH 38 6 37 false,
 bV 39 (.eq .dh) [.t 38,.c .bq] 37 false,
 zP 40 .pick [.t 37,.c (.bool true),.t 39]])
 (.cond (.t 40)
 (.seq (.ops [zK 4 (.bool false)])
 .ret)
 .skip))
 (.seq (.ops [zM 41 6,
 zM 42 5,
 zR 43 (.build [.bq,.aH,zz,.aH] [(0,1),(1,1)]) 41 42,
 zB 44 43,
 zM 8 44])
 (.seq (.ops [⟨some 9,none,.a (.alloc [(.bool false),(.bool false),(.bool false),(.bool false),(.bool false),(.bool false),(.bool false),(.bool false),(.bool false),(.bool false),(.bool false),(.bool false),(.bool false),(.bool false),(.bool false),(.bool false)]),[]⟩])
 (.seq (.ops [⟨some 10,none,.a (.alloc [zz,zz,zz,zz]),[]⟩])
 (.seq (.seq (.ops [zV 11 0])
 (.block 0 (.loop cH)))
 (.seq (.ops [XK 220 7,
 zM 4 220])
 .ret)))))))))⟩
def ko:AC:=(.seq (.seq (.ops [zM 253 17,
 zP 254 (.bin .lss) [.t 253,zI 2]])
 (.cond (.t 254)
 .skip
 (.exit 0)))
 (.seq (.block 1 (.seq (.ops [zM 258 16,
 eY 259 15 258,
 zM 257 259,
 zQ 260 (.ext 0) 257,
 zQ 261 (.ext 1) 257,
 zM 18 260,
 zM 19 261])
 (.seq (.ops [zM 263 16,
 zC 264 35 [.t 263,zI 0],
 zM 262 264,
 zQ 265 (.ext 0) 262,
 zQ 266 (.ext 1) 262,
 ⟨some 20,none,.a (.alloc [zz,zz,(.str [])]),[]⟩,
 zS 3 [.t 20,.t 265],
 zM 21 266])
 (.seq (.ops [zM 268 16,
 eY 269 30 268,
 zM 267 269,
 zQ 270 (.ext 0) 267,
 zQ 271 (.ext 1) 267,
 zQ 272 (.ext 2) 267,
 zM 22 270,
 zM 23 271,
 zM 24 272])
 (.seq (.ops [zM 274 16,
 zC 275 13 [.t 274,zI 0],
 zM 273 275,
 zQ 276 (.ext 0) 273,
 zQ 277 (.ext 1) 273,
 zM 25 276,
 zM 26 277])
 (.seq (.seq (.ops [zM 278 16,
 zC 279 28 [.t 278,zI 9,.c .aH,zI 0],
 zP 280 (.bin .neq) [.t 279,zI 1],
 zM 281 280,
 bH 282 16 281 false,
 gz 283 20 [.t 282,zI 0] 281 false,
 bV 284 (.bin .neq) [.t 283,zI 1] 281 false,
 zP 285 .pick [.t 281,.c (.bool true),.t 284],
 zM 286 285,
 bH 287 16 286 false,
 gz 288 21 [.t 287,zI 0] 286 false,
 bV 289 (.bin .neq) [.t 288,zI 1] 286 false,
 zP 290 .pick [.t 286,.c (.bool true),.t 289],
 zM 291 290,
 bH 292 16 291 false,
 gz 293 22 [.t 292,zI 0,zI 0] 291 false,
 bV 294 (.bin .neq) [.t 293,zI 1] 291 false,
 zP 295 .pick [.t 291,.c (.bool true),.t 294],
 zM 296 295,
 bH 297 16 296 false,
 gz 298 23 [.t 297,zI 0] 296 false,
 bV 299 (.bin .neq) [.t 298,zI 1] 296 false,
 zP 300 .pick [.t 296,.c (.bool true),.t 299],
 zM 301 300,
 bH 302 16 301 false,
 gz 303 24 [.t 302,zI 0] 301 false,
 bV 304 (.bin .neq) [.t 303,zI 1] 301 false,
 zP 305 .pick [.t 301,.c (.bool true),.t 304],
 zM 306 305,
 bH 307 16 306 false,
 gz 308 25 [.t 307,zI 0] 306 false,
 bV 309 (.bin .neq) [.t 308,zI 1] 306 false,
 zP 310 .pick [.t 306,.c (.bool true),.t 309],
 zM 311 310,
 bH 312 16 311 false,
 gz 313 26 [.t 312,zI 0] 311 false,
 bV 314 (.bin .neq) [.t 313,zI 1] 311 false,
 zP 315 .pick [.t 311,.c (.bool true),.t 314],
 zM 316 315,
 bH 317 16 316 false,
 gz 318 32 [.t 317,zI 0,zI 0] 316 false,
 bV 319 (.bin .neq) [.t 318,zI 0] 316 false,
 zP 320 .pick [.t 316,.c (.bool true),.t 319],
 zM 321 320,
 bH 322 16 321 false,
 gz 323 27 [.t 322,zI 0] 321 false,
 zP 324 .pick [.t 321,.c (.bool true),.t 323],
 zM 325 324,
 bH 326 19 325 false,
 zP 327 .pick [.t 325,.c (.bool true),.t 326],
 zM 328 327,
 bH 329 21 328 false,
 zP 330 .pick [.t 328,.c (.bool true),.t 329],
 zM 331 330,
 bH 332 24 331 false,
 zP 333 .pick [.t 331,.c (.bool true),.t 332],
 zM 334 333,
 bH 335 26 334 false,
 zP 336 .pick [.t 334,.c (.bool true),.t 335],
 zM 337 336,
 bH 338 16 337 false,
 gz 339 29 [.t 338,zI 0] 337 false,
 bV 340 (.bin .neq) [.t 339,zI 0] 337 false,
 zP 341 .pick [.t 337,.c (.bool true),.t 340],
 zM 342 341,
 bH 343 16 342 false,
 gz 344 14 [.t 343,zI 0] 342 false,
 bV 345 .bX [.t 344] 342 false,
 bH 346 16 342 false,
 gz 347 34 [.t 346] 342 false,
 bV 348 .bX [.t 347] 342 false,
 bV 349 (.bin .add) [.t 345,.t 348] 342 false,
 bV 350 (.bin .neq) [.t 349,zI 0] 342 false,
 zP 351 .pick [.t 342,.c (.bool true),.t 350]])
 (.cond (.t 351)
 (.seq (.ops [zK 0 (.bool false)])
 .ret)
 .skip))
 (.ops [zP 352 (.build [.bq,.bq,.aH,.aH,.aH] []) [],
 zB 353 352,
 zM 16 353])))))))
 (.ops [zM 255 17,
 zP 256 (.bin .add) [.t 255,zI 1],
 zM 17 256])))
def C6:aq:=⟨377,[.tmp 0],
 (.seq (.ops [zK 0 (.bool false)])
 (.seq (.ops [zP 28 (.build [zz,zz,zz,zz,zz,zz,zz,zz] []) [],
 ⟨some 29,none,.a (.dA [zz,zz,zz,zz,zz,zz,zz,zz] 1 8 [0]),[.t 28]⟩,
 eY 30 9 29,
 zM 27 30,
 zQ 31 (.ext 0) 27,
 zQ 32 (.ext 1) 27,
 zM 1 31,
 zM 2 32])
 (.seq (.ops [⟨some 34,none,.a (.jH [zz,zz,zz,zz,zz,zz,zz,zz] 8 64),[zI 5,zI 5]⟩,
 eY 35 9 34,
 zM 33 35,
 zQ 36 (.ext 0) 33,
 zQ 37 (.ext 1) 33,
 zM 3 36,
 zM 4 37])
 (.seq (.ops [zP 38 (.build [zz,zz,zz,zz,zz,zz,zz,zz] [(0,1),(1,1),(2,1),(5,1),(6,1),(7,1)]) [zI 9,zI 9,zI 5,zI 2,zI 2,zI 1],
 zP 39 (.build [zz,zz,zz,zz,zz,zz,zz,zz] [(0,1),(1,1),(2,1),(3,1),(4,1)]) [zI 9,zI 3,zI 2,zI 2,zI 1],
 ⟨some 40,none,.a (.dA [zz,zz,zz,zz,zz,zz,zz,zz] 2 8 [0,1]),[.t 38,.t 39]⟩,
 zM 5 40])
 (.seq (.ops [zM 42 5,
 eY 43 9 42,
 zM 41 43,
 zQ 44 (.ext 0) 41,
 zQ 45 (.ext 1) 41,
 zM 6 44,
 zM 7 45])
 (.seq (.seq (.ops [zM 46 7,
 zP 47 (.bin .neq) [.t 46,zI 0],
 zM 48 47,
 bH 49 6 48 false,
 bV 50 (.eq .dh) [.t 49,.c .bq] 48 false,
 zP 51 .pick [.t 48,.c (.bool true),.t 50]])
 (.cond (.t 51)
 (.seq (.ops [zK 0 (.bool false)])
 .ret)
 .skip))
 (.seq (.ops [zP 52 (.build [zz,zz,(.str [])] [(0,1),(1,1)]) [zI 1,zI 5],
 ⟨some 53,none,.a (.dA [zz,zz,(.str [])] 1 3 [0]),[.t 52]⟩,
 zM 8 53])
 (.seq (.ops [zM 54 6,
 zC 55 20 [.t 54,zI 0],
 zP 56 (.bin .eql) [.t 55,zI 250],
 zM 57 56,
 bH 58 6 57 true,
 gz 59 21 [.t 58,zI 2] 57 true,
 bV 60 (.bin .eql) [.t 59,zI 9] 57 true,
 zP 61 .pick [.t 57,.t 60,.c (.bool false)],
 zM 62 61,
 bH 63 6 62 true,
 gz 64 22 [.t 63,zI (-1),zI 0] 62 true,
 bV 65 (.bin .eql) [.t 64,zI 9] 62 true,
 zP 66 .pick [.t 62,.t 65,.c (.bool false)],
 zM 67 66,
 bH 68 6 67 true,
 gz 69 23 [.t 68,zI 1] 67 true,
 bV 70 (.bin .eql) [.t 69,zI 250] 67 true,
 zP 71 .pick [.t 67,.t 70,.c (.bool false)],
 zM 72 71,
 bH 73 6 72 true,
 gz 74 24 [.t 73,zI 1] 72 true,
 bV 75 (.bin .eql) [.t 74,zI 250] 72 true,
 zP 76 .pick [.t 72,.t 75,.c (.bool false)],
 zM 77 76,
 bH 78 6 77 true,
 gz 79 25 [.t 78,zI 0] 77 true,
 bV 80 (.bin .eql) [.t 79,zI 250] 77 true,
 zP 81 .pick [.t 77,.t 80,.c (.bool false)],
 zM 82 81,
 bH 83 6 82 true,
 gz 84 26 [.t 83,zI 0] 82 true,
 bV 85 (.bin .eql) [.t 84,zI 250] 82 true,
 zP 86 .pick [.t 82,.t 85,.c (.bool false)],
 zM 87 86,
 bH 88 6 87 true,
 gz 89 27 [.t 88,zI 0] 87 true,
 bV 90 .not [.t 89] 87 true,
 zP 91 .pick [.t 87,.t 90,.c (.bool false)],
 zM 92 91,
 bH 93 6 92 true,
 bH 94 8 92 true,
 gz 95 28 [.t 93,zI 2,.t 94,zI 0] 92 true,
 bV 96 (.bin .eql) [.t 95,zI 9] 92 true,
 zP 97 .pick [.t 92,.t 96,.c (.bool false)],
 zM 98 97,
 bH 99 6 98 true,
 bV 100 (.build [zz,zz,(.str [])] []) [] 98 true,
 ⟨some 101,some (98,true),.a (.dA [zz,zz,(.str [])] 1 3 [0]),[.t 100]⟩,
 gz 102 28 [.t 99,zI 0,.t 101,zI 0] 98 true,
 bV 103 (.bin .eql) [.t 102,zI 2] 98 true,
 zP 104 .pick [.t 98,.t 103,.c (.bool false)],
 zM 105 104,
 bH 106 6 105 true,
 bH 107 8 105 true,
 gz 108 28 [.t 106,zI 0,.t 107,zI (-1)] 105 true,
 bV 109 (.bin .eql) [.t 108,zI 2] 105 true,
 zP 110 .pick [.t 105,.t 109,.c (.bool false)],
 zM 9 110])
 (.seq (.ops [zM 111 6,
 zM 112 8,
 zC 113 28 [.t 111,zI 0,.t 112,zI 4],
 zP 114 (.bin .eql) [.t 113,zI 0],
 zM 115 114,
 bH 116 6 115 true,
 gz 117 29 [.t 116,zI 0] 115 true,
 bV 118 (.bin .eql) [.t 117,zI 13] 115 true,
 zP 119 .pick [.t 115,.t 118,.c (.bool false)],
 zM 120 119,
 bH 121 6 120 true,
 gz 122 25 [.t 121,zI 0] 120 true,
 bV 123 (.bin .eql) [.t 122,zI 132] 120 true,
 zP 124 .pick [.t 120,.t 123,.c (.bool false)],
 zM 125 124,
 bH 126 6 125 true,
 gz 127 26 [.t 126,zI 0] 125 true,
 bV 128 (.bin .eql) [.t 127,zI 132] 125 true,
 zP 129 .pick [.t 125,.t 128,.c (.bool false)],
 zM 130 129,
 bH 131 6 130 true,
 gz 132 24 [.t 131,zI 0] 130 true,
 bV 133 (.bin .eql) [.t 132,zI 0] 130 true,
 zP 134 .pick [.t 130,.t 133,.c (.bool false)],
 zM 135 134,
 bH 136 6 135 true,
 gz 137 24 [.t 136,zI 0] 135 true,
 bV 138 (.bin .eql) [.t 137,zI 0] 135 true,
 zP 139 .pick [.t 135,.t 138,.c (.bool false)],
 zM 140 139,
 bH 141 6 140 true,
 gz 142 21 [.t 141,zI 0] 140 true,
 bV 143 (.bin .eql) [.t 142,zI 250] 140 true,
 zP 144 .pick [.t 140,.t 143,.c (.bool false)],
 zM 145 144,
 bH 146 6 145 true,
 gz 147 22 [.t 146,zI 0,zI 0] 145 true,
 bV 148 (.bin .eql) [.t 147,zI 130] 145 true,
 zP 149 .pick [.t 145,.t 148,.c (.bool false)],
 zM 10 149])
 (.seq (.ops [zM 151 6,
 eY 152 30 151,
 zM 150 152,
 zQ 153 (.ext 0) 150,
 zQ 154 (.ext 1) 150,
 zQ 155 (.ext 2) 150,
 zM 11 153,
 zM 12 154,
 zM 13 155])
 (.seq (.ops [zM 156 13,
 zM 157 156,
 bH 158 12 157 true,
 bV 159 (.bin .eql) [.t 158,zI 3] 157 true,
 zP 160 .pick [.t 157,.t 159,.c (.bool false)],
 zM 161 160,
 bH 162 6 161 true,
 bH 163 8 161 true,
 gz 164 28 [.t 162,zI 1,.t 163,zI 5] 161 true,
 bV 165 (.bin .eql) [.t 164,zI 0] 161 true,
 zP 166 .pick [.t 161,.t 165,.c (.bool false)],
 zM 167 166,
 bH 168 6 167 true,
 gz 169 31 [.t 168,zI 0] 167 true,
 zP 170 .pick [.t 167,.t 169,.c (.bool false)],
 zM 171 170,
 bH 172 6 171 true,
 gz 173 25 [.t 172,zI 0] 171 true,
 bV 174 (.bin .eql) [.t 173,zI 0] 171 true,
 zP 175 .pick [.t 171,.t 174,.c (.bool false)],
 zM 176 175,
 bH 177 6 176 true,
 gz 178 31 [.t 177,zI 0] 176 true,
 zP 179 .pick [.t 176,.t 178,.c (.bool false)],
 zM 180 179,
 bH 181 6 180 true,
 gz 182 22 [.t 181,zI 0,zI 0] 180 true,
 bV 183 (.bin .eql) [.t 182,zI 130] 180 true,
 zP 184 .pick [.t 180,.t 183,.c (.bool false)],
 zM 185 184,
 bH 186 6 185 true,
 gz 187 21 [.t 186,zI 0] 185 true,
 bV 188 (.bin .eql) [.t 187,zI 0] 185 true,
 zP 189 .pick [.t 185,.t 188,.c (.bool false)],
 zM 190 189,
 bH 191 6 190 true,
 gz 192 21 [.t 191,zI 0] 190 true,
 bV 193 (.bin .eql) [.t 192,zI 0] 190 true,
 zP 194 .pick [.t 190,.t 193,.c (.bool false)],
 zM 195 194,
 bH 196 6 195 true,
 gz 197 32 [.t 196,zI 0,zI 7] 195 true,
 bV 198 (.bin .eql) [.t 197,zI 2] 195 true,
 zP 199 .pick [.t 195,.t 198,.c (.bool false)],
 zM 200 199,
 bH 201 6 200 true,
 gz 202 26 [.t 201,zI 0] 200 true,
 bV 203 (.bin .eql) [.t 202,zI 0] 200 true,
 zP 204 .pick [.t 200,.t 203,.c (.bool false)],
 zM 205 204,
 bH 206 6 205 true,
 gz 207 31 [.t 206,zI 1] 205 true,
 zP 208 .pick [.t 205,.t 207,.c (.bool false)],
 zM 14 208])
 (.seq (.ops [zM 209 6,
 zC 210 24 [.t 209,zI 1],
 zP 211 (.bin .eql) [.t 210,zI 133],
 zM 212 211,
 bH 213 6 212 true,
 gz 214 22 [.t 213,zI 1,zI 0] 212 true,
 bV 215 (.bin .eql) [.t 214,zI 133] 212 true,
 zP 216 .pick [.t 212,.t 215,.c (.bool false)],
 zM 217 216,
 bH 218 6 217 true,
 gz 219 22 [.t 218,zI 1,zI 1] 217 true,
 bV 220 (.bin .eql) [.t 219,zI 0] 217 true,
 zP 221 .pick [.t 217,.t 220,.c (.bool false)],
 zM 222 221,
 bH 223 6 222 true,
 gz 224 22 [.t 223,zI 1,zI 1] 222 true,
 bV 225 (.bin .eql) [.t 224,zI 131] 222 true,
 zP 226 .pick [.t 222,.t 225,.c (.bool false)],
 zM 227 226,
 bH 228 6 227 true,
 gz 229 23 [.t 228,zI 0] 227 true,
 bV 230 (.bin .eql) [.t 229,zI 132] 227 true,
 zP 231 .pick [.t 227,.t 230,.c (.bool false)],
 zM 232 231,
 bH 233 6 232 true,
 gz 234 24 [.t 233,zI 0] 232 true,
 bV 235 (.bin .eql) [.t 234,zI 170] 232 true,
 zP 236 .pick [.t 232,.t 235,.c (.bool false)],
 zM 237 236,
 bH 238 6 237 true,
 gz 239 27 [.t 238,zI 1] 237 true,
 zP 240 .pick [.t 237,.t 239,.c (.bool false)],
 zM 241 240,
 bH 242 6 241 true,
 gz 243 14 [.t 242,zI 1] 241 true,
 bV 244 .bX [.t 243] 241 true,
 bV 245 (.bin .eql) [.t 244,zI 0] 241 true,
 zP 246 .pick [.t 241,.t 245,.c (.bool false)],
 zM 247 246,
 bH 248 6 247 true,
 gz 249 34 [.t 248] 247 true,
 ⟨some 250,some (247,true),.a (.dA [zz] 1 1 [0]),[zI 0]⟩,
 gz 251 33 [.t 249,.t 250] 247 true,
 zP 252 .pick [.t 247,.t 251,.c (.bool false)],
 zM 15 252])
 (.seq (.ops [zK 16 .bq])
 (.seq (.seq (.ops [zV 17 0])
 (.block 0 (.loop ko)))
 (.seq (.ops [zK 354 (.bool true),
 ⟨some 355,some (354,true),.call,[.c (.func (.func 7) [] [])]⟩,
 zP 356 .pick [.t 354,.t 355,.c (.bool false)],
 zM 357 356,
 bH 358 2 357 true,
 bV 359 (.bin .eql) [.t 358,zI 2] 357 true,
 zP 360 .pick [.t 357,.t 359,.c (.bool false)],
 zM 361 360,
 bH 362 4 361 true,
 bV 363 (.bin .eql) [.t 362,zI 2] 361 true,
 zP 364 .pick [.t 361,.t 363,.c (.bool false)],
 zM 365 364,
 bH 366 9 365 true,
 zP 367 .pick [.t 365,.t 366,.c (.bool false)],
 zM 368 367,
 bH 369 10 368 true,
 zP 370 .pick [.t 368,.t 369,.c (.bool false)],
 zM 371 370,
 bH 372 14 371 true,
 zP 373 .pick [.t 371,.t 372,.c (.bool false)],
 zM 374 373,
 bH 375 15 374 true,
 zP 376 .pick [.t 374,.t 375,.c (.bool false)],
 zM 0 376])
 .ret)))))))))))))))⟩
def C7:aq:=⟨114,[.tmp 0],
 (.seq (.ops [zK 0 (.bool false)])
 (.seq (.ops [zP 10 (.build [zz,zz,zz,zz,zz,zz,zz,zz] [(0,1),(1,1),(2,1),(3,1),(4,1)]) [zI 20,zI 10,zI 4,zI 1,zI 1],
 zP 11 (.build [zz,zz,zz,zz,zz,zz,zz,zz] [(0,1),(1,1),(2,1),(3,1),(4,1)]) [zI 30,zI 20,zI 6,zI 1,zI 3],
 ⟨some 12,none,.a (.dA [zz,zz,zz,zz,zz,zz,zz,zz] 2 8 [0,1]),[.t 10,.t 11]⟩,
 zM 1 12])
 (.seq (.ops [zM 14 1,
 eY 15 9 14,
 zM 13 15,
 zQ 16 (.ext 0) 13,
 zQ 17 (.ext 1) 13,
 zM 2 16,
 zM 3 17])
 (.seq (.seq (.ops [zM 18 3,
 zP 19 (.bin .neq) [.t 18,zI 0],
 zM 20 19,
 bH 21 2 20 false,
 bV 22 (.eq .dh) [.t 21,.c .bq] 20 false,
 zP 23 .pick [.t 20,.c (.bool true),.t 22]])
 (.cond (.t 23)
 (.seq (.ops [zK 0 (.bool false)])
 .ret)
 .skip))
 (.seq (.ops [zP 24 (.build [zz,zz,(.str [])] [(0,1)]) [zI 2],
 zP 25 (.build [zz,zz,(.str [])] [(0,1),(1,1)]) [zI 1,zI 3],
 zP 26 (.build [zz,zz,(.str [])] [(0,1)]) [zI 3],
 zP 27 (.build [zz,zz,(.str [])] [(0,1),(1,1)]) [zI 1,zI 3],
 ⟨some 28,none,.a (.dA [zz,zz,(.str [])] 4 3 [0,1,2,3]),[.t 24,.t 25,.t 26,.t 27]⟩,
 zM 4 28])
 (.seq (.ops [zP 29 (.build [zz,zz,(.str [])] [(0,1),(1,1)]) [zI 1,zI 2],
 ⟨some 30,none,.a (.dA [zz,zz,(.str [])] 1 3 [0]),[.t 29]⟩,
 zM 5 30])
 (.seq (.ops [zM 31 2,
 zM 32 4,
 zC 33 28 [.t 31,zI 1,.t 32,zI 0],
 zP 34 (.bin .eql) [.t 33,zI 0],
 zM 35 34,
 bH 36 2 35 true,
 gz 37 31 [.t 36,zI 1] 35 true,
 zP 38 .pick [.t 35,.t 37,.c (.bool false)],
 zM 39 38,
 bH 40 2 39 true,
 gz 41 22 [.t 40,zI 1,zI 0] 39 true,
 bV 42 (.bin .eql) [.t 41,zI 0] 39 true,
 zP 43 .pick [.t 39,.t 42,.c (.bool false)],
 zM 44 43,
 bH 45 2 44 true,
 gz 46 20 [.t 45,zI 1] 44 true,
 bV 47 (.bin .eql) [.t 46,zI 0] 44 true,
 zP 48 .pick [.t 44,.t 47,.c (.bool false)],
 zM 6 48])
 (.seq (.ops [zM 49 2,
 zM 50 5,
 zC 51 28 [.t 49,zI 0,.t 50,zI 1],
 zP 52 (.bin .eql) [.t 51,zI 0],
 zM 53 52,
 bH 54 2 53 true,
 gz 55 31 [.t 54,zI 1] 53 true,
 zP 56 .pick [.t 53,.t 55,.c (.bool false)],
 zM 7 56])
 (.seq (.ops [zM 57 2,
 zC 58 21 [.t 57,zI 1],
 zP 59 (.bin .eql) [.t 58,zI 0],
 zM 60 59,
 bH 61 2 60 true,
 gz 62 21 [.t 61,zI 1] 60 true,
 bV 63 (.bin .eql) [.t 62,zI 0] 60 true,
 zP 64 .pick [.t 60,.t 63,.c (.bool false)],
 zM 65 64,
 bH 66 2 65 true,
 gz 67 21 [.t 66,zI 1] 65 true,
 bV 68 (.bin .eql) [.t 67,zI 0] 65 true,
 zP 69 .pick [.t 65,.t 68,.c (.bool false)],
 zM 70 69,
 bH 71 2 70 true,
 gz 72 23 [.t 71,zI 1] 70 true,
 bV 73 (.bin .eql) [.t 72,zI 0] 70 true,
 zP 74 .pick [.t 70,.t 73,.c (.bool false)],
 zM 75 74,
 bH 76 2 75 true,
 gz 77 20 [.t 76,zI 1] 75 true,
 bV 78 (.bin .eql) [.t 77,zI 0] 75 true,
 zP 79 .pick [.t 75,.t 78,.c (.bool false)],
 zM 80 79,
 bH 81 2 80 true,
 gz 82 31 [.t 81,zI 0] 80 true,
 zP 83 .pick [.t 80,.t 82,.c (.bool false)],
 zM 8 83])
 (.seq (.ops [zM 84 2,
 zM 85 5,
 zC 86 28 [.t 84,zI 0,.t 85,zI 25],
 zP 87 (.bin .eql) [.t 86,zI 141],
 zM 88 87,
 bH 89 2 88 true,
 gz 90 27 [.t 89,zI 0] 88 true,
 zP 91 .pick [.t 88,.t 90,.c (.bool false)],
 zM 92 91,
 bH 93 2 92 true,
 bH 94 5 92 true,
 gz 95 28 [.t 93,zI 0,.t 94,zI 15] 92 true,
 bV 96 (.bin .eql) [.t 95,zI 140] 92 true,
 zP 97 .pick [.t 92,.t 96,.c (.bool false)],
 zM 98 97,
 bH 99 2 98 true,
 bH 100 5 98 true,
 gz 101 28 [.t 99,zI 0,.t 100,zI 21] 98 true,
 bV 102 (.bin .eql) [.t 101,zI 0] 98 true,
 zP 103 .pick [.t 98,.t 102,.c (.bool false)],
 zM 9 103])
 (.seq (.ops [zM 104 6,
 zM 105 104,
 bH 106 7 105 true,
 zP 107 .pick [.t 105,.t 106,.c (.bool false)],
 zM 108 107,
 bH 109 8 108 true,
 zP 110 .pick [.t 108,.t 109,.c (.bool false)],
 zM 111 110,
 bH 112 9 111 true,
 zP 113 .pick [.t 111,.t 112,.c (.bool false)],
 zM 0 113])
 .ret)))))))))))⟩
def iJ:AC:=(.seq (.seq (.ops [zM 8 4,
 zM 9 0,
 zQ 10 .bX 9,
 zR 11 (.bin .lss) 8 10,
 zM 12 11,
 bH 13 4 12 true,
 bV 14 (.bin .lss) [.t 13,zI 4] 12 true,
 zP 15 .pick [.t 12,.t 14,.c (.bool false)]])
 (.cond (.t 15)
 .skip
 (.exit 0)))
 (.seq (.block 1 (.seq (.ops [zM 18 0,
 zM 19 4,
 zR 20 (.aG 8) 18 19,
 zF 21 20 0,
 zL 22 21,
 zC 23 12 [.t 22,zI 64],
 zP 24 (.bin .add) [zI 1,.t 23],
 zM 5 24])
 (.seq (.ops [zM 25 0,
 zM 26 4,
 zR 27 (.aG 8) 25 26,
 zF 28 27 1,
 zL 29 28,
 zM 30 5,
 iR 31 12 29 30,
 zP 32 (.bin .add) [zI 1,.t 31],
 zM 6 32])
 (.seq (.cB [zM 33 5,
 zM 34 6,
 zM 35 0,
 zM 36 4,
 zR 37 (.aG 8) 35 36,
 zF 38 37 2,
 zL 39 38,
 zM 40 6,
 iR 41 12 39 40,
 zP 42 (.bin .add) [zI 1,.t 41],
 zM 43 0,
 zM 44 4,
 zR 45 (.aG 8) 43 44,
 zF 46 45 3,
 zL 47 46,
 zC 48 12 [.t 47,zI 16],
 zP 49 (.build [zz,zz,zz,zz,zz,zz,zz,zz] [(0,1),(1,1),(2,1),(3,1)]) [.t 33,.t 34,.t 42,.t 48],
 ⟨some 7,none,.a (.alloc [zz,zz,zz,zz,zz,zz,zz,zz]),[]⟩,
 zS 8 [.t 7,.t 49]] [[],[],[],[],[],[],[],[],[],[],[],[],[],[],[0,9],[],[],[],[]])
 (.seq (.seq (.ops [zF 50 7 3,
 zL 51 50,
 zP 52 (.bin .gtr) [.t 51,zI 0]])
 (.cond (.t 52)
 (.ops [zF 53 7 2,
 zL 54 53,
 zF 55 7 4,
 zS 1 [.t 55,.t 54]])
 .skip))
 (.ops [zM 56 3,
 zO 57 8 7,
 ⟨some 58,none,.a (.dA [zz,zz,zz,zz,zz,zz,zz,zz] 1 8 [0]),[.t 57]⟩,
 zA 59 8 64 56 58,
 zM 3 59]))))))
 (.ops [zM 16 4,
 zP 17 (.bin .add) [.t 16,zI 1],
 zM 4 17])))
def C8:aq:=⟨61,[.tmp 2],
 (.seq (.ops [zK 2 .aH])
 (.seq (.ops [zK 3 .aH])
 (.seq (.seq (.ops [zV 4 0])
 (.block 0 (.loop iJ)))
 (.seq (.ops [zM 60 3,
 zM 2 60])
 .ret))))⟩
def sx:AC:=(.seq (.ops [zR 28 (.bin .lss) 27 26])
 (.seq (.cond (.t 28)
 .skip
 (.exit 0))
 (.seq (.block 1 (.seq (.ops [zR 29 (.aG 8) 25 27,
 zO 30 8 29,
 ⟨some 7,none,.a (.alloc [zz,zz,zz,zz,zz,zz,zz,zz]),[]⟩,
 zS 8 [.t 7,.t 30]])
 (.seq (.ops [zF 32 7 0,
 zL 33 32,
 eY 34 37 33,
 zM 31 34,
 zQ 35 (.ext 0) 31,
 zQ 36 (.ext 1) 31,
 zM 8 35,
 zM 9 36])
 (.ops [zM 37 5,
 zM 38 5,
 zN 39 38,
 zF 40 39 3,
 zL 41 40,
 zM 42 8,
 ⟨some 43,none,.a (.dA [.bq] 1 1 [0]),[.t 42]⟩,
 zA 44 1 8 41 43,
 zN 45 37,
 zF 46 45 3,
 zS 1 [.t 46,.t 44]]))))
 (.ops [zP 47 (.bin .add) [.t 27,zI 1],
 zM 27 47]))))
def C9:aq:=⟨66,[.tmp 2,.tmp 3],
 (.seq (.ops [zK 2 .bq,
 zV 3 0])
 (.seq (.seq (.ops [zM 10 0,
 zM 11 0,
 zQ 12 .bX 11,
 ⟨some 13,none,.a (.jH [zz] 1 8),[.t 12,.t 12]⟩,
 iR 14 10 10 13,
 zM 4 14])
 (.seq (.ops [zM 15 4,
 zP 16 (.bin .neq) [.t 15,zI 0]])
 (.cond (.t 16)
 (.seq (.ops [zM 17 4,
 zK 2 .bq,
 zM 3 17])
 .ret)
 .skip)))
 (.seq (.cB [zM 18 0,
 eY 19 36 18,
 zM 20 0,
 zQ 21 .bX 20,
 ⟨some 22,none,.a (.jH [.bq] 1 8),[.t 21,.t 21]⟩,
 zR 23 (.build [.bq,.bq,.aH,.aH,.aH] [(2,1),(4,1)]) 19 22,
 zB 24 23,
 zM 5 24] [[],[],[],[],[],[],[],[]])
 (.seq (.seq (.ops [zM 25 0,
 zQ 26 .bX 25,
 zV 27 0])
 (.block 0 (.loop sx)))
 (.seq (.ops [zM 49 5,
 zM 50 0,
 eY 51 38 50,
 zM 48 51,
 zQ 52 (.ext 0) 48,
 zQ 53 (.ext 1) 48,
 zN 54 49,
 zF 55 54 0,
 zS 1 [.t 55,.t 52]])
 (.seq (.ops [zM 57 5,
 zM 58 0,
 zQ 59 .bX 58,
 eY 60 39 59,
 zM 56 60,
 zQ 61 (.ext 0) 56,
 zQ 62 (.ext 1) 56,
 zN 63 57,
 zF 64 63 1,
 zS 1 [.t 64,.t 61]])
 (.seq (.ops [zM 65 5,
 zM 2 65,
 zV 3 0])
 .ret)))))))⟩
def V2:aq:=⟨21,[.tmp 4],
 (.seq (.ops [zV 4 0])
 (.seq (.ops [zM 6 1,
 zC 7 40 [.t 6,.c (.func (.func 41) [] [])],
 zM 5 7])
 (.seq (.seq (.ops [zM 8 5,
 zM 9 8,
 bH 10 0 9 false,
 gz 11 42 [.t 10] 9 false,
 bV 12 .not [.t 11] 9 false,
 zP 13 .pick [.t 9,.c (.bool true),.t 12],
 zM 14 13,
 bH 15 1 14 false,
 bV 16 .bX [.t 15] 14 false,
 bH 17 0 14 false,
 bV 18 .bX [.t 17] 14 false,
 bV 19 (.bin .neq) [.t 16,.t 18] 14 false,
 zP 20 .pick [.t 14,.c (.bool true),.t 19]])
 (.cond (.t 20)
 (.seq (.ops [zV 4 2])
 .ret)
 .skip))
 (.seq (.ops [zV 4 0])
 .ret))))⟩
def V3:aq:=⟨227,[.tmp 4],
 (.seq (.ops [zK 4 (.bool false)])
 (.seq (.seq (.ops [zM 12 1,
 zP 13 (.bin .rem) [.t 12,zI 3],
 zP 14 (.bin .eql) [.t 13,zI 0],
 zM 15 14,
 bH 16 0 15 true,
 su 17 16 15 true,
 lC 18 17 1 15 true,
 kT 19 18 15 true,
 bV 20 .bX [.t 19] 15 true,
 bV 21 (.bin .gtr) [.t 20,zI 0] 15 true,
 zP 22 .pick [.t 15,.t 21,.c (.bool false)]])
 (.cond (.t 22)
 (.seq (.cB [zM 23 0,
 zN 24 23,
 zF 25 24 0,
 zL 26 25,
 zM 27 1,
 zP 28 (.bin .quo) [.t 27,zI 3],
 zM 29 0,
 zN 30 29,
 zF 31 30 1,
 zL 32 31,
 zQ 33 .bX 32,
 zR 34 (.bin .rem) 28 33,
 zP 35 (.build [zz,zz,(.str [])] [(0,1),(1,1)]) [zI 1,zI 64],
 ⟨some 36,none,.a (.dA [zz,zz,(.str [])] 1 3 [0]),[.t 35]⟩,
 zM 37 0,
 zN 38 37,
 zF 39 38 2,
 zL 40 39,
 SJ 41 28 26 34 36 40] [[],[],[],[],[],[],[],[],[],[],[],[],[],[],[],[],[],[],[]])
 (.seq (.ops [zK 4 (.bool true)])
 .ret))
 .skip))
 (.seq (.ops [zM 42 0,
 zM 43 0,
 zN 44 43,
 zF 45 44 2,
 zL 46 45,
 zP 47 (.bin .add) [.t 46,zI 1],
 zN 48 42,
 zF 49 48 2,
 zS 1 [.t 49,.t 47]])
 (.seq (.ops [zM 51 0,
 zN 52 51,
 zF 53 52 0,
 zL 54 53,
 eY 55 15 54,
 zM 50 55,
 zQ 56 (.ext 0) 50,
 zQ 57 (.ext 1) 50,
 zM 5 56,
 zM 6 57])
 (.seq (.seq (.ops [zM 58 6,
 zQ 59 .not 58,
 zM 60 59,
 bH 61 5 60 false,
 bV 62 (.bin .lss) [.t 61,zI 0] 60 false,
 zP 63 .pick [.t 60,.c (.bool true),.t 62],
 zM 64 63,
 bH 65 5 64 false,
 bH 66 0 64 false,
 su 67 66 64 false,
 lC 68 67 1 64 false,
 kT 69 68 64 false,
 bV 70 .bX [.t 69] 64 false,
 bV 71 (.bin .geq) [.t 65,.t 70] 64 false,
 zP 72 .pick [.t 64,.c (.bool true),.t 71]])
 (.cond (.t 72)
 (.seq (.ops [zM 73 6,
 zQ 74 .not 73,
 zM 75 74,
 bH 76 0 75 true,
 su 77 76 75 true,
 lC 78 77 0 75 true,
 kT 79 78 75 true,
 gz 80 34 [.t 79] 75 true,
 bV 81 .bX [.t 80] 75 true,
 bV 82 (.bin .eql) [.t 81,zI 0] 75 true,
 zP 83 .pick [.t 75,.t 82,.c (.bool false)],
 zM 4 83])
 .ret)
 .skip))
 (.seq (.ops [zM 84 1,
 zP 85 (.bin .quo) [.t 84,zI 24],
 zP 86 (.bin .rem) [.t 85,zI 4],
 zM 7 86])
 (.seq (.seq (.ops [zM 87 1,
 zP 88 (.bin .quo) [.t 87,zI 3],
 zP 89 (.bin .rem) [.t 88,zI 8]])
 (.block 0 (.seq (.seq (.ops [zP 119 (.bin .eql) [.t 89,zI 0],
 zM 118 119])
 (.cond (.t 118)
 .skip
 (.seq (.ops [zP 120 (.bin .eql) [.t 89,zI 1],
 zM 118 120])
 (.cond (.t 118)
 .skip
 (.ops [zP 121 (.bin .eql) [.t 89,zI 2],
 zM 118 121])))))
 (.cond (.t 118)
 (.seq (.ops [zM 123 0,
 zM 124 7,
 iR 125 43 123 124,
 zM 122 125,
 zQ 126 (.ext 0) 122,
 zQ 127 (.ext 1) 122,
 zM 8 126,
 zM 9 127])
 (.seq (.ops [zM 128 0,
 zN 129 128,
 zF 130 129 0,
 zL 131 130,
 zM 132 5,
 zM 133 7,
 Ec 134 22 131 132 133,
 zM 10 134])
 (.seq (.ops [zM 135 0,
 zN 136 135,
 zF 137 136 1,
 zL 138 137,
 zM 139 5,
 zR 140 (.aG 8) 138 139,
 zF 141 140 3,
 zL 142 141,
 zM 143 7,
 zR 144 (.bin .shr) 142 143,
 zP 145 (.bin .and) [.t 144,zI 1],
 zP 146 (.bin .eql) [.t 145,zI 1],
 zM 11 146])
 (.seq (.seq (.ops [zM 147 11,
 zM 148 147,
 bH 149 10 148 true,
 bV 150 (.bin .eql) [.t 149,zI 131] 148 true,
 zP 151 .pick [.t 148,.t 150,.c (.bool false)],
 zM 152 151,
 bH 153 9 152 true,
 bV 154 .not [.t 153] 152 true,
 bH 155 154 152 true,
 bH 156 8 155 false,
 bH 157 5 155 false,
 bV 158 (.bin .neq) [.t 156,.t 157] 155 false,
 bV 159 .pick [.t 155,.c (.bool true),.t 158] 152 true,
 zP 160 .pick [.t 152,.t 159,.c (.bool false)],
 zM 161 160,
 bH 162 11 161 false,
 bH 163 162 161 false,
 bH 164 9 163 true,
 bV 165 .pick [.t 163,.t 164,.c (.bool false)] 161 false,
 bH 166 165 161 false,
 bH 167 8 166 true,
 bH 168 5 166 true,
 bV 169 (.bin .neq) [.t 167,.t 168] 166 true,
 bV 170 .pick [.t 166,.t 169,.c (.bool false)] 161 false,
 zP 171 .pick [.t 161,.c (.bool true),.t 170]])
 (.cond (.t 171)
 (.seq (.ops [zK 4 (.bool false)])
 .ret)
 .skip))
 (.seq (.ops [zM 172 10,
 zP 173 (.bin .eql) [.t 172,zI 0],
 zM 174 173,
 bH 175 0 174 true,
 su 176 175 174 true,
 lC 177 176 0 174 true,
 kT 178 177 174 true,
 bH 179 5 174 true,
 gz 180 14 [.t 178,.t 179] 174 true,
 bV 181 .bX [.t 180] 174 true,
 bV 182 (.bin .eql) [.t 181,zI 1] 174 true,
 zP 183 .pick [.t 174,.t 182,.c (.bool false)]])
 (.cond (.t 183)
 (.ops [zM 184 0,
 zM 185 0,
 zN 186 185,
 zF 187 186 3,
 zL 188 187,
 zM 189 5,
 ⟨some 190,none,.a (.dA [zz] 1 1 [0]),[.t 189]⟩,
 zA 191 1 8 188 190,
 zN 192 184,
 zF 193 192 3,
 zS 1 [.t 193,.t 191]])
 .skip))))))
 (.seq (.ops [zP 195 (.bin .eql) [.t 89,zI 3],
 zM 194 195])
 (.cond (.t 194)
 (.seq (.ops [zM 196 0,
 zN 197 196,
 zF 198 197 0,
 zL 199 198,
 zM 200 5,
 iR 201 23 199 200,
 zP 202 (.bin .eql) [.t 201,zI 0],
 zM 203 202,
 bH 204 0 203 true,
 su 205 204 203 true,
 lC 206 205 0 203 true,
 kT 207 206 203 true,
 bH 208 5 203 true,
 gz 209 14 [.t 207,.t 208] 203 true,
 bV 210 .bX [.t 209] 203 true,
 bV 211 (.bin .eql) [.t 210,zI 0] 203 true,
 zP 212 .pick [.t 203,.t 211,.c (.bool false)]])
 (.cond (.t 212)
 (.ops [zM 213 0,
 zM 214 5,
 iR 215 44 213 214])
 .skip))
 (.seq (.ops [zP 217 (.bin .eql) [.t 89,zI 4],
 zM 216 217])
 (.cond (.t 216)
 (.seq (.ops [zM 218 0,
 zM 219 5,
 iR 220 44 218 219])
 (.seq (.ops [zM 221 0,
 zN 222 221,
 zF 223 222 0,
 zL 224 223,
 zM 225 5,
 iR 226 27 224 225,
 zM 4 226])
 .ret))
 (.seq (.cB [zM 90 0,
 zN 91 90,
 zF 92 91 0,
 zL 93 92,
 zM 94 5,
 iR 95 21 93 94,
 zP 96 (.bin .eql) [.t 95,zI 0],
 zM 97 96,
 bH 98 0 97 false,
 su 99 98 97 false,
 lC 100 99 0 97 false,
 kT 101 100 97 false,
 bH 102 5 97 false,
 bH 103 0 97 false,
 su 104 103 97 false,
 lC 105 104 2 97 false,
 kT 106 105 97 false,
 gz 107 32 [.t 101,.t 102,.t 106] 97 false,
 bV 108 (.bin .neq) [.t 107,zI 0] 97 false,
 zP 109 .pick [.t 97,.c (.bool true),.t 108],
 zM 110 109,
 bH 111 0 110 false,
 su 112 111 110 false,
 lC 113 112 0 110 false,
 kT 114 113 110 false,
 bH 115 5 110 false,
 gz 116 45 [.t 114,.t 115] 110 false,
 zP 117 .pick [.t 110,.c (.bool true),.t 116],
 zM 4 117] [[],[],[],[],[],[],[],[],[],[],[],[],[],[],[],[],[],[],[],[],[],[],[],[],[],[],[],[],[]])
 .ret)))))))))
 (.seq (.ops [zK 4 (.bool true)])
 .ret))))))))⟩
def V4:aq:=⟨14,[.tmp 4],
 (.seq (.ops [zV 4 0])
 (.seq (.ops [zM 5 0,
 zM 6 1,
 zR 7 (.bin .rem) 5 6,
 zM 0 7])
 (.seq (.seq (.ops [zM 8 0,
 zP 9 (.bin .lss) [.t 8,zI 0]])
 (.cond (.t 9)
 (.ops [zM 10 0,
 zM 11 1,
 zR 12 (.bin .add) 10 11,
 zM 0 12])
 .skip))
 (.seq (.ops [zM 13 0,
 zM 4 13])
 .ret))))⟩
def V5:aq:=⟨18,[.tmp 4,.tmp 5],
 (.seq (.ops [zV 4 0,
 zK 5 (.bool false)])
 (.seq (.ops [zM 9 0,
 zM 10 1,
 iR 11 46 9 10,
 zM 8 11,
 zQ 12 (.ext 0) 8,
 zQ 13 (.ext 1) 8,
 zM 6 12,
 zM 7 13])
 (.seq (.seq (.ops [zM 14 7,
 zP 15 (.bin .neq) [.t 14,zI 0]])
 (.cond (.t 15)
 (.seq (.ops [zV 4 0,
 zK 5 (.bool false)])
 .ret)
 .skip))
 (.seq (.ops [zM 16 6,
 eY 17 47 16,
 zM 4 17,
 zK 5 (.bool true)])
 .ret))))⟩
def V6:aq:=⟨21,[.tmp 4],
 (.seq (.ops [zK 4 .aH])
 (.seq (.seq (.ops [zM 8 0,
 zM 9 1,
 iR 10 46 8 9,
 zM 7 10,
 zQ 11 (.ext 0) 7,
 zQ 12 (.ext 1) 7,
 zM 5 11,
 zM 6 12])
 (.seq (.ops [zM 13 6,
 zP 14 (.bin .neq) [.t 13,zI 0]])
 (.cond (.t 14)
 (.seq (.ops [zK 4 .aH])
 .ret)
 .skip)))
 (.seq (.ops [zM 15 0,
 zN 16 15,
 zF 17 16 0,
 zL 18 17,
 zM 19 1,
 iR 20 48 18 19,
 zM 4 20])
 .ret)))⟩
def V7:aq:=⟨60,[.tmp 2,.tmp 3],
 (.seq (.ops [zV 2 0,
 zK 3 (.bool false)])
 (.seq (.seq (.ops [zM 9 0,
 eY 10 49 9])
 (.cond (.t 10)
 (.seq (.ops [zV 2 0,
 zK 3 (.bool false)])
 .ret)
 .skip))
 (.seq (.seq (.ops [zM 12 0,
 eY 13 30 12,
 zM 11 13,
 zQ 14 (.ext 0) 11,
 zQ 15 (.ext 1) 11,
 zQ 16 (.ext 2) 11,
 zM 4 14,
 zM 5 15,
 zM 6 16])
 (.seq (.ops [zM 17 6])
 (.cond (.t 17)
 (.seq (.ops [zM 18 4,
 zM 2 18,
 zK 3 (.bool true)])
 .ret)
 .skip)))
 (.seq (.ops [zM 20 0,
 zN 21 20,
 zF 22 21 1,
 zL 23 22,
 eY 24 50 23,
 zM 19 24,
 zQ 25 (.ext 0) 19,
 zQ 26 (.ext 1) 19,
 zQ 27 (.ext 2) 19,
 zM 7 25,
 zM 8 26,
 zM 3 27])
 (.seq (.block 0 (.seq (.ops [zM 29 3,
 zQ 30 .not 29,
 zM 28 30])
 (.cond (.t 28)
 (.seq (.ops [zV 2 0,
 zK 3 (.bool false)])
 .ret)
 (.seq (.seq (.ops [zM 32 0,
 zN 33 32,
 zF 34 33 4,
 zL 35 34,
 zM 36 7,
 zR 37 (.aG 1) 35 36,
 zL 38 37,
 eY 39 51 38,
 zM 31 39])
 (.cond (.t 31)
 .skip
 (.cB [zM 40 0,
 zN 41 40,
 zF 42 41 2,
 zL 43 42,
 zM 44 7,
 iR 45 52 43 44,
 zM 46 0,
 zN 47 46,
 zF 48 47 0,
 zL 49 48,
 eY 50 53 49,
 zR 51 (.bin .gtr) 45 50,
 zM 31 51] [[],[],[],[],[],[],[],[],[],[0,6],[],[],[]])))
 (.cond (.t 31)
 (.seq (.ops [zM 52 7,
 zM 2 52,
 zK 3 (.bool true)])
 .ret)
 .skip)))))
 (.seq (.ops [zM 53 0,
 zN 54 53,
 zF 55 54 0,
 zL 56 55,
 eY 57 54 56,
 zQ 58 (.ext 0) 57,
 zQ 59 (.ext 1) 57,
 zM 2 58,
 zM 3 59])
 .ret))))))⟩
def V8:aq:=⟨8,[.tmp 4],
 (.seq (.ops [zV 4 0])
 (.seq (.ops [zM 5 0,
 zM 6 1,
 zC 7 79 [.t 5,.t 6,.c (.func (.func 80) [] [])],
 zM 4 7])
 .ret))⟩
def V9:aq:=⟨8,[.tmp 4],
 (.seq (.ops [zV 4 0])
 (.seq (.ops [zM 5 0,
 zM 6 1,
 zC 7 79 [.t 5,.t 6,.c (.func (.func 81) [] [])],
 zM 4 7])
 .ret))⟩
def Wa:aq:=⟨11,[.tmp 6],
 (.seq (.ops [zB 3 0,
 zB 4 1,
 zB 5 2,
 zV 6 0])
 (.seq (.ops [zL 7 3,
 zL 8 4,
 zP 9 (.jG (.func 82) 0) [.t 3,.t 4,.t 5],
 Ec 10 79 7 8 9,
 zM 6 10])
 .ret))⟩
def Wb:aq:=⟨9,[.tmp 4],
 (.seq (.ops [zB 2 0,
 zB 3 1,
 zV 4 0])
 (.seq (.ops [zL 5 2,
 zL 6 3,
 zR 7 (.jG (.func 86) 0) 2 3,
 Ec 8 79 5 6 7,
 zM 4 8])
 .ret))⟩
def XN:aq:=⟨9,[.tmp 4],
 (.seq (.ops [zB 2 0,
 zB 3 1,
 zV 4 0])
 (.seq (.ops [zL 5 2,
 zL 6 3,
 zR 7 (.jG (.func 89) 0) 2 3,
 Ec 8 79 5 6 7,
 zM 4 8])
 .ret))⟩
def XO:aq:=⟨8,[.tmp 4],
 (.seq (.ops [zV 4 0])
 (.seq (.ops [zM 5 0,
 zM 6 1,
 zC 7 79 [.t 5,.t 6,.c (.func (.func 90) [] [])],
 zM 4 7])
 .ret))⟩
def XP:aq:=⟨8,[.tmp 4],
 (.seq (.ops [zV 4 0])
 (.seq (.ops [zM 5 0,
 zM 6 1,
 zC 7 79 [.t 5,.t 6,.c (.func (.func 91) [] [])],
 zM 4 7])
 .ret))⟩
def Wc:aq:=⟨33,[.tmp 4],
 (.seq (.ops [zK 4 (.bool false)])
 (.seq (.seq (.ops [zM 8 0,
 zM 9 1,
 iR 10 46 8 9,
 zM 7 10,
 zQ 11 (.ext 0) 7,
 zQ 12 (.ext 1) 7,
 zM 5 11,
 zM 6 12])
 (.seq (.ops [zM 13 6,
 zP 14 (.bin .neq) [.t 13,zI 0]])
 (.cond (.t 14)
 (.seq (.ops [zK 4 (.bool false)])
 .ret)
 .skip)))
 (.seq (.ops [zM 15 0,
 zN 16 15,
 zF 17 16 4,
 zL 18 17,
 zM 19 1,
 zR 20 (.aG 1) 18 19,
 zS 1 [.t 20,.c .bq]])
 (.seq (.ops [zM 21 0,
 zN 22 21,
 zF 23 22 1,
 zL 24 23,
 zM 25 1,
 iR 26 92 24 25])
 (.seq (.ops [zM 27 0,
 zN 28 27,
 zF 29 28 0,
 zL 30 29,
 zM 31 1,
 iR 32 93 30 31])
 (.seq (.ops [zK 4 (.bool true)])
 .ret))))))⟩
def Wd:aq:=⟨70,[.tmp 8],
 (.seq (.ops [zV 8 0])
 (.seq (.seq (.ops [zM 13 0,
 zM 14 1,
 iR 15 94 13 14,
 zM 9 15])
 (.seq (.ops [zM 16 9,
 zP 17 (.bin .neq) [.t 16,zI 0]])
 (.cond (.t 17)
 (.seq (.ops [zM 18 9,
 zM 8 18])
 .ret)
 .skip)))
 (.seq (.seq (.ops [zM 19 0,
 zN 20 19,
 zF 21 20 4,
 zL 22 21,
 zM 23 1,
 zR 24 (.aG 1) 22 23,
 zL 25 24,
 zP 26 (.neq .dh) [.t 25,.c .bq]])
 (.cond (.t 26)
 (.seq (.ops [zV 8 141])
 .ret)
 .skip))
 (.seq (.ops [zM 28 0,
 zN 29 28,
 zF 30 29 2,
 zL 31 30,
 zM 32 1,
 zR 33 (.aG 8) 31 32,
 zO 34 8 33,
 zM 35 2,
 zM 36 3,
 Ec 37 95 34 35 36,
 zM 27 37,
 zQ 38 (.ext 0) 27,
 zQ 39 (.ext 1) 27,
 zM 10 38,
 zM 11 39])
 (.seq (.seq (.ops [zM 40 11,
 zP 41 (.bin .neq) [.t 40,zI 0]])
 (.cond (.t 41)
 (.seq (.ops [zM 42 11,
 zM 8 42])
 .ret)
 .skip))
 (.seq (.seq (.ops [zM 43 0,
 zN 44 43,
 zF 45 44 3,
 zL 46 45,
 zM 47 1,
 zR 48 (.aG 1) 46 47,
 zL 49 48,
 zM 50 3,
 iR 51 96 49 50,
 zM 12 51])
 (.seq (.ops [zM 52 12,
 zP 53 (.bin .neq) [.t 52,zI 0]])
 (.cond (.t 53)
 (.seq (.ops [zM 54 12,
 zM 8 54])
 .ret)
 .skip)))
 (.seq (.ops [zM 55 0,
 zN 56 55,
 zF 57 56 4,
 zL 58 57,
 zM 59 1,
 zM 60 10,
 zR 61 (.aG 1) 58 59,
 zS 1 [.t 61,.t 60]])
 (.seq (.cB [zM 62 0,
 zN 63 62,
 zF 64 63 1,
 zL 65 64,
 zM 66 1,
 zM 67 10,
 eY 68 47 67,
 Ec 69 97 65 66 68,
 zM 8 69] [[],[],[],[0,7],[],[],[],[],[]])
 .ret))))))))⟩
def XQ:aq:=⟨17,[.tmp 4],
 (.seq (.ops [zV 4 0])
 (.seq (.seq (.ops [zM 5 0,
 zM 6 1,
 iR 7 94 5 6,
 zP 8 (.bin .neq) [.t 7,zI 0]])
 (.cond (.t 8)
 (.seq (.ops [zV 4 0])
 .ret)
 .skip))
 (.seq (.ops [zM 9 0,
 zN 10 9,
 zF 11 10 3,
 zL 12 11,
 zM 13 1,
 zR 14 (.aG 1) 12 13,
 zL 15 14,
 eY 16 98 15,
 zM 4 16])
 .ret)))⟩
def lR:AC:=(.seq (.ops [zR 16 (.bin .lss) 15 14])
 (.seq (.cond (.t 16)
 .skip
 (.exit 0))
 (.seq (.block 1 (.seq (.ops [zM 17 15,
 zR 18 (.aG 1) 13 15,
 zL 19 18,
 zM 5 17,
 zM 6 19])
 (.seq (.ops [zM 20 6,
 eY 21 83 20,
 zM 7 21])
 (.seq (.ops [zM 22 7,
 zP 23 (.bin .geq) [.t 22,zI 2]])
 (.cond (.t 23)
 (.seq (.ops [zM 24 5,
 zM 25 7,
 zM 2 24,
 zM 3 25,
 zK 4 (.bool true)])
 .ret)
 .skip)))))
 (.ops [zP 26 (.bin .add) [.t 15,zI 1],
 zM 15 26]))))
def We:aq:=⟨27,[.tmp 2,.tmp 3,.tmp 4],
 (.seq (.ops [zV 2 0,
 zV 3 0,
 zK 4 (.bool false)])
 (.seq (.seq (.ops [zM 8 0,
 eY 9 49 8])
 (.cond (.t 9)
 (.seq (.ops [zV 2 0,
 zV 3 0,
 zK 4 (.bool false)])
 .ret)
 .skip))
 (.seq (.seq (.ops [zM 10 0,
 zN 11 10,
 zF 12 11 4,
 zL 13 12,
 zQ 14 .bX 13,
 zV 15 0])
 (.block 0 (.loop lR)))
 (.seq (.ops [zV 2 0,
 zV 3 0,
 zK 4 (.bool false)])
 .ret))))⟩
def TB:aq:=⟨18,[.tmp 4],
 (.seq (.ops [zK 4 (.bool false)])
 (.seq (.ops [zM 8 0,
 eY 9 15 8,
 zM 7 9,
 zQ 10 (.ext 0) 7,
 zQ 11 (.ext 1) 7,
 zM 5 10,
 zM 6 11])
 (.seq (.ops [zM 12 5,
 zM 13 1,
 zR 14 (.bin .eql) 12 13,
 zM 15 14,
 bH 16 6 15 true,
 zP 17 .pick [.t 15,.t 16,.c (.bool false)],
 zM 4 17])
 .ret)))⟩
def Wf:aq:=⟨20,[.tmp 6],
 (.seq (.ops [zV 6 0])
 (.seq (.ops [zM 10 0,
 zM 11 1,
 iR 12 46 10 11,
 zM 9 12,
 zQ 13 (.ext 0) 9,
 zQ 14 (.ext 1) 9,
 zM 7 13,
 zM 8 14])
 (.seq (.seq (.ops [zM 15 8,
 zP 16 (.bin .neq) [.t 15,zI 0]])
 (.cond (.t 16)
 (.seq (.ops [zV 6 0])
 .ret)
 .skip))
 (.seq (.ops [zM 17 7,
 zM 18 2,
 iR 19 99 17 18,
 zM 6 19])
 .ret))))⟩
def lO:AC:=(.seq (.seq (.ops [zM 11 5,
 zM 12 0,
 zQ 13 .bX 12,
 zR 14 (.bin .lss) 11 13])
 (.cond (.t 14)
 .skip
 (.exit 0)))
 (.seq (.block 1 (.seq (.cB [zM 17 0,
 zM 18 5,
 zR 19 (.aG 1) 17 18,
 zL 20 19,
 zM 21 1,
 zM 22 5,
 zR 23 (.aG 1) 21 22,
 zL 24 23,
 zR 25 (.bin .neq) 20 24] [[],[],[],[],[],[],[],[],[]])
 (.cond (.t 25)
 (.seq (.ops [zK 4 (.bool false)])
 .ret)
 .skip)))
 (.ops [zM 15 5,
 zP 16 (.bin .add) [.t 15,zI 1],
 zM 5 16])))
def Wg:aq:=⟨26,[.tmp 4],
 (.seq (.ops [zK 4 (.bool false)])
 (.seq (.seq (.ops [zM 6 0,
 zQ 7 .bX 6,
 zM 8 1,
 zQ 9 .bX 8,
 zR 10 (.bin .neq) 7 9])
 (.cond (.t 10)
 (.seq (.ops [zK 4 (.bool false)])
 .ret)
 .skip))
 (.seq (.seq (.ops [zV 5 0])
 (.block 0 (.loop lO)))
 (.seq (.ops [zK 4 (.bool true)])
 .ret))))⟩
def Wh:aq:=⟨10,[.tmp 2],
 (.seq (.ops [zK 2 .aH])
 (.seq (.seq (.ops [zM 3 0,
 eY 4 49 3])
 (.cond (.t 4)
 (.seq (.ops [zK 2 .aH])
 .ret)
 .skip))
 (.seq (.ops [zM 5 0,
 zN 6 5,
 zF 7 6 1,
 zL 8 7,
 eY 9 100 8,
 zM 2 9])
 .ret)))⟩
def Wi:aq:=⟨21,[.cell 4 3 true,.tmp 5],
 (.seq (.ops [⟨some 4,none,.a (.alloc [zz,zz,(.str [])]),[]⟩,
 zK 5 (.bool false)])
 (.seq (.ops [zM 9 0,
 zM 10 1,
 iR 11 46 9 10,
 zM 8 11,
 zQ 12 (.ext 0) 8,
 zQ 13 (.ext 1) 8,
 zM 6 12,
 zM 7 13])
 (.seq (.seq (.ops [zM 14 7,
 zP 15 (.bin .neq) [.t 14,zI 0]])
 (.cond (.t 15)
 (.seq (.ops [zP 16 (.build [zz,zz,(.str [])] []) [],
 zS 3 [.t 4,.t 16],
 zK 5 (.bool false)])
 .ret)
 .skip))
 (.seq (.ops [zM 17 6,
 eY 18 101 17,
 zQ 19 (.ext 0) 18,
 zQ 20 (.ext 1) 18,
 zS 3 [.t 4,.t 19],
 zM 5 20])
 .ret))))⟩
def SL:aq:=⟨8,[.tmp 2],
 (.seq (.ops [zK 2 .aH])
 (.seq (.seq (.ops [zM 3 0,
 zP 4 (.eq .mh) [.t 3,.c .aH]])
 (.cond (.t 4)
 (.seq (.ops [zK 2 .aH])
 .ret)
 .skip))
 (.seq (.ops [⟨some 5,none,.a (.dA [zz,zz,zz,zz,zz,zz,zz,zz] 0 8 []),[]⟩,
 zM 6 0,
 zA 7 8 64 5 6,
 zM 2 7])
 .ret)))⟩
def Wj:aq:=⟨10,[.tmp 2,.tmp 3],
 (.seq (.ops [zK 2 .bq,
 zV 3 0])
 (.seq (.seq (.ops [zM 4 0,
 eY 5 102 4,
 zQ 6 .not 5])
 (.cond (.t 6)
 (.seq (.ops [zK 2 .bq,
 zV 3 2])
 .ret)
 .skip))
 (.seq (.ops [zM 7 0,
 zQ 8 (.build [zz,zz] [(0,1)]) 7,
 zB 9 8,
 zM 2 9,
 zV 3 0])
 .ret)))⟩
def Wk:aq:=⟨11,[.tmp 2,.tmp 3],
 (.seq (.ops [zK 2 .bq,
 zV 3 0])
 (.seq (.seq (.ops [zM 4 0,
 zQ 5 .bX 4,
 zP 6 (.bin .gtr) [.t 5,zI 4]])
 (.cond (.t 6)
 (.seq (.ops [zK 2 .bq,
 zV 3 5])
 .ret)
 .skip))
 (.seq (.ops [zM 7 0,
 eY 8 36 7,
 zP 9 (.build [.aH,.aH,(.bool false)] [(0,1),(2,1)]) [.t 8,.c (.bool true)],
 zB 10 9,
 zM 2 10,
 zV 3 0])
 .ret)))⟩
def Wl:aq:=⟨14,[.tmp 2,.tmp 3],
 (.seq (.ops [zK 2 .bq,
 zV 3 0])
 (.seq (.seq (.ops [zM 4 0,
 zP 5 (.bin .lss) [.t 4,zI 0],
 zM 6 5,
 bH 7 0 6 false,
 bV 8 (.bin .gtr) [.t 7,zI 4] 6 false,
 zP 9 .pick [.t 6,.c (.bool true),.t 8]])
 (.cond (.t 9)
 (.seq (.ops [zK 2 .bq,
 zV 3 2])
 .ret)
 .skip))
 (.seq (.ops [XK 10 103,
 zM 11 0,
 zR 12 (.build [.bq,zz] [(0,1),(1,1)]) 10 11,
 zB 13 12,
 zM 2 13,
 zV 3 0])
 .ret)))⟩
def Wm:aq:=⟨9,[.tmp 4],
 (.seq (.ops [zK 4 (.bool false)])
 (.seq (.ops [zM 5 0,
 zM 6 1,
 iR 7 104 5 6,
 zP 8 (.bin .geq) [.t 7,zI 0],
 zM 4 8])
 .ret))⟩
def Wn:aq:=⟨9,[.tmp 2],
 (.seq (.ops [zK 2 (.bool false)])
 (.seq (.ops [zM 3 0,
 zP 4 (.bin .lss) [.t 3,zI 0],
 zM 5 4,
 bH 6 0 5 false,
 bV 7 (.bin .gtr) [.t 6,zI 32768] 5 false,
 zP 8 .pick [.t 5,.c (.bool true),.t 7],
 zM 2 8])
 .ret))⟩
def Wo:aq:=⟨11,[.tmp 2],
 (.seq (.ops [zK 2 (.bool false)])
 (.seq (.ops [zM 3 0,
 zQ 4 .bX 3,
 zP 5 (.bin .leq) [.t 4,zI 4],
 zM 6 5,
 bH 7 0 6 true,
 gz 8 105 [.t 7,.c (.func (.func 106) [] [])] 6 true,
 bV 9 .not [.t 8] 6 true,
 zP 10 .pick [.t 6,.t 9,.c (.bool false)],
 zM 2 10])
 .ret))⟩
def fG:AC:=(.seq (.seq (.ops [zM 24 8,
 zM 25 7,
 zQ 26 .bX 25,
 zR 27 (.bin .lss) 24 26])
 (.cond (.t 27)
 .skip
 (.exit 2)))
 (.seq (.block 3 (.seq (.ops [zM 30 7,
 zM 31 8,
 zR 32 (.aG 1) 30 31,
 zL 33 32,
 zM 34 1,
 zR 35 (.bin .eql) 33 34])
 (.cond (.t 35)
 (.seq (.ops [zM 36 6,
 zM 4 36,
 zK 5 (.bool true)])
 .ret)
 .skip)))
 (.ops [zM 28 8,
 zP 29 (.bin .add) [.t 28,zI 1],
 zM 8 29])))
def fF:AC:=(.seq (.seq (.ops [zM 9 6,
 zM 10 0,
 zN 11 10,
 zF 12 11 1,
 zL 13 12,
 zQ 14 .bX 13,
 zR 15 (.bin .lss) 9 14])
 (.cond (.t 15)
 .skip
 (.exit 0)))
 (.seq (.block 1 (.seq (.ops [zM 18 0,
 zN 19 18,
 zF 20 19 0,
 zL 21 20,
 zM 22 6,
 iR 23 14 21 22,
 zM 7 23])
 (.seq (.ops [zV 8 0])
 (.block 2 (.loop fG)))))
 (.ops [zM 16 6,
 zP 17 (.bin .add) [.t 16,zI 1],
 zM 6 17])))
def Wp:aq:=⟨37,[.tmp 4,.tmp 5],
 (.seq (.ops [zV 4 0,
 zK 5 (.bool false)])
 (.seq (.seq (.ops [zV 6 0])
 (.block 0 (.loop fF)))
 (.seq (.ops [zV 4 0,
 zK 5 (.bool false)])
 .ret)))⟩
def fE:AC:=(.seq (.seq (.ops [zM 6 5,
 zM 7 0,
 zN 8 7,
 zF 9 8 3,
 zL 10 9,
 zQ 11 .bX 10,
 zR 12 (.bin .lss) 6 11])
 (.cond (.t 12)
 .skip
 (.exit 0)))
 (.seq (.block 1 (.seq (.ops [zM 15 0,
 zN 16 15,
 zF 17 16 3,
 zL 18 17,
 zM 19 5,
 zR 20 (.aG 1) 18 19,
 zL 21 20,
 zM 22 1,
 zR 23 (.bin .neq) 21 22])
 (.cond (.t 23)
 (.ops [zM 24 4,
 zM 25 0,
 zN 26 25,
 zF 27 26 3,
 zL 28 27,
 zM 29 5,
 zR 30 (.aG 1) 28 29,
 zL 31 30,
 ⟨some 32,none,.a (.dA [zz] 1 1 [0]),[.t 31]⟩,
 zA 33 1 8 24 32,
 zM 4 33])
 .skip)))
 (.ops [zM 13 5,
 zP 14 (.bin .add) [.t 13,zI 1],
 zM 5 14])))
def Wq:aq:=⟨38,[],
 (.seq (.ops [zK 4 .aH])
 (.seq (.seq (.ops [zV 5 0])
 (.block 0 (.loop fE)))
 (.ops [zM 34 0,
 zM 35 4,
 zN 36 34,
 zF 37 36 3,
 zS 1 [.t 37,.t 35]])))⟩
def Wr:aq:=⟨20,[.tmp 4],
 (.seq (.ops [zK 4 (.bool false)])
 (.seq (.ops [zM 8 0,
 zM 9 1,
 iR 10 35 8 9,
 zM 7 10,
 zQ 11 (.ext 0) 7,
 zQ 12 (.ext 1) 7,
 ⟨some 5,none,.a (.alloc [zz,zz,(.str [])]),[]⟩,
 zS 3 [.t 5,.t 11],
 zM 6 12])
 (.seq (.ops [zM 13 6,
 zQ 14 .not 13,
 zM 15 14,
 lC 16 5 0 15 false,
 kT 17 16 15 false,
 bV 18 (.bin .neq) [.t 17,zI 1] 15 false,
 zP 19 .pick [.t 15,.c (.bool true),.t 18],
 zM 4 19])
 .ret)))⟩
def Wu:aq:=⟨28,[.tmp 4,.tmp 5],
 (.seq (.ops [zK 4 .bq,
 zV 5 0])
 (.seq (.seq (.ops [zM 7 0,
 zM 8 1,
 iR 9 94 7 8,
 zM 6 9])
 (.seq (.ops [zM 10 6,
 zP 11 (.bin .neq) [.t 10,zI 0]])
 (.cond (.t 11)
 (.seq (.ops [zM 12 6,
 zK 4 .bq,
 zM 5 12])
 .ret)
 .skip)))
 (.seq (.seq (.ops [zM 13 0,
 zN 14 13,
 zF 15 14 4,
 zL 16 15,
 zM 17 1,
 zR 18 (.aG 1) 16 17,
 zL 19 18,
 zP 20 (.eq .dh) [.t 19,.c .bq]])
 (.cond (.t 20)
 (.seq (.ops [zK 4 .bq,
 zV 5 250])
 .ret)
 .skip))
 (.seq (.ops [zM 21 0,
 zN 22 21,
 zF 23 22 4,
 zL 24 23,
 zM 25 1,
 zR 26 (.aG 1) 24 25,
 zL 27 26,
 zM 4 27,
 zV 5 0])
 .ret))))⟩
def Wv:aq:=⟨9,[.tmp 2],
 (.seq (.ops [zV 2 0])
 (.seq (.seq (.ops [zM 3 0,
 eY 4 108 3])
 (.cond (.t 4)
 (.seq (.ops [zV 2 0])
 .ret)
 .skip))
 (.seq (.ops [zM 5 0,
 zN 6 5,
 zF 7 6 9,
 zL 8 7,
 zM 2 8])
 .ret)))⟩
def oV:AC:=(.seq (.ops [zR 18 (.bin .lss) 17 16])
 (.seq (.cond (.t 18)
 .skip
 (.exit 0))
 (.seq (.block 1 (.seq (.ops [zR 19 (.aG 2) 15 17,
 zO 20 2 19,
 ⟨some 7,none,.a (.alloc [zz,zz]),[]⟩,
 zS 2 [.t 7,.t 20]])
 (.seq (.ops [zM 21 5,
 zO 22 2 7,
 ⟨some 23,none,.call,[.t 21,.t 22]⟩])
 (.cond (.t 23)
 (.ops [zM 24 4,
 zF 25 7 1,
 zL 26 25,
 ⟨some 27,none,.a (.dA [zz] 1 1 [0]),[.t 26]⟩,
 zA 28 1 8 24 27,
 zM 4 28])
 .skip))))
 (.ops [zP 29 (.bin .add) [.t 17,zI 1],
 zM 17 29]))))
def Ww:aq:=⟨31,[.tmp 4],
 (.seq (.ops [zK 4 .aH])
 (.seq (.seq (.ops [zM 8 0,
 zP 9 (.eq .dh) [.t 8,.c .bq]])
 (.cond (.t 9)
 (.seq (.ops [zK 4 .aH])
 .ret)
 .skip))
 (.seq (.ops [zM 10 1,
 eY 11 109 10,
 zM 5 11])
 (.seq (.seq (.ops [zM 12 0,
 zN 13 12,
 zF 14 13 1,
 zL 15 14,
 zQ 16 .bX 15,
 zV 17 0])
 (.block 0 (.loop oV)))
 (.seq (.ops [zM 30 4,
 zM 4 30])
 .ret)))))⟩
def Wx:aq:=⟨12,[.tmp 2],
 (.seq (.ops [zK 2 (.bool false)])
 (.seq (.ops [zM 3 0,
 zP 4 (.eq .dh) [.t 3,.c .bq],
 zM 5 4,
 bH 6 0 5 false,
 su 7 6 5 false,
 lC 8 7 0 5 false,
 kT 9 8 5 false,
 bV 10 (.eq .dh) [.t 9,.c .bq] 5 false,
 zP 11 .pick [.t 5,.c (.bool true),.t 10],
 zM 2 11])
 .ret))⟩
def Wy:aq:=⟨15,[.tmp 2,.tmp 3,.tmp 4],
 (.seq (.ops [zV 2 0,
 zV 3 0,
 zK 4 (.bool false)])
 (.seq (.seq (.ops [zM 5 0,
 eY 6 110 5])
 (.cond (.t 6)
 (.seq (.ops [zV 2 0,
 zV 3 0,
 zK 4 (.bool false)])
 .ret)
 .skip))
 (.seq (.ops [zM 7 0,
 zN 8 7,
 zF 9 8 0,
 zL 10 9,
 eY 11 111 10,
 zQ 12 (.ext 0) 11,
 zQ 13 (.ext 1) 11,
 zQ 14 (.ext 2) 11,
 zM 2 12,
 zM 3 13,
 zM 4 14])
 .ret)))⟩
def Wz:aq:=⟨12,[.tmp 2],
 (.seq (.ops [zK 2 (.bool false)])
 (.seq (.ops [zM 3 0,
 eY 4 108 3,
 zQ 5 .not 4,
 zM 6 5,
 bH 7 0 6 true,
 su 8 7 6 true,
 lC 9 8 14 6 true,
 kT 10 9 6 true,
 zP 11 .pick [.t 6,.t 10,.c (.bool false)],
 zM 2 11])
 .ret))⟩
def uR:AC:=(.seq (.ops [zR 19 (.bin .lss) 18 17])
 (.seq (.cond (.t 19)
 .skip
 (.exit 0))
 (.seq (.block 1 (.seq (.ops [zR 20 (.aG 8) 16 18,
 zO 21 8 20,
 ⟨some 7,none,.a (.alloc [zz,zz,zz,zz,zz,zz,zz,zz]),[]⟩,
 zS 8 [.t 7,.t 21]])
 (.seq (.cB [zF 22 7 1,
 zL 23 22,
 zM 24 0,
 zM 25 1,
 zR 26 (.aG 8) 24 25,
 zF 27 26 1,
 zL 28 27,
 zR 29 (.bin .gtr) 23 28] [[],[],[],[],[],[],[],[]])
 (.cond (.t 29)
 (.ops [zM 30 5,
 zP 31 (.bin .add) [.t 30,zI 1],
 zM 5 31])
 .skip))))
 (.ops [zP 32 (.bin .add) [.t 18,zI 1],
 zM 18 32]))))
def WB:aq:=⟨34,[.tmp 4],
 (.seq (.ops [zV 4 0])
 (.seq (.seq (.ops [zM 8 1,
 zP 9 (.bin .lss) [.t 8,zI 0],
 zM 10 9,
 bH 11 1 10 false,
 bH 12 0 10 false,
 bV 13 .bX [.t 12] 10 false,
 bV 14 (.bin .geq) [.t 11,.t 13] 10 false,
 zP 15 .pick [.t 10,.c (.bool true),.t 14]])
 (.cond (.t 15)
 (.seq (.ops [zV 4 0])
 .ret)
 .skip))
 (.seq (.ops [zV 5 1])
 (.seq (.seq (.ops [zM 16 0,
 zQ 17 .bX 16,
 zV 18 0])
 (.block 0 (.loop uR)))
 (.seq (.ops [zM 33 5,
 zM 4 33])
 .ret)))))⟩
def nh:AC:=(.seq (.ops [zR 13 (.bin .lss) 12 11])
 (.seq (.cond (.t 13)
 .skip
 (.exit 0))
 (.seq (.block 1 (.seq (.ops [zR 14 (.aG 2) 10 12,
 zO 15 2 14,
 ⟨some 4,none,.a (.alloc [zz,zz]),[]⟩,
 zS 2 [.t 4,.t 15]])
 (.cB [zM 16 2,
 zM 17 0,
 zN 18 17,
 zF 19 18 0,
 zL 20 19,
 zF 21 4 1,
 zL 22 21,
 iR 23 112 20 22,
 zR 24 .mx 16 23,
 zM 2 24] [[],[],[],[],[],[],[],[],[],[]])))
 (.ops [zP 25 (.bin .add) [.t 12,zI 1],
 zM 12 25]))))
def WC:aq:=⟨27,[.tmp 2],
 (.seq (.ops [zV 2 0])
 (.seq (.seq (.ops [zM 5 0,
 zP 6 (.eq .dh) [.t 5,.c .bq]])
 (.cond (.t 6)
 (.seq (.ops [zV 2 0])
 .ret)
 .skip))
 (.seq (.seq (.ops [zM 7 0,
 zN 8 7,
 zF 9 8 1,
 zL 10 9,
 zQ 11 .bX 10,
 zV 12 0])
 (.block 0 (.loop nh)))
 (.seq (.ops [zM 26 2,
 zM 2 26])
 .ret))))⟩
def WD:aq:=⟨27,[.tmp 2,.tmp 3],
 (.seq (.ops [zV 2 0,
 zK 3 (.bool false)])
 (.seq (.seq (.ops [zM 4 0,
 zP 5 (.eq .dh) [.t 4,.c .bq],
 zM 6 5,
 bH 7 0 6 false,
 su 8 7 6 false,
 lC 9 8 1 6 false,
 kT 10 9 6 false,
 bV 11 .bX [.t 10] 6 false,
 bV 12 (.bin .eql) [.t 11,zI 0] 6 false,
 zP 13 .pick [.t 6,.c (.bool true),.t 12]])
 (.cond (.t 13)
 (.seq (.ops [zV 2 0,
 zK 3 (.bool false)])
 .ret)
 .skip))
 (.seq (.cB [zM 14 0,
 zN 15 14,
 zF 16 15 1,
 zL 17 16,
 zM 18 0,
 zN 19 18,
 zF 20 19 1,
 zL 21 20,
 zQ 22 .bX 21,
 zP 23 (.bin .sub) [.t 22,zI 1],
 zR 24 (.aG 2) 17 23,
 zF 25 24 0,
 zL 26 25,
 zM 2 26,
 zK 3 (.bool true)] [[],[],[],[],[],[],[],[],[],[],[],[],[],[],[]])
 .ret)))⟩
def WE:aq:=⟨21,[.tmp 6],
 (.seq (.ops [zV 6 0])
 (.seq (.ops [zM 10 0,
 zM 11 1,
 iR 12 46 10 11,
 zM 9 12,
 zQ 13 (.ext 0) 9,
 zQ 14 (.ext 1) 9,
 zM 7 13,
 zM 8 14])
 (.seq (.seq (.ops [zM 15 8,
 zP 16 (.bin .neq) [.t 15,zI 0]])
 (.cond (.t 16)
 (.seq (.ops [zM 17 8,
 zM 6 17])
 .ret)
 .skip))
 (.seq (.ops [zM 18 2,
 zM 19 7,
 ⟨some 20,none,.call,[.t 18,.t 19]⟩,
 zM 6 20])
 .ret))))⟩
def WG:aq:=⟨23,[.tmp 2],
 (.seq (.ops [zV 2 0])
 (.seq (.seq (.ops [zM 4 0,
 eY 5 108 4])
 (.cond (.t 5)
 (.seq (.ops [zV 2 1])
 .ret)
 .skip))
 (.seq (.ops [zM 6 0,
 zN 7 6,
 zF 8 7 0,
 zL 9 8,
 eY 10 132 9,
 zM 3 10])
 (.seq (.ops [zM 11 0,
 zM 12 0,
 zN 13 12,
 zF 14 13 14,
 zL 15 14,
 zM 16 15,
 bH 17 3 16 false,
 bV 18 (.bin .eql) [.t 17,zI 0] 16 false,
 zP 19 .pick [.t 16,.c (.bool true),.t 18],
 zN 20 11,
 zF 21 20 14,
 zS 1 [.t 21,.t 19]])
 (.seq (.ops [zM 22 3,
 zM 2 22])
 .ret)))))⟩
def WH:aq:=⟨43,[.tmp 2],
 (.seq (.ops [zV 2 0])
 (.seq (.block 0 (.seq (.ops [zM 5 0,
 eY 6 108 5,
 zM 4 6])
 (.cond (.t 4)
 (.seq (.ops [zV 2 1])
 .ret)
 (.seq (.ops [zM 8 0,
 zN 9 8,
 zF 10 9 11,
 zL 11 10,
 zP 12 (.bin .eql) [.t 11,zI 3],
 zM 7 12])
 (.cond (.t 7)
 (.seq (.ops [zV 2 250])
 .ret)
 .skip)))))
 (.seq (.seq (.ops [zM 13 0,
 zN 14 13,
 zF 15 14 0,
 zL 16 15,
 eY 17 133 16,
 zM 3 17])
 (.seq (.ops [zM 18 3,
 zP 19 (.bin .neq) [.t 18,zI 0]])
 (.cond (.t 19)
 (.seq (.ops [zM 20 3,
 zM 2 20])
 .ret)
 .skip)))
 (.seq (.ops [zM 21 0,
 zN 22 21,
 zF 23 22 14,
 zS 1 [.t 23,.c (.bool true)]])
 (.seq (.ops [zM 24 0,
 zN 25 24,
 zF 26 25 10,
 zL 27 26,
 zP 28 (.bin .add) [.t 27,zI 1],
 zN 29 24,
 zF 30 29 10,
 zS 1 [.t 30,.t 28]])
 (.seq (.seq (.ops [zM 31 0,
 zN 32 31,
 zF 33 32 11,
 zL 34 33,
 zP 35 (.bin .neq) [.t 34,zI 0]])
 (.cond (.t 35)
 (.ops [zM 36 0,
 zN 37 36,
 zF 38 37 12,
 zL 39 38,
 zP 40 (.bin .add) [.t 39,zI 1],
 zN 41 36,
 zF 42 41 12,
 zS 1 [.t 42,.t 40]])
 .skip))
 (.seq (.ops [zV 2 0])
 .ret)))))))⟩
def WI:aq:=⟨27,[.tmp 5],
 (.seq (.ops [zV 5 0])
 (.seq (.seq (.ops [zM 7 0,
 eY 8 83 7,
 zP 9 (.bin .geq) [.t 8,zI 2]])
 (.cond (.t 9)
 (.seq (.ops [zV 5 130])
 .ret)
 .skip))
 (.seq (.cB [zL 10 1,
 zN 11 10,
 zF 12 11 0,
 zL 13 12,
 zL 14 2,
 zL 15 3,
 Ec 16 84 13 14 15,
 zM 6 16] [[],[],[],[],[],[],[],[]])
 (.seq (.seq (.ops [zM 17 6,
 zP 18 (.bin .eql) [.t 17,zI 0],
 zM 19 18,
 bH 20 0 19 true,
 gz 21 83 [.t 20] 19 true,
 bV 22 (.bin .eql) [.t 21,zI 0] 19 true,
 zP 23 .pick [.t 19,.t 22,.c (.bool false)]])
 (.cond (.t 23)
 (.seq (.ops [zM 24 0,
 zC 25 85 [.t 24,zI 1],
 zM 5 25])
 .ret)
 .skip))
 (.seq (.ops [zM 26 6,
 zM 5 26])
 .ret)))))⟩
def TC:aq:=⟨11,[.tmp 2],
 (.seq (.ops [zV 2 0])
 (.seq (.ops [zM 6 0,
 eY 7 134 6,
 zM 5 7,
 zQ 8 (.ext 0) 5,
 zQ 9 (.ext 1) 5,
 zM 3 8,
 zM 4 9])
 (.seq (.ops [zM 10 3,
 zM 2 10])
 .ret)))⟩
def WJ:aq:=⟨50,[.tmp 6],
 (.seq (.ops [zB 5 2,
 zV 6 0])
 (.seq (.seq (.ops [zM 9 0,
 zM 10 1,
 iR 11 135 9 10,
 zM 7 11])
 (.seq (.ops [zM 12 7,
 zP 13 (.bin .neq) [.t 12,zI 0]])
 (.cond (.t 13)
 (.seq (.ops [zM 14 7,
 zM 6 14])
 .ret)
 .skip)))
 (.seq (.ops [zQ 15 (.jG (.func 136) 0) 5,
 zM 8 15])
 (.seq (.block 0 (.seq (.cB [zM 17 0,
 zN 18 17,
 zF 19 18 0,
 zL 20 19,
 zM 21 1,
 zL 22 5,
 Ec 23 137 20 21 22,
 zQ 24 .not 23,
 zM 16 24] [[],[],[],[],[],[],[],[],[]])
 (.cond (.t 16)
 (.seq (.ops [zV 6 133])
 .ret)
 (.seq (.ops [zM 26 0,
 zN 27 26,
 zF 28 27 1,
 zL 29 28,
 zM 30 8,
 iR 31 138 29 30,
 zM 25 31])
 (.cond (.t 25)
 (.seq (.ops [zV 6 131])
 .ret)
 (.seq (.ops [zM 33 0,
 zM 34 1,
 iR 35 48 33 34,
 zQ 36 .bX 35,
 zP 37 (.bin .geq) [.t 36,zI 4],
 zM 32 37])
 (.cond (.t 32)
 (.seq (.ops [zV 6 130])
 .ret)
 .skip)))))))
 (.seq (.cB [zM 38 0,
 zM 39 0,
 zN 40 39,
 zF 41 40 1,
 zL 42 41,
 zM 43 1,
 zL 44 5,
 zR 45 (.build [zz,zz] [(0,1),(1,1)]) 43 44,
 ⟨some 46,none,.a (.dA [zz,zz] 1 2 [0]),[.t 45]⟩,
 zA 47 2 16 42 46,
 zN 48 38,
 zF 49 48 1,
 zS 1 [.t 49,.t 47]] [[],[],[],[],[],[],[],[],[],[],[],[],[]])
 (.seq (.ops [zV 6 0])
 .ret))))))⟩
def WK:aq:=⟨65,[.tmp 4],
 (.seq (.ops [zV 4 0])
 (.seq (.block 0 (.seq (.ops [zM 6 0,
 eY 7 108 6,
 zM 5 7])
 (.cond (.t 5)
 (.seq (.ops [zV 4 1])
 .ret)
 (.seq (.seq (.ops [zM 9 1,
 zP 10 (.bin .lss) [.t 9,zI 1],
 zM 8 10])
 (.cond (.t 8)
 .skip
 (.ops [zM 11 1,
 zP 12 (.bin .gtr) [.t 11,zI 3],
 zM 8 12])))
 (.cond (.t 8)
 (.seq (.ops [zV 4 2])
 .ret)
 (.seq (.ops [zM 14 0,
 zN 15 14,
 zF 16 15 11,
 zL 17 16,
 zP 18 (.bin .eql) [.t 17,zI 3],
 zM 19 18,
 bH 20 1 19 true,
 bV 21 (.bin .eql) [.t 20,zI 2] 19 true,
 zP 22 .pick [.t 19,.t 21,.c (.bool false)],
 zM 13 22])
 (.cond (.t 13)
 (.seq (.ops [zM 23 0,
 zM 24 1,
 zN 25 23,
 zF 26 25 11,
 zS 1 [.t 26,.t 24]])
 (.seq (.ops [zV 4 0])
 .ret))
 (.seq (.ops [zM 28 0,
 zN 29 28,
 zF 30 29 11,
 zL 31 30,
 zP 32 (.bin .neq) [.t 31,zI 0],
 zM 27 32])
 (.cond (.t 27)
 (.seq (.ops [zV 4 130])
 .ret)
 (.seq (.cB [zM 34 1,
 zP 35 (.bin .neq) [.t 34,zI 1],
 zM 36 35,
 bH 37 0 36 true,
 su 38 37 36 true,
 lC 39 38 13 36 true,
 kT 40 39 36 true,
 bH 41 0 36 true,
 su 42 41 36 true,
 lC 43 42 1 36 true,
 lC 44 43 7 36 true,
 kT 45 44 36 true,
 bV 46 (.bin .geq) [.t 40,.t 45] 36 true,
 zP 47 .pick [.t 36,.t 46,.c (.bool false)],
 zM 33 47] [[],[],[],[],[],[],[],[],[],[],[],[],[],[],[]])
 (.cond (.t 33)
 (.seq (.ops [zV 4 170])
 .ret)
 (.seq (.ops [zM 49 1,
 zP 50 (.bin .neq) [.t 49,zI 1],
 zM 48 50])
 (.cond (.t 48)
 (.ops [zM 51 0,
 zN 52 51,
 zF 53 52 13,
 zL 54 53,
 zP 55 (.bin .add) [.t 54,zI 1],
 zN 56 51,
 zF 57 56 13,
 zS 1 [.t 57,.t 55]])
 .skip)))))))))))))
 (.seq (.ops [zM 58 0,
 zM 59 0,
 zM 60 1,
 zN 61 58,
 zF 62 61 11,
 zS 1 [.t 62,.t 60],
 zN 63 59,
 zF 64 63 12,
 zS 1 [.t 64,zI 0]])
 (.seq (.ops [zV 4 0])
 .ret))))⟩
def WL:aq:=⟨29,[.tmp 4],
 (.seq (.ops [zV 4 0])
 (.seq (.seq (.cB [zL 8 1,
 zN 9 8,
 zF 10 9 0,
 zL 11 10,
 zL 12 2,
 iR 13 87 11 12,
 zM 7 13,
 zQ 14 (.ext 0) 7,
 zQ 15 (.ext 1) 7,
 zM 5 14,
 zM 6 15] [[],[],[],[],[],[],[],[],[],[],[]])
 (.seq (.ops [zM 16 6,
 zP 17 (.bin .neq) [.t 16,zI 0]])
 (.cond (.t 17)
 (.seq (.ops [zM 18 6,
 zM 4 18])
 .ret)
 .skip)))
 (.seq (.seq (.cB [zL 19 1,
 zN 20 19,
 zF 21 20 0,
 zL 22 21,
 zL 23 2,
 iR 24 48 22 23,
 zQ 25 .bX 24,
 zP 26 (.bin .eql) [.t 25,zI 0]] [[],[],[],[],[],[],[],[]])
 (.cond (.t 26)
 (.ops [zM 27 0,
 eY 28 88 27])
 .skip))
 (.seq (.ops [zV 4 0])
 .ret))))⟩
def WM:aq:=⟨46,[.tmp 4,.tmp 5],
 (.seq (.ops [zV 4 0,
 zV 5 0])
 (.seq (.seq (.ops [zM 8 0,
 zM 9 1,
 iR 10 135 8 9,
 zM 6 10])
 (.seq (.ops [zM 11 6,
 zP 12 (.bin .neq) [.t 11,zI 0]])
 (.cond (.t 12)
 (.seq (.ops [zM 13 6,
 zV 4 0,
 zM 5 13])
 .ret)
 .skip)))
 (.seq (.ops [zM 14 0,
 zM 15 1,
 iR 16 139 14 15,
 zM 7 16])
 (.seq (.seq (.ops [zM 17 7,
 zP 18 (.bin .lss) [.t 17,zI 0]])
 (.cond (.t 18)
 (.seq (.ops [zV 4 0,
 zV 5 132])
 .ret)
 .skip))
 (.seq (.ops [zM 19 0,
 zN 20 19,
 zF 21 20 1,
 zL 22 21,
 zM 23 7,
 zR 24 (.aG 2) 22 23,
 zF 25 24 1,
 zL 26 25,
 zM 4 26])
 (.seq (.cB [zM 27 0,
 zM 28 0,
 zN 29 28,
 zF 30 29 1,
 zL 31 30,
 zM 32 7,
 zM 33 7,
 zP 34 (.slice 2 false true true) [.t 31,.t 32,.t 33],
 zM 35 0,
 zN 36 35,
 zF 37 36 1,
 zL 38 37,
 zM 39 7,
 zP 40 (.bin .add) [.t 39,zI 1],
 zR 41 (.slice 2 true false false) 38 40,
 zA 42 2 16 34 41,
 zN 43 27,
 zF 44 43 1,
 zS 1 [.t 44,.t 42]] [[],[],[],[],[],[],[],[],[],[],[],[],[],[],[],[],[],[],[]])
 (.seq (.ops [zM 45 4,
 zM 4 45,
 zV 5 0])
 .ret)))))))⟩
def WN:aq:=⟨18,[.tmp 2],
 (.seq (.ops [zV 2 0])
 (.seq (.block 0 (.seq (.ops [zM 4 0,
 eY 5 108 4,
 zM 3 5])
 (.cond (.t 3)
 (.seq (.ops [zV 2 1])
 .ret)
 (.seq (.ops [zM 7 0,
 zN 8 7,
 zF 9 8 11,
 zL 10 9,
 zP 11 (.bin .eql) [.t 10,zI 0],
 zM 6 11])
 (.cond (.t 6)
 (.seq (.ops [zV 2 132])
 .ret)
 .skip)))))
 (.seq (.ops [zM 12 0,
 zM 13 0,
 zN 14 12,
 zF 15 14 11,
 zS 1 [.t 15,zI 0],
 zN 16 13,
 zF 17 16 12,
 zS 1 [.t 17,zI 0]])
 (.seq (.ops [zV 2 0])
 .ret))))⟩
def XR:aq:=⟨21,[.tmp 4],
 (.seq (.ops [zV 4 0])
 (.seq (.block 0 (.seq (.cB [zL 6 1,
 zN 7 6,
 zF 8 7 2,
 zL 9 8,
 zL 10 2,
 zR 11 (.aG 8) 9 10,
 zF 12 11 5,
 zL 13 12,
 zP 14 (.bin .eql) [.t 13,zI 0],
 zM 5 14] [[],[],[],[],[],[],[],[],[],[]])
 (.cond (.t 5)
 (.seq (.ops [zV 4 133])
 .ret)
 (.seq (.ops [zM 16 0,
 eY 17 83 16,
 zP 18 (.bin .eql) [.t 17,zI 3],
 zM 15 18])
 (.cond (.t 15)
 (.seq (.ops [zV 4 0])
 .ret)
 .skip)))))
 (.seq (.ops [zM 19 0,
 zC 20 85 [.t 19,zI 3],
 zM 4 20])
 .ret)))⟩
def XS:aq:=⟨8,[.tmp 2],
 (.seq (.ops [zV 2 0])
 (.seq (.seq (.ops [zM 3 0,
 eY 4 83 3,
 zP 5 (.bin .neq) [.t 4,zI 3]])
 (.cond (.t 5)
 (.seq (.ops [zV 2 132])
 .ret)
 .skip))
 (.seq (.ops [zM 6 0,
 zC 7 85 [.t 6,zI 2],
 zM 2 7])
 .ret)))⟩
def XT:aq:=⟨8,[.tmp 2],
 (.seq (.ops [zV 2 0])
 (.seq (.seq (.ops [zM 3 0,
 eY 4 83 3,
 zP 5 (.bin .neq) [.t 4,zI 2]])
 (.cond (.t 5)
 (.seq (.ops [zV 2 132])
 .ret)
 .skip))
 (.seq (.ops [zM 6 0,
 eY 7 88 6,
 zM 2 7])
 .ret)))⟩
def WO:aq:=⟨16,[.tmp 4],
 (.seq (.ops [zK 4 (.bool false)])
 (.seq (.ops [zM 5 0,
 eY 6 110 5,
 zQ 7 .not 6,
 zM 8 7,
 bH 9 0 8 true,
 su 10 9 8 true,
 lC 11 10 0 8 true,
 kT 12 11 8 true,
 bH 13 1 8 true,
 gz 14 140 [.t 12,.t 13] 8 true,
 zP 15 .pick [.t 8,.t 14,.c (.bool false)],
 zM 4 15])
 .ret))⟩
def kq:AC:=(.seq (.seq (.ops [zM 13 6,
 zP 14 (.bin .eql) [.t 13,zI 0]])
 (.cond (.t 14)
 .skip
 (.exit 0)))
 (.seq (.block 1 (.ops [zM 21 4,
 zM 22 5,
 ⟨some 23,none,.a (.dA [zz] 1 1 [0]),[.t 22]⟩,
 zA 24 1 8 21 23,
 zM 4 24]))
 (.ops [zM 16 0,
 zM 17 1,
 iR 18 87 16 17,
 zM 15 18,
 zQ 19 (.ext 0) 15,
 zQ 20 (.ext 1) 15,
 zM 5 19,
 zM 6 20])))
def WQ:aq:=⟨26,[.tmp 4],
 (.seq (.ops [zK 4 .aH])
 (.seq (.seq (.ops [zM 8 0,
 zM 9 1,
 iR 10 87 8 9,
 zM 7 10,
 zQ 11 (.ext 0) 7,
 zQ 12 (.ext 1) 7,
 zM 5 11,
 zM 6 12])
 (.block 0 (.loop kq)))
 (.seq (.ops [zM 25 4,
 zM 4 25])
 .ret)))⟩
def WR:aq:=⟨18,[.tmp 4],
 (.seq (.ops [zV 4 0])
 (.seq (.block 0 (.seq (.ops [zM 6 0,
 eY 7 49 6,
 zM 5 7])
 (.cond (.t 5)
 (.seq (.ops [zV 4 1])
 .ret)
 (.seq (.seq (.ops [zM 9 1,
 zP 10 (.bin .lss) [.t 9,zI 0],
 zM 8 10])
 (.cond (.t 8)
 .skip
 (.ops [zM 11 1,
 zM 12 0,
 zN 13 12,
 zF 14 13 2,
 zL 15 14,
 zQ 16 .bX 15,
 zR 17 (.bin .geq) 11 16,
 zM 8 17])))
 (.cond (.t 8)
 (.seq (.ops [zV 4 9])
 .ret)
 .skip)))))
 (.seq (.ops [zV 4 0])
 .ret)))⟩
def TD:aq:=⟨39,[.tmp 6,.tmp 7],
 (.seq (.ops [zB 3 0,
 zK 6 .bq,
 zV 7 0])
 (.seq (.seq (.ops [zO 11 8 3,
 ⟨some 12,none,.a (.dA [zz,zz,zz,zz,zz,zz,zz,zz] 1 8 [0]),[.t 11]⟩,
 ⟨some 13,none,.a (.dA [zz] 1 1 [0]),[zI 0]⟩,
 iR 14 10 12 13,
 zM 8 14])
 (.block 0 (.seq (.seq (.ops [zM 16 8,
 zP 17 (.bin .neq) [.t 16,zI 0],
 zM 15 17])
 (.cond (.t 15)
 .skip
 (.ops [zM 18 2,
 zP 19 (.bin .lss) [.t 18,zI 0],
 zM 15 19])))
 (.cond (.t 15)
 (.seq (.ops [zK 6 .bq,
 zV 7 2])
 .ret)
 (.seq (.ops [zM 21 2,
 zP 22 (.bin .gtr) [.t 21,zI 1099511627776],
 zM 20 22])
 (.cond (.t 20)
 (.seq (.ops [zK 6 .bq,
 zV 7 10])
 .ret)
 .skip))))))
 (.seq (.ops [zM 24 1,
 eY 25 141 24,
 zM 23 25,
 zQ 26 (.ext 0) 23,
 zQ 27 (.ext 1) 23,
 zM 9 26,
 zM 10 27])
 (.seq (.seq (.ops [zM 28 10,
 zP 29 (.bin .neq) [.t 28,zI 0]])
 (.cond (.t 29)
 (.seq (.ops [zM 30 10,
 zK 6 .bq,
 zM 7 30])
 .ret)
 .skip))
 (.seq (.ops [zM 31 9,
 zO 32 8 3,
 zM 33 2,
 zF 34 3 1,
 zL 35 34,
 zR 36 (.bin .add) 33 35,
 zP 37 (.build [.bq,zz,zz,zz,zz,zz,zz,zz,zz,zz,zz,zz,zz,zz,(.bool false)] [(0,1),(1,8),(9,1)]) [.t 31,.t 32,.t 36],
 zB 38 37,
 zM 6 38,
 zV 7 0])
 .ret)))))⟩
def WS:aq:=⟨24,[.tmp 4],
 (.seq (.ops [zV 4 0])
 (.seq (.ops [zM 7 0,
 zQ 8 (.jG (.func 142) 1) 7,
 zM 5 8])
 (.seq (.ops [zM 9 5,
 zM 10 1,
 ⟨some 11,none,.call,[.t 9,.t 10]⟩,
 zM 6 11])
 (.seq (.seq (.ops [zM 12 6,
 zP 13 (.bin .eql) [.t 12,zI 0]])
 (.cond (.t 13)
 (.ops [zM 14 0,
 zM 15 1,
 zM 16 0,
 zN 17 16,
 zF 18 17 0,
 zL 19 18,
 zR 20 (.bin .add) 15 19,
 zN 21 14,
 zF 22 21 1,
 zS 1 [.t 22,.t 20]])
 .skip))
 (.seq (.ops [zM 23 6,
 zM 4 23])
 .ret)))))⟩
def WT:aq:=⟨35,[.tmp 6],
 (.seq (.ops [zV 6 0])
 (.seq (.block 0 (.seq (.ops [zM 8 0,
 eY 9 110 8,
 zM 7 9])
 (.cond (.t 7)
 (.seq (.ops [zV 6 1])
 .ret)
 (.seq (.ops [zM 11 1,
 zP 12 (.bin .lss) [.t 11,zI 0],
 zM 13 12,
 bH 14 1 13 false,
 bH 15 0 13 false,
 su 16 15 13 false,
 lC 17 16 1 13 false,
 kT 18 17 13 false,
 bV 19 (.bin .geq) [.t 14,.t 18] 13 false,
 zP 20 .pick [.t 13,.c (.bool true),.t 19],
 zM 10 20])
 (.cond (.t 10)
 (.seq (.ops [zV 6 9])
 .ret)
 (.seq (.ops [zM 22 2,
 zP 23 (.bin .lss) [.t 22,zI 0],
 zM 24 23,
 bH 25 2 24 false,
 bV 26 (.bin .gtr) [.t 25,zI 1099511627840] 24 false,
 zP 27 .pick [.t 24,.c (.bool true),.t 26],
 zM 21 27])
 (.cond (.t 21)
 (.seq (.ops [zV 6 2])
 .ret)
 .skip)))))))
 (.seq (.ops [zM 28 0,
 zN 29 28,
 zF 30 29 0,
 zL 31 30,
 zM 32 1,
 zM 33 2,
 Ec 34 143 31 32 33,
 zM 6 34])
 .ret)))⟩
def WU:aq:=⟨9,[.tmp 2],
 (.seq (.ops [zV 2 0])
 (.seq (.seq (.ops [zM 3 0,
 eY 4 144 3])
 (.cond (.t 4)
 (.seq (.ops [zV 2 0])
 .ret)
 .skip))
 (.seq (.ops [zM 5 0,
 zN 6 5,
 zF 7 6 1,
 zL 8 7,
 zM 2 8])
 .ret)))⟩
def WV:aq:=⟨45,[.tmp 4],
 (.seq (.ops [zV 4 0])
 (.seq (.ops [zM 8 0,
 eY 9 101 8,
 zM 7 9,
 zQ 10 (.ext 0) 7,
 zQ 11 (.ext 1) 7,
 ⟨some 5,none,.a (.alloc [zz,zz,(.str [])]),[]⟩,
 zS 3 [.t 5,.t 10],
 zM 6 11])
 (.seq (.block 0 (.seq (.ops [zM 13 6,
 zQ 14 .not 13,
 zM 12 14])
 (.cond (.t 12)
 (.seq (.ops [zV 4 0])
 .ret)
 (.seq (.ops [zM 16 1,
 zM 17 0,
 zN 18 17,
 zF 19 18 9,
 zL 20 19,
 zR 21 (.bin .geq) 16 20,
 zM 15 21])
 (.cond (.t 15)
 (.seq (.ops [zV 4 3])
 .ret)
 (.seq (.cB [zM 23 0,
 zN 24 23,
 zF 25 24 10,
 zL 26 25,
 zM 27 0,
 zN 28 27,
 zF 29 28 1,
 zF 30 29 2,
 zL 31 30,
 zR 32 (.bin .geq) 26 31,
 zM 33 32,
 bH 34 0 33 true,
 su 35 34 33 true,
 lC 36 35 0 33 true,
 kT 37 36 33 true,
 gz 38 145 [.t 37] 33 true,
 bV 39 (.bin .gtr) [.t 38,zI 0] 33 true,
 zP 40 .pick [.t 33,.t 39,.c (.bool false)],
 zM 22 40] [[],[],[],[],[],[],[],[],[],[],[],[],[],[],[],[],[],[],[]])
 (.cond (.t 22)
 (.seq (.ops [zV 4 1])
 .ret)
 (.seq (.ops [zM 42 0,
 zO 43 3 5,
 iR 44 146 42 43,
 zM 41 44])
 (.cond (.t 41)
 (.seq (.ops [zV 4 2])
 .ret)
 .skip)))))))))
 (.seq (.ops [zV 4 0])
 .ret))))⟩
def LC:aq:=⟨10,[.tmp 2],
 (.seq (.ops [zK 2 .aH])
 (.seq (.seq (.ops [zM 3 0,
 eY 4 110 3])
 (.cond (.t 4)
 (.seq (.ops [zK 2 .aH])
 .ret)
 .skip))
 (.seq (.ops [zM 5 0,
 zN 6 5,
 zF 7 6 0,
 zL 8 7,
 eY 9 147 8,
 zM 2 9])
 .ret)))⟩
def LD:aq:=⟨14,[.cell 2 3 true,.tmp 3],
 (.seq (.ops [⟨some 2,none,.a (.alloc [zz,zz,(.str [])]),[]⟩,
 zK 3 (.bool false)])
 (.seq (.seq (.ops [zM 4 0,
 eY 5 108 4])
 (.cond (.t 5)
 (.seq (.ops [zP 6 (.build [zz,zz,(.str [])] []) [],
 zS 3 [.t 2,.t 6],
 zK 3 (.bool false)])
 .ret)
 .skip))
 (.seq (.ops [zM 7 0,
 zN 8 7,
 zF 9 8 0,
 zL 10 9,
 eY 11 148 10,
 zQ 12 (.ext 0) 11,
 zQ 13 (.ext 1) 11,
 zS 3 [.t 2,.t 12],
 zM 3 13])
 .ret)))⟩
def LF:aq:=⟨9,[.tmp 2],
 (.seq (.ops [zK 2 (.bool false)])
 (.seq (.ops [zM 3 0,
 zP 4 (.bin .geq) [.t 3,zI 1],
 zM 5 4,
 bH 6 0 5 true,
 bV 7 (.bin .leq) [.t 6,zI 64] 5 true,
 zP 8 .pick [.t 5,.t 7,.c (.bool false)],
 zM 2 8])
 .ret))⟩
def LG:aq:=⟨5,[.tmp 0],
 (.seq (.ops [zK 0 .bq])
 (.seq (.ops [zP 1 (.build [.aH,zz,zz,zz,zz,zz,zz,zz,zz,zz,zz,zz,zz,zz,zz,zz,zz,zz,zz,zz,zz,zz,zz,zz,zz,zz,zz,zz,zz,zz,zz,zz,zz,zz,zz,zz,zz,zz,zz,zz,zz,zz,zz,zz,zz,zz,zz,zz,zz,zz,zz,zz,zz,zz,zz,zz,zz,zz,zz,zz,zz,zz,zz,zz,zz] []) [],
 zB 2 1,
 zQ 3 (.build [.bq] [(0,1)]) 2,
 zB 4 3,
 zM 0 4])
 .ret))⟩
def kL:AC:=(.seq (.ops [zR 9 (.bin .lss) 8 7])
 (.seq (.cond (.t 9)
 .skip
 (.exit 0))
 (.seq (.block 1 (.seq (.ops [zM 10 8,
 zM 5 10])
 (.seq (.ops [zM 11 1,
 zM 12 0,
 zM 13 5,
 zR 14 (.aG 1) 12 13,
 zL 15 14,
 ⟨some 16,none,.call,[.t 11,.t 15]⟩])
 (.cond (.t 16)
 (.seq (.ops [zM 17 5,
 zM 4 17])
 .ret)
 .skip))))
 (.ops [zP 18 (.bin .add) [.t 8,zI 1],
 zM 8 18]))))
def HL:aq:=⟨19,[.tmp 4],
 (.seq (.ops [zV 4 0])
 (.seq (.seq (.ops [zM 6 0,
 zQ 7 .bX 6,
 zV 8 0])
 (.block 0 (.loop kL)))
 (.seq (.ops [zV 4 (-1)])
 .ret)))⟩
def LH:aq:=⟨9,[.tmp 4],
 (.seq (.ops [zK 4 (.bool false)])
 (.seq (.ops [zM 5 0,
 zM 6 1,
 iR 7 149 5 6,
 zP 8 (.bin .geq) [.t 7,zI 0],
 zM 4 8])
 .ret))⟩
def LI:aq:=⟨6,[.tmp 2],
 (.seq (.ops [zB 1 0,
 zK 2 (.bool false)])
 (.seq (.ops [zO 3 8 1,
 eY 4 107 3,
 zQ 5 .not 4,
 zM 2 5])
 .ret))⟩
def LJ:aq:=⟨25,[.tmp 2],
 (.seq (.ops [zB 1 0,
 zK 2 (.bool false)])
 (.seq (.ops [zF 3 1 2,
 zL 4 3,
 zP 5 (.bin .leq) [zI 1,.t 4],
 zM 6 5,
 lC 7 1 2 6 true,
 kT 8 7 6 true,
 lC 9 1 1 6 true,
 kT 10 9 6 true,
 bV 11 (.bin .leq) [.t 8,.t 10] 6 true,
 zP 12 .pick [.t 6,.t 11,.c (.bool false)],
 zM 13 12,
 lC 14 1 1 13 true,
 kT 15 14 13 true,
 lC 16 1 0 13 true,
 kT 17 16 13 true,
 bV 18 (.bin .leq) [.t 15,.t 17] 13 true,
 zP 19 .pick [.t 13,.t 18,.c (.bool false)],
 zM 20 19,
 lC 21 1 0 20 true,
 kT 22 21 20 true,
 bV 23 (.bin .leq) [.t 22,zI 64] 20 true,
 zP 24 .pick [.t 20,.t 23,.c (.bool false)],
 zM 2 24])
 .ret))⟩
def HM:aq:=⟨12,[.tmp 2],
 (.seq (.ops [zK 2 (.bool false)])
 (.seq (.ops [zM 3 0,
 zP 4 (.eq .dh) [.t 3,.c .bq],
 zM 5 4,
 bH 6 0 5 false,
 su 7 6 5 false,
 lC 8 7 0 5 false,
 kT 9 8 5 false,
 bV 10 (.eq .dh) [.t 9,.c .bq] 5 false,
 zP 11 .pick [.t 5,.c (.bool true),.t 10],
 zM 2 11])
 .ret))⟩
def LL:aq:=⟨4,[.tmp 2],
 (.seq (.ops [zB 1 0,
 zK 2 .jz])
 (.seq (.ops [zQ 3 (.jG (.func 150) 0) 1,
 zM 2 3])
 .ret))⟩
def LM:aq:=⟨12,[.tmp 2],
 (.seq (.ops [zK 2 (.bool false)])
 (.seq (.ops [zM 3 0,
 zP 4 (.eq .dh) [.t 3,.c .bq],
 zM 5 4,
 bH 6 0 5 false,
 su 7 6 5 false,
 lC 8 7 0 5 false,
 kT 9 8 5 false,
 bV 10 (.eq .dh) [.t 9,.c .bq] 5 false,
 zP 11 .pick [.t 5,.c (.bool true),.t 10],
 zM 2 11])
 .ret))⟩
def LN:aq:=⟨38,[.tmp 2,.tmp 3,.tmp 4],
 (.seq (.ops [zV 2 0,
 zV 3 0,
 zK 4 (.bool false)])
 (.seq (.seq (.ops [zM 5 0,
 eY 6 151 5,
 zM 7 6,
 bH 8 0 7 false,
 su 9 8 7 false,
 lC 10 9 0 7 false,
 kT 11 10 7 false,
 su 12 11 7 false,
 lC 13 12 0 7 false,
 kT 14 13 7 false,
 bV 15 .bX [.t 14] 7 false,
 bV 16 (.bin .eql) [.t 15,zI 0] 7 false,
 zP 17 .pick [.t 7,.c (.bool true),.t 16]])
 (.cond (.t 17)
 (.seq (.ops [zV 2 0,
 zV 3 0,
 zK 4 (.bool false)])
 .ret)
 .skip))
 (.seq (.cB [zM 18 0,
 zN 19 18,
 zF 20 19 0,
 zL 21 20,
 zN 22 21,
 zF 23 22 0,
 zL 24 23,
 zP 25 (.aG 2) [.t 24,zI 0],
 zF 26 25 0,
 zL 27 26,
 zM 28 0,
 zN 29 28,
 zF 30 29 0,
 zL 31 30,
 zN 32 31,
 zF 33 32 0,
 zL 34 33,
 zP 35 (.aG 2) [.t 34,zI 0],
 zF 36 35 1,
 zL 37 36,
 zM 2 27,
 zM 3 37,
 zK 4 (.bool true)] [[],[],[],[],[],[],[],[],[],[],[],[],[],[],[],[],[],[],[],[],[],[],[]])
 .ret)))⟩
def LO:aq:=⟨8,[.tmp 4],
 (.seq (.ops [zB 2 0,
 zB 3 1,
 zV 4 0])
 (.seq (.ops [zL 5 2,
 zR 6 (.jG (.func 153) 0) 2 3,
 iR 7 152 5 6,
 zM 4 7])
 .ret))⟩
def LP:aq:=⟨19,[.tmp 2],
 (.seq (.ops [zV 2 0])
 (.seq (.block 0 (.seq (.ops [zM 4 0,
 eY 5 161 4,
 zM 3 5])
 (.cond (.t 3)
 (.seq (.ops [zV 2 1])
 .ret)
 (.seq (.ops [zM 7 0,
 zN 8 7,
 zF 9 8 0,
 zL 10 9,
 zQ 11 .bX 10,
 zP 12 (.bin .eql) [.t 11,zI 0],
 zM 13 12,
 bH 14 0 13 false,
 gz 15 162 [.t 14] 13 false,
 zP 16 .pick [.t 13,.c (.bool true),.t 15],
 zM 6 16])
 (.cond (.t 6)
 (.seq (.ops [zV 2 250])
 .ret)
 .skip)))))
 (.seq (.ops [zM 17 0,
 eY 18 163 17])
 (.seq (.ops [zV 2 0])
 .ret))))⟩
def LQ:aq:=⟨30,[.tmp 2],
 (.seq (.ops [zV 2 0])
 (.seq (.block 0 (.seq (.ops [zM 4 0,
 eY 5 161 4,
 zM 3 5])
 (.cond (.t 3)
 (.seq (.ops [zV 2 1])
 .ret)
 (.seq (.ops [zM 7 0,
 eY 8 162 7,
 zQ 9 .not 8,
 zM 6 9])
 (.cond (.t 6)
 (.seq (.ops [zV 2 250])
 .ret)
 .skip)))))
 (.seq (.seq (.ops [zM 10 0,
 zN 11 10,
 zF 12 11 0,
 zL 13 12,
 zP 14 (.aG 3) [.t 13,zI 0],
 zF 15 14 1,
 zL 16 15,
 zP 17 (.bin .sub) [.t 16,zI 1],
 zP 18 (.aG 3) [.t 13,zI 0],
 zF 19 18 1,
 zS 1 [.t 19,.t 17]])
 (.seq (.ops [zM 20 0,
 zN 21 20,
 zF 22 21 0,
 zL 23 22,
 zP 24 (.aG 3) [.t 23,zI 0],
 zF 25 24 1,
 zL 26 25,
 zP 27 (.bin .eql) [.t 26,zI 0]])
 (.cond (.t 27)
 (.ops [zM 28 0,
 eY 29 163 28])
 .skip)))
 (.seq (.ops [zV 2 0])
 .ret))))⟩
def HN:aq:=⟨14,[.tmp 2,.tmp 3],
 (.seq (.ops [zV 2 0,
 zV 3 0])
 (.seq (.seq (.ops [zM 4 0,
 eY 5 108 4])
 (.cond (.t 5)
 (.seq (.ops [zV 2 0,
 zV 3 0])
 .ret)
 .skip))
 (.seq (.cB [zM 6 0,
 zN 7 6,
 zF 8 7 11,
 zL 9 8,
 zM 10 0,
 zN 11 10,
 zF 12 11 12,
 zL 13 12,
 zM 2 9,
 zM 3 13] [[],[],[],[],[],[],[],[],[],[]])
 .ret)))⟩
def LR:aq:=⟨27,[.tmp 4],
 (.seq (.ops [zV 4 0])
 (.seq (.block 0 (.seq (.ops [zM 6 0,
 zP 7 (.eq .dh) [.t 6,.c .bq],
 zM 8 7,
 bH 9 0 8 false,
 su 10 9 8 false,
 lC 11 10 2 8 false,
 kT 12 11 8 false,
 bV 13 .not [.t 12] 8 false,
 zP 14 .pick [.t 8,.c (.bool true),.t 13],
 zM 5 14])
 (.cond (.t 5)
 (.seq (.ops [zV 4 1])
 .ret)
 (.seq (.ops [zM 16 1,
 zP 17 (.bin .lss) [.t 16,zI 0],
 zM 18 17,
 bH 19 1 18 false,
 bH 20 0 18 false,
 su 21 20 18 false,
 lC 22 21 0 18 false,
 kT 23 22 18 false,
 bV 24 .bX [.t 23] 18 false,
 bV 25 (.bin .geq) [.t 19,.t 24] 18 false,
 zP 26 .pick [.t 18,.c (.bool true),.t 25],
 zM 15 26])
 (.cond (.t 15)
 (.seq (.ops [zV 4 9])
 .ret)
 .skip)))))
 (.seq (.ops [zV 4 0])
 .ret)))⟩
def LS:aq:=⟨8,[.tmp 3],
 (.seq (.ops [zB 2 0,
 zK 3 (.bool false)])
 (.seq (.ops [zF 4 2 1,
 zL 5 4,
 zL 6 1,
 zR 7 (.bin .eql) 5 6,
 zM 3 7])
 .ret))⟩
def LU:aq:=⟨32,[.tmp 6],
 (.seq (.ops [zK 6 (.bool false)])
 (.seq (.seq (.ops [zM 7 1,
 zP 8 (.bin .lss) [.t 7,zI 0],
 zM 9 8,
 bH 10 1 9 false,
 bH 11 0 9 false,
 bV 12 .bX [.t 11] 9 false,
 bV 13 (.bin .geq) [.t 10,.t 12] 9 false,
 zP 14 .pick [.t 9,.c (.bool true),.t 13],
 zM 15 14,
 bH 16 2 15 false,
 bV 17 (.bin .lss) [.t 16,zI 0] 15 false,
 zP 18 .pick [.t 15,.c (.bool true),.t 17],
 zM 19 18,
 bH 20 2 19 false,
 bV 21 (.bin .geq) [.t 20,zI 8] 19 false,
 zP 22 .pick [.t 19,.c (.bool true),.t 21]])
 (.cond (.t 22)
 (.seq (.ops [zK 6 (.bool false)])
 .ret)
 .skip))
 (.seq (.cB [zM 23 0,
 zM 24 1,
 zR 25 (.aG 8) 23 24,
 zF 26 25 3,
 zL 27 26,
 zM 28 2,
 zP 29 (.bin .shl) [zI 1,.t 28],
 zR 30 (.bin .and) 27 29,
 zP 31 (.bin .neq) [.t 30,zI 0],
 zM 6 31] [[],[],[],[],[],[],[],[],[],[]])
 .ret)))⟩
def LV:aq:=⟨9,[.tmp 4],
 (.seq (.ops [zK 4 (.bool false)])
 (.seq (.ops [zM 5 0,
 zM 6 1,
 iR 7 164 5 6,
 zP 8 (.bin .geq) [.t 7,zI 0],
 zM 4 8])
 .ret))⟩
def aY:AC:=(.seq (.ops [zM 6 15])
 (.ops [⟨some 7,none,.a (.alloc [zz,zz]),[]⟩,
 zS 2 [.t 7,.t 16]]))
def aZ:AC:=(.block 1 (.seq (.ops [zL 17 5,
 zO 18 2 7,
 ⟨some 19,none,.call,[.t 17,.t 18]⟩])
 (.cond (.t 19)
 (.seq (.ops [zM 20 6,
 zS 1 [.t 4,.t 20]])
 .ret)
 .skip)))
def LW:aq:=⟨21,[.cell 4 1 false],
 (.seq (.ops [⟨some 4,none,.a (.alloc [zz]),[]⟩])
 (.seq (.ops [zM 8 1,
 eY 9 109 8,
 ⟨some 5,none,.a (.alloc [.jz]),[]⟩,
 zS 1 [.t 5,.t 9]])
 (.seq (.seq (.ops [zM 10 0,
 zN 11 10,
 zF 12 11 1,
 zL 13 12,
 eY 14 165 13])
 (.block 0 (.rangeFunc (.t 14) [15,16] aY aZ)))
 (.seq (.ops [zS 1 [.t 4,zI (-1)]])
 .ret))))⟩
def LX:aq:=⟨21,[.tmp 4],
 (.seq (.ops [zK 4 (.bool false)])
 (.seq (.ops [zM 8 0,
 zM 9 1,
 iR 10 166 8 9,
 zM 7 10,
 zQ 11 (.ext 0) 7,
 zQ 12 (.ext 1) 7,
 zM 5 11,
 zM 6 12])
 (.seq (.seq (.ops [zM 13 6])
 (.cond (.t 13)
 (.ops [zM 14 0,
 zN 15 14,
 zF 16 15 0,
 zL 17 16,
 zM 18 5,
 iR 19 167 17 18])
 .skip))
 (.seq (.ops [zM 20 6,
 zM 4 20])
 .ret))))⟩
def LY:aq:=⟨13,[.tmp 2,.tmp 3],
 (.seq (.ops [zK 2 .bq,
 zV 3 0])
 (.seq (.seq (.ops [zM 4 0,
 zQ 5 .bX 4,
 zP 6 (.bin .gtr) [.t 5,zI 32]])
 (.cond (.t 6)
 (.seq (.ops [zK 2 .bq,
 zV 3 5])
 .ret)
 .skip))
 (.seq (.seq (.ops [zM 7 0,
 ⟨some 8,none,.call,[.c (.func (.func 168) [] []),.t 7,.c (.func (.func 169) [] [])]⟩])
 (.cond (.t 8)
 (.seq (.ops [zK 2 .bq,
 zV 3 2])
 .ret)
 .skip))
 (.seq (.ops [zM 9 0,
 eY 10 171 9,
 zP 11 (.build [.aH,(.bool false)] [(0,1),(1,1)]) [.t 10,.c (.bool true)],
 zB 12 11,
 zM 2 12,
 zV 3 0])
 .ret))))⟩
def LZ:aq:=⟨21,[.tmp 4],
 (.seq (.ops [zV 4 0])
 (.seq (.block 0 (.seq (.ops [zM 6 0,
 eY 7 144 6,
 zM 5 7])
 (.cond (.t 5)
 (.seq (.ops [zV 4 1])
 .ret)
 (.seq (.ops [zM 9 1,
 zP 10 (.bin .lss) [.t 9,zI 0],
 zM 8 10])
 (.cond (.t 8)
 (.seq (.ops [zV 4 2])
 .ret)
 (.seq (.ops [zM 12 1,
 zP 13 (.bin .gtr) [.t 12,zI 1099511627776],
 zM 11 13])
 (.cond (.t 11)
 (.seq (.ops [zV 4 10])
 .ret)
 (.seq (.ops [zM 15 1,
 zM 16 0,
 zN 17 16,
 zF 18 17 1,
 zL 19 18,
 zR 20 (.bin .lss) 15 19,
 zM 14 20])
 (.cond (.t 14)
 (.seq (.ops [zV 4 140])
 .ret)
 .skip)))))))))
 (.seq (.ops [zV 4 0])
 .ret)))⟩
def Ma:aq:=⟨55,[.tmp 6],
 (.seq (.ops [zV 6 0])
 (.seq (.seq (.ops [zM 10 0,
 zM 11 1,
 iR 12 172 10 11,
 zM 7 12])
 (.seq (.ops [zM 13 7,
 zP 14 (.bin .neq) [.t 13,zI 0]])
 (.cond (.t 14)
 (.seq (.ops [zM 15 7,
 zM 6 15])
 .ret)
 .skip)))
 (.seq (.seq (.ops [zM 17 0,
 zM 18 1,
 iR 19 166 17 18,
 zM 16 19,
 zQ 20 (.ext 0) 16,
 zQ 21 (.ext 1) 16,
 zM 8 20,
 zM 9 21])
 (.seq (.ops [zM 22 9])
 (.cond (.t 22)
 (.seq (.ops [zV 6 141])
 .ret)
 .skip)))
 (.seq (.cB [zM 23 0,
 zN 24 23,
 zF 25 24 0,
 zL 26 25,
 zM 27 0,
 zN 28 27,
 zF 29 28 0,
 zL 30 29,
 zN 31 30,
 zF 32 31 0,
 zL 33 32,
 zM 34 1,
 zM 35 2,
 zR 36 (.build [zz,zz] [(0,1),(1,1)]) 34 35,
 ⟨some 37,none,.a (.dA [zz,zz] 1 2 [0]),[.t 36]⟩,
 zA 38 2 16 33 37,
 zN 39 26,
 zF 40 39 0,
 zS 1 [.t 40,.t 38]] [[],[],[],[0,16],[],[],[],[],[],[],[],[],[],[],[],[],[],[],[]])
 (.seq (.cB [zM 41 0,
 zN 42 41,
 zF 43 42 0,
 zL 44 43,
 zM 45 0,
 zN 46 45,
 zF 47 46 0,
 zL 48 47,
 zN 49 48,
 zF 50 49 0,
 zL 51 50,
 zQ 52 .bX 51,
 zP 53 (.bin .sub) [.t 52,zI 1],
 iR 54 173 44 53] [[],[],[],[],[],[],[],[],[],[],[],[],[],[]])
 (.seq (.ops [zV 6 0])
 .ret))))))⟩
def Mb:aq:=⟨12,[.tmp 2],
 (.seq (.ops [zK 2 (.bool false)])
 (.seq (.ops [zM 3 0,
 zP 4 (.eq .dh) [.t 3,.c .bq],
 zM 5 4,
 bH 6 0 5 false,
 su 7 6 5 false,
 lC 8 7 0 5 false,
 kT 9 8 5 false,
 bV 10 (.bin .eql) [.t 9,zI 0] 5 false,
 zP 11 .pick [.t 5,.c (.bool true),.t 10],
 zM 2 11])
 .ret))⟩
def ng:AC:=(.seq (.ops [zR 13 (.bin .lss) 12 11])
 (.seq (.cond (.t 13)
 .skip
 (.exit 0))
 (.seq (.block 1 (.seq (.ops [zR 14 (.aG 3) 10 12,
 zO 15 3 14,
 ⟨some 4,none,.a (.alloc [zz,zz,(.str [])]),[]⟩,
 zS 3 [.t 4,.t 15]])
 (.seq (.ops [zF 16 4 0,
 zL 17 16,
 zP 18 (.bin .eql) [.t 17,zI 1]])
 (.cond (.t 18)
 (.ops [zM 19 2,
 zF 20 4 1,
 zL 21 20,
 zR 22 (.bin .add) 19 21,
 zM 2 22])
 .skip))))
 (.ops [zP 23 (.bin .add) [.t 12,zI 1],
 zM 12 23]))))
def Mc:aq:=⟨25,[.tmp 2],
 (.seq (.ops [zV 2 0])
 (.seq (.seq (.ops [zM 5 0,
 eY 6 161 5])
 (.cond (.t 6)
 (.seq (.ops [zV 2 0])
 .ret)
 .skip))
 (.seq (.seq (.ops [zM 7 0,
 zN 8 7,
 zF 9 8 0,
 zL 10 9,
 zQ 11 .bX 10,
 zV 12 0])
 (.block 0 (.loop ng)))
 (.seq (.ops [zM 24 2,
 zM 2 24])
 .ret))))⟩
def Md:aq:=⟨38,[.tmp 4],
 (.seq (.ops [zB 3 1,
 zK 4 (.bool false)])
 (.seq (.seq (.ops [zM 5 0,
 zN 6 5,
 zF 7 6 11,
 zL 8 7])
 (.block 0 (.seq (.ops [zP 10 (.bin .eql) [.t 8,zI 2],
 zM 9 10])
 (.cond (.t 9)
 (.seq (.cB [zM 11 0,
 zN 12 11,
 zF 13 12 12,
 zL 14 13,
 zM 15 0,
 zN 16 15,
 zF 17 16 1,
 zF 18 17 6,
 zL 19 18,
 zR 20 (.bin .geq) 14 19,
 zM 4 20] [[],[],[],[],[],[],[],[],[],[],[]])
 .ret)
 (.seq (.ops [zP 22 (.bin .eql) [.t 8,zI 1],
 zM 21 22])
 (.cond (.t 21)
 (.seq (.cB [zM 23 0,
 zN 24 23,
 zF 25 24 12,
 zL 26 25,
 zM 27 0,
 zN 28 27,
 zF 29 28 1,
 zF 30 29 4,
 zL 31 30,
 zR 32 (.bin .geq) 26 31,
 zM 33 32,
 lC 34 3 0 33 true,
 kT 35 34 33 true,
 bV 36 (.bin .eql) [.t 35,zI 1] 33 true,
 zP 37 .pick [.t 33,.t 36,.c (.bool false)],
 zM 4 37] [[],[],[],[],[],[],[],[],[],[],[],[],[],[],[],[]])
 .ret)
 .skip))))))
 (.seq (.ops [zK 4 (.bool false)])
 .ret)))⟩
def mI:AC:=(.seq (.ops [zR 21 (.bin .lss) 20 19])
 (.seq (.cond (.t 21)
 .skip
 (.exit 0))
 (.seq (.block 1 (.seq (.ops [zR 22 (.aG 2) 18 20,
 zO 23 2 22,
 ⟨some 5,none,.a (.alloc [zz,zz]),[]⟩,
 zS 2 [.t 5,.t 23]])
 (.ops [zM 24 2,
 zF 25 5 0,
 zL 26 25,
 ⟨some 27,none,.a (.dA [zz] 1 1 [0]),[.t 26]⟩,
 zA 28 1 8 24 27,
 zM 2 28])))
 (.ops [zP 29 (.bin .add) [.t 20,zI 1],
 zM 20 29]))))
def Me:aq:=⟨31,[.tmp 2],
 (.seq (.ops [zK 2 .aH])
 (.seq (.seq (.ops [zM 6 0,
 eY 7 151 6])
 (.cond (.t 7)
 (.seq (.ops [zK 2 .aH])
 .ret)
 .skip))
 (.seq (.ops [zM 8 0,
 zN 9 8,
 zF 10 9 0,
 zL 11 10,
 zN 12 11,
 zF 13 12 0,
 zL 14 13,
 eY 15 174 14,
 zM 3 15])
 (.seq (.ops [zM 16 3,
 ⟨some 17,none,.call,[.c (.func (.func 175) [] []),.t 16,.c (.func (.func 176) [] [])]⟩])
 (.seq (.seq (.ops [zM 18 3,
 zQ 19 .bX 18,
 zV 20 0])
 (.block 0 (.loop mI)))
 (.seq (.ops [zM 30 2,
 zM 2 30])
 .ret))))))⟩
def Mf:aq:=⟨21,[.cell 2 3 true,.tmp 3],
 (.seq (.ops [⟨some 2,none,.a (.alloc [zz,zz,(.str [])]),[]⟩,
 zK 3 (.bool false)])
 (.seq (.seq (.ops [zM 4 0,
 eY 5 161 4,
 zM 6 5,
 bH 7 0 6 false,
 su 8 7 6 false,
 lC 9 8 0 6 false,
 kT 10 9 6 false,
 bV 11 .bX [.t 10] 6 false,
 bV 12 (.bin .eql) [.t 11,zI 0] 6 false,
 zP 13 .pick [.t 6,.c (.bool true),.t 12]])
 (.cond (.t 13)
 (.seq (.ops [zP 14 (.build [zz,zz,(.str [])] []) [],
 zS 3 [.t 2,.t 14],
 zK 3 (.bool false)])
 .ret)
 .skip))
 (.seq (.ops [zM 15 0,
 zN 16 15,
 zF 17 16 0,
 zL 18 17,
 zP 19 (.aG 3) [.t 18,zI 0],
 zO 20 3 19,
 zS 3 [.t 2,.t 20],
 zK 3 (.bool true)])
 .ret)))⟩
def gN:AC:=(.seq (.ops [zR 9 (.bin .lss) 8 7])
 (.seq (.cond (.t 9)
 .skip
 (.exit 0))
 (.seq (.block 1 (.seq (.ops [zM 10 8,
 zM 5 10])
 (.seq (.ops [zM 11 1,
 zM 12 0,
 zM 13 5,
 zR 14 (.aG 8) 12 13,
 zO 15 8 14,
 ⟨some 16,none,.call,[.t 11,.t 15]⟩])
 (.cond (.t 16)
 (.seq (.ops [zM 17 5,
 zM 4 17])
 .ret)
 .skip))))
 (.ops [zP 18 (.bin .add) [.t 8,zI 1],
 zM 8 18]))))
def HO:aq:=⟨19,[.tmp 4],
 (.seq (.ops [zV 4 0])
 (.seq (.seq (.ops [zM 6 0,
 zQ 7 .bX 6,
 zV 8 0])
 (.block 0 (.loop gN)))
 (.seq (.ops [zV 4 (-1)])
 .ret)))⟩
def Mg:aq:=⟨8,[.tmp 3],
 (.seq (.ops [zB 2 0,
 zK 3 (.bool false)])
 (.seq (.ops [zF 4 2 0,
 zL 5 4,
 zL 6 1,
 zR 7 (.bin .eql) 5 6,
 zM 3 7])
 .ret))⟩
def Mh:aq:=⟨12,[.tmp 2],
 (.seq (.ops [zK 2 (.bool false)])
 (.seq (.ops [zM 3 0,
 zP 4 (.eq .dh) [.t 3,.c .bq],
 zM 5 4,
 bH 6 0 5 false,
 su 7 6 5 false,
 lC 8 7 0 5 false,
 kT 9 8 5 false,
 bV 10 (.eq .dh) [.t 9,.c .bq] 5 false,
 zP 11 .pick [.t 5,.c (.bool true),.t 10],
 zM 2 11])
 .ret))⟩
def lP:AC:=(.seq (.ops [zR 10 (.bin .lss) 9 8])
 (.seq (.cond (.t 10)
 .skip
 (.exit 0))
 (.seq (.block 1 (.seq (.ops [zM 11 9,
 zR 12 (.aG 8) 7 9,
 zO 13 8 12,
 ⟨some 6,none,.a (.alloc [zz,zz,zz,zz,zz,zz,zz,zz]),[]⟩,
 zM 5 11,
 zS 8 [.t 6,.t 13]])
 (.ops [zM 14 4,
 zM 15 1,
 zM 16 5,
 zO 17 8 6,
 ⟨some 18,none,.call,[.t 15,.t 16,.t 17]⟩,
 zR 19 .mx 14 18,
 zM 4 19])))
 (.ops [zP 20 (.bin .add) [.t 9,zI 1],
 zM 9 20]))))
def Mi:aq:=⟨22,[.tmp 4],
 (.seq (.ops [zV 4 0])
 (.seq (.seq (.ops [zM 7 0,
 zQ 8 .bX 7,
 zV 9 0])
 (.block 0 (.loop lP)))
 (.seq (.ops [zM 21 4,
 zM 4 21])
 .ret)))⟩
def Mj:aq:=⟨15,[.tmp 6],
 (.seq (.ops [zB 5 1,
 zV 6 0])
 (.seq (.seq (.ops [zL 7 2,
 zM 8 0,
 zL 9 3,
 Ec 10 137 7 8 9,
 zQ 11 .not 10])
 (.cond (.t 11)
 (.seq (.ops [zV 6 0])
 .ret)
 .skip))
 (.seq (.ops [zL 12 2,
 zM 13 0,
 iR 14 52 12 13,
 zM 6 14])
 .ret)))⟩
def Mk:aq:=⟨12,[.tmp 2],
 (.seq (.ops [zK 2 (.bool false)])
 (.seq (.ops [zM 3 0,
 zP 4 (.eq .dh) [.t 3,.c .bq],
 zM 5 4,
 bH 6 0 5 false,
 su 7 6 5 false,
 lC 8 7 1 5 false,
 kT 9 8 5 false,
 bV 10 .not [.t 9] 5 false,
 zP 11 .pick [.t 5,.c (.bool true),.t 10],
 zM 2 11])
 .ret))⟩
def Ml:aq:=⟨19,[.tmp 2],
 (.seq (.ops [zK 2 (.bool false)])
 (.seq (.ops [zM 3 0,
 zN 4 3,
 zF 5 4 0,
 zL 6 5,
 zQ 7 .bX 6,
 zP 8 (.bin .gtr) [.t 7,zI 0],
 zM 9 8,
 bH 10 0 9 true,
 su 11 10 9 true,
 lC 12 11 0 9 true,
 kT 13 12 9 true,
 bV 14 (.aG 3) [.t 13,zI 0] 9 true,
 lC 15 14 0 9 true,
 kT 16 15 9 true,
 bV 17 (.bin .eql) [.t 16,zI 1] 9 true,
 zP 18 .pick [.t 9,.t 17,.c (.bool false)],
 zM 2 18])
 .ret))⟩
def Mm:aq:=⟨20,[],
 (.cB [zM 2 0,
 zM 3 0,
 zN 4 3,
 zF 5 4 0,
 zL 6 5,
 zM 7 0,
 zN 8 7,
 zF 9 8 0,
 zL 10 9,
 zQ 11 .bX 10,
 zM 12 0,
 zN 13 12,
 zF 14 13 0,
 zL 15 14,
 zQ 16 .bX 15,
 zP 17 (.slice 3 true true true) [.t 6,zI 1,.t 11,.t 16],
 zN 18 2,
 zF 19 18 0,
 zS 1 [.t 19,.t 17]] [[],[],[],[],[],[],[],[],[],[],[],[],[],[],[],[],[],[],[]])⟩
def ff:AC:=(.seq (.ops [zR 9 (.bin .lss) 8 7])
 (.seq (.cond (.t 9)
 .skip
 (.exit 0))
 (.seq (.block 1 (.seq (.ops [zM 10 8,
 zM 5 10])
 (.seq (.ops [zM 11 1,
 zM 12 0,
 zM 13 5,
 zR 14 (.aG 2) 12 13,
 zO 15 2 14,
 ⟨some 16,none,.call,[.t 11,.t 15]⟩])
 (.cond (.t 16)
 (.seq (.ops [zM 17 5,
 zM 4 17])
 .ret)
 .skip))))
 (.ops [zP 18 (.bin .add) [.t 8,zI 1],
 zM 8 18]))))
def HP:aq:=⟨19,[.tmp 4],
 (.seq (.ops [zV 4 0])
 (.seq (.seq (.ops [zM 6 0,
 zQ 7 .bX 6,
 zV 8 0])
 (.block 0 (.loop ff)))
 (.seq (.ops [zV 4 (-1)])
 .ret)))⟩
def Mn:aq:=⟨4,[.tmp 2],
 (.seq (.ops [zB 1 0,
 zK 2 .jz])
 (.seq (.ops [zQ 3 (.jG (.func 180) 0) 1,
 zM 2 3])
 .ret))⟩
def Mo:aq:=⟨30,[.tmp 4,.tmp 5],
 (.seq (.ops [zV 4 0,
 zK 5 (.bool false)])
 (.seq (.seq (.ops [zM 6 0,
 zM 7 1,
 iR 8 172 6 7,
 zP 9 (.bin .neq) [.t 8,zI 0]])
 (.cond (.t 9)
 (.seq (.ops [zV 4 0,
 zK 5 (.bool false)])
 .ret)
 .skip))
 (.seq (.cB [zM 10 0,
 zN 11 10,
 zF 12 11 0,
 zL 13 12,
 zM 14 1,
 zN 15 13,
 zF 16 15 1,
 zR 17 (.dR 1 64) 16 14,
 zL 18 17,
 zP 19 (.bin .sub) [.t 18,zI 1],
 zM 20 0,
 zN 21 20,
 zF 22 21 0,
 zL 23 22,
 zM 24 1,
 zN 25 23,
 zF 26 25 1,
 zR 27 (.dR 1 64) 26 24,
 zL 28 27,
 zP 29 (.bin .gtr) [.t 28,zI 0],
 zM 4 19,
 zM 5 29] [[],[],[],[],[],[],[],[],[],[],[],[],[],[],[],[],[],[],[],[],[],[]])
 .ret)))⟩
def Mp:aq:=⟨60,[],
 (.seq (.ops [zM 6 0,
 zN 7 6,
 zF 8 7 0,
 zL 9 8,
 zQ 10 .bX 9,
 zP 11 (.bin .sub) [.t 10,zI 1],
 zM 4 11])
 (.seq (.ops [zM 12 0,
 zN 13 12,
 zF 14 13 0,
 zL 15 14,
 zM 16 4,
 zR 17 (.aG 2) 15 16,
 zO 18 2 17,
 ⟨some 5,none,.a (.alloc [zz,zz]),[]⟩,
 zS 2 [.t 5,.t 18]])
 (.seq (.cB [zM 19 0,
 zM 20 0,
 zN 21 20,
 zF 22 21 0,
 zL 23 22,
 zM 24 1,
 zR 25 (.aG 2) 23 24,
 zF 26 25 0,
 zL 27 26,
 zN 28 19,
 zF 29 28 1,
 zR 30 (.dR 1 64) 29 27,
 zS 1 [.t 30,zI 0]] [[],[],[],[],[],[],[],[],[],[],[],[],[]])
 (.seq (.ops [zM 31 0,
 zM 32 0,
 zN 33 32,
 zF 34 33 0,
 zL 35 34,
 zM 36 4,
 zR 37 (.slice 2 false true false) 35 36,
 zN 38 31,
 zF 39 38 0,
 zS 1 [.t 39,.t 37]])
 (.seq (.seq (.ops [zM 40 1,
 zM 41 4,
 zR 42 (.bin .eql) 40 41])
 (.cond (.t 42)
 .ret
 .skip))
 (.seq (.ops [zM 43 0,
 zM 44 1,
 zO 45 2 5,
 Ec 46 181 43 44 45])
 (.seq (.ops [zM 47 0,
 zM 48 1,
 iR 49 173 47 48])
 (.cB [zM 50 0,
 zM 51 0,
 zF 52 5 0,
 zL 53 52,
 zN 54 51,
 zF 55 54 1,
 zR 56 (.dR 1 64) 55 53,
 zL 57 56,
 zP 58 (.bin .sub) [.t 57,zI 1],
 iR 59 182 50 58] [[],[],[],[],[],[],[],[],[],[]]))))))))⟩
def Mq:aq:=⟨9,[.tmp 4],
 (.seq (.ops [zK 4 (.bool false)])
 (.seq (.ops [zM 5 0,
 zM 6 1,
 iR 7 183 5 6,
 zP 8 (.bin .geq) [.t 7,zI 0],
 zM 4 8])
 .ret))⟩
def Mr:aq:=⟨6,[.tmp 2],
 (.seq (.ops [zB 1 0,
 zK 2 (.bool false)])
 (.seq (.ops [zO 3 3 1,
 eY 4 170 3,
 zP 5 (.bin .neq) [.t 4,zI 0],
 zM 2 5])
 .ret))⟩
def Ms:aq:=⟨39,[.tmp 2],
 (.seq (.ops [zB 1 0,
 zV 2 0])
 (.seq (.cB [XK 7 184,
 zF 8 1 0,
 zL 9 8,
 ⟨some 10,none,.r (.lookup true (.agg [zz,zz])),[.t 7,.t 9]⟩,
 zM 6 10,
 zQ 11 (.ext 0) 6,
 zQ 12 (.ext 1) 6,
 ⟨some 3,none,.a (.alloc [zz,zz]),[]⟩,
 zS 2 [.t 3,.t 11],
 zM 4 12] [[],[],[0,1],[],[],[],[],[],[],[]])
 (.seq (.ops [zV 5 0])
 (.seq (.seq (.ops [zF 13 1 0,
 zL 14 13,
 zP 15 (.bin .eql) [.t 14,zI 6]])
 (.cond (.t 15)
 (.ops [zV 5 16])
 .skip))
 (.seq (.seq (.ops [zM 16 4,
 zQ 17 .not 16,
 zM 18 17,
 lC 19 1 1 18 false,
 kT 20 19 18 false,
 lC 21 3 0 18 false,
 kT 22 21 18 false,
 bV 23 (.bin .lss) [.t 20,.t 22] 18 false,
 zP 24 .pick [.t 18,.c (.bool true),.t 23],
 zM 25 24,
 lC 26 1 1 25 false,
 kT 27 26 25 false,
 lC 28 3 1 25 false,
 kT 29 28 25 false,
 bV 30 (.bin .gtr) [.t 27,.t 29] 25 false,
 zP 31 .pick [.t 25,.c (.bool true),.t 30],
 zM 32 31,
 lC 33 1 2 32 false,
 kT 34 33 32 false,
 bV 35 .wz [.t 34] 32 false,
 bH 36 5 32 false,
 bV 37 (.bin .gtr) [.t 35,.t 36] 32 false,
 zP 38 .pick [.t 32,.c (.bool true),.t 37]])
 (.cond (.t 38)
 (.seq (.ops [zV 2 2])
 .ret)
 .skip))
 (.seq (.ops [zV 2 0])
 .ret))))))⟩
def Mt:aq:=⟨8,[.tmp 2],
 (.seq (.ops [zK 2 .aH])
 (.seq (.seq (.ops [zM 3 0,
 zP 4 (.eq .mh) [.t 3,.c .aH]])
 (.cond (.t 4)
 (.seq (.ops [zK 2 .aH])
 .ret)
 .skip))
 (.seq (.ops [⟨some 5,none,.a (.dA [zz,zz,(.str [])] 0 3 []),[]⟩,
 zM 6 0,
 zA 7 3 32 5 6,
 zM 2 7])
 .ret)))⟩
def Mu:aq:=⟨15,[.tmp 4],
 (.seq (.ops [zV 4 0])
 (.seq (.block 0 (.seq (.ops [zM 6 0,
 eY 7 151 6,
 zM 5 7])
 (.cond (.t 5)
 (.seq (.ops [zV 4 1])
 .ret)
 (.seq (.ops [zM 9 1,
 zP 10 (.bin .lss) [.t 9,zI 0],
 zM 11 10,
 bH 12 1 11 false,
 bV 13 (.bin .geq) [.t 12,zI 64] 11 false,
 zP 14 .pick [.t 11,.c (.bool true),.t 13],
 zM 8 14])
 (.cond (.t 8)
 (.seq (.ops [zV 4 9])
 .ret)
 .skip)))))
 (.seq (.ops [zV 4 0])
 .ret)))⟩
def lQ:AC:=(.seq (.seq (.cB [zM 12 1,
 zP 13 (.bin .gtr) [.t 12,zI 0],
 zM 14 13,
 ⟨some 15,some (14,true),.r (.bf 2),[.t 4]⟩,
 bH 16 0 14 true,
 su 17 16 14 true,
 lC 18 17 0 14 true,
 kT 19 18 14 true,
 bH 20 1 14 true,
 bV 21 (.bin .sub) [.t 20,zI 1] 14 true,
 bV 22 (.bin .quo) [.t 21,zI 2] 14 true,
 bV 23 (.aG 2) [.t 19,.t 22] 14 true,
 ⟨some 24,some (14,true),.r (.bf 2),[.t 23]⟩,
 gz 25 185 [.t 15,.t 24] 14 true,
 zP 26 .pick [.t 14,.t 25,.c (.bool false)]] [[],[],[],[],[],[],[],[],[],[],[],[],[],[],[]])
 (.cond (.t 26)
 .skip
 (.exit 0)))
 (.block 1 (.seq (.ops [zM 27 0,
 zM 28 1,
 zM 29 0,
 zN 30 29,
 zF 31 30 0,
 zL 32 31,
 zM 33 1,
 zP 34 (.bin .sub) [.t 33,zI 1],
 zP 35 (.bin .quo) [.t 34,zI 2],
 zR 36 (.aG 2) 32 35,
 zO 37 2 36,
 Ec 38 181 27 28 37])
 (.ops [zM 39 1,
 zP 40 (.bin .sub) [.t 39,zI 1],
 zP 41 (.bin .quo) [.t 40,zI 2],
 zM 1 41]))))
def Mw:aq:=⟨46,[],
 (.seq (.ops [zM 5 0,
 zN 6 5,
 zF 7 6 0,
 zL 8 7,
 zM 9 1,
 zR 10 (.aG 2) 8 9,
 zO 11 2 10,
 ⟨some 4,none,.a (.alloc [zz,zz]),[]⟩,
 zS 2 [.t 4,.t 11]])
 (.seq (.block 0 (.loop lQ))
 (.ops [zM 42 0,
 zM 43 1,
 zO 44 2 4,
 Ec 45 181 42 43 44])))⟩
def HQ:aq:=⟨8,[.tmp 2],
 (.seq (.ops [zK 2 .aH])
 (.seq (.seq (.ops [zM 3 0,
 zP 4 (.eq .mh) [.t 3,.c .aH]])
 (.cond (.t 4)
 (.seq (.ops [zK 2 .aH])
 .ret)
 .skip))
 (.seq (.ops [⟨some 5,none,.a (.dA [zz,zz] 0 2 []),[]⟩,
 zM 6 0,
 zA 7 2 16 5 6,
 zM 2 7])
 .ret)))⟩
def HS:aq:=⟨14,[],
 (.seq (.ops [zM 5 0,
 zQ 6 .bX 5,
 zM 4 6])
 (.ops [zM 7 0,
 zM 8 4,
 zM 9 4,
 zQ 10 (.conv .u64) 9,
 eY 11 187 10,
 zM 12 1,
 ⟨some 13,none,.call,[.c (.func (.func 186) [] []),.t 7,zI 0,.t 8,.t 11,.t 12]⟩]))⟩
def Mx:aq:=⟨17,[.tmp 4],
 (.seq (.ops [zB 2 0,
 zB 3 1,
 zV 4 0])
 (.seq (.cB [zF 5 2 1,
 zL 6 5,
 zF 7 3 1,
 zL 8 7,
 iR 9 178 6 8,
 zF 10 2 0,
 zL 11 10,
 zF 12 3 0,
 zL 13 12,
 iR 14 178 11 13,
 ⟨some 15,none,.a (.dA [zz] 2 1 [0,1]),[.t 9,.t 14]⟩,
 eY 16 177 15,
 zM 4 16] [[],[],[],[],[],[],[0,5],[],[0,5],[],[],[],[]])
 .ret))⟩
def vz:AC:=(.seq (.ops [zR 9 (.bin .lss) 8 7])
 (.seq (.cond (.t 9)
 .skip
 (.exit 0))
 (.seq (.block 1 (.seq (.ops [zR 10 (.aG 1) 6 8,
 zL 11 10,
 zM 5 11])
 (.seq (.ops [zM 12 5,
 zM 13 3,
 zR 14 (.bin .neq) 12 13])
 (.cond (.t 14)
 (.seq (.ops [zM 15 5,
 zM 2 15])
 .ret)
 .skip))))
 (.ops [zP 16 (.bin .add) [.t 8,zI 1],
 zM 8 16]))))
def My:aq:=⟨18,[.tmp 2],
 (.seq (.ops [zV 2 0])
 (.seq (.ops [zV 3 0])
 (.seq (.seq (.ops [zM 6 0,
 zQ 7 .bX 6,
 zV 8 0])
 (.block 0 (.loop vz)))
 (.seq (.ops [zM 17 3,
 zM 2 17])
 .ret))))⟩
def Mz:aq:=⟨20,[.tmp 4],
 (.seq (.ops [zV 4 0])
 (.seq (.ops [zM 7 0,
 eY 8 188 7,
 zM 5 8])
 (.seq (.ops [zM 9 1,
 eY 10 188 9,
 zM 6 10])
 (.seq (.seq (.ops [zM 11 5])
 (.cond (.t 11)
 (.seq (.seq (.ops [zM 12 6])
 (.cond (.t 12)
 (.seq (.ops [zV 4 0])
 .ret)
 .skip))
 (.seq (.ops [zV 4 (-1)])
 .ret))
 .skip))
 (.seq (.seq (.ops [zM 13 6])
 (.cond (.t 13)
 (.seq (.ops [zV 4 1])
 .ret)
 .skip))
 (.seq (.seq (.ops [zM 14 0,
 zM 15 1,
 zR 16 (.bin .lss) 14 15])
 (.cond (.t 16)
 (.seq (.ops [zV 4 (-1)])
 .ret)
 .skip))
 (.seq (.seq (.ops [zM 17 0,
 zM 18 1,
 zR 19 (.bin .gtr) 17 18])
 (.cond (.t 19)
 (.seq (.ops [zV 4 1])
 .ret)
 .skip))
 (.seq (.ops [zV 4 0])
 .ret))))))))⟩
def eZ:AC:=(.seq (.seq (.ops [zM 7 3,
 zP 8 (.bin .geq) [.t 7,zI 0]])
 (.cond (.t 8)
 .skip
 (.exit 0)))
 (.seq (.block 1 (.seq (.ops [zM 11 0,
 zM 12 3,
 zL 13 1,
 zM 14 3,
 zR 15 (.aG 2) 13 14,
 zO 16 2 15,
 ⟨some 17,none,.call,[.t 11,.t 12,.t 16]⟩,
 zQ 18 .not 17])
 (.cond (.t 18)
 .ret
 .skip)))
 (.ops [zM 9 3,
 zP 10 (.bin .sub) [.t 9,zI 1],
 zM 3 10])))
def MA:aq:=⟨19,[],
 (.seq (.ops [zL 4 1,
 zQ 5 .bX 4,
 zP 6 (.bin .sub) [.t 5,zI 1],
 zM 3 6])
 (.block 0 (.loop eZ)))⟩
def MB:aq:=⟨21,[],
 (.seq (.ops [zB 5 2])
 (.seq (.cB [zM 6 0,
 zN 7 6,
 zF 8 7 0,
 zL 9 8,
 zM 10 1,
 zO 11 2 5,
 zR 12 (.aG 2) 9 10,
 zS 2 [.t 12,.t 11]] [[],[],[],[],[],[],[],[]])
 (.cB [zM 13 0,
 zF 14 5 0,
 zL 15 14,
 zM 16 1,
 zP 17 (.bin .add) [.t 16,zI 1],
 zN 18 13,
 zF 19 18 1,
 zR 20 (.dR 1 64) 19 15,
 zS 1 [.t 20,.t 17]] [[],[],[],[],[],[],[],[],[]])))⟩
def gM:AC:=(.block 1 (.seq (.ops [zM 13 1,
 zP 14 (.bin .mul) [zI 2,.t 13],
 zP 15 (.bin .add) [.t 14,zI 1],
 zM 5 15])
 (.seq (.seq (.cB [zM 16 5,
 zP 17 (.bin .add) [.t 16,zI 1],
 zM 18 0,
 zN 19 18,
 zF 20 19 0,
 zL 21 20,
 zQ 22 .bX 21,
 zR 23 (.bin .lss) 17 22,
 zM 24 23,
 bH 25 0 24 true,
 su 26 25 24 true,
 lC 27 26 0 24 true,
 kT 28 27 24 true,
 bH 29 5 24 true,
 bV 30 (.bin .add) [.t 29,zI 1] 24 true,
 bV 31 (.aG 2) [.t 28,.t 30] 24 true,
 ⟨some 32,some (24,true),.r (.bf 2),[.t 31]⟩,
 bH 33 0 24 true,
 su 34 33 24 true,
 lC 35 34 0 24 true,
 kT 36 35 24 true,
 bH 37 5 24 true,
 bV 38 (.aG 2) [.t 36,.t 37] 24 true,
 ⟨some 39,some (24,true),.r (.bf 2),[.t 38]⟩,
 gz 40 185 [.t 32,.t 39] 24 true,
 zP 41 .pick [.t 24,.t 40,.c (.bool false)]] [[],[],[],[],[],[],[],[],[],[],[],[],[],[],[],[],[],[],[],[],[],[],[],[],[],[]])
 (.cond (.t 41)
 (.ops [zM 42 5,
 zP 43 (.bin .add) [.t 42,zI 1],
 zM 5 43])
 .skip))
 (.seq (.seq (.cB [zM 44 5,
 zM 45 0,
 zN 46 45,
 zF 47 46 0,
 zL 48 47,
 zQ 49 .bX 48,
 zR 50 (.bin .geq) 44 49,
 zM 51 50,
 bH 52 0 51 false,
 su 53 52 51 false,
 lC 54 53 0 51 false,
 kT 55 54 51 false,
 bH 56 5 51 false,
 bV 57 (.aG 2) [.t 55,.t 56] 51 false,
 ⟨some 58,some (51,false),.r (.bf 2),[.t 57]⟩,
 ⟨some 59,some (51,false),.r (.bf 2),[.t 4]⟩,
 gz 60 185 [.t 58,.t 59] 51 false,
 bV 61 .not [.t 60] 51 false,
 zP 62 .pick [.t 51,.c (.bool true),.t 61]] [[],[],[],[],[],[],[],[],[],[],[],[],[],[],[],[],[],[],[]])
 (.cond (.t 62)
 (.exit 0)
 .skip))
 (.seq (.ops [zM 63 0,
 zM 64 1,
 zM 65 0,
 zN 66 65,
 zF 67 66 0,
 zL 68 67,
 zM 69 5,
 zR 70 (.aG 2) 68 69,
 zO 71 2 70,
 Ec 72 181 63 64 71])
 (.ops [zM 73 5,
 zM 1 73]))))))
def MC:aq:=⟨78,[],
 (.seq (.ops [zM 6 0,
 zN 7 6,
 zF 8 7 0,
 zL 9 8,
 zM 10 1,
 zR 11 (.aG 2) 9 10,
 zO 12 2 11,
 ⟨some 4,none,.a (.alloc [zz,zz]),[]⟩,
 zS 2 [.t 4,.t 12]])
 (.seq (.block 0 (.loop gM))
 (.ops [zM 74 0,
 zM 75 1,
 zO 76 2 4,
 Ec 77 181 74 75 76])))⟩
def iV:AC:=(.seq (.ops [zR 9 (.bin .lss) 8 7])
 (.seq (.cond (.t 9)
 .skip
 (.exit 0))
 (.seq (.block 1 (.seq (.ops [zM 10 8,
 zM 5 10])
 (.seq (.ops [zM 11 1,
 zM 12 0,
 zM 13 5,
 zR 14 (.aG 3) 12 13,
 zO 15 3 14,
 ⟨some 16,none,.call,[.t 11,.t 15]⟩])
 (.cond (.t 16)
 (.seq (.ops [zM 17 5,
 zM 4 17])
 .ret)
 .skip))))
 (.ops [zP 18 (.bin .add) [.t 8,zI 1],
 zM 8 18]))))
def HT:aq:=⟨19,[.tmp 4],
 (.seq (.ops [zV 4 0])
 (.seq (.seq (.ops [zM 6 0,
 zQ 7 .bX 6,
 zV 8 0])
 (.block 0 (.loop iV)))
 (.seq (.ops [zV 4 (-1)])
 .ret)))⟩
def MD:aq:=⟨15,[.tmp 0],
 (.seq (.ops [zK 0 .jJ])
 (.seq (.ops [zP 3 (.build [zz,zz] [(0,1),(1,1)]) [zI 1,zI 64],
 zP 4 (.build [zz,zz] [(0,1),(1,1)]) [zI 0,zI 7],
 ⟨some 1,none,.a (.alloc [zz,zz]),[]⟩,
 ⟨some 2,none,.a (.alloc [zz,zz]),[]⟩,
 zS 2 [.t 1,.t 3],
 zS 2 [.t 2,.t 4]])
 (.seq (.ops [⟨some 5,none,.a .Km,[]⟩,
 zO 6 2 1,
 ⟨none,none,.e .ins,[.t 5,zI 1,.t 6]⟩,
 zO 7 2 1,
 ⟨none,none,.e .ins,[.t 5,zI 8,.t 7]⟩,
 zO 8 2 2,
 ⟨none,none,.e .ins,[.t 5,zI 2,.t 8]⟩,
 zO 9 2 2,
 ⟨none,none,.e .ins,[.t 5,zI 6,.t 9]⟩,
 zO 10 2 2,
 ⟨none,none,.e .ins,[.t 5,zI 7,.t 10]⟩,
 zP 11 (.build [zz,zz] []) [],
 ⟨none,none,.e .ins,[.t 5,zI 3,.t 11]⟩,
 zP 12 (.build [zz,zz] []) [],
 ⟨none,none,.e .ins,[.t 5,zI 4,.t 12]⟩,
 zP 13 (.build [zz,zz] []) [],
 ⟨none,none,.e .ins,[.t 5,zI 5,.t 13]⟩,
 zM 14 5,
 zM 0 14])
 .ret)))⟩
def ME:aq:=⟨24,[.tmp 4],
 (.seq (.ops [zB 2 0,
 zB 3 1,
 zK 4 (.bool false)])
 (.seq (.ops [zF 5 2 1,
 zL 6 5,
 zF 7 3 1,
 zL 8 7,
 zR 9 (.bin .lss) 6 8,
 zM 10 9,
 lC 11 2 1 10 false,
 kT 12 11 10 false,
 lC 13 3 1 10 false,
 kT 14 13 10 false,
 bV 15 (.bin .eql) [.t 12,.t 14] 10 false,
 bH 16 15 10 false,
 lC 17 2 0 16 true,
 kT 18 17 16 true,
 lC 19 3 0 16 true,
 kT 20 19 16 true,
 bV 21 (.bin .lss) [.t 18,.t 20] 16 true,
 bV 22 .pick [.t 16,.t 21,.c (.bool false)] 10 false,
 zP 23 .pick [.t 10,.c (.bool true),.t 22],
 zM 4 23])
 .ret))⟩
def iW:AC:=(.block 1 (.seq (.ops [zM 21 2,
 zM 22 1,
 zR 23 (.bin .sub) 21 22,
 zM 12 23])
 (.seq (.seq (.ops [zM 24 12,
 zP 25 (.bin .leq) [.t 24,zI 12]])
 (.cond (.t 25)
 (.seq (.ops [zM 26 0,
 zM 27 1,
 zM 28 2,
 zM 29 4,
 SJ 30 189 26 27 28 29])
 .ret)
 .skip))
 (.seq (.seq (.ops [zM 31 3,
 zP 32 (.bin .eql) [.t 31,zI 0]])
 (.cond (.t 32)
 (.seq (.ops [zM 33 0,
 zM 34 1,
 zM 35 2,
 zM 36 4,
 SJ 37 190 33 34 35 36])
 .ret)
 .skip))
 (.seq (.seq (.ops [zM 38 10,
 zQ 39 .not 38])
 (.cond (.t 39)
 (.seq (.ops [zM 40 0,
 zM 41 1,
 zM 42 2,
 zM 43 4,
 SJ 44 191 40 41 42 43])
 (.ops [zM 45 3,
 zP 46 (.bin .sub) [.t 45,zI 1],
 zM 3 46]))
 .skip))
 (.seq (.ops [zM 48 0,
 zM 49 1,
 zM 50 2,
 zM 51 4,
 SJ 52 192 48 49 50 51,
 zM 47 52,
 zQ 53 (.ext 0) 47,
 zQ 54 (.ext 1) 47,
 zM 13 53,
 zM 14 54])
 (.seq (.seq (.ops [zM 55 14,
 zP 56 (.bin .eql) [.t 55,zI 2]])
 (.cond (.t 56)
 (.seq (.ops [zM 57 0,
 zM 58 1,
 zM 59 2,
 zM 60 4,
 SJ 61 193 57 58 59 60])
 (.seq (.ops [zM 62 2,
 zP 63 (.bin .sub) [.t 62,zI 1],
 zM 64 13,
 zM 65 1,
 zR 66 (.bin .sub) 64 65,
 zR 67 (.bin .sub) 63 66,
 zM 13 67])
 (.ops [zV 14 1])))
 .skip))
 (.seq (.seq (.ops [zM 68 10,
 zM 69 68,
 bH 70 11 69 true,
 zP 71 .pick [.t 69,.t 70,.c (.bool false)],
 zM 72 71,
 bH 73 14 72 true,
 bV 74 (.bin .eql) [.t 73,zI 1] 72 true,
 zP 75 .pick [.t 72,.t 74,.c (.bool false)]])
 (.cond (.t 75)
 (.seq (.ops [zM 76 0,
 zM 77 1,
 zM 78 2,
 zM 79 4,
 SJ 80 194 76 77 78 79])
 (.cond (.t 80)
 .ret
 .skip))
 .skip))
 (.seq (.seq (.cB [zM 81 1,
 zP 82 (.bin .gtr) [.t 81,zI 0],
 zM 83 82,
 bH 84 4 83 true,
 bH 85 0 83 true,
 bH 86 1 83 true,
 bV 87 (.bin .sub) [.t 86,zI 1] 83 true,
 bV 88 (.aG 2) [.t 85,.t 87] 83 true,
 ⟨some 89,some (83,true),.r (.bf 2),[.t 88]⟩,
 bH 90 0 83 true,
 bH 91 13 83 true,
 bV 92 (.aG 2) [.t 90,.t 91] 83 true,
 ⟨some 93,some (83,true),.r (.bf 2),[.t 92]⟩,
 ⟨some 94,some (83,true),.call,[.t 84,.t 89,.t 93]⟩,
 bV 95 (.bin .lss) [.t 94,zI 0] 83 true,
 bV 96 .not [.t 95] 83 true,
 zP 97 .pick [.t 83,.t 96,.c (.bool false)]] [[],[],[],[],[],[],[],[],[],[],[],[],[],[],[],[],[]])
 (.cond (.t 97)
 (.seq (.ops [zM 98 0,
 zM 99 1,
 zM 100 2,
 zM 101 13,
 zM 102 4,
 XL 103 195 98 99 100 101 102,
 zM 15 103])
 (.seq (.ops [zM 104 15,
 zM 1 104])
 (.exit 1)))
 .skip))
 (.seq (.ops [zM 106 0,
 zM 107 1,
 zM 108 2,
 zM 109 13,
 zM 110 4,
 XL 111 196 106 107 108 109 110,
 zM 105 111,
 zQ 112 (.ext 0) 105,
 zQ 113 (.ext 1) 105,
 zM 16 112,
 zM 17 113])
 (.seq (.ops [zM 114 17,
 zM 11 114])
 (.seq (.ops [zM 115 16,
 zM 116 1,
 zR 117 (.bin .sub) 115 116,
 zM 118 2,
 zM 119 16,
 zR 120 (.bin .sub) 118 119,
 zM 18 117,
 zM 19 120])
 (.seq (.ops [zM 121 12,
 zP 122 (.bin .quo) [.t 121,zI 8],
 zM 20 122])
 (.seq (.ops [zM 123 18,
 zM 124 19,
 zR 125 (.bin .lss) 123 124])
 (.cond (.t 125)
 (.seq (.ops [zM 126 18,
 zM 127 20,
 zR 128 (.bin .geq) 126 127,
 zM 10 128])
 (.seq (.ops [zM 129 0,
 zM 130 1,
 zM 131 16,
 zM 132 3,
 zM 133 4,
 XL 134 186 129 130 131 132 133])
 (.ops [zM 135 16,
 zP 136 (.bin .add) [.t 135,zI 1],
 zM 1 136])))
 (.seq (.ops [zM 137 19,
 zM 138 20,
 zR 139 (.bin .geq) 137 138,
 zM 10 139])
 (.seq (.ops [zM 140 0,
 zM 141 16,
 zP 142 (.bin .add) [.t 141,zI 1],
 zM 143 2,
 zM 144 3,
 zM 145 4,
 XL 146 186 140 142 143 144 145])
 (.ops [zM 147 16,
 zM 2 147]))))))))))))))))))
def HU:aq:=⟨148,[],
 (.seq (.ops [zK 10 (.bool true)])
 (.seq (.ops [zK 11 (.bool true)])
 (.block 0 (.loop iW))))⟩
def MF:aq:=⟨8,[.tmp 2],
 (.seq (.ops [zV 2 0])
 (.seq (.cond (.c (.bool false))
 (.seq (.ops [zM 3 0,
 zQ 4 (.conv .u32) 3,
 eY 5 197 4,
 zM 2 5])
 .ret)
 .skip)
 (.seq (.ops [zM 6 0,
 eY 7 198 6,
 zM 2 7])
 .ret)))⟩
def MG:aq:=⟨6,[.tmp 2],
 (.seq (.ops [zK 2 (.bool false)])
 (.seq (.ops [zM 3 0,
 zM 4 0,
 zR 5 (.bin .neq) 3 4,
 zM 2 5])
 .ret))⟩
def dr:AC:=(.seq (.seq (.cB [zM 18 9,
 zM 19 1,
 zR 20 (.bin .gtr) 18 19,
 zM 21 20,
 bH 22 3 21 true,
 bH 23 0 21 true,
 bH 24 9 21 true,
 bV 25 (.aG 2) [.t 23,.t 24] 21 true,
 ⟨some 26,some (21,true),.r (.bf 2),[.t 25]⟩,
 bH 27 0 21 true,
 bH 28 9 21 true,
 bV 29 (.bin .sub) [.t 28,zI 1] 21 true,
 bV 30 (.aG 2) [.t 27,.t 29] 21 true,
 ⟨some 31,some (21,true),.r (.bf 2),[.t 30]⟩,
 ⟨some 32,some (21,true),.call,[.t 22,.t 26,.t 31]⟩,
 bV 33 (.bin .lss) [.t 32,zI 0] 21 true,
 zP 34 .pick [.t 21,.t 33,.c (.bool false)]] [[],[],[],[],[],[],[],[],[],[],[],[],[],[],[],[],[]])
 (.cond (.t 34)
 .skip
 (.exit 2)))
 (.seq (.block 3 (.cB [zM 37 0,
 zM 38 9,
 zM 39 0,
 zM 40 9,
 zP 41 (.bin .sub) [.t 40,zI 1],
 zM 42 0,
 zM 43 9,
 zP 44 (.bin .sub) [.t 43,zI 1],
 zR 45 (.aG 2) 42 44,
 zO 46 2 45,
 zM 47 0,
 zM 48 9,
 zR 49 (.aG 2) 47 48,
 zO 50 2 49,
 zR 51 (.aG 2) 37 38,
 zS 2 [.t 51,.t 46],
 zR 52 (.aG 2) 39 41,
 zS 2 [.t 52,.t 50]] [[],[],[],[],[],[],[],[],[],[],[],[],[],[],[],[],[],[]]))
 (.ops [zM 35 9,
 zP 36 (.bin .sub) [.t 35,zI 1],
 zM 9 36])))
def dn:AC:=(.seq (.seq (.ops [zM 12 8,
 zM 13 2,
 zR 14 (.bin .lss) 12 13])
 (.cond (.t 14)
 .skip
 (.exit 0)))
 (.seq (.block 1 (.seq (.ops [zM 17 8,
 zM 9 17])
 (.block 2 (.loop dr))))
 (.ops [zM 15 8,
 zP 16 (.bin .add) [.t 15,zI 1],
 zM 8 16])))
def HV:aq:=⟨53,[],
 (.seq (.ops [zM 10 1,
 zP 11 (.bin .add) [.t 10,zI 1],
 zM 8 11])
 (.block 0 (.loop dn)))⟩
def MH:aq:=⟨25,[.tmp 2],
 (.seq (.ops [zV 2 0])
 (.seq (.seq (.ops [zM 3 0,
 zP 4 (.bin .geq) [.t 3,.c (.int .u64 4294967296)]])
 (.cond (.t 4)
 (.seq (.ops [zM 5 0,
 zP 6 (.bin .shr) [.t 5,.c (.int .u64 32)],
 zM 0 6])
 (.ops [zV 2 32]))
 .skip))
 (.seq (.seq (.ops [zM 7 0,
 zP 8 (.bin .geq) [.t 7,.c (.int .u64 65536)]])
 (.cond (.t 8)
 (.seq (.ops [zM 9 0,
 zP 10 (.bin .shr) [.t 9,.c (.int .u64 16)],
 zM 0 10])
 (.ops [zM 11 2,
 zP 12 (.bin .add) [.t 11,zI 16],
 zM 2 12]))
 .skip))
 (.seq (.seq (.ops [zM 13 0,
 zP 14 (.bin .geq) [.t 13,.c (.int .u64 256)]])
 (.cond (.t 14)
 (.seq (.ops [zM 15 0,
 zP 16 (.bin .shr) [.t 15,.c (.int .u64 8)],
 zM 0 16])
 (.ops [zM 17 2,
 zP 18 (.bin .add) [.t 17,zI 8],
 zM 2 18]))
 .skip))
 (.seq (.ops [zM 19 2,
 zM 20 0,
 zQ 21 (.conv .u8) 20,
 zP 22 .BO [.c (.str [0,1,2,2,3,3,3,3,4,4,4,4,4,4,4,4,5,5,5,5,5,5,5,5,5,5,5,5,5,5,5,5,6,6,6,6,6,6,6,6,6,6,6,6,6,6,6,6,6,6,6,6,6,6,6,6,6,6,6,6,6,6,6,6,7,7,7,7,7,7,7,7,7,7,7,7,7,7,7,7,7,7,7,7,7,7,7,7,7,7,7,7,7,7,7,7,7,7,7,7,7,7,7,7,7,7,7,7,7,7,7,7,7,7,7,7,7,7,7,7,7,7,7,7,7,7,7,7,8,8,8,8,8,8,8,8,8,8,8,8,8,8,8,8,8,8,8,8,8,8,8,8,8,8,8,8,8,8,8,8,8,8,8,8,8,8,8,8,8,8,8,8,8,8,8,8,8,8,8,8,8,8,8,8,8,8,8,8,8,8,8,8,8,8,8,8,8,8,8,8,8,8,8,8,8,8,8,8,8,8,8,8,8,8,8,8,8,8,8,8,8,8,8,8,8,8,8,8,8,8,8,8,8,8,8,8,8,8,8,8,8,8,8,8,8,8,8,8,8,8,8,8,8,8,8,8]),.t 21],
 zQ 23 (.conv .i64) 22,
 zR 24 (.bin .add) 19 23,
 zM 2 24])
 .ret)))))⟩
def T:Tr aq:=(.node (.node (.node (.node (.node (.node .nil (some TB) (.node .nil (some TD) .nil)) (some V7) (.node (.node (.node .nil (some Ma) .nil) (some WE) .nil) (some Wv) (.node (.node .nil (some HS) .nil) (some LN) .nil))) (some C7) (.node (.node (.node (.node .nil (some LR) .nil) none .nil) (some Wl) (.node (.node .nil (some Mp) .nil) (some LG) .nil)) (some Wb) (.node (.node (.node .nil (some Mh) .nil) (some WM) .nil) none (.node (.node .nil (some HT) .nil) none .nil)))) (some C3) (.node (.node (.node .nil (some Wi) (.node (.node .nil (some Mm) .nil) (some WV) .nil)) none (.node (.node (.node .nil (some Me) .nil) (some TC) .nil) (some Wz) .nil)) (some V3) (.node (.node (.node (.node .nil (some LW) .nil) none .nil) (some Wp) (.node (.node .nil (some Mt) .nil) (some LJ) .nil)) (some Wc) (.node (.node .nil (some XT) .nil) none (.node (.node .nil (some MF) .nil) none .nil))))) none (.node (.node (.node (.node .nil (some Wg) (.node (.node .nil (some Mk) .nil) (some WT) .nil)) none (.node (.node (.node .nil (some Mc) .nil) (some WH) .nil) (some Wx) (.node (.node .nil (some My) .nil) none .nil))) (some C9) (.node (.node (.node (.node .nil (some LU) .nil) none .nil) (some Wn) (.node (.node .nil (some Mr) .nil) (some LH) .nil)) (some XO) (.node (.node (.node .nil (some Mj) .nil) (some XR) .nil) none (.node (.node .nil (some ME) .nil) none .nil)))) none (.node (.node (.node (.node (.node .nil (some LQ) .nil) none .nil) (some Wj) (.node (.node .nil (some Mn) .nil) (some LD) .nil)) (some V9) (.node (.node (.node .nil (some HO) .nil) (some WK) .nil) (some WC) (.node (.node .nil (some MB) .nil) none .nil))) (some V5) (.node (.node (.node (.node .nil (some LY) .nil) none .nil) (some Wr) (.node (.node .nil (some Mw) .nil) (some LL) .nil)) (some XQ) (.node (.node .nil (some WQ) .nil) none (.node (.node .nil (some HV) .nil) none .nil)))))) none (.node (.node (.node (.node (.node .nil (some Wf) (.node .nil (some WS) .nil)) none (.node (.node (.node .nil (some Mb) .nil) (some WG) .nil) (some Ww) (.node (.node .nil (some Mx) .nil) (some LO) .nil))) (some C8) (.node (.node (.node (.node .nil (some LS) .nil) none .nil) (some Wm) (.node (.node .nil (some Mq) .nil) (some HL) .nil)) (some XN) (.node (.node (.node .nil (some Mi) .nil) (some WN) .nil) none (.node (.node .nil (some MD) .nil) none .nil)))) (some C4) (.node (.node (.node (.node (.node .nil (some LP) .nil) none .nil) (some SL) (.node (.node .nil (some HP) .nil) (some LC) .nil)) (some V8) (.node (.node (.node .nil (some Mf) .nil) (some WJ) .nil) (some WB) (.node (.node .nil (some MA) .nil) none .nil))) (some V4) (.node (.node (.node (.node .nil (some LX) .nil) none .nil) (some Wq) (.node (.node .nil (some Mu) .nil) (some HM) .nil)) (some Wd) (.node (.node .nil (some WO) .nil) none (.node (.node .nil (some MG) .nil) none .nil))))) none (.node (.node (.node (.node .nil (some Wh) (.node (.node .nil (some Ml) .nil) (some WU) .nil)) none (.node (.node (.node .nil (some Md) .nil) (some WI) .nil) (some Wy) (.node (.node .nil (some Mz) .nil) none .nil))) (some V2) (.node (.node (.node (.node .nil (some LV) .nil) none .nil) (some Wo) (.node (.node .nil (some Ms) .nil) (some LI) .nil)) (some XP) (.node (.node .nil (some XS) .nil) none (.node (.node .nil (some HU) .nil) none .nil)))) (some C6) (.node (.node (.node (.node (.node .nil (some HN) .nil) none (.node .nil (some MH) .nil)) (some Wk) (.node (.node .nil (some Mo) .nil) (some LF) .nil)) (some Wa) (.node (.node (.node .nil (some Mg) .nil) (some WL) .nil) (some WD) (.node (.node .nil (some MC) .nil) none .nil))) (some V6) (.node (.node (.node (.node .nil (some LZ) .nil) none .nil) (some Wu) (.node (.node .nil (some HQ) .nil) (some LM) .nil)) (some We) (.node (.node .nil (some WR) .nil) none .nil))))))
def fs(f:Nat):Option aq:=Tr.get T f
def ms(t:Nat)(n:String):Option Nat:=none
end Ir
end Go.Proofs.YtnlcabhfkpafmaaGreat
