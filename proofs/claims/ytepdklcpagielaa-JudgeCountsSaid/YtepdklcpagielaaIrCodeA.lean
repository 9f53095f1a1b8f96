/-
  What the program's functions are in Ads, printed by a program.
-/
import Derived.Test.YtepdklcpagielaaAdsDef
set_option linter.unusedVariables false
set_option maxRecDepth 100000
namespace Go.Proofs.Ytepdklcpagielaa
open Go Ads
namespace Ir
abbrev zM(d s:Nat):bK:=⟨some d,none,.p .J3,[.t s]⟩
abbrev zF(d s o:Nat):bK:=⟨some d,none,.p (.yH o),[.t s]⟩
abbrev zN(d s:Nat):bK:=⟨some d,none,.p .rQ,[.t s]⟩
abbrev zL(d s:Nat):bK:=⟨some d,none,.r .bC,[.t s]⟩
abbrev cG(d s g:Nat)(b:Bool):bK:=⟨some d,some (g,b),.p .J3,[.t s]⟩
abbrev bN(d s o g:Nat)(b:Bool):bK:=⟨some d,some (g,b),.p (.yH o),[.t s]⟩
abbrev wY(d s g:Nat)(b:Bool):bK:=⟨some d,some (g,b),.p .rQ,[.t s]⟩
abbrev bR(d s g:Nat)(b:Bool):bK:=⟨some d,some (g,b),.r .bC,[.t s]⟩
def zs(l:List Nat):String:=String.ofList (l.map Char.ofNat)
abbrev zP(d:Nat)(o:sH)(l:List bV):bK:=⟨some d,none,.p o,l⟩
abbrev bt(d:Nat)(o:sH)(l:List bV)(g:Nat)(b:Bool):bK:=⟨some d,some (g,b),.p o,l⟩
abbrev zS(n:Nat)(l:List bV):bK:=⟨none,none,.e (.store n),l⟩
abbrev zz:AV:=.int .i64 0
abbrev zI(n:Int):bV:=.c (.int .i64 n)
abbrev zC(d f:Nat)(l:List bV):bK:=⟨some d,none,.call,.c (.func (.func f) [] [])::l⟩
abbrev m7(d f:Nat)(l:List bV)(g:Nat)(b:Bool):bK:=⟨some d,some (g,b),.call,.c (.func (.func f) [] [])::l⟩
abbrev Ub(d f:Nat):bK:=⟨some d,none,.call,[.c (.func (.func f) [] [])]⟩
abbrev oU(d f v:Nat):bK:=⟨some d,none,.call,[.c (.func (.func f) [] []),.t v]⟩
abbrev jx(d f v w:Nat):bK:=⟨some d,none,.call,[.c (.func (.func f) [] []),.t v,.t w]⟩
abbrev E7(d f v w x:Nat):bK:=⟨some d,none,.call,[.c (.func (.func f) [] []),.t v,.t w,.t x]⟩
abbrev zC4(d f v w x y:Nat):bK:=⟨some d,none,.call,[.c (.func (.func f) [] []),.t v,.t w,.t x,.t y]⟩
abbrev zC5(d f v w x y z:Nat):bK:=⟨some d,none,.call,[.c (.func (.func f) [] []),.t v,.t w,.t x,.t y,.t z]⟩
abbrev zQ(d:Nat)(o:sH)(a:Nat):bK:=⟨some d,none,.p o,[.t a]⟩
abbrev zR(d:Nat)(o:sH)(a b:Nat):bK:=⟨some d,none,.p o,[.t a,.t b]⟩
abbrev zO(d n s:Nat):bK:=⟨some d,none,.r (.bn n),[.t s]⟩
abbrev zV(d:Nat)(n:Int):bK:=⟨some d,none,.p .J3,[.c (.int .i64 n)]⟩
abbrev zK(d:Nat)(v:AV):bK:=⟨some d,none,.p .J3,[.c v]⟩
abbrev zB(d s:Nat):bK:=⟨some d,none,.a .box,[.t s]⟩
abbrev zA(d n b x y:Nat):bK:=⟨some d,none,.e (.append n b),[.t x,.t y]⟩
def fX:AC:=(.seq (.seq (.ops [zM 51 15,
 zM 52 1,
 zQ 53 .bO 52,
 zR 54 (.bin .lss) 51 53])
 (.cond (.t 54)
 .skip
 (.exit 0)))
 (.seq (.block 1 (.seq (.bH [zM 57 8,
 zM 58 15,
 zR 59 (.aE 7) 57 58,
 zO 60 7 59,
 zM 61 1,
 zM 62 15,
 zR 63 (.aE 7) 61 62,
 zO 64 7 63,
 zR 65 (.neq (.cells [0,0,0,0,0,0,2])) 60 64] [[],[],[],[],[],[],[],[],[]])
 (.cond (.t 65)
 (.seq (.ops [zK 6 (.bool false)])
 .ret)
 .skip)))
 (.ops [zM 55 15,
 zP 56 (.bin .add) [.t 55,zI 1],
 zM 15 56])))
def C4:aB:=⟨87,[.tmp 6],
 (.seq (.ops [zB 3 0,
 zK 6 (.bool false)])
 (.seq (.ops [zM 16 1,
 zM 17 1,
 zQ 18 .bO 17,
 zP 19 .mn [.t 18,zI 300],
 zR 20 (.slice 7 false true false) 16 19,
 zM 1 20])
 (.seq (.seq (.ops [zM 21 2,
 zP 22 (.bin .gtr) [.t 21,zI 600],
 zM 23 22,
 cG 24 2 23 true,
 bt 25 (.bin .rem) [.t 24,zI 5] 23 true,
 bt 26 (.bin .neq) [.t 25,zI 0] 23 true,
 zP 27 .pick [.t 23,.t 26,.c (.bool false)]])
 (.cond (.t 27)
 (.ops [zM 28 2,
 zP 29 (.bin .rem) [.t 28,zI 600],
 zM 2 29])
 .skip))
 (.seq (.ops [zO 30 2 3,
 oU 31 17 30,
 ⟨some 7,none,.a (.alloc [.aD,.aD]),[]⟩,
 zS 2 [.t 7,.t 31]])
 (.seq (.ops [zK 8 .aD])
 (.seq (.ops [zM 32 8,
 zM 33 1,
 zA 34 7 64 32 33,
 zM 8 34])
 (.seq (.ops [zO 36 2 3,
 zM 37 8,
 zM 38 2,
 E7 39 18 36 37 38,
 zM 35 39,
 zQ 40 (.ext 0) 35,
 zQ 41 (.ext 1) 35,
 zQ 42 (.ext 2) 35,
 zM 9 40,
 zM 10 41,
 zM 11 42])
 (.seq (.ops [zO 44 2 7,
 zM 45 1,
 zM 46 2,
 E7 47 19 44 45 46,
 zM 43 47,
 zQ 48 (.ext 0) 43,
 zQ 49 (.ext 1) 43,
 zQ 50 (.ext 2) 43,
 zM 12 48,
 zM 13 49,
 zM 14 50])
 (.seq (.seq (.ops [zV 15 0])
 (.block 0 (.loop fX)))
 (.seq (.ops [zM 66 9,
 zM 67 12,
 zR 68 (.bin .eql) 66 67,
 zM 69 68,
 cG 70 10 69 true,
 cG 71 13 69 true,
 bt 72 (.bin .eql) [.t 70,.t 71] 69 true,
 zP 73 .pick [.t 69,.t 72,.c (.bool false)],
 zM 74 73,
 cG 75 11 74 true,
 cG 76 14 74 true,
 bt 77 (.bin .eql) [.t 75,.t 76] 74 true,
 zP 78 .pick [.t 74,.t 77,.c (.bool false)],
 zM 79 78,
 ⟨some 80,some (79,true),.r (.bn 2),[.t 3]⟩,
 ⟨some 81,some (79,true),.r (.bn 2),[.t 7]⟩,
 m7 82 20 [.t 80,.t 81] 79 true,
 zP 83 .pick [.t 79,.t 82,.c (.bool false)],
 zM 84 83,
 ⟨some 85,some (84,true),.call,[.c (.func (.func 21) [] [])]⟩,
 zP 86 .pick [.t 84,.t 85,.c (.bool false)],
 zM 6 86])
 .ret))))))))))⟩
def fW:AC:=(.seq (.seq (.ops [zM 33 12,
 zM 34 10,
 zR 35 (.bin .lss) 33 34])
 (.cond (.t 35)
 .skip
 (.exit 0)))
 (.seq (.block 1 (.ops [zM 38 11,
 zM 39 1,
 zM 40 12,
 zR 41 (.aE 7) 39 40,
 zF 42 41 0,
 zL 43 42,
 zP 44 .mn [.t 43,zI 400],
 zR 45 .mx 38 44,
 zM 11 45]))
 (.ops [zM 36 12,
 zP 37 (.bin .add) [.t 36,zI 1],
 zM 12 37])))
def C5:aB:=⟨105,[.tmp 6],
 (.seq (.ops [zB 3 0,
 zK 6 (.bool false)])
 (.seq (.ops [zM 16 1,
 zM 17 1,
 zQ 18 .bO 17,
 zP 19 .mn [.t 18,zI 200],
 zR 20 (.slice 7 false true false) 16 19,
 zM 1 20])
 (.seq (.ops [zO 22 2 3,
 zM 23 1,
 zC 24 18 [.t 22,.t 23,zI 400],
 zM 21 24,
 zQ 25 (.ext 0) 21,
 zQ 26 (.ext 1) 21,
 zQ 27 (.ext 2) 21,
 zM 7 25,
 zM 8 26,
 zM 9 27])
 (.seq (.ops [zM 28 2,
 zM 29 1,
 zQ 30 .bO 29,
 zP 31 (.bin .add) [.t 30,zI 1],
 jx 32 22 28 31,
 zM 10 32])
 (.seq (.ops [zV 11 0])
 (.seq (.seq (.ops [zV 12 0])
 (.block 0 (.loop fW)))
 (.seq (.bH [zO 47 2 3,
 zM 48 1,
 zM 49 10,
 zR 50 (.slice 7 false true false) 48 49,
 zM 51 11,
 E7 52 18 47 50 51,
 zM 46 52,
 zQ 53 (.ext 0) 46,
 zQ 54 (.ext 1) 46,
 zQ 55 (.ext 2) 46,
 zM 13 53,
 zM 14 54,
 zM 15 55] [[],[],[],[],[],[],[],[],[],[],[],[],[]])
 (.seq (.seq (.ops [zM 56 9,
 zP 57 (.bin .neq) [.t 56,zI 0],
 zM 58 57,
 cG 59 15 58 false,
 bt 60 (.bin .neq) [.t 59,zI 0] 58 false,
 zP 61 .pick [.t 58,.c (.bool true),.t 60]])
 (.cond (.t 61)
 (.seq (.ops [zM 62 9,
 zM 63 15,
 zR 64 (.bin .eql) 62 63,
 zM 65 64,
 ⟨some 66,some (65,true),.call,[.c (.func (.func 21) [] [])]⟩,
 zP 67 .pick [.t 65,.t 66,.c (.bool false)],
 zM 6 67])
 .ret)
 .skip))
 (.seq (.seq (.ops [zM 68 7,
 zP 69 (.bin .gtr) [.t 68,zI 1],
 zM 70 69,
 cG 71 8 70 true,
 cG 72 10 70 true,
 bt 73 (.bin .lss) [.t 71,.t 72] 70 true,
 zP 74 .pick [.t 70,.t 73,.c (.bool false)]])
 (.cond (.t 74)
 (.seq (.ops [zM 75 13,
 zM 76 7,
 zR 77 (.bin .eql) 75 76,
 zM 78 77,
 cG 79 14 78 true,
 cG 80 8 78 true,
 bt 81 (.bin .eql) [.t 79,.t 80] 78 true,
 zP 82 .pick [.t 78,.t 81,.c (.bool false)],
 zM 83 82,
 ⟨some 84,some (83,true),.call,[.c (.func (.func 21) [] [])]⟩,
 zP 85 .pick [.t 83,.t 84,.c (.bool false)],
 zM 6 85])
 .ret)
 .skip))
 (.seq (.ops [zM 86 7,
 zP 87 (.bin .eql) [.t 86,zI 1],
 zM 88 87,
 cG 89 8 88 true,
 cG 90 10 88 true,
 bt 91 (.bin .lss) [.t 89,.t 90] 88 true,
 zP 92 .pick [.t 88,.t 91,.c (.bool false)],
 zM 93 92,
 cG 94 13 93 false,
 bt 95 (.bin .eql) [.t 94,zI 0] 93 false,
 zP 96 .pick [.t 93,.c (.bool true),.t 95],
 zM 97 96,
 cG 98 14 97 false,
 cG 99 10 97 false,
 bt 100 (.bin .geq) [.t 98,.t 99] 97 false,
 zP 101 .pick [.t 97,.c (.bool true),.t 100],
 zM 102 101,
 ⟨some 103,some (102,true),.call,[.c (.func (.func 21) [] [])]⟩,
 zP 104 .pick [.t 102,.t 103,.c (.bool false)],
 zM 6 104])
 .ret))))))))))⟩
def fN:AC:=(.seq (.seq (.ops [zM 23 9,
 zM 24 7,
 zQ 25 .bO 24,
 zR 26 (.bin .lss) 23 25])
 (.cond (.t 26)
 .skip
 (.exit 0)))
 (.seq (.block 1 (.seq (.seq (.bH [zM 29 7,
 zM 30 9,
 zR 31 (.aE 7) 29 30,
 zO 32 7 31,
 zM 33 8,
 zM 34 9,
 zR 35 (.aE 7) 33 34,
 zO 36 7 35,
 zR 37 (.neq (.cells [0,0,0,0,0,0,2])) 32 36] [[],[],[],[],[],[],[],[],[]])
 (.cond (.t 37)
 (.seq (.ops [zK 6 (.bool false)])
 .ret)
 .skip))
 (.ops [zM 38 7,
 zM 39 9,
 zR 40 (.aE 7) 38 39,
 zF 41 40 0,
 zS 1 [.t 41,zI (-1)]])))
 (.ops [zM 27 9,
 zP 28 (.bin .add) [.t 27,zI 1],
 zM 9 28])))
def fO:AC:=(.seq (.seq (.ops [zM 45 11,
 zM 46 8,
 zQ 47 .bO 46,
 zR 48 (.bin .lss) 45 47])
 (.cond (.t 48)
 .skip
 (.exit 2)))
 (.seq (.block 3 (.seq (.bH [zM 51 11,
 zM 52 10,
 zQ 53 .bO 52,
 zR 54 (.bin .geq) 51 53,
 zM 55 54,
 cG 56 10 55 false,
 cG 57 11 55 false,
 bt 58 (.aE 7) [.t 56,.t 57] 55 false,
 ⟨some 59,some (55,false),.r (.bn 7),[.t 58]⟩,
 cG 60 8 55 false,
 cG 61 11 55 false,
 bt 62 (.aE 7) [.t 60,.t 61] 55 false,
 ⟨some 63,some (55,false),.r (.bn 7),[.t 62]⟩,
 bt 64 (.neq (.cells [0,0,0,0,0,0,2])) [.t 59,.t 63] 55 false,
 zP 65 .pick [.t 55,.c (.bool true),.t 64]] [[],[],[],[],[],[],[],[],[],[],[],[],[],[],[]])
 (.cond (.t 65)
 (.seq (.ops [zK 6 (.bool false)])
 .ret)
 .skip)))
 (.ops [zM 49 11,
 zP 50 (.bin .add) [.t 49,zI 1],
 zM 11 50])))
def C6:aB:=⟨84,[.tmp 6],
 (.seq (.ops [zB 5 2,
 zK 6 (.bool false)])
 (.seq (.ops [zM 12 0,
 zM 13 1,
 jx 14 23 12 13,
 zM 15 0,
 zM 16 1,
 jx 17 24 15 16,
 zM 7 14,
 zM 8 17])
 (.seq (.seq (.ops [zM 18 7,
 zQ 19 .bO 18,
 zM 20 8,
 zQ 21 .bO 20,
 zR 22 (.bin .neq) 19 21])
 (.cond (.t 22)
 (.seq (.ops [zK 6 (.bool false)])
 .ret)
 .skip))
 (.seq (.seq (.ops [zV 9 0])
 (.block 0 (.loop fN)))
 (.seq (.ops [zM 42 0,
 zM 43 1,
 jx 44 23 42 43,
 zM 10 44])
 (.seq (.seq (.ops [zV 11 0])
 (.block 2 (.loop fO)))
 (.seq (.bH [zM 66 0,
 zM 67 1,
 zP 68 (.bT 1 2) [.t 5,zI 0],
 zL 69 68,
 zP 70 (.bT 1 2) [.t 5,zI 1],
 zL 71 70,
 zC4 72 25 66 67 69 71,
 zM 73 0,
 zM 74 1,
 zP 75 (.bT 1 2) [.t 5,zI 0],
 zL 76 75,
 zP 77 (.bT 1 2) [.t 5,zI 1],
 zL 78 77,
 zC4 79 26 73 74 76 78,
 zR 80 (.bin .eql) 72 79,
 zM 81 80,
 ⟨some 82,some (81,true),.call,[.c (.func (.func 21) [] [])]⟩,
 zP 83 .pick [.t 81,.t 82,.c (.bool false)],
 zM 6 83] [[],[],[],[],[],[],[],[],[],[],[0,7],[],[0,7],[],[],[],[],[],[]])
 .ret)))))))⟩
def fZ:AC:=(.seq (.seq (.ops [zM 106 14,
 zM 107 11,
 zQ 108 .bO 107,
 zR 109 (.bin .lss) 106 108])
 (.cond (.t 109)
 .skip
 (.exit 2)))
 (.seq (.block 3 (.seq (.bH [⟨some 112,none,.a (.bX [zz,zz,zz,zz,zz,zz,(.str [])] 0 7 []),[]⟩,
 zM 113 13,
 zA 114 7 64 112 113,
 zM 115 11,
 zM 116 14,
 zR 117 (.aE 7) 115 116,
 zO 118 7 117,
 ⟨some 119,none,.a (.bX [zz,zz,zz,zz,zz,zz,(.str [])] 1 7 [0]),[.t 118]⟩,
 zA 120 7 64 114 119,
 zM 15 120] [[],[],[],[],[],[],[0,3],[],[],[]])
 (.seq (.ops [Ub 121 27,
 zM 122 15,
 zC 123 4 [.t 121,.t 122,zI 3],
 zQ 124 .not 123])
 (.cond (.t 124)
 (.seq (.ops [zK 0 (.bool false)])
 .ret)
 .skip))))
 (.ops [zM 110 14,
 zP 111 (.bin .add) [.t 110,zI 1],
 zM 14 111])))
def fY:AC:=(.seq (.seq (.ops [zM 76 12,
 zM 77 11,
 zQ 78 .bO 77,
 zR 79 (.bin .lss) 76 78])
 (.cond (.t 79)
 .skip
 (.exit 0)))
 (.seq (.block 1 (.seq (.ops [zK 13 .aD])
 (.seq (.ops [zM 82 13,
 zM 83 10,
 zA 84 7 64 82 83,
 zM 13 84])
 (.seq (.ops [zM 85 13,
 zM 86 11,
 zM 87 12,
 zR 88 (.aE 7) 86 87,
 zO 89 7 88,
 ⟨some 90,none,.a (.bX [zz,zz,zz,zz,zz,zz,(.str [])] 1 7 [0]),[.t 89]⟩,
 zA 91 7 64 85 90,
 zM 13 91])
 (.seq (.seq (.ops [Ub 92 27,
 zM 93 13,
 zC 94 4 [.t 92,.t 93,zI 50],
 zQ 95 .not 94,
 zM 96 95,
 ⟨some 97,some (96,false),.call,[.c (.func (.func 27) [] [])]⟩,
 cG 98 13 96 false,
 bt 99 (.build [zz,zz,zz,zz,zz,zz,(.str [])] [(0,1),(1,1)]) [zI 1,zI 4] 96 false,
 bt 100 (.build [zz,zz,zz,zz,zz,zz,(.str [])] [(0,1),(1,1),(3,1)]) [zI 1,zI 1,zI (-1)] 96 false,
 ⟨some 101,some (96,false),.a (.bX [zz,zz,zz,zz,zz,zz,(.str [])] 2 7 [0,1]),[.t 99,.t 100]⟩,
 ⟨some 102,some (96,false),.e (.append 7 64),[.t 98,.t 101]⟩,
 m7 103 4 [.t 97,.t 102,zI 2] 96 false,
 bt 104 .not [.t 103] 96 false,
 zP 105 .pick [.t 96,.c (.bool true),.t 104]])
 (.cond (.t 105)
 (.seq (.ops [zK 0 (.bool false)])
 .ret)
 .skip))
 (.seq (.ops [zV 14 0])
 (.block 2 (.loop fZ))))))))
 (.ops [zM 80 12,
 zP 81 (.bin .add) [.t 80,zI 1],
 zM 12 81])))
def gk:AC:=(.seq (.seq (.ops [zM 167 19,
 zP 168 (.bin .lss) [.t 167,zI 6]])
 (.cond (.t 168)
 .skip
 (.exit 6)))
 (.seq (.block 7 (.seq (.ops [Ub 171 27,
 ⟨some 172,none,.a (.bX [zz,zz,zz,zz,zz,zz,(.str [])] 0 7 []),[]⟩,
 zM 173 16,
 zA 174 7 64 172 173,
 zM 175 18,
 zM 176 19,
 zR 177 (.build [zz,zz,zz,zz,zz,zz,(.str [])] [(0,1),(1,1)]) 175 176,
 ⟨some 178,none,.a (.bX [zz,zz,zz,zz,zz,zz,(.str [])] 1 7 [0]),[.t 177]⟩,
 zA 179 7 64 174 178,
 zM 180 18,
 zP 181 (.bin .add) [.t 180,zI 1],
 E7 182 4 171 179 181,
 zQ 183 .not 182])
 (.cond (.t 183)
 (.seq (.ops [zK 0 (.bool false)])
 .ret)
 .skip)))
 (.ops [zM 169 19,
 zP 170 (.bin .add) [.t 169,zI 1],
 zM 19 170])))
def ga:AC:=(.seq (.seq (.ops [zM 138 18,
 zP 139 (.bin .lss) [.t 138,zI 48]])
 (.cond (.t 139)
 .skip
 (.exit 4)))
 (.seq (.block 5 (.seq (.seq (.ops [zM 142 18,
 zP 143 (.bin .rem) [.t 142,zI 4],
 zP 144 (.bin .lss) [.t 143,zI 2]])
 (.cond (.t 144)
 (.seq (.ops [zM 145 16,
 zM 146 18,
 zP 147 (.build [zz,zz,zz,zz,zz,zz,(.str [])] [(0,1),(1,1),(3,1)]) [.t 146,zI 1,zI (-1)],
 ⟨some 148,none,.a (.bX [zz,zz,zz,zz,zz,zz,(.str [])] 1 7 [0]),[.t 147]⟩,
 zA 149 7 64 145 148,
 zM 16 149])
 (.ops [zM 150 17,
 zM 151 18,
 zP 152 (.build [zz,zz,zz,zz,zz,zz,(.str [])] [(0,1),(1,1),(3,1)]) [.t 151,zI 1,zI (-1)],
 ⟨some 153,none,.a (.bX [zz,zz,zz,zz,zz,zz,(.str [])] 1 7 [0]),[.t 152]⟩,
 zA 154 7 64 150 153,
 zM 17 154]))
 .skip))
 (.seq (.seq (.ops [Ub 155 27,
 ⟨some 156,none,.a (.bX [zz,zz,zz,zz,zz,zz,(.str [])] 0 7 []),[]⟩,
 zM 157 17,
 zA 158 7 64 156 157,
 zM 159 18,
 zP 160 (.build [zz,zz,zz,zz,zz,zz,(.str [])] [(0,1),(1,1)]) [.t 159,zI 2],
 ⟨some 161,none,.a (.bX [zz,zz,zz,zz,zz,zz,(.str [])] 1 7 [0]),[.t 160]⟩,
 zA 162 7 64 158 161,
 zM 163 18,
 zP 164 (.bin .add) [.t 163,zI 1],
 E7 165 4 155 162 164,
 zQ 166 .not 165])
 (.cond (.t 166)
 (.seq (.ops [zK 0 (.bool false)])
 .ret)
 .skip))
 (.seq (.ops [zV 19 1])
 (.block 6 (.loop gk))))))
 (.ops [zM 140 18,
 zP 141 (.bin .add) [.t 140,zI 1],
 zM 18 141])))
def C7:aB:=⟨208,[.tmp 0],
 (.seq (.ops [zK 0 (.bool false)])
 (.seq (.ops [zP 21 (.build [.aD,.aD] []) [],
 zC 22 18 [.t 21,.c .aD,zI 0],
 zM 20 22,
 zQ 23 (.ext 0) 20,
 zQ 24 (.ext 1) 20,
 zQ 25 (.ext 2) 20,
 zM 1 23,
 zM 2 24,
 zM 3 25])
 (.seq (.ops [Ub 27 27,
 zC 28 18 [.t 27,.c .aD,zI (-1)],
 zM 26 28,
 zQ 29 (.ext 0) 26,
 zQ 30 (.ext 1) 26,
 zQ 31 (.ext 2) 26,
 zM 4 29,
 zM 5 30,
 zM 6 31])
 (.seq (.ops [Ub 33 27,
 zC 34 18 [.t 33,.c .aD,zI 10001],
 zM 32 34,
 zQ 35 (.ext 0) 32,
 zQ 36 (.ext 1) 32,
 zQ 37 (.ext 2) 32,
 zM 7 35,
 zM 8 36,
 zM 9 37])
 (.seq (.ops [zP 38 (.build [zz,zz,zz,zz,zz,zz,(.str [])] [(1,1)]) [zI 6],
 zP 39 (.build [zz,zz,zz,zz,zz,zz,(.str [])] [(1,1),(2,1)]) [zI 6,zI 1],
 zP 40 (.build [zz,zz,zz,zz,zz,zz,(.str [])] [(1,1)]) [zI 2],
 zP 41 (.build [zz,zz,zz,zz,zz,zz,(.str [])] [(1,1),(2,1)]) [zI 2,zI 1],
 zP 42 (.build [zz,zz,zz,zz,zz,zz,(.str [])] [(1,1),(4,1)]) [zI 5,zI 4],
 zP 43 (.build [zz,zz,zz,zz,zz,zz,(.str [])] [(1,1)]) [zI 1],
 ⟨some 44,none,.a (.bX [zz,zz,zz,zz,zz,zz,(.str [])] 6 7 [0,1,2,3,4,5]),[.t 38,.t 39,.t 40,.t 41,.t 42,.t 43]⟩,
 zM 10 44])
 (.seq (.ops [zP 45 (.build [zz,zz,zz,zz,zz,zz,(.str [])] []) [],
 zP 46 (.build [zz,zz,zz,zz,zz,zz,(.str [])] [(0,1),(1,1)]) [zI (-1),zI 1],
 zP 47 (.build [zz,zz,zz,zz,zz,zz,(.str [])] [(0,1),(1,1)]) [zI 51,zI 1],
 zP 48 (.build [zz,zz,zz,zz,zz,zz,(.str [])] [(1,1)]) [zI 9],
 zP 49 (.build [zz,zz,zz,zz,zz,zz,(.str [])] [(1,1),(2,1)]) [zI 1,zI 2],
 zP 50 (.build [zz,zz,zz,zz,zz,zz,(.str [])] [(1,1),(2,1)]) [zI 1,zI (-1)],
 zP 51 (.build [zz,zz,zz,zz,zz,zz,(.str [])] [(1,1),(3,1)]) [zI 1,zI (-2)],
 zP 52 (.build [zz,zz,zz,zz,zz,zz,(.str [])] [(1,1),(3,1)]) [zI 1,zI 1],
 zP 53 (.build [zz,zz,zz,zz,zz,zz,(.str [])] [(1,1),(3,1)]) [zI 3,zI (-1)],
 zP 54 (.build [zz,zz,zz,zz,zz,zz,(.str [])] [(1,1),(3,1)]) [zI 6,zI 1],
 zP 55 (.build [zz,zz,zz,zz,zz,zz,(.str [])] [(1,1)]) [zI 7],
 zP 56 (.build [zz,zz,zz,zz,zz,zz,(.str [])] [(1,1),(4,1)]) [zI 8,zI 402],
 zP 57 (.build [zz,zz,zz,zz,zz,zz,(.str [])] [(1,1)]) [zI 6],
 zP 58 (.build [zz,zz,zz,zz,zz,zz,(.str [])] [(1,1)]) [zI 1],
 zP 59 (.build [zz,zz,zz,zz,zz,zz,(.str [])] [(0,1),(1,1),(2,1)]) [zI 1,zI 1,zI 1],
 zP 60 (.build [zz,zz,zz,zz,zz,zz,(.str [])] [(0,1),(1,1)]) [zI 1,zI 1],
 zP 61 (.build [zz,zz,zz,zz,zz,zz,(.str [])] [(0,1),(1,1),(3,1)]) [zI 1,zI 1,zI (-1)],
 zP 62 (.build [zz,zz,zz,zz,zz,zz,(.str [])] [(0,1),(1,1)]) [zI 2,zI 1],
 zP 63 (.build [zz,zz,zz,zz,zz,zz,(.str [])] [(0,1),(1,1)]) [zI 4,zI 1],
 zP 64 (.build [zz,zz,zz,zz,zz,zz,(.str [])] [(0,1),(1,1)]) [zI 1,zI 3],
 zP 65 (.build [zz,zz,zz,zz,zz,zz,(.str [])] [(0,1),(1,1)]) [zI 1,zI 4],
 zP 66 (.build [zz,zz,zz,zz,zz,zz,(.str [])] [(0,1),(1,1),(4,1)]) [zI 1,zI 5,zI 5],
 zP 67 (.build [zz,zz,zz,zz,zz,zz,(.str [])] [(0,1),(1,1),(4,1)]) [zI 1,zI 5,zI 4],
 zP 68 (.build [zz,zz,zz,zz,zz,zz,(.str [])] [(0,1),(1,1),(2,1),(4,1)]) [zI 1,zI 5,zI 1,zI 4],
 zP 69 (.build [zz,zz,zz,zz,zz,zz,(.str [])] [(0,1),(1,1),(2,1),(4,1)]) [zI 1,zI 5,zI 1,zI 5],
 zP 70 (.build [zz,zz,zz,zz,zz,zz,(.str [])] [(0,1),(1,1),(2,1),(4,1),(5,1)]) [zI 1,zI 5,zI 1,zI 4,zI 9],
 zP 71 (.build [zz,zz,zz,zz,zz,zz,(.str [])] [(1,1)]) [zI 2],
 zP 72 (.build [zz,zz,zz,zz,zz,zz,(.str [])] [(1,1),(5,1)]) [zI 2,zI 141],
 zP 73 (.build [zz,zz,zz,zz,zz,zz,(.str [])] [(0,1),(1,1)]) [zI 1,zI 7],
 zP 74 (.build [zz,zz,zz,zz,zz,zz,(.str [])] [(0,1),(1,1),(2,1)]) [zI 1,zI 7,zI 1],
 ⟨some 75,none,.a (.bX [zz,zz,zz,zz,zz,zz,(.str [])] 30 7 [0,1,2,3,4,5,6,7,8,9,10,11,12,13,14,15,16,17,18,19,20,21,22,23,24,25,26,27,28,29]),[.t 45,.t 46,.t 47,.t 48,.t 49,.t 50,.t 51,.t 52,.t 53,.t 54,.t 55,.t 56,.t 57,.t 58,.t 59,.t 60,.t 61,.t 62,.t 63,.t 64,.t 65,.t 66,.t 67,.t 68,.t 69,.t 70,.t 71,.t 72,.t 73,.t 74]⟩,
 zM 11 75])
 (.seq (.seq (.ops [zV 12 0])
 (.block 0 (.loop fY)))
 (.seq (.ops [⟨some 125,none,.a (.bX [zz,zz,zz,zz,zz,zz,(.str [])] 0 7 []),[]⟩,
 zM 126 10,
 zP 127 (.slice 7 false true false) [.t 126,zI 1],
 zA 128 7 64 125 127,
 zP 129 (.build [zz,zz,zz,zz,zz,zz,(.str [])] [(1,1)]) [zI 2],
 ⟨some 130,none,.a (.bX [zz,zz,zz,zz,zz,zz,(.str [])] 1 7 [0]),[.t 129]⟩,
 zA 131 7 64 128 130,
 zM 16 131])
 (.seq (.ops [⟨some 132,none,.a (.bX [zz,zz,zz,zz,zz,zz,(.str [])] 0 7 []),[]⟩,
 zM 133 16,
 zA 134 7 64 132 133,
 zP 135 (.build [zz,zz,zz,zz,zz,zz,(.str [])] [(1,1)]) [zI 4],
 ⟨some 136,none,.a (.bX [zz,zz,zz,zz,zz,zz,(.str [])] 1 7 [0]),[.t 135]⟩,
 zA 137 7 64 134 136,
 zM 17 137])
 (.seq (.seq (.ops [zV 18 0])
 (.block 4 (.loop ga)))
 (.seq (.ops [zK 184 (.bool true),
 ⟨some 185,some (184,true),.call,[.c (.func (.func 21) [] [])]⟩,
 zP 186 .pick [.t 184,.t 185,.c (.bool false)],
 zM 187 186,
 cG 188 3 187 true,
 bt 189 (.bin .eql) [.t 188,zI 50] 187 true,
 zP 190 .pick [.t 187,.t 189,.c (.bool false)],
 zM 191 190,
 cG 192 6 191 true,
 bt 193 (.bin .eql) [.t 192,zI 5] 191 true,
 zP 194 .pick [.t 191,.t 193,.c (.bool false)],
 zM 195 194,
 cG 196 9 195 true,
 bt 197 (.bin .eql) [.t 196,zI 5] 195 true,
 zP 198 .pick [.t 195,.t 197,.c (.bool false)],
 zM 199 198,
 cG 200 16 199 true,
 bt 201 (.build [zz,zz] [(0,1),(1,1)]) [zI 3,zI 9] 199 true,
 m7 202 6 [.t 200,zI 0,.t 201] 199 true,
 zP 203 .pick [.t 199,.t 202,.c (.bool false)],
 zM 204 203,
 bt 205 (.build [zz,zz] []) [] 204 true,
 m7 206 6 [.c .aD,zI 9,.t 205] 204 true,
 zP 207 .pick [.t 204,.t 206,.c (.bool false)],
 zM 0 207])
 .ret)))))))))))⟩
def gR:AC:=(.seq (.seq (.ops [zM 82 18,
 zM 83 13,
 zM 84 17,
 zR 85 (.aE 3) 83 84,
 zF 86 85 2,
 zL 87 86,
 zQ 88 .bO 87,
 zR 89 (.bin .lss) 82 88])
 (.cond (.t 89)
 .skip
 (.exit 2)))
 (.seq (.block 3 (.ops [zM 92 13,
 zM 93 17,
 zR 94 (.aE 3) 92 93,
 zF 95 94 2,
 zL 96 95,
 zM 97 18,
 zR 98 (.aE 8) 96 97,
 zF 99 98 2,
 zS 1 [.t 99,zI 99]]))
 (.ops [zM 90 18,
 zP 91 (.bin .add) [.t 90,zI 1],
 zM 18 91])))
def gQ:AC:=(.seq (.seq (.ops [zM 76 17,
 zM 77 13,
 zQ 78 .bO 77,
 zR 79 (.bin .lss) 76 78])
 (.cond (.t 79)
 .skip
 (.exit 0)))
 (.seq (.block 1 (.seq (.ops [zV 18 0])
 (.block 2 (.loop gR))))
 (.ops [zM 80 17,
 zP 81 (.bin .add) [.t 80,zI 1],
 zM 17 81])))
def C8:aB:=⟨106,[.tmp 4],
 (.seq (.ops [zK 4 (.bool false)])
 (.seq (.ops [zM 19 0,
 oU 20 28 19,
 zM 21 0,
 oU 22 28 21,
 zM 5 20,
 zM 6 22])
 (.seq (.ops [zM 23 1,
 zM 24 1,
 zQ 25 .bO 24,
 zP 26 .mn [.t 25,zI 8],
 zR 27 (.slice 1 false true false) 23 26,
 zM 1 27])
 (.seq (.ops [zM 29 5,
 oU 30 29 29,
 zM 28 30,
 zQ 31 (.ext 0) 28,
 zQ 32 (.ext 1) 28,
 zQ 33 (.ext 2) 28,
 zM 7 31,
 zM 8 32,
 zM 9 33])
 (.seq (.ops [zM 35 6,
 oU 36 30 35,
 zM 34 36,
 zQ 37 (.ext 0) 34,
 zQ 38 (.ext 1) 34,
 zQ 39 (.ext 2) 34,
 zM 10 37,
 zM 11 38,
 zM 12 39])
 (.seq (.ops [zM 41 5,
 zM 42 1,
 jx 43 31 41 42,
 zM 40 43,
 zQ 44 (.ext 0) 40,
 zQ 45 (.ext 1) 40,
 zM 13 44,
 zM 14 45])
 (.seq (.ops [zM 47 6,
 zM 48 1,
 jx 49 32 47 48,
 zM 46 49,
 zQ 50 (.ext 0) 46,
 zQ 51 (.ext 1) 46,
 zM 15 50,
 zM 16 51])
 (.seq (.seq (.ops [zM 52 7,
 zM 53 10,
 zR 54 (.bin .neq) 52 53,
 zM 55 54,
 cG 56 8 55 false,
 cG 57 11 55 false,
 bt 58 (.bin .neq) [.t 56,.t 57] 55 false,
 zP 59 .pick [.t 55,.c (.bool true),.t 58],
 zM 60 59,
 cG 61 9 60 false,
 cG 62 12 60 false,
 bt 63 (.bin .neq) [.t 61,.t 62] 60 false,
 zP 64 .pick [.t 60,.c (.bool true),.t 63],
 zM 65 64,
 cG 66 13 65 false,
 cG 67 15 65 false,
 m7 68 33 [.t 66,.t 67] 65 false,
 bt 69 .not [.t 68] 65 false,
 zP 70 .pick [.t 65,.c (.bool true),.t 69],
 zM 71 70,
 cG 72 14 71 false,
 cG 73 16 71 false,
 bt 74 (.bin .neq) [.t 72,.t 73] 71 false,
 zP 75 .pick [.t 71,.c (.bool true),.t 74]])
 (.cond (.t 75)
 (.seq (.ops [zK 4 (.bool false)])
 .ret)
 .skip))
 (.seq (.seq (.ops [zV 17 0])
 (.block 0 (.loop gQ)))
 (.seq (.ops [zM 100 5,
 zM 101 6,
 jx 102 33 100 101,
 zM 103 102,
 ⟨some 104,some (103,true),.call,[.c (.func (.func 34) [] [])]⟩,
 zP 105 .pick [.t 103,.t 104,.c (.bool false)],
 zM 4 105])
 .ret))))))))))⟩
def jy:AC:=(.seq (.seq (.ops [zM 8 4,
 zF 9 1 0,
 zL 10 9,
 zQ 11 .bO 10,
 zR 12 (.bin .lss) 8 11])
 (.cond (.t 12)
 .skip
 (.exit 0)))
 (.seq (.block 1 (.seq (.ops [zF 15 1 0,
 zL 16 15,
 zM 17 4,
 zR 18 (.aE 3) 16 17,
 zO 19 3 18,
 ⟨some 5,none,.a (.alloc [zz,zz,.aD]),[]⟩,
 zS 3 [.t 5,.t 19]])
 (.seq (.ops [zK 6 .aD])
 (.seq (.ops [zM 20 6,
 zF 21 5 2,
 zL 22 21,
 zA 23 8 64 20 22,
 zF 24 5 2,
 zS 1 [.t 24,.t 23]])
 (.ops [zF 25 3 0,
 zL 26 25,
 zO 27 3 5,
 ⟨some 28,none,.a (.bX [zz,zz,.aD] 1 3 [0]),[.t 27]⟩,
 zA 29 3 40 26 28,
 zF 30 3 0,
 zS 1 [.t 30,.t 29]])))))
 (.ops [zM 13 4,
 zP 14 (.bin .add) [.t 13,zI 1],
 zM 4 14])))
def Xx:aB:=⟨38,[.cell 2 2 true],
 (.seq (.ops [zB 1 0,
 ⟨some 2,none,.a (.alloc [.aD,.aD]),[]⟩])
 (.seq (.ops [zP 7 (.build [.aD,.aD] []) [],
 ⟨some 3,none,.a (.alloc [.aD,.aD]),[]⟩,
 zS 2 [.t 3,.t 7]])
 (.seq (.seq (.ops [zV 4 0])
 (.block 0 (.loop jy)))
 (.seq (.ops [zF 31 3 1,
 zL 32 31,
 zF 33 1 1,
 zL 34 33,
 zA 35 6 48 32 34,
 zF 36 3 1,
 zS 1 [.t 36,.t 35]])
 (.seq (.ops [zO 37 2 3,
 zS 2 [.t 2,.t 37]])
 .ret)))))⟩
def Ud:aB:=⟨39,[.tmp 6,.tmp 7,.tmp 8],
 (.seq (.ops [zB 3 0,
 zV 6 0,
 zV 7 0,
 zV 8 0])
 (.seq (.seq (.ops [zO 11 2 3,
 oU 12 41 11,
 zM 9 12])
 (.seq (.ops [zM 13 9,
 zP 14 (.bin .neq) [.t 13,zI 0]])
 (.cond (.t 14)
 (.seq (.ops [zM 15 9,
 zV 6 0,
 zV 7 0,
 zM 8 15])
 .ret)
 .skip)))
 (.seq (.seq (.ops [zM 16 2,
 zP 17 (.bin .lss) [.t 16,zI 0],
 zM 18 17,
 cG 19 2 18 false,
 bt 20 (.bin .gtr) [.t 19,zI 10000] 18 false,
 zP 21 .pick [.t 18,.c (.bool true),.t 20]])
 (.cond (.t 21)
 (.seq (.ops [zV 6 0,
 zV 7 0,
 zV 8 5])
 .ret)
 .skip))
 (.seq (.ops [zF 22 3 0,
 zL 23 22,
 oU 24 42 23,
 zQ 25 (.build [.aD,.aD] [(0,1)]) 24,
 zM 26 2,
 zR 27 (.build [.aD,.aD,(.bool false),zz,zz,zz,zz,(.bool false),zz,zz,zz,(.bool false),zz,zz,zz,(.bool false),zz,zz,zz,(.bool false),zz,zz,zz,(.bool false),zz,(.bool false),zz,zz,zz,zz,(.bool false),zz,zz,zz,(.bool false),zz,zz,zz,(.bool false),zz,zz,zz,(.bool false),zz,zz,zz,(.bool false),zz,(.bool false),zz,zz,zz,zz,(.bool false),zz,zz,zz,(.bool false),zz,zz,zz,(.bool false),zz,zz,zz,(.bool false),zz,zz,zz,(.bool false),zz,(.bool false),zz,zz,zz,zz,(.bool false),zz,zz,zz,(.bool false),zz,zz,zz,(.bool false),zz,zz,zz,(.bool false),zz,zz,zz,(.bool false),zz,zz,zz,(.bool false),(.bool false),zz] [(0,2),(94,1)]) 25 26,
 zB 28 27,
 zM 10 28])
 (.seq (.seq (.ops [zM 29 10,
 zM 30 1,
 jx 31 43 29 30,
 zM 6 31])
 (.seq (.ops [zM 32 6,
 zP 33 (.bin .eql) [.t 32,zI 0]])
 (.cond (.t 33)
 (.seq (.ops [zV 6 0,
 zV 7 0,
 zV 8 0])
 .ret)
 .skip)))
 (.seq (.bH [zM 34 6,
 zM 35 10,
 zN 36 35,
 zF 37 36 98,
 zL 38 37,
 zM 6 34,
 zM 7 38,
 zV 8 0] [[],[],[],[],[],[],[],[]])
 .ret))))))⟩
def jD:AC:=(.seq (.seq (.ops [zM 30 11,
 zM 31 1,
 zQ 32 .bO 31,
 zR 33 (.bin .lss) 30 32])
 (.cond (.t 33)
 .skip
 (.exit 0)))
 (.seq (.block 1 (.seq (.seq (.ops [zM 36 10,
 zM 37 1,
 zM 38 11,
 zR 39 (.aE 7) 37 38,
 zO 40 7 39,
 zM 41 2,
 E7 42 45 36 40 41,
 zQ 43 .not 42])
 (.cond (.t 43)
 (.seq (.ops [zM 44 11,
 zV 6 1,
 zM 7 44,
 zV 8 0])
 .ret)
 .skip))
 (.seq (.seq (.ops [zM 45 10,
 zM 46 1,
 zM 47 11,
 zR 48 (.aE 7) 46 47,
 zF 49 48 0,
 zL 50 49,
 jx 51 46 45 50,
 zM 12 51])
 (.seq (.ops [zM 52 12,
 zP 53 (.bin .gtr) [.t 52,zI 0]])
 (.cond (.t 53)
 (.seq (.ops [zM 54 12,
 zM 55 11,
 zM 6 54,
 zM 7 55,
 zV 8 0])
 .ret)
 .skip)))
 (.seq (.seq (.ops [zM 56 10,
 zM 57 1,
 zM 58 11,
 zR 59 (.aE 7) 57 58,
 zO 60 7 59,
 jx 61 47 56 60,
 zM 13 61])
 (.seq (.ops [zM 62 13,
 zP 63 (.bin .gtr) [.t 62,zI 0]])
 (.cond (.t 63)
 (.seq (.ops [zM 64 13,
 zM 65 11,
 zM 6 64,
 zM 7 65,
 zV 8 0])
 .ret)
 .skip)))
 (.ops [zM 66 10,
 zM 67 1,
 zM 68 11,
 zR 69 (.aE 7) 67 68,
 zO 70 7 69,
 jx 71 48 66 70])))))
 (.ops [zM 34 11,
 zP 35 (.bin .add) [.t 34,zI 1],
 zM 11 35])))
def Xy:aB:=⟨80,[.tmp 6,.tmp 7,.tmp 8],
 (.seq (.ops [zB 3 0,
 zV 6 0,
 zV 7 0,
 zV 8 0])
 (.seq (.seq (.ops [zO 15 2 3,
 oU 16 44 15,
 zM 9 16])
 (.seq (.ops [zM 17 9,
 zP 18 (.bin .neq) [.t 17,zI 0]])
 (.cond (.t 18)
 (.seq (.ops [zM 19 9,
 zV 6 0,
 zV 7 0,
 zM 8 19])
 .ret)
 .skip)))
 (.seq (.seq (.ops [zM 20 2,
 zP 21 (.bin .lss) [.t 20,zI 0],
 zM 22 21,
 cG 23 2 22 false,
 bt 24 (.bin .gtr) [.t 23,zI 10000] 22 false,
 zP 25 .pick [.t 22,.c (.bool true),.t 24]])
 (.cond (.t 25)
 (.seq (.ops [zV 6 0,
 zV 7 0,
 zV 8 5])
 .ret)
 .skip))
 (.seq (.ops [zO 26 2 3,
 oU 27 17 26,
 zQ 28 (.build [.aD,.aD,(.bool false),zz,zz,zz,zz,(.bool false),zz,zz,zz,(.bool false),zz,zz,zz,(.bool false),zz,zz,zz,(.bool false),zz,zz,zz,(.bool false),zz,(.bool false),zz,zz,zz,zz,(.bool false),zz,zz,zz,(.bool false),zz,zz,zz,(.bool false),zz,zz,zz,(.bool false),zz,zz,zz,(.bool false),zz,(.bool false),zz,zz,zz,zz,(.bool false),zz,zz,zz,(.bool false),zz,zz,zz,(.bool false),zz,zz,zz,(.bool false),zz,zz,zz,(.bool false),zz,(.bool false),zz,zz,zz,zz,(.bool false),zz,zz,zz,(.bool false),zz,zz,zz,(.bool false),zz,zz,zz,(.bool false),zz,zz,zz,(.bool false),zz,zz,(.bool false),(.bool false)] [(0,2)]) 27,
 zB 29 28,
 zM 10 29])
 (.seq (.seq (.ops [zV 11 0])
 (.block 0 (.loop jD)))
 (.seq (.seq (.ops [zM 72 10,
 zM 73 2,
 jx 74 46 72 73,
 zM 14 74])
 (.seq (.ops [zM 75 14,
 zP 76 (.bin .gtr) [.t 75,zI 0]])
 (.cond (.t 76)
 (.seq (.ops [zM 77 14,
 zM 78 1,
 zQ 79 .bO 78,
 zM 6 77,
 zM 7 79,
 zV 8 0])
 .ret)
 .skip)))
 (.seq (.ops [zV 6 0,
 zV 7 0,
 zV 8 0])
 .ret)))))))⟩
def jA:AC:=(.seq (.seq (.ops [zM 64 8,
 zF 65 6 2,
 zL 66 65,
 zQ 67 .bO 66,
 zR 68 (.bin .lss) 64 67])
 (.cond (.t 68)
 .skip
 (.exit 2)))
 (.seq (.block 3 (.seq (.bH [zF 71 6 2,
 zL 72 71,
 zM 73 8,
 zR 74 (.aE 8) 72 73,
 zO 75 8 74,
 zF 76 7 2,
 zL 77 76,
 zM 78 8,
 zR 79 (.aE 8) 77 78,
 zO 80 8 79,
 zR 81 (.neq (.cells [0,0,0,0,0,0,0,0])) 75 80] [[],[],[],[],[],[],[],[],[],[],[]])
 (.cond (.t 81)
 (.seq (.ops [zK 4 (.bool false)])
 .ret)
 .skip)))
 (.ops [zM 69 8,
 zP 70 (.bin .add) [.t 69,zI 1],
 zM 8 70])))
def jz:AC:=(.seq (.seq (.ops [zM 26 5,
 zF 27 2 0,
 zL 28 27,
 zQ 29 .bO 28,
 zR 30 (.bin .lss) 26 29])
 (.cond (.t 30)
 .skip
 (.exit 0)))
 (.seq (.block 1 (.seq (.bH [zF 33 2 0,
 zL 34 33,
 zM 35 5,
 zR 36 (.aE 3) 34 35,
 zO 37 3 36,
 zF 38 3 0,
 zL 39 38,
 zM 40 5,
 zR 41 (.aE 3) 39 40,
 zO 42 3 41,
 ⟨some 6,none,.a (.alloc [zz,zz,.aD]),[]⟩,
 ⟨some 7,none,.a (.alloc [zz,zz,.aD]),[]⟩,
 zS 3 [.t 6,.t 37],
 zS 3 [.t 7,.t 42]] [[],[],[],[],[],[],[0,13],[],[],[0,13],[],[],[],[]])
 (.seq (.seq (.ops [zF 43 6 0,
 zL 44 43,
 zF 45 7 0,
 zL 46 45,
 zR 47 (.bin .neq) 44 46,
 zM 48 47,
 bN 49 6 1 48 false,
 bR 50 49 48 false,
 bN 51 7 1 48 false,
 bR 52 51 48 false,
 bt 53 (.bin .neq) [.t 50,.t 52] 48 false,
 zP 54 .pick [.t 48,.c (.bool true),.t 53],
 zM 55 54,
 bN 56 6 2 55 false,
 bR 57 56 55 false,
 bt 58 .bO [.t 57] 55 false,
 bN 59 7 2 55 false,
 bR 60 59 55 false,
 bt 61 .bO [.t 60] 55 false,
 bt 62 (.bin .neq) [.t 58,.t 61] 55 false,
 zP 63 .pick [.t 55,.c (.bool true),.t 62]])
 (.cond (.t 63)
 (.seq (.ops [zK 4 (.bool false)])
 .ret)
 .skip))
 (.seq (.ops [zV 8 0])
 (.block 2 (.loop jA))))))
 (.ops [zM 31 5,
 zP 32 (.bin .add) [.t 31,zI 1],
 zM 5 32])))
def jB:AC:=(.seq (.seq (.ops [zM 82 9,
 zF 83 2 1,
 zL 84 83,
 zQ 85 .bO 84,
 zR 86 (.bin .lss) 82 85])
 (.cond (.t 86)
 .skip
 (.exit 4)))
 (.seq (.block 5 (.seq (.bH [zF 89 2 1,
 zL 90 89,
 zM 91 9,
 zR 92 (.aE 6) 90 91,
 zO 93 6 92,
 zF 94 3 1,
 zL 95 94,
 zM 96 9,
 zR 97 (.aE 6) 95 96,
 zO 98 6 97,
 zR 99 (.neq (.cells [0,0,0,0,0,0])) 93 98] [[],[],[],[],[],[],[],[],[],[],[]])
 (.cond (.t 99)
 (.seq (.ops [zK 4 (.bool false)])
 .ret)
 .skip)))
 (.ops [zM 87 9,
 zP 88 (.bin .add) [.t 87,zI 1],
 zM 9 88])))
def Xz:aB:=⟨100,[.tmp 4],
 (.seq (.ops [zB 2 0,
 zB 3 1,
 zK 4 (.bool false)])
 (.seq (.seq (.ops [zF 10 2 0,
 zL 11 10,
 zQ 12 .bO 11,
 zF 13 3 0,
 zL 14 13,
 zQ 15 .bO 14,
 zR 16 (.bin .neq) 12 15,
 zM 17 16,
 bN 18 2 1 17 false,
 bR 19 18 17 false,
 bt 20 .bO [.t 19] 17 false,
 bN 21 3 1 17 false,
 bR 22 21 17 false,
 bt 23 .bO [.t 22] 17 false,
 bt 24 (.bin .neq) [.t 20,.t 23] 17 false,
 zP 25 .pick [.t 17,.c (.bool true),.t 24]])
 (.cond (.t 25)
 (.seq (.ops [zK 4 (.bool false)])
 .ret)
 .skip))
 (.seq (.seq (.ops [zV 5 0])
 (.block 0 (.loop jz)))
 (.seq (.seq (.ops [zV 9 0])
 (.block 4 (.loop jB)))
 (.seq (.ops [zK 4 (.bool true)])
 .ret)))))⟩
def XA:aB:=⟨46,[.tmp 0],
 (.seq (.ops [zK 0 (.bool false)])
 (.seq (.ops [zP 5 (.build [zz,zz,zz,zz,zz,zz,(.str [])] [(0,1),(1,1)]) [zI 1,zI 6],
 ⟨some 1,none,.a (.alloc [zz,zz,zz,zz,zz,zz,(.str [])]),[]⟩,
 zS 7 [.t 1,.t 5]])
 (.seq (.ops [zP 6 (.build [zz,zz,zz,zz,zz,zz,(.str [])] [(0,1),(1,1),(3,1)]) [zI 1,zI 1,zI (-1)],
 zP 7 (.build [zz,zz,zz,zz,zz,zz,(.str [])] [(0,1),(1,1),(3,1)]) [zI 2,zI 1,zI (-1)],
 ⟨some 2,none,.a (.alloc [zz,zz,zz,zz,zz,zz,(.str [])]),[]⟩,
 ⟨some 3,none,.a (.alloc [zz,zz,zz,zz,zz,zz,(.str [])]),[]⟩,
 zS 7 [.t 2,.t 6],
 zS 7 [.t 3,.t 7]])
 (.seq (.ops [zC 8 49 [zI 5,zI 0,zI 0,.c .aD],
 zM 9 8,
 ⟨some 10,some (9,true),.r (.bn 7),[.t 1]⟩,
 ⟨some 11,some (9,true),.r (.bn 7),[.t 2]⟩,
 ⟨some 12,some (9,true),.r (.bn 7),[.t 3]⟩,
 ⟨some 13,some (9,true),.a (.bX [zz,zz,zz,zz,zz,zz,(.str [])] 3 7 [0,1,2]),[.t 10,.t 11,.t 12]⟩,
 m7 14 49 [zI 5,zI 0,zI 0,.t 13] 9 true,
 zP 15 .pick [.t 9,.t 14,.c (.bool false)],
 zM 16 15,
 ⟨some 17,some (16,true),.r (.bn 7),[.t 1]⟩,
 ⟨some 18,some (16,true),.r (.bn 7),[.t 2]⟩,
 ⟨some 19,some (16,true),.r (.bn 7),[.t 3]⟩,
 ⟨some 20,some (16,true),.a (.bX [zz,zz,zz,zz,zz,zz,(.str [])] 3 7 [0,1,2]),[.t 17,.t 18,.t 19]⟩,
 m7 21 49 [zI 3,zI 0,zI 0,.t 20] 16 true,
 zP 22 .pick [.t 16,.t 21,.c (.bool false)],
 zM 23 22,
 ⟨some 24,some (23,true),.r (.bn 7),[.t 1]⟩,
 ⟨some 25,some (23,true),.r (.bn 7),[.t 3]⟩,
 ⟨some 26,some (23,true),.a (.bX [zz,zz,zz,zz,zz,zz,(.str [])] 2 7 [0,1]),[.t 24,.t 25]⟩,
 m7 27 49 [zI 2,zI 3,zI 1,.t 26] 23 true,
 zP 28 .pick [.t 23,.t 27,.c (.bool false)],
 zM 29 28,
 ⟨some 30,some (29,true),.r (.bn 7),[.t 1]⟩,
 ⟨some 31,some (29,true),.a (.bX [zz,zz,zz,zz,zz,zz,(.str [])] 1 7 [0]),[.t 30]⟩,
 m7 32 49 [zI 2,zI 3,zI 1,.t 31] 29 true,
 zP 33 .pick [.t 29,.t 32,.c (.bool false)],
 zM 4 33])
 (.seq (.ops [zM 34 4,
 zM 35 34,
 bt 36 (.build [zz,zz,zz,zz,zz,zz,(.str [])] [(1,1),(3,1)]) [zI 1,zI (-1)] 35 true,
 ⟨some 37,some (35,true),.a (.bX [zz,zz,zz,zz,zz,zz,(.str [])] 1 7 [0]),[.t 36]⟩,
 m7 38 49 [zI 5,zI 2,zI 0,.t 37] 35 true,
 zP 39 .pick [.t 35,.t 38,.c (.bool false)],
 zM 40 39,
 ⟨some 41,some (40,true),.r (.bn 7),[.t 1]⟩,
 bt 42 (.build [zz,zz,zz,zz,zz,zz,(.str [])] [(0,1),(1,1)]) [zI 1,zI 1] 40 true,
 ⟨some 43,some (40,true),.a (.bX [zz,zz,zz,zz,zz,zz,(.str [])] 2 7 [0,1]),[.t 41,.t 42]⟩,
 m7 44 49 [zI 5,zI 5,zI 1,.t 43] 40 true,
 zP 45 .pick [.t 40,.t 44,.c (.bool false)],
 zM 0 45])
 .ret)))))⟩
def XB:aB:=⟨14,[.tmp 4],
 (.seq (.ops [zV 4 0])
 (.seq (.ops [zM 5 0,
 zM 6 1,
 zR 7 (.bin .rem) 5 6,
 zM 0 7])
 (.seq (.seq (.ops [zM 8 0,
 zP 9 (.bin .lss) [.t 8,zI 0]])
 (.cond (.t 9)
 (.ops [zM 10 0,
 zM 11 1,
 zR 12 (.bin .add) 10 11,
 zM 0 12])
 .skip))
 (.seq (.ops [zM 13 0,
 zM 4 13])
 .ret))))⟩
def uN:AC:=(.seq (.ops [zR 10 (.bin .lss) 9 8])
 (.seq (.cond (.t 10)
 .skip
 (.exit 0))
 (.seq (.block 1 (.seq (.ops [zR 11 (.aE 7) 7 9,
 zO 12 7 11,
 ⟨some 6,none,.a (.alloc [zz,zz,zz,zz,zz,zz,(.str [])]),[]⟩,
 zS 7 [.t 6,.t 12]])
 (.seq (.ops [zF 13 6 2,
 zL 14 13,
 zM 15 1,
 zR 16 (.bin .eql) 14 15])
 (.cond (.t 16)
 (.ops [zM 17 4,
 zO 18 7 6,
 ⟨some 19,none,.a (.bX [zz,zz,zz,zz,zz,zz,(.str [])] 1 7 [0]),[.t 18]⟩,
 zA 20 7 64 17 19,
 zM 4 20])
 .skip))))
 (.ops [zP 21 (.bin .add) [.t 9,zI 1],
 zM 9 21]))))
def XC:aB:=⟨23,[.tmp 4],
 (.seq (.ops [zK 4 .aD])
 (.seq (.seq (.ops [zM 7 0,
 zQ 8 .bO 7,
 zV 9 0])
 (.block 0 (.loop uN)))
 (.seq (.ops [zM 22 4,
 zM 4 22])
 .ret)))⟩
def ku:AC:=(.seq (.seq (.ops [zM 7 6,
 zM 8 0,
 zQ 9 .bO 8,
 zR 10 (.bin .lss) 7 9])
 (.cond (.t 10)
 .skip
 (.exit 0)))
 (.seq (.block 1 (.seq (.ops [zM 13 0,
 zM 14 6,
 zR 15 (.aE 7) 13 14,
 zF 16 15 2,
 zL 17 16,
 zM 18 1,
 zR 19 (.bin .eql) 17 18])
 (.cond (.t 19)
 (.ops [zM 20 5,
 zM 21 0,
 zM 22 6,
 zR 23 (.aE 7) 21 22,
 zO 24 7 23,
 ⟨some 25,none,.a (.bX [zz,zz,zz,zz,zz,zz,(.str [])] 1 7 [0]),[.t 24]⟩,
 zA 26 7 64 20 25,
 zM 5 26])
 .skip)))
 (.ops [zM 11 6,
 zP 12 (.bin .add) [.t 11,zI 1],
 zM 6 12])))
def XD:aB:=⟨28,[.tmp 4],
 (.seq (.ops [zK 4 .aD])
 (.seq (.ops [zK 5 .aD])
 (.seq (.seq (.ops [zV 6 0])
 (.block 0 (.loop ku)))
 (.seq (.ops [zM 27 5,
 zM 4 27])
 .ret))))⟩
def lO:AC:=(.seq (.ops [zR 16 (.bin .lss) 15 14])
 (.seq (.cond (.t 16)
 .skip
 (.exit 0))
 (.seq (.block 1 (.seq (.ops [zR 17 (.aE 7) 13 15,
 zO 18 7 17,
 ⟨some 10,none,.a (.alloc [zz,zz,zz,zz,zz,zz,(.str [])]),[]⟩,
 zS 7 [.t 10,.t 18]])
 (.seq (.ops [zF 19 10 1,
 zL 20 19,
 zP 21 (.bin .eql) [.t 20,zI 1],
 zM 22 21,
 cG 23 2 22 true,
 bN 24 10 0 22 true,
 bR 25 24 22 true,
 bt 26 (.bin .leq) [.t 23,.t 25] 22 true,
 zP 27 .pick [.t 22,.t 26,.c (.bool false)],
 zM 28 27,
 bN 29 10 0 28 true,
 bR 30 29 28 true,
 cG 31 3 28 true,
 bt 32 (.bin .lss) [.t 30,.t 31] 28 true,
 zP 33 .pick [.t 28,.t 32,.c (.bool false)]])
 (.cond (.t 33)
 (.ops [zM 34 8,
 zP 35 (.bin .add) [.t 34,zI 1],
 zM 8 35])
 .skip))))
 (.ops [zP 36 (.bin .add) [.t 15,zI 1],
 zM 15 36]))))
def XE:aB:=⟨38,[.tmp 8],
 (.seq (.ops [zV 8 0])
 (.seq (.seq (.ops [zM 11 0,
 zM 12 1,
 jx 13 23 11 12,
 zQ 14 .bO 13,
 zV 15 0])
 (.block 0 (.loop lO)))
 (.seq (.ops [zM 37 8,
 zM 8 37])
 .ret)))⟩
def eB:AC:=(.seq (.seq (.ops [zM 11 10,
 zM 12 0,
 zQ 13 .bO 12,
 zR 14 (.bin .lss) 11 13])
 (.cond (.t 14)
 .skip
 (.exit 0)))
 (.seq (.block 1 (.seq (.ops [zM 17 0,
 zM 18 10,
 zR 19 (.aE 7) 17 18,
 zF 20 19 1,
 zL 21 20,
 zP 22 (.bin .eql) [.t 21,zI 1],
 zM 23 22,
 cG 24 0 23 true,
 cG 25 10 23 true,
 bt 26 (.aE 7) [.t 24,.t 25] 23 true,
 bN 27 26 2 23 true,
 bR 28 27 23 true,
 cG 29 1 23 true,
 bt 30 (.bin .eql) [.t 28,.t 29] 23 true,
 zP 31 .pick [.t 23,.t 30,.c (.bool false)],
 zM 32 31,
 cG 33 0 32 true,
 cG 34 10 32 true,
 bt 35 (.aE 7) [.t 33,.t 34] 32 true,
 bN 36 35 0 32 true,
 bR 37 36 32 true,
 cG 38 2 32 true,
 bt 39 (.bin .geq) [.t 37,.t 38] 32 true,
 zP 40 .pick [.t 32,.t 39,.c (.bool false)],
 zM 41 40,
 cG 42 0 41 true,
 cG 43 10 41 true,
 bt 44 (.aE 7) [.t 42,.t 43] 41 true,
 bN 45 44 0 41 true,
 bR 46 45 41 true,
 cG 47 3 41 true,
 bt 48 (.bin .lss) [.t 46,.t 47] 41 true,
 zP 49 .pick [.t 41,.t 48,.c (.bool false)]])
 (.cond (.t 49)
 (.ops [zM 50 9,
 zP 51 (.bin .add) [.t 50,zI 1],
 zM 9 51])
 .skip)))
 (.ops [zM 15 10,
 zP 16 (.bin .add) [.t 15,zI 1],
 zM 10 16])))
def XF:aB:=⟨53,[.tmp 8],
 (.seq (.ops [zV 8 0])
 (.seq (.ops [zV 9 0])
 (.seq (.seq (.ops [zV 10 0])
 (.block 0 (.loop eB)))
 (.seq (.ops [zM 52 9,
 zM 8 52])
 .ret))))⟩
def XG:aB:=⟨11,[.cell 0 2 true],
 (.seq (.ops [⟨some 0,none,.a (.alloc [.aD,.aD]),[]⟩])
 (.seq (.ops [zP 2 (.build [zz,zz,zz,zz,zz,zz,zz,zz] [(0,1),(1,1),(2,1),(5,1),(6,1),(7,1)]) [zI 40,zI 30,zI 3,zI 2,zI 2,zI 1],
 ⟨some 1,none,.a (.alloc [zz,zz,zz,zz,zz,zz,zz,zz]),[]⟩,
 zS 8 [.t 1,.t 2]])
 (.seq (.ops [zO 3 8 1,
 ⟨some 4,none,.a (.bX [zz,zz,zz,zz,zz,zz,zz,zz] 1 8 [0]),[.t 3]⟩,
 zP 5 (.build [zz,zz,.aD] [(0,1),(1,1),(2,1)]) [zI 4,zI 2,.t 4],
 zO 6 8 1,
 ⟨some 7,none,.a (.bX [zz,zz,zz,zz,zz,zz,zz,zz] 1 8 [0]),[.t 6]⟩,
 zP 8 (.build [zz,zz,.aD] [(0,1),(1,1),(2,1)]) [zI 4,zI 2,.t 7],
 ⟨some 9,none,.a (.bX [zz,zz,.aD] 2 3 [0,1]),[.t 5,.t 8]⟩,
 zQ 10 (.build [.aD,.aD] [(0,1)]) 9,
 zS 2 [.t 0,.t 10]])
 .ret)))⟩
def mA:AC:=(.seq (.seq (.ops [zM 7 4,
 zM 8 0,
 zQ 9 .bO 8,
 zR 10 (.bin .lss) 7 9,
 zM 11 10,
 cG 12 4 11 true,
 bt 13 (.bin .lss) [.t 12,zI 6] 11 true,
 zP 14 .pick [.t 11,.t 13,.c (.bool false)]])
 (.cond (.t 14)
 .skip
 (.exit 0)))
 (.seq (.block 1 (.seq (.ops [zM 17 0,
 zM 18 4,
 zR 19 (.aE 3) 17 18,
 zO 20 3 19,
 ⟨some 5,none,.a (.alloc [zz,zz,.aD]),[]⟩,
 zS 3 [.t 5,.t 20]])
 (.seq (.ops [zK 6 .aD])
 (.seq (.ops [zM 21 6,
 zF 22 5 2,
 zL 23 22,
 zF 24 5 2,
 zL 25 24,
 zQ 26 .bO 25,
 zP 27 .mn [.t 26,zI 6],
 zR 28 (.slice 8 false true false) 23 27,
 zA 29 8 64 21 28,
 zF 30 5 2,
 zS 1 [.t 30,.t 29]])
 (.ops [zM 31 3,
 zO 32 3 5,
 ⟨some 33,none,.a (.bX [zz,zz,.aD] 1 3 [0]),[.t 32]⟩,
 zA 34 3 40 31 33,
 zM 3 34])))))
 (.ops [zM 15 4,
 zP 16 (.bin .add) [.t 15,zI 1],
 zM 4 16])))
def XH:aB:=⟨36,[.tmp 2],
 (.seq (.ops [zK 2 .aD])
 (.seq (.ops [zK 3 .aD])
 (.seq (.seq (.ops [zV 4 0])
 (.block 0 (.loop mA)))
 (.seq (.ops [zM 35 3,
 zM 2 35])
 .ret))))⟩
def XI:aB:=⟨27,[.tmp 2,.tmp 3,.tmp 4],
 (.seq (.ops [zV 2 0,
 zV 3 0,
 zV 4 0])
 (.seq (.ops [zM 6 0,
 oU 7 50 6,
 zM 5 7,
 zQ 8 (.ext 0) 5,
 zQ 9 (.ext 1) 5,
 zQ 10 (.ext 2) 5,
 zM 2 8,
 zM 3 9,
 zM 4 10])
 (.seq (.block 0 (.seq (.ops [zM 12 4,
 zP 13 (.bin .neq) [.t 12,zI 0],
 zM 11 13])
 (.cond (.t 11)
 (.seq (.ops [zM 14 4,
 zV 2 0,
 zV 3 0,
 zM 4 14])
 .ret)
 (.seq (.ops [zM 16 2,
 zM 17 3,
 zR 18 (.bin .gtr) 16 17,
 zM 15 18])
 (.cond (.t 15)
 (.seq (.ops [zV 2 0,
 zV 3 0,
 zV 4 120])
 .ret)
 (.seq (.ops [zM 20 2,
 zM 21 3,
 zR 22 (.bin .eql) 20 21,
 zM 19 22])
 (.cond (.t 19)
 (.seq (.ops [zV 2 0,
 zV 3 1,
 zV 4 0])
 .ret)
 .skip)))))))
 (.seq (.ops [zM 23 3,
 zM 24 2,
 zR 25 (.bin .sub) 23 24,
 zM 26 3,
 zM 2 25,
 zM 3 26,
 zV 4 0])
 .ret))))⟩
def XJ:aB:=⟨27,[.tmp 2,.tmp 3,.tmp 4],
 (.seq (.ops [zV 2 0,
 zV 3 0,
 zV 4 0])
 (.seq (.ops [zM 9 0,
 oU 10 51 9,
 zM 8 10,
 zQ 11 (.ext 0) 8,
 zQ 12 (.ext 1) 8,
 zQ 13 (.ext 2) 8,
 zM 5 11,
 zM 6 12,
 zM 7 13])
 (.seq (.seq (.ops [zM 14 7,
 zP 15 (.bin .neq) [.t 14,zI 0]])
 (.cond (.t 15)
 (.seq (.ops [zM 16 7,
 zV 2 0,
 zV 3 0,
 zM 4 16])
 .ret)
 .skip))
 (.seq (.seq (.ops [zM 17 5,
 zM 18 6,
 zR 19 (.bin .gtr) 17 18])
 (.cond (.t 19)
 (.seq (.ops [zV 2 0,
 zV 3 0,
 zV 4 120])
 .ret)
 .skip))
 (.seq (.ops [zM 20 6,
 zM 21 5,
 zR 22 (.bin .sub) 20 21,
 zM 5 22])
 (.seq (.seq (.ops [zM 23 5,
 zP 24 (.bin .eql) [.t 23,zI 0]])
 (.cond (.t 24)
 (.ops [zV 6 1])
 .skip))
 (.seq (.ops [zM 25 5,
 zM 26 6,
 zM 2 25,
 zM 3 26,
 zV 4 0])
 .ret)))))))⟩
def tM:AC:=(.seq (.ops [zR 18 (.bin .lss) 17 16])
 (.seq (.cond (.t 18)
 .skip
 (.exit 0))
 (.seq (.block 1 (.seq (.ops [zM 19 17,
 zM 7 19])
 (.seq (.ops [zM 20 6,
 zM 21 7,
 zM 22 1,
 zM 23 7,
 zR 24 (.aE 1) 22 23,
 zL 25 24,
 zR 26 (.aE 3) 20 21,
 zF 27 26 1,
 zS 1 [.t 27,.t 25]])
 (.ops [zM 28 6,
 zM 29 7,
 zM 30 6,
 zM 31 7,
 zR 32 (.aE 3) 30 31,
 zF 33 32 2,
 zL 34 33,
 oU 35 52 34,
 zR 36 (.aE 3) 28 29,
 zF 37 36 2,
 zS 1 [.t 37,.t 35]]))))
 (.ops [zP 38 (.bin .add) [.t 17,zI 1],
 zM 17 38]))))
def Ue:aB:=⟨40,[.tmp 4,.tmp 5],
 (.seq (.ops [zK 4 .aD,
 zV 5 0])
 (.seq (.seq (.ops [zM 8 0,
 zQ 9 .bO 8,
 zM 10 1,
 zQ 11 .bO 10,
 zR 12 (.bin .neq) 9 11])
 (.cond (.t 12)
 (.seq (.ops [zK 4 .aD,
 zV 5 2])
 .ret)
 .skip))
 (.seq (.ops [zM 13 0,
 oU 14 42 13,
 zM 6 14])
 (.seq (.seq (.ops [zM 15 6,
 zQ 16 .bO 15,
 zV 17 0])
 (.block 0 (.loop tM)))
 (.seq (.ops [zM 39 6,
 zM 4 39,
 zV 5 0])
 .ret)))))⟩
def jG:AC:=(.seq (.seq (.ops [zM 15 7,
 zM 16 0,
 zQ 17 .bO 16,
 zR 18 (.bin .lss) 15 17])
 (.cond (.t 18)
 .skip
 (.exit 0)))
 (.seq (.block 1 (.seq (.ops [zM 21 0,
 zM 22 7,
 zR 23 (.aE 3) 21 22,
 zO 24 3 23,
 ⟨some 8,none,.a (.alloc [zz,zz,.aD]),[]⟩,
 zS 3 [.t 8,.t 24]])
 (.seq (.ops [zM 25 1,
 zM 26 7,
 zR 27 (.aE 1) 25 26,
 zL 28 27,
 zF 29 8 1,
 zS 1 [.t 29,.t 28]])
 (.seq (.ops [zK 9 .aD])
 (.seq (.ops [zM 30 9,
 zF 31 8 2,
 zL 32 31,
 zA 33 8 64 30 32,
 zF 34 8 2,
 zS 1 [.t 34,.t 33]])
 (.ops [zM 35 6,
 zO 36 3 8,
 ⟨some 37,none,.a (.bX [zz,zz,.aD] 1 3 [0]),[.t 36]⟩,
 zA 38 3 40 35 37,
 zM 6 38]))))))
 (.ops [zM 19 7,
 zP 20 (.bin .add) [.t 19,zI 1],
 zM 7 20])))
def UH:aB:=⟨40,[.tmp 4,.tmp 5],
 (.seq (.ops [zK 4 .aD,
 zV 5 0])
 (.seq (.seq (.ops [zM 10 0,
 zQ 11 .bO 10,
 zM 12 1,
 zQ 13 .bO 12,
 zR 14 (.bin .neq) 11 13])
 (.cond (.t 14)
 (.seq (.ops [zK 4 .aD,
 zV 5 2])
 .ret)
 .skip))
 (.seq (.ops [zK 6 .aD])
 (.seq (.seq (.ops [zV 7 0])
 (.block 0 (.loop jG)))
 (.seq (.ops [zM 39 6,
 zM 4 39,
 zV 5 0])
 .ret)))))⟩
def jF:AC:=(.seq (.seq (.ops [zM 57 6,
 zM 58 0,
 zM 59 5,
 zR 60 (.aE 3) 58 59,
 zF 61 60 2,
 zL 62 61,
 zQ 63 .bO 62,
 zR 64 (.bin .lss) 57 63])
 (.cond (.t 64)
 .skip
 (.exit 2)))
 (.seq (.block 3 (.seq (.bH [zM 67 0,
 zM 68 5,
 zR 69 (.aE 3) 67 68,
 zF 70 69 2,
 zL 71 70,
 zM 72 6,
 zR 73 (.aE 8) 71 72,
 zO 74 8 73,
 zM 75 1,
 zM 76 5,
 zR 77 (.aE 3) 75 76,
 zF 78 77 2,
 zL 79 78,
 zM 80 6,
 zR 81 (.aE 8) 79 80,
 zO 82 8 81,
 zR 83 (.neq (.cells [0,0,0,0,0,0,0,0])) 74 82] [[],[],[],[],[],[],[],[],[],[],[],[],[],[],[],[],[]])
 (.cond (.t 83)
 (.seq (.ops [zK 4 (.bool false)])
 .ret)
 .skip)))
 (.ops [zM 65 6,
 zP 66 (.bin .add) [.t 65,zI 1],
 zM 6 66])))
def jE:AC:=(.seq (.seq (.ops [zM 12 5,
 zM 13 0,
 zQ 14 .bO 13,
 zR 15 (.bin .lss) 12 14])
 (.cond (.t 15)
 .skip
 (.exit 0)))
 (.seq (.block 1 (.seq (.seq (.bH [zM 18 0,
 zM 19 5,
 zR 20 (.aE 3) 18 19,
 zF 21 20 0,
 zL 22 21,
 zM 23 1,
 zM 24 5,
 zR 25 (.aE 3) 23 24,
 zF 26 25 0,
 zL 27 26,
 zR 28 (.bin .neq) 22 27,
 zM 29 28,
 cG 30 0 29 false,
 cG 31 5 29 false,
 bt 32 (.aE 3) [.t 30,.t 31] 29 false,
 bN 33 32 1 29 false,
 bR 34 33 29 false,
 cG 35 1 29 false,
 cG 36 5 29 false,
 bt 37 (.aE 3) [.t 35,.t 36] 29 false,
 bN 38 37 1 29 false,
 bR 39 38 29 false,
 bt 40 (.bin .neq) [.t 34,.t 39] 29 false,
 zP 41 .pick [.t 29,.c (.bool true),.t 40],
 zM 42 41,
 cG 43 0 42 false,
 cG 44 5 42 false,
 bt 45 (.aE 3) [.t 43,.t 44] 42 false,
 bN 46 45 2 42 false,
 bR 47 46 42 false,
 bt 48 .bO [.t 47] 42 false,
 cG 49 1 42 false,
 cG 50 5 42 false,
 bt 51 (.aE 3) [.t 49,.t 50] 42 false,
 bN 52 51 2 42 false,
 bR 53 52 42 false,
 bt 54 .bO [.t 53] 42 false,
 bt 55 (.bin .neq) [.t 48,.t 54] 42 false,
 zP 56 .pick [.t 42,.c (.bool true),.t 55]] [[],[],[],[],[],[],[],[],[],[],[],[],[],[],[],[],[],[],[],[],[],[],[],[],[],[],[],[],[],[],[],[],[],[],[],[],[],[],[]])
 (.cond (.t 56)
 (.seq (.ops [zK 4 (.bool false)])
 .ret)
 .skip))
 (.seq (.ops [zV 6 0])
 (.block 2 (.loop jF)))))
 (.ops [zM 16 5,
 zP 17 (.bin .add) [.t 16,zI 1],
 zM 5 17])))
def XK:aB:=⟨84,[.tmp 4],
 (.seq (.ops [zK 4 (.bool false)])
 (.seq (.seq (.ops [zM 7 0,
 zQ 8 .bO 7,
 zM 9 1,
 zQ 10 .bO 9,
 zR 11 (.bin .neq) 8 10])
 (.cond (.t 11)
 (.seq (.ops [zK 4 (.bool false)])
 .ret)
 .skip))
 (.seq (.seq (.ops [zV 5 0])
 (.block 0 (.loop jE)))
 (.seq (.ops [zK 4 (.bool true)])
 .ret))))⟩
def ZA:aB:=⟨119,[.tmp 0],
 (.seq (.ops [zK 0 (.bool false)])
 (.seq (.ops [zC 17 53 [zI 2,zI 3],
 oU 18 29 17,
 zM 16 18,
 zQ 19 (.ext 0) 16,
 zQ 20 (.ext 1) 16,
 zQ 21 (.ext 2) 16,
 zM 1 19,
 zM 2 20,
 zM 3 21])
 (.seq (.ops [zC 23 53 [zI 4,zI 1],
 oU 24 29 23,
 zM 22 24,
 zQ 25 (.ext 0) 22,
 zQ 26 (.ext 1) 22,
 zQ 27 (.ext 2) 22,
 zM 4 25,
 zM 5 26,
 zM 6 27])
 (.seq (.ops [zC 29 53 [zI 9,zI 9],
 ⟨some 30,none,.a (.bX [zz] 2 1 [0,1]),[zI 1,zI 2]⟩,
 jx 31 31 29 30,
 zM 28 31,
 zQ 32 (.ext 0) 28,
 zQ 33 (.ext 1) 28,
 zM 7 32,
 zM 8 33])
 (.seq (.ops [zC 35 53 [zI 1,zI 1],
 zP 36 (.slice 3 false true false) [.t 35,zI 1],
 ⟨some 37,none,.a (.bX [zz] 2 1 [0,1]),[zI 1,zI 2]⟩,
 jx 38 31 36 37,
 zM 34 38,
 zQ 39 (.ext 0) 34,
 zQ 40 (.ext 1) 34,
 zM 9 39,
 zM 10 40])
 (.seq (.ops [zC 41 53 [zI 1,zI 1],
 zP 42 (.slice 3 false true false) [.t 41,zI 1],
 zM 11 42])
 (.seq (.ops [zM 43 11,
 zP 44 (.aE 3) [.t 43,zI 0],
 zF 45 44 2,
 zL 46 45,
 zP 47 (.aE 8) [.t 46,zI 0],
 zF 48 47 2,
 zS 1 [.t 48,zI 8]])
 (.seq (.ops [zM 50 11,
 zC 51 54 [.t 50,zI 0],
 zM 49 51,
 zQ 52 (.ext 0) 49,
 zQ 53 (.ext 1) 49,
 zM 12 52,
 zM 13 53])
 (.seq (.ops [zM 55 11,
 zC 56 54 [.t 55,zI 1],
 zM 54 56,
 zQ 57 (.ext 0) 54,
 zQ 58 (.ext 1) 54,
 zM 14 57,
 zM 15 58])
 (.seq (.ops [zM 59 1,
 zP 60 (.bin .eql) [.t 59,zI 1],
 zM 61 60,
 cG 62 2 61 true,
 bt 63 (.bin .eql) [.t 62,zI 8] 61 true,
 zP 64 .pick [.t 61,.t 63,.c (.bool false)],
 zM 65 64,
 cG 66 3 65 true,
 bt 67 (.bin .eql) [.t 66,zI 0] 65 true,
 zP 68 .pick [.t 65,.t 67,.c (.bool false)],
 zM 69 68,
 cG 70 6 69 true,
 bt 71 (.bin .eql) [.t 70,zI 120] 69 true,
 zP 72 .pick [.t 69,.t 71,.c (.bool false)],
 zM 73 72,
 cG 74 8 73 true,
 bt 75 (.bin .eql) [.t 74,zI 0] 73 true,
 zP 76 .pick [.t 73,.t 75,.c (.bool false)],
 zM 77 76,
 cG 78 7 77 true,
 bt 79 .bO [.t 78] 77 true,
 bt 80 (.bin .eql) [.t 79,zI 2] 77 true,
 zP 81 .pick [.t 77,.t 80,.c (.bool false)],
 zM 82 81,
 cG 83 7 82 true,
 bt 84 (.aE 3) [.t 83,zI 0] 82 true,
 bN 85 84 1 82 true,
 bR 86 85 82 true,
 bt 87 (.bin .eql) [.t 86,zI 1] 82 true,
 zP 88 .pick [.t 82,.t 87,.c (.bool false)],
 zM 89 88,
 cG 90 7 89 true,
 bt 91 (.aE 3) [.t 90,zI 1] 89 true,
 bN 92 91 1 89 true,
 bR 93 92 89 true,
 bt 94 (.bin .eql) [.t 93,zI 2] 89 true,
 zP 95 .pick [.t 89,.t 94,.c (.bool false)],
 zM 96 95,
 cG 97 7 96 true,
 bt 98 (.aE 3) [.t 97,zI 1] 96 true,
 bN 99 98 0 96 true,
 bR 100 99 96 true,
 bt 101 (.bin .eql) [.t 100,zI 8] 96 true,
 zP 102 .pick [.t 96,.t 101,.c (.bool false)],
 zM 103 102,
 cG 104 10 103 true,
 bt 105 (.bin .eql) [.t 104,zI 2] 103 true,
 zP 106 .pick [.t 103,.t 105,.c (.bool false)],
 zM 107 106,
 cG 108 12 107 true,
 bt 109 (.bin .eql) [.t 108,zI 4] 107 true,
 zP 110 .pick [.t 107,.t 109,.c (.bool false)],
 zM 111 110,
 cG 112 13 111 true,
 bt 113 (.bin .eql) [.t 112,zI 0] 111 true,
 zP 114 .pick [.t 111,.t 113,.c (.bool false)],
 zM 115 114,
 cG 116 15 115 true,
 bt 117 (.bin .eql) [.t 116,zI 9] 115 true,
 zP 118 .pick [.t 115,.t 117,.c (.bool false)],
 zM 0 118])
 .ret))))))))))⟩
def XL:aB:=⟨27,[.tmp 2],
 (.seq (.ops [zB 1 0,
 zV 2 0])
 (.seq (.ops [zF 4 1 0,
 zL 5 4,
 zC 6 56 [.t 5,.c (.func (.func 57) [] [])],
 zM 7 6,
 bN 8 1 1 7 false,
 bR 9 8 7 false,
 bt 10 (.gJ (.func 60) 0) [.t 1] 7 false,
 m7 11 59 [.t 9,.t 10] 7 false,
 zP 12 .pick [.t 7,.c (.bool true),.t 11],
 zM 3 12])
 (.seq (.seq (.ops [zM 13 3,
 zM 14 13,
 bN 15 1 0 14 false,
 bR 16 15 14 false,
 bt 17 .bO [.t 16] 14 false,
 m7 18 62 [.t 17,zI 1,zI 4] 14 false,
 bt 19 .not [.t 18] 14 false,
 zP 20 .pick [.t 14,.c (.bool true),.t 19],
 zM 21 20,
 bN 22 1 1 21 false,
 bR 23 22 21 false,
 bt 24 .bO [.t 23] 21 false,
 bt 25 (.bin .gtr) [.t 24,zI 8] 21 false,
 zP 26 .pick [.t 21,.c (.bool true),.t 25]])
 (.cond (.t 26)
 (.seq (.ops [zV 2 50])
 .ret)
 .skip))
 (.seq (.ops [zV 2 0])
 .ret))))⟩
def Uf:aB:=⟨8,[.tmp 2],
 (.seq (.ops [zK 2 .aD])
 (.seq (.seq (.ops [zM 3 0,
 zP 4 (.eq .oC) [.t 3,.c .aD]])
 (.cond (.t 4)
 (.seq (.ops [zK 2 .aD])
 .ret)
 .skip))
 (.seq (.ops [⟨some 5,none,.a (.bX [zz,zz,.aD] 0 3 []),[]⟩,
 zM 6 0,
 zA 7 3 40 5 6,
 zM 2 7])
 .ret)))⟩
def mO:AC:=(.seq (.ops [zR 11 (.bin .lss) 10 9])
 (.seq (.cond (.t 11)
 .skip
 (.exit 0))
 (.seq (.block 1 (.seq (.ops [zM 12 10,
 zR 13 (.aE 7) 8 10,
 zO 14 7 13,
 ⟨some 6,none,.a (.alloc [zz,zz,zz,zz,zz,zz,(.str [])]),[]⟩,
 zM 5 12,
 zS 7 [.t 6,.t 14]])
 (.seq (.ops [zM 15 0,
 zM 16 5,
 zN 17 15,
 zF 18 17 98,
 zS 1 [.t 18,.t 16]])
 (.ops [zM 19 0,
 zO 20 7 6,
 jx 21 64 19 20]))))
 (.ops [zP 22 (.bin .add) [.t 10,zI 1],
 zM 10 22]))))
def QE:aB:=⟨34,[.cell 4 1 false],
 (.seq (.ops [⟨some 4,none,.a (.alloc [zz]),[]⟩])
 (.seq (.ops [zQ 7 (.gJ (.func 63) 0) 4,
 ⟨none,none,.bad,[.c (.bool true),.t 7,.t 7,.t 7]⟩])
 (.seq (.seq (.ops [zM 8 1,
 zQ 9 .bO 8,
 zV 10 0])
 (.block 0 (.loop mO)))
 (.seq (.ops [zM 23 0,
 zM 24 1,
 zQ 25 .bO 24,
 zN 26 23,
 zF 27 26 98,
 zS 1 [.t 27,.t 25]])
 (.seq (.ops [zM 28 0,
 zM 29 0,
 zN 30 29,
 zF 31 30 94,
 zL 32 31,
 jx 33 65 28 32])
 (.seq (.ops [zS 1 [.t 4,zI 0]])
 .ret))))))⟩
def jj:AC:=(.seq (.seq (.ops [zM 16 3,
 zF 17 1 0,
 zL 18 17,
 zQ 19 .bO 18,
 zR 20 (.bin .lss) 16 19])
 (.cond (.t 20)
 .skip
 (.exit 0)))
 (.seq (.block 1 (.seq (.ops [zF 23 1 0,
 zL 24 23,
 zM 25 3,
 zR 26 (.aE 3) 24 25,
 zO 27 3 26,
 oU 28 67 27,
 zQ 29 .not 28])
 (.cond (.t 29)
 (.seq (.ops [zV 2 50])
 .ret)
 .skip)))
 (.ops [zM 21 3,
 zP 22 (.bin .add) [.t 21,zI 1],
 zM 3 22])))
def jk:AC:=(.seq (.seq (.ops [zM 30 4,
 zF 31 1 1,
 zL 32 31,
 zQ 33 .bO 32,
 zR 34 (.bin .lss) 30 33])
 (.cond (.t 34)
 .skip
 (.exit 2)))
 (.seq (.block 3 (.seq (.bH [zF 37 1 1,
 zL 38 37,
 zM 39 4,
 zR 40 (.aE 6) 38 39,
 zO 41 6 40,
 zF 42 1 0,
 zL 43 42,
 zQ 44 .bO 43,
 jx 45 68 41 44,
 zQ 46 .not 45] [[],[],[],[],[],[],[],[],[],[]])
 (.cond (.t 46)
 (.seq (.ops [zV 2 50])
 .ret)
 .skip)))
 (.ops [zM 35 4,
 zP 36 (.bin .add) [.t 35,zI 1],
 zM 4 36])))
def XM:aB:=⟨47,[.tmp 2],
 (.seq (.ops [zB 1 0,
 zV 2 0])
 (.seq (.seq (.ops [zF 5 1 0,
 zL 6 5,
 zQ 7 .bO 6,
 zC 8 66 [.t 7,zI 1,zI 4],
 zQ 9 .not 8,
 zM 10 9,
 bN 11 1 1 10 false,
 bR 12 11 10 false,
 bt 13 .bO [.t 12] 10 false,
 bt 14 (.bin .gtr) [.t 13,zI 8] 10 false,
 zP 15 .pick [.t 10,.c (.bool true),.t 14]])
 (.cond (.t 15)
 (.seq (.ops [zV 2 50])
 .ret)
 .skip))
 (.seq (.seq (.ops [zV 3 0])
 (.block 0 (.loop jj)))
 (.seq (.seq (.ops [zV 4 0])
 (.block 2 (.loop jk)))
 (.seq (.ops [zV 2 0])
 .ret)))))⟩
def XN:aB:=⟨86,[.tmp 6],
 (.seq (.ops [zB 4 1,
 zK 6 (.bool false)])
 (.seq (.seq (.bH [zF 8 4 0,
 zL 9 8,
 zM 10 0,
 zN 11 10,
 zF 12 11 94,
 zL 13 12,
 zR 14 (.bin .lss) 9 13,
 zM 15 14,
 bN 16 4 0 15 false,
 bR 17 16 15 false,
 cG 18 2 15 false,
 bt 19 (.bin .gtr) [.t 17,.t 18] 15 false,
 zP 20 .pick [.t 15,.c (.bool true),.t 19],
 zM 21 20,
 bN 22 4 1 21 false,
 bR 23 22 21 false,
 bt 24 (.bin .lss) [.t 23,zI 1] 21 false,
 zP 25 .pick [.t 21,.c (.bool true),.t 24],
 zM 26 25,
 bN 27 4 1 26 false,
 bR 28 27 26 false,
 bt 29 (.bin .gtr) [.t 28,zI 8] 26 false,
 zP 30 .pick [.t 26,.c (.bool true),.t 29],
 zM 31 30,
 bN 32 4 2 31 false,
 bR 33 32 31 false,
 bt 34 (.bin .lss) [.t 33,zI 0] 31 false,
 zP 35 .pick [.t 31,.c (.bool true),.t 34],
 zM 36 35,
 bN 37 4 2 36 false,
 bR 38 37 36 false,
 cG 39 0 36 false,
 wY 40 39 36 false,
 bN 41 40 0 36 false,
 bN 42 41 0 36 false,
 bR 43 42 36 false,
 bt 44 .bO [.t 43] 36 false,
 bt 45 (.bin .geq) [.t 38,.t 44] 36 false,
 zP 46 .pick [.t 36,.c (.bool true),.t 45]] [[],[],[],[],[],[],[],[],[],[],[],[],[],[],[],[],[],[],[],[],[],[],[],[],[],[],[],[],[],[],[],[],[],[],[],[],[],[],[]])
 (.cond (.t 46)
 (.seq (.ops [zK 6 (.bool false)])
 .ret)
 .skip))
 (.seq (.seq (.ops [zF 47 4 1,
 zL 48 47,
 zP 49 (.bin .eql) [.t 48,zI 6],
 zM 50 49,
 bN 51 4 1 50 false,
 bR 52 51 50 false,
 bt 53 (.bin .eql) [.t 52,zI 7] 50 false,
 zP 54 .pick [.t 50,.c (.bool true),.t 53],
 zM 55 54,
 bN 56 4 1 55 false,
 bR 57 56 55 false,
 bt 58 (.bin .eql) [.t 57,zI 8] 55 false,
 zP 59 .pick [.t 55,.c (.bool true),.t 58]])
 (.cond (.t 59)
 (.seq (.ops [zF 60 4 3,
 zL 61 60,
 zP 62 (.bin .eql) [.t 61,zI 0],
 zM 6 62])
 .ret)
 .skip))
 (.seq (.ops [zV 7 0])
 (.seq (.seq (.ops [zF 63 4 1,
 zL 64 63,
 zP 65 (.bin .eql) [.t 64,zI 1]])
 (.cond (.t 65)
 (.ops [zV 7 (-1)])
 .skip))
 (.seq (.bH [zF 66 4 3,
 zL 67 66,
 zM 68 7,
 zR 69 (.bin .geq) 67 68,
 zM 70 69,
 bN 71 4 3 70 true,
 bR 72 71 70 true,
 cG 73 0 70 true,
 wY 74 73 70 true,
 bN 75 74 0 70 true,
 bN 76 75 0 70 true,
 bR 77 76 70 true,
 bN 78 4 2 70 true,
 bR 79 78 70 true,
 bt 80 (.aE 3) [.t 77,.t 79] 70 true,
 bN 81 80 2 70 true,
 bR 82 81 70 true,
 bt 83 .bO [.t 82] 70 true,
 bt 84 (.bin .lss) [.t 72,.t 83] 70 true,
 zP 85 .pick [.t 70,.t 84,.c (.bool false)],
 zM 6 85] [[],[],[],[],[],[],[],[],[],[],[],[],[],[],[],[],[],[],[],[],[]])
 .ret))))))⟩
def gT:AC:=(.seq (.seq (.ops [zM 6 0,
 zN 7 6,
 zF 8 7 94,
 zL 9 8,
 zM 10 1,
 zR 11 (.bin .lss) 9 10])
 (.cond (.t 11)
 .skip
 (.exit 0)))
 (.block 1 (.seq (.ops [zM 12 0,
 oU 13 69 12,
 zM 5 13])
 (.seq (.ops [zM 14 5,
 zP 15 (.bin .gtr) [.t 14,zI 0]])
 (.cond (.t 15)
 (.seq (.ops [zM 16 5,
 zM 4 16])
 .ret)
 .skip)))))
def XO:aB:=⟨17,[.tmp 4],
 (.seq (.ops [zV 4 0])
 (.seq (.block 0 (.loop gT))
 (.seq (.ops [zV 4 0])
 .ret)))⟩
def XP:aB:=⟨112,[.tmp 4],
 (.seq (.ops [zB 3 1,
 zV 4 0])
 (.seq (.bH [zM 7 0,
 zF 8 3 2,
 zL 9 8,
 zN 10 7,
 zF 11 10 2,
 zR 12 (.bT 23 4) 11 9,
 zO 13 23 12,
 ⟨some 5,none,.a (.alloc [(.bool false),zz,zz,zz,zz,(.bool false),zz,zz,zz,(.bool false),zz,zz,zz,(.bool false),zz,zz,zz,(.bool false),zz,zz,zz,(.bool false),zz]),[]⟩,
 zS 23 [.t 5,.t 13]] [[],[],[],[],[],[],[],[],[]])
 (.seq (.ops [⟨some 6,none,.a (.alloc [zz,zz,zz,zz,zz,zz,zz,zz]),[]⟩])
 (.seq (.seq (.bH [zF 14 3 3,
 zL 15 14,
 zP 16 (.bin .geq) [.t 15,zI 0],
 zM 17 16,
 bN 18 3 3 17 true,
 bR 19 18 17 true,
 cG 20 0 17 true,
 wY 21 20 17 true,
 bN 22 21 0 17 true,
 bN 23 22 0 17 true,
 bR 24 23 17 true,
 bN 25 3 2 17 true,
 bR 26 25 17 true,
 bt 27 (.aE 3) [.t 24,.t 26] 17 true,
 bN 28 27 2 17 true,
 bR 29 28 17 true,
 bt 30 .bO [.t 29] 17 true,
 bt 31 (.bin .lss) [.t 19,.t 30] 17 true,
 zP 32 .pick [.t 17,.t 31,.c (.bool false)]] [[],[],[],[],[],[],[],[],[],[],[],[],[],[],[],[],[],[],[]])
 (.cond (.t 32)
 (.bH [zM 33 0,
 zN 34 33,
 zF 35 34 0,
 zF 36 35 0,
 zL 37 36,
 zF 38 3 2,
 zL 39 38,
 zR 40 (.aE 3) 37 39,
 zF 41 40 2,
 zL 42 41,
 zF 43 3 3,
 zL 44 43,
 zR 45 (.aE 8) 42 44,
 zO 46 8 45,
 zS 8 [.t 6,.t 46]] [[],[],[],[],[],[],[],[],[],[],[],[],[],[],[]])
 .skip))
 (.seq (.block 0 (.seq (.ops [zF 48 5 0,
 zL 49 48,
 zF 50 3 1,
 zL 51 50,
 zP 52 (.bin .eql) [.t 51,zI 6],
 zR 53 (.eq .bool) 49 52,
 zM 47 53])
 (.cond (.t 47)
 (.seq (.ops [zV 4 2])
 .ret)
 (.seq (.bH [zF 55 3 1,
 zL 56 55,
 zP 57 (.bin .eql) [.t 56,zI 1],
 zM 58 57,
 cG 59 0 58 true,
 wY 60 59 58 true,
 bN 61 60 95 58 true,
 bR 62 61 58 true,
 cG 63 62 58 true,
 cG 64 0 63 false,
 m7 65 70 [.t 64] 63 false,
 bN 66 3 2 63 false,
 bR 67 66 63 false,
 bt 68 (.bin .neq) [.t 65,.t 67] 63 false,
 bt 69 .pick [.t 63,.c (.bool true),.t 68] 58 true,
 zP 70 .pick [.t 58,.t 69,.c (.bool false)],
 zM 54 70] [[],[],[],[],[],[],[],[],[],[],[],[],[0,11],[],[],[],[]])
 (.cond (.t 54)
 (.seq (.ops [zV 4 3])
 .ret)
 (.seq (.ops [zO 72 23 5,
 zO 73 7 3,
 jx 74 71 72 73,
 zQ 75 .not 74,
 zM 71 75])
 (.cond (.t 71)
 (.seq (.ops [zV 4 5])
 .ret)
 (.seq (.bH [zF 77 3 1,
 zL 78 77,
 zP 79 (.bin .eql) [.t 78,zI 2],
 zM 80 79,
 bN 81 3 5 80 true,
 bR 82 81 80 true,
 bt 83 (.bin .eql) [.t 82,zI 0] 80 true,
 zP 84 .pick [.t 80,.t 83,.c (.bool false)],
 zM 85 84,
 bN 86 3 0 85 true,
 bR 87 86 85 true,
 bN 88 3 3 85 true,
 bR 89 88 85 true,
 bN 90 5 5 85 true,
 bt 91 (.bT 4 4) [.t 90,.t 89] 85 true,
 bN 92 91 3 85 true,
 bR 93 92 85 true,
 bt 94 (.bin .lss) [.t 87,.t 93] 85 true,
 zP 95 .pick [.t 85,.t 94,.c (.bool false)],
 zM 76 95] [[],[],[],[],[],[],[],[],[],[],[],[],[],[],[],[],[],[],[],[]])
 (.cond (.t 76)
 (.seq (.ops [zV 4 6])
 .ret)
 (.seq (.ops [zF 97 3 3,
 zL 98 97,
 zP 99 (.bin .geq) [.t 98,zI 0],
 zM 100 99,
 ⟨some 101,some (100,true),.r (.bn 23),[.t 5]⟩,
 ⟨some 102,some (100,true),.r (.bn 7),[.t 3]⟩,
 ⟨some 103,some (100,true),.r (.bn 8),[.t 6]⟩,
 m7 104 72 [.t 101,.t 102,.t 103] 100 true,
 bt 105 .not [.t 104] 100 true,
 zP 106 .pick [.t 100,.t 105,.c (.bool false)],
 zM 96 106])
 (.cond (.t 96)
 (.seq (.ops [zV 4 7])
 .ret)
 (.seq (.ops [zM 108 0,
 zO 109 7 3,
 jx 110 73 108 109,
 zQ 111 .not 110,
 zM 107 111])
 (.cond (.t 107)
 (.seq (.ops [zV 4 8])
 .ret)
 .skip)))))))))))))
 (.seq (.ops [zV 4 0])
 .ret))))))⟩
def UI:aB:=⟨119,[],
 (.seq (.ops [zB 3 1])
 (.seq (.ops [zM 5 0,
 zO 6 7 3,
 jx 7 74 5 6])
 (.seq (.bH [zM 8 0,
 zF 9 3 2,
 zL 10 9,
 zN 11 8,
 zF 12 11 2,
 zR 13 (.bT 23 4) 12 10,
 zO 14 23 13,
 ⟨some 4,none,.a (.alloc [(.bool false),zz,zz,zz,zz,(.bool false),zz,zz,zz,(.bool false),zz,zz,zz,(.bool false),zz,zz,zz,(.bool false),zz,zz,zz,(.bool false),zz]),[]⟩,
 zS 23 [.t 4,.t 14]] [[],[],[],[],[],[],[],[],[]])
 (.seq (.seq (.ops [zF 15 3 1,
 zL 16 15])
 (.block 0 (.seq (.ops [zP 18 (.bin .eql) [.t 16,zI 2],
 zM 17 18])
 (.cond (.t 17)
 (.seq (.ops [zF 19 3 5,
 zL 20 19,
 zP 21 (.bin .eql) [.t 20,zI 0]])
 (.cond (.t 21)
 (.bH [zF 22 3 3,
 zL 23 22,
 zF 24 3 0,
 zL 25 24,
 zF 26 3 0,
 zL 27 26,
 zM 28 0,
 zN 29 28,
 zF 30 29 0,
 zF 31 30 0,
 zL 32 31,
 zF 33 3 2,
 zL 34 33,
 zR 35 (.aE 3) 32 34,
 zF 36 35 2,
 zL 37 36,
 zF 38 3 3,
 zL 39 38,
 zR 40 (.aE 8) 37 39,
 zF 41 40 0,
 zL 42 41,
 zR 43 (.bin .add) 27 42,
 zP 44 (.build [(.bool false),zz,zz,zz] [(0,1),(1,1),(3,1)]) [.c (.bool true),.t 25,.t 43],
 zF 45 4 5,
 zR 46 (.bT 4 4) 45 23,
 zS 4 [.t 46,.t 44]] [[],[],[],[],[],[],[],[],[],[],[],[],[],[],[],[],[],[],[],[],[],[],[],[],[],[]])
 .skip))
 (.seq (.ops [zP 48 (.bin .eql) [.t 16,zI 1],
 zM 47 48])
 (.cond (.t 47)
 (.seq (.ops [zM 49 0,
 zN 50 49,
 zF 51 50 95,
 zS 1 [.t 51,.c (.bool true)]])
 (.seq (.ops [zF 52 4 4,
 zL 53 52,
 zP 54 (.bin .add) [.t 53,zI 1],
 zF 55 4 4,
 zS 1 [.t 55,.t 54]])
 (.seq (.ops [zF 56 3 3,
 zL 57 56,
 zP 58 (.bin .geq) [.t 57,zI 0]])
 (.cond (.t 58)
 (.bH [zF 59 3 3,
 zL 60 59,
 zF 61 3 3,
 zL 62 61,
 zF 63 4 5,
 zR 64 (.bT 4 4) 63 62,
 zF 65 64 2,
 zL 66 65,
 zP 67 (.bin .add) [.t 66,zI 1],
 zF 68 4 5,
 zR 69 (.bT 4 4) 68 60,
 zF 70 69 2,
 zS 1 [.t 70,.t 67]] [[],[],[],[],[],[],[],[],[],[],[],[],[]])
 .skip))))
 (.seq (.seq (.ops [zP 72 (.bin .eql) [.t 16,zI 3],
 zM 71 72])
 (.cond (.t 71)
 .skip
 (.ops [zP 73 (.bin .eql) [.t 16,zI 4],
 zM 71 73])))
 (.cond (.t 71)
 (.seq (.ops [zF 74 3 3,
 zL 75 74,
 zF 76 4 5,
 zR 77 (.bT 4 4) 76 75,
 zF 78 77 0,
 zS 1 [.t 78,.c (.bool false)]])
 (.ops [zF 79 4 21,
 zL 80 79,
 zM 81 80,
 bN 82 4 22 81 true,
 bR 83 82 81 true,
 bN 84 3 3 81 true,
 bR 85 84 81 true,
 bt 86 (.bin .neq) [.t 83,.t 85] 81 true,
 zP 87 .pick [.t 81,.t 86,.c (.bool false)],
 zF 88 4 21,
 zS 1 [.t 88,.t 87]]))
 (.seq (.ops [zP 90 (.bin .eql) [.t 16,zI 5],
 zM 89 90])
 (.cond (.t 89)
 (.seq (.seq (.ops [zF 91 3 5,
 zL 92 91,
 zP 93 (.bin .eql) [.t 92,zI 0],
 zM 94 93,
 bN 95 3 4 94 true,
 bR 96 95 94 true,
 bt 97 (.bin .eql) [.t 96,zI 4] 94 true,
 zP 98 .pick [.t 94,.t 97,.c (.bool false)]])
 (.cond (.t 98)
 (.seq (.ops [zF 99 4 21,
 zS 1 [.t 99,.c (.bool true)]])
 (.ops [zF 100 3 3,
 zL 101 100,
 zF 102 4 22,
 zS 1 [.t 102,.t 101]]))
 .skip))
 (.seq (.ops [zF 103 3 5,
 zL 104 103,
 zP 105 (.bin .eql) [.t 104,zI 0],
 zM 106 105,
 bN 107 3 4 106 true,
 bR 108 107 106 true,
 bt 109 (.bin .eql) [.t 108,zI 5] 106 true,
 zP 110 .pick [.t 106,.t 109,.c (.bool false)]])
 (.cond (.t 110)
 (.ops [zF 111 4 21,
 zS 1 [.t 111,.c (.bool false)]])
 .skip)))
 .skip))))))))))
 (.bH [zM 112 0,
 zF 113 3 2,
 zL 114 113,
 zO 115 23 4,
 zN 116 112,
 zF 117 116 2,
 zR 118 (.bT 23 4) 117 114,
 zS 23 [.t 118,.t 115]] [[],[],[],[],[],[],[],[]])))))⟩
def XQ:aB:=⟨32,[.tmp 8],
 (.seq (.ops [zK 8 (.bool false)])
 (.seq (.ops [Ub 13 75,
 zM 14 3,
 zM 15 0,
 E7 16 18 13 14 15,
 zM 12 16,
 zQ 17 (.ext 0) 12,
 zQ 18 (.ext 1) 12,
 zQ 19 (.ext 2) 12,
 zM 9 17,
 zM 10 18,
 zM 11 19])
 (.seq (.ops [zM 20 9,
 zM 21 1,
 zR 22 (.bin .eql) 20 21,
 zM 23 22,
 cG 24 10 23 true,
 cG 25 2 23 true,
 bt 26 (.bin .eql) [.t 24,.t 25] 23 true,
 zP 27 .pick [.t 23,.t 26,.c (.bool false)],
 zM 28 27,
 cG 29 11 28 true,
 bt 30 (.bin .eql) [.t 29,zI 0] 28 true,
 zP 31 .pick [.t 28,.t 30,.c (.bool false)],
 zM 8 31])
 .ret)))⟩
def XR:aB:=⟨18,[.tmp 2,.tmp 3,.tmp 4],
 (.seq (.ops [zV 2 0,
 zV 3 0,
 zV 4 0])
 (.seq (.ops [zM 8 0,
 oU 9 76 8,
 zM 7 9,
 zQ 10 (.ext 0) 7,
 zQ 11 (.ext 1) 7,
 ⟨some 5,none,.a (.alloc [zz,zz]),[]⟩,
 zS 2 [.t 5,.t 10],
 zM 6 11])
 (.seq (.seq (.ops [zM 12 6,
 zQ 13 .not 12])
 (.cond (.t 13)
 (.seq (.ops [zV 2 0,
 zV 3 0,
 zV 4 2])
 .ret)
 .skip))
 (.seq (.bH [zF 14 5 0,
 zL 15 14,
 zF 16 5 1,
 zL 17 16,
 zM 2 15,
 zM 3 17,
 zV 4 0] [[],[],[],[],[],[],[]])
 .ret))))⟩
def j5:AC:=(.seq (.seq (.ops [zM 14 7,
 zM 15 0,
 zQ 16 .bO 15,
 zR 17 (.bin .lss) 14 16])
 (.cond (.t 17)
 .skip
 (.exit 0)))
 (.seq (.block 1 (.seq (.ops [zM 20 0,
 zM 21 7,
 zR 22 (.aE 3) 20 21,
 zO 23 3 22,
 ⟨some 8,none,.a (.alloc [zz,zz,.aD]),[]⟩,
 zS 3 [.t 8,.t 23]])
 (.seq (.seq (.ops [zF 24 8 0,
 zL 25 24,
 zP 26 (.bin .lss) [.t 25,zI 1],
 zM 27 26,
 bN 28 8 0 27 false,
 bR 29 28 27 false,
 bt 30 (.bin .gtr) [.t 29,zI 64] 27 false,
 zP 31 .pick [.t 27,.c (.bool true),.t 30],
 zM 32 31,
 bN 33 8 1 32 false,
 bR 34 33 32 false,
 bt 35 (.bin .lss) [.t 34,zI 1] 32 false,
 zP 36 .pick [.t 32,.c (.bool true),.t 35],
 zM 37 36,
 bN 38 8 1 37 false,
 bR 39 38 37 false,
 bN 40 8 0 37 false,
 bR 41 40 37 false,
 bt 42 (.bin .gtr) [.t 39,.t 41] 37 false,
 zP 43 .pick [.t 37,.c (.bool true),.t 42]])
 (.cond (.t 43)
 (.seq (.ops [zV 2 0,
 zV 3 0,
 zV 4 2])
 .ret)
 .skip))
 (.seq (.ops [zM 44 5,
 zF 45 8 0,
 zL 46 45,
 zR 47 (.bin .mul) 44 46,
 zF 48 8 1,
 zL 49 48,
 zM 50 6,
 zR 51 (.bin .mul) 49 50,
 zR 52 (.bin .add) 47 51,
 zM 5 52])
 (.ops [zM 53 6,
 zF 54 8 0,
 zL 55 54,
 zR 56 (.bin .mul) 53 55,
 zM 6 56])))))
 (.ops [zM 18 7,
 zP 19 (.bin .add) [.t 18,zI 1],
 zM 7 19])))
def j6:AC:=(.seq (.seq (.ops [zM 59 10,
 zP 60 (.bin .gtr) [.t 59,zI 0]])
 (.cond (.t 60)
 .skip
 (.exit 2)))
 (.block 3 (.bH [zM 61 10,
 zM 62 9,
 zM 63 10,
 zR 64 (.bin .rem) 62 63,
 zM 9 61,
 zM 10 64] [[],[],[],[],[],[]])))
def XS:aB:=⟨71,[.tmp 2,.tmp 3,.tmp 4],
 (.seq (.ops [zV 2 0,
 zV 3 0,
 zV 4 0])
 (.seq (.seq (.ops [zM 11 0,
 zQ 12 .bO 11,
 zP 13 (.bin .gtr) [.t 12,zI 4]])
 (.cond (.t 13)
 (.seq (.ops [zV 2 0,
 zV 3 0,
 zV 4 2])
 .ret)
 .skip))
 (.seq (.ops [zV 5 0,
 zV 6 1])
 (.seq (.seq (.ops [zV 7 0])
 (.block 0 (.loop j5)))
 (.seq (.ops [zM 57 5,
 zM 58 6,
 zM 9 57,
 zM 10 58])
 (.seq (.block 2 (.loop j6))
 (.seq (.bH [zM 65 5,
 zM 66 9,
 zR 67 (.bin .quo) 65 66,
 zM 68 6,
 zM 69 9,
 zR 70 (.bin .quo) 68 69,
 zM 2 67,
 zM 3 70,
 zV 4 0] [[],[],[],[],[],[],[],[],[]])
 .ret)))))))⟩
def XT:aB:=⟨8,[.tmp 2],
 (.seq (.ops [zK 2 .aD])
 (.seq (.seq (.ops [zM 3 0,
 zP 4 (.eq .oC) [.t 3,.c .aD]])
 (.cond (.t 4)
 (.seq (.ops [zK 2 .aD])
 .ret)
 .skip))
 (.seq (.ops [⟨some 5,none,.a (.bX [zz,zz,zz,zz,zz,zz,zz,zz] 0 8 []),[]⟩,
 zM 6 0,
 zA 7 8 64 5 6,
 zM 2 7])
 .ret)))⟩
def ZB:aB:=⟨14,[.tmp 4],
 (.seq (.ops [zK 4 .aD])
 (.seq (.ops [zM 5 0,
 zP 6 (.build [zz,zz,zz,zz,zz,zz,zz,zz] [(0,1),(1,1),(2,1)]) [zI 8,zI 8,zI 2],
 ⟨some 7,none,.a (.bX [zz,zz,zz,zz,zz,zz,zz,zz] 1 8 [0]),[.t 6]⟩,
 zP 8 (.build [zz,zz,.aD] [(0,1),(1,1),(2,1)]) [zI 4,.t 5,.t 7],
 zM 9 1,
 zP 10 (.build [zz,zz,zz,zz,zz,zz,zz,zz] [(0,1),(1,1),(2,1)]) [zI 8,zI 8,zI 3],
 ⟨some 11,none,.a (.bX [zz,zz,zz,zz,zz,zz,zz,zz] 1 8 [0]),[.t 10]⟩,
 zP 12 (.build [zz,zz,.aD] [(0,1),(1,1),(2,1)]) [zI 8,.t 9,.t 11],
 ⟨some 13,none,.a (.bX [zz,zz,.aD] 2 3 [0,1]),[.t 8,.t 12]⟩,
 zM 4 13])
 .ret))⟩
def ZC:aB:=⟨21,[.tmp 4,.tmp 5],
 (.seq (.ops [zV 4 0,
 zV 5 0])
 (.seq (.seq (.ops [zM 6 0,
 zM 7 1,
 jx 8 77 6 7,
 zQ 9 .not 8])
 (.cond (.t 9)
 (.seq (.ops [zV 4 0,
 zV 5 9])
 .ret)
 .skip))
 (.seq (.seq (.ops [zM 10 0,
 zM 11 1,
 zM 12 0,
 zM 13 1,
 zR 14 (.aE 3) 12 13,
 zF 15 14 0,
 zL 16 15,
 E7 17 78 10 11 16,
 zM 4 17])
 (.seq (.ops [zM 18 4,
 zP 19 (.bin .eql) [.t 18,zI 0]])
 (.cond (.t 19)
 (.seq (.ops [zV 4 0,
 zV 5 120])
 .ret)
 .skip)))
 (.seq (.ops [zM 20 4,
 zM 4 20,
 zV 5 0])
 .ret))))⟩
def XU:aB:=⟨9,[.tmp 4],
 (.seq (.ops [zK 4 (.bool false)])
 (.seq (.ops [zM 5 0,
 zM 6 1,
 jx 7 79 5 6,
 zP 8 (.bin .geq) [.t 7,zI 0],
 zM 4 8])
 .ret))⟩
def XV:aB:=⟨6,[.tmp 2],
 (.seq (.ops [zB 1 0,
 zK 2 (.bool false)])
 (.seq (.ops [zO 3 3 1,
 oU 4 58 3,
 zQ 5 .not 4,
 zM 2 5])
 .ret))⟩
def XX:aB:=⟨26,[.tmp 2],
 (.seq (.ops [zB 1 0,
 zK 2 (.bool false)])
 (.seq (.seq (.ops [zF 3 1 0,
 zL 4 3,
 zC 5 62 [.t 4,zI 1,zI 64],
 zQ 6 .not 5,
 zM 7 6,
 bN 8 1 1 7 false,
 bR 9 8 7 false,
 bN 10 1 0 7 false,
 bR 11 10 7 false,
 m7 12 62 [.t 9,zI 1,.t 11] 7 false,
 bt 13 .not [.t 12] 7 false,
 zP 14 .pick [.t 7,.c (.bool true),.t 13],
 zM 15 14,
 bN 16 1 2 15 false,
 bR 17 16 15 false,
 bt 18 .bO [.t 17] 15 false,
 bt 19 (.bin .gtr) [.t 18,zI 4] 15 false,
 zP 20 .pick [.t 15,.c (.bool true),.t 19]])
 (.cond (.t 20)
 (.seq (.ops [zK 2 (.bool false)])
 .ret)
 .skip))
 (.seq (.ops [zF 21 1 2,
 zL 22 21,
 zQ 23 (.gJ (.func 81) 0) 1,
 jx 24 80 22 23,
 zQ 25 .not 24,
 zM 2 25])
 .ret)))⟩
def XZ:aB:=⟨9,[.tmp 4],
 (.seq (.ops [zK 4 (.bool false)])
 (.seq (.ops [zM 5 0,
 zM 6 1,
 jx 7 83 5 6,
 zP 8 (.bin .geq) [.t 7,zI 0],
 zM 4 8])
 .ret))⟩
def X4:aB:=⟨10,[.tmp 3],
 (.seq (.ops [zB 2 0,
 zK 3 (.bool false)])
 (.seq (.ops [zO 4 6 2,
 zF 5 1 0,
 zL 6 5,
 zQ 7 .bO 6,
 jx 8 61 4 7,
 zQ 9 .not 8,
 zM 3 9])
 .ret))⟩
def X5:aB:=⟨55,[.tmp 4],
 (.seq (.ops [zB 2 0,
 zK 4 (.bool false)])
 (.seq (.ops [zK 5 (.bool false)])
 (.seq (.seq (.ops [zF 6 2 0,
 zL 7 6])
 (.block 0 (.seq (.ops [zP 9 (.bin .eql) [.t 7,zI 1],
 zM 8 9])
 (.cond (.t 8)
 (.ops [zF 10 2 4,
 zL 11 10,
 zP 12 (.bin .eql) [.t 11,zI 0],
 zM 13 12,
 bN 14 2 5 13 true,
 bR 15 14 13 true,
 m7 16 62 [.t 15,zI 1,zI 64] 13 true,
 zP 17 .pick [.t 13,.t 16,.c (.bool false)],
 zM 5 17])
 (.seq (.ops [zP 19 (.bin .eql) [.t 7,zI 2],
 zM 18 19])
 (.cond (.t 18)
 (.ops [zF 20 2 5,
 zL 21 20,
 zP 22 (.bin .eql) [.t 21,zI 0],
 zM 23 22,
 bN 24 2 4 23 true,
 bR 25 24 23 true,
 m7 26 62 [.t 25,zI 1,zI 4] 23 true,
 zP 27 .pick [.t 23,.t 26,.c (.bool false)],
 zM 5 27])
 .skip))))))
 (.seq (.ops [zM 28 5,
 zM 29 28,
 bN 30 2 1 29 true,
 bR 31 30 29 true,
 cG 32 1 29 true,
 bt 33 (.bin .sub) [.t 32,zI 1] 29 true,
 m7 34 62 [.t 31,zI 0,.t 33] 29 true,
 zP 35 .pick [.t 29,.t 34,.c (.bool false)],
 zM 36 35,
 bN 37 2 2 36 true,
 bR 38 37 36 true,
 cG 39 1 36 true,
 bt 40 (.bin .sub) [.t 39,zI 1] 36 true,
 m7 41 62 [.t 38,zI 0,.t 40] 36 true,
 zP 42 .pick [.t 36,.t 41,.c (.bool false)],
 zM 43 42,
 bN 44 2 1 43 true,
 bR 45 44 43 true,
 bN 46 2 2 43 true,
 bR 47 46 43 true,
 bt 48 (.bin .neq) [.t 45,.t 47] 43 true,
 zP 49 .pick [.t 43,.t 48,.c (.bool false)],
 zM 50 49,
 bN 51 2 3 50 true,
 bR 52 51 50 true,
 m7 53 62 [.t 52,zI 1,zI 16] 50 true,
 zP 54 .pick [.t 50,.t 53,.c (.bool false)],
 zM 4 54])
 .ret))))⟩
def X7:aB:=⟨15,[.tmp 6],
 (.seq (.ops [zK 6 (.bool false)])
 (.seq (.ops [zM 7 1,
 zM 8 0,
 zR 9 (.bin .leq) 7 8,
 zM 10 9,
 cG 11 0 10 true,
 cG 12 2 10 true,
 bt 13 (.bin .leq) [.t 11,.t 12] 10 true,
 zP 14 .pick [.t 10,.t 13,.c (.bool false)],
 zM 6 14])
 .ret))⟩
def X8:aB:=⟨7,[],
 (.seq (.ops [⟨some 2,none,.bad,[.c (.bool false),.c (.bool false),.c (.bool false),.c (.bool false)]⟩,
 zM 1 2])
 (.seq (.ops [zM 3 1,
 zP 4 (.neq .iface) [.t 3,.c .kr]])
 (.cond (.t 4)
 (.ops [zM 5 1,
 zQ 6 (.qD 115 false zz) 5,
 zS 1 [.t 0,.t 6]])
 .skip)))⟩
def Ya:aB:=⟨113,[],
 (.seq (.ops [zB 3 1])
 (.seq (.ops [zM 5 0,
 zO 6 7 3,
 jx 7 85 5 6,
 ⟨some 8,none,.call,[.c (.func (.func 84) [] []),.t 7,zI 1]⟩])
 (.seq (.ops [zM 9 0,
 zF 10 3 0,
 zL 11 10,
 jx 12 65 9 11])
 (.seq (.bH [zM 13 0,
 zF 14 3 2,
 zL 15 14,
 zN 16 13,
 zF 17 16 2,
 zR 18 (.bT 23 4) 17 15,
 zM 4 18] [[],[],[],[],[],[],[]])
 (.seq (.bH [zM 19 4,
 zN 20 19,
 zF 21 20 0,
 zL 22 21,
 zF 23 3 1,
 zL 24 23,
 zP 25 (.bin .eql) [.t 24,zI 6],
 zR 26 (.neq .bool) 22 25,
 ⟨some 27,none,.call,[.c (.func (.func 84) [] []),.t 26,zI 2]⟩] [[],[],[],[],[],[],[],[],[]])
 (.seq (.bH [zF 28 3 1,
 zL 29 28,
 zP 30 (.bin .neq) [.t 29,zI 1],
 zM 31 30,
 cG 32 0 31 false,
 wY 33 32 31 false,
 bN 34 33 96 31 false,
 bR 35 34 31 false,
 bt 36 .not [.t 35] 31 false,
 cG 37 36 31 false,
 cG 38 0 37 true,
 m7 39 86 [.t 38] 37 true,
 bN 40 3 2 37 true,
 bR 41 40 37 true,
 bt 42 (.bin .eql) [.t 39,.t 41] 37 true,
 bt 43 .pick [.t 37,.t 42,.c (.bool false)] 31 false,
 zP 44 .pick [.t 31,.c (.bool true),.t 43],
 ⟨some 45,none,.call,[.c (.func (.func 84) [] []),.t 44,zI 3]⟩] [[],[],[],[],[],[],[],[],[],[],[],[],[],[0,12],[],[],[],[]])
 (.seq (.ops [zM 46 4,
 zO 47 7 3,
 jx 48 87 46 47,
 ⟨some 49,none,.call,[.c (.func (.func 84) [] []),.t 48,zI 5]⟩])
 (.seq (.seq (.ops [zO 50 7 3,
 oU 51 88 50])
 (.cond (.t 51)
 (.seq (.ops [zM 52 0,
 zM 53 4,
 zO 54 7 3,
 E7 55 89 52 53 54])
 .ret)
 .skip))
 (.seq (.seq (.ops [zF 56 3 3,
 zL 57 56,
 zP 58 (.bin .neq) [.t 57,zI (-1)]])
 (.cond (.t 58)
 (.bH [zM 59 4,
 zO 60 7 3,
 zM 61 0,
 zN 62 61,
 zF 63 62 0,
 zF 64 63 0,
 zL 65 64,
 zF 66 3 2,
 zL 67 66,
 zR 68 (.aE 3) 65 67,
 zF 69 68 2,
 zL 70 69,
 zF 71 3 3,
 zL 72 71,
 zR 73 (.aE 8) 70 72,
 zO 74 8 73,
 E7 75 90 59 60 74] [[],[],[],[],[],[],[],[],[],[],[],[],[],[],[],[],[]])
 .skip))
 (.seq (.ops [zM 76 0,
 zO 77 7 3,
 jx 78 91 76 77,
 ⟨some 79,none,.call,[.c (.func (.func 84) [] []),.t 78,zI 8]⟩])
 (.seq (.seq (.ops [zF 80 3 1,
 zL 81 80,
 zP 82 (.bin .eql) [.t 81,zI 1]])
 (.cond (.t 82)
 (.seq (.ops [zM 83 0,
 zN 84 83,
 zF 85 84 96,
 zS 1 [.t 85,.c (.bool true)]])
 (.ops [zM 86 4,
 zN 87 86,
 zF 88 87 4,
 zL 89 88,
 zP 90 (.bin .add) [.t 89,zI 1],
 zN 91 86,
 zF 92 91 4,
 zS 1 [.t 92,.t 90]]))
 .skip))
 (.seq (.ops [zF 93 3 3,
 zL 94 93,
 zP 95 (.bin .neq) [.t 94,zI (-1)]])
 (.cond (.t 95)
 (.bH [zM 96 4,
 zO 97 7 3,
 zM 98 0,
 zN 99 98,
 zF 100 99 0,
 zF 101 100 0,
 zL 102 101,
 zF 103 3 2,
 zL 104 103,
 zR 105 (.aE 3) 102 104,
 zF 106 105 2,
 zL 107 106,
 zF 108 3 3,
 zL 109 108,
 zR 110 (.aE 8) 107 109,
 zO 111 8 110,
 E7 112 92 96 97 111] [[],[],[],[],[],[],[],[],[],[],[],[],[],[],[],[],[]])
 .skip)))))))))))))⟩
def og:AC:=(.seq (.seq (.ops [zM 4 0,
 zN 5 4,
 zF 6 5 95,
 zL 7 6,
 zM 8 1,
 zR 9 (.bin .lss) 7 8])
 (.cond (.t 9)
 .skip
 (.exit 0)))
 (.block 1 (.ops [zM 10 0,
 oU 11 93 10])))
def Yb:aB:=⟨12,[],
 (.block 0 (.loop og))⟩
def Yc:aB:=⟨15,[.tmp 6],
 (.seq (.ops [zK 6 (.bool false)])
 (.seq (.ops [zM 7 0,
 zM 8 1,
 zR 9 (.bin .geq) 7 8,
 zM 10 9,
 cG 11 0 10 true,
 cG 12 2 10 true,
 bt 13 (.bin .leq) [.t 11,.t 12] 10 true,
 zP 14 .pick [.t 10,.t 13,.c (.bool false)],
 zM 6 14])
 .ret))⟩
def jC:AC:=(.seq (.seq (.ops [zM 22 3,
 zF 23 1 2,
 zL 24 23,
 zQ 25 .bO 24,
 zR 26 (.bin .lss) 22 25])
 (.cond (.t 26)
 .skip
 (.exit 0)))
 (.seq (.block 1 (.seq (.bH [zF 29 1 2,
 zL 30 29,
 zM 31 3,
 zR 32 (.aE 8) 30 31,
 zO 33 8 32,
 zF 34 1 1,
 zL 35 34,
 jx 36 94 33 35,
 zQ 37 .not 36] [[],[],[],[],[],[],[],[],[]])
 (.cond (.t 37)
 (.seq (.ops [zK 2 (.bool false)])
 .ret)
 .skip)))
 (.ops [zM 27 3,
 zP 28 (.bin .add) [.t 27,zI 1],
 zM 3 28])))
def Yd:aB:=⟨38,[.tmp 2],
 (.seq (.ops [zB 1 0,
 zK 2 (.bool false)])
 (.seq (.seq (.ops [zF 4 1 0,
 zL 5 4,
 zC 6 66 [.t 5,zI 1,zI 64],
 zQ 7 .not 6,
 zM 8 7,
 bN 9 1 1 8 false,
 bR 10 9 8 false,
 bN 11 1 0 8 false,
 bR 12 11 8 false,
 m7 13 66 [.t 10,zI 1,.t 12] 8 false,
 bt 14 .not [.t 13] 8 false,
 zP 15 .pick [.t 8,.c (.bool true),.t 14],
 zM 16 15,
 bN 17 1 2 16 false,
 bR 18 17 16 false,
 bt 19 .bO [.t 18] 16 false,
 bt 20 (.bin .gtr) [.t 19,zI 4] 16 false,
 zP 21 .pick [.t 16,.c (.bool true),.t 20]])
 (.cond (.t 21)
 (.seq (.ops [zK 2 (.bool false)])
 .ret)
 .skip))
 (.seq (.seq (.ops [zV 3 0])
 (.block 0 (.loop jC)))
 (.seq (.ops [zK 2 (.bool true)])
 .ret))))⟩
def Ye:aB:=⟨61,[.tmp 4],
 (.seq (.ops [zB 2 0,
 zK 4 (.bool false)])
 (.seq (.ops [zF 6 2 0,
 zL 7 6,
 zP 8 (.bin .eql) [.t 7,zI 1],
 zM 9 8,
 bN 10 2 4 9 true,
 bR 11 10 9 true,
 bt 12 (.bin .eql) [.t 11,zI 0] 9 true,
 zP 13 .pick [.t 9,.t 12,.c (.bool false)],
 zM 14 13,
 bN 15 2 5 14 true,
 bR 16 15 14 true,
 m7 17 66 [.t 16,zI 1,zI 64] 14 true,
 zP 18 .pick [.t 14,.t 17,.c (.bool false)],
 zM 19 18,
 bN 20 2 0 19 false,
 bR 21 20 19 false,
 bt 22 (.bin .eql) [.t 21,zI 2] 19 false,
 cG 23 22 19 false,
 bN 24 2 5 23 true,
 bR 25 24 23 true,
 bt 26 (.bin .eql) [.t 25,zI 0] 23 true,
 bt 27 .pick [.t 23,.t 26,.c (.bool false)] 19 false,
 cG 28 27 19 false,
 bN 29 2 4 28 true,
 bR 30 29 28 true,
 m7 31 66 [.t 30,zI 1,zI 4] 28 true,
 bt 32 .pick [.t 28,.t 31,.c (.bool false)] 19 false,
 zP 33 .pick [.t 19,.c (.bool true),.t 32],
 zM 5 33])
 (.seq (.ops [zM 34 5,
 zM 35 34,
 bN 36 2 1 35 true,
 bR 37 36 35 true,
 cG 38 1 35 true,
 bt 39 (.bin .sub) [.t 38,zI 1] 35 true,
 m7 40 66 [.t 37,zI 0,.t 39] 35 true,
 zP 41 .pick [.t 35,.t 40,.c (.bool false)],
 zM 42 41,
 bN 43 2 2 42 true,
 bR 44 43 42 true,
 cG 45 1 42 true,
 bt 46 (.bin .sub) [.t 45,zI 1] 42 true,
 m7 47 66 [.t 44,zI 0,.t 46] 42 true,
 zP 48 .pick [.t 42,.t 47,.c (.bool false)],
 zM 49 48,
 bN 50 2 1 49 true,
 bR 51 50 49 true,
 bN 52 2 2 49 true,
 bR 53 52 49 true,
 bt 54 (.bin .neq) [.t 51,.t 53] 49 true,
 zP 55 .pick [.t 49,.t 54,.c (.bool false)],
 zM 56 55,
 bN 57 2 3 56 true,
 bR 58 57 56 true,
 m7 59 66 [.t 58,zI 1,zI 16] 56 true,
 zP 60 .pick [.t 56,.t 59,.c (.bool false)],
 zM 4 60])
 .ret)))⟩
def eF:AC:=(.seq (.seq (.ops [zM 7 3,
 zM 8 0,
 zN 9 8,
 zF 10 9 0,
 zF 11 10 0,
 zL 12 11,
 zQ 13 .bO 12,
 zR 14 (.bin .lss) 7 13])
 (.cond (.t 14)
 .skip
 (.exit 0)))
 (.seq (.block 1 (.seq (.ops [zM 17 0,
 zM 18 3,
 zN 19 17,
 zF 20 19 2,
 zR 21 (.bT 23 4) 20 18,
 zO 22 23 21,
 ⟨some 4,none,.a (.alloc [(.bool false),zz,zz,zz,zz,(.bool false),zz,zz,zz,(.bool false),zz,zz,zz,(.bool false),zz,zz,zz,(.bool false),zz,zz,zz,(.bool false),zz]),[]⟩,
 zS 23 [.t 4,.t 22]])
 (.seq (.ops [zF 23 4 0,
 zL 24 23,
 zM 25 24,
 bN 26 4 21 25 true,
 bR 27 26 25 true,
 zP 28 .pick [.t 25,.t 27,.c (.bool false)],
 zM 29 28,
 bN 30 4 4 29 true,
 bR 31 30 29 true,
 bN 32 4 2 29 true,
 bR 33 32 29 true,
 bt 34 (.bin .geq) [.t 31,.t 33] 29 true,
 zP 35 .pick [.t 29,.t 34,.c (.bool false)]])
 (.cond (.t 35)
 (.seq (.ops [zV 2 8])
 .ret)
 .skip))))
 (.ops [zM 15 3,
 zP 16 (.bin .add) [.t 15,zI 1],
 zM 3 16])))
def eG:AC:=(.seq (.seq (.ops [zM 67 5,
 zM 68 0,
 zN 69 68,
 zF 70 69 0,
 zF 71 70 0,
 zL 72 71,
 zQ 73 .bO 72,
 zR 74 (.bin .lss) 67 73])
 (.cond (.t 74)
 .skip
 (.exit 2)))
 (.seq (.block 3 (.seq (.ops [zM 77 0,
 zM 78 5,
 zN 79 77,
 zF 80 79 2,
 zR 81 (.bT 23 4) 80 78,
 zO 82 23 81,
 ⟨some 6,none,.a (.alloc [(.bool false),zz,zz,zz,zz,(.bool false),zz,zz,zz,(.bool false),zz,zz,zz,(.bool false),zz,zz,zz,(.bool false),zz,zz,zz,(.bool false),zz]),[]⟩,
 zS 23 [.t 6,.t 82]])
 (.seq (.seq (.bH [zF 83 6 0,
 zL 84 83,
 zQ 85 .not 84,
 zM 86 85,
 bN 87 6 3 86 false,
 bR 88 87 86 false,
 cG 89 0 86 false,
 wY 90 89 86 false,
 bN 91 90 94 86 false,
 bR 92 91 86 false,
 bt 93 (.bin .neq) [.t 88,.t 92] 86 false,
 zP 94 .pick [.t 86,.c (.bool true),.t 93]] [[],[],[],[],[],[],[],[],[],[],[],[]])
 (.cond (.t 94)
 (.exit 3)
 .skip))
 (.seq (.seq (.ops [zF 95 6 4,
 zL 96 95,
 zF 97 6 2,
 zL 98 97,
 zR 99 (.bin .neq) 96 98])
 (.cond (.t 99)
 (.seq (.ops [zV 2 4])
 .ret)
 .skip))
 (.seq (.ops [zF 100 6 4,
 zS 1 [.t 100,zI 0]])
 (.seq (.bH [zM 101 0,
 zN 102 101,
 zF 103 102 94,
 zL 104 103,
 zF 105 6 1,
 zL 106 105,
 zR 107 (.bin .add) 104 106,
 zF 108 6 3,
 zS 1 [.t 108,.t 107]] [[],[],[],[],[],[],[],[],[]])
 (.bH [zM 109 0,
 zM 110 5,
 zO 111 23 6,
 zN 112 109,
 zF 113 112 2,
 zR 114 (.bT 23 4) 113 110,
 zS 23 [.t 114,.t 111]] [[],[],[],[],[],[],[]])))))))
 (.ops [zM 75 5,
 zP 76 (.bin .add) [.t 75,zI 1],
 zM 5 76])))
def Yf:aB:=⟨115,[.tmp 2],
 (.seq (.ops [zV 2 0])
 (.seq (.seq (.ops [zV 3 0])
 (.block 0 (.loop eF)))
 (.seq (.seq (.ops [zM 36 0,
 zN 37 36,
 zF 38 37 95,
 zL 39 38,
 zQ 40 .not 39,
 zM 41 40,
 cG 42 0 41 true,
 wY 43 42 41 true,
 bN 44 43 96 41 true,
 bR 45 44 41 true,
 bt 46 .not [.t 45] 41 true,
 zP 47 .pick [.t 41,.t 46,.c (.bool false)],
 zM 48 47,
 cG 49 0 48 true,
 m7 50 70 [.t 49] 48 true,
 bt 51 (.bin .geq) [.t 50,zI 0] 48 true,
 zP 52 .pick [.t 48,.t 51,.c (.bool false)]])
 (.cond (.t 52)
 (.seq (.ops [zV 2 3])
 .ret)
 .skip))
 (.seq (.ops [zM 53 0,
 zM 54 0,
 zN 55 54,
 zF 56 55 94,
 zL 57 56,
 zP 58 (.bin .add) [.t 57,zI 1],
 zN 59 53,
 zF 60 59 94,
 zS 1 [.t 60,.t 58]])
 (.seq (.ops [zM 61 0,
 zN 62 61,
 zF 63 62 95,
 zS 1 [.t 63,.c (.bool false)]])
 (.seq (.ops [zM 64 0,
 zN 65 64,
 zF 66 65 96,
 zS 1 [.t 66,.c (.bool false)]])
 (.seq (.seq (.ops [zV 5 0])
 (.block 2 (.loop eG)))
 (.seq (.ops [zV 2 0])
 .ret))))))))⟩
def dR:AC:=(.seq (.seq (.ops [zM 6 4,
 zM 7 0,
 zN 8 7,
 zF 9 8 0,
 zF 10 9 0,
 zL 11 10,
 zQ 12 .bO 11,
 zR 13 (.bin .lss) 6 12])
 (.cond (.t 13)
 .skip
 (.exit 0)))
 (.seq (.block 1 (.seq (.ops [zM 16 0,
 zM 17 4,
 zN 18 16,
 zF 19 18 2,
 zR 20 (.bT 23 4) 19 17,
 zO 21 23 20,
 ⟨some 5,none,.a (.alloc [(.bool false),zz,zz,zz,zz,(.bool false),zz,zz,zz,(.bool false),zz,zz,zz,(.bool false),zz,zz,zz,(.bool false),zz,zz,zz,(.bool false),zz]),[]⟩,
 zS 23 [.t 5,.t 21]])
 (.seq (.bH [zF 22 5 0,
 zL 23 22,
 zM 24 23,
 bN 25 5 4 24 true,
 bR 26 25 24 true,
 bN 27 5 2 24 true,
 bR 28 27 24 true,
 bt 29 (.bin .lss) [.t 26,.t 28] 24 true,
 zP 30 .pick [.t 24,.t 29,.c (.bool false)],
 zM 31 30,
 cG 32 3 31 true,
 bt 33 (.bin .lss) [.t 32,zI 0] 31 true,
 cG 34 33 31 true,
 bN 35 5 3 34 false,
 bR 36 35 34 false,
 cG 37 0 34 false,
 cG 38 3 34 false,
 wY 39 37 34 false,
 bN 40 39 2 34 false,
 bt 41 (.bT 23 4) [.t 40,.t 38] 34 false,
 bN 42 41 3 34 false,
 bR 43 42 34 false,
 bt 44 (.bin .lss) [.t 36,.t 43] 34 false,
 bt 45 .pick [.t 34,.c (.bool true),.t 44] 31 true,
 zP 46 .pick [.t 31,.t 45,.c (.bool false)]] [[],[],[],[],[],[],[],[],[],[],[],[],[],[],[],[],[],[],[],[],[],[],[],[],[]])
 (.cond (.t 46)
 (.ops [zM 47 4,
 zM 3 47])
 .skip))))
 (.ops [zM 14 4,
 zP 15 (.bin .add) [.t 14,zI 1],
 zM 4 15])))
def Yg:aB:=⟨49,[.tmp 2],
 (.seq (.ops [zV 2 0])
 (.seq (.ops [zV 3 (-1)])
 (.seq (.seq (.ops [zV 4 0])
 (.block 0 (.loop dR)))
 (.seq (.ops [zM 48 3,
 zM 2 48])
 .ret))))⟩
def Yh:aB:=⟨50,[.tmp 4],
 (.seq (.ops [zB 2 0,
 zB 3 1,
 zK 4 (.bool false)])
 (.seq (.seq (.ops [zF 5 3 1,
 zL 6 5])
 (.block 0 (.seq (.ops [zP 8 (.bin .eql) [.t 6,zI 2],
 zM 7 8])
 (.cond (.t 7)
 (.seq (.ops [zF 9 3 5,
 zL 10 9,
 zP 11 (.bin .neq) [.t 10,zI 0],
 zM 12 11,
 bN 13 3 3 12 false,
 bR 14 13 12 false,
 bN 15 2 5 12 false,
 bt 16 (.bT 4 4) [.t 15,.t 14] 12 false,
 bN 17 16 0 12 false,
 bR 18 17 12 false,
 bt 19 .not [.t 18] 12 false,
 zP 20 .pick [.t 12,.c (.bool true),.t 19],
 zM 4 20])
 .ret)
 (.seq (.ops [zP 22 (.bin .eql) [.t 6,zI 1],
 zM 21 22])
 (.cond (.t 21)
 (.seq (.ops [zF 23 3 3,
 zL 24 23,
 zP 25 (.bin .lss) [.t 24,zI 0],
 zM 26 25,
 bN 27 3 3 26 false,
 bR 28 27 26 false,
 bN 29 2 5 26 false,
 bt 30 (.bT 4 4) [.t 29,.t 28] 26 false,
 bN 31 30 0 26 false,
 bR 32 31 26 false,
 zP 33 .pick [.t 26,.c (.bool true),.t 32],
 zM 4 33])
 .ret)
 (.seq (.seq (.ops [zP 35 (.bin .eql) [.t 6,zI 3],
 zM 34 35])
 (.cond (.t 34)
 .skip
 (.seq (.ops [zP 36 (.bin .eql) [.t 6,zI 4],
 zM 34 36])
 (.cond (.t 34)
 .skip
 (.ops [zP 37 (.bin .eql) [.t 6,zI 5],
 zM 34 37])))))
 (.cond (.t 34)
 (.seq (.ops [zF 38 3 3,
 zL 39 38,
 zF 40 2 5,
 zR 41 (.bT 4 4) 40 39,
 zF 42 41 0,
 zL 43 42,
 zM 4 43])
 .ret)
 (.seq (.seq (.ops [zP 45 (.bin .eql) [.t 6,zI 7],
 zM 44 45])
 (.cond (.t 44)
 .skip
 (.ops [zP 46 (.bin .eql) [.t 6,zI 8],
 zM 44 46])))
 (.cond (.t 44)
 (.seq (.ops [zO 47 23 2,
 oU 48 95 47,
 zQ 49 .not 48,
 zM 4 49])
 .ret)
 .skip))))))))))
 (.seq (.ops [zK 4 (.bool true)])
 .ret)))⟩
def Yi:aB:=⟨46,[.tmp 6],
 (.seq (.ops [zB 3 0,
 zB 4 1,
 zB 5 2,
 zK 6 (.bool false)])
 (.seq (.seq (.ops [zF 8 4 1,
 zL 9 8,
 zP 10 (.bin .neq) [.t 9,zI 1],
 zM 11 10,
 bN 12 4 1 11 true,
 bR 13 12 11 true,
 bt 14 (.bin .neq) [.t 13,zI 3] 11 true,
 zP 15 .pick [.t 11,.t 14,.c (.bool false)],
 zM 16 15,
 bN 17 4 1 16 true,
 bR 18 17 16 true,
 bt 19 (.bin .neq) [.t 18,zI 5] 16 true,
 zP 20 .pick [.t 16,.t 19,.c (.bool false)]])
 (.cond (.t 20)
 (.seq (.ops [zK 6 (.bool true)])
 .ret)
 .skip))
 (.seq (.ops [zF 21 4 3,
 zL 22 21,
 zF 23 3 5,
 zR 24 (.bT 4 4) 23 22,
 zO 25 4 24,
 ⟨some 7,none,.a (.alloc [(.bool false),zz,zz,zz]),[]⟩,
 zS 4 [.t 7,.t 25]])
 (.seq (.ops [zF 26 4 0,
 zL 27 26,
 zF 28 7 1,
 zL 29 28,
 zF 30 5 1,
 zL 31 30,
 zR 32 (.bin .add) 29 31,
 zR 33 (.bin .lss) 27 32,
 zM 34 33,
 bN 35 4 1 34 true,
 bR 36 35 34 true,
 bt 37 (.bin .neq) [.t 36,zI 1] 34 true,
 cG 38 37 34 true,
 bN 39 7 2 38 false,
 bR 40 39 38 false,
 bN 41 5 2 38 false,
 bR 42 41 38 false,
 bt 43 (.bin .lss) [.t 40,.t 42] 38 false,
 bt 44 .pick [.t 38,.c (.bool true),.t 43] 34 true,
 zP 45 .pick [.t 34,.t 44,.c (.bool false)],
 zM 6 45])
 .ret))))⟩
def Yj:aB:=⟨82,[.tmp 4],
 (.seq (.ops [zB 3 1,
 zK 4 (.bool false)])
 (.seq (.bH [zM 7 0,
 zF 8 3 2,
 zL 9 8,
 zN 10 7,
 zF 11 10 2,
 zR 12 (.bT 23 4) 11 9,
 zO 13 23 12,
 ⟨some 5,none,.a (.alloc [(.bool false),zz,zz,zz,zz,(.bool false),zz,zz,zz,(.bool false),zz,zz,zz,(.bool false),zz,zz,zz,(.bool false),zz,zz,zz,(.bool false),zz]),[]⟩,
 zS 23 [.t 5,.t 13]] [[],[],[],[],[],[],[],[],[]])
 (.seq (.seq (.ops [zF 14 3 1,
 zL 15 14,
 zP 16 (.bin .eql) [.t 15,zI 1]])
 (.cond (.t 16)
 (.seq (.ops [zF 17 5 21,
 zL 18 17,
 zQ 19 .not 18,
 zM 20 19,
 bN 21 5 22 20 false,
 bR 22 21 20 false,
 bN 23 3 3 20 false,
 bR 24 23 20 false,
 bt 25 (.bin .eql) [.t 22,.t 24] 20 false,
 zP 26 .pick [.t 20,.c (.bool true),.t 25],
 zM 4 26])
 .ret)
 .skip))
 (.seq (.seq (.ops [zF 27 3 1,
 zL 28 27,
 zP 29 (.bin .neq) [.t 28,zI 5],
 zM 30 29,
 bN 31 3 5 30 false,
 bR 32 31 30 false,
 bt 33 (.bin .neq) [.t 32,zI 0] 30 false,
 zP 34 .pick [.t 30,.c (.bool true),.t 33]])
 (.cond (.t 34)
 (.seq (.ops [zK 4 (.bool true)])
 .ret)
 .skip))
 (.seq (.seq (.ops [zF 35 3 4,
 zL 36 35,
 zP 37 (.bin .eql) [.t 36,zI 4]])
 (.cond (.t 37)
 (.seq (.bH [zM 38 0,
 zN 39 38,
 zF 40 39 0,
 zF 41 40 0,
 zL 42 41,
 zF 43 3 2,
 zL 44 43,
 zR 45 (.aE 3) 42 44,
 zF 46 45 2,
 zL 47 46,
 zF 48 3 3,
 zL 49 48,
 zR 50 (.aE 8) 47 49,
 zF 51 50 5,
 zL 52 51,
 zM 6 52] [[],[],[],[],[],[],[],[],[],[],[],[],[],[],[],[]])
 (.seq (.ops [zF 53 5 21,
 zL 54 53,
 zQ 55 .not 54,
 zM 56 55,
 cG 57 6 56 true,
 bt 58 (.bin .gtr) [.t 57,zI 0] 56 true,
 zP 59 .pick [.t 56,.t 58,.c (.bool false)],
 zM 60 59,
 cG 61 0 60 true,
 bN 62 3 2 60 true,
 bR 63 62 60 true,
 cG 64 6 60 true,
 m7 65 96 [.t 61,.t 63,.t 64] 60 true,
 bt 66 .not [.t 65] 60 true,
 zP 67 .pick [.t 60,.t 66,.c (.bool false)],
 zM 4 67])
 .ret))
 .skip))
 (.seq (.ops [zF 68 3 4,
 zL 69 68,
 zP 70 (.bin .neq) [.t 69,zI 5],
 zM 71 70,
 bN 72 5 21 71 false,
 bR 73 72 71 false,
 cG 74 73 71 false,
 bN 75 5 22 74 true,
 bR 76 75 74 true,
 bN 77 3 3 74 true,
 bR 78 77 74 true,
 bt 79 (.bin .eql) [.t 76,.t 78] 74 true,
 bt 80 .pick [.t 74,.t 79,.c (.bool false)] 71 false,
 zP 81 .pick [.t 71,.c (.bool true),.t 80],
 zM 4 81])
 .ret))))))⟩
def Yk:aB:=⟨91,[],
 (.seq (.ops [zB 3 1])
 (.seq (.bH [zM 7 0,
 zF 8 3 2,
 zL 9 8,
 zN 10 7,
 zF 11 10 2,
 zR 12 (.bT 23 4) 11 9,
 zO 13 23 12,
 ⟨some 4,none,.a (.alloc [(.bool false),zz,zz,zz,zz,(.bool false),zz,zz,zz,(.bool false),zz,zz,zz,(.bool false),zz,zz,zz,(.bool false),zz,zz,zz,(.bool false),zz]),[]⟩,
 zS 23 [.t 4,.t 13]] [[],[],[],[],[],[],[],[],[]])
 (.seq (.seq (.ops [zF 14 3 1,
 zL 15 14])
 (.block 0 (.seq (.ops [zP 17 (.bin .eql) [.t 15,zI 6],
 zM 16 17])
 (.cond (.t 16)
 (.seq (.bH [zM 18 0,
 zN 19 18,
 zF 20 19 0,
 zF 21 20 0,
 zL 22 21,
 zF 23 3 2,
 zL 24 23,
 zR 25 (.aE 3) 22 24,
 zO 26 3 25,
 ⟨some 5,none,.a (.alloc [zz,zz,.aD]),[]⟩,
 zS 3 [.t 5,.t 26]] [[],[],[],[],[],[],[],[],[],[],[]])
 (.ops [zF 27 5 0,
 zL 28 27,
 zF 29 5 1,
 zL 30 29,
 zF 31 3 0,
 zL 32 31,
 zF 33 5 0,
 zL 34 33,
 zR 35 (.bin .add) 32 34,
 zP 36 (.build [(.bool false),zz,zz,zz,zz,(.bool false),zz,zz,zz,(.bool false),zz,zz,zz,(.bool false),zz,zz,zz,(.bool false),zz,zz,zz,(.bool false),zz] [(0,1),(1,1),(2,1),(3,1)]) [.c (.bool true),.t 28,.t 30,.t 35],
 zS 23 [.t 4,.t 36]]))
 (.seq (.ops [zP 38 (.bin .eql) [.t 15,zI 7],
 zM 37 38])
 (.cond (.t 37)
 (.seq (.ops [zP 39 (.build [(.bool false),zz,zz,zz,zz,(.bool false),zz,zz,zz,(.bool false),zz,zz,zz,(.bool false),zz,zz,zz,(.bool false),zz,zz,zz,(.bool false),zz] []) [],
 zS 23 [.t 4,.t 39]])
 (.ops [zM 40 0,
 zN 41 40,
 zF 42 41 96,
 zS 1 [.t 42,.c (.bool true)]]))
 (.seq (.ops [zP 44 (.bin .eql) [.t 15,zI 8],
 zM 43 44])
 (.cond (.t 43)
 (.seq (.ops [zF 45 3 4,
 zL 46 45,
 zP 47 (.bin .quo) [.t 46,zI 100],
 zF 48 4 1,
 zS 1 [.t 48,.t 47]])
 (.seq (.ops [zF 49 3 4,
 zL 50 49,
 zP 51 (.bin .rem) [.t 50,zI 100],
 zF 52 4 2,
 zS 1 [.t 52,.t 51]])
 (.seq (.ops [zF 53 4 4,
 zS 1 [.t 53,zI 0]])
 (.seq (.ops [zF 54 3 0,
 zL 55 54,
 zF 56 4 1,
 zL 57 56,
 zR 58 (.bin .add) 55 57,
 zF 59 4 3,
 zS 1 [.t 59,.t 58]])
 (.seq (.bH [zM 60 0,
 zN 61 60,
 zF 62 61 0,
 zF 63 62 0,
 zL 64 63,
 zF 65 3 2,
 zL 66 65,
 zR 67 (.aE 3) 64 66,
 zO 68 3 67,
 ⟨some 6,none,.a (.alloc [zz,zz,.aD]),[]⟩,
 zS 3 [.t 6,.t 68]] [[],[],[],[],[],[],[],[],[],[],[]])
 (.seq (.ops [zF 69 4 1,
 zL 70 69,
 zF 71 6 0,
 zS 1 [.t 71,.t 70]])
 (.seq (.ops [zF 72 4 2,
 zL 73 72,
 zF 74 6 1,
 zS 1 [.t 74,.t 73]])
 (.bH [zM 75 0,
 zN 76 75,
 zF 77 76 0,
 zF 78 77 0,
 zL 79 78,
 zF 80 3 2,
 zL 81 80,
 zO 82 3 6,
 zR 83 (.aE 3) 79 81,
 zS 3 [.t 83,.t 82]] [[],[],[],[],[],[],[],[],[],[]]))))))))
 .skip))))))))
 (.bH [zM 84 0,
 zF 85 3 2,
 zL 86 85,
 zO 87 23 4,
 zN 88 84,
 zF 89 88 2,
 zR 90 (.bT 23 4) 89 86,
 zS 23 [.t 90,.t 87]] [[],[],[],[],[],[],[],[]]))))⟩
def Yl:aB:=⟨6,[.cell 0 2 true],
 (.seq (.ops [⟨some 0,none,.a (.alloc [.aD,.aD]),[]⟩])
 (.seq (.ops [zP 1 (.build [zz,zz,zz,zz,zz,zz,zz,zz] [(0,1),(1,1),(2,1)]) [zI 8,zI 8,zI 2],
 ⟨some 2,none,.a (.bX [zz,zz,zz,zz,zz,zz,zz,zz] 1 8 [0]),[.t 1]⟩,
 zP 3 (.build [zz,zz,.aD] [(0,1),(1,1),(2,1)]) [zI 4,zI 2,.t 2],
 ⟨some 4,none,.a (.bX [zz,zz,.aD] 1 3 [0]),[.t 3]⟩,
 zQ 5 (.build [.aD,.aD] [(0,1)]) 4,
 zS 2 [.t 0,.t 5]])
 .ret))⟩
def tK:AC:=(.seq (.ops [zR 15 (.bin .lss) 14 13])
 (.seq (.cond (.t 15)
 .skip
 (.exit 0))
 (.seq (.block 1 (.seq (.ops [zR 16 (.aE 3) 12 14,
 zO 17 3 16,
 ⟨some 6,none,.a (.alloc [zz,zz,.aD]),[]⟩,
 zS 3 [.t 6,.t 17]])
 (.seq (.seq (.ops [zF 18 6 0,
 zL 19 18,
 zP 20 (.bin .gtr) [.t 19,zI 64],
 zM 21 20,
 bN 22 6 1 21 false,
 bR 23 22 21 false,
 bt 24 (.bin .lss) [.t 23,zI 1] 21 false,
 zP 25 .pick [.t 21,.c (.bool true),.t 24],
 zM 26 25,
 bN 27 6 1 26 false,
 bR 28 27 26 false,
 bN 29 6 0 26 false,
 bR 30 29 26 false,
 bt 31 (.bin .gtr) [.t 28,.t 30] 26 false,
 zP 32 .pick [.t 26,.c (.bool true),.t 31]])
 (.cond (.t 32)
 (.seq (.ops [zO 33 2 4,
 zS 2 [.t 2,.t 33],
 zK 3 (.bool false)])
 .ret)
 .skip))
 (.ops [zO 34 2 4,
 zF 35 6 1,
 zL 36 35,
 zF 37 6 0,
 zL 38 37,
 zR 39 (.build [zz,zz] [(0,1),(1,1)]) 36 38,
 jx 40 97 34 39,
 zS 2 [.t 4,.t 40]]))))
 (.ops [zP 41 (.bin .add) [.t 14,zI 1],
 zM 14 41]))))
def Ug:aB:=⟨43,[.cell 2 2 true,.tmp 3],
 (.seq (.ops [⟨some 2,none,.a (.alloc [zz,zz]),[]⟩,
 zK 3 (.bool false)])
 (.seq (.ops [zP 7 (.build [zz,zz] [(0,1),(1,1)]) [zI 0,zI 1],
 ⟨some 4,none,.a (.alloc [zz,zz]),[]⟩,
 zS 2 [.t 4,.t 7]])
 (.seq (.seq (.ops [zM 8 0,
 zQ 9 .bO 8,
 zP 10 (.bin .gtr) [.t 9,zI 4]])
 (.cond (.t 10)
 (.seq (.ops [zO 11 2 4,
 zS 2 [.t 2,.t 11],
 zK 3 (.bool false)])
 .ret)
 .skip))
 (.seq (.seq (.ops [zM 12 0,
 zQ 13 .bO 12,
 zV 14 0])
 (.block 0 (.loop tK)))
 (.seq (.ops [zO 42 2 4,
 zS 2 [.t 2,.t 42],
 zK 3 (.bool true)])
 .ret)))))⟩
def ZD:aB:=⟨13,[.tmp 4],
 (.seq (.ops [zK 4 (.bool false)])
 (.seq (.ops [zM 5 1,
 zP 6 (.bin .geq) [.t 5,zI 0],
 zM 7 6,
 cG 8 1 7 true,
 cG 9 0 7 true,
 bt 10 .bO [.t 9] 7 true,
 bt 11 (.bin .lss) [.t 8,.t 10] 7 true,
 zP 12 .pick [.t 7,.t 11,.c (.bool false)],
 zM 4 12])
 .ret))⟩
def An:AC:=(.seq (.ops [zR 21 (.bin .lss) 20 19])
 (.seq (.cond (.t 21)
 .skip
 (.exit 0))
 (.seq (.block 1 (.seq (.ops [zM 22 20,
 zM 9 22])
 (.seq (.ops [zM 23 8,
 zM 24 9,
 zP 25 (.bin .add) [.t 24,zI 1],
 ⟨some 26,none,.call,[.t 23,.t 25]⟩])
 (.cond (.t 26)
 (.seq (.ops [zM 27 9,
 zP 28 (.bin .add) [.t 27,zI 1],
 zM 6 28])
 .ret)
 .skip))))
 (.ops [zP 29 (.bin .add) [.t 20,zI 1],
 zM 20 29]))))
def ZE:aB:=⟨30,[.tmp 6],
 (.seq (.ops [zB 4 1,
 zV 6 0])
 (.seq (.ops [zM 10 0,
 oU 11 42 10,
 ⟨some 7,none,.a (.alloc [.aD]),[]⟩,
 zS 1 [.t 7,.t 11]])
 (.seq (.ops [zL 12 7,
 zL 13 4,
 zM 14 2,
 zR 15 (.aE 3) 12 13,
 zF 16 15 0,
 zS 1 [.t 16,.t 14]])
 (.seq (.ops [zR 17 (.gJ (.func 98) 0) 7 4,
 zM 8 17])
 (.seq (.seq (.ops [zM 18 2,
 zP 19 .mn [.t 18,zI 64],
 zV 20 0])
 (.block 0 (.loop An)))
 (.seq (.ops [zV 6 0])
 .ret))))))⟩
def iJ:AC:=(.seq (.ops [zR 9 (.bin .lss) 8 7])
 (.seq (.cond (.t 9)
 .skip
 (.exit 0))
 (.seq (.block 1 (.seq (.ops [zM 10 8,
 zM 5 10])
 (.seq (.ops [zM 11 1,
 zM 12 0,
 zM 13 5,
 zR 14 (.aE 3) 12 13,
 zO 15 3 14,
 ⟨some 16,none,.call,[.t 11,.t 15]⟩])
 (.cond (.t 16)
 (.seq (.ops [zM 17 5,
 zM 4 17])
 .ret)
 .skip))))
 (.ops [zP 18 (.bin .add) [.t 8,zI 1],
 zM 8 18]))))
def UJ:aB:=⟨19,[.tmp 4],
 (.seq (.ops [zV 4 0])
 (.seq (.seq (.ops [zM 6 0,
 zQ 7 .bO 6,
 zV 8 0])
 (.block 0 (.loop iJ)))
 (.seq (.ops [zV 4 (-1)])
 .ret)))⟩
def Ym:aB:=⟨9,[.tmp 4],
 (.seq (.ops [zK 4 (.bool false)])
 (.seq (.ops [zM 5 0,
 zM 6 1,
 jx 7 100 5 6,
 zP 8 (.bin .geq) [.t 7,zI 0],
 zM 4 8])
 .ret))⟩
def Yn:aB:=⟨9,[.tmp 3],
 (.seq (.ops [zB 2 0,
 zK 3 (.bool false)])
 (.seq (.ops [zO 4 8 2,
 zF 5 1 1,
 zL 6 5,
 jx 7 82 4 6,
 zQ 8 .not 7,
 zM 3 8])
 .ret))⟩
def Yo:aB:=⟨86,[.tmp 4],
 (.seq (.ops [zB 2 0,
 zK 4 (.bool false)])
 (.seq (.ops [zF 6 2 0,
 zL 7 6,
 zC 8 62 [.t 7,zI 1,zI 64],
 zM 9 8,
 bN 10 2 1 9 true,
 bR 11 10 9 true,
 bN 12 2 0 9 true,
 bR 13 12 9 true,
 m7 14 62 [.t 11,zI 1,.t 13] 9 true,
 zP 15 .pick [.t 9,.t 14,.c (.bool false)],
 zM 16 15,
 bN 17 2 2 16 true,
 bR 18 17 16 true,
 bN 19 2 1 16 true,
 bR 20 19 16 true,
 m7 21 62 [.t 18,zI 1,.t 20] 16 true,
 zP 22 .pick [.t 16,.t 21,.c (.bool false)],
 zM 5 22])
 (.seq (.seq (.ops [zM 23 5,
 zQ 24 .not 23,
 zM 25 24,
 bN 26 2 3 25 false,
 bR 27 26 25 false,
 m7 28 62 [.t 27,zI 0,zI 255] 25 false,
 bt 29 .not [.t 28] 25 false,
 zP 30 .pick [.t 25,.c (.bool true),.t 29],
 zM 31 30,
 bN 32 2 5 31 false,
 bR 33 32 31 false,
 m7 34 62 [.t 33,zI 0,zI 4] 31 false,
 bt 35 .not [.t 34] 31 false,
 zP 36 .pick [.t 31,.c (.bool true),.t 35]])
 (.cond (.t 36)
 (.seq (.ops [zK 4 (.bool false)])
 .ret)
 .skip))
 (.seq (.seq (.ops [zF 37 2 3,
 zL 38 37,
 zP 39 (.bin .eql) [.t 38,zI 0],
 zM 40 39,
 bN 41 2 4 40 true,
 bR 42 41 40 true,
 bt 43 (.bin .neq) [.t 42,zI 0] 40 true,
 zP 44 .pick [.t 40,.t 43,.c (.bool false)],
 zM 45 44,
 bN 46 2 3 45 false,
 bR 47 46 45 false,
 bt 48 (.bin .neq) [.t 47,zI 0] 45 false,
 cG 49 48 45 false,
 bN 50 2 4 49 true,
 bR 51 50 49 true,
 bN 52 2 2 49 true,
 bR 53 52 49 true,
 m7 54 62 [.t 51,zI 1,.t 53] 49 true,
 bt 55 .not [.t 54] 49 true,
 bt 56 .pick [.t 49,.t 55,.c (.bool false)] 45 false,
 zP 57 .pick [.t 45,.c (.bool true),.t 56]])
 (.cond (.t 57)
 (.seq (.ops [zK 4 (.bool false)])
 .ret)
 .skip))
 (.seq (.seq (.ops [zF 58 2 5,
 zL 59 58,
 zP 60 (.bin .eql) [.t 59,zI 0]])
 (.cond (.t 60)
 (.seq (.ops [zF 61 2 6,
 zL 62 61,
 zP 63 (.bin .eql) [.t 62,zI 0],
 zM 64 63,
 bN 65 2 7 64 true,
 bR 66 65 64 true,
 bt 67 (.bin .eql) [.t 66,zI 0] 64 true,
 zP 68 .pick [.t 64,.t 67,.c (.bool false)],
 zM 4 68])
 .ret)
 .skip))
 (.seq (.bH [zF 69 2 6,
 zL 70 69,
 zM 71 1,
 zF 72 2 2,
 zL 73 72,
 zR 74 .mn 71 73,
 zC 75 62 [.t 70,zI 1,.t 74],
 zM 76 75,
 bN 77 2 7 76 true,
 bR 78 77 76 true,
 bN 79 2 2 76 true,
 bR 80 79 76 true,
 bN 81 2 6 76 true,
 bR 82 81 76 true,
 bt 83 (.bin .quo) [.t 80,.t 82] 76 true,
 m7 84 62 [.t 78,zI 1,.t 83] 76 true,
 zP 85 .pick [.t 76,.t 84,.c (.bool false)],
 zM 4 85] [[],[],[],[],[],[],[],[],[],[],[],[],[],[],[],[],[],[]])
 .ret))))))⟩
def iK:AC:=(.seq (.ops [zR 9 (.bin .lss) 8 7])
 (.seq (.cond (.t 9)
 .skip
 (.exit 0))
 (.seq (.block 1 (.seq (.ops [zM 10 8,
 zM 5 10])
 (.seq (.ops [zM 11 1,
 zM 12 0,
 zM 13 5,
 zR 14 (.aE 6) 12 13,
 zO 15 6 14,
 ⟨some 16,none,.call,[.t 11,.t 15]⟩])
 (.cond (.t 16)
 (.seq (.ops [zM 17 5,
 zM 4 17])
 .ret)
 .skip))))
 (.ops [zP 18 (.bin .add) [.t 8,zI 1],
 zM 8 18]))))
def UK:aB:=⟨19,[.tmp 4],
 (.seq (.ops [zV 4 0])
 (.seq (.seq (.ops [zM 6 0,
 zQ 7 .bO 6,
 zV 8 0])
 (.block 0 (.loop iK)))
 (.seq (.ops [zV 4 (-1)])
 .ret)))⟩
def Yp:aB:=⟨8,[],
 (.seq (.ops [zM 4 0,
 zQ 5 .not 4])
 (.cond (.t 5)
 (.ops [zM 6 1,
 zQ 7 (.vo 115) 6,
 ⟨none,none,.panic,[.t 7]⟩])
 .skip))⟩
def Yq:aB:=⟨81,[.tmp 4],
 (.seq (.ops [zB 3 1,
 zK 4 (.bool false)])
 (.seq (.seq (.bH [zF 5 3 0,
 zL 6 5,
 zM 7 0,
 zN 8 7,
 zF 9 8 95,
 zL 10 9,
 zR 11 (.bin .lss) 6 10,
 zM 12 11,
 bN 13 3 0 12 false,
 bR 14 13 12 false,
 cG 15 0 12 false,
 wY 16 15 12 false,
 bN 17 16 94 12 false,
 bR 18 17 12 false,
 bt 19 (.bin .gtr) [.t 14,.t 18] 12 false,
 zP 20 .pick [.t 12,.c (.bool true),.t 19],
 zM 21 20,
 bN 22 3 1 21 false,
 bR 23 22 21 false,
 bt 24 (.bin .lss) [.t 23,zI 1] 21 false,
 zP 25 .pick [.t 21,.c (.bool true),.t 24],
 zM 26 25,
 bN 27 3 1 26 false,
 bR 28 27 26 false,
 bt 29 (.bin .gtr) [.t 28,zI 8] 26 false,
 zP 30 .pick [.t 26,.c (.bool true),.t 29],
 zM 31 30,
 bN 32 3 2 31 false,
 bR 33 32 31 false,
 bt 34 (.bin .lss) [.t 33,zI 0] 31 false,
 zP 35 .pick [.t 31,.c (.bool true),.t 34],
 zM 36 35,
 bN 37 3 2 36 false,
 bR 38 37 36 false,
 cG 39 0 36 false,
 wY 40 39 36 false,
 bN 41 40 0 36 false,
 bN 42 41 0 36 false,
 bR 43 42 36 false,
 bt 44 .bO [.t 43] 36 false,
 bt 45 (.bin .geq) [.t 38,.t 44] 36 false,
 zP 46 .pick [.t 36,.c (.bool true),.t 45]] [[],[],[],[],[],[],[],[],[],[],[],[],[],[],[],[],[],[],[],[],[],[],[],[],[],[],[],[],[],[],[],[],[],[],[],[],[],[],[],[],[],[]])
 (.cond (.t 46)
 (.seq (.ops [zK 4 (.bool false)])
 .ret)
 .skip))
 (.seq (.seq (.ops [zO 47 7 3,
 oU 48 88 47])
 (.cond (.t 48)
 (.seq (.ops [zF 49 3 3,
 zL 50 49,
 zP 51 (.bin .eql) [.t 50,zI 0],
 zM 4 51])
 .ret)
 .skip))
 (.seq (.bH [zF 52 3 3,
 zL 53 52,
 zP 54 (.bin .geq) [.t 53,zI 0],
 zM 55 54,
 bN 56 3 3 55 false,
 bR 57 56 55 false,
 bt 58 (.bin .eql) [.t 57,zI (-1)] 55 false,
 cG 59 58 55 false,
 bN 60 3 1 59 true,
 bR 61 60 59 true,
 bt 62 (.bin .eql) [.t 61,zI 1] 59 true,
 bt 63 .pick [.t 59,.t 62,.c (.bool false)] 55 false,
 zP 64 .pick [.t 55,.c (.bool true),.t 63],
 zM 65 64,
 bN 66 3 3 65 true,
 bR 67 66 65 true,
 cG 68 0 65 true,
 wY 69 68 65 true,
 bN 70 69 0 65 true,
 bN 71 70 0 65 true,
 bR 72 71 65 true,
 bN 73 3 2 65 true,
 bR 74 73 65 true,
 bt 75 (.aE 3) [.t 72,.t 74] 65 true,
 bN 76 75 2 65 true,
 bR 77 76 65 true,
 bt 78 .bO [.t 77] 65 true,
 bt 79 (.bin .lss) [.t 67,.t 78] 65 true,
 zP 80 .pick [.t 65,.t 79,.c (.bool false)],
 zM 4 80] [[],[],[],[],[],[],[],[],[],[],[],[],[],[],[],[],[],[],[],[],[],[],[],[],[],[],[],[],[],[]])
 .ret))))⟩
def iI:AC:=(.seq (.ops [zR 10 (.bin .lss) 9 8])
 (.seq (.cond (.t 10)
 .skip
 (.exit 0))
 (.seq (.block 1 (.seq (.ops [zM 11 9,
 zM 4 11])
 (.seq (.ops [zM 12 0,
 zM 13 4,
 zN 14 12,
 zF 15 14 2,
 zR 16 (.bT 23 4) 15 13,
 zM 5 16])
 (.seq (.bH [zM 17 5,
 oU 18 102 17,
 zM 19 18,
 cG 20 3 19 true,
 bt 21 (.bin .eql) [.t 20,zI (-1)] 19 true,
 cG 22 21 19 true,
 cG 23 5 22 false,
 wY 24 23 22 false,
 bN 25 24 3 22 false,
 bR 26 25 22 false,
 cG 27 0 22 false,
 cG 28 3 22 false,
 wY 29 27 22 false,
 bN 30 29 2 22 false,
 bt 31 (.bT 23 4) [.t 30,.t 28] 22 false,
 bN 32 31 3 22 false,
 bR 33 32 22 false,
 bt 34 (.bin .lss) [.t 26,.t 33] 22 false,
 bt 35 .pick [.t 22,.c (.bool true),.t 34] 19 true,
 zP 36 .pick [.t 19,.t 35,.c (.bool false)]] [[],[],[],[],[],[],[],[],[],[],[],[],[],[],[],[],[],[],[],[]])
 (.cond (.t 36)
 (.ops [zM 37 4,
 zM 3 37])
 .skip)))))
 (.ops [zP 38 (.bin .add) [.t 9,zI 1],
 zM 9 38]))))
def Yr:aB:=⟨40,[.tmp 2],
 (.seq (.ops [zV 2 0])
 (.seq (.ops [zV 3 (-1)])
 (.seq (.seq (.ops [zM 6 0,
 oU 7 101 6,
 zQ 8 .bO 7,
 zV 9 0])
 (.block 0 (.loop iI)))
 (.seq (.ops [zM 39 3,
 zM 2 39])
 .ret))))⟩
def Ys:aB:=⟨54,[.tmp 4],
 (.seq (.ops [zB 3 1,
 zK 4 (.bool false)])
 (.seq (.block 0 (.seq (.ops [zF 6 3 1,
 zL 7 6,
 zP 8 (.bin .eql) [.t 7,zI 7],
 zM 9 8,
 bN 10 3 1 9 false,
 bR 11 10 9 false,
 bt 12 (.bin .eql) [.t 11,zI 8] 9 false,
 zP 13 .pick [.t 9,.c (.bool true),.t 12],
 zM 5 13])
 (.cond (.t 5)
 (.seq (.ops [zM 14 0,
 zN 15 14,
 zF 16 15 5,
 zQ 17 (.iY 4 4 false false false) 16,
 zC 18 103 [.t 17,.c (.func (.func 104) [] [])],
 zQ 19 .not 18,
 zM 4 19])
 .ret)
 (.seq (.ops [zF 21 3 1,
 zL 22 21,
 zP 23 (.bin .eql) [.t 22,zI 2],
 zM 20 23])
 (.cond (.t 20)
 (.seq (.bH [zF 24 3 5,
 zL 25 24,
 zP 26 (.bin .neq) [.t 25,zI 0],
 zM 27 26,
 cG 28 0 27 false,
 bN 29 3 3 27 false,
 bR 30 29 27 false,
 wY 31 28 27 false,
 bN 32 31 5 27 false,
 bt 33 (.bT 4 4) [.t 32,.t 30] 27 false,
 bN 34 33 0 27 false,
 bR 35 34 27 false,
 bt 36 .not [.t 35] 27 false,
 zP 37 .pick [.t 27,.c (.bool true),.t 36],
 zM 4 37] [[],[],[],[],[],[],[],[],[],[],[],[],[],[],[]])
 .ret)
 (.seq (.ops [zO 39 7 3,
 oU 40 88 39,
 zM 41 40,
 bN 42 3 3 41 false,
 bR 43 42 41 false,
 bt 44 (.bin .eql) [.t 43,zI (-1)] 41 false,
 zP 45 .pick [.t 41,.c (.bool true),.t 44],
 zM 38 45])
 (.cond (.t 38)
 (.seq (.ops [zK 4 (.bool true)])
 .ret)
 .skip)))))))
 (.seq (.bH [zM 46 0,
 zF 47 3 3,
 zL 48 47,
 zN 49 46,
 zF 50 49 5,
 zR 51 (.bT 4 4) 50 48,
 zF 52 51 0,
 zL 53 52,
 zM 4 53] [[],[],[],[],[],[],[],[],[]])
 .ret)))⟩
def Yt:aB:=⟨16,[.tmp 2],
 (.seq (.ops [zB 1 0,
 zK 2 (.bool false)])
 (.seq (.ops [zF 3 1 1,
 zL 4 3,
 zP 5 (.bin .eql) [.t 4,zI 6],
 zM 6 5,
 bN 7 1 1 6 false,
 bR 8 7 6 false,
 bt 9 (.bin .eql) [.t 8,zI 7] 6 false,
 zP 10 .pick [.t 6,.c (.bool true),.t 9],
 zM 11 10,
 bN 12 1 1 11 false,
 bR 13 12 11 false,
 bt 14 (.bin .eql) [.t 13,zI 8] 11 false,
 zP 15 .pick [.t 11,.c (.bool true),.t 14],
 zM 2 15])
 .ret))⟩
def Yu:aB:=⟨71,[],
 (.seq (.ops [zB 5 2])
 (.seq (.bH [zM 7 0,
 zN 8 7,
 zF 9 8 0,
 zF 10 9 0,
 zL 11 10,
 zF 12 5 2,
 zL 13 12,
 zR 14 (.aE 3) 11 13,
 zM 6 14] [[],[],[],[],[],[],[],[],[]])
 (.seq (.seq (.ops [zF 15 5 1,
 zL 16 15])
 (.block 0 (.seq (.ops [zP 18 (.bin .eql) [.t 16,zI 7],
 zM 17 18])
 (.cond (.t 17)
 (.seq (.ops [zM 19 1,
 zP 20 (.build [(.bool false),zz,zz,zz,zz,(.bool false),zz,zz,zz,(.bool false),zz,zz,zz,(.bool false),zz,zz,zz,(.bool false),zz,zz,zz,(.bool false),zz] []) [],
 zN 21 19,
 zS 23 [.t 21,.t 20]])
 (.seq (.ops [zM 22 0,
 zN 23 22,
 zF 24 23 97,
 zS 1 [.t 24,.c (.bool true)]])
 .ret))
 (.seq (.ops [zP 26 (.bin .eql) [.t 16,zI 6],
 zM 25 26])
 (.cond (.t 25)
 (.ops [zM 27 1,
 zP 28 (.build [(.bool false),zz,zz,zz,zz,(.bool false),zz,zz,zz,(.bool false),zz,zz,zz,(.bool false),zz,zz,zz,(.bool false),zz,zz,zz,(.bool false),zz] [(0,1)]) [.c (.bool true)],
 zN 29 27,
 zS 23 [.t 29,.t 28]])
 (.seq (.ops [zP 31 (.bin .eql) [.t 16,zI 8],
 zM 30 31])
 (.cond (.t 30)
 (.bH [zM 32 6,
 zM 33 6,
 zF 34 5 4,
 zL 35 34,
 zP 36 (.bin .quo) [.t 35,zI 100],
 zF 37 5 4,
 zL 38 37,
 zP 39 (.bin .rem) [.t 38,zI 100],
 zN 40 32,
 zF 41 40 0,
 zS 1 [.t 41,.t 36],
 zN 42 33,
 zF 43 42 1,
 zS 1 [.t 43,.t 39]] [[],[],[],[],[],[],[0,11],[],[],[],[],[],[],[]])
 .skip))))))))
 (.seq (.bH [zM 44 1,
 zM 45 1,
 zM 46 6,
 zN 47 46,
 zF 48 47 0,
 zL 49 48,
 zM 50 6,
 zN 51 50,
 zF 52 51 1,
 zL 53 52,
 zN 54 44,
 zF 55 54 1,
 zS 1 [.t 55,.t 49],
 zN 56 45,
 zF 57 56 2,
 zS 1 [.t 57,.t 53]] [[],[],[],[],[],[],[],[],[],[],[],[],[],[],[],[]])
 (.bH [zM 58 1,
 zM 59 1,
 zF 60 5 0,
 zL 61 60,
 zM 62 6,
 zN 63 62,
 zF 64 63 0,
 zL 65 64,
 zR 66 (.bin .add) 61 65,
 zN 67 58,
 zF 68 67 4,
 zS 1 [.t 68,zI 0],
 zN 69 59,
 zF 70 69 3,
 zS 1 [.t 70,.t 66]] [[],[],[],[0,12],[],[],[],[],[],[],[],[],[],[],[]])))))⟩
def Yv:aB:=⟨53,[],
 (.seq (.ops [zB 4 1,
 zB 5 2])
 (.seq (.bH [zM 7 0,
 zF 8 4 3,
 zL 9 8,
 zN 10 7,
 zF 11 10 5,
 zR 12 (.bT 4 4) 11 9,
 zO 13 4 12,
 ⟨some 6,none,.a (.alloc [(.bool false),zz,zz,zz]),[]⟩,
 zS 4 [.t 6,.t 13]] [[],[],[],[],[],[],[],[],[]])
 (.seq (.seq (.ops [zF 14 4 1,
 zL 15 14,
 zP 16 (.bin .eql) [.t 15,zI 2]])
 (.cond (.t 16)
 (.seq (.ops [zF 17 4 5,
 zL 18 17,
 zP 19 (.bin .neq) [.t 18,zI 0],
 zM 20 19,
 bN 21 4 0 20 false,
 bR 22 21 20 false,
 bN 23 6 3 20 false,
 bR 24 23 20 false,
 bt 25 (.bin .geq) [.t 22,.t 24] 20 false,
 zP 26 .pick [.t 20,.c (.bool true),.t 25],
 ⟨some 27,none,.call,[.c (.func (.func 84) [] []),.t 26,zI 6]⟩])
 .ret)
 .skip))
 (.seq (.ops [zF 28 4 1,
 zL 29 28,
 zP 30 (.bin .eql) [.t 29,zI 4],
 zM 31 30,
 bN 32 4 0 31 false,
 bR 33 32 31 false,
 bN 34 6 1 31 false,
 bR 35 34 31 false,
 bN 36 5 1 31 false,
 bR 37 36 31 false,
 bt 38 (.bin .add) [.t 35,.t 37] 31 false,
 bt 39 (.bin .lss) [.t 33,.t 38] 31 false,
 zP 40 .pick [.t 31,.c (.bool true),.t 39],
 ⟨some 41,none,.call,[.c (.func (.func 84) [] []),.t 40,zI 7]⟩])
 (.ops [zF 42 4 1,
 zL 43 42,
 zP 44 (.bin .neq) [.t 43,zI 1],
 zM 45 44,
 bN 46 6 2 45 false,
 bR 47 46 45 false,
 bN 48 5 2 45 false,
 bR 49 48 45 false,
 bt 50 (.bin .lss) [.t 47,.t 49] 45 false,
 zP 51 .pick [.t 45,.c (.bool true),.t 50],
 ⟨some 52,none,.call,[.c (.func (.func 84) [] []),.t 51,zI 7]⟩])))))⟩
def ig:AC:=(.seq (.ops [zR 82 (.bin .lss) 81 80])
 (.seq (.cond (.t 82)
 .skip
 (.exit 1))
 (.seq (.block 2 (.seq (.ops [zM 83 81,
 zR 84 (.aE 23) 79 81,
 zO 85 23 84,
 ⟨some 8,none,.a (.alloc [(.bool false),zz,zz,zz,zz,(.bool false),zz,zz,zz,(.bool false),zz,zz,zz,(.bool false),zz,zz,zz,(.bool false),zz,zz,zz,(.bool false),zz]),[]⟩,
 zM 7 83,
 zS 23 [.t 8,.t 85]])
 (.seq (.bH [zM 86 7,
 zF 87 3 2,
 zL 88 87,
 zR 89 (.bin .neq) 86 88,
 zM 90 89,
 bN 91 8 21 90 true,
 bR 92 91 90 true,
 zP 93 .pick [.t 90,.t 92,.c (.bool false)],
 zM 94 93,
 cG 95 0 94 true,
 wY 96 95 94 true,
 bN 97 96 0 94 true,
 bN 98 97 0 94 true,
 bR 99 98 94 true,
 cG 100 7 94 true,
 bt 101 (.aE 3) [.t 99,.t 100] 94 true,
 bN 102 101 2 94 true,
 bR 103 102 94 true,
 bN 104 8 22 94 true,
 bR 105 104 94 true,
 bt 106 (.aE 8) [.t 103,.t 105] 94 true,
 bN 107 106 5 94 true,
 bR 108 107 94 true,
 cG 109 6 94 true,
 bt 110 (.bin .eql) [.t 108,.t 109] 94 true,
 zP 111 .pick [.t 94,.t 110,.c (.bool false)]] [[],[],[],[],[],[],[],[],[],[],[],[],[],[],[],[],[],[],[],[],[],[],[],[],[],[]])
 (.cond (.t 111)
 (.seq (.ops [zK 4 (.bool false)])
 .ret)
 .skip))))
 (.ops [zP 112 (.bin .add) [.t 81,zI 1],
 zM 81 112]))))
def Yw:aB:=⟨122,[.tmp 4],
 (.seq (.ops [zB 3 1,
 zK 4 (.bool false)])
 (.seq (.bH [zM 9 0,
 zF 10 3 2,
 zL 11 10,
 zN 12 9,
 zF 13 12 2,
 zR 14 (.bT 23 4) 13 11,
 zM 5 14] [[],[],[],[],[],[],[]])
 (.seq (.block 0 (.seq (.ops [zF 16 3 1,
 zL 17 16,
 zP 18 (.bin .eql) [.t 17,zI 1],
 zM 15 18])
 (.cond (.t 15)
 (.seq (.bH [zM 19 5,
 zN 20 19,
 zF 21 20 21,
 zL 22 21,
 zQ 23 .not 22,
 zM 24 23,
 cG 25 5 24 false,
 wY 26 25 24 false,
 bN 27 26 22 24 false,
 bR 28 27 24 false,
 bN 29 3 3 24 false,
 bR 30 29 24 false,
 bt 31 (.bin .eql) [.t 28,.t 30] 24 false,
 zP 32 .pick [.t 24,.c (.bool true),.t 31],
 zM 4 32] [[],[],[],[],[],[],[],[],[],[],[],[],[],[],[]])
 .ret)
 (.seq (.ops [zF 34 3 1,
 zL 35 34,
 zP 36 (.bin .neq) [.t 35,zI 5],
 zM 37 36,
 bN 38 3 5 37 false,
 bR 39 38 37 false,
 bt 40 (.bin .neq) [.t 39,zI 0] 37 false,
 zP 41 .pick [.t 37,.c (.bool true),.t 40],
 zM 33 41])
 (.cond (.t 33)
 (.seq (.ops [zK 4 (.bool true)])
 .ret)
 (.seq (.ops [zF 43 3 4,
 zL 44 43,
 zP 45 (.bin .eql) [.t 44,zI 5],
 zM 42 45])
 (.cond (.t 42)
 (.seq (.bH [zM 46 5,
 zN 47 46,
 zF 48 47 21,
 zL 49 48,
 zM 50 49,
 cG 51 5 50 true,
 wY 52 51 50 true,
 bN 53 52 22 50 true,
 bR 54 53 50 true,
 bN 55 3 3 50 true,
 bR 56 55 50 true,
 bt 57 (.bin .eql) [.t 54,.t 56] 50 true,
 zP 58 .pick [.t 50,.t 57,.c (.bool false)],
 zM 4 58] [[],[],[],[],[],[],[],[],[],[],[],[],[],[]])
 .ret)
 (.seq (.ops [zF 60 3 4,
 zL 61 60,
 zP 62 (.bin .neq) [.t 61,zI 4],
 zM 59 62])
 (.cond (.t 59)
 (.seq (.ops [zK 4 (.bool true)])
 .ret)
 .skip)))))))))
 (.seq (.bH [zM 63 0,
 zN 64 63,
 zF 65 64 0,
 zF 66 65 0,
 zL 67 66,
 zF 68 3 2,
 zL 69 68,
 zR 70 (.aE 3) 67 69,
 zF 71 70 2,
 zL 72 71,
 zF 73 3 3,
 zL 74 73,
 zR 75 (.aE 8) 72 74,
 zF 76 75 5,
 zL 77 76,
 zM 6 77] [[],[],[],[],[],[],[],[],[],[],[],[],[],[],[],[]])
 (.seq (.seq (.ops [zM 78 0,
 oU 79 101 78,
 zQ 80 .bO 79,
 zV 81 0])
 (.block 1 (.loop ig)))
 (.seq (.ops [zM 113 5,
 zN 114 113,
 zF 115 114 21,
 zL 116 115,
 zQ 117 .not 116,
 zM 118 117,
 cG 119 6 118 true,
 bt 120 (.bin .gtr) [.t 119,zI 0] 118 true,
 zP 121 .pick [.t 118,.t 120,.c (.bool false)],
 zM 4 121])
 .ret))))))⟩
def Yx:aB:=⟨87,[],
 (.seq (.ops [zB 4 1,
 zB 5 2])
 (.seq (.bH [zM 7 0,
 zF 8 4 3,
 zL 9 8,
 zN 10 7,
 zF 11 10 5,
 zR 12 (.bT 4 4) 11 9,
 zM 6 12] [[],[],[],[],[],[],[]])
 (.seq (.ops [zF 13 4 1,
 zL 14 13])
 (.block 0 (.seq (.ops [zP 16 (.bin .eql) [.t 14,zI 1],
 zM 15 16])
 (.cond (.t 15)
 (.ops [zM 17 6,
 zN 18 17,
 zF 19 18 2,
 zL 20 19,
 zP 21 (.bin .add) [.t 20,zI 1],
 zN 22 17,
 zF 23 22 2,
 zS 1 [.t 23,.t 21]])
 (.seq (.ops [zP 25 (.bin .eql) [.t 14,zI 2],
 zM 24 25])
 (.cond (.t 24)
 (.seq (.ops [zF 26 4 5,
 zL 27 26,
 zP 28 (.bin .eql) [.t 27,zI 0]])
 (.cond (.t 28)
 (.ops [zM 29 6,
 zF 30 4 0,
 zL 31 30,
 zF 32 4 0,
 zL 33 32,
 zF 34 5 0,
 zL 35 34,
 zR 36 (.bin .add) 33 35,
 zP 37 (.build [(.bool false),zz,zz,zz] [(0,1),(1,1),(3,1)]) [.c (.bool true),.t 31,.t 36],
 zN 38 29,
 zS 4 [.t 38,.t 37]])
 .skip))
 (.seq (.seq (.ops [zP 40 (.bin .eql) [.t 14,zI 3],
 zM 39 40])
 (.cond (.t 39)
 .skip
 (.ops [zP 41 (.bin .eql) [.t 14,zI 4],
 zM 39 41])))
 (.cond (.t 39)
 (.seq (.ops [zM 42 6,
 zN 43 42,
 zF 44 43 0,
 zS 1 [.t 44,.c (.bool false)]])
 (.bH [zM 45 0,
 zM 46 0,
 zN 47 46,
 zF 48 47 21,
 zL 49 48,
 zM 50 49,
 cG 51 0 50 true,
 wY 52 51 50 true,
 bN 53 52 22 50 true,
 bR 54 53 50 true,
 bN 55 4 3 50 true,
 bR 56 55 50 true,
 bt 57 (.bin .neq) [.t 54,.t 56] 50 true,
 zP 58 .pick [.t 50,.t 57,.c (.bool false)],
 zN 59 45,
 zF 60 59 21,
 zS 1 [.t 60,.t 58]] [[],[],[],[],[],[],[],[],[],[],[],[],[],[],[],[],[]]))
 (.seq (.ops [zP 62 (.bin .eql) [.t 14,zI 5],
 zM 61 62])
 (.cond (.t 61)
 (.seq (.ops [zF 63 4 5,
 zL 64 63,
 zP 65 (.bin .eql) [.t 64,zI 0],
 zM 66 65,
 bN 67 4 4 66 true,
 bR 68 67 66 true,
 bt 69 (.bin .eql) [.t 68,zI 4] 66 true,
 cG 70 69 66 true,
 bN 71 4 4 70 false,
 bR 72 71 70 false,
 bt 73 (.bin .eql) [.t 72,zI 5] 70 false,
 bt 74 .pick [.t 70,.c (.bool true),.t 73] 66 true,
 zP 75 .pick [.t 66,.t 74,.c (.bool false)]])
 (.cond (.t 75)
 (.bH [zM 76 0,
 zM 77 0,
 zF 78 4 4,
 zL 79 78,
 zP 80 (.bin .eql) [.t 79,zI 4],
 zF 81 4 3,
 zL 82 81,
 zN 83 76,
 zF 84 83 21,
 zS 1 [.t 84,.t 80],
 zN 85 77,
 zF 86 85 22,
 zS 1 [.t 86,.t 82]] [[],[],[],[],[],[],[0,10],[],[],[],[],[],[]])
 .skip))
 .skip))))))))))))⟩
def kz:AC:=(.seq (.ops [zR 10 (.bin .lss) 9 8])
 (.seq (.cond (.t 10)
 .skip
 (.exit 0))
 (.seq (.block 1 (.seq (.ops [zR 11 (.aE 23) 7 9,
 zO 12 23 11,
 ⟨some 3,none,.a (.alloc [(.bool false),zz,zz,zz,zz,(.bool false),zz,zz,zz,(.bool false),zz,zz,zz,(.bool false),zz,zz,zz,(.bool false),zz,zz,zz,(.bool false),zz]),[]⟩,
 zS 23 [.t 3,.t 12]])
 (.ops [zF 13 3 0,
 zL 14 13,
 zQ 15 .not 14,
 zM 16 15,
 bN 17 3 21 16 false,
 bR 18 17 16 false,
 bt 19 .not [.t 18] 16 false,
 zP 20 .pick [.t 16,.c (.bool true),.t 19],
 zM 21 20,
 m7 22 102 [.t 3] 21 false,
 zP 23 .pick [.t 21,.c (.bool true),.t 22],
 ⟨some 24,none,.call,[.c (.func (.func 84) [] []),.t 23,zI 8]⟩])))
 (.ops [zP 25 (.bin .add) [.t 9,zI 1],
 zM 9 25]))))
def kA:AC:=(.seq (.ops [zR 59 (.bin .lss) 58 57])
 (.seq (.cond (.t 59)
 .skip
 (.exit 2))
 (.seq (.block 3 (.seq (.ops [zM 60 58,
 zM 4 60])
 (.seq (.ops [zM 61 0,
 zM 62 4,
 zN 63 61,
 zF 64 63 2,
 zR 65 (.bT 23 4) 64 62,
 zM 5 65])
 (.seq (.bH [zM 66 5,
 zN 67 66,
 zF 68 67 0,
 zL 69 68,
 zM 70 69,
 cG 71 5 70 true,
 wY 72 71 70 true,
 bN 73 72 3 70 true,
 bR 74 73 70 true,
 cG 75 0 70 true,
 wY 76 75 70 true,
 bN 77 76 95 70 true,
 bR 78 77 70 true,
 bt 79 (.bin .eql) [.t 74,.t 78] 70 true,
 zP 80 .pick [.t 70,.t 79,.c (.bool false)]] [[],[],[],[],[],[],[],[],[],[],[],[],[],[],[]])
 (.cond (.t 80)
 (.seq (.bH [zM 81 5,
 zN 82 81,
 zF 83 82 4,
 zL 84 83,
 zM 85 5,
 zN 86 85,
 zF 87 86 2,
 zL 88 87,
 zR 89 (.bin .eql) 84 88,
 ⟨some 90,none,.call,[.c (.func (.func 84) [] []),.t 89,zI 4]⟩] [[],[],[],[],[],[],[],[],[],[]])
 (.bH [zM 91 5,
 zM 92 5,
 zM 93 0,
 zN 94 93,
 zF 95 94 95,
 zL 96 95,
 zM 97 5,
 zN 98 97,
 zF 99 98 1,
 zL 100 99,
 zR 101 (.bin .add) 96 100,
 zN 102 91,
 zF 103 102 4,
 zS 1 [.t 103,zI 0],
 zN 104 92,
 zF 105 104 3,
 zS 1 [.t 105,.t 101]] [[],[],[],[],[],[],[],[],[],[],[],[],[],[],[],[],[]]))
 .skip)))))
 (.ops [zP 106 (.bin .add) [.t 58,zI 1],
 zM 58 106]))))
def Yy:aB:=⟨107,[],
 (.seq (.seq (.ops [zM 6 0,
 oU 7 101 6,
 zQ 8 .bO 7,
 zV 9 0])
 (.block 0 (.loop kz)))
 (.seq (.ops [zM 26 0,
 zN 27 26,
 zF 28 27 96,
 zL 29 28,
 zM 30 29,
 cG 31 0 30 false,
 wY 32 31 30 false,
 bN 33 32 97 30 false,
 bR 34 33 30 false,
 zP 35 .pick [.t 30,.c (.bool true),.t 34],
 zM 36 35,
 cG 37 0 36 false,
 m7 38 86 [.t 37] 36 false,
 bt 39 (.bin .eql) [.t 38,zI (-1)] 36 false,
 zP 40 .pick [.t 36,.c (.bool true),.t 39],
 ⟨some 41,none,.call,[.c (.func (.func 84) [] []),.t 40,zI 3]⟩])
 (.seq (.ops [zM 42 0,
 zN 43 42,
 zF 44 43 95,
 zL 45 44,
 zP 46 (.bin .add) [.t 45,zI 1],
 zN 47 42,
 zF 48 47 95,
 zS 1 [.t 48,.t 46]])
 (.seq (.ops [zM 49 0,
 zM 50 0,
 zN 51 49,
 zF 52 51 96,
 zS 1 [.t 52,.c (.bool false)],
 zN 53 50,
 zF 54 53 97,
 zS 1 [.t 54,.c (.bool false)]])
 (.seq (.ops [zM 55 0,
 oU 56 101 55,
 zQ 57 .bO 56,
 zV 58 0])
 (.block 2 (.loop kA)))))))⟩
def Yz:aB:=⟨90,[.tmp 4],
 (.seq (.ops [zB 2 0,
 zK 4 (.bool false)])
 (.seq (.seq (.ops [zF 5 2 0,
 zL 6 5,
 zC 7 66 [.t 6,zI 1,zI 64],
 zQ 8 .not 7,
 zM 9 8,
 bN 10 2 1 9 false,
 bR 11 10 9 false,
 bN 12 2 0 9 false,
 bR 13 12 9 false,
 m7 14 66 [.t 11,zI 1,.t 13] 9 false,
 bt 15 .not [.t 14] 9 false,
 zP 16 .pick [.t 9,.c (.bool true),.t 15],
 zM 17 16,
 bN 18 2 2 17 false,
 bR 19 18 17 false,
 bN 20 2 1 17 false,
 bR 21 20 17 false,
 m7 22 66 [.t 19,zI 1,.t 21] 17 false,
 bt 23 .not [.t 22] 17 false,
 zP 24 .pick [.t 17,.c (.bool true),.t 23],
 zM 25 24,
 bN 26 2 3 25 false,
 bR 27 26 25 false,
 m7 28 66 [.t 27,zI 0,zI 255] 25 false,
 bt 29 .not [.t 28] 25 false,
 zP 30 .pick [.t 25,.c (.bool true),.t 29],
 zM 31 30,
 bN 32 2 5 31 false,
 bR 33 32 31 false,
 m7 34 66 [.t 33,zI 0,zI 4] 31 false,
 bt 35 .not [.t 34] 31 false,
 zP 36 .pick [.t 31,.c (.bool true),.t 35]])
 (.cond (.t 36)
 (.seq (.ops [zK 4 (.bool false)])
 .ret)
 .skip))
 (.seq (.seq (.ops [zF 37 2 3,
 zL 38 37,
 zP 39 (.bin .eql) [.t 38,zI 0],
 zM 40 39,
 bN 41 2 4 40 true,
 bR 42 41 40 true,
 bt 43 (.bin .neq) [.t 42,zI 0] 40 true,
 zP 44 .pick [.t 40,.t 43,.c (.bool false)],
 zM 45 44,
 bN 46 2 3 45 false,
 bR 47 46 45 false,
 bt 48 (.bin .neq) [.t 47,zI 0] 45 false,
 cG 49 48 45 false,
 bN 50 2 4 49 true,
 bR 51 50 49 true,
 bN 52 2 2 49 true,
 bR 53 52 49 true,
 m7 54 66 [.t 51,zI 1,.t 53] 49 true,
 bt 55 .not [.t 54] 49 true,
 bt 56 .pick [.t 49,.t 55,.c (.bool false)] 45 false,
 zP 57 .pick [.t 45,.c (.bool true),.t 56]])
 (.cond (.t 57)
 (.seq (.ops [zK 4 (.bool false)])
 .ret)
 .skip))
 (.seq (.seq (.ops [zF 58 2 5,
 zL 59 58,
 zP 60 (.bin .eql) [.t 59,zI 0]])
 (.cond (.t 60)
 (.seq (.ops [zF 61 2 6,
 zL 62 61,
 zP 63 (.bin .eql) [.t 62,zI 0],
 zM 64 63,
 bN 65 2 7 64 true,
 bR 66 65 64 true,
 bt 67 (.bin .eql) [.t 66,zI 0] 64 true,
 zP 68 .pick [.t 64,.t 67,.c (.bool false)],
 zM 4 68])
 .ret)
 .skip))
 (.seq (.ops [zF 69 2 6,
 zL 70 69,
 zM 71 1,
 zC 72 66 [.t 70,zI 1,.t 71],
 zM 73 72,
 bN 74 2 7 73 true,
 bR 75 74 73 true,
 bN 76 2 2 73 true,
 bR 77 76 73 true,
 m7 78 66 [.t 75,zI 1,.t 77] 73 true,
 zP 79 .pick [.t 73,.t 78,.c (.bool false)],
 zM 80 79,
 bN 81 2 6 80 true,
 bR 82 81 80 true,
 bN 83 2 7 80 true,
 bR 84 83 80 true,
 bt 85 (.bin .mul) [.t 82,.t 84] 80 true,
 bN 86 2 2 80 true,
 bR 87 86 80 true,
 bt 88 (.bin .leq) [.t 85,.t 87] 80 true,
 zP 89 .pick [.t 80,.t 88,.c (.bool false)],
 zM 4 89])
 .ret)))))⟩
def YA:aB:=⟨25,[.tmp 2],
 (.seq (.ops [zB 1 0,
 zK 2 (.bool false)])
 (.seq (.ops [zF 3 1 5,
 zP 4 (.bT 4 4) [.t 3,zI 0],
 zF 5 4 0,
 zL 6 5,
 zM 7 6,
 bN 8 1 5 7 false,
 bt 9 (.bT 4 4) [.t 8,zI 1] 7 false,
 bN 10 9 0 7 false,
 bR 11 10 7 false,
 zP 12 .pick [.t 7,.c (.bool true),.t 11],
 zM 13 12,
 bN 14 1 5 13 false,
 bt 15 (.bT 4 4) [.t 14,zI 2] 13 false,
 bN 16 15 0 13 false,
 bR 17 16 13 false,
 zP 18 .pick [.t 13,.c (.bool true),.t 17],
 zM 19 18,
 bN 20 1 5 19 false,
 bt 21 (.bT 4 4) [.t 20,zI 3] 19 false,
 bN 22 21 0 19 false,
 bR 23 22 19 false,
 zP 24 .pick [.t 19,.c (.bool true),.t 23],
 zM 2 24])
 .ret))⟩
def dS:AC:=(.seq (.seq (.ops [zM 8 7,
 zM 9 0,
 zN 10 9,
 zF 11 10 0,
 zF 12 11 0,
 zL 13 12,
 zQ 14 .bO 13,
 zR 15 (.bin .lss) 8 14])
 (.cond (.t 15)
 .skip
 (.exit 0)))
 (.seq (.block 1 (.seq (.bH [zM 18 7,
 zM 19 1,
 zR 20 (.bin .neq) 18 19,
 zM 21 20,
 cG 22 0 21 true,
 cG 23 7 21 true,
 wY 24 22 21 true,
 bN 25 24 2 21 true,
 bt 26 (.bT 23 4) [.t 25,.t 23] 21 true,
 bN 27 26 21 21 true,
 bR 28 27 21 true,
 zP 29 .pick [.t 21,.t 28,.c (.bool false)],
 zM 30 29,
 cG 31 0 30 true,
 wY 32 31 30 true,
 bN 33 32 0 30 true,
 bN 34 33 0 30 true,
 bR 35 34 30 true,
 cG 36 7 30 true,
 bt 37 (.aE 3) [.t 35,.t 36] 30 true,
 bN 38 37 2 30 true,
 bR 39 38 30 true,
 cG 40 0 30 true,
 cG 41 7 30 true,
 wY 42 40 30 true,
 bN 43 42 2 30 true,
 bt 44 (.bT 23 4) [.t 43,.t 41] 30 true,
 bN 45 44 22 30 true,
 bR 46 45 30 true,
 bt 47 (.aE 8) [.t 39,.t 46] 30 true,
 bN 48 47 5 30 true,
 bR 49 48 30 true,
 cG 50 2 30 true,
 bt 51 (.bin .eql) [.t 49,.t 50] 30 true,
 zP 52 .pick [.t 30,.t 51,.c (.bool false)]] [[],[],[],[],[],[],[],[],[],[],[],[],[],[],[],[],[],[],[],[],[],[],[],[],[],[],[],[],[],[],[],[],[],[],[]])
 (.cond (.t 52)
 (.seq (.ops [zK 6 (.bool true)])
 .ret)
 .skip)))
 (.ops [zM 16 7,
 zP 17 (.bin .add) [.t 16,zI 1],
 zM 7 17])))
def YB:aB:=⟨53,[.tmp 6],
 (.seq (.ops [zK 6 (.bool false)])
 (.seq (.seq (.ops [zV 7 0])
 (.block 0 (.loop dS)))
 (.seq (.ops [zK 6 (.bool false)])
 .ret)))⟩
def YC:aB:=⟨40,[.cell 4 2 true],
 (.seq (.ops [zB 2 0,
 zB 3 1,
 ⟨some 4,none,.a (.alloc [zz,zz]),[]⟩])
 (.seq (.bH [zF 10 2 0,
 zL 11 10,
 zF 12 3 1,
 zL 13 12,
 zR 14 (.bin .mul) 11 13,
 zF 15 3 0,
 zL 16 15,
 zF 17 2 1,
 zL 18 17,
 zR 19 (.bin .mul) 16 18,
 zR 20 (.bin .add) 14 19,
 zF 21 2 1,
 zL 22 21,
 zF 23 3 1,
 zL 24 23,
 zR 25 (.bin .mul) 22 24,
 zM 5 20,
 zM 6 25] [[],[],[],[],[],[],[],[],[],[],[],[],[],[],[],[],[],[]])
 (.seq (.ops [zM 27 5,
 zM 28 6,
 jx 29 105 27 28,
 zM 26 29,
 zQ 30 (.ext 0) 26,
 zQ 31 (.ext 1) 26,
 zM 7 30,
 zM 8 31])
 (.seq (.ops [zM 32 7,
 zM 9 32])
 (.seq (.bH [zM 33 5,
 zM 34 9,
 zR 35 (.bin .quo) 33 34,
 zM 36 6,
 zM 37 9,
 zR 38 (.bin .quo) 36 37,
 zR 39 (.build [zz,zz] [(0,1),(1,1)]) 35 38,
 zS 2 [.t 4,.t 39]] [[],[],[],[],[],[],[],[]])
 .ret)))))⟩
def ZF:aB:=⟨20,[.tmp 4],
 (.seq (.ops [zK 4 (.bool false)])
 (.seq (.ops [zL 7 1,
 zL 8 2,
 zM 9 0,
 zR 10 (.aE 3) 7 8,
 zF 11 10 1,
 zS 1 [.t 11,.t 9]])
 (.seq (.ops [zL 13 1,
 zL 14 2,
 jx 15 99 13 14,
 zM 12 15,
 zQ 16 (.ext 0) 12,
 zQ 17 (.ext 1) 12,
 zM 5 16,
 zM 6 17])
 (.seq (.ops [zM 18 6,
 zP 19 (.bin .eql) [.t 18,zI 0],
 zM 4 19])
 .ret))))⟩
def yh:AC:=(.seq (.ops [zR 70 (.bin .lss) 69 68])
 (.seq (.cond (.t 70)
 .skip
 (.exit 0))
 (.seq (.block 1 (.seq (.ops [zR 71 (.aE 8) 67 69,
 zO 72 8 71,
 ⟨some 12,none,.a (.alloc [zz,zz,zz,zz,zz,zz,zz,zz]),[]⟩,
 zS 8 [.t 12,.t 72]])
 (.ops [zM 73 10,
 zF 74 12 1,
 zL 75 74,
 zR 76 .mx 73 75,
 zM 10 76])))
 (.ops [zP 77 (.bin .add) [.t 69,zI 1],
 zM 69 77]))))
def qF:AC:=(.seq (.ops [zM 13 90])
 (.ops [zM 14 91]))
def qG:AC:=(.block 3 (.seq (.ops [zM 92 14,
 zP 93 (.bin .lss) [.t 92,zI 0]])
 (.cond (.t 93)
 (.seq (.ops [zM 94 13,
 zS 1 [.t 4,.t 94],
 zS 1 [.t 5,zI 120]])
 .ret)
 .skip)))
def YD:aB:=⟨95,[.cell 4 1 false,.cell 5 1 false],
 (.seq (.ops [⟨some 4,none,.a (.alloc [zz]),[]⟩,
 ⟨some 5,none,.a (.alloc [zz]),[]⟩])
 (.seq (.ops [zM 16 0,
 zM 17 1,
 jx 18 106 16 17,
 zM 15 18,
 zQ 19 (.ext 0) 15,
 zQ 20 (.ext 1) 15,
 ⟨some 6,none,.a (.alloc [zz,zz,.aD,.aD,zz,.aD]),[]⟩,
 zS 6 [.t 6,.t 19],
 zS 1 [.t 5,.t 20]])
 (.seq (.seq (.ops [zL 21 5,
 zP 22 (.bin .neq) [.t 21,zI 0],
 zM 23 22,
 bN 24 6 0 23 false,
 bN 25 24 2 23 false,
 bR 26 25 23 false,
 bt 27 .bO [.t 26] 23 false,
 bt 28 (.bin .eql) [.t 27,zI 0] 23 false,
 zP 29 .pick [.t 23,.c (.bool true),.t 28]])
 (.cond (.t 29)
 (.seq (.bH [zL 30 5,
 zS 1 [.t 4,zI 0],
 zS 1 [.t 5,.t 30]] [[0,2],[],[]])
 .ret)
 .skip))
 (.seq (.ops [zF 32 6 0,
 zF 33 32 2,
 zL 34 33,
 zF 35 6 0,
 zF 36 35 0,
 zL 37 36,
 jx 38 107 34 37,
 zM 31 38,
 zQ 39 (.ext 0) 31,
 zQ 40 (.ext 1) 31,
 zM 7 39,
 zS 1 [.t 5,.t 40]])
 (.seq (.seq (.ops [zL 41 5,
 zP 42 (.bin .neq) [.t 41,zI 0]])
 (.cond (.t 42)
 (.seq (.bH [zL 43 5,
 zS 1 [.t 4,zI 0],
 zS 1 [.t 5,.t 43]] [[0,2],[],[]])
 .ret)
 .skip))
 (.seq (.seq (.ops [zF 45 6 0,
 zF 46 45 2,
 zL 47 46,
 zF 48 6 5,
 zL 49 48,
 zM 50 7,
 E7 51 108 47 49 50,
 zM 44 51,
 zQ 52 (.ext 0) 44,
 zQ 53 (.ext 1) 44,
 zM 8 52,
 zM 9 53])
 (.seq (.bH [zM 54 8,
 zM 55 7,
 zF 56 6 0,
 zF 57 56 0,
 zL 58 57,
 zR 59 (.bin .quo) 55 58,
 zF 60 6 0,
 zF 61 60 1,
 zL 62 61,
 zR 63 (.bin .mul) 59 62,
 zR 64 (.bin .gtr) 54 63] [[],[],[],[],[],[],[],[],[],[],[]])
 (.cond (.t 64)
 (.seq (.ops [zS 1 [.t 4,zI 0],
 zS 1 [.t 5,zI 120]])
 .ret)
 .skip)))
 (.seq (.ops [zV 10 0])
 (.seq (.seq (.ops [zF 65 6 0,
 zF 66 65 2,
 zL 67 66,
 zQ 68 .bO 67,
 zV 69 0])
 (.block 0 (.loop yh)))
 (.seq (.seq (.bH [zO 78 6 6,
 zM 79 7,
 zM 80 10,
 zF 81 6 0,
 zF 82 81 0,
 zL 83 82,
 zF 84 6 0,
 zF 85 84 0,
 zL 86 85,
 ⟨some 87,none,.a (.bX [zz] 4 1 [0,1,2,3]),[.t 79,.t 80,.t 83,.t 86]⟩,
 oU 88 110 87,
 jx 89 109 78 88] [[0,11],[],[],[],[],[],[],[],[],[],[],[]])
 (.block 2 (.rangeFunc (.t 89) [90,91] qF qG)))
 (.seq (.ops [zS 1 [.t 4,zI 0],
 zS 1 [.t 5,zI 0]])
 .ret))))))))))⟩
def iL:AC:=(.seq (.ops [zR 9 (.bin .lss) 8 7])
 (.seq (.cond (.t 9)
 .skip
 (.exit 0))
 (.seq (.block 1 (.seq (.ops [zM 10 8,
 zM 5 10])
 (.seq (.ops [zM 11 1,
 zM 12 0,
 zM 13 5,
 zR 14 (.aE 8) 12 13,
 zO 15 8 14,
 ⟨some 16,none,.call,[.t 11,.t 15]⟩])
 (.cond (.t 16)
 (.seq (.ops [zM 17 5,
 zM 4 17])
 .ret)
 .skip))))
 (.ops [zP 18 (.bin .add) [.t 8,zI 1],
 zM 8 18]))))
def J6:aB:=⟨19,[.tmp 4],
 (.seq (.ops [zV 4 0])
 (.seq (.seq (.ops [zM 6 0,
 zQ 7 .bO 6,
 zV 8 0])
 (.block 0 (.loop iL)))
 (.seq (.ops [zV 4 (-1)])
 .ret)))⟩
def NG:aB:=⟨13,[.tmp 2],
 (.seq (.ops [zK 2 .aD])
 (.seq (.bH [zM 3 0,
 zN 4 3,
 zF 5 4 2,
 zM 6 0,
 zN 7 6,
 zF 8 7 0,
 zF 9 8 0,
 zL 10 9,
 zQ 11 .bO 10,
 zR 12 (.iY 23 4 false true false) 5 11,
 zM 2 12] [[],[],[],[],[],[],[],[],[],[],[]])
 .ret))⟩
def NH:aB:=⟨18,[.tmp 2],
 (.seq (.ops [zK 2 (.bool false)])
 (.seq (.bH [zM 3 0,
 zN 4 3,
 zF 5 4 0,
 zL 6 5,
 zM 7 6,
 cG 8 0 7 true,
 wY 9 8 7 true,
 bN 10 9 4 7 true,
 bR 11 10 7 true,
 cG 12 0 7 true,
 wY 13 12 7 true,
 bN 14 13 2 7 true,
 bR 15 14 7 true,
 bt 16 (.bin .lss) [.t 11,.t 15] 7 true,
 zP 17 .pick [.t 7,.t 16,.c (.bool false)],
 zM 2 17] [[],[],[],[],[],[],[],[],[],[],[],[],[],[],[],[]])
 .ret))⟩
def NI:aB:=⟨9,[.tmp 4],
 (.seq (.ops [zK 4 (.bool false)])
 (.seq (.ops [zM 5 0,
 zM 6 1,
 jx 7 111 5 6,
 zP 8 (.bin .geq) [.t 7,zI 0],
 zM 4 8])
 .ret))⟩
def NJ:aB:=⟨5,[.tmp 2],
 (.seq (.ops [zB 1 0,
 zK 2 (.bool false)])
 (.seq (.ops [zF 3 1 0,
 zL 4 3,
 zM 2 4])
 .ret))⟩
def tL:AC:=(.seq (.seq (.ops [zM 11 1,
 zP 12 (.bin .neq) [.t 11,zI 0]])
 (.cond (.t 12)
 .skip
 (.exit 0)))
 (.block 1 (.bH [zM 13 1,
 zM 14 0,
 zM 15 1,
 zR 16 (.bin .rem) 14 15,
 zM 0 13,
 zM 1 16] [[],[],[],[],[],[]])))
def NK:aB:=⟨18,[.tmp 4,.tmp 5],
 (.seq (.ops [zV 4 0,
 zV 5 0])
 (.seq (.seq (.ops [zM 6 0,
 zM 7 1,
 ⟨some 8,none,.a (.bX [zz] 2 1 [0,1]),[.t 6,.t 7]⟩,
 oU 9 112 8,
 zQ 10 .not 9])
 (.cond (.t 10)
 (.seq (.ops [zV 4 0,
 zV 5 2])
 .ret)
 .skip))
 (.seq (.block 0 (.loop tL))
 (.seq (.ops [zM 17 0,
 zM 4 17,
 zV 5 0])
 .ret))))⟩
def Ie:aB:=⟨26,[.cell 4 6 true,.tmp 5],
 (.seq (.ops [⟨some 4,none,.a (.alloc [zz,zz,.aD,.aD,zz,.aD]),[]⟩,
 zV 5 0])
 (.seq (.ops [zM 9 0,
 zM 10 1,
 jx 11 113 9 10,
 zM 8 11,
 zQ 12 (.ext 0) 8,
 zQ 13 (.ext 1) 8,
 zM 6 12,
 zM 7 13])
 (.seq (.seq (.ops [zM 14 7,
 zP 15 (.bin .neq) [.t 14,zI 0]])
 (.cond (.t 15)
 (.seq (.ops [zP 16 (.build [zz,zz,.aD,.aD,zz,.aD] []) [],
 zM 17 7,
 zS 6 [.t 4,.t 16],
 zM 5 17])
 .ret)
 .skip))
 (.seq (.ops [zM 18 0,
 zM 19 1,
 zR 20 (.aE 3) 18 19,
 zO 21 3 20,
 zM 22 0,
 zM 23 1,
 zM 24 6,
 zP 25 (.build [zz,zz,.aD,.aD,zz,.aD] [(0,3),(3,1),(4,1),(5,1)]) [.t 21,.t 22,.t 23,.t 24],
 zS 6 [.t 4,.t 25],
 zV 5 0])
 .ret))))⟩
def vN:AC:=(.seq (.ops [zR 26 (.bin .lss) 25 24])
 (.seq (.cond (.t 26)
 .skip
 (.exit 0))
 (.seq (.block 1 (.seq (.ops [zR 27 (.aE 8) 23 25,
 zO 28 8 27,
 ⟨some 8,none,.a (.alloc [zz,zz,zz,zz,zz,zz,zz,zz]),[]⟩,
 zS 8 [.t 8,.t 28]])
 (.seq (.ops [zM 30 6,
 zF 31 8 0,
 zL 32 31,
 ⟨some 33,none,.a (.bX [zz] 2 1 [0,1]),[.t 30,.t 32]⟩,
 zC 34 115 [zI 4096,.t 33],
 zM 29 34,
 zQ 35 (.ext 0) 29,
 zQ 36 (.ext 1) 29,
 zM 9 35,
 zM 10 36])
 (.seq (.seq (.ops [zM 37 10,
 zP 38 (.bin .neq) [.t 37,zI 0]])
 (.cond (.t 38)
 (.seq (.ops [zV 4 0,
 zV 5 5])
 .ret)
 .skip))
 (.ops [zM 39 9,
 zM 6 39])))))
 (.ops [zP 40 (.bin .add) [.t 25,zI 1],
 zM 25 40]))))
def NL:aB:=⟨42,[.tmp 4,.tmp 5],
 (.seq (.ops [zV 4 0,
 zV 5 0])
 (.seq (.seq (.ops [zM 11 0,
 oU 12 114 11,
 zQ 13 .not 12,
 zM 14 13,
 cG 15 1 14 false,
 bt 16 (.bin .lss) [.t 15,zI 1] 14 false,
 zP 17 .pick [.t 14,.c (.bool true),.t 16],
 zM 18 17,
 cG 19 1 18 false,
 bt 20 (.bin .gtr) [.t 19,zI 64] 18 false,
 zP 21 .pick [.t 18,.c (.bool true),.t 20]])
 (.cond (.t 21)
 (.seq (.ops [zV 4 0,
 zV 5 2])
 .ret)
 .skip))
 (.seq (.ops [zM 22 1,
 zM 6 22])
 (.seq (.seq (.ops [zM 23 0,
 zQ 24 .bO 23,
 zV 25 0])
 (.block 0 (.loop vN)))
 (.seq (.ops [zM 41 6,
 zM 4 41,
 zV 5 0])
 .ret)))))⟩
def NM:aB:=⟨30,[.tmp 6,.tmp 7],
 (.seq (.ops [zB 5 2,
 zV 6 0,
 zV 7 0])
 (.seq (.seq (.ops [zM 9 0,
 zM 10 1,
 jx 11 116 9 10,
 zM 8 11])
 (.seq (.ops [zM 12 8,
 zP 13 (.bin .neq) [.t 12,zI 0],
 zM 14 13,
 bR 15 5 14 false,
 bt 16 (.bin .lss) [.t 15,zI 1] 14 false,
 zP 17 .pick [.t 14,.c (.bool true),.t 16],
 zM 18 17,
 bR 19 5 18 false,
 bt 20 (.bin .gtr) [.t 19,zI 1048576] 18 false,
 zP 21 .pick [.t 18,.c (.bool true),.t 20]])
 (.cond (.t 21)
 (.seq (.ops [zV 6 0,
 zV 7 2])
 .ret)
 .skip)))
 (.seq (.seq (.ops [zM 22 0,
 zQ 23 (.gJ (.func 117) 0) 5,
 jx 24 80 22 23])
 (.cond (.t 24)
 (.seq (.ops [zV 6 0,
 zV 7 2])
 .ret)
 .skip))
 (.seq (.ops [zM 25 0,
 zM 26 1,
 zQ 27 (.gJ (.func 120) 0) 5,
 E7 28 119 25 26 27,
 oU 29 118 28,
 zM 6 29,
 zV 7 0])
 .ret))))⟩
def NN:aB:=⟨6,[.tmp 4],
 (.seq (.ops [zB 2 0,
 zB 3 1,
 zK 4 .kH])
 (.seq (.ops [zR 5 (.gJ (.func 121) 0) 3 2,
 zM 4 5])
 .ret))⟩
def Am:AC:=(.seq (.ops [zR 8 (.bin .lss) 7 6])
 (.seq (.cond (.t 8)
 .skip
 (.exit 0))
 (.seq (.block 1 (.seq (.ops [zR 9 (.aE 1) 5 7,
 zL 10 9,
 zM 4 10])
 (.ops [zM 11 2,
 zM 12 4,
 zR 13 (.bin .add) 11 12,
 zM 2 13])))
 (.ops [zP 14 (.bin .add) [.t 7,zI 1],
 zM 7 14]))))
def NO:aB:=⟨16,[.tmp 2],
 (.seq (.ops [zV 2 0])
 (.seq (.seq (.ops [zM 5 0,
 zQ 6 .bO 5,
 zV 7 0])
 (.block 0 (.loop Am)))
 (.seq (.ops [zM 15 2,
 zM 2 15])
 .ret)))⟩
def ij:AC:=(.seq (.ops [zR 9 (.bin .lss) 8 7])
 (.seq (.cond (.t 9)
 .skip
 (.exit 0))
 (.seq (.block 1 (.seq (.ops [zM 10 8,
 zM 5 10])
 (.seq (.ops [zM 11 1,
 zM 12 0,
 zM 13 5,
 zR 14 (.aE 4) 12 13,
 zO 15 4 14,
 ⟨some 16,none,.call,[.t 11,.t 15]⟩])
 (.cond (.t 16)
 (.seq (.ops [zM 17 5,
 zM 4 17])
 .ret)
 .skip))))
 (.ops [zP 18 (.bin .add) [.t 8,zI 1],
 zM 8 18]))))
def J7:aB:=⟨19,[.tmp 4],
 (.seq (.ops [zV 4 0])
 (.seq (.seq (.ops [zM 6 0,
 zQ 7 .bO 6,
 zV 8 0])
 (.block 0 (.loop ij)))
 (.seq (.ops [zV 4 (-1)])
 .ret)))⟩
def yl:AC:=(.seq (.ops [zR 8 (.bin .lss) 7 6])
 (.seq (.cond (.t 8)
 .skip
 (.exit 0))
 (.seq (.block 1 (.seq (.ops [zR 9 (.aE 1) 5 7,
 zL 10 9,
 zM 4 10])
 (.seq (.ops [zM 11 4,
 zP 12 (.bin .lss) [.t 11,zI 0],
 zM 13 12,
 cG 14 4 13 false,
 bt 15 (.bin .gtr) [.t 14,zI 1099511627776] 13 false,
 zP 16 .pick [.t 13,.c (.bool true),.t 15]])
 (.cond (.t 16)
 (.seq (.ops [zK 2 (.bool false)])
 .ret)
 .skip))))
 (.ops [zP 17 (.bin .add) [.t 7,zI 1],
 zM 7 17]))))
def NP:aB:=⟨18,[.tmp 2],
 (.seq (.ops [zK 2 (.bool false)])
 (.seq (.seq (.ops [zM 5 0,
 zQ 6 .bO 5,
 zV 7 0])
 (.block 0 (.loop yl)))
 (.seq (.ops [zK 2 (.bool true)])
 .ret)))⟩
def ye:AC:=(.seq (.ops [zR 30 (.bin .lss) 29 28])
 (.seq (.cond (.t 30)
 .skip
 (.exit 0))
 (.seq (.block 1 (.seq (.ops [zM 31 29,
 zR 32 (.aE 8) 27 29,
 zO 33 8 32,
 ⟨some 10,none,.a (.alloc [zz,zz,zz,zz,zz,zz,zz,zz]),[]⟩,
 zM 9 31,
 zS 8 [.t 10,.t 33]])
 (.bH [zM 34 8,
 zM 35 9,
 zF 36 10 7,
 zL 37 36,
 zO 38 5 6,
 zO 39 8 10,
 jx 40 125 38 39,
 zF 41 10 6,
 zL 42 41,
 zR 43 (.bin .add) 40 42,
 zP 44 (.bin .sub) [.t 43,zI 1],
 zR 45 (.bin .mul) 37 44,
 zR 46 (.aE 1) 34 35,
 zS 1 [.t 46,.t 45]] [[],[],[],[0,7],[],[],[],[],[0,7],[],[],[],[],[]])))
 (.ops [zP 47 (.bin .add) [.t 29,zI 1],
 zM 29 47]))))
def Ig:aB:=⟨49,[.tmp 4,.tmp 5],
 (.seq (.ops [zK 4 .aD,
 zV 5 0])
 (.seq (.ops [zM 12 0,
 zM 13 1,
 jx 14 124 12 13,
 zM 11 14,
 zQ 15 (.ext 0) 11,
 zQ 16 (.ext 1) 11,
 ⟨some 6,none,.a (.alloc [zz,zz,.aD,.aD,zz]),[]⟩,
 zS 5 [.t 6,.t 15],
 zM 7 16])
 (.seq (.seq (.ops [zM 17 7,
 zP 18 (.bin .neq) [.t 17,zI 0]])
 (.cond (.t 18)
 (.seq (.ops [zM 19 7,
 zK 4 .aD,
 zM 5 19])
 .ret)
 .skip))
 (.seq (.ops [zF 20 6 0,
 zF 21 20 2,
 zL 22 21,
 zQ 23 .bO 22,
 ⟨some 24,none,.a (.m0 [zz] 1 8),[.t 23,.t 23]⟩,
 zM 8 24])
 (.seq (.seq (.ops [zF 25 6 0,
 zF 26 25 2,
 zL 27 26,
 zQ 28 .bO 27,
 zV 29 0])
 (.block 0 (.loop ye)))
 (.seq (.ops [zM 48 8,
 zM 4 48,
 zV 5 0])
 .ret))))))⟩
def NQ:aB:=⟨11,[.tmp 2],
 (.seq (.ops [zK 2 (.bool false)])
 (.seq (.ops [zM 3 0,
 zQ 4 .bO 3,
 zP 5 (.bin .leq) [.t 4,zI 4],
 zM 6 5,
 cG 7 0 6 true,
 m7 8 80 [.t 7,.c (.func (.func 126) [] [])] 6 true,
 bt 9 .not [.t 8] 6 true,
 zP 10 .pick [.t 6,.t 9,.c (.bool false)],
 zM 2 10])
 .ret))⟩
def NS:aB:=⟨53,[.tmp 4,.tmp 5],
 (.seq (.ops [zV 4 0,
 zV 5 0])
 (.seq (.seq (.ops [zM 7 0,
 ⟨some 8,none,.a (.bX [zz] 1 1 [0]),[.t 7]⟩,
 oU 9 112 8,
 zQ 10 .not 9,
 zM 11 10,
 cG 12 1 11 false,
 m7 13 112 [.t 12] 11 false,
 bt 14 .not [.t 13] 11 false,
 zP 15 .pick [.t 11,.c (.bool true),.t 14],
 zM 16 15,
 cG 17 1 16 false,
 m7 18 128 [.t 17,zI 0] 16 false,
 zP 19 .pick [.t 16,.c (.bool true),.t 18]])
 (.cond (.t 19)
 (.seq (.ops [zV 4 0,
 zV 5 2])
 .ret)
 .skip))
 (.seq (.ops [zP 20 (.build [zz,zz] [(0,1)]) [zI 1],
 zB 21 20,
 zM 6 21])
 (.seq (.ops [zM 22 6,
 zQ 23 (.gJ (.func 130) 1) 22,
 zM 24 1,
 jx 25 129 23 24])
 (.seq (.seq (.ops [zM 26 6,
 zN 27 26,
 zF 28 27 1,
 zL 29 28,
 zP 30 (.bin .eql) [.t 29,zI 0],
 zM 31 30,
 cG 32 6 31 true,
 wY 33 32 31 true,
 bN 34 33 0 31 true,
 bR 35 34 31 true,
 cG 36 0 31 true,
 bt 37 (.bin .gtr) [.t 35,.t 36] 31 true,
 zP 38 .pick [.t 31,.t 37,.c (.bool false)]])
 (.cond (.t 38)
 (.ops [zM 39 6,
 zN 40 39,
 zF 41 40 1,
 zS 1 [.t 41,zI 10]])
 .skip))
 (.seq (.bH [zM 42 6,
 zN 43 42,
 zF 44 43 0,
 zL 45 44,
 zM 46 6,
 zN 47 46,
 zF 48 47 1,
 zL 49 48,
 jx 50 131 45 49,
 zQ 51 (.ext 0) 50,
 zQ 52 (.ext 1) 50,
 zM 4 51,
 zM 5 52] [[],[],[],[],[],[],[],[],[],[],[],[],[]])
 .ret))))))⟩
def NT:aB:=⟨21,[.tmp 4],
 (.seq (.ops [zV 4 0])
 (.seq (.ops [zM 6 1,
 zC 7 132 [.t 6,.c (.func (.func 133) [] [])],
 zM 5 7])
 (.seq (.seq (.ops [zM 8 5,
 zM 9 8,
 cG 10 0 9 false,
 m7 11 114 [.t 10] 9 false,
 bt 12 .not [.t 11] 9 false,
 zP 13 .pick [.t 9,.c (.bool true),.t 12],
 zM 14 13,
 cG 15 1 14 false,
 bt 16 .bO [.t 15] 14 false,
 cG 17 0 14 false,
 bt 18 .bO [.t 17] 14 false,
 bt 19 (.bin .neq) [.t 16,.t 18] 14 false,
 zP 20 .pick [.t 14,.c (.bool true),.t 19]])
 (.cond (.t 20)
 (.seq (.ops [zV 4 2])
 .ret)
 .skip))
 (.seq (.ops [zV 4 0])
 .ret))))⟩
def NU:aB:=⟨9,[.tmp 3],
 (.seq (.ops [zB 2 0,
 zK 3 (.bool false)])
 (.seq (.ops [zL 4 1,
 zF 5 2 0,
 zL 6 5,
 zR 7 (.bin .rem) 4 6,
 zP 8 (.bin .neq) [.t 7,zI 0],
 zM 3 8])
 .ret))⟩
def yg:AC:=(.seq (.ops [zR 8 (.bin .lss) 7 6])
 (.seq (.cond (.t 8)
 .skip
 (.exit 0))
 (.seq (.block 1 (.seq (.ops [zR 9 (.aE 1) 5 7,
 zL 10 9,
 zM 4 10])
 (.ops [zM 11 2,
 zM 12 4,
 zR 13 (.bin .add) 11 12,
 zM 2 13])))
 (.ops [zP 14 (.bin .add) [.t 7,zI 1],
 zM 7 14]))))
def NV:aB:=⟨16,[.tmp 2],
 (.seq (.ops [zV 2 0])
 (.seq (.seq (.ops [zM 5 0,
 zQ 6 .bO 5,
 zV 7 0])
 (.block 0 (.loop yg)))
 (.seq (.ops [zM 15 2,
 zM 2 15])
 .ret)))⟩
def xI:AC:=(.seq (.ops [zR 16 (.bin .lss) 15 14])
 (.seq (.cond (.t 16)
 .skip
 (.exit 0))
 (.seq (.block 1 (.seq (.ops [zM 17 15,
 zR 18 (.aE 8) 13 15,
 zO 19 8 18,
 ⟨some 9,none,.a (.alloc [zz,zz,zz,zz,zz,zz,zz,zz]),[]⟩,
 zM 8 17,
 zS 8 [.t 9,.t 19]])
 (.bH [zM 20 7,
 zM 21 8,
 zM 22 2,
 zO 23 8 9,
 ⟨some 24,none,.call,[.t 22,.t 23]⟩,
 zF 25 9 2,
 zL 26 25,
 zM 27 1,
 zM 28 8,
 zR 29 (.aE 1) 27 28,
 zL 30 29,
 zR 31 (.bin .add) 26 30,
 zR 32 (.bin .mul) 24 31,
 zR 33 (.aE 1) 20 21,
 zS 1 [.t 33,.t 32]] [[],[],[],[],[],[],[0,5],[],[],[],[0,5],[],[],[],[]])))
 (.ops [zP 34 (.bin .add) [.t 15,zI 1],
 zM 15 34]))))
def NW:aB:=⟨36,[.tmp 6],
 (.seq (.ops [zK 6 .aD])
 (.seq (.ops [zM 10 0,
 zQ 11 .bO 10,
 ⟨some 12,none,.a (.m0 [zz] 1 8),[.t 11,.t 11]⟩,
 zM 7 12])
 (.seq (.seq (.ops [zM 13 0,
 zQ 14 .bO 13,
 zV 15 0])
 (.block 0 (.loop xI)))
 (.seq (.ops [zM 35 7,
 zM 6 35])
 .ret))))⟩
def NX:aB:=⟨8,[.tmp 3],
 (.seq (.ops [zB 2 0,
 zV 3 0])
 (.seq (.ops [zL 4 1,
 zF 5 2 0,
 zL 6 5,
 zR 7 (.bin .quo) 4 6,
 zM 3 7])
 .ret))⟩
def j7:AC:=(.seq (.seq (.ops [zM 5 4,
 zL 6 1,
 zR 7 (.bin .leq) 5 6])
 (.cond (.t 7)
 .skip
 (.exit 0)))
 (.seq (.block 1 (.seq (.ops [zO 10 6 2,
 zM 11 4,
 jx 12 122 10 11,
 zP 13 (.bin .gtr) [.t 12,zI 0],
 zM 14 13,
 cG 15 0 14 true,
 cG 16 4 14 true,
 ⟨some 17,some (14,true),.r (.bn 6),[.t 2]⟩,
 cG 18 4 14 true,
 m7 19 123 [.t 17,.t 18] 14 true,
 ⟨some 20,some (14,true),.call,[.t 15,.t 16,.t 19]⟩,
 bt 21 .not [.t 20] 14 true,
 zP 22 .pick [.t 14,.t 21,.c (.bool false)]])
 (.cond (.t 22)
 .ret
 .skip)))
 (.ops [zM 8 4,
 zP 9 (.bin .add) [.t 8,zI 1],
 zM 4 9])))
def NY:aB:=⟨23,[],
 (.seq (.ops [zV 4 1])
 (.block 0 (.loop j7)))⟩
def NZ:aB:=⟨18,[.tmp 4],
 (.seq (.ops [zB 2 0,
 zV 4 0])
 (.seq (.ops [zF 8 2 0,
 zF 9 8 2,
 zL 10 9,
 zF 11 2 5,
 zL 12 11,
 zM 13 1,
 E7 14 134 10 12 13,
 zM 7 14,
 zQ 15 (.ext 0) 7,
 zQ 16 (.ext 1) 7,
 zM 5 15,
 zM 6 16])
 (.seq (.ops [zM 17 5,
 zM 4 17])
 .ret)))⟩
def N0:aB:=⟨38,[.tmp 4],
 (.seq (.ops [zB 2 0,
 zV 4 0])
 (.seq (.ops [zF 10 2 0,
 zF 11 10 0,
 zL 12 11,
 zF 13 2 0,
 zF 14 13 1,
 zL 15 14,
 zM 16 1,
 E7 17 135 12 15 16,
 zM 9 17,
 zQ 18 (.ext 0) 9,
 zQ 19 (.ext 1) 9,
 zM 5 18,
 zM 6 19])
 (.seq (.ops [zF 21 2 3,
 zL 22 21,
 zF 23 2 4,
 zL 24 23,
 zM 25 1,
 E7 26 136 22 24 25,
 zM 20 26,
 zQ 27 (.ext 0) 20,
 zQ 28 (.ext 1) 20,
 zM 7 27,
 zM 8 28])
 (.seq (.ops [zM 29 5,
 zO 30 6 2,
 zM 31 1,
 jx 32 122 30 31,
 zQ 33 .neg 32,
 zM 34 7,
 zQ 35 .neg 34,
 ⟨some 36,none,.a (.bX [zz] 3 1 [0,1,2]),[.t 29,.t 33,.t 35]⟩,
 oU 37 110 36,
 zM 4 37])
 .ret))))⟩
def Ih:aB:=⟨29,[.cell 4 5 true,.tmp 5],
 (.seq (.ops [⟨some 4,none,.a (.alloc [zz,zz,.aD,.aD,zz]),[]⟩,
 zV 5 0])
 (.seq (.seq (.ops [zM 7 0,
 oU 8 137 7,
 zM 6 8])
 (.seq (.ops [zM 9 6,
 zP 10 (.bin .neq) [.t 9,zI 0]])
 (.cond (.t 10)
 (.seq (.ops [zP 11 (.build [zz,zz,.aD,.aD,zz] []) [],
 zM 12 6,
 zS 5 [.t 4,.t 11],
 zM 5 12])
 .ret)
 .skip)))
 (.seq (.seq (.ops [zM 13 1,
 zP 14 (.bin .lss) [.t 13,zI 0],
 zM 15 14,
 cG 16 1 15 false,
 cG 17 0 15 false,
 bt 18 .bO [.t 17] 15 false,
 bt 19 (.bin .geq) [.t 16,.t 18] 15 false,
 zP 20 .pick [.t 15,.c (.bool true),.t 19]])
 (.cond (.t 20)
 (.seq (.ops [zP 21 (.build [zz,zz,.aD,.aD,zz] []) [],
 zS 5 [.t 4,.t 21],
 zV 5 9])
 .ret)
 .skip))
 (.seq (.ops [zM 22 0,
 zM 23 1,
 zR 24 (.aE 3) 22 23,
 zO 25 3 24,
 zM 26 0,
 zM 27 1,
 zP 28 (.build [zz,zz,.aD,.aD,zz] [(0,3),(3,1),(4,1)]) [.t 25,.t 26,.t 27],
 zS 5 [.t 4,.t 28],
 zV 5 0])
 .ret))))⟩
def qW:AC:=(.ops [⟨some 5,none,.a (.alloc [zz,zz,.aD]),[]⟩,
 zS 3 [.t 5,.t 13]])
def qX:AC:=(.block 1 (.ops [zL 14 4,
 zF 15 5 0,
 zL 16 15,
 zP 17 (.bin .mul) [zI 2,.t 16],
 zR 18 (.bin .add) 14 17,
 zS 1 [.t 4,.t 18]]))
def Ii:aB:=⟨20,[.cell 4 1 false],
 (.seq (.ops [zB 2 0,
 zB 3 1,
 ⟨some 4,none,.a (.alloc [zz]),[]⟩])
 (.seq (.seq (.ops [zF 6 3 5,
 zL 7 6,
 zP 8 (.bin .eql) [.t 7,zI 0]])
 (.cond (.t 8)
 (.seq (.ops [zS 1 [.t 4,zI 0]])
 .ret)
 .skip))
 (.seq (.seq (.ops [zO 9 5 2,
 zF 10 3 5,
 zL 11 10,
 jx 12 138 9 11])
 (.block 0 (.rangeFunc (.t 12) [13] qW qX)))
 (.seq (.ops [zL 19 4,
 zS 1 [.t 4,.t 19]])
 .ret))))⟩
def N1:aB:=⟨6,[.tmp 2],
 (.seq (.ops [zB 1 0,
 zK 2 (.bool false)])
 (.seq (.ops [zO 3 8 1,
 oU 4 127 3,
 zQ 5 .not 4,
 zM 2 5])
 .ret))⟩
def N2:aB:=⟨25,[.tmp 2],
 (.seq (.ops [zB 1 0,
 zK 2 (.bool false)])
 (.seq (.ops [zF 3 1 2,
 zL 4 3,
 zP 5 (.bin .leq) [zI 1,.t 4],
 zM 6 5,
 bN 7 1 2 6 true,
 bR 8 7 6 true,
 bN 9 1 1 6 true,
 bR 10 9 6 true,
 bt 11 (.bin .leq) [.t 8,.t 10] 6 true,
 zP 12 .pick [.t 6,.t 11,.c (.bool false)],
 zM 13 12,
 bN 14 1 1 13 true,
 bR 15 14 13 true,
 bN 16 1 0 13 true,
 bR 17 16 13 true,
 bt 18 (.bin .leq) [.t 15,.t 17] 13 true,
 zP 19 .pick [.t 13,.t 18,.c (.bool false)],
 zM 20 19,
 bN 21 1 0 20 true,
 bR 22 21 20 true,
 bt 23 (.bin .leq) [.t 22,zI 64] 20 true,
 zP 24 .pick [.t 20,.t 23,.c (.bool false)],
 zM 2 24])
 .ret))⟩
def N3:aB:=⟨9,[.tmp 4],
 (.seq (.ops [zK 4 (.bool false)])
 (.seq (.ops [zM 5 0,
 zM 6 1,
 jx 7 139 5 6,
 zP 8 (.bin .geq) [.t 7,zI 0],
 zM 4 8])
 .ret))⟩
def yj:AC:=(.seq (.ops [zR 9 (.bin .lss) 8 7])
 (.seq (.cond (.t 9)
 .skip
 (.exit 0))
 (.seq (.block 1 (.seq (.ops [zR 10 (.aE 1) 6 8,
 zL 11 10,
 zM 5 11])
 (.ops [zM 12 0,
 zM 13 5,
 ⟨some 14,none,.call,[.t 12,.t 13]⟩])))
 (.ops [zP 15 (.bin .add) [.t 8,zI 1],
 zM 8 15]))))
def N4:aB:=⟨16,[],
 (.seq (.ops [zM 6 1,
 zQ 7 .bO 6,
 zV 8 0])
 (.block 0 (.loop yj)))⟩
def N5:aB:=⟨37,[],
 (.seq (.ops [zM 6 0,
 zN 7 6,
 zF 8 7 1,
 zL 9 8,
 zP 10 (.bin .eql) [.t 9,zI 0]])
 (.cond (.t 10)
 (.seq (.ops [zM 12 0,
 zN 13 12,
 zF 14 13 0,
 zL 15 14,
 zM 16 1,
 jx 17 105 15 16,
 zM 11 17,
 zQ 18 (.ext 0) 11,
 zQ 19 (.ext 1) 11,
 zM 4 18,
 zM 5 19])
 (.bH [zM 21 0,
 zM 22 0,
 zM 23 0,
 zN 24 23,
 zF 25 24 0,
 zL 26 25,
 zM 27 1,
 zM 28 4,
 zR 29 (.bin .quo) 27 28,
 jx 30 140 26 29,
 zM 20 30,
 zQ 31 (.ext 0) 20,
 zQ 32 (.ext 1) 20,
 zN 33 21,
 zF 34 33 0,
 zS 1 [.t 34,.t 31],
 zN 35 22,
 zF 36 35 1,
 zS 1 [.t 36,.t 32]] [[],[],[],[],[],[],[],[],[],[],[],[],[],[],[],[],[],[],[]]))
 .skip))⟩
def N6:aB:=⟨16,[.tmp 4,.tmp 5],
 (.seq (.ops [zV 4 0,
 zV 5 0])
 (.seq (.seq (.ops [zM 6 1,
 zP 7 (.bin .eql) [.t 6,zI 0],
 zM 8 7,
 cG 9 0 8 true,
 bt 10 (.bin .gtr) [.t 9,zI 1099511627776] 8 true,
 zP 11 .pick [.t 8,.t 10,.c (.bool false)]])
 (.cond (.t 11)
 (.ops [zV 1 10])
 .skip))
 (.seq (.seq (.ops [zM 12 1,
 zP 13 (.bin .neq) [.t 12,zI 0]])
 (.cond (.t 13)
 (.seq (.ops [zM 14 1,
 zV 4 0,
 zM 5 14])
 .ret)
 .skip))
 (.seq (.ops [zM 15 0,
 zM 4 15,
 zV 5 0])
 .ret))))⟩
def N7:aB:=⟨9,[.tmp 4],
 (.seq (.ops [zK 4 (.bool false)])
 (.seq (.ops [zM 5 0,
 zM 6 1,
 jx 7 141 5 6,
 zP 8 (.bin .geq) [.t 7,zI 0],
 zM 4 8])
 .ret))⟩
def N8:aB:=⟨9,[.tmp 2],
 (.seq (.ops [zK 2 (.bool false)])
 (.seq (.ops [zM 3 0,
 zP 4 (.bin .lss) [.t 3,zI 0],
 zM 5 4,
 cG 6 0 5 false,
 bt 7 (.bin .gtr) [.t 6,zI 32768] 5 false,
 zP 8 .pick [.t 5,.c (.bool true),.t 7],
 zM 2 8])
 .ret))⟩
def Oa:aB:=⟨27,[.tmp 6,.tmp 7],
 (.seq (.ops [zB 5 2,
 zV 6 0,
 zV 7 0])
 (.seq (.seq (.ops [zM 9 0,
 zM 10 1,
 jx 11 116 9 10,
 zM 8 11])
 (.seq (.ops [zM 12 8,
 zP 13 (.bin .neq) [.t 12,zI 0],
 zM 14 13,
 bR 15 5 14 false,
 bt 16 (.bin .lss) [.t 15,zI 0] 14 false,
 zP 17 .pick [.t 14,.c (.bool true),.t 16],
 zM 18 17,
 bR 19 5 18 false,
 bt 20 (.bin .gtr) [.t 19,zI 1048576] 18 false,
 zP 21 .pick [.t 18,.c (.bool true),.t 20]])
 (.cond (.t 21)
 (.seq (.ops [zV 6 0,
 zV 7 2])
 .ret)
 .skip)))
 (.seq (.ops [zM 22 0,
 zM 23 1,
 zQ 24 (.gJ (.func 142) 0) 5,
 E7 25 119 22 23 24,
 oU 26 118 25,
 zM 6 26,
 zV 7 0])
 .ret)))⟩
def Ob:aB:=⟨29,[.tmp 6,.tmp 7],
 (.seq (.ops [zV 6 0,
 zV 7 0])
 (.seq (.ops [zM 11 0,
 zM 12 1,
 jx 13 143 11 12,
 zM 10 13,
 zQ 14 (.ext 0) 10,
 zQ 15 (.ext 1) 10,
 ⟨some 8,none,.a (.alloc [zz,zz]),[]⟩,
 zS 2 [.t 8,.t 14],
 zM 9 15])
 (.seq (.seq (.ops [zM 16 9,
 zQ 17 .not 16,
 zM 18 17,
 cG 19 2 18 false,
 bt 20 (.bin .lss) [.t 19,zI 0] 18 false,
 zP 21 .pick [.t 18,.c (.bool true),.t 20],
 zM 22 21,
 cG 23 2 22 false,
 bt 24 (.bin .gtr) [.t 23,zI 1048576] 22 false,
 zP 25 .pick [.t 22,.c (.bool true),.t 24]])
 (.cond (.t 25)
 (.seq (.ops [zV 6 0,
 zV 7 2])
 .ret)
 .skip))
 (.seq (.ops [zO 26 2 8,
 zM 27 2,
 jx 28 144 26 27,
 zM 6 28,
 zV 7 0])
 .ret))))⟩
def Ca:AC:=(.seq (.ops [zR 29 (.bin .lss) 28 27])
 (.seq (.cond (.t 29)
 .skip
 (.exit 1))
 (.seq (.block 2 (.seq (.ops [zR 30 (.aE 8) 26 28,
 zO 31 8 30,
 ⟨some 10,none,.a (.alloc [zz,zz,zz,zz,zz,zz,zz,zz]),[]⟩,
 zS 8 [.t 10,.t 31]])
 (.seq (.ops [zF 32 10 1,
 zL 33 32,
 zM 34 2,
 zR 35 (.bin .gtr) 33 34])
 (.cond (.t 35)
 (.ops [zM 36 6,
 zO 37 5 8,
 zO 38 8 10,
 jx 39 145 37 38,
 zR 40 .mx 36 39,
 zM 6 40])
 .skip))))
 (.ops [zP 41 (.bin .add) [.t 28,zI 1],
 zM 28 41]))))
def Oc:aB:=⟨43,[.tmp 6,.tmp 7],
 (.seq (.ops [zV 6 0,
 zV 7 0])
 (.seq (.ops [zM 12 0,
 zM 13 1,
 jx 14 124 12 13,
 zM 11 14,
 zQ 15 (.ext 0) 11,
 zQ 16 (.ext 1) 11,
 ⟨some 8,none,.a (.alloc [zz,zz,.aD,.aD,zz]),[]⟩,
 zS 5 [.t 8,.t 15],
 zM 7 16])
 (.seq (.block 0 (.seq (.ops [zM 18 7,
 zP 19 (.bin .neq) [.t 18,zI 0],
 zM 17 19])
 (.cond (.t 17)
 (.seq (.ops [zM 20 7,
 zV 6 0,
 zM 7 20])
 .ret)
 (.seq (.ops [zM 22 2,
 zP 23 (.bin .lss) [.t 22,zI 0],
 zM 21 23])
 (.cond (.t 21)
 (.seq (.ops [zV 6 0,
 zV 7 2])
 .ret)
 .skip)))))
 (.seq (.seq (.ops [zF 24 8 0,
 zF 25 24 2,
 zL 26 25,
 zQ 27 .bO 26,
 zV 28 0])
 (.block 1 (.loop Ca)))
 (.seq (.ops [zM 42 6,
 zM 6 42,
 zV 7 0])
 .ret)))))⟩
def xH:AC:=(.seq (.ops [zR 12 (.bin .lss) 11 10])
 (.seq (.cond (.t 12)
 .skip
 (.exit 0))
 (.seq (.block 1 (.seq (.ops [zR 13 (.aE 3) 9 11,
 zO 14 3 13,
 ⟨some 4,none,.a (.alloc [zz,zz,.aD]),[]⟩,
 zS 3 [.t 4,.t 14]])
 (.seq (.seq (.ops [zF 15 4 0,
 zL 16 15,
 zP 17 (.bin .lss) [.t 16,zI 1],
 zM 18 17,
 bN 19 4 0 18 false,
 bR 20 19 18 false,
 bt 21 (.bin .gtr) [.t 20,zI 64] 18 false,
 zP 22 .pick [.t 18,.c (.bool true),.t 21],
 zM 23 22,
 bN 24 4 1 23 false,
 bR 25 24 23 false,
 bt 26 (.bin .lss) [.t 25,zI 1] 23 false,
 zP 27 .pick [.t 23,.c (.bool true),.t 26],
 zM 28 27,
 bN 29 4 1 28 false,
 bR 30 29 28 false,
 bN 31 4 0 28 false,
 bR 32 31 28 false,
 bt 33 (.bin .gtr) [.t 30,.t 32] 28 false,
 zP 34 .pick [.t 28,.c (.bool true),.t 33]])
 (.cond (.t 34)
 (.seq (.ops [zV 2 2])
 .ret)
 .skip))
 (.seq (.seq (.bH [zF 35 4 2,
 zL 36 35,
 zF 37 4 2,
 zL 38 37,
 zQ 39 .bO 38,
 ⟨some 40,none,.a (.m0 [zz] 1 8),[.t 39,.t 39]⟩,
 jx 41 116 36 40,
 zM 5 41] [[],[],[],[],[],[],[],[]])
 (.seq (.ops [zM 42 5,
 zP 43 (.bin .neq) [.t 42,zI 0]])
 (.cond (.t 43)
 (.seq (.ops [zM 44 5,
 zM 2 44])
 .ret)
 .skip)))
 (.seq (.ops [zF 45 4 2,
 zL 46 45,
 zQ 47 (.gJ (.func 146) 0) 4,
 jx 48 80 46 47])
 (.cond (.t 48)
 (.seq (.ops [zV 2 2])
 .ret)
 .skip))))))
 (.ops [zP 49 (.bin .add) [.t 11,zI 1],
 zM 11 49]))))
def Od:aB:=⟨50,[.tmp 2],
 (.seq (.ops [zV 2 0])
 (.seq (.seq (.ops [zM 6 0,
 zQ 7 .bO 6,
 zP 8 (.bin .gtr) [.t 7,zI 4]])
 (.cond (.t 8)
 (.seq (.ops [zV 2 2])
 .ret)
 .skip))
 (.seq (.seq (.ops [zM 9 0,
 zQ 10 .bO 9,
 zV 11 0])
 (.block 0 (.loop xH)))
 (.seq (.ops [zV 2 0])
 .ret))))⟩
end Ir
end Go.Proofs.Ytepdklcpagielaa
