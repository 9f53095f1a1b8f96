/-
  What the program's functions are in Ads, printed by a program.
-/
import Derived.Test.YtnlcabhfkpafmaaGreatAdsDef
set_option linter.unusedVariables false
set_option maxRecDepth 100000
namespace Go.Proofs.YtnlcabhfkpafmaaGreat
open Go Ads
namespace Ir
abbrev zM(d s:Nat):bE:=⟨some d,none,.p .NN,[.t s]⟩
abbrev zF(d s o:Nat):bE:=⟨some d,none,.p (.vH o),[.t s]⟩
abbrev zN(d s:Nat):bE:=⟨some d,none,.p .o5,[.t s]⟩
abbrev zL(d s:Nat):bE:=⟨some d,none,.r .ck,[.t s]⟩
abbrev bV(d s g:Nat)(b:Bool):bE:=⟨some d,some (g,b),.p .NN,[.t s]⟩
abbrev fG(d s o g:Nat)(b:Bool):bE:=⟨some d,some (g,b),.p (.vH o),[.t s]⟩
abbrev lA(d s g:Nat)(b:Bool):bE:=⟨some d,some (g,b),.p .o5,[.t s]⟩
abbrev fA(d s g:Nat)(b:Bool):bE:=⟨some d,some (g,b),.r .ck,[.t s]⟩
abbrev zP(d:Nat)(o:qx)(l:List bH):bE:=⟨some d,none,.p o,l⟩
abbrev cw(d:Nat)(o:qx)(l:List bH)(g:Nat)(b:Bool):bE:=⟨some d,some (g,b),.p o,l⟩
abbrev zS(n:Nat)(l:List bH):bE:=⟨none,none,.e (.store n),l⟩
abbrev zz:AV:=.int .i64 0
abbrev zI(n:Int):bH:=.c (.int .i64 n)
abbrev zC(d f:Nat)(l:List bH):bE:=⟨some d,none,.call,.c (.func (.func f) [] [])::l⟩
abbrev oE(d f:Nat)(l:List bH)(g:Nat)(b:Bool):bE:=⟨some d,some (g,b),.call,.c (.func (.func f) [] [])::l⟩
abbrev ZQ(d f:Nat):bE:=⟨some d,none,.call,[.c (.func (.func f) [] [])]⟩
abbrev dS(d f v:Nat):bE:=⟨some d,none,.call,[.c (.func (.func f) [] []),.t v]⟩
abbrev eF(d f v w:Nat):bE:=⟨some d,none,.call,[.c (.func (.func f) [] []),.t v,.t w]⟩
abbrev xO(d f v w x:Nat):bE:=⟨some d,none,.call,[.c (.func (.func f) [] []),.t v,.t w,.t x]⟩
abbrev PN(d f v w x y:Nat):bE:=⟨some d,none,.call,[.c (.func (.func f) [] []),.t v,.t w,.t x,.t y]⟩
abbrev UX(d f v w x y z:Nat):bE:=⟨some d,none,.call,[.c (.func (.func f) [] []),.t v,.t w,.t x,.t y,.t z]⟩
abbrev zQ(d:Nat)(o:qx)(a:Nat):bE:=⟨some d,none,.p o,[.t a]⟩
abbrev zR(d:Nat)(o:qx)(a b:Nat):bE:=⟨some d,none,.p o,[.t a,.t b]⟩
abbrev zO(d n s:Nat):bE:=⟨some d,none,.r (.aZ n),[.t s]⟩
abbrev zV(d:Nat)(n:Int):bE:=⟨some d,none,.p .NN,[.c (.int .i64 n)]⟩
abbrev zK(d:Nat)(v:AV):bE:=⟨some d,none,.p .NN,[.c v]⟩
abbrev zB(d s:Nat):bE:=⟨some d,none,.a .box,[.t s]⟩
abbrev zA(d n b x y:Nat):bE:=⟨some d,none,.e (.append n b),[.t x,.t y]⟩
def fB:AC:=(.seq (.seq (.ops [zM 32 10,
 zM 33 1,
 zQ 34 .bL 33,
 zR 35 (.bin .lss) 32 34,
 zM 36 35,
 bV 37 10 36 true,
 cw 38 (.bin .lss) [.t 37,zI 80] 36 true,
 zP 39 .pick [.t 36,.t 38,.c (.bool false)],
 zM 40 39,
 bV 41 8 40 true,
 cw 42 (.bin .eql) [.t 41,zI 0] 40 true,
 zP 43 .pick [.t 40,.t 42,.c (.bool false)]])
 (.cond (.t 43)
 .skip
 (.exit 0)))
 (.seq (.block 1 (.seq (.ops [zM 46 1,
 zM 47 10,
 zR 48 (.az 4) 46 47,
 zF 49 48 1,
 zL 50 49,
 zM 11 50])
 (.seq (.seq (.ops [zM 51 11,
 zP 52 (.bin .lss) [.t 51,zI 0]])
 (.cond (.t 52)
 (.ops [zM 54 7,
 dS 55 17 54,
 zM 53 55,
 zQ 56 (.ext 0) 53,
 zQ 57 (.ext 1) 53,
 zM 11 56])
 .skip))
 (.seq (.seq (.ops [zM 58 1,
 zM 59 10,
 zR 60 (.az 4) 58 59,
 zF 61 60 0,
 zL 62 61,
 zC 63 12 [.t 62,zI 10],
 zP 64 (.bin .lss) [.t 63,zI 4]])
 (.cond (.t 64)
 (.ops [zM 65 9,
 zM 66 1,
 zM 67 10,
 zR 68 (.az 4) 66 67,
 zF 69 68 2,
 zL 70 69,
 zC 71 12 [.t 70,zI 9],
 zR 72 (.bin .add) 65 71,
 zM 9 72])
 .skip))
 (.seq (.ops [zM 73 5,
 zM 74 7,
 zM 75 1,
 zM 76 10,
 zR 77 (.az 4) 75 76,
 zO 78 4 77,
 zM 79 11,
 zM 80 9,
 UX 81 18 73 74 78 79 80,
 zQ 82 .not 81,
 zM 83 82,
 bV 84 5 83 false,
 bV 85 7 83 false,
 bV 86 9 83 false,
 oE 87 19 [.t 84,.t 85,.t 86] 83 false,
 cw 88 .not [.t 87] 83 false,
 zP 89 .pick [.t 83,.c (.bool true),.t 88]])
 (.cond (.t 89)
 (.seq (.ops [zK 4 (.bool false)])
 .ret)
 .skip))))))
 (.ops [zM 44 10,
 zP 45 (.bin .add) [.t 44,zI 1],
 zM 10 45])))
def C5:an:=⟨91,[.tmp 4],
 (.seq (.ops [zK 4 (.bool false)])
 (.seq (.ops [zM 13 0,
 dS 14 9 13,
 zM 12 14,
 zQ 15 (.ext 0) 12,
 zQ 16 (.ext 1) 12,
 zM 5 15,
 zM 6 16])
 (.seq (.ops [zM 18 0,
 dS 19 16 18,
 zM 17 19,
 zQ 20 (.ext 0) 17,
 zQ 21 (.ext 1) 17,
 zM 7 20,
 zM 8 21])
 (.seq (.seq (.ops [zM 22 6,
 zM 23 8,
 zR 24 (.bin .neq) 22 23,
 zM 25 24,
 bV 26 5 25 false,
 cw 27 (.eq .cQ) [.t 26,.c .aQ] 25 false,
 bV 28 6 25 false,
 cw 29 (.bin .neq) [.t 28,zI 0] 25 false,
 cw 30 (.neq .bool) [.t 27,.t 29] 25 false,
 zP 31 .pick [.t 25,.c (.bool true),.t 30]])
 (.cond (.t 31)
 (.seq (.ops [zK 4 (.bool false)])
 .ret)
 .skip))
 (.seq (.ops [zV 9 0])
 (.seq (.seq (.ops [zV 10 0])
 (.block 0 (.loop fB)))
 (.seq (.ops [ZQ 90 7,
 zM 4 90])
 .ret)))))))⟩
def C7:an:=⟨114,[.tmp 0],
 (.seq (.ops [zK 0 (.bool false)])
 (.seq (.ops [zP 10 (.build [zz,zz,zz,zz,zz,zz,zz,zz] [(0,1),(1,1),(2,1),(3,1),(4,1)]) [zI 20,zI 10,zI 4,zI 1,zI 1],
 zP 11 (.build [zz,zz,zz,zz,zz,zz,zz,zz] [(0,1),(1,1),(2,1),(3,1),(4,1)]) [zI 30,zI 20,zI 6,zI 1,zI 3],
 ⟨some 12,none,.a (.de [zz,zz,zz,zz,zz,zz,zz,zz] 2 8 [0,1]),[.t 10,.t 11]⟩,
 zM 1 12])
 (.seq (.ops [zM 14 1,
 dS 15 9 14,
 zM 13 15,
 zQ 16 (.ext 0) 13,
 zQ 17 (.ext 1) 13,
 zM 2 16,
 zM 3 17])
 (.seq (.seq (.ops [zM 18 3,
 zP 19 (.bin .neq) [.t 18,zI 0],
 zM 20 19,
 bV 21 2 20 false,
 cw 22 (.eq .cQ) [.t 21,.c .aQ] 20 false,
 zP 23 .pick [.t 20,.c (.bool true),.t 22]])
 (.cond (.t 23)
 (.seq (.ops [zK 0 (.bool false)])
 .ret)
 .skip))
 (.seq (.ops [zP 24 (.build [zz,zz,(.str [])] [(0,1)]) [zI 2],
 zP 25 (.build [zz,zz,(.str [])] [(0,1),(1,1)]) [zI 1,zI 3],
 zP 26 (.build [zz,zz,(.str [])] [(0,1)]) [zI 3],
 zP 27 (.build [zz,zz,(.str [])] [(0,1),(1,1)]) [zI 1,zI 3],
 ⟨some 28,none,.a (.de [zz,zz,(.str [])] 4 3 [0,1,2,3]),[.t 24,.t 25,.t 26,.t 27]⟩,
 zM 4 28])
 (.seq (.ops [zP 29 (.build [zz,zz,(.str [])] [(0,1),(1,1)]) [zI 1,zI 2],
 ⟨some 30,none,.a (.de [zz,zz,(.str [])] 1 3 [0]),[.t 29]⟩,
 zM 5 30])
 (.seq (.ops [zM 31 2,
 zM 32 4,
 zC 33 28 [.t 31,zI 1,.t 32,zI 0],
 zP 34 (.bin .eql) [.t 33,zI 0],
 zM 35 34,
 bV 36 2 35 true,
 oE 37 31 [.t 36,zI 1] 35 true,
 zP 38 .pick [.t 35,.t 37,.c (.bool false)],
 zM 39 38,
 bV 40 2 39 true,
 oE 41 22 [.t 40,zI 1,zI 0] 39 true,
 cw 42 (.bin .eql) [.t 41,zI 0] 39 true,
 zP 43 .pick [.t 39,.t 42,.c (.bool false)],
 zM 44 43,
 bV 45 2 44 true,
 oE 46 20 [.t 45,zI 1] 44 true,
 cw 47 (.bin .eql) [.t 46,zI 0] 44 true,
 zP 48 .pick [.t 44,.t 47,.c (.bool false)],
 zM 6 48])
 (.seq (.ops [zM 49 2,
 zM 50 5,
 zC 51 28 [.t 49,zI 0,.t 50,zI 1],
 zP 52 (.bin .eql) [.t 51,zI 0],
 zM 53 52,
 bV 54 2 53 true,
 oE 55 31 [.t 54,zI 1] 53 true,
 zP 56 .pick [.t 53,.t 55,.c (.bool false)],
 zM 7 56])
 (.seq (.ops [zM 57 2,
 zC 58 21 [.t 57,zI 1],
 zP 59 (.bin .eql) [.t 58,zI 0],
 zM 60 59,
 bV 61 2 60 true,
 oE 62 21 [.t 61,zI 1] 60 true,
 cw 63 (.bin .eql) [.t 62,zI 0] 60 true,
 zP 64 .pick [.t 60,.t 63,.c (.bool false)],
 zM 65 64,
 bV 66 2 65 true,
 oE 67 21 [.t 66,zI 1] 65 true,
 cw 68 (.bin .eql) [.t 67,zI 0] 65 true,
 zP 69 .pick [.t 65,.t 68,.c (.bool false)],
 zM 70 69,
 bV 71 2 70 true,
 oE 72 23 [.t 71,zI 1] 70 true,
 cw 73 (.bin .eql) [.t 72,zI 0] 70 true,
 zP 74 .pick [.t 70,.t 73,.c (.bool false)],
 zM 75 74,
 bV 76 2 75 true,
 oE 77 20 [.t 76,zI 1] 75 true,
 cw 78 (.bin .eql) [.t 77,zI 0] 75 true,
 zP 79 .pick [.t 75,.t 78,.c (.bool false)],
 zM 80 79,
 bV 81 2 80 true,
 oE 82 31 [.t 81,zI 0] 80 true,
 zP 83 .pick [.t 80,.t 82,.c (.bool false)],
 zM 8 83])
 (.seq (.ops [zM 84 2,
 zM 85 5,
 zC 86 28 [.t 84,zI 0,.t 85,zI 25],
 zP 87 (.bin .eql) [.t 86,zI 141],
 zM 88 87,
 bV 89 2 88 true,
 oE 90 27 [.t 89,zI 0] 88 true,
 zP 91 .pick [.t 88,.t 90,.c (.bool false)],
 zM 92 91,
 bV 93 2 92 true,
 bV 94 5 92 true,
 oE 95 28 [.t 93,zI 0,.t 94,zI 15] 92 true,
 cw 96 (.bin .eql) [.t 95,zI 140] 92 true,
 zP 97 .pick [.t 92,.t 96,.c (.bool false)],
 zM 98 97,
 bV 99 2 98 true,
 bV 100 5 98 true,
 oE 101 28 [.t 99,zI 0,.t 100,zI 21] 98 true,
 cw 102 (.bin .eql) [.t 101,zI 0] 98 true,
 zP 103 .pick [.t 98,.t 102,.c (.bool false)],
 zM 9 103])
 (.seq (.ops [zM 104 6,
 zM 105 104,
 bV 106 7 105 true,
 zP 107 .pick [.t 105,.t 106,.c (.bool false)],
 zM 108 107,
 bV 109 8 108 true,
 zP 110 .pick [.t 108,.t 109,.c (.bool false)],
 zM 111 110,
 bV 112 9 111 true,
 zP 113 .pick [.t 111,.t 112,.c (.bool false)],
 zM 0 113])
 .ret)))))))))))⟩
def rW:AC:=(.seq (.ops [zR 28 (.bin .lss) 27 26])
 (.seq (.cond (.t 28)
 .skip
 (.exit 0))
 (.seq (.block 1 (.seq (.ops [zR 29 (.az 8) 25 27,
 zO 30 8 29,
 ⟨some 7,none,.a (.alloc [zz,zz,zz,zz,zz,zz,zz,zz]),[]⟩,
 zS 8 [.t 7,.t 30]])
 (.seq (.ops [zF 32 7 0,
 zL 33 32,
 dS 34 37 33,
 zM 31 34,
 zQ 35 (.ext 0) 31,
 zQ 36 (.ext 1) 31,
 zM 8 35,
 zM 9 36])
 (.ops [zM 37 5,
 zM 38 5,
 zN 39 38,
 zF 40 39 3,
 zL 41 40,
 zM 42 8,
 ⟨some 43,none,.a (.de [.aQ] 1 1 [0]),[.t 42]⟩,
 zA 44 1 8 41 43,
 zN 45 37,
 zF 46 45 3,
 zS 1 [.t 46,.t 44]]))))
 (.ops [zP 47 (.bin .add) [.t 27,zI 1],
 zM 27 47]))))
def C9:an:=⟨66,[.tmp 2,.tmp 3],
 (.seq (.ops [zK 2 .aQ,
 zV 3 0])
 (.seq (.seq (.ops [zM 10 0,
 zM 11 0,
 zQ 12 .bL 11,
 ⟨some 13,none,.a (.jT [zz] 1 8),[.t 12,.t 12]⟩,
 eF 14 10 10 13,
 zM 4 14])
 (.seq (.ops [zM 15 4,
 zP 16 (.bin .neq) [.t 15,zI 0]])
 (.cond (.t 16)
 (.seq (.ops [zM 17 4,
 zK 2 .aQ,
 zM 3 17])
 .ret)
 .skip)))
 (.seq (.cn [zM 18 0,
 dS 19 36 18,
 zM 20 0,
 zQ 21 .bL 20,
 ⟨some 22,none,.a (.jT [.aQ] 1 8),[.t 21,.t 21]⟩,
 zR 23 (.build [.aQ,.aQ,.aL,.aL,.aL] [(2,1),(4,1)]) 19 22,
 zB 24 23,
 zM 5 24] [[],[],[],[],[],[],[],[]])
 (.seq (.seq (.ops [zM 25 0,
 zQ 26 .bL 25,
 zV 27 0])
 (.block 0 (.loop rW)))
 (.seq (.ops [zM 49 5,
 zM 50 0,
 dS 51 38 50,
 zM 48 51,
 zQ 52 (.ext 0) 48,
 zQ 53 (.ext 1) 48,
 zN 54 49,
 zF 55 54 0,
 zS 1 [.t 55,.t 52]])
 (.seq (.ops [zM 57 5,
 zM 58 0,
 zQ 59 .bL 58,
 dS 60 39 59,
 zM 56 60,
 zQ 61 (.ext 0) 56,
 zQ 62 (.ext 1) 56,
 zN 63 57,
 zF 64 63 1,
 zS 1 [.t 64,.t 61]])
 (.seq (.ops [zM 65 5,
 zM 2 65,
 zV 3 0])
 .ret)))))))⟩
def UY:an:=⟨21,[.tmp 4],
 (.seq (.ops [zV 4 0])
 (.seq (.ops [zM 6 1,
 zC 7 40 [.t 6,.c (.func (.func 41) [] [])],
 zM 5 7])
 (.seq (.seq (.ops [zM 8 5,
 zM 9 8,
 bV 10 0 9 false,
 oE 11 42 [.t 10] 9 false,
 cw 12 .not [.t 11] 9 false,
 zP 13 .pick [.t 9,.c (.bool true),.t 12],
 zM 14 13,
 bV 15 1 14 false,
 cw 16 .bL [.t 15] 14 false,
 bV 17 0 14 false,
 cw 18 .bL [.t 17] 14 false,
 cw 19 (.bin .neq) [.t 16,.t 18] 14 false,
 zP 20 .pick [.t 14,.c (.bool true),.t 19]])
 (.cond (.t 20)
 (.seq (.ops [zV 4 2])
 .ret)
 .skip))
 (.seq (.ops [zV 4 0])
 .ret))))⟩
def UZ:an:=⟨14,[.tmp 4],
 (.seq (.ops [zV 4 0])
 (.seq (.ops [zM 5 0,
 zM 6 1,
 zR 7 (.bin .rem) 5 6,
 zM 0 7])
 (.seq (.seq (.ops [zM 8 0,
 zP 9 (.bin .lss) [.t 8,zI 0]])
 (.cond (.t 9)
 (.ops [zM 10 0,
 zM 11 1,
 zR 12 (.bin .add) 10 11,
 zM 0 12])
 .skip))
 (.seq (.ops [zM 13 0,
 zM 4 13])
 .ret))))⟩
def U0:an:=⟨18,[.tmp 4,.tmp 5],
 (.seq (.ops [zV 4 0,
 zK 5 (.bool false)])
 (.seq (.ops [zM 9 0,
 zM 10 1,
 eF 11 46 9 10,
 zM 8 11,
 zQ 12 (.ext 0) 8,
 zQ 13 (.ext 1) 8,
 zM 6 12,
 zM 7 13])
 (.seq (.seq (.ops [zM 14 7,
 zP 15 (.bin .neq) [.t 14,zI 0]])
 (.cond (.t 15)
 (.seq (.ops [zV 4 0,
 zK 5 (.bool false)])
 .ret)
 .skip))
 (.seq (.ops [zM 16 6,
 dS 17 47 16,
 zM 4 17,
 zK 5 (.bool true)])
 .ret))))⟩
def U1:an:=⟨21,[.tmp 4],
 (.seq (.ops [zK 4 .aL])
 (.seq (.seq (.ops [zM 8 0,
 zM 9 1,
 eF 10 46 8 9,
 zM 7 10,
 zQ 11 (.ext 0) 7,
 zQ 12 (.ext 1) 7,
 zM 5 11,
 zM 6 12])
 (.seq (.ops [zM 13 6,
 zP 14 (.bin .neq) [.t 13,zI 0]])
 (.cond (.t 14)
 (.seq (.ops [zK 4 .aL])
 .ret)
 .skip)))
 (.seq (.ops [zM 15 0,
 zN 16 15,
 zF 17 16 0,
 zL 18 17,
 zM 19 1,
 eF 20 48 18 19,
 zM 4 20])
 .ret)))⟩
def U2:an:=⟨60,[.tmp 2,.tmp 3],
 (.seq (.ops [zV 2 0,
 zK 3 (.bool false)])
 (.seq (.seq (.ops [zM 9 0,
 dS 10 49 9])
 (.cond (.t 10)
 (.seq (.ops [zV 2 0,
 zK 3 (.bool false)])
 .ret)
 .skip))
 (.seq (.seq (.ops [zM 12 0,
 dS 13 30 12,
 zM 11 13,
 zQ 14 (.ext 0) 11,
 zQ 15 (.ext 1) 11,
 zQ 16 (.ext 2) 11,
 zM 4 14,
 zM 5 15,
 zM 6 16])
 (.seq (.ops [zM 17 6])
 (.cond (.t 17)
 (.seq (.ops [zM 18 4,
 zM 2 18,
 zK 3 (.bool true)])
 .ret)
 .skip)))
 (.seq (.ops [zM 20 0,
 zN 21 20,
 zF 22 21 1,
 zL 23 22,
 dS 24 50 23,
 zM 19 24,
 zQ 25 (.ext 0) 19,
 zQ 26 (.ext 1) 19,
 zQ 27 (.ext 2) 19,
 zM 7 25,
 zM 8 26,
 zM 3 27])
 (.seq (.block 0 (.seq (.ops [zM 29 3,
 zQ 30 .not 29,
 zM 28 30])
 (.cond (.t 28)
 (.seq (.ops [zV 2 0,
 zK 3 (.bool false)])
 .ret)
 (.seq (.seq (.ops [zM 32 0,
 zN 33 32,
 zF 34 33 4,
 zL 35 34,
 zM 36 7,
 zR 37 (.az 1) 35 36,
 zL 38 37,
 dS 39 51 38,
 zM 31 39])
 (.cond (.t 31)
 .skip
 (.cn [zM 40 0,
 zN 41 40,
 zF 42 41 2,
 zL 43 42,
 zM 44 7,
 eF 45 52 43 44,
 zM 46 0,
 zN 47 46,
 zF 48 47 0,
 zL 49 48,
 dS 50 53 49,
 zR 51 (.bin .gtr) 45 50,
 zM 31 51] [[],[],[],[],[],[],[],[],[],[0,6],[],[],[]])))
 (.cond (.t 31)
 (.seq (.ops [zM 52 7,
 zM 2 52,
 zK 3 (.bool true)])
 .ret)
 .skip)))))
 (.seq (.ops [zM 53 0,
 zN 54 53,
 zF 55 54 0,
 zL 56 55,
 dS 57 54 56,
 zQ 58 (.ext 0) 57,
 zQ 59 (.ext 1) 57,
 zM 2 58,
 zM 3 59])
 .ret))))))⟩
def iZ:AC:=(.seq (.seq (.ops [zM 23 5,
 zM 24 0,
 zQ 25 .bL 24,
 zR 26 (.bin .lss) 23 25])
 (.cond (.t 26)
 .skip
 (.exit 0)))
 (.seq (.block 1 (.seq (.ops [zM 30 0,
 zM 31 5,
 zR 32 (.az 8) 30 31,
 zF 33 32 0,
 zL 34 33,
 dS 35 56 34,
 zM 29 35,
 zQ 36 (.ext 0) 29,
 zQ 37 (.ext 1) 29,
 zM 6 36,
 zM 7 37])
 (.ops [zM 38 4,
 zM 39 4,
 zN 40 39,
 zF 41 40 1,
 zL 42 41,
 zM 43 6,
 ⟨some 44,none,.a (.de [.aQ] 1 1 [0]),[.t 43]⟩,
 zA 45 1 8 42 44,
 zN 46 38,
 zF 47 46 1,
 zS 1 [.t 47,.t 45]])))
 (.ops [zM 27 5,
 zP 28 (.bin .add) [.t 27,zI 1],
 zM 5 28])))
def U3:an:=⟨68,[.tmp 2,.tmp 3],
 (.seq (.ops [zK 2 .aQ,
 zV 3 0])
 (.seq (.seq (.ops [zM 12 0,
 dS 13 55 12,
 zQ 14 .not 13])
 (.cond (.t 14)
 (.seq (.ops [zK 2 .aQ,
 zV 3 2])
 .ret)
 .skip))
 (.seq (.cn [⟨some 15,none,.a (.de [zz,zz,zz,zz,zz,zz,zz,zz] 0 8 []),[]⟩,
 zM 16 0,
 zA 17 8 64 15 16,
 zM 18 0,
 zQ 19 .bL 18,
 ⟨some 20,none,.a (.jT [.aQ] 1 8),[.t 19,.t 19]⟩,
 zR 21 (.build [.aL,.aL,.aQ,.aQ,.aL] [(0,1),(4,1)]) 17 20,
 zB 22 21,
 zM 4 22] [[],[],[],[],[],[],[],[],[]])
 (.seq (.seq (.ops [zV 5 0])
 (.block 0 (.loop iZ)))
 (.seq (.ops [zM 49 0,
 zQ 50 .bL 49,
 dS 51 57 50,
 zM 48 51,
 zQ 52 (.ext 0) 48,
 zQ 53 (.ext 1) 48,
 zM 8 52,
 zM 9 53])
 (.seq (.ops [zM 55 0,
 dS 56 58 55,
 zM 54 56,
 zQ 57 (.ext 0) 54,
 zQ 58 (.ext 1) 54,
 zM 10 57,
 zM 11 58])
 (.seq (.ops [zM 59 4,
 zM 60 8,
 zN 61 59,
 zF 62 61 2,
 zS 1 [.t 62,.t 60]])
 (.seq (.ops [zM 63 4,
 zM 64 10,
 zN 65 63,
 zF 66 65 3,
 zS 1 [.t 66,.t 64]])
 (.seq (.ops [zM 67 4,
 zM 2 67,
 zV 3 0])
 .ret)))))))))⟩
def U4:an:=⟨61,[.tmp 2,.tmp 3],
 (.seq (.ops [zV 2 0,
 zK 3 (.bool false)])
 (.seq (.seq (.ops [zM 11 0,
 dS 12 59 11,
 zM 10 12,
 zQ 13 (.ext 0) 10,
 zQ 14 (.ext 1) 10,
 zQ 15 (.ext 2) 10,
 zM 4 13,
 zM 5 14,
 zM 6 15])
 (.seq (.ops [zM 16 6])
 (.cond (.t 16)
 (.seq (.ops [zM 17 4,
 zM 2 17,
 zK 3 (.bool true)])
 .ret)
 .skip)))
 (.seq (.ops [zM 19 0,
 zN 20 19,
 zF 21 20 2,
 zL 22 21,
 dS 23 60 22,
 zM 18 23,
 zQ 24 (.ext 0) 18,
 zQ 25 (.ext 1) 18,
 zQ 26 (.ext 2) 18,
 zM 7 24,
 zM 8 25,
 zM 9 26])
 (.seq (.seq (.ops [zM 27 9,
 zQ 28 .not 27])
 (.cond (.t 28)
 (.seq (.ops [zV 2 0,
 zK 3 (.bool false)])
 .ret)
 .skip))
 (.seq (.seq (.cn [zM 29 0,
 zN 30 29,
 zF 31 30 4,
 zL 32 31,
 zM 33 7,
 zR 34 (.az 1) 32 33,
 zL 35 34,
 zN 36 35,
 zF 37 36 14,
 zL 38 37,
 zM 39 38,
 bV 40 0 39 false,
 lA 41 40 39 false,
 fG 42 41 0 39 false,
 fA 43 42 39 false,
 bV 44 7 39 false,
 oE 45 61 [.t 43,.t 44] 39 false,
 bV 46 0 39 false,
 lA 47 46 39 false,
 fG 48 47 3 39 false,
 fA 49 48 39 false,
 oE 50 62 [.t 49] 39 false,
 cw 51 (.bin .gtr) [.t 45,.t 50] 39 false,
 zP 52 .pick [.t 39,.c (.bool true),.t 51]] [[],[],[],[],[],[],[],[],[],[],[],[],[],[],[],[],[],[],[],[],[0,17],[],[],[]])
 (.cond (.t 52)
 (.seq (.ops [zM 53 7,
 zM 2 53,
 zK 3 (.bool true)])
 .ret)
 .skip))
 (.seq (.ops [zM 54 0,
 zN 55 54,
 zF 56 55 3,
 zL 57 56,
 dS 58 63 57,
 zQ 59 (.ext 0) 58,
 zQ 60 (.ext 1) 58,
 zM 2 59,
 zM 3 60])
 .ret))))))⟩
def U5:an:=⟨110,[.tmp 10],
 (.seq (.ops [zB 7 2,
 zK 10 (.bool false)])
 (.seq (.seq (.ops [zF 11 7 0,
 zL 12 11,
 ⟨some 13,none,.call,[.c (.func (.func 12) [] []),.t 12,zI 10]⟩])
 (.block 0 (.seq (.ops [zP 15 (.bin .eql) [.t 13,zI 0],
 zM 14 15])
 (.cond (.t 14)
 (.seq (.cn [zM 16 0,
 zM 17 3,
 zF 18 7 3,
 zL 19 18,
 zM 20 4,
 PN 21 28 16 17 19 20,
 zM 22 1,
 zM 23 3,
 zF 24 7 3,
 zL 25 24,
 zM 26 4,
 PN 27 64 22 23 25 26,
 zR 28 (.bin .eql) 21 27,
 zM 10 28] [[],[],[],[],[],[],[],[],[],[0,6],[],[],[],[]])
 .ret)
 (.seq (.ops [zP 30 (.bin .eql) [.t 13,zI 1],
 zM 29 30])
 (.cond (.t 29)
 (.seq (.ops [zM 31 0,
 zM 32 3,
 eF 33 20 31 32,
 zM 34 1,
 zM 35 3,
 eF 36 65 34 35,
 zR 37 (.bin .eql) 33 36,
 zM 10 37])
 .ret)
 (.seq (.seq (.ops [zP 39 (.bin .eql) [.t 13,zI 2],
 zM 38 39])
 (.cond (.t 38)
 .skip
 (.ops [zP 40 (.bin .eql) [.t 13,zI 3],
 zM 38 40])))
 (.cond (.t 38)
 (.seq (.ops [zM 41 0,
 zM 42 3,
 eF 43 21 41 42,
 zM 44 1,
 zM 45 3,
 eF 46 66 44 45,
 zR 47 (.bin .eql) 43 46,
 zM 10 47])
 .ret)
 (.seq (.ops [zP 49 (.bin .eql) [.t 13,zI 4],
 zM 48 49])
 (.cond (.t 48)
 (.seq (.cn [zM 50 0,
 zM 51 3,
 zF 52 7 2,
 zL 53 52,
 xO 54 22 50 51 53,
 zM 55 1,
 zM 56 3,
 zF 57 7 2,
 zL 58 57,
 xO 59 67 55 56 58,
 zR 60 (.bin .eql) 54 59,
 zM 10 60] [[],[],[],[],[],[],[],[],[0,5],[],[],[]])
 .ret)
 (.seq (.ops [zP 62 (.bin .eql) [.t 13,zI 5],
 zM 61 62])
 (.cond (.t 61)
 (.seq (.ops [zM 63 0,
 zM 64 3,
 eF 65 23 63 64,
 zM 66 1,
 zM 67 3,
 eF 68 68 66 67,
 zR 69 (.bin .eql) 65 68,
 zM 10 69])
 .ret)
 (.seq (.ops [zP 71 (.bin .eql) [.t 13,zI 6],
 zM 70 71])
 (.cond (.t 70)
 (.seq (.ops [zM 72 0,
 zM 73 3,
 eF 74 24 72 73,
 zM 75 1,
 zM 76 3,
 eF 77 69 75 76,
 zR 78 (.bin .eql) 74 77,
 zM 10 78])
 .ret)
 (.seq (.ops [zP 80 (.bin .eql) [.t 13,zI 7],
 zM 79 80])
 (.cond (.t 79)
 (.seq (.ops [zM 81 0,
 zM 82 3,
 eF 83 25 81 82,
 zM 84 1,
 zM 85 3,
 eF 86 70 84 85,
 zR 87 (.bin .eql) 83 86,
 zM 10 87])
 .ret)
 (.seq (.ops [zP 89 (.bin .eql) [.t 13,zI 8],
 zM 88 89])
 (.cond (.t 88)
 (.seq (.ops [zM 90 0,
 zM 91 3,
 eF 92 26 90 91,
 zM 93 1,
 zM 94 3,
 eF 95 71 93 94,
 zR 96 (.bin .eql) 92 95,
 zM 10 96])
 .ret)
 .skip))))))))))))))))))
 (.seq (.ops [zF 97 7 2,
 zL 98 97,
 zP 99 (.bin .rem) [.t 98,zI 3],
 zP 100 (.bin .neq) [.t 99,zI 0],
 zM 101 100,
 bV 102 0 101 false,
 bV 103 3 101 false,
 oE 104 27 [.t 102,.t 103] 101 false,
 bV 105 1 101 false,
 bV 106 3 101 false,
 oE 107 72 [.t 105,.t 106] 101 false,
 cw 108 (.eq .bool) [.t 104,.t 107] 101 false,
 zP 109 .pick [.t 101,.c (.bool true),.t 108],
 zM 10 109])
 .ret)))⟩
def iI:AC:=(.seq (.seq (.ops [zM 161 27,
 zM 162 26,
 zQ 163 .bL 162,
 zR 164 (.bin .lss) 161 163])
 (.cond (.t 164)
 .skip
 (.exit 2)))
 (.seq (.block 3 (.ops [zM 167 26,
 zM 168 27,
 zR 169 (.az 1) 167 168,
 zS 1 [.t 169,zI (-1)]]))
 (.ops [zM 165 27,
 zP 166 (.bin .add) [.t 165,zI 1],
 zM 27 166])))
def iH:AC:=(.seq (.seq (.ops [zM 84 17,
 zP 85 (.bin .lss) [.t 84,zI 5]])
 (.cond (.t 85)
 .skip
 (.exit 0)))
 (.seq (.block 1 (.seq (.ops [zM 89 0,
 zM 90 17,
 eF 91 35 89 90,
 zM 88 91,
 zQ 92 (.ext 0) 88,
 zQ 93 (.ext 1) 88,
 ⟨some 18,none,.a (.alloc [zz,zz,(.str [])]),[]⟩,
 zS 3 [.t 18,.t 92],
 zM 19 93])
 (.seq (.ops [zM 95 1,
 zM 96 17,
 eF 97 74 95 96,
 zM 94 97,
 zQ 98 (.ext 0) 94,
 zQ 99 (.ext 1) 94,
 ⟨some 20,none,.a (.alloc [zz,zz,(.str [])]),[]⟩,
 zS 3 [.t 20,.t 98],
 zM 21 99])
 (.seq (.ops [zM 101 0,
 zM 102 17,
 eF 103 13 101 102,
 zM 100 103,
 zQ 104 (.ext 0) 100,
 zQ 105 (.ext 1) 100,
 zM 22 104,
 zM 23 105])
 (.seq (.ops [zM 107 1,
 zM 108 17,
 eF 109 75 107 108,
 zM 106 109,
 zQ 110 (.ext 0) 106,
 zQ 111 (.ext 1) 106,
 zM 24 110,
 zM 25 111])
 (.seq (.ops [zM 112 0,
 zM 113 17,
 eF 114 14 112 113,
 zM 26 114])
 (.seq (.seq (.ops [zO 115 3 18,
 zO 116 3 20,
 zR 117 (.neq (.cells [0,0,2])) 115 116,
 zM 118 117,
 bV 119 19 118 false,
 bV 120 21 118 false,
 cw 121 (.neq .bool) [.t 119,.t 120] 118 false,
 zP 122 .pick [.t 118,.c (.bool true),.t 121],
 zM 123 122,
 bV 124 22 123 false,
 bV 125 24 123 false,
 cw 126 (.bin .neq) [.t 124,.t 125] 123 false,
 zP 127 .pick [.t 123,.c (.bool true),.t 126],
 zM 128 127,
 bV 129 23 128 false,
 bV 130 25 128 false,
 cw 131 (.neq .bool) [.t 129,.t 130] 128 false,
 zP 132 .pick [.t 128,.c (.bool true),.t 131],
 zM 133 132,
 bV 134 0 133 false,
 bV 135 17 133 false,
 bV 136 2 133 false,
 oE 137 32 [.t 134,.t 135,.t 136] 133 false,
 bV 138 1 133 false,
 bV 139 17 133 false,
 bV 140 2 133 false,
 oE 141 76 [.t 138,.t 139,.t 140] 133 false,
 cw 142 (.bin .neq) [.t 137,.t 141] 133 false,
 zP 143 .pick [.t 133,.c (.bool true),.t 142],
 zM 144 143,
 bV 145 0 144 false,
 bV 146 17 144 false,
 oE 147 29 [.t 145,.t 146] 144 false,
 bV 148 1 144 false,
 bV 149 17 144 false,
 oE 150 77 [.t 148,.t 149] 144 false,
 cw 151 (.bin .neq) [.t 147,.t 150] 144 false,
 zP 152 .pick [.t 144,.c (.bool true),.t 151],
 zM 153 152,
 bV 154 26 153 false,
 bV 155 1 153 false,
 bV 156 17 153 false,
 oE 157 78 [.t 155,.t 156] 153 false,
 oE 158 33 [.t 154,.t 157] 153 false,
 cw 159 .not [.t 158] 153 false,
 zP 160 .pick [.t 153,.c (.bool true),.t 159]])
 (.cond (.t 160)
 (.seq (.ops [zK 6 (.bool false)])
 .ret)
 .skip))
 (.seq (.ops [zV 27 0])
 (.block 2 (.loop iI))))))))))
 (.ops [zM 86 17,
 zP 87 (.bin .add) [.t 86,zI 1],
 zM 17 87])))
def U6:an:=⟨170,[.tmp 6],
 (.seq (.ops [zK 6 (.bool false)])
 (.seq (.ops [zM 29 0,
 dS 30 15 29,
 zM 28 30,
 zQ 31 (.ext 0) 28,
 zQ 32 (.ext 1) 28,
 zM 7 31,
 zM 8 32])
 (.seq (.ops [zM 34 1,
 dS 35 17 34,
 zM 33 35,
 zQ 36 (.ext 0) 33,
 zQ 37 (.ext 1) 33,
 zM 9 36,
 zM 10 37])
 (.seq (.ops [zM 39 0,
 dS 40 30 39,
 zM 38 40,
 zQ 41 (.ext 0) 38,
 zQ 42 (.ext 1) 38,
 zQ 43 (.ext 2) 38,
 zM 11 41,
 zM 12 42,
 zM 13 43])
 (.seq (.ops [zM 45 1,
 dS 46 59 45,
 zM 44 46,
 zQ 47 (.ext 0) 44,
 zQ 48 (.ext 1) 44,
 zQ 49 (.ext 2) 44,
 zM 14 47,
 zM 15 48,
 zM 16 49])
 (.seq (.seq (.cn [zM 50 7,
 zM 51 9,
 zR 52 (.bin .neq) 50 51,
 zM 53 52,
 bV 54 8 53 false,
 bV 55 10 53 false,
 cw 56 (.neq .bool) [.t 54,.t 55] 53 false,
 zP 57 .pick [.t 53,.c (.bool true),.t 56],
 zM 58 57,
 bV 59 11 58 false,
 bV 60 14 58 false,
 cw 61 (.bin .neq) [.t 59,.t 60] 58 false,
 zP 62 .pick [.t 58,.c (.bool true),.t 61],
 zM 63 62,
 bV 64 12 63 false,
 bV 65 15 63 false,
 cw 66 (.bin .neq) [.t 64,.t 65] 63 false,
 zP 67 .pick [.t 63,.c (.bool true),.t 66],
 zM 68 67,
 bV 69 13 68 false,
 bV 70 16 68 false,
 cw 71 (.neq .bool) [.t 69,.t 70] 68 false,
 zP 72 .pick [.t 68,.c (.bool true),.t 71],
 zM 73 72,
 bV 74 0 73 false,
 oE 75 34 [.t 74] 73 false,
 bV 76 1 73 false,
 lA 77 76 73 false,
 fG 78 77 2 73 false,
 fA 79 78 73 false,
 oE 80 73 [.t 79] 73 false,
 oE 81 33 [.t 75,.t 80] 73 false,
 cw 82 .not [.t 81] 73 false,
 zP 83 .pick [.t 73,.c (.bool true),.t 82]] [[],[],[],[],[],[],[],[],[],[],[],[],[],[],[],[],[],[],[],[],[],[],[],[],[],[],[],[],[],[0,26],[],[],[],[]])
 (.cond (.t 83)
 (.seq (.ops [zK 6 (.bool false)])
 .ret)
 .skip))
 (.seq (.seq (.ops [zV 17 (-1)])
 (.block 0 (.loop iH)))
 (.seq (.ops [zK 6 (.bool true)])
 .ret))))))))⟩
def U7:an:=⟨8,[.tmp 4],
 (.seq (.ops [zV 4 0])
 (.seq (.ops [zM 5 0,
 zM 6 1,
 zC 7 79 [.t 5,.t 6,.c (.func (.func 80) [] [])],
 zM 4 7])
 .ret))⟩
def U8:an:=⟨8,[.tmp 4],
 (.seq (.ops [zV 4 0])
 (.seq (.ops [zM 5 0,
 zM 6 1,
 zC 7 79 [.t 5,.t 6,.c (.func (.func 81) [] [])],
 zM 4 7])
 .ret))⟩
def U9:an:=⟨11,[.tmp 6],
 (.seq (.ops [zB 3 0,
 zB 4 1,
 zB 5 2,
 zV 6 0])
 (.seq (.ops [zL 7 3,
 zL 8 4,
 zP 9 (.jP (.func 82) 0) [.t 3,.t 4,.t 5],
 xO 10 79 7 8 9,
 zM 6 10])
 .ret))⟩
def Va:an:=⟨9,[.tmp 4],
 (.seq (.ops [zB 2 0,
 zB 3 1,
 zV 4 0])
 (.seq (.ops [zL 5 2,
 zL 6 3,
 zR 7 (.jP (.func 86) 0) 2 3,
 xO 8 79 5 6 7,
 zM 4 8])
 .ret))⟩
def Vb:an:=⟨9,[.tmp 4],
 (.seq (.ops [zB 2 0,
 zB 3 1,
 zV 4 0])
 (.seq (.ops [zL 5 2,
 zL 6 3,
 zR 7 (.jP (.func 89) 0) 2 3,
 xO 8 79 5 6 7,
 zM 4 8])
 .ret))⟩
def Vc:an:=⟨8,[.tmp 4],
 (.seq (.ops [zV 4 0])
 (.seq (.ops [zM 5 0,
 zM 6 1,
 zC 7 79 [.t 5,.t 6,.c (.func (.func 90) [] [])],
 zM 4 7])
 .ret))⟩
def Vd:an:=⟨8,[.tmp 4],
 (.seq (.ops [zV 4 0])
 (.seq (.ops [zM 5 0,
 zM 6 1,
 zC 7 79 [.t 5,.t 6,.c (.func (.func 91) [] [])],
 zM 4 7])
 .ret))⟩
def Ve:an:=⟨33,[.tmp 4],
 (.seq (.ops [zK 4 (.bool false)])
 (.seq (.seq (.ops [zM 8 0,
 zM 9 1,
 eF 10 46 8 9,
 zM 7 10,
 zQ 11 (.ext 0) 7,
 zQ 12 (.ext 1) 7,
 zM 5 11,
 zM 6 12])
 (.seq (.ops [zM 13 6,
 zP 14 (.bin .neq) [.t 13,zI 0]])
 (.cond (.t 14)
 (.seq (.ops [zK 4 (.bool false)])
 .ret)
 .skip)))
 (.seq (.ops [zM 15 0,
 zN 16 15,
 zF 17 16 4,
 zL 18 17,
 zM 19 1,
 zR 20 (.az 1) 18 19,
 zS 1 [.t 20,.c .aQ]])
 (.seq (.ops [zM 21 0,
 zN 22 21,
 zF 23 22 1,
 zL 24 23,
 zM 25 1,
 eF 26 92 24 25])
 (.seq (.ops [zM 27 0,
 zN 28 27,
 zF 29 28 0,
 zL 30 29,
 zM 31 1,
 eF 32 93 30 31])
 (.seq (.ops [zK 4 (.bool true)])
 .ret))))))⟩
def Vf:an:=⟨70,[.tmp 8],
 (.seq (.ops [zV 8 0])
 (.seq (.seq (.ops [zM 13 0,
 zM 14 1,
 eF 15 94 13 14,
 zM 9 15])
 (.seq (.ops [zM 16 9,
 zP 17 (.bin .neq) [.t 16,zI 0]])
 (.cond (.t 17)
 (.seq (.ops [zM 18 9,
 zM 8 18])
 .ret)
 .skip)))
 (.seq (.seq (.ops [zM 19 0,
 zN 20 19,
 zF 21 20 4,
 zL 22 21,
 zM 23 1,
 zR 24 (.az 1) 22 23,
 zL 25 24,
 zP 26 (.neq .cQ) [.t 25,.c .aQ]])
 (.cond (.t 26)
 (.seq (.ops [zV 8 141])
 .ret)
 .skip))
 (.seq (.ops [zM 28 0,
 zN 29 28,
 zF 30 29 2,
 zL 31 30,
 zM 32 1,
 zR 33 (.az 8) 31 32,
 zO 34 8 33,
 zM 35 2,
 zM 36 3,
 xO 37 95 34 35 36,
 zM 27 37,
 zQ 38 (.ext 0) 27,
 zQ 39 (.ext 1) 27,
 zM 10 38,
 zM 11 39])
 (.seq (.seq (.ops [zM 40 11,
 zP 41 (.bin .neq) [.t 40,zI 0]])
 (.cond (.t 41)
 (.seq (.ops [zM 42 11,
 zM 8 42])
 .ret)
 .skip))
 (.seq (.seq (.ops [zM 43 0,
 zN 44 43,
 zF 45 44 3,
 zL 46 45,
 zM 47 1,
 zR 48 (.az 1) 46 47,
 zL 49 48,
 zM 50 3,
 eF 51 96 49 50,
 zM 12 51])
 (.seq (.ops [zM 52 12,
 zP 53 (.bin .neq) [.t 52,zI 0]])
 (.cond (.t 53)
 (.seq (.ops [zM 54 12,
 zM 8 54])
 .ret)
 .skip)))
 (.seq (.ops [zM 55 0,
 zN 56 55,
 zF 57 56 4,
 zL 58 57,
 zM 59 1,
 zM 60 10,
 zR 61 (.az 1) 58 59,
 zS 1 [.t 61,.t 60]])
 (.seq (.cn [zM 62 0,
 zN 63 62,
 zF 64 63 1,
 zL 65 64,
 zM 66 1,
 zM 67 10,
 dS 68 47 67,
 xO 69 97 65 66 68,
 zM 8 69] [[],[],[],[0,7],[],[],[],[],[]])
 .ret))))))))⟩
def Vg:an:=⟨17,[.tmp 4],
 (.seq (.ops [zV 4 0])
 (.seq (.seq (.ops [zM 5 0,
 zM 6 1,
 eF 7 94 5 6,
 zP 8 (.bin .neq) [.t 7,zI 0]])
 (.cond (.t 8)
 (.seq (.ops [zV 4 0])
 .ret)
 .skip))
 (.seq (.ops [zM 9 0,
 zN 10 9,
 zF 11 10 3,
 zL 12 11,
 zM 13 1,
 zR 14 (.az 1) 12 13,
 zL 15 14,
 dS 16 98 15,
 zM 4 16])
 .ret)))⟩
def lE:AC:=(.seq (.ops [zR 16 (.bin .lss) 15 14])
 (.seq (.cond (.t 16)
 .skip
 (.exit 0))
 (.seq (.block 1 (.seq (.ops [zM 17 15,
 zR 18 (.az 1) 13 15,
 zL 19 18,
 zM 5 17,
 zM 6 19])
 (.seq (.ops [zM 20 6,
 dS 21 83 20,
 zM 7 21])
 (.seq (.ops [zM 22 7,
 zP 23 (.bin .geq) [.t 22,zI 2]])
 (.cond (.t 23)
 (.seq (.ops [zM 24 5,
 zM 25 7,
 zM 2 24,
 zM 3 25,
 zK 4 (.bool true)])
 .ret)
 .skip)))))
 (.ops [zP 26 (.bin .add) [.t 15,zI 1],
 zM 15 26]))))
def Vh:an:=⟨27,[.tmp 2,.tmp 3,.tmp 4],
 (.seq (.ops [zV 2 0,
 zV 3 0,
 zK 4 (.bool false)])
 (.seq (.seq (.ops [zM 8 0,
 dS 9 49 8])
 (.cond (.t 9)
 (.seq (.ops [zV 2 0,
 zV 3 0,
 zK 4 (.bool false)])
 .ret)
 .skip))
 (.seq (.seq (.ops [zM 10 0,
 zN 11 10,
 zF 12 11 4,
 zL 13 12,
 zQ 14 .bL 13,
 zV 15 0])
 (.block 0 (.loop lE)))
 (.seq (.ops [zV 2 0,
 zV 3 0,
 zK 4 (.bool false)])
 .ret))))⟩
def S9:an:=⟨18,[.tmp 4],
 (.seq (.ops [zK 4 (.bool false)])
 (.seq (.ops [zM 8 0,
 dS 9 15 8,
 zM 7 9,
 zQ 10 (.ext 0) 7,
 zQ 11 (.ext 1) 7,
 zM 5 10,
 zM 6 11])
 (.seq (.ops [zM 12 5,
 zM 13 1,
 zR 14 (.bin .eql) 12 13,
 zM 15 14,
 bV 16 6 15 true,
 zP 17 .pick [.t 15,.t 16,.c (.bool false)],
 zM 4 17])
 .ret)))⟩
def Vi:an:=⟨20,[.tmp 6],
 (.seq (.ops [zV 6 0])
 (.seq (.ops [zM 10 0,
 zM 11 1,
 eF 12 46 10 11,
 zM 9 12,
 zQ 13 (.ext 0) 9,
 zQ 14 (.ext 1) 9,
 zM 7 13,
 zM 8 14])
 (.seq (.seq (.ops [zM 15 8,
 zP 16 (.bin .neq) [.t 15,zI 0]])
 (.cond (.t 16)
 (.seq (.ops [zV 6 0])
 .ret)
 .skip))
 (.seq (.ops [zM 17 7,
 zM 18 2,
 eF 19 99 17 18,
 zM 6 19])
 .ret))))⟩
def lB:AC:=(.seq (.seq (.ops [zM 11 5,
 zM 12 0,
 zQ 13 .bL 12,
 zR 14 (.bin .lss) 11 13])
 (.cond (.t 14)
 .skip
 (.exit 0)))
 (.seq (.block 1 (.seq (.cn [zM 17 0,
 zM 18 5,
 zR 19 (.az 1) 17 18,
 zL 20 19,
 zM 21 1,
 zM 22 5,
 zR 23 (.az 1) 21 22,
 zL 24 23,
 zR 25 (.bin .neq) 20 24] [[],[],[],[],[],[],[],[],[]])
 (.cond (.t 25)
 (.seq (.ops [zK 4 (.bool false)])
 .ret)
 .skip)))
 (.ops [zM 15 5,
 zP 16 (.bin .add) [.t 15,zI 1],
 zM 5 16])))
def Vj:an:=⟨26,[.tmp 4],
 (.seq (.ops [zK 4 (.bool false)])
 (.seq (.seq (.ops [zM 6 0,
 zQ 7 .bL 6,
 zM 8 1,
 zQ 9 .bL 8,
 zR 10 (.bin .neq) 7 9])
 (.cond (.t 10)
 (.seq (.ops [zK 4 (.bool false)])
 .ret)
 .skip))
 (.seq (.seq (.ops [zV 5 0])
 (.block 0 (.loop lB)))
 (.seq (.ops [zK 4 (.bool true)])
 .ret))))⟩
def Vk:an:=⟨10,[.tmp 2],
 (.seq (.ops [zK 2 .aL])
 (.seq (.seq (.ops [zM 3 0,
 dS 4 49 3])
 (.cond (.t 4)
 (.seq (.ops [zK 2 .aL])
 .ret)
 .skip))
 (.seq (.ops [zM 5 0,
 zN 6 5,
 zF 7 6 1,
 zL 8 7,
 dS 9 100 8,
 zM 2 9])
 .ret)))⟩
def Vl:an:=⟨21,[.cell 4 3 true,.tmp 5],
 (.seq (.ops [⟨some 4,none,.a (.alloc [zz,zz,(.str [])]),[]⟩,
 zK 5 (.bool false)])
 (.seq (.ops [zM 9 0,
 zM 10 1,
 eF 11 46 9 10,
 zM 8 11,
 zQ 12 (.ext 0) 8,
 zQ 13 (.ext 1) 8,
 zM 6 12,
 zM 7 13])
 (.seq (.seq (.ops [zM 14 7,
 zP 15 (.bin .neq) [.t 14,zI 0]])
 (.cond (.t 15)
 (.seq (.ops [zP 16 (.build [zz,zz,(.str [])] []) [],
 zS 3 [.t 4,.t 16],
 zK 5 (.bool false)])
 .ret)
 .skip))
 (.seq (.ops [zM 17 6,
 dS 18 101 17,
 zQ 19 (.ext 0) 18,
 zQ 20 (.ext 1) 18,
 zS 3 [.t 4,.t 19],
 zM 5 20])
 .ret))))⟩
def Sz:an:=⟨8,[.tmp 2],
 (.seq (.ops [zK 2 .aL])
 (.seq (.seq (.ops [zM 3 0,
 zP 4 (.eq .lR) [.t 3,.c .aL]])
 (.cond (.t 4)
 (.seq (.ops [zK 2 .aL])
 .ret)
 .skip))
 (.seq (.ops [⟨some 5,none,.a (.de [zz,zz,zz,zz,zz,zz,zz,zz] 0 8 []),[]⟩,
 zM 6 0,
 zA 7 8 64 5 6,
 zM 2 7])
 .ret)))⟩
def Vm:an:=⟨10,[.tmp 2,.tmp 3],
 (.seq (.ops [zK 2 .aQ,
 zV 3 0])
 (.seq (.seq (.ops [zM 4 0,
 dS 5 102 4,
 zQ 6 .not 5])
 (.cond (.t 6)
 (.seq (.ops [zK 2 .aQ,
 zV 3 2])
 .ret)
 .skip))
 (.seq (.ops [zM 7 0,
 zQ 8 (.build [zz,zz] [(0,1)]) 7,
 zB 9 8,
 zM 2 9,
 zV 3 0])
 .ret)))⟩
def Vn:an:=⟨11,[.tmp 2,.tmp 3],
 (.seq (.ops [zK 2 .aQ,
 zV 3 0])
 (.seq (.seq (.ops [zM 4 0,
 zQ 5 .bL 4,
 zP 6 (.bin .gtr) [.t 5,zI 4]])
 (.cond (.t 6)
 (.seq (.ops [zK 2 .aQ,
 zV 3 5])
 .ret)
 .skip))
 (.seq (.ops [zM 7 0,
 dS 8 36 7,
 zP 9 (.build [.aL,.aL,(.bool false)] [(0,1),(2,1)]) [.t 8,.c (.bool true)],
 zB 10 9,
 zM 2 10,
 zV 3 0])
 .ret)))⟩
def Vo:an:=⟨14,[.tmp 2,.tmp 3],
 (.seq (.ops [zK 2 .aQ,
 zV 3 0])
 (.seq (.seq (.ops [zM 4 0,
 zP 5 (.bin .lss) [.t 4,zI 0],
 zM 6 5,
 bV 7 0 6 false,
 cw 8 (.bin .gtr) [.t 7,zI 4] 6 false,
 zP 9 .pick [.t 6,.c (.bool true),.t 8]])
 (.cond (.t 9)
 (.seq (.ops [zK 2 .aQ,
 zV 3 2])
 .ret)
 .skip))
 (.seq (.ops [ZQ 10 103,
 zM 11 0,
 zR 12 (.build [.aQ,zz] [(0,1),(1,1)]) 10 11,
 zB 13 12,
 zM 2 13,
 zV 3 0])
 .ret)))⟩
def Vp:an:=⟨9,[.tmp 4],
 (.seq (.ops [zK 4 (.bool false)])
 (.seq (.ops [zM 5 0,
 zM 6 1,
 eF 7 104 5 6,
 zP 8 (.bin .geq) [.t 7,zI 0],
 zM 4 8])
 .ret))⟩
def Vq:an:=⟨9,[.tmp 2],
 (.seq (.ops [zK 2 (.bool false)])
 (.seq (.ops [zM 3 0,
 zP 4 (.bin .lss) [.t 3,zI 0],
 zM 5 4,
 bV 6 0 5 false,
 cw 7 (.bin .gtr) [.t 6,zI 32768] 5 false,
 zP 8 .pick [.t 5,.c (.bool true),.t 7],
 zM 2 8])
 .ret))⟩
def Vr:an:=⟨11,[.tmp 2],
 (.seq (.ops [zK 2 (.bool false)])
 (.seq (.ops [zM 3 0,
 zQ 4 .bL 3,
 zP 5 (.bin .leq) [.t 4,zI 4],
 zM 6 5,
 bV 7 0 6 true,
 oE 8 105 [.t 7,.c (.func (.func 106) [] [])] 6 true,
 cw 9 .not [.t 8] 6 true,
 zP 10 .pick [.t 6,.t 9,.c (.bool false)],
 zM 2 10])
 .ret))⟩
def Vs:an:=⟨28,[.tmp 4,.tmp 5],
 (.seq (.ops [zK 4 .aQ,
 zV 5 0])
 (.seq (.seq (.ops [zM 7 0,
 zM 8 1,
 eF 9 94 7 8,
 zM 6 9])
 (.seq (.ops [zM 10 6,
 zP 11 (.bin .neq) [.t 10,zI 0]])
 (.cond (.t 11)
 (.seq (.ops [zM 12 6,
 zK 4 .aQ,
 zM 5 12])
 .ret)
 .skip)))
 (.seq (.seq (.ops [zM 13 0,
 zN 14 13,
 zF 15 14 4,
 zL 16 15,
 zM 17 1,
 zR 18 (.az 1) 16 17,
 zL 19 18,
 zP 20 (.eq .cQ) [.t 19,.c .aQ]])
 (.cond (.t 20)
 (.seq (.ops [zK 4 .aQ,
 zV 5 250])
 .ret)
 .skip))
 (.seq (.ops [zM 21 0,
 zN 22 21,
 zF 23 22 4,
 zL 24 23,
 zM 25 1,
 zR 26 (.az 1) 24 25,
 zL 27 26,
 zM 4 27,
 zV 5 0])
 .ret))))⟩
def Vt:an:=⟨9,[.tmp 2],
 (.seq (.ops [zV 2 0])
 (.seq (.seq (.ops [zM 3 0,
 dS 4 108 3])
 (.cond (.t 4)
 (.seq (.ops [zV 2 0])
 .ret)
 .skip))
 (.seq (.ops [zM 5 0,
 zN 6 5,
 zF 7 6 9,
 zL 8 7,
 zM 2 8])
 .ret)))⟩
def oH:AC:=(.seq (.ops [zR 18 (.bin .lss) 17 16])
 (.seq (.cond (.t 18)
 .skip
 (.exit 0))
 (.seq (.block 1 (.seq (.ops [zR 19 (.az 2) 15 17,
 zO 20 2 19,
 ⟨some 7,none,.a (.alloc [zz,zz]),[]⟩,
 zS 2 [.t 7,.t 20]])
 (.seq (.ops [zM 21 5,
 zO 22 2 7,
 ⟨some 23,none,.call,[.t 21,.t 22]⟩])
 (.cond (.t 23)
 (.ops [zM 24 4,
 zF 25 7 1,
 zL 26 25,
 ⟨some 27,none,.a (.de [zz] 1 1 [0]),[.t 26]⟩,
 zA 28 1 8 24 27,
 zM 4 28])
 .skip))))
 (.ops [zP 29 (.bin .add) [.t 17,zI 1],
 zM 17 29]))))
def Vu:an:=⟨31,[.tmp 4],
 (.seq (.ops [zK 4 .aL])
 (.seq (.seq (.ops [zM 8 0,
 zP 9 (.eq .cQ) [.t 8,.c .aQ]])
 (.cond (.t 9)
 (.seq (.ops [zK 4 .aL])
 .ret)
 .skip))
 (.seq (.ops [zM 10 1,
 dS 11 109 10,
 zM 5 11])
 (.seq (.seq (.ops [zM 12 0,
 zN 13 12,
 zF 14 13 1,
 zL 15 14,
 zQ 16 .bL 15,
 zV 17 0])
 (.block 0 (.loop oH)))
 (.seq (.ops [zM 30 4,
 zM 4 30])
 .ret)))))⟩
def Vv:an:=⟨12,[.tmp 2],
 (.seq (.ops [zK 2 (.bool false)])
 (.seq (.ops [zM 3 0,
 zP 4 (.eq .cQ) [.t 3,.c .aQ],
 zM 5 4,
 bV 6 0 5 false,
 lA 7 6 5 false,
 fG 8 7 0 5 false,
 fA 9 8 5 false,
 cw 10 (.eq .cQ) [.t 9,.c .aQ] 5 false,
 zP 11 .pick [.t 5,.c (.bool true),.t 10],
 zM 2 11])
 .ret))⟩
def Vw:an:=⟨15,[.tmp 2,.tmp 3,.tmp 4],
 (.seq (.ops [zV 2 0,
 zV 3 0,
 zK 4 (.bool false)])
 (.seq (.seq (.ops [zM 5 0,
 dS 6 110 5])
 (.cond (.t 6)
 (.seq (.ops [zV 2 0,
 zV 3 0,
 zK 4 (.bool false)])
 .ret)
 .skip))
 (.seq (.ops [zM 7 0,
 zN 8 7,
 zF 9 8 0,
 zL 10 9,
 dS 11 111 10,
 zQ 12 (.ext 0) 11,
 zQ 13 (.ext 1) 11,
 zQ 14 (.ext 2) 11,
 zM 2 12,
 zM 3 13,
 zM 4 14])
 .ret)))⟩
def Vx:an:=⟨12,[.tmp 2],
 (.seq (.ops [zK 2 (.bool false)])
 (.seq (.ops [zM 3 0,
 dS 4 108 3,
 zQ 5 .not 4,
 zM 6 5,
 bV 7 0 6 true,
 lA 8 7 6 true,
 fG 9 8 14 6 true,
 fA 10 9 6 true,
 zP 11 .pick [.t 6,.t 10,.c (.bool false)],
 zM 2 11])
 .ret))⟩
def uF:AC:=(.seq (.ops [zR 19 (.bin .lss) 18 17])
 (.seq (.cond (.t 19)
 .skip
 (.exit 0))
 (.seq (.block 1 (.seq (.ops [zR 20 (.az 8) 16 18,
 zO 21 8 20,
 ⟨some 7,none,.a (.alloc [zz,zz,zz,zz,zz,zz,zz,zz]),[]⟩,
 zS 8 [.t 7,.t 21]])
 (.seq (.cn [zF 22 7 1,
 zL 23 22,
 zM 24 0,
 zM 25 1,
 zR 26 (.az 8) 24 25,
 zF 27 26 1,
 zL 28 27,
 zR 29 (.bin .gtr) 23 28] [[],[],[],[],[],[],[],[]])
 (.cond (.t 29)
 (.ops [zM 30 5,
 zP 31 (.bin .add) [.t 30,zI 1],
 zM 5 31])
 .skip))))
 (.ops [zP 32 (.bin .add) [.t 18,zI 1],
 zM 18 32]))))
def Vy:an:=⟨34,[.tmp 4],
 (.seq (.ops [zV 4 0])
 (.seq (.seq (.ops [zM 8 1,
 zP 9 (.bin .lss) [.t 8,zI 0],
 zM 10 9,
 bV 11 1 10 false,
 bV 12 0 10 false,
 cw 13 .bL [.t 12] 10 false,
 cw 14 (.bin .geq) [.t 11,.t 13] 10 false,
 zP 15 .pick [.t 10,.c (.bool true),.t 14]])
 (.cond (.t 15)
 (.seq (.ops [zV 4 0])
 .ret)
 .skip))
 (.seq (.ops [zV 5 1])
 (.seq (.seq (.ops [zM 16 0,
 zQ 17 .bL 16,
 zV 18 0])
 (.block 0 (.loop uF)))
 (.seq (.ops [zM 33 5,
 zM 4 33])
 .ret)))))⟩
def mS:AC:=(.seq (.ops [zR 13 (.bin .lss) 12 11])
 (.seq (.cond (.t 13)
 .skip
 (.exit 0))
 (.seq (.block 1 (.seq (.ops [zR 14 (.az 2) 10 12,
 zO 15 2 14,
 ⟨some 4,none,.a (.alloc [zz,zz]),[]⟩,
 zS 2 [.t 4,.t 15]])
 (.cn [zM 16 2,
 zM 17 0,
 zN 18 17,
 zF 19 18 0,
 zL 20 19,
 zF 21 4 1,
 zL 22 21,
 eF 23 112 20 22,
 zR 24 .mx 16 23,
 zM 2 24] [[],[],[],[],[],[],[],[],[],[]])))
 (.ops [zP 25 (.bin .add) [.t 12,zI 1],
 zM 12 25]))))
def Vz:an:=⟨27,[.tmp 2],
 (.seq (.ops [zV 2 0])
 (.seq (.seq (.ops [zM 5 0,
 zP 6 (.eq .cQ) [.t 5,.c .aQ]])
 (.cond (.t 6)
 (.seq (.ops [zV 2 0])
 .ret)
 .skip))
 (.seq (.seq (.ops [zM 7 0,
 zN 8 7,
 zF 9 8 1,
 zL 10 9,
 zQ 11 .bL 10,
 zV 12 0])
 (.block 0 (.loop mS)))
 (.seq (.ops [zM 26 2,
 zM 2 26])
 .ret))))⟩
def VA:an:=⟨27,[.tmp 2,.tmp 3],
 (.seq (.ops [zV 2 0,
 zK 3 (.bool false)])
 (.seq (.seq (.ops [zM 4 0,
 zP 5 (.eq .cQ) [.t 4,.c .aQ],
 zM 6 5,
 bV 7 0 6 false,
 lA 8 7 6 false,
 fG 9 8 1 6 false,
 fA 10 9 6 false,
 cw 11 .bL [.t 10] 6 false,
 cw 12 (.bin .eql) [.t 11,zI 0] 6 false,
 zP 13 .pick [.t 6,.c (.bool true),.t 12]])
 (.cond (.t 13)
 (.seq (.ops [zV 2 0,
 zK 3 (.bool false)])
 .ret)
 .skip))
 (.seq (.cn [zM 14 0,
 zN 15 14,
 zF 16 15 1,
 zL 17 16,
 zM 18 0,
 zN 19 18,
 zF 20 19 1,
 zL 21 20,
 zQ 22 .bL 21,
 zP 23 (.bin .sub) [.t 22,zI 1],
 zR 24 (.az 2) 17 23,
 zF 25 24 0,
 zL 26 25,
 zM 2 26,
 zK 3 (.bool true)] [[],[],[],[],[],[],[],[],[],[],[],[],[],[],[]])
 .ret)))⟩
def l9:AC:=(.seq (.seq (.ops [zM 4 3,
 zM 5 0,
 zQ 6 .bL 5,
 zR 7 (.bin .lss) 4 6])
 (.cond (.t 7)
 .skip
 (.exit 0)))
 (.seq (.block 1 (.seq (.ops [zM 10 0,
 zM 11 3,
 zR 12 (.az 8) 10 11,
 zO 13 8 12,
 dS 14 113 13,
 zQ 15 .not 14])
 (.cond (.t 15)
 (.seq (.ops [zK 2 (.bool false)])
 .ret)
 .skip)))
 (.ops [zM 8 3,
 zP 9 (.bin .add) [.t 8,zI 1],
 zM 3 9])))
def VB:an:=⟨19,[.tmp 2],
 (.seq (.ops [zK 2 (.bool false)])
 (.seq (.seq (.ops [zV 3 0])
 (.block 0 (.loop l9)))
 (.seq (.ops [zM 16 0,
 zQ 17 .bL 16,
 zP 18 (.bin .leq) [.t 17,zI 4],
 zM 2 18])
 .ret)))⟩
def VE:an:=⟨13,[.tmp 2,.tmp 3],
 (.seq (.ops [zK 2 .aQ,
 zV 3 0])
 (.seq (.seq (.ops [zM 4 0,
 zP 5 (.bin .lss) [.t 4,zI 1],
 zM 6 5,
 bV 7 0 6 false,
 cw 8 (.bin .gtr) [.t 7,zI 64] 6 false,
 zP 9 .pick [.t 6,.c (.bool true),.t 8]])
 (.cond (.t 9)
 (.seq (.ops [zK 2 .aQ,
 zV 3 2])
 .ret)
 .skip))
 (.seq (.ops [zM 10 0,
 zQ 11 (.build [zz,zz] [(0,1)]) 10,
 zB 12 11,
 zM 2 12,
 zV 3 0])
 .ret)))⟩
def iX:AC:=(.seq (.seq (.ops [zM 15 5,
 zM 16 0,
 zR 17 (.bin .lss) 15 16])
 (.cond (.t 17)
 .skip
 (.exit 0)))
 (.seq (.block 1 (.ops [zM 20 4,
 zM 21 4,
 zN 22 21,
 zF 23 22 0,
 zL 24 23,
 ⟨some 25,none,.a (.de [zz] 1 1 [0]),[zI (-1)]⟩,
 zA 26 1 8 24 25,
 zN 27 20,
 zF 28 27 0,
 zS 1 [.t 28,.t 26]]))
 (.ops [zM 18 5,
 zP 19 (.bin .add) [.t 18,zI 1],
 zM 5 19])))
def VF:an:=⟨30,[.tmp 2,.tmp 3],
 (.seq (.ops [zK 2 .aQ,
 zV 3 0])
 (.seq (.seq (.ops [zM 6 0,
 zP 7 (.bin .lss) [.t 6,zI 0],
 zM 8 7,
 bV 9 0 8 false,
 cw 10 (.bin .gtr) [.t 9,zI 4] 8 false,
 zP 11 .pick [.t 8,.c (.bool true),.t 10]])
 (.cond (.t 11)
 (.seq (.ops [zK 2 .aQ,
 zV 3 2])
 .ret)
 .skip))
 (.seq (.ops [⟨some 12,none,.a (.de [zz] 0 1 []),[]⟩,
 zQ 13 (.build [.aL] [(0,1)]) 12,
 zB 14 13,
 zM 4 14])
 (.seq (.seq (.ops [zV 5 0])
 (.block 0 (.loop iX)))
 (.seq (.ops [zM 29 4,
 zM 2 29,
 zV 3 0])
 .ret)))))⟩
def VG:an:=⟨20,[.tmp 2,.tmp 3],
 (.seq (.ops [zK 2 .aQ,
 zV 3 0])
 (.seq (.seq (.ops [zM 5 0,
 zQ 6 .bL 5,
 zP 7 (.bin .gtr) [.t 6,zI 4]])
 (.cond (.t 7)
 (.seq (.ops [zK 2 .aQ,
 zV 3 5])
 .ret)
 .skip))
 (.seq (.ops [zP 8 (.build [.aL,.aL] []) [],
 zB 9 8,
 zM 4 9])
 (.seq (.ops [zM 10 4,
 zM 11 4,
 zN 12 11,
 zF 13 12 0,
 zL 14 13,
 zM 15 0,
 zA 16 8 64 14 15,
 zN 17 10,
 zF 18 17 0,
 zS 1 [.t 18,.t 16]])
 (.seq (.ops [zM 19 4,
 zM 2 19,
 zV 3 0])
 .ret)))))⟩
def fC:AC:=(.seq (.seq (.ops [zM 6 5,
 zM 7 0,
 zN 8 7,
 zF 9 8 4,
 zL 10 9,
 zQ 11 .bL 10,
 zR 12 (.bin .lss) 6 11])
 (.cond (.t 12)
 .skip
 (.exit 0)))
 (.seq (.block 1 (.seq (.ops [zM 15 0,
 zN 16 15,
 zF 17 16 4,
 zL 18 17,
 zM 19 5,
 zR 20 (.az 1) 18 19,
 zL 21 20,
 zP 22 (.neq .cQ) [.t 21,.c .aQ],
 zM 23 22,
 bV 24 0 23 true,
 lA 25 24 23 true,
 fG 26 25 4 23 true,
 fA 27 26 23 true,
 bV 28 5 23 true,
 cw 29 (.az 1) [.t 27,.t 28] 23 true,
 fA 30 29 23 true,
 lA 31 30 23 true,
 fG 32 31 11 23 true,
 fA 33 32 23 true,
 cw 34 (.bin .geq) [.t 33,zI 2] 23 true,
 zP 35 .pick [.t 23,.t 34,.c (.bool false)]])
 (.cond (.t 35)
 (.seq (.cn [zM 36 5,
 zM 37 0,
 zN 38 37,
 zF 39 38 4,
 zL 40 39,
 zM 41 5,
 zR 42 (.az 1) 40 41,
 zL 43 42,
 zN 44 43,
 zF 45 44 11,
 zL 46 45,
 zM 2 36,
 zM 3 46,
 zK 4 (.bool true)] [[],[],[],[],[],[],[],[],[],[],[],[],[],[]])
 .ret)
 .skip)))
 (.ops [zM 13 5,
 zP 14 (.bin .add) [.t 13,zI 1],
 zM 5 14])))
def VH:an:=⟨47,[.tmp 2,.tmp 3,.tmp 4],
 (.seq (.ops [zV 2 0,
 zV 3 0,
 zK 4 (.bool false)])
 (.seq (.seq (.ops [zV 5 0])
 (.block 0 (.loop fC)))
 (.seq (.ops [zV 2 0,
 zV 3 0,
 zK 4 (.bool false)])
 .ret)))⟩
def VI:an:=⟨23,[.tmp 2,.tmp 3,.tmp 4],
 (.seq (.ops [zV 2 0,
 zV 3 0,
 zK 4 (.bool false)])
 (.seq (.ops [zM 6 0,
 dS 7 73 6,
 zM 5 7])
 (.seq (.seq (.ops [zM 8 5,
 zQ 9 .bL 8,
 zP 10 (.bin .eql) [.t 9,zI 0]])
 (.cond (.t 10)
 (.seq (.ops [zV 2 0,
 zV 3 0,
 zK 4 (.bool false)])
 .ret)
 .skip))
 (.seq (.cn [zM 11 5,
 zP 12 (.az 1) [.t 11,zI 0],
 zL 13 12,
 zM 14 0,
 zN 15 14,
 zF 16 15 0,
 zL 17 16,
 zM 18 5,
 zP 19 (.az 1) [.t 18,zI 0],
 zL 20 19,
 zR 21 (.az 1) 17 20,
 zL 22 21,
 zM 2 13,
 zM 3 22,
 zK 4 (.bool true)] [[],[],[],[],[],[],[],[],[],[],[],[],[],[],[]])
 .ret))))⟩
def l8:AC:=(.seq (.seq (.ops [zM 15 6,
 zM 16 0,
 zQ 17 .bL 16,
 zR 18 (.bin .lss) 15 17])
 (.cond (.t 18)
 .skip
 (.exit 0)))
 (.seq (.block 1 (.seq (.cn [zM 21 0,
 zM 22 6,
 zR 23 (.az 8) 21 22,
 zF 24 23 1,
 zL 25 24,
 zM 26 0,
 zM 27 1,
 zR 28 (.az 8) 26 27,
 zF 29 28 1,
 zL 30 29,
 zR 31 (.bin .gtr) 25 30] [[],[],[],[],[],[],[],[],[],[],[]])
 (.cond (.t 31)
 (.ops [zM 32 5,
 zP 33 (.bin .add) [.t 32,zI 1],
 zM 5 33])
 .skip)))
 (.ops [zM 19 6,
 zP 20 (.bin .add) [.t 19,zI 1],
 zM 6 20])))
def VJ:an:=⟨35,[.tmp 4],
 (.seq (.ops [zV 4 0])
 (.seq (.seq (.ops [zM 7 1,
 zP 8 (.bin .lss) [.t 7,zI 0],
 zM 9 8,
 bV 10 1 9 false,
 bV 11 0 9 false,
 cw 12 .bL [.t 11] 9 false,
 cw 13 (.bin .geq) [.t 10,.t 12] 9 false,
 zP 14 .pick [.t 9,.c (.bool true),.t 13]])
 (.cond (.t 14)
 (.seq (.ops [zV 4 0])
 .ret)
 .skip))
 (.seq (.ops [zV 5 1])
 (.seq (.seq (.ops [zV 6 0])
 (.block 0 (.loop l8)))
 (.seq (.ops [zM 34 5,
 zM 4 34])
 .ret)))))⟩
def ez:AC:=(.seq (.seq (.ops [zM 5 4,
 zM 6 0,
 zN 7 6,
 zF 8 7 1,
 zL 9 8,
 zQ 10 .bL 9,
 zR 11 (.bin .lss) 5 10])
 (.cond (.t 11)
 .skip
 (.exit 0)))
 (.seq (.block 1 (.cn [zM 14 3,
 zM 15 0,
 zN 16 15,
 zF 17 16 0,
 zL 18 17,
 zM 19 0,
 zN 20 19,
 zF 21 20 1,
 zL 22 21,
 zM 23 4,
 zR 24 (.az 2) 22 23,
 zF 25 24 1,
 zL 26 25,
 eF 27 114 18 26,
 zR 28 .mx 14 27,
 zM 3 28] [[],[],[],[],[],[],[],[],[],[],[],[],[],[],[],[]]))
 (.ops [zM 12 4,
 zP 13 (.bin .add) [.t 12,zI 1],
 zM 4 13])))
def VK:an:=⟨30,[.tmp 2],
 (.seq (.ops [zV 2 0])
 (.seq (.ops [zV 3 0])
 (.seq (.seq (.ops [zV 4 0])
 (.block 0 (.loop ez)))
 (.seq (.ops [zM 29 3,
 zM 2 29])
 .ret))))⟩
def VL:an:=⟨23,[.tmp 2,.tmp 3],
 (.seq (.ops [zV 2 0,
 zK 3 (.bool false)])
 (.seq (.seq (.ops [zM 4 0,
 zN 5 4,
 zF 6 5 1,
 zL 7 6,
 zQ 8 .bL 7,
 zP 9 (.bin .eql) [.t 8,zI 0]])
 (.cond (.t 9)
 (.seq (.ops [zV 2 0,
 zK 3 (.bool false)])
 .ret)
 .skip))
 (.seq (.cn [zM 10 0,
 zN 11 10,
 zF 12 11 1,
 zL 13 12,
 zM 14 0,
 zN 15 14,
 zF 16 15 1,
 zL 17 16,
 zQ 18 .bL 17,
 zP 19 (.bin .sub) [.t 18,zI 1],
 zR 20 (.az 2) 13 19,
 zF 21 20 0,
 zL 22 21,
 zM 2 22,
 zK 3 (.bool true)] [[],[],[],[],[],[],[],[],[],[],[],[],[],[],[]])
 .ret)))⟩
def Ta:an:=⟨76,[.tmp 8],
 (.seq (.ops [zV 8 0])
 (.seq (.seq (.ops [zM 12 1,
 zP 13 (.bin .lss) [.t 12,zI 0],
 zM 14 13,
 bV 15 1 14 false,
 bV 16 0 14 false,
 lA 17 16 14 false,
 fG 18 17 0 14 false,
 fA 19 18 14 false,
 cw 20 .bL [.t 19] 14 false,
 cw 21 (.bin .geq) [.t 15,.t 20] 14 false,
 zP 22 .pick [.t 14,.c (.bool true),.t 21]])
 (.cond (.t 22)
 (.seq (.ops [zV 8 9])
 .ret)
 .skip))
 (.seq (.seq (.ops [zM 23 0,
 zN 24 23,
 zF 25 24 4,
 zL 26 25,
 zM 27 1,
 zR 28 (.az 1) 26 27,
 zL 29 28,
 zP 30 (.neq .cQ) [.t 29,.c .aQ]])
 (.cond (.t 30)
 (.seq (.ops [zV 8 141])
 .ret)
 .skip))
 (.seq (.ops [zM 32 0,
 zN 33 32,
 zF 34 33 0,
 zL 35 34,
 zM 36 1,
 zR 37 (.az 8) 35 36,
 zO 38 8 37,
 zM 39 2,
 zM 40 3,
 xO 41 115 38 39 40,
 zM 31 41,
 zQ 42 (.ext 0) 31,
 zQ 43 (.ext 1) 31,
 zM 9 42,
 zM 10 43])
 (.seq (.seq (.ops [zM 44 10,
 zP 45 (.bin .neq) [.t 44,zI 0]])
 (.cond (.t 45)
 (.seq (.ops [zM 46 10,
 zM 8 46])
 .ret)
 .skip))
 (.seq (.seq (.ops [zM 47 0,
 zN 48 47,
 zF 49 48 1,
 zL 50 49,
 zM 51 1,
 zR 52 (.az 1) 50 51,
 zL 53 52,
 zM 54 3,
 eF 55 116 53 54,
 zM 11 55])
 (.seq (.ops [zM 56 11,
 zP 57 (.bin .neq) [.t 56,zI 0]])
 (.cond (.t 57)
 (.seq (.ops [zM 58 11,
 zM 8 58])
 .ret)
 .skip)))
 (.seq (.ops [zM 59 0,
 zN 60 59,
 zF 61 60 4,
 zL 62 61,
 zM 63 1,
 zM 64 9,
 zR 65 (.az 1) 62 63,
 zS 1 [.t 65,.t 64]])
 (.seq (.cn [zM 66 0,
 zN 67 66,
 zF 68 67 2,
 zL 69 68,
 zM 70 1,
 zM 71 9,
 zN 72 71,
 zF 73 72 9,
 zL 74 73,
 xO 75 117 69 70 74] [[],[],[],[],[],[],[],[],[],[]])
 (.seq (.ops [zV 8 0])
 .ret)))))))))⟩
def VM:an:=⟨20,[.tmp 4],
 (.seq (.ops [zV 4 0])
 (.seq (.seq (.ops [zM 6 0,
 zM 7 1,
 eF 8 118 6 7,
 zM 5 8])
 (.seq (.ops [zM 9 5,
 zP 10 (.bin .neq) [.t 9,zI 0]])
 (.cond (.t 10)
 (.seq (.ops [zM 11 5,
 zM 4 11])
 .ret)
 .skip)))
 (.seq (.ops [zM 12 0,
 zN 13 12,
 zF 14 13 4,
 zL 15 14,
 zM 16 1,
 zR 17 (.az 1) 15 16,
 zL 18 17,
 dS 19 119 18,
 zM 4 19])
 .ret)))⟩
def VN:an:=⟨20,[.tmp 4],
 (.seq (.ops [zV 4 0])
 (.seq (.seq (.ops [zM 6 0,
 zM 7 1,
 eF 8 118 6 7,
 zM 5 8])
 (.seq (.ops [zM 9 5,
 zP 10 (.bin .neq) [.t 9,zI 0]])
 (.cond (.t 10)
 (.seq (.ops [zM 11 5,
 zM 4 11])
 .ret)
 .skip)))
 (.seq (.ops [zM 12 0,
 zN 13 12,
 zF 14 13 4,
 zL 15 14,
 zM 16 1,
 zR 17 (.az 1) 15 16,
 zL 18 17,
 dS 19 120 18,
 zM 4 19])
 .ret)))⟩
def VP:an:=⟨57,[.tmp 6],
 (.seq (.ops [zV 6 0])
 (.seq (.seq (.ops [zM 9 0,
 zM 10 1,
 eF 11 118 9 10,
 zM 7 11])
 (.seq (.ops [zM 12 7,
 zP 13 (.bin .neq) [.t 12,zI 0]])
 (.cond (.t 13)
 (.seq (.ops [zM 14 7,
 zM 6 14])
 .ret)
 .skip)))
 (.seq (.seq (.ops [zM 15 0,
 zN 16 15,
 zF 17 16 4,
 zL 18 17,
 zM 19 1,
 zR 20 (.az 1) 18 19,
 zL 21 20,
 zN 22 21,
 zF 23 22 11,
 zL 24 23,
 zP 25 (.bin .geq) [.t 24,zI 2]])
 (.cond (.t 25)
 (.seq (.ops [zV 6 130])
 .ret)
 .skip))
 (.seq (.ops [zM 26 0,
 zN 27 26,
 zF 28 27 3,
 zL 29 28,
 zM 30 1,
 zM 31 2,
 xO 32 121 29 30 31,
 zM 8 32])
 (.seq (.seq (.ops [zM 33 8,
 zP 34 (.bin .eql) [.t 33,zI 0],
 zM 35 34,
 bV 36 0 35 true,
 lA 37 36 35 true,
 fG 38 37 4 35 true,
 fA 39 38 35 true,
 bV 40 1 35 true,
 cw 41 (.az 1) [.t 39,.t 40] 35 true,
 fA 42 41 35 true,
 lA 43 42 35 true,
 fG 44 43 11 35 true,
 fA 45 44 35 true,
 cw 46 (.bin .eql) [.t 45,zI 0] 35 true,
 zP 47 .pick [.t 35,.t 46,.c (.bool false)]])
 (.cond (.t 47)
 (.ops [zM 48 0,
 zN 49 48,
 zF 50 49 4,
 zL 51 50,
 zM 52 1,
 zR 53 (.az 1) 51 52,
 zL 54 53,
 ⟨some 55,none,.call,[.c (.func (.func 122) [] []),.t 54,zI 1]⟩])
 .skip))
 (.seq (.ops [zM 56 8,
 zM 6 56])
 .ret))))))⟩
def VQ:an:=⟨44,[.tmp 4],
 (.seq (.ops [zV 4 0])
 (.seq (.seq (.ops [zM 8 0,
 zM 9 1,
 eF 10 118 8 9,
 zM 5 10])
 (.seq (.ops [zM 11 5,
 zP 12 (.bin .neq) [.t 11,zI 0]])
 (.cond (.t 12)
 (.seq (.ops [zM 13 5,
 zM 4 13])
 .ret)
 .skip)))
 (.seq (.ops [zM 15 0,
 zN 16 15,
 zF 17 16 3,
 zL 18 17,
 zM 19 1,
 eF 20 123 18 19,
 zM 14 20,
 zQ 21 (.ext 0) 14,
 zQ 22 (.ext 1) 14,
 zM 6 21,
 zM 7 22])
 (.seq (.seq (.ops [zM 23 7,
 zP 24 (.bin .eql) [.t 23,zI 0],
 zM 25 24,
 bV 26 0 25 true,
 lA 27 26 25 true,
 fG 28 27 3 25 true,
 fA 29 28 25 true,
 bV 30 1 25 true,
 oE 31 124 [.t 29,.t 30] 25 true,
 cw 32 .bL [.t 31] 25 true,
 cw 33 (.bin .eql) [.t 32,zI 0] 25 true,
 zP 34 .pick [.t 25,.t 33,.c (.bool false)]])
 (.cond (.t 34)
 (.ops [zM 35 0,
 zN 36 35,
 zF 37 36 4,
 zL 38 37,
 zM 39 1,
 zR 40 (.az 1) 38 39,
 zL 41 40,
 dS 42 125 41])
 .skip))
 (.seq (.ops [zM 43 7,
 zM 4 43])
 .ret)))))⟩
def VR:an:=⟨40,[.tmp 4],
 (.seq (.ops [zV 4 0])
 (.seq (.seq (.ops [zM 6 0,
 zM 7 1,
 eF 8 118 6 7,
 zM 5 8])
 (.seq (.ops [zM 9 5,
 zP 10 (.bin .neq) [.t 9,zI 0]])
 (.cond (.t 10)
 (.seq (.ops [zM 11 5,
 zM 4 11])
 .ret)
 .skip)))
 (.seq (.seq (.ops [zM 12 0,
 zN 13 12,
 zF 14 13 0,
 zL 15 14,
 zM 16 1,
 zR 17 (.az 8) 15 16,
 zF 18 17 5,
 zL 19 18,
 zP 20 (.bin .eql) [.t 19,zI 0]])
 (.cond (.t 20)
 (.seq (.ops [zV 4 133])
 .ret)
 .skip))
 (.seq (.seq (.ops [zM 21 0,
 zN 22 21,
 zF 23 22 4,
 zL 24 23,
 zM 25 1,
 zR 26 (.az 1) 24 25,
 zL 27 26,
 zN 28 27,
 zF 29 28 11,
 zL 30 29,
 zP 31 (.bin .eql) [.t 30,zI 3]])
 (.cond (.t 31)
 (.seq (.ops [zV 4 0])
 .ret)
 .skip))
 (.seq (.ops [zM 32 0,
 zN 33 32,
 zF 34 33 4,
 zL 35 34,
 zM 36 1,
 zR 37 (.az 1) 35 36,
 zL 38 37,
 zC 39 122 [.t 38,zI 3],
 zM 4 39])
 .ret)))))⟩
def VT:an:=⟨31,[.tmp 4],
 (.seq (.ops [zV 4 0])
 (.seq (.seq (.ops [zM 6 0,
 zM 7 1,
 eF 8 118 6 7,
 zM 5 8])
 (.seq (.ops [zM 9 5,
 zP 10 (.bin .neq) [.t 9,zI 0]])
 (.cond (.t 10)
 (.seq (.ops [zM 11 5,
 zM 4 11])
 .ret)
 .skip)))
 (.seq (.seq (.ops [zM 12 0,
 zN 13 12,
 zF 14 13 4,
 zL 15 14,
 zM 16 1,
 zR 17 (.az 1) 15 16,
 zL 18 17,
 zN 19 18,
 zF 20 19 11,
 zL 21 20,
 zP 22 (.bin .neq) [.t 21,zI 3]])
 (.cond (.t 22)
 (.seq (.ops [zV 4 132])
 .ret)
 .skip))
 (.seq (.ops [zM 23 0,
 zN 24 23,
 zF 25 24 4,
 zL 26 25,
 zM 27 1,
 zR 28 (.az 1) 26 27,
 zL 29 28,
 zC 30 122 [.t 29,zI 2],
 zM 4 30])
 .ret))))⟩
def VU:an:=⟨31,[.tmp 4],
 (.seq (.ops [zV 4 0])
 (.seq (.seq (.ops [zM 6 0,
 zM 7 1,
 eF 8 118 6 7,
 zM 5 8])
 (.seq (.ops [zM 9 5,
 zP 10 (.bin .neq) [.t 9,zI 0]])
 (.cond (.t 10)
 (.seq (.ops [zM 11 5,
 zM 4 11])
 .ret)
 .skip)))
 (.seq (.seq (.ops [zM 12 0,
 zN 13 12,
 zF 14 13 4,
 zL 15 14,
 zM 16 1,
 zR 17 (.az 1) 15 16,
 zL 18 17,
 zN 19 18,
 zF 20 19 11,
 zL 21 20,
 zP 22 (.bin .neq) [.t 21,zI 2]])
 (.cond (.t 22)
 (.seq (.ops [zV 4 132])
 .ret)
 .skip))
 (.seq (.ops [zM 23 0,
 zN 24 23,
 zF 25 24 4,
 zL 26 25,
 zM 27 1,
 zR 28 (.az 1) 26 27,
 zL 29 28,
 dS 30 125 29,
 zM 4 30])
 .ret))))⟩
def VV:an:=⟨27,[.tmp 4],
 (.seq (.ops [zK 4 (.bool false)])
 (.seq (.seq (.ops [zM 5 0,
 zM 6 1,
 eF 7 118 5 6,
 zP 8 (.bin .neq) [.t 7,zI 0]])
 (.cond (.t 8)
 (.seq (.ops [zK 4 (.bool false)])
 .ret)
 .skip))
 (.seq (.ops [zM 9 0,
 zN 10 9,
 zF 11 10 4,
 zL 12 11,
 zM 13 1,
 zR 14 (.az 1) 12 13,
 zS 1 [.t 14,.c .aQ]])
 (.seq (.ops [zM 15 0,
 zN 16 15,
 zF 17 16 2,
 zL 18 17,
 zM 19 1,
 eF 20 126 18 19])
 (.seq (.ops [zM 21 0,
 zN 22 21,
 zF 23 22 3,
 zL 24 23,
 zM 25 1,
 eF 26 127 24 25])
 (.seq (.ops [zK 4 (.bool true)])
 .ret))))))⟩
def eZ:AC:=(.seq (.seq (.cn [zM 20 5,
 zM 21 3,
 zQ 22 .bL 21,
 zR 23 (.bin .lss) 20 22,
 zM 24 23,
 bV 25 0 24 true,
 lA 26 25 24 true,
 fG 27 26 0 24 true,
 fA 28 27 24 true,
 bV 29 3 24 true,
 bV 30 5 24 true,
 cw 31 (.az 1) [.t 29,.t 30] 24 true,
 fA 32 31 24 true,
 cw 33 (.az 1) [.t 28,.t 32] 24 true,
 fA 34 33 24 true,
 bV 35 0 24 true,
 lA 36 35 24 true,
 fG 37 36 0 24 true,
 fA 38 37 24 true,
 bV 39 4 24 true,
 cw 40 (.az 1) [.t 38,.t 39] 24 true,
 fA 41 40 24 true,
 cw 42 (.bin .leq) [.t 34,.t 41] 24 true,
 zP 43 .pick [.t 24,.t 42,.c (.bool false)]] [[],[],[],[],[],[],[],[],[],[],[],[],[],[],[],[],[],[],[],[],[],[],[],[]])
 (.cond (.t 43)
 .skip
 (.exit 2)))
 (.block 3 (.ops [zM 44 5,
 zP 45 (.bin .add) [.t 44,zI 1],
 zM 5 45])))
def eY:AC:=(.seq (.seq (.ops [zM 7 4,
 zM 8 0,
 zN 9 8,
 zF 10 9 0,
 zL 11 10,
 zQ 12 .bL 11,
 zR 13 (.bin .lss) 7 12])
 (.cond (.t 13)
 .skip
 (.exit 0)))
 (.seq (.block 1 (.seq (.seq (.ops [zM 16 0,
 zM 17 4,
 eF 18 128 16 17,
 zQ 19 .not 18])
 (.cond (.t 19)
 (.exit 1)
 .skip))
 (.seq (.ops [zV 5 0])
 (.seq (.block 2 (.loop eZ))
 (.seq (.ops [zK 6 .aL])
 (.seq (.ops [zM 46 6,
 zM 47 3,
 zM 48 5,
 zR 49 (.slice 1 false true false) 47 48,
 zA 50 1 8 46 49,
 zM 6 50])
 (.seq (.ops [zM 51 6,
 zM 52 4,
 ⟨some 53,none,.a (.de [zz] 1 1 [0]),[.t 52]⟩,
 zA 54 1 8 51 53,
 zM 6 54])
 (.ops [zM 55 6,
 zM 56 3,
 zM 57 5,
 zR 58 (.slice 1 true false false) 56 57,
 zA 59 1 8 55 58,
 zM 3 59]))))))))
 (.ops [zM 14 4,
 zP 15 (.bin .add) [.t 14,zI 1],
 zM 4 15])))
def VW:an:=⟨61,[.tmp 2],
 (.seq (.ops [zK 2 .aL])
 (.seq (.ops [zK 3 .aL])
 (.seq (.seq (.ops [zV 4 0])
 (.block 0 (.loop eY)))
 (.seq (.ops [zM 60 3,
 zM 2 60])
 .ret))))⟩
def VX:an:=⟨21,[.cell 4 3 true,.tmp 5],
 (.seq (.ops [⟨some 4,none,.a (.alloc [zz,zz,(.str [])]),[]⟩,
 zK 5 (.bool false)])
 (.seq (.seq (.ops [zM 6 0,
 zM 7 1,
 eF 8 118 6 7,
 zP 9 (.bin .neq) [.t 8,zI 0]])
 (.cond (.t 9)
 (.seq (.ops [zP 10 (.build [zz,zz,(.str [])] []) [],
 zS 3 [.t 4,.t 10],
 zK 5 (.bool false)])
 .ret)
 .skip))
 (.seq (.ops [zM 11 0,
 zN 12 11,
 zF 13 12 4,
 zL 14 13,
 zM 15 1,
 zR 16 (.az 1) 14 15,
 zL 17 16,
 dS 18 129 17,
 zQ 19 (.ext 0) 18,
 zQ 20 (.ext 1) 18,
 zS 3 [.t 4,.t 19],
 zM 5 20])
 .ret)))⟩
def VY:an:=⟨20,[.tmp 4,.tmp 5],
 (.seq (.ops [zV 4 0,
 zK 5 (.bool false)])
 (.seq (.seq (.ops [zM 6 0,
 zM 7 1,
 eF 8 118 6 7,
 zP 9 (.bin .neq) [.t 8,zI 0]])
 (.cond (.t 9)
 (.seq (.ops [zV 4 0,
 zK 5 (.bool false)])
 .ret)
 .skip))
 (.seq (.ops [zM 10 0,
 zN 11 10,
 zF 12 11 4,
 zL 13 12,
 zM 14 1,
 zR 15 (.az 1) 13 14,
 zL 16 15,
 zN 17 16,
 zF 18 17 9,
 zL 19 18,
 zM 4 19,
 zK 5 (.bool true)])
 .ret)))⟩
def VZ:an:=⟨20,[.tmp 6],
 (.seq (.ops [zV 6 0])
 (.seq (.seq (.ops [zM 7 0,
 zM 8 1,
 eF 9 118 7 8,
 zP 10 (.bin .neq) [.t 9,zI 0]])
 (.cond (.t 10)
 (.seq (.ops [zV 6 0])
 .ret)
 .skip))
 (.seq (.ops [zM 11 0,
 zN 12 11,
 zF 13 12 4,
 zL 14 13,
 zM 15 1,
 zR 16 (.az 1) 14 15,
 zL 17 16,
 zM 18 2,
 eF 19 130 17 18,
 zM 6 19])
 .ret)))⟩
def Tb:an:=⟨24,[.tmp 4],
 (.seq (.ops [zV 4 0])
 (.seq (.seq (.ops [zM 5 1,
 zP 6 (.bin .lss) [.t 5,zI 0],
 zM 7 6,
 bV 8 1 7 false,
 bV 9 0 7 false,
 lA 10 9 7 false,
 fG 11 10 0 7 false,
 fA 12 11 7 false,
 cw 13 .bL [.t 12] 7 false,
 cw 14 (.bin .geq) [.t 8,.t 13] 7 false,
 zP 15 .pick [.t 7,.c (.bool true),.t 14]])
 (.cond (.t 15)
 (.seq (.ops [zV 4 0])
 .ret)
 .skip))
 (.seq (.ops [zM 16 0,
 zN 17 16,
 zF 18 17 1,
 zL 19 18,
 zM 20 1,
 zR 21 (.az 1) 19 20,
 zL 22 21,
 dS 23 131 22,
 zM 4 23])
 .ret)))⟩
def V0:an:=⟨15,[.tmp 4],
 (.seq (.ops [zK 4 .aL])
 (.seq (.seq (.ops [zM 5 0,
 zM 6 1,
 eF 7 118 5 6,
 zP 8 (.bin .neq) [.t 7,zI 0]])
 (.cond (.t 8)
 (.seq (.ops [zK 4 .aL])
 .ret)
 .skip))
 (.seq (.ops [zM 9 0,
 zN 10 9,
 zF 11 10 3,
 zL 12 11,
 zM 13 1,
 eF 14 124 12 13,
 zM 4 14])
 .ret)))⟩
def V1:an:=⟨21,[.tmp 6],
 (.seq (.ops [zV 6 0])
 (.seq (.ops [zM 10 0,
 zM 11 1,
 eF 12 46 10 11,
 zM 9 12,
 zQ 13 (.ext 0) 9,
 zQ 14 (.ext 1) 9,
 zM 7 13,
 zM 8 14])
 (.seq (.seq (.ops [zM 15 8,
 zP 16 (.bin .neq) [.t 15,zI 0]])
 (.cond (.t 16)
 (.seq (.ops [zM 17 8,
 zM 6 17])
 .ret)
 .skip))
 (.seq (.ops [zM 18 2,
 zM 19 7,
 ⟨some 20,none,.call,[.t 18,.t 19]⟩,
 zM 6 20])
 .ret))))⟩
def V2:an:=⟨23,[.tmp 2],
 (.seq (.ops [zV 2 0])
 (.seq (.seq (.ops [zM 4 0,
 dS 5 108 4])
 (.cond (.t 5)
 (.seq (.ops [zV 2 1])
 .ret)
 .skip))
 (.seq (.ops [zM 6 0,
 zN 7 6,
 zF 8 7 0,
 zL 9 8,
 dS 10 132 9,
 zM 3 10])
 (.seq (.ops [zM 11 0,
 zM 12 0,
 zN 13 12,
 zF 14 13 14,
 zL 15 14,
 zM 16 15,
 bV 17 3 16 false,
 cw 18 (.bin .eql) [.t 17,zI 0] 16 false,
 zP 19 .pick [.t 16,.c (.bool true),.t 18],
 zN 20 11,
 zF 21 20 14,
 zS 1 [.t 21,.t 19]])
 (.seq (.ops [zM 22 3,
 zM 2 22])
 .ret)))))⟩
def V3:an:=⟨43,[.tmp 2],
 (.seq (.ops [zV 2 0])
 (.seq (.block 0 (.seq (.ops [zM 5 0,
 dS 6 108 5,
 zM 4 6])
 (.cond (.t 4)
 (.seq (.ops [zV 2 1])
 .ret)
 (.seq (.ops [zM 8 0,
 zN 9 8,
 zF 10 9 11,
 zL 11 10,
 zP 12 (.bin .eql) [.t 11,zI 3],
 zM 7 12])
 (.cond (.t 7)
 (.seq (.ops [zV 2 250])
 .ret)
 .skip)))))
 (.seq (.seq (.ops [zM 13 0,
 zN 14 13,
 zF 15 14 0,
 zL 16 15,
 dS 17 133 16,
 zM 3 17])
 (.seq (.ops [zM 18 3,
 zP 19 (.bin .neq) [.t 18,zI 0]])
 (.cond (.t 19)
 (.seq (.ops [zM 20 3,
 zM 2 20])
 .ret)
 .skip)))
 (.seq (.ops [zM 21 0,
 zN 22 21,
 zF 23 22 14,
 zS 1 [.t 23,.c (.bool true)]])
 (.seq (.ops [zM 24 0,
 zN 25 24,
 zF 26 25 10,
 zL 27 26,
 zP 28 (.bin .add) [.t 27,zI 1],
 zN 29 24,
 zF 30 29 10,
 zS 1 [.t 30,.t 28]])
 (.seq (.seq (.ops [zM 31 0,
 zN 32 31,
 zF 33 32 11,
 zL 34 33,
 zP 35 (.bin .neq) [.t 34,zI 0]])
 (.cond (.t 35)
 (.ops [zM 36 0,
 zN 37 36,
 zF 38 37 12,
 zL 39 38,
 zP 40 (.bin .add) [.t 39,zI 1],
 zN 41 36,
 zF 42 41 12,
 zS 1 [.t 42,.t 40]])
 .skip))
 (.seq (.ops [zV 2 0])
 .ret)))))))⟩
def V4:an:=⟨27,[.tmp 5],
 (.seq (.ops [zV 5 0])
 (.seq (.seq (.ops [zM 7 0,
 dS 8 83 7,
 zP 9 (.bin .geq) [.t 8,zI 2]])
 (.cond (.t 9)
 (.seq (.ops [zV 5 130])
 .ret)
 .skip))
 (.seq (.cn [zL 10 1,
 zN 11 10,
 zF 12 11 0,
 zL 13 12,
 zL 14 2,
 zL 15 3,
 xO 16 84 13 14 15,
 zM 6 16] [[],[],[],[],[],[],[],[]])
 (.seq (.seq (.ops [zM 17 6,
 zP 18 (.bin .eql) [.t 17,zI 0],
 zM 19 18,
 bV 20 0 19 true,
 oE 21 83 [.t 20] 19 true,
 cw 22 (.bin .eql) [.t 21,zI 0] 19 true,
 zP 23 .pick [.t 19,.t 22,.c (.bool false)]])
 (.cond (.t 23)
 (.seq (.ops [zM 24 0,
 zC 25 85 [.t 24,zI 1],
 zM 5 25])
 .ret)
 .skip))
 (.seq (.ops [zM 26 6,
 zM 5 26])
 .ret)))))⟩
def Tc:an:=⟨11,[.tmp 2],
 (.seq (.ops [zV 2 0])
 (.seq (.ops [zM 6 0,
 dS 7 134 6,
 zM 5 7,
 zQ 8 (.ext 0) 5,
 zQ 9 (.ext 1) 5,
 zM 3 8,
 zM 4 9])
 (.seq (.ops [zM 10 3,
 zM 2 10])
 .ret)))⟩
def V5:an:=⟨50,[.tmp 6],
 (.seq (.ops [zB 5 2,
 zV 6 0])
 (.seq (.seq (.ops [zM 9 0,
 zM 10 1,
 eF 11 135 9 10,
 zM 7 11])
 (.seq (.ops [zM 12 7,
 zP 13 (.bin .neq) [.t 12,zI 0]])
 (.cond (.t 13)
 (.seq (.ops [zM 14 7,
 zM 6 14])
 .ret)
 .skip)))
 (.seq (.ops [zQ 15 (.jP (.func 136) 0) 5,
 zM 8 15])
 (.seq (.block 0 (.seq (.cn [zM 17 0,
 zN 18 17,
 zF 19 18 0,
 zL 20 19,
 zM 21 1,
 zL 22 5,
 xO 23 137 20 21 22,
 zQ 24 .not 23,
 zM 16 24] [[],[],[],[],[],[],[],[],[]])
 (.cond (.t 16)
 (.seq (.ops [zV 6 133])
 .ret)
 (.seq (.ops [zM 26 0,
 zN 27 26,
 zF 28 27 1,
 zL 29 28,
 zM 30 8,
 eF 31 138 29 30,
 zM 25 31])
 (.cond (.t 25)
 (.seq (.ops [zV 6 131])
 .ret)
 (.seq (.ops [zM 33 0,
 zM 34 1,
 eF 35 48 33 34,
 zQ 36 .bL 35,
 zP 37 (.bin .geq) [.t 36,zI 4],
 zM 32 37])
 (.cond (.t 32)
 (.seq (.ops [zV 6 130])
 .ret)
 .skip)))))))
 (.seq (.cn [zM 38 0,
 zM 39 0,
 zN 40 39,
 zF 41 40 1,
 zL 42 41,
 zM 43 1,
 zL 44 5,
 zR 45 (.build [zz,zz] [(0,1),(1,1)]) 43 44,
 ⟨some 46,none,.a (.de [zz,zz] 1 2 [0]),[.t 45]⟩,
 zA 47 2 16 42 46,
 zN 48 38,
 zF 49 48 1,
 zS 1 [.t 49,.t 47]] [[],[],[],[],[],[],[],[],[],[],[],[],[]])
 (.seq (.ops [zV 6 0])
 .ret))))))⟩
def V6:an:=⟨65,[.tmp 4],
 (.seq (.ops [zV 4 0])
 (.seq (.block 0 (.seq (.ops [zM 6 0,
 dS 7 108 6,
 zM 5 7])
 (.cond (.t 5)
 (.seq (.ops [zV 4 1])
 .ret)
 (.seq (.seq (.ops [zM 9 1,
 zP 10 (.bin .lss) [.t 9,zI 1],
 zM 8 10])
 (.cond (.t 8)
 .skip
 (.ops [zM 11 1,
 zP 12 (.bin .gtr) [.t 11,zI 3],
 zM 8 12])))
 (.cond (.t 8)
 (.seq (.ops [zV 4 2])
 .ret)
 (.seq (.ops [zM 14 0,
 zN 15 14,
 zF 16 15 11,
 zL 17 16,
 zP 18 (.bin .eql) [.t 17,zI 3],
 zM 19 18,
 bV 20 1 19 true,
 cw 21 (.bin .eql) [.t 20,zI 2] 19 true,
 zP 22 .pick [.t 19,.t 21,.c (.bool false)],
 zM 13 22])
 (.cond (.t 13)
 (.seq (.ops [zM 23 0,
 zM 24 1,
 zN 25 23,
 zF 26 25 11,
 zS 1 [.t 26,.t 24]])
 (.seq (.ops [zV 4 0])
 .ret))
 (.seq (.ops [zM 28 0,
 zN 29 28,
 zF 30 29 11,
 zL 31 30,
 zP 32 (.bin .neq) [.t 31,zI 0],
 zM 27 32])
 (.cond (.t 27)
 (.seq (.ops [zV 4 130])
 .ret)
 (.seq (.cn [zM 34 1,
 zP 35 (.bin .neq) [.t 34,zI 1],
 zM 36 35,
 bV 37 0 36 true,
 lA 38 37 36 true,
 fG 39 38 13 36 true,
 fA 40 39 36 true,
 bV 41 0 36 true,
 lA 42 41 36 true,
 fG 43 42 1 36 true,
 fG 44 43 7 36 true,
 fA 45 44 36 true,
 cw 46 (.bin .geq) [.t 40,.t 45] 36 true,
 zP 47 .pick [.t 36,.t 46,.c (.bool false)],
 zM 33 47] [[],[],[],[],[],[],[],[],[],[],[],[],[],[],[]])
 (.cond (.t 33)
 (.seq (.ops [zV 4 170])
 .ret)
 (.seq (.ops [zM 49 1,
 zP 50 (.bin .neq) [.t 49,zI 1],
 zM 48 50])
 (.cond (.t 48)
 (.ops [zM 51 0,
 zN 52 51,
 zF 53 52 13,
 zL 54 53,
 zP 55 (.bin .add) [.t 54,zI 1],
 zN 56 51,
 zF 57 56 13,
 zS 1 [.t 57,.t 55]])
 .skip)))))))))))))
 (.seq (.ops [zM 58 0,
 zM 59 0,
 zM 60 1,
 zN 61 58,
 zF 62 61 11,
 zS 1 [.t 62,.t 60],
 zN 63 59,
 zF 64 63 12,
 zS 1 [.t 64,zI 0]])
 (.seq (.ops [zV 4 0])
 .ret))))⟩
def V7:an:=⟨29,[.tmp 4],
 (.seq (.ops [zV 4 0])
 (.seq (.seq (.cn [zL 8 1,
 zN 9 8,
 zF 10 9 0,
 zL 11 10,
 zL 12 2,
 eF 13 87 11 12,
 zM 7 13,
 zQ 14 (.ext 0) 7,
 zQ 15 (.ext 1) 7,
 zM 5 14,
 zM 6 15] [[],[],[],[],[],[],[],[],[],[],[]])
 (.seq (.ops [zM 16 6,
 zP 17 (.bin .neq) [.t 16,zI 0]])
 (.cond (.t 17)
 (.seq (.ops [zM 18 6,
 zM 4 18])
 .ret)
 .skip)))
 (.seq (.seq (.cn [zL 19 1,
 zN 20 19,
 zF 21 20 0,
 zL 22 21,
 zL 23 2,
 eF 24 48 22 23,
 zQ 25 .bL 24,
 zP 26 (.bin .eql) [.t 25,zI 0]] [[],[],[],[],[],[],[],[]])
 (.cond (.t 26)
 (.ops [zM 27 0,
 dS 28 88 27])
 .skip))
 (.seq (.ops [zV 4 0])
 .ret))))⟩
def V8:an:=⟨46,[.tmp 4,.tmp 5],
 (.seq (.ops [zV 4 0,
 zV 5 0])
 (.seq (.seq (.ops [zM 8 0,
 zM 9 1,
 eF 10 135 8 9,
 zM 6 10])
 (.seq (.ops [zM 11 6,
 zP 12 (.bin .neq) [.t 11,zI 0]])
 (.cond (.t 12)
 (.seq (.ops [zM 13 6,
 zV 4 0,
 zM 5 13])
 .ret)
 .skip)))
 (.seq (.ops [zM 14 0,
 zM 15 1,
 eF 16 139 14 15,
 zM 7 16])
 (.seq (.seq (.ops [zM 17 7,
 zP 18 (.bin .lss) [.t 17,zI 0]])
 (.cond (.t 18)
 (.seq (.ops [zV 4 0,
 zV 5 132])
 .ret)
 .skip))
 (.seq (.ops [zM 19 0,
 zN 20 19,
 zF 21 20 1,
 zL 22 21,
 zM 23 7,
 zR 24 (.az 2) 22 23,
 zF 25 24 1,
 zL 26 25,
 zM 4 26])
 (.seq (.cn [zM 27 0,
 zM 28 0,
 zN 29 28,
 zF 30 29 1,
 zL 31 30,
 zM 32 7,
 zM 33 7,
 zP 34 (.slice 2 false true true) [.t 31,.t 32,.t 33],
 zM 35 0,
 zN 36 35,
 zF 37 36 1,
 zL 38 37,
 zM 39 7,
 zP 40 (.bin .add) [.t 39,zI 1],
 zR 41 (.slice 2 true false false) 38 40,
 zA 42 2 16 34 41,
 zN 43 27,
 zF 44 43 1,
 zS 1 [.t 44,.t 42]] [[],[],[],[],[],[],[],[],[],[],[],[],[],[],[],[],[],[],[]])
 (.seq (.ops [zM 45 4,
 zM 4 45,
 zV 5 0])
 .ret)))))))⟩
def V9:an:=⟨18,[.tmp 2],
 (.seq (.ops [zV 2 0])
 (.seq (.block 0 (.seq (.ops [zM 4 0,
 dS 5 108 4,
 zM 3 5])
 (.cond (.t 3)
 (.seq (.ops [zV 2 1])
 .ret)
 (.seq (.ops [zM 7 0,
 zN 8 7,
 zF 9 8 11,
 zL 10 9,
 zP 11 (.bin .eql) [.t 10,zI 0],
 zM 6 11])
 (.cond (.t 6)
 (.seq (.ops [zV 2 132])
 .ret)
 .skip)))))
 (.seq (.ops [zM 12 0,
 zM 13 0,
 zN 14 12,
 zF 15 14 11,
 zS 1 [.t 15,zI 0],
 zN 16 13,
 zF 17 16 12,
 zS 1 [.t 17,zI 0]])
 (.seq (.ops [zV 2 0])
 .ret))))⟩
def Wa:an:=⟨21,[.tmp 4],
 (.seq (.ops [zV 4 0])
 (.seq (.block 0 (.seq (.cn [zL 6 1,
 zN 7 6,
 zF 8 7 2,
 zL 9 8,
 zL 10 2,
 zR 11 (.az 8) 9 10,
 zF 12 11 5,
 zL 13 12,
 zP 14 (.bin .eql) [.t 13,zI 0],
 zM 5 14] [[],[],[],[],[],[],[],[],[],[]])
 (.cond (.t 5)
 (.seq (.ops [zV 4 133])
 .ret)
 (.seq (.ops [zM 16 0,
 dS 17 83 16,
 zP 18 (.bin .eql) [.t 17,zI 3],
 zM 15 18])
 (.cond (.t 15)
 (.seq (.ops [zV 4 0])
 .ret)
 .skip)))))
 (.seq (.ops [zM 19 0,
 zC 20 85 [.t 19,zI 3],
 zM 4 20])
 .ret)))⟩
def Wb:an:=⟨8,[.tmp 2],
 (.seq (.ops [zV 2 0])
 (.seq (.seq (.ops [zM 3 0,
 dS 4 83 3,
 zP 5 (.bin .neq) [.t 4,zI 3]])
 (.cond (.t 5)
 (.seq (.ops [zV 2 132])
 .ret)
 .skip))
 (.seq (.ops [zM 6 0,
 zC 7 85 [.t 6,zI 2],
 zM 2 7])
 .ret)))⟩
def Wc:an:=⟨8,[.tmp 2],
 (.seq (.ops [zV 2 0])
 (.seq (.seq (.ops [zM 3 0,
 dS 4 83 3,
 zP 5 (.bin .neq) [.t 4,zI 2]])
 (.cond (.t 5)
 (.seq (.ops [zV 2 132])
 .ret)
 .skip))
 (.seq (.ops [zM 6 0,
 dS 7 88 6,
 zM 2 7])
 .ret)))⟩
def Wd:an:=⟨16,[.tmp 4],
 (.seq (.ops [zK 4 (.bool false)])
 (.seq (.ops [zM 5 0,
 dS 6 110 5,
 zQ 7 .not 6,
 zM 8 7,
 bV 9 0 8 true,
 lA 10 9 8 true,
 fG 11 10 0 8 true,
 fA 12 11 8 true,
 bV 13 1 8 true,
 oE 14 140 [.t 12,.t 13] 8 true,
 zP 15 .pick [.t 8,.t 14,.c (.bool false)],
 zM 4 15])
 .ret))⟩
def jX:AC:=(.seq (.seq (.ops [zM 13 6,
 zP 14 (.bin .eql) [.t 13,zI 0]])
 (.cond (.t 14)
 .skip
 (.exit 0)))
 (.seq (.block 1 (.ops [zM 21 4,
 zM 22 5,
 ⟨some 23,none,.a (.de [zz] 1 1 [0]),[.t 22]⟩,
 zA 24 1 8 21 23,
 zM 4 24]))
 (.ops [zM 16 0,
 zM 17 1,
 eF 18 87 16 17,
 zM 15 18,
 zQ 19 (.ext 0) 15,
 zQ 20 (.ext 1) 15,
 zM 5 19,
 zM 6 20])))
def We:an:=⟨26,[.tmp 4],
 (.seq (.ops [zK 4 .aL])
 (.seq (.seq (.ops [zM 8 0,
 zM 9 1,
 eF 10 87 8 9,
 zM 7 10,
 zQ 11 (.ext 0) 7,
 zQ 12 (.ext 1) 7,
 zM 5 11,
 zM 6 12])
 (.block 0 (.loop jX)))
 (.seq (.ops [zM 25 4,
 zM 4 25])
 .ret)))⟩
def Wf:an:=⟨18,[.tmp 4],
 (.seq (.ops [zV 4 0])
 (.seq (.block 0 (.seq (.ops [zM 6 0,
 dS 7 49 6,
 zM 5 7])
 (.cond (.t 5)
 (.seq (.ops [zV 4 1])
 .ret)
 (.seq (.seq (.ops [zM 9 1,
 zP 10 (.bin .lss) [.t 9,zI 0],
 zM 8 10])
 (.cond (.t 8)
 .skip
 (.ops [zM 11 1,
 zM 12 0,
 zN 13 12,
 zF 14 13 2,
 zL 15 14,
 zQ 16 .bL 15,
 zR 17 (.bin .geq) 11 16,
 zM 8 17])))
 (.cond (.t 8)
 (.seq (.ops [zV 4 9])
 .ret)
 .skip)))))
 (.seq (.ops [zV 4 0])
 .ret)))⟩
def Wg:an:=⟨39,[.tmp 6,.tmp 7],
 (.seq (.ops [zB 3 0,
 zK 6 .aQ,
 zV 7 0])
 (.seq (.seq (.ops [zO 11 8 3,
 ⟨some 12,none,.a (.de [zz,zz,zz,zz,zz,zz,zz,zz] 1 8 [0]),[.t 11]⟩,
 ⟨some 13,none,.a (.de [zz] 1 1 [0]),[zI 0]⟩,
 eF 14 10 12 13,
 zM 8 14])
 (.block 0 (.seq (.seq (.ops [zM 16 8,
 zP 17 (.bin .neq) [.t 16,zI 0],
 zM 15 17])
 (.cond (.t 15)
 .skip
 (.ops [zM 18 2,
 zP 19 (.bin .lss) [.t 18,zI 0],
 zM 15 19])))
 (.cond (.t 15)
 (.seq (.ops [zK 6 .aQ,
 zV 7 2])
 .ret)
 (.seq (.ops [zM 21 2,
 zP 22 (.bin .gtr) [.t 21,zI 1099511627776],
 zM 20 22])
 (.cond (.t 20)
 (.seq (.ops [zK 6 .aQ,
 zV 7 10])
 .ret)
 .skip))))))
 (.seq (.ops [zM 24 1,
 dS 25 141 24,
 zM 23 25,
 zQ 26 (.ext 0) 23,
 zQ 27 (.ext 1) 23,
 zM 9 26,
 zM 10 27])
 (.seq (.seq (.ops [zM 28 10,
 zP 29 (.bin .neq) [.t 28,zI 0]])
 (.cond (.t 29)
 (.seq (.ops [zM 30 10,
 zK 6 .aQ,
 zM 7 30])
 .ret)
 .skip))
 (.seq (.ops [zM 31 9,
 zO 32 8 3,
 zM 33 2,
 zF 34 3 1,
 zL 35 34,
 zR 36 (.bin .add) 33 35,
 zP 37 (.build [.aQ,zz,zz,zz,zz,zz,zz,zz,zz,zz,zz,zz,zz,zz,(.bool false)] [(0,1),(1,8),(9,1)]) [.t 31,.t 32,.t 36],
 zB 38 37,
 zM 6 38,
 zV 7 0])
 .ret)))))⟩
def Wh:an:=⟨24,[.tmp 4],
 (.seq (.ops [zV 4 0])
 (.seq (.ops [zM 7 0,
 zQ 8 (.jP (.func 142) 1) 7,
 zM 5 8])
 (.seq (.ops [zM 9 5,
 zM 10 1,
 ⟨some 11,none,.call,[.t 9,.t 10]⟩,
 zM 6 11])
 (.seq (.seq (.ops [zM 12 6,
 zP 13 (.bin .eql) [.t 12,zI 0]])
 (.cond (.t 13)
 (.ops [zM 14 0,
 zM 15 1,
 zM 16 0,
 zN 17 16,
 zF 18 17 0,
 zL 19 18,
 zR 20 (.bin .add) 15 19,
 zN 21 14,
 zF 22 21 1,
 zS 1 [.t 22,.t 20]])
 .skip))
 (.seq (.ops [zM 23 6,
 zM 4 23])
 .ret)))))⟩
def Wi:an:=⟨35,[.tmp 6],
 (.seq (.ops [zV 6 0])
 (.seq (.block 0 (.seq (.ops [zM 8 0,
 dS 9 110 8,
 zM 7 9])
 (.cond (.t 7)
 (.seq (.ops [zV 6 1])
 .ret)
 (.seq (.ops [zM 11 1,
 zP 12 (.bin .lss) [.t 11,zI 0],
 zM 13 12,
 bV 14 1 13 false,
 bV 15 0 13 false,
 lA 16 15 13 false,
 fG 17 16 1 13 false,
 fA 18 17 13 false,
 cw 19 (.bin .geq) [.t 14,.t 18] 13 false,
 zP 20 .pick [.t 13,.c (.bool true),.t 19],
 zM 10 20])
 (.cond (.t 10)
 (.seq (.ops [zV 6 9])
 .ret)
 (.seq (.ops [zM 22 2,
 zP 23 (.bin .lss) [.t 22,zI 0],
 zM 24 23,
 bV 25 2 24 false,
 cw 26 (.bin .gtr) [.t 25,zI 1099511627840] 24 false,
 zP 27 .pick [.t 24,.c (.bool true),.t 26],
 zM 21 27])
 (.cond (.t 21)
 (.seq (.ops [zV 6 2])
 .ret)
 .skip)))))))
 (.seq (.ops [zM 28 0,
 zN 29 28,
 zF 30 29 0,
 zL 31 30,
 zM 32 1,
 zM 33 2,
 xO 34 143 31 32 33,
 zM 6 34])
 .ret)))⟩
def Wj:an:=⟨9,[.tmp 2],
 (.seq (.ops [zV 2 0])
 (.seq (.seq (.ops [zM 3 0,
 dS 4 144 3])
 (.cond (.t 4)
 (.seq (.ops [zV 2 0])
 .ret)
 .skip))
 (.seq (.ops [zM 5 0,
 zN 6 5,
 zF 7 6 1,
 zL 8 7,
 zM 2 8])
 .ret)))⟩
def Wk:an:=⟨45,[.tmp 4],
 (.seq (.ops [zV 4 0])
 (.seq (.ops [zM 8 0,
 dS 9 101 8,
 zM 7 9,
 zQ 10 (.ext 0) 7,
 zQ 11 (.ext 1) 7,
 ⟨some 5,none,.a (.alloc [zz,zz,(.str [])]),[]⟩,
 zS 3 [.t 5,.t 10],
 zM 6 11])
 (.seq (.block 0 (.seq (.ops [zM 13 6,
 zQ 14 .not 13,
 zM 12 14])
 (.cond (.t 12)
 (.seq (.ops [zV 4 0])
 .ret)
 (.seq (.ops [zM 16 1,
 zM 17 0,
 zN 18 17,
 zF 19 18 9,
 zL 20 19,
 zR 21 (.bin .geq) 16 20,
 zM 15 21])
 (.cond (.t 15)
 (.seq (.ops [zV 4 3])
 .ret)
 (.seq (.cn [zM 23 0,
 zN 24 23,
 zF 25 24 10,
 zL 26 25,
 zM 27 0,
 zN 28 27,
 zF 29 28 1,
 zF 30 29 2,
 zL 31 30,
 zR 32 (.bin .geq) 26 31,
 zM 33 32,
 bV 34 0 33 true,
 lA 35 34 33 true,
 fG 36 35 0 33 true,
 fA 37 36 33 true,
 oE 38 145 [.t 37] 33 true,
 cw 39 (.bin .gtr) [.t 38,zI 0] 33 true,
 zP 40 .pick [.t 33,.t 39,.c (.bool false)],
 zM 22 40] [[],[],[],[],[],[],[],[],[],[],[],[],[],[],[],[],[],[],[]])
 (.cond (.t 22)
 (.seq (.ops [zV 4 1])
 .ret)
 (.seq (.ops [zM 42 0,
 zO 43 3 5,
 eF 44 146 42 43,
 zM 41 44])
 (.cond (.t 41)
 (.seq (.ops [zV 4 2])
 .ret)
 .skip)))))))))
 (.seq (.ops [zV 4 0])
 .ret))))⟩
def KR:an:=⟨10,[.tmp 2],
 (.seq (.ops [zK 2 .aL])
 (.seq (.seq (.ops [zM 3 0,
 dS 4 110 3])
 (.cond (.t 4)
 (.seq (.ops [zK 2 .aL])
 .ret)
 .skip))
 (.seq (.ops [zM 5 0,
 zN 6 5,
 zF 7 6 0,
 zL 8 7,
 dS 9 147 8,
 zM 2 9])
 .ret)))⟩
def KS:an:=⟨14,[.cell 2 3 true,.tmp 3],
 (.seq (.ops [⟨some 2,none,.a (.alloc [zz,zz,(.str [])]),[]⟩,
 zK 3 (.bool false)])
 (.seq (.seq (.ops [zM 4 0,
 dS 5 108 4])
 (.cond (.t 5)
 (.seq (.ops [zP 6 (.build [zz,zz,(.str [])] []) [],
 zS 3 [.t 2,.t 6],
 zK 3 (.bool false)])
 .ret)
 .skip))
 (.seq (.ops [zM 7 0,
 zN 8 7,
 zF 9 8 0,
 zL 10 9,
 dS 11 148 10,
 zQ 12 (.ext 0) 11,
 zQ 13 (.ext 1) 11,
 zS 3 [.t 2,.t 12],
 zM 3 13])
 .ret)))⟩
def KT:an:=⟨9,[.tmp 2],
 (.seq (.ops [zK 2 (.bool false)])
 (.seq (.ops [zM 3 0,
 zP 4 (.bin .geq) [.t 3,zI 1],
 zM 5 4,
 bV 6 0 5 true,
 cw 7 (.bin .leq) [.t 6,zI 64] 5 true,
 zP 8 .pick [.t 5,.t 7,.c (.bool false)],
 zM 2 8])
 .ret))⟩
def KU:an:=⟨5,[.tmp 0],
 (.seq (.ops [zK 0 .aQ])
 (.seq (.ops [zP 1 (.build [.aL,zz,zz,zz,zz,zz,zz,zz,zz,zz,zz,zz,zz,zz,zz,zz,zz,zz,zz,zz,zz,zz,zz,zz,zz,zz,zz,zz,zz,zz,zz,zz,zz,zz,zz,zz,zz,zz,zz,zz,zz,zz,zz,zz,zz,zz,zz,zz,zz,zz,zz,zz,zz,zz,zz,zz,zz,zz,zz,zz,zz,zz,zz,zz,zz] []) [],
 zB 2 1,
 zQ 3 (.build [.aQ] [(0,1)]) 2,
 zB 4 3,
 zM 0 4])
 .ret))⟩
def ku:AC:=(.seq (.ops [zR 9 (.bin .lss) 8 7])
 (.seq (.cond (.t 9)
 .skip
 (.exit 0))
 (.seq (.block 1 (.seq (.ops [zM 10 8,
 zM 5 10])
 (.seq (.ops [zM 11 1,
 zM 12 0,
 zM 13 5,
 zR 14 (.az 1) 12 13,
 zL 15 14,
 ⟨some 16,none,.call,[.t 11,.t 15]⟩])
 (.cond (.t 16)
 (.seq (.ops [zM 17 5,
 zM 4 17])
 .ret)
 .skip))))
 (.ops [zP 18 (.bin .add) [.t 8,zI 1],
 zM 8 18]))))
def GS:an:=⟨19,[.tmp 4],
 (.seq (.ops [zV 4 0])
 (.seq (.seq (.ops [zM 6 0,
 zQ 7 .bL 6,
 zV 8 0])
 (.block 0 (.loop ku)))
 (.seq (.ops [zV 4 (-1)])
 .ret)))⟩
def KV:an:=⟨9,[.tmp 4],
 (.seq (.ops [zK 4 (.bool false)])
 (.seq (.ops [zM 5 0,
 zM 6 1,
 eF 7 149 5 6,
 zP 8 (.bin .geq) [.t 7,zI 0],
 zM 4 8])
 .ret))⟩
def KW:an:=⟨6,[.tmp 2],
 (.seq (.ops [zB 1 0,
 zK 2 (.bool false)])
 (.seq (.ops [zO 3 8 1,
 dS 4 107 3,
 zQ 5 .not 4,
 zM 2 5])
 .ret))⟩
def KX:an:=⟨25,[.tmp 2],
 (.seq (.ops [zB 1 0,
 zK 2 (.bool false)])
 (.seq (.ops [zF 3 1 2,
 zL 4 3,
 zP 5 (.bin .leq) [zI 1,.t 4],
 zM 6 5,
 fG 7 1 2 6 true,
 fA 8 7 6 true,
 fG 9 1 1 6 true,
 fA 10 9 6 true,
 cw 11 (.bin .leq) [.t 8,.t 10] 6 true,
 zP 12 .pick [.t 6,.t 11,.c (.bool false)],
 zM 13 12,
 fG 14 1 1 13 true,
 fA 15 14 13 true,
 fG 16 1 0 13 true,
 fA 17 16 13 true,
 cw 18 (.bin .leq) [.t 15,.t 17] 13 true,
 zP 19 .pick [.t 13,.t 18,.c (.bool false)],
 zM 20 19,
 fG 21 1 0 20 true,
 fA 22 21 20 true,
 cw 23 (.bin .leq) [.t 22,zI 64] 20 true,
 zP 24 .pick [.t 20,.t 23,.c (.bool false)],
 zM 2 24])
 .ret))⟩
def GU:an:=⟨12,[.tmp 2],
 (.seq (.ops [zK 2 (.bool false)])
 (.seq (.ops [zM 3 0,
 zP 4 (.eq .cQ) [.t 3,.c .aQ],
 zM 5 4,
 bV 6 0 5 false,
 lA 7 6 5 false,
 fG 8 7 0 5 false,
 fA 9 8 5 false,
 cw 10 (.eq .cQ) [.t 9,.c .aQ] 5 false,
 zP 11 .pick [.t 5,.c (.bool true),.t 10],
 zM 2 11])
 .ret))⟩
def KY:an:=⟨4,[.tmp 2],
 (.seq (.ops [zB 1 0,
 zK 2 .kf])
 (.seq (.ops [zQ 3 (.jP (.func 150) 0) 1,
 zM 2 3])
 .ret))⟩
def KZ:an:=⟨12,[.tmp 2],
 (.seq (.ops [zK 2 (.bool false)])
 (.seq (.ops [zM 3 0,
 zP 4 (.eq .cQ) [.t 3,.c .aQ],
 zM 5 4,
 bV 6 0 5 false,
 lA 7 6 5 false,
 fG 8 7 0 5 false,
 fA 9 8 5 false,
 cw 10 (.eq .cQ) [.t 9,.c .aQ] 5 false,
 zP 11 .pick [.t 5,.c (.bool true),.t 10],
 zM 2 11])
 .ret))⟩
def K0:an:=⟨38,[.tmp 2,.tmp 3,.tmp 4],
 (.seq (.ops [zV 2 0,
 zV 3 0,
 zK 4 (.bool false)])
 (.seq (.seq (.ops [zM 5 0,
 dS 6 151 5,
 zM 7 6,
 bV 8 0 7 false,
 lA 9 8 7 false,
 fG 10 9 0 7 false,
 fA 11 10 7 false,
 lA 12 11 7 false,
 fG 13 12 0 7 false,
 fA 14 13 7 false,
 cw 15 .bL [.t 14] 7 false,
 cw 16 (.bin .eql) [.t 15,zI 0] 7 false,
 zP 17 .pick [.t 7,.c (.bool true),.t 16]])
 (.cond (.t 17)
 (.seq (.ops [zV 2 0,
 zV 3 0,
 zK 4 (.bool false)])
 .ret)
 .skip))
 (.seq (.cn [zM 18 0,
 zN 19 18,
 zF 20 19 0,
 zL 21 20,
 zN 22 21,
 zF 23 22 0,
 zL 24 23,
 zP 25 (.az 2) [.t 24,zI 0],
 zF 26 25 0,
 zL 27 26,
 zM 28 0,
 zN 29 28,
 zF 30 29 0,
 zL 31 30,
 zN 32 31,
 zF 33 32 0,
 zL 34 33,
 zP 35 (.az 2) [.t 34,zI 0],
 zF 36 35 1,
 zL 37 36,
 zM 2 27,
 zM 3 37,
 zK 4 (.bool true)] [[],[],[],[],[],[],[],[],[],[],[],[],[],[],[],[],[],[],[],[],[],[],[]])
 .ret)))⟩
def K1:an:=⟨8,[.tmp 4],
 (.seq (.ops [zB 2 0,
 zB 3 1,
 zV 4 0])
 (.seq (.ops [zL 5 2,
 zR 6 (.jP (.func 153) 0) 2 3,
 eF 7 152 5 6,
 zM 4 7])
 .ret))⟩
def K2:an:=⟨35,[.tmp 2],
 (.seq (.ops [zB 1 0,
 zK 2 (.bool false)])
 (.seq (.ops [zF 3 1 0,
 zL 4 3,
 zP 5 (.bin .geq) [.t 4,zI 1],
 zM 6 5,
 fG 7 1 0 6 true,
 fA 8 7 6 true,
 cw 9 (.bin .leq) [.t 8,zI 64] 6 true,
 zP 10 .pick [.t 6,.t 9,.c (.bool false)],
 zM 11 10,
 fG 12 1 1 11 true,
 fA 13 12 11 true,
 cw 14 (.bin .geq) [.t 13,zI 1] 11 true,
 zP 15 .pick [.t 11,.t 14,.c (.bool false)],
 zM 16 15,
 fG 17 1 1 16 true,
 fA 18 17 16 true,
 fG 19 1 0 16 true,
 fA 20 19 16 true,
 cw 21 (.bin .leq) [.t 18,.t 20] 16 true,
 zP 22 .pick [.t 16,.t 21,.c (.bool false)],
 zM 23 22,
 fG 24 1 2 23 true,
 fA 25 24 23 true,
 cw 26 (.bin .geq) [.t 25,zI 1] 23 true,
 zP 27 .pick [.t 23,.t 26,.c (.bool false)],
 zM 28 27,
 fG 29 1 2 28 true,
 fA 30 29 28 true,
 fG 31 1 1 28 true,
 fA 32 31 28 true,
 cw 33 (.bin .leq) [.t 30,.t 32] 28 true,
 zP 34 .pick [.t 28,.t 33,.c (.bool false)],
 zM 2 34])
 .ret))⟩
def kQ:AC:=(.seq (.seq (.ops [zM 7 6,
 zM 8 0,
 zQ 9 .bL 8,
 zR 10 (.bin .lss) 7 9])
 (.cond (.t 10)
 .skip
 (.exit 0)))
 (.seq (.block 1 (.seq (.ops [zM 13 0,
 zM 14 6,
 zM 15 1,
 xO 16 154 13 14 15])
 (.cond (.t 16)
 (.ops [zM 17 5,
 zM 18 0,
 zM 19 6,
 eF 20 61 18 19,
 zR 21 .mx 17 20,
 zM 5 21])
 .skip)))
 (.ops [zM 11 6,
 zP 12 (.bin .add) [.t 11,zI 1],
 zM 6 12])))
def K3:an:=⟨23,[.tmp 4],
 (.seq (.ops [zV 4 0])
 (.seq (.ops [zV 5 0])
 (.seq (.seq (.ops [zV 6 0])
 (.block 0 (.loop kQ)))
 (.seq (.ops [zM 22 5,
 zM 4 22])
 .ret))))⟩
def K4:an:=⟨36,[.tmp 6,.tmp 7],
 (.seq (.ops [zB 3 0,
 zK 6 .aQ,
 zV 7 0])
 (.seq (.seq (.ops [zO 10 8 3,
 ⟨some 11,none,.a (.de [zz,zz,zz,zz,zz,zz,zz,zz] 1 8 [0]),[.t 10]⟩,
 dS 12 55 11,
 zQ 13 .not 12,
 zM 14 13,
 bV 15 2 14 false,
 cw 16 (.bin .lss) [.t 15,zI 0] 14 false,
 zP 17 .pick [.t 14,.c (.bool true),.t 16]])
 (.cond (.t 17)
 (.seq (.ops [zK 6 .aQ,
 zV 7 2])
 .ret)
 .skip))
 (.seq (.seq (.ops [zM 18 2,
 zP 19 (.bin .gtr) [.t 18,zI 1099511627776]])
 (.cond (.t 19)
 (.seq (.ops [zK 6 .aQ,
 zV 7 10])
 .ret)
 .skip))
 (.seq (.ops [zM 21 1,
 dS 22 155 21,
 zM 20 22,
 zQ 23 (.ext 0) 20,
 zQ 24 (.ext 1) 20,
 zM 8 23,
 zM 9 24])
 (.seq (.seq (.ops [zM 25 9,
 zP 26 (.bin .neq) [.t 25,zI 0]])
 (.cond (.t 26)
 (.seq (.ops [zM 27 9,
 zK 6 .aQ,
 zM 7 27])
 .ret)
 .skip))
 (.seq (.ops [zO 28 8 3,
 zM 29 8,
 zM 30 2,
 zF 31 3 1,
 zL 32 31,
 zR 33 (.bin .add) 30 32,
 zP 34 (.build [zz,zz,zz,zz,zz,zz,zz,zz,.aQ,zz,zz,zz,zz,zz,(.bool false)] [(0,8),(8,1),(9,1)]) [.t 28,.t 29,.t 33],
 zB 35 34,
 zM 6 35,
 zV 7 0])
 .ret))))))⟩
def K5:an:=⟨21,[.tmp 4],
 (.seq (.ops [zV 4 0])
 (.seq (.ops [zM 6 0,
 zM 7 1,
 eF 8 156 6 7,
 zM 5 8])
 (.seq (.seq (.ops [zM 9 5,
 zP 10 (.bin .eql) [.t 9,zI 0]])
 (.cond (.t 10)
 (.ops [zM 11 0,
 zM 12 1,
 zM 13 0,
 zN 14 13,
 zF 15 14 0,
 zL 16 15,
 zR 17 (.bin .add) 12 16,
 zN 18 11,
 zF 19 18 1,
 zS 1 [.t 19,.t 17]])
 .skip))
 (.seq (.ops [zM 20 5,
 zM 4 20])
 .ret))))⟩
def K6:an:=⟨34,[.tmp 6],
 (.seq (.ops [zV 6 0])
 (.seq (.seq (.ops [zM 7 1,
 zP 8 (.bin .lss) [.t 7,zI 0],
 zM 9 8,
 bV 10 1 9 false,
 bV 11 0 9 false,
 lA 12 11 9 false,
 fG 13 12 0 9 false,
 fA 14 13 9 false,
 cw 15 .bL [.t 14] 9 false,
 cw 16 (.bin .geq) [.t 10,.t 15] 9 false,
 zP 17 .pick [.t 9,.c (.bool true),.t 16]])
 (.cond (.t 17)
 (.seq (.ops [zV 6 9])
 .ret)
 .skip))
 (.seq (.seq (.ops [zM 18 2,
 zP 19 (.bin .lss) [.t 18,zI 0],
 zM 20 19,
 bV 21 2 20 false,
 cw 22 (.bin .gtr) [.t 21,zI 1099511627840] 20 false,
 zP 23 .pick [.t 20,.c (.bool true),.t 22]])
 (.cond (.t 23)
 (.seq (.ops [zV 6 2])
 .ret)
 .skip))
 (.seq (.seq (.ops [zM 24 0,
 zM 25 1,
 eF 26 128 24 25])
 (.cond (.t 26)
 (.seq (.ops [zV 6 141])
 .ret)
 .skip))
 (.seq (.ops [zM 27 0,
 zN 28 27,
 zF 29 28 0,
 zL 30 29,
 zM 31 1,
 zM 32 2,
 zR 33 (.az 1) 30 31,
 zS 1 [.t 33,.t 32]])
 (.seq (.ops [zV 6 0])
 .ret))))))⟩
def K8:an:=⟨24,[.tmp 4],
 (.seq (.ops [zV 4 0])
 (.seq (.seq (.ops [zM 5 1,
 zP 6 (.bin .lss) [.t 5,zI 0],
 zM 7 6,
 bV 8 1 7 false,
 bV 9 0 7 false,
 lA 10 9 7 false,
 fG 11 10 0 7 false,
 fA 12 11 7 false,
 cw 13 .bL [.t 12] 7 false,
 cw 14 (.bin .geq) [.t 8,.t 13] 7 false,
 zP 15 .pick [.t 7,.c (.bool true),.t 14]])
 (.cond (.t 15)
 (.seq (.ops [zV 4 9])
 .ret)
 .skip))
 (.seq (.seq (.ops [zM 16 0,
 zN 17 16,
 zF 18 17 4,
 zL 19 18,
 zM 20 1,
 zR 21 (.az 1) 19 20,
 zL 22 21,
 zP 23 (.eq .cQ) [.t 22,.c .aQ]])
 (.cond (.t 23)
 (.seq (.ops [zV 4 250])
 .ret)
 .skip))
 (.seq (.ops [zV 4 0])
 .ret))))⟩
def K9:an:=⟨15,[.tmp 2],
 (.seq (.ops [zV 2 0])
 (.seq (.ops [zM 4 0,
 zN 5 4,
 zF 6 5 8,
 zL 7 6,
 dS 8 157 7,
 zM 3 8])
 (.seq (.seq (.ops [zM 9 3,
 zP 10 (.bin .eql) [.t 9,zI 0]])
 (.cond (.t 10)
 (.ops [zM 11 0,
 zN 12 11,
 zF 13 12 14,
 zS 1 [.t 13,.c (.bool true)]])
 .skip))
 (.seq (.ops [zM 14 3,
 zM 2 14])
 .ret))))⟩
def La:an:=⟨41,[.tmp 2],
 (.seq (.ops [zV 2 0])
 (.seq (.seq (.ops [zM 4 0,
 zN 5 4,
 zF 6 5 11,
 zL 7 6,
 zP 8 (.bin .eql) [.t 7,zI 3]])
 (.cond (.t 8)
 (.seq (.ops [zV 2 250])
 .ret)
 .skip))
 (.seq (.ops [zM 9 0,
 zN 10 9,
 zF 11 10 8,
 zL 12 11,
 dS 13 158 12,
 zM 3 13])
 (.seq (.seq (.ops [zM 14 3,
 zP 15 (.bin .neq) [.t 14,zI 0]])
 (.cond (.t 15)
 (.seq (.ops [zM 16 3,
 zM 2 16])
 .ret)
 .skip))
 (.seq (.ops [zM 17 0,
 zN 18 17,
 zF 19 18 14,
 zS 1 [.t 19,.c (.bool true)]])
 (.seq (.ops [zM 20 0,
 zM 21 0,
 zN 22 21,
 zF 23 22 10,
 zL 24 23,
 zP 25 (.bin .add) [.t 24,zI 1],
 zN 26 20,
 zF 27 26 10,
 zS 1 [.t 27,.t 25]])
 (.seq (.seq (.ops [zM 28 0,
 zN 29 28,
 zF 30 29 11,
 zL 31 30,
 zP 32 (.bin .neq) [.t 31,zI 0]])
 (.cond (.t 32)
 (.ops [zM 33 0,
 zM 34 0,
 zN 35 34,
 zF 36 35 12,
 zL 37 36,
 zP 38 (.bin .add) [.t 37,zI 1],
 zN 39 33,
 zF 40 39 12,
 zS 1 [.t 40,.t 38]])
 .skip))
 (.seq (.ops [zV 2 0])
 .ret))))))))⟩
def eX:AC:=(.seq (.seq (.ops [zM 27 7,
 zM 28 0,
 zN 29 28,
 zF 30 29 1,
 zL 31 30,
 zQ 32 .bL 31,
 zR 33 (.bin .lss) 27 32])
 (.cond (.t 33)
 .skip
 (.exit 0)))
 (.seq (.block 1 (.seq (.ops [zM 36 0,
 zN 37 36,
 zF 38 37 1,
 zL 39 38,
 zM 40 7,
 zR 41 (.az 2) 39 40,
 zF 42 41 1,
 zL 43 42,
 zM 44 2,
 zR 45 (.bin .eql) 43 44])
 (.cond (.t 45)
 (.seq (.ops [zV 6 131])
 .ret)
 .skip)))
 (.ops [zM 34 7,
 zP 35 (.bin .add) [.t 34,zI 1],
 zM 7 35])))
def Lb:an:=⟨63,[.tmp 6],
 (.seq (.ops [zV 6 0])
 (.seq (.seq (.ops [zM 8 1,
 zP 9 (.bin .lss) [.t 8,zI 0],
 zM 10 9,
 bV 11 1 10 false,
 bV 12 0 10 false,
 lA 13 12 10 false,
 fG 14 13 0 10 false,
 fA 15 14 10 false,
 cw 16 .bL [.t 15] 10 false,
 cw 17 (.bin .geq) [.t 11,.t 16] 10 false,
 zP 18 .pick [.t 10,.c (.bool true),.t 17]])
 (.cond (.t 18)
 (.seq (.ops [zV 6 9])
 .ret)
 .skip))
 (.seq (.seq (.ops [zM 19 0,
 zN 20 19,
 zF 21 20 0,
 zL 22 21,
 zM 23 1,
 zM 24 2,
 xO 25 154 22 23 24,
 zQ 26 .not 25])
 (.cond (.t 26)
 (.seq (.ops [zV 6 133])
 .ret)
 .skip))
 (.seq (.seq (.ops [zV 7 0])
 (.block 0 (.loop eX)))
 (.seq (.seq (.ops [zM 46 0,
 zM 47 1,
 eF 48 124 46 47,
 zQ 49 .bL 48,
 zP 50 (.bin .eql) [.t 49,zI 4]])
 (.cond (.t 50)
 (.seq (.ops [zV 6 130])
 .ret)
 .skip))
 (.seq (.ops [zM 51 0,
 zM 52 0,
 zN 53 52,
 zF 54 53 1,
 zL 55 54,
 zM 56 1,
 zM 57 2,
 zR 58 (.build [zz,zz] [(0,1),(1,1)]) 56 57,
 ⟨some 59,none,.a (.de [zz,zz] 1 2 [0]),[.t 58]⟩,
 zA 60 2 16 55 59,
 zN 61 51,
 zF 62 61 1,
 zS 1 [.t 62,.t 60]])
 (.seq (.ops [zV 6 0])
 .ret)))))))⟩
def Lc:an:=⟨56,[.tmp 4],
 (.seq (.ops [zV 4 0])
 (.seq (.seq (.ops [zM 5 1,
 zP 6 (.bin .lss) [.t 5,zI 1],
 zM 7 6,
 bV 8 1 7 false,
 cw 9 (.bin .gtr) [.t 8,zI 3] 7 false,
 zP 10 .pick [.t 7,.c (.bool true),.t 9]])
 (.cond (.t 10)
 (.seq (.ops [zV 4 2])
 .ret)
 .skip))
 (.seq (.seq (.ops [zM 11 0,
 zN 12 11,
 zF 13 12 11,
 zL 14 13,
 zP 15 (.bin .eql) [.t 14,zI 3],
 zM 16 15,
 bV 17 1 16 true,
 cw 18 (.bin .eql) [.t 17,zI 2] 16 true,
 zP 19 .pick [.t 16,.t 18,.c (.bool false)]])
 (.cond (.t 19)
 (.seq (.ops [zM 20 0,
 zM 21 1,
 zN 22 20,
 zF 23 22 11,
 zS 1 [.t 23,.t 21]])
 (.seq (.ops [zV 4 0])
 .ret))
 .skip))
 (.seq (.seq (.ops [zM 24 0,
 zN 25 24,
 zF 26 25 11,
 zL 27 26,
 zP 28 (.bin .neq) [.t 27,zI 0]])
 (.cond (.t 28)
 (.seq (.ops [zV 4 130])
 .ret)
 .skip))
 (.seq (.seq (.ops [zM 29 1,
 zP 30 (.bin .neq) [.t 29,zI 1]])
 (.cond (.t 30)
 (.seq (.seq (.cn [zM 31 0,
 zN 32 31,
 zF 33 32 13,
 zL 34 33,
 zM 35 0,
 zN 36 35,
 zF 37 36 0,
 zF 38 37 7,
 zL 39 38,
 zR 40 (.bin .geq) 34 39] [[],[],[],[],[],[],[],[],[],[]])
 (.cond (.t 40)
 (.seq (.ops [zV 4 170])
 .ret)
 .skip))
 (.ops [zM 41 0,
 zM 42 0,
 zN 43 42,
 zF 44 43 13,
 zL 45 44,
 zP 46 (.bin .add) [.t 45,zI 1],
 zN 47 41,
 zF 48 47 13,
 zS 1 [.t 48,.t 46]]))
 .skip))
 (.seq (.ops [zM 49 0,
 zM 50 1,
 zN 51 49,
 zF 52 51 11,
 zS 1 [.t 52,.t 50]])
 (.seq (.ops [zM 53 0,
 zN 54 53,
 zF 55 54 12,
 zS 1 [.t 55,zI 0]])
 (.seq (.ops [zV 4 0])
 .ret))))))))⟩
def eA:AC:=(.seq (.seq (.ops [zM 26 6,
 zP 27 (.bin .geq) [.t 26,zI 0]])
 (.cond (.t 27)
 .skip
 (.exit 0)))
 (.seq (.block 1 (.seq (.ops [zM 30 0,
 zN 31 30,
 zF 32 31 1,
 zL 33 32,
 zM 34 6,
 zR 35 (.az 2) 33 34,
 zF 36 35 0,
 zL 37 36,
 zM 38 1,
 zR 39 (.bin .eql) 37 38])
 (.cond (.t 39)
 (.seq (.ops [zM 40 0,
 zN 41 40,
 zF 42 41 1,
 zL 43 42,
 zM 44 6,
 zR 45 (.az 2) 43 44,
 zF 46 45 1,
 zL 47 46,
 zM 7 47])
 (.seq (.ops [zK 8 .aL])
 (.seq (.ops [zM 48 8,
 zM 49 0,
 zN 50 49,
 zF 51 50 1,
 zL 52 51,
 zM 53 6,
 zR 54 (.slice 2 false true false) 52 53,
 zA 55 2 16 48 54,
 zM 8 55])
 (.seq (.ops [zM 56 0,
 zM 57 8,
 zM 58 0,
 zN 59 58,
 zF 60 59 1,
 zL 61 60,
 zM 62 6,
 zP 63 (.bin .add) [.t 62,zI 1],
 zR 64 (.slice 2 true false false) 61 63,
 zA 65 2 16 57 64,
 zN 66 56,
 zF 67 66 1,
 zS 1 [.t 67,.t 65]])
 (.seq (.ops [zM 68 7,
 zM 4 68,
 zV 5 0])
 .ret)))))
 .skip)))
 (.ops [zM 28 6,
 zP 29 (.bin .sub) [.t 28,zI 1],
 zM 6 29])))
def Ld:an:=⟨69,[.tmp 4,.tmp 5],
 (.seq (.ops [zV 4 0,
 zV 5 0])
 (.seq (.seq (.ops [zM 9 1,
 zP 10 (.bin .lss) [.t 9,zI 0],
 zM 11 10,
 bV 12 1 11 false,
 bV 13 0 11 false,
 lA 14 13 11 false,
 fG 15 14 0 11 false,
 fA 16 15 11 false,
 cw 17 .bL [.t 16] 11 false,
 cw 18 (.bin .geq) [.t 12,.t 17] 11 false,
 zP 19 .pick [.t 11,.c (.bool true),.t 18]])
 (.cond (.t 19)
 (.seq (.ops [zV 4 0,
 zV 5 9])
 .ret)
 .skip))
 (.seq (.seq (.ops [zM 20 0,
 zN 21 20,
 zF 22 21 1,
 zL 23 22,
 zQ 24 .bL 23,
 zP 25 (.bin .sub) [.t 24,zI 1],
 zM 6 25])
 (.block 0 (.loop eA)))
 (.seq (.ops [zV 4 0,
 zV 5 132])
 .ret))))⟩
def eW:AC:=(.seq (.seq (.ops [zM 7 6,
 zM 8 0,
 zN 9 8,
 zF 10 9 1,
 zL 11 10,
 zQ 12 .bL 11,
 zR 13 (.bin .lss) 7 12])
 (.cond (.t 13)
 .skip
 (.exit 0)))
 (.seq (.block 1 (.seq (.ops [zM 16 0,
 zN 17 16,
 zF 18 17 1,
 zL 19 18,
 zM 20 6,
 zR 21 (.az 2) 19 20,
 zF 22 21 0,
 zL 23 22,
 zM 24 1,
 zR 25 (.bin .eql) 23 24])
 (.cond (.t 25)
 (.ops [zM 26 5,
 zM 27 0,
 zN 28 27,
 zF 29 28 1,
 zL 30 29,
 zM 31 6,
 zR 32 (.az 2) 30 31,
 zF 33 32 1,
 zL 34 33,
 ⟨some 35,none,.a (.de [zz] 1 1 [0]),[.t 34]⟩,
 zA 36 1 8 26 35,
 zM 5 36])
 .skip)))
 (.ops [zM 14 6,
 zP 15 (.bin .add) [.t 14,zI 1],
 zM 6 15])))
def Le:an:=⟨38,[.tmp 4],
 (.seq (.ops [zK 4 .aL])
 (.seq (.ops [zK 5 .aL])
 (.seq (.seq (.ops [zV 6 0])
 (.block 0 (.loop eW)))
 (.seq (.ops [zM 37 5,
 zM 4 37])
 .ret))))⟩
def Lf:an:=⟨14,[.tmp 2],
 (.seq (.ops [zV 2 0])
 (.seq (.seq (.ops [zM 3 0,
 zN 4 3,
 zF 5 4 11,
 zL 6 5,
 zP 7 (.bin .eql) [.t 6,zI 0]])
 (.cond (.t 7)
 (.seq (.ops [zV 2 132])
 .ret)
 .skip))
 (.seq (.ops [zM 8 0,
 zN 9 8,
 zF 10 9 11,
 zS 1 [.t 10,zI 0]])
 (.seq (.ops [zM 11 0,
 zN 12 11,
 zF 13 12 12,
 zS 1 [.t 13,zI 0]])
 (.seq (.ops [zV 2 0])
 .ret)))))⟩
def Lg:an:=⟨15,[.tmp 4],
 (.seq (.ops [zK 4 (.bool false)])
 (.seq (.seq (.ops [zM 5 0,
 zM 6 1,
 eF 7 128 5 6,
 zQ 8 .not 7])
 (.cond (.t 8)
 (.seq (.ops [zK 4 (.bool false)])
 .ret)
 .skip))
 (.seq (.ops [zM 9 0,
 zN 10 9,
 zF 11 10 0,
 zL 12 11,
 zM 13 1,
 zR 14 (.az 1) 12 13,
 zS 1 [.t 14,zI (-1)]])
 (.seq (.ops [zK 4 (.bool true)])
 .ret))))⟩
def eU:AC:=(.seq (.seq (.ops [zM 8 0,
 zM 9 1,
 eF 10 124 8 9,
 zQ 11 .bL 10,
 zP 12 (.bin .gtr) [.t 11,zI 0]])
 (.cond (.t 12)
 .skip
 (.exit 0)))
 (.block 1 (.seq (.ops [zM 14 0,
 zM 15 1,
 eF 16 123 14 15,
 zM 13 16,
 zQ 17 (.ext 0) 13,
 zQ 18 (.ext 1) 13,
 zM 6 17,
 zM 7 18])
 (.ops [zM 19 5,
 zM 20 6,
 ⟨some 21,none,.a (.de [zz] 1 1 [0]),[.t 20]⟩,
 zA 22 1 8 19 21,
 zM 5 22]))))
def Lh:an:=⟨24,[.tmp 4],
 (.seq (.ops [zK 4 .aL])
 (.seq (.ops [zK 5 .aL])
 (.seq (.block 0 (.loop eU))
 (.seq (.ops [zM 23 5,
 zM 4 23])
 .ret))))⟩
def Li:an:=⟨26,[.tmp 4],
 (.seq (.ops [zK 4 (.bool false)])
 (.seq (.ops [zM 5 1,
 zP 6 (.bin .geq) [.t 5,zI 0],
 zM 7 6,
 bV 8 1 7 true,
 bV 9 0 7 true,
 lA 10 9 7 true,
 fG 11 10 0 7 true,
 fA 12 11 7 true,
 cw 13 .bL [.t 12] 7 true,
 cw 14 (.bin .lss) [.t 8,.t 13] 7 true,
 zP 15 .pick [.t 7,.t 14,.c (.bool false)],
 zM 16 15,
 bV 17 0 16 true,
 lA 18 17 16 true,
 fG 19 18 0 16 true,
 fA 20 19 16 true,
 bV 21 1 16 true,
 cw 22 (.az 1) [.t 20,.t 21] 16 true,
 fA 23 22 16 true,
 cw 24 (.bin .geq) [.t 23,zI 0] 16 true,
 zP 25 .pick [.t 16,.t 24,.c (.bool false)],
 zM 4 25])
 .ret))⟩
def Lj:an:=⟨11,[.cell 2 3 true,.tmp 3],
 (.seq (.ops [⟨some 2,none,.a (.alloc [zz,zz,(.str [])]),[]⟩,
 zK 3 (.bool false)])
 (.seq (.ops [zM 4 0,
 zN 5 4,
 zF 6 5 8,
 zL 7 6,
 dS 8 159 7,
 zQ 9 (.ext 0) 8,
 zQ 10 (.ext 1) 8,
 zS 3 [.t 2,.t 9],
 zM 3 10])
 .ret))⟩
def Lk:an:=⟨85,[.tmp 4],
 (.seq (.ops [zV 4 0])
 (.seq (.ops [zM 8 0,
 zN 9 8,
 zF 10 9 8,
 zL 11 10,
 dS 12 159 11,
 zM 7 12,
 zQ 13 (.ext 0) 7,
 zQ 14 (.ext 1) 7,
 ⟨some 5,none,.a (.alloc [zz,zz,(.str [])]),[]⟩,
 zS 3 [.t 5,.t 13],
 zM 6 14])
 (.seq (.block 0 (.seq (.ops [zM 16 6,
 zQ 17 .not 16,
 zM 15 17])
 (.cond (.t 15)
 (.seq (.ops [zV 4 0])
 .ret)
 (.seq (.ops [zM 19 1,
 zM 20 0,
 zN 21 20,
 zF 22 21 9,
 zL 23 22,
 zR 24 (.bin .geq) 19 23,
 zM 18 24])
 (.cond (.t 18)
 (.seq (.ops [zV 4 3])
 .ret)
 (.seq (.cn [zM 26 0,
 zN 27 26,
 zF 28 27 10,
 zL 29 28,
 zM 30 0,
 zN 31 30,
 zF 32 31 0,
 zF 33 32 2,
 zL 34 33,
 zR 35 (.bin .geq) 29 34,
 zM 36 35,
 bV 37 0 36 true,
 lA 38 37 36 true,
 fG 39 38 8 36 true,
 fA 40 39 36 true,
 oE 41 160 [.t 40] 36 true,
 cw 42 (.bin .gtr) [.t 41,zI 0] 36 true,
 zP 43 .pick [.t 36,.t 42,.c (.bool false)],
 zM 25 43] [[],[],[],[],[],[],[],[],[],[],[],[],[],[],[],[],[],[],[]])
 (.cond (.t 25)
 (.seq (.ops [zV 4 1])
 .ret)
 (.seq (.cn [zM 45 0,
 zN 46 45,
 zF 47 46 11,
 zL 48 47,
 zP 49 (.bin .eql) [.t 48,zI 2],
 zM 50 49,
 bV 51 0 50 true,
 lA 52 51 50 true,
 fG 53 52 12 50 true,
 fA 54 53 50 true,
 bV 55 0 50 true,
 lA 56 55 50 true,
 fG 57 56 0 50 true,
 fG 58 57 6 50 true,
 fA 59 58 50 true,
 cw 60 (.bin .geq) [.t 54,.t 59] 50 true,
 zP 61 .pick [.t 50,.t 60,.c (.bool false)],
 zM 44 61] [[],[],[],[],[],[],[],[],[],[],[],[],[],[],[],[],[],[]])
 (.cond (.t 44)
 (.seq (.ops [zV 4 2])
 .ret)
 (.seq (.cn [zM 63 0,
 zN 64 63,
 zF 65 64 11,
 zL 66 65,
 zP 67 (.bin .eql) [.t 66,zI 1],
 zM 68 67,
 bV 69 0 68 true,
 lA 70 69 68 true,
 fG 71 70 12 68 true,
 fA 72 71 68 true,
 bV 73 0 68 true,
 lA 74 73 68 true,
 fG 75 74 0 68 true,
 fG 76 75 4 68 true,
 fA 77 76 68 true,
 cw 78 (.bin .geq) [.t 72,.t 77] 68 true,
 zP 79 .pick [.t 68,.t 78,.c (.bool false)],
 zM 80 79,
 fG 81 5 0 80 true,
 fA 82 81 80 true,
 cw 83 (.bin .eql) [.t 82,zI 1] 80 true,
 zP 84 .pick [.t 80,.t 83,.c (.bool false)],
 zM 62 84] [[],[],[],[],[],[],[],[],[],[],[],[],[],[],[],[],[],[],[],[],[],[],[]])
 (.cond (.t 62)
 (.seq (.ops [zV 4 2])
 .ret)
 .skip)))))))))))
 (.seq (.ops [zV 4 0])
 .ret))))⟩
def Ll:an:=⟨7,[.tmp 2],
 (.seq (.ops [zV 2 0])
 (.seq (.ops [zM 3 0,
 zN 4 3,
 zF 5 4 1,
 zL 6 5,
 zM 2 6])
 .ret))⟩
def Lm:an:=⟨19,[.tmp 2],
 (.seq (.ops [zV 2 0])
 (.seq (.block 0 (.seq (.ops [zM 4 0,
 dS 5 161 4,
 zM 3 5])
 (.cond (.t 3)
 (.seq (.ops [zV 2 1])
 .ret)
 (.seq (.ops [zM 7 0,
 zN 8 7,
 zF 9 8 0,
 zL 10 9,
 zQ 11 .bL 10,
 zP 12 (.bin .eql) [.t 11,zI 0],
 zM 13 12,
 bV 14 0 13 false,
 oE 15 162 [.t 14] 13 false,
 zP 16 .pick [.t 13,.c (.bool true),.t 15],
 zM 6 16])
 (.cond (.t 6)
 (.seq (.ops [zV 2 250])
 .ret)
 .skip)))))
 (.seq (.ops [zM 17 0,
 dS 18 163 17])
 (.seq (.ops [zV 2 0])
 .ret))))⟩
def Ln:an:=⟨30,[.tmp 2],
 (.seq (.ops [zV 2 0])
 (.seq (.block 0 (.seq (.ops [zM 4 0,
 dS 5 161 4,
 zM 3 5])
 (.cond (.t 3)
 (.seq (.ops [zV 2 1])
 .ret)
 (.seq (.ops [zM 7 0,
 dS 8 162 7,
 zQ 9 .not 8,
 zM 6 9])
 (.cond (.t 6)
 (.seq (.ops [zV 2 250])
 .ret)
 .skip)))))
 (.seq (.seq (.ops [zM 10 0,
 zN 11 10,
 zF 12 11 0,
 zL 13 12,
 zP 14 (.az 3) [.t 13,zI 0],
 zF 15 14 1,
 zL 16 15,
 zP 17 (.bin .sub) [.t 16,zI 1],
 zP 18 (.az 3) [.t 13,zI 0],
 zF 19 18 1,
 zS 1 [.t 19,.t 17]])
 (.seq (.ops [zM 20 0,
 zN 21 20,
 zF 22 21 0,
 zL 23 22,
 zP 24 (.az 3) [.t 23,zI 0],
 zF 25 24 1,
 zL 26 25,
 zP 27 (.bin .eql) [.t 26,zI 0]])
 (.cond (.t 27)
 (.ops [zM 28 0,
 dS 29 163 28])
 .skip)))
 (.seq (.ops [zV 2 0])
 .ret))))⟩
def GV:an:=⟨14,[.tmp 2,.tmp 3],
 (.seq (.ops [zV 2 0,
 zV 3 0])
 (.seq (.seq (.ops [zM 4 0,
 dS 5 108 4])
 (.cond (.t 5)
 (.seq (.ops [zV 2 0,
 zV 3 0])
 .ret)
 .skip))
 (.seq (.cn [zM 6 0,
 zN 7 6,
 zF 8 7 11,
 zL 9 8,
 zM 10 0,
 zN 11 10,
 zF 12 11 12,
 zL 13 12,
 zM 2 9,
 zM 3 13] [[],[],[],[],[],[],[],[],[],[]])
 .ret)))⟩
def Lo:an:=⟨27,[.tmp 4],
 (.seq (.ops [zV 4 0])
 (.seq (.block 0 (.seq (.ops [zM 6 0,
 zP 7 (.eq .cQ) [.t 6,.c .aQ],
 zM 8 7,
 bV 9 0 8 false,
 lA 10 9 8 false,
 fG 11 10 2 8 false,
 fA 12 11 8 false,
 cw 13 .not [.t 12] 8 false,
 zP 14 .pick [.t 8,.c (.bool true),.t 13],
 zM 5 14])
 (.cond (.t 5)
 (.seq (.ops [zV 4 1])
 .ret)
 (.seq (.ops [zM 16 1,
 zP 17 (.bin .lss) [.t 16,zI 0],
 zM 18 17,
 bV 19 1 18 false,
 bV 20 0 18 false,
 lA 21 20 18 false,
 fG 22 21 0 18 false,
 fA 23 22 18 false,
 cw 24 .bL [.t 23] 18 false,
 cw 25 (.bin .geq) [.t 19,.t 24] 18 false,
 zP 26 .pick [.t 18,.c (.bool true),.t 25],
 zM 15 26])
 (.cond (.t 15)
 (.seq (.ops [zV 4 9])
 .ret)
 .skip)))))
 (.seq (.ops [zV 4 0])
 .ret)))⟩
def Lp:an:=⟨8,[.tmp 3],
 (.seq (.ops [zB 2 0,
 zK 3 (.bool false)])
 (.seq (.ops [zF 4 2 1,
 zL 5 4,
 zL 6 1,
 zR 7 (.bin .eql) 5 6,
 zM 3 7])
 .ret))⟩
def Lq:an:=⟨32,[.tmp 6],
 (.seq (.ops [zK 6 (.bool false)])
 (.seq (.seq (.ops [zM 7 1,
 zP 8 (.bin .lss) [.t 7,zI 0],
 zM 9 8,
 bV 10 1 9 false,
 bV 11 0 9 false,
 cw 12 .bL [.t 11] 9 false,
 cw 13 (.bin .geq) [.t 10,.t 12] 9 false,
 zP 14 .pick [.t 9,.c (.bool true),.t 13],
 zM 15 14,
 bV 16 2 15 false,
 cw 17 (.bin .lss) [.t 16,zI 0] 15 false,
 zP 18 .pick [.t 15,.c (.bool true),.t 17],
 zM 19 18,
 bV 20 2 19 false,
 cw 21 (.bin .geq) [.t 20,zI 8] 19 false,
 zP 22 .pick [.t 19,.c (.bool true),.t 21]])
 (.cond (.t 22)
 (.seq (.ops [zK 6 (.bool false)])
 .ret)
 .skip))
 (.seq (.cn [zM 23 0,
 zM 24 1,
 zR 25 (.az 8) 23 24,
 zF 26 25 3,
 zL 27 26,
 zM 28 2,
 zP 29 (.bin .shl) [zI 1,.t 28],
 zR 30 (.bin .and) 27 29,
 zP 31 (.bin .neq) [.t 30,zI 0],
 zM 6 31] [[],[],[],[],[],[],[],[],[],[]])
 .ret)))⟩
def Lr:an:=⟨9,[.tmp 4],
 (.seq (.ops [zK 4 (.bool false)])
 (.seq (.ops [zM 5 0,
 zM 6 1,
 eF 7 164 5 6,
 zP 8 (.bin .geq) [.t 7,zI 0],
 zM 4 8])
 .ret))⟩
def bg:AC:=(.seq (.ops [zM 6 15])
 (.ops [⟨some 7,none,.a (.alloc [zz,zz]),[]⟩,
 zS 2 [.t 7,.t 16]]))
def bh:AC:=(.block 1 (.seq (.ops [zL 17 5,
 zO 18 2 7,
 ⟨some 19,none,.call,[.t 17,.t 18]⟩])
 (.cond (.t 19)
 (.seq (.ops [zM 20 6,
 zS 1 [.t 4,.t 20]])
 .ret)
 .skip)))
def Ls:an:=⟨21,[.cell 4 1 false],
 (.seq (.ops [⟨some 4,none,.a (.alloc [zz]),[]⟩])
 (.seq (.ops [zM 8 1,
 dS 9 109 8,
 ⟨some 5,none,.a (.alloc [.kf]),[]⟩,
 zS 1 [.t 5,.t 9]])
 (.seq (.seq (.ops [zM 10 0,
 zN 11 10,
 zF 12 11 1,
 zL 13 12,
 dS 14 165 13])
 (.block 0 (.rangeFunc (.t 14) [15,16] bg bh)))
 (.seq (.ops [zS 1 [.t 4,zI (-1)]])
 .ret))))⟩
def Lt:an:=⟨21,[.tmp 4],
 (.seq (.ops [zK 4 (.bool false)])
 (.seq (.ops [zM 8 0,
 zM 9 1,
 eF 10 166 8 9,
 zM 7 10,
 zQ 11 (.ext 0) 7,
 zQ 12 (.ext 1) 7,
 zM 5 11,
 zM 6 12])
 (.seq (.seq (.ops [zM 13 6])
 (.cond (.t 13)
 (.ops [zM 14 0,
 zN 15 14,
 zF 16 15 0,
 zL 17 16,
 zM 18 5,
 eF 19 167 17 18])
 .skip))
 (.seq (.ops [zM 20 6,
 zM 4 20])
 .ret))))⟩
def Lu:an:=⟨13,[.tmp 2,.tmp 3],
 (.seq (.ops [zK 2 .aQ,
 zV 3 0])
 (.seq (.seq (.ops [zM 4 0,
 zQ 5 .bL 4,
 zP 6 (.bin .gtr) [.t 5,zI 32]])
 (.cond (.t 6)
 (.seq (.ops [zK 2 .aQ,
 zV 3 5])
 .ret)
 .skip))
 (.seq (.seq (.ops [zM 7 0,
 ⟨some 8,none,.call,[.c (.func (.func 168) [] []),.t 7,.c (.func (.func 169) [] [])]⟩])
 (.cond (.t 8)
 (.seq (.ops [zK 2 .aQ,
 zV 3 2])
 .ret)
 .skip))
 (.seq (.ops [zM 9 0,
 dS 10 171 9,
 zP 11 (.build [.aL,(.bool false)] [(0,1),(1,1)]) [.t 10,.c (.bool true)],
 zB 12 11,
 zM 2 12,
 zV 3 0])
 .ret))))⟩
def Lv:an:=⟨21,[.tmp 4],
 (.seq (.ops [zV 4 0])
 (.seq (.block 0 (.seq (.ops [zM 6 0,
 dS 7 144 6,
 zM 5 7])
 (.cond (.t 5)
 (.seq (.ops [zV 4 1])
 .ret)
 (.seq (.ops [zM 9 1,
 zP 10 (.bin .lss) [.t 9,zI 0],
 zM 8 10])
 (.cond (.t 8)
 (.seq (.ops [zV 4 2])
 .ret)
 (.seq (.ops [zM 12 1,
 zP 13 (.bin .gtr) [.t 12,zI 1099511627776],
 zM 11 13])
 (.cond (.t 11)
 (.seq (.ops [zV 4 10])
 .ret)
 (.seq (.ops [zM 15 1,
 zM 16 0,
 zN 17 16,
 zF 18 17 1,
 zL 19 18,
 zR 20 (.bin .lss) 15 19,
 zM 14 20])
 (.cond (.t 14)
 (.seq (.ops [zV 4 140])
 .ret)
 .skip)))))))))
 (.seq (.ops [zV 4 0])
 .ret)))⟩
def Lw:an:=⟨55,[.tmp 6],
 (.seq (.ops [zV 6 0])
 (.seq (.seq (.ops [zM 10 0,
 zM 11 1,
 eF 12 172 10 11,
 zM 7 12])
 (.seq (.ops [zM 13 7,
 zP 14 (.bin .neq) [.t 13,zI 0]])
 (.cond (.t 14)
 (.seq (.ops [zM 15 7,
 zM 6 15])
 .ret)
 .skip)))
 (.seq (.seq (.ops [zM 17 0,
 zM 18 1,
 eF 19 166 17 18,
 zM 16 19,
 zQ 20 (.ext 0) 16,
 zQ 21 (.ext 1) 16,
 zM 8 20,
 zM 9 21])
 (.seq (.ops [zM 22 9])
 (.cond (.t 22)
 (.seq (.ops [zV 6 141])
 .ret)
 .skip)))
 (.seq (.cn [zM 23 0,
 zN 24 23,
 zF 25 24 0,
 zL 26 25,
 zM 27 0,
 zN 28 27,
 zF 29 28 0,
 zL 30 29,
 zN 31 30,
 zF 32 31 0,
 zL 33 32,
 zM 34 1,
 zM 35 2,
 zR 36 (.build [zz,zz] [(0,1),(1,1)]) 34 35,
 ⟨some 37,none,.a (.de [zz,zz] 1 2 [0]),[.t 36]⟩,
 zA 38 2 16 33 37,
 zN 39 26,
 zF 40 39 0,
 zS 1 [.t 40,.t 38]] [[],[],[],[0,16],[],[],[],[],[],[],[],[],[],[],[],[],[],[],[]])
 (.seq (.cn [zM 41 0,
 zN 42 41,
 zF 43 42 0,
 zL 44 43,
 zM 45 0,
 zN 46 45,
 zF 47 46 0,
 zL 48 47,
 zN 49 48,
 zF 50 49 0,
 zL 51 50,
 zQ 52 .bL 51,
 zP 53 (.bin .sub) [.t 52,zI 1],
 eF 54 173 44 53] [[],[],[],[],[],[],[],[],[],[],[],[],[],[]])
 (.seq (.ops [zV 6 0])
 .ret))))))⟩
def Lx:an:=⟨12,[.tmp 2],
 (.seq (.ops [zK 2 (.bool false)])
 (.seq (.ops [zM 3 0,
 zP 4 (.eq .cQ) [.t 3,.c .aQ],
 zM 5 4,
 bV 6 0 5 false,
 lA 7 6 5 false,
 fG 8 7 0 5 false,
 fA 9 8 5 false,
 cw 10 (.bin .eql) [.t 9,zI 0] 5 false,
 zP 11 .pick [.t 5,.c (.bool true),.t 10],
 zM 2 11])
 .ret))⟩
def mR:AC:=(.seq (.ops [zR 13 (.bin .lss) 12 11])
 (.seq (.cond (.t 13)
 .skip
 (.exit 0))
 (.seq (.block 1 (.seq (.ops [zR 14 (.az 3) 10 12,
 zO 15 3 14,
 ⟨some 4,none,.a (.alloc [zz,zz,(.str [])]),[]⟩,
 zS 3 [.t 4,.t 15]])
 (.seq (.ops [zF 16 4 0,
 zL 17 16,
 zP 18 (.bin .eql) [.t 17,zI 1]])
 (.cond (.t 18)
 (.ops [zM 19 2,
 zF 20 4 1,
 zL 21 20,
 zR 22 (.bin .add) 19 21,
 zM 2 22])
 .skip))))
 (.ops [zP 23 (.bin .add) [.t 12,zI 1],
 zM 12 23]))))
def Ly:an:=⟨25,[.tmp 2],
 (.seq (.ops [zV 2 0])
 (.seq (.seq (.ops [zM 5 0,
 dS 6 161 5])
 (.cond (.t 6)
 (.seq (.ops [zV 2 0])
 .ret)
 .skip))
 (.seq (.seq (.ops [zM 7 0,
 zN 8 7,
 zF 9 8 0,
 zL 10 9,
 zQ 11 .bL 10,
 zV 12 0])
 (.block 0 (.loop mR)))
 (.seq (.ops [zM 24 2,
 zM 2 24])
 .ret))))⟩
def Lz:an:=⟨38,[.tmp 4],
 (.seq (.ops [zB 3 1,
 zK 4 (.bool false)])
 (.seq (.seq (.ops [zM 5 0,
 zN 6 5,
 zF 7 6 11,
 zL 8 7])
 (.block 0 (.seq (.ops [zP 10 (.bin .eql) [.t 8,zI 2],
 zM 9 10])
 (.cond (.t 9)
 (.seq (.cn [zM 11 0,
 zN 12 11,
 zF 13 12 12,
 zL 14 13,
 zM 15 0,
 zN 16 15,
 zF 17 16 1,
 zF 18 17 6,
 zL 19 18,
 zR 20 (.bin .geq) 14 19,
 zM 4 20] [[],[],[],[],[],[],[],[],[],[],[]])
 .ret)
 (.seq (.ops [zP 22 (.bin .eql) [.t 8,zI 1],
 zM 21 22])
 (.cond (.t 21)
 (.seq (.cn [zM 23 0,
 zN 24 23,
 zF 25 24 12,
 zL 26 25,
 zM 27 0,
 zN 28 27,
 zF 29 28 1,
 zF 30 29 4,
 zL 31 30,
 zR 32 (.bin .geq) 26 31,
 zM 33 32,
 fG 34 3 0 33 true,
 fA 35 34 33 true,
 cw 36 (.bin .eql) [.t 35,zI 1] 33 true,
 zP 37 .pick [.t 33,.t 36,.c (.bool false)],
 zM 4 37] [[],[],[],[],[],[],[],[],[],[],[],[],[],[],[],[]])
 .ret)
 .skip))))))
 (.seq (.ops [zK 4 (.bool false)])
 .ret)))⟩
def me:AC:=(.seq (.ops [zR 21 (.bin .lss) 20 19])
 (.seq (.cond (.t 21)
 .skip
 (.exit 0))
 (.seq (.block 1 (.seq (.ops [zR 22 (.az 2) 18 20,
 zO 23 2 22,
 ⟨some 5,none,.a (.alloc [zz,zz]),[]⟩,
 zS 2 [.t 5,.t 23]])
 (.ops [zM 24 2,
 zF 25 5 0,
 zL 26 25,
 ⟨some 27,none,.a (.de [zz] 1 1 [0]),[.t 26]⟩,
 zA 28 1 8 24 27,
 zM 2 28])))
 (.ops [zP 29 (.bin .add) [.t 20,zI 1],
 zM 20 29]))))
def LA:an:=⟨31,[.tmp 2],
 (.seq (.ops [zK 2 .aL])
 (.seq (.seq (.ops [zM 6 0,
 dS 7 151 6])
 (.cond (.t 7)
 (.seq (.ops [zK 2 .aL])
 .ret)
 .skip))
 (.seq (.ops [zM 8 0,
 zN 9 8,
 zF 10 9 0,
 zL 11 10,
 zN 12 11,
 zF 13 12 0,
 zL 14 13,
 dS 15 174 14,
 zM 3 15])
 (.seq (.ops [zM 16 3,
 ⟨some 17,none,.call,[.c (.func (.func 175) [] []),.t 16,.c (.func (.func 176) [] [])]⟩])
 (.seq (.seq (.ops [zM 18 3,
 zQ 19 .bL 18,
 zV 20 0])
 (.block 0 (.loop me)))
 (.seq (.ops [zM 30 2,
 zM 2 30])
 .ret))))))⟩
def LB:an:=⟨21,[.cell 2 3 true,.tmp 3],
 (.seq (.ops [⟨some 2,none,.a (.alloc [zz,zz,(.str [])]),[]⟩,
 zK 3 (.bool false)])
 (.seq (.seq (.ops [zM 4 0,
 dS 5 161 4,
 zM 6 5,
 bV 7 0 6 false,
 lA 8 7 6 false,
 fG 9 8 0 6 false,
 fA 10 9 6 false,
 cw 11 .bL [.t 10] 6 false,
 cw 12 (.bin .eql) [.t 11,zI 0] 6 false,
 zP 13 .pick [.t 6,.c (.bool true),.t 12]])
 (.cond (.t 13)
 (.seq (.ops [zP 14 (.build [zz,zz,(.str [])] []) [],
 zS 3 [.t 2,.t 14],
 zK 3 (.bool false)])
 .ret)
 .skip))
 (.seq (.ops [zM 15 0,
 zN 16 15,
 zF 17 16 0,
 zL 18 17,
 zP 19 (.az 3) [.t 18,zI 0],
 zO 20 3 19,
 zS 3 [.t 2,.t 20],
 zK 3 (.bool true)])
 .ret)))⟩
def gE:AC:=(.seq (.ops [zR 9 (.bin .lss) 8 7])
 (.seq (.cond (.t 9)
 .skip
 (.exit 0))
 (.seq (.block 1 (.seq (.ops [zM 10 8,
 zM 5 10])
 (.seq (.ops [zM 11 1,
 zM 12 0,
 zM 13 5,
 zR 14 (.az 8) 12 13,
 zO 15 8 14,
 ⟨some 16,none,.call,[.t 11,.t 15]⟩])
 (.cond (.t 16)
 (.seq (.ops [zM 17 5,
 zM 4 17])
 .ret)
 .skip))))
 (.ops [zP 18 (.bin .add) [.t 8,zI 1],
 zM 8 18]))))
def GW:an:=⟨19,[.tmp 4],
 (.seq (.ops [zV 4 0])
 (.seq (.seq (.ops [zM 6 0,
 zQ 7 .bL 6,
 zV 8 0])
 (.block 0 (.loop gE)))
 (.seq (.ops [zV 4 (-1)])
 .ret)))⟩
def LC:an:=⟨8,[.tmp 3],
 (.seq (.ops [zB 2 0,
 zK 3 (.bool false)])
 (.seq (.ops [zF 4 2 0,
 zL 5 4,
 zL 6 1,
 zR 7 (.bin .eql) 5 6,
 zM 3 7])
 .ret))⟩
def LD:an:=⟨12,[.tmp 2],
 (.seq (.ops [zK 2 (.bool false)])
 (.seq (.ops [zM 3 0,
 zP 4 (.eq .cQ) [.t 3,.c .aQ],
 zM 5 4,
 bV 6 0 5 false,
 lA 7 6 5 false,
 fG 8 7 0 5 false,
 fA 9 8 5 false,
 cw 10 (.eq .cQ) [.t 9,.c .aQ] 5 false,
 zP 11 .pick [.t 5,.c (.bool true),.t 10],
 zM 2 11])
 .ret))⟩
def lC:AC:=(.seq (.ops [zR 10 (.bin .lss) 9 8])
 (.seq (.cond (.t 10)
 .skip
 (.exit 0))
 (.seq (.block 1 (.seq (.ops [zM 11 9,
 zR 12 (.az 8) 7 9,
 zO 13 8 12,
 ⟨some 6,none,.a (.alloc [zz,zz,zz,zz,zz,zz,zz,zz]),[]⟩,
 zM 5 11,
 zS 8 [.t 6,.t 13]])
 (.ops [zM 14 4,
 zM 15 1,
 zM 16 5,
 zO 17 8 6,
 ⟨some 18,none,.call,[.t 15,.t 16,.t 17]⟩,
 zR 19 .mx 14 18,
 zM 4 19])))
 (.ops [zP 20 (.bin .add) [.t 9,zI 1],
 zM 9 20]))))
def LF:an:=⟨22,[.tmp 4],
 (.seq (.ops [zV 4 0])
 (.seq (.seq (.ops [zM 7 0,
 zQ 8 .bL 7,
 zV 9 0])
 (.block 0 (.loop lC)))
 (.seq (.ops [zM 21 4,
 zM 4 21])
 .ret)))⟩
def LG:an:=⟨15,[.tmp 6],
 (.seq (.ops [zB 5 1,
 zV 6 0])
 (.seq (.seq (.ops [zL 7 2,
 zM 8 0,
 zL 9 3,
 xO 10 137 7 8 9,
 zQ 11 .not 10])
 (.cond (.t 11)
 (.seq (.ops [zV 6 0])
 .ret)
 .skip))
 (.seq (.ops [zL 12 2,
 zM 13 0,
 eF 14 52 12 13,
 zM 6 14])
 .ret)))⟩
def LH:an:=⟨32,[.tmp 6],
 (.seq (.ops [zK 6 (.bool false)])
 (.seq (.seq (.ops [zM 7 1,
 zP 8 (.bin .lss) [.t 7,zI 0],
 zM 9 8,
 bV 10 1 9 false,
 bV 11 0 9 false,
 cw 12 .bL [.t 11] 9 false,
 cw 13 (.bin .geq) [.t 10,.t 12] 9 false,
 zP 14 .pick [.t 9,.c (.bool true),.t 13],
 zM 15 14,
 bV 16 2 15 false,
 cw 17 (.bin .lss) [.t 16,zI 0] 15 false,
 zP 18 .pick [.t 15,.c (.bool true),.t 17],
 zM 19 18,
 bV 20 2 19 false,
 cw 21 (.bin .geq) [.t 20,zI 8] 19 false,
 zP 22 .pick [.t 19,.c (.bool true),.t 21]])
 (.cond (.t 22)
 (.seq (.ops [zK 6 (.bool false)])
 .ret)
 .skip))
 (.seq (.ops [zM 23 0,
 zM 24 1,
 zR 25 (.az 8) 23 24,
 zF 26 25 3,
 zL 27 26,
 zM 28 2,
 zR 29 (.bin .shr) 27 28,
 zP 30 (.bin .and) [.t 29,zI 1],
 zP 31 (.bin .eql) [.t 30,zI 1],
 zM 6 31])
 .ret)))⟩
def iY:AC:=(.seq (.seq (.ops [zM 9 4,
 zM 10 0,
 zQ 11 .bL 10,
 zR 12 (.bin .lss) 9 11])
 (.cond (.t 12)
 .skip
 (.exit 0)))
 (.seq (.block 1 (.seq (.ops [zM 15 0,
 zM 16 4,
 zR 17 (.az 3) 15 16,
 zO 18 3 17,
 dS 19 179 18,
 zP 20 (.bin .neq) [.t 19,zI 0]])
 (.cond (.t 20)
 (.seq (.ops [zK 2 .aQ,
 zV 3 2])
 .ret)
 .skip)))
 (.ops [zM 13 4,
 zP 14 (.bin .add) [.t 13,zI 1],
 zM 4 14])))
def LI:an:=⟨33,[.tmp 2,.tmp 3],
 (.seq (.ops [zK 2 .aQ,
 zV 3 0])
 (.seq (.seq (.ops [zM 6 0,
 zQ 7 .bL 6,
 zP 8 (.bin .gtr) [.t 7,zI 32]])
 (.cond (.t 8)
 (.seq (.ops [zK 2 .aQ,
 zV 3 5])
 .ret)
 .skip))
 (.seq (.seq (.ops [zV 4 0])
 (.block 0 (.loop iY)))
 (.seq (.ops [zP 21 (.build [.aL] []) [],
 zB 22 21,
 zM 5 22])
 (.seq (.ops [zM 23 5,
 zM 24 5,
 zN 25 24,
 zF 26 25 0,
 zL 27 26,
 zM 28 0,
 zA 29 3 32 27 28,
 zN 30 23,
 zF 31 30 0,
 zS 1 [.t 31,.t 29]])
 (.seq (.ops [zM 32 5,
 zM 2 32,
 zV 3 0])
 .ret))))))⟩
def LJ:an:=⟨18,[.tmp 4],
 (.seq (.ops [zV 4 0])
 (.seq (.block 0 (.seq (.ops [zM 6 1,
 zP 7 (.bin .lss) [.t 6,zI 0],
 zM 5 7])
 (.cond (.t 5)
 (.seq (.ops [zV 4 2])
 .ret)
 (.seq (.ops [zM 9 1,
 zP 10 (.bin .gtr) [.t 9,zI 1099511627776],
 zM 8 10])
 (.cond (.t 8)
 (.seq (.ops [zV 4 10])
 .ret)
 (.seq (.ops [zM 12 1,
 zM 13 0,
 zN 14 13,
 zF 15 14 1,
 zL 16 15,
 zR 17 (.bin .lss) 12 16,
 zM 11 17])
 (.cond (.t 11)
 (.seq (.ops [zV 4 140])
 .ret)
 .skip)))))))
 (.seq (.ops [zV 4 0])
 .ret)))⟩
def LK:an:=⟨27,[.tmp 2],
 (.seq (.ops [zV 2 0])
 (.seq (.seq (.ops [zM 3 0,
 zN 4 3,
 zF 5 4 0,
 zL 6 5,
 zQ 7 .bL 6,
 zP 8 (.bin .eql) [.t 7,zI 0],
 zM 9 8,
 bV 10 0 9 false,
 lA 11 10 9 false,
 fG 12 11 0 9 false,
 fA 13 12 9 false,
 cw 14 (.az 3) [.t 13,zI 0] 9 false,
 fG 15 14 0 9 false,
 fA 16 15 9 false,
 cw 17 (.bin .eql) [.t 16,zI 1] 9 false,
 zP 18 .pick [.t 9,.c (.bool true),.t 17]])
 (.cond (.t 18)
 (.seq (.ops [zV 2 250])
 .ret)
 .skip))
 (.seq (.ops [zM 19 0,
 zM 20 0,
 zN 21 20,
 zF 22 21 0,
 zL 23 22,
 zP 24 (.slice 3 true false false) [.t 23,zI 1],
 zN 25 19,
 zF 26 25 0,
 zS 1 [.t 26,.t 24]])
 (.seq (.ops [zV 2 0])
 .ret))))⟩
def LL:an:=⟨47,[.tmp 2],
 (.seq (.ops [zV 2 0])
 (.seq (.seq (.ops [zM 4 0,
 zN 5 4,
 zF 6 5 0,
 zL 7 6,
 zQ 8 .bL 7,
 zP 9 (.bin .eql) [.t 8,zI 0],
 zM 10 9,
 bV 11 0 10 false,
 lA 12 11 10 false,
 fG 13 12 0 10 false,
 fA 14 13 10 false,
 cw 15 (.az 3) [.t 14,zI 0] 10 false,
 fG 16 15 0 10 false,
 fA 17 16 10 false,
 cw 18 (.bin .neq) [.t 17,zI 1] 10 false,
 zP 19 .pick [.t 10,.c (.bool true),.t 18]])
 (.cond (.t 19)
 (.seq (.ops [zV 2 250])
 .ret)
 .skip))
 (.seq (.ops [zM 20 0,
 zN 21 20,
 zF 22 21 0,
 zL 23 22,
 zP 24 (.az 3) [.t 23,zI 0],
 zO 25 3 24,
 ⟨some 3,none,.a (.alloc [zz,zz,(.str [])]),[]⟩,
 zS 3 [.t 3,.t 25]])
 (.seq (.ops [zF 26 3 1,
 zL 27 26,
 zP 28 (.bin .sub) [.t 27,zI 1],
 zF 29 3 1,
 zS 1 [.t 29,.t 28]])
 (.seq (.cn [zM 30 0,
 zN 31 30,
 zF 32 31 0,
 zL 33 32,
 zO 34 3 3,
 zP 35 (.az 3) [.t 33,zI 0],
 zS 3 [.t 35,.t 34]] [[],[],[],[],[],[],[]])
 (.seq (.seq (.ops [zF 36 3 1,
 zL 37 36,
 zP 38 (.bin .eql) [.t 37,zI 0]])
 (.cond (.t 38)
 (.ops [zM 39 0,
 zM 40 0,
 zN 41 40,
 zF 42 41 0,
 zL 43 42,
 zP 44 (.slice 3 true false false) [.t 43,zI 1],
 zN 45 39,
 zF 46 45 0,
 zS 1 [.t 46,.t 44]])
 .skip))
 (.seq (.ops [zV 2 0])
 .ret)))))))⟩
def LM:an:=⟨17,[.cell 2 3 true,.tmp 3],
 (.seq (.ops [⟨some 2,none,.a (.alloc [zz,zz,(.str [])]),[]⟩,
 zK 3 (.bool false)])
 (.seq (.seq (.ops [zM 4 0,
 zN 5 4,
 zF 6 5 0,
 zL 7 6,
 zQ 8 .bL 7,
 zP 9 (.bin .eql) [.t 8,zI 0]])
 (.cond (.t 9)
 (.seq (.ops [zP 10 (.build [zz,zz,(.str [])] []) [],
 zS 3 [.t 2,.t 10],
 zK 3 (.bool false)])
 .ret)
 .skip))
 (.seq (.ops [zM 11 0,
 zN 12 11,
 zF 13 12 0,
 zL 14 13,
 zP 15 (.az 3) [.t 14,zI 0],
 zO 16 3 15,
 zS 3 [.t 2,.t 16],
 zK 3 (.bool true)])
 .ret)))⟩
def fR:AC:=(.seq (.seq (.ops [zM 5 4,
 zM 6 0,
 zN 7 6,
 zF 8 7 0,
 zL 9 8,
 zQ 10 .bL 9,
 zR 11 (.bin .lss) 5 10])
 (.cond (.t 11)
 .skip
 (.exit 0)))
 (.seq (.block 1 (.seq (.ops [zM 14 0,
 zN 15 14,
 zF 16 15 0,
 zL 17 16,
 zM 18 4,
 zR 19 (.az 3) 17 18,
 zF 20 19 0,
 zL 21 20,
 zP 22 (.bin .eql) [.t 21,zI 1]])
 (.cond (.t 22)
 (.ops [zM 23 3,
 zM 24 0,
 zN 25 24,
 zF 26 25 0,
 zL 27 26,
 zM 28 4,
 zR 29 (.az 3) 27 28,
 zF 30 29 1,
 zL 31 30,
 zR 32 (.bin .add) 23 31,
 zM 3 32])
 .skip)))
 (.ops [zM 12 4,
 zP 13 (.bin .add) [.t 12,zI 1],
 zM 4 13])))
def LN:an:=⟨34,[.tmp 2],
 (.seq (.ops [zV 2 0])
 (.seq (.ops [zV 3 0])
 (.seq (.seq (.ops [zV 4 0])
 (.block 0 (.loop fR)))
 (.seq (.ops [zM 33 3,
 zM 2 33])
 .ret))))⟩
def LO:an:=⟨12,[.tmp 2],
 (.seq (.ops [zK 2 (.bool false)])
 (.seq (.ops [zM 3 0,
 zP 4 (.eq .cQ) [.t 3,.c .aQ],
 zM 5 4,
 bV 6 0 5 false,
 lA 7 6 5 false,
 fG 8 7 1 5 false,
 fA 9 8 5 false,
 cw 10 .not [.t 9] 5 false,
 zP 11 .pick [.t 5,.c (.bool true),.t 10],
 zM 2 11])
 .ret))⟩
def LP:an:=⟨19,[.tmp 2],
 (.seq (.ops [zK 2 (.bool false)])
 (.seq (.ops [zM 3 0,
 zN 4 3,
 zF 5 4 0,
 zL 6 5,
 zQ 7 .bL 6,
 zP 8 (.bin .gtr) [.t 7,zI 0],
 zM 9 8,
 bV 10 0 9 true,
 lA 11 10 9 true,
 fG 12 11 0 9 true,
 fA 13 12 9 true,
 cw 14 (.az 3) [.t 13,zI 0] 9 true,
 fG 15 14 0 9 true,
 fA 16 15 9 true,
 cw 17 (.bin .eql) [.t 16,zI 1] 9 true,
 zP 18 .pick [.t 9,.t 17,.c (.bool false)],
 zM 2 18])
 .ret))⟩
def LQ:an:=⟨20,[],
 (.cn [zM 2 0,
 zM 3 0,
 zN 4 3,
 zF 5 4 0,
 zL 6 5,
 zM 7 0,
 zN 8 7,
 zF 9 8 0,
 zL 10 9,
 zQ 11 .bL 10,
 zM 12 0,
 zN 13 12,
 zF 14 13 0,
 zL 15 14,
 zQ 16 .bL 15,
 zP 17 (.slice 3 true true true) [.t 6,zI 1,.t 11,.t 16],
 zN 18 2,
 zF 19 18 0,
 zS 1 [.t 19,.t 17]] [[],[],[],[],[],[],[],[],[],[],[],[],[],[],[],[],[],[],[]])⟩
def fc:AC:=(.seq (.ops [zR 9 (.bin .lss) 8 7])
 (.seq (.cond (.t 9)
 .skip
 (.exit 0))
 (.seq (.block 1 (.seq (.ops [zM 10 8,
 zM 5 10])
 (.seq (.ops [zM 11 1,
 zM 12 0,
 zM 13 5,
 zR 14 (.az 2) 12 13,
 zO 15 2 14,
 ⟨some 16,none,.call,[.t 11,.t 15]⟩])
 (.cond (.t 16)
 (.seq (.ops [zM 17 5,
 zM 4 17])
 .ret)
 .skip))))
 (.ops [zP 18 (.bin .add) [.t 8,zI 1],
 zM 8 18]))))
def GX:an:=⟨19,[.tmp 4],
 (.seq (.ops [zV 4 0])
 (.seq (.seq (.ops [zM 6 0,
 zQ 7 .bL 6,
 zV 8 0])
 (.block 0 (.loop fc)))
 (.seq (.ops [zV 4 (-1)])
 .ret)))⟩
def LR:an:=⟨4,[.tmp 2],
 (.seq (.ops [zB 1 0,
 zK 2 .kf])
 (.seq (.ops [zQ 3 (.jP (.func 180) 0) 1,
 zM 2 3])
 .ret))⟩
def LS:an:=⟨30,[.tmp 4,.tmp 5],
 (.seq (.ops [zV 4 0,
 zK 5 (.bool false)])
 (.seq (.seq (.ops [zM 6 0,
 zM 7 1,
 eF 8 172 6 7,
 zP 9 (.bin .neq) [.t 8,zI 0]])
 (.cond (.t 9)
 (.seq (.ops [zV 4 0,
 zK 5 (.bool false)])
 .ret)
 .skip))
 (.seq (.cn [zM 10 0,
 zN 11 10,
 zF 12 11 0,
 zL 13 12,
 zM 14 1,
 zN 15 13,
 zF 16 15 1,
 zR 17 (.kC 1 64) 16 14,
 zL 18 17,
 zP 19 (.bin .sub) [.t 18,zI 1],
 zM 20 0,
 zN 21 20,
 zF 22 21 0,
 zL 23 22,
 zM 24 1,
 zN 25 23,
 zF 26 25 1,
 zR 27 (.kC 1 64) 26 24,
 zL 28 27,
 zP 29 (.bin .gtr) [.t 28,zI 0],
 zM 4 19,
 zM 5 29] [[],[],[],[],[],[],[],[],[],[],[],[],[],[],[],[],[],[],[],[],[],[]])
 .ret)))⟩
def LU:an:=⟨60,[],
 (.seq (.ops [zM 6 0,
 zN 7 6,
 zF 8 7 0,
 zL 9 8,
 zQ 10 .bL 9,
 zP 11 (.bin .sub) [.t 10,zI 1],
 zM 4 11])
 (.seq (.ops [zM 12 0,
 zN 13 12,
 zF 14 13 0,
 zL 15 14,
 zM 16 4,
 zR 17 (.az 2) 15 16,
 zO 18 2 17,
 ⟨some 5,none,.a (.alloc [zz,zz]),[]⟩,
 zS 2 [.t 5,.t 18]])
 (.seq (.cn [zM 19 0,
 zM 20 0,
 zN 21 20,
 zF 22 21 0,
 zL 23 22,
 zM 24 1,
 zR 25 (.az 2) 23 24,
 zF 26 25 0,
 zL 27 26,
 zN 28 19,
 zF 29 28 1,
 zR 30 (.kC 1 64) 29 27,
 zS 1 [.t 30,zI 0]] [[],[],[],[],[],[],[],[],[],[],[],[],[]])
 (.seq (.ops [zM 31 0,
 zM 32 0,
 zN 33 32,
 zF 34 33 0,
 zL 35 34,
 zM 36 4,
 zR 37 (.slice 2 false true false) 35 36,
 zN 38 31,
 zF 39 38 0,
 zS 1 [.t 39,.t 37]])
 (.seq (.seq (.ops [zM 40 1,
 zM 41 4,
 zR 42 (.bin .eql) 40 41])
 (.cond (.t 42)
 .ret
 .skip))
 (.seq (.ops [zM 43 0,
 zM 44 1,
 zO 45 2 5,
 xO 46 181 43 44 45])
 (.seq (.ops [zM 47 0,
 zM 48 1,
 eF 49 173 47 48])
 (.cn [zM 50 0,
 zM 51 0,
 zF 52 5 0,
 zL 53 52,
 zN 54 51,
 zF 55 54 1,
 zR 56 (.kC 1 64) 55 53,
 zL 57 56,
 zP 58 (.bin .sub) [.t 57,zI 1],
 eF 59 182 50 58] [[],[],[],[],[],[],[],[],[],[]]))))))))⟩
def LV:an:=⟨9,[.tmp 4],
 (.seq (.ops [zK 4 (.bool false)])
 (.seq (.ops [zM 5 0,
 zM 6 1,
 eF 7 183 5 6,
 zP 8 (.bin .geq) [.t 7,zI 0],
 zM 4 8])
 .ret))⟩
def LW:an:=⟨6,[.tmp 2],
 (.seq (.ops [zB 1 0,
 zK 2 (.bool false)])
 (.seq (.ops [zO 3 3 1,
 dS 4 170 3,
 zP 5 (.bin .neq) [.t 4,zI 0],
 zM 2 5])
 .ret))⟩
def LX:an:=⟨39,[.tmp 2],
 (.seq (.ops [zB 1 0,
 zV 2 0])
 (.seq (.cn [ZQ 7 184,
 zF 8 1 0,
 zL 9 8,
 ⟨some 10,none,.r (.lookup true (.agg [zz,zz])),[.t 7,.t 9]⟩,
 zM 6 10,
 zQ 11 (.ext 0) 6,
 zQ 12 (.ext 1) 6,
 ⟨some 3,none,.a (.alloc [zz,zz]),[]⟩,
 zS 2 [.t 3,.t 11],
 zM 4 12] [[],[],[0,1],[],[],[],[],[],[],[]])
 (.seq (.ops [zV 5 0])
 (.seq (.seq (.ops [zF 13 1 0,
 zL 14 13,
 zP 15 (.bin .eql) [.t 14,zI 6]])
 (.cond (.t 15)
 (.ops [zV 5 16])
 .skip))
 (.seq (.seq (.ops [zM 16 4,
 zQ 17 .not 16,
 zM 18 17,
 fG 19 1 1 18 false,
 fA 20 19 18 false,
 fG 21 3 0 18 false,
 fA 22 21 18 false,
 cw 23 (.bin .lss) [.t 20,.t 22] 18 false,
 zP 24 .pick [.t 18,.c (.bool true),.t 23],
 zM 25 24,
 fG 26 1 1 25 false,
 fA 27 26 25 false,
 fG 28 3 1 25 false,
 fA 29 28 25 false,
 cw 30 (.bin .gtr) [.t 27,.t 29] 25 false,
 zP 31 .pick [.t 25,.c (.bool true),.t 30],
 zM 32 31,
 fG 33 1 2 32 false,
 fA 34 33 32 false,
 cw 35 .tL [.t 34] 32 false,
 bV 36 5 32 false,
 cw 37 (.bin .gtr) [.t 35,.t 36] 32 false,
 zP 38 .pick [.t 32,.c (.bool true),.t 37]])
 (.cond (.t 38)
 (.seq (.ops [zV 2 2])
 .ret)
 .skip))
 (.seq (.ops [zV 2 0])
 .ret))))))⟩
def LY:an:=⟨8,[.tmp 2],
 (.seq (.ops [zK 2 .aL])
 (.seq (.seq (.ops [zM 3 0,
 zP 4 (.eq .lR) [.t 3,.c .aL]])
 (.cond (.t 4)
 (.seq (.ops [zK 2 .aL])
 .ret)
 .skip))
 (.seq (.ops [⟨some 5,none,.a (.de [zz,zz,(.str [])] 0 3 []),[]⟩,
 zM 6 0,
 zA 7 3 32 5 6,
 zM 2 7])
 .ret)))⟩
def LZ:an:=⟨15,[.tmp 4],
 (.seq (.ops [zV 4 0])
 (.seq (.block 0 (.seq (.ops [zM 6 0,
 dS 7 151 6,
 zM 5 7])
 (.cond (.t 5)
 (.seq (.ops [zV 4 1])
 .ret)
 (.seq (.ops [zM 9 1,
 zP 10 (.bin .lss) [.t 9,zI 0],
 zM 11 10,
 bV 12 1 11 false,
 cw 13 (.bin .geq) [.t 12,zI 64] 11 false,
 zP 14 .pick [.t 11,.c (.bool true),.t 13],
 zM 8 14])
 (.cond (.t 8)
 (.seq (.ops [zV 4 9])
 .ret)
 .skip)))))
 (.seq (.ops [zV 4 0])
 .ret)))⟩
def lD:AC:=(.seq (.seq (.cn [zM 12 1,
 zP 13 (.bin .gtr) [.t 12,zI 0],
 zM 14 13,
 ⟨some 15,some (14,true),.r (.aZ 2),[.t 4]⟩,
 bV 16 0 14 true,
 lA 17 16 14 true,
 fG 18 17 0 14 true,
 fA 19 18 14 true,
 bV 20 1 14 true,
 cw 21 (.bin .sub) [.t 20,zI 1] 14 true,
 cw 22 (.bin .quo) [.t 21,zI 2] 14 true,
 cw 23 (.az 2) [.t 19,.t 22] 14 true,
 ⟨some 24,some (14,true),.r (.aZ 2),[.t 23]⟩,
 oE 25 185 [.t 15,.t 24] 14 true,
 zP 26 .pick [.t 14,.t 25,.c (.bool false)]] [[],[],[],[],[],[],[],[],[],[],[],[],[],[],[]])
 (.cond (.t 26)
 .skip
 (.exit 0)))
 (.block 1 (.seq (.ops [zM 27 0,
 zM 28 1,
 zM 29 0,
 zN 30 29,
 zF 31 30 0,
 zL 32 31,
 zM 33 1,
 zP 34 (.bin .sub) [.t 33,zI 1],
 zP 35 (.bin .quo) [.t 34,zI 2],
 zR 36 (.az 2) 32 35,
 zO 37 2 36,
 xO 38 181 27 28 37])
 (.ops [zM 39 1,
 zP 40 (.bin .sub) [.t 39,zI 1],
 zP 41 (.bin .quo) [.t 40,zI 2],
 zM 1 41]))))
def L3:an:=⟨46,[],
 (.seq (.ops [zM 5 0,
 zN 6 5,
 zF 7 6 0,
 zL 8 7,
 zM 9 1,
 zR 10 (.az 2) 8 9,
 zO 11 2 10,
 ⟨some 4,none,.a (.alloc [zz,zz]),[]⟩,
 zS 2 [.t 4,.t 11]])
 (.seq (.block 0 (.loop lD))
 (.ops [zM 42 0,
 zM 43 1,
 zO 44 2 4,
 xO 45 181 42 43 44])))⟩
def GY:an:=⟨8,[.tmp 2],
 (.seq (.ops [zK 2 .aL])
 (.seq (.seq (.ops [zM 3 0,
 zP 4 (.eq .lR) [.t 3,.c .aL]])
 (.cond (.t 4)
 (.seq (.ops [zK 2 .aL])
 .ret)
 .skip))
 (.seq (.ops [⟨some 5,none,.a (.de [zz,zz] 0 2 []),[]⟩,
 zM 6 0,
 zA 7 2 16 5 6,
 zM 2 7])
 .ret)))⟩
def GZ:an:=⟨14,[],
 (.seq (.ops [zM 5 0,
 zQ 6 .bL 5,
 zM 4 6])
 (.ops [zM 7 0,
 zM 8 4,
 zM 9 4,
 zQ 10 (.conv .u64) 9,
 dS 11 187 10,
 zM 12 1,
 ⟨some 13,none,.call,[.c (.func (.func 186) [] []),.t 7,zI 0,.t 8,.t 11,.t 12]⟩]))⟩
def L8:an:=⟨17,[.tmp 4],
 (.seq (.ops [zB 2 0,
 zB 3 1,
 zV 4 0])
 (.seq (.cn [zF 5 2 1,
 zL 6 5,
 zF 7 3 1,
 zL 8 7,
 eF 9 178 6 8,
 zF 10 2 0,
 zL 11 10,
 zF 12 3 0,
 zL 13 12,
 eF 14 178 11 13,
 ⟨some 15,none,.a (.de [zz] 2 1 [0,1]),[.t 9,.t 14]⟩,
 dS 16 177 15,
 zM 4 16] [[],[],[],[],[],[],[0,5],[],[0,5],[],[],[],[]])
 .ret))⟩
def vo:AC:=(.seq (.ops [zR 9 (.bin .lss) 8 7])
 (.seq (.cond (.t 9)
 .skip
 (.exit 0))
 (.seq (.block 1 (.seq (.ops [zR 10 (.az 1) 6 8,
 zL 11 10,
 zM 5 11])
 (.seq (.ops [zM 12 5,
 zM 13 3,
 zR 14 (.bin .neq) 12 13])
 (.cond (.t 14)
 (.seq (.ops [zM 15 5,
 zM 2 15])
 .ret)
 .skip))))
 (.ops [zP 16 (.bin .add) [.t 8,zI 1],
 zM 8 16]))))
def Ma:an:=⟨18,[.tmp 2],
 (.seq (.ops [zV 2 0])
 (.seq (.ops [zV 3 0])
 (.seq (.seq (.ops [zM 6 0,
 zQ 7 .bL 6,
 zV 8 0])
 (.block 0 (.loop vo)))
 (.seq (.ops [zM 17 3,
 zM 2 17])
 .ret))))⟩
def Mb:an:=⟨20,[.tmp 4],
 (.seq (.ops [zV 4 0])
 (.seq (.ops [zM 7 0,
 dS 8 188 7,
 zM 5 8])
 (.seq (.ops [zM 9 1,
 dS 10 188 9,
 zM 6 10])
 (.seq (.seq (.ops [zM 11 5])
 (.cond (.t 11)
 (.seq (.seq (.ops [zM 12 6])
 (.cond (.t 12)
 (.seq (.ops [zV 4 0])
 .ret)
 .skip))
 (.seq (.ops [zV 4 (-1)])
 .ret))
 .skip))
 (.seq (.seq (.ops [zM 13 6])
 (.cond (.t 13)
 (.seq (.ops [zV 4 1])
 .ret)
 .skip))
 (.seq (.seq (.ops [zM 14 0,
 zM 15 1,
 zR 16 (.bin .lss) 14 15])
 (.cond (.t 16)
 (.seq (.ops [zV 4 (-1)])
 .ret)
 .skip))
 (.seq (.seq (.ops [zM 17 0,
 zM 18 1,
 zR 19 (.bin .gtr) 17 18])
 (.cond (.t 19)
 (.seq (.ops [zV 4 1])
 .ret)
 .skip))
 (.seq (.ops [zV 4 0])
 .ret))))))))⟩
def Mc:an:=⟨59,[.tmp 2],
 (.seq (.ops [zB 1 0,
 zV 2 0])
 (.seq (.cn [zF 5 1 2,
 zL 6 5,
 zP 7 (.bin .eql) [.t 6,.c (.str [])],
 zK 3 (.bool false),
 zM 4 7] [[],[],[],[],[]])
 (.seq (.seq (.ops [zF 8 1 0,
 zL 9 8])
 (.block 0 (.seq (.seq (.ops [zP 11 (.bin .eql) [.t 9,zI 1],
 zM 10 11])
 (.cond (.t 10)
 .skip
 (.ops [zP 12 (.bin .eql) [.t 9,zI 8],
 zM 10 12])))
 (.cond (.t 10)
 (.ops [zF 13 1 1,
 zL 14 13,
 zP 15 (.bin .geq) [.t 14,zI 1],
 zM 16 15,
 fG 17 1 1 16 true,
 fA 18 17 16 true,
 cw 19 (.bin .leq) [.t 18,zI 64] 16 true,
 zP 20 .pick [.t 16,.t 19,.c (.bool false)],
 zM 3 20])
 (.seq (.seq (.ops [zP 22 (.bin .eql) [.t 9,zI 2],
 zM 21 22])
 (.cond (.t 21)
 .skip
 (.ops [zP 23 (.bin .eql) [.t 9,zI 7],
 zM 21 23])))
 (.cond (.t 21)
 (.ops [zF 24 1 1,
 zL 25 24,
 zP 26 (.bin .geq) [.t 25,zI 0],
 zM 27 26,
 fG 28 1 1 27 true,
 fA 29 28 27 true,
 cw 30 (.bin .leq) [.t 29,zI 7] 27 true,
 zP 31 .pick [.t 27,.t 30,.c (.bool false)],
 zM 3 31])
 (.seq (.seq (.ops [zP 33 (.bin .eql) [.t 9,zI 3],
 zM 32 33])
 (.cond (.t 32)
 .skip
 (.seq (.ops [zP 34 (.bin .eql) [.t 9,zI 4],
 zM 32 34])
 (.cond (.t 32)
 .skip
 (.ops [zP 35 (.bin .eql) [.t 9,zI 5],
 zM 32 35])))))
 (.cond (.t 32)
 (.ops [zF 36 1 1,
 zL 37 36,
 zP 38 (.bin .eql) [.t 37,zI 0],
 zM 3 38])
 (.seq (.ops [zP 40 (.bin .eql) [.t 9,zI 6],
 zM 39 40])
 (.cond (.t 39)
 (.seq (.ops [zF 41 1 1,
 zL 42 41,
 zP 43 (.bin .geq) [.t 42,zI 0],
 zM 44 43,
 fG 45 1 1 44 true,
 fA 46 45 44 true,
 cw 47 (.bin .leq) [.t 46,zI 7] 44 true,
 zP 48 .pick [.t 44,.t 47,.c (.bool false)],
 zM 3 48])
 (.ops [zF 49 1 2,
 zL 50 49,
 zQ 51 .tL 50,
 zP 52 (.bin .leq) [.t 51,zI 16],
 zM 4 52]))
 .skip))))))))))
 (.seq (.seq (.ops [zM 53 3,
 zQ 54 .not 53,
 zM 55 54,
 bV 56 4 55 false,
 cw 57 .not [.t 56] 55 false,
 zP 58 .pick [.t 55,.c (.bool true),.t 57]])
 (.cond (.t 58)
 (.seq (.ops [zV 2 2])
 .ret)
 .skip))
 (.seq (.ops [zV 2 0])
 .ret)))))⟩
def eO:AC:=(.seq (.seq (.ops [zM 7 3,
 zP 8 (.bin .geq) [.t 7,zI 0]])
 (.cond (.t 8)
 .skip
 (.exit 0)))
 (.seq (.block 1 (.seq (.ops [zM 11 0,
 zM 12 3,
 zL 13 1,
 zM 14 3,
 zR 15 (.az 2) 13 14,
 zO 16 2 15,
 ⟨some 17,none,.call,[.t 11,.t 12,.t 16]⟩,
 zQ 18 .not 17])
 (.cond (.t 18)
 .ret
 .skip)))
 (.ops [zM 9 3,
 zP 10 (.bin .sub) [.t 9,zI 1],
 zM 3 10])))
def Md:an:=⟨19,[],
 (.seq (.ops [zL 4 1,
 zQ 5 .bL 4,
 zP 6 (.bin .sub) [.t 5,zI 1],
 zM 3 6])
 (.block 0 (.loop eO)))⟩
def Me:an:=⟨21,[],
 (.seq (.ops [zB 5 2])
 (.seq (.cn [zM 6 0,
 zN 7 6,
 zF 8 7 0,
 zL 9 8,
 zM 10 1,
 zO 11 2 5,
 zR 12 (.az 2) 9 10,
 zS 2 [.t 12,.t 11]] [[],[],[],[],[],[],[],[]])
 (.cn [zM 13 0,
 zF 14 5 0,
 zL 15 14,
 zM 16 1,
 zP 17 (.bin .add) [.t 16,zI 1],
 zN 18 13,
 zF 19 18 1,
 zR 20 (.kC 1 64) 19 15,
 zS 1 [.t 20,.t 17]] [[],[],[],[],[],[],[],[],[]])))⟩
def gC:AC:=(.block 1 (.seq (.ops [zM 13 1,
 zP 14 (.bin .mul) [zI 2,.t 13],
 zP 15 (.bin .add) [.t 14,zI 1],
 zM 5 15])
 (.seq (.seq (.cn [zM 16 5,
 zP 17 (.bin .add) [.t 16,zI 1],
 zM 18 0,
 zN 19 18,
 zF 20 19 0,
 zL 21 20,
 zQ 22 .bL 21,
 zR 23 (.bin .lss) 17 22,
 zM 24 23,
 bV 25 0 24 true,
 lA 26 25 24 true,
 fG 27 26 0 24 true,
 fA 28 27 24 true,
 bV 29 5 24 true,
 cw 30 (.bin .add) [.t 29,zI 1] 24 true,
 cw 31 (.az 2) [.t 28,.t 30] 24 true,
 ⟨some 32,some (24,true),.r (.aZ 2),[.t 31]⟩,
 bV 33 0 24 true,
 lA 34 33 24 true,
 fG 35 34 0 24 true,
 fA 36 35 24 true,
 bV 37 5 24 true,
 cw 38 (.az 2) [.t 36,.t 37] 24 true,
 ⟨some 39,some (24,true),.r (.aZ 2),[.t 38]⟩,
 oE 40 185 [.t 32,.t 39] 24 true,
 zP 41 .pick [.t 24,.t 40,.c (.bool false)]] [[],[],[],[],[],[],[],[],[],[],[],[],[],[],[],[],[],[],[],[],[],[],[],[],[],[]])
 (.cond (.t 41)
 (.ops [zM 42 5,
 zP 43 (.bin .add) [.t 42,zI 1],
 zM 5 43])
 .skip))
 (.seq (.seq (.cn [zM 44 5,
 zM 45 0,
 zN 46 45,
 zF 47 46 0,
 zL 48 47,
 zQ 49 .bL 48,
 zR 50 (.bin .geq) 44 49,
 zM 51 50,
 bV 52 0 51 false,
 lA 53 52 51 false,
 fG 54 53 0 51 false,
 fA 55 54 51 false,
 bV 56 5 51 false,
 cw 57 (.az 2) [.t 55,.t 56] 51 false,
 ⟨some 58,some (51,false),.r (.aZ 2),[.t 57]⟩,
 ⟨some 59,some (51,false),.r (.aZ 2),[.t 4]⟩,
 oE 60 185 [.t 58,.t 59] 51 false,
 cw 61 .not [.t 60] 51 false,
 zP 62 .pick [.t 51,.c (.bool true),.t 61]] [[],[],[],[],[],[],[],[],[],[],[],[],[],[],[],[],[],[],[]])
 (.cond (.t 62)
 (.exit 0)
 .skip))
 (.seq (.ops [zM 63 0,
 zM 64 1,
 zM 65 0,
 zN 66 65,
 zF 67 66 0,
 zL 68 67,
 zM 69 5,
 zR 70 (.az 2) 68 69,
 zO 71 2 70,
 xO 72 181 63 64 71])
 (.ops [zM 73 5,
 zM 1 73]))))))
def Mf:an:=⟨78,[],
 (.seq (.ops [zM 6 0,
 zN 7 6,
 zF 8 7 0,
 zL 9 8,
 zM 10 1,
 zR 11 (.az 2) 9 10,
 zO 12 2 11,
 ⟨some 4,none,.a (.alloc [zz,zz]),[]⟩,
 zS 2 [.t 4,.t 12]])
 (.seq (.block 0 (.loop gC))
 (.ops [zM 74 0,
 zM 75 1,
 zO 76 2 4,
 xO 77 181 74 75 76])))⟩
def iR:AC:=(.seq (.ops [zR 9 (.bin .lss) 8 7])
 (.seq (.cond (.t 9)
 .skip
 (.exit 0))
 (.seq (.block 1 (.seq (.ops [zM 10 8,
 zM 5 10])
 (.seq (.ops [zM 11 1,
 zM 12 0,
 zM 13 5,
 zR 14 (.az 3) 12 13,
 zO 15 3 14,
 ⟨some 16,none,.call,[.t 11,.t 15]⟩])
 (.cond (.t 16)
 (.seq (.ops [zM 17 5,
 zM 4 17])
 .ret)
 .skip))))
 (.ops [zP 18 (.bin .add) [.t 8,zI 1],
 zM 8 18]))))
def G0:an:=⟨19,[.tmp 4],
 (.seq (.ops [zV 4 0])
 (.seq (.seq (.ops [zM 6 0,
 zQ 7 .bL 6,
 zV 8 0])
 (.block 0 (.loop iR)))
 (.seq (.ops [zV 4 (-1)])
 .ret)))⟩
def Mg:an:=⟨15,[.tmp 0],
 (.seq (.ops [zK 0 .kF])
 (.seq (.ops [zP 3 (.build [zz,zz] [(0,1),(1,1)]) [zI 1,zI 64],
 zP 4 (.build [zz,zz] [(0,1),(1,1)]) [zI 0,zI 7],
 ⟨some 1,none,.a (.alloc [zz,zz]),[]⟩,
 ⟨some 2,none,.a (.alloc [zz,zz]),[]⟩,
 zS 2 [.t 1,.t 3],
 zS 2 [.t 2,.t 4]])
 (.seq (.ops [⟨some 5,none,.a .Je,[]⟩,
 zO 6 2 1,
 ⟨none,none,.e .ins,[.t 5,zI 1,.t 6]⟩,
 zO 7 2 1,
 ⟨none,none,.e .ins,[.t 5,zI 8,.t 7]⟩,
 zO 8 2 2,
 ⟨none,none,.e .ins,[.t 5,zI 2,.t 8]⟩,
 zO 9 2 2,
 ⟨none,none,.e .ins,[.t 5,zI 6,.t 9]⟩,
 zO 10 2 2,
 ⟨none,none,.e .ins,[.t 5,zI 7,.t 10]⟩,
 zP 11 (.build [zz,zz] []) [],
 ⟨none,none,.e .ins,[.t 5,zI 3,.t 11]⟩,
 zP 12 (.build [zz,zz] []) [],
 ⟨none,none,.e .ins,[.t 5,zI 4,.t 12]⟩,
 zP 13 (.build [zz,zz] []) [],
 ⟨none,none,.e .ins,[.t 5,zI 5,.t 13]⟩,
 zM 14 5,
 zM 0 14])
 .ret)))⟩
def Mh:an:=⟨24,[.tmp 4],
 (.seq (.ops [zB 2 0,
 zB 3 1,
 zK 4 (.bool false)])
 (.seq (.ops [zF 5 2 1,
 zL 6 5,
 zF 7 3 1,
 zL 8 7,
 zR 9 (.bin .lss) 6 8,
 zM 10 9,
 fG 11 2 1 10 false,
 fA 12 11 10 false,
 fG 13 3 1 10 false,
 fA 14 13 10 false,
 cw 15 (.bin .eql) [.t 12,.t 14] 10 false,
 bV 16 15 10 false,
 fG 17 2 0 16 true,
 fA 18 17 16 true,
 fG 19 3 0 16 true,
 fA 20 19 16 true,
 cw 21 (.bin .lss) [.t 18,.t 20] 16 true,
 cw 22 .pick [.t 16,.t 21,.c (.bool false)] 10 false,
 zP 23 .pick [.t 10,.c (.bool true),.t 22],
 zM 4 23])
 .ret))⟩
def iS:AC:=(.block 1 (.seq (.ops [zM 21 2,
 zM 22 1,
 zR 23 (.bin .sub) 21 22,
 zM 12 23])
 (.seq (.seq (.ops [zM 24 12,
 zP 25 (.bin .leq) [.t 24,zI 12]])
 (.cond (.t 25)
 (.seq (.ops [zM 26 0,
 zM 27 1,
 zM 28 2,
 zM 29 4,
 PN 30 189 26 27 28 29])
 .ret)
 .skip))
 (.seq (.seq (.ops [zM 31 3,
 zP 32 (.bin .eql) [.t 31,zI 0]])
 (.cond (.t 32)
 (.seq (.ops [zM 33 0,
 zM 34 1,
 zM 35 2,
 zM 36 4,
 PN 37 190 33 34 35 36])
 .ret)
 .skip))
 (.seq (.seq (.ops [zM 38 10,
 zQ 39 .not 38])
 (.cond (.t 39)
 (.seq (.ops [zM 40 0,
 zM 41 1,
 zM 42 2,
 zM 43 4,
 PN 44 191 40 41 42 43])
 (.ops [zM 45 3,
 zP 46 (.bin .sub) [.t 45,zI 1],
 zM 3 46]))
 .skip))
 (.seq (.ops [zM 48 0,
 zM 49 1,
 zM 50 2,
 zM 51 4,
 PN 52 192 48 49 50 51,
 zM 47 52,
 zQ 53 (.ext 0) 47,
 zQ 54 (.ext 1) 47,
 zM 13 53,
 zM 14 54])
 (.seq (.seq (.ops [zM 55 14,
 zP 56 (.bin .eql) [.t 55,zI 2]])
 (.cond (.t 56)
 (.seq (.ops [zM 57 0,
 zM 58 1,
 zM 59 2,
 zM 60 4,
 PN 61 193 57 58 59 60])
 (.seq (.ops [zM 62 2,
 zP 63 (.bin .sub) [.t 62,zI 1],
 zM 64 13,
 zM 65 1,
 zR 66 (.bin .sub) 64 65,
 zR 67 (.bin .sub) 63 66,
 zM 13 67])
 (.ops [zV 14 1])))
 .skip))
 (.seq (.seq (.ops [zM 68 10,
 zM 69 68,
 bV 70 11 69 true,
 zP 71 .pick [.t 69,.t 70,.c (.bool false)],
 zM 72 71,
 bV 73 14 72 true,
 cw 74 (.bin .eql) [.t 73,zI 1] 72 true,
 zP 75 .pick [.t 72,.t 74,.c (.bool false)]])
 (.cond (.t 75)
 (.seq (.ops [zM 76 0,
 zM 77 1,
 zM 78 2,
 zM 79 4,
 PN 80 194 76 77 78 79])
 (.cond (.t 80)
 .ret
 .skip))
 .skip))
 (.seq (.seq (.cn [zM 81 1,
 zP 82 (.bin .gtr) [.t 81,zI 0],
 zM 83 82,
 bV 84 4 83 true,
 bV 85 0 83 true,
 bV 86 1 83 true,
 cw 87 (.bin .sub) [.t 86,zI 1] 83 true,
 cw 88 (.az 2) [.t 85,.t 87] 83 true,
 ⟨some 89,some (83,true),.r (.aZ 2),[.t 88]⟩,
 bV 90 0 83 true,
 bV 91 13 83 true,
 cw 92 (.az 2) [.t 90,.t 91] 83 true,
 ⟨some 93,some (83,true),.r (.aZ 2),[.t 92]⟩,
 ⟨some 94,some (83,true),.call,[.t 84,.t 89,.t 93]⟩,
 cw 95 (.bin .lss) [.t 94,zI 0] 83 true,
 cw 96 .not [.t 95] 83 true,
 zP 97 .pick [.t 83,.t 96,.c (.bool false)]] [[],[],[],[],[],[],[],[],[],[],[],[],[],[],[],[],[]])
 (.cond (.t 97)
 (.seq (.ops [zM 98 0,
 zM 99 1,
 zM 100 2,
 zM 101 13,
 zM 102 4,
 UX 103 195 98 99 100 101 102,
 zM 15 103])
 (.seq (.ops [zM 104 15,
 zM 1 104])
 (.exit 1)))
 .skip))
 (.seq (.ops [zM 106 0,
 zM 107 1,
 zM 108 2,
 zM 109 13,
 zM 110 4,
 UX 111 196 106 107 108 109 110,
 zM 105 111,
 zQ 112 (.ext 0) 105,
 zQ 113 (.ext 1) 105,
 zM 16 112,
 zM 17 113])
 (.seq (.ops [zM 114 17,
 zM 11 114])
 (.seq (.ops [zM 115 16,
 zM 116 1,
 zR 117 (.bin .sub) 115 116,
 zM 118 2,
 zM 119 16,
 zR 120 (.bin .sub) 118 119,
 zM 18 117,
 zM 19 120])
 (.seq (.ops [zM 121 12,
 zP 122 (.bin .quo) [.t 121,zI 8],
 zM 20 122])
 (.seq (.ops [zM 123 18,
 zM 124 19,
 zR 125 (.bin .lss) 123 124])
 (.cond (.t 125)
 (.seq (.ops [zM 126 18,
 zM 127 20,
 zR 128 (.bin .geq) 126 127,
 zM 10 128])
 (.seq (.ops [zM 129 0,
 zM 130 1,
 zM 131 16,
 zM 132 3,
 zM 133 4,
 UX 134 186 129 130 131 132 133])
 (.ops [zM 135 16,
 zP 136 (.bin .add) [.t 135,zI 1],
 zM 1 136])))
 (.seq (.ops [zM 137 19,
 zM 138 20,
 zR 139 (.bin .geq) 137 138,
 zM 10 139])
 (.seq (.ops [zM 140 0,
 zM 141 16,
 zP 142 (.bin .add) [.t 141,zI 1],
 zM 143 2,
 zM 144 3,
 zM 145 4,
 UX 146 186 140 142 143 144 145])
 (.ops [zM 147 16,
 zM 2 147]))))))))))))))))))
def G1:an:=⟨148,[],
 (.seq (.ops [zK 10 (.bool true)])
 (.seq (.ops [zK 11 (.bool true)])
 (.block 0 (.loop iS))))⟩
def Mi:an:=⟨8,[.tmp 2],
 (.seq (.ops [zV 2 0])
 (.seq (.cond (.c (.bool false))
 (.seq (.ops [zM 3 0,
 zQ 4 (.conv .u32) 3,
 dS 5 197 4,
 zM 2 5])
 .ret)
 .skip)
 (.seq (.ops [zM 6 0,
 dS 7 198 6,
 zM 2 7])
 .ret)))⟩
def Mj:an:=⟨6,[.tmp 2],
 (.seq (.ops [zK 2 (.bool false)])
 (.seq (.ops [zM 3 0,
 zM 4 0,
 zR 5 (.bin .neq) 3 4,
 zM 2 5])
 .ret))⟩
def cY:AC:=(.seq (.seq (.cn [zM 18 9,
 zM 19 1,
 zR 20 (.bin .gtr) 18 19,
 zM 21 20,
 bV 22 3 21 true,
 bV 23 0 21 true,
 bV 24 9 21 true,
 cw 25 (.az 2) [.t 23,.t 24] 21 true,
 ⟨some 26,some (21,true),.r (.aZ 2),[.t 25]⟩,
 bV 27 0 21 true,
 bV 28 9 21 true,
 cw 29 (.bin .sub) [.t 28,zI 1] 21 true,
 cw 30 (.az 2) [.t 27,.t 29] 21 true,
 ⟨some 31,some (21,true),.r (.aZ 2),[.t 30]⟩,
 ⟨some 32,some (21,true),.call,[.t 22,.t 26,.t 31]⟩,
 cw 33 (.bin .lss) [.t 32,zI 0] 21 true,
 zP 34 .pick [.t 21,.t 33,.c (.bool false)]] [[],[],[],[],[],[],[],[],[],[],[],[],[],[],[],[],[]])
 (.cond (.t 34)
 .skip
 (.exit 2)))
 (.seq (.block 3 (.cn [zM 37 0,
 zM 38 9,
 zM 39 0,
 zM 40 9,
 zP 41 (.bin .sub) [.t 40,zI 1],
 zM 42 0,
 zM 43 9,
 zP 44 (.bin .sub) [.t 43,zI 1],
 zR 45 (.az 2) 42 44,
 zO 46 2 45,
 zM 47 0,
 zM 48 9,
 zR 49 (.az 2) 47 48,
 zO 50 2 49,
 zR 51 (.az 2) 37 38,
 zS 2 [.t 51,.t 46],
 zR 52 (.az 2) 39 41,
 zS 2 [.t 52,.t 50]] [[],[],[],[],[],[],[],[],[],[],[],[],[],[],[],[],[],[]]))
 (.ops [zM 35 9,
 zP 36 (.bin .sub) [.t 35,zI 1],
 zM 9 36])))
def cX:AC:=(.seq (.seq (.ops [zM 12 8,
 zM 13 2,
 zR 14 (.bin .lss) 12 13])
 (.cond (.t 14)
 .skip
 (.exit 0)))
 (.seq (.block 1 (.seq (.ops [zM 17 8,
 zM 9 17])
 (.block 2 (.loop cY))))
 (.ops [zM 15 8,
 zP 16 (.bin .add) [.t 15,zI 1],
 zM 8 16])))
def G2:an:=⟨53,[],
 (.seq (.ops [zM 10 1,
 zP 11 (.bin .add) [.t 10,zI 1],
 zM 8 11])
 (.block 0 (.loop cX)))⟩
def Mk:an:=⟨25,[.tmp 2],
 (.seq (.ops [zV 2 0])
 (.seq (.seq (.ops [zM 3 0,
 zP 4 (.bin .geq) [.t 3,.c (.int .u64 4294967296)]])
 (.cond (.t 4)
 (.seq (.ops [zM 5 0,
 zP 6 (.bin .shr) [.t 5,.c (.int .u64 32)],
 zM 0 6])
 (.ops [zV 2 32]))
 .skip))
 (.seq (.seq (.ops [zM 7 0,
 zP 8 (.bin .geq) [.t 7,.c (.int .u64 65536)]])
 (.cond (.t 8)
 (.seq (.ops [zM 9 0,
 zP 10 (.bin .shr) [.t 9,.c (.int .u64 16)],
 zM 0 10])
 (.ops [zM 11 2,
 zP 12 (.bin .add) [.t 11,zI 16],
 zM 2 12]))
 .skip))
 (.seq (.seq (.ops [zM 13 0,
 zP 14 (.bin .geq) [.t 13,.c (.int .u64 256)]])
 (.cond (.t 14)
 (.seq (.ops [zM 15 0,
 zP 16 (.bin .shr) [.t 15,.c (.int .u64 8)],
 zM 0 16])
 (.ops [zM 17 2,
 zP 18 (.bin .add) [.t 17,zI 8],
 zM 2 18]))
 .skip))
 (.seq (.ops [zM 19 2,
 zM 20 0,
 zQ 21 (.conv .u8) 20,
 zP 22 .C8 [.c (.str [0,1,2,2,3,3,3,3,4,4,4,4,4,4,4,4,5,5,5,5,5,5,5,5,5,5,5,5,5,5,5,5,6,6,6,6,6,6,6,6,6,6,6,6,6,6,6,6,6,6,6,6,6,6,6,6,6,6,6,6,6,6,6,6,7,7,7,7,7,7,7,7,7,7,7,7,7,7,7,7,7,7,7,7,7,7,7,7,7,7,7,7,7,7,7,7,7,7,7,7,7,7,7,7,7,7,7,7,7,7,7,7,7,7,7,7,7,7,7,7,7,7,7,7,7,7,7,7,8,8,8,8,8,8,8,8,8,8,8,8,8,8,8,8,8,8,8,8,8,8,8,8,8,8,8,8,8,8,8,8,8,8,8,8,8,8,8,8,8,8,8,8,8,8,8,8,8,8,8,8,8,8,8,8,8,8,8,8,8,8,8,8,8,8,8,8,8,8,8,8,8,8,8,8,8,8,8,8,8,8,8,8,8,8,8,8,8,8,8,8,8,8,8,8,8,8,8,8,8,8,8,8,8,8,8,8,8,8,8,8,8,8,8,8,8,8,8,8,8,8,8,8,8,8,8,8]),.t 21],
 zQ 23 (.conv .i64) 22,
 zR 24 (.bin .add) 19 23,
 zM 2 24])
 .ret)))))⟩
def T:Tr an:=(.node (.node (.node (.node (.node (.node (.node (.node .nil (some Lh) .nil) (some VL) .nil) (some S9) (.node (.node .nil (some LM) .nil) (some Wg) .nil)) (some U2) (.node (.node (.node .nil (some Lw) .nil) (some V1) .nil) (some Vt) (.node (.node .nil (some GZ) .nil) (some K0) .nil))) (some C7) (.node (.node (.node (.node .nil (some Lo) .nil) (some VU) .nil) (some Vo) (.node (.node .nil (some LU) .nil) (some KU) .nil)) (some Va) (.node (.node (.node .nil (some LD) .nil) (some V8) .nil) (some VB) (.node (.node .nil (some G0) .nil) (some K9) .nil)))) none (.node (.node (.node (.node (.node .nil (some Ll) .nil) (some VP) .nil) (some Vl) (.node (.node .nil (some LQ) .nil) (some Wk) .nil)) (some U6) (.node (.node (.node .nil (some LA) .nil) (some Tc) .nil) (some Vx) (.node (.node .nil (some Mc) .nil) (some K4) .nil))) none (.node (.node (.node (.node .nil (some Ls) .nil) (some VY) .nil) none (.node (.node .nil (some LY) .nil) (some KX) .nil)) (some Ve) (.node (.node (.node .nil (some LI) .nil) (some Wc) .nil) (some VH) (.node (.node .nil (some Mi) .nil) (some Ld) .nil))))) none (.node (.node (.node (.node (.node (.node .nil (some Lj) .nil) (some VM) .nil) (some Vj) (.node (.node .nil (some LO) .nil) (some Wi) .nil)) (some U4) (.node (.node (.node .nil (some Ly) .nil) (some V3) .nil) (some Vv) (.node (.node .nil (some Ma) .nil) (some K2) .nil))) (some C9) (.node (.node (.node (.node .nil (some Lq) .nil) (some VW) .nil) (some Vq) (.node (.node .nil (some LW) .nil) (some KV) .nil)) (some Vc) (.node (.node (.node .nil (some LG) .nil) (some Wa) .nil) (some VF) (.node (.node .nil (some Mh) .nil) (some Lb) .nil)))) (some C5) (.node (.node (.node (.node (.node .nil (some Ln) .nil) (some VR) .nil) (some Vm) (.node (.node .nil (some LR) .nil) (some KS) .nil)) (some U8) (.node (.node (.node .nil (some GW) .nil) (some V6) .nil) (some Vz) (.node (.node .nil (some Me) .nil) (some K6) .nil))) (some U0) (.node (.node (.node (.node .nil (some Lu) .nil) (some Tb) .nil) none (.node (.node .nil (some L3) .nil) (some KY) .nil)) (some Vg) (.node (.node (.node .nil (some LK) .nil) (some We) .nil) (some VJ) (.node (.node .nil (some G2) .nil) (some Lf) .nil)))))) none (.node (.node (.node (.node (.node (.node (.node .nil (some Li) .nil) (some Ta) .nil) (some Vi) (.node (.node .nil (some LN) .nil) (some Wh) .nil)) (some U3) (.node (.node (.node .nil (some Lx) .nil) (some V2) .nil) (some Vu) (.node (.node .nil (some L8) .nil) (some K1) .nil))) none (.node (.node (.node (.node .nil (some Lp) .nil) (some VV) .nil) (some Vp) (.node (.node .nil (some LV) .nil) (some GS) .nil)) (some Vb) (.node (.node (.node .nil (some LF) .nil) (some V9) .nil) (some VE) (.node (.node .nil (some Mg) .nil) (some La) .nil)))) none (.node (.node (.node (.node (.node .nil (some Lm) .nil) (some VQ) .nil) (some Sz) (.node (.node .nil (some GX) .nil) (some KR) .nil)) (some U7) (.node (.node (.node .nil (some LB) .nil) (some V5) .nil) (some Vy) (.node (.node .nil (some Md) .nil) (some K5) .nil))) (some UZ) (.node (.node (.node (.node .nil (some Lt) .nil) (some VZ) .nil) none (.node (.node .nil (some LZ) .nil) (some GU) .nil)) (some Vf) (.node (.node (.node .nil (some LJ) .nil) (some Wd) .nil) (some VI) (.node (.node .nil (some Mj) .nil) (some Le) .nil))))) none (.node (.node (.node (.node (.node (.node .nil (some Lk) .nil) (some VN) .nil) (some Vk) (.node (.node .nil (some LP) .nil) (some Wj) .nil)) (some U5) (.node (.node (.node .nil (some Lz) .nil) (some V4) .nil) (some Vw) (.node (.node .nil (some Mb) .nil) (some K3) .nil))) (some UY) (.node (.node (.node (.node .nil (some Lr) .nil) (some VX) .nil) (some Vr) (.node (.node .nil (some LX) .nil) (some KW) .nil)) (some Vd) (.node (.node (.node .nil (some LH) .nil) (some Wb) .nil) (some VG) (.node (.node .nil (some G1) .nil) (some Lc) .nil)))) none (.node (.node (.node (.node (.node .nil (some GV) .nil) (some VT) (.node .nil (some Mk) .nil)) (some Vn) (.node (.node .nil (some LS) .nil) (some KT) .nil)) (some U9) (.node (.node (.node .nil (some LC) .nil) (some V7) .nil) (some VA) (.node (.node .nil (some Mf) .nil) (some K8) .nil))) (some U1) (.node (.node (.node (.node .nil (some Lv) .nil) (some V0) .nil) (some Vs) (.node (.node .nil (some GY) .nil) (some KZ) .nil)) (some Vh) (.node (.node (.node .nil (some LL) .nil) (some Wf) .nil) (some VK) (.node .nil (some Lg) .nil)))))))
def fs(f:Nat):Option an:=Tr.get T f
def ms(t:Nat)(n:String):Option Nat:=none
end Ir
end Go.Proofs.YtnlcabhfkpafmaaGreat
