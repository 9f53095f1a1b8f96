/-
  What the program's functions are in Ads, printed by a program.
-/
import Derived.Test.YtmnolnoeibhjgaaGreatAdsDef
set_option linter.unusedVariables false
set_option maxRecDepth 100000
namespace Go.Proofs.YtmnolnoeibhjgaaGreat
open Go Ads
namespace Ir
abbrev zM(d s:Nat):bp:=⟨some d,none,.p .yh,[.t s]⟩
abbrev zF(d s o:Nat):bp:=⟨some d,none,.p (.vo o),[.t s]⟩
abbrev zN(d s:Nat):bp:=⟨some d,none,.p .o7,[.t s]⟩
abbrev zL(d s:Nat):bp:=⟨some d,none,.r .cP,[.t s]⟩
abbrev cF(d s g:Nat)(b:Bool):bp:=⟨some d,some (g,b),.p .yh,[.t s]⟩
abbrev c9(d s o g:Nat)(b:Bool):bp:=⟨some d,some (g,b),.p (.vo o),[.t s]⟩
abbrev uq(d s g:Nat)(b:Bool):bp:=⟨some d,some (g,b),.p .o7,[.t s]⟩
abbrev c7(d s g:Nat)(b:Bool):bp:=⟨some d,some (g,b),.r .cP,[.t s]⟩
def zs(l:List Nat):String:=String.ofList (l.map Char.ofNat)
abbrev zP(d:Nat)(o:pQ)(l:List bx):bp:=⟨some d,none,.p o,l⟩
abbrev bL(d:Nat)(o:pQ)(l:List bx)(g:Nat)(b:Bool):bp:=⟨some d,some (g,b),.p o,l⟩
abbrev zS(n:Nat)(l:List bx):bp:=⟨none,none,.e (.store n),l⟩
abbrev zz:AV:=.int .i64 0
abbrev zI(n:Int):bx:=.c (.int .i64 n)
abbrev zC(d f:Nat)(l:List bx):bp:=⟨some d,none,.call,.c (.func (.func f) [] [])::l⟩
abbrev qt(d f:Nat)(l:List bx)(g:Nat)(b:Bool):bp:=⟨some d,some (g,b),.call,.c (.func (.func f) [] [])::l⟩
abbrev KM(d f:Nat):bp:=⟨some d,none,.call,[.c (.func (.func f) [] [])]⟩
abbrev cE(d f v:Nat):bp:=⟨some d,none,.call,[.c (.func (.func f) [] []),.t v]⟩
abbrev fF(d f v w:Nat):bp:=⟨some d,none,.call,[.c (.func (.func f) [] []),.t v,.t w]⟩
abbrev Er(d f v w x:Nat):bp:=⟨some d,none,.call,[.c (.func (.func f) [] []),.t v,.t w,.t x]⟩
abbrev Ly(d f v w x y:Nat):bp:=⟨some d,none,.call,[.c (.func (.func f) [] []),.t v,.t w,.t x,.t y]⟩
abbrev Uy(d f v w x y z:Nat):bp:=⟨some d,none,.call,[.c (.func (.func f) [] []),.t v,.t w,.t x,.t y,.t z]⟩
abbrev zQ(d:Nat)(o:pQ)(a:Nat):bp:=⟨some d,none,.p o,[.t a]⟩
abbrev zR(d:Nat)(o:pQ)(a b:Nat):bp:=⟨some d,none,.p o,[.t a,.t b]⟩
abbrev zO(d n s:Nat):bp:=⟨some d,none,.r (.bt n),[.t s]⟩
abbrev zV(d:Nat)(n:Int):bp:=⟨some d,none,.p .yh,[.c (.int .i64 n)]⟩
abbrev zK(d:Nat)(v:AV):bp:=⟨some d,none,.p .yh,[.c v]⟩
abbrev zB(d s:Nat):bp:=⟨some d,none,.a .box,[.t s]⟩
abbrev zA(d n b x y:Nat):bp:=⟨some d,none,.e (.append n b),[.t x,.t y]⟩
def eZ:AC:=(.seq (.seq (.ops [zM 10 4,
 zM 11 0,
 zQ 12 .aV 11,
 zR 13 (.bin .lss) 10 12,
 zM 14 13,
 cF 15 4 14 true,
 bL 16 (.bin .lss) [.t 15,zI 40] 14 true,
 zP 17 .pick [.t 14,.t 16,.c (.bool false)]])
 (.cond (.t 17)
 .skip
 (.exit 0)))
 (.seq (.block 1 (.seq (.ops [zM 20 0,
 zM 21 4,
 zR 22 (.aB 6) 20 21,
 zO 23 6 22,
 ⟨some 5,none,.a (.alloc [zz,zz,zz,zz,zz,.az]),[]⟩,
 zS 6 [.t 5,.t 23]])
 (.seq (.ops [zF 24 5 5,
 zL 25 24,
 zF 26 5 5,
 zL 27 26,
 zQ 28 .aV 27,
 zP 29 .mn [.t 28,zI 40],
 zR 30 (.slice 3 false true false) 25 29,
 zF 31 5 5,
 zS 1 [.t 31,.t 30]])
 (.seq (.ops [zM 32 3,
 zO 33 6 5,
 ⟨some 34,none,.a (.aY [zz,zz,zz,zz,zz,.az] 1 6 [0]),[.t 33]⟩,
 zA 35 6 64 32 34,
 zM 3 35])
 (.seq (.bI [zO 36 6 5,
 cE 37 7 36,
 zO 38 6 5,
 cE 39 8 38,
 zR 40 (.bin .neq) 37 39] [[],[],[0,2],[],[]])
 (.cond (.t 40)
 (.seq (.ops [zK 2 (.bool false)])
 .ret)
 .skip))))))
 (.ops [zM 18 4,
 zP 19 (.bin .add) [.t 18,zI 1],
 zM 4 19])))
def C3:aj:=⟨62,[.tmp 2],
 (.seq (.ops [zK 2 (.bool false)])
 (.seq (.ops [zK 3 .az])
 (.seq (.seq (.ops [zV 4 0])
 (.block 0 (.loop eZ)))
 (.seq (.ops [zM 42 3,
 cE 43 9 42,
 zM 41 43,
 zQ 44 (.ext 0) 41,
 zQ 45 (.ext 1) 41,
 zM 6 44,
 zM 7 45])
 (.seq (.ops [zM 47 3,
 cE 48 10 47,
 zM 46 48,
 zQ 49 (.ext 0) 46,
 zQ 50 (.ext 1) 46,
 zM 8 49,
 zM 9 50])
 (.seq (.ops [zM 51 6,
 zM 52 8,
 fF 53 11 51 52,
 zM 54 53,
 cF 55 7 54 true,
 cF 56 9 54 true,
 bL 57 (.bin .eql) [.t 55,.t 56] 54 true,
 zP 58 .pick [.t 54,.t 57,.c (.bool false)],
 zM 59 58,
 ⟨some 60,some (59,true),.call,[.c (.func (.func 12) [] [])]⟩,
 zP 61 .pick [.t 59,.t 60,.c (.bool false)],
 zM 2 61])
 .ret))))))⟩
def eJ:AC:=(.seq (.seq (.ops [zM 32 9,
 zM 33 3,
 zQ 34 .aV 33,
 zR 35 (.bin .lss) 32 34])
 (.cond (.t 35)
 .skip
 (.exit 0)))
 (.seq (.block 1 (.ops [zM 38 3,
 zM 39 9,
 zM 40 3,
 zM 41 9,
 zR 42 (.aB 1) 40 41,
 zL 43 42,
 zP 44 (.bin .xor) [.t 43,.c (.int .u8 90)],
 zR 45 (.aB 1) 38 39,
 zS 1 [.t 45,.t 44]]))
 (.ops [zM 36 9,
 zP 37 (.bin .add) [.t 36,zI 1],
 zM 9 37])))
def eL:AC:=(.seq (.seq (.ops [zM 80 13,
 zM 81 10,
 zM 82 12,
 zR 83 (.aB 6) 81 82,
 zF 84 83 5,
 zL 85 84,
 zQ 86 .aV 85,
 zR 87 (.bin .lss) 80 86])
 (.cond (.t 87)
 .skip
 (.exit 4)))
 (.seq (.block 5 (.ops [zM 90 10,
 zM 91 12,
 zR 92 (.aB 6) 90 91,
 zF 93 92 5,
 zL 94 93,
 zM 95 13,
 zR 96 (.aB 3) 94 95,
 zF 97 96 1,
 zS 1 [.t 97,zI (-7)]]))
 (.ops [zM 88 13,
 zP 89 (.bin .add) [.t 88,zI 1],
 zM 13 89])))
def di:AC:=(.seq (.seq (.ops [zM 64 12,
 zM 65 10,
 zQ 66 .aV 65,
 zR 67 (.bin .lss) 64 66])
 (.cond (.t 67)
 .skip
 (.exit 2)))
 (.seq (.block 3 (.seq (.seq (.bI [zM 70 10,
 zM 71 12,
 zR 72 (.aB 6) 70 71,
 zO 73 6 72,
 zM 74 11,
 zM 75 12,
 zR 76 (.aB 6) 74 75,
 zO 77 6 76,
 fF 78 19 73 77,
 zQ 79 .not 78] [[],[],[],[],[],[],[],[],[],[]])
 (.cond (.t 79)
 (.seq (.ops [zK 2 (.bool false)])
 .ret)
 .skip))
 (.seq (.ops [zV 13 0])
 (.block 4 (.loop eL)))))
 (.ops [zM 68 12,
 zP 69 (.bin .add) [.t 68,zI 1],
 zM 12 69])))
def C4:aj:=⟨104,[.tmp 2],
 (.seq (.ops [zK 2 (.bool false)])
 (.seq (.ops [zM 14 0,
 zM 15 0,
 zQ 16 .aV 15,
 zP 17 .mn [.t 16,zI 3000],
 zR 18 (.slice 1 false true false) 14 17,
 cE 19 13 18,
 zM 3 19])
 (.seq (.ops [zM 20 3,
 cE 21 13 20,
 zM 4 21])
 (.seq (.ops [zM 23 3,
 cE 24 14 23,
 zM 22 24,
 zQ 25 (.ext 0) 22,
 zQ 26 (.ext 1) 22,
 zM 5 25,
 zM 6 26])
 (.seq (.ops [zM 28 4,
 cE 29 15 28,
 zM 27 29,
 zQ 30 (.ext 0) 27,
 zQ 31 (.ext 1) 27,
 zM 7 30,
 zM 8 31])
 (.seq (.seq (.ops [zV 9 0])
 (.block 0 (.loop eJ)))
 (.seq (.seq (.ops [zM 46 5,
 zM 47 7,
 fF 48 16 46 47,
 zQ 49 .not 48,
 zM 50 49,
 cF 51 6 50 false,
 cF 52 8 50 false,
 bL 53 (.bin .neq) [.t 51,.t 52] 50 false,
 zP 54 .pick [.t 50,.c (.bool true),.t 53]])
 (.cond (.t 54)
 (.seq (.ops [zK 2 (.bool false)])
 .ret)
 .skip))
 (.seq (.ops [zM 55 5,
 cE 56 17 55,
 zM 57 7,
 cE 58 18 57,
 zM 10 56,
 zM 11 58])
 (.seq (.seq (.ops [zM 59 10,
 zQ 60 .aV 59,
 zM 61 11,
 zQ 62 .aV 61,
 zR 63 (.bin .neq) 60 62])
 (.cond (.t 63)
 (.seq (.ops [zK 2 (.bool false)])
 .ret)
 .skip))
 (.seq (.seq (.ops [zV 12 0])
 (.block 2 (.loop di)))
 (.seq (.ops [zM 98 5,
 zM 99 7,
 fF 100 16 98 99,
 zM 101 100,
 ⟨some 102,some (101,true),.call,[.c (.func (.func 12) [] [])]⟩,
 zP 103 .pick [.t 101,.t 102,.c (.bool false)],
 zM 2 103])
 .ret)))))))))))⟩
def fH:AC:=(.seq (.seq (.ops [zM 43 8,
 zM 44 0,
 zQ 45 .aV 44,
 zR 46 (.bin .lss) 43 45])
 (.cond (.t 46)
 .skip
 (.exit 0)))
 (.seq (.block 1 (.seq (.bI [zM 49 5,
 zM 50 8,
 zR 51 (.aB 7) 49 50,
 zF 52 51 6,
 zL 53 52,
 zP 54 (.bin .neq) [.t 53,zI 0],
 zM 55 54,
 cF 56 5 55 false,
 cF 57 8 55 false,
 bL 58 (.aB 7) [.t 56,.t 57] 55 false,
 c9 59 58 0 55 false,
 ⟨some 60,some (55,false),.r (.bt 6),[.t 59]⟩,
 cF 61 0 55 false,
 cF 62 8 55 false,
 bL 63 (.aB 6) [.t 61,.t 62] 55 false,
 ⟨some 64,some (55,false),.r (.bt 6),[.t 63]⟩,
 qt 65 21 [.t 60,.t 64] 55 false,
 bL 66 .not [.t 65] 55 false,
 zP 67 .pick [.t 55,.c (.bool true),.t 66],
 zM 68 67,
 cF 69 7 68 false,
 cF 70 8 68 false,
 bL 71 (.aB 6) [.t 69,.t 70] 68 false,
 ⟨some 72,some (68,false),.r (.bt 6),[.t 71]⟩,
 cF 73 0 68 false,
 cF 74 8 68 false,
 bL 75 (.aB 6) [.t 73,.t 74] 68 false,
 ⟨some 76,some (68,false),.r (.bt 6),[.t 75]⟩,
 qt 77 21 [.t 72,.t 76] 68 false,
 bL 78 .not [.t 77] 68 false,
 zP 79 .pick [.t 68,.c (.bool true),.t 78],
 zM 80 79,
 cF 81 0 80 false,
 cF 82 8 80 false,
 bL 83 (.aB 6) [.t 81,.t 82] 80 false,
 ⟨some 84,some (80,false),.r (.bt 6),[.t 83]⟩,
 qt 85 7 [.t 84] 80 false,
 bL 86 (.bin .neq) [.t 85,zI 0] 80 false,
 zP 87 .pick [.t 80,.c (.bool true),.t 86]] [[],[],[],[],[],[],[],[],[],[],[],[],[],[],[],[],[],[],[],[],[],[],[],[],[],[],[],[],[],[],[],[],[],[],[],[],[],[],[]])
 (.cond (.t 87)
 (.seq (.ops [zK 2 (.bool false)])
 .ret)
 .skip)))
 (.ops [zM 47 8,
 zP 48 (.bin .add) [.t 47,zI 1],
 zM 8 48])))
def C5:aj:=⟨89,[.tmp 2],
 (.seq (.ops [zK 2 (.bool false)])
 (.seq (.ops [zM 9 0,
 cE 10 20 9,
 zM 0 10])
 (.seq (.ops [zM 12 0,
 cE 13 9 12,
 zM 11 13,
 zQ 14 (.ext 0) 11,
 zQ 15 (.ext 1) 11,
 zM 3 14,
 zM 4 15])
 (.seq (.ops [zM 17 3,
 cE 18 14 17,
 zM 16 18,
 zQ 19 (.ext 0) 16,
 zQ 20 (.ext 1) 16,
 zM 5 19,
 zM 6 20])
 (.seq (.ops [zM 21 5,
 cE 22 17 21,
 zM 7 22])
 (.seq (.seq (.ops [zM 23 4,
 zP 24 (.bin .neq) [.t 23,zI 0],
 zM 25 24,
 cF 26 6 25 false,
 bL 27 (.bin .neq) [.t 26,zI 0] 25 false,
 zP 28 .pick [.t 25,.c (.bool true),.t 27],
 zM 29 28,
 cF 30 5 29 false,
 bL 31 .aV [.t 30] 29 false,
 cF 32 0 29 false,
 bL 33 .aV [.t 32] 29 false,
 bL 34 (.bin .neq) [.t 31,.t 33] 29 false,
 zP 35 .pick [.t 29,.c (.bool true),.t 34],
 zM 36 35,
 cF 37 7 36 false,
 bL 38 .aV [.t 37] 36 false,
 cF 39 0 36 false,
 bL 40 .aV [.t 39] 36 false,
 bL 41 (.bin .neq) [.t 38,.t 40] 36 false,
 zP 42 .pick [.t 36,.c (.bool true),.t 41]])
 (.cond (.t 42)
 (.seq (.ops [zK 2 (.bool false)])
 .ret)
 .skip))
 (.seq (.seq (.ops [zV 8 0])
 (.block 0 (.loop fH)))
 (.seq (.ops [KM 88 12,
 zM 2 88])
 .ret))))))))⟩
def uV:AC:=(.seq (.ops [zR 28 (.bin .lss) 27 26])
 (.seq (.cond (.t 28)
 .skip
 (.exit 1))
 (.seq (.block 2 (.seq (.ops [zR 29 (.aB 3) 25 27,
 zO 30 3 29,
 ⟨some 4,none,.a (.alloc [zz,zz,(.str [])]),[]⟩,
 zS 3 [.t 4,.t 30]])
 (.block 3 (.seq (.ops [zF 32 4 0,
 zL 33 32,
 zF 34 4 1,
 zL 35 34,
 ⟨some 36,none,.a (.aY [zz] 2 1 [0,1]),[.t 33,.t 35]⟩,
 cE 37 23 36,
 zQ 38 .not 37,
 zM 31 38])
 (.cond (.t 31)
 (.seq (.ops [zV 2 2])
 .ret)
 (.seq (.ops [zF 40 4 2,
 zL 41 40,
 zQ 42 .lC 41,
 zP 43 (.bin .gtr) [.t 42,zI 16],
 zM 39 43])
 (.cond (.t 39)
 (.seq (.ops [zV 2 5])
 .ret)
 .skip)))))))
 (.ops [zP 44 (.bin .add) [.t 27,zI 1],
 zM 27 44]))))
def C7:aj:=⟨45,[.tmp 2],
 (.seq (.ops [zB 1 0,
 zV 2 0])
 (.seq (.block 0 (.seq (.ops [zF 6 1 0,
 zL 7 6,
 zF 8 1 1,
 zL 9 8,
 zF 10 1 2,
 zL 11 10,
 zF 12 1 3,
 zL 13 12,
 zF 14 1 4,
 zL 15 14,
 ⟨some 16,none,.a (.aY [zz] 5 1 [0,1,2,3,4]),[.t 7,.t 9,.t 11,.t 13,.t 15]⟩,
 cE 17 23 16,
 zQ 18 .not 17,
 zM 5 18])
 (.cond (.t 5)
 (.seq (.ops [zV 2 2])
 .ret)
 (.seq (.ops [zF 20 1 5,
 zL 21 20,
 zQ 22 .aV 21,
 zP 23 (.bin .gtr) [.t 22,zI 32],
 zM 19 23])
 (.cond (.t 19)
 (.seq (.ops [zV 2 5])
 .ret)
 .skip)))))
 (.seq (.seq (.ops [zF 24 1 5,
 zL 25 24,
 zQ 26 .aV 25,
 zV 27 0])
 (.block 1 (.loop uV)))
 (.seq (.ops [zV 2 0])
 .ret))))⟩
def lU:AC:=(.seq (.seq (.ops [zM 36 3,
 zF 37 1 5,
 zL 38 37,
 zQ 39 .aV 38,
 zR 40 (.bin .lss) 36 39])
 (.cond (.t 40)
 .skip
 (.exit 0)))
 (.seq (.block 1 (.seq (.seq (.ops [zF 43 1 5,
 zL 44 43,
 zM 45 3,
 zR 46 (.aB 3) 44 45,
 zF 47 46 0,
 zL 48 47,
 cE 49 24 48,
 zQ 50 .not 49,
 zM 51 50,
 c9 52 1 5 51 false,
 c7 53 52 51 false,
 cF 54 3 51 false,
 bL 55 (.aB 3) [.t 53,.t 54] 51 false,
 c9 56 55 1 51 false,
 c7 57 56 51 false,
 qt 58 24 [.t 57] 51 false,
 bL 59 .not [.t 58] 51 false,
 zP 60 .pick [.t 51,.c (.bool true),.t 59]])
 (.cond (.t 60)
 (.seq (.ops [zV 2 2])
 .ret)
 .skip))
 (.seq (.ops [zF 61 1 5,
 zL 62 61,
 zM 63 3,
 zR 64 (.aB 3) 62 63,
 zF 65 64 2,
 zL 66 65,
 zQ 67 .lC 66,
 zP 68 (.bin .gtr) [.t 67,zI 16]])
 (.cond (.t 68)
 (.seq (.ops [zV 2 5])
 .ret)
 .skip))))
 (.ops [zM 41 3,
 zP 42 (.bin .add) [.t 41,zI 1],
 zM 3 42])))
def C8:aj:=⟨69,[.tmp 2],
 (.seq (.ops [zB 1 0,
 zV 2 0])
 (.seq (.seq (.ops [zF 4 1 0,
 zL 5 4,
 cE 6 24 5,
 zQ 7 .not 6,
 zM 8 7,
 c9 9 1 1 8 false,
 c7 10 9 8 false,
 qt 11 24 [.t 10] 8 false,
 bL 12 .not [.t 11] 8 false,
 zP 13 .pick [.t 8,.c (.bool true),.t 12],
 zM 14 13,
 c9 15 1 2 14 false,
 c7 16 15 14 false,
 qt 17 24 [.t 16] 14 false,
 bL 18 .not [.t 17] 14 false,
 zP 19 .pick [.t 14,.c (.bool true),.t 18],
 zM 20 19,
 c9 21 1 3 20 false,
 c7 22 21 20 false,
 qt 23 24 [.t 22] 20 false,
 bL 24 .not [.t 23] 20 false,
 zP 25 .pick [.t 20,.c (.bool true),.t 24],
 zM 26 25,
 c9 27 1 4 26 false,
 c7 28 27 26 false,
 qt 29 24 [.t 28] 26 false,
 bL 30 .not [.t 29] 26 false,
 zP 31 .pick [.t 26,.c (.bool true),.t 30]])
 (.cond (.t 31)
 (.seq (.ops [zV 2 2])
 .ret)
 .skip))
 (.seq (.seq (.ops [zF 32 1 5,
 zL 33 32,
 zQ 34 .aV 33,
 zP 35 (.bin .gtr) [.t 34,zI 32]])
 (.cond (.t 35)
 (.seq (.ops [zV 2 5])
 .ret)
 .skip))
 (.seq (.seq (.ops [zV 3 0])
 (.block 0 (.loop lU)))
 (.seq (.ops [zV 2 0])
 .ret)))))⟩
def oE:AC:=(.seq (.ops [zR 11 (.bin .lss) 10 9])
 (.seq (.cond (.t 11)
 .skip
 (.exit 0))
 (.seq (.block 1 (.seq (.ops [zR 12 (.aB 6) 8 10,
 zO 13 6 12,
 ⟨some 5,none,.a (.alloc [zz,zz,zz,zz,zz,.az]),[]⟩,
 zS 6 [.t 5,.t 13]])
 (.seq (.seq (.ops [zO 14 6 5,
 cE 15 7 14,
 zM 6 15])
 (.seq (.ops [zM 16 6,
 zP 17 (.bin .neq) [.t 16,zI 0]])
 (.cond (.t 17)
 (.seq (.ops [zM 18 6,
 zK 2 .az,
 zM 3 18])
 .ret)
 .skip)))
 (.seq (.ops [zO 19 6 5,
 cE 20 25 19,
 zM 7 20])
 (.seq (.ops [zM 22 2,
 zM 23 7,
 zQ 24 .aV 23,
 ⟨some 25,none,.a (.aY [zz] 1 1 [0]),[.t 24]⟩,
 fF 26 26 22 25,
 zM 21 26,
 zQ 27 (.ext 0) 21,
 zQ 28 (.ext 1) 21,
 zM 2 27])
 (.ops [zM 29 2,
 zM 30 7,
 zA 31 1 1 29 30,
 zM 2 31]))))))
 (.ops [zP 32 (.bin .add) [.t 10,zI 1],
 zM 10 32]))))
def C9:aj:=⟨34,[.tmp 2,.tmp 3],
 (.seq (.ops [zK 2 .az,
 zV 3 0])
 (.seq (.seq (.ops [zM 8 0,
 zQ 9 .aV 8,
 zV 10 0])
 (.block 0 (.loop oE)))
 (.seq (.ops [zM 33 2,
 zM 2 33,
 zV 3 0])
 .ret)))⟩
def ij:AC:=(.seq (.seq (.ops [zM 8 5,
 zM 9 0,
 zQ 10 .aV 9,
 zR 11 (.bin .lss) 8 10])
 (.cond (.t 11)
 .skip
 (.exit 0)))
 (.seq (.block 1 (.seq (.seq (.ops [zM 14 0,
 zM 15 5,
 zR 16 (.aB 6) 14 15,
 zO 17 6 16,
 cE 18 8 17,
 zM 6 18])
 (.seq (.ops [zM 19 6,
 zP 20 (.bin .neq) [.t 19,zI 0]])
 (.cond (.t 20)
 (.seq (.ops [zM 21 6,
 zK 2 .az,
 zM 3 21])
 .ret)
 .skip)))
 (.seq (.ops [zM 22 0,
 zM 23 5,
 zR 24 (.aB 6) 22 23,
 zO 25 6 24,
 cE 26 27 25,
 zM 7 26])
 (.seq (.ops [zM 28 4,
 zM 29 7,
 zQ 30 .aV 29,
 ⟨some 31,none,.a (.aY [zz] 1 1 [0]),[.t 30]⟩,
 fF 32 28 28 31,
 zM 27 32,
 zQ 33 (.ext 0) 27,
 zQ 34 (.ext 1) 27,
 zM 4 33])
 (.ops [zM 35 4,
 zM 36 7,
 zA 37 1 1 35 36,
 zM 4 37])))))
 (.ops [zM 12 5,
 zP 13 (.bin .add) [.t 12,zI 1],
 zM 5 13])))
def S1:aj:=⟨39,[.tmp 2,.tmp 3],
 (.seq (.ops [zK 2 .az,
 zV 3 0])
 (.seq (.ops [zK 4 .az])
 (.seq (.seq (.ops [zV 5 0])
 (.block 0 (.loop ij)))
 (.seq (.ops [zM 38 4,
 zM 2 38,
 zV 3 0])
 .ret))))⟩
def S2:aj:=⟨10,[.tmp 4],
 (.seq (.ops [zK 4 (.bool false)])
 (.seq (.ops [zM 5 0,
 ⟨some 6,none,.r .toStr,[.t 5]⟩,
 zM 7 1,
 ⟨some 8,none,.r .toStr,[.t 7]⟩,
 zR 9 (.bin .eql) 6 8,
 zM 4 9])
 .ret))⟩
def Uz:aj:=⟨124,[.tmp 0],
 (.seq (.ops [zK 0 (.bool false)])
 (.seq (.ops [zP 12 (.build [zz,zz,zz,zz,zz,.az] [(0,1),(3,1)]) [zI 1,zI 5],
 zP 13 (.build [zz,zz,(.str [])] [(0,1),(1,1)]) [zI 1,zI 2],
 ⟨some 14,none,.a (.aY [zz,zz,(.str [])] 1 3 [0]),[.t 13]⟩,
 zP 15 (.build [zz,zz,zz,zz,zz,.az] [(0,1),(1,1),(5,1)]) [zI 2,zI 1,.t 14],
 ⟨some 16,none,.a (.aY [zz,zz,zz,zz,zz,.az] 2 6 [0,1]),[.t 12,.t 15]⟩,
 cE 17 9 16,
 zM 11 17,
 zQ 18 (.ext 0) 11,
 zQ 19 (.ext 1) 11,
 zM 1 18,
 zM 2 19])
 (.seq (.ops [⟨some 21,none,.a (.aY [(.int .u8 0)] 10 1 [0,1,2,3,4,5,6,7,8,9]),[.c (.int .u8 6),.c (.int .u8 1),.c (.int .u8 0),.c (.int .u8 0),.c (.int .u8 5),.c (.int .u8 0),.c (.int .u8 0),.c (.int .u8 1),.c (.int .u8 7),.c (.int .u8 2)]⟩,
 cE 22 14 21,
 zM 20 22,
 zQ 23 (.ext 0) 20,
 zQ 24 (.ext 1) 20,
 zM 3 23,
 zM 4 24])
 (.seq (.ops [KM 26 29,
 ⟨some 27,none,.a (.aY [(.int .u8 0)] 16 1 [0,1,2,3,4,5,6,7,8,9,10,11,12,13,14,15]),[.c (.int .u8 6),.c (.int .u8 3),.c (.int .u8 0),.c (.int .u8 0),.c (.int .u8 0),.c (.int .u8 0),.c (.int .u8 0),.c (.int .u8 1),.c (.int .u8 7),.c (.int .u8 6),.c (.int .u8 1),.c (.int .u8 0),.c (.int .u8 0),.c (.int .u8 3),.c (.int .u8 0),.c (.int .u8 0)]⟩,
 fF 28 22 26 27,
 zM 25 28,
 zQ 29 (.ext 0) 25,
 zQ 30 (.ext 1) 25,
 zQ 31 (.ext 2) 25,
 zM 5 29,
 zM 6 30,
 zM 7 31])
 (.seq (.ops [zM 32 2,
 zP 33 (.bin .eql) [.t 32,zI 0],
 zM 34 33,
 cF 35 1 34 true,
 ⟨some 36,some (34,true),.a (.aY [(.int .u8 0)] 17 1 [0,1,2,3,4,5,6,7,8,9,10,11,12,13,14,15,16]),[.c (.int .u8 6),.c (.int .u8 1),.c (.int .u8 0),.c (.int .u8 0),.c (.int .u8 5),.c (.int .u8 0),.c (.int .u8 0),.c (.int .u8 9),.c (.int .u8 2),.c (.int .u8 1),.c (.int .u8 0),.c (.int .u8 0),.c (.int .u8 0),.c (.int .u8 1),.c (.int .u8 1),.c (.int .u8 2),.c (.int .u8 0)]⟩,
 qt 37 11 [.t 35,.t 36] 34 true,
 zP 38 .pick [.t 34,.t 37,.c (.bool false)],
 zM 8 38])
 (.seq (.ops [zM 39 4,
 zP 40 (.bin .eql) [.t 39,zI 3],
 zM 41 40,
 cF 42 3 41 true,
 bL 43 .aV [.t 42] 41 true,
 bL 44 (.bin .eql) [.t 43,zI 2] 41 true,
 zP 45 .pick [.t 41,.t 44,.c (.bool false)],
 zM 46 45,
 cF 47 3 46 true,
 bL 48 (.aB 7) [.t 47,zI 0] 46 true,
 c9 49 48 6 46 true,
 c7 50 49 46 true,
 bL 51 (.bin .eql) [.t 50,zI 0] 46 true,
 zP 52 .pick [.t 46,.t 51,.c (.bool false)],
 zM 53 52,
 cF 54 3 53 true,
 bL 55 (.aB 7) [.t 54,zI 0] 53 true,
 c9 56 55 0 53 true,
 c9 57 56 0 53 true,
 c7 58 57 53 true,
 bL 59 (.bin .eql) [.t 58,zI 1] 53 true,
 zP 60 .pick [.t 53,.t 59,.c (.bool false)],
 zM 61 60,
 cF 62 3 61 true,
 bL 63 (.aB 7) [.t 62,zI 0] 61 true,
 c9 64 63 0 61 true,
 c9 65 64 3 61 true,
 c7 66 65 61 true,
 bL 67 (.bin .eql) [.t 66,zI 5] 61 true,
 zP 68 .pick [.t 61,.t 67,.c (.bool false)],
 zM 69 68,
 cF 70 3 69 true,
 bL 71 (.aB 7) [.t 70,zI 1] 69 true,
 c9 72 71 6 69 true,
 c7 73 72 69 true,
 bL 74 (.bin .eql) [.t 73,zI 3] 69 true,
 zP 75 .pick [.t 69,.t 74,.c (.bool false)],
 zM 76 75,
 cF 77 3 76 true,
 bL 78 (.aB 7) [.t 77,zI 1] 76 true,
 c9 79 78 0 76 true,
 c9 80 79 0 76 true,
 c7 81 80 76 true,
 bL 82 (.bin .eql) [.t 81,zI 0] 76 true,
 zP 83 .pick [.t 76,.t 82,.c (.bool false)],
 zM 9 83])
 (.seq (.ops [zM 84 7,
 zP 85 (.bin .eql) [.t 84,zI 0],
 zM 86 85,
 cF 87 6 86 true,
 bL 88 .aV [.t 87] 86 true,
 bL 89 (.bin .eql) [.t 88,zI 3] 86 true,
 zP 90 .pick [.t 86,.t 89,.c (.bool false)],
 zM 91 90,
 cF 92 6 91 true,
 bL 93 (.aB 1) [.t 92,zI 0] 91 true,
 c7 94 93 91 true,
 bL 95 (.bin .eql) [.t 94,zI 0] 91 true,
 zP 96 .pick [.t 91,.t 95,.c (.bool false)],
 zM 97 96,
 cF 98 6 97 true,
 bL 99 (.aB 1) [.t 98,zI 1] 97 true,
 c7 100 99 97 true,
 bL 101 (.bin .eql) [.t 100,zI 3] 97 true,
 zP 102 .pick [.t 97,.t 101,.c (.bool false)],
 zM 103 102,
 cF 104 6 103 true,
 bL 105 (.aB 1) [.t 104,zI 2] 103 true,
 c7 106 105 103 true,
 bL 107 (.bin .eql) [.t 106,zI 0] 103 true,
 zP 108 .pick [.t 103,.t 107,.c (.bool false)],
 zM 10 108])
 (.seq (.ops [zM 109 8,
 zM 110 109,
 cF 111 9 110 true,
 zP 112 .pick [.t 110,.t 111,.c (.bool false)],
 zM 113 112,
 cF 114 10 113 true,
 zP 115 .pick [.t 113,.t 114,.c (.bool false)],
 zM 116 115,
 cF 117 5 116 true,
 bL 118 (.build [zz,zz,zz,zz,zz,zz,(.str [])] [(1,1)]) [zI 6] 116 true,
 bL 119 (.build [zz,zz,zz,zz,zz,zz,(.str [])] [(1,1),(3,1)]) [zI 1,zI (-1)] 116 true,
 bL 120 (.build [zz,zz,zz,zz,zz,zz,(.str [])] [(0,1),(1,1),(3,1)]) [zI 1,zI 1,zI (-1)] 116 true,
 ⟨some 121,some (116,true),.a (.aY [zz,zz,zz,zz,zz,zz,(.str [])] 3 7 [0,1,2]),[.t 118,.t 119,.t 120]⟩,
 qt 122 30 [.t 117,.t 121] 116 true,
 zP 123 .pick [.t 116,.t 122,.c (.bool false)],
 zM 0 123])
 .ret))))))))⟩
def QB:aj:=⟨7,[.tmp 2],
 (.seq (.ops [zK 2 .az])
 (.seq (.ops [zK 3 .az])
 (.seq (.ops [zM 4 3,
 zM 5 0,
 zA 6 1 1 4 5,
 zM 2 6])
 .ret)))⟩
def oF:AC:=(.seq (.seq (.ops [zM 7 0,
 zQ 8 .aV 7,
 zP 9 (.bin .gtr) [.t 8,zI 0]])
 (.cond (.t 9)
 .skip
 (.exit 0)))
 (.block 1 (.seq (.ops [zM 10 0,
 cE 11 31 10,
 zM 4 11])
 (.seq (.ops [zM 12 4,
 zC 13 32 [.t 12,zI 4096],
 zM 5 13])
 (.seq (.seq (.ops [zM 14 4,
 cE 15 33 14,
 zM 6 15])
 (.seq (.ops [zM 16 6,
 zP 17 (.bin .neq) [.t 16,zI 0]])
 (.cond (.t 17)
 (.seq (.ops [zM 18 2,
 zM 19 6,
 zM 2 18,
 zM 3 19])
 .ret)
 .skip)))
 (.seq (.seq (.ops [zM 20 5,
 zM 21 4,
 cE 22 34 21,
 zR 23 (.bin .gtr) 20 22])
 (.cond (.t 23)
 (.seq (.ops [zM 24 2,
 zM 2 24,
 zV 3 3])
 .ret)
 .skip))
 (.seq (.ops [zM 25 0,
 zM 26 0,
 zQ 27 .aV 26,
 zM 28 4,
 cE 29 34 28,
 zR 30 (.bin .sub) 27 29,
 zR 31 (.slice 1 true false false) 25 30,
 zM 0 31])
 (.seq (.ops [zM 32 2,
 zM 33 0,
 zM 34 5,
 zR 35 (.slice 1 false true false) 33 34,
 cE 36 35 35,
 ⟨some 37,none,.a (.aY [zz,zz,zz,zz,zz,.az,zz] 1 7 [0]),[.t 36]⟩,
 zA 38 7 72 32 37,
 zM 2 38])
 (.ops [zM 39 0,
 zM 40 5,
 zR 41 (.slice 1 true false false) 39 40,
 zM 0 41])))))))))
def S3:aj:=⟨43,[.tmp 2,.tmp 3],
 (.seq (.ops [zK 2 .az,
 zV 3 0])
 (.seq (.block 0 (.loop oF))
 (.seq (.ops [zM 42 2,
 zM 2 42,
 zV 3 0])
 .ret)))⟩
def iq:AC:=(.seq (.seq (.ops [zM 8 0,
 zQ 9 .aV 8,
 zP 10 (.bin .gtr) [.t 9,zI 0]])
 (.cond (.t 10)
 .skip
 (.exit 0)))
 (.block 1 (.seq (.ops [zM 12 0,
 cE 13 36 12,
 zM 11 13,
 zQ 14 (.ext 0) 11,
 zQ 15 (.ext 1) 11,
 zQ 16 (.ext 2) 11,
 zM 5 14,
 zM 6 15,
 zM 7 16])
 (.seq (.seq (.ops [zM 17 7,
 zP 18 (.bin .neq) [.t 17,zI 0]])
 (.cond (.t 18)
 (.seq (.ops [zM 19 4,
 zM 20 7,
 zM 2 19,
 zM 3 20])
 .ret)
 .skip))
 (.seq (.ops [zM 21 4,
 zM 22 0,
 zM 23 6,
 zM 24 6,
 zM 25 5,
 zR 26 (.bin .add) 24 25,
 zP 27 (.slice 1 true true false) [.t 22,.t 23,.t 26],
 cE 28 37 27,
 ⟨some 29,none,.a (.aY [zz,zz,zz,zz,zz,.az,zz] 1 7 [0]),[.t 28]⟩,
 zA 30 7 72 21 29,
 zM 4 30])
 (.ops [zM 31 0,
 zM 32 6,
 zM 33 5,
 zR 34 (.bin .add) 32 33,
 zR 35 (.slice 1 true false false) 31 34,
 zM 0 35]))))))
def S4:aj:=⟨37,[.tmp 2,.tmp 3],
 (.seq (.ops [zK 2 .az,
 zV 3 0])
 (.seq (.ops [zK 4 .az])
 (.seq (.block 0 (.loop iq))
 (.seq (.ops [zM 36 4,
 zM 2 36,
 zV 3 0])
 .ret))))⟩
def iD:AC:=(.seq (.seq (.ops [zM 11 5,
 zM 12 0,
 zQ 13 .aV 12,
 zR 14 (.bin .lss) 11 13])
 (.cond (.t 14)
 .skip
 (.exit 0)))
 (.seq (.block 1 (.seq (.bI [zM 17 0,
 zM 18 5,
 zR 19 (.aB 7) 17 18,
 zF 20 19 6,
 zL 21 20,
 zM 22 1,
 zM 23 5,
 zR 24 (.aB 7) 22 23,
 zF 25 24 6,
 zL 26 25,
 zR 27 (.bin .neq) 21 26,
 zM 28 27,
 cF 29 0 28 false,
 cF 30 5 28 false,
 bL 31 (.aB 7) [.t 29,.t 30] 28 false,
 c9 32 31 0 28 false,
 ⟨some 33,some (28,false),.r (.bt 6),[.t 32]⟩,
 cF 34 1 28 false,
 cF 35 5 28 false,
 bL 36 (.aB 7) [.t 34,.t 35] 28 false,
 c9 37 36 0 28 false,
 ⟨some 38,some (28,false),.r (.bt 6),[.t 37]⟩,
 qt 39 19 [.t 33,.t 38] 28 false,
 bL 40 .not [.t 39] 28 false,
 zP 41 .pick [.t 28,.c (.bool true),.t 40]] [[],[],[],[],[],[],[],[],[],[],[],[],[],[],[],[],[],[],[],[],[],[],[],[],[]])
 (.cond (.t 41)
 (.seq (.ops [zK 4 (.bool false)])
 .ret)
 .skip)))
 (.ops [zM 15 5,
 zP 16 (.bin .add) [.t 15,zI 1],
 zM 5 16])))
def S6:aj:=⟨42,[.tmp 4],
 (.seq (.ops [zK 4 (.bool false)])
 (.seq (.seq (.ops [zM 6 0,
 zQ 7 .aV 6,
 zM 8 1,
 zQ 9 .aV 8,
 zR 10 (.bin .neq) 7 9])
 (.cond (.t 10)
 (.seq (.ops [zK 4 (.bool false)])
 .ret)
 .skip))
 (.seq (.seq (.ops [zV 5 0])
 (.block 0 (.loop iD)))
 (.seq (.ops [zK 4 (.bool true)])
 .ret))))⟩
def mj:AC:=(.seq (.ops [zR 9 (.bin .lss) 8 7])
 (.seq (.cond (.t 9)
 .skip
 (.exit 0))
 (.seq (.block 1 (.seq (.ops [zR 10 (.aB 7) 6 8,
 zO 11 7 10,
 ⟨some 4,none,.a (.alloc [zz,zz,zz,zz,zz,.az,zz]),[]⟩,
 zS 7 [.t 4,.t 11]])
 (.seq (.ops [zF 12 4 6,
 zL 13 12,
 zP 14 (.bin .eql) [.t 13,zI 0]])
 (.cond (.t 14)
 (.seq (.ops [zF 15 4 0,
 zO 16 6 15,
 ⟨some 5,none,.a (.alloc [zz,zz,zz,zz,zz,.az]),[]⟩,
 zS 6 [.t 5,.t 16]])
 (.seq (.ops [zF 17 5 5,
 zL 18 17,
 cE 19 38 18,
 zF 20 5 5,
 zS 1 [.t 20,.t 19]])
 (.ops [zM 21 2,
 zO 22 6 5,
 ⟨some 23,none,.a (.aY [zz,zz,zz,zz,zz,.az] 1 6 [0]),[.t 22]⟩,
 zA 24 6 64 21 23,
 zM 2 24])))
 .skip))))
 (.ops [zP 25 (.bin .add) [.t 8,zI 1],
 zM 8 25]))))
def QC:aj:=⟨27,[.tmp 2],
 (.seq (.ops [zK 2 .az])
 (.seq (.seq (.ops [zM 6 0,
 zQ 7 .aV 6,
 zV 8 0])
 (.block 0 (.loop mj)))
 (.seq (.ops [zM 26 2,
 zM 2 26])
 .ret)))⟩
def iC:AC:=(.seq (.seq (.ops [zM 7 4,
 zM 8 0,
 zQ 9 .aV 8,
 zR 10 (.bin .lss) 7 9])
 (.cond (.t 10)
 .skip
 (.exit 0)))
 (.seq (.block 1 (.seq (.ops [zM 13 0,
 zM 14 4,
 zR 15 (.aB 7) 13 14,
 zF 16 15 6,
 zL 17 16,
 zP 18 (.bin .eql) [.t 17,zI 0]])
 (.cond (.t 18)
 (.seq (.ops [zM 19 0,
 zM 20 4,
 zR 21 (.aB 7) 19 20,
 zF 22 21 0,
 zO 23 6 22,
 ⟨some 5,none,.a (.alloc [zz,zz,zz,zz,zz,.az]),[]⟩,
 zS 6 [.t 5,.t 23]])
 (.seq (.ops [zK 6 .az])
 (.seq (.ops [zM 24 6,
 zF 25 5 5,
 zL 26 25,
 zA 27 3 32 24 26,
 zF 28 5 5,
 zS 1 [.t 28,.t 27]])
 (.ops [zM 29 3,
 zO 30 6 5,
 ⟨some 31,none,.a (.aY [zz,zz,zz,zz,zz,.az] 1 6 [0]),[.t 30]⟩,
 zA 32 6 64 29 31,
 zM 3 32]))))
 .skip)))
 (.ops [zM 11 4,
 zP 12 (.bin .add) [.t 11,zI 1],
 zM 4 12])))
def S7:aj:=⟨34,[.tmp 2],
 (.seq (.ops [zK 2 .az])
 (.seq (.ops [zK 3 .az])
 (.seq (.seq (.ops [zV 4 0])
 (.block 0 (.loop iC)))
 (.seq (.ops [zM 33 3,
 zM 2 33])
 .ret))))⟩
def fY:AC:=(.seq (.seq (.ops [zM 48 5,
 zF 49 2 5,
 zL 50 49,
 zQ 51 .aV 50,
 zR 52 (.bin .lss) 48 51])
 (.cond (.t 52)
 .skip
 (.exit 0)))
 (.seq (.block 1 (.seq (.bI [zF 55 2 5,
 zL 56 55,
 zM 57 5,
 zR 58 (.aB 3) 56 57,
 zO 59 3 58,
 zF 60 3 5,
 zL 61 60,
 zM 62 5,
 zR 63 (.aB 3) 61 62,
 zO 64 3 63,
 zR 65 (.neq (.cells [0,0,2])) 59 64] [[],[],[],[],[],[],[],[],[],[],[]])
 (.cond (.t 65)
 (.seq (.ops [zK 4 (.bool false)])
 .ret)
 .skip)))
 (.ops [zM 53 5,
 zP 54 (.bin .add) [.t 53,zI 1],
 zM 5 54])))
def S8:aj:=⟨66,[.tmp 4],
 (.seq (.ops [zB 2 0,
 zB 3 1,
 zK 4 (.bool false)])
 (.seq (.seq (.ops [zF 6 2 0,
 zL 7 6,
 zF 8 3 0,
 zL 9 8,
 zR 10 (.bin .neq) 7 9,
 zM 11 10,
 c9 12 2 1 11 false,
 c7 13 12 11 false,
 c9 14 3 1 11 false,
 c7 15 14 11 false,
 bL 16 (.bin .neq) [.t 13,.t 15] 11 false,
 zP 17 .pick [.t 11,.c (.bool true),.t 16],
 zM 18 17,
 c9 19 2 2 18 false,
 c7 20 19 18 false,
 c9 21 3 2 18 false,
 c7 22 21 18 false,
 bL 23 (.bin .neq) [.t 20,.t 22] 18 false,
 zP 24 .pick [.t 18,.c (.bool true),.t 23],
 zM 25 24,
 c9 26 2 3 25 false,
 c7 27 26 25 false,
 c9 28 3 3 25 false,
 c7 29 28 25 false,
 bL 30 (.bin .neq) [.t 27,.t 29] 25 false,
 zP 31 .pick [.t 25,.c (.bool true),.t 30],
 zM 32 31,
 c9 33 2 4 32 false,
 c7 34 33 32 false,
 c9 35 3 4 32 false,
 c7 36 35 32 false,
 bL 37 (.bin .neq) [.t 34,.t 36] 32 false,
 zP 38 .pick [.t 32,.c (.bool true),.t 37],
 zM 39 38,
 c9 40 2 5 39 false,
 c7 41 40 39 false,
 bL 42 .aV [.t 41] 39 false,
 c9 43 3 5 39 false,
 c7 44 43 39 false,
 bL 45 .aV [.t 44] 39 false,
 bL 46 (.bin .neq) [.t 42,.t 45] 39 false,
 zP 47 .pick [.t 39,.c (.bool true),.t 46]])
 (.cond (.t 47)
 (.seq (.ops [zK 4 (.bool false)])
 .ret)
 .skip))
 (.seq (.seq (.ops [zV 5 0])
 (.block 0 (.loop fY)))
 (.seq (.ops [zK 4 (.bool true)])
 .ret))))⟩
def fX:AC:=(.seq (.seq (.ops [zM 39 7,
 zF 40 5 5,
 zL 41 40,
 zQ 42 .aV 41,
 zR 43 (.bin .lss) 39 42,
 zM 44 43,
 cF 45 7 44 true,
 bL 46 (.bin .lss) [.t 45,zI 32] 44 true,
 zP 47 .pick [.t 44,.t 46,.c (.bool false)]])
 (.cond (.t 47)
 .skip
 (.exit 2)))
 (.seq (.block 3 (.seq (.ops [zF 50 5 5,
 zL 51 50,
 zM 52 7,
 zR 53 (.aB 3) 51 52,
 zO 54 3 53,
 ⟨some 8,none,.a (.alloc [zz,zz,(.str [])]),[]⟩,
 zS 3 [.t 8,.t 54]])
 (.bI [zF 55 6 5,
 zL 56 55,
 zF 57 8 0,
 zL 58 57,
 zC 59 39 [.t 58,zI 9007199254740991],
 zF 60 8 1,
 zL 61 60,
 zC 62 39 [.t 61,zI 9007199254740991],
 zF 63 8 2,
 zL 64 63,
 zF 65 8 2,
 zL 66 65,
 zQ 67 .lC 66,
 zP 68 .mn [.t 67,zI 16],
 zR 69 (.gN false true) 64 68,
 zP 70 (.build [zz,zz,(.str [])] [(0,1),(1,1),(2,1)]) [.t 59,.t 62,.t 69],
 ⟨some 71,none,.a (.aY [zz,zz,(.str [])] 1 3 [0]),[.t 70]⟩,
 zA 72 3 32 56 71,
 zF 73 6 5,
 zS 1 [.t 73,.t 72]] [[],[0,5,8],[],[],[],[],[0,5],[],[],[0,5,8],[],[0,5,8],[],[],[],[],[],[],[],[]])))
 (.ops [zM 48 7,
 zP 49 (.bin .add) [.t 48,zI 1],
 zM 7 49])))
def fW:AC:=(.seq (.seq (.ops [zM 9 4,
 zM 10 0,
 zQ 11 .aV 10,
 zR 12 (.bin .lss) 9 11,
 zM 13 12,
 cF 14 4 13 true,
 bL 15 (.bin .lss) [.t 14,zI 40] 13 true,
 zP 16 .pick [.t 13,.t 15,.c (.bool false)]])
 (.cond (.t 16)
 .skip
 (.exit 0)))
 (.seq (.block 1 (.seq (.ops [zM 19 0,
 zM 20 4,
 zR 21 (.aB 6) 19 20,
 zO 22 6 21,
 ⟨some 5,none,.a (.alloc [zz,zz,zz,zz,zz,.az]),[]⟩,
 zS 6 [.t 5,.t 22]])
 (.seq (.bI [zF 23 5 0,
 zL 24 23,
 zC 25 39 [.t 24,zI 9007199254740991],
 zF 26 5 1,
 zL 27 26,
 zC 28 39 [.t 27,zI 9007199254740991],
 zF 29 5 2,
 zL 30 29,
 zC 31 39 [.t 30,zI 9007199254740991],
 zF 32 5 3,
 zL 33 32,
 zC 34 39 [.t 33,zI 9007199254740991],
 zF 35 5 4,
 zL 36 35,
 zC 37 39 [.t 36,zI 9007199254740991],
 zP 38 (.build [zz,zz,zz,zz,zz,.az] [(0,1),(1,1),(2,1),(3,1),(4,1)]) [.t 25,.t 28,.t 31,.t 34,.t 37],
 ⟨some 6,none,.a (.alloc [zz,zz,zz,zz,zz,.az]),[]⟩,
 zS 6 [.t 6,.t 38]] [[],[],[],[],[0,3],[],[],[0,3,6],[],[],[0,3,6,9],[],[],[0,3,6,9,12],[],[],[],[]])
 (.seq (.seq (.ops [zV 7 0])
 (.block 2 (.loop fX)))
 (.ops [zM 74 3,
 zO 75 6 6,
 ⟨some 76,none,.a (.aY [zz,zz,zz,zz,zz,.az] 1 6 [0]),[.t 75]⟩,
 zA 77 6 64 74 76,
 zM 3 77])))))
 (.ops [zM 17 4,
 zP 18 (.bin .add) [.t 17,zI 1],
 zM 4 18])))
def S9:aj:=⟨79,[.tmp 2],
 (.seq (.ops [zK 2 .az])
 (.seq (.ops [zK 3 .az])
 (.seq (.seq (.ops [zV 4 0])
 (.block 0 (.loop fW)))
 (.seq (.ops [zM 78 3,
 zM 2 78])
 .ret))))⟩
def fU:AC:=(.seq (.seq (.ops [zM 48 5,
 zF 49 2 5,
 zL 50 49,
 zQ 51 .aV 50,
 zR 52 (.bin .lss) 48 51])
 (.cond (.t 52)
 .skip
 (.exit 0)))
 (.seq (.block 1 (.seq (.bI [zF 55 2 5,
 zL 56 55,
 zM 57 5,
 zR 58 (.aB 3) 56 57,
 zO 59 3 58,
 zF 60 3 5,
 zL 61 60,
 zM 62 5,
 zR 63 (.aB 3) 61 62,
 zO 64 3 63,
 zR 65 (.neq (.cells [0,0,2])) 59 64] [[],[],[],[],[],[],[],[],[],[],[]])
 (.cond (.t 65)
 (.seq (.ops [zK 4 (.bool false)])
 .ret)
 .skip)))
 (.ops [zM 53 5,
 zP 54 (.bin .add) [.t 53,zI 1],
 zM 5 54])))
def Ta:aj:=⟨66,[.tmp 4],
 (.seq (.ops [zB 2 0,
 zB 3 1,
 zK 4 (.bool false)])
 (.seq (.seq (.ops [zF 6 2 0,
 zL 7 6,
 zF 8 3 0,
 zL 9 8,
 zR 10 (.bin .neq) 7 9,
 zM 11 10,
 c9 12 2 1 11 false,
 c7 13 12 11 false,
 c9 14 3 1 11 false,
 c7 15 14 11 false,
 bL 16 (.bin .neq) [.t 13,.t 15] 11 false,
 zP 17 .pick [.t 11,.c (.bool true),.t 16],
 zM 18 17,
 c9 19 2 2 18 false,
 c7 20 19 18 false,
 c9 21 3 2 18 false,
 c7 22 21 18 false,
 bL 23 (.bin .neq) [.t 20,.t 22] 18 false,
 zP 24 .pick [.t 18,.c (.bool true),.t 23],
 zM 25 24,
 c9 26 2 3 25 false,
 c7 27 26 25 false,
 c9 28 3 3 25 false,
 c7 29 28 25 false,
 bL 30 (.bin .neq) [.t 27,.t 29] 25 false,
 zP 31 .pick [.t 25,.c (.bool true),.t 30],
 zM 32 31,
 c9 33 2 4 32 false,
 c7 34 33 32 false,
 c9 35 3 4 32 false,
 c7 36 35 32 false,
 bL 37 (.bin .neq) [.t 34,.t 36] 32 false,
 zP 38 .pick [.t 32,.c (.bool true),.t 37],
 zM 39 38,
 c9 40 2 5 39 false,
 c7 41 40 39 false,
 bL 42 .aV [.t 41] 39 false,
 c9 43 3 5 39 false,
 c7 44 43 39 false,
 bL 45 .aV [.t 44] 39 false,
 bL 46 (.bin .neq) [.t 42,.t 45] 39 false,
 zP 47 .pick [.t 39,.c (.bool true),.t 46]])
 (.cond (.t 47)
 (.seq (.ops [zK 4 (.bool false)])
 .ret)
 .skip))
 (.seq (.seq (.ops [zV 5 0])
 (.block 0 (.loop fU)))
 (.seq (.ops [zK 4 (.bool true)])
 .ret))))⟩
def w9:AC:=(.seq (.ops [zR 29 (.bin .lss) 28 27])
 (.seq (.cond (.t 29)
 .skip
 (.exit 0))
 (.seq (.block 1 (.seq (.ops [zR 30 (.aB 7) 26 28,
 zO 31 7 30,
 ⟨some 11,none,.a (.alloc [zz,zz,zz,zz,zz,.az,zz]),[]⟩,
 zS 7 [.t 11,.t 31]])
 (.seq (.ops [zF 32 11 6,
 zL 33 32,
 zM 12 33])
 (.seq (.seq (.ops [zM 34 12,
 zP 35 (.bin .eql) [.t 34,zI 0]])
 (.cond (.t 35)
 (.ops [zM 36 7,
 zF 37 11 0,
 zO 38 6 37,
 fF 39 41 36 38,
 zM 12 39])
 .skip))
 (.ops [zM 40 5,
 zM 41 12,
 ⟨some 42,none,.a (.aY [zz] 1 1 [0]),[.t 41]⟩,
 zA 43 1 8 40 42,
 zM 5 43])))))
 (.ops [zP 44 (.bin .add) [.t 28,zI 1],
 zM 28 44]))))
def UA:aj:=⟨49,[.tmp 4,.tmp 5,.tmp 6],
 (.seq (.ops [zB 2 0,
 zK 4 .az,
 zK 5 .az,
 zV 6 0])
 (.seq (.ops [zO 14 2 2,
 cE 15 40 14,
 zM 13 15,
 zQ 16 (.ext 0) 13,
 zQ 17 (.ext 1) 13,
 zM 7 16,
 zM 6 17])
 (.seq (.seq (.ops [zM 18 6,
 zP 19 (.bin .neq) [.t 18,zI 0]])
 (.cond (.t 19)
 (.seq (.ops [zM 20 6,
 zK 4 .az,
 zK 5 .az,
 zM 6 20])
 .ret)
 .skip))
 (.seq (.ops [zM 22 1,
 cE 23 14 22,
 zM 21 23,
 zQ 24 (.ext 0) 21,
 zQ 25 (.ext 1) 21,
 zM 8 24,
 zM 9 25])
 (.seq (.seq (.ops [zM 26 8,
 zQ 27 .aV 26,
 zV 28 0])
 (.block 0 (.loop w9)))
 (.seq (.ops [zM 45 7,
 cE 46 42 45,
 zM 47 5,
 zM 48 9,
 zM 4 46,
 zM 5 47,
 zM 6 48])
 .ret))))))⟩
def Tb:aj:=⟨6,[.tmp 2],
 (.seq (.ops [zK 2 (.bool false)])
 (.seq (.ops [zM 3 0,
 zC 4 43 [.t 3,.c (.func (.func 44) [] [])],
 zQ 5 .not 4,
 zM 2 5])
 .ret))⟩
def Tc:aj:=⟨9,[.tmp 2],
 (.seq (.ops [zK 2 (.bool false)])
 (.seq (.ops [zM 3 0,
 zP 4 (.bin .geq) [.t 3,zI 0],
 zM 5 4,
 cF 6 0 5 true,
 bL 7 (.bin .leq) [.t 6,zI 9007199254740991] 5 true,
 zP 8 .pick [.t 5,.t 7,.c (.bool false)],
 zM 2 8])
 .ret))⟩
def aZ:AC:=(.ops [zM 3 7])
def bf:AC:=(.block 1 (.bI [zL 9 2,
 zM 10 3,
 zN 11 10,
 zL 12 11,
 ⟨some 13,none,.a (.aY [zz] 1 1 [0]),[.t 12]⟩,
 fF 14 26 9 13,
 zM 8 14,
 zQ 15 (.ext 0) 8,
 zQ 16 (.ext 1) 8,
 zS 1 [.t 2,.t 15]] [[],[],[],[],[],[],[],[],[],[]]))
def oG:AC:=(.seq (.ops [zR 30 (.bin .lss) 29 28])
 (.seq (.cond (.t 30)
 .skip
 (.exit 2))
 (.seq (.block 3 (.seq (.ops [zR 31 (.aB 3) 27 29,
 zO 32 3 31,
 ⟨some 5,none,.a (.alloc [zz,zz,(.str [])]),[]⟩,
 zS 3 [.t 5,.t 32]])
 (.seq (.ops [zL 34 2,
 zF 35 5 0,
 zL 36 35,
 zF 37 5 1,
 zL 38 37,
 ⟨some 39,none,.a (.aY [zz] 2 1 [0,1]),[.t 36,.t 38]⟩,
 fF 40 26 34 39,
 zM 33 40,
 zQ 41 (.ext 0) 33,
 zQ 42 (.ext 1) 33,
 zS 1 [.t 2,.t 41]])
 (.ops [zL 44 2,
 zF 45 5 2,
 zL 46 45,
 fF 47 46 44 46,
 zM 43 47,
 zQ 48 (.ext 0) 43,
 zQ 49 (.ext 1) 43,
 zS 1 [.t 2,.t 48]]))))
 (.ops [zP 50 (.bin .add) [.t 29,zI 1],
 zM 29 50]))))
def Td:aj:=⟨52,[.cell 2 1 false],
 (.seq (.ops [zB 1 0,
 ⟨some 2,none,.a (.alloc [.az]),[]⟩])
 (.seq (.seq (.ops [cE 6 45 1])
 (.block 0 (.rangeFunc (.t 6) [7] aZ bf)))
 (.seq (.ops [zL 18 2,
 zF 19 1 5,
 zL 20 19,
 zQ 21 .aV 20,
 ⟨some 22,none,.a (.aY [zz] 1 1 [0]),[.t 21]⟩,
 fF 23 26 18 22,
 zM 17 23,
 zQ 24 (.ext 0) 17,
 zQ 25 (.ext 1) 17,
 zS 1 [.t 2,.t 24]])
 (.seq (.seq (.ops [zF 26 1 5,
 zL 27 26,
 zQ 28 .aV 27,
 zV 29 0])
 (.block 2 (.loop oG)))
 (.seq (.ops [zL 51 2,
 zS 1 [.t 2,.t 51]])
 .ret)))))⟩
def rP:AC:=(.seq (.seq (.ops [zM 21 9,
 zP 22 (.bin .geq) [.t 21,zI 0]])
 (.cond (.t 22)
 .skip
 (.exit 3)))
 (.seq (.block 4 (.ops [zM 25 6,
 zM 26 8,
 zP 27 (.bin .sub) [.t 26,zI 255],
 zP 28 (.bin .add) [.t 27,zI 1],
 zM 29 9,
 zR 30 (.bin .shr) 28 29,
 zQ 31 (.conv .u8) 30,
 ⟨some 32,none,.a (.aY [(.int .u8 0)] 1 1 [0]),[.t 31]⟩,
 zA 33 1 1 25 32,
 zM 6 33]))
 (.ops [zM 23 9,
 zP 24 (.bin .sub) [.t 23,zI 8],
 zM 9 24])))
def nk:AC:=(.seq (.ops [zR 15 (.bin .lss) 14 13])
 (.seq (.cond (.t 15)
 .skip
 (.exit 0))
 (.seq (.block 1 (.seq (.ops [zR 16 (.aB 1) 12 14,
 zL 17 16,
 zM 8 17])
 (.block 2 (.seq (.ops [zM 35 8,
 zP 36 (.bin .lss) [.t 35,zI 0],
 zM 37 36,
 cF 38 8 37 false,
 bL 39 (.bin .gtr) [.t 38,zI 9007199254740991] 37 false,
 zP 40 .pick [.t 37,.c (.bool true),.t 39],
 zM 34 40])
 (.cond (.t 34)
 (.seq (.ops [zK 4 .az,
 zV 5 2])
 .ret)
 (.seq (.ops [zM 42 8,
 zP 43 (.bin .lss) [.t 42,zI 255],
 zM 41 43])
 (.cond (.t 41)
 (.ops [zM 44 6,
 zM 45 8,
 zQ 46 (.conv .u8) 45,
 ⟨some 47,none,.a (.aY [(.int .u8 0)] 1 1 [0]),[.t 46]⟩,
 zA 48 1 1 44 47,
 zM 6 48])
 (.seq (.ops [zM 18 6,
 ⟨some 19,none,.a (.aY [(.int .u8 0)] 1 1 [0]),[.c (.int .u8 255)]⟩,
 zA 20 1 1 18 19,
 zM 6 20])
 (.seq (.ops [zV 9 56])
 (.block 3 (.loop rP)))))))))))
 (.ops [zP 49 (.bin .add) [.t 14,zI 1],
 zM 14 49]))))
def Te:aj:=⟨51,[.tmp 4,.tmp 5],
 (.seq (.ops [zK 4 .az,
 zV 5 0])
 (.seq (.ops [zM 10 0,
 cE 11 47 10,
 zM 6 11])
 (.seq (.seq (.ops [zM 12 1,
 zQ 13 .aV 12,
 zV 14 0])
 (.block 0 (.loop nk)))
 (.seq (.ops [zM 50 6,
 zM 4 50,
 zV 5 0])
 .ret))))⟩
def ir:AC:=(.seq (.seq (.ops [zM 24 5,
 zF 25 1 5,
 zL 26 25,
 zQ 27 .aV 26,
 zR 28 (.bin .lss) 24 27])
 (.cond (.t 28)
 .skip
 (.exit 0)))
 (.seq (.block 1 (.seq (.bI [zM 32 3,
 zF 33 1 5,
 zL 34 33,
 zM 35 5,
 zR 36 (.aB 3) 34 35,
 zF 37 36 0,
 zL 38 37,
 zF 39 1 5,
 zL 40 39,
 zM 41 5,
 zR 42 (.aB 3) 40 41,
 zF 43 42 1,
 zL 44 43,
 ⟨some 45,none,.a (.aY [zz] 2 1 [0,1]),[.t 38,.t 44]⟩,
 fF 46 28 32 45,
 zM 31 46,
 zQ 47 (.ext 0) 31,
 zQ 48 (.ext 1) 31,
 zM 3 47] [[],[],[],[],[],[],[],[],[],[],[],[],[],[],[],[],[],[],[]])
 (.ops [zM 50 3,
 zF 51 1 5,
 zL 52 51,
 zM 53 5,
 zR 54 (.aB 3) 52 53,
 zF 55 54 2,
 zL 56 55,
 fF 57 48 50 56,
 zM 49 57,
 zQ 58 (.ext 0) 49,
 zQ 59 (.ext 1) 49,
 zM 3 58])))
 (.ops [zM 29 5,
 zP 30 (.bin .add) [.t 29,zI 1],
 zM 5 30])))
def Tf:aj:=⟨61,[.tmp 2],
 (.seq (.ops [zB 1 0,
 zK 2 .az])
 (.seq (.ops [zF 7 1 0,
 zL 8 7,
 zF 9 1 1,
 zL 10 9,
 zF 11 1 2,
 zL 12 11,
 zF 13 1 3,
 zL 14 13,
 zF 15 1 4,
 zL 16 15,
 zF 17 1 5,
 zL 18 17,
 zQ 19 .aV 18,
 ⟨some 20,none,.a (.aY [zz] 6 1 [0,1,2,3,4,5]),[.t 8,.t 10,.t 12,.t 14,.t 16,.t 19]⟩,
 zC 21 28 [.c .az,.t 20],
 zM 6 21,
 zQ 22 (.ext 0) 6,
 zQ 23 (.ext 1) 6,
 zM 3 22,
 zM 4 23])
 (.seq (.seq (.ops [zV 5 0])
 (.block 0 (.loop ir)))
 (.seq (.ops [zM 60 3,
 zM 2 60])
 .ret))))⟩
def iR:AC:=(.seq (.seq (.ops [zM 40 9,
 zP 41 (.bin .geq) [.t 40,zI 0]])
 (.cond (.t 41)
 .skip
 (.exit 2)))
 (.seq (.block 3 (.ops [zM 44 6,
 zM 45 8,
 zM 46 9,
 zP 47 (.bin .mul) [zI 8,.t 46],
 zR 48 (.bin .shr) 45 47,
 zQ 49 (.conv .u8) 48,
 ⟨some 50,none,.a (.aY [(.int .u8 0)] 1 1 [0]),[.t 49]⟩,
 zA 51 1 1 44 50,
 zM 6 51]))
 (.ops [zM 42 9,
 zP 43 (.bin .sub) [.t 42,zI 1],
 zM 9 43])))
def eM:AC:=(.seq (.seq (.ops [zM 12 7,
 zM 13 1,
 zQ 14 .aV 13,
 zR 15 (.bin .lss) 12 14])
 (.cond (.t 15)
 .skip
 (.exit 0)))
 (.seq (.block 1 (.seq (.ops [zM 18 1,
 zM 19 7,
 zR 20 (.aB 1) 18 19,
 zL 21 20,
 zM 8 21])
 (.seq (.seq (.ops [zM 22 8,
 zP 23 (.bin .lss) [.t 22,zI 0],
 zM 24 23,
 cF 25 8 24 false,
 bL 26 (.bin .gtr) [.t 25,zI 9007199254740991] 24 false,
 zP 27 .pick [.t 24,.c (.bool true),.t 26]])
 (.cond (.t 27)
 (.seq (.ops [zK 4 .az,
 zV 5 2])
 .ret)
 .skip))
 (.seq (.seq (.ops [zM 28 8,
 zP 29 (.bin .lss) [.t 28,zI 255]])
 (.cond (.t 29)
 (.seq (.ops [zM 30 6,
 zM 31 8,
 zQ 32 (.conv .u8) 31,
 ⟨some 33,none,.a (.aY [(.int .u8 0)] 1 1 [0]),[.t 32]⟩,
 zA 34 1 1 30 33,
 zM 6 34])
 (.exit 1))
 .skip))
 (.seq (.ops [zM 35 6,
 ⟨some 36,none,.a (.aY [(.int .u8 0)] 1 1 [0]),[.c (.int .u8 255)]⟩,
 zA 37 1 1 35 36,
 zM 6 37])
 (.seq (.ops [zM 38 8,
 zP 39 (.bin .sub) [.t 38,zI 254],
 zM 8 39])
 (.seq (.ops [zV 9 7])
 (.block 2 (.loop iR)))))))))
 (.ops [zM 16 7,
 zP 17 (.bin .add) [.t 16,zI 1],
 zM 7 17])))
def Tg:aj:=⟨53,[.tmp 4,.tmp 5],
 (.seq (.ops [zK 4 .az,
 zV 5 0])
 (.seq (.ops [zM 10 0,
 cE 11 13 10,
 zM 6 11])
 (.seq (.seq (.ops [zV 7 0])
 (.block 0 (.loop eM)))
 (.seq (.ops [zM 52 6,
 zM 4 52,
 zV 5 0])
 .ret))))⟩
def UB:aj:=⟨6,[.cell 0 2 true],
 (.seq (.ops [⟨some 0,none,.a (.alloc [.az,.az]),[]⟩])
 (.seq (.ops [zP 1 (.build [zz,zz,zz,zz,zz,zz,zz,zz] [(0,1),(1,1),(2,1)]) [zI 8,zI 8,zI 2],
 ⟨some 2,none,.a (.aY [zz,zz,zz,zz,zz,zz,zz,zz] 1 8 [0]),[.t 1]⟩,
 zP 3 (.build [zz,zz,.az] [(0,1),(1,1),(2,1)]) [zI 4,zI 2,.t 2],
 ⟨some 4,none,.a (.aY [zz,zz,.az] 1 3 [0]),[.t 3]⟩,
 zQ 5 (.build [.az,.az] [(0,1)]) 4,
 zS 2 [.t 0,.t 5]])
 .ret))⟩
def jO:AC:=(.seq (.seq (.ops [zM 11 5,
 zM 12 0,
 zQ 13 .aV 12,
 zR 14 (.bin .lss) 11 13])
 (.cond (.t 14)
 .skip
 (.exit 0)))
 (.seq (.block 1 (.seq (.bI [zM 17 0,
 zM 18 5,
 zR 19 (.aB 7) 17 18,
 zO 20 7 19,
 zM 21 1,
 zM 22 5,
 zR 23 (.aB 7) 21 22,
 zO 24 7 23,
 zR 25 (.neq (.cells [0,0,0,0,0,0,2])) 20 24] [[],[],[],[],[],[],[],[],[]])
 (.cond (.t 25)
 (.seq (.ops [zK 4 (.bool false)])
 .ret)
 .skip)))
 (.ops [zM 15 5,
 zP 16 (.bin .add) [.t 15,zI 1],
 zM 5 16])))
def UC:aj:=⟨26,[.tmp 4],
 (.seq (.ops [zK 4 (.bool false)])
 (.seq (.seq (.ops [zM 6 0,
 zQ 7 .aV 6,
 zM 8 1,
 zQ 9 .aV 8,
 zR 10 (.bin .neq) 7 9])
 (.cond (.t 10)
 (.seq (.ops [zK 4 (.bool false)])
 .ret)
 .skip))
 (.seq (.seq (.ops [zV 5 0])
 (.block 0 (.loop jO)))
 (.seq (.ops [zK 4 (.bool true)])
 .ret))))⟩
def Th:aj:=⟨6,[.tmp 2],
 (.seq (.ops [zK 2 .bJ])
 (.seq (.ops [zM 3 0,
 zQ 4 (.build [.az,zz] [(0,1)]) 3,
 zB 5 4,
 zM 2 5])
 .ret))⟩
def PU:aj:=⟨12,[.cell 4 1 false],
 (.seq (.ops [zB 2 0,
 zB 3 1,
 ⟨some 4,none,.a (.alloc [zz]),[]⟩])
 (.seq (.ops [zL 6 2,
 zP 7 (.ec (.func 50) 0) [.t 2,.t 4,.t 3],
 fF 8 49 6 7,
 zM 5 8])
 (.seq (.seq (.ops [zM 9 5,
 zQ 10 .not 9])
 (.cond (.t 10)
 (.seq (.ops [zS 1 [.t 4,zI 0]])
 .ret)
 .skip))
 (.seq (.ops [zL 11 4,
 zS 1 [.t 4,.t 11]])
 .ret))))⟩
def Ti:aj:=⟨9,[.tmp 2],
 (.seq (.ops [zV 2 0])
 (.seq (.seq (.ops [zM 3 0,
 zP 4 (.eq .dF) [.t 3,.c .bJ]])
 (.cond (.t 4)
 (.seq (.ops [zV 2 0])
 .ret)
 .skip))
 (.seq (.ops [zM 5 0,
 zN 6 5,
 zF 7 6 1,
 zL 8 7,
 zM 2 8])
 .ret)))⟩
def Tj:aj:=⟨10,[.tmp 2],
 (.seq (.ops [zV 2 0])
 (.seq (.seq (.ops [zM 3 0,
 zP 4 (.eq .dF) [.t 3,.c .bJ]])
 (.cond (.t 4)
 (.seq (.ops [zV 2 0])
 .ret)
 .skip))
 (.seq (.ops [zM 5 0,
 zN 6 5,
 zF 7 6 0,
 zL 8 7,
 zQ 9 .aV 8,
 zM 2 9])
 .ret)))⟩
def bU:AC:=(.ops [zM 4 13])
def bV:AC:=(.block 1 (.seq (.ops [zM 14 4,
 zL 15 3,
 zC 16 32 [.t 15,zI 9007199254740991],
 zN 17 14,
 zS 1 [.t 17,.t 16]])
 (.ops [zL 18 3,
 cE 19 52 18])))
def qB:AC:=(.seq (.ops [zR 26 (.bin .lss) 25 24])
 (.seq (.cond (.t 26)
 .skip
 (.exit 2))
 (.seq (.block 3 (.seq (.ops [zL 27 3,
 zC 28 32 [.t 27,zI 9007199254740991],
 zQ 29 (.build [zz,zz,(.str [])] [(0,1)]) 28,
 ⟨some 6,none,.a (.alloc [zz,zz,(.str [])]),[]⟩,
 zS 3 [.t 6,.t 29]])
 (.seq (.ops [zL 30 3,
 zC 31 32 [.t 30,zI 9007199254740991],
 zF 32 6 1,
 zS 1 [.t 32,.t 31]])
 (.seq (.ops [zL 33 3,
 zC 34 53 [.t 33,zI 16],
 zF 35 6 2,
 zS 1 [.t 35,.t 34]])
 (.seq (.ops [zL 36 3,
 cE 37 52 36])
 (.ops [zF 38 2 0,
 zF 39 38 5,
 zL 40 39,
 zO 41 3 6,
 ⟨some 42,none,.a (.aY [zz,zz,(.str [])] 1 3 [0]),[.t 41]⟩,
 zA 43 3 32 40 42,
 zF 44 2 0,
 zF 45 44 5,
 zS 1 [.t 45,.t 43]]))))))
 (.ops [zP 46 (.bin .add) [.t 25,zI 1],
 zM 25 46]))))
def Tk:aj:=⟨54,[.cell 2 7 true],
 (.seq (.ops [⟨some 2,none,.a (.alloc [zz,zz,zz,zz,zz,.az,zz]),[]⟩])
 (.seq (.ops [zQ 8 (.ec (.func 51) 0) 2,
 ⟨none,none,.bad,[.c (.bool true),.t 8,.t 8,.t 8]⟩])
 (.seq (.ops [zM 9 0,
 cE 10 31 9,
 ⟨some 3,none,.a (.alloc [.bJ]),[]⟩,
 zS 1 [.t 3,.t 10]])
 (.seq (.seq (.ops [zF 11 2 0,
 cE 12 45 11])
 (.block 0 (.rangeFunc (.t 12) [13] bU bV)))
 (.seq (.ops [zL 20 3,
 zC 21 32 [.t 20,zI 32],
 zM 5 21])
 (.seq (.ops [zL 22 3,
 cE 23 52 22])
 (.seq (.seq (.ops [zM 24 5,
 zV 25 0])
 (.block 2 (.loop qB)))
 (.seq (.seq (.ops [zL 47 3,
 cE 48 54 47,
 zM 7 48])
 (.seq (.ops [zM 49 7,
 zP 50 (.bin .neq) [.t 49,zI 0]])
 (.cond (.t 50)
 (.ops [zM 51 7,
 zQ 52 (.p8 26) 51,
 ⟨none,none,.panic,[.t 52]⟩])
 .skip)))
 (.seq (.ops [zO 53 7 2,
 zS 7 [.t 2,.t 53]])
 .ret)))))))))⟩
def Tl:aj:=⟨29,[.tmp 2,.tmp 3,.tmp 4],
 (.seq (.ops [zV 2 0,
 zV 3 0,
 zV 4 0])
 (.seq (.ops [zM 9 0,
 cE 10 55 9,
 zM 5 10])
 (.seq (.ops [zM 11 5,
 zC 12 56 [.t 11,zI 4096],
 zM 6 12])
 (.seq (.seq (.ops [zM 13 5,
 cE 14 57 13,
 zM 7 14])
 (.seq (.ops [zM 15 7,
 zP 16 (.bin .neq) [.t 15,zI 0]])
 (.cond (.t 16)
 (.seq (.ops [zM 17 7,
 zV 2 0,
 zV 3 0,
 zM 4 17])
 .ret)
 .skip)))
 (.seq (.ops [zM 18 0,
 zQ 19 .aV 18,
 zM 20 5,
 cE 21 58 20,
 zR 22 (.bin .sub) 19 21,
 zM 8 22])
 (.seq (.seq (.ops [zM 23 6,
 zM 24 5,
 cE 25 58 24,
 zR 26 (.bin .gtr) 23 25])
 (.cond (.t 26)
 (.seq (.ops [zV 2 0,
 zV 3 0,
 zV 4 3])
 .ret)
 .skip))
 (.seq (.ops [zM 27 6,
 zM 28 8,
 zM 2 27,
 zM 3 28,
 zV 4 0])
 .ret)))))))⟩
def iE:AC:=(.seq (.seq (.ops [zM 24 6,
 zM 25 5,
 zR 26 (.bin .lss) 24 25,
 zM 27 26,
 cF 28 3 27 true,
 qt 29 57 [.t 28] 27 true,
 bL 30 (.bin .eql) [.t 29,zI 0] 27 true,
 zP 31 .pick [.t 27,.t 30,.c (.bool false)]])
 (.cond (.t 31)
 .skip
 (.exit 0)))
 (.seq (.block 1 (.seq (.ops [zM 34 3,
 zC 35 56 [.t 34,zI 9007199254740991],
 zM 36 3,
 zC 37 56 [.t 36,zI 9007199254740991],
 zR 38 (.build [zz,zz,(.str [])] [(0,1),(1,1)]) 35 37,
 ⟨some 7,none,.a (.alloc [zz,zz,(.str [])]),[]⟩,
 zS 3 [.t 7,.t 38]])
 (.seq (.ops [zM 39 3,
 zC 40 59 [.t 39,zI 16],
 zF 41 7 2,
 zS 1 [.t 41,.t 40]])
 (.ops [zF 42 4 5,
 zL 43 42,
 zO 44 3 7,
 ⟨some 45,none,.a (.aY [zz,zz,(.str [])] 1 3 [0]),[.t 44]⟩,
 zA 46 3 32 43 45,
 zF 47 4 5,
 zS 1 [.t 47,.t 46]]))))
 (.ops [zM 32 6,
 zP 33 (.bin .add) [.t 32,zI 1],
 zM 6 33])))
def Tm:aj:=⟨56,[.cell 2 7 true],
 (.seq (.ops [⟨some 2,none,.a (.alloc [zz,zz,zz,zz,zz,.az,zz]),[]⟩])
 (.seq (.ops [zM 9 0,
 cE 10 55 9,
 zM 3 10])
 (.seq (.ops [zM 11 3,
 zC 12 56 [.t 11,zI 9007199254740991],
 zM 13 3,
 zC 14 56 [.t 13,zI 9007199254740991],
 zM 15 3,
 zC 16 56 [.t 15,zI 9007199254740991],
 zM 17 3,
 zC 18 56 [.t 17,zI 9007199254740991],
 zM 19 3,
 zC 20 56 [.t 19,zI 9007199254740991],
 zP 21 (.build [zz,zz,zz,zz,zz,.az] [(0,1),(1,1),(2,1),(3,1),(4,1)]) [.t 12,.t 14,.t 16,.t 18,.t 20],
 ⟨some 4,none,.a (.alloc [zz,zz,zz,zz,zz,.az]),[]⟩,
 zS 6 [.t 4,.t 21]])
 (.seq (.ops [zM 22 3,
 zC 23 56 [.t 22,zI 32],
 zM 5 23])
 (.seq (.seq (.ops [zV 6 0])
 (.block 0 (.loop iE)))
 (.seq (.seq (.ops [zM 48 3,
 cE 49 60 48,
 zM 8 49])
 (.seq (.ops [zM 50 8,
 zP 51 (.bin .neq) [.t 50,zI 0]])
 (.cond (.t 51)
 (.seq (.ops [zM 52 8,
 zQ 53 (.build [zz,zz,zz,zz,zz,.az,zz] [(6,1)]) 52,
 zS 7 [.t 2,.t 53]])
 .ret)
 .skip)))
 (.seq (.ops [zO 54 6 4,
 zQ 55 (.build [zz,zz,zz,zz,zz,.az,zz] [(0,6)]) 54,
 zS 7 [.t 2,.t 55]])
 .ret)))))))⟩
def QD:aj:=⟨8,[.tmp 2],
 (.seq (.ops [zK 2 .az])
 (.seq (.seq (.ops [zM 3 0,
 zP 4 (.eq .iW) [.t 3,.c .az]])
 (.cond (.t 4)
 (.seq (.ops [zK 2 .az])
 .ret)
 .skip))
 (.seq (.ops [⟨some 5,none,.a (.aY [zz,zz,(.str [])] 0 3 []),[]⟩,
 zM 6 0,
 zA 7 3 32 5 6,
 zM 2 7])
 .ret)))⟩
def Tn:aj:=⟨14,[.tmp 4],
 (.seq (.ops [zV 4 0])
 (.seq (.ops [zM 5 0,
 zM 6 1,
 zR 7 (.bin .rem) 5 6,
 zM 0 7])
 (.seq (.seq (.ops [zM 8 0,
 zP 9 (.bin .lss) [.t 8,zI 0]])
 (.cond (.t 9)
 (.ops [zM 10 0,
 zM 11 1,
 zR 12 (.bin .add) 10 11,
 zM 0 12])
 .skip))
 (.seq (.ops [zM 13 0,
 zM 4 13])
 .ret))))⟩
def UD:aj:=⟨38,[.tmp 2,.tmp 3],
 (.seq (.ops [zB 1 0,
 zK 2 .bJ,
 zV 3 0])
 (.seq (.seq (.ops [zO 8 2 1,
 cE 9 61 8,
 zM 4 9])
 (.seq (.ops [zM 10 4,
 zP 11 (.bin .neq) [.t 10,zI 0]])
 (.cond (.t 11)
 (.seq (.ops [zM 12 4,
 zK 2 .bJ,
 zM 3 12])
 .ret)
 .skip)))
 (.seq (.ops [zF 14 1 1,
 zL 15 14,
 cE 16 62 15,
 zM 13 16,
 zQ 17 (.ext 0) 13,
 zQ 18 (.ext 1) 13,
 zM 5 17,
 zM 6 18])
 (.seq (.seq (.ops [zM 19 6,
 zP 20 (.bin .neq) [.t 19,zI 0]])
 (.cond (.t 20)
 (.seq (.ops [zM 21 6,
 zK 2 .bJ,
 zM 3 21])
 .ret)
 .skip))
 (.seq (.ops [zF 22 1 0,
 zL 23 22,
 zQ 24 .aV 23,
 zM 7 24])
 (.seq (.bI [KM 25 63,
 zM 26 5,
 KM 27 64,
 KM 28 65,
 zP 29 (.build [.bJ,.bJ,.bJ,.bJ] [(0,1),(1,1),(2,1),(3,1)]) [.t 25,.t 26,.t 27,.t 28],
 zO 30 2 1,
 cE 31 66 30,
 zM 32 7,
 ⟨some 33,none,.a (.eG [.bJ] 1 8),[.t 32,.t 32]⟩,
 zM 34 7,
 ⟨some 35,none,.a (.eG [.bJ] 1 8),[.t 34,.t 34]⟩,
 zP 36 (.build [.bJ,.bJ,.bJ,.bJ,.az,.az,.az,.az,zz,zz,zz,.az,.az,.az] [(0,4),(4,2),(8,1),(11,1),(12,1)]) [.t 29,.t 31,zI (-1),.t 33,.t 35],
 zB 37 36,
 zM 2 37,
 zV 3 0] [[],[],[],[],[],[0,1,3,4],[],[],[],[],[],[],[],[],[]])
 .ret))))))⟩
def UE:aj:=⟨29,[.tmp 4],
 (.seq (.ops [zB 3 1,
 zV 4 0])
 (.seq (.seq (.ops [zM 8 0,
 cE 9 67 8])
 (.cond (.t 9)
 (.seq (.ops [zV 4 1])
 .ret)
 .skip))
 (.seq (.bI [KM 11 68,
 zF 12 3 0,
 zL 13 12,
 ⟨some 14,none,.r (.lookup true .iZ),[.t 11,.t 13]⟩,
 zM 10 14,
 zQ 15 (.ext 0) 10,
 zQ 16 (.ext 1) 10,
 zM 5 15,
 zM 6 16] [[],[],[0,1],[],[],[],[],[],[]])
 (.seq (.seq (.ops [zM 17 6,
 zQ 18 .not 17])
 (.cond (.t 18)
 (.seq (.ops [zV 4 2])
 .ret)
 .skip))
 (.seq (.seq (.ops [zM 19 0,
 zO 20 6 3,
 fF 21 69 19 20,
 zM 7 21])
 (.seq (.ops [zM 22 7,
 zP 23 (.bin .neq) [.t 22,zI 0]])
 (.cond (.t 23)
 (.seq (.ops [zM 24 7,
 zM 4 24])
 .ret)
 .skip)))
 (.seq (.ops [zM 25 5,
 zM 26 0,
 zO 27 6 3,
 ⟨some 28,none,.call,[.t 25,.t 26,.t 27]⟩,
 zM 4 28])
 .ret))))))⟩
def UF:aj:=⟨10,[.tmp 2],
 (.seq (.ops [zK 2 .az])
 (.seq (.seq (.ops [zM 3 0,
 cE 4 67 3])
 (.cond (.t 4)
 (.seq (.ops [zK 2 .az])
 .ret)
 .skip))
 (.seq (.ops [zM 5 0,
 zN 6 5,
 zF 7 6 13,
 zL 8 7,
 cE 9 70 8,
 zM 2 9])
 .ret)))⟩
def To:aj:=⟨9,[.tmp 4],
 (.seq (.ops [zK 4 (.bool false)])
 (.seq (.ops [zM 5 0,
 zM 6 1,
 fF 7 71 5 6,
 zP 8 (.bin .geq) [.t 7,zI 0],
 zM 4 8])
 .ret))⟩
def Tp:aj:=⟨9,[.tmp 2],
 (.seq (.ops [zK 2 (.bool false)])
 (.seq (.ops [zM 3 0,
 zP 4 (.bin .lss) [.t 3,zI 0],
 zM 5 4,
 cF 6 0 5 false,
 bL 7 (.bin .gtr) [.t 6,zI 9007199254740991] 5 false,
 zP 8 .pick [.t 5,.c (.bool true),.t 7],
 zM 2 8])
 .ret))⟩
def Tq:aj:=⟨4,[.tmp 2],
 (.seq (.ops [zB 1 0,
 zK 2 .iZ])
 (.seq (.ops [zQ 3 (.ec (.func 72) 0) 1,
 zM 2 3])
 .ret))⟩
def Ts:aj:=⟨23,[.tmp 4,.tmp 5],
 (.seq (.ops [zK 4 .az,
 zV 5 0])
 (.seq (.seq (.ops [zM 8 1,
 zQ 9 .lC 8,
 zP 10 (.bin .gtr) [.t 9,zI 65536]])
 (.cond (.t 10)
 (.seq (.ops [zK 4 .az,
 zV 5 5])
 .ret)
 .skip))
 (.seq (.ops [zM 12 0,
 zM 13 1,
 zQ 14 .lC 13,
 ⟨some 15,none,.a (.aY [zz] 1 1 [0]),[.t 14]⟩,
 fF 16 26 12 15,
 zM 11 16,
 zQ 17 (.ext 0) 11,
 zQ 18 (.ext 1) 11,
 zM 6 17,
 zM 7 18])
 (.seq (.ops [zM 19 6,
 zM 20 1,
 zA 21 1 1 19 20,
 zM 22 7,
 zM 4 21,
 zM 5 22])
 .ret))))⟩
def Tt:aj:=⟨8,[.tmp 2],
 (.seq (.ops [zK 2 .az])
 (.seq (.seq (.ops [zM 3 0,
 zP 4 (.eq .iW) [.t 3,.c .az]])
 (.cond (.t 4)
 (.seq (.ops [zK 2 .az])
 .ret)
 .skip))
 (.seq (.ops [⟨some 5,none,.a (.aY [(.int .u8 0)] 0 1 []),[]⟩,
 zM 6 0,
 zA 7 1 1 5 6,
 zM 2 7])
 .ret)))⟩
def Tu:aj:=⟨22,[.tmp 4,.tmp 5],
 (.seq (.ops [zK 4 .az,
 zV 5 0])
 (.seq (.seq (.ops [zM 8 1,
 zQ 9 .lC 8,
 zP 10 (.bin .gtr) [.t 9,zI 65536]])
 (.cond (.t 10)
 (.seq (.ops [zK 4 .az,
 zV 5 5])
 .ret)
 .skip))
 (.seq (.ops [zM 12 0,
 zM 13 1,
 zQ 14 .lC 13,
 ⟨some 15,none,.a (.aY [zz] 1 1 [0]),[.t 14]⟩,
 fF 16 28 12 15,
 zM 11 16,
 zQ 17 (.ext 0) 11,
 zQ 18 (.ext 1) 11,
 zM 6 17,
 zM 7 18])
 (.seq (.ops [zM 19 6,
 zM 20 1,
 zA 21 1 1 19 20,
 zM 4 21,
 zV 5 0])
 .ret))))⟩
def QE:aj:=⟨39,[.tmp 4],
 (.seq (.ops [zK 4 (.bool false)])
 (.seq (.seq (.ops [zM 7 0,
 zP 8 (.eq .dF) [.t 7,.c .bJ],
 zM 9 8,
 cF 10 0 9 false,
 uq 11 10 9 false,
 c9 12 11 1 9 false,
 c7 13 12 9 false,
 bL 14 (.bin .neq) [.t 13,zI 0] 9 false,
 zP 15 .pick [.t 9,.c (.bool true),.t 14]])
 (.cond (.t 15)
 (.seq (.ops [zK 4 (.bool false)])
 .ret)
 .skip))
 (.seq (.ops [zM 17 1,
 ⟨some 18,none,.call,[.t 17]⟩,
 zM 16 18,
 zQ 19 (.ext 0) 16,
 zQ 20 (.ext 1) 16,
 zM 5 19,
 zM 6 20])
 (.seq (.seq (.ops [zM 21 6,
 zP 22 (.bin .neq) [.t 21,zI 0]])
 (.cond (.t 22)
 (.seq (.ops [zM 23 0,
 zM 24 0,
 zM 25 6,
 zN 26 23,
 zF 27 26 0,
 zS 1 [.t 27,.c .az],
 zN 28 24,
 zF 29 28 1,
 zS 1 [.t 29,.t 25]])
 (.seq (.ops [zK 4 (.bool false)])
 .ret))
 .skip))
 (.seq (.ops [zM 30 0,
 zM 31 0,
 zN 32 31,
 zF 33 32 0,
 zL 34 33,
 zM 35 5,
 zR 36 (.slice 1 true false false) 34 35,
 zN 37 30,
 zF 38 37 0,
 zS 1 [.t 38,.t 36]])
 (.seq (.ops [zK 4 (.bool true)])
 .ret))))))⟩
def js:AC:=(.seq (.ops [zR 41 (.bin .lss) 40 39])
 (.seq (.cond (.t 41)
 .skip
 (.exit 0))
 (.seq (.block 1 (.seq (.ops [zR 42 (.aB 1) 38 40,
 zL 43 42,
 zM 8 43])
 (.ops [zM 44 6,
 zP 45 (.bin .shl) [.t 44,.c (.int .u64 8)],
 zM 46 8,
 zQ 47 (.conv .u64) 46,
 zR 48 (.bin .or) 45 47,
 zM 6 48])))
 (.ops [zP 49 (.bin .add) [.t 40,zI 1],
 zM 40 49]))))
def QF:aj:=⟨63,[.tmp 3,.tmp 4],
 (.seq (.ops [zV 3 0,
 zV 4 0])
 (.seq (.seq (.ops [zL 9 0,
 zN 10 9,
 zF 11 10 0,
 zL 12 11,
 zQ 13 .aV 12,
 zP 14 (.bin .eql) [.t 13,zI 0]])
 (.cond (.t 14)
 (.seq (.ops [zV 3 0,
 zV 4 3])
 .ret)
 .skip))
 (.seq (.ops [zV 5 1])
 (.seq (.seq (.ops [zL 15 0,
 zN 16 15,
 zF 17 16 0,
 zL 18 17,
 zP 19 (.aB 1) [.t 18,zI 0],
 zL 20 19,
 zQ 21 (.conv .i64) 20,
 zS 1 [.t 1,.t 21]])
 (.seq (.ops [zL 22 1,
 zP 23 (.bin .eql) [.t 22,zI 255]])
 (.cond (.t 23)
 (.seq (.seq (.ops [zM 24 5,
 zP 25 (.bin .add) [.t 24,zI 8],
 zM 5 25])
 (.seq (.ops [zL 26 0,
 zN 27 26,
 zF 28 27 0,
 zL 29 28,
 zQ 30 .aV 29,
 zM 31 5,
 zR 32 (.bin .lss) 30 31])
 (.cond (.t 32)
 (.seq (.ops [zV 3 0,
 zV 4 3])
 .ret)
 .skip)))
 (.seq (.ops [zP 6 .yh [.c (.int .u64 0)]])
 (.seq (.seq (.ops [zL 33 0,
 zN 34 33,
 zF 35 34 0,
 zL 36 35,
 zM 37 5,
 zP 38 (.slice 1 true true false) [.t 36,zI 1,.t 37],
 zQ 39 .aV 38,
 zV 40 0])
 (.block 0 (.loop js)))
 (.seq (.seq (.ops [zM 50 6,
 zP 51 (.bin .eql) [.t 50,.c (.int .u64 0)],
 zM 52 51,
 cF 53 6 52 false,
 bL 54 (.bin .gtr) [.t 53,.c (.int .u64 9007199254740737)] 52 false,
 zP 55 .pick [.t 52,.c (.bool true),.t 54]])
 (.cond (.t 55)
 (.seq (.ops [zV 3 0,
 zV 4 4])
 .ret)
 .skip))
 (.ops [zM 56 6,
 zQ 57 (.conv .i64) 56,
 zP 58 (.bin .add) [zI 254,.t 57],
 zS 1 [.t 1,.t 58]])))))
 .skip)))
 (.seq (.seq (.ops [zL 59 1,
 zL 60 2,
 zR 61 (.bin .gtr) 59 60])
 (.cond (.t 61)
 (.seq (.ops [zV 3 0,
 zV 4 5])
 .ret)
 .skip))
 (.seq (.ops [zM 62 5,
 zM 3 62,
 zV 4 0])
 .ret))))))⟩
def Tv:aj:=⟨8,[],
 (.seq (.ops [⟨some 2,none,.bad,[.c (.bool false),.c (.bool false),.c (.bool false),.c (.bool false)]⟩,
 zM 1 2])
 (.seq (.ops [zM 3 1,
 zP 4 (.neq .iface) [.t 3,.c .ja]])
 (.cond (.t 4)
 (.ops [zM 5 1,
 zQ 6 (.nZ 26 false zz) 5,
 zQ 7 (.build [zz,zz,zz,zz,zz,.az,zz] [(6,1)]) 6,
 zS 7 [.t 0,.t 7]])
 .skip)))⟩
def Tw:aj:=⟨9,[],
 (.seq (.ops [zM 3 0,
 cE 4 33 3,
 zM 2 4])
 (.seq (.ops [zM 5 2,
 zP 6 (.bin .neq) [.t 5,zI 0]])
 (.cond (.t 6)
 (.ops [zM 7 2,
 zQ 8 (.p8 26) 7,
 ⟨none,none,.panic,[.t 8]⟩])
 .skip)))⟩
def QG:aj:=⟨13,[.cell 4 1 false],
 (.seq (.ops [zB 2 0,
 ⟨some 4,none,.a (.alloc [(.str [])]),[]⟩])
 (.seq (.ops [zL 6 2,
 zM 7 1,
 fF 8 32 6 7,
 ⟨some 5,none,.a (.alloc [zz]),[]⟩,
 zS 1 [.t 5,.t 8]])
 (.seq (.ops [zL 9 2,
 zP 10 (.ec (.func 73) 0) [.t 2,.t 5,.t 4],
 fF 11 49 9 10])
 (.seq (.ops [zL 12 4,
 zS 1 [.t 4,.t 12]])
 .ret))))⟩
def Tx:aj:=⟨13,[.tmp 2],
 (.seq (.ops [zV 2 0])
 (.seq (.seq (.ops [zM 3 0,
 cE 4 33 3,
 zP 5 (.bin .eql) [.t 4,zI 0],
 zM 6 5,
 cF 7 0 6 true,
 qt 8 34 [.t 7] 6 true,
 bL 9 (.bin .gtr) [.t 8,zI 0] 6 true,
 zP 10 .pick [.t 6,.t 9,.c (.bool false)]])
 (.cond (.t 10)
 (.seq (.ops [zV 2 4])
 .ret)
 .skip))
 (.seq (.ops [zM 11 0,
 cE 12 33 11,
 zM 2 12])
 .ret)))⟩
def Ty:aj:=⟨7,[.tmp 2],
 (.seq (.ops [zK 2 .bJ])
 (.seq (.ops [zM 3 0,
 cE 4 13 3,
 zQ 5 (.build [.az,zz] [(0,1)]) 4,
 zB 6 5,
 zM 2 6])
 .ret))⟩
def eN:AC:=(.seq (.seq (.ops [zM 39 8,
 zP 40 (.bin .lss) [.t 39,zI 9]])
 (.cond (.t 40)
 .skip
 (.exit 0)))
 (.seq (.block 1 (.ops [zM 43 7,
 zP 44 (.bin .shl) [.t 43,.c (.int .u64 8)],
 zM 45 0,
 zN 46 45,
 zF 47 46 0,
 zL 48 47,
 zM 49 8,
 zR 50 (.aB 1) 48 49,
 zL 51 50,
 zQ 52 (.conv .u64) 51,
 zR 53 (.bin .or) 44 52,
 zM 7 53]))
 (.ops [zM 41 8,
 zP 42 (.bin .add) [.t 41,zI 1],
 zM 8 42])))
def QH:aj:=⟨80,[.tmp 4],
 (.seq (.ops [zV 4 0])
 (.seq (.seq (.ops [zM 9 0,
 zN 10 9,
 zF 11 10 1,
 zL 12 11,
 zP 13 (.bin .neq) [.t 12,zI 0]])
 (.cond (.t 13)
 (.seq (.ops [zV 4 0])
 .ret)
 .skip))
 (.seq (.seq (.ops [zM 14 0,
 zN 15 14,
 zF 16 15 0,
 zL 17 16,
 zQ 18 .aV 17,
 zP 19 (.bin .eql) [.t 18,zI 0]])
 (.cond (.t 19)
 (.seq (.ops [zM 20 0,
 zC 21 74 [.t 20,zI 3],
 zM 4 21])
 .ret)
 .skip))
 (.seq (.ops [zM 22 0,
 zN 23 22,
 zF 24 23 0,
 zL 25 24,
 zP 26 (.aB 1) [.t 25,zI 0],
 zL 27 26,
 zQ 28 (.conv .i64) 27,
 zM 5 28])
 (.seq (.ops [zV 6 1])
 (.seq (.seq (.ops [zM 29 5,
 zP 30 (.bin .eql) [.t 29,zI 255]])
 (.cond (.t 30)
 (.seq (.seq (.ops [zM 31 0,
 zN 32 31,
 zF 33 32 0,
 zL 34 33,
 zQ 35 .aV 34,
 zP 36 (.bin .lss) [.t 35,zI 9]])
 (.cond (.t 36)
 (.seq (.ops [zM 37 0,
 zC 38 74 [.t 37,zI 3],
 zM 4 38])
 .ret)
 .skip))
 (.seq (.ops [zV 6 9])
 (.seq (.ops [zP 7 .yh [.c (.int .u64 0)]])
 (.seq (.seq (.ops [zV 8 1])
 (.block 0 (.loop eN)))
 (.seq (.seq (.ops [zM 54 7,
 zP 55 (.bin .eql) [.t 54,.c (.int .u64 0)],
 zM 56 55,
 cF 57 7 56 false,
 bL 58 (.bin .gtr) [.t 57,.c (.int .u64 9007199254740737)] 56 false,
 zP 59 .pick [.t 56,.c (.bool true),.t 58]])
 (.cond (.t 59)
 (.seq (.ops [zM 60 0,
 zC 61 74 [.t 60,zI 4],
 zM 4 61])
 .ret)
 .skip))
 (.ops [zM 62 7,
 zQ 63 (.conv .i64) 62,
 zP 64 (.bin .add) [zI 254,.t 63],
 zM 5 64]))))))
 .skip))
 (.seq (.seq (.ops [zM 65 5,
 zM 66 1,
 zR 67 (.bin .gtr) 65 66])
 (.cond (.t 67)
 (.seq (.ops [zM 68 0,
 zC 69 74 [.t 68,zI 5],
 zM 4 69])
 .ret)
 .skip))
 (.seq (.ops [zM 70 0,
 zM 71 0,
 zN 72 71,
 zF 73 72 0,
 zL 74 73,
 zM 75 6,
 zR 76 (.slice 1 true false false) 74 75,
 zN 77 70,
 zF 78 77 0,
 zS 1 [.t 78,.t 76]])
 (.seq (.ops [zM 79 5,
 zM 4 79])
 .ret)))))))))⟩
def Tz:aj:=⟨7,[.tmp 2],
 (.seq (.ops [zV 2 0])
 (.seq (.ops [zM 3 0,
 zN 4 3,
 zF 5 4 1,
 zL 6 5,
 zM 2 6])
 .ret))⟩
def TA:aj:=⟨8,[.tmp 2],
 (.seq (.ops [zV 2 0])
 (.seq (.ops [zM 3 0,
 zN 4 3,
 zF 5 4 0,
 zL 6 5,
 zQ 7 .aV 6,
 zM 2 7])
 .ret))⟩
def TB:aj:=⟨41,[.tmp 4],
 (.seq (.ops [zP 4 .yh [.c (.str [])]])
 (.seq (.ops [zM 7 0,
 zM 8 1,
 fF 9 56 7 8,
 zM 5 9])
 (.seq (.seq (.ops [zM 10 0,
 zN 11 10,
 zF 12 11 1,
 zL 13 12,
 zP 14 (.bin .neq) [.t 13,zI 0]])
 (.cond (.t 14)
 (.seq (.ops [zP 4 .yh [.c (.str [])]])
 .ret)
 .skip))
 (.seq (.seq (.ops [zM 15 0,
 zN 16 15,
 zF 17 16 0,
 zL 18 17,
 zQ 19 .aV 18,
 zM 20 5,
 zR 21 (.bin .lss) 19 20])
 (.cond (.t 21)
 (.seq (.ops [zM 22 0,
 ⟨some 23,none,.call,[.c (.func (.func 74) [] []),.t 22,zI 3]⟩])
 (.seq (.ops [zP 4 .yh [.c (.str [])]])
 .ret))
 .skip))
 (.seq (.ops [zM 24 0,
 zN 25 24,
 zF 26 25 0,
 zL 27 26,
 zM 28 5,
 zR 29 (.slice 1 false true false) 27 28,
 ⟨some 30,none,.r .toStr,[.t 29]⟩,
 zM 6 30])
 (.seq (.ops [zM 31 0,
 zM 32 0,
 zN 33 32,
 zF 34 33 0,
 zL 35 34,
 zM 36 5,
 zR 37 (.slice 1 true false false) 35 36,
 zN 38 31,
 zF 39 38 0,
 zS 1 [.t 39,.t 37]])
 (.seq (.ops [zM 40 6,
 zM 4 40])
 .ret)))))))⟩
def TC:aj:=⟨20,[.tmp 2],
 (.seq (.ops [zV 2 0])
 (.seq (.seq (.ops [zM 3 0,
 zN 4 3,
 zF 5 4 1,
 zL 6 5,
 zP 7 (.bin .eql) [.t 6,zI 0],
 zM 8 7,
 cF 9 0 8 true,
 uq 10 9 8 true,
 c9 11 10 0 8 true,
 c7 12 11 8 true,
 bL 13 .aV [.t 12] 8 true,
 bL 14 (.bin .gtr) [.t 13,zI 0] 8 true,
 zP 15 .pick [.t 8,.t 14,.c (.bool false)]])
 (.cond (.t 15)
 (.seq (.ops [zV 2 4])
 .ret)
 .skip))
 (.seq (.ops [zM 16 0,
 zN 17 16,
 zF 18 17 1,
 zL 19 18,
 zM 2 19])
 .ret)))⟩
def UG:aj:=⟨27,[.tmp 2],
 (.seq (.ops [zB 1 0,
 zV 2 0])
 (.seq (.ops [zF 4 1 0,
 zL 5 4,
 zC 6 75 [.t 5,.c (.func (.func 76) [] [])],
 zM 7 6,
 c9 8 1 1 7 false,
 c7 9 8 7 false,
 bL 10 (.ec (.func 79) 0) [.t 1] 7 false,
 qt 11 78 [.t 9,.t 10] 7 false,
 zP 12 .pick [.t 7,.c (.bool true),.t 11],
 zM 3 12])
 (.seq (.seq (.ops [zM 13 3,
 zM 14 13,
 c9 15 1 0 14 false,
 c7 16 15 14 false,
 bL 17 .aV [.t 16] 14 false,
 qt 18 81 [.t 17,zI 1,zI 4] 14 false,
 bL 19 .not [.t 18] 14 false,
 zP 20 .pick [.t 14,.c (.bool true),.t 19],
 zM 21 20,
 c9 22 1 1 21 false,
 c7 23 22 21 false,
 bL 24 .aV [.t 23] 21 false,
 bL 25 (.bin .gtr) [.t 24,zI 8] 21 false,
 zP 26 .pick [.t 21,.c (.bool true),.t 25]])
 (.cond (.t 26)
 (.seq (.ops [zV 2 50])
 .ret)
 .skip))
 (.seq (.ops [zV 2 0])
 .ret))))⟩
def w6:AC:=(.seq (.ops [zR 17 (.bin .lss) 16 15])
 (.seq (.cond (.t 17)
 .skip
 (.exit 0))
 (.seq (.block 1 (.seq (.ops [zR 18 (.aB 6) 14 16,
 zO 19 6 18,
 ⟨some 6,none,.a (.alloc [zz,zz,zz,zz,zz,zz]),[]⟩,
 zS 6 [.t 6,.t 19]])
 (.seq (.ops [zO 21 6 6,
 cE 22 82 21,
 zM 20 22,
 zQ 23 (.ext 0) 20,
 zQ 24 (.ext 1) 20,
 zM 7 23,
 zM 8 24])
 (.seq (.seq (.ops [zM 25 8,
 zP 26 (.bin .neq) [.t 25,zI 0]])
 (.cond (.t 26)
 (.seq (.ops [zM 27 8,
 zK 2 .bJ,
 zM 3 27])
 .ret)
 .skip))
 (.bI [zM 28 4,
 zM 29 4,
 zN 30 29,
 zF 31 30 0,
 zL 32 31,
 zM 33 7,
 zF 34 6 1,
 zL 35 34,
 zF 36 6 2,
 zL 37 36,
 zP 38 (.build [.bJ,zz,zz] [(0,1),(1,1),(2,1)]) [.t 33,.t 35,.t 37],
 zB 39 38,
 ⟨some 40,none,.a (.aY [.bJ] 1 1 [0]),[.t 39]⟩,
 zA 41 1 8 32 40,
 zN 42 28,
 zF 43 42 0,
 zS 1 [.t 43,.t 41]] [[],[],[],[],[],[],[],[],[],[],[],[],[],[],[],[],[]])))))
 (.ops [zP 44 (.bin .add) [.t 16,zI 1],
 zM 16 44]))))
def UH:aj:=⟨46,[.tmp 2,.tmp 3],
 (.seq (.ops [zK 2 .bJ,
 zV 3 0])
 (.seq (.seq (.ops [zM 9 0,
 zQ 10 .aV 9,
 zP 11 (.bin .gtr) [.t 10,zI 8]])
 (.cond (.t 11)
 (.seq (.ops [zK 2 .bJ,
 zV 3 5])
 .ret)
 .skip))
 (.seq (.ops [zP 12 (.build [.az,(.bool false)] [(1,1)]) [.c (.bool true)],
 zB 13 12,
 zM 4 13])
 (.seq (.seq (.ops [zM 14 0,
 zQ 15 .aV 14,
 zV 16 0])
 (.block 0 (.loop w6)))
 (.seq (.ops [zM 45 4,
 zM 2 45,
 zV 3 0])
 .ret)))))⟩
def UI:aj:=⟨3,[.tmp 0],
 (.seq (.ops [zK 0 .bJ])
 (.seq (.ops [zP 1 (.build [(.bool false),.az,(.bool false),.az,(.bool false),.az,(.bool false),.az,(.bool false)] [(0,1)]) [.c (.bool true)],
 zB 2 1,
 zM 0 2])
 .ret))⟩
def uT:AC:=(.seq (.ops [zP 8 (.bin .lss) [.t 7,zI 4]])
 (.seq (.cond (.t 8)
 .skip
 (.exit 0))
 (.seq (.block 1 (.seq (.ops [zM 9 7,
 zM 3 9])
 (.bI [zM 10 1,
 zM 11 3,
 zO 12 5 2,
 zN 13 10,
 zF 14 13 1,
 zR 15 (.jD 5 4) 14 11,
 zS 5 [.t 15,.t 12]] [[],[],[],[],[],[],[]])))
 (.ops [zP 16 (.bin .add) [.t 7,zI 1],
 zM 7 16]))))
def UJ:aj:=⟨18,[.tmp 0],
 (.seq (.ops [zK 0 .bJ])
 (.seq (.ops [zP 4 (.build [(.bool false),zz,zz,zz,zz,zz,zz,zz,zz,zz,zz,zz,zz,zz,zz,zz,zz,zz,zz,zz,zz,zz,zz,zz,zz,zz,zz,zz,zz,zz,zz,zz,zz,zz,zz,zz,zz,zz,zz,zz,zz,zz,zz,zz,zz] [(0,1)]) [.c (.bool true)],
 zB 5 4,
 zM 1 5])
 (.seq (.ops [zP 6 (.build [zz,zz,zz,zz,zz] [(1,1),(2,1),(3,1)]) [zI 1,zI 1,zI 1],
 ⟨some 2,none,.a (.alloc [zz,zz,zz,zz,zz]),[]⟩,
 zS 5 [.t 2,.t 6]])
 (.seq (.seq (.ops [zV 7 0])
 (.block 0 (.loop uT)))
 (.seq (.ops [zM 17 1,
 zM 0 17])
 .ret)))))⟩
def UK:aj:=⟨4,[.tmp 0],
 (.seq (.ops [zK 0 .bJ])
 (.seq (.ops [KM 1 83,
 zQ 2 (.build [.bJ] [(0,1)]) 1,
 zB 3 2,
 zM 0 3])
 .ret))⟩
def rO:AC:=(.seq (.ops [zR 16 (.bin .lss) 15 14])
 (.seq (.cond (.t 16)
 .skip
 (.exit 0))
 (.seq (.block 1 (.seq (.ops [zM 17 15,
 zM 4 17])
 (.bI [zF 18 3 0,
 zL 19 18,
 zM 20 4,
 zF 21 3 0,
 zL 22 21,
 zM 23 4,
 zR 24 (.aB 3) 22 23,
 zF 25 24 2,
 zL 26 25,
 cE 27 86 26,
 zR 28 (.aB 3) 19 20,
 zF 29 28 2,
 zS 1 [.t 29,.t 27]] [[],[0,10],[],[],[],[],[],[],[],[],[],[],[]])))
 (.ops [zP 30 (.bin .add) [.t 15,zI 1],
 zM 15 30]))))
def UL:aj:=⟨32,[.cell 2 2 true],
 (.seq (.ops [zB 1 0,
 ⟨some 2,none,.a (.alloc [.az,.az]),[]⟩])
 (.seq (.bI [zF 5 1 0,
 zL 6 5,
 cE 7 84 6,
 zF 8 1 1,
 zL 9 8,
 cE 10 85 9,
 zR 11 (.build [.az,.az] [(0,1),(1,1)]) 7 10,
 ⟨some 3,none,.a (.alloc [.az,.az]),[]⟩,
 zS 2 [.t 3,.t 11]] [[],[],[],[],[0,3],[],[],[],[]])
 (.seq (.seq (.ops [zF 12 3 0,
 zL 13 12,
 zQ 14 .aV 13,
 zV 15 0])
 (.block 0 (.loop rO)))
 (.seq (.ops [zO 31 2 3,
 zS 2 [.t 2,.t 31]])
 .ret))))⟩
def UM:aj:=⟨12,[.tmp 2],
 (.seq (.ops [zK 2 (.bool false)])
 (.seq (.ops [zM 3 0,
 zP 4 (.eq .dF) [.t 3,.c .bJ],
 zM 5 4,
 cF 6 0 5 false,
 uq 7 6 5 false,
 c9 8 7 11 5 false,
 c7 9 8 5 false,
 bL 10 (.eq .iW) [.t 9,.c .az] 5 false,
 zP 11 .pick [.t 5,.c (.bool true),.t 10],
 zM 2 11])
 .ret))⟩
def UN:aj:=⟨3,[.tmp 0],
 (.seq (.ops [zK 0 .jg])
 (.seq (.ops [⟨some 1,none,.a .HH,[]⟩,
 ⟨none,none,.e .ins,[.t 1,zI 1,.c (.func (.func 87) [] [])]⟩,
 ⟨none,none,.e .ins,[.t 1,zI 2,.c (.func (.func 88) [] [])]⟩,
 ⟨none,none,.e .ins,[.t 1,zI 3,.c (.func (.func 89) [] [])]⟩,
 ⟨none,none,.e .ins,[.t 1,zI 4,.c (.func (.func 90) [] [])]⟩,
 ⟨none,none,.e .ins,[.t 1,zI 5,.c (.func (.func 91) [] [])]⟩,
 ⟨none,none,.e .ins,[.t 1,zI 6,.c (.func (.func 92) [] [])]⟩,
 ⟨none,none,.e .ins,[.t 1,zI 7,.c (.func (.func 93) [] [])]⟩,
 ⟨none,none,.e .ins,[.t 1,zI 8,.c (.func (.func 94) [] [])]⟩,
 zM 2 1,
 zM 0 2])
 .ret))⟩
def UO:aj:=⟨63,[.tmp 4],
 (.seq (.ops [zB 3 1,
 zV 4 0])
 (.seq (.seq (.ops [zF 5 3 0,
 zL 6 5,
 zP 7 (.bin .eql) [.t 6,zI 1]])
 (.cond (.t 7)
 (.seq (.ops [zV 4 0])
 .ret)
 .skip))
 (.seq (.seq (.bI [zF 8 3 1,
 zL 9 8,
 zP 10 (.bin .lss) [.t 9,zI 0],
 zM 11 10,
 c9 12 3 1 11 false,
 c7 13 12 11 false,
 cF 14 0 11 false,
 uq 15 14 11 false,
 c9 16 15 11 11 false,
 c7 17 16 11 false,
 bL 18 .aV [.t 17] 11 false,
 bL 19 (.bin .geq) [.t 13,.t 18] 11 false,
 zP 20 .pick [.t 11,.c (.bool true),.t 19]] [[],[],[],[],[],[],[],[],[],[],[],[],[]])
 (.cond (.t 20)
 (.seq (.ops [zV 4 9])
 .ret)
 .skip))
 (.seq (.seq (.ops [zF 21 3 0,
 zL 22 21,
 zP 23 (.bin .eql) [.t 22,zI 2],
 zM 24 23,
 c9 25 3 0 24 false,
 c7 26 25 24 false,
 bL 27 (.bin .eql) [.t 26,zI 6] 24 false,
 zP 28 .pick [.t 24,.c (.bool true),.t 27]])
 (.cond (.t 28)
 (.seq (.bI [zF 29 3 2,
 zL 30 29,
 zP 31 (.bin .lss) [.t 30,zI 0],
 zM 32 31,
 c9 33 3 2 32 false,
 c7 34 33 32 false,
 cF 35 0 32 false,
 uq 36 35 32 false,
 c9 37 36 4 32 false,
 c9 38 37 0 32 false,
 c7 39 38 32 false,
 c9 40 3 1 32 false,
 c7 41 40 32 false,
 bL 42 (.aB 3) [.t 39,.t 41] 32 false,
 c9 43 42 2 32 false,
 c7 44 43 32 false,
 bL 45 .aV [.t 44] 32 false,
 bL 46 (.bin .geq) [.t 34,.t 45] 32 false,
 zP 47 .pick [.t 32,.c (.bool true),.t 46]] [[],[],[],[],[],[],[],[],[],[],[],[],[],[],[],[],[],[],[]])
 (.cond (.t 47)
 (.seq (.ops [zV 4 9])
 .ret)
 .skip))
 .skip))
 (.seq (.seq (.ops [zF 48 3 0,
 zL 49 48,
 zP 50 (.bin .neq) [.t 49,zI 3],
 zM 51 50,
 c9 52 3 0 51 true,
 c7 53 52 51 true,
 bL 54 (.bin .neq) [.t 53,zI 8] 51 true,
 zP 55 .pick [.t 51,.t 54,.c (.bool false)],
 zM 56 55,
 cF 57 0 56 true,
 c9 58 3 1 56 true,
 c7 59 58 56 true,
 qt 60 95 [.t 57,.t 59] 56 true,
 bL 61 .not [.t 60] 56 true,
 zP 62 .pick [.t 56,.t 61,.c (.bool false)]])
 (.cond (.t 62)
 (.seq (.ops [zV 4 250])
 .ret)
 .skip))
 (.seq (.ops [zV 4 0])
 .ret))))))⟩
def UP:aj:=⟨8,[.tmp 2],
 (.seq (.ops [zK 2 .az])
 (.seq (.seq (.ops [zM 3 0,
 zP 4 (.eq .iW) [.t 3,.c .az]])
 (.cond (.t 4)
 (.seq (.ops [zK 2 .az])
 .ret)
 .skip))
 (.seq (.ops [⟨some 5,none,.a (.aY [zz,zz,zz,zz,zz,zz,(.str [])] 0 7 []),[]⟩,
 zM 6 0,
 zA 7 7 64 5 6,
 zM 2 7])
 .ret)))⟩
def j6:AC:=(.seq (.ops [zR 9 (.bin .lss) 8 7])
 (.seq (.cond (.t 9)
 .skip
 (.exit 0))
 (.seq (.block 1 (.seq (.ops [zM 10 8,
 zM 5 10])
 (.seq (.ops [zM 11 1,
 zM 12 0,
 zM 13 5,
 zR 14 (.aB 1) 12 13,
 zL 15 14,
 ⟨some 16,none,.call,[.t 11,.t 15]⟩])
 (.cond (.t 16)
 (.seq (.ops [zM 17 5,
 zM 4 17])
 .ret)
 .skip))))
 (.ops [zP 18 (.bin .add) [.t 8,zI 1],
 zM 8 18]))))
def TD:aj:=⟨19,[.tmp 4],
 (.seq (.ops [zV 4 0])
 (.seq (.seq (.ops [zM 6 0,
 zQ 7 .aV 6,
 zV 8 0])
 (.block 0 (.loop j6)))
 (.seq (.ops [zV 4 (-1)])
 .ret)))⟩
def jb:AC:=(.seq (.ops [zP 22 (.bin .lss) [.t 21,zI 5]])
 (.seq (.cond (.t 22)
 .skip
 (.exit 0))
 (.seq (.block 1 (.seq (.ops [zR 23 (.Ba 1 5 false) 20 21,
 zM 4 23])
 (.seq (.ops [zM 24 0,
 zM 25 4,
 ⟨some 26,none,.call,[.t 24,.t 25]⟩,
 zQ 27 .not 26])
 (.cond (.t 27)
 .ret
 .skip))))
 (.ops [zP 28 (.bin .add) [.t 21,zI 1],
 zM 21 28]))))
def QI:aj:=⟨29,[],
 (.seq (.bI [zL 5 1,
 zN 6 5,
 zF 7 6 0,
 zL 8 1,
 zN 9 8,
 zF 10 9 1,
 zL 11 1,
 zN 12 11,
 zF 13 12 2,
 zL 14 1,
 zN 15 14,
 zF 16 15 3,
 zL 17 1,
 zN 18 17,
 zF 19 18 4,
 zP 20 (.build [.bJ,.bJ,.bJ,.bJ,.bJ] [(0,1),(1,1),(2,1),(3,1),(4,1)]) [.t 7,.t 10,.t 13,.t 16,.t 19],
 zV 21 0] [[],[],[],[],[],[],[],[],[],[],[],[],[],[],[],[],[]])
 (.block 0 (.loop jb)))⟩
def TE:aj:=⟨20,[.tmp 3,.tmp 4],
 (.seq (.ops [zV 3 0,
 zV 4 0])
 (.seq (.seq (.bI [zL 5 0,
 zN 6 5,
 zF 7 6 0,
 zL 8 7,
 zQ 9 .aV 8,
 zL 10 1,
 zR 11 (.bin .lss) 9 10] [[],[],[],[],[],[],[]])
 (.cond (.t 11)
 (.seq (.ops [zV 3 0,
 zV 4 3])
 .ret)
 .skip))
 (.seq (.bI [zL 12 0,
 zN 13 12,
 zF 14 13 0,
 zL 15 14,
 zL 16 1,
 zR 17 (.slice 1 false true false) 15 16,
 ⟨some 18,none,.r .toStr,[.t 17]⟩,
 zS 1 [.t 2,.t 18]] [[],[],[],[],[],[],[],[]])
 (.seq (.ops [zL 19 1,
 zM 3 19,
 zV 4 0])
 .ret))))⟩
def TF:aj:=⟨12,[.tmp 4],
 (.seq (.ops [zV 4 0])
 (.seq (.ops [zM 5 0,
 zM 6 1,
 zN 7 5,
 zF 8 7 1,
 zS 1 [.t 8,.t 6]])
 (.seq (.ops [zM 9 0,
 zN 10 9,
 zF 11 10 0,
 zS 1 [.t 11,.c .az]])
 (.seq (.ops [zV 4 0])
 .ret))))⟩
def UQ:aj:=⟨9,[.tmp 4],
 (.seq (.ops [zK 4 (.bool false)])
 (.seq (.ops [zM 5 0,
 zM 6 1,
 fF 7 96 5 6,
 zP 8 (.bin .geq) [.t 7,zI 0],
 zM 4 8])
 .ret))⟩
def UR:aj:=⟨6,[.tmp 2],
 (.seq (.ops [zB 1 0,
 zK 2 (.bool false)])
 (.seq (.ops [zO 3 3 1,
 cE 4 77 3,
 zQ 5 .not 4,
 zM 2 5])
 .ret))⟩
def US:aj:=⟨26,[.tmp 2],
 (.seq (.ops [zB 1 0,
 zK 2 (.bool false)])
 (.seq (.seq (.ops [zF 3 1 0,
 zL 4 3,
 zC 5 81 [.t 4,zI 1,zI 64],
 zQ 6 .not 5,
 zM 7 6,
 c9 8 1 1 7 false,
 c7 9 8 7 false,
 c9 10 1 0 7 false,
 c7 11 10 7 false,
 qt 12 81 [.t 9,zI 1,.t 11] 7 false,
 bL 13 .not [.t 12] 7 false,
 zP 14 .pick [.t 7,.c (.bool true),.t 13],
 zM 15 14,
 c9 16 1 2 15 false,
 c7 17 16 15 false,
 bL 18 .aV [.t 17] 15 false,
 bL 19 (.bin .gtr) [.t 18,zI 4] 15 false,
 zP 20 .pick [.t 15,.c (.bool true),.t 19]])
 (.cond (.t 20)
 (.seq (.ops [zK 2 (.bool false)])
 .ret)
 .skip))
 (.seq (.ops [zF 21 1 2,
 zL 22 21,
 zQ 23 (.ec (.func 98) 0) 1,
 fF 24 97 22 23,
 zQ 25 .not 24,
 zM 2 25])
 .ret)))⟩
def UT:aj:=⟨9,[.tmp 4],
 (.seq (.ops [zK 4 (.bool false)])
 (.seq (.ops [zM 5 0,
 zM 6 1,
 fF 7 100 5 6,
 zP 8 (.bin .geq) [.t 7,zI 0],
 zM 4 8])
 .ret))⟩
def UU:aj:=⟨15,[.tmp 6],
 (.seq (.ops [zK 6 (.bool false)])
 (.seq (.ops [zM 7 1,
 zM 8 0,
 zR 9 (.bin .leq) 7 8,
 zM 10 9,
 cF 11 0 10 true,
 cF 12 2 10 true,
 bL 13 (.bin .leq) [.t 11,.t 12] 10 true,
 zP 14 .pick [.t 10,.t 13,.c (.bool false)],
 zM 6 14])
 .ret))⟩
def UW:aj:=⟨5,[.tmp 0],
 (.seq (.ops [zK 0 .bJ])
 (.seq (.ops [zP 1 (.build [.az,zz,zz,zz,zz,zz,zz,zz,zz,zz,zz,zz,zz,zz,zz,zz,zz,zz,zz,zz,zz,zz,zz,zz,zz,zz,zz,zz,zz,zz,zz,zz,zz,zz,zz,zz,zz,zz,zz,zz,zz,zz,zz,zz,zz,zz,zz,zz,zz,zz,zz,zz,zz,zz,zz,zz,zz,zz,zz,zz,zz,zz,zz,zz,zz] []) [],
 zB 2 1,
 zQ 3 (.build [.bJ] [(0,1)]) 2,
 zB 4 3,
 zM 0 4])
 .ret))⟩
def UX:aj:=⟨8,[.tmp 2],
 (.seq (.ops [zK 2 .az])
 (.seq (.seq (.ops [zM 3 0,
 zP 4 (.eq .iW) [.t 3,.c .az]])
 (.cond (.t 4)
 (.seq (.ops [zK 2 .az])
 .ret)
 .skip))
 (.seq (.ops [⟨some 5,none,.a (.aY [zz,zz,.az] 0 3 []),[]⟩,
 zM 6 0,
 zA 7 3 40 5 6,
 zM 2 7])
 .ret)))⟩
def UY:aj:=⟨8,[.tmp 2],
 (.seq (.ops [zK 2 .az])
 (.seq (.seq (.ops [zM 3 0,
 zP 4 (.eq .iW) [.t 3,.c .az]])
 (.cond (.t 4)
 (.seq (.ops [zK 2 .az])
 .ret)
 .skip))
 (.seq (.ops [⟨some 5,none,.a (.aY [zz,zz,zz,zz,zz,zz] 0 6 []),[]⟩,
 zM 6 0,
 zA 7 6 48 5 6,
 zM 2 7])
 .ret)))⟩
def UZ:aj:=⟨8,[.tmp 2],
 (.seq (.ops [zK 2 .az])
 (.seq (.seq (.ops [zM 3 0,
 zP 4 (.eq .iW) [.t 3,.c .az]])
 (.cond (.t 4)
 (.seq (.ops [zK 2 .az])
 .ret)
 .skip))
 (.seq (.ops [⟨some 5,none,.a (.aY [zz,zz,zz,zz,zz,zz,zz,zz] 0 8 []),[]⟩,
 zM 6 0,
 zA 7 8 64 5 6,
 zM 2 7])
 .ret)))⟩
def mJ:AC:=(.seq (.ops [zR 24 (.bin .lss) 23 22])
 (.seq (.cond (.t 24)
 .skip
 (.exit 1))
 (.seq (.block 2 (.ops [zM 25 0,
 cE 26 102 25]))
 (.ops [zP 27 (.bin .add) [.t 23,zI 1],
 zM 23 27]))))
def U0:aj:=⟨28,[.tmp 4],
 (.seq (.ops [zB 3 1,
 zV 4 0])
 (.seq (.block 0 (.seq (.seq (.ops [zF 6 3 3,
 zL 7 6,
 zP 8 (.bin .lss) [.t 7,zI 1],
 zM 5 8])
 (.cond (.t 5)
 .skip
 (.ops [zF 9 3 3,
 zL 10 9,
 zP 11 (.bin .gtr) [.t 10,zI 64],
 zM 5 11])))
 (.cond (.t 5)
 (.seq (.ops [zV 4 2])
 .ret)
 (.seq (.bI [zM 13 0,
 zN 14 13,
 zF 15 14 10,
 zL 16 15,
 zF 17 3 3,
 zL 18 17,
 zR 19 (.bin .add) 16 18,
 zP 20 (.bin .gtr) [.t 19,zI 1099511627776],
 zM 12 20] [[],[],[],[],[],[],[],[],[]])
 (.cond (.t 12)
 (.seq (.ops [zV 4 10])
 .ret)
 .skip)))))
 (.seq (.seq (.ops [zF 21 3 3,
 zL 22 21,
 zV 23 0])
 (.block 1 (.loop mJ)))
 (.seq (.ops [zV 4 0])
 .ret))))⟩
def U1:aj:=⟨95,[.tmp 4],
 (.seq (.ops [zB 3 1,
 zV 4 0])
 (.seq (.seq (.bI [zM 10 0,
 zF 11 3 1,
 zL 12 11,
 fF 13 95 10 12,
 zM 14 13,
 cF 15 0 14 false,
 qt 16 107 [.t 15] 14 false,
 zP 17 .pick [.t 14,.c (.bool true),.t 16],
 zM 18 17,
 cF 19 0 18 false,
 uq 20 19 18 false,
 c9 21 20 10 18 false,
 c7 22 21 18 false,
 cF 23 0 18 false,
 uq 24 23 18 false,
 c9 25 24 9 18 false,
 c7 26 25 18 false,
 bL 27 (.bin .lss) [.t 22,.t 26] 18 false,
 zP 28 .pick [.t 18,.c (.bool true),.t 27]] [[],[],[],[],[],[],[],[],[],[],[],[],[],[],[],[],[],[],[]])
 (.cond (.t 28)
 (.seq (.ops [zV 4 250])
 .ret)
 .skip))
 (.seq (.seq (.bI [zM 29 0,
 zN 30 29,
 zF 31 30 4,
 zO 32 2 31,
 zM 33 0,
 cE 34 109 33,
 zF 35 3 1,
 zL 36 35,
 Er 37 108 32 34 36,
 zM 5 37] [[],[],[],[0,6],[],[],[],[0,6],[],[]])
 (.seq (.ops [zM 38 5,
 zP 39 (.bin .neq) [.t 38,zI 0]])
 (.cond (.t 39)
 (.seq (.ops [zM 40 5,
 zM 4 40])
 .ret)
 .skip)))
 (.seq (.bI [zM 41 0,
 zN 42 41,
 zF 43 42 4,
 zF 44 43 0,
 zL 45 44,
 zF 46 3 1,
 zL 47 46,
 zR 48 (.aB 3) 45 47,
 zO 49 3 48,
 ⟨some 6,none,.a (.alloc [zz,zz,.az]),[]⟩,
 zS 3 [.t 6,.t 49]] [[],[],[],[],[],[],[],[],[],[],[]])
 (.seq (.bI [zF 51 6 0,
 zL 52 51,
 zF 53 6 1,
 zL 54 53,
 zM 55 0,
 zN 56 55,
 zF 57 56 10,
 zL 58 57,
 Er 59 110 52 54 58,
 zM 50 59,
 zQ 60 (.ext 0) 50,
 zQ 61 (.ext 1) 50,
 zM 7 60,
 zM 8 61] [[],[],[],[],[],[],[],[],[],[],[],[],[],[]])
 (.seq (.seq (.ops [zM 62 8,
 zP 63 (.bin .neq) [.t 62,zI 0]])
 (.cond (.t 63)
 (.seq (.ops [zM 64 8,
 zM 4 64])
 .ret)
 .skip))
 (.seq (.ops [zF 66 6 2,
 zL 67 66,
 cE 68 111 67,
 zM 65 68,
 zQ 69 (.ext 0) 65,
 zQ 70 (.ext 1) 65,
 zM 9 69,
 zM 8 70])
 (.seq (.seq (.ops [zM 71 8,
 zP 72 (.bin .neq) [.t 71,zI 0]])
 (.cond (.t 72)
 (.seq (.ops [zM 73 8,
 zM 4 73])
 .ret)
 .skip))
 (.seq (.bI [zM 74 0,
 zN 75 74,
 zF 76 75 11,
 zL 77 76,
 zF 78 3 1,
 zL 79 78,
 zM 80 0,
 zN 81 80,
 zF 82 81 12,
 zL 83 82,
 zF 84 3 1,
 zL 85 84,
 zM 86 7,
 zM 87 9,
 zR 88 (.aB 1) 77 79,
 zS 1 [.t 88,.t 86],
 zR 89 (.aB 1) 83 85,
 zS 1 [.t 89,.t 87]] [[],[],[],[],[],[],[],[],[],[],[],[0,16],[],[],[],[],[],[]])
 (.seq (.ops [zM 90 0,
 zF 91 3 1,
 zL 92 91,
 zP 93 (.build [zz,zz,zz,zz,zz,zz,(.str [])] []) [],
 ⟨some 94,none,.call,[.c (.func (.func 105) [] []),.t 90,zI 6,.t 92,zI 0,.t 93]⟩])
 (.seq (.ops [zV 4 0])
 .ret)))))))))))⟩
def U2:aj:=⟨31,[.tmp 4],
 (.seq (.ops [zK 4 (.bool false)])
 (.seq (.ops [zM 5 0,
 cE 6 67 5,
 zQ 7 .not 6,
 zM 8 7,
 cF 9 1 8 true,
 bL 10 (.bin .geq) [.t 9,zI 0] 8 true,
 zP 11 .pick [.t 8,.t 10,.c (.bool false)],
 zM 12 11,
 cF 13 1 12 true,
 cF 14 0 12 true,
 uq 15 14 12 true,
 c9 16 15 11 12 true,
 c7 17 16 12 true,
 bL 18 .aV [.t 17] 12 true,
 bL 19 (.bin .lss) [.t 13,.t 18] 12 true,
 zP 20 .pick [.t 12,.t 19,.c (.bool false)],
 zM 21 20,
 cF 22 0 21 true,
 uq 23 22 21 true,
 c9 24 23 11 21 true,
 c7 25 24 21 true,
 cF 26 1 21 true,
 bL 27 (.aB 1) [.t 25,.t 26] 21 true,
 c7 28 27 21 true,
 bL 29 (.neq .dF) [.t 28,.c .bJ] 21 true,
 zP 30 .pick [.t 21,.t 29,.c (.bool false)],
 zM 4 30])
 .ret))⟩
def gu:AC:=(.seq (.ops [zR 9 (.bin .lss) 8 7])
 (.seq (.cond (.t 9)
 .skip
 (.exit 0))
 (.seq (.block 1 (.seq (.ops [zM 10 8,
 zM 5 10])
 (.seq (.ops [zM 11 1,
 zM 12 0,
 zM 13 5,
 zR 14 (.aB 3) 12 13,
 zO 15 3 14,
 ⟨some 16,none,.call,[.t 11,.t 15]⟩])
 (.cond (.t 16)
 (.seq (.ops [zM 17 5,
 zM 4 17])
 .ret)
 .skip))))
 (.ops [zP 18 (.bin .add) [.t 8,zI 1],
 zM 8 18]))))
def U3:aj:=⟨19,[.tmp 4],
 (.seq (.ops [zV 4 0])
 (.seq (.seq (.ops [zM 6 0,
 zQ 7 .aV 6,
 zV 8 0])
 (.block 0 (.loop gu)))
 (.seq (.ops [zV 4 (-1)])
 .ret)))⟩
def U4:aj:=⟨9,[.tmp 4],
 (.seq (.ops [zK 4 (.bool false)])
 (.seq (.ops [zM 5 0,
 zM 6 1,
 fF 7 119 5 6,
 zP 8 (.bin .geq) [.t 7,zI 0],
 zM 4 8])
 .ret))⟩
def U5:aj:=⟨9,[.tmp 3],
 (.seq (.ops [zB 2 0,
 zK 3 (.bool false)])
 (.seq (.ops [zO 4 8 2,
 zF 5 1 1,
 zL 6 5,
 fF 7 99 4 6,
 zQ 8 .not 7,
 zM 3 8])
 .ret))⟩
def U6:aj:=⟨86,[.tmp 4],
 (.seq (.ops [zB 2 0,
 zK 4 (.bool false)])
 (.seq (.ops [zF 6 2 0,
 zL 7 6,
 zC 8 81 [.t 7,zI 1,zI 64],
 zM 9 8,
 c9 10 2 1 9 true,
 c7 11 10 9 true,
 c9 12 2 0 9 true,
 c7 13 12 9 true,
 qt 14 81 [.t 11,zI 1,.t 13] 9 true,
 zP 15 .pick [.t 9,.t 14,.c (.bool false)],
 zM 16 15,
 c9 17 2 2 16 true,
 c7 18 17 16 true,
 c9 19 2 1 16 true,
 c7 20 19 16 true,
 qt 21 81 [.t 18,zI 1,.t 20] 16 true,
 zP 22 .pick [.t 16,.t 21,.c (.bool false)],
 zM 5 22])
 (.seq (.seq (.ops [zM 23 5,
 zQ 24 .not 23,
 zM 25 24,
 c9 26 2 3 25 false,
 c7 27 26 25 false,
 qt 28 81 [.t 27,zI 0,zI 255] 25 false,
 bL 29 .not [.t 28] 25 false,
 zP 30 .pick [.t 25,.c (.bool true),.t 29],
 zM 31 30,
 c9 32 2 5 31 false,
 c7 33 32 31 false,
 qt 34 81 [.t 33,zI 0,zI 4] 31 false,
 bL 35 .not [.t 34] 31 false,
 zP 36 .pick [.t 31,.c (.bool true),.t 35]])
 (.cond (.t 36)
 (.seq (.ops [zK 4 (.bool false)])
 .ret)
 .skip))
 (.seq (.seq (.ops [zF 37 2 3,
 zL 38 37,
 zP 39 (.bin .eql) [.t 38,zI 0],
 zM 40 39,
 c9 41 2 4 40 true,
 c7 42 41 40 true,
 bL 43 (.bin .neq) [.t 42,zI 0] 40 true,
 zP 44 .pick [.t 40,.t 43,.c (.bool false)],
 zM 45 44,
 c9 46 2 3 45 false,
 c7 47 46 45 false,
 bL 48 (.bin .neq) [.t 47,zI 0] 45 false,
 cF 49 48 45 false,
 c9 50 2 4 49 true,
 c7 51 50 49 true,
 c9 52 2 2 49 true,
 c7 53 52 49 true,
 qt 54 81 [.t 51,zI 1,.t 53] 49 true,
 bL 55 .not [.t 54] 49 true,
 bL 56 .pick [.t 49,.t 55,.c (.bool false)] 45 false,
 zP 57 .pick [.t 45,.c (.bool true),.t 56]])
 (.cond (.t 57)
 (.seq (.ops [zK 4 (.bool false)])
 .ret)
 .skip))
 (.seq (.seq (.ops [zF 58 2 5,
 zL 59 58,
 zP 60 (.bin .eql) [.t 59,zI 0]])
 (.cond (.t 60)
 (.seq (.ops [zF 61 2 6,
 zL 62 61,
 zP 63 (.bin .eql) [.t 62,zI 0],
 zM 64 63,
 c9 65 2 7 64 true,
 c7 66 65 64 true,
 bL 67 (.bin .eql) [.t 66,zI 0] 64 true,
 zP 68 .pick [.t 64,.t 67,.c (.bool false)],
 zM 4 68])
 .ret)
 .skip))
 (.seq (.bI [zF 69 2 6,
 zL 70 69,
 zM 71 1,
 zF 72 2 2,
 zL 73 72,
 zR 74 .mn 71 73,
 zC 75 81 [.t 70,zI 1,.t 74],
 zM 76 75,
 c9 77 2 7 76 true,
 c7 78 77 76 true,
 c9 79 2 2 76 true,
 c7 80 79 76 true,
 c9 81 2 6 76 true,
 c7 82 81 76 true,
 bL 83 (.bin .quo) [.t 80,.t 82] 76 true,
 qt 84 81 [.t 78,zI 1,.t 83] 76 true,
 zP 85 .pick [.t 76,.t 84,.c (.bool false)],
 zM 4 85] [[],[],[],[],[],[],[],[],[],[],[],[],[],[],[],[],[],[]])
 .ret))))))⟩
def gv:AC:=(.seq (.ops [zR 9 (.bin .lss) 8 7])
 (.seq (.cond (.t 9)
 .skip
 (.exit 0))
 (.seq (.block 1 (.seq (.ops [zM 10 8,
 zM 5 10])
 (.seq (.ops [zM 11 1,
 zM 12 0,
 zM 13 5,
 zR 14 (.aB 6) 12 13,
 zO 15 6 14,
 ⟨some 16,none,.call,[.t 11,.t 15]⟩])
 (.cond (.t 16)
 (.seq (.ops [zM 17 5,
 zM 4 17])
 .ret)
 .skip))))
 (.ops [zP 18 (.bin .add) [.t 8,zI 1],
 zM 8 18]))))
def LA:aj:=⟨19,[.tmp 4],
 (.seq (.ops [zV 4 0])
 (.seq (.seq (.ops [zM 6 0,
 zQ 7 .aV 6,
 zV 8 0])
 (.block 0 (.loop gv)))
 (.seq (.ops [zV 4 (-1)])
 .ret)))⟩
def LB:aj:=⟨44,[],
 (.seq (.ops [zM 4 0,
 zM 5 0,
 zQ 6 (.ec (.func 122) 1) 5,
 fF 7 121 4 6])
 (.seq (.ops [zM 8 0,
 zM 9 0,
 zQ 10 (.ec (.func 123) 1) 9,
 fF 11 121 8 10])
 (.seq (.ops [zM 12 0,
 cE 13 124 12])
 (.seq (.seq (.ops [zM 15 0,
 zN 16 15,
 zF 17 16 11,
 zL 18 17,
 cE 19 125 18,
 zM 14 19,
 zQ 20 (.ext 0) 14,
 zQ 21 (.ext 1) 14,
 zM 2 20,
 zM 3 21])
 (.seq (.ops [zM 22 3])
 (.cond (.t 22)
 (.seq (.ops [zM 23 0,
 zM 24 2,
 fF 25 126 23 24])
 (.seq (.ops [zM 26 0,
 zM 27 2,
 fF 28 95 26 27])
 (.cond (.t 28)
 (.ops [zM 29 0,
 zN 30 29,
 zF 31 30 11,
 zL 32 31,
 zM 33 2,
 zR 34 (.aB 1) 32 33,
 zL 35 34,
 cE 36 127 35])
 .skip)))
 .skip)))
 (.ops [zM 37 0,
 zN 38 37,
 zF 39 38 10,
 zL 40 39,
 zP 41 (.bin .add) [.t 40,zI 1],
 zN 42 37,
 zF 43 42 10,
 zS 1 [.t 43,.t 41]])))))⟩
def LC:aj:=⟨26,[.tmp 2],
 (.seq (.ops [zK 2 (.bool false)])
 (.seq (.ops [zM 3 0,
 cE 4 128 3,
 zQ 5 .not 4,
 zM 6 5,
 cF 7 0 6 true,
 uq 8 7 6 true,
 c9 9 8 6 6 true,
 c7 10 9 6 true,
 bL 11 .not [.t 10] 6 true,
 zP 12 .pick [.t 6,.t 11,.c (.bool false)],
 zM 13 12,
 cF 14 0 13 true,
 uq 15 14 13 true,
 c9 16 15 5 13 true,
 c7 17 16 13 true,
 cF 18 17 13 true,
 cF 19 0 18 false,
 uq 20 19 18 false,
 c9 21 20 4 18 false,
 c7 22 21 18 false,
 bL 23 (.neq .dF) [.t 22,.c .bJ] 18 false,
 bL 24 .pick [.t 18,.c (.bool true),.t 23] 13 true,
 zP 25 .pick [.t 13,.t 24,.c (.bool false)],
 zM 2 25])
 .ret))⟩
def LD:aj:=⟨31,[],
 (.seq (.ops [zB 9 4])
 (.seq (.ops [zM 10 0,
 zN 11 10,
 zF 12 11 10,
 zL 13 12,
 zM 14 1,
 zM 15 2,
 zM 16 3,
 zF 17 9 0,
 zS 1 [.t 17,.t 13],
 zF 18 9 1,
 zS 1 [.t 18,.t 14],
 zF 19 9 2,
 zS 1 [.t 19,.t 15],
 zF 20 9 3,
 zS 1 [.t 20,.t 16]])
 (.bI [zM 21 0,
 zM 22 0,
 zN 23 22,
 zF 24 23 13,
 zL 25 24,
 zO 26 7 9,
 ⟨some 27,none,.a (.aY [zz,zz,zz,zz,zz,zz,(.str [])] 1 7 [0]),[.t 26]⟩,
 zA 28 7 64 25 27,
 zN 29 21,
 zF 30 29 13,
 zS 1 [.t 30,.t 28]] [[],[],[],[],[],[],[],[],[],[],[]])))⟩
def LF:aj:=⟨8,[.tmp 2],
 (.seq (.ops [zK 2 (.bool false)])
 (.seq (.ops [zM 3 0,
 zN 4 3,
 zF 5 4 11,
 zL 6 5,
 zC 7 136 [.t 6,.c (.func (.func 103) [] [])],
 zM 2 7])
 .ret))⟩
def LG:aj:=⟨39,[.tmp 6],
 (.seq (.ops [zB 3 0,
 zV 6 0])
 (.seq (.seq (.ops [zO 9 2 3,
 zM 10 1,
 fF 11 137 9 10,
 zM 7 11])
 (.seq (.ops [zM 12 7,
 zP 13 (.bin .neq) [.t 12,zI 0]])
 (.cond (.t 13)
 (.seq (.ops [zM 14 7,
 zM 6 14])
 .ret)
 .skip)))
 (.seq (.seq (.ops [zM 15 2,
 zP 16 (.bin .lss) [.t 15,zI 0],
 zM 17 16,
 cF 18 2 17 false,
 cF 19 1 17 false,
 bL 20 .aV [.t 19] 17 false,
 bL 21 (.bin .geq) [.t 18,.t 20] 17 false,
 zP 22 .pick [.t 17,.c (.bool true),.t 21]])
 (.cond (.t 22)
 (.seq (.ops [zV 6 9])
 .ret)
 .skip))
 (.seq (.ops [⟨some 8,none,.a (.alloc [(.bool false),(.bool false),(.bool false),(.bool false)]),[]⟩])
 (.seq (.ops [zQ 23 (.iL 1 4 false false false) 8,
 zM 24 1,
 ⟨some 25,none,.e (.copy 1),[.t 23,.t 24]⟩])
 (.seq (.ops [zM 26 2,
 zR 27 (.jD 1 4) 8 26,
 zS 1 [.t 27,.c (.bool true)]])
 (.seq (.bI [zO 29 2 3,
 zM 30 1,
 zQ 31 .aV 30,
 zR 32 (.iL 1 4 false true false) 8 31,
 fF 33 138 29 32,
 zM 28 33,
 zQ 34 (.ext 0) 28,
 zQ 35 (.ext 1) 28,
 zQ 36 (.ext 2) 28,
 zM 6 36] [[],[],[],[],[],[],[],[],[],[]])
 (.seq (.ops [zQ 37 (.iL 1 4 false false false) 8,
 ⟨none,none,.e (.clear [(.bool false)]),[.t 37]⟩])
 (.seq (.ops [zM 38 6,
 zM 6 38])
 .ret)))))))))⟩
def LH:aj:=⟨14,[.tmp 2],
 (.seq (.ops [zK 2 .az])
 (.seq (.ops [zM 4 0,
 zN 5 4,
 zF 6 5 11,
 zL 7 6,
 zQ 8 .aV 7,
 ⟨some 9,none,.a (.eG [(.bool false)] 1 1),[.t 8,.t 8]⟩,
 ⟨some 3,none,.a (.alloc [.az]),[]⟩,
 zS 1 [.t 3,.t 9]])
 (.seq (.ops [zM 10 0,
 zQ 11 (.ec (.func 139) 0) 3,
 fF 12 121 10 11])
 (.seq (.ops [zL 13 3,
 zM 2 13])
 .ret))))⟩
def LI:aj:=⟨28,[.tmp 6,.tmp 7],
 (.seq (.ops [zK 6 .bJ,
 zV 7 0])
 (.seq (.ops [zM 9 0,
 zM 10 1,
 zR 11 (.build [zz,zz] [(0,1),(1,1)]) 9 10,
 ⟨some 8,none,.a (.alloc [zz,zz]),[]⟩,
 zS 2 [.t 8,.t 11]])
 (.seq (.block 0 (.seq (.seq (.ops [zO 13 2 8,
 cE 14 140 13,
 zQ 15 .not 14,
 zM 12 15])
 (.cond (.t 12)
 .skip
 (.ops [zM 16 2,
 zP 17 (.bin .lss) [.t 16,zI 0],
 zM 12 17])))
 (.cond (.t 12)
 (.seq (.ops [zK 6 .bJ,
 zV 7 2])
 .ret)
 (.seq (.ops [zM 19 2,
 zP 20 (.bin .gtr) [.t 19,zI 1099511627776],
 zM 18 20])
 (.cond (.t 18)
 (.seq (.ops [zK 6 .bJ,
 zV 7 10])
 .ret)
 .skip)))))
 (.seq (.ops [zO 21 2 8,
 zM 22 1,
 zM 23 2,
 zM 24 0,
 zR 25 (.bin .add) 23 24,
 zP 26 (.build [zz,zz,zz,zz,.bJ,(.bool false),(.bool false),zz] [(0,2),(2,1),(3,1)]) [.t 21,.t 22,.t 25],
 zB 27 26,
 zM 6 27,
 zV 7 0])
 .ret))))⟩
def yO:AC:=(.seq (.ops [zR 28 (.bin .lss) 27 26])
 (.seq (.cond (.t 28)
 .skip
 (.exit 0))
 (.seq (.block 1 (.seq (.ops [zR 29 (.aB 8) 25 27,
 zO 30 8 29,
 ⟨some 7,none,.a (.alloc [zz,zz,zz,zz,zz,zz,zz,zz]),[]⟩,
 zS 8 [.t 7,.t 30]])
 (.seq (.ops [zF 32 7 0,
 zL 33 32,
 cE 34 142 33,
 zM 31 34,
 zQ 35 (.ext 0) 31,
 zQ 36 (.ext 1) 31,
 zM 8 35,
 zM 9 36])
 (.ops [zM 37 5,
 zM 38 5,
 zN 39 38,
 zF 40 39 3,
 zL 41 40,
 zM 42 8,
 ⟨some 43,none,.a (.aY [.bJ] 1 1 [0]),[.t 42]⟩,
 zA 44 1 8 41 43,
 zN 45 37,
 zF 46 45 3,
 zS 1 [.t 46,.t 44]]))))
 (.ops [zP 47 (.bin .add) [.t 27,zI 1],
 zM 27 47]))))
def LJ:aj:=⟨66,[.tmp 2,.tmp 3],
 (.seq (.ops [zK 2 .bJ,
 zV 3 0])
 (.seq (.seq (.ops [zM 10 0,
 zM 11 0,
 zQ 12 .aV 11,
 ⟨some 13,none,.a (.eG [zz] 1 8),[.t 12,.t 12]⟩,
 fF 14 141 10 13,
 zM 4 14])
 (.seq (.ops [zM 15 4,
 zP 16 (.bin .neq) [.t 15,zI 0]])
 (.cond (.t 16)
 (.seq (.ops [zM 17 4,
 zK 2 .bJ,
 zM 3 17])
 .ret)
 .skip)))
 (.seq (.bI [zM 18 0,
 cE 19 86 18,
 zM 20 0,
 zQ 21 .aV 20,
 ⟨some 22,none,.a (.eG [.bJ] 1 8),[.t 21,.t 21]⟩,
 zR 23 (.build [.bJ,.bJ,.az,.az,.az] [(2,1),(4,1)]) 19 22,
 zB 24 23,
 zM 5 24] [[],[],[],[],[],[],[],[]])
 (.seq (.seq (.ops [zM 25 0,
 zQ 26 .aV 25,
 zV 27 0])
 (.block 0 (.loop yO)))
 (.seq (.ops [zM 49 5,
 zM 50 0,
 cE 51 143 50,
 zM 48 51,
 zQ 52 (.ext 0) 48,
 zQ 53 (.ext 1) 48,
 zN 54 49,
 zF 55 54 0,
 zS 1 [.t 55,.t 52]])
 (.seq (.ops [zM 57 5,
 zM 58 0,
 zQ 59 .aV 58,
 cE 60 144 59,
 zM 56 60,
 zQ 61 (.ext 0) 56,
 zQ 62 (.ext 1) 56,
 zN 63 57,
 zF 64 63 1,
 zS 1 [.t 64,.t 61]])
 (.seq (.ops [zM 65 5,
 zM 2 65,
 zV 3 0])
 .ret)))))))⟩
def gw:AC:=(.seq (.ops [zR 9 (.bin .lss) 8 7])
 (.seq (.cond (.t 9)
 .skip
 (.exit 0))
 (.seq (.block 1 (.seq (.ops [zM 10 8,
 zM 5 10])
 (.seq (.ops [zM 11 1,
 zM 12 0,
 zM 13 5,
 zR 14 (.aB 8) 12 13,
 zO 15 8 14,
 ⟨some 16,none,.call,[.t 11,.t 15]⟩])
 (.cond (.t 16)
 (.seq (.ops [zM 17 5,
 zM 4 17])
 .ret)
 .skip))))
 (.ops [zP 18 (.bin .add) [.t 8,zI 1],
 zM 8 18]))))
def LL:aj:=⟨19,[.tmp 4],
 (.seq (.ops [zV 4 0])
 (.seq (.seq (.ops [zM 6 0,
 zQ 7 .aV 6,
 zV 8 0])
 (.block 0 (.loop gw)))
 (.seq (.ops [zV 4 (-1)])
 .ret)))⟩
def ni:AC:=(.seq (.ops [zR 11 (.bin .lss) 10 9])
 (.seq (.cond (.t 11)
 .skip
 (.exit 0))
 (.seq (.block 1 (.seq (.ops [zM 12 10,
 zM 4 12])
 (.seq (.ops [zM 13 0,
 zM 14 4,
 fF 15 95 13 14])
 (.cond (.t 15)
 (.ops [zM 16 1,
 zM 17 4,
 ⟨some 18,none,.call,[.t 16,.t 17]⟩])
 .skip))))
 (.ops [zP 19 (.bin .add) [.t 10,zI 1],
 zM 10 19]))))
def LM:aj:=⟨20,[],
 (.seq (.ops [zM 5 0,
 zN 6 5,
 zF 7 6 11,
 zL 8 7,
 zQ 9 .aV 8,
 zV 10 0])
 (.block 0 (.loop ni)))⟩
def LN:aj:=⟨75,[],
 (.seq (.bI [zM 8 0,
 zN 9 8,
 zF 10 9 11,
 zL 11 10,
 zM 12 1,
 zR 13 (.aB 1) 11 12,
 zL 14 13,
 zM 15 0,
 zN 16 15,
 zF 17 16 10,
 zL 18 17,
 fF 19 151 14 18,
 zM 7 19,
 zQ 20 (.ext 0) 7,
 zQ 21 (.ext 1) 7,
 zM 4 20,
 zM 5 21] [[],[],[],[],[],[],[],[],[],[],[],[],[],[],[],[],[]])
 (.block 0 (.seq (.ops [zM 23 4,
 zQ 24 .not 23,
 zM 22 24])
 (.cond (.t 22)
 .skip
 (.seq (.ops [zM 26 0,
 zN 27 26,
 zF 28 27 11,
 zL 29 28,
 zM 30 1,
 zR 31 (.aB 1) 29 30,
 zL 32 31,
 cE 33 152 32,
 zM 25 33])
 (.cond (.t 25)
 (.ops [zM 34 0,
 zM 35 1,
 fF 36 117 34 35])
 (.seq (.ops [zM 38 0,
 zN 39 38,
 zF 40 39 8,
 zL 41 40,
 zM 42 1,
 zR 43 (.bin .eql) 41 42,
 zM 37 43])
 (.cond (.t 37)
 (.seq (.ops [zM 44 0,
 zM 45 1,
 ⟨some 46,none,.call,[.c (.func (.func 148) [] []),.t 44,.t 45,zI 0]⟩])
 (.seq (.ops [zM 47 0,
 zM 48 0,
 zM 49 0,
 zN 50 49,
 zF 51 50 6,
 zO 52 2 51,
 zN 53 47,
 zF 54 53 4,
 zS 2 [.t 54,.t 52],
 zN 55 48,
 zF 56 55 8,
 zS 1 [.t 56,zI (-1)]])
 (.seq (.ops [zM 57 0,
 zN 58 57,
 zF 59 58 4,
 zF 60 59 0,
 zL 61 60,
 zM 62 1,
 zR 63 (.aB 3) 61 62,
 zO 64 3 63,
 ⟨some 6,none,.a (.alloc [zz,zz,.az]),[]⟩,
 zS 3 [.t 6,.t 64]])
 (.ops [zM 65 0,
 zM 66 1,
 zF 67 6 0,
 zL 68 67,
 zP 69 (.bin .mul) [zI 100,.t 68],
 zF 70 6 1,
 zL 71 70,
 zR 72 (.bin .add) 69 71,
 zQ 73 (.build [zz,zz,zz,zz,zz,zz,(.str [])] [(4,1)]) 72,
 ⟨some 74,none,.call,[.c (.func (.func 105) [] []),.t 65,zI 8,.t 66,zI 0,.t 73]⟩]))))
 .skip))))))))⟩
def nj:AC:=(.seq (.ops [zR 16 (.bin .lss) 15 14])
 (.seq (.cond (.t 16)
 .skip
 (.exit 0))
 (.seq (.block 1 (.seq (.ops [zR 17 (.aB 1) 13 15,
 zL 18 17,
 zM 5 18])
 (.seq (.bI [zM 19 0,
 zM 20 1,
 zM 21 5,
 Er 22 115 19 20 21,
 zM 23 22,
 cF 24 0 23 true,
 uq 25 24 23 true,
 c9 26 25 12 23 true,
 c7 27 26 23 true,
 cF 28 1 23 true,
 bL 29 (.aB 1) [.t 27,.t 28] 23 true,
 c7 30 29 23 true,
 cF 31 5 23 true,
 cF 32 0 23 true,
 uq 33 32 23 true,
 c9 34 33 10 23 true,
 c7 35 34 23 true,
 qt 36 154 [.t 30,.t 31,.t 35] 23 true,
 bL 37 (.bin .eql) [.t 36,zI 3] 23 true,
 zP 38 .pick [.t 23,.t 37,.c (.bool false)]] [[],[],[],[],[],[],[],[],[],[],[],[],[],[],[],[],[],[],[],[]])
 (.cond (.t 38)
 (.ops [zM 39 0,
 zM 40 1,
 zM 41 5,
 ⟨some 42,none,.call,[.c (.func (.func 155) [] []),.t 39,.t 40,.t 41,zI 3]⟩])
 .skip))))
 (.ops [zP 43 (.bin .add) [.t 15,zI 1],
 zM 15 43]))))
def LO:aj:=⟨44,[],
 (.seq (.ops [zM 6 0,
 zN 7 6,
 zF 8 7 12,
 zL 9 8,
 zM 10 1,
 zR 11 (.aB 1) 9 10,
 zL 12 11,
 cE 13 153 12,
 zQ 14 .aV 13,
 zV 15 0])
 (.block 0 (.loop nj)))⟩
def mI:AC:=(.seq (.ops [zR 19 (.bin .lss) 18 17])
 (.seq (.cond (.t 19)
 .skip
 (.exit 0))
 (.seq (.block 1 (.seq (.ops [zR 20 (.aB 3) 16 18,
 zO 21 3 20,
 ⟨some 3,none,.a (.alloc [zz,zz,zz]),[]⟩,
 zS 3 [.t 3,.t 21]])
 (.seq (.bI [zF 22 3 2,
 zL 23 22,
 zP 24 (.bin .quo) [.t 23,zI 4],
 zF 25 3 2,
 zL 26 25,
 zP 27 (.bin .rem) [.t 26,zI 4],
 zM 4 24,
 zM 5 27] [[],[],[],[],[],[],[],[]])
 (.seq (.ops [zM 28 0,
 zM 29 4,
 fF 30 95 28 29,
 zM 31 30,
 cF 32 0 31 true,
 uq 33 32 31 true,
 c9 34 33 11 31 true,
 c7 35 34 31 true,
 cF 36 4 31 true,
 bL 37 (.aB 1) [.t 35,.t 36] 31 true,
 c7 38 37 31 true,
 qt 39 103 [.t 38] 31 true,
 bL 40 .not [.t 39] 31 true,
 zP 41 .pick [.t 31,.t 40,.c (.bool false)]])
 (.cond (.t 41)
 (.seq (.bI [zM 42 0,
 zN 43 42,
 zF 44 43 12,
 zL 45 44,
 zM 46 4,
 zR 47 (.aB 1) 45 46,
 zL 48 47,
 zM 49 5,
 zP 50 (.build [zz,zz,(.str [])] [(0,1),(1,1)]) [zI 1,zI 1],
 ⟨some 51,none,.a (.aY [zz,zz,(.str [])] 1 3 [0]),[.t 50]⟩,
 zM 52 0,
 zN 53 52,
 zF 54 53 10,
 zL 55 54,
 Ly 56 104 48 49 51 55,
 zM 6 56] [[],[],[],[],[],[],[],[],[],[],[],[],[],[],[],[]])
 (.ops [zM 57 0,
 zM 58 4,
 zM 59 5,
 zM 60 6,
 zQ 61 (.build [zz,zz,zz,zz,zz,zz,(.str [])] [(5,1)]) 60,
 ⟨some 62,none,.call,[.c (.func (.func 105) [] []),.t 57,zI 2,.t 58,.t 59,.t 61]⟩]))
 .skip)))))
 (.ops [zP 63 (.bin .add) [.t 18,zI 1],
 zM 18 63]))))
def LP:aj:=⟨64,[],
 (.seq (.bI [zM 7 0,
 zN 8 7,
 zF 9 8 0,
 zF 10 9 3,
 zL 11 10,
 zM 12 0,
 zN 13 12,
 zF 14 13 10,
 zL 15 14,
 fF 16 156 11 15,
 zQ 17 .aV 16,
 zV 18 0] [[],[],[],[],[],[],[],[],[],[],[],[]])
 (.block 0 (.loop mI)))⟩
def yP:AC:=(.seq (.ops [zR 16 (.bin .lss) 15 14])
 (.seq (.cond (.t 16)
 .skip
 (.exit 0))
 (.seq (.block 1 (.seq (.ops [zM 17 15,
 zR 18 (.aB 1) 13 15,
 zL 19 18,
 zM 5 17,
 zM 6 19])
 (.seq (.ops [zM 20 6,
 cE 21 152 20,
 zQ 22 .not 21,
 zM 23 22,
 cF 24 6 23 true,
 qt 25 157 [.t 24] 23 true,
 bL 26 (.bin .gtr) [.t 25,zI 0] 23 true,
 zP 27 .pick [.t 23,.t 26,.c (.bool false)]])
 (.cond (.t 27)
 (.ops [zM 28 4,
 zM 29 5,
 zM 30 6,
 cE 31 149 30,
 Er 32 158 28 29 31])
 .skip))))
 (.ops [zP 33 (.bin .add) [.t 15,zI 1],
 zM 15 33]))))
def LQ:aj:=⟨44,[.tmp 2,.tmp 3],
 (.seq (.ops [zV 2 0,
 zK 3 (.bool false)])
 (.seq (.ops [KM 8 83,
 zM 4 8])
 (.seq (.seq (.ops [zM 9 0,
 zM 10 0,
 zQ 11 .aV 10,
 zP 12 .mn [.t 11,zI 4],
 zR 13 (.slice 1 false true false) 9 12,
 zQ 14 .aV 13,
 zV 15 0])
 (.block 0 (.loop yP)))
 (.seq (.ops [zM 34 4,
 zQ 35 (.ec (.func 159) 1) 34,
 zM 7 35])
 (.seq (.ops [zM 37 7,
 ⟨some 38,none,.call,[.t 37]⟩,
 zM 36 38,
 zQ 39 (.ext 0) 36,
 zQ 40 (.ext 1) 36,
 zQ 41 (.ext 2) 36,
 zM 2 39,
 zM 3 41])
 (.seq (.ops [zM 42 2,
 zM 43 3,
 zM 2 42,
 zM 3 43])
 .ret))))))⟩
def ox:AC:=(.seq (.seq (.ops [zM 9 4,
 zQ 10 .not 9,
 zM 11 10,
 cF 12 0 11 true,
 cF 13 1 11 true,
 qt 14 95 [.t 12,.t 13] 11 true,
 zP 15 .pick [.t 11,.t 14,.c (.bool false)]])
 (.cond (.t 15)
 .skip
 (.exit 0)))
 (.block 1 (.seq (.ops [zM 17 0,
 zN 18 17,
 zF 19 18 12,
 zL 20 19,
 zM 21 1,
 zR 22 (.aB 1) 20 21,
 zL 23 22,
 cE 24 160 23,
 zM 16 24,
 zQ 25 (.ext 0) 16,
 zQ 26 (.ext 1) 16,
 zM 5 25,
 zM 6 26])
 (.seq (.seq (.ops [zM 27 6,
 zQ 28 .not 27])
 (.cond (.t 28)
 (.seq (.ops [zM 29 0,
 zM 30 1,
 zP 31 (.build [zz,zz,zz,zz,zz,zz,(.str [])] []) [],
 ⟨some 32,none,.call,[.c (.func (.func 105) [] []),.t 29,zI 1,.t 30,zI (-1),.t 31]⟩])
 .ret)
 .skip))
 (.seq (.ops [zM 34 0,
 zN 35 34,
 zF 36 35 12,
 zL 37 36,
 zM 38 1,
 zR 39 (.aB 1) 37 38,
 zL 40 39,
 zM 41 5,
 fF 42 134 40 41,
 zM 33 42,
 zQ 43 (.ext 0) 33,
 zQ 44 (.ext 1) 33,
 ⟨some 7,none,.a (.alloc [zz,zz,(.str [])]),[]⟩,
 zS 3 [.t 7,.t 43],
 zM 8 44])
 (.seq (.ops [zF 45 7 0,
 zL 46 45])
 (.block 2 (.seq (.ops [zP 53 (.bin .eql) [.t 46,zI 1],
 zM 52 53])
 (.cond (.t 52)
 (.ops [zM 54 0,
 zM 55 1,
 zM 56 5,
 Er 57 161 54 55 56,
 zM 4 57])
 (.seq (.ops [zP 59 (.bin .eql) [.t 46,zI 4],
 zM 58 59])
 (.cond (.t 58)
 (.ops [zM 60 0,
 zM 61 1,
 zM 62 5,
 Er 63 162 60 61 62,
 zQ 64 .not 63,
 zM 4 64])
 (.ops [zM 47 0,
 zM 48 1,
 zM 49 5,
 zO 50 3 7,
 Ly 51 163 47 48 49 50]))))))))))))
def LR:aj:=⟨65,[],
 (.seq (.ops [zK 4 (.bool false)])
 (.block 0 (.loop ox)))⟩
def LS:aj:=⟨24,[.tmp 2],
 (.seq (.ops [zV 2 0])
 (.seq (.block 0 (.seq (.ops [zM 4 0,
 cE 5 128 4,
 zM 3 5])
 (.cond (.t 3)
 (.seq (.ops [zV 2 1])
 .ret)
 (.seq (.ops [zM 7 0,
 zN 8 7,
 zF 9 8 6,
 zL 10 9,
 zM 6 10])
 (.cond (.t 6)
 (.seq (.ops [zV 2 250])
 .ret)
 (.seq (.ops [zM 12 0,
 zN 13 12,
 zF 14 13 2,
 zL 15 14,
 zP 16 (.bin .eql) [.t 15,zI 0],
 zM 11 16])
 (.cond (.t 11)
 (.seq (.ops [zV 2 8])
 .ret)
 .skip)))))))
 (.seq (.ops [zM 17 0,
 zN 18 17,
 zF 19 18 2,
 zL 20 19,
 zP 21 (.bin .sub) [.t 20,zI 1],
 zN 22 17,
 zF 23 22 2,
 zS 1 [.t 23,.t 21]])
 (.seq (.ops [zV 2 0])
 .ret))))⟩
def LU:aj:=⟨13,[.tmp 2],
 (.seq (.ops [zK 2 (.bool false)])
 (.seq (.ops [zM 3 0,
 zP 4 (.eq .dF) [.t 3,.c .bJ],
 zM 5 4,
 cF 6 0 5 false,
 uq 7 6 5 false,
 c9 8 7 0 5 false,
 ⟨some 9,some (5,false),.r (.bt 2),[.t 8]⟩,
 bL 10 (.build [zz,zz] []) [] 5 false,
 bL 11 (.eq (.cells [0,0])) [.t 9,.t 10] 5 false,
 zP 12 .pick [.t 5,.c (.bool true),.t 11],
 zM 2 12])
 .ret))⟩
def LV:aj:=⟨9,[.tmp 4],
 (.seq (.ops [zK 4 (.bool false)])
 (.seq (.ops [zM 5 0,
 zM 6 1,
 fF 7 174 5 6,
 zP 8 (.bin .geq) [.t 7,zI 0],
 zM 4 8])
 .ret))⟩
def LW:aj:=⟨17,[.tmp 4],
 (.seq (.ops [zB 2 0,
 zV 4 0])
 (.seq (.seq (.ops [zO 6 2 2,
 cE 7 61 6,
 zM 5 7])
 (.seq (.ops [zM 8 5,
 zP 9 (.bin .neq) [.t 8,zI 0]])
 (.cond (.t 9)
 (.seq (.ops [zM 10 5,
 zM 4 10])
 .ret)
 .skip)))
 (.seq (.seq (.ops [zM 11 1,
 zQ 12 .aV 11,
 zF 13 2 0,
 zL 14 13,
 zQ 15 .aV 14,
 zR 16 (.bin .neq) 12 15])
 (.cond (.t 16)
 (.seq (.ops [zV 4 2])
 .ret)
 .skip))
 (.seq (.ops [zV 4 0])
 .ret))))⟩
def wX:AC:=(.seq (.ops [zR 33 (.bin .lss) 32 31])
 (.seq (.cond (.t 33)
 .skip
 (.exit 0))
 (.seq (.block 1 (.seq (.ops [zM 34 32,
 zR 35 (.aB 3) 30 32,
 zO 36 3 35,
 ⟨some 11,none,.a (.alloc [zz,zz,.az]),[]⟩,
 zM 10 34,
 zS 3 [.t 11,.t 36]])
 (.seq (.ops [zM 37 1,
 zM 38 10,
 zR 39 (.aB 1) 37 38,
 zL 40 39])
 (.cond (.t 40)
 (.ops [zM 41 8,
 zO 42 3 11,
 ⟨some 43,none,.a (.aY [zz,zz,.az] 1 3 [0]),[.t 42]⟩,
 zA 44 3 40 41 43,
 zM 45 9,
 zM 46 10,
 ⟨some 47,none,.a (.aY [zz] 1 1 [0]),[.t 46]⟩,
 zA 48 1 8 45 47,
 zM 8 44,
 zM 9 48])
 .skip))))
 (.ops [zP 49 (.bin .add) [.t 32,zI 1],
 zM 32 49]))))
def wY:AC:=(.seq (.ops [zR 58 (.bin .lss) 57 56])
 (.seq (.cond (.t 58)
 .skip
 (.exit 2))
 (.seq (.block 3 (.seq (.ops [zM 59 57,
 zR 60 (.aB 1) 55 57,
 zL 61 60,
 zM 13 59,
 zM 14 61])
 (.seq (.ops [zM 63 8,
 zM 64 13,
 fF 65 176 63 64,
 zM 62 65,
 zQ 66 (.ext 0) 62,
 zQ 67 (.ext 1) 62,
 zM 15 66,
 zM 16 67])
 (.seq (.ops [zM 68 16,
 zP 69 (.bin .neq) [.t 68,zI 0]])
 (.cond (.t 69)
 (.seq (.ops [zM 70 14,
 zM 71 15,
 zM 72 16,
 zM 4 70,
 zM 5 71,
 zM 6 72])
 .ret)
 .skip)))))
 (.ops [zP 73 (.bin .add) [.t 57,zI 1],
 zM 57 73]))))
def LX:aj:=⟨74,[.tmp 4,.tmp 5,.tmp 6],
 (.seq (.ops [zB 2 0,
 zV 4 0,
 zV 5 0,
 zV 6 0])
 (.seq (.seq (.ops [zO 17 2 2,
 zM 18 1,
 fF 19 137 17 18,
 zM 7 19])
 (.seq (.ops [zM 20 7,
 zP 21 (.bin .neq) [.t 20,zI 0]])
 (.cond (.t 21)
 (.seq (.ops [zM 22 7,
 zV 4 0,
 zV 5 0,
 zM 6 22])
 .ret)
 .skip)))
 (.seq (.ops [zM 23 1,
 zQ 24 .aV 23,
 ⟨some 25,none,.a (.eG [zz,zz,.az] 3 40),[zI 0,.t 24]⟩,
 zM 8 25])
 (.seq (.ops [zM 26 1,
 zQ 27 .aV 26,
 ⟨some 28,none,.a (.eG [zz] 1 8),[zI 0,.t 27]⟩,
 zM 9 28])
 (.seq (.seq (.ops [zF 29 2 0,
 zL 30 29,
 zQ 31 .aV 30,
 zV 32 0])
 (.block 0 (.loop wX)))
 (.seq (.seq (.ops [zM 50 8,
 cE 51 175 50,
 zM 12 51])
 (.seq (.ops [zM 52 12,
 zP 53 (.bin .neq) [.t 52,zI 0]])
 (.cond (.t 53)
 (.seq (.ops [zM 54 12,
 zV 4 (-1),
 zV 5 0,
 zM 6 54])
 .ret)
 .skip)))
 (.seq (.seq (.ops [zM 55 9,
 zQ 56 .aV 55,
 zV 57 0])
 (.block 2 (.loop wY)))
 (.seq (.ops [zV 4 (-1),
 zV 5 0,
 zV 6 0])
 .ret))))))))⟩
def LY:aj:=⟨18,[.tmp 2],
 (.seq (.ops [zB 1 0,
 zK 2 (.bool false)])
 (.seq (.ops [zF 3 1 1,
 zL 4 3,
 zP 5 (.bin .leq) [zI 1,.t 4],
 zM 6 5,
 c9 7 1 1 6 true,
 c7 8 7 6 true,
 c9 9 1 0 6 true,
 c7 10 9 6 true,
 bL 11 (.bin .leq) [.t 8,.t 10] 6 true,
 zP 12 .pick [.t 6,.t 11,.c (.bool false)],
 zM 13 12,
 c9 14 1 0 13 true,
 c7 15 14 13 true,
 bL 16 (.bin .leq) [.t 15,zI 64] 13 true,
 zP 17 .pick [.t 13,.t 16,.c (.bool false)],
 zM 2 17])
 .ret))⟩
def LZ:aj:=⟨21,[.tmp 4],
 (.seq (.ops [zV 4 0])
 (.seq (.ops [zM 6 1,
 zC 7 43 [.t 6,.c (.func (.func 177) [] [])],
 zM 5 7])
 (.seq (.seq (.ops [zM 8 5,
 zM 9 8,
 cF 10 0 9 false,
 qt 11 178 [.t 10] 9 false,
 bL 12 .not [.t 11] 9 false,
 zP 13 .pick [.t 9,.c (.bool true),.t 12],
 zM 14 13,
 cF 15 1 14 false,
 bL 16 .aV [.t 15] 14 false,
 cF 17 0 14 false,
 bL 18 .aV [.t 17] 14 false,
 bL 19 (.bin .neq) [.t 16,.t 18] 14 false,
 zP 20 .pick [.t 14,.c (.bool true),.t 19]])
 (.cond (.t 20)
 (.seq (.ops [zV 4 2])
 .ret)
 .skip))
 (.seq (.ops [zV 4 0])
 .ret))))⟩
def L2:aj:=⟨10,[.tmp 2,.tmp 3],
 (.seq (.ops [zK 2 .bJ,
 zV 3 0])
 (.seq (.seq (.ops [zM 4 0,
 cE 5 179 4,
 zQ 6 .not 5])
 (.cond (.t 6)
 (.seq (.ops [zK 2 .bJ,
 zV 3 2])
 .ret)
 .skip))
 (.seq (.ops [zM 7 0,
 zQ 8 (.build [zz,zz] [(0,1)]) 7,
 zB 9 8,
 zM 2 9,
 zV 3 0])
 .ret)))⟩
def L6:aj:=⟨11,[.tmp 2,.tmp 3],
 (.seq (.ops [zK 2 .bJ,
 zV 3 0])
 (.seq (.seq (.ops [zM 4 0,
 zQ 5 .aV 4,
 zP 6 (.bin .gtr) [.t 5,zI 4]])
 (.cond (.t 6)
 (.seq (.ops [zK 2 .bJ,
 zV 3 5])
 .ret)
 .skip))
 (.seq (.ops [zM 7 0,
 cE 8 86 7,
 zP 9 (.build [.az,.az,(.bool false)] [(0,1),(2,1)]) [.t 8,.c (.bool true)],
 zB 10 9,
 zM 2 10,
 zV 3 0])
 .ret)))⟩
def Ma:aj:=⟨14,[.tmp 2,.tmp 3],
 (.seq (.ops [zK 2 .bJ,
 zV 3 0])
 (.seq (.seq (.ops [zM 4 0,
 zP 5 (.bin .lss) [.t 4,zI 0],
 zM 6 5,
 cF 7 0 6 false,
 bL 8 (.bin .gtr) [.t 7,zI 4] 6 false,
 zP 9 .pick [.t 6,.c (.bool true),.t 8]])
 (.cond (.t 9)
 (.seq (.ops [zK 2 .bJ,
 zV 3 2])
 .ret)
 .skip))
 (.seq (.ops [KM 10 83,
 zM 11 0,
 zR 12 (.build [.bJ,zz] [(0,1),(1,1)]) 10 11,
 zB 13 12,
 zM 2 13,
 zV 3 0])
 .ret)))⟩
def Mb:aj:=⟨9,[.tmp 2],
 (.seq (.ops [zV 2 0])
 (.seq (.seq (.ops [zM 3 0,
 cE 4 128 3])
 (.cond (.t 4)
 (.seq (.ops [zV 2 0])
 .ret)
 .skip))
 (.seq (.ops [zM 5 0,
 zN 6 5,
 zF 7 6 3,
 zL 8 7,
 zM 2 8])
 .ret)))⟩
def Mc:aj:=⟨83,[.tmp 4,.tmp 5],
 (.seq (.ops [zK 4 (.bool false),
 zV 5 0])
 (.seq (.block 0 (.seq (.ops [zM 7 0,
 cE 8 128 7,
 zM 6 8])
 (.cond (.t 6)
 (.seq (.ops [zK 4 (.bool false),
 zV 5 1])
 .ret)
 (.seq (.seq (.ops [zM 10 0,
 zN 11 10,
 zF 12 11 6,
 zL 13 12,
 zM 9 13])
 (.cond (.t 9)
 .skip
 (.ops [zM 14 0,
 zN 15 14,
 zF 16 15 3,
 zL 17 16,
 zM 18 1,
 zR 19 (.bin .lss) 17 18,
 zM 9 19])))
 (.cond (.t 9)
 (.seq (.ops [zK 4 (.bool false),
 zV 5 250])
 .ret)
 (.seq (.ops [zM 21 0,
 zN 22 21,
 zF 23 22 3,
 zL 24 23,
 zM 25 1,
 zR 26 (.bin .gtr) 24 25,
 zM 20 26])
 (.cond (.t 20)
 (.seq (.ops [zK 4 (.bool false),
 zV 5 0])
 .ret)
 .skip)))))))
 (.seq (.bI [zM 27 0,
 zN 28 27,
 zF 29 28 7,
 zL 30 29,
 zM 31 0,
 zN 32 31,
 zF 33 32 2,
 zL 34 33,
 zR 35 (.bin .add) 30 34,
 zN 36 27,
 zF 37 36 7,
 zS 1 [.t 37,.t 35]] [[],[],[],[],[],[],[],[],[],[],[],[]])
 (.seq (.ops [zM 38 0,
 zN 39 38,
 zF 40 39 2,
 zS 1 [.t 40,zI 0]])
 (.seq (.seq (.ops [zM 41 0,
 zN 42 41,
 zF 43 42 5,
 zL 44 43])
 (.cond (.t 44)
 (.seq (.ops [zM 45 0,
 zN 46 45,
 zF 47 46 6,
 zS 1 [.t 47,.c (.bool true)]])
 (.seq (.ops [zK 4 (.bool true),
 zV 5 0])
 .ret))
 .skip))
 (.seq (.seq (.ops [zM 48 0,
 zN 49 48,
 zF 50 49 4,
 zL 51 50,
 zP 52 (.neq .dF) [.t 51,.c .bJ]])
 (.cond (.t 52)
 (.ops [zM 53 0,
 zM 54 0,
 zM 55 0,
 zN 56 55,
 zF 57 56 4,
 zL 58 57,
 zN 59 58,
 zO 60 2 59,
 zN 61 53,
 zF 62 61 0,
 zS 2 [.t 62,.t 60],
 zN 63 54,
 zF 64 63 4,
 zS 1 [.t 64,.c .bJ]])
 .skip))
 (.seq (.bI [zM 65 0,
 zM 66 0,
 zM 67 0,
 zN 68 67,
 zF 69 68 0,
 zF 70 69 1,
 zL 71 70,
 zM 72 1,
 zM 73 0,
 zN 74 73,
 zF 75 74 0,
 zF 76 75 0,
 zL 77 76,
 zR 78 (.bin .add) 72 77,
 zN 79 65,
 zF 80 79 2,
 zS 1 [.t 80,.t 71],
 zN 81 66,
 zF 82 81 3,
 zS 1 [.t 82,.t 78]] [[],[],[],[],[],[],[],[],[],[],[],[],[],[],[],[],[],[],[],[]])
 (.seq (.ops [zK 4 (.bool true),
 zV 5 0])
 .ret))))))))⟩
def Md:aj:=⟨12,[.tmp 2],
 (.seq (.ops [zK 2 (.bool false)])
 (.seq (.ops [zM 3 0,
 cE 4 128 3,
 zQ 5 .not 4,
 zM 6 5,
 cF 7 0 6 true,
 uq 8 7 6 true,
 c9 9 8 6 6 true,
 c7 10 9 6 true,
 zP 11 .pick [.t 6,.t 10,.c (.bool false)],
 zM 2 11])
 .ret))⟩
def Me:aj:=⟨10,[.tmp 2],
 (.seq (.ops [zK 2 .az])
 (.seq (.seq (.ops [zM 3 0,
 cE 4 164 3])
 (.cond (.t 4)
 (.seq (.ops [zK 2 .az])
 .ret)
 .skip))
 (.seq (.ops [zM 5 0,
 zN 6 5,
 zF 7 6 1,
 zL 8 7,
 cE 9 180 8,
 zM 2 9])
 .ret)))⟩
def qN:AC:=(.seq (.seq (.ops [zM 15 6,
 zM 16 15,
 cF 17 5 16 true,
 cF 18 1 16 true,
 bL 19 (.bin .leq) [.t 17,.t 18] 16 true,
 zP 20 .pick [.t 16,.t 19,.c (.bool false)]])
 (.cond (.t 20)
 .skip
 (.exit 0)))
 (.seq (.block 1 (.seq (.ops [zM 27 0,
 zN 28 27,
 zF 29 28 0,
 zL 30 29,
 cE 31 184 30,
 zM 26 31,
 zQ 32 (.ext 0) 26,
 zQ 33 (.ext 1) 26,
 zQ 34 (.ext 2) 26,
 zM 7 32,
 zM 8 33,
 zM 9 34])
 (.ops [zM 35 4,
 zM 36 5,
 zM 37 7,
 zP 38 (.bin .quo) [.t 37,zI 16],
 zM 39 7,
 zP 40 (.bin .rem) [.t 39,zI 16],
 zP 41 (.build [zz,zz,zz] [(0,1),(1,1),(2,1)]) [.t 36,.t 38,.t 40],
 ⟨some 42,none,.a (.aY [zz,zz,zz] 1 3 [0]),[.t 41]⟩,
 zA 43 3 24 35 42,
 zM 4 43])))
 (.ops [zM 22 0,
 cE 23 183 22,
 zM 21 23,
 zQ 24 (.ext 0) 21,
 zQ 25 (.ext 1) 21,
 zM 5 24,
 zM 6 25])))
def Mf:aj:=⟨45,[.tmp 4],
 (.seq (.ops [zK 4 .az])
 (.seq (.seq (.ops [zM 11 0,
 cE 12 183 11,
 zM 10 12,
 zQ 13 (.ext 0) 10,
 zQ 14 (.ext 1) 10,
 zM 5 13,
 zM 6 14])
 (.block 0 (.loop qN)))
 (.seq (.ops [zM 44 4,
 zM 4 44])
 .ret)))⟩
def Mg:aj:=⟨9,[.tmp 2],
 (.seq (.ops [zV 2 0])
 (.seq (.seq (.ops [zM 3 0,
 cE 4 128 3])
 (.cond (.t 4)
 (.seq (.ops [zV 2 0])
 .ret)
 .skip))
 (.seq (.ops [zM 5 0,
 zN 6 5,
 zF 7 6 2,
 zL 8 7,
 zM 2 8])
 .ret)))⟩
def Mh:aj:=⟨55,[.tmp 6],
 (.seq (.ops [zV 6 0])
 (.seq (.seq (.ops [zM 10 0,
 zM 11 1,
 fF 12 185 10 11,
 zM 7 12])
 (.seq (.ops [zM 13 7,
 zP 14 (.bin .neq) [.t 13,zI 0]])
 (.cond (.t 14)
 (.seq (.ops [zM 15 7,
 zM 6 15])
 .ret)
 .skip)))
 (.seq (.seq (.ops [zM 17 0,
 zM 18 1,
 fF 19 186 17 18,
 zM 16 19,
 zQ 20 (.ext 0) 16,
 zQ 21 (.ext 1) 16,
 zM 8 20,
 zM 9 21])
 (.seq (.ops [zM 22 9])
 (.cond (.t 22)
 (.seq (.ops [zV 6 141])
 .ret)
 .skip)))
 (.seq (.bI [zM 23 0,
 zN 24 23,
 zF 25 24 0,
 zL 26 25,
 zM 27 0,
 zN 28 27,
 zF 29 28 0,
 zL 30 29,
 zN 31 30,
 zF 32 31 0,
 zL 33 32,
 zM 34 1,
 zM 35 2,
 zR 36 (.build [zz,zz] [(0,1),(1,1)]) 34 35,
 ⟨some 37,none,.a (.aY [zz,zz] 1 2 [0]),[.t 36]⟩,
 zA 38 2 16 33 37,
 zN 39 26,
 zF 40 39 0,
 zS 1 [.t 40,.t 38]] [[],[],[],[0,16],[],[],[],[],[],[],[],[],[],[],[],[],[],[],[]])
 (.seq (.bI [zM 41 0,
 zN 42 41,
 zF 43 42 0,
 zL 44 43,
 zM 45 0,
 zN 46 45,
 zF 47 46 0,
 zL 48 47,
 zN 49 48,
 zF 50 49 0,
 zL 51 50,
 zQ 52 .aV 51,
 zP 53 (.bin .sub) [.t 52,zI 1],
 fF 54 187 44 53] [[],[],[],[],[],[],[],[],[],[],[],[],[],[]])
 (.seq (.ops [zV 6 0])
 .ret))))))⟩
def Mi:aj:=⟨38,[.tmp 2,.tmp 3,.tmp 4],
 (.seq (.ops [zV 2 0,
 zV 3 0,
 zK 4 (.bool false)])
 (.seq (.seq (.ops [zM 5 0,
 cE 6 188 5,
 zM 7 6,
 cF 8 0 7 false,
 uq 9 8 7 false,
 c9 10 9 0 7 false,
 c7 11 10 7 false,
 uq 12 11 7 false,
 c9 13 12 0 7 false,
 c7 14 13 7 false,
 bL 15 .aV [.t 14] 7 false,
 bL 16 (.bin .eql) [.t 15,zI 0] 7 false,
 zP 17 .pick [.t 7,.c (.bool true),.t 16]])
 (.cond (.t 17)
 (.seq (.ops [zV 2 0,
 zV 3 0,
 zK 4 (.bool false)])
 .ret)
 .skip))
 (.seq (.bI [zM 18 0,
 zN 19 18,
 zF 20 19 0,
 zL 21 20,
 zN 22 21,
 zF 23 22 0,
 zL 24 23,
 zP 25 (.aB 2) [.t 24,zI 0],
 zF 26 25 0,
 zL 27 26,
 zM 28 0,
 zN 29 28,
 zF 30 29 0,
 zL 31 30,
 zN 32 31,
 zF 33 32 0,
 zL 34 33,
 zP 35 (.aB 2) [.t 34,zI 0],
 zF 36 35 1,
 zL 37 36,
 zM 2 27,
 zM 3 37,
 zK 4 (.bool true)] [[],[],[],[],[],[],[],[],[],[],[],[],[],[],[],[],[],[],[],[],[],[],[]])
 .ret)))⟩
def Mj:aj:=⟨60,[.tmp 2,.tmp 3],
 (.seq (.ops [zV 2 0,
 zK 3 (.bool false)])
 (.seq (.seq (.ops [zM 9 0,
 cE 10 164 9])
 (.cond (.t 10)
 (.seq (.ops [zV 2 0,
 zK 3 (.bool false)])
 .ret)
 .skip))
 (.seq (.seq (.ops [zM 12 0,
 cE 13 171 12,
 zM 11 13,
 zQ 14 (.ext 0) 11,
 zQ 15 (.ext 1) 11,
 zQ 16 (.ext 2) 11,
 zM 4 14,
 zM 5 15,
 zM 6 16])
 (.seq (.ops [zM 17 6])
 (.cond (.t 17)
 (.seq (.ops [zM 18 4,
 zM 2 18,
 zK 3 (.bool true)])
 .ret)
 .skip)))
 (.seq (.ops [zM 20 0,
 zN 21 20,
 zF 22 21 1,
 zL 23 22,
 cE 24 189 23,
 zM 19 24,
 zQ 25 (.ext 0) 19,
 zQ 26 (.ext 1) 19,
 zQ 27 (.ext 2) 19,
 zM 7 25,
 zM 8 26,
 zM 3 27])
 (.seq (.block 0 (.seq (.ops [zM 29 3,
 zQ 30 .not 29,
 zM 28 30])
 (.cond (.t 28)
 (.seq (.ops [zV 2 0,
 zK 3 (.bool false)])
 .ret)
 (.seq (.seq (.ops [zM 32 0,
 zN 33 32,
 zF 34 33 4,
 zL 35 34,
 zM 36 7,
 zR 37 (.aB 1) 35 36,
 zL 38 37,
 cE 39 190 38,
 zM 31 39])
 (.cond (.t 31)
 .skip
 (.bI [zM 40 0,
 zN 41 40,
 zF 42 41 2,
 zL 43 42,
 zM 44 7,
 fF 45 191 43 44,
 zM 46 0,
 zN 47 46,
 zF 48 47 0,
 zL 49 48,
 cE 50 192 49,
 zR 51 (.bin .gtr) 45 50,
 zM 31 51] [[],[],[],[],[],[],[],[],[],[0,6],[],[],[]])))
 (.cond (.t 31)
 (.seq (.ops [zM 52 7,
 zM 2 52,
 zK 3 (.bool true)])
 .ret)
 .skip)))))
 (.seq (.ops [zM 53 0,
 zN 54 53,
 zF 55 54 0,
 zL 56 55,
 cE 57 193 56,
 zQ 58 (.ext 0) 57,
 zQ 59 (.ext 1) 57,
 zM 2 58,
 zM 3 59])
 .ret))))))⟩
def Mk:aj:=⟨12,[.tmp 2],
 (.seq (.ops [zK 2 (.bool false)])
 (.seq (.ops [zM 3 0,
 zP 4 (.eq .dF) [.t 3,.c .bJ],
 zM 5 4,
 cF 6 0 5 false,
 uq 7 6 5 false,
 c9 8 7 0 5 false,
 c7 9 8 5 false,
 bL 10 (.eq .dF) [.t 9,.c .bJ] 5 false,
 zP 11 .pick [.t 5,.c (.bool true),.t 10],
 zM 2 11])
 .ret))⟩
def Ml:aj:=⟨12,[.tmp 2],
 (.seq (.ops [zK 2 (.bool false)])
 (.seq (.ops [zM 3 0,
 zP 4 (.eq .dF) [.t 3,.c .bJ],
 zM 5 4,
 cF 6 0 5 false,
 uq 7 6 5 false,
 c9 8 7 0 5 false,
 c7 9 8 5 false,
 bL 10 (.eq .dF) [.t 9,.c .bJ] 5 false,
 zP 11 .pick [.t 5,.c (.bool true),.t 10],
 zM 2 11])
 .ret))⟩
def Mm:aj:=⟨12,[.tmp 2],
 (.seq (.ops [zK 2 (.bool false)])
 (.seq (.ops [zM 3 0,
 zP 4 (.eq .dF) [.t 3,.c .bJ],
 zM 5 4,
 cF 6 0 5 false,
 uq 7 6 5 false,
 c9 8 7 0 5 false,
 c7 9 8 5 false,
 bL 10 (.eq .dF) [.t 9,.c .bJ] 5 false,
 zP 11 .pick [.t 5,.c (.bool true),.t 10],
 zM 2 11])
 .ret))⟩
def qP:AC:=(.seq (.ops [zR 16 (.bin .lss) 15 14])
 (.seq (.cond (.t 16)
 .skip
 (.exit 0))
 (.seq (.block 1 (.seq (.ops [zM 17 15,
 zR 18 (.aB 1) 13 15,
 zL 19 18,
 zM 5 17,
 zM 6 19])
 (.seq (.ops [zM 20 6,
 cE 21 214 20,
 zM 7 21])
 (.seq (.ops [zM 22 7,
 zP 23 (.bin .geq) [.t 22,zI 2]])
 (.cond (.t 23)
 (.seq (.ops [zM 24 5,
 zM 25 7,
 zM 2 24,
 zM 3 25,
 zK 4 (.bool true)])
 .ret)
 .skip)))))
 (.ops [zP 26 (.bin .add) [.t 15,zI 1],
 zM 15 26]))))
def Mn:aj:=⟨27,[.tmp 2,.tmp 3,.tmp 4],
 (.seq (.ops [zV 2 0,
 zV 3 0,
 zK 4 (.bool false)])
 (.seq (.seq (.ops [zM 8 0,
 cE 9 164 8])
 (.cond (.t 9)
 (.seq (.ops [zV 2 0,
 zV 3 0,
 zK 4 (.bool false)])
 .ret)
 .skip))
 (.seq (.seq (.ops [zM 10 0,
 zN 11 10,
 zF 12 11 4,
 zL 13 12,
 zQ 14 .aV 13,
 zV 15 0])
 (.block 0 (.loop qP)))
 (.seq (.ops [zV 2 0,
 zV 3 0,
 zK 4 (.bool false)])
 .ret))))⟩
def eO:AC:=(.seq (.ops [zR 9 (.bin .lss) 8 7])
 (.seq (.cond (.t 9)
 .skip
 (.exit 0))
 (.seq (.block 1 (.seq (.ops [zM 10 8,
 zM 5 10])
 (.seq (.ops [zM 11 1,
 zM 12 0,
 zM 13 5,
 zR 14 (.aB 1) 12 13,
 zL 15 14,
 ⟨some 16,none,.call,[.t 11,.t 15]⟩])
 (.cond (.t 16)
 (.seq (.ops [zM 17 5,
 zM 4 17])
 .ret)
 .skip))))
 (.ops [zP 18 (.bin .add) [.t 8,zI 1],
 zM 8 18]))))
def Mo:aj:=⟨19,[.tmp 4],
 (.seq (.ops [zV 4 0])
 (.seq (.seq (.ops [zM 6 0,
 zQ 7 .aV 6,
 zV 8 0])
 (.block 0 (.loop eO)))
 (.seq (.ops [zV 4 (-1)])
 .ret)))⟩
def Mp:aj:=⟨16,[.tmp 2],
 (.seq (.ops [zV 2 0])
 (.seq (.ops [zM 6 0,
 cE 7 222 6,
 zM 5 7,
 zQ 8 (.ext 0) 5,
 zQ 9 (.ext 1) 5,
 ⟨some 3,none,.a (.alloc [zz,zz]),[]⟩,
 zS 2 [.t 3,.t 8],
 zM 4 9])
 (.seq (.block 0 (.seq (.ops [zM 11 4,
 zQ 12 .not 11,
 zM 10 12])
 (.cond (.t 10)
 (.seq (.ops [zV 2 2])
 .ret)
 (.seq (.ops [zO 14 2 3,
 cE 15 223 14,
 zM 13 15])
 (.cond (.t 13)
 (.seq (.ops [zV 2 120])
 .ret)
 .skip)))))
 (.seq (.ops [zV 2 0])
 .ret))))⟩
def uU:AC:=(.seq (.ops [zR 70 (.bin .lss) 69 68])
 (.seq (.cond (.t 70)
 .skip
 (.exit 0))
 (.seq (.block 1 (.seq (.ops [zR 71 (.aB 8) 67 69,
 zO 72 8 71,
 ⟨some 12,none,.a (.alloc [zz,zz,zz,zz,zz,zz,zz,zz]),[]⟩,
 zS 8 [.t 12,.t 72]])
 (.ops [zM 73 10,
 zF 74 12 1,
 zL 75 74,
 zR 76 .mx 73 75,
 zM 10 76])))
 (.ops [zP 77 (.bin .add) [.t 69,zI 1],
 zM 69 77]))))
def uv:AC:=(.seq (.ops [zM 13 90])
 (.ops [zM 14 91]))
def uw:AC:=(.block 3 (.seq (.ops [zM 92 14,
 zP 93 (.bin .lss) [.t 92,zI 0]])
 (.cond (.t 93)
 (.seq (.ops [zM 94 13,
 zS 1 [.t 4,.t 94],
 zS 1 [.t 5,zI 120]])
 .ret)
 .skip)))
def Mq:aj:=⟨95,[.cell 4 1 false,.cell 5 1 false],
 (.seq (.ops [⟨some 4,none,.a (.alloc [zz]),[]⟩,
 ⟨some 5,none,.a (.alloc [zz]),[]⟩])
 (.seq (.ops [zM 16 0,
 zM 17 1,
 fF 18 224 16 17,
 zM 15 18,
 zQ 19 (.ext 0) 15,
 zQ 20 (.ext 1) 15,
 ⟨some 6,none,.a (.alloc [zz,zz,.az,.az,zz,.az]),[]⟩,
 zS 6 [.t 6,.t 19],
 zS 1 [.t 5,.t 20]])
 (.seq (.seq (.ops [zL 21 5,
 zP 22 (.bin .neq) [.t 21,zI 0],
 zM 23 22,
 c9 24 6 0 23 false,
 c9 25 24 2 23 false,
 c7 26 25 23 false,
 bL 27 .aV [.t 26] 23 false,
 bL 28 (.bin .eql) [.t 27,zI 0] 23 false,
 zP 29 .pick [.t 23,.c (.bool true),.t 28]])
 (.cond (.t 29)
 (.seq (.bI [zL 30 5,
 zS 1 [.t 4,zI 0],
 zS 1 [.t 5,.t 30]] [[0,2],[],[]])
 .ret)
 .skip))
 (.seq (.ops [zF 32 6 0,
 zF 33 32 2,
 zL 34 33,
 zF 35 6 0,
 zF 36 35 0,
 zL 37 36,
 fF 38 225 34 37,
 zM 31 38,
 zQ 39 (.ext 0) 31,
 zQ 40 (.ext 1) 31,
 zM 7 39,
 zS 1 [.t 5,.t 40]])
 (.seq (.seq (.ops [zL 41 5,
 zP 42 (.bin .neq) [.t 41,zI 0]])
 (.cond (.t 42)
 (.seq (.bI [zL 43 5,
 zS 1 [.t 4,zI 0],
 zS 1 [.t 5,.t 43]] [[0,2],[],[]])
 .ret)
 .skip))
 (.seq (.seq (.ops [zF 45 6 0,
 zF 46 45 2,
 zL 47 46,
 zF 48 6 5,
 zL 49 48,
 zM 50 7,
 Er 51 226 47 49 50,
 zM 44 51,
 zQ 52 (.ext 0) 44,
 zQ 53 (.ext 1) 44,
 zM 8 52,
 zM 9 53])
 (.seq (.bI [zM 54 8,
 zM 55 7,
 zF 56 6 0,
 zF 57 56 0,
 zL 58 57,
 zR 59 (.bin .quo) 55 58,
 zF 60 6 0,
 zF 61 60 1,
 zL 62 61,
 zR 63 (.bin .mul) 59 62,
 zR 64 (.bin .gtr) 54 63] [[],[],[],[],[],[],[],[],[],[],[]])
 (.cond (.t 64)
 (.seq (.ops [zS 1 [.t 4,zI 0],
 zS 1 [.t 5,zI 120]])
 .ret)
 .skip)))
 (.seq (.ops [zV 10 0])
 (.seq (.seq (.ops [zF 65 6 0,
 zF 66 65 2,
 zL 67 66,
 zQ 68 .aV 67,
 zV 69 0])
 (.block 0 (.loop uU)))
 (.seq (.seq (.bI [zO 78 6 6,
 zM 79 7,
 zM 80 10,
 zF 81 6 0,
 zF 82 81 0,
 zL 83 82,
 zF 84 6 0,
 zF 85 84 0,
 zL 86 85,
 ⟨some 87,none,.a (.aY [zz] 4 1 [0,1,2,3]),[.t 79,.t 80,.t 83,.t 86]⟩,
 cE 88 228 87,
 fF 89 227 78 88] [[0,11],[],[],[],[],[],[],[],[],[],[],[]])
 (.block 2 (.rangeFunc (.t 89) [90,91] uv uw)))
 (.seq (.ops [zS 1 [.t 4,zI 0],
 zS 1 [.t 5,zI 0]])
 .ret))))))))))⟩
def Mr:aj:=⟨9,[.tmp 2],
 (.seq (.ops [zK 2 (.bool false)])
 (.seq (.ops [zM 3 0,
 zP 4 (.bin .lss) [.t 3,zI 0],
 zM 5 4,
 cF 6 0 5 false,
 bL 7 (.bin .gtr) [.t 6,zI 32768] 5 false,
 zP 8 .pick [.t 5,.c (.bool true),.t 7],
 zM 2 8])
 .ret))⟩
def Ms:aj:=⟨11,[.tmp 2],
 (.seq (.ops [zK 2 (.bool false)])
 (.seq (.ops [zM 3 0,
 zQ 4 .aV 3,
 zP 5 (.bin .leq) [.t 4,zI 4],
 zM 6 5,
 cF 7 0 6 true,
 qt 8 97 [.t 7,.c (.func (.func 229) [] [])] 6 true,
 bL 9 .not [.t 8] 6 true,
 zP 10 .pick [.t 6,.t 9,.c (.bool false)],
 zM 2 10])
 .ret))⟩
def Mt:aj:=⟨9,[.tmp 2],
 (.seq (.ops [zK 2 (.bool false)])
 (.seq (.ops [zM 3 0,
 zP 4 (.bin .geq) [.t 3,zI 1],
 zM 5 4,
 cF 6 0 5 true,
 bL 7 (.bin .leq) [.t 6,zI 64] 5 true,
 zP 8 .pick [.t 5,.t 7,.c (.bool false)],
 zM 2 8])
 .ret))⟩
def Mu:aj:=⟨10,[.tmp 2],
 (.seq (.ops [zK 2 .az])
 (.seq (.seq (.ops [zM 3 0,
 cE 4 167 3])
 (.cond (.t 4)
 (.seq (.ops [zK 2 .az])
 .ret)
 .skip))
 (.seq (.ops [zM 5 0,
 zN 6 5,
 zF 7 6 0,
 zL 8 7,
 cE 9 231 8,
 zM 2 9])
 .ret)))⟩
def Mv:aj:=⟨17,[.tmp 2,.tmp 3],
 (.seq (.ops [zV 2 0,
 zK 3 (.bool false)])
 (.seq (.seq (.ops [zM 4 0,
 cE 5 234 4])
 (.cond (.t 5)
 (.seq (.ops [zV 2 0,
 zK 3 (.bool false)])
 .ret)
 .skip))
 (.seq (.ops [zM 7 0,
 zN 8 7,
 zF 9 8 0,
 zL 10 9,
 cE 11 159 10,
 zM 6 11,
 zQ 12 (.ext 0) 6,
 zQ 13 (.ext 1) 6,
 zQ 14 (.ext 2) 6,
 zM 2 13,
 zM 3 14])
 (.seq (.ops [zM 15 2,
 zM 16 3,
 zM 2 15,
 zM 3 16])
 .ret))))⟩
def Mw:aj:=⟨15,[.tmp 4],
 (.seq (.ops [zV 4 0])
 (.seq (.block 0 (.seq (.ops [zM 6 0,
 cE 7 188 6,
 zM 5 7])
 (.cond (.t 5)
 (.seq (.ops [zV 4 1])
 .ret)
 (.seq (.ops [zM 9 1,
 zP 10 (.bin .lss) [.t 9,zI 0],
 zM 11 10,
 cF 12 1 11 false,
 bL 13 (.bin .geq) [.t 12,zI 64] 11 false,
 zP 14 .pick [.t 11,.c (.bool true),.t 13],
 zM 8 14])
 (.cond (.t 8)
 (.seq (.ops [zV 4 9])
 .ret)
 .skip)))))
 (.seq (.ops [zV 4 0])
 .ret)))⟩
def Mx:aj:=⟨30,[.tmp 4,.tmp 5],
 (.seq (.ops [zV 4 0,
 zK 5 (.bool false)])
 (.seq (.seq (.ops [zM 6 0,
 zM 7 1,
 fF 8 185 6 7,
 zP 9 (.bin .neq) [.t 8,zI 0]])
 (.cond (.t 9)
 (.seq (.ops [zV 4 0,
 zK 5 (.bool false)])
 .ret)
 .skip))
 (.seq (.bI [zM 10 0,
 zN 11 10,
 zF 12 11 0,
 zL 13 12,
 zM 14 1,
 zN 15 13,
 zF 16 15 1,
 zR 17 (.jD 1 64) 16 14,
 zL 18 17,
 zP 19 (.bin .sub) [.t 18,zI 1],
 zM 20 0,
 zN 21 20,
 zF 22 21 0,
 zL 23 22,
 zM 24 1,
 zN 25 23,
 zF 26 25 1,
 zR 27 (.jD 1 64) 26 24,
 zL 28 27,
 zP 29 (.bin .gtr) [.t 28,zI 0],
 zM 4 19,
 zM 5 29] [[],[],[],[],[],[],[],[],[],[],[],[],[],[],[],[],[],[],[],[],[],[]])
 .ret)))⟩
def qO:AC:=(.seq (.seq (.bI [zM 12 1,
 zP 13 (.bin .gtr) [.t 12,zI 0],
 zM 14 13,
 ⟨some 15,some (14,true),.r (.bt 2),[.t 4]⟩,
 cF 16 0 14 true,
 uq 17 16 14 true,
 c9 18 17 0 14 true,
 c7 19 18 14 true,
 cF 20 1 14 true,
 bL 21 (.bin .sub) [.t 20,zI 1] 14 true,
 bL 22 (.bin .quo) [.t 21,zI 2] 14 true,
 bL 23 (.aB 2) [.t 19,.t 22] 14 true,
 ⟨some 24,some (14,true),.r (.bt 2),[.t 23]⟩,
 qt 25 236 [.t 15,.t 24] 14 true,
 zP 26 .pick [.t 14,.t 25,.c (.bool false)]] [[],[],[],[],[],[],[],[],[],[],[],[],[],[],[]])
 (.cond (.t 26)
 .skip
 (.exit 0)))
 (.block 1 (.seq (.ops [zM 27 0,
 zM 28 1,
 zM 29 0,
 zN 30 29,
 zF 31 30 0,
 zL 32 31,
 zM 33 1,
 zP 34 (.bin .sub) [.t 33,zI 1],
 zP 35 (.bin .quo) [.t 34,zI 2],
 zR 36 (.aB 2) 32 35,
 zO 37 2 36,
 Er 38 237 27 28 37])
 (.ops [zM 39 1,
 zP 40 (.bin .sub) [.t 39,zI 1],
 zP 41 (.bin .quo) [.t 40,zI 2],
 zM 1 41]))))
def My:aj:=⟨46,[],
 (.seq (.ops [zM 5 0,
 zN 6 5,
 zF 7 6 0,
 zL 8 7,
 zM 9 1,
 zR 10 (.aB 2) 8 9,
 zO 11 2 10,
 ⟨some 4,none,.a (.alloc [zz,zz]),[]⟩,
 zS 2 [.t 4,.t 11]])
 (.seq (.block 0 (.loop qO))
 (.ops [zM 42 0,
 zM 43 1,
 zO 44 2 4,
 Er 45 237 42 43 44])))⟩
def Mz:aj:=⟨12,[.tmp 2],
 (.seq (.ops [zK 2 (.bool false)])
 (.seq (.ops [zM 3 0,
 zP 4 (.eq .dF) [.t 3,.c .bJ],
 zM 5 4,
 cF 6 0 5 false,
 uq 7 6 5 false,
 c9 8 7 0 5 false,
 c7 9 8 5 false,
 bL 10 (.eq .dF) [.t 9,.c .bJ] 5 false,
 zP 11 .pick [.t 5,.c (.bool true),.t 10],
 zM 2 11])
 .ret))⟩
def MA:aj:=⟨15,[.tmp 2,.tmp 3,.tmp 4],
 (.seq (.ops [zV 2 0,
 zV 3 0,
 zK 4 (.bool false)])
 (.seq (.seq (.ops [zM 5 0,
 cE 6 167 5])
 (.cond (.t 6)
 (.seq (.ops [zV 2 0,
 zV 3 0,
 zK 4 (.bool false)])
 .ret)
 .skip))
 (.seq (.ops [zM 7 0,
 zN 8 7,
 zF 9 8 0,
 zL 10 9,
 cE 11 159 10,
 zQ 12 (.ext 0) 11,
 zQ 13 (.ext 1) 11,
 zQ 14 (.ext 2) 11,
 zM 2 12,
 zM 3 13,
 zM 4 14])
 .ret)))⟩
def MB:aj:=⟨11,[.tmp 2],
 (.seq (.ops [zV 2 0])
 (.seq (.ops [zM 6 0,
 cE 7 264 6,
 zM 5 7,
 zQ 8 (.ext 0) 5,
 zQ 9 (.ext 1) 5,
 zM 3 8,
 zM 4 9])
 (.seq (.ops [zM 10 3,
 zM 2 10])
 .ret)))⟩
def w7:AC:=(.seq (.ops [zR 15 (.bin .lss) 14 13])
 (.seq (.cond (.t 15)
 .skip
 (.exit 0))
 (.seq (.block 1 (.seq (.ops [zR 16 (.aB 3) 12 14,
 zO 17 3 16,
 ⟨some 6,none,.a (.alloc [zz,zz,.az]),[]⟩,
 zS 3 [.t 6,.t 17]])
 (.seq (.seq (.ops [zF 18 6 0,
 zL 19 18,
 zP 20 (.bin .gtr) [.t 19,zI 64],
 zM 21 20,
 c9 22 6 1 21 false,
 c7 23 22 21 false,
 bL 24 (.bin .lss) [.t 23,zI 1] 21 false,
 zP 25 .pick [.t 21,.c (.bool true),.t 24],
 zM 26 25,
 c9 27 6 1 26 false,
 c7 28 27 26 false,
 c9 29 6 0 26 false,
 c7 30 29 26 false,
 bL 31 (.bin .gtr) [.t 28,.t 30] 26 false,
 zP 32 .pick [.t 26,.c (.bool true),.t 31]])
 (.cond (.t 32)
 (.seq (.ops [zO 33 2 4,
 zS 2 [.t 2,.t 33],
 zK 3 (.bool false)])
 .ret)
 .skip))
 (.ops [zO 34 2 4,
 zF 35 6 1,
 zL 36 35,
 zF 37 6 0,
 zL 38 37,
 zR 39 (.build [zz,zz] [(0,1),(1,1)]) 36 38,
 fF 40 267 34 39,
 zS 2 [.t 4,.t 40]]))))
 (.ops [zP 41 (.bin .add) [.t 14,zI 1],
 zM 14 41]))))
def MC:aj:=⟨43,[.cell 2 2 true,.tmp 3],
 (.seq (.ops [⟨some 2,none,.a (.alloc [zz,zz]),[]⟩,
 zK 3 (.bool false)])
 (.seq (.ops [zP 7 (.build [zz,zz] [(0,1),(1,1)]) [zI 0,zI 1],
 ⟨some 4,none,.a (.alloc [zz,zz]),[]⟩,
 zS 2 [.t 4,.t 7]])
 (.seq (.seq (.ops [zM 8 0,
 zQ 9 .aV 8,
 zP 10 (.bin .gtr) [.t 9,zI 4]])
 (.cond (.t 10)
 (.seq (.ops [zO 11 2 4,
 zS 2 [.t 2,.t 11],
 zK 3 (.bool false)])
 .ret)
 .skip))
 (.seq (.seq (.ops [zM 12 0,
 zQ 13 .aV 12,
 zV 14 0])
 (.block 0 (.loop w7)))
 (.seq (.ops [zO 42 2 4,
 zS 2 [.t 2,.t 42],
 zK 3 (.bool true)])
 .ret)))))⟩
def MD:aj:=⟨13,[.tmp 2],
 (.seq (.ops [zB 1 0,
 zK 2 (.bool false)])
 (.seq (.ops [zF 3 1 0,
 zL 4 3,
 zF 5 1 1,
 zL 6 5,
 zR 7 (.bin .gtr) 4 6,
 zM 8 7,
 ⟨some 9,some (8,true),.r (.bt 2),[.t 1]⟩,
 bL 10 (.build [zz,zz] [(0,1),(1,1)]) [zI 1,zI 1] 8 true,
 bL 11 (.neq (.cells [0,0])) [.t 9,.t 10] 8 true,
 zP 12 .pick [.t 8,.t 11,.c (.bool false)],
 zM 2 12])
 .ret))⟩
def ME:aj:=⟨26,[.cell 4 6 true,.tmp 5],
 (.seq (.ops [⟨some 4,none,.a (.alloc [zz,zz,.az,.az,zz,.az]),[]⟩,
 zV 5 0])
 (.seq (.ops [zM 9 0,
 zM 10 1,
 fF 11 268 9 10,
 zM 8 11,
 zQ 12 (.ext 0) 8,
 zQ 13 (.ext 1) 8,
 zM 6 12,
 zM 7 13])
 (.seq (.seq (.ops [zM 14 7,
 zP 15 (.bin .neq) [.t 14,zI 0]])
 (.cond (.t 15)
 (.seq (.ops [zP 16 (.build [zz,zz,.az,.az,zz,.az] []) [],
 zM 17 7,
 zS 6 [.t 4,.t 16],
 zM 5 17])
 .ret)
 .skip))
 (.seq (.ops [zM 18 0,
 zM 19 1,
 zR 20 (.aB 3) 18 19,
 zO 21 3 20,
 zM 22 0,
 zM 23 1,
 zM 24 6,
 zP 25 (.build [zz,zz,.az,.az,zz,.az] [(0,3),(3,1),(4,1),(5,1)]) [.t 21,.t 22,.t 23,.t 24],
 zS 6 [.t 4,.t 25],
 zV 5 0])
 .ret))))⟩
def sX:AC:=(.seq (.ops [zR 26 (.bin .lss) 25 24])
 (.seq (.cond (.t 26)
 .skip
 (.exit 0))
 (.seq (.block 1 (.seq (.ops [zR 27 (.aB 8) 23 25,
 zO 28 8 27,
 ⟨some 8,none,.a (.alloc [zz,zz,zz,zz,zz,zz,zz,zz]),[]⟩,
 zS 8 [.t 8,.t 28]])
 (.seq (.ops [zM 30 6,
 zF 31 8 0,
 zL 32 31,
 ⟨some 33,none,.a (.aY [zz] 2 1 [0,1]),[.t 30,.t 32]⟩,
 zC 34 269 [zI 4096,.t 33],
 zM 29 34,
 zQ 35 (.ext 0) 29,
 zQ 36 (.ext 1) 29,
 zM 9 35,
 zM 10 36])
 (.seq (.seq (.ops [zM 37 10,
 zP 38 (.bin .neq) [.t 37,zI 0]])
 (.cond (.t 38)
 (.seq (.ops [zV 4 0,
 zV 5 5])
 .ret)
 .skip))
 (.ops [zM 39 9,
 zM 6 39])))))
 (.ops [zP 40 (.bin .add) [.t 25,zI 1],
 zM 25 40]))))
def MF:aj:=⟨42,[.tmp 4,.tmp 5],
 (.seq (.ops [zV 4 0,
 zV 5 0])
 (.seq (.seq (.ops [zM 11 0,
 cE 12 178 11,
 zQ 13 .not 12,
 zM 14 13,
 cF 15 1 14 false,
 bL 16 (.bin .lss) [.t 15,zI 1] 14 false,
 zP 17 .pick [.t 14,.c (.bool true),.t 16],
 zM 18 17,
 cF 19 1 18 false,
 bL 20 (.bin .gtr) [.t 19,zI 64] 18 false,
 zP 21 .pick [.t 18,.c (.bool true),.t 20]])
 (.cond (.t 21)
 (.seq (.ops [zV 4 0,
 zV 5 2])
 .ret)
 .skip))
 (.seq (.ops [zM 22 1,
 zM 6 22])
 (.seq (.seq (.ops [zM 23 0,
 zQ 24 .aV 23,
 zV 25 0])
 (.block 0 (.loop sX)))
 (.seq (.ops [zM 41 6,
 zM 4 41,
 zV 5 0])
 .ret)))))⟩
def MG:aj:=⟨30,[.tmp 6,.tmp 7],
 (.seq (.ops [zB 5 2,
 zV 6 0,
 zV 7 0])
 (.seq (.seq (.ops [zM 9 0,
 zM 10 1,
 fF 11 141 9 10,
 zM 8 11])
 (.seq (.ops [zM 12 8,
 zP 13 (.bin .neq) [.t 12,zI 0],
 zM 14 13,
 c7 15 5 14 false,
 bL 16 (.bin .lss) [.t 15,zI 1] 14 false,
 zP 17 .pick [.t 14,.c (.bool true),.t 16],
 zM 18 17,
 c7 19 5 18 false,
 bL 20 (.bin .gtr) [.t 19,zI 1048576] 18 false,
 zP 21 .pick [.t 18,.c (.bool true),.t 20]])
 (.cond (.t 21)
 (.seq (.ops [zV 6 0,
 zV 7 2])
 .ret)
 .skip)))
 (.seq (.seq (.ops [zM 22 0,
 zQ 23 (.ec (.func 270) 0) 5,
 fF 24 97 22 23])
 (.cond (.t 24)
 (.seq (.ops [zV 6 0,
 zV 7 2])
 .ret)
 .skip))
 (.seq (.ops [zM 25 0,
 zM 26 1,
 zQ 27 (.ec (.func 273) 0) 5,
 Er 28 272 25 26 27,
 cE 29 271 28,
 zM 6 29,
 zV 7 0])
 .ret))))⟩
def MH:aj:=⟨6,[.tmp 4],
 (.seq (.ops [zB 2 0,
 zB 3 1,
 zK 4 .iZ])
 (.seq (.ops [zR 5 (.ec (.func 274) 0) 3 2,
 zM 4 5])
 .ret))⟩
def wZ:AC:=(.seq (.ops [zR 8 (.bin .lss) 7 6])
 (.seq (.cond (.t 8)
 .skip
 (.exit 0))
 (.seq (.block 1 (.seq (.ops [zR 9 (.aB 1) 5 7,
 zL 10 9,
 zM 4 10])
 (.ops [zM 11 2,
 zM 12 4,
 zR 13 (.bin .add) 11 12,
 zM 2 13])))
 (.ops [zP 14 (.bin .add) [.t 7,zI 1],
 zM 7 14]))))
def MI:aj:=⟨16,[.tmp 2],
 (.seq (.ops [zV 2 0])
 (.seq (.seq (.ops [zM 5 0,
 zQ 6 .aV 5,
 zV 7 0])
 (.block 0 (.loop wZ)))
 (.seq (.ops [zM 15 2,
 zM 2 15])
 .ret)))⟩
def MJ:aj:=⟨6,[.tmp 2],
 (.seq (.ops [zB 1 0,
 zK 2 (.bool false)])
 (.seq (.ops [zO 3 8 1,
 cE 4 230 3,
 zQ 5 .not 4,
 zM 2 5])
 .ret))⟩
def MK:aj:=⟨25,[.tmp 2],
 (.seq (.ops [zB 1 0,
 zK 2 (.bool false)])
 (.seq (.ops [zF 3 1 2,
 zL 4 3,
 zP 5 (.bin .leq) [zI 1,.t 4],
 zM 6 5,
 c9 7 1 2 6 true,
 c7 8 7 6 true,
 c9 9 1 1 6 true,
 c7 10 9 6 true,
 bL 11 (.bin .leq) [.t 8,.t 10] 6 true,
 zP 12 .pick [.t 6,.t 11,.c (.bool false)],
 zM 13 12,
 c9 14 1 1 13 true,
 c7 15 14 13 true,
 c9 16 1 0 13 true,
 c7 17 16 13 true,
 bL 18 (.bin .leq) [.t 15,.t 17] 13 true,
 zP 19 .pick [.t 13,.t 18,.c (.bool false)],
 zM 20 19,
 c9 21 1 0 20 true,
 c7 22 21 20 true,
 bL 23 (.bin .leq) [.t 22,zI 64] 20 true,
 zP 24 .pick [.t 20,.t 23,.c (.bool false)],
 zM 2 24])
 .ret))⟩
def rQ:AC:=(.seq (.ops [zR 21 (.bin .lss) 20 19])
 (.seq (.cond (.t 21)
 .skip
 (.exit 0))
 (.seq (.block 1 (.seq (.ops [zR 22 (.aB 2) 18 20,
 zO 23 2 22,
 ⟨some 5,none,.a (.alloc [zz,zz]),[]⟩,
 zS 2 [.t 5,.t 23]])
 (.ops [zM 24 2,
 zF 25 5 0,
 zL 26 25,
 ⟨some 27,none,.a (.aY [zz] 1 1 [0]),[.t 26]⟩,
 zA 28 1 8 24 27,
 zM 2 28])))
 (.ops [zP 29 (.bin .add) [.t 20,zI 1],
 zM 20 29]))))
def ML:aj:=⟨31,[.tmp 2],
 (.seq (.ops [zK 2 .az])
 (.seq (.seq (.ops [zM 6 0,
 cE 7 188 6])
 (.cond (.t 7)
 (.seq (.ops [zK 2 .az])
 .ret)
 .skip))
 (.seq (.ops [zM 8 0,
 zN 9 8,
 zF 10 9 0,
 zL 11 10,
 zN 12 11,
 zF 13 12 0,
 zL 14 13,
 cE 15 277 14,
 zM 3 15])
 (.seq (.ops [zM 16 3,
 ⟨some 17,none,.call,[.c (.func (.func 278) [] []),.t 16,.c (.func (.func 279) [] [])]⟩])
 (.seq (.seq (.ops [zM 18 3,
 zQ 19 .aV 18,
 zV 20 0])
 (.block 0 (.loop rQ)))
 (.seq (.ops [zM 30 2,
 zM 2 30])
 .ret))))))⟩
def MM:aj:=⟨12,[.tmp 2],
 (.seq (.ops [zK 2 (.bool false)])
 (.seq (.ops [zM 3 0,
 zP 4 (.eq .dF) [.t 3,.c .bJ],
 zM 5 4,
 cF 6 0 5 false,
 uq 7 6 5 false,
 c9 8 7 0 5 false,
 c7 9 8 5 false,
 bL 10 (.eq .dF) [.t 9,.c .bJ] 5 false,
 zP 11 .pick [.t 5,.c (.bool true),.t 10],
 zM 2 11])
 .ret))⟩
def I9:aj:=⟨21,[],
 (.seq (.ops [zB 5 2])
 (.seq (.bI [zM 6 0,
 zN 7 6,
 zF 8 7 0,
 zL 9 8,
 zM 10 1,
 zO 11 2 5,
 zR 12 (.aB 2) 9 10,
 zS 2 [.t 12,.t 11]] [[],[],[],[],[],[],[],[]])
 (.bI [zM 13 0,
 zF 14 5 0,
 zL 15 14,
 zM 16 1,
 zP 17 (.bin .add) [.t 16,zI 1],
 zN 18 13,
 zF 19 18 1,
 zR 20 (.jD 1 64) 19 15,
 zS 1 [.t 20,.t 17]] [[],[],[],[],[],[],[],[],[]])))⟩
def MN:aj:=⟨14,[.tmp 2,.tmp 3],
 (.seq (.ops [zV 2 0,
 zV 3 0])
 (.seq (.seq (.ops [zM 4 0,
 cE 5 168 4])
 (.cond (.t 5)
 (.seq (.ops [zV 2 0,
 zV 3 0])
 .ret)
 .skip))
 (.seq (.bI [zM 6 0,
 zN 7 6,
 zF 8 7 11,
 zL 9 8,
 zM 10 0,
 zN 11 10,
 zF 12 11 12,
 zL 13 12,
 zM 2 9,
 zM 3 13] [[],[],[],[],[],[],[],[],[],[]])
 .ret)))⟩
def MO:aj:=⟨9,[.tmp 4],
 (.seq (.ops [zK 4 (.bool false)])
 (.seq (.ops [zM 5 0,
 zM 6 1,
 fF 7 295 5 6,
 zP 8 (.bin .geq) [.t 7,zI 0],
 zM 4 8])
 .ret))⟩
def MP:aj:=⟨40,[.cell 4 2 true],
 (.seq (.ops [zB 2 0,
 zB 3 1,
 ⟨some 4,none,.a (.alloc [zz,zz]),[]⟩])
 (.seq (.bI [zF 10 2 0,
 zL 11 10,
 zF 12 3 1,
 zL 13 12,
 zR 14 (.bin .mul) 11 13,
 zF 15 3 0,
 zL 16 15,
 zF 17 2 1,
 zL 18 17,
 zR 19 (.bin .mul) 16 18,
 zR 20 (.bin .add) 14 19,
 zF 21 2 1,
 zL 22 21,
 zF 23 3 1,
 zL 24 23,
 zR 25 (.bin .mul) 22 24,
 zM 5 20,
 zM 6 25] [[],[],[],[],[],[],[],[],[],[],[],[],[],[],[],[],[],[]])
 (.seq (.ops [zM 27 5,
 zM 28 6,
 fF 29 296 27 28,
 zM 26 29,
 zQ 30 (.ext 0) 26,
 zQ 31 (.ext 1) 26,
 zM 7 30,
 zM 8 31])
 (.seq (.ops [zM 32 7,
 zM 9 32])
 (.seq (.bI [zM 33 5,
 zM 34 9,
 zR 35 (.bin .quo) 33 34,
 zM 36 6,
 zM 37 9,
 zR 38 (.bin .quo) 36 37,
 zR 39 (.build [zz,zz] [(0,1),(1,1)]) 35 38,
 zS 2 [.t 4,.t 39]] [[],[],[],[],[],[],[],[]])
 .ret)))))⟩
def uR:AC:=(.seq (.ops [zR 30 (.bin .lss) 29 28])
 (.seq (.cond (.t 30)
 .skip
 (.exit 0))
 (.seq (.block 1 (.seq (.ops [zM 31 29,
 zR 32 (.aB 8) 27 29,
 zO 33 8 32,
 ⟨some 10,none,.a (.alloc [zz,zz,zz,zz,zz,zz,zz,zz]),[]⟩,
 zM 9 31,
 zS 8 [.t 10,.t 33]])
 (.bI [zM 34 8,
 zM 35 9,
 zF 36 10 7,
 zL 37 36,
 zO 38 5 6,
 zO 39 8 10,
 fF 40 298 38 39,
 zF 41 10 6,
 zL 42 41,
 zR 43 (.bin .add) 40 42,
 zP 44 (.bin .sub) [.t 43,zI 1],
 zR 45 (.bin .mul) 37 44,
 zR 46 (.aB 1) 34 35,
 zS 1 [.t 46,.t 45]] [[],[],[],[0,7],[],[],[],[],[0,7],[],[],[],[],[]])))
 (.ops [zP 47 (.bin .add) [.t 29,zI 1],
 zM 29 47]))))
def MQ:aj:=⟨49,[.tmp 4,.tmp 5],
 (.seq (.ops [zK 4 .az,
 zV 5 0])
 (.seq (.ops [zM 12 0,
 zM 13 1,
 fF 14 297 12 13,
 zM 11 14,
 zQ 15 (.ext 0) 11,
 zQ 16 (.ext 1) 11,
 ⟨some 6,none,.a (.alloc [zz,zz,.az,.az,zz]),[]⟩,
 zS 5 [.t 6,.t 15],
 zM 7 16])
 (.seq (.seq (.ops [zM 17 7,
 zP 18 (.bin .neq) [.t 17,zI 0]])
 (.cond (.t 18)
 (.seq (.ops [zM 19 7,
 zK 4 .az,
 zM 5 19])
 .ret)
 .skip))
 (.seq (.ops [zF 20 6 0,
 zF 21 20 2,
 zL 22 21,
 zQ 23 .aV 22,
 ⟨some 24,none,.a (.eG [zz] 1 8),[.t 23,.t 23]⟩,
 zM 8 24])
 (.seq (.seq (.ops [zF 25 6 0,
 zF 26 25 2,
 zL 27 26,
 zQ 28 .aV 27,
 zV 29 0])
 (.block 0 (.loop uR)))
 (.seq (.ops [zM 48 8,
 zM 4 48,
 zV 5 0])
 .ret))))))⟩
def MR:aj:=⟨53,[.tmp 4,.tmp 5],
 (.seq (.ops [zV 4 0,
 zV 5 0])
 (.seq (.seq (.ops [zM 7 0,
 ⟨some 8,none,.a (.aY [zz] 1 1 [0]),[.t 7]⟩,
 cE 9 299 8,
 zQ 10 .not 9,
 zM 11 10,
 cF 12 1 11 false,
 qt 13 299 [.t 12] 11 false,
 bL 14 .not [.t 13] 11 false,
 zP 15 .pick [.t 11,.c (.bool true),.t 14],
 zM 16 15,
 cF 17 1 16 false,
 qt 18 266 [.t 17,zI 0] 16 false,
 zP 19 .pick [.t 16,.c (.bool true),.t 18]])
 (.cond (.t 19)
 (.seq (.ops [zV 4 0,
 zV 5 2])
 .ret)
 .skip))
 (.seq (.ops [zP 20 (.build [zz,zz] [(0,1)]) [zI 1],
 zB 21 20,
 zM 6 21])
 (.seq (.ops [zM 22 6,
 zQ 23 (.ec (.func 301) 1) 22,
 zM 24 1,
 fF 25 300 23 24])
 (.seq (.seq (.ops [zM 26 6,
 zN 27 26,
 zF 28 27 1,
 zL 29 28,
 zP 30 (.bin .eql) [.t 29,zI 0],
 zM 31 30,
 cF 32 6 31 true,
 uq 33 32 31 true,
 c9 34 33 0 31 true,
 c7 35 34 31 true,
 cF 36 0 31 true,
 bL 37 (.bin .gtr) [.t 35,.t 36] 31 true,
 zP 38 .pick [.t 31,.t 37,.c (.bool false)]])
 (.cond (.t 38)
 (.ops [zM 39 6,
 zN 40 39,
 zF 41 40 1,
 zS 1 [.t 41,zI 10]])
 .skip))
 (.seq (.bI [zM 42 6,
 zN 43 42,
 zF 44 43 0,
 zL 45 44,
 zM 46 6,
 zN 47 46,
 zF 48 47 1,
 zL 49 48,
 fF 50 302 45 49,
 zQ 51 (.ext 0) 50,
 zQ 52 (.ext 1) 50,
 zM 4 51,
 zM 5 52] [[],[],[],[],[],[],[],[],[],[],[],[],[]])
 .ret))))))⟩
def MS:aj:=⟨9,[.tmp 3],
 (.seq (.ops [zB 2 0,
 zK 3 (.bool false)])
 (.seq (.ops [zL 4 1,
 zF 5 2 0,
 zL 6 5,
 zR 7 (.bin .rem) 4 6,
 zP 8 (.bin .neq) [.t 7,zI 0],
 zM 3 8])
 .ret))⟩
def uS:AC:=(.seq (.ops [zR 8 (.bin .lss) 7 6])
 (.seq (.cond (.t 8)
 .skip
 (.exit 0))
 (.seq (.block 1 (.seq (.ops [zR 9 (.aB 1) 5 7,
 zL 10 9,
 zM 4 10])
 (.ops [zM 11 2,
 zM 12 4,
 zR 13 (.bin .add) 11 12,
 zM 2 13])))
 (.ops [zP 14 (.bin .add) [.t 7,zI 1],
 zM 7 14]))))
def MT:aj:=⟨16,[.tmp 2],
 (.seq (.ops [zV 2 0])
 (.seq (.seq (.ops [zM 5 0,
 zQ 6 .aV 5,
 zV 7 0])
 (.block 0 (.loop uS)))
 (.seq (.ops [zM 15 2,
 zM 2 15])
 .ret)))⟩
def uu:AC:=(.seq (.ops [zR 16 (.bin .lss) 15 14])
 (.seq (.cond (.t 16)
 .skip
 (.exit 0))
 (.seq (.block 1 (.seq (.ops [zM 17 15,
 zR 18 (.aB 8) 13 15,
 zO 19 8 18,
 ⟨some 9,none,.a (.alloc [zz,zz,zz,zz,zz,zz,zz,zz]),[]⟩,
 zM 8 17,
 zS 8 [.t 9,.t 19]])
 (.bI [zM 20 7,
 zM 21 8,
 zM 22 2,
 zO 23 8 9,
 ⟨some 24,none,.call,[.t 22,.t 23]⟩,
 zF 25 9 2,
 zL 26 25,
 zM 27 1,
 zM 28 8,
 zR 29 (.aB 1) 27 28,
 zL 30 29,
 zR 31 (.bin .add) 26 30,
 zR 32 (.bin .mul) 24 31,
 zR 33 (.aB 1) 20 21,
 zS 1 [.t 33,.t 32]] [[],[],[],[],[],[],[0,5],[],[],[],[0,5],[],[],[],[]])))
 (.ops [zP 34 (.bin .add) [.t 15,zI 1],
 zM 15 34]))))
def MU:aj:=⟨36,[.tmp 6],
 (.seq (.ops [zK 6 .az])
 (.seq (.ops [zM 10 0,
 zQ 11 .aV 10,
 ⟨some 12,none,.a (.eG [zz] 1 8),[.t 11,.t 11]⟩,
 zM 7 12])
 (.seq (.seq (.ops [zM 13 0,
 zQ 14 .aV 13,
 zV 15 0])
 (.block 0 (.loop uu)))
 (.seq (.ops [zM 35 7,
 zM 6 35])
 .ret))))⟩
def MV:aj:=⟨8,[.tmp 3],
 (.seq (.ops [zB 2 0,
 zV 3 0])
 (.seq (.ops [zL 4 1,
 zF 5 2 0,
 zL 6 5,
 zR 7 (.bin .quo) 4 6,
 zM 3 7])
 .ret))⟩
def mK:AC:=(.seq (.seq (.ops [zM 5 4,
 zL 6 1,
 zR 7 (.bin .leq) 5 6])
 (.cond (.t 7)
 .skip
 (.exit 0)))
 (.seq (.block 1 (.seq (.ops [zO 10 6 2,
 zM 11 4,
 fF 12 275 10 11,
 zP 13 (.bin .gtr) [.t 12,zI 0],
 zM 14 13,
 cF 15 0 14 true,
 cF 16 4 14 true,
 ⟨some 17,some (14,true),.r (.bt 6),[.t 2]⟩,
 cF 18 4 14 true,
 qt 19 276 [.t 17,.t 18] 14 true,
 ⟨some 20,some (14,true),.call,[.t 15,.t 16,.t 19]⟩,
 bL 21 .not [.t 20] 14 true,
 zP 22 .pick [.t 14,.t 21,.c (.bool false)]])
 (.cond (.t 22)
 .ret
 .skip)))
 (.ops [zM 8 4,
 zP 9 (.bin .add) [.t 8,zI 1],
 zM 4 9])))
def MW:aj:=⟨23,[],
 (.seq (.ops [zV 4 1])
 (.block 0 (.loop mK)))⟩
def MY:aj:=⟨18,[.tmp 4],
 (.seq (.ops [zB 2 0,
 zV 4 0])
 (.seq (.ops [zF 8 2 0,
 zF 9 8 2,
 zL 10 9,
 zF 11 2 5,
 zL 12 11,
 zM 13 1,
 Er 14 303 10 12 13,
 zM 7 14,
 zQ 15 (.ext 0) 7,
 zQ 16 (.ext 1) 7,
 zM 5 15,
 zM 6 16])
 (.seq (.ops [zM 17 5,
 zM 4 17])
 .ret)))⟩
def MZ:aj:=⟨38,[.tmp 4],
 (.seq (.ops [zB 2 0,
 zV 4 0])
 (.seq (.ops [zF 10 2 0,
 zF 11 10 0,
 zL 12 11,
 zF 13 2 0,
 zF 14 13 1,
 zL 15 14,
 zM 16 1,
 Er 17 304 12 15 16,
 zM 9 17,
 zQ 18 (.ext 0) 9,
 zQ 19 (.ext 1) 9,
 zM 5 18,
 zM 6 19])
 (.seq (.ops [zF 21 2 3,
 zL 22 21,
 zF 23 2 4,
 zL 24 23,
 zM 25 1,
 Er 26 305 22 24 25,
 zM 20 26,
 zQ 27 (.ext 0) 20,
 zQ 28 (.ext 1) 20,
 zM 7 27,
 zM 8 28])
 (.seq (.ops [zM 29 5,
 zO 30 6 2,
 zM 31 1,
 fF 32 275 30 31,
 zQ 33 .neg 32,
 zM 34 7,
 zQ 35 .neg 34,
 ⟨some 36,none,.a (.aY [zz] 3 1 [0,1,2]),[.t 29,.t 33,.t 35]⟩,
 cE 37 228 36,
 zM 4 37])
 .ret))))⟩
def M0:aj:=⟨8,[.tmp 2],
 (.seq (.ops [zK 2 .az])
 (.seq (.seq (.ops [zM 3 0,
 zP 4 (.eq .iW) [.t 3,.c .az]])
 (.cond (.t 4)
 (.seq (.ops [zK 2 .az])
 .ret)
 .skip))
 (.seq (.ops [⟨some 5,none,.a (.aY [zz,zz] 0 2 []),[]⟩,
 zM 6 0,
 zA 7 2 16 5 6,
 zM 2 7])
 .ret)))⟩
def M1:aj:=⟨14,[],
 (.seq (.ops [zM 5 0,
 zQ 6 .aV 5,
 zM 4 6])
 (.ops [zM 7 0,
 zM 8 4,
 zM 9 4,
 zQ 10 (.conv .u64) 9,
 cE 11 307 10,
 zM 12 1,
 ⟨some 13,none,.call,[.c (.func (.func 306) [] []),.t 7,zI 0,.t 8,.t 11,.t 12]⟩]))⟩
def mh:AC:=(.seq (.ops [zR 9 (.bin .lss) 8 7])
 (.seq (.cond (.t 9)
 .skip
 (.exit 0))
 (.seq (.block 1 (.seq (.ops [zM 10 8,
 zM 5 10])
 (.seq (.ops [zM 11 1,
 zM 12 0,
 zM 13 5,
 zR 14 (.aB 1) 12 13,
 zL 15 14,
 zR 16 (.bin .eql) 11 15])
 (.cond (.t 16)
 (.seq (.ops [zM 17 5,
 zM 4 17])
 .ret)
 .skip))))
 (.ops [zP 18 (.bin .add) [.t 8,zI 1],
 zM 8 18]))))
def M3:aj:=⟨19,[.tmp 4],
 (.seq (.ops [zV 4 0])
 (.seq (.seq (.ops [zM 6 0,
 zQ 7 .aV 6,
 zV 8 0])
 (.block 0 (.loop mh)))
 (.seq (.ops [zV 4 (-1)])
 .ret)))⟩
def xd:AC:=(.seq (.seq (.ops [zM 11 1,
 zP 12 (.bin .neq) [.t 11,zI 0]])
 (.cond (.t 12)
 .skip
 (.exit 0)))
 (.block 1 (.bI [zM 13 1,
 zM 14 0,
 zM 15 1,
 zR 16 (.bin .rem) 14 15,
 zM 0 13,
 zM 1 16] [[],[],[],[],[],[]])))
def M4:aj:=⟨18,[.tmp 4,.tmp 5],
 (.seq (.ops [zV 4 0,
 zV 5 0])
 (.seq (.seq (.ops [zM 6 0,
 zM 7 1,
 ⟨some 8,none,.a (.aY [zz] 2 1 [0,1]),[.t 6,.t 7]⟩,
 cE 9 299 8,
 zQ 10 .not 9])
 (.cond (.t 10)
 (.seq (.ops [zV 4 0,
 zV 5 2])
 .ret)
 .skip))
 (.seq (.block 0 (.loop xd))
 (.seq (.ops [zM 17 0,
 zM 4 17,
 zV 5 0])
 .ret))))⟩
def M5:aj:=⟨29,[.cell 4 5 true,.tmp 5],
 (.seq (.ops [⟨some 4,none,.a (.alloc [zz,zz,.az,.az,zz]),[]⟩,
 zV 5 0])
 (.seq (.seq (.ops [zM 7 0,
 cE 8 315 7,
 zM 6 8])
 (.seq (.ops [zM 9 6,
 zP 10 (.bin .neq) [.t 9,zI 0]])
 (.cond (.t 10)
 (.seq (.ops [zP 11 (.build [zz,zz,.az,.az,zz] []) [],
 zM 12 6,
 zS 5 [.t 4,.t 11],
 zM 5 12])
 .ret)
 .skip)))
 (.seq (.seq (.ops [zM 13 1,
 zP 14 (.bin .lss) [.t 13,zI 0],
 zM 15 14,
 cF 16 1 15 false,
 cF 17 0 15 false,
 bL 18 .aV [.t 17] 15 false,
 bL 19 (.bin .geq) [.t 16,.t 18] 15 false,
 zP 20 .pick [.t 15,.c (.bool true),.t 19]])
 (.cond (.t 20)
 (.seq (.ops [zP 21 (.build [zz,zz,.az,.az,zz] []) [],
 zS 5 [.t 4,.t 21],
 zV 5 9])
 .ret)
 .skip))
 (.seq (.ops [zM 22 0,
 zM 23 1,
 zR 24 (.aB 3) 22 23,
 zO 25 3 24,
 zM 26 0,
 zM 27 1,
 zP 28 (.build [zz,zz,.az,.az,zz] [(0,3),(3,1),(4,1)]) [.t 25,.t 26,.t 27],
 zS 5 [.t 4,.t 28],
 zV 5 0])
 .ret))))⟩
def oC:AC:=(.ops [⟨some 5,none,.a (.alloc [zz,zz,.az]),[]⟩,
 zS 3 [.t 5,.t 13]])
def oD:AC:=(.block 1 (.ops [zL 14 4,
 zF 15 5 0,
 zL 16 15,
 zP 17 (.bin .mul) [zI 2,.t 16],
 zR 18 (.bin .add) 14 17,
 zS 1 [.t 4,.t 18]]))
def M6:aj:=⟨20,[.cell 4 1 false],
 (.seq (.ops [zB 2 0,
 zB 3 1,
 ⟨some 4,none,.a (.alloc [zz]),[]⟩])
 (.seq (.seq (.ops [zF 6 3 5,
 zL 7 6,
 zP 8 (.bin .eql) [.t 7,zI 0]])
 (.cond (.t 8)
 (.seq (.ops [zS 1 [.t 4,zI 0]])
 .ret)
 .skip))
 (.seq (.seq (.ops [zO 9 5 2,
 zF 10 3 5,
 zL 11 10,
 fF 12 316 9 11])
 (.block 0 (.rangeFunc (.t 12) [13] oC oD)))
 (.seq (.ops [zL 19 4,
 zS 1 [.t 4,.t 19]])
 .ret))))⟩
def uX:AC:=(.seq (.ops [zR 8 (.bin .lss) 7 6])
 (.seq (.cond (.t 8)
 .skip
 (.exit 0))
 (.seq (.block 1 (.seq (.ops [zR 9 (.aB 1) 5 7,
 zL 10 9,
 zM 4 10])
 (.seq (.ops [zM 11 4,
 zP 12 (.bin .lss) [.t 11,zI 0],
 zM 13 12,
 cF 14 4 13 false,
 bL 15 (.bin .gtr) [.t 14,zI 1099511627776] 13 false,
 zP 16 .pick [.t 13,.c (.bool true),.t 15]])
 (.cond (.t 16)
 (.seq (.ops [zK 2 (.bool false)])
 .ret)
 .skip))))
 (.ops [zP 17 (.bin .add) [.t 7,zI 1],
 zM 7 17]))))
def M7:aj:=⟨18,[.tmp 2],
 (.seq (.ops [zK 2 (.bool false)])
 (.seq (.seq (.ops [zM 5 0,
 zQ 6 .aV 5,
 zV 7 0])
 (.block 0 (.loop uX)))
 (.seq (.ops [zK 2 (.bool true)])
 .ret)))⟩
def uW:AC:=(.seq (.ops [zR 9 (.bin .lss) 8 7])
 (.seq (.cond (.t 9)
 .skip
 (.exit 0))
 (.seq (.block 1 (.seq (.ops [zR 10 (.aB 1) 6 8,
 zL 11 10,
 zM 5 11])
 (.ops [zM 12 0,
 zM 13 5,
 ⟨some 14,none,.call,[.t 12,.t 13]⟩])))
 (.ops [zP 15 (.bin .add) [.t 8,zI 1],
 zM 8 15]))))
def M8:aj:=⟨16,[],
 (.seq (.ops [zM 6 1,
 zQ 7 .aV 6,
 zV 8 0])
 (.block 0 (.loop uW)))⟩
def M9:aj:=⟨37,[],
 (.seq (.ops [zM 6 0,
 zN 7 6,
 zF 8 7 1,
 zL 9 8,
 zP 10 (.bin .eql) [.t 9,zI 0]])
 (.cond (.t 10)
 (.seq (.ops [zM 12 0,
 zN 13 12,
 zF 14 13 0,
 zL 15 14,
 zM 16 1,
 fF 17 296 15 16,
 zM 11 17,
 zQ 18 (.ext 0) 11,
 zQ 19 (.ext 1) 11,
 zM 4 18,
 zM 5 19])
 (.bI [zM 21 0,
 zM 22 0,
 zM 23 0,
 zN 24 23,
 zF 25 24 0,
 zL 26 25,
 zM 27 1,
 zM 28 4,
 zR 29 (.bin .quo) 27 28,
 fF 30 317 26 29,
 zM 20 30,
 zQ 31 (.ext 0) 20,
 zQ 32 (.ext 1) 20,
 zN 33 21,
 zF 34 33 0,
 zS 1 [.t 34,.t 31],
 zN 35 22,
 zF 36 35 1,
 zS 1 [.t 36,.t 32]] [[],[],[],[],[],[],[],[],[],[],[],[],[],[],[],[],[],[],[]]))
 .skip))⟩
def Na:aj:=⟨16,[.tmp 4,.tmp 5],
 (.seq (.ops [zV 4 0,
 zV 5 0])
 (.seq (.seq (.ops [zM 6 1,
 zP 7 (.bin .eql) [.t 6,zI 0],
 zM 8 7,
 cF 9 0 8 true,
 bL 10 (.bin .gtr) [.t 9,zI 1099511627776] 8 true,
 zP 11 .pick [.t 8,.t 10,.c (.bool false)]])
 (.cond (.t 11)
 (.ops [zV 1 10])
 .skip))
 (.seq (.seq (.ops [zM 12 1,
 zP 13 (.bin .neq) [.t 12,zI 0]])
 (.cond (.t 13)
 (.seq (.ops [zM 14 1,
 zV 4 0,
 zM 5 14])
 .ret)
 .skip))
 (.seq (.ops [zM 15 0,
 zM 4 15,
 zV 5 0])
 .ret))))⟩
def Nb:aj:=⟨27,[.tmp 6,.tmp 7],
 (.seq (.ops [zB 5 2,
 zV 6 0,
 zV 7 0])
 (.seq (.seq (.ops [zM 9 0,
 zM 10 1,
 fF 11 141 9 10,
 zM 8 11])
 (.seq (.ops [zM 12 8,
 zP 13 (.bin .neq) [.t 12,zI 0],
 zM 14 13,
 c7 15 5 14 false,
 bL 16 (.bin .lss) [.t 15,zI 0] 14 false,
 zP 17 .pick [.t 14,.c (.bool true),.t 16],
 zM 18 17,
 c7 19 5 18 false,
 bL 20 (.bin .gtr) [.t 19,zI 1048576] 18 false,
 zP 21 .pick [.t 18,.c (.bool true),.t 20]])
 (.cond (.t 21)
 (.seq (.ops [zV 6 0,
 zV 7 2])
 .ret)
 .skip)))
 (.seq (.ops [zM 22 0,
 zM 23 1,
 zQ 24 (.ec (.func 318) 0) 5,
 Er 25 272 22 23 24,
 cE 26 271 25,
 zM 6 26,
 zV 7 0])
 .ret)))⟩
def Nc:aj:=⟨29,[.tmp 6,.tmp 7],
 (.seq (.ops [zV 6 0,
 zV 7 0])
 (.seq (.ops [zM 11 0,
 zM 12 1,
 fF 13 319 11 12,
 zM 10 13,
 zQ 14 (.ext 0) 10,
 zQ 15 (.ext 1) 10,
 ⟨some 8,none,.a (.alloc [zz,zz]),[]⟩,
 zS 2 [.t 8,.t 14],
 zM 9 15])
 (.seq (.seq (.ops [zM 16 9,
 zQ 17 .not 16,
 zM 18 17,
 cF 19 2 18 false,
 bL 20 (.bin .lss) [.t 19,zI 0] 18 false,
 zP 21 .pick [.t 18,.c (.bool true),.t 20],
 zM 22 21,
 cF 23 2 22 false,
 bL 24 (.bin .gtr) [.t 23,zI 1048576] 22 false,
 zP 25 .pick [.t 22,.c (.bool true),.t 24]])
 (.cond (.t 25)
 (.seq (.ops [zV 6 0,
 zV 7 2])
 .ret)
 .skip))
 (.seq (.ops [zO 26 2 8,
 zM 27 2,
 fF 28 320 26 27,
 zM 6 28,
 zV 7 0])
 .ret))))⟩
def yN:AC:=(.seq (.ops [zR 29 (.bin .lss) 28 27])
 (.seq (.cond (.t 29)
 .skip
 (.exit 1))
 (.seq (.block 2 (.seq (.ops [zR 30 (.aB 8) 26 28,
 zO 31 8 30,
 ⟨some 10,none,.a (.alloc [zz,zz,zz,zz,zz,zz,zz,zz]),[]⟩,
 zS 8 [.t 10,.t 31]])
 (.seq (.ops [zF 32 10 1,
 zL 33 32,
 zM 34 2,
 zR 35 (.bin .gtr) 33 34])
 (.cond (.t 35)
 (.ops [zM 36 6,
 zO 37 5 8,
 zO 38 8 10,
 fF 39 321 37 38,
 zR 40 .mx 36 39,
 zM 6 40])
 .skip))))
 (.ops [zP 41 (.bin .add) [.t 28,zI 1],
 zM 28 41]))))
def Nd:aj:=⟨43,[.tmp 6,.tmp 7],
 (.seq (.ops [zV 6 0,
 zV 7 0])
 (.seq (.ops [zM 12 0,
 zM 13 1,
 fF 14 297 12 13,
 zM 11 14,
 zQ 15 (.ext 0) 11,
 zQ 16 (.ext 1) 11,
 ⟨some 8,none,.a (.alloc [zz,zz,.az,.az,zz]),[]⟩,
 zS 5 [.t 8,.t 15],
 zM 7 16])
 (.seq (.block 0 (.seq (.ops [zM 18 7,
 zP 19 (.bin .neq) [.t 18,zI 0],
 zM 17 19])
 (.cond (.t 17)
 (.seq (.ops [zM 20 7,
 zV 6 0,
 zM 7 20])
 .ret)
 (.seq (.ops [zM 22 2,
 zP 23 (.bin .lss) [.t 22,zI 0],
 zM 21 23])
 (.cond (.t 21)
 (.seq (.ops [zV 6 0,
 zV 7 2])
 .ret)
 .skip)))))
 (.seq (.seq (.ops [zF 24 8 0,
 zF 25 24 2,
 zL 26 25,
 zQ 27 .aV 26,
 zV 28 0])
 (.block 1 (.loop yN)))
 (.seq (.ops [zM 42 6,
 zM 6 42,
 zV 7 0])
 .ret)))))⟩
end Ir
end Go.Proofs.YtmnolnoeibhjgaaGreat
