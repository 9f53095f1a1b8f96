/-
  What the program's functions are in Ads, printed by a program.
-/
import Derived.Test.YtecdcefacdodgaaAdsDef
set_option linter.unusedVariables false
set_option maxRecDepth 100000
namespace Go.Proofs.Ytecdcefacdodgaa
open Go Ads
namespace Ir
abbrev zM(d s:Nat):bh:=⟨some d,none,.p .Jk,[.t s]⟩
abbrev zF(d s o:Nat):bh:=⟨some d,none,.p (.vE o),[.t s]⟩
abbrev zN(d s:Nat):bh:=⟨some d,none,.p .oY,[.t s]⟩
abbrev zL(d s:Nat):bh:=⟨some d,none,.r .c8,[.t s]⟩
abbrev ff(d s g:Nat)(b:Bool):bh:=⟨some d,some (g,b),.p .Jk,[.t s]⟩
abbrev iF(d s o g:Nat)(b:Bool):bh:=⟨some d,some (g,b),.p (.vE o),[.t s]⟩
abbrev QG(d s g:Nat)(b:Bool):bh:=⟨some d,some (g,b),.p .oY,[.t s]⟩
abbrev gz(d s g:Nat)(b:Bool):bh:=⟨some d,some (g,b),.r .c8,[.t s]⟩
def zs(l:List Nat):String:=String.ofList (l.map Char.ofNat)
abbrev zP(d:Nat)(o:pR)(l:List bA):bh:=⟨some d,none,.p o,l⟩
abbrev cQ(d:Nat)(o:pR)(l:List bA)(g:Nat)(b:Bool):bh:=⟨some d,some (g,b),.p o,l⟩
abbrev zS(n:Nat)(l:List bA):bh:=⟨none,none,.e (.store n),l⟩
abbrev zz:AV:=.int .i64 0
abbrev zI(n:Int):bA:=.c (.int .i64 n)
abbrev zC(d f:Nat)(l:List bA):bh:=⟨some d,none,.call,.c (.func (.func f) [] [])::l⟩
abbrev uI(d f:Nat)(l:List bA)(g:Nat)(b:Bool):bh:=⟨some d,some (g,b),.call,.c (.func (.func f) [] [])::l⟩
abbrev TZ(d f:Nat):bh:=⟨some d,none,.call,[.c (.func (.func f) [] [])]⟩
abbrev uS(d f v:Nat):bh:=⟨some d,none,.call,[.c (.func (.func f) [] []),.t v]⟩
abbrev jk(d f v w:Nat):bh:=⟨some d,none,.call,[.c (.func (.func f) [] []),.t v,.t w]⟩
abbrev QF(d f v w x:Nat):bh:=⟨some d,none,.call,[.c (.func (.func f) [] []),.t v,.t w,.t x]⟩
abbrev zC4(d f v w x y:Nat):bh:=⟨some d,none,.call,[.c (.func (.func f) [] []),.t v,.t w,.t x,.t y]⟩
abbrev zC5(d f v w x y z:Nat):bh:=⟨some d,none,.call,[.c (.func (.func f) [] []),.t v,.t w,.t x,.t y,.t z]⟩
abbrev zQ(d:Nat)(o:pR)(a:Nat):bh:=⟨some d,none,.p o,[.t a]⟩
abbrev zR(d:Nat)(o:pR)(a b:Nat):bh:=⟨some d,none,.p o,[.t a,.t b]⟩
abbrev zO(d n s:Nat):bh:=⟨some d,none,.r (.bI n),[.t s]⟩
abbrev zV(d:Nat)(n:Int):bh:=⟨some d,none,.p .Jk,[.c (.int .i64 n)]⟩
abbrev zK(d:Nat)(v:AV):bh:=⟨some d,none,.p .Jk,[.c v]⟩
abbrev zB(d s:Nat):bh:=⟨some d,none,.a .box,[.t s]⟩
abbrev zA(d n b x y:Nat):bh:=⟨some d,none,.e (.append n b),[.t x,.t y]⟩
def C3:az:=⟨78,[.tmp 6],
 (.seq (.ops [zK 6 (.bool false)])
 (.seq (.ops [zM 17 0,
 uS 18 14 17,
 ⟨some 7,none,.a (.alloc [.aq,.aq]),[]⟩,
 zS 2 [.t 7,.t 18]])
 (.seq (.ops [zM 19 1,
 zC 20 15 [.t 19,zI 16],
 zM 21 2,
 zC 22 15 [.t 21,zI 16],
 zM 1 20,
 zM 2 22])
 (.seq (.cm [zO 24 2 7,
 zO 25 2 7,
 zM 26 1,
 jk 27 17 25 26,
 jk 28 16 24 27,
 zM 23 28,
 zQ 29 (.ext 0) 23,
 zQ 30 (.ext 1) 23,
 zQ 31 (.ext 2) 23,
 zM 8 29,
 zM 9 30,
 zM 10 31] [[0,4],[],[],[],[],[],[],[],[],[],[],[]])
 (.seq (.cm [zO 33 2 7,
 zO 34 2 7,
 zM 35 1,
 zM 36 2,
 zR 37 (.bin .andNot) 35 36,
 jk 38 17 34 37,
 jk 39 16 33 38,
 zM 32 39,
 zQ 40 (.ext 0) 32,
 zQ 41 (.ext 1) 32,
 zQ 42 (.ext 2) 32,
 zM 11 40,
 zM 12 41,
 zM 13 42] [[0,6],[],[],[],[],[],[],[],[],[],[],[],[],[]])
 (.seq (.seq (.ops [zF 43 7 0,
 zL 44 43,
 zQ 45 .cA 44,
 zP 46 (.bin .eql) [.t 45,zI 0]])
 (.cond (.t 46)
 (.seq (.ops [zM 47 13,
 zP 48 (.bin .eql) [.t 47,zI 50],
 zM 49 48,
 ff 50 10 49 true,
 ff 51 13 49 true,
 cQ 52 (.bin .eql) [.t 50,.t 51] 49 true,
 zP 53 .pick [.t 49,.t 52,.c (.bool false)],
 zM 54 53,
 ⟨some 55,some (54,true),.call,[.c (.func (.func 18) [] [])]⟩,
 zP 56 .pick [.t 54,.t 55,.c (.bool false)],
 zM 6 56])
 .ret)
 .skip))
 (.seq (.cm [zO 58 2 7,
 zO 59 2 7,
 zC 60 17 [.t 59,zI 0],
 jk 61 16 58 60,
 zM 57 61,
 zQ 62 (.ext 0) 57,
 zQ 63 (.ext 1) 57,
 zQ 64 (.ext 2) 57,
 zM 14 62,
 zM 15 63,
 zM 16 64] [[0,3],[],[],[],[],[],[],[],[],[],[]])
 (.seq (.ops [zM 65 16,
 zP 66 (.bin .eql) [.t 65,zI 0],
 zM 67 66,
 ff 68 10 67 true,
 cQ 69 (.bin .neq) [.t 68,zI 0] 67 true,
 ff 70 69 67 true,
 ff 71 13 70 false,
 cQ 72 (.bin .eql) [.t 71,zI 0] 70 false,
 cQ 73 .pick [.t 70,.c (.bool true),.t 72] 67 true,
 zP 74 .pick [.t 67,.t 73,.c (.bool false)],
 zM 75 74,
 ⟨some 76,some (75,true),.call,[.c (.func (.func 18) [] [])]⟩,
 zP 77 .pick [.t 75,.t 76,.c (.bool false)],
 zM 6 77])
 .ret))))))))⟩
def jN:AC:=(.seq (.seq (.ops [zM 60 14,
 zP 61 (.bin .lss) [.t 60,zI 500]])
 (.cond (.t 61)
 .skip
 (.exit 0)))
 (.seq (.block 1 (.seq (.seq (.ops [zM 64 13,
 zM 65 14,
 jk 66 19 64 65,
 zQ 67 .not 66])
 (.cond (.t 67)
 (.seq (.ops [zK 6 (.bool false)])
 .ret)
 .skip))
 (.ops [zM 68 13,
 uS 69 20 68])))
 (.ops [zM 62 14,
 zP 63 (.bin .add) [.t 62,zI 1],
 zM 14 63])))
def C4:az:=⟨70,[.tmp 6],
 (.seq (.ops [zK 6 (.bool false)])
 (.seq (.seq (.ops [TZ 15 18,
 zQ 16 .not 15])
 (.cond (.t 16)
 (.seq (.ops [zK 6 (.bool false)])
 .ret)
 .skip))
 (.seq (.ops [zM 17 0,
 uS 18 14 17,
 ⟨some 7,none,.a (.alloc [.aq,.aq]),[]⟩,
 zS 2 [.t 7,.t 18]])
 (.seq (.seq (.ops [zF 19 7 0,
 zL 20 19,
 zQ 21 .cA 20,
 zP 22 (.bin .eql) [.t 21,zI 0]])
 (.cond (.t 22)
 (.seq (.ops [zK 6 (.bool true)])
 .ret)
 .skip))
 (.seq (.cm [zO 23 2 7,
 zM 24 1,
 zC 25 15 [.t 24,zI 16],
 jk 26 17 23 25,
 zM 8 26] [[0,3],[],[],[],[]])
 (.seq (.ops [zO 28 2 7,
 zM 29 8,
 jk 30 16 28 29,
 zM 27 30,
 zQ 31 (.ext 0) 27,
 zQ 32 (.ext 1) 27,
 zQ 33 (.ext 2) 27,
 zM 9 31,
 zM 10 32,
 zM 11 33])
 (.seq (.seq (.ops [zM 34 11,
 zP 35 (.bin .neq) [.t 34,zI 0]])
 (.cond (.t 35)
 (.seq (.ops [zM 36 11,
 zP 37 (.bin .eql) [.t 36,zI 120],
 zM 38 37,
 ff 39 11 38 false,
 cQ 40 (.bin .eql) [.t 39,zI 5] 38 false,
 zP 41 .pick [.t 38,.c (.bool true),.t 40],
 zM 6 41])
 .ret)
 .skip))
 (.seq (.ops [zF 42 7 0,
 zL 43 42,
 zQ 44 .cA 43,
 zM 12 44])
 (.seq (.cm [zO 45 2 7,
 zM 46 8,
 zM 47 12,
 ⟨some 48,none,.a (.dj [zz] 1 8),[.t 47,.t 47]⟩,
 zM 49 12,
 ⟨some 50,none,.a (.dj [zz] 1 8),[.t 49,.t 49]⟩,
 zM 51 12,
 zP 52 (.bin .mul) [zI 4,.t 51],
 ⟨some 53,none,.a (.dj [zz,zz] 2 16),[.t 52,.t 52]⟩,
 zM 54 12,
 zP 55 (.bin .mul) [zI 4,.t 54],
 ⟨some 56,none,.a (.dj [zz] 1 8),[.t 55,.t 55]⟩,
 zM 57 2,
 zP 58 (.build [.aq,.aq,.aq,.aq,.aq,.aq,.aq,zz,.aq] [(0,2),(2,1),(3,1),(4,1),(5,1),(6,1),(8,1)]) [.t 45,.t 46,.t 48,.t 50,.t 53,.t 56,.t 57],
 zB 59 58,
 zM 13 59] [[],[],[],[],[],[],[],[],[],[],[],[],[],[],[],[]])
 (.seq (.seq (.ops [zV 14 0])
 (.block 0 (.loop jN)))
 (.seq (.ops [zK 6 (.bool true)])
 .ret)))))))))))⟩
def C5:az:=⟨145,[.tmp 0],
 (.seq (.ops [zK 0 (.bool false)])
 (.seq (.ops [TZ 20 21,
 ⟨some 1,none,.a (.alloc [.aq,.aq]),[]⟩,
 zS 2 [.t 1,.t 20]])
 (.seq (.ops [⟨some 21,none,.a (.cG [(.bool false)] 3 1 [0,1,2]),[.c (.bool true),.c (.bool true),.c (.bool true)]⟩,
 zM 2 21])
 (.seq (.ops [zP 23 (.build [.aq,.aq] []) [],
 zC 24 16 [.t 23,.c .aq],
 zM 22 24,
 zQ 25 (.ext 0) 22,
 zQ 26 (.ext 1) 22,
 zQ 27 (.ext 2) 22,
 zM 3 25,
 zM 4 26,
 zM 5 27])
 (.seq (.cm [zO 29 2 1,
 zM 30 2,
 zP 31 (.slice 1 false true false) [.t 30,zI 2],
 jk 32 16 29 31,
 zM 28 32,
 zQ 33 (.ext 0) 28,
 zQ 34 (.ext 1) 28,
 zQ 35 (.ext 2) 28,
 zM 6 33,
 zM 7 34,
 zM 8 35] [[],[],[],[],[],[],[],[],[],[],[]])
 (.seq (.cm [zO 36 2 1,
 zM 37 2,
 zP 38 (.slice 1 false true false) [.t 37,zI 2],
 zC 39 22 [.t 36,.t 38,zI 9],
 zM 9 39] [[],[],[],[],[]])
 (.seq (.cm [zO 40 2 1,
 ⟨some 41,none,.a (.dj [(.bool false)] 1 1),[zI 3,zI 3]⟩,
 zC 42 22 [.t 40,.t 41,zI (-1)],
 zM 10 42] [[],[],[],[]])
 (.seq (.cm [zO 44 2 1,
 zM 45 2,
 zP 46 (.slice 1 false true false) [.t 45,zI 2],
 zC 47 23 [.t 44,.t 46,zI 9,zI 9,zI 0],
 zM 43 47,
 zQ 48 (.ext 0) 43,
 zQ 49 (.ext 1) 43,
 ⟨some 11,none,.a (.alloc [.aq,.aq]),[]⟩,
 zS 2 [.t 11,.t 48],
 zM 12 49] [[],[],[],[],[],[],[],[],[],[]])
 (.seq (.cm [zO 51 2 1,
 ⟨some 52,none,.a (.dj [(.bool false)] 1 1),[zI 3,zI 3]⟩,
 zC 53 23 [.t 51,.t 52,zI 3,zI 1,zI 1],
 zM 50 53,
 zQ 54 (.ext 0) 50,
 zQ 55 (.ext 1) 50,
 ⟨some 13,none,.a (.alloc [.aq,.aq]),[]⟩,
 zS 2 [.t 13,.t 54],
 zM 14 55] [[],[],[],[],[],[],[],[],[]])
 (.seq (.cm [zO 57 2 1,
 ⟨some 58,none,.a (.dj [(.bool false)] 1 1),[zI 3,zI 3]⟩,
 zC 59 23 [.t 57,.t 58,zI 2,zI 64,zI 64],
 zM 56 59,
 zQ 60 (.ext 0) 56,
 zQ 61 (.ext 1) 56,
 ⟨some 15,none,.a (.alloc [.aq,.aq]),[]⟩,
 zS 2 [.t 15,.t 60],
 zM 16 61] [[],[],[],[],[],[],[],[],[]])
 (.seq (.ops [TZ 62 21,
 ⟨some 17,none,.a (.alloc [.aq,.aq]),[]⟩,
 zS 2 [.t 17,.t 62]])
 (.seq (.ops [zF 63 17 0,
 zL 64 63,
 zP 65 (.build [zz,zz,zz,zz,zz,zz,zz,zz] [(0,1),(1,1),(2,1)]) [zI 4,zI 1,zI 1],
 ⟨some 66,none,.a (.cG [zz,zz,zz,zz,zz,zz,zz,zz] 1 8 [0]),[.t 65]⟩,
 zP 67 (.aH 3) [.t 64,zI 1],
 zF 68 67 2,
 zS 1 [.t 68,.t 66]])
 (.seq (.ops [zF 69 17 0,
 zL 70 69,
 zP 71 (.build [zz,zz,zz,zz,zz,zz,zz,zz] [(0,1),(1,1),(2,1)]) [zI 8,zI 2,zI 1],
 ⟨some 72,none,.a (.cG [zz,zz,zz,zz,zz,zz,zz,zz] 1 8 [0]),[.t 71]⟩,
 zP 73 (.aH 3) [.t 70,zI 2],
 zF 74 73 2,
 zS 1 [.t 74,.t 72]])
 (.seq (.ops [zO 76 2 17,
 ⟨some 77,none,.a (.cG [(.bool false)] 3 1 [0,1,2]),[.c (.bool false),.c (.bool false),.c (.bool false)]⟩,
 zC 78 23 [.t 76,.t 77,zI 1,zI 1,zI 1],
 zM 75 78,
 zQ 79 (.ext 0) 75,
 zQ 80 (.ext 1) 75,
 ⟨some 18,none,.a (.alloc [.aq,.aq]),[]⟩,
 zS 2 [.t 18,.t 79],
 zM 19 80])
 (.seq (.ops [zK 81 (.bool true),
 ⟨some 82,some (81,true),.call,[.c (.func (.func 18) [] [])]⟩,
 zP 83 .pick [.t 81,.t 82,.c (.bool false)],
 zM 84 83,
 ff 85 5 84 true,
 cQ 86 (.bin .eql) [.t 85,zI 50] 84 true,
 zP 87 .pick [.t 84,.t 86,.c (.bool false)],
 zM 88 87,
 ff 89 8 88 true,
 cQ 90 (.bin .eql) [.t 89,zI 2] 88 true,
 zP 91 .pick [.t 88,.t 90,.c (.bool false)],
 zM 92 91,
 ff 93 9 92 true,
 cQ 94 (.bin .eql) [.t 93,zI 2] 92 true,
 zP 95 .pick [.t 92,.t 94,.c (.bool false)],
 zM 96 95,
 ff 97 10 96 true,
 cQ 98 (.bin .eql) [.t 97,zI 9] 96 true,
 zP 99 .pick [.t 96,.t 98,.c (.bool false)],
 zM 100 99,
 ff 101 12 100 true,
 cQ 102 (.bin .eql) [.t 101,zI 2] 100 true,
 zP 103 .pick [.t 100,.t 102,.c (.bool false)],
 zM 104 103,
 ff 105 14 104 true,
 cQ 106 (.bin .eql) [.t 105,zI 9] 104 true,
 zP 107 .pick [.t 104,.t 106,.c (.bool false)],
 zM 108 107,
 ff 109 16 108 true,
 cQ 110 (.bin .eql) [.t 109,zI 0] 108 true,
 zP 111 .pick [.t 108,.t 110,.c (.bool false)],
 zM 112 111,
 iF 113 15 0 112 true,
 gz 114 113 112 true,
 cQ 115 .cA [.t 114] 112 true,
 cQ 116 (.bin .eql) [.t 115,zI 3] 112 true,
 zP 117 .pick [.t 112,.t 116,.c (.bool false)],
 zM 118 117,
 iF 119 15 0 118 true,
 gz 120 119 118 true,
 cQ 121 (.aH 3) [.t 120,zI 2] 118 true,
 iF 122 121 1 118 true,
 gz 123 122 118 true,
 cQ 124 (.bin .eql) [.t 123,zI 64] 118 true,
 zP 125 .pick [.t 118,.t 124,.c (.bool false)],
 zM 126 125,
 ff 127 19 126 true,
 cQ 128 (.bin .eql) [.t 127,zI 0] 126 true,
 zP 129 .pick [.t 126,.t 128,.c (.bool false)],
 zM 130 129,
 ⟨some 131,some (130,true),.r (.bI 2),[.t 17]⟩,
 ⟨some 132,some (130,true),.a (.cG [(.bool false)] 3 1 [0,1,2]),[.c (.bool true),.c (.bool true),.c (.bool false)]⟩,
 uI 133 24 [.t 131,.t 132,zI 1,zI 1,zI 120] 130 true,
 zP 134 .pick [.t 130,.t 133,.c (.bool false)],
 zM 135 134,
 ⟨some 136,some (135,true),.r (.bI 2),[.t 17]⟩,
 ⟨some 137,some (135,true),.a (.cG [(.bool false)] 3 1 [0,1,2]),[.c (.bool true),.c (.bool false),.c (.bool true)]⟩,
 uI 138 24 [.t 136,.t 137,zI 2,zI 2,zI 120] 135 true,
 zP 139 .pick [.t 135,.t 138,.c (.bool false)],
 zM 140 139,
 ⟨some 141,some (140,true),.r (.bI 2),[.t 17]⟩,
 ⟨some 142,some (140,true),.a (.cG [(.bool false)] 3 1 [0,1,2]),[.c (.bool true),.c (.bool false),.c (.bool false)]⟩,
 uI 143 24 [.t 141,.t 142,zI (-1),zI 0,zI 0] 140 true,
 zP 144 .pick [.t 140,.t 143,.c (.bool false)],
 zM 0 144])
 .ret)))))))))))))))⟩
def ee:AC:=(.seq (.seq (.ops [zM 37 6,
 zM 38 0,
 zM 39 4,
 zR 40 (.aH 3) 38 39,
 zF 41 40 2,
 zL 42 41,
 zQ 43 .cA 42,
 zR 44 (.bin .lss) 37 43,
 zM 45 44,
 ff 46 6 45 true,
 cQ 47 (.bin .lss) [.t 46,zI 3] 45 true,
 zP 48 .pick [.t 45,.t 47,.c (.bool false)]])
 (.cond (.t 48)
 .skip
 (.exit 2)))
 (.seq (.block 3 (.seq (.ops [zM 51 0,
 zM 52 4,
 zR 53 (.aH 3) 51 52,
 zF 54 53 2,
 zL 55 54,
 zM 56 6,
 zR 57 (.aH 8) 55 56,
 zO 58 8 57,
 ⟨some 7,none,.a (.alloc [zz,zz,zz,zz,zz,zz,zz,zz]),[]⟩,
 zS 8 [.t 7,.t 58]])
 (.seq (.ops [zF 59 7 0,
 zL 60 59,
 zC 61 15 [.t 60,zI 48],
 zP 62 (.bin .add) [zI 1,.t 61],
 zQ 63 (.build [zz,zz,zz,zz,zz,zz,zz,zz] [(0,1)]) 62,
 ⟨some 8,none,.a (.alloc [zz,zz,zz,zz,zz,zz,zz,zz]),[]⟩,
 zS 8 [.t 8,.t 63]])
 (.seq (.ops [zF 64 7 1,
 zL 65 64,
 zF 66 8 0,
 zL 67 66,
 jk 68 15 65 67,
 zP 69 (.bin .add) [zI 1,.t 68],
 zF 70 8 1,
 zS 1 [.t 70,.t 69]])
 (.seq (.ops [zF 71 7 2,
 zL 72 71,
 zF 73 8 1,
 zL 74 73,
 jk 75 15 72 74,
 zP 76 (.bin .add) [zI 1,.t 75],
 zF 77 8 2,
 zS 1 [.t 77,.t 76]])
 (.ops [zF 78 5 2,
 zL 79 78,
 zO 80 8 8,
 ⟨some 81,none,.a (.cG [zz,zz,zz,zz,zz,zz,zz,zz] 1 8 [0]),[.t 80]⟩,
 zA 82 8 64 79 81,
 zF 83 5 2,
 zS 1 [.t 83,.t 82]]))))))
 (.ops [zM 49 6,
 zP 50 (.bin .add) [.t 49,zI 1],
 zM 6 50])))
def mD:AC:=(.seq (.seq (.ops [zM 9 4,
 zM 10 0,
 zQ 11 .cA 10,
 zR 12 (.bin .lss) 9 11,
 zM 13 12,
 ff 14 4 13 true,
 cQ 15 (.bin .lss) [.t 14,zI 4] 13 true,
 zP 16 .pick [.t 13,.t 15,.c (.bool false)]])
 (.cond (.t 16)
 .skip
 (.exit 0)))
 (.seq (.block 1 (.seq (.ops [zM 19 0,
 zM 20 4,
 zR 21 (.aH 3) 19 20,
 zF 22 21 0,
 zL 23 22,
 zC 24 15 [.t 23,zI 10],
 zP 25 (.bin .add) [zI 1,.t 24],
 zQ 26 (.build [zz,zz,.aq] [(0,1)]) 25,
 ⟨some 5,none,.a (.alloc [zz,zz,.aq]),[]⟩,
 zS 3 [.t 5,.t 26]])
 (.seq (.cm [zM 27 0,
 zM 28 4,
 zR 29 (.aH 3) 27 28,
 zF 30 29 1,
 zL 31 30,
 zF 32 5 0,
 zL 33 32,
 jk 34 15 31 33,
 zP 35 (.bin .add) [zI 1,.t 34],
 zF 36 5 1,
 zS 1 [.t 36,.t 35]] [[],[],[],[],[],[],[],[],[],[],[]])
 (.seq (.seq (.ops [zV 6 0])
 (.block 2 (.loop ee)))
 (.ops [zF 84 3 0,
 zL 85 84,
 zO 86 3 5,
 ⟨some 87,none,.a (.cG [zz,zz,.aq] 1 3 [0]),[.t 86]⟩,
 zA 88 3 40 85 87,
 zF 89 3 0,
 zS 1 [.t 89,.t 88]])))))
 (.ops [zM 17 4,
 zP 18 (.bin .add) [.t 17,zI 1],
 zM 4 18])))
def S0:az:=⟨91,[.cell 2 2 true],
 (.seq (.ops [⟨some 2,none,.a (.alloc [.aq,.aq]),[]⟩])
 (.seq (.ops [⟨some 3,none,.a (.alloc [.aq,.aq]),[]⟩])
 (.seq (.seq (.ops [zV 4 0])
 (.block 0 (.loop mD)))
 (.seq (.ops [zO 90 2 3,
 zS 2 [.t 2,.t 90]])
 .ret))))⟩
def S1:az:=⟨14,[.tmp 4],
 (.seq (.ops [zV 4 0])
 (.seq (.ops [zM 5 0,
 zM 6 1,
 zR 7 (.bin .rem) 5 6,
 zM 0 7])
 (.seq (.seq (.ops [zM 8 0,
 zP 9 (.bin .lss) [.t 8,zI 0]])
 (.cond (.t 9)
 (.ops [zM 10 0,
 zM 11 1,
 zR 12 (.bin .add) 10 11,
 zM 0 12])
 .skip))
 (.seq (.ops [zM 13 0,
 zM 4 13])
 .ret))))⟩
def xy:AC:=(.seq (.ops [zR 33 (.bin .lss) 32 31])
 (.seq (.cond (.t 33)
 .skip
 (.exit 0))
 (.seq (.block 1 (.seq (.ops [zM 34 32,
 zR 35 (.aH 3) 30 32,
 zO 36 3 35,
 ⟨some 11,none,.a (.alloc [zz,zz,.aq]),[]⟩,
 zM 10 34,
 zS 3 [.t 11,.t 36]])
 (.seq (.ops [zM 37 1,
 zM 38 10,
 zR 39 (.aH 1) 37 38,
 zL 40 39])
 (.cond (.t 40)
 (.ops [zM 41 8,
 zO 42 3 11,
 ⟨some 43,none,.a (.cG [zz,zz,.aq] 1 3 [0]),[.t 42]⟩,
 zA 44 3 40 41 43,
 zM 45 9,
 zM 46 10,
 ⟨some 47,none,.a (.cG [zz] 1 1 [0]),[.t 46]⟩,
 zA 48 1 8 45 47,
 zM 8 44,
 zM 9 48])
 .skip))))
 (.ops [zP 49 (.bin .add) [.t 32,zI 1],
 zM 32 49]))))
def qC:AC:=(.seq (.ops [zR 58 (.bin .lss) 57 56])
 (.seq (.cond (.t 58)
 .skip
 (.exit 2))
 (.seq (.block 3 (.seq (.ops [zM 59 57,
 zR 60 (.aH 1) 55 57,
 zL 61 60,
 zM 13 59,
 zM 14 61])
 (.seq (.ops [zM 63 8,
 zM 64 13,
 jk 65 55 63 64,
 zM 62 65,
 zQ 66 (.ext 0) 62,
 zQ 67 (.ext 1) 62,
 zM 15 66,
 zM 16 67])
 (.seq (.ops [zM 68 16,
 zP 69 (.bin .neq) [.t 68,zI 0]])
 (.cond (.t 69)
 (.seq (.ops [zM 70 14,
 zM 71 15,
 zM 72 16,
 zM 4 70,
 zM 5 71,
 zM 6 72])
 .ret)
 .skip)))))
 (.ops [zP 73 (.bin .add) [.t 57,zI 1],
 zM 57 73]))))
def Qc:az:=⟨74,[.tmp 4,.tmp 5,.tmp 6],
 (.seq (.ops [zB 2 0,
 zV 4 0,
 zV 5 0,
 zV 6 0])
 (.seq (.seq (.ops [zO 17 2 2,
 zM 18 1,
 jk 19 53 17 18,
 zM 7 19])
 (.seq (.ops [zM 20 7,
 zP 21 (.bin .neq) [.t 20,zI 0]])
 (.cond (.t 21)
 (.seq (.ops [zM 22 7,
 zV 4 0,
 zV 5 0,
 zM 6 22])
 .ret)
 .skip)))
 (.seq (.ops [zM 23 1,
 zQ 24 .cA 23,
 ⟨some 25,none,.a (.dj [zz,zz,.aq] 3 40),[zI 0,.t 24]⟩,
 zM 8 25])
 (.seq (.ops [zM 26 1,
 zQ 27 .cA 26,
 ⟨some 28,none,.a (.dj [zz] 1 8),[zI 0,.t 27]⟩,
 zM 9 28])
 (.seq (.seq (.ops [zF 29 2 0,
 zL 30 29,
 zQ 31 .cA 30,
 zV 32 0])
 (.block 0 (.loop xy)))
 (.seq (.seq (.ops [zM 50 8,
 uS 51 54 50,
 zM 12 51])
 (.seq (.ops [zM 52 12,
 zP 53 (.bin .neq) [.t 52,zI 0]])
 (.cond (.t 53)
 (.seq (.ops [zM 54 12,
 zV 4 (-1),
 zV 5 0,
 zM 6 54])
 .ret)
 .skip)))
 (.seq (.seq (.ops [zM 55 9,
 zQ 56 .cA 55,
 zV 57 0])
 (.block 2 (.loop qC)))
 (.seq (.ops [zV 4 (-1),
 zV 5 0,
 zV 6 0])
 .ret))))))))⟩
def mR:AC:=(.seq (.seq (.ops [zM 7 6,
 zF 8 2 0,
 zL 9 8,
 zQ 10 .cA 9,
 zR 11 (.bin .lss) 7 10])
 (.cond (.t 11)
 .skip
 (.exit 0)))
 (.seq (.block 1 (.ops [zM 14 5,
 zM 15 1,
 zM 16 6,
 zR 17 (.bin .shr) 15 16,
 zP 18 (.bin .and) [.t 17,zI 1],
 zP 19 (.bin .eql) [.t 18,zI 1],
 ⟨some 20,none,.a (.cG [(.bool false)] 1 1 [0]),[.t 19]⟩,
 zA 21 1 1 14 20,
 zM 5 21]))
 (.ops [zM 12 6,
 zP 13 (.bin .add) [.t 12,zI 1],
 zM 6 13])))
def S3:az:=⟨23,[.tmp 4],
 (.seq (.ops [zB 2 0,
 zK 4 .aq])
 (.seq (.ops [zK 5 .aq])
 (.seq (.seq (.ops [zV 6 0])
 (.block 0 (.loop mR)))
 (.seq (.ops [zM 22 5,
 zM 4 22])
 .ret))))⟩
def T0:az:=⟨87,[.tmp 0],
 (.seq (.ops [zK 0 (.bool false)])
 (.seq (.ops [TZ 9 21,
 ⟨some 1,none,.a (.alloc [.aq,.aq]),[]⟩,
 zS 2 [.t 1,.t 9]])
 (.seq (.ops [⟨some 10,none,.a (.cG [(.bool false)] 3 1 [0,1,2]),[.c (.bool true),.c (.bool true),.c (.bool false)]⟩,
 zM 2 10])
 (.seq (.ops [zO 12 2 1,
 zM 13 2,
 zC 14 23 [.t 12,.t 13,zI 1,zI 4,zI 2],
 zM 11 14,
 zQ 15 (.ext 0) 11,
 zQ 16 (.ext 1) 11,
 ⟨some 3,none,.a (.alloc [.aq,.aq]),[]⟩,
 zS 2 [.t 3,.t 15],
 zM 4 16])
 (.seq (.ops [zO 18 2 1,
 zM 19 2,
 zC 20 23 [.t 18,.t 19,zI 1,zI 4,zI 3],
 zM 17 20,
 zQ 21 (.ext 0) 17,
 zQ 22 (.ext 1) 17,
 ⟨some 5,none,.a (.alloc [.aq,.aq]),[]⟩,
 zS 2 [.t 5,.t 21],
 zM 6 22])
 (.seq (.ops [zO 24 2 1,
 zM 25 2,
 zC 26 23 [.t 24,.t 25,zI 1,zI 4,zI 5],
 zM 23 26,
 zQ 27 (.ext 0) 23,
 zQ 28 (.ext 1) 23,
 ⟨some 7,none,.a (.alloc [.aq,.aq]),[]⟩,
 zS 2 [.t 7,.t 27],
 zM 8 28])
 (.seq (.seq (.ops [zM 29 4,
 zP 30 (.bin .neq) [.t 29,zI 0],
 zM 31 30,
 iF 32 3 0 31 false,
 gz 33 32 31 false,
 cQ 34 .cA [.t 33] 31 false,
 cQ 35 (.bin .neq) [.t 34,zI 3] 31 false,
 zP 36 .pick [.t 31,.c (.bool true),.t 35],
 zM 37 36,
 iF 38 3 0 37 false,
 gz 39 38 37 false,
 cQ 40 (.aH 3) [.t 39,zI 1] 37 false,
 iF 41 40 0 37 false,
 gz 42 41 37 false,
 cQ 43 (.bin .neq) [.t 42,zI 4] 37 false,
 zP 44 .pick [.t 37,.c (.bool true),.t 43],
 zM 45 44,
 iF 46 3 0 45 false,
 gz 47 46 45 false,
 cQ 48 (.aH 3) [.t 47,zI 1] 45 false,
 iF 49 48 1 45 false,
 gz 50 49 45 false,
 cQ 51 (.bin .neq) [.t 50,zI 2] 45 false,
 zP 52 .pick [.t 45,.c (.bool true),.t 51]])
 (.cond (.t 52)
 (.seq (.ops [zK 0 (.bool false)])
 .ret)
 .skip))
 (.seq (.ops [zO 53 2 1,
 zM 54 2,
 zC 55 24 [.t 53,.t 54,zI (-1),zI 0,zI 0],
 zM 56 55,
 ⟨some 57,some (56,true),.r (.bI 2),[.t 1]⟩,
 ⟨some 58,some (56,true),.a (.cG [(.bool false)] 3 1 [0,1,2]),[.c (.bool true),.c (.bool true),.c (.bool true)]⟩,
 uI 59 24 [.t 57,.t 58,zI (-1),zI 0,zI 120] 56 true,
 zP 60 .pick [.t 56,.t 59,.c (.bool false)],
 zM 61 60,
 ⟨some 62,some (61,true),.r (.bI 2),[.t 1]⟩,
 ⟨some 63,some (61,true),.a (.cG [(.bool false)] 3 1 [0,1,2]),[.c (.bool true),.c (.bool false),.c (.bool false)]⟩,
 uI 64 22 [.t 62,.t 63,zI 2] 61 true,
 cQ 65 (.bin .eql) [.t 64,zI 0] 61 true,
 zP 66 .pick [.t 61,.t 65,.c (.bool false)],
 zM 67 66,
 ⟨some 68,some (67,true),.r (.bI 2),[.t 1]⟩,
 ff 69 2 67 true,
 uI 70 22 [.t 68,.t 69,zI 2] 67 true,
 cQ 71 (.bin .eql) [.t 70,zI 120] 67 true,
 zP 72 .pick [.t 67,.t 71,.c (.bool false)],
 zM 73 72,
 ⟨some 74,some (73,true),.r (.bI 2),[.t 1]⟩,
 ff 75 2 73 true,
 uI 76 22 [.t 74,.t 75,zI 3] 73 true,
 cQ 77 (.bin .eql) [.t 76,zI 9] 73 true,
 zP 78 .pick [.t 73,.t 77,.c (.bool false)],
 zM 79 78,
 ff 80 6 79 true,
 cQ 81 (.bin .eql) [.t 80,zI 120] 79 true,
 zP 82 .pick [.t 79,.t 81,.c (.bool false)],
 zM 83 82,
 ff 84 8 83 true,
 cQ 85 (.bin .eql) [.t 84,zI 50] 83 true,
 zP 86 .pick [.t 83,.t 85,.c (.bool false)],
 zM 0 86])
 .ret))))))))⟩
def cV:AC:=(.seq (.seq (.ops [zM 66 7,
 zF 67 6 2,
 zL 68 67,
 zQ 69 .cA 68,
 zR 70 (.bin .lss) 66 69])
 (.cond (.t 70)
 .skip
 (.exit 2)))
 (.seq (.block 3 (.seq (.ops [zM 73 5,
 zP 74 (.bin .mul) [zI 4,.t 73],
 zM 75 7,
 zR 76 (.bin .add) 74 75,
 zM 8 76])
 (.seq (.seq (.ops [zM 77 0,
 zN 78 77,
 zF 79 78 5,
 zL 80 79,
 zM 81 8,
 zR 82 (.aH 2) 80 81,
 zP 83 (.ig 1 2) [.t 82,zI 1],
 zL 84 83,
 zP 85 (.bin .gtr) [.t 84,zI 0],
 zM 86 85,
 ff 87 0 86 true,
 QG 88 87 86 true,
 iF 89 88 5 86 true,
 gz 90 89 86 true,
 ff 91 8 86 true,
 cQ 92 (.aH 2) [.t 90,.t 91] 86 true,
 cQ 93 (.ig 1 2) [.t 92,zI 0] 86 true,
 gz 94 93 86 true,
 ff 95 1 86 true,
 cQ 96 (.bin .leq) [.t 94,.t 95] 86 true,
 zP 97 .pick [.t 86,.t 96,.c (.bool false)]])
 (.cond (.t 97)
 (.seq (.ops [zK 4 (.bool false)])
 .ret)
 .skip))
 (.seq (.ops [zM 98 1,
 zM 99 0,
 zN 100 99,
 zF 101 100 6,
 zL 102 101,
 zM 103 8,
 zR 104 (.aH 1) 102 103,
 zL 105 104,
 zR 106 (.bin .geq) 98 105])
 (.cond (.t 106)
 (.seq (.cm [zM 107 0,
 zN 108 107,
 zF 109 108 5,
 zL 110 109,
 zM 111 8,
 zM 112 1,
 zF 113 6 2,
 zL 114 113,
 zM 115 7,
 zR 116 (.aH 8) 114 115,
 zF 117 116 1,
 zL 118 117,
 zR 119 (.bin .add) 112 118,
 zF 120 6 2,
 zL 121 120,
 zM 122 7,
 zR 123 (.aH 8) 121 122,
 zF 124 123 2,
 zL 125 124,
 zR 126 (.build [zz,zz] [(0,1),(1,1)]) 119 125,
 zR 127 (.aH 2) 110 111,
 zS 2 [.t 127,.t 126]] [[],[],[],[],[],[],[],[],[],[],[],[],[],[],[],[],[],[],[],[],[],[]])
 (.seq (.cm [zM 128 0,
 zN 129 128,
 zF 130 129 6,
 zL 131 130,
 zM 132 8,
 zM 133 1,
 zF 134 6 2,
 zL 135 134,
 zM 136 7,
 zR 137 (.aH 8) 135 136,
 zF 138 137 0,
 zL 139 138,
 zR 140 (.bin .add) 133 139,
 zR 141 (.aH 1) 131 132,
 zS 1 [.t 141,.t 140]] [[],[],[],[],[],[],[],[],[],[],[],[],[],[],[]])
 (.seq (.seq (.ops [zM 142 0,
 zN 143 142,
 zF 144 143 8,
 zL 145 144,
 zQ 146 .cA 145,
 zP 147 (.bin .gtr) [.t 146,zI 0]])
 (.cond (.t 147)
 (.cm [zM 148 0,
 zN 149 148,
 zF 150 149 6,
 zL 151 150,
 zM 152 8,
 zM 153 0,
 zN 154 153,
 zF 155 154 6,
 zL 156 155,
 zM 157 8,
 zR 158 (.aH 1) 156 157,
 zL 159 158,
 zM 160 0,
 zN 161 160,
 zF 162 161 8,
 zL 163 162,
 zM 164 0,
 zN 165 164,
 zF 166 165 7,
 zL 167 166,
 zM 168 0,
 zN 169 168,
 zF 170 169 8,
 zL 171 170,
 zQ 172 .cA 171,
 zR 173 (.bin .rem) 167 172,
 zR 174 (.aH 1) 163 173,
 zL 175 174,
 zC 176 15 [.t 175,zI 20],
 zR 177 (.bin .add) 159 176,
 zR 178 (.aH 1) 151 152,
 zS 1 [.t 178,.t 177]] [[],[],[],[0,29],[],[],[],[],[0,29],[],[],[0,29],[],[],[],[],[],[],[],[],[],[],[],[],[],[],[],[],[],[],[],[]])
 .skip))
 (.ops [zM 179 0,
 zM 180 0,
 zN 181 180,
 zF 182 181 7,
 zL 183 182,
 zP 184 (.bin .add) [.t 183,zI 1],
 zN 185 179,
 zF 186 185 7,
 zS 1 [.t 186,.t 184]]))))
 .skip)))))
 (.ops [zM 71 7,
 zP 72 (.bin .add) [.t 71,zI 1],
 zM 7 72])))
def jo:AC:=(.seq (.seq (.ops [zM 9 5,
 zM 10 0,
 zN 11 10,
 zF 12 11 0,
 zF 13 12 0,
 zL 14 13,
 zQ 15 .cA 14,
 zR 16 (.bin .lss) 9 15])
 (.cond (.t 16)
 .skip
 (.exit 0)))
 (.seq (.block 1 (.seq (.ops [zM 19 0,
 zN 20 19,
 zF 21 20 0,
 zF 22 21 0,
 zL 23 22,
 zM 24 5,
 zR 25 (.aH 3) 23 24,
 zO 26 3 25,
 ⟨some 6,none,.a (.alloc [zz,zz,.aq]),[]⟩,
 zS 3 [.t 6,.t 26]])
 (.seq (.seq (.ops [zM 27 0,
 zN 28 27,
 zF 29 28 2,
 zL 30 29,
 zM 31 5,
 zR 32 (.aH 1) 30 31,
 zL 33 32,
 zQ 34 .not 33])
 (.cond (.t 34)
 (.exit 1)
 .skip))
 (.seq (.seq (.ops [zM 35 1,
 zF 36 6 0,
 zL 37 36,
 zR 38 (.bin .rem) 35 37,
 zP 39 (.bin .eql) [.t 38,zI 0]])
 (.cond (.t 39)
 (.seq (.seq (.ops [zM 40 0,
 zN 41 40,
 zF 42 41 3,
 zL 43 42,
 zM 44 5,
 zR 45 (.aH 1) 43 44,
 zL 46 45,
 zP 47 (.bin .gtr) [.t 46,zI 0]])
 (.cond (.t 47)
 (.seq (.ops [zK 4 (.bool false)])
 .ret)
 .skip))
 (.seq (.cm [zM 48 0,
 zN 49 48,
 zF 50 49 3,
 zL 51 50,
 zM 52 5,
 zF 53 6 1,
 zL 54 53,
 zR 55 (.aH 1) 51 52,
 zS 1 [.t 55,.t 54]] [[],[],[],[],[],[],[],[],[]])
 (.cm [zM 56 0,
 zN 57 56,
 zF 58 57 4,
 zL 59 58,
 zM 60 5,
 zM 61 1,
 zF 62 6 0,
 zL 63 62,
 zR 64 (.bin .add) 61 63,
 zR 65 (.aH 1) 59 60,
 zS 1 [.t 65,.t 64]] [[],[],[],[],[],[],[],[],[],[],[]])))
 .skip))
 (.seq (.ops [zV 7 0])
 (.block 2 (.loop cV)))))))
 (.ops [zM 17 5,
 zP 18 (.bin .add) [.t 17,zI 1],
 zM 5 18])))
def S4:az:=⟨187,[.tmp 4],
 (.seq (.ops [zK 4 (.bool false)])
 (.seq (.seq (.ops [zV 5 0])
 (.block 0 (.loop jo)))
 (.seq (.ops [zK 4 (.bool true)])
 .ret)))⟩
def j0:AC:=(.seq (.seq (.ops [zM 6 3,
 zM 7 0,
 zN 8 7,
 zF 9 8 3,
 zL 10 9,
 zQ 11 .cA 10,
 zR 12 (.bin .lss) 6 11])
 (.cond (.t 12)
 .skip
 (.exit 0)))
 (.seq (.block 1 (.seq (.cm [zM 15 0,
 zN 16 15,
 zF 17 16 3,
 zL 18 17,
 zM 19 3,
 zR 20 (.aH 1) 18 19,
 zL 21 20,
 zP 22 (.bin .gtr) [.t 21,zI 0],
 zM 23 22,
 ff 24 2 23 true,
 cQ 25 (.bin .lss) [.t 24,zI 0] 23 true,
 ff 26 25 23 true,
 ff 27 0 26 false,
 QG 28 27 26 false,
 iF 29 28 4 26 false,
 gz 30 29 26 false,
 ff 31 3 26 false,
 cQ 32 (.aH 1) [.t 30,.t 31] 26 false,
 gz 33 32 26 false,
 ff 34 0 26 false,
 QG 35 34 26 false,
 iF 36 35 4 26 false,
 gz 37 36 26 false,
 ff 38 2 26 false,
 cQ 39 (.aH 1) [.t 37,.t 38] 26 false,
 gz 40 39 26 false,
 cQ 41 (.bin .lss) [.t 33,.t 40] 26 false,
 cQ 42 .pick [.t 26,.c (.bool true),.t 41] 23 true,
 zP 43 .pick [.t 23,.t 42,.c (.bool false)]] [[],[],[],[],[],[],[],[],[],[],[],[],[],[],[],[],[],[],[],[],[],[],[],[],[],[],[],[],[]])
 (.cond (.t 43)
 (.ops [zM 44 3,
 zM 2 44])
 .skip)))
 (.ops [zM 13 3,
 zP 14 (.bin .add) [.t 13,zI 1],
 zM 3 14])))
def j4:AC:=(.seq (.seq (.ops [zM 63 5,
 zM 64 2,
 zP 65 (.bin .mul) [zI 4,.t 64],
 zP 66 (.bin .add) [.t 65,zI 4],
 zR 67 (.bin .lss) 63 66])
 (.cond (.t 67)
 .skip
 (.exit 2)))
 (.seq (.block 3 (.seq (.cm [zM 70 0,
 zN 71 70,
 zF 72 71 5,
 zL 73 72,
 zM 74 5,
 zR 75 (.aH 2) 73 74,
 zP 76 (.ig 1 2) [.t 75,zI 1],
 zL 77 76,
 zP 78 (.bin .gtr) [.t 77,zI 0],
 zM 79 78,
 ff 80 4 79 true,
 cQ 81 (.bin .lss) [.t 80,zI 0] 79 true,
 ff 82 81 79 true,
 ff 83 0 82 false,
 QG 84 83 82 false,
 iF 85 84 5 82 false,
 gz 86 85 82 false,
 ff 87 5 82 false,
 cQ 88 (.aH 2) [.t 86,.t 87] 82 false,
 cQ 89 (.ig 1 2) [.t 88,zI 0] 82 false,
 gz 90 89 82 false,
 ff 91 0 82 false,
 QG 92 91 82 false,
 iF 93 92 5 82 false,
 gz 94 93 82 false,
 ff 95 4 82 false,
 cQ 96 (.aH 2) [.t 94,.t 95] 82 false,
 cQ 97 (.ig 1 2) [.t 96,zI 0] 82 false,
 gz 98 97 82 false,
 cQ 99 (.bin .lss) [.t 90,.t 98] 82 false,
 cQ 100 .pick [.t 82,.c (.bool true),.t 99] 79 true,
 zP 101 .pick [.t 79,.t 100,.c (.bool false)]] [[],[],[],[],[],[],[],[],[],[],[],[],[],[],[],[],[],[],[],[],[],[],[],[],[],[],[],[],[],[],[],[]])
 (.cond (.t 101)
 (.ops [zM 102 5,
 zM 4 102])
 .skip)))
 (.ops [zM 68 5,
 zP 69 (.bin .add) [.t 68,zI 1],
 zM 5 69])))
def S5:az:=⟨121,[],
 (.seq (.ops [zV 2 (-1)])
 (.seq (.seq (.ops [zV 3 0])
 (.block 0 (.loop j0)))
 (.seq (.seq (.ops [zM 45 2,
 zP 46 (.bin .lss) [.t 45,zI 0]])
 (.cond (.t 46)
 .ret
 .skip))
 (.seq (.cm [zM 47 0,
 zN 48 47,
 zF 49 48 3,
 zL 50 49,
 zM 51 2,
 zM 52 0,
 zN 53 52,
 zF 54 53 3,
 zL 55 54,
 zM 56 2,
 zR 57 (.aH 1) 55 56,
 zL 58 57,
 zP 59 (.bin .sub) [.t 58,zI 1],
 zR 60 (.aH 1) 50 51,
 zS 1 [.t 60,.t 59]] [[],[],[],[],[],[],[],[],[],[],[],[],[],[],[]])
 (.seq (.ops [zV 4 (-1)])
 (.seq (.seq (.ops [zM 61 2,
 zP 62 (.bin .mul) [zI 4,.t 61],
 zM 5 62])
 (.block 2 (.loop j4)))
 (.seq (.ops [zM 103 4,
 zP 104 (.bin .geq) [.t 103,zI 0]])
 (.cond (.t 104)
 (.cm [zM 105 0,
 zN 106 105,
 zF 107 106 5,
 zL 108 107,
 zM 109 4,
 zM 110 0,
 zN 111 110,
 zF 112 111 5,
 zL 113 112,
 zM 114 4,
 zR 115 (.aH 2) 113 114,
 zP 116 (.ig 1 2) [.t 115,zI 1],
 zL 117 116,
 zP 118 (.bin .sub) [.t 117,zI 1],
 zR 119 (.aH 2) 108 109,
 zP 120 (.ig 1 2) [.t 119,zI 1],
 zS 1 [.t 120,.t 118]] [[],[],[],[],[],[],[],[],[],[],[],[],[],[],[],[],[]])
 .skip))))))))⟩
def T3:az:=⟨6,[.cell 0 2 true],
 (.seq (.ops [⟨some 0,none,.a (.alloc [.aq,.aq]),[]⟩])
 (.seq (.ops [zP 1 (.build [zz,zz,.aq] [(0,1),(1,1)]) [zI 2,zI 1],
 zP 2 (.build [zz,zz,.aq] [(0,1),(1,1)]) [zI 2,zI 1],
 zP 3 (.build [zz,zz,.aq] [(0,1),(1,1)]) [zI 4,zI 1],
 ⟨some 4,none,.a (.cG [zz,zz,.aq] 3 3 [0,1,2]),[.t 1,.t 2,.t 3]⟩,
 zQ 5 (.build [.aq,.aq] [(0,1)]) 4,
 zS 2 [.t 0,.t 5]])
 .ret))⟩
def S6:az:=⟨39,[.tmp 6],
 (.seq (.ops [zB 3 0,
 zV 6 0])
 (.seq (.seq (.ops [zO 9 2 3,
 zM 10 1,
 jk 11 53 9 10,
 zM 7 11])
 (.seq (.ops [zM 12 7,
 zP 13 (.bin .neq) [.t 12,zI 0]])
 (.cond (.t 13)
 (.seq (.ops [zM 14 7,
 zM 6 14])
 .ret)
 .skip)))
 (.seq (.seq (.ops [zM 15 2,
 zP 16 (.bin .lss) [.t 15,zI 0],
 zM 17 16,
 ff 18 2 17 false,
 ff 19 1 17 false,
 cQ 20 .cA [.t 19] 17 false,
 cQ 21 (.bin .geq) [.t 18,.t 20] 17 false,
 zP 22 .pick [.t 17,.c (.bool true),.t 21]])
 (.cond (.t 22)
 (.seq (.ops [zV 6 9])
 .ret)
 .skip))
 (.seq (.ops [⟨some 8,none,.a (.alloc [(.bool false),(.bool false),(.bool false),(.bool false)]),[]⟩])
 (.seq (.ops [zQ 23 (.gW 1 4 false false false) 8,
 zM 24 1,
 ⟨some 25,none,.e (.copy 1),[.t 23,.t 24]⟩])
 (.seq (.ops [zM 26 2,
 zR 27 (.ig 1 4) 8 26,
 zS 1 [.t 27,.c (.bool true)]])
 (.seq (.cm [zO 29 2 3,
 zM 30 1,
 zQ 31 .cA 30,
 zR 32 (.gW 1 4 false true false) 8 31,
 jk 33 16 29 32,
 zM 28 33,
 zQ 34 (.ext 0) 28,
 zQ 35 (.ext 1) 28,
 zQ 36 (.ext 2) 28,
 zM 6 36] [[],[],[],[],[],[],[],[],[],[]])
 (.seq (.ops [zQ 37 (.gW 1 4 false false false) 8,
 ⟨none,none,.e (.clear [(.bool false)]),[.t 37]⟩])
 (.seq (.ops [zM 38 6,
 zM 6 38])
 .ret)))))))))⟩
def T4:az:=⟨58,[.cell 10 2 true,.tmp 11],
 (.seq (.ops [zB 5 0,
 ⟨some 10,none,.a (.alloc [.aq,.aq]),[]⟩,
 zV 11 0])
 (.seq (.seq (.ops [zO 15 2 5,
 zM 16 1,
 jk 17 53 15 16,
 zM 12 17])
 (.seq (.ops [zM 18 12,
 zP 19 (.bin .neq) [.t 18,zI 0]])
 (.cond (.t 19)
 (.seq (.ops [zP 20 (.build [.aq,.aq] []) [],
 zM 21 12,
 zS 2 [.t 10,.t 20],
 zM 11 21])
 .ret)
 .skip)))
 (.seq (.seq (.ops [zM 22 2,
 zP 23 (.bin .lss) [.t 22,zI 0],
 zM 24 23,
 ff 25 2 24 false,
 ff 26 1 24 false,
 cQ 27 .cA [.t 26] 24 false,
 cQ 28 (.bin .geq) [.t 25,.t 27] 24 false,
 zP 29 .pick [.t 24,.c (.bool true),.t 28]])
 (.cond (.t 29)
 (.seq (.ops [zP 30 (.build [.aq,.aq] []) [],
 zS 2 [.t 10,.t 30],
 zV 11 9])
 .ret)
 .skip))
 (.seq (.ops [zO 31 2 5,
 zM 32 2,
 zM 33 3,
 zM 34 4,
 zC4 35 56 31 32 33 34,
 ⟨some 13,none,.a (.alloc [.aq,.aq]),[]⟩,
 zS 2 [.t 13,.t 35]])
 (.seq (.ops [zO 36 2 13,
 uS 37 57 36,
 zM 14 37])
 (.seq (.seq (.ops [zM 38 14,
 zP 39 (.bin .eql) [.t 38,zI 0],
 zM 40 39,
 ff 41 1 40 true,
 ff 42 2 40 true,
 cQ 43 (.aH 1) [.t 41,.t 42] 40 true,
 gz 44 43 40 true,
 zP 45 .pick [.t 40,.t 44,.c (.bool false)]])
 (.cond (.t 45)
 (.ops [zO 47 2 13,
 zM 48 1,
 jk 49 16 47 48,
 zM 46 49,
 zQ 50 (.ext 0) 46,
 zQ 51 (.ext 1) 46,
 zQ 52 (.ext 2) 46,
 zM 14 52])
 .skip))
 (.seq (.seq (.ops [zM 53 14,
 zP 54 (.bin .neq) [.t 53,zI 0]])
 (.cond (.t 54)
 (.seq (.ops [zP 55 (.build [.aq,.aq] []) [],
 zM 56 14,
 zS 2 [.t 10,.t 55],
 zM 11 56])
 .ret)
 .skip))
 (.seq (.ops [zO 57 2 13,
 zS 2 [.t 10,.t 57],
 zV 11 0])
 .ret))))))))⟩
def T5:az:=⟨34,[.tmp 10],
 (.seq (.ops [zB 5 0,
 zK 10 (.bool false)])
 (.seq (.ops [zO 15 2 5,
 zM 16 1,
 jk 17 16 15 16,
 zM 14 17,
 zQ 18 (.ext 0) 14,
 zQ 19 (.ext 1) 14,
 zQ 20 (.ext 2) 14,
 zM 11 18,
 zM 12 19,
 zM 13 20])
 (.seq (.ops [zM 21 11,
 zM 22 2,
 zR 23 (.bin .eql) 21 22,
 zM 24 23,
 ff 25 12 24 true,
 ff 26 3 24 true,
 cQ 27 (.bin .eql) [.t 25,.t 26] 24 true,
 zP 28 .pick [.t 24,.t 27,.c (.bool false)],
 zM 29 28,
 ff 30 4 29 true,
 ff 31 13 29 true,
 cQ 32 (.bin .eql) [.t 30,.t 31] 29 true,
 zP 33 .pick [.t 29,.t 32,.c (.bool false)],
 zM 10 33])
 .ret)))⟩
def S7:az:=⟨17,[.tmp 4],
 (.seq (.ops [zB 2 0,
 zV 4 0])
 (.seq (.seq (.ops [zO 6 2 2,
 uS 7 57 6,
 zM 5 7])
 (.seq (.ops [zM 8 5,
 zP 9 (.bin .neq) [.t 8,zI 0]])
 (.cond (.t 9)
 (.seq (.ops [zM 10 5,
 zM 4 10])
 .ret)
 .skip)))
 (.seq (.seq (.ops [zM 11 1,
 zQ 12 .cA 11,
 zF 13 2 0,
 zL 14 13,
 zQ 15 .cA 14,
 zR 16 (.bin .neq) 12 15])
 (.cond (.t 16)
 (.seq (.ops [zV 4 2])
 .ret)
 .skip))
 (.seq (.ops [zV 4 0])
 .ret))))⟩
def S8:az:=⟨16,[.tmp 2],
 (.seq (.ops [zV 2 0])
 (.seq (.ops [zM 6 0,
 uS 7 81 6,
 zM 5 7,
 zQ 8 (.ext 0) 5,
 zQ 9 (.ext 1) 5,
 ⟨some 3,none,.a (.alloc [zz,zz]),[]⟩,
 zS 2 [.t 3,.t 8],
 zM 4 9])
 (.seq (.block 0 (.seq (.ops [zM 11 4,
 zQ 12 .not 11,
 zM 10 12])
 (.cond (.t 10)
 (.seq (.ops [zV 2 2])
 .ret)
 (.seq (.ops [zO 14 2 3,
 uS 15 82 14,
 zM 13 15])
 (.cond (.t 13)
 (.seq (.ops [zV 2 120])
 .ret)
 .skip)))))
 (.seq (.ops [zV 2 0])
 .ret))))⟩
def vj:AC:=(.seq (.ops [zR 70 (.bin .lss) 69 68])
 (.seq (.cond (.t 70)
 .skip
 (.exit 0))
 (.seq (.block 1 (.seq (.ops [zR 71 (.aH 8) 67 69,
 zO 72 8 71,
 ⟨some 12,none,.a (.alloc [zz,zz,zz,zz,zz,zz,zz,zz]),[]⟩,
 zS 8 [.t 12,.t 72]])
 (.ops [zM 73 10,
 zF 74 12 1,
 zL 75 74,
 zR 76 .mx 73 75,
 zM 10 76])))
 (.ops [zP 77 (.bin .add) [.t 69,zI 1],
 zM 69 77]))))
def oa:AC:=(.seq (.ops [zM 13 90])
 (.ops [zM 14 91]))
def ob:AC:=(.block 3 (.seq (.ops [zM 92 14,
 zP 93 (.bin .lss) [.t 92,zI 0]])
 (.cond (.t 93)
 (.seq (.ops [zM 94 13,
 zS 1 [.t 4,.t 94],
 zS 1 [.t 5,zI 120]])
 .ret)
 .skip)))
def S9:az:=⟨95,[.cell 4 1 false,.cell 5 1 false],
 (.seq (.ops [⟨some 4,none,.a (.alloc [zz]),[]⟩,
 ⟨some 5,none,.a (.alloc [zz]),[]⟩])
 (.seq (.ops [zM 16 0,
 zM 17 1,
 jk 18 83 16 17,
 zM 15 18,
 zQ 19 (.ext 0) 15,
 zQ 20 (.ext 1) 15,
 ⟨some 6,none,.a (.alloc [zz,zz,.aq,.aq,zz,.aq]),[]⟩,
 zS 6 [.t 6,.t 19],
 zS 1 [.t 5,.t 20]])
 (.seq (.seq (.ops [zL 21 5,
 zP 22 (.bin .neq) [.t 21,zI 0],
 zM 23 22,
 iF 24 6 0 23 false,
 iF 25 24 2 23 false,
 gz 26 25 23 false,
 cQ 27 .cA [.t 26] 23 false,
 cQ 28 (.bin .eql) [.t 27,zI 0] 23 false,
 zP 29 .pick [.t 23,.c (.bool true),.t 28]])
 (.cond (.t 29)
 (.seq (.cm [zL 30 5,
 zS 1 [.t 4,zI 0],
 zS 1 [.t 5,.t 30]] [[0,2],[],[]])
 .ret)
 .skip))
 (.seq (.ops [zF 32 6 0,
 zF 33 32 2,
 zL 34 33,
 zF 35 6 0,
 zF 36 35 0,
 zL 37 36,
 jk 38 84 34 37,
 zM 31 38,
 zQ 39 (.ext 0) 31,
 zQ 40 (.ext 1) 31,
 zM 7 39,
 zS 1 [.t 5,.t 40]])
 (.seq (.seq (.ops [zL 41 5,
 zP 42 (.bin .neq) [.t 41,zI 0]])
 (.cond (.t 42)
 (.seq (.cm [zL 43 5,
 zS 1 [.t 4,zI 0],
 zS 1 [.t 5,.t 43]] [[0,2],[],[]])
 .ret)
 .skip))
 (.seq (.seq (.ops [zF 45 6 0,
 zF 46 45 2,
 zL 47 46,
 zF 48 6 5,
 zL 49 48,
 zM 50 7,
 QF 51 85 47 49 50,
 zM 44 51,
 zQ 52 (.ext 0) 44,
 zQ 53 (.ext 1) 44,
 zM 8 52,
 zM 9 53])
 (.seq (.cm [zM 54 8,
 zM 55 7,
 zF 56 6 0,
 zF 57 56 0,
 zL 58 57,
 zR 59 (.bin .quo) 55 58,
 zF 60 6 0,
 zF 61 60 1,
 zL 62 61,
 zR 63 (.bin .mul) 59 62,
 zR 64 (.bin .gtr) 54 63] [[],[],[],[],[],[],[],[],[],[],[]])
 (.cond (.t 64)
 (.seq (.ops [zS 1 [.t 4,zI 0],
 zS 1 [.t 5,zI 120]])
 .ret)
 .skip)))
 (.seq (.ops [zV 10 0])
 (.seq (.seq (.ops [zF 65 6 0,
 zF 66 65 2,
 zL 67 66,
 zQ 68 .cA 67,
 zV 69 0])
 (.block 0 (.loop vj)))
 (.seq (.seq (.cm [zO 78 6 6,
 zM 79 7,
 zM 80 10,
 zF 81 6 0,
 zF 82 81 0,
 zL 83 82,
 zF 84 6 0,
 zF 85 84 0,
 zL 86 85,
 ⟨some 87,none,.a (.cG [zz] 4 1 [0,1,2,3]),[.t 79,.t 80,.t 83,.t 86]⟩,
 uS 88 87 87,
 jk 89 86 78 88] [[0,11],[],[],[],[],[],[],[],[],[],[],[]])
 (.block 2 (.rangeFunc (.t 89) [90,91] oa ob)))
 (.seq (.ops [zS 1 [.t 4,zI 0],
 zS 1 [.t 5,zI 0]])
 .ret))))))))))⟩
def vi:AC:=(.seq (.ops [zR 23 (.bin .lss) 22 21])
 (.seq (.cond (.t 23)
 .skip
 (.exit 0))
 (.seq (.block 1 (.seq (.ops [zM 24 22,
 zM 10 24])
 (.seq (.ops [zF 25 9 0,
 zL 26 25,
 zM 27 10,
 zR 28 (.aH 3) 26 27,
 zM 11 28])
 (.seq (.ops [zM 29 11,
 zM 30 11,
 zN 31 30,
 zF 32 31 2,
 zL 33 32,
 uS 34 90 33,
 zN 35 29,
 zF 36 35 2,
 zS 1 [.t 36,.t 34]])
 (.seq (.ops [zM 37 10,
 zM 38 1,
 zR 39 (.bin .eql) 37 38])
 (.cond (.t 39)
 (.ops [zM 40 11,
 zM 41 11,
 zM 42 2,
 zM 43 3,
 zN 44 40,
 zF 45 44 0,
 zS 1 [.t 45,.t 42],
 zN 46 41,
 zF 47 46 1,
 zS 1 [.t 47,.t 43]])
 .skip))))))
 (.ops [zP 48 (.bin .add) [.t 22,zI 1],
 zM 22 48]))))
def T6:az:=⟨50,[.cell 8 2 true],
 (.seq (.ops [zB 4 0,
 ⟨some 8,none,.a (.alloc [.aq,.aq]),[]⟩])
 (.seq (.cm [zF 12 4 0,
 zL 13 12,
 uS 14 88 13,
 zF 15 4 1,
 zL 16 15,
 uS 17 89 16,
 zR 18 (.build [.aq,.aq] [(0,1),(1,1)]) 14 17,
 ⟨some 9,none,.a (.alloc [.aq,.aq]),[]⟩,
 zS 2 [.t 9,.t 18]] [[],[],[],[],[0,3],[],[],[],[]])
 (.seq (.seq (.ops [zF 19 9 0,
 zL 20 19,
 zQ 21 .cA 20,
 zV 22 0])
 (.block 0 (.loop vi)))
 (.seq (.ops [zO 49 2 9,
 zS 2 [.t 8,.t 49]])
 .ret))))⟩
def Ta:az:=⟨27,[.tmp 2],
 (.seq (.ops [zB 1 0,
 zV 2 0])
 (.seq (.ops [zF 4 1 0,
 zL 5 4,
 zC 6 91 [.t 5,.c (.func (.func 92) [] [])],
 zM 7 6,
 iF 8 1 1 7 false,
 gz 9 8 7 false,
 cQ 10 (.gL (.func 95) 0) [.t 1] 7 false,
 uI 11 94 [.t 9,.t 10] 7 false,
 zP 12 .pick [.t 7,.c (.bool true),.t 11],
 zM 3 12])
 (.seq (.seq (.ops [zM 13 3,
 zM 14 13,
 iF 15 1 0 14 false,
 gz 16 15 14 false,
 cQ 17 .cA [.t 16] 14 false,
 uI 18 97 [.t 17,zI 1,zI 4] 14 false,
 cQ 19 .not [.t 18] 14 false,
 zP 20 .pick [.t 14,.c (.bool true),.t 19],
 zM 21 20,
 iF 22 1 1 21 false,
 gz 23 22 21 false,
 cQ 24 .cA [.t 23] 21 false,
 cQ 25 (.bin .gtr) [.t 24,zI 8] 21 false,
 zP 26 .pick [.t 21,.c (.bool true),.t 25]])
 (.cond (.t 26)
 (.seq (.ops [zV 2 50])
 .ret)
 .skip))
 (.seq (.ops [zV 2 0])
 .ret))))⟩
def qD:AC:=(.seq (.ops [zR 15 (.bin .lss) 14 13])
 (.seq (.cond (.t 15)
 .skip
 (.exit 0))
 (.seq (.block 1 (.seq (.ops [zR 16 (.aH 3) 12 14,
 zO 17 3 16,
 ⟨some 6,none,.a (.alloc [zz,zz,.aq]),[]⟩,
 zS 3 [.t 6,.t 17]])
 (.seq (.seq (.ops [zF 18 6 0,
 zL 19 18,
 zP 20 (.bin .gtr) [.t 19,zI 64],
 zM 21 20,
 iF 22 6 1 21 false,
 gz 23 22 21 false,
 cQ 24 (.bin .lss) [.t 23,zI 1] 21 false,
 zP 25 .pick [.t 21,.c (.bool true),.t 24],
 zM 26 25,
 iF 27 6 1 26 false,
 gz 28 27 26 false,
 iF 29 6 0 26 false,
 gz 30 29 26 false,
 cQ 31 (.bin .gtr) [.t 28,.t 30] 26 false,
 zP 32 .pick [.t 26,.c (.bool true),.t 31]])
 (.cond (.t 32)
 (.seq (.ops [zO 33 2 4,
 zS 2 [.t 2,.t 33],
 zK 3 (.bool false)])
 .ret)
 .skip))
 (.ops [zO 34 2 4,
 zF 35 6 1,
 zL 36 35,
 zF 37 6 0,
 zL 38 37,
 zR 39 (.build [zz,zz] [(0,1),(1,1)]) 36 38,
 jk 40 106 34 39,
 zS 2 [.t 4,.t 40]]))))
 (.ops [zP 41 (.bin .add) [.t 14,zI 1],
 zM 14 41]))))
def Qd:az:=⟨43,[.cell 2 2 true,.tmp 3],
 (.seq (.ops [⟨some 2,none,.a (.alloc [zz,zz]),[]⟩,
 zK 3 (.bool false)])
 (.seq (.ops [zP 7 (.build [zz,zz] [(0,1),(1,1)]) [zI 0,zI 1],
 ⟨some 4,none,.a (.alloc [zz,zz]),[]⟩,
 zS 2 [.t 4,.t 7]])
 (.seq (.seq (.ops [zM 8 0,
 zQ 9 .cA 8,
 zP 10 (.bin .gtr) [.t 9,zI 4]])
 (.cond (.t 10)
 (.seq (.ops [zO 11 2 4,
 zS 2 [.t 2,.t 11],
 zK 3 (.bool false)])
 .ret)
 .skip))
 (.seq (.seq (.ops [zM 12 0,
 zQ 13 .cA 12,
 zV 14 0])
 (.block 0 (.loop qD)))
 (.seq (.ops [zO 42 2 4,
 zS 2 [.t 2,.t 42],
 zK 3 (.bool true)])
 .ret)))))⟩
def Tb:az:=⟨13,[.tmp 2],
 (.seq (.ops [zB 1 0,
 zK 2 (.bool false)])
 (.seq (.ops [zF 3 1 0,
 zL 4 3,
 zF 5 1 1,
 zL 6 5,
 zR 7 (.bin .gtr) 4 6,
 zM 8 7,
 ⟨some 9,some (8,true),.r (.bI 2),[.t 1]⟩,
 cQ 10 (.build [zz,zz] [(0,1),(1,1)]) [zI 1,zI 1] 8 true,
 cQ 11 (.neq (.cells [0,0])) [.t 9,.t 10] 8 true,
 zP 12 .pick [.t 8,.t 11,.c (.bool false)],
 zM 2 12])
 .ret))⟩
def Qe:az:=⟨26,[.cell 4 6 true,.tmp 5],
 (.seq (.ops [⟨some 4,none,.a (.alloc [zz,zz,.aq,.aq,zz,.aq]),[]⟩,
 zV 5 0])
 (.seq (.ops [zM 9 0,
 zM 10 1,
 jk 11 107 9 10,
 zM 8 11,
 zQ 12 (.ext 0) 8,
 zQ 13 (.ext 1) 8,
 zM 6 12,
 zM 7 13])
 (.seq (.seq (.ops [zM 14 7,
 zP 15 (.bin .neq) [.t 14,zI 0]])
 (.cond (.t 15)
 (.seq (.ops [zP 16 (.build [zz,zz,.aq,.aq,zz,.aq] []) [],
 zM 17 7,
 zS 6 [.t 4,.t 16],
 zM 5 17])
 .ret)
 .skip))
 (.seq (.ops [zM 18 0,
 zM 19 1,
 zR 20 (.aH 3) 18 19,
 zO 21 3 20,
 zM 22 0,
 zM 23 1,
 zM 24 6,
 zP 25 (.build [zz,zz,.aq,.aq,zz,.aq] [(0,3),(3,1),(4,1),(5,1)]) [.t 21,.t 22,.t 23,.t 24],
 zS 6 [.t 4,.t 25],
 zV 5 0])
 .ret))))⟩
def sU:AC:=(.seq (.ops [zR 26 (.bin .lss) 25 24])
 (.seq (.cond (.t 26)
 .skip
 (.exit 0))
 (.seq (.block 1 (.seq (.ops [zR 27 (.aH 8) 23 25,
 zO 28 8 27,
 ⟨some 8,none,.a (.alloc [zz,zz,zz,zz,zz,zz,zz,zz]),[]⟩,
 zS 8 [.t 8,.t 28]])
 (.seq (.ops [zM 30 6,
 zF 31 8 0,
 zL 32 31,
 ⟨some 33,none,.a (.cG [zz] 2 1 [0,1]),[.t 30,.t 32]⟩,
 zC 34 109 [zI 4096,.t 33],
 zM 29 34,
 zQ 35 (.ext 0) 29,
 zQ 36 (.ext 1) 29,
 zM 9 35,
 zM 10 36])
 (.seq (.seq (.ops [zM 37 10,
 zP 38 (.bin .neq) [.t 37,zI 0]])
 (.cond (.t 38)
 (.seq (.ops [zV 4 0,
 zV 5 5])
 .ret)
 .skip))
 (.ops [zM 39 9,
 zM 6 39])))))
 (.ops [zP 40 (.bin .add) [.t 25,zI 1],
 zM 25 40]))))
def Tc:az:=⟨42,[.tmp 4,.tmp 5],
 (.seq (.ops [zV 4 0,
 zV 5 0])
 (.seq (.seq (.ops [zM 11 0,
 uS 12 108 11,
 zQ 13 .not 12,
 zM 14 13,
 ff 15 1 14 false,
 cQ 16 (.bin .lss) [.t 15,zI 1] 14 false,
 zP 17 .pick [.t 14,.c (.bool true),.t 16],
 zM 18 17,
 ff 19 1 18 false,
 cQ 20 (.bin .gtr) [.t 19,zI 64] 18 false,
 zP 21 .pick [.t 18,.c (.bool true),.t 20]])
 (.cond (.t 21)
 (.seq (.ops [zV 4 0,
 zV 5 2])
 .ret)
 .skip))
 (.seq (.ops [zM 22 1,
 zM 6 22])
 (.seq (.seq (.ops [zM 23 0,
 zQ 24 .cA 23,
 zV 25 0])
 (.block 0 (.loop sU)))
 (.seq (.ops [zM 41 6,
 zM 4 41,
 zV 5 0])
 .ret)))))⟩
def Td:az:=⟨30,[.tmp 6,.tmp 7],
 (.seq (.ops [zB 5 2,
 zV 6 0,
 zV 7 0])
 (.seq (.seq (.ops [zM 9 0,
 zM 10 1,
 jk 11 110 9 10,
 zM 8 11])
 (.seq (.ops [zM 12 8,
 zP 13 (.bin .neq) [.t 12,zI 0],
 zM 14 13,
 gz 15 5 14 false,
 cQ 16 (.bin .lss) [.t 15,zI 1] 14 false,
 zP 17 .pick [.t 14,.c (.bool true),.t 16],
 zM 18 17,
 gz 19 5 18 false,
 cQ 20 (.bin .gtr) [.t 19,zI 1048576] 18 false,
 zP 21 .pick [.t 18,.c (.bool true),.t 20]])
 (.cond (.t 21)
 (.seq (.ops [zV 6 0,
 zV 7 2])
 .ret)
 .skip)))
 (.seq (.seq (.ops [zM 22 0,
 zQ 23 (.gL (.func 112) 0) 5,
 jk 24 111 22 23])
 (.cond (.t 24)
 (.seq (.ops [zV 6 0,
 zV 7 2])
 .ret)
 .skip))
 (.seq (.ops [zM 25 0,
 zM 26 1,
 zQ 27 (.gL (.func 115) 0) 5,
 QF 28 114 25 26 27,
 uS 29 113 28,
 zM 6 29,
 zV 7 0])
 .ret))))⟩
def Te:az:=⟨6,[.tmp 4],
 (.seq (.ops [zB 2 0,
 zB 3 1,
 zK 4 .iP])
 (.seq (.ops [zR 5 (.gL (.func 116) 0) 3 2,
 zM 4 5])
 .ret))⟩
def xz:AC:=(.seq (.ops [zR 8 (.bin .lss) 7 6])
 (.seq (.cond (.t 8)
 .skip
 (.exit 0))
 (.seq (.block 1 (.seq (.ops [zR 9 (.aH 1) 5 7,
 zL 10 9,
 zM 4 10])
 (.ops [zM 11 2,
 zM 12 4,
 zR 13 (.bin .add) 11 12,
 zM 2 13])))
 (.ops [zP 14 (.bin .add) [.t 7,zI 1],
 zM 7 14]))))
def Tf:az:=⟨16,[.tmp 2],
 (.seq (.ops [zV 2 0])
 (.seq (.seq (.ops [zM 5 0,
 zQ 6 .cA 5,
 zV 7 0])
 (.block 0 (.loop xz)))
 (.seq (.ops [zM 15 2,
 zM 2 15])
 .ret)))⟩
def T7:az:=⟨8,[.tmp 2],
 (.seq (.ops [zK 2 .aq])
 (.seq (.seq (.ops [zM 3 0,
 zP 4 (.eq .lG) [.t 3,.c .aq]])
 (.cond (.t 4)
 (.seq (.ops [zK 2 .aq])
 .ret)
 .skip))
 (.seq (.ops [⟨some 5,none,.a (.cG [zz,zz,.aq] 0 3 []),[]⟩,
 zM 6 0,
 zA 7 3 40 5 6,
 zM 2 7])
 .ret)))⟩
def T8:az:=⟨8,[.tmp 2],
 (.seq (.ops [zK 2 .aq])
 (.seq (.seq (.ops [zM 3 0,
 zP 4 (.eq .lG) [.t 3,.c .aq]])
 (.cond (.t 4)
 (.seq (.ops [zK 2 .aq])
 .ret)
 .skip))
 (.seq (.ops [⟨some 5,none,.a (.cG [zz,zz,zz,zz,zz,zz] 0 6 []),[]⟩,
 zM 6 0,
 zA 7 6 48 5 6,
 zM 2 7])
 .ret)))⟩
def T9:az:=⟨8,[.tmp 2],
 (.seq (.ops [zK 2 .aq])
 (.seq (.seq (.ops [zM 3 0,
 zP 4 (.eq .lG) [.t 3,.c .aq]])
 (.cond (.t 4)
 (.seq (.ops [zK 2 .aq])
 .ret)
 .skip))
 (.seq (.ops [⟨some 5,none,.a (.cG [zz,zz,zz,zz,zz,zz,zz,zz] 0 8 []),[]⟩,
 zM 6 0,
 zA 7 8 64 5 6,
 zM 2 7])
 .ret)))⟩
def Tg:az:=⟨9,[.tmp 4],
 (.seq (.ops [zK 4 (.bool false)])
 (.seq (.ops [zM 5 0,
 zM 6 1,
 jk 7 119 5 6,
 zP 8 (.bin .geq) [.t 7,zI 0],
 zM 4 8])
 .ret))⟩
def Th:az:=⟨6,[.tmp 2],
 (.seq (.ops [zB 1 0,
 zK 2 (.bool false)])
 (.seq (.ops [zO 3 3 1,
 uS 4 93 3,
 zQ 5 .not 4,
 zM 2 5])
 .ret))⟩
def Ti:az:=⟨26,[.tmp 2],
 (.seq (.ops [zB 1 0,
 zK 2 (.bool false)])
 (.seq (.seq (.ops [zF 3 1 0,
 zL 4 3,
 zC 5 97 [.t 4,zI 1,zI 64],
 zQ 6 .not 5,
 zM 7 6,
 iF 8 1 1 7 false,
 gz 9 8 7 false,
 iF 10 1 0 7 false,
 gz 11 10 7 false,
 uI 12 97 [.t 9,zI 1,.t 11] 7 false,
 cQ 13 .not [.t 12] 7 false,
 zP 14 .pick [.t 7,.c (.bool true),.t 13],
 zM 15 14,
 iF 16 1 2 15 false,
 gz 17 16 15 false,
 cQ 18 .cA [.t 17] 15 false,
 cQ 19 (.bin .gtr) [.t 18,zI 4] 15 false,
 zP 20 .pick [.t 15,.c (.bool true),.t 19]])
 (.cond (.t 20)
 (.seq (.ops [zK 2 (.bool false)])
 .ret)
 .skip))
 (.seq (.ops [zF 21 1 2,
 zL 22 21,
 zQ 23 (.gL (.func 120) 0) 1,
 jk 24 111 22 23,
 zQ 25 .not 24,
 zM 2 25])
 .ret)))⟩
def Tj:az:=⟨9,[.tmp 4],
 (.seq (.ops [zK 4 (.bool false)])
 (.seq (.ops [zM 5 0,
 zM 6 1,
 jk 7 122 5 6,
 zP 8 (.bin .geq) [.t 7,zI 0],
 zM 4 8])
 .ret))⟩
def Ua:az:=⟨10,[.tmp 3],
 (.seq (.ops [zB 2 0,
 zK 3 (.bool false)])
 (.seq (.ops [zO 4 6 2,
 zF 5 1 0,
 zL 6 5,
 zQ 7 .cA 6,
 jk 8 96 4 7,
 zQ 9 .not 8,
 zM 3 9])
 .ret))⟩
def Ub:az:=⟨55,[.tmp 4],
 (.seq (.ops [zB 2 0,
 zK 4 (.bool false)])
 (.seq (.ops [zK 5 (.bool false)])
 (.seq (.seq (.ops [zF 6 2 0,
 zL 7 6])
 (.block 0 (.seq (.ops [zP 9 (.bin .eql) [.t 7,zI 1],
 zM 8 9])
 (.cond (.t 8)
 (.ops [zF 10 2 4,
 zL 11 10,
 zP 12 (.bin .eql) [.t 11,zI 0],
 zM 13 12,
 iF 14 2 5 13 true,
 gz 15 14 13 true,
 uI 16 97 [.t 15,zI 1,zI 64] 13 true,
 zP 17 .pick [.t 13,.t 16,.c (.bool false)],
 zM 5 17])
 (.seq (.ops [zP 19 (.bin .eql) [.t 7,zI 2],
 zM 18 19])
 (.cond (.t 18)
 (.ops [zF 20 2 5,
 zL 21 20,
 zP 22 (.bin .eql) [.t 21,zI 0],
 zM 23 22,
 iF 24 2 4 23 true,
 gz 25 24 23 true,
 uI 26 97 [.t 25,zI 1,zI 4] 23 true,
 zP 27 .pick [.t 23,.t 26,.c (.bool false)],
 zM 5 27])
 .skip))))))
 (.seq (.ops [zM 28 5,
 zM 29 28,
 iF 30 2 1 29 true,
 gz 31 30 29 true,
 ff 32 1 29 true,
 cQ 33 (.bin .sub) [.t 32,zI 1] 29 true,
 uI 34 97 [.t 31,zI 0,.t 33] 29 true,
 zP 35 .pick [.t 29,.t 34,.c (.bool false)],
 zM 36 35,
 iF 37 2 2 36 true,
 gz 38 37 36 true,
 ff 39 1 36 true,
 cQ 40 (.bin .sub) [.t 39,zI 1] 36 true,
 uI 41 97 [.t 38,zI 0,.t 40] 36 true,
 zP 42 .pick [.t 36,.t 41,.c (.bool false)],
 zM 43 42,
 iF 44 2 1 43 true,
 gz 45 44 43 true,
 iF 46 2 2 43 true,
 gz 47 46 43 true,
 cQ 48 (.bin .neq) [.t 45,.t 47] 43 true,
 zP 49 .pick [.t 43,.t 48,.c (.bool false)],
 zM 50 49,
 iF 51 2 3 50 true,
 gz 52 51 50 true,
 uI 53 97 [.t 52,zI 1,zI 16] 50 true,
 zP 54 .pick [.t 50,.t 53,.c (.bool false)],
 zM 4 54])
 .ret))))⟩
def Tl:az:=⟨15,[.tmp 6],
 (.seq (.ops [zK 6 (.bool false)])
 (.seq (.ops [zM 7 1,
 zM 8 0,
 zR 9 (.bin .leq) 7 8,
 zM 10 9,
 ff 11 0 10 true,
 ff 12 2 10 true,
 cQ 13 (.bin .leq) [.t 11,.t 12] 10 true,
 zP 14 .pick [.t 10,.t 13,.c (.bool false)],
 zM 6 14])
 .ret))⟩
def KI:az:=⟨40,[.cell 4 2 true],
 (.seq (.ops [zB 2 0,
 zB 3 1,
 ⟨some 4,none,.a (.alloc [zz,zz]),[]⟩])
 (.seq (.cm [zF 10 2 0,
 zL 11 10,
 zF 12 3 1,
 zL 13 12,
 zR 14 (.bin .mul) 11 13,
 zF 15 3 0,
 zL 16 15,
 zF 17 2 1,
 zL 18 17,
 zR 19 (.bin .mul) 16 18,
 zR 20 (.bin .add) 14 19,
 zF 21 2 1,
 zL 22 21,
 zF 23 3 1,
 zL 24 23,
 zR 25 (.bin .mul) 22 24,
 zM 5 20,
 zM 6 25] [[],[],[],[],[],[],[],[],[],[],[],[],[],[],[],[],[],[]])
 (.seq (.ops [zM 27 5,
 zM 28 6,
 jk 29 133 27 28,
 zM 26 29,
 zQ 30 (.ext 0) 26,
 zQ 31 (.ext 1) 26,
 zM 7 30,
 zM 8 31])
 (.seq (.ops [zM 32 7,
 zM 9 32])
 (.seq (.cm [zM 33 5,
 zM 34 9,
 zR 35 (.bin .quo) 33 34,
 zM 36 6,
 zM 37 9,
 zR 38 (.bin .quo) 36 37,
 zR 39 (.build [zz,zz] [(0,1),(1,1)]) 35 38,
 zS 2 [.t 4,.t 39]] [[],[],[],[],[],[],[],[]])
 .ret)))))⟩
def vg:AC:=(.seq (.ops [zR 30 (.bin .lss) 29 28])
 (.seq (.cond (.t 30)
 .skip
 (.exit 0))
 (.seq (.block 1 (.seq (.ops [zM 31 29,
 zR 32 (.aH 8) 27 29,
 zO 33 8 32,
 ⟨some 10,none,.a (.alloc [zz,zz,zz,zz,zz,zz,zz,zz]),[]⟩,
 zM 9 31,
 zS 8 [.t 10,.t 33]])
 (.cm [zM 34 8,
 zM 35 9,
 zF 36 10 7,
 zL 37 36,
 zO 38 5 6,
 zO 39 8 10,
 jk 40 135 38 39,
 zF 41 10 6,
 zL 42 41,
 zR 43 (.bin .add) 40 42,
 zP 44 (.bin .sub) [.t 43,zI 1],
 zR 45 (.bin .mul) 37 44,
 zR 46 (.aH 1) 34 35,
 zS 1 [.t 46,.t 45]] [[],[],[],[0,7],[],[],[],[],[0,7],[],[],[],[],[]])))
 (.ops [zP 47 (.bin .add) [.t 29,zI 1],
 zM 29 47]))))
def Fw:az:=⟨49,[.tmp 4,.tmp 5],
 (.seq (.ops [zK 4 .aq,
 zV 5 0])
 (.seq (.ops [zM 12 0,
 zM 13 1,
 jk 14 134 12 13,
 zM 11 14,
 zQ 15 (.ext 0) 11,
 zQ 16 (.ext 1) 11,
 ⟨some 6,none,.a (.alloc [zz,zz,.aq,.aq,zz]),[]⟩,
 zS 5 [.t 6,.t 15],
 zM 7 16])
 (.seq (.seq (.ops [zM 17 7,
 zP 18 (.bin .neq) [.t 17,zI 0]])
 (.cond (.t 18)
 (.seq (.ops [zM 19 7,
 zK 4 .aq,
 zM 5 19])
 .ret)
 .skip))
 (.seq (.ops [zF 20 6 0,
 zF 21 20 2,
 zL 22 21,
 zQ 23 .cA 22,
 ⟨some 24,none,.a (.dj [zz] 1 8),[.t 23,.t 23]⟩,
 zM 8 24])
 (.seq (.seq (.ops [zF 25 6 0,
 zF 26 25 2,
 zL 27 26,
 zQ 28 .cA 27,
 zV 29 0])
 (.block 0 (.loop vg)))
 (.seq (.ops [zM 48 8,
 zM 4 48,
 zV 5 0])
 .ret))))))⟩
def KJ:az:=⟨11,[.tmp 2],
 (.seq (.ops [zK 2 (.bool false)])
 (.seq (.ops [zM 3 0,
 zQ 4 .cA 3,
 zP 5 (.bin .leq) [.t 4,zI 4],
 zM 6 5,
 ff 7 0 6 true,
 uI 8 111 [.t 7,.c (.func (.func 136) [] [])] 6 true,
 cQ 9 .not [.t 8] 6 true,
 zP 10 .pick [.t 6,.t 9,.c (.bool false)],
 zM 2 10])
 .ret))⟩
def KK:az:=⟨53,[.tmp 4,.tmp 5],
 (.seq (.ops [zV 4 0,
 zV 5 0])
 (.seq (.seq (.ops [zM 7 0,
 ⟨some 8,none,.a (.cG [zz] 1 1 [0]),[.t 7]⟩,
 uS 9 138 8,
 zQ 10 .not 9,
 zM 11 10,
 ff 12 1 11 false,
 uI 13 138 [.t 12] 11 false,
 cQ 14 .not [.t 13] 11 false,
 zP 15 .pick [.t 11,.c (.bool true),.t 14],
 zM 16 15,
 ff 17 1 16 false,
 uI 18 139 [.t 17,zI 0] 16 false,
 zP 19 .pick [.t 16,.c (.bool true),.t 18]])
 (.cond (.t 19)
 (.seq (.ops [zV 4 0,
 zV 5 2])
 .ret)
 .skip))
 (.seq (.ops [zP 20 (.build [zz,zz] [(0,1)]) [zI 1],
 zB 21 20,
 zM 6 21])
 (.seq (.ops [zM 22 6,
 zQ 23 (.gL (.func 141) 1) 22,
 zM 24 1,
 jk 25 140 23 24])
 (.seq (.seq (.ops [zM 26 6,
 zN 27 26,
 zF 28 27 1,
 zL 29 28,
 zP 30 (.bin .eql) [.t 29,zI 0],
 zM 31 30,
 ff 32 6 31 true,
 QG 33 32 31 true,
 iF 34 33 0 31 true,
 gz 35 34 31 true,
 ff 36 0 31 true,
 cQ 37 (.bin .gtr) [.t 35,.t 36] 31 true,
 zP 38 .pick [.t 31,.t 37,.c (.bool false)]])
 (.cond (.t 38)
 (.ops [zM 39 6,
 zN 40 39,
 zF 41 40 1,
 zS 1 [.t 41,zI 10]])
 .skip))
 (.seq (.cm [zM 42 6,
 zN 43 42,
 zF 44 43 0,
 zL 45 44,
 zM 46 6,
 zN 47 46,
 zF 48 47 1,
 zL 49 48,
 jk 50 142 45 49,
 zQ 51 (.ext 0) 50,
 zQ 52 (.ext 1) 50,
 zM 4 51,
 zM 5 52] [[],[],[],[],[],[],[],[],[],[],[],[],[]])
 .ret))))))⟩
def KL:az:=⟨21,[.tmp 4],
 (.seq (.ops [zV 4 0])
 (.seq (.ops [zM 6 1,
 zC 7 143 [.t 6,.c (.func (.func 144) [] [])],
 zM 5 7])
 (.seq (.seq (.ops [zM 8 5,
 zM 9 8,
 ff 10 0 9 false,
 uI 11 108 [.t 10] 9 false,
 cQ 12 .not [.t 11] 9 false,
 zP 13 .pick [.t 9,.c (.bool true),.t 12],
 zM 14 13,
 ff 15 1 14 false,
 cQ 16 .cA [.t 15] 14 false,
 ff 17 0 14 false,
 cQ 18 .cA [.t 17] 14 false,
 cQ 19 (.bin .neq) [.t 16,.t 18] 14 false,
 zP 20 .pick [.t 14,.c (.bool true),.t 19]])
 (.cond (.t 20)
 (.seq (.ops [zV 4 2])
 .ret)
 .skip))
 (.seq (.ops [zV 4 0])
 .ret))))⟩
def KM:az:=⟨9,[.tmp 4],
 (.seq (.ops [zK 4 (.bool false)])
 (.seq (.ops [zM 5 0,
 zM 6 1,
 jk 7 145 5 6,
 zP 8 (.bin .geq) [.t 7,zI 0],
 zM 4 8])
 .ret))⟩
def KN:az:=⟨9,[.tmp 3],
 (.seq (.ops [zB 2 0,
 zK 3 (.bool false)])
 (.seq (.ops [zL 4 1,
 zF 5 2 0,
 zL 6 5,
 zR 7 (.bin .rem) 4 6,
 zP 8 (.bin .neq) [.t 7,zI 0],
 zM 3 8])
 .ret))⟩
def vh:AC:=(.seq (.ops [zR 8 (.bin .lss) 7 6])
 (.seq (.cond (.t 8)
 .skip
 (.exit 0))
 (.seq (.block 1 (.seq (.ops [zR 9 (.aH 1) 5 7,
 zL 10 9,
 zM 4 10])
 (.ops [zM 11 2,
 zM 12 4,
 zR 13 (.bin .add) 11 12,
 zM 2 13])))
 (.ops [zP 14 (.bin .add) [.t 7,zI 1],
 zM 7 14]))))
def KO:az:=⟨16,[.tmp 2],
 (.seq (.ops [zV 2 0])
 (.seq (.seq (.ops [zM 5 0,
 zQ 6 .cA 5,
 zV 7 0])
 (.block 0 (.loop vh)))
 (.seq (.ops [zM 15 2,
 zM 2 15])
 .ret)))⟩
def uK:AC:=(.seq (.ops [zR 16 (.bin .lss) 15 14])
 (.seq (.cond (.t 16)
 .skip
 (.exit 0))
 (.seq (.block 1 (.seq (.ops [zM 17 15,
 zR 18 (.aH 8) 13 15,
 zO 19 8 18,
 ⟨some 9,none,.a (.alloc [zz,zz,zz,zz,zz,zz,zz,zz]),[]⟩,
 zM 8 17,
 zS 8 [.t 9,.t 19]])
 (.cm [zM 20 7,
 zM 21 8,
 zM 22 2,
 zO 23 8 9,
 ⟨some 24,none,.call,[.t 22,.t 23]⟩,
 zF 25 9 2,
 zL 26 25,
 zM 27 1,
 zM 28 8,
 zR 29 (.aH 1) 27 28,
 zL 30 29,
 zR 31 (.bin .add) 26 30,
 zR 32 (.bin .mul) 24 31,
 zR 33 (.aH 1) 20 21,
 zS 1 [.t 33,.t 32]] [[],[],[],[],[],[],[0,5],[],[],[],[0,5],[],[],[],[]])))
 (.ops [zP 34 (.bin .add) [.t 15,zI 1],
 zM 15 34]))))
def KP:az:=⟨36,[.tmp 6],
 (.seq (.ops [zK 6 .aq])
 (.seq (.ops [zM 10 0,
 zQ 11 .cA 10,
 ⟨some 12,none,.a (.dj [zz] 1 8),[.t 11,.t 11]⟩,
 zM 7 12])
 (.seq (.seq (.ops [zM 13 0,
 zQ 14 .cA 13,
 zV 15 0])
 (.block 0 (.loop uK)))
 (.seq (.ops [zM 35 7,
 zM 6 35])
 .ret))))⟩
def KQ:az:=⟨8,[.tmp 3],
 (.seq (.ops [zB 2 0,
 zV 3 0])
 (.seq (.ops [zL 4 1,
 zF 5 2 0,
 zL 6 5,
 zR 7 (.bin .quo) 4 6,
 zM 3 7])
 .ret))⟩
def iu:AC:=(.seq (.seq (.ops [zM 5 4,
 zL 6 1,
 zR 7 (.bin .leq) 5 6])
 (.cond (.t 7)
 .skip
 (.exit 0)))
 (.seq (.block 1 (.seq (.ops [zO 10 6 2,
 zM 11 4,
 jk 12 117 10 11,
 zP 13 (.bin .gtr) [.t 12,zI 0],
 zM 14 13,
 ff 15 0 14 true,
 ff 16 4 14 true,
 ⟨some 17,some (14,true),.r (.bI 6),[.t 2]⟩,
 ff 18 4 14 true,
 uI 19 118 [.t 17,.t 18] 14 true,
 ⟨some 20,some (14,true),.call,[.t 15,.t 16,.t 19]⟩,
 cQ 21 .not [.t 20] 14 true,
 zP 22 .pick [.t 14,.t 21,.c (.bool false)]])
 (.cond (.t 22)
 .ret
 .skip)))
 (.ops [zM 8 4,
 zP 9 (.bin .add) [.t 8,zI 1],
 zM 4 9])))
def KR:az:=⟨23,[],
 (.seq (.ops [zV 4 1])
 (.block 0 (.loop iu)))⟩
def KS:az:=⟨18,[.tmp 4],
 (.seq (.ops [zB 2 0,
 zV 4 0])
 (.seq (.ops [zF 8 2 0,
 zF 9 8 2,
 zL 10 9,
 zF 11 2 5,
 zL 12 11,
 zM 13 1,
 QF 14 146 10 12 13,
 zM 7 14,
 zQ 15 (.ext 0) 7,
 zQ 16 (.ext 1) 7,
 zM 5 15,
 zM 6 16])
 (.seq (.ops [zM 17 5,
 zM 4 17])
 .ret)))⟩
def KT:az:=⟨38,[.tmp 4],
 (.seq (.ops [zB 2 0,
 zV 4 0])
 (.seq (.ops [zF 10 2 0,
 zF 11 10 0,
 zL 12 11,
 zF 13 2 0,
 zF 14 13 1,
 zL 15 14,
 zM 16 1,
 QF 17 147 12 15 16,
 zM 9 17,
 zQ 18 (.ext 0) 9,
 zQ 19 (.ext 1) 9,
 zM 5 18,
 zM 6 19])
 (.seq (.ops [zF 21 2 3,
 zL 22 21,
 zF 23 2 4,
 zL 24 23,
 zM 25 1,
 QF 26 148 22 24 25,
 zM 20 26,
 zQ 27 (.ext 0) 20,
 zQ 28 (.ext 1) 20,
 zM 7 27,
 zM 8 28])
 (.seq (.ops [zM 29 5,
 zO 30 6 2,
 zM 31 1,
 jk 32 117 30 31,
 zQ 33 .neg 32,
 zM 34 7,
 zQ 35 .neg 34,
 ⟨some 36,none,.a (.cG [zz] 3 1 [0,1,2]),[.t 29,.t 33,.t 35]⟩,
 uS 37 87 36,
 zM 4 37])
 .ret))))⟩
def fR:AC:=(.seq (.ops [zR 9 (.bin .lss) 8 7])
 (.seq (.cond (.t 9)
 .skip
 (.exit 0))
 (.seq (.block 1 (.seq (.ops [zM 10 8,
 zM 5 10])
 (.seq (.ops [zM 11 1,
 zM 12 0,
 zM 13 5,
 zR 14 (.aH 3) 12 13,
 zO 15 3 14,
 ⟨some 16,none,.call,[.t 11,.t 15]⟩])
 (.cond (.t 16)
 (.seq (.ops [zM 17 5,
 zM 4 17])
 .ret)
 .skip))))
 (.ops [zP 18 (.bin .add) [.t 8,zI 1],
 zM 8 18]))))
def G4:az:=⟨19,[.tmp 4],
 (.seq (.ops [zV 4 0])
 (.seq (.seq (.ops [zM 6 0,
 zQ 7 .cA 6,
 zV 8 0])
 (.block 0 (.loop fR)))
 (.seq (.ops [zV 4 (-1)])
 .ret)))⟩
def KU:az:=⟨9,[.tmp 3],
 (.seq (.ops [zB 2 0,
 zK 3 (.bool false)])
 (.seq (.ops [zO 4 8 2,
 zF 5 1 1,
 zL 6 5,
 jk 7 121 4 6,
 zQ 8 .not 7,
 zM 3 8])
 .ret))⟩
def KV:az:=⟨86,[.tmp 4],
 (.seq (.ops [zB 2 0,
 zK 4 (.bool false)])
 (.seq (.ops [zF 6 2 0,
 zL 7 6,
 zC 8 97 [.t 7,zI 1,zI 64],
 zM 9 8,
 iF 10 2 1 9 true,
 gz 11 10 9 true,
 iF 12 2 0 9 true,
 gz 13 12 9 true,
 uI 14 97 [.t 11,zI 1,.t 13] 9 true,
 zP 15 .pick [.t 9,.t 14,.c (.bool false)],
 zM 16 15,
 iF 17 2 2 16 true,
 gz 18 17 16 true,
 iF 19 2 1 16 true,
 gz 20 19 16 true,
 uI 21 97 [.t 18,zI 1,.t 20] 16 true,
 zP 22 .pick [.t 16,.t 21,.c (.bool false)],
 zM 5 22])
 (.seq (.seq (.ops [zM 23 5,
 zQ 24 .not 23,
 zM 25 24,
 iF 26 2 3 25 false,
 gz 27 26 25 false,
 uI 28 97 [.t 27,zI 0,zI 255] 25 false,
 cQ 29 .not [.t 28] 25 false,
 zP 30 .pick [.t 25,.c (.bool true),.t 29],
 zM 31 30,
 iF 32 2 5 31 false,
 gz 33 32 31 false,
 uI 34 97 [.t 33,zI 0,zI 4] 31 false,
 cQ 35 .not [.t 34] 31 false,
 zP 36 .pick [.t 31,.c (.bool true),.t 35]])
 (.cond (.t 36)
 (.seq (.ops [zK 4 (.bool false)])
 .ret)
 .skip))
 (.seq (.seq (.ops [zF 37 2 3,
 zL 38 37,
 zP 39 (.bin .eql) [.t 38,zI 0],
 zM 40 39,
 iF 41 2 4 40 true,
 gz 42 41 40 true,
 cQ 43 (.bin .neq) [.t 42,zI 0] 40 true,
 zP 44 .pick [.t 40,.t 43,.c (.bool false)],
 zM 45 44,
 iF 46 2 3 45 false,
 gz 47 46 45 false,
 cQ 48 (.bin .neq) [.t 47,zI 0] 45 false,
 ff 49 48 45 false,
 iF 50 2 4 49 true,
 gz 51 50 49 true,
 iF 52 2 2 49 true,
 gz 53 52 49 true,
 uI 54 97 [.t 51,zI 1,.t 53] 49 true,
 cQ 55 .not [.t 54] 49 true,
 cQ 56 .pick [.t 49,.t 55,.c (.bool false)] 45 false,
 zP 57 .pick [.t 45,.c (.bool true),.t 56]])
 (.cond (.t 57)
 (.seq (.ops [zK 4 (.bool false)])
 .ret)
 .skip))
 (.seq (.seq (.ops [zF 58 2 5,
 zL 59 58,
 zP 60 (.bin .eql) [.t 59,zI 0]])
 (.cond (.t 60)
 (.seq (.ops [zF 61 2 6,
 zL 62 61,
 zP 63 (.bin .eql) [.t 62,zI 0],
 zM 64 63,
 iF 65 2 7 64 true,
 gz 66 65 64 true,
 cQ 67 (.bin .eql) [.t 66,zI 0] 64 true,
 zP 68 .pick [.t 64,.t 67,.c (.bool false)],
 zM 4 68])
 .ret)
 .skip))
 (.seq (.cm [zF 69 2 6,
 zL 70 69,
 zM 71 1,
 zF 72 2 2,
 zL 73 72,
 zR 74 .mn 71 73,
 zC 75 97 [.t 70,zI 1,.t 74],
 zM 76 75,
 iF 77 2 7 76 true,
 gz 78 77 76 true,
 iF 79 2 2 76 true,
 gz 80 79 76 true,
 iF 81 2 6 76 true,
 gz 82 81 76 true,
 cQ 83 (.bin .quo) [.t 80,.t 82] 76 true,
 uI 84 97 [.t 78,zI 1,.t 83] 76 true,
 zP 85 .pick [.t 76,.t 84,.c (.bool false)],
 zM 4 85] [[],[],[],[],[],[],[],[],[],[],[],[],[],[],[],[],[],[]])
 .ret))))))⟩
def fT:AC:=(.seq (.ops [zR 9 (.bin .lss) 8 7])
 (.seq (.cond (.t 9)
 .skip
 (.exit 0))
 (.seq (.block 1 (.seq (.ops [zM 10 8,
 zM 5 10])
 (.seq (.ops [zM 11 1,
 zM 12 0,
 zM 13 5,
 zR 14 (.aH 6) 12 13,
 zO 15 6 14,
 ⟨some 16,none,.call,[.t 11,.t 15]⟩])
 (.cond (.t 16)
 (.seq (.ops [zM 17 5,
 zM 4 17])
 .ret)
 .skip))))
 (.ops [zP 18 (.bin .add) [.t 8,zI 1],
 zM 8 18]))))
def KW:az:=⟨19,[.tmp 4],
 (.seq (.ops [zV 4 0])
 (.seq (.seq (.ops [zM 6 0,
 zQ 7 .cA 6,
 zV 8 0])
 (.block 0 (.loop fT)))
 (.seq (.ops [zV 4 (-1)])
 .ret)))⟩
def qE:AC:=(.seq (.seq (.ops [zM 11 1,
 zP 12 (.bin .neq) [.t 11,zI 0]])
 (.cond (.t 12)
 .skip
 (.exit 0)))
 (.block 1 (.cm [zM 13 1,
 zM 14 0,
 zM 15 1,
 zR 16 (.bin .rem) 14 15,
 zM 0 13,
 zM 1 16] [[],[],[],[],[],[]])))
def KX:az:=⟨18,[.tmp 4,.tmp 5],
 (.seq (.ops [zV 4 0,
 zV 5 0])
 (.seq (.seq (.ops [zM 6 0,
 zM 7 1,
 ⟨some 8,none,.a (.cG [zz] 2 1 [0,1]),[.t 6,.t 7]⟩,
 uS 9 138 8,
 zQ 10 .not 9])
 (.cond (.t 10)
 (.seq (.ops [zV 4 0,
 zV 5 2])
 .ret)
 .skip))
 (.seq (.block 0 (.loop qE))
 (.seq (.ops [zM 17 0,
 zM 4 17,
 zV 5 0])
 .ret))))⟩
def Fx:az:=⟨29,[.cell 4 5 true,.tmp 5],
 (.seq (.ops [⟨some 4,none,.a (.alloc [zz,zz,.aq,.aq,zz]),[]⟩,
 zV 5 0])
 (.seq (.seq (.ops [zM 7 0,
 uS 8 154 7,
 zM 6 8])
 (.seq (.ops [zM 9 6,
 zP 10 (.bin .neq) [.t 9,zI 0]])
 (.cond (.t 10)
 (.seq (.ops [zP 11 (.build [zz,zz,.aq,.aq,zz] []) [],
 zM 12 6,
 zS 5 [.t 4,.t 11],
 zM 5 12])
 .ret)
 .skip)))
 (.seq (.seq (.ops [zM 13 1,
 zP 14 (.bin .lss) [.t 13,zI 0],
 zM 15 14,
 ff 16 1 15 false,
 ff 17 0 15 false,
 cQ 18 .cA [.t 17] 15 false,
 cQ 19 (.bin .geq) [.t 16,.t 18] 15 false,
 zP 20 .pick [.t 15,.c (.bool true),.t 19]])
 (.cond (.t 20)
 (.seq (.ops [zP 21 (.build [zz,zz,.aq,.aq,zz] []) [],
 zS 5 [.t 4,.t 21],
 zV 5 9])
 .ret)
 .skip))
 (.seq (.ops [zM 22 0,
 zM 23 1,
 zR 24 (.aH 3) 22 23,
 zO 25 3 24,
 zM 26 0,
 zM 27 1,
 zP 28 (.build [zz,zz,.aq,.aq,zz] [(0,3),(3,1),(4,1)]) [.t 25,.t 26,.t 27],
 zS 5 [.t 4,.t 28],
 zV 5 0])
 .ret))))⟩
def ox:AC:=(.ops [⟨some 5,none,.a (.alloc [zz,zz,.aq]),[]⟩,
 zS 3 [.t 5,.t 13]])
def oy:AC:=(.block 1 (.ops [zL 14 4,
 zF 15 5 0,
 zL 16 15,
 zP 17 (.bin .mul) [zI 2,.t 16],
 zR 18 (.bin .add) 14 17,
 zS 1 [.t 4,.t 18]]))
def Fy:az:=⟨20,[.cell 4 1 false],
 (.seq (.ops [zB 2 0,
 zB 3 1,
 ⟨some 4,none,.a (.alloc [zz]),[]⟩])
 (.seq (.seq (.ops [zF 6 3 5,
 zL 7 6,
 zP 8 (.bin .eql) [.t 7,zI 0]])
 (.cond (.t 8)
 (.seq (.ops [zS 1 [.t 4,zI 0]])
 .ret)
 .skip))
 (.seq (.seq (.ops [zO 9 5 2,
 zF 10 3 5,
 zL 11 10,
 jk 12 155 9 11])
 (.block 0 (.rangeFunc (.t 12) [13] ox oy)))
 (.seq (.ops [zL 19 4,
 zS 1 [.t 4,.t 19]])
 .ret))))⟩
def KY:az:=⟨6,[.tmp 2],
 (.seq (.ops [zB 1 0,
 zK 2 (.bool false)])
 (.seq (.ops [zO 3 8 1,
 uS 4 137 3,
 zQ 5 .not 4,
 zM 2 5])
 .ret))⟩
def KZ:az:=⟨25,[.tmp 2],
 (.seq (.ops [zB 1 0,
 zK 2 (.bool false)])
 (.seq (.ops [zF 3 1 2,
 zL 4 3,
 zP 5 (.bin .leq) [zI 1,.t 4],
 zM 6 5,
 iF 7 1 2 6 true,
 gz 8 7 6 true,
 iF 9 1 1 6 true,
 gz 10 9 6 true,
 cQ 11 (.bin .leq) [.t 8,.t 10] 6 true,
 zP 12 .pick [.t 6,.t 11,.c (.bool false)],
 zM 13 12,
 iF 14 1 1 13 true,
 gz 15 14 13 true,
 iF 16 1 0 13 true,
 gz 17 16 13 true,
 cQ 18 (.bin .leq) [.t 15,.t 17] 13 true,
 zP 19 .pick [.t 13,.t 18,.c (.bool false)],
 zM 20 19,
 iF 21 1 0 20 true,
 gz 22 21 20 true,
 cQ 23 (.bin .leq) [.t 22,zI 64] 20 true,
 zP 24 .pick [.t 20,.t 23,.c (.bool false)],
 zM 2 24])
 .ret))⟩
def vl:AC:=(.seq (.ops [zR 8 (.bin .lss) 7 6])
 (.seq (.cond (.t 8)
 .skip
 (.exit 0))
 (.seq (.block 1 (.seq (.ops [zR 9 (.aH 1) 5 7,
 zL 10 9,
 zM 4 10])
 (.seq (.ops [zM 11 4,
 zP 12 (.bin .lss) [.t 11,zI 0],
 zM 13 12,
 ff 14 4 13 false,
 cQ 15 (.bin .gtr) [.t 14,zI 1099511627776] 13 false,
 zP 16 .pick [.t 13,.c (.bool true),.t 15]])
 (.cond (.t 16)
 (.seq (.ops [zK 2 (.bool false)])
 .ret)
 .skip))))
 (.ops [zP 17 (.bin .add) [.t 7,zI 1],
 zM 7 17]))))
def K0:az:=⟨18,[.tmp 2],
 (.seq (.ops [zK 2 (.bool false)])
 (.seq (.seq (.ops [zM 5 0,
 zQ 6 .cA 5,
 zV 7 0])
 (.block 0 (.loop vl)))
 (.seq (.ops [zK 2 (.bool true)])
 .ret)))⟩
def K1:az:=⟨9,[.tmp 4],
 (.seq (.ops [zK 4 (.bool false)])
 (.seq (.ops [zM 5 0,
 zM 6 1,
 jk 7 156 5 6,
 zP 8 (.bin .geq) [.t 7,zI 0],
 zM 4 8])
 .ret))⟩
def vk:AC:=(.seq (.ops [zR 9 (.bin .lss) 8 7])
 (.seq (.cond (.t 9)
 .skip
 (.exit 0))
 (.seq (.block 1 (.seq (.ops [zR 10 (.aH 1) 6 8,
 zL 11 10,
 zM 5 11])
 (.ops [zM 12 0,
 zM 13 5,
 ⟨some 14,none,.call,[.t 12,.t 13]⟩])))
 (.ops [zP 15 (.bin .add) [.t 8,zI 1],
 zM 8 15]))))
def K2:az:=⟨16,[],
 (.seq (.ops [zM 6 1,
 zQ 7 .cA 6,
 zV 8 0])
 (.block 0 (.loop vk)))⟩
def K3:az:=⟨37,[],
 (.seq (.ops [zM 6 0,
 zN 7 6,
 zF 8 7 1,
 zL 9 8,
 zP 10 (.bin .eql) [.t 9,zI 0]])
 (.cond (.t 10)
 (.seq (.ops [zM 12 0,
 zN 13 12,
 zF 14 13 0,
 zL 15 14,
 zM 16 1,
 jk 17 133 15 16,
 zM 11 17,
 zQ 18 (.ext 0) 11,
 zQ 19 (.ext 1) 11,
 zM 4 18,
 zM 5 19])
 (.cm [zM 21 0,
 zM 22 0,
 zM 23 0,
 zN 24 23,
 zF 25 24 0,
 zL 26 25,
 zM 27 1,
 zM 28 4,
 zR 29 (.bin .quo) 27 28,
 jk 30 157 26 29,
 zM 20 30,
 zQ 31 (.ext 0) 20,
 zQ 32 (.ext 1) 20,
 zN 33 21,
 zF 34 33 0,
 zS 1 [.t 34,.t 31],
 zN 35 22,
 zF 36 35 1,
 zS 1 [.t 36,.t 32]] [[],[],[],[],[],[],[],[],[],[],[],[],[],[],[],[],[],[],[]]))
 .skip))⟩
def K4:az:=⟨16,[.tmp 4,.tmp 5],
 (.seq (.ops [zV 4 0,
 zV 5 0])
 (.seq (.seq (.ops [zM 6 1,
 zP 7 (.bin .eql) [.t 6,zI 0],
 zM 8 7,
 ff 9 0 8 true,
 cQ 10 (.bin .gtr) [.t 9,zI 1099511627776] 8 true,
 zP 11 .pick [.t 8,.t 10,.c (.bool false)]])
 (.cond (.t 11)
 (.ops [zV 1 10])
 .skip))
 (.seq (.seq (.ops [zM 12 1,
 zP 13 (.bin .neq) [.t 12,zI 0]])
 (.cond (.t 13)
 (.seq (.ops [zM 14 1,
 zV 4 0,
 zM 5 14])
 .ret)
 .skip))
 (.seq (.ops [zM 15 0,
 zM 4 15,
 zV 5 0])
 .ret))))⟩
def K5:az:=⟨9,[.tmp 4],
 (.seq (.ops [zK 4 (.bool false)])
 (.seq (.ops [zM 5 0,
 zM 6 1,
 jk 7 158 5 6,
 zP 8 (.bin .geq) [.t 7,zI 0],
 zM 4 8])
 .ret))⟩
def K6:az:=⟨9,[.tmp 2],
 (.seq (.ops [zK 2 (.bool false)])
 (.seq (.ops [zM 3 0,
 zP 4 (.bin .lss) [.t 3,zI 0],
 zM 5 4,
 ff 6 0 5 false,
 cQ 7 (.bin .gtr) [.t 6,zI 32768] 5 false,
 zP 8 .pick [.t 5,.c (.bool true),.t 7],
 zM 2 8])
 .ret))⟩
def fU:AC:=(.seq (.ops [zR 9 (.bin .lss) 8 7])
 (.seq (.cond (.t 9)
 .skip
 (.exit 0))
 (.seq (.block 1 (.seq (.ops [zM 10 8,
 zM 5 10])
 (.seq (.ops [zM 11 1,
 zM 12 0,
 zM 13 5,
 zR 14 (.aH 8) 12 13,
 zO 15 8 14,
 ⟨some 16,none,.call,[.t 11,.t 15]⟩])
 (.cond (.t 16)
 (.seq (.ops [zM 17 5,
 zM 4 17])
 .ret)
 .skip))))
 (.ops [zP 18 (.bin .add) [.t 8,zI 1],
 zM 8 18]))))
def G5:az:=⟨19,[.tmp 4],
 (.seq (.ops [zV 4 0])
 (.seq (.seq (.ops [zM 6 0,
 zQ 7 .cA 6,
 zV 8 0])
 (.block 0 (.loop fU)))
 (.seq (.ops [zV 4 (-1)])
 .ret)))⟩
def K7:az:=⟨27,[.tmp 6,.tmp 7],
 (.seq (.ops [zB 5 2,
 zV 6 0,
 zV 7 0])
 (.seq (.seq (.ops [zM 9 0,
 zM 10 1,
 jk 11 110 9 10,
 zM 8 11])
 (.seq (.ops [zM 12 8,
 zP 13 (.bin .neq) [.t 12,zI 0],
 zM 14 13,
 gz 15 5 14 false,
 cQ 16 (.bin .lss) [.t 15,zI 0] 14 false,
 zP 17 .pick [.t 14,.c (.bool true),.t 16],
 zM 18 17,
 gz 19 5 18 false,
 cQ 20 (.bin .gtr) [.t 19,zI 1048576] 18 false,
 zP 21 .pick [.t 18,.c (.bool true),.t 20]])
 (.cond (.t 21)
 (.seq (.ops [zV 6 0,
 zV 7 2])
 .ret)
 .skip)))
 (.seq (.ops [zM 22 0,
 zM 23 1,
 zQ 24 (.gL (.func 159) 0) 5,
 QF 25 114 22 23 24,
 uS 26 113 25,
 zM 6 26,
 zV 7 0])
 .ret)))⟩
def K8:az:=⟨29,[.tmp 6,.tmp 7],
 (.seq (.ops [zV 6 0,
 zV 7 0])
 (.seq (.ops [zM 11 0,
 zM 12 1,
 jk 13 160 11 12,
 zM 10 13,
 zQ 14 (.ext 0) 10,
 zQ 15 (.ext 1) 10,
 ⟨some 8,none,.a (.alloc [zz,zz]),[]⟩,
 zS 2 [.t 8,.t 14],
 zM 9 15])
 (.seq (.seq (.ops [zM 16 9,
 zQ 17 .not 16,
 zM 18 17,
 ff 19 2 18 false,
 cQ 20 (.bin .lss) [.t 19,zI 0] 18 false,
 zP 21 .pick [.t 18,.c (.bool true),.t 20],
 zM 22 21,
 ff 23 2 22 false,
 cQ 24 (.bin .gtr) [.t 23,zI 1048576] 22 false,
 zP 25 .pick [.t 22,.c (.bool true),.t 24]])
 (.cond (.t 25)
 (.seq (.ops [zV 6 0,
 zV 7 2])
 .ret)
 .skip))
 (.seq (.ops [zO 26 2 8,
 zM 27 2,
 jk 28 161 26 27,
 zM 6 28,
 zV 7 0])
 .ret))))⟩
def zq:AC:=(.seq (.ops [zR 29 (.bin .lss) 28 27])
 (.seq (.cond (.t 29)
 .skip
 (.exit 1))
 (.seq (.block 2 (.seq (.ops [zR 30 (.aH 8) 26 28,
 zO 31 8 30,
 ⟨some 10,none,.a (.alloc [zz,zz,zz,zz,zz,zz,zz,zz]),[]⟩,
 zS 8 [.t 10,.t 31]])
 (.seq (.ops [zF 32 10 1,
 zL 33 32,
 zM 34 2,
 zR 35 (.bin .gtr) 33 34])
 (.cond (.t 35)
 (.ops [zM 36 6,
 zO 37 5 8,
 zO 38 8 10,
 jk 39 162 37 38,
 zR 40 .mx 36 39,
 zM 6 40])
 .skip))))
 (.ops [zP 41 (.bin .add) [.t 28,zI 1],
 zM 28 41]))))
def K9:az:=⟨43,[.tmp 6,.tmp 7],
 (.seq (.ops [zV 6 0,
 zV 7 0])
 (.seq (.ops [zM 12 0,
 zM 13 1,
 jk 14 134 12 13,
 zM 11 14,
 zQ 15 (.ext 0) 11,
 zQ 16 (.ext 1) 11,
 ⟨some 8,none,.a (.alloc [zz,zz,.aq,.aq,zz]),[]⟩,
 zS 5 [.t 8,.t 15],
 zM 7 16])
 (.seq (.block 0 (.seq (.ops [zM 18 7,
 zP 19 (.bin .neq) [.t 18,zI 0],
 zM 17 19])
 (.cond (.t 17)
 (.seq (.ops [zM 20 7,
 zV 6 0,
 zM 7 20])
 .ret)
 (.seq (.ops [zM 22 2,
 zP 23 (.bin .lss) [.t 22,zI 0],
 zM 21 23])
 (.cond (.t 21)
 (.seq (.ops [zV 6 0,
 zV 7 2])
 .ret)
 .skip)))))
 (.seq (.seq (.ops [zF 24 8 0,
 zF 25 24 2,
 zL 26 25,
 zQ 27 .cA 26,
 zV 28 0])
 (.block 1 (.loop zq)))
 (.seq (.ops [zM 42 6,
 zM 6 42,
 zV 7 0])
 .ret)))))⟩
def uJ:AC:=(.seq (.ops [zR 12 (.bin .lss) 11 10])
 (.seq (.cond (.t 12)
 .skip
 (.exit 0))
 (.seq (.block 1 (.seq (.ops [zR 13 (.aH 3) 9 11,
 zO 14 3 13,
 ⟨some 4,none,.a (.alloc [zz,zz,.aq]),[]⟩,
 zS 3 [.t 4,.t 14]])
 (.seq (.seq (.ops [zF 15 4 0,
 zL 16 15,
 zP 17 (.bin .lss) [.t 16,zI 1],
 zM 18 17,
 iF 19 4 0 18 false,
 gz 20 19 18 false,
 cQ 21 (.bin .gtr) [.t 20,zI 64] 18 false,
 zP 22 .pick [.t 18,.c (.bool true),.t 21],
 zM 23 22,
 iF 24 4 1 23 false,
 gz 25 24 23 false,
 cQ 26 (.bin .lss) [.t 25,zI 1] 23 false,
 zP 27 .pick [.t 23,.c (.bool true),.t 26],
 zM 28 27,
 iF 29 4 1 28 false,
 gz 30 29 28 false,
 iF 31 4 0 28 false,
 gz 32 31 28 false,
 cQ 33 (.bin .gtr) [.t 30,.t 32] 28 false,
 zP 34 .pick [.t 28,.c (.bool true),.t 33]])
 (.cond (.t 34)
 (.seq (.ops [zV 2 2])
 .ret)
 .skip))
 (.seq (.seq (.cm [zF 35 4 2,
 zL 36 35,
 zF 37 4 2,
 zL 38 37,
 zQ 39 .cA 38,
 ⟨some 40,none,.a (.dj [zz] 1 8),[.t 39,.t 39]⟩,
 jk 41 110 36 40,
 zM 5 41] [[],[],[],[],[],[],[],[]])
 (.seq (.ops [zM 42 5,
 zP 43 (.bin .neq) [.t 42,zI 0]])
 (.cond (.t 43)
 (.seq (.ops [zM 44 5,
 zM 2 44])
 .ret)
 .skip)))
 (.seq (.ops [zF 45 4 2,
 zL 46 45,
 zQ 47 (.gL (.func 164) 0) 4,
 jk 48 111 46 47])
 (.cond (.t 48)
 (.seq (.ops [zV 2 2])
 .ret)
 .skip))))))
 (.ops [zP 49 (.bin .add) [.t 11,zI 1],
 zM 11 49]))))
def La:az:=⟨50,[.tmp 2],
 (.seq (.ops [zV 2 0])
 (.seq (.seq (.ops [zM 6 0,
 zQ 7 .cA 6,
 zP 8 (.bin .gtr) [.t 7,zI 4]])
 (.cond (.t 8)
 (.seq (.ops [zV 2 2])
 .ret)
 .skip))
 (.seq (.seq (.ops [zM 9 0,
 zQ 10 .cA 9,
 zV 11 0])
 (.block 0 (.loop uJ)))
 (.seq (.ops [zV 2 0])
 .ret))))⟩
def Lb:az:=⟨6,[.tmp 4],
 (.seq (.ops [zB 2 0,
 zB 3 1,
 zK 4 .iP])
 (.seq (.ops [zR 5 (.gL (.func 166) 0) 2 3,
 zM 4 5])
 .ret))⟩
def mE:AC:=(.seq (.ops [zR 9 (.bin .lss) 8 7])
 (.seq (.cond (.t 9)
 .skip
 (.exit 0))
 (.seq (.block 1 (.seq (.ops [zM 10 8,
 zM 5 10])
 (.seq (.ops [zM 11 1,
 zM 12 0,
 zM 13 5,
 zR 14 (.aH 1) 12 13,
 zL 15 14,
 zR 16 (.bin .eql) 11 15])
 (.cond (.t 16)
 (.seq (.ops [zM 17 5,
 zM 4 17])
 .ret)
 .skip))))
 (.ops [zP 18 (.bin .add) [.t 8,zI 1],
 zM 8 18]))))
def G6:az:=⟨19,[.tmp 4],
 (.seq (.ops [zV 4 0])
 (.seq (.seq (.ops [zM 6 0,
 zQ 7 .cA 6,
 zV 8 0])
 (.block 0 (.loop mE)))
 (.seq (.ops [zV 4 (-1)])
 .ret)))⟩
def Lc:az:=⟨29,[.tmp 4,.tmp 5],
 (.seq (.ops [zV 4 0,
 zV 5 0])
 (.seq (.seq (.ops [zM 8 0,
 zM 9 1,
 ⟨some 10,none,.a (.cG [zz] 2 1 [0,1]),[.t 8,.t 9]⟩,
 uS 11 138 10,
 zQ 12 .not 11])
 (.cond (.t 12)
 (.seq (.ops [zV 4 0,
 zV 5 2])
 .ret)
 .skip))
 (.seq (.ops [zM 14 0,
 zQ 15 (.conv .u64) 14,
 zM 16 1,
 zQ 17 (.conv .u64) 16,
 jk 18 168 15 17,
 zM 13 18,
 zQ 19 (.ext 0) 13,
 zQ 20 (.ext 1) 13,
 zM 6 19,
 zM 7 20])
 (.seq (.seq (.ops [zM 21 6,
 zP 22 (.bin .gtr) [.t 21,.c (.int .u64 0)],
 zM 23 22,
 ff 24 7 23 false,
 cQ 25 (.bin .gtr) [.t 24,.c (.int .u64 1099511627776)] 23 false,
 zP 26 .pick [.t 23,.c (.bool true),.t 25]])
 (.cond (.t 26)
 (.seq (.ops [zV 4 0,
 zV 5 10])
 .ret)
 .skip))
 (.seq (.ops [zM 27 7,
 zQ 28 (.conv .i64) 27,
 zM 4 28,
 zV 5 0])
 .ret)))))⟩
def j5:AC:=(.seq (.ops [zR 9 (.bin .lss) 8 7])
 (.seq (.cond (.t 9)
 .skip
 (.exit 0))
 (.seq (.block 1 (.seq (.ops [zM 10 8,
 zM 5 10])
 (.seq (.ops [zM 11 1,
 zM 12 0,
 zM 13 5,
 zR 14 (.aH 1) 12 13,
 zL 15 14,
 ⟨some 16,none,.call,[.t 11,.t 15]⟩])
 (.cond (.t 16)
 (.seq (.ops [zM 17 5,
 zM 4 17])
 .ret)
 .skip))))
 (.ops [zP 18 (.bin .add) [.t 8,zI 1],
 zM 8 18]))))
def G7:az:=⟨19,[.tmp 4],
 (.seq (.ops [zV 4 0])
 (.seq (.seq (.ops [zM 6 0,
 zQ 7 .cA 6,
 zV 8 0])
 (.block 0 (.loop j5)))
 (.seq (.ops [zV 4 (-1)])
 .ret)))⟩
def Ld:az:=⟨16,[.tmp 3],
 (.seq (.ops [zB 2 0,
 zV 3 0])
 (.seq (.seq (.ops [zL 4 1,
 zF 5 2 1,
 zL 6 5,
 zR 7 (.bin .lss) 4 6])
 (.cond (.t 7)
 (.seq (.ops [zV 3 0])
 .ret)
 .skip))
 (.seq (.ops [zL 8 1,
 zF 9 2 1,
 zL 10 9,
 zR 11 (.bin .sub) 8 10,
 zF 12 2 0,
 zL 13 12,
 zR 14 (.bin .quo) 11 13,
 zP 15 (.bin .add) [zI 1,.t 14],
 zM 3 15])
 .ret)))⟩
def Le:az:=⟨27,[.cell 4 2 true,.tmp 5],
 (.seq (.ops [⟨some 4,none,.a (.alloc [zz,zz]),[]⟩,
 zK 5 (.bool false)])
 (.seq (.ops [zM 7 0,
 zM 8 1,
 zR 9 (.build [zz,zz] [(0,1),(1,1)]) 7 8,
 zQ 10 (.build [zz,zz] [(0,2)]) 9,
 ⟨some 6,none,.a (.alloc [zz,zz]),[]⟩,
 zS 2 [.t 6,.t 10]])
 (.seq (.ops [zO 11 2 6,
 zM 12 0,
 zP 13 (.bin .leq) [zI 1,.t 12],
 zM 14 13,
 ff 15 0 14 true,
 cQ 16 (.bin .leq) [.t 15,zI 64] 14 true,
 zP 17 .pick [.t 14,.t 16,.c (.bool false)],
 zM 18 17,
 ff 19 1 18 true,
 cQ 20 (.bin .leq) [zI 1,.t 19] 18 true,
 zP 21 .pick [.t 18,.t 20,.c (.bool false)],
 zM 22 21,
 ff 23 1 22 true,
 ff 24 0 22 true,
 cQ 25 (.bin .leq) [.t 23,.t 24] 22 true,
 zP 26 .pick [.t 22,.t 25,.c (.bool false)],
 zS 2 [.t 4,.t 11],
 zM 5 26])
 .ret)))⟩
def Lf:az:=⟨40,[.tmp 4],
 (.seq (.ops [zB 2 0,
 zV 4 0])
 (.seq (.ops [zF 7 2 0,
 zO 8 2 7,
 uS 9 169 8,
 zM 5 9])
 (.seq (.seq (.ops [zM 10 1,
 zM 11 5,
 zR 12 (.bin .lss) 10 11])
 (.cond (.t 12)
 (.seq (.ops [zV 4 0])
 .ret)
 .skip))
 (.seq (.ops [zM 13 1,
 zM 14 5,
 zR 15 (.bin .sub) 13 14,
 zF 16 2 0,
 zF 17 16 0,
 zL 18 17,
 jk 19 170 15 18,
 zM 6 19])
 (.seq (.cm [zM 20 6,
 zF 21 2 0,
 zF 22 21 1,
 zL 23 22,
 zR 24 (.bin .mul) 20 23,
 zM 25 1,
 zM 26 5,
 zR 27 (.bin .sub) 25 26,
 zM 28 6,
 zF 29 2 0,
 zF 30 29 0,
 zL 31 30,
 zR 32 (.bin .mul) 28 31,
 zR 33 (.bin .sub) 27 32,
 zF 34 2 0,
 zO 35 2 34,
 uS 36 169 35,
 zR 37 (.bin .sub) 33 36,
 zP 38 .mx [zI 0,.t 37],
 zR 39 (.bin .add) 24 38,
 zM 4 39] [[],[],[],[0,17],[],[],[],[],[],[],[],[0,17],[],[],[],[],[],[],[],[],[]])
 .ret)))))⟩
def Lg:az:=⟨21,[.tmp 4],
 (.seq (.ops [zB 2 0,
 zB 3 1,
 zV 4 0])
 (.seq (.seq (.ops [zF 5 3 5,
 zL 6 5,
 zP 7 (.bin .eql) [.t 6,zI 0]])
 (.cond (.t 7)
 (.seq (.ops [zF 8 3 4,
 zL 9 8,
 zM 4 9])
 .ret)
 .skip))
 (.seq (.cm [zF 10 3 4,
 zL 11 10,
 zO 12 5 2,
 zO 13 8 3,
 jk 14 135 12 13,
 zF 15 3 6,
 zL 16 15,
 zP 17 (.bin .mul) [zI 2,.t 16],
 zR 18 (.bin .add) 14 17,
 zP 19 (.bin .sub) [.t 18,zI 1],
 zR 20 .mx 11 19,
 zM 4 20] [[],[0,5],[],[],[],[],[0,5],[],[],[],[],[]])
 .ret)))⟩
def Lh:az:=⟨9,[.tmp 3],
 (.seq (.ops [zB 2 0,
 zK 3 (.bool false)])
 (.seq (.ops [zO 4 8 2,
 zF 5 1 1,
 zL 6 5,
 jk 7 165 4 6,
 zQ 8 .not 7,
 zM 3 8])
 .ret))⟩
def Li:az:=⟨56,[.tmp 4],
 (.seq (.ops [zB 2 0,
 zK 4 (.bool false)])
 (.seq (.block 0 (.seq (.seq (.ops [zF 6 2 4,
 zL 7 6,
 zP 8 (.bin .lss) [.t 7,zI 0],
 zM 5 8])
 (.cond (.t 5)
 .skip
 (.seq (.ops [zF 9 2 4,
 zL 10 9,
 zF 11 2 2,
 zL 12 11,
 zR 13 (.bin .gtr) 10 12,
 zM 5 13])
 (.cond (.t 5)
 .skip
 (.seq (.ops [zF 14 2 5,
 zL 15 14,
 zP 16 (.bin .lss) [.t 15,zI 0],
 zM 5 16])
 (.cond (.t 5)
 .skip
 (.ops [zF 17 2 5,
 zL 18 17,
 zP 19 (.bin .gtr) [.t 18,zI 4],
 zM 5 19])))))))
 (.cond (.t 5)
 (.seq (.ops [zK 4 (.bool false)])
 .ret)
 (.seq (.ops [zF 21 2 5,
 zL 22 21,
 zP 23 (.bin .eql) [.t 22,zI 0],
 zM 20 23])
 (.cond (.t 20)
 (.seq (.ops [zF 24 2 6,
 zL 25 24,
 zP 26 (.bin .eql) [.t 25,zI 0],
 zM 27 26,
 iF 28 2 7 27 true,
 gz 29 28 27 true,
 cQ 30 (.bin .eql) [.t 29,zI 0] 27 true,
 zP 31 .pick [.t 27,.t 30,.c (.bool false)],
 zM 4 31])
 .ret)
 .skip)))))
 (.seq (.cm [zF 32 2 6,
 zL 33 32,
 zP 34 (.bin .leq) [zI 1,.t 33],
 zM 35 34,
 iF 36 2 6 35 true,
 gz 37 36 35 true,
 ff 38 1 35 true,
 cQ 39 (.bin .leq) [.t 37,.t 38] 35 true,
 zP 40 .pick [.t 35,.t 39,.c (.bool false)],
 zM 41 40,
 iF 42 2 7 41 true,
 gz 43 42 41 true,
 cQ 44 (.bin .leq) [zI 1,.t 43] 41 true,
 zP 45 .pick [.t 41,.t 44,.c (.bool false)],
 zM 46 45,
 iF 47 2 7 46 true,
 gz 48 47 46 true,
 iF 49 2 2 46 true,
 gz 50 49 46 true,
 iF 51 2 6 46 true,
 gz 52 51 46 true,
 cQ 53 (.bin .quo) [.t 50,.t 52] 46 true,
 cQ 54 (.bin .leq) [.t 48,.t 53] 46 true,
 zP 55 .pick [.t 46,.t 54,.c (.bool false)],
 zM 4 55] [[],[],[],[],[],[],[],[],[],[],[],[],[],[],[],[],[],[],[],[],[],[],[],[],[]])
 .ret)))⟩
def mC:AC:=(.seq (.ops [zR 11 (.bin .lss) 10 9])
 (.seq (.cond (.t 11)
 .skip
 (.exit 0))
 (.seq (.block 1 (.seq (.ops [zM 12 10,
 zR 13 (.aH 3) 8 10,
 zO 14 3 13,
 ⟨some 5,none,.a (.alloc [zz,zz,.aq]),[]⟩,
 zM 4 12,
 zS 3 [.t 5,.t 14]])
 (.seq (.ops [zF 15 5 2,
 zL 16 15,
 zQ 17 (.gL (.func 167) 0) 2,
 jk 18 111 16 17,
 zM 6 18])
 (.seq (.ops [zM 19 4,
 zF 20 1 4,
 zL 21 20,
 zR 22 (.bin .neq) 19 21,
 zM 23 22,
 ff 24 6 23 true,
 zP 25 .pick [.t 23,.t 24,.c (.bool false)],
 zM 26 25,
 ff 27 0 26 true,
 ⟨some 28,some (26,true),.r (.bI 3),[.t 5]⟩,
 ⟨some 29,some (26,true),.call,[.t 27,.t 28]⟩,
 cQ 30 .not [.t 29] 26 true,
 zP 31 .pick [.t 26,.t 30,.c (.bool false)]])
 (.cond (.t 31)
 .ret
 .skip)))))
 (.ops [zP 32 (.bin .add) [.t 10,zI 1],
 zM 10 32]))))
def Lj:az:=⟨33,[],
 (.seq (.ops [zF 7 1 3,
 zL 8 7,
 zQ 9 .cA 8,
 zV 10 0])
 (.block 0 (.loop mC)))⟩
def Lk:az:=⟨8,[.tmp 3],
 (.seq (.ops [zB 2 0,
 zK 3 (.bool false)])
 (.seq (.ops [zF 4 2 5,
 zL 5 4,
 zL 6 1,
 zR 7 (.bin .eql) 5 6,
 zM 3 7])
 .ret))⟩
def Ll:az:=⟨51,[.tmp 4,.tmp 5],
 (.seq (.ops [zP 4 .Jk [.c (.int .u64 0)],
 zP 5 .Jk [.c (.int .u64 0)]])
 (.seq (.ops [zM 14 0,
 zP 15 (.bin .and) [.t 14,.c (.int .u64 4294967295)],
 zM 6 15])
 (.seq (.ops [zM 16 0,
 zP 17 (.bin .shr) [.t 16,.c (.int .u64 32)],
 zM 7 17])
 (.seq (.ops [zM 18 1,
 zP 19 (.bin .and) [.t 18,.c (.int .u64 4294967295)],
 zM 8 19])
 (.seq (.ops [zM 20 1,
 zP 21 (.bin .shr) [.t 20,.c (.int .u64 32)],
 zM 9 21])
 (.seq (.ops [zM 22 6,
 zM 23 8,
 zR 24 (.bin .mul) 22 23,
 zM 10 24])
 (.seq (.ops [zM 25 7,
 zM 26 8,
 zR 27 (.bin .mul) 25 26,
 zM 28 10,
 zP 29 (.bin .shr) [.t 28,.c (.int .u64 32)],
 zR 30 (.bin .add) 27 29,
 zM 11 30])
 (.seq (.ops [zM 31 11,
 zP 32 (.bin .and) [.t 31,.c (.int .u64 4294967295)],
 zM 12 32])
 (.seq (.ops [zM 33 11,
 zP 34 (.bin .shr) [.t 33,.c (.int .u64 32)],
 zM 13 34])
 (.seq (.ops [zM 35 12,
 zM 36 6,
 zM 37 9,
 zR 38 (.bin .mul) 36 37,
 zR 39 (.bin .add) 35 38,
 zM 12 39])
 (.seq (.ops [zM 40 7,
 zM 41 9,
 zR 42 (.bin .mul) 40 41,
 zM 43 13,
 zR 44 (.bin .add) 42 43,
 zM 45 12,
 zP 46 (.bin .shr) [.t 45,.c (.int .u64 32)],
 zR 47 (.bin .add) 44 46,
 zM 4 47])
 (.seq (.ops [zM 48 0,
 zM 49 1,
 zR 50 (.bin .mul) 48 49,
 zM 5 50])
 .ret))))))))))))⟩
def Lm:az:=⟨8,[.tmp 2],
 (.seq (.ops [zB 1 0,
 zV 2 0])
 (.seq (.ops [zF 3 1 0,
 zL 4 3,
 zF 5 1 1,
 zL 6 5,
 zR 7 (.bin .sub) 4 6,
 zM 2 7])
 .ret))⟩
def Ln:az:=⟨14,[.tmp 4],
 (.seq (.ops [zV 4 0])
 (.seq (.ops [zM 8 0,
 zM 9 1,
 jk 10 171 8 9,
 zM 7 10,
 zQ 11 (.ext 0) 7,
 zQ 12 (.ext 1) 7,
 zM 5 11,
 zM 6 12])
 (.seq (.ops [zM 13 5,
 zM 4 13])
 .ret)))⟩
def Lo:az:=⟨18,[.tmp 4,.tmp 5],
 (.seq (.ops [zV 4 0,
 zV 5 0])
 (.seq (.seq (.ops [zM 6 0,
 zM 7 1,
 ⟨some 8,none,.a (.cG [zz] 2 1 [0,1]),[.t 6,.t 7]⟩,
 uS 9 138 8,
 zQ 10 .not 9,
 zM 11 10,
 ff 12 1 11 false,
 cQ 13 (.bin .eql) [.t 12,zI 0] 11 false,
 zP 14 .pick [.t 11,.c (.bool true),.t 13]])
 (.cond (.t 14)
 (.seq (.ops [zV 4 0,
 zV 5 2])
 .ret)
 .skip))
 (.seq (.ops [zM 15 0,
 zM 16 1,
 zR 17 (.bin .quo) 15 16,
 zM 4 17,
 zV 5 0])
 .ret)))⟩
def T:Tr az:=(.node (.node (.node (.node (.node (.node .nil none (.node (.node .nil (some Ld) .nil) (some Ua) .nil)) (some S1) (.node (.node (.node .nil (some K5) .nil) none .nil) none (.node .nil (some KM) .nil))) none (.node (.node (.node (.node .nil (some Fy) .nil) none .nil) none (.node (.node .nil (some Lk) .nil) none .nil)) (some T4) (.node (.node .nil (some Tf) .nil) (some S9) (.node .nil (some G4) .nil)))) (some C3) (.node (.node .nil (some S4) (.node (.node (.node .nil (some K8) .nil) (some Qe) .nil) none (.node .nil (some KQ) .nil))) none (.node (.node (.node (.node .nil (some K1) .nil) none .nil) none (.node (.node .nil (some Lo) .nil) (some Fw) .nil)) none (.node (.node (.node .nil (some Lb) .nil) (some Tg) .nil) none .nil)))) none (.node (.node (.node (.node .nil none (.node (.node .nil (some Lf) .nil) (some Tl) .nil)) (some S3) (.node (.node (.node .nil (some G5) .nil) (some Qd) .nil) none (.node .nil (some KO) .nil))) none (.node (.node (.node (.node .nil (some KZ) .nil) none .nil) none (.node (.node .nil (some Lm) .nil) none .nil)) none (.node (.node .nil (some T8) .nil) (some Ta) (.node .nil (some KV) .nil)))) (some C5) (.node (.node (.node (.node (.node .nil (some KX) .nil) none .nil) none (.node (.node .nil (some Li) .nil) none .nil)) (some T3) (.node (.node .nil (some Td) .nil) (some S7) (.node .nil (some KS) .nil))) none (.node (.node (.node (.node .nil (some K3) .nil) none .nil) none (.node .nil (some KK) .nil)) none (.node (.node (.node .nil (some Lc) .nil) (some Ti) .nil) none .nil))))) none (.node (.node (.node (.node (.node .nil none (.node (.node .nil (some Le) .nil) (some Ub) .nil)) (some Qc) (.node (.node (.node .nil (some K6) .nil) none .nil) none (.node .nil (some KN) .nil))) none (.node (.node (.node (.node .nil (some KY) .nil) none .nil) none (.node (.node .nil (some Ll) .nil) none .nil)) (some T5) (.node (.node .nil (some T7) .nil) (some T6) (.node .nil (some KU) .nil)))) (some C4) (.node (.node (.node .nil none (.node (.node .nil (some Lh) .nil) none .nil)) (some S5) (.node (.node (.node .nil (some K9) .nil) (some Tc) .nil) none (.node .nil (some KR) .nil))) none (.node (.node (.node (.node .nil (some K2) .nil) none .nil) none (.node .nil (some KJ) .nil)) none (.node (.node (.node .nil (some G6) .nil) (some Th) .nil) none .nil)))) none (.node (.node (.node (.node .nil none (.node (.node .nil (some Lg) .nil) none .nil)) (some T0) (.node (.node (.node .nil (some K7) .nil) (some Tb) .nil) none (.node .nil (some KP) .nil))) none (.node (.node (.node (.node .nil (some K0) .nil) none .nil) none (.node (.node .nil (some Ln) .nil) (some KI) .nil)) none (.node (.node (.node .nil (some La) .nil) (some T9) .nil) none (.node .nil (some KW) .nil)))) none (.node (.node (.node (.node (.node .nil (some Fx) .nil) none .nil) none (.node (.node .nil (some Lj) .nil) none .nil)) (some S6) (.node (.node .nil (some Te) .nil) (some S8) (.node .nil (some KT) .nil))) (some S0) (.node (.node (.node (.node .nil (some K4) .nil) none .nil) none (.node .nil (some KL) .nil)) none (.node (.node (.node .nil (some G7) .nil) (some Tj) .nil) none .nil))))))
def fs(f:Nat):Option az:=Tr.get T f
def ms(t:Nat)(n:String):Option Nat:=none
end Ir
end Go.Proofs.Ytecdcefacdodgaa
