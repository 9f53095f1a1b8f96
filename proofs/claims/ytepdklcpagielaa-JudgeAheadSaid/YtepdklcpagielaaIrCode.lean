/-
  What the program's functions are in Ads, printed by a program (the rest).
-/
import Derived.Test.YtepdklcpagielaaIrCodeA
set_option linter.unusedVariables false
set_option maxRecDepth 100000
namespace Go.Proofs.Ytepdklcpagielaa
open Go Ads
namespace Ir
def Oe:aB:=⟨6,[.tmp 4],
 (.seq (.ops [zB 2 0,
 zB 3 1,
 zK 4 .kH])
 (.seq (.ops [zR 5 (.gJ (.func 148) 0) 2 3,
 zM 4 5])
 .ret))⟩
def oI:AC:=(.seq (.ops [zR 9 (.bin .lss) 8 7])
 (.seq (.cond (.t 9)
 .skip
 (.exit 0))
 (.seq (.block 1 (.seq (.ops [zM 10 8,
 zM 5 10])
 (.seq (.ops [zM 11 1,
 zM 12 0,
 zM 13 5,
 zR 14 (.aE 1) 12 13,
 zL 15 14,
 zR 16 (.bin .eql) 11 15])
 (.cond (.t 16)
 (.seq (.ops [zM 17 5,
 zM 4 17])
 .ret)
 .skip))))
 (.ops [zP 18 (.bin .add) [.t 8,zI 1],
 zM 8 18]))))
def J8:aB:=⟨19,[.tmp 4],
 (.seq (.ops [zV 4 0])
 (.seq (.seq (.ops [zM 6 0,
 zQ 7 .bO 6,
 zV 8 0])
 (.block 0 (.loop oI)))
 (.seq (.ops [zV 4 (-1)])
 .ret)))⟩
def Of:aB:=⟨29,[.tmp 4,.tmp 5],
 (.seq (.ops [zV 4 0,
 zV 5 0])
 (.seq (.seq (.ops [zM 8 0,
 zM 9 1,
 ⟨some 10,none,.a (.bX [zz] 2 1 [0,1]),[.t 8,.t 9]⟩,
 oU 11 112 10,
 zQ 12 .not 11])
 (.cond (.t 12)
 (.seq (.ops [zV 4 0,
 zV 5 2])
 .ret)
 .skip))
 (.seq (.ops [zM 14 0,
 zQ 15 (.conv .u64) 14,
 zM 16 1,
 zQ 17 (.conv .u64) 16,
 jx 18 150 15 17,
 zM 13 18,
 zQ 19 (.ext 0) 13,
 zQ 20 (.ext 1) 13,
 zM 6 19,
 zM 7 20])
 (.seq (.seq (.ops [zM 21 6,
 zP 22 (.bin .gtr) [.t 21,.c (.int .u64 0)],
 zM 23 22,
 cG 24 7 23 false,
 bt 25 (.bin .gtr) [.t 24,.c (.int .u64 1099511627776)] 23 false,
 zP 26 .pick [.t 23,.c (.bool true),.t 25]])
 (.cond (.t 26)
 (.seq (.ops [zV 4 0,
 zV 5 10])
 .ret)
 .skip))
 (.seq (.ops [zM 27 7,
 zQ 28 (.conv .i64) 27,
 zM 4 28,
 zV 5 0])
 .ret)))))⟩
def mB:AC:=(.seq (.ops [zR 9 (.bin .lss) 8 7])
 (.seq (.cond (.t 9)
 .skip
 (.exit 0))
 (.seq (.block 1 (.seq (.ops [zM 10 8,
 zM 5 10])
 (.seq (.ops [zM 11 1,
 zM 12 0,
 zM 13 5,
 zR 14 (.aE 1) 12 13,
 zL 15 14,
 ⟨some 16,none,.call,[.t 11,.t 15]⟩])
 (.cond (.t 16)
 (.seq (.ops [zM 17 5,
 zM 4 17])
 .ret)
 .skip))))
 (.ops [zP 18 (.bin .add) [.t 8,zI 1],
 zM 8 18]))))
def J9:aB:=⟨19,[.tmp 4],
 (.seq (.ops [zV 4 0])
 (.seq (.seq (.ops [zM 6 0,
 zQ 7 .bO 6,
 zV 8 0])
 (.block 0 (.loop mB)))
 (.seq (.ops [zV 4 (-1)])
 .ret)))⟩
def Og:aB:=⟨16,[.tmp 3],
 (.seq (.ops [zB 2 0,
 zV 3 0])
 (.seq (.seq (.ops [zL 4 1,
 zF 5 2 1,
 zL 6 5,
 zR 7 (.bin .lss) 4 6])
 (.cond (.t 7)
 (.seq (.ops [zV 3 0])
 .ret)
 .skip))
 (.seq (.ops [zL 8 1,
 zF 9 2 1,
 zL 10 9,
 zR 11 (.bin .sub) 8 10,
 zF 12 2 0,
 zL 13 12,
 zR 14 (.bin .quo) 11 13,
 zP 15 (.bin .add) [zI 1,.t 14],
 zM 3 15])
 .ret)))⟩
def Oh:aB:=⟨27,[.cell 4 2 true,.tmp 5],
 (.seq (.ops [⟨some 4,none,.a (.alloc [zz,zz]),[]⟩,
 zK 5 (.bool false)])
 (.seq (.ops [zM 7 0,
 zM 8 1,
 zR 9 (.build [zz,zz] [(0,1),(1,1)]) 7 8,
 zQ 10 (.build [zz,zz] [(0,2)]) 9,
 ⟨some 6,none,.a (.alloc [zz,zz]),[]⟩,
 zS 2 [.t 6,.t 10]])
 (.seq (.ops [zO 11 2 6,
 zM 12 0,
 zP 13 (.bin .leq) [zI 1,.t 12],
 zM 14 13,
 cG 15 0 14 true,
 bt 16 (.bin .leq) [.t 15,zI 64] 14 true,
 zP 17 .pick [.t 14,.t 16,.c (.bool false)],
 zM 18 17,
 cG 19 1 18 true,
 bt 20 (.bin .leq) [zI 1,.t 19] 18 true,
 zP 21 .pick [.t 18,.t 20,.c (.bool false)],
 zM 22 21,
 cG 23 1 22 true,
 cG 24 0 22 true,
 bt 25 (.bin .leq) [.t 23,.t 24] 22 true,
 zP 26 .pick [.t 22,.t 25,.c (.bool false)],
 zS 2 [.t 4,.t 11],
 zM 5 26])
 .ret)))⟩
def Oi:aB:=⟨40,[.tmp 4],
 (.seq (.ops [zB 2 0,
 zV 4 0])
 (.seq (.ops [zF 7 2 0,
 zO 8 2 7,
 oU 9 151 8,
 zM 5 9])
 (.seq (.seq (.ops [zM 10 1,
 zM 11 5,
 zR 12 (.bin .lss) 10 11])
 (.cond (.t 12)
 (.seq (.ops [zV 4 0])
 .ret)
 .skip))
 (.seq (.ops [zM 13 1,
 zM 14 5,
 zR 15 (.bin .sub) 13 14,
 zF 16 2 0,
 zF 17 16 0,
 zL 18 17,
 jx 19 152 15 18,
 zM 6 19])
 (.seq (.bH [zM 20 6,
 zF 21 2 0,
 zF 22 21 1,
 zL 23 22,
 zR 24 (.bin .mul) 20 23,
 zM 25 1,
 zM 26 5,
 zR 27 (.bin .sub) 25 26,
 zM 28 6,
 zF 29 2 0,
 zF 30 29 0,
 zL 31 30,
 zR 32 (.bin .mul) 28 31,
 zR 33 (.bin .sub) 27 32,
 zF 34 2 0,
 zO 35 2 34,
 oU 36 151 35,
 zR 37 (.bin .sub) 33 36,
 zP 38 .mx [zI 0,.t 37],
 zR 39 (.bin .add) 24 38,
 zM 4 39] [[],[],[],[0,17],[],[],[],[],[],[],[],[0,17],[],[],[],[],[],[],[],[],[]])
 .ret)))))⟩
def Oj:aB:=⟨21,[.tmp 4],
 (.seq (.ops [zB 2 0,
 zB 3 1,
 zV 4 0])
 (.seq (.seq (.ops [zF 5 3 5,
 zL 6 5,
 zP 7 (.bin .eql) [.t 6,zI 0]])
 (.cond (.t 7)
 (.seq (.ops [zF 8 3 4,
 zL 9 8,
 zM 4 9])
 .ret)
 .skip))
 (.seq (.bH [zF 10 3 4,
 zL 11 10,
 zO 12 5 2,
 zO 13 8 3,
 jx 14 125 12 13,
 zF 15 3 6,
 zL 16 15,
 zP 17 (.bin .mul) [zI 2,.t 16],
 zR 18 (.bin .add) 14 17,
 zP 19 (.bin .sub) [.t 18,zI 1],
 zR 20 .mx 11 19,
 zM 4 20] [[],[0,5],[],[],[],[],[0,5],[],[],[],[],[]])
 .ret)))⟩
def Ok:aB:=⟨9,[.tmp 3],
 (.seq (.ops [zB 2 0,
 zK 3 (.bool false)])
 (.seq (.ops [zO 4 8 2,
 zF 5 1 1,
 zL 6 5,
 jx 7 147 4 6,
 zQ 8 .not 7,
 zM 3 8])
 .ret))⟩
def Ol:aB:=⟨56,[.tmp 4],
 (.seq (.ops [zB 2 0,
 zK 4 (.bool false)])
 (.seq (.block 0 (.seq (.seq (.ops [zF 6 2 4,
 zL 7 6,
 zP 8 (.bin .lss) [.t 7,zI 0],
 zM 5 8])
 (.cond (.t 5)
 .skip
 (.seq (.ops [zF 9 2 4,
 zL 10 9,
 zF 11 2 2,
 zL 12 11,
 zR 13 (.bin .gtr) 10 12,
 zM 5 13])
 (.cond (.t 5)
 .skip
 (.seq (.ops [zF 14 2 5,
 zL 15 14,
 zP 16 (.bin .lss) [.t 15,zI 0],
 zM 5 16])
 (.cond (.t 5)
 .skip
 (.ops [zF 17 2 5,
 zL 18 17,
 zP 19 (.bin .gtr) [.t 18,zI 4],
 zM 5 19])))))))
 (.cond (.t 5)
 (.seq (.ops [zK 4 (.bool false)])
 .ret)
 (.seq (.ops [zF 21 2 5,
 zL 22 21,
 zP 23 (.bin .eql) [.t 22,zI 0],
 zM 20 23])
 (.cond (.t 20)
 (.seq (.ops [zF 24 2 6,
 zL 25 24,
 zP 26 (.bin .eql) [.t 25,zI 0],
 zM 27 26,
 bN 28 2 7 27 true,
 bR 29 28 27 true,
 bt 30 (.bin .eql) [.t 29,zI 0] 27 true,
 zP 31 .pick [.t 27,.t 30,.c (.bool false)],
 zM 4 31])
 .ret)
 .skip)))))
 (.seq (.bH [zF 32 2 6,
 zL 33 32,
 zP 34 (.bin .leq) [zI 1,.t 33],
 zM 35 34,
 bN 36 2 6 35 true,
 bR 37 36 35 true,
 cG 38 1 35 true,
 bt 39 (.bin .leq) [.t 37,.t 38] 35 true,
 zP 40 .pick [.t 35,.t 39,.c (.bool false)],
 zM 41 40,
 bN 42 2 7 41 true,
 bR 43 42 41 true,
 bt 44 (.bin .leq) [zI 1,.t 43] 41 true,
 zP 45 .pick [.t 41,.t 44,.c (.bool false)],
 zM 46 45,
 bN 47 2 7 46 true,
 bR 48 47 46 true,
 bN 49 2 2 46 true,
 bR 50 49 46 true,
 bN 51 2 6 46 true,
 bR 52 51 46 true,
 bt 53 (.bin .quo) [.t 50,.t 52] 46 true,
 bt 54 (.bin .leq) [.t 48,.t 53] 46 true,
 zP 55 .pick [.t 46,.t 54,.c (.bool false)],
 zM 4 55] [[],[],[],[],[],[],[],[],[],[],[],[],[],[],[],[],[],[],[],[],[],[],[],[],[]])
 .ret)))⟩
def oH:AC:=(.seq (.ops [zR 11 (.bin .lss) 10 9])
 (.seq (.cond (.t 11)
 .skip
 (.exit 0))
 (.seq (.block 1 (.seq (.ops [zM 12 10,
 zR 13 (.aE 3) 8 10,
 zO 14 3 13,
 ⟨some 5,none,.a (.alloc [zz,zz,.aD]),[]⟩,
 zM 4 12,
 zS 3 [.t 5,.t 14]])
 (.seq (.ops [zF 15 5 2,
 zL 16 15,
 zQ 17 (.gJ (.func 149) 0) 2,
 jx 18 80 16 17,
 zM 6 18])
 (.seq (.ops [zM 19 4,
 zF 20 1 4,
 zL 21 20,
 zR 22 (.bin .neq) 19 21,
 zM 23 22,
 cG 24 6 23 true,
 zP 25 .pick [.t 23,.t 24,.c (.bool false)],
 zM 26 25,
 cG 27 0 26 true,
 ⟨some 28,some (26,true),.r (.bn 3),[.t 5]⟩,
 ⟨some 29,some (26,true),.call,[.t 27,.t 28]⟩,
 bt 30 .not [.t 29] 26 true,
 zP 31 .pick [.t 26,.t 30,.c (.bool false)]])
 (.cond (.t 31)
 .ret
 .skip)))))
 (.ops [zP 32 (.bin .add) [.t 10,zI 1],
 zM 10 32]))))
def Om:aB:=⟨33,[],
 (.seq (.ops [zF 7 1 3,
 zL 8 7,
 zQ 9 .bO 8,
 zV 10 0])
 (.block 0 (.loop oH)))⟩
def On:aB:=⟨8,[.tmp 3],
 (.seq (.ops [zB 2 0,
 zK 3 (.bool false)])
 (.seq (.ops [zF 4 2 5,
 zL 5 4,
 zL 6 1,
 zR 7 (.bin .eql) 5 6,
 zM 3 7])
 .ret))⟩
def Oo:aB:=⟨51,[.tmp 4,.tmp 5],
 (.seq (.ops [zP 4 .J3 [.c (.int .u64 0)],
 zP 5 .J3 [.c (.int .u64 0)]])
 (.seq (.ops [zM 14 0,
 zP 15 (.bin .and) [.t 14,.c (.int .u64 4294967295)],
 zM 6 15])
 (.seq (.ops [zM 16 0,
 zP 17 (.bin .shr) [.t 16,.c (.int .u64 32)],
 zM 7 17])
 (.seq (.ops [zM 18 1,
 zP 19 (.bin .and) [.t 18,.c (.int .u64 4294967295)],
 zM 8 19])
 (.seq (.ops [zM 20 1,
 zP 21 (.bin .shr) [.t 20,.c (.int .u64 32)],
 zM 9 21])
 (.seq (.ops [zM 22 6,
 zM 23 8,
 zR 24 (.bin .mul) 22 23,
 zM 10 24])
 (.seq (.ops [zM 25 7,
 zM 26 8,
 zR 27 (.bin .mul) 25 26,
 zM 28 10,
 zP 29 (.bin .shr) [.t 28,.c (.int .u64 32)],
 zR 30 (.bin .add) 27 29,
 zM 11 30])
 (.seq (.ops [zM 31 11,
 zP 32 (.bin .and) [.t 31,.c (.int .u64 4294967295)],
 zM 12 32])
 (.seq (.ops [zM 33 11,
 zP 34 (.bin .shr) [.t 33,.c (.int .u64 32)],
 zM 13 34])
 (.seq (.ops [zM 35 12,
 zM 36 6,
 zM 37 9,
 zR 38 (.bin .mul) 36 37,
 zR 39 (.bin .add) 35 38,
 zM 12 39])
 (.seq (.ops [zM 40 7,
 zM 41 9,
 zR 42 (.bin .mul) 40 41,
 zM 43 13,
 zR 44 (.bin .add) 42 43,
 zM 45 12,
 zP 46 (.bin .shr) [.t 45,.c (.int .u64 32)],
 zR 47 (.bin .add) 44 46,
 zM 4 47])
 (.seq (.ops [zM 48 0,
 zM 49 1,
 zR 50 (.bin .mul) 48 49,
 zM 5 50])
 .ret))))))))))))⟩
def Oq:aB:=⟨8,[.tmp 2],
 (.seq (.ops [zB 1 0,
 zV 2 0])
 (.seq (.ops [zF 3 1 0,
 zL 4 3,
 zF 5 1 1,
 zL 6 5,
 zR 7 (.bin .sub) 4 6,
 zM 2 7])
 .ret))⟩
def Ot:aB:=⟨14,[.tmp 4],
 (.seq (.ops [zV 4 0])
 (.seq (.ops [zM 8 0,
 zM 9 1,
 jx 10 153 8 9,
 zM 7 10,
 zQ 11 (.ext 0) 7,
 zQ 12 (.ext 1) 7,
 zM 5 11,
 zM 6 12])
 (.seq (.ops [zM 13 5,
 zM 4 13])
 .ret)))⟩
def Ou:aB:=⟨18,[.tmp 4,.tmp 5],
 (.seq (.ops [zV 4 0,
 zV 5 0])
 (.seq (.seq (.ops [zM 6 0,
 zM 7 1,
 ⟨some 8,none,.a (.bX [zz] 2 1 [0,1]),[.t 6,.t 7]⟩,
 oU 9 112 8,
 zQ 10 .not 9,
 zM 11 10,
 cG 12 1 11 false,
 bt 13 (.bin .eql) [.t 12,zI 0] 11 false,
 zP 14 .pick [.t 11,.c (.bool true),.t 13]])
 (.cond (.t 14)
 (.seq (.ops [zV 4 0,
 zV 5 2])
 .ret)
 .skip))
 (.seq (.ops [zM 15 0,
 zM 16 1,
 zR 17 (.bin .quo) 15 16,
 zM 4 17,
 zV 5 0])
 .ret)))⟩
def T:Tr aB:=(.node (.node (.node (.node (.node (.node (.node (.node .nil (some N2) .nil) (some X8) .nil) (some Ue) (.node .nil (some YA) .nil)) none (.node (.node (.node .nil (some Oh) .nil) (some UJ) .nil) (some XP) (.node .nil (some J7) .nil))) (some C7) (.node (.node (.node (.node .nil (some Ob) .nil) (some Yh) .nil) none (.node .nil (some NI) .nil)) (some XC) (.node (.node (.node .nil (some Oq) .nil) (some Ys) .nil) none (.node .nil (some NW) .nil)))) none (.node (.node (.node (.node (.node .nil (some N6) .nil) (some Yd) .nil) none (.node .nil (some YD) .nil)) (some Xy) (.node (.node (.node .nil (some Ol) .nil) (some UK) .nil) (some XS) (.node .nil (some NS) .nil))) none (.node (.node (.node (.node .nil (some J8) .nil) (some Yl) .nil) (some QE) (.node .nil (some NL) .nil)) (some XG) (.node (.node .nil (some Yw) .nil) (some XZ) (.node .nil (some N0) .nil))))) none (.node (.node (.node (.node (.node (.node .nil (some N4) .nil) (some Yb) .nil) (some XK) (.node .nil (some YC) .nil)) (some Xx) (.node (.node (.node .nil (some Oj) .nil) (some Yn) .nil) (some XQ) (.node .nil (some Ig) .nil))) none (.node (.node (.node (.node .nil (some Od) .nil) (some Yj) .nil) (some XL) (.node .nil (some NK) .nil)) (some XE) (.node (.node (.node .nil (some Ou) .nil) (some Yu) .nil) (some XV) (.node .nil (some NY) .nil)))) (some C5) (.node (.node (.node (.node (.node .nil (some N8) .nil) (some Yf) .nil) none (.node .nil (some NG) .nil)) (some XA) (.node (.node (.node .nil (some On) .nil) (some Yq) .nil) (some ZB) (.node .nil (some NU) .nil))) none (.node (.node (.node (.node .nil (some J9) .nil) (some ZD) .nil) (some XN) (.node .nil (some NN) .nil)) (some XI) (.node (.node .nil (some Yy) .nil) (some X5) (.node .nil (some Ii) .nil)))))) none (.node (.node (.node (.node (.node (.node (.node .nil (some N3) .nil) (some Ya) .nil) (some UH) (.node .nil (some YB) .nil)) none (.node (.node (.node .nil (some Oi) .nil) (some Ym) .nil) (some UI) (.node .nil (some NP) .nil))) (some C8) (.node (.node (.node (.node .nil (some Oc) .nil) (some Yi) .nil) none (.node .nil (some NJ) .nil)) (some XD) (.node (.node (.node .nil (some Ot) .nil) (some Yt) .nil) (some XU) (.node .nil (some NX) .nil)))) (some C4) (.node (.node (.node (.node (.node .nil (some N7) .nil) (some Ye) .nil) none (.node .nil (some J6) .nil)) (some Xz) (.node (.node (.node .nil (some Om) .nil) (some Yp) .nil) (some XT) (.node .nil (some NT) .nil))) none (.node (.node (.node (.node .nil (some Of) .nil) (some Ug) .nil) (some XM) (.node .nil (some NM) .nil)) (some XH) (.node (.node .nil (some Yx) .nil) (some X4) (.node .nil (some Ih) .nil))))) none (.node (.node (.node (.node (.node (.node .nil (some N5) .nil) (some Yc) .nil) (some ZA) (.node .nil (some ZF) .nil)) (some Ud) (.node (.node (.node .nil (some Ok) .nil) (some Yo) .nil) (some XR) (.node .nil (some NQ) .nil))) none (.node (.node (.node (.node .nil (some Oe) .nil) (some Yk) .nil) (some Uf) (.node .nil (some Ie) .nil)) (some XF) (.node (.node .nil (some Yv) .nil) (some XX) (.node .nil (some NZ) .nil)))) (some C6) (.node (.node (.node (.node (.node .nil (some Oa) .nil) (some Yg) .nil) none (.node .nil (some NH) .nil)) (some XB) (.node (.node (.node .nil (some Oo) .nil) (some Yr) .nil) (some ZC) (.node .nil (some NV) .nil))) none (.node (.node (.node (.node .nil (some Og) .nil) (some ZE) .nil) (some XO) (.node .nil (some NO) .nil)) (some XJ) (.node (.node .nil (some Yz) .nil) (some X7) (.node .nil (some N1) .nil)))))))
def fs(f:Nat):Option aB:=Tr.get T f
def ms(t:Nat)(n:String):Option Nat:=none
end Ir
end Go.Proofs.Ytepdklcpagielaa
