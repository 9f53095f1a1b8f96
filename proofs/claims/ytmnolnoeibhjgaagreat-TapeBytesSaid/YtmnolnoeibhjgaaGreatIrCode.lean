/-
  What the program's functions are in Ads, printed by a program (the rest).
-/
import Derived.Test.YtmnolnoeibhjgaaGreatIrCodeA
set_option linter.unusedVariables false
set_option maxRecDepth 100000
namespace Go.Proofs.YtmnolnoeibhjgaaGreat
open Go Ads
namespace Ir
def iO:AC:=(.block 1 (.seq (.ops [zM 21 2,
 zM 22 1,
 zR 23 (.bin .sub) 21 22,
 zM 12 23])
 (.seq (.seq (.ops [zM 24 12,
 zP 25 (.bin .leq) [.t 24,zI 12]])
 (.cond (.t 25)
 (.seq (.ops [zM 26 0,
 zM 27 1,
 zM 28 2,
 zM 29 4,
 Ly 30 322 26 27 28 29])
 .ret)
 .skip))
 (.seq (.seq (.ops [zM 31 3,
 zP 32 (.bin .eql) [.t 31,zI 0]])
 (.cond (.t 32)
 (.seq (.ops [zM 33 0,
 zM 34 1,
 zM 35 2,
 zM 36 4,
 Ly 37 323 33 34 35 36])
 .ret)
 .skip))
 (.seq (.seq (.ops [zM 38 10,
 zQ 39 .not 38])
 (.cond (.t 39)
 (.seq (.ops [zM 40 0,
 zM 41 1,
 zM 42 2,
 zM 43 4,
 Ly 44 324 40 41 42 43])
 (.ops [zM 45 3,
 zP 46 (.bin .sub) [.t 45,zI 1],
 zM 3 46]))
 .skip))
 (.seq (.ops [zM 48 0,
 zM 49 1,
 zM 50 2,
 zM 51 4,
 Ly 52 325 48 49 50 51,
 zM 47 52,
 zQ 53 (.ext 0) 47,
 zQ 54 (.ext 1) 47,
 zM 13 53,
 zM 14 54])
 (.seq (.seq (.ops [zM 55 14,
 zP 56 (.bin .eql) [.t 55,zI 2]])
 (.cond (.t 56)
 (.seq (.ops [zM 57 0,
 zM 58 1,
 zM 59 2,
 zM 60 4,
 Ly 61 326 57 58 59 60])
 (.seq (.ops [zM 62 2,
 zP 63 (.bin .sub) [.t 62,zI 1],
 zM 64 13,
 zM 65 1,
 zR 66 (.bin .sub) 64 65,
 zR 67 (.bin .sub) 63 66,
 zM 13 67])
 (.ops [zV 14 1])))
 .skip))
 (.seq (.seq (.ops [zM 68 10,
 zM 69 68,
 cF 70 11 69 true,
 zP 71 .pick [.t 69,.t 70,.c (.bool false)],
 zM 72 71,
 cF 73 14 72 true,
 bL 74 (.bin .eql) [.t 73,zI 1] 72 true,
 zP 75 .pick [.t 72,.t 74,.c (.bool false)]])
 (.cond (.t 75)
 (.seq (.ops [zM 76 0,
 zM 77 1,
 zM 78 2,
 zM 79 4,
 Ly 80 327 76 77 78 79])
 (.cond (.t 80)
 .ret
 .skip))
 .skip))
 (.seq (.seq (.bI [zM 81 1,
 zP 82 (.bin .gtr) [.t 81,zI 0],
 zM 83 82,
 cF 84 4 83 true,
 cF 85 0 83 true,
 cF 86 1 83 true,
 bL 87 (.bin .sub) [.t 86,zI 1] 83 true,
 bL 88 (.aB 2) [.t 85,.t 87] 83 true,
 ⟨some 89,some (83,true),.r (.bt 2),[.t 88]⟩,
 cF 90 0 83 true,
 cF 91 13 83 true,
 bL 92 (.aB 2) [.t 90,.t 91] 83 true,
 ⟨some 93,some (83,true),.r (.bt 2),[.t 92]⟩,
 ⟨some 94,some (83,true),.call,[.t 84,.t 89,.t 93]⟩,
 bL 95 (.bin .lss) [.t 94,zI 0] 83 true,
 bL 96 .not [.t 95] 83 true,
 zP 97 .pick [.t 83,.t 96,.c (.bool false)]] [[],[],[],[],[],[],[],[],[],[],[],[],[],[],[],[],[]])
 (.cond (.t 97)
 (.seq (.ops [zM 98 0,
 zM 99 1,
 zM 100 2,
 zM 101 13,
 zM 102 4,
 Uy 103 328 98 99 100 101 102,
 zM 15 103])
 (.seq (.ops [zM 104 15,
 zM 1 104])
 (.exit 1)))
 .skip))
 (.seq (.ops [zM 106 0,
 zM 107 1,
 zM 108 2,
 zM 109 13,
 zM 110 4,
 Uy 111 329 106 107 108 109 110,
 zM 105 111,
 zQ 112 (.ext 0) 105,
 zQ 113 (.ext 1) 105,
 zM 16 112,
 zM 17 113])
 (.seq (.ops [zM 114 17,
 zM 11 114])
 (.seq (.ops [zM 115 16,
 zM 116 1,
 zR 117 (.bin .sub) 115 116,
 zM 118 2,
 zM 119 16,
 zR 120 (.bin .sub) 118 119,
 zM 18 117,
 zM 19 120])
 (.seq (.ops [zM 121 12,
 zP 122 (.bin .quo) [.t 121,zI 8],
 zM 20 122])
 (.seq (.ops [zM 123 18,
 zM 124 19,
 zR 125 (.bin .lss) 123 124])
 (.cond (.t 125)
 (.seq (.ops [zM 126 18,
 zM 127 20,
 zR 128 (.bin .geq) 126 127,
 zM 10 128])
 (.seq (.ops [zM 129 0,
 zM 130 1,
 zM 131 16,
 zM 132 3,
 zM 133 4,
 Uy 134 306 129 130 131 132 133])
 (.ops [zM 135 16,
 zP 136 (.bin .add) [.t 135,zI 1],
 zM 1 136])))
 (.seq (.ops [zM 137 19,
 zM 138 20,
 zR 139 (.bin .geq) 137 138,
 zM 10 139])
 (.seq (.ops [zM 140 0,
 zM 141 16,
 zP 142 (.bin .add) [.t 141,zI 1],
 zM 143 2,
 zM 144 3,
 zM 145 4,
 Uy 146 306 140 142 143 144 145])
 (.ops [zM 147 16,
 zM 2 147]))))))))))))))))))
def Nf:aj:=⟨148,[],
 (.seq (.ops [zK 10 (.bool true)])
 (.seq (.ops [zK 11 (.bool true)])
 (.block 0 (.loop iO))))⟩
def Ng:aj:=⟨8,[.tmp 2],
 (.seq (.ops [zV 2 0])
 (.seq (.cond (.c (.bool false))
 (.seq (.ops [zM 3 0,
 zQ 4 (.conv .u32) 3,
 cE 5 330 4,
 zM 2 5])
 .ret)
 .skip)
 (.seq (.ops [zM 6 0,
 cE 7 331 6,
 zM 2 7])
 .ret)))⟩
def ur:AC:=(.seq (.ops [zR 12 (.bin .lss) 11 10])
 (.seq (.cond (.t 12)
 .skip
 (.exit 0))
 (.seq (.block 1 (.seq (.ops [zR 13 (.aB 3) 9 11,
 zO 14 3 13,
 ⟨some 4,none,.a (.alloc [zz,zz,.az]),[]⟩,
 zS 3 [.t 4,.t 14]])
 (.seq (.seq (.ops [zF 15 4 0,
 zL 16 15,
 zP 17 (.bin .lss) [.t 16,zI 1],
 zM 18 17,
 c9 19 4 0 18 false,
 c7 20 19 18 false,
 bL 21 (.bin .gtr) [.t 20,zI 64] 18 false,
 zP 22 .pick [.t 18,.c (.bool true),.t 21],
 zM 23 22,
 c9 24 4 1 23 false,
 c7 25 24 23 false,
 bL 26 (.bin .lss) [.t 25,zI 1] 23 false,
 zP 27 .pick [.t 23,.c (.bool true),.t 26],
 zM 28 27,
 c9 29 4 1 28 false,
 c7 30 29 28 false,
 c9 31 4 0 28 false,
 c7 32 31 28 false,
 bL 33 (.bin .gtr) [.t 30,.t 32] 28 false,
 zP 34 .pick [.t 28,.c (.bool true),.t 33]])
 (.cond (.t 34)
 (.seq (.ops [zV 2 2])
 .ret)
 .skip))
 (.seq (.seq (.bI [zF 35 4 2,
 zL 36 35,
 zF 37 4 2,
 zL 38 37,
 zQ 39 .aV 38,
 ⟨some 40,none,.a (.eG [zz] 1 8),[.t 39,.t 39]⟩,
 fF 41 141 36 40,
 zM 5 41] [[],[],[],[],[],[],[],[]])
 (.seq (.ops [zM 42 5,
 zP 43 (.bin .neq) [.t 42,zI 0]])
 (.cond (.t 43)
 (.seq (.ops [zM 44 5,
 zM 2 44])
 .ret)
 .skip)))
 (.seq (.ops [zF 45 4 2,
 zL 46 45,
 zQ 47 (.ec (.func 333) 0) 4,
 fF 48 97 46 47])
 (.cond (.t 48)
 (.seq (.ops [zV 2 2])
 .ret)
 .skip))))))
 (.ops [zP 49 (.bin .add) [.t 11,zI 1],
 zM 11 49]))))
def Nh:aj:=⟨50,[.tmp 2],
 (.seq (.ops [zV 2 0])
 (.seq (.seq (.ops [zM 6 0,
 zQ 7 .aV 6,
 zP 8 (.bin .gtr) [.t 7,zI 4]])
 (.cond (.t 8)
 (.seq (.ops [zV 2 2])
 .ret)
 .skip))
 (.seq (.seq (.ops [zM 9 0,
 zQ 10 .aV 9,
 zV 11 0])
 (.block 0 (.loop ur)))
 (.seq (.ops [zV 2 0])
 .ret))))⟩
def Ni:aj:=⟨29,[.tmp 4,.tmp 5],
 (.seq (.ops [zV 4 0,
 zV 5 0])
 (.seq (.seq (.ops [zM 8 0,
 zM 9 1,
 ⟨some 10,none,.a (.aY [zz] 2 1 [0,1]),[.t 8,.t 9]⟩,
 cE 11 299 10,
 zQ 12 .not 11])
 (.cond (.t 12)
 (.seq (.ops [zV 4 0,
 zV 5 2])
 .ret)
 .skip))
 (.seq (.ops [zM 14 0,
 zQ 15 (.conv .u64) 14,
 zM 16 1,
 zQ 17 (.conv .u64) 16,
 fF 18 337 15 17,
 zM 13 18,
 zQ 19 (.ext 0) 13,
 zQ 20 (.ext 1) 13,
 zM 6 19,
 zM 7 20])
 (.seq (.seq (.ops [zM 21 6,
 zP 22 (.bin .gtr) [.t 21,.c (.int .u64 0)],
 zM 23 22,
 cF 24 7 23 false,
 bL 25 (.bin .gtr) [.t 24,.c (.int .u64 1099511627776)] 23 false,
 zP 26 .pick [.t 23,.c (.bool true),.t 25]])
 (.cond (.t 26)
 (.seq (.ops [zV 4 0,
 zV 5 10])
 .ret)
 .skip))
 (.seq (.ops [zM 27 7,
 zQ 28 (.conv .i64) 27,
 zM 4 28,
 zV 5 0])
 .ret)))))⟩
def Nj:aj:=⟨16,[.tmp 3],
 (.seq (.ops [zB 2 0,
 zV 3 0])
 (.seq (.seq (.ops [zL 4 1,
 zF 5 2 1,
 zL 6 5,
 zR 7 (.bin .lss) 4 6])
 (.cond (.t 7)
 (.seq (.ops [zV 3 0])
 .ret)
 .skip))
 (.seq (.ops [zL 8 1,
 zF 9 2 1,
 zL 10 9,
 zR 11 (.bin .sub) 8 10,
 zF 12 2 0,
 zL 13 12,
 zR 14 (.bin .quo) 11 13,
 zP 15 (.bin .add) [zI 1,.t 14],
 zM 3 15])
 .ret)))⟩
def Nk:aj:=⟨27,[.cell 4 2 true,.tmp 5],
 (.seq (.ops [⟨some 4,none,.a (.alloc [zz,zz]),[]⟩,
 zK 5 (.bool false)])
 (.seq (.ops [zM 7 0,
 zM 8 1,
 zR 9 (.build [zz,zz] [(0,1),(1,1)]) 7 8,
 zQ 10 (.build [zz,zz] [(0,2)]) 9,
 ⟨some 6,none,.a (.alloc [zz,zz]),[]⟩,
 zS 2 [.t 6,.t 10]])
 (.seq (.ops [zO 11 2 6,
 zM 12 0,
 zP 13 (.bin .leq) [zI 1,.t 12],
 zM 14 13,
 cF 15 0 14 true,
 bL 16 (.bin .leq) [.t 15,zI 64] 14 true,
 zP 17 .pick [.t 14,.t 16,.c (.bool false)],
 zM 18 17,
 cF 19 1 18 true,
 bL 20 (.bin .leq) [zI 1,.t 19] 18 true,
 zP 21 .pick [.t 18,.t 20,.c (.bool false)],
 zM 22 21,
 cF 23 1 22 true,
 cF 24 0 22 true,
 bL 25 (.bin .leq) [.t 23,.t 24] 22 true,
 zP 26 .pick [.t 22,.t 25,.c (.bool false)],
 zS 2 [.t 4,.t 11],
 zM 5 26])
 .ret)))⟩
def Nl:aj:=⟨40,[.tmp 4],
 (.seq (.ops [zB 2 0,
 zV 4 0])
 (.seq (.ops [zF 7 2 0,
 zO 8 2 7,
 cE 9 338 8,
 zM 5 9])
 (.seq (.seq (.ops [zM 10 1,
 zM 11 5,
 zR 12 (.bin .lss) 10 11])
 (.cond (.t 12)
 (.seq (.ops [zV 4 0])
 .ret)
 .skip))
 (.seq (.ops [zM 13 1,
 zM 14 5,
 zR 15 (.bin .sub) 13 14,
 zF 16 2 0,
 zF 17 16 0,
 zL 18 17,
 fF 19 339 15 18,
 zM 6 19])
 (.seq (.bI [zM 20 6,
 zF 21 2 0,
 zF 22 21 1,
 zL 23 22,
 zR 24 (.bin .mul) 20 23,
 zM 25 1,
 zM 26 5,
 zR 27 (.bin .sub) 25 26,
 zM 28 6,
 zF 29 2 0,
 zF 30 29 0,
 zL 31 30,
 zR 32 (.bin .mul) 28 31,
 zR 33 (.bin .sub) 27 32,
 zF 34 2 0,
 zO 35 2 34,
 cE 36 338 35,
 zR 37 (.bin .sub) 33 36,
 zP 38 .mx [zI 0,.t 37],
 zR 39 (.bin .add) 24 38,
 zM 4 39] [[],[],[],[0,17],[],[],[],[],[],[],[],[0,17],[],[],[],[],[],[],[],[],[]])
 .ret)))))⟩
def fP:AC:=(.seq (.seq (.bI [zM 18 9,
 zM 19 1,
 zR 20 (.bin .gtr) 18 19,
 zM 21 20,
 cF 22 3 21 true,
 cF 23 0 21 true,
 cF 24 9 21 true,
 bL 25 (.aB 2) [.t 23,.t 24] 21 true,
 ⟨some 26,some (21,true),.r (.bt 2),[.t 25]⟩,
 cF 27 0 21 true,
 cF 28 9 21 true,
 bL 29 (.bin .sub) [.t 28,zI 1] 21 true,
 bL 30 (.aB 2) [.t 27,.t 29] 21 true,
 ⟨some 31,some (21,true),.r (.bt 2),[.t 30]⟩,
 ⟨some 32,some (21,true),.call,[.t 22,.t 26,.t 31]⟩,
 bL 33 (.bin .lss) [.t 32,zI 0] 21 true,
 zP 34 .pick [.t 21,.t 33,.c (.bool false)]] [[],[],[],[],[],[],[],[],[],[],[],[],[],[],[],[],[]])
 (.cond (.t 34)
 .skip
 (.exit 2)))
 (.seq (.block 3 (.bI [zM 37 0,
 zM 38 9,
 zM 39 0,
 zM 40 9,
 zP 41 (.bin .sub) [.t 40,zI 1],
 zM 42 0,
 zM 43 9,
 zP 44 (.bin .sub) [.t 43,zI 1],
 zR 45 (.aB 2) 42 44,
 zO 46 2 45,
 zM 47 0,
 zM 48 9,
 zR 49 (.aB 2) 47 48,
 zO 50 2 49,
 zR 51 (.aB 2) 37 38,
 zS 2 [.t 51,.t 46],
 zR 52 (.aB 2) 39 41,
 zS 2 [.t 52,.t 50]] [[],[],[],[],[],[],[],[],[],[],[],[],[],[],[],[],[],[]]))
 (.ops [zM 35 9,
 zP 36 (.bin .sub) [.t 35,zI 1],
 zM 9 36])))
def fO:AC:=(.seq (.seq (.ops [zM 12 8,
 zM 13 2,
 zR 14 (.bin .lss) 12 13])
 (.cond (.t 14)
 .skip
 (.exit 0)))
 (.seq (.block 1 (.seq (.ops [zM 17 8,
 zM 9 17])
 (.block 2 (.loop fP))))
 (.ops [zM 15 8,
 zP 16 (.bin .add) [.t 15,zI 1],
 zM 8 16])))
def Nm:aj:=⟨53,[],
 (.seq (.ops [zM 10 1,
 zP 11 (.bin .add) [.t 10,zI 1],
 zM 8 11])
 (.block 0 (.loop fO)))⟩
def Nn:aj:=⟨25,[.tmp 2],
 (.seq (.ops [zV 2 0])
 (.seq (.seq (.ops [zM 3 0,
 zP 4 (.bin .geq) [.t 3,.c (.int .u64 4294967296)]])
 (.cond (.t 4)
 (.seq (.ops [zM 5 0,
 zP 6 (.bin .shr) [.t 5,.c (.int .u64 32)],
 zM 0 6])
 (.ops [zV 2 32]))
 .skip))
 (.seq (.seq (.ops [zM 7 0,
 zP 8 (.bin .geq) [.t 7,.c (.int .u64 65536)]])
 (.cond (.t 8)
 (.seq (.ops [zM 9 0,
 zP 10 (.bin .shr) [.t 9,.c (.int .u64 16)],
 zM 0 10])
 (.ops [zM 11 2,
 zP 12 (.bin .add) [.t 11,zI 16],
 zM 2 12]))
 .skip))
 (.seq (.seq (.ops [zM 13 0,
 zP 14 (.bin .geq) [.t 13,.c (.int .u64 256)]])
 (.cond (.t 14)
 (.seq (.ops [zM 15 0,
 zP 16 (.bin .shr) [.t 15,.c (.int .u64 8)],
 zM 0 16])
 (.ops [zM 17 2,
 zP 18 (.bin .add) [.t 17,zI 8],
 zM 2 18]))
 .skip))
 (.seq (.ops [zM 19 2,
 zM 20 0,
 zQ 21 (.conv .u8) 20,
 zP 22 .CH [.c (.str [0,1,2,2,3,3,3,3,4,4,4,4,4,4,4,4,5,5,5,5,5,5,5,5,5,5,5,5,5,5,5,5,6,6,6,6,6,6,6,6,6,6,6,6,6,6,6,6,6,6,6,6,6,6,6,6,6,6,6,6,6,6,6,6,7,7,7,7,7,7,7,7,7,7,7,7,7,7,7,7,7,7,7,7,7,7,7,7,7,7,7,7,7,7,7,7,7,7,7,7,7,7,7,7,7,7,7,7,7,7,7,7,7,7,7,7,7,7,7,7,7,7,7,7,7,7,7,7,8,8,8,8,8,8,8,8,8,8,8,8,8,8,8,8,8,8,8,8,8,8,8,8,8,8,8,8,8,8,8,8,8,8,8,8,8,8,8,8,8,8,8,8,8,8,8,8,8,8,8,8,8,8,8,8,8,8,8,8,8,8,8,8,8,8,8,8,8,8,8,8,8,8,8,8,8,8,8,8,8,8,8,8,8,8,8,8,8,8,8,8,8,8,8,8,8,8,8,8,8,8,8,8,8,8,8,8,8,8,8,8,8,8,8,8,8,8,8,8,8,8,8,8,8,8,8,8]),.t 21],
 zQ 23 (.conv .i64) 22,
 zR 24 (.bin .add) 19 23,
 zM 2 24])
 .ret)))))⟩
def No:aj:=⟨9,[.tmp 3],
 (.seq (.ops [zB 2 0,
 zK 3 (.bool false)])
 (.seq (.ops [zO 4 8 2,
 zF 5 1 1,
 zL 6 5,
 fF 7 334 4 6,
 zQ 8 .not 7,
 zM 3 8])
 .ret))⟩
def Np:aj:=⟨56,[.tmp 4],
 (.seq (.ops [zB 2 0,
 zK 4 (.bool false)])
 (.seq (.block 0 (.seq (.seq (.ops [zF 6 2 4,
 zL 7 6,
 zP 8 (.bin .lss) [.t 7,zI 0],
 zM 5 8])
 (.cond (.t 5)
 .skip
 (.seq (.ops [zF 9 2 4,
 zL 10 9,
 zF 11 2 2,
 zL 12 11,
 zR 13 (.bin .gtr) 10 12,
 zM 5 13])
 (.cond (.t 5)
 .skip
 (.seq (.ops [zF 14 2 5,
 zL 15 14,
 zP 16 (.bin .lss) [.t 15,zI 0],
 zM 5 16])
 (.cond (.t 5)
 .skip
 (.ops [zF 17 2 5,
 zL 18 17,
 zP 19 (.bin .gtr) [.t 18,zI 4],
 zM 5 19])))))))
 (.cond (.t 5)
 (.seq (.ops [zK 4 (.bool false)])
 .ret)
 (.seq (.ops [zF 21 2 5,
 zL 22 21,
 zP 23 (.bin .eql) [.t 22,zI 0],
 zM 20 23])
 (.cond (.t 20)
 (.seq (.ops [zF 24 2 6,
 zL 25 24,
 zP 26 (.bin .eql) [.t 25,zI 0],
 zM 27 26,
 c9 28 2 7 27 true,
 c7 29 28 27 true,
 bL 30 (.bin .eql) [.t 29,zI 0] 27 true,
 zP 31 .pick [.t 27,.t 30,.c (.bool false)],
 zM 4 31])
 .ret)
 .skip)))))
 (.seq (.bI [zF 32 2 6,
 zL 33 32,
 zP 34 (.bin .leq) [zI 1,.t 33],
 zM 35 34,
 c9 36 2 6 35 true,
 c7 37 36 35 true,
 cF 38 1 35 true,
 bL 39 (.bin .leq) [.t 37,.t 38] 35 true,
 zP 40 .pick [.t 35,.t 39,.c (.bool false)],
 zM 41 40,
 c9 42 2 7 41 true,
 c7 43 42 41 true,
 bL 44 (.bin .leq) [zI 1,.t 43] 41 true,
 zP 45 .pick [.t 41,.t 44,.c (.bool false)],
 zM 46 45,
 c9 47 2 7 46 true,
 c7 48 47 46 true,
 c9 49 2 2 46 true,
 c7 50 49 46 true,
 c9 51 2 6 46 true,
 c7 52 51 46 true,
 bL 53 (.bin .quo) [.t 50,.t 52] 46 true,
 bL 54 (.bin .leq) [.t 48,.t 53] 46 true,
 zP 55 .pick [.t 46,.t 54,.c (.bool false)],
 zM 4 55] [[],[],[],[],[],[],[],[],[],[],[],[],[],[],[],[],[],[],[],[],[],[],[],[],[]])
 .ret)))⟩
def Nq:aj:=⟨51,[.tmp 4,.tmp 5],
 (.seq (.ops [zP 4 .yh [.c (.int .u64 0)],
 zP 5 .yh [.c (.int .u64 0)]])
 (.seq (.ops [zM 14 0,
 zP 15 (.bin .and) [.t 14,.c (.int .u64 4294967295)],
 zM 6 15])
 (.seq (.ops [zM 16 0,
 zP 17 (.bin .shr) [.t 16,.c (.int .u64 32)],
 zM 7 17])
 (.seq (.ops [zM 18 1,
 zP 19 (.bin .and) [.t 18,.c (.int .u64 4294967295)],
 zM 8 19])
 (.seq (.ops [zM 20 1,
 zP 21 (.bin .shr) [.t 20,.c (.int .u64 32)],
 zM 9 21])
 (.seq (.ops [zM 22 6,
 zM 23 8,
 zR 24 (.bin .mul) 22 23,
 zM 10 24])
 (.seq (.ops [zM 25 7,
 zM 26 8,
 zR 27 (.bin .mul) 25 26,
 zM 28 10,
 zP 29 (.bin .shr) [.t 28,.c (.int .u64 32)],
 zR 30 (.bin .add) 27 29,
 zM 11 30])
 (.seq (.ops [zM 31 11,
 zP 32 (.bin .and) [.t 31,.c (.int .u64 4294967295)],
 zM 12 32])
 (.seq (.ops [zM 33 11,
 zP 34 (.bin .shr) [.t 33,.c (.int .u64 32)],
 zM 13 34])
 (.seq (.ops [zM 35 12,
 zM 36 6,
 zM 37 9,
 zR 38 (.bin .mul) 36 37,
 zR 39 (.bin .add) 35 38,
 zM 12 39])
 (.seq (.ops [zM 40 7,
 zM 41 9,
 zR 42 (.bin .mul) 40 41,
 zM 43 13,
 zR 44 (.bin .add) 42 43,
 zM 45 12,
 zP 46 (.bin .shr) [.t 45,.c (.int .u64 32)],
 zR 47 (.bin .add) 44 46,
 zM 4 47])
 (.seq (.ops [zM 48 0,
 zM 49 1,
 zR 50 (.bin .mul) 48 49,
 zM 5 50])
 .ret))))))))))))⟩
def Nr:aj:=⟨8,[.tmp 2],
 (.seq (.ops [zB 1 0,
 zV 2 0])
 (.seq (.ops [zF 3 1 0,
 zL 4 3,
 zF 5 1 1,
 zL 6 5,
 zR 7 (.bin .sub) 4 6,
 zM 2 7])
 .ret))⟩
def Ns:aj:=⟨14,[.tmp 4],
 (.seq (.ops [zV 4 0])
 (.seq (.ops [zM 8 0,
 zM 9 1,
 fF 10 345 8 9,
 zM 7 10,
 zQ 11 (.ext 0) 7,
 zQ 12 (.ext 1) 7,
 zM 5 11,
 zM 6 12])
 (.seq (.ops [zM 13 5,
 zM 4 13])
 .ret)))⟩
def Nu:aj:=⟨18,[.tmp 4,.tmp 5],
 (.seq (.ops [zV 4 0,
 zV 5 0])
 (.seq (.seq (.ops [zM 6 0,
 zM 7 1,
 ⟨some 8,none,.a (.aY [zz] 2 1 [0,1]),[.t 6,.t 7]⟩,
 cE 9 299 8,
 zQ 10 .not 9,
 zM 11 10,
 cF 12 1 11 false,
 bL 13 (.bin .eql) [.t 12,zI 0] 11 false,
 zP 14 .pick [.t 11,.c (.bool true),.t 13]])
 (.cond (.t 14)
 (.seq (.ops [zV 4 0,
 zV 5 2])
 .ret)
 .skip))
 (.seq (.ops [zM 15 0,
 zM 16 1,
 zR 17 (.bin .quo) 15 16,
 zM 4 17,
 zV 5 0])
 .ret)))⟩
def T:Tr aj:=(.node (.node (.node (.node (.node (.node (.node (.node .nil (some LS) .nil) (some UI) (.node (.node .nil (some Nk) .nil) none .nil)) (some Th) (.node (.node .nil (some Mi) .nil) (some U2) (.node .nil (some MD) .nil))) (some S4) (.node (.node (.node (.node .nil (some MT) .nil) (some L6) .nil) none .nil) (some Tt) (.node (.node (.node .nil (some Nb) .nil) (some Mp) .nil) (some LJ) .nil))) (some C7) (.node (.node (.node .nil (some TD) .nil) (some Tn) (.node (.node (.node .nil (some M3) .nil) (some Ml) .nil) (some LC) (.node .nil (some ML) .nil))) (some Tb) (.node (.node (.node .nil (some Mc) .nil) (some U0) .nil) (some Ty) (.node (.node .nil (some Mv) .nil) (some LL) .nil)))) (some C3) (.node (.node (.node (.node .nil (some UM) .nil) (some Tk) (.node .nil (some U6) (.node .nil (some MH) .nil))) (some S8) (.node (.node (.node (.node .nil (some MY) .nil) none .nil) (some UW) (.node (.node .nil (some Ns) .nil) none .nil)) (some Tv) (.node (.node (.node .nil (some Ng) .nil) (some Mt) .nil) none .nil))) (some S2) (.node (.node (.node (.node (.node .nil (some MP) .nil) none .nil) (some UQ) (.node (.node .nil (some Nn) .nil) none .nil)) (some To) (.node (.node (.node .nil (some M7) .nil) (some Mn) .nil) (some LF) .nil)) (some Tf) (.node .nil (some TB) (.node (.node (.node .nil (some Nh) .nil) (some My) .nil) (some LO) .nil))))) none (.node (.node (.node (.node (.node .nil (some UK) .nil) (some Ti) (.node .nil (some U4) (.node .nil (some MF) .nil))) (some QC) (.node (.node (.node (.node .nil (some MV) .nil) none .nil) (some UU) (.node (.node .nil (some Nq) .nil) none .nil)) (some QE) (.node (.node (.node .nil (some Nd) .nil) (some Mr) .nil) none .nil))) (some C9) (.node (.node (.node (.node .nil (some LW) .nil) (some TE) .nil) (some UE) (.node (.node (.node .nil (some M5) .nil) none .nil) (some LD) .nil)) (some Td) (.node (.node (.node .nil (some Me) .nil) (some U1) (.node (.node .nil (some Nu) .nil) none .nil)) (some Tz) (.node (.node .nil (some Mw) .nil) (some LM) .nil)))) (some C5) (.node (.node (.node (.node .nil (some UO) .nil) (some Tm) (.node .nil none (.node .nil (some MJ) .nil))) (some Ta) (.node (.node (.node (.node .nil (some M0) .nil) (some Mb) .nil) (some UY) .nil) (some QG) .nil)) (some QB) (.node (.node (.node (.node (.node .nil (some MR) .nil) (some LZ) .nil) (some US) (.node (.node .nil (some No) .nil) none .nil)) (some Tq) (.node (.node (.node .nil (some M9) .nil) none .nil) (some LH) (.node .nil (some I9) .nil))) (some UB) (.node (.node (.node .nil (some Mg) .nil) none .nil) (some UG) (.node (.node (.node .nil (some Ni) .nil) (some MA) .nil) (some LQ) .nil)))))) none (.node (.node (.node (.node (.node (.node (.node .nil (some LU) .nil) (some UJ) (.node (.node .nil (some Nl) .nil) none .nil)) (some PU) (.node (.node .nil (some Mj) .nil) (some U3) (.node .nil (some ME) .nil))) (some S6) (.node (.node (.node (.node .nil (some MU) .nil) (some Ma) .nil) none .nil) (some Tu) (.node (.node (.node .nil (some Nc) .nil) (some Mq) .nil) none .nil))) (some C8) (.node (.node (.node (.node (.node .nil (some MN) .nil) (some LV) .nil) (some QI) .nil) (some UD) (.node (.node (.node .nil (some M4) .nil) (some Mm) .nil) none .nil)) (some Tc) (.node (.node (.node .nil (some Md) .nil) none .nil) (some QH) .nil))) (some C4) (.node (.node (.node (.node .nil (some UN) .nil) (some Tl) (.node (.node .nil (some Mk) .nil) (some LA) (.node .nil (some MI) .nil))) (some S9) (.node (.node (.node (.node .nil (some MZ) .nil) none .nil) (some UX) .nil) (some Tw) (.node (.node .nil (some Mu) .nil) none .nil))) (some Uz) (.node (.node (.node (.node (.node .nil (some MQ) .nil) (some LY) .nil) (some UR) .nil) (some Tp) (.node (.node (.node .nil (some M8) .nil) none .nil) (some LG) .nil)) (some Tg) (.node (.node (.node .nil (some Mf) .nil) none .nil) (some TC) (.node (.node .nil (some Mz) .nil) (some LP) .nil))))) none (.node (.node (.node (.node (.node .nil (some UL) (.node (.node .nil (some Nm) .nil) none .nil)) (some Tj) (.node .nil (some U5) (.node .nil (some MG) .nil))) (some S7) (.node (.node (.node (.node .nil (some MW) .nil) none .nil) none (.node (.node .nil (some Nr) .nil) none .nil)) (some QF) (.node (.node (.node .nil (some Nf) .nil) (some Ms) .nil) none .nil))) (some S1) (.node (.node (.node (.node (.node .nil (some MO) .nil) (some LX) .nil) (some TF) .nil) (some UF) (.node (.node (.node .nil (some M6) .nil) none .nil) none (.node .nil (some MM) .nil))) (some Te) (.node .nil (some TA) (.node (.node .nil (some Mx) .nil) (some LN) .nil)))) none (.node (.node (.node (.node .nil (some UP) .nil) (some QD) (.node .nil (some LB) (.node .nil (some MK) .nil))) (some UA) (.node (.node (.node (.node .nil (some M1) .nil) none .nil) (some UZ) (.node .nil (some MB) .nil)) (some Tx) .nil)) (some S3) (.node (.node (.node (.node (.node .nil (some MS) .nil) (some L2) .nil) (some UT) (.node (.node .nil (some Np) .nil) none .nil)) (some Ts) (.node (.node (.node .nil (some Na) .nil) (some Mo) .nil) (some LI) .nil)) (some UC) (.node (.node (.node .nil (some Mh) .nil) none (.node .nil (some MC) .nil)) (some UH) (.node (.node (.node .nil (some Nj) .nil) none .nil) (some LR) .nil)))))))
def fs(f:Nat):Option aj:=Tr.get T f
def ms(t:Nat)(n:String):Option Nat:=none
end Ir
end Go.Proofs.YtmnolnoeibhjgaaGreat
