/-
  What the program's functions are in Ads, printed by a program.
-/
import Derived.Test.YtmnolnoeibhjgaaGreatAdsDef
set_option linter.unusedVariables false
set_option maxRecDepth 100000
namespace Go.Proofs.YtmnolnoeibhjgaaGreat
open Go Ads
namespace Ir
abbrev zM (d s : Nat) : Ins := ⟨some d, none, .p .mov, [.t s]⟩
abbrev zF (d s o : Nat) : Ins := ⟨some d, none, .p (.faddr o), [.t s]⟩
abbrev zN (d s : Nat) : Ins := ⟨some d, none, .p .nilchk, [.t s]⟩
abbrev zL (d s : Nat) : Ins := ⟨some d, none, .r .load1, [.t s]⟩
abbrev zMg (d s g : Nat) (b : Bool) : Ins := ⟨some d, some (g, b), .p .mov, [.t s]⟩
abbrev zFg (d s o g : Nat) (b : Bool) : Ins := ⟨some d, some (g, b), .p (.faddr o), [.t s]⟩
abbrev zNg (d s g : Nat) (b : Bool) : Ins := ⟨some d, some (g, b), .p .nilchk, [.t s]⟩
abbrev zLg (d s g : Nat) (b : Bool) : Ins := ⟨some d, some (g, b), .r .load1, [.t s]⟩
def zs (l : List Nat) : String := String.ofList (l.map Char.ofNat)
abbrev zP (d : Nat) (o : POp) (l : List Rand) : Ins := ⟨some d, none, .p o, l⟩
abbrev zPg (d : Nat) (o : POp) (l : List Rand) (g : Nat) (b : Bool) : Ins := ⟨some d, some (g, b), .p o, l⟩
abbrev zS (n : Nat) (l : List Rand) : Ins := ⟨none, none, .e (.store n), l⟩
def C6 : AFunc := ⟨184, [.tmp 0],
(.seq (.ops [zP 0 .mov [.c (.bool false)]])
(.seq (.ops [zP 27 (.build [(.int .i64 0), (.int .i64 0), (.int .i64 0), (.int .i64 0), (.int .i64 0), .nils] [(0, 1), (3, 1)]) [.c (.int .i64 1), .c (.int .i64 (-1))],
⟨some 28, none, .a (.bslice [(.int .i64 0), (.int .i64 0), (.int .i64 0), (.int .i64 0), (.int .i64 0), .nils] 1 6 [0]), [.t 27]⟩,
⟨some 29, none, .call, [.c (.func (.func 9) [] []), .t 28]⟩,
 zM 26 29,
 zP 30 (.ext 0) [.t 26],
 zP 31 (.ext 1) [.t 26],
 zM 1 30,
 zM 2 31])
(.seq (.ops [⟨some 33, none, .a (.mkslice [(.int .i64 0), (.int .i64 0), (.str [])] 3 32), [.c (.int .i64 33), .c (.int .i64 33)]⟩,
 zP 34 (.build [(.int .i64 0), (.int .i64 0), (.int .i64 0), (.int .i64 0), (.int .i64 0), .nils] [(0, 1), (5, 1)]) [.c (.int .i64 1), .t 33],
⟨some 35, none, .a (.bslice [(.int .i64 0), (.int .i64 0), (.int .i64 0), (.int .i64 0), (.int .i64 0), .nils] 1 6 [0]), [.t 34]⟩,
⟨some 36, none, .call, [.c (.func (.func 9) [] []), .t 35]⟩,
 zM 32 36,
 zP 37 (.ext 0) [.t 32],
 zP 38 (.ext 1) [.t 32],
 zM 3 37,
 zM 4 38])
(.seq (.ops [zP 40 (.build [(.int .i64 0), (.int .i64 0), (.str [])] [(0, 1), (2, 1)]) [.c (.int .i64 1), .c (.str [49, 50, 51, 52, 53, 54, 55, 56, 57, 48, 49, 50, 51, 52, 53, 54, 55])],
⟨some 41, none, .a (.bslice [(.int .i64 0), (.int .i64 0), (.str [])] 1 3 [0]), [.t 40]⟩,
 zP 42 (.build [(.int .i64 0), (.int .i64 0), (.int .i64 0), (.int .i64 0), (.int .i64 0), .nils] [(0, 1), (5, 1)]) [.c (.int .i64 1), .t 41],
⟨some 43, none, .a (.bslice [(.int .i64 0), (.int .i64 0), (.int .i64 0), (.int .i64 0), (.int .i64 0), .nils] 1 6 [0]), [.t 42]⟩,
⟨some 44, none, .call, [.c (.func (.func 9) [] []), .t 43]⟩,
 zM 39 44,
 zP 45 (.ext 0) [.t 39],
 zP 46 (.ext 1) [.t 39],
 zM 5 45,
 zM 6 46])
(.seq (.ops [zP 48 (.build [(.int .i64 0), (.int .i64 0), (.int .i64 0), (.int .i64 0), (.int .i64 0), .nils] [(0, 1)]) [.c (.int .i64 9007199254740992)],
⟨some 49, none, .a (.bslice [(.int .i64 0), (.int .i64 0), (.int .i64 0), (.int .i64 0), (.int .i64 0), .nils] 1 6 [0]), [.t 48]⟩,
⟨some 50, none, .call, [.c (.func (.func 9) [] []), .t 49]⟩,
 zM 47 50,
 zP 51 (.ext 0) [.t 47],
 zP 52 (.ext 1) [.t 47],
 zM 7 51,
 zM 8 52])
(.seq (.ops [⟨some 54, none, .call, [.c (.func (.func 9) [] []), .c .nils]⟩,
 zM 53 54,
 zP 55 (.ext 0) [.t 53],
 zP 56 (.ext 1) [.t 53],
 zM 9 55,
 zM 10 56])
(.seq (.ops [⟨some 58, none, .call, [.c (.func (.func 14) [] []), .c .nils]⟩,
 zM 57 58,
 zP 59 (.ext 0) [.t 57],
 zP 60 (.ext 1) [.t 57],
 zM 11 59,
 zM 12 60])
(.seq (.ops [⟨some 61, none, .a (.bslice [(.int .u8 0)] 9 1 [0, 1, 2, 3, 4, 5, 6, 7, 8]), [.c (.int .u8 255), .c (.int .u8 0), .c (.int .u8 0), .c (.int .u8 0), .c (.int .u8 0), .c (.int .u8 0), .c (.int .u8 0), .c (.int .u8 15), .c (.int .u8 3)]⟩,
 zM 13 61])
(.seq (.ops [zM 63 13,
⟨some 64, none, .call, [.c (.func (.func 14) [] []), .t 63]⟩,
 zM 62 64,
 zP 65 (.ext 0) [.t 62],
 zP 66 (.ext 1) [.t 62],
 zM 14 65,
 zM 15 66])
(.seq (.ops [⟨some 68, none, .a (.bslice [(.int .u8 0)] 9 1 [0, 1, 2, 3, 4, 5, 6, 7, 8]), [.c (.int .u8 255), .c (.int .u8 0), .c (.int .u8 0), .c (.int .u8 0), .c (.int .u8 0), .c (.int .u8 0), .c (.int .u8 0), .c (.int .u8 15), .c (.int .u8 2)]⟩,
⟨some 69, none, .call, [.c (.func (.func 14) [] []), .t 68]⟩,
 zM 67 69,
 zP 70 (.ext 0) [.t 67],
 zP 71 (.ext 1) [.t 67],
 zM 16 70,
 zM 17 71])
(.seq (.ops [⟨some 73, none, .a (.bslice [(.int .u8 0)] 9 1 [0, 1, 2, 3, 4, 5, 6, 7, 8]), [.c (.int .u8 255), .c (.int .u8 0), .c (.int .u8 0), .c (.int .u8 0), .c (.int .u8 0), .c (.int .u8 0), .c (.int .u8 0), .c (.int .u8 0), .c (.int .u8 0)]⟩,
⟨some 74, none, .call, [.c (.func (.func 14) [] []), .t 73]⟩,
 zM 72 74,
 zP 75 (.ext 0) [.t 72],
 zP 76 (.ext 1) [.t 72],
 zM 18 75,
 zM 19 76])
(.seq (.ops [⟨some 78, none, .a (.bslice [(.int .u8 0)] 16 1 [0, 1, 2, 3, 4, 5, 6, 7, 8, 9, 10, 11, 12, 13, 14, 15]), [.c (.int .u8 0), .c (.int .u8 7), .c (.int .u8 1), .c (.int .u8 0), .c (.int .u8 0), .c (.int .u8 5), .c (.int .u8 0), .c (.int .u8 0), .c (.int .u8 9), .c (.int .u8 6), .c (.int .u8 1), .c (.int .u8 0), .c (.int .u8 0), .c (.int .u8 5), .c (.int .u8 0), .c (.int .u8 33)]⟩,
⟨some 79, none, .call, [.c (.func (.func 14) [] []), .t 78]⟩,
 zM 77 79,
 zP 80 (.ext 0) [.t 77],
 zP 81 (.ext 1) [.t 77],
 zM 20 80,
 zM 21 81])
(.seq (.ops [zM 82 21,
 zP 83 (.bin .eql) [.t 82, .c (.int .i64 0)],
 zM 84 83,
 zMg 85 20 84 true,
 zPg 86 .lenS [.t 85] 84 true,
 zPg 87 (.bin .eql) [.t 86, .c (.int .i64 3)] 84 true,
 zP 88 .pick [.t 84, .t 87, .c (.bool false)],
 zM 89 88,
 zMg 90 20 89 true,
 zPg 91 (.iaddrS 7) [.t 90, .c (.int .i64 0)] 89 true,
 zFg 92 91 6 89 true,
 zLg 93 92 89 true,
 zPg 94 (.bin .eql) [.t 93, .c (.int .i64 3)] 89 true,
 zP 95 .pick [.t 89, .t 94, .c (.bool false)],
 zM 96 95,
 zMg 97 20 96 true,
 zPg 98 (.iaddrS 7) [.t 97, .c (.int .i64 1)] 96 true,
 zFg 99 98 6 96 true,
 zLg 100 99 96 true,
 zPg 101 (.bin .eql) [.t 100, .c (.int .i64 4)] 96 true,
 zP 102 .pick [.t 96, .t 101, .c (.bool false)],
 zM 103 102,
 zMg 104 20 103 true,
 zPg 105 (.iaddrS 7) [.t 104, .c (.int .i64 2)] 103 true,
 zFg 106 105 6 103 true,
 zLg 107 106 103 true,
 zPg 108 (.bin .eql) [.t 107, .c (.int .i64 5)] 103 true,
 zP 109 .pick [.t 103, .t 108, .c (.bool false)],
 zM 110 109,
 zMg 111 20 110 true,
⟨some 112, some (110, true), .call, [.c (.func (.func 17) [] []), .t 111]⟩,
 zPg 113 .lenS [.t 112] 110 true,
 zPg 114 (.bin .eql) [.t 113, .c (.int .i64 0)] 110 true,
 zP 115 .pick [.t 110, .t 114, .c (.bool false)],
 zM 22 115])
(.seq (.ops [zP 117 (.build [.nils, .nils] []) [],
⟨some 118, none, .a (.bslice [(.int .u8 0)] 7 1 [0, 1, 2, 3, 4, 5, 6]), [.c (.int .u8 6), .c (.int .u8 3), .c (.int .u8 0), .c (.int .u8 0), .c (.int .u8 0), .c (.int .u8 0), .c (.int .u8 0)]⟩,
⟨some 119, none, .call, [.c (.func (.func 22) [] []), .t 117, .t 118]⟩,
 zM 116 119,
 zP 120 (.ext 0) [.t 116],
 zP 121 (.ext 1) [.t 116],
 zP 122 (.ext 2) [.t 116],
 zM 23 120,
 zM 24 121,
 zM 25 122])
(.seq (.ops [zP 123 .mov [.c (.bool true)],
⟨some 124, some (123, true), .call, [.c (.func (.func 12) [] [])]⟩,
 zP 125 .pick [.t 123, .t 124, .c (.bool false)],
 zM 126 125,
 zMg 127 2 126 true,
 zPg 128 (.bin .eql) [.t 127, .c (.int .i64 2)] 126 true,
 zP 129 .pick [.t 126, .t 128, .c (.bool false)],
 zM 130 129,
 zMg 131 4 130 true,
 zPg 132 (.bin .eql) [.t 131, .c (.int .i64 5)] 130 true,
 zP 133 .pick [.t 130, .t 132, .c (.bool false)],
 zM 134 133,
 zMg 135 6 134 true,
 zPg 136 (.bin .eql) [.t 135, .c (.int .i64 5)] 134 true,
 zP 137 .pick [.t 134, .t 136, .c (.bool false)],
 zM 138 137,
 zMg 139 8 138 true,
 zPg 140 (.bin .eql) [.t 139, .c (.int .i64 2)] 138 true,
 zP 141 .pick [.t 138, .t 140, .c (.bool false)],
 zM 142 141,
 zMg 143 9 142 true,
 zPg 144 .lenS [.t 143] 142 true,
 zPg 145 (.bin .eql) [.t 144, .c (.int .i64 0)] 142 true,
 zP 146 .pick [.t 142, .t 145, .c (.bool false)],
 zM 147 146,
 zMg 148 10 147 true,
 zPg 149 (.bin .eql) [.t 148, .c (.int .i64 0)] 147 true,
 zP 150 .pick [.t 147, .t 149, .c (.bool false)],
 zM 151 150,
 zMg 152 11 151 true,
 zPg 153 .lenS [.t 152] 151 true,
 zPg 154 (.bin .eql) [.t 153, .c (.int .i64 0)] 151 true,
 zP 155 .pick [.t 151, .t 154, .c (.bool false)],
 zM 156 155,
 zMg 157 12 156 true,
 zPg 158 (.bin .eql) [.t 157, .c (.int .i64 0)] 156 true,
 zP 159 .pick [.t 156, .t 158, .c (.bool false)],
 zM 160 159,
 zMg 161 15 160 true,
 zPg 162 (.bin .eql) [.t 161, .c (.int .i64 5)] 160 true,
 zP 163 .pick [.t 160, .t 162, .c (.bool false)],
 zM 164 163,
 zMg 165 17 164 true,
 zPg 166 (.bin .eql) [.t 165, .c (.int .i64 3)] 164 true,
 zP 167 .pick [.t 164, .t 166, .c (.bool false)],
 zM 168 167,
 zMg 169 19 168 true,
 zPg 170 (.bin .eql) [.t 169, .c (.int .i64 4)] 168 true,
 zP 171 .pick [.t 168, .t 170, .c (.bool false)],
 zM 172 171,
 zMg 173 22 172 true,
 zP 174 .pick [.t 172, .t 173, .c (.bool false)],
 zM 175 174,
 zMg 176 24 175 true,
 zPg 177 .lenS [.t 176] 175 true,
 zPg 178 (.bin .eql) [.t 177, .c (.int .i64 0)] 175 true,
 zP 179 .pick [.t 175, .t 178, .c (.bool false)],
 zM 180 179,
 zMg 181 25 180 true,
 zPg 182 (.bin .eql) [.t 181, .c (.int .i64 50)] 180 true,
 zP 183 .pick [.t 180, .t 182, .c (.bool false)],
 zM 0 183])
.ret)))))))))))))))⟩
abbrev f_escapementlaw28_TapeNames : Nat := 6
abbrev C_escapementlaw28_TapeNames : AFunc := C6
def L_tape_Check_0 : AC := (.seq (.ops [zP 28 (.bin .lss) [.t 27, .t 26]])
(.seq (.cond (.t 28)
.skip
(.exit 1))
(.seq (.block 2 (.seq (.ops [zP 29 (.iaddrS 3) [.t 25, .t 27],
⟨some 30, none, .r (.loadN 3), [.t 29]⟩,
⟨some 4, none, .a (.alloc [(.int .i64 0), (.int .i64 0), (.str [])]), []⟩,
 zS 3 [.t 4, .t 30]])
(.block 3 (.seq (.ops [zF 32 4 0,
 zL 33 32,
 zF 34 4 1,
 zL 35 34,
⟨some 36, none, .a (.bslice [(.int .i64 0)] 2 1 [0, 1]), [.t 33, .t 35]⟩,
⟨some 37, none, .call, [.c (.func (.func 23) [] []), .t 36]⟩,
 zP 38 .not [.t 37],
 zM 31 38])
(.cond (.t 31)
(.seq (.ops [zP 2 .mov [.c (.int .i64 2)]])
.ret)
(.seq (.ops [zF 40 4 2,
 zL 41 40,
 zP 42 .lenStr [.t 41],
 zP 43 (.bin .gtr) [.t 42, .c (.int .i64 16)],
 zM 39 43])
(.cond (.t 39)
(.seq (.ops [zP 2 .mov [.c (.int .i64 5)]])
.ret)
.skip)))))))
(.ops [zP 44 (.bin .add) [.t 27, .c (.int .i64 1)],
 zM 27 44]))))
def C7 : AFunc := ⟨45, [.tmp 2],
(.seq (.ops [⟨some 1, none, .a .box, [.t 0]⟩,
 zP 2 .mov [.c (.int .i64 0)]])
(.seq (.block 0 (.seq (.ops [zF 6 1 0,
 zL 7 6,
 zF 8 1 1,
 zL 9 8,
 zF 10 1 2,
 zL 11 10,
 zF 12 1 3,
 zL 13 12,
 zF 14 1 4,
 zL 15 14,
⟨some 16, none, .a (.bslice [(.int .i64 0)] 5 1 [0, 1, 2, 3, 4]), [.t 7, .t 9, .t 11, .t 13, .t 15]⟩,
⟨some 17, none, .call, [.c (.func (.func 23) [] []), .t 16]⟩,
 zP 18 .not [.t 17],
 zM 5 18])
(.cond (.t 5)
(.seq (.ops [zP 2 .mov [.c (.int .i64 2)]])
.ret)
(.seq (.ops [zF 20 1 5,
 zL 21 20,
 zP 22 .lenS [.t 21],
 zP 23 (.bin .gtr) [.t 22, .c (.int .i64 32)],
 zM 19 23])
(.cond (.t 19)
(.seq (.ops [zP 2 .mov [.c (.int .i64 5)]])
.ret)
.skip)))))
(.seq (.seq (.ops [zF 24 1 5,
 zL 25 24,
 zP 26 .lenS [.t 25],
 zP 27 .mov [.c (.int .i64 0)]])
(.block 1 (.loop L_tape_Check_0)))
(.seq (.ops [zP 2 .mov [.c (.int .i64 0)]])
.ret))))⟩
abbrev f_tape_Check : Nat := 7
abbrev C_tape_Check : AFunc := C7
def L_tape_Bytes_0 : AC := (.seq (.ops [zP 11 (.bin .lss) [.t 10, .t 9]])
(.seq (.cond (.t 11)
.skip
(.exit 0))
(.seq (.block 1 (.seq (.ops [zP 12 (.iaddrS 6) [.t 8, .t 10],
⟨some 13, none, .r (.loadN 6), [.t 12]⟩,
⟨some 5, none, .a (.alloc [(.int .i64 0), (.int .i64 0), (.int .i64 0), (.int .i64 0), (.int .i64 0), .nils]), []⟩,
 zS 6 [.t 5, .t 13]])
(.seq (.seq (.ops [⟨some 14, none, .r (.loadN 6), [.t 5]⟩,
⟨some 15, none, .call, [.c (.func (.func 7) [] []), .t 14]⟩,
 zM 6 15])
(.seq (.ops [zM 16 6,
 zP 17 (.bin .neq) [.t 16, .c (.int .i64 0)]])
(.cond (.t 17)
(.seq (.ops [zM 18 6,
 zP 2 .mov [.c .nils],
 zM 3 18])
.ret)
.skip)))
(.seq (.ops [⟨some 19, none, .r (.loadN 6), [.t 5]⟩,
⟨some 20, none, .call, [.c (.func (.func 25) [] []), .t 19]⟩,
 zM 7 20])
(.seq (.ops [zM 22 2,
 zM 23 7,
 zP 24 .lenS [.t 23],
⟨some 25, none, .a (.bslice [(.int .i64 0)] 1 1 [0]), [.t 24]⟩,
⟨some 26, none, .call, [.c (.func (.func 26) [] []), .t 22, .t 25]⟩,
 zM 21 26,
 zP 27 (.ext 0) [.t 21],
 zP 28 (.ext 1) [.t 21],
 zM 2 27])
(.ops [zM 29 2,
 zM 30 7,
⟨some 31, none, .e (.append 1 1), [.t 29, .t 30]⟩,
 zM 2 31]))))))
(.ops [zP 32 (.bin .add) [.t 10, .c (.int .i64 1)],
 zM 10 32]))))
def C9 : AFunc := ⟨34, [.tmp 2, .tmp 3],
(.seq (.ops [zP 2 .mov [.c .nils],
 zP 3 .mov [.c (.int .i64 0)]])
(.seq (.seq (.ops [zM 8 0,
 zP 9 .lenS [.t 8],
 zP 10 .mov [.c (.int .i64 0)]])
(.block 0 (.loop L_tape_Bytes_0)))
(.seq (.ops [zM 33 2,
 zM 2 33,
 zP 3 .mov [.c (.int .i64 0)]])
.ret)))⟩
abbrev f_tape_Bytes : Nat := 9
abbrev C_tape_Bytes : AFunc := C9
def C11 : AFunc := ⟨10, [.tmp 4],
(.seq (.ops [zP 4 .mov [.c (.bool false)]])
(.seq (.ops [zM 5 0,
⟨some 6, none, .r .toStr, [.t 5]⟩,
 zM 7 1,
⟨some 8, none, .r .toStr, [.t 7]⟩,
 zP 9 (.bin .eql) [.t 6, .t 8],
 zM 4 9])
.ret))⟩
abbrev f_escapementref00_EqBytes : Nat := 11
abbrev C_escapementref00_EqBytes : AFunc := C11
def C12 : AFunc := ⟨124, [.tmp 0],
(.seq (.ops [zP 0 .mov [.c (.bool false)]])
(.seq (.ops [zP 12 (.build [(.int .i64 0), (.int .i64 0), (.int .i64 0), (.int .i64 0), (.int .i64 0), .nils] [(0, 1), (3, 1)]) [.c (.int .i64 1), .c (.int .i64 5)],
 zP 13 (.build [(.int .i64 0), (.int .i64 0), (.str [])] [(0, 1), (1, 1)]) [.c (.int .i64 1), .c (.int .i64 2)],
⟨some 14, none, .a (.bslice [(.int .i64 0), (.int .i64 0), (.str [])] 1 3 [0]), [.t 13]⟩,
 zP 15 (.build [(.int .i64 0), (.int .i64 0), (.int .i64 0), (.int .i64 0), (.int .i64 0), .nils] [(0, 1), (1, 1), (5, 1)]) [.c (.int .i64 2), .c (.int .i64 1), .t 14],
⟨some 16, none, .a (.bslice [(.int .i64 0), (.int .i64 0), (.int .i64 0), (.int .i64 0), (.int .i64 0), .nils] 2 6 [0, 1]), [.t 12, .t 15]⟩,
⟨some 17, none, .call, [.c (.func (.func 9) [] []), .t 16]⟩,
 zM 11 17,
 zP 18 (.ext 0) [.t 11],
 zP 19 (.ext 1) [.t 11],
 zM 1 18,
 zM 2 19])
(.seq (.ops [⟨some 21, none, .a (.bslice [(.int .u8 0)] 10 1 [0, 1, 2, 3, 4, 5, 6, 7, 8, 9]), [.c (.int .u8 6), .c (.int .u8 1), .c (.int .u8 0), .c (.int .u8 0), .c (.int .u8 5), .c (.int .u8 0), .c (.int .u8 0), .c (.int .u8 1), .c (.int .u8 7), .c (.int .u8 2)]⟩,
⟨some 22, none, .call, [.c (.func (.func 14) [] []), .t 21]⟩,
 zM 20 22,
 zP 23 (.ext 0) [.t 20],
 zP 24 (.ext 1) [.t 20],
 zM 3 23,
 zM 4 24])
(.seq (.ops [⟨some 26, none, .call, [.c (.func (.func 29) [] [])]⟩,
⟨some 27, none, .a (.bslice [(.int .u8 0)] 16 1 [0, 1, 2, 3, 4, 5, 6, 7, 8, 9, 10, 11, 12, 13, 14, 15]), [.c (.int .u8 6), .c (.int .u8 3), .c (.int .u8 0), .c (.int .u8 0), .c (.int .u8 0), .c (.int .u8 0), .c (.int .u8 0), .c (.int .u8 1), .c (.int .u8 7), .c (.int .u8 6), .c (.int .u8 1), .c (.int .u8 0), .c (.int .u8 0), .c (.int .u8 3), .c (.int .u8 0), .c (.int .u8 0)]⟩,
⟨some 28, none, .call, [.c (.func (.func 22) [] []), .t 26, .t 27]⟩,
 zM 25 28,
 zP 29 (.ext 0) [.t 25],
 zP 30 (.ext 1) [.t 25],
 zP 31 (.ext 2) [.t 25],
 zM 5 29,
 zM 6 30,
 zM 7 31])
(.seq (.ops [zM 32 2,
 zP 33 (.bin .eql) [.t 32, .c (.int .i64 0)],
 zM 34 33,
 zMg 35 1 34 true,
⟨some 36, some (34, true), .a (.bslice [(.int .u8 0)] 17 1 [0, 1, 2, 3, 4, 5, 6, 7, 8, 9, 10, 11, 12, 13, 14, 15, 16]), [.c (.int .u8 6), .c (.int .u8 1), .c (.int .u8 0), .c (.int .u8 0), .c (.int .u8 5), .c (.int .u8 0), .c (.int .u8 0), .c (.int .u8 9), .c (.int .u8 2), .c (.int .u8 1), .c (.int .u8 0), .c (.int .u8 0), .c (.int .u8 0), .c (.int .u8 1), .c (.int .u8 1), .c (.int .u8 2), .c (.int .u8 0)]⟩,
⟨some 37, some (34, true), .call, [.c (.func (.func 11) [] []), .t 35, .t 36]⟩,
 zP 38 .pick [.t 34, .t 37, .c (.bool false)],
 zM 8 38])
(.seq (.ops [zM 39 4,
 zP 40 (.bin .eql) [.t 39, .c (.int .i64 3)],
 zM 41 40,
 zMg 42 3 41 true,
 zPg 43 .lenS [.t 42] 41 true,
 zPg 44 (.bin .eql) [.t 43, .c (.int .i64 2)] 41 true,
 zP 45 .pick [.t 41, .t 44, .c (.bool false)],
 zM 46 45,
 zMg 47 3 46 true,
 zPg 48 (.iaddrS 7) [.t 47, .c (.int .i64 0)] 46 true,
 zFg 49 48 6 46 true,
 zLg 50 49 46 true,
 zPg 51 (.bin .eql) [.t 50, .c (.int .i64 0)] 46 true,
 zP 52 .pick [.t 46, .t 51, .c (.bool false)],
 zM 53 52,
 zMg 54 3 53 true,
 zPg 55 (.iaddrS 7) [.t 54, .c (.int .i64 0)] 53 true,
 zFg 56 55 0 53 true,
 zFg 57 56 0 53 true,
 zLg 58 57 53 true,
 zPg 59 (.bin .eql) [.t 58, .c (.int .i64 1)] 53 true,
 zP 60 .pick [.t 53, .t 59, .c (.bool false)],
 zM 61 60,
 zMg 62 3 61 true,
 zPg 63 (.iaddrS 7) [.t 62, .c (.int .i64 0)] 61 true,
 zFg 64 63 0 61 true,
 zFg 65 64 3 61 true,
 zLg 66 65 61 true,
 zPg 67 (.bin .eql) [.t 66, .c (.int .i64 5)] 61 true,
 zP 68 .pick [.t 61, .t 67, .c (.bool false)],
 zM 69 68,
 zMg 70 3 69 true,
 zPg 71 (.iaddrS 7) [.t 70, .c (.int .i64 1)] 69 true,
 zFg 72 71 6 69 true,
 zLg 73 72 69 true,
 zPg 74 (.bin .eql) [.t 73, .c (.int .i64 3)] 69 true,
 zP 75 .pick [.t 69, .t 74, .c (.bool false)],
 zM 76 75,
 zMg 77 3 76 true,
 zPg 78 (.iaddrS 7) [.t 77, .c (.int .i64 1)] 76 true,
 zFg 79 78 0 76 true,
 zFg 80 79 0 76 true,
 zLg 81 80 76 true,
 zPg 82 (.bin .eql) [.t 81, .c (.int .i64 0)] 76 true,
 zP 83 .pick [.t 76, .t 82, .c (.bool false)],
 zM 9 83])
(.seq (.ops [zM 84 7,
 zP 85 (.bin .eql) [.t 84, .c (.int .i64 0)],
 zM 86 85,
 zMg 87 6 86 true,
 zPg 88 .lenS [.t 87] 86 true,
 zPg 89 (.bin .eql) [.t 88, .c (.int .i64 3)] 86 true,
 zP 90 .pick [.t 86, .t 89, .c (.bool false)],
 zM 91 90,
 zMg 92 6 91 true,
 zPg 93 (.iaddrS 1) [.t 92, .c (.int .i64 0)] 91 true,
 zLg 94 93 91 true,
 zPg 95 (.bin .eql) [.t 94, .c (.int .i64 0)] 91 true,
 zP 96 .pick [.t 91, .t 95, .c (.bool false)],
 zM 97 96,
 zMg 98 6 97 true,
 zPg 99 (.iaddrS 1) [.t 98, .c (.int .i64 1)] 97 true,
 zLg 100 99 97 true,
 zPg 101 (.bin .eql) [.t 100, .c (.int .i64 3)] 97 true,
 zP 102 .pick [.t 97, .t 101, .c (.bool false)],
 zM 103 102,
 zMg 104 6 103 true,
 zPg 105 (.iaddrS 1) [.t 104, .c (.int .i64 2)] 103 true,
 zLg 106 105 103 true,
 zPg 107 (.bin .eql) [.t 106, .c (.int .i64 0)] 103 true,
 zP 108 .pick [.t 103, .t 107, .c (.bool false)],
 zM 10 108])
(.seq (.ops [zM 109 8,
 zM 110 109,
 zMg 111 9 110 true,
 zP 112 .pick [.t 110, .t 111, .c (.bool false)],
 zM 113 112,
 zMg 114 10 113 true,
 zP 115 .pick [.t 113, .t 114, .c (.bool false)],
 zM 116 115,
 zMg 117 5 116 true,
 zPg 118 (.build [(.int .i64 0), (.int .i64 0), (.int .i64 0), (.int .i64 0), (.int .i64 0), (.int .i64 0), (.str [])] [(1, 1)]) [.c (.int .i64 6)] 116 true,
 zPg 119 (.build [(.int .i64 0), (.int .i64 0), (.int .i64 0), (.int .i64 0), (.int .i64 0), (.int .i64 0), (.str [])] [(1, 1), (3, 1)]) [.c (.int .i64 1), .c (.int .i64 (-1))] 116 true,
 zPg 120 (.build [(.int .i64 0), (.int .i64 0), (.int .i64 0), (.int .i64 0), (.int .i64 0), (.int .i64 0), (.str [])] [(0, 1), (1, 1), (3, 1)]) [.c (.int .i64 1), .c (.int .i64 1), .c (.int .i64 (-1))] 116 true,
⟨some 121, some (116, true), .a (.bslice [(.int .i64 0), (.int .i64 0), (.int .i64 0), (.int .i64 0), (.int .i64 0), (.int .i64 0), (.str [])] 3 7 [0, 1, 2]), [.t 118, .t 119, .t 120]⟩,
⟨some 122, some (116, true), .call, [.c (.func (.func 30) [] []), .t 117, .t 121]⟩,
 zP 123 .pick [.t 116, .t 122, .c (.bool false)],
 zM 0 123])
.ret))))))))⟩
abbrev f_escapementlaw28_works : Nat := 12
abbrev C_escapementlaw28_works : AFunc := C12
def L_tape_Parse_0 : AC := (.seq (.seq (.ops [zM 7 0,
 zP 8 .lenS [.t 7],
 zP 9 (.bin .gtr) [.t 8, .c (.int .i64 0)]])
(.cond (.t 9)
.skip
(.exit 0)))
(.block 1 (.seq (.ops [zM 10 0,
⟨some 11, none, .call, [.c (.func (.func 31) [] []), .t 10]⟩,
 zM 4 11])
(.seq (.ops [zM 12 4,
⟨some 13, none, .call, [.c (.func (.func 32) [] []), .t 12, .c (.int .i64 4096)]⟩,
 zM 5 13])
(.seq (.seq (.ops [zM 14 4,
⟨some 15, none, .call, [.c (.func (.func 33) [] []), .t 14]⟩,
 zM 6 15])
(.seq (.ops [zM 16 6,
 zP 17 (.bin .neq) [.t 16, .c (.int .i64 0)]])
(.cond (.t 17)
(.seq (.ops [zM 18 2,
 zM 19 6,
 zM 2 18,
 zM 3 19])
.ret)
.skip)))
(.seq (.seq (.ops [zM 20 5,
 zM 21 4,
⟨some 22, none, .call, [.c (.func (.func 34) [] []), .t 21]⟩,
 zP 23 (.bin .gtr) [.t 20, .t 22]])
(.cond (.t 23)
(.seq (.ops [zM 24 2,
 zM 2 24,
 zP 3 .mov [.c (.int .i64 3)]])
.ret)
.skip))
(.seq (.ops [zM 25 0,
 zM 26 0,
 zP 27 .lenS [.t 26],
 zM 28 4,
⟨some 29, none, .call, [.c (.func (.func 34) [] []), .t 28]⟩,
 zP 30 (.bin .sub) [.t 27, .t 29],
 zP 31 (.slice 1 true false false) [.t 25, .t 30],
 zM 0 31])
(.seq (.ops [zM 32 2,
 zM 33 0,
 zM 34 5,
 zP 35 (.slice 1 false true false) [.t 33, .t 34],
⟨some 36, none, .call, [.c (.func (.func 35) [] []), .t 35]⟩,
⟨some 37, none, .a (.bslice [(.int .i64 0), (.int .i64 0), (.int .i64 0), (.int .i64 0), (.int .i64 0), .nils, (.int .i64 0)] 1 7 [0]), [.t 36]⟩,
⟨some 38, none, .e (.append 7 72), [.t 32, .t 37]⟩,
 zM 2 38])
(.ops [zM 39 0,
 zM 40 5,
 zP 41 (.slice 1 true false false) [.t 39, .t 40],
 zM 0 41])))))))))
def C14 : AFunc := ⟨43, [.tmp 2, .tmp 3],
(.seq (.ops [zP 2 .mov [.c .nils],
 zP 3 .mov [.c (.int .i64 0)]])
(.seq (.block 0 (.loop L_tape_Parse_0))
(.seq (.ops [zM 42 2,
 zM 2 42,
 zP 3 .mov [.c (.int .i64 0)]])
.ret)))⟩
abbrev f_tape_Parse : Nat := 14
abbrev C_tape_Parse : AFunc := C14
def L_tape_Good_0 : AC := (.seq (.ops [zP 9 (.bin .lss) [.t 8, .t 7]])
(.seq (.cond (.t 9)
.skip
(.exit 0))
(.seq (.block 1 (.seq (.ops [zP 10 (.iaddrS 7) [.t 6, .t 8],
⟨some 11, none, .r (.loadN 7), [.t 10]⟩,
⟨some 4, none, .a (.alloc [(.int .i64 0), (.int .i64 0), (.int .i64 0), (.int .i64 0), (.int .i64 0), .nils, (.int .i64 0)]), []⟩,
 zS 7 [.t 4, .t 11]])
(.seq (.ops [zF 12 4 6,
 zL 13 12,
 zP 14 (.bin .eql) [.t 13, .c (.int .i64 0)]])
(.cond (.t 14)
(.seq (.ops [zF 15 4 0,
⟨some 16, none, .r (.loadN 6), [.t 15]⟩,
⟨some 5, none, .a (.alloc [(.int .i64 0), (.int .i64 0), (.int .i64 0), (.int .i64 0), (.int .i64 0), .nils]), []⟩,
 zS 6 [.t 5, .t 16]])
(.seq (.ops [zF 17 5 5,
 zL 18 17,
⟨some 19, none, .call, [.c (.func (.func 38) [] []), .t 18]⟩,
 zF 20 5 5,
 zS 1 [.t 20, .t 19]])
(.ops [zM 21 2,
⟨some 22, none, .r (.loadN 6), [.t 5]⟩,
⟨some 23, none, .a (.bslice [(.int .i64 0), (.int .i64 0), (.int .i64 0), (.int .i64 0), (.int .i64 0), .nils] 1 6 [0]), [.t 22]⟩,
⟨some 24, none, .e (.append 6 64), [.t 21, .t 23]⟩,
 zM 2 24])))
.skip))))
(.ops [zP 25 (.bin .add) [.t 8, .c (.int .i64 1)],
 zM 8 25]))))
def C17 : AFunc := ⟨27, [.tmp 2],
(.seq (.ops [zP 2 .mov [.c .nils]])
(.seq (.seq (.ops [zM 6 0,
 zP 7 .lenS [.t 6],
 zP 8 .mov [.c (.int .i64 0)]])
(.block 0 (.loop L_tape_Good_0)))
(.seq (.ops [zM 26 2,
 zM 2 26])
.ret)))⟩
abbrev f_tape_Good : Nat := 17
abbrev C_tape_Good : AFunc := C17
def L_tape_Play_0 : AC := (.seq (.ops [zP 29 (.bin .lss) [.t 28, .t 27]])
(.seq (.cond (.t 29)
.skip
(.exit 0))
(.seq (.block 1 (.seq (.ops [zP 30 (.iaddrS 7) [.t 26, .t 28],
⟨some 31, none, .r (.loadN 7), [.t 30]⟩,
⟨some 11, none, .a (.alloc [(.int .i64 0), (.int .i64 0), (.int .i64 0), (.int .i64 0), (.int .i64 0), .nils, (.int .i64 0)]), []⟩,
 zS 7 [.t 11, .t 31]])
(.seq (.ops [zF 32 11 6,
 zL 33 32,
 zM 12 33])
(.seq (.seq (.ops [zM 34 12,
 zP 35 (.bin .eql) [.t 34, .c (.int .i64 0)]])
(.cond (.t 35)
(.ops [zM 36 7,
 zF 37 11 0,
⟨some 38, none, .r (.loadN 6), [.t 37]⟩,
⟨some 39, none, .call, [.c (.func (.func 41) [] []), .t 36, .t 38]⟩,
 zM 12 39])
.skip))
(.ops [zM 40 5,
 zM 41 12,
⟨some 42, none, .a (.bslice [(.int .i64 0)] 1 1 [0]), [.t 41]⟩,
⟨some 43, none, .e (.append 1 8), [.t 40, .t 42]⟩,
 zM 5 43])))))
(.ops [zP 44 (.bin .add) [.t 28, .c (.int .i64 1)],
 zM 28 44]))))
def C22 : AFunc := ⟨49, [.tmp 4, .tmp 5, .tmp 6],
(.seq (.ops [⟨some 2, none, .a .box, [.t 0]⟩,
 zP 4 .mov [.c .nils],
 zP 5 .mov [.c .nils],
 zP 6 .mov [.c (.int .i64 0)]])
(.seq (.ops [⟨some 14, none, .r (.loadN 2), [.t 2]⟩,
⟨some 15, none, .call, [.c (.func (.func 40) [] []), .t 14]⟩,
 zM 13 15,
 zP 16 (.ext 0) [.t 13],
 zP 17 (.ext 1) [.t 13],
 zM 7 16,
 zM 6 17])
(.seq (.seq (.ops [zM 18 6,
 zP 19 (.bin .neq) [.t 18, .c (.int .i64 0)]])
(.cond (.t 19)
(.seq (.ops [zM 20 6,
 zP 4 .mov [.c .nils],
 zP 5 .mov [.c .nils],
 zM 6 20])
.ret)
.skip))
(.seq (.ops [zM 22 1,
⟨some 23, none, .call, [.c (.func (.func 14) [] []), .t 22]⟩,
 zM 21 23,
 zP 24 (.ext 0) [.t 21],
 zP 25 (.ext 1) [.t 21],
 zM 8 24,
 zM 9 25])
(.seq (.seq (.ops [zM 26 8,
 zP 27 .lenS [.t 26],
 zP 28 .mov [.c (.int .i64 0)]])
(.block 0 (.loop L_tape_Play_0)))
(.seq (.ops [zM 45 7,
⟨some 46, none, .call, [.c (.func (.func 42) [] []), .t 45]⟩,
 zM 47 5,
 zM 48 9,
 zM 4 46,
 zM 5 47,
 zM 6 48])
.ret))))))⟩
abbrev f_tape_Play : Nat := 22
abbrev C_tape_Play : AFunc := C22
def C23 : AFunc := ⟨6, [.tmp 2],
(.seq (.ops [zP 2 .mov [.c (.bool false)]])
(.seq (.ops [zM 3 0,
⟨some 4, none, .call, [.c (.func (.func 43) [] []), .t 3, .c (.func (.func 44) [] [])]⟩,
 zP 5 .not [.t 4],
 zM 2 5])
.ret))⟩
abbrev f_tape_numbers : Nat := 23
abbrev C_tape_numbers : AFunc := C23
def L_tape_entry_0a : AC := (.ops [zM 3 7])
def L_tape_entry_0b : AC := (.block 1 (.dops [zL 9 2,
 zM 10 3,
 zN 11 10,
 zL 12 11,
⟨some 13, none, .a (.bslice [(.int .i64 0)] 1 1 [0]), [.t 12]⟩,
⟨some 14, none, .call, [.c (.func (.func 26) [] []), .t 9, .t 13]⟩,
 zM 8 14,
 zP 15 (.ext 0) [.t 8],
 zP 16 (.ext 1) [.t 8],
 zS 1 [.t 2, .t 15]] [[], [], [], [], [], [], [], [], [], []]))
def L_tape_entry_1 : AC := (.seq (.ops [zP 30 (.bin .lss) [.t 29, .t 28]])
(.seq (.cond (.t 30)
.skip
(.exit 2))
(.seq (.block 3 (.seq (.ops [zP 31 (.iaddrS 3) [.t 27, .t 29],
⟨some 32, none, .r (.loadN 3), [.t 31]⟩,
⟨some 5, none, .a (.alloc [(.int .i64 0), (.int .i64 0), (.str [])]), []⟩,
 zS 3 [.t 5, .t 32]])
(.seq (.ops [zL 34 2,
 zF 35 5 0,
 zL 36 35,
 zF 37 5 1,
 zL 38 37,
⟨some 39, none, .a (.bslice [(.int .i64 0)] 2 1 [0, 1]), [.t 36, .t 38]⟩,
⟨some 40, none, .call, [.c (.func (.func 26) [] []), .t 34, .t 39]⟩,
 zM 33 40,
 zP 41 (.ext 0) [.t 33],
 zP 42 (.ext 1) [.t 33],
 zS 1 [.t 2, .t 41]])
(.ops [zL 44 2,
 zF 45 5 2,
 zL 46 45,
⟨some 47, none, .call, [.c (.func (.func 46) [] []), .t 44, .t 46]⟩,
 zM 43 47,
 zP 48 (.ext 0) [.t 43],
 zP 49 (.ext 1) [.t 43],
 zS 1 [.t 2, .t 48]]))))
(.ops [zP 50 (.bin .add) [.t 29, .c (.int .i64 1)],
 zM 29 50]))))
def C25 : AFunc := ⟨52, [.cell 2 1 false],
(.seq (.ops [⟨some 1, none, .a .box, [.t 0]⟩,
⟨some 2, none, .a (.alloc [.nils]), []⟩])
(.seq (.seq (.ops [⟨some 6, none, .call, [.c (.func (.func 45) [] []), .t 1]⟩])
(.block 0 (.rangeFunc (.t 6) [7] L_tape_entry_0a L_tape_entry_0b)))
(.seq (.ops [zL 18 2,
 zF 19 1 5,
 zL 20 19,
 zP 21 .lenS [.t 20],
⟨some 22, none, .a (.bslice [(.int .i64 0)] 1 1 [0]), [.t 21]⟩,
⟨some 23, none, .call, [.c (.func (.func 26) [] []), .t 18, .t 22]⟩,
 zM 17 23,
 zP 24 (.ext 0) [.t 17],
 zP 25 (.ext 1) [.t 17],
 zS 1 [.t 2, .t 24]])
(.seq (.seq (.ops [zF 26 1 5,
 zL 27 26,
 zP 28 .lenS [.t 27],
 zP 29 .mov [.c (.int .i64 0)]])
(.block 2 (.loop L_tape_entry_1)))
(.seq (.ops [zL 51 2,
 zS 1 [.t 2, .t 51]])
.ret)))))⟩
abbrev f_tape_entry : Nat := 25
abbrev C_tape_entry : AFunc := C25
def L_pack_Put_1 : AC := (.seq (.seq (.ops [zM 21 9,
 zP 22 (.bin .geq) [.t 21, .c (.int .i64 0)]])
(.cond (.t 22)
.skip
(.exit 3)))
(.seq (.block 4 (.ops [zM 25 6,
 zM 26 8,
 zP 27 (.bin .sub) [.t 26, .c (.int .i64 255)],
 zP 28 (.bin .add) [.t 27, .c (.int .i64 1)],
 zM 29 9,
 zP 30 (.bin .shr) [.t 28, .t 29],
 zP 31 (.conv .u8) [.t 30],
⟨some 32, none, .a (.bslice [(.int .u8 0)] 1 1 [0]), [.t 31]⟩,
⟨some 33, none, .e (.append 1 1), [.t 25, .t 32]⟩,
 zM 6 33]))
(.ops [zM 23 9,
 zP 24 (.bin .sub) [.t 23, .c (.int .i64 8)],
 zM 9 24])))
def L_pack_Put_0 : AC := (.seq (.ops [zP 15 (.bin .lss) [.t 14, .t 13]])
(.seq (.cond (.t 15)
.skip
(.exit 0))
(.seq (.block 1 (.seq (.ops [zP 16 (.iaddrS 1) [.t 12, .t 14],
 zL 17 16,
 zM 8 17])
(.block 2 (.seq (.ops [zM 35 8,
 zP 36 (.bin .lss) [.t 35, .c (.int .i64 0)],
 zM 37 36,
 zMg 38 8 37 false,
 zPg 39 (.bin .gtr) [.t 38, .c (.int .i64 9007199254740991)] 37 false,
 zP 40 .pick [.t 37, .c (.bool true), .t 39],
 zM 34 40])
(.cond (.t 34)
(.seq (.ops [zP 4 .mov [.c .nils],
 zP 5 .mov [.c (.int .i64 2)]])
.ret)
(.seq (.ops [zM 42 8,
 zP 43 (.bin .lss) [.t 42, .c (.int .i64 255)],
 zM 41 43])
(.cond (.t 41)
(.ops [zM 44 6,
 zM 45 8,
 zP 46 (.conv .u8) [.t 45],
⟨some 47, none, .a (.bslice [(.int .u8 0)] 1 1 [0]), [.t 46]⟩,
⟨some 48, none, .e (.append 1 1), [.t 44, .t 47]⟩,
 zM 6 48])
(.seq (.ops [zM 18 6,
⟨some 19, none, .a (.bslice [(.int .u8 0)] 1 1 [0]), [.c (.int .u8 255)]⟩,
⟨some 20, none, .e (.append 1 1), [.t 18, .t 19]⟩,
 zM 6 20])
(.seq (.ops [zP 9 .mov [.c (.int .i64 56)]])
(.block 3 (.loop L_pack_Put_1)))))))))))
(.ops [zP 49 (.bin .add) [.t 14, .c (.int .i64 1)],
 zM 14 49]))))
def C26 : AFunc := ⟨51, [.tmp 4, .tmp 5],
(.seq (.ops [zP 4 .mov [.c .nils],
 zP 5 .mov [.c (.int .i64 0)]])
(.seq (.ops [zM 10 0,
⟨some 11, none, .call, [.c (.func (.func 47) [] []), .t 10]⟩,
 zM 6 11])
(.seq (.seq (.ops [zM 12 1,
 zP 13 .lenS [.t 12],
 zP 14 .mov [.c (.int .i64 0)]])
(.block 0 (.loop L_pack_Put_0)))
(.seq (.ops [zM 50 6,
 zM 4 50,
 zP 5 .mov [.c (.int .i64 0)]])
.ret))))⟩
abbrev f_pack_Put : Nat := 26
abbrev C_pack_Put : AFunc := C26
def C29 : AFunc := ⟨6, [.cell 0 2 true],
(.seq (.ops [⟨some 0, none, .a (.alloc [.nils, .nils]), []⟩])
(.seq (.ops [zP 1 (.build [(.int .i64 0), (.int .i64 0), (.int .i64 0), (.int .i64 0), (.int .i64 0), (.int .i64 0), (.int .i64 0), (.int .i64 0)] [(0, 1), (1, 1), (2, 1)]) [.c (.int .i64 8), .c (.int .i64 8), .c (.int .i64 2)],
⟨some 2, none, .a (.bslice [(.int .i64 0), (.int .i64 0), (.int .i64 0), (.int .i64 0), (.int .i64 0), (.int .i64 0), (.int .i64 0), (.int .i64 0)] 1 8 [0]), [.t 1]⟩,
 zP 3 (.build [(.int .i64 0), (.int .i64 0), .nils] [(0, 1), (1, 1), (2, 1)]) [.c (.int .i64 4), .c (.int .i64 2), .t 2],
⟨some 4, none, .a (.bslice [(.int .i64 0), (.int .i64 0), .nils] 1 3 [0]), [.t 3]⟩,
 zP 5 (.build [.nils, .nils] [(0, 1)]) [.t 4],
 zS 2 [.t 0, .t 5]])
.ret))⟩
abbrev f_escapementlaw28_simple : Nat := 29
abbrev C_escapementlaw28_simple : AFunc := C29
def L_escapementlaw28_sameNotes_0 : AC := (.seq (.seq (.ops [zM 11 5,
 zM 12 0,
 zP 13 .lenS [.t 12],
 zP 14 (.bin .lss) [.t 11, .t 13]])
(.cond (.t 14)
.skip
(.exit 0)))
(.seq (.block 1 (.seq (.dops [zM 17 0,
 zM 18 5,
 zP 19 (.iaddrS 7) [.t 17, .t 18],
⟨some 20, none, .r (.loadN 7), [.t 19]⟩,
 zM 21 1,
 zM 22 5,
 zP 23 (.iaddrS 7) [.t 21, .t 22],
⟨some 24, none, .r (.loadN 7), [.t 23]⟩,
 zP 25 (.neq (.cells [0, 0, 0, 0, 0, 0, 2])) [.t 20, .t 24]] [[], [], [], [], [], [], [], [], []])
(.cond (.t 25)
(.seq (.ops [zP 4 .mov [.c (.bool false)]])
.ret)
.skip)))
(.ops [zM 15 5,
 zP 16 (.bin .add) [.t 15, .c (.int .i64 1)],
 zM 5 16])))
def C30 : AFunc := ⟨26, [.tmp 4],
(.seq (.ops [zP 4 .mov [.c (.bool false)]])
(.seq (.seq (.ops [zM 6 0,
 zP 7 .lenS [.t 6],
 zM 8 1,
 zP 9 .lenS [.t 8],
 zP 10 (.bin .neq) [.t 7, .t 9]])
(.cond (.t 10)
(.seq (.ops [zP 4 .mov [.c (.bool false)]])
.ret)
.skip))
(.seq (.seq (.ops [zP 5 .mov [.c (.int .i64 0)]])
(.block 0 (.loop L_escapementlaw28_sameNotes_0)))
(.seq (.ops [zP 4 .mov [.c (.bool true)]])
.ret))))⟩
abbrev f_escapementlaw28_sameNotes : Nat := 30
abbrev C_escapementlaw28_sameNotes : AFunc := C30
def C31 : AFunc := ⟨6, [.tmp 2],
(.seq (.ops [zP 2 .mov [.c .nilp]])
(.seq (.ops [zM 3 0,
 zP 4 (.build [.nils, (.int .i64 0)] [(0, 1)]) [.t 3],
⟨some 5, none, .a .box, [.t 4]⟩,
 zM 2 5])
.ret))⟩
abbrev f_pack_Read : Nat := 31
abbrev C_pack_Read : AFunc := C31
def C32 : AFunc := ⟨12, [.cell 4 1 false],
(.seq (.ops [⟨some 2, none, .a .box, [.t 0]⟩,
⟨some 3, none, .a .box, [.t 1]⟩,
⟨some 4, none, .a (.alloc [(.int .i64 0)]), []⟩])
(.seq (.ops [zL 6 2,
 zP 7 (.mkfunc (.func 50) 0) [.t 2, .t 4, .t 3],
⟨some 8, none, .call, [.c (.func (.func 49) [] []), .t 6, .t 7]⟩,
 zM 5 8])
(.seq (.seq (.ops [zM 9 5,
 zP 10 .not [.t 9]])
(.cond (.t 10)
(.seq (.ops [zS 1 [.t 4, .c (.int .i64 0)]])
.ret)
.skip))
(.seq (.ops [zL 11 4,
 zS 1 [.t 4, .t 11]])
.ret))))⟩
abbrev f_pack_Reader_Num : Nat := 32
abbrev C_pack_Reader_Num : AFunc := C32
def C33 : AFunc := ⟨9, [.tmp 2],
(.seq (.ops [zP 2 .mov [.c (.int .i64 0)]])
(.seq (.seq (.ops [zM 3 0,
 zP 4 (.eq .nilptr) [.t 3, .c .nilp]])
(.cond (.t 4)
(.seq (.ops [zP 2 .mov [.c (.int .i64 0)]])
.ret)
.skip))
(.seq (.ops [zM 5 0,
 zN 6 5,
 zF 7 6 1,
 zL 8 7,
 zM 2 8])
.ret)))⟩
abbrev f_pack_Reader_Err : Nat := 33
abbrev C_pack_Reader_Err : AFunc := C33
def C34 : AFunc := ⟨10, [.tmp 2],
(.seq (.ops [zP 2 .mov [.c (.int .i64 0)]])
(.seq (.seq (.ops [zM 3 0,
 zP 4 (.eq .nilptr) [.t 3, .c .nilp]])
(.cond (.t 4)
(.seq (.ops [zP 2 .mov [.c (.int .i64 0)]])
.ret)
.skip))
(.seq (.ops [zM 5 0,
 zN 6 5,
 zF 7 6 0,
 zL 8 7,
 zP 9 .lenS [.t 8],
 zM 2 9])
.ret)))⟩
abbrev f_pack_Reader_Left : Nat := 34
abbrev C_pack_Reader_Left : AFunc := C34
def L_tape_read_0a : AC := (.ops [zM 4 13])
def L_tape_read_0b : AC := (.block 1 (.seq (.ops [zM 14 4,
 zL 15 3,
⟨some 16, none, .call, [.c (.func (.func 32) [] []), .t 15, .c (.int .i64 9007199254740991)]⟩,
 zN 17 14,
 zS 1 [.t 17, .t 16]])
(.ops [zL 18 3,
⟨some 19, none, .call, [.c (.func (.func 52) [] []), .t 18]⟩])))
def L_tape_read_1 : AC := (.seq (.ops [zP 26 (.bin .lss) [.t 25, .t 24]])
(.seq (.cond (.t 26)
.skip
(.exit 2))
(.seq (.block 3 (.seq (.ops [zL 27 3,
⟨some 28, none, .call, [.c (.func (.func 32) [] []), .t 27, .c (.int .i64 9007199254740991)]⟩,
 zP 29 (.build [(.int .i64 0), (.int .i64 0), (.str [])] [(0, 1)]) [.t 28],
⟨some 6, none, .a (.alloc [(.int .i64 0), (.int .i64 0), (.str [])]), []⟩,
 zS 3 [.t 6, .t 29]])
(.seq (.ops [zL 30 3,
⟨some 31, none, .call, [.c (.func (.func 32) [] []), .t 30, .c (.int .i64 9007199254740991)]⟩,
 zF 32 6 1,
 zS 1 [.t 32, .t 31]])
(.seq (.ops [zL 33 3,
⟨some 34, none, .call, [.c (.func (.func 53) [] []), .t 33, .c (.int .i64 16)]⟩,
 zF 35 6 2,
 zS 1 [.t 35, .t 34]])
(.seq (.ops [zL 36 3,
⟨some 37, none, .call, [.c (.func (.func 52) [] []), .t 36]⟩])
(.ops [zF 38 2 0,
 zF 39 38 5,
 zL 40 39,
⟨some 41, none, .r (.loadN 3), [.t 6]⟩,
⟨some 42, none, .a (.bslice [(.int .i64 0), (.int .i64 0), (.str [])] 1 3 [0]), [.t 41]⟩,
⟨some 43, none, .e (.append 3 32), [.t 40, .t 42]⟩,
 zF 44 2 0,
 zF 45 44 5,
 zS 1 [.t 45, .t 43]]))))))
(.ops [zP 46 (.bin .add) [.t 25, .c (.int .i64 1)],
 zM 25 46]))))
def C35 : AFunc := ⟨54, [.cell 2 7 true],
(.seq (.ops [⟨some 2, none, .a (.alloc [(.int .i64 0), (.int .i64 0), (.int .i64 0), (.int .i64 0), (.int .i64 0), .nils, (.int .i64 0)]), []⟩])
(.seq (.ops [zP 8 (.mkfunc (.func 51) 0) [.t 2],
⟨none, none, .bad, [.c (.bool true), .t 8, .t 8, .t 8]⟩])
(.seq (.ops [zM 9 0,
⟨some 10, none, .call, [.c (.func (.func 31) [] []), .t 9]⟩,
⟨some 3, none, .a (.alloc [.nilp]), []⟩,
 zS 1 [.t 3, .t 10]])
(.seq (.seq (.ops [zF 11 2 0,
⟨some 12, none, .call, [.c (.func (.func 45) [] []), .t 11]⟩])
(.block 0 (.rangeFunc (.t 12) [13] L_tape_read_0a L_tape_read_0b)))
(.seq (.ops [zL 20 3,
⟨some 21, none, .call, [.c (.func (.func 32) [] []), .t 20, .c (.int .i64 32)]⟩,
 zM 5 21])
(.seq (.ops [zL 22 3,
⟨some 23, none, .call, [.c (.func (.func 52) [] []), .t 22]⟩])
(.seq (.seq (.ops [zM 24 5,
 zP 25 .mov [.c (.int .i64 0)]])
(.block 2 (.loop L_tape_read_1)))
(.seq (.seq (.ops [zL 47 3,
⟨some 48, none, .call, [.c (.func (.func 54) [] []), .t 47]⟩,
 zM 7 48])
(.seq (.ops [zM 49 7,
 zP 50 (.bin .neq) [.t 49, .c (.int .i64 0)]])
(.cond (.t 50)
(.ops [zM 51 7,
 zP 52 (.mkiface 26) [.t 51],
⟨none, none, .panic, [.t 52]⟩])
.skip)))
(.seq (.ops [⟨some 53, none, .r (.loadN 7), [.t 2]⟩,
 zS 7 [.t 2, .t 53]])
.ret)))))))))⟩
abbrev f_tape_read : Nat := 35
abbrev C_tape_read : AFunc := C35
def C40 : AFunc := ⟨38, [.tmp 2, .tmp 3],
(.seq (.ops [⟨some 1, none, .a .box, [.t 0]⟩,
 zP 2 .mov [.c .nilp],
 zP 3 .mov [.c (.int .i64 0)]])
(.seq (.seq (.ops [⟨some 8, none, .r (.loadN 2), [.t 1]⟩,
⟨some 9, none, .call, [.c (.func (.func 61) [] []), .t 8]⟩,
 zM 4 9])
(.seq (.ops [zM 10 4,
 zP 11 (.bin .neq) [.t 10, .c (.int .i64 0)]])
(.cond (.t 11)
(.seq (.ops [zM 12 4,
 zP 2 .mov [.c .nilp],
 zM 3 12])
.ret)
.skip)))
(.seq (.ops [zF 14 1 1,
 zL 15 14,
⟨some 16, none, .call, [.c (.func (.func 62) [] []), .t 15]⟩,
 zM 13 16,
 zP 17 (.ext 0) [.t 13],
 zP 18 (.ext 1) [.t 13],
 zM 5 17,
 zM 6 18])
(.seq (.seq (.ops [zM 19 6,
 zP 20 (.bin .neq) [.t 19, .c (.int .i64 0)]])
(.cond (.t 20)
(.seq (.ops [zM 21 6,
 zP 2 .mov [.c .nilp],
 zM 3 21])
.ret)
.skip))
(.seq (.ops [zF 22 1 0,
 zL 23 22,
 zP 24 .lenS [.t 23],
 zM 7 24])
(.seq (.dops [⟨some 25, none, .call, [.c (.func (.func 63) [] [])]⟩,
 zM 26 5,
⟨some 27, none, .call, [.c (.func (.func 64) [] [])]⟩,
⟨some 28, none, .call, [.c (.func (.func 65) [] [])]⟩,
 zP 29 (.build [.nilp, .nilp, .nilp, .nilp] [(0, 1), (1, 1), (2, 1), (3, 1)]) [.t 25, .t 26, .t 27, .t 28],
⟨some 30, none, .r (.loadN 2), [.t 1]⟩,
⟨some 31, none, .call, [.c (.func (.func 66) [] []), .t 30]⟩,
 zM 32 7,
⟨some 33, none, .a (.mkslice [.nilp] 1 8), [.t 32, .t 32]⟩,
 zM 34 7,
⟨some 35, none, .a (.mkslice [.nilp] 1 8), [.t 34, .t 34]⟩,
 zP 36 (.build [.nilp, .nilp, .nilp, .nilp, .nils, .nils, .nils, .nils, (.int .i64 0), (.int .i64 0), (.int .i64 0), .nils, .nils, .nils] [(0, 4), (4, 2), (8, 1), (11, 1), (12, 1)]) [.t 29, .t 31, .c (.int .i64 (-1)), .t 33, .t 35],
⟨some 37, none, .a .box, [.t 36]⟩,
 zM 2 37,
 zP 3 .mov [.c (.int .i64 0)]] [[], [], [], [], [], [0, 1, 3, 4], [], [], [], [], [], [], [], [], []])
.ret))))))⟩
abbrev f_kernel_New : Nat := 40
abbrev C_kernel_New : AFunc := C40
def C41 : AFunc := ⟨29, [.tmp 4],
(.seq (.ops [⟨some 3, none, .a .box, [.t 1]⟩,
 zP 4 .mov [.c (.int .i64 0)]])
(.seq (.seq (.ops [zM 8 0,
⟨some 9, none, .call, [.c (.func (.func 67) [] []), .t 8]⟩])
(.cond (.t 9)
(.seq (.ops [zP 4 .mov [.c (.int .i64 1)]])
.ret)
.skip))
(.seq (.dops [⟨some 11, none, .call, [.c (.func (.func 68) [] [])]⟩,
 zF 12 3 0,
 zL 13 12,
⟨some 14, none, .r (.lookup true .nilf), [.t 11, .t 13]⟩,
 zM 10 14,
 zP 15 (.ext 0) [.t 10],
 zP 16 (.ext 1) [.t 10],
 zM 5 15,
 zM 6 16] [[], [], [0, 1], [], [], [], [], [], []])
(.seq (.seq (.ops [zM 17 6,
 zP 18 .not [.t 17]])
(.cond (.t 18)
(.seq (.ops [zP 4 .mov [.c (.int .i64 2)]])
.ret)
.skip))
(.seq (.seq (.ops [zM 19 0,
⟨some 20, none, .r (.loadN 6), [.t 3]⟩,
⟨some 21, none, .call, [.c (.func (.func 69) [] []), .t 19, .t 20]⟩,
 zM 7 21])
(.seq (.ops [zM 22 7,
 zP 23 (.bin .neq) [.t 22, .c (.int .i64 0)]])
(.cond (.t 23)
(.seq (.ops [zM 24 7,
 zM 4 24])
.ret)
.skip)))
(.seq (.ops [zM 25 5,
 zM 26 0,
⟨some 27, none, .r (.loadN 6), [.t 3]⟩,
⟨some 28, none, .call, [.t 25, .t 26, .t 27]⟩,
 zM 4 28])
.ret))))))⟩
abbrev f_kernel_Kernel_Do : Nat := 41
abbrev C_kernel_Kernel_Do : AFunc := C41
def C42 : AFunc := ⟨10, [.tmp 2],
(.seq (.ops [zP 2 .mov [.c .nils]])
(.seq (.seq (.ops [zM 3 0,
⟨some 4, none, .call, [.c (.func (.func 67) [] []), .t 3]⟩])
(.cond (.t 4)
(.seq (.ops [zP 2 .mov [.c .nils]])
.ret)
.skip))
(.seq (.ops [zM 5 0,
 zN 6 5,
 zF 7 6 13,
 zL 8 7,
⟨some 9, none, .call, [.c (.func (.func 70) [] []), .t 8]⟩,
 zM 2 9])
.ret)))⟩
abbrev f_kernel_Kernel_Notes : Nat := 42
abbrev C_kernel_Kernel_Notes : AFunc := C42
def C43 : AFunc := ⟨9, [.tmp 4],
(.seq (.ops [zP 4 .mov [.c (.bool false)]])
(.seq (.ops [zM 5 0,
 zM 6 1,
⟨some 7, none, .call, [.c (.func (.func 71) [] []), .t 5, .t 6]⟩,
 zP 8 (.bin .geq) [.t 7, .c (.int .i64 0)],
 zM 4 8])
.ret))⟩
abbrev f_slices_ContainsFunc_int_int : Nat := 43
abbrev C_slices_ContainsFunc_int_int : AFunc := C43
def C44 : AFunc := ⟨9, [.tmp 2],
(.seq (.ops [zP 2 .mov [.c (.bool false)]])
(.seq (.ops [zM 3 0,
 zP 4 (.bin .lss) [.t 3, .c (.int .i64 0)],
 zM 5 4,
 zMg 6 0 5 false,
 zPg 7 (.bin .gtr) [.t 6, .c (.int .i64 9007199254740991)] 5 false,
 zP 8 .pick [.t 5, .c (.bool true), .t 7],
 zM 2 8])
.ret))⟩
abbrev f_tape_numbers_1 : Nat := 44
abbrev C_tape_numbers_1 : AFunc := C44
def C45 : AFunc := ⟨4, [.tmp 2],
(.seq (.ops [⟨some 1, none, .a .box, [.t 0]⟩,
 zP 2 .mov [.c .nilf]])
(.seq (.ops [zP 3 (.mkfunc (.func 72) 0) [.t 1],
 zM 2 3])
.ret))⟩
abbrev f_tape_fields : Nat := 45
abbrev C_tape_fields : AFunc := C45
def C46 : AFunc := ⟨23, [.tmp 4, .tmp 5],
(.seq (.ops [zP 4 .mov [.c .nils],
 zP 5 .mov [.c (.int .i64 0)]])
(.seq (.seq (.ops [zM 8 1,
 zP 9 .lenStr [.t 8],
 zP 10 (.bin .gtr) [.t 9, .c (.int .i64 65536)]])
(.cond (.t 10)
(.seq (.ops [zP 4 .mov [.c .nils],
 zP 5 .mov [.c (.int .i64 5)]])
.ret)
.skip))
(.seq (.ops [zM 12 0,
 zM 13 1,
 zP 14 .lenStr [.t 13],
⟨some 15, none, .a (.bslice [(.int .i64 0)] 1 1 [0]), [.t 14]⟩,
⟨some 16, none, .call, [.c (.func (.func 26) [] []), .t 12, .t 15]⟩,
 zM 11 16,
 zP 17 (.ext 0) [.t 11],
 zP 18 (.ext 1) [.t 11],
 zM 6 17,
 zM 7 18])
(.seq (.ops [zM 19 6,
 zM 20 1,
⟨some 21, none, .e (.append 1 1), [.t 19, .t 20]⟩,
 zM 22 7,
 zM 4 21,
 zM 5 22])
.ret))))⟩
abbrev f_pack_PutText : Nat := 46
abbrev C_pack_PutText : AFunc := C46
def C47 : AFunc := ⟨8, [.tmp 2],
(.seq (.ops [zP 2 .mov [.c .nils]])
(.seq (.seq (.ops [zM 3 0,
 zP 4 (.eq .nilsl) [.t 3, .c .nils]])
(.cond (.t 4)
(.seq (.ops [zP 2 .mov [.c .nils]])
.ret)
.skip))
(.seq (.ops [⟨some 5, none, .a (.bslice [(.int .u8 0)] 0 1 []), []⟩,
 zM 6 0,
⟨some 7, none, .e (.append 1 1), [.t 5, .t 6]⟩,
 zM 2 7])
.ret)))⟩
abbrev f_slices_Clone_byte_byte : Nat := 47
abbrev C_slices_Clone_byte_byte : AFunc := C47
def C49 : AFunc := ⟨39, [.tmp 4],
(.seq (.ops [zP 4 .mov [.c (.bool false)]])
(.seq (.seq (.ops [zM 7 0,
 zP 8 (.eq .nilptr) [.t 7, .c .nilp],
 zM 9 8,
 zMg 10 0 9 false,
 zNg 11 10 9 false,
 zFg 12 11 1 9 false,
 zLg 13 12 9 false,
 zPg 14 (.bin .neq) [.t 13, .c (.int .i64 0)] 9 false,
 zP 15 .pick [.t 9, .c (.bool true), .t 14]])
(.cond (.t 15)
(.seq (.ops [zP 4 .mov [.c (.bool false)]])
.ret)
.skip))
(.seq (.ops [zM 17 1,
⟨some 18, none, .call, [.t 17]⟩,
 zM 16 18,
 zP 19 (.ext 0) [.t 16],
 zP 20 (.ext 1) [.t 16],
 zM 5 19,
 zM 6 20])
(.seq (.seq (.ops [zM 21 6,
 zP 22 (.bin .neq) [.t 21, .c (.int .i64 0)]])
(.cond (.t 22)
(.seq (.ops [zM 23 0,
 zM 24 0,
 zM 25 6,
 zN 26 23,
 zF 27 26 0,
 zS 1 [.t 27, .c .nils],
 zN 28 24,
 zF 29 28 1,
 zS 1 [.t 29, .t 25]])
(.seq (.ops [zP 4 .mov [.c (.bool false)]])
.ret))
.skip))
(.seq (.ops [zM 30 0,
 zM 31 0,
 zN 32 31,
 zF 33 32 0,
 zL 34 33,
 zM 35 5,
 zP 36 (.slice 1 true false false) [.t 34, .t 35],
 zN 37 30,
 zF 38 37 0,
 zS 1 [.t 38, .t 36]])
(.seq (.ops [zP 4 .mov [.c (.bool true)]])
.ret))))))⟩
abbrev f_pack_Reader_step : Nat := 49
abbrev C_pack_Reader_step : AFunc := C49
def L_pack_Reader_Num_1_0 : AC := (.seq (.ops [zP 41 (.bin .lss) [.t 40, .t 39]])
(.seq (.cond (.t 41)
.skip
(.exit 0))
(.seq (.block 1 (.seq (.ops [zP 42 (.iaddrS 1) [.t 38, .t 40],
 zL 43 42,
 zM 8 43])
(.ops [zM 44 6,
 zP 45 (.bin .shl) [.t 44, .c (.int .u64 8)],
 zM 46 8,
 zP 47 (.conv .u64) [.t 46],
 zP 48 (.bin .or) [.t 45, .t 47],
 zM 6 48])))
(.ops [zP 49 (.bin .add) [.t 40, .c (.int .i64 1)],
 zM 40 49]))))
def C50 : AFunc := ⟨63, [.tmp 3, .tmp 4],
(.seq (.ops [zP 3 .mov [.c (.int .i64 0)],
 zP 4 .mov [.c (.int .i64 0)]])
(.seq (.seq (.ops [zL 9 0,
 zN 10 9,
 zF 11 10 0,
 zL 12 11,
 zP 13 .lenS [.t 12],
 zP 14 (.bin .eql) [.t 13, .c (.int .i64 0)]])
(.cond (.t 14)
(.seq (.ops [zP 3 .mov [.c (.int .i64 0)],
 zP 4 .mov [.c (.int .i64 3)]])
.ret)
.skip))
(.seq (.ops [zP 5 .mov [.c (.int .i64 1)]])
(.seq (.seq (.ops [zL 15 0,
 zN 16 15,
 zF 17 16 0,
 zL 18 17,
 zP 19 (.iaddrS 1) [.t 18, .c (.int .i64 0)],
 zL 20 19,
 zP 21 (.conv .i64) [.t 20],
 zS 1 [.t 1, .t 21]])
(.seq (.ops [zL 22 1,
 zP 23 (.bin .eql) [.t 22, .c (.int .i64 255)]])
(.cond (.t 23)
(.seq (.seq (.ops [zM 24 5,
 zP 25 (.bin .add) [.t 24, .c (.int .i64 8)],
 zM 5 25])
(.seq (.ops [zL 26 0,
 zN 27 26,
 zF 28 27 0,
 zL 29 28,
 zP 30 .lenS [.t 29],
 zM 31 5,
 zP 32 (.bin .lss) [.t 30, .t 31]])
(.cond (.t 32)
(.seq (.ops [zP 3 .mov [.c (.int .i64 0)],
 zP 4 .mov [.c (.int .i64 3)]])
.ret)
.skip)))
(.seq (.ops [zP 6 .mov [.c (.int .u64 0)]])
(.seq (.seq (.ops [zL 33 0,
 zN 34 33,
 zF 35 34 0,
 zL 36 35,
 zM 37 5,
 zP 38 (.slice 1 true true false) [.t 36, .c (.int .i64 1), .t 37],
 zP 39 .lenS [.t 38],
 zP 40 .mov [.c (.int .i64 0)]])
(.block 0 (.loop L_pack_Reader_Num_1_0)))
(.seq (.seq (.ops [zM 50 6,
 zP 51 (.bin .eql) [.t 50, .c (.int .u64 0)],
 zM 52 51,
 zMg 53 6 52 false,
 zPg 54 (.bin .gtr) [.t 53, .c (.int .u64 9007199254740737)] 52 false,
 zP 55 .pick [.t 52, .c (.bool true), .t 54]])
(.cond (.t 55)
(.seq (.ops [zP 3 .mov [.c (.int .i64 0)],
 zP 4 .mov [.c (.int .i64 4)]])
.ret)
.skip))
(.ops [zM 56 6,
 zP 57 (.conv .i64) [.t 56],
 zP 58 (.bin .add) [.c (.int .i64 254), .t 57],
 zS 1 [.t 1, .t 58]])))))
.skip)))
(.seq (.seq (.ops [zL 59 1,
 zL 60 2,
 zP 61 (.bin .gtr) [.t 59, .t 60]])
(.cond (.t 61)
(.seq (.ops [zP 3 .mov [.c (.int .i64 0)],
 zP 4 .mov [.c (.int .i64 5)]])
.ret)
.skip))
(.seq (.ops [zM 62 5,
 zM 3 62,
 zP 4 .mov [.c (.int .i64 0)]])
.ret))))))⟩
abbrev f_pack_Reader_Num_1 : Nat := 50
abbrev C_pack_Reader_Num_1 : AFunc := C50
def C51 : AFunc := ⟨8, [],
(.seq (.ops [⟨some 2, none, .bad, [.c (.bool false), .c (.bool false), .c (.bool false), .c (.bool false)]⟩,
 zM 1 2])
(.seq (.ops [zM 3 1,
 zP 4 (.neq .iface) [.t 3, .c .nili]])
(.cond (.t 4)
(.ops [zM 5 1,
 zP 6 (.tassert 26 false (.int .i64 0)) [.t 5],
 zP 7 (.build [(.int .i64 0), (.int .i64 0), (.int .i64 0), (.int .i64 0), (.int .i64 0), .nils, (.int .i64 0)] [(6, 1)]) [.t 6],
 zS 7 [.t 0, .t 7]])
.skip)))⟩
abbrev f_tape_read_1 : Nat := 51
abbrev C_tape_read_1 : AFunc := C51
def C52 : AFunc := ⟨9, [],
(.seq (.ops [zM 3 0,
⟨some 4, none, .call, [.c (.func (.func 33) [] []), .t 3]⟩,
 zM 2 4])
(.seq (.ops [zM 5 2,
 zP 6 (.bin .neq) [.t 5, .c (.int .i64 0)]])
(.cond (.t 6)
(.ops [zM 7 2,
 zP 8 (.mkiface 26) [.t 7],
⟨none, none, .panic, [.t 8]⟩])
.skip)))⟩
abbrev f_tape_must : Nat := 52
abbrev C_tape_must : AFunc := C52
def C54 : AFunc := ⟨13, [.tmp 2],
(.seq (.ops [zP 2 .mov [.c (.int .i64 0)]])
(.seq (.seq (.ops [zM 3 0,
⟨some 4, none, .call, [.c (.func (.func 33) [] []), .t 3]⟩,
 zP 5 (.bin .eql) [.t 4, .c (.int .i64 0)],
 zM 6 5,
 zMg 7 0 6 true,
⟨some 8, some (6, true), .call, [.c (.func (.func 34) [] []), .t 7]⟩,
 zPg 9 (.bin .gtr) [.t 8, .c (.int .i64 0)] 6 true,
 zP 10 .pick [.t 6, .t 9, .c (.bool false)]])
(.cond (.t 10)
(.seq (.ops [zP 2 .mov [.c (.int .i64 4)]])
.ret)
.skip))
(.seq (.ops [zM 11 0,
⟨some 12, none, .call, [.c (.func (.func 33) [] []), .t 11]⟩,
 zM 2 12])
.ret)))⟩
abbrev f_pack_Reader_End : Nat := 54
abbrev C_pack_Reader_End : AFunc := C54
def C61 : AFunc := ⟨27, [.tmp 2],
(.seq (.ops [⟨some 1, none, .a .box, [.t 0]⟩,
 zP 2 .mov [.c (.int .i64 0)]])
(.seq (.ops [zF 4 1 0,
 zL 5 4,
⟨some 6, none, .call, [.c (.func (.func 75) [] []), .t 5, .c (.func (.func 76) [] [])]⟩,
 zM 7 6,
 zFg 8 1 1 7 false,
 zLg 9 8 7 false,
 zPg 10 (.mkfunc (.func 79) 0) [.t 1] 7 false,
⟨some 11, some (7, false), .call, [.c (.func (.func 78) [] []), .t 9, .t 10]⟩,
 zP 12 .pick [.t 7, .c (.bool true), .t 11],
 zM 3 12])
(.seq (.seq (.ops [zM 13 3,
 zM 14 13,
 zFg 15 1 0 14 false,
 zLg 16 15 14 false,
 zPg 17 .lenS [.t 16] 14 false,
⟨some 18, some (14, false), .call, [.c (.func (.func 81) [] []), .t 17, .c (.int .i64 1), .c (.int .i64 4)]⟩,
 zPg 19 .not [.t 18] 14 false,
 zP 20 .pick [.t 14, .c (.bool true), .t 19],
 zM 21 20,
 zFg 22 1 1 21 false,
 zLg 23 22 21 false,
 zPg 24 .lenS [.t 23] 21 false,
 zPg 25 (.bin .gtr) [.t 24, .c (.int .i64 8)] 21 false,
 zP 26 .pick [.t 21, .c (.bool true), .t 25]])
(.cond (.t 26)
(.seq (.ops [zP 2 .mov [.c (.int .i64 50)]])
.ret)
.skip))
(.seq (.ops [zP 2 .mov [.c (.int .i64 0)]])
.ret))))⟩
abbrev f_conf_Check : Nat := 61
abbrev C_conf_Check : AFunc := C61
def L_route_New_0 : AC := (.seq (.ops [zP 17 (.bin .lss) [.t 16, .t 15]])
(.seq (.cond (.t 17)
.skip
(.exit 0))
(.seq (.block 1 (.seq (.ops [zP 18 (.iaddrS 6) [.t 14, .t 16],
⟨some 19, none, .r (.loadN 6), [.t 18]⟩,
⟨some 6, none, .a (.alloc [(.int .i64 0), (.int .i64 0), (.int .i64 0), (.int .i64 0), (.int .i64 0), (.int .i64 0)]), []⟩,
 zS 6 [.t 6, .t 19]])
(.seq (.ops [⟨some 21, none, .r (.loadN 6), [.t 6]⟩,
⟨some 22, none, .call, [.c (.func (.func 82) [] []), .t 21]⟩,
 zM 20 22,
 zP 23 (.ext 0) [.t 20],
 zP 24 (.ext 1) [.t 20],
 zM 7 23,
 zM 8 24])
(.seq (.seq (.ops [zM 25 8,
 zP 26 (.bin .neq) [.t 25, .c (.int .i64 0)]])
(.cond (.t 26)
(.seq (.ops [zM 27 8,
 zP 2 .mov [.c .nilp],
 zM 3 27])
.ret)
.skip))
(.dops [zM 28 4,
 zM 29 4,
 zN 30 29,
 zF 31 30 0,
 zL 32 31,
 zM 33 7,
 zF 34 6 1,
 zL 35 34,
 zF 36 6 2,
 zL 37 36,
 zP 38 (.build [.nilp, (.int .i64 0), (.int .i64 0)] [(0, 1), (1, 1), (2, 1)]) [.t 33, .t 35, .t 37],
⟨some 39, none, .a .box, [.t 38]⟩,
⟨some 40, none, .a (.bslice [.nilp] 1 1 [0]), [.t 39]⟩,
⟨some 41, none, .e (.append 1 8), [.t 32, .t 40]⟩,
 zN 42 28,
 zF 43 42 0,
 zS 1 [.t 43, .t 41]] [[], [], [], [], [], [], [], [], [], [], [], [], [], [], [], [], []])))))
(.ops [zP 44 (.bin .add) [.t 16, .c (.int .i64 1)],
 zM 16 44]))))
def C62 : AFunc := ⟨46, [.tmp 2, .tmp 3],
(.seq (.ops [zP 2 .mov [.c .nilp],
 zP 3 .mov [.c (.int .i64 0)]])
(.seq (.seq (.ops [zM 9 0,
 zP 10 .lenS [.t 9],
 zP 11 (.bin .gtr) [.t 10, .c (.int .i64 8)]])
(.cond (.t 11)
(.seq (.ops [zP 2 .mov [.c .nilp],
 zP 3 .mov [.c (.int .i64 5)]])
.ret)
.skip))
(.seq (.ops [zP 12 (.build [.nils, (.bool false)] [(1, 1)]) [.c (.bool true)],
⟨some 13, none, .a .box, [.t 12]⟩,
 zM 4 13])
(.seq (.seq (.ops [zM 14 0,
 zP 15 .lenS [.t 14],
 zP 16 .mov [.c (.int .i64 0)]])
(.block 0 (.loop L_route_New_0)))
(.seq (.ops [zM 45 4,
 zM 2 45,
 zP 3 .mov [.c (.int .i64 0)]])
.ret)))))⟩
abbrev f_route_New : Nat := 62
abbrev C_route_New : AFunc := C62
def C63 : AFunc := ⟨3, [.tmp 0],
(.seq (.ops [zP 0 .mov [.c .nilp]])
(.seq (.ops [zP 1 (.build [(.bool false), .nils, (.bool false), .nils, (.bool false), .nils, (.bool false), .nils, (.bool false)] [(0, 1)]) [.c (.bool true)],
⟨some 2, none, .a .box, [.t 1]⟩,
 zM 0 2])
.ret))⟩
abbrev f_claim_New : Nat := 63
abbrev C_claim_New : AFunc := C63
def L_health_New_0 : AC := (.seq (.ops [zP 8 (.bin .lss) [.t 7, .c (.int .i64 4)]])
(.seq (.cond (.t 8)
.skip
(.exit 0))
(.seq (.block 1 (.seq (.ops [zM 9 7,
 zM 3 9])
(.dops [zM 10 1,
 zM 11 3,
⟨some 12, none, .r (.loadN 5), [.t 2]⟩,
 zN 13 10,
 zF 14 13 1,
 zP 15 (.iaddrA 5 4) [.t 14, .t 11],
 zS 5 [.t 15, .t 12]] [[], [], [], [], [], [], []])))
(.ops [zP 16 (.bin .add) [.t 7, .c (.int .i64 1)],
 zM 7 16]))))
def C64 : AFunc := ⟨18, [.tmp 0],
(.seq (.ops [zP 0 .mov [.c .nilp]])
(.seq (.ops [zP 4 (.build [(.bool false), (.int .i64 0), (.int .i64 0), (.int .i64 0), (.int .i64 0), (.int .i64 0), (.int .i64 0), (.int .i64 0), (.int .i64 0), (.int .i64 0), (.int .i64 0), (.int .i64 0), (.int .i64 0), (.int .i64 0), (.int .i64 0), (.int .i64 0), (.int .i64 0), (.int .i64 0), (.int .i64 0), (.int .i64 0), (.int .i64 0), (.int .i64 0), (.int .i64 0), (.int .i64 0), (.int .i64 0), (.int .i64 0), (.int .i64 0), (.int .i64 0), (.int .i64 0), (.int .i64 0), (.int .i64 0), (.int .i64 0), (.int .i64 0), (.int .i64 0), (.int .i64 0), (.int .i64 0), (.int .i64 0), (.int .i64 0), (.int .i64 0), (.int .i64 0), (.int .i64 0), (.int .i64 0), (.int .i64 0), (.int .i64 0), (.int .i64 0)] [(0, 1)]) [.c (.bool true)],
⟨some 5, none, .a .box, [.t 4]⟩,
 zM 1 5])
(.seq (.ops [zP 6 (.build [(.int .i64 0), (.int .i64 0), (.int .i64 0), (.int .i64 0), (.int .i64 0)] [(1, 1), (2, 1), (3, 1)]) [.c (.int .i64 1), .c (.int .i64 1), .c (.int .i64 1)],
⟨some 2, none, .a (.alloc [(.int .i64 0), (.int .i64 0), (.int .i64 0), (.int .i64 0), (.int .i64 0)]), []⟩,
 zS 5 [.t 2, .t 6]])
(.seq (.seq (.ops [zP 7 .mov [.c (.int .i64 0)]])
(.block 0 (.loop L_health_New_0)))
(.seq (.ops [zM 17 1,
 zM 0 17])
.ret)))))⟩
abbrev f_health_New : Nat := 64
abbrev C_health_New : AFunc := C64
def C65 : AFunc := ⟨4, [.tmp 0],
(.seq (.ops [zP 0 .mov [.c .nilp]])
(.seq (.ops [⟨some 1, none, .call, [.c (.func (.func 83) [] [])]⟩,
 zP 2 (.build [.nilp] [(0, 1)]) [.t 1],
⟨some 3, none, .a .box, [.t 2]⟩,
 zM 0 3])
.ret))⟩
abbrev f_bell_New : Nat := 65
abbrev C_bell_New : AFunc := C65
def L_kernel_copied_0 : AC := (.seq (.ops [zP 16 (.bin .lss) [.t 15, .t 14]])
(.seq (.cond (.t 16)
.skip
(.exit 0))
(.seq (.block 1 (.seq (.ops [zM 17 15,
 zM 4 17])
(.dops [zF 18 3 0,
 zL 19 18,
 zM 20 4,
 zF 21 3 0,
 zL 22 21,
 zM 23 4,
 zP 24 (.iaddrS 3) [.t 22, .t 23],
 zF 25 24 2,
 zL 26 25,
⟨some 27, none, .call, [.c (.func (.func 86) [] []), .t 26]⟩,
 zP 28 (.iaddrS 3) [.t 19, .t 20],
 zF 29 28 2,
 zS 1 [.t 29, .t 27]] [[], [0, 10], [], [], [], [], [], [], [], [], [], [], []])))
(.ops [zP 30 (.bin .add) [.t 15, .c (.int .i64 1)],
 zM 15 30]))))
def C66 : AFunc := ⟨32, [.cell 2 2 true],
(.seq (.ops [⟨some 1, none, .a .box, [.t 0]⟩,
⟨some 2, none, .a (.alloc [.nils, .nils]), []⟩])
(.seq (.dops [zF 5 1 0,
 zL 6 5,
⟨some 7, none, .call, [.c (.func (.func 84) [] []), .t 6]⟩,
 zF 8 1 1,
 zL 9 8,
⟨some 10, none, .call, [.c (.func (.func 85) [] []), .t 9]⟩,
 zP 11 (.build [.nils, .nils] [(0, 1), (1, 1)]) [.t 7, .t 10],
⟨some 3, none, .a (.alloc [.nils, .nils]), []⟩,
 zS 2 [.t 3, .t 11]] [[], [], [], [], [0, 3], [], [], [], []])
(.seq (.seq (.ops [zF 12 3 0,
 zL 13 12,
 zP 14 .lenS [.t 13],
 zP 15 .mov [.c (.int .i64 0)]])
(.block 0 (.loop L_kernel_copied_0)))
(.seq (.ops [⟨some 31, none, .r (.loadN 2), [.t 3]⟩,
 zS 2 [.t 2, .t 31]])
.ret))))⟩
abbrev f_kernel_copied : Nat := 66
abbrev C_kernel_copied : AFunc := C66
def C67 : AFunc := ⟨12, [.tmp 2],
(.seq (.ops [zP 2 .mov [.c (.bool false)]])
(.seq (.ops [zM 3 0,
 zP 4 (.eq .nilptr) [.t 3, .c .nilp],
 zM 5 4,
 zMg 6 0 5 false,
 zNg 7 6 5 false,
 zFg 8 7 11 5 false,
 zLg 9 8 5 false,
 zPg 10 (.eq .nilsl) [.t 9, .c .nils] 5 false,
 zP 11 .pick [.t 5, .c (.bool true), .t 10],
 zM 2 11])
.ret))⟩
abbrev f_kernel_Kernel_none : Nat := 67
abbrev C_kernel_Kernel_none : AFunc := C67
def C68 : AFunc := ⟨3, [.tmp 0],
(.seq (.ops [zP 0 .mov [.c .nilm]])
(.seq (.ops [⟨some 1, none, .a .mkmap, []⟩,
⟨none, none, .e .ins, [.t 1, .c (.int .i64 1), .c (.func (.func 87) [] [])]⟩,
⟨none, none, .e .ins, [.t 1, .c (.int .i64 2), .c (.func (.func 88) [] [])]⟩,
⟨none, none, .e .ins, [.t 1, .c (.int .i64 3), .c (.func (.func 89) [] [])]⟩,
⟨none, none, .e .ins, [.t 1, .c (.int .i64 4), .c (.func (.func 90) [] [])]⟩,
⟨none, none, .e .ins, [.t 1, .c (.int .i64 5), .c (.func (.func 91) [] [])]⟩,
⟨none, none, .e .ins, [.t 1, .c (.int .i64 6), .c (.func (.func 92) [] [])]⟩,
⟨none, none, .e .ins, [.t 1, .c (.int .i64 7), .c (.func (.func 93) [] [])]⟩,
⟨none, none, .e .ins, [.t 1, .c (.int .i64 8), .c (.func (.func 94) [] [])]⟩,
 zM 2 1,
 zM 0 2])
.ret))⟩
abbrev f_kernel_commands : Nat := 68
abbrev C_kernel_commands : AFunc := C68
def C69 : AFunc := ⟨63, [.tmp 4],
(.seq (.ops [⟨some 3, none, .a .box, [.t 1]⟩,
 zP 4 .mov [.c (.int .i64 0)]])
(.seq (.seq (.ops [zF 5 3 0,
 zL 6 5,
 zP 7 (.bin .eql) [.t 6, .c (.int .i64 1)]])
(.cond (.t 7)
(.seq (.ops [zP 4 .mov [.c (.int .i64 0)]])
.ret)
.skip))
(.seq (.seq (.dops [zF 8 3 1,
 zL 9 8,
 zP 10 (.bin .lss) [.t 9, .c (.int .i64 0)],
 zM 11 10,
 zFg 12 3 1 11 false,
 zLg 13 12 11 false,
 zMg 14 0 11 false,
 zNg 15 14 11 false,
 zFg 16 15 11 11 false,
 zLg 17 16 11 false,
 zPg 18 .lenS [.t 17] 11 false,
 zPg 19 (.bin .geq) [.t 13, .t 18] 11 false,
 zP 20 .pick [.t 11, .c (.bool true), .t 19]] [[], [], [], [], [], [], [], [], [], [], [], [], []])
(.cond (.t 20)
(.seq (.ops [zP 4 .mov [.c (.int .i64 9)]])
.ret)
.skip))
(.seq (.seq (.ops [zF 21 3 0,
 zL 22 21,
 zP 23 (.bin .eql) [.t 22, .c (.int .i64 2)],
 zM 24 23,
 zFg 25 3 0 24 false,
 zLg 26 25 24 false,
 zPg 27 (.bin .eql) [.t 26, .c (.int .i64 6)] 24 false,
 zP 28 .pick [.t 24, .c (.bool true), .t 27]])
(.cond (.t 28)
(.seq (.dops [zF 29 3 2,
 zL 30 29,
 zP 31 (.bin .lss) [.t 30, .c (.int .i64 0)],
 zM 32 31,
 zFg 33 3 2 32 false,
 zLg 34 33 32 false,
 zMg 35 0 32 false,
 zNg 36 35 32 false,
 zFg 37 36 4 32 false,
 zFg 38 37 0 32 false,
 zLg 39 38 32 false,
 zFg 40 3 1 32 false,
 zLg 41 40 32 false,
 zPg 42 (.iaddrS 3) [.t 39, .t 41] 32 false,
 zFg 43 42 2 32 false,
 zLg 44 43 32 false,
 zPg 45 .lenS [.t 44] 32 false,
 zPg 46 (.bin .geq) [.t 34, .t 45] 32 false,
 zP 47 .pick [.t 32, .c (.bool true), .t 46]] [[], [], [], [], [], [], [], [], [], [], [], [], [], [], [], [], [], [], []])
(.cond (.t 47)
(.seq (.ops [zP 4 .mov [.c (.int .i64 9)]])
.ret)
.skip))
.skip))
(.seq (.seq (.ops [zF 48 3 0,
 zL 49 48,
 zP 50 (.bin .neq) [.t 49, .c (.int .i64 3)],
 zM 51 50,
 zFg 52 3 0 51 true,
 zLg 53 52 51 true,
 zPg 54 (.bin .neq) [.t 53, .c (.int .i64 8)] 51 true,
 zP 55 .pick [.t 51, .t 54, .c (.bool false)],
 zM 56 55,
 zMg 57 0 56 true,
 zFg 58 3 1 56 true,
 zLg 59 58 56 true,
⟨some 60, some (56, true), .call, [.c (.func (.func 95) [] []), .t 57, .t 59]⟩,
 zPg 61 .not [.t 60] 56 true,
 zP 62 .pick [.t 56, .t 61, .c (.bool false)]])
(.cond (.t 62)
(.seq (.ops [zP 4 .mov [.c (.int .i64 250)]])
.ret)
.skip))
(.seq (.ops [zP 4 .mov [.c (.int .i64 0)]])
.ret))))))⟩
abbrev f_kernel_Kernel_asked : Nat := 69
abbrev C_kernel_Kernel_asked : AFunc := C69
def C70 : AFunc := ⟨8, [.tmp 2],
(.seq (.ops [zP 2 .mov [.c .nils]])
(.seq (.seq (.ops [zM 3 0,
 zP 4 (.eq .nilsl) [.t 3, .c .nils]])
(.cond (.t 4)
(.seq (.ops [zP 2 .mov [.c .nils]])
.ret)
.skip))
(.seq (.ops [⟨some 5, none, .a (.bslice [(.int .i64 0), (.int .i64 0), (.int .i64 0), (.int .i64 0), (.int .i64 0), (.int .i64 0), (.str [])] 0 7 []), []⟩,
 zM 6 0,
⟨some 7, none, .e (.append 7 64), [.t 5, .t 6]⟩,
 zM 2 7])
.ret)))⟩
abbrev f_slices_Clone_api_Note_api_Note : Nat := 70
abbrev C_slices_Clone_api_Note_api_Note : AFunc := C70
def L_slices_IndexFunc_int_int_0 : AC := (.seq (.ops [zP 9 (.bin .lss) [.t 8, .t 7]])
(.seq (.cond (.t 9)
.skip
(.exit 0))
(.seq (.block 1 (.seq (.ops [zM 10 8,
 zM 5 10])
(.seq (.ops [zM 11 1,
 zM 12 0,
 zM 13 5,
 zP 14 (.iaddrS 1) [.t 12, .t 13],
 zL 15 14,
⟨some 16, none, .call, [.t 11, .t 15]⟩])
(.cond (.t 16)
(.seq (.ops [zM 17 5,
 zM 4 17])
.ret)
.skip))))
(.ops [zP 18 (.bin .add) [.t 8, .c (.int .i64 1)],
 zM 8 18]))))
def C71 : AFunc := ⟨19, [.tmp 4],
(.seq (.ops [zP 4 .mov [.c (.int .i64 0)]])
(.seq (.seq (.ops [zM 6 0,
 zP 7 .lenS [.t 6],
 zP 8 .mov [.c (.int .i64 0)]])
(.block 0 (.loop L_slices_IndexFunc_int_int_0)))
(.seq (.ops [zP 4 .mov [.c (.int .i64 (-1))]])
.ret)))⟩
abbrev f_slices_IndexFunc_int_int : Nat := 71
abbrev C_slices_IndexFunc_int_int : AFunc := C71
def L_tape_fields_1_0 : AC := (.seq (.ops [zP 22 (.bin .lss) [.t 21, .c (.int .i64 5)]])
(.seq (.cond (.t 22)
.skip
(.exit 0))
(.seq (.block 1 (.seq (.ops [zP 23 (.idxA 1 5 false) [.t 20, .t 21],
 zM 4 23])
(.seq (.ops [zM 24 0,
 zM 25 4,
⟨some 26, none, .call, [.t 24, .t 25]⟩,
 zP 27 .not [.t 26]])
(.cond (.t 27)
.ret
.skip))))
(.ops [zP 28 (.bin .add) [.t 21, .c (.int .i64 1)],
 zM 21 28]))))
def C72 : AFunc := ⟨29, [],
(.seq (.dops [zL 5 1,
 zN 6 5,
 zF 7 6 0,
 zL 8 1,
 zN 9 8,
 zF 10 9 1,
 zL 11 1,
 zN 12 11,
 zF 13 12 2,
 zL 14 1,
 zN 15 14,
 zF 16 15 3,
 zL 17 1,
 zN 18 17,
 zF 19 18 4,
 zP 20 (.build [.nilp, .nilp, .nilp, .nilp, .nilp] [(0, 1), (1, 1), (2, 1), (3, 1), (4, 1)]) [.t 7, .t 10, .t 13, .t 16, .t 19],
 zP 21 .mov [.c (.int .i64 0)]] [[], [], [], [], [], [], [], [], [], [], [], [], [], [], [], [], []])
(.block 0 (.loop L_tape_fields_1_0)))⟩
abbrev f_tape_fields_1 : Nat := 72
abbrev C_tape_fields_1 : AFunc := C72
def C75 : AFunc := ⟨9, [.tmp 4],
(.seq (.ops [zP 4 .mov [.c (.bool false)]])
(.seq (.ops [zM 5 0,
 zM 6 1,
⟨some 7, none, .call, [.c (.func (.func 96) [] []), .t 5, .t 6]⟩,
 zP 8 (.bin .geq) [.t 7, .c (.int .i64 0)],
 zM 4 8])
.ret))⟩
abbrev f_slices_ContainsFunc_api_Part_api_Part : Nat := 75
abbrev C_slices_ContainsFunc_api_Part_api_Part : AFunc := C75
def C76 : AFunc := ⟨6, [.tmp 2],
(.seq (.ops [⟨some 1, none, .a .box, [.t 0]⟩,
 zP 2 .mov [.c (.bool false)]])
(.seq (.ops [⟨some 3, none, .r (.loadN 3), [.t 1]⟩,
⟨some 4, none, .call, [.c (.func (.func 77) [] []), .t 3]⟩,
 zP 5 .not [.t 4],
 zM 2 5])
.ret))⟩
abbrev f_conf_Check_1 : Nat := 76
abbrev C_conf_Check_1 : AFunc := C76
def C77 : AFunc := ⟨26, [.tmp 2],
(.seq (.ops [⟨some 1, none, .a .box, [.t 0]⟩,
 zP 2 .mov [.c (.bool false)]])
(.seq (.seq (.ops [zF 3 1 0,
 zL 4 3,
⟨some 5, none, .call, [.c (.func (.func 81) [] []), .t 4, .c (.int .i64 1), .c (.int .i64 64)]⟩,
 zP 6 .not [.t 5],
 zM 7 6,
 zFg 8 1 1 7 false,
 zLg 9 8 7 false,
 zFg 10 1 0 7 false,
 zLg 11 10 7 false,
⟨some 12, some (7, false), .call, [.c (.func (.func 81) [] []), .t 9, .c (.int .i64 1), .t 11]⟩,
 zPg 13 .not [.t 12] 7 false,
 zP 14 .pick [.t 7, .c (.bool true), .t 13],
 zM 15 14,
 zFg 16 1 2 15 false,
 zLg 17 16 15 false,
 zPg 18 .lenS [.t 17] 15 false,
 zPg 19 (.bin .gtr) [.t 18, .c (.int .i64 4)] 15 false,
 zP 20 .pick [.t 15, .c (.bool true), .t 19]])
(.cond (.t 20)
(.seq (.ops [zP 2 .mov [.c (.bool false)]])
.ret)
.skip))
(.seq (.ops [zF 21 1 2,
 zL 22 21,
 zP 23 (.mkfunc (.func 98) 0) [.t 1],
⟨some 24, none, .call, [.c (.func (.func 97) [] []), .t 22, .t 23]⟩,
 zP 25 .not [.t 24],
 zM 2 25])
.ret)))⟩
abbrev f_conf_partMay : Nat := 77
abbrev C_conf_partMay : AFunc := C77
def C78 : AFunc := ⟨9, [.tmp 4],
(.seq (.ops [zP 4 .mov [.c (.bool false)]])
(.seq (.ops [zM 5 0,
 zM 6 1,
⟨some 7, none, .call, [.c (.func (.func 100) [] []), .t 5, .t 6]⟩,
 zP 8 (.bin .geq) [.t 7, .c (.int .i64 0)],
 zM 4 8])
.ret))⟩
abbrev f_slices_ContainsFunc_api_Port_api_Port : Nat := 78
abbrev C_slices_ContainsFunc_api_Port_api_Port : AFunc := C78
def C81 : AFunc := ⟨15, [.tmp 6],
(.seq (.ops [zP 6 .mov [.c (.bool false)]])
(.seq (.ops [zM 7 1,
 zM 8 0,
 zP 9 (.bin .leq) [.t 7, .t 8],
 zM 10 9,
 zMg 11 0 10 true,
 zMg 12 2 10 true,
 zPg 13 (.bin .leq) [.t 11, .t 12] 10 true,
 zP 14 .pick [.t 10, .t 13, .c (.bool false)],
 zM 6 14])
.ret))⟩
abbrev f_conf_within : Nat := 81
abbrev C_conf_within : AFunc := C81
def C83 : AFunc := ⟨5, [.tmp 0],
(.seq (.ops [zP 0 .mov [.c .nilp]])
(.seq (.ops [zP 1 (.build [.nils, (.int .i64 0), (.int .i64 0), (.int .i64 0), (.int .i64 0), (.int .i64 0), (.int .i64 0), (.int .i64 0), (.int .i64 0), (.int .i64 0), (.int .i64 0), (.int .i64 0), (.int .i64 0), (.int .i64 0), (.int .i64 0), (.int .i64 0), (.int .i64 0), (.int .i64 0), (.int .i64 0), (.int .i64 0), (.int .i64 0), (.int .i64 0), (.int .i64 0), (.int .i64 0), (.int .i64 0), (.int .i64 0), (.int .i64 0), (.int .i64 0), (.int .i64 0), (.int .i64 0), (.int .i64 0), (.int .i64 0), (.int .i64 0), (.int .i64 0), (.int .i64 0), (.int .i64 0), (.int .i64 0), (.int .i64 0), (.int .i64 0), (.int .i64 0), (.int .i64 0), (.int .i64 0), (.int .i64 0), (.int .i64 0), (.int .i64 0), (.int .i64 0), (.int .i64 0), (.int .i64 0), (.int .i64 0), (.int .i64 0), (.int .i64 0), (.int .i64 0), (.int .i64 0), (.int .i64 0), (.int .i64 0), (.int .i64 0), (.int .i64 0), (.int .i64 0), (.int .i64 0), (.int .i64 0), (.int .i64 0), (.int .i64 0), (.int .i64 0), (.int .i64 0), (.int .i64 0)] []) [],
⟨some 2, none, .a .box, [.t 1]⟩,
 zP 3 (.build [.nilp] [(0, 1)]) [.t 2],
⟨some 4, none, .a .box, [.t 3]⟩,
 zM 0 4])
.ret))⟩
abbrev f_rank_New : Nat := 83
abbrev C_rank_New : AFunc := C83
def C84 : AFunc := ⟨8, [.tmp 2],
(.seq (.ops [zP 2 .mov [.c .nils]])
(.seq (.seq (.ops [zM 3 0,
 zP 4 (.eq .nilsl) [.t 3, .c .nils]])
(.cond (.t 4)
(.seq (.ops [zP 2 .mov [.c .nils]])
.ret)
.skip))
(.seq (.ops [⟨some 5, none, .a (.bslice [(.int .i64 0), (.int .i64 0), .nils] 0 3 []), []⟩,
 zM 6 0,
⟨some 7, none, .e (.append 3 40), [.t 5, .t 6]⟩,
 zM 2 7])
.ret)))⟩
abbrev f_slices_Clone_api_Part_api_Part : Nat := 84
abbrev C_slices_Clone_api_Part_api_Part : AFunc := C84
def C85 : AFunc := ⟨8, [.tmp 2],
(.seq (.ops [zP 2 .mov [.c .nils]])
(.seq (.seq (.ops [zM 3 0,
 zP 4 (.eq .nilsl) [.t 3, .c .nils]])
(.cond (.t 4)
(.seq (.ops [zP 2 .mov [.c .nils]])
.ret)
.skip))
(.seq (.ops [⟨some 5, none, .a (.bslice [(.int .i64 0), (.int .i64 0), (.int .i64 0), (.int .i64 0), (.int .i64 0), (.int .i64 0)] 0 6 []), []⟩,
 zM 6 0,
⟨some 7, none, .e (.append 6 48), [.t 5, .t 6]⟩,
 zM 2 7])
.ret)))⟩
abbrev f_slices_Clone_api_Port_api_Port : Nat := 85
abbrev C_slices_Clone_api_Port_api_Port : AFunc := C85
def C86 : AFunc := ⟨8, [.tmp 2],
(.seq (.ops [zP 2 .mov [.c .nils]])
(.seq (.seq (.ops [zM 3 0,
 zP 4 (.eq .nilsl) [.t 3, .c .nils]])
(.cond (.t 4)
(.seq (.ops [zP 2 .mov [.c .nils]])
.ret)
.skip))
(.seq (.ops [⟨some 5, none, .a (.bslice [(.int .i64 0), (.int .i64 0), (.int .i64 0), (.int .i64 0), (.int .i64 0), (.int .i64 0), (.int .i64 0), (.int .i64 0)] 0 8 []), []⟩,
 zM 6 0,
⟨some 7, none, .e (.append 8 64), [.t 5, .t 6]⟩,
 zM 2 7])
.ret)))⟩
abbrev f_slices_Clone_api_Task_api_Task : Nat := 86
abbrev C_slices_Clone_api_Task_api_Task : AFunc := C86
def L_kernel_Kernel_ticks_0 : AC := (.seq (.ops [zP 24 (.bin .lss) [.t 23, .t 22]])
(.seq (.cond (.t 24)
.skip
(.exit 1))
(.seq (.block 2 (.ops [zM 25 0,
⟨some 26, none, .call, [.c (.func (.func 102) [] []), .t 25]⟩]))
(.ops [zP 27 (.bin .add) [.t 23, .c (.int .i64 1)],
 zM 23 27]))))
def C87 : AFunc := ⟨28, [.tmp 4],
(.seq (.ops [⟨some 3, none, .a .box, [.t 1]⟩,
 zP 4 .mov [.c (.int .i64 0)]])
(.seq (.block 0 (.seq (.seq (.ops [zF 6 3 3,
 zL 7 6,
 zP 8 (.bin .lss) [.t 7, .c (.int .i64 1)],
 zM 5 8])
(.cond (.t 5)
.skip
(.ops [zF 9 3 3,
 zL 10 9,
 zP 11 (.bin .gtr) [.t 10, .c (.int .i64 64)],
 zM 5 11])))
(.cond (.t 5)
(.seq (.ops [zP 4 .mov [.c (.int .i64 2)]])
.ret)
(.seq (.dops [zM 13 0,
 zN 14 13,
 zF 15 14 10,
 zL 16 15,
 zF 17 3 3,
 zL 18 17,
 zP 19 (.bin .add) [.t 16, .t 18],
 zP 20 (.bin .gtr) [.t 19, .c (.int .i64 1099511627776)],
 zM 12 20] [[], [], [], [], [], [], [], [], []])
(.cond (.t 12)
(.seq (.ops [zP 4 .mov [.c (.int .i64 10)]])
.ret)
.skip)))))
(.seq (.seq (.ops [zF 21 3 3,
 zL 22 21,
 zP 23 .mov [.c (.int .i64 0)]])
(.block 1 (.loop L_kernel_Kernel_ticks_0)))
(.seq (.ops [zP 4 .mov [.c (.int .i64 0)]])
.ret))))⟩
abbrev f_kernel_Kernel_ticks : Nat := 87
abbrev C_kernel_Kernel_ticks : AFunc := C87
def C89 : AFunc := ⟨95, [.tmp 4],
(.seq (.ops [⟨some 3, none, .a .box, [.t 1]⟩,
 zP 4 .mov [.c (.int .i64 0)]])
(.seq (.seq (.dops [zM 10 0,
 zF 11 3 1,
 zL 12 11,
⟨some 13, none, .call, [.c (.func (.func 95) [] []), .t 10, .t 12]⟩,
 zM 14 13,
 zMg 15 0 14 false,
⟨some 16, some (14, false), .call, [.c (.func (.func 107) [] []), .t 15]⟩,
 zP 17 .pick [.t 14, .c (.bool true), .t 16],
 zM 18 17,
 zMg 19 0 18 false,
 zNg 20 19 18 false,
 zFg 21 20 10 18 false,
 zLg 22 21 18 false,
 zMg 23 0 18 false,
 zNg 24 23 18 false,
 zFg 25 24 9 18 false,
 zLg 26 25 18 false,
 zPg 27 (.bin .lss) [.t 22, .t 26] 18 false,
 zP 28 .pick [.t 18, .c (.bool true), .t 27]] [[], [], [], [], [], [], [], [], [], [], [], [], [], [], [], [], [], [], []])
(.cond (.t 28)
(.seq (.ops [zP 4 .mov [.c (.int .i64 250)]])
.ret)
.skip))
(.seq (.seq (.dops [zM 29 0,
 zN 30 29,
 zF 31 30 4,
⟨some 32, none, .r (.loadN 2), [.t 31]⟩,
 zM 33 0,
⟨some 34, none, .call, [.c (.func (.func 109) [] []), .t 33]⟩,
 zF 35 3 1,
 zL 36 35,
⟨some 37, none, .call, [.c (.func (.func 108) [] []), .t 32, .t 34, .t 36]⟩,
 zM 5 37] [[], [], [], [0, 6], [], [], [], [0, 6], [], []])
(.seq (.ops [zM 38 5,
 zP 39 (.bin .neq) [.t 38, .c (.int .i64 0)]])
(.cond (.t 39)
(.seq (.ops [zM 40 5,
 zM 4 40])
.ret)
.skip)))
(.seq (.dops [zM 41 0,
 zN 42 41,
 zF 43 42 4,
 zF 44 43 0,
 zL 45 44,
 zF 46 3 1,
 zL 47 46,
 zP 48 (.iaddrS 3) [.t 45, .t 47],
⟨some 49, none, .r (.loadN 3), [.t 48]⟩,
⟨some 6, none, .a (.alloc [(.int .i64 0), (.int .i64 0), .nils]), []⟩,
 zS 3 [.t 6, .t 49]] [[], [], [], [], [], [], [], [], [], [], []])
(.seq (.dops [zF 51 6 0,
 zL 52 51,
 zF 53 6 1,
 zL 54 53,
 zM 55 0,
 zN 56 55,
 zF 57 56 10,
 zL 58 57,
⟨some 59, none, .call, [.c (.func (.func 110) [] []), .t 52, .t 54, .t 58]⟩,
 zM 50 59,
 zP 60 (.ext 0) [.t 50],
 zP 61 (.ext 1) [.t 50],
 zM 7 60,
 zM 8 61] [[], [], [], [], [], [], [], [], [], [], [], [], [], []])
(.seq (.seq (.ops [zM 62 8,
 zP 63 (.bin .neq) [.t 62, .c (.int .i64 0)]])
(.cond (.t 63)
(.seq (.ops [zM 64 8,
 zM 4 64])
.ret)
.skip))
(.seq (.ops [zF 66 6 2,
 zL 67 66,
⟨some 68, none, .call, [.c (.func (.func 111) [] []), .t 67]⟩,
 zM 65 68,
 zP 69 (.ext 0) [.t 65],
 zP 70 (.ext 1) [.t 65],
 zM 9 69,
 zM 8 70])
(.seq (.seq (.ops [zM 71 8,
 zP 72 (.bin .neq) [.t 71, .c (.int .i64 0)]])
(.cond (.t 72)
(.seq (.ops [zM 73 8,
 zM 4 73])
.ret)
.skip))
(.seq (.dops [zM 74 0,
 zN 75 74,
 zF 76 75 11,
 zL 77 76,
 zF 78 3 1,
 zL 79 78,
 zM 80 0,
 zN 81 80,
 zF 82 81 12,
 zL 83 82,
 zF 84 3 1,
 zL 85 84,
 zM 86 7,
 zM 87 9,
 zP 88 (.iaddrS 1) [.t 77, .t 79],
 zS 1 [.t 88, .t 86],
 zP 89 (.iaddrS 1) [.t 83, .t 85],
 zS 1 [.t 89, .t 87]] [[], [], [], [], [], [], [], [], [], [], [], [0, 16], [], [], [], [], [], []])
(.seq (.ops [zM 90 0,
 zF 91 3 1,
 zL 92 91,
 zP 93 (.build [(.int .i64 0), (.int .i64 0), (.int .i64 0), (.int .i64 0), (.int .i64 0), (.int .i64 0), (.str [])] []) [],
⟨some 94, none, .call, [.c (.func (.func 105) [] []), .t 90, .c (.int .i64 6), .t 92, .c (.int .i64 0), .t 93]⟩])
(.seq (.ops [zP 4 .mov [.c (.int .i64 0)]])
.ret)))))))))))⟩
abbrev f_kernel_Kernel_join : Nat := 89
abbrev C_kernel_Kernel_join : AFunc := C89
def C95 : AFunc := ⟨31, [.tmp 4],
(.seq (.ops [zP 4 .mov [.c (.bool false)]])
(.seq (.ops [zM 5 0,
⟨some 6, none, .call, [.c (.func (.func 67) [] []), .t 5]⟩,
 zP 7 .not [.t 6],
 zM 8 7,
 zMg 9 1 8 true,
 zPg 10 (.bin .geq) [.t 9, .c (.int .i64 0)] 8 true,
 zP 11 .pick [.t 8, .t 10, .c (.bool false)],
 zM 12 11,
 zMg 13 1 12 true,
 zMg 14 0 12 true,
 zNg 15 14 12 true,
 zFg 16 15 11 12 true,
 zLg 17 16 12 true,
 zPg 18 .lenS [.t 17] 12 true,
 zPg 19 (.bin .lss) [.t 13, .t 18] 12 true,
 zP 20 .pick [.t 12, .t 19, .c (.bool false)],
 zM 21 20,
 zMg 22 0 21 true,
 zNg 23 22 21 true,
 zFg 24 23 11 21 true,
 zLg 25 24 21 true,
 zMg 26 1 21 true,
 zPg 27 (.iaddrS 1) [.t 25, .t 26] 21 true,
 zLg 28 27 21 true,
 zPg 29 (.neq .nilptr) [.t 28, .c .nilp] 21 true,
 zP 30 .pick [.t 21, .t 29, .c (.bool false)],
 zM 4 30])
.ret))⟩
abbrev f_kernel_Kernel_In : Nat := 95
abbrev C_kernel_Kernel_In : AFunc := C95
def L_slices_IndexFunc_api_Part_api_Part_0 : AC := (.seq (.ops [zP 9 (.bin .lss) [.t 8, .t 7]])
(.seq (.cond (.t 9)
.skip
(.exit 0))
(.seq (.block 1 (.seq (.ops [zM 10 8,
 zM 5 10])
(.seq (.ops [zM 11 1,
 zM 12 0,
 zM 13 5,
 zP 14 (.iaddrS 3) [.t 12, .t 13],
⟨some 15, none, .r (.loadN 3), [.t 14]⟩,
⟨some 16, none, .call, [.t 11, .t 15]⟩])
(.cond (.t 16)
(.seq (.ops [zM 17 5,
 zM 4 17])
.ret)
.skip))))
(.ops [zP 18 (.bin .add) [.t 8, .c (.int .i64 1)],
 zM 8 18]))))
def C96 : AFunc := ⟨19, [.tmp 4],
(.seq (.ops [zP 4 .mov [.c (.int .i64 0)]])
(.seq (.seq (.ops [zM 6 0,
 zP 7 .lenS [.t 6],
 zP 8 .mov [.c (.int .i64 0)]])
(.block 0 (.loop L_slices_IndexFunc_api_Part_api_Part_0)))
(.seq (.ops [zP 4 .mov [.c (.int .i64 (-1))]])
.ret)))⟩
abbrev f_slices_IndexFunc_api_Part_api_Part : Nat := 96
abbrev C_slices_IndexFunc_api_Part_api_Part : AFunc := C96
def C97 : AFunc := ⟨9, [.tmp 4],
(.seq (.ops [zP 4 .mov [.c (.bool false)]])
(.seq (.ops [zM 5 0,
 zM 6 1,
⟨some 7, none, .call, [.c (.func (.func 119) [] []), .t 5, .t 6]⟩,
 zP 8 (.bin .geq) [.t 7, .c (.int .i64 0)],
 zM 4 8])
.ret))⟩
abbrev f_slices_ContainsFunc_api_Task_api_Task : Nat := 97
abbrev C_slices_ContainsFunc_api_Task_api_Task : AFunc := C97
def C98 : AFunc := ⟨9, [.tmp 3],
(.seq (.ops [⟨some 2, none, .a .box, [.t 0]⟩,
 zP 3 .mov [.c (.bool false)]])
(.seq (.ops [⟨some 4, none, .r (.loadN 8), [.t 2]⟩,
 zF 5 1 1,
 zL 6 5,
⟨some 7, none, .call, [.c (.func (.func 99) [] []), .t 4, .t 6]⟩,
 zP 8 .not [.t 7],
 zM 3 8])
.ret))⟩
abbrev f_conf_partMay_1 : Nat := 98
abbrev C_conf_partMay_1 : AFunc := C98
def C99 : AFunc := ⟨86, [.tmp 4],
(.seq (.ops [⟨some 2, none, .a .box, [.t 0]⟩,
 zP 4 .mov [.c (.bool false)]])
(.seq (.ops [zF 6 2 0,
 zL 7 6,
⟨some 8, none, .call, [.c (.func (.func 81) [] []), .t 7, .c (.int .i64 1), .c (.int .i64 64)]⟩,
 zM 9 8,
 zFg 10 2 1 9 true,
 zLg 11 10 9 true,
 zFg 12 2 0 9 true,
 zLg 13 12 9 true,
⟨some 14, some (9, true), .call, [.c (.func (.func 81) [] []), .t 11, .c (.int .i64 1), .t 13]⟩,
 zP 15 .pick [.t 9, .t 14, .c (.bool false)],
 zM 16 15,
 zFg 17 2 2 16 true,
 zLg 18 17 16 true,
 zFg 19 2 1 16 true,
 zLg 20 19 16 true,
⟨some 21, some (16, true), .call, [.c (.func (.func 81) [] []), .t 18, .c (.int .i64 1), .t 20]⟩,
 zP 22 .pick [.t 16, .t 21, .c (.bool false)],
 zM 5 22])
(.seq (.seq (.ops [zM 23 5,
 zP 24 .not [.t 23],
 zM 25 24,
 zFg 26 2 3 25 false,
 zLg 27 26 25 false,
⟨some 28, some (25, false), .call, [.c (.func (.func 81) [] []), .t 27, .c (.int .i64 0), .c (.int .i64 255)]⟩,
 zPg 29 .not [.t 28] 25 false,
 zP 30 .pick [.t 25, .c (.bool true), .t 29],
 zM 31 30,
 zFg 32 2 5 31 false,
 zLg 33 32 31 false,
⟨some 34, some (31, false), .call, [.c (.func (.func 81) [] []), .t 33, .c (.int .i64 0), .c (.int .i64 4)]⟩,
 zPg 35 .not [.t 34] 31 false,
 zP 36 .pick [.t 31, .c (.bool true), .t 35]])
(.cond (.t 36)
(.seq (.ops [zP 4 .mov [.c (.bool false)]])
.ret)
.skip))
(.seq (.seq (.ops [zF 37 2 3,
 zL 38 37,
 zP 39 (.bin .eql) [.t 38, .c (.int .i64 0)],
 zM 40 39,
 zFg 41 2 4 40 true,
 zLg 42 41 40 true,
 zPg 43 (.bin .neq) [.t 42, .c (.int .i64 0)] 40 true,
 zP 44 .pick [.t 40, .t 43, .c (.bool false)],
 zM 45 44,
 zFg 46 2 3 45 false,
 zLg 47 46 45 false,
 zPg 48 (.bin .neq) [.t 47, .c (.int .i64 0)] 45 false,
 zMg 49 48 45 false,
 zFg 50 2 4 49 true,
 zLg 51 50 49 true,
 zFg 52 2 2 49 true,
 zLg 53 52 49 true,
⟨some 54, some (49, true), .call, [.c (.func (.func 81) [] []), .t 51, .c (.int .i64 1), .t 53]⟩,
 zPg 55 .not [.t 54] 49 true,
 zPg 56 .pick [.t 49, .t 55, .c (.bool false)] 45 false,
 zP 57 .pick [.t 45, .c (.bool true), .t 56]])
(.cond (.t 57)
(.seq (.ops [zP 4 .mov [.c (.bool false)]])
.ret)
.skip))
(.seq (.seq (.ops [zF 58 2 5,
 zL 59 58,
 zP 60 (.bin .eql) [.t 59, .c (.int .i64 0)]])
(.cond (.t 60)
(.seq (.ops [zF 61 2 6,
 zL 62 61,
 zP 63 (.bin .eql) [.t 62, .c (.int .i64 0)],
 zM 64 63,
 zFg 65 2 7 64 true,
 zLg 66 65 64 true,
 zPg 67 (.bin .eql) [.t 66, .c (.int .i64 0)] 64 true,
 zP 68 .pick [.t 64, .t 67, .c (.bool false)],
 zM 4 68])
.ret)
.skip))
(.seq (.dops [zF 69 2 6,
 zL 70 69,
 zM 71 1,
 zF 72 2 2,
 zL 73 72,
 zP 74 .mn [.t 71, .t 73],
⟨some 75, none, .call, [.c (.func (.func 81) [] []), .t 70, .c (.int .i64 1), .t 74]⟩,
 zM 76 75,
 zFg 77 2 7 76 true,
 zLg 78 77 76 true,
 zFg 79 2 2 76 true,
 zLg 80 79 76 true,
 zFg 81 2 6 76 true,
 zLg 82 81 76 true,
 zPg 83 (.bin .quo) [.t 80, .t 82] 76 true,
⟨some 84, some (76, true), .call, [.c (.func (.func 81) [] []), .t 78, .c (.int .i64 1), .t 83]⟩,
 zP 85 .pick [.t 76, .t 84, .c (.bool false)],
 zM 4 85] [[], [], [], [], [], [], [], [], [], [], [], [], [], [], [], [], [], []])
.ret))))))⟩
abbrev f_conf_taskMay : Nat := 99
abbrev C_conf_taskMay : AFunc := C99
def L_slices_IndexFunc_api_Port_api_Port_0 : AC := (.seq (.ops [zP 9 (.bin .lss) [.t 8, .t 7]])
(.seq (.cond (.t 9)
.skip
(.exit 0))
(.seq (.block 1 (.seq (.ops [zM 10 8,
 zM 5 10])
(.seq (.ops [zM 11 1,
 zM 12 0,
 zM 13 5,
 zP 14 (.iaddrS 6) [.t 12, .t 13],
⟨some 15, none, .r (.loadN 6), [.t 14]⟩,
⟨some 16, none, .call, [.t 11, .t 15]⟩])
(.cond (.t 16)
(.seq (.ops [zM 17 5,
 zM 4 17])
.ret)
.skip))))
(.ops [zP 18 (.bin .add) [.t 8, .c (.int .i64 1)],
 zM 8 18]))))
def C100 : AFunc := ⟨19, [.tmp 4],
(.seq (.ops [zP 4 .mov [.c (.int .i64 0)]])
(.seq (.seq (.ops [zM 6 0,
 zP 7 .lenS [.t 6],
 zP 8 .mov [.c (.int .i64 0)]])
(.block 0 (.loop L_slices_IndexFunc_api_Port_api_Port_0)))
(.seq (.ops [zP 4 .mov [.c (.int .i64 (-1))]])
.ret)))⟩
abbrev f_slices_IndexFunc_api_Port_api_Port : Nat := 100
abbrev C_slices_IndexFunc_api_Port_api_Port : AFunc := C100
def C102 : AFunc := ⟨44, [],
(.seq (.ops [zM 4 0,
 zM 5 0,
 zP 6 (.mkfunc (.func 122) 1) [.t 5],
⟨some 7, none, .call, [.c (.func (.func 121) [] []), .t 4, .t 6]⟩])
(.seq (.ops [zM 8 0,
 zM 9 0,
 zP 10 (.mkfunc (.func 123) 1) [.t 9],
⟨some 11, none, .call, [.c (.func (.func 121) [] []), .t 8, .t 10]⟩])
(.seq (.ops [zM 12 0,
⟨some 13, none, .call, [.c (.func (.func 124) [] []), .t 12]⟩])
(.seq (.seq (.ops [zM 15 0,
 zN 16 15,
 zF 17 16 11,
 zL 18 17,
⟨some 19, none, .call, [.c (.func (.func 125) [] []), .t 18]⟩,
 zM 14 19,
 zP 20 (.ext 0) [.t 14],
 zP 21 (.ext 1) [.t 14],
 zM 2 20,
 zM 3 21])
(.seq (.ops [zM 22 3])
(.cond (.t 22)
(.seq (.ops [zM 23 0,
 zM 24 2,
⟨some 25, none, .call, [.c (.func (.func 126) [] []), .t 23, .t 24]⟩])
(.seq (.ops [zM 26 0,
 zM 27 2,
⟨some 28, none, .call, [.c (.func (.func 95) [] []), .t 26, .t 27]⟩])
(.cond (.t 28)
(.ops [zM 29 0,
 zN 30 29,
 zF 31 30 11,
 zL 32 31,
 zM 33 2,
 zP 34 (.iaddrS 1) [.t 32, .t 33],
 zL 35 34,
⟨some 36, none, .call, [.c (.func (.func 127) [] []), .t 35]⟩])
.skip)))
.skip)))
(.ops [zM 37 0,
 zN 38 37,
 zF 39 38 10,
 zL 40 39,
 zP 41 (.bin .add) [.t 40, .c (.int .i64 1)],
 zN 42 37,
 zF 43 42 10,
 zS 1 [.t 43, .t 41]])))))⟩
abbrev f_kernel_Kernel_tick : Nat := 102
abbrev C_kernel_Kernel_tick : AFunc := C102
def C103 : AFunc := ⟨26, [.tmp 2],
(.seq (.ops [zP 2 .mov [.c (.bool false)]])
(.seq (.ops [zM 3 0,
⟨some 4, none, .call, [.c (.func (.func 128) [] []), .t 3]⟩,
 zP 5 .not [.t 4],
 zM 6 5,
 zMg 7 0 6 true,
 zNg 8 7 6 true,
 zFg 9 8 6 6 true,
 zLg 10 9 6 true,
 zPg 11 .not [.t 10] 6 true,
 zP 12 .pick [.t 6, .t 11, .c (.bool false)],
 zM 13 12,
 zMg 14 0 13 true,
 zNg 15 14 13 true,
 zFg 16 15 5 13 true,
 zLg 17 16 13 true,
 zMg 18 17 13 true,
 zMg 19 0 18 false,
 zNg 20 19 18 false,
 zFg 21 20 4 18 false,
 zLg 22 21 18 false,
 zPg 23 (.neq .nilptr) [.t 22, .c .nilp] 18 false,
 zPg 24 .pick [.t 18, .c (.bool true), .t 23] 13 true,
 zP 25 .pick [.t 13, .t 24, .c (.bool false)],
 zM 2 25])
.ret))⟩
abbrev f_purse_Purse_Waits : Nat := 103
abbrev C_purse_Purse_Waits : AFunc := C103
def C105 : AFunc := ⟨31, [],
(.seq (.ops [⟨some 9, none, .a .box, [.t 4]⟩])
(.seq (.ops [zM 10 0,
 zN 11 10,
 zF 12 11 10,
 zL 13 12,
 zM 14 1,
 zM 15 2,
 zM 16 3,
 zF 17 9 0,
 zS 1 [.t 17, .t 13],
 zF 18 9 1,
 zS 1 [.t 18, .t 14],
 zF 19 9 2,
 zS 1 [.t 19, .t 15],
 zF 20 9 3,
 zS 1 [.t 20, .t 16]])
(.dops [zM 21 0,
 zM 22 0,
 zN 23 22,
 zF 24 23 13,
 zL 25 24,
⟨some 26, none, .r (.loadN 7), [.t 9]⟩,
⟨some 27, none, .a (.bslice [(.int .i64 0), (.int .i64 0), (.int .i64 0), (.int .i64 0), (.int .i64 0), (.int .i64 0), (.str [])] 1 7 [0]), [.t 26]⟩,
⟨some 28, none, .e (.append 7 64), [.t 25, .t 27]⟩,
 zN 29 21,
 zF 30 29 13,
 zS 1 [.t 30, .t 28]] [[], [], [], [], [], [], [], [], [], [], []])))⟩
abbrev f_kernel_Kernel_note : Nat := 105
abbrev C_kernel_Kernel_note : AFunc := C105
def C107 : AFunc := ⟨8, [.tmp 2],
(.seq (.ops [zP 2 .mov [.c (.bool false)]])
(.seq (.ops [zM 3 0,
 zN 4 3,
 zF 5 4 11,
 zL 6 5,
⟨some 7, none, .call, [.c (.func (.func 136) [] []), .t 6, .c (.func (.func 103) [] [])]⟩,
 zM 2 7])
.ret))⟩
abbrev f_kernel_Kernel_waits : Nat := 107
abbrev C_kernel_Kernel_waits : AFunc := C107
def C108 : AFunc := ⟨39, [.tmp 6],
(.seq (.ops [⟨some 3, none, .a .box, [.t 0]⟩,
 zP 6 .mov [.c (.int .i64 0)]])
(.seq (.seq (.ops [⟨some 9, none, .r (.loadN 2), [.t 3]⟩,
 zM 10 1,
⟨some 11, none, .call, [.c (.func (.func 137) [] []), .t 9, .t 10]⟩,
 zM 7 11])
(.seq (.ops [zM 12 7,
 zP 13 (.bin .neq) [.t 12, .c (.int .i64 0)]])
(.cond (.t 13)
(.seq (.ops [zM 14 7,
 zM 6 14])
.ret)
.skip)))
(.seq (.seq (.ops [zM 15 2,
 zP 16 (.bin .lss) [.t 15, .c (.int .i64 0)],
 zM 17 16,
 zMg 18 2 17 false,
 zMg 19 1 17 false,
 zPg 20 .lenS [.t 19] 17 false,
 zPg 21 (.bin .geq) [.t 18, .t 20] 17 false,
 zP 22 .pick [.t 17, .c (.bool true), .t 21]])
(.cond (.t 22)
(.seq (.ops [zP 6 .mov [.c (.int .i64 9)]])
.ret)
.skip))
(.seq (.ops [⟨some 8, none, .a (.alloc [(.bool false), (.bool false), (.bool false), (.bool false)]), []⟩])
(.seq (.ops [zP 23 (.sliceArr 1 4 false false false) [.t 8],
 zM 24 1,
⟨some 25, none, .e (.copy 1), [.t 23, .t 24]⟩])
(.seq (.ops [zM 26 2,
 zP 27 (.iaddrA 1 4) [.t 8, .t 26],
 zS 1 [.t 27, .c (.bool true)]])
(.seq (.dops [⟨some 29, none, .r (.loadN 2), [.t 3]⟩,
 zM 30 1,
 zP 31 .lenS [.t 30],
 zP 32 (.sliceArr 1 4 false true false) [.t 8, .t 31],
⟨some 33, none, .call, [.c (.func (.func 138) [] []), .t 29, .t 32]⟩,
 zM 28 33,
 zP 34 (.ext 0) [.t 28],
 zP 35 (.ext 1) [.t 28],
 zP 36 (.ext 2) [.t 28],
 zM 6 36] [[], [], [], [], [], [], [], [], [], []])
(.seq (.ops [zP 37 (.sliceArr 1 4 false false false) [.t 8],
⟨none, none, .e (.clear [(.bool false)]), [.t 37]⟩])
(.seq (.ops [zM 38 6,
 zM 6 38])
.ret)))))))))⟩
abbrev f_gate_Join : Nat := 108
abbrev C_gate_Join : AFunc := C108
def C109 : AFunc := ⟨14, [.tmp 2],
(.seq (.ops [zP 2 .mov [.c .nils]])
(.seq (.ops [zM 4 0,
 zN 5 4,
 zF 6 5 11,
 zL 7 6,
 zP 8 .lenS [.t 7],
⟨some 9, none, .a (.mkslice [(.bool false)] 1 1), [.t 8, .t 8]⟩,
⟨some 3, none, .a (.alloc [.nils]), []⟩,
 zS 1 [.t 3, .t 9]])
(.seq (.ops [zM 10 0,
 zP 11 (.mkfunc (.func 139) 0) [.t 3],
⟨some 12, none, .call, [.c (.func (.func 121) [] []), .t 10, .t 11]⟩])
(.seq (.ops [zL 13 3,
 zM 2 13])
.ret))))⟩
abbrev f_kernel_Kernel_who : Nat := 109
abbrev C_kernel_Kernel_who : AFunc := C109
def C110 : AFunc := ⟨28, [.tmp 6, .tmp 7],
(.seq (.ops [zP 6 .mov [.c .nilp],
 zP 7 .mov [.c (.int .i64 0)]])
(.seq (.ops [zM 9 0,
 zM 10 1,
 zP 11 (.build [(.int .i64 0), (.int .i64 0)] [(0, 1), (1, 1)]) [.t 9, .t 10],
⟨some 8, none, .a (.alloc [(.int .i64 0), (.int .i64 0)]), []⟩,
 zS 2 [.t 8, .t 11]])
(.seq (.block 0 (.seq (.seq (.ops [⟨some 13, none, .r (.loadN 2), [.t 8]⟩,
⟨some 14, none, .call, [.c (.func (.func 140) [] []), .t 13]⟩,
 zP 15 .not [.t 14],
 zM 12 15])
(.cond (.t 12)
.skip
(.ops [zM 16 2,
 zP 17 (.bin .lss) [.t 16, .c (.int .i64 0)],
 zM 12 17])))
(.cond (.t 12)
(.seq (.ops [zP 6 .mov [.c .nilp],
 zP 7 .mov [.c (.int .i64 2)]])
.ret)
(.seq (.ops [zM 19 2,
 zP 20 (.bin .gtr) [.t 19, .c (.int .i64 1099511627776)],
 zM 18 20])
(.cond (.t 18)
(.seq (.ops [zP 6 .mov [.c .nilp],
 zP 7 .mov [.c (.int .i64 10)]])
.ret)
.skip)))))
(.seq (.ops [⟨some 21, none, .r (.loadN 2), [.t 8]⟩,
 zM 22 1,
 zM 23 2,
 zM 24 0,
 zP 25 (.bin .add) [.t 23, .t 24],
 zP 26 (.build [(.int .i64 0), (.int .i64 0), (.int .i64 0), (.int .i64 0), .nilp, (.bool false), (.bool false), (.int .i64 0)] [(0, 2), (2, 1), (3, 1)]) [.t 21, .t 22, .t 25],
⟨some 27, none, .a .box, [.t 26]⟩,
 zM 6 27,
 zP 7 .mov [.c (.int .i64 0)]])
.ret))))⟩
abbrev f_purse_New : Nat := 110
abbrev C_purse_New : AFunc := C110
def L_room_New_0 : AC := (.seq (.ops [zP 28 (.bin .lss) [.t 27, .t 26]])
(.seq (.cond (.t 28)
.skip
(.exit 0))
(.seq (.block 1 (.seq (.ops [zP 29 (.iaddrS 8) [.t 25, .t 27],
⟨some 30, none, .r (.loadN 8), [.t 29]⟩,
⟨some 7, none, .a (.alloc [(.int .i64 0), (.int .i64 0), (.int .i64 0), (.int .i64 0), (.int .i64 0), (.int .i64 0), (.int .i64 0), (.int .i64 0)]), []⟩,
 zS 8 [.t 7, .t 30]])
(.seq (.ops [zF 32 7 0,
 zL 33 32,
⟨some 34, none, .call, [.c (.func (.func 142) [] []), .t 33]⟩,
 zM 31 34,
 zP 35 (.ext 0) [.t 31],
 zP 36 (.ext 1) [.t 31],
 zM 8 35,
 zM 9 36])
(.ops [zM 37 5,
 zM 38 5,
 zN 39 38,
 zF 40 39 3,
 zL 41 40,
 zM 42 8,
⟨some 43, none, .a (.bslice [.nilp] 1 1 [0]), [.t 42]⟩,
⟨some 44, none, .e (.append 1 8), [.t 41, .t 43]⟩,
 zN 45 37,
 zF 46 45 3,
 zS 1 [.t 46, .t 44]]))))
(.ops [zP 47 (.bin .add) [.t 27, .c (.int .i64 1)],
 zM 27 47]))))
def C111 : AFunc := ⟨66, [.tmp 2, .tmp 3],
(.seq (.ops [zP 2 .mov [.c .nilp],
 zP 3 .mov [.c (.int .i64 0)]])
(.seq (.seq (.ops [zM 10 0,
 zM 11 0,
 zP 12 .lenS [.t 11],
⟨some 13, none, .a (.mkslice [(.int .i64 0)] 1 8), [.t 12, .t 12]⟩,
⟨some 14, none, .call, [.c (.func (.func 141) [] []), .t 10, .t 13]⟩,
 zM 4 14])
(.seq (.ops [zM 15 4,
 zP 16 (.bin .neq) [.t 15, .c (.int .i64 0)]])
(.cond (.t 16)
(.seq (.ops [zM 17 4,
 zP 2 .mov [.c .nilp],
 zM 3 17])
.ret)
.skip)))
(.seq (.dops [zM 18 0,
⟨some 19, none, .call, [.c (.func (.func 86) [] []), .t 18]⟩,
 zM 20 0,
 zP 21 .lenS [.t 20],
⟨some 22, none, .a (.mkslice [.nilp] 1 8), [.t 21, .t 21]⟩,
 zP 23 (.build [.nilp, .nilp, .nils, .nils, .nils] [(2, 1), (4, 1)]) [.t 19, .t 22],
⟨some 24, none, .a .box, [.t 23]⟩,
 zM 5 24] [[], [], [], [], [], [], [], []])
(.seq (.seq (.ops [zM 25 0,
 zP 26 .lenS [.t 25],
 zP 27 .mov [.c (.int .i64 0)]])
(.block 0 (.loop L_room_New_0)))
(.seq (.ops [zM 49 5,
 zM 50 0,
⟨some 51, none, .call, [.c (.func (.func 143) [] []), .t 50]⟩,
 zM 48 51,
 zP 52 (.ext 0) [.t 48],
 zP 53 (.ext 1) [.t 48],
 zN 54 49,
 zF 55 54 0,
 zS 1 [.t 55, .t 52]])
(.seq (.ops [zM 57 5,
 zM 58 0,
 zP 59 .lenS [.t 58],
⟨some 60, none, .call, [.c (.func (.func 144) [] []), .t 59]⟩,
 zM 56 60,
 zP 61 (.ext 0) [.t 56],
 zP 62 (.ext 1) [.t 56],
 zN 63 57,
 zF 64 63 1,
 zS 1 [.t 64, .t 61]])
(.seq (.ops [zM 65 5,
 zM 2 65,
 zP 3 .mov [.c (.int .i64 0)]])
.ret)))))))⟩
abbrev f_room_New : Nat := 111
abbrev C_room_New : AFunc := C111
def L_slices_IndexFunc_api_Task_api_Task_0 : AC := (.seq (.ops [zP 9 (.bin .lss) [.t 8, .t 7]])
(.seq (.cond (.t 9)
.skip
(.exit 0))
(.seq (.block 1 (.seq (.ops [zM 10 8,
 zM 5 10])
(.seq (.ops [zM 11 1,
 zM 12 0,
 zM 13 5,
 zP 14 (.iaddrS 8) [.t 12, .t 13],
⟨some 15, none, .r (.loadN 8), [.t 14]⟩,
⟨some 16, none, .call, [.t 11, .t 15]⟩])
(.cond (.t 16)
(.seq (.ops [zM 17 5,
 zM 4 17])
.ret)
.skip))))
(.ops [zP 18 (.bin .add) [.t 8, .c (.int .i64 1)],
 zM 8 18]))))
def C119 : AFunc := ⟨19, [.tmp 4],
(.seq (.ops [zP 4 .mov [.c (.int .i64 0)]])
(.seq (.seq (.ops [zM 6 0,
 zP 7 .lenS [.t 6],
 zP 8 .mov [.c (.int .i64 0)]])
(.block 0 (.loop L_slices_IndexFunc_api_Task_api_Task_0)))
(.seq (.ops [zP 4 .mov [.c (.int .i64 (-1))]])
.ret)))⟩
abbrev f_slices_IndexFunc_api_Task_api_Task : Nat := 119
abbrev C_slices_IndexFunc_api_Task_api_Task : AFunc := C119
def L_kernel_Kernel_each_0 : AC := (.seq (.ops [zP 11 (.bin .lss) [.t 10, .t 9]])
(.seq (.cond (.t 11)
.skip
(.exit 0))
(.seq (.block 1 (.seq (.ops [zM 12 10,
 zM 4 12])
(.seq (.ops [zM 13 0,
 zM 14 4,
⟨some 15, none, .call, [.c (.func (.func 95) [] []), .t 13, .t 14]⟩])
(.cond (.t 15)
(.ops [zM 16 1,
 zM 17 4,
⟨some 18, none, .call, [.t 16, .t 17]⟩])
.skip))))
(.ops [zP 19 (.bin .add) [.t 10, .c (.int .i64 1)],
 zM 10 19]))))
def C121 : AFunc := ⟨20, [],
(.seq (.ops [zM 5 0,
 zN 6 5,
 zF 7 6 11,
 zL 8 7,
 zP 9 .lenS [.t 8],
 zP 10 .mov [.c (.int .i64 0)]])
(.block 0 (.loop L_kernel_Kernel_each_0)))⟩
abbrev f_kernel_Kernel_each : Nat := 121
abbrev C_kernel_Kernel_each : AFunc := C121
def C122 : AFunc := ⟨75, [],
(.seq (.dops [zM 8 0,
 zN 9 8,
 zF 10 9 11,
 zL 11 10,
 zM 12 1,
 zP 13 (.iaddrS 1) [.t 11, .t 12],
 zL 14 13,
 zM 15 0,
 zN 16 15,
 zF 17 16 10,
 zL 18 17,
⟨some 19, none, .call, [.c (.func (.func 151) [] []), .t 14, .t 18]⟩,
 zM 7 19,
 zP 20 (.ext 0) [.t 7],
 zP 21 (.ext 1) [.t 7],
 zM 4 20,
 zM 5 21] [[], [], [], [], [], [], [], [], [], [], [], [], [], [], [], [], []])
(.block 0 (.seq (.ops [zM 23 4,
 zP 24 .not [.t 23],
 zM 22 24])
(.cond (.t 22)
.skip
(.seq (.ops [zM 26 0,
 zN 27 26,
 zF 28 27 11,
 zL 29 28,
 zM 30 1,
 zP 31 (.iaddrS 1) [.t 29, .t 30],
 zL 32 31,
⟨some 33, none, .call, [.c (.func (.func 152) [] []), .t 32]⟩,
 zM 25 33])
(.cond (.t 25)
(.ops [zM 34 0,
 zM 35 1,
⟨some 36, none, .call, [.c (.func (.func 117) [] []), .t 34, .t 35]⟩])
(.seq (.ops [zM 38 0,
 zN 39 38,
 zF 40 39 8,
 zL 41 40,
 zM 42 1,
 zP 43 (.bin .eql) [.t 41, .t 42],
 zM 37 43])
(.cond (.t 37)
(.seq (.ops [zM 44 0,
 zM 45 1,
⟨some 46, none, .call, [.c (.func (.func 148) [] []), .t 44, .t 45, .c (.int .i64 0)]⟩])
(.seq (.ops [zM 47 0,
 zM 48 0,
 zM 49 0,
 zN 50 49,
 zF 51 50 6,
⟨some 52, none, .r (.loadN 2), [.t 51]⟩,
 zN 53 47,
 zF 54 53 4,
 zS 2 [.t 54, .t 52],
 zN 55 48,
 zF 56 55 8,
 zS 1 [.t 56, .c (.int .i64 (-1))]])
(.seq (.ops [zM 57 0,
 zN 58 57,
 zF 59 58 4,
 zF 60 59 0,
 zL 61 60,
 zM 62 1,
 zP 63 (.iaddrS 3) [.t 61, .t 62],
⟨some 64, none, .r (.loadN 3), [.t 63]⟩,
⟨some 6, none, .a (.alloc [(.int .i64 0), (.int .i64 0), .nils]), []⟩,
 zS 3 [.t 6, .t 64]])
(.ops [zM 65 0,
 zM 66 1,
 zF 67 6 0,
 zL 68 67,
 zP 69 (.bin .mul) [.c (.int .i64 100), .t 68],
 zF 70 6 1,
 zL 71 70,
 zP 72 (.bin .add) [.t 69, .t 71],
 zP 73 (.build [(.int .i64 0), (.int .i64 0), (.int .i64 0), (.int .i64 0), (.int .i64 0), (.int .i64 0), (.str [])] [(4, 1)]) [.t 72],
⟨some 74, none, .call, [.c (.func (.func 105) [] []), .t 65, .c (.int .i64 8), .t 66, .c (.int .i64 0), .t 73]⟩]))))
.skip))))))))⟩
abbrev f_kernel_Kernel_turned : Nat := 122
abbrev C_kernel_Kernel_turned : AFunc := C122
def L_kernel_Kernel_late_0 : AC := (.seq (.ops [zP 16 (.bin .lss) [.t 15, .t 14]])
(.seq (.cond (.t 16)
.skip
(.exit 0))
(.seq (.block 1 (.seq (.ops [zP 17 (.iaddrS 1) [.t 13, .t 15],
 zL 18 17,
 zM 5 18])
(.seq (.dops [zM 19 0,
 zM 20 1,
 zM 21 5,
⟨some 22, none, .call, [.c (.func (.func 115) [] []), .t 19, .t 20, .t 21]⟩,
 zM 23 22,
 zMg 24 0 23 true,
 zNg 25 24 23 true,
 zFg 26 25 12 23 true,
 zLg 27 26 23 true,
 zMg 28 1 23 true,
 zPg 29 (.iaddrS 1) [.t 27, .t 28] 23 true,
 zLg 30 29 23 true,
 zMg 31 5 23 true,
 zMg 32 0 23 true,
 zNg 33 32 23 true,
 zFg 34 33 10 23 true,
 zLg 35 34 23 true,
⟨some 36, some (23, true), .call, [.c (.func (.func 154) [] []), .t 30, .t 31, .t 35]⟩,
 zPg 37 (.bin .eql) [.t 36, .c (.int .i64 3)] 23 true,
 zP 38 .pick [.t 23, .t 37, .c (.bool false)]] [[], [], [], [], [], [], [], [], [], [], [], [], [], [], [], [], [], [], [], []])
(.cond (.t 38)
(.ops [zM 39 0,
 zM 40 1,
 zM 41 5,
⟨some 42, none, .call, [.c (.func (.func 155) [] []), .t 39, .t 40, .t 41, .c (.int .i64 3)]⟩])
.skip))))
(.ops [zP 43 (.bin .add) [.t 15, .c (.int .i64 1)],
 zM 15 43]))))
def C123 : AFunc := ⟨44, [],
(.seq (.ops [zM 6 0,
 zN 7 6,
 zF 8 7 12,
 zL 9 8,
 zM 10 1,
 zP 11 (.iaddrS 1) [.t 9, .t 10],
 zL 12 11,
⟨some 13, none, .call, [.c (.func (.func 153) [] []), .t 12]⟩,
 zP 14 .lenS [.t 13],
 zP 15 .mov [.c (.int .i64 0)]])
(.block 0 (.loop L_kernel_Kernel_late_0)))⟩
abbrev f_kernel_Kernel_late : Nat := 123
abbrev C_kernel_Kernel_late : AFunc := C123
def L_kernel_Kernel_rings_0 : AC := (.seq (.ops [zP 19 (.bin .lss) [.t 18, .t 17]])
(.seq (.cond (.t 19)
.skip
(.exit 0))
(.seq (.block 1 (.seq (.ops [zP 20 (.iaddrS 3) [.t 16, .t 18],
⟨some 21, none, .r (.loadN 3), [.t 20]⟩,
⟨some 3, none, .a (.alloc [(.int .i64 0), (.int .i64 0), (.int .i64 0)]), []⟩,
 zS 3 [.t 3, .t 21]])
(.seq (.dops [zF 22 3 2,
 zL 23 22,
 zP 24 (.bin .quo) [.t 23, .c (.int .i64 4)],
 zF 25 3 2,
 zL 26 25,
 zP 27 (.bin .rem) [.t 26, .c (.int .i64 4)],
 zM 4 24,
 zM 5 27] [[], [], [], [], [], [], [], []])
(.seq (.ops [zM 28 0,
 zM 29 4,
⟨some 30, none, .call, [.c (.func (.func 95) [] []), .t 28, .t 29]⟩,
 zM 31 30,
 zMg 32 0 31 true,
 zNg 33 32 31 true,
 zFg 34 33 11 31 true,
 zLg 35 34 31 true,
 zMg 36 4 31 true,
 zPg 37 (.iaddrS 1) [.t 35, .t 36] 31 true,
 zLg 38 37 31 true,
⟨some 39, some (31, true), .call, [.c (.func (.func 103) [] []), .t 38]⟩,
 zPg 40 .not [.t 39] 31 true,
 zP 41 .pick [.t 31, .t 40, .c (.bool false)]])
(.cond (.t 41)
(.seq (.dops [zM 42 0,
 zN 43 42,
 zF 44 43 12,
 zL 45 44,
 zM 46 4,
 zP 47 (.iaddrS 1) [.t 45, .t 46],
 zL 48 47,
 zM 49 5,
 zP 50 (.build [(.int .i64 0), (.int .i64 0), (.str [])] [(0, 1), (1, 1)]) [.c (.int .i64 1), .c (.int .i64 1)],
⟨some 51, none, .a (.bslice [(.int .i64 0), (.int .i64 0), (.str [])] 1 3 [0]), [.t 50]⟩,
 zM 52 0,
 zN 53 52,
 zF 54 53 10,
 zL 55 54,
⟨some 56, none, .call, [.c (.func (.func 104) [] []), .t 48, .t 49, .t 51, .t 55]⟩,
 zM 6 56] [[], [], [], [], [], [], [], [], [], [], [], [], [], [], [], []])
(.ops [zM 57 0,
 zM 58 4,
 zM 59 5,
 zM 60 6,
 zP 61 (.build [(.int .i64 0), (.int .i64 0), (.int .i64 0), (.int .i64 0), (.int .i64 0), (.int .i64 0), (.str [])] [(5, 1)]) [.t 60],
⟨some 62, none, .call, [.c (.func (.func 105) [] []), .t 57, .c (.int .i64 2), .t 58, .t 59, .t 61]⟩]))
.skip)))))
(.ops [zP 63 (.bin .add) [.t 18, .c (.int .i64 1)],
 zM 18 63]))))
def C124 : AFunc := ⟨64, [],
(.seq (.dops [zM 7 0,
 zN 8 7,
 zF 9 8 0,
 zF 10 9 3,
 zL 11 10,
 zM 12 0,
 zN 13 12,
 zF 14 13 10,
 zL 15 14,
⟨some 16, none, .call, [.c (.func (.func 156) [] []), .t 11, .t 15]⟩,
 zP 17 .lenS [.t 16],
 zP 18 .mov [.c (.int .i64 0)]] [[], [], [], [], [], [], [], [], [], [], [], []])
(.block 0 (.loop L_kernel_Kernel_rings_0)))⟩
abbrev f_kernel_Kernel_rings : Nat := 124
abbrev C_kernel_Kernel_rings : AFunc := C124
def L_turn_Who_0 : AC := (.seq (.ops [zP 16 (.bin .lss) [.t 15, .t 14]])
(.seq (.cond (.t 16)
.skip
(.exit 0))
(.seq (.block 1 (.seq (.ops [zM 17 15,
 zP 18 (.iaddrS 1) [.t 13, .t 15],
 zL 19 18,
 zM 5 17,
 zM 6 19])
(.seq (.ops [zM 20 6,
⟨some 21, none, .call, [.c (.func (.func 152) [] []), .t 20]⟩,
 zP 22 .not [.t 21],
 zM 23 22,
 zMg 24 6 23 true,
⟨some 25, some (23, true), .call, [.c (.func (.func 157) [] []), .t 24]⟩,
 zPg 26 (.bin .gtr) [.t 25, .c (.int .i64 0)] 23 true,
 zP 27 .pick [.t 23, .t 26, .c (.bool false)]])
(.cond (.t 27)
(.ops [zM 28 4,
 zM 29 5,
 zM 30 6,
⟨some 31, none, .call, [.c (.func (.func 149) [] []), .t 30]⟩,
⟨some 32, none, .call, [.c (.func (.func 158) [] []), .t 28, .t 29, .t 31]⟩])
.skip))))
(.ops [zP 33 (.bin .add) [.t 15, .c (.int .i64 1)],
 zM 15 33]))))
def C125 : AFunc := ⟨44, [.tmp 2, .tmp 3],
(.seq (.ops [zP 2 .mov [.c (.int .i64 0)],
 zP 3 .mov [.c (.bool false)]])
(.seq (.ops [⟨some 8, none, .call, [.c (.func (.func 83) [] [])]⟩,
 zM 4 8])
(.seq (.seq (.ops [zM 9 0,
 zM 10 0,
 zP 11 .lenS [.t 10],
 zP 12 .mn [.t 11, .c (.int .i64 4)],
 zP 13 (.slice 1 false true false) [.t 9, .t 12],
 zP 14 .lenS [.t 13],
 zP 15 .mov [.c (.int .i64 0)]])
(.block 0 (.loop L_turn_Who_0)))
(.seq (.ops [zM 34 4,
 zP 35 (.mkfunc (.func 159) 1) [.t 34],
 zM 7 35])
(.seq (.ops [zM 37 7,
⟨some 38, none, .call, [.t 37]⟩,
 zM 36 38,
 zP 39 (.ext 0) [.t 36],
 zP 40 (.ext 1) [.t 36],
 zP 41 (.ext 2) [.t 36],
 zM 2 39,
 zM 3 41])
(.seq (.ops [zM 42 2,
 zM 43 3,
 zM 2 42,
 zM 3 43])
.ret))))))⟩
abbrev f_turn_Who : Nat := 125
abbrev C_turn_Who : AFunc := C125
def L_kernel_Kernel_run_0 : AC := (.seq (.seq (.ops [zM 9 4,
 zP 10 .not [.t 9],
 zM 11 10,
 zMg 12 0 11 true,
 zMg 13 1 11 true,
⟨some 14, some (11, true), .call, [.c (.func (.func 95) [] []), .t 12, .t 13]⟩,
 zP 15 .pick [.t 11, .t 14, .c (.bool false)]])
(.cond (.t 15)
.skip
(.exit 0)))
(.block 1 (.seq (.ops [zM 17 0,
 zN 18 17,
 zF 19 18 12,
 zL 20 19,
 zM 21 1,
 zP 22 (.iaddrS 1) [.t 20, .t 21],
 zL 23 22,
⟨some 24, none, .call, [.c (.func (.func 160) [] []), .t 23]⟩,
 zM 16 24,
 zP 25 (.ext 0) [.t 16],
 zP 26 (.ext 1) [.t 16],
 zM 5 25,
 zM 6 26])
(.seq (.seq (.ops [zM 27 6,
 zP 28 .not [.t 27]])
(.cond (.t 28)
(.seq (.ops [zM 29 0,
 zM 30 1,
 zP 31 (.build [(.int .i64 0), (.int .i64 0), (.int .i64 0), (.int .i64 0), (.int .i64 0), (.int .i64 0), (.str [])] []) [],
⟨some 32, none, .call, [.c (.func (.func 105) [] []), .t 29, .c (.int .i64 1), .t 30, .c (.int .i64 (-1)), .t 31]⟩])
.ret)
.skip))
(.seq (.ops [zM 34 0,
 zN 35 34,
 zF 36 35 12,
 zL 37 36,
 zM 38 1,
 zP 39 (.iaddrS 1) [.t 37, .t 38],
 zL 40 39,
 zM 41 5,
⟨some 42, none, .call, [.c (.func (.func 134) [] []), .t 40, .t 41]⟩,
 zM 33 42,
 zP 43 (.ext 0) [.t 33],
 zP 44 (.ext 1) [.t 33],
⟨some 7, none, .a (.alloc [(.int .i64 0), (.int .i64 0), (.str [])]), []⟩,
 zS 3 [.t 7, .t 43],
 zM 8 44])
(.seq (.ops [zF 45 7 0,
 zL 46 45])
(.block 2 (.seq (.ops [zP 53 (.bin .eql) [.t 46, .c (.int .i64 1)],
 zM 52 53])
(.cond (.t 52)
(.ops [zM 54 0,
 zM 55 1,
 zM 56 5,
⟨some 57, none, .call, [.c (.func (.func 161) [] []), .t 54, .t 55, .t 56]⟩,
 zM 4 57])
(.seq (.ops [zP 59 (.bin .eql) [.t 46, .c (.int .i64 4)],
 zM 58 59])
(.cond (.t 58)
(.ops [zM 60 0,
 zM 61 1,
 zM 62 5,
⟨some 63, none, .call, [.c (.func (.func 162) [] []), .t 60, .t 61, .t 62]⟩,
 zP 64 .not [.t 63],
 zM 4 64])
(.ops [zM 47 0,
 zM 48 1,
 zM 49 5,
⟨some 50, none, .r (.loadN 3), [.t 7]⟩,
⟨some 51, none, .call, [.c (.func (.func 163) [] []), .t 47, .t 48, .t 49, .t 50]⟩]))))))))))))
def C126 : AFunc := ⟨65, [],
(.seq (.ops [zP 4 .mov [.c (.bool false)]])
(.block 0 (.loop L_kernel_Kernel_run_0)))⟩
abbrev f_kernel_Kernel_run : Nat := 126
abbrev C_kernel_Kernel_run : AFunc := C126
def C127 : AFunc := ⟨24, [.tmp 2],
(.seq (.ops [zP 2 .mov [.c (.int .i64 0)]])
(.seq (.block 0 (.seq (.ops [zM 4 0,
⟨some 5, none, .call, [.c (.func (.func 128) [] []), .t 4]⟩,
 zM 3 5])
(.cond (.t 3)
(.seq (.ops [zP 2 .mov [.c (.int .i64 1)]])
.ret)
(.seq (.ops [zM 7 0,
 zN 8 7,
 zF 9 8 6,
 zL 10 9,
 zM 6 10])
(.cond (.t 6)
(.seq (.ops [zP 2 .mov [.c (.int .i64 250)]])
.ret)
(.seq (.ops [zM 12 0,
 zN 13 12,
 zF 14 13 2,
 zL 15 14,
 zP 16 (.bin .eql) [.t 15, .c (.int .i64 0)],
 zM 11 16])
(.cond (.t 11)
(.seq (.ops [zP 2 .mov [.c (.int .i64 8)]])
.ret)
.skip)))))))
(.seq (.ops [zM 17 0,
 zN 18 17,
 zF 19 18 2,
 zL 20 19,
 zP 21 (.bin .sub) [.t 20, .c (.int .i64 1)],
 zN 22 17,
 zF 23 22 2,
 zS 1 [.t 23, .t 21]])
(.seq (.ops [zP 2 .mov [.c (.int .i64 0)]])
.ret))))⟩
abbrev f_purse_Purse_Charge : Nat := 127
abbrev C_purse_Purse_Charge : AFunc := C127
def C128 : AFunc := ⟨13, [.tmp 2],
(.seq (.ops [zP 2 .mov [.c (.bool false)]])
(.seq (.ops [zM 3 0,
 zP 4 (.eq .nilptr) [.t 3, .c .nilp],
 zM 5 4,
 zMg 6 0 5 false,
 zNg 7 6 5 false,
 zFg 8 7 0 5 false,
⟨some 9, some (5, false), .r (.loadN 2), [.t 8]⟩,
 zPg 10 (.build [(.int .i64 0), (.int .i64 0)] []) [] 5 false,
 zPg 11 (.eq (.cells [0, 0])) [.t 9, .t 10] 5 false,
 zP 12 .pick [.t 5, .c (.bool true), .t 11],
 zM 2 12])
.ret))⟩
abbrev f_purse_Purse_none : Nat := 128
abbrev C_purse_Purse_none : AFunc := C128
def C136 : AFunc := ⟨9, [.tmp 4],
(.seq (.ops [zP 4 .mov [.c (.bool false)]])
(.seq (.ops [zM 5 0,
 zM 6 1,
⟨some 7, none, .call, [.c (.func (.func 174) [] []), .t 5, .t 6]⟩,
 zP 8 (.bin .geq) [.t 7, .c (.int .i64 0)],
 zM 4 8])
.ret))⟩
abbrev f_slices_ContainsFunc_purse_Purse_purse_Purse : Nat := 136
abbrev C_slices_ContainsFunc_purse_Purse_purse_Purse : AFunc := C136
def C137 : AFunc := ⟨17, [.tmp 4],
(.seq (.ops [⟨some 2, none, .a .box, [.t 0]⟩,
 zP 4 .mov [.c (.int .i64 0)]])
(.seq (.seq (.ops [⟨some 6, none, .r (.loadN 2), [.t 2]⟩,
⟨some 7, none, .call, [.c (.func (.func 61) [] []), .t 6]⟩,
 zM 5 7])
(.seq (.ops [zM 8 5,
 zP 9 (.bin .neq) [.t 8, .c (.int .i64 0)]])
(.cond (.t 9)
(.seq (.ops [zM 10 5,
 zM 4 10])
.ret)
.skip)))
(.seq (.seq (.ops [zM 11 1,
 zP 12 .lenS [.t 11],
 zF 13 2 0,
 zL 14 13,
 zP 15 .lenS [.t 14],
 zP 16 (.bin .neq) [.t 12, .t 15]])
(.cond (.t 16)
(.seq (.ops [zP 4 .mov [.c (.int .i64 2)]])
.ret)
.skip))
(.seq (.ops [zP 4 .mov [.c (.int .i64 0)]])
.ret))))⟩
abbrev f_gate_asked : Nat := 137
abbrev C_gate_asked : AFunc := C137
def L_gate_Test_0 : AC := (.seq (.ops [zP 33 (.bin .lss) [.t 32, .t 31]])
(.seq (.cond (.t 33)
.skip
(.exit 0))
(.seq (.block 1 (.seq (.ops [zM 34 32,
 zP 35 (.iaddrS 3) [.t 30, .t 32],
⟨some 36, none, .r (.loadN 3), [.t 35]⟩,
⟨some 11, none, .a (.alloc [(.int .i64 0), (.int .i64 0), .nils]), []⟩,
 zM 10 34,
 zS 3 [.t 11, .t 36]])
(.seq (.ops [zM 37 1,
 zM 38 10,
 zP 39 (.iaddrS 1) [.t 37, .t 38],
 zL 40 39])
(.cond (.t 40)
(.ops [zM 41 8,
⟨some 42, none, .r (.loadN 3), [.t 11]⟩,
⟨some 43, none, .a (.bslice [(.int .i64 0), (.int .i64 0), .nils] 1 3 [0]), [.t 42]⟩,
⟨some 44, none, .e (.append 3 40), [.t 41, .t 43]⟩,
 zM 45 9,
 zM 46 10,
⟨some 47, none, .a (.bslice [(.int .i64 0)] 1 1 [0]), [.t 46]⟩,
⟨some 48, none, .e (.append 1 8), [.t 45, .t 47]⟩,
 zM 8 44,
 zM 9 48])
.skip))))
(.ops [zP 49 (.bin .add) [.t 32, .c (.int .i64 1)],
 zM 32 49]))))
def L_gate_Test_1 : AC := (.seq (.ops [zP 58 (.bin .lss) [.t 57, .t 56]])
(.seq (.cond (.t 58)
.skip
(.exit 2))
(.seq (.block 3 (.seq (.ops [zM 59 57,
 zP 60 (.iaddrS 1) [.t 55, .t 57],
 zL 61 60,
 zM 13 59,
 zM 14 61])
(.seq (.ops [zM 63 8,
 zM 64 13,
⟨some 65, none, .call, [.c (.func (.func 176) [] []), .t 63, .t 64]⟩,
 zM 62 65,
 zP 66 (.ext 0) [.t 62],
 zP 67 (.ext 1) [.t 62],
 zM 15 66,
 zM 16 67])
(.seq (.ops [zM 68 16,
 zP 69 (.bin .neq) [.t 68, .c (.int .i64 0)]])
(.cond (.t 69)
(.seq (.ops [zM 70 14,
 zM 71 15,
 zM 72 16,
 zM 4 70,
 zM 5 71,
 zM 6 72])
.ret)
.skip)))))
(.ops [zP 73 (.bin .add) [.t 57, .c (.int .i64 1)],
 zM 57 73]))))
def C138 : AFunc := ⟨74, [.tmp 4, .tmp 5, .tmp 6],
(.seq (.ops [⟨some 2, none, .a .box, [.t 0]⟩,
 zP 4 .mov [.c (.int .i64 0)],
 zP 5 .mov [.c (.int .i64 0)],
 zP 6 .mov [.c (.int .i64 0)]])
(.seq (.seq (.ops [⟨some 17, none, .r (.loadN 2), [.t 2]⟩,
 zM 18 1,
⟨some 19, none, .call, [.c (.func (.func 137) [] []), .t 17, .t 18]⟩,
 zM 7 19])
(.seq (.ops [zM 20 7,
 zP 21 (.bin .neq) [.t 20, .c (.int .i64 0)]])
(.cond (.t 21)
(.seq (.ops [zM 22 7,
 zP 4 .mov [.c (.int .i64 0)],
 zP 5 .mov [.c (.int .i64 0)],
 zM 6 22])
.ret)
.skip)))
(.seq (.ops [zM 23 1,
 zP 24 .lenS [.t 23],
⟨some 25, none, .a (.mkslice [(.int .i64 0), (.int .i64 0), .nils] 3 40), [.c (.int .i64 0), .t 24]⟩,
 zM 8 25])
(.seq (.ops [zM 26 1,
 zP 27 .lenS [.t 26],
⟨some 28, none, .a (.mkslice [(.int .i64 0)] 1 8), [.c (.int .i64 0), .t 27]⟩,
 zM 9 28])
(.seq (.seq (.ops [zF 29 2 0,
 zL 30 29,
 zP 31 .lenS [.t 30],
 zP 32 .mov [.c (.int .i64 0)]])
(.block 0 (.loop L_gate_Test_0)))
(.seq (.seq (.ops [zM 50 8,
⟨some 51, none, .call, [.c (.func (.func 175) [] []), .t 50]⟩,
 zM 12 51])
(.seq (.ops [zM 52 12,
 zP 53 (.bin .neq) [.t 52, .c (.int .i64 0)]])
(.cond (.t 53)
(.seq (.ops [zM 54 12,
 zP 4 .mov [.c (.int .i64 (-1))],
 zP 5 .mov [.c (.int .i64 0)],
 zM 6 54])
.ret)
.skip)))
(.seq (.seq (.ops [zM 55 9,
 zP 56 .lenS [.t 55],
 zP 57 .mov [.c (.int .i64 0)]])
(.block 2 (.loop L_gate_Test_1)))
(.seq (.ops [zP 4 .mov [.c (.int .i64 (-1))],
 zP 5 .mov [.c (.int .i64 0)],
 zP 6 .mov [.c (.int .i64 0)]])
.ret))))))))⟩
abbrev f_gate_Test : Nat := 138
abbrev C_gate_Test : AFunc := C138
def C140 : AFunc := ⟨18, [.tmp 2],
(.seq (.ops [⟨some 1, none, .a .box, [.t 0]⟩,
 zP 2 .mov [.c (.bool false)]])
(.seq (.ops [zF 3 1 1,
 zL 4 3,
 zP 5 (.bin .leq) [.c (.int .i64 1), .t 4],
 zM 6 5,
 zFg 7 1 1 6 true,
 zLg 8 7 6 true,
 zFg 9 1 0 6 true,
 zLg 10 9 6 true,
 zPg 11 (.bin .leq) [.t 8, .t 10] 6 true,
 zP 12 .pick [.t 6, .t 11, .c (.bool false)],
 zM 13 12,
 zFg 14 1 0 13 true,
 zLg 15 14 13 true,
 zPg 16 (.bin .leq) [.t 15, .c (.int .i64 64)] 13 true,
 zP 17 .pick [.t 13, .t 16, .c (.bool false)],
 zM 2 17])
.ret))⟩
abbrev f_purse_server_may : Nat := 140
abbrev C_purse_server_may : AFunc := C140
def C141 : AFunc := ⟨21, [.tmp 4],
(.seq (.ops [zP 4 .mov [.c (.int .i64 0)]])
(.seq (.ops [zM 6 1,
⟨some 7, none, .call, [.c (.func (.func 43) [] []), .t 6, .c (.func (.func 177) [] [])]⟩,
 zM 5 7])
(.seq (.seq (.ops [zM 8 5,
 zM 9 8,
 zMg 10 0 9 false,
⟨some 11, some (9, false), .call, [.c (.func (.func 178) [] []), .t 10]⟩,
 zPg 12 .not [.t 11] 9 false,
 zP 13 .pick [.t 9, .c (.bool true), .t 12],
 zM 14 13,
 zMg 15 1 14 false,
 zPg 16 .lenS [.t 15] 14 false,
 zMg 17 0 14 false,
 zPg 18 .lenS [.t 17] 14 false,
 zPg 19 (.bin .neq) [.t 16, .t 18] 14 false,
 zP 20 .pick [.t 14, .c (.bool true), .t 19]])
(.cond (.t 20)
(.seq (.ops [zP 4 .mov [.c (.int .i64 2)]])
.ret)
.skip))
(.seq (.ops [zP 4 .mov [.c (.int .i64 0)]])
.ret))))⟩
abbrev f_demand_Check : Nat := 141
abbrev C_demand_Check : AFunc := C141
def C142 : AFunc := ⟨10, [.tmp 2, .tmp 3],
(.seq (.ops [zP 2 .mov [.c .nilp],
 zP 3 .mov [.c (.int .i64 0)]])
(.seq (.seq (.ops [zM 4 0,
⟨some 5, none, .call, [.c (.func (.func 179) [] []), .t 4]⟩,
 zP 6 .not [.t 5]])
(.cond (.t 6)
(.seq (.ops [zP 2 .mov [.c .nilp],
 zP 3 .mov [.c (.int .i64 2)]])
.ret)
.skip))
(.seq (.ops [zM 7 0,
 zP 8 (.build [(.int .i64 0), (.int .i64 0)] [(0, 1)]) [.t 7],
⟨some 9, none, .a .box, [.t 8]⟩,
 zM 2 9,
 zP 3 .mov [.c (.int .i64 0)]])
.ret)))⟩
abbrev f_spore_New : Nat := 142
abbrev C_spore_New : AFunc := C142
def C143 : AFunc := ⟨11, [.tmp 2, .tmp 3],
(.seq (.ops [zP 2 .mov [.c .nilp],
 zP 3 .mov [.c (.int .i64 0)]])
(.seq (.seq (.ops [zM 4 0,
 zP 5 .lenS [.t 4],
 zP 6 (.bin .gtr) [.t 5, .c (.int .i64 4)]])
(.cond (.t 6)
(.seq (.ops [zP 2 .mov [.c .nilp],
 zP 3 .mov [.c (.int .i64 5)]])
.ret)
.skip))
(.seq (.ops [zM 7 0,
⟨some 8, none, .call, [.c (.func (.func 86) [] []), .t 7]⟩,
 zP 9 (.build [.nils, .nils, (.bool false)] [(0, 1), (2, 1)]) [.t 8, .c (.bool true)],
⟨some 10, none, .a .box, [.t 9]⟩,
 zM 2 10,
 zP 3 .mov [.c (.int .i64 0)]])
.ret)))⟩
abbrev f_stack_New : Nat := 143
abbrev C_stack_New : AFunc := C143
def C144 : AFunc := ⟨14, [.tmp 2, .tmp 3],
(.seq (.ops [zP 2 .mov [.c .nilp],
 zP 3 .mov [.c (.int .i64 0)]])
(.seq (.seq (.ops [zM 4 0,
 zP 5 (.bin .lss) [.t 4, .c (.int .i64 0)],
 zM 6 5,
 zMg 7 0 6 false,
 zPg 8 (.bin .gtr) [.t 7, .c (.int .i64 4)] 6 false,
 zP 9 .pick [.t 6, .c (.bool true), .t 8]])
(.cond (.t 9)
(.seq (.ops [zP 2 .mov [.c .nilp],
 zP 3 .mov [.c (.int .i64 2)]])
.ret)
.skip))
(.seq (.ops [⟨some 10, none, .call, [.c (.func (.func 83) [] [])]⟩,
 zM 11 0,
 zP 12 (.build [.nilp, (.int .i64 0)] [(0, 1), (1, 1)]) [.t 10, .t 11],
⟨some 13, none, .a .box, [.t 12]⟩,
 zM 2 13,
 zP 3 .mov [.c (.int .i64 0)]])
.ret)))⟩
abbrev f_ready_New : Nat := 144
abbrev C_ready_New : AFunc := C144
def C149 : AFunc := ⟨9, [.tmp 2],
(.seq (.ops [zP 2 .mov [.c (.int .i64 0)]])
(.seq (.seq (.ops [zM 3 0,
⟨some 4, none, .call, [.c (.func (.func 128) [] []), .t 3]⟩])
(.cond (.t 4)
(.seq (.ops [zP 2 .mov [.c (.int .i64 0)]])
.ret)
.skip))
(.seq (.ops [zM 5 0,
 zN 6 5,
 zF 7 6 3,
 zL 8 7,
 zM 2 8])
.ret)))⟩
abbrev f_purse_Purse_Ends : Nat := 149
abbrev C_purse_Purse_Ends : AFunc := C149
def C151 : AFunc := ⟨83, [.tmp 4, .tmp 5],
(.seq (.ops [zP 4 .mov [.c (.bool false)],
 zP 5 .mov [.c (.int .i64 0)]])
(.seq (.block 0 (.seq (.ops [zM 7 0,
⟨some 8, none, .call, [.c (.func (.func 128) [] []), .t 7]⟩,
 zM 6 8])
(.cond (.t 6)
(.seq (.ops [zP 4 .mov [.c (.bool false)],
 zP 5 .mov [.c (.int .i64 1)]])
.ret)
(.seq (.seq (.ops [zM 10 0,
 zN 11 10,
 zF 12 11 6,
 zL 13 12,
 zM 9 13])
(.cond (.t 9)
.skip
(.ops [zM 14 0,
 zN 15 14,
 zF 16 15 3,
 zL 17 16,
 zM 18 1,
 zP 19 (.bin .lss) [.t 17, .t 18],
 zM 9 19])))
(.cond (.t 9)
(.seq (.ops [zP 4 .mov [.c (.bool false)],
 zP 5 .mov [.c (.int .i64 250)]])
.ret)
(.seq (.ops [zM 21 0,
 zN 22 21,
 zF 23 22 3,
 zL 24 23,
 zM 25 1,
 zP 26 (.bin .gtr) [.t 24, .t 25],
 zM 20 26])
(.cond (.t 20)
(.seq (.ops [zP 4 .mov [.c (.bool false)],
 zP 5 .mov [.c (.int .i64 0)]])
.ret)
.skip)))))))
(.seq (.dops [zM 27 0,
 zN 28 27,
 zF 29 28 7,
 zL 30 29,
 zM 31 0,
 zN 32 31,
 zF 33 32 2,
 zL 34 33,
 zP 35 (.bin .add) [.t 30, .t 34],
 zN 36 27,
 zF 37 36 7,
 zS 1 [.t 37, .t 35]] [[], [], [], [], [], [], [], [], [], [], [], []])
(.seq (.ops [zM 38 0,
 zN 39 38,
 zF 40 39 2,
 zS 1 [.t 40, .c (.int .i64 0)]])
(.seq (.seq (.ops [zM 41 0,
 zN 42 41,
 zF 43 42 5,
 zL 44 43])
(.cond (.t 44)
(.seq (.ops [zM 45 0,
 zN 46 45,
 zF 47 46 6,
 zS 1 [.t 47, .c (.bool true)]])
(.seq (.ops [zP 4 .mov [.c (.bool true)],
 zP 5 .mov [.c (.int .i64 0)]])
.ret))
.skip))
(.seq (.seq (.ops [zM 48 0,
 zN 49 48,
 zF 50 49 4,
 zL 51 50,
 zP 52 (.neq .nilptr) [.t 51, .c .nilp]])
(.cond (.t 52)
(.ops [zM 53 0,
 zM 54 0,
 zM 55 0,
 zN 56 55,
 zF 57 56 4,
 zL 58 57,
 zN 59 58,
⟨some 60, none, .r (.loadN 2), [.t 59]⟩,
 zN 61 53,
 zF 62 61 0,
 zS 2 [.t 62, .t 60],
 zN 63 54,
 zF 64 63 4,
 zS 1 [.t 64, .c .nilp]])
.skip))
(.seq (.dops [zM 65 0,
 zM 66 0,
 zM 67 0,
 zN 68 67,
 zF 69 68 0,
 zF 70 69 1,
 zL 71 70,
 zM 72 1,
 zM 73 0,
 zN 74 73,
 zF 75 74 0,
 zF 76 75 0,
 zL 77 76,
 zP 78 (.bin .add) [.t 72, .t 77],
 zN 79 65,
 zF 80 79 2,
 zS 1 [.t 80, .t 71],
 zN 81 66,
 zF 82 81 3,
 zS 1 [.t 82, .t 78]] [[], [], [], [], [], [], [], [], [], [], [], [], [], [], [], [], [], [], [], []])
(.seq (.ops [zP 4 .mov [.c (.bool true)],
 zP 5 .mov [.c (.int .i64 0)]])
.ret))))))))⟩
abbrev f_purse_Purse_Turn : Nat := 151
abbrev C_purse_Purse_Turn : AFunc := C151
def C152 : AFunc := ⟨12, [.tmp 2],
(.seq (.ops [zP 2 .mov [.c (.bool false)]])
(.seq (.ops [zM 3 0,
⟨some 4, none, .call, [.c (.func (.func 128) [] []), .t 3]⟩,
 zP 5 .not [.t 4],
 zM 6 5,
 zMg 7 0 6 true,
 zNg 8 7 6 true,
 zFg 9 8 6 6 true,
 zLg 10 9 6 true,
 zP 11 .pick [.t 6, .t 10, .c (.bool false)],
 zM 2 11])
.ret))⟩
abbrev f_purse_Purse_Gone : Nat := 152
abbrev C_purse_Purse_Gone : AFunc := C152
def C153 : AFunc := ⟨10, [.tmp 2],
(.seq (.ops [zP 2 .mov [.c .nils]])
(.seq (.seq (.ops [zM 3 0,
⟨some 4, none, .call, [.c (.func (.func 164) [] []), .t 3]⟩])
(.cond (.t 4)
(.seq (.ops [zP 2 .mov [.c .nils]])
.ret)
.skip))
(.seq (.ops [zM 5 0,
 zN 6 5,
 zF 7 6 1,
 zL 8 7,
⟨some 9, none, .call, [.c (.func (.func 180) [] []), .t 8]⟩,
 zM 2 9])
.ret)))⟩
abbrev f_room_Room_Jobs : Nat := 153
abbrev C_room_Room_Jobs : AFunc := C153
def L_bell_Bells_Due_0 : AC := (.seq (.seq (.ops [zM 15 6,
 zM 16 15,
 zMg 17 5 16 true,
 zMg 18 1 16 true,
 zPg 19 (.bin .leq) [.t 17, .t 18] 16 true,
 zP 20 .pick [.t 16, .t 19, .c (.bool false)]])
(.cond (.t 20)
.skip
(.exit 0)))
(.seq (.block 1 (.seq (.ops [zM 27 0,
 zN 28 27,
 zF 29 28 0,
 zL 30 29,
⟨some 31, none, .call, [.c (.func (.func 184) [] []), .t 30]⟩,
 zM 26 31,
 zP 32 (.ext 0) [.t 26],
 zP 33 (.ext 1) [.t 26],
 zP 34 (.ext 2) [.t 26],
 zM 7 32,
 zM 8 33,
 zM 9 34])
(.ops [zM 35 4,
 zM 36 5,
 zM 37 7,
 zP 38 (.bin .quo) [.t 37, .c (.int .i64 16)],
 zM 39 7,
 zP 40 (.bin .rem) [.t 39, .c (.int .i64 16)],
 zP 41 (.build [(.int .i64 0), (.int .i64 0), (.int .i64 0)] [(0, 1), (1, 1), (2, 1)]) [.t 36, .t 38, .t 40],
⟨some 42, none, .a (.bslice [(.int .i64 0), (.int .i64 0), (.int .i64 0)] 1 3 [0]), [.t 41]⟩,
⟨some 43, none, .e (.append 3 24), [.t 35, .t 42]⟩,
 zM 4 43])))
(.ops [zM 22 0,
⟨some 23, none, .call, [.c (.func (.func 183) [] []), .t 22]⟩,
 zM 21 23,
 zP 24 (.ext 0) [.t 21],
 zP 25 (.ext 1) [.t 21],
 zM 5 24,
 zM 6 25])))
def C156 : AFunc := ⟨45, [.tmp 4],
(.seq (.ops [zP 4 .mov [.c .nils]])
(.seq (.seq (.ops [zM 11 0,
⟨some 12, none, .call, [.c (.func (.func 183) [] []), .t 11]⟩,
 zM 10 12,
 zP 13 (.ext 0) [.t 10],
 zP 14 (.ext 1) [.t 10],
 zM 5 13,
 zM 6 14])
(.block 0 (.loop L_bell_Bells_Due_0)))
(.seq (.ops [zM 44 4,
 zM 4 44])
.ret)))⟩
abbrev f_bell_Bells_Due : Nat := 156
abbrev C_bell_Bells_Due : AFunc := C156
def C157 : AFunc := ⟨9, [.tmp 2],
(.seq (.ops [zP 2 .mov [.c (.int .i64 0)]])
(.seq (.seq (.ops [zM 3 0,
⟨some 4, none, .call, [.c (.func (.func 128) [] []), .t 3]⟩])
(.cond (.t 4)
(.seq (.ops [zP 2 .mov [.c (.int .i64 0)]])
.ret)
.skip))
(.seq (.ops [zM 5 0,
 zN 6 5,
 zF 7 6 2,
 zL 8 7,
 zM 2 8])
.ret)))⟩
abbrev f_purse_Purse_Left : Nat := 157
abbrev C_purse_Purse_Left : AFunc := C157
def C158 : AFunc := ⟨55, [.tmp 6],
(.seq (.ops [zP 6 .mov [.c (.int .i64 0)]])
(.seq (.seq (.ops [zM 10 0,
 zM 11 1,
⟨some 12, none, .call, [.c (.func (.func 185) [] []), .t 10, .t 11]⟩,
 zM 7 12])
(.seq (.ops [zM 13 7,
 zP 14 (.bin .neq) [.t 13, .c (.int .i64 0)]])
(.cond (.t 14)
(.seq (.ops [zM 15 7,
 zM 6 15])
.ret)
.skip)))
(.seq (.seq (.ops [zM 17 0,
 zM 18 1,
⟨some 19, none, .call, [.c (.func (.func 186) [] []), .t 17, .t 18]⟩,
 zM 16 19,
 zP 20 (.ext 0) [.t 16],
 zP 21 (.ext 1) [.t 16],
 zM 8 20,
 zM 9 21])
(.seq (.ops [zM 22 9])
(.cond (.t 22)
(.seq (.ops [zP 6 .mov [.c (.int .i64 141)]])
.ret)
.skip)))
(.seq (.dops [zM 23 0,
 zN 24 23,
 zF 25 24 0,
 zL 26 25,
 zM 27 0,
 zN 28 27,
 zF 29 28 0,
 zL 30 29,
 zN 31 30,
 zF 32 31 0,
 zL 33 32,
 zM 34 1,
 zM 35 2,
 zP 36 (.build [(.int .i64 0), (.int .i64 0)] [(0, 1), (1, 1)]) [.t 34, .t 35],
⟨some 37, none, .a (.bslice [(.int .i64 0), (.int .i64 0)] 1 2 [0]), [.t 36]⟩,
⟨some 38, none, .e (.append 2 16), [.t 33, .t 37]⟩,
 zN 39 26,
 zF 40 39 0,
 zS 1 [.t 40, .t 38]] [[], [], [], [0, 16], [], [], [], [], [], [], [], [], [], [], [], [], [], [], []])
(.seq (.dops [zM 41 0,
 zN 42 41,
 zF 43 42 0,
 zL 44 43,
 zM 45 0,
 zN 46 45,
 zF 47 46 0,
 zL 48 47,
 zN 49 48,
 zF 50 49 0,
 zL 51 50,
 zP 52 .lenS [.t 51],
 zP 53 (.bin .sub) [.t 52, .c (.int .i64 1)],
⟨some 54, none, .call, [.c (.func (.func 187) [] []), .t 44, .t 53]⟩] [[], [], [], [], [], [], [], [], [], [], [], [], [], []])
(.seq (.ops [zP 6 .mov [.c (.int .i64 0)]])
.ret))))))⟩
abbrev f_rank_Rank_Put : Nat := 158
abbrev C_rank_Rank_Put : AFunc := C158
def C159 : AFunc := ⟨38, [.tmp 2, .tmp 3, .tmp 4],
(.seq (.ops [zP 2 .mov [.c (.int .i64 0)],
 zP 3 .mov [.c (.int .i64 0)],
 zP 4 .mov [.c (.bool false)]])
(.seq (.seq (.ops [zM 5 0,
⟨some 6, none, .call, [.c (.func (.func 188) [] []), .t 5]⟩,
 zM 7 6,
 zMg 8 0 7 false,
 zNg 9 8 7 false,
 zFg 10 9 0 7 false,
 zLg 11 10 7 false,
 zNg 12 11 7 false,
 zFg 13 12 0 7 false,
 zLg 14 13 7 false,
 zPg 15 .lenS [.t 14] 7 false,
 zPg 16 (.bin .eql) [.t 15, .c (.int .i64 0)] 7 false,
 zP 17 .pick [.t 7, .c (.bool true), .t 16]])
(.cond (.t 17)
(.seq (.ops [zP 2 .mov [.c (.int .i64 0)],
 zP 3 .mov [.c (.int .i64 0)],
 zP 4 .mov [.c (.bool false)]])
.ret)
.skip))
(.seq (.dops [zM 18 0,
 zN 19 18,
 zF 20 19 0,
 zL 21 20,
 zN 22 21,
 zF 23 22 0,
 zL 24 23,
 zP 25 (.iaddrS 2) [.t 24, .c (.int .i64 0)],
 zF 26 25 0,
 zL 27 26,
 zM 28 0,
 zN 29 28,
 zF 30 29 0,
 zL 31 30,
 zN 32 31,
 zF 33 32 0,
 zL 34 33,
 zP 35 (.iaddrS 2) [.t 34, .c (.int .i64 0)],
 zF 36 35 1,
 zL 37 36,
 zM 2 27,
 zM 3 37,
 zP 4 .mov [.c (.bool true)]] [[], [], [], [], [], [], [], [], [], [], [], [], [], [], [], [], [], [], [], [], [], [], []])
.ret)))⟩
abbrev f_rank_Rank_First : Nat := 159
abbrev C_rank_Rank_First : AFunc := C159
def C160 : AFunc := ⟨60, [.tmp 2, .tmp 3],
(.seq (.ops [zP 2 .mov [.c (.int .i64 0)],
 zP 3 .mov [.c (.bool false)]])
(.seq (.seq (.ops [zM 9 0,
⟨some 10, none, .call, [.c (.func (.func 164) [] []), .t 9]⟩])
(.cond (.t 10)
(.seq (.ops [zP 2 .mov [.c (.int .i64 0)],
 zP 3 .mov [.c (.bool false)]])
.ret)
.skip))
(.seq (.seq (.ops [zM 12 0,
⟨some 13, none, .call, [.c (.func (.func 171) [] []), .t 12]⟩,
 zM 11 13,
 zP 14 (.ext 0) [.t 11],
 zP 15 (.ext 1) [.t 11],
 zP 16 (.ext 2) [.t 11],
 zM 4 14,
 zM 5 15,
 zM 6 16])
(.seq (.ops [zM 17 6])
(.cond (.t 17)
(.seq (.ops [zM 18 4,
 zM 2 18,
 zP 3 .mov [.c (.bool true)]])
.ret)
.skip)))
(.seq (.ops [zM 20 0,
 zN 21 20,
 zF 22 21 1,
 zL 23 22,
⟨some 24, none, .call, [.c (.func (.func 189) [] []), .t 23]⟩,
 zM 19 24,
 zP 25 (.ext 0) [.t 19],
 zP 26 (.ext 1) [.t 19],
 zP 27 (.ext 2) [.t 19],
 zM 7 25,
 zM 8 26,
 zM 3 27])
(.seq (.block 0 (.seq (.ops [zM 29 3,
 zP 30 .not [.t 29],
 zM 28 30])
(.cond (.t 28)
(.seq (.ops [zP 2 .mov [.c (.int .i64 0)],
 zP 3 .mov [.c (.bool false)]])
.ret)
(.seq (.seq (.ops [zM 32 0,
 zN 33 32,
 zF 34 33 4,
 zL 35 34,
 zM 36 7,
 zP 37 (.iaddrS 1) [.t 35, .t 36],
 zL 38 37,
⟨some 39, none, .call, [.c (.func (.func 190) [] []), .t 38]⟩,
 zM 31 39])
(.cond (.t 31)
.skip
(.dops [zM 40 0,
 zN 41 40,
 zF 42 41 2,
 zL 43 42,
 zM 44 7,
⟨some 45, none, .call, [.c (.func (.func 191) [] []), .t 43, .t 44]⟩,
 zM 46 0,
 zN 47 46,
 zF 48 47 0,
 zL 49 48,
⟨some 50, none, .call, [.c (.func (.func 192) [] []), .t 49]⟩,
 zP 51 (.bin .gtr) [.t 45, .t 50],
 zM 31 51] [[], [], [], [], [], [], [], [], [], [0, 6], [], [], []])))
(.cond (.t 31)
(.seq (.ops [zM 52 7,
 zM 2 52,
 zP 3 .mov [.c (.bool true)]])
.ret)
.skip)))))
(.seq (.ops [zM 53 0,
 zN 54 53,
 zF 55 54 0,
 zL 56 55,
⟨some 57, none, .call, [.c (.func (.func 193) [] []), .t 56]⟩,
 zP 58 (.ext 0) [.t 57],
 zP 59 (.ext 1) [.t 57],
 zM 2 58,
 zM 3 59])
.ret))))))⟩
abbrev f_room_Room_Who : Nat := 160
abbrev C_room_Room_Who : AFunc := C160
def C164 : AFunc := ⟨12, [.tmp 2],
(.seq (.ops [zP 2 .mov [.c (.bool false)]])
(.seq (.ops [zM 3 0,
 zP 4 (.eq .nilptr) [.t 3, .c .nilp],
 zM 5 4,
 zMg 6 0 5 false,
 zNg 7 6 5 false,
 zFg 8 7 0 5 false,
 zLg 9 8 5 false,
 zPg 10 (.eq .nilptr) [.t 9, .c .nilp] 5 false,
 zP 11 .pick [.t 5, .c (.bool true), .t 10],
 zM 2 11])
.ret))⟩
abbrev f_room_Room_none : Nat := 164
abbrev C_room_Room_none : AFunc := C164
def C167 : AFunc := ⟨12, [.tmp 2],
(.seq (.ops [zP 2 .mov [.c (.bool false)]])
(.seq (.ops [zM 3 0,
 zP 4 (.eq .nilptr) [.t 3, .c .nilp],
 zM 5 4,
 zMg 6 0 5 false,
 zNg 7 6 5 false,
 zFg 8 7 0 5 false,
 zLg 9 8 5 false,
 zPg 10 (.eq .nilptr) [.t 9, .c .nilp] 5 false,
 zP 11 .pick [.t 5, .c (.bool true), .t 10],
 zM 2 11])
.ret))⟩
abbrev f_ready_Queue_none : Nat := 167
abbrev C_ready_Queue_none : AFunc := C167
def C168 : AFunc := ⟨12, [.tmp 2],
(.seq (.ops [zP 2 .mov [.c (.bool false)]])
(.seq (.ops [zM 3 0,
 zP 4 (.eq .nilptr) [.t 3, .c .nilp],
 zM 5 4,
 zMg 6 0 5 false,
 zNg 7 6 5 false,
 zFg 8 7 0 5 false,
 zLg 9 8 5 false,
 zPg 10 (.eq .nilptr) [.t 9, .c .nilp] 5 false,
 zP 11 .pick [.t 5, .c (.bool true), .t 10],
 zM 2 11])
.ret))⟩
abbrev f_job_Job_none : Nat := 168
abbrev C_job_Job_none : AFunc := C168
def L_room_Room_Sole_0 : AC := (.seq (.ops [zP 16 (.bin .lss) [.t 15, .t 14]])
(.seq (.cond (.t 16)
.skip
(.exit 0))
(.seq (.block 1 (.seq (.ops [zM 17 15,
 zP 18 (.iaddrS 1) [.t 13, .t 15],
 zL 19 18,
 zM 5 17,
 zM 6 19])
(.seq (.ops [zM 20 6,
⟨some 21, none, .call, [.c (.func (.func 214) [] []), .t 20]⟩,
 zM 7 21])
(.seq (.ops [zM 22 7,
 zP 23 (.bin .geq) [.t 22, .c (.int .i64 2)]])
(.cond (.t 23)
(.seq (.ops [zM 24 5,
 zM 25 7,
 zM 2 24,
 zM 3 25,
 zP 4 .mov [.c (.bool true)]])
.ret)
.skip)))))
(.ops [zP 26 (.bin .add) [.t 15, .c (.int .i64 1)],
 zM 15 26]))))
def C171 : AFunc := ⟨27, [.tmp 2, .tmp 3, .tmp 4],
(.seq (.ops [zP 2 .mov [.c (.int .i64 0)],
 zP 3 .mov [.c (.int .i64 0)],
 zP 4 .mov [.c (.bool false)]])
(.seq (.seq (.ops [zM 8 0,
⟨some 9, none, .call, [.c (.func (.func 164) [] []), .t 8]⟩])
(.cond (.t 9)
(.seq (.ops [zP 2 .mov [.c (.int .i64 0)],
 zP 3 .mov [.c (.int .i64 0)],
 zP 4 .mov [.c (.bool false)]])
.ret)
.skip))
(.seq (.seq (.ops [zM 10 0,
 zN 11 10,
 zF 12 11 4,
 zL 13 12,
 zP 14 .lenS [.t 13],
 zP 15 .mov [.c (.int .i64 0)]])
(.block 0 (.loop L_room_Room_Sole_0)))
(.seq (.ops [zP 2 .mov [.c (.int .i64 0)],
 zP 3 .mov [.c (.int .i64 0)],
 zP 4 .mov [.c (.bool false)]])
.ret))))⟩
abbrev f_room_Room_Sole : Nat := 171
abbrev C_room_Room_Sole : AFunc := C171
def L_slices_IndexFunc_purse_Purse_purse_Purse_0 : AC := (.seq (.ops [zP 9 (.bin .lss) [.t 8, .t 7]])
(.seq (.cond (.t 9)
.skip
(.exit 0))
(.seq (.block 1 (.seq (.ops [zM 10 8,
 zM 5 10])
(.seq (.ops [zM 11 1,
 zM 12 0,
 zM 13 5,
 zP 14 (.iaddrS 1) [.t 12, .t 13],
 zL 15 14,
⟨some 16, none, .call, [.t 11, .t 15]⟩])
(.cond (.t 16)
(.seq (.ops [zM 17 5,
 zM 4 17])
.ret)
.skip))))
(.ops [zP 18 (.bin .add) [.t 8, .c (.int .i64 1)],
 zM 8 18]))))
def C174 : AFunc := ⟨19, [.tmp 4],
(.seq (.ops [zP 4 .mov [.c (.int .i64 0)]])
(.seq (.seq (.ops [zM 6 0,
 zP 7 .lenS [.t 6],
 zP 8 .mov [.c (.int .i64 0)]])
(.block 0 (.loop L_slices_IndexFunc_purse_Purse_purse_Purse_0)))
(.seq (.ops [zP 4 .mov [.c (.int .i64 (-1))]])
.ret)))⟩
abbrev f_slices_IndexFunc_purse_Purse_purse_Purse : Nat := 174
abbrev C_slices_IndexFunc_purse_Purse_purse_Purse : AFunc := C174
def C175 : AFunc := ⟨16, [.tmp 2],
(.seq (.ops [zP 2 .mov [.c (.int .i64 0)]])
(.seq (.ops [zM 6 0,
⟨some 7, none, .call, [.c (.func (.func 222) [] []), .t 6]⟩,
 zM 5 7,
 zP 8 (.ext 0) [.t 5],
 zP 9 (.ext 1) [.t 5],
⟨some 3, none, .a (.alloc [(.int .i64 0), (.int .i64 0)]), []⟩,
 zS 2 [.t 3, .t 8],
 zM 4 9])
(.seq (.block 0 (.seq (.ops [zM 11 4,
 zP 12 .not [.t 11],
 zM 10 12])
(.cond (.t 10)
(.seq (.ops [zP 2 .mov [.c (.int .i64 2)]])
.ret)
(.seq (.ops [⟨some 14, none, .r (.loadN 2), [.t 3]⟩,
⟨some 15, none, .call, [.c (.func (.func 223) [] []), .t 14]⟩,
 zM 13 15])
(.cond (.t 13)
(.seq (.ops [zP 2 .mov [.c (.int .i64 120)]])
.ret)
.skip)))))
(.seq (.ops [zP 2 .mov [.c (.int .i64 0)]])
.ret))))⟩
abbrev f_share_Test : Nat := 175
abbrev C_share_Test : AFunc := C175
def L_local_Test_0 : AC := (.seq (.ops [zP 70 (.bin .lss) [.t 69, .t 68]])
(.seq (.cond (.t 70)
.skip
(.exit 0))
(.seq (.block 1 (.seq (.ops [zP 71 (.iaddrS 8) [.t 67, .t 69],
⟨some 72, none, .r (.loadN 8), [.t 71]⟩,
⟨some 12, none, .a (.alloc [(.int .i64 0), (.int .i64 0), (.int .i64 0), (.int .i64 0), (.int .i64 0), (.int .i64 0), (.int .i64 0), (.int .i64 0)]), []⟩,
 zS 8 [.t 12, .t 72]])
(.ops [zM 73 10,
 zF 74 12 1,
 zL 75 74,
 zP 76 .mx [.t 73, .t 75],
 zM 10 76])))
(.ops [zP 77 (.bin .add) [.t 69, .c (.int .i64 1)],
 zM 69 77]))))
def L_local_Test_1a : AC := (.seq (.ops [zM 13 90])
(.ops [zM 14 91]))
def L_local_Test_1b : AC := (.block 3 (.seq (.ops [zM 92 14,
 zP 93 (.bin .lss) [.t 92, .c (.int .i64 0)]])
(.cond (.t 93)
(.seq (.ops [zM 94 13,
 zS 1 [.t 4, .t 94],
 zS 1 [.t 5, .c (.int .i64 120)]])
.ret)
.skip)))
def C176 : AFunc := ⟨95, [.cell 4 1 false, .cell 5 1 false],
(.seq (.ops [⟨some 4, none, .a (.alloc [(.int .i64 0)]), []⟩,
⟨some 5, none, .a (.alloc [(.int .i64 0)]), []⟩])
(.seq (.ops [zM 16 0,
 zM 17 1,
⟨some 18, none, .call, [.c (.func (.func 224) [] []), .t 16, .t 17]⟩,
 zM 15 18,
 zP 19 (.ext 0) [.t 15],
 zP 20 (.ext 1) [.t 15],
⟨some 6, none, .a (.alloc [(.int .i64 0), (.int .i64 0), .nils, .nils, (.int .i64 0), .nils]), []⟩,
 zS 6 [.t 6, .t 19],
 zS 1 [.t 5, .t 20]])
(.seq (.seq (.ops [zL 21 5,
 zP 22 (.bin .neq) [.t 21, .c (.int .i64 0)],
 zM 23 22,
 zFg 24 6 0 23 false,
 zFg 25 24 2 23 false,
 zLg 26 25 23 false,
 zPg 27 .lenS [.t 26] 23 false,
 zPg 28 (.bin .eql) [.t 27, .c (.int .i64 0)] 23 false,
 zP 29 .pick [.t 23, .c (.bool true), .t 28]])
(.cond (.t 29)
(.seq (.dops [zL 30 5,
 zS 1 [.t 4, .c (.int .i64 0)],
 zS 1 [.t 5, .t 30]] [[0, 2], [], []])
.ret)
.skip))
(.seq (.ops [zF 32 6 0,
 zF 33 32 2,
 zL 34 33,
 zF 35 6 0,
 zF 36 35 0,
 zL 37 36,
⟨some 38, none, .call, [.c (.func (.func 225) [] []), .t 34, .t 37]⟩,
 zM 31 38,
 zP 39 (.ext 0) [.t 31],
 zP 40 (.ext 1) [.t 31],
 zM 7 39,
 zS 1 [.t 5, .t 40]])
(.seq (.seq (.ops [zL 41 5,
 zP 42 (.bin .neq) [.t 41, .c (.int .i64 0)]])
(.cond (.t 42)
(.seq (.dops [zL 43 5,
 zS 1 [.t 4, .c (.int .i64 0)],
 zS 1 [.t 5, .t 43]] [[0, 2], [], []])
.ret)
.skip))
(.seq (.seq (.ops [zF 45 6 0,
 zF 46 45 2,
 zL 47 46,
 zF 48 6 5,
 zL 49 48,
 zM 50 7,
⟨some 51, none, .call, [.c (.func (.func 226) [] []), .t 47, .t 49, .t 50]⟩,
 zM 44 51,
 zP 52 (.ext 0) [.t 44],
 zP 53 (.ext 1) [.t 44],
 zM 8 52,
 zM 9 53])
(.seq (.dops [zM 54 8,
 zM 55 7,
 zF 56 6 0,
 zF 57 56 0,
 zL 58 57,
 zP 59 (.bin .quo) [.t 55, .t 58],
 zF 60 6 0,
 zF 61 60 1,
 zL 62 61,
 zP 63 (.bin .mul) [.t 59, .t 62],
 zP 64 (.bin .gtr) [.t 54, .t 63]] [[], [], [], [], [], [], [], [], [], [], []])
(.cond (.t 64)
(.seq (.ops [zS 1 [.t 4, .c (.int .i64 0)],
 zS 1 [.t 5, .c (.int .i64 120)]])
.ret)
.skip)))
(.seq (.ops [zP 10 .mov [.c (.int .i64 0)]])
(.seq (.seq (.ops [zF 65 6 0,
 zF 66 65 2,
 zL 67 66,
 zP 68 .lenS [.t 67],
 zP 69 .mov [.c (.int .i64 0)]])
(.block 0 (.loop L_local_Test_0)))
(.seq (.seq (.dops [⟨some 78, none, .r (.loadN 6), [.t 6]⟩,
 zM 79 7,
 zM 80 10,
 zF 81 6 0,
 zF 82 81 0,
 zL 83 82,
 zF 84 6 0,
 zF 85 84 0,
 zL 86 85,
⟨some 87, none, .a (.bslice [(.int .i64 0)] 4 1 [0, 1, 2, 3]), [.t 79, .t 80, .t 83, .t 86]⟩,
⟨some 88, none, .call, [.c (.func (.func 228) [] []), .t 87]⟩,
⟨some 89, none, .call, [.c (.func (.func 227) [] []), .t 78, .t 88]⟩] [[0, 11], [], [], [], [], [], [], [], [], [], [], []])
(.block 2 (.rangeFunc (.t 89) [90, 91] L_local_Test_1a L_local_Test_1b)))
(.seq (.ops [zS 1 [.t 4, .c (.int .i64 0)],
 zS 1 [.t 5, .c (.int .i64 0)]])
.ret))))))))))⟩
abbrev f_local_Test : Nat := 176
abbrev C_local_Test : AFunc := C176
def C177 : AFunc := ⟨9, [.tmp 2],
(.seq (.ops [zP 2 .mov [.c (.bool false)]])
(.seq (.ops [zM 3 0,
 zP 4 (.bin .lss) [.t 3, .c (.int .i64 0)],
 zM 5 4,
 zMg 6 0 5 false,
 zPg 7 (.bin .gtr) [.t 6, .c (.int .i64 32768)] 5 false,
 zP 8 .pick [.t 5, .c (.bool true), .t 7],
 zM 2 8])
.ret))⟩
abbrev f_demand_Check_1 : Nat := 177
abbrev C_demand_Check_1 : AFunc := C177
def C178 : AFunc := ⟨11, [.tmp 2],
(.seq (.ops [zP 2 .mov [.c (.bool false)]])
(.seq (.ops [zM 3 0,
 zP 4 .lenS [.t 3],
 zP 5 (.bin .leq) [.t 4, .c (.int .i64 4)],
 zM 6 5,
 zMg 7 0 6 true,
⟨some 8, some (6, true), .call, [.c (.func (.func 97) [] []), .t 7, .c (.func (.func 229) [] [])]⟩,
 zPg 9 .not [.t 8] 6 true,
 zP 10 .pick [.t 6, .t 9, .c (.bool false)],
 zM 2 10])
.ret))⟩
abbrev f_demand_all : Nat := 178
abbrev C_demand_all : AFunc := C178
def C179 : AFunc := ⟨9, [.tmp 2],
(.seq (.ops [zP 2 .mov [.c (.bool false)]])
(.seq (.ops [zM 3 0,
 zP 4 (.bin .geq) [.t 3, .c (.int .i64 1)],
 zM 5 4,
 zMg 6 0 5 true,
 zPg 7 (.bin .leq) [.t 6, .c (.int .i64 64)] 5 true,
 zP 8 .pick [.t 5, .t 7, .c (.bool false)],
 zM 2 8])
.ret))⟩
abbrev f_spore_may : Nat := 179
abbrev C_spore_may : AFunc := C179
def C180 : AFunc := ⟨10, [.tmp 2],
(.seq (.ops [zP 2 .mov [.c .nils]])
(.seq (.seq (.ops [zM 3 0,
⟨some 4, none, .call, [.c (.func (.func 167) [] []), .t 3]⟩])
(.cond (.t 4)
(.seq (.ops [zP 2 .mov [.c .nils]])
.ret)
.skip))
(.seq (.ops [zM 5 0,
 zN 6 5,
 zF 7 6 0,
 zL 8 7,
⟨some 9, none, .call, [.c (.func (.func 231) [] []), .t 8]⟩,
 zM 2 9])
.ret)))⟩
abbrev f_ready_Queue_Jobs : Nat := 180
abbrev C_ready_Queue_Jobs : AFunc := C180
def C183 : AFunc := ⟨17, [.tmp 2, .tmp 3],
(.seq (.ops [zP 2 .mov [.c (.int .i64 0)],
 zP 3 .mov [.c (.bool false)]])
(.seq (.seq (.ops [zM 4 0,
⟨some 5, none, .call, [.c (.func (.func 234) [] []), .t 4]⟩])
(.cond (.t 5)
(.seq (.ops [zP 2 .mov [.c (.int .i64 0)],
 zP 3 .mov [.c (.bool false)]])
.ret)
.skip))
(.seq (.ops [zM 7 0,
 zN 8 7,
 zF 9 8 0,
 zL 10 9,
⟨some 11, none, .call, [.c (.func (.func 159) [] []), .t 10]⟩,
 zM 6 11,
 zP 12 (.ext 0) [.t 6],
 zP 13 (.ext 1) [.t 6],
 zP 14 (.ext 2) [.t 6],
 zM 2 13,
 zM 3 14])
(.seq (.ops [zM 15 2,
 zM 16 3,
 zM 2 15,
 zM 3 16])
.ret))))⟩
abbrev f_bell_Bells_Next : Nat := 183
abbrev C_bell_Bells_Next : AFunc := C183
def C185 : AFunc := ⟨15, [.tmp 4],
(.seq (.ops [zP 4 .mov [.c (.int .i64 0)]])
(.seq (.block 0 (.seq (.ops [zM 6 0,
⟨some 7, none, .call, [.c (.func (.func 188) [] []), .t 6]⟩,
 zM 5 7])
(.cond (.t 5)
(.seq (.ops [zP 4 .mov [.c (.int .i64 1)]])
.ret)
(.seq (.ops [zM 9 1,
 zP 10 (.bin .lss) [.t 9, .c (.int .i64 0)],
 zM 11 10,
 zMg 12 1 11 false,
 zPg 13 (.bin .geq) [.t 12, .c (.int .i64 64)] 11 false,
 zP 14 .pick [.t 11, .c (.bool true), .t 13],
 zM 8 14])
(.cond (.t 8)
(.seq (.ops [zP 4 .mov [.c (.int .i64 9)]])
.ret)
.skip)))))
(.seq (.ops [zP 4 .mov [.c (.int .i64 0)]])
.ret)))⟩
abbrev f_rank_Rank_asked : Nat := 185
abbrev C_rank_Rank_asked : AFunc := C185
def C186 : AFunc := ⟨30, [.tmp 4, .tmp 5],
(.seq (.ops [zP 4 .mov [.c (.int .i64 0)],
 zP 5 .mov [.c (.bool false)]])
(.seq (.seq (.ops [zM 6 0,
 zM 7 1,
⟨some 8, none, .call, [.c (.func (.func 185) [] []), .t 6, .t 7]⟩,
 zP 9 (.bin .neq) [.t 8, .c (.int .i64 0)]])
(.cond (.t 9)
(.seq (.ops [zP 4 .mov [.c (.int .i64 0)],
 zP 5 .mov [.c (.bool false)]])
.ret)
.skip))
(.seq (.dops [zM 10 0,
 zN 11 10,
 zF 12 11 0,
 zL 13 12,
 zM 14 1,
 zN 15 13,
 zF 16 15 1,
 zP 17 (.iaddrA 1 64) [.t 16, .t 14],
 zL 18 17,
 zP 19 (.bin .sub) [.t 18, .c (.int .i64 1)],
 zM 20 0,
 zN 21 20,
 zF 22 21 0,
 zL 23 22,
 zM 24 1,
 zN 25 23,
 zF 26 25 1,
 zP 27 (.iaddrA 1 64) [.t 26, .t 24],
 zL 28 27,
 zP 29 (.bin .gtr) [.t 28, .c (.int .i64 0)],
 zM 4 19,
 zM 5 29] [[], [], [], [], [], [], [], [], [], [], [], [], [], [], [], [], [], [], [], [], [], []])
.ret)))⟩
abbrev f_rank_Rank_at : Nat := 186
abbrev C_rank_Rank_at : AFunc := C186
def L_rank_heaped_up_0 : AC := (.seq (.seq (.dops [zM 12 1,
 zP 13 (.bin .gtr) [.t 12, .c (.int .i64 0)],
 zM 14 13,
⟨some 15, some (14, true), .r (.loadN 2), [.t 4]⟩,
 zMg 16 0 14 true,
 zNg 17 16 14 true,
 zFg 18 17 0 14 true,
 zLg 19 18 14 true,
 zMg 20 1 14 true,
 zPg 21 (.bin .sub) [.t 20, .c (.int .i64 1)] 14 true,
 zPg 22 (.bin .quo) [.t 21, .c (.int .i64 2)] 14 true,
 zPg 23 (.iaddrS 2) [.t 19, .t 22] 14 true,
⟨some 24, some (14, true), .r (.loadN 2), [.t 23]⟩,
⟨some 25, some (14, true), .call, [.c (.func (.func 236) [] []), .t 15, .t 24]⟩,
 zP 26 .pick [.t 14, .t 25, .c (.bool false)]] [[], [], [], [], [], [], [], [], [], [], [], [], [], [], []])
(.cond (.t 26)
.skip
(.exit 0)))
(.block 1 (.seq (.ops [zM 27 0,
 zM 28 1,
 zM 29 0,
 zN 30 29,
 zF 31 30 0,
 zL 32 31,
 zM 33 1,
 zP 34 (.bin .sub) [.t 33, .c (.int .i64 1)],
 zP 35 (.bin .quo) [.t 34, .c (.int .i64 2)],
 zP 36 (.iaddrS 2) [.t 32, .t 35],
⟨some 37, none, .r (.loadN 2), [.t 36]⟩,
⟨some 38, none, .call, [.c (.func (.func 237) [] []), .t 27, .t 28, .t 37]⟩])
(.ops [zM 39 1,
 zP 40 (.bin .sub) [.t 39, .c (.int .i64 1)],
 zP 41 (.bin .quo) [.t 40, .c (.int .i64 2)],
 zM 1 41]))))
def C187 : AFunc := ⟨46, [],
(.seq (.ops [zM 5 0,
 zN 6 5,
 zF 7 6 0,
 zL 8 7,
 zM 9 1,
 zP 10 (.iaddrS 2) [.t 8, .t 9],
⟨some 11, none, .r (.loadN 2), [.t 10]⟩,
⟨some 4, none, .a (.alloc [(.int .i64 0), (.int .i64 0)]), []⟩,
 zS 2 [.t 4, .t 11]])
(.seq (.block 0 (.loop L_rank_heaped_up_0))
(.ops [zM 42 0,
 zM 43 1,
⟨some 44, none, .r (.loadN 2), [.t 4]⟩,
⟨some 45, none, .call, [.c (.func (.func 237) [] []), .t 42, .t 43, .t 44]⟩])))⟩
abbrev f_rank_heaped_up : Nat := 187
abbrev C_rank_heaped_up : AFunc := C187
def C188 : AFunc := ⟨12, [.tmp 2],
(.seq (.ops [zP 2 .mov [.c (.bool false)]])
(.seq (.ops [zM 3 0,
 zP 4 (.eq .nilptr) [.t 3, .c .nilp],
 zM 5 4,
 zMg 6 0 5 false,
 zNg 7 6 5 false,
 zFg 8 7 0 5 false,
 zLg 9 8 5 false,
 zPg 10 (.eq .nilptr) [.t 9, .c .nilp] 5 false,
 zP 11 .pick [.t 5, .c (.bool true), .t 10],
 zM 2 11])
.ret))⟩
abbrev f_rank_Rank_none : Nat := 188
abbrev C_rank_Rank_none : AFunc := C188
def C189 : AFunc := ⟨15, [.tmp 2, .tmp 3, .tmp 4],
(.seq (.ops [zP 2 .mov [.c (.int .i64 0)],
 zP 3 .mov [.c (.int .i64 0)],
 zP 4 .mov [.c (.bool false)]])
(.seq (.seq (.ops [zM 5 0,
⟨some 6, none, .call, [.c (.func (.func 167) [] []), .t 5]⟩])
(.cond (.t 6)
(.seq (.ops [zP 2 .mov [.c (.int .i64 0)],
 zP 3 .mov [.c (.int .i64 0)],
 zP 4 .mov [.c (.bool false)]])
.ret)
.skip))
(.seq (.ops [zM 7 0,
 zN 8 7,
 zF 9 8 0,
 zL 10 9,
⟨some 11, none, .call, [.c (.func (.func 159) [] []), .t 10]⟩,
 zP 12 (.ext 0) [.t 11],
 zP 13 (.ext 1) [.t 11],
 zP 14 (.ext 2) [.t 11],
 zM 2 12,
 zM 3 13,
 zM 4 14])
.ret)))⟩
abbrev f_ready_Queue_First : Nat := 189
abbrev C_ready_Queue_First : AFunc := C189
def C214 : AFunc := ⟨11, [.tmp 2],
(.seq (.ops [zP 2 .mov [.c (.int .i64 0)]])
(.seq (.ops [zM 6 0,
⟨some 7, none, .call, [.c (.func (.func 264) [] []), .t 6]⟩,
 zM 5 7,
 zP 8 (.ext 0) [.t 5],
 zP 9 (.ext 1) [.t 5],
 zM 3 8,
 zM 4 9])
(.seq (.ops [zM 10 3,
 zM 2 10])
.ret)))⟩
abbrev f_room_section : Nat := 214
abbrev C_room_section : AFunc := C214
def L_share_sum_0 : AC := (.seq (.ops [zP 15 (.bin .lss) [.t 14, .t 13]])
(.seq (.cond (.t 15)
.skip
(.exit 0))
(.seq (.block 1 (.seq (.ops [zP 16 (.iaddrS 3) [.t 12, .t 14],
⟨some 17, none, .r (.loadN 3), [.t 16]⟩,
⟨some 6, none, .a (.alloc [(.int .i64 0), (.int .i64 0), .nils]), []⟩,
 zS 3 [.t 6, .t 17]])
(.seq (.seq (.ops [zF 18 6 0,
 zL 19 18,
 zP 20 (.bin .gtr) [.t 19, .c (.int .i64 64)],
 zM 21 20,
 zFg 22 6 1 21 false,
 zLg 23 22 21 false,
 zPg 24 (.bin .lss) [.t 23, .c (.int .i64 1)] 21 false,
 zP 25 .pick [.t 21, .c (.bool true), .t 24],
 zM 26 25,
 zFg 27 6 1 26 false,
 zLg 28 27 26 false,
 zFg 29 6 0 26 false,
 zLg 30 29 26 false,
 zPg 31 (.bin .gtr) [.t 28, .t 30] 26 false,
 zP 32 .pick [.t 26, .c (.bool true), .t 31]])
(.cond (.t 32)
(.seq (.ops [⟨some 33, none, .r (.loadN 2), [.t 4]⟩,
 zS 2 [.t 2, .t 33],
 zP 3 .mov [.c (.bool false)]])
.ret)
.skip))
(.ops [⟨some 34, none, .r (.loadN 2), [.t 4]⟩,
 zF 35 6 1,
 zL 36 35,
 zF 37 6 0,
 zL 38 37,
 zP 39 (.build [(.int .i64 0), (.int .i64 0)] [(0, 1), (1, 1)]) [.t 36, .t 38],
⟨some 40, none, .call, [.c (.func (.func 267) [] []), .t 34, .t 39]⟩,
 zS 2 [.t 4, .t 40]]))))
(.ops [zP 41 (.bin .add) [.t 14, .c (.int .i64 1)],
 zM 14 41]))))
def C222 : AFunc := ⟨43, [.cell 2 2 true, .tmp 3],
(.seq (.ops [⟨some 2, none, .a (.alloc [(.int .i64 0), (.int .i64 0)]), []⟩,
 zP 3 .mov [.c (.bool false)]])
(.seq (.ops [zP 7 (.build [(.int .i64 0), (.int .i64 0)] [(0, 1), (1, 1)]) [.c (.int .i64 0), .c (.int .i64 1)],
⟨some 4, none, .a (.alloc [(.int .i64 0), (.int .i64 0)]), []⟩,
 zS 2 [.t 4, .t 7]])
(.seq (.seq (.ops [zM 8 0,
 zP 9 .lenS [.t 8],
 zP 10 (.bin .gtr) [.t 9, .c (.int .i64 4)]])
(.cond (.t 10)
(.seq (.ops [⟨some 11, none, .r (.loadN 2), [.t 4]⟩,
 zS 2 [.t 2, .t 11],
 zP 3 .mov [.c (.bool false)]])
.ret)
.skip))
(.seq (.seq (.ops [zM 12 0,
 zP 13 .lenS [.t 12],
 zP 14 .mov [.c (.int .i64 0)]])
(.block 0 (.loop L_share_sum_0)))
(.seq (.ops [⟨some 42, none, .r (.loadN 2), [.t 4]⟩,
 zS 2 [.t 2, .t 42],
 zP 3 .mov [.c (.bool true)]])
.ret)))))⟩
abbrev f_share_sum : Nat := 222
abbrev C_share_sum : AFunc := C222
def C223 : AFunc := ⟨13, [.tmp 2],
(.seq (.ops [⟨some 1, none, .a .box, [.t 0]⟩,
 zP 2 .mov [.c (.bool false)]])
(.seq (.ops [zF 3 1 0,
 zL 4 3,
 zF 5 1 1,
 zL 6 5,
 zP 7 (.bin .gtr) [.t 4, .t 6],
 zM 8 7,
⟨some 9, some (8, true), .r (.loadN 2), [.t 1]⟩,
 zPg 10 (.build [(.int .i64 0), (.int .i64 0)] [(0, 1), (1, 1)]) [.c (.int .i64 1), .c (.int .i64 1)] 8 true,
 zPg 11 (.neq (.cells [0, 0])) [.t 9, .t 10] 8 true,
 zP 12 .pick [.t 8, .t 11, .c (.bool false)],
 zM 2 12])
.ret))⟩
abbrev f_share_fraction_int_above : Nat := 223
abbrev C_share_fraction_int_above : AFunc := C223
def C224 : AFunc := ⟨26, [.cell 4 6 true, .tmp 5],
(.seq (.ops [⟨some 4, none, .a (.alloc [(.int .i64 0), (.int .i64 0), .nils, .nils, (.int .i64 0), .nils]), []⟩,
 zP 5 .mov [.c (.int .i64 0)]])
(.seq (.ops [zM 9 0,
 zM 10 1,
⟨some 11, none, .call, [.c (.func (.func 268) [] []), .t 9, .t 10]⟩,
 zM 8 11,
 zP 12 (.ext 0) [.t 8],
 zP 13 (.ext 1) [.t 8],
 zM 6 12,
 zM 7 13])
(.seq (.seq (.ops [zM 14 7,
 zP 15 (.bin .neq) [.t 14, .c (.int .i64 0)]])
(.cond (.t 15)
(.seq (.ops [zP 16 (.build [(.int .i64 0), (.int .i64 0), .nils, .nils, (.int .i64 0), .nils] []) [],
 zM 17 7,
 zS 6 [.t 4, .t 16],
 zM 5 17])
.ret)
.skip))
(.seq (.ops [zM 18 0,
 zM 19 1,
 zP 20 (.iaddrS 3) [.t 18, .t 19],
⟨some 21, none, .r (.loadN 3), [.t 20]⟩,
 zM 22 0,
 zM 23 1,
 zM 24 6,
 zP 25 (.build [(.int .i64 0), (.int .i64 0), .nils, .nils, (.int .i64 0), .nils] [(0, 3), (3, 1), (4, 1), (5, 1)]) [.t 21, .t 22, .t 23, .t 24],
 zS 6 [.t 4, .t 25],
 zP 5 .mov [.c (.int .i64 0)]])
.ret))))⟩
abbrev f_local_of : Nat := 224
abbrev C_local_of : AFunc := C224
def L_demand_Hyper_0 : AC := (.seq (.ops [zP 26 (.bin .lss) [.t 25, .t 24]])
(.seq (.cond (.t 26)
.skip
(.exit 0))
(.seq (.block 1 (.seq (.ops [zP 27 (.iaddrS 8) [.t 23, .t 25],
⟨some 28, none, .r (.loadN 8), [.t 27]⟩,
⟨some 8, none, .a (.alloc [(.int .i64 0), (.int .i64 0), (.int .i64 0), (.int .i64 0), (.int .i64 0), (.int .i64 0), (.int .i64 0), (.int .i64 0)]), []⟩,
 zS 8 [.t 8, .t 28]])
(.seq (.ops [zM 30 6,
 zF 31 8 0,
 zL 32 31,
⟨some 33, none, .a (.bslice [(.int .i64 0)] 2 1 [0, 1]), [.t 30, .t 32]⟩,
⟨some 34, none, .call, [.c (.func (.func 269) [] []), .c (.int .i64 4096), .t 33]⟩,
 zM 29 34,
 zP 35 (.ext 0) [.t 29],
 zP 36 (.ext 1) [.t 29],
 zM 9 35,
 zM 10 36])
(.seq (.seq (.ops [zM 37 10,
 zP 38 (.bin .neq) [.t 37, .c (.int .i64 0)]])
(.cond (.t 38)
(.seq (.ops [zP 4 .mov [.c (.int .i64 0)],
 zP 5 .mov [.c (.int .i64 5)]])
.ret)
.skip))
(.ops [zM 39 9,
 zM 6 39])))))
(.ops [zP 40 (.bin .add) [.t 25, .c (.int .i64 1)],
 zM 25 40]))))
def C225 : AFunc := ⟨42, [.tmp 4, .tmp 5],
(.seq (.ops [zP 4 .mov [.c (.int .i64 0)],
 zP 5 .mov [.c (.int .i64 0)]])
(.seq (.seq (.ops [zM 11 0,
⟨some 12, none, .call, [.c (.func (.func 178) [] []), .t 11]⟩,
 zP 13 .not [.t 12],
 zM 14 13,
 zMg 15 1 14 false,
 zPg 16 (.bin .lss) [.t 15, .c (.int .i64 1)] 14 false,
 zP 17 .pick [.t 14, .c (.bool true), .t 16],
 zM 18 17,
 zMg 19 1 18 false,
 zPg 20 (.bin .gtr) [.t 19, .c (.int .i64 64)] 18 false,
 zP 21 .pick [.t 18, .c (.bool true), .t 20]])
(.cond (.t 21)
(.seq (.ops [zP 4 .mov [.c (.int .i64 0)],
 zP 5 .mov [.c (.int .i64 2)]])
.ret)
.skip))
(.seq (.ops [zM 22 1,
 zM 6 22])
(.seq (.seq (.ops [zM 23 0,
 zP 24 .lenS [.t 23],
 zP 25 .mov [.c (.int .i64 0)]])
(.block 0 (.loop L_demand_Hyper_0)))
(.seq (.ops [zM 41 6,
 zM 4 41,
 zP 5 .mov [.c (.int .i64 0)]])
.ret)))))⟩
abbrev f_demand_Hyper : Nat := 225
abbrev C_demand_Hyper : AFunc := C225
def C226 : AFunc := ⟨30, [.tmp 6, .tmp 7],
(.seq (.ops [⟨some 5, none, .a .box, [.t 2]⟩,
 zP 6 .mov [.c (.int .i64 0)],
 zP 7 .mov [.c (.int .i64 0)]])
(.seq (.seq (.ops [zM 9 0,
 zM 10 1,
⟨some 11, none, .call, [.c (.func (.func 141) [] []), .t 9, .t 10]⟩,
 zM 8 11])
(.seq (.ops [zM 12 8,
 zP 13 (.bin .neq) [.t 12, .c (.int .i64 0)],
 zM 14 13,
 zLg 15 5 14 false,
 zPg 16 (.bin .lss) [.t 15, .c (.int .i64 1)] 14 false,
 zP 17 .pick [.t 14, .c (.bool true), .t 16],
 zM 18 17,
 zLg 19 5 18 false,
 zPg 20 (.bin .gtr) [.t 19, .c (.int .i64 1048576)] 18 false,
 zP 21 .pick [.t 18, .c (.bool true), .t 20]])
(.cond (.t 21)
(.seq (.ops [zP 6 .mov [.c (.int .i64 0)],
 zP 7 .mov [.c (.int .i64 2)]])
.ret)
.skip)))
(.seq (.seq (.ops [zM 22 0,
 zP 23 (.mkfunc (.func 270) 0) [.t 5],
⟨some 24, none, .call, [.c (.func (.func 97) [] []), .t 22, .t 23]⟩])
(.cond (.t 24)
(.seq (.ops [zP 6 .mov [.c (.int .i64 0)],
 zP 7 .mov [.c (.int .i64 2)]])
.ret)
.skip))
(.seq (.ops [zM 25 0,
 zM 26 1,
 zP 27 (.mkfunc (.func 273) 0) [.t 5],
⟨some 28, none, .call, [.c (.func (.func 272) [] []), .t 25, .t 26, .t 27]⟩,
⟨some 29, none, .call, [.c (.func (.func 271) [] []), .t 28]⟩,
 zM 6 29,
 zP 7 .mov [.c (.int .i64 0)]])
.ret))))⟩
abbrev f_demand_Use : Nat := 226
abbrev C_demand_Use : AFunc := C226
def C227 : AFunc := ⟨6, [.tmp 4],
(.seq (.ops [⟨some 2, none, .a .box, [.t 0]⟩,
⟨some 3, none, .a .box, [.t 1]⟩,
 zP 4 .mov [.c .nilf]])
(.seq (.ops [zP 5 (.mkfunc (.func 274) 0) [.t 3, .t 2],
 zM 4 5])
.ret))⟩
abbrev f_local_look_slacks : Nat := 227
abbrev C_local_look_slacks : AFunc := C227
def L_local_sum_0 : AC := (.seq (.ops [zP 8 (.bin .lss) [.t 7, .t 6]])
(.seq (.cond (.t 8)
.skip
(.exit 0))
(.seq (.block 1 (.seq (.ops [zP 9 (.iaddrS 1) [.t 5, .t 7],
 zL 10 9,
 zM 4 10])
(.ops [zM 11 2,
 zM 12 4,
 zP 13 (.bin .add) [.t 11, .t 12],
 zM 2 13])))
(.ops [zP 14 (.bin .add) [.t 7, .c (.int .i64 1)],
 zM 7 14]))))
def C228 : AFunc := ⟨16, [.tmp 2],
(.seq (.ops [zP 2 .mov [.c (.int .i64 0)]])
(.seq (.seq (.ops [zM 5 0,
 zP 6 .lenS [.t 5],
 zP 7 .mov [.c (.int .i64 0)]])
(.block 0 (.loop L_local_sum_0)))
(.seq (.ops [zM 15 2,
 zM 2 15])
.ret)))⟩
abbrev f_local_sum : Nat := 228
abbrev C_local_sum : AFunc := C228
def C229 : AFunc := ⟨6, [.tmp 2],
(.seq (.ops [⟨some 1, none, .a .box, [.t 0]⟩,
 zP 2 .mov [.c (.bool false)]])
(.seq (.ops [⟨some 3, none, .r (.loadN 8), [.t 1]⟩,
⟨some 4, none, .call, [.c (.func (.func 230) [] []), .t 3]⟩,
 zP 5 .not [.t 4],
 zM 2 5])
.ret))⟩
abbrev f_demand_all_1 : Nat := 229
abbrev C_demand_all_1 : AFunc := C229
def C230 : AFunc := ⟨25, [.tmp 2],
(.seq (.ops [⟨some 1, none, .a .box, [.t 0]⟩,
 zP 2 .mov [.c (.bool false)]])
(.seq (.ops [zF 3 1 2,
 zL 4 3,
 zP 5 (.bin .leq) [.c (.int .i64 1), .t 4],
 zM 6 5,
 zFg 7 1 2 6 true,
 zLg 8 7 6 true,
 zFg 9 1 1 6 true,
 zLg 10 9 6 true,
 zPg 11 (.bin .leq) [.t 8, .t 10] 6 true,
 zP 12 .pick [.t 6, .t 11, .c (.bool false)],
 zM 13 12,
 zFg 14 1 1 13 true,
 zLg 15 14 13 true,
 zFg 16 1 0 13 true,
 zLg 17 16 13 true,
 zPg 18 (.bin .leq) [.t 15, .t 17] 13 true,
 zP 19 .pick [.t 13, .t 18, .c (.bool false)],
 zM 20 19,
 zFg 21 1 0 20 true,
 zLg 22 21 20 true,
 zPg 23 (.bin .leq) [.t 22, .c (.int .i64 64)] 20 true,
 zP 24 .pick [.t 20, .t 23, .c (.bool false)],
 zM 2 24])
.ret))⟩
abbrev f_demand_may : Nat := 230
abbrev C_demand_may : AFunc := C230
def L_rank_Rank_Ids_0 : AC := (.seq (.ops [zP 21 (.bin .lss) [.t 20, .t 19]])
(.seq (.cond (.t 21)
.skip
(.exit 0))
(.seq (.block 1 (.seq (.ops [zP 22 (.iaddrS 2) [.t 18, .t 20],
⟨some 23, none, .r (.loadN 2), [.t 22]⟩,
⟨some 5, none, .a (.alloc [(.int .i64 0), (.int .i64 0)]), []⟩,
 zS 2 [.t 5, .t 23]])
(.ops [zM 24 2,
 zF 25 5 0,
 zL 26 25,
⟨some 27, none, .a (.bslice [(.int .i64 0)] 1 1 [0]), [.t 26]⟩,
⟨some 28, none, .e (.append 1 8), [.t 24, .t 27]⟩,
 zM 2 28])))
(.ops [zP 29 (.bin .add) [.t 20, .c (.int .i64 1)],
 zM 20 29]))))
def C231 : AFunc := ⟨31, [.tmp 2],
(.seq (.ops [zP 2 .mov [.c .nils]])
(.seq (.seq (.ops [zM 6 0,
⟨some 7, none, .call, [.c (.func (.func 188) [] []), .t 6]⟩])
(.cond (.t 7)
(.seq (.ops [zP 2 .mov [.c .nils]])
.ret)
.skip))
(.seq (.ops [zM 8 0,
 zN 9 8,
 zF 10 9 0,
 zL 11 10,
 zN 12 11,
 zF 13 12 0,
 zL 14 13,
⟨some 15, none, .call, [.c (.func (.func 277) [] []), .t 14]⟩,
 zM 3 15])
(.seq (.ops [zM 16 3,
⟨some 17, none, .call, [.c (.func (.func 278) [] []), .t 16, .c (.func (.func 279) [] [])]⟩])
(.seq (.seq (.ops [zM 18 3,
 zP 19 .lenS [.t 18],
 zP 20 .mov [.c (.int .i64 0)]])
(.block 0 (.loop L_rank_Rank_Ids_0)))
(.seq (.ops [zM 30 2,
 zM 2 30])
.ret))))))⟩
abbrev f_rank_Rank_Ids : Nat := 231
abbrev C_rank_Rank_Ids : AFunc := C231
def C234 : AFunc := ⟨12, [.tmp 2],
(.seq (.ops [zP 2 .mov [.c (.bool false)]])
(.seq (.ops [zM 3 0,
 zP 4 (.eq .nilptr) [.t 3, .c .nilp],
 zM 5 4,
 zMg 6 0 5 false,
 zNg 7 6 5 false,
 zFg 8 7 0 5 false,
 zLg 9 8 5 false,
 zPg 10 (.eq .nilptr) [.t 9, .c .nilp] 5 false,
 zP 11 .pick [.t 5, .c (.bool true), .t 10],
 zM 2 11])
.ret))⟩
abbrev f_bell_Bells_none : Nat := 234
abbrev C_bell_Bells_none : AFunc := C234
def C237 : AFunc := ⟨21, [],
(.seq (.ops [⟨some 5, none, .a .box, [.t 2]⟩])
(.seq (.dops [zM 6 0,
 zN 7 6,
 zF 8 7 0,
 zL 9 8,
 zM 10 1,
⟨some 11, none, .r (.loadN 2), [.t 5]⟩,
 zP 12 (.iaddrS 2) [.t 9, .t 10],
 zS 2 [.t 12, .t 11]] [[], [], [], [], [], [], [], []])
(.dops [zM 13 0,
 zF 14 5 0,
 zL 15 14,
 zM 16 1,
 zP 17 (.bin .add) [.t 16, .c (.int .i64 1)],
 zN 18 13,
 zF 19 18 1,
 zP 20 (.iaddrA 1 64) [.t 19, .t 15],
 zS 1 [.t 20, .t 17]] [[], [], [], [], [], [], [], [], []])))⟩
abbrev f_rank_heaped_lay : Nat := 237
abbrev C_rank_heaped_lay : AFunc := C237
def C264 : AFunc := ⟨14, [.tmp 2, .tmp 3],
(.seq (.ops [zP 2 .mov [.c (.int .i64 0)],
 zP 3 .mov [.c (.int .i64 0)]])
(.seq (.seq (.ops [zM 4 0,
⟨some 5, none, .call, [.c (.func (.func 168) [] []), .t 4]⟩])
(.cond (.t 5)
(.seq (.ops [zP 2 .mov [.c (.int .i64 0)],
 zP 3 .mov [.c (.int .i64 0)]])
.ret)
.skip))
(.seq (.dops [zM 6 0,
 zN 7 6,
 zF 8 7 11,
 zL 9 8,
 zM 10 0,
 zN 11 10,
 zF 12 11 12,
 zL 13 12,
 zM 2 9,
 zM 3 13] [[], [], [], [], [], [], [], [], [], []])
.ret)))⟩
abbrev f_job_Job_In : Nat := 264
abbrev C_job_Job_In : AFunc := C264
def C266 : AFunc := ⟨9, [.tmp 4],
(.seq (.ops [zP 4 .mov [.c (.bool false)]])
(.seq (.ops [zM 5 0,
 zM 6 1,
⟨some 7, none, .call, [.c (.func (.func 295) [] []), .t 5, .t 6]⟩,
 zP 8 (.bin .geq) [.t 7, .c (.int .i64 0)],
 zM 4 8])
.ret))⟩
abbrev f_slices_Contains_int_int : Nat := 266
abbrev C_slices_Contains_int_int : AFunc := C266
def C267 : AFunc := ⟨40, [.cell 4 2 true],
(.seq (.ops [⟨some 2, none, .a .box, [.t 0]⟩,
⟨some 3, none, .a .box, [.t 1]⟩,
⟨some 4, none, .a (.alloc [(.int .i64 0), (.int .i64 0)]), []⟩])
(.seq (.dops [zF 10 2 0,
 zL 11 10,
 zF 12 3 1,
 zL 13 12,
 zP 14 (.bin .mul) [.t 11, .t 13],
 zF 15 3 0,
 zL 16 15,
 zF 17 2 1,
 zL 18 17,
 zP 19 (.bin .mul) [.t 16, .t 18],
 zP 20 (.bin .add) [.t 14, .t 19],
 zF 21 2 1,
 zL 22 21,
 zF 23 3 1,
 zL 24 23,
 zP 25 (.bin .mul) [.t 22, .t 24],
 zM 5 20,
 zM 6 25] [[], [], [], [], [], [], [], [], [], [], [], [], [], [], [], [], [], []])
(.seq (.ops [zM 27 5,
 zM 28 6,
⟨some 29, none, .call, [.c (.func (.func 296) [] []), .t 27, .t 28]⟩,
 zM 26 29,
 zP 30 (.ext 0) [.t 26],
 zP 31 (.ext 1) [.t 26],
 zM 7 30,
 zM 8 31])
(.seq (.ops [zM 32 7,
 zM 9 32])
(.seq (.dops [zM 33 5,
 zM 34 9,
 zP 35 (.bin .quo) [.t 33, .t 34],
 zM 36 6,
 zM 37 9,
 zP 38 (.bin .quo) [.t 36, .t 37],
 zP 39 (.build [(.int .i64 0), (.int .i64 0)] [(0, 1), (1, 1)]) [.t 35, .t 38],
 zS 2 [.t 4, .t 39]] [[], [], [], [], [], [], [], []])
.ret)))))⟩
abbrev f_share_fraction_int_plus : Nat := 267
abbrev C_share_fraction_int_plus : AFunc := C267
def L_delay_More_0 : AC := (.seq (.ops [zP 30 (.bin .lss) [.t 29, .t 28]])
(.seq (.cond (.t 30)
.skip
(.exit 0))
(.seq (.block 1 (.seq (.ops [zM 31 29,
 zP 32 (.iaddrS 8) [.t 27, .t 29],
⟨some 33, none, .r (.loadN 8), [.t 32]⟩,
⟨some 10, none, .a (.alloc [(.int .i64 0), (.int .i64 0), (.int .i64 0), (.int .i64 0), (.int .i64 0), (.int .i64 0), (.int .i64 0), (.int .i64 0)]), []⟩,
 zM 9 31,
 zS 8 [.t 10, .t 33]])
(.dops [zM 34 8,
 zM 35 9,
 zF 36 10 7,
 zL 37 36,
⟨some 38, none, .r (.loadN 5), [.t 6]⟩,
⟨some 39, none, .r (.loadN 8), [.t 10]⟩,
⟨some 40, none, .call, [.c (.func (.func 298) [] []), .t 38, .t 39]⟩,
 zF 41 10 6,
 zL 42 41,
 zP 43 (.bin .add) [.t 40, .t 42],
 zP 44 (.bin .sub) [.t 43, .c (.int .i64 1)],
 zP 45 (.bin .mul) [.t 37, .t 44],
 zP 46 (.iaddrS 1) [.t 34, .t 35],
 zS 1 [.t 46, .t 45]] [[], [], [], [0, 7], [], [], [], [], [0, 7], [], [], [], [], []])))
(.ops [zP 47 (.bin .add) [.t 29, .c (.int .i64 1)],
 zM 29 47]))))
def C268 : AFunc := ⟨49, [.tmp 4, .tmp 5],
(.seq (.ops [zP 4 .mov [.c .nils],
 zP 5 .mov [.c (.int .i64 0)]])
(.seq (.ops [zM 12 0,
 zM 13 1,
⟨some 14, none, .call, [.c (.func (.func 297) [] []), .t 12, .t 13]⟩,
 zM 11 14,
 zP 15 (.ext 0) [.t 11],
 zP 16 (.ext 1) [.t 11],
⟨some 6, none, .a (.alloc [(.int .i64 0), (.int .i64 0), .nils, .nils, (.int .i64 0)]), []⟩,
 zS 5 [.t 6, .t 15],
 zM 7 16])
(.seq (.seq (.ops [zM 17 7,
 zP 18 (.bin .neq) [.t 17, .c (.int .i64 0)]])
(.cond (.t 18)
(.seq (.ops [zM 19 7,
 zP 4 .mov [.c .nils],
 zM 5 19])
.ret)
.skip))
(.seq (.ops [zF 20 6 0,
 zF 21 20 2,
 zL 22 21,
 zP 23 .lenS [.t 22],
⟨some 24, none, .a (.mkslice [(.int .i64 0)] 1 8), [.t 23, .t 23]⟩,
 zM 8 24])
(.seq (.seq (.ops [zF 25 6 0,
 zF 26 25 2,
 zL 27 26,
 zP 28 .lenS [.t 27],
 zP 29 .mov [.c (.int .i64 0)]])
(.block 0 (.loop L_delay_More_0)))
(.seq (.ops [zM 48 8,
 zM 4 48,
 zP 5 .mov [.c (.int .i64 0)]])
.ret))))))⟩
abbrev f_delay_More : Nat := 268
abbrev C_delay_More : AFunc := C268
def C269 : AFunc := ⟨53, [.tmp 4, .tmp 5],
(.seq (.ops [zP 4 .mov [.c (.int .i64 0)],
 zP 5 .mov [.c (.int .i64 0)]])
(.seq (.seq (.ops [zM 7 0,
⟨some 8, none, .a (.bslice [(.int .i64 0)] 1 1 [0]), [.t 7]⟩,
⟨some 9, none, .call, [.c (.func (.func 299) [] []), .t 8]⟩,
 zP 10 .not [.t 9],
 zM 11 10,
 zMg 12 1 11 false,
⟨some 13, some (11, false), .call, [.c (.func (.func 299) [] []), .t 12]⟩,
 zPg 14 .not [.t 13] 11 false,
 zP 15 .pick [.t 11, .c (.bool true), .t 14],
 zM 16 15,
 zMg 17 1 16 false,
⟨some 18, some (16, false), .call, [.c (.func (.func 266) [] []), .t 17, .c (.int .i64 0)]⟩,
 zP 19 .pick [.t 16, .c (.bool true), .t 18]])
(.cond (.t 19)
(.seq (.ops [zP 4 .mov [.c (.int .i64 0)],
 zP 5 .mov [.c (.int .i64 2)]])
.ret)
.skip))
(.seq (.ops [zP 20 (.build [(.int .i64 0), (.int .i64 0)] [(0, 1)]) [.c (.int .i64 1)],
⟨some 21, none, .a .box, [.t 20]⟩,
 zM 6 21])
(.seq (.ops [zM 22 6,
 zP 23 (.mkfunc (.func 301) 1) [.t 22],
 zM 24 1,
⟨some 25, none, .call, [.c (.func (.func 300) [] []), .t 23, .t 24]⟩])
(.seq (.seq (.ops [zM 26 6,
 zN 27 26,
 zF 28 27 1,
 zL 29 28,
 zP 30 (.bin .eql) [.t 29, .c (.int .i64 0)],
 zM 31 30,
 zMg 32 6 31 true,
 zNg 33 32 31 true,
 zFg 34 33 0 31 true,
 zLg 35 34 31 true,
 zMg 36 0 31 true,
 zPg 37 (.bin .gtr) [.t 35, .t 36] 31 true,
 zP 38 .pick [.t 31, .t 37, .c (.bool false)]])
(.cond (.t 38)
(.ops [zM 39 6,
 zN 40 39,
 zF 41 40 1,
 zS 1 [.t 41, .c (.int .i64 10)]])
.skip))
(.seq (.dops [zM 42 6,
 zN 43 42,
 zF 44 43 0,
 zL 45 44,
 zM 46 6,
 zN 47 46,
 zF 48 47 1,
 zL 49 48,
⟨some 50, none, .call, [.c (.func (.func 302) [] []), .t 45, .t 49]⟩,
 zP 51 (.ext 0) [.t 50],
 zP 52 (.ext 1) [.t 50],
 zM 4 51,
 zM 5 52] [[], [], [], [], [], [], [], [], [], [], [], [], []])
.ret))))))⟩
abbrev f_ticks_Lcm : Nat := 269
abbrev C_ticks_Lcm : AFunc := C269
def C270 : AFunc := ⟨9, [.tmp 3],
(.seq (.ops [⟨some 2, none, .a .box, [.t 0]⟩,
 zP 3 .mov [.c (.bool false)]])
(.seq (.ops [zL 4 1,
 zF 5 2 0,
 zL 6 5,
 zP 7 (.bin .rem) [.t 4, .t 6],
 zP 8 (.bin .neq) [.t 7, .c (.int .i64 0)],
 zM 3 8])
.ret))⟩
abbrev f_demand_Use_1 : Nat := 270
abbrev C_demand_Use_1 : AFunc := C270
def L_demand_sum_0 : AC := (.seq (.ops [zP 8 (.bin .lss) [.t 7, .t 6]])
(.seq (.cond (.t 8)
.skip
(.exit 0))
(.seq (.block 1 (.seq (.ops [zP 9 (.iaddrS 1) [.t 5, .t 7],
 zL 10 9,
 zM 4 10])
(.ops [zM 11 2,
 zM 12 4,
 zP 13 (.bin .add) [.t 11, .t 12],
 zM 2 13])))
(.ops [zP 14 (.bin .add) [.t 7, .c (.int .i64 1)],
 zM 7 14]))))
def C271 : AFunc := ⟨16, [.tmp 2],
(.seq (.ops [zP 2 .mov [.c (.int .i64 0)]])
(.seq (.seq (.ops [zM 5 0,
 zP 6 .lenS [.t 5],
 zP 7 .mov [.c (.int .i64 0)]])
(.block 0 (.loop L_demand_sum_0)))
(.seq (.ops [zM 15 2,
 zM 2 15])
.ret)))⟩
abbrev f_demand_sum : Nat := 271
abbrev C_demand_sum : AFunc := C271
def L_demand_each_0 : AC := (.seq (.ops [zP 16 (.bin .lss) [.t 15, .t 14]])
(.seq (.cond (.t 16)
.skip
(.exit 0))
(.seq (.block 1 (.seq (.ops [zM 17 15,
 zP 18 (.iaddrS 8) [.t 13, .t 15],
⟨some 19, none, .r (.loadN 8), [.t 18]⟩,
⟨some 9, none, .a (.alloc [(.int .i64 0), (.int .i64 0), (.int .i64 0), (.int .i64 0), (.int .i64 0), (.int .i64 0), (.int .i64 0), (.int .i64 0)]), []⟩,
 zM 8 17,
 zS 8 [.t 9, .t 19]])
(.dops [zM 20 7,
 zM 21 8,
 zM 22 2,
⟨some 23, none, .r (.loadN 8), [.t 9]⟩,
⟨some 24, none, .call, [.t 22, .t 23]⟩,
 zF 25 9 2,
 zL 26 25,
 zM 27 1,
 zM 28 8,
 zP 29 (.iaddrS 1) [.t 27, .t 28],
 zL 30 29,
 zP 31 (.bin .add) [.t 26, .t 30],
 zP 32 (.bin .mul) [.t 24, .t 31],
 zP 33 (.iaddrS 1) [.t 20, .t 21],
 zS 1 [.t 33, .t 32]] [[], [], [], [], [], [], [0, 5], [], [], [], [0, 5], [], [], [], []])))
(.ops [zP 34 (.bin .add) [.t 15, .c (.int .i64 1)],
 zM 15 34]))))
def C272 : AFunc := ⟨36, [.tmp 6],
(.seq (.ops [zP 6 .mov [.c .nils]])
(.seq (.ops [zM 10 0,
 zP 11 .lenS [.t 10],
⟨some 12, none, .a (.mkslice [(.int .i64 0)] 1 8), [.t 11, .t 11]⟩,
 zM 7 12])
(.seq (.seq (.ops [zM 13 0,
 zP 14 .lenS [.t 13],
 zP 15 .mov [.c (.int .i64 0)]])
(.block 0 (.loop L_demand_each_0)))
(.seq (.ops [zM 35 7,
 zM 6 35])
.ret))))⟩
abbrev f_demand_each : Nat := 272
abbrev C_demand_each : AFunc := C272
def C273 : AFunc := ⟨8, [.tmp 3],
(.seq (.ops [⟨some 2, none, .a .box, [.t 0]⟩,
 zP 3 .mov [.c (.int .i64 0)]])
(.seq (.ops [zL 4 1,
 zF 5 2 0,
 zL 6 5,
 zP 7 (.bin .quo) [.t 4, .t 6],
 zM 3 7])
.ret))⟩
abbrev f_demand_Use_2 : Nat := 273
abbrev C_demand_Use_2 : AFunc := C273
def L_local_look_slacks_1_0 : AC := (.seq (.seq (.ops [zM 5 4,
 zL 6 1,
 zP 7 (.bin .leq) [.t 5, .t 6]])
(.cond (.t 7)
.skip
(.exit 0)))
(.seq (.block 1 (.seq (.ops [⟨some 10, none, .r (.loadN 6), [.t 2]⟩,
 zM 11 4,
⟨some 12, none, .call, [.c (.func (.func 275) [] []), .t 10, .t 11]⟩,
 zP 13 (.bin .gtr) [.t 12, .c (.int .i64 0)],
 zM 14 13,
 zMg 15 0 14 true,
 zMg 16 4 14 true,
⟨some 17, some (14, true), .r (.loadN 6), [.t 2]⟩,
 zMg 18 4 14 true,
⟨some 19, some (14, true), .call, [.c (.func (.func 276) [] []), .t 17, .t 18]⟩,
⟨some 20, some (14, true), .call, [.t 15, .t 16, .t 19]⟩,
 zPg 21 .not [.t 20] 14 true,
 zP 22 .pick [.t 14, .t 21, .c (.bool false)]])
(.cond (.t 22)
.ret
.skip)))
(.ops [zM 8 4,
 zP 9 (.bin .add) [.t 8, .c (.int .i64 1)],
 zM 4 9])))
def C274 : AFunc := ⟨23, [],
(.seq (.ops [zP 4 .mov [.c (.int .i64 1)]])
(.block 0 (.loop L_local_look_slacks_1_0)))⟩
abbrev f_local_look_slacks_1 : Nat := 274
abbrev C_local_look_slacks_1 : AFunc := C274
def C275 : AFunc := ⟨18, [.tmp 4],
(.seq (.ops [⟨some 2, none, .a .box, [.t 0]⟩,
 zP 4 .mov [.c (.int .i64 0)]])
(.seq (.ops [zF 8 2 0,
 zF 9 8 2,
 zL 10 9,
 zF 11 2 5,
 zL 12 11,
 zM 13 1,
⟨some 14, none, .call, [.c (.func (.func 303) [] []), .t 10, .t 12, .t 13]⟩,
 zM 7 14,
 zP 15 (.ext 0) [.t 7],
 zP 16 (.ext 1) [.t 7],
 zM 5 15,
 zM 6 16])
(.seq (.ops [zM 17 5,
 zM 4 17])
.ret)))⟩
abbrev f_local_look_asks : Nat := 275
abbrev C_local_look_asks : AFunc := C275
def C276 : AFunc := ⟨38, [.tmp 4],
(.seq (.ops [⟨some 2, none, .a .box, [.t 0]⟩,
 zP 4 .mov [.c (.int .i64 0)]])
(.seq (.ops [zF 10 2 0,
 zF 11 10 0,
 zL 12 11,
 zF 13 2 0,
 zF 14 13 1,
 zL 15 14,
 zM 16 1,
⟨some 17, none, .call, [.c (.func (.func 304) [] []), .t 12, .t 15, .t 16]⟩,
 zM 9 17,
 zP 18 (.ext 0) [.t 9],
 zP 19 (.ext 1) [.t 9],
 zM 5 18,
 zM 6 19])
(.seq (.ops [zF 21 2 3,
 zL 22 21,
 zF 23 2 4,
 zL 24 23,
 zM 25 1,
⟨some 26, none, .call, [.c (.func (.func 305) [] []), .t 22, .t 24, .t 25]⟩,
 zM 20 26,
 zP 27 (.ext 0) [.t 20],
 zP 28 (.ext 1) [.t 20],
 zM 7 27,
 zM 8 28])
(.seq (.ops [zM 29 5,
⟨some 30, none, .r (.loadN 6), [.t 2]⟩,
 zM 31 1,
⟨some 32, none, .call, [.c (.func (.func 275) [] []), .t 30, .t 31]⟩,
 zP 33 .neg [.t 32],
 zM 34 7,
 zP 35 .neg [.t 34],
⟨some 36, none, .a (.bslice [(.int .i64 0)] 3 1 [0, 1, 2]), [.t 29, .t 33, .t 35]⟩,
⟨some 37, none, .call, [.c (.func (.func 228) [] []), .t 36]⟩,
 zM 4 37])
.ret))))⟩
abbrev f_local_look_slack : Nat := 276
abbrev C_local_look_slack : AFunc := C276
def C277 : AFunc := ⟨8, [.tmp 2],
(.seq (.ops [zP 2 .mov [.c .nils]])
(.seq (.seq (.ops [zM 3 0,
 zP 4 (.eq .nilsl) [.t 3, .c .nils]])
(.cond (.t 4)
(.seq (.ops [zP 2 .mov [.c .nils]])
.ret)
.skip))
(.seq (.ops [⟨some 5, none, .a (.bslice [(.int .i64 0), (.int .i64 0)] 0 2 []), []⟩,
 zM 6 0,
⟨some 7, none, .e (.append 2 16), [.t 5, .t 6]⟩,
 zM 2 7])
.ret)))⟩
abbrev f_slices_Clone_rank_one_rank_one : Nat := 277
abbrev C_slices_Clone_rank_one_rank_one : AFunc := C277
def C278 : AFunc := ⟨14, [],
(.seq (.ops [zM 5 0,
 zP 6 .lenS [.t 5],
 zM 4 6])
(.ops [zM 7 0,
 zM 8 4,
 zM 9 4,
 zP 10 (.conv .u64) [.t 9],
⟨some 11, none, .call, [.c (.func (.func 307) [] []), .t 10]⟩,
 zM 12 1,
⟨some 13, none, .call, [.c (.func (.func 306) [] []), .t 7, .c (.int .i64 0), .t 8, .t 11, .t 12]⟩]))⟩
abbrev f_slices_SortFunc_rank_one_rank_one : Nat := 278
abbrev C_slices_SortFunc_rank_one_rank_one : AFunc := C278
def L_slices_Index_int_int_0 : AC := (.seq (.ops [zP 9 (.bin .lss) [.t 8, .t 7]])
(.seq (.cond (.t 9)
.skip
(.exit 0))
(.seq (.block 1 (.seq (.ops [zM 10 8,
 zM 5 10])
(.seq (.ops [zM 11 1,
 zM 12 0,
 zM 13 5,
 zP 14 (.iaddrS 1) [.t 12, .t 13],
 zL 15 14,
 zP 16 (.bin .eql) [.t 11, .t 15]])
(.cond (.t 16)
(.seq (.ops [zM 17 5,
 zM 4 17])
.ret)
.skip))))
(.ops [zP 18 (.bin .add) [.t 8, .c (.int .i64 1)],
 zM 8 18]))))
def C295 : AFunc := ⟨19, [.tmp 4],
(.seq (.ops [zP 4 .mov [.c (.int .i64 0)]])
(.seq (.seq (.ops [zM 6 0,
 zP 7 .lenS [.t 6],
 zP 8 .mov [.c (.int .i64 0)]])
(.block 0 (.loop L_slices_Index_int_int_0)))
(.seq (.ops [zP 4 .mov [.c (.int .i64 (-1))]])
.ret)))⟩
abbrev f_slices_Index_int_int : Nat := 295
abbrev C_slices_Index_int_int : AFunc := C295
def L_ticks_Gcd_0 : AC := (.seq (.seq (.ops [zM 11 1,
 zP 12 (.bin .neq) [.t 11, .c (.int .i64 0)]])
(.cond (.t 12)
.skip
(.exit 0)))
(.block 1 (.dops [zM 13 1,
 zM 14 0,
 zM 15 1,
 zP 16 (.bin .rem) [.t 14, .t 15],
 zM 0 13,
 zM 1 16] [[], [], [], [], [], []])))
def C296 : AFunc := ⟨18, [.tmp 4, .tmp 5],
(.seq (.ops [zP 4 .mov [.c (.int .i64 0)],
 zP 5 .mov [.c (.int .i64 0)]])
(.seq (.seq (.ops [zM 6 0,
 zM 7 1,
⟨some 8, none, .a (.bslice [(.int .i64 0)] 2 1 [0, 1]), [.t 6, .t 7]⟩,
⟨some 9, none, .call, [.c (.func (.func 299) [] []), .t 8]⟩,
 zP 10 .not [.t 9]])
(.cond (.t 10)
(.seq (.ops [zP 4 .mov [.c (.int .i64 0)],
 zP 5 .mov [.c (.int .i64 2)]])
.ret)
.skip))
(.seq (.block 0 (.loop L_ticks_Gcd_0))
(.seq (.ops [zM 17 0,
 zM 4 17,
 zP 5 .mov [.c (.int .i64 0)]])
.ret))))⟩
abbrev f_ticks_Gcd : Nat := 296
abbrev C_ticks_Gcd : AFunc := C296
def C297 : AFunc := ⟨29, [.cell 4 5 true, .tmp 5],
(.seq (.ops [⟨some 4, none, .a (.alloc [(.int .i64 0), (.int .i64 0), .nils, .nils, (.int .i64 0)]), []⟩,
 zP 5 .mov [.c (.int .i64 0)]])
(.seq (.seq (.ops [zM 7 0,
⟨some 8, none, .call, [.c (.func (.func 315) [] []), .t 7]⟩,
 zM 6 8])
(.seq (.ops [zM 9 6,
 zP 10 (.bin .neq) [.t 9, .c (.int .i64 0)]])
(.cond (.t 10)
(.seq (.ops [zP 11 (.build [(.int .i64 0), (.int .i64 0), .nils, .nils, (.int .i64 0)] []) [],
 zM 12 6,
 zS 5 [.t 4, .t 11],
 zM 5 12])
.ret)
.skip)))
(.seq (.seq (.ops [zM 13 1,
 zP 14 (.bin .lss) [.t 13, .c (.int .i64 0)],
 zM 15 14,
 zMg 16 1 15 false,
 zMg 17 0 15 false,
 zPg 18 .lenS [.t 17] 15 false,
 zPg 19 (.bin .geq) [.t 16, .t 18] 15 false,
 zP 20 .pick [.t 15, .c (.bool true), .t 19]])
(.cond (.t 20)
(.seq (.ops [zP 21 (.build [(.int .i64 0), (.int .i64 0), .nils, .nils, (.int .i64 0)] []) [],
 zS 5 [.t 4, .t 21],
 zP 5 .mov [.c (.int .i64 9)]])
.ret)
.skip))
(.seq (.ops [zM 22 0,
 zM 23 1,
 zP 24 (.iaddrS 3) [.t 22, .t 23],
⟨some 25, none, .r (.loadN 3), [.t 24]⟩,
 zM 26 0,
 zM 27 1,
 zP 28 (.build [(.int .i64 0), (.int .i64 0), .nils, .nils, (.int .i64 0)] [(0, 3), (3, 1), (4, 1)]) [.t 25, .t 26, .t 27],
 zS 5 [.t 4, .t 28],
 zP 5 .mov [.c (.int .i64 0)]])
.ret))))⟩
abbrev f_delay_of : Nat := 297
abbrev C_delay_of : AFunc := C297
def L_delay_seen_wait_0a : AC := (.ops [⟨some 5, none, .a (.alloc [(.int .i64 0), (.int .i64 0), .nils]), []⟩,
 zS 3 [.t 5, .t 13]])
def L_delay_seen_wait_0b : AC := (.block 1 (.ops [zL 14 4,
 zF 15 5 0,
 zL 16 15,
 zP 17 (.bin .mul) [.c (.int .i64 2), .t 16],
 zP 18 (.bin .add) [.t 14, .t 17],
 zS 1 [.t 4, .t 18]]))
def C298 : AFunc := ⟨20, [.cell 4 1 false],
(.seq (.ops [⟨some 2, none, .a .box, [.t 0]⟩,
⟨some 3, none, .a .box, [.t 1]⟩,
⟨some 4, none, .a (.alloc [(.int .i64 0)]), []⟩])
(.seq (.seq (.ops [zF 6 3 5,
 zL 7 6,
 zP 8 (.bin .eql) [.t 7, .c (.int .i64 0)]])
(.cond (.t 8)
(.seq (.ops [zS 1 [.t 4, .c (.int .i64 0)]])
.ret)
.skip))
(.seq (.seq (.ops [⟨some 9, none, .r (.loadN 5), [.t 2]⟩,
 zF 10 3 5,
 zL 11 10,
⟨some 12, none, .call, [.c (.func (.func 316) [] []), .t 9, .t 11]⟩])
(.block 0 (.rangeFunc (.t 12) [13] L_delay_seen_wait_0a L_delay_seen_wait_0b)))
(.seq (.ops [zL 19 4,
 zS 1 [.t 4, .t 19]])
.ret))))⟩
abbrev f_delay_seen_wait : Nat := 298
abbrev C_delay_seen_wait : AFunc := C298
def L_ticks_tick_0 : AC := (.seq (.ops [zP 8 (.bin .lss) [.t 7, .t 6]])
(.seq (.cond (.t 8)
.skip
(.exit 0))
(.seq (.block 1 (.seq (.ops [zP 9 (.iaddrS 1) [.t 5, .t 7],
 zL 10 9,
 zM 4 10])
(.seq (.ops [zM 11 4,
 zP 12 (.bin .lss) [.t 11, .c (.int .i64 0)],
 zM 13 12,
 zMg 14 4 13 false,
 zPg 15 (.bin .gtr) [.t 14, .c (.int .i64 1099511627776)] 13 false,
 zP 16 .pick [.t 13, .c (.bool true), .t 15]])
(.cond (.t 16)
(.seq (.ops [zP 2 .mov [.c (.bool false)]])
.ret)
.skip))))
(.ops [zP 17 (.bin .add) [.t 7, .c (.int .i64 1)],
 zM 7 17]))))
def C299 : AFunc := ⟨18, [.tmp 2],
(.seq (.ops [zP 2 .mov [.c (.bool false)]])
(.seq (.seq (.ops [zM 5 0,
 zP 6 .lenS [.t 5],
 zP 7 .mov [.c (.int .i64 0)]])
(.block 0 (.loop L_ticks_tick_0)))
(.seq (.ops [zP 2 .mov [.c (.bool true)]])
.ret)))⟩
abbrev f_ticks_tick : Nat := 299
abbrev C_ticks_tick : AFunc := C299
def L_ticks_each_0 : AC := (.seq (.ops [zP 9 (.bin .lss) [.t 8, .t 7]])
(.seq (.cond (.t 9)
.skip
(.exit 0))
(.seq (.block 1 (.seq (.ops [zP 10 (.iaddrS 1) [.t 6, .t 8],
 zL 11 10,
 zM 5 11])
(.ops [zM 12 0,
 zM 13 5,
⟨some 14, none, .call, [.t 12, .t 13]⟩])))
(.ops [zP 15 (.bin .add) [.t 8, .c (.int .i64 1)],
 zM 8 15]))))
def C300 : AFunc := ⟨16, [],
(.seq (.ops [zM 6 1,
 zP 7 .lenS [.t 6],
 zP 8 .mov [.c (.int .i64 0)]])
(.block 0 (.loop L_ticks_each_0)))⟩
abbrev f_ticks_each : Nat := 300
abbrev C_ticks_each : AFunc := C300
def C301 : AFunc := ⟨37, [],
(.seq (.ops [zM 6 0,
 zN 7 6,
 zF 8 7 1,
 zL 9 8,
 zP 10 (.bin .eql) [.t 9, .c (.int .i64 0)]])
(.cond (.t 10)
(.seq (.ops [zM 12 0,
 zN 13 12,
 zF 14 13 0,
 zL 15 14,
 zM 16 1,
⟨some 17, none, .call, [.c (.func (.func 296) [] []), .t 15, .t 16]⟩,
 zM 11 17,
 zP 18 (.ext 0) [.t 11],
 zP 19 (.ext 1) [.t 11],
 zM 4 18,
 zM 5 19])
(.dops [zM 21 0,
 zM 22 0,
 zM 23 0,
 zN 24 23,
 zF 25 24 0,
 zL 26 25,
 zM 27 1,
 zM 28 4,
 zP 29 (.bin .quo) [.t 27, .t 28],
⟨some 30, none, .call, [.c (.func (.func 317) [] []), .t 26, .t 29]⟩,
 zM 20 30,
 zP 31 (.ext 0) [.t 20],
 zP 32 (.ext 1) [.t 20],
 zN 33 21,
 zF 34 33 0,
 zS 1 [.t 34, .t 31],
 zN 35 22,
 zF 36 35 1,
 zS 1 [.t 36, .t 32]] [[], [], [], [], [], [], [], [], [], [], [], [], [], [], [], [], [], [], []]))
.skip))⟩
abbrev f_ticks_count_multiple : Nat := 301
abbrev C_ticks_count_multiple : AFunc := C301
def C302 : AFunc := ⟨16, [.tmp 4, .tmp 5],
(.seq (.ops [zP 4 .mov [.c (.int .i64 0)],
 zP 5 .mov [.c (.int .i64 0)]])
(.seq (.seq (.ops [zM 6 1,
 zP 7 (.bin .eql) [.t 6, .c (.int .i64 0)],
 zM 8 7,
 zMg 9 0 8 true,
 zPg 10 (.bin .gtr) [.t 9, .c (.int .i64 1099511627776)] 8 true,
 zP 11 .pick [.t 8, .t 10, .c (.bool false)]])
(.cond (.t 11)
(.ops [zP 1 .mov [.c (.int .i64 10)]])
.skip))
(.seq (.seq (.ops [zM 12 1,
 zP 13 (.bin .neq) [.t 12, .c (.int .i64 0)]])
(.cond (.t 13)
(.seq (.ops [zM 14 1,
 zP 4 .mov [.c (.int .i64 0)],
 zM 5 14])
.ret)
.skip))
(.seq (.ops [zM 15 0,
 zM 4 15,
 zP 5 .mov [.c (.int .i64 0)]])
.ret))))⟩
abbrev f_ticks_told : Nat := 302
abbrev C_ticks_told : AFunc := C302
def C303 : AFunc := ⟨27, [.tmp 6, .tmp 7],
(.seq (.ops [⟨some 5, none, .a .box, [.t 2]⟩,
 zP 6 .mov [.c (.int .i64 0)],
 zP 7 .mov [.c (.int .i64 0)]])
(.seq (.seq (.ops [zM 9 0,
 zM 10 1,
⟨some 11, none, .call, [.c (.func (.func 141) [] []), .t 9, .t 10]⟩,
 zM 8 11])
(.seq (.ops [zM 12 8,
 zP 13 (.bin .neq) [.t 12, .c (.int .i64 0)],
 zM 14 13,
 zLg 15 5 14 false,
 zPg 16 (.bin .lss) [.t 15, .c (.int .i64 0)] 14 false,
 zP 17 .pick [.t 14, .c (.bool true), .t 16],
 zM 18 17,
 zLg 19 5 18 false,
 zPg 20 (.bin .gtr) [.t 19, .c (.int .i64 1048576)] 18 false,
 zP 21 .pick [.t 18, .c (.bool true), .t 20]])
(.cond (.t 21)
(.seq (.ops [zP 6 .mov [.c (.int .i64 0)],
 zP 7 .mov [.c (.int .i64 2)]])
.ret)
.skip)))
(.seq (.ops [zM 22 0,
 zM 23 1,
 zP 24 (.mkfunc (.func 318) 0) [.t 5],
⟨some 25, none, .call, [.c (.func (.func 272) [] []), .t 22, .t 23, .t 24]⟩,
⟨some 26, none, .call, [.c (.func (.func 271) [] []), .t 25]⟩,
 zM 6 26,
 zP 7 .mov [.c (.int .i64 0)]])
.ret)))⟩
abbrev f_demand_Of : Nat := 303
abbrev C_demand_Of : AFunc := C303
def C304 : AFunc := ⟨29, [.tmp 6, .tmp 7],
(.seq (.ops [zP 6 .mov [.c (.int .i64 0)],
 zP 7 .mov [.c (.int .i64 0)]])
(.seq (.ops [zM 11 0,
 zM 12 1,
⟨some 13, none, .call, [.c (.func (.func 319) [] []), .t 11, .t 12]⟩,
 zM 10 13,
 zP 14 (.ext 0) [.t 10],
 zP 15 (.ext 1) [.t 10],
⟨some 8, none, .a (.alloc [(.int .i64 0), (.int .i64 0)]), []⟩,
 zS 2 [.t 8, .t 14],
 zM 9 15])
(.seq (.seq (.ops [zM 16 9,
 zP 17 .not [.t 16],
 zM 18 17,
 zMg 19 2 18 false,
 zPg 20 (.bin .lss) [.t 19, .c (.int .i64 0)] 18 false,
 zP 21 .pick [.t 18, .c (.bool true), .t 20],
 zM 22 21,
 zMg 23 2 22 false,
 zPg 24 (.bin .gtr) [.t 23, .c (.int .i64 1048576)] 22 false,
 zP 25 .pick [.t 22, .c (.bool true), .t 24]])
(.cond (.t 25)
(.seq (.ops [zP 6 .mov [.c (.int .i64 0)],
 zP 7 .mov [.c (.int .i64 2)]])
.ret)
.skip))
(.seq (.ops [⟨some 26, none, .r (.loadN 2), [.t 8]⟩,
 zM 27 2,
⟨some 28, none, .call, [.c (.func (.func 320) [] []), .t 26, .t 27]⟩,
 zM 6 28,
 zP 7 .mov [.c (.int .i64 0)]])
.ret))))⟩
abbrev f_supply_Of : Nat := 304
abbrev C_supply_Of : AFunc := C304
def L_delay_Of_0 : AC := (.seq (.ops [zP 29 (.bin .lss) [.t 28, .t 27]])
(.seq (.cond (.t 29)
.skip
(.exit 1))
(.seq (.block 2 (.seq (.ops [zP 30 (.iaddrS 8) [.t 26, .t 28],
⟨some 31, none, .r (.loadN 8), [.t 30]⟩,
⟨some 10, none, .a (.alloc [(.int .i64 0), (.int .i64 0), (.int .i64 0), (.int .i64 0), (.int .i64 0), (.int .i64 0), (.int .i64 0), (.int .i64 0)]), []⟩,
 zS 8 [.t 10, .t 31]])
(.seq (.ops [zF 32 10 1,
 zL 33 32,
 zM 34 2,
 zP 35 (.bin .gtr) [.t 33, .t 34]])
(.cond (.t 35)
(.ops [zM 36 6,
⟨some 37, none, .r (.loadN 5), [.t 8]⟩,
⟨some 38, none, .r (.loadN 8), [.t 10]⟩,
⟨some 39, none, .call, [.c (.func (.func 321) [] []), .t 37, .t 38]⟩,
 zP 40 .mx [.t 36, .t 39],
 zM 6 40])
.skip))))
(.ops [zP 41 (.bin .add) [.t 28, .c (.int .i64 1)],
 zM 28 41]))))
def C305 : AFunc := ⟨43, [.tmp 6, .tmp 7],
(.seq (.ops [zP 6 .mov [.c (.int .i64 0)],
 zP 7 .mov [.c (.int .i64 0)]])
(.seq (.ops [zM 12 0,
 zM 13 1,
⟨some 14, none, .call, [.c (.func (.func 297) [] []), .t 12, .t 13]⟩,
 zM 11 14,
 zP 15 (.ext 0) [.t 11],
 zP 16 (.ext 1) [.t 11],
⟨some 8, none, .a (.alloc [(.int .i64 0), (.int .i64 0), .nils, .nils, (.int .i64 0)]), []⟩,
 zS 5 [.t 8, .t 15],
 zM 7 16])
(.seq (.block 0 (.seq (.ops [zM 18 7,
 zP 19 (.bin .neq) [.t 18, .c (.int .i64 0)],
 zM 17 19])
(.cond (.t 17)
(.seq (.ops [zM 20 7,
 zP 6 .mov [.c (.int .i64 0)],
 zM 7 20])
.ret)
(.seq (.ops [zM 22 2,
 zP 23 (.bin .lss) [.t 22, .c (.int .i64 0)],
 zM 21 23])
(.cond (.t 21)
(.seq (.ops [zP 6 .mov [.c (.int .i64 0)],
 zP 7 .mov [.c (.int .i64 2)]])
.ret)
.skip)))))
(.seq (.seq (.ops [zF 24 8 0,
 zF 25 24 2,
 zL 26 25,
 zP 27 .lenS [.t 26],
 zP 28 .mov [.c (.int .i64 0)]])
(.block 1 (.loop L_delay_Of_0)))
(.seq (.ops [zM 42 6,
 zM 6 42,
 zP 7 .mov [.c (.int .i64 0)]])
.ret)))))⟩
abbrev f_delay_Of : Nat := 305
abbrev C_delay_Of : AFunc := C305
def L_slices_pdqsortCmpFunc_rank_one_0 : AC := (.block 1 (.seq (.ops [zM 21 2,
 zM 22 1,
 zP 23 (.bin .sub) [.t 21, .t 22],
 zM 12 23])
(.seq (.seq (.ops [zM 24 12,
 zP 25 (.bin .leq) [.t 24, .c (.int .i64 12)]])
(.cond (.t 25)
(.seq (.ops [zM 26 0,
 zM 27 1,
 zM 28 2,
 zM 29 4,
⟨some 30, none, .call, [.c (.func (.func 322) [] []), .t 26, .t 27, .t 28, .t 29]⟩])
.ret)
.skip))
(.seq (.seq (.ops [zM 31 3,
 zP 32 (.bin .eql) [.t 31, .c (.int .i64 0)]])
(.cond (.t 32)
(.seq (.ops [zM 33 0,
 zM 34 1,
 zM 35 2,
 zM 36 4,
⟨some 37, none, .call, [.c (.func (.func 323) [] []), .t 33, .t 34, .t 35, .t 36]⟩])
.ret)
.skip))
(.seq (.seq (.ops [zM 38 10,
 zP 39 .not [.t 38]])
(.cond (.t 39)
(.seq (.ops [zM 40 0,
 zM 41 1,
 zM 42 2,
 zM 43 4,
⟨some 44, none, .call, [.c (.func (.func 324) [] []), .t 40, .t 41, .t 42, .t 43]⟩])
(.ops [zM 45 3,
 zP 46 (.bin .sub) [.t 45, .c (.int .i64 1)],
 zM 3 46]))
.skip))
(.seq (.ops [zM 48 0,
 zM 49 1,
 zM 50 2,
 zM 51 4,
⟨some 52, none, .call, [.c (.func (.func 325) [] []), .t 48, .t 49, .t 50, .t 51]⟩,
 zM 47 52,
 zP 53 (.ext 0) [.t 47],
 zP 54 (.ext 1) [.t 47],
 zM 13 53,
 zM 14 54])
(.seq (.seq (.ops [zM 55 14,
 zP 56 (.bin .eql) [.t 55, .c (.int .i64 2)]])
(.cond (.t 56)
(.seq (.ops [zM 57 0,
 zM 58 1,
 zM 59 2,
 zM 60 4,
⟨some 61, none, .call, [.c (.func (.func 326) [] []), .t 57, .t 58, .t 59, .t 60]⟩])
(.seq (.ops [zM 62 2,
 zP 63 (.bin .sub) [.t 62, .c (.int .i64 1)],
 zM 64 13,
 zM 65 1,
 zP 66 (.bin .sub) [.t 64, .t 65],
 zP 67 (.bin .sub) [.t 63, .t 66],
 zM 13 67])
(.ops [zP 14 .mov [.c (.int .i64 1)]])))
.skip))
(.seq (.seq (.ops [zM 68 10,
 zM 69 68,
 zMg 70 11 69 true,
 zP 71 .pick [.t 69, .t 70, .c (.bool false)],
 zM 72 71,
 zMg 73 14 72 true,
 zPg 74 (.bin .eql) [.t 73, .c (.int .i64 1)] 72 true,
 zP 75 .pick [.t 72, .t 74, .c (.bool false)]])
(.cond (.t 75)
(.seq (.ops [zM 76 0,
 zM 77 1,
 zM 78 2,
 zM 79 4,
⟨some 80, none, .call, [.c (.func (.func 327) [] []), .t 76, .t 77, .t 78, .t 79]⟩])
(.cond (.t 80)
.ret
.skip))
.skip))
(.seq (.seq (.dops [zM 81 1,
 zP 82 (.bin .gtr) [.t 81, .c (.int .i64 0)],
 zM 83 82,
 zMg 84 4 83 true,
 zMg 85 0 83 true,
 zMg 86 1 83 true,
 zPg 87 (.bin .sub) [.t 86, .c (.int .i64 1)] 83 true,
 zPg 88 (.iaddrS 2) [.t 85, .t 87] 83 true,
⟨some 89, some (83, true), .r (.loadN 2), [.t 88]⟩,
 zMg 90 0 83 true,
 zMg 91 13 83 true,
 zPg 92 (.iaddrS 2) [.t 90, .t 91] 83 true,
⟨some 93, some (83, true), .r (.loadN 2), [.t 92]⟩,
⟨some 94, some (83, true), .call, [.t 84, .t 89, .t 93]⟩,
 zPg 95 (.bin .lss) [.t 94, .c (.int .i64 0)] 83 true,
 zPg 96 .not [.t 95] 83 true,
 zP 97 .pick [.t 83, .t 96, .c (.bool false)]] [[], [], [], [], [], [], [], [], [], [], [], [], [], [], [], [], []])
(.cond (.t 97)
(.seq (.ops [zM 98 0,
 zM 99 1,
 zM 100 2,
 zM 101 13,
 zM 102 4,
⟨some 103, none, .call, [.c (.func (.func 328) [] []), .t 98, .t 99, .t 100, .t 101, .t 102]⟩,
 zM 15 103])
(.seq (.ops [zM 104 15,
 zM 1 104])
(.exit 1)))
.skip))
(.seq (.ops [zM 106 0,
 zM 107 1,
 zM 108 2,
 zM 109 13,
 zM 110 4,
⟨some 111, none, .call, [.c (.func (.func 329) [] []), .t 106, .t 107, .t 108, .t 109, .t 110]⟩,
 zM 105 111,
 zP 112 (.ext 0) [.t 105],
 zP 113 (.ext 1) [.t 105],
 zM 16 112,
 zM 17 113])
(.seq (.ops [zM 114 17,
 zM 11 114])
(.seq (.ops [zM 115 16,
 zM 116 1,
 zP 117 (.bin .sub) [.t 115, .t 116],
 zM 118 2,
 zM 119 16,
 zP 120 (.bin .sub) [.t 118, .t 119],
 zM 18 117,
 zM 19 120])
(.seq (.ops [zM 121 12,
 zP 122 (.bin .quo) [.t 121, .c (.int .i64 8)],
 zM 20 122])
(.seq (.ops [zM 123 18,
 zM 124 19,
 zP 125 (.bin .lss) [.t 123, .t 124]])
(.cond (.t 125)
(.seq (.ops [zM 126 18,
 zM 127 20,
 zP 128 (.bin .geq) [.t 126, .t 127],
 zM 10 128])
(.seq (.ops [zM 129 0,
 zM 130 1,
 zM 131 16,
 zM 132 3,
 zM 133 4,
⟨some 134, none, .call, [.c (.func (.func 306) [] []), .t 129, .t 130, .t 131, .t 132, .t 133]⟩])
(.ops [zM 135 16,
 zP 136 (.bin .add) [.t 135, .c (.int .i64 1)],
 zM 1 136])))
(.seq (.ops [zM 137 19,
 zM 138 20,
 zP 139 (.bin .geq) [.t 137, .t 138],
 zM 10 139])
(.seq (.ops [zM 140 0,
 zM 141 16,
 zP 142 (.bin .add) [.t 141, .c (.int .i64 1)],
 zM 143 2,
 zM 144 3,
 zM 145 4,
⟨some 146, none, .call, [.c (.func (.func 306) [] []), .t 140, .t 142, .t 143, .t 144, .t 145]⟩])
(.ops [zM 147 16,
 zM 2 147]))))))))))))))))))
def C306 : AFunc := ⟨148, [],
(.seq (.ops [zP 10 .mov [.c (.bool true)]])
(.seq (.ops [zP 11 .mov [.c (.bool true)]])
(.block 0 (.loop L_slices_pdqsortCmpFunc_rank_one_0))))⟩
abbrev f_slices_pdqsortCmpFunc_rank_one : Nat := 306
abbrev C_slices_pdqsortCmpFunc_rank_one : AFunc := C306
def C307 : AFunc := ⟨8, [.tmp 2],
(.seq (.ops [zP 2 .mov [.c (.int .i64 0)]])
(.seq (.cond (.c (.bool false))
(.seq (.ops [zM 3 0,
 zP 4 (.conv .u32) [.t 3],
⟨some 5, none, .call, [.c (.func (.func 330) [] []), .t 4]⟩,
 zM 2 5])
.ret)
.skip)
(.seq (.ops [zM 6 0,
⟨some 7, none, .call, [.c (.func (.func 331) [] []), .t 6]⟩,
 zM 2 7])
.ret)))⟩
abbrev f_math_bits_Len : Nat := 307
abbrev C_math_bits_Len : AFunc := C307
def L_delay_Check_0 : AC := (.seq (.ops [zP 12 (.bin .lss) [.t 11, .t 10]])
(.seq (.cond (.t 12)
.skip
(.exit 0))
(.seq (.block 1 (.seq (.ops [zP 13 (.iaddrS 3) [.t 9, .t 11],
⟨some 14, none, .r (.loadN 3), [.t 13]⟩,
⟨some 4, none, .a (.alloc [(.int .i64 0), (.int .i64 0), .nils]), []⟩,
 zS 3 [.t 4, .t 14]])
(.seq (.seq (.ops [zF 15 4 0,
 zL 16 15,
 zP 17 (.bin .lss) [.t 16, .c (.int .i64 1)],
 zM 18 17,
 zFg 19 4 0 18 false,
 zLg 20 19 18 false,
 zPg 21 (.bin .gtr) [.t 20, .c (.int .i64 64)] 18 false,
 zP 22 .pick [.t 18, .c (.bool true), .t 21],
 zM 23 22,
 zFg 24 4 1 23 false,
 zLg 25 24 23 false,
 zPg 26 (.bin .lss) [.t 25, .c (.int .i64 1)] 23 false,
 zP 27 .pick [.t 23, .c (.bool true), .t 26],
 zM 28 27,
 zFg 29 4 1 28 false,
 zLg 30 29 28 false,
 zFg 31 4 0 28 false,
 zLg 32 31 28 false,
 zPg 33 (.bin .gtr) [.t 30, .t 32] 28 false,
 zP 34 .pick [.t 28, .c (.bool true), .t 33]])
(.cond (.t 34)
(.seq (.ops [zP 2 .mov [.c (.int .i64 2)]])
.ret)
.skip))
(.seq (.seq (.dops [zF 35 4 2,
 zL 36 35,
 zF 37 4 2,
 zL 38 37,
 zP 39 .lenS [.t 38],
⟨some 40, none, .a (.mkslice [(.int .i64 0)] 1 8), [.t 39, .t 39]⟩,
⟨some 41, none, .call, [.c (.func (.func 141) [] []), .t 36, .t 40]⟩,
 zM 5 41] [[], [], [], [], [], [], [], []])
(.seq (.ops [zM 42 5,
 zP 43 (.bin .neq) [.t 42, .c (.int .i64 0)]])
(.cond (.t 43)
(.seq (.ops [zM 44 5,
 zM 2 44])
.ret)
.skip)))
(.seq (.ops [zF 45 4 2,
 zL 46 45,
 zP 47 (.mkfunc (.func 333) 0) [.t 4],
⟨some 48, none, .call, [.c (.func (.func 97) [] []), .t 46, .t 47]⟩])
(.cond (.t 48)
(.seq (.ops [zP 2 .mov [.c (.int .i64 2)]])
.ret)
.skip))))))
(.ops [zP 49 (.bin .add) [.t 11, .c (.int .i64 1)],
 zM 11 49]))))
def C315 : AFunc := ⟨50, [.tmp 2],
(.seq (.ops [zP 2 .mov [.c (.int .i64 0)]])
(.seq (.seq (.ops [zM 6 0,
 zP 7 .lenS [.t 6],
 zP 8 (.bin .gtr) [.t 7, .c (.int .i64 4)]])
(.cond (.t 8)
(.seq (.ops [zP 2 .mov [.c (.int .i64 2)]])
.ret)
.skip))
(.seq (.seq (.ops [zM 9 0,
 zP 10 .lenS [.t 9],
 zP 11 .mov [.c (.int .i64 0)]])
(.block 0 (.loop L_delay_Check_0)))
(.seq (.ops [zP 2 .mov [.c (.int .i64 0)]])
.ret))))⟩
abbrev f_delay_Check : Nat := 315
abbrev C_delay_Check : AFunc := C315
def C317 : AFunc := ⟨29, [.tmp 4, .tmp 5],
(.seq (.ops [zP 4 .mov [.c (.int .i64 0)],
 zP 5 .mov [.c (.int .i64 0)]])
(.seq (.seq (.ops [zM 8 0,
 zM 9 1,
⟨some 10, none, .a (.bslice [(.int .i64 0)] 2 1 [0, 1]), [.t 8, .t 9]⟩,
⟨some 11, none, .call, [.c (.func (.func 299) [] []), .t 10]⟩,
 zP 12 .not [.t 11]])
(.cond (.t 12)
(.seq (.ops [zP 4 .mov [.c (.int .i64 0)],
 zP 5 .mov [.c (.int .i64 2)]])
.ret)
.skip))
(.seq (.ops [zM 14 0,
 zP 15 (.conv .u64) [.t 14],
 zM 16 1,
 zP 17 (.conv .u64) [.t 16],
⟨some 18, none, .call, [.c (.func (.func 337) [] []), .t 15, .t 17]⟩,
 zM 13 18,
 zP 19 (.ext 0) [.t 13],
 zP 20 (.ext 1) [.t 13],
 zM 6 19,
 zM 7 20])
(.seq (.seq (.ops [zM 21 6,
 zP 22 (.bin .gtr) [.t 21, .c (.int .u64 0)],
 zM 23 22,
 zMg 24 7 23 false,
 zPg 25 (.bin .gtr) [.t 24, .c (.int .u64 1099511627776)] 23 false,
 zP 26 .pick [.t 23, .c (.bool true), .t 25]])
(.cond (.t 26)
(.seq (.ops [zP 4 .mov [.c (.int .i64 0)],
 zP 5 .mov [.c (.int .i64 10)]])
.ret)
.skip))
(.seq (.ops [zM 27 7,
 zP 28 (.conv .i64) [.t 27],
 zM 4 28,
 zP 5 .mov [.c (.int .i64 0)]])
.ret)))))⟩
abbrev f_ticks_Mul : Nat := 317
abbrev C_ticks_Mul : AFunc := C317
def C318 : AFunc := ⟨16, [.tmp 3],
(.seq (.ops [⟨some 2, none, .a .box, [.t 0]⟩,
 zP 3 .mov [.c (.int .i64 0)]])
(.seq (.seq (.ops [zL 4 1,
 zF 5 2 1,
 zL 6 5,
 zP 7 (.bin .lss) [.t 4, .t 6]])
(.cond (.t 7)
(.seq (.ops [zP 3 .mov [.c (.int .i64 0)]])
.ret)
.skip))
(.seq (.ops [zL 8 1,
 zF 9 2 1,
 zL 10 9,
 zP 11 (.bin .sub) [.t 8, .t 10],
 zF 12 2 0,
 zL 13 12,
 zP 14 (.bin .quo) [.t 11, .t 13],
 zP 15 (.bin .add) [.c (.int .i64 1), .t 14],
 zM 3 15])
.ret)))⟩
abbrev f_demand_Of_1 : Nat := 318
abbrev C_demand_Of_1 : AFunc := C318
def C319 : AFunc := ⟨27, [.cell 4 2 true, .tmp 5],
(.seq (.ops [⟨some 4, none, .a (.alloc [(.int .i64 0), (.int .i64 0)]), []⟩,
 zP 5 .mov [.c (.bool false)]])
(.seq (.ops [zM 7 0,
 zM 8 1,
 zP 9 (.build [(.int .i64 0), (.int .i64 0)] [(0, 1), (1, 1)]) [.t 7, .t 8],
 zP 10 (.build [(.int .i64 0), (.int .i64 0)] [(0, 2)]) [.t 9],
⟨some 6, none, .a (.alloc [(.int .i64 0), (.int .i64 0)]), []⟩,
 zS 2 [.t 6, .t 10]])
(.seq (.ops [⟨some 11, none, .r (.loadN 2), [.t 6]⟩,
 zM 12 0,
 zP 13 (.bin .leq) [.c (.int .i64 1), .t 12],
 zM 14 13,
 zMg 15 0 14 true,
 zPg 16 (.bin .leq) [.t 15, .c (.int .i64 64)] 14 true,
 zP 17 .pick [.t 14, .t 16, .c (.bool false)],
 zM 18 17,
 zMg 19 1 18 true,
 zPg 20 (.bin .leq) [.c (.int .i64 1), .t 19] 18 true,
 zP 21 .pick [.t 18, .t 20, .c (.bool false)],
 zM 22 21,
 zMg 23 1 22 true,
 zMg 24 0 22 true,
 zPg 25 (.bin .leq) [.t 23, .t 24] 22 true,
 zP 26 .pick [.t 22, .t 25, .c (.bool false)],
 zS 2 [.t 4, .t 11],
 zM 5 26])
.ret)))⟩
abbrev f_supply_of : Nat := 319
abbrev C_supply_of : AFunc := C319
def C320 : AFunc := ⟨40, [.tmp 4],
(.seq (.ops [⟨some 2, none, .a .box, [.t 0]⟩,
 zP 4 .mov [.c (.int .i64 0)]])
(.seq (.ops [zF 7 2 0,
⟨some 8, none, .r (.loadN 2), [.t 7]⟩,
⟨some 9, none, .call, [.c (.func (.func 338) [] []), .t 8]⟩,
 zM 5 9])
(.seq (.seq (.ops [zM 10 1,
 zM 11 5,
 zP 12 (.bin .lss) [.t 10, .t 11]])
(.cond (.t 12)
(.seq (.ops [zP 4 .mov [.c (.int .i64 0)]])
.ret)
.skip))
(.seq (.ops [zM 13 1,
 zM 14 5,
 zP 15 (.bin .sub) [.t 13, .t 14],
 zF 16 2 0,
 zF 17 16 0,
 zL 18 17,
⟨some 19, none, .call, [.c (.func (.func 339) [] []), .t 15, .t 18]⟩,
 zM 6 19])
(.seq (.dops [zM 20 6,
 zF 21 2 0,
 zF 22 21 1,
 zL 23 22,
 zP 24 (.bin .mul) [.t 20, .t 23],
 zM 25 1,
 zM 26 5,
 zP 27 (.bin .sub) [.t 25, .t 26],
 zM 28 6,
 zF 29 2 0,
 zF 30 29 0,
 zL 31 30,
 zP 32 (.bin .mul) [.t 28, .t 31],
 zP 33 (.bin .sub) [.t 27, .t 32],
 zF 34 2 0,
⟨some 35, none, .r (.loadN 2), [.t 34]⟩,
⟨some 36, none, .call, [.c (.func (.func 338) [] []), .t 35]⟩,
 zP 37 (.bin .sub) [.t 33, .t 36],
 zP 38 .mx [.c (.int .i64 0), .t 37],
 zP 39 (.bin .add) [.t 24, .t 38],
 zM 4 39] [[], [], [], [0, 17], [], [], [], [], [], [], [], [0, 17], [], [], [], [], [], [], [], [], []])
.ret)))))⟩
abbrev f_supply_server_gives : Nat := 320
abbrev C_supply_server_gives : AFunc := C320
def L_slices_insertionSortCmpFunc_rank_one_1 : AC := (.seq (.seq (.dops [zM 18 9,
 zM 19 1,
 zP 20 (.bin .gtr) [.t 18, .t 19],
 zM 21 20,
 zMg 22 3 21 true,
 zMg 23 0 21 true,
 zMg 24 9 21 true,
 zPg 25 (.iaddrS 2) [.t 23, .t 24] 21 true,
⟨some 26, some (21, true), .r (.loadN 2), [.t 25]⟩,
 zMg 27 0 21 true,
 zMg 28 9 21 true,
 zPg 29 (.bin .sub) [.t 28, .c (.int .i64 1)] 21 true,
 zPg 30 (.iaddrS 2) [.t 27, .t 29] 21 true,
⟨some 31, some (21, true), .r (.loadN 2), [.t 30]⟩,
⟨some 32, some (21, true), .call, [.t 22, .t 26, .t 31]⟩,
 zPg 33 (.bin .lss) [.t 32, .c (.int .i64 0)] 21 true,
 zP 34 .pick [.t 21, .t 33, .c (.bool false)]] [[], [], [], [], [], [], [], [], [], [], [], [], [], [], [], [], []])
(.cond (.t 34)
.skip
(.exit 2)))
(.seq (.block 3 (.dops [zM 37 0,
 zM 38 9,
 zM 39 0,
 zM 40 9,
 zP 41 (.bin .sub) [.t 40, .c (.int .i64 1)],
 zM 42 0,
 zM 43 9,
 zP 44 (.bin .sub) [.t 43, .c (.int .i64 1)],
 zP 45 (.iaddrS 2) [.t 42, .t 44],
⟨some 46, none, .r (.loadN 2), [.t 45]⟩,
 zM 47 0,
 zM 48 9,
 zP 49 (.iaddrS 2) [.t 47, .t 48],
⟨some 50, none, .r (.loadN 2), [.t 49]⟩,
 zP 51 (.iaddrS 2) [.t 37, .t 38],
 zS 2 [.t 51, .t 46],
 zP 52 (.iaddrS 2) [.t 39, .t 41],
 zS 2 [.t 52, .t 50]] [[], [], [], [], [], [], [], [], [], [], [], [], [], [], [], [], [], []]))
(.ops [zM 35 9,
 zP 36 (.bin .sub) [.t 35, .c (.int .i64 1)],
 zM 9 36])))
def L_slices_insertionSortCmpFunc_rank_one_0 : AC := (.seq (.seq (.ops [zM 12 8,
 zM 13 2,
 zP 14 (.bin .lss) [.t 12, .t 13]])
(.cond (.t 14)
.skip
(.exit 0)))
(.seq (.block 1 (.seq (.ops [zM 17 8,
 zM 9 17])
(.block 2 (.loop L_slices_insertionSortCmpFunc_rank_one_1))))
(.ops [zM 15 8,
 zP 16 (.bin .add) [.t 15, .c (.int .i64 1)],
 zM 8 16])))
def C322 : AFunc := ⟨53, [],
(.seq (.ops [zM 10 1,
 zP 11 (.bin .add) [.t 10, .c (.int .i64 1)],
 zM 8 11])
(.block 0 (.loop L_slices_insertionSortCmpFunc_rank_one_0)))⟩
abbrev f_slices_insertionSortCmpFunc_rank_one : Nat := 322
abbrev C_slices_insertionSortCmpFunc_rank_one : AFunc := C322
def C331 : AFunc := ⟨25, [.tmp 2],
(.seq (.ops [zP 2 .mov [.c (.int .i64 0)]])
(.seq (.seq (.ops [zM 3 0,
 zP 4 (.bin .geq) [.t 3, .c (.int .u64 4294967296)]])
(.cond (.t 4)
(.seq (.ops [zM 5 0,
 zP 6 (.bin .shr) [.t 5, .c (.int .u64 32)],
 zM 0 6])
(.ops [zP 2 .mov [.c (.int .i64 32)]]))
.skip))
(.seq (.seq (.ops [zM 7 0,
 zP 8 (.bin .geq) [.t 7, .c (.int .u64 65536)]])
(.cond (.t 8)
(.seq (.ops [zM 9 0,
 zP 10 (.bin .shr) [.t 9, .c (.int .u64 16)],
 zM 0 10])
(.ops [zM 11 2,
 zP 12 (.bin .add) [.t 11, .c (.int .i64 16)],
 zM 2 12]))
.skip))
(.seq (.seq (.ops [zM 13 0,
 zP 14 (.bin .geq) [.t 13, .c (.int .u64 256)]])
(.cond (.t 14)
(.seq (.ops [zM 15 0,
 zP 16 (.bin .shr) [.t 15, .c (.int .u64 8)],
 zM 0 16])
(.ops [zM 17 2,
 zP 18 (.bin .add) [.t 17, .c (.int .i64 8)],
 zM 2 18]))
.skip))
(.seq (.ops [zM 19 2,
 zM 20 0,
 zP 21 (.conv .u8) [.t 20],
 zP 22 .idxS [.c (.str [0, 1, 2, 2, 3, 3, 3, 3, 4, 4, 4, 4, 4, 4, 4, 4, 5, 5, 5, 5, 5, 5, 5, 5, 5, 5, 5, 5, 5, 5, 5, 5, 6, 6, 6, 6, 6, 6, 6, 6, 6, 6, 6, 6, 6, 6, 6, 6, 6, 6, 6, 6, 6, 6, 6, 6, 6, 6, 6, 6, 6, 6, 6, 6, 7, 7, 7, 7, 7, 7, 7, 7, 7, 7, 7, 7, 7, 7, 7, 7, 7, 7, 7, 7, 7, 7, 7, 7, 7, 7, 7, 7, 7, 7, 7, 7, 7, 7, 7, 7, 7, 7, 7, 7, 7, 7, 7, 7, 7, 7, 7, 7, 7, 7, 7, 7, 7, 7, 7, 7, 7, 7, 7, 7, 7, 7, 7, 7, 8, 8, 8, 8, 8, 8, 8, 8, 8, 8, 8, 8, 8, 8, 8, 8, 8, 8, 8, 8, 8, 8, 8, 8, 8, 8, 8, 8, 8, 8, 8, 8, 8, 8, 8, 8, 8, 8, 8, 8, 8, 8, 8, 8, 8, 8, 8, 8, 8, 8, 8, 8, 8, 8, 8, 8, 8, 8, 8, 8, 8, 8, 8, 8, 8, 8, 8, 8, 8, 8, 8, 8, 8, 8, 8, 8, 8, 8, 8, 8, 8, 8, 8, 8, 8, 8, 8, 8, 8, 8, 8, 8, 8, 8, 8, 8, 8, 8, 8, 8, 8, 8, 8, 8, 8, 8, 8, 8, 8, 8, 8, 8, 8, 8, 8, 8, 8, 8, 8, 8, 8, 8, 8, 8, 8, 8, 8, 8]), .t 21],
 zP 23 (.conv .i64) [.t 22],
 zP 24 (.bin .add) [.t 19, .t 23],
 zM 2 24])
.ret)))))⟩
abbrev f_math_bits_Len64 : Nat := 331
abbrev C_math_bits_Len64 : AFunc := C331
def C333 : AFunc := ⟨9, [.tmp 3],
(.seq (.ops [⟨some 2, none, .a .box, [.t 0]⟩,
 zP 3 .mov [.c (.bool false)]])
(.seq (.ops [⟨some 4, none, .r (.loadN 8), [.t 2]⟩,
 zF 5 1 1,
 zL 6 5,
⟨some 7, none, .call, [.c (.func (.func 334) [] []), .t 4, .t 6]⟩,
 zP 8 .not [.t 7],
 zM 3 8])
.ret))⟩
abbrev f_delay_Check_1 : Nat := 333
abbrev C_delay_Check_1 : AFunc := C333
def C334 : AFunc := ⟨56, [.tmp 4],
(.seq (.ops [⟨some 2, none, .a .box, [.t 0]⟩,
 zP 4 .mov [.c (.bool false)]])
(.seq (.block 0 (.seq (.seq (.ops [zF 6 2 4,
 zL 7 6,
 zP 8 (.bin .lss) [.t 7, .c (.int .i64 0)],
 zM 5 8])
(.cond (.t 5)
.skip
(.seq (.ops [zF 9 2 4,
 zL 10 9,
 zF 11 2 2,
 zL 12 11,
 zP 13 (.bin .gtr) [.t 10, .t 12],
 zM 5 13])
(.cond (.t 5)
.skip
(.seq (.ops [zF 14 2 5,
 zL 15 14,
 zP 16 (.bin .lss) [.t 15, .c (.int .i64 0)],
 zM 5 16])
(.cond (.t 5)
.skip
(.ops [zF 17 2 5,
 zL 18 17,
 zP 19 (.bin .gtr) [.t 18, .c (.int .i64 4)],
 zM 5 19])))))))
(.cond (.t 5)
(.seq (.ops [zP 4 .mov [.c (.bool false)]])
.ret)
(.seq (.ops [zF 21 2 5,
 zL 22 21,
 zP 23 (.bin .eql) [.t 22, .c (.int .i64 0)],
 zM 20 23])
(.cond (.t 20)
(.seq (.ops [zF 24 2 6,
 zL 25 24,
 zP 26 (.bin .eql) [.t 25, .c (.int .i64 0)],
 zM 27 26,
 zFg 28 2 7 27 true,
 zLg 29 28 27 true,
 zPg 30 (.bin .eql) [.t 29, .c (.int .i64 0)] 27 true,
 zP 31 .pick [.t 27, .t 30, .c (.bool false)],
 zM 4 31])
.ret)
.skip)))))
(.seq (.dops [zF 32 2 6,
 zL 33 32,
 zP 34 (.bin .leq) [.c (.int .i64 1), .t 33],
 zM 35 34,
 zFg 36 2 6 35 true,
 zLg 37 36 35 true,
 zMg 38 1 35 true,
 zPg 39 (.bin .leq) [.t 37, .t 38] 35 true,
 zP 40 .pick [.t 35, .t 39, .c (.bool false)],
 zM 41 40,
 zFg 42 2 7 41 true,
 zLg 43 42 41 true,
 zPg 44 (.bin .leq) [.c (.int .i64 1), .t 43] 41 true,
 zP 45 .pick [.t 41, .t 44, .c (.bool false)],
 zM 46 45,
 zFg 47 2 7 46 true,
 zLg 48 47 46 true,
 zFg 49 2 2 46 true,
 zLg 50 49 46 true,
 zFg 51 2 6 46 true,
 zLg 52 51 46 true,
 zPg 53 (.bin .quo) [.t 50, .t 52] 46 true,
 zPg 54 (.bin .leq) [.t 48, .t 53] 46 true,
 zP 55 .pick [.t 46, .t 54, .c (.bool false)],
 zM 4 55] [[], [], [], [], [], [], [], [], [], [], [], [], [], [], [], [], [], [], [], [], [], [], [], [], []])
.ret)))⟩
abbrev f_delay_may : Nat := 334
abbrev C_delay_may : AFunc := C334
def C337 : AFunc := ⟨51, [.tmp 4, .tmp 5],
(.seq (.ops [zP 4 .mov [.c (.int .u64 0)],
 zP 5 .mov [.c (.int .u64 0)]])
(.seq (.ops [zM 14 0,
 zP 15 (.bin .and) [.t 14, .c (.int .u64 4294967295)],
 zM 6 15])
(.seq (.ops [zM 16 0,
 zP 17 (.bin .shr) [.t 16, .c (.int .u64 32)],
 zM 7 17])
(.seq (.ops [zM 18 1,
 zP 19 (.bin .and) [.t 18, .c (.int .u64 4294967295)],
 zM 8 19])
(.seq (.ops [zM 20 1,
 zP 21 (.bin .shr) [.t 20, .c (.int .u64 32)],
 zM 9 21])
(.seq (.ops [zM 22 6,
 zM 23 8,
 zP 24 (.bin .mul) [.t 22, .t 23],
 zM 10 24])
(.seq (.ops [zM 25 7,
 zM 26 8,
 zP 27 (.bin .mul) [.t 25, .t 26],
 zM 28 10,
 zP 29 (.bin .shr) [.t 28, .c (.int .u64 32)],
 zP 30 (.bin .add) [.t 27, .t 29],
 zM 11 30])
(.seq (.ops [zM 31 11,
 zP 32 (.bin .and) [.t 31, .c (.int .u64 4294967295)],
 zM 12 32])
(.seq (.ops [zM 33 11,
 zP 34 (.bin .shr) [.t 33, .c (.int .u64 32)],
 zM 13 34])
(.seq (.ops [zM 35 12,
 zM 36 6,
 zM 37 9,
 zP 38 (.bin .mul) [.t 36, .t 37],
 zP 39 (.bin .add) [.t 35, .t 38],
 zM 12 39])
(.seq (.ops [zM 40 7,
 zM 41 9,
 zP 42 (.bin .mul) [.t 40, .t 41],
 zM 43 13,
 zP 44 (.bin .add) [.t 42, .t 43],
 zM 45 12,
 zP 46 (.bin .shr) [.t 45, .c (.int .u64 32)],
 zP 47 (.bin .add) [.t 44, .t 46],
 zM 4 47])
(.seq (.ops [zM 48 0,
 zM 49 1,
 zP 50 (.bin .mul) [.t 48, .t 49],
 zM 5 50])
.ret))))))))))))⟩
abbrev f_math_bits_Mul64 : Nat := 337
abbrev C_math_bits_Mul64 : AFunc := C337
def C338 : AFunc := ⟨8, [.tmp 2],
(.seq (.ops [⟨some 1, none, .a .box, [.t 0]⟩,
 zP 2 .mov [.c (.int .i64 0)]])
(.seq (.ops [zF 3 1 0,
 zL 4 3,
 zF 5 1 1,
 zL 6 5,
 zP 7 (.bin .sub) [.t 4, .t 6],
 zM 2 7])
.ret))⟩
abbrev f_supply_pair_idle : Nat := 338
abbrev C_supply_pair_idle : AFunc := C338
def C339 : AFunc := ⟨14, [.tmp 4],
(.seq (.ops [zP 4 .mov [.c (.int .i64 0)]])
(.seq (.ops [zM 8 0,
 zM 9 1,
⟨some 10, none, .call, [.c (.func (.func 345) [] []), .t 8, .t 9]⟩,
 zM 7 10,
 zP 11 (.ext 0) [.t 7],
 zP 12 (.ext 1) [.t 7],
 zM 5 11,
 zM 6 12])
(.seq (.ops [zM 13 5,
 zM 4 13])
.ret)))⟩
abbrev f_supply_over : Nat := 339
abbrev C_supply_over : AFunc := C339
def C345 : AFunc := ⟨18, [.tmp 4, .tmp 5],
(.seq (.ops [zP 4 .mov [.c (.int .i64 0)],
 zP 5 .mov [.c (.int .i64 0)]])
(.seq (.seq (.ops [zM 6 0,
 zM 7 1,
⟨some 8, none, .a (.bslice [(.int .i64 0)] 2 1 [0, 1]), [.t 6, .t 7]⟩,
⟨some 9, none, .call, [.c (.func (.func 299) [] []), .t 8]⟩,
 zP 10 .not [.t 9],
 zM 11 10,
 zMg 12 1 11 false,
 zPg 13 (.bin .eql) [.t 12, .c (.int .i64 0)] 11 false,
 zP 14 .pick [.t 11, .c (.bool true), .t 13]])
(.cond (.t 14)
(.seq (.ops [zP 4 .mov [.c (.int .i64 0)],
 zP 5 .mov [.c (.int .i64 2)]])
.ret)
.skip))
(.seq (.ops [zM 15 0,
 zM 16 1,
 zP 17 (.bin .quo) [.t 15, .t 16],
 zM 4 17,
 zP 5 .mov [.c (.int .i64 0)]])
.ret)))⟩
abbrev f_ticks_Div : Nat := 345
abbrev C_ticks_Div : AFunc := C345
def T : Tr AFunc := (.node (.node (.node (.node (.node (.node (.node (.node .nil (some C127) .nil) (some C63) (.node (.node .nil (some C319) .nil) none .nil)) (some C31) (.node (.node .nil (some C159) .nil) (some C95) (.node .nil (some C223) .nil))) none (.node (.node (.node (.node .nil (some C271) .nil) (some C143) .nil) none .nil) (some C47) (.node (.node (.node .nil (some C303) .nil) (some C175) .nil) (some C111) .nil))) (some C7) (.node (.node (.node .nil (some C71) .nil) none (.node (.node (.node .nil (some C295) .nil) (some C167) .nil) (some C103) (.node .nil (some C231) .nil))) (some C23) (.node (.node (.node .nil (some C151) .nil) (some C87) .nil) none (.node (.node .nil (some C183) .nil) (some C119) .nil)))) none (.node (.node (.node (.node .nil (some C67) .nil) (some C35) (.node .nil (some C99) (.node .nil (some C227) .nil))) none (.node (.node (.node (.node .nil (some C275) .nil) none .nil) (some C83) (.node (.node .nil (some C339) .nil) none .nil)) (some C51) (.node (.node (.node .nil (some C307) .nil) (some C179) .nil) none .nil))) (some C11) (.node (.node (.node (.node (.node .nil (some C267) .nil) none .nil) (some C75) (.node (.node .nil (some C331) .nil) none .nil)) (some C43) (.node (.node (.node .nil (some C299) .nil) (some C171) .nil) (some C107) .nil)) none (.node .nil none (.node (.node (.node .nil (some C315) .nil) (some C187) .nil) (some C123) .nil))))) none (.node (.node (.node (.node (.node .nil (some C65) .nil) (some C33) (.node .nil (some C97) (.node .nil (some C225) .nil))) (some C17) (.node (.node (.node (.node .nil (some C273) .nil) none .nil) (some C81) (.node (.node .nil (some C337) .nil) none .nil)) (some C49) (.node (.node (.node .nil (some C305) .nil) (some C177) .nil) none .nil))) (some C9) (.node (.node (.node (.node .nil (some C137) .nil) none .nil) (some C41) (.node (.node (.node .nil (some C297) .nil) none .nil) (some C105) .nil)) (some C25) (.node (.node (.node .nil (some C153) .nil) (some C89) (.node (.node .nil (some C345) .nil) none .nil)) none (.node (.node .nil (some C185) .nil) (some C121) .nil)))) none (.node (.node (.node (.node .nil (some C69) .nil) none (.node .nil none (.node .nil (some C229) .nil))) none (.node (.node (.node (.node .nil (some C277) .nil) (some C149) .nil) (some C85) .nil) none .nil)) none (.node (.node (.node (.node (.node .nil (some C269) .nil) (some C141) .nil) (some C77) (.node (.node .nil (some C333) .nil) none .nil)) (some C45) (.node (.node (.node .nil (some C301) .nil) none .nil) (some C109) (.node .nil (some C237) .nil))) (some C29) (.node (.node (.node .nil (some C157) .nil) none .nil) (some C61) (.node (.node (.node .nil (some C317) .nil) (some C189) .nil) (some C125) .nil)))))) none (.node (.node (.node (.node (.node (.node (.node .nil (some C128) .nil) (some C64) (.node (.node .nil (some C320) .nil) none .nil)) (some C32) (.node (.node .nil (some C160) .nil) (some C96) (.node .nil (some C224) .nil))) none (.node (.node (.node (.node .nil (some C272) .nil) (some C144) .nil) none .nil) none (.node (.node (.node .nil (some C304) .nil) (some C176) .nil) none .nil))) none (.node (.node (.node (.node (.node .nil (some C264) .nil) (some C136) .nil) (some C72) .nil) (some C40) (.node (.node (.node .nil (some C296) .nil) (some C168) .nil) none .nil)) none (.node (.node (.node .nil (some C152) .nil) none .nil) none .nil))) none (.node (.node (.node (.node .nil (some C68) .nil) none (.node (.node .nil (some C164) .nil) (some C100) (.node .nil (some C228) .nil))) none (.node (.node (.node (.node .nil (some C276) .nil) none .nil) (some C84) .nil) (some C52) (.node (.node .nil (some C180) .nil) none .nil))) (some C12) (.node (.node (.node (.node (.node .nil (some C268) .nil) (some C140) .nil) (some C76) .nil) (some C44) (.node (.node (.node .nil (some C300) .nil) none .nil) (some C108) .nil)) none (.node (.node (.node .nil (some C156) .nil) none .nil) none (.node (.node .nil (some C188) .nil) (some C124) .nil))))) none (.node (.node (.node (.node (.node .nil (some C66) (.node (.node .nil (some C322) .nil) none .nil)) (some C34) (.node .nil (some C98) (.node .nil (some C226) .nil))) none (.node (.node (.node (.node .nil (some C274) .nil) none .nil) none (.node (.node .nil (some C338) .nil) none .nil)) (some C50) (.node (.node (.node .nil (some C306) .nil) (some C178) .nil) none .nil))) none (.node (.node (.node (.node (.node .nil (some C266) .nil) (some C138) .nil) none .nil) (some C42) (.node (.node (.node .nil (some C298) .nil) none .nil) none (.node .nil (some C234) .nil))) (some C26) (.node .nil none (.node (.node .nil (some C186) .nil) (some C122) .nil)))) (some C6) (.node (.node (.node (.node .nil (some C70) .nil) none (.node .nil (some C102) (.node .nil (some C230) .nil))) (some C22) (.node (.node (.node (.node .nil (some C278) .nil) none .nil) (some C86) (.node .nil (some C214) .nil)) (some C54) .nil)) (some C14) (.node (.node (.node (.node (.node .nil (some C270) .nil) (some C142) .nil) (some C78) (.node (.node .nil (some C334) .nil) none .nil)) (some C46) (.node (.node (.node .nil (some C302) .nil) (some C174) .nil) (some C110) .nil)) (some C30) (.node (.node (.node .nil (some C158) .nil) none (.node .nil (some C222) .nil)) (some C62) (.node (.node (.node .nil (some C318) .nil) none .nil) (some C126) .nil)))))))
def fs (f : Nat) : Option AFunc := Tr.get T f
def ms (t : Nat) (n : String) : Option Nat := none
end Ir
end Go.Proofs.YtmnolnoeibhjgaaGreat
