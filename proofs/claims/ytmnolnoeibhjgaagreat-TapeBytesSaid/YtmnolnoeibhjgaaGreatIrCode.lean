/-
  What the program's functions are in Ads, printed by a program (the rest).
-/
import Derived.Test.YtmnolnoeibhjgaaGreatIrCodeA
set_option linter.unusedVariables false
set_option maxRecDepth 100000
namespace Go.Proofs.YtmnolnoeibhjgaaGreat
open Go Ads
namespace Ir
def C317 : AFunc := ⟨29, [.tmp 4, .tmp 5],
(.seq (.ops [zP 4 .mov [.c (.int .i64 0)],
zP 5 .mov [.c (.int .i64 0)]])
(.seq (.seq (.ops [zM 8 0,
zM 9 1,
⟨some 10, none, .a (.bslice [(.int .i64 0)] 2 1 [0, 1]), [.t 8, .t 9]⟩,
⟨some 11, none, .call, [.c (.func (.func 299) [] []), .t 10]⟩,
zP 12 .not [.t 11]])
(.cond (.t 12)
(.seq (.ops [zP 4 .mov [.c (.int .i64 0)],
zP 5 .mov [.c (.int .i64 2)]])
.ret)
.skip))
(.seq (.ops [zM 14 0,
zP 15 (.conv .u64) [.t 14],
zM 16 1,
zP 17 (.conv .u64) [.t 16],
⟨some 18, none, .call, [.c (.func (.func 337) [] []), .t 15, .t 17]⟩,
zM 13 18,
zP 19 (.ext 0) [.t 13],
zP 20 (.ext 1) [.t 13],
zM 6 19,
zM 7 20])
(.seq (.seq (.ops [zM 21 6,
zP 22 (.bin .gtr) [.t 21, .c (.int .u64 0)],
zM 23 22,
zMg 24 7 23 false,
zPg 25 (.bin .gtr) [.t 24, .c (.int .u64 1099511627776)] 23 false,
zP 26 .pick [.t 23, .c (.bool true), .t 25]])
(.cond (.t 26)
(.seq (.ops [zP 4 .mov [.c (.int .i64 0)],
zP 5 .mov [.c (.int .i64 10)]])
.ret)
.skip))
(.seq (.ops [zM 27 7,
zP 28 (.conv .i64) [.t 27],
zM 4 28,
zP 5 .mov [.c (.int .i64 0)]])
.ret)))))⟩
abbrev f_ticks_Mul : Nat := 317
abbrev C_ticks_Mul : AFunc := C317
def C318 : AFunc := ⟨16, [.tmp 3],
(.seq (.ops [⟨some 2, none, .a .box, [.t 0]⟩,
zP 3 .mov [.c (.int .i64 0)]])
(.seq (.seq (.ops [zL 4 1,
zF 5 2 1,
zL 6 5,
zP 7 (.bin .lss) [.t 4, .t 6]])
(.cond (.t 7)
(.seq (.ops [zP 3 .mov [.c (.int .i64 0)]])
.ret)
.skip))
(.seq (.ops [zL 8 1,
zF 9 2 1,
zL 10 9,
zP 11 (.bin .sub) [.t 8, .t 10],
zF 12 2 0,
zL 13 12,
zP 14 (.bin .quo) [.t 11, .t 13],
zP 15 (.bin .add) [.c (.int .i64 1), .t 14],
zM 3 15])
.ret)))⟩
abbrev f_demand_Of_1 : Nat := 318
abbrev C_demand_Of_1 : AFunc := C318
def C319 : AFunc := ⟨27, [.cell 4 2 true, .tmp 5],
(.seq (.ops [⟨some 4, none, .a (.alloc [(.int .i64 0), (.int .i64 0)]), []⟩,
zP 5 .mov [.c (.bool false)]])
(.seq (.ops [zM 7 0,
zM 8 1,
zP 9 (.build [(.int .i64 0), (.int .i64 0)] [(0, 1), (1, 1)]) [.t 7, .t 8],
zP 10 (.build [(.int .i64 0), (.int .i64 0)] [(0, 2)]) [.t 9],
⟨some 6, none, .a (.alloc [(.int .i64 0), (.int .i64 0)]), []⟩,
zS 2 [.t 6, .t 10]])
(.seq (.ops [⟨some 11, none, .r (.loadN 2), [.t 6]⟩,
zM 12 0,
zP 13 (.bin .leq) [.c (.int .i64 1), .t 12],
zM 14 13,
zMg 15 0 14 true,
zPg 16 (.bin .leq) [.t 15, .c (.int .i64 64)] 14 true,
zP 17 .pick [.t 14, .t 16, .c (.bool false)],
zM 18 17,
zMg 19 1 18 true,
zPg 20 (.bin .leq) [.c (.int .i64 1), .t 19] 18 true,
zP 21 .pick [.t 18, .t 20, .c (.bool false)],
zM 22 21,
zMg 23 1 22 true,
zMg 24 0 22 true,
zPg 25 (.bin .leq) [.t 23, .t 24] 22 true,
zP 26 .pick [.t 22, .t 25, .c (.bool false)],
zS 2 [.t 4, .t 11],
zM 5 26])
.ret)))⟩
abbrev f_supply_of : Nat := 319
abbrev C_supply_of : AFunc := C319
def C320 : AFunc := ⟨40, [.tmp 4],
(.seq (.ops [⟨some 2, none, .a .box, [.t 0]⟩,
zP 4 .mov [.c (.int .i64 0)]])
(.seq (.ops [zF 7 2 0,
⟨some 8, none, .r (.loadN 2), [.t 7]⟩,
⟨some 9, none, .call, [.c (.func (.func 338) [] []), .t 8]⟩,
zM 5 9])
(.seq (.seq (.ops [zM 10 1,
zM 11 5,
zP 12 (.bin .lss) [.t 10, .t 11]])
(.cond (.t 12)
(.seq (.ops [zP 4 .mov [.c (.int .i64 0)]])
.ret)
.skip))
(.seq (.ops [zM 13 1,
zM 14 5,
zP 15 (.bin .sub) [.t 13, .t 14],
zF 16 2 0,
zF 17 16 0,
zL 18 17,
⟨some 19, none, .call, [.c (.func (.func 339) [] []), .t 15, .t 18]⟩,
zM 6 19])
(.seq (.dops [zM 20 6,
zF 21 2 0,
zF 22 21 1,
zL 23 22,
zP 24 (.bin .mul) [.t 20, .t 23],
zM 25 1,
zM 26 5,
zP 27 (.bin .sub) [.t 25, .t 26],
zM 28 6,
zF 29 2 0,
zF 30 29 0,
zL 31 30,
zP 32 (.bin .mul) [.t 28, .t 31],
zP 33 (.bin .sub) [.t 27, .t 32],
zF 34 2 0,
⟨some 35, none, .r (.loadN 2), [.t 34]⟩,
⟨some 36, none, .call, [.c (.func (.func 338) [] []), .t 35]⟩,
zP 37 (.bin .sub) [.t 33, .t 36],
zP 38 .mx [.c (.int .i64 0), .t 37],
zP 39 (.bin .add) [.t 24, .t 38],
zM 4 39] [[], [], [], [0, 17], [], [], [], [], [], [], [], [0, 17], [], [], [], [], [], [], [], [], []])
.ret)))))⟩
abbrev f_supply_server_gives : Nat := 320
abbrev C_supply_server_gives : AFunc := C320
def L_slices_insertionSortCmpFunc_rank_one_1 : AC := (.seq (.seq (.dops [zM 18 9,
zM 19 1,
zP 20 (.bin .gtr) [.t 18, .t 19],
zM 21 20,
zMg 22 3 21 true,
zMg 23 0 21 true,
zMg 24 9 21 true,
zPg 25 (.iaddrS 2) [.t 23, .t 24] 21 true,
⟨some 26, some (21, true), .r (.loadN 2), [.t 25]⟩,
zMg 27 0 21 true,
zMg 28 9 21 true,
zPg 29 (.bin .sub) [.t 28, .c (.int .i64 1)] 21 true,
zPg 30 (.iaddrS 2) [.t 27, .t 29] 21 true,
⟨some 31, some (21, true), .r (.loadN 2), [.t 30]⟩,
⟨some 32, some (21, true), .call, [.t 22, .t 26, .t 31]⟩,
zPg 33 (.bin .lss) [.t 32, .c (.int .i64 0)] 21 true,
zP 34 .pick [.t 21, .t 33, .c (.bool false)]] [[], [], [], [], [], [], [], [], [], [], [], [], [], [], [], [], []])
(.cond (.t 34)
.skip
(.exit 2)))
(.seq (.block 3 (.dops [zM 37 0,
zM 38 9,
zM 39 0,
zM 40 9,
zP 41 (.bin .sub) [.t 40, .c (.int .i64 1)],
zM 42 0,
zM 43 9,
zP 44 (.bin .sub) [.t 43, .c (.int .i64 1)],
zP 45 (.iaddrS 2) [.t 42, .t 44],
⟨some 46, none, .r (.loadN 2), [.t 45]⟩,
zM 47 0,
zM 48 9,
zP 49 (.iaddrS 2) [.t 47, .t 48],
⟨some 50, none, .r (.loadN 2), [.t 49]⟩,
zP 51 (.iaddrS 2) [.t 37, .t 38],
zS 2 [.t 51, .t 46],
zP 52 (.iaddrS 2) [.t 39, .t 41],
zS 2 [.t 52, .t 50]] [[], [], [], [], [], [], [], [], [], [], [], [], [], [], [], [], [], []]))
(.ops [zM 35 9,
zP 36 (.bin .sub) [.t 35, .c (.int .i64 1)],
zM 9 36])))
def L_slices_insertionSortCmpFunc_rank_one_0 : AC := (.seq (.seq (.ops [zM 12 8,
zM 13 2,
zP 14 (.bin .lss) [.t 12, .t 13]])
(.cond (.t 14)
.skip
(.exit 0)))
(.seq (.block 1 (.seq (.ops [zM 17 8,
zM 9 17])
(.block 2 (.loop L_slices_insertionSortCmpFunc_rank_one_1))))
(.ops [zM 15 8,
zP 16 (.bin .add) [.t 15, .c (.int .i64 1)],
zM 8 16])))
def C322 : AFunc := ⟨53, [],
(.seq (.ops [zM 10 1,
zP 11 (.bin .add) [.t 10, .c (.int .i64 1)],
zM 8 11])
(.block 0 (.loop L_slices_insertionSortCmpFunc_rank_one_0)))⟩
abbrev f_slices_insertionSortCmpFunc_rank_one : Nat := 322
abbrev C_slices_insertionSortCmpFunc_rank_one : AFunc := C322
def C331 : AFunc := ⟨25, [.tmp 2],
(.seq (.ops [zP 2 .mov [.c (.int .i64 0)]])
(.seq (.seq (.ops [zM 3 0,
zP 4 (.bin .geq) [.t 3, .c (.int .u64 4294967296)]])
(.cond (.t 4)
(.seq (.ops [zM 5 0,
zP 6 (.bin .shr) [.t 5, .c (.int .u64 32)],
zM 0 6])
(.ops [zP 2 .mov [.c (.int .i64 32)]]))
.skip))
(.seq (.seq (.ops [zM 7 0,
zP 8 (.bin .geq) [.t 7, .c (.int .u64 65536)]])
(.cond (.t 8)
(.seq (.ops [zM 9 0,
zP 10 (.bin .shr) [.t 9, .c (.int .u64 16)],
zM 0 10])
(.ops [zM 11 2,
zP 12 (.bin .add) [.t 11, .c (.int .i64 16)],
zM 2 12]))
.skip))
(.seq (.seq (.ops [zM 13 0,
zP 14 (.bin .geq) [.t 13, .c (.int .u64 256)]])
(.cond (.t 14)
(.seq (.ops [zM 15 0,
zP 16 (.bin .shr) [.t 15, .c (.int .u64 8)],
zM 0 16])
(.ops [zM 17 2,
zP 18 (.bin .add) [.t 17, .c (.int .i64 8)],
zM 2 18]))
.skip))
(.seq (.ops [zM 19 2,
zM 20 0,
zP 21 (.conv .u8) [.t 20],
zP 22 .idxS [.c (.str [0, 1, 2, 2, 3, 3, 3, 3, 4, 4, 4, 4, 4, 4, 4, 4, 5, 5, 5, 5, 5, 5, 5, 5, 5, 5, 5, 5, 5, 5, 5, 5, 6, 6, 6, 6, 6, 6, 6, 6, 6, 6, 6, 6, 6, 6, 6, 6, 6, 6, 6, 6, 6, 6, 6, 6, 6, 6, 6, 6, 6, 6, 6, 6, 7, 7, 7, 7, 7, 7, 7, 7, 7, 7, 7, 7, 7, 7, 7, 7, 7, 7, 7, 7, 7, 7, 7, 7, 7, 7, 7, 7, 7, 7, 7, 7, 7, 7, 7, 7, 7, 7, 7, 7, 7, 7, 7, 7, 7, 7, 7, 7, 7, 7, 7, 7, 7, 7, 7, 7, 7, 7, 7, 7, 7, 7, 7, 7, 8, 8, 8, 8, 8, 8, 8, 8, 8, 8, 8, 8, 8, 8, 8, 8, 8, 8, 8, 8, 8, 8, 8, 8, 8, 8, 8, 8, 8, 8, 8, 8, 8, 8, 8, 8, 8, 8, 8, 8, 8, 8, 8, 8, 8, 8, 8, 8, 8, 8, 8, 8, 8, 8, 8, 8, 8, 8, 8, 8, 8, 8, 8, 8, 8, 8, 8, 8, 8, 8, 8, 8, 8, 8, 8, 8, 8, 8, 8, 8, 8, 8, 8, 8, 8, 8, 8, 8, 8, 8, 8, 8, 8, 8, 8, 8, 8, 8, 8, 8, 8, 8, 8, 8, 8, 8, 8, 8, 8, 8, 8, 8, 8, 8, 8, 8, 8, 8, 8, 8, 8, 8, 8, 8, 8, 8, 8, 8]), .t 21],
zP 23 (.conv .i64) [.t 22],
zP 24 (.bin .add) [.t 19, .t 23],
zM 2 24])
.ret)))))⟩
abbrev f_math_bits_Len64 : Nat := 331
abbrev C_math_bits_Len64 : AFunc := C331
def C333 : AFunc := ⟨9, [.tmp 3],
(.seq (.ops [⟨some 2, none, .a .box, [.t 0]⟩,
zP 3 .mov [.c (.bool false)]])
(.seq (.ops [⟨some 4, none, .r (.loadN 8), [.t 2]⟩,
zF 5 1 1,
zL 6 5,
⟨some 7, none, .call, [.c (.func (.func 334) [] []), .t 4, .t 6]⟩,
zP 8 .not [.t 7],
zM 3 8])
.ret))⟩
abbrev f_delay_Check_1 : Nat := 333
abbrev C_delay_Check_1 : AFunc := C333
def C334 : AFunc := ⟨56, [.tmp 4],
(.seq (.ops [⟨some 2, none, .a .box, [.t 0]⟩,
zP 4 .mov [.c (.bool false)]])
(.seq (.block 0 (.seq (.seq (.ops [zF 6 2 4,
zL 7 6,
zP 8 (.bin .lss) [.t 7, .c (.int .i64 0)],
zM 5 8])
(.cond (.t 5)
.skip
(.seq (.ops [zF 9 2 4,
zL 10 9,
zF 11 2 2,
zL 12 11,
zP 13 (.bin .gtr) [.t 10, .t 12],
zM 5 13])
(.cond (.t 5)
.skip
(.seq (.ops [zF 14 2 5,
zL 15 14,
zP 16 (.bin .lss) [.t 15, .c (.int .i64 0)],
zM 5 16])
(.cond (.t 5)
.skip
(.ops [zF 17 2 5,
zL 18 17,
zP 19 (.bin .gtr) [.t 18, .c (.int .i64 4)],
zM 5 19])))))))
(.cond (.t 5)
(.seq (.ops [zP 4 .mov [.c (.bool false)]])
.ret)
(.seq (.ops [zF 21 2 5,
zL 22 21,
zP 23 (.bin .eql) [.t 22, .c (.int .i64 0)],
zM 20 23])
(.cond (.t 20)
(.seq (.ops [zF 24 2 6,
zL 25 24,
zP 26 (.bin .eql) [.t 25, .c (.int .i64 0)],
zM 27 26,
zFg 28 2 7 27 true,
zLg 29 28 27 true,
zPg 30 (.bin .eql) [.t 29, .c (.int .i64 0)] 27 true,
zP 31 .pick [.t 27, .t 30, .c (.bool false)],
zM 4 31])
.ret)
.skip)))))
(.seq (.dops [zF 32 2 6,
zL 33 32,
zP 34 (.bin .leq) [.c (.int .i64 1), .t 33],
zM 35 34,
zFg 36 2 6 35 true,
zLg 37 36 35 true,
zMg 38 1 35 true,
zPg 39 (.bin .leq) [.t 37, .t 38] 35 true,
zP 40 .pick [.t 35, .t 39, .c (.bool false)],
zM 41 40,
zFg 42 2 7 41 true,
zLg 43 42 41 true,
zPg 44 (.bin .leq) [.c (.int .i64 1), .t 43] 41 true,
zP 45 .pick [.t 41, .t 44, .c (.bool false)],
zM 46 45,
zFg 47 2 7 46 true,
zLg 48 47 46 true,
zFg 49 2 2 46 true,
zLg 50 49 46 true,
zFg 51 2 6 46 true,
zLg 52 51 46 true,
zPg 53 (.bin .quo) [.t 50, .t 52] 46 true,
zPg 54 (.bin .leq) [.t 48, .t 53] 46 true,
zP 55 .pick [.t 46, .t 54, .c (.bool false)],
zM 4 55] [[], [], [], [], [], [], [], [], [], [], [], [], [], [], [], [], [], [], [], [], [], [], [], [], []])
.ret)))⟩
abbrev f_delay_may : Nat := 334
abbrev C_delay_may : AFunc := C334
def C337 : AFunc := ⟨51, [.tmp 4, .tmp 5],
(.seq (.ops [zP 4 .mov [.c (.int .u64 0)],
zP 5 .mov [.c (.int .u64 0)]])
(.seq (.ops [zM 14 0,
zP 15 (.bin .and) [.t 14, .c (.int .u64 4294967295)],
zM 6 15])
(.seq (.ops [zM 16 0,
zP 17 (.bin .shr) [.t 16, .c (.int .u64 32)],
zM 7 17])
(.seq (.ops [zM 18 1,
zP 19 (.bin .and) [.t 18, .c (.int .u64 4294967295)],
zM 8 19])
(.seq (.ops [zM 20 1,
zP 21 (.bin .shr) [.t 20, .c (.int .u64 32)],
zM 9 21])
(.seq (.ops [zM 22 6,
zM 23 8,
zP 24 (.bin .mul) [.t 22, .t 23],
zM 10 24])
(.seq (.ops [zM 25 7,
zM 26 8,
zP 27 (.bin .mul) [.t 25, .t 26],
zM 28 10,
zP 29 (.bin .shr) [.t 28, .c (.int .u64 32)],
zP 30 (.bin .add) [.t 27, .t 29],
zM 11 30])
(.seq (.ops [zM 31 11,
zP 32 (.bin .and) [.t 31, .c (.int .u64 4294967295)],
zM 12 32])
(.seq (.ops [zM 33 11,
zP 34 (.bin .shr) [.t 33, .c (.int .u64 32)],
zM 13 34])
(.seq (.ops [zM 35 12,
zM 36 6,
zM 37 9,
zP 38 (.bin .mul) [.t 36, .t 37],
zP 39 (.bin .add) [.t 35, .t 38],
zM 12 39])
(.seq (.ops [zM 40 7,
zM 41 9,
zP 42 (.bin .mul) [.t 40, .t 41],
zM 43 13,
zP 44 (.bin .add) [.t 42, .t 43],
zM 45 12,
zP 46 (.bin .shr) [.t 45, .c (.int .u64 32)],
zP 47 (.bin .add) [.t 44, .t 46],
zM 4 47])
(.seq (.ops [zM 48 0,
zM 49 1,
zP 50 (.bin .mul) [.t 48, .t 49],
zM 5 50])
.ret))))))))))))⟩
abbrev f_math_bits_Mul64 : Nat := 337
abbrev C_math_bits_Mul64 : AFunc := C337
def C338 : AFunc := ⟨8, [.tmp 2],
(.seq (.ops [⟨some 1, none, .a .box, [.t 0]⟩,
zP 2 .mov [.c (.int .i64 0)]])
(.seq (.ops [zF 3 1 0,
zL 4 3,
zF 5 1 1,
zL 6 5,
zP 7 (.bin .sub) [.t 4, .t 6],
zM 2 7])
.ret))⟩
abbrev f_supply_pair_idle : Nat := 338
abbrev C_supply_pair_idle : AFunc := C338
def C339 : AFunc := ⟨14, [.tmp 4],
(.seq (.ops [zP 4 .mov [.c (.int .i64 0)]])
(.seq (.ops [zM 8 0,
zM 9 1,
⟨some 10, none, .call, [.c (.func (.func 345) [] []), .t 8, .t 9]⟩,
zM 7 10,
zP 11 (.ext 0) [.t 7],
zP 12 (.ext 1) [.t 7],
zM 5 11,
zM 6 12])
(.seq (.ops [zM 13 5,
zM 4 13])
.ret)))⟩
abbrev f_supply_over : Nat := 339
abbrev C_supply_over : AFunc := C339
def C345 : AFunc := ⟨18, [.tmp 4, .tmp 5],
(.seq (.ops [zP 4 .mov [.c (.int .i64 0)],
zP 5 .mov [.c (.int .i64 0)]])
(.seq (.seq (.ops [zM 6 0,
zM 7 1,
⟨some 8, none, .a (.bslice [(.int .i64 0)] 2 1 [0, 1]), [.t 6, .t 7]⟩,
⟨some 9, none, .call, [.c (.func (.func 299) [] []), .t 8]⟩,
zP 10 .not [.t 9],
zM 11 10,
zMg 12 1 11 false,
zPg 13 (.bin .eql) [.t 12, .c (.int .i64 0)] 11 false,
zP 14 .pick [.t 11, .c (.bool true), .t 13]])
(.cond (.t 14)
(.seq (.ops [zP 4 .mov [.c (.int .i64 0)],
zP 5 .mov [.c (.int .i64 2)]])
.ret)
.skip))
(.seq (.ops [zM 15 0,
zM 16 1,
zP 17 (.bin .quo) [.t 15, .t 16],
zM 4 17,
zP 5 .mov [.c (.int .i64 0)]])
.ret)))⟩
abbrev f_ticks_Div : Nat := 345
abbrev C_ticks_Div : AFunc := C345
def T : Tr AFunc := (.node (.node (.node (.node (.node (.node (.node (.node .nil (some C127) .nil) (some C63) (.node (.node .nil (some C319) .nil) none .nil)) (some C31) (.node (.node .nil (some C159) .nil) (some C95) (.node .nil (some C223) .nil))) (some C15) (.node (.node (.node (.node .nil (some C271) .nil) (some C143) .nil) none .nil) (some C47) (.node (.node (.node .nil (some C303) .nil) (some C175) .nil) (some C111) .nil))) (some C7) (.node (.node (.node .nil (some C71) .nil) (some C39) (.node (.node (.node .nil (some C295) .nil) (some C167) .nil) (some C103) (.node .nil (some C231) .nil))) (some C23) (.node (.node (.node .nil (some C151) .nil) (some C87) .nil) (some C55) (.node (.node .nil (some C183) .nil) (some C119) .nil)))) (some C3) (.node (.node (.node (.node .nil (some C67) .nil) (some C35) (.node .nil (some C99) (.node .nil (some C227) .nil))) (some C19) (.node (.node (.node (.node .nil (some C275) .nil) none .nil) (some C83) (.node (.node .nil (some C339) .nil) none .nil)) (some C51) (.node (.node (.node .nil (some C307) .nil) (some C179) .nil) none .nil))) (some C11) (.node (.node (.node (.node (.node .nil (some C267) .nil) none .nil) (some C75) (.node (.node .nil (some C331) .nil) none .nil)) (some C43) (.node (.node (.node .nil (some C299) .nil) (some C171) .nil) (some C107) .nil)) (some C27) (.node .nil (some C59) (.node (.node (.node .nil (some C315) .nil) (some C187) .nil) (some C123) .nil))))) none (.node (.node (.node (.node (.node .nil (some C65) .nil) (some C33) (.node .nil (some C97) (.node .nil (some C225) .nil))) (some C17) (.node (.node (.node (.node .nil (some C273) .nil) none .nil) (some C81) (.node (.node .nil (some C337) .nil) none .nil)) (some C49) (.node (.node (.node .nil (some C305) .nil) (some C177) .nil) none .nil))) (some C9) (.node (.node (.node (.node .nil (some C137) .nil) none .nil) (some C41) (.node (.node (.node .nil (some C297) .nil) none .nil) (some C105) .nil)) (some C25) (.node (.node (.node .nil (some C153) .nil) (some C89) (.node (.node .nil (some C345) .nil) none .nil)) (some C57) (.node (.node .nil (some C185) .nil) (some C121) .nil)))) (some C5) (.node (.node (.node (.node .nil (some C69) .nil) (some C37) (.node .nil none (.node .nil (some C229) .nil))) (some C21) (.node (.node (.node (.node .nil (some C277) .nil) (some C149) .nil) (some C85) .nil) none .nil)) (some C13) (.node (.node (.node (.node (.node .nil (some C269) .nil) (some C141) .nil) (some C77) (.node (.node .nil (some C333) .nil) none .nil)) (some C45) (.node (.node (.node .nil (some C301) .nil) none .nil) (some C109) (.node .nil (some C237) .nil))) (some C29) (.node (.node (.node .nil (some C157) .nil) none .nil) (some C61) (.node (.node (.node .nil (some C317) .nil) (some C189) .nil) (some C125) .nil)))))) none (.node (.node (.node (.node (.node (.node (.node .nil (some C128) .nil) (some C64) (.node (.node .nil (some C320) .nil) none .nil)) (some C32) (.node (.node .nil (some C160) .nil) (some C96) (.node .nil (some C224) .nil))) (some C16) (.node (.node (.node (.node .nil (some C272) .nil) (some C144) .nil) none .nil) (some C48) (.node (.node (.node .nil (some C304) .nil) (some C176) .nil) none .nil))) (some C8) (.node (.node (.node (.node (.node .nil (some C264) .nil) (some C136) .nil) (some C72) .nil) (some C40) (.node (.node (.node .nil (some C296) .nil) (some C168) .nil) none .nil)) (some C24) (.node (.node (.node .nil (some C152) .nil) none .nil) (some C56) .nil))) (some C4) (.node (.node (.node (.node .nil (some C68) .nil) (some C36) (.node (.node .nil (some C164) .nil) (some C100) (.node .nil (some C228) .nil))) (some C20) (.node (.node (.node (.node .nil (some C276) .nil) none .nil) (some C84) .nil) (some C52) (.node (.node .nil (some C180) .nil) none .nil))) (some C12) (.node (.node (.node (.node (.node .nil (some C268) .nil) (some C140) .nil) (some C76) .nil) (some C44) (.node (.node (.node .nil (some C300) .nil) none .nil) (some C108) .nil)) (some C28) (.node (.node (.node .nil (some C156) .nil) none .nil) (some C60) (.node (.node .nil (some C188) .nil) (some C124) .nil))))) none (.node (.node (.node (.node (.node .nil (some C66) (.node (.node .nil (some C322) .nil) none .nil)) (some C34) (.node .nil (some C98) (.node .nil (some C226) .nil))) (some C18) (.node (.node (.node (.node .nil (some C274) .nil) none .nil) none (.node (.node .nil (some C338) .nil) none .nil)) (some C50) (.node (.node (.node .nil (some C306) .nil) (some C178) .nil) none .nil))) (some C10) (.node (.node (.node (.node (.node .nil (some C266) .nil) (some C138) .nil) (some C74) .nil) (some C42) (.node (.node (.node .nil (some C298) .nil) none .nil) none (.node .nil (some C234) .nil))) (some C26) (.node .nil (some C58) (.node (.node .nil (some C186) .nil) (some C122) .nil)))) none (.node (.node (.node (.node .nil (some C70) .nil) (some C38) (.node .nil (some C102) (.node .nil (some C230) .nil))) (some C22) (.node (.node (.node (.node .nil (some C278) .nil) none .nil) (some C86) (.node .nil (some C214) .nil)) (some C54) .nil)) (some C14) (.node (.node (.node (.node (.node .nil (some C270) .nil) (some C142) .nil) (some C78) (.node (.node .nil (some C334) .nil) none .nil)) (some C46) (.node (.node (.node .nil (some C302) .nil) (some C174) .nil) (some C110) .nil)) (some C30) (.node (.node (.node .nil (some C158) .nil) none (.node .nil (some C222) .nil)) (some C62) (.node (.node (.node .nil (some C318) .nil) none .nil) (some C126) .nil)))))))
def fs (f : Nat) : Option AFunc := Tr.get T f
def ms (t : Nat) (n : String) : Option Nat := none
end Ir
end Go.Proofs.YtmnolnoeibhjgaaGreat
