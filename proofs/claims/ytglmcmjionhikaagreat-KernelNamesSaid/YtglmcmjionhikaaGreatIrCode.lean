/-
  What the program's functions are in Ads, printed by a program (the rest).
-/
import Derived.Test.YtglmcmjionhikaaGreatIrCodeA
set_option linter.unusedVariables false
set_option maxRecDepth 100000
namespace Go.Proofs.YtglmcmjionhikaaGreat
open Go Ads
namespace Ir
def C190 : AFunc := ⟨45, [.tmp 4],
(.seq (.ops [zP 4 .mov [.c (.int .i64 0)]])
(.seq (.ops [zM 8 0,
⟨some 9, none, .call, [.c (.func (.func 170) [] []), .t 8]⟩,
 zM 7 9,
 zP 10 (.ext 0) [.t 7],
 zP 11 (.ext 1) [.t 7],
⟨some 5, none, .a (.alloc [(.int .i64 0), (.int .i64 0), (.str [])]), []⟩,
 zS 3 [.t 5, .t 10],
 zM 6 11])
(.seq (.block 0 (.seq (.ops [zM 13 6,
 zP 14 .not [.t 13],
 zM 12 14])
(.cond (.t 12)
(.seq (.ops [zP 4 .mov [.c (.int .i64 0)]])
.ret)
(.seq (.ops [zM 16 1,
 zM 17 0,
 zN 18 17,
 zF 19 18 9,
 zL 20 19,
 zP 21 (.bin .geq) [.t 16, .t 20],
 zM 15 21])
(.cond (.t 15)
(.seq (.ops [zP 4 .mov [.c (.int .i64 3)]])
.ret)
(.seq (.dops [zM 23 0,
 zN 24 23,
 zF 25 24 10,
 zL 26 25,
 zM 27 0,
 zN 28 27,
 zF 29 28 1,
 zF 30 29 2,
 zL 31 30,
 zP 32 (.bin .geq) [.t 26, .t 31],
 zM 33 32,
 zMg 34 0 33 true,
 zNg 35 34 33 true,
 zFg 36 35 0 33 true,
 zLg 37 36 33 true,
⟨some 38, some (33, true), .call, [.c (.func (.func 243) [] []), .t 37]⟩,
 zPg 39 (.bin .gtr) [.t 38, .c (.int .i64 0)] 33 true,
 zP 40 .pick [.t 33, .t 39, .c (.bool false)],
 zM 22 40] [[], [], [], [], [], [], [], [], [], [], [], [], [], [], [], [], [], [], []])
(.cond (.t 22)
(.seq (.ops [zP 4 .mov [.c (.int .i64 1)]])
.ret)
(.seq (.ops [zM 42 0,
⟨some 43, none, .r (.loadN 3), [.t 5]⟩,
⟨some 44, none, .call, [.c (.func (.func 244) [] []), .t 42, .t 43]⟩,
 zM 41 44])
(.cond (.t 41)
(.seq (.ops [zP 4 .mov [.c (.int .i64 2)]])
.ret)
.skip)))))))))
(.seq (.ops [zP 4 .mov [.c (.int .i64 0)]])
.ret))))⟩
abbrev f_job_Job_Fault : Nat := 190
abbrev C_job_Job_Fault : AFunc := C190
def L_health_Monitor_Tell_0 : AC := (.seq (.ops [zP 40 (.bin .lss) [.t 39, .c (.int .i64 5)]])
(.seq (.cond (.t 40)
.skip
(.exit 0))
(.seq (.block 1 (.seq (.ops [zP 41 (.idxA 1 5 false) [.t 38, .t 39],
 zM 11 41])
(.ops [zM 42 9,
 zM 43 11,
 zP 44 (.bin .add) [.t 42, .t 43],
 zM 9 44])))
(.ops [zP 45 (.bin .add) [.t 39, .c (.int .i64 1)],
 zM 39 45]))))
def C191 : AFunc := ⟨67, [.tmp 6, .tmp 7],
(.seq (.ops [zP 6 .mov [.c (.int .i64 0)],
 zP 7 .mov [.c (.int .i64 0)]])
(.seq (.seq (.ops [zM 13 0,
 zM 14 1,
 zM 15 2,
⟨some 16, none, .call, [.c (.func (.func 66) [] []), .t 13, .t 14, .t 15]⟩,
 zM 8 16])
(.seq (.ops [zM 17 8,
 zP 18 (.bin .neq) [.t 17, .c (.int .i64 0)]])
(.cond (.t 18)
(.seq (.ops [zM 19 8,
 zP 6 .mov [.c (.int .i64 0)],
 zM 7 19])
.ret)
.skip)))
(.seq (.dops [zM 20 0,
 zM 21 1,
 zM 22 2,
 zN 23 20,
 zF 24 23 21,
 zP 25 (.iaddrA 5 4) [.t 24, .t 21],
 zP 26 (.iaddrA 1 5) [.t 25, .t 22],
 zL 27 26,
 zP 28 (.bin .add) [.t 27, .c (.int .i64 1)],
 zN 29 20,
 zF 30 29 21,
 zP 31 (.iaddrA 5 4) [.t 30, .t 21],
 zP 32 (.iaddrA 1 5) [.t 31, .t 22],
 zS 1 [.t 32, .t 28]] [[], [], [], [], [], [], [], [], [], [], [], [], [], []])
(.seq (.ops [zP 9 .mov [.c (.int .i64 0)]])
(.seq (.seq (.ops [zM 33 0,
 zM 34 1,
 zN 35 33,
 zF 36 35 21,
 zP 37 (.iaddrA 5 4) [.t 36, .t 34],
⟨some 38, none, .r (.loadN 5), [.t 37]⟩,
 zP 39 .mov [.c (.int .i64 0)]])
(.block 0 (.loop L_health_Monitor_Tell_0)))
(.seq (.seq (.ops [zM 46 0,
 zM 47 1,
 zN 48 46,
 zF 49 48 41,
 zP 50 (.iaddrA 1 4) [.t 49, .t 47],
 zL 51 50,
 zM 12 51])
(.seq (.ops [zM 52 12,
 zP 53 (.bin .gtr) [.t 52, .c (.int .i64 0)],
 zM 54 53,
 zMg 55 9 54 true,
 zMg 56 12 54 true,
 zPg 57 (.bin .gtr) [.t 55, .t 56] 54 true,
 zP 58 .pick [.t 54, .t 57, .c (.bool false)]])
(.cond (.t 58)
(.seq (.ops [zP 6 .mov [.c (.int .i64 3)],
 zP 7 .mov [.c (.int .i64 0)]])
.ret)
.skip)))
(.seq (.ops [zM 59 0,
 zM 60 1,
 zM 61 2,
 zN 62 59,
 zF 63 62 1,
 zP 64 (.iaddrA 5 4) [.t 63, .t 60],
 zP 65 (.iaddrA 1 5) [.t 64, .t 61],
 zL 66 65,
 zM 6 66,
 zP 7 .mov [.c (.int .i64 0)]])
.ret)))))))⟩
abbrev f_health_Monitor_Tell : Nat := 191
abbrev C_health_Monitor_Tell : AFunc := C191
def C192 : AFunc := ⟨17, [.tmp 2, .tmp 3],
(.seq (.ops [zP 2 .mov [.c (.int .i64 0)],
 zP 3 .mov [.c (.bool false)]])
(.seq (.seq (.ops [zM 4 0,
⟨some 5, none, .call, [.c (.func (.func 245) [] []), .t 4]⟩])
(.cond (.t 5)
(.seq (.ops [zP 2 .mov [.c (.int .i64 0)],
 zP 3 .mov [.c (.bool false)]])
.ret)
.skip))
(.seq (.ops [zM 7 0,
 zN 8 7,
 zF 9 8 0,
 zL 10 9,
⟨some 11, none, .call, [.c (.func (.func 161) [] []), .t 10]⟩,
 zM 6 11,
 zP 12 (.ext 0) [.t 6],
 zP 13 (.ext 1) [.t 6],
 zP 14 (.ext 2) [.t 6],
 zM 2 13,
 zM 3 14])
(.seq (.ops [zM 15 2,
 zM 16 3,
 zM 2 15,
 zM 3 16])
.ret))))⟩
abbrev f_bell_Bells_Next : Nat := 192
abbrev C_bell_Bells_Next : AFunc := C192
def C193 : AFunc := ⟨20, [.tmp 2, .tmp 3, .tmp 4],
(.seq (.ops [zP 2 .mov [.c (.int .i64 0)],
 zP 3 .mov [.c (.int .i64 0)],
 zP 4 .mov [.c (.bool false)]])
(.seq (.seq (.ops [zM 6 0,
⟨some 7, none, .call, [.c (.func (.func 161) [] []), .t 6]⟩,
 zM 5 7,
 zP 8 (.ext 0) [.t 5],
 zP 9 (.ext 1) [.t 5],
 zP 10 (.ext 2) [.t 5],
 zM 2 8,
 zM 3 9,
 zM 4 10])
(.seq (.ops [zM 11 4])
(.cond (.t 11)
(.ops [zM 12 0,
 zN 13 12,
 zF 14 13 0,
 zL 15 14,
⟨some 16, none, .call, [.c (.func (.func 246) [] []), .t 15, .c (.int .i64 0)]⟩])
.skip)))
(.seq (.ops [zM 17 2,
 zM 18 3,
 zM 19 4,
 zM 2 17,
 zM 3 18,
 zM 4 19])
.ret)))⟩
abbrev f_rank_Rank_Pop : Nat := 193
abbrev C_rank_Rank_Pop : AFunc := C193
def C194 : AFunc := ⟨15, [.tmp 4],
(.seq (.ops [zP 4 .mov [.c (.int .i64 0)]])
(.seq (.block 0 (.seq (.ops [zM 6 0,
⟨some 7, none, .call, [.c (.func (.func 118) [] []), .t 6]⟩,
 zM 5 7])
(.cond (.t 5)
(.seq (.ops [zP 4 .mov [.c (.int .i64 1)]])
.ret)
(.seq (.ops [zM 9 1,
 zP 10 (.bin .lss) [.t 9, .c (.int .i64 0)],
 zM 11 10,
 zMg 12 1 11 false,
 zPg 13 (.bin .geq) [.t 12, .c (.int .i64 64)] 11 false,
 zP 14 .pick [.t 11, .c (.bool true), .t 13],
 zM 8 14])
(.cond (.t 8)
(.seq (.ops [zP 4 .mov [.c (.int .i64 9)]])
.ret)
.skip)))))
(.seq (.ops [zP 4 .mov [.c (.int .i64 0)]])
.ret)))⟩
abbrev f_rank_Rank_asked : Nat := 194
abbrev C_rank_Rank_asked : AFunc := C194
def C195 : AFunc := ⟨30, [.tmp 4, .tmp 5],
(.seq (.ops [zP 4 .mov [.c (.int .i64 0)],
 zP 5 .mov [.c (.bool false)]])
(.seq (.seq (.ops [zM 6 0,
 zM 7 1,
⟨some 8, none, .call, [.c (.func (.func 194) [] []), .t 6, .t 7]⟩,
 zP 9 (.bin .neq) [.t 8, .c (.int .i64 0)]])
(.cond (.t 9)
(.seq (.ops [zP 4 .mov [.c (.int .i64 0)],
 zP 5 .mov [.c (.bool false)]])
.ret)
.skip))
(.seq (.dops [zM 10 0,
 zN 11 10,
 zF 12 11 0,
 zL 13 12,
 zM 14 1,
 zN 15 13,
 zF 16 15 1,
 zP 17 (.iaddrA 1 64) [.t 16, .t 14],
 zL 18 17,
 zP 19 (.bin .sub) [.t 18, .c (.int .i64 1)],
 zM 20 0,
 zN 21 20,
 zF 22 21 0,
 zL 23 22,
 zM 24 1,
 zN 25 23,
 zF 26 25 1,
 zP 27 (.iaddrA 1 64) [.t 26, .t 24],
 zL 28 27,
 zP 29 (.bin .gtr) [.t 28, .c (.int .i64 0)],
 zM 4 19,
 zM 5 29] [[], [], [], [], [], [], [], [], [], [], [], [], [], [], [], [], [], [], [], [], [], []])
.ret)))⟩
abbrev f_rank_Rank_at : Nat := 195
abbrev C_rank_Rank_at : AFunc := C195
def L_rank_heaped_up_0 : AC := (.seq (.seq (.dops [zM 12 1,
 zP 13 (.bin .gtr) [.t 12, .c (.int .i64 0)],
 zM 14 13,
⟨some 15, some (14, true), .r (.loadN 2), [.t 4]⟩,
 zMg 16 0 14 true,
 zNg 17 16 14 true,
 zFg 18 17 0 14 true,
 zLg 19 18 14 true,
 zMg 20 1 14 true,
 zPg 21 (.bin .sub) [.t 20, .c (.int .i64 1)] 14 true,
 zPg 22 (.bin .quo) [.t 21, .c (.int .i64 2)] 14 true,
 zPg 23 (.iaddrS 2) [.t 19, .t 22] 14 true,
⟨some 24, some (14, true), .r (.loadN 2), [.t 23]⟩,
⟨some 25, some (14, true), .call, [.c (.func (.func 247) [] []), .t 15, .t 24]⟩,
 zP 26 .pick [.t 14, .t 25, .c (.bool false)]] [[], [], [], [], [], [], [], [], [], [], [], [], [], [], []])
(.cond (.t 26)
.skip
(.exit 0)))
(.block 1 (.seq (.ops [zM 27 0,
 zM 28 1,
 zM 29 0,
 zN 30 29,
 zF 31 30 0,
 zL 32 31,
 zM 33 1,
 zP 34 (.bin .sub) [.t 33, .c (.int .i64 1)],
 zP 35 (.bin .quo) [.t 34, .c (.int .i64 2)],
 zP 36 (.iaddrS 2) [.t 32, .t 35],
⟨some 37, none, .r (.loadN 2), [.t 36]⟩,
⟨some 38, none, .call, [.c (.func (.func 248) [] []), .t 27, .t 28, .t 37]⟩])
(.ops [zM 39 1,
 zP 40 (.bin .sub) [.t 39, .c (.int .i64 1)],
 zP 41 (.bin .quo) [.t 40, .c (.int .i64 2)],
 zM 1 41]))))
def C196 : AFunc := ⟨46, [],
(.seq (.ops [zM 5 0,
 zN 6 5,
 zF 7 6 0,
 zL 8 7,
 zM 9 1,
 zP 10 (.iaddrS 2) [.t 8, .t 9],
⟨some 11, none, .r (.loadN 2), [.t 10]⟩,
⟨some 4, none, .a (.alloc [(.int .i64 0), (.int .i64 0)]), []⟩,
 zS 2 [.t 4, .t 11]])
(.seq (.block 0 (.loop L_rank_heaped_up_0))
(.ops [zM 42 0,
 zM 43 1,
⟨some 44, none, .r (.loadN 2), [.t 4]⟩,
⟨some 45, none, .call, [.c (.func (.func 248) [] []), .t 42, .t 43, .t 44]⟩])))⟩
abbrev f_rank_heaped_up : Nat := 196
abbrev C_rank_heaped_up : AFunc := C196
def C197 : AFunc := ⟨15, [.tmp 2, .tmp 3, .tmp 4],
(.seq (.ops [zP 2 .mov [.c (.int .i64 0)],
 zP 3 .mov [.c (.int .i64 0)],
 zP 4 .mov [.c (.bool false)]])
(.seq (.seq (.ops [zM 5 0,
⟨some 6, none, .call, [.c (.func (.func 93) [] []), .t 5]⟩])
(.cond (.t 6)
(.seq (.ops [zP 2 .mov [.c (.int .i64 0)],
 zP 3 .mov [.c (.int .i64 0)],
 zP 4 .mov [.c (.bool false)]])
.ret)
.skip))
(.seq (.ops [zM 7 0,
 zN 8 7,
 zF 9 8 0,
 zL 10 9,
⟨some 11, none, .call, [.c (.func (.func 161) [] []), .t 10]⟩,
 zP 12 (.ext 0) [.t 11],
 zP 13 (.ext 1) [.t 11],
 zP 14 (.ext 2) [.t 11],
 zM 2 12,
 zM 3 13,
 zM 4 14])
.ret)))⟩
abbrev f_ready_Queue_First : Nat := 197
abbrev C_ready_Queue_First : AFunc := C197
def C198 : AFunc := ⟨12, [.tmp 2],
(.seq (.ops [zP 2 .mov [.c (.bool false)]])
(.seq (.ops [zM 3 0,
⟨some 4, none, .call, [.c (.func (.func 168) [] []), .t 3]⟩,
 zP 5 .not [.t 4],
 zM 6 5,
 zMg 7 0 6 true,
 zNg 8 7 6 true,
 zFg 9 8 14 6 true,
 zLg 10 9 6 true,
 zP 11 .pick [.t 6, .t 10, .c (.bool false)],
 zM 2 11])
.ret))⟩
abbrev f_job_Job_Begun : Nat := 198
abbrev C_job_Job_Begun : AFunc := C198
def L_level_Level_0 : AC := (.seq (.ops [zP 19 (.bin .lss) [.t 18, .t 17]])
(.seq (.cond (.t 19)
.skip
(.exit 0))
(.seq (.block 1 (.seq (.ops [zP 20 (.iaddrS 8) [.t 16, .t 18],
⟨some 21, none, .r (.loadN 8), [.t 20]⟩,
⟨some 7, none, .a (.alloc [(.int .i64 0), (.int .i64 0), (.int .i64 0), (.int .i64 0), (.int .i64 0), (.int .i64 0), (.int .i64 0), (.int .i64 0)]), []⟩,
 zS 8 [.t 7, .t 21]])
(.seq (.dops [zF 22 7 1,
 zL 23 22,
 zM 24 0,
 zM 25 1,
 zP 26 (.iaddrS 8) [.t 24, .t 25],
 zF 27 26 1,
 zL 28 27,
 zP 29 (.bin .gtr) [.t 23, .t 28]] [[], [], [], [], [], [], [], []])
(.cond (.t 29)
(.ops [zM 30 5,
 zP 31 (.bin .add) [.t 30, .c (.int .i64 1)],
 zM 5 31])
.skip))))
(.ops [zP 32 (.bin .add) [.t 18, .c (.int .i64 1)],
 zM 18 32]))))
def C199 : AFunc := ⟨34, [.tmp 4],
(.seq (.ops [zP 4 .mov [.c (.int .i64 0)]])
(.seq (.seq (.ops [zM 8 1,
 zP 9 (.bin .lss) [.t 8, .c (.int .i64 0)],
 zM 10 9,
 zMg 11 1 10 false,
 zMg 12 0 10 false,
 zPg 13 .lenS [.t 12] 10 false,
 zPg 14 (.bin .geq) [.t 11, .t 13] 10 false,
 zP 15 .pick [.t 10, .c (.bool true), .t 14]])
(.cond (.t 15)
(.seq (.ops [zP 4 .mov [.c (.int .i64 0)]])
.ret)
.skip))
(.seq (.ops [zP 5 .mov [.c (.int .i64 1)]])
(.seq (.seq (.ops [zM 16 0,
 zP 17 .lenS [.t 16],
 zP 18 .mov [.c (.int .i64 0)]])
(.block 0 (.loop L_level_Level_0)))
(.seq (.ops [zM 33 5,
 zM 4 33])
.ret)))))⟩
abbrev f_level_Level : Nat := 199
abbrev C_level_Level : AFunc := C199
def L_stack_Stack_Ceiling_0 : AC := (.seq (.ops [zP 13 (.bin .lss) [.t 12, .t 11]])
(.seq (.cond (.t 13)
.skip
(.exit 0))
(.seq (.block 1 (.seq (.ops [zP 14 (.iaddrS 2) [.t 10, .t 12],
⟨some 15, none, .r (.loadN 2), [.t 14]⟩,
⟨some 4, none, .a (.alloc [(.int .i64 0), (.int .i64 0)]), []⟩,
 zS 2 [.t 4, .t 15]])
(.dops [zM 16 2,
 zM 17 0,
 zN 18 17,
 zF 19 18 0,
 zL 20 19,
 zF 21 4 1,
 zL 22 21,
⟨some 23, none, .call, [.c (.func (.func 249) [] []), .t 20, .t 22]⟩,
 zP 24 .mx [.t 16, .t 23],
 zM 2 24] [[], [], [], [], [], [], [], [], [], []])))
(.ops [zP 25 (.bin .add) [.t 12, .c (.int .i64 1)],
 zM 12 25]))))
def C200 : AFunc := ⟨27, [.tmp 2],
(.seq (.ops [zP 2 .mov [.c (.int .i64 0)]])
(.seq (.seq (.ops [zM 5 0,
 zP 6 (.eq .nilptr) [.t 5, .c .nilp]])
(.cond (.t 6)
(.seq (.ops [zP 2 .mov [.c (.int .i64 0)]])
.ret)
.skip))
(.seq (.seq (.ops [zM 7 0,
 zN 8 7,
 zF 9 8 1,
 zL 10 9,
 zP 11 .lenS [.t 10],
 zP 12 .mov [.c (.int .i64 0)]])
(.block 0 (.loop L_stack_Stack_Ceiling_0)))
(.seq (.ops [zM 26 2,
 zM 2 26])
.ret))))⟩
abbrev f_stack_Stack_Ceiling : Nat := 200
abbrev C_stack_Stack_Ceiling : AFunc := C200
def C201 : AFunc := ⟨27, [.tmp 2, .tmp 3],
(.seq (.ops [zP 2 .mov [.c (.int .i64 0)],
 zP 3 .mov [.c (.bool false)]])
(.seq (.seq (.ops [zM 4 0,
 zP 5 (.eq .nilptr) [.t 4, .c .nilp],
 zM 6 5,
 zMg 7 0 6 false,
 zNg 8 7 6 false,
 zFg 9 8 1 6 false,
 zLg 10 9 6 false,
 zPg 11 .lenS [.t 10] 6 false,
 zPg 12 (.bin .eql) [.t 11, .c (.int .i64 0)] 6 false,
 zP 13 .pick [.t 6, .c (.bool true), .t 12]])
(.cond (.t 13)
(.seq (.ops [zP 2 .mov [.c (.int .i64 0)],
 zP 3 .mov [.c (.bool false)]])
.ret)
.skip))
(.seq (.dops [zM 14 0,
 zN 15 14,
 zF 16 15 1,
 zL 17 16,
 zM 18 0,
 zN 19 18,
 zF 20 19 1,
 zL 21 20,
 zP 22 .lenS [.t 21],
 zP 23 (.bin .sub) [.t 22, .c (.int .i64 1)],
 zP 24 (.iaddrS 2) [.t 17, .t 23],
 zF 25 24 0,
 zL 26 25,
 zM 2 26,
 zP 3 .mov [.c (.bool true)]] [[], [], [], [], [], [], [], [], [], [], [], [], [], [], []])
.ret)))⟩
abbrev f_stack_Stack_Top : Nat := 201
abbrev C_stack_Stack_Top : AFunc := C201
def C202 : AFunc := ⟨8, [.tmp 4],
(.seq (.ops [zP 4 .mov [.c (.int .i64 0)]])
(.seq (.ops [zM 5 0,
 zM 6 1,
⟨some 7, none, .call, [.c (.func (.func 250) [] []), .t 5, .t 6, .c (.func (.func 251) [] [])]⟩,
 zM 4 7])
.ret))⟩
abbrev f_room_Room_Run : Nat := 202
abbrev C_room_Room_Run : AFunc := C202
def L_kernel_Kernel_behind_0 : AC := (.seq (.seq (.ops [zM 11 0,
 zM 12 1,
 zM 13 2,
⟨some 14, none, .call, [.c (.func (.func 108) [] []), .t 11, .t 12, .t 13]⟩])
(.cond (.t 14)
.skip
(.exit 0)))
(.block 1 (.seq (.ops [zM 16 0,
 zN 17 16,
 zF 18 17 12,
 zL 19 18,
 zM 20 1,
 zP 21 (.iaddrS 1) [.t 19, .t 20],
 zL 22 21,
 zM 23 2,
⟨some 24, none, .call, [.c (.func (.func 136) [] []), .t 22, .t 23]⟩,
 zM 15 24,
 zP 25 (.ext 0) [.t 15],
 zP 26 (.ext 1) [.t 15],
⟨some 6, none, .a (.alloc [(.int .i64 0), (.int .i64 0), (.str [])]), []⟩,
 zS 3 [.t 6, .t 25],
 zM 7 26])
(.seq (.seq (.ops [zF 27 6 0,
 zL 28 27,
 zP 29 (.bin .eql) [.t 28, .c (.int .i64 1)],
 zM 30 29,
 zFg 31 6 0 30 false,
 zLg 32 31 30 false,
 zPg 33 (.bin .eql) [.t 32, .c (.int .i64 4)] 30 false,
 zP 34 .pick [.t 30, .c (.bool true), .t 33]])
(.cond (.t 34)
(.exit 0)
.skip))
(.seq (.seq (.ops [zM 36 0,
 zN 37 36,
 zF 38 37 12,
 zL 39 38,
 zM 40 1,
 zP 41 (.iaddrS 1) [.t 39, .t 40],
 zL 42 41,
⟨some 43, none, .call, [.c (.func (.func 162) [] []), .t 42]⟩,
 zM 35 43,
 zP 44 (.ext 0) [.t 35],
 zP 45 (.ext 1) [.t 35],
 zM 8 44,
 zM 9 45])
(.seq (.ops [zF 46 6 0,
 zL 47 46,
 zP 48 (.bin .eql) [.t 47, .c (.int .i64 2)],
 zM 49 48,
 zMg 50 8 49 true,
 zMg 51 2 49 true,
 zPg 52 (.bin .neq) [.t 50, .t 51] 49 true,
 zP 53 .pick [.t 49, .t 52, .c (.bool false)]])
(.cond (.t 53)
(.exit 0)
.skip)))
(.ops [zM 54 0,
 zM 55 1,
 zM 56 2,
⟨some 57, none, .r (.loadN 3), [.t 6]⟩,
⟨some 58, none, .call, [.c (.func (.func 165) [] []), .t 54, .t 55, .t 56, .t 57]⟩]))))))
def C203 : AFunc := ⟨84, [],
(.seq (.block 0 (.loop L_kernel_Kernel_behind_0))
(.seq (.seq (.ops [zM 59 0,
 zM 60 1,
 zM 61 2,
⟨some 62, none, .call, [.c (.func (.func 108) [] []), .t 59, .t 60, .t 61]⟩,
 zP 63 .not [.t 62]])
(.cond (.t 63)
.ret
.skip))
(.seq (.dops [zM 64 0,
 zN 65 64,
 zF 66 65 12,
 zL 67 66,
 zM 68 1,
 zP 69 (.iaddrS 1) [.t 67, .t 68],
 zL 70 69,
 zM 71 2,
 zM 72 0,
 zN 73 72,
 zF 74 73 10,
 zL 75 74,
⟨some 76, none, .call, [.c (.func (.func 157) [] []), .t 70, .t 71, .t 75]⟩,
 zM 10 76] [[], [], [], [], [], [], [], [], [], [], [], [], [], []])
(.seq (.ops [zM 77 10,
 zP 78 (.bin .neq) [.t 77, .c (.int .i64 0)]])
(.cond (.t 78)
(.ops [zM 79 0,
 zM 80 1,
 zM 81 2,
 zM 82 10,
⟨some 83, none, .call, [.c (.func (.func 158) [] []), .t 79, .t 80, .t 81, .t 82]⟩])
.skip)))))⟩
abbrev f_kernel_Kernel_behind : Nat := 203
abbrev C_kernel_Kernel_behind : AFunc := C203
def C204 : AFunc := ⟨9, [.tmp 4],
(.seq (.ops [⟨some 2, none, .a .box, [.t 0]⟩,
⟨some 3, none, .a .box, [.t 1]⟩,
 zP 4 .mov [.c (.int .i64 0)]])
(.seq (.ops [zL 5 2,
 zL 6 3,
 zP 7 (.mkfunc (.func 252) 0) [.t 2, .t 3],
⟨some 8, none, .call, [.c (.func (.func 250) [] []), .t 5, .t 6, .t 7]⟩,
 zM 4 8])
.ret))⟩
abbrev f_room_Room_Ask : Nat := 204
abbrev C_room_Room_Ask : AFunc := C204
def C205 : AFunc := ⟨36, [],
(.seq (.ops [⟨some 7, none, .a .box, [.t 3]⟩])
(.seq (.ops [zM 8 0,
 zM 9 1,
 zM 10 2,
⟨some 11, none, .r (.loadN 7), [.t 7]⟩,
⟨some 12, none, .call, [.c (.func (.func 98) [] []), .t 8, .c (.int .i64 5), .t 9, .t 10, .t 11]⟩])
(.seq (.ops [zM 13 0,
 zN 14 13,
 zF 15 14 12,
 zL 16 15,
 zM 17 1,
 zP 18 (.iaddrS 1) [.t 16, .t 17],
 zL 19 18,
 zM 20 2,
⟨some 21, none, .call, [.c (.func (.func 254) [] []), .t 19, .t 20]⟩])
(.seq (.ops [zM 22 0,
 zM 23 1,
 zM 24 2,
⟨some 25, none, .call, [.c (.func (.func 99) [] []), .t 22, .t 23, .t 24]⟩,
 zP 26 .not [.t 25],
 zM 27 26,
 zFg 28 7 5 27 true,
 zLg 29 28 27 true,
 zPg 30 (.bin .neq) [.t 29, .c (.int .i64 0)] 27 true,
 zP 31 .pick [.t 27, .t 30, .c (.bool false)]])
(.cond (.t 31)
(.ops [zM 32 0,
 zM 33 1,
 zM 34 2,
⟨some 35, none, .call, [.c (.func (.func 158) [] []), .t 32, .t 33, .t 34, .c (.int .i64 4)]⟩])
.skip)))))⟩
abbrev f_kernel_Kernel_did : Nat := 205
abbrev C_kernel_Kernel_did : AFunc := C205
def C206 : AFunc := ⟨19, [.cell 6 8 true],
(.seq (.ops [⟨some 6, none, .a (.alloc [(.int .i64 0), (.int .i64 0), (.int .i64 0), (.int .i64 0), (.int .i64 0), (.int .i64 0), (.int .i64 0), (.int .i64 0)]), []⟩])
(.seq (.ops [zM 7 0,
 zN 8 7,
 zF 9 8 4,
 zF 10 9 0,
 zL 11 10,
 zM 12 1,
 zP 13 (.iaddrS 3) [.t 11, .t 12],
 zF 14 13 2,
 zL 15 14,
 zM 16 2,
 zP 17 (.iaddrS 8) [.t 15, .t 16],
⟨some 18, none, .r (.loadN 8), [.t 17]⟩,
 zS 8 [.t 6, .t 18]])
.ret))⟩
abbrev f_kernel_Kernel_task : Nat := 206
abbrev C_kernel_Kernel_task : AFunc := C206
def C207 : AFunc := ⟨60, [.tmp 6, .tmp 7],
(.seq (.ops [zP 6 .mov [.c (.bool false)],
 zP 7 .mov [.c (.int .i64 0)]])
(.seq (.ops [zM 12 0,
 zM 13 1,
 zM 14 2,
⟨some 15, none, .call, [.c (.func (.func 255) [] []), .t 12, .t 13, .t 14]⟩,
 zM 11 15,
 zP 16 (.ext 0) [.t 11],
 zP 17 (.ext 1) [.t 11],
 zM 8 16,
 zM 7 17])
(.seq (.seq (.ops [zM 18 7,
 zP 19 (.bin .neq) [.t 18, .c (.int .i64 0)]])
(.cond (.t 19)
(.seq (.ops [zM 20 7,
 zP 6 .mov [.c (.bool false)],
 zM 7 20])
.ret)
.skip))
(.seq (.ops [zM 22 0,
 zM 23 1,
⟨some 24, none, .call, [.c (.func (.func 223) [] []), .t 22, .t 23]⟩,
 zM 21 24,
 zP 25 (.ext 0) [.t 21],
 zP 26 (.ext 1) [.t 21],
 zM 9 25,
 zM 10 26])
(.seq (.block 0 (.seq (.ops [zM 28 10,
 zM 29 28,
 zMg 30 9 29 true,
 zMg 31 2 29 true,
 zPg 32 (.bin .neq) [.t 30, .t 31] 29 true,
 zP 33 .pick [.t 29, .t 32, .c (.bool false)],
 zM 27 33])
(.cond (.t 27)
(.seq (.ops [zP 6 .mov [.c (.bool false)],
 zP 7 .mov [.c (.int .i64 250)]])
.ret)
(.seq (.ops [zM 35 8,
 zN 36 35,
 zF 37 36 1,
 zL 38 37,
 zM 39 38,
 zMg 40 8 39 true,
 zMg 41 1 39 true,
⟨some 42, some (39, true), .call, [.c (.func (.func 224) [] []), .t 40, .t 41]⟩,
 zP 43 .pick [.t 39, .t 42, .c (.bool false)],
 zM 34 43])
(.cond (.t 34)
(.seq (.ops [zP 6 .mov [.c (.bool false)],
 zP 7 .mov [.c (.int .i64 131)]])
.ret)
(.seq (.ops [zM 45 10,
 zP 46 .not [.t 45],
 zM 44 46])
(.cond (.t 44)
(.ops [zM 47 8,
 zM 48 8,
 zN 49 48,
 zF 50 49 0,
 zL 51 50,
 zM 52 1,
⟨some 53, none, .a (.bslice [(.int .i64 0)] 1 1 [0]), [.t 52]⟩,
⟨some 54, none, .e (.append 1 8), [.t 51, .t 53]⟩,
 zN 55 47,
 zF 56 55 0,
 zS 1 [.t 56, .t 54]])
.skip)))))))
(.seq (.ops [zM 57 8,
 zM 58 1,
⟨some 59, none, .call, [.c (.func (.func 224) [] []), .t 57, .t 58]⟩,
 zM 6 59,
 zP 7 .mov [.c (.int .i64 0)]])
.ret))))))⟩
abbrev f_claim_Claim_Ask : Nat := 207
abbrev C_claim_Claim_Ask : AFunc := C207
def C208 : AFunc := ⟨33, [.tmp 6],
(.seq (.ops [zP 6 .mov [.c (.int .i64 0)]])
(.seq (.ops [zM 10 0,
 zM 11 1,
 zM 12 2,
⟨some 13, none, .call, [.c (.func (.func 255) [] []), .t 10, .t 11, .t 12]⟩,
 zM 9 13,
 zP 14 (.ext 0) [.t 9],
 zP 15 (.ext 1) [.t 9],
 zM 7 14,
 zM 8 15])
(.seq (.block 0 (.seq (.ops [zM 17 8,
 zP 18 (.bin .neq) [.t 17, .c (.int .i64 0)],
 zM 16 18])
(.cond (.t 16)
(.seq (.ops [zM 19 8,
 zM 6 19])
.ret)
(.seq (.ops [zM 21 7,
 zM 22 1,
⟨some 23, none, .call, [.c (.func (.func 224) [] []), .t 21, .t 22]⟩,
 zP 24 .not [.t 23],
 zM 20 24])
(.cond (.t 20)
(.seq (.ops [zP 6 .mov [.c (.int .i64 250)]])
.ret)
(.seq (.ops [zM 26 7,
 zN 27 26,
 zF 28 27 1,
 zL 29 28,
 zM 25 29])
(.cond (.t 25)
(.seq (.ops [zP 6 .mov [.c (.int .i64 131)]])
.ret)
.skip)))))))
(.seq (.ops [zM 30 7,
 zN 31 30,
 zF 32 31 1,
 zS 1 [.t 32, .c (.bool true)]])
(.seq (.ops [zP 6 .mov [.c (.int .i64 0)]])
.ret)))))⟩
abbrev f_claim_Claim_Hold : Nat := 208
abbrev C_claim_Claim_Hold : AFunc := C208
def C209 : AFunc := ⟨8, [.tmp 4],
(.seq (.ops [zP 4 .mov [.c (.int .i64 0)]])
(.seq (.ops [zM 5 0,
 zM 6 1,
⟨some 7, none, .call, [.c (.func (.func 250) [] []), .t 5, .t 6, .c (.func (.func 256) [] [])]⟩,
 zM 4 7])
.ret))⟩
abbrev f_room_Room_Hold : Nat := 209
abbrev C_room_Room_Hold : AFunc := C209
def C210 : AFunc := ⟨11, [.tmp 6],
(.seq (.ops [⟨some 3, none, .a .box, [.t 0]⟩,
⟨some 4, none, .a .box, [.t 1]⟩,
⟨some 5, none, .a .box, [.t 2]⟩,
 zP 6 .mov [.c (.int .i64 0)]])
(.seq (.ops [zL 7 3,
 zL 8 4,
 zP 9 (.mkfunc (.func 257) 0) [.t 3, .t 4, .t 5],
⟨some 10, none, .call, [.c (.func (.func 250) [] []), .t 7, .t 8, .t 9]⟩,
 zM 6 10])
.ret))⟩
abbrev f_room_Room_Lock : Nat := 210
abbrev C_room_Room_Lock : AFunc := C210
def C211 : AFunc := ⟨9, [.tmp 4],
(.seq (.ops [⟨some 2, none, .a .box, [.t 0]⟩,
⟨some 3, none, .a .box, [.t 1]⟩,
 zP 4 .mov [.c (.int .i64 0)]])
(.seq (.ops [zL 5 2,
 zL 6 3,
 zP 7 (.mkfunc (.func 259) 0) [.t 2, .t 3],
⟨some 8, none, .call, [.c (.func (.func 250) [] []), .t 5, .t 6, .t 7]⟩,
 zM 4 8])
.ret))⟩
abbrev f_room_Room_Unlock : Nat := 211
abbrev C_room_Room_Unlock : AFunc := C211
def C212 : AFunc := ⟨8, [.tmp 4],
(.seq (.ops [zP 4 .mov [.c (.int .i64 0)]])
(.seq (.ops [zM 5 0,
 zM 6 1,
⟨some 7, none, .call, [.c (.func (.func 250) [] []), .t 5, .t 6, .c (.func (.func 263) [] [])]⟩,
 zM 4 7])
.ret))⟩
abbrev f_room_Room_Give : Nat := 212
abbrev C_room_Room_Give : AFunc := C212
def C213 : AFunc := ⟨33, [.tmp 6],
(.seq (.ops [zP 6 .mov [.c (.int .i64 0)]])
(.seq (.ops [zM 10 0,
 zM 11 1,
 zM 12 2,
⟨some 13, none, .call, [.c (.func (.func 255) [] []), .t 10, .t 11, .t 12]⟩,
 zM 9 13,
 zP 14 (.ext 0) [.t 9],
 zP 15 (.ext 1) [.t 9],
 zM 7 14,
 zM 8 15])
(.seq (.block 0 (.seq (.ops [zM 17 8,
 zP 18 (.bin .neq) [.t 17, .c (.int .i64 0)],
 zM 16 18])
(.cond (.t 16)
(.seq (.ops [zM 19 8,
 zM 6 19])
.ret)
(.seq (.seq (.ops [zM 21 7,
 zN 22 21,
 zF 23 22 1,
 zL 24 23,
 zP 25 .not [.t 24],
 zM 20 25])
(.cond (.t 20)
.skip
(.ops [zM 26 7,
 zM 27 1,
⟨some 28, none, .call, [.c (.func (.func 224) [] []), .t 26, .t 27]⟩,
 zP 29 .not [.t 28],
 zM 20 29])))
(.cond (.t 20)
(.seq (.ops [zP 6 .mov [.c (.int .i64 132)]])
.ret)
.skip)))))
(.seq (.ops [zM 30 0,
 zM 31 1,
⟨some 32, none, .call, [.c (.func (.func 172) [] []), .t 30, .t 31]⟩])
(.seq (.ops [zP 6 .mov [.c (.int .i64 0)]])
.ret)))))⟩
abbrev f_claim_Claim_Give : Nat := 213
abbrev C_claim_Claim_Give : AFunc := C213
def C214 : AFunc := ⟨34, [.tmp 10],
(.seq (.ops [zP 10 .mov [.c (.int .i64 0)]])
(.seq (.seq (.ops [zM 12 0,
⟨some 13, none, .call, [.c (.func (.func 264) [] []), .t 12]⟩])
(.cond (.t 13)
(.seq (.ops [zP 10 .mov [.c (.int .i64 1)]])
.ret)
.skip))
(.seq (.ops [zM 14 0,
 zM 15 2,
⟨some 16, none, .call, [.c (.func (.func 265) [] []), .t 14, .t 15]⟩,
 zM 11 16])
(.seq (.seq (.ops [zM 17 11,
 zP 18 (.eq .nilptr) [.t 17, .c .nilp],
 zM 19 18,
 zMg 20 11 19 false,
 zNg 21 20 19 false,
 zFg 22 21 1 19 false,
 zLg 23 22 19 false,
 zMg 24 1 19 false,
 zPg 25 (.bin .neq) [.t 23, .t 24] 19 false,
 zP 26 .pick [.t 19, .c (.bool true), .t 25]])
(.cond (.t 26)
(.seq (.ops [zP 10 .mov [.c (.int .i64 220)]])
.ret)
.skip))
(.seq (.ops [zM 27 11,
 zN 28 27,
 zF 29 28 0,
 zL 30 29,
 zM 31 3,
 zM 32 4,
⟨some 33, none, .call, [.c (.func (.func 266) [] []), .t 30, .t 31, .t 32]⟩,
 zM 10 33])
.ret)))))⟩
abbrev f_route_Routes_Send : Nat := 214
abbrev C_route_Routes_Send : AFunc := C214
def C215 : AFunc := ⟨41, [.cell 6 7 true],
(.seq (.ops [⟨some 6, none, .a (.alloc [(.int .i64 0), (.int .i64 0), (.int .i64 0), (.int .i64 0), (.int .i64 0), (.int .i64 0), (.str [])]), []⟩])
(.seq (.dops [zM 12 0,
 zN 13 12,
 zF 14 13 0,
 zF 15 14 1,
 zL 16 15,
 zM 17 1,
 zM 18 2,
 zM 19 0,
 zN 20 19,
 zF 21 20 10,
 zL 22 21,
⟨some 23, none, .call, [.c (.func (.func 267) [] []), .t 16, .t 17, .t 18, .t 22]⟩,
 zM 11 23,
 zP 24 (.ext 0) [.t 11],
 zP 25 (.ext 1) [.t 11],
 zP 26 (.ext 2) [.t 11],
 zM 7 24,
 zM 8 25,
 zM 9 26] [[], [], [], [], [], [], [], [], [], [], [], [], [], [], [], [], [], [], []])
(.seq (.ops [zM 27 7,
 zM 28 9,
 zP 29 (.build [(.int .i64 0), (.int .i64 0), (.int .i64 0), (.int .i64 0), (.int .i64 0), (.int .i64 0), (.str [])] [(4, 1), (6, 1), (5, 1)]) [.c (.int .i64 7), .t 27, .t 28],
⟨some 10, none, .a (.alloc [(.int .i64 0), (.int .i64 0), (.int .i64 0), (.int .i64 0), (.int .i64 0), (.int .i64 0), (.str [])]), []⟩,
 zS 7 [.t 10, .t 29]])
(.seq (.seq (.ops [zM 30 9,
 zP 31 (.bin .eql) [.t 30, .c (.int .i64 0)],
 zM 32 31,
 zMg 33 8 32 true,
 zPg 34 .not [.t 33] 32 true,
 zP 35 .pick [.t 32, .t 34, .c (.bool false)]])
(.cond (.t 35)
(.ops [zF 36 10 4,
 zL 37 36,
 zP 38 (.bin .add) [.t 37, .c (.int .i64 100)],
 zF 39 10 4,
 zS 1 [.t 39, .t 38]])
.skip))
(.seq (.ops [⟨some 40, none, .r (.loadN 7), [.t 10]⟩,
 zS 7 [.t 6, .t 40]])
.ret)))))⟩
abbrev f_kernel_Kernel_recv : Nat := 215
abbrev C_kernel_Kernel_recv : AFunc := C215
def C216 : AFunc := ⟨39, [.tmp 8],
(.seq (.ops [zP 8 .mov [.c (.int .i64 0)]])
(.seq (.block 0 (.seq (.ops [zM 10 0,
⟨some 11, none, .call, [.c (.func (.func 245) [] []), .t 10]⟩,
 zM 9 11])
(.cond (.t 9)
(.seq (.ops [zP 8 .mov [.c (.int .i64 1)]])
.ret)
(.seq (.ops [zM 13 1,
 zM 14 2,
⟨some 15, none, .call, [.c (.func (.func 268) [] []), .t 13, .t 14]⟩,
 zP 16 .not [.t 15],
 zM 12 16])
(.cond (.t 12)
(.seq (.ops [zP 8 .mov [.c (.int .i64 9)]])
.ret)
(.seq (.ops [zM 18 3,
⟨some 19, none, .a (.bslice [(.int .i64 0)] 1 1 [0]), [.t 18]⟩,
⟨some 20, none, .call, [.c (.func (.func 269) [] []), .c (.int .i64 1099511627776), .t 19]⟩,
 zP 21 .not [.t 20],
 zM 17 21])
(.cond (.t 17)
(.seq (.ops [zP 8 .mov [.c (.int .i64 2)]])
.ret)
.skip)))))))
(.seq (.dops [zM 22 0,
 zN 23 22,
 zF 24 23 0,
 zL 25 24,
 zM 26 1,
 zM 27 2,
⟨some 28, none, .call, [.c (.func (.func 271) [] []), .t 26, .t 27]⟩,
⟨some 29, none, .call, [.c (.func (.func 270) [] []), .t 25, .t 28]⟩] [[], [], [], [0, 7], [], [], [], []])
(.seq (.dops [zM 30 0,
 zN 31 30,
 zF 32 31 0,
 zL 33 32,
 zM 34 1,
 zM 35 2,
⟨some 36, none, .call, [.c (.func (.func 271) [] []), .t 34, .t 35]⟩,
 zM 37 3,
⟨some 38, none, .call, [.c (.func (.func 160) [] []), .t 33, .t 36, .t 37]⟩,
 zM 8 38] [[], [], [], [0, 7], [], [], [], [], [], []])
.ret))))⟩
abbrev f_bell_Bells_Arm : Nat := 216
abbrev C_bell_Bells_Arm : AFunc := C216
def C217 : AFunc := ⟨9, [.tmp 4],
(.seq (.ops [zP 4 .mov [.c (.bool false)]])
(.seq (.ops [zM 5 0,
 zM 6 1,
⟨some 7, none, .call, [.c (.func (.func 272) [] []), .t 5, .t 6]⟩,
 zP 8 (.bin .geq) [.t 7, .c (.int .i64 0)],
 zM 4 8])
.ret))⟩
abbrev f_slices_ContainsFunc_api_Op_api_Op : Nat := 217
abbrev C_slices_ContainsFunc_api_Op_api_Op : AFunc := C217
def C218 : AFunc := ⟨6, [.tmp 2],
(.seq (.ops [⟨some 1, none, .a .box, [.t 0]⟩,
 zP 2 .mov [.c (.bool false)]])
(.seq (.ops [⟨some 3, none, .r (.loadN 3), [.t 1]⟩,
⟨some 4, none, .call, [.c (.func (.func 219) [] []), .t 3]⟩,
 zP 5 (.bin .neq) [.t 4, .c (.int .i64 0)],
 zM 2 5])
.ret))⟩
abbrev f_act_New_1 : Nat := 218
abbrev C_act_New_1 : AFunc := C218
def C219 : AFunc := ⟨39, [.tmp 2],
(.seq (.ops [⟨some 1, none, .a .box, [.t 0]⟩,
 zP 2 .mov [.c (.int .i64 0)]])
(.seq (.dops [⟨some 7, none, .call, [.c (.func (.func 273) [] [])]⟩,
 zF 8 1 0,
 zL 9 8,
⟨some 10, none, .r (.lookup true (.agg [(.int .i64 0), (.int .i64 0)])), [.t 7, .t 9]⟩,
 zM 6 10,
 zP 11 (.ext 0) [.t 6],
 zP 12 (.ext 1) [.t 6],
⟨some 3, none, .a (.alloc [(.int .i64 0), (.int .i64 0)]), []⟩,
 zS 2 [.t 3, .t 11],
 zM 4 12] [[], [], [0, 1], [], [], [], [], [], [], []])
(.seq (.ops [zP 5 .mov [.c (.int .i64 0)]])
(.seq (.seq (.ops [zF 13 1 0,
 zL 14 13,
 zP 15 (.bin .eql) [.t 14, .c (.int .i64 6)]])
(.cond (.t 15)
(.ops [zP 5 .mov [.c (.int .i64 16)]])
.skip))
(.seq (.seq (.ops [zM 16 4,
 zP 17 .not [.t 16],
 zM 18 17,
 zFg 19 1 1 18 false,
 zLg 20 19 18 false,
 zFg 21 3 0 18 false,
 zLg 22 21 18 false,
 zPg 23 (.bin .lss) [.t 20, .t 22] 18 false,
 zP 24 .pick [.t 18, .c (.bool true), .t 23],
 zM 25 24,
 zFg 26 1 1 25 false,
 zLg 27 26 25 false,
 zFg 28 3 1 25 false,
 zLg 29 28 25 false,
 zPg 30 (.bin .gtr) [.t 27, .t 29] 25 false,
 zP 31 .pick [.t 25, .c (.bool true), .t 30],
 zM 32 31,
 zFg 33 1 2 32 false,
 zLg 34 33 32 false,
 zPg 35 .lenStr [.t 34] 32 false,
 zMg 36 5 32 false,
 zPg 37 (.bin .gtr) [.t 35, .t 36] 32 false,
 zP 38 .pick [.t 32, .c (.bool true), .t 37]])
(.cond (.t 38)
(.seq (.ops [zP 2 .mov [.c (.int .i64 2)]])
.ret)
.skip))
(.seq (.ops [zP 2 .mov [.c (.int .i64 0)]])
.ret))))))⟩
abbrev f_act_Check : Nat := 219
abbrev C_act_Check : AFunc := C219
def C220 : AFunc := ⟨12, [.tmp 2],
(.seq (.ops [zP 2 .mov [.c (.bool false)]])
(.seq (.ops [zM 3 0,
 zP 4 (.eq .nilptr) [.t 3, .c .nilp],
 zM 5 4,
 zMg 6 0 5 false,
 zNg 7 6 5 false,
 zFg 8 7 0 5 false,
 zLg 9 8 5 false,
 zPg 10 (.bin .eql) [.t 9, .c (.int .i64 0)] 5 false,
 zP 11 .pick [.t 5, .c (.bool true), .t 10],
 zM 2 11])
.ret))⟩
abbrev f_spore_Guard_none : Nat := 220
abbrev C_spore_Guard_none : AFunc := C220
def C221 : AFunc := ⟨21, [.cell 2 3 true, .tmp 3],
(.seq (.ops [⟨some 2, none, .a (.alloc [(.int .i64 0), (.int .i64 0), (.str [])]), []⟩,
 zP 3 .mov [.c (.bool false)]])
(.seq (.seq (.ops [zM 4 0,
⟨some 5, none, .call, [.c (.func (.func 274) [] []), .t 4]⟩,
 zM 6 5,
 zMg 7 0 6 false,
 zNg 8 7 6 false,
 zFg 9 8 0 6 false,
 zLg 10 9 6 false,
 zPg 11 .lenS [.t 10] 6 false,
 zPg 12 (.bin .eql) [.t 11, .c (.int .i64 0)] 6 false,
 zP 13 .pick [.t 6, .c (.bool true), .t 12]])
(.cond (.t 13)
(.seq (.ops [zP 14 (.build [(.int .i64 0), (.int .i64 0), (.str [])] []) [],
 zS 3 [.t 2, .t 14],
 zP 3 .mov [.c (.bool false)]])
.ret)
.skip))
(.seq (.ops [zM 15 0,
 zN 16 15,
 zF 17 16 0,
 zL 18 17,
 zP 19 (.iaddrS 3) [.t 18, .c (.int .i64 0)],
⟨some 20, none, .r (.loadN 3), [.t 19]⟩,
 zS 3 [.t 2, .t 20],
 zP 3 .mov [.c (.bool true)]])
.ret)))⟩
abbrev f_act_Row_Next : Nat := 221
abbrev C_act_Row_Next : AFunc := C221
def C222 : AFunc := ⟨11, [.tmp 2],
(.seq (.ops [zP 2 .mov [.c (.int .i64 0)]])
(.seq (.ops [zM 6 0,
⟨some 7, none, .call, [.c (.func (.func 275) [] []), .t 6]⟩,
 zM 5 7,
 zP 8 (.ext 0) [.t 5],
 zP 9 (.ext 1) [.t 5],
 zM 3 8,
 zM 4 9])
(.seq (.ops [zM 10 3,
 zM 2 10])
.ret)))⟩
abbrev f_room_section : Nat := 222
abbrev C_room_section : AFunc := C222
def L_claim_Claim_In_0 : AC := (.seq (.ops [zP 10 (.bin .lss) [.t 9, .c (.int .i64 4)]])
(.seq (.cond (.t 10)
.skip
(.exit 0))
(.seq (.block 1 (.seq (.ops [zM 11 9,
 zM 6 11])
(.seq (.ops [zM 12 0,
 zM 13 6,
 zN 14 12,
 zF 15 14 1,
 zP 16 (.iaddrA 2 4) [.t 15, .t 13],
 zF 17 16 0,
 zL 18 17,
 zM 19 1,
⟨some 20, none, .call, [.c (.func (.func 276) [] []), .t 18, .t 19]⟩])
(.cond (.t 20)
(.seq (.ops [zM 21 6,
 zP 22 (.bin .add) [.t 21, .c (.int .i64 1)],
 zM 4 22,
 zP 5 .mov [.c (.bool true)]])
.ret)
.skip))))
(.ops [zP 23 (.bin .add) [.t 9, .c (.int .i64 1)],
 zM 9 23]))))
def C223 : AFunc := ⟨24, [.tmp 4, .tmp 5],
(.seq (.ops [zP 4 .mov [.c (.int .i64 0)],
 zP 5 .mov [.c (.bool false)]])
(.seq (.seq (.ops [zM 7 0,
⟨some 8, none, .call, [.c (.func (.func 92) [] []), .t 7]⟩])
(.cond (.t 8)
(.seq (.ops [zP 4 .mov [.c (.int .i64 0)],
 zP 5 .mov [.c (.bool false)]])
.ret)
.skip))
(.seq (.seq (.ops [zP 9 .mov [.c (.int .i64 0)]])
(.block 0 (.loop L_claim_Claim_In_0)))
(.seq (.ops [zP 4 .mov [.c (.int .i64 0)],
 zP 5 .mov [.c (.bool false)]])
.ret))))⟩
abbrev f_claim_Claim_In : Nat := 223
abbrev C_claim_Claim_In : AFunc := C223
def C224 : AFunc := ⟨21, [.tmp 4],
(.seq (.ops [zP 4 .mov [.c (.bool false)]])
(.seq (.ops [zM 5 0,
 zN 6 5,
 zF 7 6 0,
 zL 8 7,
 zP 9 .lenS [.t 8],
 zP 10 (.bin .gtr) [.t 9, .c (.int .i64 0)],
 zM 11 10,
 zMg 12 0 11 true,
 zNg 13 12 11 true,
 zFg 14 13 0 11 true,
 zLg 15 14 11 true,
 zPg 16 (.iaddrS 1) [.t 15, .c (.int .i64 0)] 11 true,
 zLg 17 16 11 true,
 zMg 18 1 11 true,
 zPg 19 (.bin .eql) [.t 17, .t 18] 11 true,
 zP 20 .pick [.t 11, .t 19, .c (.bool false)],
 zM 4 20])
.ret))⟩
abbrev f_claim_line_first : Nat := 224
abbrev C_claim_line_first : AFunc := C224
def L_slices_DeleteFunc_int_int_0 : AC := (.seq (.seq (.ops [zM 16 6,
 zM 17 0,
 zP 18 .lenS [.t 17],
 zP 19 (.bin .lss) [.t 16, .t 18]])
(.cond (.t 19)
.skip
(.exit 0)))
(.seq (.block 1 (.seq (.ops [zM 22 0,
 zM 23 6,
 zP 24 (.iaddrS 1) [.t 22, .t 23],
 zL 25 24,
 zM 7 25])
(.seq (.ops [zM 26 1,
 zM 27 7,
⟨some 28, none, .call, [.t 26, .t 27]⟩,
 zP 29 .not [.t 28]])
(.cond (.t 29)
(.seq (.ops [zM 30 0,
 zM 31 5,
 zM 32 7,
 zP 33 (.iaddrS 1) [.t 30, .t 31],
 zS 1 [.t 33, .t 32]])
(.ops [zM 34 5,
 zP 35 (.bin .add) [.t 34, .c (.int .i64 1)],
 zM 5 35]))
.skip))))
(.ops [zM 20 6,
 zP 21 (.bin .add) [.t 20, .c (.int .i64 1)],
 zM 6 21])))
def C225 : AFunc := ⟨42, [.tmp 4],
(.seq (.ops [zP 4 .mov [.c .nils]])
(.seq (.ops [zM 8 0,
 zM 9 1,
⟨some 10, none, .call, [.c (.func (.func 151) [] []), .t 8, .t 9]⟩,
 zM 5 10])
(.seq (.seq (.ops [zM 11 5,
 zP 12 (.bin .eql) [.t 11, .c (.int .i64 (-1))]])
(.cond (.t 12)
(.seq (.ops [zM 13 0,
 zM 4 13])
.ret)
.skip))
(.seq (.seq (.ops [zM 14 5,
 zP 15 (.bin .add) [.t 14, .c (.int .i64 1)],
 zM 6 15])
(.block 0 (.loop L_slices_DeleteFunc_int_int_0)))
(.seq (.ops [zM 36 0,
 zM 37 5,
 zP 38 (.slice 1 true false false) [.t 36, .t 37],
⟨none, none, .e (.clear [(.int .i64 0)]), [.t 38]⟩])
(.seq (.ops [zM 39 0,
 zM 40 5,
 zP 41 (.slice 1 false true false) [.t 39, .t 40],
 zM 4 41])
.ret))))))⟩
abbrev f_slices_DeleteFunc_int_int : Nat := 225
abbrev C_slices_DeleteFunc_int_int : AFunc := C225
def C226 : AFunc := ⟨7, [.tmp 3],
(.seq (.ops [zP 3 .mov [.c (.bool false)]])
(.seq (.ops [zM 4 0,
 zL 5 1,
 zP 6 (.bin .eql) [.t 4, .t 5],
 zM 3 6])
.ret))⟩
abbrev f_claim_Claim_Drop_1 : Nat := 226
abbrev C_claim_Claim_Drop_1 : AFunc := C226
def C227 : AFunc := ⟨16, [.tmp 4],
(.seq (.ops [zP 4 .mov [.c (.bool false)]])
(.seq (.ops [zM 5 0,
⟨some 6, none, .call, [.c (.func (.func 93) [] []), .t 5]⟩,
 zP 7 .not [.t 6],
 zM 8 7,
 zMg 9 0 8 true,
 zNg 10 9 8 true,
 zFg 11 10 0 8 true,
 zLg 12 11 8 true,
 zMg 13 1 8 true,
⟨some 14, some (8, true), .call, [.c (.func (.func 270) [] []), .t 12, .t 13]⟩,
 zP 15 .pick [.t 8, .t 14, .c (.bool false)],
 zM 4 15])
.ret))⟩
abbrev f_ready_Queue_Remove : Nat := 227
abbrev C_ready_Queue_Remove : AFunc := C227
def L_stack_Stack_Drop_0 : AC := (.seq (.seq (.ops [zM 13 6,
 zP 14 (.bin .eql) [.t 13, .c (.int .i64 0)]])
(.cond (.t 14)
.skip
(.exit 0)))
(.seq (.block 1 (.ops [zM 21 4,
 zM 22 5,
⟨some 23, none, .a (.bslice [(.int .i64 0)] 1 1 [0]), [.t 22]⟩,
⟨some 24, none, .e (.append 1 8), [.t 21, .t 23]⟩,
 zM 4 24]))
(.ops [zM 16 0,
 zM 17 1,
⟨some 18, none, .call, [.c (.func (.func 260) [] []), .t 16, .t 17]⟩,
 zM 15 18,
 zP 19 (.ext 0) [.t 15],
 zP 20 (.ext 1) [.t 15],
 zM 5 19,
 zM 6 20])))
def C228 : AFunc := ⟨26, [.tmp 4],
(.seq (.ops [zP 4 .mov [.c .nils]])
(.seq (.seq (.ops [zM 8 0,
 zM 9 1,
⟨some 10, none, .call, [.c (.func (.func 260) [] []), .t 8, .t 9]⟩,
 zM 7 10,
 zP 11 (.ext 0) [.t 7],
 zP 12 (.ext 1) [.t 7],
 zM 5 11,
 zM 6 12])
(.block 0 (.loop L_stack_Stack_Drop_0)))
(.seq (.ops [zM 25 4,
 zM 4 25])
.ret)))⟩
abbrev f_stack_Stack_Drop : Nat := 228
abbrev C_stack_Stack_Drop : AFunc := C228
def L_share_sum_0 : AC := (.seq (.ops [zP 15 (.bin .lss) [.t 14, .t 13]])
(.seq (.cond (.t 15)
.skip
(.exit 0))
(.seq (.block 1 (.seq (.ops [zP 16 (.iaddrS 3) [.t 12, .t 14],
⟨some 17, none, .r (.loadN 3), [.t 16]⟩,
⟨some 6, none, .a (.alloc [(.int .i64 0), (.int .i64 0), .nils]), []⟩,
 zS 3 [.t 6, .t 17]])
(.seq (.seq (.ops [zF 18 6 0,
 zL 19 18,
 zP 20 (.bin .gtr) [.t 19, .c (.int .i64 64)],
 zM 21 20,
 zFg 22 6 1 21 false,
 zLg 23 22 21 false,
 zPg 24 (.bin .lss) [.t 23, .c (.int .i64 1)] 21 false,
 zP 25 .pick [.t 21, .c (.bool true), .t 24],
 zM 26 25,
 zFg 27 6 1 26 false,
 zLg 28 27 26 false,
 zFg 29 6 0 26 false,
 zLg 30 29 26 false,
 zPg 31 (.bin .gtr) [.t 28, .t 30] 26 false,
 zP 32 .pick [.t 26, .c (.bool true), .t 31]])
(.cond (.t 32)
(.seq (.ops [⟨some 33, none, .r (.loadN 2), [.t 4]⟩,
 zS 2 [.t 2, .t 33],
 zP 3 .mov [.c (.bool false)]])
.ret)
.skip))
(.ops [⟨some 34, none, .r (.loadN 2), [.t 4]⟩,
 zF 35 6 1,
 zL 36 35,
 zF 37 6 0,
 zL 38 37,
 zP 39 (.build [(.int .i64 0), (.int .i64 0)] [(0, 1), (1, 1)]) [.t 36, .t 38],
⟨some 40, none, .call, [.c (.func (.func 277) [] []), .t 34, .t 39]⟩,
 zS 2 [.t 4, .t 40]]))))
(.ops [zP 41 (.bin .add) [.t 14, .c (.int .i64 1)],
 zM 14 41]))))
def C229 : AFunc := ⟨43, [.cell 2 2 true, .tmp 3],
(.seq (.ops [⟨some 2, none, .a (.alloc [(.int .i64 0), (.int .i64 0)]), []⟩,
 zP 3 .mov [.c (.bool false)]])
(.seq (.ops [zP 7 (.build [(.int .i64 0), (.int .i64 0)] [(0, 1), (1, 1)]) [.c (.int .i64 0), .c (.int .i64 1)],
⟨some 4, none, .a (.alloc [(.int .i64 0), (.int .i64 0)]), []⟩,
 zS 2 [.t 4, .t 7]])
(.seq (.seq (.ops [zM 8 0,
 zP 9 .lenS [.t 8],
 zP 10 (.bin .gtr) [.t 9, .c (.int .i64 4)]])
(.cond (.t 10)
(.seq (.ops [⟨some 11, none, .r (.loadN 2), [.t 4]⟩,
 zS 2 [.t 2, .t 11],
 zP 3 .mov [.c (.bool false)]])
.ret)
.skip))
(.seq (.seq (.ops [zM 12 0,
 zP 13 .lenS [.t 12],
 zP 14 .mov [.c (.int .i64 0)]])
(.block 0 (.loop L_share_sum_0)))
(.seq (.ops [⟨some 42, none, .r (.loadN 2), [.t 4]⟩,
 zS 2 [.t 2, .t 42],
 zP 3 .mov [.c (.bool true)]])
.ret)))))⟩
abbrev f_share_sum : Nat := 229
abbrev C_share_sum : AFunc := C229
def C230 : AFunc := ⟨13, [.tmp 2],
(.seq (.ops [⟨some 1, none, .a .box, [.t 0]⟩,
 zP 2 .mov [.c (.bool false)]])
(.seq (.ops [zF 3 1 0,
 zL 4 3,
 zF 5 1 1,
 zL 6 5,
 zP 7 (.bin .gtr) [.t 4, .t 6],
 zM 8 7,
⟨some 9, some (8, true), .r (.loadN 2), [.t 1]⟩,
 zPg 10 (.build [(.int .i64 0), (.int .i64 0)] [(0, 1), (1, 1)]) [.c (.int .i64 1), .c (.int .i64 1)] 8 true,
 zPg 11 (.neq (.cells [0, 0])) [.t 9, .t 10] 8 true,
 zP 12 .pick [.t 8, .t 11, .c (.bool false)],
 zM 2 12])
.ret))⟩
abbrev f_share_fraction_int_above : Nat := 230
abbrev C_share_fraction_int_above : AFunc := C230
def C231 : AFunc := ⟨26, [.cell 4 6 true, .tmp 5],
(.seq (.ops [⟨some 4, none, .a (.alloc [(.int .i64 0), (.int .i64 0), .nils, .nils, (.int .i64 0), .nils]), []⟩,
 zP 5 .mov [.c (.int .i64 0)]])
(.seq (.ops [zM 9 0,
 zM 10 1,
⟨some 11, none, .call, [.c (.func (.func 278) [] []), .t 9, .t 10]⟩,
 zM 8 11,
 zP 12 (.ext 0) [.t 8],
 zP 13 (.ext 1) [.t 8],
 zM 6 12,
 zM 7 13])
(.seq (.seq (.ops [zM 14 7,
 zP 15 (.bin .neq) [.t 14, .c (.int .i64 0)]])
(.cond (.t 15)
(.seq (.ops [zP 16 (.build [(.int .i64 0), (.int .i64 0), .nils, .nils, (.int .i64 0), .nils] []) [],
 zM 17 7,
 zS 6 [.t 4, .t 16],
 zM 5 17])
.ret)
.skip))
(.seq (.ops [zM 18 0,
 zM 19 1,
 zP 20 (.iaddrS 3) [.t 18, .t 19],
⟨some 21, none, .r (.loadN 3), [.t 20]⟩,
 zM 22 0,
 zM 23 1,
 zM 24 6,
 zP 25 (.build [(.int .i64 0), (.int .i64 0), .nils, .nils, (.int .i64 0), .nils] [(0, 3), (3, 1), (4, 1), (5, 1)]) [.t 21, .t 22, .t 23, .t 24],
 zS 6 [.t 4, .t 25],
 zP 5 .mov [.c (.int .i64 0)]])
.ret))))⟩
abbrev f_local_of : Nat := 231
abbrev C_local_of : AFunc := C231
def L_demand_Hyper_0 : AC := (.seq (.ops [zP 26 (.bin .lss) [.t 25, .t 24]])
(.seq (.cond (.t 26)
.skip
(.exit 0))
(.seq (.block 1 (.seq (.ops [zP 27 (.iaddrS 8) [.t 23, .t 25],
⟨some 28, none, .r (.loadN 8), [.t 27]⟩,
⟨some 8, none, .a (.alloc [(.int .i64 0), (.int .i64 0), (.int .i64 0), (.int .i64 0), (.int .i64 0), (.int .i64 0), (.int .i64 0), (.int .i64 0)]), []⟩,
 zS 8 [.t 8, .t 28]])
(.seq (.ops [zM 30 6,
 zF 31 8 0,
 zL 32 31,
⟨some 33, none, .a (.bslice [(.int .i64 0)] 2 1 [0, 1]), [.t 30, .t 32]⟩,
⟨some 34, none, .call, [.c (.func (.func 279) [] []), .c (.int .i64 4096), .t 33]⟩,
 zM 29 34,
 zP 35 (.ext 0) [.t 29],
 zP 36 (.ext 1) [.t 29],
 zM 9 35,
 zM 10 36])
(.seq (.seq (.ops [zM 37 10,
 zP 38 (.bin .neq) [.t 37, .c (.int .i64 0)]])
(.cond (.t 38)
(.seq (.ops [zP 4 .mov [.c (.int .i64 0)],
 zP 5 .mov [.c (.int .i64 5)]])
.ret)
.skip))
(.ops [zM 39 9,
 zM 6 39])))))
(.ops [zP 40 (.bin .add) [.t 25, .c (.int .i64 1)],
 zM 25 40]))))
def C232 : AFunc := ⟨42, [.tmp 4, .tmp 5],
(.seq (.ops [zP 4 .mov [.c (.int .i64 0)],
 zP 5 .mov [.c (.int .i64 0)]])
(.seq (.seq (.ops [zM 11 0,
⟨some 12, none, .call, [.c (.func (.func 178) [] []), .t 11]⟩,
 zP 13 .not [.t 12],
 zM 14 13,
 zMg 15 1 14 false,
 zPg 16 (.bin .lss) [.t 15, .c (.int .i64 1)] 14 false,
 zP 17 .pick [.t 14, .c (.bool true), .t 16],
 zM 18 17,
 zMg 19 1 18 false,
 zPg 20 (.bin .gtr) [.t 19, .c (.int .i64 64)] 18 false,
 zP 21 .pick [.t 18, .c (.bool true), .t 20]])
(.cond (.t 21)
(.seq (.ops [zP 4 .mov [.c (.int .i64 0)],
 zP 5 .mov [.c (.int .i64 2)]])
.ret)
.skip))
(.seq (.ops [zM 22 1,
 zM 6 22])
(.seq (.seq (.ops [zM 23 0,
 zP 24 .lenS [.t 23],
 zP 25 .mov [.c (.int .i64 0)]])
(.block 0 (.loop L_demand_Hyper_0)))
(.seq (.ops [zM 41 6,
 zM 4 41,
 zP 5 .mov [.c (.int .i64 0)]])
.ret)))))⟩
abbrev f_demand_Hyper : Nat := 232
abbrev C_demand_Hyper : AFunc := C232
def C233 : AFunc := ⟨30, [.tmp 6, .tmp 7],
(.seq (.ops [⟨some 5, none, .a .box, [.t 2]⟩,
 zP 6 .mov [.c (.int .i64 0)],
 zP 7 .mov [.c (.int .i64 0)]])
(.seq (.seq (.ops [zM 9 0,
 zM 10 1,
⟨some 11, none, .call, [.c (.func (.func 143) [] []), .t 9, .t 10]⟩,
 zM 8 11])
(.seq (.ops [zM 12 8,
 zP 13 (.bin .neq) [.t 12, .c (.int .i64 0)],
 zM 14 13,
 zLg 15 5 14 false,
 zPg 16 (.bin .lss) [.t 15, .c (.int .i64 1)] 14 false,
 zP 17 .pick [.t 14, .c (.bool true), .t 16],
 zM 18 17,
 zLg 19 5 18 false,
 zPg 20 (.bin .gtr) [.t 19, .c (.int .i64 1048576)] 18 false,
 zP 21 .pick [.t 18, .c (.bool true), .t 20]])
(.cond (.t 21)
(.seq (.ops [zP 6 .mov [.c (.int .i64 0)],
 zP 7 .mov [.c (.int .i64 2)]])
.ret)
.skip)))
(.seq (.seq (.ops [zM 22 0,
 zP 23 (.mkfunc (.func 280) 0) [.t 5],
⟨some 24, none, .call, [.c (.func (.func 87) [] []), .t 22, .t 23]⟩])
(.cond (.t 24)
(.seq (.ops [zP 6 .mov [.c (.int .i64 0)],
 zP 7 .mov [.c (.int .i64 2)]])
.ret)
.skip))
(.seq (.ops [zM 25 0,
 zM 26 1,
 zP 27 (.mkfunc (.func 283) 0) [.t 5],
⟨some 28, none, .call, [.c (.func (.func 282) [] []), .t 25, .t 26, .t 27]⟩,
⟨some 29, none, .call, [.c (.func (.func 281) [] []), .t 28]⟩,
 zM 6 29,
 zP 7 .mov [.c (.int .i64 0)]])
.ret))))⟩
abbrev f_demand_Use : Nat := 233
abbrev C_demand_Use : AFunc := C233
def C234 : AFunc := ⟨6, [.tmp 4],
(.seq (.ops [⟨some 2, none, .a .box, [.t 0]⟩,
⟨some 3, none, .a .box, [.t 1]⟩,
 zP 4 .mov [.c .nilf]])
(.seq (.ops [zP 5 (.mkfunc (.func 284) 0) [.t 3, .t 2],
 zM 4 5])
.ret))⟩
abbrev f_local_look_slacks : Nat := 234
abbrev C_local_look_slacks : AFunc := C234
def L_local_sum_0 : AC := (.seq (.ops [zP 8 (.bin .lss) [.t 7, .t 6]])
(.seq (.cond (.t 8)
.skip
(.exit 0))
(.seq (.block 1 (.seq (.ops [zP 9 (.iaddrS 1) [.t 5, .t 7],
 zL 10 9,
 zM 4 10])
(.ops [zM 11 2,
 zM 12 4,
 zP 13 (.bin .add) [.t 11, .t 12],
 zM 2 13])))
(.ops [zP 14 (.bin .add) [.t 7, .c (.int .i64 1)],
 zM 7 14]))))
def C235 : AFunc := ⟨16, [.tmp 2],
(.seq (.ops [zP 2 .mov [.c (.int .i64 0)]])
(.seq (.seq (.ops [zM 5 0,
 zP 6 .lenS [.t 5],
 zP 7 .mov [.c (.int .i64 0)]])
(.block 0 (.loop L_local_sum_0)))
(.seq (.ops [zM 15 2,
 zM 2 15])
.ret)))⟩
abbrev f_local_sum : Nat := 235
abbrev C_local_sum : AFunc := C235
def C236 : AFunc := ⟨6, [.tmp 2],
(.seq (.ops [⟨some 1, none, .a .box, [.t 0]⟩,
 zP 2 .mov [.c (.bool false)]])
(.seq (.ops [⟨some 3, none, .r (.loadN 8), [.t 1]⟩,
⟨some 4, none, .call, [.c (.func (.func 237) [] []), .t 3]⟩,
 zP 5 .not [.t 4],
 zM 2 5])
.ret))⟩
abbrev f_demand_all_1 : Nat := 236
abbrev C_demand_all_1 : AFunc := C236
def C237 : AFunc := ⟨25, [.tmp 2],
(.seq (.ops [⟨some 1, none, .a .box, [.t 0]⟩,
 zP 2 .mov [.c (.bool false)]])
(.seq (.ops [zF 3 1 2,
 zL 4 3,
 zP 5 (.bin .leq) [.c (.int .i64 1), .t 4],
 zM 6 5,
 zFg 7 1 2 6 true,
 zLg 8 7 6 true,
 zFg 9 1 1 6 true,
 zLg 10 9 6 true,
 zPg 11 (.bin .leq) [.t 8, .t 10] 6 true,
 zP 12 .pick [.t 6, .t 11, .c (.bool false)],
 zM 13 12,
 zFg 14 1 1 13 true,
 zLg 15 14 13 true,
 zFg 16 1 0 13 true,
 zLg 17 16 13 true,
 zPg 18 (.bin .leq) [.t 15, .t 17] 13 true,
 zP 19 .pick [.t 13, .t 18, .c (.bool false)],
 zM 20 19,
 zFg 21 1 0 20 true,
 zLg 22 21 20 true,
 zPg 23 (.bin .leq) [.t 22, .c (.int .i64 64)] 20 true,
 zP 24 .pick [.t 20, .t 23, .c (.bool false)],
 zM 2 24])
.ret))⟩
abbrev f_demand_may : Nat := 237
abbrev C_demand_may : AFunc := C237
def L_slices_siftDownCmpFunc_rank_one_0 : AC := (.block 1 (.seq (.ops [zM 13 10,
 zP 14 (.bin .mul) [.c (.int .i64 2), .t 13],
 zP 15 (.bin .add) [.t 14, .c (.int .i64 1)],
 zM 11 15])
(.seq (.seq (.ops [zM 16 11,
 zM 17 2,
 zP 18 (.bin .geq) [.t 16, .t 17]])
(.cond (.t 18)
(.exit 0)
.skip))
(.seq (.seq (.dops [zM 19 11,
 zP 20 (.bin .add) [.t 19, .c (.int .i64 1)],
 zM 21 2,
 zP 22 (.bin .lss) [.t 20, .t 21],
 zM 23 22,
 zMg 24 4 23 true,
 zMg 25 0 23 true,
 zMg 26 3 23 true,
 zMg 27 11 23 true,
 zPg 28 (.bin .add) [.t 26, .t 27] 23 true,
 zPg 29 (.iaddrS 2) [.t 25, .t 28] 23 true,
⟨some 30, some (23, true), .r (.loadN 2), [.t 29]⟩,
 zMg 31 0 23 true,
 zMg 32 3 23 true,
 zMg 33 11 23 true,
 zPg 34 (.bin .add) [.t 32, .t 33] 23 true,
 zPg 35 (.bin .add) [.t 34, .c (.int .i64 1)] 23 true,
 zPg 36 (.iaddrS 2) [.t 31, .t 35] 23 true,
⟨some 37, some (23, true), .r (.loadN 2), [.t 36]⟩,
⟨some 38, some (23, true), .call, [.t 24, .t 30, .t 37]⟩,
 zPg 39 (.bin .lss) [.t 38, .c (.int .i64 0)] 23 true,
 zP 40 .pick [.t 23, .t 39, .c (.bool false)]] [[], [], [], [], [], [], [], [], [], [], [], [], [], [], [], [], [], [], [], [], [], []])
(.cond (.t 40)
(.ops [zM 41 11,
 zP 42 (.bin .add) [.t 41, .c (.int .i64 1)],
 zM 11 42])
.skip))
(.seq (.seq (.dops [zM 43 4,
 zM 44 0,
 zM 45 3,
 zM 46 10,
 zP 47 (.bin .add) [.t 45, .t 46],
 zP 48 (.iaddrS 2) [.t 44, .t 47],
⟨some 49, none, .r (.loadN 2), [.t 48]⟩,
 zM 50 0,
 zM 51 3,
 zM 52 11,
 zP 53 (.bin .add) [.t 51, .t 52],
 zP 54 (.iaddrS 2) [.t 50, .t 53],
⟨some 55, none, .r (.loadN 2), [.t 54]⟩,
⟨some 56, none, .call, [.t 43, .t 49, .t 55]⟩,
 zP 57 (.bin .lss) [.t 56, .c (.int .i64 0)],
 zP 58 .not [.t 57]] [[], [], [], [], [], [], [], [], [], [], [], [], [], [], [], []])
(.cond (.t 58)
.ret
.skip))
(.seq (.dops [zM 59 0,
 zM 60 3,
 zM 61 10,
 zP 62 (.bin .add) [.t 60, .t 61],
 zM 63 0,
 zM 64 3,
 zM 65 11,
 zP 66 (.bin .add) [.t 64, .t 65],
 zM 67 0,
 zM 68 3,
 zM 69 11,
 zP 70 (.bin .add) [.t 68, .t 69],
 zP 71 (.iaddrS 2) [.t 67, .t 70],
⟨some 72, none, .r (.loadN 2), [.t 71]⟩,
 zM 73 0,
 zM 74 3,
 zM 75 10,
 zP 76 (.bin .add) [.t 74, .t 75],
 zP 77 (.iaddrS 2) [.t 73, .t 76],
⟨some 78, none, .r (.loadN 2), [.t 77]⟩,
 zP 79 (.iaddrS 2) [.t 59, .t 62],
 zS 2 [.t 79, .t 72],
 zP 80 (.iaddrS 2) [.t 63, .t 66],
 zS 2 [.t 80, .t 78]] [[], [], [], [], [], [], [], [], [], [], [], [], [], [], [], [], [], [], [], [], [], [], [], []])
(.ops [zM 81 11,
 zM 10 81])))))))
def C238 : AFunc := ⟨82, [],
(.seq (.ops [zM 12 1,
 zM 10 12])
(.block 0 (.loop L_slices_siftDownCmpFunc_rank_one_0)))⟩
abbrev f_slices_siftDownCmpFunc_rank_one : Nat := 238
abbrev C_slices_siftDownCmpFunc_rank_one : AFunc := C238
def C239 : AFunc := ⟨7, [.tmp 2],
(.seq (.ops [zP 2 .mov [.c (.int .u64 0)]])
(.seq (.ops [zM 3 0,
 zP 4 (.conv .u64) [.t 3],
⟨some 5, none, .call, [.c (.func (.func 153) [] []), .t 4]⟩,
 zP 6 (.bin .shl) [.c (.int .u64 1), .t 5],
 zM 2 6])
.ret))⟩
abbrev f_slices_nextPowerOfTwo : Nat := 239
abbrev C_slices_nextPowerOfTwo : AFunc := C239
def C240 : AFunc := ⟨33, [.tmp 2],
(.seq (.ops [zP 2 .mov [.c (.int .u64 0)]])
(.seq (.dops [zM 3 0,
 zN 4 3,
 zL 5 4,
 zM 6 0,
 zN 7 6,
 zL 8 7,
 zP 9 (.bin .shl) [.t 8, .c (.int .u64 13)],
 zP 10 (.bin .xor) [.t 5, .t 9],
 zN 11 3,
 zS 1 [.t 11, .t 10]] [[], [], [], [], [], [], [], [], [], []])
(.seq (.dops [zM 12 0,
 zN 13 12,
 zL 14 13,
 zM 15 0,
 zN 16 15,
 zL 17 16,
 zP 18 (.bin .shr) [.t 17, .c (.int .u64 7)],
 zP 19 (.bin .xor) [.t 14, .t 18],
 zN 20 12,
 zS 1 [.t 20, .t 19]] [[], [], [], [], [], [], [], [], [], []])
(.seq (.dops [zM 21 0,
 zN 22 21,
 zL 23 22,
 zM 24 0,
 zN 25 24,
 zL 26 25,
 zP 27 (.bin .shl) [.t 26, .c (.int .u64 17)],
 zP 28 (.bin .xor) [.t 23, .t 27],
 zN 29 21,
 zS 1 [.t 29, .t 28]] [[], [], [], [], [], [], [], [], [], []])
(.seq (.ops [zM 30 0,
 zN 31 30,
 zL 32 31,
 zM 2 32])
.ret)))))⟩
abbrev f_slices_xorshift_Next : Nat := 240
abbrev C_slices_xorshift_Next : AFunc := C240
def C241 : AFunc := ⟨18, [.tmp 8],
(.seq (.ops [zP 8 .mov [.c (.int .i64 0)]])
(.seq (.ops [zM 9 0,
 zM 10 1,
 zP 11 (.bin .sub) [.t 10, .c (.int .i64 1)],
 zM 12 1,
 zM 13 1,
 zP 14 (.bin .add) [.t 13, .c (.int .i64 1)],
 zM 15 2,
 zM 16 3,
⟨some 17, none, .call, [.c (.func (.func 242) [] []), .t 9, .t 11, .t 12, .t 14, .t 15, .t 16]⟩,
 zM 8 17])
.ret))⟩
abbrev f_slices_medianAdjacentCmpFunc_rank_one : Nat := 241
abbrev C_slices_medianAdjacentCmpFunc_rank_one : AFunc := C241
def C242 : AFunc := ⟨41, [.tmp 12],
(.seq (.ops [zP 12 .mov [.c (.int .i64 0)]])
(.seq (.ops [zM 14 0,
 zM 15 1,
 zM 16 2,
 zM 17 4,
 zM 18 5,
⟨some 19, none, .call, [.c (.func (.func 287) [] []), .t 14, .t 15, .t 16, .t 17, .t 18]⟩,
 zM 13 19,
 zP 20 (.ext 0) [.t 13],
 zP 21 (.ext 1) [.t 13],
 zM 1 20,
 zM 2 21])
(.seq (.ops [zM 23 0,
 zM 24 2,
 zM 25 3,
 zM 26 4,
 zM 27 5,
⟨some 28, none, .call, [.c (.func (.func 287) [] []), .t 23, .t 24, .t 25, .t 26, .t 27]⟩,
 zM 22 28,
 zP 29 (.ext 0) [.t 22],
 zP 30 (.ext 1) [.t 22],
 zM 2 29,
 zM 3 30])
(.seq (.ops [zM 32 0,
 zM 33 1,
 zM 34 2,
 zM 35 4,
 zM 36 5,
⟨some 37, none, .call, [.c (.func (.func 287) [] []), .t 32, .t 33, .t 34, .t 35, .t 36]⟩,
 zM 31 37,
 zP 38 (.ext 0) [.t 31],
 zP 39 (.ext 1) [.t 31],
 zM 1 38,
 zM 2 39])
(.seq (.ops [zM 40 2,
 zM 12 40])
.ret)))))⟩
abbrev f_slices_medianCmpFunc_rank_one : Nat := 242
abbrev C_slices_medianCmpFunc_rank_one : AFunc := C242
def L_act_Row_Left_0 : AC := (.seq (.ops [zP 13 (.bin .lss) [.t 12, .t 11]])
(.seq (.cond (.t 13)
.skip
(.exit 0))
(.seq (.block 1 (.seq (.ops [zP 14 (.iaddrS 3) [.t 10, .t 12],
⟨some 15, none, .r (.loadN 3), [.t 14]⟩,
⟨some 4, none, .a (.alloc [(.int .i64 0), (.int .i64 0), (.str [])]), []⟩,
 zS 3 [.t 4, .t 15]])
(.seq (.ops [zF 16 4 0,
 zL 17 16,
 zP 18 (.bin .eql) [.t 17, .c (.int .i64 1)]])
(.cond (.t 18)
(.ops [zM 19 2,
 zF 20 4 1,
 zL 21 20,
 zP 22 (.bin .add) [.t 19, .t 21],
 zM 2 22])
.skip))))
(.ops [zP 23 (.bin .add) [.t 12, .c (.int .i64 1)],
 zM 12 23]))))
def C243 : AFunc := ⟨25, [.tmp 2],
(.seq (.ops [zP 2 .mov [.c (.int .i64 0)]])
(.seq (.seq (.ops [zM 5 0,
⟨some 6, none, .call, [.c (.func (.func 274) [] []), .t 5]⟩])
(.cond (.t 6)
(.seq (.ops [zP 2 .mov [.c (.int .i64 0)]])
.ret)
.skip))
(.seq (.seq (.ops [zM 7 0,
 zN 8 7,
 zF 9 8 0,
 zL 10 9,
 zP 11 .lenS [.t 10],
 zP 12 .mov [.c (.int .i64 0)]])
(.block 0 (.loop L_act_Row_Left_0)))
(.seq (.ops [zM 24 2,
 zM 2 24])
.ret))))⟩
abbrev f_act_Row_Left : Nat := 243
abbrev C_act_Row_Left : AFunc := C243
def C244 : AFunc := ⟨38, [.tmp 4],
(.seq (.ops [⟨some 3, none, .a .box, [.t 1]⟩,
 zP 4 .mov [.c (.bool false)]])
(.seq (.seq (.ops [zM 5 0,
 zN 6 5,
 zF 7 6 11,
 zL 8 7])
(.block 0 (.seq (.ops [zP 10 (.bin .eql) [.t 8, .c (.int .i64 2)],
 zM 9 10])
(.cond (.t 9)
(.seq (.dops [zM 11 0,
 zN 12 11,
 zF 13 12 12,
 zL 14 13,
 zM 15 0,
 zN 16 15,
 zF 17 16 1,
 zF 18 17 6,
 zL 19 18,
 zP 20 (.bin .geq) [.t 14, .t 19],
 zM 4 20] [[], [], [], [], [], [], [], [], [], [], []])
.ret)
(.seq (.ops [zP 22 (.bin .eql) [.t 8, .c (.int .i64 1)],
 zM 21 22])
(.cond (.t 21)
(.seq (.dops [zM 23 0,
 zN 24 23,
 zF 25 24 12,
 zL 26 25,
 zM 27 0,
 zN 28 27,
 zF 29 28 1,
 zF 30 29 4,
 zL 31 30,
 zP 32 (.bin .geq) [.t 26, .t 31],
 zM 33 32,
 zFg 34 3 0 33 true,
 zLg 35 34 33 true,
 zPg 36 (.bin .eql) [.t 35, .c (.int .i64 1)] 33 true,
 zP 37 .pick [.t 33, .t 36, .c (.bool false)],
 zM 4 37] [[], [], [], [], [], [], [], [], [], [], [], [], [], [], [], []])
.ret)
.skip))))))
(.seq (.ops [zP 4 .mov [.c (.bool false)]])
.ret)))⟩
abbrev f_job_Job_over : Nat := 244
abbrev C_job_Job_over : AFunc := C244
def C245 : AFunc := ⟨12, [.tmp 2],
(.seq (.ops [zP 2 .mov [.c (.bool false)]])
(.seq (.ops [zM 3 0,
 zP 4 (.eq .nilptr) [.t 3, .c .nilp],
 zM 5 4,
 zMg 6 0 5 false,
 zNg 7 6 5 false,
 zFg 8 7 0 5 false,
 zLg 9 8 5 false,
 zPg 10 (.eq .nilptr) [.t 9, .c .nilp] 5 false,
 zP 11 .pick [.t 5, .c (.bool true), .t 10],
 zM 2 11])
.ret))⟩
abbrev f_bell_Bells_none : Nat := 245
abbrev C_bell_Bells_none : AFunc := C245
def C246 : AFunc := ⟨60, [],
(.seq (.ops [zM 6 0,
 zN 7 6,
 zF 8 7 0,
 zL 9 8,
 zP 10 .lenS [.t 9],
 zP 11 (.bin .sub) [.t 10, .c (.int .i64 1)],
 zM 4 11])
(.seq (.ops [zM 12 0,
 zN 13 12,
 zF 14 13 0,
 zL 15 14,
 zM 16 4,
 zP 17 (.iaddrS 2) [.t 15, .t 16],
⟨some 18, none, .r (.loadN 2), [.t 17]⟩,
⟨some 5, none, .a (.alloc [(.int .i64 0), (.int .i64 0)]), []⟩,
 zS 2 [.t 5, .t 18]])
(.seq (.dops [zM 19 0,
 zM 20 0,
 zN 21 20,
 zF 22 21 0,
 zL 23 22,
 zM 24 1,
 zP 25 (.iaddrS 2) [.t 23, .t 24],
 zF 26 25 0,
 zL 27 26,
 zN 28 19,
 zF 29 28 1,
 zP 30 (.iaddrA 1 64) [.t 29, .t 27],
 zS 1 [.t 30, .c (.int .i64 0)]] [[], [], [], [], [], [], [], [], [], [], [], [], []])
(.seq (.ops [zM 31 0,
 zM 32 0,
 zN 33 32,
 zF 34 33 0,
 zL 35 34,
 zM 36 4,
 zP 37 (.slice 2 false true false) [.t 35, .t 36],
 zN 38 31,
 zF 39 38 0,
 zS 1 [.t 39, .t 37]])
(.seq (.seq (.ops [zM 40 1,
 zM 41 4,
 zP 42 (.bin .eql) [.t 40, .t 41]])
(.cond (.t 42)
.ret
.skip))
(.seq (.ops [zM 43 0,
 zM 44 1,
⟨some 45, none, .r (.loadN 2), [.t 5]⟩,
⟨some 46, none, .call, [.c (.func (.func 248) [] []), .t 43, .t 44, .t 45]⟩])
(.seq (.ops [zM 47 0,
 zM 48 1,
⟨some 49, none, .call, [.c (.func (.func 196) [] []), .t 47, .t 48]⟩])
(.dops [zM 50 0,
 zM 51 0,
 zF 52 5 0,
 zL 53 52,
 zN 54 51,
 zF 55 54 1,
 zP 56 (.iaddrA 1 64) [.t 55, .t 53],
 zL 57 56,
 zP 58 (.bin .sub) [.t 57, .c (.int .i64 1)],
⟨some 59, none, .call, [.c (.func (.func 288) [] []), .t 50, .t 58]⟩] [[], [], [], [], [], [], [], [], [], []]))))))))⟩
abbrev f_rank_heaped_cut : Nat := 246
abbrev C_rank_heaped_cut : AFunc := C246
def C247 : AFunc := ⟨24, [.tmp 4],
(.seq (.ops [⟨some 2, none, .a .box, [.t 0]⟩,
⟨some 3, none, .a .box, [.t 1]⟩,
 zP 4 .mov [.c (.bool false)]])
(.seq (.ops [zF 5 2 1,
 zL 6 5,
 zF 7 3 1,
 zL 8 7,
 zP 9 (.bin .lss) [.t 6, .t 8],
 zM 10 9,
 zFg 11 2 1 10 false,
 zLg 12 11 10 false,
 zFg 13 3 1 10 false,
 zLg 14 13 10 false,
 zPg 15 (.bin .eql) [.t 12, .t 14] 10 false,
 zMg 16 15 10 false,
 zFg 17 2 0 16 true,
 zLg 18 17 16 true,
 zFg 19 3 0 16 true,
 zLg 20 19 16 true,
 zPg 21 (.bin .lss) [.t 18, .t 20] 16 true,
 zPg 22 .pick [.t 16, .t 21, .c (.bool false)] 10 false,
 zP 23 .pick [.t 10, .c (.bool true), .t 22],
 zM 4 23])
.ret))⟩
abbrev f_rank_one_ahead : Nat := 247
abbrev C_rank_one_ahead : AFunc := C247
def C248 : AFunc := ⟨21, [],
(.seq (.ops [⟨some 5, none, .a .box, [.t 2]⟩])
(.seq (.dops [zM 6 0,
 zN 7 6,
 zF 8 7 0,
 zL 9 8,
 zM 10 1,
⟨some 11, none, .r (.loadN 2), [.t 5]⟩,
 zP 12 (.iaddrS 2) [.t 9, .t 10],
 zS 2 [.t 12, .t 11]] [[], [], [], [], [], [], [], []])
(.dops [zM 13 0,
 zF 14 5 0,
 zL 15 14,
 zM 16 1,
 zP 17 (.bin .add) [.t 16, .c (.int .i64 1)],
 zN 18 13,
 zF 19 18 1,
 zP 20 (.iaddrA 1 64) [.t 19, .t 15],
 zS 1 [.t 20, .t 17]] [[], [], [], [], [], [], [], [], []])))⟩
abbrev f_rank_heaped_lay : Nat := 248
abbrev C_rank_heaped_lay : AFunc := C248
def C249 : AFunc := ⟨8, [.tmp 4],
(.seq (.ops [⟨some 2, none, .a .box, [.t 0]⟩,
⟨some 3, none, .a .box, [.t 1]⟩,
 zP 4 .mov [.c (.int .i64 0)]])
(.seq (.ops [zL 5 2,
 zP 6 (.mkfunc (.func 290) 0) [.t 2, .t 3],
⟨some 7, none, .call, [.c (.func (.func 289) [] []), .t 5, .t 6]⟩,
 zM 4 7])
.ret))⟩
abbrev f_level_Ceiling : Nat := 249
abbrev C_level_Ceiling : AFunc := C249
def C250 : AFunc := ⟨21, [.tmp 6],
(.seq (.ops [zP 6 .mov [.c (.int .i64 0)]])
(.seq (.ops [zM 10 0,
 zM 11 1,
⟨some 12, none, .call, [.c (.func (.func 169) [] []), .t 10, .t 11]⟩,
 zM 9 12,
 zP 13 (.ext 0) [.t 9],
 zP 14 (.ext 1) [.t 9],
 zM 7 13,
 zM 8 14])
(.seq (.seq (.ops [zM 15 8,
 zP 16 (.bin .neq) [.t 15, .c (.int .i64 0)]])
(.cond (.t 16)
(.seq (.ops [zM 17 8,
 zM 6 17])
.ret)
.skip))
(.seq (.ops [zM 18 2,
 zM 19 7,
⟨some 20, none, .call, [.t 18, .t 19]⟩,
 zM 6 20])
.ret))))⟩
abbrev f_room_Room_with : Nat := 250
abbrev C_room_Room_with : AFunc := C250
def C251 : AFunc := ⟨43, [.tmp 2],
(.seq (.ops [zP 2 .mov [.c (.int .i64 0)]])
(.seq (.block 0 (.seq (.ops [zM 5 0,
⟨some 6, none, .call, [.c (.func (.func 168) [] []), .t 5]⟩,
 zM 4 6])
(.cond (.t 4)
(.seq (.ops [zP 2 .mov [.c (.int .i64 1)]])
.ret)
(.seq (.ops [zM 8 0,
 zN 9 8,
 zF 10 9 11,
 zL 11 10,
 zP 12 (.bin .eql) [.t 11, .c (.int .i64 3)],
 zM 7 12])
(.cond (.t 7)
(.seq (.ops [zP 2 .mov [.c (.int .i64 250)]])
.ret)
.skip)))))
(.seq (.seq (.ops [zM 13 0,
 zN 14 13,
 zF 15 14 0,
 zL 16 15,
⟨some 17, none, .call, [.c (.func (.func 292) [] []), .t 16]⟩,
 zM 3 17])
(.seq (.ops [zM 18 3,
 zP 19 (.bin .neq) [.t 18, .c (.int .i64 0)]])
(.cond (.t 19)
(.seq (.ops [zM 20 3,
 zM 2 20])
.ret)
.skip)))
(.seq (.ops [zM 21 0,
 zN 22 21,
 zF 23 22 14,
 zS 1 [.t 23, .c (.bool true)]])
(.seq (.ops [zM 24 0,
 zN 25 24,
 zF 26 25 10,
 zL 27 26,
 zP 28 (.bin .add) [.t 27, .c (.int .i64 1)],
 zN 29 24,
 zF 30 29 10,
 zS 1 [.t 30, .t 28]])
(.seq (.seq (.ops [zM 31 0,
 zN 32 31,
 zF 33 32 11,
 zL 34 33,
 zP 35 (.bin .neq) [.t 34, .c (.int .i64 0)]])
(.cond (.t 35)
(.ops [zM 36 0,
 zN 37 36,
 zF 38 37 12,
 zL 39 38,
 zP 40 (.bin .add) [.t 39, .c (.int .i64 1)],
 zN 41 36,
 zF 42 41 12,
 zS 1 [.t 42, .t 40]])
.skip))
(.seq (.ops [zP 2 .mov [.c (.int .i64 0)]])
.ret)))))))⟩
abbrev f_job_Job_Run : Nat := 251
abbrev C_job_Job_Run : AFunc := C251
def C252 : AFunc := ⟨21, [.tmp 4],
(.seq (.ops [zP 4 .mov [.c (.int .i64 0)]])
(.seq (.block 0 (.seq (.dops [zL 6 1,
 zN 7 6,
 zF 8 7 2,
 zL 9 8,
 zL 10 2,
 zP 11 (.iaddrS 8) [.t 9, .t 10],
 zF 12 11 5,
 zL 13 12,
 zP 14 (.bin .eql) [.t 13, .c (.int .i64 0)],
 zM 5 14] [[], [], [], [], [], [], [], [], [], []])
(.cond (.t 5)
(.seq (.ops [zP 4 .mov [.c (.int .i64 133)]])
.ret)
(.seq (.ops [zM 16 0,
⟨some 17, none, .call, [.c (.func (.func 222) [] []), .t 16]⟩,
 zP 18 (.bin .eql) [.t 17, .c (.int .i64 3)],
 zM 15 18])
(.cond (.t 15)
(.seq (.ops [zP 4 .mov [.c (.int .i64 0)]])
.ret)
.skip)))))
(.seq (.ops [zM 19 0,
⟨some 20, none, .call, [.c (.func (.func 253) [] []), .t 19, .c (.int .i64 3)]⟩,
 zM 4 20])
.ret)))⟩
abbrev f_room_Room_Ask_1 : Nat := 252
abbrev C_room_Room_Ask_1 : AFunc := C252
def C253 : AFunc := ⟨65, [.tmp 4],
(.seq (.ops [zP 4 .mov [.c (.int .i64 0)]])
(.seq (.block 0 (.seq (.ops [zM 6 0,
⟨some 7, none, .call, [.c (.func (.func 168) [] []), .t 6]⟩,
 zM 5 7])
(.cond (.t 5)
(.seq (.ops [zP 4 .mov [.c (.int .i64 1)]])
.ret)
(.seq (.seq (.ops [zM 9 1,
 zP 10 (.bin .lss) [.t 9, .c (.int .i64 1)],
 zM 8 10])
(.cond (.t 8)
.skip
(.ops [zM 11 1,
 zP 12 (.bin .gtr) [.t 11, .c (.int .i64 3)],
 zM 8 12])))
(.cond (.t 8)
(.seq (.ops [zP 4 .mov [.c (.int .i64 2)]])
.ret)
(.seq (.ops [zM 14 0,
 zN 15 14,
 zF 16 15 11,
 zL 17 16,
 zP 18 (.bin .eql) [.t 17, .c (.int .i64 3)],
 zM 19 18,
 zMg 20 1 19 true,
 zPg 21 (.bin .eql) [.t 20, .c (.int .i64 2)] 19 true,
 zP 22 .pick [.t 19, .t 21, .c (.bool false)],
 zM 13 22])
(.cond (.t 13)
(.seq (.ops [zM 23 0,
 zM 24 1,
 zN 25 23,
 zF 26 25 11,
 zS 1 [.t 26, .t 24]])
(.seq (.ops [zP 4 .mov [.c (.int .i64 0)]])
.ret))
(.seq (.ops [zM 28 0,
 zN 29 28,
 zF 30 29 11,
 zL 31 30,
 zP 32 (.bin .neq) [.t 31, .c (.int .i64 0)],
 zM 27 32])
(.cond (.t 27)
(.seq (.ops [zP 4 .mov [.c (.int .i64 130)]])
.ret)
(.seq (.dops [zM 34 1,
 zP 35 (.bin .neq) [.t 34, .c (.int .i64 1)],
 zM 36 35,
 zMg 37 0 36 true,
 zNg 38 37 36 true,
 zFg 39 38 13 36 true,
 zLg 40 39 36 true,
 zMg 41 0 36 true,
 zNg 42 41 36 true,
 zFg 43 42 1 36 true,
 zFg 44 43 7 36 true,
 zLg 45 44 36 true,
 zPg 46 (.bin .geq) [.t 40, .t 45] 36 true,
 zP 47 .pick [.t 36, .t 46, .c (.bool false)],
 zM 33 47] [[], [], [], [], [], [], [], [], [], [], [], [], [], [], []])
(.cond (.t 33)
(.seq (.ops [zP 4 .mov [.c (.int .i64 170)]])
.ret)
(.seq (.ops [zM 49 1,
 zP 50 (.bin .neq) [.t 49, .c (.int .i64 1)],
 zM 48 50])
(.cond (.t 48)
(.ops [zM 51 0,
 zN 52 51,
 zF 53 52 13,
 zL 54 53,
 zP 55 (.bin .add) [.t 54, .c (.int .i64 1)],
 zN 56 51,
 zF 57 56 13,
 zS 1 [.t 57, .t 55]])
.skip)))))))))))))
(.seq (.ops [zM 58 0,
 zM 59 0,
 zM 60 1,
 zN 61 58,
 zF 62 61 11,
 zS 1 [.t 62, .t 60],
 zN 63 59,
 zF 64 63 12,
 zS 1 [.t 64, .c (.int .i64 0)]])
(.seq (.ops [zP 4 .mov [.c (.int .i64 0)]])
.ret))))⟩
abbrev f_job_Job_Enter : Nat := 253
abbrev C_job_Job_Enter : AFunc := C253
def C254 : AFunc := ⟨8, [.tmp 4],
(.seq (.ops [zP 4 .mov [.c (.int .i64 0)]])
(.seq (.ops [zM 5 0,
 zM 6 1,
⟨some 7, none, .call, [.c (.func (.func 250) [] []), .t 5, .t 6, .c (.func (.func 293) [] [])]⟩,
 zM 4 7])
.ret))⟩
abbrev f_room_Room_Did : Nat := 254
abbrev C_room_Room_Did : AFunc := C254
def C255 : AFunc := ⟨25, [.tmp 6, .tmp 7],
(.seq (.ops [zP 6 .mov [.c .nilp],
 zP 7 .mov [.c (.int .i64 0)]])
(.seq (.seq (.ops [zM 9 0,
⟨some 10, none, .call, [.c (.func (.func 92) [] []), .t 9]⟩])
(.cond (.t 10)
(.seq (.ops [zP 6 .mov [.c .nilp],
 zP 7 .mov [.c (.int .i64 1)]])
.ret)
.skip))
(.seq (.ops [zM 11 0,
 zM 12 2,
⟨some 13, none, .call, [.c (.func (.func 63) [] []), .t 11, .t 12]⟩,
 zM 8 13])
(.seq (.seq (.ops [zM 14 8,
 zP 15 (.eq .nilptr) [.t 14, .c .nilp],
 zM 16 15,
 zMg 17 1 16 false,
 zPg 18 (.bin .lss) [.t 17, .c (.int .i64 0)] 16 false,
 zP 19 .pick [.t 16, .c (.bool true), .t 18],
 zM 20 19,
 zMg 21 1 20 false,
 zPg 22 (.bin .geq) [.t 21, .c (.int .i64 4)] 20 false,
 zP 23 .pick [.t 20, .c (.bool true), .t 22]])
(.cond (.t 23)
(.seq (.ops [zP 6 .mov [.c .nilp],
 zP 7 .mov [.c (.int .i64 9)]])
.ret)
.skip))
(.seq (.ops [zM 24 8,
 zM 6 24,
 zP 7 .mov [.c (.int .i64 0)]])
.ret)))))⟩
abbrev f_claim_Claim_asked : Nat := 255
abbrev C_claim_Claim_asked : AFunc := C255
def C256 : AFunc := ⟨8, [.tmp 2],
(.seq (.ops [zP 2 .mov [.c (.int .i64 0)]])
(.seq (.seq (.ops [zM 3 0,
⟨some 4, none, .call, [.c (.func (.func 222) [] []), .t 3]⟩,
 zP 5 (.bin .neq) [.t 4, .c (.int .i64 3)]])
(.cond (.t 5)
(.seq (.ops [zP 2 .mov [.c (.int .i64 132)]])
.ret)
.skip))
(.seq (.ops [zM 6 0,
⟨some 7, none, .call, [.c (.func (.func 253) [] []), .t 6, .c (.int .i64 2)]⟩,
 zM 2 7])
.ret)))⟩
abbrev f_room_Room_Hold_1 : Nat := 256
abbrev C_room_Room_Hold_1 : AFunc := C256
def C257 : AFunc := ⟨27, [.tmp 5],
(.seq (.ops [zP 5 .mov [.c (.int .i64 0)]])
(.seq (.seq (.ops [zM 7 0,
⟨some 8, none, .call, [.c (.func (.func 222) [] []), .t 7]⟩,
 zP 9 (.bin .geq) [.t 8, .c (.int .i64 2)]])
(.cond (.t 9)
(.seq (.ops [zP 5 .mov [.c (.int .i64 130)]])
.ret)
.skip))
(.seq (.dops [zL 10 1,
 zN 11 10,
 zF 12 11 0,
 zL 13 12,
 zL 14 2,
 zL 15 3,
⟨some 16, none, .call, [.c (.func (.func 258) [] []), .t 13, .t 14, .t 15]⟩,
 zM 6 16] [[], [], [], [], [], [], [], []])
(.seq (.seq (.ops [zM 17 6,
 zP 18 (.bin .eql) [.t 17, .c (.int .i64 0)],
 zM 19 18,
 zMg 20 0 19 true,
⟨some 21, some (19, true), .call, [.c (.func (.func 222) [] []), .t 20]⟩,
 zPg 22 (.bin .eql) [.t 21, .c (.int .i64 0)] 19 true,
 zP 23 .pick [.t 19, .t 22, .c (.bool false)]])
(.cond (.t 23)
(.seq (.ops [zM 24 0,
⟨some 25, none, .call, [.c (.func (.func 253) [] []), .t 24, .c (.int .i64 1)]⟩,
 zM 5 25])
.ret)
.skip))
(.seq (.ops [zM 26 6,
 zM 5 26])
.ret)))))⟩
abbrev f_room_Room_Lock_1 : Nat := 257
abbrev C_room_Room_Lock_1 : AFunc := C257
def C258 : AFunc := ⟨50, [.tmp 6],
(.seq (.ops [⟨some 5, none, .a .box, [.t 2]⟩,
 zP 6 .mov [.c (.int .i64 0)]])
(.seq (.seq (.ops [zM 9 0,
 zM 10 1,
⟨some 11, none, .call, [.c (.func (.func 294) [] []), .t 9, .t 10]⟩,
 zM 7 11])
(.seq (.ops [zM 12 7,
 zP 13 (.bin .neq) [.t 12, .c (.int .i64 0)]])
(.cond (.t 13)
(.seq (.ops [zM 14 7,
 zM 6 14])
.ret)
.skip)))
(.seq (.ops [zP 15 (.mkfunc (.func 295) 0) [.t 5],
 zM 8 15])
(.seq (.block 0 (.seq (.dops [zM 17 0,
 zN 18 17,
 zF 19 18 0,
 zL 20 19,
 zM 21 1,
 zL 22 5,
⟨some 23, none, .call, [.c (.func (.func 291) [] []), .t 20, .t 21, .t 22]⟩,
 zP 24 .not [.t 23],
 zM 16 24] [[], [], [], [], [], [], [], [], []])
(.cond (.t 16)
(.seq (.ops [zP 6 .mov [.c (.int .i64 133)]])
.ret)
(.seq (.ops [zM 26 0,
 zN 27 26,
 zF 28 27 1,
 zL 29 28,
 zM 30 8,
⟨some 31, none, .call, [.c (.func (.func 296) [] []), .t 29, .t 30]⟩,
 zM 25 31])
(.cond (.t 25)
(.seq (.ops [zP 6 .mov [.c (.int .i64 131)]])
.ret)
(.seq (.ops [zM 33 0,
 zM 34 1,
⟨some 35, none, .call, [.c (.func (.func 261) [] []), .t 33, .t 34]⟩,
 zP 36 .lenS [.t 35],
 zP 37 (.bin .geq) [.t 36, .c (.int .i64 4)],
 zM 32 37])
(.cond (.t 32)
(.seq (.ops [zP 6 .mov [.c (.int .i64 130)]])
.ret)
.skip)))))))
(.seq (.dops [zM 38 0,
 zM 39 0,
 zN 40 39,
 zF 41 40 1,
 zL 42 41,
 zM 43 1,
 zL 44 5,
 zP 45 (.build [(.int .i64 0), (.int .i64 0)] [(0, 1), (1, 1)]) [.t 43, .t 44],
⟨some 46, none, .a (.bslice [(.int .i64 0), (.int .i64 0)] 1 2 [0]), [.t 45]⟩,
⟨some 47, none, .e (.append 2 16), [.t 42, .t 46]⟩,
 zN 48 38,
 zF 49 48 1,
 zS 1 [.t 49, .t 47]] [[], [], [], [], [], [], [], [], [], [], [], [], []])
(.seq (.ops [zP 6 .mov [.c (.int .i64 0)]])
.ret))))))⟩
abbrev f_stack_Stack_Lock : Nat := 258
abbrev C_stack_Stack_Lock : AFunc := C258
def C259 : AFunc := ⟨29, [.tmp 4],
(.seq (.ops [zP 4 .mov [.c (.int .i64 0)]])
(.seq (.seq (.dops [zL 8 1,
 zN 9 8,
 zF 10 9 0,
 zL 11 10,
 zL 12 2,
⟨some 13, none, .call, [.c (.func (.func 260) [] []), .t 11, .t 12]⟩,
 zM 7 13,
 zP 14 (.ext 0) [.t 7],
 zP 15 (.ext 1) [.t 7],
 zM 5 14,
 zM 6 15] [[], [], [], [], [], [], [], [], [], [], []])
(.seq (.ops [zM 16 6,
 zP 17 (.bin .neq) [.t 16, .c (.int .i64 0)]])
(.cond (.t 17)
(.seq (.ops [zM 18 6,
 zM 4 18])
.ret)
.skip)))
(.seq (.seq (.dops [zL 19 1,
 zN 20 19,
 zF 21 20 0,
 zL 22 21,
 zL 23 2,
⟨some 24, none, .call, [.c (.func (.func 261) [] []), .t 22, .t 23]⟩,
 zP 25 .lenS [.t 24],
 zP 26 (.bin .eql) [.t 25, .c (.int .i64 0)]] [[], [], [], [], [], [], [], []])
(.cond (.t 26)
(.ops [zM 27 0,
⟨some 28, none, .call, [.c (.func (.func 262) [] []), .t 27]⟩])
.skip))
(.seq (.ops [zP 4 .mov [.c (.int .i64 0)]])
.ret))))⟩
abbrev f_room_Room_Unlock_1 : Nat := 259
abbrev C_room_Room_Unlock_1 : AFunc := C259
def C260 : AFunc := ⟨46, [.tmp 4, .tmp 5],
(.seq (.ops [zP 4 .mov [.c (.int .i64 0)],
 zP 5 .mov [.c (.int .i64 0)]])
(.seq (.seq (.ops [zM 8 0,
 zM 9 1,
⟨some 10, none, .call, [.c (.func (.func 294) [] []), .t 8, .t 9]⟩,
 zM 6 10])
(.seq (.ops [zM 11 6,
 zP 12 (.bin .neq) [.t 11, .c (.int .i64 0)]])
(.cond (.t 12)
(.seq (.ops [zM 13 6,
 zP 4 .mov [.c (.int .i64 0)],
 zM 5 13])
.ret)
.skip)))
(.seq (.ops [zM 14 0,
 zM 15 1,
⟨some 16, none, .call, [.c (.func (.func 297) [] []), .t 14, .t 15]⟩,
 zM 7 16])
(.seq (.seq (.ops [zM 17 7,
 zP 18 (.bin .lss) [.t 17, .c (.int .i64 0)]])
(.cond (.t 18)
(.seq (.ops [zP 4 .mov [.c (.int .i64 0)],
 zP 5 .mov [.c (.int .i64 132)]])
.ret)
.skip))
(.seq (.ops [zM 19 0,
 zN 20 19,
 zF 21 20 1,
 zL 22 21,
 zM 23 7,
 zP 24 (.iaddrS 2) [.t 22, .t 23],
 zF 25 24 1,
 zL 26 25,
 zM 4 26])
(.seq (.dops [zM 27 0,
 zM 28 0,
 zN 29 28,
 zF 30 29 1,
 zL 31 30,
 zM 32 7,
 zM 33 7,
 zP 34 (.slice 2 false true true) [.t 31, .t 32, .t 33],
 zM 35 0,
 zN 36 35,
 zF 37 36 1,
 zL 38 37,
 zM 39 7,
 zP 40 (.bin .add) [.t 39, .c (.int .i64 1)],
 zP 41 (.slice 2 true false false) [.t 38, .t 40],
⟨some 42, none, .e (.append 2 16), [.t 34, .t 41]⟩,
 zN 43 27,
 zF 44 43 1,
 zS 1 [.t 44, .t 42]] [[], [], [], [], [], [], [], [], [], [], [], [], [], [], [], [], [], [], []])
(.seq (.ops [zM 45 4,
 zM 4 45,
 zP 5 .mov [.c (.int .i64 0)]])
.ret)))))))⟩
abbrev f_stack_Stack_Unlock : Nat := 260
abbrev C_stack_Stack_Unlock : AFunc := C260
def L_stack_Stack_Held_0 : AC := (.seq (.ops [zP 18 (.bin .lss) [.t 17, .t 16]])
(.seq (.cond (.t 18)
.skip
(.exit 0))
(.seq (.block 1 (.seq (.ops [zP 19 (.iaddrS 2) [.t 15, .t 17],
⟨some 20, none, .r (.loadN 2), [.t 19]⟩,
⟨some 7, none, .a (.alloc [(.int .i64 0), (.int .i64 0)]), []⟩,
 zS 2 [.t 7, .t 20]])
(.seq (.ops [zM 21 5,
⟨some 22, none, .r (.loadN 2), [.t 7]⟩,
⟨some 23, none, .call, [.t 21, .t 22]⟩])
(.cond (.t 23)
(.ops [zM 24 4,
 zF 25 7 1,
 zL 26 25,
⟨some 27, none, .a (.bslice [(.int .i64 0)] 1 1 [0]), [.t 26]⟩,
⟨some 28, none, .e (.append 1 8), [.t 24, .t 27]⟩,
 zM 4 28])
.skip))))
(.ops [zP 29 (.bin .add) [.t 17, .c (.int .i64 1)],
 zM 17 29]))))
def C261 : AFunc := ⟨31, [.tmp 4],
(.seq (.ops [zP 4 .mov [.c .nils]])
(.seq (.seq (.ops [zM 8 0,
 zP 9 (.eq .nilptr) [.t 8, .c .nilp]])
(.cond (.t 9)
(.seq (.ops [zP 4 .mov [.c .nils]])
.ret)
.skip))
(.seq (.ops [zM 10 1,
⟨some 11, none, .call, [.c (.func (.func 298) [] []), .t 10]⟩,
 zM 5 11])
(.seq (.seq (.ops [zM 12 0,
 zN 13 12,
 zF 14 13 1,
 zL 15 14,
 zP 16 .lenS [.t 15],
 zP 17 .mov [.c (.int .i64 0)]])
(.block 0 (.loop L_stack_Stack_Held_0)))
(.seq (.ops [zM 30 4,
 zM 4 30])
.ret)))))⟩
abbrev f_stack_Stack_Held : Nat := 261
abbrev C_stack_Stack_Held : AFunc := C261
def C262 : AFunc := ⟨18, [.tmp 2],
(.seq (.ops [zP 2 .mov [.c (.int .i64 0)]])
(.seq (.block 0 (.seq (.ops [zM 4 0,
⟨some 5, none, .call, [.c (.func (.func 168) [] []), .t 4]⟩,
 zM 3 5])
(.cond (.t 3)
(.seq (.ops [zP 2 .mov [.c (.int .i64 1)]])
.ret)
(.seq (.ops [zM 7 0,
 zN 8 7,
 zF 9 8 11,
 zL 10 9,
 zP 11 (.bin .eql) [.t 10, .c (.int .i64 0)],
 zM 6 11])
(.cond (.t 6)
(.seq (.ops [zP 2 .mov [.c (.int .i64 132)]])
.ret)
.skip)))))
(.seq (.ops [zM 12 0,
 zM 13 0,
 zN 14 12,
 zF 15 14 11,
 zS 1 [.t 15, .c (.int .i64 0)],
 zN 16 13,
 zF 17 16 12,
 zS 1 [.t 17, .c (.int .i64 0)]])
(.seq (.ops [zP 2 .mov [.c (.int .i64 0)]])
.ret))))⟩
abbrev f_job_Job_Leave : Nat := 262
abbrev C_job_Job_Leave : AFunc := C262
def C263 : AFunc := ⟨8, [.tmp 2],
(.seq (.ops [zP 2 .mov [.c (.int .i64 0)]])
(.seq (.seq (.ops [zM 3 0,
⟨some 4, none, .call, [.c (.func (.func 222) [] []), .t 3]⟩,
 zP 5 (.bin .neq) [.t 4, .c (.int .i64 2)]])
(.cond (.t 5)
(.seq (.ops [zP 2 .mov [.c (.int .i64 132)]])
.ret)
.skip))
(.seq (.ops [zM 6 0,
⟨some 7, none, .call, [.c (.func (.func 262) [] []), .t 6]⟩,
 zM 2 7])
.ret)))⟩
abbrev f_room_Room_Give_1 : Nat := 263
abbrev C_room_Room_Give_1 : AFunc := C263
def C264 : AFunc := ⟨12, [.tmp 2],
(.seq (.ops [zP 2 .mov [.c (.bool false)]])
(.seq (.ops [zM 3 0,
 zP 4 (.eq .nilptr) [.t 3, .c .nilp],
 zM 5 4,
 zMg 6 0 5 false,
 zNg 7 6 5 false,
 zFg 8 7 1 5 false,
 zLg 9 8 5 false,
 zPg 10 .not [.t 9] 5 false,
 zP 11 .pick [.t 5, .c (.bool true), .t 10],
 zM 2 11])
.ret))⟩
abbrev f_route_Routes_none : Nat := 264
abbrev C_route_Routes_none : AFunc := C264
def C265 : AFunc := ⟨27, [.tmp 4],
(.seq (.ops [zP 4 .mov [.c .nilp]])
(.seq (.seq (.ops [zM 5 0,
 zP 6 (.eq .nilptr) [.t 5, .c .nilp],
 zM 7 6,
 zMg 8 1 7 false,
 zPg 9 (.bin .lss) [.t 8, .c (.int .i64 0)] 7 false,
 zP 10 .pick [.t 7, .c (.bool true), .t 9],
 zM 11 10,
 zMg 12 1 11 false,
 zMg 13 0 11 false,
 zNg 14 13 11 false,
 zFg 15 14 0 11 false,
 zLg 16 15 11 false,
 zPg 17 .lenS [.t 16] 11 false,
 zPg 18 (.bin .geq) [.t 12, .t 17] 11 false,
 zP 19 .pick [.t 11, .c (.bool true), .t 18]])
(.cond (.t 19)
(.seq (.ops [zP 4 .mov [.c .nilp]])
.ret)
.skip))
(.seq (.ops [zM 20 0,
 zN 21 20,
 zF 22 21 0,
 zL 23 22,
 zM 24 1,
 zP 25 (.iaddrS 1) [.t 23, .t 24],
 zL 26 25,
 zM 4 26])
.ret)))⟩
abbrev f_route_Routes_of : Nat := 265
abbrev C_route_Routes_of : AFunc := C265
def C266 : AFunc := ⟨30, [.tmp 6],
(.seq (.ops [zP 6 .mov [.c (.int .i64 0)]])
(.seq (.block 0 (.seq (.ops [zM 8 0,
⟨some 9, none, .call, [.c (.func (.func 299) [] []), .t 8]⟩,
 zM 7 9])
(.cond (.t 7)
(.seq (.ops [zP 6 .mov [.c (.int .i64 1)]])
.ret)
(.seq (.ops [zM 11 1,
 zP 12 .lenStr [.t 11],
 zM 13 0,
 zN 14 13,
 zF 15 14 0,
 zL 16 15,
 zP 17 (.bin .gtr) [.t 12, .t 16],
 zM 18 17,
 zMg 19 2 18 false,
⟨some 20, some (18, false), .call, [.c (.func (.func 117) [] []), .t 19, .c (.int .i64 0), .c (.int .i64 1099511627776)]⟩,
 zPg 21 .not [.t 20] 18 false,
 zP 22 .pick [.t 18, .c (.bool true), .t 21],
 zM 10 22])
(.cond (.t 10)
(.seq (.ops [zP 6 .mov [.c (.int .i64 2)]])
.ret)
.skip)))))
(.seq (.ops [zM 23 0,
 zN 24 23,
 zF 25 24 1,
 zL 26 25,
 zM 27 1,
 zM 28 2,
⟨some 29, none, .invoke (zs [101, 115, 99, 97, 112, 101, 109, 101, 110, 116, 47, 112, 111, 114, 116, 46, 112, 117, 116]), [.t 26, .t 27, .t 28]⟩,
 zM 6 29])
.ret)))⟩
abbrev f_port_Way_Send : Nat := 266
abbrev C_port_Way_Send : AFunc := C266
def C267 : AFunc := ⟨36, [.tmp 8, .tmp 9, .tmp 10],
(.seq (.ops [zP 8 .mov [.c (.str [])],
 zP 9 .mov [.c (.bool false)],
 zP 10 .mov [.c (.int .i64 0)]])
(.seq (.seq (.ops [zM 12 0,
⟨some 13, none, .call, [.c (.func (.func 264) [] []), .t 12]⟩])
(.cond (.t 13)
(.seq (.ops [zP 8 .mov [.c (.str [])],
 zP 9 .mov [.c (.bool false)],
 zP 10 .mov [.c (.int .i64 1)]])
.ret)
.skip))
(.seq (.ops [zM 14 0,
 zM 15 2,
⟨some 16, none, .call, [.c (.func (.func 265) [] []), .t 14, .t 15]⟩,
 zM 11 16])
(.seq (.seq (.ops [zM 17 11,
 zP 18 (.eq .nilptr) [.t 17, .c .nilp],
 zM 19 18,
 zMg 20 11 19 false,
 zNg 21 20 19 false,
 zFg 22 21 2 19 false,
 zLg 23 22 19 false,
 zMg 24 1 19 false,
 zPg 25 (.bin .neq) [.t 23, .t 24] 19 false,
 zP 26 .pick [.t 19, .c (.bool true), .t 25]])
(.cond (.t 26)
(.seq (.ops [zP 8 .mov [.c (.str [])],
 zP 9 .mov [.c (.bool false)],
 zP 10 .mov [.c (.int .i64 220)]])
.ret)
.skip))
(.seq (.ops [zM 27 11,
 zN 28 27,
 zF 29 28 0,
 zL 30 29,
 zM 31 3,
⟨some 32, none, .call, [.c (.func (.func 300) [] []), .t 30, .t 31]⟩,
 zP 33 (.ext 0) [.t 32],
 zP 34 (.ext 1) [.t 32],
 zP 35 (.ext 2) [.t 32],
 zM 8 33,
 zM 9 34,
 zM 10 35])
.ret)))))⟩
abbrev f_route_Routes_Recv : Nat := 267
abbrev C_route_Routes_Recv : AFunc := C267
def C268 : AFunc := ⟨13, [.tmp 4],
(.seq (.ops [zP 4 .mov [.c (.bool false)]])
(.seq (.ops [zM 5 0,
⟨some 6, none, .a (.bslice [(.int .i64 0)] 1 1 [0]), [.t 5]⟩,
⟨some 7, none, .call, [.c (.func (.func 269) [] []), .c (.int .i64 3), .t 6]⟩,
 zM 8 7,
 zMg 9 1 8 true,
⟨some 10, some (8, true), .a (.bslice [(.int .i64 0)] 1 1 [0]), [.t 9]⟩,
⟨some 11, some (8, true), .call, [.c (.func (.func 269) [] []), .c (.int .i64 15), .t 10]⟩,
 zP 12 .pick [.t 8, .t 11, .c (.bool false)],
 zM 4 12])
.ret))⟩
abbrev f_bell_may : Nat := 268
abbrev C_bell_may : AFunc := C268
def L_bell_within_0 : AC := (.seq (.ops [zP 10 (.bin .lss) [.t 9, .t 8]])
(.seq (.cond (.t 10)
.skip
(.exit 0))
(.seq (.block 1 (.seq (.ops [zP 11 (.iaddrS 1) [.t 7, .t 9],
 zL 12 11,
 zM 6 12])
(.seq (.ops [zM 13 6,
 zP 14 (.bin .lss) [.t 13, .c (.int .i64 0)],
 zM 15 14,
 zMg 16 6 15 false,
 zMg 17 0 15 false,
 zPg 18 (.bin .gtr) [.t 16, .t 17] 15 false,
 zP 19 .pick [.t 15, .c (.bool true), .t 18]])
(.cond (.t 19)
(.seq (.ops [zP 4 .mov [.c (.bool false)]])
.ret)
.skip))))
(.ops [zP 20 (.bin .add) [.t 9, .c (.int .i64 1)],
 zM 9 20]))))
def C269 : AFunc := ⟨21, [.tmp 4],
(.seq (.ops [zP 4 .mov [.c (.bool false)]])
(.seq (.seq (.ops [zM 7 1,
 zP 8 .lenS [.t 7],
 zP 9 .mov [.c (.int .i64 0)]])
(.block 0 (.loop L_bell_within_0)))
(.seq (.ops [zP 4 .mov [.c (.bool true)]])
.ret)))⟩
abbrev f_bell_within : Nat := 269
abbrev C_bell_within : AFunc := C269
def C270 : AFunc := ⟨21, [.tmp 4],
(.seq (.ops [zP 4 .mov [.c (.bool false)]])
(.seq (.ops [zM 8 0,
 zM 9 1,
⟨some 10, none, .call, [.c (.func (.func 195) [] []), .t 8, .t 9]⟩,
 zM 7 10,
 zP 11 (.ext 0) [.t 7],
 zP 12 (.ext 1) [.t 7],
 zM 5 11,
 zM 6 12])
(.seq (.seq (.ops [zM 13 6])
(.cond (.t 13)
(.ops [zM 14 0,
 zN 15 14,
 zF 16 15 0,
 zL 17 16,
 zM 18 5,
⟨some 19, none, .call, [.c (.func (.func 246) [] []), .t 17, .t 18]⟩])
.skip))
(.seq (.ops [zM 20 6,
 zM 4 20])
.ret))))⟩
abbrev f_rank_Rank_Remove : Nat := 270
abbrev C_rank_Rank_Remove : AFunc := C270
def C271 : AFunc := ⟨9, [.tmp 4],
(.seq (.ops [zP 4 .mov [.c (.int .i64 0)]])
(.seq (.ops [zM 5 0,
 zP 6 (.bin .mul) [.t 5, .c (.int .i64 16)],
 zM 7 1,
 zP 8 (.bin .add) [.t 6, .t 7],
 zM 4 8])
.ret))⟩
abbrev f_bell_place : Nat := 271
abbrev C_bell_place : AFunc := C271
def L_slices_IndexFunc_api_Op_api_Op_0 : AC := (.seq (.ops [zP 9 (.bin .lss) [.t 8, .t 7]])
(.seq (.cond (.t 9)
.skip
(.exit 0))
(.seq (.block 1 (.seq (.ops [zM 10 8,
 zM 5 10])
(.seq (.ops [zM 11 1,
 zM 12 0,
 zM 13 5,
 zP 14 (.iaddrS 3) [.t 12, .t 13],
⟨some 15, none, .r (.loadN 3), [.t 14]⟩,
⟨some 16, none, .call, [.t 11, .t 15]⟩])
(.cond (.t 16)
(.seq (.ops [zM 17 5,
 zM 4 17])
.ret)
.skip))))
(.ops [zP 18 (.bin .add) [.t 8, .c (.int .i64 1)],
 zM 8 18]))))
def C272 : AFunc := ⟨19, [.tmp 4],
(.seq (.ops [zP 4 .mov [.c (.int .i64 0)]])
(.seq (.seq (.ops [zM 6 0,
 zP 7 .lenS [.t 6],
 zP 8 .mov [.c (.int .i64 0)]])
(.block 0 (.loop L_slices_IndexFunc_api_Op_api_Op_0)))
(.seq (.ops [zP 4 .mov [.c (.int .i64 (-1))]])
.ret)))⟩
abbrev f_slices_IndexFunc_api_Op_api_Op : Nat := 272
abbrev C_slices_IndexFunc_api_Op_api_Op : AFunc := C272
def C273 : AFunc := ⟨15, [.tmp 0],
(.seq (.ops [zP 0 .mov [.c .nilm]])
(.seq (.ops [zP 3 (.build [(.int .i64 0), (.int .i64 0)] [(0, 1), (1, 1)]) [.c (.int .i64 1), .c (.int .i64 64)],
 zP 4 (.build [(.int .i64 0), (.int .i64 0)] [(0, 1), (1, 1)]) [.c (.int .i64 0), .c (.int .i64 7)],
⟨some 1, none, .a (.alloc [(.int .i64 0), (.int .i64 0)]), []⟩,
⟨some 2, none, .a (.alloc [(.int .i64 0), (.int .i64 0)]), []⟩,
 zS 2 [.t 1, .t 3],
 zS 2 [.t 2, .t 4]])
(.seq (.ops [⟨some 5, none, .a .mkmap, []⟩,
⟨some 6, none, .r (.loadN 2), [.t 1]⟩,
⟨none, none, .e .ins, [.t 5, .c (.int .i64 1), .t 6]⟩,
⟨some 7, none, .r (.loadN 2), [.t 1]⟩,
⟨none, none, .e .ins, [.t 5, .c (.int .i64 8), .t 7]⟩,
⟨some 8, none, .r (.loadN 2), [.t 2]⟩,
⟨none, none, .e .ins, [.t 5, .c (.int .i64 2), .t 8]⟩,
⟨some 9, none, .r (.loadN 2), [.t 2]⟩,
⟨none, none, .e .ins, [.t 5, .c (.int .i64 6), .t 9]⟩,
⟨some 10, none, .r (.loadN 2), [.t 2]⟩,
⟨none, none, .e .ins, [.t 5, .c (.int .i64 7), .t 10]⟩,
 zP 11 (.build [(.int .i64 0), (.int .i64 0)] []) [],
⟨none, none, .e .ins, [.t 5, .c (.int .i64 3), .t 11]⟩,
 zP 12 (.build [(.int .i64 0), (.int .i64 0)] []) [],
⟨none, none, .e .ins, [.t 5, .c (.int .i64 4), .t 12]⟩,
 zP 13 (.build [(.int .i64 0), (.int .i64 0)] []) [],
⟨none, none, .e .ins, [.t 5, .c (.int .i64 5), .t 13]⟩,
 zM 14 5,
 zM 0 14])
.ret)))⟩
abbrev f_act_spans : Nat := 273
abbrev C_act_spans : AFunc := C273
def C274 : AFunc := ⟨12, [.tmp 2],
(.seq (.ops [zP 2 .mov [.c (.bool false)]])
(.seq (.ops [zM 3 0,
 zP 4 (.eq .nilptr) [.t 3, .c .nilp],
 zM 5 4,
 zMg 6 0 5 false,
 zNg 7 6 5 false,
 zFg 8 7 1 5 false,
 zLg 9 8 5 false,
 zPg 10 .not [.t 9] 5 false,
 zP 11 .pick [.t 5, .c (.bool true), .t 10],
 zM 2 11])
.ret))⟩
abbrev f_act_Row_none : Nat := 274
abbrev C_act_Row_none : AFunc := C274
def C275 : AFunc := ⟨14, [.tmp 2, .tmp 3],
(.seq (.ops [zP 2 .mov [.c (.int .i64 0)],
 zP 3 .mov [.c (.int .i64 0)]])
(.seq (.seq (.ops [zM 4 0,
⟨some 5, none, .call, [.c (.func (.func 168) [] []), .t 4]⟩])
(.cond (.t 5)
(.seq (.ops [zP 2 .mov [.c (.int .i64 0)],
 zP 3 .mov [.c (.int .i64 0)]])
.ret)
.skip))
(.seq (.dops [zM 6 0,
 zN 7 6,
 zF 8 7 11,
 zL 9 8,
 zM 10 0,
 zN 11 10,
 zF 12 11 12,
 zL 13 12,
 zM 2 9,
 zM 3 13] [[], [], [], [], [], [], [], [], [], []])
.ret)))⟩
abbrev f_job_Job_In : Nat := 275
abbrev C_job_Job_In : AFunc := C275
def C276 : AFunc := ⟨9, [.tmp 4],
(.seq (.ops [zP 4 .mov [.c (.bool false)]])
(.seq (.ops [zM 5 0,
 zM 6 1,
⟨some 7, none, .call, [.c (.func (.func 301) [] []), .t 5, .t 6]⟩,
 zP 8 (.bin .geq) [.t 7, .c (.int .i64 0)],
 zM 4 8])
.ret))⟩
abbrev f_slices_Contains_int_int : Nat := 276
abbrev C_slices_Contains_int_int : AFunc := C276
def C277 : AFunc := ⟨40, [.cell 4 2 true],
(.seq (.ops [⟨some 2, none, .a .box, [.t 0]⟩,
⟨some 3, none, .a .box, [.t 1]⟩,
⟨some 4, none, .a (.alloc [(.int .i64 0), (.int .i64 0)]), []⟩])
(.seq (.dops [zF 10 2 0,
 zL 11 10,
 zF 12 3 1,
 zL 13 12,
 zP 14 (.bin .mul) [.t 11, .t 13],
 zF 15 3 0,
 zL 16 15,
 zF 17 2 1,
 zL 18 17,
 zP 19 (.bin .mul) [.t 16, .t 18],
 zP 20 (.bin .add) [.t 14, .t 19],
 zF 21 2 1,
 zL 22 21,
 zF 23 3 1,
 zL 24 23,
 zP 25 (.bin .mul) [.t 22, .t 24],
 zM 5 20,
 zM 6 25] [[], [], [], [], [], [], [], [], [], [], [], [], [], [], [], [], [], []])
(.seq (.ops [zM 27 5,
 zM 28 6,
⟨some 29, none, .call, [.c (.func (.func 302) [] []), .t 27, .t 28]⟩,
 zM 26 29,
 zP 30 (.ext 0) [.t 26],
 zP 31 (.ext 1) [.t 26],
 zM 7 30,
 zM 8 31])
(.seq (.ops [zM 32 7,
 zM 9 32])
(.seq (.dops [zM 33 5,
 zM 34 9,
 zP 35 (.bin .quo) [.t 33, .t 34],
 zM 36 6,
 zM 37 9,
 zP 38 (.bin .quo) [.t 36, .t 37],
 zP 39 (.build [(.int .i64 0), (.int .i64 0)] [(0, 1), (1, 1)]) [.t 35, .t 38],
 zS 2 [.t 4, .t 39]] [[], [], [], [], [], [], [], []])
.ret)))))⟩
abbrev f_share_fraction_int_plus : Nat := 277
abbrev C_share_fraction_int_plus : AFunc := C277
def L_delay_More_0 : AC := (.seq (.ops [zP 30 (.bin .lss) [.t 29, .t 28]])
(.seq (.cond (.t 30)
.skip
(.exit 0))
(.seq (.block 1 (.seq (.ops [zM 31 29,
 zP 32 (.iaddrS 8) [.t 27, .t 29],
⟨some 33, none, .r (.loadN 8), [.t 32]⟩,
⟨some 10, none, .a (.alloc [(.int .i64 0), (.int .i64 0), (.int .i64 0), (.int .i64 0), (.int .i64 0), (.int .i64 0), (.int .i64 0), (.int .i64 0)]), []⟩,
 zM 9 31,
 zS 8 [.t 10, .t 33]])
(.dops [zM 34 8,
 zM 35 9,
 zF 36 10 7,
 zL 37 36,
⟨some 38, none, .r (.loadN 5), [.t 6]⟩,
⟨some 39, none, .r (.loadN 8), [.t 10]⟩,
⟨some 40, none, .call, [.c (.func (.func 304) [] []), .t 38, .t 39]⟩,
 zF 41 10 6,
 zL 42 41,
 zP 43 (.bin .add) [.t 40, .t 42],
 zP 44 (.bin .sub) [.t 43, .c (.int .i64 1)],
 zP 45 (.bin .mul) [.t 37, .t 44],
 zP 46 (.iaddrS 1) [.t 34, .t 35],
 zS 1 [.t 46, .t 45]] [[], [], [], [0, 7], [], [], [], [], [0, 7], [], [], [], [], []])))
(.ops [zP 47 (.bin .add) [.t 29, .c (.int .i64 1)],
 zM 29 47]))))
def C278 : AFunc := ⟨49, [.tmp 4, .tmp 5],
(.seq (.ops [zP 4 .mov [.c .nils],
 zP 5 .mov [.c (.int .i64 0)]])
(.seq (.ops [zM 12 0,
 zM 13 1,
⟨some 14, none, .call, [.c (.func (.func 303) [] []), .t 12, .t 13]⟩,
 zM 11 14,
 zP 15 (.ext 0) [.t 11],
 zP 16 (.ext 1) [.t 11],
⟨some 6, none, .a (.alloc [(.int .i64 0), (.int .i64 0), .nils, .nils, (.int .i64 0)]), []⟩,
 zS 5 [.t 6, .t 15],
 zM 7 16])
(.seq (.seq (.ops [zM 17 7,
 zP 18 (.bin .neq) [.t 17, .c (.int .i64 0)]])
(.cond (.t 18)
(.seq (.ops [zM 19 7,
 zP 4 .mov [.c .nils],
 zM 5 19])
.ret)
.skip))
(.seq (.ops [zF 20 6 0,
 zF 21 20 2,
 zL 22 21,
 zP 23 .lenS [.t 22],
⟨some 24, none, .a (.mkslice [(.int .i64 0)] 1 8), [.t 23, .t 23]⟩,
 zM 8 24])
(.seq (.seq (.ops [zF 25 6 0,
 zF 26 25 2,
 zL 27 26,
 zP 28 .lenS [.t 27],
 zP 29 .mov [.c (.int .i64 0)]])
(.block 0 (.loop L_delay_More_0)))
(.seq (.ops [zM 48 8,
 zM 4 48,
 zP 5 .mov [.c (.int .i64 0)]])
.ret))))))⟩
abbrev f_delay_More : Nat := 278
abbrev C_delay_More : AFunc := C278
def C279 : AFunc := ⟨53, [.tmp 4, .tmp 5],
(.seq (.ops [zP 4 .mov [.c (.int .i64 0)],
 zP 5 .mov [.c (.int .i64 0)]])
(.seq (.seq (.ops [zM 7 0,
⟨some 8, none, .a (.bslice [(.int .i64 0)] 1 1 [0]), [.t 7]⟩,
⟨some 9, none, .call, [.c (.func (.func 305) [] []), .t 8]⟩,
 zP 10 .not [.t 9],
 zM 11 10,
 zMg 12 1 11 false,
⟨some 13, some (11, false), .call, [.c (.func (.func 305) [] []), .t 12]⟩,
 zPg 14 .not [.t 13] 11 false,
 zP 15 .pick [.t 11, .c (.bool true), .t 14],
 zM 16 15,
 zMg 17 1 16 false,
⟨some 18, some (16, false), .call, [.c (.func (.func 276) [] []), .t 17, .c (.int .i64 0)]⟩,
 zP 19 .pick [.t 16, .c (.bool true), .t 18]])
(.cond (.t 19)
(.seq (.ops [zP 4 .mov [.c (.int .i64 0)],
 zP 5 .mov [.c (.int .i64 2)]])
.ret)
.skip))
(.seq (.ops [zP 20 (.build [(.int .i64 0), (.int .i64 0)] [(0, 1)]) [.c (.int .i64 1)],
⟨some 21, none, .a .box, [.t 20]⟩,
 zM 6 21])
(.seq (.ops [zM 22 6,
 zP 23 (.mkfunc (.func 307) 1) [.t 22],
 zM 24 1,
⟨some 25, none, .call, [.c (.func (.func 306) [] []), .t 23, .t 24]⟩])
(.seq (.seq (.ops [zM 26 6,
 zN 27 26,
 zF 28 27 1,
 zL 29 28,
 zP 30 (.bin .eql) [.t 29, .c (.int .i64 0)],
 zM 31 30,
 zMg 32 6 31 true,
 zNg 33 32 31 true,
 zFg 34 33 0 31 true,
 zLg 35 34 31 true,
 zMg 36 0 31 true,
 zPg 37 (.bin .gtr) [.t 35, .t 36] 31 true,
 zP 38 .pick [.t 31, .t 37, .c (.bool false)]])
(.cond (.t 38)
(.ops [zM 39 6,
 zN 40 39,
 zF 41 40 1,
 zS 1 [.t 41, .c (.int .i64 10)]])
.skip))
(.seq (.dops [zM 42 6,
 zN 43 42,
 zF 44 43 0,
 zL 45 44,
 zM 46 6,
 zN 47 46,
 zF 48 47 1,
 zL 49 48,
⟨some 50, none, .call, [.c (.func (.func 308) [] []), .t 45, .t 49]⟩,
 zP 51 (.ext 0) [.t 50],
 zP 52 (.ext 1) [.t 50],
 zM 4 51,
 zM 5 52] [[], [], [], [], [], [], [], [], [], [], [], [], []])
.ret))))))⟩
abbrev f_ticks_Lcm : Nat := 279
abbrev C_ticks_Lcm : AFunc := C279
def C280 : AFunc := ⟨9, [.tmp 3],
(.seq (.ops [⟨some 2, none, .a .box, [.t 0]⟩,
 zP 3 .mov [.c (.bool false)]])
(.seq (.ops [zL 4 1,
 zF 5 2 0,
 zL 6 5,
 zP 7 (.bin .rem) [.t 4, .t 6],
 zP 8 (.bin .neq) [.t 7, .c (.int .i64 0)],
 zM 3 8])
.ret))⟩
abbrev f_demand_Use_1 : Nat := 280
abbrev C_demand_Use_1 : AFunc := C280
def L_demand_sum_0 : AC := (.seq (.ops [zP 8 (.bin .lss) [.t 7, .t 6]])
(.seq (.cond (.t 8)
.skip
(.exit 0))
(.seq (.block 1 (.seq (.ops [zP 9 (.iaddrS 1) [.t 5, .t 7],
 zL 10 9,
 zM 4 10])
(.ops [zM 11 2,
 zM 12 4,
 zP 13 (.bin .add) [.t 11, .t 12],
 zM 2 13])))
(.ops [zP 14 (.bin .add) [.t 7, .c (.int .i64 1)],
 zM 7 14]))))
def C281 : AFunc := ⟨16, [.tmp 2],
(.seq (.ops [zP 2 .mov [.c (.int .i64 0)]])
(.seq (.seq (.ops [zM 5 0,
 zP 6 .lenS [.t 5],
 zP 7 .mov [.c (.int .i64 0)]])
(.block 0 (.loop L_demand_sum_0)))
(.seq (.ops [zM 15 2,
 zM 2 15])
.ret)))⟩
abbrev f_demand_sum : Nat := 281
abbrev C_demand_sum : AFunc := C281
def L_demand_each_0 : AC := (.seq (.ops [zP 16 (.bin .lss) [.t 15, .t 14]])
(.seq (.cond (.t 16)
.skip
(.exit 0))
(.seq (.block 1 (.seq (.ops [zM 17 15,
 zP 18 (.iaddrS 8) [.t 13, .t 15],
⟨some 19, none, .r (.loadN 8), [.t 18]⟩,
⟨some 9, none, .a (.alloc [(.int .i64 0), (.int .i64 0), (.int .i64 0), (.int .i64 0), (.int .i64 0), (.int .i64 0), (.int .i64 0), (.int .i64 0)]), []⟩,
 zM 8 17,
 zS 8 [.t 9, .t 19]])
(.dops [zM 20 7,
 zM 21 8,
 zM 22 2,
⟨some 23, none, .r (.loadN 8), [.t 9]⟩,
⟨some 24, none, .call, [.t 22, .t 23]⟩,
 zF 25 9 2,
 zL 26 25,
 zM 27 1,
 zM 28 8,
 zP 29 (.iaddrS 1) [.t 27, .t 28],
 zL 30 29,
 zP 31 (.bin .add) [.t 26, .t 30],
 zP 32 (.bin .mul) [.t 24, .t 31],
 zP 33 (.iaddrS 1) [.t 20, .t 21],
 zS 1 [.t 33, .t 32]] [[], [], [], [], [], [], [0, 5], [], [], [], [0, 5], [], [], [], []])))
(.ops [zP 34 (.bin .add) [.t 15, .c (.int .i64 1)],
 zM 15 34]))))
def C282 : AFunc := ⟨36, [.tmp 6],
(.seq (.ops [zP 6 .mov [.c .nils]])
(.seq (.ops [zM 10 0,
 zP 11 .lenS [.t 10],
⟨some 12, none, .a (.mkslice [(.int .i64 0)] 1 8), [.t 11, .t 11]⟩,
 zM 7 12])
(.seq (.seq (.ops [zM 13 0,
 zP 14 .lenS [.t 13],
 zP 15 .mov [.c (.int .i64 0)]])
(.block 0 (.loop L_demand_each_0)))
(.seq (.ops [zM 35 7,
 zM 6 35])
.ret))))⟩
abbrev f_demand_each : Nat := 282
abbrev C_demand_each : AFunc := C282
def C283 : AFunc := ⟨8, [.tmp 3],
(.seq (.ops [⟨some 2, none, .a .box, [.t 0]⟩,
 zP 3 .mov [.c (.int .i64 0)]])
(.seq (.ops [zL 4 1,
 zF 5 2 0,
 zL 6 5,
 zP 7 (.bin .quo) [.t 4, .t 6],
 zM 3 7])
.ret))⟩
abbrev f_demand_Use_2 : Nat := 283
abbrev C_demand_Use_2 : AFunc := C283
def L_local_look_slacks_1_0 : AC := (.seq (.seq (.ops [zM 5 4,
 zL 6 1,
 zP 7 (.bin .leq) [.t 5, .t 6]])
(.cond (.t 7)
.skip
(.exit 0)))
(.seq (.block 1 (.seq (.ops [⟨some 10, none, .r (.loadN 6), [.t 2]⟩,
 zM 11 4,
⟨some 12, none, .call, [.c (.func (.func 285) [] []), .t 10, .t 11]⟩,
 zP 13 (.bin .gtr) [.t 12, .c (.int .i64 0)],
 zM 14 13,
 zMg 15 0 14 true,
 zMg 16 4 14 true,
⟨some 17, some (14, true), .r (.loadN 6), [.t 2]⟩,
 zMg 18 4 14 true,
⟨some 19, some (14, true), .call, [.c (.func (.func 286) [] []), .t 17, .t 18]⟩,
⟨some 20, some (14, true), .call, [.t 15, .t 16, .t 19]⟩,
 zPg 21 .not [.t 20] 14 true,
 zP 22 .pick [.t 14, .t 21, .c (.bool false)]])
(.cond (.t 22)
.ret
.skip)))
(.ops [zM 8 4,
 zP 9 (.bin .add) [.t 8, .c (.int .i64 1)],
 zM 4 9])))
def C284 : AFunc := ⟨23, [],
(.seq (.ops [zP 4 .mov [.c (.int .i64 1)]])
(.block 0 (.loop L_local_look_slacks_1_0)))⟩
abbrev f_local_look_slacks_1 : Nat := 284
abbrev C_local_look_slacks_1 : AFunc := C284
def C285 : AFunc := ⟨18, [.tmp 4],
(.seq (.ops [⟨some 2, none, .a .box, [.t 0]⟩,
 zP 4 .mov [.c (.int .i64 0)]])
(.seq (.ops [zF 8 2 0,
 zF 9 8 2,
 zL 10 9,
 zF 11 2 5,
 zL 12 11,
 zM 13 1,
⟨some 14, none, .call, [.c (.func (.func 309) [] []), .t 10, .t 12, .t 13]⟩,
 zM 7 14,
 zP 15 (.ext 0) [.t 7],
 zP 16 (.ext 1) [.t 7],
 zM 5 15,
 zM 6 16])
(.seq (.ops [zM 17 5,
 zM 4 17])
.ret)))⟩
abbrev f_local_look_asks : Nat := 285
abbrev C_local_look_asks : AFunc := C285
def C286 : AFunc := ⟨38, [.tmp 4],
(.seq (.ops [⟨some 2, none, .a .box, [.t 0]⟩,
 zP 4 .mov [.c (.int .i64 0)]])
(.seq (.ops [zF 10 2 0,
 zF 11 10 0,
 zL 12 11,
 zF 13 2 0,
 zF 14 13 1,
 zL 15 14,
 zM 16 1,
⟨some 17, none, .call, [.c (.func (.func 310) [] []), .t 12, .t 15, .t 16]⟩,
 zM 9 17,
 zP 18 (.ext 0) [.t 9],
 zP 19 (.ext 1) [.t 9],
 zM 5 18,
 zM 6 19])
(.seq (.ops [zF 21 2 3,
 zL 22 21,
 zF 23 2 4,
 zL 24 23,
 zM 25 1,
⟨some 26, none, .call, [.c (.func (.func 311) [] []), .t 22, .t 24, .t 25]⟩,
 zM 20 26,
 zP 27 (.ext 0) [.t 20],
 zP 28 (.ext 1) [.t 20],
 zM 7 27,
 zM 8 28])
(.seq (.ops [zM 29 5,
⟨some 30, none, .r (.loadN 6), [.t 2]⟩,
 zM 31 1,
⟨some 32, none, .call, [.c (.func (.func 285) [] []), .t 30, .t 31]⟩,
 zP 33 .neg [.t 32],
 zM 34 7,
 zP 35 .neg [.t 34],
⟨some 36, none, .a (.bslice [(.int .i64 0)] 3 1 [0, 1, 2]), [.t 29, .t 33, .t 35]⟩,
⟨some 37, none, .call, [.c (.func (.func 235) [] []), .t 36]⟩,
 zM 4 37])
.ret))))⟩
abbrev f_local_look_slack : Nat := 286
abbrev C_local_look_slack : AFunc := C286
def C287 : AFunc := ⟨32, [.tmp 10, .tmp 11],
(.seq (.ops [zP 10 .mov [.c (.int .i64 0)],
 zP 11 .mov [.c (.int .i64 0)]])
(.seq (.seq (.dops [zM 12 4,
 zM 13 0,
 zM 14 2,
 zP 15 (.iaddrS 2) [.t 13, .t 14],
⟨some 16, none, .r (.loadN 2), [.t 15]⟩,
 zM 17 0,
 zM 18 1,
 zP 19 (.iaddrS 2) [.t 17, .t 18],
⟨some 20, none, .r (.loadN 2), [.t 19]⟩,
⟨some 21, none, .call, [.t 12, .t 16, .t 20]⟩,
 zP 22 (.bin .lss) [.t 21, .c (.int .i64 0)]] [[], [], [], [], [], [], [], [], [], [], []])
(.cond (.t 22)
(.seq (.ops [zM 23 3,
 zN 24 23,
 zL 25 24,
 zP 26 (.bin .add) [.t 25, .c (.int .i64 1)],
 zN 27 23,
 zS 1 [.t 27, .t 26]])
(.seq (.ops [zM 28 2,
 zM 29 1,
 zM 10 28,
 zM 11 29])
.ret))
.skip))
(.seq (.ops [zM 30 1,
 zM 31 2,
 zM 10 30,
 zM 11 31])
.ret)))⟩
abbrev f_slices_order2CmpFunc_rank_one : Nat := 287
abbrev C_slices_order2CmpFunc_rank_one : AFunc := C287
def L_rank_heaped_down_0 : AC := (.block 1 (.seq (.ops [zM 13 1,
 zP 14 (.bin .mul) [.c (.int .i64 2), .t 13],
 zP 15 (.bin .add) [.t 14, .c (.int .i64 1)],
 zM 5 15])
(.seq (.seq (.dops [zM 16 5,
 zP 17 (.bin .add) [.t 16, .c (.int .i64 1)],
 zM 18 0,
 zN 19 18,
 zF 20 19 0,
 zL 21 20,
 zP 22 .lenS [.t 21],
 zP 23 (.bin .lss) [.t 17, .t 22],
 zM 24 23,
 zMg 25 0 24 true,
 zNg 26 25 24 true,
 zFg 27 26 0 24 true,
 zLg 28 27 24 true,
 zMg 29 5 24 true,
 zPg 30 (.bin .add) [.t 29, .c (.int .i64 1)] 24 true,
 zPg 31 (.iaddrS 2) [.t 28, .t 30] 24 true,
⟨some 32, some (24, true), .r (.loadN 2), [.t 31]⟩,
 zMg 33 0 24 true,
 zNg 34 33 24 true,
 zFg 35 34 0 24 true,
 zLg 36 35 24 true,
 zMg 37 5 24 true,
 zPg 38 (.iaddrS 2) [.t 36, .t 37] 24 true,
⟨some 39, some (24, true), .r (.loadN 2), [.t 38]⟩,
⟨some 40, some (24, true), .call, [.c (.func (.func 247) [] []), .t 32, .t 39]⟩,
 zP 41 .pick [.t 24, .t 40, .c (.bool false)]] [[], [], [], [], [], [], [], [], [], [], [], [], [], [], [], [], [], [], [], [], [], [], [], [], [], []])
(.cond (.t 41)
(.ops [zM 42 5,
 zP 43 (.bin .add) [.t 42, .c (.int .i64 1)],
 zM 5 43])
.skip))
(.seq (.seq (.dops [zM 44 5,
 zM 45 0,
 zN 46 45,
 zF 47 46 0,
 zL 48 47,
 zP 49 .lenS [.t 48],
 zP 50 (.bin .geq) [.t 44, .t 49],
 zM 51 50,
 zMg 52 0 51 false,
 zNg 53 52 51 false,
 zFg 54 53 0 51 false,
 zLg 55 54 51 false,
 zMg 56 5 51 false,
 zPg 57 (.iaddrS 2) [.t 55, .t 56] 51 false,
⟨some 58, some (51, false), .r (.loadN 2), [.t 57]⟩,
⟨some 59, some (51, false), .r (.loadN 2), [.t 4]⟩,
⟨some 60, some (51, false), .call, [.c (.func (.func 247) [] []), .t 58, .t 59]⟩,
 zPg 61 .not [.t 60] 51 false,
 zP 62 .pick [.t 51, .c (.bool true), .t 61]] [[], [], [], [], [], [], [], [], [], [], [], [], [], [], [], [], [], [], []])
(.cond (.t 62)
(.exit 0)
.skip))
(.seq (.ops [zM 63 0,
 zM 64 1,
 zM 65 0,
 zN 66 65,
 zF 67 66 0,
 zL 68 67,
 zM 69 5,
 zP 70 (.iaddrS 2) [.t 68, .t 69],
⟨some 71, none, .r (.loadN 2), [.t 70]⟩,
⟨some 72, none, .call, [.c (.func (.func 248) [] []), .t 63, .t 64, .t 71]⟩])
(.ops [zM 73 5,
 zM 1 73]))))))
def C288 : AFunc := ⟨78, [],
(.seq (.ops [zM 6 0,
 zN 7 6,
 zF 8 7 0,
 zL 9 8,
 zM 10 1,
 zP 11 (.iaddrS 2) [.t 9, .t 10],
⟨some 12, none, .r (.loadN 2), [.t 11]⟩,
⟨some 4, none, .a (.alloc [(.int .i64 0), (.int .i64 0)]), []⟩,
 zS 2 [.t 4, .t 12]])
(.seq (.block 0 (.loop L_rank_heaped_down_0))
(.ops [zM 74 0,
 zM 75 1,
⟨some 76, none, .r (.loadN 2), [.t 4]⟩,
⟨some 77, none, .call, [.c (.func (.func 248) [] []), .t 74, .t 75, .t 76]⟩])))⟩
abbrev f_rank_heaped_down : Nat := 288
abbrev C_rank_heaped_down : AFunc := C288
def L_level_highest_api_Task_0 : AC := (.seq (.ops [zP 10 (.bin .lss) [.t 9, .t 8]])
(.seq (.cond (.t 10)
.skip
(.exit 0))
(.seq (.block 1 (.seq (.ops [zM 11 9,
 zP 12 (.iaddrS 8) [.t 7, .t 9],
⟨some 13, none, .r (.loadN 8), [.t 12]⟩,
⟨some 6, none, .a (.alloc [(.int .i64 0), (.int .i64 0), (.int .i64 0), (.int .i64 0), (.int .i64 0), (.int .i64 0), (.int .i64 0), (.int .i64 0)]), []⟩,
 zM 5 11,
 zS 8 [.t 6, .t 13]])
(.ops [zM 14 4,
 zM 15 1,
 zM 16 5,
⟨some 17, none, .r (.loadN 8), [.t 6]⟩,
⟨some 18, none, .call, [.t 15, .t 16, .t 17]⟩,
 zP 19 .mx [.t 14, .t 18],
 zM 4 19])))
(.ops [zP 20 (.bin .add) [.t 9, .c (.int .i64 1)],
 zM 9 20]))))
def C289 : AFunc := ⟨22, [.tmp 4],
(.seq (.ops [zP 4 .mov [.c (.int .i64 0)]])
(.seq (.seq (.ops [zM 7 0,
 zP 8 .lenS [.t 7],
 zP 9 .mov [.c (.int .i64 0)]])
(.block 0 (.loop L_level_highest_api_Task_0)))
(.seq (.ops [zM 21 4,
 zM 4 21])
.ret)))⟩
abbrev f_level_highest_api_Task : Nat := 289
abbrev C_level_highest_api_Task : AFunc := C289
def C290 : AFunc := ⟨15, [.tmp 6],
(.seq (.ops [⟨some 5, none, .a .box, [.t 1]⟩,
 zP 6 .mov [.c (.int .i64 0)]])
(.seq (.seq (.ops [zL 7 2,
 zM 8 0,
 zL 9 3,
⟨some 10, none, .call, [.c (.func (.func 291) [] []), .t 7, .t 8, .t 9]⟩,
 zP 11 .not [.t 10]])
(.cond (.t 11)
(.seq (.ops [zP 6 .mov [.c (.int .i64 0)]])
.ret)
.skip))
(.seq (.ops [zL 12 2,
 zM 13 0,
⟨some 14, none, .call, [.c (.func (.func 199) [] []), .t 12, .t 13]⟩,
 zM 6 14])
.ret)))⟩
abbrev f_level_Ceiling_1 : Nat := 290
abbrev C_level_Ceiling_1 : AFunc := C290
def C291 : AFunc := ⟨32, [.tmp 6],
(.seq (.ops [zP 6 .mov [.c (.bool false)]])
(.seq (.seq (.ops [zM 7 1,
 zP 8 (.bin .lss) [.t 7, .c (.int .i64 0)],
 zM 9 8,
 zMg 10 1 9 false,
 zMg 11 0 9 false,
 zPg 12 .lenS [.t 11] 9 false,
 zPg 13 (.bin .geq) [.t 10, .t 12] 9 false,
 zP 14 .pick [.t 9, .c (.bool true), .t 13],
 zM 15 14,
 zMg 16 2 15 false,
 zPg 17 (.bin .lss) [.t 16, .c (.int .i64 0)] 15 false,
 zP 18 .pick [.t 15, .c (.bool true), .t 17],
 zM 19 18,
 zMg 20 2 19 false,
 zPg 21 (.bin .geq) [.t 20, .c (.int .i64 8)] 19 false,
 zP 22 .pick [.t 19, .c (.bool true), .t 21]])
(.cond (.t 22)
(.seq (.ops [zP 6 .mov [.c (.bool false)]])
.ret)
.skip))
(.seq (.dops [zM 23 0,
 zM 24 1,
 zP 25 (.iaddrS 8) [.t 23, .t 24],
 zF 26 25 3,
 zL 27 26,
 zM 28 2,
 zP 29 (.bin .shl) [.c (.int .i64 1), .t 28],
 zP 30 (.bin .and) [.t 27, .t 29],
 zP 31 (.bin .neq) [.t 30, .c (.int .i64 0)],
 zM 6 31] [[], [], [], [], [], [], [], [], [], []])
.ret)))⟩
abbrev f_level_Uses : Nat := 291
abbrev C_level_Uses : AFunc := C291
def C292 : AFunc := ⟨30, [.tmp 2],
(.seq (.ops [zP 2 .mov [.c (.int .i64 0)]])
(.seq (.block 0 (.seq (.ops [zM 4 0,
⟨some 5, none, .call, [.c (.func (.func 274) [] []), .t 4]⟩,
 zM 3 5])
(.cond (.t 3)
(.seq (.ops [zP 2 .mov [.c (.int .i64 1)]])
.ret)
(.seq (.ops [zM 7 0,
⟨some 8, none, .call, [.c (.func (.func 312) [] []), .t 7]⟩,
 zP 9 .not [.t 8],
 zM 6 9])
(.cond (.t 6)
(.seq (.ops [zP 2 .mov [.c (.int .i64 250)]])
.ret)
.skip)))))
(.seq (.seq (.ops [zM 10 0,
 zN 11 10,
 zF 12 11 0,
 zL 13 12,
 zP 14 (.iaddrS 3) [.t 13, .c (.int .i64 0)],
 zF 15 14 1,
 zL 16 15,
 zP 17 (.bin .sub) [.t 16, .c (.int .i64 1)],
 zP 18 (.iaddrS 3) [.t 13, .c (.int .i64 0)],
 zF 19 18 1,
 zS 1 [.t 19, .t 17]])
(.seq (.ops [zM 20 0,
 zN 21 20,
 zF 22 21 0,
 zL 23 22,
 zP 24 (.iaddrS 3) [.t 23, .c (.int .i64 0)],
 zF 25 24 1,
 zL 26 25,
 zP 27 (.bin .eql) [.t 26, .c (.int .i64 0)]])
(.cond (.t 27)
(.ops [zM 28 0,
⟨some 29, none, .call, [.c (.func (.func 313) [] []), .t 28]⟩])
.skip)))
(.seq (.ops [zP 2 .mov [.c (.int .i64 0)]])
.ret))))⟩
abbrev f_act_Row_Ran : Nat := 292
abbrev C_act_Row_Ran : AFunc := C292
def C293 : AFunc := ⟨23, [.tmp 2],
(.seq (.ops [zP 2 .mov [.c (.int .i64 0)]])
(.seq (.seq (.ops [zM 4 0,
⟨some 5, none, .call, [.c (.func (.func 168) [] []), .t 4]⟩])
(.cond (.t 5)
(.seq (.ops [zP 2 .mov [.c (.int .i64 1)]])
.ret)
.skip))
(.seq (.ops [zM 6 0,
 zN 7 6,
 zF 8 7 0,
 zL 9 8,
⟨some 10, none, .call, [.c (.func (.func 314) [] []), .t 9]⟩,
 zM 3 10])
(.seq (.ops [zM 11 0,
 zM 12 0,
 zN 13 12,
 zF 14 13 14,
 zL 15 14,
 zM 16 15,
 zMg 17 3 16 false,
 zPg 18 (.bin .eql) [.t 17, .c (.int .i64 0)] 16 false,
 zP 19 .pick [.t 16, .c (.bool true), .t 18],
 zN 20 11,
 zF 21 20 14,
 zS 1 [.t 21, .t 19]])
(.seq (.ops [zM 22 3,
 zM 2 22])
.ret)))))⟩
abbrev f_job_Job_Did : Nat := 293
abbrev C_job_Job_Did : AFunc := C293
def C294 : AFunc := ⟨27, [.tmp 4],
(.seq (.ops [zP 4 .mov [.c (.int .i64 0)]])
(.seq (.block 0 (.seq (.ops [zM 6 0,
 zP 7 (.eq .nilptr) [.t 6, .c .nilp],
 zM 8 7,
 zMg 9 0 8 false,
 zNg 10 9 8 false,
 zFg 11 10 2 8 false,
 zLg 12 11 8 false,
 zPg 13 .not [.t 12] 8 false,
 zP 14 .pick [.t 8, .c (.bool true), .t 13],
 zM 5 14])
(.cond (.t 5)
(.seq (.ops [zP 4 .mov [.c (.int .i64 1)]])
.ret)
(.seq (.ops [zM 16 1,
 zP 17 (.bin .lss) [.t 16, .c (.int .i64 0)],
 zM 18 17,
 zMg 19 1 18 false,
 zMg 20 0 18 false,
 zNg 21 20 18 false,
 zFg 22 21 0 18 false,
 zLg 23 22 18 false,
 zPg 24 .lenS [.t 23] 18 false,
 zPg 25 (.bin .geq) [.t 19, .t 24] 18 false,
 zP 26 .pick [.t 18, .c (.bool true), .t 25],
 zM 15 26])
(.cond (.t 15)
(.seq (.ops [zP 4 .mov [.c (.int .i64 9)]])
.ret)
.skip)))))
(.seq (.ops [zP 4 .mov [.c (.int .i64 0)]])
.ret)))⟩
abbrev f_stack_Stack_asked : Nat := 294
abbrev C_stack_Stack_asked : AFunc := C294
def C295 : AFunc := ⟨8, [.tmp 3],
(.seq (.ops [⟨some 2, none, .a .box, [.t 0]⟩,
 zP 3 .mov [.c (.bool false)]])
(.seq (.ops [zF 4 2 1,
 zL 5 4,
 zL 6 1,
 zP 7 (.bin .eql) [.t 5, .t 6],
 zM 3 7])
.ret))⟩
abbrev f_stack_Stack_Lock_1 : Nat := 295
abbrev C_stack_Stack_Lock_1 : AFunc := C295
def C296 : AFunc := ⟨9, [.tmp 4],
(.seq (.ops [zP 4 .mov [.c (.bool false)]])
(.seq (.ops [zM 5 0,
 zM 6 1,
⟨some 7, none, .call, [.c (.func (.func 315) [] []), .t 5, .t 6]⟩,
 zP 8 (.bin .geq) [.t 7, .c (.int .i64 0)],
 zM 4 8])
.ret))⟩
abbrev f_slices_ContainsFunc_stack_entry_stack_entry : Nat := 296
abbrev C_slices_ContainsFunc_stack_entry_stack_entry : AFunc := C296
def L_stack_Stack_last_0a : AC := (.seq (.ops [zM 6 15])
(.ops [⟨some 7, none, .a (.alloc [(.int .i64 0), (.int .i64 0)]), []⟩,
 zS 2 [.t 7, .t 16]]))
def L_stack_Stack_last_0b : AC := (.block 1 (.seq (.ops [zL 17 5,
⟨some 18, none, .r (.loadN 2), [.t 7]⟩,
⟨some 19, none, .call, [.t 17, .t 18]⟩])
(.cond (.t 19)
(.seq (.ops [zM 20 6,
 zS 1 [.t 4, .t 20]])
.ret)
.skip)))
def C297 : AFunc := ⟨21, [.cell 4 1 false],
(.seq (.ops [⟨some 4, none, .a (.alloc [(.int .i64 0)]), []⟩])
(.seq (.ops [zM 8 1,
⟨some 9, none, .call, [.c (.func (.func 298) [] []), .t 8]⟩,
⟨some 5, none, .a (.alloc [.nilf]), []⟩,
 zS 1 [.t 5, .t 9]])
(.seq (.seq (.ops [zM 10 0,
 zN 11 10,
 zF 12 11 1,
 zL 13 12,
⟨some 14, none, .call, [.c (.func (.func 316) [] []), .t 13]⟩])
(.block 0 (.rangeFunc (.t 14) [15, 16] L_stack_Stack_last_0a L_stack_Stack_last_0b)))
(.seq (.ops [zS 1 [.t 4, .c (.int .i64 (-1))]])
.ret))))⟩
abbrev f_stack_Stack_last : Nat := 297
abbrev C_stack_Stack_last : AFunc := C297
def C298 : AFunc := ⟨4, [.tmp 2],
(.seq (.ops [⟨some 1, none, .a .box, [.t 0]⟩,
 zP 2 .mov [.c .nilf]])
(.seq (.ops [zP 3 (.mkfunc (.func 317) 0) [.t 1],
 zM 2 3])
.ret))⟩
abbrev f_stack_of : Nat := 298
abbrev C_stack_of : AFunc := C298
def C299 : AFunc := ⟨12, [.tmp 2],
(.seq (.ops [zP 2 .mov [.c (.bool false)]])
(.seq (.ops [zM 3 0,
 zP 4 (.eq .nilptr) [.t 3, .c .nilp],
 zM 5 4,
 zMg 6 0 5 false,
 zNg 7 6 5 false,
 zFg 8 7 1 5 false,
 zLg 9 8 5 false,
 zPg 10 (.eq .iface) [.t 9, .c .nili] 5 false,
 zP 11 .pick [.t 5, .c (.bool true), .t 10],
 zM 2 11])
.ret))⟩
abbrev f_port_Way_none : Nat := 299
abbrev C_port_Way_none : AFunc := C299
def C300 : AFunc := ⟨32, [.tmp 4, .tmp 5, .tmp 6],
(.seq (.ops [zP 4 .mov [.c (.str [])],
 zP 5 .mov [.c (.bool false)],
 zP 6 .mov [.c (.int .i64 0)]])
(.seq (.block 0 (.seq (.ops [zM 8 0,
⟨some 9, none, .call, [.c (.func (.func 299) [] []), .t 8]⟩,
 zM 7 9])
(.cond (.t 7)
(.seq (.ops [zP 4 .mov [.c (.str [])],
 zP 5 .mov [.c (.bool false)],
 zP 6 .mov [.c (.int .i64 1)]])
.ret)
(.seq (.ops [zM 11 1,
⟨some 12, none, .call, [.c (.func (.func 117) [] []), .t 11, .c (.int .i64 0), .c (.int .i64 1099511627776)]⟩,
 zP 13 .not [.t 12],
 zM 10 13])
(.cond (.t 10)
(.seq (.ops [zP 4 .mov [.c (.str [])],
 zP 5 .mov [.c (.bool false)],
 zP 6 .mov [.c (.int .i64 2)]])
.ret)
(.seq (.ops [zM 15 0,
 zN 16 15,
 zF 17 16 1,
 zL 18 17,
⟨some 19, none, .invoke (zs [101, 115, 99, 97, 112, 101, 109, 101, 110, 116, 47, 112, 111, 114, 116, 46, 109, 97, 110, 121]), [.t 18]⟩,
 zP 20 (.bin .eql) [.t 19, .c (.int .i64 0)],
 zM 14 20])
(.cond (.t 14)
(.seq (.ops [zP 4 .mov [.c (.str [])],
 zP 5 .mov [.c (.bool false)],
 zP 6 .mov [.c (.int .i64 8)]])
.ret)
.skip)))))))
(.seq (.ops [zM 22 0,
 zN 23 22,
 zF 24 23 1,
 zL 25 24,
 zM 26 1,
⟨some 27, none, .invoke (zs [101, 115, 99, 97, 112, 101, 109, 101, 110, 116, 47, 112, 111, 114, 116, 46, 103, 101, 116]), [.t 25, .t 26]⟩,
 zM 21 27,
 zP 28 (.ext 0) [.t 21],
 zP 29 (.ext 1) [.t 21],
 zM 4 28,
 zM 5 29])
(.seq (.ops [zM 30 4,
 zM 31 5,
 zM 4 30,
 zM 5 31,
 zP 6 .mov [.c (.int .i64 0)]])
.ret))))⟩
abbrev f_port_Way_Recv : Nat := 300
abbrev C_port_Way_Recv : AFunc := C300
def L_slices_Index_int_int_0 : AC := (.seq (.ops [zP 9 (.bin .lss) [.t 8, .t 7]])
(.seq (.cond (.t 9)
.skip
(.exit 0))
(.seq (.block 1 (.seq (.ops [zM 10 8,
 zM 5 10])
(.seq (.ops [zM 11 1,
 zM 12 0,
 zM 13 5,
 zP 14 (.iaddrS 1) [.t 12, .t 13],
 zL 15 14,
 zP 16 (.bin .eql) [.t 11, .t 15]])
(.cond (.t 16)
(.seq (.ops [zM 17 5,
 zM 4 17])
.ret)
.skip))))
(.ops [zP 18 (.bin .add) [.t 8, .c (.int .i64 1)],
 zM 8 18]))))
def C301 : AFunc := ⟨19, [.tmp 4],
(.seq (.ops [zP 4 .mov [.c (.int .i64 0)]])
(.seq (.seq (.ops [zM 6 0,
 zP 7 .lenS [.t 6],
 zP 8 .mov [.c (.int .i64 0)]])
(.block 0 (.loop L_slices_Index_int_int_0)))
(.seq (.ops [zP 4 .mov [.c (.int .i64 (-1))]])
.ret)))⟩
abbrev f_slices_Index_int_int : Nat := 301
abbrev C_slices_Index_int_int : AFunc := C301
def L_ticks_Gcd_0 : AC := (.seq (.seq (.ops [zM 11 1,
 zP 12 (.bin .neq) [.t 11, .c (.int .i64 0)]])
(.cond (.t 12)
.skip
(.exit 0)))
(.block 1 (.dops [zM 13 1,
 zM 14 0,
 zM 15 1,
 zP 16 (.bin .rem) [.t 14, .t 15],
 zM 0 13,
 zM 1 16] [[], [], [], [], [], []])))
def C302 : AFunc := ⟨18, [.tmp 4, .tmp 5],
(.seq (.ops [zP 4 .mov [.c (.int .i64 0)],
 zP 5 .mov [.c (.int .i64 0)]])
(.seq (.seq (.ops [zM 6 0,
 zM 7 1,
⟨some 8, none, .a (.bslice [(.int .i64 0)] 2 1 [0, 1]), [.t 6, .t 7]⟩,
⟨some 9, none, .call, [.c (.func (.func 305) [] []), .t 8]⟩,
 zP 10 .not [.t 9]])
(.cond (.t 10)
(.seq (.ops [zP 4 .mov [.c (.int .i64 0)],
 zP 5 .mov [.c (.int .i64 2)]])
.ret)
.skip))
(.seq (.block 0 (.loop L_ticks_Gcd_0))
(.seq (.ops [zM 17 0,
 zM 4 17,
 zP 5 .mov [.c (.int .i64 0)]])
.ret))))⟩
abbrev f_ticks_Gcd : Nat := 302
abbrev C_ticks_Gcd : AFunc := C302
def C303 : AFunc := ⟨29, [.cell 4 5 true, .tmp 5],
(.seq (.ops [⟨some 4, none, .a (.alloc [(.int .i64 0), (.int .i64 0), .nils, .nils, (.int .i64 0)]), []⟩,
 zP 5 .mov [.c (.int .i64 0)]])
(.seq (.seq (.ops [zM 7 0,
⟨some 8, none, .call, [.c (.func (.func 318) [] []), .t 7]⟩,
 zM 6 8])
(.seq (.ops [zM 9 6,
 zP 10 (.bin .neq) [.t 9, .c (.int .i64 0)]])
(.cond (.t 10)
(.seq (.ops [zP 11 (.build [(.int .i64 0), (.int .i64 0), .nils, .nils, (.int .i64 0)] []) [],
 zM 12 6,
 zS 5 [.t 4, .t 11],
 zM 5 12])
.ret)
.skip)))
(.seq (.seq (.ops [zM 13 1,
 zP 14 (.bin .lss) [.t 13, .c (.int .i64 0)],
 zM 15 14,
 zMg 16 1 15 false,
 zMg 17 0 15 false,
 zPg 18 .lenS [.t 17] 15 false,
 zPg 19 (.bin .geq) [.t 16, .t 18] 15 false,
 zP 20 .pick [.t 15, .c (.bool true), .t 19]])
(.cond (.t 20)
(.seq (.ops [zP 21 (.build [(.int .i64 0), (.int .i64 0), .nils, .nils, (.int .i64 0)] []) [],
 zS 5 [.t 4, .t 21],
 zP 5 .mov [.c (.int .i64 9)]])
.ret)
.skip))
(.seq (.ops [zM 22 0,
 zM 23 1,
 zP 24 (.iaddrS 3) [.t 22, .t 23],
⟨some 25, none, .r (.loadN 3), [.t 24]⟩,
 zM 26 0,
 zM 27 1,
 zP 28 (.build [(.int .i64 0), (.int .i64 0), .nils, .nils, (.int .i64 0)] [(0, 3), (3, 1), (4, 1)]) [.t 25, .t 26, .t 27],
 zS 5 [.t 4, .t 28],
 zP 5 .mov [.c (.int .i64 0)]])
.ret))))⟩
abbrev f_delay_of : Nat := 303
abbrev C_delay_of : AFunc := C303
def L_delay_seen_wait_0a : AC := (.ops [⟨some 5, none, .a (.alloc [(.int .i64 0), (.int .i64 0), .nils]), []⟩,
 zS 3 [.t 5, .t 13]])
def L_delay_seen_wait_0b : AC := (.block 1 (.ops [zL 14 4,
 zF 15 5 0,
 zL 16 15,
 zP 17 (.bin .mul) [.c (.int .i64 2), .t 16],
 zP 18 (.bin .add) [.t 14, .t 17],
 zS 1 [.t 4, .t 18]]))
def C304 : AFunc := ⟨20, [.cell 4 1 false],
(.seq (.ops [⟨some 2, none, .a .box, [.t 0]⟩,
⟨some 3, none, .a .box, [.t 1]⟩,
⟨some 4, none, .a (.alloc [(.int .i64 0)]), []⟩])
(.seq (.seq (.ops [zF 6 3 5,
 zL 7 6,
 zP 8 (.bin .eql) [.t 7, .c (.int .i64 0)]])
(.cond (.t 8)
(.seq (.ops [zS 1 [.t 4, .c (.int .i64 0)]])
.ret)
.skip))
(.seq (.seq (.ops [⟨some 9, none, .r (.loadN 5), [.t 2]⟩,
 zF 10 3 5,
 zL 11 10,
⟨some 12, none, .call, [.c (.func (.func 319) [] []), .t 9, .t 11]⟩])
(.block 0 (.rangeFunc (.t 12) [13] L_delay_seen_wait_0a L_delay_seen_wait_0b)))
(.seq (.ops [zL 19 4,
 zS 1 [.t 4, .t 19]])
.ret))))⟩
abbrev f_delay_seen_wait : Nat := 304
abbrev C_delay_seen_wait : AFunc := C304
def L_ticks_tick_0 : AC := (.seq (.ops [zP 8 (.bin .lss) [.t 7, .t 6]])
(.seq (.cond (.t 8)
.skip
(.exit 0))
(.seq (.block 1 (.seq (.ops [zP 9 (.iaddrS 1) [.t 5, .t 7],
 zL 10 9,
 zM 4 10])
(.seq (.ops [zM 11 4,
 zP 12 (.bin .lss) [.t 11, .c (.int .i64 0)],
 zM 13 12,
 zMg 14 4 13 false,
 zPg 15 (.bin .gtr) [.t 14, .c (.int .i64 1099511627776)] 13 false,
 zP 16 .pick [.t 13, .c (.bool true), .t 15]])
(.cond (.t 16)
(.seq (.ops [zP 2 .mov [.c (.bool false)]])
.ret)
.skip))))
(.ops [zP 17 (.bin .add) [.t 7, .c (.int .i64 1)],
 zM 7 17]))))
def C305 : AFunc := ⟨18, [.tmp 2],
(.seq (.ops [zP 2 .mov [.c (.bool false)]])
(.seq (.seq (.ops [zM 5 0,
 zP 6 .lenS [.t 5],
 zP 7 .mov [.c (.int .i64 0)]])
(.block 0 (.loop L_ticks_tick_0)))
(.seq (.ops [zP 2 .mov [.c (.bool true)]])
.ret)))⟩
abbrev f_ticks_tick : Nat := 305
abbrev C_ticks_tick : AFunc := C305
def L_ticks_each_0 : AC := (.seq (.ops [zP 9 (.bin .lss) [.t 8, .t 7]])
(.seq (.cond (.t 9)
.skip
(.exit 0))
(.seq (.block 1 (.seq (.ops [zP 10 (.iaddrS 1) [.t 6, .t 8],
 zL 11 10,
 zM 5 11])
(.ops [zM 12 0,
 zM 13 5,
⟨some 14, none, .call, [.t 12, .t 13]⟩])))
(.ops [zP 15 (.bin .add) [.t 8, .c (.int .i64 1)],
 zM 8 15]))))
def C306 : AFunc := ⟨16, [],
(.seq (.ops [zM 6 1,
 zP 7 .lenS [.t 6],
 zP 8 .mov [.c (.int .i64 0)]])
(.block 0 (.loop L_ticks_each_0)))⟩
abbrev f_ticks_each : Nat := 306
abbrev C_ticks_each : AFunc := C306
def C307 : AFunc := ⟨37, [],
(.seq (.ops [zM 6 0,
 zN 7 6,
 zF 8 7 1,
 zL 9 8,
 zP 10 (.bin .eql) [.t 9, .c (.int .i64 0)]])
(.cond (.t 10)
(.seq (.ops [zM 12 0,
 zN 13 12,
 zF 14 13 0,
 zL 15 14,
 zM 16 1,
⟨some 17, none, .call, [.c (.func (.func 302) [] []), .t 15, .t 16]⟩,
 zM 11 17,
 zP 18 (.ext 0) [.t 11],
 zP 19 (.ext 1) [.t 11],
 zM 4 18,
 zM 5 19])
(.dops [zM 21 0,
 zM 22 0,
 zM 23 0,
 zN 24 23,
 zF 25 24 0,
 zL 26 25,
 zM 27 1,
 zM 28 4,
 zP 29 (.bin .quo) [.t 27, .t 28],
⟨some 30, none, .call, [.c (.func (.func 320) [] []), .t 26, .t 29]⟩,
 zM 20 30,
 zP 31 (.ext 0) [.t 20],
 zP 32 (.ext 1) [.t 20],
 zN 33 21,
 zF 34 33 0,
 zS 1 [.t 34, .t 31],
 zN 35 22,
 zF 36 35 1,
 zS 1 [.t 36, .t 32]] [[], [], [], [], [], [], [], [], [], [], [], [], [], [], [], [], [], [], []]))
.skip))⟩
abbrev f_ticks_count_multiple : Nat := 307
abbrev C_ticks_count_multiple : AFunc := C307
def C308 : AFunc := ⟨16, [.tmp 4, .tmp 5],
(.seq (.ops [zP 4 .mov [.c (.int .i64 0)],
 zP 5 .mov [.c (.int .i64 0)]])
(.seq (.seq (.ops [zM 6 1,
 zP 7 (.bin .eql) [.t 6, .c (.int .i64 0)],
 zM 8 7,
 zMg 9 0 8 true,
 zPg 10 (.bin .gtr) [.t 9, .c (.int .i64 1099511627776)] 8 true,
 zP 11 .pick [.t 8, .t 10, .c (.bool false)]])
(.cond (.t 11)
(.ops [zP 1 .mov [.c (.int .i64 10)]])
.skip))
(.seq (.seq (.ops [zM 12 1,
 zP 13 (.bin .neq) [.t 12, .c (.int .i64 0)]])
(.cond (.t 13)
(.seq (.ops [zM 14 1,
 zP 4 .mov [.c (.int .i64 0)],
 zM 5 14])
.ret)
.skip))
(.seq (.ops [zM 15 0,
 zM 4 15,
 zP 5 .mov [.c (.int .i64 0)]])
.ret))))⟩
abbrev f_ticks_told : Nat := 308
abbrev C_ticks_told : AFunc := C308
def C309 : AFunc := ⟨27, [.tmp 6, .tmp 7],
(.seq (.ops [⟨some 5, none, .a .box, [.t 2]⟩,
 zP 6 .mov [.c (.int .i64 0)],
 zP 7 .mov [.c (.int .i64 0)]])
(.seq (.seq (.ops [zM 9 0,
 zM 10 1,
⟨some 11, none, .call, [.c (.func (.func 143) [] []), .t 9, .t 10]⟩,
 zM 8 11])
(.seq (.ops [zM 12 8,
 zP 13 (.bin .neq) [.t 12, .c (.int .i64 0)],
 zM 14 13,
 zLg 15 5 14 false,
 zPg 16 (.bin .lss) [.t 15, .c (.int .i64 0)] 14 false,
 zP 17 .pick [.t 14, .c (.bool true), .t 16],
 zM 18 17,
 zLg 19 5 18 false,
 zPg 20 (.bin .gtr) [.t 19, .c (.int .i64 1048576)] 18 false,
 zP 21 .pick [.t 18, .c (.bool true), .t 20]])
(.cond (.t 21)
(.seq (.ops [zP 6 .mov [.c (.int .i64 0)],
 zP 7 .mov [.c (.int .i64 2)]])
.ret)
.skip)))
(.seq (.ops [zM 22 0,
 zM 23 1,
 zP 24 (.mkfunc (.func 321) 0) [.t 5],
⟨some 25, none, .call, [.c (.func (.func 282) [] []), .t 22, .t 23, .t 24]⟩,
⟨some 26, none, .call, [.c (.func (.func 281) [] []), .t 25]⟩,
 zM 6 26,
 zP 7 .mov [.c (.int .i64 0)]])
.ret)))⟩
abbrev f_demand_Of : Nat := 309
abbrev C_demand_Of : AFunc := C309
def C310 : AFunc := ⟨29, [.tmp 6, .tmp 7],
(.seq (.ops [zP 6 .mov [.c (.int .i64 0)],
 zP 7 .mov [.c (.int .i64 0)]])
(.seq (.ops [zM 11 0,
 zM 12 1,
⟨some 13, none, .call, [.c (.func (.func 322) [] []), .t 11, .t 12]⟩,
 zM 10 13,
 zP 14 (.ext 0) [.t 10],
 zP 15 (.ext 1) [.t 10],
⟨some 8, none, .a (.alloc [(.int .i64 0), (.int .i64 0)]), []⟩,
 zS 2 [.t 8, .t 14],
 zM 9 15])
(.seq (.seq (.ops [zM 16 9,
 zP 17 .not [.t 16],
 zM 18 17,
 zMg 19 2 18 false,
 zPg 20 (.bin .lss) [.t 19, .c (.int .i64 0)] 18 false,
 zP 21 .pick [.t 18, .c (.bool true), .t 20],
 zM 22 21,
 zMg 23 2 22 false,
 zPg 24 (.bin .gtr) [.t 23, .c (.int .i64 1048576)] 22 false,
 zP 25 .pick [.t 22, .c (.bool true), .t 24]])
(.cond (.t 25)
(.seq (.ops [zP 6 .mov [.c (.int .i64 0)],
 zP 7 .mov [.c (.int .i64 2)]])
.ret)
.skip))
(.seq (.ops [⟨some 26, none, .r (.loadN 2), [.t 8]⟩,
 zM 27 2,
⟨some 28, none, .call, [.c (.func (.func 323) [] []), .t 26, .t 27]⟩,
 zM 6 28,
 zP 7 .mov [.c (.int .i64 0)]])
.ret))))⟩
abbrev f_supply_Of : Nat := 310
abbrev C_supply_Of : AFunc := C310
def L_delay_Of_0 : AC := (.seq (.ops [zP 29 (.bin .lss) [.t 28, .t 27]])
(.seq (.cond (.t 29)
.skip
(.exit 1))
(.seq (.block 2 (.seq (.ops [zP 30 (.iaddrS 8) [.t 26, .t 28],
⟨some 31, none, .r (.loadN 8), [.t 30]⟩,
⟨some 10, none, .a (.alloc [(.int .i64 0), (.int .i64 0), (.int .i64 0), (.int .i64 0), (.int .i64 0), (.int .i64 0), (.int .i64 0), (.int .i64 0)]), []⟩,
 zS 8 [.t 10, .t 31]])
(.seq (.ops [zF 32 10 1,
 zL 33 32,
 zM 34 2,
 zP 35 (.bin .gtr) [.t 33, .t 34]])
(.cond (.t 35)
(.ops [zM 36 6,
⟨some 37, none, .r (.loadN 5), [.t 8]⟩,
⟨some 38, none, .r (.loadN 8), [.t 10]⟩,
⟨some 39, none, .call, [.c (.func (.func 324) [] []), .t 37, .t 38]⟩,
 zP 40 .mx [.t 36, .t 39],
 zM 6 40])
.skip))))
(.ops [zP 41 (.bin .add) [.t 28, .c (.int .i64 1)],
 zM 28 41]))))
def C311 : AFunc := ⟨43, [.tmp 6, .tmp 7],
(.seq (.ops [zP 6 .mov [.c (.int .i64 0)],
 zP 7 .mov [.c (.int .i64 0)]])
(.seq (.ops [zM 12 0,
 zM 13 1,
⟨some 14, none, .call, [.c (.func (.func 303) [] []), .t 12, .t 13]⟩,
 zM 11 14,
 zP 15 (.ext 0) [.t 11],
 zP 16 (.ext 1) [.t 11],
⟨some 8, none, .a (.alloc [(.int .i64 0), (.int .i64 0), .nils, .nils, (.int .i64 0)]), []⟩,
 zS 5 [.t 8, .t 15],
 zM 7 16])
(.seq (.block 0 (.seq (.ops [zM 18 7,
 zP 19 (.bin .neq) [.t 18, .c (.int .i64 0)],
 zM 17 19])
(.cond (.t 17)
(.seq (.ops [zM 20 7,
 zP 6 .mov [.c (.int .i64 0)],
 zM 7 20])
.ret)
(.seq (.ops [zM 22 2,
 zP 23 (.bin .lss) [.t 22, .c (.int .i64 0)],
 zM 21 23])
(.cond (.t 21)
(.seq (.ops [zP 6 .mov [.c (.int .i64 0)],
 zP 7 .mov [.c (.int .i64 2)]])
.ret)
.skip)))))
(.seq (.seq (.ops [zF 24 8 0,
 zF 25 24 2,
 zL 26 25,
 zP 27 .lenS [.t 26],
 zP 28 .mov [.c (.int .i64 0)]])
(.block 1 (.loop L_delay_Of_0)))
(.seq (.ops [zM 42 6,
 zM 6 42,
 zP 7 .mov [.c (.int .i64 0)]])
.ret)))))⟩
abbrev f_delay_Of : Nat := 311
abbrev C_delay_Of : AFunc := C311
def C312 : AFunc := ⟨19, [.tmp 2],
(.seq (.ops [zP 2 .mov [.c (.bool false)]])
(.seq (.ops [zM 3 0,
 zN 4 3,
 zF 5 4 0,
 zL 6 5,
 zP 7 .lenS [.t 6],
 zP 8 (.bin .gtr) [.t 7, .c (.int .i64 0)],
 zM 9 8,
 zMg 10 0 9 true,
 zNg 11 10 9 true,
 zFg 12 11 0 9 true,
 zLg 13 12 9 true,
 zPg 14 (.iaddrS 3) [.t 13, .c (.int .i64 0)] 9 true,
 zFg 15 14 0 9 true,
 zLg 16 15 9 true,
 zPg 17 (.bin .eql) [.t 16, .c (.int .i64 1)] 9 true,
 zP 18 .pick [.t 9, .t 17, .c (.bool false)],
 zM 2 18])
.ret))⟩
abbrev f_act_Row_runs : Nat := 312
abbrev C_act_Row_runs : AFunc := C312
def C313 : AFunc := ⟨20, [],
(.dops [zM 2 0,
 zM 3 0,
 zN 4 3,
 zF 5 4 0,
 zL 6 5,
 zM 7 0,
 zN 8 7,
 zF 9 8 0,
 zL 10 9,
 zP 11 .lenS [.t 10],
 zM 12 0,
 zN 13 12,
 zF 14 13 0,
 zL 15 14,
 zP 16 .lenS [.t 15],
 zP 17 (.slice 3 true true true) [.t 6, .c (.int .i64 1), .t 11, .t 16],
 zN 18 2,
 zF 19 18 0,
 zS 1 [.t 19, .t 17]] [[], [], [], [], [], [], [], [], [], [], [], [], [], [], [], [], [], [], []])⟩
abbrev f_act_Row_on : Nat := 313
abbrev C_act_Row_on : AFunc := C313
def C314 : AFunc := ⟨19, [.tmp 2],
(.seq (.ops [zP 2 .mov [.c (.int .i64 0)]])
(.seq (.block 0 (.seq (.ops [zM 4 0,
⟨some 5, none, .call, [.c (.func (.func 274) [] []), .t 4]⟩,
 zM 3 5])
(.cond (.t 3)
(.seq (.ops [zP 2 .mov [.c (.int .i64 1)]])
.ret)
(.seq (.ops [zM 7 0,
 zN 8 7,
 zF 9 8 0,
 zL 10 9,
 zP 11 .lenS [.t 10],
 zP 12 (.bin .eql) [.t 11, .c (.int .i64 0)],
 zM 13 12,
 zMg 14 0 13 false,
⟨some 15, some (13, false), .call, [.c (.func (.func 312) [] []), .t 14]⟩,
 zP 16 .pick [.t 13, .c (.bool true), .t 15],
 zM 6 16])
(.cond (.t 6)
(.seq (.ops [zP 2 .mov [.c (.int .i64 250)]])
.ret)
.skip)))))
(.seq (.ops [zM 17 0,
⟨some 18, none, .call, [.c (.func (.func 313) [] []), .t 17]⟩])
(.seq (.ops [zP 2 .mov [.c (.int .i64 0)]])
.ret))))⟩
abbrev f_act_Row_Did : Nat := 314
abbrev C_act_Row_Did : AFunc := C314
def L_slices_IndexFunc_stack_entry_stack_entry_0 : AC := (.seq (.ops [zP 9 (.bin .lss) [.t 8, .t 7]])
(.seq (.cond (.t 9)
.skip
(.exit 0))
(.seq (.block 1 (.seq (.ops [zM 10 8,
 zM 5 10])
(.seq (.ops [zM 11 1,
 zM 12 0,
 zM 13 5,
 zP 14 (.iaddrS 2) [.t 12, .t 13],
⟨some 15, none, .r (.loadN 2), [.t 14]⟩,
⟨some 16, none, .call, [.t 11, .t 15]⟩])
(.cond (.t 16)
(.seq (.ops [zM 17 5,
 zM 4 17])
.ret)
.skip))))
(.ops [zP 18 (.bin .add) [.t 8, .c (.int .i64 1)],
 zM 8 18]))))
def C315 : AFunc := ⟨19, [.tmp 4],
(.seq (.ops [zP 4 .mov [.c (.int .i64 0)]])
(.seq (.seq (.ops [zM 6 0,
 zP 7 .lenS [.t 6],
 zP 8 .mov [.c (.int .i64 0)]])
(.block 0 (.loop L_slices_IndexFunc_stack_entry_stack_entry_0)))
(.seq (.ops [zP 4 .mov [.c (.int .i64 (-1))]])
.ret)))⟩
abbrev f_slices_IndexFunc_stack_entry_stack_entry : Nat := 315
abbrev C_slices_IndexFunc_stack_entry_stack_entry : AFunc := C315
def C316 : AFunc := ⟨4, [.tmp 2],
(.seq (.ops [⟨some 1, none, .a .box, [.t 0]⟩,
 zP 2 .mov [.c .nilf]])
(.seq (.ops [zP 3 (.mkfunc (.func 325) 0) [.t 1],
 zM 2 3])
.ret))⟩
abbrev f_slices_Backward_stack_entry_stack_entry : Nat := 316
abbrev C_slices_Backward_stack_entry_stack_entry : AFunc := C316
def C317 : AFunc := ⟨8, [.tmp 3],
(.seq (.ops [⟨some 2, none, .a .box, [.t 0]⟩,
 zP 3 .mov [.c (.bool false)]])
(.seq (.ops [zF 4 2 0,
 zL 5 4,
 zL 6 1,
 zP 7 (.bin .eql) [.t 5, .t 6],
 zM 3 7])
.ret))⟩
abbrev f_stack_of_1 : Nat := 317
abbrev C_stack_of_1 : AFunc := C317
def L_delay_Check_0 : AC := (.seq (.ops [zP 12 (.bin .lss) [.t 11, .t 10]])
(.seq (.cond (.t 12)
.skip
(.exit 0))
(.seq (.block 1 (.seq (.ops [zP 13 (.iaddrS 3) [.t 9, .t 11],
⟨some 14, none, .r (.loadN 3), [.t 13]⟩,
⟨some 4, none, .a (.alloc [(.int .i64 0), (.int .i64 0), .nils]), []⟩,
 zS 3 [.t 4, .t 14]])
(.seq (.seq (.ops [zF 15 4 0,
 zL 16 15,
 zP 17 (.bin .lss) [.t 16, .c (.int .i64 1)],
 zM 18 17,
 zFg 19 4 0 18 false,
 zLg 20 19 18 false,
 zPg 21 (.bin .gtr) [.t 20, .c (.int .i64 64)] 18 false,
 zP 22 .pick [.t 18, .c (.bool true), .t 21],
 zM 23 22,
 zFg 24 4 1 23 false,
 zLg 25 24 23 false,
 zPg 26 (.bin .lss) [.t 25, .c (.int .i64 1)] 23 false,
 zP 27 .pick [.t 23, .c (.bool true), .t 26],
 zM 28 27,
 zFg 29 4 1 28 false,
 zLg 30 29 28 false,
 zFg 31 4 0 28 false,
 zLg 32 31 28 false,
 zPg 33 (.bin .gtr) [.t 30, .t 32] 28 false,
 zP 34 .pick [.t 28, .c (.bool true), .t 33]])
(.cond (.t 34)
(.seq (.ops [zP 2 .mov [.c (.int .i64 2)]])
.ret)
.skip))
(.seq (.seq (.dops [zF 35 4 2,
 zL 36 35,
 zF 37 4 2,
 zL 38 37,
 zP 39 .lenS [.t 38],
⟨some 40, none, .a (.mkslice [(.int .i64 0)] 1 8), [.t 39, .t 39]⟩,
⟨some 41, none, .call, [.c (.func (.func 143) [] []), .t 36, .t 40]⟩,
 zM 5 41] [[], [], [], [], [], [], [], []])
(.seq (.ops [zM 42 5,
 zP 43 (.bin .neq) [.t 42, .c (.int .i64 0)]])
(.cond (.t 43)
(.seq (.ops [zM 44 5,
 zM 2 44])
.ret)
.skip)))
(.seq (.ops [zF 45 4 2,
 zL 46 45,
 zP 47 (.mkfunc (.func 326) 0) [.t 4],
⟨some 48, none, .call, [.c (.func (.func 87) [] []), .t 46, .t 47]⟩])
(.cond (.t 48)
(.seq (.ops [zP 2 .mov [.c (.int .i64 2)]])
.ret)
.skip))))))
(.ops [zP 49 (.bin .add) [.t 11, .c (.int .i64 1)],
 zM 11 49]))))
def C318 : AFunc := ⟨50, [.tmp 2],
(.seq (.ops [zP 2 .mov [.c (.int .i64 0)]])
(.seq (.seq (.ops [zM 6 0,
 zP 7 .lenS [.t 6],
 zP 8 (.bin .gtr) [.t 7, .c (.int .i64 4)]])
(.cond (.t 8)
(.seq (.ops [zP 2 .mov [.c (.int .i64 2)]])
.ret)
.skip))
(.seq (.seq (.ops [zM 9 0,
 zP 10 .lenS [.t 9],
 zP 11 .mov [.c (.int .i64 0)]])
(.block 0 (.loop L_delay_Check_0)))
(.seq (.ops [zP 2 .mov [.c (.int .i64 0)]])
.ret))))⟩
abbrev f_delay_Check : Nat := 318
abbrev C_delay_Check : AFunc := C318
def C319 : AFunc := ⟨6, [.tmp 4],
(.seq (.ops [⟨some 2, none, .a .box, [.t 0]⟩,
⟨some 3, none, .a .box, [.t 1]⟩,
 zP 4 .mov [.c .nilf]])
(.seq (.ops [zP 5 (.mkfunc (.func 328) 0) [.t 2, .t 3],
 zM 4 5])
.ret))⟩
abbrev f_delay_seen_sharers : Nat := 319
abbrev C_delay_seen_sharers : AFunc := C319
def C320 : AFunc := ⟨29, [.tmp 4, .tmp 5],
(.seq (.ops [zP 4 .mov [.c (.int .i64 0)],
 zP 5 .mov [.c (.int .i64 0)]])
(.seq (.seq (.ops [zM 8 0,
 zM 9 1,
⟨some 10, none, .a (.bslice [(.int .i64 0)] 2 1 [0, 1]), [.t 8, .t 9]⟩,
⟨some 11, none, .call, [.c (.func (.func 305) [] []), .t 10]⟩,
 zP 12 .not [.t 11]])
(.cond (.t 12)
(.seq (.ops [zP 4 .mov [.c (.int .i64 0)],
 zP 5 .mov [.c (.int .i64 2)]])
.ret)
.skip))
(.seq (.ops [zM 14 0,
 zP 15 (.conv .u64) [.t 14],
 zM 16 1,
 zP 17 (.conv .u64) [.t 16],
⟨some 18, none, .call, [.c (.func (.func 330) [] []), .t 15, .t 17]⟩,
 zM 13 18,
 zP 19 (.ext 0) [.t 13],
 zP 20 (.ext 1) [.t 13],
 zM 6 19,
 zM 7 20])
(.seq (.seq (.ops [zM 21 6,
 zP 22 (.bin .gtr) [.t 21, .c (.int .u64 0)],
 zM 23 22,
 zMg 24 7 23 false,
 zPg 25 (.bin .gtr) [.t 24, .c (.int .u64 1099511627776)] 23 false,
 zP 26 .pick [.t 23, .c (.bool true), .t 25]])
(.cond (.t 26)
(.seq (.ops [zP 4 .mov [.c (.int .i64 0)],
 zP 5 .mov [.c (.int .i64 10)]])
.ret)
.skip))
(.seq (.ops [zM 27 7,
 zP 28 (.conv .i64) [.t 27],
 zM 4 28,
 zP 5 .mov [.c (.int .i64 0)]])
.ret)))))⟩
abbrev f_ticks_Mul : Nat := 320
abbrev C_ticks_Mul : AFunc := C320
def C321 : AFunc := ⟨16, [.tmp 3],
(.seq (.ops [⟨some 2, none, .a .box, [.t 0]⟩,
 zP 3 .mov [.c (.int .i64 0)]])
(.seq (.seq (.ops [zL 4 1,
 zF 5 2 1,
 zL 6 5,
 zP 7 (.bin .lss) [.t 4, .t 6]])
(.cond (.t 7)
(.seq (.ops [zP 3 .mov [.c (.int .i64 0)]])
.ret)
.skip))
(.seq (.ops [zL 8 1,
 zF 9 2 1,
 zL 10 9,
 zP 11 (.bin .sub) [.t 8, .t 10],
 zF 12 2 0,
 zL 13 12,
 zP 14 (.bin .quo) [.t 11, .t 13],
 zP 15 (.bin .add) [.c (.int .i64 1), .t 14],
 zM 3 15])
.ret)))⟩
abbrev f_demand_Of_1 : Nat := 321
abbrev C_demand_Of_1 : AFunc := C321
def C322 : AFunc := ⟨27, [.cell 4 2 true, .tmp 5],
(.seq (.ops [⟨some 4, none, .a (.alloc [(.int .i64 0), (.int .i64 0)]), []⟩,
 zP 5 .mov [.c (.bool false)]])
(.seq (.ops [zM 7 0,
 zM 8 1,
 zP 9 (.build [(.int .i64 0), (.int .i64 0)] [(0, 1), (1, 1)]) [.t 7, .t 8],
 zP 10 (.build [(.int .i64 0), (.int .i64 0)] [(0, 2)]) [.t 9],
⟨some 6, none, .a (.alloc [(.int .i64 0), (.int .i64 0)]), []⟩,
 zS 2 [.t 6, .t 10]])
(.seq (.ops [⟨some 11, none, .r (.loadN 2), [.t 6]⟩,
 zM 12 0,
 zP 13 (.bin .leq) [.c (.int .i64 1), .t 12],
 zM 14 13,
 zMg 15 0 14 true,
 zPg 16 (.bin .leq) [.t 15, .c (.int .i64 64)] 14 true,
 zP 17 .pick [.t 14, .t 16, .c (.bool false)],
 zM 18 17,
 zMg 19 1 18 true,
 zPg 20 (.bin .leq) [.c (.int .i64 1), .t 19] 18 true,
 zP 21 .pick [.t 18, .t 20, .c (.bool false)],
 zM 22 21,
 zMg 23 1 22 true,
 zMg 24 0 22 true,
 zPg 25 (.bin .leq) [.t 23, .t 24] 22 true,
 zP 26 .pick [.t 22, .t 25, .c (.bool false)],
 zS 2 [.t 4, .t 11],
 zM 5 26])
.ret)))⟩
abbrev f_supply_of : Nat := 322
abbrev C_supply_of : AFunc := C322
def C323 : AFunc := ⟨40, [.tmp 4],
(.seq (.ops [⟨some 2, none, .a .box, [.t 0]⟩,
 zP 4 .mov [.c (.int .i64 0)]])
(.seq (.ops [zF 7 2 0,
⟨some 8, none, .r (.loadN 2), [.t 7]⟩,
⟨some 9, none, .call, [.c (.func (.func 331) [] []), .t 8]⟩,
 zM 5 9])
(.seq (.seq (.ops [zM 10 1,
 zM 11 5,
 zP 12 (.bin .lss) [.t 10, .t 11]])
(.cond (.t 12)
(.seq (.ops [zP 4 .mov [.c (.int .i64 0)]])
.ret)
.skip))
(.seq (.ops [zM 13 1,
 zM 14 5,
 zP 15 (.bin .sub) [.t 13, .t 14],
 zF 16 2 0,
 zF 17 16 0,
 zL 18 17,
⟨some 19, none, .call, [.c (.func (.func 332) [] []), .t 15, .t 18]⟩,
 zM 6 19])
(.seq (.dops [zM 20 6,
 zF 21 2 0,
 zF 22 21 1,
 zL 23 22,
 zP 24 (.bin .mul) [.t 20, .t 23],
 zM 25 1,
 zM 26 5,
 zP 27 (.bin .sub) [.t 25, .t 26],
 zM 28 6,
 zF 29 2 0,
 zF 30 29 0,
 zL 31 30,
 zP 32 (.bin .mul) [.t 28, .t 31],
 zP 33 (.bin .sub) [.t 27, .t 32],
 zF 34 2 0,
⟨some 35, none, .r (.loadN 2), [.t 34]⟩,
⟨some 36, none, .call, [.c (.func (.func 331) [] []), .t 35]⟩,
 zP 37 (.bin .sub) [.t 33, .t 36],
 zP 38 .mx [.c (.int .i64 0), .t 37],
 zP 39 (.bin .add) [.t 24, .t 38],
 zM 4 39] [[], [], [], [0, 17], [], [], [], [], [], [], [], [0, 17], [], [], [], [], [], [], [], [], []])
.ret)))))⟩
abbrev f_supply_server_gives : Nat := 323
abbrev C_supply_server_gives : AFunc := C323
def C324 : AFunc := ⟨21, [.tmp 4],
(.seq (.ops [⟨some 2, none, .a .box, [.t 0]⟩,
⟨some 3, none, .a .box, [.t 1]⟩,
 zP 4 .mov [.c (.int .i64 0)]])
(.seq (.seq (.ops [zF 5 3 5,
 zL 6 5,
 zP 7 (.bin .eql) [.t 6, .c (.int .i64 0)]])
(.cond (.t 7)
(.seq (.ops [zF 8 3 4,
 zL 9 8,
 zM 4 9])
.ret)
.skip))
(.seq (.dops [zF 10 3 4,
 zL 11 10,
⟨some 12, none, .r (.loadN 5), [.t 2]⟩,
⟨some 13, none, .r (.loadN 8), [.t 3]⟩,
⟨some 14, none, .call, [.c (.func (.func 304) [] []), .t 12, .t 13]⟩,
 zF 15 3 6,
 zL 16 15,
 zP 17 (.bin .mul) [.c (.int .i64 2), .t 16],
 zP 18 (.bin .add) [.t 14, .t 17],
 zP 19 (.bin .sub) [.t 18, .c (.int .i64 1)],
 zP 20 .mx [.t 11, .t 19],
 zM 4 20] [[], [0, 5], [], [], [], [], [0, 5], [], [], [], [], []])
.ret)))⟩
abbrev f_delay_seen_by : Nat := 324
abbrev C_delay_seen_by : AFunc := C324
def L_slices_Backward_stack_entry_stack_entry_1_0 : AC := (.seq (.seq (.ops [zM 7 3,
 zP 8 (.bin .geq) [.t 7, .c (.int .i64 0)]])
(.cond (.t 8)
.skip
(.exit 0)))
(.seq (.block 1 (.seq (.ops [zM 11 0,
 zM 12 3,
 zL 13 1,
 zM 14 3,
 zP 15 (.iaddrS 2) [.t 13, .t 14],
⟨some 16, none, .r (.loadN 2), [.t 15]⟩,
⟨some 17, none, .call, [.t 11, .t 12, .t 16]⟩,
 zP 18 .not [.t 17]])
(.cond (.t 18)
.ret
.skip)))
(.ops [zM 9 3,
 zP 10 (.bin .sub) [.t 9, .c (.int .i64 1)],
 zM 3 10])))
def C325 : AFunc := ⟨19, [],
(.seq (.ops [zL 4 1,
 zP 5 .lenS [.t 4],
 zP 6 (.bin .sub) [.t 5, .c (.int .i64 1)],
 zM 3 6])
(.block 0 (.loop L_slices_Backward_stack_entry_stack_entry_1_0)))⟩
abbrev f_slices_Backward_stack_entry_stack_entry_1 : Nat := 325
abbrev C_slices_Backward_stack_entry_stack_entry_1 : AFunc := C325
def C326 : AFunc := ⟨9, [.tmp 3],
(.seq (.ops [⟨some 2, none, .a .box, [.t 0]⟩,
 zP 3 .mov [.c (.bool false)]])
(.seq (.ops [⟨some 4, none, .r (.loadN 8), [.t 2]⟩,
 zF 5 1 1,
 zL 6 5,
⟨some 7, none, .call, [.c (.func (.func 327) [] []), .t 4, .t 6]⟩,
 zP 8 .not [.t 7],
 zM 3 8])
.ret))⟩
abbrev f_delay_Check_1 : Nat := 326
abbrev C_delay_Check_1 : AFunc := C326
def C327 : AFunc := ⟨56, [.tmp 4],
(.seq (.ops [⟨some 2, none, .a .box, [.t 0]⟩,
 zP 4 .mov [.c (.bool false)]])
(.seq (.block 0 (.seq (.seq (.ops [zF 6 2 4,
 zL 7 6,
 zP 8 (.bin .lss) [.t 7, .c (.int .i64 0)],
 zM 5 8])
(.cond (.t 5)
.skip
(.seq (.ops [zF 9 2 4,
 zL 10 9,
 zF 11 2 2,
 zL 12 11,
 zP 13 (.bin .gtr) [.t 10, .t 12],
 zM 5 13])
(.cond (.t 5)
.skip
(.seq (.ops [zF 14 2 5,
 zL 15 14,
 zP 16 (.bin .lss) [.t 15, .c (.int .i64 0)],
 zM 5 16])
(.cond (.t 5)
.skip
(.ops [zF 17 2 5,
 zL 18 17,
 zP 19 (.bin .gtr) [.t 18, .c (.int .i64 4)],
 zM 5 19])))))))
(.cond (.t 5)
(.seq (.ops [zP 4 .mov [.c (.bool false)]])
.ret)
(.seq (.ops [zF 21 2 5,
 zL 22 21,
 zP 23 (.bin .eql) [.t 22, .c (.int .i64 0)],
 zM 20 23])
(.cond (.t 20)
(.seq (.ops [zF 24 2 6,
 zL 25 24,
 zP 26 (.bin .eql) [.t 25, .c (.int .i64 0)],
 zM 27 26,
 zFg 28 2 7 27 true,
 zLg 29 28 27 true,
 zPg 30 (.bin .eql) [.t 29, .c (.int .i64 0)] 27 true,
 zP 31 .pick [.t 27, .t 30, .c (.bool false)],
 zM 4 31])
.ret)
.skip)))))
(.seq (.dops [zF 32 2 6,
 zL 33 32,
 zP 34 (.bin .leq) [.c (.int .i64 1), .t 33],
 zM 35 34,
 zFg 36 2 6 35 true,
 zLg 37 36 35 true,
 zMg 38 1 35 true,
 zPg 39 (.bin .leq) [.t 37, .t 38] 35 true,
 zP 40 .pick [.t 35, .t 39, .c (.bool false)],
 zM 41 40,
 zFg 42 2 7 41 true,
 zLg 43 42 41 true,
 zPg 44 (.bin .leq) [.c (.int .i64 1), .t 43] 41 true,
 zP 45 .pick [.t 41, .t 44, .c (.bool false)],
 zM 46 45,
 zFg 47 2 7 46 true,
 zLg 48 47 46 true,
 zFg 49 2 2 46 true,
 zLg 50 49 46 true,
 zFg 51 2 6 46 true,
 zLg 52 51 46 true,
 zPg 53 (.bin .quo) [.t 50, .t 52] 46 true,
 zPg 54 (.bin .leq) [.t 48, .t 53] 46 true,
 zP 55 .pick [.t 46, .t 54, .c (.bool false)],
 zM 4 55] [[], [], [], [], [], [], [], [], [], [], [], [], [], [], [], [], [], [], [], [], [], [], [], [], []])
.ret)))⟩
abbrev f_delay_may : Nat := 327
abbrev C_delay_may : AFunc := C327
def L_delay_seen_sharers_1_0 : AC := (.seq (.ops [zP 11 (.bin .lss) [.t 10, .t 9]])
(.seq (.cond (.t 11)
.skip
(.exit 0))
(.seq (.block 1 (.seq (.ops [zM 12 10,
 zP 13 (.iaddrS 3) [.t 8, .t 10],
⟨some 14, none, .r (.loadN 3), [.t 13]⟩,
⟨some 5, none, .a (.alloc [(.int .i64 0), (.int .i64 0), .nils]), []⟩,
 zM 4 12,
 zS 3 [.t 5, .t 14]])
(.seq (.ops [zF 15 5 2,
 zL 16 15,
 zP 17 (.mkfunc (.func 329) 0) [.t 2],
⟨some 18, none, .call, [.c (.func (.func 87) [] []), .t 16, .t 17]⟩,
 zM 6 18])
(.seq (.ops [zM 19 4,
 zF 20 1 4,
 zL 21 20,
 zP 22 (.bin .neq) [.t 19, .t 21],
 zM 23 22,
 zMg 24 6 23 true,
 zP 25 .pick [.t 23, .t 24, .c (.bool false)],
 zM 26 25,
 zMg 27 0 26 true,
⟨some 28, some (26, true), .r (.loadN 3), [.t 5]⟩,
⟨some 29, some (26, true), .call, [.t 27, .t 28]⟩,
 zPg 30 .not [.t 29] 26 true,
 zP 31 .pick [.t 26, .t 30, .c (.bool false)]])
(.cond (.t 31)
.ret
.skip)))))
(.ops [zP 32 (.bin .add) [.t 10, .c (.int .i64 1)],
 zM 10 32]))))
def C328 : AFunc := ⟨33, [],
(.seq (.ops [zF 7 1 3,
 zL 8 7,
 zP 9 .lenS [.t 8],
 zP 10 .mov [.c (.int .i64 0)]])
(.block 0 (.loop L_delay_seen_sharers_1_0)))⟩
abbrev f_delay_seen_sharers_1 : Nat := 328
abbrev C_delay_seen_sharers_1 : AFunc := C328
def C329 : AFunc := ⟨8, [.tmp 3],
(.seq (.ops [⟨some 2, none, .a .box, [.t 0]⟩,
 zP 3 .mov [.c (.bool false)]])
(.seq (.ops [zF 4 2 5,
 zL 5 4,
 zL 6 1,
 zP 7 (.bin .eql) [.t 5, .t 6],
 zM 3 7])
.ret))⟩
abbrev f_delay_seen_sharers_1_1 : Nat := 329
abbrev C_delay_seen_sharers_1_1 : AFunc := C329
def C330 : AFunc := ⟨51, [.tmp 4, .tmp 5],
(.seq (.ops [zP 4 .mov [.c (.int .u64 0)],
 zP 5 .mov [.c (.int .u64 0)]])
(.seq (.ops [zM 14 0,
 zP 15 (.bin .and) [.t 14, .c (.int .u64 4294967295)],
 zM 6 15])
(.seq (.ops [zM 16 0,
 zP 17 (.bin .shr) [.t 16, .c (.int .u64 32)],
 zM 7 17])
(.seq (.ops [zM 18 1,
 zP 19 (.bin .and) [.t 18, .c (.int .u64 4294967295)],
 zM 8 19])
(.seq (.ops [zM 20 1,
 zP 21 (.bin .shr) [.t 20, .c (.int .u64 32)],
 zM 9 21])
(.seq (.ops [zM 22 6,
 zM 23 8,
 zP 24 (.bin .mul) [.t 22, .t 23],
 zM 10 24])
(.seq (.ops [zM 25 7,
 zM 26 8,
 zP 27 (.bin .mul) [.t 25, .t 26],
 zM 28 10,
 zP 29 (.bin .shr) [.t 28, .c (.int .u64 32)],
 zP 30 (.bin .add) [.t 27, .t 29],
 zM 11 30])
(.seq (.ops [zM 31 11,
 zP 32 (.bin .and) [.t 31, .c (.int .u64 4294967295)],
 zM 12 32])
(.seq (.ops [zM 33 11,
 zP 34 (.bin .shr) [.t 33, .c (.int .u64 32)],
 zM 13 34])
(.seq (.ops [zM 35 12,
 zM 36 6,
 zM 37 9,
 zP 38 (.bin .mul) [.t 36, .t 37],
 zP 39 (.bin .add) [.t 35, .t 38],
 zM 12 39])
(.seq (.ops [zM 40 7,
 zM 41 9,
 zP 42 (.bin .mul) [.t 40, .t 41],
 zM 43 13,
 zP 44 (.bin .add) [.t 42, .t 43],
 zM 45 12,
 zP 46 (.bin .shr) [.t 45, .c (.int .u64 32)],
 zP 47 (.bin .add) [.t 44, .t 46],
 zM 4 47])
(.seq (.ops [zM 48 0,
 zM 49 1,
 zP 50 (.bin .mul) [.t 48, .t 49],
 zM 5 50])
.ret))))))))))))⟩
abbrev f_math_bits_Mul64 : Nat := 330
abbrev C_math_bits_Mul64 : AFunc := C330
def C331 : AFunc := ⟨8, [.tmp 2],
(.seq (.ops [⟨some 1, none, .a .box, [.t 0]⟩,
 zP 2 .mov [.c (.int .i64 0)]])
(.seq (.ops [zF 3 1 0,
 zL 4 3,
 zF 5 1 1,
 zL 6 5,
 zP 7 (.bin .sub) [.t 4, .t 6],
 zM 2 7])
.ret))⟩
abbrev f_supply_pair_idle : Nat := 331
abbrev C_supply_pair_idle : AFunc := C331
def C332 : AFunc := ⟨14, [.tmp 4],
(.seq (.ops [zP 4 .mov [.c (.int .i64 0)]])
(.seq (.ops [zM 8 0,
 zM 9 1,
⟨some 10, none, .call, [.c (.func (.func 333) [] []), .t 8, .t 9]⟩,
 zM 7 10,
 zP 11 (.ext 0) [.t 7],
 zP 12 (.ext 1) [.t 7],
 zM 5 11,
 zM 6 12])
(.seq (.ops [zM 13 5,
 zM 4 13])
.ret)))⟩
abbrev f_supply_over : Nat := 332
abbrev C_supply_over : AFunc := C332
def C333 : AFunc := ⟨18, [.tmp 4, .tmp 5],
(.seq (.ops [zP 4 .mov [.c (.int .i64 0)],
 zP 5 .mov [.c (.int .i64 0)]])
(.seq (.seq (.ops [zM 6 0,
 zM 7 1,
⟨some 8, none, .a (.bslice [(.int .i64 0)] 2 1 [0, 1]), [.t 6, .t 7]⟩,
⟨some 9, none, .call, [.c (.func (.func 305) [] []), .t 8]⟩,
 zP 10 .not [.t 9],
 zM 11 10,
 zMg 12 1 11 false,
 zPg 13 (.bin .eql) [.t 12, .c (.int .i64 0)] 11 false,
 zP 14 .pick [.t 11, .c (.bool true), .t 13]])
(.cond (.t 14)
(.seq (.ops [zP 4 .mov [.c (.int .i64 0)],
 zP 5 .mov [.c (.int .i64 2)]])
.ret)
.skip))
(.seq (.ops [zM 15 0,
 zM 16 1,
 zP 17 (.bin .quo) [.t 15, .t 16],
 zM 4 17,
 zP 5 .mov [.c (.int .i64 0)]])
.ret)))⟩
abbrev f_ticks_Div : Nat := 333
abbrev C_ticks_Div : AFunc := C333
def C352 : AFunc := ⟨21, [.tmp 4, .tmp 5],
(.seq (.ops [zP 4 .mov [.c (.str [])],
 zP 5 .mov [.c (.bool false)]])
(.seq (.dops [zM 6 0,
 zN 7 6,
 zF 8 7 0,
 zL 9 8,
 zM 10 1,
 zM 11 0,
 zN 12 11,
 zF 13 12 1,
 zL 14 13,
 zP 15 (.bin .sub) [.t 10, .t 14],
 zM 16 0,
 zN 17 16,
 zF 18 17 2,
 zL 19 18,
 zP 20 (.bin .leq) [.t 15, .t 19],
 zM 4 9,
 zM 5 20] [[], [], [], [], [], [], [], [], [], [], [], [], [], [], [], [], []])
.ret))⟩
abbrev f_port_sample_get : Nat := 352
abbrev C_port_sample_get : AFunc := C352
def C353 : AFunc := ⟨7, [.tmp 2],
(.seq (.ops [zP 2 .mov [.c (.int .i64 0)]])
(.seq (.seq (.ops [zM 3 0,
 zN 4 3,
 zF 5 4 3,
 zL 6 5])
(.cond (.t 6)
(.seq (.ops [zP 2 .mov [.c (.int .i64 1)]])
.ret)
.skip))
(.seq (.ops [zP 2 .mov [.c (.int .i64 0)]])
.ret)))⟩
abbrev f_port_sample_many : Nat := 353
abbrev C_port_sample_many : AFunc := C353
def C354 : AFunc := ⟨18, [.tmp 6],
(.seq (.ops [zP 6 .mov [.c (.int .i64 0)]])
(.seq (.ops [zM 7 0,
 zM 8 0,
 zM 9 0,
 zM 10 1,
 zM 11 2,
 zN 12 7,
 zF 13 12 0,
 zS 1 [.t 13, .t 10],
 zN 14 8,
 zF 15 14 1,
 zS 1 [.t 15, .t 11],
 zN 16 9,
 zF 17 16 3,
 zS 1 [.t 17, .c (.bool true)]])
(.seq (.ops [zP 6 .mov [.c (.int .i64 0)]])
.ret)))⟩
abbrev f_port_sample_put : Nat := 354
abbrev C_port_sample_put : AFunc := C354
def C355 : AFunc := ⟨21, [.tmp 4, .tmp 5],
(.seq (.ops [zP 4 .mov [.c (.str [])],
 zP 5 .mov [.c (.bool false)]])
(.seq (.dops [zM 6 0,
 zM 7 0,
 zN 8 7,
 zF 9 8 0,
 zL 10 9,
 zP 11 (.iaddrS 1) [.t 10, .c (.int .i64 0)],
 zL 12 11,
 zM 13 0,
 zN 14 13,
 zF 15 14 0,
 zL 16 15,
 zP 17 (.slice 1 true false false) [.t 16, .c (.int .i64 1)],
 zM 4 12,
 zN 18 6,
 zF 19 18 0,
 zS 1 [.t 19, .t 17]] [[], [], [], [], [], [], [], [], [], [], [], [], [], [], [], []])
(.seq (.ops [zM 20 4,
 zM 4 20,
 zP 5 .mov [.c (.bool true)]])
.ret)))⟩
abbrev f_port_queue_get : Nat := 355
abbrev C_port_queue_get : AFunc := C355
def C356 : AFunc := ⟨8, [.tmp 2],
(.seq (.ops [zP 2 .mov [.c (.int .i64 0)]])
(.seq (.ops [zM 3 0,
 zN 4 3,
 zF 5 4 0,
 zL 6 5,
 zP 7 .lenS [.t 6],
 zM 2 7])
.ret))⟩
abbrev f_port_queue_many : Nat := 356
abbrev C_port_queue_many : AFunc := C356
def C357 : AFunc := ⟨27, [.tmp 6],
(.seq (.ops [zP 6 .mov [.c (.int .i64 0)]])
(.seq (.seq (.dops [zM 7 0,
 zN 8 7,
 zF 9 8 0,
 zL 10 9,
 zP 11 .lenS [.t 10],
 zM 12 0,
 zN 13 12,
 zF 14 13 1,
 zL 15 14,
 zP 16 (.bin .eql) [.t 11, .t 15]] [[], [], [], [], [], [], [], [], [], []])
(.cond (.t 16)
(.seq (.ops [zP 6 .mov [.c (.int .i64 7)]])
.ret)
.skip))
(.seq (.ops [zM 17 0,
 zM 18 0,
 zN 19 18,
 zF 20 19 0,
 zL 21 20,
 zM 22 1,
⟨some 23, none, .a (.bslice [(.str [])] 1 1 [0]), [.t 22]⟩,
⟨some 24, none, .e (.append 1 16), [.t 21, .t 23]⟩,
 zN 25 17,
 zF 26 25 0,
 zS 1 [.t 26, .t 24]])
(.seq (.ops [zP 6 .mov [.c (.int .i64 0)]])
.ret))))⟩
abbrev f_port_queue_put : Nat := 357
abbrev C_port_queue_put : AFunc := C357
def T : Tr AFunc := (.node (.node (.node (.node (.node (.node (.node (.node (.node .nil (some C255) .nil) (some C127) .nil) (some C63) (.node (.node .nil (some C319) .nil) (some C191) .nil)) (some C31) (.node (.node (.node .nil (some C287) .nil) (some C159) .nil) (some C95) (.node .nil (some C223) .nil))) (some C15) (.node (.node (.node (.node .nil (some C271) .nil) (some C143) .nil) none (.node .nil (some C207) .nil)) (some C47) (.node (.node (.node .nil (some C303) .nil) (some C175) .nil) (some C111) (.node .nil (some C239) .nil)))) (some C7) (.node (.node (.node (.node (.node .nil (some C263) .nil) (some C135) .nil) (some C71) (.node (.node .nil (some C327) .nil) (some C199) .nil)) none (.node (.node (.node .nil (some C295) .nil) (some C167) .nil) (some C103) (.node .nil (some C231) .nil))) (some C23) (.node (.node (.node (.node .nil (some C279) .nil) (some C151) .nil) (some C87) (.node .nil (some C215) .nil)) (some C55) (.node (.node (.node .nil (some C311) .nil) (some C183) .nil) (some C119) (.node .nil (some C247) .nil))))) (some C3) (.node (.node (.node (.node (.node (.node .nil (some C259) .nil) (some C131) .nil) (some C67) (.node (.node .nil (some C323) .nil) (some C195) .nil)) (some C35) (.node (.node (.node .nil (some C291) .nil) (some C163) .nil) (some C99) (.node (.node .nil (some C355) .nil) (some C227) .nil))) none (.node (.node (.node (.node .nil (some C275) .nil) (some C147) .nil) none (.node .nil (some C211) .nil)) (some C51) (.node (.node (.node .nil (some C307) .nil) (some C179) .nil) none (.node .nil (some C243) .nil)))) (some C11) (.node (.node (.node (.node (.node .nil (some C267) .nil) (some C139) .nil) (some C75) (.node (.node .nil (some C331) .nil) (some C203) .nil)) none (.node (.node (.node .nil (some C299) .nil) (some C171) .nil) (some C107) (.node .nil (some C235) .nil))) (some C27) (.node (.node (.node (.node .nil (some C283) .nil) (some C155) .nil) (some C91) (.node .nil (some C219) .nil)) (some C59) (.node (.node (.node .nil (some C315) .nil) (some C187) .nil) (some C123) (.node .nil (some C251) .nil)))))) none (.node (.node (.node (.node (.node (.node (.node .nil (some C257) .nil) (some C129) .nil) (some C65) (.node (.node .nil (some C321) .nil) (some C193) .nil)) (some C33) (.node (.node (.node .nil (some C289) .nil) (some C161) .nil) (some C97) (.node (.node .nil (some C353) .nil) (some C225) .nil))) (some C17) (.node (.node (.node (.node .nil (some C273) .nil) (some C145) .nil) none (.node .nil (some C209) .nil)) none (.node (.node (.node .nil (some C305) .nil) (some C177) .nil) none (.node .nil (some C241) .nil)))) (some C9) (.node (.node (.node (.node (.node .nil (some C265) .nil) (some C137) .nil) (some C73) (.node (.node .nil (some C329) .nil) (some C201) .nil)) none (.node (.node (.node .nil (some C297) .nil) (some C169) .nil) (some C105) (.node .nil (some C233) .nil))) (some C25) (.node (.node (.node (.node .nil (some C281) .nil) (some C153) .nil) (some C89) (.node .nil (some C217) .nil)) (some C57) (.node (.node (.node .nil (some C313) .nil) (some C185) .nil) (some C121) (.node .nil (some C249) .nil))))) (some C5) (.node (.node (.node (.node (.node (.node .nil (some C261) .nil) (some C133) .nil) (some C69) (.node (.node .nil (some C325) .nil) (some C197) .nil)) (some C37) (.node (.node (.node .nil (some C293) .nil) (some C165) .nil) (some C101) (.node (.node .nil (some C357) .nil) (some C229) .nil))) none (.node (.node (.node (.node .nil (some C277) .nil) (some C149) .nil) none (.node .nil (some C213) .nil)) (some C53) (.node (.node (.node .nil (some C309) .nil) (some C181) .nil) (some C117) (.node .nil (some C245) .nil)))) (some C13) (.node (.node (.node (.node (.node .nil (some C269) .nil) (some C141) .nil) none (.node (.node .nil (some C333) .nil) (some C205) .nil)) none (.node (.node (.node .nil (some C301) .nil) (some C173) .nil) (some C109) (.node .nil (some C237) .nil))) (some C29) (.node (.node (.node (.node .nil (some C285) .nil) (some C157) .nil) (some C93) (.node .nil (some C221) .nil)) (some C61) (.node (.node (.node .nil (some C317) .nil) (some C189) .nil) (some C125) (.node .nil (some C253) .nil))))))) none (.node (.node (.node (.node (.node (.node (.node (.node .nil (some C256) .nil) (some C128) .nil) (some C64) (.node (.node .nil (some C320) .nil) (some C192) .nil)) (some C32) (.node (.node (.node .nil (some C288) .nil) (some C160) .nil) (some C96) (.node (.node .nil (some C352) .nil) (some C224) .nil))) (some C16) (.node (.node (.node (.node .nil (some C272) .nil) (some C144) .nil) none (.node .nil (some C208) .nil)) none (.node (.node (.node .nil (some C304) .nil) (some C176) .nil) (some C112) (.node .nil (some C240) .nil)))) (some C8) (.node (.node (.node (.node (.node .nil (some C264) .nil) (some C136) .nil) (some C72) (.node (.node .nil (some C328) .nil) (some C200) .nil)) none (.node (.node (.node .nil (some C296) .nil) (some C168) .nil) (some C104) (.node .nil (some C232) .nil))) (some C24) (.node (.node (.node (.node .nil (some C280) .nil) (some C152) .nil) (some C88) (.node .nil (some C216) .nil)) (some C56) (.node (.node (.node .nil (some C312) .nil) (some C184) .nil) (some C120) (.node .nil (some C248) .nil))))) none (.node (.node (.node (.node (.node (.node .nil (some C260) .nil) (some C132) .nil) (some C68) (.node (.node .nil (some C324) .nil) (some C196) .nil)) (some C36) (.node (.node (.node .nil (some C292) .nil) (some C164) .nil) (some C100) (.node (.node .nil (some C356) .nil) (some C228) .nil))) none (.node (.node (.node (.node .nil (some C276) .nil) (some C148) .nil) none (.node .nil (some C212) .nil)) (some C52) (.node (.node (.node .nil (some C308) .nil) (some C180) .nil) (some C116) (.node .nil (some C244) .nil)))) (some C12) (.node (.node (.node (.node (.node .nil (some C268) .nil) (some C140) .nil) none (.node (.node .nil (some C332) .nil) (some C204) .nil)) none (.node (.node (.node .nil (some C300) .nil) (some C172) .nil) (some C108) (.node .nil (some C236) .nil))) (some C28) (.node (.node (.node (.node .nil (some C284) .nil) (some C156) .nil) (some C92) (.node .nil (some C220) .nil)) (some C60) (.node (.node (.node .nil (some C316) .nil) (some C188) .nil) (some C124) (.node .nil (some C252) .nil)))))) none (.node (.node (.node (.node (.node (.node (.node .nil (some C258) .nil) (some C130) .nil) (some C66) (.node (.node .nil (some C322) .nil) (some C194) .nil)) (some C34) (.node (.node (.node .nil (some C290) .nil) (some C162) .nil) (some C98) (.node (.node .nil (some C354) .nil) (some C226) .nil))) none (.node (.node (.node (.node .nil (some C274) .nil) (some C146) .nil) none (.node .nil (some C210) .nil)) none (.node (.node (.node .nil (some C306) .nil) (some C178) .nil) none (.node .nil (some C242) .nil)))) (some C10) (.node (.node (.node (.node (.node .nil (some C266) .nil) (some C138) .nil) (some C74) (.node (.node .nil (some C330) .nil) (some C202) .nil)) none (.node (.node (.node .nil (some C298) .nil) (some C170) .nil) (some C106) (.node .nil (some C234) .nil))) (some C26) (.node (.node (.node (.node .nil (some C282) .nil) (some C154) .nil) (some C90) (.node .nil (some C218) .nil)) (some C58) (.node (.node (.node .nil (some C314) .nil) (some C186) .nil) (some C122) (.node .nil (some C250) .nil))))) (some C6) (.node (.node (.node (.node (.node (.node .nil (some C262) .nil) (some C134) .nil) (some C70) (.node (.node .nil (some C326) .nil) (some C198) .nil)) (some C38) (.node (.node (.node .nil (some C294) .nil) (some C166) .nil) (some C102) (.node .nil (some C230) .nil))) none (.node (.node (.node (.node .nil (some C278) .nil) (some C150) .nil) (some C86) (.node .nil (some C214) .nil)) (some C54) (.node (.node (.node .nil (some C310) .nil) (some C182) .nil) (some C118) (.node .nil (some C246) .nil)))) (some C14) (.node (.node (.node (.node (.node .nil (some C270) .nil) (some C142) .nil) none (.node .nil (some C206) .nil)) none (.node (.node (.node .nil (some C302) .nil) (some C174) .nil) (some C110) (.node .nil (some C238) .nil))) (some C30) (.node (.node (.node (.node .nil (some C286) .nil) (some C158) .nil) (some C94) (.node .nil (some C222) .nil)) (some C62) (.node (.node (.node .nil (some C318) .nil) (some C190) .nil) (some C126) (.node .nil (some C254) .nil))))))))
def fs (f : Nat) : Option AFunc := Tr.get T f
def ms (t : Nat) (n : String) : Option Nat := if t = 176 ∧ n = (zs [101, 115, 99, 97, 112, 101, 109, 101, 110, 116, 47, 112, 111, 114, 116, 46, 112, 117, 116]) then some 354 else if t = 183 ∧ n = (zs [101, 115, 99, 97, 112, 101, 109, 101, 110, 116, 47, 112, 111, 114, 116, 46, 112, 117, 116]) then some 357 else if t = 176 ∧ n = (zs [101, 115, 99, 97, 112, 101, 109, 101, 110, 116, 47, 112, 111, 114, 116, 46, 109, 97, 110, 121]) then some 353 else if t = 183 ∧ n = (zs [101, 115, 99, 97, 112, 101, 109, 101, 110, 116, 47, 112, 111, 114, 116, 46, 109, 97, 110, 121]) then some 356 else if t = 176 ∧ n = (zs [101, 115, 99, 97, 112, 101, 109, 101, 110, 116, 47, 112, 111, 114, 116, 46, 103, 101, 116]) then some 352 else if t = 183 ∧ n = (zs [101, 115, 99, 97, 112, 101, 109, 101, 110, 116, 47, 112, 111, 114, 116, 46, 103, 101, 116]) then some 355 else none
end Ir
end Go.Proofs.YtglmcmjionhikaaGreat
