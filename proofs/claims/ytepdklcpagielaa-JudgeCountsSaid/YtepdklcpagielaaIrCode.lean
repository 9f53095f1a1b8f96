/-
  What the program's functions are in Ads, printed by a program.
-/
import Derived.Test.YtepdklcpagielaaAdsDef
set_option linter.unusedVariables false
set_option maxRecDepth 100000
namespace Go.Proofs.Ytepdklcpagielaa
open Go Ads
namespace Ir
def L_escapementlaw26_JudgeCounts_0 : AC := (.seq (.seq (.ops (⟨(some 23), none, .p .mov, [.t 9]⟩ ::
 ⟨(some 24), none, .p .mov, [.t 7]⟩ ::
 ⟨(some 25), none, .p .lenS, [.t 24]⟩ ::
 ⟨(some 26), none, .p (.bin .lss), [.t 23, .t 25]⟩ ::
 []))
(.cond (.t 26)
.skip
(.exit 0)))
(.seq (.block 1 (.seq (.seq (.dops (⟨(some 29), none, .p .mov, [.t 7]⟩ ::
 ⟨(some 30), none, .p .mov, [.t 9]⟩ ::
 ⟨(some 31), none, .p (.iaddrS 7), [.t 29, .t 30]⟩ ::
 ⟨(some 32), none, .r (.loadN 7), [.t 31]⟩ ::
 ⟨(some 33), none, .p .mov, [.t 8]⟩ ::
 ⟨(some 34), none, .p .mov, [.t 9]⟩ ::
 ⟨(some 35), none, .p (.iaddrS 7), [.t 33, .t 34]⟩ ::
 ⟨(some 36), none, .r (.loadN 7), [.t 35]⟩ ::
 ⟨(some 37), none, .p (.neq (.cells [0, 0, 0, 0, 0, 0, 2])), [.t 32, .t 36]⟩ ::
 []) ([] :: [] :: [] :: [] :: [] :: [] :: [] :: [] :: [] :: []))
(.cond (.t 37)
(.seq (.ops (⟨(some 6), none, .p .mov, [.c (.bool false)]⟩ ::
 []))
.ret)
.skip))
(.ops (⟨(some 38), none, .p .mov, [.t 7]⟩ ::
 ⟨(some 39), none, .p .mov, [.t 9]⟩ ::
 ⟨(some 40), none, .p (.iaddrS 7), [.t 38, .t 39]⟩ ::
 ⟨(some 41), none, .p (.faddr 0), [.t 40]⟩ ::
 ⟨none, none, .e (.store 1), [.t 41, .c (.int .i64 (-1))]⟩ ::
 []))))
(.ops (⟨(some 27), none, .p .mov, [.t 9]⟩ ::
 ⟨(some 28), none, .p (.bin .add), [.t 27, .c (.int .i64 1)]⟩ ::
 ⟨(some 9), none, .p .mov, [.t 28]⟩ ::
 []))))
def L_escapementlaw26_JudgeCounts_1 : AC := (.seq (.seq (.ops (⟨(some 45), none, .p .mov, [.t 11]⟩ ::
 ⟨(some 46), none, .p .mov, [.t 8]⟩ ::
 ⟨(some 47), none, .p .lenS, [.t 46]⟩ ::
 ⟨(some 48), none, .p (.bin .lss), [.t 45, .t 47]⟩ ::
 []))
(.cond (.t 48)
.skip
(.exit 2)))
(.seq (.block 3 (.seq (.dops (⟨(some 51), none, .p .mov, [.t 11]⟩ ::
 ⟨(some 52), none, .p .mov, [.t 10]⟩ ::
 ⟨(some 53), none, .p .lenS, [.t 52]⟩ ::
 ⟨(some 54), none, .p (.bin .geq), [.t 51, .t 53]⟩ ::
 ⟨(some 55), none, .p .mov, [.t 54]⟩ ::
 ⟨(some 56), (some (55, false)), .p .mov, [.t 10]⟩ ::
 ⟨(some 57), (some (55, false)), .p .mov, [.t 11]⟩ ::
 ⟨(some 58), (some (55, false)), .p (.iaddrS 7), [.t 56, .t 57]⟩ ::
 ⟨(some 59), (some (55, false)), .r (.loadN 7), [.t 58]⟩ ::
 ⟨(some 60), (some (55, false)), .p .mov, [.t 8]⟩ ::
 ⟨(some 61), (some (55, false)), .p .mov, [.t 11]⟩ ::
 ⟨(some 62), (some (55, false)), .p (.iaddrS 7), [.t 60, .t 61]⟩ ::
 ⟨(some 63), (some (55, false)), .r (.loadN 7), [.t 62]⟩ ::
 ⟨(some 64), (some (55, false)), .p (.neq (.cells [0, 0, 0, 0, 0, 0, 2])), [.t 59, .t 63]⟩ ::
 ⟨(some 65), none, .p .pick, [.t 55, .c (.bool true), .t 64]⟩ ::
 []) ([] :: [] :: [] :: [] :: [] :: [] :: [] :: [] :: [] :: [] :: [] :: [] :: [] :: [] :: [] :: []))
(.cond (.t 65)
(.seq (.ops (⟨(some 6), none, .p .mov, [.c (.bool false)]⟩ ::
 []))
.ret)
.skip)))
(.ops (⟨(some 49), none, .p .mov, [.t 11]⟩ ::
 ⟨(some 50), none, .p (.bin .add), [.t 49, .c (.int .i64 1)]⟩ ::
 ⟨(some 11), none, .p .mov, [.t 50]⟩ ::
 []))))
def C6 : AFunc := ⟨84, [.tmp 6],
(.seq (.ops (⟨(some 5), none, .a .box, [.t 2]⟩ ::
 ⟨(some 6), none, .p .mov, [.c (.bool false)]⟩ ::
 []))
(.seq (.ops (⟨(some 12), none, .p .mov, [.t 0]⟩ ::
 ⟨(some 13), none, .p .mov, [.t 1]⟩ ::
 ⟨(some 14), none, .call, [.c (.func (.func 23) [] []), .t 12, .t 13]⟩ ::
 ⟨(some 15), none, .p .mov, [.t 0]⟩ ::
 ⟨(some 16), none, .p .mov, [.t 1]⟩ ::
 ⟨(some 17), none, .call, [.c (.func (.func 24) [] []), .t 15, .t 16]⟩ ::
 ⟨(some 7), none, .p .mov, [.t 14]⟩ ::
 ⟨(some 8), none, .p .mov, [.t 17]⟩ ::
 []))
(.seq (.seq (.ops (⟨(some 18), none, .p .mov, [.t 7]⟩ ::
 ⟨(some 19), none, .p .lenS, [.t 18]⟩ ::
 ⟨(some 20), none, .p .mov, [.t 8]⟩ ::
 ⟨(some 21), none, .p .lenS, [.t 20]⟩ ::
 ⟨(some 22), none, .p (.bin .neq), [.t 19, .t 21]⟩ ::
 []))
(.cond (.t 22)
(.seq (.ops (⟨(some 6), none, .p .mov, [.c (.bool false)]⟩ ::
 []))
.ret)
.skip))
(.seq (.seq (.ops (⟨(some 9), none, .p .mov, [.c (.int .i64 0)]⟩ ::
 []))
(.block 0 (.loop L_escapementlaw26_JudgeCounts_0)))
(.seq (.ops (⟨(some 42), none, .p .mov, [.t 0]⟩ ::
 ⟨(some 43), none, .p .mov, [.t 1]⟩ ::
 ⟨(some 44), none, .call, [.c (.func (.func 23) [] []), .t 42, .t 43]⟩ ::
 ⟨(some 10), none, .p .mov, [.t 44]⟩ ::
 []))
(.seq (.seq (.ops (⟨(some 11), none, .p .mov, [.c (.int .i64 0)]⟩ ::
 []))
(.block 2 (.loop L_escapementlaw26_JudgeCounts_1)))
(.seq (.dops (⟨(some 66), none, .p .mov, [.t 0]⟩ ::
 ⟨(some 67), none, .p .mov, [.t 1]⟩ ::
 ⟨(some 68), none, .p (.iaddrA 1 2), [.t 5, .c (.int .i64 0)]⟩ ::
 ⟨(some 69), none, .r .load1, [.t 68]⟩ ::
 ⟨(some 70), none, .p (.iaddrA 1 2), [.t 5, .c (.int .i64 1)]⟩ ::
 ⟨(some 71), none, .r .load1, [.t 70]⟩ ::
 ⟨(some 72), none, .call, [.c (.func (.func 25) [] []), .t 66, .t 67, .t 69, .t 71]⟩ ::
 ⟨(some 73), none, .p .mov, [.t 0]⟩ ::
 ⟨(some 74), none, .p .mov, [.t 1]⟩ ::
 ⟨(some 75), none, .p (.iaddrA 1 2), [.t 5, .c (.int .i64 0)]⟩ ::
 ⟨(some 76), none, .r .load1, [.t 75]⟩ ::
 ⟨(some 77), none, .p (.iaddrA 1 2), [.t 5, .c (.int .i64 1)]⟩ ::
 ⟨(some 78), none, .r .load1, [.t 77]⟩ ::
 ⟨(some 79), none, .call, [.c (.func (.func 26) [] []), .t 73, .t 74, .t 76, .t 78]⟩ ::
 ⟨(some 80), none, .p (.bin .eql), [.t 72, .t 79]⟩ ::
 ⟨(some 81), none, .p .mov, [.t 80]⟩ ::
 ⟨(some 82), (some (81, true)), .call, [.c (.func (.func 21) [] [])]⟩ ::
 ⟨(some 83), none, .p .pick, [.t 81, .t 82, .c (.bool false)]⟩ ::
 ⟨(some 6), none, .p .mov, [.t 83]⟩ ::
 []) ([] :: [] :: [] :: [] :: [] :: [] :: [] :: [] :: [] :: [] :: [0, 7] :: [] :: [0, 7] :: [] :: [] :: [] :: [] :: [] :: [] :: []))
.ret)))))))⟩
abbrev f_escapementlaw26_JudgeCounts : Nat := 6
abbrev C_escapementlaw26_JudgeCounts : AFunc := C6
def C18 : AFunc := ⟨39, [.tmp 6, .tmp 7, .tmp 8],
(.seq (.ops (⟨(some 3), none, .a .box, [.t 0]⟩ ::
 ⟨(some 6), none, .p .mov, [.c (.int .i64 0)]⟩ ::
 ⟨(some 7), none, .p .mov, [.c (.int .i64 0)]⟩ ::
 ⟨(some 8), none, .p .mov, [.c (.int .i64 0)]⟩ ::
 []))
(.seq (.seq (.ops (⟨(some 11), none, .r (.loadN 2), [.t 3]⟩ ::
 ⟨(some 12), none, .call, [.c (.func (.func 41) [] []), .t 11]⟩ ::
 ⟨(some 9), none, .p .mov, [.t 12]⟩ ::
 []))
(.seq (.ops (⟨(some 13), none, .p .mov, [.t 9]⟩ ::
 ⟨(some 14), none, .p (.bin .neq), [.t 13, .c (.int .i64 0)]⟩ ::
 []))
(.cond (.t 14)
(.seq (.ops (⟨(some 15), none, .p .mov, [.t 9]⟩ ::
 ⟨(some 6), none, .p .mov, [.c (.int .i64 0)]⟩ ::
 ⟨(some 7), none, .p .mov, [.c (.int .i64 0)]⟩ ::
 ⟨(some 8), none, .p .mov, [.t 15]⟩ ::
 []))
.ret)
.skip)))
(.seq (.seq (.ops (⟨(some 16), none, .p .mov, [.t 2]⟩ ::
 ⟨(some 17), none, .p (.bin .lss), [.t 16, .c (.int .i64 0)]⟩ ::
 ⟨(some 18), none, .p .mov, [.t 17]⟩ ::
 ⟨(some 19), (some (18, false)), .p .mov, [.t 2]⟩ ::
 ⟨(some 20), (some (18, false)), .p (.bin .gtr), [.t 19, .c (.int .i64 10000)]⟩ ::
 ⟨(some 21), none, .p .pick, [.t 18, .c (.bool true), .t 20]⟩ ::
 []))
(.cond (.t 21)
(.seq (.ops (⟨(some 6), none, .p .mov, [.c (.int .i64 0)]⟩ ::
 ⟨(some 7), none, .p .mov, [.c (.int .i64 0)]⟩ ::
 ⟨(some 8), none, .p .mov, [.c (.int .i64 5)]⟩ ::
 []))
.ret)
.skip))
(.seq (.ops (⟨(some 22), none, .p (.faddr 0), [.t 3]⟩ ::
 ⟨(some 23), none, .r .load1, [.t 22]⟩ ::
 ⟨(some 24), none, .call, [.c (.func (.func 42) [] []), .t 23]⟩ ::
 ⟨(some 25), none, .p (.build [.nils, .nils] [(0, 1)]), [.t 24]⟩ ::
 ⟨(some 26), none, .p .mov, [.t 2]⟩ ::
 ⟨(some 27), none, .p (.build [.nils, .nils, (.bool false), (.int .i64 0), (.int .i64 0), (.int .i64 0), (.int .i64 0), (.bool false), (.int .i64 0), (.int .i64 0), (.int .i64 0), (.bool false), (.int .i64 0), (.int .i64 0), (.int .i64 0), (.bool false), (.int .i64 0), (.int .i64 0), (.int .i64 0), (.bool false), (.int .i64 0), (.int .i64 0), (.int .i64 0), (.bool false), (.int .i64 0), (.bool false), (.int .i64 0), (.int .i64 0), (.int .i64 0), (.int .i64 0), (.bool false), (.int .i64 0), (.int .i64 0), (.int .i64 0), (.bool false), (.int .i64 0), (.int .i64 0), (.int .i64 0), (.bool false), (.int .i64 0), (.int .i64 0), (.int .i64 0), (.bool false), (.int .i64 0), (.int .i64 0), (.int .i64 0), (.bool false), (.int .i64 0), (.bool false), (.int .i64 0), (.int .i64 0), (.int .i64 0), (.int .i64 0), (.bool false), (.int .i64 0), (.int .i64 0), (.int .i64 0), (.bool false), (.int .i64 0), (.int .i64 0), (.int .i64 0), (.bool false), (.int .i64 0), (.int .i64 0), (.int .i64 0), (.bool false), (.int .i64 0), (.int .i64 0), (.int .i64 0), (.bool false), (.int .i64 0), (.bool false), (.int .i64 0), (.int .i64 0), (.int .i64 0), (.int .i64 0), (.bool false), (.int .i64 0), (.int .i64 0), (.int .i64 0), (.bool false), (.int .i64 0), (.int .i64 0), (.int .i64 0), (.bool false), (.int .i64 0), (.int .i64 0), (.int .i64 0), (.bool false), (.int .i64 0), (.int .i64 0), (.int .i64 0), (.bool false), (.int .i64 0), (.int .i64 0), (.int .i64 0), (.bool false), (.bool false), (.int .i64 0)] [(0, 2), (94, 1)]), [.t 25, .t 26]⟩ ::
 ⟨(some 28), none, .a .box, [.t 27]⟩ ::
 ⟨(some 10), none, .p .mov, [.t 28]⟩ ::
 []))
(.seq (.seq (.ops (⟨(some 29), none, .p .mov, [.t 10]⟩ ::
 ⟨(some 30), none, .p .mov, [.t 1]⟩ ::
 ⟨(some 31), none, .call, [.c (.func (.func 43) [] []), .t 29, .t 30]⟩ ::
 ⟨(some 6), none, .p .mov, [.t 31]⟩ ::
 []))
(.seq (.ops (⟨(some 32), none, .p .mov, [.t 6]⟩ ::
 ⟨(some 33), none, .p (.bin .eql), [.t 32, .c (.int .i64 0)]⟩ ::
 []))
(.cond (.t 33)
(.seq (.ops (⟨(some 6), none, .p .mov, [.c (.int .i64 0)]⟩ ::
 ⟨(some 7), none, .p .mov, [.c (.int .i64 0)]⟩ ::
 ⟨(some 8), none, .p .mov, [.c (.int .i64 0)]⟩ ::
 []))
.ret)
.skip)))
(.seq (.dops (⟨(some 34), none, .p .mov, [.t 6]⟩ ::
 ⟨(some 35), none, .p .mov, [.t 10]⟩ ::
 ⟨(some 36), none, .p .nilchk, [.t 35]⟩ ::
 ⟨(some 37), none, .p (.faddr 98), [.t 36]⟩ ::
 ⟨(some 38), none, .r .load1, [.t 37]⟩ ::
 ⟨(some 6), none, .p .mov, [.t 34]⟩ ::
 ⟨(some 7), none, .p .mov, [.t 38]⟩ ::
 ⟨(some 8), none, .p .mov, [.c (.int .i64 0)]⟩ ::
 []) ([] :: [] :: [] :: [] :: [] :: [] :: [] :: [] :: []))
.ret))))))⟩
abbrev f_judge_Find : Nat := 18
abbrev C_judge_Find : AFunc := C18
def C21 : AFunc := ⟨46, [.tmp 0],
(.seq (.ops (⟨(some 0), none, .p .mov, [.c (.bool false)]⟩ ::
 []))
(.seq (.ops (⟨(some 5), none, .p (.build [(.int .i64 0), (.int .i64 0), (.int .i64 0), (.int .i64 0), (.int .i64 0), (.int .i64 0), (.str [])] [(0, 1), (1, 1)]), [.c (.int .i64 1), .c (.int .i64 6)]⟩ ::
 ⟨(some 1), none, .a (.alloc [(.int .i64 0), (.int .i64 0), (.int .i64 0), (.int .i64 0), (.int .i64 0), (.int .i64 0), (.str [])]), []⟩ ::
 ⟨none, none, .e (.store 7), [.t 1, .t 5]⟩ ::
 []))
(.seq (.ops (⟨(some 6), none, .p (.build [(.int .i64 0), (.int .i64 0), (.int .i64 0), (.int .i64 0), (.int .i64 0), (.int .i64 0), (.str [])] [(0, 1), (1, 1), (3, 1)]), [.c (.int .i64 1), .c (.int .i64 1), .c (.int .i64 (-1))]⟩ ::
 ⟨(some 7), none, .p (.build [(.int .i64 0), (.int .i64 0), (.int .i64 0), (.int .i64 0), (.int .i64 0), (.int .i64 0), (.str [])] [(0, 1), (1, 1), (3, 1)]), [.c (.int .i64 2), .c (.int .i64 1), .c (.int .i64 (-1))]⟩ ::
 ⟨(some 2), none, .a (.alloc [(.int .i64 0), (.int .i64 0), (.int .i64 0), (.int .i64 0), (.int .i64 0), (.int .i64 0), (.str [])]), []⟩ ::
 ⟨(some 3), none, .a (.alloc [(.int .i64 0), (.int .i64 0), (.int .i64 0), (.int .i64 0), (.int .i64 0), (.int .i64 0), (.str [])]), []⟩ ::
 ⟨none, none, .e (.store 7), [.t 2, .t 6]⟩ ::
 ⟨none, none, .e (.store 7), [.t 3, .t 7]⟩ ::
 []))
(.seq (.ops (⟨(some 8), none, .call, [.c (.func (.func 49) [] []), .c (.int .i64 5), .c (.int .i64 0), .c (.int .i64 0), .c .nils]⟩ ::
 ⟨(some 9), none, .p .mov, [.t 8]⟩ ::
 ⟨(some 10), (some (9, true)), .r (.loadN 7), [.t 1]⟩ ::
 ⟨(some 11), (some (9, true)), .r (.loadN 7), [.t 2]⟩ ::
 ⟨(some 12), (some (9, true)), .r (.loadN 7), [.t 3]⟩ ::
 ⟨(some 13), (some (9, true)), .a (.bslice [(.int .i64 0), (.int .i64 0), (.int .i64 0), (.int .i64 0), (.int .i64 0), (.int .i64 0), (.str [])] 3 7 [0, 1, 2]), [.t 10, .t 11, .t 12]⟩ ::
 ⟨(some 14), (some (9, true)), .call, [.c (.func (.func 49) [] []), .c (.int .i64 5), .c (.int .i64 0), .c (.int .i64 0), .t 13]⟩ ::
 ⟨(some 15), none, .p .pick, [.t 9, .t 14, .c (.bool false)]⟩ ::
 ⟨(some 16), none, .p .mov, [.t 15]⟩ ::
 ⟨(some 17), (some (16, true)), .r (.loadN 7), [.t 1]⟩ ::
 ⟨(some 18), (some (16, true)), .r (.loadN 7), [.t 2]⟩ ::
 ⟨(some 19), (some (16, true)), .r (.loadN 7), [.t 3]⟩ ::
 ⟨(some 20), (some (16, true)), .a (.bslice [(.int .i64 0), (.int .i64 0), (.int .i64 0), (.int .i64 0), (.int .i64 0), (.int .i64 0), (.str [])] 3 7 [0, 1, 2]), [.t 17, .t 18, .t 19]⟩ ::
 ⟨(some 21), (some (16, true)), .call, [.c (.func (.func 49) [] []), .c (.int .i64 3), .c (.int .i64 0), .c (.int .i64 0), .t 20]⟩ ::
 ⟨(some 22), none, .p .pick, [.t 16, .t 21, .c (.bool false)]⟩ ::
 ⟨(some 23), none, .p .mov, [.t 22]⟩ ::
 ⟨(some 24), (some (23, true)), .r (.loadN 7), [.t 1]⟩ ::
 ⟨(some 25), (some (23, true)), .r (.loadN 7), [.t 3]⟩ ::
 ⟨(some 26), (some (23, true)), .a (.bslice [(.int .i64 0), (.int .i64 0), (.int .i64 0), (.int .i64 0), (.int .i64 0), (.int .i64 0), (.str [])] 2 7 [0, 1]), [.t 24, .t 25]⟩ ::
 ⟨(some 27), (some (23, true)), .call, [.c (.func (.func 49) [] []), .c (.int .i64 2), .c (.int .i64 3), .c (.int .i64 1), .t 26]⟩ ::
 ⟨(some 28), none, .p .pick, [.t 23, .t 27, .c (.bool false)]⟩ ::
 ⟨(some 29), none, .p .mov, [.t 28]⟩ ::
 ⟨(some 30), (some (29, true)), .r (.loadN 7), [.t 1]⟩ ::
 ⟨(some 31), (some (29, true)), .a (.bslice [(.int .i64 0), (.int .i64 0), (.int .i64 0), (.int .i64 0), (.int .i64 0), (.int .i64 0), (.str [])] 1 7 [0]), [.t 30]⟩ ::
 ⟨(some 32), (some (29, true)), .call, [.c (.func (.func 49) [] []), .c (.int .i64 2), .c (.int .i64 3), .c (.int .i64 1), .t 31]⟩ ::
 ⟨(some 33), none, .p .pick, [.t 29, .t 32, .c (.bool false)]⟩ ::
 ⟨(some 4), none, .p .mov, [.t 33]⟩ ::
 []))
(.seq (.ops (⟨(some 34), none, .p .mov, [.t 4]⟩ ::
 ⟨(some 35), none, .p .mov, [.t 34]⟩ ::
 ⟨(some 36), (some (35, true)), .p (.build [(.int .i64 0), (.int .i64 0), (.int .i64 0), (.int .i64 0), (.int .i64 0), (.int .i64 0), (.str [])] [(1, 1), (3, 1)]), [.c (.int .i64 1), .c (.int .i64 (-1))]⟩ ::
 ⟨(some 37), (some (35, true)), .a (.bslice [(.int .i64 0), (.int .i64 0), (.int .i64 0), (.int .i64 0), (.int .i64 0), (.int .i64 0), (.str [])] 1 7 [0]), [.t 36]⟩ ::
 ⟨(some 38), (some (35, true)), .call, [.c (.func (.func 49) [] []), .c (.int .i64 5), .c (.int .i64 2), .c (.int .i64 0), .t 37]⟩ ::
 ⟨(some 39), none, .p .pick, [.t 35, .t 38, .c (.bool false)]⟩ ::
 ⟨(some 40), none, .p .mov, [.t 39]⟩ ::
 ⟨(some 41), (some (40, true)), .r (.loadN 7), [.t 1]⟩ ::
 ⟨(some 42), (some (40, true)), .p (.build [(.int .i64 0), (.int .i64 0), (.int .i64 0), (.int .i64 0), (.int .i64 0), (.int .i64 0), (.str [])] [(0, 1), (1, 1)]), [.c (.int .i64 1), .c (.int .i64 1)]⟩ ::
 ⟨(some 43), (some (40, true)), .a (.bslice [(.int .i64 0), (.int .i64 0), (.int .i64 0), (.int .i64 0), (.int .i64 0), (.int .i64 0), (.str [])] 2 7 [0, 1]), [.t 41, .t 42]⟩ ::
 ⟨(some 44), (some (40, true)), .call, [.c (.func (.func 49) [] []), .c (.int .i64 5), .c (.int .i64 5), .c (.int .i64 1), .t 43]⟩ ::
 ⟨(some 45), none, .p .pick, [.t 40, .t 44, .c (.bool false)]⟩ ::
 ⟨(some 0), none, .p .mov, [.t 45]⟩ ::
 []))
.ret)))))⟩
abbrev f_escapementlaw26_works : Nat := 21
abbrev C_escapementlaw26_works : AFunc := C21
def L_judge_Of_0 : AC := (.seq (.ops (⟨(some 10), none, .p (.bin .lss), [.t 9, .t 8]⟩ ::
 []))
(.seq (.cond (.t 10)
.skip
(.exit 0))
(.seq (.block 1 (.seq (.ops (⟨(some 11), none, .p (.iaddrS 7), [.t 7, .t 9]⟩ ::
 ⟨(some 12), none, .r (.loadN 7), [.t 11]⟩ ::
 ⟨(some 6), none, .a (.alloc [(.int .i64 0), (.int .i64 0), (.int .i64 0), (.int .i64 0), (.int .i64 0), (.int .i64 0), (.str [])]), []⟩ ::
 ⟨none, none, .e (.store 7), [.t 6, .t 12]⟩ ::
 []))
(.seq (.ops (⟨(some 13), none, .p (.faddr 2), [.t 6]⟩ ::
 ⟨(some 14), none, .r .load1, [.t 13]⟩ ::
 ⟨(some 15), none, .p .mov, [.t 1]⟩ ::
 ⟨(some 16), none, .p (.bin .eql), [.t 14, .t 15]⟩ ::
 []))
(.cond (.t 16)
(.ops (⟨(some 17), none, .p .mov, [.t 4]⟩ ::
 ⟨(some 18), none, .r (.loadN 7), [.t 6]⟩ ::
 ⟨(some 19), none, .a (.bslice [(.int .i64 0), (.int .i64 0), (.int .i64 0), (.int .i64 0), (.int .i64 0), (.int .i64 0), (.str [])] 1 7 [0]), [.t 18]⟩ ::
 ⟨(some 20), none, .e (.append 7 64), [.t 17, .t 19]⟩ ::
 ⟨(some 4), none, .p .mov, [.t 20]⟩ ::
 []))
.skip))))
(.ops (⟨(some 21), none, .p (.bin .add), [.t 9, .c (.int .i64 1)]⟩ ::
 ⟨(some 9), none, .p .mov, [.t 21]⟩ ::
 [])))))
def C23 : AFunc := ⟨23, [.tmp 4],
(.seq (.ops (⟨(some 4), none, .p .mov, [.c .nils]⟩ ::
 []))
(.seq (.seq (.ops (⟨(some 7), none, .p .mov, [.t 0]⟩ ::
 ⟨(some 8), none, .p .lenS, [.t 7]⟩ ::
 ⟨(some 9), none, .p .mov, [.c (.int .i64 0)]⟩ ::
 []))
(.block 0 (.loop L_judge_Of_0)))
(.seq (.ops (⟨(some 22), none, .p .mov, [.t 4]⟩ ::
 ⟨(some 4), none, .p .mov, [.t 22]⟩ ::
 []))
.ret)))⟩
abbrev f_judge_Of : Nat := 23
abbrev C_judge_Of : AFunc := C23
def L_escapementref26_Of_0 : AC := (.seq (.seq (.ops (⟨(some 7), none, .p .mov, [.t 6]⟩ ::
 ⟨(some 8), none, .p .mov, [.t 0]⟩ ::
 ⟨(some 9), none, .p .lenS, [.t 8]⟩ ::
 ⟨(some 10), none, .p (.bin .lss), [.t 7, .t 9]⟩ ::
 []))
(.cond (.t 10)
.skip
(.exit 0)))
(.seq (.block 1 (.seq (.ops (⟨(some 13), none, .p .mov, [.t 0]⟩ ::
 ⟨(some 14), none, .p .mov, [.t 6]⟩ ::
 ⟨(some 15), none, .p (.iaddrS 7), [.t 13, .t 14]⟩ ::
 ⟨(some 16), none, .p (.faddr 2), [.t 15]⟩ ::
 ⟨(some 17), none, .r .load1, [.t 16]⟩ ::
 ⟨(some 18), none, .p .mov, [.t 1]⟩ ::
 ⟨(some 19), none, .p (.bin .eql), [.t 17, .t 18]⟩ ::
 []))
(.cond (.t 19)
(.ops (⟨(some 20), none, .p .mov, [.t 5]⟩ ::
 ⟨(some 21), none, .p .mov, [.t 0]⟩ ::
 ⟨(some 22), none, .p .mov, [.t 6]⟩ ::
 ⟨(some 23), none, .p (.iaddrS 7), [.t 21, .t 22]⟩ ::
 ⟨(some 24), none, .r (.loadN 7), [.t 23]⟩ ::
 ⟨(some 25), none, .a (.bslice [(.int .i64 0), (.int .i64 0), (.int .i64 0), (.int .i64 0), (.int .i64 0), (.int .i64 0), (.str [])] 1 7 [0]), [.t 24]⟩ ::
 ⟨(some 26), none, .e (.append 7 64), [.t 20, .t 25]⟩ ::
 ⟨(some 5), none, .p .mov, [.t 26]⟩ ::
 []))
.skip)))
(.ops (⟨(some 11), none, .p .mov, [.t 6]⟩ ::
 ⟨(some 12), none, .p (.bin .add), [.t 11, .c (.int .i64 1)]⟩ ::
 ⟨(some 6), none, .p .mov, [.t 12]⟩ ::
 []))))
def C24 : AFunc := ⟨28, [.tmp 4],
(.seq (.ops (⟨(some 4), none, .p .mov, [.c .nils]⟩ ::
 []))
(.seq (.ops (⟨(some 5), none, .p .mov, [.c .nils]⟩ ::
 []))
(.seq (.seq (.ops (⟨(some 6), none, .p .mov, [.c (.int .i64 0)]⟩ ::
 []))
(.block 0 (.loop L_escapementref26_Of_0)))
(.seq (.ops (⟨(some 27), none, .p .mov, [.t 5]⟩ ::
 ⟨(some 4), none, .p .mov, [.t 27]⟩ ::
 []))
.ret))))⟩
abbrev f_escapementref26_Of : Nat := 24
abbrev C_escapementref26_Of : AFunc := C24
def L_judge_Ran_0 : AC := (.seq (.ops (⟨(some 16), none, .p (.bin .lss), [.t 15, .t 14]⟩ ::
 []))
(.seq (.cond (.t 16)
.skip
(.exit 0))
(.seq (.block 1 (.seq (.ops (⟨(some 17), none, .p (.iaddrS 7), [.t 13, .t 15]⟩ ::
 ⟨(some 18), none, .r (.loadN 7), [.t 17]⟩ ::
 ⟨(some 10), none, .a (.alloc [(.int .i64 0), (.int .i64 0), (.int .i64 0), (.int .i64 0), (.int .i64 0), (.int .i64 0), (.str [])]), []⟩ ::
 ⟨none, none, .e (.store 7), [.t 10, .t 18]⟩ ::
 []))
(.seq (.ops (⟨(some 19), none, .p (.faddr 1), [.t 10]⟩ ::
 ⟨(some 20), none, .r .load1, [.t 19]⟩ ::
 ⟨(some 21), none, .p (.bin .eql), [.t 20, .c (.int .i64 1)]⟩ ::
 ⟨(some 22), none, .p .mov, [.t 21]⟩ ::
 ⟨(some 23), (some (22, true)), .p .mov, [.t 2]⟩ ::
 ⟨(some 24), (some (22, true)), .p (.faddr 0), [.t 10]⟩ ::
 ⟨(some 25), (some (22, true)), .r .load1, [.t 24]⟩ ::
 ⟨(some 26), (some (22, true)), .p (.bin .leq), [.t 23, .t 25]⟩ ::
 ⟨(some 27), none, .p .pick, [.t 22, .t 26, .c (.bool false)]⟩ ::
 ⟨(some 28), none, .p .mov, [.t 27]⟩ ::
 ⟨(some 29), (some (28, true)), .p (.faddr 0), [.t 10]⟩ ::
 ⟨(some 30), (some (28, true)), .r .load1, [.t 29]⟩ ::
 ⟨(some 31), (some (28, true)), .p .mov, [.t 3]⟩ ::
 ⟨(some 32), (some (28, true)), .p (.bin .lss), [.t 30, .t 31]⟩ ::
 ⟨(some 33), none, .p .pick, [.t 28, .t 32, .c (.bool false)]⟩ ::
 []))
(.cond (.t 33)
(.ops (⟨(some 34), none, .p .mov, [.t 8]⟩ ::
 ⟨(some 35), none, .p (.bin .add), [.t 34, .c (.int .i64 1)]⟩ ::
 ⟨(some 8), none, .p .mov, [.t 35]⟩ ::
 []))
.skip))))
(.ops (⟨(some 36), none, .p (.bin .add), [.t 15, .c (.int .i64 1)]⟩ ::
 ⟨(some 15), none, .p .mov, [.t 36]⟩ ::
 [])))))
def C25 : AFunc := ⟨38, [.tmp 8],
(.seq (.ops (⟨(some 8), none, .p .mov, [.c (.int .i64 0)]⟩ ::
 []))
(.seq (.seq (.ops (⟨(some 11), none, .p .mov, [.t 0]⟩ ::
 ⟨(some 12), none, .p .mov, [.t 1]⟩ ::
 ⟨(some 13), none, .call, [.c (.func (.func 23) [] []), .t 11, .t 12]⟩ ::
 ⟨(some 14), none, .p .lenS, [.t 13]⟩ ::
 ⟨(some 15), none, .p .mov, [.c (.int .i64 0)]⟩ ::
 []))
(.block 0 (.loop L_judge_Ran_0)))
(.seq (.ops (⟨(some 37), none, .p .mov, [.t 8]⟩ ::
 ⟨(some 8), none, .p .mov, [.t 37]⟩ ::
 []))
.ret)))⟩
abbrev f_judge_Ran : Nat := 25
abbrev C_judge_Ran : AFunc := C25
def L_escapementref26_Ran_0 : AC := (.seq (.seq (.ops (⟨(some 11), none, .p .mov, [.t 10]⟩ ::
 ⟨(some 12), none, .p .mov, [.t 0]⟩ ::
 ⟨(some 13), none, .p .lenS, [.t 12]⟩ ::
 ⟨(some 14), none, .p (.bin .lss), [.t 11, .t 13]⟩ ::
 []))
(.cond (.t 14)
.skip
(.exit 0)))
(.seq (.block 1 (.seq (.ops (⟨(some 17), none, .p .mov, [.t 0]⟩ ::
 ⟨(some 18), none, .p .mov, [.t 10]⟩ ::
 ⟨(some 19), none, .p (.iaddrS 7), [.t 17, .t 18]⟩ ::
 ⟨(some 20), none, .p (.faddr 1), [.t 19]⟩ ::
 ⟨(some 21), none, .r .load1, [.t 20]⟩ ::
 ⟨(some 22), none, .p (.bin .eql), [.t 21, .c (.int .i64 1)]⟩ ::
 ⟨(some 23), none, .p .mov, [.t 22]⟩ ::
 ⟨(some 24), (some (23, true)), .p .mov, [.t 0]⟩ ::
 ⟨(some 25), (some (23, true)), .p .mov, [.t 10]⟩ ::
 ⟨(some 26), (some (23, true)), .p (.iaddrS 7), [.t 24, .t 25]⟩ ::
 ⟨(some 27), (some (23, true)), .p (.faddr 2), [.t 26]⟩ ::
 ⟨(some 28), (some (23, true)), .r .load1, [.t 27]⟩ ::
 ⟨(some 29), (some (23, true)), .p .mov, [.t 1]⟩ ::
 ⟨(some 30), (some (23, true)), .p (.bin .eql), [.t 28, .t 29]⟩ ::
 ⟨(some 31), none, .p .pick, [.t 23, .t 30, .c (.bool false)]⟩ ::
 ⟨(some 32), none, .p .mov, [.t 31]⟩ ::
 ⟨(some 33), (some (32, true)), .p .mov, [.t 0]⟩ ::
 ⟨(some 34), (some (32, true)), .p .mov, [.t 10]⟩ ::
 ⟨(some 35), (some (32, true)), .p (.iaddrS 7), [.t 33, .t 34]⟩ ::
 ⟨(some 36), (some (32, true)), .p (.faddr 0), [.t 35]⟩ ::
 ⟨(some 37), (some (32, true)), .r .load1, [.t 36]⟩ ::
 ⟨(some 38), (some (32, true)), .p .mov, [.t 2]⟩ ::
 ⟨(some 39), (some (32, true)), .p (.bin .geq), [.t 37, .t 38]⟩ ::
 ⟨(some 40), none, .p .pick, [.t 32, .t 39, .c (.bool false)]⟩ ::
 ⟨(some 41), none, .p .mov, [.t 40]⟩ ::
 ⟨(some 42), (some (41, true)), .p .mov, [.t 0]⟩ ::
 ⟨(some 43), (some (41, true)), .p .mov, [.t 10]⟩ ::
 ⟨(some 44), (some (41, true)), .p (.iaddrS 7), [.t 42, .t 43]⟩ ::
 ⟨(some 45), (some (41, true)), .p (.faddr 0), [.t 44]⟩ ::
 ⟨(some 46), (some (41, true)), .r .load1, [.t 45]⟩ ::
 ⟨(some 47), (some (41, true)), .p .mov, [.t 3]⟩ ::
 ⟨(some 48), (some (41, true)), .p (.bin .lss), [.t 46, .t 47]⟩ ::
 ⟨(some 49), none, .p .pick, [.t 41, .t 48, .c (.bool false)]⟩ ::
 []))
(.cond (.t 49)
(.ops (⟨(some 50), none, .p .mov, [.t 9]⟩ ::
 ⟨(some 51), none, .p (.bin .add), [.t 50, .c (.int .i64 1)]⟩ ::
 ⟨(some 9), none, .p .mov, [.t 51]⟩ ::
 []))
.skip)))
(.ops (⟨(some 15), none, .p .mov, [.t 10]⟩ ::
 ⟨(some 16), none, .p (.bin .add), [.t 15, .c (.int .i64 1)]⟩ ::
 ⟨(some 10), none, .p .mov, [.t 16]⟩ ::
 []))))
def C26 : AFunc := ⟨53, [.tmp 8],
(.seq (.ops (⟨(some 8), none, .p .mov, [.c (.int .i64 0)]⟩ ::
 []))
(.seq (.ops (⟨(some 9), none, .p .mov, [.c (.int .i64 0)]⟩ ::
 []))
(.seq (.seq (.ops (⟨(some 10), none, .p .mov, [.c (.int .i64 0)]⟩ ::
 []))
(.block 0 (.loop L_escapementref26_Ran_0)))
(.seq (.ops (⟨(some 52), none, .p .mov, [.t 9]⟩ ::
 ⟨(some 8), none, .p .mov, [.t 52]⟩ ::
 []))
.ret))))⟩
abbrev f_escapementref26_Ran : Nat := 26
abbrev C_escapementref26_Ran : AFunc := C26
def C41 : AFunc := ⟨27, [.tmp 2],
(.seq (.ops (⟨(some 1), none, .a .box, [.t 0]⟩ ::
 ⟨(some 2), none, .p .mov, [.c (.int .i64 0)]⟩ ::
 []))
(.seq (.ops (⟨(some 4), none, .p (.faddr 0), [.t 1]⟩ ::
 ⟨(some 5), none, .r .load1, [.t 4]⟩ ::
 ⟨(some 6), none, .call, [.c (.func (.func 56) [] []), .t 5, .c (.func (.func 57) [] [])]⟩ ::
 ⟨(some 7), none, .p .mov, [.t 6]⟩ ::
 ⟨(some 8), (some (7, false)), .p (.faddr 1), [.t 1]⟩ ::
 ⟨(some 9), (some (7, false)), .r .load1, [.t 8]⟩ ::
 ⟨(some 10), (some (7, false)), .p (.mkfunc (.func 60) 0), [.t 1]⟩ ::
 ⟨(some 11), (some (7, false)), .call, [.c (.func (.func 59) [] []), .t 9, .t 10]⟩ ::
 ⟨(some 12), none, .p .pick, [.t 7, .c (.bool true), .t 11]⟩ ::
 ⟨(some 3), none, .p .mov, [.t 12]⟩ ::
 []))
(.seq (.seq (.ops (⟨(some 13), none, .p .mov, [.t 3]⟩ ::
 ⟨(some 14), none, .p .mov, [.t 13]⟩ ::
 ⟨(some 15), (some (14, false)), .p (.faddr 0), [.t 1]⟩ ::
 ⟨(some 16), (some (14, false)), .r .load1, [.t 15]⟩ ::
 ⟨(some 17), (some (14, false)), .p .lenS, [.t 16]⟩ ::
 ⟨(some 18), (some (14, false)), .call, [.c (.func (.func 62) [] []), .t 17, .c (.int .i64 1), .c (.int .i64 4)]⟩ ::
 ⟨(some 19), (some (14, false)), .p .not, [.t 18]⟩ ::
 ⟨(some 20), none, .p .pick, [.t 14, .c (.bool true), .t 19]⟩ ::
 ⟨(some 21), none, .p .mov, [.t 20]⟩ ::
 ⟨(some 22), (some (21, false)), .p (.faddr 1), [.t 1]⟩ ::
 ⟨(some 23), (some (21, false)), .r .load1, [.t 22]⟩ ::
 ⟨(some 24), (some (21, false)), .p .lenS, [.t 23]⟩ ::
 ⟨(some 25), (some (21, false)), .p (.bin .gtr), [.t 24, .c (.int .i64 8)]⟩ ::
 ⟨(some 26), none, .p .pick, [.t 21, .c (.bool true), .t 25]⟩ ::
 []))
(.cond (.t 26)
(.seq (.ops (⟨(some 2), none, .p .mov, [.c (.int .i64 50)]⟩ ::
 []))
.ret)
.skip))
(.seq (.ops (⟨(some 2), none, .p .mov, [.c (.int .i64 0)]⟩ ::
 []))
.ret))))⟩
abbrev f_conf_Check : Nat := 41
abbrev C_conf_Check : AFunc := C41
def C42 : AFunc := ⟨8, [.tmp 2],
(.seq (.ops (⟨(some 2), none, .p .mov, [.c .nils]⟩ ::
 []))
(.seq (.seq (.ops (⟨(some 3), none, .p .mov, [.t 0]⟩ ::
 ⟨(some 4), none, .p (.eq .nilsl), [.t 3, .c .nils]⟩ ::
 []))
(.cond (.t 4)
(.seq (.ops (⟨(some 2), none, .p .mov, [.c .nils]⟩ ::
 []))
.ret)
.skip))
(.seq (.ops (⟨(some 5), none, .a (.bslice [(.int .i64 0), (.int .i64 0), .nils] 0 3 []), []⟩ ::
 ⟨(some 6), none, .p .mov, [.t 0]⟩ ::
 ⟨(some 7), none, .e (.append 3 40), [.t 5, .t 6]⟩ ::
 ⟨(some 2), none, .p .mov, [.t 7]⟩ ::
 []))
.ret)))⟩
abbrev f_slices_Clone_api_Part_api_Part : Nat := 42
abbrev C_slices_Clone_api_Part_api_Part : AFunc := C42
def L_judge_look_find_0 : AC := (.seq (.ops (⟨(some 11), none, .p (.bin .lss), [.t 10, .t 9]⟩ ::
 []))
(.seq (.cond (.t 11)
.skip
(.exit 0))
(.seq (.block 1 (.seq (.ops (⟨(some 12), none, .p .mov, [.t 10]⟩ ::
 ⟨(some 13), none, .p (.iaddrS 7), [.t 8, .t 10]⟩ ::
 ⟨(some 14), none, .r (.loadN 7), [.t 13]⟩ ::
 ⟨(some 6), none, .a (.alloc [(.int .i64 0), (.int .i64 0), (.int .i64 0), (.int .i64 0), (.int .i64 0), (.int .i64 0), (.str [])]), []⟩ ::
 ⟨(some 5), none, .p .mov, [.t 12]⟩ ::
 ⟨none, none, .e (.store 7), [.t 6, .t 14]⟩ ::
 []))
(.seq (.ops (⟨(some 15), none, .p .mov, [.t 0]⟩ ::
 ⟨(some 16), none, .p .mov, [.t 5]⟩ ::
 ⟨(some 17), none, .p .nilchk, [.t 15]⟩ ::
 ⟨(some 18), none, .p (.faddr 98), [.t 17]⟩ ::
 ⟨none, none, .e (.store 1), [.t 18, .t 16]⟩ ::
 []))
(.ops (⟨(some 19), none, .p .mov, [.t 0]⟩ ::
 ⟨(some 20), none, .r (.loadN 7), [.t 6]⟩ ::
 ⟨(some 21), none, .call, [.c (.func (.func 64) [] []), .t 19, .t 20]⟩ ::
 [])))))
(.ops (⟨(some 22), none, .p (.bin .add), [.t 10, .c (.int .i64 1)]⟩ ::
 ⟨(some 10), none, .p .mov, [.t 22]⟩ ::
 [])))))
def C43 : AFunc := ⟨34, [.cell 4 1 false],
(.seq (.ops (⟨(some 4), none, .a (.alloc [(.int .i64 0)]), []⟩ ::
 []))
(.seq (.ops (⟨(some 7), none, .p (.mkfunc (.func 63) 0), [.t 4]⟩ ::
 ⟨none, none, .bad, [.c (.bool true), .t 7, .t 7, .t 7]⟩ ::
 []))
(.seq (.seq (.ops (⟨(some 8), none, .p .mov, [.t 1]⟩ ::
 ⟨(some 9), none, .p .lenS, [.t 8]⟩ ::
 ⟨(some 10), none, .p .mov, [.c (.int .i64 0)]⟩ ::
 []))
(.block 0 (.loop L_judge_look_find_0)))
(.seq (.ops (⟨(some 23), none, .p .mov, [.t 0]⟩ ::
 ⟨(some 24), none, .p .mov, [.t 1]⟩ ::
 ⟨(some 25), none, .p .lenS, [.t 24]⟩ ::
 ⟨(some 26), none, .p .nilchk, [.t 23]⟩ ::
 ⟨(some 27), none, .p (.faddr 98), [.t 26]⟩ ::
 ⟨none, none, .e (.store 1), [.t 27, .t 25]⟩ ::
 []))
(.seq (.ops (⟨(some 28), none, .p .mov, [.t 0]⟩ ::
 ⟨(some 29), none, .p .mov, [.t 0]⟩ ::
 ⟨(some 30), none, .p .nilchk, [.t 29]⟩ ::
 ⟨(some 31), none, .p (.faddr 94), [.t 30]⟩ ::
 ⟨(some 32), none, .r .load1, [.t 31]⟩ ::
 ⟨(some 33), none, .call, [.c (.func (.func 65) [] []), .t 28, .t 32]⟩ ::
 []))
(.seq (.ops (⟨none, none, .e (.store 1), [.t 4, .c (.int .i64 0)]⟩ ::
 []))
.ret))))))⟩
abbrev f_judge_look_find : Nat := 43
abbrev C_judge_look_find : AFunc := C43
def C49 : AFunc := ⟨32, [.tmp 8],
(.seq (.ops (⟨(some 8), none, .p .mov, [.c (.bool false)]⟩ ::
 []))
(.seq (.ops (⟨(some 13), none, .call, [.c (.func (.func 75) [] [])]⟩ ::
 ⟨(some 14), none, .p .mov, [.t 3]⟩ ::
 ⟨(some 15), none, .p .mov, [.t 0]⟩ ::
 ⟨(some 16), none, .call, [.c (.func (.func 18) [] []), .t 13, .t 14, .t 15]⟩ ::
 ⟨(some 12), none, .p .mov, [.t 16]⟩ ::
 ⟨(some 17), none, .p (.ext 0), [.t 12]⟩ ::
 ⟨(some 18), none, .p (.ext 1), [.t 12]⟩ ::
 ⟨(some 19), none, .p (.ext 2), [.t 12]⟩ ::
 ⟨(some 9), none, .p .mov, [.t 17]⟩ ::
 ⟨(some 10), none, .p .mov, [.t 18]⟩ ::
 ⟨(some 11), none, .p .mov, [.t 19]⟩ ::
 []))
(.seq (.ops (⟨(some 20), none, .p .mov, [.t 9]⟩ ::
 ⟨(some 21), none, .p .mov, [.t 1]⟩ ::
 ⟨(some 22), none, .p (.bin .eql), [.t 20, .t 21]⟩ ::
 ⟨(some 23), none, .p .mov, [.t 22]⟩ ::
 ⟨(some 24), (some (23, true)), .p .mov, [.t 10]⟩ ::
 ⟨(some 25), (some (23, true)), .p .mov, [.t 2]⟩ ::
 ⟨(some 26), (some (23, true)), .p (.bin .eql), [.t 24, .t 25]⟩ ::
 ⟨(some 27), none, .p .pick, [.t 23, .t 26, .c (.bool false)]⟩ ::
 ⟨(some 28), none, .p .mov, [.t 27]⟩ ::
 ⟨(some 29), (some (28, true)), .p .mov, [.t 11]⟩ ::
 ⟨(some 30), (some (28, true)), .p (.bin .eql), [.t 29, .c (.int .i64 0)]⟩ ::
 ⟨(some 31), none, .p .pick, [.t 28, .t 30, .c (.bool false)]⟩ ::
 ⟨(some 8), none, .p .mov, [.t 31]⟩ ::
 []))
.ret)))⟩
abbrev f_escapementlaw26_finds : Nat := 49
abbrev C_escapementlaw26_finds : AFunc := C49
def C56 : AFunc := ⟨9, [.tmp 4],
(.seq (.ops (⟨(some 4), none, .p .mov, [.c (.bool false)]⟩ ::
 []))
(.seq (.ops (⟨(some 5), none, .p .mov, [.t 0]⟩ ::
 ⟨(some 6), none, .p .mov, [.t 1]⟩ ::
 ⟨(some 7), none, .call, [.c (.func (.func 79) [] []), .t 5, .t 6]⟩ ::
 ⟨(some 8), none, .p (.bin .geq), [.t 7, .c (.int .i64 0)]⟩ ::
 ⟨(some 4), none, .p .mov, [.t 8]⟩ ::
 []))
.ret))⟩
abbrev f_slices_ContainsFunc_api_Part_api_Part : Nat := 56
abbrev C_slices_ContainsFunc_api_Part_api_Part : AFunc := C56
def C57 : AFunc := ⟨6, [.tmp 2],
(.seq (.ops (⟨(some 1), none, .a .box, [.t 0]⟩ ::
 ⟨(some 2), none, .p .mov, [.c (.bool false)]⟩ ::
 []))
(.seq (.ops (⟨(some 3), none, .r (.loadN 3), [.t 1]⟩ ::
 ⟨(some 4), none, .call, [.c (.func (.func 58) [] []), .t 3]⟩ ::
 ⟨(some 5), none, .p .not, [.t 4]⟩ ::
 ⟨(some 2), none, .p .mov, [.t 5]⟩ ::
 []))
.ret))⟩
abbrev f_conf_Check_1 : Nat := 57
abbrev C_conf_Check_1 : AFunc := C57
def C58 : AFunc := ⟨26, [.tmp 2],
(.seq (.ops (⟨(some 1), none, .a .box, [.t 0]⟩ ::
 ⟨(some 2), none, .p .mov, [.c (.bool false)]⟩ ::
 []))
(.seq (.seq (.ops (⟨(some 3), none, .p (.faddr 0), [.t 1]⟩ ::
 ⟨(some 4), none, .r .load1, [.t 3]⟩ ::
 ⟨(some 5), none, .call, [.c (.func (.func 62) [] []), .t 4, .c (.int .i64 1), .c (.int .i64 64)]⟩ ::
 ⟨(some 6), none, .p .not, [.t 5]⟩ ::
 ⟨(some 7), none, .p .mov, [.t 6]⟩ ::
 ⟨(some 8), (some (7, false)), .p (.faddr 1), [.t 1]⟩ ::
 ⟨(some 9), (some (7, false)), .r .load1, [.t 8]⟩ ::
 ⟨(some 10), (some (7, false)), .p (.faddr 0), [.t 1]⟩ ::
 ⟨(some 11), (some (7, false)), .r .load1, [.t 10]⟩ ::
 ⟨(some 12), (some (7, false)), .call, [.c (.func (.func 62) [] []), .t 9, .c (.int .i64 1), .t 11]⟩ ::
 ⟨(some 13), (some (7, false)), .p .not, [.t 12]⟩ ::
 ⟨(some 14), none, .p .pick, [.t 7, .c (.bool true), .t 13]⟩ ::
 ⟨(some 15), none, .p .mov, [.t 14]⟩ ::
 ⟨(some 16), (some (15, false)), .p (.faddr 2), [.t 1]⟩ ::
 ⟨(some 17), (some (15, false)), .r .load1, [.t 16]⟩ ::
 ⟨(some 18), (some (15, false)), .p .lenS, [.t 17]⟩ ::
 ⟨(some 19), (some (15, false)), .p (.bin .gtr), [.t 18, .c (.int .i64 4)]⟩ ::
 ⟨(some 20), none, .p .pick, [.t 15, .c (.bool true), .t 19]⟩ ::
 []))
(.cond (.t 20)
(.seq (.ops (⟨(some 2), none, .p .mov, [.c (.bool false)]⟩ ::
 []))
.ret)
.skip))
(.seq (.ops (⟨(some 21), none, .p (.faddr 2), [.t 1]⟩ ::
 ⟨(some 22), none, .r .load1, [.t 21]⟩ ::
 ⟨(some 23), none, .p (.mkfunc (.func 81) 0), [.t 1]⟩ ::
 ⟨(some 24), none, .call, [.c (.func (.func 80) [] []), .t 22, .t 23]⟩ ::
 ⟨(some 25), none, .p .not, [.t 24]⟩ ::
 ⟨(some 2), none, .p .mov, [.t 25]⟩ ::
 []))
.ret)))⟩
abbrev f_conf_partMay : Nat := 58
abbrev C_conf_partMay : AFunc := C58
def C59 : AFunc := ⟨9, [.tmp 4],
(.seq (.ops (⟨(some 4), none, .p .mov, [.c (.bool false)]⟩ ::
 []))
(.seq (.ops (⟨(some 5), none, .p .mov, [.t 0]⟩ ::
 ⟨(some 6), none, .p .mov, [.t 1]⟩ ::
 ⟨(some 7), none, .call, [.c (.func (.func 83) [] []), .t 5, .t 6]⟩ ::
 ⟨(some 8), none, .p (.bin .geq), [.t 7, .c (.int .i64 0)]⟩ ::
 ⟨(some 4), none, .p .mov, [.t 8]⟩ ::
 []))
.ret))⟩
abbrev f_slices_ContainsFunc_api_Port_api_Port : Nat := 59
abbrev C_slices_ContainsFunc_api_Port_api_Port : AFunc := C59
def C60 : AFunc := ⟨10, [.tmp 3],
(.seq (.ops (⟨(some 2), none, .a .box, [.t 0]⟩ ::
 ⟨(some 3), none, .p .mov, [.c (.bool false)]⟩ ::
 []))
(.seq (.ops (⟨(some 4), none, .r (.loadN 6), [.t 2]⟩ ::
 ⟨(some 5), none, .p (.faddr 0), [.t 1]⟩ ::
 ⟨(some 6), none, .r .load1, [.t 5]⟩ ::
 ⟨(some 7), none, .p .lenS, [.t 6]⟩ ::
 ⟨(some 8), none, .call, [.c (.func (.func 61) [] []), .t 4, .t 7]⟩ ::
 ⟨(some 9), none, .p .not, [.t 8]⟩ ::
 ⟨(some 3), none, .p .mov, [.t 9]⟩ ::
 []))
.ret))⟩
abbrev f_conf_Check_2 : Nat := 60
abbrev C_conf_Check_2 : AFunc := C60
def C61 : AFunc := ⟨55, [.tmp 4],
(.seq (.ops (⟨(some 2), none, .a .box, [.t 0]⟩ ::
 ⟨(some 4), none, .p .mov, [.c (.bool false)]⟩ ::
 []))
(.seq (.ops (⟨(some 5), none, .p .mov, [.c (.bool false)]⟩ ::
 []))
(.seq (.seq (.ops (⟨(some 6), none, .p (.faddr 0), [.t 2]⟩ ::
 ⟨(some 7), none, .r .load1, [.t 6]⟩ ::
 []))
(.block 0 (.seq (.ops (⟨(some 9), none, .p (.bin .eql), [.t 7, .c (.int .i64 1)]⟩ ::
 ⟨(some 8), none, .p .mov, [.t 9]⟩ ::
 []))
(.cond (.t 8)
(.ops (⟨(some 10), none, .p (.faddr 4), [.t 2]⟩ ::
 ⟨(some 11), none, .r .load1, [.t 10]⟩ ::
 ⟨(some 12), none, .p (.bin .eql), [.t 11, .c (.int .i64 0)]⟩ ::
 ⟨(some 13), none, .p .mov, [.t 12]⟩ ::
 ⟨(some 14), (some (13, true)), .p (.faddr 5), [.t 2]⟩ ::
 ⟨(some 15), (some (13, true)), .r .load1, [.t 14]⟩ ::
 ⟨(some 16), (some (13, true)), .call, [.c (.func (.func 62) [] []), .t 15, .c (.int .i64 1), .c (.int .i64 64)]⟩ ::
 ⟨(some 17), none, .p .pick, [.t 13, .t 16, .c (.bool false)]⟩ ::
 ⟨(some 5), none, .p .mov, [.t 17]⟩ ::
 []))
(.seq (.ops (⟨(some 19), none, .p (.bin .eql), [.t 7, .c (.int .i64 2)]⟩ ::
 ⟨(some 18), none, .p .mov, [.t 19]⟩ ::
 []))
(.cond (.t 18)
(.ops (⟨(some 20), none, .p (.faddr 5), [.t 2]⟩ ::
 ⟨(some 21), none, .r .load1, [.t 20]⟩ ::
 ⟨(some 22), none, .p (.bin .eql), [.t 21, .c (.int .i64 0)]⟩ ::
 ⟨(some 23), none, .p .mov, [.t 22]⟩ ::
 ⟨(some 24), (some (23, true)), .p (.faddr 4), [.t 2]⟩ ::
 ⟨(some 25), (some (23, true)), .r .load1, [.t 24]⟩ ::
 ⟨(some 26), (some (23, true)), .call, [.c (.func (.func 62) [] []), .t 25, .c (.int .i64 1), .c (.int .i64 4)]⟩ ::
 ⟨(some 27), none, .p .pick, [.t 23, .t 26, .c (.bool false)]⟩ ::
 ⟨(some 5), none, .p .mov, [.t 27]⟩ ::
 []))
.skip))))))
(.seq (.ops (⟨(some 28), none, .p .mov, [.t 5]⟩ ::
 ⟨(some 29), none, .p .mov, [.t 28]⟩ ::
 ⟨(some 30), (some (29, true)), .p (.faddr 1), [.t 2]⟩ ::
 ⟨(some 31), (some (29, true)), .r .load1, [.t 30]⟩ ::
 ⟨(some 32), (some (29, true)), .p .mov, [.t 1]⟩ ::
 ⟨(some 33), (some (29, true)), .p (.bin .sub), [.t 32, .c (.int .i64 1)]⟩ ::
 ⟨(some 34), (some (29, true)), .call, [.c (.func (.func 62) [] []), .t 31, .c (.int .i64 0), .t 33]⟩ ::
 ⟨(some 35), none, .p .pick, [.t 29, .t 34, .c (.bool false)]⟩ ::
 ⟨(some 36), none, .p .mov, [.t 35]⟩ ::
 ⟨(some 37), (some (36, true)), .p (.faddr 2), [.t 2]⟩ ::
 ⟨(some 38), (some (36, true)), .r .load1, [.t 37]⟩ ::
 ⟨(some 39), (some (36, true)), .p .mov, [.t 1]⟩ ::
 ⟨(some 40), (some (36, true)), .p (.bin .sub), [.t 39, .c (.int .i64 1)]⟩ ::
 ⟨(some 41), (some (36, true)), .call, [.c (.func (.func 62) [] []), .t 38, .c (.int .i64 0), .t 40]⟩ ::
 ⟨(some 42), none, .p .pick, [.t 36, .t 41, .c (.bool false)]⟩ ::
 ⟨(some 43), none, .p .mov, [.t 42]⟩ ::
 ⟨(some 44), (some (43, true)), .p (.faddr 1), [.t 2]⟩ ::
 ⟨(some 45), (some (43, true)), .r .load1, [.t 44]⟩ ::
 ⟨(some 46), (some (43, true)), .p (.faddr 2), [.t 2]⟩ ::
 ⟨(some 47), (some (43, true)), .r .load1, [.t 46]⟩ ::
 ⟨(some 48), (some (43, true)), .p (.bin .neq), [.t 45, .t 47]⟩ ::
 ⟨(some 49), none, .p .pick, [.t 43, .t 48, .c (.bool false)]⟩ ::
 ⟨(some 50), none, .p .mov, [.t 49]⟩ ::
 ⟨(some 51), (some (50, true)), .p (.faddr 3), [.t 2]⟩ ::
 ⟨(some 52), (some (50, true)), .r .load1, [.t 51]⟩ ::
 ⟨(some 53), (some (50, true)), .call, [.c (.func (.func 62) [] []), .t 52, .c (.int .i64 1), .c (.int .i64 16)]⟩ ::
 ⟨(some 54), none, .p .pick, [.t 50, .t 53, .c (.bool false)]⟩ ::
 ⟨(some 4), none, .p .mov, [.t 54]⟩ ::
 []))
.ret))))⟩
abbrev f_conf_portMay : Nat := 61
abbrev C_conf_portMay : AFunc := C61
def C62 : AFunc := ⟨15, [.tmp 6],
(.seq (.ops (⟨(some 6), none, .p .mov, [.c (.bool false)]⟩ ::
 []))
(.seq (.ops (⟨(some 7), none, .p .mov, [.t 1]⟩ ::
 ⟨(some 8), none, .p .mov, [.t 0]⟩ ::
 ⟨(some 9), none, .p (.bin .leq), [.t 7, .t 8]⟩ ::
 ⟨(some 10), none, .p .mov, [.t 9]⟩ ::
 ⟨(some 11), (some (10, true)), .p .mov, [.t 0]⟩ ::
 ⟨(some 12), (some (10, true)), .p .mov, [.t 2]⟩ ::
 ⟨(some 13), (some (10, true)), .p (.bin .leq), [.t 11, .t 12]⟩ ::
 ⟨(some 14), none, .p .pick, [.t 10, .t 13, .c (.bool false)]⟩ ::
 ⟨(some 6), none, .p .mov, [.t 14]⟩ ::
 []))
.ret))⟩
abbrev f_conf_within : Nat := 62
abbrev C_conf_within : AFunc := C62
def C63 : AFunc := ⟨7, [],
(.seq (.ops (⟨(some 2), none, .bad, [.c (.bool false), .c (.bool false), .c (.bool false), .c (.bool false)]⟩ ::
 ⟨(some 1), none, .p .mov, [.t 2]⟩ ::
 []))
(.seq (.ops (⟨(some 3), none, .p .mov, [.t 1]⟩ ::
 ⟨(some 4), none, .p (.neq .iface), [.t 3, .c .nili]⟩ ::
 []))
(.cond (.t 4)
(.ops (⟨(some 5), none, .p .mov, [.t 1]⟩ ::
 ⟨(some 6), none, .p (.tassert 115 false (.int .i64 0)), [.t 5]⟩ ::
 ⟨none, none, .e (.store 1), [.t 0, .t 6]⟩ ::
 []))
.skip)))⟩
abbrev f_judge_look_find_1 : Nat := 63
abbrev C_judge_look_find_1 : AFunc := C63
def C64 : AFunc := ⟨113, [],
(.seq (.ops (⟨(some 3), none, .a .box, [.t 1]⟩ ::
 []))
(.seq (.ops (⟨(some 5), none, .p .mov, [.t 0]⟩ ::
 ⟨(some 6), none, .r (.loadN 7), [.t 3]⟩ ::
 ⟨(some 7), none, .call, [.c (.func (.func 85) [] []), .t 5, .t 6]⟩ ::
 ⟨(some 8), none, .call, [.c (.func (.func 84) [] []), .t 7, .c (.int .i64 1)]⟩ ::
 []))
(.seq (.ops (⟨(some 9), none, .p .mov, [.t 0]⟩ ::
 ⟨(some 10), none, .p (.faddr 0), [.t 3]⟩ ::
 ⟨(some 11), none, .r .load1, [.t 10]⟩ ::
 ⟨(some 12), none, .call, [.c (.func (.func 65) [] []), .t 9, .t 11]⟩ ::
 []))
(.seq (.dops (⟨(some 13), none, .p .mov, [.t 0]⟩ ::
 ⟨(some 14), none, .p (.faddr 2), [.t 3]⟩ ::
 ⟨(some 15), none, .r .load1, [.t 14]⟩ ::
 ⟨(some 16), none, .p .nilchk, [.t 13]⟩ ::
 ⟨(some 17), none, .p (.faddr 2), [.t 16]⟩ ::
 ⟨(some 18), none, .p (.iaddrA 23 4), [.t 17, .t 15]⟩ ::
 ⟨(some 4), none, .p .mov, [.t 18]⟩ ::
 []) ([] :: [] :: [] :: [] :: [] :: [] :: [] :: []))
(.seq (.dops (⟨(some 19), none, .p .mov, [.t 4]⟩ ::
 ⟨(some 20), none, .p .nilchk, [.t 19]⟩ ::
 ⟨(some 21), none, .p (.faddr 0), [.t 20]⟩ ::
 ⟨(some 22), none, .r .load1, [.t 21]⟩ ::
 ⟨(some 23), none, .p (.faddr 1), [.t 3]⟩ ::
 ⟨(some 24), none, .r .load1, [.t 23]⟩ ::
 ⟨(some 25), none, .p (.bin .eql), [.t 24, .c (.int .i64 6)]⟩ ::
 ⟨(some 26), none, .p (.neq .bool), [.t 22, .t 25]⟩ ::
 ⟨(some 27), none, .call, [.c (.func (.func 84) [] []), .t 26, .c (.int .i64 2)]⟩ ::
 []) ([] :: [] :: [] :: [] :: [] :: [] :: [] :: [] :: [] :: []))
(.seq (.dops (⟨(some 28), none, .p (.faddr 1), [.t 3]⟩ ::
 ⟨(some 29), none, .r .load1, [.t 28]⟩ ::
 ⟨(some 30), none, .p (.bin .neq), [.t 29, .c (.int .i64 1)]⟩ ::
 ⟨(some 31), none, .p .mov, [.t 30]⟩ ::
 ⟨(some 32), (some (31, false)), .p .mov, [.t 0]⟩ ::
 ⟨(some 33), (some (31, false)), .p .nilchk, [.t 32]⟩ ::
 ⟨(some 34), (some (31, false)), .p (.faddr 96), [.t 33]⟩ ::
 ⟨(some 35), (some (31, false)), .r .load1, [.t 34]⟩ ::
 ⟨(some 36), (some (31, false)), .p .not, [.t 35]⟩ ::
 ⟨(some 37), (some (31, false)), .p .mov, [.t 36]⟩ ::
 ⟨(some 38), (some (37, true)), .p .mov, [.t 0]⟩ ::
 ⟨(some 39), (some (37, true)), .call, [.c (.func (.func 86) [] []), .t 38]⟩ ::
 ⟨(some 40), (some (37, true)), .p (.faddr 2), [.t 3]⟩ ::
 ⟨(some 41), (some (37, true)), .r .load1, [.t 40]⟩ ::
 ⟨(some 42), (some (37, true)), .p (.bin .eql), [.t 39, .t 41]⟩ ::
 ⟨(some 43), (some (31, false)), .p .pick, [.t 37, .t 42, .c (.bool false)]⟩ ::
 ⟨(some 44), none, .p .pick, [.t 31, .c (.bool true), .t 43]⟩ ::
 ⟨(some 45), none, .call, [.c (.func (.func 84) [] []), .t 44, .c (.int .i64 3)]⟩ ::
 []) ([] :: [] :: [] :: [] :: [] :: [] :: [] :: [] :: [] :: [] :: [] :: [] :: [] :: [0, 12] :: [] :: [] :: [] :: [] :: []))
(.seq (.ops (⟨(some 46), none, .p .mov, [.t 4]⟩ ::
 ⟨(some 47), none, .r (.loadN 7), [.t 3]⟩ ::
 ⟨(some 48), none, .call, [.c (.func (.func 87) [] []), .t 46, .t 47]⟩ ::
 ⟨(some 49), none, .call, [.c (.func (.func 84) [] []), .t 48, .c (.int .i64 5)]⟩ ::
 []))
(.seq (.seq (.ops (⟨(some 50), none, .r (.loadN 7), [.t 3]⟩ ::
 ⟨(some 51), none, .call, [.c (.func (.func 88) [] []), .t 50]⟩ ::
 []))
(.cond (.t 51)
(.seq (.ops (⟨(some 52), none, .p .mov, [.t 0]⟩ ::
 ⟨(some 53), none, .p .mov, [.t 4]⟩ ::
 ⟨(some 54), none, .r (.loadN 7), [.t 3]⟩ ::
 ⟨(some 55), none, .call, [.c (.func (.func 89) [] []), .t 52, .t 53, .t 54]⟩ ::
 []))
.ret)
.skip))
(.seq (.seq (.ops (⟨(some 56), none, .p (.faddr 3), [.t 3]⟩ ::
 ⟨(some 57), none, .r .load1, [.t 56]⟩ ::
 ⟨(some 58), none, .p (.bin .neq), [.t 57, .c (.int .i64 (-1))]⟩ ::
 []))
(.cond (.t 58)
(.dops (⟨(some 59), none, .p .mov, [.t 4]⟩ ::
 ⟨(some 60), none, .r (.loadN 7), [.t 3]⟩ ::
 ⟨(some 61), none, .p .mov, [.t 0]⟩ ::
 ⟨(some 62), none, .p .nilchk, [.t 61]⟩ ::
 ⟨(some 63), none, .p (.faddr 0), [.t 62]⟩ ::
 ⟨(some 64), none, .p (.faddr 0), [.t 63]⟩ ::
 ⟨(some 65), none, .r .load1, [.t 64]⟩ ::
 ⟨(some 66), none, .p (.faddr 2), [.t 3]⟩ ::
 ⟨(some 67), none, .r .load1, [.t 66]⟩ ::
 ⟨(some 68), none, .p (.iaddrS 3), [.t 65, .t 67]⟩ ::
 ⟨(some 69), none, .p (.faddr 2), [.t 68]⟩ ::
 ⟨(some 70), none, .r .load1, [.t 69]⟩ ::
 ⟨(some 71), none, .p (.faddr 3), [.t 3]⟩ ::
 ⟨(some 72), none, .r .load1, [.t 71]⟩ ::
 ⟨(some 73), none, .p (.iaddrS 8), [.t 70, .t 72]⟩ ::
 ⟨(some 74), none, .r (.loadN 8), [.t 73]⟩ ::
 ⟨(some 75), none, .call, [.c (.func (.func 90) [] []), .t 59, .t 60, .t 74]⟩ ::
 []) ([] :: [] :: [] :: [] :: [] :: [] :: [] :: [] :: [] :: [] :: [] :: [] :: [] :: [] :: [] :: [] :: [] :: []))
.skip))
(.seq (.ops (⟨(some 76), none, .p .mov, [.t 0]⟩ ::
 ⟨(some 77), none, .r (.loadN 7), [.t 3]⟩ ::
 ⟨(some 78), none, .call, [.c (.func (.func 91) [] []), .t 76, .t 77]⟩ ::
 ⟨(some 79), none, .call, [.c (.func (.func 84) [] []), .t 78, .c (.int .i64 8)]⟩ ::
 []))
(.seq (.seq (.ops (⟨(some 80), none, .p (.faddr 1), [.t 3]⟩ ::
 ⟨(some 81), none, .r .load1, [.t 80]⟩ ::
 ⟨(some 82), none, .p (.bin .eql), [.t 81, .c (.int .i64 1)]⟩ ::
 []))
(.cond (.t 82)
(.seq (.ops (⟨(some 83), none, .p .mov, [.t 0]⟩ ::
 ⟨(some 84), none, .p .nilchk, [.t 83]⟩ ::
 ⟨(some 85), none, .p (.faddr 96), [.t 84]⟩ ::
 ⟨none, none, .e (.store 1), [.t 85, .c (.bool true)]⟩ ::
 []))
(.ops (⟨(some 86), none, .p .mov, [.t 4]⟩ ::
 ⟨(some 87), none, .p .nilchk, [.t 86]⟩ ::
 ⟨(some 88), none, .p (.faddr 4), [.t 87]⟩ ::
 ⟨(some 89), none, .r .load1, [.t 88]⟩ ::
 ⟨(some 90), none, .p (.bin .add), [.t 89, .c (.int .i64 1)]⟩ ::
 ⟨(some 91), none, .p .nilchk, [.t 86]⟩ ::
 ⟨(some 92), none, .p (.faddr 4), [.t 91]⟩ ::
 ⟨none, none, .e (.store 1), [.t 92, .t 90]⟩ ::
 [])))
.skip))
(.seq (.ops (⟨(some 93), none, .p (.faddr 3), [.t 3]⟩ ::
 ⟨(some 94), none, .r .load1, [.t 93]⟩ ::
 ⟨(some 95), none, .p (.bin .neq), [.t 94, .c (.int .i64 (-1))]⟩ ::
 []))
(.cond (.t 95)
(.dops (⟨(some 96), none, .p .mov, [.t 4]⟩ ::
 ⟨(some 97), none, .r (.loadN 7), [.t 3]⟩ ::
 ⟨(some 98), none, .p .mov, [.t 0]⟩ ::
 ⟨(some 99), none, .p .nilchk, [.t 98]⟩ ::
 ⟨(some 100), none, .p (.faddr 0), [.t 99]⟩ ::
 ⟨(some 101), none, .p (.faddr 0), [.t 100]⟩ ::
 ⟨(some 102), none, .r .load1, [.t 101]⟩ ::
 ⟨(some 103), none, .p (.faddr 2), [.t 3]⟩ ::
 ⟨(some 104), none, .r .load1, [.t 103]⟩ ::
 ⟨(some 105), none, .p (.iaddrS 3), [.t 102, .t 104]⟩ ::
 ⟨(some 106), none, .p (.faddr 2), [.t 105]⟩ ::
 ⟨(some 107), none, .r .load1, [.t 106]⟩ ::
 ⟨(some 108), none, .p (.faddr 3), [.t 3]⟩ ::
 ⟨(some 109), none, .r .load1, [.t 108]⟩ ::
 ⟨(some 110), none, .p (.iaddrS 8), [.t 107, .t 109]⟩ ::
 ⟨(some 111), none, .r (.loadN 8), [.t 110]⟩ ::
 ⟨(some 112), none, .call, [.c (.func (.func 92) [] []), .t 96, .t 97, .t 111]⟩ ::
 []) ([] :: [] :: [] :: [] :: [] :: [] :: [] :: [] :: [] :: [] :: [] :: [] :: [] :: [] :: [] :: [] :: [] :: []))
.skip)))))))))))))⟩
abbrev f_judge_look_note : Nat := 64
abbrev C_judge_look_note : AFunc := C64
def L_judge_look_to_0 : AC := (.seq (.seq (.ops (⟨(some 4), none, .p .mov, [.t 0]⟩ ::
 ⟨(some 5), none, .p .nilchk, [.t 4]⟩ ::
 ⟨(some 6), none, .p (.faddr 95), [.t 5]⟩ ::
 ⟨(some 7), none, .r .load1, [.t 6]⟩ ::
 ⟨(some 8), none, .p .mov, [.t 1]⟩ ::
 ⟨(some 9), none, .p (.bin .lss), [.t 7, .t 8]⟩ ::
 []))
(.cond (.t 9)
.skip
(.exit 0)))
(.block 1 (.ops (⟨(some 10), none, .p .mov, [.t 0]⟩ ::
 ⟨(some 11), none, .call, [.c (.func (.func 93) [] []), .t 10]⟩ ::
 []))))
def C65 : AFunc := ⟨12, [],
(.block 0 (.loop L_judge_look_to_0))⟩
abbrev f_judge_look_to : Nat := 65
abbrev C_judge_look_to : AFunc := C65
def C75 : AFunc := ⟨6, [.cell 0 2 true],
(.seq (.ops (⟨(some 0), none, .a (.alloc [.nils, .nils]), []⟩ ::
 []))
(.seq (.ops (⟨(some 1), none, .p (.build [(.int .i64 0), (.int .i64 0), (.int .i64 0), (.int .i64 0), (.int .i64 0), (.int .i64 0), (.int .i64 0), (.int .i64 0)] [(0, 1), (1, 1), (2, 1)]), [.c (.int .i64 8), .c (.int .i64 8), .c (.int .i64 2)]⟩ ::
 ⟨(some 2), none, .a (.bslice [(.int .i64 0), (.int .i64 0), (.int .i64 0), (.int .i64 0), (.int .i64 0), (.int .i64 0), (.int .i64 0), (.int .i64 0)] 1 8 [0]), [.t 1]⟩ ::
 ⟨(some 3), none, .p (.build [(.int .i64 0), (.int .i64 0), .nils] [(0, 1), (1, 1), (2, 1)]), [.c (.int .i64 4), .c (.int .i64 2), .t 2]⟩ ::
 ⟨(some 4), none, .a (.bslice [(.int .i64 0), (.int .i64 0), .nils] 1 3 [0]), [.t 3]⟩ ::
 ⟨(some 5), none, .p (.build [.nils, .nils] [(0, 1)]), [.t 4]⟩ ::
 ⟨none, none, .e (.store 2), [.t 0, .t 5]⟩ ::
 []))
.ret))⟩
abbrev f_escapementlaw26_chapter : Nat := 75
abbrev C_escapementlaw26_chapter : AFunc := C75
def L_slices_IndexFunc_api_Part_api_Part_0 : AC := (.seq (.ops (⟨(some 9), none, .p (.bin .lss), [.t 8, .t 7]⟩ ::
 []))
(.seq (.cond (.t 9)
.skip
(.exit 0))
(.seq (.block 1 (.seq (.ops (⟨(some 10), none, .p .mov, [.t 8]⟩ ::
 ⟨(some 5), none, .p .mov, [.t 10]⟩ ::
 []))
(.seq (.ops (⟨(some 11), none, .p .mov, [.t 1]⟩ ::
 ⟨(some 12), none, .p .mov, [.t 0]⟩ ::
 ⟨(some 13), none, .p .mov, [.t 5]⟩ ::
 ⟨(some 14), none, .p (.iaddrS 3), [.t 12, .t 13]⟩ ::
 ⟨(some 15), none, .r (.loadN 3), [.t 14]⟩ ::
 ⟨(some 16), none, .call, [.t 11, .t 15]⟩ ::
 []))
(.cond (.t 16)
(.seq (.ops (⟨(some 17), none, .p .mov, [.t 5]⟩ ::
 ⟨(some 4), none, .p .mov, [.t 17]⟩ ::
 []))
.ret)
.skip))))
(.ops (⟨(some 18), none, .p (.bin .add), [.t 8, .c (.int .i64 1)]⟩ ::
 ⟨(some 8), none, .p .mov, [.t 18]⟩ ::
 [])))))
def C79 : AFunc := ⟨19, [.tmp 4],
(.seq (.ops (⟨(some 4), none, .p .mov, [.c (.int .i64 0)]⟩ ::
 []))
(.seq (.seq (.ops (⟨(some 6), none, .p .mov, [.t 0]⟩ ::
 ⟨(some 7), none, .p .lenS, [.t 6]⟩ ::
 ⟨(some 8), none, .p .mov, [.c (.int .i64 0)]⟩ ::
 []))
(.block 0 (.loop L_slices_IndexFunc_api_Part_api_Part_0)))
(.seq (.ops (⟨(some 4), none, .p .mov, [.c (.int .i64 (-1))]⟩ ::
 []))
.ret)))⟩
abbrev f_slices_IndexFunc_api_Part_api_Part : Nat := 79
abbrev C_slices_IndexFunc_api_Part_api_Part : AFunc := C79
def C80 : AFunc := ⟨9, [.tmp 4],
(.seq (.ops (⟨(some 4), none, .p .mov, [.c (.bool false)]⟩ ::
 []))
(.seq (.ops (⟨(some 5), none, .p .mov, [.t 0]⟩ ::
 ⟨(some 6), none, .p .mov, [.t 1]⟩ ::
 ⟨(some 7), none, .call, [.c (.func (.func 100) [] []), .t 5, .t 6]⟩ ::
 ⟨(some 8), none, .p (.bin .geq), [.t 7, .c (.int .i64 0)]⟩ ::
 ⟨(some 4), none, .p .mov, [.t 8]⟩ ::
 []))
.ret))⟩
abbrev f_slices_ContainsFunc_api_Task_api_Task : Nat := 80
abbrev C_slices_ContainsFunc_api_Task_api_Task : AFunc := C80
def C81 : AFunc := ⟨9, [.tmp 3],
(.seq (.ops (⟨(some 2), none, .a .box, [.t 0]⟩ ::
 ⟨(some 3), none, .p .mov, [.c (.bool false)]⟩ ::
 []))
(.seq (.ops (⟨(some 4), none, .r (.loadN 8), [.t 2]⟩ ::
 ⟨(some 5), none, .p (.faddr 1), [.t 1]⟩ ::
 ⟨(some 6), none, .r .load1, [.t 5]⟩ ::
 ⟨(some 7), none, .call, [.c (.func (.func 82) [] []), .t 4, .t 6]⟩ ::
 ⟨(some 8), none, .p .not, [.t 7]⟩ ::
 ⟨(some 3), none, .p .mov, [.t 8]⟩ ::
 []))
.ret))⟩
abbrev f_conf_partMay_1 : Nat := 81
abbrev C_conf_partMay_1 : AFunc := C81
def C82 : AFunc := ⟨86, [.tmp 4],
(.seq (.ops (⟨(some 2), none, .a .box, [.t 0]⟩ ::
 ⟨(some 4), none, .p .mov, [.c (.bool false)]⟩ ::
 []))
(.seq (.ops (⟨(some 6), none, .p (.faddr 0), [.t 2]⟩ ::
 ⟨(some 7), none, .r .load1, [.t 6]⟩ ::
 ⟨(some 8), none, .call, [.c (.func (.func 62) [] []), .t 7, .c (.int .i64 1), .c (.int .i64 64)]⟩ ::
 ⟨(some 9), none, .p .mov, [.t 8]⟩ ::
 ⟨(some 10), (some (9, true)), .p (.faddr 1), [.t 2]⟩ ::
 ⟨(some 11), (some (9, true)), .r .load1, [.t 10]⟩ ::
 ⟨(some 12), (some (9, true)), .p (.faddr 0), [.t 2]⟩ ::
 ⟨(some 13), (some (9, true)), .r .load1, [.t 12]⟩ ::
 ⟨(some 14), (some (9, true)), .call, [.c (.func (.func 62) [] []), .t 11, .c (.int .i64 1), .t 13]⟩ ::
 ⟨(some 15), none, .p .pick, [.t 9, .t 14, .c (.bool false)]⟩ ::
 ⟨(some 16), none, .p .mov, [.t 15]⟩ ::
 ⟨(some 17), (some (16, true)), .p (.faddr 2), [.t 2]⟩ ::
 ⟨(some 18), (some (16, true)), .r .load1, [.t 17]⟩ ::
 ⟨(some 19), (some (16, true)), .p (.faddr 1), [.t 2]⟩ ::
 ⟨(some 20), (some (16, true)), .r .load1, [.t 19]⟩ ::
 ⟨(some 21), (some (16, true)), .call, [.c (.func (.func 62) [] []), .t 18, .c (.int .i64 1), .t 20]⟩ ::
 ⟨(some 22), none, .p .pick, [.t 16, .t 21, .c (.bool false)]⟩ ::
 ⟨(some 5), none, .p .mov, [.t 22]⟩ ::
 []))
(.seq (.seq (.ops (⟨(some 23), none, .p .mov, [.t 5]⟩ ::
 ⟨(some 24), none, .p .not, [.t 23]⟩ ::
 ⟨(some 25), none, .p .mov, [.t 24]⟩ ::
 ⟨(some 26), (some (25, false)), .p (.faddr 3), [.t 2]⟩ ::
 ⟨(some 27), (some (25, false)), .r .load1, [.t 26]⟩ ::
 ⟨(some 28), (some (25, false)), .call, [.c (.func (.func 62) [] []), .t 27, .c (.int .i64 0), .c (.int .i64 255)]⟩ ::
 ⟨(some 29), (some (25, false)), .p .not, [.t 28]⟩ ::
 ⟨(some 30), none, .p .pick, [.t 25, .c (.bool true), .t 29]⟩ ::
 ⟨(some 31), none, .p .mov, [.t 30]⟩ ::
 ⟨(some 32), (some (31, false)), .p (.faddr 5), [.t 2]⟩ ::
 ⟨(some 33), (some (31, false)), .r .load1, [.t 32]⟩ ::
 ⟨(some 34), (some (31, false)), .call, [.c (.func (.func 62) [] []), .t 33, .c (.int .i64 0), .c (.int .i64 4)]⟩ ::
 ⟨(some 35), (some (31, false)), .p .not, [.t 34]⟩ ::
 ⟨(some 36), none, .p .pick, [.t 31, .c (.bool true), .t 35]⟩ ::
 []))
(.cond (.t 36)
(.seq (.ops (⟨(some 4), none, .p .mov, [.c (.bool false)]⟩ ::
 []))
.ret)
.skip))
(.seq (.seq (.ops (⟨(some 37), none, .p (.faddr 3), [.t 2]⟩ ::
 ⟨(some 38), none, .r .load1, [.t 37]⟩ ::
 ⟨(some 39), none, .p (.bin .eql), [.t 38, .c (.int .i64 0)]⟩ ::
 ⟨(some 40), none, .p .mov, [.t 39]⟩ ::
 ⟨(some 41), (some (40, true)), .p (.faddr 4), [.t 2]⟩ ::
 ⟨(some 42), (some (40, true)), .r .load1, [.t 41]⟩ ::
 ⟨(some 43), (some (40, true)), .p (.bin .neq), [.t 42, .c (.int .i64 0)]⟩ ::
 ⟨(some 44), none, .p .pick, [.t 40, .t 43, .c (.bool false)]⟩ ::
 ⟨(some 45), none, .p .mov, [.t 44]⟩ ::
 ⟨(some 46), (some (45, false)), .p (.faddr 3), [.t 2]⟩ ::
 ⟨(some 47), (some (45, false)), .r .load1, [.t 46]⟩ ::
 ⟨(some 48), (some (45, false)), .p (.bin .neq), [.t 47, .c (.int .i64 0)]⟩ ::
 ⟨(some 49), (some (45, false)), .p .mov, [.t 48]⟩ ::
 ⟨(some 50), (some (49, true)), .p (.faddr 4), [.t 2]⟩ ::
 ⟨(some 51), (some (49, true)), .r .load1, [.t 50]⟩ ::
 ⟨(some 52), (some (49, true)), .p (.faddr 2), [.t 2]⟩ ::
 ⟨(some 53), (some (49, true)), .r .load1, [.t 52]⟩ ::
 ⟨(some 54), (some (49, true)), .call, [.c (.func (.func 62) [] []), .t 51, .c (.int .i64 1), .t 53]⟩ ::
 ⟨(some 55), (some (49, true)), .p .not, [.t 54]⟩ ::
 ⟨(some 56), (some (45, false)), .p .pick, [.t 49, .t 55, .c (.bool false)]⟩ ::
 ⟨(some 57), none, .p .pick, [.t 45, .c (.bool true), .t 56]⟩ ::
 []))
(.cond (.t 57)
(.seq (.ops (⟨(some 4), none, .p .mov, [.c (.bool false)]⟩ ::
 []))
.ret)
.skip))
(.seq (.seq (.ops (⟨(some 58), none, .p (.faddr 5), [.t 2]⟩ ::
 ⟨(some 59), none, .r .load1, [.t 58]⟩ ::
 ⟨(some 60), none, .p (.bin .eql), [.t 59, .c (.int .i64 0)]⟩ ::
 []))
(.cond (.t 60)
(.seq (.ops (⟨(some 61), none, .p (.faddr 6), [.t 2]⟩ ::
 ⟨(some 62), none, .r .load1, [.t 61]⟩ ::
 ⟨(some 63), none, .p (.bin .eql), [.t 62, .c (.int .i64 0)]⟩ ::
 ⟨(some 64), none, .p .mov, [.t 63]⟩ ::
 ⟨(some 65), (some (64, true)), .p (.faddr 7), [.t 2]⟩ ::
 ⟨(some 66), (some (64, true)), .r .load1, [.t 65]⟩ ::
 ⟨(some 67), (some (64, true)), .p (.bin .eql), [.t 66, .c (.int .i64 0)]⟩ ::
 ⟨(some 68), none, .p .pick, [.t 64, .t 67, .c (.bool false)]⟩ ::
 ⟨(some 4), none, .p .mov, [.t 68]⟩ ::
 []))
.ret)
.skip))
(.seq (.dops (⟨(some 69), none, .p (.faddr 6), [.t 2]⟩ ::
 ⟨(some 70), none, .r .load1, [.t 69]⟩ ::
 ⟨(some 71), none, .p .mov, [.t 1]⟩ ::
 ⟨(some 72), none, .p (.faddr 2), [.t 2]⟩ ::
 ⟨(some 73), none, .r .load1, [.t 72]⟩ ::
 ⟨(some 74), none, .p .mn, [.t 71, .t 73]⟩ ::
 ⟨(some 75), none, .call, [.c (.func (.func 62) [] []), .t 70, .c (.int .i64 1), .t 74]⟩ ::
 ⟨(some 76), none, .p .mov, [.t 75]⟩ ::
 ⟨(some 77), (some (76, true)), .p (.faddr 7), [.t 2]⟩ ::
 ⟨(some 78), (some (76, true)), .r .load1, [.t 77]⟩ ::
 ⟨(some 79), (some (76, true)), .p (.faddr 2), [.t 2]⟩ ::
 ⟨(some 80), (some (76, true)), .r .load1, [.t 79]⟩ ::
 ⟨(some 81), (some (76, true)), .p (.faddr 6), [.t 2]⟩ ::
 ⟨(some 82), (some (76, true)), .r .load1, [.t 81]⟩ ::
 ⟨(some 83), (some (76, true)), .p (.bin .quo), [.t 80, .t 82]⟩ ::
 ⟨(some 84), (some (76, true)), .call, [.c (.func (.func 62) [] []), .t 78, .c (.int .i64 1), .t 83]⟩ ::
 ⟨(some 85), none, .p .pick, [.t 76, .t 84, .c (.bool false)]⟩ ::
 ⟨(some 4), none, .p .mov, [.t 85]⟩ ::
 []) ([] :: [] :: [] :: [] :: [] :: [] :: [] :: [] :: [] :: [] :: [] :: [] :: [] :: [] :: [] :: [] :: [] :: [] :: []))
.ret))))))⟩
abbrev f_conf_taskMay : Nat := 82
abbrev C_conf_taskMay : AFunc := C82
def L_slices_IndexFunc_api_Port_api_Port_0 : AC := (.seq (.ops (⟨(some 9), none, .p (.bin .lss), [.t 8, .t 7]⟩ ::
 []))
(.seq (.cond (.t 9)
.skip
(.exit 0))
(.seq (.block 1 (.seq (.ops (⟨(some 10), none, .p .mov, [.t 8]⟩ ::
 ⟨(some 5), none, .p .mov, [.t 10]⟩ ::
 []))
(.seq (.ops (⟨(some 11), none, .p .mov, [.t 1]⟩ ::
 ⟨(some 12), none, .p .mov, [.t 0]⟩ ::
 ⟨(some 13), none, .p .mov, [.t 5]⟩ ::
 ⟨(some 14), none, .p (.iaddrS 6), [.t 12, .t 13]⟩ ::
 ⟨(some 15), none, .r (.loadN 6), [.t 14]⟩ ::
 ⟨(some 16), none, .call, [.t 11, .t 15]⟩ ::
 []))
(.cond (.t 16)
(.seq (.ops (⟨(some 17), none, .p .mov, [.t 5]⟩ ::
 ⟨(some 4), none, .p .mov, [.t 17]⟩ ::
 []))
.ret)
.skip))))
(.ops (⟨(some 18), none, .p (.bin .add), [.t 8, .c (.int .i64 1)]⟩ ::
 ⟨(some 8), none, .p .mov, [.t 18]⟩ ::
 [])))))
def C83 : AFunc := ⟨19, [.tmp 4],
(.seq (.ops (⟨(some 4), none, .p .mov, [.c (.int .i64 0)]⟩ ::
 []))
(.seq (.seq (.ops (⟨(some 6), none, .p .mov, [.t 0]⟩ ::
 ⟨(some 7), none, .p .lenS, [.t 6]⟩ ::
 ⟨(some 8), none, .p .mov, [.c (.int .i64 0)]⟩ ::
 []))
(.block 0 (.loop L_slices_IndexFunc_api_Port_api_Port_0)))
(.seq (.ops (⟨(some 4), none, .p .mov, [.c (.int .i64 (-1))]⟩ ::
 []))
.ret)))⟩
abbrev f_slices_IndexFunc_api_Port_api_Port : Nat := 83
abbrev C_slices_IndexFunc_api_Port_api_Port : AFunc := C83
def C84 : AFunc := ⟨8, [],
(.seq (.ops (⟨(some 4), none, .p .mov, [.t 0]⟩ ::
 ⟨(some 5), none, .p .not, [.t 4]⟩ ::
 []))
(.cond (.t 5)
(.ops (⟨(some 6), none, .p .mov, [.t 1]⟩ ::
 ⟨(some 7), none, .p (.mkiface 115), [.t 6]⟩ ::
 ⟨none, none, .panic, [.t 7]⟩ ::
 []))
.skip))⟩
abbrev f_judge_must : Nat := 84
abbrev C_judge_must : AFunc := C84
def C85 : AFunc := ⟨81, [.tmp 4],
(.seq (.ops (⟨(some 3), none, .a .box, [.t 1]⟩ ::
 ⟨(some 4), none, .p .mov, [.c (.bool false)]⟩ ::
 []))
(.seq (.seq (.dops (⟨(some 5), none, .p (.faddr 0), [.t 3]⟩ ::
 ⟨(some 6), none, .r .load1, [.t 5]⟩ ::
 ⟨(some 7), none, .p .mov, [.t 0]⟩ ::
 ⟨(some 8), none, .p .nilchk, [.t 7]⟩ ::
 ⟨(some 9), none, .p (.faddr 95), [.t 8]⟩ ::
 ⟨(some 10), none, .r .load1, [.t 9]⟩ ::
 ⟨(some 11), none, .p (.bin .lss), [.t 6, .t 10]⟩ ::
 ⟨(some 12), none, .p .mov, [.t 11]⟩ ::
 ⟨(some 13), (some (12, false)), .p (.faddr 0), [.t 3]⟩ ::
 ⟨(some 14), (some (12, false)), .r .load1, [.t 13]⟩ ::
 ⟨(some 15), (some (12, false)), .p .mov, [.t 0]⟩ ::
 ⟨(some 16), (some (12, false)), .p .nilchk, [.t 15]⟩ ::
 ⟨(some 17), (some (12, false)), .p (.faddr 94), [.t 16]⟩ ::
 ⟨(some 18), (some (12, false)), .r .load1, [.t 17]⟩ ::
 ⟨(some 19), (some (12, false)), .p (.bin .gtr), [.t 14, .t 18]⟩ ::
 ⟨(some 20), none, .p .pick, [.t 12, .c (.bool true), .t 19]⟩ ::
 ⟨(some 21), none, .p .mov, [.t 20]⟩ ::
 ⟨(some 22), (some (21, false)), .p (.faddr 1), [.t 3]⟩ ::
 ⟨(some 23), (some (21, false)), .r .load1, [.t 22]⟩ ::
 ⟨(some 24), (some (21, false)), .p (.bin .lss), [.t 23, .c (.int .i64 1)]⟩ ::
 ⟨(some 25), none, .p .pick, [.t 21, .c (.bool true), .t 24]⟩ ::
 ⟨(some 26), none, .p .mov, [.t 25]⟩ ::
 ⟨(some 27), (some (26, false)), .p (.faddr 1), [.t 3]⟩ ::
 ⟨(some 28), (some (26, false)), .r .load1, [.t 27]⟩ ::
 ⟨(some 29), (some (26, false)), .p (.bin .gtr), [.t 28, .c (.int .i64 8)]⟩ ::
 ⟨(some 30), none, .p .pick, [.t 26, .c (.bool true), .t 29]⟩ ::
 ⟨(some 31), none, .p .mov, [.t 30]⟩ ::
 ⟨(some 32), (some (31, false)), .p (.faddr 2), [.t 3]⟩ ::
 ⟨(some 33), (some (31, false)), .r .load1, [.t 32]⟩ ::
 ⟨(some 34), (some (31, false)), .p (.bin .lss), [.t 33, .c (.int .i64 0)]⟩ ::
 ⟨(some 35), none, .p .pick, [.t 31, .c (.bool true), .t 34]⟩ ::
 ⟨(some 36), none, .p .mov, [.t 35]⟩ ::
 ⟨(some 37), (some (36, false)), .p (.faddr 2), [.t 3]⟩ ::
 ⟨(some 38), (some (36, false)), .r .load1, [.t 37]⟩ ::
 ⟨(some 39), (some (36, false)), .p .mov, [.t 0]⟩ ::
 ⟨(some 40), (some (36, false)), .p .nilchk, [.t 39]⟩ ::
 ⟨(some 41), (some (36, false)), .p (.faddr 0), [.t 40]⟩ ::
 ⟨(some 42), (some (36, false)), .p (.faddr 0), [.t 41]⟩ ::
 ⟨(some 43), (some (36, false)), .r .load1, [.t 42]⟩ ::
 ⟨(some 44), (some (36, false)), .p .lenS, [.t 43]⟩ ::
 ⟨(some 45), (some (36, false)), .p (.bin .geq), [.t 38, .t 44]⟩ ::
 ⟨(some 46), none, .p .pick, [.t 36, .c (.bool true), .t 45]⟩ ::
 []) ([] :: [] :: [] :: [] :: [] :: [] :: [] :: [] :: [] :: [] :: [] :: [] :: [] :: [] :: [] :: [] :: [] :: [] :: [] :: [] :: [] :: [] :: [] :: [] :: [] :: [] :: [] :: [] :: [] :: [] :: [] :: [] :: [] :: [] :: [] :: [] :: [] :: [] :: [] :: [] :: [] :: [] :: []))
(.cond (.t 46)
(.seq (.ops (⟨(some 4), none, .p .mov, [.c (.bool false)]⟩ ::
 []))
.ret)
.skip))
(.seq (.seq (.ops (⟨(some 47), none, .r (.loadN 7), [.t 3]⟩ ::
 ⟨(some 48), none, .call, [.c (.func (.func 88) [] []), .t 47]⟩ ::
 []))
(.cond (.t 48)
(.seq (.ops (⟨(some 49), none, .p (.faddr 3), [.t 3]⟩ ::
 ⟨(some 50), none, .r .load1, [.t 49]⟩ ::
 ⟨(some 51), none, .p (.bin .eql), [.t 50, .c (.int .i64 0)]⟩ ::
 ⟨(some 4), none, .p .mov, [.t 51]⟩ ::
 []))
.ret)
.skip))
(.seq (.dops (⟨(some 52), none, .p (.faddr 3), [.t 3]⟩ ::
 ⟨(some 53), none, .r .load1, [.t 52]⟩ ::
 ⟨(some 54), none, .p (.bin .geq), [.t 53, .c (.int .i64 0)]⟩ ::
 ⟨(some 55), none, .p .mov, [.t 54]⟩ ::
 ⟨(some 56), (some (55, false)), .p (.faddr 3), [.t 3]⟩ ::
 ⟨(some 57), (some (55, false)), .r .load1, [.t 56]⟩ ::
 ⟨(some 58), (some (55, false)), .p (.bin .eql), [.t 57, .c (.int .i64 (-1))]⟩ ::
 ⟨(some 59), (some (55, false)), .p .mov, [.t 58]⟩ ::
 ⟨(some 60), (some (59, true)), .p (.faddr 1), [.t 3]⟩ ::
 ⟨(some 61), (some (59, true)), .r .load1, [.t 60]⟩ ::
 ⟨(some 62), (some (59, true)), .p (.bin .eql), [.t 61, .c (.int .i64 1)]⟩ ::
 ⟨(some 63), (some (55, false)), .p .pick, [.t 59, .t 62, .c (.bool false)]⟩ ::
 ⟨(some 64), none, .p .pick, [.t 55, .c (.bool true), .t 63]⟩ ::
 ⟨(some 65), none, .p .mov, [.t 64]⟩ ::
 ⟨(some 66), (some (65, true)), .p (.faddr 3), [.t 3]⟩ ::
 ⟨(some 67), (some (65, true)), .r .load1, [.t 66]⟩ ::
 ⟨(some 68), (some (65, true)), .p .mov, [.t 0]⟩ ::
 ⟨(some 69), (some (65, true)), .p .nilchk, [.t 68]⟩ ::
 ⟨(some 70), (some (65, true)), .p (.faddr 0), [.t 69]⟩ ::
 ⟨(some 71), (some (65, true)), .p (.faddr 0), [.t 70]⟩ ::
 ⟨(some 72), (some (65, true)), .r .load1, [.t 71]⟩ ::
 ⟨(some 73), (some (65, true)), .p (.faddr 2), [.t 3]⟩ ::
 ⟨(some 74), (some (65, true)), .r .load1, [.t 73]⟩ ::
 ⟨(some 75), (some (65, true)), .p (.iaddrS 3), [.t 72, .t 74]⟩ ::
 ⟨(some 76), (some (65, true)), .p (.faddr 2), [.t 75]⟩ ::
 ⟨(some 77), (some (65, true)), .r .load1, [.t 76]⟩ ::
 ⟨(some 78), (some (65, true)), .p .lenS, [.t 77]⟩ ::
 ⟨(some 79), (some (65, true)), .p (.bin .lss), [.t 67, .t 78]⟩ ::
 ⟨(some 80), none, .p .pick, [.t 65, .t 79, .c (.bool false)]⟩ ::
 ⟨(some 4), none, .p .mov, [.t 80]⟩ ::
 []) ([] :: [] :: [] :: [] :: [] :: [] :: [] :: [] :: [] :: [] :: [] :: [] :: [] :: [] :: [] :: [] :: [] :: [] :: [] :: [] :: [] :: [] :: [] :: [] :: [] :: [] :: [] :: [] :: [] :: [] :: []))
.ret))))⟩
abbrev f_judge_look_shaped : Nat := 85
abbrev C_judge_look_shaped : AFunc := C85
def L_judge_look_could_0 : AC := (.seq (.ops (⟨(some 10), none, .p (.bin .lss), [.t 9, .t 8]⟩ ::
 []))
(.seq (.cond (.t 10)
.skip
(.exit 0))
(.seq (.block 1 (.seq (.ops (⟨(some 11), none, .p .mov, [.t 9]⟩ ::
 ⟨(some 4), none, .p .mov, [.t 11]⟩ ::
 []))
(.seq (.ops (⟨(some 12), none, .p .mov, [.t 0]⟩ ::
 ⟨(some 13), none, .p .mov, [.t 4]⟩ ::
 ⟨(some 14), none, .p .nilchk, [.t 12]⟩ ::
 ⟨(some 15), none, .p (.faddr 2), [.t 14]⟩ ::
 ⟨(some 16), none, .p (.iaddrA 23 4), [.t 15, .t 13]⟩ ::
 ⟨(some 5), none, .p .mov, [.t 16]⟩ ::
 []))
(.seq (.dops (⟨(some 17), none, .p .mov, [.t 5]⟩ ::
 ⟨(some 18), none, .call, [.c (.func (.func 102) [] []), .t 17]⟩ ::
 ⟨(some 19), none, .p .mov, [.t 18]⟩ ::
 ⟨(some 20), (some (19, true)), .p .mov, [.t 3]⟩ ::
 ⟨(some 21), (some (19, true)), .p (.bin .eql), [.t 20, .c (.int .i64 (-1))]⟩ ::
 ⟨(some 22), (some (19, true)), .p .mov, [.t 21]⟩ ::
 ⟨(some 23), (some (22, false)), .p .mov, [.t 5]⟩ ::
 ⟨(some 24), (some (22, false)), .p .nilchk, [.t 23]⟩ ::
 ⟨(some 25), (some (22, false)), .p (.faddr 3), [.t 24]⟩ ::
 ⟨(some 26), (some (22, false)), .r .load1, [.t 25]⟩ ::
 ⟨(some 27), (some (22, false)), .p .mov, [.t 0]⟩ ::
 ⟨(some 28), (some (22, false)), .p .mov, [.t 3]⟩ ::
 ⟨(some 29), (some (22, false)), .p .nilchk, [.t 27]⟩ ::
 ⟨(some 30), (some (22, false)), .p (.faddr 2), [.t 29]⟩ ::
 ⟨(some 31), (some (22, false)), .p (.iaddrA 23 4), [.t 30, .t 28]⟩ ::
 ⟨(some 32), (some (22, false)), .p (.faddr 3), [.t 31]⟩ ::
 ⟨(some 33), (some (22, false)), .r .load1, [.t 32]⟩ ::
 ⟨(some 34), (some (22, false)), .p (.bin .lss), [.t 26, .t 33]⟩ ::
 ⟨(some 35), (some (19, true)), .p .pick, [.t 22, .c (.bool true), .t 34]⟩ ::
 ⟨(some 36), none, .p .pick, [.t 19, .t 35, .c (.bool false)]⟩ ::
 []) ([] :: [] :: [] :: [] :: [] :: [] :: [] :: [] :: [] :: [] :: [] :: [] :: [] :: [] :: [] :: [] :: [] :: [] :: [] :: [] :: []))
(.cond (.t 36)
(.ops (⟨(some 37), none, .p .mov, [.t 4]⟩ ::
 ⟨(some 3), none, .p .mov, [.t 37]⟩ ::
 []))
.skip)))))
(.ops (⟨(some 38), none, .p (.bin .add), [.t 9, .c (.int .i64 1)]⟩ ::
 ⟨(some 9), none, .p .mov, [.t 38]⟩ ::
 [])))))
def C86 : AFunc := ⟨40, [.tmp 2],
(.seq (.ops (⟨(some 2), none, .p .mov, [.c (.int .i64 0)]⟩ ::
 []))
(.seq (.ops (⟨(some 3), none, .p .mov, [.c (.int .i64 (-1))]⟩ ::
 []))
(.seq (.seq (.ops (⟨(some 6), none, .p .mov, [.t 0]⟩ ::
 ⟨(some 7), none, .call, [.c (.func (.func 101) [] []), .t 6]⟩ ::
 ⟨(some 8), none, .p .lenS, [.t 7]⟩ ::
 ⟨(some 9), none, .p .mov, [.c (.int .i64 0)]⟩ ::
 []))
(.block 0 (.loop L_judge_look_could_0)))
(.seq (.ops (⟨(some 39), none, .p .mov, [.t 3]⟩ ::
 ⟨(some 2), none, .p .mov, [.t 39]⟩ ::
 []))
.ret))))⟩
abbrev f_judge_look_could : Nat := 86
abbrev C_judge_look_could : AFunc := C86
def C87 : AFunc := ⟨54, [.tmp 4],
(.seq (.ops (⟨(some 3), none, .a .box, [.t 1]⟩ ::
 ⟨(some 4), none, .p .mov, [.c (.bool false)]⟩ ::
 []))
(.seq (.block 0 (.seq (.ops (⟨(some 6), none, .p (.faddr 1), [.t 3]⟩ ::
 ⟨(some 7), none, .r .load1, [.t 6]⟩ ::
 ⟨(some 8), none, .p (.bin .eql), [.t 7, .c (.int .i64 7)]⟩ ::
 ⟨(some 9), none, .p .mov, [.t 8]⟩ ::
 ⟨(some 10), (some (9, false)), .p (.faddr 1), [.t 3]⟩ ::
 ⟨(some 11), (some (9, false)), .r .load1, [.t 10]⟩ ::
 ⟨(some 12), (some (9, false)), .p (.bin .eql), [.t 11, .c (.int .i64 8)]⟩ ::
 ⟨(some 13), none, .p .pick, [.t 9, .c (.bool true), .t 12]⟩ ::
 ⟨(some 5), none, .p .mov, [.t 13]⟩ ::
 []))
(.cond (.t 5)
(.seq (.ops (⟨(some 14), none, .p .mov, [.t 0]⟩ ::
 ⟨(some 15), none, .p .nilchk, [.t 14]⟩ ::
 ⟨(some 16), none, .p (.faddr 5), [.t 15]⟩ ::
 ⟨(some 17), none, .p (.sliceArr 4 4 false false false), [.t 16]⟩ ::
 ⟨(some 18), none, .call, [.c (.func (.func 103) [] []), .t 17, .c (.func (.func 104) [] [])]⟩ ::
 ⟨(some 19), none, .p .not, [.t 18]⟩ ::
 ⟨(some 4), none, .p .mov, [.t 19]⟩ ::
 []))
.ret)
(.seq (.ops (⟨(some 21), none, .p (.faddr 1), [.t 3]⟩ ::
 ⟨(some 22), none, .r .load1, [.t 21]⟩ ::
 ⟨(some 23), none, .p (.bin .eql), [.t 22, .c (.int .i64 2)]⟩ ::
 ⟨(some 20), none, .p .mov, [.t 23]⟩ ::
 []))
(.cond (.t 20)
(.seq (.dops (⟨(some 24), none, .p (.faddr 5), [.t 3]⟩ ::
 ⟨(some 25), none, .r .load1, [.t 24]⟩ ::
 ⟨(some 26), none, .p (.bin .neq), [.t 25, .c (.int .i64 0)]⟩ ::
 ⟨(some 27), none, .p .mov, [.t 26]⟩ ::
 ⟨(some 28), (some (27, false)), .p .mov, [.t 0]⟩ ::
 ⟨(some 29), (some (27, false)), .p (.faddr 3), [.t 3]⟩ ::
 ⟨(some 30), (some (27, false)), .r .load1, [.t 29]⟩ ::
 ⟨(some 31), (some (27, false)), .p .nilchk, [.t 28]⟩ ::
 ⟨(some 32), (some (27, false)), .p (.faddr 5), [.t 31]⟩ ::
 ⟨(some 33), (some (27, false)), .p (.iaddrA 4 4), [.t 32, .t 30]⟩ ::
 ⟨(some 34), (some (27, false)), .p (.faddr 0), [.t 33]⟩ ::
 ⟨(some 35), (some (27, false)), .r .load1, [.t 34]⟩ ::
 ⟨(some 36), (some (27, false)), .p .not, [.t 35]⟩ ::
 ⟨(some 37), none, .p .pick, [.t 27, .c (.bool true), .t 36]⟩ ::
 ⟨(some 4), none, .p .mov, [.t 37]⟩ ::
 []) ([] :: [] :: [] :: [] :: [] :: [] :: [] :: [] :: [] :: [] :: [] :: [] :: [] :: [] :: [] :: []))
.ret)
(.seq (.ops (⟨(some 39), none, .r (.loadN 7), [.t 3]⟩ ::
 ⟨(some 40), none, .call, [.c (.func (.func 88) [] []), .t 39]⟩ ::
 ⟨(some 41), none, .p .mov, [.t 40]⟩ ::
 ⟨(some 42), (some (41, false)), .p (.faddr 3), [.t 3]⟩ ::
 ⟨(some 43), (some (41, false)), .r .load1, [.t 42]⟩ ::
 ⟨(some 44), (some (41, false)), .p (.bin .eql), [.t 43, .c (.int .i64 (-1))]⟩ ::
 ⟨(some 45), none, .p .pick, [.t 41, .c (.bool true), .t 44]⟩ ::
 ⟨(some 38), none, .p .mov, [.t 45]⟩ ::
 []))
(.cond (.t 38)
(.seq (.ops (⟨(some 4), none, .p .mov, [.c (.bool true)]⟩ ::
 []))
.ret)
.skip)))))))
(.seq (.dops (⟨(some 46), none, .p .mov, [.t 0]⟩ ::
 ⟨(some 47), none, .p (.faddr 3), [.t 3]⟩ ::
 ⟨(some 48), none, .r .load1, [.t 47]⟩ ::
 ⟨(some 49), none, .p .nilchk, [.t 46]⟩ ::
 ⟨(some 50), none, .p (.faddr 5), [.t 49]⟩ ::
 ⟨(some 51), none, .p (.iaddrA 4 4), [.t 50, .t 48]⟩ ::
 ⟨(some 52), none, .p (.faddr 0), [.t 51]⟩ ::
 ⟨(some 53), none, .r .load1, [.t 52]⟩ ::
 ⟨(some 4), none, .p .mov, [.t 53]⟩ ::
 []) ([] :: [] :: [] :: [] :: [] :: [] :: [] :: [] :: [] :: []))
.ret)))⟩
abbrev f_judge_part_there : Nat := 87
abbrev C_judge_part_there : AFunc := C87
def C88 : AFunc := ⟨16, [.tmp 2],
(.seq (.ops (⟨(some 1), none, .a .box, [.t 0]⟩ ::
 ⟨(some 2), none, .p .mov, [.c (.bool false)]⟩ ::
 []))
(.seq (.ops (⟨(some 3), none, .p (.faddr 1), [.t 1]⟩ ::
 ⟨(some 4), none, .r .load1, [.t 3]⟩ ::
 ⟨(some 5), none, .p (.bin .eql), [.t 4, .c (.int .i64 6)]⟩ ::
 ⟨(some 6), none, .p .mov, [.t 5]⟩ ::
 ⟨(some 7), (some (6, false)), .p (.faddr 1), [.t 1]⟩ ::
 ⟨(some 8), (some (6, false)), .r .load1, [.t 7]⟩ ::
 ⟨(some 9), (some (6, false)), .p (.bin .eql), [.t 8, .c (.int .i64 7)]⟩ ::
 ⟨(some 10), none, .p .pick, [.t 6, .c (.bool true), .t 9]⟩ ::
 ⟨(some 11), none, .p .mov, [.t 10]⟩ ::
 ⟨(some 12), (some (11, false)), .p (.faddr 1), [.t 1]⟩ ::
 ⟨(some 13), (some (11, false)), .r .load1, [.t 12]⟩ ::
 ⟨(some 14), (some (11, false)), .p (.bin .eql), [.t 13, .c (.int .i64 8)]⟩ ::
 ⟨(some 15), none, .p .pick, [.t 11, .c (.bool true), .t 14]⟩ ::
 ⟨(some 2), none, .p .mov, [.t 15]⟩ ::
 []))
.ret))⟩
abbrev f_judge_whole : Nat := 88
abbrev C_judge_whole : AFunc := C88
def C89 : AFunc := ⟨71, [],
(.seq (.ops (⟨(some 5), none, .a .box, [.t 2]⟩ ::
 []))
(.seq (.dops (⟨(some 7), none, .p .mov, [.t 0]⟩ ::
 ⟨(some 8), none, .p .nilchk, [.t 7]⟩ ::
 ⟨(some 9), none, .p (.faddr 0), [.t 8]⟩ ::
 ⟨(some 10), none, .p (.faddr 0), [.t 9]⟩ ::
 ⟨(some 11), none, .r .load1, [.t 10]⟩ ::
 ⟨(some 12), none, .p (.faddr 2), [.t 5]⟩ ::
 ⟨(some 13), none, .r .load1, [.t 12]⟩ ::
 ⟨(some 14), none, .p (.iaddrS 3), [.t 11, .t 13]⟩ ::
 ⟨(some 6), none, .p .mov, [.t 14]⟩ ::
 []) ([] :: [] :: [] :: [] :: [] :: [] :: [] :: [] :: [] :: []))
(.seq (.seq (.ops (⟨(some 15), none, .p (.faddr 1), [.t 5]⟩ ::
 ⟨(some 16), none, .r .load1, [.t 15]⟩ ::
 []))
(.block 0 (.seq (.ops (⟨(some 18), none, .p (.bin .eql), [.t 16, .c (.int .i64 7)]⟩ ::
 ⟨(some 17), none, .p .mov, [.t 18]⟩ ::
 []))
(.cond (.t 17)
(.seq (.ops (⟨(some 19), none, .p .mov, [.t 1]⟩ ::
 ⟨(some 20), none, .p (.build [(.bool false), (.int .i64 0), (.int .i64 0), (.int .i64 0), (.int .i64 0), (.bool false), (.int .i64 0), (.int .i64 0), (.int .i64 0), (.bool false), (.int .i64 0), (.int .i64 0), (.int .i64 0), (.bool false), (.int .i64 0), (.int .i64 0), (.int .i64 0), (.bool false), (.int .i64 0), (.int .i64 0), (.int .i64 0), (.bool false), (.int .i64 0)] []), []⟩ ::
 ⟨(some 21), none, .p .nilchk, [.t 19]⟩ ::
 ⟨none, none, .e (.store 23), [.t 21, .t 20]⟩ ::
 []))
(.seq (.ops (⟨(some 22), none, .p .mov, [.t 0]⟩ ::
 ⟨(some 23), none, .p .nilchk, [.t 22]⟩ ::
 ⟨(some 24), none, .p (.faddr 97), [.t 23]⟩ ::
 ⟨none, none, .e (.store 1), [.t 24, .c (.bool true)]⟩ ::
 []))
.ret))
(.seq (.ops (⟨(some 26), none, .p (.bin .eql), [.t 16, .c (.int .i64 6)]⟩ ::
 ⟨(some 25), none, .p .mov, [.t 26]⟩ ::
 []))
(.cond (.t 25)
(.ops (⟨(some 27), none, .p .mov, [.t 1]⟩ ::
 ⟨(some 28), none, .p (.build [(.bool false), (.int .i64 0), (.int .i64 0), (.int .i64 0), (.int .i64 0), (.bool false), (.int .i64 0), (.int .i64 0), (.int .i64 0), (.bool false), (.int .i64 0), (.int .i64 0), (.int .i64 0), (.bool false), (.int .i64 0), (.int .i64 0), (.int .i64 0), (.bool false), (.int .i64 0), (.int .i64 0), (.int .i64 0), (.bool false), (.int .i64 0)] [(0, 1)]), [.c (.bool true)]⟩ ::
 ⟨(some 29), none, .p .nilchk, [.t 27]⟩ ::
 ⟨none, none, .e (.store 23), [.t 29, .t 28]⟩ ::
 []))
(.seq (.ops (⟨(some 31), none, .p (.bin .eql), [.t 16, .c (.int .i64 8)]⟩ ::
 ⟨(some 30), none, .p .mov, [.t 31]⟩ ::
 []))
(.cond (.t 30)
(.dops (⟨(some 32), none, .p .mov, [.t 6]⟩ ::
 ⟨(some 33), none, .p .mov, [.t 6]⟩ ::
 ⟨(some 34), none, .p (.faddr 4), [.t 5]⟩ ::
 ⟨(some 35), none, .r .load1, [.t 34]⟩ ::
 ⟨(some 36), none, .p (.bin .quo), [.t 35, .c (.int .i64 100)]⟩ ::
 ⟨(some 37), none, .p (.faddr 4), [.t 5]⟩ ::
 ⟨(some 38), none, .r .load1, [.t 37]⟩ ::
 ⟨(some 39), none, .p (.bin .rem), [.t 38, .c (.int .i64 100)]⟩ ::
 ⟨(some 40), none, .p .nilchk, [.t 32]⟩ ::
 ⟨(some 41), none, .p (.faddr 0), [.t 40]⟩ ::
 ⟨none, none, .e (.store 1), [.t 41, .t 36]⟩ ::
 ⟨(some 42), none, .p .nilchk, [.t 33]⟩ ::
 ⟨(some 43), none, .p (.faddr 1), [.t 42]⟩ ::
 ⟨none, none, .e (.store 1), [.t 43, .t 39]⟩ ::
 []) ([] :: [] :: [] :: [] :: [] :: [] :: [0, 11] :: [] :: [] :: [] :: [] :: [] :: [] :: [] :: []))
.skip))))))))
(.seq (.dops (⟨(some 44), none, .p .mov, [.t 1]⟩ ::
 ⟨(some 45), none, .p .mov, [.t 1]⟩ ::
 ⟨(some 46), none, .p .mov, [.t 6]⟩ ::
 ⟨(some 47), none, .p .nilchk, [.t 46]⟩ ::
 ⟨(some 48), none, .p (.faddr 0), [.t 47]⟩ ::
 ⟨(some 49), none, .r .load1, [.t 48]⟩ ::
 ⟨(some 50), none, .p .mov, [.t 6]⟩ ::
 ⟨(some 51), none, .p .nilchk, [.t 50]⟩ ::
 ⟨(some 52), none, .p (.faddr 1), [.t 51]⟩ ::
 ⟨(some 53), none, .r .load1, [.t 52]⟩ ::
 ⟨(some 54), none, .p .nilchk, [.t 44]⟩ ::
 ⟨(some 55), none, .p (.faddr 1), [.t 54]⟩ ::
 ⟨none, none, .e (.store 1), [.t 55, .t 49]⟩ ::
 ⟨(some 56), none, .p .nilchk, [.t 45]⟩ ::
 ⟨(some 57), none, .p (.faddr 2), [.t 56]⟩ ::
 ⟨none, none, .e (.store 1), [.t 57, .t 53]⟩ ::
 []) ([] :: [] :: [] :: [] :: [] :: [] :: [] :: [] :: [] :: [] :: [] :: [] :: [] :: [] :: [] :: [] :: []))
(.dops (⟨(some 58), none, .p .mov, [.t 1]⟩ ::
 ⟨(some 59), none, .p .mov, [.t 1]⟩ ::
 ⟨(some 60), none, .p (.faddr 0), [.t 5]⟩ ::
 ⟨(some 61), none, .r .load1, [.t 60]⟩ ::
 ⟨(some 62), none, .p .mov, [.t 6]⟩ ::
 ⟨(some 63), none, .p .nilchk, [.t 62]⟩ ::
 ⟨(some 64), none, .p (.faddr 0), [.t 63]⟩ ::
 ⟨(some 65), none, .r .load1, [.t 64]⟩ ::
 ⟨(some 66), none, .p (.bin .add), [.t 61, .t 65]⟩ ::
 ⟨(some 67), none, .p .nilchk, [.t 58]⟩ ::
 ⟨(some 68), none, .p (.faddr 4), [.t 67]⟩ ::
 ⟨none, none, .e (.store 1), [.t 68, .c (.int .i64 0)]⟩ ::
 ⟨(some 69), none, .p .nilchk, [.t 59]⟩ ::
 ⟨(some 70), none, .p (.faddr 3), [.t 69]⟩ ::
 ⟨none, none, .e (.store 1), [.t 70, .t 66]⟩ ::
 []) ([] :: [] :: [] :: [0, 12] :: [] :: [] :: [] :: [] :: [] :: [] :: [] :: [] :: [] :: [] :: [] :: []))))))⟩
abbrev f_judge_look_turn : Nat := 89
abbrev C_judge_look_turn : AFunc := C89
def C90 : AFunc := ⟨53, [],
(.seq (.ops (⟨(some 4), none, .a .box, [.t 1]⟩ ::
 ⟨(some 5), none, .a .box, [.t 2]⟩ ::
 []))
(.seq (.dops (⟨(some 7), none, .p .mov, [.t 0]⟩ ::
 ⟨(some 8), none, .p (.faddr 3), [.t 4]⟩ ::
 ⟨(some 9), none, .r .load1, [.t 8]⟩ ::
 ⟨(some 10), none, .p .nilchk, [.t 7]⟩ ::
 ⟨(some 11), none, .p (.faddr 5), [.t 10]⟩ ::
 ⟨(some 12), none, .p (.iaddrA 4 4), [.t 11, .t 9]⟩ ::
 ⟨(some 13), none, .r (.loadN 4), [.t 12]⟩ ::
 ⟨(some 6), none, .a (.alloc [(.bool false), (.int .i64 0), (.int .i64 0), (.int .i64 0)]), []⟩ ::
 ⟨none, none, .e (.store 4), [.t 6, .t 13]⟩ ::
 []) ([] :: [] :: [] :: [] :: [] :: [] :: [] :: [] :: [] :: []))
(.seq (.seq (.ops (⟨(some 14), none, .p (.faddr 1), [.t 4]⟩ ::
 ⟨(some 15), none, .r .load1, [.t 14]⟩ ::
 ⟨(some 16), none, .p (.bin .eql), [.t 15, .c (.int .i64 2)]⟩ ::
 []))
(.cond (.t 16)
(.seq (.ops (⟨(some 17), none, .p (.faddr 5), [.t 4]⟩ ::
 ⟨(some 18), none, .r .load1, [.t 17]⟩ ::
 ⟨(some 19), none, .p (.bin .neq), [.t 18, .c (.int .i64 0)]⟩ ::
 ⟨(some 20), none, .p .mov, [.t 19]⟩ ::
 ⟨(some 21), (some (20, false)), .p (.faddr 0), [.t 4]⟩ ::
 ⟨(some 22), (some (20, false)), .r .load1, [.t 21]⟩ ::
 ⟨(some 23), (some (20, false)), .p (.faddr 3), [.t 6]⟩ ::
 ⟨(some 24), (some (20, false)), .r .load1, [.t 23]⟩ ::
 ⟨(some 25), (some (20, false)), .p (.bin .geq), [.t 22, .t 24]⟩ ::
 ⟨(some 26), none, .p .pick, [.t 20, .c (.bool true), .t 25]⟩ ::
 ⟨(some 27), none, .call, [.c (.func (.func 84) [] []), .t 26, .c (.int .i64 6)]⟩ ::
 []))
.ret)
.skip))
(.seq (.ops (⟨(some 28), none, .p (.faddr 1), [.t 4]⟩ ::
 ⟨(some 29), none, .r .load1, [.t 28]⟩ ::
 ⟨(some 30), none, .p (.bin .eql), [.t 29, .c (.int .i64 4)]⟩ ::
 ⟨(some 31), none, .p .mov, [.t 30]⟩ ::
 ⟨(some 32), (some (31, false)), .p (.faddr 0), [.t 4]⟩ ::
 ⟨(some 33), (some (31, false)), .r .load1, [.t 32]⟩ ::
 ⟨(some 34), (some (31, false)), .p (.faddr 1), [.t 6]⟩ ::
 ⟨(some 35), (some (31, false)), .r .load1, [.t 34]⟩ ::
 ⟨(some 36), (some (31, false)), .p (.faddr 1), [.t 5]⟩ ::
 ⟨(some 37), (some (31, false)), .r .load1, [.t 36]⟩ ::
 ⟨(some 38), (some (31, false)), .p (.bin .add), [.t 35, .t 37]⟩ ::
 ⟨(some 39), (some (31, false)), .p (.bin .lss), [.t 33, .t 38]⟩ ::
 ⟨(some 40), none, .p .pick, [.t 31, .c (.bool true), .t 39]⟩ ::
 ⟨(some 41), none, .call, [.c (.func (.func 84) [] []), .t 40, .c (.int .i64 7)]⟩ ::
 []))
(.ops (⟨(some 42), none, .p (.faddr 1), [.t 4]⟩ ::
 ⟨(some 43), none, .r .load1, [.t 42]⟩ ::
 ⟨(some 44), none, .p (.bin .neq), [.t 43, .c (.int .i64 1)]⟩ ::
 ⟨(some 45), none, .p .mov, [.t 44]⟩ ::
 ⟨(some 46), (some (45, false)), .p (.faddr 2), [.t 6]⟩ ::
 ⟨(some 47), (some (45, false)), .r .load1, [.t 46]⟩ ::
 ⟨(some 48), (some (45, false)), .p (.faddr 2), [.t 5]⟩ ::
 ⟨(some 49), (some (45, false)), .r .load1, [.t 48]⟩ ::
 ⟨(some 50), (some (45, false)), .p (.bin .lss), [.t 47, .t 49]⟩ ::
 ⟨(some 51), none, .p .pick, [.t 45, .c (.bool true), .t 50]⟩ ::
 ⟨(some 52), none, .call, [.c (.func (.func 84) [] []), .t 51, .c (.int .i64 7)]⟩ ::
 []))))))⟩
abbrev f_judge_part_timely : Nat := 90
abbrev C_judge_part_timely : AFunc := C90
def L_judge_look_shares_0 : AC := (.seq (.ops (⟨(some 82), none, .p (.bin .lss), [.t 81, .t 80]⟩ ::
 []))
(.seq (.cond (.t 82)
.skip
(.exit 1))
(.seq (.block 2 (.seq (.ops (⟨(some 83), none, .p .mov, [.t 81]⟩ ::
 ⟨(some 84), none, .p (.iaddrS 23), [.t 79, .t 81]⟩ ::
 ⟨(some 85), none, .r (.loadN 23), [.t 84]⟩ ::
 ⟨(some 8), none, .a (.alloc [(.bool false), (.int .i64 0), (.int .i64 0), (.int .i64 0), (.int .i64 0), (.bool false), (.int .i64 0), (.int .i64 0), (.int .i64 0), (.bool false), (.int .i64 0), (.int .i64 0), (.int .i64 0), (.bool false), (.int .i64 0), (.int .i64 0), (.int .i64 0), (.bool false), (.int .i64 0), (.int .i64 0), (.int .i64 0), (.bool false), (.int .i64 0)]), []⟩ ::
 ⟨(some 7), none, .p .mov, [.t 83]⟩ ::
 ⟨none, none, .e (.store 23), [.t 8, .t 85]⟩ ::
 []))
(.seq (.dops (⟨(some 86), none, .p .mov, [.t 7]⟩ ::
 ⟨(some 87), none, .p (.faddr 2), [.t 3]⟩ ::
 ⟨(some 88), none, .r .load1, [.t 87]⟩ ::
 ⟨(some 89), none, .p (.bin .neq), [.t 86, .t 88]⟩ ::
 ⟨(some 90), none, .p .mov, [.t 89]⟩ ::
 ⟨(some 91), (some (90, true)), .p (.faddr 21), [.t 8]⟩ ::
 ⟨(some 92), (some (90, true)), .r .load1, [.t 91]⟩ ::
 ⟨(some 93), none, .p .pick, [.t 90, .t 92, .c (.bool false)]⟩ ::
 ⟨(some 94), none, .p .mov, [.t 93]⟩ ::
 ⟨(some 95), (some (94, true)), .p .mov, [.t 0]⟩ ::
 ⟨(some 96), (some (94, true)), .p .nilchk, [.t 95]⟩ ::
 ⟨(some 97), (some (94, true)), .p (.faddr 0), [.t 96]⟩ ::
 ⟨(some 98), (some (94, true)), .p (.faddr 0), [.t 97]⟩ ::
 ⟨(some 99), (some (94, true)), .r .load1, [.t 98]⟩ ::
 ⟨(some 100), (some (94, true)), .p .mov, [.t 7]⟩ ::
 ⟨(some 101), (some (94, true)), .p (.iaddrS 3), [.t 99, .t 100]⟩ ::
 ⟨(some 102), (some (94, true)), .p (.faddr 2), [.t 101]⟩ ::
 ⟨(some 103), (some (94, true)), .r .load1, [.t 102]⟩ ::
 ⟨(some 104), (some (94, true)), .p (.faddr 22), [.t 8]⟩ ::
 ⟨(some 105), (some (94, true)), .r .load1, [.t 104]⟩ ::
 ⟨(some 106), (some (94, true)), .p (.iaddrS 8), [.t 103, .t 105]⟩ ::
 ⟨(some 107), (some (94, true)), .p (.faddr 5), [.t 106]⟩ ::
 ⟨(some 108), (some (94, true)), .r .load1, [.t 107]⟩ ::
 ⟨(some 109), (some (94, true)), .p .mov, [.t 6]⟩ ::
 ⟨(some 110), (some (94, true)), .p (.bin .eql), [.t 108, .t 109]⟩ ::
 ⟨(some 111), none, .p .pick, [.t 94, .t 110, .c (.bool false)]⟩ ::
 []) ([] :: [] :: [] :: [] :: [] :: [] :: [] :: [] :: [] :: [] :: [] :: [] :: [] :: [] :: [] :: [] :: [] :: [] :: [] :: [] :: [] :: [] :: [] :: [] :: [] :: [] :: []))
(.cond (.t 111)
(.seq (.ops (⟨(some 4), none, .p .mov, [.c (.bool false)]⟩ ::
 []))
.ret)
.skip))))
(.ops (⟨(some 112), none, .p (.bin .add), [.t 81, .c (.int .i64 1)]⟩ ::
 ⟨(some 81), none, .p .mov, [.t 112]⟩ ::
 [])))))
def C91 : AFunc := ⟨122, [.tmp 4],
(.seq (.ops (⟨(some 3), none, .a .box, [.t 1]⟩ ::
 ⟨(some 4), none, .p .mov, [.c (.bool false)]⟩ ::
 []))
(.seq (.dops (⟨(some 9), none, .p .mov, [.t 0]⟩ ::
 ⟨(some 10), none, .p (.faddr 2), [.t 3]⟩ ::
 ⟨(some 11), none, .r .load1, [.t 10]⟩ ::
 ⟨(some 12), none, .p .nilchk, [.t 9]⟩ ::
 ⟨(some 13), none, .p (.faddr 2), [.t 12]⟩ ::
 ⟨(some 14), none, .p (.iaddrA 23 4), [.t 13, .t 11]⟩ ::
 ⟨(some 5), none, .p .mov, [.t 14]⟩ ::
 []) ([] :: [] :: [] :: [] :: [] :: [] :: [] :: []))
(.seq (.block 0 (.seq (.ops (⟨(some 16), none, .p (.faddr 1), [.t 3]⟩ ::
 ⟨(some 17), none, .r .load1, [.t 16]⟩ ::
 ⟨(some 18), none, .p (.bin .eql), [.t 17, .c (.int .i64 1)]⟩ ::
 ⟨(some 15), none, .p .mov, [.t 18]⟩ ::
 []))
(.cond (.t 15)
(.seq (.dops (⟨(some 19), none, .p .mov, [.t 5]⟩ ::
 ⟨(some 20), none, .p .nilchk, [.t 19]⟩ ::
 ⟨(some 21), none, .p (.faddr 21), [.t 20]⟩ ::
 ⟨(some 22), none, .r .load1, [.t 21]⟩ ::
 ⟨(some 23), none, .p .not, [.t 22]⟩ ::
 ⟨(some 24), none, .p .mov, [.t 23]⟩ ::
 ⟨(some 25), (some (24, false)), .p .mov, [.t 5]⟩ ::
 ⟨(some 26), (some (24, false)), .p .nilchk, [.t 25]⟩ ::
 ⟨(some 27), (some (24, false)), .p (.faddr 22), [.t 26]⟩ ::
 ⟨(some 28), (some (24, false)), .r .load1, [.t 27]⟩ ::
 ⟨(some 29), (some (24, false)), .p (.faddr 3), [.t 3]⟩ ::
 ⟨(some 30), (some (24, false)), .r .load1, [.t 29]⟩ ::
 ⟨(some 31), (some (24, false)), .p (.bin .eql), [.t 28, .t 30]⟩ ::
 ⟨(some 32), none, .p .pick, [.t 24, .c (.bool true), .t 31]⟩ ::
 ⟨(some 4), none, .p .mov, [.t 32]⟩ ::
 []) ([] :: [] :: [] :: [] :: [] :: [] :: [] :: [] :: [] :: [] :: [] :: [] :: [] :: [] :: [] :: []))
.ret)
(.seq (.ops (⟨(some 34), none, .p (.faddr 1), [.t 3]⟩ ::
 ⟨(some 35), none, .r .load1, [.t 34]⟩ ::
 ⟨(some 36), none, .p (.bin .neq), [.t 35, .c (.int .i64 5)]⟩ ::
 ⟨(some 37), none, .p .mov, [.t 36]⟩ ::
 ⟨(some 38), (some (37, false)), .p (.faddr 5), [.t 3]⟩ ::
 ⟨(some 39), (some (37, false)), .r .load1, [.t 38]⟩ ::
 ⟨(some 40), (some (37, false)), .p (.bin .neq), [.t 39, .c (.int .i64 0)]⟩ ::
 ⟨(some 41), none, .p .pick, [.t 37, .c (.bool true), .t 40]⟩ ::
 ⟨(some 33), none, .p .mov, [.t 41]⟩ ::
 []))
(.cond (.t 33)
(.seq (.ops (⟨(some 4), none, .p .mov, [.c (.bool true)]⟩ ::
 []))
.ret)
(.seq (.ops (⟨(some 43), none, .p (.faddr 4), [.t 3]⟩ ::
 ⟨(some 44), none, .r .load1, [.t 43]⟩ ::
 ⟨(some 45), none, .p (.bin .eql), [.t 44, .c (.int .i64 5)]⟩ ::
 ⟨(some 42), none, .p .mov, [.t 45]⟩ ::
 []))
(.cond (.t 42)
(.seq (.dops (⟨(some 46), none, .p .mov, [.t 5]⟩ ::
 ⟨(some 47), none, .p .nilchk, [.t 46]⟩ ::
 ⟨(some 48), none, .p (.faddr 21), [.t 47]⟩ ::
 ⟨(some 49), none, .r .load1, [.t 48]⟩ ::
 ⟨(some 50), none, .p .mov, [.t 49]⟩ ::
 ⟨(some 51), (some (50, true)), .p .mov, [.t 5]⟩ ::
 ⟨(some 52), (some (50, true)), .p .nilchk, [.t 51]⟩ ::
 ⟨(some 53), (some (50, true)), .p (.faddr 22), [.t 52]⟩ ::
 ⟨(some 54), (some (50, true)), .r .load1, [.t 53]⟩ ::
 ⟨(some 55), (some (50, true)), .p (.faddr 3), [.t 3]⟩ ::
 ⟨(some 56), (some (50, true)), .r .load1, [.t 55]⟩ ::
 ⟨(some 57), (some (50, true)), .p (.bin .eql), [.t 54, .t 56]⟩ ::
 ⟨(some 58), none, .p .pick, [.t 50, .t 57, .c (.bool false)]⟩ ::
 ⟨(some 4), none, .p .mov, [.t 58]⟩ ::
 []) ([] :: [] :: [] :: [] :: [] :: [] :: [] :: [] :: [] :: [] :: [] :: [] :: [] :: [] :: []))
.ret)
(.seq (.ops (⟨(some 60), none, .p (.faddr 4), [.t 3]⟩ ::
 ⟨(some 61), none, .r .load1, [.t 60]⟩ ::
 ⟨(some 62), none, .p (.bin .neq), [.t 61, .c (.int .i64 4)]⟩ ::
 ⟨(some 59), none, .p .mov, [.t 62]⟩ ::
 []))
(.cond (.t 59)
(.seq (.ops (⟨(some 4), none, .p .mov, [.c (.bool true)]⟩ ::
 []))
.ret)
.skip)))))))))
(.seq (.dops (⟨(some 63), none, .p .mov, [.t 0]⟩ ::
 ⟨(some 64), none, .p .nilchk, [.t 63]⟩ ::
 ⟨(some 65), none, .p (.faddr 0), [.t 64]⟩ ::
 ⟨(some 66), none, .p (.faddr 0), [.t 65]⟩ ::
 ⟨(some 67), none, .r .load1, [.t 66]⟩ ::
 ⟨(some 68), none, .p (.faddr 2), [.t 3]⟩ ::
 ⟨(some 69), none, .r .load1, [.t 68]⟩ ::
 ⟨(some 70), none, .p (.iaddrS 3), [.t 67, .t 69]⟩ ::
 ⟨(some 71), none, .p (.faddr 2), [.t 70]⟩ ::
 ⟨(some 72), none, .r .load1, [.t 71]⟩ ::
 ⟨(some 73), none, .p (.faddr 3), [.t 3]⟩ ::
 ⟨(some 74), none, .r .load1, [.t 73]⟩ ::
 ⟨(some 75), none, .p (.iaddrS 8), [.t 72, .t 74]⟩ ::
 ⟨(some 76), none, .p (.faddr 5), [.t 75]⟩ ::
 ⟨(some 77), none, .r .load1, [.t 76]⟩ ::
 ⟨(some 6), none, .p .mov, [.t 77]⟩ ::
 []) ([] :: [] :: [] :: [] :: [] :: [] :: [] :: [] :: [] :: [] :: [] :: [] :: [] :: [] :: [] :: [] :: []))
(.seq (.seq (.ops (⟨(some 78), none, .p .mov, [.t 0]⟩ ::
 ⟨(some 79), none, .call, [.c (.func (.func 101) [] []), .t 78]⟩ ::
 ⟨(some 80), none, .p .lenS, [.t 79]⟩ ::
 ⟨(some 81), none, .p .mov, [.c (.int .i64 0)]⟩ ::
 []))
(.block 1 (.loop L_judge_look_shares_0)))
(.seq (.ops (⟨(some 113), none, .p .mov, [.t 5]⟩ ::
 ⟨(some 114), none, .p .nilchk, [.t 113]⟩ ::
 ⟨(some 115), none, .p (.faddr 21), [.t 114]⟩ ::
 ⟨(some 116), none, .r .load1, [.t 115]⟩ ::
 ⟨(some 117), none, .p .not, [.t 116]⟩ ::
 ⟨(some 118), none, .p .mov, [.t 117]⟩ ::
 ⟨(some 119), (some (118, true)), .p .mov, [.t 6]⟩ ::
 ⟨(some 120), (some (118, true)), .p (.bin .gtr), [.t 119, .c (.int .i64 0)]⟩ ::
 ⟨(some 121), none, .p .pick, [.t 118, .t 120, .c (.bool false)]⟩ ::
 ⟨(some 4), none, .p .mov, [.t 121]⟩ ::
 []))
.ret))))))⟩
abbrev f_judge_look_shares : Nat := 91
abbrev C_judge_look_shares : AFunc := C91
def C92 : AFunc := ⟨87, [],
(.seq (.ops (⟨(some 4), none, .a .box, [.t 1]⟩ ::
 ⟨(some 5), none, .a .box, [.t 2]⟩ ::
 []))
(.seq (.dops (⟨(some 7), none, .p .mov, [.t 0]⟩ ::
 ⟨(some 8), none, .p (.faddr 3), [.t 4]⟩ ::
 ⟨(some 9), none, .r .load1, [.t 8]⟩ ::
 ⟨(some 10), none, .p .nilchk, [.t 7]⟩ ::
 ⟨(some 11), none, .p (.faddr 5), [.t 10]⟩ ::
 ⟨(some 12), none, .p (.iaddrA 4 4), [.t 11, .t 9]⟩ ::
 ⟨(some 6), none, .p .mov, [.t 12]⟩ ::
 []) ([] :: [] :: [] :: [] :: [] :: [] :: [] :: []))
(.seq (.ops (⟨(some 13), none, .p (.faddr 1), [.t 4]⟩ ::
 ⟨(some 14), none, .r .load1, [.t 13]⟩ ::
 []))
(.block 0 (.seq (.ops (⟨(some 16), none, .p (.bin .eql), [.t 14, .c (.int .i64 1)]⟩ ::
 ⟨(some 15), none, .p .mov, [.t 16]⟩ ::
 []))
(.cond (.t 15)
(.ops (⟨(some 17), none, .p .mov, [.t 6]⟩ ::
 ⟨(some 18), none, .p .nilchk, [.t 17]⟩ ::
 ⟨(some 19), none, .p (.faddr 2), [.t 18]⟩ ::
 ⟨(some 20), none, .r .load1, [.t 19]⟩ ::
 ⟨(some 21), none, .p (.bin .add), [.t 20, .c (.int .i64 1)]⟩ ::
 ⟨(some 22), none, .p .nilchk, [.t 17]⟩ ::
 ⟨(some 23), none, .p (.faddr 2), [.t 22]⟩ ::
 ⟨none, none, .e (.store 1), [.t 23, .t 21]⟩ ::
 []))
(.seq (.ops (⟨(some 25), none, .p (.bin .eql), [.t 14, .c (.int .i64 2)]⟩ ::
 ⟨(some 24), none, .p .mov, [.t 25]⟩ ::
 []))
(.cond (.t 24)
(.seq (.ops (⟨(some 26), none, .p (.faddr 5), [.t 4]⟩ ::
 ⟨(some 27), none, .r .load1, [.t 26]⟩ ::
 ⟨(some 28), none, .p (.bin .eql), [.t 27, .c (.int .i64 0)]⟩ ::
 []))
(.cond (.t 28)
(.ops (⟨(some 29), none, .p .mov, [.t 6]⟩ ::
 ⟨(some 30), none, .p (.faddr 0), [.t 4]⟩ ::
 ⟨(some 31), none, .r .load1, [.t 30]⟩ ::
 ⟨(some 32), none, .p (.faddr 0), [.t 4]⟩ ::
 ⟨(some 33), none, .r .load1, [.t 32]⟩ ::
 ⟨(some 34), none, .p (.faddr 0), [.t 5]⟩ ::
 ⟨(some 35), none, .r .load1, [.t 34]⟩ ::
 ⟨(some 36), none, .p (.bin .add), [.t 33, .t 35]⟩ ::
 ⟨(some 37), none, .p (.build [(.bool false), (.int .i64 0), (.int .i64 0), (.int .i64 0)] [(0, 1), (1, 1), (3, 1)]), [.c (.bool true), .t 31, .t 36]⟩ ::
 ⟨(some 38), none, .p .nilchk, [.t 29]⟩ ::
 ⟨none, none, .e (.store 4), [.t 38, .t 37]⟩ ::
 []))
.skip))
(.seq (.seq (.ops (⟨(some 40), none, .p (.bin .eql), [.t 14, .c (.int .i64 3)]⟩ ::
 ⟨(some 39), none, .p .mov, [.t 40]⟩ ::
 []))
(.cond (.t 39)
.skip
(.ops (⟨(some 41), none, .p (.bin .eql), [.t 14, .c (.int .i64 4)]⟩ ::
 ⟨(some 39), none, .p .mov, [.t 41]⟩ ::
 []))))
(.cond (.t 39)
(.seq (.ops (⟨(some 42), none, .p .mov, [.t 6]⟩ ::
 ⟨(some 43), none, .p .nilchk, [.t 42]⟩ ::
 ⟨(some 44), none, .p (.faddr 0), [.t 43]⟩ ::
 ⟨none, none, .e (.store 1), [.t 44, .c (.bool false)]⟩ ::
 []))
(.dops (⟨(some 45), none, .p .mov, [.t 0]⟩ ::
 ⟨(some 46), none, .p .mov, [.t 0]⟩ ::
 ⟨(some 47), none, .p .nilchk, [.t 46]⟩ ::
 ⟨(some 48), none, .p (.faddr 21), [.t 47]⟩ ::
 ⟨(some 49), none, .r .load1, [.t 48]⟩ ::
 ⟨(some 50), none, .p .mov, [.t 49]⟩ ::
 ⟨(some 51), (some (50, true)), .p .mov, [.t 0]⟩ ::
 ⟨(some 52), (some (50, true)), .p .nilchk, [.t 51]⟩ ::
 ⟨(some 53), (some (50, true)), .p (.faddr 22), [.t 52]⟩ ::
 ⟨(some 54), (some (50, true)), .r .load1, [.t 53]⟩ ::
 ⟨(some 55), (some (50, true)), .p (.faddr 3), [.t 4]⟩ ::
 ⟨(some 56), (some (50, true)), .r .load1, [.t 55]⟩ ::
 ⟨(some 57), (some (50, true)), .p (.bin .neq), [.t 54, .t 56]⟩ ::
 ⟨(some 58), none, .p .pick, [.t 50, .t 57, .c (.bool false)]⟩ ::
 ⟨(some 59), none, .p .nilchk, [.t 45]⟩ ::
 ⟨(some 60), none, .p (.faddr 21), [.t 59]⟩ ::
 ⟨none, none, .e (.store 1), [.t 60, .t 58]⟩ ::
 []) ([] :: [] :: [] :: [] :: [] :: [] :: [] :: [] :: [] :: [] :: [] :: [] :: [] :: [] :: [] :: [] :: [] :: [])))
(.seq (.ops (⟨(some 62), none, .p (.bin .eql), [.t 14, .c (.int .i64 5)]⟩ ::
 ⟨(some 61), none, .p .mov, [.t 62]⟩ ::
 []))
(.cond (.t 61)
(.seq (.ops (⟨(some 63), none, .p (.faddr 5), [.t 4]⟩ ::
 ⟨(some 64), none, .r .load1, [.t 63]⟩ ::
 ⟨(some 65), none, .p (.bin .eql), [.t 64, .c (.int .i64 0)]⟩ ::
 ⟨(some 66), none, .p .mov, [.t 65]⟩ ::
 ⟨(some 67), (some (66, true)), .p (.faddr 4), [.t 4]⟩ ::
 ⟨(some 68), (some (66, true)), .r .load1, [.t 67]⟩ ::
 ⟨(some 69), (some (66, true)), .p (.bin .eql), [.t 68, .c (.int .i64 4)]⟩ ::
 ⟨(some 70), (some (66, true)), .p .mov, [.t 69]⟩ ::
 ⟨(some 71), (some (70, false)), .p (.faddr 4), [.t 4]⟩ ::
 ⟨(some 72), (some (70, false)), .r .load1, [.t 71]⟩ ::
 ⟨(some 73), (some (70, false)), .p (.bin .eql), [.t 72, .c (.int .i64 5)]⟩ ::
 ⟨(some 74), (some (66, true)), .p .pick, [.t 70, .c (.bool true), .t 73]⟩ ::
 ⟨(some 75), none, .p .pick, [.t 66, .t 74, .c (.bool false)]⟩ ::
 []))
(.cond (.t 75)
(.dops (⟨(some 76), none, .p .mov, [.t 0]⟩ ::
 ⟨(some 77), none, .p .mov, [.t 0]⟩ ::
 ⟨(some 78), none, .p (.faddr 4), [.t 4]⟩ ::
 ⟨(some 79), none, .r .load1, [.t 78]⟩ ::
 ⟨(some 80), none, .p (.bin .eql), [.t 79, .c (.int .i64 4)]⟩ ::
 ⟨(some 81), none, .p (.faddr 3), [.t 4]⟩ ::
 ⟨(some 82), none, .r .load1, [.t 81]⟩ ::
 ⟨(some 83), none, .p .nilchk, [.t 76]⟩ ::
 ⟨(some 84), none, .p (.faddr 21), [.t 83]⟩ ::
 ⟨none, none, .e (.store 1), [.t 84, .t 80]⟩ ::
 ⟨(some 85), none, .p .nilchk, [.t 77]⟩ ::
 ⟨(some 86), none, .p (.faddr 22), [.t 85]⟩ ::
 ⟨none, none, .e (.store 1), [.t 86, .t 82]⟩ ::
 []) ([] :: [] :: [] :: [] :: [] :: [] :: [0, 10] :: [] :: [] :: [] :: [] :: [] :: [] :: []))
.skip))
.skip))))))))))))⟩
abbrev f_judge_part_does : Nat := 92
abbrev C_judge_part_does : AFunc := C92
def L_judge_look_by_0 : AC := (.seq (.ops (⟨(some 10), none, .p (.bin .lss), [.t 9, .t 8]⟩ ::
 []))
(.seq (.cond (.t 10)
.skip
(.exit 0))
(.seq (.block 1 (.seq (.ops (⟨(some 11), none, .p (.iaddrS 23), [.t 7, .t 9]⟩ ::
 ⟨(some 12), none, .r (.loadN 23), [.t 11]⟩ ::
 ⟨(some 3), none, .a (.alloc [(.bool false), (.int .i64 0), (.int .i64 0), (.int .i64 0), (.int .i64 0), (.bool false), (.int .i64 0), (.int .i64 0), (.int .i64 0), (.bool false), (.int .i64 0), (.int .i64 0), (.int .i64 0), (.bool false), (.int .i64 0), (.int .i64 0), (.int .i64 0), (.bool false), (.int .i64 0), (.int .i64 0), (.int .i64 0), (.bool false), (.int .i64 0)]), []⟩ ::
 ⟨none, none, .e (.store 23), [.t 3, .t 12]⟩ ::
 []))
(.ops (⟨(some 13), none, .p (.faddr 0), [.t 3]⟩ ::
 ⟨(some 14), none, .r .load1, [.t 13]⟩ ::
 ⟨(some 15), none, .p .not, [.t 14]⟩ ::
 ⟨(some 16), none, .p .mov, [.t 15]⟩ ::
 ⟨(some 17), (some (16, false)), .p (.faddr 21), [.t 3]⟩ ::
 ⟨(some 18), (some (16, false)), .r .load1, [.t 17]⟩ ::
 ⟨(some 19), (some (16, false)), .p .not, [.t 18]⟩ ::
 ⟨(some 20), none, .p .pick, [.t 16, .c (.bool true), .t 19]⟩ ::
 ⟨(some 21), none, .p .mov, [.t 20]⟩ ::
 ⟨(some 22), (some (21, false)), .call, [.c (.func (.func 102) [] []), .t 3]⟩ ::
 ⟨(some 23), none, .p .pick, [.t 21, .c (.bool true), .t 22]⟩ ::
 ⟨(some 24), none, .call, [.c (.func (.func 84) [] []), .t 23, .c (.int .i64 8)]⟩ ::
 []))))
(.ops (⟨(some 25), none, .p (.bin .add), [.t 9, .c (.int .i64 1)]⟩ ::
 ⟨(some 9), none, .p .mov, [.t 25]⟩ ::
 [])))))
def L_judge_look_by_1 : AC := (.seq (.ops (⟨(some 59), none, .p (.bin .lss), [.t 58, .t 57]⟩ ::
 []))
(.seq (.cond (.t 59)
.skip
(.exit 2))
(.seq (.block 3 (.seq (.ops (⟨(some 60), none, .p .mov, [.t 58]⟩ ::
 ⟨(some 4), none, .p .mov, [.t 60]⟩ ::
 []))
(.seq (.ops (⟨(some 61), none, .p .mov, [.t 0]⟩ ::
 ⟨(some 62), none, .p .mov, [.t 4]⟩ ::
 ⟨(some 63), none, .p .nilchk, [.t 61]⟩ ::
 ⟨(some 64), none, .p (.faddr 2), [.t 63]⟩ ::
 ⟨(some 65), none, .p (.iaddrA 23 4), [.t 64, .t 62]⟩ ::
 ⟨(some 5), none, .p .mov, [.t 65]⟩ ::
 []))
(.seq (.dops (⟨(some 66), none, .p .mov, [.t 5]⟩ ::
 ⟨(some 67), none, .p .nilchk, [.t 66]⟩ ::
 ⟨(some 68), none, .p (.faddr 0), [.t 67]⟩ ::
 ⟨(some 69), none, .r .load1, [.t 68]⟩ ::
 ⟨(some 70), none, .p .mov, [.t 69]⟩ ::
 ⟨(some 71), (some (70, true)), .p .mov, [.t 5]⟩ ::
 ⟨(some 72), (some (70, true)), .p .nilchk, [.t 71]⟩ ::
 ⟨(some 73), (some (70, true)), .p (.faddr 3), [.t 72]⟩ ::
 ⟨(some 74), (some (70, true)), .r .load1, [.t 73]⟩ ::
 ⟨(some 75), (some (70, true)), .p .mov, [.t 0]⟩ ::
 ⟨(some 76), (some (70, true)), .p .nilchk, [.t 75]⟩ ::
 ⟨(some 77), (some (70, true)), .p (.faddr 95), [.t 76]⟩ ::
 ⟨(some 78), (some (70, true)), .r .load1, [.t 77]⟩ ::
 ⟨(some 79), (some (70, true)), .p (.bin .eql), [.t 74, .t 78]⟩ ::
 ⟨(some 80), none, .p .pick, [.t 70, .t 79, .c (.bool false)]⟩ ::
 []) ([] :: [] :: [] :: [] :: [] :: [] :: [] :: [] :: [] :: [] :: [] :: [] :: [] :: [] :: [] :: []))
(.cond (.t 80)
(.seq (.dops (⟨(some 81), none, .p .mov, [.t 5]⟩ ::
 ⟨(some 82), none, .p .nilchk, [.t 81]⟩ ::
 ⟨(some 83), none, .p (.faddr 4), [.t 82]⟩ ::
 ⟨(some 84), none, .r .load1, [.t 83]⟩ ::
 ⟨(some 85), none, .p .mov, [.t 5]⟩ ::
 ⟨(some 86), none, .p .nilchk, [.t 85]⟩ ::
 ⟨(some 87), none, .p (.faddr 2), [.t 86]⟩ ::
 ⟨(some 88), none, .r .load1, [.t 87]⟩ ::
 ⟨(some 89), none, .p (.bin .eql), [.t 84, .t 88]⟩ ::
 ⟨(some 90), none, .call, [.c (.func (.func 84) [] []), .t 89, .c (.int .i64 4)]⟩ ::
 []) ([] :: [] :: [] :: [] :: [] :: [] :: [] :: [] :: [] :: [] :: []))
(.dops (⟨(some 91), none, .p .mov, [.t 5]⟩ ::
 ⟨(some 92), none, .p .mov, [.t 5]⟩ ::
 ⟨(some 93), none, .p .mov, [.t 0]⟩ ::
 ⟨(some 94), none, .p .nilchk, [.t 93]⟩ ::
 ⟨(some 95), none, .p (.faddr 95), [.t 94]⟩ ::
 ⟨(some 96), none, .r .load1, [.t 95]⟩ ::
 ⟨(some 97), none, .p .mov, [.t 5]⟩ ::
 ⟨(some 98), none, .p .nilchk, [.t 97]⟩ ::
 ⟨(some 99), none, .p (.faddr 1), [.t 98]⟩ ::
 ⟨(some 100), none, .r .load1, [.t 99]⟩ ::
 ⟨(some 101), none, .p (.bin .add), [.t 96, .t 100]⟩ ::
 ⟨(some 102), none, .p .nilchk, [.t 91]⟩ ::
 ⟨(some 103), none, .p (.faddr 4), [.t 102]⟩ ::
 ⟨none, none, .e (.store 1), [.t 103, .c (.int .i64 0)]⟩ ::
 ⟨(some 104), none, .p .nilchk, [.t 92]⟩ ::
 ⟨(some 105), none, .p (.faddr 3), [.t 104]⟩ ::
 ⟨none, none, .e (.store 1), [.t 105, .t 101]⟩ ::
 []) ([] :: [] :: [] :: [] :: [] :: [] :: [] :: [] :: [] :: [] :: [] :: [] :: [] :: [] :: [] :: [] :: [] :: [])))
.skip)))))
(.ops (⟨(some 106), none, .p (.bin .add), [.t 58, .c (.int .i64 1)]⟩ ::
 ⟨(some 58), none, .p .mov, [.t 106]⟩ ::
 [])))))
def C93 : AFunc := ⟨107, [],
(.seq (.seq (.ops (⟨(some 6), none, .p .mov, [.t 0]⟩ ::
 ⟨(some 7), none, .call, [.c (.func (.func 101) [] []), .t 6]⟩ ::
 ⟨(some 8), none, .p .lenS, [.t 7]⟩ ::
 ⟨(some 9), none, .p .mov, [.c (.int .i64 0)]⟩ ::
 []))
(.block 0 (.loop L_judge_look_by_0)))
(.seq (.ops (⟨(some 26), none, .p .mov, [.t 0]⟩ ::
 ⟨(some 27), none, .p .nilchk, [.t 26]⟩ ::
 ⟨(some 28), none, .p (.faddr 96), [.t 27]⟩ ::
 ⟨(some 29), none, .r .load1, [.t 28]⟩ ::
 ⟨(some 30), none, .p .mov, [.t 29]⟩ ::
 ⟨(some 31), (some (30, false)), .p .mov, [.t 0]⟩ ::
 ⟨(some 32), (some (30, false)), .p .nilchk, [.t 31]⟩ ::
 ⟨(some 33), (some (30, false)), .p (.faddr 97), [.t 32]⟩ ::
 ⟨(some 34), (some (30, false)), .r .load1, [.t 33]⟩ ::
 ⟨(some 35), none, .p .pick, [.t 30, .c (.bool true), .t 34]⟩ ::
 ⟨(some 36), none, .p .mov, [.t 35]⟩ ::
 ⟨(some 37), (some (36, false)), .p .mov, [.t 0]⟩ ::
 ⟨(some 38), (some (36, false)), .call, [.c (.func (.func 86) [] []), .t 37]⟩ ::
 ⟨(some 39), (some (36, false)), .p (.bin .eql), [.t 38, .c (.int .i64 (-1))]⟩ ::
 ⟨(some 40), none, .p .pick, [.t 36, .c (.bool true), .t 39]⟩ ::
 ⟨(some 41), none, .call, [.c (.func (.func 84) [] []), .t 40, .c (.int .i64 3)]⟩ ::
 []))
(.seq (.ops (⟨(some 42), none, .p .mov, [.t 0]⟩ ::
 ⟨(some 43), none, .p .nilchk, [.t 42]⟩ ::
 ⟨(some 44), none, .p (.faddr 95), [.t 43]⟩ ::
 ⟨(some 45), none, .r .load1, [.t 44]⟩ ::
 ⟨(some 46), none, .p (.bin .add), [.t 45, .c (.int .i64 1)]⟩ ::
 ⟨(some 47), none, .p .nilchk, [.t 42]⟩ ::
 ⟨(some 48), none, .p (.faddr 95), [.t 47]⟩ ::
 ⟨none, none, .e (.store 1), [.t 48, .t 46]⟩ ::
 []))
(.seq (.ops (⟨(some 49), none, .p .mov, [.t 0]⟩ ::
 ⟨(some 50), none, .p .mov, [.t 0]⟩ ::
 ⟨(some 51), none, .p .nilchk, [.t 49]⟩ ::
 ⟨(some 52), none, .p (.faddr 96), [.t 51]⟩ ::
 ⟨none, none, .e (.store 1), [.t 52, .c (.bool false)]⟩ ::
 ⟨(some 53), none, .p .nilchk, [.t 50]⟩ ::
 ⟨(some 54), none, .p (.faddr 97), [.t 53]⟩ ::
 ⟨none, none, .e (.store 1), [.t 54, .c (.bool false)]⟩ ::
 []))
(.seq (.ops (⟨(some 55), none, .p .mov, [.t 0]⟩ ::
 ⟨(some 56), none, .call, [.c (.func (.func 101) [] []), .t 55]⟩ ::
 ⟨(some 57), none, .p .lenS, [.t 56]⟩ ::
 ⟨(some 58), none, .p .mov, [.c (.int .i64 0)]⟩ ::
 []))
(.block 2 (.loop L_judge_look_by_1)))))))⟩
abbrev f_judge_look_by : Nat := 93
abbrev C_judge_look_by : AFunc := C93
def L_slices_IndexFunc_api_Task_api_Task_0 : AC := (.seq (.ops (⟨(some 9), none, .p (.bin .lss), [.t 8, .t 7]⟩ ::
 []))
(.seq (.cond (.t 9)
.skip
(.exit 0))
(.seq (.block 1 (.seq (.ops (⟨(some 10), none, .p .mov, [.t 8]⟩ ::
 ⟨(some 5), none, .p .mov, [.t 10]⟩ ::
 []))
(.seq (.ops (⟨(some 11), none, .p .mov, [.t 1]⟩ ::
 ⟨(some 12), none, .p .mov, [.t 0]⟩ ::
 ⟨(some 13), none, .p .mov, [.t 5]⟩ ::
 ⟨(some 14), none, .p (.iaddrS 8), [.t 12, .t 13]⟩ ::
 ⟨(some 15), none, .r (.loadN 8), [.t 14]⟩ ::
 ⟨(some 16), none, .call, [.t 11, .t 15]⟩ ::
 []))
(.cond (.t 16)
(.seq (.ops (⟨(some 17), none, .p .mov, [.t 5]⟩ ::
 ⟨(some 4), none, .p .mov, [.t 17]⟩ ::
 []))
.ret)
.skip))))
(.ops (⟨(some 18), none, .p (.bin .add), [.t 8, .c (.int .i64 1)]⟩ ::
 ⟨(some 8), none, .p .mov, [.t 18]⟩ ::
 [])))))
def C100 : AFunc := ⟨19, [.tmp 4],
(.seq (.ops (⟨(some 4), none, .p .mov, [.c (.int .i64 0)]⟩ ::
 []))
(.seq (.seq (.ops (⟨(some 6), none, .p .mov, [.t 0]⟩ ::
 ⟨(some 7), none, .p .lenS, [.t 6]⟩ ::
 ⟨(some 8), none, .p .mov, [.c (.int .i64 0)]⟩ ::
 []))
(.block 0 (.loop L_slices_IndexFunc_api_Task_api_Task_0)))
(.seq (.ops (⟨(some 4), none, .p .mov, [.c (.int .i64 (-1))]⟩ ::
 []))
.ret)))⟩
abbrev f_slices_IndexFunc_api_Task_api_Task : Nat := 100
abbrev C_slices_IndexFunc_api_Task_api_Task : AFunc := C100
def C101 : AFunc := ⟨13, [.tmp 2],
(.seq (.ops (⟨(some 2), none, .p .mov, [.c .nils]⟩ ::
 []))
(.seq (.dops (⟨(some 3), none, .p .mov, [.t 0]⟩ ::
 ⟨(some 4), none, .p .nilchk, [.t 3]⟩ ::
 ⟨(some 5), none, .p (.faddr 2), [.t 4]⟩ ::
 ⟨(some 6), none, .p .mov, [.t 0]⟩ ::
 ⟨(some 7), none, .p .nilchk, [.t 6]⟩ ::
 ⟨(some 8), none, .p (.faddr 0), [.t 7]⟩ ::
 ⟨(some 9), none, .p (.faddr 0), [.t 8]⟩ ::
 ⟨(some 10), none, .r .load1, [.t 9]⟩ ::
 ⟨(some 11), none, .p .lenS, [.t 10]⟩ ::
 ⟨(some 12), none, .p (.sliceArr 23 4 false true false), [.t 5, .t 11]⟩ ::
 ⟨(some 2), none, .p .mov, [.t 12]⟩ ::
 []) ([] :: [] :: [] :: [] :: [] :: [] :: [] :: [] :: [] :: [] :: [] :: []))
.ret))⟩
abbrev f_judge_look_all : Nat := 101
abbrev C_judge_look_all : AFunc := C101
def C102 : AFunc := ⟨18, [.tmp 2],
(.seq (.ops (⟨(some 2), none, .p .mov, [.c (.bool false)]⟩ ::
 []))
(.seq (.dops (⟨(some 3), none, .p .mov, [.t 0]⟩ ::
 ⟨(some 4), none, .p .nilchk, [.t 3]⟩ ::
 ⟨(some 5), none, .p (.faddr 0), [.t 4]⟩ ::
 ⟨(some 6), none, .r .load1, [.t 5]⟩ ::
 ⟨(some 7), none, .p .mov, [.t 6]⟩ ::
 ⟨(some 8), (some (7, true)), .p .mov, [.t 0]⟩ ::
 ⟨(some 9), (some (7, true)), .p .nilchk, [.t 8]⟩ ::
 ⟨(some 10), (some (7, true)), .p (.faddr 4), [.t 9]⟩ ::
 ⟨(some 11), (some (7, true)), .r .load1, [.t 10]⟩ ::
 ⟨(some 12), (some (7, true)), .p .mov, [.t 0]⟩ ::
 ⟨(some 13), (some (7, true)), .p .nilchk, [.t 12]⟩ ::
 ⟨(some 14), (some (7, true)), .p (.faddr 2), [.t 13]⟩ ::
 ⟨(some 15), (some (7, true)), .r .load1, [.t 14]⟩ ::
 ⟨(some 16), (some (7, true)), .p (.bin .lss), [.t 11, .t 15]⟩ ::
 ⟨(some 17), none, .p .pick, [.t 7, .t 16, .c (.bool false)]⟩ ::
 ⟨(some 2), none, .p .mov, [.t 17]⟩ ::
 []) ([] :: [] :: [] :: [] :: [] :: [] :: [] :: [] :: [] :: [] :: [] :: [] :: [] :: [] :: [] :: [] :: []))
.ret))⟩
abbrev f_judge_part_left : Nat := 102
abbrev C_judge_part_left : AFunc := C102
def C103 : AFunc := ⟨9, [.tmp 4],
(.seq (.ops (⟨(some 4), none, .p .mov, [.c (.bool false)]⟩ ::
 []))
(.seq (.ops (⟨(some 5), none, .p .mov, [.t 0]⟩ ::
 ⟨(some 6), none, .p .mov, [.t 1]⟩ ::
 ⟨(some 7), none, .call, [.c (.func (.func 111) [] []), .t 5, .t 6]⟩ ::
 ⟨(some 8), none, .p (.bin .geq), [.t 7, .c (.int .i64 0)]⟩ ::
 ⟨(some 4), none, .p .mov, [.t 8]⟩ ::
 []))
.ret))⟩
abbrev f_slices_ContainsFunc_judge_job_judge_job : Nat := 103
abbrev C_slices_ContainsFunc_judge_job_judge_job : AFunc := C103
def C104 : AFunc := ⟨5, [.tmp 2],
(.seq (.ops (⟨(some 1), none, .a .box, [.t 0]⟩ ::
 ⟨(some 2), none, .p .mov, [.c (.bool false)]⟩ ::
 []))
(.seq (.ops (⟨(some 3), none, .p (.faddr 0), [.t 1]⟩ ::
 ⟨(some 4), none, .r .load1, [.t 3]⟩ ::
 ⟨(some 2), none, .p .mov, [.t 4]⟩ ::
 []))
.ret))⟩
abbrev f_judge_part_there_1 : Nat := 104
abbrev C_judge_part_there_1 : AFunc := C104
def L_slices_IndexFunc_judge_job_judge_job_0 : AC := (.seq (.ops (⟨(some 9), none, .p (.bin .lss), [.t 8, .t 7]⟩ ::
 []))
(.seq (.cond (.t 9)
.skip
(.exit 0))
(.seq (.block 1 (.seq (.ops (⟨(some 10), none, .p .mov, [.t 8]⟩ ::
 ⟨(some 5), none, .p .mov, [.t 10]⟩ ::
 []))
(.seq (.ops (⟨(some 11), none, .p .mov, [.t 1]⟩ ::
 ⟨(some 12), none, .p .mov, [.t 0]⟩ ::
 ⟨(some 13), none, .p .mov, [.t 5]⟩ ::
 ⟨(some 14), none, .p (.iaddrS 4), [.t 12, .t 13]⟩ ::
 ⟨(some 15), none, .r (.loadN 4), [.t 14]⟩ ::
 ⟨(some 16), none, .call, [.t 11, .t 15]⟩ ::
 []))
(.cond (.t 16)
(.seq (.ops (⟨(some 17), none, .p .mov, [.t 5]⟩ ::
 ⟨(some 4), none, .p .mov, [.t 17]⟩ ::
 []))
.ret)
.skip))))
(.ops (⟨(some 18), none, .p (.bin .add), [.t 8, .c (.int .i64 1)]⟩ ::
 ⟨(some 8), none, .p .mov, [.t 18]⟩ ::
 [])))))
def C111 : AFunc := ⟨19, [.tmp 4],
(.seq (.ops (⟨(some 4), none, .p .mov, [.c (.int .i64 0)]⟩ ::
 []))
(.seq (.seq (.ops (⟨(some 6), none, .p .mov, [.t 0]⟩ ::
 ⟨(some 7), none, .p .lenS, [.t 6]⟩ ::
 ⟨(some 8), none, .p .mov, [.c (.int .i64 0)]⟩ ::
 []))
(.block 0 (.loop L_slices_IndexFunc_judge_job_judge_job_0)))
(.seq (.ops (⟨(some 4), none, .p .mov, [.c (.int .i64 (-1))]⟩ ::
 []))
.ret)))⟩
abbrev f_slices_IndexFunc_judge_job_judge_job : Nat := 111
abbrev C_slices_IndexFunc_judge_job_judge_job : AFunc := C111
def T : Tr AFunc := (.node (.node (.node (.node (.node (.node (.node .nil (some C63) .nil) none .nil) none (.node (.node .nil (some C79) .nil) none (.node .nil (some C111) .nil))) none (.node (.node .nil none (.node .nil (some C103) .nil)) (some C23) (.node (.node .nil (some C87) .nil) none .nil))) none (.node (.node .nil none (.node (.node .nil (some C83) .nil) none .nil)) none (.node (.node (.node .nil (some C75) .nil) (some C43) .nil) none (.node (.node .nil (some C91) .nil) (some C59) .nil)))) none (.node (.node (.node (.node (.node .nil (some C65) .nil) none .nil) none (.node (.node .nil (some C81) .nil) (some C49) .nil)) none (.node (.node .nil (some C41) .nil) (some C25) (.node (.node .nil (some C89) .nil) (some C57) .nil))) none (.node (.node (.node .nil none (.node .nil (some C101) .nil)) (some C21) (.node (.node .nil (some C85) .nil) none .nil)) none (.node .nil none (.node (.node .nil (some C93) .nil) (some C61) .nil))))) none (.node (.node (.node (.node (.node (.node .nil (some C64) .nil) none .nil) none (.node (.node .nil (some C80) .nil) none .nil)) none (.node (.node .nil none (.node .nil (some C104) .nil)) (some C24) (.node (.node .nil (some C88) .nil) (some C56) .nil))) none (.node (.node (.node .nil none (.node .nil (some C100) .nil)) none (.node (.node .nil (some C84) .nil) none .nil)) none (.node .nil none (.node (.node .nil (some C92) .nil) (some C60) .nil)))) none (.node (.node (.node .nil (some C18) (.node (.node .nil (some C82) .nil) none .nil)) none (.node (.node .nil (some C42) .nil) (some C26) (.node (.node .nil (some C90) .nil) (some C58) .nil))) (some C6) (.node (.node (.node .nil none (.node .nil (some C102) .nil)) none (.node (.node .nil (some C86) .nil) none .nil)) none (.node .nil none (.node .nil (some C62) .nil))))))
def fs (f : Nat) : Option AFunc := Tr.get T f
def ms (t : Nat) (n : String) : Option Nat := none
end Ir
end Go.Proofs.Ytepdklcpagielaa
