/-
  What the program's functions are in Ads, printed by a program.
-/
import Derived.Test.YtepdklcpagielaaAdsDef
set_option linter.unusedVariables false
set_option maxRecDepth 100000
namespace Go.Proofs.Ytepdklcpagielaa
open Go Ads
namespace Ir
def L_escapementlaw30_TuneLeft_1 : AC := (.seq (.seq (.ops (⟨(some 82), none, .p .mov, [.t 18]⟩ ::
 ⟨(some 83), none, .p .mov, [.t 13]⟩ ::
 ⟨(some 84), none, .p .mov, [.t 17]⟩ ::
 ⟨(some 85), none, .p (.iaddrS 3), [.t 83, .t 84]⟩ ::
 ⟨(some 86), none, .p (.faddr 2), [.t 85]⟩ ::
 ⟨(some 87), none, .r .load1, [.t 86]⟩ ::
 ⟨(some 88), none, .p .lenS, [.t 87]⟩ ::
 ⟨(some 89), none, .p (.bin .lss), [.t 82, .t 88]⟩ ::
 []))
(.cond (.t 89)
.skip
(.exit 2)))
(.seq (.block 3 (.ops (⟨(some 92), none, .p .mov, [.t 13]⟩ ::
 ⟨(some 93), none, .p .mov, [.t 17]⟩ ::
 ⟨(some 94), none, .p (.iaddrS 3), [.t 92, .t 93]⟩ ::
 ⟨(some 95), none, .p (.faddr 2), [.t 94]⟩ ::
 ⟨(some 96), none, .r .load1, [.t 95]⟩ ::
 ⟨(some 97), none, .p .mov, [.t 18]⟩ ::
 ⟨(some 98), none, .p (.iaddrS 8), [.t 96, .t 97]⟩ ::
 ⟨(some 99), none, .p (.faddr 2), [.t 98]⟩ ::
 ⟨none, none, .e (.store 1), [.t 99, .c (.int .i64 99)]⟩ ::
 [])))
(.ops (⟨(some 90), none, .p .mov, [.t 18]⟩ ::
 ⟨(some 91), none, .p (.bin .add), [.t 90, .c (.int .i64 1)]⟩ ::
 ⟨(some 18), none, .p .mov, [.t 91]⟩ ::
 []))))
def L_escapementlaw30_TuneLeft_0 : AC := (.seq (.seq (.ops (⟨(some 76), none, .p .mov, [.t 17]⟩ ::
 ⟨(some 77), none, .p .mov, [.t 13]⟩ ::
 ⟨(some 78), none, .p .lenS, [.t 77]⟩ ::
 ⟨(some 79), none, .p (.bin .lss), [.t 76, .t 78]⟩ ::
 []))
(.cond (.t 79)
.skip
(.exit 0)))
(.seq (.block 1 (.seq (.ops (⟨(some 18), none, .p .mov, [.c (.int .i64 0)]⟩ ::
 []))
(.block 2 (.loop L_escapementlaw30_TuneLeft_1))))
(.ops (⟨(some 80), none, .p .mov, [.t 17]⟩ ::
 ⟨(some 81), none, .p (.bin .add), [.t 80, .c (.int .i64 1)]⟩ ::
 ⟨(some 17), none, .p .mov, [.t 81]⟩ ::
 []))))
def C8 : AFunc := ⟨106, [.tmp 4],
(.seq (.ops (⟨(some 4), none, .p .mov, [.c (.bool false)]⟩ ::
 []))
(.seq (.ops (⟨(some 19), none, .p .mov, [.t 0]⟩ ::
 ⟨(some 20), none, .call, [.c (.func (.func 28) [] []), .t 19]⟩ ::
 ⟨(some 21), none, .p .mov, [.t 0]⟩ ::
 ⟨(some 22), none, .call, [.c (.func (.func 28) [] []), .t 21]⟩ ::
 ⟨(some 5), none, .p .mov, [.t 20]⟩ ::
 ⟨(some 6), none, .p .mov, [.t 22]⟩ ::
 []))
(.seq (.ops (⟨(some 23), none, .p .mov, [.t 1]⟩ ::
 ⟨(some 24), none, .p .mov, [.t 1]⟩ ::
 ⟨(some 25), none, .p .lenS, [.t 24]⟩ ::
 ⟨(some 26), none, .p .mn, [.t 25, .c (.int .i64 8)]⟩ ::
 ⟨(some 27), none, .p (.slice 1 false true false), [.t 23, .t 26]⟩ ::
 ⟨(some 1), none, .p .mov, [.t 27]⟩ ::
 []))
(.seq (.ops (⟨(some 29), none, .p .mov, [.t 5]⟩ ::
 ⟨(some 30), none, .call, [.c (.func (.func 29) [] []), .t 29]⟩ ::
 ⟨(some 28), none, .p .mov, [.t 30]⟩ ::
 ⟨(some 31), none, .p (.ext 0), [.t 28]⟩ ::
 ⟨(some 32), none, .p (.ext 1), [.t 28]⟩ ::
 ⟨(some 33), none, .p (.ext 2), [.t 28]⟩ ::
 ⟨(some 7), none, .p .mov, [.t 31]⟩ ::
 ⟨(some 8), none, .p .mov, [.t 32]⟩ ::
 ⟨(some 9), none, .p .mov, [.t 33]⟩ ::
 []))
(.seq (.ops (⟨(some 35), none, .p .mov, [.t 6]⟩ ::
 ⟨(some 36), none, .call, [.c (.func (.func 30) [] []), .t 35]⟩ ::
 ⟨(some 34), none, .p .mov, [.t 36]⟩ ::
 ⟨(some 37), none, .p (.ext 0), [.t 34]⟩ ::
 ⟨(some 38), none, .p (.ext 1), [.t 34]⟩ ::
 ⟨(some 39), none, .p (.ext 2), [.t 34]⟩ ::
 ⟨(some 10), none, .p .mov, [.t 37]⟩ ::
 ⟨(some 11), none, .p .mov, [.t 38]⟩ ::
 ⟨(some 12), none, .p .mov, [.t 39]⟩ ::
 []))
(.seq (.ops (⟨(some 41), none, .p .mov, [.t 5]⟩ ::
 ⟨(some 42), none, .p .mov, [.t 1]⟩ ::
 ⟨(some 43), none, .call, [.c (.func (.func 31) [] []), .t 41, .t 42]⟩ ::
 ⟨(some 40), none, .p .mov, [.t 43]⟩ ::
 ⟨(some 44), none, .p (.ext 0), [.t 40]⟩ ::
 ⟨(some 45), none, .p (.ext 1), [.t 40]⟩ ::
 ⟨(some 13), none, .p .mov, [.t 44]⟩ ::
 ⟨(some 14), none, .p .mov, [.t 45]⟩ ::
 []))
(.seq (.ops (⟨(some 47), none, .p .mov, [.t 6]⟩ ::
 ⟨(some 48), none, .p .mov, [.t 1]⟩ ::
 ⟨(some 49), none, .call, [.c (.func (.func 32) [] []), .t 47, .t 48]⟩ ::
 ⟨(some 46), none, .p .mov, [.t 49]⟩ ::
 ⟨(some 50), none, .p (.ext 0), [.t 46]⟩ ::
 ⟨(some 51), none, .p (.ext 1), [.t 46]⟩ ::
 ⟨(some 15), none, .p .mov, [.t 50]⟩ ::
 ⟨(some 16), none, .p .mov, [.t 51]⟩ ::
 []))
(.seq (.seq (.ops (⟨(some 52), none, .p .mov, [.t 7]⟩ ::
 ⟨(some 53), none, .p .mov, [.t 10]⟩ ::
 ⟨(some 54), none, .p (.bin .neq), [.t 52, .t 53]⟩ ::
 ⟨(some 55), none, .p .mov, [.t 54]⟩ ::
 ⟨(some 56), (some (55, false)), .p .mov, [.t 8]⟩ ::
 ⟨(some 57), (some (55, false)), .p .mov, [.t 11]⟩ ::
 ⟨(some 58), (some (55, false)), .p (.bin .neq), [.t 56, .t 57]⟩ ::
 ⟨(some 59), none, .p .pick, [.t 55, .c (.bool true), .t 58]⟩ ::
 ⟨(some 60), none, .p .mov, [.t 59]⟩ ::
 ⟨(some 61), (some (60, false)), .p .mov, [.t 9]⟩ ::
 ⟨(some 62), (some (60, false)), .p .mov, [.t 12]⟩ ::
 ⟨(some 63), (some (60, false)), .p (.bin .neq), [.t 61, .t 62]⟩ ::
 ⟨(some 64), none, .p .pick, [.t 60, .c (.bool true), .t 63]⟩ ::
 ⟨(some 65), none, .p .mov, [.t 64]⟩ ::
 ⟨(some 66), (some (65, false)), .p .mov, [.t 13]⟩ ::
 ⟨(some 67), (some (65, false)), .p .mov, [.t 15]⟩ ::
 ⟨(some 68), (some (65, false)), .call, [.c (.func (.func 33) [] []), .t 66, .t 67]⟩ ::
 ⟨(some 69), (some (65, false)), .p .not, [.t 68]⟩ ::
 ⟨(some 70), none, .p .pick, [.t 65, .c (.bool true), .t 69]⟩ ::
 ⟨(some 71), none, .p .mov, [.t 70]⟩ ::
 ⟨(some 72), (some (71, false)), .p .mov, [.t 14]⟩ ::
 ⟨(some 73), (some (71, false)), .p .mov, [.t 16]⟩ ::
 ⟨(some 74), (some (71, false)), .p (.bin .neq), [.t 72, .t 73]⟩ ::
 ⟨(some 75), none, .p .pick, [.t 71, .c (.bool true), .t 74]⟩ ::
 []))
(.cond (.t 75)
(.seq (.ops (⟨(some 4), none, .p .mov, [.c (.bool false)]⟩ ::
 []))
.ret)
.skip))
(.seq (.seq (.ops (⟨(some 17), none, .p .mov, [.c (.int .i64 0)]⟩ ::
 []))
(.block 0 (.loop L_escapementlaw30_TuneLeft_0)))
(.seq (.ops (⟨(some 100), none, .p .mov, [.t 5]⟩ ::
 ⟨(some 101), none, .p .mov, [.t 6]⟩ ::
 ⟨(some 102), none, .call, [.c (.func (.func 33) [] []), .t 100, .t 101]⟩ ::
 ⟨(some 103), none, .p .mov, [.t 102]⟩ ::
 ⟨(some 104), (some (103, true)), .call, [.c (.func (.func 34) [] [])]⟩ ::
 ⟨(some 105), none, .p .pick, [.t 103, .t 104, .c (.bool false)]⟩ ::
 ⟨(some 4), none, .p .mov, [.t 105]⟩ ::
 []))
.ret))))))))))⟩
abbrev f_escapementlaw30_TuneLeft : Nat := 8
abbrev C_escapementlaw30_TuneLeft : AFunc := C8
def L_escapementlaw30_cutParts_0 : AC := (.seq (.seq (.ops (⟨(some 7), none, .p .mov, [.t 4]⟩ ::
 ⟨(some 8), none, .p .mov, [.t 0]⟩ ::
 ⟨(some 9), none, .p .lenS, [.t 8]⟩ ::
 ⟨(some 10), none, .p (.bin .lss), [.t 7, .t 9]⟩ ::
 ⟨(some 11), none, .p .mov, [.t 10]⟩ ::
 ⟨(some 12), (some (11, true)), .p .mov, [.t 4]⟩ ::
 ⟨(some 13), (some (11, true)), .p (.bin .lss), [.t 12, .c (.int .i64 6)]⟩ ::
 ⟨(some 14), none, .p .pick, [.t 11, .t 13, .c (.bool false)]⟩ ::
 []))
(.cond (.t 14)
.skip
(.exit 0)))
(.seq (.block 1 (.seq (.ops (⟨(some 17), none, .p .mov, [.t 0]⟩ ::
 ⟨(some 18), none, .p .mov, [.t 4]⟩ ::
 ⟨(some 19), none, .p (.iaddrS 3), [.t 17, .t 18]⟩ ::
 ⟨(some 20), none, .r (.loadN 3), [.t 19]⟩ ::
 ⟨(some 5), none, .a (.alloc [(.int .i64 0), (.int .i64 0), .nils]), []⟩ ::
 ⟨none, none, .e (.store 3), [.t 5, .t 20]⟩ ::
 []))
(.seq (.ops (⟨(some 6), none, .p .mov, [.c .nils]⟩ ::
 []))
(.seq (.ops (⟨(some 21), none, .p .mov, [.t 6]⟩ ::
 ⟨(some 22), none, .p (.faddr 2), [.t 5]⟩ ::
 ⟨(some 23), none, .r .load1, [.t 22]⟩ ::
 ⟨(some 24), none, .p (.faddr 2), [.t 5]⟩ ::
 ⟨(some 25), none, .r .load1, [.t 24]⟩ ::
 ⟨(some 26), none, .p .lenS, [.t 25]⟩ ::
 ⟨(some 27), none, .p .mn, [.t 26, .c (.int .i64 6)]⟩ ::
 ⟨(some 28), none, .p (.slice 8 false true false), [.t 23, .t 27]⟩ ::
 ⟨(some 29), none, .e (.append 8 64), [.t 21, .t 28]⟩ ::
 ⟨(some 30), none, .p (.faddr 2), [.t 5]⟩ ::
 ⟨none, none, .e (.store 1), [.t 30, .t 29]⟩ ::
 []))
(.ops (⟨(some 31), none, .p .mov, [.t 3]⟩ ::
 ⟨(some 32), none, .r (.loadN 3), [.t 5]⟩ ::
 ⟨(some 33), none, .a (.bslice [(.int .i64 0), (.int .i64 0), .nils] 1 3 [0]), [.t 32]⟩ ::
 ⟨(some 34), none, .e (.append 3 40), [.t 31, .t 33]⟩ ::
 ⟨(some 3), none, .p .mov, [.t 34]⟩ ::
 []))))))
(.ops (⟨(some 15), none, .p .mov, [.t 4]⟩ ::
 ⟨(some 16), none, .p (.bin .add), [.t 15, .c (.int .i64 1)]⟩ ::
 ⟨(some 4), none, .p .mov, [.t 16]⟩ ::
 []))))
def C28 : AFunc := ⟨36, [.tmp 2],
(.seq (.ops (⟨(some 2), none, .p .mov, [.c .nils]⟩ ::
 []))
(.seq (.ops (⟨(some 3), none, .p .mov, [.c .nils]⟩ ::
 []))
(.seq (.seq (.ops (⟨(some 4), none, .p .mov, [.c (.int .i64 0)]⟩ ::
 []))
(.block 0 (.loop L_escapementlaw30_cutParts_0)))
(.seq (.ops (⟨(some 35), none, .p .mov, [.t 3]⟩ ::
 ⟨(some 2), none, .p .mov, [.t 35]⟩ ::
 []))
.ret))))⟩
abbrev f_escapementlaw30_cutParts : Nat := 28
abbrev C_escapementlaw30_cutParts : AFunc := C28
def C29 : AFunc := ⟨27, [.tmp 2, .tmp 3, .tmp 4],
(.seq (.ops (⟨(some 2), none, .p .mov, [.c (.int .i64 0)]⟩ ::
 ⟨(some 3), none, .p .mov, [.c (.int .i64 0)]⟩ ::
 ⟨(some 4), none, .p .mov, [.c (.int .i64 0)]⟩ ::
 []))
(.seq (.ops (⟨(some 6), none, .p .mov, [.t 0]⟩ ::
 ⟨(some 7), none, .call, [.c (.func (.func 50) [] []), .t 6]⟩ ::
 ⟨(some 5), none, .p .mov, [.t 7]⟩ ::
 ⟨(some 8), none, .p (.ext 0), [.t 5]⟩ ::
 ⟨(some 9), none, .p (.ext 1), [.t 5]⟩ ::
 ⟨(some 10), none, .p (.ext 2), [.t 5]⟩ ::
 ⟨(some 2), none, .p .mov, [.t 8]⟩ ::
 ⟨(some 3), none, .p .mov, [.t 9]⟩ ::
 ⟨(some 4), none, .p .mov, [.t 10]⟩ ::
 []))
(.seq (.block 0 (.seq (.ops (⟨(some 12), none, .p .mov, [.t 4]⟩ ::
 ⟨(some 13), none, .p (.bin .neq), [.t 12, .c (.int .i64 0)]⟩ ::
 ⟨(some 11), none, .p .mov, [.t 13]⟩ ::
 []))
(.cond (.t 11)
(.seq (.ops (⟨(some 14), none, .p .mov, [.t 4]⟩ ::
 ⟨(some 2), none, .p .mov, [.c (.int .i64 0)]⟩ ::
 ⟨(some 3), none, .p .mov, [.c (.int .i64 0)]⟩ ::
 ⟨(some 4), none, .p .mov, [.t 14]⟩ ::
 []))
.ret)
(.seq (.ops (⟨(some 16), none, .p .mov, [.t 2]⟩ ::
 ⟨(some 17), none, .p .mov, [.t 3]⟩ ::
 ⟨(some 18), none, .p (.bin .gtr), [.t 16, .t 17]⟩ ::
 ⟨(some 15), none, .p .mov, [.t 18]⟩ ::
 []))
(.cond (.t 15)
(.seq (.ops (⟨(some 2), none, .p .mov, [.c (.int .i64 0)]⟩ ::
 ⟨(some 3), none, .p .mov, [.c (.int .i64 0)]⟩ ::
 ⟨(some 4), none, .p .mov, [.c (.int .i64 120)]⟩ ::
 []))
.ret)
(.seq (.ops (⟨(some 20), none, .p .mov, [.t 2]⟩ ::
 ⟨(some 21), none, .p .mov, [.t 3]⟩ ::
 ⟨(some 22), none, .p (.bin .eql), [.t 20, .t 21]⟩ ::
 ⟨(some 19), none, .p .mov, [.t 22]⟩ ::
 []))
(.cond (.t 19)
(.seq (.ops (⟨(some 2), none, .p .mov, [.c (.int .i64 0)]⟩ ::
 ⟨(some 3), none, .p .mov, [.c (.int .i64 1)]⟩ ::
 ⟨(some 4), none, .p .mov, [.c (.int .i64 0)]⟩ ::
 []))
.ret)
.skip)))))))
(.seq (.ops (⟨(some 23), none, .p .mov, [.t 3]⟩ ::
 ⟨(some 24), none, .p .mov, [.t 2]⟩ ::
 ⟨(some 25), none, .p (.bin .sub), [.t 23, .t 24]⟩ ::
 ⟨(some 26), none, .p .mov, [.t 3]⟩ ::
 ⟨(some 2), none, .p .mov, [.t 25]⟩ ::
 ⟨(some 3), none, .p .mov, [.t 26]⟩ ::
 ⟨(some 4), none, .p .mov, [.c (.int .i64 0)]⟩ ::
 []))
.ret))))⟩
abbrev f_tune_Left : Nat := 29
abbrev C_tune_Left : AFunc := C29
def C30 : AFunc := ⟨27, [.tmp 2, .tmp 3, .tmp 4],
(.seq (.ops (⟨(some 2), none, .p .mov, [.c (.int .i64 0)]⟩ ::
 ⟨(some 3), none, .p .mov, [.c (.int .i64 0)]⟩ ::
 ⟨(some 4), none, .p .mov, [.c (.int .i64 0)]⟩ ::
 []))
(.seq (.ops (⟨(some 9), none, .p .mov, [.t 0]⟩ ::
 ⟨(some 10), none, .call, [.c (.func (.func 51) [] []), .t 9]⟩ ::
 ⟨(some 8), none, .p .mov, [.t 10]⟩ ::
 ⟨(some 11), none, .p (.ext 0), [.t 8]⟩ ::
 ⟨(some 12), none, .p (.ext 1), [.t 8]⟩ ::
 ⟨(some 13), none, .p (.ext 2), [.t 8]⟩ ::
 ⟨(some 5), none, .p .mov, [.t 11]⟩ ::
 ⟨(some 6), none, .p .mov, [.t 12]⟩ ::
 ⟨(some 7), none, .p .mov, [.t 13]⟩ ::
 []))
(.seq (.seq (.ops (⟨(some 14), none, .p .mov, [.t 7]⟩ ::
 ⟨(some 15), none, .p (.bin .neq), [.t 14, .c (.int .i64 0)]⟩ ::
 []))
(.cond (.t 15)
(.seq (.ops (⟨(some 16), none, .p .mov, [.t 7]⟩ ::
 ⟨(some 2), none, .p .mov, [.c (.int .i64 0)]⟩ ::
 ⟨(some 3), none, .p .mov, [.c (.int .i64 0)]⟩ ::
 ⟨(some 4), none, .p .mov, [.t 16]⟩ ::
 []))
.ret)
.skip))
(.seq (.seq (.ops (⟨(some 17), none, .p .mov, [.t 5]⟩ ::
 ⟨(some 18), none, .p .mov, [.t 6]⟩ ::
 ⟨(some 19), none, .p (.bin .gtr), [.t 17, .t 18]⟩ ::
 []))
(.cond (.t 19)
(.seq (.ops (⟨(some 2), none, .p .mov, [.c (.int .i64 0)]⟩ ::
 ⟨(some 3), none, .p .mov, [.c (.int .i64 0)]⟩ ::
 ⟨(some 4), none, .p .mov, [.c (.int .i64 120)]⟩ ::
 []))
.ret)
.skip))
(.seq (.ops (⟨(some 20), none, .p .mov, [.t 6]⟩ ::
 ⟨(some 21), none, .p .mov, [.t 5]⟩ ::
 ⟨(some 22), none, .p (.bin .sub), [.t 20, .t 21]⟩ ::
 ⟨(some 5), none, .p .mov, [.t 22]⟩ ::
 []))
(.seq (.seq (.ops (⟨(some 23), none, .p .mov, [.t 5]⟩ ::
 ⟨(some 24), none, .p (.bin .eql), [.t 23, .c (.int .i64 0)]⟩ ::
 []))
(.cond (.t 24)
(.ops (⟨(some 6), none, .p .mov, [.c (.int .i64 1)]⟩ ::
 []))
.skip))
(.seq (.ops (⟨(some 25), none, .p .mov, [.t 5]⟩ ::
 ⟨(some 26), none, .p .mov, [.t 6]⟩ ::
 ⟨(some 2), none, .p .mov, [.t 25]⟩ ::
 ⟨(some 3), none, .p .mov, [.t 26]⟩ ::
 ⟨(some 4), none, .p .mov, [.c (.int .i64 0)]⟩ ::
 []))
.ret)))))))⟩
abbrev f_escapementref30_Left : Nat := 30
abbrev C_escapementref30_Left : AFunc := C30
def L_tune_With_0 : AC := (.seq (.ops (⟨(some 18), none, .p (.bin .lss), [.t 17, .t 16]⟩ ::
 []))
(.seq (.cond (.t 18)
.skip
(.exit 0))
(.seq (.block 1 (.seq (.ops (⟨(some 19), none, .p .mov, [.t 17]⟩ ::
 ⟨(some 7), none, .p .mov, [.t 19]⟩ ::
 []))
(.seq (.ops (⟨(some 20), none, .p .mov, [.t 6]⟩ ::
 ⟨(some 21), none, .p .mov, [.t 7]⟩ ::
 ⟨(some 22), none, .p .mov, [.t 1]⟩ ::
 ⟨(some 23), none, .p .mov, [.t 7]⟩ ::
 ⟨(some 24), none, .p (.iaddrS 1), [.t 22, .t 23]⟩ ::
 ⟨(some 25), none, .r .load1, [.t 24]⟩ ::
 ⟨(some 26), none, .p (.iaddrS 3), [.t 20, .t 21]⟩ ::
 ⟨(some 27), none, .p (.faddr 1), [.t 26]⟩ ::
 ⟨none, none, .e (.store 1), [.t 27, .t 25]⟩ ::
 []))
(.ops (⟨(some 28), none, .p .mov, [.t 6]⟩ ::
 ⟨(some 29), none, .p .mov, [.t 7]⟩ ::
 ⟨(some 30), none, .p .mov, [.t 6]⟩ ::
 ⟨(some 31), none, .p .mov, [.t 7]⟩ ::
 ⟨(some 32), none, .p (.iaddrS 3), [.t 30, .t 31]⟩ ::
 ⟨(some 33), none, .p (.faddr 2), [.t 32]⟩ ::
 ⟨(some 34), none, .r .load1, [.t 33]⟩ ::
 ⟨(some 35), none, .call, [.c (.func (.func 52) [] []), .t 34]⟩ ::
 ⟨(some 36), none, .p (.iaddrS 3), [.t 28, .t 29]⟩ ::
 ⟨(some 37), none, .p (.faddr 2), [.t 36]⟩ ::
 ⟨none, none, .e (.store 1), [.t 37, .t 35]⟩ ::
 [])))))
(.ops (⟨(some 38), none, .p (.bin .add), [.t 17, .c (.int .i64 1)]⟩ ::
 ⟨(some 17), none, .p .mov, [.t 38]⟩ ::
 [])))))
def C31 : AFunc := ⟨40, [.tmp 4, .tmp 5],
(.seq (.ops (⟨(some 4), none, .p .mov, [.c .nils]⟩ ::
 ⟨(some 5), none, .p .mov, [.c (.int .i64 0)]⟩ ::
 []))
(.seq (.seq (.ops (⟨(some 8), none, .p .mov, [.t 0]⟩ ::
 ⟨(some 9), none, .p .lenS, [.t 8]⟩ ::
 ⟨(some 10), none, .p .mov, [.t 1]⟩ ::
 ⟨(some 11), none, .p .lenS, [.t 10]⟩ ::
 ⟨(some 12), none, .p (.bin .neq), [.t 9, .t 11]⟩ ::
 []))
(.cond (.t 12)
(.seq (.ops (⟨(some 4), none, .p .mov, [.c .nils]⟩ ::
 ⟨(some 5), none, .p .mov, [.c (.int .i64 2)]⟩ ::
 []))
.ret)
.skip))
(.seq (.ops (⟨(some 13), none, .p .mov, [.t 0]⟩ ::
 ⟨(some 14), none, .call, [.c (.func (.func 42) [] []), .t 13]⟩ ::
 ⟨(some 6), none, .p .mov, [.t 14]⟩ ::
 []))
(.seq (.seq (.ops (⟨(some 15), none, .p .mov, [.t 6]⟩ ::
 ⟨(some 16), none, .p .lenS, [.t 15]⟩ ::
 ⟨(some 17), none, .p .mov, [.c (.int .i64 0)]⟩ ::
 []))
(.block 0 (.loop L_tune_With_0)))
(.seq (.ops (⟨(some 39), none, .p .mov, [.t 6]⟩ ::
 ⟨(some 4), none, .p .mov, [.t 39]⟩ ::
 ⟨(some 5), none, .p .mov, [.c (.int .i64 0)]⟩ ::
 []))
.ret)))))⟩
abbrev f_tune_With : Nat := 31
abbrev C_tune_With : AFunc := C31
def L_escapementref30_With_0 : AC := (.seq (.seq (.ops (⟨(some 15), none, .p .mov, [.t 7]⟩ ::
 ⟨(some 16), none, .p .mov, [.t 0]⟩ ::
 ⟨(some 17), none, .p .lenS, [.t 16]⟩ ::
 ⟨(some 18), none, .p (.bin .lss), [.t 15, .t 17]⟩ ::
 []))
(.cond (.t 18)
.skip
(.exit 0)))
(.seq (.block 1 (.seq (.ops (⟨(some 21), none, .p .mov, [.t 0]⟩ ::
 ⟨(some 22), none, .p .mov, [.t 7]⟩ ::
 ⟨(some 23), none, .p (.iaddrS 3), [.t 21, .t 22]⟩ ::
 ⟨(some 24), none, .r (.loadN 3), [.t 23]⟩ ::
 ⟨(some 8), none, .a (.alloc [(.int .i64 0), (.int .i64 0), .nils]), []⟩ ::
 ⟨none, none, .e (.store 3), [.t 8, .t 24]⟩ ::
 []))
(.seq (.ops (⟨(some 25), none, .p .mov, [.t 1]⟩ ::
 ⟨(some 26), none, .p .mov, [.t 7]⟩ ::
 ⟨(some 27), none, .p (.iaddrS 1), [.t 25, .t 26]⟩ ::
 ⟨(some 28), none, .r .load1, [.t 27]⟩ ::
 ⟨(some 29), none, .p (.faddr 1), [.t 8]⟩ ::
 ⟨none, none, .e (.store 1), [.t 29, .t 28]⟩ ::
 []))
(.seq (.ops (⟨(some 9), none, .p .mov, [.c .nils]⟩ ::
 []))
(.seq (.ops (⟨(some 30), none, .p .mov, [.t 9]⟩ ::
 ⟨(some 31), none, .p (.faddr 2), [.t 8]⟩ ::
 ⟨(some 32), none, .r .load1, [.t 31]⟩ ::
 ⟨(some 33), none, .e (.append 8 64), [.t 30, .t 32]⟩ ::
 ⟨(some 34), none, .p (.faddr 2), [.t 8]⟩ ::
 ⟨none, none, .e (.store 1), [.t 34, .t 33]⟩ ::
 []))
(.ops (⟨(some 35), none, .p .mov, [.t 6]⟩ ::
 ⟨(some 36), none, .r (.loadN 3), [.t 8]⟩ ::
 ⟨(some 37), none, .a (.bslice [(.int .i64 0), (.int .i64 0), .nils] 1 3 [0]), [.t 36]⟩ ::
 ⟨(some 38), none, .e (.append 3 40), [.t 35, .t 37]⟩ ::
 ⟨(some 6), none, .p .mov, [.t 38]⟩ ::
 [])))))))
(.ops (⟨(some 19), none, .p .mov, [.t 7]⟩ ::
 ⟨(some 20), none, .p (.bin .add), [.t 19, .c (.int .i64 1)]⟩ ::
 ⟨(some 7), none, .p .mov, [.t 20]⟩ ::
 []))))
def C32 : AFunc := ⟨40, [.tmp 4, .tmp 5],
(.seq (.ops (⟨(some 4), none, .p .mov, [.c .nils]⟩ ::
 ⟨(some 5), none, .p .mov, [.c (.int .i64 0)]⟩ ::
 []))
(.seq (.seq (.ops (⟨(some 10), none, .p .mov, [.t 0]⟩ ::
 ⟨(some 11), none, .p .lenS, [.t 10]⟩ ::
 ⟨(some 12), none, .p .mov, [.t 1]⟩ ::
 ⟨(some 13), none, .p .lenS, [.t 12]⟩ ::
 ⟨(some 14), none, .p (.bin .neq), [.t 11, .t 13]⟩ ::
 []))
(.cond (.t 14)
(.seq (.ops (⟨(some 4), none, .p .mov, [.c .nils]⟩ ::
 ⟨(some 5), none, .p .mov, [.c (.int .i64 2)]⟩ ::
 []))
.ret)
.skip))
(.seq (.ops (⟨(some 6), none, .p .mov, [.c .nils]⟩ ::
 []))
(.seq (.seq (.ops (⟨(some 7), none, .p .mov, [.c (.int .i64 0)]⟩ ::
 []))
(.block 0 (.loop L_escapementref30_With_0)))
(.seq (.ops (⟨(some 39), none, .p .mov, [.t 6]⟩ ::
 ⟨(some 4), none, .p .mov, [.t 39]⟩ ::
 ⟨(some 5), none, .p .mov, [.c (.int .i64 0)]⟩ ::
 []))
.ret)))))⟩
abbrev f_escapementref30_With : Nat := 32
abbrev C_escapementref30_With : AFunc := C32
def L_escapementref30_Same_1 : AC := (.seq (.seq (.ops (⟨(some 57), none, .p .mov, [.t 6]⟩ ::
 ⟨(some 58), none, .p .mov, [.t 0]⟩ ::
 ⟨(some 59), none, .p .mov, [.t 5]⟩ ::
 ⟨(some 60), none, .p (.iaddrS 3), [.t 58, .t 59]⟩ ::
 ⟨(some 61), none, .p (.faddr 2), [.t 60]⟩ ::
 ⟨(some 62), none, .r .load1, [.t 61]⟩ ::
 ⟨(some 63), none, .p .lenS, [.t 62]⟩ ::
 ⟨(some 64), none, .p (.bin .lss), [.t 57, .t 63]⟩ ::
 []))
(.cond (.t 64)
.skip
(.exit 2)))
(.seq (.block 3 (.seq (.dops (⟨(some 67), none, .p .mov, [.t 0]⟩ ::
 ⟨(some 68), none, .p .mov, [.t 5]⟩ ::
 ⟨(some 69), none, .p (.iaddrS 3), [.t 67, .t 68]⟩ ::
 ⟨(some 70), none, .p (.faddr 2), [.t 69]⟩ ::
 ⟨(some 71), none, .r .load1, [.t 70]⟩ ::
 ⟨(some 72), none, .p .mov, [.t 6]⟩ ::
 ⟨(some 73), none, .p (.iaddrS 8), [.t 71, .t 72]⟩ ::
 ⟨(some 74), none, .r (.loadN 8), [.t 73]⟩ ::
 ⟨(some 75), none, .p .mov, [.t 1]⟩ ::
 ⟨(some 76), none, .p .mov, [.t 5]⟩ ::
 ⟨(some 77), none, .p (.iaddrS 3), [.t 75, .t 76]⟩ ::
 ⟨(some 78), none, .p (.faddr 2), [.t 77]⟩ ::
 ⟨(some 79), none, .r .load1, [.t 78]⟩ ::
 ⟨(some 80), none, .p .mov, [.t 6]⟩ ::
 ⟨(some 81), none, .p (.iaddrS 8), [.t 79, .t 80]⟩ ::
 ⟨(some 82), none, .r (.loadN 8), [.t 81]⟩ ::
 ⟨(some 83), none, .p (.neq (.cells [0, 0, 0, 0, 0, 0, 0, 0])), [.t 74, .t 82]⟩ ::
 []) ([] :: [] :: [] :: [] :: [] :: [] :: [] :: [] :: [] :: [] :: [] :: [] :: [] :: [] :: [] :: [] :: [] :: []))
(.cond (.t 83)
(.seq (.ops (⟨(some 4), none, .p .mov, [.c (.bool false)]⟩ ::
 []))
.ret)
.skip)))
(.ops (⟨(some 65), none, .p .mov, [.t 6]⟩ ::
 ⟨(some 66), none, .p (.bin .add), [.t 65, .c (.int .i64 1)]⟩ ::
 ⟨(some 6), none, .p .mov, [.t 66]⟩ ::
 []))))
def L_escapementref30_Same_0 : AC := (.seq (.seq (.ops (⟨(some 12), none, .p .mov, [.t 5]⟩ ::
 ⟨(some 13), none, .p .mov, [.t 0]⟩ ::
 ⟨(some 14), none, .p .lenS, [.t 13]⟩ ::
 ⟨(some 15), none, .p (.bin .lss), [.t 12, .t 14]⟩ ::
 []))
(.cond (.t 15)
.skip
(.exit 0)))
(.seq (.block 1 (.seq (.seq (.dops (⟨(some 18), none, .p .mov, [.t 0]⟩ ::
 ⟨(some 19), none, .p .mov, [.t 5]⟩ ::
 ⟨(some 20), none, .p (.iaddrS 3), [.t 18, .t 19]⟩ ::
 ⟨(some 21), none, .p (.faddr 0), [.t 20]⟩ ::
 ⟨(some 22), none, .r .load1, [.t 21]⟩ ::
 ⟨(some 23), none, .p .mov, [.t 1]⟩ ::
 ⟨(some 24), none, .p .mov, [.t 5]⟩ ::
 ⟨(some 25), none, .p (.iaddrS 3), [.t 23, .t 24]⟩ ::
 ⟨(some 26), none, .p (.faddr 0), [.t 25]⟩ ::
 ⟨(some 27), none, .r .load1, [.t 26]⟩ ::
 ⟨(some 28), none, .p (.bin .neq), [.t 22, .t 27]⟩ ::
 ⟨(some 29), none, .p .mov, [.t 28]⟩ ::
 ⟨(some 30), (some (29, false)), .p .mov, [.t 0]⟩ ::
 ⟨(some 31), (some (29, false)), .p .mov, [.t 5]⟩ ::
 ⟨(some 32), (some (29, false)), .p (.iaddrS 3), [.t 30, .t 31]⟩ ::
 ⟨(some 33), (some (29, false)), .p (.faddr 1), [.t 32]⟩ ::
 ⟨(some 34), (some (29, false)), .r .load1, [.t 33]⟩ ::
 ⟨(some 35), (some (29, false)), .p .mov, [.t 1]⟩ ::
 ⟨(some 36), (some (29, false)), .p .mov, [.t 5]⟩ ::
 ⟨(some 37), (some (29, false)), .p (.iaddrS 3), [.t 35, .t 36]⟩ ::
 ⟨(some 38), (some (29, false)), .p (.faddr 1), [.t 37]⟩ ::
 ⟨(some 39), (some (29, false)), .r .load1, [.t 38]⟩ ::
 ⟨(some 40), (some (29, false)), .p (.bin .neq), [.t 34, .t 39]⟩ ::
 ⟨(some 41), none, .p .pick, [.t 29, .c (.bool true), .t 40]⟩ ::
 ⟨(some 42), none, .p .mov, [.t 41]⟩ ::
 ⟨(some 43), (some (42, false)), .p .mov, [.t 0]⟩ ::
 ⟨(some 44), (some (42, false)), .p .mov, [.t 5]⟩ ::
 ⟨(some 45), (some (42, false)), .p (.iaddrS 3), [.t 43, .t 44]⟩ ::
 ⟨(some 46), (some (42, false)), .p (.faddr 2), [.t 45]⟩ ::
 ⟨(some 47), (some (42, false)), .r .load1, [.t 46]⟩ ::
 ⟨(some 48), (some (42, false)), .p .lenS, [.t 47]⟩ ::
 ⟨(some 49), (some (42, false)), .p .mov, [.t 1]⟩ ::
 ⟨(some 50), (some (42, false)), .p .mov, [.t 5]⟩ ::
 ⟨(some 51), (some (42, false)), .p (.iaddrS 3), [.t 49, .t 50]⟩ ::
 ⟨(some 52), (some (42, false)), .p (.faddr 2), [.t 51]⟩ ::
 ⟨(some 53), (some (42, false)), .r .load1, [.t 52]⟩ ::
 ⟨(some 54), (some (42, false)), .p .lenS, [.t 53]⟩ ::
 ⟨(some 55), (some (42, false)), .p (.bin .neq), [.t 48, .t 54]⟩ ::
 ⟨(some 56), none, .p .pick, [.t 42, .c (.bool true), .t 55]⟩ ::
 []) ([] :: [] :: [] :: [] :: [] :: [] :: [] :: [] :: [] :: [] :: [] :: [] :: [] :: [] :: [] :: [] :: [] :: [] :: [] :: [] :: [] :: [] :: [] :: [] :: [] :: [] :: [] :: [] :: [] :: [] :: [] :: [] :: [] :: [] :: [] :: [] :: [] :: [] :: [] :: []))
(.cond (.t 56)
(.seq (.ops (⟨(some 4), none, .p .mov, [.c (.bool false)]⟩ ::
 []))
.ret)
.skip))
(.seq (.ops (⟨(some 6), none, .p .mov, [.c (.int .i64 0)]⟩ ::
 []))
(.block 2 (.loop L_escapementref30_Same_1)))))
(.ops (⟨(some 16), none, .p .mov, [.t 5]⟩ ::
 ⟨(some 17), none, .p (.bin .add), [.t 16, .c (.int .i64 1)]⟩ ::
 ⟨(some 5), none, .p .mov, [.t 17]⟩ ::
 []))))
def C33 : AFunc := ⟨84, [.tmp 4],
(.seq (.ops (⟨(some 4), none, .p .mov, [.c (.bool false)]⟩ ::
 []))
(.seq (.seq (.ops (⟨(some 7), none, .p .mov, [.t 0]⟩ ::
 ⟨(some 8), none, .p .lenS, [.t 7]⟩ ::
 ⟨(some 9), none, .p .mov, [.t 1]⟩ ::
 ⟨(some 10), none, .p .lenS, [.t 9]⟩ ::
 ⟨(some 11), none, .p (.bin .neq), [.t 8, .t 10]⟩ ::
 []))
(.cond (.t 11)
(.seq (.ops (⟨(some 4), none, .p .mov, [.c (.bool false)]⟩ ::
 []))
.ret)
.skip))
(.seq (.seq (.ops (⟨(some 5), none, .p .mov, [.c (.int .i64 0)]⟩ ::
 []))
(.block 0 (.loop L_escapementref30_Same_0)))
(.seq (.ops (⟨(some 4), none, .p .mov, [.c (.bool true)]⟩ ::
 []))
.ret))))⟩
abbrev f_escapementref30_Same : Nat := 33
abbrev C_escapementref30_Same : AFunc := C33
def C34 : AFunc := ⟨119, [.tmp 0],
(.seq (.ops (⟨(some 0), none, .p .mov, [.c (.bool false)]⟩ ::
 []))
(.seq (.ops (⟨(some 17), none, .call, [.c (.func (.func 53) [] []), .c (.int .i64 2), .c (.int .i64 3)]⟩ ::
 ⟨(some 18), none, .call, [.c (.func (.func 29) [] []), .t 17]⟩ ::
 ⟨(some 16), none, .p .mov, [.t 18]⟩ ::
 ⟨(some 19), none, .p (.ext 0), [.t 16]⟩ ::
 ⟨(some 20), none, .p (.ext 1), [.t 16]⟩ ::
 ⟨(some 21), none, .p (.ext 2), [.t 16]⟩ ::
 ⟨(some 1), none, .p .mov, [.t 19]⟩ ::
 ⟨(some 2), none, .p .mov, [.t 20]⟩ ::
 ⟨(some 3), none, .p .mov, [.t 21]⟩ ::
 []))
(.seq (.ops (⟨(some 23), none, .call, [.c (.func (.func 53) [] []), .c (.int .i64 4), .c (.int .i64 1)]⟩ ::
 ⟨(some 24), none, .call, [.c (.func (.func 29) [] []), .t 23]⟩ ::
 ⟨(some 22), none, .p .mov, [.t 24]⟩ ::
 ⟨(some 25), none, .p (.ext 0), [.t 22]⟩ ::
 ⟨(some 26), none, .p (.ext 1), [.t 22]⟩ ::
 ⟨(some 27), none, .p (.ext 2), [.t 22]⟩ ::
 ⟨(some 4), none, .p .mov, [.t 25]⟩ ::
 ⟨(some 5), none, .p .mov, [.t 26]⟩ ::
 ⟨(some 6), none, .p .mov, [.t 27]⟩ ::
 []))
(.seq (.ops (⟨(some 29), none, .call, [.c (.func (.func 53) [] []), .c (.int .i64 9), .c (.int .i64 9)]⟩ ::
 ⟨(some 30), none, .a (.bslice [(.int .i64 0)] 2 1 [0, 1]), [.c (.int .i64 1), .c (.int .i64 2)]⟩ ::
 ⟨(some 31), none, .call, [.c (.func (.func 31) [] []), .t 29, .t 30]⟩ ::
 ⟨(some 28), none, .p .mov, [.t 31]⟩ ::
 ⟨(some 32), none, .p (.ext 0), [.t 28]⟩ ::
 ⟨(some 33), none, .p (.ext 1), [.t 28]⟩ ::
 ⟨(some 7), none, .p .mov, [.t 32]⟩ ::
 ⟨(some 8), none, .p .mov, [.t 33]⟩ ::
 []))
(.seq (.ops (⟨(some 35), none, .call, [.c (.func (.func 53) [] []), .c (.int .i64 1), .c (.int .i64 1)]⟩ ::
 ⟨(some 36), none, .p (.slice 3 false true false), [.t 35, .c (.int .i64 1)]⟩ ::
 ⟨(some 37), none, .a (.bslice [(.int .i64 0)] 2 1 [0, 1]), [.c (.int .i64 1), .c (.int .i64 2)]⟩ ::
 ⟨(some 38), none, .call, [.c (.func (.func 31) [] []), .t 36, .t 37]⟩ ::
 ⟨(some 34), none, .p .mov, [.t 38]⟩ ::
 ⟨(some 39), none, .p (.ext 0), [.t 34]⟩ ::
 ⟨(some 40), none, .p (.ext 1), [.t 34]⟩ ::
 ⟨(some 9), none, .p .mov, [.t 39]⟩ ::
 ⟨(some 10), none, .p .mov, [.t 40]⟩ ::
 []))
(.seq (.ops (⟨(some 41), none, .call, [.c (.func (.func 53) [] []), .c (.int .i64 1), .c (.int .i64 1)]⟩ ::
 ⟨(some 42), none, .p (.slice 3 false true false), [.t 41, .c (.int .i64 1)]⟩ ::
 ⟨(some 11), none, .p .mov, [.t 42]⟩ ::
 []))
(.seq (.ops (⟨(some 43), none, .p .mov, [.t 11]⟩ ::
 ⟨(some 44), none, .p (.iaddrS 3), [.t 43, .c (.int .i64 0)]⟩ ::
 ⟨(some 45), none, .p (.faddr 2), [.t 44]⟩ ::
 ⟨(some 46), none, .r .load1, [.t 45]⟩ ::
 ⟨(some 47), none, .p (.iaddrS 8), [.t 46, .c (.int .i64 0)]⟩ ::
 ⟨(some 48), none, .p (.faddr 2), [.t 47]⟩ ::
 ⟨none, none, .e (.store 1), [.t 48, .c (.int .i64 8)]⟩ ::
 []))
(.seq (.ops (⟨(some 50), none, .p .mov, [.t 11]⟩ ::
 ⟨(some 51), none, .call, [.c (.func (.func 54) [] []), .t 50, .c (.int .i64 0)]⟩ ::
 ⟨(some 49), none, .p .mov, [.t 51]⟩ ::
 ⟨(some 52), none, .p (.ext 0), [.t 49]⟩ ::
 ⟨(some 53), none, .p (.ext 1), [.t 49]⟩ ::
 ⟨(some 12), none, .p .mov, [.t 52]⟩ ::
 ⟨(some 13), none, .p .mov, [.t 53]⟩ ::
 []))
(.seq (.ops (⟨(some 55), none, .p .mov, [.t 11]⟩ ::
 ⟨(some 56), none, .call, [.c (.func (.func 54) [] []), .t 55, .c (.int .i64 1)]⟩ ::
 ⟨(some 54), none, .p .mov, [.t 56]⟩ ::
 ⟨(some 57), none, .p (.ext 0), [.t 54]⟩ ::
 ⟨(some 58), none, .p (.ext 1), [.t 54]⟩ ::
 ⟨(some 14), none, .p .mov, [.t 57]⟩ ::
 ⟨(some 15), none, .p .mov, [.t 58]⟩ ::
 []))
(.seq (.ops (⟨(some 59), none, .p .mov, [.t 1]⟩ ::
 ⟨(some 60), none, .p (.bin .eql), [.t 59, .c (.int .i64 1)]⟩ ::
 ⟨(some 61), none, .p .mov, [.t 60]⟩ ::
 ⟨(some 62), (some (61, true)), .p .mov, [.t 2]⟩ ::
 ⟨(some 63), (some (61, true)), .p (.bin .eql), [.t 62, .c (.int .i64 8)]⟩ ::
 ⟨(some 64), none, .p .pick, [.t 61, .t 63, .c (.bool false)]⟩ ::
 ⟨(some 65), none, .p .mov, [.t 64]⟩ ::
 ⟨(some 66), (some (65, true)), .p .mov, [.t 3]⟩ ::
 ⟨(some 67), (some (65, true)), .p (.bin .eql), [.t 66, .c (.int .i64 0)]⟩ ::
 ⟨(some 68), none, .p .pick, [.t 65, .t 67, .c (.bool false)]⟩ ::
 ⟨(some 69), none, .p .mov, [.t 68]⟩ ::
 ⟨(some 70), (some (69, true)), .p .mov, [.t 6]⟩ ::
 ⟨(some 71), (some (69, true)), .p (.bin .eql), [.t 70, .c (.int .i64 120)]⟩ ::
 ⟨(some 72), none, .p .pick, [.t 69, .t 71, .c (.bool false)]⟩ ::
 ⟨(some 73), none, .p .mov, [.t 72]⟩ ::
 ⟨(some 74), (some (73, true)), .p .mov, [.t 8]⟩ ::
 ⟨(some 75), (some (73, true)), .p (.bin .eql), [.t 74, .c (.int .i64 0)]⟩ ::
 ⟨(some 76), none, .p .pick, [.t 73, .t 75, .c (.bool false)]⟩ ::
 ⟨(some 77), none, .p .mov, [.t 76]⟩ ::
 ⟨(some 78), (some (77, true)), .p .mov, [.t 7]⟩ ::
 ⟨(some 79), (some (77, true)), .p .lenS, [.t 78]⟩ ::
 ⟨(some 80), (some (77, true)), .p (.bin .eql), [.t 79, .c (.int .i64 2)]⟩ ::
 ⟨(some 81), none, .p .pick, [.t 77, .t 80, .c (.bool false)]⟩ ::
 ⟨(some 82), none, .p .mov, [.t 81]⟩ ::
 ⟨(some 83), (some (82, true)), .p .mov, [.t 7]⟩ ::
 ⟨(some 84), (some (82, true)), .p (.iaddrS 3), [.t 83, .c (.int .i64 0)]⟩ ::
 ⟨(some 85), (some (82, true)), .p (.faddr 1), [.t 84]⟩ ::
 ⟨(some 86), (some (82, true)), .r .load1, [.t 85]⟩ ::
 ⟨(some 87), (some (82, true)), .p (.bin .eql), [.t 86, .c (.int .i64 1)]⟩ ::
 ⟨(some 88), none, .p .pick, [.t 82, .t 87, .c (.bool false)]⟩ ::
 ⟨(some 89), none, .p .mov, [.t 88]⟩ ::
 ⟨(some 90), (some (89, true)), .p .mov, [.t 7]⟩ ::
 ⟨(some 91), (some (89, true)), .p (.iaddrS 3), [.t 90, .c (.int .i64 1)]⟩ ::
 ⟨(some 92), (some (89, true)), .p (.faddr 1), [.t 91]⟩ ::
 ⟨(some 93), (some (89, true)), .r .load1, [.t 92]⟩ ::
 ⟨(some 94), (some (89, true)), .p (.bin .eql), [.t 93, .c (.int .i64 2)]⟩ ::
 ⟨(some 95), none, .p .pick, [.t 89, .t 94, .c (.bool false)]⟩ ::
 ⟨(some 96), none, .p .mov, [.t 95]⟩ ::
 ⟨(some 97), (some (96, true)), .p .mov, [.t 7]⟩ ::
 ⟨(some 98), (some (96, true)), .p (.iaddrS 3), [.t 97, .c (.int .i64 1)]⟩ ::
 ⟨(some 99), (some (96, true)), .p (.faddr 0), [.t 98]⟩ ::
 ⟨(some 100), (some (96, true)), .r .load1, [.t 99]⟩ ::
 ⟨(some 101), (some (96, true)), .p (.bin .eql), [.t 100, .c (.int .i64 8)]⟩ ::
 ⟨(some 102), none, .p .pick, [.t 96, .t 101, .c (.bool false)]⟩ ::
 ⟨(some 103), none, .p .mov, [.t 102]⟩ ::
 ⟨(some 104), (some (103, true)), .p .mov, [.t 10]⟩ ::
 ⟨(some 105), (some (103, true)), .p (.bin .eql), [.t 104, .c (.int .i64 2)]⟩ ::
 ⟨(some 106), none, .p .pick, [.t 103, .t 105, .c (.bool false)]⟩ ::
 ⟨(some 107), none, .p .mov, [.t 106]⟩ ::
 ⟨(some 108), (some (107, true)), .p .mov, [.t 12]⟩ ::
 ⟨(some 109), (some (107, true)), .p (.bin .eql), [.t 108, .c (.int .i64 4)]⟩ ::
 ⟨(some 110), none, .p .pick, [.t 107, .t 109, .c (.bool false)]⟩ ::
 ⟨(some 111), none, .p .mov, [.t 110]⟩ ::
 ⟨(some 112), (some (111, true)), .p .mov, [.t 13]⟩ ::
 ⟨(some 113), (some (111, true)), .p (.bin .eql), [.t 112, .c (.int .i64 0)]⟩ ::
 ⟨(some 114), none, .p .pick, [.t 111, .t 113, .c (.bool false)]⟩ ::
 ⟨(some 115), none, .p .mov, [.t 114]⟩ ::
 ⟨(some 116), (some (115, true)), .p .mov, [.t 15]⟩ ::
 ⟨(some 117), (some (115, true)), .p (.bin .eql), [.t 116, .c (.int .i64 9)]⟩ ::
 ⟨(some 118), none, .p .pick, [.t 115, .t 117, .c (.bool false)]⟩ ::
 ⟨(some 0), none, .p .mov, [.t 118]⟩ ::
 []))
.ret))))))))))⟩
abbrev f_escapementlaw30_works : Nat := 34
abbrev C_escapementlaw30_works : AFunc := C34
def C42 : AFunc := ⟨8, [.tmp 2],
(.seq (.ops (⟨(some 2), none, .p .mov, [.c .nils]⟩ ::
 []))
(.seq (.seq (.ops (⟨(some 3), none, .p .mov, [.t 0]⟩ ::
 ⟨(some 4), none, .p (.eq .nilsl), [.t 3, .c .nils]⟩ ::
 []))
(.cond (.t 4)
(.seq (.ops (⟨(some 2), none, .p .mov, [.c .nils]⟩ ::
 []))
.ret)
.skip))
(.seq (.ops (⟨(some 5), none, .a (.bslice [(.int .i64 0), (.int .i64 0), .nils] 0 3 []), []⟩ ::
 ⟨(some 6), none, .p .mov, [.t 0]⟩ ::
 ⟨(some 7), none, .e (.append 3 40), [.t 5, .t 6]⟩ ::
 ⟨(some 2), none, .p .mov, [.t 7]⟩ ::
 []))
.ret)))⟩
abbrev f_slices_Clone_api_Part_api_Part : Nat := 42
abbrev C_slices_Clone_api_Part_api_Part : AFunc := C42
def C50 : AFunc := ⟨18, [.tmp 2, .tmp 3, .tmp 4],
(.seq (.ops (⟨(some 2), none, .p .mov, [.c (.int .i64 0)]⟩ ::
 ⟨(some 3), none, .p .mov, [.c (.int .i64 0)]⟩ ::
 ⟨(some 4), none, .p .mov, [.c (.int .i64 0)]⟩ ::
 []))
(.seq (.ops (⟨(some 8), none, .p .mov, [.t 0]⟩ ::
 ⟨(some 9), none, .call, [.c (.func (.func 76) [] []), .t 8]⟩ ::
 ⟨(some 7), none, .p .mov, [.t 9]⟩ ::
 ⟨(some 10), none, .p (.ext 0), [.t 7]⟩ ::
 ⟨(some 11), none, .p (.ext 1), [.t 7]⟩ ::
 ⟨(some 5), none, .a (.alloc [(.int .i64 0), (.int .i64 0)]), []⟩ ::
 ⟨none, none, .e (.store 2), [.t 5, .t 10]⟩ ::
 ⟨(some 6), none, .p .mov, [.t 11]⟩ ::
 []))
(.seq (.seq (.ops (⟨(some 12), none, .p .mov, [.t 6]⟩ ::
 ⟨(some 13), none, .p .not, [.t 12]⟩ ::
 []))
(.cond (.t 13)
(.seq (.ops (⟨(some 2), none, .p .mov, [.c (.int .i64 0)]⟩ ::
 ⟨(some 3), none, .p .mov, [.c (.int .i64 0)]⟩ ::
 ⟨(some 4), none, .p .mov, [.c (.int .i64 2)]⟩ ::
 []))
.ret)
.skip))
(.seq (.dops (⟨(some 14), none, .p (.faddr 0), [.t 5]⟩ ::
 ⟨(some 15), none, .r .load1, [.t 14]⟩ ::
 ⟨(some 16), none, .p (.faddr 1), [.t 5]⟩ ::
 ⟨(some 17), none, .r .load1, [.t 16]⟩ ::
 ⟨(some 2), none, .p .mov, [.t 15]⟩ ::
 ⟨(some 3), none, .p .mov, [.t 17]⟩ ::
 ⟨(some 4), none, .p .mov, [.c (.int .i64 0)]⟩ ::
 []) ([] :: [] :: [] :: [] :: [] :: [] :: [] :: []))
.ret))))⟩
abbrev f_share_Sum : Nat := 50
abbrev C_share_Sum : AFunc := C50
def L_escapementref11_Sum_0 : AC := (.seq (.seq (.ops (⟨(some 14), none, .p .mov, [.t 7]⟩ ::
 ⟨(some 15), none, .p .mov, [.t 0]⟩ ::
 ⟨(some 16), none, .p .lenS, [.t 15]⟩ ::
 ⟨(some 17), none, .p (.bin .lss), [.t 14, .t 16]⟩ ::
 []))
(.cond (.t 17)
.skip
(.exit 0)))
(.seq (.block 1 (.seq (.ops (⟨(some 20), none, .p .mov, [.t 0]⟩ ::
 ⟨(some 21), none, .p .mov, [.t 7]⟩ ::
 ⟨(some 22), none, .p (.iaddrS 3), [.t 20, .t 21]⟩ ::
 ⟨(some 23), none, .r (.loadN 3), [.t 22]⟩ ::
 ⟨(some 8), none, .a (.alloc [(.int .i64 0), (.int .i64 0), .nils]), []⟩ ::
 ⟨none, none, .e (.store 3), [.t 8, .t 23]⟩ ::
 []))
(.seq (.seq (.ops (⟨(some 24), none, .p (.faddr 0), [.t 8]⟩ ::
 ⟨(some 25), none, .r .load1, [.t 24]⟩ ::
 ⟨(some 26), none, .p (.bin .lss), [.t 25, .c (.int .i64 1)]⟩ ::
 ⟨(some 27), none, .p .mov, [.t 26]⟩ ::
 ⟨(some 28), (some (27, false)), .p (.faddr 0), [.t 8]⟩ ::
 ⟨(some 29), (some (27, false)), .r .load1, [.t 28]⟩ ::
 ⟨(some 30), (some (27, false)), .p (.bin .gtr), [.t 29, .c (.int .i64 64)]⟩ ::
 ⟨(some 31), none, .p .pick, [.t 27, .c (.bool true), .t 30]⟩ ::
 ⟨(some 32), none, .p .mov, [.t 31]⟩ ::
 ⟨(some 33), (some (32, false)), .p (.faddr 1), [.t 8]⟩ ::
 ⟨(some 34), (some (32, false)), .r .load1, [.t 33]⟩ ::
 ⟨(some 35), (some (32, false)), .p (.bin .lss), [.t 34, .c (.int .i64 1)]⟩ ::
 ⟨(some 36), none, .p .pick, [.t 32, .c (.bool true), .t 35]⟩ ::
 ⟨(some 37), none, .p .mov, [.t 36]⟩ ::
 ⟨(some 38), (some (37, false)), .p (.faddr 1), [.t 8]⟩ ::
 ⟨(some 39), (some (37, false)), .r .load1, [.t 38]⟩ ::
 ⟨(some 40), (some (37, false)), .p (.faddr 0), [.t 8]⟩ ::
 ⟨(some 41), (some (37, false)), .r .load1, [.t 40]⟩ ::
 ⟨(some 42), (some (37, false)), .p (.bin .gtr), [.t 39, .t 41]⟩ ::
 ⟨(some 43), none, .p .pick, [.t 37, .c (.bool true), .t 42]⟩ ::
 []))
(.cond (.t 43)
(.seq (.ops (⟨(some 2), none, .p .mov, [.c (.int .i64 0)]⟩ ::
 ⟨(some 3), none, .p .mov, [.c (.int .i64 0)]⟩ ::
 ⟨(some 4), none, .p .mov, [.c (.int .i64 2)]⟩ ::
 []))
.ret)
.skip))
(.seq (.ops (⟨(some 44), none, .p .mov, [.t 5]⟩ ::
 ⟨(some 45), none, .p (.faddr 0), [.t 8]⟩ ::
 ⟨(some 46), none, .r .load1, [.t 45]⟩ ::
 ⟨(some 47), none, .p (.bin .mul), [.t 44, .t 46]⟩ ::
 ⟨(some 48), none, .p (.faddr 1), [.t 8]⟩ ::
 ⟨(some 49), none, .r .load1, [.t 48]⟩ ::
 ⟨(some 50), none, .p .mov, [.t 6]⟩ ::
 ⟨(some 51), none, .p (.bin .mul), [.t 49, .t 50]⟩ ::
 ⟨(some 52), none, .p (.bin .add), [.t 47, .t 51]⟩ ::
 ⟨(some 5), none, .p .mov, [.t 52]⟩ ::
 []))
(.ops (⟨(some 53), none, .p .mov, [.t 6]⟩ ::
 ⟨(some 54), none, .p (.faddr 0), [.t 8]⟩ ::
 ⟨(some 55), none, .r .load1, [.t 54]⟩ ::
 ⟨(some 56), none, .p (.bin .mul), [.t 53, .t 55]⟩ ::
 ⟨(some 6), none, .p .mov, [.t 56]⟩ ::
 []))))))
(.ops (⟨(some 18), none, .p .mov, [.t 7]⟩ ::
 ⟨(some 19), none, .p (.bin .add), [.t 18, .c (.int .i64 1)]⟩ ::
 ⟨(some 7), none, .p .mov, [.t 19]⟩ ::
 []))))
def L_escapementref11_Sum_1 : AC := (.seq (.seq (.ops (⟨(some 59), none, .p .mov, [.t 10]⟩ ::
 ⟨(some 60), none, .p (.bin .gtr), [.t 59, .c (.int .i64 0)]⟩ ::
 []))
(.cond (.t 60)
.skip
(.exit 2)))
(.block 3 (.dops (⟨(some 61), none, .p .mov, [.t 10]⟩ ::
 ⟨(some 62), none, .p .mov, [.t 9]⟩ ::
 ⟨(some 63), none, .p .mov, [.t 10]⟩ ::
 ⟨(some 64), none, .p (.bin .rem), [.t 62, .t 63]⟩ ::
 ⟨(some 9), none, .p .mov, [.t 61]⟩ ::
 ⟨(some 10), none, .p .mov, [.t 64]⟩ ::
 []) ([] :: [] :: [] :: [] :: [] :: [] :: []))))
def C51 : AFunc := ⟨71, [.tmp 2, .tmp 3, .tmp 4],
(.seq (.ops (⟨(some 2), none, .p .mov, [.c (.int .i64 0)]⟩ ::
 ⟨(some 3), none, .p .mov, [.c (.int .i64 0)]⟩ ::
 ⟨(some 4), none, .p .mov, [.c (.int .i64 0)]⟩ ::
 []))
(.seq (.seq (.ops (⟨(some 11), none, .p .mov, [.t 0]⟩ ::
 ⟨(some 12), none, .p .lenS, [.t 11]⟩ ::
 ⟨(some 13), none, .p (.bin .gtr), [.t 12, .c (.int .i64 4)]⟩ ::
 []))
(.cond (.t 13)
(.seq (.ops (⟨(some 2), none, .p .mov, [.c (.int .i64 0)]⟩ ::
 ⟨(some 3), none, .p .mov, [.c (.int .i64 0)]⟩ ::
 ⟨(some 4), none, .p .mov, [.c (.int .i64 2)]⟩ ::
 []))
.ret)
.skip))
(.seq (.ops (⟨(some 5), none, .p .mov, [.c (.int .i64 0)]⟩ ::
 ⟨(some 6), none, .p .mov, [.c (.int .i64 1)]⟩ ::
 []))
(.seq (.seq (.ops (⟨(some 7), none, .p .mov, [.c (.int .i64 0)]⟩ ::
 []))
(.block 0 (.loop L_escapementref11_Sum_0)))
(.seq (.ops (⟨(some 57), none, .p .mov, [.t 5]⟩ ::
 ⟨(some 58), none, .p .mov, [.t 6]⟩ ::
 ⟨(some 9), none, .p .mov, [.t 57]⟩ ::
 ⟨(some 10), none, .p .mov, [.t 58]⟩ ::
 []))
(.seq (.block 2 (.loop L_escapementref11_Sum_1))
(.seq (.dops (⟨(some 65), none, .p .mov, [.t 5]⟩ ::
 ⟨(some 66), none, .p .mov, [.t 9]⟩ ::
 ⟨(some 67), none, .p (.bin .quo), [.t 65, .t 66]⟩ ::
 ⟨(some 68), none, .p .mov, [.t 6]⟩ ::
 ⟨(some 69), none, .p .mov, [.t 9]⟩ ::
 ⟨(some 70), none, .p (.bin .quo), [.t 68, .t 69]⟩ ::
 ⟨(some 2), none, .p .mov, [.t 67]⟩ ::
 ⟨(some 3), none, .p .mov, [.t 70]⟩ ::
 ⟨(some 4), none, .p .mov, [.c (.int .i64 0)]⟩ ::
 []) ([] :: [] :: [] :: [] :: [] :: [] :: [] :: [] :: [] :: []))
.ret)))))))⟩
abbrev f_escapementref11_Sum : Nat := 51
abbrev C_escapementref11_Sum : AFunc := C51
def C52 : AFunc := ⟨8, [.tmp 2],
(.seq (.ops (⟨(some 2), none, .p .mov, [.c .nils]⟩ ::
 []))
(.seq (.seq (.ops (⟨(some 3), none, .p .mov, [.t 0]⟩ ::
 ⟨(some 4), none, .p (.eq .nilsl), [.t 3, .c .nils]⟩ ::
 []))
(.cond (.t 4)
(.seq (.ops (⟨(some 2), none, .p .mov, [.c .nils]⟩ ::
 []))
.ret)
.skip))
(.seq (.ops (⟨(some 5), none, .a (.bslice [(.int .i64 0), (.int .i64 0), (.int .i64 0), (.int .i64 0), (.int .i64 0), (.int .i64 0), (.int .i64 0), (.int .i64 0)] 0 8 []), []⟩ ::
 ⟨(some 6), none, .p .mov, [.t 0]⟩ ::
 ⟨(some 7), none, .e (.append 8 64), [.t 5, .t 6]⟩ ::
 ⟨(some 2), none, .p .mov, [.t 7]⟩ ::
 []))
.ret)))⟩
abbrev f_slices_Clone_api_Task_api_Task : Nat := 52
abbrev C_slices_Clone_api_Task_api_Task : AFunc := C52
def C53 : AFunc := ⟨14, [.tmp 4],
(.seq (.ops (⟨(some 4), none, .p .mov, [.c .nils]⟩ ::
 []))
(.seq (.ops (⟨(some 5), none, .p .mov, [.t 0]⟩ ::
 ⟨(some 6), none, .p (.build [(.int .i64 0), (.int .i64 0), (.int .i64 0), (.int .i64 0), (.int .i64 0), (.int .i64 0), (.int .i64 0), (.int .i64 0)] [(0, 1), (1, 1), (2, 1)]), [.c (.int .i64 8), .c (.int .i64 8), .c (.int .i64 2)]⟩ ::
 ⟨(some 7), none, .a (.bslice [(.int .i64 0), (.int .i64 0), (.int .i64 0), (.int .i64 0), (.int .i64 0), (.int .i64 0), (.int .i64 0), (.int .i64 0)] 1 8 [0]), [.t 6]⟩ ::
 ⟨(some 8), none, .p (.build [(.int .i64 0), (.int .i64 0), .nils] [(0, 1), (1, 1), (2, 1)]), [.c (.int .i64 4), .t 5, .t 7]⟩ ::
 ⟨(some 9), none, .p .mov, [.t 1]⟩ ::
 ⟨(some 10), none, .p (.build [(.int .i64 0), (.int .i64 0), (.int .i64 0), (.int .i64 0), (.int .i64 0), (.int .i64 0), (.int .i64 0), (.int .i64 0)] [(0, 1), (1, 1), (2, 1)]), [.c (.int .i64 8), .c (.int .i64 8), .c (.int .i64 3)]⟩ ::
 ⟨(some 11), none, .a (.bslice [(.int .i64 0), (.int .i64 0), (.int .i64 0), (.int .i64 0), (.int .i64 0), (.int .i64 0), (.int .i64 0), (.int .i64 0)] 1 8 [0]), [.t 10]⟩ ::
 ⟨(some 12), none, .p (.build [(.int .i64 0), (.int .i64 0), .nils] [(0, 1), (1, 1), (2, 1)]), [.c (.int .i64 8), .t 9, .t 11]⟩ ::
 ⟨(some 13), none, .a (.bslice [(.int .i64 0), (.int .i64 0), .nils] 2 3 [0, 1]), [.t 8, .t 12]⟩ ::
 ⟨(some 4), none, .p .mov, [.t 13]⟩ ::
 []))
.ret))⟩
abbrev f_escapementlaw30_pair : Nat := 53
abbrev C_escapementlaw30_pair : AFunc := C53
def C54 : AFunc := ⟨21, [.tmp 4, .tmp 5],
(.seq (.ops (⟨(some 4), none, .p .mov, [.c (.int .i64 0)]⟩ ::
 ⟨(some 5), none, .p .mov, [.c (.int .i64 0)]⟩ ::
 []))
(.seq (.seq (.ops (⟨(some 6), none, .p .mov, [.t 0]⟩ ::
 ⟨(some 7), none, .p .mov, [.t 1]⟩ ::
 ⟨(some 8), none, .call, [.c (.func (.func 77) [] []), .t 6, .t 7]⟩ ::
 ⟨(some 9), none, .p .not, [.t 8]⟩ ::
 []))
(.cond (.t 9)
(.seq (.ops (⟨(some 4), none, .p .mov, [.c (.int .i64 0)]⟩ ::
 ⟨(some 5), none, .p .mov, [.c (.int .i64 9)]⟩ ::
 []))
.ret)
.skip))
(.seq (.seq (.ops (⟨(some 10), none, .p .mov, [.t 0]⟩ ::
 ⟨(some 11), none, .p .mov, [.t 1]⟩ ::
 ⟨(some 12), none, .p .mov, [.t 0]⟩ ::
 ⟨(some 13), none, .p .mov, [.t 1]⟩ ::
 ⟨(some 14), none, .p (.iaddrS 3), [.t 12, .t 13]⟩ ::
 ⟨(some 15), none, .p (.faddr 0), [.t 14]⟩ ::
 ⟨(some 16), none, .r .load1, [.t 15]⟩ ::
 ⟨(some 17), none, .call, [.c (.func (.func 78) [] []), .t 10, .t 11, .t 16]⟩ ::
 ⟨(some 4), none, .p .mov, [.t 17]⟩ ::
 []))
(.seq (.ops (⟨(some 18), none, .p .mov, [.t 4]⟩ ::
 ⟨(some 19), none, .p (.bin .eql), [.t 18, .c (.int .i64 0)]⟩ ::
 []))
(.cond (.t 19)
(.seq (.ops (⟨(some 4), none, .p .mov, [.c (.int .i64 0)]⟩ ::
 ⟨(some 5), none, .p .mov, [.c (.int .i64 120)]⟩ ::
 []))
.ret)
.skip)))
(.seq (.ops (⟨(some 20), none, .p .mov, [.t 4]⟩ ::
 ⟨(some 4), none, .p .mov, [.t 20]⟩ ::
 ⟨(some 5), none, .p .mov, [.c (.int .i64 0)]⟩ ::
 []))
.ret))))⟩
abbrev f_tune_Need : Nat := 54
abbrev C_tune_Need : AFunc := C54
def L_share_sum_0 : AC := (.seq (.ops (⟨(some 15), none, .p (.bin .lss), [.t 14, .t 13]⟩ ::
 []))
(.seq (.cond (.t 15)
.skip
(.exit 0))
(.seq (.block 1 (.seq (.ops (⟨(some 16), none, .p (.iaddrS 3), [.t 12, .t 14]⟩ ::
 ⟨(some 17), none, .r (.loadN 3), [.t 16]⟩ ::
 ⟨(some 6), none, .a (.alloc [(.int .i64 0), (.int .i64 0), .nils]), []⟩ ::
 ⟨none, none, .e (.store 3), [.t 6, .t 17]⟩ ::
 []))
(.seq (.seq (.ops (⟨(some 18), none, .p (.faddr 0), [.t 6]⟩ ::
 ⟨(some 19), none, .r .load1, [.t 18]⟩ ::
 ⟨(some 20), none, .p (.bin .gtr), [.t 19, .c (.int .i64 64)]⟩ ::
 ⟨(some 21), none, .p .mov, [.t 20]⟩ ::
 ⟨(some 22), (some (21, false)), .p (.faddr 1), [.t 6]⟩ ::
 ⟨(some 23), (some (21, false)), .r .load1, [.t 22]⟩ ::
 ⟨(some 24), (some (21, false)), .p (.bin .lss), [.t 23, .c (.int .i64 1)]⟩ ::
 ⟨(some 25), none, .p .pick, [.t 21, .c (.bool true), .t 24]⟩ ::
 ⟨(some 26), none, .p .mov, [.t 25]⟩ ::
 ⟨(some 27), (some (26, false)), .p (.faddr 1), [.t 6]⟩ ::
 ⟨(some 28), (some (26, false)), .r .load1, [.t 27]⟩ ::
 ⟨(some 29), (some (26, false)), .p (.faddr 0), [.t 6]⟩ ::
 ⟨(some 30), (some (26, false)), .r .load1, [.t 29]⟩ ::
 ⟨(some 31), (some (26, false)), .p (.bin .gtr), [.t 28, .t 30]⟩ ::
 ⟨(some 32), none, .p .pick, [.t 26, .c (.bool true), .t 31]⟩ ::
 []))
(.cond (.t 32)
(.seq (.ops (⟨(some 33), none, .r (.loadN 2), [.t 4]⟩ ::
 ⟨none, none, .e (.store 2), [.t 2, .t 33]⟩ ::
 ⟨(some 3), none, .p .mov, [.c (.bool false)]⟩ ::
 []))
.ret)
.skip))
(.ops (⟨(some 34), none, .r (.loadN 2), [.t 4]⟩ ::
 ⟨(some 35), none, .p (.faddr 1), [.t 6]⟩ ::
 ⟨(some 36), none, .r .load1, [.t 35]⟩ ::
 ⟨(some 37), none, .p (.faddr 0), [.t 6]⟩ ::
 ⟨(some 38), none, .r .load1, [.t 37]⟩ ::
 ⟨(some 39), none, .p (.build [(.int .i64 0), (.int .i64 0)] [(0, 1), (1, 1)]), [.t 36, .t 38]⟩ ::
 ⟨(some 40), none, .call, [.c (.func (.func 97) [] []), .t 34, .t 39]⟩ ::
 ⟨none, none, .e (.store 2), [.t 4, .t 40]⟩ ::
 [])))))
(.ops (⟨(some 41), none, .p (.bin .add), [.t 14, .c (.int .i64 1)]⟩ ::
 ⟨(some 14), none, .p .mov, [.t 41]⟩ ::
 [])))))
def C76 : AFunc := ⟨43, [.cell 2 2 true, .tmp 3],
(.seq (.ops (⟨(some 2), none, .a (.alloc [(.int .i64 0), (.int .i64 0)]), []⟩ ::
 ⟨(some 3), none, .p .mov, [.c (.bool false)]⟩ ::
 []))
(.seq (.ops (⟨(some 7), none, .p (.build [(.int .i64 0), (.int .i64 0)] [(0, 1), (1, 1)]), [.c (.int .i64 0), .c (.int .i64 1)]⟩ ::
 ⟨(some 4), none, .a (.alloc [(.int .i64 0), (.int .i64 0)]), []⟩ ::
 ⟨none, none, .e (.store 2), [.t 4, .t 7]⟩ ::
 []))
(.seq (.seq (.ops (⟨(some 8), none, .p .mov, [.t 0]⟩ ::
 ⟨(some 9), none, .p .lenS, [.t 8]⟩ ::
 ⟨(some 10), none, .p (.bin .gtr), [.t 9, .c (.int .i64 4)]⟩ ::
 []))
(.cond (.t 10)
(.seq (.ops (⟨(some 11), none, .r (.loadN 2), [.t 4]⟩ ::
 ⟨none, none, .e (.store 2), [.t 2, .t 11]⟩ ::
 ⟨(some 3), none, .p .mov, [.c (.bool false)]⟩ ::
 []))
.ret)
.skip))
(.seq (.seq (.ops (⟨(some 12), none, .p .mov, [.t 0]⟩ ::
 ⟨(some 13), none, .p .lenS, [.t 12]⟩ ::
 ⟨(some 14), none, .p .mov, [.c (.int .i64 0)]⟩ ::
 []))
(.block 0 (.loop L_share_sum_0)))
(.seq (.ops (⟨(some 42), none, .r (.loadN 2), [.t 4]⟩ ::
 ⟨none, none, .e (.store 2), [.t 2, .t 42]⟩ ::
 ⟨(some 3), none, .p .mov, [.c (.bool true)]⟩ ::
 []))
.ret)))))⟩
abbrev f_share_sum : Nat := 76
abbrev C_share_sum : AFunc := C76
def C77 : AFunc := ⟨13, [.tmp 4],
(.seq (.ops (⟨(some 4), none, .p .mov, [.c (.bool false)]⟩ ::
 []))
(.seq (.ops (⟨(some 5), none, .p .mov, [.t 1]⟩ ::
 ⟨(some 6), none, .p (.bin .geq), [.t 5, .c (.int .i64 0)]⟩ ::
 ⟨(some 7), none, .p .mov, [.t 6]⟩ ::
 ⟨(some 8), (some (7, true)), .p .mov, [.t 1]⟩ ::
 ⟨(some 9), (some (7, true)), .p .mov, [.t 0]⟩ ::
 ⟨(some 10), (some (7, true)), .p .lenS, [.t 9]⟩ ::
 ⟨(some 11), (some (7, true)), .p (.bin .lss), [.t 8, .t 10]⟩ ::
 ⟨(some 12), none, .p .pick, [.t 7, .t 11, .c (.bool false)]⟩ ::
 ⟨(some 4), none, .p .mov, [.t 12]⟩ ::
 []))
.ret))⟩
abbrev f_tune_there : Nat := 77
abbrev C_tune_there : AFunc := C77
def L_tune_need_0 : AC := (.seq (.ops (⟨(some 21), none, .p (.bin .lss), [.t 20, .t 19]⟩ ::
 []))
(.seq (.cond (.t 21)
.skip
(.exit 0))
(.seq (.block 1 (.seq (.ops (⟨(some 22), none, .p .mov, [.t 20]⟩ ::
 ⟨(some 9), none, .p .mov, [.t 22]⟩ ::
 []))
(.seq (.ops (⟨(some 23), none, .p .mov, [.t 8]⟩ ::
 ⟨(some 24), none, .p .mov, [.t 9]⟩ ::
 ⟨(some 25), none, .p (.bin .add), [.t 24, .c (.int .i64 1)]⟩ ::
 ⟨(some 26), none, .call, [.t 23, .t 25]⟩ ::
 []))
(.cond (.t 26)
(.seq (.ops (⟨(some 27), none, .p .mov, [.t 9]⟩ ::
 ⟨(some 28), none, .p (.bin .add), [.t 27, .c (.int .i64 1)]⟩ ::
 ⟨(some 6), none, .p .mov, [.t 28]⟩ ::
 []))
.ret)
.skip))))
(.ops (⟨(some 29), none, .p (.bin .add), [.t 20, .c (.int .i64 1)]⟩ ::
 ⟨(some 20), none, .p .mov, [.t 29]⟩ ::
 [])))))
def C78 : AFunc := ⟨30, [.tmp 6],
(.seq (.ops (⟨(some 4), none, .a .box, [.t 1]⟩ ::
 ⟨(some 6), none, .p .mov, [.c (.int .i64 0)]⟩ ::
 []))
(.seq (.ops (⟨(some 10), none, .p .mov, [.t 0]⟩ ::
 ⟨(some 11), none, .call, [.c (.func (.func 42) [] []), .t 10]⟩ ::
 ⟨(some 7), none, .a (.alloc [.nils]), []⟩ ::
 ⟨none, none, .e (.store 1), [.t 7, .t 11]⟩ ::
 []))
(.seq (.ops (⟨(some 12), none, .r .load1, [.t 7]⟩ ::
 ⟨(some 13), none, .r .load1, [.t 4]⟩ ::
 ⟨(some 14), none, .p .mov, [.t 2]⟩ ::
 ⟨(some 15), none, .p (.iaddrS 3), [.t 12, .t 13]⟩ ::
 ⟨(some 16), none, .p (.faddr 0), [.t 15]⟩ ::
 ⟨none, none, .e (.store 1), [.t 16, .t 14]⟩ ::
 []))
(.seq (.ops (⟨(some 17), none, .p (.mkfunc (.func 98) 0), [.t 7, .t 4]⟩ ::
 ⟨(some 8), none, .p .mov, [.t 17]⟩ ::
 []))
(.seq (.seq (.ops (⟨(some 18), none, .p .mov, [.t 2]⟩ ::
 ⟨(some 19), none, .p .mn, [.t 18, .c (.int .i64 64)]⟩ ::
 ⟨(some 20), none, .p .mov, [.c (.int .i64 0)]⟩ ::
 []))
(.block 0 (.loop L_tune_need_0)))
(.seq (.ops (⟨(some 6), none, .p .mov, [.c (.int .i64 0)]⟩ ::
 []))
.ret))))))⟩
abbrev f_tune_need : Nat := 78
abbrev C_tune_need : AFunc := C78
def C80 : AFunc := ⟨9, [.tmp 4],
(.seq (.ops (⟨(some 4), none, .p .mov, [.c (.bool false)]⟩ ::
 []))
(.seq (.ops (⟨(some 5), none, .p .mov, [.t 0]⟩ ::
 ⟨(some 6), none, .p .mov, [.t 1]⟩ ::
 ⟨(some 7), none, .call, [.c (.func (.func 100) [] []), .t 5, .t 6]⟩ ::
 ⟨(some 8), none, .p (.bin .geq), [.t 7, .c (.int .i64 0)]⟩ ::
 ⟨(some 4), none, .p .mov, [.t 8]⟩ ::
 []))
.ret))⟩
abbrev f_slices_ContainsFunc_api_Task_api_Task : Nat := 80
abbrev C_slices_ContainsFunc_api_Task_api_Task : AFunc := C80
def C97 : AFunc := ⟨40, [.cell 4 2 true],
(.seq (.ops (⟨(some 2), none, .a .box, [.t 0]⟩ ::
 ⟨(some 3), none, .a .box, [.t 1]⟩ ::
 ⟨(some 4), none, .a (.alloc [(.int .i64 0), (.int .i64 0)]), []⟩ ::
 []))
(.seq (.dops (⟨(some 10), none, .p (.faddr 0), [.t 2]⟩ ::
 ⟨(some 11), none, .r .load1, [.t 10]⟩ ::
 ⟨(some 12), none, .p (.faddr 1), [.t 3]⟩ ::
 ⟨(some 13), none, .r .load1, [.t 12]⟩ ::
 ⟨(some 14), none, .p (.bin .mul), [.t 11, .t 13]⟩ ::
 ⟨(some 15), none, .p (.faddr 0), [.t 3]⟩ ::
 ⟨(some 16), none, .r .load1, [.t 15]⟩ ::
 ⟨(some 17), none, .p (.faddr 1), [.t 2]⟩ ::
 ⟨(some 18), none, .r .load1, [.t 17]⟩ ::
 ⟨(some 19), none, .p (.bin .mul), [.t 16, .t 18]⟩ ::
 ⟨(some 20), none, .p (.bin .add), [.t 14, .t 19]⟩ ::
 ⟨(some 21), none, .p (.faddr 1), [.t 2]⟩ ::
 ⟨(some 22), none, .r .load1, [.t 21]⟩ ::
 ⟨(some 23), none, .p (.faddr 1), [.t 3]⟩ ::
 ⟨(some 24), none, .r .load1, [.t 23]⟩ ::
 ⟨(some 25), none, .p (.bin .mul), [.t 22, .t 24]⟩ ::
 ⟨(some 5), none, .p .mov, [.t 20]⟩ ::
 ⟨(some 6), none, .p .mov, [.t 25]⟩ ::
 []) ([] :: [] :: [] :: [] :: [] :: [] :: [] :: [] :: [] :: [] :: [] :: [] :: [] :: [] :: [] :: [] :: [] :: [] :: []))
(.seq (.ops (⟨(some 27), none, .p .mov, [.t 5]⟩ ::
 ⟨(some 28), none, .p .mov, [.t 6]⟩ ::
 ⟨(some 29), none, .call, [.c (.func (.func 105) [] []), .t 27, .t 28]⟩ ::
 ⟨(some 26), none, .p .mov, [.t 29]⟩ ::
 ⟨(some 30), none, .p (.ext 0), [.t 26]⟩ ::
 ⟨(some 31), none, .p (.ext 1), [.t 26]⟩ ::
 ⟨(some 7), none, .p .mov, [.t 30]⟩ ::
 ⟨(some 8), none, .p .mov, [.t 31]⟩ ::
 []))
(.seq (.ops (⟨(some 32), none, .p .mov, [.t 7]⟩ ::
 ⟨(some 9), none, .p .mov, [.t 32]⟩ ::
 []))
(.seq (.dops (⟨(some 33), none, .p .mov, [.t 5]⟩ ::
 ⟨(some 34), none, .p .mov, [.t 9]⟩ ::
 ⟨(some 35), none, .p (.bin .quo), [.t 33, .t 34]⟩ ::
 ⟨(some 36), none, .p .mov, [.t 6]⟩ ::
 ⟨(some 37), none, .p .mov, [.t 9]⟩ ::
 ⟨(some 38), none, .p (.bin .quo), [.t 36, .t 37]⟩ ::
 ⟨(some 39), none, .p (.build [(.int .i64 0), (.int .i64 0)] [(0, 1), (1, 1)]), [.t 35, .t 38]⟩ ::
 ⟨none, none, .e (.store 2), [.t 4, .t 39]⟩ ::
 []) ([] :: [] :: [] :: [] :: [] :: [] :: [] :: [] :: []))
.ret)))))⟩
abbrev f_share_fraction_int_plus : Nat := 97
abbrev C_share_fraction_int_plus : AFunc := C97
def C98 : AFunc := ⟨20, [.tmp 4],
(.seq (.ops (⟨(some 4), none, .p .mov, [.c (.bool false)]⟩ ::
 []))
(.seq (.ops (⟨(some 7), none, .r .load1, [.t 1]⟩ ::
 ⟨(some 8), none, .r .load1, [.t 2]⟩ ::
 ⟨(some 9), none, .p .mov, [.t 0]⟩ ::
 ⟨(some 10), none, .p (.iaddrS 3), [.t 7, .t 8]⟩ ::
 ⟨(some 11), none, .p (.faddr 1), [.t 10]⟩ ::
 ⟨none, none, .e (.store 1), [.t 11, .t 9]⟩ ::
 []))
(.seq (.ops (⟨(some 13), none, .r .load1, [.t 1]⟩ ::
 ⟨(some 14), none, .r .load1, [.t 2]⟩ ::
 ⟨(some 15), none, .call, [.c (.func (.func 99) [] []), .t 13, .t 14]⟩ ::
 ⟨(some 12), none, .p .mov, [.t 15]⟩ ::
 ⟨(some 16), none, .p (.ext 0), [.t 12]⟩ ::
 ⟨(some 17), none, .p (.ext 1), [.t 12]⟩ ::
 ⟨(some 5), none, .p .mov, [.t 16]⟩ ::
 ⟨(some 6), none, .p .mov, [.t 17]⟩ ::
 []))
(.seq (.ops (⟨(some 18), none, .p .mov, [.t 6]⟩ ::
 ⟨(some 19), none, .p (.bin .eql), [.t 18, .c (.int .i64 0)]⟩ ::
 ⟨(some 4), none, .p .mov, [.t 19]⟩ ::
 []))
.ret))))⟩
abbrev f_tune_need_1 : Nat := 98
abbrev C_tune_need_1 : AFunc := C98
def L_local_Test_0 : AC := (.seq (.ops (⟨(some 70), none, .p (.bin .lss), [.t 69, .t 68]⟩ ::
 []))
(.seq (.cond (.t 70)
.skip
(.exit 0))
(.seq (.block 1 (.seq (.ops (⟨(some 71), none, .p (.iaddrS 8), [.t 67, .t 69]⟩ ::
 ⟨(some 72), none, .r (.loadN 8), [.t 71]⟩ ::
 ⟨(some 12), none, .a (.alloc [(.int .i64 0), (.int .i64 0), (.int .i64 0), (.int .i64 0), (.int .i64 0), (.int .i64 0), (.int .i64 0), (.int .i64 0)]), []⟩ ::
 ⟨none, none, .e (.store 8), [.t 12, .t 72]⟩ ::
 []))
(.ops (⟨(some 73), none, .p .mov, [.t 10]⟩ ::
 ⟨(some 74), none, .p (.faddr 1), [.t 12]⟩ ::
 ⟨(some 75), none, .r .load1, [.t 74]⟩ ::
 ⟨(some 76), none, .p .mx, [.t 73, .t 75]⟩ ::
 ⟨(some 10), none, .p .mov, [.t 76]⟩ ::
 []))))
(.ops (⟨(some 77), none, .p (.bin .add), [.t 69, .c (.int .i64 1)]⟩ ::
 ⟨(some 69), none, .p .mov, [.t 77]⟩ ::
 [])))))
def L_local_Test_1a : AC := (.seq (.ops (⟨(some 13), none, .p .mov, [.t 90]⟩ ::
 []))
(.ops (⟨(some 14), none, .p .mov, [.t 91]⟩ ::
 [])))
def L_local_Test_1b : AC := (.block 3 (.seq (.ops (⟨(some 92), none, .p .mov, [.t 14]⟩ ::
 ⟨(some 93), none, .p (.bin .lss), [.t 92, .c (.int .i64 0)]⟩ ::
 []))
(.cond (.t 93)
(.seq (.ops (⟨(some 94), none, .p .mov, [.t 13]⟩ ::
 ⟨none, none, .e (.store 1), [.t 4, .t 94]⟩ ::
 ⟨none, none, .e (.store 1), [.t 5, .c (.int .i64 120)]⟩ ::
 []))
.ret)
.skip)))
def C99 : AFunc := ⟨95, [.cell 4 1 false, .cell 5 1 false],
(.seq (.ops (⟨(some 4), none, .a (.alloc [(.int .i64 0)]), []⟩ ::
 ⟨(some 5), none, .a (.alloc [(.int .i64 0)]), []⟩ ::
 []))
(.seq (.ops (⟨(some 16), none, .p .mov, [.t 0]⟩ ::
 ⟨(some 17), none, .p .mov, [.t 1]⟩ ::
 ⟨(some 18), none, .call, [.c (.func (.func 106) [] []), .t 16, .t 17]⟩ ::
 ⟨(some 15), none, .p .mov, [.t 18]⟩ ::
 ⟨(some 19), none, .p (.ext 0), [.t 15]⟩ ::
 ⟨(some 20), none, .p (.ext 1), [.t 15]⟩ ::
 ⟨(some 6), none, .a (.alloc [(.int .i64 0), (.int .i64 0), .nils, .nils, (.int .i64 0), .nils]), []⟩ ::
 ⟨none, none, .e (.store 6), [.t 6, .t 19]⟩ ::
 ⟨none, none, .e (.store 1), [.t 5, .t 20]⟩ ::
 []))
(.seq (.seq (.ops (⟨(some 21), none, .r .load1, [.t 5]⟩ ::
 ⟨(some 22), none, .p (.bin .neq), [.t 21, .c (.int .i64 0)]⟩ ::
 ⟨(some 23), none, .p .mov, [.t 22]⟩ ::
 ⟨(some 24), (some (23, false)), .p (.faddr 0), [.t 6]⟩ ::
 ⟨(some 25), (some (23, false)), .p (.faddr 2), [.t 24]⟩ ::
 ⟨(some 26), (some (23, false)), .r .load1, [.t 25]⟩ ::
 ⟨(some 27), (some (23, false)), .p .lenS, [.t 26]⟩ ::
 ⟨(some 28), (some (23, false)), .p (.bin .eql), [.t 27, .c (.int .i64 0)]⟩ ::
 ⟨(some 29), none, .p .pick, [.t 23, .c (.bool true), .t 28]⟩ ::
 []))
(.cond (.t 29)
(.seq (.dops (⟨(some 30), none, .r .load1, [.t 5]⟩ ::
 ⟨none, none, .e (.store 1), [.t 4, .c (.int .i64 0)]⟩ ::
 ⟨none, none, .e (.store 1), [.t 5, .t 30]⟩ ::
 []) ([0, 2] :: [] :: [] :: []))
.ret)
.skip))
(.seq (.ops (⟨(some 32), none, .p (.faddr 0), [.t 6]⟩ ::
 ⟨(some 33), none, .p (.faddr 2), [.t 32]⟩ ::
 ⟨(some 34), none, .r .load1, [.t 33]⟩ ::
 ⟨(some 35), none, .p (.faddr 0), [.t 6]⟩ ::
 ⟨(some 36), none, .p (.faddr 0), [.t 35]⟩ ::
 ⟨(some 37), none, .r .load1, [.t 36]⟩ ::
 ⟨(some 38), none, .call, [.c (.func (.func 107) [] []), .t 34, .t 37]⟩ ::
 ⟨(some 31), none, .p .mov, [.t 38]⟩ ::
 ⟨(some 39), none, .p (.ext 0), [.t 31]⟩ ::
 ⟨(some 40), none, .p (.ext 1), [.t 31]⟩ ::
 ⟨(some 7), none, .p .mov, [.t 39]⟩ ::
 ⟨none, none, .e (.store 1), [.t 5, .t 40]⟩ ::
 []))
(.seq (.seq (.ops (⟨(some 41), none, .r .load1, [.t 5]⟩ ::
 ⟨(some 42), none, .p (.bin .neq), [.t 41, .c (.int .i64 0)]⟩ ::
 []))
(.cond (.t 42)
(.seq (.dops (⟨(some 43), none, .r .load1, [.t 5]⟩ ::
 ⟨none, none, .e (.store 1), [.t 4, .c (.int .i64 0)]⟩ ::
 ⟨none, none, .e (.store 1), [.t 5, .t 43]⟩ ::
 []) ([0, 2] :: [] :: [] :: []))
.ret)
.skip))
(.seq (.seq (.ops (⟨(some 45), none, .p (.faddr 0), [.t 6]⟩ ::
 ⟨(some 46), none, .p (.faddr 2), [.t 45]⟩ ::
 ⟨(some 47), none, .r .load1, [.t 46]⟩ ::
 ⟨(some 48), none, .p (.faddr 5), [.t 6]⟩ ::
 ⟨(some 49), none, .r .load1, [.t 48]⟩ ::
 ⟨(some 50), none, .p .mov, [.t 7]⟩ ::
 ⟨(some 51), none, .call, [.c (.func (.func 108) [] []), .t 47, .t 49, .t 50]⟩ ::
 ⟨(some 44), none, .p .mov, [.t 51]⟩ ::
 ⟨(some 52), none, .p (.ext 0), [.t 44]⟩ ::
 ⟨(some 53), none, .p (.ext 1), [.t 44]⟩ ::
 ⟨(some 8), none, .p .mov, [.t 52]⟩ ::
 ⟨(some 9), none, .p .mov, [.t 53]⟩ ::
 []))
(.seq (.dops (⟨(some 54), none, .p .mov, [.t 8]⟩ ::
 ⟨(some 55), none, .p .mov, [.t 7]⟩ ::
 ⟨(some 56), none, .p (.faddr 0), [.t 6]⟩ ::
 ⟨(some 57), none, .p (.faddr 0), [.t 56]⟩ ::
 ⟨(some 58), none, .r .load1, [.t 57]⟩ ::
 ⟨(some 59), none, .p (.bin .quo), [.t 55, .t 58]⟩ ::
 ⟨(some 60), none, .p (.faddr 0), [.t 6]⟩ ::
 ⟨(some 61), none, .p (.faddr 1), [.t 60]⟩ ::
 ⟨(some 62), none, .r .load1, [.t 61]⟩ ::
 ⟨(some 63), none, .p (.bin .mul), [.t 59, .t 62]⟩ ::
 ⟨(some 64), none, .p (.bin .gtr), [.t 54, .t 63]⟩ ::
 []) ([] :: [] :: [] :: [] :: [] :: [] :: [] :: [] :: [] :: [] :: [] :: []))
(.cond (.t 64)
(.seq (.ops (⟨none, none, .e (.store 1), [.t 4, .c (.int .i64 0)]⟩ ::
 ⟨none, none, .e (.store 1), [.t 5, .c (.int .i64 120)]⟩ ::
 []))
.ret)
.skip)))
(.seq (.ops (⟨(some 10), none, .p .mov, [.c (.int .i64 0)]⟩ ::
 []))
(.seq (.seq (.ops (⟨(some 65), none, .p (.faddr 0), [.t 6]⟩ ::
 ⟨(some 66), none, .p (.faddr 2), [.t 65]⟩ ::
 ⟨(some 67), none, .r .load1, [.t 66]⟩ ::
 ⟨(some 68), none, .p .lenS, [.t 67]⟩ ::
 ⟨(some 69), none, .p .mov, [.c (.int .i64 0)]⟩ ::
 []))
(.block 0 (.loop L_local_Test_0)))
(.seq (.seq (.dops (⟨(some 78), none, .r (.loadN 6), [.t 6]⟩ ::
 ⟨(some 79), none, .p .mov, [.t 7]⟩ ::
 ⟨(some 80), none, .p .mov, [.t 10]⟩ ::
 ⟨(some 81), none, .p (.faddr 0), [.t 6]⟩ ::
 ⟨(some 82), none, .p (.faddr 0), [.t 81]⟩ ::
 ⟨(some 83), none, .r .load1, [.t 82]⟩ ::
 ⟨(some 84), none, .p (.faddr 0), [.t 6]⟩ ::
 ⟨(some 85), none, .p (.faddr 0), [.t 84]⟩ ::
 ⟨(some 86), none, .r .load1, [.t 85]⟩ ::
 ⟨(some 87), none, .a (.bslice [(.int .i64 0)] 4 1 [0, 1, 2, 3]), [.t 79, .t 80, .t 83, .t 86]⟩ ::
 ⟨(some 88), none, .call, [.c (.func (.func 110) [] []), .t 87]⟩ ::
 ⟨(some 89), none, .call, [.c (.func (.func 109) [] []), .t 78, .t 88]⟩ ::
 []) ([0, 11] :: [] :: [] :: [] :: [] :: [] :: [] :: [] :: [] :: [] :: [] :: [] :: []))
(.block 2 (.rangeFunc (.t 89) [90, 91] L_local_Test_1a L_local_Test_1b)))
(.seq (.ops (⟨none, none, .e (.store 1), [.t 4, .c (.int .i64 0)]⟩ ::
 ⟨none, none, .e (.store 1), [.t 5, .c (.int .i64 0)]⟩ ::
 []))
.ret))))))))))⟩
abbrev f_local_Test : Nat := 99
abbrev C_local_Test : AFunc := C99
def L_slices_IndexFunc_api_Task_api_Task_0 : AC := (.seq (.ops (⟨(some 9), none, .p (.bin .lss), [.t 8, .t 7]⟩ ::
 []))
(.seq (.cond (.t 9)
.skip
(.exit 0))
(.seq (.block 1 (.seq (.ops (⟨(some 10), none, .p .mov, [.t 8]⟩ ::
 ⟨(some 5), none, .p .mov, [.t 10]⟩ ::
 []))
(.seq (.ops (⟨(some 11), none, .p .mov, [.t 1]⟩ ::
 ⟨(some 12), none, .p .mov, [.t 0]⟩ ::
 ⟨(some 13), none, .p .mov, [.t 5]⟩ ::
 ⟨(some 14), none, .p (.iaddrS 8), [.t 12, .t 13]⟩ ::
 ⟨(some 15), none, .r (.loadN 8), [.t 14]⟩ ::
 ⟨(some 16), none, .call, [.t 11, .t 15]⟩ ::
 []))
(.cond (.t 16)
(.seq (.ops (⟨(some 17), none, .p .mov, [.t 5]⟩ ::
 ⟨(some 4), none, .p .mov, [.t 17]⟩ ::
 []))
.ret)
.skip))))
(.ops (⟨(some 18), none, .p (.bin .add), [.t 8, .c (.int .i64 1)]⟩ ::
 ⟨(some 8), none, .p .mov, [.t 18]⟩ ::
 [])))))
def C100 : AFunc := ⟨19, [.tmp 4],
(.seq (.ops (⟨(some 4), none, .p .mov, [.c (.int .i64 0)]⟩ ::
 []))
(.seq (.seq (.ops (⟨(some 6), none, .p .mov, [.t 0]⟩ ::
 ⟨(some 7), none, .p .lenS, [.t 6]⟩ ::
 ⟨(some 8), none, .p .mov, [.c (.int .i64 0)]⟩ ::
 []))
(.block 0 (.loop L_slices_IndexFunc_api_Task_api_Task_0)))
(.seq (.ops (⟨(some 4), none, .p .mov, [.c (.int .i64 (-1))]⟩ ::
 []))
.ret)))⟩
abbrev f_slices_IndexFunc_api_Task_api_Task : Nat := 100
abbrev C_slices_IndexFunc_api_Task_api_Task : AFunc := C100
def L_ticks_Gcd_0 : AC := (.seq (.seq (.ops (⟨(some 11), none, .p .mov, [.t 1]⟩ ::
 ⟨(some 12), none, .p (.bin .neq), [.t 11, .c (.int .i64 0)]⟩ ::
 []))
(.cond (.t 12)
.skip
(.exit 0)))
(.block 1 (.dops (⟨(some 13), none, .p .mov, [.t 1]⟩ ::
 ⟨(some 14), none, .p .mov, [.t 0]⟩ ::
 ⟨(some 15), none, .p .mov, [.t 1]⟩ ::
 ⟨(some 16), none, .p (.bin .rem), [.t 14, .t 15]⟩ ::
 ⟨(some 0), none, .p .mov, [.t 13]⟩ ::
 ⟨(some 1), none, .p .mov, [.t 16]⟩ ::
 []) ([] :: [] :: [] :: [] :: [] :: [] :: []))))
def C105 : AFunc := ⟨18, [.tmp 4, .tmp 5],
(.seq (.ops (⟨(some 4), none, .p .mov, [.c (.int .i64 0)]⟩ ::
 ⟨(some 5), none, .p .mov, [.c (.int .i64 0)]⟩ ::
 []))
(.seq (.seq (.ops (⟨(some 6), none, .p .mov, [.t 0]⟩ ::
 ⟨(some 7), none, .p .mov, [.t 1]⟩ ::
 ⟨(some 8), none, .a (.bslice [(.int .i64 0)] 2 1 [0, 1]), [.t 6, .t 7]⟩ ::
 ⟨(some 9), none, .call, [.c (.func (.func 112) [] []), .t 8]⟩ ::
 ⟨(some 10), none, .p .not, [.t 9]⟩ ::
 []))
(.cond (.t 10)
(.seq (.ops (⟨(some 4), none, .p .mov, [.c (.int .i64 0)]⟩ ::
 ⟨(some 5), none, .p .mov, [.c (.int .i64 2)]⟩ ::
 []))
.ret)
.skip))
(.seq (.block 0 (.loop L_ticks_Gcd_0))
(.seq (.ops (⟨(some 17), none, .p .mov, [.t 0]⟩ ::
 ⟨(some 4), none, .p .mov, [.t 17]⟩ ::
 ⟨(some 5), none, .p .mov, [.c (.int .i64 0)]⟩ ::
 []))
.ret))))⟩
abbrev f_ticks_Gcd : Nat := 105
abbrev C_ticks_Gcd : AFunc := C105
def C106 : AFunc := ⟨26, [.cell 4 6 true, .tmp 5],
(.seq (.ops (⟨(some 4), none, .a (.alloc [(.int .i64 0), (.int .i64 0), .nils, .nils, (.int .i64 0), .nils]), []⟩ ::
 ⟨(some 5), none, .p .mov, [.c (.int .i64 0)]⟩ ::
 []))
(.seq (.ops (⟨(some 9), none, .p .mov, [.t 0]⟩ ::
 ⟨(some 10), none, .p .mov, [.t 1]⟩ ::
 ⟨(some 11), none, .call, [.c (.func (.func 113) [] []), .t 9, .t 10]⟩ ::
 ⟨(some 8), none, .p .mov, [.t 11]⟩ ::
 ⟨(some 12), none, .p (.ext 0), [.t 8]⟩ ::
 ⟨(some 13), none, .p (.ext 1), [.t 8]⟩ ::
 ⟨(some 6), none, .p .mov, [.t 12]⟩ ::
 ⟨(some 7), none, .p .mov, [.t 13]⟩ ::
 []))
(.seq (.seq (.ops (⟨(some 14), none, .p .mov, [.t 7]⟩ ::
 ⟨(some 15), none, .p (.bin .neq), [.t 14, .c (.int .i64 0)]⟩ ::
 []))
(.cond (.t 15)
(.seq (.ops (⟨(some 16), none, .p (.build [(.int .i64 0), (.int .i64 0), .nils, .nils, (.int .i64 0), .nils] []), []⟩ ::
 ⟨(some 17), none, .p .mov, [.t 7]⟩ ::
 ⟨none, none, .e (.store 6), [.t 4, .t 16]⟩ ::
 ⟨(some 5), none, .p .mov, [.t 17]⟩ ::
 []))
.ret)
.skip))
(.seq (.ops (⟨(some 18), none, .p .mov, [.t 0]⟩ ::
 ⟨(some 19), none, .p .mov, [.t 1]⟩ ::
 ⟨(some 20), none, .p (.iaddrS 3), [.t 18, .t 19]⟩ ::
 ⟨(some 21), none, .r (.loadN 3), [.t 20]⟩ ::
 ⟨(some 22), none, .p .mov, [.t 0]⟩ ::
 ⟨(some 23), none, .p .mov, [.t 1]⟩ ::
 ⟨(some 24), none, .p .mov, [.t 6]⟩ ::
 ⟨(some 25), none, .p (.build [(.int .i64 0), (.int .i64 0), .nils, .nils, (.int .i64 0), .nils] [(0, 3), (3, 1), (4, 1), (5, 1)]), [.t 21, .t 22, .t 23, .t 24]⟩ ::
 ⟨none, none, .e (.store 6), [.t 4, .t 25]⟩ ::
 ⟨(some 5), none, .p .mov, [.c (.int .i64 0)]⟩ ::
 []))
.ret))))⟩
abbrev f_local_of : Nat := 106
abbrev C_local_of : AFunc := C106
def L_demand_Hyper_0 : AC := (.seq (.ops (⟨(some 26), none, .p (.bin .lss), [.t 25, .t 24]⟩ ::
 []))
(.seq (.cond (.t 26)
.skip
(.exit 0))
(.seq (.block 1 (.seq (.ops (⟨(some 27), none, .p (.iaddrS 8), [.t 23, .t 25]⟩ ::
 ⟨(some 28), none, .r (.loadN 8), [.t 27]⟩ ::
 ⟨(some 8), none, .a (.alloc [(.int .i64 0), (.int .i64 0), (.int .i64 0), (.int .i64 0), (.int .i64 0), (.int .i64 0), (.int .i64 0), (.int .i64 0)]), []⟩ ::
 ⟨none, none, .e (.store 8), [.t 8, .t 28]⟩ ::
 []))
(.seq (.ops (⟨(some 30), none, .p .mov, [.t 6]⟩ ::
 ⟨(some 31), none, .p (.faddr 0), [.t 8]⟩ ::
 ⟨(some 32), none, .r .load1, [.t 31]⟩ ::
 ⟨(some 33), none, .a (.bslice [(.int .i64 0)] 2 1 [0, 1]), [.t 30, .t 32]⟩ ::
 ⟨(some 34), none, .call, [.c (.func (.func 115) [] []), .c (.int .i64 4096), .t 33]⟩ ::
 ⟨(some 29), none, .p .mov, [.t 34]⟩ ::
 ⟨(some 35), none, .p (.ext 0), [.t 29]⟩ ::
 ⟨(some 36), none, .p (.ext 1), [.t 29]⟩ ::
 ⟨(some 9), none, .p .mov, [.t 35]⟩ ::
 ⟨(some 10), none, .p .mov, [.t 36]⟩ ::
 []))
(.seq (.seq (.ops (⟨(some 37), none, .p .mov, [.t 10]⟩ ::
 ⟨(some 38), none, .p (.bin .neq), [.t 37, .c (.int .i64 0)]⟩ ::
 []))
(.cond (.t 38)
(.seq (.ops (⟨(some 4), none, .p .mov, [.c (.int .i64 0)]⟩ ::
 ⟨(some 5), none, .p .mov, [.c (.int .i64 5)]⟩ ::
 []))
.ret)
.skip))
(.ops (⟨(some 39), none, .p .mov, [.t 9]⟩ ::
 ⟨(some 6), none, .p .mov, [.t 39]⟩ ::
 []))))))
(.ops (⟨(some 40), none, .p (.bin .add), [.t 25, .c (.int .i64 1)]⟩ ::
 ⟨(some 25), none, .p .mov, [.t 40]⟩ ::
 [])))))
def C107 : AFunc := ⟨42, [.tmp 4, .tmp 5],
(.seq (.ops (⟨(some 4), none, .p .mov, [.c (.int .i64 0)]⟩ ::
 ⟨(some 5), none, .p .mov, [.c (.int .i64 0)]⟩ ::
 []))
(.seq (.seq (.ops (⟨(some 11), none, .p .mov, [.t 0]⟩ ::
 ⟨(some 12), none, .call, [.c (.func (.func 114) [] []), .t 11]⟩ ::
 ⟨(some 13), none, .p .not, [.t 12]⟩ ::
 ⟨(some 14), none, .p .mov, [.t 13]⟩ ::
 ⟨(some 15), (some (14, false)), .p .mov, [.t 1]⟩ ::
 ⟨(some 16), (some (14, false)), .p (.bin .lss), [.t 15, .c (.int .i64 1)]⟩ ::
 ⟨(some 17), none, .p .pick, [.t 14, .c (.bool true), .t 16]⟩ ::
 ⟨(some 18), none, .p .mov, [.t 17]⟩ ::
 ⟨(some 19), (some (18, false)), .p .mov, [.t 1]⟩ ::
 ⟨(some 20), (some (18, false)), .p (.bin .gtr), [.t 19, .c (.int .i64 64)]⟩ ::
 ⟨(some 21), none, .p .pick, [.t 18, .c (.bool true), .t 20]⟩ ::
 []))
(.cond (.t 21)
(.seq (.ops (⟨(some 4), none, .p .mov, [.c (.int .i64 0)]⟩ ::
 ⟨(some 5), none, .p .mov, [.c (.int .i64 2)]⟩ ::
 []))
.ret)
.skip))
(.seq (.ops (⟨(some 22), none, .p .mov, [.t 1]⟩ ::
 ⟨(some 6), none, .p .mov, [.t 22]⟩ ::
 []))
(.seq (.seq (.ops (⟨(some 23), none, .p .mov, [.t 0]⟩ ::
 ⟨(some 24), none, .p .lenS, [.t 23]⟩ ::
 ⟨(some 25), none, .p .mov, [.c (.int .i64 0)]⟩ ::
 []))
(.block 0 (.loop L_demand_Hyper_0)))
(.seq (.ops (⟨(some 41), none, .p .mov, [.t 6]⟩ ::
 ⟨(some 4), none, .p .mov, [.t 41]⟩ ::
 ⟨(some 5), none, .p .mov, [.c (.int .i64 0)]⟩ ::
 []))
.ret)))))⟩
abbrev f_demand_Hyper : Nat := 107
abbrev C_demand_Hyper : AFunc := C107
def C108 : AFunc := ⟨30, [.tmp 6, .tmp 7],
(.seq (.ops (⟨(some 5), none, .a .box, [.t 2]⟩ ::
 ⟨(some 6), none, .p .mov, [.c (.int .i64 0)]⟩ ::
 ⟨(some 7), none, .p .mov, [.c (.int .i64 0)]⟩ ::
 []))
(.seq (.seq (.ops (⟨(some 9), none, .p .mov, [.t 0]⟩ ::
 ⟨(some 10), none, .p .mov, [.t 1]⟩ ::
 ⟨(some 11), none, .call, [.c (.func (.func 116) [] []), .t 9, .t 10]⟩ ::
 ⟨(some 8), none, .p .mov, [.t 11]⟩ ::
 []))
(.seq (.ops (⟨(some 12), none, .p .mov, [.t 8]⟩ ::
 ⟨(some 13), none, .p (.bin .neq), [.t 12, .c (.int .i64 0)]⟩ ::
 ⟨(some 14), none, .p .mov, [.t 13]⟩ ::
 ⟨(some 15), (some (14, false)), .r .load1, [.t 5]⟩ ::
 ⟨(some 16), (some (14, false)), .p (.bin .lss), [.t 15, .c (.int .i64 1)]⟩ ::
 ⟨(some 17), none, .p .pick, [.t 14, .c (.bool true), .t 16]⟩ ::
 ⟨(some 18), none, .p .mov, [.t 17]⟩ ::
 ⟨(some 19), (some (18, false)), .r .load1, [.t 5]⟩ ::
 ⟨(some 20), (some (18, false)), .p (.bin .gtr), [.t 19, .c (.int .i64 1048576)]⟩ ::
 ⟨(some 21), none, .p .pick, [.t 18, .c (.bool true), .t 20]⟩ ::
 []))
(.cond (.t 21)
(.seq (.ops (⟨(some 6), none, .p .mov, [.c (.int .i64 0)]⟩ ::
 ⟨(some 7), none, .p .mov, [.c (.int .i64 2)]⟩ ::
 []))
.ret)
.skip)))
(.seq (.seq (.ops (⟨(some 22), none, .p .mov, [.t 0]⟩ ::
 ⟨(some 23), none, .p (.mkfunc (.func 117) 0), [.t 5]⟩ ::
 ⟨(some 24), none, .call, [.c (.func (.func 80) [] []), .t 22, .t 23]⟩ ::
 []))
(.cond (.t 24)
(.seq (.ops (⟨(some 6), none, .p .mov, [.c (.int .i64 0)]⟩ ::
 ⟨(some 7), none, .p .mov, [.c (.int .i64 2)]⟩ ::
 []))
.ret)
.skip))
(.seq (.ops (⟨(some 25), none, .p .mov, [.t 0]⟩ ::
 ⟨(some 26), none, .p .mov, [.t 1]⟩ ::
 ⟨(some 27), none, .p (.mkfunc (.func 120) 0), [.t 5]⟩ ::
 ⟨(some 28), none, .call, [.c (.func (.func 119) [] []), .t 25, .t 26, .t 27]⟩ ::
 ⟨(some 29), none, .call, [.c (.func (.func 118) [] []), .t 28]⟩ ::
 ⟨(some 6), none, .p .mov, [.t 29]⟩ ::
 ⟨(some 7), none, .p .mov, [.c (.int .i64 0)]⟩ ::
 []))
.ret))))⟩
abbrev f_demand_Use : Nat := 108
abbrev C_demand_Use : AFunc := C108
def C109 : AFunc := ⟨6, [.tmp 4],
(.seq (.ops (⟨(some 2), none, .a .box, [.t 0]⟩ ::
 ⟨(some 3), none, .a .box, [.t 1]⟩ ::
 ⟨(some 4), none, .p .mov, [.c .nilf]⟩ ::
 []))
(.seq (.ops (⟨(some 5), none, .p (.mkfunc (.func 121) 0), [.t 3, .t 2]⟩ ::
 ⟨(some 4), none, .p .mov, [.t 5]⟩ ::
 []))
.ret))⟩
abbrev f_local_look_slacks : Nat := 109
abbrev C_local_look_slacks : AFunc := C109
def L_local_sum_0 : AC := (.seq (.ops (⟨(some 8), none, .p (.bin .lss), [.t 7, .t 6]⟩ ::
 []))
(.seq (.cond (.t 8)
.skip
(.exit 0))
(.seq (.block 1 (.seq (.ops (⟨(some 9), none, .p (.iaddrS 1), [.t 5, .t 7]⟩ ::
 ⟨(some 10), none, .r .load1, [.t 9]⟩ ::
 ⟨(some 4), none, .p .mov, [.t 10]⟩ ::
 []))
(.ops (⟨(some 11), none, .p .mov, [.t 2]⟩ ::
 ⟨(some 12), none, .p .mov, [.t 4]⟩ ::
 ⟨(some 13), none, .p (.bin .add), [.t 11, .t 12]⟩ ::
 ⟨(some 2), none, .p .mov, [.t 13]⟩ ::
 []))))
(.ops (⟨(some 14), none, .p (.bin .add), [.t 7, .c (.int .i64 1)]⟩ ::
 ⟨(some 7), none, .p .mov, [.t 14]⟩ ::
 [])))))
def C110 : AFunc := ⟨16, [.tmp 2],
(.seq (.ops (⟨(some 2), none, .p .mov, [.c (.int .i64 0)]⟩ ::
 []))
(.seq (.seq (.ops (⟨(some 5), none, .p .mov, [.t 0]⟩ ::
 ⟨(some 6), none, .p .lenS, [.t 5]⟩ ::
 ⟨(some 7), none, .p .mov, [.c (.int .i64 0)]⟩ ::
 []))
(.block 0 (.loop L_local_sum_0)))
(.seq (.ops (⟨(some 15), none, .p .mov, [.t 2]⟩ ::
 ⟨(some 2), none, .p .mov, [.t 15]⟩ ::
 []))
.ret)))⟩
abbrev f_local_sum : Nat := 110
abbrev C_local_sum : AFunc := C110
def L_ticks_tick_0 : AC := (.seq (.ops (⟨(some 8), none, .p (.bin .lss), [.t 7, .t 6]⟩ ::
 []))
(.seq (.cond (.t 8)
.skip
(.exit 0))
(.seq (.block 1 (.seq (.ops (⟨(some 9), none, .p (.iaddrS 1), [.t 5, .t 7]⟩ ::
 ⟨(some 10), none, .r .load1, [.t 9]⟩ ::
 ⟨(some 4), none, .p .mov, [.t 10]⟩ ::
 []))
(.seq (.ops (⟨(some 11), none, .p .mov, [.t 4]⟩ ::
 ⟨(some 12), none, .p (.bin .lss), [.t 11, .c (.int .i64 0)]⟩ ::
 ⟨(some 13), none, .p .mov, [.t 12]⟩ ::
 ⟨(some 14), (some (13, false)), .p .mov, [.t 4]⟩ ::
 ⟨(some 15), (some (13, false)), .p (.bin .gtr), [.t 14, .c (.int .i64 1099511627776)]⟩ ::
 ⟨(some 16), none, .p .pick, [.t 13, .c (.bool true), .t 15]⟩ ::
 []))
(.cond (.t 16)
(.seq (.ops (⟨(some 2), none, .p .mov, [.c (.bool false)]⟩ ::
 []))
.ret)
.skip))))
(.ops (⟨(some 17), none, .p (.bin .add), [.t 7, .c (.int .i64 1)]⟩ ::
 ⟨(some 7), none, .p .mov, [.t 17]⟩ ::
 [])))))
def C112 : AFunc := ⟨18, [.tmp 2],
(.seq (.ops (⟨(some 2), none, .p .mov, [.c (.bool false)]⟩ ::
 []))
(.seq (.seq (.ops (⟨(some 5), none, .p .mov, [.t 0]⟩ ::
 ⟨(some 6), none, .p .lenS, [.t 5]⟩ ::
 ⟨(some 7), none, .p .mov, [.c (.int .i64 0)]⟩ ::
 []))
(.block 0 (.loop L_ticks_tick_0)))
(.seq (.ops (⟨(some 2), none, .p .mov, [.c (.bool true)]⟩ ::
 []))
.ret)))⟩
abbrev f_ticks_tick : Nat := 112
abbrev C_ticks_tick : AFunc := C112
def L_delay_More_0 : AC := (.seq (.ops (⟨(some 30), none, .p (.bin .lss), [.t 29, .t 28]⟩ ::
 []))
(.seq (.cond (.t 30)
.skip
(.exit 0))
(.seq (.block 1 (.seq (.ops (⟨(some 31), none, .p .mov, [.t 29]⟩ ::
 ⟨(some 32), none, .p (.iaddrS 8), [.t 27, .t 29]⟩ ::
 ⟨(some 33), none, .r (.loadN 8), [.t 32]⟩ ::
 ⟨(some 10), none, .a (.alloc [(.int .i64 0), (.int .i64 0), (.int .i64 0), (.int .i64 0), (.int .i64 0), (.int .i64 0), (.int .i64 0), (.int .i64 0)]), []⟩ ::
 ⟨(some 9), none, .p .mov, [.t 31]⟩ ::
 ⟨none, none, .e (.store 8), [.t 10, .t 33]⟩ ::
 []))
(.dops (⟨(some 34), none, .p .mov, [.t 8]⟩ ::
 ⟨(some 35), none, .p .mov, [.t 9]⟩ ::
 ⟨(some 36), none, .p (.faddr 7), [.t 10]⟩ ::
 ⟨(some 37), none, .r .load1, [.t 36]⟩ ::
 ⟨(some 38), none, .r (.loadN 5), [.t 6]⟩ ::
 ⟨(some 39), none, .r (.loadN 8), [.t 10]⟩ ::
 ⟨(some 40), none, .call, [.c (.func (.func 125) [] []), .t 38, .t 39]⟩ ::
 ⟨(some 41), none, .p (.faddr 6), [.t 10]⟩ ::
 ⟨(some 42), none, .r .load1, [.t 41]⟩ ::
 ⟨(some 43), none, .p (.bin .add), [.t 40, .t 42]⟩ ::
 ⟨(some 44), none, .p (.bin .sub), [.t 43, .c (.int .i64 1)]⟩ ::
 ⟨(some 45), none, .p (.bin .mul), [.t 37, .t 44]⟩ ::
 ⟨(some 46), none, .p (.iaddrS 1), [.t 34, .t 35]⟩ ::
 ⟨none, none, .e (.store 1), [.t 46, .t 45]⟩ ::
 []) ([] :: [] :: [] :: [0, 7] :: [] :: [] :: [] :: [] :: [0, 7] :: [] :: [] :: [] :: [] :: [] :: []))))
(.ops (⟨(some 47), none, .p (.bin .add), [.t 29, .c (.int .i64 1)]⟩ ::
 ⟨(some 29), none, .p .mov, [.t 47]⟩ ::
 [])))))
def C113 : AFunc := ⟨49, [.tmp 4, .tmp 5],
(.seq (.ops (⟨(some 4), none, .p .mov, [.c .nils]⟩ ::
 ⟨(some 5), none, .p .mov, [.c (.int .i64 0)]⟩ ::
 []))
(.seq (.ops (⟨(some 12), none, .p .mov, [.t 0]⟩ ::
 ⟨(some 13), none, .p .mov, [.t 1]⟩ ::
 ⟨(some 14), none, .call, [.c (.func (.func 124) [] []), .t 12, .t 13]⟩ ::
 ⟨(some 11), none, .p .mov, [.t 14]⟩ ::
 ⟨(some 15), none, .p (.ext 0), [.t 11]⟩ ::
 ⟨(some 16), none, .p (.ext 1), [.t 11]⟩ ::
 ⟨(some 6), none, .a (.alloc [(.int .i64 0), (.int .i64 0), .nils, .nils, (.int .i64 0)]), []⟩ ::
 ⟨none, none, .e (.store 5), [.t 6, .t 15]⟩ ::
 ⟨(some 7), none, .p .mov, [.t 16]⟩ ::
 []))
(.seq (.seq (.ops (⟨(some 17), none, .p .mov, [.t 7]⟩ ::
 ⟨(some 18), none, .p (.bin .neq), [.t 17, .c (.int .i64 0)]⟩ ::
 []))
(.cond (.t 18)
(.seq (.ops (⟨(some 19), none, .p .mov, [.t 7]⟩ ::
 ⟨(some 4), none, .p .mov, [.c .nils]⟩ ::
 ⟨(some 5), none, .p .mov, [.t 19]⟩ ::
 []))
.ret)
.skip))
(.seq (.ops (⟨(some 20), none, .p (.faddr 0), [.t 6]⟩ ::
 ⟨(some 21), none, .p (.faddr 2), [.t 20]⟩ ::
 ⟨(some 22), none, .r .load1, [.t 21]⟩ ::
 ⟨(some 23), none, .p .lenS, [.t 22]⟩ ::
 ⟨(some 24), none, .a (.mkslice [(.int .i64 0)] 1 8), [.t 23, .t 23]⟩ ::
 ⟨(some 8), none, .p .mov, [.t 24]⟩ ::
 []))
(.seq (.seq (.ops (⟨(some 25), none, .p (.faddr 0), [.t 6]⟩ ::
 ⟨(some 26), none, .p (.faddr 2), [.t 25]⟩ ::
 ⟨(some 27), none, .r .load1, [.t 26]⟩ ::
 ⟨(some 28), none, .p .lenS, [.t 27]⟩ ::
 ⟨(some 29), none, .p .mov, [.c (.int .i64 0)]⟩ ::
 []))
(.block 0 (.loop L_delay_More_0)))
(.seq (.ops (⟨(some 48), none, .p .mov, [.t 8]⟩ ::
 ⟨(some 4), none, .p .mov, [.t 48]⟩ ::
 ⟨(some 5), none, .p .mov, [.c (.int .i64 0)]⟩ ::
 []))
.ret))))))⟩
abbrev f_delay_More : Nat := 113
abbrev C_delay_More : AFunc := C113
def C114 : AFunc := ⟨11, [.tmp 2],
(.seq (.ops (⟨(some 2), none, .p .mov, [.c (.bool false)]⟩ ::
 []))
(.seq (.ops (⟨(some 3), none, .p .mov, [.t 0]⟩ ::
 ⟨(some 4), none, .p .lenS, [.t 3]⟩ ::
 ⟨(some 5), none, .p (.bin .leq), [.t 4, .c (.int .i64 4)]⟩ ::
 ⟨(some 6), none, .p .mov, [.t 5]⟩ ::
 ⟨(some 7), (some (6, true)), .p .mov, [.t 0]⟩ ::
 ⟨(some 8), (some (6, true)), .call, [.c (.func (.func 80) [] []), .t 7, .c (.func (.func 126) [] [])]⟩ ::
 ⟨(some 9), (some (6, true)), .p .not, [.t 8]⟩ ::
 ⟨(some 10), none, .p .pick, [.t 6, .t 9, .c (.bool false)]⟩ ::
 ⟨(some 2), none, .p .mov, [.t 10]⟩ ::
 []))
.ret))⟩
abbrev f_demand_all : Nat := 114
abbrev C_demand_all : AFunc := C114
def C115 : AFunc := ⟨53, [.tmp 4, .tmp 5],
(.seq (.ops (⟨(some 4), none, .p .mov, [.c (.int .i64 0)]⟩ ::
 ⟨(some 5), none, .p .mov, [.c (.int .i64 0)]⟩ ::
 []))
(.seq (.seq (.ops (⟨(some 7), none, .p .mov, [.t 0]⟩ ::
 ⟨(some 8), none, .a (.bslice [(.int .i64 0)] 1 1 [0]), [.t 7]⟩ ::
 ⟨(some 9), none, .call, [.c (.func (.func 112) [] []), .t 8]⟩ ::
 ⟨(some 10), none, .p .not, [.t 9]⟩ ::
 ⟨(some 11), none, .p .mov, [.t 10]⟩ ::
 ⟨(some 12), (some (11, false)), .p .mov, [.t 1]⟩ ::
 ⟨(some 13), (some (11, false)), .call, [.c (.func (.func 112) [] []), .t 12]⟩ ::
 ⟨(some 14), (some (11, false)), .p .not, [.t 13]⟩ ::
 ⟨(some 15), none, .p .pick, [.t 11, .c (.bool true), .t 14]⟩ ::
 ⟨(some 16), none, .p .mov, [.t 15]⟩ ::
 ⟨(some 17), (some (16, false)), .p .mov, [.t 1]⟩ ::
 ⟨(some 18), (some (16, false)), .call, [.c (.func (.func 128) [] []), .t 17, .c (.int .i64 0)]⟩ ::
 ⟨(some 19), none, .p .pick, [.t 16, .c (.bool true), .t 18]⟩ ::
 []))
(.cond (.t 19)
(.seq (.ops (⟨(some 4), none, .p .mov, [.c (.int .i64 0)]⟩ ::
 ⟨(some 5), none, .p .mov, [.c (.int .i64 2)]⟩ ::
 []))
.ret)
.skip))
(.seq (.ops (⟨(some 20), none, .p (.build [(.int .i64 0), (.int .i64 0)] [(0, 1)]), [.c (.int .i64 1)]⟩ ::
 ⟨(some 21), none, .a .box, [.t 20]⟩ ::
 ⟨(some 6), none, .p .mov, [.t 21]⟩ ::
 []))
(.seq (.ops (⟨(some 22), none, .p .mov, [.t 6]⟩ ::
 ⟨(some 23), none, .p (.mkfunc (.func 130) 1), [.t 22]⟩ ::
 ⟨(some 24), none, .p .mov, [.t 1]⟩ ::
 ⟨(some 25), none, .call, [.c (.func (.func 129) [] []), .t 23, .t 24]⟩ ::
 []))
(.seq (.seq (.ops (⟨(some 26), none, .p .mov, [.t 6]⟩ ::
 ⟨(some 27), none, .p .nilchk, [.t 26]⟩ ::
 ⟨(some 28), none, .p (.faddr 1), [.t 27]⟩ ::
 ⟨(some 29), none, .r .load1, [.t 28]⟩ ::
 ⟨(some 30), none, .p (.bin .eql), [.t 29, .c (.int .i64 0)]⟩ ::
 ⟨(some 31), none, .p .mov, [.t 30]⟩ ::
 ⟨(some 32), (some (31, true)), .p .mov, [.t 6]⟩ ::
 ⟨(some 33), (some (31, true)), .p .nilchk, [.t 32]⟩ ::
 ⟨(some 34), (some (31, true)), .p (.faddr 0), [.t 33]⟩ ::
 ⟨(some 35), (some (31, true)), .r .load1, [.t 34]⟩ ::
 ⟨(some 36), (some (31, true)), .p .mov, [.t 0]⟩ ::
 ⟨(some 37), (some (31, true)), .p (.bin .gtr), [.t 35, .t 36]⟩ ::
 ⟨(some 38), none, .p .pick, [.t 31, .t 37, .c (.bool false)]⟩ ::
 []))
(.cond (.t 38)
(.ops (⟨(some 39), none, .p .mov, [.t 6]⟩ ::
 ⟨(some 40), none, .p .nilchk, [.t 39]⟩ ::
 ⟨(some 41), none, .p (.faddr 1), [.t 40]⟩ ::
 ⟨none, none, .e (.store 1), [.t 41, .c (.int .i64 10)]⟩ ::
 []))
.skip))
(.seq (.dops (⟨(some 42), none, .p .mov, [.t 6]⟩ ::
 ⟨(some 43), none, .p .nilchk, [.t 42]⟩ ::
 ⟨(some 44), none, .p (.faddr 0), [.t 43]⟩ ::
 ⟨(some 45), none, .r .load1, [.t 44]⟩ ::
 ⟨(some 46), none, .p .mov, [.t 6]⟩ ::
 ⟨(some 47), none, .p .nilchk, [.t 46]⟩ ::
 ⟨(some 48), none, .p (.faddr 1), [.t 47]⟩ ::
 ⟨(some 49), none, .r .load1, [.t 48]⟩ ::
 ⟨(some 50), none, .call, [.c (.func (.func 131) [] []), .t 45, .t 49]⟩ ::
 ⟨(some 51), none, .p (.ext 0), [.t 50]⟩ ::
 ⟨(some 52), none, .p (.ext 1), [.t 50]⟩ ::
 ⟨(some 4), none, .p .mov, [.t 51]⟩ ::
 ⟨(some 5), none, .p .mov, [.t 52]⟩ ::
 []) ([] :: [] :: [] :: [] :: [] :: [] :: [] :: [] :: [] :: [] :: [] :: [] :: [] :: []))
.ret))))))⟩
abbrev f_ticks_Lcm : Nat := 115
abbrev C_ticks_Lcm : AFunc := C115
def C116 : AFunc := ⟨21, [.tmp 4],
(.seq (.ops (⟨(some 4), none, .p .mov, [.c (.int .i64 0)]⟩ ::
 []))
(.seq (.ops (⟨(some 6), none, .p .mov, [.t 1]⟩ ::
 ⟨(some 7), none, .call, [.c (.func (.func 132) [] []), .t 6, .c (.func (.func 133) [] [])]⟩ ::
 ⟨(some 5), none, .p .mov, [.t 7]⟩ ::
 []))
(.seq (.seq (.ops (⟨(some 8), none, .p .mov, [.t 5]⟩ ::
 ⟨(some 9), none, .p .mov, [.t 8]⟩ ::
 ⟨(some 10), (some (9, false)), .p .mov, [.t 0]⟩ ::
 ⟨(some 11), (some (9, false)), .call, [.c (.func (.func 114) [] []), .t 10]⟩ ::
 ⟨(some 12), (some (9, false)), .p .not, [.t 11]⟩ ::
 ⟨(some 13), none, .p .pick, [.t 9, .c (.bool true), .t 12]⟩ ::
 ⟨(some 14), none, .p .mov, [.t 13]⟩ ::
 ⟨(some 15), (some (14, false)), .p .mov, [.t 1]⟩ ::
 ⟨(some 16), (some (14, false)), .p .lenS, [.t 15]⟩ ::
 ⟨(some 17), (some (14, false)), .p .mov, [.t 0]⟩ ::
 ⟨(some 18), (some (14, false)), .p .lenS, [.t 17]⟩ ::
 ⟨(some 19), (some (14, false)), .p (.bin .neq), [.t 16, .t 18]⟩ ::
 ⟨(some 20), none, .p .pick, [.t 14, .c (.bool true), .t 19]⟩ ::
 []))
(.cond (.t 20)
(.seq (.ops (⟨(some 4), none, .p .mov, [.c (.int .i64 2)]⟩ ::
 []))
.ret)
.skip))
(.seq (.ops (⟨(some 4), none, .p .mov, [.c (.int .i64 0)]⟩ ::
 []))
.ret))))⟩
abbrev f_demand_Check : Nat := 116
abbrev C_demand_Check : AFunc := C116
def C117 : AFunc := ⟨9, [.tmp 3],
(.seq (.ops (⟨(some 2), none, .a .box, [.t 0]⟩ ::
 ⟨(some 3), none, .p .mov, [.c (.bool false)]⟩ ::
 []))
(.seq (.ops (⟨(some 4), none, .r .load1, [.t 1]⟩ ::
 ⟨(some 5), none, .p (.faddr 0), [.t 2]⟩ ::
 ⟨(some 6), none, .r .load1, [.t 5]⟩ ::
 ⟨(some 7), none, .p (.bin .rem), [.t 4, .t 6]⟩ ::
 ⟨(some 8), none, .p (.bin .neq), [.t 7, .c (.int .i64 0)]⟩ ::
 ⟨(some 3), none, .p .mov, [.t 8]⟩ ::
 []))
.ret))⟩
abbrev f_demand_Use_1 : Nat := 117
abbrev C_demand_Use_1 : AFunc := C117
def L_demand_sum_0 : AC := (.seq (.ops (⟨(some 8), none, .p (.bin .lss), [.t 7, .t 6]⟩ ::
 []))
(.seq (.cond (.t 8)
.skip
(.exit 0))
(.seq (.block 1 (.seq (.ops (⟨(some 9), none, .p (.iaddrS 1), [.t 5, .t 7]⟩ ::
 ⟨(some 10), none, .r .load1, [.t 9]⟩ ::
 ⟨(some 4), none, .p .mov, [.t 10]⟩ ::
 []))
(.ops (⟨(some 11), none, .p .mov, [.t 2]⟩ ::
 ⟨(some 12), none, .p .mov, [.t 4]⟩ ::
 ⟨(some 13), none, .p (.bin .add), [.t 11, .t 12]⟩ ::
 ⟨(some 2), none, .p .mov, [.t 13]⟩ ::
 []))))
(.ops (⟨(some 14), none, .p (.bin .add), [.t 7, .c (.int .i64 1)]⟩ ::
 ⟨(some 7), none, .p .mov, [.t 14]⟩ ::
 [])))))
def C118 : AFunc := ⟨16, [.tmp 2],
(.seq (.ops (⟨(some 2), none, .p .mov, [.c (.int .i64 0)]⟩ ::
 []))
(.seq (.seq (.ops (⟨(some 5), none, .p .mov, [.t 0]⟩ ::
 ⟨(some 6), none, .p .lenS, [.t 5]⟩ ::
 ⟨(some 7), none, .p .mov, [.c (.int .i64 0)]⟩ ::
 []))
(.block 0 (.loop L_demand_sum_0)))
(.seq (.ops (⟨(some 15), none, .p .mov, [.t 2]⟩ ::
 ⟨(some 2), none, .p .mov, [.t 15]⟩ ::
 []))
.ret)))⟩
abbrev f_demand_sum : Nat := 118
abbrev C_demand_sum : AFunc := C118
def L_demand_each_0 : AC := (.seq (.ops (⟨(some 16), none, .p (.bin .lss), [.t 15, .t 14]⟩ ::
 []))
(.seq (.cond (.t 16)
.skip
(.exit 0))
(.seq (.block 1 (.seq (.ops (⟨(some 17), none, .p .mov, [.t 15]⟩ ::
 ⟨(some 18), none, .p (.iaddrS 8), [.t 13, .t 15]⟩ ::
 ⟨(some 19), none, .r (.loadN 8), [.t 18]⟩ ::
 ⟨(some 9), none, .a (.alloc [(.int .i64 0), (.int .i64 0), (.int .i64 0), (.int .i64 0), (.int .i64 0), (.int .i64 0), (.int .i64 0), (.int .i64 0)]), []⟩ ::
 ⟨(some 8), none, .p .mov, [.t 17]⟩ ::
 ⟨none, none, .e (.store 8), [.t 9, .t 19]⟩ ::
 []))
(.dops (⟨(some 20), none, .p .mov, [.t 7]⟩ ::
 ⟨(some 21), none, .p .mov, [.t 8]⟩ ::
 ⟨(some 22), none, .p .mov, [.t 2]⟩ ::
 ⟨(some 23), none, .r (.loadN 8), [.t 9]⟩ ::
 ⟨(some 24), none, .call, [.t 22, .t 23]⟩ ::
 ⟨(some 25), none, .p (.faddr 2), [.t 9]⟩ ::
 ⟨(some 26), none, .r .load1, [.t 25]⟩ ::
 ⟨(some 27), none, .p .mov, [.t 1]⟩ ::
 ⟨(some 28), none, .p .mov, [.t 8]⟩ ::
 ⟨(some 29), none, .p (.iaddrS 1), [.t 27, .t 28]⟩ ::
 ⟨(some 30), none, .r .load1, [.t 29]⟩ ::
 ⟨(some 31), none, .p (.bin .add), [.t 26, .t 30]⟩ ::
 ⟨(some 32), none, .p (.bin .mul), [.t 24, .t 31]⟩ ::
 ⟨(some 33), none, .p (.iaddrS 1), [.t 20, .t 21]⟩ ::
 ⟨none, none, .e (.store 1), [.t 33, .t 32]⟩ ::
 []) ([] :: [] :: [] :: [] :: [] :: [] :: [0, 5] :: [] :: [] :: [] :: [0, 5] :: [] :: [] :: [] :: [] :: []))))
(.ops (⟨(some 34), none, .p (.bin .add), [.t 15, .c (.int .i64 1)]⟩ ::
 ⟨(some 15), none, .p .mov, [.t 34]⟩ ::
 [])))))
def C119 : AFunc := ⟨36, [.tmp 6],
(.seq (.ops (⟨(some 6), none, .p .mov, [.c .nils]⟩ ::
 []))
(.seq (.ops (⟨(some 10), none, .p .mov, [.t 0]⟩ ::
 ⟨(some 11), none, .p .lenS, [.t 10]⟩ ::
 ⟨(some 12), none, .a (.mkslice [(.int .i64 0)] 1 8), [.t 11, .t 11]⟩ ::
 ⟨(some 7), none, .p .mov, [.t 12]⟩ ::
 []))
(.seq (.seq (.ops (⟨(some 13), none, .p .mov, [.t 0]⟩ ::
 ⟨(some 14), none, .p .lenS, [.t 13]⟩ ::
 ⟨(some 15), none, .p .mov, [.c (.int .i64 0)]⟩ ::
 []))
(.block 0 (.loop L_demand_each_0)))
(.seq (.ops (⟨(some 35), none, .p .mov, [.t 7]⟩ ::
 ⟨(some 6), none, .p .mov, [.t 35]⟩ ::
 []))
.ret))))⟩
abbrev f_demand_each : Nat := 119
abbrev C_demand_each : AFunc := C119
def C120 : AFunc := ⟨8, [.tmp 3],
(.seq (.ops (⟨(some 2), none, .a .box, [.t 0]⟩ ::
 ⟨(some 3), none, .p .mov, [.c (.int .i64 0)]⟩ ::
 []))
(.seq (.ops (⟨(some 4), none, .r .load1, [.t 1]⟩ ::
 ⟨(some 5), none, .p (.faddr 0), [.t 2]⟩ ::
 ⟨(some 6), none, .r .load1, [.t 5]⟩ ::
 ⟨(some 7), none, .p (.bin .quo), [.t 4, .t 6]⟩ ::
 ⟨(some 3), none, .p .mov, [.t 7]⟩ ::
 []))
.ret))⟩
abbrev f_demand_Use_2 : Nat := 120
abbrev C_demand_Use_2 : AFunc := C120
def L_local_look_slacks_1_0 : AC := (.seq (.seq (.ops (⟨(some 5), none, .p .mov, [.t 4]⟩ ::
 ⟨(some 6), none, .r .load1, [.t 1]⟩ ::
 ⟨(some 7), none, .p (.bin .leq), [.t 5, .t 6]⟩ ::
 []))
(.cond (.t 7)
.skip
(.exit 0)))
(.seq (.block 1 (.seq (.ops (⟨(some 10), none, .r (.loadN 6), [.t 2]⟩ ::
 ⟨(some 11), none, .p .mov, [.t 4]⟩ ::
 ⟨(some 12), none, .call, [.c (.func (.func 122) [] []), .t 10, .t 11]⟩ ::
 ⟨(some 13), none, .p (.bin .gtr), [.t 12, .c (.int .i64 0)]⟩ ::
 ⟨(some 14), none, .p .mov, [.t 13]⟩ ::
 ⟨(some 15), (some (14, true)), .p .mov, [.t 0]⟩ ::
 ⟨(some 16), (some (14, true)), .p .mov, [.t 4]⟩ ::
 ⟨(some 17), (some (14, true)), .r (.loadN 6), [.t 2]⟩ ::
 ⟨(some 18), (some (14, true)), .p .mov, [.t 4]⟩ ::
 ⟨(some 19), (some (14, true)), .call, [.c (.func (.func 123) [] []), .t 17, .t 18]⟩ ::
 ⟨(some 20), (some (14, true)), .call, [.t 15, .t 16, .t 19]⟩ ::
 ⟨(some 21), (some (14, true)), .p .not, [.t 20]⟩ ::
 ⟨(some 22), none, .p .pick, [.t 14, .t 21, .c (.bool false)]⟩ ::
 []))
(.cond (.t 22)
.ret
.skip)))
(.ops (⟨(some 8), none, .p .mov, [.t 4]⟩ ::
 ⟨(some 9), none, .p (.bin .add), [.t 8, .c (.int .i64 1)]⟩ ::
 ⟨(some 4), none, .p .mov, [.t 9]⟩ ::
 []))))
def C121 : AFunc := ⟨23, [],
(.seq (.ops (⟨(some 4), none, .p .mov, [.c (.int .i64 1)]⟩ ::
 []))
(.block 0 (.loop L_local_look_slacks_1_0)))⟩
abbrev f_local_look_slacks_1 : Nat := 121
abbrev C_local_look_slacks_1 : AFunc := C121
def C122 : AFunc := ⟨18, [.tmp 4],
(.seq (.ops (⟨(some 2), none, .a .box, [.t 0]⟩ ::
 ⟨(some 4), none, .p .mov, [.c (.int .i64 0)]⟩ ::
 []))
(.seq (.ops (⟨(some 8), none, .p (.faddr 0), [.t 2]⟩ ::
 ⟨(some 9), none, .p (.faddr 2), [.t 8]⟩ ::
 ⟨(some 10), none, .r .load1, [.t 9]⟩ ::
 ⟨(some 11), none, .p (.faddr 5), [.t 2]⟩ ::
 ⟨(some 12), none, .r .load1, [.t 11]⟩ ::
 ⟨(some 13), none, .p .mov, [.t 1]⟩ ::
 ⟨(some 14), none, .call, [.c (.func (.func 134) [] []), .t 10, .t 12, .t 13]⟩ ::
 ⟨(some 7), none, .p .mov, [.t 14]⟩ ::
 ⟨(some 15), none, .p (.ext 0), [.t 7]⟩ ::
 ⟨(some 16), none, .p (.ext 1), [.t 7]⟩ ::
 ⟨(some 5), none, .p .mov, [.t 15]⟩ ::
 ⟨(some 6), none, .p .mov, [.t 16]⟩ ::
 []))
(.seq (.ops (⟨(some 17), none, .p .mov, [.t 5]⟩ ::
 ⟨(some 4), none, .p .mov, [.t 17]⟩ ::
 []))
.ret)))⟩
abbrev f_local_look_asks : Nat := 122
abbrev C_local_look_asks : AFunc := C122
def C123 : AFunc := ⟨38, [.tmp 4],
(.seq (.ops (⟨(some 2), none, .a .box, [.t 0]⟩ ::
 ⟨(some 4), none, .p .mov, [.c (.int .i64 0)]⟩ ::
 []))
(.seq (.ops (⟨(some 10), none, .p (.faddr 0), [.t 2]⟩ ::
 ⟨(some 11), none, .p (.faddr 0), [.t 10]⟩ ::
 ⟨(some 12), none, .r .load1, [.t 11]⟩ ::
 ⟨(some 13), none, .p (.faddr 0), [.t 2]⟩ ::
 ⟨(some 14), none, .p (.faddr 1), [.t 13]⟩ ::
 ⟨(some 15), none, .r .load1, [.t 14]⟩ ::
 ⟨(some 16), none, .p .mov, [.t 1]⟩ ::
 ⟨(some 17), none, .call, [.c (.func (.func 135) [] []), .t 12, .t 15, .t 16]⟩ ::
 ⟨(some 9), none, .p .mov, [.t 17]⟩ ::
 ⟨(some 18), none, .p (.ext 0), [.t 9]⟩ ::
 ⟨(some 19), none, .p (.ext 1), [.t 9]⟩ ::
 ⟨(some 5), none, .p .mov, [.t 18]⟩ ::
 ⟨(some 6), none, .p .mov, [.t 19]⟩ ::
 []))
(.seq (.ops (⟨(some 21), none, .p (.faddr 3), [.t 2]⟩ ::
 ⟨(some 22), none, .r .load1, [.t 21]⟩ ::
 ⟨(some 23), none, .p (.faddr 4), [.t 2]⟩ ::
 ⟨(some 24), none, .r .load1, [.t 23]⟩ ::
 ⟨(some 25), none, .p .mov, [.t 1]⟩ ::
 ⟨(some 26), none, .call, [.c (.func (.func 136) [] []), .t 22, .t 24, .t 25]⟩ ::
 ⟨(some 20), none, .p .mov, [.t 26]⟩ ::
 ⟨(some 27), none, .p (.ext 0), [.t 20]⟩ ::
 ⟨(some 28), none, .p (.ext 1), [.t 20]⟩ ::
 ⟨(some 7), none, .p .mov, [.t 27]⟩ ::
 ⟨(some 8), none, .p .mov, [.t 28]⟩ ::
 []))
(.seq (.ops (⟨(some 29), none, .p .mov, [.t 5]⟩ ::
 ⟨(some 30), none, .r (.loadN 6), [.t 2]⟩ ::
 ⟨(some 31), none, .p .mov, [.t 1]⟩ ::
 ⟨(some 32), none, .call, [.c (.func (.func 122) [] []), .t 30, .t 31]⟩ ::
 ⟨(some 33), none, .p .neg, [.t 32]⟩ ::
 ⟨(some 34), none, .p .mov, [.t 7]⟩ ::
 ⟨(some 35), none, .p .neg, [.t 34]⟩ ::
 ⟨(some 36), none, .a (.bslice [(.int .i64 0)] 3 1 [0, 1, 2]), [.t 29, .t 33, .t 35]⟩ ::
 ⟨(some 37), none, .call, [.c (.func (.func 110) [] []), .t 36]⟩ ::
 ⟨(some 4), none, .p .mov, [.t 37]⟩ ::
 []))
.ret))))⟩
abbrev f_local_look_slack : Nat := 123
abbrev C_local_look_slack : AFunc := C123
def C124 : AFunc := ⟨29, [.cell 4 5 true, .tmp 5],
(.seq (.ops (⟨(some 4), none, .a (.alloc [(.int .i64 0), (.int .i64 0), .nils, .nils, (.int .i64 0)]), []⟩ ::
 ⟨(some 5), none, .p .mov, [.c (.int .i64 0)]⟩ ::
 []))
(.seq (.seq (.ops (⟨(some 7), none, .p .mov, [.t 0]⟩ ::
 ⟨(some 8), none, .call, [.c (.func (.func 137) [] []), .t 7]⟩ ::
 ⟨(some 6), none, .p .mov, [.t 8]⟩ ::
 []))
(.seq (.ops (⟨(some 9), none, .p .mov, [.t 6]⟩ ::
 ⟨(some 10), none, .p (.bin .neq), [.t 9, .c (.int .i64 0)]⟩ ::
 []))
(.cond (.t 10)
(.seq (.ops (⟨(some 11), none, .p (.build [(.int .i64 0), (.int .i64 0), .nils, .nils, (.int .i64 0)] []), []⟩ ::
 ⟨(some 12), none, .p .mov, [.t 6]⟩ ::
 ⟨none, none, .e (.store 5), [.t 4, .t 11]⟩ ::
 ⟨(some 5), none, .p .mov, [.t 12]⟩ ::
 []))
.ret)
.skip)))
(.seq (.seq (.ops (⟨(some 13), none, .p .mov, [.t 1]⟩ ::
 ⟨(some 14), none, .p (.bin .lss), [.t 13, .c (.int .i64 0)]⟩ ::
 ⟨(some 15), none, .p .mov, [.t 14]⟩ ::
 ⟨(some 16), (some (15, false)), .p .mov, [.t 1]⟩ ::
 ⟨(some 17), (some (15, false)), .p .mov, [.t 0]⟩ ::
 ⟨(some 18), (some (15, false)), .p .lenS, [.t 17]⟩ ::
 ⟨(some 19), (some (15, false)), .p (.bin .geq), [.t 16, .t 18]⟩ ::
 ⟨(some 20), none, .p .pick, [.t 15, .c (.bool true), .t 19]⟩ ::
 []))
(.cond (.t 20)
(.seq (.ops (⟨(some 21), none, .p (.build [(.int .i64 0), (.int .i64 0), .nils, .nils, (.int .i64 0)] []), []⟩ ::
 ⟨none, none, .e (.store 5), [.t 4, .t 21]⟩ ::
 ⟨(some 5), none, .p .mov, [.c (.int .i64 9)]⟩ ::
 []))
.ret)
.skip))
(.seq (.ops (⟨(some 22), none, .p .mov, [.t 0]⟩ ::
 ⟨(some 23), none, .p .mov, [.t 1]⟩ ::
 ⟨(some 24), none, .p (.iaddrS 3), [.t 22, .t 23]⟩ ::
 ⟨(some 25), none, .r (.loadN 3), [.t 24]⟩ ::
 ⟨(some 26), none, .p .mov, [.t 0]⟩ ::
 ⟨(some 27), none, .p .mov, [.t 1]⟩ ::
 ⟨(some 28), none, .p (.build [(.int .i64 0), (.int .i64 0), .nils, .nils, (.int .i64 0)] [(0, 3), (3, 1), (4, 1)]), [.t 25, .t 26, .t 27]⟩ ::
 ⟨none, none, .e (.store 5), [.t 4, .t 28]⟩ ::
 ⟨(some 5), none, .p .mov, [.c (.int .i64 0)]⟩ ::
 []))
.ret))))⟩
abbrev f_delay_of : Nat := 124
abbrev C_delay_of : AFunc := C124
def L_delay_seen_wait_0a : AC := (.ops (⟨(some 5), none, .a (.alloc [(.int .i64 0), (.int .i64 0), .nils]), []⟩ ::
 ⟨none, none, .e (.store 3), [.t 5, .t 13]⟩ ::
 []))
def L_delay_seen_wait_0b : AC := (.block 1 (.ops (⟨(some 14), none, .r .load1, [.t 4]⟩ ::
 ⟨(some 15), none, .p (.faddr 0), [.t 5]⟩ ::
 ⟨(some 16), none, .r .load1, [.t 15]⟩ ::
 ⟨(some 17), none, .p (.bin .mul), [.c (.int .i64 2), .t 16]⟩ ::
 ⟨(some 18), none, .p (.bin .add), [.t 14, .t 17]⟩ ::
 ⟨none, none, .e (.store 1), [.t 4, .t 18]⟩ ::
 [])))
def C125 : AFunc := ⟨20, [.cell 4 1 false],
(.seq (.ops (⟨(some 2), none, .a .box, [.t 0]⟩ ::
 ⟨(some 3), none, .a .box, [.t 1]⟩ ::
 ⟨(some 4), none, .a (.alloc [(.int .i64 0)]), []⟩ ::
 []))
(.seq (.seq (.ops (⟨(some 6), none, .p (.faddr 5), [.t 3]⟩ ::
 ⟨(some 7), none, .r .load1, [.t 6]⟩ ::
 ⟨(some 8), none, .p (.bin .eql), [.t 7, .c (.int .i64 0)]⟩ ::
 []))
(.cond (.t 8)
(.seq (.ops (⟨none, none, .e (.store 1), [.t 4, .c (.int .i64 0)]⟩ ::
 []))
.ret)
.skip))
(.seq (.seq (.ops (⟨(some 9), none, .r (.loadN 5), [.t 2]⟩ ::
 ⟨(some 10), none, .p (.faddr 5), [.t 3]⟩ ::
 ⟨(some 11), none, .r .load1, [.t 10]⟩ ::
 ⟨(some 12), none, .call, [.c (.func (.func 138) [] []), .t 9, .t 11]⟩ ::
 []))
(.block 0 (.rangeFunc (.t 12) [13] L_delay_seen_wait_0a L_delay_seen_wait_0b)))
(.seq (.ops (⟨(some 19), none, .r .load1, [.t 4]⟩ ::
 ⟨none, none, .e (.store 1), [.t 4, .t 19]⟩ ::
 []))
.ret))))⟩
abbrev f_delay_seen_wait : Nat := 125
abbrev C_delay_seen_wait : AFunc := C125
def C126 : AFunc := ⟨6, [.tmp 2],
(.seq (.ops (⟨(some 1), none, .a .box, [.t 0]⟩ ::
 ⟨(some 2), none, .p .mov, [.c (.bool false)]⟩ ::
 []))
(.seq (.ops (⟨(some 3), none, .r (.loadN 8), [.t 1]⟩ ::
 ⟨(some 4), none, .call, [.c (.func (.func 127) [] []), .t 3]⟩ ::
 ⟨(some 5), none, .p .not, [.t 4]⟩ ::
 ⟨(some 2), none, .p .mov, [.t 5]⟩ ::
 []))
.ret))⟩
abbrev f_demand_all_1 : Nat := 126
abbrev C_demand_all_1 : AFunc := C126
def C127 : AFunc := ⟨25, [.tmp 2],
(.seq (.ops (⟨(some 1), none, .a .box, [.t 0]⟩ ::
 ⟨(some 2), none, .p .mov, [.c (.bool false)]⟩ ::
 []))
(.seq (.ops (⟨(some 3), none, .p (.faddr 2), [.t 1]⟩ ::
 ⟨(some 4), none, .r .load1, [.t 3]⟩ ::
 ⟨(some 5), none, .p (.bin .leq), [.c (.int .i64 1), .t 4]⟩ ::
 ⟨(some 6), none, .p .mov, [.t 5]⟩ ::
 ⟨(some 7), (some (6, true)), .p (.faddr 2), [.t 1]⟩ ::
 ⟨(some 8), (some (6, true)), .r .load1, [.t 7]⟩ ::
 ⟨(some 9), (some (6, true)), .p (.faddr 1), [.t 1]⟩ ::
 ⟨(some 10), (some (6, true)), .r .load1, [.t 9]⟩ ::
 ⟨(some 11), (some (6, true)), .p (.bin .leq), [.t 8, .t 10]⟩ ::
 ⟨(some 12), none, .p .pick, [.t 6, .t 11, .c (.bool false)]⟩ ::
 ⟨(some 13), none, .p .mov, [.t 12]⟩ ::
 ⟨(some 14), (some (13, true)), .p (.faddr 1), [.t 1]⟩ ::
 ⟨(some 15), (some (13, true)), .r .load1, [.t 14]⟩ ::
 ⟨(some 16), (some (13, true)), .p (.faddr 0), [.t 1]⟩ ::
 ⟨(some 17), (some (13, true)), .r .load1, [.t 16]⟩ ::
 ⟨(some 18), (some (13, true)), .p (.bin .leq), [.t 15, .t 17]⟩ ::
 ⟨(some 19), none, .p .pick, [.t 13, .t 18, .c (.bool false)]⟩ ::
 ⟨(some 20), none, .p .mov, [.t 19]⟩ ::
 ⟨(some 21), (some (20, true)), .p (.faddr 0), [.t 1]⟩ ::
 ⟨(some 22), (some (20, true)), .r .load1, [.t 21]⟩ ::
 ⟨(some 23), (some (20, true)), .p (.bin .leq), [.t 22, .c (.int .i64 64)]⟩ ::
 ⟨(some 24), none, .p .pick, [.t 20, .t 23, .c (.bool false)]⟩ ::
 ⟨(some 2), none, .p .mov, [.t 24]⟩ ::
 []))
.ret))⟩
abbrev f_demand_may : Nat := 127
abbrev C_demand_may : AFunc := C127
def C128 : AFunc := ⟨9, [.tmp 4],
(.seq (.ops (⟨(some 4), none, .p .mov, [.c (.bool false)]⟩ ::
 []))
(.seq (.ops (⟨(some 5), none, .p .mov, [.t 0]⟩ ::
 ⟨(some 6), none, .p .mov, [.t 1]⟩ ::
 ⟨(some 7), none, .call, [.c (.func (.func 139) [] []), .t 5, .t 6]⟩ ::
 ⟨(some 8), none, .p (.bin .geq), [.t 7, .c (.int .i64 0)]⟩ ::
 ⟨(some 4), none, .p .mov, [.t 8]⟩ ::
 []))
.ret))⟩
abbrev f_slices_Contains_int_int : Nat := 128
abbrev C_slices_Contains_int_int : AFunc := C128
def L_ticks_each_0 : AC := (.seq (.ops (⟨(some 9), none, .p (.bin .lss), [.t 8, .t 7]⟩ ::
 []))
(.seq (.cond (.t 9)
.skip
(.exit 0))
(.seq (.block 1 (.seq (.ops (⟨(some 10), none, .p (.iaddrS 1), [.t 6, .t 8]⟩ ::
 ⟨(some 11), none, .r .load1, [.t 10]⟩ ::
 ⟨(some 5), none, .p .mov, [.t 11]⟩ ::
 []))
(.ops (⟨(some 12), none, .p .mov, [.t 0]⟩ ::
 ⟨(some 13), none, .p .mov, [.t 5]⟩ ::
 ⟨(some 14), none, .call, [.t 12, .t 13]⟩ ::
 []))))
(.ops (⟨(some 15), none, .p (.bin .add), [.t 8, .c (.int .i64 1)]⟩ ::
 ⟨(some 8), none, .p .mov, [.t 15]⟩ ::
 [])))))
def C129 : AFunc := ⟨16, [],
(.seq (.ops (⟨(some 6), none, .p .mov, [.t 1]⟩ ::
 ⟨(some 7), none, .p .lenS, [.t 6]⟩ ::
 ⟨(some 8), none, .p .mov, [.c (.int .i64 0)]⟩ ::
 []))
(.block 0 (.loop L_ticks_each_0)))⟩
abbrev f_ticks_each : Nat := 129
abbrev C_ticks_each : AFunc := C129
def C130 : AFunc := ⟨37, [],
(.seq (.ops (⟨(some 6), none, .p .mov, [.t 0]⟩ ::
 ⟨(some 7), none, .p .nilchk, [.t 6]⟩ ::
 ⟨(some 8), none, .p (.faddr 1), [.t 7]⟩ ::
 ⟨(some 9), none, .r .load1, [.t 8]⟩ ::
 ⟨(some 10), none, .p (.bin .eql), [.t 9, .c (.int .i64 0)]⟩ ::
 []))
(.cond (.t 10)
(.seq (.ops (⟨(some 12), none, .p .mov, [.t 0]⟩ ::
 ⟨(some 13), none, .p .nilchk, [.t 12]⟩ ::
 ⟨(some 14), none, .p (.faddr 0), [.t 13]⟩ ::
 ⟨(some 15), none, .r .load1, [.t 14]⟩ ::
 ⟨(some 16), none, .p .mov, [.t 1]⟩ ::
 ⟨(some 17), none, .call, [.c (.func (.func 105) [] []), .t 15, .t 16]⟩ ::
 ⟨(some 11), none, .p .mov, [.t 17]⟩ ::
 ⟨(some 18), none, .p (.ext 0), [.t 11]⟩ ::
 ⟨(some 19), none, .p (.ext 1), [.t 11]⟩ ::
 ⟨(some 4), none, .p .mov, [.t 18]⟩ ::
 ⟨(some 5), none, .p .mov, [.t 19]⟩ ::
 []))
(.dops (⟨(some 21), none, .p .mov, [.t 0]⟩ ::
 ⟨(some 22), none, .p .mov, [.t 0]⟩ ::
 ⟨(some 23), none, .p .mov, [.t 0]⟩ ::
 ⟨(some 24), none, .p .nilchk, [.t 23]⟩ ::
 ⟨(some 25), none, .p (.faddr 0), [.t 24]⟩ ::
 ⟨(some 26), none, .r .load1, [.t 25]⟩ ::
 ⟨(some 27), none, .p .mov, [.t 1]⟩ ::
 ⟨(some 28), none, .p .mov, [.t 4]⟩ ::
 ⟨(some 29), none, .p (.bin .quo), [.t 27, .t 28]⟩ ::
 ⟨(some 30), none, .call, [.c (.func (.func 140) [] []), .t 26, .t 29]⟩ ::
 ⟨(some 20), none, .p .mov, [.t 30]⟩ ::
 ⟨(some 31), none, .p (.ext 0), [.t 20]⟩ ::
 ⟨(some 32), none, .p (.ext 1), [.t 20]⟩ ::
 ⟨(some 33), none, .p .nilchk, [.t 21]⟩ ::
 ⟨(some 34), none, .p (.faddr 0), [.t 33]⟩ ::
 ⟨none, none, .e (.store 1), [.t 34, .t 31]⟩ ::
 ⟨(some 35), none, .p .nilchk, [.t 22]⟩ ::
 ⟨(some 36), none, .p (.faddr 1), [.t 35]⟩ ::
 ⟨none, none, .e (.store 1), [.t 36, .t 32]⟩ ::
 []) ([] :: [] :: [] :: [] :: [] :: [] :: [] :: [] :: [] :: [] :: [] :: [] :: [] :: [] :: [] :: [] :: [] :: [] :: [] :: [])))
.skip))⟩
abbrev f_ticks_count_multiple : Nat := 130
abbrev C_ticks_count_multiple : AFunc := C130
def C131 : AFunc := ⟨16, [.tmp 4, .tmp 5],
(.seq (.ops (⟨(some 4), none, .p .mov, [.c (.int .i64 0)]⟩ ::
 ⟨(some 5), none, .p .mov, [.c (.int .i64 0)]⟩ ::
 []))
(.seq (.seq (.ops (⟨(some 6), none, .p .mov, [.t 1]⟩ ::
 ⟨(some 7), none, .p (.bin .eql), [.t 6, .c (.int .i64 0)]⟩ ::
 ⟨(some 8), none, .p .mov, [.t 7]⟩ ::
 ⟨(some 9), (some (8, true)), .p .mov, [.t 0]⟩ ::
 ⟨(some 10), (some (8, true)), .p (.bin .gtr), [.t 9, .c (.int .i64 1099511627776)]⟩ ::
 ⟨(some 11), none, .p .pick, [.t 8, .t 10, .c (.bool false)]⟩ ::
 []))
(.cond (.t 11)
(.ops (⟨(some 1), none, .p .mov, [.c (.int .i64 10)]⟩ ::
 []))
.skip))
(.seq (.seq (.ops (⟨(some 12), none, .p .mov, [.t 1]⟩ ::
 ⟨(some 13), none, .p (.bin .neq), [.t 12, .c (.int .i64 0)]⟩ ::
 []))
(.cond (.t 13)
(.seq (.ops (⟨(some 14), none, .p .mov, [.t 1]⟩ ::
 ⟨(some 4), none, .p .mov, [.c (.int .i64 0)]⟩ ::
 ⟨(some 5), none, .p .mov, [.t 14]⟩ ::
 []))
.ret)
.skip))
(.seq (.ops (⟨(some 15), none, .p .mov, [.t 0]⟩ ::
 ⟨(some 4), none, .p .mov, [.t 15]⟩ ::
 ⟨(some 5), none, .p .mov, [.c (.int .i64 0)]⟩ ::
 []))
.ret))))⟩
abbrev f_ticks_told : Nat := 131
abbrev C_ticks_told : AFunc := C131
def C132 : AFunc := ⟨9, [.tmp 4],
(.seq (.ops (⟨(some 4), none, .p .mov, [.c (.bool false)]⟩ ::
 []))
(.seq (.ops (⟨(some 5), none, .p .mov, [.t 0]⟩ ::
 ⟨(some 6), none, .p .mov, [.t 1]⟩ ::
 ⟨(some 7), none, .call, [.c (.func (.func 141) [] []), .t 5, .t 6]⟩ ::
 ⟨(some 8), none, .p (.bin .geq), [.t 7, .c (.int .i64 0)]⟩ ::
 ⟨(some 4), none, .p .mov, [.t 8]⟩ ::
 []))
.ret))⟩
abbrev f_slices_ContainsFunc_int_int : Nat := 132
abbrev C_slices_ContainsFunc_int_int : AFunc := C132
def C133 : AFunc := ⟨9, [.tmp 2],
(.seq (.ops (⟨(some 2), none, .p .mov, [.c (.bool false)]⟩ ::
 []))
(.seq (.ops (⟨(some 3), none, .p .mov, [.t 0]⟩ ::
 ⟨(some 4), none, .p (.bin .lss), [.t 3, .c (.int .i64 0)]⟩ ::
 ⟨(some 5), none, .p .mov, [.t 4]⟩ ::
 ⟨(some 6), (some (5, false)), .p .mov, [.t 0]⟩ ::
 ⟨(some 7), (some (5, false)), .p (.bin .gtr), [.t 6, .c (.int .i64 32768)]⟩ ::
 ⟨(some 8), none, .p .pick, [.t 5, .c (.bool true), .t 7]⟩ ::
 ⟨(some 2), none, .p .mov, [.t 8]⟩ ::
 []))
.ret))⟩
abbrev f_demand_Check_1 : Nat := 133
abbrev C_demand_Check_1 : AFunc := C133
def C134 : AFunc := ⟨27, [.tmp 6, .tmp 7],
(.seq (.ops (⟨(some 5), none, .a .box, [.t 2]⟩ ::
 ⟨(some 6), none, .p .mov, [.c (.int .i64 0)]⟩ ::
 ⟨(some 7), none, .p .mov, [.c (.int .i64 0)]⟩ ::
 []))
(.seq (.seq (.ops (⟨(some 9), none, .p .mov, [.t 0]⟩ ::
 ⟨(some 10), none, .p .mov, [.t 1]⟩ ::
 ⟨(some 11), none, .call, [.c (.func (.func 116) [] []), .t 9, .t 10]⟩ ::
 ⟨(some 8), none, .p .mov, [.t 11]⟩ ::
 []))
(.seq (.ops (⟨(some 12), none, .p .mov, [.t 8]⟩ ::
 ⟨(some 13), none, .p (.bin .neq), [.t 12, .c (.int .i64 0)]⟩ ::
 ⟨(some 14), none, .p .mov, [.t 13]⟩ ::
 ⟨(some 15), (some (14, false)), .r .load1, [.t 5]⟩ ::
 ⟨(some 16), (some (14, false)), .p (.bin .lss), [.t 15, .c (.int .i64 0)]⟩ ::
 ⟨(some 17), none, .p .pick, [.t 14, .c (.bool true), .t 16]⟩ ::
 ⟨(some 18), none, .p .mov, [.t 17]⟩ ::
 ⟨(some 19), (some (18, false)), .r .load1, [.t 5]⟩ ::
 ⟨(some 20), (some (18, false)), .p (.bin .gtr), [.t 19, .c (.int .i64 1048576)]⟩ ::
 ⟨(some 21), none, .p .pick, [.t 18, .c (.bool true), .t 20]⟩ ::
 []))
(.cond (.t 21)
(.seq (.ops (⟨(some 6), none, .p .mov, [.c (.int .i64 0)]⟩ ::
 ⟨(some 7), none, .p .mov, [.c (.int .i64 2)]⟩ ::
 []))
.ret)
.skip)))
(.seq (.ops (⟨(some 22), none, .p .mov, [.t 0]⟩ ::
 ⟨(some 23), none, .p .mov, [.t 1]⟩ ::
 ⟨(some 24), none, .p (.mkfunc (.func 142) 0), [.t 5]⟩ ::
 ⟨(some 25), none, .call, [.c (.func (.func 119) [] []), .t 22, .t 23, .t 24]⟩ ::
 ⟨(some 26), none, .call, [.c (.func (.func 118) [] []), .t 25]⟩ ::
 ⟨(some 6), none, .p .mov, [.t 26]⟩ ::
 ⟨(some 7), none, .p .mov, [.c (.int .i64 0)]⟩ ::
 []))
.ret)))⟩
abbrev f_demand_Of : Nat := 134
abbrev C_demand_Of : AFunc := C134
def C135 : AFunc := ⟨29, [.tmp 6, .tmp 7],
(.seq (.ops (⟨(some 6), none, .p .mov, [.c (.int .i64 0)]⟩ ::
 ⟨(some 7), none, .p .mov, [.c (.int .i64 0)]⟩ ::
 []))
(.seq (.ops (⟨(some 11), none, .p .mov, [.t 0]⟩ ::
 ⟨(some 12), none, .p .mov, [.t 1]⟩ ::
 ⟨(some 13), none, .call, [.c (.func (.func 143) [] []), .t 11, .t 12]⟩ ::
 ⟨(some 10), none, .p .mov, [.t 13]⟩ ::
 ⟨(some 14), none, .p (.ext 0), [.t 10]⟩ ::
 ⟨(some 15), none, .p (.ext 1), [.t 10]⟩ ::
 ⟨(some 8), none, .a (.alloc [(.int .i64 0), (.int .i64 0)]), []⟩ ::
 ⟨none, none, .e (.store 2), [.t 8, .t 14]⟩ ::
 ⟨(some 9), none, .p .mov, [.t 15]⟩ ::
 []))
(.seq (.seq (.ops (⟨(some 16), none, .p .mov, [.t 9]⟩ ::
 ⟨(some 17), none, .p .not, [.t 16]⟩ ::
 ⟨(some 18), none, .p .mov, [.t 17]⟩ ::
 ⟨(some 19), (some (18, false)), .p .mov, [.t 2]⟩ ::
 ⟨(some 20), (some (18, false)), .p (.bin .lss), [.t 19, .c (.int .i64 0)]⟩ ::
 ⟨(some 21), none, .p .pick, [.t 18, .c (.bool true), .t 20]⟩ ::
 ⟨(some 22), none, .p .mov, [.t 21]⟩ ::
 ⟨(some 23), (some (22, false)), .p .mov, [.t 2]⟩ ::
 ⟨(some 24), (some (22, false)), .p (.bin .gtr), [.t 23, .c (.int .i64 1048576)]⟩ ::
 ⟨(some 25), none, .p .pick, [.t 22, .c (.bool true), .t 24]⟩ ::
 []))
(.cond (.t 25)
(.seq (.ops (⟨(some 6), none, .p .mov, [.c (.int .i64 0)]⟩ ::
 ⟨(some 7), none, .p .mov, [.c (.int .i64 2)]⟩ ::
 []))
.ret)
.skip))
(.seq (.ops (⟨(some 26), none, .r (.loadN 2), [.t 8]⟩ ::
 ⟨(some 27), none, .p .mov, [.t 2]⟩ ::
 ⟨(some 28), none, .call, [.c (.func (.func 144) [] []), .t 26, .t 27]⟩ ::
 ⟨(some 6), none, .p .mov, [.t 28]⟩ ::
 ⟨(some 7), none, .p .mov, [.c (.int .i64 0)]⟩ ::
 []))
.ret))))⟩
abbrev f_supply_Of : Nat := 135
abbrev C_supply_Of : AFunc := C135
def L_delay_Of_0 : AC := (.seq (.ops (⟨(some 29), none, .p (.bin .lss), [.t 28, .t 27]⟩ ::
 []))
(.seq (.cond (.t 29)
.skip
(.exit 1))
(.seq (.block 2 (.seq (.ops (⟨(some 30), none, .p (.iaddrS 8), [.t 26, .t 28]⟩ ::
 ⟨(some 31), none, .r (.loadN 8), [.t 30]⟩ ::
 ⟨(some 10), none, .a (.alloc [(.int .i64 0), (.int .i64 0), (.int .i64 0), (.int .i64 0), (.int .i64 0), (.int .i64 0), (.int .i64 0), (.int .i64 0)]), []⟩ ::
 ⟨none, none, .e (.store 8), [.t 10, .t 31]⟩ ::
 []))
(.seq (.ops (⟨(some 32), none, .p (.faddr 1), [.t 10]⟩ ::
 ⟨(some 33), none, .r .load1, [.t 32]⟩ ::
 ⟨(some 34), none, .p .mov, [.t 2]⟩ ::
 ⟨(some 35), none, .p (.bin .gtr), [.t 33, .t 34]⟩ ::
 []))
(.cond (.t 35)
(.ops (⟨(some 36), none, .p .mov, [.t 6]⟩ ::
 ⟨(some 37), none, .r (.loadN 5), [.t 8]⟩ ::
 ⟨(some 38), none, .r (.loadN 8), [.t 10]⟩ ::
 ⟨(some 39), none, .call, [.c (.func (.func 145) [] []), .t 37, .t 38]⟩ ::
 ⟨(some 40), none, .p .mx, [.t 36, .t 39]⟩ ::
 ⟨(some 6), none, .p .mov, [.t 40]⟩ ::
 []))
.skip))))
(.ops (⟨(some 41), none, .p (.bin .add), [.t 28, .c (.int .i64 1)]⟩ ::
 ⟨(some 28), none, .p .mov, [.t 41]⟩ ::
 [])))))
def C136 : AFunc := ⟨43, [.tmp 6, .tmp 7],
(.seq (.ops (⟨(some 6), none, .p .mov, [.c (.int .i64 0)]⟩ ::
 ⟨(some 7), none, .p .mov, [.c (.int .i64 0)]⟩ ::
 []))
(.seq (.ops (⟨(some 12), none, .p .mov, [.t 0]⟩ ::
 ⟨(some 13), none, .p .mov, [.t 1]⟩ ::
 ⟨(some 14), none, .call, [.c (.func (.func 124) [] []), .t 12, .t 13]⟩ ::
 ⟨(some 11), none, .p .mov, [.t 14]⟩ ::
 ⟨(some 15), none, .p (.ext 0), [.t 11]⟩ ::
 ⟨(some 16), none, .p (.ext 1), [.t 11]⟩ ::
 ⟨(some 8), none, .a (.alloc [(.int .i64 0), (.int .i64 0), .nils, .nils, (.int .i64 0)]), []⟩ ::
 ⟨none, none, .e (.store 5), [.t 8, .t 15]⟩ ::
 ⟨(some 7), none, .p .mov, [.t 16]⟩ ::
 []))
(.seq (.block 0 (.seq (.ops (⟨(some 18), none, .p .mov, [.t 7]⟩ ::
 ⟨(some 19), none, .p (.bin .neq), [.t 18, .c (.int .i64 0)]⟩ ::
 ⟨(some 17), none, .p .mov, [.t 19]⟩ ::
 []))
(.cond (.t 17)
(.seq (.ops (⟨(some 20), none, .p .mov, [.t 7]⟩ ::
 ⟨(some 6), none, .p .mov, [.c (.int .i64 0)]⟩ ::
 ⟨(some 7), none, .p .mov, [.t 20]⟩ ::
 []))
.ret)
(.seq (.ops (⟨(some 22), none, .p .mov, [.t 2]⟩ ::
 ⟨(some 23), none, .p (.bin .lss), [.t 22, .c (.int .i64 0)]⟩ ::
 ⟨(some 21), none, .p .mov, [.t 23]⟩ ::
 []))
(.cond (.t 21)
(.seq (.ops (⟨(some 6), none, .p .mov, [.c (.int .i64 0)]⟩ ::
 ⟨(some 7), none, .p .mov, [.c (.int .i64 2)]⟩ ::
 []))
.ret)
.skip)))))
(.seq (.seq (.ops (⟨(some 24), none, .p (.faddr 0), [.t 8]⟩ ::
 ⟨(some 25), none, .p (.faddr 2), [.t 24]⟩ ::
 ⟨(some 26), none, .r .load1, [.t 25]⟩ ::
 ⟨(some 27), none, .p .lenS, [.t 26]⟩ ::
 ⟨(some 28), none, .p .mov, [.c (.int .i64 0)]⟩ ::
 []))
(.block 1 (.loop L_delay_Of_0)))
(.seq (.ops (⟨(some 42), none, .p .mov, [.t 6]⟩ ::
 ⟨(some 6), none, .p .mov, [.t 42]⟩ ::
 ⟨(some 7), none, .p .mov, [.c (.int .i64 0)]⟩ ::
 []))
.ret)))))⟩
abbrev f_delay_Of : Nat := 136
abbrev C_delay_Of : AFunc := C136
def L_delay_Check_0 : AC := (.seq (.ops (⟨(some 12), none, .p (.bin .lss), [.t 11, .t 10]⟩ ::
 []))
(.seq (.cond (.t 12)
.skip
(.exit 0))
(.seq (.block 1 (.seq (.ops (⟨(some 13), none, .p (.iaddrS 3), [.t 9, .t 11]⟩ ::
 ⟨(some 14), none, .r (.loadN 3), [.t 13]⟩ ::
 ⟨(some 4), none, .a (.alloc [(.int .i64 0), (.int .i64 0), .nils]), []⟩ ::
 ⟨none, none, .e (.store 3), [.t 4, .t 14]⟩ ::
 []))
(.seq (.seq (.ops (⟨(some 15), none, .p (.faddr 0), [.t 4]⟩ ::
 ⟨(some 16), none, .r .load1, [.t 15]⟩ ::
 ⟨(some 17), none, .p (.bin .lss), [.t 16, .c (.int .i64 1)]⟩ ::
 ⟨(some 18), none, .p .mov, [.t 17]⟩ ::
 ⟨(some 19), (some (18, false)), .p (.faddr 0), [.t 4]⟩ ::
 ⟨(some 20), (some (18, false)), .r .load1, [.t 19]⟩ ::
 ⟨(some 21), (some (18, false)), .p (.bin .gtr), [.t 20, .c (.int .i64 64)]⟩ ::
 ⟨(some 22), none, .p .pick, [.t 18, .c (.bool true), .t 21]⟩ ::
 ⟨(some 23), none, .p .mov, [.t 22]⟩ ::
 ⟨(some 24), (some (23, false)), .p (.faddr 1), [.t 4]⟩ ::
 ⟨(some 25), (some (23, false)), .r .load1, [.t 24]⟩ ::
 ⟨(some 26), (some (23, false)), .p (.bin .lss), [.t 25, .c (.int .i64 1)]⟩ ::
 ⟨(some 27), none, .p .pick, [.t 23, .c (.bool true), .t 26]⟩ ::
 ⟨(some 28), none, .p .mov, [.t 27]⟩ ::
 ⟨(some 29), (some (28, false)), .p (.faddr 1), [.t 4]⟩ ::
 ⟨(some 30), (some (28, false)), .r .load1, [.t 29]⟩ ::
 ⟨(some 31), (some (28, false)), .p (.faddr 0), [.t 4]⟩ ::
 ⟨(some 32), (some (28, false)), .r .load1, [.t 31]⟩ ::
 ⟨(some 33), (some (28, false)), .p (.bin .gtr), [.t 30, .t 32]⟩ ::
 ⟨(some 34), none, .p .pick, [.t 28, .c (.bool true), .t 33]⟩ ::
 []))
(.cond (.t 34)
(.seq (.ops (⟨(some 2), none, .p .mov, [.c (.int .i64 2)]⟩ ::
 []))
.ret)
.skip))
(.seq (.seq (.dops (⟨(some 35), none, .p (.faddr 2), [.t 4]⟩ ::
 ⟨(some 36), none, .r .load1, [.t 35]⟩ ::
 ⟨(some 37), none, .p (.faddr 2), [.t 4]⟩ ::
 ⟨(some 38), none, .r .load1, [.t 37]⟩ ::
 ⟨(some 39), none, .p .lenS, [.t 38]⟩ ::
 ⟨(some 40), none, .a (.mkslice [(.int .i64 0)] 1 8), [.t 39, .t 39]⟩ ::
 ⟨(some 41), none, .call, [.c (.func (.func 116) [] []), .t 36, .t 40]⟩ ::
 ⟨(some 5), none, .p .mov, [.t 41]⟩ ::
 []) ([] :: [] :: [] :: [] :: [] :: [] :: [] :: [] :: []))
(.seq (.ops (⟨(some 42), none, .p .mov, [.t 5]⟩ ::
 ⟨(some 43), none, .p (.bin .neq), [.t 42, .c (.int .i64 0)]⟩ ::
 []))
(.cond (.t 43)
(.seq (.ops (⟨(some 44), none, .p .mov, [.t 5]⟩ ::
 ⟨(some 2), none, .p .mov, [.t 44]⟩ ::
 []))
.ret)
.skip)))
(.seq (.ops (⟨(some 45), none, .p (.faddr 2), [.t 4]⟩ ::
 ⟨(some 46), none, .r .load1, [.t 45]⟩ ::
 ⟨(some 47), none, .p (.mkfunc (.func 146) 0), [.t 4]⟩ ::
 ⟨(some 48), none, .call, [.c (.func (.func 80) [] []), .t 46, .t 47]⟩ ::
 []))
(.cond (.t 48)
(.seq (.ops (⟨(some 2), none, .p .mov, [.c (.int .i64 2)]⟩ ::
 []))
.ret)
.skip))))))
(.ops (⟨(some 49), none, .p (.bin .add), [.t 11, .c (.int .i64 1)]⟩ ::
 ⟨(some 11), none, .p .mov, [.t 49]⟩ ::
 [])))))
def C137 : AFunc := ⟨50, [.tmp 2],
(.seq (.ops (⟨(some 2), none, .p .mov, [.c (.int .i64 0)]⟩ ::
 []))
(.seq (.seq (.ops (⟨(some 6), none, .p .mov, [.t 0]⟩ ::
 ⟨(some 7), none, .p .lenS, [.t 6]⟩ ::
 ⟨(some 8), none, .p (.bin .gtr), [.t 7, .c (.int .i64 4)]⟩ ::
 []))
(.cond (.t 8)
(.seq (.ops (⟨(some 2), none, .p .mov, [.c (.int .i64 2)]⟩ ::
 []))
.ret)
.skip))
(.seq (.seq (.ops (⟨(some 9), none, .p .mov, [.t 0]⟩ ::
 ⟨(some 10), none, .p .lenS, [.t 9]⟩ ::
 ⟨(some 11), none, .p .mov, [.c (.int .i64 0)]⟩ ::
 []))
(.block 0 (.loop L_delay_Check_0)))
(.seq (.ops (⟨(some 2), none, .p .mov, [.c (.int .i64 0)]⟩ ::
 []))
.ret))))⟩
abbrev f_delay_Check : Nat := 137
abbrev C_delay_Check : AFunc := C137
def C138 : AFunc := ⟨6, [.tmp 4],
(.seq (.ops (⟨(some 2), none, .a .box, [.t 0]⟩ ::
 ⟨(some 3), none, .a .box, [.t 1]⟩ ::
 ⟨(some 4), none, .p .mov, [.c .nilf]⟩ ::
 []))
(.seq (.ops (⟨(some 5), none, .p (.mkfunc (.func 148) 0), [.t 2, .t 3]⟩ ::
 ⟨(some 4), none, .p .mov, [.t 5]⟩ ::
 []))
.ret))⟩
abbrev f_delay_seen_sharers : Nat := 138
abbrev C_delay_seen_sharers : AFunc := C138
def L_slices_Index_int_int_0 : AC := (.seq (.ops (⟨(some 9), none, .p (.bin .lss), [.t 8, .t 7]⟩ ::
 []))
(.seq (.cond (.t 9)
.skip
(.exit 0))
(.seq (.block 1 (.seq (.ops (⟨(some 10), none, .p .mov, [.t 8]⟩ ::
 ⟨(some 5), none, .p .mov, [.t 10]⟩ ::
 []))
(.seq (.ops (⟨(some 11), none, .p .mov, [.t 1]⟩ ::
 ⟨(some 12), none, .p .mov, [.t 0]⟩ ::
 ⟨(some 13), none, .p .mov, [.t 5]⟩ ::
 ⟨(some 14), none, .p (.iaddrS 1), [.t 12, .t 13]⟩ ::
 ⟨(some 15), none, .r .load1, [.t 14]⟩ ::
 ⟨(some 16), none, .p (.bin .eql), [.t 11, .t 15]⟩ ::
 []))
(.cond (.t 16)
(.seq (.ops (⟨(some 17), none, .p .mov, [.t 5]⟩ ::
 ⟨(some 4), none, .p .mov, [.t 17]⟩ ::
 []))
.ret)
.skip))))
(.ops (⟨(some 18), none, .p (.bin .add), [.t 8, .c (.int .i64 1)]⟩ ::
 ⟨(some 8), none, .p .mov, [.t 18]⟩ ::
 [])))))
def C139 : AFunc := ⟨19, [.tmp 4],
(.seq (.ops (⟨(some 4), none, .p .mov, [.c (.int .i64 0)]⟩ ::
 []))
(.seq (.seq (.ops (⟨(some 6), none, .p .mov, [.t 0]⟩ ::
 ⟨(some 7), none, .p .lenS, [.t 6]⟩ ::
 ⟨(some 8), none, .p .mov, [.c (.int .i64 0)]⟩ ::
 []))
(.block 0 (.loop L_slices_Index_int_int_0)))
(.seq (.ops (⟨(some 4), none, .p .mov, [.c (.int .i64 (-1))]⟩ ::
 []))
.ret)))⟩
abbrev f_slices_Index_int_int : Nat := 139
abbrev C_slices_Index_int_int : AFunc := C139
def C140 : AFunc := ⟨29, [.tmp 4, .tmp 5],
(.seq (.ops (⟨(some 4), none, .p .mov, [.c (.int .i64 0)]⟩ ::
 ⟨(some 5), none, .p .mov, [.c (.int .i64 0)]⟩ ::
 []))
(.seq (.seq (.ops (⟨(some 8), none, .p .mov, [.t 0]⟩ ::
 ⟨(some 9), none, .p .mov, [.t 1]⟩ ::
 ⟨(some 10), none, .a (.bslice [(.int .i64 0)] 2 1 [0, 1]), [.t 8, .t 9]⟩ ::
 ⟨(some 11), none, .call, [.c (.func (.func 112) [] []), .t 10]⟩ ::
 ⟨(some 12), none, .p .not, [.t 11]⟩ ::
 []))
(.cond (.t 12)
(.seq (.ops (⟨(some 4), none, .p .mov, [.c (.int .i64 0)]⟩ ::
 ⟨(some 5), none, .p .mov, [.c (.int .i64 2)]⟩ ::
 []))
.ret)
.skip))
(.seq (.ops (⟨(some 14), none, .p .mov, [.t 0]⟩ ::
 ⟨(some 15), none, .p (.conv .u64), [.t 14]⟩ ::
 ⟨(some 16), none, .p .mov, [.t 1]⟩ ::
 ⟨(some 17), none, .p (.conv .u64), [.t 16]⟩ ::
 ⟨(some 18), none, .call, [.c (.func (.func 150) [] []), .t 15, .t 17]⟩ ::
 ⟨(some 13), none, .p .mov, [.t 18]⟩ ::
 ⟨(some 19), none, .p (.ext 0), [.t 13]⟩ ::
 ⟨(some 20), none, .p (.ext 1), [.t 13]⟩ ::
 ⟨(some 6), none, .p .mov, [.t 19]⟩ ::
 ⟨(some 7), none, .p .mov, [.t 20]⟩ ::
 []))
(.seq (.seq (.ops (⟨(some 21), none, .p .mov, [.t 6]⟩ ::
 ⟨(some 22), none, .p (.bin .gtr), [.t 21, .c (.int .u64 0)]⟩ ::
 ⟨(some 23), none, .p .mov, [.t 22]⟩ ::
 ⟨(some 24), (some (23, false)), .p .mov, [.t 7]⟩ ::
 ⟨(some 25), (some (23, false)), .p (.bin .gtr), [.t 24, .c (.int .u64 1099511627776)]⟩ ::
 ⟨(some 26), none, .p .pick, [.t 23, .c (.bool true), .t 25]⟩ ::
 []))
(.cond (.t 26)
(.seq (.ops (⟨(some 4), none, .p .mov, [.c (.int .i64 0)]⟩ ::
 ⟨(some 5), none, .p .mov, [.c (.int .i64 10)]⟩ ::
 []))
.ret)
.skip))
(.seq (.ops (⟨(some 27), none, .p .mov, [.t 7]⟩ ::
 ⟨(some 28), none, .p (.conv .i64), [.t 27]⟩ ::
 ⟨(some 4), none, .p .mov, [.t 28]⟩ ::
 ⟨(some 5), none, .p .mov, [.c (.int .i64 0)]⟩ ::
 []))
.ret)))))⟩
abbrev f_ticks_Mul : Nat := 140
abbrev C_ticks_Mul : AFunc := C140
def L_slices_IndexFunc_int_int_0 : AC := (.seq (.ops (⟨(some 9), none, .p (.bin .lss), [.t 8, .t 7]⟩ ::
 []))
(.seq (.cond (.t 9)
.skip
(.exit 0))
(.seq (.block 1 (.seq (.ops (⟨(some 10), none, .p .mov, [.t 8]⟩ ::
 ⟨(some 5), none, .p .mov, [.t 10]⟩ ::
 []))
(.seq (.ops (⟨(some 11), none, .p .mov, [.t 1]⟩ ::
 ⟨(some 12), none, .p .mov, [.t 0]⟩ ::
 ⟨(some 13), none, .p .mov, [.t 5]⟩ ::
 ⟨(some 14), none, .p (.iaddrS 1), [.t 12, .t 13]⟩ ::
 ⟨(some 15), none, .r .load1, [.t 14]⟩ ::
 ⟨(some 16), none, .call, [.t 11, .t 15]⟩ ::
 []))
(.cond (.t 16)
(.seq (.ops (⟨(some 17), none, .p .mov, [.t 5]⟩ ::
 ⟨(some 4), none, .p .mov, [.t 17]⟩ ::
 []))
.ret)
.skip))))
(.ops (⟨(some 18), none, .p (.bin .add), [.t 8, .c (.int .i64 1)]⟩ ::
 ⟨(some 8), none, .p .mov, [.t 18]⟩ ::
 [])))))
def C141 : AFunc := ⟨19, [.tmp 4],
(.seq (.ops (⟨(some 4), none, .p .mov, [.c (.int .i64 0)]⟩ ::
 []))
(.seq (.seq (.ops (⟨(some 6), none, .p .mov, [.t 0]⟩ ::
 ⟨(some 7), none, .p .lenS, [.t 6]⟩ ::
 ⟨(some 8), none, .p .mov, [.c (.int .i64 0)]⟩ ::
 []))
(.block 0 (.loop L_slices_IndexFunc_int_int_0)))
(.seq (.ops (⟨(some 4), none, .p .mov, [.c (.int .i64 (-1))]⟩ ::
 []))
.ret)))⟩
abbrev f_slices_IndexFunc_int_int : Nat := 141
abbrev C_slices_IndexFunc_int_int : AFunc := C141
def C142 : AFunc := ⟨16, [.tmp 3],
(.seq (.ops (⟨(some 2), none, .a .box, [.t 0]⟩ ::
 ⟨(some 3), none, .p .mov, [.c (.int .i64 0)]⟩ ::
 []))
(.seq (.seq (.ops (⟨(some 4), none, .r .load1, [.t 1]⟩ ::
 ⟨(some 5), none, .p (.faddr 1), [.t 2]⟩ ::
 ⟨(some 6), none, .r .load1, [.t 5]⟩ ::
 ⟨(some 7), none, .p (.bin .lss), [.t 4, .t 6]⟩ ::
 []))
(.cond (.t 7)
(.seq (.ops (⟨(some 3), none, .p .mov, [.c (.int .i64 0)]⟩ ::
 []))
.ret)
.skip))
(.seq (.ops (⟨(some 8), none, .r .load1, [.t 1]⟩ ::
 ⟨(some 9), none, .p (.faddr 1), [.t 2]⟩ ::
 ⟨(some 10), none, .r .load1, [.t 9]⟩ ::
 ⟨(some 11), none, .p (.bin .sub), [.t 8, .t 10]⟩ ::
 ⟨(some 12), none, .p (.faddr 0), [.t 2]⟩ ::
 ⟨(some 13), none, .r .load1, [.t 12]⟩ ::
 ⟨(some 14), none, .p (.bin .quo), [.t 11, .t 13]⟩ ::
 ⟨(some 15), none, .p (.bin .add), [.c (.int .i64 1), .t 14]⟩ ::
 ⟨(some 3), none, .p .mov, [.t 15]⟩ ::
 []))
.ret)))⟩
abbrev f_demand_Of_1 : Nat := 142
abbrev C_demand_Of_1 : AFunc := C142
def C143 : AFunc := ⟨27, [.cell 4 2 true, .tmp 5],
(.seq (.ops (⟨(some 4), none, .a (.alloc [(.int .i64 0), (.int .i64 0)]), []⟩ ::
 ⟨(some 5), none, .p .mov, [.c (.bool false)]⟩ ::
 []))
(.seq (.ops (⟨(some 7), none, .p .mov, [.t 0]⟩ ::
 ⟨(some 8), none, .p .mov, [.t 1]⟩ ::
 ⟨(some 9), none, .p (.build [(.int .i64 0), (.int .i64 0)] [(0, 1), (1, 1)]), [.t 7, .t 8]⟩ ::
 ⟨(some 10), none, .p (.build [(.int .i64 0), (.int .i64 0)] [(0, 2)]), [.t 9]⟩ ::
 ⟨(some 6), none, .a (.alloc [(.int .i64 0), (.int .i64 0)]), []⟩ ::
 ⟨none, none, .e (.store 2), [.t 6, .t 10]⟩ ::
 []))
(.seq (.ops (⟨(some 11), none, .r (.loadN 2), [.t 6]⟩ ::
 ⟨(some 12), none, .p .mov, [.t 0]⟩ ::
 ⟨(some 13), none, .p (.bin .leq), [.c (.int .i64 1), .t 12]⟩ ::
 ⟨(some 14), none, .p .mov, [.t 13]⟩ ::
 ⟨(some 15), (some (14, true)), .p .mov, [.t 0]⟩ ::
 ⟨(some 16), (some (14, true)), .p (.bin .leq), [.t 15, .c (.int .i64 64)]⟩ ::
 ⟨(some 17), none, .p .pick, [.t 14, .t 16, .c (.bool false)]⟩ ::
 ⟨(some 18), none, .p .mov, [.t 17]⟩ ::
 ⟨(some 19), (some (18, true)), .p .mov, [.t 1]⟩ ::
 ⟨(some 20), (some (18, true)), .p (.bin .leq), [.c (.int .i64 1), .t 19]⟩ ::
 ⟨(some 21), none, .p .pick, [.t 18, .t 20, .c (.bool false)]⟩ ::
 ⟨(some 22), none, .p .mov, [.t 21]⟩ ::
 ⟨(some 23), (some (22, true)), .p .mov, [.t 1]⟩ ::
 ⟨(some 24), (some (22, true)), .p .mov, [.t 0]⟩ ::
 ⟨(some 25), (some (22, true)), .p (.bin .leq), [.t 23, .t 24]⟩ ::
 ⟨(some 26), none, .p .pick, [.t 22, .t 25, .c (.bool false)]⟩ ::
 ⟨none, none, .e (.store 2), [.t 4, .t 11]⟩ ::
 ⟨(some 5), none, .p .mov, [.t 26]⟩ ::
 []))
.ret)))⟩
abbrev f_supply_of : Nat := 143
abbrev C_supply_of : AFunc := C143
def C144 : AFunc := ⟨40, [.tmp 4],
(.seq (.ops (⟨(some 2), none, .a .box, [.t 0]⟩ ::
 ⟨(some 4), none, .p .mov, [.c (.int .i64 0)]⟩ ::
 []))
(.seq (.ops (⟨(some 7), none, .p (.faddr 0), [.t 2]⟩ ::
 ⟨(some 8), none, .r (.loadN 2), [.t 7]⟩ ::
 ⟨(some 9), none, .call, [.c (.func (.func 151) [] []), .t 8]⟩ ::
 ⟨(some 5), none, .p .mov, [.t 9]⟩ ::
 []))
(.seq (.seq (.ops (⟨(some 10), none, .p .mov, [.t 1]⟩ ::
 ⟨(some 11), none, .p .mov, [.t 5]⟩ ::
 ⟨(some 12), none, .p (.bin .lss), [.t 10, .t 11]⟩ ::
 []))
(.cond (.t 12)
(.seq (.ops (⟨(some 4), none, .p .mov, [.c (.int .i64 0)]⟩ ::
 []))
.ret)
.skip))
(.seq (.ops (⟨(some 13), none, .p .mov, [.t 1]⟩ ::
 ⟨(some 14), none, .p .mov, [.t 5]⟩ ::
 ⟨(some 15), none, .p (.bin .sub), [.t 13, .t 14]⟩ ::
 ⟨(some 16), none, .p (.faddr 0), [.t 2]⟩ ::
 ⟨(some 17), none, .p (.faddr 0), [.t 16]⟩ ::
 ⟨(some 18), none, .r .load1, [.t 17]⟩ ::
 ⟨(some 19), none, .call, [.c (.func (.func 152) [] []), .t 15, .t 18]⟩ ::
 ⟨(some 6), none, .p .mov, [.t 19]⟩ ::
 []))
(.seq (.dops (⟨(some 20), none, .p .mov, [.t 6]⟩ ::
 ⟨(some 21), none, .p (.faddr 0), [.t 2]⟩ ::
 ⟨(some 22), none, .p (.faddr 1), [.t 21]⟩ ::
 ⟨(some 23), none, .r .load1, [.t 22]⟩ ::
 ⟨(some 24), none, .p (.bin .mul), [.t 20, .t 23]⟩ ::
 ⟨(some 25), none, .p .mov, [.t 1]⟩ ::
 ⟨(some 26), none, .p .mov, [.t 5]⟩ ::
 ⟨(some 27), none, .p (.bin .sub), [.t 25, .t 26]⟩ ::
 ⟨(some 28), none, .p .mov, [.t 6]⟩ ::
 ⟨(some 29), none, .p (.faddr 0), [.t 2]⟩ ::
 ⟨(some 30), none, .p (.faddr 0), [.t 29]⟩ ::
 ⟨(some 31), none, .r .load1, [.t 30]⟩ ::
 ⟨(some 32), none, .p (.bin .mul), [.t 28, .t 31]⟩ ::
 ⟨(some 33), none, .p (.bin .sub), [.t 27, .t 32]⟩ ::
 ⟨(some 34), none, .p (.faddr 0), [.t 2]⟩ ::
 ⟨(some 35), none, .r (.loadN 2), [.t 34]⟩ ::
 ⟨(some 36), none, .call, [.c (.func (.func 151) [] []), .t 35]⟩ ::
 ⟨(some 37), none, .p (.bin .sub), [.t 33, .t 36]⟩ ::
 ⟨(some 38), none, .p .mx, [.c (.int .i64 0), .t 37]⟩ ::
 ⟨(some 39), none, .p (.bin .add), [.t 24, .t 38]⟩ ::
 ⟨(some 4), none, .p .mov, [.t 39]⟩ ::
 []) ([] :: [] :: [] :: [0, 17] :: [] :: [] :: [] :: [] :: [] :: [] :: [] :: [0, 17] :: [] :: [] :: [] :: [] :: [] :: [] :: [] :: [] :: [] :: []))
.ret)))))⟩
abbrev f_supply_server_gives : Nat := 144
abbrev C_supply_server_gives : AFunc := C144
def C145 : AFunc := ⟨21, [.tmp 4],
(.seq (.ops (⟨(some 2), none, .a .box, [.t 0]⟩ ::
 ⟨(some 3), none, .a .box, [.t 1]⟩ ::
 ⟨(some 4), none, .p .mov, [.c (.int .i64 0)]⟩ ::
 []))
(.seq (.seq (.ops (⟨(some 5), none, .p (.faddr 5), [.t 3]⟩ ::
 ⟨(some 6), none, .r .load1, [.t 5]⟩ ::
 ⟨(some 7), none, .p (.bin .eql), [.t 6, .c (.int .i64 0)]⟩ ::
 []))
(.cond (.t 7)
(.seq (.ops (⟨(some 8), none, .p (.faddr 4), [.t 3]⟩ ::
 ⟨(some 9), none, .r .load1, [.t 8]⟩ ::
 ⟨(some 4), none, .p .mov, [.t 9]⟩ ::
 []))
.ret)
.skip))
(.seq (.dops (⟨(some 10), none, .p (.faddr 4), [.t 3]⟩ ::
 ⟨(some 11), none, .r .load1, [.t 10]⟩ ::
 ⟨(some 12), none, .r (.loadN 5), [.t 2]⟩ ::
 ⟨(some 13), none, .r (.loadN 8), [.t 3]⟩ ::
 ⟨(some 14), none, .call, [.c (.func (.func 125) [] []), .t 12, .t 13]⟩ ::
 ⟨(some 15), none, .p (.faddr 6), [.t 3]⟩ ::
 ⟨(some 16), none, .r .load1, [.t 15]⟩ ::
 ⟨(some 17), none, .p (.bin .mul), [.c (.int .i64 2), .t 16]⟩ ::
 ⟨(some 18), none, .p (.bin .add), [.t 14, .t 17]⟩ ::
 ⟨(some 19), none, .p (.bin .sub), [.t 18, .c (.int .i64 1)]⟩ ::
 ⟨(some 20), none, .p .mx, [.t 11, .t 19]⟩ ::
 ⟨(some 4), none, .p .mov, [.t 20]⟩ ::
 []) ([] :: [0, 5] :: [] :: [] :: [] :: [] :: [0, 5] :: [] :: [] :: [] :: [] :: [] :: []))
.ret)))⟩
abbrev f_delay_seen_by : Nat := 145
abbrev C_delay_seen_by : AFunc := C145
def C146 : AFunc := ⟨9, [.tmp 3],
(.seq (.ops (⟨(some 2), none, .a .box, [.t 0]⟩ ::
 ⟨(some 3), none, .p .mov, [.c (.bool false)]⟩ ::
 []))
(.seq (.ops (⟨(some 4), none, .r (.loadN 8), [.t 2]⟩ ::
 ⟨(some 5), none, .p (.faddr 1), [.t 1]⟩ ::
 ⟨(some 6), none, .r .load1, [.t 5]⟩ ::
 ⟨(some 7), none, .call, [.c (.func (.func 147) [] []), .t 4, .t 6]⟩ ::
 ⟨(some 8), none, .p .not, [.t 7]⟩ ::
 ⟨(some 3), none, .p .mov, [.t 8]⟩ ::
 []))
.ret))⟩
abbrev f_delay_Check_1 : Nat := 146
abbrev C_delay_Check_1 : AFunc := C146
def C147 : AFunc := ⟨56, [.tmp 4],
(.seq (.ops (⟨(some 2), none, .a .box, [.t 0]⟩ ::
 ⟨(some 4), none, .p .mov, [.c (.bool false)]⟩ ::
 []))
(.seq (.block 0 (.seq (.seq (.ops (⟨(some 6), none, .p (.faddr 4), [.t 2]⟩ ::
 ⟨(some 7), none, .r .load1, [.t 6]⟩ ::
 ⟨(some 8), none, .p (.bin .lss), [.t 7, .c (.int .i64 0)]⟩ ::
 ⟨(some 5), none, .p .mov, [.t 8]⟩ ::
 []))
(.cond (.t 5)
.skip
(.seq (.ops (⟨(some 9), none, .p (.faddr 4), [.t 2]⟩ ::
 ⟨(some 10), none, .r .load1, [.t 9]⟩ ::
 ⟨(some 11), none, .p (.faddr 2), [.t 2]⟩ ::
 ⟨(some 12), none, .r .load1, [.t 11]⟩ ::
 ⟨(some 13), none, .p (.bin .gtr), [.t 10, .t 12]⟩ ::
 ⟨(some 5), none, .p .mov, [.t 13]⟩ ::
 []))
(.cond (.t 5)
.skip
(.seq (.ops (⟨(some 14), none, .p (.faddr 5), [.t 2]⟩ ::
 ⟨(some 15), none, .r .load1, [.t 14]⟩ ::
 ⟨(some 16), none, .p (.bin .lss), [.t 15, .c (.int .i64 0)]⟩ ::
 ⟨(some 5), none, .p .mov, [.t 16]⟩ ::
 []))
(.cond (.t 5)
.skip
(.ops (⟨(some 17), none, .p (.faddr 5), [.t 2]⟩ ::
 ⟨(some 18), none, .r .load1, [.t 17]⟩ ::
 ⟨(some 19), none, .p (.bin .gtr), [.t 18, .c (.int .i64 4)]⟩ ::
 ⟨(some 5), none, .p .mov, [.t 19]⟩ ::
 []))))))))
(.cond (.t 5)
(.seq (.ops (⟨(some 4), none, .p .mov, [.c (.bool false)]⟩ ::
 []))
.ret)
(.seq (.ops (⟨(some 21), none, .p (.faddr 5), [.t 2]⟩ ::
 ⟨(some 22), none, .r .load1, [.t 21]⟩ ::
 ⟨(some 23), none, .p (.bin .eql), [.t 22, .c (.int .i64 0)]⟩ ::
 ⟨(some 20), none, .p .mov, [.t 23]⟩ ::
 []))
(.cond (.t 20)
(.seq (.ops (⟨(some 24), none, .p (.faddr 6), [.t 2]⟩ ::
 ⟨(some 25), none, .r .load1, [.t 24]⟩ ::
 ⟨(some 26), none, .p (.bin .eql), [.t 25, .c (.int .i64 0)]⟩ ::
 ⟨(some 27), none, .p .mov, [.t 26]⟩ ::
 ⟨(some 28), (some (27, true)), .p (.faddr 7), [.t 2]⟩ ::
 ⟨(some 29), (some (27, true)), .r .load1, [.t 28]⟩ ::
 ⟨(some 30), (some (27, true)), .p (.bin .eql), [.t 29, .c (.int .i64 0)]⟩ ::
 ⟨(some 31), none, .p .pick, [.t 27, .t 30, .c (.bool false)]⟩ ::
 ⟨(some 4), none, .p .mov, [.t 31]⟩ ::
 []))
.ret)
.skip)))))
(.seq (.dops (⟨(some 32), none, .p (.faddr 6), [.t 2]⟩ ::
 ⟨(some 33), none, .r .load1, [.t 32]⟩ ::
 ⟨(some 34), none, .p (.bin .leq), [.c (.int .i64 1), .t 33]⟩ ::
 ⟨(some 35), none, .p .mov, [.t 34]⟩ ::
 ⟨(some 36), (some (35, true)), .p (.faddr 6), [.t 2]⟩ ::
 ⟨(some 37), (some (35, true)), .r .load1, [.t 36]⟩ ::
 ⟨(some 38), (some (35, true)), .p .mov, [.t 1]⟩ ::
 ⟨(some 39), (some (35, true)), .p (.bin .leq), [.t 37, .t 38]⟩ ::
 ⟨(some 40), none, .p .pick, [.t 35, .t 39, .c (.bool false)]⟩ ::
 ⟨(some 41), none, .p .mov, [.t 40]⟩ ::
 ⟨(some 42), (some (41, true)), .p (.faddr 7), [.t 2]⟩ ::
 ⟨(some 43), (some (41, true)), .r .load1, [.t 42]⟩ ::
 ⟨(some 44), (some (41, true)), .p (.bin .leq), [.c (.int .i64 1), .t 43]⟩ ::
 ⟨(some 45), none, .p .pick, [.t 41, .t 44, .c (.bool false)]⟩ ::
 ⟨(some 46), none, .p .mov, [.t 45]⟩ ::
 ⟨(some 47), (some (46, true)), .p (.faddr 7), [.t 2]⟩ ::
 ⟨(some 48), (some (46, true)), .r .load1, [.t 47]⟩ ::
 ⟨(some 49), (some (46, true)), .p (.faddr 2), [.t 2]⟩ ::
 ⟨(some 50), (some (46, true)), .r .load1, [.t 49]⟩ ::
 ⟨(some 51), (some (46, true)), .p (.faddr 6), [.t 2]⟩ ::
 ⟨(some 52), (some (46, true)), .r .load1, [.t 51]⟩ ::
 ⟨(some 53), (some (46, true)), .p (.bin .quo), [.t 50, .t 52]⟩ ::
 ⟨(some 54), (some (46, true)), .p (.bin .leq), [.t 48, .t 53]⟩ ::
 ⟨(some 55), none, .p .pick, [.t 46, .t 54, .c (.bool false)]⟩ ::
 ⟨(some 4), none, .p .mov, [.t 55]⟩ ::
 []) ([] :: [] :: [] :: [] :: [] :: [] :: [] :: [] :: [] :: [] :: [] :: [] :: [] :: [] :: [] :: [] :: [] :: [] :: [] :: [] :: [] :: [] :: [] :: [] :: [] :: []))
.ret)))⟩
abbrev f_delay_may : Nat := 147
abbrev C_delay_may : AFunc := C147
def L_delay_seen_sharers_1_0 : AC := (.seq (.ops (⟨(some 11), none, .p (.bin .lss), [.t 10, .t 9]⟩ ::
 []))
(.seq (.cond (.t 11)
.skip
(.exit 0))
(.seq (.block 1 (.seq (.ops (⟨(some 12), none, .p .mov, [.t 10]⟩ ::
 ⟨(some 13), none, .p (.iaddrS 3), [.t 8, .t 10]⟩ ::
 ⟨(some 14), none, .r (.loadN 3), [.t 13]⟩ ::
 ⟨(some 5), none, .a (.alloc [(.int .i64 0), (.int .i64 0), .nils]), []⟩ ::
 ⟨(some 4), none, .p .mov, [.t 12]⟩ ::
 ⟨none, none, .e (.store 3), [.t 5, .t 14]⟩ ::
 []))
(.seq (.ops (⟨(some 15), none, .p (.faddr 2), [.t 5]⟩ ::
 ⟨(some 16), none, .r .load1, [.t 15]⟩ ::
 ⟨(some 17), none, .p (.mkfunc (.func 149) 0), [.t 2]⟩ ::
 ⟨(some 18), none, .call, [.c (.func (.func 80) [] []), .t 16, .t 17]⟩ ::
 ⟨(some 6), none, .p .mov, [.t 18]⟩ ::
 []))
(.seq (.ops (⟨(some 19), none, .p .mov, [.t 4]⟩ ::
 ⟨(some 20), none, .p (.faddr 4), [.t 1]⟩ ::
 ⟨(some 21), none, .r .load1, [.t 20]⟩ ::
 ⟨(some 22), none, .p (.bin .neq), [.t 19, .t 21]⟩ ::
 ⟨(some 23), none, .p .mov, [.t 22]⟩ ::
 ⟨(some 24), (some (23, true)), .p .mov, [.t 6]⟩ ::
 ⟨(some 25), none, .p .pick, [.t 23, .t 24, .c (.bool false)]⟩ ::
 ⟨(some 26), none, .p .mov, [.t 25]⟩ ::
 ⟨(some 27), (some (26, true)), .p .mov, [.t 0]⟩ ::
 ⟨(some 28), (some (26, true)), .r (.loadN 3), [.t 5]⟩ ::
 ⟨(some 29), (some (26, true)), .call, [.t 27, .t 28]⟩ ::
 ⟨(some 30), (some (26, true)), .p .not, [.t 29]⟩ ::
 ⟨(some 31), none, .p .pick, [.t 26, .t 30, .c (.bool false)]⟩ ::
 []))
(.cond (.t 31)
.ret
.skip)))))
(.ops (⟨(some 32), none, .p (.bin .add), [.t 10, .c (.int .i64 1)]⟩ ::
 ⟨(some 10), none, .p .mov, [.t 32]⟩ ::
 [])))))
def C148 : AFunc := ⟨33, [],
(.seq (.ops (⟨(some 7), none, .p (.faddr 3), [.t 1]⟩ ::
 ⟨(some 8), none, .r .load1, [.t 7]⟩ ::
 ⟨(some 9), none, .p .lenS, [.t 8]⟩ ::
 ⟨(some 10), none, .p .mov, [.c (.int .i64 0)]⟩ ::
 []))
(.block 0 (.loop L_delay_seen_sharers_1_0)))⟩
abbrev f_delay_seen_sharers_1 : Nat := 148
abbrev C_delay_seen_sharers_1 : AFunc := C148
def C149 : AFunc := ⟨8, [.tmp 3],
(.seq (.ops (⟨(some 2), none, .a .box, [.t 0]⟩ ::
 ⟨(some 3), none, .p .mov, [.c (.bool false)]⟩ ::
 []))
(.seq (.ops (⟨(some 4), none, .p (.faddr 5), [.t 2]⟩ ::
 ⟨(some 5), none, .r .load1, [.t 4]⟩ ::
 ⟨(some 6), none, .r .load1, [.t 1]⟩ ::
 ⟨(some 7), none, .p (.bin .eql), [.t 5, .t 6]⟩ ::
 ⟨(some 3), none, .p .mov, [.t 7]⟩ ::
 []))
.ret))⟩
abbrev f_delay_seen_sharers_1_1 : Nat := 149
abbrev C_delay_seen_sharers_1_1 : AFunc := C149
def C150 : AFunc := ⟨51, [.tmp 4, .tmp 5],
(.seq (.ops (⟨(some 4), none, .p .mov, [.c (.int .u64 0)]⟩ ::
 ⟨(some 5), none, .p .mov, [.c (.int .u64 0)]⟩ ::
 []))
(.seq (.ops (⟨(some 14), none, .p .mov, [.t 0]⟩ ::
 ⟨(some 15), none, .p (.bin .and), [.t 14, .c (.int .u64 4294967295)]⟩ ::
 ⟨(some 6), none, .p .mov, [.t 15]⟩ ::
 []))
(.seq (.ops (⟨(some 16), none, .p .mov, [.t 0]⟩ ::
 ⟨(some 17), none, .p (.bin .shr), [.t 16, .c (.int .u64 32)]⟩ ::
 ⟨(some 7), none, .p .mov, [.t 17]⟩ ::
 []))
(.seq (.ops (⟨(some 18), none, .p .mov, [.t 1]⟩ ::
 ⟨(some 19), none, .p (.bin .and), [.t 18, .c (.int .u64 4294967295)]⟩ ::
 ⟨(some 8), none, .p .mov, [.t 19]⟩ ::
 []))
(.seq (.ops (⟨(some 20), none, .p .mov, [.t 1]⟩ ::
 ⟨(some 21), none, .p (.bin .shr), [.t 20, .c (.int .u64 32)]⟩ ::
 ⟨(some 9), none, .p .mov, [.t 21]⟩ ::
 []))
(.seq (.ops (⟨(some 22), none, .p .mov, [.t 6]⟩ ::
 ⟨(some 23), none, .p .mov, [.t 8]⟩ ::
 ⟨(some 24), none, .p (.bin .mul), [.t 22, .t 23]⟩ ::
 ⟨(some 10), none, .p .mov, [.t 24]⟩ ::
 []))
(.seq (.ops (⟨(some 25), none, .p .mov, [.t 7]⟩ ::
 ⟨(some 26), none, .p .mov, [.t 8]⟩ ::
 ⟨(some 27), none, .p (.bin .mul), [.t 25, .t 26]⟩ ::
 ⟨(some 28), none, .p .mov, [.t 10]⟩ ::
 ⟨(some 29), none, .p (.bin .shr), [.t 28, .c (.int .u64 32)]⟩ ::
 ⟨(some 30), none, .p (.bin .add), [.t 27, .t 29]⟩ ::
 ⟨(some 11), none, .p .mov, [.t 30]⟩ ::
 []))
(.seq (.ops (⟨(some 31), none, .p .mov, [.t 11]⟩ ::
 ⟨(some 32), none, .p (.bin .and), [.t 31, .c (.int .u64 4294967295)]⟩ ::
 ⟨(some 12), none, .p .mov, [.t 32]⟩ ::
 []))
(.seq (.ops (⟨(some 33), none, .p .mov, [.t 11]⟩ ::
 ⟨(some 34), none, .p (.bin .shr), [.t 33, .c (.int .u64 32)]⟩ ::
 ⟨(some 13), none, .p .mov, [.t 34]⟩ ::
 []))
(.seq (.ops (⟨(some 35), none, .p .mov, [.t 12]⟩ ::
 ⟨(some 36), none, .p .mov, [.t 6]⟩ ::
 ⟨(some 37), none, .p .mov, [.t 9]⟩ ::
 ⟨(some 38), none, .p (.bin .mul), [.t 36, .t 37]⟩ ::
 ⟨(some 39), none, .p (.bin .add), [.t 35, .t 38]⟩ ::
 ⟨(some 12), none, .p .mov, [.t 39]⟩ ::
 []))
(.seq (.ops (⟨(some 40), none, .p .mov, [.t 7]⟩ ::
 ⟨(some 41), none, .p .mov, [.t 9]⟩ ::
 ⟨(some 42), none, .p (.bin .mul), [.t 40, .t 41]⟩ ::
 ⟨(some 43), none, .p .mov, [.t 13]⟩ ::
 ⟨(some 44), none, .p (.bin .add), [.t 42, .t 43]⟩ ::
 ⟨(some 45), none, .p .mov, [.t 12]⟩ ::
 ⟨(some 46), none, .p (.bin .shr), [.t 45, .c (.int .u64 32)]⟩ ::
 ⟨(some 47), none, .p (.bin .add), [.t 44, .t 46]⟩ ::
 ⟨(some 4), none, .p .mov, [.t 47]⟩ ::
 []))
(.seq (.ops (⟨(some 48), none, .p .mov, [.t 0]⟩ ::
 ⟨(some 49), none, .p .mov, [.t 1]⟩ ::
 ⟨(some 50), none, .p (.bin .mul), [.t 48, .t 49]⟩ ::
 ⟨(some 5), none, .p .mov, [.t 50]⟩ ::
 []))
.ret))))))))))))⟩
abbrev f_math_bits_Mul64 : Nat := 150
abbrev C_math_bits_Mul64 : AFunc := C150
def C151 : AFunc := ⟨8, [.tmp 2],
(.seq (.ops (⟨(some 1), none, .a .box, [.t 0]⟩ ::
 ⟨(some 2), none, .p .mov, [.c (.int .i64 0)]⟩ ::
 []))
(.seq (.ops (⟨(some 3), none, .p (.faddr 0), [.t 1]⟩ ::
 ⟨(some 4), none, .r .load1, [.t 3]⟩ ::
 ⟨(some 5), none, .p (.faddr 1), [.t 1]⟩ ::
 ⟨(some 6), none, .r .load1, [.t 5]⟩ ::
 ⟨(some 7), none, .p (.bin .sub), [.t 4, .t 6]⟩ ::
 ⟨(some 2), none, .p .mov, [.t 7]⟩ ::
 []))
.ret))⟩
abbrev f_supply_pair_idle : Nat := 151
abbrev C_supply_pair_idle : AFunc := C151
def C152 : AFunc := ⟨14, [.tmp 4],
(.seq (.ops (⟨(some 4), none, .p .mov, [.c (.int .i64 0)]⟩ ::
 []))
(.seq (.ops (⟨(some 8), none, .p .mov, [.t 0]⟩ ::
 ⟨(some 9), none, .p .mov, [.t 1]⟩ ::
 ⟨(some 10), none, .call, [.c (.func (.func 153) [] []), .t 8, .t 9]⟩ ::
 ⟨(some 7), none, .p .mov, [.t 10]⟩ ::
 ⟨(some 11), none, .p (.ext 0), [.t 7]⟩ ::
 ⟨(some 12), none, .p (.ext 1), [.t 7]⟩ ::
 ⟨(some 5), none, .p .mov, [.t 11]⟩ ::
 ⟨(some 6), none, .p .mov, [.t 12]⟩ ::
 []))
(.seq (.ops (⟨(some 13), none, .p .mov, [.t 5]⟩ ::
 ⟨(some 4), none, .p .mov, [.t 13]⟩ ::
 []))
.ret)))⟩
abbrev f_supply_over : Nat := 152
abbrev C_supply_over : AFunc := C152
def C153 : AFunc := ⟨18, [.tmp 4, .tmp 5],
(.seq (.ops (⟨(some 4), none, .p .mov, [.c (.int .i64 0)]⟩ ::
 ⟨(some 5), none, .p .mov, [.c (.int .i64 0)]⟩ ::
 []))
(.seq (.seq (.ops (⟨(some 6), none, .p .mov, [.t 0]⟩ ::
 ⟨(some 7), none, .p .mov, [.t 1]⟩ ::
 ⟨(some 8), none, .a (.bslice [(.int .i64 0)] 2 1 [0, 1]), [.t 6, .t 7]⟩ ::
 ⟨(some 9), none, .call, [.c (.func (.func 112) [] []), .t 8]⟩ ::
 ⟨(some 10), none, .p .not, [.t 9]⟩ ::
 ⟨(some 11), none, .p .mov, [.t 10]⟩ ::
 ⟨(some 12), (some (11, false)), .p .mov, [.t 1]⟩ ::
 ⟨(some 13), (some (11, false)), .p (.bin .eql), [.t 12, .c (.int .i64 0)]⟩ ::
 ⟨(some 14), none, .p .pick, [.t 11, .c (.bool true), .t 13]⟩ ::
 []))
(.cond (.t 14)
(.seq (.ops (⟨(some 4), none, .p .mov, [.c (.int .i64 0)]⟩ ::
 ⟨(some 5), none, .p .mov, [.c (.int .i64 2)]⟩ ::
 []))
.ret)
.skip))
(.seq (.ops (⟨(some 15), none, .p .mov, [.t 0]⟩ ::
 ⟨(some 16), none, .p .mov, [.t 1]⟩ ::
 ⟨(some 17), none, .p (.bin .quo), [.t 15, .t 16]⟩ ::
 ⟨(some 4), none, .p .mov, [.t 17]⟩ ::
 ⟨(some 5), none, .p .mov, [.c (.int .i64 0)]⟩ ::
 []))
.ret)))⟩
abbrev f_ticks_Div : Nat := 153
abbrev C_ticks_Div : AFunc := C153
def T : Tr AFunc := (.node (.node (.node (.node (.node (.node (.node (.node .nil (some C127) .nil) none .nil) (some C31) .nil) none (.node (.node (.node .nil (some C143) .nil) none .nil) none .nil)) none (.node (.node (.node (.node .nil (some C135) .nil) none .nil) none .nil) none (.node (.node (.node .nil (some C151) .nil) none .nil) none (.node .nil (some C119) .nil)))) none (.node (.node (.node (.node (.node .nil (some C131) .nil) none .nil) none (.node .nil (some C99) .nil)) none (.node (.node (.node .nil (some C147) .nil) none .nil) (some C51) (.node .nil (some C115) .nil))) none (.node (.node (.node (.node .nil (some C139) .nil) none .nil) none (.node .nil (some C107) .nil)) none (.node .nil none (.node .nil (some C123) .nil))))) none (.node (.node (.node (.node (.node (.node .nil (some C129) .nil) none .nil) (some C33) (.node .nil (some C97) .nil)) none (.node (.node (.node .nil (some C145) .nil) none .nil) none (.node .nil (some C113) .nil))) none (.node (.node (.node (.node .nil (some C137) .nil) none .nil) none (.node .nil (some C105) .nil)) none (.node (.node (.node .nil (some C153) .nil) none .nil) none (.node .nil (some C121) .nil)))) none (.node (.node (.node (.node (.node .nil (some C133) .nil) none .nil) none .nil) none (.node (.node (.node .nil (some C149) .nil) none .nil) (some C53) (.node .nil (some C117) .nil))) none (.node (.node (.node (.node .nil (some C141) .nil) (some C77) .nil) none (.node .nil (some C109) .nil)) (some C29) (.node .nil none (.node .nil (some C125) .nil)))))) none (.node (.node (.node (.node (.node (.node (.node .nil (some C128) .nil) none .nil) (some C32) .nil) none (.node (.node (.node .nil (some C144) .nil) (some C80) .nil) none (.node .nil (some C112) .nil))) (some C8) (.node (.node (.node (.node .nil (some C136) .nil) none .nil) none .nil) none (.node (.node (.node .nil (some C152) .nil) none .nil) none (.node .nil (some C120) .nil)))) none (.node (.node (.node (.node (.node .nil (some C132) .nil) none .nil) none (.node .nil (some C100) .nil)) none (.node (.node (.node .nil (some C148) .nil) none .nil) (some C52) (.node .nil (some C116) .nil))) none (.node (.node (.node (.node .nil (some C140) .nil) (some C76) .nil) none (.node .nil (some C108) .nil)) (some C28) (.node .nil none (.node .nil (some C124) .nil))))) none (.node (.node (.node (.node (.node (.node .nil (some C130) .nil) none .nil) (some C34) (.node .nil (some C98) .nil)) none (.node (.node (.node .nil (some C146) .nil) none .nil) (some C50) (.node .nil (some C114) .nil))) none (.node (.node (.node (.node .nil (some C138) .nil) none .nil) (some C42) (.node .nil (some C106) .nil)) none (.node .nil none (.node .nil (some C122) .nil)))) none (.node (.node (.node (.node (.node .nil (some C134) .nil) none .nil) none .nil) none (.node (.node (.node .nil (some C150) .nil) none .nil) (some C54) (.node .nil (some C118) .nil))) none (.node (.node (.node (.node .nil (some C142) .nil) (some C78) .nil) none (.node .nil (some C110) .nil)) (some C30) (.node .nil none (.node .nil (some C126) .nil)))))))
def fs (f : Nat) : Option AFunc := Tr.get T f
def ms (t : Nat) (n : String) : Option Nat := none
end Ir
end Go.Proofs.Ytepdklcpagielaa
