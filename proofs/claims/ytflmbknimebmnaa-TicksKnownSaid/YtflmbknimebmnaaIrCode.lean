/-
  What the program's functions are in Ads, printed by a program.
-/
import Derived.Test.YtflmbknimebmnaaAdsDef
set_option linter.unusedVariables false
set_option maxRecDepth 100000
namespace Go.Proofs.Ytflmbknimebmnaa
open Go Ads
namespace Ir
def C3 : AFunc := ⟨101, [.tmp 4],
(.seq (.ops (⟨(some 4), none, .p .mov, [.c (.bool false)]⟩ ::
 []))
(.seq (.ops (⟨(some 10), none, .p .mov, [.t 0]⟩ ::
 ⟨(some 11), none, .p .mov, [.t 1]⟩ ::
 ⟨(some 12), none, .call, [.c (.func (.func 9) [] []), .t 10, .t 11]⟩ ::
 ⟨(some 9), none, .p .mov, [.t 12]⟩ ::
 ⟨(some 13), none, .p (.ext 0), [.t 9]⟩ ::
 ⟨(some 14), none, .p (.ext 1), [.t 9]⟩ ::
 ⟨(some 5), none, .p .mov, [.t 13]⟩ ::
 ⟨(some 6), none, .p .mov, [.t 14]⟩ ::
 []))
(.seq (.ops (⟨(some 16), none, .p .mov, [.t 0]⟩ ::
 ⟨(some 17), none, .p .mov, [.t 1]⟩ ::
 ⟨(some 18), none, .call, [.c (.func (.func 10) [] []), .t 16, .t 17]⟩ ::
 ⟨(some 15), none, .p .mov, [.t 18]⟩ ::
 ⟨(some 19), none, .p (.ext 0), [.t 15]⟩ ::
 ⟨(some 20), none, .p (.ext 1), [.t 15]⟩ ::
 ⟨(some 7), none, .p .mov, [.t 19]⟩ ::
 ⟨(some 8), none, .p .mov, [.t 20]⟩ ::
 []))
(.seq (.seq (.ops (⟨(some 21), none, .p .mov, [.t 5]⟩ ::
 ⟨(some 22), none, .p .mov, [.t 6]⟩ ::
 ⟨(some 23), none, .p .mov, [.t 7]⟩ ::
 ⟨(some 24), none, .p .mov, [.t 8]⟩ ::
 ⟨(some 25), none, .call, [.c (.func (.func 11) [] []), .t 21, .t 22, .t 23, .t 24]⟩ ::
 ⟨(some 26), none, .p .not, [.t 25]⟩ ::
 []))
(.cond (.t 26)
(.seq (.ops (⟨(some 4), none, .p .mov, [.c (.bool false)]⟩ ::
 []))
.ret)
.skip))
(.seq (.ops (⟨(some 28), none, .p .mov, [.t 0]⟩ ::
 ⟨(some 29), none, .p .mov, [.t 1]⟩ ::
 ⟨(some 30), none, .call, [.c (.func (.func 12) [] []), .t 28, .t 29]⟩ ::
 ⟨(some 27), none, .p .mov, [.t 30]⟩ ::
 ⟨(some 31), none, .p (.ext 0), [.t 27]⟩ ::
 ⟨(some 32), none, .p (.ext 1), [.t 27]⟩ ::
 ⟨(some 5), none, .p .mov, [.t 31]⟩ ::
 ⟨(some 6), none, .p .mov, [.t 32]⟩ ::
 []))
(.seq (.ops (⟨(some 34), none, .p .mov, [.t 0]⟩ ::
 ⟨(some 35), none, .p .mov, [.t 1]⟩ ::
 ⟨(some 36), none, .call, [.c (.func (.func 13) [] []), .t 34, .t 35]⟩ ::
 ⟨(some 33), none, .p .mov, [.t 36]⟩ ::
 ⟨(some 37), none, .p (.ext 0), [.t 33]⟩ ::
 ⟨(some 38), none, .p (.ext 1), [.t 33]⟩ ::
 ⟨(some 7), none, .p .mov, [.t 37]⟩ ::
 ⟨(some 8), none, .p .mov, [.t 38]⟩ ::
 []))
(.seq (.seq (.ops (⟨(some 39), none, .p .mov, [.t 5]⟩ ::
 ⟨(some 40), none, .p .mov, [.t 6]⟩ ::
 ⟨(some 41), none, .p .mov, [.t 7]⟩ ::
 ⟨(some 42), none, .p .mov, [.t 8]⟩ ::
 ⟨(some 43), none, .call, [.c (.func (.func 11) [] []), .t 39, .t 40, .t 41, .t 42]⟩ ::
 ⟨(some 44), none, .p .not, [.t 43]⟩ ::
 []))
(.cond (.t 44)
(.seq (.ops (⟨(some 4), none, .p .mov, [.c (.bool false)]⟩ ::
 []))
.ret)
.skip))
(.seq (.ops (⟨(some 46), none, .p .mov, [.t 0]⟩ ::
 ⟨(some 47), none, .p .mov, [.t 1]⟩ ::
 ⟨(some 48), none, .call, [.c (.func (.func 14) [] []), .t 46, .t 47]⟩ ::
 ⟨(some 45), none, .p .mov, [.t 48]⟩ ::
 ⟨(some 49), none, .p (.ext 0), [.t 45]⟩ ::
 ⟨(some 50), none, .p (.ext 1), [.t 45]⟩ ::
 ⟨(some 5), none, .p .mov, [.t 49]⟩ ::
 ⟨(some 6), none, .p .mov, [.t 50]⟩ ::
 []))
(.seq (.ops (⟨(some 52), none, .p .mov, [.t 0]⟩ ::
 ⟨(some 53), none, .p .mov, [.t 1]⟩ ::
 ⟨(some 54), none, .call, [.c (.func (.func 15) [] []), .t 52, .t 53]⟩ ::
 ⟨(some 51), none, .p .mov, [.t 54]⟩ ::
 ⟨(some 55), none, .p (.ext 0), [.t 51]⟩ ::
 ⟨(some 56), none, .p (.ext 1), [.t 51]⟩ ::
 ⟨(some 7), none, .p .mov, [.t 55]⟩ ::
 ⟨(some 8), none, .p .mov, [.t 56]⟩ ::
 []))
(.seq (.seq (.ops (⟨(some 57), none, .p .mov, [.t 5]⟩ ::
 ⟨(some 58), none, .p .mov, [.t 6]⟩ ::
 ⟨(some 59), none, .p .mov, [.t 7]⟩ ::
 ⟨(some 60), none, .p .mov, [.t 8]⟩ ::
 ⟨(some 61), none, .call, [.c (.func (.func 11) [] []), .t 57, .t 58, .t 59, .t 60]⟩ ::
 ⟨(some 62), none, .p .not, [.t 61]⟩ ::
 []))
(.cond (.t 62)
(.seq (.ops (⟨(some 4), none, .p .mov, [.c (.bool false)]⟩ ::
 []))
.ret)
.skip))
(.seq (.ops (⟨(some 64), none, .p .mov, [.t 0]⟩ ::
 ⟨(some 65), none, .p .mov, [.t 1]⟩ ::
 ⟨(some 66), none, .call, [.c (.func (.func 16) [] []), .t 64, .t 65]⟩ ::
 ⟨(some 63), none, .p .mov, [.t 66]⟩ ::
 ⟨(some 67), none, .p (.ext 0), [.t 63]⟩ ::
 ⟨(some 68), none, .p (.ext 1), [.t 63]⟩ ::
 ⟨(some 5), none, .p .mov, [.t 67]⟩ ::
 ⟨(some 6), none, .p .mov, [.t 68]⟩ ::
 []))
(.seq (.ops (⟨(some 70), none, .p .mov, [.t 0]⟩ ::
 ⟨(some 71), none, .p .mov, [.t 1]⟩ ::
 ⟨(some 72), none, .call, [.c (.func (.func 17) [] []), .t 70, .t 71]⟩ ::
 ⟨(some 69), none, .p .mov, [.t 72]⟩ ::
 ⟨(some 73), none, .p (.ext 0), [.t 69]⟩ ::
 ⟨(some 74), none, .p (.ext 1), [.t 69]⟩ ::
 ⟨(some 7), none, .p .mov, [.t 73]⟩ ::
 ⟨(some 8), none, .p .mov, [.t 74]⟩ ::
 []))
(.seq (.seq (.ops (⟨(some 75), none, .p .mov, [.t 5]⟩ ::
 ⟨(some 76), none, .p .mov, [.t 6]⟩ ::
 ⟨(some 77), none, .p .mov, [.t 7]⟩ ::
 ⟨(some 78), none, .p .mov, [.t 8]⟩ ::
 ⟨(some 79), none, .call, [.c (.func (.func 11) [] []), .t 75, .t 76, .t 77, .t 78]⟩ ::
 ⟨(some 80), none, .p .not, [.t 79]⟩ ::
 []))
(.cond (.t 80)
(.seq (.ops (⟨(some 4), none, .p .mov, [.c (.bool false)]⟩ ::
 []))
.ret)
.skip))
(.seq (.ops (⟨(some 82), none, .p .mov, [.t 0]⟩ ::
 ⟨(some 83), none, .p .mov, [.t 1]⟩ ::
 ⟨(some 84), none, .call, [.c (.func (.func 18) [] []), .t 82, .t 83]⟩ ::
 ⟨(some 81), none, .p .mov, [.t 84]⟩ ::
 ⟨(some 85), none, .p (.ext 0), [.t 81]⟩ ::
 ⟨(some 86), none, .p (.ext 1), [.t 81]⟩ ::
 ⟨(some 5), none, .p .mov, [.t 85]⟩ ::
 ⟨(some 6), none, .p .mov, [.t 86]⟩ ::
 []))
(.seq (.ops (⟨(some 88), none, .p .mov, [.t 0]⟩ ::
 ⟨(some 89), none, .p .mov, [.t 1]⟩ ::
 ⟨(some 90), none, .call, [.c (.func (.func 19) [] []), .t 88, .t 89]⟩ ::
 ⟨(some 87), none, .p .mov, [.t 90]⟩ ::
 ⟨(some 91), none, .p (.ext 0), [.t 87]⟩ ::
 ⟨(some 92), none, .p (.ext 1), [.t 87]⟩ ::
 ⟨(some 7), none, .p .mov, [.t 91]⟩ ::
 ⟨(some 8), none, .p .mov, [.t 92]⟩ ::
 []))
(.seq (.ops (⟨(some 93), none, .p .mov, [.t 5]⟩ ::
 ⟨(some 94), none, .p .mov, [.t 6]⟩ ::
 ⟨(some 95), none, .p .mov, [.t 7]⟩ ::
 ⟨(some 96), none, .p .mov, [.t 8]⟩ ::
 ⟨(some 97), none, .call, [.c (.func (.func 11) [] []), .t 93, .t 94, .t 95, .t 96]⟩ ::
 ⟨(some 98), none, .p .mov, [.t 97]⟩ ::
 ⟨(some 99), (some (98, true)), .call, [.c (.func (.func 20) [] [])]⟩ ::
 ⟨(some 100), none, .p .pick, [.t 98, .t 99, .c (.bool false)]⟩ ::
 ⟨(some 4), none, .p .mov, [.t 100]⟩ ::
 []))
.ret))))))))))))))))⟩
abbrev f_escapementlaw01_TicksTwo : Nat := 3
abbrev C_escapementlaw01_TicksTwo : AFunc := C3
def C4 : AFunc := ⟨58, [.tmp 4],
(.seq (.ops (⟨(some 4), none, .p .mov, [.c (.bool false)]⟩ ::
 []))
(.seq (.ops (⟨(some 14), none, .p .mov, [.t 1]⟩ ::
 ⟨(some 15), none, .call, [.c (.func (.func 21) [] []), .t 14]⟩ ::
 ⟨(some 5), none, .p .mov, [.t 15]⟩ ::
 []))
(.seq (.ops (⟨(some 17), none, .p .mov, [.t 0]⟩ ::
 ⟨(some 18), none, .p .mov, [.t 5]⟩ ::
 ⟨(some 19), none, .call, [.c (.func (.func 22) [] []), .t 17, .t 18]⟩ ::
 ⟨(some 16), none, .p .mov, [.t 19]⟩ ::
 ⟨(some 20), none, .p (.ext 0), [.t 16]⟩ ::
 ⟨(some 21), none, .p (.ext 1), [.t 16]⟩ ::
 ⟨(some 6), none, .p .mov, [.t 20]⟩ ::
 ⟨(some 7), none, .p .mov, [.t 21]⟩ ::
 []))
(.seq (.ops (⟨(some 23), none, .p .mov, [.t 0]⟩ ::
 ⟨(some 24), none, .p .mov, [.t 1]⟩ ::
 ⟨(some 25), none, .call, [.c (.func (.func 23) [] []), .t 23, .t 24]⟩ ::
 ⟨(some 22), none, .p .mov, [.t 25]⟩ ::
 ⟨(some 26), none, .p (.ext 0), [.t 22]⟩ ::
 ⟨(some 27), none, .p (.ext 1), [.t 22]⟩ ::
 ⟨(some 8), none, .p .mov, [.t 26]⟩ ::
 ⟨(some 9), none, .p .mov, [.t 27]⟩ ::
 []))
(.seq (.ops (⟨(some 29), none, .p .mov, [.t 5]⟩ ::
 ⟨(some 30), none, .call, [.c (.func (.func 24) [] []), .t 29]⟩ ::
 ⟨(some 28), none, .p .mov, [.t 30]⟩ ::
 ⟨(some 31), none, .p (.ext 0), [.t 28]⟩ ::
 ⟨(some 32), none, .p (.ext 1), [.t 28]⟩ ::
 ⟨(some 10), none, .p .mov, [.t 31]⟩ ::
 ⟨(some 11), none, .p .mov, [.t 32]⟩ ::
 []))
(.seq (.ops (⟨(some 34), none, .p .mov, [.t 1]⟩ ::
 ⟨(some 35), none, .call, [.c (.func (.func 25) [] []), .t 34]⟩ ::
 ⟨(some 33), none, .p .mov, [.t 35]⟩ ::
 ⟨(some 36), none, .p (.ext 0), [.t 33]⟩ ::
 ⟨(some 37), none, .p (.ext 1), [.t 33]⟩ ::
 ⟨(some 12), none, .p .mov, [.t 36]⟩ ::
 ⟨(some 13), none, .p .mov, [.t 37]⟩ ::
 []))
(.seq (.ops (⟨(some 38), none, .p .mov, [.t 6]⟩ ::
 ⟨(some 39), none, .p .mov, [.t 7]⟩ ::
 ⟨(some 40), none, .p .mov, [.t 8]⟩ ::
 ⟨(some 41), none, .p .mov, [.t 9]⟩ ::
 ⟨(some 42), none, .call, [.c (.func (.func 11) [] []), .t 38, .t 39, .t 40, .t 41]⟩ ::
 ⟨(some 43), none, .p .mov, [.t 42]⟩ ::
 ⟨(some 44), (some (43, true)), .p .mov, [.t 10]⟩ ::
 ⟨(some 45), (some (43, true)), .p .mov, [.t 11]⟩ ::
 ⟨(some 46), (some (43, true)), .p .mov, [.t 12]⟩ ::
 ⟨(some 47), (some (43, true)), .p .mov, [.t 13]⟩ ::
 ⟨(some 48), (some (43, true)), .call, [.c (.func (.func 11) [] []), .t 44, .t 45, .t 46, .t 47]⟩ ::
 ⟨(some 49), none, .p .pick, [.t 43, .t 48, .c (.bool false)]⟩ ::
 ⟨(some 50), none, .p .mov, [.t 49]⟩ ::
 ⟨(some 51), (some (50, true)), .p .mov, [.t 5]⟩ ::
 ⟨(some 52), (some (50, true)), .p .mov, [.t 1]⟩ ::
 ⟨(some 53), (some (50, true)), .call, [.c (.func (.func 26) [] []), .t 51, .t 52]⟩ ::
 ⟨(some 54), none, .p .pick, [.t 50, .t 53, .c (.bool false)]⟩ ::
 ⟨(some 55), none, .p .mov, [.t 54]⟩ ::
 ⟨(some 56), (some (55, true)), .call, [.c (.func (.func 20) [] [])]⟩ ::
 ⟨(some 57), none, .p .pick, [.t 55, .t 56, .c (.bool false)]⟩ ::
 ⟨(some 4), none, .p .mov, [.t 57]⟩ ::
 []))
.ret)))))))⟩
abbrev f_escapementlaw01_TicksMany : Nat := 4
abbrev C_escapementlaw01_TicksMany : AFunc := C4
def C5 : AFunc := ⟨114, [.tmp 4],
(.seq (.ops (⟨(some 4), none, .p .mov, [.c (.bool false)]⟩ ::
 []))
(.seq (.seq (.ops (⟨(some 18), none, .call, [.c (.func (.func 20) [] [])]⟩ ::
 ⟨(some 19), none, .p .not, [.t 18]⟩ ::
 []))
(.cond (.t 19)
(.seq (.ops (⟨(some 4), none, .p .mov, [.c (.bool false)]⟩ ::
 []))
.ret)
.skip))
(.seq (.ops (⟨(some 20), none, .p .mov, [.t 0]⟩ ::
 ⟨(some 21), none, .call, [.c (.func (.func 27) [] []), .t 20, .c (.int .i64 1099511627777)]⟩ ::
 ⟨(some 22), none, .p .mov, [.t 1]⟩ ::
 ⟨(some 23), none, .call, [.c (.func (.func 27) [] []), .t 22, .c (.int .i64 1099511627777)]⟩ ::
 ⟨(some 0), none, .p .mov, [.t 21]⟩ ::
 ⟨(some 1), none, .p .mov, [.t 23]⟩ ::
 []))
(.seq (.ops (⟨(some 25), none, .p .mov, [.t 0]⟩ ::
 ⟨(some 26), none, .p .mov, [.t 1]⟩ ::
 ⟨(some 27), none, .call, [.c (.func (.func 9) [] []), .t 25, .t 26]⟩ ::
 ⟨(some 24), none, .p .mov, [.t 27]⟩ ::
 ⟨(some 28), none, .p (.ext 0), [.t 24]⟩ ::
 ⟨(some 29), none, .p (.ext 1), [.t 24]⟩ ::
 ⟨(some 5), none, .p .mov, [.t 28]⟩ ::
 ⟨(some 6), none, .p .mov, [.t 29]⟩ ::
 []))
(.seq (.seq (.ops (⟨(some 30), none, .p .mov, [.t 6]⟩ ::
 ⟨(some 31), none, .p (.bin .eql), [.t 30, .c (.int .i64 0)]⟩ ::
 []))
(.cond (.t 31)
(.seq (.ops (⟨(some 33), none, .p .mov, [.t 5]⟩ ::
 ⟨(some 34), none, .p .mov, [.t 1]⟩ ::
 ⟨(some 35), none, .call, [.c (.func (.func 12) [] []), .t 33, .t 34]⟩ ::
 ⟨(some 32), none, .p .mov, [.t 35]⟩ ::
 ⟨(some 36), none, .p (.ext 0), [.t 32]⟩ ::
 ⟨(some 37), none, .p (.ext 1), [.t 32]⟩ ::
 ⟨(some 7), none, .p .mov, [.t 36]⟩ ::
 ⟨(some 8), none, .p .mov, [.t 37]⟩ ::
 []))
(.seq (.ops (⟨(some 38), none, .p .mov, [.t 8]⟩ ::
 ⟨(some 39), none, .p (.bin .neq), [.t 38, .c (.int .i64 0)]⟩ ::
 ⟨(some 40), none, .p .mov, [.t 39]⟩ ::
 ⟨(some 41), (some (40, false)), .p .mov, [.t 7]⟩ ::
 ⟨(some 42), (some (40, false)), .p .mov, [.t 0]⟩ ::
 ⟨(some 43), (some (40, false)), .p (.bin .neq), [.t 41, .t 42]⟩ ::
 ⟨(some 44), none, .p .pick, [.t 40, .c (.bool true), .t 43]⟩ ::
 []))
(.cond (.t 44)
(.seq (.ops (⟨(some 4), none, .p .mov, [.c (.bool false)]⟩ ::
 []))
.ret)
.skip)))
(.seq (.ops (⟨(some 45), none, .p .mov, [.t 6]⟩ ::
 ⟨(some 46), none, .p (.bin .neq), [.t 45, .c (.int .i64 10)]⟩ ::
 ⟨(some 47), none, .p .mov, [.t 46]⟩ ::
 ⟨(some 48), (some (47, false)), .p .mov, [.t 0]⟩ ::
 ⟨(some 49), (some (47, false)), .p .mov, [.t 1]⟩ ::
 ⟨(some 50), (some (47, false)), .p (.bin .sub), [.c (.int .i64 1099511627776), .t 49]⟩ ::
 ⟨(some 51), (some (47, false)), .p (.bin .leq), [.t 48, .t 50]⟩ ::
 ⟨(some 52), none, .p .pick, [.t 47, .c (.bool true), .t 51]⟩ ::
 []))
(.cond (.t 52)
(.seq (.ops (⟨(some 4), none, .p .mov, [.c (.bool false)]⟩ ::
 []))
.ret)
.skip))))
(.seq (.seq (.ops (⟨(some 53), none, .p .mov, [.t 1]⟩ ::
 ⟨(some 54), none, .p (.bin .eql), [.t 53, .c (.int .i64 0)]⟩ ::
 []))
(.cond (.t 54)
(.seq (.ops (⟨(some 4), none, .p .mov, [.c (.bool true)]⟩ ::
 []))
.ret)
.skip))
(.seq (.ops (⟨(some 56), none, .p .mov, [.t 0]⟩ ::
 ⟨(some 57), none, .p .mov, [.t 1]⟩ ::
 ⟨(some 58), none, .call, [.c (.func (.func 16) [] []), .t 56, .t 57]⟩ ::
 ⟨(some 55), none, .p .mov, [.t 58]⟩ ::
 ⟨(some 59), none, .p (.ext 0), [.t 55]⟩ ::
 ⟨(some 60), none, .p (.ext 1), [.t 55]⟩ ::
 ⟨(some 9), none, .p .mov, [.t 59]⟩ ::
 ⟨(some 10), none, .p .mov, [.t 60]⟩ ::
 []))
(.seq (.ops (⟨(some 62), none, .p .mov, [.t 9]⟩ ::
 ⟨(some 63), none, .p .mov, [.t 1]⟩ ::
 ⟨(some 64), none, .call, [.c (.func (.func 14) [] []), .t 62, .t 63]⟩ ::
 ⟨(some 61), none, .p .mov, [.t 64]⟩ ::
 ⟨(some 65), none, .p (.ext 0), [.t 61]⟩ ::
 ⟨(some 66), none, .p (.ext 1), [.t 61]⟩ ::
 ⟨(some 11), none, .p .mov, [.t 65]⟩ ::
 ⟨(some 12), none, .p .mov, [.t 66]⟩ ::
 []))
(.seq (.seq (.ops (⟨(some 67), none, .p .mov, [.t 10]⟩ ::
 ⟨(some 68), none, .p (.bin .neq), [.t 67, .c (.int .i64 0)]⟩ ::
 ⟨(some 69), none, .p .mov, [.t 68]⟩ ::
 ⟨(some 70), (some (69, false)), .p .mov, [.t 12]⟩ ::
 ⟨(some 71), (some (69, false)), .p (.bin .neq), [.t 70, .c (.int .i64 0)]⟩ ::
 ⟨(some 72), none, .p .pick, [.t 69, .c (.bool true), .t 71]⟩ ::
 ⟨(some 73), none, .p .mov, [.t 72]⟩ ::
 ⟨(some 74), (some (73, false)), .p .mov, [.t 11]⟩ ::
 ⟨(some 75), (some (73, false)), .p .mov, [.t 0]⟩ ::
 ⟨(some 76), (some (73, false)), .p (.bin .gtr), [.t 74, .t 75]⟩ ::
 ⟨(some 77), none, .p .pick, [.t 73, .c (.bool true), .t 76]⟩ ::
 ⟨(some 78), none, .p .mov, [.t 77]⟩ ::
 ⟨(some 79), (some (78, false)), .p .mov, [.t 0]⟩ ::
 ⟨(some 80), (some (78, false)), .p .mov, [.t 11]⟩ ::
 ⟨(some 81), (some (78, false)), .p (.bin .sub), [.t 79, .t 80]⟩ ::
 ⟨(some 82), (some (78, false)), .p .mov, [.t 1]⟩ ::
 ⟨(some 83), (some (78, false)), .p (.bin .geq), [.t 81, .t 82]⟩ ::
 ⟨(some 84), none, .p .pick, [.t 78, .c (.bool true), .t 83]⟩ ::
 []))
(.cond (.t 84)
(.seq (.ops (⟨(some 4), none, .p .mov, [.c (.bool false)]⟩ ::
 []))
.ret)
.skip))
(.seq (.ops (⟨(some 85), none, .p .mov, [.t 0]⟩ ::
 ⟨(some 86), none, .call, [.c (.func (.func 27) [] []), .t 85, .c (.int .i64 1048576)]⟩ ::
 ⟨(some 13), none, .p .mov, [.t 86]⟩ ::
 []))
(.seq (.ops (⟨(some 88), none, .p .mov, [.t 13]⟩ ::
 ⟨(some 89), none, .p .mov, [.t 1]⟩ ::
 ⟨(some 90), none, .call, [.c (.func (.func 27) [] []), .t 89, .c (.int .i64 1048576)]⟩ ::
 ⟨(some 91), none, .p (.bin .add), [.t 90, .c (.int .i64 1)]⟩ ::
 ⟨(some 92), none, .call, [.c (.func (.func 14) [] []), .t 88, .t 91]⟩ ::
 ⟨(some 87), none, .p .mov, [.t 92]⟩ ::
 ⟨(some 93), none, .p (.ext 0), [.t 87]⟩ ::
 ⟨(some 94), none, .p (.ext 1), [.t 87]⟩ ::
 ⟨(some 14), none, .p .mov, [.t 93]⟩ ::
 ⟨(some 15), none, .p .mov, [.t 94]⟩ ::
 []))
(.seq (.ops (⟨(some 96), none, .p .mov, [.t 14]⟩ ::
 ⟨(some 97), none, .p .mov, [.t 1]⟩ ::
 ⟨(some 98), none, .call, [.c (.func (.func 27) [] []), .t 97, .c (.int .i64 1048576)]⟩ ::
 ⟨(some 99), none, .p (.bin .add), [.t 98, .c (.int .i64 1)]⟩ ::
 ⟨(some 100), none, .call, [.c (.func (.func 16) [] []), .t 96, .t 99]⟩ ::
 ⟨(some 95), none, .p .mov, [.t 100]⟩ ::
 ⟨(some 101), none, .p (.ext 0), [.t 95]⟩ ::
 ⟨(some 102), none, .p (.ext 1), [.t 95]⟩ ::
 ⟨(some 16), none, .p .mov, [.t 101]⟩ ::
 ⟨(some 17), none, .p .mov, [.t 102]⟩ ::
 []))
(.seq (.ops (⟨(some 103), none, .p .mov, [.t 15]⟩ ::
 ⟨(some 104), none, .p (.bin .eql), [.t 103, .c (.int .i64 0)]⟩ ::
 ⟨(some 105), none, .p .mov, [.t 104]⟩ ::
 ⟨(some 106), (some (105, true)), .p .mov, [.t 17]⟩ ::
 ⟨(some 107), (some (105, true)), .p (.bin .eql), [.t 106, .c (.int .i64 0)]⟩ ::
 ⟨(some 108), none, .p .pick, [.t 105, .t 107, .c (.bool false)]⟩ ::
 ⟨(some 109), none, .p .mov, [.t 108]⟩ ::
 ⟨(some 110), (some (109, true)), .p .mov, [.t 16]⟩ ::
 ⟨(some 111), (some (109, true)), .p .mov, [.t 13]⟩ ::
 ⟨(some 112), (some (109, true)), .p (.bin .eql), [.t 110, .t 111]⟩ ::
 ⟨(some 113), none, .p .pick, [.t 109, .t 112, .c (.bool false)]⟩ ::
 ⟨(some 4), none, .p .mov, [.t 113]⟩ ::
 []))
.ret)))))))))))))⟩
abbrev f_escapementlaw01_TicksBack : Nat := 5
abbrev C_escapementlaw01_TicksBack : AFunc := C5
def C6 : AFunc := ⟨112, [.tmp 6],
(.seq (.ops (⟨(some 6), none, .p .mov, [.c (.bool false)]⟩ ::
 []))
(.seq (.ops (⟨(some 13), none, .p .mov, [.t 0]⟩ ::
 ⟨(some 14), none, .call, [.c (.func (.func 27) [] []), .t 13, .c (.int .i64 1048576)]⟩ ::
 ⟨(some 15), none, .p (.bin .add), [.c (.int .i64 1), .t 14]⟩ ::
 ⟨(some 16), none, .p .mov, [.t 1]⟩ ::
 ⟨(some 17), none, .call, [.c (.func (.func 27) [] []), .t 16, .c (.int .i64 1048576)]⟩ ::
 ⟨(some 18), none, .p (.bin .add), [.c (.int .i64 1), .t 17]⟩ ::
 ⟨(some 19), none, .p .mov, [.t 2]⟩ ::
 ⟨(some 20), none, .call, [.c (.func (.func 27) [] []), .t 19, .c (.int .i64 1000)]⟩ ::
 ⟨(some 21), none, .p (.bin .add), [.c (.int .i64 1), .t 20]⟩ ::
 ⟨(some 0), none, .p .mov, [.t 15]⟩ ::
 ⟨(some 1), none, .p .mov, [.t 18]⟩ ::
 ⟨(some 2), none, .p .mov, [.t 21]⟩ ::
 []))
(.seq (.ops (⟨(some 23), none, .p .mov, [.t 0]⟩ ::
 ⟨(some 24), none, .p .mov, [.t 1]⟩ ::
 ⟨(some 25), none, .call, [.c (.func (.func 18) [] []), .t 23, .t 24]⟩ ::
 ⟨(some 22), none, .p .mov, [.t 25]⟩ ::
 ⟨(some 26), none, .p (.ext 0), [.t 22]⟩ ::
 ⟨(some 27), none, .p (.ext 1), [.t 22]⟩ ::
 ⟨(some 7), none, .p .mov, [.t 26]⟩ ::
 ⟨(some 8), none, .p .mov, [.t 27]⟩ ::
 []))
(.seq (.ops (⟨(some 29), none, .p .mov, [.t 0]⟩ ::
 ⟨(some 30), none, .p .mov, [.t 1]⟩ ::
 ⟨(some 31), none, .a (.bslice [(.int .i64 0)] 2 1 [0, 1]), [.t 29, .t 30]⟩ ::
 ⟨(some 32), none, .call, [.c (.func (.func 22) [] []), .c (.int .i64 1099511627776), .t 31]⟩ ::
 ⟨(some 28), none, .p .mov, [.t 32]⟩ ::
 ⟨(some 33), none, .p (.ext 0), [.t 28]⟩ ::
 ⟨(some 34), none, .p (.ext 1), [.t 28]⟩ ::
 ⟨(some 9), none, .p .mov, [.t 33]⟩ ::
 ⟨(some 10), none, .p .mov, [.t 34]⟩ ::
 []))
(.seq (.seq (.ops (⟨(some 35), none, .p .mov, [.t 8]⟩ ::
 ⟨(some 36), none, .p (.bin .neq), [.t 35, .c (.int .i64 0)]⟩ ::
 ⟨(some 37), none, .p .mov, [.t 36]⟩ ::
 ⟨(some 38), (some (37, false)), .p .mov, [.t 10]⟩ ::
 ⟨(some 39), (some (37, false)), .p (.bin .neq), [.t 38, .c (.int .i64 0)]⟩ ::
 ⟨(some 40), none, .p .pick, [.t 37, .c (.bool true), .t 39]⟩ ::
 ⟨(some 41), none, .p .mov, [.t 40]⟩ ::
 ⟨(some 42), (some (41, false)), .p .mov, [.t 7]⟩ ::
 ⟨(some 43), (some (41, false)), .p (.bin .lss), [.t 42, .c (.int .i64 1)]⟩ ::
 ⟨(some 44), none, .p .pick, [.t 41, .c (.bool true), .t 43]⟩ ::
 ⟨(some 45), none, .p .mov, [.t 44]⟩ ::
 ⟨(some 46), (some (45, false)), .p .mov, [.t 0]⟩ ::
 ⟨(some 47), (some (45, false)), .p .mov, [.t 7]⟩ ::
 ⟨(some 48), (some (45, false)), .p (.bin .rem), [.t 46, .t 47]⟩ ::
 ⟨(some 49), (some (45, false)), .p (.bin .neq), [.t 48, .c (.int .i64 0)]⟩ ::
 ⟨(some 50), none, .p .pick, [.t 45, .c (.bool true), .t 49]⟩ ::
 ⟨(some 51), none, .p .mov, [.t 50]⟩ ::
 ⟨(some 52), (some (51, false)), .p .mov, [.t 1]⟩ ::
 ⟨(some 53), (some (51, false)), .p .mov, [.t 7]⟩ ::
 ⟨(some 54), (some (51, false)), .p (.bin .rem), [.t 52, .t 53]⟩ ::
 ⟨(some 55), (some (51, false)), .p (.bin .neq), [.t 54, .c (.int .i64 0)]⟩ ::
 ⟨(some 56), none, .p .pick, [.t 51, .c (.bool true), .t 55]⟩ ::
 ⟨(some 57), none, .p .mov, [.t 56]⟩ ::
 ⟨(some 58), (some (57, false)), .p .mov, [.t 0]⟩ ::
 ⟨(some 59), (some (57, false)), .p .mov, [.t 2]⟩ ::
 ⟨(some 60), (some (57, false)), .p (.bin .rem), [.t 58, .t 59]⟩ ::
 ⟨(some 61), (some (57, false)), .p (.bin .eql), [.t 60, .c (.int .i64 0)]⟩ ::
 ⟨(some 62), (some (57, false)), .p .mov, [.t 61]⟩ ::
 ⟨(some 63), (some (62, true)), .p .mov, [.t 1]⟩ ::
 ⟨(some 64), (some (62, true)), .p .mov, [.t 2]⟩ ::
 ⟨(some 65), (some (62, true)), .p (.bin .rem), [.t 63, .t 64]⟩ ::
 ⟨(some 66), (some (62, true)), .p (.bin .eql), [.t 65, .c (.int .i64 0)]⟩ ::
 ⟨(some 67), (some (57, false)), .p .pick, [.t 62, .t 66, .c (.bool false)]⟩ ::
 ⟨(some 68), (some (57, false)), .p .mov, [.t 67]⟩ ::
 ⟨(some 69), (some (68, true)), .p .mov, [.t 7]⟩ ::
 ⟨(some 70), (some (68, true)), .p .mov, [.t 2]⟩ ::
 ⟨(some 71), (some (68, true)), .p (.bin .rem), [.t 69, .t 70]⟩ ::
 ⟨(some 72), (some (68, true)), .p (.bin .neq), [.t 71, .c (.int .i64 0)]⟩ ::
 ⟨(some 73), (some (57, false)), .p .pick, [.t 68, .t 72, .c (.bool false)]⟩ ::
 ⟨(some 74), none, .p .pick, [.t 57, .c (.bool true), .t 73]⟩ ::
 []))
(.cond (.t 74)
(.seq (.ops (⟨(some 6), none, .p .mov, [.c (.bool false)]⟩ ::
 []))
.ret)
.skip))
(.seq (.ops (⟨(some 76), none, .p .mov, [.t 1]⟩ ::
 ⟨(some 77), none, .p .mov, [.t 0]⟩ ::
 ⟨(some 78), none, .call, [.c (.func (.func 18) [] []), .t 76, .t 77]⟩ ::
 ⟨(some 75), none, .p .mov, [.t 78]⟩ ::
 ⟨(some 79), none, .p (.ext 0), [.t 75]⟩ ::
 ⟨(some 80), none, .p (.ext 1), [.t 75]⟩ ::
 ⟨(some 11), none, .p .mov, [.t 79]⟩ ::
 ⟨(some 12), none, .p .mov, [.t 80]⟩ ::
 []))
(.seq (.ops (⟨(some 81), none, .p .mov, [.t 12]⟩ ::
 ⟨(some 82), none, .p (.bin .eql), [.t 81, .c (.int .i64 0)]⟩ ::
 ⟨(some 83), none, .p .mov, [.t 82]⟩ ::
 ⟨(some 84), (some (83, true)), .p .mov, [.t 11]⟩ ::
 ⟨(some 85), (some (83, true)), .p .mov, [.t 7]⟩ ::
 ⟨(some 86), (some (83, true)), .p (.bin .eql), [.t 84, .t 85]⟩ ::
 ⟨(some 87), none, .p .pick, [.t 83, .t 86, .c (.bool false)]⟩ ::
 ⟨(some 88), none, .p .mov, [.t 87]⟩ ::
 ⟨(some 89), (some (88, true)), .p .mov, [.t 9]⟩ ::
 ⟨(some 90), (some (88, true)), .p .mov, [.t 0]⟩ ::
 ⟨(some 91), (some (88, true)), .p (.bin .rem), [.t 89, .t 90]⟩ ::
 ⟨(some 92), (some (88, true)), .p (.bin .eql), [.t 91, .c (.int .i64 0)]⟩ ::
 ⟨(some 93), none, .p .pick, [.t 88, .t 92, .c (.bool false)]⟩ ::
 ⟨(some 94), none, .p .mov, [.t 93]⟩ ::
 ⟨(some 95), (some (94, true)), .p .mov, [.t 9]⟩ ::
 ⟨(some 96), (some (94, true)), .p .mov, [.t 1]⟩ ::
 ⟨(some 97), (some (94, true)), .p (.bin .rem), [.t 95, .t 96]⟩ ::
 ⟨(some 98), (some (94, true)), .p (.bin .eql), [.t 97, .c (.int .i64 0)]⟩ ::
 ⟨(some 99), none, .p .pick, [.t 94, .t 98, .c (.bool false)]⟩ ::
 ⟨(some 100), none, .p .mov, [.t 99]⟩ ::
 ⟨(some 101), (some (100, true)), .p .mov, [.t 7]⟩ ::
 ⟨(some 102), (some (100, true)), .p .mov, [.t 9]⟩ ::
 ⟨(some 103), (some (100, true)), .p (.bin .mul), [.t 101, .t 102]⟩ ::
 ⟨(some 104), (some (100, true)), .p .mov, [.t 0]⟩ ::
 ⟨(some 105), (some (100, true)), .p .mov, [.t 1]⟩ ::
 ⟨(some 106), (some (100, true)), .p (.bin .mul), [.t 104, .t 105]⟩ ::
 ⟨(some 107), (some (100, true)), .p (.bin .eql), [.t 103, .t 106]⟩ ::
 ⟨(some 108), none, .p .pick, [.t 100, .t 107, .c (.bool false)]⟩ ::
 ⟨(some 109), none, .p .mov, [.t 108]⟩ ::
 ⟨(some 110), (some (109, true)), .call, [.c (.func (.func 20) [] [])]⟩ ::
 ⟨(some 111), none, .p .pick, [.t 109, .t 110, .c (.bool false)]⟩ ::
 ⟨(some 6), none, .p .mov, [.t 111]⟩ ::
 []))
.ret)))))))⟩
abbrev f_escapementlaw01_TicksDivide : Nat := 6
abbrev C_escapementlaw01_TicksDivide : AFunc := C6
def L_escapementlaw01_TicksAll_0 : AC := (.seq (.seq (.ops (⟨(some 15), none, .p .mov, [.t 5]⟩ ::
 ⟨(some 16), none, .p .mov, [.t 0]⟩ ::
 ⟨(some 17), none, .p .lenS, [.t 16]⟩ ::
 ⟨(some 18), none, .p (.bin .lss), [.t 15, .t 17]⟩ ::
 ⟨(some 19), none, .p .mov, [.t 18]⟩ ::
 ⟨(some 20), (some (19, true)), .p .mov, [.t 5]⟩ ::
 ⟨(some 21), (some (19, true)), .p (.bin .lss), [.t 20, .c (.int .i64 10)]⟩ ::
 ⟨(some 22), none, .p .pick, [.t 19, .t 21, .c (.bool false)]⟩ ::
 []))
(.cond (.t 22)
.skip
(.exit 0)))
(.seq (.block 1 (.seq (.ops (⟨(some 25), none, .p .mov, [.t 3]⟩ ::
 ⟨(some 26), none, .p .mov, [.t 0]⟩ ::
 ⟨(some 27), none, .p .mov, [.t 5]⟩ ::
 ⟨(some 28), none, .p (.iaddrS 1), [.t 26, .t 27]⟩ ::
 ⟨(some 29), none, .r .load1, [.t 28]⟩ ::
 ⟨(some 30), none, .call, [.c (.func (.func 27) [] []), .t 29, .c (.int .i64 12)]⟩ ::
 ⟨(some 31), none, .p (.bin .add), [.c (.int .i64 1), .t 30]⟩ ::
 ⟨(some 32), none, .a (.bslice [(.int .i64 0)] 1 1 [0]), [.t 31]⟩ ::
 ⟨(some 33), none, .e (.append 1 8), [.t 25, .t 32]⟩ ::
 ⟨(some 3), none, .p .mov, [.t 33]⟩ ::
 []))
(.ops (⟨(some 34), none, .p .mov, [.t 4]⟩ ::
 ⟨(some 35), none, .p .mov, [.t 3]⟩ ::
 ⟨(some 36), none, .p .mov, [.t 5]⟩ ::
 ⟨(some 37), none, .p (.iaddrS 1), [.t 35, .t 36]⟩ ::
 ⟨(some 38), none, .r .load1, [.t 37]⟩ ::
 ⟨(some 39), none, .p (.bin .add), [.t 34, .t 38]⟩ ::
 ⟨(some 4), none, .p .mov, [.t 39]⟩ ::
 []))))
(.ops (⟨(some 23), none, .p .mov, [.t 5]⟩ ::
 ⟨(some 24), none, .p (.bin .add), [.t 23, .c (.int .i64 1)]⟩ ::
 ⟨(some 5), none, .p .mov, [.t 24]⟩ ::
 []))))
def L_escapementlaw01_TicksAll_2 : AC := (.seq (.seq (.ops (⟨(some 71), none, .p .mov, [.t 12]⟩ ::
 ⟨(some 72), none, .p .mov, [.t 3]⟩ ::
 ⟨(some 73), none, .p .lenS, [.t 72]⟩ ::
 ⟨(some 74), none, .p (.bin .lss), [.t 71, .t 73]⟩ ::
 []))
(.cond (.t 74)
.skip
(.exit 4)))
(.seq (.block 5 (.ops (⟨(some 77), none, .p .mov, [.t 11]⟩ ::
 ⟨(some 78), none, .p .mov, [.t 77]⟩ ::
 ⟨(some 79), (some (78, true)), .p .mov, [.t 10]⟩ ::
 ⟨(some 80), (some (78, true)), .p .mov, [.t 3]⟩ ::
 ⟨(some 81), (some (78, true)), .p .mov, [.t 12]⟩ ::
 ⟨(some 82), (some (78, true)), .p (.iaddrS 1), [.t 80, .t 81]⟩ ::
 ⟨(some 83), (some (78, true)), .r .load1, [.t 82]⟩ ::
 ⟨(some 84), (some (78, true)), .p (.bin .rem), [.t 79, .t 83]⟩ ::
 ⟨(some 85), (some (78, true)), .p (.bin .eql), [.t 84, .c (.int .i64 0)]⟩ ::
 ⟨(some 86), none, .p .pick, [.t 78, .t 85, .c (.bool false)]⟩ ::
 ⟨(some 11), none, .p .mov, [.t 86]⟩ ::
 [])))
(.ops (⟨(some 75), none, .p .mov, [.t 12]⟩ ::
 ⟨(some 76), none, .p (.bin .add), [.t 75, .c (.int .i64 1)]⟩ ::
 ⟨(some 12), none, .p .mov, [.t 76]⟩ ::
 []))))
def L_escapementlaw01_TicksAll_1 : AC := (.seq (.seq (.ops (⟨(some 65), none, .p .mov, [.t 10]⟩ ::
 ⟨(some 66), none, .p .mov, [.t 6]⟩ ::
 ⟨(some 67), none, .p .mn, [.t 66, .c (.int .i64 4096)]⟩ ::
 ⟨(some 68), none, .p (.bin .leq), [.t 65, .t 67]⟩ ::
 []))
(.cond (.t 68)
.skip
(.exit 2)))
(.seq (.block 3 (.seq (.ops (⟨(some 11), none, .p .mov, [.c (.bool true)]⟩ ::
 []))
(.seq (.seq (.ops (⟨(some 12), none, .p .mov, [.c (.int .i64 0)]⟩ ::
 []))
(.block 4 (.loop L_escapementlaw01_TicksAll_2)))
(.seq (.ops (⟨(some 87), none, .p .mov, [.t 11]⟩ ::
 ⟨(some 88), none, .p .mov, [.t 10]⟩ ::
 ⟨(some 89), none, .p .mov, [.t 6]⟩ ::
 ⟨(some 90), none, .p (.bin .eql), [.t 88, .t 89]⟩ ::
 ⟨(some 91), none, .p (.neq .bool), [.t 87, .t 90]⟩ ::
 []))
(.cond (.t 91)
(.seq (.ops (⟨(some 2), none, .p .mov, [.c (.bool false)]⟩ ::
 []))
.ret)
.skip)))))
(.ops (⟨(some 69), none, .p .mov, [.t 10]⟩ ::
 ⟨(some 70), none, .p (.bin .add), [.t 69, .c (.int .i64 1)]⟩ ::
 ⟨(some 10), none, .p .mov, [.t 70]⟩ ::
 []))))
def C7 : AFunc := ⟨108, [.tmp 2],
(.seq (.ops (⟨(some 2), none, .p .mov, [.c (.bool false)]⟩ ::
 []))
(.seq (.ops (⟨(some 3), none, .p .mov, [.c .nils]⟩ ::
 []))
(.seq (.ops (⟨(some 4), none, .p .mov, [.c (.int .i64 0)]⟩ ::
 []))
(.seq (.seq (.ops (⟨(some 5), none, .p .mov, [.c (.int .i64 0)]⟩ ::
 []))
(.block 0 (.loop L_escapementlaw01_TicksAll_0)))
(.seq (.ops (⟨(some 41), none, .p .mov, [.t 3]⟩ ::
 ⟨(some 42), none, .call, [.c (.func (.func 22) [] []), .c (.int .i64 1099511627776), .t 41]⟩ ::
 ⟨(some 40), none, .p .mov, [.t 42]⟩ ::
 ⟨(some 43), none, .p (.ext 0), [.t 40]⟩ ::
 ⟨(some 44), none, .p (.ext 1), [.t 40]⟩ ::
 ⟨(some 6), none, .p .mov, [.t 43]⟩ ::
 ⟨(some 7), none, .p .mov, [.t 44]⟩ ::
 []))
(.seq (.ops (⟨(some 46), none, .p .mov, [.t 3]⟩ ::
 ⟨(some 47), none, .call, [.c (.func (.func 24) [] []), .t 46]⟩ ::
 ⟨(some 45), none, .p .mov, [.t 47]⟩ ::
 ⟨(some 48), none, .p (.ext 0), [.t 45]⟩ ::
 ⟨(some 49), none, .p (.ext 1), [.t 45]⟩ ::
 ⟨(some 8), none, .p .mov, [.t 48]⟩ ::
 ⟨(some 9), none, .p .mov, [.t 49]⟩ ::
 []))
(.seq (.seq (.ops (⟨(some 50), none, .p .mov, [.t 7]⟩ ::
 ⟨(some 51), none, .p (.bin .neq), [.t 50, .c (.int .i64 0)]⟩ ::
 ⟨(some 52), none, .p .mov, [.t 51]⟩ ::
 ⟨(some 53), (some (52, false)), .p .mov, [.t 9]⟩ ::
 ⟨(some 54), (some (52, false)), .p (.bin .neq), [.t 53, .c (.int .i64 0)]⟩ ::
 ⟨(some 55), none, .p .pick, [.t 52, .c (.bool true), .t 54]⟩ ::
 ⟨(some 56), none, .p .mov, [.t 55]⟩ ::
 ⟨(some 57), (some (56, false)), .p .mov, [.t 8]⟩ ::
 ⟨(some 58), (some (56, false)), .p .mov, [.t 4]⟩ ::
 ⟨(some 59), (some (56, false)), .p (.bin .neq), [.t 57, .t 58]⟩ ::
 ⟨(some 60), none, .p .pick, [.t 56, .c (.bool true), .t 59]⟩ ::
 ⟨(some 61), none, .p .mov, [.t 60]⟩ ::
 ⟨(some 62), (some (61, false)), .p .mov, [.t 6]⟩ ::
 ⟨(some 63), (some (61, false)), .p (.bin .lss), [.t 62, .c (.int .i64 1)]⟩ ::
 ⟨(some 64), none, .p .pick, [.t 61, .c (.bool true), .t 63]⟩ ::
 []))
(.cond (.t 64)
(.seq (.ops (⟨(some 2), none, .p .mov, [.c (.bool false)]⟩ ::
 []))
.ret)
.skip))
(.seq (.seq (.ops (⟨(some 10), none, .p .mov, [.c (.int .i64 1)]⟩ ::
 []))
(.block 2 (.loop L_escapementlaw01_TicksAll_1)))
(.seq (.ops (⟨(some 93), none, .p .mov, [.t 6]⟩ ::
 ⟨(some 94), none, .p (.bin .sub), [.t 93, .c (.int .i64 1)]⟩ ::
 ⟨(some 95), none, .p .mov, [.t 3]⟩ ::
 ⟨(some 96), none, .call, [.c (.func (.func 22) [] []), .t 94, .t 95]⟩ ::
 ⟨(some 92), none, .p .mov, [.t 96]⟩ ::
 ⟨(some 97), none, .p (.ext 0), [.t 92]⟩ ::
 ⟨(some 98), none, .p (.ext 1), [.t 92]⟩ ::
 ⟨(some 13), none, .p .mov, [.t 97]⟩ ::
 ⟨(some 14), none, .p .mov, [.t 98]⟩ ::
 []))
(.seq (.ops (⟨(some 99), none, .p .mov, [.t 13]⟩ ::
 ⟨(some 100), none, .p (.bin .eql), [.t 99, .c (.int .i64 0)]⟩ ::
 ⟨(some 101), none, .p .mov, [.t 100]⟩ ::
 ⟨(some 102), (some (101, true)), .p .mov, [.t 14]⟩ ::
 ⟨(some 103), (some (101, true)), .p (.bin .eql), [.t 102, .c (.int .i64 10)]⟩ ::
 ⟨(some 104), none, .p .pick, [.t 101, .t 103, .c (.bool false)]⟩ ::
 ⟨(some 105), none, .p .mov, [.t 104]⟩ ::
 ⟨(some 106), (some (105, true)), .call, [.c (.func (.func 20) [] [])]⟩ ::
 ⟨(some 107), none, .p .pick, [.t 105, .t 106, .c (.bool false)]⟩ ::
 ⟨(some 2), none, .p .mov, [.t 107]⟩ ::
 []))
.ret))))))))))⟩
abbrev f_escapementlaw01_TicksAll : Nat := 7
abbrev C_escapementlaw01_TicksAll : AFunc := C7
def L_escapementlaw01_TicksKnown_1 : AC := (.seq (.seq (.ops (⟨(some 11), none, .p .mov, [.t 3]⟩ ::
 ⟨(some 12), none, .p .mov, [.t 1]⟩ ::
 ⟨(some 13), none, .p .lenS, [.t 12]⟩ ::
 ⟨(some 14), none, .p (.bin .lss), [.t 11, .t 13]⟩ ::
 []))
(.cond (.t 14)
.skip
(.exit 2)))
(.seq (.block 3 (.seq (.dops (⟨(some 17), none, .p .mov, [.t 1]⟩ ::
 ⟨(some 18), none, .p .mov, [.t 2]⟩ ::
 ⟨(some 19), none, .p (.iaddrS 1), [.t 17, .t 18]⟩ ::
 ⟨(some 20), none, .r .load1, [.t 19]⟩ ::
 ⟨(some 21), none, .p .mov, [.t 1]⟩ ::
 ⟨(some 22), none, .p .mov, [.t 3]⟩ ::
 ⟨(some 23), none, .p (.iaddrS 1), [.t 21, .t 22]⟩ ::
 ⟨(some 24), none, .r .load1, [.t 23]⟩ ::
 ⟨(some 25), none, .call, [.c (.func (.func 3) [] []), .t 20, .t 24]⟩ ::
 ⟨(some 26), none, .p .not, [.t 25]⟩ ::
 ⟨(some 27), none, .p .mov, [.t 26]⟩ ::
 ⟨(some 28), (some (27, false)), .p .mov, [.t 1]⟩ ::
 ⟨(some 29), (some (27, false)), .p .mov, [.t 2]⟩ ::
 ⟨(some 30), (some (27, false)), .p (.iaddrS 1), [.t 28, .t 29]⟩ ::
 ⟨(some 31), (some (27, false)), .r .load1, [.t 30]⟩ ::
 ⟨(some 32), (some (27, false)), .p .mov, [.t 1]⟩ ::
 ⟨(some 33), (some (27, false)), .p .mov, [.t 3]⟩ ::
 ⟨(some 34), (some (27, false)), .p (.iaddrS 1), [.t 32, .t 33]⟩ ::
 ⟨(some 35), (some (27, false)), .r .load1, [.t 34]⟩ ::
 ⟨(some 36), (some (27, false)), .a (.bslice [(.int .i64 0)] 2 1 [0, 1]), [.t 35, .c (.int .i64 3)]⟩ ::
 ⟨(some 37), (some (27, false)), .call, [.c (.func (.func 4) [] []), .t 31, .t 36]⟩ ::
 ⟨(some 38), (some (27, false)), .p .not, [.t 37]⟩ ::
 ⟨(some 39), none, .p .pick, [.t 27, .c (.bool true), .t 38]⟩ ::
 ⟨(some 40), none, .p .mov, [.t 39]⟩ ::
 ⟨(some 41), (some (40, false)), .p .mov, [.t 1]⟩ ::
 ⟨(some 42), (some (40, false)), .p .mov, [.t 2]⟩ ::
 ⟨(some 43), (some (40, false)), .p (.iaddrS 1), [.t 41, .t 42]⟩ ::
 ⟨(some 44), (some (40, false)), .r .load1, [.t 43]⟩ ::
 ⟨(some 45), (some (40, false)), .p .mov, [.t 1]⟩ ::
 ⟨(some 46), (some (40, false)), .p .mov, [.t 3]⟩ ::
 ⟨(some 47), (some (40, false)), .p (.iaddrS 1), [.t 45, .t 46]⟩ ::
 ⟨(some 48), (some (40, false)), .r .load1, [.t 47]⟩ ::
 ⟨(some 49), (some (40, false)), .a (.bslice [(.int .i64 0)] 2 1 [0, 1]), [.t 44, .t 48]⟩ ::
 ⟨(some 50), (some (40, false)), .call, [.c (.func (.func 4) [] []), .c (.int .i64 1099511627776), .t 49]⟩ ::
 ⟨(some 51), (some (40, false)), .p .not, [.t 50]⟩ ::
 ⟨(some 52), none, .p .pick, [.t 40, .c (.bool true), .t 51]⟩ ::
 []) ([] :: [] :: [] :: [] :: [] :: [] :: [] :: [] :: [] :: [] :: [] :: [] :: [] :: [] :: [] :: [] :: [] :: [] :: [] :: [] :: [] :: [] :: [] :: [] :: [] :: [] :: [] :: [] :: [] :: [] :: [] :: [] :: [] :: [] :: [] :: [] :: []))
(.cond (.t 52)
(.seq (.ops (⟨(some 0), none, .p .mov, [.c (.bool false)]⟩ ::
 []))
.ret)
.skip)))
(.ops (⟨(some 15), none, .p .mov, [.t 3]⟩ ::
 ⟨(some 16), none, .p (.bin .add), [.t 15, .c (.int .i64 1)]⟩ ::
 ⟨(some 3), none, .p .mov, [.t 16]⟩ ::
 []))))
def L_escapementlaw01_TicksKnown_0 : AC := (.seq (.seq (.ops (⟨(some 5), none, .p .mov, [.t 2]⟩ ::
 ⟨(some 6), none, .p .mov, [.t 1]⟩ ::
 ⟨(some 7), none, .p .lenS, [.t 6]⟩ ::
 ⟨(some 8), none, .p (.bin .lss), [.t 5, .t 7]⟩ ::
 []))
(.cond (.t 8)
.skip
(.exit 0)))
(.seq (.block 1 (.seq (.ops (⟨(some 3), none, .p .mov, [.c (.int .i64 0)]⟩ ::
 []))
(.block 2 (.loop L_escapementlaw01_TicksKnown_1))))
(.ops (⟨(some 9), none, .p .mov, [.t 2]⟩ ::
 ⟨(some 10), none, .p (.bin .add), [.t 9, .c (.int .i64 1)]⟩ ::
 ⟨(some 2), none, .p .mov, [.t 10]⟩ ::
 []))))
def C8 : AFunc := ⟨69, [.tmp 0],
(.seq (.ops (⟨(some 0), none, .p .mov, [.c (.bool false)]⟩ ::
 []))
(.seq (.ops (⟨(some 4), none, .a (.bslice [(.int .i64 0)] 13 1 [0, 1, 2, 3, 4, 5, 6, 7, 8, 9, 10, 11, 12]), [.c (.int .i64 (-9223372036854775808)), .c (.int .i64 (-1)), .c (.int .i64 0), .c (.int .i64 1), .c (.int .i64 2), .c (.int .i64 63), .c (.int .i64 1048576), .c (.int .i64 1048577), .c (.int .i64 549755813888), .c (.int .i64 1099511627775), .c (.int .i64 1099511627776), .c (.int .i64 1099511627777), .c (.int .i64 9223372036854775807)]⟩ ::
 ⟨(some 1), none, .p .mov, [.t 4]⟩ ::
 []))
(.seq (.seq (.ops (⟨(some 2), none, .p .mov, [.c (.int .i64 0)]⟩ ::
 []))
(.block 0 (.loop L_escapementlaw01_TicksKnown_0)))
(.seq (.ops (⟨(some 53), none, .p .mov, [.c (.bool true)]⟩ ::
 ⟨(some 54), (some (53, true)), .call, [.c (.func (.func 20) [] [])]⟩ ::
 ⟨(some 55), none, .p .pick, [.t 53, .t 54, .c (.bool false)]⟩ ::
 ⟨(some 56), none, .p .mov, [.t 55]⟩ ::
 ⟨(some 57), (some (56, true)), .call, [.c (.func (.func 4) [] []), .c (.int .i64 0), .c .nils]⟩ ::
 ⟨(some 58), none, .p .pick, [.t 56, .t 57, .c (.bool false)]⟩ ::
 ⟨(some 59), none, .p .mov, [.t 58]⟩ ::
 ⟨(some 60), (some (59, true)), .call, [.c (.func (.func 4) [] []), .c (.int .i64 5), .c .nils]⟩ ::
 ⟨(some 61), none, .p .pick, [.t 59, .t 60, .c (.bool false)]⟩ ::
 ⟨(some 62), none, .p .mov, [.t 61]⟩ ::
 ⟨(some 63), (some (62, true)), .call, [.c (.func (.func 4) [] []), .c (.int .i64 (-1)), .c .nils]⟩ ::
 ⟨(some 64), none, .p .pick, [.t 62, .t 63, .c (.bool false)]⟩ ::
 ⟨(some 65), none, .p .mov, [.t 64]⟩ ::
 ⟨(some 66), (some (65, true)), .a (.bslice [(.int .i64 0)] 5 1 [0, 1, 2, 3, 4]), [.c (.int .i64 6), .c (.int .i64 8), .c (.int .i64 9), .c (.int .i64 11), .c (.int .i64 10)]⟩ ::
 ⟨(some 67), (some (65, true)), .call, [.c (.func (.func 7) [] []), .t 66]⟩ ::
 ⟨(some 68), none, .p .pick, [.t 65, .t 67, .c (.bool false)]⟩ ::
 ⟨(some 0), none, .p .mov, [.t 68]⟩ ::
 []))
.ret))))⟩
abbrev f_escapementlaw01_TicksKnown : Nat := 8
abbrev C_escapementlaw01_TicksKnown : AFunc := C8
def C9 : AFunc := ⟨17, [.tmp 4, .tmp 5],
(.seq (.ops (⟨(some 4), none, .p .mov, [.c (.int .i64 0)]⟩ ::
 ⟨(some 5), none, .p .mov, [.c (.int .i64 0)]⟩ ::
 []))
(.seq (.seq (.ops (⟨(some 6), none, .p .mov, [.t 0]⟩ ::
 ⟨(some 7), none, .p .mov, [.t 1]⟩ ::
 ⟨(some 8), none, .a (.bslice [(.int .i64 0)] 2 1 [0, 1]), [.t 6, .t 7]⟩ ::
 ⟨(some 9), none, .call, [.c (.func (.func 28) [] []), .t 8]⟩ ::
 ⟨(some 10), none, .p .not, [.t 9]⟩ ::
 []))
(.cond (.t 10)
(.seq (.ops (⟨(some 4), none, .p .mov, [.c (.int .i64 0)]⟩ ::
 ⟨(some 5), none, .p .mov, [.c (.int .i64 2)]⟩ ::
 []))
.ret)
.skip))
(.seq (.ops (⟨(some 11), none, .p .mov, [.t 0]⟩ ::
 ⟨(some 12), none, .p .mov, [.t 1]⟩ ::
 ⟨(some 13), none, .p (.bin .add), [.t 11, .t 12]⟩ ::
 ⟨(some 14), none, .call, [.c (.func (.func 29) [] []), .t 13, .c (.int .i64 0)]⟩ ::
 ⟨(some 15), none, .p (.ext 0), [.t 14]⟩ ::
 ⟨(some 16), none, .p (.ext 1), [.t 14]⟩ ::
 ⟨(some 4), none, .p .mov, [.t 15]⟩ ::
 ⟨(some 5), none, .p .mov, [.t 16]⟩ ::
 []))
.ret)))⟩
abbrev f_ticks_Add : Nat := 9
abbrev C_ticks_Add : AFunc := C9
def C10 : AFunc := ⟨21, [.tmp 4, .tmp 5],
(.seq (.ops (⟨(some 4), none, .p .mov, [.c (.int .i64 0)]⟩ ::
 ⟨(some 5), none, .p .mov, [.c (.int .i64 0)]⟩ ::
 []))
(.seq (.seq (.ops (⟨(some 6), none, .p .mov, [.t 0]⟩ ::
 ⟨(some 7), none, .call, [.c (.func (.func 30) [] []), .t 6]⟩ ::
 ⟨(some 8), none, .p .not, [.t 7]⟩ ::
 ⟨(some 9), none, .p .mov, [.t 8]⟩ ::
 ⟨(some 10), (some (9, false)), .p .mov, [.t 1]⟩ ::
 ⟨(some 11), (some (9, false)), .call, [.c (.func (.func 30) [] []), .t 10]⟩ ::
 ⟨(some 12), (some (9, false)), .p .not, [.t 11]⟩ ::
 ⟨(some 13), none, .p .pick, [.t 9, .c (.bool true), .t 12]⟩ ::
 []))
(.cond (.t 13)
(.seq (.ops (⟨(some 4), none, .p .mov, [.c (.int .i64 0)]⟩ ::
 ⟨(some 5), none, .p .mov, [.c (.int .i64 2)]⟩ ::
 []))
.ret)
.skip))
(.seq (.seq (.ops (⟨(some 14), none, .p .mov, [.t 0]⟩ ::
 ⟨(some 15), none, .p .mov, [.t 1]⟩ ::
 ⟨(some 16), none, .p (.bin .add), [.t 14, .t 15]⟩ ::
 ⟨(some 17), none, .p (.bin .gtr), [.t 16, .c (.int .i64 1099511627776)]⟩ ::
 []))
(.cond (.t 17)
(.seq (.ops (⟨(some 4), none, .p .mov, [.c (.int .i64 0)]⟩ ::
 ⟨(some 5), none, .p .mov, [.c (.int .i64 10)]⟩ ::
 []))
.ret)
.skip))
(.seq (.ops (⟨(some 18), none, .p .mov, [.t 0]⟩ ::
 ⟨(some 19), none, .p .mov, [.t 1]⟩ ::
 ⟨(some 20), none, .p (.bin .add), [.t 18, .t 19]⟩ ::
 ⟨(some 4), none, .p .mov, [.t 20]⟩ ::
 ⟨(some 5), none, .p .mov, [.c (.int .i64 0)]⟩ ::
 []))
.ret))))⟩
abbrev f_escapementref01_Add : Nat := 10
abbrev C_escapementref01_Add : AFunc := C10
def C11 : AFunc := ⟨17, [.tmp 8],
(.seq (.ops (⟨(some 8), none, .p .mov, [.c (.bool false)]⟩ ::
 []))
(.seq (.ops (⟨(some 9), none, .p .mov, [.t 0]⟩ ::
 ⟨(some 10), none, .p .mov, [.t 2]⟩ ::
 ⟨(some 11), none, .p (.bin .eql), [.t 9, .t 10]⟩ ::
 ⟨(some 12), none, .p .mov, [.t 11]⟩ ::
 ⟨(some 13), (some (12, true)), .p .mov, [.t 1]⟩ ::
 ⟨(some 14), (some (12, true)), .p .mov, [.t 3]⟩ ::
 ⟨(some 15), (some (12, true)), .p (.bin .eql), [.t 13, .t 14]⟩ ::
 ⟨(some 16), none, .p .pick, [.t 12, .t 15, .c (.bool false)]⟩ ::
 ⟨(some 8), none, .p .mov, [.t 16]⟩ ::
 []))
.ret))⟩
abbrev f_escapementlaw01_two : Nat := 11
abbrev C_escapementlaw01_two : AFunc := C11
def C12 : AFunc := ⟨19, [.tmp 4, .tmp 5],
(.seq (.ops (⟨(some 4), none, .p .mov, [.c (.int .i64 0)]⟩ ::
 ⟨(some 5), none, .p .mov, [.c (.int .i64 0)]⟩ ::
 []))
(.seq (.seq (.ops (⟨(some 6), none, .p .mov, [.t 0]⟩ ::
 ⟨(some 7), none, .p .mov, [.t 1]⟩ ::
 ⟨(some 8), none, .a (.bslice [(.int .i64 0)] 2 1 [0, 1]), [.t 6, .t 7]⟩ ::
 ⟨(some 9), none, .call, [.c (.func (.func 28) [] []), .t 8]⟩ ::
 ⟨(some 10), none, .p .not, [.t 9]⟩ ::
 ⟨(some 11), none, .p .mov, [.t 10]⟩ ::
 ⟨(some 12), (some (11, false)), .p .mov, [.t 1]⟩ ::
 ⟨(some 13), (some (11, false)), .p .mov, [.t 0]⟩ ::
 ⟨(some 14), (some (11, false)), .p (.bin .gtr), [.t 12, .t 13]⟩ ::
 ⟨(some 15), none, .p .pick, [.t 11, .c (.bool true), .t 14]⟩ ::
 []))
(.cond (.t 15)
(.seq (.ops (⟨(some 4), none, .p .mov, [.c (.int .i64 0)]⟩ ::
 ⟨(some 5), none, .p .mov, [.c (.int .i64 2)]⟩ ::
 []))
.ret)
.skip))
(.seq (.ops (⟨(some 16), none, .p .mov, [.t 0]⟩ ::
 ⟨(some 17), none, .p .mov, [.t 1]⟩ ::
 ⟨(some 18), none, .p (.bin .sub), [.t 16, .t 17]⟩ ::
 ⟨(some 4), none, .p .mov, [.t 18]⟩ ::
 ⟨(some 5), none, .p .mov, [.c (.int .i64 0)]⟩ ::
 []))
.ret)))⟩
abbrev f_ticks_Sub : Nat := 12
abbrev C_ticks_Sub : AFunc := C12
def C13 : AFunc := ⟨22, [.tmp 4, .tmp 5],
(.seq (.ops (⟨(some 4), none, .p .mov, [.c (.int .i64 0)]⟩ ::
 ⟨(some 5), none, .p .mov, [.c (.int .i64 0)]⟩ ::
 []))
(.seq (.seq (.ops (⟨(some 6), none, .p .mov, [.t 0]⟩ ::
 ⟨(some 7), none, .call, [.c (.func (.func 30) [] []), .t 6]⟩ ::
 ⟨(some 8), none, .p .not, [.t 7]⟩ ::
 ⟨(some 9), none, .p .mov, [.t 8]⟩ ::
 ⟨(some 10), (some (9, false)), .p .mov, [.t 1]⟩ ::
 ⟨(some 11), (some (9, false)), .call, [.c (.func (.func 30) [] []), .t 10]⟩ ::
 ⟨(some 12), (some (9, false)), .p .not, [.t 11]⟩ ::
 ⟨(some 13), none, .p .pick, [.t 9, .c (.bool true), .t 12]⟩ ::
 ⟨(some 14), none, .p .mov, [.t 13]⟩ ::
 ⟨(some 15), (some (14, false)), .p .mov, [.t 1]⟩ ::
 ⟨(some 16), (some (14, false)), .p .mov, [.t 0]⟩ ::
 ⟨(some 17), (some (14, false)), .p (.bin .gtr), [.t 15, .t 16]⟩ ::
 ⟨(some 18), none, .p .pick, [.t 14, .c (.bool true), .t 17]⟩ ::
 []))
(.cond (.t 18)
(.seq (.ops (⟨(some 4), none, .p .mov, [.c (.int .i64 0)]⟩ ::
 ⟨(some 5), none, .p .mov, [.c (.int .i64 2)]⟩ ::
 []))
.ret)
.skip))
(.seq (.ops (⟨(some 19), none, .p .mov, [.t 0]⟩ ::
 ⟨(some 20), none, .p .mov, [.t 1]⟩ ::
 ⟨(some 21), none, .p (.bin .sub), [.t 19, .t 20]⟩ ::
 ⟨(some 4), none, .p .mov, [.t 21]⟩ ::
 ⟨(some 5), none, .p .mov, [.c (.int .i64 0)]⟩ ::
 []))
.ret)))⟩
abbrev f_escapementref01_Sub : Nat := 13
abbrev C_escapementref01_Sub : AFunc := C13
def C14 : AFunc := ⟨29, [.tmp 4, .tmp 5],
(.seq (.ops (⟨(some 4), none, .p .mov, [.c (.int .i64 0)]⟩ ::
 ⟨(some 5), none, .p .mov, [.c (.int .i64 0)]⟩ ::
 []))
(.seq (.seq (.ops (⟨(some 8), none, .p .mov, [.t 0]⟩ ::
 ⟨(some 9), none, .p .mov, [.t 1]⟩ ::
 ⟨(some 10), none, .a (.bslice [(.int .i64 0)] 2 1 [0, 1]), [.t 8, .t 9]⟩ ::
 ⟨(some 11), none, .call, [.c (.func (.func 28) [] []), .t 10]⟩ ::
 ⟨(some 12), none, .p .not, [.t 11]⟩ ::
 []))
(.cond (.t 12)
(.seq (.ops (⟨(some 4), none, .p .mov, [.c (.int .i64 0)]⟩ ::
 ⟨(some 5), none, .p .mov, [.c (.int .i64 2)]⟩ ::
 []))
.ret)
.skip))
(.seq (.ops (⟨(some 14), none, .p .mov, [.t 0]⟩ ::
 ⟨(some 15), none, .p (.conv .u64), [.t 14]⟩ ::
 ⟨(some 16), none, .p .mov, [.t 1]⟩ ::
 ⟨(some 17), none, .p (.conv .u64), [.t 16]⟩ ::
 ⟨(some 18), none, .call, [.c (.func (.func 31) [] []), .t 15, .t 17]⟩ ::
 ⟨(some 13), none, .p .mov, [.t 18]⟩ ::
 ⟨(some 19), none, .p (.ext 0), [.t 13]⟩ ::
 ⟨(some 20), none, .p (.ext 1), [.t 13]⟩ ::
 ⟨(some 6), none, .p .mov, [.t 19]⟩ ::
 ⟨(some 7), none, .p .mov, [.t 20]⟩ ::
 []))
(.seq (.seq (.ops (⟨(some 21), none, .p .mov, [.t 6]⟩ ::
 ⟨(some 22), none, .p (.bin .gtr), [.t 21, .c (.int .u64 0)]⟩ ::
 ⟨(some 23), none, .p .mov, [.t 22]⟩ ::
 ⟨(some 24), (some (23, false)), .p .mov, [.t 7]⟩ ::
 ⟨(some 25), (some (23, false)), .p (.bin .gtr), [.t 24, .c (.int .u64 1099511627776)]⟩ ::
 ⟨(some 26), none, .p .pick, [.t 23, .c (.bool true), .t 25]⟩ ::
 []))
(.cond (.t 26)
(.seq (.ops (⟨(some 4), none, .p .mov, [.c (.int .i64 0)]⟩ ::
 ⟨(some 5), none, .p .mov, [.c (.int .i64 10)]⟩ ::
 []))
.ret)
.skip))
(.seq (.ops (⟨(some 27), none, .p .mov, [.t 7]⟩ ::
 ⟨(some 28), none, .p (.conv .i64), [.t 27]⟩ ::
 ⟨(some 4), none, .p .mov, [.t 28]⟩ ::
 ⟨(some 5), none, .p .mov, [.c (.int .i64 0)]⟩ ::
 []))
.ret)))))⟩
abbrev f_ticks_Mul : Nat := 14
abbrev C_ticks_Mul : AFunc := C14
def C15 : AFunc := ⟨25, [.tmp 4, .tmp 5],
(.seq (.ops (⟨(some 4), none, .p .mov, [.c (.int .i64 0)]⟩ ::
 ⟨(some 5), none, .p .mov, [.c (.int .i64 0)]⟩ ::
 []))
(.seq (.seq (.ops (⟨(some 6), none, .p .mov, [.t 0]⟩ ::
 ⟨(some 7), none, .call, [.c (.func (.func 30) [] []), .t 6]⟩ ::
 ⟨(some 8), none, .p .not, [.t 7]⟩ ::
 ⟨(some 9), none, .p .mov, [.t 8]⟩ ::
 ⟨(some 10), (some (9, false)), .p .mov, [.t 1]⟩ ::
 ⟨(some 11), (some (9, false)), .call, [.c (.func (.func 30) [] []), .t 10]⟩ ::
 ⟨(some 12), (some (9, false)), .p .not, [.t 11]⟩ ::
 ⟨(some 13), none, .p .pick, [.t 9, .c (.bool true), .t 12]⟩ ::
 []))
(.cond (.t 13)
(.seq (.ops (⟨(some 4), none, .p .mov, [.c (.int .i64 0)]⟩ ::
 ⟨(some 5), none, .p .mov, [.c (.int .i64 2)]⟩ ::
 []))
.ret)
.skip))
(.seq (.seq (.ops (⟨(some 14), none, .p .mov, [.t 0]⟩ ::
 ⟨(some 15), none, .p (.bin .gtr), [.t 14, .c (.int .i64 0)]⟩ ::
 ⟨(some 16), none, .p .mov, [.t 15]⟩ ::
 ⟨(some 17), (some (16, true)), .p .mov, [.t 1]⟩ ::
 ⟨(some 18), (some (16, true)), .p .mov, [.t 0]⟩ ::
 ⟨(some 19), (some (16, true)), .p (.bin .quo), [.c (.int .i64 1099511627776), .t 18]⟩ ::
 ⟨(some 20), (some (16, true)), .p (.bin .gtr), [.t 17, .t 19]⟩ ::
 ⟨(some 21), none, .p .pick, [.t 16, .t 20, .c (.bool false)]⟩ ::
 []))
(.cond (.t 21)
(.seq (.ops (⟨(some 4), none, .p .mov, [.c (.int .i64 0)]⟩ ::
 ⟨(some 5), none, .p .mov, [.c (.int .i64 10)]⟩ ::
 []))
.ret)
.skip))
(.seq (.ops (⟨(some 22), none, .p .mov, [.t 0]⟩ ::
 ⟨(some 23), none, .p .mov, [.t 1]⟩ ::
 ⟨(some 24), none, .p (.bin .mul), [.t 22, .t 23]⟩ ::
 ⟨(some 4), none, .p .mov, [.t 24]⟩ ::
 ⟨(some 5), none, .p .mov, [.c (.int .i64 0)]⟩ ::
 []))
.ret))))⟩
abbrev f_escapementref01_Mul : Nat := 15
abbrev C_escapementref01_Mul : AFunc := C15
def C16 : AFunc := ⟨18, [.tmp 4, .tmp 5],
(.seq (.ops (⟨(some 4), none, .p .mov, [.c (.int .i64 0)]⟩ ::
 ⟨(some 5), none, .p .mov, [.c (.int .i64 0)]⟩ ::
 []))
(.seq (.seq (.ops (⟨(some 6), none, .p .mov, [.t 0]⟩ ::
 ⟨(some 7), none, .p .mov, [.t 1]⟩ ::
 ⟨(some 8), none, .a (.bslice [(.int .i64 0)] 2 1 [0, 1]), [.t 6, .t 7]⟩ ::
 ⟨(some 9), none, .call, [.c (.func (.func 28) [] []), .t 8]⟩ ::
 ⟨(some 10), none, .p .not, [.t 9]⟩ ::
 ⟨(some 11), none, .p .mov, [.t 10]⟩ ::
 ⟨(some 12), (some (11, false)), .p .mov, [.t 1]⟩ ::
 ⟨(some 13), (some (11, false)), .p (.bin .eql), [.t 12, .c (.int .i64 0)]⟩ ::
 ⟨(some 14), none, .p .pick, [.t 11, .c (.bool true), .t 13]⟩ ::
 []))
(.cond (.t 14)
(.seq (.ops (⟨(some 4), none, .p .mov, [.c (.int .i64 0)]⟩ ::
 ⟨(some 5), none, .p .mov, [.c (.int .i64 2)]⟩ ::
 []))
.ret)
.skip))
(.seq (.ops (⟨(some 15), none, .p .mov, [.t 0]⟩ ::
 ⟨(some 16), none, .p .mov, [.t 1]⟩ ::
 ⟨(some 17), none, .p (.bin .quo), [.t 15, .t 16]⟩ ::
 ⟨(some 4), none, .p .mov, [.t 17]⟩ ::
 ⟨(some 5), none, .p .mov, [.c (.int .i64 0)]⟩ ::
 []))
.ret)))⟩
abbrev f_ticks_Div : Nat := 16
abbrev C_ticks_Div : AFunc := C16
def C17 : AFunc := ⟨21, [.tmp 4, .tmp 5],
(.seq (.ops (⟨(some 4), none, .p .mov, [.c (.int .i64 0)]⟩ ::
 ⟨(some 5), none, .p .mov, [.c (.int .i64 0)]⟩ ::
 []))
(.seq (.seq (.ops (⟨(some 6), none, .p .mov, [.t 0]⟩ ::
 ⟨(some 7), none, .call, [.c (.func (.func 30) [] []), .t 6]⟩ ::
 ⟨(some 8), none, .p .not, [.t 7]⟩ ::
 ⟨(some 9), none, .p .mov, [.t 8]⟩ ::
 ⟨(some 10), (some (9, false)), .p .mov, [.t 1]⟩ ::
 ⟨(some 11), (some (9, false)), .call, [.c (.func (.func 30) [] []), .t 10]⟩ ::
 ⟨(some 12), (some (9, false)), .p .not, [.t 11]⟩ ::
 ⟨(some 13), none, .p .pick, [.t 9, .c (.bool true), .t 12]⟩ ::
 ⟨(some 14), none, .p .mov, [.t 13]⟩ ::
 ⟨(some 15), (some (14, false)), .p .mov, [.t 1]⟩ ::
 ⟨(some 16), (some (14, false)), .p (.bin .eql), [.t 15, .c (.int .i64 0)]⟩ ::
 ⟨(some 17), none, .p .pick, [.t 14, .c (.bool true), .t 16]⟩ ::
 []))
(.cond (.t 17)
(.seq (.ops (⟨(some 4), none, .p .mov, [.c (.int .i64 0)]⟩ ::
 ⟨(some 5), none, .p .mov, [.c (.int .i64 2)]⟩ ::
 []))
.ret)
.skip))
(.seq (.ops (⟨(some 18), none, .p .mov, [.t 0]⟩ ::
 ⟨(some 19), none, .p .mov, [.t 1]⟩ ::
 ⟨(some 20), none, .p (.bin .quo), [.t 18, .t 19]⟩ ::
 ⟨(some 4), none, .p .mov, [.t 20]⟩ ::
 ⟨(some 5), none, .p .mov, [.c (.int .i64 0)]⟩ ::
 []))
.ret)))⟩
abbrev f_escapementref01_Div : Nat := 17
abbrev C_escapementref01_Div : AFunc := C17
def L_ticks_Gcd_0 : AC := (.seq (.seq (.ops (⟨(some 11), none, .p .mov, [.t 1]⟩ ::
 ⟨(some 12), none, .p (.bin .neq), [.t 11, .c (.int .i64 0)]⟩ ::
 []))
(.cond (.t 12)
.skip
(.exit 0)))
(.block 1 (.dops (⟨(some 13), none, .p .mov, [.t 1]⟩ ::
 ⟨(some 14), none, .p .mov, [.t 0]⟩ ::
 ⟨(some 15), none, .p .mov, [.t 1]⟩ ::
 ⟨(some 16), none, .p (.bin .rem), [.t 14, .t 15]⟩ ::
 ⟨(some 0), none, .p .mov, [.t 13]⟩ ::
 ⟨(some 1), none, .p .mov, [.t 16]⟩ ::
 []) ([] :: [] :: [] :: [] :: [] :: [] :: []))))
def C18 : AFunc := ⟨18, [.tmp 4, .tmp 5],
(.seq (.ops (⟨(some 4), none, .p .mov, [.c (.int .i64 0)]⟩ ::
 ⟨(some 5), none, .p .mov, [.c (.int .i64 0)]⟩ ::
 []))
(.seq (.seq (.ops (⟨(some 6), none, .p .mov, [.t 0]⟩ ::
 ⟨(some 7), none, .p .mov, [.t 1]⟩ ::
 ⟨(some 8), none, .a (.bslice [(.int .i64 0)] 2 1 [0, 1]), [.t 6, .t 7]⟩ ::
 ⟨(some 9), none, .call, [.c (.func (.func 28) [] []), .t 8]⟩ ::
 ⟨(some 10), none, .p .not, [.t 9]⟩ ::
 []))
(.cond (.t 10)
(.seq (.ops (⟨(some 4), none, .p .mov, [.c (.int .i64 0)]⟩ ::
 ⟨(some 5), none, .p .mov, [.c (.int .i64 2)]⟩ ::
 []))
.ret)
.skip))
(.seq (.block 0 (.loop L_ticks_Gcd_0))
(.seq (.ops (⟨(some 17), none, .p .mov, [.t 0]⟩ ::
 ⟨(some 4), none, .p .mov, [.t 17]⟩ ::
 ⟨(some 5), none, .p .mov, [.c (.int .i64 0)]⟩ ::
 []))
.ret))))⟩
abbrev f_ticks_Gcd : Nat := 18
abbrev C_ticks_Gcd : AFunc := C18
def L_escapementref01_Gcd_0 : AC := (.seq (.seq (.ops (⟨(some 15), none, .p .mov, [.t 1]⟩ ::
 ⟨(some 16), none, .p (.bin .gtr), [.t 15, .c (.int .i64 0)]⟩ ::
 []))
(.cond (.t 16)
.skip
(.exit 0)))
(.block 1 (.seq (.ops (⟨(some 17), none, .p .mov, [.t 0]⟩ ::
 ⟨(some 18), none, .p .mov, [.t 1]⟩ ::
 ⟨(some 19), none, .p (.bin .rem), [.t 17, .t 18]⟩ ::
 ⟨(some 6), none, .p .mov, [.t 19]⟩ ::
 []))
(.seq (.ops (⟨(some 20), none, .p .mov, [.t 1]⟩ ::
 ⟨(some 0), none, .p .mov, [.t 20]⟩ ::
 []))
(.ops (⟨(some 21), none, .p .mov, [.t 6]⟩ ::
 ⟨(some 1), none, .p .mov, [.t 21]⟩ ::
 []))))))
def C19 : AFunc := ⟨23, [.tmp 4, .tmp 5],
(.seq (.ops (⟨(some 4), none, .p .mov, [.c (.int .i64 0)]⟩ ::
 ⟨(some 5), none, .p .mov, [.c (.int .i64 0)]⟩ ::
 []))
(.seq (.seq (.ops (⟨(some 7), none, .p .mov, [.t 0]⟩ ::
 ⟨(some 8), none, .call, [.c (.func (.func 30) [] []), .t 7]⟩ ::
 ⟨(some 9), none, .p .not, [.t 8]⟩ ::
 ⟨(some 10), none, .p .mov, [.t 9]⟩ ::
 ⟨(some 11), (some (10, false)), .p .mov, [.t 1]⟩ ::
 ⟨(some 12), (some (10, false)), .call, [.c (.func (.func 30) [] []), .t 11]⟩ ::
 ⟨(some 13), (some (10, false)), .p .not, [.t 12]⟩ ::
 ⟨(some 14), none, .p .pick, [.t 10, .c (.bool true), .t 13]⟩ ::
 []))
(.cond (.t 14)
(.seq (.ops (⟨(some 4), none, .p .mov, [.c (.int .i64 0)]⟩ ::
 ⟨(some 5), none, .p .mov, [.c (.int .i64 2)]⟩ ::
 []))
.ret)
.skip))
(.seq (.block 0 (.loop L_escapementref01_Gcd_0))
(.seq (.ops (⟨(some 22), none, .p .mov, [.t 0]⟩ ::
 ⟨(some 4), none, .p .mov, [.t 22]⟩ ::
 ⟨(some 5), none, .p .mov, [.c (.int .i64 0)]⟩ ::
 []))
.ret))))⟩
abbrev f_escapementref01_Gcd : Nat := 19
abbrev C_escapementref01_Gcd : AFunc := C19
def C20 : AFunc := ⟨144, [.tmp 0],
(.seq (.ops (⟨(some 0), none, .p .mov, [.c (.bool false)]⟩ ::
 []))
(.seq (.ops (⟨(some 12), none, .call, [.c (.func (.func 9) [] []), .c (.int .i64 1099511627776), .c (.int .i64 0)]⟩ ::
 ⟨(some 11), none, .p .mov, [.t 12]⟩ ::
 ⟨(some 13), none, .p (.ext 0), [.t 11]⟩ ::
 ⟨(some 14), none, .p (.ext 1), [.t 11]⟩ ::
 ⟨(some 1), none, .p .mov, [.t 13]⟩ ::
 ⟨(some 2), none, .p .mov, [.t 14]⟩ ::
 []))
(.seq (.ops (⟨(some 16), none, .call, [.c (.func (.func 9) [] []), .c (.int .i64 1099511627776), .c (.int .i64 1)]⟩ ::
 ⟨(some 15), none, .p .mov, [.t 16]⟩ ::
 ⟨(some 17), none, .p (.ext 0), [.t 15]⟩ ::
 ⟨(some 18), none, .p (.ext 1), [.t 15]⟩ ::
 ⟨(some 3), none, .p .mov, [.t 17]⟩ ::
 ⟨(some 4), none, .p .mov, [.t 18]⟩ ::
 []))
(.seq (.ops (⟨(some 20), none, .call, [.c (.func (.func 12) [] []), .c (.int .i64 3), .c (.int .i64 4)]⟩ ::
 ⟨(some 19), none, .p .mov, [.t 20]⟩ ::
 ⟨(some 21), none, .p (.ext 0), [.t 19]⟩ ::
 ⟨(some 22), none, .p (.ext 1), [.t 19]⟩ ::
 ⟨(some 5), none, .p .mov, [.t 21]⟩ ::
 ⟨(some 6), none, .p .mov, [.t 22]⟩ ::
 []))
(.seq (.ops (⟨(some 24), none, .call, [.c (.func (.func 14) [] []), .c (.int .i64 1048576), .c (.int .i64 1048576)]⟩ ::
 ⟨(some 23), none, .p .mov, [.t 24]⟩ ::
 ⟨(some 25), none, .p (.ext 0), [.t 23]⟩ ::
 ⟨(some 26), none, .p (.ext 1), [.t 23]⟩ ::
 ⟨(some 7), none, .p .mov, [.t 25]⟩ ::
 ⟨(some 8), none, .p .mov, [.t 26]⟩ ::
 []))
(.seq (.ops (⟨(some 28), none, .call, [.c (.func (.func 14) [] []), .c (.int .i64 1048577), .c (.int .i64 1048576)]⟩ ::
 ⟨(some 27), none, .p .mov, [.t 28]⟩ ::
 ⟨(some 29), none, .p (.ext 0), [.t 27]⟩ ::
 ⟨(some 30), none, .p (.ext 1), [.t 27]⟩ ::
 ⟨(some 9), none, .p .mov, [.t 29]⟩ ::
 ⟨(some 10), none, .p .mov, [.t 30]⟩ ::
 []))
(.seq (.seq (.ops (⟨(some 31), none, .p .mov, [.t 1]⟩ ::
 ⟨(some 32), none, .p .mov, [.t 2]⟩ ::
 ⟨(some 33), none, .call, [.c (.func (.func 32) [] []), .t 31, .t 32, .c (.int .i64 1099511627776), .c (.int .i64 0)]⟩ ::
 ⟨(some 34), none, .p .not, [.t 33]⟩ ::
 ⟨(some 35), none, .p .mov, [.t 34]⟩ ::
 ⟨(some 36), (some (35, false)), .p .mov, [.t 3]⟩ ::
 ⟨(some 37), (some (35, false)), .p .mov, [.t 4]⟩ ::
 ⟨(some 38), (some (35, false)), .call, [.c (.func (.func 32) [] []), .t 36, .t 37, .c (.int .i64 0), .c (.int .i64 10)]⟩ ::
 ⟨(some 39), (some (35, false)), .p .not, [.t 38]⟩ ::
 ⟨(some 40), none, .p .pick, [.t 35, .c (.bool true), .t 39]⟩ ::
 ⟨(some 41), none, .p .mov, [.t 40]⟩ ::
 ⟨(some 42), (some (41, false)), .p .mov, [.t 5]⟩ ::
 ⟨(some 43), (some (41, false)), .p .mov, [.t 6]⟩ ::
 ⟨(some 44), (some (41, false)), .call, [.c (.func (.func 32) [] []), .t 42, .t 43, .c (.int .i64 0), .c (.int .i64 2)]⟩ ::
 ⟨(some 45), (some (41, false)), .p .not, [.t 44]⟩ ::
 ⟨(some 46), none, .p .pick, [.t 41, .c (.bool true), .t 45]⟩ ::
 ⟨(some 47), none, .p .mov, [.t 46]⟩ ::
 ⟨(some 48), (some (47, false)), .p .mov, [.t 7]⟩ ::
 ⟨(some 49), (some (47, false)), .p .mov, [.t 8]⟩ ::
 ⟨(some 50), (some (47, false)), .call, [.c (.func (.func 32) [] []), .t 48, .t 49, .c (.int .i64 1099511627776), .c (.int .i64 0)]⟩ ::
 ⟨(some 51), (some (47, false)), .p .not, [.t 50]⟩ ::
 ⟨(some 52), none, .p .pick, [.t 47, .c (.bool true), .t 51]⟩ ::
 ⟨(some 53), none, .p .mov, [.t 52]⟩ ::
 ⟨(some 54), (some (53, false)), .p .mov, [.t 9]⟩ ::
 ⟨(some 55), (some (53, false)), .p .mov, [.t 10]⟩ ::
 ⟨(some 56), (some (53, false)), .call, [.c (.func (.func 32) [] []), .t 54, .t 55, .c (.int .i64 0), .c (.int .i64 10)]⟩ ::
 ⟨(some 57), (some (53, false)), .p .not, [.t 56]⟩ ::
 ⟨(some 58), none, .p .pick, [.t 53, .c (.bool true), .t 57]⟩ ::
 []))
(.cond (.t 58)
(.seq (.ops (⟨(some 0), none, .p .mov, [.c (.bool false)]⟩ ::
 []))
.ret)
.skip))
(.seq (.ops (⟨(some 60), none, .call, [.c (.func (.func 16) [] []), .c (.int .i64 7), .c (.int .i64 2)]⟩ ::
 ⟨(some 59), none, .p .mov, [.t 60]⟩ ::
 ⟨(some 61), none, .p (.ext 0), [.t 59]⟩ ::
 ⟨(some 62), none, .p (.ext 1), [.t 59]⟩ ::
 ⟨(some 1), none, .p .mov, [.t 61]⟩ ::
 ⟨(some 2), none, .p .mov, [.t 62]⟩ ::
 []))
(.seq (.ops (⟨(some 64), none, .call, [.c (.func (.func 16) [] []), .c (.int .i64 7), .c (.int .i64 0)]⟩ ::
 ⟨(some 63), none, .p .mov, [.t 64]⟩ ::
 ⟨(some 65), none, .p (.ext 0), [.t 63]⟩ ::
 ⟨(some 66), none, .p (.ext 1), [.t 63]⟩ ::
 ⟨(some 3), none, .p .mov, [.t 65]⟩ ::
 ⟨(some 4), none, .p .mov, [.t 66]⟩ ::
 []))
(.seq (.ops (⟨(some 68), none, .call, [.c (.func (.func 18) [] []), .c (.int .i64 12), .c (.int .i64 18)]⟩ ::
 ⟨(some 67), none, .p .mov, [.t 68]⟩ ::
 ⟨(some 69), none, .p (.ext 0), [.t 67]⟩ ::
 ⟨(some 70), none, .p (.ext 1), [.t 67]⟩ ::
 ⟨(some 5), none, .p .mov, [.t 69]⟩ ::
 ⟨(some 6), none, .p .mov, [.t 70]⟩ ::
 []))
(.seq (.ops (⟨(some 72), none, .call, [.c (.func (.func 18) [] []), .c (.int .i64 0), .c (.int .i64 5)]⟩ ::
 ⟨(some 71), none, .p .mov, [.t 72]⟩ ::
 ⟨(some 73), none, .p (.ext 0), [.t 71]⟩ ::
 ⟨(some 74), none, .p (.ext 1), [.t 71]⟩ ::
 ⟨(some 7), none, .p .mov, [.t 73]⟩ ::
 ⟨(some 8), none, .p .mov, [.t 74]⟩ ::
 []))
(.seq (.seq (.ops (⟨(some 75), none, .p .mov, [.t 1]⟩ ::
 ⟨(some 76), none, .p .mov, [.t 2]⟩ ::
 ⟨(some 77), none, .call, [.c (.func (.func 32) [] []), .t 75, .t 76, .c (.int .i64 3), .c (.int .i64 0)]⟩ ::
 ⟨(some 78), none, .p .not, [.t 77]⟩ ::
 ⟨(some 79), none, .p .mov, [.t 78]⟩ ::
 ⟨(some 80), (some (79, false)), .p .mov, [.t 3]⟩ ::
 ⟨(some 81), (some (79, false)), .p .mov, [.t 4]⟩ ::
 ⟨(some 82), (some (79, false)), .call, [.c (.func (.func 32) [] []), .t 80, .t 81, .c (.int .i64 0), .c (.int .i64 2)]⟩ ::
 ⟨(some 83), (some (79, false)), .p .not, [.t 82]⟩ ::
 ⟨(some 84), none, .p .pick, [.t 79, .c (.bool true), .t 83]⟩ ::
 ⟨(some 85), none, .p .mov, [.t 84]⟩ ::
 ⟨(some 86), (some (85, false)), .p .mov, [.t 5]⟩ ::
 ⟨(some 87), (some (85, false)), .p .mov, [.t 6]⟩ ::
 ⟨(some 88), (some (85, false)), .call, [.c (.func (.func 32) [] []), .t 86, .t 87, .c (.int .i64 6), .c (.int .i64 0)]⟩ ::
 ⟨(some 89), (some (85, false)), .p .not, [.t 88]⟩ ::
 ⟨(some 90), none, .p .pick, [.t 85, .c (.bool true), .t 89]⟩ ::
 ⟨(some 91), none, .p .mov, [.t 90]⟩ ::
 ⟨(some 92), (some (91, false)), .p .mov, [.t 7]⟩ ::
 ⟨(some 93), (some (91, false)), .p .mov, [.t 8]⟩ ::
 ⟨(some 94), (some (91, false)), .call, [.c (.func (.func 32) [] []), .t 92, .t 93, .c (.int .i64 5), .c (.int .i64 0)]⟩ ::
 ⟨(some 95), (some (91, false)), .p .not, [.t 94]⟩ ::
 ⟨(some 96), none, .p .pick, [.t 91, .c (.bool true), .t 95]⟩ ::
 []))
(.cond (.t 96)
(.seq (.ops (⟨(some 0), none, .p .mov, [.c (.bool false)]⟩ ::
 []))
.ret)
.skip))
(.seq (.ops (⟨(some 98), none, .a (.bslice [(.int .i64 0)] 3 1 [0, 1, 2]), [.c (.int .i64 4), .c (.int .i64 6), .c (.int .i64 10)]⟩ ::
 ⟨(some 99), none, .call, [.c (.func (.func 22) [] []), .c (.int .i64 100), .t 98]⟩ ::
 ⟨(some 97), none, .p .mov, [.t 99]⟩ ::
 ⟨(some 100), none, .p (.ext 0), [.t 97]⟩ ::
 ⟨(some 101), none, .p (.ext 1), [.t 97]⟩ ::
 ⟨(some 1), none, .p .mov, [.t 100]⟩ ::
 ⟨(some 2), none, .p .mov, [.t 101]⟩ ::
 []))
(.seq (.ops (⟨(some 103), none, .a (.bslice [(.int .i64 0)] 3 1 [0, 1, 2]), [.c (.int .i64 4), .c (.int .i64 6), .c (.int .i64 10)]⟩ ::
 ⟨(some 104), none, .call, [.c (.func (.func 22) [] []), .c (.int .i64 59), .t 103]⟩ ::
 ⟨(some 102), none, .p .mov, [.t 104]⟩ ::
 ⟨(some 105), none, .p (.ext 0), [.t 102]⟩ ::
 ⟨(some 106), none, .p (.ext 1), [.t 102]⟩ ::
 ⟨(some 3), none, .p .mov, [.t 105]⟩ ::
 ⟨(some 4), none, .p .mov, [.t 106]⟩ ::
 []))
(.seq (.ops (⟨(some 108), none, .call, [.c (.func (.func 22) [] []), .c (.int .i64 1), .c .nils]⟩ ::
 ⟨(some 107), none, .p .mov, [.t 108]⟩ ::
 ⟨(some 109), none, .p (.ext 0), [.t 107]⟩ ::
 ⟨(some 110), none, .p (.ext 1), [.t 107]⟩ ::
 ⟨(some 5), none, .p .mov, [.t 109]⟩ ::
 ⟨(some 6), none, .p .mov, [.t 110]⟩ ::
 []))
(.seq (.ops (⟨(some 112), none, .a (.bslice [(.int .i64 0)] 3 1 [0, 1, 2]), [.c (.int .i64 1), .c (.int .i64 2), .c (.int .i64 3)]⟩ ::
 ⟨(some 113), none, .call, [.c (.func (.func 24) [] []), .t 112]⟩ ::
 ⟨(some 111), none, .p .mov, [.t 113]⟩ ::
 ⟨(some 114), none, .p (.ext 0), [.t 111]⟩ ::
 ⟨(some 115), none, .p (.ext 1), [.t 111]⟩ ::
 ⟨(some 7), none, .p .mov, [.t 114]⟩ ::
 ⟨(some 8), none, .p .mov, [.t 115]⟩ ::
 []))
(.seq (.ops (⟨(some 117), none, .a (.bslice [(.int .i64 0)] 1 1 [0]), [.c (.int .i64 (-1))]⟩ ::
 ⟨(some 118), none, .call, [.c (.func (.func 24) [] []), .t 117]⟩ ::
 ⟨(some 116), none, .p .mov, [.t 118]⟩ ::
 ⟨(some 119), none, .p (.ext 0), [.t 116]⟩ ::
 ⟨(some 120), none, .p (.ext 1), [.t 116]⟩ ::
 ⟨(some 9), none, .p .mov, [.t 119]⟩ ::
 ⟨(some 10), none, .p .mov, [.t 120]⟩ ::
 []))
(.seq (.ops (⟨(some 121), none, .p .mov, [.t 1]⟩ ::
 ⟨(some 122), none, .p .mov, [.t 2]⟩ ::
 ⟨(some 123), none, .call, [.c (.func (.func 32) [] []), .t 121, .t 122, .c (.int .i64 60), .c (.int .i64 0)]⟩ ::
 ⟨(some 124), none, .p .mov, [.t 123]⟩ ::
 ⟨(some 125), (some (124, true)), .p .mov, [.t 3]⟩ ::
 ⟨(some 126), (some (124, true)), .p .mov, [.t 4]⟩ ::
 ⟨(some 127), (some (124, true)), .call, [.c (.func (.func 32) [] []), .t 125, .t 126, .c (.int .i64 0), .c (.int .i64 10)]⟩ ::
 ⟨(some 128), none, .p .pick, [.t 124, .t 127, .c (.bool false)]⟩ ::
 ⟨(some 129), none, .p .mov, [.t 128]⟩ ::
 ⟨(some 130), (some (129, true)), .p .mov, [.t 5]⟩ ::
 ⟨(some 131), (some (129, true)), .p .mov, [.t 6]⟩ ::
 ⟨(some 132), (some (129, true)), .call, [.c (.func (.func 32) [] []), .t 130, .t 131, .c (.int .i64 1), .c (.int .i64 0)]⟩ ::
 ⟨(some 133), none, .p .pick, [.t 129, .t 132, .c (.bool false)]⟩ ::
 ⟨(some 134), none, .p .mov, [.t 133]⟩ ::
 ⟨(some 135), (some (134, true)), .p .mov, [.t 7]⟩ ::
 ⟨(some 136), (some (134, true)), .p .mov, [.t 8]⟩ ::
 ⟨(some 137), (some (134, true)), .call, [.c (.func (.func 32) [] []), .t 135, .t 136, .c (.int .i64 6), .c (.int .i64 0)]⟩ ::
 ⟨(some 138), none, .p .pick, [.t 134, .t 137, .c (.bool false)]⟩ ::
 ⟨(some 139), none, .p .mov, [.t 138]⟩ ::
 ⟨(some 140), (some (139, true)), .p .mov, [.t 9]⟩ ::
 ⟨(some 141), (some (139, true)), .p .mov, [.t 10]⟩ ::
 ⟨(some 142), (some (139, true)), .call, [.c (.func (.func 32) [] []), .t 140, .t 141, .c (.int .i64 0), .c (.int .i64 2)]⟩ ::
 ⟨(some 143), none, .p .pick, [.t 139, .t 142, .c (.bool false)]⟩ ::
 ⟨(some 0), none, .p .mov, [.t 143]⟩ ::
 []))
.ret))))))))))))))))))⟩
abbrev f_escapementlaw01_works : Nat := 20
abbrev C_escapementlaw01_works : AFunc := C20
def C21 : AFunc := ⟨7, [.tmp 2],
(.seq (.ops (⟨(some 2), none, .p .mov, [.c .nils]⟩ ::
 []))
(.seq (.ops (⟨(some 3), none, .p .mov, [.c .nils]⟩ ::
 []))
(.seq (.ops (⟨(some 4), none, .p .mov, [.t 3]⟩ ::
 ⟨(some 5), none, .p .mov, [.t 0]⟩ ::
 ⟨(some 6), none, .e (.append 1 8), [.t 4, .t 5]⟩ ::
 ⟨(some 2), none, .p .mov, [.t 6]⟩ ::
 []))
.ret)))⟩
abbrev f_escapementref00_CopyInts : Nat := 21
abbrev C_escapementref00_CopyInts : AFunc := C21
def C22 : AFunc := ⟨53, [.tmp 4, .tmp 5],
(.seq (.ops (⟨(some 4), none, .p .mov, [.c (.int .i64 0)]⟩ ::
 ⟨(some 5), none, .p .mov, [.c (.int .i64 0)]⟩ ::
 []))
(.seq (.seq (.ops (⟨(some 7), none, .p .mov, [.t 0]⟩ ::
 ⟨(some 8), none, .a (.bslice [(.int .i64 0)] 1 1 [0]), [.t 7]⟩ ::
 ⟨(some 9), none, .call, [.c (.func (.func 28) [] []), .t 8]⟩ ::
 ⟨(some 10), none, .p .not, [.t 9]⟩ ::
 ⟨(some 11), none, .p .mov, [.t 10]⟩ ::
 ⟨(some 12), (some (11, false)), .p .mov, [.t 1]⟩ ::
 ⟨(some 13), (some (11, false)), .call, [.c (.func (.func 28) [] []), .t 12]⟩ ::
 ⟨(some 14), (some (11, false)), .p .not, [.t 13]⟩ ::
 ⟨(some 15), none, .p .pick, [.t 11, .c (.bool true), .t 14]⟩ ::
 ⟨(some 16), none, .p .mov, [.t 15]⟩ ::
 ⟨(some 17), (some (16, false)), .p .mov, [.t 1]⟩ ::
 ⟨(some 18), (some (16, false)), .call, [.c (.func (.func 33) [] []), .t 17, .c (.int .i64 0)]⟩ ::
 ⟨(some 19), none, .p .pick, [.t 16, .c (.bool true), .t 18]⟩ ::
 []))
(.cond (.t 19)
(.seq (.ops (⟨(some 4), none, .p .mov, [.c (.int .i64 0)]⟩ ::
 ⟨(some 5), none, .p .mov, [.c (.int .i64 2)]⟩ ::
 []))
.ret)
.skip))
(.seq (.ops (⟨(some 20), none, .p (.build [(.int .i64 0), (.int .i64 0)] [(0, 1)]), [.c (.int .i64 1)]⟩ ::
 ⟨(some 21), none, .a .box, [.t 20]⟩ ::
 ⟨(some 6), none, .p .mov, [.t 21]⟩ ::
 []))
(.seq (.ops (⟨(some 22), none, .p .mov, [.t 6]⟩ ::
 ⟨(some 23), none, .p (.mkfunc (.func 35) 1), [.t 22]⟩ ::
 ⟨(some 24), none, .p .mov, [.t 1]⟩ ::
 ⟨(some 25), none, .call, [.c (.func (.func 34) [] []), .t 23, .t 24]⟩ ::
 []))
(.seq (.seq (.ops (⟨(some 26), none, .p .mov, [.t 6]⟩ ::
 ⟨(some 27), none, .p .nilchk, [.t 26]⟩ ::
 ⟨(some 28), none, .p (.faddr 1), [.t 27]⟩ ::
 ⟨(some 29), none, .r .load1, [.t 28]⟩ ::
 ⟨(some 30), none, .p (.bin .eql), [.t 29, .c (.int .i64 0)]⟩ ::
 ⟨(some 31), none, .p .mov, [.t 30]⟩ ::
 ⟨(some 32), (some (31, true)), .p .mov, [.t 6]⟩ ::
 ⟨(some 33), (some (31, true)), .p .nilchk, [.t 32]⟩ ::
 ⟨(some 34), (some (31, true)), .p (.faddr 0), [.t 33]⟩ ::
 ⟨(some 35), (some (31, true)), .r .load1, [.t 34]⟩ ::
 ⟨(some 36), (some (31, true)), .p .mov, [.t 0]⟩ ::
 ⟨(some 37), (some (31, true)), .p (.bin .gtr), [.t 35, .t 36]⟩ ::
 ⟨(some 38), none, .p .pick, [.t 31, .t 37, .c (.bool false)]⟩ ::
 []))
(.cond (.t 38)
(.ops (⟨(some 39), none, .p .mov, [.t 6]⟩ ::
 ⟨(some 40), none, .p .nilchk, [.t 39]⟩ ::
 ⟨(some 41), none, .p (.faddr 1), [.t 40]⟩ ::
 ⟨none, none, .e (.store 1), [.t 41, .c (.int .i64 10)]⟩ ::
 []))
.skip))
(.seq (.dops (⟨(some 42), none, .p .mov, [.t 6]⟩ ::
 ⟨(some 43), none, .p .nilchk, [.t 42]⟩ ::
 ⟨(some 44), none, .p (.faddr 0), [.t 43]⟩ ::
 ⟨(some 45), none, .r .load1, [.t 44]⟩ ::
 ⟨(some 46), none, .p .mov, [.t 6]⟩ ::
 ⟨(some 47), none, .p .nilchk, [.t 46]⟩ ::
 ⟨(some 48), none, .p (.faddr 1), [.t 47]⟩ ::
 ⟨(some 49), none, .r .load1, [.t 48]⟩ ::
 ⟨(some 50), none, .call, [.c (.func (.func 29) [] []), .t 45, .t 49]⟩ ::
 ⟨(some 51), none, .p (.ext 0), [.t 50]⟩ ::
 ⟨(some 52), none, .p (.ext 1), [.t 50]⟩ ::
 ⟨(some 4), none, .p .mov, [.t 51]⟩ ::
 ⟨(some 5), none, .p .mov, [.t 52]⟩ ::
 []) ([] :: [] :: [] :: [] :: [] :: [] :: [] :: [] :: [] :: [] :: [] :: [] :: [] :: []))
.ret))))))⟩
abbrev f_ticks_Lcm : Nat := 22
abbrev C_ticks_Lcm : AFunc := C22
def L_escapementref01_Lcm_0 : AC := (.seq (.seq (.ops (⟨(some 16), none, .p .mov, [.t 6]⟩ ::
 ⟨(some 17), none, .p .mov, [.t 1]⟩ ::
 ⟨(some 18), none, .p .lenS, [.t 17]⟩ ::
 ⟨(some 19), none, .p (.bin .lss), [.t 16, .t 18]⟩ ::
 []))
(.cond (.t 19)
.skip
(.exit 0)))
(.seq (.block 1 (.seq (.ops (⟨(some 22), none, .p .mov, [.t 1]⟩ ::
 ⟨(some 23), none, .p .mov, [.t 6]⟩ ::
 ⟨(some 24), none, .p (.iaddrS 1), [.t 22, .t 23]⟩ ::
 ⟨(some 25), none, .r .load1, [.t 24]⟩ ::
 ⟨(some 26), none, .call, [.c (.func (.func 30) [] []), .t 25]⟩ ::
 ⟨(some 27), none, .p .not, [.t 26]⟩ ::
 ⟨(some 28), none, .p .mov, [.t 27]⟩ ::
 ⟨(some 29), (some (28, false)), .p .mov, [.t 1]⟩ ::
 ⟨(some 30), (some (28, false)), .p .mov, [.t 6]⟩ ::
 ⟨(some 31), (some (28, false)), .p (.iaddrS 1), [.t 29, .t 30]⟩ ::
 ⟨(some 32), (some (28, false)), .r .load1, [.t 31]⟩ ::
 ⟨(some 33), (some (28, false)), .p (.bin .eql), [.t 32, .c (.int .i64 0)]⟩ ::
 ⟨(some 34), none, .p .pick, [.t 28, .c (.bool true), .t 33]⟩ ::
 []))
(.cond (.t 34)
(.seq (.ops (⟨(some 4), none, .p .mov, [.c (.int .i64 0)]⟩ ::
 ⟨(some 5), none, .p .mov, [.c (.int .i64 2)]⟩ ::
 []))
.ret)
.skip)))
(.ops (⟨(some 20), none, .p .mov, [.t 6]⟩ ::
 ⟨(some 21), none, .p (.bin .add), [.t 20, .c (.int .i64 1)]⟩ ::
 ⟨(some 6), none, .p .mov, [.t 21]⟩ ::
 []))))
def L_escapementref01_Lcm_1 : AC := (.seq (.seq (.ops (⟨(some 35), none, .p .mov, [.t 8]⟩ ::
 ⟨(some 36), none, .p .mov, [.t 1]⟩ ::
 ⟨(some 37), none, .p .lenS, [.t 36]⟩ ::
 ⟨(some 38), none, .p (.bin .lss), [.t 35, .t 37]⟩ ::
 []))
(.cond (.t 38)
.skip
(.exit 2)))
(.seq (.block 3 (.seq (.ops (⟨(some 42), none, .p .mov, [.t 7]⟩ ::
 ⟨(some 43), none, .p .mov, [.t 1]⟩ ::
 ⟨(some 44), none, .p .mov, [.t 8]⟩ ::
 ⟨(some 45), none, .p (.iaddrS 1), [.t 43, .t 44]⟩ ::
 ⟨(some 46), none, .r .load1, [.t 45]⟩ ::
 ⟨(some 47), none, .call, [.c (.func (.func 19) [] []), .t 42, .t 46]⟩ ::
 ⟨(some 41), none, .p .mov, [.t 47]⟩ ::
 ⟨(some 48), none, .p (.ext 0), [.t 41]⟩ ::
 ⟨(some 49), none, .p (.ext 1), [.t 41]⟩ ::
 ⟨(some 9), none, .p .mov, [.t 48]⟩ ::
 ⟨(some 10), none, .p .mov, [.t 49]⟩ ::
 []))
(.seq (.ops (⟨(some 51), none, .p .mov, [.t 7]⟩ ::
 ⟨(some 52), none, .p .mov, [.t 1]⟩ ::
 ⟨(some 53), none, .p .mov, [.t 8]⟩ ::
 ⟨(some 54), none, .p (.iaddrS 1), [.t 52, .t 53]⟩ ::
 ⟨(some 55), none, .r .load1, [.t 54]⟩ ::
 ⟨(some 56), none, .p .mov, [.t 9]⟩ ::
 ⟨(some 57), none, .p (.bin .quo), [.t 55, .t 56]⟩ ::
 ⟨(some 58), none, .call, [.c (.func (.func 15) [] []), .t 51, .t 57]⟩ ::
 ⟨(some 50), none, .p .mov, [.t 58]⟩ ::
 ⟨(some 59), none, .p (.ext 0), [.t 50]⟩ ::
 ⟨(some 60), none, .p (.ext 1), [.t 50]⟩ ::
 ⟨(some 11), none, .p .mov, [.t 59]⟩ ::
 ⟨(some 12), none, .p .mov, [.t 60]⟩ ::
 []))
(.seq (.seq (.ops (⟨(some 61), none, .p .mov, [.t 12]⟩ ::
 ⟨(some 62), none, .p (.bin .neq), [.t 61, .c (.int .i64 0)]⟩ ::
 []))
(.cond (.t 62)
(.seq (.ops (⟨(some 4), none, .p .mov, [.c (.int .i64 0)]⟩ ::
 ⟨(some 5), none, .p .mov, [.c (.int .i64 10)]⟩ ::
 []))
.ret)
.skip))
(.ops (⟨(some 63), none, .p .mov, [.t 11]⟩ ::
 ⟨(some 7), none, .p .mov, [.t 63]⟩ ::
 []))))))
(.ops (⟨(some 39), none, .p .mov, [.t 8]⟩ ::
 ⟨(some 40), none, .p (.bin .add), [.t 39, .c (.int .i64 1)]⟩ ::
 ⟨(some 8), none, .p .mov, [.t 40]⟩ ::
 []))))
def C23 : AFunc := ⟨68, [.tmp 4, .tmp 5],
(.seq (.ops (⟨(some 4), none, .p .mov, [.c (.int .i64 0)]⟩ ::
 ⟨(some 5), none, .p .mov, [.c (.int .i64 0)]⟩ ::
 []))
(.seq (.seq (.ops (⟨(some 13), none, .p .mov, [.t 0]⟩ ::
 ⟨(some 14), none, .call, [.c (.func (.func 30) [] []), .t 13]⟩ ::
 ⟨(some 15), none, .p .not, [.t 14]⟩ ::
 []))
(.cond (.t 15)
(.seq (.ops (⟨(some 4), none, .p .mov, [.c (.int .i64 0)]⟩ ::
 ⟨(some 5), none, .p .mov, [.c (.int .i64 2)]⟩ ::
 []))
.ret)
.skip))
(.seq (.seq (.ops (⟨(some 6), none, .p .mov, [.c (.int .i64 0)]⟩ ::
 []))
(.block 0 (.loop L_escapementref01_Lcm_0)))
(.seq (.ops (⟨(some 7), none, .p .mov, [.c (.int .i64 1)]⟩ ::
 []))
(.seq (.seq (.ops (⟨(some 8), none, .p .mov, [.c (.int .i64 0)]⟩ ::
 []))
(.block 2 (.loop L_escapementref01_Lcm_1)))
(.seq (.seq (.ops (⟨(some 64), none, .p .mov, [.t 7]⟩ ::
 ⟨(some 65), none, .p .mov, [.t 0]⟩ ::
 ⟨(some 66), none, .p (.bin .gtr), [.t 64, .t 65]⟩ ::
 []))
(.cond (.t 66)
(.seq (.ops (⟨(some 4), none, .p .mov, [.c (.int .i64 0)]⟩ ::
 ⟨(some 5), none, .p .mov, [.c (.int .i64 10)]⟩ ::
 []))
.ret)
.skip))
(.seq (.ops (⟨(some 67), none, .p .mov, [.t 7]⟩ ::
 ⟨(some 4), none, .p .mov, [.t 67]⟩ ::
 ⟨(some 5), none, .p .mov, [.c (.int .i64 0)]⟩ ::
 []))
.ret)))))))⟩
abbrev f_escapementref01_Lcm : Nat := 23
abbrev C_escapementref01_Lcm : AFunc := C23
def C24 : AFunc := ⟨25, [.tmp 2, .tmp 3],
(.seq (.ops (⟨(some 2), none, .p .mov, [.c (.int .i64 0)]⟩ ::
 ⟨(some 3), none, .p .mov, [.c (.int .i64 0)]⟩ ::
 []))
(.seq (.seq (.ops (⟨(some 5), none, .p .mov, [.t 0]⟩ ::
 ⟨(some 6), none, .call, [.c (.func (.func 28) [] []), .t 5]⟩ ::
 ⟨(some 7), none, .p .not, [.t 6]⟩ ::
 []))
(.cond (.t 7)
(.seq (.ops (⟨(some 2), none, .p .mov, [.c (.int .i64 0)]⟩ ::
 ⟨(some 3), none, .p .mov, [.c (.int .i64 2)]⟩ ::
 []))
.ret)
.skip))
(.seq (.ops (⟨(some 8), none, .p (.build [(.int .i64 0), (.int .i64 0)] []), []⟩ ::
 ⟨(some 9), none, .a .box, [.t 8]⟩ ::
 ⟨(some 4), none, .p .mov, [.t 9]⟩ ::
 []))
(.seq (.ops (⟨(some 10), none, .p .mov, [.t 4]⟩ ::
 ⟨(some 11), none, .p (.mkfunc (.func 36) 1), [.t 10]⟩ ::
 ⟨(some 12), none, .p .mov, [.t 0]⟩ ::
 ⟨(some 13), none, .call, [.c (.func (.func 34) [] []), .t 11, .t 12]⟩ ::
 []))
(.seq (.dops (⟨(some 14), none, .p .mov, [.t 4]⟩ ::
 ⟨(some 15), none, .p .nilchk, [.t 14]⟩ ::
 ⟨(some 16), none, .p (.faddr 0), [.t 15]⟩ ::
 ⟨(some 17), none, .r .load1, [.t 16]⟩ ::
 ⟨(some 18), none, .p .mov, [.t 4]⟩ ::
 ⟨(some 19), none, .p .nilchk, [.t 18]⟩ ::
 ⟨(some 20), none, .p (.faddr 1), [.t 19]⟩ ::
 ⟨(some 21), none, .r .load1, [.t 20]⟩ ::
 ⟨(some 22), none, .call, [.c (.func (.func 29) [] []), .t 17, .t 21]⟩ ::
 ⟨(some 23), none, .p (.ext 0), [.t 22]⟩ ::
 ⟨(some 24), none, .p (.ext 1), [.t 22]⟩ ::
 ⟨(some 2), none, .p .mov, [.t 23]⟩ ::
 ⟨(some 3), none, .p .mov, [.t 24]⟩ ::
 []) ([] :: [] :: [] :: [] :: [] :: [] :: [] :: [] :: [] :: [] :: [] :: [] :: [] :: []))
.ret)))))⟩
abbrev f_ticks_Sum : Nat := 24
abbrev C_ticks_Sum : AFunc := C24
def L_escapementref01_Sum_0 : AC := (.seq (.seq (.ops (⟨(some 9), none, .p .mov, [.t 4]⟩ ::
 ⟨(some 10), none, .p .mov, [.t 0]⟩ ::
 ⟨(some 11), none, .p .lenS, [.t 10]⟩ ::
 ⟨(some 12), none, .p (.bin .lss), [.t 9, .t 11]⟩ ::
 []))
(.cond (.t 12)
.skip
(.exit 0)))
(.seq (.block 1 (.seq (.ops (⟨(some 15), none, .p .mov, [.t 0]⟩ ::
 ⟨(some 16), none, .p .mov, [.t 4]⟩ ::
 ⟨(some 17), none, .p (.iaddrS 1), [.t 15, .t 16]⟩ ::
 ⟨(some 18), none, .r .load1, [.t 17]⟩ ::
 ⟨(some 19), none, .call, [.c (.func (.func 30) [] []), .t 18]⟩ ::
 ⟨(some 20), none, .p .not, [.t 19]⟩ ::
 []))
(.cond (.t 20)
(.seq (.ops (⟨(some 2), none, .p .mov, [.c (.int .i64 0)]⟩ ::
 ⟨(some 3), none, .p .mov, [.c (.int .i64 2)]⟩ ::
 []))
.ret)
.skip)))
(.ops (⟨(some 13), none, .p .mov, [.t 4]⟩ ::
 ⟨(some 14), none, .p (.bin .add), [.t 13, .c (.int .i64 1)]⟩ ::
 ⟨(some 4), none, .p .mov, [.t 14]⟩ ::
 []))))
def L_escapementref01_Sum_1 : AC := (.seq (.seq (.ops (⟨(some 21), none, .p .mov, [.t 6]⟩ ::
 ⟨(some 22), none, .p .mov, [.t 0]⟩ ::
 ⟨(some 23), none, .p .lenS, [.t 22]⟩ ::
 ⟨(some 24), none, .p (.bin .lss), [.t 21, .t 23]⟩ ::
 []))
(.cond (.t 24)
.skip
(.exit 2)))
(.seq (.block 3 (.seq (.ops (⟨(some 28), none, .p .mov, [.t 5]⟩ ::
 ⟨(some 29), none, .p .mov, [.t 0]⟩ ::
 ⟨(some 30), none, .p .mov, [.t 6]⟩ ::
 ⟨(some 31), none, .p (.iaddrS 1), [.t 29, .t 30]⟩ ::
 ⟨(some 32), none, .r .load1, [.t 31]⟩ ::
 ⟨(some 33), none, .call, [.c (.func (.func 10) [] []), .t 28, .t 32]⟩ ::
 ⟨(some 27), none, .p .mov, [.t 33]⟩ ::
 ⟨(some 34), none, .p (.ext 0), [.t 27]⟩ ::
 ⟨(some 35), none, .p (.ext 1), [.t 27]⟩ ::
 ⟨(some 7), none, .p .mov, [.t 34]⟩ ::
 ⟨(some 8), none, .p .mov, [.t 35]⟩ ::
 []))
(.seq (.seq (.ops (⟨(some 36), none, .p .mov, [.t 8]⟩ ::
 ⟨(some 37), none, .p (.bin .neq), [.t 36, .c (.int .i64 0)]⟩ ::
 []))
(.cond (.t 37)
(.seq (.ops (⟨(some 38), none, .p .mov, [.t 8]⟩ ::
 ⟨(some 2), none, .p .mov, [.c (.int .i64 0)]⟩ ::
 ⟨(some 3), none, .p .mov, [.t 38]⟩ ::
 []))
.ret)
.skip))
(.ops (⟨(some 39), none, .p .mov, [.t 7]⟩ ::
 ⟨(some 5), none, .p .mov, [.t 39]⟩ ::
 [])))))
(.ops (⟨(some 25), none, .p .mov, [.t 6]⟩ ::
 ⟨(some 26), none, .p (.bin .add), [.t 25, .c (.int .i64 1)]⟩ ::
 ⟨(some 6), none, .p .mov, [.t 26]⟩ ::
 []))))
def C25 : AFunc := ⟨41, [.tmp 2, .tmp 3],
(.seq (.ops (⟨(some 2), none, .p .mov, [.c (.int .i64 0)]⟩ ::
 ⟨(some 3), none, .p .mov, [.c (.int .i64 0)]⟩ ::
 []))
(.seq (.seq (.ops (⟨(some 4), none, .p .mov, [.c (.int .i64 0)]⟩ ::
 []))
(.block 0 (.loop L_escapementref01_Sum_0)))
(.seq (.ops (⟨(some 5), none, .p .mov, [.c (.int .i64 0)]⟩ ::
 []))
(.seq (.seq (.ops (⟨(some 6), none, .p .mov, [.c (.int .i64 0)]⟩ ::
 []))
(.block 2 (.loop L_escapementref01_Sum_1)))
(.seq (.ops (⟨(some 40), none, .p .mov, [.t 5]⟩ ::
 ⟨(some 2), none, .p .mov, [.t 40]⟩ ::
 ⟨(some 3), none, .p .mov, [.c (.int .i64 0)]⟩ ::
 []))
.ret)))))⟩
abbrev f_escapementref01_Sum : Nat := 25
abbrev C_escapementref01_Sum : AFunc := C25
def L_escapementref00_EqInts_0 : AC := (.seq (.seq (.ops (⟨(some 11), none, .p .mov, [.t 5]⟩ ::
 ⟨(some 12), none, .p .mov, [.t 0]⟩ ::
 ⟨(some 13), none, .p .lenS, [.t 12]⟩ ::
 ⟨(some 14), none, .p (.bin .lss), [.t 11, .t 13]⟩ ::
 []))
(.cond (.t 14)
.skip
(.exit 0)))
(.seq (.block 1 (.seq (.dops (⟨(some 17), none, .p .mov, [.t 0]⟩ ::
 ⟨(some 18), none, .p .mov, [.t 5]⟩ ::
 ⟨(some 19), none, .p (.iaddrS 1), [.t 17, .t 18]⟩ ::
 ⟨(some 20), none, .r .load1, [.t 19]⟩ ::
 ⟨(some 21), none, .p .mov, [.t 1]⟩ ::
 ⟨(some 22), none, .p .mov, [.t 5]⟩ ::
 ⟨(some 23), none, .p (.iaddrS 1), [.t 21, .t 22]⟩ ::
 ⟨(some 24), none, .r .load1, [.t 23]⟩ ::
 ⟨(some 25), none, .p (.bin .neq), [.t 20, .t 24]⟩ ::
 []) ([] :: [] :: [] :: [] :: [] :: [] :: [] :: [] :: [] :: []))
(.cond (.t 25)
(.seq (.ops (⟨(some 4), none, .p .mov, [.c (.bool false)]⟩ ::
 []))
.ret)
.skip)))
(.ops (⟨(some 15), none, .p .mov, [.t 5]⟩ ::
 ⟨(some 16), none, .p (.bin .add), [.t 15, .c (.int .i64 1)]⟩ ::
 ⟨(some 5), none, .p .mov, [.t 16]⟩ ::
 []))))
def C26 : AFunc := ⟨26, [.tmp 4],
(.seq (.ops (⟨(some 4), none, .p .mov, [.c (.bool false)]⟩ ::
 []))
(.seq (.seq (.ops (⟨(some 6), none, .p .mov, [.t 0]⟩ ::
 ⟨(some 7), none, .p .lenS, [.t 6]⟩ ::
 ⟨(some 8), none, .p .mov, [.t 1]⟩ ::
 ⟨(some 9), none, .p .lenS, [.t 8]⟩ ::
 ⟨(some 10), none, .p (.bin .neq), [.t 7, .t 9]⟩ ::
 []))
(.cond (.t 10)
(.seq (.ops (⟨(some 4), none, .p .mov, [.c (.bool false)]⟩ ::
 []))
.ret)
.skip))
(.seq (.seq (.ops (⟨(some 5), none, .p .mov, [.c (.int .i64 0)]⟩ ::
 []))
(.block 0 (.loop L_escapementref00_EqInts_0)))
(.seq (.ops (⟨(some 4), none, .p .mov, [.c (.bool true)]⟩ ::
 []))
.ret))))⟩
abbrev f_escapementref00_EqInts : Nat := 26
abbrev C_escapementref00_EqInts : AFunc := C26
def C27 : AFunc := ⟨14, [.tmp 4],
(.seq (.ops (⟨(some 4), none, .p .mov, [.c (.int .i64 0)]⟩ ::
 []))
(.seq (.ops (⟨(some 5), none, .p .mov, [.t 0]⟩ ::
 ⟨(some 6), none, .p .mov, [.t 1]⟩ ::
 ⟨(some 7), none, .p (.bin .rem), [.t 5, .t 6]⟩ ::
 ⟨(some 0), none, .p .mov, [.t 7]⟩ ::
 []))
(.seq (.seq (.ops (⟨(some 8), none, .p .mov, [.t 0]⟩ ::
 ⟨(some 9), none, .p (.bin .lss), [.t 8, .c (.int .i64 0)]⟩ ::
 []))
(.cond (.t 9)
(.ops (⟨(some 10), none, .p .mov, [.t 0]⟩ ::
 ⟨(some 11), none, .p .mov, [.t 1]⟩ ::
 ⟨(some 12), none, .p (.bin .add), [.t 10, .t 11]⟩ ::
 ⟨(some 0), none, .p .mov, [.t 12]⟩ ::
 []))
.skip))
(.seq (.ops (⟨(some 13), none, .p .mov, [.t 0]⟩ ::
 ⟨(some 4), none, .p .mov, [.t 13]⟩ ::
 []))
.ret))))⟩
abbrev f_escapementref00_Bring : Nat := 27
abbrev C_escapementref00_Bring : AFunc := C27
def L_ticks_tick_0 : AC := (.seq (.ops (⟨(some 8), none, .p (.bin .lss), [.t 7, .t 6]⟩ ::
 []))
(.seq (.cond (.t 8)
.skip
(.exit 0))
(.seq (.block 1 (.seq (.ops (⟨(some 9), none, .p (.iaddrS 1), [.t 5, .t 7]⟩ ::
 ⟨(some 10), none, .r .load1, [.t 9]⟩ ::
 ⟨(some 4), none, .p .mov, [.t 10]⟩ ::
 []))
(.seq (.ops (⟨(some 11), none, .p .mov, [.t 4]⟩ ::
 ⟨(some 12), none, .p (.bin .lss), [.t 11, .c (.int .i64 0)]⟩ ::
 ⟨(some 13), none, .p .mov, [.t 12]⟩ ::
 ⟨(some 14), (some (13, false)), .p .mov, [.t 4]⟩ ::
 ⟨(some 15), (some (13, false)), .p (.bin .gtr), [.t 14, .c (.int .i64 1099511627776)]⟩ ::
 ⟨(some 16), none, .p .pick, [.t 13, .c (.bool true), .t 15]⟩ ::
 []))
(.cond (.t 16)
(.seq (.ops (⟨(some 2), none, .p .mov, [.c (.bool false)]⟩ ::
 []))
.ret)
.skip))))
(.ops (⟨(some 17), none, .p (.bin .add), [.t 7, .c (.int .i64 1)]⟩ ::
 ⟨(some 7), none, .p .mov, [.t 17]⟩ ::
 [])))))
def C28 : AFunc := ⟨18, [.tmp 2],
(.seq (.ops (⟨(some 2), none, .p .mov, [.c (.bool false)]⟩ ::
 []))
(.seq (.seq (.ops (⟨(some 5), none, .p .mov, [.t 0]⟩ ::
 ⟨(some 6), none, .p .lenS, [.t 5]⟩ ::
 ⟨(some 7), none, .p .mov, [.c (.int .i64 0)]⟩ ::
 []))
(.block 0 (.loop L_ticks_tick_0)))
(.seq (.ops (⟨(some 2), none, .p .mov, [.c (.bool true)]⟩ ::
 []))
.ret)))⟩
abbrev f_ticks_tick : Nat := 28
abbrev C_ticks_tick : AFunc := C28
def C29 : AFunc := ⟨16, [.tmp 4, .tmp 5],
(.seq (.ops (⟨(some 4), none, .p .mov, [.c (.int .i64 0)]⟩ ::
 ⟨(some 5), none, .p .mov, [.c (.int .i64 0)]⟩ ::
 []))
(.seq (.seq (.ops (⟨(some 6), none, .p .mov, [.t 1]⟩ ::
 ⟨(some 7), none, .p (.bin .eql), [.t 6, .c (.int .i64 0)]⟩ ::
 ⟨(some 8), none, .p .mov, [.t 7]⟩ ::
 ⟨(some 9), (some (8, true)), .p .mov, [.t 0]⟩ ::
 ⟨(some 10), (some (8, true)), .p (.bin .gtr), [.t 9, .c (.int .i64 1099511627776)]⟩ ::
 ⟨(some 11), none, .p .pick, [.t 8, .t 10, .c (.bool false)]⟩ ::
 []))
(.cond (.t 11)
(.ops (⟨(some 1), none, .p .mov, [.c (.int .i64 10)]⟩ ::
 []))
.skip))
(.seq (.seq (.ops (⟨(some 12), none, .p .mov, [.t 1]⟩ ::
 ⟨(some 13), none, .p (.bin .neq), [.t 12, .c (.int .i64 0)]⟩ ::
 []))
(.cond (.t 13)
(.seq (.ops (⟨(some 14), none, .p .mov, [.t 1]⟩ ::
 ⟨(some 4), none, .p .mov, [.c (.int .i64 0)]⟩ ::
 ⟨(some 5), none, .p .mov, [.t 14]⟩ ::
 []))
.ret)
.skip))
(.seq (.ops (⟨(some 15), none, .p .mov, [.t 0]⟩ ::
 ⟨(some 4), none, .p .mov, [.t 15]⟩ ::
 ⟨(some 5), none, .p .mov, [.c (.int .i64 0)]⟩ ::
 []))
.ret))))⟩
abbrev f_ticks_told : Nat := 29
abbrev C_ticks_told : AFunc := C29
def C30 : AFunc := ⟨9, [.tmp 2],
(.seq (.ops (⟨(some 2), none, .p .mov, [.c (.bool false)]⟩ ::
 []))
(.seq (.ops (⟨(some 3), none, .p .mov, [.t 0]⟩ ::
 ⟨(some 4), none, .p (.bin .geq), [.t 3, .c (.int .i64 0)]⟩ ::
 ⟨(some 5), none, .p .mov, [.t 4]⟩ ::
 ⟨(some 6), (some (5, true)), .p .mov, [.t 0]⟩ ::
 ⟨(some 7), (some (5, true)), .p (.bin .leq), [.t 6, .c (.int .i64 1099511627776)]⟩ ::
 ⟨(some 8), none, .p .pick, [.t 5, .t 7, .c (.bool false)]⟩ ::
 ⟨(some 2), none, .p .mov, [.t 8]⟩ ::
 []))
.ret))⟩
abbrev f_escapementref01_tick : Nat := 30
abbrev C_escapementref01_tick : AFunc := C30
def C31 : AFunc := ⟨51, [.tmp 4, .tmp 5],
(.seq (.ops (⟨(some 4), none, .p .mov, [.c (.int .u64 0)]⟩ ::
 ⟨(some 5), none, .p .mov, [.c (.int .u64 0)]⟩ ::
 []))
(.seq (.ops (⟨(some 14), none, .p .mov, [.t 0]⟩ ::
 ⟨(some 15), none, .p (.bin .and), [.t 14, .c (.int .u64 4294967295)]⟩ ::
 ⟨(some 6), none, .p .mov, [.t 15]⟩ ::
 []))
(.seq (.ops (⟨(some 16), none, .p .mov, [.t 0]⟩ ::
 ⟨(some 17), none, .p (.bin .shr), [.t 16, .c (.int .u64 32)]⟩ ::
 ⟨(some 7), none, .p .mov, [.t 17]⟩ ::
 []))
(.seq (.ops (⟨(some 18), none, .p .mov, [.t 1]⟩ ::
 ⟨(some 19), none, .p (.bin .and), [.t 18, .c (.int .u64 4294967295)]⟩ ::
 ⟨(some 8), none, .p .mov, [.t 19]⟩ ::
 []))
(.seq (.ops (⟨(some 20), none, .p .mov, [.t 1]⟩ ::
 ⟨(some 21), none, .p (.bin .shr), [.t 20, .c (.int .u64 32)]⟩ ::
 ⟨(some 9), none, .p .mov, [.t 21]⟩ ::
 []))
(.seq (.ops (⟨(some 22), none, .p .mov, [.t 6]⟩ ::
 ⟨(some 23), none, .p .mov, [.t 8]⟩ ::
 ⟨(some 24), none, .p (.bin .mul), [.t 22, .t 23]⟩ ::
 ⟨(some 10), none, .p .mov, [.t 24]⟩ ::
 []))
(.seq (.ops (⟨(some 25), none, .p .mov, [.t 7]⟩ ::
 ⟨(some 26), none, .p .mov, [.t 8]⟩ ::
 ⟨(some 27), none, .p (.bin .mul), [.t 25, .t 26]⟩ ::
 ⟨(some 28), none, .p .mov, [.t 10]⟩ ::
 ⟨(some 29), none, .p (.bin .shr), [.t 28, .c (.int .u64 32)]⟩ ::
 ⟨(some 30), none, .p (.bin .add), [.t 27, .t 29]⟩ ::
 ⟨(some 11), none, .p .mov, [.t 30]⟩ ::
 []))
(.seq (.ops (⟨(some 31), none, .p .mov, [.t 11]⟩ ::
 ⟨(some 32), none, .p (.bin .and), [.t 31, .c (.int .u64 4294967295)]⟩ ::
 ⟨(some 12), none, .p .mov, [.t 32]⟩ ::
 []))
(.seq (.ops (⟨(some 33), none, .p .mov, [.t 11]⟩ ::
 ⟨(some 34), none, .p (.bin .shr), [.t 33, .c (.int .u64 32)]⟩ ::
 ⟨(some 13), none, .p .mov, [.t 34]⟩ ::
 []))
(.seq (.ops (⟨(some 35), none, .p .mov, [.t 12]⟩ ::
 ⟨(some 36), none, .p .mov, [.t 6]⟩ ::
 ⟨(some 37), none, .p .mov, [.t 9]⟩ ::
 ⟨(some 38), none, .p (.bin .mul), [.t 36, .t 37]⟩ ::
 ⟨(some 39), none, .p (.bin .add), [.t 35, .t 38]⟩ ::
 ⟨(some 12), none, .p .mov, [.t 39]⟩ ::
 []))
(.seq (.ops (⟨(some 40), none, .p .mov, [.t 7]⟩ ::
 ⟨(some 41), none, .p .mov, [.t 9]⟩ ::
 ⟨(some 42), none, .p (.bin .mul), [.t 40, .t 41]⟩ ::
 ⟨(some 43), none, .p .mov, [.t 13]⟩ ::
 ⟨(some 44), none, .p (.bin .add), [.t 42, .t 43]⟩ ::
 ⟨(some 45), none, .p .mov, [.t 12]⟩ ::
 ⟨(some 46), none, .p (.bin .shr), [.t 45, .c (.int .u64 32)]⟩ ::
 ⟨(some 47), none, .p (.bin .add), [.t 44, .t 46]⟩ ::
 ⟨(some 4), none, .p .mov, [.t 47]⟩ ::
 []))
(.seq (.ops (⟨(some 48), none, .p .mov, [.t 0]⟩ ::
 ⟨(some 49), none, .p .mov, [.t 1]⟩ ::
 ⟨(some 50), none, .p (.bin .mul), [.t 48, .t 49]⟩ ::
 ⟨(some 5), none, .p .mov, [.t 50]⟩ ::
 []))
.ret))))))))))))⟩
abbrev f_math_bits_Mul64 : Nat := 31
abbrev C_math_bits_Mul64 : AFunc := C31
def C32 : AFunc := ⟨17, [.tmp 8],
(.seq (.ops (⟨(some 8), none, .p .mov, [.c (.bool false)]⟩ ::
 []))
(.seq (.ops (⟨(some 9), none, .p .mov, [.t 0]⟩ ::
 ⟨(some 10), none, .p .mov, [.t 2]⟩ ::
 ⟨(some 11), none, .p (.bin .eql), [.t 9, .t 10]⟩ ::
 ⟨(some 12), none, .p .mov, [.t 11]⟩ ::
 ⟨(some 13), (some (12, true)), .p .mov, [.t 1]⟩ ::
 ⟨(some 14), (some (12, true)), .p .mov, [.t 3]⟩ ::
 ⟨(some 15), (some (12, true)), .p (.bin .eql), [.t 13, .t 14]⟩ ::
 ⟨(some 16), none, .p .pick, [.t 12, .t 15, .c (.bool false)]⟩ ::
 ⟨(some 8), none, .p .mov, [.t 16]⟩ ::
 []))
.ret))⟩
abbrev f_escapementlaw01_is : Nat := 32
abbrev C_escapementlaw01_is : AFunc := C32
def C33 : AFunc := ⟨9, [.tmp 4],
(.seq (.ops (⟨(some 4), none, .p .mov, [.c (.bool false)]⟩ ::
 []))
(.seq (.ops (⟨(some 5), none, .p .mov, [.t 0]⟩ ::
 ⟨(some 6), none, .p .mov, [.t 1]⟩ ::
 ⟨(some 7), none, .call, [.c (.func (.func 37) [] []), .t 5, .t 6]⟩ ::
 ⟨(some 8), none, .p (.bin .geq), [.t 7, .c (.int .i64 0)]⟩ ::
 ⟨(some 4), none, .p .mov, [.t 8]⟩ ::
 []))
.ret))⟩
abbrev f_slices_Contains_int_int : Nat := 33
abbrev C_slices_Contains_int_int : AFunc := C33
def L_ticks_each_0 : AC := (.seq (.ops (⟨(some 9), none, .p (.bin .lss), [.t 8, .t 7]⟩ ::
 []))
(.seq (.cond (.t 9)
.skip
(.exit 0))
(.seq (.block 1 (.seq (.ops (⟨(some 10), none, .p (.iaddrS 1), [.t 6, .t 8]⟩ ::
 ⟨(some 11), none, .r .load1, [.t 10]⟩ ::
 ⟨(some 5), none, .p .mov, [.t 11]⟩ ::
 []))
(.ops (⟨(some 12), none, .p .mov, [.t 0]⟩ ::
 ⟨(some 13), none, .p .mov, [.t 5]⟩ ::
 ⟨(some 14), none, .call, [.t 12, .t 13]⟩ ::
 []))))
(.ops (⟨(some 15), none, .p (.bin .add), [.t 8, .c (.int .i64 1)]⟩ ::
 ⟨(some 8), none, .p .mov, [.t 15]⟩ ::
 [])))))
def C34 : AFunc := ⟨16, [],
(.seq (.ops (⟨(some 6), none, .p .mov, [.t 1]⟩ ::
 ⟨(some 7), none, .p .lenS, [.t 6]⟩ ::
 ⟨(some 8), none, .p .mov, [.c (.int .i64 0)]⟩ ::
 []))
(.block 0 (.loop L_ticks_each_0)))⟩
abbrev f_ticks_each : Nat := 34
abbrev C_ticks_each : AFunc := C34
def C35 : AFunc := ⟨37, [],
(.seq (.ops (⟨(some 6), none, .p .mov, [.t 0]⟩ ::
 ⟨(some 7), none, .p .nilchk, [.t 6]⟩ ::
 ⟨(some 8), none, .p (.faddr 1), [.t 7]⟩ ::
 ⟨(some 9), none, .r .load1, [.t 8]⟩ ::
 ⟨(some 10), none, .p (.bin .eql), [.t 9, .c (.int .i64 0)]⟩ ::
 []))
(.cond (.t 10)
(.seq (.ops (⟨(some 12), none, .p .mov, [.t 0]⟩ ::
 ⟨(some 13), none, .p .nilchk, [.t 12]⟩ ::
 ⟨(some 14), none, .p (.faddr 0), [.t 13]⟩ ::
 ⟨(some 15), none, .r .load1, [.t 14]⟩ ::
 ⟨(some 16), none, .p .mov, [.t 1]⟩ ::
 ⟨(some 17), none, .call, [.c (.func (.func 18) [] []), .t 15, .t 16]⟩ ::
 ⟨(some 11), none, .p .mov, [.t 17]⟩ ::
 ⟨(some 18), none, .p (.ext 0), [.t 11]⟩ ::
 ⟨(some 19), none, .p (.ext 1), [.t 11]⟩ ::
 ⟨(some 4), none, .p .mov, [.t 18]⟩ ::
 ⟨(some 5), none, .p .mov, [.t 19]⟩ ::
 []))
(.dops (⟨(some 21), none, .p .mov, [.t 0]⟩ ::
 ⟨(some 22), none, .p .mov, [.t 0]⟩ ::
 ⟨(some 23), none, .p .mov, [.t 0]⟩ ::
 ⟨(some 24), none, .p .nilchk, [.t 23]⟩ ::
 ⟨(some 25), none, .p (.faddr 0), [.t 24]⟩ ::
 ⟨(some 26), none, .r .load1, [.t 25]⟩ ::
 ⟨(some 27), none, .p .mov, [.t 1]⟩ ::
 ⟨(some 28), none, .p .mov, [.t 4]⟩ ::
 ⟨(some 29), none, .p (.bin .quo), [.t 27, .t 28]⟩ ::
 ⟨(some 30), none, .call, [.c (.func (.func 14) [] []), .t 26, .t 29]⟩ ::
 ⟨(some 20), none, .p .mov, [.t 30]⟩ ::
 ⟨(some 31), none, .p (.ext 0), [.t 20]⟩ ::
 ⟨(some 32), none, .p (.ext 1), [.t 20]⟩ ::
 ⟨(some 33), none, .p .nilchk, [.t 21]⟩ ::
 ⟨(some 34), none, .p (.faddr 0), [.t 33]⟩ ::
 ⟨none, none, .e (.store 1), [.t 34, .t 31]⟩ ::
 ⟨(some 35), none, .p .nilchk, [.t 22]⟩ ::
 ⟨(some 36), none, .p (.faddr 1), [.t 35]⟩ ::
 ⟨none, none, .e (.store 1), [.t 36, .t 32]⟩ ::
 []) ([] :: [] :: [] :: [] :: [] :: [] :: [] :: [] :: [] :: [] :: [] :: [] :: [] :: [] :: [] :: [] :: [] :: [] :: [] :: [])))
.skip))⟩
abbrev f_ticks_count_multiple : Nat := 35
abbrev C_ticks_count_multiple : AFunc := C35
def C36 : AFunc := ⟨24, [],
(.seq (.ops (⟨(some 4), none, .p .mov, [.t 0]⟩ ::
 ⟨(some 5), none, .p .nilchk, [.t 4]⟩ ::
 ⟨(some 6), none, .p (.faddr 1), [.t 5]⟩ ::
 ⟨(some 7), none, .r .load1, [.t 6]⟩ ::
 ⟨(some 8), none, .p (.bin .eql), [.t 7, .c (.int .i64 0)]⟩ ::
 []))
(.cond (.t 8)
(.ops (⟨(some 10), none, .p .mov, [.t 0]⟩ ::
 ⟨(some 11), none, .p .mov, [.t 0]⟩ ::
 ⟨(some 12), none, .p .mov, [.t 0]⟩ ::
 ⟨(some 13), none, .p .nilchk, [.t 12]⟩ ::
 ⟨(some 14), none, .p (.faddr 0), [.t 13]⟩ ::
 ⟨(some 15), none, .r .load1, [.t 14]⟩ ::
 ⟨(some 16), none, .p .mov, [.t 1]⟩ ::
 ⟨(some 17), none, .call, [.c (.func (.func 9) [] []), .t 15, .t 16]⟩ ::
 ⟨(some 9), none, .p .mov, [.t 17]⟩ ::
 ⟨(some 18), none, .p (.ext 0), [.t 9]⟩ ::
 ⟨(some 19), none, .p (.ext 1), [.t 9]⟩ ::
 ⟨(some 20), none, .p .nilchk, [.t 10]⟩ ::
 ⟨(some 21), none, .p (.faddr 0), [.t 20]⟩ ::
 ⟨none, none, .e (.store 1), [.t 21, .t 18]⟩ ::
 ⟨(some 22), none, .p .nilchk, [.t 11]⟩ ::
 ⟨(some 23), none, .p (.faddr 1), [.t 22]⟩ ::
 ⟨none, none, .e (.store 1), [.t 23, .t 19]⟩ ::
 []))
.skip))⟩
abbrev f_ticks_count_add : Nat := 36
abbrev C_ticks_count_add : AFunc := C36
def L_slices_Index_int_int_0 : AC := (.seq (.ops (⟨(some 9), none, .p (.bin .lss), [.t 8, .t 7]⟩ ::
 []))
(.seq (.cond (.t 9)
.skip
(.exit 0))
(.seq (.block 1 (.seq (.ops (⟨(some 10), none, .p .mov, [.t 8]⟩ ::
 ⟨(some 5), none, .p .mov, [.t 10]⟩ ::
 []))
(.seq (.ops (⟨(some 11), none, .p .mov, [.t 1]⟩ ::
 ⟨(some 12), none, .p .mov, [.t 0]⟩ ::
 ⟨(some 13), none, .p .mov, [.t 5]⟩ ::
 ⟨(some 14), none, .p (.iaddrS 1), [.t 12, .t 13]⟩ ::
 ⟨(some 15), none, .r .load1, [.t 14]⟩ ::
 ⟨(some 16), none, .p (.bin .eql), [.t 11, .t 15]⟩ ::
 []))
(.cond (.t 16)
(.seq (.ops (⟨(some 17), none, .p .mov, [.t 5]⟩ ::
 ⟨(some 4), none, .p .mov, [.t 17]⟩ ::
 []))
.ret)
.skip))))
(.ops (⟨(some 18), none, .p (.bin .add), [.t 8, .c (.int .i64 1)]⟩ ::
 ⟨(some 8), none, .p .mov, [.t 18]⟩ ::
 [])))))
def C37 : AFunc := ⟨19, [.tmp 4],
(.seq (.ops (⟨(some 4), none, .p .mov, [.c (.int .i64 0)]⟩ ::
 []))
(.seq (.seq (.ops (⟨(some 6), none, .p .mov, [.t 0]⟩ ::
 ⟨(some 7), none, .p .lenS, [.t 6]⟩ ::
 ⟨(some 8), none, .p .mov, [.c (.int .i64 0)]⟩ ::
 []))
(.block 0 (.loop L_slices_Index_int_int_0)))
(.seq (.ops (⟨(some 4), none, .p .mov, [.c (.int .i64 (-1))]⟩ ::
 []))
.ret)))⟩
abbrev f_slices_Index_int_int : Nat := 37
abbrev C_slices_Index_int_int : AFunc := C37
def T : Tr AFunc := (.node (.node (.node (.node (.node (.node .nil (some C31) .nil) (some C15) .nil) (some C7) (.node .nil (some C23) .nil)) (some C3) (.node (.node (.node .nil (some C35) .nil) (some C19) .nil) (some C11) (.node .nil (some C27) .nil))) none (.node (.node (.node (.node .nil (some C33) .nil) (some C17) .nil) (some C9) (.node .nil (some C25) .nil)) (some C5) (.node (.node (.node .nil (some C37) .nil) (some C21) .nil) (some C13) (.node .nil (some C29) .nil)))) none (.node (.node (.node (.node (.node .nil (some C32) .nil) (some C16) .nil) (some C8) (.node .nil (some C24) .nil)) (some C4) (.node (.node (.node .nil (some C36) .nil) (some C20) .nil) (some C12) (.node .nil (some C28) .nil))) none (.node (.node (.node (.node .nil (some C34) .nil) (some C18) .nil) (some C10) (.node .nil (some C26) .nil)) (some C6) (.node (.node .nil (some C22) .nil) (some C14) (.node .nil (some C30) .nil)))))
def fs (f : Nat) : Option AFunc := Tr.get T f
def ms (t : Nat) (n : String) : Option Nat := none
end Ir
end Go.Proofs.Ytflmbknimebmnaa
