/-
  What the program's functions are in Ads, printed by a program.
-/
import Derived.Test.YtbmnehpppegecaaAdsDef
set_option linter.unusedVariables false
set_option maxRecDepth 100000
namespace Go.Proofs.Ytbmnehpppegecaa
open Go Ads
namespace Ir
def C3 : AFunc := ⟨69, [.tmp 6],
(.seq (.ops (⟨(some 6), none, .p .mov, [.c (.bool false)]⟩ ::
 []))
(.seq (.ops (⟨(some 16), none, .p .mov, [.t 0]⟩ ::
 ⟨(some 17), none, .p .mov, [.t 1]⟩ ::
 ⟨(some 18), none, .p .mov, [.t 2]⟩ ::
 ⟨(some 19), none, .call, [.c (.func (.func 13) [] []), .t 16, .t 17, .t 18]⟩ ::
 ⟨(some 15), none, .p .mov, [.t 19]⟩ ::
 ⟨(some 20), none, .p (.ext 0), [.t 15]⟩ ::
 ⟨(some 21), none, .p (.ext 1), [.t 15]⟩ ::
 ⟨(some 7), none, .p .mov, [.t 20]⟩ ::
 ⟨(some 8), none, .p .mov, [.t 21]⟩ ::
 []))
(.seq (.ops (⟨(some 23), none, .p .mov, [.t 0]⟩ ::
 ⟨(some 24), none, .p .mov, [.t 1]⟩ ::
 ⟨(some 25), none, .p .mov, [.t 2]⟩ ::
 ⟨(some 26), none, .call, [.c (.func (.func 14) [] []), .t 23, .t 24, .t 25]⟩ ::
 ⟨(some 22), none, .p .mov, [.t 26]⟩ ::
 ⟨(some 27), none, .p (.ext 0), [.t 22]⟩ ::
 ⟨(some 28), none, .p (.ext 1), [.t 22]⟩ ::
 ⟨(some 9), none, .p .mov, [.t 27]⟩ ::
 ⟨(some 10), none, .p .mov, [.t 28]⟩ ::
 []))
(.seq (.ops (⟨(some 30), none, .p .mov, [.t 0]⟩ ::
 ⟨(some 31), none, .p .mov, [.t 1]⟩ ::
 ⟨(some 32), none, .call, [.c (.func (.func 15) [] []), .t 30, .t 31]⟩ ::
 ⟨(some 29), none, .p .mov, [.t 32]⟩ ::
 ⟨(some 33), none, .p (.ext 0), [.t 29]⟩ ::
 ⟨(some 34), none, .p (.ext 1), [.t 29]⟩ ::
 ⟨(some 11), none, .p .mov, [.t 33]⟩ ::
 ⟨(some 12), none, .p .mov, [.t 34]⟩ ::
 []))
(.seq (.ops (⟨(some 36), none, .p .mov, [.t 0]⟩ ::
 ⟨(some 37), none, .p .mov, [.t 1]⟩ ::
 ⟨(some 38), none, .call, [.c (.func (.func 16) [] []), .t 36, .t 37]⟩ ::
 ⟨(some 35), none, .p .mov, [.t 38]⟩ ::
 ⟨(some 39), none, .p (.ext 0), [.t 35]⟩ ::
 ⟨(some 40), none, .p (.ext 1), [.t 35]⟩ ::
 ⟨(some 13), none, .p .mov, [.t 39]⟩ ::
 ⟨(some 14), none, .p .mov, [.t 40]⟩ ::
 []))
(.seq (.ops (⟨(some 41), none, .p .mov, [.t 0]⟩ ::
 ⟨(some 42), none, .call, [.c (.func (.func 17) [] []), .t 41]⟩ ::
 ⟨(some 43), none, .p .mov, [.t 0]⟩ ::
 ⟨(some 44), none, .call, [.c (.func (.func 18) [] []), .t 43]⟩ ::
 ⟨(some 45), none, .p (.bin .eql), [.t 42, .t 44]⟩ ::
 ⟨(some 46), none, .p .mov, [.t 45]⟩ ::
 ⟨(some 47), (some (46, true)), .p .mov, [.t 7]⟩ ::
 ⟨(some 48), (some (46, true)), .p .mov, [.t 9]⟩ ::
 ⟨(some 49), (some (46, true)), .p (.bin .eql), [.t 47, .t 48]⟩ ::
 ⟨(some 50), none, .p .pick, [.t 46, .t 49, .c (.bool false)]⟩ ::
 ⟨(some 51), none, .p .mov, [.t 50]⟩ ::
 ⟨(some 52), (some (51, true)), .p .mov, [.t 8]⟩ ::
 ⟨(some 53), (some (51, true)), .p .mov, [.t 10]⟩ ::
 ⟨(some 54), (some (51, true)), .p (.bin .eql), [.t 52, .t 53]⟩ ::
 ⟨(some 55), none, .p .pick, [.t 51, .t 54, .c (.bool false)]⟩ ::
 ⟨(some 56), none, .p .mov, [.t 55]⟩ ::
 ⟨(some 57), (some (56, true)), .p .mov, [.t 11]⟩ ::
 ⟨(some 58), (some (56, true)), .p .mov, [.t 13]⟩ ::
 ⟨(some 59), (some (56, true)), .call, [.c (.func (.func 19) [] []), .t 57, .t 58]⟩ ::
 ⟨(some 60), none, .p .pick, [.t 56, .t 59, .c (.bool false)]⟩ ::
 ⟨(some 61), none, .p .mov, [.t 60]⟩ ::
 ⟨(some 62), (some (61, true)), .p .mov, [.t 12]⟩ ::
 ⟨(some 63), (some (61, true)), .p .mov, [.t 14]⟩ ::
 ⟨(some 64), (some (61, true)), .p (.bin .eql), [.t 62, .t 63]⟩ ::
 ⟨(some 65), none, .p .pick, [.t 61, .t 64, .c (.bool false)]⟩ ::
 ⟨(some 66), none, .p .mov, [.t 65]⟩ ::
 ⟨(some 67), (some (66, true)), .call, [.c (.func (.func 20) [] [])]⟩ ::
 ⟨(some 68), none, .p .pick, [.t 66, .t 67, .c (.bool false)]⟩ ::
 ⟨(some 6), none, .p .mov, [.t 68]⟩ ::
 []))
.ret))))))⟩
abbrev f_escapementlaw09_DelayWaits : Nat := 3
abbrev C_escapementlaw09_DelayWaits : AFunc := C3
def C4 : AFunc := ⟨36, [.tmp 6],
(.seq (.ops (⟨(some 6), none, .p .mov, [.c (.bool false)]⟩ ::
 []))
(.seq (.ops (⟨(some 12), none, .p .mov, [.t 0]⟩ ::
 ⟨(some 13), none, .p .mov, [.t 1]⟩ ::
 ⟨(some 14), none, .p .mov, [.t 2]⟩ ::
 ⟨(some 15), none, .call, [.c (.func (.func 21) [] []), .t 12, .t 13, .t 14]⟩ ::
 ⟨(some 11), none, .p .mov, [.t 15]⟩ ::
 ⟨(some 16), none, .p (.ext 0), [.t 11]⟩ ::
 ⟨(some 17), none, .p (.ext 1), [.t 11]⟩ ::
 ⟨(some 7), none, .p .mov, [.t 16]⟩ ::
 ⟨(some 8), none, .p .mov, [.t 17]⟩ ::
 []))
(.seq (.ops (⟨(some 19), none, .p .mov, [.t 0]⟩ ::
 ⟨(some 20), none, .p .mov, [.t 1]⟩ ::
 ⟨(some 21), none, .p .mov, [.t 2]⟩ ::
 ⟨(some 22), none, .call, [.c (.func (.func 22) [] []), .t 19, .t 20, .t 21]⟩ ::
 ⟨(some 18), none, .p .mov, [.t 22]⟩ ::
 ⟨(some 23), none, .p (.ext 0), [.t 18]⟩ ::
 ⟨(some 24), none, .p (.ext 1), [.t 18]⟩ ::
 ⟨(some 9), none, .p .mov, [.t 23]⟩ ::
 ⟨(some 10), none, .p .mov, [.t 24]⟩ ::
 []))
(.seq (.ops (⟨(some 25), none, .p .mov, [.t 7]⟩ ::
 ⟨(some 26), none, .p .mov, [.t 9]⟩ ::
 ⟨(some 27), none, .p (.bin .eql), [.t 25, .t 26]⟩ ::
 ⟨(some 28), none, .p .mov, [.t 27]⟩ ::
 ⟨(some 29), (some (28, true)), .p .mov, [.t 8]⟩ ::
 ⟨(some 30), (some (28, true)), .p .mov, [.t 10]⟩ ::
 ⟨(some 31), (some (28, true)), .p (.bin .eql), [.t 29, .t 30]⟩ ::
 ⟨(some 32), none, .p .pick, [.t 28, .t 31, .c (.bool false)]⟩ ::
 ⟨(some 33), none, .p .mov, [.t 32]⟩ ::
 ⟨(some 34), (some (33, true)), .call, [.c (.func (.func 20) [] [])]⟩ ::
 ⟨(some 35), none, .p .pick, [.t 33, .t 34, .c (.bool false)]⟩ ::
 ⟨(some 6), none, .p .mov, [.t 35]⟩ ::
 []))
.ret))))⟩
abbrev f_escapementlaw09_DelayOf : Nat := 4
abbrev C_escapementlaw09_DelayOf : AFunc := C4
def L_escapementlaw09_DelayGrows_2 : AC := (.seq (.seq (.ops (⟨(some 59), none, .p .mov, [.t 12]⟩ ::
 ⟨(some 60), none, .p .mov, [.t 7]⟩ ::
 ⟨(some 61), none, .p (.iaddrS 3), [.t 60, .c (.int .i64 0)]⟩ ::
 ⟨(some 62), none, .p (.faddr 2), [.t 61]⟩ ::
 ⟨(some 63), none, .r .load1, [.t 62]⟩ ::
 ⟨(some 64), none, .p .lenS, [.t 63]⟩ ::
 ⟨(some 65), none, .p (.bin .lss), [.t 59, .t 64]⟩ ::
 []))
(.cond (.t 65)
.skip
(.exit 4)))
(.seq (.block 5 (.dops (⟨(some 68), none, .p .mov, [.t 10]⟩ ::
 ⟨(some 69), none, .p .mov, [.t 68]⟩ ::
 ⟨(some 70), (some (69, false)), .p .mov, [.t 0]⟩ ::
 ⟨(some 71), (some (69, false)), .p .mov, [.t 9]⟩ ::
 ⟨(some 72), (some (69, false)), .p (.iaddrS 3), [.t 70, .t 71]⟩ ::
 ⟨(some 73), (some (69, false)), .p (.faddr 2), [.t 72]⟩ ::
 ⟨(some 74), (some (69, false)), .r .load1, [.t 73]⟩ ::
 ⟨(some 75), (some (69, false)), .p .mov, [.t 11]⟩ ::
 ⟨(some 76), (some (69, false)), .p (.iaddrS 8), [.t 74, .t 75]⟩ ::
 ⟨(some 77), (some (69, false)), .p (.faddr 5), [.t 76]⟩ ::
 ⟨(some 78), (some (69, false)), .r .load1, [.t 77]⟩ ::
 ⟨(some 79), (some (69, false)), .p (.bin .gtr), [.t 78, .c (.int .i64 0)]⟩ ::
 ⟨(some 80), (some (69, false)), .p .mov, [.t 79]⟩ ::
 ⟨(some 81), (some (80, true)), .p .mov, [.t 0]⟩ ::
 ⟨(some 82), (some (80, true)), .p .mov, [.t 9]⟩ ::
 ⟨(some 83), (some (80, true)), .p (.iaddrS 3), [.t 81, .t 82]⟩ ::
 ⟨(some 84), (some (80, true)), .p (.faddr 2), [.t 83]⟩ ::
 ⟨(some 85), (some (80, true)), .r .load1, [.t 84]⟩ ::
 ⟨(some 86), (some (80, true)), .p .mov, [.t 11]⟩ ::
 ⟨(some 87), (some (80, true)), .p (.iaddrS 8), [.t 85, .t 86]⟩ ::
 ⟨(some 88), (some (80, true)), .p (.faddr 5), [.t 87]⟩ ::
 ⟨(some 89), (some (80, true)), .r .load1, [.t 88]⟩ ::
 ⟨(some 90), (some (80, true)), .p .mov, [.t 7]⟩ ::
 ⟨(some 91), (some (80, true)), .p (.iaddrS 3), [.t 90, .c (.int .i64 0)]⟩ ::
 ⟨(some 92), (some (80, true)), .p (.faddr 2), [.t 91]⟩ ::
 ⟨(some 93), (some (80, true)), .r .load1, [.t 92]⟩ ::
 ⟨(some 94), (some (80, true)), .p .mov, [.t 12]⟩ ::
 ⟨(some 95), (some (80, true)), .p (.iaddrS 8), [.t 93, .t 94]⟩ ::
 ⟨(some 96), (some (80, true)), .p (.faddr 5), [.t 95]⟩ ::
 ⟨(some 97), (some (80, true)), .r .load1, [.t 96]⟩ ::
 ⟨(some 98), (some (80, true)), .p (.bin .eql), [.t 89, .t 97]⟩ ::
 ⟨(some 99), (some (69, false)), .p .pick, [.t 80, .t 98, .c (.bool false)]⟩ ::
 ⟨(some 100), none, .p .pick, [.t 69, .c (.bool true), .t 99]⟩ ::
 ⟨(some 10), none, .p .mov, [.t 100]⟩ ::
 []) ([] :: [] :: [] :: [] :: [] :: [] :: [] :: [] :: [] :: [] :: [] :: [] :: [] :: [] :: [] :: [] :: [] :: [] :: [] :: [] :: [] :: [] :: [] :: [] :: [] :: [] :: [] :: [] :: [] :: [] :: [] :: [] :: [] :: [] :: [])))
(.ops (⟨(some 66), none, .p .mov, [.t 12]⟩ ::
 ⟨(some 67), none, .p (.bin .add), [.t 66, .c (.int .i64 1)]⟩ ::
 ⟨(some 12), none, .p .mov, [.t 67]⟩ ::
 []))))
def L_escapementlaw09_DelayGrows_1 : AC := (.seq (.seq (.ops (⟨(some 49), none, .p .mov, [.t 11]⟩ ::
 ⟨(some 50), none, .p .mov, [.t 0]⟩ ::
 ⟨(some 51), none, .p .mov, [.t 9]⟩ ::
 ⟨(some 52), none, .p (.iaddrS 3), [.t 50, .t 51]⟩ ::
 ⟨(some 53), none, .p (.faddr 2), [.t 52]⟩ ::
 ⟨(some 54), none, .r .load1, [.t 53]⟩ ::
 ⟨(some 55), none, .p .lenS, [.t 54]⟩ ::
 ⟨(some 56), none, .p (.bin .lss), [.t 49, .t 55]⟩ ::
 []))
(.cond (.t 56)
.skip
(.exit 2)))
(.seq (.block 3 (.seq (.ops (⟨(some 12), none, .p .mov, [.c (.int .i64 0)]⟩ ::
 []))
(.block 4 (.loop L_escapementlaw09_DelayGrows_2))))
(.ops (⟨(some 57), none, .p .mov, [.t 11]⟩ ::
 ⟨(some 58), none, .p (.bin .add), [.t 57, .c (.int .i64 1)]⟩ ::
 ⟨(some 11), none, .p .mov, [.t 58]⟩ ::
 []))))
def L_escapementlaw09_DelayGrows_3 : AC := (.seq (.seq (.ops (⟨(some 179), none, .p .mov, [.t 21]⟩ ::
 ⟨(some 180), none, .p .mov, [.t 13]⟩ ::
 ⟨(some 181), none, .p .lenS, [.t 180]⟩ ::
 ⟨(some 182), none, .p (.bin .lss), [.t 179, .t 181]⟩ ::
 []))
(.cond (.t 182)
.skip
(.exit 6)))
(.seq (.block 7 (.seq (.ops (⟨(some 186), none, .p .mov, [.t 0]⟩ ::
 ⟨(some 187), none, .p .mov, [.t 9]⟩ ::
 ⟨(some 188), none, .p .mov, [.t 21]⟩ ::
 ⟨(some 189), none, .call, [.c (.func (.func 13) [] []), .t 186, .t 187, .t 188]⟩ ::
 ⟨(some 185), none, .p .mov, [.t 189]⟩ ::
 ⟨(some 190), none, .p (.ext 0), [.t 185]⟩ ::
 ⟨(some 191), none, .p (.ext 1), [.t 185]⟩ ::
 ⟨(some 22), none, .p .mov, [.t 190]⟩ ::
 ⟨(some 23), none, .p .mov, [.t 191]⟩ ::
 []))
(.seq (.ops (⟨(some 193), none, .p .mov, [.t 8]⟩ ::
 ⟨(some 194), none, .p .mov, [.t 9]⟩ ::
 ⟨(some 195), none, .p .mov, [.t 21]⟩ ::
 ⟨(some 196), none, .call, [.c (.func (.func 13) [] []), .t 193, .t 194, .t 195]⟩ ::
 ⟨(some 192), none, .p .mov, [.t 196]⟩ ::
 ⟨(some 197), none, .p (.ext 0), [.t 192]⟩ ::
 ⟨(some 198), none, .p (.ext 1), [.t 192]⟩ ::
 ⟨(some 24), none, .p .mov, [.t 197]⟩ ::
 ⟨(some 25), none, .p .mov, [.t 198]⟩ ::
 []))
(.seq (.dops (⟨(some 199), none, .p .mov, [.t 23]⟩ ::
 ⟨(some 200), none, .p (.bin .neq), [.t 199, .c (.int .i64 0)]⟩ ::
 ⟨(some 201), none, .p .mov, [.t 200]⟩ ::
 ⟨(some 202), (some (201, false)), .p .mov, [.t 25]⟩ ::
 ⟨(some 203), (some (201, false)), .p (.bin .neq), [.t 202, .c (.int .i64 0)]⟩ ::
 ⟨(some 204), none, .p .pick, [.t 201, .c (.bool true), .t 203]⟩ ::
 ⟨(some 205), none, .p .mov, [.t 204]⟩ ::
 ⟨(some 206), (some (205, false)), .p .mov, [.t 24]⟩ ::
 ⟨(some 207), (some (205, false)), .p .mov, [.t 22]⟩ ::
 ⟨(some 208), (some (205, false)), .p (.bin .lss), [.t 206, .t 207]⟩ ::
 ⟨(some 209), none, .p .pick, [.t 205, .c (.bool true), .t 208]⟩ ::
 ⟨(some 210), none, .p .mov, [.t 209]⟩ ::
 ⟨(some 211), (some (210, false)), .p .mov, [.t 15]⟩ ::
 ⟨(some 212), (some (210, false)), .p .mov, [.t 21]⟩ ::
 ⟨(some 213), (some (210, false)), .p (.iaddrS 1), [.t 211, .t 212]⟩ ::
 ⟨(some 214), (some (210, false)), .r .load1, [.t 213]⟩ ::
 ⟨(some 215), (some (210, false)), .p .mov, [.t 13]⟩ ::
 ⟨(some 216), (some (210, false)), .p .mov, [.t 21]⟩ ::
 ⟨(some 217), (some (210, false)), .p (.iaddrS 1), [.t 215, .t 216]⟩ ::
 ⟨(some 218), (some (210, false)), .r .load1, [.t 217]⟩ ::
 ⟨(some 219), (some (210, false)), .p (.bin .lss), [.t 214, .t 218]⟩ ::
 ⟨(some 220), none, .p .pick, [.t 210, .c (.bool true), .t 219]⟩ ::
 ⟨(some 221), none, .p .mov, [.t 220]⟩ ::
 ⟨(some 222), (some (221, false)), .p .mov, [.t 0]⟩ ::
 ⟨(some 223), (some (221, false)), .p .mov, [.t 9]⟩ ::
 ⟨(some 224), (some (221, false)), .p (.iaddrS 3), [.t 222, .t 223]⟩ ::
 ⟨(some 225), (some (221, false)), .p (.faddr 2), [.t 224]⟩ ::
 ⟨(some 226), (some (221, false)), .r .load1, [.t 225]⟩ ::
 ⟨(some 227), (some (221, false)), .p .mov, [.t 21]⟩ ::
 ⟨(some 228), (some (221, false)), .p (.iaddrS 8), [.t 226, .t 227]⟩ ::
 ⟨(some 229), (some (221, false)), .p (.faddr 5), [.t 228]⟩ ::
 ⟨(some 230), (some (221, false)), .r .load1, [.t 229]⟩ ::
 ⟨(some 231), (some (221, false)), .p (.bin .gtr), [.t 230, .c (.int .i64 0)]⟩ ::
 ⟨(some 232), (some (221, false)), .p .mov, [.t 231]⟩ ::
 ⟨(some 233), (some (232, true)), .p .mov, [.t 10]⟩ ::
 ⟨(some 234), (some (221, false)), .p .pick, [.t 232, .t 233, .c (.bool false)]⟩ ::
 ⟨(some 235), (some (221, false)), .p .mov, [.t 234]⟩ ::
 ⟨(some 236), (some (235, true)), .p .mov, [.t 7]⟩ ::
 ⟨(some 237), (some (235, true)), .p (.iaddrS 3), [.t 236, .c (.int .i64 0)]⟩ ::
 ⟨(some 238), (some (235, true)), .p (.faddr 0), [.t 237]⟩ ::
 ⟨(some 239), (some (235, true)), .r .load1, [.t 238]⟩ ::
 ⟨(some 240), (some (235, true)), .p (.bin .gtr), [.t 239, .c (.int .i64 0)]⟩ ::
 ⟨(some 241), (some (221, false)), .p .pick, [.t 235, .t 240, .c (.bool false)]⟩ ::
 ⟨(some 242), (some (221, false)), .p .mov, [.t 241]⟩ ::
 ⟨(some 243), (some (242, true)), .p .mov, [.t 24]⟩ ::
 ⟨(some 244), (some (242, true)), .p .mov, [.t 22]⟩ ::
 ⟨(some 245), (some (242, true)), .p .mov, [.t 7]⟩ ::
 ⟨(some 246), (some (242, true)), .p (.iaddrS 3), [.t 245, .c (.int .i64 0)]⟩ ::
 ⟨(some 247), (some (242, true)), .p (.faddr 0), [.t 246]⟩ ::
 ⟨(some 248), (some (242, true)), .r .load1, [.t 247]⟩ ::
 ⟨(some 249), (some (242, true)), .p (.bin .mul), [.c (.int .i64 2), .t 248]⟩ ::
 ⟨(some 250), (some (242, true)), .p (.bin .add), [.t 244, .t 249]⟩ ::
 ⟨(some 251), (some (242, true)), .p (.bin .gtr), [.t 243, .t 250]⟩ ::
 ⟨(some 252), (some (221, false)), .p .pick, [.t 242, .t 251, .c (.bool false)]⟩ ::
 ⟨(some 253), none, .p .pick, [.t 221, .c (.bool true), .t 252]⟩ ::
 []) ([] :: [] :: [] :: [] :: [] :: [] :: [] :: [] :: [] :: [] :: [] :: [] :: [] :: [] :: [] :: [] :: [] :: [] :: [] :: [] :: [] :: [] :: [] :: [] :: [] :: [] :: [] :: [] :: [] :: [] :: [] :: [] :: [] :: [] :: [] :: [] :: [] :: [] :: [] :: [] :: [] :: [] :: [] :: [] :: [] :: [] :: [] :: [] :: [] :: [] :: [] :: [] :: [] :: [] :: [] :: []))
(.cond (.t 253)
(.seq (.ops (⟨(some 6), none, .p .mov, [.c (.bool false)]⟩ ::
 []))
.ret)
.skip)))))
(.ops (⟨(some 183), none, .p .mov, [.t 21]⟩ ::
 ⟨(some 184), none, .p (.bin .add), [.t 183, .c (.int .i64 1)]⟩ ::
 ⟨(some 21), none, .p .mov, [.t 184]⟩ ::
 []))))
def L_escapementlaw09_DelayGrows_0 : AC := (.seq (.seq (.ops (⟨(some 43), none, .p .mov, [.t 9]⟩ ::
 ⟨(some 44), none, .p .mov, [.t 0]⟩ ::
 ⟨(some 45), none, .p .lenS, [.t 44]⟩ ::
 ⟨(some 46), none, .p (.bin .lss), [.t 43, .t 45]⟩ ::
 []))
(.cond (.t 46)
.skip
(.exit 0)))
(.seq (.block 1 (.seq (.ops (⟨(some 10), none, .p .mov, [.c (.bool false)]⟩ ::
 []))
(.seq (.seq (.ops (⟨(some 11), none, .p .mov, [.c (.int .i64 0)]⟩ ::
 []))
(.block 2 (.loop L_escapementlaw09_DelayGrows_1)))
(.seq (.ops (⟨(some 102), none, .p .mov, [.t 0]⟩ ::
 ⟨(some 103), none, .p .mov, [.t 9]⟩ ::
 ⟨(some 104), none, .call, [.c (.func (.func 15) [] []), .t 102, .t 103]⟩ ::
 ⟨(some 101), none, .p .mov, [.t 104]⟩ ::
 ⟨(some 105), none, .p (.ext 0), [.t 101]⟩ ::
 ⟨(some 106), none, .p (.ext 1), [.t 101]⟩ ::
 ⟨(some 13), none, .p .mov, [.t 105]⟩ ::
 ⟨(some 14), none, .p .mov, [.t 106]⟩ ::
 []))
(.seq (.ops (⟨(some 108), none, .p .mov, [.t 8]⟩ ::
 ⟨(some 109), none, .p .mov, [.t 9]⟩ ::
 ⟨(some 110), none, .call, [.c (.func (.func 15) [] []), .t 108, .t 109]⟩ ::
 ⟨(some 107), none, .p .mov, [.t 110]⟩ ::
 ⟨(some 111), none, .p (.ext 0), [.t 107]⟩ ::
 ⟨(some 112), none, .p (.ext 1), [.t 107]⟩ ::
 ⟨(some 15), none, .p .mov, [.t 111]⟩ ::
 ⟨(some 16), none, .p .mov, [.t 112]⟩ ::
 []))
(.seq (.ops (⟨(some 114), none, .p .mov, [.t 0]⟩ ::
 ⟨(some 115), none, .p .mov, [.t 9]⟩ ::
 ⟨(some 116), none, .p .mov, [.t 2]⟩ ::
 ⟨(some 117), none, .call, [.c (.func (.func 21) [] []), .t 114, .t 115, .t 116]⟩ ::
 ⟨(some 113), none, .p .mov, [.t 117]⟩ ::
 ⟨(some 118), none, .p (.ext 0), [.t 113]⟩ ::
 ⟨(some 119), none, .p (.ext 1), [.t 113]⟩ ::
 ⟨(some 17), none, .p .mov, [.t 118]⟩ ::
 ⟨(some 18), none, .p .mov, [.t 119]⟩ ::
 []))
(.seq (.ops (⟨(some 121), none, .p .mov, [.t 8]⟩ ::
 ⟨(some 122), none, .p .mov, [.t 9]⟩ ::
 ⟨(some 123), none, .p .mov, [.t 2]⟩ ::
 ⟨(some 124), none, .call, [.c (.func (.func 21) [] []), .t 121, .t 122, .t 123]⟩ ::
 ⟨(some 120), none, .p .mov, [.t 124]⟩ ::
 ⟨(some 125), none, .p (.ext 0), [.t 120]⟩ ::
 ⟨(some 126), none, .p (.ext 1), [.t 120]⟩ ::
 ⟨(some 19), none, .p .mov, [.t 125]⟩ ::
 ⟨(some 20), none, .p .mov, [.t 126]⟩ ::
 []))
(.seq (.seq (.ops (⟨(some 127), none, .p .mov, [.t 14]⟩ ::
 ⟨(some 128), none, .p (.bin .neq), [.t 127, .c (.int .i64 0)]⟩ ::
 ⟨(some 129), none, .p .mov, [.t 128]⟩ ::
 ⟨(some 130), (some (129, false)), .p .mov, [.t 16]⟩ ::
 ⟨(some 131), (some (129, false)), .p (.bin .neq), [.t 130, .c (.int .i64 0)]⟩ ::
 ⟨(some 132), none, .p .pick, [.t 129, .c (.bool true), .t 131]⟩ ::
 ⟨(some 133), none, .p .mov, [.t 132]⟩ ::
 ⟨(some 134), (some (133, false)), .p .mov, [.t 18]⟩ ::
 ⟨(some 135), (some (133, false)), .p (.bin .neq), [.t 134, .c (.int .i64 0)]⟩ ::
 ⟨(some 136), none, .p .pick, [.t 133, .c (.bool true), .t 135]⟩ ::
 ⟨(some 137), none, .p .mov, [.t 136]⟩ ::
 ⟨(some 138), (some (137, false)), .p .mov, [.t 20]⟩ ::
 ⟨(some 139), (some (137, false)), .p (.bin .neq), [.t 138, .c (.int .i64 0)]⟩ ::
 ⟨(some 140), none, .p .pick, [.t 137, .c (.bool true), .t 139]⟩ ::
 ⟨(some 141), none, .p .mov, [.t 140]⟩ ::
 ⟨(some 142), (some (141, false)), .p .mov, [.t 13]⟩ ::
 ⟨(some 143), (some (141, false)), .p .lenS, [.t 142]⟩ ::
 ⟨(some 144), (some (141, false)), .p .mov, [.t 15]⟩ ::
 ⟨(some 145), (some (141, false)), .p .lenS, [.t 144]⟩ ::
 ⟨(some 146), (some (141, false)), .p (.bin .neq), [.t 143, .t 145]⟩ ::
 ⟨(some 147), none, .p .pick, [.t 141, .c (.bool true), .t 146]⟩ ::
 ⟨(some 148), none, .p .mov, [.t 147]⟩ ::
 ⟨(some 149), (some (148, false)), .p .mov, [.t 13]⟩ ::
 ⟨(some 150), (some (148, false)), .p .lenS, [.t 149]⟩ ::
 ⟨(some 151), (some (148, false)), .p .mov, [.t 0]⟩ ::
 ⟨(some 152), (some (148, false)), .p .mov, [.t 9]⟩ ::
 ⟨(some 153), (some (148, false)), .p (.iaddrS 3), [.t 151, .t 152]⟩ ::
 ⟨(some 154), (some (148, false)), .p (.faddr 2), [.t 153]⟩ ::
 ⟨(some 155), (some (148, false)), .r .load1, [.t 154]⟩ ::
 ⟨(some 156), (some (148, false)), .p .lenS, [.t 155]⟩ ::
 ⟨(some 157), (some (148, false)), .p (.bin .neq), [.t 150, .t 156]⟩ ::
 ⟨(some 158), none, .p .pick, [.t 148, .c (.bool true), .t 157]⟩ ::
 ⟨(some 159), none, .p .mov, [.t 158]⟩ ::
 ⟨(some 160), (some (159, false)), .p .mov, [.t 19]⟩ ::
 ⟨(some 161), (some (159, false)), .p .mov, [.t 17]⟩ ::
 ⟨(some 162), (some (159, false)), .p (.bin .lss), [.t 160, .t 161]⟩ ::
 ⟨(some 163), none, .p .pick, [.t 159, .c (.bool true), .t 162]⟩ ::
 ⟨(some 164), none, .p .mov, [.t 163]⟩ ::
 ⟨(some 165), (some (164, false)), .p .mov, [.t 10]⟩ ::
 ⟨(some 166), (some (164, false)), .p .not, [.t 165]⟩ ::
 ⟨(some 167), (some (164, false)), .p .mov, [.t 166]⟩ ::
 ⟨(some 168), (some (167, true)), .p .mov, [.t 17]⟩ ::
 ⟨(some 169), (some (167, true)), .p .mov, [.t 19]⟩ ::
 ⟨(some 170), (some (167, true)), .p (.bin .neq), [.t 168, .t 169]⟩ ::
 ⟨(some 171), (some (167, true)), .p .mov, [.t 170]⟩ ::
 ⟨(some 172), (some (171, false)), .p .mov, [.t 13]⟩ ::
 ⟨(some 173), (some (171, false)), .p .mov, [.t 15]⟩ ::
 ⟨(some 174), (some (171, false)), .call, [.c (.func (.func 19) [] []), .t 172, .t 173]⟩ ::
 ⟨(some 175), (some (171, false)), .p .not, [.t 174]⟩ ::
 ⟨(some 176), (some (167, true)), .p .pick, [.t 171, .c (.bool true), .t 175]⟩ ::
 ⟨(some 177), (some (164, false)), .p .pick, [.t 167, .t 176, .c (.bool false)]⟩ ::
 ⟨(some 178), none, .p .pick, [.t 164, .c (.bool true), .t 177]⟩ ::
 []))
(.cond (.t 178)
(.seq (.ops (⟨(some 6), none, .p .mov, [.c (.bool false)]⟩ ::
 []))
.ret)
.skip))
(.seq (.ops (⟨(some 21), none, .p .mov, [.c (.int .i64 0)]⟩ ::
 []))
(.block 6 (.loop L_escapementlaw09_DelayGrows_3)))))))))))
(.ops (⟨(some 47), none, .p .mov, [.t 9]⟩ ::
 ⟨(some 48), none, .p (.bin .add), [.t 47, .c (.int .i64 1)]⟩ ::
 ⟨(some 9), none, .p .mov, [.t 48]⟩ ::
 []))))
def C5 : AFunc := ⟨254, [.tmp 6],
(.seq (.ops (⟨(some 4), none, .a .box, [.t 1]⟩ ::
 ⟨(some 6), none, .p .mov, [.c (.bool false)]⟩ ::
 []))
(.seq (.seq (.ops (⟨(some 26), none, .call, [.c (.func (.func 20) [] [])]⟩ ::
 ⟨(some 27), none, .p .not, [.t 26]⟩ ::
 []))
(.cond (.t 27)
(.seq (.ops (⟨(some 6), none, .p .mov, [.c (.bool false)]⟩ ::
 []))
.ret)
.skip))
(.seq (.ops (⟨(some 28), none, .p .mov, [.t 0]⟩ ::
 ⟨(some 29), none, .call, [.c (.func (.func 23) [] []), .t 28, .c (.int .i64 3)]⟩ ::
 ⟨(some 0), none, .p .mov, [.t 29]⟩ ::
 []))
(.seq (.ops (⟨(some 30), none, .r (.loadN 3), [.t 4]⟩ ::
 ⟨(some 31), none, .a (.bslice [(.int .i64 0), (.int .i64 0), .nils] 1 3 [0]), [.t 30]⟩ ::
 ⟨(some 32), none, .call, [.c (.func (.func 23) [] []), .t 31, .c (.int .i64 1)]⟩ ::
 ⟨(some 7), none, .p .mov, [.t 32]⟩ ::
 []))
(.seq (.seq (.ops (⟨(some 33), none, .p .mov, [.t 7]⟩ ::
 ⟨(some 34), none, .p .lenS, [.t 33]⟩ ::
 ⟨(some 35), none, .p (.bin .neq), [.t 34, .c (.int .i64 1)]⟩ ::
 []))
(.cond (.t 35)
(.seq (.ops (⟨(some 6), none, .p .mov, [.c (.bool false)]⟩ ::
 []))
.ret)
.skip))
(.seq (.ops (⟨(some 36), none, .p .mov, [.t 2]⟩ ::
 ⟨(some 37), none, .call, [.c (.func (.func 24) [] []), .t 36, .c (.int .i64 70)]⟩ ::
 ⟨(some 2), none, .p .mov, [.t 37]⟩ ::
 []))
(.seq (.ops (⟨(some 38), none, .a (.bslice [(.int .i64 0), (.int .i64 0), .nils] 0 3 []), []⟩ ::
 ⟨(some 39), none, .p .mov, [.t 0]⟩ ::
 ⟨(some 40), none, .e (.append 3 40), [.t 38, .t 39]⟩ ::
 ⟨(some 41), none, .p .mov, [.t 7]⟩ ::
 ⟨(some 42), none, .e (.append 3 40), [.t 40, .t 41]⟩ ::
 ⟨(some 8), none, .p .mov, [.t 42]⟩ ::
 []))
(.seq (.seq (.ops (⟨(some 9), none, .p .mov, [.c (.int .i64 0)]⟩ ::
 []))
(.block 0 (.loop L_escapementlaw09_DelayGrows_0)))
(.seq (.ops (⟨(some 6), none, .p .mov, [.c (.bool true)]⟩ ::
 []))
.ret)))))))))⟩
abbrev f_escapementlaw09_DelayGrows : Nat := 5
abbrev C_escapementlaw09_DelayGrows : AFunc := C5
def L_escapementlaw09_DelayFalls_1 : AC := (.seq (.seq (.ops (⟨(some 71), none, .p .mov, [.t 14]⟩ ::
 ⟨(some 72), none, .p .mov, [.t 0]⟩ ::
 ⟨(some 73), none, .p .mov, [.t 7]⟩ ::
 ⟨(some 74), none, .p (.iaddrS 3), [.t 72, .t 73]⟩ ::
 ⟨(some 75), none, .p (.faddr 2), [.t 74]⟩ ::
 ⟨(some 76), none, .r .load1, [.t 75]⟩ ::
 ⟨(some 77), none, .p .lenS, [.t 76]⟩ ::
 ⟨(some 78), none, .p (.bin .lss), [.t 71, .t 77]⟩ ::
 []))
(.cond (.t 78)
.skip
(.exit 2)))
(.seq (.block 3 (.seq (.ops (⟨(some 81), none, .p .mov, [.t 0]⟩ ::
 ⟨(some 82), none, .p .mov, [.t 7]⟩ ::
 ⟨(some 83), none, .p (.iaddrS 3), [.t 81, .t 82]⟩ ::
 ⟨(some 84), none, .p (.faddr 2), [.t 83]⟩ ::
 ⟨(some 85), none, .r .load1, [.t 84]⟩ ::
 ⟨(some 86), none, .p .mov, [.t 14]⟩ ::
 ⟨(some 87), none, .p (.iaddrS 8), [.t 85, .t 86]⟩ ::
 ⟨(some 88), none, .r (.loadN 8), [.t 87]⟩ ::
 ⟨(some 15), none, .a (.alloc [(.int .i64 0), (.int .i64 0), (.int .i64 0), (.int .i64 0), (.int .i64 0), (.int .i64 0), (.int .i64 0), (.int .i64 0)]), []⟩ ::
 ⟨none, none, .e (.store 8), [.t 15, .t 88]⟩ ::
 []))
(.seq (.ops (⟨(some 89), none, .p (.faddr 1), [.t 15]⟩ ::
 ⟨(some 90), none, .r .load1, [.t 89]⟩ ::
 ⟨(some 91), none, .p .mov, [.t 1]⟩ ::
 ⟨(some 92), none, .p .mov, [.t 2]⟩ ::
 ⟨(some 93), none, .p .mx, [.t 91, .t 92]⟩ ::
 ⟨(some 94), none, .p (.bin .gtr), [.t 90, .t 93]⟩ ::
 ⟨(some 95), none, .p .mov, [.t 94]⟩ ::
 ⟨(some 96), (some (95, true)), .p .mov, [.t 10]⟩ ::
 ⟨(some 97), (some (95, true)), .p (.faddr 4), [.t 15]⟩ ::
 ⟨(some 98), (some (95, true)), .r .load1, [.t 97]⟩ ::
 ⟨(some 99), (some (95, true)), .p (.bin .lss), [.t 96, .t 98]⟩ ::
 ⟨(some 100), (some (95, true)), .p .mov, [.t 99]⟩ ::
 ⟨(some 101), (some (100, false)), .p .mov, [.t 10]⟩ ::
 ⟨(some 102), (some (100, false)), .p (.faddr 6), [.t 15]⟩ ::
 ⟨(some 103), (some (100, false)), .r .load1, [.t 102]⟩ ::
 ⟨(some 104), (some (100, false)), .p (.bin .lss), [.t 101, .t 103]⟩ ::
 ⟨(some 105), (some (95, true)), .p .pick, [.t 100, .c (.bool true), .t 104]⟩ ::
 ⟨(some 106), none, .p .pick, [.t 95, .t 105, .c (.bool false)]⟩ ::
 []))
(.cond (.t 106)
(.seq (.ops (⟨(some 6), none, .p .mov, [.c (.bool false)]⟩ ::
 []))
.ret)
.skip))))
(.ops (⟨(some 79), none, .p .mov, [.t 14]⟩ ::
 ⟨(some 80), none, .p (.bin .add), [.t 79, .c (.int .i64 1)]⟩ ::
 ⟨(some 14), none, .p .mov, [.t 80]⟩ ::
 []))))
def L_escapementlaw09_DelayFalls_0 : AC := (.seq (.seq (.ops (⟨(some 22), none, .p .mov, [.t 7]⟩ ::
 ⟨(some 23), none, .p .mov, [.t 0]⟩ ::
 ⟨(some 24), none, .p .lenS, [.t 23]⟩ ::
 ⟨(some 25), none, .p (.bin .lss), [.t 22, .t 24]⟩ ::
 []))
(.cond (.t 25)
.skip
(.exit 0)))
(.seq (.block 1 (.seq (.ops (⟨(some 29), none, .p .mov, [.t 0]⟩ ::
 ⟨(some 30), none, .p .mov, [.t 7]⟩ ::
 ⟨(some 31), none, .p .mov, [.t 1]⟩ ::
 ⟨(some 32), none, .p .mov, [.t 2]⟩ ::
 ⟨(some 33), none, .p .mn, [.t 31, .t 32]⟩ ::
 ⟨(some 34), none, .call, [.c (.func (.func 21) [] []), .t 29, .t 30, .t 33]⟩ ::
 ⟨(some 28), none, .p .mov, [.t 34]⟩ ::
 ⟨(some 35), none, .p (.ext 0), [.t 28]⟩ ::
 ⟨(some 36), none, .p (.ext 1), [.t 28]⟩ ::
 ⟨(some 8), none, .p .mov, [.t 35]⟩ ::
 ⟨(some 9), none, .p .mov, [.t 36]⟩ ::
 []))
(.seq (.ops (⟨(some 38), none, .p .mov, [.t 0]⟩ ::
 ⟨(some 39), none, .p .mov, [.t 7]⟩ ::
 ⟨(some 40), none, .p .mov, [.t 1]⟩ ::
 ⟨(some 41), none, .p .mov, [.t 2]⟩ ::
 ⟨(some 42), none, .p .mx, [.t 40, .t 41]⟩ ::
 ⟨(some 43), none, .call, [.c (.func (.func 21) [] []), .t 38, .t 39, .t 42]⟩ ::
 ⟨(some 37), none, .p .mov, [.t 43]⟩ ::
 ⟨(some 44), none, .p (.ext 0), [.t 37]⟩ ::
 ⟨(some 45), none, .p (.ext 1), [.t 37]⟩ ::
 ⟨(some 10), none, .p .mov, [.t 44]⟩ ::
 ⟨(some 11), none, .p .mov, [.t 45]⟩ ::
 []))
(.seq (.ops (⟨(some 47), none, .p .mov, [.t 0]⟩ ::
 ⟨(some 48), none, .p .mov, [.t 7]⟩ ::
 ⟨(some 49), none, .call, [.c (.func (.func 21) [] []), .t 47, .t 48, .c (.int .i64 64)]⟩ ::
 ⟨(some 46), none, .p .mov, [.t 49]⟩ ::
 ⟨(some 50), none, .p (.ext 0), [.t 46]⟩ ::
 ⟨(some 51), none, .p (.ext 1), [.t 46]⟩ ::
 ⟨(some 12), none, .p .mov, [.t 50]⟩ ::
 ⟨(some 13), none, .p .mov, [.t 51]⟩ ::
 []))
(.seq (.seq (.ops (⟨(some 52), none, .p .mov, [.t 9]⟩ ::
 ⟨(some 53), none, .p (.bin .neq), [.t 52, .c (.int .i64 0)]⟩ ::
 ⟨(some 54), none, .p .mov, [.t 53]⟩ ::
 ⟨(some 55), (some (54, false)), .p .mov, [.t 11]⟩ ::
 ⟨(some 56), (some (54, false)), .p (.bin .neq), [.t 55, .c (.int .i64 0)]⟩ ::
 ⟨(some 57), none, .p .pick, [.t 54, .c (.bool true), .t 56]⟩ ::
 ⟨(some 58), none, .p .mov, [.t 57]⟩ ::
 ⟨(some 59), (some (58, false)), .p .mov, [.t 13]⟩ ::
 ⟨(some 60), (some (58, false)), .p (.bin .neq), [.t 59, .c (.int .i64 0)]⟩ ::
 ⟨(some 61), none, .p .pick, [.t 58, .c (.bool true), .t 60]⟩ ::
 ⟨(some 62), none, .p .mov, [.t 61]⟩ ::
 ⟨(some 63), (some (62, false)), .p .mov, [.t 10]⟩ ::
 ⟨(some 64), (some (62, false)), .p .mov, [.t 8]⟩ ::
 ⟨(some 65), (some (62, false)), .p (.bin .gtr), [.t 63, .t 64]⟩ ::
 ⟨(some 66), none, .p .pick, [.t 62, .c (.bool true), .t 65]⟩ ::
 ⟨(some 67), none, .p .mov, [.t 66]⟩ ::
 ⟨(some 68), (some (67, false)), .p .mov, [.t 12]⟩ ::
 ⟨(some 69), (some (67, false)), .p (.bin .neq), [.t 68, .c (.int .i64 0)]⟩ ::
 ⟨(some 70), none, .p .pick, [.t 67, .c (.bool true), .t 69]⟩ ::
 []))
(.cond (.t 70)
(.seq (.ops (⟨(some 6), none, .p .mov, [.c (.bool false)]⟩ ::
 []))
.ret)
.skip))
(.seq (.ops (⟨(some 14), none, .p .mov, [.c (.int .i64 0)]⟩ ::
 []))
(.block 2 (.loop L_escapementlaw09_DelayFalls_1))))))))
(.ops (⟨(some 26), none, .p .mov, [.t 7]⟩ ::
 ⟨(some 27), none, .p (.bin .add), [.t 26, .c (.int .i64 1)]⟩ ::
 ⟨(some 7), none, .p .mov, [.t 27]⟩ ::
 []))))
def C6 : AFunc := ⟨108, [.tmp 6],
(.seq (.ops (⟨(some 6), none, .p .mov, [.c (.bool false)]⟩ ::
 []))
(.seq (.ops (⟨(some 16), none, .p .mov, [.t 0]⟩ ::
 ⟨(some 17), none, .call, [.c (.func (.func 23) [] []), .t 16, .c (.int .i64 4)]⟩ ::
 ⟨(some 0), none, .p .mov, [.t 17]⟩ ::
 []))
(.seq (.ops (⟨(some 18), none, .p .mov, [.t 1]⟩ ::
 ⟨(some 19), none, .call, [.c (.func (.func 24) [] []), .t 18, .c (.int .i64 70)]⟩ ::
 ⟨(some 20), none, .p .mov, [.t 2]⟩ ::
 ⟨(some 21), none, .call, [.c (.func (.func 24) [] []), .t 20, .c (.int .i64 70)]⟩ ::
 ⟨(some 1), none, .p .mov, [.t 19]⟩ ::
 ⟨(some 2), none, .p .mov, [.t 21]⟩ ::
 []))
(.seq (.seq (.ops (⟨(some 7), none, .p .mov, [.c (.int .i64 0)]⟩ ::
 []))
(.block 0 (.loop L_escapementlaw09_DelayFalls_0)))
(.seq (.ops (⟨(some 107), none, .call, [.c (.func (.func 20) [] [])]⟩ ::
 ⟨(some 6), none, .p .mov, [.t 107]⟩ ::
 []))
.ret)))))⟩
abbrev f_escapementlaw09_DelayFalls : Nat := 6
abbrev C_escapementlaw09_DelayFalls : AFunc := C6
def L_escapementlaw09_DelayNames_0 : AC := (.seq (.seq (.ops (⟨(some 117), none, .p .mov, [.t 18]⟩ ::
 ⟨(some 118), none, .p (.bin .lss), [.t 117, .c (.int .i64 14)]⟩ ::
 []))
(.cond (.t 118)
.skip
(.exit 0)))
(.seq (.block 1 (.seq (.ops (⟨(some 121), none, .r (.loadN 3), [.t 1]⟩ ::
 ⟨(some 19), none, .a (.alloc [(.int .i64 0), (.int .i64 0), .nils]), []⟩ ::
 ⟨none, none, .e (.store 3), [.t 19, .t 121]⟩ ::
 []))
(.seq (.ops (⟨(some 122), none, .p (.faddr 2), [.t 1]⟩ ::
 ⟨(some 123), none, .r .load1, [.t 122]⟩ ::
 ⟨(some 124), none, .p (.iaddrS 8), [.t 123, .c (.int .i64 0)]⟩ ::
 ⟨(some 125), none, .r (.loadN 8), [.t 124]⟩ ::
 ⟨(some 20), none, .a (.alloc [(.int .i64 0), (.int .i64 0), (.int .i64 0), (.int .i64 0), (.int .i64 0), (.int .i64 0), (.int .i64 0), (.int .i64 0)]), []⟩ ::
 ⟨none, none, .e (.store 8), [.t 20, .t 125]⟩ ::
 []))
(.seq (.seq (.ops (⟨(some 126), none, .p .mov, [.t 18]⟩ ::
 []))
(.block 2 (.seq (.ops (⟨(some 129), none, .p (.bin .eql), [.t 126, .c (.int .i64 0)]⟩ ::
 ⟨(some 128), none, .p .mov, [.t 129]⟩ ::
 []))
(.cond (.t 128)
(.ops (⟨(some 130), none, .p (.faddr 0), [.t 19]⟩ ::
 ⟨none, none, .e (.store 1), [.t 130, .c (.int .i64 65)]⟩ ::
 []))
(.seq (.ops (⟨(some 132), none, .p (.bin .eql), [.t 126, .c (.int .i64 1)]⟩ ::
 ⟨(some 131), none, .p .mov, [.t 132]⟩ ::
 []))
(.cond (.t 131)
(.ops (⟨(some 133), none, .p (.faddr 1), [.t 19]⟩ ::
 ⟨none, none, .e (.store 1), [.t 133, .c (.int .i64 65)]⟩ ::
 []))
(.seq (.ops (⟨(some 135), none, .p (.bin .eql), [.t 126, .c (.int .i64 2)]⟩ ::
 ⟨(some 134), none, .p .mov, [.t 135]⟩ ::
 []))
(.cond (.t 134)
(.ops (⟨(some 136), none, .p (.faddr 1), [.t 19]⟩ ::
 ⟨none, none, .e (.store 1), [.t 136, .c (.int .i64 0)]⟩ ::
 []))
(.seq (.ops (⟨(some 138), none, .p (.bin .eql), [.t 126, .c (.int .i64 3)]⟩ ::
 ⟨(some 137), none, .p .mov, [.t 138]⟩ ::
 []))
(.cond (.t 137)
(.ops (⟨(some 139), none, .p (.faddr 2), [.t 20]⟩ ::
 ⟨none, none, .e (.store 1), [.t 139, .c (.int .i64 65)]⟩ ::
 []))
(.seq (.ops (⟨(some 141), none, .p (.bin .eql), [.t 126, .c (.int .i64 4)]⟩ ::
 ⟨(some 140), none, .p .mov, [.t 141]⟩ ::
 []))
(.cond (.t 140)
(.ops (⟨(some 142), none, .p (.faddr 4), [.t 20]⟩ ::
 ⟨none, none, .e (.store 1), [.t 142, .c (.int .i64 65)]⟩ ::
 []))
(.seq (.ops (⟨(some 144), none, .p (.bin .eql), [.t 126, .c (.int .i64 5)]⟩ ::
 ⟨(some 143), none, .p .mov, [.t 144]⟩ ::
 []))
(.cond (.t 143)
(.ops (⟨(some 145), none, .p (.faddr 4), [.t 20]⟩ ::
 ⟨none, none, .e (.store 1), [.t 145, .c (.int .i64 (-1))]⟩ ::
 []))
(.seq (.ops (⟨(some 147), none, .p (.bin .eql), [.t 126, .c (.int .i64 6)]⟩ ::
 ⟨(some 146), none, .p .mov, [.t 147]⟩ ::
 []))
(.cond (.t 146)
(.ops (⟨(some 148), none, .p (.faddr 5), [.t 20]⟩ ::
 ⟨none, none, .e (.store 1), [.t 148, .c (.int .i64 5)]⟩ ::
 []))
(.seq (.ops (⟨(some 150), none, .p (.bin .eql), [.t 126, .c (.int .i64 7)]⟩ ::
 ⟨(some 149), none, .p .mov, [.t 150]⟩ ::
 []))
(.cond (.t 149)
(.ops (⟨(some 151), none, .p (.faddr 5), [.t 20]⟩ ::
 ⟨none, none, .e (.store 1), [.t 151, .c (.int .i64 (-1))]⟩ ::
 []))
(.seq (.ops (⟨(some 153), none, .p (.bin .eql), [.t 126, .c (.int .i64 8)]⟩ ::
 ⟨(some 152), none, .p .mov, [.t 153]⟩ ::
 []))
(.cond (.t 152)
(.ops (⟨(some 154), none, .p (.faddr 5), [.t 20]⟩ ::
 ⟨none, none, .e (.store 1), [.t 154, .c (.int .i64 0)]⟩ ::
 []))
(.seq (.ops (⟨(some 156), none, .p (.bin .eql), [.t 126, .c (.int .i64 9)]⟩ ::
 ⟨(some 155), none, .p .mov, [.t 156]⟩ ::
 []))
(.cond (.t 155)
(.ops (⟨(some 157), none, .p (.faddr 6), [.t 20]⟩ ::
 ⟨none, none, .e (.store 1), [.t 157, .c (.int .i64 33)]⟩ ::
 []))
(.seq (.ops (⟨(some 159), none, .p (.bin .eql), [.t 126, .c (.int .i64 10)]⟩ ::
 ⟨(some 158), none, .p .mov, [.t 159]⟩ ::
 []))
(.cond (.t 158)
(.ops (⟨(some 160), none, .p (.faddr 6), [.t 20]⟩ ::
 ⟨none, none, .e (.store 1), [.t 160, .c (.int .i64 0)]⟩ ::
 []))
(.seq (.ops (⟨(some 162), none, .p (.bin .eql), [.t 126, .c (.int .i64 11)]⟩ ::
 ⟨(some 161), none, .p .mov, [.t 162]⟩ ::
 []))
(.cond (.t 161)
(.ops (⟨(some 163), none, .p (.faddr 7), [.t 20]⟩ ::
 ⟨none, none, .e (.store 1), [.t 163, .c (.int .i64 0)]⟩ ::
 []))
(.seq (.ops (⟨(some 165), none, .p (.bin .eql), [.t 126, .c (.int .i64 12)]⟩ ::
 ⟨(some 164), none, .p .mov, [.t 165]⟩ ::
 []))
(.cond (.t 164)
(.ops (⟨(some 166), none, .p (.faddr 7), [.t 20]⟩ ::
 ⟨none, none, .e (.store 1), [.t 166, .c (.int .i64 4611686018427387904)]⟩ ::
 []))
(.ops (⟨(some 127), none, .p (.faddr 1), [.t 19]⟩ ::
 ⟨none, none, .e (.store 1), [.t 127, .c (.int .i64 31)]⟩ ::
 []))))))))))))))))))))))))))))))
(.seq (.ops (⟨(some 167), none, .r (.loadN 8), [.t 20]⟩ ::
 ⟨(some 168), none, .a (.bslice [(.int .i64 0), (.int .i64 0), (.int .i64 0), (.int .i64 0), (.int .i64 0), (.int .i64 0), (.int .i64 0), (.int .i64 0)] 1 8 [0]), [.t 167]⟩ ::
 ⟨(some 169), none, .p (.faddr 2), [.t 19]⟩ ::
 ⟨none, none, .e (.store 1), [.t 169, .t 168]⟩ ::
 []))
(.seq (.ops (⟨(some 171), none, .r (.loadN 3), [.t 19]⟩ ::
 ⟨(some 172), none, .a (.bslice [(.int .i64 0), (.int .i64 0), .nils] 1 3 [0]), [.t 171]⟩ ::
 ⟨(some 173), none, .call, [.c (.func (.func 15) [] []), .t 172, .c (.int .i64 0)]⟩ ::
 ⟨(some 170), none, .p .mov, [.t 173]⟩ ::
 ⟨(some 174), none, .p (.ext 0), [.t 170]⟩ ::
 ⟨(some 175), none, .p (.ext 1), [.t 170]⟩ ::
 ⟨(some 21), none, .p .mov, [.t 174]⟩ ::
 ⟨(some 22), none, .p .mov, [.t 175]⟩ ::
 []))
(.seq (.ops (⟨(some 176), none, .r (.loadN 3), [.t 19]⟩ ::
 ⟨(some 177), none, .a (.bslice [(.int .i64 0), (.int .i64 0), .nils] 1 3 [0]), [.t 176]⟩ ::
 ⟨(some 178), none, .call, [.c (.func (.func 17) [] []), .t 177]⟩ ::
 ⟨(some 179), none, .p (.bin .neq), [.t 178, .c (.int .i64 2)]⟩ ::
 ⟨(some 180), none, .p .mov, [.t 179]⟩ ::
 ⟨(some 181), (some (180, false)), .p .mov, [.t 22]⟩ ::
 ⟨(some 182), (some (180, false)), .p (.bin .neq), [.t 181, .c (.int .i64 2)]⟩ ::
 ⟨(some 183), none, .p .pick, [.t 180, .c (.bool true), .t 182]⟩ ::
 []))
(.cond (.t 183)
(.seq (.ops (⟨(some 0), none, .p .mov, [.c (.bool false)]⟩ ::
 []))
.ret)
.skip))))))))
(.ops (⟨(some 119), none, .p .mov, [.t 18]⟩ ::
 ⟨(some 120), none, .p (.bin .add), [.t 119, .c (.int .i64 1)]⟩ ::
 ⟨(some 18), none, .p .mov, [.t 120]⟩ ::
 []))))
def C7 : AFunc := ⟨190, [.tmp 0],
(.seq (.ops (⟨(some 0), none, .p .mov, [.c (.bool false)]⟩ ::
 []))
(.seq (.ops (⟨(some 23), none, .p (.build [(.int .i64 0), (.int .i64 0), (.int .i64 0), (.int .i64 0), (.int .i64 0), (.int .i64 0), (.int .i64 0), (.int .i64 0)] [(0, 1), (1, 1), (2, 1), (4, 1), (5, 1), (6, 1), (7, 1)]), [.c (.int .i64 64), .c (.int .i64 64), .c (.int .i64 64), .c (.int .i64 64), .c (.int .i64 4), .c (.int .i64 32), .c (.int .i64 2)]⟩ ::
 ⟨(some 24), none, .a (.bslice [(.int .i64 0), (.int .i64 0), (.int .i64 0), (.int .i64 0), (.int .i64 0), (.int .i64 0), (.int .i64 0), (.int .i64 0)] 1 8 [0]), [.t 23]⟩ ::
 ⟨(some 25), none, .p (.build [(.int .i64 0), (.int .i64 0), .nils] [(0, 1), (1, 1), (2, 1)]), [.c (.int .i64 64), .c (.int .i64 64), .t 24]⟩ ::
 ⟨(some 1), none, .a (.alloc [(.int .i64 0), (.int .i64 0), .nils]), []⟩ ::
 ⟨none, none, .e (.store 3), [.t 1, .t 25]⟩ ::
 []))
(.seq (.ops (⟨(some 26), none, .r (.loadN 3), [.t 1]⟩ ::
 ⟨(some 27), none, .r (.loadN 3), [.t 1]⟩ ::
 ⟨(some 28), none, .r (.loadN 3), [.t 1]⟩ ::
 ⟨(some 29), none, .r (.loadN 3), [.t 1]⟩ ::
 ⟨(some 30), none, .a (.bslice [(.int .i64 0), (.int .i64 0), .nils] 4 3 [0, 1, 2, 3]), [.t 26, .t 27, .t 28, .t 29]⟩ ::
 ⟨(some 2), none, .p .mov, [.t 30]⟩ ::
 []))
(.seq (.ops (⟨(some 32), none, .p .mov, [.t 2]⟩ ::
 ⟨(some 33), none, .call, [.c (.func (.func 13) [] []), .t 32, .c (.int .i64 3), .c (.int .i64 0)]⟩ ::
 ⟨(some 31), none, .p .mov, [.t 33]⟩ ::
 ⟨(some 34), none, .p (.ext 0), [.t 31]⟩ ::
 ⟨(some 35), none, .p (.ext 1), [.t 31]⟩ ::
 ⟨(some 3), none, .p .mov, [.t 34]⟩ ::
 ⟨(some 4), none, .p .mov, [.t 35]⟩ ::
 []))
(.seq (.ops (⟨(some 37), none, .p .mov, [.t 2]⟩ ::
 ⟨(some 38), none, .call, [.c (.func (.func 21) [] []), .t 37, .c (.int .i64 0), .c (.int .i64 63)]⟩ ::
 ⟨(some 36), none, .p .mov, [.t 38]⟩ ::
 ⟨(some 39), none, .p (.ext 0), [.t 36]⟩ ::
 ⟨(some 40), none, .p (.ext 1), [.t 36]⟩ ::
 ⟨(some 5), none, .p .mov, [.t 39]⟩ ::
 ⟨(some 6), none, .p .mov, [.t 40]⟩ ::
 []))
(.seq (.ops (⟨(some 42), none, .p .mov, [.t 2]⟩ ::
 ⟨(some 43), none, .call, [.c (.func (.func 13) [] []), .t 42, .c (.int .i64 4), .c (.int .i64 0)]⟩ ::
 ⟨(some 41), none, .p .mov, [.t 43]⟩ ::
 ⟨(some 44), none, .p (.ext 0), [.t 41]⟩ ::
 ⟨(some 45), none, .p (.ext 1), [.t 41]⟩ ::
 ⟨(some 7), none, .p .mov, [.t 44]⟩ ::
 ⟨(some 8), none, .p .mov, [.t 45]⟩ ::
 []))
(.seq (.ops (⟨(some 47), none, .p .mov, [.t 2]⟩ ::
 ⟨(some 48), none, .call, [.c (.func (.func 13) [] []), .t 47, .c (.int .i64 0), .c (.int .i64 1)]⟩ ::
 ⟨(some 46), none, .p .mov, [.t 48]⟩ ::
 ⟨(some 49), none, .p (.ext 0), [.t 46]⟩ ::
 ⟨(some 50), none, .p (.ext 1), [.t 46]⟩ ::
 ⟨(some 9), none, .p .mov, [.t 49]⟩ ::
 ⟨(some 10), none, .p .mov, [.t 50]⟩ ::
 []))
(.seq (.ops (⟨(some 52), none, .p .mov, [.t 2]⟩ ::
 ⟨(some 53), none, .call, [.c (.func (.func 15) [] []), .t 52, .c (.int .i64 (-1))]⟩ ::
 ⟨(some 51), none, .p .mov, [.t 53]⟩ ::
 ⟨(some 54), none, .p (.ext 0), [.t 51]⟩ ::
 ⟨(some 55), none, .p (.ext 1), [.t 51]⟩ ::
 ⟨(some 11), none, .p .mov, [.t 54]⟩ ::
 ⟨(some 12), none, .p .mov, [.t 55]⟩ ::
 []))
(.seq (.ops (⟨(some 57), none, .p .mov, [.t 2]⟩ ::
 ⟨(some 58), none, .call, [.c (.func (.func 21) [] []), .t 57, .c (.int .i64 0), .c (.int .i64 (-1))]⟩ ::
 ⟨(some 56), none, .p .mov, [.t 58]⟩ ::
 ⟨(some 59), none, .p (.ext 0), [.t 56]⟩ ::
 ⟨(some 60), none, .p (.ext 1), [.t 56]⟩ ::
 ⟨(some 13), none, .p .mov, [.t 59]⟩ ::
 ⟨(some 14), none, .p .mov, [.t 60]⟩ ::
 []))
(.seq (.ops (⟨(some 62), none, .p .mov, [.t 2]⟩ ::
 ⟨(some 63), none, .call, [.c (.func (.func 21) [] []), .t 62, .c (.int .i64 9), .c (.int .i64 (-1))]⟩ ::
 ⟨(some 61), none, .p .mov, [.t 63]⟩ ::
 ⟨(some 64), none, .p (.ext 0), [.t 61]⟩ ::
 ⟨(some 65), none, .p (.ext 1), [.t 61]⟩ ::
 ⟨(some 15), none, .p .mov, [.t 64]⟩ ::
 ⟨(some 16), none, .p .mov, [.t 65]⟩ ::
 []))
(.seq (.ops (⟨(some 66), none, .p .mov, [.t 2]⟩ ::
 ⟨(some 67), none, .call, [.c (.func (.func 17) [] []), .t 66]⟩ ::
 ⟨(some 68), none, .p (.bin .eql), [.t 67, .c (.int .i64 0)]⟩ ::
 ⟨(some 69), none, .p .mov, [.t 68]⟩ ::
 ⟨(some 70), (some (69, true)), .call, [.c (.func (.func 17) [] []), .c .nils]⟩ ::
 ⟨(some 71), (some (69, true)), .p (.bin .eql), [.t 70, .c (.int .i64 0)]⟩ ::
 ⟨(some 72), none, .p .pick, [.t 69, .t 71, .c (.bool false)]⟩ ::
 ⟨(some 73), none, .p .mov, [.t 72]⟩ ::
 ⟨(some 74), (some (73, true)), .p .mov, [.t 2]⟩ ::
 ⟨(some 75), (some (73, true)), .r (.loadN 3), [.t 1]⟩ ::
 ⟨(some 76), (some (73, true)), .a (.bslice [(.int .i64 0), (.int .i64 0), .nils] 1 3 [0]), [.t 75]⟩ ::
 ⟨(some 77), (some (73, true)), .e (.append 3 40), [.t 74, .t 76]⟩ ::
 ⟨(some 78), (some (73, true)), .call, [.c (.func (.func 17) [] []), .t 77]⟩ ::
 ⟨(some 79), (some (73, true)), .p (.bin .eql), [.t 78, .c (.int .i64 2)]⟩ ::
 ⟨(some 80), none, .p .pick, [.t 73, .t 79, .c (.bool false)]⟩ ::
 ⟨(some 81), none, .p .mov, [.t 80]⟩ ::
 ⟨(some 82), (some (81, true)), .p .mov, [.t 3]⟩ ::
 ⟨(some 83), (some (81, true)), .p (.bin .eql), [.t 82, .c (.int .i64 384)]⟩ ::
 ⟨(some 84), none, .p .pick, [.t 81, .t 83, .c (.bool false)]⟩ ::
 ⟨(some 85), none, .p .mov, [.t 84]⟩ ::
 ⟨(some 86), (some (85, true)), .p .mov, [.t 4]⟩ ::
 ⟨(some 87), (some (85, true)), .p (.bin .eql), [.t 86, .c (.int .i64 0)]⟩ ::
 ⟨(some 88), none, .p .pick, [.t 85, .t 87, .c (.bool false)]⟩ ::
 ⟨(some 89), none, .p .mov, [.t 88]⟩ ::
 ⟨(some 90), (some (89, true)), .p .mov, [.t 5]⟩ ::
 ⟨(some 91), (some (89, true)), .p (.bin .eql), [.t 90, .c (.int .i64 447)]⟩ ::
 ⟨(some 92), none, .p .pick, [.t 89, .t 91, .c (.bool false)]⟩ ::
 ⟨(some 93), none, .p .mov, [.t 92]⟩ ::
 ⟨(some 94), (some (93, true)), .p .mov, [.t 6]⟩ ::
 ⟨(some 95), (some (93, true)), .p (.bin .eql), [.t 94, .c (.int .i64 0)]⟩ ::
 ⟨(some 96), none, .p .pick, [.t 93, .t 95, .c (.bool false)]⟩ ::
 ⟨(some 97), none, .p .mov, [.t 96]⟩ ::
 ⟨(some 98), (some (97, true)), .p .mov, [.t 8]⟩ ::
 ⟨(some 99), (some (97, true)), .p (.bin .eql), [.t 98, .c (.int .i64 9)]⟩ ::
 ⟨(some 100), none, .p .pick, [.t 97, .t 99, .c (.bool false)]⟩ ::
 ⟨(some 101), none, .p .mov, [.t 100]⟩ ::
 ⟨(some 102), (some (101, true)), .p .mov, [.t 10]⟩ ::
 ⟨(some 103), (some (101, true)), .p (.bin .eql), [.t 102, .c (.int .i64 9)]⟩ ::
 ⟨(some 104), none, .p .pick, [.t 101, .t 103, .c (.bool false)]⟩ ::
 ⟨(some 105), none, .p .mov, [.t 104]⟩ ::
 ⟨(some 106), (some (105, true)), .p .mov, [.t 12]⟩ ::
 ⟨(some 107), (some (105, true)), .p (.bin .eql), [.t 106, .c (.int .i64 9)]⟩ ::
 ⟨(some 108), none, .p .pick, [.t 105, .t 107, .c (.bool false)]⟩ ::
 ⟨(some 109), none, .p .mov, [.t 108]⟩ ::
 ⟨(some 110), (some (109, true)), .p .mov, [.t 14]⟩ ::
 ⟨(some 111), (some (109, true)), .p (.bin .eql), [.t 110, .c (.int .i64 2)]⟩ ::
 ⟨(some 112), none, .p .pick, [.t 109, .t 111, .c (.bool false)]⟩ ::
 ⟨(some 113), none, .p .mov, [.t 112]⟩ ::
 ⟨(some 114), (some (113, true)), .p .mov, [.t 16]⟩ ::
 ⟨(some 115), (some (113, true)), .p (.bin .eql), [.t 114, .c (.int .i64 9)]⟩ ::
 ⟨(some 116), none, .p .pick, [.t 113, .t 115, .c (.bool false)]⟩ ::
 ⟨(some 17), none, .p .mov, [.t 116]⟩ ::
 []))
(.seq (.seq (.ops (⟨(some 18), none, .p .mov, [.c (.int .i64 0)]⟩ ::
 []))
(.block 0 (.loop L_escapementlaw09_DelayNames_0)))
(.seq (.ops (⟨(some 184), none, .p .mov, [.c (.bool true)]⟩ ::
 ⟨(some 185), (some (184, true)), .call, [.c (.func (.func 20) [] [])]⟩ ::
 ⟨(some 186), none, .p .pick, [.t 184, .t 185, .c (.bool false)]⟩ ::
 ⟨(some 187), none, .p .mov, [.t 186]⟩ ::
 ⟨(some 188), (some (187, true)), .p .mov, [.t 17]⟩ ::
 ⟨(some 189), none, .p .pick, [.t 187, .t 188, .c (.bool false)]⟩ ::
 ⟨(some 0), none, .p .mov, [.t 189]⟩ ::
 []))
.ret)))))))))))))⟩
abbrev f_escapementlaw09_DelayNames : Nat := 7
abbrev C_escapementlaw09_DelayNames : AFunc := C7
def C8 : AFunc := ⟨53, [.tmp 6],
(.seq (.ops (⟨(some 6), none, .p .mov, [.c (.bool false)]⟩ ::
 []))
(.seq (.ops (⟨(some 12), none, .p .mov, [.t 1]⟩ ::
 ⟨(some 13), none, .call, [.c (.func (.func 25) [] []), .t 12]⟩ ::
 ⟨(some 7), none, .p .mov, [.t 13]⟩ ::
 []))
(.seq (.ops (⟨(some 15), none, .p .mov, [.t 0]⟩ ::
 ⟨(some 16), none, .p .mov, [.t 7]⟩ ::
 ⟨(some 17), none, .p .mov, [.t 2]⟩ ::
 ⟨(some 18), none, .call, [.c (.func (.func 26) [] []), .t 15, .t 16, .t 17]⟩ ::
 ⟨(some 14), none, .p .mov, [.t 18]⟩ ::
 ⟨(some 19), none, .p (.ext 0), [.t 14]⟩ ::
 ⟨(some 20), none, .p (.ext 1), [.t 14]⟩ ::
 ⟨(some 8), none, .p .mov, [.t 19]⟩ ::
 ⟨(some 9), none, .p .mov, [.t 20]⟩ ::
 []))
(.seq (.ops (⟨(some 22), none, .p .mov, [.t 0]⟩ ::
 ⟨(some 23), none, .p .mov, [.t 1]⟩ ::
 ⟨(some 24), none, .p .mov, [.t 2]⟩ ::
 ⟨(some 25), none, .call, [.c (.func (.func 27) [] []), .t 22, .t 23, .t 24]⟩ ::
 ⟨(some 21), none, .p .mov, [.t 25]⟩ ::
 ⟨(some 26), none, .p (.ext 0), [.t 21]⟩ ::
 ⟨(some 27), none, .p (.ext 1), [.t 21]⟩ ::
 ⟨(some 10), none, .p .mov, [.t 26]⟩ ::
 ⟨(some 11), none, .p .mov, [.t 27]⟩ ::
 []))
(.seq (.ops (⟨(some 28), none, .p .mov, [.t 0]⟩ ::
 ⟨(some 29), none, .p .mov, [.t 7]⟩ ::
 ⟨(some 30), none, .call, [.c (.func (.func 28) [] []), .t 28, .t 29]⟩ ::
 ⟨(some 31), none, .p .mov, [.t 0]⟩ ::
 ⟨(some 32), none, .p .mov, [.t 1]⟩ ::
 ⟨(some 33), none, .call, [.c (.func (.func 29) [] []), .t 31, .t 32]⟩ ::
 ⟨(some 34), none, .p (.bin .eql), [.t 30, .t 33]⟩ ::
 ⟨(some 35), none, .p .mov, [.t 34]⟩ ::
 ⟨(some 36), (some (35, true)), .p .mov, [.t 8]⟩ ::
 ⟨(some 37), (some (35, true)), .p .mov, [.t 10]⟩ ::
 ⟨(some 38), (some (35, true)), .p (.bin .eql), [.t 36, .t 37]⟩ ::
 ⟨(some 39), none, .p .pick, [.t 35, .t 38, .c (.bool false)]⟩ ::
 ⟨(some 40), none, .p .mov, [.t 39]⟩ ::
 ⟨(some 41), (some (40, true)), .p .mov, [.t 9]⟩ ::
 ⟨(some 42), (some (40, true)), .p .mov, [.t 11]⟩ ::
 ⟨(some 43), (some (40, true)), .p (.bin .eql), [.t 41, .t 42]⟩ ::
 ⟨(some 44), none, .p .pick, [.t 40, .t 43, .c (.bool false)]⟩ ::
 ⟨(some 45), none, .p .mov, [.t 44]⟩ ::
 ⟨(some 46), (some (45, true)), .p .mov, [.t 7]⟩ ::
 ⟨(some 47), (some (45, true)), .p .mov, [.t 1]⟩ ::
 ⟨(some 48), (some (45, true)), .call, [.c (.func (.func 19) [] []), .t 46, .t 47]⟩ ::
 ⟨(some 49), none, .p .pick, [.t 45, .t 48, .c (.bool false)]⟩ ::
 ⟨(some 50), none, .p .mov, [.t 49]⟩ ::
 ⟨(some 51), (some (50, true)), .call, [.c (.func (.func 30) [] [])]⟩ ::
 ⟨(some 52), none, .p .pick, [.t 50, .t 51, .c (.bool false)]⟩ ::
 ⟨(some 6), none, .p .mov, [.t 52]⟩ ::
 []))
.ret)))))⟩
abbrev f_escapementlaw08_DemandOf : Nat := 8
abbrev C_escapementlaw08_DemandOf : AFunc := C8
def C9 : AFunc := ⟨90, [.tmp 6],
(.seq (.ops (⟨(some 6), none, .p .mov, [.c (.bool false)]⟩ ::
 []))
(.seq (.ops (⟨(some 20), none, .p .mov, [.t 0]⟩ ::
 ⟨(some 21), none, .p .mov, [.t 2]⟩ ::
 ⟨(some 22), none, .call, [.c (.func (.func 31) [] []), .t 20, .t 21]⟩ ::
 ⟨(some 19), none, .p .mov, [.t 22]⟩ ::
 ⟨(some 23), none, .p (.ext 0), [.t 19]⟩ ::
 ⟨(some 24), none, .p (.ext 1), [.t 19]⟩ ::
 ⟨(some 7), none, .p .mov, [.t 23]⟩ ::
 ⟨(some 8), none, .p .mov, [.t 24]⟩ ::
 []))
(.seq (.ops (⟨(some 26), none, .p .mov, [.t 0]⟩ ::
 ⟨(some 27), none, .p .mov, [.t 2]⟩ ::
 ⟨(some 28), none, .call, [.c (.func (.func 32) [] []), .t 26, .t 27]⟩ ::
 ⟨(some 25), none, .p .mov, [.t 28]⟩ ::
 ⟨(some 29), none, .p (.ext 0), [.t 25]⟩ ::
 ⟨(some 30), none, .p (.ext 1), [.t 25]⟩ ::
 ⟨(some 9), none, .p .mov, [.t 29]⟩ ::
 ⟨(some 10), none, .p .mov, [.t 30]⟩ ::
 []))
(.seq (.ops (⟨(some 32), none, .p .mov, [.t 0]⟩ ::
 ⟨(some 33), none, .p .mov, [.t 1]⟩ ::
 ⟨(some 34), none, .p .mov, [.t 2]⟩ ::
 ⟨(some 35), none, .call, [.c (.func (.func 33) [] []), .t 32, .t 33, .t 34]⟩ ::
 ⟨(some 31), none, .p .mov, [.t 35]⟩ ::
 ⟨(some 36), none, .p (.ext 0), [.t 31]⟩ ::
 ⟨(some 37), none, .p (.ext 1), [.t 31]⟩ ::
 ⟨(some 11), none, .p .mov, [.t 36]⟩ ::
 ⟨(some 12), none, .p .mov, [.t 37]⟩ ::
 []))
(.seq (.ops (⟨(some 39), none, .p .mov, [.t 0]⟩ ::
 ⟨(some 40), none, .p .mov, [.t 1]⟩ ::
 ⟨(some 41), none, .p .mov, [.t 2]⟩ ::
 ⟨(some 42), none, .call, [.c (.func (.func 34) [] []), .t 39, .t 40, .t 41]⟩ ::
 ⟨(some 38), none, .p .mov, [.t 42]⟩ ::
 ⟨(some 43), none, .p (.ext 0), [.t 38]⟩ ::
 ⟨(some 44), none, .p (.ext 1), [.t 38]⟩ ::
 ⟨(some 13), none, .p .mov, [.t 43]⟩ ::
 ⟨(some 14), none, .p .mov, [.t 44]⟩ ::
 []))
(.seq (.ops (⟨(some 46), none, .p .mov, [.t 0]⟩ ::
 ⟨(some 47), none, .p .mov, [.t 1]⟩ ::
 ⟨(some 48), none, .p .mov, [.t 9]⟩ ::
 ⟨(some 49), none, .call, [.c (.func (.func 33) [] []), .t 46, .t 47, .t 48]⟩ ::
 ⟨(some 45), none, .p .mov, [.t 49]⟩ ::
 ⟨(some 50), none, .p (.ext 0), [.t 45]⟩ ::
 ⟨(some 51), none, .p (.ext 1), [.t 45]⟩ ::
 ⟨(some 15), none, .p .mov, [.t 50]⟩ ::
 ⟨(some 16), none, .p .mov, [.t 51]⟩ ::
 []))
(.seq (.ops (⟨(some 53), none, .p .mov, [.t 0]⟩ ::
 ⟨(some 54), none, .p .mov, [.t 1]⟩ ::
 ⟨(some 55), none, .p .mov, [.t 9]⟩ ::
 ⟨(some 56), none, .call, [.c (.func (.func 34) [] []), .t 53, .t 54, .t 55]⟩ ::
 ⟨(some 52), none, .p .mov, [.t 56]⟩ ::
 ⟨(some 57), none, .p (.ext 0), [.t 52]⟩ ::
 ⟨(some 58), none, .p (.ext 1), [.t 52]⟩ ::
 ⟨(some 17), none, .p .mov, [.t 57]⟩ ::
 ⟨(some 18), none, .p .mov, [.t 58]⟩ ::
 []))
(.seq (.ops (⟨(some 59), none, .p .mov, [.t 7]⟩ ::
 ⟨(some 60), none, .p .mov, [.t 9]⟩ ::
 ⟨(some 61), none, .p (.bin .eql), [.t 59, .t 60]⟩ ::
 ⟨(some 62), none, .p .mov, [.t 61]⟩ ::
 ⟨(some 63), (some (62, true)), .p .mov, [.t 8]⟩ ::
 ⟨(some 64), (some (62, true)), .p .mov, [.t 10]⟩ ::
 ⟨(some 65), (some (62, true)), .p (.bin .eql), [.t 63, .t 64]⟩ ::
 ⟨(some 66), none, .p .pick, [.t 62, .t 65, .c (.bool false)]⟩ ::
 ⟨(some 67), none, .p .mov, [.t 66]⟩ ::
 ⟨(some 68), (some (67, true)), .p .mov, [.t 11]⟩ ::
 ⟨(some 69), (some (67, true)), .p .mov, [.t 13]⟩ ::
 ⟨(some 70), (some (67, true)), .p (.bin .eql), [.t 68, .t 69]⟩ ::
 ⟨(some 71), none, .p .pick, [.t 67, .t 70, .c (.bool false)]⟩ ::
 ⟨(some 72), none, .p .mov, [.t 71]⟩ ::
 ⟨(some 73), (some (72, true)), .p .mov, [.t 12]⟩ ::
 ⟨(some 74), (some (72, true)), .p .mov, [.t 14]⟩ ::
 ⟨(some 75), (some (72, true)), .p (.bin .eql), [.t 73, .t 74]⟩ ::
 ⟨(some 76), none, .p .pick, [.t 72, .t 75, .c (.bool false)]⟩ ::
 ⟨(some 77), none, .p .mov, [.t 76]⟩ ::
 ⟨(some 78), (some (77, true)), .p .mov, [.t 15]⟩ ::
 ⟨(some 79), (some (77, true)), .p .mov, [.t 17]⟩ ::
 ⟨(some 80), (some (77, true)), .p (.bin .eql), [.t 78, .t 79]⟩ ::
 ⟨(some 81), none, .p .pick, [.t 77, .t 80, .c (.bool false)]⟩ ::
 ⟨(some 82), none, .p .mov, [.t 81]⟩ ::
 ⟨(some 83), (some (82, true)), .p .mov, [.t 16]⟩ ::
 ⟨(some 84), (some (82, true)), .p .mov, [.t 18]⟩ ::
 ⟨(some 85), (some (82, true)), .p (.bin .eql), [.t 83, .t 84]⟩ ::
 ⟨(some 86), none, .p .pick, [.t 82, .t 85, .c (.bool false)]⟩ ::
 ⟨(some 87), none, .p .mov, [.t 86]⟩ ::
 ⟨(some 88), (some (87, true)), .call, [.c (.func (.func 30) [] [])]⟩ ::
 ⟨(some 89), none, .p .pick, [.t 87, .t 88, .c (.bool false)]⟩ ::
 ⟨(some 6), none, .p .mov, [.t 89]⟩ ::
 []))
.ret))))))))⟩
abbrev f_escapementlaw08_DemandUse : Nat := 9
abbrev C_escapementlaw08_DemandUse : AFunc := C9
def L_escapementlaw08_DemandSound_1 : AC := (.seq (.seq (.ops (⟨(some 41), none, .p .mov, [.t 13]⟩ ::
 ⟨(some 42), none, .p (.bin .lss), [.t 41, .c (.int .i64 10)]⟩ ::
 []))
(.cond (.t 42)
.skip
(.exit 2)))
(.seq (.block 3 (.seq (.seq (.ops (⟨(some 45), none, .p .mov, [.t 1]⟩ ::
 ⟨(some 46), none, .p .lenS, [.t 45]⟩ ::
 ⟨(some 47), none, .p (.bin .gtr), [.t 46, .c (.int .i64 0)]⟩ ::
 []))
(.cond (.t 47)
(.ops (⟨(some 48), none, .p .mov, [.t 12]⟩ ::
 ⟨(some 49), none, .p .mov, [.t 1]⟩ ::
 ⟨(some 50), none, .p .mov, [.t 11]⟩ ::
 ⟨(some 51), none, .p (.bin .mul), [.t 50, .c (.int .i64 10)]⟩ ::
 ⟨(some 52), none, .p .mov, [.t 13]⟩ ::
 ⟨(some 53), none, .p (.bin .add), [.t 51, .t 52]⟩ ::
 ⟨(some 54), none, .p .mov, [.t 1]⟩ ::
 ⟨(some 55), none, .p .lenS, [.t 54]⟩ ::
 ⟨(some 56), none, .p (.bin .rem), [.t 53, .t 55]⟩ ::
 ⟨(some 57), none, .p (.iaddrS 1), [.t 49, .t 56]⟩ ::
 ⟨(some 58), none, .r .load1, [.t 57]⟩ ::
 ⟨(some 59), none, .call, [.c (.func (.func 24) [] []), .t 58, .c (.int .i64 20)]⟩ ::
 ⟨(some 60), none, .p (.bin .add), [.t 48, .t 59]⟩ ::
 ⟨(some 12), none, .p .mov, [.t 60]⟩ ::
 []))
.skip))
(.seq (.seq (.ops (⟨(some 61), none, .p .mov, [.t 12]⟩ ::
 ⟨(some 62), none, .p .mov, [.t 8]⟩ ::
 ⟨(some 63), none, .p (.bin .geq), [.t 61, .t 62]⟩ ::
 []))
(.cond (.t 63)
(.seq (.ops (⟨(some 64), none, .p .mov, [.t 9]⟩ ::
 ⟨(some 65), none, .p .mov, [.t 12]⟩ ::
 ⟨(some 66), none, .p .mov, [.t 0]⟩ ::
 ⟨(some 67), none, .p .mov, [.t 11]⟩ ::
 ⟨(some 68), none, .p (.iaddrS 8), [.t 66, .t 67]⟩ ::
 ⟨(some 69), none, .p (.faddr 1), [.t 68]⟩ ::
 ⟨(some 70), none, .r .load1, [.t 69]⟩ ::
 ⟨(some 71), none, .p (.bin .add), [.t 65, .t 70]⟩ ::
 ⟨(some 72), none, .p .mov, [.t 8]⟩ ::
 ⟨(some 73), none, .p (.bin .sub), [.t 71, .t 72]⟩ ::
 ⟨(some 74), none, .a (.bslice [(.int .i64 0)] 1 1 [0]), [.t 73]⟩ ::
 ⟨(some 75), none, .e (.append 1 8), [.t 64, .t 74]⟩ ::
 ⟨(some 9), none, .p .mov, [.t 75]⟩ ::
 []))
(.dops (⟨(some 76), none, .p .mov, [.t 10]⟩ ::
 ⟨(some 77), none, .p .mov, [.t 0]⟩ ::
 ⟨(some 78), none, .p .mov, [.t 11]⟩ ::
 ⟨(some 79), none, .p (.iaddrS 8), [.t 77, .t 78]⟩ ::
 ⟨(some 80), none, .p (.faddr 2), [.t 79]⟩ ::
 ⟨(some 81), none, .r .load1, [.t 80]⟩ ::
 ⟨(some 82), none, .p .mov, [.t 7]⟩ ::
 ⟨(some 83), none, .p .mov, [.t 11]⟩ ::
 ⟨(some 84), none, .p (.iaddrS 1), [.t 82, .t 83]⟩ ::
 ⟨(some 85), none, .r .load1, [.t 84]⟩ ::
 ⟨(some 86), none, .p (.bin .add), [.t 81, .t 85]⟩ ::
 ⟨(some 87), none, .a (.bslice [(.int .i64 0)] 1 1 [0]), [.t 86]⟩ ::
 ⟨(some 88), none, .e (.append 1 8), [.t 76, .t 87]⟩ ::
 ⟨(some 10), none, .p .mov, [.t 88]⟩ ::
 []) ([] :: [] :: [] :: [] :: [] :: [] :: [] :: [] :: [] :: [] :: [] :: [] :: [] :: [] :: [])))
.skip))
(.ops (⟨(some 89), none, .p .mov, [.t 12]⟩ ::
 ⟨(some 90), none, .p .mov, [.t 0]⟩ ::
 ⟨(some 91), none, .p .mov, [.t 11]⟩ ::
 ⟨(some 92), none, .p (.iaddrS 8), [.t 90, .t 91]⟩ ::
 ⟨(some 93), none, .p (.faddr 0), [.t 92]⟩ ::
 ⟨(some 94), none, .r .load1, [.t 93]⟩ ::
 ⟨(some 95), none, .p (.bin .add), [.t 89, .t 94]⟩ ::
 ⟨(some 12), none, .p .mov, [.t 95]⟩ ::
 [])))))
(.ops (⟨(some 43), none, .p .mov, [.t 13]⟩ ::
 ⟨(some 44), none, .p (.bin .add), [.t 43, .c (.int .i64 1)]⟩ ::
 ⟨(some 13), none, .p .mov, [.t 44]⟩ ::
 []))))
def L_escapementlaw08_DemandSound_0 : AC := (.seq (.seq (.ops (⟨(some 28), none, .p .mov, [.t 11]⟩ ::
 ⟨(some 29), none, .p .mov, [.t 0]⟩ ::
 ⟨(some 30), none, .p .lenS, [.t 29]⟩ ::
 ⟨(some 31), none, .p (.bin .lss), [.t 28, .t 30]⟩ ::
 []))
(.cond (.t 31)
.skip
(.exit 0)))
(.seq (.block 1 (.seq (.ops (⟨(some 34), none, .p .mov, [.t 7]⟩ ::
 ⟨(some 35), none, .p .mov, [.t 11]⟩ ::
 ⟨(some 36), none, .p .mov, [.t 2]⟩ ::
 ⟨(some 37), none, .p .mov, [.t 11]⟩ ::
 ⟨(some 38), none, .p (.bin .add), [.t 36, .t 37]⟩ ::
 ⟨(some 39), none, .call, [.c (.func (.func 24) [] []), .t 38, .c (.int .i64 5)]⟩ ::
 ⟨(some 40), none, .p (.iaddrS 1), [.t 34, .t 35]⟩ ::
 ⟨none, none, .e (.store 1), [.t 40, .t 39]⟩ ::
 []))
(.seq (.ops (⟨(some 12), none, .p .mov, [.c (.int .i64 0)]⟩ ::
 []))
(.seq (.ops (⟨(some 13), none, .p .mov, [.c (.int .i64 0)]⟩ ::
 []))
(.block 2 (.loop L_escapementlaw08_DemandSound_1))))))
(.ops (⟨(some 32), none, .p .mov, [.t 11]⟩ ::
 ⟨(some 33), none, .p (.bin .add), [.t 32, .c (.int .i64 1)]⟩ ::
 ⟨(some 11), none, .p .mov, [.t 33]⟩ ::
 []))))
def L_escapementlaw08_DemandSound_3 : AC := (.seq (.seq (.ops (⟨(some 100), none, .p .mov, [.t 16]⟩ ::
 ⟨(some 101), none, .p .mov, [.t 9]⟩ ::
 ⟨(some 102), none, .p .lenS, [.t 101]⟩ ::
 ⟨(some 103), none, .p (.bin .lss), [.t 100, .t 102]⟩ ::
 []))
(.cond (.t 103)
.skip
(.exit 6)))
(.seq (.block 7 (.seq (.ops (⟨(some 106), none, .p .mov, [.t 9]⟩ ::
 ⟨(some 107), none, .p .mov, [.t 16]⟩ ::
 ⟨(some 108), none, .p (.iaddrS 1), [.t 106, .t 107]⟩ ::
 ⟨(some 109), none, .r .load1, [.t 108]⟩ ::
 ⟨(some 110), none, .p .mov, [.t 14]⟩ ::
 ⟨(some 111), none, .p (.bin .leq), [.t 109, .t 110]⟩ ::
 []))
(.cond (.t 111)
(.ops (⟨(some 112), none, .p .mov, [.t 15]⟩ ::
 ⟨(some 113), none, .p .mov, [.t 10]⟩ ::
 ⟨(some 114), none, .p .mov, [.t 16]⟩ ::
 ⟨(some 115), none, .p (.iaddrS 1), [.t 113, .t 114]⟩ ::
 ⟨(some 116), none, .r .load1, [.t 115]⟩ ::
 ⟨(some 117), none, .p (.bin .add), [.t 112, .t 116]⟩ ::
 ⟨(some 15), none, .p .mov, [.t 117]⟩ ::
 []))
.skip)))
(.ops (⟨(some 104), none, .p .mov, [.t 16]⟩ ::
 ⟨(some 105), none, .p (.bin .add), [.t 104, .c (.int .i64 1)]⟩ ::
 ⟨(some 16), none, .p .mov, [.t 105]⟩ ::
 []))))
def L_escapementlaw08_DemandSound_2 : AC := (.seq (.seq (.ops (⟨(some 96), none, .p .mov, [.t 14]⟩ ::
 ⟨(some 97), none, .p (.bin .lss), [.t 96, .c (.int .i64 200)]⟩ ::
 []))
(.cond (.t 97)
.skip
(.exit 4)))
(.seq (.block 5 (.seq (.ops (⟨(some 15), none, .p .mov, [.c (.int .i64 0)]⟩ ::
 []))
(.seq (.seq (.ops (⟨(some 16), none, .p .mov, [.c (.int .i64 0)]⟩ ::
 []))
(.block 6 (.loop L_escapementlaw08_DemandSound_3)))
(.seq (.ops (⟨(some 119), none, .p .mov, [.t 0]⟩ ::
 ⟨(some 120), none, .p .mov, [.t 7]⟩ ::
 ⟨(some 121), none, .p .mov, [.t 14]⟩ ::
 ⟨(some 122), none, .call, [.c (.func (.func 26) [] []), .t 119, .t 120, .t 121]⟩ ::
 ⟨(some 118), none, .p .mov, [.t 122]⟩ ::
 ⟨(some 123), none, .p (.ext 0), [.t 118]⟩ ::
 ⟨(some 124), none, .p (.ext 1), [.t 118]⟩ ::
 ⟨(some 17), none, .p .mov, [.t 123]⟩ ::
 ⟨(some 18), none, .p .mov, [.t 124]⟩ ::
 []))
(.seq (.ops (⟨(some 125), none, .p .mov, [.t 18]⟩ ::
 ⟨(some 126), none, .p (.bin .neq), [.t 125, .c (.int .i64 0)]⟩ ::
 ⟨(some 127), none, .p .mov, [.t 126]⟩ ::
 ⟨(some 128), (some (127, false)), .p .mov, [.t 15]⟩ ::
 ⟨(some 129), (some (127, false)), .p .mov, [.t 17]⟩ ::
 ⟨(some 130), (some (127, false)), .p (.bin .gtr), [.t 128, .t 129]⟩ ::
 ⟨(some 131), none, .p .pick, [.t 127, .c (.bool true), .t 130]⟩ ::
 []))
(.cond (.t 131)
(.seq (.ops (⟨(some 6), none, .p .mov, [.c (.bool false)]⟩ ::
 []))
.ret)
.skip))))))
(.ops (⟨(some 98), none, .p .mov, [.t 14]⟩ ::
 ⟨(some 99), none, .p (.bin .add), [.t 98, .c (.int .i64 1)]⟩ ::
 ⟨(some 14), none, .p .mov, [.t 99]⟩ ::
 []))))
def C10 : AFunc := ⟨132, [.tmp 6],
(.seq (.ops (⟨(some 6), none, .p .mov, [.c (.bool false)]⟩ ::
 []))
(.seq (.seq (.ops (⟨(some 19), none, .call, [.c (.func (.func 30) [] [])]⟩ ::
 ⟨(some 20), none, .p .not, [.t 19]⟩ ::
 []))
(.cond (.t 20)
(.seq (.ops (⟨(some 6), none, .p .mov, [.c (.bool false)]⟩ ::
 []))
.ret)
.skip))
(.seq (.ops (⟨(some 21), none, .p .mov, [.t 0]⟩ ::
 ⟨(some 22), none, .call, [.c (.func (.func 35) [] []), .t 21]⟩ ::
 ⟨(some 0), none, .p .mov, [.t 22]⟩ ::
 []))
(.seq (.ops (⟨(some 23), none, .p .mov, [.t 0]⟩ ::
 ⟨(some 24), none, .p .lenS, [.t 23]⟩ ::
 ⟨(some 25), none, .a (.mkslice [(.int .i64 0)] 1 8), [.t 24, .t 24]⟩ ::
 ⟨(some 7), none, .p .mov, [.t 25]⟩ ::
 []))
(.seq (.ops (⟨(some 26), none, .p .mov, [.t 2]⟩ ::
 ⟨(some 27), none, .call, [.c (.func (.func 24) [] []), .t 26, .c (.int .i64 200)]⟩ ::
 ⟨(some 8), none, .p .mov, [.t 27]⟩ ::
 []))
(.seq (.ops (⟨(some 9), none, .p .mov, [.c .nils]⟩ ::
 ⟨(some 10), none, .p .mov, [.c .nils]⟩ ::
 []))
(.seq (.seq (.ops (⟨(some 11), none, .p .mov, [.c (.int .i64 0)]⟩ ::
 []))
(.block 0 (.loop L_escapementlaw08_DemandSound_0)))
(.seq (.seq (.ops (⟨(some 14), none, .p .mov, [.c (.int .i64 0)]⟩ ::
 []))
(.block 4 (.loop L_escapementlaw08_DemandSound_2)))
(.seq (.ops (⟨(some 6), none, .p .mov, [.c (.bool true)]⟩ ::
 []))
.ret)))))))))⟩
abbrev f_escapementlaw08_DemandSound : Nat := 10
abbrev C_escapementlaw08_DemandSound : AFunc := C10
def C11 : AFunc := ⟨101, [.tmp 6],
(.seq (.ops (⟨(some 6), none, .p .mov, [.c (.bool false)]⟩ ::
 []))
(.seq (.ops (⟨(some 18), none, .p .mov, [.t 0]⟩ ::
 ⟨(some 19), none, .call, [.c (.func (.func 35) [] []), .t 18]⟩ ::
 ⟨(some 0), none, .p .mov, [.t 19]⟩ ::
 []))
(.seq (.ops (⟨(some 20), none, .p .mov, [.t 0]⟩ ::
 ⟨(some 21), none, .p .lenS, [.t 20]⟩ ::
 ⟨(some 22), none, .a (.mkslice [(.int .i64 0)] 1 8), [.t 21, .t 21]⟩ ::
 ⟨(some 7), none, .p .mov, [.t 22]⟩ ::
 []))
(.seq (.ops (⟨(some 24), none, .p .mov, [.t 0]⟩ ::
 ⟨(some 25), none, .p .mov, [.t 1]⟩ ::
 ⟨(some 26), none, .call, [.c (.func (.func 24) [] []), .t 25, .c (.int .i64 64)]⟩ ::
 ⟨(some 27), none, .p (.bin .add), [.c (.int .i64 1), .t 26]⟩ ::
 ⟨(some 28), none, .call, [.c (.func (.func 31) [] []), .t 24, .t 27]⟩ ::
 ⟨(some 23), none, .p .mov, [.t 28]⟩ ::
 ⟨(some 29), none, .p (.ext 0), [.t 23]⟩ ::
 ⟨(some 30), none, .p (.ext 1), [.t 23]⟩ ::
 ⟨(some 8), none, .p .mov, [.t 29]⟩ ::
 ⟨(some 9), none, .p .mov, [.t 30]⟩ ::
 []))
(.seq (.seq (.ops (⟨(some 31), none, .p .mov, [.t 9]⟩ ::
 ⟨(some 32), none, .p (.bin .neq), [.t 31, .c (.int .i64 0)]⟩ ::
 []))
(.cond (.t 32)
(.seq (.ops (⟨(some 33), none, .p .mov, [.t 9]⟩ ::
 ⟨(some 34), none, .p (.bin .eql), [.t 33, .c (.int .i64 5)]⟩ ::
 ⟨(some 35), none, .p .mov, [.t 34]⟩ ::
 ⟨(some 36), (some (35, true)), .call, [.c (.func (.func 30) [] [])]⟩ ::
 ⟨(some 37), none, .p .pick, [.t 35, .t 36, .c (.bool false)]⟩ ::
 ⟨(some 6), none, .p .mov, [.t 37]⟩ ::
 []))
.ret)
.skip))
(.seq (.ops (⟨(some 38), none, .p .mov, [.t 2]⟩ ::
 ⟨(some 39), none, .call, [.c (.func (.func 24) [] []), .t 38, .c (.int .i64 9000)]⟩ ::
 ⟨(some 40), none, .p (.bin .add), [.c (.int .i64 64), .t 39]⟩ ::
 ⟨(some 2), none, .p .mov, [.t 40]⟩ ::
 []))
(.seq (.ops (⟨(some 42), none, .p .mov, [.t 0]⟩ ::
 ⟨(some 43), none, .p .mov, [.t 7]⟩ ::
 ⟨(some 44), none, .p .mov, [.t 2]⟩ ::
 ⟨(some 45), none, .call, [.c (.func (.func 26) [] []), .t 42, .t 43, .t 44]⟩ ::
 ⟨(some 41), none, .p .mov, [.t 45]⟩ ::
 ⟨(some 46), none, .p (.ext 0), [.t 41]⟩ ::
 ⟨(some 47), none, .p (.ext 1), [.t 41]⟩ ::
 ⟨(some 10), none, .p .mov, [.t 46]⟩ ::
 ⟨(some 11), none, .p .mov, [.t 47]⟩ ::
 []))
(.seq (.ops (⟨(some 49), none, .p .mov, [.t 0]⟩ ::
 ⟨(some 50), none, .p .mov, [.t 7]⟩ ::
 ⟨(some 51), none, .p .mov, [.t 2]⟩ ::
 ⟨(some 52), none, .p .mov, [.t 8]⟩ ::
 ⟨(some 53), none, .p (.bin .add), [.t 51, .t 52]⟩ ::
 ⟨(some 54), none, .call, [.c (.func (.func 26) [] []), .t 49, .t 50, .t 53]⟩ ::
 ⟨(some 48), none, .p .mov, [.t 54]⟩ ::
 ⟨(some 55), none, .p (.ext 0), [.t 48]⟩ ::
 ⟨(some 56), none, .p (.ext 1), [.t 48]⟩ ::
 ⟨(some 12), none, .p .mov, [.t 55]⟩ ::
 ⟨(some 13), none, .p .mov, [.t 56]⟩ ::
 []))
(.seq (.ops (⟨(some 58), none, .p .mov, [.t 0]⟩ ::
 ⟨(some 59), none, .p .mov, [.t 7]⟩ ::
 ⟨(some 60), none, .p .mov, [.t 2]⟩ ::
 ⟨(some 61), none, .p (.bin .add), [.t 60, .c (.int .i64 1)]⟩ ::
 ⟨(some 62), none, .call, [.c (.func (.func 26) [] []), .t 58, .t 59, .t 61]⟩ ::
 ⟨(some 57), none, .p .mov, [.t 62]⟩ ::
 ⟨(some 63), none, .p (.ext 0), [.t 57]⟩ ::
 ⟨(some 64), none, .p (.ext 1), [.t 57]⟩ ::
 ⟨(some 14), none, .p .mov, [.t 63]⟩ ::
 ⟨(some 15), none, .p .mov, [.t 64]⟩ ::
 []))
(.seq (.ops (⟨(some 66), none, .p .mov, [.t 0]⟩ ::
 ⟨(some 67), none, .p .mov, [.t 7]⟩ ::
 ⟨(some 68), none, .p .mov, [.t 8]⟩ ::
 ⟨(some 69), none, .call, [.c (.func (.func 33) [] []), .t 66, .t 67, .t 68]⟩ ::
 ⟨(some 65), none, .p .mov, [.t 69]⟩ ::
 ⟨(some 70), none, .p (.ext 0), [.t 65]⟩ ::
 ⟨(some 71), none, .p (.ext 1), [.t 65]⟩ ::
 ⟨(some 16), none, .p .mov, [.t 70]⟩ ::
 ⟨(some 17), none, .p .mov, [.t 71]⟩ ::
 []))
(.seq (.ops (⟨(some 72), none, .p .mov, [.t 11]⟩ ::
 ⟨(some 73), none, .p (.bin .eql), [.t 72, .c (.int .i64 0)]⟩ ::
 ⟨(some 74), none, .p .mov, [.t 73]⟩ ::
 ⟨(some 75), (some (74, true)), .p .mov, [.t 13]⟩ ::
 ⟨(some 76), (some (74, true)), .p (.bin .eql), [.t 75, .c (.int .i64 0)]⟩ ::
 ⟨(some 77), none, .p .pick, [.t 74, .t 76, .c (.bool false)]⟩ ::
 ⟨(some 78), none, .p .mov, [.t 77]⟩ ::
 ⟨(some 79), (some (78, true)), .p .mov, [.t 15]⟩ ::
 ⟨(some 80), (some (78, true)), .p (.bin .eql), [.t 79, .c (.int .i64 0)]⟩ ::
 ⟨(some 81), none, .p .pick, [.t 78, .t 80, .c (.bool false)]⟩ ::
 ⟨(some 82), none, .p .mov, [.t 81]⟩ ::
 ⟨(some 83), (some (82, true)), .p .mov, [.t 17]⟩ ::
 ⟨(some 84), (some (82, true)), .p (.bin .eql), [.t 83, .c (.int .i64 0)]⟩ ::
 ⟨(some 85), none, .p .pick, [.t 82, .t 84, .c (.bool false)]⟩ ::
 ⟨(some 86), none, .p .mov, [.t 85]⟩ ::
 ⟨(some 87), (some (86, true)), .p .mov, [.t 12]⟩ ::
 ⟨(some 88), (some (86, true)), .p .mov, [.t 10]⟩ ::
 ⟨(some 89), (some (86, true)), .p .mov, [.t 16]⟩ ::
 ⟨(some 90), (some (86, true)), .p (.bin .add), [.t 88, .t 89]⟩ ::
 ⟨(some 91), (some (86, true)), .p (.bin .eql), [.t 87, .t 90]⟩ ::
 ⟨(some 92), none, .p .pick, [.t 86, .t 91, .c (.bool false)]⟩ ::
 ⟨(some 93), none, .p .mov, [.t 92]⟩ ::
 ⟨(some 94), (some (93, true)), .p .mov, [.t 14]⟩ ::
 ⟨(some 95), (some (93, true)), .p .mov, [.t 10]⟩ ::
 ⟨(some 96), (some (93, true)), .p (.bin .geq), [.t 94, .t 95]⟩ ::
 ⟨(some 97), none, .p .pick, [.t 93, .t 96, .c (.bool false)]⟩ ::
 ⟨(some 98), none, .p .mov, [.t 97]⟩ ::
 ⟨(some 99), (some (98, true)), .call, [.c (.func (.func 30) [] [])]⟩ ::
 ⟨(some 100), none, .p .pick, [.t 98, .t 99, .c (.bool false)]⟩ ::
 ⟨(some 6), none, .p .mov, [.t 100]⟩ ::
 []))
.ret)))))))))))⟩
abbrev f_escapementlaw08_DemandMore : Nat := 11
abbrev C_escapementlaw08_DemandMore : AFunc := C11
def L_escapementlaw08_DemandNames_0 : AC := (.seq (.seq (.ops (⟨(some 36), none, .p .mov, [.t 2]⟩ ::
 ⟨(some 37), none, .p .mov, [.t 1]⟩ ::
 ⟨(some 38), none, .p .lenS, [.t 37]⟩ ::
 ⟨(some 39), none, .p (.bin .lss), [.t 36, .t 38]⟩ ::
 []))
(.cond (.t 39)
.skip
(.exit 0)))
(.seq (.block 1 (.seq (.ops (⟨(some 43), none, .p .mov, [.t 1]⟩ ::
 ⟨(some 44), none, .p .mov, [.t 2]⟩ ::
 ⟨(some 45), none, .p .mov, [.t 2]⟩ ::
 ⟨(some 46), none, .p (.bin .add), [.t 45, .c (.int .i64 1)]⟩ ::
 ⟨(some 47), none, .p (.slice 8 true true false), [.t 43, .t 44, .t 46]⟩ ::
 ⟨(some 48), none, .a (.bslice [(.int .i64 0)] 1 1 [0]), [.c (.int .i64 0)]⟩ ::
 ⟨(some 49), none, .call, [.c (.func (.func 26) [] []), .t 47, .t 48, .c (.int .i64 1)]⟩ ::
 ⟨(some 42), none, .p .mov, [.t 49]⟩ ::
 ⟨(some 50), none, .p (.ext 0), [.t 42]⟩ ::
 ⟨(some 51), none, .p (.ext 1), [.t 42]⟩ ::
 ⟨(some 3), none, .p .mov, [.t 50]⟩ ::
 ⟨(some 4), none, .p .mov, [.t 51]⟩ ::
 []))
(.seq (.ops (⟨(some 53), none, .p .mov, [.t 1]⟩ ::
 ⟨(some 54), none, .p .mov, [.t 2]⟩ ::
 ⟨(some 55), none, .p .mov, [.t 2]⟩ ::
 ⟨(some 56), none, .p (.bin .add), [.t 55, .c (.int .i64 1)]⟩ ::
 ⟨(some 57), none, .p (.slice 8 true true false), [.t 53, .t 54, .t 56]⟩ ::
 ⟨(some 58), none, .call, [.c (.func (.func 31) [] []), .t 57, .c (.int .i64 1)]⟩ ::
 ⟨(some 52), none, .p .mov, [.t 58]⟩ ::
 ⟨(some 59), none, .p (.ext 0), [.t 52]⟩ ::
 ⟨(some 60), none, .p (.ext 1), [.t 52]⟩ ::
 ⟨(some 5), none, .p .mov, [.t 59]⟩ ::
 ⟨(some 6), none, .p .mov, [.t 60]⟩ ::
 []))
(.seq (.ops (⟨(some 61), none, .p .mov, [.t 4]⟩ ::
 ⟨(some 62), none, .p (.bin .neq), [.t 61, .c (.int .i64 2)]⟩ ::
 ⟨(some 63), none, .p .mov, [.t 62]⟩ ::
 ⟨(some 64), (some (63, false)), .p .mov, [.t 6]⟩ ::
 ⟨(some 65), (some (63, false)), .p (.bin .neq), [.t 64, .c (.int .i64 2)]⟩ ::
 ⟨(some 66), none, .p .pick, [.t 63, .c (.bool true), .t 65]⟩ ::
 ⟨(some 67), none, .p .mov, [.t 66]⟩ ::
 ⟨(some 68), (some (67, false)), .p .mov, [.t 1]⟩ ::
 ⟨(some 69), (some (67, false)), .p .mov, [.t 2]⟩ ::
 ⟨(some 70), (some (67, false)), .p .mov, [.t 2]⟩ ::
 ⟨(some 71), (some (67, false)), .p (.bin .add), [.t 70, .c (.int .i64 1)]⟩ ::
 ⟨(some 72), (some (67, false)), .p (.slice 8 true true false), [.t 68, .t 69, .t 71]⟩ ::
 ⟨(some 73), (some (67, false)), .a (.bslice [(.int .i64 0)] 1 1 [0]), [.c (.int .i64 0)]⟩ ::
 ⟨(some 74), (some (67, false)), .call, [.c (.func (.func 28) [] []), .t 72, .t 73]⟩ ::
 ⟨(some 75), (some (67, false)), .p (.bin .neq), [.t 74, .c (.int .i64 2)]⟩ ::
 ⟨(some 76), none, .p .pick, [.t 67, .c (.bool true), .t 75]⟩ ::
 []))
(.cond (.t 76)
(.seq (.ops (⟨(some 0), none, .p .mov, [.c (.bool false)]⟩ ::
 []))
.ret)
.skip)))))
(.ops (⟨(some 40), none, .p .mov, [.t 2]⟩ ::
 ⟨(some 41), none, .p (.bin .add), [.t 40, .c (.int .i64 1)]⟩ ::
 ⟨(some 2), none, .p .mov, [.t 41]⟩ ::
 []))))
def C12 : AFunc := ⟨202, [.tmp 0],
(.seq (.ops (⟨(some 0), none, .p .mov, [.c (.bool false)]⟩ ::
 []))
(.seq (.ops (⟨(some 29), none, .p (.build [(.int .i64 0), (.int .i64 0), (.int .i64 0), (.int .i64 0), (.int .i64 0), (.int .i64 0), (.int .i64 0), (.int .i64 0)] []), []⟩ ::
 ⟨(some 30), none, .p (.build [(.int .i64 0), (.int .i64 0), (.int .i64 0), (.int .i64 0), (.int .i64 0), (.int .i64 0), (.int .i64 0), (.int .i64 0)] [(0, 1), (1, 1), (2, 1)]), [.c (.int .i64 65), .c (.int .i64 1), .c (.int .i64 1)]⟩ ::
 ⟨(some 31), none, .p (.build [(.int .i64 0), (.int .i64 0), (.int .i64 0), (.int .i64 0), (.int .i64 0), (.int .i64 0), (.int .i64 0), (.int .i64 0)] [(0, 1), (1, 1), (2, 1)]), [.c (.int .i64 5), .c (.int .i64 6), .c (.int .i64 1)]⟩ ::
 ⟨(some 32), none, .p (.build [(.int .i64 0), (.int .i64 0), (.int .i64 0), (.int .i64 0), (.int .i64 0), (.int .i64 0), (.int .i64 0), (.int .i64 0)] [(0, 1), (1, 1), (2, 1)]), [.c (.int .i64 5), .c (.int .i64 5), .c (.int .i64 6)]⟩ ::
 ⟨(some 33), none, .p (.build [(.int .i64 0), (.int .i64 0), (.int .i64 0), (.int .i64 0), (.int .i64 0), (.int .i64 0), (.int .i64 0), (.int .i64 0)] [(0, 1), (1, 1)]), [.c (.int .i64 5), .c (.int .i64 5)]⟩ ::
 ⟨(some 34), none, .p (.build [(.int .i64 0), (.int .i64 0), (.int .i64 0), (.int .i64 0), (.int .i64 0), (.int .i64 0), (.int .i64 0), (.int .i64 0)] [(0, 1), (2, 1)]), [.c (.int .i64 5), .c (.int .i64 1)]⟩ ::
 ⟨(some 35), none, .a (.bslice [(.int .i64 0), (.int .i64 0), (.int .i64 0), (.int .i64 0), (.int .i64 0), (.int .i64 0), (.int .i64 0), (.int .i64 0)] 6 8 [0, 1, 2, 3, 4, 5]), [.t 29, .t 30, .t 31, .t 32, .t 33, .t 34]⟩ ::
 ⟨(some 1), none, .p .mov, [.t 35]⟩ ::
 []))
(.seq (.seq (.ops (⟨(some 2), none, .p .mov, [.c (.int .i64 0)]⟩ ::
 []))
(.block 0 (.loop L_escapementlaw08_DemandNames_0)))
(.seq (.ops (⟨(some 77), none, .p (.build [(.int .i64 0), (.int .i64 0), (.int .i64 0), (.int .i64 0), (.int .i64 0), (.int .i64 0), (.int .i64 0), (.int .i64 0)] [(0, 1), (1, 1), (2, 1)]), [.c (.int .i64 64), .c (.int .i64 64), .c (.int .i64 64)]⟩ ::
 ⟨(some 7), none, .a (.alloc [(.int .i64 0), (.int .i64 0), (.int .i64 0), (.int .i64 0), (.int .i64 0), (.int .i64 0), (.int .i64 0), (.int .i64 0)]), []⟩ ::
 ⟨none, none, .e (.store 8), [.t 7, .t 77]⟩ ::
 []))
(.seq (.ops (⟨(some 78), none, .r (.loadN 8), [.t 7]⟩ ::
 ⟨(some 79), none, .r (.loadN 8), [.t 7]⟩ ::
 ⟨(some 80), none, .r (.loadN 8), [.t 7]⟩ ::
 ⟨(some 81), none, .r (.loadN 8), [.t 7]⟩ ::
 ⟨(some 82), none, .a (.bslice [(.int .i64 0), (.int .i64 0), (.int .i64 0), (.int .i64 0), (.int .i64 0), (.int .i64 0), (.int .i64 0), (.int .i64 0)] 4 8 [0, 1, 2, 3]), [.t 78, .t 79, .t 80, .t 81]⟩ ::
 ⟨(some 8), none, .p .mov, [.t 82]⟩ ::
 []))
(.seq (.dops (⟨(some 84), none, .p .mov, [.t 8]⟩ ::
 ⟨(some 85), none, .r (.loadN 8), [.t 7]⟩ ::
 ⟨(some 86), none, .a (.bslice [(.int .i64 0), (.int .i64 0), (.int .i64 0), (.int .i64 0), (.int .i64 0), (.int .i64 0), (.int .i64 0), (.int .i64 0)] 1 8 [0]), [.t 85]⟩ ::
 ⟨(some 87), none, .e (.append 8 64), [.t 84, .t 86]⟩ ::
 ⟨(some 88), none, .a (.mkslice [(.int .i64 0)] 1 8), [.c (.int .i64 5), .c (.int .i64 5)]⟩ ::
 ⟨(some 89), none, .call, [.c (.func (.func 26) [] []), .t 87, .t 88, .c (.int .i64 1)]⟩ ::
 ⟨(some 83), none, .p .mov, [.t 89]⟩ ::
 ⟨(some 90), none, .p (.ext 0), [.t 83]⟩ ::
 ⟨(some 91), none, .p (.ext 1), [.t 83]⟩ ::
 ⟨(some 9), none, .p .mov, [.t 90]⟩ ::
 ⟨(some 10), none, .p .mov, [.t 91]⟩ ::
 []) ([] :: [] :: [] :: [] :: [] :: [] :: [] :: [] :: [] :: [] :: [] :: []))
(.seq (.ops (⟨(some 93), none, .p .mov, [.t 8]⟩ ::
 ⟨(some 94), none, .a (.bslice [(.int .i64 0)] 4 1 [0, 1, 2, 3]), [.c (.int .i64 0), .c (.int .i64 0), .c (.int .i64 0), .c (.int .i64 32769)]⟩ ::
 ⟨(some 95), none, .call, [.c (.func (.func 26) [] []), .t 93, .t 94, .c (.int .i64 1)]⟩ ::
 ⟨(some 92), none, .p .mov, [.t 95]⟩ ::
 ⟨(some 96), none, .p (.ext 0), [.t 92]⟩ ::
 ⟨(some 97), none, .p (.ext 1), [.t 92]⟩ ::
 ⟨(some 11), none, .p .mov, [.t 96]⟩ ::
 ⟨(some 12), none, .p .mov, [.t 97]⟩ ::
 []))
(.seq (.ops (⟨(some 99), none, .p .mov, [.t 8]⟩ ::
 ⟨(some 100), none, .a (.bslice [(.int .i64 0)] 4 1 [0, 1, 2, 3]), [.c (.int .i64 0), .c (.int .i64 0), .c (.int .i64 0), .c (.int .i64 (-1))]⟩ ::
 ⟨(some 101), none, .call, [.c (.func (.func 26) [] []), .t 99, .t 100, .c (.int .i64 1)]⟩ ::
 ⟨(some 98), none, .p .mov, [.t 101]⟩ ::
 ⟨(some 102), none, .p (.ext 0), [.t 98]⟩ ::
 ⟨(some 103), none, .p (.ext 1), [.t 98]⟩ ::
 ⟨(some 13), none, .p .mov, [.t 102]⟩ ::
 ⟨(some 14), none, .p .mov, [.t 103]⟩ ::
 []))
(.seq (.ops (⟨(some 105), none, .p .mov, [.t 8]⟩ ::
 ⟨(some 106), none, .a (.bslice [(.int .i64 0)] 4 1 [0, 1, 2, 3]), [.c (.int .i64 0), .c (.int .i64 0), .c (.int .i64 0), .c (.int .i64 32768)]⟩ ::
 ⟨(some 107), none, .call, [.c (.func (.func 26) [] []), .t 105, .t 106, .c (.int .i64 64)]⟩ ::
 ⟨(some 104), none, .p .mov, [.t 107]⟩ ::
 ⟨(some 108), none, .p (.ext 0), [.t 104]⟩ ::
 ⟨(some 109), none, .p (.ext 1), [.t 104]⟩ ::
 ⟨(some 15), none, .p .mov, [.t 108]⟩ ::
 ⟨(some 16), none, .p .mov, [.t 109]⟩ ::
 []))
(.seq (.ops (⟨(some 111), none, .p .mov, [.t 8]⟩ ::
 ⟨(some 112), none, .a (.mkslice [(.int .i64 0)] 1 8), [.c (.int .i64 4), .c (.int .i64 4)]⟩ ::
 ⟨(some 113), none, .call, [.c (.func (.func 26) [] []), .t 111, .t 112, .c (.int .i64 1048577)]⟩ ::
 ⟨(some 110), none, .p .mov, [.t 113]⟩ ::
 ⟨(some 114), none, .p (.ext 0), [.t 110]⟩ ::
 ⟨(some 115), none, .p (.ext 1), [.t 110]⟩ ::
 ⟨(some 17), none, .p .mov, [.t 114]⟩ ::
 ⟨(some 18), none, .p .mov, [.t 115]⟩ ::
 []))
(.seq (.ops (⟨(some 117), none, .p .mov, [.t 8]⟩ ::
 ⟨(some 118), none, .a (.mkslice [(.int .i64 0)] 1 8), [.c (.int .i64 4), .c (.int .i64 4)]⟩ ::
 ⟨(some 119), none, .call, [.c (.func (.func 26) [] []), .t 117, .t 118, .c (.int .i64 1048576)]⟩ ::
 ⟨(some 116), none, .p .mov, [.t 119]⟩ ::
 ⟨(some 120), none, .p (.ext 0), [.t 116]⟩ ::
 ⟨(some 121), none, .p (.ext 1), [.t 116]⟩ ::
 ⟨(some 19), none, .p .mov, [.t 120]⟩ ::
 ⟨(some 20), none, .p .mov, [.t 121]⟩ ::
 []))
(.seq (.ops (⟨(some 123), none, .p .mov, [.t 8]⟩ ::
 ⟨(some 124), none, .a (.mkslice [(.int .i64 0)] 1 8), [.c (.int .i64 4), .c (.int .i64 4)]⟩ ::
 ⟨(some 125), none, .call, [.c (.func (.func 33) [] []), .t 123, .t 124, .c (.int .i64 65)]⟩ ::
 ⟨(some 122), none, .p .mov, [.t 125]⟩ ::
 ⟨(some 126), none, .p (.ext 0), [.t 122]⟩ ::
 ⟨(some 127), none, .p (.ext 1), [.t 122]⟩ ::
 ⟨(some 21), none, .p .mov, [.t 126]⟩ ::
 ⟨(some 22), none, .p .mov, [.t 127]⟩ ::
 []))
(.seq (.ops (⟨(some 129), none, .p .mov, [.t 8]⟩ ::
 ⟨(some 130), none, .a (.mkslice [(.int .i64 0)] 1 8), [.c (.int .i64 4), .c (.int .i64 4)]⟩ ::
 ⟨(some 131), none, .call, [.c (.func (.func 33) [] []), .t 129, .t 130, .c (.int .i64 0)]⟩ ::
 ⟨(some 128), none, .p .mov, [.t 131]⟩ ::
 ⟨(some 132), none, .p (.ext 0), [.t 128]⟩ ::
 ⟨(some 133), none, .p (.ext 1), [.t 128]⟩ ::
 ⟨(some 23), none, .p .mov, [.t 132]⟩ ::
 ⟨(some 24), none, .p .mov, [.t 133]⟩ ::
 []))
(.seq (.ops (⟨(some 135), none, .call, [.c (.func (.func 31) [] []), .c .nils, .c (.int .i64 64)]⟩ ::
 ⟨(some 134), none, .p .mov, [.t 135]⟩ ::
 ⟨(some 136), none, .p (.ext 0), [.t 134]⟩ ::
 ⟨(some 137), none, .p (.ext 1), [.t 134]⟩ ::
 ⟨(some 25), none, .p .mov, [.t 136]⟩ ::
 ⟨(some 26), none, .p .mov, [.t 137]⟩ ::
 []))
(.seq (.ops (⟨(some 139), none, .p .mov, [.t 8]⟩ ::
 ⟨(some 140), none, .call, [.c (.func (.func 31) [] []), .t 139, .c (.int .i64 0)]⟩ ::
 ⟨(some 138), none, .p .mov, [.t 140]⟩ ::
 ⟨(some 141), none, .p (.ext 0), [.t 138]⟩ ::
 ⟨(some 142), none, .p (.ext 1), [.t 138]⟩ ::
 ⟨(some 27), none, .p .mov, [.t 141]⟩ ::
 ⟨(some 28), none, .p .mov, [.t 142]⟩ ::
 []))
(.seq (.ops (⟨(some 143), none, .p .mov, [.c (.bool true)]⟩ ::
 ⟨(some 144), (some (143, true)), .call, [.c (.func (.func 30) [] [])]⟩ ::
 ⟨(some 145), none, .p .pick, [.t 143, .t 144, .c (.bool false)]⟩ ::
 ⟨(some 146), none, .p .mov, [.t 145]⟩ ::
 ⟨(some 147), (some (146, true)), .p .mov, [.t 10]⟩ ::
 ⟨(some 148), (some (146, true)), .p (.bin .eql), [.t 147, .c (.int .i64 2)]⟩ ::
 ⟨(some 149), none, .p .pick, [.t 146, .t 148, .c (.bool false)]⟩ ::
 ⟨(some 150), none, .p .mov, [.t 149]⟩ ::
 ⟨(some 151), (some (150, true)), .p .mov, [.t 12]⟩ ::
 ⟨(some 152), (some (150, true)), .p (.bin .eql), [.t 151, .c (.int .i64 2)]⟩ ::
 ⟨(some 153), none, .p .pick, [.t 150, .t 152, .c (.bool false)]⟩ ::
 ⟨(some 154), none, .p .mov, [.t 153]⟩ ::
 ⟨(some 155), (some (154, true)), .p .mov, [.t 14]⟩ ::
 ⟨(some 156), (some (154, true)), .p (.bin .eql), [.t 155, .c (.int .i64 2)]⟩ ::
 ⟨(some 157), none, .p .pick, [.t 154, .t 156, .c (.bool false)]⟩ ::
 ⟨(some 158), none, .p .mov, [.t 157]⟩ ::
 ⟨(some 159), (some (158, true)), .p .mov, [.t 15]⟩ ::
 ⟨(some 160), (some (158, true)), .p (.bin .eql), [.t 159, .c (.int .i64 33024)]⟩ ::
 ⟨(some 161), none, .p .pick, [.t 158, .t 160, .c (.bool false)]⟩ ::
 ⟨(some 162), none, .p .mov, [.t 161]⟩ ::
 ⟨(some 163), (some (162, true)), .p .mov, [.t 16]⟩ ::
 ⟨(some 164), (some (162, true)), .p (.bin .eql), [.t 163, .c (.int .i64 0)]⟩ ::
 ⟨(some 165), none, .p .pick, [.t 162, .t 164, .c (.bool false)]⟩ ::
 ⟨(some 166), none, .p .mov, [.t 165]⟩ ::
 ⟨(some 167), (some (166, true)), .p .mov, [.t 18]⟩ ::
 ⟨(some 168), (some (166, true)), .p (.bin .eql), [.t 167, .c (.int .i64 2)]⟩ ::
 ⟨(some 169), none, .p .pick, [.t 166, .t 168, .c (.bool false)]⟩ ::
 ⟨(some 170), none, .p .mov, [.t 169]⟩ ::
 ⟨(some 171), (some (170, true)), .p .mov, [.t 19]⟩ ::
 ⟨(some 172), (some (170, true)), .p (.bin .eql), [.t 171, .c (.int .i64 4194304)]⟩ ::
 ⟨(some 173), none, .p .pick, [.t 170, .t 172, .c (.bool false)]⟩ ::
 ⟨(some 174), none, .p .mov, [.t 173]⟩ ::
 ⟨(some 175), (some (174, true)), .p .mov, [.t 20]⟩ ::
 ⟨(some 176), (some (174, true)), .p (.bin .eql), [.t 175, .c (.int .i64 0)]⟩ ::
 ⟨(some 177), none, .p .pick, [.t 174, .t 176, .c (.bool false)]⟩ ::
 ⟨(some 178), none, .p .mov, [.t 177]⟩ ::
 ⟨(some 179), (some (178, true)), .p .mov, [.t 22]⟩ ::
 ⟨(some 180), (some (178, true)), .p (.bin .eql), [.t 179, .c (.int .i64 2)]⟩ ::
 ⟨(some 181), none, .p .pick, [.t 178, .t 180, .c (.bool false)]⟩ ::
 ⟨(some 182), none, .p .mov, [.t 181]⟩ ::
 ⟨(some 183), (some (182, true)), .p .mov, [.t 24]⟩ ::
 ⟨(some 184), (some (182, true)), .p (.bin .eql), [.t 183, .c (.int .i64 2)]⟩ ::
 ⟨(some 185), none, .p .pick, [.t 182, .t 184, .c (.bool false)]⟩ ::
 ⟨(some 186), none, .p .mov, [.t 185]⟩ ::
 ⟨(some 187), (some (186, true)), .p .mov, [.t 25]⟩ ::
 ⟨(some 188), (some (186, true)), .p (.bin .eql), [.t 187, .c (.int .i64 64)]⟩ ::
 ⟨(some 189), none, .p .pick, [.t 186, .t 188, .c (.bool false)]⟩ ::
 ⟨(some 190), none, .p .mov, [.t 189]⟩ ::
 ⟨(some 191), (some (190, true)), .p .mov, [.t 26]⟩ ::
 ⟨(some 192), (some (190, true)), .p (.bin .eql), [.t 191, .c (.int .i64 0)]⟩ ::
 ⟨(some 193), none, .p .pick, [.t 190, .t 192, .c (.bool false)]⟩ ::
 ⟨(some 194), none, .p .mov, [.t 193]⟩ ::
 ⟨(some 195), (some (194, true)), .p .mov, [.t 28]⟩ ::
 ⟨(some 196), (some (194, true)), .p (.bin .eql), [.t 195, .c (.int .i64 2)]⟩ ::
 ⟨(some 197), none, .p .pick, [.t 194, .t 196, .c (.bool false)]⟩ ::
 ⟨(some 198), none, .p .mov, [.t 197]⟩ ::
 ⟨(some 199), (some (198, true)), .call, [.c (.func (.func 28) [] []), .c .nils, .c .nils]⟩ ::
 ⟨(some 200), (some (198, true)), .p (.bin .eql), [.t 199, .c (.int .i64 0)]⟩ ::
 ⟨(some 201), none, .p .pick, [.t 198, .t 200, .c (.bool false)]⟩ ::
 ⟨(some 0), none, .p .mov, [.t 201]⟩ ::
 []))
.ret))))))))))))))))⟩
abbrev f_escapementlaw08_DemandNames : Nat := 12
abbrev C_escapementlaw08_DemandNames : AFunc := C12
def C13 : AFunc := ⟨39, [.tmp 6, .tmp 7],
(.seq (.ops (⟨(some 6), none, .p .mov, [.c (.int .i64 0)]⟩ ::
 ⟨(some 7), none, .p .mov, [.c (.int .i64 0)]⟩ ::
 []))
(.seq (.ops (⟨(some 11), none, .p .mov, [.t 0]⟩ ::
 ⟨(some 12), none, .p .mov, [.t 1]⟩ ::
 ⟨(some 13), none, .call, [.c (.func (.func 36) [] []), .t 11, .t 12]⟩ ::
 ⟨(some 10), none, .p .mov, [.t 13]⟩ ::
 ⟨(some 14), none, .p (.ext 0), [.t 10]⟩ ::
 ⟨(some 15), none, .p (.ext 1), [.t 10]⟩ ::
 ⟨(some 8), none, .a (.alloc [(.int .i64 0), (.int .i64 0), .nils, .nils, (.int .i64 0)]), []⟩ ::
 ⟨none, none, .e (.store 5), [.t 8, .t 14]⟩ ::
 ⟨(some 9), none, .p .mov, [.t 15]⟩ ::
 []))
(.seq (.block 0 (.seq (.ops (⟨(some 17), none, .p .mov, [.t 9]⟩ ::
 ⟨(some 18), none, .p (.bin .neq), [.t 17, .c (.int .i64 0)]⟩ ::
 ⟨(some 16), none, .p .mov, [.t 18]⟩ ::
 []))
(.cond (.t 16)
(.seq (.ops (⟨(some 19), none, .p .mov, [.t 9]⟩ ::
 ⟨(some 6), none, .p .mov, [.c (.int .i64 0)]⟩ ::
 ⟨(some 7), none, .p .mov, [.t 19]⟩ ::
 []))
.ret)
(.seq (.ops (⟨(some 21), none, .p .mov, [.t 2]⟩ ::
 ⟨(some 22), none, .p (.bin .lss), [.t 21, .c (.int .i64 0)]⟩ ::
 ⟨(some 23), none, .p .mov, [.t 22]⟩ ::
 ⟨(some 24), (some (23, false)), .p .mov, [.t 2]⟩ ::
 ⟨(some 25), (some (23, false)), .p (.faddr 0), [.t 8]⟩ ::
 ⟨(some 26), (some (23, false)), .p (.faddr 2), [.t 25]⟩ ::
 ⟨(some 27), (some (23, false)), .r .load1, [.t 26]⟩ ::
 ⟨(some 28), (some (23, false)), .p .lenS, [.t 27]⟩ ::
 ⟨(some 29), (some (23, false)), .p (.bin .geq), [.t 24, .t 28]⟩ ::
 ⟨(some 30), none, .p .pick, [.t 23, .c (.bool true), .t 29]⟩ ::
 ⟨(some 20), none, .p .mov, [.t 30]⟩ ::
 []))
(.cond (.t 20)
(.seq (.ops (⟨(some 6), none, .p .mov, [.c (.int .i64 0)]⟩ ::
 ⟨(some 7), none, .p .mov, [.c (.int .i64 9)]⟩ ::
 []))
.ret)
.skip)))))
(.seq (.dops (⟨(some 31), none, .r (.loadN 5), [.t 8]⟩ ::
 ⟨(some 32), none, .p (.faddr 0), [.t 8]⟩ ::
 ⟨(some 33), none, .p (.faddr 2), [.t 32]⟩ ::
 ⟨(some 34), none, .r .load1, [.t 33]⟩ ::
 ⟨(some 35), none, .p .mov, [.t 2]⟩ ::
 ⟨(some 36), none, .p (.iaddrS 8), [.t 34, .t 35]⟩ ::
 ⟨(some 37), none, .r (.loadN 8), [.t 36]⟩ ::
 ⟨(some 38), none, .call, [.c (.func (.func 37) [] []), .t 31, .t 37]⟩ ::
 ⟨(some 6), none, .p .mov, [.t 38]⟩ ::
 ⟨(some 7), none, .p .mov, [.c (.int .i64 0)]⟩ ::
 []) ([] :: [] :: [] :: [] :: [] :: [] :: [] :: [] :: [] :: [] :: []))
.ret))))⟩
abbrev f_delay_Wait : Nat := 13
abbrev C_delay_Wait : AFunc := C13
def C14 : AFunc := ⟨47, [.tmp 6, .tmp 7],
(.seq (.ops (⟨(some 6), none, .p .mov, [.c (.int .i64 0)]⟩ ::
 ⟨(some 7), none, .p .mov, [.c (.int .i64 0)]⟩ ::
 []))
(.seq (.seq (.ops (⟨(some 9), none, .p .mov, [.t 0]⟩ ::
 ⟨(some 10), none, .call, [.c (.func (.func 18) [] []), .t 9]⟩ ::
 ⟨(some 8), none, .p .mov, [.t 10]⟩ ::
 []))
(.seq (.ops (⟨(some 11), none, .p .mov, [.t 8]⟩ ::
 ⟨(some 12), none, .p (.bin .neq), [.t 11, .c (.int .i64 0)]⟩ ::
 []))
(.cond (.t 12)
(.seq (.ops (⟨(some 13), none, .p .mov, [.t 8]⟩ ::
 ⟨(some 6), none, .p .mov, [.c (.int .i64 0)]⟩ ::
 ⟨(some 7), none, .p .mov, [.t 13]⟩ ::
 []))
.ret)
.skip)))
(.seq (.seq (.ops (⟨(some 14), none, .p .mov, [.t 1]⟩ ::
 ⟨(some 15), none, .p (.bin .lss), [.t 14, .c (.int .i64 0)]⟩ ::
 ⟨(some 16), none, .p .mov, [.t 15]⟩ ::
 ⟨(some 17), (some (16, false)), .p .mov, [.t 1]⟩ ::
 ⟨(some 18), (some (16, false)), .p .mov, [.t 0]⟩ ::
 ⟨(some 19), (some (16, false)), .p .lenS, [.t 18]⟩ ::
 ⟨(some 20), (some (16, false)), .p (.bin .geq), [.t 17, .t 19]⟩ ::
 ⟨(some 21), none, .p .pick, [.t 16, .c (.bool true), .t 20]⟩ ::
 ⟨(some 22), none, .p .mov, [.t 21]⟩ ::
 ⟨(some 23), (some (22, false)), .p .mov, [.t 2]⟩ ::
 ⟨(some 24), (some (22, false)), .p (.bin .lss), [.t 23, .c (.int .i64 0)]⟩ ::
 ⟨(some 25), none, .p .pick, [.t 22, .c (.bool true), .t 24]⟩ ::
 ⟨(some 26), none, .p .mov, [.t 25]⟩ ::
 ⟨(some 27), (some (26, false)), .p .mov, [.t 2]⟩ ::
 ⟨(some 28), (some (26, false)), .p .mov, [.t 0]⟩ ::
 ⟨(some 29), (some (26, false)), .p .mov, [.t 1]⟩ ::
 ⟨(some 30), (some (26, false)), .p (.iaddrS 3), [.t 28, .t 29]⟩ ::
 ⟨(some 31), (some (26, false)), .p (.faddr 2), [.t 30]⟩ ::
 ⟨(some 32), (some (26, false)), .r .load1, [.t 31]⟩ ::
 ⟨(some 33), (some (26, false)), .p .lenS, [.t 32]⟩ ::
 ⟨(some 34), (some (26, false)), .p (.bin .geq), [.t 27, .t 33]⟩ ::
 ⟨(some 35), none, .p .pick, [.t 26, .c (.bool true), .t 34]⟩ ::
 []))
(.cond (.t 35)
(.seq (.ops (⟨(some 6), none, .p .mov, [.c (.int .i64 0)]⟩ ::
 ⟨(some 7), none, .p .mov, [.c (.int .i64 9)]⟩ ::
 []))
.ret)
.skip))
(.seq (.ops (⟨(some 36), none, .p .mov, [.t 0]⟩ ::
 ⟨(some 37), none, .p .mov, [.t 1]⟩ ::
 ⟨(some 38), none, .p .mov, [.t 0]⟩ ::
 ⟨(some 39), none, .p .mov, [.t 1]⟩ ::
 ⟨(some 40), none, .p (.iaddrS 3), [.t 38, .t 39]⟩ ::
 ⟨(some 41), none, .p (.faddr 2), [.t 40]⟩ ::
 ⟨(some 42), none, .r .load1, [.t 41]⟩ ::
 ⟨(some 43), none, .p .mov, [.t 2]⟩ ::
 ⟨(some 44), none, .p (.iaddrS 8), [.t 42, .t 43]⟩ ::
 ⟨(some 45), none, .r (.loadN 8), [.t 44]⟩ ::
 ⟨(some 46), none, .call, [.c (.func (.func 38) [] []), .t 36, .t 37, .t 45]⟩ ::
 ⟨(some 6), none, .p .mov, [.t 46]⟩ ::
 ⟨(some 7), none, .p .mov, [.c (.int .i64 0)]⟩ ::
 []))
.ret))))⟩
abbrev f_escapementref09_Wait : Nat := 14
abbrev C_escapementref09_Wait : AFunc := C14
def L_delay_More_0 : AC := (.seq (.ops (⟨(some 30), none, .p (.bin .lss), [.t 29, .t 28]⟩ ::
 []))
(.seq (.cond (.t 30)
.skip
(.exit 0))
(.seq (.block 1 (.seq (.ops (⟨(some 31), none, .p .mov, [.t 29]⟩ ::
 ⟨(some 32), none, .p (.iaddrS 8), [.t 27, .t 29]⟩ ::
 ⟨(some 33), none, .r (.loadN 8), [.t 32]⟩ ::
 ⟨(some 10), none, .a (.alloc [(.int .i64 0), (.int .i64 0), (.int .i64 0), (.int .i64 0), (.int .i64 0), (.int .i64 0), (.int .i64 0), (.int .i64 0)]), []⟩ ::
 ⟨(some 9), none, .p .mov, [.t 31]⟩ ::
 ⟨none, none, .e (.store 8), [.t 10, .t 33]⟩ ::
 []))
(.dops (⟨(some 34), none, .p .mov, [.t 8]⟩ ::
 ⟨(some 35), none, .p .mov, [.t 9]⟩ ::
 ⟨(some 36), none, .p (.faddr 7), [.t 10]⟩ ::
 ⟨(some 37), none, .r .load1, [.t 36]⟩ ::
 ⟨(some 38), none, .r (.loadN 5), [.t 6]⟩ ::
 ⟨(some 39), none, .r (.loadN 8), [.t 10]⟩ ::
 ⟨(some 40), none, .call, [.c (.func (.func 37) [] []), .t 38, .t 39]⟩ ::
 ⟨(some 41), none, .p (.faddr 6), [.t 10]⟩ ::
 ⟨(some 42), none, .r .load1, [.t 41]⟩ ::
 ⟨(some 43), none, .p (.bin .add), [.t 40, .t 42]⟩ ::
 ⟨(some 44), none, .p (.bin .sub), [.t 43, .c (.int .i64 1)]⟩ ::
 ⟨(some 45), none, .p (.bin .mul), [.t 37, .t 44]⟩ ::
 ⟨(some 46), none, .p (.iaddrS 1), [.t 34, .t 35]⟩ ::
 ⟨none, none, .e (.store 1), [.t 46, .t 45]⟩ ::
 []) ([] :: [] :: [] :: [0, 7] :: [] :: [] :: [] :: [] :: [0, 7] :: [] :: [] :: [] :: [] :: [] :: []))))
(.ops (⟨(some 47), none, .p (.bin .add), [.t 29, .c (.int .i64 1)]⟩ ::
 ⟨(some 29), none, .p .mov, [.t 47]⟩ ::
 [])))))
def C15 : AFunc := ⟨49, [.tmp 4, .tmp 5],
(.seq (.ops (⟨(some 4), none, .p .mov, [.c .nils]⟩ ::
 ⟨(some 5), none, .p .mov, [.c (.int .i64 0)]⟩ ::
 []))
(.seq (.ops (⟨(some 12), none, .p .mov, [.t 0]⟩ ::
 ⟨(some 13), none, .p .mov, [.t 1]⟩ ::
 ⟨(some 14), none, .call, [.c (.func (.func 36) [] []), .t 12, .t 13]⟩ ::
 ⟨(some 11), none, .p .mov, [.t 14]⟩ ::
 ⟨(some 15), none, .p (.ext 0), [.t 11]⟩ ::
 ⟨(some 16), none, .p (.ext 1), [.t 11]⟩ ::
 ⟨(some 6), none, .a (.alloc [(.int .i64 0), (.int .i64 0), .nils, .nils, (.int .i64 0)]), []⟩ ::
 ⟨none, none, .e (.store 5), [.t 6, .t 15]⟩ ::
 ⟨(some 7), none, .p .mov, [.t 16]⟩ ::
 []))
(.seq (.seq (.ops (⟨(some 17), none, .p .mov, [.t 7]⟩ ::
 ⟨(some 18), none, .p (.bin .neq), [.t 17, .c (.int .i64 0)]⟩ ::
 []))
(.cond (.t 18)
(.seq (.ops (⟨(some 19), none, .p .mov, [.t 7]⟩ ::
 ⟨(some 4), none, .p .mov, [.c .nils]⟩ ::
 ⟨(some 5), none, .p .mov, [.t 19]⟩ ::
 []))
.ret)
.skip))
(.seq (.ops (⟨(some 20), none, .p (.faddr 0), [.t 6]⟩ ::
 ⟨(some 21), none, .p (.faddr 2), [.t 20]⟩ ::
 ⟨(some 22), none, .r .load1, [.t 21]⟩ ::
 ⟨(some 23), none, .p .lenS, [.t 22]⟩ ::
 ⟨(some 24), none, .a (.mkslice [(.int .i64 0)] 1 8), [.t 23, .t 23]⟩ ::
 ⟨(some 8), none, .p .mov, [.t 24]⟩ ::
 []))
(.seq (.seq (.ops (⟨(some 25), none, .p (.faddr 0), [.t 6]⟩ ::
 ⟨(some 26), none, .p (.faddr 2), [.t 25]⟩ ::
 ⟨(some 27), none, .r .load1, [.t 26]⟩ ::
 ⟨(some 28), none, .p .lenS, [.t 27]⟩ ::
 ⟨(some 29), none, .p .mov, [.c (.int .i64 0)]⟩ ::
 []))
(.block 0 (.loop L_delay_More_0)))
(.seq (.ops (⟨(some 48), none, .p .mov, [.t 8]⟩ ::
 ⟨(some 4), none, .p .mov, [.t 48]⟩ ::
 ⟨(some 5), none, .p .mov, [.c (.int .i64 0)]⟩ ::
 []))
.ret))))))⟩
abbrev f_delay_More : Nat := 15
abbrev C_delay_More : AFunc := C15
def L_escapementref09_More_0 : AC := (.seq (.seq (.ops (⟨(some 24), none, .p .mov, [.t 8]⟩ ::
 ⟨(some 25), none, .p .mov, [.t 0]⟩ ::
 ⟨(some 26), none, .p .mov, [.t 1]⟩ ::
 ⟨(some 27), none, .p (.iaddrS 3), [.t 25, .t 26]⟩ ::
 ⟨(some 28), none, .p (.faddr 2), [.t 27]⟩ ::
 ⟨(some 29), none, .r .load1, [.t 28]⟩ ::
 ⟨(some 30), none, .p .lenS, [.t 29]⟩ ::
 ⟨(some 31), none, .p (.bin .lss), [.t 24, .t 30]⟩ ::
 []))
(.cond (.t 31)
.skip
(.exit 0)))
(.seq (.block 1 (.seq (.ops (⟨(some 34), none, .p .mov, [.t 0]⟩ ::
 ⟨(some 35), none, .p .mov, [.t 1]⟩ ::
 ⟨(some 36), none, .p (.iaddrS 3), [.t 34, .t 35]⟩ ::
 ⟨(some 37), none, .p (.faddr 2), [.t 36]⟩ ::
 ⟨(some 38), none, .r .load1, [.t 37]⟩ ::
 ⟨(some 39), none, .p .mov, [.t 8]⟩ ::
 ⟨(some 40), none, .p (.iaddrS 8), [.t 38, .t 39]⟩ ::
 ⟨(some 41), none, .r (.loadN 8), [.t 40]⟩ ::
 ⟨(some 9), none, .a (.alloc [(.int .i64 0), (.int .i64 0), (.int .i64 0), (.int .i64 0), (.int .i64 0), (.int .i64 0), (.int .i64 0), (.int .i64 0)]), []⟩ ::
 ⟨none, none, .e (.store 8), [.t 9, .t 41]⟩ ::
 []))
(.seq (.ops (⟨(some 10), none, .p .mov, [.c (.int .i64 0)]⟩ ::
 []))
(.seq (.seq (.ops (⟨(some 42), none, .p (.faddr 5), [.t 9]⟩ ::
 ⟨(some 43), none, .r .load1, [.t 42]⟩ ::
 ⟨(some 44), none, .p (.bin .gtr), [.t 43, .c (.int .i64 0)]⟩ ::
 []))
(.cond (.t 44)
(.dops (⟨(some 45), none, .p (.faddr 7), [.t 9]⟩ ::
 ⟨(some 46), none, .r .load1, [.t 45]⟩ ::
 ⟨(some 47), none, .p .mov, [.t 0]⟩ ::
 ⟨(some 48), none, .p .mov, [.t 1]⟩ ::
 ⟨(some 49), none, .r (.loadN 8), [.t 9]⟩ ::
 ⟨(some 50), none, .call, [.c (.func (.func 38) [] []), .t 47, .t 48, .t 49]⟩ ::
 ⟨(some 51), none, .p (.faddr 6), [.t 9]⟩ ::
 ⟨(some 52), none, .r .load1, [.t 51]⟩ ::
 ⟨(some 53), none, .p (.bin .add), [.t 50, .t 52]⟩ ::
 ⟨(some 54), none, .p (.bin .sub), [.t 53, .c (.int .i64 1)]⟩ ::
 ⟨(some 55), none, .p (.bin .mul), [.t 46, .t 54]⟩ ::
 ⟨(some 10), none, .p .mov, [.t 55]⟩ ::
 []) ([] :: [0, 6] :: [] :: [] :: [] :: [] :: [] :: [0, 6] :: [] :: [] :: [] :: [] :: []))
.skip))
(.ops (⟨(some 56), none, .p .mov, [.t 7]⟩ ::
 ⟨(some 57), none, .p .mov, [.t 10]⟩ ::
 ⟨(some 58), none, .a (.bslice [(.int .i64 0)] 1 1 [0]), [.t 57]⟩ ::
 ⟨(some 59), none, .e (.append 1 8), [.t 56, .t 58]⟩ ::
 ⟨(some 7), none, .p .mov, [.t 59]⟩ ::
 []))))))
(.ops (⟨(some 32), none, .p .mov, [.t 8]⟩ ::
 ⟨(some 33), none, .p (.bin .add), [.t 32, .c (.int .i64 1)]⟩ ::
 ⟨(some 8), none, .p .mov, [.t 33]⟩ ::
 []))))
def C16 : AFunc := ⟨61, [.tmp 4, .tmp 5],
(.seq (.ops (⟨(some 4), none, .p .mov, [.c .nils]⟩ ::
 ⟨(some 5), none, .p .mov, [.c (.int .i64 0)]⟩ ::
 []))
(.seq (.seq (.ops (⟨(some 11), none, .p .mov, [.t 0]⟩ ::
 ⟨(some 12), none, .call, [.c (.func (.func 18) [] []), .t 11]⟩ ::
 ⟨(some 6), none, .p .mov, [.t 12]⟩ ::
 []))
(.seq (.ops (⟨(some 13), none, .p .mov, [.t 6]⟩ ::
 ⟨(some 14), none, .p (.bin .neq), [.t 13, .c (.int .i64 0)]⟩ ::
 []))
(.cond (.t 14)
(.seq (.ops (⟨(some 15), none, .p .mov, [.t 6]⟩ ::
 ⟨(some 4), none, .p .mov, [.c .nils]⟩ ::
 ⟨(some 5), none, .p .mov, [.t 15]⟩ ::
 []))
.ret)
.skip)))
(.seq (.seq (.ops (⟨(some 16), none, .p .mov, [.t 1]⟩ ::
 ⟨(some 17), none, .p (.bin .lss), [.t 16, .c (.int .i64 0)]⟩ ::
 ⟨(some 18), none, .p .mov, [.t 17]⟩ ::
 ⟨(some 19), (some (18, false)), .p .mov, [.t 1]⟩ ::
 ⟨(some 20), (some (18, false)), .p .mov, [.t 0]⟩ ::
 ⟨(some 21), (some (18, false)), .p .lenS, [.t 20]⟩ ::
 ⟨(some 22), (some (18, false)), .p (.bin .geq), [.t 19, .t 21]⟩ ::
 ⟨(some 23), none, .p .pick, [.t 18, .c (.bool true), .t 22]⟩ ::
 []))
(.cond (.t 23)
(.seq (.ops (⟨(some 4), none, .p .mov, [.c .nils]⟩ ::
 ⟨(some 5), none, .p .mov, [.c (.int .i64 9)]⟩ ::
 []))
.ret)
.skip))
(.seq (.ops (⟨(some 7), none, .p .mov, [.c .nils]⟩ ::
 []))
(.seq (.seq (.ops (⟨(some 8), none, .p .mov, [.c (.int .i64 0)]⟩ ::
 []))
(.block 0 (.loop L_escapementref09_More_0)))
(.seq (.ops (⟨(some 60), none, .p .mov, [.t 7]⟩ ::
 ⟨(some 4), none, .p .mov, [.t 60]⟩ ::
 ⟨(some 5), none, .p .mov, [.c (.int .i64 0)]⟩ ::
 []))
.ret))))))⟩
abbrev f_escapementref09_More : Nat := 16
abbrev C_escapementref09_More : AFunc := C16
def L_delay_Check_0 : AC := (.seq (.ops (⟨(some 12), none, .p (.bin .lss), [.t 11, .t 10]⟩ ::
 []))
(.seq (.cond (.t 12)
.skip
(.exit 0))
(.seq (.block 1 (.seq (.ops (⟨(some 13), none, .p (.iaddrS 3), [.t 9, .t 11]⟩ ::
 ⟨(some 14), none, .r (.loadN 3), [.t 13]⟩ ::
 ⟨(some 4), none, .a (.alloc [(.int .i64 0), (.int .i64 0), .nils]), []⟩ ::
 ⟨none, none, .e (.store 3), [.t 4, .t 14]⟩ ::
 []))
(.seq (.seq (.ops (⟨(some 15), none, .p (.faddr 0), [.t 4]⟩ ::
 ⟨(some 16), none, .r .load1, [.t 15]⟩ ::
 ⟨(some 17), none, .p (.bin .lss), [.t 16, .c (.int .i64 1)]⟩ ::
 ⟨(some 18), none, .p .mov, [.t 17]⟩ ::
 ⟨(some 19), (some (18, false)), .p (.faddr 0), [.t 4]⟩ ::
 ⟨(some 20), (some (18, false)), .r .load1, [.t 19]⟩ ::
 ⟨(some 21), (some (18, false)), .p (.bin .gtr), [.t 20, .c (.int .i64 64)]⟩ ::
 ⟨(some 22), none, .p .pick, [.t 18, .c (.bool true), .t 21]⟩ ::
 ⟨(some 23), none, .p .mov, [.t 22]⟩ ::
 ⟨(some 24), (some (23, false)), .p (.faddr 1), [.t 4]⟩ ::
 ⟨(some 25), (some (23, false)), .r .load1, [.t 24]⟩ ::
 ⟨(some 26), (some (23, false)), .p (.bin .lss), [.t 25, .c (.int .i64 1)]⟩ ::
 ⟨(some 27), none, .p .pick, [.t 23, .c (.bool true), .t 26]⟩ ::
 ⟨(some 28), none, .p .mov, [.t 27]⟩ ::
 ⟨(some 29), (some (28, false)), .p (.faddr 1), [.t 4]⟩ ::
 ⟨(some 30), (some (28, false)), .r .load1, [.t 29]⟩ ::
 ⟨(some 31), (some (28, false)), .p (.faddr 0), [.t 4]⟩ ::
 ⟨(some 32), (some (28, false)), .r .load1, [.t 31]⟩ ::
 ⟨(some 33), (some (28, false)), .p (.bin .gtr), [.t 30, .t 32]⟩ ::
 ⟨(some 34), none, .p .pick, [.t 28, .c (.bool true), .t 33]⟩ ::
 []))
(.cond (.t 34)
(.seq (.ops (⟨(some 2), none, .p .mov, [.c (.int .i64 2)]⟩ ::
 []))
.ret)
.skip))
(.seq (.seq (.dops (⟨(some 35), none, .p (.faddr 2), [.t 4]⟩ ::
 ⟨(some 36), none, .r .load1, [.t 35]⟩ ::
 ⟨(some 37), none, .p (.faddr 2), [.t 4]⟩ ::
 ⟨(some 38), none, .r .load1, [.t 37]⟩ ::
 ⟨(some 39), none, .p .lenS, [.t 38]⟩ ::
 ⟨(some 40), none, .a (.mkslice [(.int .i64 0)] 1 8), [.t 39, .t 39]⟩ ::
 ⟨(some 41), none, .call, [.c (.func (.func 28) [] []), .t 36, .t 40]⟩ ::
 ⟨(some 5), none, .p .mov, [.t 41]⟩ ::
 []) ([] :: [] :: [] :: [] :: [] :: [] :: [] :: [] :: []))
(.seq (.ops (⟨(some 42), none, .p .mov, [.t 5]⟩ ::
 ⟨(some 43), none, .p (.bin .neq), [.t 42, .c (.int .i64 0)]⟩ ::
 []))
(.cond (.t 43)
(.seq (.ops (⟨(some 44), none, .p .mov, [.t 5]⟩ ::
 ⟨(some 2), none, .p .mov, [.t 44]⟩ ::
 []))
.ret)
.skip)))
(.seq (.ops (⟨(some 45), none, .p (.faddr 2), [.t 4]⟩ ::
 ⟨(some 46), none, .r .load1, [.t 45]⟩ ::
 ⟨(some 47), none, .p (.mkfunc (.func 40) 0), [.t 4]⟩ ::
 ⟨(some 48), none, .call, [.c (.func (.func 39) [] []), .t 46, .t 47]⟩ ::
 []))
(.cond (.t 48)
(.seq (.ops (⟨(some 2), none, .p .mov, [.c (.int .i64 2)]⟩ ::
 []))
.ret)
.skip))))))
(.ops (⟨(some 49), none, .p (.bin .add), [.t 11, .c (.int .i64 1)]⟩ ::
 ⟨(some 11), none, .p .mov, [.t 49]⟩ ::
 [])))))
def C17 : AFunc := ⟨50, [.tmp 2],
(.seq (.ops (⟨(some 2), none, .p .mov, [.c (.int .i64 0)]⟩ ::
 []))
(.seq (.seq (.ops (⟨(some 6), none, .p .mov, [.t 0]⟩ ::
 ⟨(some 7), none, .p .lenS, [.t 6]⟩ ::
 ⟨(some 8), none, .p (.bin .gtr), [.t 7, .c (.int .i64 4)]⟩ ::
 []))
(.cond (.t 8)
(.seq (.ops (⟨(some 2), none, .p .mov, [.c (.int .i64 2)]⟩ ::
 []))
.ret)
.skip))
(.seq (.seq (.ops (⟨(some 9), none, .p .mov, [.t 0]⟩ ::
 ⟨(some 10), none, .p .lenS, [.t 9]⟩ ::
 ⟨(some 11), none, .p .mov, [.c (.int .i64 0)]⟩ ::
 []))
(.block 0 (.loop L_delay_Check_0)))
(.seq (.ops (⟨(some 2), none, .p .mov, [.c (.int .i64 0)]⟩ ::
 []))
.ret))))⟩
abbrev f_delay_Check : Nat := 17
abbrev C_delay_Check : AFunc := C17
def L_escapementref09_Check_1 : AC := (.seq (.seq (.ops (⟨(some 45), none, .p .mov, [.t 5]⟩ ::
 ⟨(some 46), none, .p (.faddr 2), [.t 4]⟩ ::
 ⟨(some 47), none, .r .load1, [.t 46]⟩ ::
 ⟨(some 48), none, .p .lenS, [.t 47]⟩ ::
 ⟨(some 49), none, .p (.bin .lss), [.t 45, .t 48]⟩ ::
 []))
(.cond (.t 49)
.skip
(.exit 2)))
(.seq (.block 3 (.seq (.dops (⟨(some 52), none, .p (.faddr 2), [.t 4]⟩ ::
 ⟨(some 53), none, .r .load1, [.t 52]⟩ ::
 ⟨(some 54), none, .p .mov, [.t 5]⟩ ::
 ⟨(some 55), none, .p (.iaddrS 8), [.t 53, .t 54]⟩ ::
 ⟨(some 56), none, .r (.loadN 8), [.t 55]⟩ ::
 ⟨(some 57), none, .p (.faddr 1), [.t 4]⟩ ::
 ⟨(some 58), none, .r .load1, [.t 57]⟩ ::
 ⟨(some 59), none, .call, [.c (.func (.func 43) [] []), .t 56, .t 58]⟩ ::
 ⟨(some 60), none, .p .not, [.t 59]⟩ ::
 []) ([] :: [] :: [] :: [] :: [] :: [] :: [] :: [] :: [] :: []))
(.cond (.t 60)
(.seq (.ops (⟨(some 2), none, .p .mov, [.c (.int .i64 2)]⟩ ::
 []))
.ret)
.skip)))
(.ops (⟨(some 50), none, .p .mov, [.t 5]⟩ ::
 ⟨(some 51), none, .p (.bin .add), [.t 50, .c (.int .i64 1)]⟩ ::
 ⟨(some 5), none, .p .mov, [.t 51]⟩ ::
 []))))
def L_escapementref09_Check_0 : AC := (.seq (.seq (.ops (⟨(some 9), none, .p .mov, [.t 3]⟩ ::
 ⟨(some 10), none, .p .mov, [.t 0]⟩ ::
 ⟨(some 11), none, .p .lenS, [.t 10]⟩ ::
 ⟨(some 12), none, .p (.bin .lss), [.t 9, .t 11]⟩ ::
 []))
(.cond (.t 12)
.skip
(.exit 0)))
(.seq (.block 1 (.seq (.ops (⟨(some 15), none, .p .mov, [.t 0]⟩ ::
 ⟨(some 16), none, .p .mov, [.t 3]⟩ ::
 ⟨(some 17), none, .p (.iaddrS 3), [.t 15, .t 16]⟩ ::
 ⟨(some 18), none, .r (.loadN 3), [.t 17]⟩ ::
 ⟨(some 4), none, .a (.alloc [(.int .i64 0), (.int .i64 0), .nils]), []⟩ ::
 ⟨none, none, .e (.store 3), [.t 4, .t 18]⟩ ::
 []))
(.seq (.seq (.ops (⟨(some 19), none, .p (.faddr 0), [.t 4]⟩ ::
 ⟨(some 20), none, .r .load1, [.t 19]⟩ ::
 ⟨(some 21), none, .p (.bin .lss), [.t 20, .c (.int .i64 1)]⟩ ::
 ⟨(some 22), none, .p .mov, [.t 21]⟩ ::
 ⟨(some 23), (some (22, false)), .p (.faddr 0), [.t 4]⟩ ::
 ⟨(some 24), (some (22, false)), .r .load1, [.t 23]⟩ ::
 ⟨(some 25), (some (22, false)), .p (.bin .gtr), [.t 24, .c (.int .i64 64)]⟩ ::
 ⟨(some 26), none, .p .pick, [.t 22, .c (.bool true), .t 25]⟩ ::
 ⟨(some 27), none, .p .mov, [.t 26]⟩ ::
 ⟨(some 28), (some (27, false)), .p (.faddr 1), [.t 4]⟩ ::
 ⟨(some 29), (some (27, false)), .r .load1, [.t 28]⟩ ::
 ⟨(some 30), (some (27, false)), .p (.bin .lss), [.t 29, .c (.int .i64 1)]⟩ ::
 ⟨(some 31), none, .p .pick, [.t 27, .c (.bool true), .t 30]⟩ ::
 ⟨(some 32), none, .p .mov, [.t 31]⟩ ::
 ⟨(some 33), (some (32, false)), .p (.faddr 1), [.t 4]⟩ ::
 ⟨(some 34), (some (32, false)), .r .load1, [.t 33]⟩ ::
 ⟨(some 35), (some (32, false)), .p (.faddr 0), [.t 4]⟩ ::
 ⟨(some 36), (some (32, false)), .r .load1, [.t 35]⟩ ::
 ⟨(some 37), (some (32, false)), .p (.bin .gtr), [.t 34, .t 36]⟩ ::
 ⟨(some 38), none, .p .pick, [.t 32, .c (.bool true), .t 37]⟩ ::
 ⟨(some 39), none, .p .mov, [.t 38]⟩ ::
 ⟨(some 40), (some (39, false)), .p (.faddr 2), [.t 4]⟩ ::
 ⟨(some 41), (some (39, false)), .r .load1, [.t 40]⟩ ::
 ⟨(some 42), (some (39, false)), .call, [.c (.func (.func 42) [] []), .t 41]⟩ ::
 ⟨(some 43), (some (39, false)), .p .not, [.t 42]⟩ ::
 ⟨(some 44), none, .p .pick, [.t 39, .c (.bool true), .t 43]⟩ ::
 []))
(.cond (.t 44)
(.seq (.ops (⟨(some 2), none, .p .mov, [.c (.int .i64 2)]⟩ ::
 []))
.ret)
.skip))
(.seq (.ops (⟨(some 5), none, .p .mov, [.c (.int .i64 0)]⟩ ::
 []))
(.block 2 (.loop L_escapementref09_Check_1))))))
(.ops (⟨(some 13), none, .p .mov, [.t 3]⟩ ::
 ⟨(some 14), none, .p (.bin .add), [.t 13, .c (.int .i64 1)]⟩ ::
 ⟨(some 3), none, .p .mov, [.t 14]⟩ ::
 []))))
def C18 : AFunc := ⟨61, [.tmp 2],
(.seq (.ops (⟨(some 2), none, .p .mov, [.c (.int .i64 0)]⟩ ::
 []))
(.seq (.seq (.ops (⟨(some 6), none, .p .mov, [.t 0]⟩ ::
 ⟨(some 7), none, .p .lenS, [.t 6]⟩ ::
 ⟨(some 8), none, .p (.bin .gtr), [.t 7, .c (.int .i64 4)]⟩ ::
 []))
(.cond (.t 8)
(.seq (.ops (⟨(some 2), none, .p .mov, [.c (.int .i64 2)]⟩ ::
 []))
.ret)
.skip))
(.seq (.seq (.ops (⟨(some 3), none, .p .mov, [.c (.int .i64 0)]⟩ ::
 []))
(.block 0 (.loop L_escapementref09_Check_0)))
(.seq (.ops (⟨(some 2), none, .p .mov, [.c (.int .i64 0)]⟩ ::
 []))
.ret))))⟩
abbrev f_escapementref09_Check : Nat := 18
abbrev C_escapementref09_Check : AFunc := C18
def L_escapementref00_EqInts_0 : AC := (.seq (.seq (.ops (⟨(some 11), none, .p .mov, [.t 5]⟩ ::
 ⟨(some 12), none, .p .mov, [.t 0]⟩ ::
 ⟨(some 13), none, .p .lenS, [.t 12]⟩ ::
 ⟨(some 14), none, .p (.bin .lss), [.t 11, .t 13]⟩ ::
 []))
(.cond (.t 14)
.skip
(.exit 0)))
(.seq (.block 1 (.seq (.dops (⟨(some 17), none, .p .mov, [.t 0]⟩ ::
 ⟨(some 18), none, .p .mov, [.t 5]⟩ ::
 ⟨(some 19), none, .p (.iaddrS 1), [.t 17, .t 18]⟩ ::
 ⟨(some 20), none, .r .load1, [.t 19]⟩ ::
 ⟨(some 21), none, .p .mov, [.t 1]⟩ ::
 ⟨(some 22), none, .p .mov, [.t 5]⟩ ::
 ⟨(some 23), none, .p (.iaddrS 1), [.t 21, .t 22]⟩ ::
 ⟨(some 24), none, .r .load1, [.t 23]⟩ ::
 ⟨(some 25), none, .p (.bin .neq), [.t 20, .t 24]⟩ ::
 []) ([] :: [] :: [] :: [] :: [] :: [] :: [] :: [] :: [] :: []))
(.cond (.t 25)
(.seq (.ops (⟨(some 4), none, .p .mov, [.c (.bool false)]⟩ ::
 []))
.ret)
.skip)))
(.ops (⟨(some 15), none, .p .mov, [.t 5]⟩ ::
 ⟨(some 16), none, .p (.bin .add), [.t 15, .c (.int .i64 1)]⟩ ::
 ⟨(some 5), none, .p .mov, [.t 16]⟩ ::
 []))))
def C19 : AFunc := ⟨26, [.tmp 4],
(.seq (.ops (⟨(some 4), none, .p .mov, [.c (.bool false)]⟩ ::
 []))
(.seq (.seq (.ops (⟨(some 6), none, .p .mov, [.t 0]⟩ ::
 ⟨(some 7), none, .p .lenS, [.t 6]⟩ ::
 ⟨(some 8), none, .p .mov, [.t 1]⟩ ::
 ⟨(some 9), none, .p .lenS, [.t 8]⟩ ::
 ⟨(some 10), none, .p (.bin .neq), [.t 7, .t 9]⟩ ::
 []))
(.cond (.t 10)
(.seq (.ops (⟨(some 4), none, .p .mov, [.c (.bool false)]⟩ ::
 []))
.ret)
.skip))
(.seq (.seq (.ops (⟨(some 5), none, .p .mov, [.c (.int .i64 0)]⟩ ::
 []))
(.block 0 (.loop L_escapementref00_EqInts_0)))
(.seq (.ops (⟨(some 4), none, .p .mov, [.c (.bool true)]⟩ ::
 []))
.ret))))⟩
abbrev f_escapementref00_EqInts : Nat := 19
abbrev C_escapementref00_EqInts : AFunc := C19
def C20 : AFunc := ⟨97, [.tmp 0],
(.seq (.ops (⟨(some 0), none, .p .mov, [.c (.bool false)]⟩ ::
 []))
(.seq (.ops (⟨(some 15), none, .call, [.c (.func (.func 44) [] [])]⟩ ::
 ⟨(some 1), none, .p .mov, [.t 15]⟩ ::
 []))
(.seq (.dops (⟨(some 16), none, .p .mov, [.t 1]⟩ ::
 ⟨(some 17), none, .p (.iaddrS 3), [.t 16, .c (.int .i64 0)]⟩ ::
 ⟨(some 18), none, .r (.loadN 3), [.t 17]⟩ ::
 ⟨(some 19), none, .p .mov, [.t 1]⟩ ::
 ⟨(some 20), none, .p (.iaddrS 3), [.t 19, .c (.int .i64 2)]⟩ ::
 ⟨(some 21), none, .r (.loadN 3), [.t 20]⟩ ::
 ⟨(some 22), none, .a (.bslice [(.int .i64 0), (.int .i64 0), .nils] 2 3 [0, 1]), [.t 18, .t 21]⟩ ::
 ⟨(some 2), none, .p .mov, [.t 22]⟩ ::
 []) ([] :: [] :: [] :: [] :: [] :: [] :: [] :: [] :: []))
(.seq (.ops (⟨(some 24), none, .p .mov, [.t 1]⟩ ::
 ⟨(some 25), none, .call, [.c (.func (.func 13) [] []), .t 24, .c (.int .i64 0), .c (.int .i64 0)]⟩ ::
 ⟨(some 23), none, .p .mov, [.t 25]⟩ ::
 ⟨(some 26), none, .p (.ext 0), [.t 23]⟩ ::
 ⟨(some 27), none, .p (.ext 1), [.t 23]⟩ ::
 ⟨(some 3), none, .p .mov, [.t 26]⟩ ::
 ⟨(some 4), none, .p .mov, [.t 27]⟩ ::
 []))
(.seq (.ops (⟨(some 29), none, .p .mov, [.t 1]⟩ ::
 ⟨(some 30), none, .call, [.c (.func (.func 13) [] []), .t 29, .c (.int .i64 1), .c (.int .i64 0)]⟩ ::
 ⟨(some 28), none, .p .mov, [.t 30]⟩ ::
 ⟨(some 31), none, .p (.ext 0), [.t 28]⟩ ::
 ⟨(some 32), none, .p (.ext 1), [.t 28]⟩ ::
 ⟨(some 5), none, .p .mov, [.t 31]⟩ ::
 ⟨(some 6), none, .p .mov, [.t 32]⟩ ::
 []))
(.seq (.ops (⟨(some 34), none, .p .mov, [.t 2]⟩ ::
 ⟨(some 35), none, .call, [.c (.func (.func 13) [] []), .t 34, .c (.int .i64 0), .c (.int .i64 0)]⟩ ::
 ⟨(some 33), none, .p .mov, [.t 35]⟩ ::
 ⟨(some 36), none, .p (.ext 0), [.t 33]⟩ ::
 ⟨(some 37), none, .p (.ext 1), [.t 33]⟩ ::
 ⟨(some 7), none, .p .mov, [.t 36]⟩ ::
 ⟨(some 8), none, .p .mov, [.t 37]⟩ ::
 []))
(.seq (.ops (⟨(some 39), none, .p .mov, [.t 1]⟩ ::
 ⟨(some 40), none, .call, [.c (.func (.func 21) [] []), .t 39, .c (.int .i64 1), .c (.int .i64 11)]⟩ ::
 ⟨(some 38), none, .p .mov, [.t 40]⟩ ::
 ⟨(some 41), none, .p (.ext 0), [.t 38]⟩ ::
 ⟨(some 42), none, .p (.ext 1), [.t 38]⟩ ::
 ⟨(some 9), none, .p .mov, [.t 41]⟩ ::
 ⟨(some 10), none, .p .mov, [.t 42]⟩ ::
 []))
(.seq (.ops (⟨(some 44), none, .p .mov, [.t 1]⟩ ::
 ⟨(some 45), none, .call, [.c (.func (.func 21) [] []), .t 44, .c (.int .i64 1), .c (.int .i64 12)]⟩ ::
 ⟨(some 43), none, .p .mov, [.t 45]⟩ ::
 ⟨(some 46), none, .p (.ext 0), [.t 43]⟩ ::
 ⟨(some 47), none, .p (.ext 1), [.t 43]⟩ ::
 ⟨(some 11), none, .p .mov, [.t 46]⟩ ::
 ⟨(some 12), none, .p .mov, [.t 47]⟩ ::
 []))
(.seq (.ops (⟨(some 49), none, .p .mov, [.t 2]⟩ ::
 ⟨(some 50), none, .call, [.c (.func (.func 21) [] []), .t 49, .c (.int .i64 0), .c (.int .i64 3)]⟩ ::
 ⟨(some 48), none, .p .mov, [.t 50]⟩ ::
 ⟨(some 51), none, .p (.ext 0), [.t 48]⟩ ::
 ⟨(some 52), none, .p (.ext 1), [.t 48]⟩ ::
 ⟨(some 13), none, .p .mov, [.t 51]⟩ ::
 ⟨(some 14), none, .p .mov, [.t 52]⟩ ::
 []))
(.seq (.ops (⟨(some 53), none, .p .mov, [.t 3]⟩ ::
 ⟨(some 54), none, .p (.bin .eql), [.t 53, .c (.int .i64 14)]⟩ ::
 ⟨(some 55), none, .p .mov, [.t 54]⟩ ::
 ⟨(some 56), (some (55, true)), .p .mov, [.t 5]⟩ ::
 ⟨(some 57), (some (55, true)), .p (.bin .eql), [.t 56, .c (.int .i64 10)]⟩ ::
 ⟨(some 58), none, .p .pick, [.t 55, .t 57, .c (.bool false)]⟩ ::
 ⟨(some 59), none, .p .mov, [.t 58]⟩ ::
 ⟨(some 60), (some (59, true)), .p .mov, [.t 7]⟩ ::
 ⟨(some 61), (some (59, true)), .p (.bin .eql), [.t 60, .c (.int .i64 0)]⟩ ::
 ⟨(some 62), none, .p .pick, [.t 59, .t 61, .c (.bool false)]⟩ ::
 ⟨(some 63), none, .p .mov, [.t 62]⟩ ::
 ⟨(some 64), (some (63, true)), .p .mov, [.t 8]⟩ ::
 ⟨(some 65), (some (63, true)), .p (.bin .eql), [.t 64, .c (.int .i64 0)]⟩ ::
 ⟨(some 66), none, .p .pick, [.t 63, .t 65, .c (.bool false)]⟩ ::
 ⟨(some 67), none, .p .mov, [.t 66]⟩ ::
 ⟨(some 68), (some (67, true)), .p .mov, [.t 1]⟩ ::
 ⟨(some 69), (some (67, true)), .a (.bslice [(.int .i64 0)] 1 1 [0]), [.c (.int .i64 15)]⟩ ::
 ⟨(some 70), (some (67, true)), .call, [.c (.func (.func 45) [] []), .t 68, .c (.int .i64 0), .t 69]⟩ ::
 ⟨(some 71), none, .p .pick, [.t 67, .t 70, .c (.bool false)]⟩ ::
 ⟨(some 72), none, .p .mov, [.t 71]⟩ ::
 ⟨(some 73), (some (72, true)), .p .mov, [.t 1]⟩ ::
 ⟨(some 74), (some (72, true)), .a (.bslice [(.int .i64 0)] 1 1 [0]), [.c (.int .i64 20)]⟩ ::
 ⟨(some 75), (some (72, true)), .call, [.c (.func (.func 45) [] []), .t 73, .c (.int .i64 1), .t 74]⟩ ::
 ⟨(some 76), none, .p .pick, [.t 72, .t 75, .c (.bool false)]⟩ ::
 ⟨(some 77), none, .p .mov, [.t 76]⟩ ::
 ⟨(some 78), (some (77, true)), .p .mov, [.t 1]⟩ ::
 ⟨(some 79), (some (77, true)), .call, [.c (.func (.func 45) [] []), .t 78, .c (.int .i64 2), .c .nils]⟩ ::
 ⟨(some 80), none, .p .pick, [.t 77, .t 79, .c (.bool false)]⟩ ::
 ⟨(some 81), none, .p .mov, [.t 80]⟩ ::
 ⟨(some 82), (some (81, true)), .p .mov, [.t 9]⟩ ::
 ⟨(some 83), (some (81, true)), .p (.bin .eql), [.t 82, .c (.int .i64 11)]⟩ ::
 ⟨(some 84), none, .p .pick, [.t 81, .t 83, .c (.bool false)]⟩ ::
 ⟨(some 85), none, .p .mov, [.t 84]⟩ ::
 ⟨(some 86), (some (85, true)), .p .mov, [.t 11]⟩ ::
 ⟨(some 87), (some (85, true)), .p (.bin .eql), [.t 86, .c (.int .i64 0)]⟩ ::
 ⟨(some 88), none, .p .pick, [.t 85, .t 87, .c (.bool false)]⟩ ::
 ⟨(some 89), none, .p .mov, [.t 88]⟩ ::
 ⟨(some 90), (some (89, true)), .p .mov, [.t 13]⟩ ::
 ⟨(some 91), (some (89, true)), .p (.bin .eql), [.t 90, .c (.int .i64 3)]⟩ ::
 ⟨(some 92), none, .p .pick, [.t 89, .t 91, .c (.bool false)]⟩ ::
 ⟨(some 93), none, .p .mov, [.t 92]⟩ ::
 ⟨(some 94), (some (93, true)), .p .mov, [.t 14]⟩ ::
 ⟨(some 95), (some (93, true)), .p (.bin .eql), [.t 94, .c (.int .i64 0)]⟩ ::
 ⟨(some 96), none, .p .pick, [.t 93, .t 95, .c (.bool false)]⟩ ::
 ⟨(some 0), none, .p .mov, [.t 96]⟩ ::
 []))
.ret))))))))))⟩
abbrev f_escapementlaw09_works : Nat := 20
abbrev C_escapementlaw09_works : AFunc := C20
def L_delay_Of_0 : AC := (.seq (.ops (⟨(some 29), none, .p (.bin .lss), [.t 28, .t 27]⟩ ::
 []))
(.seq (.cond (.t 29)
.skip
(.exit 1))
(.seq (.block 2 (.seq (.ops (⟨(some 30), none, .p (.iaddrS 8), [.t 26, .t 28]⟩ ::
 ⟨(some 31), none, .r (.loadN 8), [.t 30]⟩ ::
 ⟨(some 10), none, .a (.alloc [(.int .i64 0), (.int .i64 0), (.int .i64 0), (.int .i64 0), (.int .i64 0), (.int .i64 0), (.int .i64 0), (.int .i64 0)]), []⟩ ::
 ⟨none, none, .e (.store 8), [.t 10, .t 31]⟩ ::
 []))
(.seq (.ops (⟨(some 32), none, .p (.faddr 1), [.t 10]⟩ ::
 ⟨(some 33), none, .r .load1, [.t 32]⟩ ::
 ⟨(some 34), none, .p .mov, [.t 2]⟩ ::
 ⟨(some 35), none, .p (.bin .gtr), [.t 33, .t 34]⟩ ::
 []))
(.cond (.t 35)
(.ops (⟨(some 36), none, .p .mov, [.t 6]⟩ ::
 ⟨(some 37), none, .r (.loadN 5), [.t 8]⟩ ::
 ⟨(some 38), none, .r (.loadN 8), [.t 10]⟩ ::
 ⟨(some 39), none, .call, [.c (.func (.func 46) [] []), .t 37, .t 38]⟩ ::
 ⟨(some 40), none, .p .mx, [.t 36, .t 39]⟩ ::
 ⟨(some 6), none, .p .mov, [.t 40]⟩ ::
 []))
.skip))))
(.ops (⟨(some 41), none, .p (.bin .add), [.t 28, .c (.int .i64 1)]⟩ ::
 ⟨(some 28), none, .p .mov, [.t 41]⟩ ::
 [])))))
def C21 : AFunc := ⟨43, [.tmp 6, .tmp 7],
(.seq (.ops (⟨(some 6), none, .p .mov, [.c (.int .i64 0)]⟩ ::
 ⟨(some 7), none, .p .mov, [.c (.int .i64 0)]⟩ ::
 []))
(.seq (.ops (⟨(some 12), none, .p .mov, [.t 0]⟩ ::
 ⟨(some 13), none, .p .mov, [.t 1]⟩ ::
 ⟨(some 14), none, .call, [.c (.func (.func 36) [] []), .t 12, .t 13]⟩ ::
 ⟨(some 11), none, .p .mov, [.t 14]⟩ ::
 ⟨(some 15), none, .p (.ext 0), [.t 11]⟩ ::
 ⟨(some 16), none, .p (.ext 1), [.t 11]⟩ ::
 ⟨(some 8), none, .a (.alloc [(.int .i64 0), (.int .i64 0), .nils, .nils, (.int .i64 0)]), []⟩ ::
 ⟨none, none, .e (.store 5), [.t 8, .t 15]⟩ ::
 ⟨(some 7), none, .p .mov, [.t 16]⟩ ::
 []))
(.seq (.block 0 (.seq (.ops (⟨(some 18), none, .p .mov, [.t 7]⟩ ::
 ⟨(some 19), none, .p (.bin .neq), [.t 18, .c (.int .i64 0)]⟩ ::
 ⟨(some 17), none, .p .mov, [.t 19]⟩ ::
 []))
(.cond (.t 17)
(.seq (.ops (⟨(some 20), none, .p .mov, [.t 7]⟩ ::
 ⟨(some 6), none, .p .mov, [.c (.int .i64 0)]⟩ ::
 ⟨(some 7), none, .p .mov, [.t 20]⟩ ::
 []))
.ret)
(.seq (.ops (⟨(some 22), none, .p .mov, [.t 2]⟩ ::
 ⟨(some 23), none, .p (.bin .lss), [.t 22, .c (.int .i64 0)]⟩ ::
 ⟨(some 21), none, .p .mov, [.t 23]⟩ ::
 []))
(.cond (.t 21)
(.seq (.ops (⟨(some 6), none, .p .mov, [.c (.int .i64 0)]⟩ ::
 ⟨(some 7), none, .p .mov, [.c (.int .i64 2)]⟩ ::
 []))
.ret)
.skip)))))
(.seq (.seq (.ops (⟨(some 24), none, .p (.faddr 0), [.t 8]⟩ ::
 ⟨(some 25), none, .p (.faddr 2), [.t 24]⟩ ::
 ⟨(some 26), none, .r .load1, [.t 25]⟩ ::
 ⟨(some 27), none, .p .lenS, [.t 26]⟩ ::
 ⟨(some 28), none, .p .mov, [.c (.int .i64 0)]⟩ ::
 []))
(.block 1 (.loop L_delay_Of_0)))
(.seq (.ops (⟨(some 42), none, .p .mov, [.t 6]⟩ ::
 ⟨(some 6), none, .p .mov, [.t 42]⟩ ::
 ⟨(some 7), none, .p .mov, [.c (.int .i64 0)]⟩ ::
 []))
.ret)))))⟩
abbrev f_delay_Of : Nat := 21
abbrev C_delay_Of : AFunc := C21
def L_escapementref09_Of_0 : AC := (.seq (.seq (.ops (⟨(some 27), none, .p .mov, [.t 10]⟩ ::
 ⟨(some 28), none, .p .mov, [.t 0]⟩ ::
 ⟨(some 29), none, .p .mov, [.t 1]⟩ ::
 ⟨(some 30), none, .p (.iaddrS 3), [.t 28, .t 29]⟩ ::
 ⟨(some 31), none, .p (.faddr 2), [.t 30]⟩ ::
 ⟨(some 32), none, .r .load1, [.t 31]⟩ ::
 ⟨(some 33), none, .p .lenS, [.t 32]⟩ ::
 ⟨(some 34), none, .p (.bin .lss), [.t 27, .t 33]⟩ ::
 []))
(.cond (.t 34)
.skip
(.exit 0)))
(.seq (.block 1 (.seq (.ops (⟨(some 37), none, .p .mov, [.t 0]⟩ ::
 ⟨(some 38), none, .p .mov, [.t 1]⟩ ::
 ⟨(some 39), none, .p (.iaddrS 3), [.t 37, .t 38]⟩ ::
 ⟨(some 40), none, .p (.faddr 2), [.t 39]⟩ ::
 ⟨(some 41), none, .r .load1, [.t 40]⟩ ::
 ⟨(some 42), none, .p .mov, [.t 10]⟩ ::
 ⟨(some 43), none, .p (.iaddrS 8), [.t 41, .t 42]⟩ ::
 ⟨(some 44), none, .r (.loadN 8), [.t 43]⟩ ::
 ⟨(some 11), none, .a (.alloc [(.int .i64 0), (.int .i64 0), (.int .i64 0), (.int .i64 0), (.int .i64 0), (.int .i64 0), (.int .i64 0), (.int .i64 0)]), []⟩ ::
 ⟨none, none, .e (.store 8), [.t 11, .t 44]⟩ ::
 []))
(.seq (.seq (.ops (⟨(some 45), none, .p (.faddr 1), [.t 11]⟩ ::
 ⟨(some 46), none, .r .load1, [.t 45]⟩ ::
 ⟨(some 47), none, .p .mov, [.t 2]⟩ ::
 ⟨(some 48), none, .p (.bin .leq), [.t 46, .t 47]⟩ ::
 []))
(.cond (.t 48)
(.exit 1)
.skip))
(.seq (.ops (⟨(some 49), none, .p .mov, [.t 9]⟩ ::
 ⟨(some 50), none, .p (.faddr 4), [.t 11]⟩ ::
 ⟨(some 51), none, .r .load1, [.t 50]⟩ ::
 ⟨(some 52), none, .p .mx, [.t 49, .t 51]⟩ ::
 ⟨(some 9), none, .p .mov, [.t 52]⟩ ::
 []))
(.seq (.ops (⟨(some 53), none, .p (.faddr 5), [.t 11]⟩ ::
 ⟨(some 54), none, .r .load1, [.t 53]⟩ ::
 ⟨(some 55), none, .p (.bin .gtr), [.t 54, .c (.int .i64 0)]⟩ ::
 []))
(.cond (.t 55)
(.dops (⟨(some 56), none, .p .mov, [.t 9]⟩ ::
 ⟨(some 57), none, .p .mov, [.t 0]⟩ ::
 ⟨(some 58), none, .p .mov, [.t 1]⟩ ::
 ⟨(some 59), none, .r (.loadN 8), [.t 11]⟩ ::
 ⟨(some 60), none, .call, [.c (.func (.func 38) [] []), .t 57, .t 58, .t 59]⟩ ::
 ⟨(some 61), none, .p (.faddr 6), [.t 11]⟩ ::
 ⟨(some 62), none, .r .load1, [.t 61]⟩ ::
 ⟨(some 63), none, .p (.bin .mul), [.c (.int .i64 2), .t 62]⟩ ::
 ⟨(some 64), none, .p (.bin .add), [.t 60, .t 63]⟩ ::
 ⟨(some 65), none, .p (.bin .sub), [.t 64, .c (.int .i64 1)]⟩ ::
 ⟨(some 66), none, .p .mx, [.t 56, .t 65]⟩ ::
 ⟨(some 9), none, .p .mov, [.t 66]⟩ ::
 []) ([] :: [] :: [] :: [] :: [] :: [] :: [0, 5] :: [] :: [] :: [] :: [] :: [] :: []))
.skip))))))
(.ops (⟨(some 35), none, .p .mov, [.t 10]⟩ ::
 ⟨(some 36), none, .p (.bin .add), [.t 35, .c (.int .i64 1)]⟩ ::
 ⟨(some 10), none, .p .mov, [.t 36]⟩ ::
 []))))
def C22 : AFunc := ⟨68, [.tmp 6, .tmp 7],
(.seq (.ops (⟨(some 6), none, .p .mov, [.c (.int .i64 0)]⟩ ::
 ⟨(some 7), none, .p .mov, [.c (.int .i64 0)]⟩ ::
 []))
(.seq (.seq (.ops (⟨(some 12), none, .p .mov, [.t 0]⟩ ::
 ⟨(some 13), none, .call, [.c (.func (.func 18) [] []), .t 12]⟩ ::
 ⟨(some 8), none, .p .mov, [.t 13]⟩ ::
 []))
(.seq (.ops (⟨(some 14), none, .p .mov, [.t 8]⟩ ::
 ⟨(some 15), none, .p (.bin .neq), [.t 14, .c (.int .i64 0)]⟩ ::
 []))
(.cond (.t 15)
(.seq (.ops (⟨(some 16), none, .p .mov, [.t 8]⟩ ::
 ⟨(some 6), none, .p .mov, [.c (.int .i64 0)]⟩ ::
 ⟨(some 7), none, .p .mov, [.t 16]⟩ ::
 []))
.ret)
.skip)))
(.seq (.seq (.ops (⟨(some 17), none, .p .mov, [.t 1]⟩ ::
 ⟨(some 18), none, .p (.bin .lss), [.t 17, .c (.int .i64 0)]⟩ ::
 ⟨(some 19), none, .p .mov, [.t 18]⟩ ::
 ⟨(some 20), (some (19, false)), .p .mov, [.t 1]⟩ ::
 ⟨(some 21), (some (19, false)), .p .mov, [.t 0]⟩ ::
 ⟨(some 22), (some (19, false)), .p .lenS, [.t 21]⟩ ::
 ⟨(some 23), (some (19, false)), .p (.bin .geq), [.t 20, .t 22]⟩ ::
 ⟨(some 24), none, .p .pick, [.t 19, .c (.bool true), .t 23]⟩ ::
 []))
(.cond (.t 24)
(.seq (.ops (⟨(some 6), none, .p .mov, [.c (.int .i64 0)]⟩ ::
 ⟨(some 7), none, .p .mov, [.c (.int .i64 9)]⟩ ::
 []))
.ret)
.skip))
(.seq (.seq (.ops (⟨(some 25), none, .p .mov, [.t 2]⟩ ::
 ⟨(some 26), none, .p (.bin .lss), [.t 25, .c (.int .i64 0)]⟩ ::
 []))
(.cond (.t 26)
(.seq (.ops (⟨(some 6), none, .p .mov, [.c (.int .i64 0)]⟩ ::
 ⟨(some 7), none, .p .mov, [.c (.int .i64 2)]⟩ ::
 []))
.ret)
.skip))
(.seq (.ops (⟨(some 9), none, .p .mov, [.c (.int .i64 0)]⟩ ::
 []))
(.seq (.seq (.ops (⟨(some 10), none, .p .mov, [.c (.int .i64 0)]⟩ ::
 []))
(.block 0 (.loop L_escapementref09_Of_0)))
(.seq (.ops (⟨(some 67), none, .p .mov, [.t 9]⟩ ::
 ⟨(some 6), none, .p .mov, [.t 67]⟩ ::
 ⟨(some 7), none, .p .mov, [.c (.int .i64 0)]⟩ ::
 []))
.ret)))))))⟩
abbrev f_escapementref09_Of : Nat := 22
abbrev C_escapementref09_Of : AFunc := C22
def L_escapementlaw09_made_1 : AC := (.seq (.seq (.ops (⟨(some 40), none, .p .mov, [.t 8]⟩ ::
 ⟨(some 41), none, .p .mov, [.t 0]⟩ ::
 ⟨(some 42), none, .p .mov, [.t 6]⟩ ::
 ⟨(some 43), none, .p (.iaddrS 3), [.t 41, .t 42]⟩ ::
 ⟨(some 44), none, .p (.faddr 2), [.t 43]⟩ ::
 ⟨(some 45), none, .r .load1, [.t 44]⟩ ::
 ⟨(some 46), none, .p .lenS, [.t 45]⟩ ::
 ⟨(some 47), none, .p (.bin .lss), [.t 40, .t 46]⟩ ::
 ⟨(some 48), none, .p .mov, [.t 47]⟩ ::
 ⟨(some 49), (some (48, true)), .p .mov, [.t 8]⟩ ::
 ⟨(some 50), (some (48, true)), .p (.bin .lss), [.t 49, .c (.int .i64 4)]⟩ ::
 ⟨(some 51), none, .p .pick, [.t 48, .t 50, .c (.bool false)]⟩ ::
 []))
(.cond (.t 51)
.skip
(.exit 2)))
(.seq (.block 3 (.seq (.ops (⟨(some 54), none, .p .mov, [.t 0]⟩ ::
 ⟨(some 55), none, .p .mov, [.t 6]⟩ ::
 ⟨(some 56), none, .p (.iaddrS 3), [.t 54, .t 55]⟩ ::
 ⟨(some 57), none, .p (.faddr 2), [.t 56]⟩ ::
 ⟨(some 58), none, .r .load1, [.t 57]⟩ ::
 ⟨(some 59), none, .p .mov, [.t 8]⟩ ::
 ⟨(some 60), none, .p (.iaddrS 8), [.t 58, .t 59]⟩ ::
 ⟨(some 61), none, .r (.loadN 8), [.t 60]⟩ ::
 ⟨(some 9), none, .a (.alloc [(.int .i64 0), (.int .i64 0), (.int .i64 0), (.int .i64 0), (.int .i64 0), (.int .i64 0), (.int .i64 0), (.int .i64 0)]), []⟩ ::
 ⟨none, none, .e (.store 8), [.t 9, .t 61]⟩ ::
 []))
(.seq (.ops (⟨(some 62), none, .p (.faddr 0), [.t 9]⟩ ::
 ⟨(some 63), none, .r .load1, [.t 62]⟩ ::
 ⟨(some 64), none, .call, [.c (.func (.func 24) [] []), .t 63, .c (.int .i64 64)]⟩ ::
 ⟨(some 65), none, .p (.bin .add), [.c (.int .i64 1), .t 64]⟩ ::
 ⟨(some 66), none, .p (.build [(.int .i64 0), (.int .i64 0), (.int .i64 0), (.int .i64 0), (.int .i64 0), (.int .i64 0), (.int .i64 0), (.int .i64 0)] [(0, 1)]), [.t 65]⟩ ::
 ⟨(some 10), none, .a (.alloc [(.int .i64 0), (.int .i64 0), (.int .i64 0), (.int .i64 0), (.int .i64 0), (.int .i64 0), (.int .i64 0), (.int .i64 0)]), []⟩ ::
 ⟨none, none, .e (.store 8), [.t 10, .t 66]⟩ ::
 []))
(.seq (.ops (⟨(some 67), none, .p (.faddr 1), [.t 9]⟩ ::
 ⟨(some 68), none, .r .load1, [.t 67]⟩ ::
 ⟨(some 69), none, .p (.faddr 0), [.t 10]⟩ ::
 ⟨(some 70), none, .r .load1, [.t 69]⟩ ::
 ⟨(some 71), none, .call, [.c (.func (.func 24) [] []), .t 68, .t 70]⟩ ::
 ⟨(some 72), none, .p (.bin .add), [.c (.int .i64 1), .t 71]⟩ ::
 ⟨(some 73), none, .p (.faddr 1), [.t 10]⟩ ::
 ⟨none, none, .e (.store 1), [.t 73, .t 72]⟩ ::
 []))
(.seq (.ops (⟨(some 74), none, .p (.faddr 2), [.t 9]⟩ ::
 ⟨(some 75), none, .r .load1, [.t 74]⟩ ::
 ⟨(some 76), none, .p (.faddr 1), [.t 10]⟩ ::
 ⟨(some 77), none, .r .load1, [.t 76]⟩ ::
 ⟨(some 78), none, .call, [.c (.func (.func 24) [] []), .t 75, .t 77]⟩ ::
 ⟨(some 79), none, .p (.bin .add), [.c (.int .i64 1), .t 78]⟩ ::
 ⟨(some 80), none, .p (.faddr 2), [.t 10]⟩ ::
 ⟨none, none, .e (.store 1), [.t 80, .t 79]⟩ ::
 []))
(.seq (.ops (⟨(some 81), none, .p (.faddr 4), [.t 9]⟩ ::
 ⟨(some 82), none, .r .load1, [.t 81]⟩ ::
 ⟨(some 83), none, .p (.faddr 2), [.t 10]⟩ ::
 ⟨(some 84), none, .r .load1, [.t 83]⟩ ::
 ⟨(some 85), none, .p (.bin .add), [.t 84, .c (.int .i64 1)]⟩ ::
 ⟨(some 86), none, .call, [.c (.func (.func 24) [] []), .t 82, .t 85]⟩ ::
 ⟨(some 87), none, .p (.faddr 4), [.t 10]⟩ ::
 ⟨none, none, .e (.store 1), [.t 87, .t 86]⟩ ::
 []))
(.seq (.ops (⟨(some 88), none, .p (.faddr 5), [.t 9]⟩ ::
 ⟨(some 89), none, .r .load1, [.t 88]⟩ ::
 ⟨(some 90), none, .call, [.c (.func (.func 24) [] []), .t 89, .c (.int .i64 5)]⟩ ::
 ⟨(some 91), none, .p (.faddr 5), [.t 10]⟩ ::
 ⟨none, none, .e (.store 1), [.t 91, .t 90]⟩ ::
 []))
(.seq (.seq (.ops (⟨(some 92), none, .p (.faddr 5), [.t 10]⟩ ::
 ⟨(some 93), none, .r .load1, [.t 92]⟩ ::
 ⟨(some 94), none, .p (.bin .gtr), [.t 93, .c (.int .i64 0)]⟩ ::
 []))
(.cond (.t 94)
(.seq (.ops (⟨(some 95), none, .p (.faddr 6), [.t 9]⟩ ::
 ⟨(some 96), none, .r .load1, [.t 95]⟩ ::
 ⟨(some 97), none, .p (.faddr 1), [.t 7]⟩ ::
 ⟨(some 98), none, .r .load1, [.t 97]⟩ ::
 ⟨(some 99), none, .p (.faddr 2), [.t 10]⟩ ::
 ⟨(some 100), none, .r .load1, [.t 99]⟩ ::
 ⟨(some 101), none, .p .mn, [.t 98, .t 100]⟩ ::
 ⟨(some 102), none, .call, [.c (.func (.func 24) [] []), .t 96, .t 101]⟩ ::
 ⟨(some 103), none, .p (.bin .add), [.c (.int .i64 1), .t 102]⟩ ::
 ⟨(some 104), none, .p (.faddr 6), [.t 10]⟩ ::
 ⟨none, none, .e (.store 1), [.t 104, .t 103]⟩ ::
 []))
(.dops (⟨(some 105), none, .p (.faddr 7), [.t 9]⟩ ::
 ⟨(some 106), none, .r .load1, [.t 105]⟩ ::
 ⟨(some 107), none, .p (.faddr 2), [.t 10]⟩ ::
 ⟨(some 108), none, .r .load1, [.t 107]⟩ ::
 ⟨(some 109), none, .p (.faddr 6), [.t 10]⟩ ::
 ⟨(some 110), none, .r .load1, [.t 109]⟩ ::
 ⟨(some 111), none, .p (.bin .quo), [.t 108, .t 110]⟩ ::
 ⟨(some 112), none, .call, [.c (.func (.func 24) [] []), .t 106, .t 111]⟩ ::
 ⟨(some 113), none, .p (.bin .add), [.c (.int .i64 1), .t 112]⟩ ::
 ⟨(some 114), none, .p (.faddr 7), [.t 10]⟩ ::
 ⟨none, none, .e (.store 1), [.t 114, .t 113]⟩ ::
 []) ([] :: [] :: [] :: [] :: [] :: [] :: [] :: [] :: [] :: [] :: [] :: [])))
.skip))
(.ops (⟨(some 115), none, .p (.faddr 2), [.t 7]⟩ ::
 ⟨(some 116), none, .r .load1, [.t 115]⟩ ::
 ⟨(some 117), none, .r (.loadN 8), [.t 10]⟩ ::
 ⟨(some 118), none, .a (.bslice [(.int .i64 0), (.int .i64 0), (.int .i64 0), (.int .i64 0), (.int .i64 0), (.int .i64 0), (.int .i64 0), (.int .i64 0)] 1 8 [0]), [.t 117]⟩ ::
 ⟨(some 119), none, .e (.append 8 64), [.t 116, .t 118]⟩ ::
 ⟨(some 120), none, .p (.faddr 2), [.t 7]⟩ ::
 ⟨none, none, .e (.store 1), [.t 120, .t 119]⟩ ::
 []))))))))))
(.ops (⟨(some 52), none, .p .mov, [.t 8]⟩ ::
 ⟨(some 53), none, .p (.bin .add), [.t 52, .c (.int .i64 1)]⟩ ::
 ⟨(some 8), none, .p .mov, [.t 53]⟩ ::
 []))))
def L_escapementlaw09_made_0 : AC := (.seq (.seq (.ops (⟨(some 11), none, .p .mov, [.t 6]⟩ ::
 ⟨(some 12), none, .p .mov, [.t 0]⟩ ::
 ⟨(some 13), none, .p .lenS, [.t 12]⟩ ::
 ⟨(some 14), none, .p (.bin .lss), [.t 11, .t 13]⟩ ::
 ⟨(some 15), none, .p .mov, [.t 14]⟩ ::
 ⟨(some 16), (some (15, true)), .p .mov, [.t 6]⟩ ::
 ⟨(some 17), (some (15, true)), .p .mov, [.t 1]⟩ ::
 ⟨(some 18), (some (15, true)), .p (.bin .lss), [.t 16, .t 17]⟩ ::
 ⟨(some 19), none, .p .pick, [.t 15, .t 18, .c (.bool false)]⟩ ::
 []))
(.cond (.t 19)
.skip
(.exit 0)))
(.seq (.block 1 (.seq (.ops (⟨(some 22), none, .p .mov, [.t 0]⟩ ::
 ⟨(some 23), none, .p .mov, [.t 6]⟩ ::
 ⟨(some 24), none, .p (.iaddrS 3), [.t 22, .t 23]⟩ ::
 ⟨(some 25), none, .p (.faddr 0), [.t 24]⟩ ::
 ⟨(some 26), none, .r .load1, [.t 25]⟩ ::
 ⟨(some 27), none, .call, [.c (.func (.func 24) [] []), .t 26, .c (.int .i64 64)]⟩ ::
 ⟨(some 28), none, .p (.bin .add), [.c (.int .i64 1), .t 27]⟩ ::
 ⟨(some 29), none, .p (.build [(.int .i64 0), (.int .i64 0), .nils] [(0, 1)]), [.t 28]⟩ ::
 ⟨(some 7), none, .a (.alloc [(.int .i64 0), (.int .i64 0), .nils]), []⟩ ::
 ⟨none, none, .e (.store 3), [.t 7, .t 29]⟩ ::
 []))
(.seq (.dops (⟨(some 30), none, .p .mov, [.t 0]⟩ ::
 ⟨(some 31), none, .p .mov, [.t 6]⟩ ::
 ⟨(some 32), none, .p (.iaddrS 3), [.t 30, .t 31]⟩ ::
 ⟨(some 33), none, .p (.faddr 1), [.t 32]⟩ ::
 ⟨(some 34), none, .r .load1, [.t 33]⟩ ::
 ⟨(some 35), none, .p (.faddr 0), [.t 7]⟩ ::
 ⟨(some 36), none, .r .load1, [.t 35]⟩ ::
 ⟨(some 37), none, .call, [.c (.func (.func 24) [] []), .t 34, .t 36]⟩ ::
 ⟨(some 38), none, .p (.bin .add), [.c (.int .i64 1), .t 37]⟩ ::
 ⟨(some 39), none, .p (.faddr 1), [.t 7]⟩ ::
 ⟨none, none, .e (.store 1), [.t 39, .t 38]⟩ ::
 []) ([] :: [] :: [] :: [] :: [] :: [] :: [] :: [] :: [] :: [] :: [] :: []))
(.seq (.seq (.ops (⟨(some 8), none, .p .mov, [.c (.int .i64 0)]⟩ ::
 []))
(.block 2 (.loop L_escapementlaw09_made_1)))
(.ops (⟨(some 121), none, .p .mov, [.t 5]⟩ ::
 ⟨(some 122), none, .r (.loadN 3), [.t 7]⟩ ::
 ⟨(some 123), none, .a (.bslice [(.int .i64 0), (.int .i64 0), .nils] 1 3 [0]), [.t 122]⟩ ::
 ⟨(some 124), none, .e (.append 3 40), [.t 121, .t 123]⟩ ::
 ⟨(some 5), none, .p .mov, [.t 124]⟩ ::
 []))))))
(.ops (⟨(some 20), none, .p .mov, [.t 6]⟩ ::
 ⟨(some 21), none, .p (.bin .add), [.t 20, .c (.int .i64 1)]⟩ ::
 ⟨(some 6), none, .p .mov, [.t 21]⟩ ::
 []))))
def C23 : AFunc := ⟨126, [.tmp 4],
(.seq (.ops (⟨(some 4), none, .p .mov, [.c .nils]⟩ ::
 []))
(.seq (.ops (⟨(some 5), none, .p .mov, [.c .nils]⟩ ::
 []))
(.seq (.seq (.ops (⟨(some 6), none, .p .mov, [.c (.int .i64 0)]⟩ ::
 []))
(.block 0 (.loop L_escapementlaw09_made_0)))
(.seq (.ops (⟨(some 125), none, .p .mov, [.t 5]⟩ ::
 ⟨(some 4), none, .p .mov, [.t 125]⟩ ::
 []))
.ret))))⟩
abbrev f_escapementlaw09_made : Nat := 23
abbrev C_escapementlaw09_made : AFunc := C23
def C24 : AFunc := ⟨14, [.tmp 4],
(.seq (.ops (⟨(some 4), none, .p .mov, [.c (.int .i64 0)]⟩ ::
 []))
(.seq (.ops (⟨(some 5), none, .p .mov, [.t 0]⟩ ::
 ⟨(some 6), none, .p .mov, [.t 1]⟩ ::
 ⟨(some 7), none, .p (.bin .rem), [.t 5, .t 6]⟩ ::
 ⟨(some 0), none, .p .mov, [.t 7]⟩ ::
 []))
(.seq (.seq (.ops (⟨(some 8), none, .p .mov, [.t 0]⟩ ::
 ⟨(some 9), none, .p (.bin .lss), [.t 8, .c (.int .i64 0)]⟩ ::
 []))
(.cond (.t 9)
(.ops (⟨(some 10), none, .p .mov, [.t 0]⟩ ::
 ⟨(some 11), none, .p .mov, [.t 1]⟩ ::
 ⟨(some 12), none, .p (.bin .add), [.t 10, .t 11]⟩ ::
 ⟨(some 0), none, .p .mov, [.t 12]⟩ ::
 []))
.skip))
(.seq (.ops (⟨(some 13), none, .p .mov, [.t 0]⟩ ::
 ⟨(some 4), none, .p .mov, [.t 13]⟩ ::
 []))
.ret))))⟩
abbrev f_escapementref00_Bring : Nat := 24
abbrev C_escapementref00_Bring : AFunc := C24
def C25 : AFunc := ⟨7, [.tmp 2],
(.seq (.ops (⟨(some 2), none, .p .mov, [.c .nils]⟩ ::
 []))
(.seq (.ops (⟨(some 3), none, .p .mov, [.c .nils]⟩ ::
 []))
(.seq (.ops (⟨(some 4), none, .p .mov, [.t 3]⟩ ::
 ⟨(some 5), none, .p .mov, [.t 0]⟩ ::
 ⟨(some 6), none, .e (.append 1 8), [.t 4, .t 5]⟩ ::
 ⟨(some 2), none, .p .mov, [.t 6]⟩ ::
 []))
.ret)))⟩
abbrev f_escapementref00_CopyInts : Nat := 25
abbrev C_escapementref00_CopyInts : AFunc := C25
def C26 : AFunc := ⟨27, [.tmp 6, .tmp 7],
(.seq (.ops (⟨(some 5), none, .a .box, [.t 2]⟩ ::
 ⟨(some 6), none, .p .mov, [.c (.int .i64 0)]⟩ ::
 ⟨(some 7), none, .p .mov, [.c (.int .i64 0)]⟩ ::
 []))
(.seq (.seq (.ops (⟨(some 9), none, .p .mov, [.t 0]⟩ ::
 ⟨(some 10), none, .p .mov, [.t 1]⟩ ::
 ⟨(some 11), none, .call, [.c (.func (.func 28) [] []), .t 9, .t 10]⟩ ::
 ⟨(some 8), none, .p .mov, [.t 11]⟩ ::
 []))
(.seq (.ops (⟨(some 12), none, .p .mov, [.t 8]⟩ ::
 ⟨(some 13), none, .p (.bin .neq), [.t 12, .c (.int .i64 0)]⟩ ::
 ⟨(some 14), none, .p .mov, [.t 13]⟩ ::
 ⟨(some 15), (some (14, false)), .r .load1, [.t 5]⟩ ::
 ⟨(some 16), (some (14, false)), .p (.bin .lss), [.t 15, .c (.int .i64 0)]⟩ ::
 ⟨(some 17), none, .p .pick, [.t 14, .c (.bool true), .t 16]⟩ ::
 ⟨(some 18), none, .p .mov, [.t 17]⟩ ::
 ⟨(some 19), (some (18, false)), .r .load1, [.t 5]⟩ ::
 ⟨(some 20), (some (18, false)), .p (.bin .gtr), [.t 19, .c (.int .i64 1048576)]⟩ ::
 ⟨(some 21), none, .p .pick, [.t 18, .c (.bool true), .t 20]⟩ ::
 []))
(.cond (.t 21)
(.seq (.ops (⟨(some 6), none, .p .mov, [.c (.int .i64 0)]⟩ ::
 ⟨(some 7), none, .p .mov, [.c (.int .i64 2)]⟩ ::
 []))
.ret)
.skip)))
(.seq (.ops (⟨(some 22), none, .p .mov, [.t 0]⟩ ::
 ⟨(some 23), none, .p .mov, [.t 1]⟩ ::
 ⟨(some 24), none, .p (.mkfunc (.func 49) 0), [.t 5]⟩ ::
 ⟨(some 25), none, .call, [.c (.func (.func 48) [] []), .t 22, .t 23, .t 24]⟩ ::
 ⟨(some 26), none, .call, [.c (.func (.func 47) [] []), .t 25]⟩ ::
 ⟨(some 6), none, .p .mov, [.t 26]⟩ ::
 ⟨(some 7), none, .p .mov, [.c (.int .i64 0)]⟩ ::
 []))
.ret)))⟩
abbrev f_demand_Of : Nat := 26
abbrev C_demand_Of : AFunc := C26
def L_escapementref08_Of_0 : AC := (.seq (.seq (.ops (⟨(some 23), none, .p .mov, [.t 9]⟩ ::
 ⟨(some 24), none, .p .mov, [.t 0]⟩ ::
 ⟨(some 25), none, .p .lenS, [.t 24]⟩ ::
 ⟨(some 26), none, .p (.bin .lss), [.t 23, .t 25]⟩ ::
 []))
(.cond (.t 26)
.skip
(.exit 0)))
(.seq (.block 1 (.seq (.ops (⟨(some 29), none, .p .mov, [.t 2]⟩ ::
 ⟨(some 30), none, .p .mov, [.t 0]⟩ ::
 ⟨(some 31), none, .p .mov, [.t 9]⟩ ::
 ⟨(some 32), none, .p (.iaddrS 8), [.t 30, .t 31]⟩ ::
 ⟨(some 33), none, .p (.faddr 1), [.t 32]⟩ ::
 ⟨(some 34), none, .r .load1, [.t 33]⟩ ::
 ⟨(some 35), none, .p (.bin .geq), [.t 29, .t 34]⟩ ::
 []))
(.cond (.t 35)
(.seq (.dops (⟨(some 36), none, .p .mov, [.t 2]⟩ ::
 ⟨(some 37), none, .p .mov, [.t 0]⟩ ::
 ⟨(some 38), none, .p .mov, [.t 9]⟩ ::
 ⟨(some 39), none, .p (.iaddrS 8), [.t 37, .t 38]⟩ ::
 ⟨(some 40), none, .p (.faddr 1), [.t 39]⟩ ::
 ⟨(some 41), none, .r .load1, [.t 40]⟩ ::
 ⟨(some 42), none, .p (.bin .sub), [.t 36, .t 41]⟩ ::
 ⟨(some 43), none, .p .mov, [.t 0]⟩ ::
 ⟨(some 44), none, .p .mov, [.t 9]⟩ ::
 ⟨(some 45), none, .p (.iaddrS 8), [.t 43, .t 44]⟩ ::
 ⟨(some 46), none, .p (.faddr 0), [.t 45]⟩ ::
 ⟨(some 47), none, .r .load1, [.t 46]⟩ ::
 ⟨(some 48), none, .p (.bin .quo), [.t 42, .t 47]⟩ ::
 ⟨(some 49), none, .p (.bin .add), [.c (.int .i64 1), .t 48]⟩ ::
 ⟨(some 10), none, .p .mov, [.t 49]⟩ ::
 []) ([] :: [] :: [] :: [] :: [] :: [] :: [] :: [] :: [] :: [] :: [] :: [] :: [] :: [] :: [] :: []))
(.dops (⟨(some 50), none, .p .mov, [.t 8]⟩ ::
 ⟨(some 51), none, .p .mov, [.t 10]⟩ ::
 ⟨(some 52), none, .p .mov, [.t 0]⟩ ::
 ⟨(some 53), none, .p .mov, [.t 9]⟩ ::
 ⟨(some 54), none, .p (.iaddrS 8), [.t 52, .t 53]⟩ ::
 ⟨(some 55), none, .p (.faddr 2), [.t 54]⟩ ::
 ⟨(some 56), none, .r .load1, [.t 55]⟩ ::
 ⟨(some 57), none, .p .mov, [.t 1]⟩ ::
 ⟨(some 58), none, .p .mov, [.t 9]⟩ ::
 ⟨(some 59), none, .p (.iaddrS 1), [.t 57, .t 58]⟩ ::
 ⟨(some 60), none, .r .load1, [.t 59]⟩ ::
 ⟨(some 61), none, .p (.bin .add), [.t 56, .t 60]⟩ ::
 ⟨(some 62), none, .p (.bin .mul), [.t 51, .t 61]⟩ ::
 ⟨(some 63), none, .p (.bin .add), [.t 50, .t 62]⟩ ::
 ⟨(some 8), none, .p .mov, [.t 63]⟩ ::
 []) ([] :: [] :: [] :: [] :: [] :: [] :: [] :: [] :: [] :: [] :: [] :: [] :: [] :: [] :: [] :: [])))
.skip)))
(.ops (⟨(some 27), none, .p .mov, [.t 9]⟩ ::
 ⟨(some 28), none, .p (.bin .add), [.t 27, .c (.int .i64 1)]⟩ ::
 ⟨(some 9), none, .p .mov, [.t 28]⟩ ::
 []))))
def C27 : AFunc := ⟨65, [.tmp 6, .tmp 7],
(.seq (.ops (⟨(some 6), none, .p .mov, [.c (.int .i64 0)]⟩ ::
 ⟨(some 7), none, .p .mov, [.c (.int .i64 0)]⟩ ::
 []))
(.seq (.seq (.ops (⟨(some 11), none, .p .mov, [.t 0]⟩ ::
 ⟨(some 12), none, .p .mov, [.t 1]⟩ ::
 ⟨(some 13), none, .call, [.c (.func (.func 29) [] []), .t 11, .t 12]⟩ ::
 ⟨(some 14), none, .p (.bin .neq), [.t 13, .c (.int .i64 0)]⟩ ::
 ⟨(some 15), none, .p .mov, [.t 14]⟩ ::
 ⟨(some 16), (some (15, false)), .p .mov, [.t 2]⟩ ::
 ⟨(some 17), (some (15, false)), .p (.bin .lss), [.t 16, .c (.int .i64 0)]⟩ ::
 ⟨(some 18), none, .p .pick, [.t 15, .c (.bool true), .t 17]⟩ ::
 ⟨(some 19), none, .p .mov, [.t 18]⟩ ::
 ⟨(some 20), (some (19, false)), .p .mov, [.t 2]⟩ ::
 ⟨(some 21), (some (19, false)), .p (.bin .gtr), [.t 20, .c (.int .i64 1048576)]⟩ ::
 ⟨(some 22), none, .p .pick, [.t 19, .c (.bool true), .t 21]⟩ ::
 []))
(.cond (.t 22)
(.seq (.ops (⟨(some 6), none, .p .mov, [.c (.int .i64 0)]⟩ ::
 ⟨(some 7), none, .p .mov, [.c (.int .i64 2)]⟩ ::
 []))
.ret)
.skip))
(.seq (.ops (⟨(some 8), none, .p .mov, [.c (.int .i64 0)]⟩ ::
 []))
(.seq (.seq (.ops (⟨(some 9), none, .p .mov, [.c (.int .i64 0)]⟩ ::
 []))
(.block 0 (.loop L_escapementref08_Of_0)))
(.seq (.ops (⟨(some 64), none, .p .mov, [.t 8]⟩ ::
 ⟨(some 6), none, .p .mov, [.t 64]⟩ ::
 ⟨(some 7), none, .p .mov, [.c (.int .i64 0)]⟩ ::
 []))
.ret)))))⟩
abbrev f_escapementref08_Of : Nat := 27
abbrev C_escapementref08_Of : AFunc := C27
def C28 : AFunc := ⟨21, [.tmp 4],
(.seq (.ops (⟨(some 4), none, .p .mov, [.c (.int .i64 0)]⟩ ::
 []))
(.seq (.ops (⟨(some 6), none, .p .mov, [.t 1]⟩ ::
 ⟨(some 7), none, .call, [.c (.func (.func 50) [] []), .t 6, .c (.func (.func 51) [] [])]⟩ ::
 ⟨(some 5), none, .p .mov, [.t 7]⟩ ::
 []))
(.seq (.seq (.ops (⟨(some 8), none, .p .mov, [.t 5]⟩ ::
 ⟨(some 9), none, .p .mov, [.t 8]⟩ ::
 ⟨(some 10), (some (9, false)), .p .mov, [.t 0]⟩ ::
 ⟨(some 11), (some (9, false)), .call, [.c (.func (.func 52) [] []), .t 10]⟩ ::
 ⟨(some 12), (some (9, false)), .p .not, [.t 11]⟩ ::
 ⟨(some 13), none, .p .pick, [.t 9, .c (.bool true), .t 12]⟩ ::
 ⟨(some 14), none, .p .mov, [.t 13]⟩ ::
 ⟨(some 15), (some (14, false)), .p .mov, [.t 1]⟩ ::
 ⟨(some 16), (some (14, false)), .p .lenS, [.t 15]⟩ ::
 ⟨(some 17), (some (14, false)), .p .mov, [.t 0]⟩ ::
 ⟨(some 18), (some (14, false)), .p .lenS, [.t 17]⟩ ::
 ⟨(some 19), (some (14, false)), .p (.bin .neq), [.t 16, .t 18]⟩ ::
 ⟨(some 20), none, .p .pick, [.t 14, .c (.bool true), .t 19]⟩ ::
 []))
(.cond (.t 20)
(.seq (.ops (⟨(some 4), none, .p .mov, [.c (.int .i64 2)]⟩ ::
 []))
.ret)
.skip))
(.seq (.ops (⟨(some 4), none, .p .mov, [.c (.int .i64 0)]⟩ ::
 []))
.ret))))⟩
abbrev f_demand_Check : Nat := 28
abbrev C_demand_Check : AFunc := C28
def L_escapementref08_Check_0 : AC := (.seq (.seq (.ops (⟨(some 16), none, .p .mov, [.t 6]⟩ ::
 ⟨(some 17), none, .p .mov, [.t 1]⟩ ::
 ⟨(some 18), none, .p .lenS, [.t 17]⟩ ::
 ⟨(some 19), none, .p (.bin .lss), [.t 16, .t 18]⟩ ::
 ⟨(some 20), none, .p .mov, [.t 19]⟩ ::
 ⟨(some 21), (some (20, true)), .p .mov, [.t 5]⟩ ::
 ⟨(some 22), none, .p .pick, [.t 20, .t 21, .c (.bool false)]⟩ ::
 []))
(.cond (.t 22)
.skip
(.exit 0)))
(.seq (.block 1 (.ops (⟨(some 25), none, .p .mov, [.t 1]⟩ ::
 ⟨(some 26), none, .p .mov, [.t 6]⟩ ::
 ⟨(some 27), none, .p (.iaddrS 1), [.t 25, .t 26]⟩ ::
 ⟨(some 28), none, .r .load1, [.t 27]⟩ ::
 ⟨(some 29), none, .p (.bin .geq), [.t 28, .c (.int .i64 0)]⟩ ::
 ⟨(some 30), none, .p .mov, [.t 29]⟩ ::
 ⟨(some 31), (some (30, true)), .p .mov, [.t 1]⟩ ::
 ⟨(some 32), (some (30, true)), .p .mov, [.t 6]⟩ ::
 ⟨(some 33), (some (30, true)), .p (.iaddrS 1), [.t 31, .t 32]⟩ ::
 ⟨(some 34), (some (30, true)), .r .load1, [.t 33]⟩ ::
 ⟨(some 35), (some (30, true)), .p (.bin .leq), [.t 34, .c (.int .i64 32768)]⟩ ::
 ⟨(some 36), none, .p .pick, [.t 30, .t 35, .c (.bool false)]⟩ ::
 ⟨(some 5), none, .p .mov, [.t 36]⟩ ::
 [])))
(.ops (⟨(some 23), none, .p .mov, [.t 6]⟩ ::
 ⟨(some 24), none, .p (.bin .add), [.t 23, .c (.int .i64 1)]⟩ ::
 ⟨(some 6), none, .p .mov, [.t 24]⟩ ::
 []))))
def C29 : AFunc := ⟨39, [.tmp 4],
(.seq (.ops (⟨(some 4), none, .p .mov, [.c (.int .i64 0)]⟩ ::
 []))
(.seq (.ops (⟨(some 7), none, .p .mov, [.t 0]⟩ ::
 ⟨(some 8), none, .call, [.c (.func (.func 42) [] []), .t 7]⟩ ::
 ⟨(some 9), none, .p .mov, [.t 8]⟩ ::
 ⟨(some 10), (some (9, true)), .p .mov, [.t 1]⟩ ::
 ⟨(some 11), (some (9, true)), .p .lenS, [.t 10]⟩ ::
 ⟨(some 12), (some (9, true)), .p .mov, [.t 0]⟩ ::
 ⟨(some 13), (some (9, true)), .p .lenS, [.t 12]⟩ ::
 ⟨(some 14), (some (9, true)), .p (.bin .eql), [.t 11, .t 13]⟩ ::
 ⟨(some 15), none, .p .pick, [.t 9, .t 14, .c (.bool false)]⟩ ::
 ⟨(some 5), none, .p .mov, [.t 15]⟩ ::
 []))
(.seq (.seq (.ops (⟨(some 6), none, .p .mov, [.c (.int .i64 0)]⟩ ::
 []))
(.block 0 (.loop L_escapementref08_Check_0)))
(.seq (.seq (.ops (⟨(some 37), none, .p .mov, [.t 5]⟩ ::
 ⟨(some 38), none, .p .not, [.t 37]⟩ ::
 []))
(.cond (.t 38)
(.seq (.ops (⟨(some 4), none, .p .mov, [.c (.int .i64 2)]⟩ ::
 []))
.ret)
.skip))
(.seq (.ops (⟨(some 4), none, .p .mov, [.c (.int .i64 0)]⟩ ::
 []))
.ret)))))⟩
abbrev f_escapementref08_Check : Nat := 29
abbrev C_escapementref08_Check : AFunc := C29
def L_escapementlaw08_works_0 : AC := (.seq (.seq (.ops (⟨(some 20), none, .p .mov, [.t 3]⟩ ::
 ⟨(some 21), none, .p .mov, [.t 1]⟩ ::
 ⟨(some 22), none, .p .lenS, [.t 21]⟩ ::
 ⟨(some 23), none, .p (.bin .lss), [.t 20, .t 22]⟩ ::
 []))
(.cond (.t 23)
.skip
(.exit 0)))
(.seq (.block 1 (.seq (.dops (⟨(some 27), none, .call, [.c (.func (.func 53) [] [])]⟩ ::
 ⟨(some 28), none, .a (.bslice [(.int .i64 0)] 2 1 [0, 1]), [.c (.int .i64 0), .c (.int .i64 0)]⟩ ::
 ⟨(some 29), none, .p .mov, [.t 1]⟩ ::
 ⟨(some 30), none, .p .mov, [.t 3]⟩ ::
 ⟨(some 31), none, .p (.iaddrS 1), [.t 29, .t 30]⟩ ::
 ⟨(some 32), none, .r .load1, [.t 31]⟩ ::
 ⟨(some 33), none, .call, [.c (.func (.func 26) [] []), .t 27, .t 28, .t 32]⟩ ::
 ⟨(some 26), none, .p .mov, [.t 33]⟩ ::
 ⟨(some 34), none, .p (.ext 0), [.t 26]⟩ ::
 ⟨(some 35), none, .p (.ext 1), [.t 26]⟩ ::
 ⟨(some 4), none, .p .mov, [.t 34]⟩ ::
 ⟨(some 5), none, .p .mov, [.t 35]⟩ ::
 []) ([] :: [] :: [] :: [] :: [] :: [0, 1] :: [] :: [] :: [] :: [] :: [] :: [] :: []))
(.seq (.ops (⟨(some 36), none, .p .mov, [.t 4]⟩ ::
 ⟨(some 37), none, .p .mov, [.t 2]⟩ ::
 ⟨(some 38), none, .p .mov, [.t 3]⟩ ::
 ⟨(some 39), none, .p (.iaddrS 1), [.t 37, .t 38]⟩ ::
 ⟨(some 40), none, .r .load1, [.t 39]⟩ ::
 ⟨(some 41), none, .p (.bin .neq), [.t 36, .t 40]⟩ ::
 ⟨(some 42), none, .p .mov, [.t 41]⟩ ::
 ⟨(some 43), (some (42, false)), .p .mov, [.t 5]⟩ ::
 ⟨(some 44), (some (42, false)), .p (.bin .neq), [.t 43, .c (.int .i64 0)]⟩ ::
 ⟨(some 45), none, .p .pick, [.t 42, .c (.bool true), .t 44]⟩ ::
 []))
(.cond (.t 45)
(.seq (.ops (⟨(some 0), none, .p .mov, [.c (.bool false)]⟩ ::
 []))
.ret)
.skip))))
(.ops (⟨(some 24), none, .p .mov, [.t 3]⟩ ::
 ⟨(some 25), none, .p (.bin .add), [.t 24, .c (.int .i64 1)]⟩ ::
 ⟨(some 3), none, .p .mov, [.t 25]⟩ ::
 []))))
def C30 : AFunc := ⟨105, [.tmp 0],
(.seq (.ops (⟨(some 0), none, .p .mov, [.c (.bool false)]⟩ ::
 []))
(.seq (.ops (⟨(some 18), none, .a (.bslice [(.int .i64 0)] 6 1 [0, 1, 2, 3, 4, 5]), [.c (.int .i64 3), .c (.int .i64 4), .c (.int .i64 8), .c (.int .i64 9), .c (.int .i64 10), .c (.int .i64 14)]⟩ ::
 ⟨(some 19), none, .a (.bslice [(.int .i64 0)] 6 1 [0, 1, 2, 3, 4, 5]), [.c (.int .i64 0), .c (.int .i64 2), .c (.int .i64 2), .c (.int .i64 4), .c (.int .i64 7), .c (.int .i64 9)]⟩ ::
 ⟨(some 1), none, .p .mov, [.t 18]⟩ ::
 ⟨(some 2), none, .p .mov, [.t 19]⟩ ::
 []))
(.seq (.seq (.ops (⟨(some 3), none, .p .mov, [.c (.int .i64 0)]⟩ ::
 []))
(.block 0 (.loop L_escapementlaw08_works_0)))
(.seq (.ops (⟨(some 47), none, .call, [.c (.func (.func 53) [] [])]⟩ ::
 ⟨(some 48), none, .p (.slice 8 false true false), [.t 47, .c (.int .i64 1)]⟩ ::
 ⟨(some 49), none, .a (.bslice [(.int .i64 0)] 1 1 [0]), [.c (.int .i64 1)]⟩ ::
 ⟨(some 50), none, .call, [.c (.func (.func 26) [] []), .t 48, .t 49, .c (.int .i64 9)]⟩ ::
 ⟨(some 46), none, .p .mov, [.t 50]⟩ ::
 ⟨(some 51), none, .p (.ext 0), [.t 46]⟩ ::
 ⟨(some 52), none, .p (.ext 1), [.t 46]⟩ ::
 ⟨(some 6), none, .p .mov, [.t 51]⟩ ::
 ⟨(some 7), none, .p .mov, [.t 52]⟩ ::
 []))
(.seq (.ops (⟨(some 54), none, .call, [.c (.func (.func 53) [] [])]⟩ ::
 ⟨(some 55), none, .call, [.c (.func (.func 31) [] []), .t 54, .c (.int .i64 4)]⟩ ::
 ⟨(some 53), none, .p .mov, [.t 55]⟩ ::
 ⟨(some 56), none, .p (.ext 0), [.t 53]⟩ ::
 ⟨(some 57), none, .p (.ext 1), [.t 53]⟩ ::
 ⟨(some 8), none, .p .mov, [.t 56]⟩ ::
 ⟨(some 9), none, .p .mov, [.t 57]⟩ ::
 []))
(.seq (.ops (⟨(some 59), none, .call, [.c (.func (.func 53) [] [])]⟩ ::
 ⟨(some 60), none, .call, [.c (.func (.func 31) [] []), .t 59, .c (.int .i64 7)]⟩ ::
 ⟨(some 58), none, .p .mov, [.t 60]⟩ ::
 ⟨(some 61), none, .p (.ext 0), [.t 58]⟩ ::
 ⟨(some 62), none, .p (.ext 1), [.t 58]⟩ ::
 ⟨(some 10), none, .p .mov, [.t 61]⟩ ::
 ⟨(some 11), none, .p .mov, [.t 62]⟩ ::
 []))
(.seq (.ops (⟨(some 64), none, .call, [.c (.func (.func 53) [] [])]⟩ ::
 ⟨(some 65), none, .a (.bslice [(.int .i64 0)] 2 1 [0, 1]), [.c (.int .i64 0), .c (.int .i64 0)]⟩ ::
 ⟨(some 66), none, .call, [.c (.func (.func 33) [] []), .t 64, .t 65, .c (.int .i64 20)]⟩ ::
 ⟨(some 63), none, .p .mov, [.t 66]⟩ ::
 ⟨(some 67), none, .p (.ext 0), [.t 63]⟩ ::
 ⟨(some 68), none, .p (.ext 1), [.t 63]⟩ ::
 ⟨(some 12), none, .p .mov, [.t 67]⟩ ::
 ⟨(some 13), none, .p .mov, [.t 68]⟩ ::
 []))
(.seq (.ops (⟨(some 70), none, .p (.build [(.int .i64 0), (.int .i64 0), (.int .i64 0), (.int .i64 0), (.int .i64 0), (.int .i64 0), (.int .i64 0), (.int .i64 0)] [(0, 1), (1, 1), (2, 1)]), [.c (.int .i64 64), .c (.int .i64 1), .c (.int .i64 1)]⟩ ::
 ⟨(some 71), none, .p (.build [(.int .i64 0), (.int .i64 0), (.int .i64 0), (.int .i64 0), (.int .i64 0), (.int .i64 0), (.int .i64 0), (.int .i64 0)] [(0, 1), (1, 1), (2, 1)]), [.c (.int .i64 63), .c (.int .i64 1), .c (.int .i64 1)]⟩ ::
 ⟨(some 72), none, .p (.build [(.int .i64 0), (.int .i64 0), (.int .i64 0), (.int .i64 0), (.int .i64 0), (.int .i64 0), (.int .i64 0), (.int .i64 0)] [(0, 1), (1, 1), (2, 1)]), [.c (.int .i64 61), .c (.int .i64 1), .c (.int .i64 1)]⟩ ::
 ⟨(some 73), none, .a (.bslice [(.int .i64 0), (.int .i64 0), (.int .i64 0), (.int .i64 0), (.int .i64 0), (.int .i64 0), (.int .i64 0), (.int .i64 0)] 3 8 [0, 1, 2]), [.t 70, .t 71, .t 72]⟩ ::
 ⟨(some 74), none, .call, [.c (.func (.func 31) [] []), .t 73, .c (.int .i64 59)]⟩ ::
 ⟨(some 69), none, .p .mov, [.t 74]⟩ ::
 ⟨(some 75), none, .p (.ext 0), [.t 69]⟩ ::
 ⟨(some 76), none, .p (.ext 1), [.t 69]⟩ ::
 ⟨(some 14), none, .p .mov, [.t 75]⟩ ::
 ⟨(some 15), none, .p .mov, [.t 76]⟩ ::
 []))
(.seq (.ops (⟨(some 78), none, .call, [.c (.func (.func 53) [] [])]⟩ ::
 ⟨(some 79), none, .p (.slice 8 false true false), [.t 78, .c (.int .i64 1)]⟩ ::
 ⟨(some 80), none, .call, [.c (.func (.func 26) [] []), .t 79, .c .nils, .c (.int .i64 3)]⟩ ::
 ⟨(some 77), none, .p .mov, [.t 80]⟩ ::
 ⟨(some 81), none, .p (.ext 0), [.t 77]⟩ ::
 ⟨(some 82), none, .p (.ext 1), [.t 77]⟩ ::
 ⟨(some 16), none, .p .mov, [.t 81]⟩ ::
 ⟨(some 17), none, .p .mov, [.t 82]⟩ ::
 []))
(.seq (.ops (⟨(some 83), none, .p .mov, [.t 6]⟩ ::
 ⟨(some 84), none, .p (.bin .eql), [.t 83, .c (.int .i64 6)]⟩ ::
 ⟨(some 85), none, .p .mov, [.t 84]⟩ ::
 ⟨(some 86), (some (85, true)), .p .mov, [.t 8]⟩ ::
 ⟨(some 87), (some (85, true)), .p (.bin .eql), [.t 86, .c (.int .i64 20)]⟩ ::
 ⟨(some 88), none, .p .pick, [.t 85, .t 87, .c (.bool false)]⟩ ::
 ⟨(some 89), none, .p .mov, [.t 88]⟩ ::
 ⟨(some 90), (some (89, true)), .p .mov, [.t 10]⟩ ::
 ⟨(some 91), (some (89, true)), .p (.bin .eql), [.t 90, .c (.int .i64 70)]⟩ ::
 ⟨(some 92), none, .p .pick, [.t 89, .t 91, .c (.bool false)]⟩ ::
 ⟨(some 93), none, .p .mov, [.t 92]⟩ ::
 ⟨(some 94), (some (93, true)), .p .mov, [.t 12]⟩ ::
 ⟨(some 95), (some (93, true)), .p (.bin .eql), [.t 94, .c (.int .i64 14)]⟩ ::
 ⟨(some 96), none, .p .pick, [.t 93, .t 95, .c (.bool false)]⟩ ::
 ⟨(some 97), none, .p .mov, [.t 96]⟩ ::
 ⟨(some 98), (some (97, true)), .p .mov, [.t 15]⟩ ::
 ⟨(some 99), (some (97, true)), .p (.bin .eql), [.t 98, .c (.int .i64 5)]⟩ ::
 ⟨(some 100), none, .p .pick, [.t 97, .t 99, .c (.bool false)]⟩ ::
 ⟨(some 101), none, .p .mov, [.t 100]⟩ ::
 ⟨(some 102), (some (101, true)), .p .mov, [.t 17]⟩ ::
 ⟨(some 103), (some (101, true)), .p (.bin .eql), [.t 102, .c (.int .i64 2)]⟩ ::
 ⟨(some 104), none, .p .pick, [.t 101, .t 103, .c (.bool false)]⟩ ::
 ⟨(some 0), none, .p .mov, [.t 104]⟩ ::
 []))
.ret))))))))))⟩
abbrev f_escapementlaw08_works : Nat := 30
abbrev C_escapementlaw08_works : AFunc := C30
def L_demand_Hyper_0 : AC := (.seq (.ops (⟨(some 26), none, .p (.bin .lss), [.t 25, .t 24]⟩ ::
 []))
(.seq (.cond (.t 26)
.skip
(.exit 0))
(.seq (.block 1 (.seq (.ops (⟨(some 27), none, .p (.iaddrS 8), [.t 23, .t 25]⟩ ::
 ⟨(some 28), none, .r (.loadN 8), [.t 27]⟩ ::
 ⟨(some 8), none, .a (.alloc [(.int .i64 0), (.int .i64 0), (.int .i64 0), (.int .i64 0), (.int .i64 0), (.int .i64 0), (.int .i64 0), (.int .i64 0)]), []⟩ ::
 ⟨none, none, .e (.store 8), [.t 8, .t 28]⟩ ::
 []))
(.seq (.ops (⟨(some 30), none, .p .mov, [.t 6]⟩ ::
 ⟨(some 31), none, .p (.faddr 0), [.t 8]⟩ ::
 ⟨(some 32), none, .r .load1, [.t 31]⟩ ::
 ⟨(some 33), none, .a (.bslice [(.int .i64 0)] 2 1 [0, 1]), [.t 30, .t 32]⟩ ::
 ⟨(some 34), none, .call, [.c (.func (.func 54) [] []), .c (.int .i64 4096), .t 33]⟩ ::
 ⟨(some 29), none, .p .mov, [.t 34]⟩ ::
 ⟨(some 35), none, .p (.ext 0), [.t 29]⟩ ::
 ⟨(some 36), none, .p (.ext 1), [.t 29]⟩ ::
 ⟨(some 9), none, .p .mov, [.t 35]⟩ ::
 ⟨(some 10), none, .p .mov, [.t 36]⟩ ::
 []))
(.seq (.seq (.ops (⟨(some 37), none, .p .mov, [.t 10]⟩ ::
 ⟨(some 38), none, .p (.bin .neq), [.t 37, .c (.int .i64 0)]⟩ ::
 []))
(.cond (.t 38)
(.seq (.ops (⟨(some 4), none, .p .mov, [.c (.int .i64 0)]⟩ ::
 ⟨(some 5), none, .p .mov, [.c (.int .i64 5)]⟩ ::
 []))
.ret)
.skip))
(.ops (⟨(some 39), none, .p .mov, [.t 9]⟩ ::
 ⟨(some 6), none, .p .mov, [.t 39]⟩ ::
 []))))))
(.ops (⟨(some 40), none, .p (.bin .add), [.t 25, .c (.int .i64 1)]⟩ ::
 ⟨(some 25), none, .p .mov, [.t 40]⟩ ::
 [])))))
def C31 : AFunc := ⟨42, [.tmp 4, .tmp 5],
(.seq (.ops (⟨(some 4), none, .p .mov, [.c (.int .i64 0)]⟩ ::
 ⟨(some 5), none, .p .mov, [.c (.int .i64 0)]⟩ ::
 []))
(.seq (.seq (.ops (⟨(some 11), none, .p .mov, [.t 0]⟩ ::
 ⟨(some 12), none, .call, [.c (.func (.func 52) [] []), .t 11]⟩ ::
 ⟨(some 13), none, .p .not, [.t 12]⟩ ::
 ⟨(some 14), none, .p .mov, [.t 13]⟩ ::
 ⟨(some 15), (some (14, false)), .p .mov, [.t 1]⟩ ::
 ⟨(some 16), (some (14, false)), .p (.bin .lss), [.t 15, .c (.int .i64 1)]⟩ ::
 ⟨(some 17), none, .p .pick, [.t 14, .c (.bool true), .t 16]⟩ ::
 ⟨(some 18), none, .p .mov, [.t 17]⟩ ::
 ⟨(some 19), (some (18, false)), .p .mov, [.t 1]⟩ ::
 ⟨(some 20), (some (18, false)), .p (.bin .gtr), [.t 19, .c (.int .i64 64)]⟩ ::
 ⟨(some 21), none, .p .pick, [.t 18, .c (.bool true), .t 20]⟩ ::
 []))
(.cond (.t 21)
(.seq (.ops (⟨(some 4), none, .p .mov, [.c (.int .i64 0)]⟩ ::
 ⟨(some 5), none, .p .mov, [.c (.int .i64 2)]⟩ ::
 []))
.ret)
.skip))
(.seq (.ops (⟨(some 22), none, .p .mov, [.t 1]⟩ ::
 ⟨(some 6), none, .p .mov, [.t 22]⟩ ::
 []))
(.seq (.seq (.ops (⟨(some 23), none, .p .mov, [.t 0]⟩ ::
 ⟨(some 24), none, .p .lenS, [.t 23]⟩ ::
 ⟨(some 25), none, .p .mov, [.c (.int .i64 0)]⟩ ::
 []))
(.block 0 (.loop L_demand_Hyper_0)))
(.seq (.ops (⟨(some 41), none, .p .mov, [.t 6]⟩ ::
 ⟨(some 4), none, .p .mov, [.t 41]⟩ ::
 ⟨(some 5), none, .p .mov, [.c (.int .i64 0)]⟩ ::
 []))
.ret)))))⟩
abbrev f_demand_Hyper : Nat := 31
abbrev C_demand_Hyper : AFunc := C31
def L_escapementref08_Hyper_1 : AC := (.seq (.seq (.ops (⟨(some 23), none, .p .mov, [.t 8]⟩ ::
 ⟨(some 24), none, .p .mov, [.t 0]⟩ ::
 ⟨(some 25), none, .p .lenS, [.t 24]⟩ ::
 ⟨(some 26), none, .p (.bin .lss), [.t 23, .t 25]⟩ ::
 []))
(.cond (.t 26)
.skip
(.exit 2)))
(.seq (.block 3 (.ops (⟨(some 29), none, .p .mov, [.t 7]⟩ ::
 ⟨(some 30), none, .p .mov, [.t 29]⟩ ::
 ⟨(some 31), (some (30, true)), .p .mov, [.t 6]⟩ ::
 ⟨(some 32), (some (30, true)), .p .mov, [.t 0]⟩ ::
 ⟨(some 33), (some (30, true)), .p .mov, [.t 8]⟩ ::
 ⟨(some 34), (some (30, true)), .p (.iaddrS 8), [.t 32, .t 33]⟩ ::
 ⟨(some 35), (some (30, true)), .p (.faddr 0), [.t 34]⟩ ::
 ⟨(some 36), (some (30, true)), .r .load1, [.t 35]⟩ ::
 ⟨(some 37), (some (30, true)), .p (.bin .rem), [.t 31, .t 36]⟩ ::
 ⟨(some 38), (some (30, true)), .p (.bin .eql), [.t 37, .c (.int .i64 0)]⟩ ::
 ⟨(some 39), none, .p .pick, [.t 30, .t 38, .c (.bool false)]⟩ ::
 ⟨(some 7), none, .p .mov, [.t 39]⟩ ::
 [])))
(.ops (⟨(some 27), none, .p .mov, [.t 8]⟩ ::
 ⟨(some 28), none, .p (.bin .add), [.t 27, .c (.int .i64 1)]⟩ ::
 ⟨(some 8), none, .p .mov, [.t 28]⟩ ::
 []))))
def L_escapementref08_Hyper_0 : AC := (.seq (.seq (.ops (⟨(some 21), none, .p .mov, [.t 6]⟩ ::
 ⟨(some 22), none, .p (.bin .leq), [.t 21, .c (.int .i64 4096)]⟩ ::
 []))
(.cond (.t 22)
.skip
(.exit 0)))
(.block 1 (.seq (.ops (⟨(some 7), none, .p .mov, [.c (.bool true)]⟩ ::
 []))
(.seq (.seq (.ops (⟨(some 8), none, .p .mov, [.c (.int .i64 0)]⟩ ::
 []))
(.block 2 (.loop L_escapementref08_Hyper_1)))
(.seq (.seq (.ops (⟨(some 40), none, .p .mov, [.t 7]⟩ ::
 []))
(.cond (.t 40)
(.seq (.ops (⟨(some 41), none, .p .mov, [.t 6]⟩ ::
 ⟨(some 4), none, .p .mov, [.t 41]⟩ ::
 ⟨(some 5), none, .p .mov, [.c (.int .i64 0)]⟩ ::
 []))
.ret)
.skip))
(.ops (⟨(some 42), none, .p .mov, [.t 6]⟩ ::
 ⟨(some 43), none, .p .mov, [.t 1]⟩ ::
 ⟨(some 44), none, .p (.bin .add), [.t 42, .t 43]⟩ ::
 ⟨(some 6), none, .p .mov, [.t 44]⟩ ::
 [])))))))
def C32 : AFunc := ⟨45, [.tmp 4, .tmp 5],
(.seq (.ops (⟨(some 4), none, .p .mov, [.c (.int .i64 0)]⟩ ::
 ⟨(some 5), none, .p .mov, [.c (.int .i64 0)]⟩ ::
 []))
(.seq (.seq (.ops (⟨(some 9), none, .p .mov, [.t 0]⟩ ::
 ⟨(some 10), none, .call, [.c (.func (.func 42) [] []), .t 9]⟩ ::
 ⟨(some 11), none, .p .not, [.t 10]⟩ ::
 ⟨(some 12), none, .p .mov, [.t 11]⟩ ::
 ⟨(some 13), (some (12, false)), .p .mov, [.t 1]⟩ ::
 ⟨(some 14), (some (12, false)), .p (.bin .lss), [.t 13, .c (.int .i64 1)]⟩ ::
 ⟨(some 15), none, .p .pick, [.t 12, .c (.bool true), .t 14]⟩ ::
 ⟨(some 16), none, .p .mov, [.t 15]⟩ ::
 ⟨(some 17), (some (16, false)), .p .mov, [.t 1]⟩ ::
 ⟨(some 18), (some (16, false)), .p (.bin .gtr), [.t 17, .c (.int .i64 64)]⟩ ::
 ⟨(some 19), none, .p .pick, [.t 16, .c (.bool true), .t 18]⟩ ::
 []))
(.cond (.t 19)
(.seq (.ops (⟨(some 4), none, .p .mov, [.c (.int .i64 0)]⟩ ::
 ⟨(some 5), none, .p .mov, [.c (.int .i64 2)]⟩ ::
 []))
.ret)
.skip))
(.seq (.ops (⟨(some 20), none, .p .mov, [.t 1]⟩ ::
 ⟨(some 6), none, .p .mov, [.t 20]⟩ ::
 []))
(.seq (.block 0 (.loop L_escapementref08_Hyper_0))
(.seq (.ops (⟨(some 4), none, .p .mov, [.c (.int .i64 0)]⟩ ::
 ⟨(some 5), none, .p .mov, [.c (.int .i64 5)]⟩ ::
 []))
.ret)))))⟩
abbrev f_escapementref08_Hyper : Nat := 32
abbrev C_escapementref08_Hyper : AFunc := C32
def C33 : AFunc := ⟨30, [.tmp 6, .tmp 7],
(.seq (.ops (⟨(some 5), none, .a .box, [.t 2]⟩ ::
 ⟨(some 6), none, .p .mov, [.c (.int .i64 0)]⟩ ::
 ⟨(some 7), none, .p .mov, [.c (.int .i64 0)]⟩ ::
 []))
(.seq (.seq (.ops (⟨(some 9), none, .p .mov, [.t 0]⟩ ::
 ⟨(some 10), none, .p .mov, [.t 1]⟩ ::
 ⟨(some 11), none, .call, [.c (.func (.func 28) [] []), .t 9, .t 10]⟩ ::
 ⟨(some 8), none, .p .mov, [.t 11]⟩ ::
 []))
(.seq (.ops (⟨(some 12), none, .p .mov, [.t 8]⟩ ::
 ⟨(some 13), none, .p (.bin .neq), [.t 12, .c (.int .i64 0)]⟩ ::
 ⟨(some 14), none, .p .mov, [.t 13]⟩ ::
 ⟨(some 15), (some (14, false)), .r .load1, [.t 5]⟩ ::
 ⟨(some 16), (some (14, false)), .p (.bin .lss), [.t 15, .c (.int .i64 1)]⟩ ::
 ⟨(some 17), none, .p .pick, [.t 14, .c (.bool true), .t 16]⟩ ::
 ⟨(some 18), none, .p .mov, [.t 17]⟩ ::
 ⟨(some 19), (some (18, false)), .r .load1, [.t 5]⟩ ::
 ⟨(some 20), (some (18, false)), .p (.bin .gtr), [.t 19, .c (.int .i64 1048576)]⟩ ::
 ⟨(some 21), none, .p .pick, [.t 18, .c (.bool true), .t 20]⟩ ::
 []))
(.cond (.t 21)
(.seq (.ops (⟨(some 6), none, .p .mov, [.c (.int .i64 0)]⟩ ::
 ⟨(some 7), none, .p .mov, [.c (.int .i64 2)]⟩ ::
 []))
.ret)
.skip)))
(.seq (.seq (.ops (⟨(some 22), none, .p .mov, [.t 0]⟩ ::
 ⟨(some 23), none, .p (.mkfunc (.func 55) 0), [.t 5]⟩ ::
 ⟨(some 24), none, .call, [.c (.func (.func 39) [] []), .t 22, .t 23]⟩ ::
 []))
(.cond (.t 24)
(.seq (.ops (⟨(some 6), none, .p .mov, [.c (.int .i64 0)]⟩ ::
 ⟨(some 7), none, .p .mov, [.c (.int .i64 2)]⟩ ::
 []))
.ret)
.skip))
(.seq (.ops (⟨(some 25), none, .p .mov, [.t 0]⟩ ::
 ⟨(some 26), none, .p .mov, [.t 1]⟩ ::
 ⟨(some 27), none, .p (.mkfunc (.func 56) 0), [.t 5]⟩ ::
 ⟨(some 28), none, .call, [.c (.func (.func 48) [] []), .t 25, .t 26, .t 27]⟩ ::
 ⟨(some 29), none, .call, [.c (.func (.func 47) [] []), .t 28]⟩ ::
 ⟨(some 6), none, .p .mov, [.t 29]⟩ ::
 ⟨(some 7), none, .p .mov, [.c (.int .i64 0)]⟩ ::
 []))
.ret))))⟩
abbrev f_demand_Use : Nat := 33
abbrev C_demand_Use : AFunc := C33
def L_escapementref08_Use_0 : AC := (.seq (.seq (.ops (⟨(some 22), none, .p .mov, [.t 9]⟩ ::
 ⟨(some 23), none, .p .mov, [.t 0]⟩ ::
 ⟨(some 24), none, .p .lenS, [.t 23]⟩ ::
 ⟨(some 25), none, .p (.bin .lss), [.t 22, .t 24]⟩ ::
 []))
(.cond (.t 25)
.skip
(.exit 0)))
(.seq (.block 1 (.seq (.seq (.ops (⟨(some 28), none, .p .mov, [.t 2]⟩ ::
 ⟨(some 29), none, .p .mov, [.t 0]⟩ ::
 ⟨(some 30), none, .p .mov, [.t 9]⟩ ::
 ⟨(some 31), none, .p (.iaddrS 8), [.t 29, .t 30]⟩ ::
 ⟨(some 32), none, .p (.faddr 0), [.t 31]⟩ ::
 ⟨(some 33), none, .r .load1, [.t 32]⟩ ::
 ⟨(some 34), none, .p (.bin .rem), [.t 28, .t 33]⟩ ::
 ⟨(some 35), none, .p (.bin .neq), [.t 34, .c (.int .i64 0)]⟩ ::
 []))
(.cond (.t 35)
(.seq (.ops (⟨(some 6), none, .p .mov, [.c (.int .i64 0)]⟩ ::
 ⟨(some 7), none, .p .mov, [.c (.int .i64 2)]⟩ ::
 []))
.ret)
.skip))
(.dops (⟨(some 36), none, .p .mov, [.t 8]⟩ ::
 ⟨(some 37), none, .p .mov, [.t 2]⟩ ::
 ⟨(some 38), none, .p .mov, [.t 0]⟩ ::
 ⟨(some 39), none, .p .mov, [.t 9]⟩ ::
 ⟨(some 40), none, .p (.iaddrS 8), [.t 38, .t 39]⟩ ::
 ⟨(some 41), none, .p (.faddr 0), [.t 40]⟩ ::
 ⟨(some 42), none, .r .load1, [.t 41]⟩ ::
 ⟨(some 43), none, .p (.bin .quo), [.t 37, .t 42]⟩ ::
 ⟨(some 44), none, .p .mov, [.t 0]⟩ ::
 ⟨(some 45), none, .p .mov, [.t 9]⟩ ::
 ⟨(some 46), none, .p (.iaddrS 8), [.t 44, .t 45]⟩ ::
 ⟨(some 47), none, .p (.faddr 2), [.t 46]⟩ ::
 ⟨(some 48), none, .r .load1, [.t 47]⟩ ::
 ⟨(some 49), none, .p .mov, [.t 1]⟩ ::
 ⟨(some 50), none, .p .mov, [.t 9]⟩ ::
 ⟨(some 51), none, .p (.iaddrS 1), [.t 49, .t 50]⟩ ::
 ⟨(some 52), none, .r .load1, [.t 51]⟩ ::
 ⟨(some 53), none, .p (.bin .add), [.t 48, .t 52]⟩ ::
 ⟨(some 54), none, .p (.bin .mul), [.t 43, .t 53]⟩ ::
 ⟨(some 55), none, .p (.bin .add), [.t 36, .t 54]⟩ ::
 ⟨(some 8), none, .p .mov, [.t 55]⟩ ::
 []) ([] :: [] :: [] :: [] :: [] :: [] :: [] :: [] :: [] :: [] :: [] :: [] :: [] :: [] :: [] :: [] :: [] :: [] :: [] :: [] :: [] :: []))))
(.ops (⟨(some 26), none, .p .mov, [.t 9]⟩ ::
 ⟨(some 27), none, .p (.bin .add), [.t 26, .c (.int .i64 1)]⟩ ::
 ⟨(some 9), none, .p .mov, [.t 27]⟩ ::
 []))))
def C34 : AFunc := ⟨57, [.tmp 6, .tmp 7],
(.seq (.ops (⟨(some 6), none, .p .mov, [.c (.int .i64 0)]⟩ ::
 ⟨(some 7), none, .p .mov, [.c (.int .i64 0)]⟩ ::
 []))
(.seq (.seq (.ops (⟨(some 10), none, .p .mov, [.t 0]⟩ ::
 ⟨(some 11), none, .p .mov, [.t 1]⟩ ::
 ⟨(some 12), none, .call, [.c (.func (.func 29) [] []), .t 10, .t 11]⟩ ::
 ⟨(some 13), none, .p (.bin .neq), [.t 12, .c (.int .i64 0)]⟩ ::
 ⟨(some 14), none, .p .mov, [.t 13]⟩ ::
 ⟨(some 15), (some (14, false)), .p .mov, [.t 2]⟩ ::
 ⟨(some 16), (some (14, false)), .p (.bin .lss), [.t 15, .c (.int .i64 1)]⟩ ::
 ⟨(some 17), none, .p .pick, [.t 14, .c (.bool true), .t 16]⟩ ::
 ⟨(some 18), none, .p .mov, [.t 17]⟩ ::
 ⟨(some 19), (some (18, false)), .p .mov, [.t 2]⟩ ::
 ⟨(some 20), (some (18, false)), .p (.bin .gtr), [.t 19, .c (.int .i64 1048576)]⟩ ::
 ⟨(some 21), none, .p .pick, [.t 18, .c (.bool true), .t 20]⟩ ::
 []))
(.cond (.t 21)
(.seq (.ops (⟨(some 6), none, .p .mov, [.c (.int .i64 0)]⟩ ::
 ⟨(some 7), none, .p .mov, [.c (.int .i64 2)]⟩ ::
 []))
.ret)
.skip))
(.seq (.ops (⟨(some 8), none, .p .mov, [.c (.int .i64 0)]⟩ ::
 []))
(.seq (.seq (.ops (⟨(some 9), none, .p .mov, [.c (.int .i64 0)]⟩ ::
 []))
(.block 0 (.loop L_escapementref08_Use_0)))
(.seq (.ops (⟨(some 56), none, .p .mov, [.t 8]⟩ ::
 ⟨(some 6), none, .p .mov, [.t 56]⟩ ::
 ⟨(some 7), none, .p .mov, [.c (.int .i64 0)]⟩ ::
 []))
.ret)))))⟩
abbrev f_escapementref08_Use : Nat := 34
abbrev C_escapementref08_Use : AFunc := C34
def L_escapementlaw08_made_0 : AC := (.seq (.seq (.ops (⟨(some 7), none, .p .mov, [.t 4]⟩ ::
 ⟨(some 8), none, .p .mov, [.t 0]⟩ ::
 ⟨(some 9), none, .p .lenS, [.t 8]⟩ ::
 ⟨(some 10), none, .p (.bin .lss), [.t 7, .t 9]⟩ ::
 ⟨(some 11), none, .p .mov, [.t 10]⟩ ::
 ⟨(some 12), (some (11, true)), .p .mov, [.t 4]⟩ ::
 ⟨(some 13), (some (11, true)), .p (.bin .lss), [.t 12, .c (.int .i64 4)]⟩ ::
 ⟨(some 14), none, .p .pick, [.t 11, .t 13, .c (.bool false)]⟩ ::
 []))
(.cond (.t 14)
.skip
(.exit 0)))
(.seq (.block 1 (.seq (.ops (⟨(some 17), none, .p .mov, [.t 0]⟩ ::
 ⟨(some 18), none, .p .mov, [.t 4]⟩ ::
 ⟨(some 19), none, .p (.iaddrS 8), [.t 17, .t 18]⟩ ::
 ⟨(some 20), none, .p (.faddr 0), [.t 19]⟩ ::
 ⟨(some 21), none, .r .load1, [.t 20]⟩ ::
 ⟨(some 22), none, .call, [.c (.func (.func 24) [] []), .t 21, .c (.int .i64 64)]⟩ ::
 ⟨(some 23), none, .p (.bin .add), [.c (.int .i64 1), .t 22]⟩ ::
 ⟨(some 5), none, .p .mov, [.t 23]⟩ ::
 []))
(.seq (.ops (⟨(some 24), none, .p .mov, [.t 0]⟩ ::
 ⟨(some 25), none, .p .mov, [.t 4]⟩ ::
 ⟨(some 26), none, .p (.iaddrS 8), [.t 24, .t 25]⟩ ::
 ⟨(some 27), none, .p (.faddr 1), [.t 26]⟩ ::
 ⟨(some 28), none, .r .load1, [.t 27]⟩ ::
 ⟨(some 29), none, .p .mov, [.t 5]⟩ ::
 ⟨(some 30), none, .call, [.c (.func (.func 24) [] []), .t 28, .t 29]⟩ ::
 ⟨(some 31), none, .p (.bin .add), [.c (.int .i64 1), .t 30]⟩ ::
 ⟨(some 6), none, .p .mov, [.t 31]⟩ ::
 []))
(.ops (⟨(some 32), none, .p .mov, [.t 3]⟩ ::
 ⟨(some 33), none, .p .mov, [.t 5]⟩ ::
 ⟨(some 34), none, .p .mov, [.t 6]⟩ ::
 ⟨(some 35), none, .p .mov, [.t 0]⟩ ::
 ⟨(some 36), none, .p .mov, [.t 4]⟩ ::
 ⟨(some 37), none, .p (.iaddrS 8), [.t 35, .t 36]⟩ ::
 ⟨(some 38), none, .p (.faddr 2), [.t 37]⟩ ::
 ⟨(some 39), none, .r .load1, [.t 38]⟩ ::
 ⟨(some 40), none, .p .mov, [.t 6]⟩ ::
 ⟨(some 41), none, .call, [.c (.func (.func 24) [] []), .t 39, .t 40]⟩ ::
 ⟨(some 42), none, .p (.bin .add), [.c (.int .i64 1), .t 41]⟩ ::
 ⟨(some 43), none, .p (.build [(.int .i64 0), (.int .i64 0), (.int .i64 0), (.int .i64 0), (.int .i64 0), (.int .i64 0), (.int .i64 0), (.int .i64 0)] [(0, 1), (1, 1), (2, 1)]), [.t 33, .t 34, .t 42]⟩ ::
 ⟨(some 44), none, .a (.bslice [(.int .i64 0), (.int .i64 0), (.int .i64 0), (.int .i64 0), (.int .i64 0), (.int .i64 0), (.int .i64 0), (.int .i64 0)] 1 8 [0]), [.t 43]⟩ ::
 ⟨(some 45), none, .e (.append 8 64), [.t 32, .t 44]⟩ ::
 ⟨(some 3), none, .p .mov, [.t 45]⟩ ::
 [])))))
(.ops (⟨(some 15), none, .p .mov, [.t 4]⟩ ::
 ⟨(some 16), none, .p (.bin .add), [.t 15, .c (.int .i64 1)]⟩ ::
 ⟨(some 4), none, .p .mov, [.t 16]⟩ ::
 []))))
def C35 : AFunc := ⟨47, [.tmp 2],
(.seq (.ops (⟨(some 2), none, .p .mov, [.c .nils]⟩ ::
 []))
(.seq (.ops (⟨(some 3), none, .p .mov, [.c .nils]⟩ ::
 []))
(.seq (.seq (.ops (⟨(some 4), none, .p .mov, [.c (.int .i64 0)]⟩ ::
 []))
(.block 0 (.loop L_escapementlaw08_made_0)))
(.seq (.ops (⟨(some 46), none, .p .mov, [.t 3]⟩ ::
 ⟨(some 2), none, .p .mov, [.t 46]⟩ ::
 []))
.ret))))⟩
abbrev f_escapementlaw08_made : Nat := 35
abbrev C_escapementlaw08_made : AFunc := C35
def C36 : AFunc := ⟨29, [.cell 4 5 true, .tmp 5],
(.seq (.ops (⟨(some 4), none, .a (.alloc [(.int .i64 0), (.int .i64 0), .nils, .nils, (.int .i64 0)]), []⟩ ::
 ⟨(some 5), none, .p .mov, [.c (.int .i64 0)]⟩ ::
 []))
(.seq (.seq (.ops (⟨(some 7), none, .p .mov, [.t 0]⟩ ::
 ⟨(some 8), none, .call, [.c (.func (.func 17) [] []), .t 7]⟩ ::
 ⟨(some 6), none, .p .mov, [.t 8]⟩ ::
 []))
(.seq (.ops (⟨(some 9), none, .p .mov, [.t 6]⟩ ::
 ⟨(some 10), none, .p (.bin .neq), [.t 9, .c (.int .i64 0)]⟩ ::
 []))
(.cond (.t 10)
(.seq (.ops (⟨(some 11), none, .p (.build [(.int .i64 0), (.int .i64 0), .nils, .nils, (.int .i64 0)] []), []⟩ ::
 ⟨(some 12), none, .p .mov, [.t 6]⟩ ::
 ⟨none, none, .e (.store 5), [.t 4, .t 11]⟩ ::
 ⟨(some 5), none, .p .mov, [.t 12]⟩ ::
 []))
.ret)
.skip)))
(.seq (.seq (.ops (⟨(some 13), none, .p .mov, [.t 1]⟩ ::
 ⟨(some 14), none, .p (.bin .lss), [.t 13, .c (.int .i64 0)]⟩ ::
 ⟨(some 15), none, .p .mov, [.t 14]⟩ ::
 ⟨(some 16), (some (15, false)), .p .mov, [.t 1]⟩ ::
 ⟨(some 17), (some (15, false)), .p .mov, [.t 0]⟩ ::
 ⟨(some 18), (some (15, false)), .p .lenS, [.t 17]⟩ ::
 ⟨(some 19), (some (15, false)), .p (.bin .geq), [.t 16, .t 18]⟩ ::
 ⟨(some 20), none, .p .pick, [.t 15, .c (.bool true), .t 19]⟩ ::
 []))
(.cond (.t 20)
(.seq (.ops (⟨(some 21), none, .p (.build [(.int .i64 0), (.int .i64 0), .nils, .nils, (.int .i64 0)] []), []⟩ ::
 ⟨none, none, .e (.store 5), [.t 4, .t 21]⟩ ::
 ⟨(some 5), none, .p .mov, [.c (.int .i64 9)]⟩ ::
 []))
.ret)
.skip))
(.seq (.ops (⟨(some 22), none, .p .mov, [.t 0]⟩ ::
 ⟨(some 23), none, .p .mov, [.t 1]⟩ ::
 ⟨(some 24), none, .p (.iaddrS 3), [.t 22, .t 23]⟩ ::
 ⟨(some 25), none, .r (.loadN 3), [.t 24]⟩ ::
 ⟨(some 26), none, .p .mov, [.t 0]⟩ ::
 ⟨(some 27), none, .p .mov, [.t 1]⟩ ::
 ⟨(some 28), none, .p (.build [(.int .i64 0), (.int .i64 0), .nils, .nils, (.int .i64 0)] [(0, 3), (3, 1), (4, 1)]), [.t 25, .t 26, .t 27]⟩ ::
 ⟨none, none, .e (.store 5), [.t 4, .t 28]⟩ ::
 ⟨(some 5), none, .p .mov, [.c (.int .i64 0)]⟩ ::
 []))
.ret))))⟩
abbrev f_delay_of : Nat := 36
abbrev C_delay_of : AFunc := C36
def L_delay_seen_wait_0a : AC := (.ops (⟨(some 5), none, .a (.alloc [(.int .i64 0), (.int .i64 0), .nils]), []⟩ ::
 ⟨none, none, .e (.store 3), [.t 5, .t 13]⟩ ::
 []))
def L_delay_seen_wait_0b : AC := (.block 1 (.ops (⟨(some 14), none, .r .load1, [.t 4]⟩ ::
 ⟨(some 15), none, .p (.faddr 0), [.t 5]⟩ ::
 ⟨(some 16), none, .r .load1, [.t 15]⟩ ::
 ⟨(some 17), none, .p (.bin .mul), [.c (.int .i64 2), .t 16]⟩ ::
 ⟨(some 18), none, .p (.bin .add), [.t 14, .t 17]⟩ ::
 ⟨none, none, .e (.store 1), [.t 4, .t 18]⟩ ::
 [])))
def C37 : AFunc := ⟨20, [.cell 4 1 false],
(.seq (.ops (⟨(some 2), none, .a .box, [.t 0]⟩ ::
 ⟨(some 3), none, .a .box, [.t 1]⟩ ::
 ⟨(some 4), none, .a (.alloc [(.int .i64 0)]), []⟩ ::
 []))
(.seq (.seq (.ops (⟨(some 6), none, .p (.faddr 5), [.t 3]⟩ ::
 ⟨(some 7), none, .r .load1, [.t 6]⟩ ::
 ⟨(some 8), none, .p (.bin .eql), [.t 7, .c (.int .i64 0)]⟩ ::
 []))
(.cond (.t 8)
(.seq (.ops (⟨none, none, .e (.store 1), [.t 4, .c (.int .i64 0)]⟩ ::
 []))
.ret)
.skip))
(.seq (.seq (.ops (⟨(some 9), none, .r (.loadN 5), [.t 2]⟩ ::
 ⟨(some 10), none, .p (.faddr 5), [.t 3]⟩ ::
 ⟨(some 11), none, .r .load1, [.t 10]⟩ ::
 ⟨(some 12), none, .call, [.c (.func (.func 57) [] []), .t 9, .t 11]⟩ ::
 []))
(.block 0 (.rangeFunc (.t 12) [13] L_delay_seen_wait_0a L_delay_seen_wait_0b)))
(.seq (.ops (⟨(some 19), none, .r .load1, [.t 4]⟩ ::
 ⟨none, none, .e (.store 1), [.t 4, .t 19]⟩ ::
 []))
.ret))))⟩
abbrev f_delay_seen_wait : Nat := 37
abbrev C_delay_seen_wait : AFunc := C37
def L_escapementref09_wait_0 : AC := (.seq (.seq (.ops (⟨(some 9), none, .p .mov, [.t 8]⟩ ::
 ⟨(some 10), none, .p .mov, [.t 0]⟩ ::
 ⟨(some 11), none, .p .lenS, [.t 10]⟩ ::
 ⟨(some 12), none, .p (.bin .lss), [.t 9, .t 11]⟩ ::
 []))
(.cond (.t 12)
.skip
(.exit 0)))
(.seq (.block 1 (.seq (.dops (⟨(some 15), none, .p (.faddr 5), [.t 5]⟩ ::
 ⟨(some 16), none, .r .load1, [.t 15]⟩ ::
 ⟨(some 17), none, .p (.bin .gtr), [.t 16, .c (.int .i64 0)]⟩ ::
 ⟨(some 18), none, .p .mov, [.t 17]⟩ ::
 ⟨(some 19), (some (18, true)), .p .mov, [.t 8]⟩ ::
 ⟨(some 20), (some (18, true)), .p .mov, [.t 1]⟩ ::
 ⟨(some 21), (some (18, true)), .p (.bin .neq), [.t 19, .t 20]⟩ ::
 ⟨(some 22), none, .p .pick, [.t 18, .t 21, .c (.bool false)]⟩ ::
 ⟨(some 23), none, .p .mov, [.t 22]⟩ ::
 ⟨(some 24), (some (23, true)), .p .mov, [.t 0]⟩ ::
 ⟨(some 25), (some (23, true)), .p .mov, [.t 8]⟩ ::
 ⟨(some 26), (some (23, true)), .p (.iaddrS 3), [.t 24, .t 25]⟩ ::
 ⟨(some 27), (some (23, true)), .r (.loadN 3), [.t 26]⟩ ::
 ⟨(some 28), (some (23, true)), .p (.faddr 5), [.t 5]⟩ ::
 ⟨(some 29), (some (23, true)), .r .load1, [.t 28]⟩ ::
 ⟨(some 30), (some (23, true)), .call, [.c (.func (.func 58) [] []), .t 27, .t 29]⟩ ::
 ⟨(some 31), none, .p .pick, [.t 23, .t 30, .c (.bool false)]⟩ ::
 []) ([] :: [] :: [] :: [] :: [] :: [] :: [] :: [] :: [] :: [] :: [] :: [] :: [] :: [] :: [] :: [] :: [] :: []))
(.cond (.t 31)
(.ops (⟨(some 32), none, .p .mov, [.t 7]⟩ ::
 ⟨(some 33), none, .p .mov, [.t 0]⟩ ::
 ⟨(some 34), none, .p .mov, [.t 8]⟩ ::
 ⟨(some 35), none, .p (.iaddrS 3), [.t 33, .t 34]⟩ ::
 ⟨(some 36), none, .p (.faddr 0), [.t 35]⟩ ::
 ⟨(some 37), none, .r .load1, [.t 36]⟩ ::
 ⟨(some 38), none, .p (.bin .mul), [.c (.int .i64 2), .t 37]⟩ ::
 ⟨(some 39), none, .p (.bin .add), [.t 32, .t 38]⟩ ::
 ⟨(some 7), none, .p .mov, [.t 39]⟩ ::
 []))
.skip)))
(.ops (⟨(some 13), none, .p .mov, [.t 8]⟩ ::
 ⟨(some 14), none, .p (.bin .add), [.t 13, .c (.int .i64 1)]⟩ ::
 ⟨(some 8), none, .p .mov, [.t 14]⟩ ::
 []))))
def C38 : AFunc := ⟨41, [.tmp 6],
(.seq (.ops (⟨(some 5), none, .a .box, [.t 2]⟩ ::
 ⟨(some 6), none, .p .mov, [.c (.int .i64 0)]⟩ ::
 []))
(.seq (.ops (⟨(some 7), none, .p .mov, [.c (.int .i64 0)]⟩ ::
 []))
(.seq (.seq (.ops (⟨(some 8), none, .p .mov, [.c (.int .i64 0)]⟩ ::
 []))
(.block 0 (.loop L_escapementref09_wait_0)))
(.seq (.ops (⟨(some 40), none, .p .mov, [.t 7]⟩ ::
 ⟨(some 6), none, .p .mov, [.t 40]⟩ ::
 []))
.ret))))⟩
abbrev f_escapementref09_wait : Nat := 38
abbrev C_escapementref09_wait : AFunc := C38
def C39 : AFunc := ⟨9, [.tmp 4],
(.seq (.ops (⟨(some 4), none, .p .mov, [.c (.bool false)]⟩ ::
 []))
(.seq (.ops (⟨(some 5), none, .p .mov, [.t 0]⟩ ::
 ⟨(some 6), none, .p .mov, [.t 1]⟩ ::
 ⟨(some 7), none, .call, [.c (.func (.func 59) [] []), .t 5, .t 6]⟩ ::
 ⟨(some 8), none, .p (.bin .geq), [.t 7, .c (.int .i64 0)]⟩ ::
 ⟨(some 4), none, .p .mov, [.t 8]⟩ ::
 []))
.ret))⟩
abbrev f_slices_ContainsFunc_api_Task_api_Task : Nat := 39
abbrev C_slices_ContainsFunc_api_Task_api_Task : AFunc := C39
def C40 : AFunc := ⟨9, [.tmp 3],
(.seq (.ops (⟨(some 2), none, .a .box, [.t 0]⟩ ::
 ⟨(some 3), none, .p .mov, [.c (.bool false)]⟩ ::
 []))
(.seq (.ops (⟨(some 4), none, .r (.loadN 8), [.t 2]⟩ ::
 ⟨(some 5), none, .p (.faddr 1), [.t 1]⟩ ::
 ⟨(some 6), none, .r .load1, [.t 5]⟩ ::
 ⟨(some 7), none, .call, [.c (.func (.func 41) [] []), .t 4, .t 6]⟩ ::
 ⟨(some 8), none, .p .not, [.t 7]⟩ ::
 ⟨(some 3), none, .p .mov, [.t 8]⟩ ::
 []))
.ret))⟩
abbrev f_delay_Check_1 : Nat := 40
abbrev C_delay_Check_1 : AFunc := C40
def C41 : AFunc := ⟨56, [.tmp 4],
(.seq (.ops (⟨(some 2), none, .a .box, [.t 0]⟩ ::
 ⟨(some 4), none, .p .mov, [.c (.bool false)]⟩ ::
 []))
(.seq (.block 0 (.seq (.seq (.ops (⟨(some 6), none, .p (.faddr 4), [.t 2]⟩ ::
 ⟨(some 7), none, .r .load1, [.t 6]⟩ ::
 ⟨(some 8), none, .p (.bin .lss), [.t 7, .c (.int .i64 0)]⟩ ::
 ⟨(some 5), none, .p .mov, [.t 8]⟩ ::
 []))
(.cond (.t 5)
.skip
(.seq (.ops (⟨(some 9), none, .p (.faddr 4), [.t 2]⟩ ::
 ⟨(some 10), none, .r .load1, [.t 9]⟩ ::
 ⟨(some 11), none, .p (.faddr 2), [.t 2]⟩ ::
 ⟨(some 12), none, .r .load1, [.t 11]⟩ ::
 ⟨(some 13), none, .p (.bin .gtr), [.t 10, .t 12]⟩ ::
 ⟨(some 5), none, .p .mov, [.t 13]⟩ ::
 []))
(.cond (.t 5)
.skip
(.seq (.ops (⟨(some 14), none, .p (.faddr 5), [.t 2]⟩ ::
 ⟨(some 15), none, .r .load1, [.t 14]⟩ ::
 ⟨(some 16), none, .p (.bin .lss), [.t 15, .c (.int .i64 0)]⟩ ::
 ⟨(some 5), none, .p .mov, [.t 16]⟩ ::
 []))
(.cond (.t 5)
.skip
(.ops (⟨(some 17), none, .p (.faddr 5), [.t 2]⟩ ::
 ⟨(some 18), none, .r .load1, [.t 17]⟩ ::
 ⟨(some 19), none, .p (.bin .gtr), [.t 18, .c (.int .i64 4)]⟩ ::
 ⟨(some 5), none, .p .mov, [.t 19]⟩ ::
 []))))))))
(.cond (.t 5)
(.seq (.ops (⟨(some 4), none, .p .mov, [.c (.bool false)]⟩ ::
 []))
.ret)
(.seq (.ops (⟨(some 21), none, .p (.faddr 5), [.t 2]⟩ ::
 ⟨(some 22), none, .r .load1, [.t 21]⟩ ::
 ⟨(some 23), none, .p (.bin .eql), [.t 22, .c (.int .i64 0)]⟩ ::
 ⟨(some 20), none, .p .mov, [.t 23]⟩ ::
 []))
(.cond (.t 20)
(.seq (.ops (⟨(some 24), none, .p (.faddr 6), [.t 2]⟩ ::
 ⟨(some 25), none, .r .load1, [.t 24]⟩ ::
 ⟨(some 26), none, .p (.bin .eql), [.t 25, .c (.int .i64 0)]⟩ ::
 ⟨(some 27), none, .p .mov, [.t 26]⟩ ::
 ⟨(some 28), (some (27, true)), .p (.faddr 7), [.t 2]⟩ ::
 ⟨(some 29), (some (27, true)), .r .load1, [.t 28]⟩ ::
 ⟨(some 30), (some (27, true)), .p (.bin .eql), [.t 29, .c (.int .i64 0)]⟩ ::
 ⟨(some 31), none, .p .pick, [.t 27, .t 30, .c (.bool false)]⟩ ::
 ⟨(some 4), none, .p .mov, [.t 31]⟩ ::
 []))
.ret)
.skip)))))
(.seq (.dops (⟨(some 32), none, .p (.faddr 6), [.t 2]⟩ ::
 ⟨(some 33), none, .r .load1, [.t 32]⟩ ::
 ⟨(some 34), none, .p (.bin .leq), [.c (.int .i64 1), .t 33]⟩ ::
 ⟨(some 35), none, .p .mov, [.t 34]⟩ ::
 ⟨(some 36), (some (35, true)), .p (.faddr 6), [.t 2]⟩ ::
 ⟨(some 37), (some (35, true)), .r .load1, [.t 36]⟩ ::
 ⟨(some 38), (some (35, true)), .p .mov, [.t 1]⟩ ::
 ⟨(some 39), (some (35, true)), .p (.bin .leq), [.t 37, .t 38]⟩ ::
 ⟨(some 40), none, .p .pick, [.t 35, .t 39, .c (.bool false)]⟩ ::
 ⟨(some 41), none, .p .mov, [.t 40]⟩ ::
 ⟨(some 42), (some (41, true)), .p (.faddr 7), [.t 2]⟩ ::
 ⟨(some 43), (some (41, true)), .r .load1, [.t 42]⟩ ::
 ⟨(some 44), (some (41, true)), .p (.bin .leq), [.c (.int .i64 1), .t 43]⟩ ::
 ⟨(some 45), none, .p .pick, [.t 41, .t 44, .c (.bool false)]⟩ ::
 ⟨(some 46), none, .p .mov, [.t 45]⟩ ::
 ⟨(some 47), (some (46, true)), .p (.faddr 7), [.t 2]⟩ ::
 ⟨(some 48), (some (46, true)), .r .load1, [.t 47]⟩ ::
 ⟨(some 49), (some (46, true)), .p (.faddr 2), [.t 2]⟩ ::
 ⟨(some 50), (some (46, true)), .r .load1, [.t 49]⟩ ::
 ⟨(some 51), (some (46, true)), .p (.faddr 6), [.t 2]⟩ ::
 ⟨(some 52), (some (46, true)), .r .load1, [.t 51]⟩ ::
 ⟨(some 53), (some (46, true)), .p (.bin .quo), [.t 50, .t 52]⟩ ::
 ⟨(some 54), (some (46, true)), .p (.bin .leq), [.t 48, .t 53]⟩ ::
 ⟨(some 55), none, .p .pick, [.t 46, .t 54, .c (.bool false)]⟩ ::
 ⟨(some 4), none, .p .mov, [.t 55]⟩ ::
 []) ([] :: [] :: [] :: [] :: [] :: [] :: [] :: [] :: [] :: [] :: [] :: [] :: [] :: [] :: [] :: [] :: [] :: [] :: [] :: [] :: [] :: [] :: [] :: [] :: [] :: []))
.ret)))⟩
abbrev f_delay_may : Nat := 41
abbrev C_delay_may : AFunc := C41
def L_escapementref08_Tasks_0 : AC := (.seq (.seq (.ops (⟨(some 4), none, .p .mov, [.t 3]⟩ ::
 ⟨(some 5), none, .p .mov, [.t 0]⟩ ::
 ⟨(some 6), none, .p .lenS, [.t 5]⟩ ::
 ⟨(some 7), none, .p (.bin .lss), [.t 4, .t 6]⟩ ::
 []))
(.cond (.t 7)
.skip
(.exit 0)))
(.seq (.block 1 (.seq (.ops (⟨(some 10), none, .p .mov, [.t 0]⟩ ::
 ⟨(some 11), none, .p .mov, [.t 3]⟩ ::
 ⟨(some 12), none, .p (.iaddrS 8), [.t 10, .t 11]⟩ ::
 ⟨(some 13), none, .r (.loadN 8), [.t 12]⟩ ::
 ⟨(some 14), none, .call, [.c (.func (.func 60) [] []), .t 13]⟩ ::
 ⟨(some 15), none, .p .not, [.t 14]⟩ ::
 []))
(.cond (.t 15)
(.seq (.ops (⟨(some 2), none, .p .mov, [.c (.bool false)]⟩ ::
 []))
.ret)
.skip)))
(.ops (⟨(some 8), none, .p .mov, [.t 3]⟩ ::
 ⟨(some 9), none, .p (.bin .add), [.t 8, .c (.int .i64 1)]⟩ ::
 ⟨(some 3), none, .p .mov, [.t 9]⟩ ::
 []))))
def C42 : AFunc := ⟨19, [.tmp 2],
(.seq (.ops (⟨(some 2), none, .p .mov, [.c (.bool false)]⟩ ::
 []))
(.seq (.seq (.ops (⟨(some 3), none, .p .mov, [.c (.int .i64 0)]⟩ ::
 []))
(.block 0 (.loop L_escapementref08_Tasks_0)))
(.seq (.ops (⟨(some 16), none, .p .mov, [.t 0]⟩ ::
 ⟨(some 17), none, .p .lenS, [.t 16]⟩ ::
 ⟨(some 18), none, .p (.bin .leq), [.t 17, .c (.int .i64 4)]⟩ ::
 ⟨(some 2), none, .p .mov, [.t 18]⟩ ::
 []))
.ret)))⟩
abbrev f_escapementref08_Tasks : Nat := 42
abbrev C_escapementref08_Tasks : AFunc := C42
def C43 : AFunc := ⟨67, [.tmp 4],
(.seq (.ops (⟨(some 2), none, .a .box, [.t 0]⟩ ::
 ⟨(some 4), none, .p .mov, [.c (.bool false)]⟩ ::
 []))
(.seq (.seq (.ops (⟨(some 5), none, .p (.faddr 4), [.t 2]⟩ ::
 ⟨(some 6), none, .r .load1, [.t 5]⟩ ::
 ⟨(some 7), none, .p (.bin .lss), [.t 6, .c (.int .i64 0)]⟩ ::
 ⟨(some 8), none, .p .mov, [.t 7]⟩ ::
 ⟨(some 9), (some (8, false)), .p (.faddr 4), [.t 2]⟩ ::
 ⟨(some 10), (some (8, false)), .r .load1, [.t 9]⟩ ::
 ⟨(some 11), (some (8, false)), .p (.faddr 2), [.t 2]⟩ ::
 ⟨(some 12), (some (8, false)), .r .load1, [.t 11]⟩ ::
 ⟨(some 13), (some (8, false)), .p (.bin .gtr), [.t 10, .t 12]⟩ ::
 ⟨(some 14), none, .p .pick, [.t 8, .c (.bool true), .t 13]⟩ ::
 ⟨(some 15), none, .p .mov, [.t 14]⟩ ::
 ⟨(some 16), (some (15, false)), .p (.faddr 5), [.t 2]⟩ ::
 ⟨(some 17), (some (15, false)), .r .load1, [.t 16]⟩ ::
 ⟨(some 18), (some (15, false)), .p (.bin .lss), [.t 17, .c (.int .i64 0)]⟩ ::
 ⟨(some 19), none, .p .pick, [.t 15, .c (.bool true), .t 18]⟩ ::
 ⟨(some 20), none, .p .mov, [.t 19]⟩ ::
 ⟨(some 21), (some (20, false)), .p (.faddr 5), [.t 2]⟩ ::
 ⟨(some 22), (some (20, false)), .r .load1, [.t 21]⟩ ::
 ⟨(some 23), (some (20, false)), .p (.bin .gtr), [.t 22, .c (.int .i64 4)]⟩ ::
 ⟨(some 24), none, .p .pick, [.t 20, .c (.bool true), .t 23]⟩ ::
 []))
(.cond (.t 24)
(.seq (.ops (⟨(some 4), none, .p .mov, [.c (.bool false)]⟩ ::
 []))
.ret)
.skip))
(.seq (.seq (.ops (⟨(some 25), none, .p (.faddr 5), [.t 2]⟩ ::
 ⟨(some 26), none, .r .load1, [.t 25]⟩ ::
 ⟨(some 27), none, .p (.bin .eql), [.t 26, .c (.int .i64 0)]⟩ ::
 []))
(.cond (.t 27)
(.seq (.ops (⟨(some 28), none, .p (.faddr 6), [.t 2]⟩ ::
 ⟨(some 29), none, .r .load1, [.t 28]⟩ ::
 ⟨(some 30), none, .p (.bin .eql), [.t 29, .c (.int .i64 0)]⟩ ::
 ⟨(some 31), none, .p .mov, [.t 30]⟩ ::
 ⟨(some 32), (some (31, true)), .p (.faddr 7), [.t 2]⟩ ::
 ⟨(some 33), (some (31, true)), .r .load1, [.t 32]⟩ ::
 ⟨(some 34), (some (31, true)), .p (.bin .eql), [.t 33, .c (.int .i64 0)]⟩ ::
 ⟨(some 35), none, .p .pick, [.t 31, .t 34, .c (.bool false)]⟩ ::
 ⟨(some 4), none, .p .mov, [.t 35]⟩ ::
 []))
.ret)
.skip))
(.seq (.ops (⟨(some 36), none, .p (.faddr 6), [.t 2]⟩ ::
 ⟨(some 37), none, .r .load1, [.t 36]⟩ ::
 ⟨(some 38), none, .p (.bin .geq), [.t 37, .c (.int .i64 1)]⟩ ::
 ⟨(some 39), none, .p .mov, [.t 38]⟩ ::
 ⟨(some 40), (some (39, true)), .p (.faddr 6), [.t 2]⟩ ::
 ⟨(some 41), (some (39, true)), .r .load1, [.t 40]⟩ ::
 ⟨(some 42), (some (39, true)), .p .mov, [.t 1]⟩ ::
 ⟨(some 43), (some (39, true)), .p (.bin .leq), [.t 41, .t 42]⟩ ::
 ⟨(some 44), none, .p .pick, [.t 39, .t 43, .c (.bool false)]⟩ ::
 ⟨(some 45), none, .p .mov, [.t 44]⟩ ::
 ⟨(some 46), (some (45, true)), .p (.faddr 7), [.t 2]⟩ ::
 ⟨(some 47), (some (45, true)), .r .load1, [.t 46]⟩ ::
 ⟨(some 48), (some (45, true)), .p (.bin .geq), [.t 47, .c (.int .i64 1)]⟩ ::
 ⟨(some 49), none, .p .pick, [.t 45, .t 48, .c (.bool false)]⟩ ::
 ⟨(some 50), none, .p .mov, [.t 49]⟩ ::
 ⟨(some 51), (some (50, true)), .p (.faddr 7), [.t 2]⟩ ::
 ⟨(some 52), (some (50, true)), .r .load1, [.t 51]⟩ ::
 ⟨(some 53), (some (50, true)), .p (.faddr 2), [.t 2]⟩ ::
 ⟨(some 54), (some (50, true)), .r .load1, [.t 53]⟩ ::
 ⟨(some 55), (some (50, true)), .p (.bin .leq), [.t 52, .t 54]⟩ ::
 ⟨(some 56), none, .p .pick, [.t 50, .t 55, .c (.bool false)]⟩ ::
 ⟨(some 57), none, .p .mov, [.t 56]⟩ ::
 ⟨(some 58), (some (57, true)), .p (.faddr 6), [.t 2]⟩ ::
 ⟨(some 59), (some (57, true)), .r .load1, [.t 58]⟩ ::
 ⟨(some 60), (some (57, true)), .p (.faddr 7), [.t 2]⟩ ::
 ⟨(some 61), (some (57, true)), .r .load1, [.t 60]⟩ ::
 ⟨(some 62), (some (57, true)), .p (.bin .mul), [.t 59, .t 61]⟩ ::
 ⟨(some 63), (some (57, true)), .p (.faddr 2), [.t 2]⟩ ::
 ⟨(some 64), (some (57, true)), .r .load1, [.t 63]⟩ ::
 ⟨(some 65), (some (57, true)), .p (.bin .leq), [.t 62, .t 64]⟩ ::
 ⟨(some 66), none, .p .pick, [.t 57, .t 65, .c (.bool false)]⟩ ::
 ⟨(some 4), none, .p .mov, [.t 66]⟩ ::
 []))
.ret))))⟩
abbrev f_escapementref09_task : Nat := 43
abbrev C_escapementref09_task : AFunc := C43
def C44 : AFunc := ⟨9, [.tmp 0],
(.seq (.ops (⟨(some 0), none, .p .mov, [.c .nils]⟩ ::
 []))
(.seq (.ops (⟨(some 1), none, .p (.build [(.int .i64 0), (.int .i64 0), (.int .i64 0), (.int .i64 0), (.int .i64 0), (.int .i64 0), (.int .i64 0), (.int .i64 0)] [(0, 1), (1, 1), (2, 1), (5, 1), (6, 1), (7, 1)]), [.c (.int .i64 10), .c (.int .i64 10), .c (.int .i64 4), .c (.int .i64 1), .c (.int .i64 2), .c (.int .i64 1)]⟩ ::
 ⟨(some 2), none, .a (.bslice [(.int .i64 0), (.int .i64 0), (.int .i64 0), (.int .i64 0), (.int .i64 0), (.int .i64 0), (.int .i64 0), (.int .i64 0)] 1 8 [0]), [.t 1]⟩ ::
 ⟨(some 3), none, .p (.build [(.int .i64 0), (.int .i64 0), .nils] [(0, 1), (1, 1), (2, 1)]), [.c (.int .i64 5), .c (.int .i64 2), .t 2]⟩ ::
 ⟨(some 4), none, .p (.build [(.int .i64 0), (.int .i64 0), (.int .i64 0), (.int .i64 0), (.int .i64 0), (.int .i64 0), (.int .i64 0), (.int .i64 0)] [(0, 1), (1, 1), (2, 1), (5, 1), (6, 1), (7, 1), (4, 1)]), [.c (.int .i64 20), .c (.int .i64 12), .c (.int .i64 3), .c (.int .i64 1), .c (.int .i64 1), .c (.int .i64 2), .c (.int .i64 2)]⟩ ::
 ⟨(some 5), none, .a (.bslice [(.int .i64 0), (.int .i64 0), (.int .i64 0), (.int .i64 0), (.int .i64 0), (.int .i64 0), (.int .i64 0), (.int .i64 0)] 1 8 [0]), [.t 4]⟩ ::
 ⟨(some 6), none, .p (.build [(.int .i64 0), (.int .i64 0), .nils] [(0, 1), (1, 1), (2, 1)]), [.c (.int .i64 7), .c (.int .i64 3), .t 5]⟩ ::
 ⟨(some 7), none, .p (.build [(.int .i64 0), (.int .i64 0), .nils] [(0, 1), (1, 1)]), [.c (.int .i64 4), .c (.int .i64 1)]⟩ ::
 ⟨(some 8), none, .a (.bslice [(.int .i64 0), (.int .i64 0), .nils] 3 3 [0, 1, 2]), [.t 3, .t 6, .t 7]⟩ ::
 ⟨(some 0), none, .p .mov, [.t 8]⟩ ::
 []))
.ret))⟩
abbrev f_escapementlaw09_three : Nat := 44
abbrev C_escapementlaw09_three : AFunc := C44
def C45 : AFunc := ⟨22, [.tmp 6],
(.seq (.ops (⟨(some 6), none, .p .mov, [.c (.bool false)]⟩ ::
 []))
(.seq (.ops (⟨(some 10), none, .p .mov, [.t 0]⟩ ::
 ⟨(some 11), none, .p .mov, [.t 1]⟩ ::
 ⟨(some 12), none, .call, [.c (.func (.func 15) [] []), .t 10, .t 11]⟩ ::
 ⟨(some 9), none, .p .mov, [.t 12]⟩ ::
 ⟨(some 13), none, .p (.ext 0), [.t 9]⟩ ::
 ⟨(some 14), none, .p (.ext 1), [.t 9]⟩ ::
 ⟨(some 7), none, .p .mov, [.t 13]⟩ ::
 ⟨(some 8), none, .p .mov, [.t 14]⟩ ::
 []))
(.seq (.ops (⟨(some 15), none, .p .mov, [.t 8]⟩ ::
 ⟨(some 16), none, .p (.bin .eql), [.t 15, .c (.int .i64 0)]⟩ ::
 ⟨(some 17), none, .p .mov, [.t 16]⟩ ::
 ⟨(some 18), (some (17, true)), .p .mov, [.t 7]⟩ ::
 ⟨(some 19), (some (17, true)), .p .mov, [.t 2]⟩ ::
 ⟨(some 20), (some (17, true)), .call, [.c (.func (.func 19) [] []), .t 18, .t 19]⟩ ::
 ⟨(some 21), none, .p .pick, [.t 17, .t 20, .c (.bool false)]⟩ ::
 ⟨(some 6), none, .p .mov, [.t 21]⟩ ::
 []))
.ret)))⟩
abbrev f_escapementlaw09_more : Nat := 45
abbrev C_escapementlaw09_more : AFunc := C45
def C46 : AFunc := ⟨21, [.tmp 4],
(.seq (.ops (⟨(some 2), none, .a .box, [.t 0]⟩ ::
 ⟨(some 3), none, .a .box, [.t 1]⟩ ::
 ⟨(some 4), none, .p .mov, [.c (.int .i64 0)]⟩ ::
 []))
(.seq (.seq (.ops (⟨(some 5), none, .p (.faddr 5), [.t 3]⟩ ::
 ⟨(some 6), none, .r .load1, [.t 5]⟩ ::
 ⟨(some 7), none, .p (.bin .eql), [.t 6, .c (.int .i64 0)]⟩ ::
 []))
(.cond (.t 7)
(.seq (.ops (⟨(some 8), none, .p (.faddr 4), [.t 3]⟩ ::
 ⟨(some 9), none, .r .load1, [.t 8]⟩ ::
 ⟨(some 4), none, .p .mov, [.t 9]⟩ ::
 []))
.ret)
.skip))
(.seq (.dops (⟨(some 10), none, .p (.faddr 4), [.t 3]⟩ ::
 ⟨(some 11), none, .r .load1, [.t 10]⟩ ::
 ⟨(some 12), none, .r (.loadN 5), [.t 2]⟩ ::
 ⟨(some 13), none, .r (.loadN 8), [.t 3]⟩ ::
 ⟨(some 14), none, .call, [.c (.func (.func 37) [] []), .t 12, .t 13]⟩ ::
 ⟨(some 15), none, .p (.faddr 6), [.t 3]⟩ ::
 ⟨(some 16), none, .r .load1, [.t 15]⟩ ::
 ⟨(some 17), none, .p (.bin .mul), [.c (.int .i64 2), .t 16]⟩ ::
 ⟨(some 18), none, .p (.bin .add), [.t 14, .t 17]⟩ ::
 ⟨(some 19), none, .p (.bin .sub), [.t 18, .c (.int .i64 1)]⟩ ::
 ⟨(some 20), none, .p .mx, [.t 11, .t 19]⟩ ::
 ⟨(some 4), none, .p .mov, [.t 20]⟩ ::
 []) ([] :: [0, 5] :: [] :: [] :: [] :: [] :: [0, 5] :: [] :: [] :: [] :: [] :: [] :: []))
.ret)))⟩
abbrev f_delay_seen_by : Nat := 46
abbrev C_delay_seen_by : AFunc := C46
def L_demand_sum_0 : AC := (.seq (.ops (⟨(some 8), none, .p (.bin .lss), [.t 7, .t 6]⟩ ::
 []))
(.seq (.cond (.t 8)
.skip
(.exit 0))
(.seq (.block 1 (.seq (.ops (⟨(some 9), none, .p (.iaddrS 1), [.t 5, .t 7]⟩ ::
 ⟨(some 10), none, .r .load1, [.t 9]⟩ ::
 ⟨(some 4), none, .p .mov, [.t 10]⟩ ::
 []))
(.ops (⟨(some 11), none, .p .mov, [.t 2]⟩ ::
 ⟨(some 12), none, .p .mov, [.t 4]⟩ ::
 ⟨(some 13), none, .p (.bin .add), [.t 11, .t 12]⟩ ::
 ⟨(some 2), none, .p .mov, [.t 13]⟩ ::
 []))))
(.ops (⟨(some 14), none, .p (.bin .add), [.t 7, .c (.int .i64 1)]⟩ ::
 ⟨(some 7), none, .p .mov, [.t 14]⟩ ::
 [])))))
def C47 : AFunc := ⟨16, [.tmp 2],
(.seq (.ops (⟨(some 2), none, .p .mov, [.c (.int .i64 0)]⟩ ::
 []))
(.seq (.seq (.ops (⟨(some 5), none, .p .mov, [.t 0]⟩ ::
 ⟨(some 6), none, .p .lenS, [.t 5]⟩ ::
 ⟨(some 7), none, .p .mov, [.c (.int .i64 0)]⟩ ::
 []))
(.block 0 (.loop L_demand_sum_0)))
(.seq (.ops (⟨(some 15), none, .p .mov, [.t 2]⟩ ::
 ⟨(some 2), none, .p .mov, [.t 15]⟩ ::
 []))
.ret)))⟩
abbrev f_demand_sum : Nat := 47
abbrev C_demand_sum : AFunc := C47
def L_demand_each_0 : AC := (.seq (.ops (⟨(some 16), none, .p (.bin .lss), [.t 15, .t 14]⟩ ::
 []))
(.seq (.cond (.t 16)
.skip
(.exit 0))
(.seq (.block 1 (.seq (.ops (⟨(some 17), none, .p .mov, [.t 15]⟩ ::
 ⟨(some 18), none, .p (.iaddrS 8), [.t 13, .t 15]⟩ ::
 ⟨(some 19), none, .r (.loadN 8), [.t 18]⟩ ::
 ⟨(some 9), none, .a (.alloc [(.int .i64 0), (.int .i64 0), (.int .i64 0), (.int .i64 0), (.int .i64 0), (.int .i64 0), (.int .i64 0), (.int .i64 0)]), []⟩ ::
 ⟨(some 8), none, .p .mov, [.t 17]⟩ ::
 ⟨none, none, .e (.store 8), [.t 9, .t 19]⟩ ::
 []))
(.dops (⟨(some 20), none, .p .mov, [.t 7]⟩ ::
 ⟨(some 21), none, .p .mov, [.t 8]⟩ ::
 ⟨(some 22), none, .p .mov, [.t 2]⟩ ::
 ⟨(some 23), none, .r (.loadN 8), [.t 9]⟩ ::
 ⟨(some 24), none, .call, [.t 22, .t 23]⟩ ::
 ⟨(some 25), none, .p (.faddr 2), [.t 9]⟩ ::
 ⟨(some 26), none, .r .load1, [.t 25]⟩ ::
 ⟨(some 27), none, .p .mov, [.t 1]⟩ ::
 ⟨(some 28), none, .p .mov, [.t 8]⟩ ::
 ⟨(some 29), none, .p (.iaddrS 1), [.t 27, .t 28]⟩ ::
 ⟨(some 30), none, .r .load1, [.t 29]⟩ ::
 ⟨(some 31), none, .p (.bin .add), [.t 26, .t 30]⟩ ::
 ⟨(some 32), none, .p (.bin .mul), [.t 24, .t 31]⟩ ::
 ⟨(some 33), none, .p (.iaddrS 1), [.t 20, .t 21]⟩ ::
 ⟨none, none, .e (.store 1), [.t 33, .t 32]⟩ ::
 []) ([] :: [] :: [] :: [] :: [] :: [] :: [0, 5] :: [] :: [] :: [] :: [0, 5] :: [] :: [] :: [] :: [] :: []))))
(.ops (⟨(some 34), none, .p (.bin .add), [.t 15, .c (.int .i64 1)]⟩ ::
 ⟨(some 15), none, .p .mov, [.t 34]⟩ ::
 [])))))
def C48 : AFunc := ⟨36, [.tmp 6],
(.seq (.ops (⟨(some 6), none, .p .mov, [.c .nils]⟩ ::
 []))
(.seq (.ops (⟨(some 10), none, .p .mov, [.t 0]⟩ ::
 ⟨(some 11), none, .p .lenS, [.t 10]⟩ ::
 ⟨(some 12), none, .a (.mkslice [(.int .i64 0)] 1 8), [.t 11, .t 11]⟩ ::
 ⟨(some 7), none, .p .mov, [.t 12]⟩ ::
 []))
(.seq (.seq (.ops (⟨(some 13), none, .p .mov, [.t 0]⟩ ::
 ⟨(some 14), none, .p .lenS, [.t 13]⟩ ::
 ⟨(some 15), none, .p .mov, [.c (.int .i64 0)]⟩ ::
 []))
(.block 0 (.loop L_demand_each_0)))
(.seq (.ops (⟨(some 35), none, .p .mov, [.t 7]⟩ ::
 ⟨(some 6), none, .p .mov, [.t 35]⟩ ::
 []))
.ret))))⟩
abbrev f_demand_each : Nat := 48
abbrev C_demand_each : AFunc := C48
def C49 : AFunc := ⟨16, [.tmp 3],
(.seq (.ops (⟨(some 2), none, .a .box, [.t 0]⟩ ::
 ⟨(some 3), none, .p .mov, [.c (.int .i64 0)]⟩ ::
 []))
(.seq (.seq (.ops (⟨(some 4), none, .r .load1, [.t 1]⟩ ::
 ⟨(some 5), none, .p (.faddr 1), [.t 2]⟩ ::
 ⟨(some 6), none, .r .load1, [.t 5]⟩ ::
 ⟨(some 7), none, .p (.bin .lss), [.t 4, .t 6]⟩ ::
 []))
(.cond (.t 7)
(.seq (.ops (⟨(some 3), none, .p .mov, [.c (.int .i64 0)]⟩ ::
 []))
.ret)
.skip))
(.seq (.ops (⟨(some 8), none, .r .load1, [.t 1]⟩ ::
 ⟨(some 9), none, .p (.faddr 1), [.t 2]⟩ ::
 ⟨(some 10), none, .r .load1, [.t 9]⟩ ::
 ⟨(some 11), none, .p (.bin .sub), [.t 8, .t 10]⟩ ::
 ⟨(some 12), none, .p (.faddr 0), [.t 2]⟩ ::
 ⟨(some 13), none, .r .load1, [.t 12]⟩ ::
 ⟨(some 14), none, .p (.bin .quo), [.t 11, .t 13]⟩ ::
 ⟨(some 15), none, .p (.bin .add), [.c (.int .i64 1), .t 14]⟩ ::
 ⟨(some 3), none, .p .mov, [.t 15]⟩ ::
 []))
.ret)))⟩
abbrev f_demand_Of_1 : Nat := 49
abbrev C_demand_Of_1 : AFunc := C49
def C50 : AFunc := ⟨9, [.tmp 4],
(.seq (.ops (⟨(some 4), none, .p .mov, [.c (.bool false)]⟩ ::
 []))
(.seq (.ops (⟨(some 5), none, .p .mov, [.t 0]⟩ ::
 ⟨(some 6), none, .p .mov, [.t 1]⟩ ::
 ⟨(some 7), none, .call, [.c (.func (.func 61) [] []), .t 5, .t 6]⟩ ::
 ⟨(some 8), none, .p (.bin .geq), [.t 7, .c (.int .i64 0)]⟩ ::
 ⟨(some 4), none, .p .mov, [.t 8]⟩ ::
 []))
.ret))⟩
abbrev f_slices_ContainsFunc_int_int : Nat := 50
abbrev C_slices_ContainsFunc_int_int : AFunc := C50
def C51 : AFunc := ⟨9, [.tmp 2],
(.seq (.ops (⟨(some 2), none, .p .mov, [.c (.bool false)]⟩ ::
 []))
(.seq (.ops (⟨(some 3), none, .p .mov, [.t 0]⟩ ::
 ⟨(some 4), none, .p (.bin .lss), [.t 3, .c (.int .i64 0)]⟩ ::
 ⟨(some 5), none, .p .mov, [.t 4]⟩ ::
 ⟨(some 6), (some (5, false)), .p .mov, [.t 0]⟩ ::
 ⟨(some 7), (some (5, false)), .p (.bin .gtr), [.t 6, .c (.int .i64 32768)]⟩ ::
 ⟨(some 8), none, .p .pick, [.t 5, .c (.bool true), .t 7]⟩ ::
 ⟨(some 2), none, .p .mov, [.t 8]⟩ ::
 []))
.ret))⟩
abbrev f_demand_Check_1 : Nat := 51
abbrev C_demand_Check_1 : AFunc := C51
def C52 : AFunc := ⟨11, [.tmp 2],
(.seq (.ops (⟨(some 2), none, .p .mov, [.c (.bool false)]⟩ ::
 []))
(.seq (.ops (⟨(some 3), none, .p .mov, [.t 0]⟩ ::
 ⟨(some 4), none, .p .lenS, [.t 3]⟩ ::
 ⟨(some 5), none, .p (.bin .leq), [.t 4, .c (.int .i64 4)]⟩ ::
 ⟨(some 6), none, .p .mov, [.t 5]⟩ ::
 ⟨(some 7), (some (6, true)), .p .mov, [.t 0]⟩ ::
 ⟨(some 8), (some (6, true)), .call, [.c (.func (.func 39) [] []), .t 7, .c (.func (.func 62) [] [])]⟩ ::
 ⟨(some 9), (some (6, true)), .p .not, [.t 8]⟩ ::
 ⟨(some 10), none, .p .pick, [.t 6, .t 9, .c (.bool false)]⟩ ::
 ⟨(some 2), none, .p .mov, [.t 10]⟩ ::
 []))
.ret))⟩
abbrev f_demand_all : Nat := 52
abbrev C_demand_all : AFunc := C52
def C53 : AFunc := ⟨4, [.tmp 0],
(.seq (.ops (⟨(some 0), none, .p .mov, [.c .nils]⟩ ::
 []))
(.seq (.ops (⟨(some 1), none, .p (.build [(.int .i64 0), (.int .i64 0), (.int .i64 0), (.int .i64 0), (.int .i64 0), (.int .i64 0), (.int .i64 0), (.int .i64 0)] [(0, 1), (1, 1), (2, 1)]), [.c (.int .i64 5), .c (.int .i64 4), .c (.int .i64 2)]⟩ ::
 ⟨(some 2), none, .p (.build [(.int .i64 0), (.int .i64 0), (.int .i64 0), (.int .i64 0), (.int .i64 0), (.int .i64 0), (.int .i64 0), (.int .i64 0)] [(0, 1), (1, 1), (2, 1)]), [.c (.int .i64 10), .c (.int .i64 10), .c (.int .i64 3)]⟩ ::
 ⟨(some 3), none, .a (.bslice [(.int .i64 0), (.int .i64 0), (.int .i64 0), (.int .i64 0), (.int .i64 0), (.int .i64 0), (.int .i64 0), (.int .i64 0)] 2 8 [0, 1]), [.t 1, .t 2]⟩ ::
 ⟨(some 0), none, .p .mov, [.t 3]⟩ ::
 []))
.ret))⟩
abbrev f_escapementlaw08_two : Nat := 53
abbrev C_escapementlaw08_two : AFunc := C53
def C54 : AFunc := ⟨53, [.tmp 4, .tmp 5],
(.seq (.ops (⟨(some 4), none, .p .mov, [.c (.int .i64 0)]⟩ ::
 ⟨(some 5), none, .p .mov, [.c (.int .i64 0)]⟩ ::
 []))
(.seq (.seq (.ops (⟨(some 7), none, .p .mov, [.t 0]⟩ ::
 ⟨(some 8), none, .a (.bslice [(.int .i64 0)] 1 1 [0]), [.t 7]⟩ ::
 ⟨(some 9), none, .call, [.c (.func (.func 64) [] []), .t 8]⟩ ::
 ⟨(some 10), none, .p .not, [.t 9]⟩ ::
 ⟨(some 11), none, .p .mov, [.t 10]⟩ ::
 ⟨(some 12), (some (11, false)), .p .mov, [.t 1]⟩ ::
 ⟨(some 13), (some (11, false)), .call, [.c (.func (.func 64) [] []), .t 12]⟩ ::
 ⟨(some 14), (some (11, false)), .p .not, [.t 13]⟩ ::
 ⟨(some 15), none, .p .pick, [.t 11, .c (.bool true), .t 14]⟩ ::
 ⟨(some 16), none, .p .mov, [.t 15]⟩ ::
 ⟨(some 17), (some (16, false)), .p .mov, [.t 1]⟩ ::
 ⟨(some 18), (some (16, false)), .call, [.c (.func (.func 65) [] []), .t 17, .c (.int .i64 0)]⟩ ::
 ⟨(some 19), none, .p .pick, [.t 16, .c (.bool true), .t 18]⟩ ::
 []))
(.cond (.t 19)
(.seq (.ops (⟨(some 4), none, .p .mov, [.c (.int .i64 0)]⟩ ::
 ⟨(some 5), none, .p .mov, [.c (.int .i64 2)]⟩ ::
 []))
.ret)
.skip))
(.seq (.ops (⟨(some 20), none, .p (.build [(.int .i64 0), (.int .i64 0)] [(0, 1)]), [.c (.int .i64 1)]⟩ ::
 ⟨(some 21), none, .a .box, [.t 20]⟩ ::
 ⟨(some 6), none, .p .mov, [.t 21]⟩ ::
 []))
(.seq (.ops (⟨(some 22), none, .p .mov, [.t 6]⟩ ::
 ⟨(some 23), none, .p (.mkfunc (.func 67) 1), [.t 22]⟩ ::
 ⟨(some 24), none, .p .mov, [.t 1]⟩ ::
 ⟨(some 25), none, .call, [.c (.func (.func 66) [] []), .t 23, .t 24]⟩ ::
 []))
(.seq (.seq (.ops (⟨(some 26), none, .p .mov, [.t 6]⟩ ::
 ⟨(some 27), none, .p .nilchk, [.t 26]⟩ ::
 ⟨(some 28), none, .p (.faddr 1), [.t 27]⟩ ::
 ⟨(some 29), none, .r .load1, [.t 28]⟩ ::
 ⟨(some 30), none, .p (.bin .eql), [.t 29, .c (.int .i64 0)]⟩ ::
 ⟨(some 31), none, .p .mov, [.t 30]⟩ ::
 ⟨(some 32), (some (31, true)), .p .mov, [.t 6]⟩ ::
 ⟨(some 33), (some (31, true)), .p .nilchk, [.t 32]⟩ ::
 ⟨(some 34), (some (31, true)), .p (.faddr 0), [.t 33]⟩ ::
 ⟨(some 35), (some (31, true)), .r .load1, [.t 34]⟩ ::
 ⟨(some 36), (some (31, true)), .p .mov, [.t 0]⟩ ::
 ⟨(some 37), (some (31, true)), .p (.bin .gtr), [.t 35, .t 36]⟩ ::
 ⟨(some 38), none, .p .pick, [.t 31, .t 37, .c (.bool false)]⟩ ::
 []))
(.cond (.t 38)
(.ops (⟨(some 39), none, .p .mov, [.t 6]⟩ ::
 ⟨(some 40), none, .p .nilchk, [.t 39]⟩ ::
 ⟨(some 41), none, .p (.faddr 1), [.t 40]⟩ ::
 ⟨none, none, .e (.store 1), [.t 41, .c (.int .i64 10)]⟩ ::
 []))
.skip))
(.seq (.dops (⟨(some 42), none, .p .mov, [.t 6]⟩ ::
 ⟨(some 43), none, .p .nilchk, [.t 42]⟩ ::
 ⟨(some 44), none, .p (.faddr 0), [.t 43]⟩ ::
 ⟨(some 45), none, .r .load1, [.t 44]⟩ ::
 ⟨(some 46), none, .p .mov, [.t 6]⟩ ::
 ⟨(some 47), none, .p .nilchk, [.t 46]⟩ ::
 ⟨(some 48), none, .p (.faddr 1), [.t 47]⟩ ::
 ⟨(some 49), none, .r .load1, [.t 48]⟩ ::
 ⟨(some 50), none, .call, [.c (.func (.func 68) [] []), .t 45, .t 49]⟩ ::
 ⟨(some 51), none, .p (.ext 0), [.t 50]⟩ ::
 ⟨(some 52), none, .p (.ext 1), [.t 50]⟩ ::
 ⟨(some 4), none, .p .mov, [.t 51]⟩ ::
 ⟨(some 5), none, .p .mov, [.t 52]⟩ ::
 []) ([] :: [] :: [] :: [] :: [] :: [] :: [] :: [] :: [] :: [] :: [] :: [] :: [] :: []))
.ret))))))⟩
abbrev f_ticks_Lcm : Nat := 54
abbrev C_ticks_Lcm : AFunc := C54
def C55 : AFunc := ⟨9, [.tmp 3],
(.seq (.ops (⟨(some 2), none, .a .box, [.t 0]⟩ ::
 ⟨(some 3), none, .p .mov, [.c (.bool false)]⟩ ::
 []))
(.seq (.ops (⟨(some 4), none, .r .load1, [.t 1]⟩ ::
 ⟨(some 5), none, .p (.faddr 0), [.t 2]⟩ ::
 ⟨(some 6), none, .r .load1, [.t 5]⟩ ::
 ⟨(some 7), none, .p (.bin .rem), [.t 4, .t 6]⟩ ::
 ⟨(some 8), none, .p (.bin .neq), [.t 7, .c (.int .i64 0)]⟩ ::
 ⟨(some 3), none, .p .mov, [.t 8]⟩ ::
 []))
.ret))⟩
abbrev f_demand_Use_1 : Nat := 55
abbrev C_demand_Use_1 : AFunc := C55
def C56 : AFunc := ⟨8, [.tmp 3],
(.seq (.ops (⟨(some 2), none, .a .box, [.t 0]⟩ ::
 ⟨(some 3), none, .p .mov, [.c (.int .i64 0)]⟩ ::
 []))
(.seq (.ops (⟨(some 4), none, .r .load1, [.t 1]⟩ ::
 ⟨(some 5), none, .p (.faddr 0), [.t 2]⟩ ::
 ⟨(some 6), none, .r .load1, [.t 5]⟩ ::
 ⟨(some 7), none, .p (.bin .quo), [.t 4, .t 6]⟩ ::
 ⟨(some 3), none, .p .mov, [.t 7]⟩ ::
 []))
.ret))⟩
abbrev f_demand_Use_2 : Nat := 56
abbrev C_demand_Use_2 : AFunc := C56
def C57 : AFunc := ⟨6, [.tmp 4],
(.seq (.ops (⟨(some 2), none, .a .box, [.t 0]⟩ ::
 ⟨(some 3), none, .a .box, [.t 1]⟩ ::
 ⟨(some 4), none, .p .mov, [.c .nilf]⟩ ::
 []))
(.seq (.ops (⟨(some 5), none, .p (.mkfunc (.func 69) 0), [.t 2, .t 3]⟩ ::
 ⟨(some 4), none, .p .mov, [.t 5]⟩ ::
 []))
.ret))⟩
abbrev f_delay_seen_sharers : Nat := 57
abbrev C_delay_seen_sharers : AFunc := C57
def L_escapementref09_uses_0 : AC := (.seq (.seq (.ops (⟨(some 6), none, .p .mov, [.t 5]⟩ ::
 ⟨(some 7), none, .p (.faddr 2), [.t 2]⟩ ::
 ⟨(some 8), none, .r .load1, [.t 7]⟩ ::
 ⟨(some 9), none, .p .lenS, [.t 8]⟩ ::
 ⟨(some 10), none, .p (.bin .lss), [.t 6, .t 9]⟩ ::
 []))
(.cond (.t 10)
.skip
(.exit 0)))
(.seq (.block 1 (.seq (.ops (⟨(some 13), none, .p (.faddr 2), [.t 2]⟩ ::
 ⟨(some 14), none, .r .load1, [.t 13]⟩ ::
 ⟨(some 15), none, .p .mov, [.t 5]⟩ ::
 ⟨(some 16), none, .p (.iaddrS 8), [.t 14, .t 15]⟩ ::
 ⟨(some 17), none, .p (.faddr 5), [.t 16]⟩ ::
 ⟨(some 18), none, .r .load1, [.t 17]⟩ ::
 ⟨(some 19), none, .p .mov, [.t 1]⟩ ::
 ⟨(some 20), none, .p (.bin .eql), [.t 18, .t 19]⟩ ::
 []))
(.cond (.t 20)
(.seq (.ops (⟨(some 4), none, .p .mov, [.c (.bool true)]⟩ ::
 []))
.ret)
.skip)))
(.ops (⟨(some 11), none, .p .mov, [.t 5]⟩ ::
 ⟨(some 12), none, .p (.bin .add), [.t 11, .c (.int .i64 1)]⟩ ::
 ⟨(some 5), none, .p .mov, [.t 12]⟩ ::
 []))))
def C58 : AFunc := ⟨21, [.tmp 4],
(.seq (.ops (⟨(some 2), none, .a .box, [.t 0]⟩ ::
 ⟨(some 4), none, .p .mov, [.c (.bool false)]⟩ ::
 []))
(.seq (.seq (.ops (⟨(some 5), none, .p .mov, [.c (.int .i64 0)]⟩ ::
 []))
(.block 0 (.loop L_escapementref09_uses_0)))
(.seq (.ops (⟨(some 4), none, .p .mov, [.c (.bool false)]⟩ ::
 []))
.ret)))⟩
abbrev f_escapementref09_uses : Nat := 58
abbrev C_escapementref09_uses : AFunc := C58
def L_slices_IndexFunc_api_Task_api_Task_0 : AC := (.seq (.ops (⟨(some 9), none, .p (.bin .lss), [.t 8, .t 7]⟩ ::
 []))
(.seq (.cond (.t 9)
.skip
(.exit 0))
(.seq (.block 1 (.seq (.ops (⟨(some 10), none, .p .mov, [.t 8]⟩ ::
 ⟨(some 5), none, .p .mov, [.t 10]⟩ ::
 []))
(.seq (.ops (⟨(some 11), none, .p .mov, [.t 1]⟩ ::
 ⟨(some 12), none, .p .mov, [.t 0]⟩ ::
 ⟨(some 13), none, .p .mov, [.t 5]⟩ ::
 ⟨(some 14), none, .p (.iaddrS 8), [.t 12, .t 13]⟩ ::
 ⟨(some 15), none, .r (.loadN 8), [.t 14]⟩ ::
 ⟨(some 16), none, .call, [.t 11, .t 15]⟩ ::
 []))
(.cond (.t 16)
(.seq (.ops (⟨(some 17), none, .p .mov, [.t 5]⟩ ::
 ⟨(some 4), none, .p .mov, [.t 17]⟩ ::
 []))
.ret)
.skip))))
(.ops (⟨(some 18), none, .p (.bin .add), [.t 8, .c (.int .i64 1)]⟩ ::
 ⟨(some 8), none, .p .mov, [.t 18]⟩ ::
 [])))))
def C59 : AFunc := ⟨19, [.tmp 4],
(.seq (.ops (⟨(some 4), none, .p .mov, [.c (.int .i64 0)]⟩ ::
 []))
(.seq (.seq (.ops (⟨(some 6), none, .p .mov, [.t 0]⟩ ::
 ⟨(some 7), none, .p .lenS, [.t 6]⟩ ::
 ⟨(some 8), none, .p .mov, [.c (.int .i64 0)]⟩ ::
 []))
(.block 0 (.loop L_slices_IndexFunc_api_Task_api_Task_0)))
(.seq (.ops (⟨(some 4), none, .p .mov, [.c (.int .i64 (-1))]⟩ ::
 []))
.ret)))⟩
abbrev f_slices_IndexFunc_api_Task_api_Task : Nat := 59
abbrev C_slices_IndexFunc_api_Task_api_Task : AFunc := C59
def C60 : AFunc := ⟨35, [.tmp 2],
(.seq (.ops (⟨(some 1), none, .a .box, [.t 0]⟩ ::
 ⟨(some 2), none, .p .mov, [.c (.bool false)]⟩ ::
 []))
(.seq (.ops (⟨(some 3), none, .p (.faddr 0), [.t 1]⟩ ::
 ⟨(some 4), none, .r .load1, [.t 3]⟩ ::
 ⟨(some 5), none, .p (.bin .geq), [.t 4, .c (.int .i64 1)]⟩ ::
 ⟨(some 6), none, .p .mov, [.t 5]⟩ ::
 ⟨(some 7), (some (6, true)), .p (.faddr 0), [.t 1]⟩ ::
 ⟨(some 8), (some (6, true)), .r .load1, [.t 7]⟩ ::
 ⟨(some 9), (some (6, true)), .p (.bin .leq), [.t 8, .c (.int .i64 64)]⟩ ::
 ⟨(some 10), none, .p .pick, [.t 6, .t 9, .c (.bool false)]⟩ ::
 ⟨(some 11), none, .p .mov, [.t 10]⟩ ::
 ⟨(some 12), (some (11, true)), .p (.faddr 1), [.t 1]⟩ ::
 ⟨(some 13), (some (11, true)), .r .load1, [.t 12]⟩ ::
 ⟨(some 14), (some (11, true)), .p (.bin .geq), [.t 13, .c (.int .i64 1)]⟩ ::
 ⟨(some 15), none, .p .pick, [.t 11, .t 14, .c (.bool false)]⟩ ::
 ⟨(some 16), none, .p .mov, [.t 15]⟩ ::
 ⟨(some 17), (some (16, true)), .p (.faddr 1), [.t 1]⟩ ::
 ⟨(some 18), (some (16, true)), .r .load1, [.t 17]⟩ ::
 ⟨(some 19), (some (16, true)), .p (.faddr 0), [.t 1]⟩ ::
 ⟨(some 20), (some (16, true)), .r .load1, [.t 19]⟩ ::
 ⟨(some 21), (some (16, true)), .p (.bin .leq), [.t 18, .t 20]⟩ ::
 ⟨(some 22), none, .p .pick, [.t 16, .t 21, .c (.bool false)]⟩ ::
 ⟨(some 23), none, .p .mov, [.t 22]⟩ ::
 ⟨(some 24), (some (23, true)), .p (.faddr 2), [.t 1]⟩ ::
 ⟨(some 25), (some (23, true)), .r .load1, [.t 24]⟩ ::
 ⟨(some 26), (some (23, true)), .p (.bin .geq), [.t 25, .c (.int .i64 1)]⟩ ::
 ⟨(some 27), none, .p .pick, [.t 23, .t 26, .c (.bool false)]⟩ ::
 ⟨(some 28), none, .p .mov, [.t 27]⟩ ::
 ⟨(some 29), (some (28, true)), .p (.faddr 2), [.t 1]⟩ ::
 ⟨(some 30), (some (28, true)), .r .load1, [.t 29]⟩ ::
 ⟨(some 31), (some (28, true)), .p (.faddr 1), [.t 1]⟩ ::
 ⟨(some 32), (some (28, true)), .r .load1, [.t 31]⟩ ::
 ⟨(some 33), (some (28, true)), .p (.bin .leq), [.t 30, .t 32]⟩ ::
 ⟨(some 34), none, .p .pick, [.t 28, .t 33, .c (.bool false)]⟩ ::
 ⟨(some 2), none, .p .mov, [.t 34]⟩ ::
 []))
.ret))⟩
abbrev f_escapementref08_task : Nat := 60
abbrev C_escapementref08_task : AFunc := C60
def L_slices_IndexFunc_int_int_0 : AC := (.seq (.ops (⟨(some 9), none, .p (.bin .lss), [.t 8, .t 7]⟩ ::
 []))
(.seq (.cond (.t 9)
.skip
(.exit 0))
(.seq (.block 1 (.seq (.ops (⟨(some 10), none, .p .mov, [.t 8]⟩ ::
 ⟨(some 5), none, .p .mov, [.t 10]⟩ ::
 []))
(.seq (.ops (⟨(some 11), none, .p .mov, [.t 1]⟩ ::
 ⟨(some 12), none, .p .mov, [.t 0]⟩ ::
 ⟨(some 13), none, .p .mov, [.t 5]⟩ ::
 ⟨(some 14), none, .p (.iaddrS 1), [.t 12, .t 13]⟩ ::
 ⟨(some 15), none, .r .load1, [.t 14]⟩ ::
 ⟨(some 16), none, .call, [.t 11, .t 15]⟩ ::
 []))
(.cond (.t 16)
(.seq (.ops (⟨(some 17), none, .p .mov, [.t 5]⟩ ::
 ⟨(some 4), none, .p .mov, [.t 17]⟩ ::
 []))
.ret)
.skip))))
(.ops (⟨(some 18), none, .p (.bin .add), [.t 8, .c (.int .i64 1)]⟩ ::
 ⟨(some 8), none, .p .mov, [.t 18]⟩ ::
 [])))))
def C61 : AFunc := ⟨19, [.tmp 4],
(.seq (.ops (⟨(some 4), none, .p .mov, [.c (.int .i64 0)]⟩ ::
 []))
(.seq (.seq (.ops (⟨(some 6), none, .p .mov, [.t 0]⟩ ::
 ⟨(some 7), none, .p .lenS, [.t 6]⟩ ::
 ⟨(some 8), none, .p .mov, [.c (.int .i64 0)]⟩ ::
 []))
(.block 0 (.loop L_slices_IndexFunc_int_int_0)))
(.seq (.ops (⟨(some 4), none, .p .mov, [.c (.int .i64 (-1))]⟩ ::
 []))
.ret)))⟩
abbrev f_slices_IndexFunc_int_int : Nat := 61
abbrev C_slices_IndexFunc_int_int : AFunc := C61
def C62 : AFunc := ⟨6, [.tmp 2],
(.seq (.ops (⟨(some 1), none, .a .box, [.t 0]⟩ ::
 ⟨(some 2), none, .p .mov, [.c (.bool false)]⟩ ::
 []))
(.seq (.ops (⟨(some 3), none, .r (.loadN 8), [.t 1]⟩ ::
 ⟨(some 4), none, .call, [.c (.func (.func 63) [] []), .t 3]⟩ ::
 ⟨(some 5), none, .p .not, [.t 4]⟩ ::
 ⟨(some 2), none, .p .mov, [.t 5]⟩ ::
 []))
.ret))⟩
abbrev f_demand_all_1 : Nat := 62
abbrev C_demand_all_1 : AFunc := C62
def C63 : AFunc := ⟨25, [.tmp 2],
(.seq (.ops (⟨(some 1), none, .a .box, [.t 0]⟩ ::
 ⟨(some 2), none, .p .mov, [.c (.bool false)]⟩ ::
 []))
(.seq (.ops (⟨(some 3), none, .p (.faddr 2), [.t 1]⟩ ::
 ⟨(some 4), none, .r .load1, [.t 3]⟩ ::
 ⟨(some 5), none, .p (.bin .leq), [.c (.int .i64 1), .t 4]⟩ ::
 ⟨(some 6), none, .p .mov, [.t 5]⟩ ::
 ⟨(some 7), (some (6, true)), .p (.faddr 2), [.t 1]⟩ ::
 ⟨(some 8), (some (6, true)), .r .load1, [.t 7]⟩ ::
 ⟨(some 9), (some (6, true)), .p (.faddr 1), [.t 1]⟩ ::
 ⟨(some 10), (some (6, true)), .r .load1, [.t 9]⟩ ::
 ⟨(some 11), (some (6, true)), .p (.bin .leq), [.t 8, .t 10]⟩ ::
 ⟨(some 12), none, .p .pick, [.t 6, .t 11, .c (.bool false)]⟩ ::
 ⟨(some 13), none, .p .mov, [.t 12]⟩ ::
 ⟨(some 14), (some (13, true)), .p (.faddr 1), [.t 1]⟩ ::
 ⟨(some 15), (some (13, true)), .r .load1, [.t 14]⟩ ::
 ⟨(some 16), (some (13, true)), .p (.faddr 0), [.t 1]⟩ ::
 ⟨(some 17), (some (13, true)), .r .load1, [.t 16]⟩ ::
 ⟨(some 18), (some (13, true)), .p (.bin .leq), [.t 15, .t 17]⟩ ::
 ⟨(some 19), none, .p .pick, [.t 13, .t 18, .c (.bool false)]⟩ ::
 ⟨(some 20), none, .p .mov, [.t 19]⟩ ::
 ⟨(some 21), (some (20, true)), .p (.faddr 0), [.t 1]⟩ ::
 ⟨(some 22), (some (20, true)), .r .load1, [.t 21]⟩ ::
 ⟨(some 23), (some (20, true)), .p (.bin .leq), [.t 22, .c (.int .i64 64)]⟩ ::
 ⟨(some 24), none, .p .pick, [.t 20, .t 23, .c (.bool false)]⟩ ::
 ⟨(some 2), none, .p .mov, [.t 24]⟩ ::
 []))
.ret))⟩
abbrev f_demand_may : Nat := 63
abbrev C_demand_may : AFunc := C63
def L_ticks_tick_0 : AC := (.seq (.ops (⟨(some 8), none, .p (.bin .lss), [.t 7, .t 6]⟩ ::
 []))
(.seq (.cond (.t 8)
.skip
(.exit 0))
(.seq (.block 1 (.seq (.ops (⟨(some 9), none, .p (.iaddrS 1), [.t 5, .t 7]⟩ ::
 ⟨(some 10), none, .r .load1, [.t 9]⟩ ::
 ⟨(some 4), none, .p .mov, [.t 10]⟩ ::
 []))
(.seq (.ops (⟨(some 11), none, .p .mov, [.t 4]⟩ ::
 ⟨(some 12), none, .p (.bin .lss), [.t 11, .c (.int .i64 0)]⟩ ::
 ⟨(some 13), none, .p .mov, [.t 12]⟩ ::
 ⟨(some 14), (some (13, false)), .p .mov, [.t 4]⟩ ::
 ⟨(some 15), (some (13, false)), .p (.bin .gtr), [.t 14, .c (.int .i64 1099511627776)]⟩ ::
 ⟨(some 16), none, .p .pick, [.t 13, .c (.bool true), .t 15]⟩ ::
 []))
(.cond (.t 16)
(.seq (.ops (⟨(some 2), none, .p .mov, [.c (.bool false)]⟩ ::
 []))
.ret)
.skip))))
(.ops (⟨(some 17), none, .p (.bin .add), [.t 7, .c (.int .i64 1)]⟩ ::
 ⟨(some 7), none, .p .mov, [.t 17]⟩ ::
 [])))))
def C64 : AFunc := ⟨18, [.tmp 2],
(.seq (.ops (⟨(some 2), none, .p .mov, [.c (.bool false)]⟩ ::
 []))
(.seq (.seq (.ops (⟨(some 5), none, .p .mov, [.t 0]⟩ ::
 ⟨(some 6), none, .p .lenS, [.t 5]⟩ ::
 ⟨(some 7), none, .p .mov, [.c (.int .i64 0)]⟩ ::
 []))
(.block 0 (.loop L_ticks_tick_0)))
(.seq (.ops (⟨(some 2), none, .p .mov, [.c (.bool true)]⟩ ::
 []))
.ret)))⟩
abbrev f_ticks_tick : Nat := 64
abbrev C_ticks_tick : AFunc := C64
def C65 : AFunc := ⟨9, [.tmp 4],
(.seq (.ops (⟨(some 4), none, .p .mov, [.c (.bool false)]⟩ ::
 []))
(.seq (.ops (⟨(some 5), none, .p .mov, [.t 0]⟩ ::
 ⟨(some 6), none, .p .mov, [.t 1]⟩ ::
 ⟨(some 7), none, .call, [.c (.func (.func 71) [] []), .t 5, .t 6]⟩ ::
 ⟨(some 8), none, .p (.bin .geq), [.t 7, .c (.int .i64 0)]⟩ ::
 ⟨(some 4), none, .p .mov, [.t 8]⟩ ::
 []))
.ret))⟩
abbrev f_slices_Contains_int_int : Nat := 65
abbrev C_slices_Contains_int_int : AFunc := C65
def L_ticks_each_0 : AC := (.seq (.ops (⟨(some 9), none, .p (.bin .lss), [.t 8, .t 7]⟩ ::
 []))
(.seq (.cond (.t 9)
.skip
(.exit 0))
(.seq (.block 1 (.seq (.ops (⟨(some 10), none, .p (.iaddrS 1), [.t 6, .t 8]⟩ ::
 ⟨(some 11), none, .r .load1, [.t 10]⟩ ::
 ⟨(some 5), none, .p .mov, [.t 11]⟩ ::
 []))
(.ops (⟨(some 12), none, .p .mov, [.t 0]⟩ ::
 ⟨(some 13), none, .p .mov, [.t 5]⟩ ::
 ⟨(some 14), none, .call, [.t 12, .t 13]⟩ ::
 []))))
(.ops (⟨(some 15), none, .p (.bin .add), [.t 8, .c (.int .i64 1)]⟩ ::
 ⟨(some 8), none, .p .mov, [.t 15]⟩ ::
 [])))))
def C66 : AFunc := ⟨16, [],
(.seq (.ops (⟨(some 6), none, .p .mov, [.t 1]⟩ ::
 ⟨(some 7), none, .p .lenS, [.t 6]⟩ ::
 ⟨(some 8), none, .p .mov, [.c (.int .i64 0)]⟩ ::
 []))
(.block 0 (.loop L_ticks_each_0)))⟩
abbrev f_ticks_each : Nat := 66
abbrev C_ticks_each : AFunc := C66
def C67 : AFunc := ⟨37, [],
(.seq (.ops (⟨(some 6), none, .p .mov, [.t 0]⟩ ::
 ⟨(some 7), none, .p .nilchk, [.t 6]⟩ ::
 ⟨(some 8), none, .p (.faddr 1), [.t 7]⟩ ::
 ⟨(some 9), none, .r .load1, [.t 8]⟩ ::
 ⟨(some 10), none, .p (.bin .eql), [.t 9, .c (.int .i64 0)]⟩ ::
 []))
(.cond (.t 10)
(.seq (.ops (⟨(some 12), none, .p .mov, [.t 0]⟩ ::
 ⟨(some 13), none, .p .nilchk, [.t 12]⟩ ::
 ⟨(some 14), none, .p (.faddr 0), [.t 13]⟩ ::
 ⟨(some 15), none, .r .load1, [.t 14]⟩ ::
 ⟨(some 16), none, .p .mov, [.t 1]⟩ ::
 ⟨(some 17), none, .call, [.c (.func (.func 72) [] []), .t 15, .t 16]⟩ ::
 ⟨(some 11), none, .p .mov, [.t 17]⟩ ::
 ⟨(some 18), none, .p (.ext 0), [.t 11]⟩ ::
 ⟨(some 19), none, .p (.ext 1), [.t 11]⟩ ::
 ⟨(some 4), none, .p .mov, [.t 18]⟩ ::
 ⟨(some 5), none, .p .mov, [.t 19]⟩ ::
 []))
(.dops (⟨(some 21), none, .p .mov, [.t 0]⟩ ::
 ⟨(some 22), none, .p .mov, [.t 0]⟩ ::
 ⟨(some 23), none, .p .mov, [.t 0]⟩ ::
 ⟨(some 24), none, .p .nilchk, [.t 23]⟩ ::
 ⟨(some 25), none, .p (.faddr 0), [.t 24]⟩ ::
 ⟨(some 26), none, .r .load1, [.t 25]⟩ ::
 ⟨(some 27), none, .p .mov, [.t 1]⟩ ::
 ⟨(some 28), none, .p .mov, [.t 4]⟩ ::
 ⟨(some 29), none, .p (.bin .quo), [.t 27, .t 28]⟩ ::
 ⟨(some 30), none, .call, [.c (.func (.func 73) [] []), .t 26, .t 29]⟩ ::
 ⟨(some 20), none, .p .mov, [.t 30]⟩ ::
 ⟨(some 31), none, .p (.ext 0), [.t 20]⟩ ::
 ⟨(some 32), none, .p (.ext 1), [.t 20]⟩ ::
 ⟨(some 33), none, .p .nilchk, [.t 21]⟩ ::
 ⟨(some 34), none, .p (.faddr 0), [.t 33]⟩ ::
 ⟨none, none, .e (.store 1), [.t 34, .t 31]⟩ ::
 ⟨(some 35), none, .p .nilchk, [.t 22]⟩ ::
 ⟨(some 36), none, .p (.faddr 1), [.t 35]⟩ ::
 ⟨none, none, .e (.store 1), [.t 36, .t 32]⟩ ::
 []) ([] :: [] :: [] :: [] :: [] :: [] :: [] :: [] :: [] :: [] :: [] :: [] :: [] :: [] :: [] :: [] :: [] :: [] :: [] :: [])))
.skip))⟩
abbrev f_ticks_count_multiple : Nat := 67
abbrev C_ticks_count_multiple : AFunc := C67
def C68 : AFunc := ⟨16, [.tmp 4, .tmp 5],
(.seq (.ops (⟨(some 4), none, .p .mov, [.c (.int .i64 0)]⟩ ::
 ⟨(some 5), none, .p .mov, [.c (.int .i64 0)]⟩ ::
 []))
(.seq (.seq (.ops (⟨(some 6), none, .p .mov, [.t 1]⟩ ::
 ⟨(some 7), none, .p (.bin .eql), [.t 6, .c (.int .i64 0)]⟩ ::
 ⟨(some 8), none, .p .mov, [.t 7]⟩ ::
 ⟨(some 9), (some (8, true)), .p .mov, [.t 0]⟩ ::
 ⟨(some 10), (some (8, true)), .p (.bin .gtr), [.t 9, .c (.int .i64 1099511627776)]⟩ ::
 ⟨(some 11), none, .p .pick, [.t 8, .t 10, .c (.bool false)]⟩ ::
 []))
(.cond (.t 11)
(.ops (⟨(some 1), none, .p .mov, [.c (.int .i64 10)]⟩ ::
 []))
.skip))
(.seq (.seq (.ops (⟨(some 12), none, .p .mov, [.t 1]⟩ ::
 ⟨(some 13), none, .p (.bin .neq), [.t 12, .c (.int .i64 0)]⟩ ::
 []))
(.cond (.t 13)
(.seq (.ops (⟨(some 14), none, .p .mov, [.t 1]⟩ ::
 ⟨(some 4), none, .p .mov, [.c (.int .i64 0)]⟩ ::
 ⟨(some 5), none, .p .mov, [.t 14]⟩ ::
 []))
.ret)
.skip))
(.seq (.ops (⟨(some 15), none, .p .mov, [.t 0]⟩ ::
 ⟨(some 4), none, .p .mov, [.t 15]⟩ ::
 ⟨(some 5), none, .p .mov, [.c (.int .i64 0)]⟩ ::
 []))
.ret))))⟩
abbrev f_ticks_told : Nat := 68
abbrev C_ticks_told : AFunc := C68
def L_delay_seen_sharers_1_0 : AC := (.seq (.ops (⟨(some 11), none, .p (.bin .lss), [.t 10, .t 9]⟩ ::
 []))
(.seq (.cond (.t 11)
.skip
(.exit 0))
(.seq (.block 1 (.seq (.ops (⟨(some 12), none, .p .mov, [.t 10]⟩ ::
 ⟨(some 13), none, .p (.iaddrS 3), [.t 8, .t 10]⟩ ::
 ⟨(some 14), none, .r (.loadN 3), [.t 13]⟩ ::
 ⟨(some 5), none, .a (.alloc [(.int .i64 0), (.int .i64 0), .nils]), []⟩ ::
 ⟨(some 4), none, .p .mov, [.t 12]⟩ ::
 ⟨none, none, .e (.store 3), [.t 5, .t 14]⟩ ::
 []))
(.seq (.ops (⟨(some 15), none, .p (.faddr 2), [.t 5]⟩ ::
 ⟨(some 16), none, .r .load1, [.t 15]⟩ ::
 ⟨(some 17), none, .p (.mkfunc (.func 70) 0), [.t 2]⟩ ::
 ⟨(some 18), none, .call, [.c (.func (.func 39) [] []), .t 16, .t 17]⟩ ::
 ⟨(some 6), none, .p .mov, [.t 18]⟩ ::
 []))
(.seq (.ops (⟨(some 19), none, .p .mov, [.t 4]⟩ ::
 ⟨(some 20), none, .p (.faddr 4), [.t 1]⟩ ::
 ⟨(some 21), none, .r .load1, [.t 20]⟩ ::
 ⟨(some 22), none, .p (.bin .neq), [.t 19, .t 21]⟩ ::
 ⟨(some 23), none, .p .mov, [.t 22]⟩ ::
 ⟨(some 24), (some (23, true)), .p .mov, [.t 6]⟩ ::
 ⟨(some 25), none, .p .pick, [.t 23, .t 24, .c (.bool false)]⟩ ::
 ⟨(some 26), none, .p .mov, [.t 25]⟩ ::
 ⟨(some 27), (some (26, true)), .p .mov, [.t 0]⟩ ::
 ⟨(some 28), (some (26, true)), .r (.loadN 3), [.t 5]⟩ ::
 ⟨(some 29), (some (26, true)), .call, [.t 27, .t 28]⟩ ::
 ⟨(some 30), (some (26, true)), .p .not, [.t 29]⟩ ::
 ⟨(some 31), none, .p .pick, [.t 26, .t 30, .c (.bool false)]⟩ ::
 []))
(.cond (.t 31)
.ret
.skip)))))
(.ops (⟨(some 32), none, .p (.bin .add), [.t 10, .c (.int .i64 1)]⟩ ::
 ⟨(some 10), none, .p .mov, [.t 32]⟩ ::
 [])))))
def C69 : AFunc := ⟨33, [],
(.seq (.ops (⟨(some 7), none, .p (.faddr 3), [.t 1]⟩ ::
 ⟨(some 8), none, .r .load1, [.t 7]⟩ ::
 ⟨(some 9), none, .p .lenS, [.t 8]⟩ ::
 ⟨(some 10), none, .p .mov, [.c (.int .i64 0)]⟩ ::
 []))
(.block 0 (.loop L_delay_seen_sharers_1_0)))⟩
abbrev f_delay_seen_sharers_1 : Nat := 69
abbrev C_delay_seen_sharers_1 : AFunc := C69
def C70 : AFunc := ⟨8, [.tmp 3],
(.seq (.ops (⟨(some 2), none, .a .box, [.t 0]⟩ ::
 ⟨(some 3), none, .p .mov, [.c (.bool false)]⟩ ::
 []))
(.seq (.ops (⟨(some 4), none, .p (.faddr 5), [.t 2]⟩ ::
 ⟨(some 5), none, .r .load1, [.t 4]⟩ ::
 ⟨(some 6), none, .r .load1, [.t 1]⟩ ::
 ⟨(some 7), none, .p (.bin .eql), [.t 5, .t 6]⟩ ::
 ⟨(some 3), none, .p .mov, [.t 7]⟩ ::
 []))
.ret))⟩
abbrev f_delay_seen_sharers_1_1 : Nat := 70
abbrev C_delay_seen_sharers_1_1 : AFunc := C70
def L_slices_Index_int_int_0 : AC := (.seq (.ops (⟨(some 9), none, .p (.bin .lss), [.t 8, .t 7]⟩ ::
 []))
(.seq (.cond (.t 9)
.skip
(.exit 0))
(.seq (.block 1 (.seq (.ops (⟨(some 10), none, .p .mov, [.t 8]⟩ ::
 ⟨(some 5), none, .p .mov, [.t 10]⟩ ::
 []))
(.seq (.ops (⟨(some 11), none, .p .mov, [.t 1]⟩ ::
 ⟨(some 12), none, .p .mov, [.t 0]⟩ ::
 ⟨(some 13), none, .p .mov, [.t 5]⟩ ::
 ⟨(some 14), none, .p (.iaddrS 1), [.t 12, .t 13]⟩ ::
 ⟨(some 15), none, .r .load1, [.t 14]⟩ ::
 ⟨(some 16), none, .p (.bin .eql), [.t 11, .t 15]⟩ ::
 []))
(.cond (.t 16)
(.seq (.ops (⟨(some 17), none, .p .mov, [.t 5]⟩ ::
 ⟨(some 4), none, .p .mov, [.t 17]⟩ ::
 []))
.ret)
.skip))))
(.ops (⟨(some 18), none, .p (.bin .add), [.t 8, .c (.int .i64 1)]⟩ ::
 ⟨(some 8), none, .p .mov, [.t 18]⟩ ::
 [])))))
def C71 : AFunc := ⟨19, [.tmp 4],
(.seq (.ops (⟨(some 4), none, .p .mov, [.c (.int .i64 0)]⟩ ::
 []))
(.seq (.seq (.ops (⟨(some 6), none, .p .mov, [.t 0]⟩ ::
 ⟨(some 7), none, .p .lenS, [.t 6]⟩ ::
 ⟨(some 8), none, .p .mov, [.c (.int .i64 0)]⟩ ::
 []))
(.block 0 (.loop L_slices_Index_int_int_0)))
(.seq (.ops (⟨(some 4), none, .p .mov, [.c (.int .i64 (-1))]⟩ ::
 []))
.ret)))⟩
abbrev f_slices_Index_int_int : Nat := 71
abbrev C_slices_Index_int_int : AFunc := C71
def L_ticks_Gcd_0 : AC := (.seq (.seq (.ops (⟨(some 11), none, .p .mov, [.t 1]⟩ ::
 ⟨(some 12), none, .p (.bin .neq), [.t 11, .c (.int .i64 0)]⟩ ::
 []))
(.cond (.t 12)
.skip
(.exit 0)))
(.block 1 (.dops (⟨(some 13), none, .p .mov, [.t 1]⟩ ::
 ⟨(some 14), none, .p .mov, [.t 0]⟩ ::
 ⟨(some 15), none, .p .mov, [.t 1]⟩ ::
 ⟨(some 16), none, .p (.bin .rem), [.t 14, .t 15]⟩ ::
 ⟨(some 0), none, .p .mov, [.t 13]⟩ ::
 ⟨(some 1), none, .p .mov, [.t 16]⟩ ::
 []) ([] :: [] :: [] :: [] :: [] :: [] :: []))))
def C72 : AFunc := ⟨18, [.tmp 4, .tmp 5],
(.seq (.ops (⟨(some 4), none, .p .mov, [.c (.int .i64 0)]⟩ ::
 ⟨(some 5), none, .p .mov, [.c (.int .i64 0)]⟩ ::
 []))
(.seq (.seq (.ops (⟨(some 6), none, .p .mov, [.t 0]⟩ ::
 ⟨(some 7), none, .p .mov, [.t 1]⟩ ::
 ⟨(some 8), none, .a (.bslice [(.int .i64 0)] 2 1 [0, 1]), [.t 6, .t 7]⟩ ::
 ⟨(some 9), none, .call, [.c (.func (.func 64) [] []), .t 8]⟩ ::
 ⟨(some 10), none, .p .not, [.t 9]⟩ ::
 []))
(.cond (.t 10)
(.seq (.ops (⟨(some 4), none, .p .mov, [.c (.int .i64 0)]⟩ ::
 ⟨(some 5), none, .p .mov, [.c (.int .i64 2)]⟩ ::
 []))
.ret)
.skip))
(.seq (.block 0 (.loop L_ticks_Gcd_0))
(.seq (.ops (⟨(some 17), none, .p .mov, [.t 0]⟩ ::
 ⟨(some 4), none, .p .mov, [.t 17]⟩ ::
 ⟨(some 5), none, .p .mov, [.c (.int .i64 0)]⟩ ::
 []))
.ret))))⟩
abbrev f_ticks_Gcd : Nat := 72
abbrev C_ticks_Gcd : AFunc := C72
def C73 : AFunc := ⟨29, [.tmp 4, .tmp 5],
(.seq (.ops (⟨(some 4), none, .p .mov, [.c (.int .i64 0)]⟩ ::
 ⟨(some 5), none, .p .mov, [.c (.int .i64 0)]⟩ ::
 []))
(.seq (.seq (.ops (⟨(some 8), none, .p .mov, [.t 0]⟩ ::
 ⟨(some 9), none, .p .mov, [.t 1]⟩ ::
 ⟨(some 10), none, .a (.bslice [(.int .i64 0)] 2 1 [0, 1]), [.t 8, .t 9]⟩ ::
 ⟨(some 11), none, .call, [.c (.func (.func 64) [] []), .t 10]⟩ ::
 ⟨(some 12), none, .p .not, [.t 11]⟩ ::
 []))
(.cond (.t 12)
(.seq (.ops (⟨(some 4), none, .p .mov, [.c (.int .i64 0)]⟩ ::
 ⟨(some 5), none, .p .mov, [.c (.int .i64 2)]⟩ ::
 []))
.ret)
.skip))
(.seq (.ops (⟨(some 14), none, .p .mov, [.t 0]⟩ ::
 ⟨(some 15), none, .p (.conv .u64), [.t 14]⟩ ::
 ⟨(some 16), none, .p .mov, [.t 1]⟩ ::
 ⟨(some 17), none, .p (.conv .u64), [.t 16]⟩ ::
 ⟨(some 18), none, .call, [.c (.func (.func 74) [] []), .t 15, .t 17]⟩ ::
 ⟨(some 13), none, .p .mov, [.t 18]⟩ ::
 ⟨(some 19), none, .p (.ext 0), [.t 13]⟩ ::
 ⟨(some 20), none, .p (.ext 1), [.t 13]⟩ ::
 ⟨(some 6), none, .p .mov, [.t 19]⟩ ::
 ⟨(some 7), none, .p .mov, [.t 20]⟩ ::
 []))
(.seq (.seq (.ops (⟨(some 21), none, .p .mov, [.t 6]⟩ ::
 ⟨(some 22), none, .p (.bin .gtr), [.t 21, .c (.int .u64 0)]⟩ ::
 ⟨(some 23), none, .p .mov, [.t 22]⟩ ::
 ⟨(some 24), (some (23, false)), .p .mov, [.t 7]⟩ ::
 ⟨(some 25), (some (23, false)), .p (.bin .gtr), [.t 24, .c (.int .u64 1099511627776)]⟩ ::
 ⟨(some 26), none, .p .pick, [.t 23, .c (.bool true), .t 25]⟩ ::
 []))
(.cond (.t 26)
(.seq (.ops (⟨(some 4), none, .p .mov, [.c (.int .i64 0)]⟩ ::
 ⟨(some 5), none, .p .mov, [.c (.int .i64 10)]⟩ ::
 []))
.ret)
.skip))
(.seq (.ops (⟨(some 27), none, .p .mov, [.t 7]⟩ ::
 ⟨(some 28), none, .p (.conv .i64), [.t 27]⟩ ::
 ⟨(some 4), none, .p .mov, [.t 28]⟩ ::
 ⟨(some 5), none, .p .mov, [.c (.int .i64 0)]⟩ ::
 []))
.ret)))))⟩
abbrev f_ticks_Mul : Nat := 73
abbrev C_ticks_Mul : AFunc := C73
def C74 : AFunc := ⟨51, [.tmp 4, .tmp 5],
(.seq (.ops (⟨(some 4), none, .p .mov, [.c (.int .u64 0)]⟩ ::
 ⟨(some 5), none, .p .mov, [.c (.int .u64 0)]⟩ ::
 []))
(.seq (.ops (⟨(some 14), none, .p .mov, [.t 0]⟩ ::
 ⟨(some 15), none, .p (.bin .and), [.t 14, .c (.int .u64 4294967295)]⟩ ::
 ⟨(some 6), none, .p .mov, [.t 15]⟩ ::
 []))
(.seq (.ops (⟨(some 16), none, .p .mov, [.t 0]⟩ ::
 ⟨(some 17), none, .p (.bin .shr), [.t 16, .c (.int .u64 32)]⟩ ::
 ⟨(some 7), none, .p .mov, [.t 17]⟩ ::
 []))
(.seq (.ops (⟨(some 18), none, .p .mov, [.t 1]⟩ ::
 ⟨(some 19), none, .p (.bin .and), [.t 18, .c (.int .u64 4294967295)]⟩ ::
 ⟨(some 8), none, .p .mov, [.t 19]⟩ ::
 []))
(.seq (.ops (⟨(some 20), none, .p .mov, [.t 1]⟩ ::
 ⟨(some 21), none, .p (.bin .shr), [.t 20, .c (.int .u64 32)]⟩ ::
 ⟨(some 9), none, .p .mov, [.t 21]⟩ ::
 []))
(.seq (.ops (⟨(some 22), none, .p .mov, [.t 6]⟩ ::
 ⟨(some 23), none, .p .mov, [.t 8]⟩ ::
 ⟨(some 24), none, .p (.bin .mul), [.t 22, .t 23]⟩ ::
 ⟨(some 10), none, .p .mov, [.t 24]⟩ ::
 []))
(.seq (.ops (⟨(some 25), none, .p .mov, [.t 7]⟩ ::
 ⟨(some 26), none, .p .mov, [.t 8]⟩ ::
 ⟨(some 27), none, .p (.bin .mul), [.t 25, .t 26]⟩ ::
 ⟨(some 28), none, .p .mov, [.t 10]⟩ ::
 ⟨(some 29), none, .p (.bin .shr), [.t 28, .c (.int .u64 32)]⟩ ::
 ⟨(some 30), none, .p (.bin .add), [.t 27, .t 29]⟩ ::
 ⟨(some 11), none, .p .mov, [.t 30]⟩ ::
 []))
(.seq (.ops (⟨(some 31), none, .p .mov, [.t 11]⟩ ::
 ⟨(some 32), none, .p (.bin .and), [.t 31, .c (.int .u64 4294967295)]⟩ ::
 ⟨(some 12), none, .p .mov, [.t 32]⟩ ::
 []))
(.seq (.ops (⟨(some 33), none, .p .mov, [.t 11]⟩ ::
 ⟨(some 34), none, .p (.bin .shr), [.t 33, .c (.int .u64 32)]⟩ ::
 ⟨(some 13), none, .p .mov, [.t 34]⟩ ::
 []))
(.seq (.ops (⟨(some 35), none, .p .mov, [.t 12]⟩ ::
 ⟨(some 36), none, .p .mov, [.t 6]⟩ ::
 ⟨(some 37), none, .p .mov, [.t 9]⟩ ::
 ⟨(some 38), none, .p (.bin .mul), [.t 36, .t 37]⟩ ::
 ⟨(some 39), none, .p (.bin .add), [.t 35, .t 38]⟩ ::
 ⟨(some 12), none, .p .mov, [.t 39]⟩ ::
 []))
(.seq (.ops (⟨(some 40), none, .p .mov, [.t 7]⟩ ::
 ⟨(some 41), none, .p .mov, [.t 9]⟩ ::
 ⟨(some 42), none, .p (.bin .mul), [.t 40, .t 41]⟩ ::
 ⟨(some 43), none, .p .mov, [.t 13]⟩ ::
 ⟨(some 44), none, .p (.bin .add), [.t 42, .t 43]⟩ ::
 ⟨(some 45), none, .p .mov, [.t 12]⟩ ::
 ⟨(some 46), none, .p (.bin .shr), [.t 45, .c (.int .u64 32)]⟩ ::
 ⟨(some 47), none, .p (.bin .add), [.t 44, .t 46]⟩ ::
 ⟨(some 4), none, .p .mov, [.t 47]⟩ ::
 []))
(.seq (.ops (⟨(some 48), none, .p .mov, [.t 0]⟩ ::
 ⟨(some 49), none, .p .mov, [.t 1]⟩ ::
 ⟨(some 50), none, .p (.bin .mul), [.t 48, .t 49]⟩ ::
 ⟨(some 5), none, .p .mov, [.t 50]⟩ ::
 []))
.ret))))))))))))⟩
abbrev f_math_bits_Mul64 : Nat := 74
abbrev C_math_bits_Mul64 : AFunc := C74
def T : Tr AFunc := (.node (.node (.node (.node (.node (.node (.node .nil (some C63) .nil) (some C31) .nil) (some C15) (.node .nil (some C47) .nil)) (some C7) (.node (.node (.node .nil (some C71) .nil) (some C39) .nil) (some C23) (.node .nil (some C55) .nil))) (some C3) (.node (.node (.node (.node .nil (some C67) .nil) (some C35) .nil) (some C19) (.node .nil (some C51) .nil)) (some C11) (.node (.node .nil (some C43) .nil) (some C27) (.node .nil (some C59) .nil)))) none (.node (.node (.node (.node (.node .nil (some C65) .nil) (some C33) .nil) (some C17) (.node .nil (some C49) .nil)) (some C9) (.node (.node (.node .nil (some C73) .nil) (some C41) .nil) (some C25) (.node .nil (some C57) .nil))) (some C5) (.node (.node (.node (.node .nil (some C69) .nil) (some C37) .nil) (some C21) (.node .nil (some C53) .nil)) (some C13) (.node (.node .nil (some C45) .nil) (some C29) (.node .nil (some C61) .nil))))) none (.node (.node (.node (.node (.node (.node .nil (some C64) .nil) (some C32) .nil) (some C16) (.node .nil (some C48) .nil)) (some C8) (.node (.node (.node .nil (some C72) .nil) (some C40) .nil) (some C24) (.node .nil (some C56) .nil))) (some C4) (.node (.node (.node (.node .nil (some C68) .nil) (some C36) .nil) (some C20) (.node .nil (some C52) .nil)) (some C12) (.node (.node .nil (some C44) .nil) (some C28) (.node .nil (some C60) .nil)))) none (.node (.node (.node (.node (.node .nil (some C66) .nil) (some C34) .nil) (some C18) (.node .nil (some C50) .nil)) (some C10) (.node (.node (.node .nil (some C74) .nil) (some C42) .nil) (some C26) (.node .nil (some C58) .nil))) (some C6) (.node (.node (.node (.node .nil (some C70) .nil) (some C38) .nil) (some C22) (.node .nil (some C54) .nil)) (some C14) (.node (.node .nil (some C46) .nil) (some C30) (.node .nil (some C62) .nil))))))
def fs (f : Nat) : Option AFunc := Tr.get T f
def ms (t : Nat) (n : String) : Option Nat := none
end Ir
end Go.Proofs.Ytbmnehpppegecaa
