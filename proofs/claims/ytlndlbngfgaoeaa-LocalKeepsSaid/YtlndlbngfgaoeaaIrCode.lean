/-
  What the program's functions are in Ads, printed by a program.
-/
import Derived.Test.YtlndlbngfgaoeaaAdsDef
set_option linter.unusedVariables false
set_option maxRecDepth 100000
namespace Go.Proofs.Ytlndlbngfgaoeaa
open Go Ads
namespace Ir
def L_escapementlaw10_LocalAll_0 : AC := (.seq (.seq (.ops (⟨(some 41), none, .p .mov, [.t 10]⟩ ::
 ⟨(some 42), none, .p (.bin .lss), [.t 41, .c (.int .i64 60)]⟩ ::
 []))
(.cond (.t 42)
.skip
(.exit 0)))
(.seq (.block 1 (.seq (.ops (⟨(some 45), none, .p .mov, [.t 2]⟩ ::
 ⟨(some 46), none, .p .mov, [.t 10]⟩ ::
 ⟨(some 47), none, .p .mov, [.t 10]⟩ ::
 ⟨(some 48), none, .p (.bin .mul), [.t 46, .t 47]⟩ ::
 ⟨(some 49), none, .p (.bin .add), [.t 45, .t 48]⟩ ::
 ⟨(some 50), none, .call, [.c (.func (.func 14) [] []), .t 49, .c (.int .i64 30000)]⟩ ::
 ⟨(some 11), none, .p .mov, [.t 50]⟩ ::
 []))
(.seq (.ops (⟨(some 52), none, .p .mov, [.t 0]⟩ ::
 ⟨(some 53), none, .p .mov, [.t 7]⟩ ::
 ⟨(some 54), none, .p .mov, [.t 11]⟩ ::
 ⟨(some 55), none, .call, [.c (.func (.func 16) [] []), .t 52, .t 53, .t 54]⟩ ::
 ⟨(some 51), none, .p .mov, [.t 55]⟩ ::
 ⟨(some 56), none, .p (.ext 0), [.t 51]⟩ ::
 ⟨(some 57), none, .p (.ext 1), [.t 51]⟩ ::
 ⟨(some 12), none, .p .mov, [.t 56]⟩ ::
 ⟨(some 13), none, .p .mov, [.t 57]⟩ ::
 []))
(.seq (.ops (⟨(some 58), none, .p .mov, [.t 13]⟩ ::
 ⟨(some 59), none, .p (.bin .neq), [.t 58, .c (.int .i64 0)]⟩ ::
 ⟨(some 60), none, .p .mov, [.t 59]⟩ ::
 ⟨(some 61), (some (60, false)), .p .mov, [.t 12]⟩ ::
 ⟨(some 62), (some (60, false)), .p (.bin .lss), [.t 61, .c (.int .i64 0)]⟩ ::
 ⟨(some 63), (some (60, false)), .p .mov, [.t 62]⟩ ::
 ⟨(some 64), (some (63, true)), .p .mov, [.t 0]⟩ ::
 ⟨(some 65), (some (63, true)), .p .mov, [.t 7]⟩ ::
 ⟨(some 66), (some (63, true)), .p (.iaddrS 3), [.t 64, .t 65]⟩ ::
 ⟨(some 67), (some (63, true)), .r (.loadN 3), [.t 66]⟩ ::
 ⟨(some 68), (some (63, true)), .p .mov, [.t 11]⟩ ::
 ⟨(some 69), (some (63, true)), .call, [.c (.func (.func 17) [] []), .t 67, .t 68]⟩ ::
 ⟨(some 70), (some (63, true)), .p (.bin .gtr), [.t 69, .c (.int .i64 0)]⟩ ::
 ⟨(some 71), (some (60, false)), .p .pick, [.t 63, .t 70, .c (.bool false)]⟩ ::
 ⟨(some 72), none, .p .pick, [.t 60, .c (.bool true), .t 71]⟩ ::
 []))
(.cond (.t 72)
(.seq (.ops (⟨(some 6), none, .p .mov, [.c (.bool false)]⟩ ::
 []))
.ret)
.skip)))))
(.ops (⟨(some 43), none, .p .mov, [.t 10]⟩ ::
 ⟨(some 44), none, .p (.bin .add), [.t 43, .c (.int .i64 1)]⟩ ::
 ⟨(some 10), none, .p .mov, [.t 44]⟩ ::
 []))))
def C3 : AFunc := ⟨74, [.tmp 6],
(.seq (.ops (⟨(some 6), none, .p .mov, [.c (.bool false)]⟩ ::
 []))
(.seq (.ops (⟨(some 14), none, .p .mov, [.t 0]⟩ ::
 ⟨(some 15), none, .call, [.c (.func (.func 12) [] []), .t 14, .c (.int .i64 4)]⟩ ::
 ⟨(some 0), none, .p .mov, [.t 15]⟩ ::
 []))
(.seq (.seq (.ops (⟨(some 16), none, .p .mov, [.t 0]⟩ ::
 ⟨(some 17), none, .p .lenS, [.t 16]⟩ ::
 ⟨(some 18), none, .p (.bin .eql), [.t 17, .c (.int .i64 0)]⟩ ::
 []))
(.cond (.t 18)
(.seq (.ops (⟨(some 19), none, .call, [.c (.func (.func 13) [] [])]⟩ ::
 ⟨(some 6), none, .p .mov, [.t 19]⟩ ::
 []))
.ret)
.skip))
(.seq (.ops (⟨(some 20), none, .p .mov, [.t 1]⟩ ::
 ⟨(some 21), none, .p .mov, [.t 0]⟩ ::
 ⟨(some 22), none, .p .lenS, [.t 21]⟩ ::
 ⟨(some 23), none, .call, [.c (.func (.func 14) [] []), .t 20, .t 22]⟩ ::
 ⟨(some 7), none, .p .mov, [.t 23]⟩ ::
 []))
(.seq (.ops (⟨(some 25), none, .p .mov, [.t 0]⟩ ::
 ⟨(some 26), none, .p .mov, [.t 7]⟩ ::
 ⟨(some 27), none, .call, [.c (.func (.func 15) [] []), .t 25, .t 26]⟩ ::
 ⟨(some 24), none, .p .mov, [.t 27]⟩ ::
 ⟨(some 28), none, .p (.ext 0), [.t 24]⟩ ::
 ⟨(some 29), none, .p (.ext 1), [.t 24]⟩ ::
 ⟨(some 8), none, .p .mov, [.t 28]⟩ ::
 ⟨(some 9), none, .p .mov, [.t 29]⟩ ::
 []))
(.seq (.seq (.ops (⟨(some 30), none, .p .mov, [.t 9]⟩ ::
 ⟨(some 31), none, .p (.bin .neq), [.t 30, .c (.int .i64 0)]⟩ ::
 []))
(.cond (.t 31)
(.seq (.ops (⟨(some 32), none, .p .mov, [.t 9]⟩ ::
 ⟨(some 33), none, .p (.bin .eql), [.t 32, .c (.int .i64 120)]⟩ ::
 ⟨(some 34), none, .p .mov, [.t 33]⟩ ::
 ⟨(some 35), (some (34, false)), .p .mov, [.t 9]⟩ ::
 ⟨(some 36), (some (34, false)), .p (.bin .eql), [.t 35, .c (.int .i64 5)]⟩ ::
 ⟨(some 37), none, .p .pick, [.t 34, .c (.bool true), .t 36]⟩ ::
 ⟨(some 38), none, .p .mov, [.t 37]⟩ ::
 ⟨(some 39), (some (38, true)), .call, [.c (.func (.func 13) [] [])]⟩ ::
 ⟨(some 40), none, .p .pick, [.t 38, .t 39, .c (.bool false)]⟩ ::
 ⟨(some 6), none, .p .mov, [.t 40]⟩ ::
 []))
.ret)
.skip))
(.seq (.seq (.ops (⟨(some 10), none, .p .mov, [.c (.int .i64 0)]⟩ ::
 []))
(.block 0 (.loop L_escapementlaw10_LocalAll_0)))
(.seq (.ops (⟨(some 73), none, .call, [.c (.func (.func 13) [] [])]⟩ ::
 ⟨(some 6), none, .p .mov, [.t 73]⟩ ::
 []))
.ret))))))))⟩
abbrev f_escapementlaw10_LocalAll : Nat := 3
abbrev C_escapementlaw10_LocalAll : AFunc := C3
def L_escapementlaw10_LocalGrows_0 : AC := (.seq (.seq (.ops (⟨(some 83), none, .p .mov, [.t 18]⟩ ::
 ⟨(some 84), none, .p (.faddr 2), [.t 13]⟩ ::
 ⟨(some 85), none, .r .load1, [.t 84]⟩ ::
 ⟨(some 86), none, .p .lenS, [.t 85]⟩ ::
 ⟨(some 87), none, .p (.bin .lss), [.t 83, .t 86]⟩ ::
 []))
(.cond (.t 87)
.skip
(.exit 0)))
(.seq (.block 1 (.seq (.ops (⟨(some 90), none, .p (.faddr 2), [.t 13]⟩ ::
 ⟨(some 91), none, .r .load1, [.t 90]⟩ ::
 ⟨(some 92), none, .p .mov, [.t 18]⟩ ::
 ⟨(some 93), none, .p (.iaddrS 8), [.t 91, .t 92]⟩ ::
 ⟨(some 94), none, .r (.loadN 8), [.t 93]⟩ ::
 ⟨(some 19), none, .a (.alloc [(.int .i64 0), (.int .i64 0), (.int .i64 0), (.int .i64 0), (.int .i64 0), (.int .i64 0), (.int .i64 0), (.int .i64 0)]), []⟩ ::
 ⟨none, none, .e (.store 8), [.t 19, .t 94]⟩ ::
 []))
(.ops (⟨(some 95), none, .p .mov, [.t 17]⟩ ::
 ⟨(some 96), none, .p (.faddr 0), [.t 19]⟩ ::
 ⟨(some 97), none, .r .load1, [.t 96]⟩ ::
 ⟨(some 98), none, .p (.faddr 1), [.t 19]⟩ ::
 ⟨(some 99), none, .r .load1, [.t 98]⟩ ::
 ⟨(some 100), none, .p (.faddr 2), [.t 19]⟩ ::
 ⟨(some 101), none, .r .load1, [.t 100]⟩ ::
 ⟨(some 102), none, .p (.bin .sub), [.t 101, .c (.int .i64 1)]⟩ ::
 ⟨(some 103), none, .p .mx, [.t 102, .c (.int .i64 1)]⟩ ::
 ⟨(some 104), none, .p (.build [(.int .i64 0), (.int .i64 0), (.int .i64 0), (.int .i64 0), (.int .i64 0), (.int .i64 0), (.int .i64 0), (.int .i64 0)] [(0, 1), (1, 1), (2, 1)]), [.t 97, .t 99, .t 103]⟩ ::
 ⟨(some 105), none, .a (.bslice [(.int .i64 0), (.int .i64 0), (.int .i64 0), (.int .i64 0), (.int .i64 0), (.int .i64 0), (.int .i64 0), (.int .i64 0)] 1 8 [0]), [.t 104]⟩ ::
 ⟨(some 106), none, .e (.append 8 64), [.t 95, .t 105]⟩ ::
 ⟨(some 17), none, .p .mov, [.t 106]⟩ ::
 []))))
(.ops (⟨(some 88), none, .p .mov, [.t 18]⟩ ::
 ⟨(some 89), none, .p (.bin .add), [.t 88, .c (.int .i64 1)]⟩ ::
 ⟨(some 18), none, .p .mov, [.t 89]⟩ ::
 []))))
def C4 : AFunc := ⟨124, [.tmp 6],
(.seq (.ops (⟨(some 4), none, .a .box, [.t 1]⟩ ::
 ⟨(some 6), none, .p .mov, [.c (.bool false)]⟩ ::
 []))
(.seq (.ops (⟨(some 22), none, .p .mov, [.t 0]⟩ ::
 ⟨(some 23), none, .call, [.c (.func (.func 12) [] []), .t 22, .c (.int .i64 3)]⟩ ::
 ⟨(some 0), none, .p .mov, [.t 23]⟩ ::
 []))
(.seq (.ops (⟨(some 24), none, .r (.loadN 3), [.t 4]⟩ ::
 ⟨(some 25), none, .a (.bslice [(.int .i64 0), (.int .i64 0), .nils] 1 3 [0]), [.t 24]⟩ ::
 ⟨(some 26), none, .call, [.c (.func (.func 12) [] []), .t 25, .c (.int .i64 1)]⟩ ::
 ⟨(some 7), none, .p .mov, [.t 26]⟩ ::
 []))
(.seq (.seq (.ops (⟨(some 27), none, .p .mov, [.t 0]⟩ ::
 ⟨(some 28), none, .p .lenS, [.t 27]⟩ ::
 ⟨(some 29), none, .p (.bin .eql), [.t 28, .c (.int .i64 0)]⟩ ::
 ⟨(some 30), none, .p .mov, [.t 29]⟩ ::
 ⟨(some 31), (some (30, false)), .p .mov, [.t 7]⟩ ::
 ⟨(some 32), (some (30, false)), .p .lenS, [.t 31]⟩ ::
 ⟨(some 33), (some (30, false)), .p (.bin .neq), [.t 32, .c (.int .i64 1)]⟩ ::
 ⟨(some 34), none, .p .pick, [.t 30, .c (.bool true), .t 33]⟩ ::
 []))
(.cond (.t 34)
(.seq (.ops (⟨(some 35), none, .call, [.c (.func (.func 13) [] [])]⟩ ::
 ⟨(some 6), none, .p .mov, [.t 35]⟩ ::
 []))
.ret)
.skip))
(.seq (.ops (⟨(some 36), none, .p .mov, [.t 2]⟩ ::
 ⟨(some 37), none, .p .mov, [.t 0]⟩ ::
 ⟨(some 38), none, .p .lenS, [.t 37]⟩ ::
 ⟨(some 39), none, .call, [.c (.func (.func 14) [] []), .t 36, .t 38]⟩ ::
 ⟨(some 8), none, .p .mov, [.t 39]⟩ ::
 []))
(.seq (.ops (⟨(some 41), none, .p .mov, [.t 0]⟩ ::
 ⟨(some 42), none, .p .mov, [.t 8]⟩ ::
 ⟨(some 43), none, .call, [.c (.func (.func 15) [] []), .t 41, .t 42]⟩ ::
 ⟨(some 40), none, .p .mov, [.t 43]⟩ ::
 ⟨(some 44), none, .p (.ext 0), [.t 40]⟩ ::
 ⟨(some 45), none, .p (.ext 1), [.t 40]⟩ ::
 ⟨(some 9), none, .p .mov, [.t 44]⟩ ::
 ⟨(some 10), none, .p .mov, [.t 45]⟩ ::
 []))
(.seq (.ops (⟨(some 47), none, .a (.bslice [(.int .i64 0), (.int .i64 0), .nils] 0 3 []), []⟩ ::
 ⟨(some 48), none, .p .mov, [.t 0]⟩ ::
 ⟨(some 49), none, .e (.append 3 40), [.t 47, .t 48]⟩ ::
 ⟨(some 50), none, .p .mov, [.t 7]⟩ ::
 ⟨(some 51), none, .e (.append 3 40), [.t 49, .t 50]⟩ ::
 ⟨(some 52), none, .p .mov, [.t 8]⟩ ::
 ⟨(some 53), none, .call, [.c (.func (.func 15) [] []), .t 51, .t 52]⟩ ::
 ⟨(some 46), none, .p .mov, [.t 53]⟩ ::
 ⟨(some 54), none, .p (.ext 0), [.t 46]⟩ ::
 ⟨(some 55), none, .p (.ext 1), [.t 46]⟩ ::
 ⟨(some 11), none, .p .mov, [.t 54]⟩ ::
 ⟨(some 12), none, .p .mov, [.t 55]⟩ ::
 []))
(.seq (.seq (.ops (⟨(some 56), none, .p .mov, [.t 10]⟩ ::
 ⟨(some 57), none, .p (.bin .neq), [.t 56, .c (.int .i64 0)]⟩ ::
 ⟨(some 58), none, .p .mov, [.t 57]⟩ ::
 ⟨(some 59), (some (58, true)), .p .mov, [.t 12]⟩ ::
 ⟨(some 60), (some (58, true)), .p (.bin .eql), [.t 59, .c (.int .i64 0)]⟩ ::
 ⟨(some 61), none, .p .pick, [.t 58, .t 60, .c (.bool false)]⟩ ::
 []))
(.cond (.t 61)
(.seq (.ops (⟨(some 6), none, .p .mov, [.c (.bool false)]⟩ ::
 []))
.ret)
.skip))
(.seq (.seq (.ops (⟨(some 62), none, .p .mov, [.t 10]⟩ ::
 ⟨(some 63), none, .p (.bin .neq), [.t 62, .c (.int .i64 0)]⟩ ::
 []))
(.cond (.t 63)
(.seq (.ops (⟨(some 64), none, .call, [.c (.func (.func 13) [] [])]⟩ ::
 ⟨(some 6), none, .p .mov, [.t 64]⟩ ::
 []))
.ret)
.skip))
(.seq (.ops (⟨(some 65), none, .p .mov, [.t 0]⟩ ::
 ⟨(some 66), none, .p .mov, [.t 8]⟩ ::
 ⟨(some 67), none, .p (.iaddrS 3), [.t 65, .t 66]⟩ ::
 ⟨(some 68), none, .r (.loadN 3), [.t 67]⟩ ::
 ⟨(some 13), none, .a (.alloc [(.int .i64 0), (.int .i64 0), .nils]), []⟩ ::
 ⟨none, none, .e (.store 3), [.t 13, .t 68]⟩ ::
 []))
(.seq (.ops (⟨(some 69), none, .p (.faddr 1), [.t 13]⟩ ::
 ⟨(some 70), none, .r .load1, [.t 69]⟩ ::
 ⟨(some 71), none, .p (.bin .add), [.t 70, .c (.int .i64 1)]⟩ ::
 ⟨(some 72), none, .p (.faddr 0), [.t 13]⟩ ::
 ⟨(some 73), none, .r .load1, [.t 72]⟩ ::
 ⟨(some 74), none, .p .mn, [.t 71, .t 73]⟩ ::
 ⟨(some 75), none, .p (.faddr 1), [.t 13]⟩ ::
 ⟨none, none, .e (.store 1), [.t 75, .t 74]⟩ ::
 []))
(.seq (.ops (⟨(some 76), none, .r (.loadN 3), [.t 13]⟩ ::
 ⟨(some 77), none, .a (.bslice [(.int .i64 0), (.int .i64 0), .nils] 1 3 [0]), [.t 76]⟩ ::
 ⟨(some 14), none, .p .mov, [.t 77]⟩ ::
 []))
(.seq (.ops (⟨(some 79), none, .p .mov, [.t 14]⟩ ::
 ⟨(some 80), none, .call, [.c (.func (.func 15) [] []), .t 79, .c (.int .i64 0)]⟩ ::
 ⟨(some 78), none, .p .mov, [.t 80]⟩ ::
 ⟨(some 81), none, .p (.ext 0), [.t 78]⟩ ::
 ⟨(some 82), none, .p (.ext 1), [.t 78]⟩ ::
 ⟨(some 15), none, .p .mov, [.t 81]⟩ ::
 ⟨(some 16), none, .p .mov, [.t 82]⟩ ::
 []))
(.seq (.ops (⟨(some 17), none, .p .mov, [.c .nils]⟩ ::
 []))
(.seq (.seq (.ops (⟨(some 18), none, .p .mov, [.c (.int .i64 0)]⟩ ::
 []))
(.block 0 (.loop L_escapementlaw10_LocalGrows_0)))
(.seq (.ops (⟨(some 107), none, .p .mov, [.t 17]⟩ ::
 ⟨(some 108), none, .p (.faddr 2), [.t 13]⟩ ::
 ⟨none, none, .e (.store 1), [.t 108, .t 107]⟩ ::
 []))
(.seq (.ops (⟨(some 110), none, .r (.loadN 3), [.t 13]⟩ ::
 ⟨(some 111), none, .a (.bslice [(.int .i64 0), (.int .i64 0), .nils] 1 3 [0]), [.t 110]⟩ ::
 ⟨(some 112), none, .call, [.c (.func (.func 15) [] []), .t 111, .c (.int .i64 0)]⟩ ::
 ⟨(some 109), none, .p .mov, [.t 112]⟩ ::
 ⟨(some 113), none, .p (.ext 0), [.t 109]⟩ ::
 ⟨(some 114), none, .p (.ext 1), [.t 109]⟩ ::
 ⟨(some 20), none, .p .mov, [.t 113]⟩ ::
 ⟨(some 21), none, .p .mov, [.t 114]⟩ ::
 []))
(.seq (.ops (⟨(some 115), none, .p .mov, [.t 16]⟩ ::
 ⟨(some 116), none, .p (.bin .eql), [.t 115, .c (.int .i64 0)]⟩ ::
 ⟨(some 117), none, .p .mov, [.t 116]⟩ ::
 ⟨(some 118), (some (117, true)), .p .mov, [.t 21]⟩ ::
 ⟨(some 119), (some (117, true)), .p (.bin .eql), [.t 118, .c (.int .i64 0)]⟩ ::
 ⟨(some 120), none, .p .pick, [.t 117, .t 119, .c (.bool false)]⟩ ::
 ⟨(some 121), none, .p .mov, [.t 120]⟩ ::
 ⟨(some 122), (some (121, true)), .call, [.c (.func (.func 13) [] [])]⟩ ::
 ⟨(some 123), none, .p .pick, [.t 121, .t 122, .c (.bool false)]⟩ ::
 ⟨(some 6), none, .p .mov, [.t 123]⟩ ::
 []))
.ret))))))))))))))))))⟩
abbrev f_escapementlaw10_LocalGrows : Nat := 4
abbrev C_escapementlaw10_LocalGrows : AFunc := C4
def L_escapementlaw10_LocalKeeps_1 : AC := (.seq (.seq (.ops (⟨(some 58), none, .p .mov, [.t 16]⟩ ::
 ⟨(some 59), none, .p .mov, [.t 12]⟩ ::
 ⟨(some 60), none, .p .lenS, [.t 59]⟩ ::
 ⟨(some 61), none, .p (.bin .lss), [.t 58, .t 60]⟩ ::
 []))
(.cond (.t 61)
.skip
(.exit 2)))
(.seq (.block 3 (.seq (.seq (.ops (⟨(some 64), none, .p .mov, [.t 12]⟩ ::
 ⟨(some 65), none, .p .mov, [.t 16]⟩ ::
 ⟨(some 66), none, .p (.iaddrS 2), [.t 64, .t 65]⟩ ::
 ⟨(some 67), none, .p (.faddr 1), [.t 66]⟩ ::
 ⟨(some 68), none, .r .load1, [.t 67]⟩ ::
 ⟨(some 69), none, .p (.bin .gtr), [.t 68, .c (.int .i64 0)]⟩ ::
 ⟨(some 70), none, .p .mov, [.t 69]⟩ ::
 ⟨(some 71), (some (70, true)), .p .mov, [.t 12]⟩ ::
 ⟨(some 72), (some (70, true)), .p .mov, [.t 16]⟩ ::
 ⟨(some 73), (some (70, true)), .p (.iaddrS 2), [.t 71, .t 72]⟩ ::
 ⟨(some 74), (some (70, true)), .p (.faddr 0), [.t 73]⟩ ::
 ⟨(some 75), (some (70, true)), .r .load1, [.t 74]⟩ ::
 ⟨(some 76), (some (70, true)), .p .mov, [.t 15]⟩ ::
 ⟨(some 77), (some (70, true)), .p (.bin .leq), [.t 75, .t 76]⟩ ::
 ⟨(some 78), none, .p .pick, [.t 70, .t 77, .c (.bool false)]⟩ ::
 []))
(.cond (.t 78)
(.seq (.ops (⟨(some 6), none, .p .mov, [.c (.bool false)]⟩ ::
 []))
.ret)
.skip))
(.seq (.ops (⟨(some 79), none, .p .mov, [.t 15]⟩ ::
 ⟨(some 80), none, .p .mov, [.t 13]⟩ ::
 ⟨(some 81), none, .p .mov, [.t 16]⟩ ::
 ⟨(some 82), none, .p (.iaddrS 1), [.t 80, .t 81]⟩ ::
 ⟨(some 83), none, .r .load1, [.t 82]⟩ ::
 ⟨(some 84), none, .p (.bin .geq), [.t 79, .t 83]⟩ ::
 []))
(.cond (.t 84)
(.seq (.dops (⟨(some 85), none, .p .mov, [.t 12]⟩ ::
 ⟨(some 86), none, .p .mov, [.t 16]⟩ ::
 ⟨(some 87), none, .p .mov, [.t 15]⟩ ::
 ⟨(some 88), none, .p (.faddr 2), [.t 8]⟩ ::
 ⟨(some 89), none, .r .load1, [.t 88]⟩ ::
 ⟨(some 90), none, .p .mov, [.t 16]⟩ ::
 ⟨(some 91), none, .p (.iaddrS 8), [.t 89, .t 90]⟩ ::
 ⟨(some 92), none, .p (.faddr 1), [.t 91]⟩ ::
 ⟨(some 93), none, .r .load1, [.t 92]⟩ ::
 ⟨(some 94), none, .p (.bin .add), [.t 87, .t 93]⟩ ::
 ⟨(some 95), none, .p (.faddr 2), [.t 8]⟩ ::
 ⟨(some 96), none, .r .load1, [.t 95]⟩ ::
 ⟨(some 97), none, .p .mov, [.t 16]⟩ ::
 ⟨(some 98), none, .p (.iaddrS 8), [.t 96, .t 97]⟩ ::
 ⟨(some 99), none, .p (.faddr 2), [.t 98]⟩ ::
 ⟨(some 100), none, .r .load1, [.t 99]⟩ ::
 ⟨(some 101), none, .p (.build [(.int .i64 0), (.int .i64 0)] [(0, 1), (1, 1)]), [.t 94, .t 100]⟩ ::
 ⟨(some 102), none, .p (.iaddrS 2), [.t 85, .t 86]⟩ ::
 ⟨none, none, .e (.store 2), [.t 102, .t 101]⟩ ::
 []) ([] :: [] :: [] :: [] :: [] :: [] :: [] :: [] :: [] :: [] :: [] :: [] :: [] :: [] :: [] :: [] :: [] :: [] :: [] :: []))
(.seq (.ops (⟨(some 103), none, .p .mov, [.t 13]⟩ ::
 ⟨(some 104), none, .p .mov, [.t 16]⟩ ::
 ⟨(some 105), none, .p .mov, [.t 15]⟩ ::
 ⟨(some 106), none, .p (.faddr 2), [.t 8]⟩ ::
 ⟨(some 107), none, .r .load1, [.t 106]⟩ ::
 ⟨(some 108), none, .p .mov, [.t 16]⟩ ::
 ⟨(some 109), none, .p (.iaddrS 8), [.t 107, .t 108]⟩ ::
 ⟨(some 110), none, .p (.faddr 0), [.t 109]⟩ ::
 ⟨(some 111), none, .r .load1, [.t 110]⟩ ::
 ⟨(some 112), none, .p (.bin .add), [.t 105, .t 111]⟩ ::
 ⟨(some 113), none, .p (.iaddrS 1), [.t 103, .t 104]⟩ ::
 ⟨none, none, .e (.store 1), [.t 113, .t 112]⟩ ::
 []))
(.seq (.seq (.ops (⟨(some 114), none, .p .mov, [.t 2]⟩ ::
 ⟨(some 115), none, .p .lenS, [.t 114]⟩ ::
 ⟨(some 116), none, .p (.bin .gtr), [.t 115, .c (.int .i64 0)]⟩ ::
 []))
(.cond (.t 116)
(.dops (⟨(some 117), none, .p .mov, [.t 13]⟩ ::
 ⟨(some 118), none, .p .mov, [.t 16]⟩ ::
 ⟨(some 119), none, .p .mov, [.t 13]⟩ ::
 ⟨(some 120), none, .p .mov, [.t 16]⟩ ::
 ⟨(some 121), none, .p (.iaddrS 1), [.t 119, .t 120]⟩ ::
 ⟨(some 122), none, .r .load1, [.t 121]⟩ ::
 ⟨(some 123), none, .p .mov, [.t 2]⟩ ::
 ⟨(some 124), none, .p .mov, [.t 14]⟩ ::
 ⟨(some 125), none, .p .mov, [.t 2]⟩ ::
 ⟨(some 126), none, .p .lenS, [.t 125]⟩ ::
 ⟨(some 127), none, .p (.bin .rem), [.t 124, .t 126]⟩ ::
 ⟨(some 128), none, .p (.iaddrS 1), [.t 123, .t 127]⟩ ::
 ⟨(some 129), none, .r .load1, [.t 128]⟩ ::
 ⟨(some 130), none, .call, [.c (.func (.func 14) [] []), .t 129, .c (.int .i64 30)]⟩ ::
 ⟨(some 131), none, .p (.bin .add), [.t 122, .t 130]⟩ ::
 ⟨(some 132), none, .p (.iaddrS 1), [.t 117, .t 118]⟩ ::
 ⟨none, none, .e (.store 1), [.t 132, .t 131]⟩ ::
 []) ([] :: [] :: [] :: [] :: [] :: [0, 14] :: [] :: [] :: [] :: [] :: [] :: [] :: [] :: [] :: [] :: [] :: [] :: []))
.skip))
(.ops (⟨(some 133), none, .p .mov, [.t 14]⟩ ::
 ⟨(some 134), none, .p (.bin .add), [.t 133, .c (.int .i64 1)]⟩ ::
 ⟨(some 14), none, .p .mov, [.t 134]⟩ ::
 [])))))
.skip))))
(.ops (⟨(some 62), none, .p .mov, [.t 16]⟩ ::
 ⟨(some 63), none, .p (.bin .add), [.t 62, .c (.int .i64 1)]⟩ ::
 ⟨(some 16), none, .p .mov, [.t 63]⟩ ::
 []))))
def L_escapementlaw10_LocalKeeps_2 : AC := (.seq (.seq (.ops (⟨(some 140), none, .p .mov, [.t 18]⟩ ::
 ⟨(some 141), none, .p .mov, [.t 12]⟩ ::
 ⟨(some 142), none, .p .lenS, [.t 141]⟩ ::
 ⟨(some 143), none, .p (.bin .lss), [.t 140, .t 142]⟩ ::
 []))
(.cond (.t 143)
.skip
(.exit 4)))
(.seq (.block 5 (.seq (.dops (⟨(some 146), none, .p .mov, [.t 12]⟩ ::
 ⟨(some 147), none, .p .mov, [.t 18]⟩ ::
 ⟨(some 148), none, .p (.iaddrS 2), [.t 146, .t 147]⟩ ::
 ⟨(some 149), none, .p (.faddr 1), [.t 148]⟩ ::
 ⟨(some 150), none, .r .load1, [.t 149]⟩ ::
 ⟨(some 151), none, .p (.bin .gtr), [.t 150, .c (.int .i64 0)]⟩ ::
 ⟨(some 152), none, .p .mov, [.t 151]⟩ ::
 ⟨(some 153), (some (152, true)), .p .mov, [.t 17]⟩ ::
 ⟨(some 154), (some (152, true)), .p (.bin .lss), [.t 153, .c (.int .i64 0)]⟩ ::
 ⟨(some 155), (some (152, true)), .p .mov, [.t 154]⟩ ::
 ⟨(some 156), (some (155, false)), .p .mov, [.t 12]⟩ ::
 ⟨(some 157), (some (155, false)), .p .mov, [.t 18]⟩ ::
 ⟨(some 158), (some (155, false)), .p (.iaddrS 2), [.t 156, .t 157]⟩ ::
 ⟨(some 159), (some (155, false)), .p (.faddr 0), [.t 158]⟩ ::
 ⟨(some 160), (some (155, false)), .r .load1, [.t 159]⟩ ::
 ⟨(some 161), (some (155, false)), .p .mov, [.t 12]⟩ ::
 ⟨(some 162), (some (155, false)), .p .mov, [.t 17]⟩ ::
 ⟨(some 163), (some (155, false)), .p (.iaddrS 2), [.t 161, .t 162]⟩ ::
 ⟨(some 164), (some (155, false)), .p (.faddr 0), [.t 163]⟩ ::
 ⟨(some 165), (some (155, false)), .r .load1, [.t 164]⟩ ::
 ⟨(some 166), (some (155, false)), .p (.bin .lss), [.t 160, .t 165]⟩ ::
 ⟨(some 167), (some (152, true)), .p .pick, [.t 155, .c (.bool true), .t 166]⟩ ::
 ⟨(some 168), none, .p .pick, [.t 152, .t 167, .c (.bool false)]⟩ ::
 []) ([] :: [] :: [] :: [] :: [] :: [] :: [] :: [] :: [] :: [] :: [] :: [] :: [] :: [] :: [] :: [] :: [] :: [] :: [] :: [] :: [] :: [] :: [] :: []))
(.cond (.t 168)
(.ops (⟨(some 169), none, .p .mov, [.t 18]⟩ ::
 ⟨(some 17), none, .p .mov, [.t 169]⟩ ::
 []))
.skip)))
(.ops (⟨(some 144), none, .p .mov, [.t 18]⟩ ::
 ⟨(some 145), none, .p (.bin .add), [.t 144, .c (.int .i64 1)]⟩ ::
 ⟨(some 18), none, .p .mov, [.t 145]⟩ ::
 []))))
def L_escapementlaw10_LocalKeeps_0 : AC := (.seq (.seq (.ops (⟨(some 54), none, .p .mov, [.t 15]⟩ ::
 ⟨(some 55), none, .p (.bin .lss), [.t 54, .c (.int .i64 400)]⟩ ::
 []))
(.cond (.t 55)
.skip
(.exit 0)))
(.seq (.block 1 (.seq (.seq (.ops (⟨(some 16), none, .p .mov, [.c (.int .i64 0)]⟩ ::
 []))
(.block 2 (.loop L_escapementlaw10_LocalKeeps_1)))
(.seq (.seq (.ops (⟨(some 135), none, .p .mov, [.t 11]⟩ ::
 ⟨(some 136), none, .p .mov, [.t 15]⟩ ::
 ⟨(some 137), none, .p (.iaddrS 1), [.t 135, .t 136]⟩ ::
 ⟨(some 138), none, .r .load1, [.t 137]⟩ ::
 ⟨(some 139), none, .p .not, [.t 138]⟩ ::
 []))
(.cond (.t 139)
(.exit 1)
.skip))
(.seq (.ops (⟨(some 17), none, .p .mov, [.c (.int .i64 (-1))]⟩ ::
 []))
(.seq (.seq (.ops (⟨(some 18), none, .p .mov, [.c (.int .i64 0)]⟩ ::
 []))
(.block 4 (.loop L_escapementlaw10_LocalKeeps_2)))
(.seq (.ops (⟨(some 170), none, .p .mov, [.t 17]⟩ ::
 ⟨(some 171), none, .p (.bin .geq), [.t 170, .c (.int .i64 0)]⟩ ::
 []))
(.cond (.t 171)
(.ops (⟨(some 172), none, .p .mov, [.t 12]⟩ ::
 ⟨(some 173), none, .p .mov, [.t 17]⟩ ::
 ⟨(some 174), none, .p .mov, [.t 12]⟩ ::
 ⟨(some 175), none, .p .mov, [.t 17]⟩ ::
 ⟨(some 176), none, .p (.iaddrS 2), [.t 174, .t 175]⟩ ::
 ⟨(some 177), none, .p (.faddr 1), [.t 176]⟩ ::
 ⟨(some 178), none, .r .load1, [.t 177]⟩ ::
 ⟨(some 179), none, .p (.bin .sub), [.t 178, .c (.int .i64 1)]⟩ ::
 ⟨(some 180), none, .p (.iaddrS 2), [.t 172, .t 173]⟩ ::
 ⟨(some 181), none, .p (.faddr 1), [.t 180]⟩ ::
 ⟨none, none, .e (.store 1), [.t 181, .t 179]⟩ ::
 []))
.skip)))))))
(.ops (⟨(some 56), none, .p .mov, [.t 15]⟩ ::
 ⟨(some 57), none, .p (.bin .add), [.t 56, .c (.int .i64 1)]⟩ ::
 ⟨(some 15), none, .p .mov, [.t 57]⟩ ::
 []))))
def C5 : AFunc := ⟨182, [.tmp 6],
(.seq (.ops (⟨(some 3), none, .a .box, [.t 0]⟩ ::
 ⟨(some 6), none, .p .mov, [.c (.bool false)]⟩ ::
 []))
(.seq (.seq (.ops (⟨(some 19), none, .call, [.c (.func (.func 13) [] [])]⟩ ::
 ⟨(some 20), none, .p .not, [.t 19]⟩ ::
 []))
(.cond (.t 20)
(.seq (.ops (⟨(some 6), none, .p .mov, [.c (.bool false)]⟩ ::
 []))
.ret)
.skip))
(.seq (.ops (⟨(some 21), none, .r (.loadN 3), [.t 3]⟩ ::
 ⟨(some 22), none, .a (.bslice [(.int .i64 0), (.int .i64 0), .nils] 1 3 [0]), [.t 21]⟩ ::
 ⟨(some 23), none, .call, [.c (.func (.func 12) [] []), .t 22, .c (.int .i64 1)]⟩ ::
 ⟨(some 7), none, .p .mov, [.t 23]⟩ ::
 []))
(.seq (.seq (.ops (⟨(some 24), none, .p .mov, [.t 7]⟩ ::
 ⟨(some 25), none, .p .lenS, [.t 24]⟩ ::
 ⟨(some 26), none, .p (.bin .neq), [.t 25, .c (.int .i64 1)]⟩ ::
 []))
(.cond (.t 26)
(.seq (.ops (⟨(some 6), none, .p .mov, [.c (.bool false)]⟩ ::
 []))
.ret)
.skip))
(.seq (.ops (⟨(some 27), none, .p .mov, [.t 7]⟩ ::
 ⟨(some 28), none, .p (.iaddrS 3), [.t 27, .c (.int .i64 0)]⟩ ::
 ⟨(some 29), none, .r (.loadN 3), [.t 28]⟩ ::
 ⟨(some 8), none, .a (.alloc [(.int .i64 0), (.int .i64 0), .nils]), []⟩ ::
 ⟨none, none, .e (.store 3), [.t 8, .t 29]⟩ ::
 []))
(.seq (.seq (.ops (⟨(some 31), none, .p .mov, [.t 7]⟩ ::
 ⟨(some 32), none, .call, [.c (.func (.func 15) [] []), .t 31, .c (.int .i64 0)]⟩ ::
 ⟨(some 30), none, .p .mov, [.t 32]⟩ ::
 ⟨(some 33), none, .p (.ext 0), [.t 30]⟩ ::
 ⟨(some 34), none, .p (.ext 1), [.t 30]⟩ ::
 ⟨(some 9), none, .p .mov, [.t 33]⟩ ::
 ⟨(some 10), none, .p .mov, [.t 34]⟩ ::
 []))
(.seq (.ops (⟨(some 35), none, .p .mov, [.t 10]⟩ ::
 ⟨(some 36), none, .p (.bin .neq), [.t 35, .c (.int .i64 0)]⟩ ::
 []))
(.cond (.t 36)
(.seq (.ops (⟨(some 37), none, .p .mov, [.t 10]⟩ ::
 ⟨(some 38), none, .p (.bin .eql), [.t 37, .c (.int .i64 120)]⟩ ::
 ⟨(some 39), none, .p .mov, [.t 38]⟩ ::
 ⟨(some 40), (some (39, false)), .p .mov, [.t 10]⟩ ::
 ⟨(some 41), (some (39, false)), .p (.bin .eql), [.t 40, .c (.int .i64 5)]⟩ ::
 ⟨(some 42), none, .p .pick, [.t 39, .c (.bool true), .t 41]⟩ ::
 ⟨(some 6), none, .p .mov, [.t 42]⟩ ::
 []))
.ret)
.skip)))
(.seq (.ops (⟨(some 43), none, .r (.loadN 3), [.t 8]⟩ ::
 ⟨(some 44), none, .p .mov, [.t 1]⟩ ::
 ⟨(some 45), none, .call, [.c (.func (.func 18) [] []), .t 43, .t 44, .c .nils]⟩ ::
 ⟨(some 11), none, .p .mov, [.t 45]⟩ ::
 []))
(.seq (.ops (⟨(some 46), none, .p (.faddr 2), [.t 8]⟩ ::
 ⟨(some 47), none, .r .load1, [.t 46]⟩ ::
 ⟨(some 48), none, .p .lenS, [.t 47]⟩ ::
 ⟨(some 49), none, .a (.mkslice [(.int .i64 0), (.int .i64 0)] 2 16), [.t 48, .t 48]⟩ ::
 ⟨(some 12), none, .p .mov, [.t 49]⟩ ::
 []))
(.seq (.ops (⟨(some 50), none, .p (.faddr 2), [.t 8]⟩ ::
 ⟨(some 51), none, .r .load1, [.t 50]⟩ ::
 ⟨(some 52), none, .p .lenS, [.t 51]⟩ ::
 ⟨(some 53), none, .a (.mkslice [(.int .i64 0)] 1 8), [.t 52, .t 52]⟩ ::
 ⟨(some 13), none, .p .mov, [.t 53]⟩ ::
 []))
(.seq (.ops (⟨(some 14), none, .p .mov, [.c (.int .i64 0)]⟩ ::
 []))
(.seq (.seq (.ops (⟨(some 15), none, .p .mov, [.c (.int .i64 0)]⟩ ::
 []))
(.block 0 (.loop L_escapementlaw10_LocalKeeps_0)))
(.seq (.ops (⟨(some 6), none, .p .mov, [.c (.bool true)]⟩ ::
 []))
.ret))))))))))))⟩
abbrev f_escapementlaw10_LocalKeeps : Nat := 5
abbrev C_escapementlaw10_LocalKeeps : AFunc := C5
def C6 : AFunc := ⟨162, [.tmp 0],
(.seq (.ops (⟨(some 0), none, .p .mov, [.c (.bool false)]⟩ ::
 []))
(.seq (.ops (⟨(some 24), none, .call, [.c (.func (.func 15) [] []), .c .nils, .c (.int .i64 0)]⟩ ::
 ⟨(some 23), none, .p .mov, [.t 24]⟩ ::
 ⟨(some 25), none, .p (.ext 0), [.t 23]⟩ ::
 ⟨(some 26), none, .p (.ext 1), [.t 23]⟩ ::
 ⟨(some 1), none, .p .mov, [.t 25]⟩ ::
 ⟨(some 2), none, .p .mov, [.t 26]⟩ ::
 []))
(.seq (.ops (⟨(some 28), none, .p (.build [(.int .i64 0), (.int .i64 0), .nils] []), []⟩ ::
 ⟨(some 29), none, .a (.bslice [(.int .i64 0), (.int .i64 0), .nils] 1 3 [0]), [.t 28]⟩ ::
 ⟨(some 30), none, .call, [.c (.func (.func 15) [] []), .t 29, .c (.int .i64 0)]⟩ ::
 ⟨(some 27), none, .p .mov, [.t 30]⟩ ::
 ⟨(some 31), none, .p (.ext 0), [.t 27]⟩ ::
 ⟨(some 32), none, .p (.ext 1), [.t 27]⟩ ::
 ⟨(some 3), none, .p .mov, [.t 31]⟩ ::
 ⟨(some 4), none, .p .mov, [.t 32]⟩ ::
 []))
(.seq (.ops (⟨(some 34), none, .call, [.c (.func (.func 19) [] []), .c .nils]⟩ ::
 ⟨(some 35), none, .call, [.c (.func (.func 15) [] []), .t 34, .c (.int .i64 0)]⟩ ::
 ⟨(some 33), none, .p .mov, [.t 35]⟩ ::
 ⟨(some 36), none, .p (.ext 0), [.t 33]⟩ ::
 ⟨(some 37), none, .p (.ext 1), [.t 33]⟩ ::
 ⟨(some 5), none, .p .mov, [.t 36]⟩ ::
 ⟨(some 6), none, .p .mov, [.t 37]⟩ ::
 []))
(.seq (.ops (⟨(some 39), none, .call, [.c (.func (.func 19) [] []), .c .nils]⟩ ::
 ⟨(some 40), none, .call, [.c (.func (.func 16) [] []), .t 39, .c (.int .i64 0), .c (.int .i64 (-1))]⟩ ::
 ⟨(some 38), none, .p .mov, [.t 40]⟩ ::
 ⟨(some 41), none, .p (.ext 0), [.t 38]⟩ ::
 ⟨(some 42), none, .p (.ext 1), [.t 38]⟩ ::
 ⟨(some 7), none, .p .mov, [.t 41]⟩ ::
 ⟨(some 8), none, .p .mov, [.t 42]⟩ ::
 []))
(.seq (.ops (⟨(some 44), none, .call, [.c (.func (.func 19) [] []), .c .nils]⟩ ::
 ⟨(some 45), none, .call, [.c (.func (.func 16) [] []), .t 44, .c (.int .i64 0), .c (.int .i64 1048576)]⟩ ::
 ⟨(some 43), none, .p .mov, [.t 45]⟩ ::
 ⟨(some 46), none, .p (.ext 0), [.t 43]⟩ ::
 ⟨(some 47), none, .p (.ext 1), [.t 43]⟩ ::
 ⟨(some 9), none, .p .mov, [.t 46]⟩ ::
 ⟨(some 10), none, .p .mov, [.t 47]⟩ ::
 []))
(.seq (.ops (⟨(some 49), none, .call, [.c (.func (.func 19) [] []), .c .nils]⟩ ::
 ⟨(some 50), none, .call, [.c (.func (.func 16) [] []), .t 49, .c (.int .i64 1), .c (.int .i64 5)]⟩ ::
 ⟨(some 48), none, .p .mov, [.t 50]⟩ ::
 ⟨(some 51), none, .p (.ext 0), [.t 48]⟩ ::
 ⟨(some 52), none, .p (.ext 1), [.t 48]⟩ ::
 ⟨(some 11), none, .p .mov, [.t 51]⟩ ::
 ⟨(some 12), none, .p .mov, [.t 52]⟩ ::
 []))
(.seq (.ops (⟨(some 53), none, .p (.build [(.int .i64 0), (.int .i64 0), (.int .i64 0), (.int .i64 0), (.int .i64 0), (.int .i64 0), (.int .i64 0), (.int .i64 0)] [(0, 1), (1, 1), (2, 1)]), [.c (.int .i64 64), .c (.int .i64 64), .c (.int .i64 64)]⟩ ::
 ⟨(some 54), none, .a (.bslice [(.int .i64 0), (.int .i64 0), (.int .i64 0), (.int .i64 0), (.int .i64 0), (.int .i64 0), (.int .i64 0), (.int .i64 0)] 1 8 [0]), [.t 53]⟩ ::
 ⟨(some 55), none, .p (.build [(.int .i64 0), (.int .i64 0), .nils] [(0, 1), (1, 1), (2, 1)]), [.c (.int .i64 64), .c (.int .i64 64), .t 54]⟩ ::
 ⟨(some 56), none, .a (.bslice [(.int .i64 0), (.int .i64 0), .nils] 1 3 [0]), [.t 55]⟩ ::
 ⟨(some 13), none, .p .mov, [.t 56]⟩ ::
 []))
(.seq (.ops (⟨(some 58), none, .p .mov, [.t 13]⟩ ::
 ⟨(some 59), none, .call, [.c (.func (.func 15) [] []), .t 58, .c (.int .i64 0)]⟩ ::
 ⟨(some 57), none, .p .mov, [.t 59]⟩ ::
 ⟨(some 60), none, .p (.ext 0), [.t 57]⟩ ::
 ⟨(some 61), none, .p (.ext 1), [.t 57]⟩ ::
 ⟨(some 14), none, .p .mov, [.t 60]⟩ ::
 ⟨(some 15), none, .p .mov, [.t 61]⟩ ::
 []))
(.seq (.ops (⟨(some 62), none, .p .mov, [.t 13]⟩ ::
 ⟨(some 63), none, .p .mov, [.t 13]⟩ ::
 ⟨(some 64), none, .p (.iaddrS 3), [.t 63, .c (.int .i64 0)]⟩ ::
 ⟨(some 65), none, .p (.faddr 2), [.t 64]⟩ ::
 ⟨(some 66), none, .r .load1, [.t 65]⟩ ::
 ⟨(some 67), none, .p (.build [(.int .i64 0), (.int .i64 0), (.int .i64 0), (.int .i64 0), (.int .i64 0), (.int .i64 0), (.int .i64 0), (.int .i64 0)] [(0, 1), (1, 1), (2, 1)]), [.c (.int .i64 63), .c (.int .i64 63), .c (.int .i64 1)]⟩ ::
 ⟨(some 68), none, .p (.build [(.int .i64 0), (.int .i64 0), (.int .i64 0), (.int .i64 0), (.int .i64 0), (.int .i64 0), (.int .i64 0), (.int .i64 0)] [(0, 1), (1, 1), (2, 1)]), [.c (.int .i64 61), .c (.int .i64 9), .c (.int .i64 1)]⟩ ::
 ⟨(some 69), none, .a (.bslice [(.int .i64 0), (.int .i64 0), (.int .i64 0), (.int .i64 0), (.int .i64 0), (.int .i64 0), (.int .i64 0), (.int .i64 0)] 2 8 [0, 1]), [.t 67, .t 68]⟩ ::
 ⟨(some 70), none, .e (.append 8 64), [.t 66, .t 69]⟩ ::
 ⟨(some 71), none, .p (.iaddrS 3), [.t 62, .c (.int .i64 0)]⟩ ::
 ⟨(some 72), none, .p (.faddr 2), [.t 71]⟩ ::
 ⟨none, none, .e (.store 1), [.t 72, .t 70]⟩ ::
 []))
(.seq (.ops (⟨(some 74), none, .p .mov, [.t 13]⟩ ::
 ⟨(some 75), none, .call, [.c (.func (.func 15) [] []), .t 74, .c (.int .i64 0)]⟩ ::
 ⟨(some 73), none, .p .mov, [.t 75]⟩ ::
 ⟨(some 76), none, .p (.ext 0), [.t 73]⟩ ::
 ⟨(some 77), none, .p (.ext 1), [.t 73]⟩ ::
 ⟨(some 16), none, .p .mov, [.t 76]⟩ ::
 ⟨(some 17), none, .p .mov, [.t 77]⟩ ::
 []))
(.seq (.ops (⟨(some 78), none, .p (.build [(.int .i64 0), (.int .i64 0), (.int .i64 0), (.int .i64 0), (.int .i64 0), (.int .i64 0), (.int .i64 0), (.int .i64 0)] [(0, 1), (1, 1), (2, 1), (5, 1), (6, 1), (7, 1)]), [.c (.int .i64 8), .c (.int .i64 8), .c (.int .i64 4), .c (.int .i64 1), .c (.int .i64 2), .c (.int .i64 2)]⟩ ::
 ⟨(some 79), none, .p (.build [(.int .i64 0), (.int .i64 0), (.int .i64 0), (.int .i64 0), (.int .i64 0), (.int .i64 0), (.int .i64 0), (.int .i64 0)] [(0, 1), (1, 1), (2, 1)]), [.c (.int .i64 8), .c (.int .i64 4), .c (.int .i64 2)]⟩ ::
 ⟨(some 80), none, .a (.bslice [(.int .i64 0), (.int .i64 0), (.int .i64 0), (.int .i64 0), (.int .i64 0), (.int .i64 0), (.int .i64 0), (.int .i64 0)] 2 8 [0, 1]), [.t 78, .t 79]⟩ ::
 ⟨(some 81), none, .p (.build [(.int .i64 0), (.int .i64 0), .nils] [(0, 1), (1, 1), (2, 1)]), [.c (.int .i64 4), .c (.int .i64 4), .t 80]⟩ ::
 ⟨(some 82), none, .a (.bslice [(.int .i64 0), (.int .i64 0), .nils] 1 3 [0]), [.t 81]⟩ ::
 ⟨(some 18), none, .p .mov, [.t 82]⟩ ::
 []))
(.seq (.ops (⟨(some 84), none, .p .mov, [.t 18]⟩ ::
 ⟨(some 85), none, .call, [.c (.func (.func 15) [] []), .t 84, .c (.int .i64 0)]⟩ ::
 ⟨(some 83), none, .p .mov, [.t 85]⟩ ::
 ⟨(some 86), none, .p (.ext 0), [.t 83]⟩ ::
 ⟨(some 87), none, .p (.ext 1), [.t 83]⟩ ::
 ⟨(some 19), none, .p .mov, [.t 86]⟩ ::
 ⟨(some 20), none, .p .mov, [.t 87]⟩ ::
 []))
(.seq (.ops (⟨(some 88), none, .p .mov, [.t 18]⟩ ::
 ⟨(some 89), none, .p (.iaddrS 3), [.t 88, .c (.int .i64 0)]⟩ ::
 ⟨(some 90), none, .p (.faddr 2), [.t 89]⟩ ::
 ⟨(some 91), none, .r .load1, [.t 90]⟩ ::
 ⟨(some 92), none, .p (.iaddrS 8), [.t 91, .c (.int .i64 1)]⟩ ::
 ⟨(some 93), none, .p (.faddr 2), [.t 92]⟩ ::
 ⟨none, none, .e (.store 1), [.t 93, .c (.int .i64 1)]⟩ ::
 []))
(.seq (.ops (⟨(some 95), none, .p .mov, [.t 18]⟩ ::
 ⟨(some 96), none, .call, [.c (.func (.func 15) [] []), .t 95, .c (.int .i64 0)]⟩ ::
 ⟨(some 94), none, .p .mov, [.t 96]⟩ ::
 ⟨(some 97), none, .p (.ext 0), [.t 94]⟩ ::
 ⟨(some 98), none, .p (.ext 1), [.t 94]⟩ ::
 ⟨(some 21), none, .p .mov, [.t 97]⟩ ::
 ⟨(some 22), none, .p .mov, [.t 98]⟩ ::
 []))
(.seq (.ops (⟨(some 99), none, .p .mov, [.c (.bool true)]⟩ ::
 ⟨(some 100), (some (99, true)), .call, [.c (.func (.func 13) [] [])]⟩ ::
 ⟨(some 101), none, .p .pick, [.t 99, .t 100, .c (.bool false)]⟩ ::
 ⟨(some 102), none, .p .mov, [.t 101]⟩ ::
 ⟨(some 103), (some (102, true)), .p .mov, [.t 2]⟩ ::
 ⟨(some 104), (some (102, true)), .p (.bin .eql), [.t 103, .c (.int .i64 9)]⟩ ::
 ⟨(some 105), none, .p .pick, [.t 102, .t 104, .c (.bool false)]⟩ ::
 ⟨(some 106), none, .p .mov, [.t 105]⟩ ::
 ⟨(some 107), (some (106, true)), .p .mov, [.t 4]⟩ ::
 ⟨(some 108), (some (106, true)), .p (.bin .eql), [.t 107, .c (.int .i64 2)]⟩ ::
 ⟨(some 109), none, .p .pick, [.t 106, .t 108, .c (.bool false)]⟩ ::
 ⟨(some 110), none, .p .mov, [.t 109]⟩ ::
 ⟨(some 111), (some (110, true)), .p .mov, [.t 5]⟩ ::
 ⟨(some 112), (some (110, true)), .p (.bin .eql), [.t 111, .c (.int .i64 0)]⟩ ::
 ⟨(some 113), none, .p .pick, [.t 110, .t 112, .c (.bool false)]⟩ ::
 ⟨(some 114), none, .p .mov, [.t 113]⟩ ::
 ⟨(some 115), (some (114, true)), .p .mov, [.t 6]⟩ ::
 ⟨(some 116), (some (114, true)), .p (.bin .eql), [.t 115, .c (.int .i64 0)]⟩ ::
 ⟨(some 117), none, .p .pick, [.t 114, .t 116, .c (.bool false)]⟩ ::
 ⟨(some 118), none, .p .mov, [.t 117]⟩ ::
 ⟨(some 119), (some (118, true)), .p .mov, [.t 8]⟩ ::
 ⟨(some 120), (some (118, true)), .p (.bin .eql), [.t 119, .c (.int .i64 2)]⟩ ::
 ⟨(some 121), none, .p .pick, [.t 118, .t 120, .c (.bool false)]⟩ ::
 ⟨(some 122), none, .p .mov, [.t 121]⟩ ::
 ⟨(some 123), (some (122, true)), .p .mov, [.t 10]⟩ ::
 ⟨(some 124), (some (122, true)), .p (.bin .eql), [.t 123, .c (.int .i64 0)]⟩ ::
 ⟨(some 125), none, .p .pick, [.t 122, .t 124, .c (.bool false)]⟩ ::
 ⟨(some 126), none, .p .mov, [.t 125]⟩ ::
 ⟨(some 127), (some (126, true)), .p .mov, [.t 9]⟩ ::
 ⟨(some 128), (some (126, true)), .p (.bin .gtr), [.t 127, .c (.int .i64 0)]⟩ ::
 ⟨(some 129), none, .p .pick, [.t 126, .t 128, .c (.bool false)]⟩ ::
 ⟨(some 130), none, .p .mov, [.t 129]⟩ ::
 ⟨(some 131), (some (130, true)), .p .mov, [.t 12]⟩ ::
 ⟨(some 132), (some (130, true)), .p (.bin .eql), [.t 131, .c (.int .i64 9)]⟩ ::
 ⟨(some 133), none, .p .pick, [.t 130, .t 132, .c (.bool false)]⟩ ::
 ⟨(some 134), none, .p .mov, [.t 133]⟩ ::
 ⟨(some 135), (some (134, true)), .p .mov, [.t 14]⟩ ::
 ⟨(some 136), (some (134, true)), .p (.bin .eql), [.t 135, .c (.int .i64 0)]⟩ ::
 ⟨(some 137), none, .p .pick, [.t 134, .t 136, .c (.bool false)]⟩ ::
 ⟨(some 138), none, .p .mov, [.t 137]⟩ ::
 ⟨(some 139), (some (138, true)), .p .mov, [.t 15]⟩ ::
 ⟨(some 140), (some (138, true)), .p (.bin .eql), [.t 139, .c (.int .i64 0)]⟩ ::
 ⟨(some 141), none, .p .pick, [.t 138, .t 140, .c (.bool false)]⟩ ::
 ⟨(some 142), none, .p .mov, [.t 141]⟩ ::
 ⟨(some 143), (some (142, true)), .p .mov, [.t 17]⟩ ::
 ⟨(some 144), (some (142, true)), .p (.bin .eql), [.t 143, .c (.int .i64 5)]⟩ ::
 ⟨(some 145), none, .p .pick, [.t 142, .t 144, .c (.bool false)]⟩ ::
 ⟨(some 146), none, .p .mov, [.t 145]⟩ ::
 ⟨(some 147), (some (146, true)), .p .mov, [.t 19]⟩ ::
 ⟨(some 148), (some (146, true)), .p (.bin .eql), [.t 147, .c (.int .i64 4)]⟩ ::
 ⟨(some 149), none, .p .pick, [.t 146, .t 148, .c (.bool false)]⟩ ::
 ⟨(some 150), none, .p .mov, [.t 149]⟩ ::
 ⟨(some 151), (some (150, true)), .p .mov, [.t 20]⟩ ::
 ⟨(some 152), (some (150, true)), .p (.bin .eql), [.t 151, .c (.int .i64 120)]⟩ ::
 ⟨(some 153), none, .p .pick, [.t 150, .t 152, .c (.bool false)]⟩ ::
 ⟨(some 154), none, .p .mov, [.t 153]⟩ ::
 ⟨(some 155), (some (154, true)), .p .mov, [.t 21]⟩ ::
 ⟨(some 156), (some (154, true)), .p (.bin .eql), [.t 155, .c (.int .i64 0)]⟩ ::
 ⟨(some 157), none, .p .pick, [.t 154, .t 156, .c (.bool false)]⟩ ::
 ⟨(some 158), none, .p .mov, [.t 157]⟩ ::
 ⟨(some 159), (some (158, true)), .p .mov, [.t 22]⟩ ::
 ⟨(some 160), (some (158, true)), .p (.bin .eql), [.t 159, .c (.int .i64 0)]⟩ ::
 ⟨(some 161), none, .p .pick, [.t 158, .t 160, .c (.bool false)]⟩ ::
 ⟨(some 0), none, .p .mov, [.t 161]⟩ ::
 []))
.ret))))))))))))))))⟩
abbrev f_escapementlaw10_LocalNames : Nat := 6
abbrev C_escapementlaw10_LocalNames : AFunc := C6
def L_escapementlaw30_TuneLeft_1 : AC := (.seq (.seq (.ops (⟨(some 82), none, .p .mov, [.t 18]⟩ ::
 ⟨(some 83), none, .p .mov, [.t 13]⟩ ::
 ⟨(some 84), none, .p .mov, [.t 17]⟩ ::
 ⟨(some 85), none, .p (.iaddrS 3), [.t 83, .t 84]⟩ ::
 ⟨(some 86), none, .p (.faddr 2), [.t 85]⟩ ::
 ⟨(some 87), none, .r .load1, [.t 86]⟩ ::
 ⟨(some 88), none, .p .lenS, [.t 87]⟩ ::
 ⟨(some 89), none, .p (.bin .lss), [.t 82, .t 88]⟩ ::
 []))
(.cond (.t 89)
.skip
(.exit 2)))
(.seq (.block 3 (.ops (⟨(some 92), none, .p .mov, [.t 13]⟩ ::
 ⟨(some 93), none, .p .mov, [.t 17]⟩ ::
 ⟨(some 94), none, .p (.iaddrS 3), [.t 92, .t 93]⟩ ::
 ⟨(some 95), none, .p (.faddr 2), [.t 94]⟩ ::
 ⟨(some 96), none, .r .load1, [.t 95]⟩ ::
 ⟨(some 97), none, .p .mov, [.t 18]⟩ ::
 ⟨(some 98), none, .p (.iaddrS 8), [.t 96, .t 97]⟩ ::
 ⟨(some 99), none, .p (.faddr 2), [.t 98]⟩ ::
 ⟨none, none, .e (.store 1), [.t 99, .c (.int .i64 99)]⟩ ::
 [])))
(.ops (⟨(some 90), none, .p .mov, [.t 18]⟩ ::
 ⟨(some 91), none, .p (.bin .add), [.t 90, .c (.int .i64 1)]⟩ ::
 ⟨(some 18), none, .p .mov, [.t 91]⟩ ::
 []))))
def L_escapementlaw30_TuneLeft_0 : AC := (.seq (.seq (.ops (⟨(some 76), none, .p .mov, [.t 17]⟩ ::
 ⟨(some 77), none, .p .mov, [.t 13]⟩ ::
 ⟨(some 78), none, .p .lenS, [.t 77]⟩ ::
 ⟨(some 79), none, .p (.bin .lss), [.t 76, .t 78]⟩ ::
 []))
(.cond (.t 79)
.skip
(.exit 0)))
(.seq (.block 1 (.seq (.ops (⟨(some 18), none, .p .mov, [.c (.int .i64 0)]⟩ ::
 []))
(.block 2 (.loop L_escapementlaw30_TuneLeft_1))))
(.ops (⟨(some 80), none, .p .mov, [.t 17]⟩ ::
 ⟨(some 81), none, .p (.bin .add), [.t 80, .c (.int .i64 1)]⟩ ::
 ⟨(some 17), none, .p .mov, [.t 81]⟩ ::
 []))))
def C7 : AFunc := ⟨106, [.tmp 4],
(.seq (.ops (⟨(some 4), none, .p .mov, [.c (.bool false)]⟩ ::
 []))
(.seq (.ops (⟨(some 19), none, .p .mov, [.t 0]⟩ ::
 ⟨(some 20), none, .call, [.c (.func (.func 20) [] []), .t 19]⟩ ::
 ⟨(some 21), none, .p .mov, [.t 0]⟩ ::
 ⟨(some 22), none, .call, [.c (.func (.func 20) [] []), .t 21]⟩ ::
 ⟨(some 5), none, .p .mov, [.t 20]⟩ ::
 ⟨(some 6), none, .p .mov, [.t 22]⟩ ::
 []))
(.seq (.ops (⟨(some 23), none, .p .mov, [.t 1]⟩ ::
 ⟨(some 24), none, .p .mov, [.t 1]⟩ ::
 ⟨(some 25), none, .p .lenS, [.t 24]⟩ ::
 ⟨(some 26), none, .p .mn, [.t 25, .c (.int .i64 8)]⟩ ::
 ⟨(some 27), none, .p (.slice 1 false true false), [.t 23, .t 26]⟩ ::
 ⟨(some 1), none, .p .mov, [.t 27]⟩ ::
 []))
(.seq (.ops (⟨(some 29), none, .p .mov, [.t 5]⟩ ::
 ⟨(some 30), none, .call, [.c (.func (.func 21) [] []), .t 29]⟩ ::
 ⟨(some 28), none, .p .mov, [.t 30]⟩ ::
 ⟨(some 31), none, .p (.ext 0), [.t 28]⟩ ::
 ⟨(some 32), none, .p (.ext 1), [.t 28]⟩ ::
 ⟨(some 33), none, .p (.ext 2), [.t 28]⟩ ::
 ⟨(some 7), none, .p .mov, [.t 31]⟩ ::
 ⟨(some 8), none, .p .mov, [.t 32]⟩ ::
 ⟨(some 9), none, .p .mov, [.t 33]⟩ ::
 []))
(.seq (.ops (⟨(some 35), none, .p .mov, [.t 6]⟩ ::
 ⟨(some 36), none, .call, [.c (.func (.func 22) [] []), .t 35]⟩ ::
 ⟨(some 34), none, .p .mov, [.t 36]⟩ ::
 ⟨(some 37), none, .p (.ext 0), [.t 34]⟩ ::
 ⟨(some 38), none, .p (.ext 1), [.t 34]⟩ ::
 ⟨(some 39), none, .p (.ext 2), [.t 34]⟩ ::
 ⟨(some 10), none, .p .mov, [.t 37]⟩ ::
 ⟨(some 11), none, .p .mov, [.t 38]⟩ ::
 ⟨(some 12), none, .p .mov, [.t 39]⟩ ::
 []))
(.seq (.ops (⟨(some 41), none, .p .mov, [.t 5]⟩ ::
 ⟨(some 42), none, .p .mov, [.t 1]⟩ ::
 ⟨(some 43), none, .call, [.c (.func (.func 23) [] []), .t 41, .t 42]⟩ ::
 ⟨(some 40), none, .p .mov, [.t 43]⟩ ::
 ⟨(some 44), none, .p (.ext 0), [.t 40]⟩ ::
 ⟨(some 45), none, .p (.ext 1), [.t 40]⟩ ::
 ⟨(some 13), none, .p .mov, [.t 44]⟩ ::
 ⟨(some 14), none, .p .mov, [.t 45]⟩ ::
 []))
(.seq (.ops (⟨(some 47), none, .p .mov, [.t 6]⟩ ::
 ⟨(some 48), none, .p .mov, [.t 1]⟩ ::
 ⟨(some 49), none, .call, [.c (.func (.func 24) [] []), .t 47, .t 48]⟩ ::
 ⟨(some 46), none, .p .mov, [.t 49]⟩ ::
 ⟨(some 50), none, .p (.ext 0), [.t 46]⟩ ::
 ⟨(some 51), none, .p (.ext 1), [.t 46]⟩ ::
 ⟨(some 15), none, .p .mov, [.t 50]⟩ ::
 ⟨(some 16), none, .p .mov, [.t 51]⟩ ::
 []))
(.seq (.seq (.ops (⟨(some 52), none, .p .mov, [.t 7]⟩ ::
 ⟨(some 53), none, .p .mov, [.t 10]⟩ ::
 ⟨(some 54), none, .p (.bin .neq), [.t 52, .t 53]⟩ ::
 ⟨(some 55), none, .p .mov, [.t 54]⟩ ::
 ⟨(some 56), (some (55, false)), .p .mov, [.t 8]⟩ ::
 ⟨(some 57), (some (55, false)), .p .mov, [.t 11]⟩ ::
 ⟨(some 58), (some (55, false)), .p (.bin .neq), [.t 56, .t 57]⟩ ::
 ⟨(some 59), none, .p .pick, [.t 55, .c (.bool true), .t 58]⟩ ::
 ⟨(some 60), none, .p .mov, [.t 59]⟩ ::
 ⟨(some 61), (some (60, false)), .p .mov, [.t 9]⟩ ::
 ⟨(some 62), (some (60, false)), .p .mov, [.t 12]⟩ ::
 ⟨(some 63), (some (60, false)), .p (.bin .neq), [.t 61, .t 62]⟩ ::
 ⟨(some 64), none, .p .pick, [.t 60, .c (.bool true), .t 63]⟩ ::
 ⟨(some 65), none, .p .mov, [.t 64]⟩ ::
 ⟨(some 66), (some (65, false)), .p .mov, [.t 13]⟩ ::
 ⟨(some 67), (some (65, false)), .p .mov, [.t 15]⟩ ::
 ⟨(some 68), (some (65, false)), .call, [.c (.func (.func 25) [] []), .t 66, .t 67]⟩ ::
 ⟨(some 69), (some (65, false)), .p .not, [.t 68]⟩ ::
 ⟨(some 70), none, .p .pick, [.t 65, .c (.bool true), .t 69]⟩ ::
 ⟨(some 71), none, .p .mov, [.t 70]⟩ ::
 ⟨(some 72), (some (71, false)), .p .mov, [.t 14]⟩ ::
 ⟨(some 73), (some (71, false)), .p .mov, [.t 16]⟩ ::
 ⟨(some 74), (some (71, false)), .p (.bin .neq), [.t 72, .t 73]⟩ ::
 ⟨(some 75), none, .p .pick, [.t 71, .c (.bool true), .t 74]⟩ ::
 []))
(.cond (.t 75)
(.seq (.ops (⟨(some 4), none, .p .mov, [.c (.bool false)]⟩ ::
 []))
.ret)
.skip))
(.seq (.seq (.ops (⟨(some 17), none, .p .mov, [.c (.int .i64 0)]⟩ ::
 []))
(.block 0 (.loop L_escapementlaw30_TuneLeft_0)))
(.seq (.ops (⟨(some 100), none, .p .mov, [.t 5]⟩ ::
 ⟨(some 101), none, .p .mov, [.t 6]⟩ ::
 ⟨(some 102), none, .call, [.c (.func (.func 25) [] []), .t 100, .t 101]⟩ ::
 ⟨(some 103), none, .p .mov, [.t 102]⟩ ::
 ⟨(some 104), (some (103, true)), .call, [.c (.func (.func 26) [] [])]⟩ ::
 ⟨(some 105), none, .p .pick, [.t 103, .t 104, .c (.bool false)]⟩ ::
 ⟨(some 4), none, .p .mov, [.t 105]⟩ ::
 []))
.ret))))))))))⟩
abbrev f_escapementlaw30_TuneLeft : Nat := 7
abbrev C_escapementlaw30_TuneLeft : AFunc := C7
def L_escapementlaw30_TuneTight_1 : AC := (.seq (.seq (.ops (⟨(some 69), none, .p .mov, [.t 6]⟩ ::
 ⟨(some 70), none, .p .mov, [.t 0]⟩ ::
 ⟨(some 71), none, .p .mov, [.t 3]⟩ ::
 ⟨(some 72), none, .p (.iaddrS 3), [.t 70, .t 71]⟩ ::
 ⟨(some 73), none, .p (.faddr 0), [.t 72]⟩ ::
 ⟨(some 74), none, .r .load1, [.t 73]⟩ ::
 ⟨(some 75), none, .p (.bin .leq), [.t 69, .t 74]⟩ ::
 ⟨(some 76), none, .p .mov, [.t 75]⟩ ::
 ⟨(some 77), (some (76, true)), .p .mov, [.t 4]⟩ ::
 ⟨(some 78), (some (76, true)), .p (.bin .eql), [.t 77, .c (.int .i64 0)]⟩ ::
 ⟨(some 79), (some (76, true)), .p .mov, [.t 78]⟩ ::
 ⟨(some 80), (some (79, false)), .p .mov, [.t 6]⟩ ::
 ⟨(some 81), (some (79, false)), .p .mov, [.t 4]⟩ ::
 ⟨(some 82), (some (79, false)), .p (.bin .leq), [.t 80, .t 81]⟩ ::
 ⟨(some 83), (some (76, true)), .p .pick, [.t 79, .c (.bool true), .t 82]⟩ ::
 ⟨(some 84), none, .p .pick, [.t 76, .t 83, .c (.bool false)]⟩ ::
 []))
(.cond (.t 84)
.skip
(.exit 2)))
(.seq (.block 3 (.seq (.ops (⟨(some 88), none, .p .mov, [.t 0]⟩ ::
 ⟨(some 89), none, .p .mov, [.t 3]⟩ ::
 ⟨(some 90), none, .p .mov, [.t 6]⟩ ::
 ⟨(some 91), none, .call, [.c (.func (.func 28) [] []), .t 88, .t 89, .t 90]⟩ ::
 ⟨(some 92), none, .p .mov, [.t 3]⟩ ::
 ⟨(some 93), none, .call, [.c (.func (.func 15) [] []), .t 91, .t 92]⟩ ::
 ⟨(some 87), none, .p .mov, [.t 93]⟩ ::
 ⟨(some 94), none, .p (.ext 0), [.t 87]⟩ ::
 ⟨(some 95), none, .p (.ext 1), [.t 87]⟩ ::
 ⟨(some 7), none, .p .mov, [.t 94]⟩ ::
 ⟨(some 8), none, .p .mov, [.t 95]⟩ ::
 []))
(.seq (.ops (⟨(some 96), none, .p .mov, [.t 8]⟩ ::
 ⟨(some 97), none, .p (.bin .eql), [.t 96, .c (.int .i64 0)]⟩ ::
 ⟨(some 98), none, .p .mov, [.t 6]⟩ ::
 ⟨(some 99), none, .p .mov, [.t 4]⟩ ::
 ⟨(some 100), none, .p (.bin .eql), [.t 98, .t 99]⟩ ::
 ⟨(some 101), none, .p (.neq .bool), [.t 97, .t 100]⟩ ::
 []))
(.cond (.t 101)
(.seq (.ops (⟨(some 2), none, .p .mov, [.c (.bool false)]⟩ ::
 []))
.ret)
.skip))))
(.ops (⟨(some 85), none, .p .mov, [.t 6]⟩ ::
 ⟨(some 86), none, .p (.bin .add), [.t 85, .c (.int .i64 1)]⟩ ::
 ⟨(some 6), none, .p .mov, [.t 86]⟩ ::
 []))))
def L_escapementlaw30_TuneTight_0 : AC := (.seq (.seq (.ops (⟨(some 13), none, .p .mov, [.t 3]⟩ ::
 ⟨(some 14), none, .p .mov, [.t 0]⟩ ::
 ⟨(some 15), none, .p .lenS, [.t 14]⟩ ::
 ⟨(some 16), none, .p (.bin .lss), [.t 13, .t 15]⟩ ::
 []))
(.cond (.t 16)
.skip
(.exit 0)))
(.seq (.block 1 (.seq (.seq (.ops (⟨(some 19), none, .p .mov, [.t 0]⟩ ::
 ⟨(some 20), none, .p .mov, [.t 3]⟩ ::
 ⟨(some 21), none, .p (.iaddrS 3), [.t 19, .t 20]⟩ ::
 ⟨(some 22), none, .p (.faddr 0), [.t 21]⟩ ::
 ⟨(some 23), none, .r .load1, [.t 22]⟩ ::
 ⟨(some 24), none, .p (.bin .lss), [.t 23, .c (.int .i64 1)]⟩ ::
 ⟨(some 25), none, .p .mov, [.t 24]⟩ ::
 ⟨(some 26), (some (25, false)), .p .mov, [.t 0]⟩ ::
 ⟨(some 27), (some (25, false)), .p .mov, [.t 3]⟩ ::
 ⟨(some 28), (some (25, false)), .p (.iaddrS 3), [.t 26, .t 27]⟩ ::
 ⟨(some 29), (some (25, false)), .p (.faddr 0), [.t 28]⟩ ::
 ⟨(some 30), (some (25, false)), .r .load1, [.t 29]⟩ ::
 ⟨(some 31), (some (25, false)), .p (.bin .gtr), [.t 30, .c (.int .i64 24)]⟩ ::
 ⟨(some 32), none, .p .pick, [.t 25, .c (.bool true), .t 31]⟩ ::
 []))
(.cond (.t 32)
(.exit 1)
.skip))
(.seq (.ops (⟨(some 34), none, .p .mov, [.t 0]⟩ ::
 ⟨(some 35), none, .p .mov, [.t 3]⟩ ::
 ⟨(some 36), none, .call, [.c (.func (.func 27) [] []), .t 34, .t 35]⟩ ::
 ⟨(some 33), none, .p .mov, [.t 36]⟩ ::
 ⟨(some 37), none, .p (.ext 0), [.t 33]⟩ ::
 ⟨(some 38), none, .p (.ext 1), [.t 33]⟩ ::
 ⟨(some 4), none, .p .mov, [.t 37]⟩ ::
 ⟨(some 5), none, .p .mov, [.t 38]⟩ ::
 []))
(.seq (.seq (.ops (⟨(some 39), none, .p .mov, [.t 5]⟩ ::
 ⟨(some 40), none, .p (.bin .neq), [.t 39, .c (.int .i64 0)]⟩ ::
 ⟨(some 41), none, .p .mov, [.t 40]⟩ ::
 ⟨(some 42), (some (41, true)), .p .mov, [.t 5]⟩ ::
 ⟨(some 43), (some (41, true)), .p (.bin .neq), [.t 42, .c (.int .i64 120)]⟩ ::
 ⟨(some 44), (some (41, true)), .p .mov, [.t 43]⟩ ::
 ⟨(some 45), (some (44, false)), .p .mov, [.t 4]⟩ ::
 ⟨(some 46), (some (44, false)), .p (.bin .neq), [.t 45, .c (.int .i64 0)]⟩ ::
 ⟨(some 47), (some (41, true)), .p .pick, [.t 44, .c (.bool true), .t 46]⟩ ::
 ⟨(some 48), none, .p .pick, [.t 41, .t 47, .c (.bool false)]⟩ ::
 ⟨(some 49), none, .p .mov, [.t 48]⟩ ::
 ⟨(some 50), (some (49, false)), .p .mov, [.t 4]⟩ ::
 ⟨(some 51), (some (49, false)), .p (.bin .lss), [.t 50, .c (.int .i64 0)]⟩ ::
 ⟨(some 52), none, .p .pick, [.t 49, .c (.bool true), .t 51]⟩ ::
 ⟨(some 53), none, .p .mov, [.t 52]⟩ ::
 ⟨(some 54), (some (53, false)), .p .mov, [.t 4]⟩ ::
 ⟨(some 55), (some (53, false)), .p .mov, [.t 0]⟩ ::
 ⟨(some 56), (some (53, false)), .p .mov, [.t 3]⟩ ::
 ⟨(some 57), (some (53, false)), .p (.iaddrS 3), [.t 55, .t 56]⟩ ::
 ⟨(some 58), (some (53, false)), .p (.faddr 0), [.t 57]⟩ ::
 ⟨(some 59), (some (53, false)), .r .load1, [.t 58]⟩ ::
 ⟨(some 60), (some (53, false)), .p (.bin .gtr), [.t 54, .t 59]⟩ ::
 ⟨(some 61), none, .p .pick, [.t 53, .c (.bool true), .t 60]⟩ ::
 ⟨(some 62), none, .p .mov, [.t 61]⟩ ::
 ⟨(some 63), (some (62, false)), .p .mov, [.t 4]⟩ ::
 ⟨(some 64), (some (62, false)), .p (.bin .eql), [.t 63, .c (.int .i64 0)]⟩ ::
 ⟨(some 65), (some (62, false)), .p .mov, [.t 5]⟩ ::
 ⟨(some 66), (some (62, false)), .p (.bin .eql), [.t 65, .c (.int .i64 0)]⟩ ::
 ⟨(some 67), (some (62, false)), .p (.eq .bool), [.t 64, .t 66]⟩ ::
 ⟨(some 68), none, .p .pick, [.t 62, .c (.bool true), .t 67]⟩ ::
 []))
(.cond (.t 68)
(.seq (.ops (⟨(some 2), none, .p .mov, [.c (.bool false)]⟩ ::
 []))
.ret)
.skip))
(.seq (.ops (⟨(some 6), none, .p .mov, [.c (.int .i64 1)]⟩ ::
 []))
(.block 2 (.loop L_escapementlaw30_TuneTight_1)))))))
(.ops (⟨(some 17), none, .p .mov, [.t 3]⟩ ::
 ⟨(some 18), none, .p (.bin .add), [.t 17, .c (.int .i64 1)]⟩ ::
 ⟨(some 3), none, .p .mov, [.t 18]⟩ ::
 []))))
def C8 : AFunc := ⟨102, [.tmp 2],
(.seq (.ops (⟨(some 2), none, .p .mov, [.c (.bool false)]⟩ ::
 []))
(.seq (.seq (.ops (⟨(some 9), none, .call, [.c (.func (.func 26) [] [])]⟩ ::
 ⟨(some 10), none, .p .not, [.t 9]⟩ ::
 []))
(.cond (.t 10)
(.seq (.ops (⟨(some 2), none, .p .mov, [.c (.bool false)]⟩ ::
 []))
.ret)
.skip))
(.seq (.ops (⟨(some 11), none, .p .mov, [.t 0]⟩ ::
 ⟨(some 12), none, .call, [.c (.func (.func 20) [] []), .t 11]⟩ ::
 ⟨(some 0), none, .p .mov, [.t 12]⟩ ::
 []))
(.seq (.seq (.ops (⟨(some 3), none, .p .mov, [.c (.int .i64 0)]⟩ ::
 []))
(.block 0 (.loop L_escapementlaw30_TuneTight_0)))
(.seq (.ops (⟨(some 2), none, .p .mov, [.c (.bool true)]⟩ ::
 []))
.ret)))))⟩
abbrev f_escapementlaw30_TuneTight : Nat := 8
abbrev C_escapementlaw30_TuneTight : AFunc := C8
def C9 : AFunc := ⟨194, [.tmp 6],
(.seq (.ops (⟨(some 5), none, .a .box, [.t 2]⟩ ::
 ⟨(some 6), none, .p .mov, [.c (.bool false)]⟩ ::
 []))
(.seq (.ops (⟨(some 24), none, .p .mov, [.t 0]⟩ ::
 ⟨(some 25), none, .call, [.c (.func (.func 20) [] []), .t 24]⟩ ::
 ⟨(some 0), none, .p .mov, [.t 25]⟩ ::
 []))
(.seq (.ops (⟨(some 27), none, .p .mov, [.t 0]⟩ ::
 ⟨(some 28), none, .call, [.c (.func (.func 21) [] []), .t 27]⟩ ::
 ⟨(some 26), none, .p .mov, [.t 28]⟩ ::
 ⟨(some 29), none, .p (.ext 0), [.t 26]⟩ ::
 ⟨(some 30), none, .p (.ext 1), [.t 26]⟩ ::
 ⟨(some 31), none, .p (.ext 2), [.t 26]⟩ ::
 ⟨(some 7), none, .p .mov, [.t 29]⟩ ::
 ⟨(some 8), none, .p .mov, [.t 30]⟩ ::
 ⟨(some 9), none, .p .mov, [.t 31]⟩ ::
 []))
(.seq (.ops (⟨(some 33), none, .p .mov, [.t 0]⟩ ::
 ⟨(some 34), none, .call, [.c (.func (.func 29) [] []), .t 33]⟩ ::
 ⟨(some 32), none, .p .mov, [.t 34]⟩ ::
 ⟨(some 35), none, .p (.ext 0), [.t 32]⟩ ::
 ⟨(some 36), none, .p (.ext 1), [.t 32]⟩ ::
 ⟨(some 37), none, .p (.ext 2), [.t 32]⟩ ::
 ⟨(some 10), none, .p .mov, [.t 35]⟩ ::
 ⟨(some 11), none, .p .mov, [.t 36]⟩ ::
 ⟨(some 12), none, .p .mov, [.t 37]⟩ ::
 []))
(.seq (.seq (.ops (⟨(some 38), none, .p .mov, [.t 12]⟩ ::
 ⟨(some 39), none, .p (.bin .neq), [.t 38, .c (.int .i64 0)]⟩ ::
 ⟨(some 40), none, .p .mov, [.t 39]⟩ ::
 ⟨(some 41), (some (40, true)), .p .mov, [.t 9]⟩ ::
 ⟨(some 42), (some (40, true)), .p .mov, [.t 12]⟩ ::
 ⟨(some 43), (some (40, true)), .p (.bin .neq), [.t 41, .t 42]⟩ ::
 ⟨(some 44), none, .p .pick, [.t 40, .t 43, .c (.bool false)]⟩ ::
 ⟨(some 45), none, .p .mov, [.t 44]⟩ ::
 ⟨(some 46), (some (45, false)), .p .mov, [.t 12]⟩ ::
 ⟨(some 47), (some (45, false)), .p (.bin .eql), [.t 46, .c (.int .i64 0)]⟩ ::
 ⟨(some 48), (some (45, false)), .p .mov, [.t 47]⟩ ::
 ⟨(some 49), (some (48, true)), .p .mov, [.t 9]⟩ ::
 ⟨(some 50), (some (48, true)), .p (.bin .eql), [.t 49, .c (.int .i64 0)]⟩ ::
 ⟨(some 51), (some (48, true)), .p .mov, [.t 10]⟩ ::
 ⟨(some 52), (some (48, true)), .p .mov, [.t 11]⟩ ::
 ⟨(some 53), (some (48, true)), .p (.bin .leq), [.t 51, .t 52]⟩ ::
 ⟨(some 54), (some (48, true)), .p (.neq .bool), [.t 50, .t 53]⟩ ::
 ⟨(some 55), (some (45, false)), .p .pick, [.t 48, .t 54, .c (.bool false)]⟩ ::
 ⟨(some 56), none, .p .pick, [.t 45, .c (.bool true), .t 55]⟩ ::
 ⟨(some 57), none, .p .mov, [.t 56]⟩ ::
 ⟨(some 58), (some (57, false)), .p .mov, [.t 9]⟩ ::
 ⟨(some 59), (some (57, false)), .p (.bin .eql), [.t 58, .c (.int .i64 0)]⟩ ::
 ⟨(some 60), (some (57, false)), .p .mov, [.t 59]⟩ ::
 ⟨(some 61), (some (60, true)), .p .mov, [.t 7]⟩ ::
 ⟨(some 62), (some (60, true)), .p .mov, [.t 11]⟩ ::
 ⟨(some 63), (some (60, true)), .p (.bin .mul), [.t 61, .t 62]⟩ ::
 ⟨(some 64), (some (60, true)), .p .mov, [.t 10]⟩ ::
 ⟨(some 65), (some (60, true)), .p .mov, [.t 8]⟩ ::
 ⟨(some 66), (some (60, true)), .p (.bin .mul), [.t 64, .t 65]⟩ ::
 ⟨(some 67), (some (60, true)), .p (.bin .add), [.t 63, .t 66]⟩ ::
 ⟨(some 68), (some (60, true)), .p .mov, [.t 11]⟩ ::
 ⟨(some 69), (some (60, true)), .p .mov, [.t 8]⟩ ::
 ⟨(some 70), (some (60, true)), .p (.bin .mul), [.t 68, .t 69]⟩ ::
 ⟨(some 71), (some (60, true)), .p (.bin .neq), [.t 67, .t 70]⟩ ::
 ⟨(some 72), (some (57, false)), .p .pick, [.t 60, .t 71, .c (.bool false)]⟩ ::
 ⟨(some 73), none, .p .pick, [.t 57, .c (.bool true), .t 72]⟩ ::
 []))
(.cond (.t 73)
(.seq (.ops (⟨(some 6), none, .p .mov, [.c (.bool false)]⟩ ::
 []))
.ret)
.skip))
(.seq (.seq (.ops (⟨(some 74), none, .p .mov, [.t 0]⟩ ::
 ⟨(some 75), none, .p .lenS, [.t 74]⟩ ::
 ⟨(some 76), none, .p (.bin .eql), [.t 75, .c (.int .i64 0)]⟩ ::
 []))
(.cond (.t 76)
(.seq (.ops (⟨(some 77), none, .call, [.c (.func (.func 26) [] [])]⟩ ::
 ⟨(some 6), none, .p .mov, [.t 77]⟩ ::
 []))
.ret)
.skip))
(.seq (.ops (⟨(some 78), none, .p .mov, [.t 1]⟩ ::
 ⟨(some 79), none, .p .mov, [.t 0]⟩ ::
 ⟨(some 80), none, .p .lenS, [.t 79]⟩ ::
 ⟨(some 81), none, .call, [.c (.func (.func 14) [] []), .t 78, .t 80]⟩ ::
 ⟨(some 13), none, .p .mov, [.t 81]⟩ ::
 []))
(.seq (.dops (⟨(some 82), none, .p (.iaddrA 1 2), [.t 5, .c (.int .i64 0)]⟩ ::
 ⟨(some 83), none, .r .load1, [.t 82]⟩ ::
 ⟨(some 84), none, .call, [.c (.func (.func 14) [] []), .t 83, .c (.int .i64 10)]⟩ ::
 ⟨(some 85), none, .p (.bin .add), [.c (.int .i64 1), .t 84]⟩ ::
 ⟨(some 86), none, .p (.iaddrA 1 2), [.t 5, .c (.int .i64 1)]⟩ ::
 ⟨(some 87), none, .r .load1, [.t 86]⟩ ::
 ⟨(some 88), none, .call, [.c (.func (.func 14) [] []), .t 87, .c (.int .i64 10)]⟩ ::
 ⟨(some 89), none, .p (.bin .add), [.c (.int .i64 1), .t 88]⟩ ::
 ⟨(some 14), none, .p .mov, [.t 85]⟩ ::
 ⟨(some 15), none, .p .mov, [.t 89]⟩ ::
 []) ([] :: [] :: [] :: [] :: [] :: [0, 3] :: [] :: [] :: [] :: [] :: []))
(.seq (.ops (⟨(some 91), none, .p .mov, [.t 0]⟩ ::
 ⟨(some 92), none, .p .mov, [.t 13]⟩ ::
 ⟨(some 93), none, .p .mov, [.t 14]⟩ ::
 ⟨(some 94), none, .p .mov, [.t 15]⟩ ::
 ⟨(some 95), none, .p .mn, [.t 93, .t 94]⟩ ::
 ⟨(some 96), none, .call, [.c (.func (.func 30) [] []), .t 91, .t 92, .t 95]⟩ ::
 ⟨(some 90), none, .p .mov, [.t 96]⟩ ::
 ⟨(some 97), none, .p (.ext 0), [.t 90]⟩ ::
 ⟨(some 98), none, .p (.ext 1), [.t 90]⟩ ::
 ⟨(some 99), none, .p (.ext 2), [.t 90]⟩ ::
 ⟨(some 16), none, .p .mov, [.t 97]⟩ ::
 ⟨(some 17), none, .p .mov, [.t 98]⟩ ::
 ⟨(some 18), none, .p .mov, [.t 99]⟩ ::
 []))
(.seq (.ops (⟨(some 101), none, .p .mov, [.t 0]⟩ ::
 ⟨(some 102), none, .p .mov, [.t 13]⟩ ::
 ⟨(some 103), none, .p .mov, [.t 14]⟩ ::
 ⟨(some 104), none, .p .mov, [.t 15]⟩ ::
 ⟨(some 105), none, .p .mx, [.t 103, .t 104]⟩ ::
 ⟨(some 106), none, .call, [.c (.func (.func 30) [] []), .t 101, .t 102, .t 105]⟩ ::
 ⟨(some 100), none, .p .mov, [.t 106]⟩ ::
 ⟨(some 107), none, .p (.ext 0), [.t 100]⟩ ::
 ⟨(some 108), none, .p (.ext 1), [.t 100]⟩ ::
 ⟨(some 109), none, .p (.ext 2), [.t 100]⟩ ::
 ⟨(some 19), none, .p .mov, [.t 107]⟩ ::
 ⟨(some 20), none, .p .mov, [.t 108]⟩ ::
 ⟨(some 21), none, .p .mov, [.t 109]⟩ ::
 []))
(.seq (.seq (.ops (⟨(some 110), none, .p .mov, [.t 18]⟩ ::
 ⟨(some 111), none, .p (.bin .eql), [.t 110, .c (.int .i64 0)]⟩ ::
 ⟨(some 112), none, .p .mov, [.t 111]⟩ ::
 ⟨(some 113), (some (112, true)), .p .mov, [.t 21]⟩ ::
 ⟨(some 114), (some (112, true)), .p (.bin .neq), [.t 113, .c (.int .i64 0)]⟩ ::
 ⟨(some 115), (some (112, true)), .p .mov, [.t 114]⟩ ::
 ⟨(some 116), (some (115, false)), .p .mov, [.t 20]⟩ ::
 ⟨(some 117), (some (115, false)), .p .mov, [.t 16]⟩ ::
 ⟨(some 118), (some (115, false)), .p (.bin .mul), [.t 116, .t 117]⟩ ::
 ⟨(some 119), (some (115, false)), .p .mov, [.t 17]⟩ ::
 ⟨(some 120), (some (115, false)), .p .mov, [.t 19]⟩ ::
 ⟨(some 121), (some (115, false)), .p (.bin .mul), [.t 119, .t 120]⟩ ::
 ⟨(some 122), (some (115, false)), .p (.bin .gtr), [.t 118, .t 121]⟩ ::
 ⟨(some 123), (some (112, true)), .p .pick, [.t 115, .c (.bool true), .t 122]⟩ ::
 ⟨(some 124), (some (112, true)), .p .mov, [.t 123]⟩ ::
 ⟨(some 125), (some (124, false)), .p .mov, [.t 16]⟩ ::
 ⟨(some 126), (some (124, false)), .p (.bin .lss), [.t 125, .c (.int .i64 1)]⟩ ::
 ⟨(some 127), (some (112, true)), .p .pick, [.t 124, .c (.bool true), .t 126]⟩ ::
 ⟨(some 128), (some (112, true)), .p .mov, [.t 127]⟩ ::
 ⟨(some 129), (some (128, false)), .p .mov, [.t 16]⟩ ::
 ⟨(some 130), (some (128, false)), .p .mov, [.t 14]⟩ ::
 ⟨(some 131), (some (128, false)), .p .mov, [.t 15]⟩ ::
 ⟨(some 132), (some (128, false)), .p .mn, [.t 130, .t 131]⟩ ::
 ⟨(some 133), (some (128, false)), .p (.bin .gtr), [.t 129, .t 132]⟩ ::
 ⟨(some 134), (some (112, true)), .p .pick, [.t 128, .c (.bool true), .t 133]⟩ ::
 ⟨(some 135), (some (112, true)), .p .mov, [.t 134]⟩ ::
 ⟨(some 136), (some (135, false)), .p .mov, [.t 17]⟩ ::
 ⟨(some 137), (some (135, false)), .p (.bin .lss), [.t 136, .c (.int .i64 1)]⟩ ::
 ⟨(some 138), (some (112, true)), .p .pick, [.t 135, .c (.bool true), .t 137]⟩ ::
 ⟨(some 139), (some (112, true)), .p .mov, [.t 138]⟩ ::
 ⟨(some 140), (some (139, false)), .p .mov, [.t 17]⟩ ::
 ⟨(some 141), (some (139, false)), .p .mov, [.t 16]⟩ ::
 ⟨(some 142), (some (139, false)), .p (.bin .gtr), [.t 140, .t 141]⟩ ::
 ⟨(some 143), (some (112, true)), .p .pick, [.t 139, .c (.bool true), .t 142]⟩ ::
 ⟨(some 144), none, .p .pick, [.t 112, .t 143, .c (.bool false)]⟩ ::
 ⟨(some 145), none, .p .mov, [.t 144]⟩ ::
 ⟨(some 146), (some (145, false)), .p .mov, [.t 21]⟩ ::
 ⟨(some 147), (some (145, false)), .p (.bin .eql), [.t 146, .c (.int .i64 0)]⟩ ::
 ⟨(some 148), (some (145, false)), .p .mov, [.t 147]⟩ ::
 ⟨(some 149), (some (148, true)), .p .mov, [.t 19]⟩ ::
 ⟨(some 150), (some (148, true)), .p (.bin .lss), [.t 149, .c (.int .i64 1)]⟩ ::
 ⟨(some 151), (some (148, true)), .p .mov, [.t 150]⟩ ::
 ⟨(some 152), (some (151, false)), .p .mov, [.t 20]⟩ ::
 ⟨(some 153), (some (151, false)), .p (.bin .lss), [.t 152, .c (.int .i64 1)]⟩ ::
 ⟨(some 154), (some (148, true)), .p .pick, [.t 151, .c (.bool true), .t 153]⟩ ::
 ⟨(some 155), (some (148, true)), .p .mov, [.t 154]⟩ ::
 ⟨(some 156), (some (155, false)), .p .mov, [.t 20]⟩ ::
 ⟨(some 157), (some (155, false)), .p .mov, [.t 19]⟩ ::
 ⟨(some 158), (some (155, false)), .p (.bin .gtr), [.t 156, .t 157]⟩ ::
 ⟨(some 159), (some (148, true)), .p .pick, [.t 155, .c (.bool true), .t 158]⟩ ::
 ⟨(some 160), (some (145, false)), .p .pick, [.t 148, .t 159, .c (.bool false)]⟩ ::
 ⟨(some 161), none, .p .pick, [.t 145, .c (.bool true), .t 160]⟩ ::
 []))
(.cond (.t 161)
(.seq (.ops (⟨(some 6), none, .p .mov, [.c (.bool false)]⟩ ::
 []))
.ret)
.skip))
(.seq (.seq (.ops (⟨(some 162), none, .p .mov, [.t 18]⟩ ::
 ⟨(some 163), none, .p (.bin .neq), [.t 162, .c (.int .i64 0)]⟩ ::
 []))
(.cond (.t 163)
(.seq (.ops (⟨(some 164), none, .p .mov, [.t 16]⟩ ::
 ⟨(some 165), none, .p (.bin .eql), [.t 164, .c (.int .i64 0)]⟩ ::
 ⟨(some 166), none, .p .mov, [.t 165]⟩ ::
 ⟨(some 167), (some (166, true)), .p .mov, [.t 17]⟩ ::
 ⟨(some 168), (some (166, true)), .p (.bin .eql), [.t 167, .c (.int .i64 0)]⟩ ::
 ⟨(some 169), none, .p .pick, [.t 166, .t 168, .c (.bool false)]⟩ ::
 ⟨(some 170), none, .p .mov, [.t 169]⟩ ::
 ⟨(some 171), (some (170, true)), .call, [.c (.func (.func 26) [] [])]⟩ ::
 ⟨(some 172), none, .p .pick, [.t 170, .t 171, .c (.bool false)]⟩ ::
 ⟨(some 6), none, .p .mov, [.t 172]⟩ ::
 []))
.ret)
.skip))
(.seq (.ops (⟨(some 173), none, .p .mov, [.t 0]⟩ ::
 ⟨(some 174), none, .p .mov, [.t 13]⟩ ::
 ⟨(some 175), none, .p .mov, [.t 16]⟩ ::
 ⟨(some 176), none, .p (.iaddrS 3), [.t 173, .t 174]⟩ ::
 ⟨(some 177), none, .p (.faddr 0), [.t 176]⟩ ::
 ⟨none, none, .e (.store 1), [.t 177, .t 175]⟩ ::
 []))
(.seq (.ops (⟨(some 179), none, .p .mov, [.t 0]⟩ ::
 ⟨(some 180), none, .p .mov, [.t 13]⟩ ::
 ⟨(some 181), none, .call, [.c (.func (.func 27) [] []), .t 179, .t 180]⟩ ::
 ⟨(some 178), none, .p .mov, [.t 181]⟩ ::
 ⟨(some 182), none, .p (.ext 0), [.t 178]⟩ ::
 ⟨(some 183), none, .p (.ext 1), [.t 178]⟩ ::
 ⟨(some 22), none, .p .mov, [.t 182]⟩ ::
 ⟨(some 23), none, .p .mov, [.t 183]⟩ ::
 []))
(.seq (.ops (⟨(some 184), none, .p .mov, [.t 22]⟩ ::
 ⟨(some 185), none, .p .mov, [.t 17]⟩ ::
 ⟨(some 186), none, .p (.bin .eql), [.t 184, .t 185]⟩ ::
 ⟨(some 187), none, .p .mov, [.t 186]⟩ ::
 ⟨(some 188), (some (187, true)), .p .mov, [.t 23]⟩ ::
 ⟨(some 189), (some (187, true)), .p (.bin .eql), [.t 188, .c (.int .i64 0)]⟩ ::
 ⟨(some 190), none, .p .pick, [.t 187, .t 189, .c (.bool false)]⟩ ::
 ⟨(some 191), none, .p .mov, [.t 190]⟩ ::
 ⟨(some 192), (some (191, true)), .call, [.c (.func (.func 26) [] [])]⟩ ::
 ⟨(some 193), none, .p .pick, [.t 191, .t 192, .c (.bool false)]⟩ ::
 ⟨(some 6), none, .p .mov, [.t 193]⟩ ::
 []))
.ret)))))))))))))))⟩
abbrev f_escapementlaw30_TuneShares : Nat := 9
abbrev C_escapementlaw30_TuneShares : AFunc := C9
def C10 : AFunc := ⟨213, [.tmp 0],
(.seq (.ops (⟨(some 0), none, .p .mov, [.c (.bool false)]⟩ ::
 []))
(.seq (.ops (⟨(some 39), none, .call, [.c (.func (.func 31) [] []), .c .nils]⟩ ::
 ⟨(some 38), none, .p .mov, [.t 39]⟩ ::
 ⟨(some 40), none, .p (.ext 0), [.t 38]⟩ ::
 ⟨(some 41), none, .p (.ext 1), [.t 38]⟩ ::
 ⟨(some 1), none, .p .mov, [.t 40]⟩ ::
 ⟨(some 2), none, .p .mov, [.t 41]⟩ ::
 []))
(.seq (.ops (⟨(some 43), none, .a (.mkslice [(.int .i64 0), (.int .i64 0), .nils] 3 40), [.c (.int .i64 5), .c (.int .i64 5)]⟩ ::
 ⟨(some 44), none, .call, [.c (.func (.func 31) [] []), .t 43]⟩ ::
 ⟨(some 42), none, .p .mov, [.t 44]⟩ ::
 ⟨(some 45), none, .p (.ext 0), [.t 42]⟩ ::
 ⟨(some 46), none, .p (.ext 1), [.t 42]⟩ ::
 ⟨(some 3), none, .p .mov, [.t 45]⟩ ::
 ⟨(some 4), none, .p .mov, [.t 46]⟩ ::
 []))
(.seq (.ops (⟨(some 48), none, .call, [.c (.func (.func 27) [] []), .c .nils, .c (.int .i64 0)]⟩ ::
 ⟨(some 47), none, .p .mov, [.t 48]⟩ ::
 ⟨(some 49), none, .p (.ext 0), [.t 47]⟩ ::
 ⟨(some 50), none, .p (.ext 1), [.t 47]⟩ ::
 ⟨(some 5), none, .p .mov, [.t 49]⟩ ::
 ⟨(some 6), none, .p .mov, [.t 50]⟩ ::
 []))
(.seq (.ops (⟨(some 52), none, .call, [.c (.func (.func 32) [] []), .c (.int .i64 1), .c (.int .i64 1)]⟩ ::
 ⟨(some 53), none, .call, [.c (.func (.func 27) [] []), .t 52, .c (.int .i64 (-1))]⟩ ::
 ⟨(some 51), none, .p .mov, [.t 53]⟩ ::
 ⟨(some 54), none, .p (.ext 0), [.t 51]⟩ ::
 ⟨(some 55), none, .p (.ext 1), [.t 51]⟩ ::
 ⟨(some 7), none, .p .mov, [.t 54]⟩ ::
 ⟨(some 8), none, .p .mov, [.t 55]⟩ ::
 []))
(.seq (.ops (⟨(some 57), none, .call, [.c (.func (.func 32) [] []), .c (.int .i64 1), .c (.int .i64 1)]⟩ ::
 ⟨(some 58), none, .call, [.c (.func (.func 30) [] []), .t 57, .c (.int .i64 2), .c (.int .i64 4)]⟩ ::
 ⟨(some 56), none, .p .mov, [.t 58]⟩ ::
 ⟨(some 59), none, .p (.ext 0), [.t 56]⟩ ::
 ⟨(some 60), none, .p (.ext 1), [.t 56]⟩ ::
 ⟨(some 61), none, .p (.ext 2), [.t 56]⟩ ::
 ⟨(some 9), none, .p .mov, [.t 59]⟩ ::
 ⟨(some 10), none, .p .mov, [.t 60]⟩ ::
 ⟨(some 11), none, .p .mov, [.t 61]⟩ ::
 []))
(.seq (.ops (⟨(some 63), none, .call, [.c (.func (.func 32) [] []), .c (.int .i64 1), .c (.int .i64 1)]⟩ ::
 ⟨(some 64), none, .call, [.c (.func (.func 30) [] []), .t 63, .c (.int .i64 0), .c (.int .i64 0)]⟩ ::
 ⟨(some 62), none, .p .mov, [.t 64]⟩ ::
 ⟨(some 65), none, .p (.ext 0), [.t 62]⟩ ::
 ⟨(some 66), none, .p (.ext 1), [.t 62]⟩ ::
 ⟨(some 67), none, .p (.ext 2), [.t 62]⟩ ::
 ⟨(some 12), none, .p .mov, [.t 65]⟩ ::
 ⟨(some 13), none, .p .mov, [.t 66]⟩ ::
 ⟨(some 14), none, .p .mov, [.t 67]⟩ ::
 []))
(.seq (.ops (⟨(some 69), none, .call, [.c (.func (.func 32) [] []), .c (.int .i64 1), .c (.int .i64 1)]⟩ ::
 ⟨(some 70), none, .call, [.c (.func (.func 30) [] []), .t 69, .c (.int .i64 0), .c (.int .i64 65)]⟩ ::
 ⟨(some 68), none, .p .mov, [.t 70]⟩ ::
 ⟨(some 71), none, .p (.ext 0), [.t 68]⟩ ::
 ⟨(some 72), none, .p (.ext 1), [.t 68]⟩ ::
 ⟨(some 73), none, .p (.ext 2), [.t 68]⟩ ::
 ⟨(some 15), none, .p .mov, [.t 71]⟩ ::
 ⟨(some 16), none, .p .mov, [.t 72]⟩ ::
 ⟨(some 17), none, .p .mov, [.t 73]⟩ ::
 []))
(.seq (.ops (⟨(some 75), none, .p (.build [(.int .i64 0), (.int .i64 0), .nils] [(0, 1)]), [.c (.int .i64 7)]⟩ ::
 ⟨(some 76), none, .a (.bslice [(.int .i64 0), (.int .i64 0), .nils] 1 3 [0]), [.t 75]⟩ ::
 ⟨(some 77), none, .call, [.c (.func (.func 27) [] []), .t 76, .c (.int .i64 0)]⟩ ::
 ⟨(some 74), none, .p .mov, [.t 77]⟩ ::
 ⟨(some 78), none, .p (.ext 0), [.t 74]⟩ ::
 ⟨(some 79), none, .p (.ext 1), [.t 74]⟩ ::
 ⟨(some 18), none, .p .mov, [.t 78]⟩ ::
 ⟨(some 19), none, .p .mov, [.t 79]⟩ ::
 []))
(.seq (.ops (⟨(some 81), none, .p (.build [(.int .i64 0), (.int .i64 0), .nils] [(0, 1)]), [.c (.int .i64 0)]⟩ ::
 ⟨(some 82), none, .a (.bslice [(.int .i64 0), (.int .i64 0), .nils] 1 3 [0]), [.t 81]⟩ ::
 ⟨(some 83), none, .call, [.c (.func (.func 27) [] []), .t 82, .c (.int .i64 0)]⟩ ::
 ⟨(some 80), none, .p .mov, [.t 83]⟩ ::
 ⟨(some 84), none, .p (.ext 0), [.t 80]⟩ ::
 ⟨(some 85), none, .p (.ext 1), [.t 80]⟩ ::
 ⟨(some 20), none, .p .mov, [.t 84]⟩ ::
 ⟨(some 21), none, .p .mov, [.t 85]⟩ ::
 []))
(.seq (.ops (⟨(some 87), none, .p (.build [(.int .i64 0), (.int .i64 0), .nils] [(0, 1)]), [.c (.int .i64 65)]⟩ ::
 ⟨(some 88), none, .a (.bslice [(.int .i64 0), (.int .i64 0), .nils] 1 3 [0]), [.t 87]⟩ ::
 ⟨(some 89), none, .call, [.c (.func (.func 27) [] []), .t 88, .c (.int .i64 0)]⟩ ::
 ⟨(some 86), none, .p .mov, [.t 89]⟩ ::
 ⟨(some 90), none, .p (.ext 0), [.t 86]⟩ ::
 ⟨(some 91), none, .p (.ext 1), [.t 86]⟩ ::
 ⟨(some 22), none, .p .mov, [.t 90]⟩ ::
 ⟨(some 23), none, .p .mov, [.t 91]⟩ ::
 []))
(.seq (.ops (⟨(some 92), none, .p (.build [(.int .i64 0), (.int .i64 0), (.int .i64 0), (.int .i64 0), (.int .i64 0), (.int .i64 0), (.int .i64 0), (.int .i64 0)] [(0, 1), (1, 1), (2, 1)]), [.c (.int .i64 8), .c (.int .i64 2), .c (.int .i64 2)]⟩ ::
 ⟨(some 93), none, .p (.build [(.int .i64 0), (.int .i64 0), (.int .i64 0), (.int .i64 0), (.int .i64 0), (.int .i64 0), (.int .i64 0), (.int .i64 0)] [(0, 1), (1, 1), (2, 1)]), [.c (.int .i64 8), .c (.int .i64 2), .c (.int .i64 2)]⟩ ::
 ⟨(some 94), none, .a (.bslice [(.int .i64 0), (.int .i64 0), (.int .i64 0), (.int .i64 0), (.int .i64 0), (.int .i64 0), (.int .i64 0), (.int .i64 0)] 2 8 [0, 1]), [.t 92, .t 93]⟩ ::
 ⟨(some 95), none, .p (.build [(.int .i64 0), (.int .i64 0), .nils] [(0, 1), (2, 1)]), [.c (.int .i64 4), .t 94]⟩ ::
 ⟨(some 96), none, .a (.bslice [(.int .i64 0), (.int .i64 0), .nils] 1 3 [0]), [.t 95]⟩ ::
 ⟨(some 24), none, .p .mov, [.t 96]⟩ ::
 []))
(.seq (.ops (⟨(some 98), none, .p .mov, [.t 24]⟩ ::
 ⟨(some 99), none, .call, [.c (.func (.func 27) [] []), .t 98, .c (.int .i64 0)]⟩ ::
 ⟨(some 97), none, .p .mov, [.t 99]⟩ ::
 ⟨(some 100), none, .p (.ext 0), [.t 97]⟩ ::
 ⟨(some 101), none, .p (.ext 1), [.t 97]⟩ ::
 ⟨(some 25), none, .p .mov, [.t 100]⟩ ::
 ⟨(some 26), none, .p .mov, [.t 101]⟩ ::
 []))
(.seq (.ops (⟨(some 103), none, .call, [.c (.func (.func 21) [] []), .c .nils]⟩ ::
 ⟨(some 102), none, .p .mov, [.t 103]⟩ ::
 ⟨(some 104), none, .p (.ext 0), [.t 102]⟩ ::
 ⟨(some 105), none, .p (.ext 1), [.t 102]⟩ ::
 ⟨(some 106), none, .p (.ext 2), [.t 102]⟩ ::
 ⟨(some 27), none, .p .mov, [.t 104]⟩ ::
 ⟨(some 28), none, .p .mov, [.t 105]⟩ ::
 ⟨(some 29), none, .p .mov, [.t 106]⟩ ::
 []))
(.seq (.ops (⟨(some 108), none, .p (.build [(.int .i64 0), (.int .i64 0), .nils] [(0, 1), (1, 1)]), [.c (.int .i64 3), .c (.int .i64 3)]⟩ ::
 ⟨(some 109), none, .a (.bslice [(.int .i64 0), (.int .i64 0), .nils] 1 3 [0]), [.t 108]⟩ ::
 ⟨(some 110), none, .call, [.c (.func (.func 21) [] []), .t 109]⟩ ::
 ⟨(some 107), none, .p .mov, [.t 110]⟩ ::
 ⟨(some 111), none, .p (.ext 0), [.t 107]⟩ ::
 ⟨(some 112), none, .p (.ext 1), [.t 107]⟩ ::
 ⟨(some 113), none, .p (.ext 2), [.t 107]⟩ ::
 ⟨(some 30), none, .p .mov, [.t 111]⟩ ::
 ⟨(some 31), none, .p .mov, [.t 112]⟩ ::
 ⟨(some 32), none, .p .mov, [.t 113]⟩ ::
 []))
(.seq (.ops (⟨(some 115), none, .p (.build [(.int .i64 0), (.int .i64 0), .nils] [(0, 1)]), [.c (.int .i64 3)]⟩ ::
 ⟨(some 116), none, .a (.bslice [(.int .i64 0), (.int .i64 0), .nils] 1 3 [0]), [.t 115]⟩ ::
 ⟨(some 117), none, .call, [.c (.func (.func 21) [] []), .t 116]⟩ ::
 ⟨(some 114), none, .p .mov, [.t 117]⟩ ::
 ⟨(some 118), none, .p (.ext 0), [.t 114]⟩ ::
 ⟨(some 119), none, .p (.ext 1), [.t 114]⟩ ::
 ⟨(some 120), none, .p (.ext 2), [.t 114]⟩ ::
 ⟨(some 33), none, .p .mov, [.t 118]⟩ ::
 ⟨(some 34), none, .p .mov, [.t 119]⟩ ::
 ⟨(some 35), none, .p .mov, [.t 120]⟩ ::
 []))
(.seq (.ops (⟨(some 122), none, .call, [.c (.func (.func 23) [] []), .c .nils, .c .nils]⟩ ::
 ⟨(some 121), none, .p .mov, [.t 122]⟩ ::
 ⟨(some 123), none, .p (.ext 0), [.t 121]⟩ ::
 ⟨(some 124), none, .p (.ext 1), [.t 121]⟩ ::
 ⟨(some 36), none, .p .mov, [.t 123]⟩ ::
 ⟨(some 37), none, .p .mov, [.t 124]⟩ ::
 []))
(.seq (.ops (⟨(some 125), none, .p .mov, [.c (.bool true)]⟩ ::
 ⟨(some 126), (some (125, true)), .call, [.c (.func (.func 26) [] [])]⟩ ::
 ⟨(some 127), none, .p .pick, [.t 125, .t 126, .c (.bool false)]⟩ ::
 ⟨(some 128), none, .p .mov, [.t 127]⟩ ::
 ⟨(some 129), (some (128, true)), .p .mov, [.t 2]⟩ ::
 ⟨(some 130), (some (128, true)), .p (.bin .eql), [.t 129, .c (.int .i64 2)]⟩ ::
 ⟨(some 131), none, .p .pick, [.t 128, .t 130, .c (.bool false)]⟩ ::
 ⟨(some 132), none, .p .mov, [.t 131]⟩ ::
 ⟨(some 133), (some (132, true)), .p .mov, [.t 4]⟩ ::
 ⟨(some 134), (some (132, true)), .p (.bin .eql), [.t 133, .c (.int .i64 2)]⟩ ::
 ⟨(some 135), none, .p .pick, [.t 132, .t 134, .c (.bool false)]⟩ ::
 ⟨(some 136), none, .p .mov, [.t 135]⟩ ::
 ⟨(some 137), (some (136, true)), .p .mov, [.t 6]⟩ ::
 ⟨(some 138), (some (136, true)), .p (.bin .eql), [.t 137, .c (.int .i64 9)]⟩ ::
 ⟨(some 139), none, .p .pick, [.t 136, .t 138, .c (.bool false)]⟩ ::
 ⟨(some 140), none, .p .mov, [.t 139]⟩ ::
 ⟨(some 141), (some (140, true)), .p .mov, [.t 8]⟩ ::
 ⟨(some 142), (some (140, true)), .p (.bin .eql), [.t 141, .c (.int .i64 9)]⟩ ::
 ⟨(some 143), none, .p .pick, [.t 140, .t 142, .c (.bool false)]⟩ ::
 ⟨(some 144), none, .p .mov, [.t 143]⟩ ::
 ⟨(some 145), (some (144, true)), .p .mov, [.t 11]⟩ ::
 ⟨(some 146), (some (144, true)), .p (.bin .eql), [.t 145, .c (.int .i64 9)]⟩ ::
 ⟨(some 147), none, .p .pick, [.t 144, .t 146, .c (.bool false)]⟩ ::
 ⟨(some 148), none, .p .mov, [.t 147]⟩ ::
 ⟨(some 149), (some (148, true)), .p .mov, [.t 14]⟩ ::
 ⟨(some 150), (some (148, true)), .p (.bin .eql), [.t 149, .c (.int .i64 2)]⟩ ::
 ⟨(some 151), none, .p .pick, [.t 148, .t 150, .c (.bool false)]⟩ ::
 ⟨(some 152), none, .p .mov, [.t 151]⟩ ::
 ⟨(some 153), (some (152, true)), .p .mov, [.t 17]⟩ ::
 ⟨(some 154), (some (152, true)), .p (.bin .eql), [.t 153, .c (.int .i64 2)]⟩ ::
 ⟨(some 155), none, .p .pick, [.t 152, .t 154, .c (.bool false)]⟩ ::
 ⟨(some 156), none, .p .mov, [.t 155]⟩ ::
 ⟨(some 157), (some (156, true)), .p .mov, [.t 18]⟩ ::
 ⟨(some 158), (some (156, true)), .p (.bin .eql), [.t 157, .c (.int .i64 1)]⟩ ::
 ⟨(some 159), none, .p .pick, [.t 156, .t 158, .c (.bool false)]⟩ ::
 ⟨(some 160), none, .p .mov, [.t 159]⟩ ::
 ⟨(some 161), (some (160, true)), .p .mov, [.t 19]⟩ ::
 ⟨(some 162), (some (160, true)), .p (.bin .eql), [.t 161, .c (.int .i64 0)]⟩ ::
 ⟨(some 163), none, .p .pick, [.t 160, .t 162, .c (.bool false)]⟩ ::
 ⟨(some 164), none, .p .mov, [.t 163]⟩ ::
 ⟨(some 165), (some (164, true)), .p .mov, [.t 21]⟩ ::
 ⟨(some 166), (some (164, true)), .p (.bin .eql), [.t 165, .c (.int .i64 120)]⟩ ::
 ⟨(some 167), none, .p .pick, [.t 164, .t 166, .c (.bool false)]⟩ ::
 ⟨(some 168), none, .p .mov, [.t 167]⟩ ::
 ⟨(some 169), (some (168, true)), .p .mov, [.t 23]⟩ ::
 ⟨(some 170), (some (168, true)), .p (.bin .eql), [.t 169, .c (.int .i64 120)]⟩ ::
 ⟨(some 171), none, .p .pick, [.t 168, .t 170, .c (.bool false)]⟩ ::
 ⟨(some 172), none, .p .mov, [.t 171]⟩ ::
 ⟨(some 173), (some (172, true)), .p .mov, [.t 26]⟩ ::
 ⟨(some 174), (some (172, true)), .p (.bin .eql), [.t 173, .c (.int .i64 120)]⟩ ::
 ⟨(some 175), none, .p .pick, [.t 172, .t 174, .c (.bool false)]⟩ ::
 ⟨(some 176), none, .p .mov, [.t 175]⟩ ::
 ⟨(some 177), (some (176, true)), .p .mov, [.t 27]⟩ ::
 ⟨(some 178), (some (176, true)), .p (.bin .eql), [.t 177, .c (.int .i64 1)]⟩ ::
 ⟨(some 179), none, .p .pick, [.t 176, .t 178, .c (.bool false)]⟩ ::
 ⟨(some 180), none, .p .mov, [.t 179]⟩ ::
 ⟨(some 181), (some (180, true)), .p .mov, [.t 28]⟩ ::
 ⟨(some 182), (some (180, true)), .p (.bin .eql), [.t 181, .c (.int .i64 1)]⟩ ::
 ⟨(some 183), none, .p .pick, [.t 180, .t 182, .c (.bool false)]⟩ ::
 ⟨(some 184), none, .p .mov, [.t 183]⟩ ::
 ⟨(some 185), (some (184, true)), .p .mov, [.t 29]⟩ ::
 ⟨(some 186), (some (184, true)), .p (.bin .eql), [.t 185, .c (.int .i64 0)]⟩ ::
 ⟨(some 187), none, .p .pick, [.t 184, .t 186, .c (.bool false)]⟩ ::
 ⟨(some 188), none, .p .mov, [.t 187]⟩ ::
 ⟨(some 189), (some (188, true)), .p .mov, [.t 30]⟩ ::
 ⟨(some 190), (some (188, true)), .p (.bin .eql), [.t 189, .c (.int .i64 0)]⟩ ::
 ⟨(some 191), none, .p .pick, [.t 188, .t 190, .c (.bool false)]⟩ ::
 ⟨(some 192), none, .p .mov, [.t 191]⟩ ::
 ⟨(some 193), (some (192, true)), .p .mov, [.t 31]⟩ ::
 ⟨(some 194), (some (192, true)), .p (.bin .eql), [.t 193, .c (.int .i64 1)]⟩ ::
 ⟨(some 195), none, .p .pick, [.t 192, .t 194, .c (.bool false)]⟩ ::
 ⟨(some 196), none, .p .mov, [.t 195]⟩ ::
 ⟨(some 197), (some (196, true)), .p .mov, [.t 32]⟩ ::
 ⟨(some 198), (some (196, true)), .p (.bin .eql), [.t 197, .c (.int .i64 0)]⟩ ::
 ⟨(some 199), none, .p .pick, [.t 196, .t 198, .c (.bool false)]⟩ ::
 ⟨(some 200), none, .p .mov, [.t 199]⟩ ::
 ⟨(some 201), (some (200, true)), .p .mov, [.t 35]⟩ ::
 ⟨(some 202), (some (200, true)), .p (.bin .eql), [.t 201, .c (.int .i64 2)]⟩ ::
 ⟨(some 203), none, .p .pick, [.t 200, .t 202, .c (.bool false)]⟩ ::
 ⟨(some 204), none, .p .mov, [.t 203]⟩ ::
 ⟨(some 205), (some (204, true)), .p .mov, [.t 36]⟩ ::
 ⟨(some 206), (some (204, true)), .p .lenS, [.t 205]⟩ ::
 ⟨(some 207), (some (204, true)), .p (.bin .eql), [.t 206, .c (.int .i64 0)]⟩ ::
 ⟨(some 208), none, .p .pick, [.t 204, .t 207, .c (.bool false)]⟩ ::
 ⟨(some 209), none, .p .mov, [.t 208]⟩ ::
 ⟨(some 210), (some (209, true)), .p .mov, [.t 37]⟩ ::
 ⟨(some 211), (some (209, true)), .p (.bin .eql), [.t 210, .c (.int .i64 0)]⟩ ::
 ⟨(some 212), none, .p .pick, [.t 209, .t 211, .c (.bool false)]⟩ ::
 ⟨(some 0), none, .p .mov, [.t 212]⟩ ::
 []))
.ret))))))))))))))))))⟩
abbrev f_escapementlaw30_TuneNames : Nat := 10
abbrev C_escapementlaw30_TuneNames : AFunc := C10
def L_escapementlaw30_TuneGate_0 : AC := (.seq (.seq (.ops (⟨(some 57), none, .p .mov, [.t 9]⟩ ::
 ⟨(some 58), none, .p .mov, [.t 5]⟩ ::
 ⟨(some 59), none, .p .lenS, [.t 58]⟩ ::
 ⟨(some 60), none, .p (.bin .lss), [.t 57, .t 59]⟩ ::
 []))
(.cond (.t 60)
.skip
(.exit 0)))
(.seq (.block 1 (.seq (.seq (.ops (⟨(some 63), none, .r (.loadN 2), [.t 7]⟩ ::
 ⟨(some 64), none, .p .mov, [.t 8]⟩ ::
 ⟨(some 65), none, .p .mov, [.t 9]⟩ ::
 ⟨(some 66), none, .call, [.c (.func (.func 35) [] []), .t 63, .t 64, .t 65]⟩ ::
 ⟨(some 67), none, .p (.bin .neq), [.t 66, .c (.int .i64 0)]⟩ ::
 ⟨(some 68), none, .p .mov, [.t 67]⟩ ::
 ⟨(some 69), (some (68, true)), .p .mov, [.t 9]⟩ ::
 ⟨(some 70), (some (68, true)), .p .mov, [.t 5]⟩ ::
 ⟨(some 71), (some (68, true)), .p .lenS, [.t 70]⟩ ::
 ⟨(some 72), (some (68, true)), .p (.bin .sub), [.t 71, .c (.int .i64 1)]⟩ ::
 ⟨(some 73), (some (68, true)), .p (.bin .eql), [.t 69, .t 72]⟩ ::
 ⟨(some 74), none, .p .pick, [.t 68, .t 73, .c (.bool false)]⟩ ::
 []))
(.cond (.t 74)
(.seq (.ops (⟨(some 2), none, .p .mov, [.c (.bool false)]⟩ ::
 []))
.ret)
.skip))
(.ops (⟨(some 75), none, .p .mov, [.t 8]⟩ ::
 ⟨(some 76), none, .p .mov, [.t 9]⟩ ::
 ⟨(some 77), none, .p (.iaddrS 1), [.t 75, .t 76]⟩ ::
 ⟨none, none, .e (.store 1), [.t 77, .c (.bool true)]⟩ ::
 []))))
(.ops (⟨(some 61), none, .p .mov, [.t 9]⟩ ::
 ⟨(some 62), none, .p (.bin .add), [.t 61, .c (.int .i64 1)]⟩ ::
 ⟨(some 9), none, .p .mov, [.t 62]⟩ ::
 []))))
def C11 : AFunc := ⟨98, [.tmp 2],
(.seq (.ops (⟨(some 2), none, .p .mov, [.c (.bool false)]⟩ ::
 []))
(.seq (.ops (⟨(some 13), none, .p .mov, [.t 0]⟩ ::
 ⟨(some 14), none, .call, [.c (.func (.func 20) [] []), .t 13]⟩ ::
 ⟨(some 0), none, .p .mov, [.t 14]⟩ ::
 []))
(.seq (.ops (⟨(some 16), none, .p .mov, [.t 0]⟩ ::
 ⟨(some 17), none, .call, [.c (.func (.func 31) [] []), .t 16]⟩ ::
 ⟨(some 15), none, .p .mov, [.t 17]⟩ ::
 ⟨(some 18), none, .p (.ext 0), [.t 15]⟩ ::
 ⟨(some 19), none, .p (.ext 1), [.t 15]⟩ ::
 ⟨(some 3), none, .p .mov, [.t 18]⟩ ::
 ⟨(some 4), none, .p .mov, [.t 19]⟩ ::
 []))
(.seq (.seq (.ops (⟨(some 20), none, .p .mov, [.t 4]⟩ ::
 ⟨(some 21), none, .p (.bin .neq), [.t 20, .c (.int .i64 0)]⟩ ::
 []))
(.cond (.t 21)
(.seq (.ops (⟨(some 22), none, .p .mov, [.t 3]⟩ ::
 ⟨(some 23), none, .p .lenS, [.t 22]⟩ ::
 ⟨(some 24), none, .p (.bin .eql), [.t 23, .c (.int .i64 0)]⟩ ::
 ⟨(some 25), none, .p .mov, [.t 24]⟩ ::
 ⟨(some 26), (some (25, true)), .call, [.c (.func (.func 26) [] [])]⟩ ::
 ⟨(some 27), none, .p .pick, [.t 25, .t 26, .c (.bool false)]⟩ ::
 ⟨(some 2), none, .p .mov, [.t 27]⟩ ::
 []))
.ret)
.skip))
(.seq (.ops (⟨(some 29), none, .p .mov, [.t 0]⟩ ::
 ⟨(some 30), none, .p .mov, [.t 3]⟩ ::
 ⟨(some 31), none, .call, [.c (.func (.func 23) [] []), .t 29, .t 30]⟩ ::
 ⟨(some 28), none, .p .mov, [.t 31]⟩ ::
 ⟨(some 32), none, .p (.ext 0), [.t 28]⟩ ::
 ⟨(some 33), none, .p (.ext 1), [.t 28]⟩ ::
 ⟨(some 5), none, .p .mov, [.t 32]⟩ ::
 ⟨(some 6), none, .p .mov, [.t 33]⟩ ::
 []))
(.seq (.seq (.ops (⟨(some 34), none, .p .mov, [.t 6]⟩ ::
 ⟨(some 35), none, .p (.bin .neq), [.t 34, .c (.int .i64 0)]⟩ ::
 ⟨(some 36), none, .p .mov, [.t 35]⟩ ::
 ⟨(some 37), (some (36, false)), .p .mov, [.t 5]⟩ ::
 ⟨(some 38), (some (36, false)), .p .lenS, [.t 37]⟩ ::
 ⟨(some 39), (some (36, false)), .p .mov, [.t 0]⟩ ::
 ⟨(some 40), (some (36, false)), .p .lenS, [.t 39]⟩ ::
 ⟨(some 41), (some (36, false)), .p (.bin .neq), [.t 38, .t 40]⟩ ::
 ⟨(some 42), none, .p .pick, [.t 36, .c (.bool true), .t 41]⟩ ::
 ⟨(some 43), none, .p .mov, [.t 42]⟩ ::
 ⟨(some 44), (some (43, false)), .p .mov, [.t 5]⟩ ::
 ⟨(some 45), (some (43, false)), .call, [.c (.func (.func 33) [] []), .t 44]⟩ ::
 ⟨(some 46), (some (43, false)), .p (.bin .neq), [.t 45, .c (.int .i64 0)]⟩ ::
 ⟨(some 47), none, .p .pick, [.t 43, .c (.bool true), .t 46]⟩ ::
 []))
(.cond (.t 47)
(.seq (.ops (⟨(some 2), none, .p .mov, [.c (.bool false)]⟩ ::
 []))
.ret)
.skip))
(.seq (.ops (⟨(some 48), none, .p .mov, [.t 5]⟩ ::
 ⟨(some 49), none, .p (.build [.nils, .nils] [(0, 1)]), [.t 48]⟩ ::
 ⟨(some 7), none, .a (.alloc [.nils, .nils]), []⟩ ::
 ⟨none, none, .e (.store 2), [.t 7, .t 49]⟩ ::
 []))
(.seq (.seq (.ops (⟨(some 50), none, .r (.loadN 2), [.t 7]⟩ ::
 ⟨(some 51), none, .call, [.c (.func (.func 34) [] []), .t 50]⟩ ::
 ⟨(some 52), none, .p (.bin .neq), [.t 51, .c (.int .i64 0)]⟩ ::
 []))
(.cond (.t 52)
(.seq (.ops (⟨(some 53), none, .call, [.c (.func (.func 26) [] [])]⟩ ::
 ⟨(some 2), none, .p .mov, [.t 53]⟩ ::
 []))
.ret)
.skip))
(.seq (.ops (⟨(some 54), none, .p .mov, [.t 5]⟩ ::
 ⟨(some 55), none, .p .lenS, [.t 54]⟩ ::
 ⟨(some 56), none, .a (.mkslice [(.bool false)] 1 1), [.t 55, .t 55]⟩ ::
 ⟨(some 8), none, .p .mov, [.t 56]⟩ ::
 []))
(.seq (.seq (.ops (⟨(some 9), none, .p .mov, [.c (.int .i64 0)]⟩ ::
 []))
(.block 0 (.loop L_escapementlaw30_TuneGate_0)))
(.seq (.ops (⟨(some 79), none, .r (.loadN 2), [.t 7]⟩ ::
 ⟨(some 80), none, .p .mov, [.t 8]⟩ ::
 ⟨(some 81), none, .call, [.c (.func (.func 36) [] []), .t 79, .t 80]⟩ ::
 ⟨(some 78), none, .p .mov, [.t 81]⟩ ::
 ⟨(some 82), none, .p (.ext 0), [.t 78]⟩ ::
 ⟨(some 83), none, .p (.ext 1), [.t 78]⟩ ::
 ⟨(some 84), none, .p (.ext 2), [.t 78]⟩ ::
 ⟨(some 10), none, .p .mov, [.t 82]⟩ ::
 ⟨(some 11), none, .p .mov, [.t 83]⟩ ::
 ⟨(some 12), none, .p .mov, [.t 84]⟩ ::
 []))
(.seq (.ops (⟨(some 85), none, .p .mov, [.t 10]⟩ ::
 ⟨(some 86), none, .p (.bin .eql), [.t 85, .c (.int .i64 (-1))]⟩ ::
 ⟨(some 87), none, .p .mov, [.t 86]⟩ ::
 ⟨(some 88), (some (87, true)), .p .mov, [.t 11]⟩ ::
 ⟨(some 89), (some (87, true)), .p (.bin .eql), [.t 88, .c (.int .i64 0)]⟩ ::
 ⟨(some 90), none, .p .pick, [.t 87, .t 89, .c (.bool false)]⟩ ::
 ⟨(some 91), none, .p .mov, [.t 90]⟩ ::
 ⟨(some 92), (some (91, true)), .p .mov, [.t 12]⟩ ::
 ⟨(some 93), (some (91, true)), .p (.bin .eql), [.t 92, .c (.int .i64 0)]⟩ ::
 ⟨(some 94), none, .p .pick, [.t 91, .t 93, .c (.bool false)]⟩ ::
 ⟨(some 95), none, .p .mov, [.t 94]⟩ ::
 ⟨(some 96), (some (95, true)), .call, [.c (.func (.func 26) [] [])]⟩ ::
 ⟨(some 97), none, .p .pick, [.t 95, .t 96, .c (.bool false)]⟩ ::
 ⟨(some 2), none, .p .mov, [.t 97]⟩ ::
 []))
.ret))))))))))))⟩
abbrev f_escapementlaw30_TuneGate : Nat := 11
abbrev C_escapementlaw30_TuneGate : AFunc := C11
def L_escapementlaw10_made_1 : AC := (.seq (.seq (.ops (⟨(some 40), none, .p .mov, [.t 8]⟩ ::
 ⟨(some 41), none, .p .mov, [.t 0]⟩ ::
 ⟨(some 42), none, .p .mov, [.t 6]⟩ ::
 ⟨(some 43), none, .p (.iaddrS 3), [.t 41, .t 42]⟩ ::
 ⟨(some 44), none, .p (.faddr 2), [.t 43]⟩ ::
 ⟨(some 45), none, .r .load1, [.t 44]⟩ ::
 ⟨(some 46), none, .p .lenS, [.t 45]⟩ ::
 ⟨(some 47), none, .p (.bin .lss), [.t 40, .t 46]⟩ ::
 ⟨(some 48), none, .p .mov, [.t 47]⟩ ::
 ⟨(some 49), (some (48, true)), .p .mov, [.t 8]⟩ ::
 ⟨(some 50), (some (48, true)), .p (.bin .lss), [.t 49, .c (.int .i64 4)]⟩ ::
 ⟨(some 51), none, .p .pick, [.t 48, .t 50, .c (.bool false)]⟩ ::
 []))
(.cond (.t 51)
.skip
(.exit 2)))
(.seq (.block 3 (.seq (.ops (⟨(some 54), none, .p .mov, [.t 0]⟩ ::
 ⟨(some 55), none, .p .mov, [.t 6]⟩ ::
 ⟨(some 56), none, .p (.iaddrS 3), [.t 54, .t 55]⟩ ::
 ⟨(some 57), none, .p (.faddr 2), [.t 56]⟩ ::
 ⟨(some 58), none, .r .load1, [.t 57]⟩ ::
 ⟨(some 59), none, .p .mov, [.t 8]⟩ ::
 ⟨(some 60), none, .p (.iaddrS 8), [.t 58, .t 59]⟩ ::
 ⟨(some 61), none, .r (.loadN 8), [.t 60]⟩ ::
 ⟨(some 9), none, .a (.alloc [(.int .i64 0), (.int .i64 0), (.int .i64 0), (.int .i64 0), (.int .i64 0), (.int .i64 0), (.int .i64 0), (.int .i64 0)]), []⟩ ::
 ⟨none, none, .e (.store 8), [.t 9, .t 61]⟩ ::
 []))
(.seq (.ops (⟨(some 62), none, .p (.faddr 0), [.t 9]⟩ ::
 ⟨(some 63), none, .r .load1, [.t 62]⟩ ::
 ⟨(some 64), none, .call, [.c (.func (.func 14) [] []), .t 63, .c (.int .i64 48)]⟩ ::
 ⟨(some 65), none, .p (.bin .add), [.c (.int .i64 1), .t 64]⟩ ::
 ⟨(some 66), none, .p (.build [(.int .i64 0), (.int .i64 0), (.int .i64 0), (.int .i64 0), (.int .i64 0), (.int .i64 0), (.int .i64 0), (.int .i64 0)] [(0, 1)]), [.t 65]⟩ ::
 ⟨(some 10), none, .a (.alloc [(.int .i64 0), (.int .i64 0), (.int .i64 0), (.int .i64 0), (.int .i64 0), (.int .i64 0), (.int .i64 0), (.int .i64 0)]), []⟩ ::
 ⟨none, none, .e (.store 8), [.t 10, .t 66]⟩ ::
 []))
(.seq (.ops (⟨(some 67), none, .p (.faddr 1), [.t 9]⟩ ::
 ⟨(some 68), none, .r .load1, [.t 67]⟩ ::
 ⟨(some 69), none, .p (.faddr 0), [.t 10]⟩ ::
 ⟨(some 70), none, .r .load1, [.t 69]⟩ ::
 ⟨(some 71), none, .call, [.c (.func (.func 14) [] []), .t 68, .t 70]⟩ ::
 ⟨(some 72), none, .p (.bin .add), [.c (.int .i64 1), .t 71]⟩ ::
 ⟨(some 73), none, .p (.faddr 1), [.t 10]⟩ ::
 ⟨none, none, .e (.store 1), [.t 73, .t 72]⟩ ::
 []))
(.seq (.ops (⟨(some 74), none, .p (.faddr 2), [.t 9]⟩ ::
 ⟨(some 75), none, .r .load1, [.t 74]⟩ ::
 ⟨(some 76), none, .p (.faddr 1), [.t 10]⟩ ::
 ⟨(some 77), none, .r .load1, [.t 76]⟩ ::
 ⟨(some 78), none, .call, [.c (.func (.func 14) [] []), .t 75, .t 77]⟩ ::
 ⟨(some 79), none, .p (.bin .add), [.c (.int .i64 1), .t 78]⟩ ::
 ⟨(some 80), none, .p (.faddr 2), [.t 10]⟩ ::
 ⟨none, none, .e (.store 1), [.t 80, .t 79]⟩ ::
 []))
(.seq (.ops (⟨(some 81), none, .p (.faddr 4), [.t 9]⟩ ::
 ⟨(some 82), none, .r .load1, [.t 81]⟩ ::
 ⟨(some 83), none, .p (.faddr 2), [.t 10]⟩ ::
 ⟨(some 84), none, .r .load1, [.t 83]⟩ ::
 ⟨(some 85), none, .p (.bin .add), [.t 84, .c (.int .i64 1)]⟩ ::
 ⟨(some 86), none, .call, [.c (.func (.func 14) [] []), .t 82, .t 85]⟩ ::
 ⟨(some 87), none, .p (.faddr 4), [.t 10]⟩ ::
 ⟨none, none, .e (.store 1), [.t 87, .t 86]⟩ ::
 []))
(.seq (.ops (⟨(some 88), none, .p (.faddr 5), [.t 9]⟩ ::
 ⟨(some 89), none, .r .load1, [.t 88]⟩ ::
 ⟨(some 90), none, .call, [.c (.func (.func 14) [] []), .t 89, .c (.int .i64 5)]⟩ ::
 ⟨(some 91), none, .p (.faddr 5), [.t 10]⟩ ::
 ⟨none, none, .e (.store 1), [.t 91, .t 90]⟩ ::
 []))
(.seq (.seq (.ops (⟨(some 92), none, .p (.faddr 5), [.t 10]⟩ ::
 ⟨(some 93), none, .r .load1, [.t 92]⟩ ::
 ⟨(some 94), none, .p (.bin .gtr), [.t 93, .c (.int .i64 0)]⟩ ::
 []))
(.cond (.t 94)
(.seq (.ops (⟨(some 95), none, .p (.faddr 6), [.t 9]⟩ ::
 ⟨(some 96), none, .r .load1, [.t 95]⟩ ::
 ⟨(some 97), none, .p (.faddr 1), [.t 7]⟩ ::
 ⟨(some 98), none, .r .load1, [.t 97]⟩ ::
 ⟨(some 99), none, .p (.faddr 2), [.t 10]⟩ ::
 ⟨(some 100), none, .r .load1, [.t 99]⟩ ::
 ⟨(some 101), none, .p .mn, [.t 98, .t 100]⟩ ::
 ⟨(some 102), none, .call, [.c (.func (.func 14) [] []), .t 96, .t 101]⟩ ::
 ⟨(some 103), none, .p (.bin .add), [.c (.int .i64 1), .t 102]⟩ ::
 ⟨(some 104), none, .p (.faddr 6), [.t 10]⟩ ::
 ⟨none, none, .e (.store 1), [.t 104, .t 103]⟩ ::
 []))
(.dops (⟨(some 105), none, .p (.faddr 7), [.t 9]⟩ ::
 ⟨(some 106), none, .r .load1, [.t 105]⟩ ::
 ⟨(some 107), none, .p (.faddr 2), [.t 10]⟩ ::
 ⟨(some 108), none, .r .load1, [.t 107]⟩ ::
 ⟨(some 109), none, .p (.faddr 6), [.t 10]⟩ ::
 ⟨(some 110), none, .r .load1, [.t 109]⟩ ::
 ⟨(some 111), none, .p (.bin .quo), [.t 108, .t 110]⟩ ::
 ⟨(some 112), none, .call, [.c (.func (.func 14) [] []), .t 106, .t 111]⟩ ::
 ⟨(some 113), none, .p (.bin .add), [.c (.int .i64 1), .t 112]⟩ ::
 ⟨(some 114), none, .p (.faddr 7), [.t 10]⟩ ::
 ⟨none, none, .e (.store 1), [.t 114, .t 113]⟩ ::
 []) ([] :: [] :: [] :: [] :: [] :: [] :: [] :: [] :: [] :: [] :: [] :: [])))
.skip))
(.ops (⟨(some 115), none, .p (.faddr 2), [.t 7]⟩ ::
 ⟨(some 116), none, .r .load1, [.t 115]⟩ ::
 ⟨(some 117), none, .r (.loadN 8), [.t 10]⟩ ::
 ⟨(some 118), none, .a (.bslice [(.int .i64 0), (.int .i64 0), (.int .i64 0), (.int .i64 0), (.int .i64 0), (.int .i64 0), (.int .i64 0), (.int .i64 0)] 1 8 [0]), [.t 117]⟩ ::
 ⟨(some 119), none, .e (.append 8 64), [.t 116, .t 118]⟩ ::
 ⟨(some 120), none, .p (.faddr 2), [.t 7]⟩ ::
 ⟨none, none, .e (.store 1), [.t 120, .t 119]⟩ ::
 []))))))))))
(.ops (⟨(some 52), none, .p .mov, [.t 8]⟩ ::
 ⟨(some 53), none, .p (.bin .add), [.t 52, .c (.int .i64 1)]⟩ ::
 ⟨(some 8), none, .p .mov, [.t 53]⟩ ::
 []))))
def L_escapementlaw10_made_0 : AC := (.seq (.seq (.ops (⟨(some 11), none, .p .mov, [.t 6]⟩ ::
 ⟨(some 12), none, .p .mov, [.t 0]⟩ ::
 ⟨(some 13), none, .p .lenS, [.t 12]⟩ ::
 ⟨(some 14), none, .p (.bin .lss), [.t 11, .t 13]⟩ ::
 ⟨(some 15), none, .p .mov, [.t 14]⟩ ::
 ⟨(some 16), (some (15, true)), .p .mov, [.t 6]⟩ ::
 ⟨(some 17), (some (15, true)), .p .mov, [.t 1]⟩ ::
 ⟨(some 18), (some (15, true)), .p (.bin .lss), [.t 16, .t 17]⟩ ::
 ⟨(some 19), none, .p .pick, [.t 15, .t 18, .c (.bool false)]⟩ ::
 []))
(.cond (.t 19)
.skip
(.exit 0)))
(.seq (.block 1 (.seq (.ops (⟨(some 22), none, .p .mov, [.t 0]⟩ ::
 ⟨(some 23), none, .p .mov, [.t 6]⟩ ::
 ⟨(some 24), none, .p (.iaddrS 3), [.t 22, .t 23]⟩ ::
 ⟨(some 25), none, .p (.faddr 0), [.t 24]⟩ ::
 ⟨(some 26), none, .r .load1, [.t 25]⟩ ::
 ⟨(some 27), none, .call, [.c (.func (.func 14) [] []), .t 26, .c (.int .i64 10)]⟩ ::
 ⟨(some 28), none, .p (.bin .add), [.c (.int .i64 1), .t 27]⟩ ::
 ⟨(some 29), none, .p (.build [(.int .i64 0), (.int .i64 0), .nils] [(0, 1)]), [.t 28]⟩ ::
 ⟨(some 7), none, .a (.alloc [(.int .i64 0), (.int .i64 0), .nils]), []⟩ ::
 ⟨none, none, .e (.store 3), [.t 7, .t 29]⟩ ::
 []))
(.seq (.dops (⟨(some 30), none, .p .mov, [.t 0]⟩ ::
 ⟨(some 31), none, .p .mov, [.t 6]⟩ ::
 ⟨(some 32), none, .p (.iaddrS 3), [.t 30, .t 31]⟩ ::
 ⟨(some 33), none, .p (.faddr 1), [.t 32]⟩ ::
 ⟨(some 34), none, .r .load1, [.t 33]⟩ ::
 ⟨(some 35), none, .p (.faddr 0), [.t 7]⟩ ::
 ⟨(some 36), none, .r .load1, [.t 35]⟩ ::
 ⟨(some 37), none, .call, [.c (.func (.func 14) [] []), .t 34, .t 36]⟩ ::
 ⟨(some 38), none, .p (.bin .add), [.c (.int .i64 1), .t 37]⟩ ::
 ⟨(some 39), none, .p (.faddr 1), [.t 7]⟩ ::
 ⟨none, none, .e (.store 1), [.t 39, .t 38]⟩ ::
 []) ([] :: [] :: [] :: [] :: [] :: [] :: [] :: [] :: [] :: [] :: [] :: []))
(.seq (.seq (.ops (⟨(some 8), none, .p .mov, [.c (.int .i64 0)]⟩ ::
 []))
(.block 2 (.loop L_escapementlaw10_made_1)))
(.ops (⟨(some 121), none, .p .mov, [.t 5]⟩ ::
 ⟨(some 122), none, .r (.loadN 3), [.t 7]⟩ ::
 ⟨(some 123), none, .a (.bslice [(.int .i64 0), (.int .i64 0), .nils] 1 3 [0]), [.t 122]⟩ ::
 ⟨(some 124), none, .e (.append 3 40), [.t 121, .t 123]⟩ ::
 ⟨(some 5), none, .p .mov, [.t 124]⟩ ::
 []))))))
(.ops (⟨(some 20), none, .p .mov, [.t 6]⟩ ::
 ⟨(some 21), none, .p (.bin .add), [.t 20, .c (.int .i64 1)]⟩ ::
 ⟨(some 6), none, .p .mov, [.t 21]⟩ ::
 []))))
def C12 : AFunc := ⟨126, [.tmp 4],
(.seq (.ops (⟨(some 4), none, .p .mov, [.c .nils]⟩ ::
 []))
(.seq (.ops (⟨(some 5), none, .p .mov, [.c .nils]⟩ ::
 []))
(.seq (.seq (.ops (⟨(some 6), none, .p .mov, [.c (.int .i64 0)]⟩ ::
 []))
(.block 0 (.loop L_escapementlaw10_made_0)))
(.seq (.ops (⟨(some 125), none, .p .mov, [.t 5]⟩ ::
 ⟨(some 4), none, .p .mov, [.t 125]⟩ ::
 []))
.ret))))⟩
abbrev f_escapementlaw10_made : Nat := 12
abbrev C_escapementlaw10_made : AFunc := C12
def C13 : AFunc := ⟨89, [.tmp 0],
(.seq (.ops (⟨(some 0), none, .p .mov, [.c (.bool false)]⟩ ::
 []))
(.seq (.ops (⟨(some 12), none, .p (.build [(.int .i64 0), (.int .i64 0), (.int .i64 0), (.int .i64 0), (.int .i64 0), (.int .i64 0), (.int .i64 0), (.int .i64 0)] [(0, 1), (1, 1), (2, 1)]), [.c (.int .i64 20), .c (.int .i64 12), .c (.int .i64 2)]⟩ ::
 ⟨(some 1), none, .a (.alloc [(.int .i64 0), (.int .i64 0), (.int .i64 0), (.int .i64 0), (.int .i64 0), (.int .i64 0), (.int .i64 0), (.int .i64 0)]), []⟩ ::
 ⟨none, none, .e (.store 8), [.t 1, .t 12]⟩ ::
 []))
(.seq (.ops (⟨(some 14), none, .r (.loadN 8), [.t 1]⟩ ::
 ⟨(some 15), none, .a (.bslice [(.int .i64 0), (.int .i64 0), (.int .i64 0), (.int .i64 0), (.int .i64 0), (.int .i64 0), (.int .i64 0), (.int .i64 0)] 1 8 [0]), [.t 14]⟩ ::
 ⟨(some 16), none, .call, [.c (.func (.func 19) [] []), .t 15]⟩ ::
 ⟨(some 17), none, .call, [.c (.func (.func 16) [] []), .t 16, .c (.int .i64 0), .c (.int .i64 11)]⟩ ::
 ⟨(some 13), none, .p .mov, [.t 17]⟩ ::
 ⟨(some 18), none, .p (.ext 0), [.t 13]⟩ ::
 ⟨(some 19), none, .p (.ext 1), [.t 13]⟩ ::
 ⟨(some 2), none, .p .mov, [.t 18]⟩ ::
 ⟨(some 3), none, .p .mov, [.t 19]⟩ ::
 []))
(.seq (.ops (⟨(some 21), none, .r (.loadN 8), [.t 1]⟩ ::
 ⟨(some 22), none, .a (.bslice [(.int .i64 0), (.int .i64 0), (.int .i64 0), (.int .i64 0), (.int .i64 0), (.int .i64 0), (.int .i64 0), (.int .i64 0)] 1 8 [0]), [.t 21]⟩ ::
 ⟨(some 23), none, .call, [.c (.func (.func 19) [] []), .t 22]⟩ ::
 ⟨(some 24), none, .call, [.c (.func (.func 16) [] []), .t 23, .c (.int .i64 0), .c (.int .i64 12)]⟩ ::
 ⟨(some 20), none, .p .mov, [.t 24]⟩ ::
 ⟨(some 25), none, .p (.ext 0), [.t 20]⟩ ::
 ⟨(some 26), none, .p (.ext 1), [.t 20]⟩ ::
 ⟨(some 4), none, .p .mov, [.t 25]⟩ ::
 ⟨(some 5), none, .p .mov, [.t 26]⟩ ::
 []))
(.seq (.ops (⟨(some 28), none, .r (.loadN 8), [.t 1]⟩ ::
 ⟨(some 29), none, .a (.bslice [(.int .i64 0), (.int .i64 0), (.int .i64 0), (.int .i64 0), (.int .i64 0), (.int .i64 0), (.int .i64 0), (.int .i64 0)] 1 8 [0]), [.t 28]⟩ ::
 ⟨(some 30), none, .call, [.c (.func (.func 19) [] []), .t 29]⟩ ::
 ⟨(some 31), none, .call, [.c (.func (.func 15) [] []), .t 30, .c (.int .i64 0)]⟩ ::
 ⟨(some 27), none, .p .mov, [.t 31]⟩ ::
 ⟨(some 32), none, .p (.ext 0), [.t 27]⟩ ::
 ⟨(some 33), none, .p (.ext 1), [.t 27]⟩ ::
 ⟨(some 6), none, .p .mov, [.t 32]⟩ ::
 ⟨(some 7), none, .p .mov, [.t 33]⟩ ::
 []))
(.seq (.ops (⟨(some 34), none, .p (.faddr 2), [.t 1]⟩ ::
 ⟨none, none, .e (.store 1), [.t 34, .c (.int .i64 4)]⟩ ::
 []))
(.seq (.ops (⟨(some 36), none, .r (.loadN 8), [.t 1]⟩ ::
 ⟨(some 37), none, .a (.bslice [(.int .i64 0), (.int .i64 0), (.int .i64 0), (.int .i64 0), (.int .i64 0), (.int .i64 0), (.int .i64 0), (.int .i64 0)] 1 8 [0]), [.t 36]⟩ ::
 ⟨(some 38), none, .call, [.c (.func (.func 19) [] []), .t 37]⟩ ::
 ⟨(some 39), none, .call, [.c (.func (.func 15) [] []), .t 38, .c (.int .i64 0)]⟩ ::
 ⟨(some 35), none, .p .mov, [.t 39]⟩ ::
 ⟨(some 40), none, .p (.ext 0), [.t 35]⟩ ::
 ⟨(some 41), none, .p (.ext 1), [.t 35]⟩ ::
 ⟨(some 8), none, .p .mov, [.t 40]⟩ ::
 ⟨(some 9), none, .p .mov, [.t 41]⟩ ::
 []))
(.seq (.ops (⟨(some 42), none, .p (.faddr 2), [.t 1]⟩ ::
 ⟨none, none, .e (.store 1), [.t 42, .c (.int .i64 2)]⟩ ::
 []))
(.seq (.ops (⟨(some 44), none, .r (.loadN 8), [.t 1]⟩ ::
 ⟨(some 45), none, .p (.build [(.int .i64 0), (.int .i64 0), (.int .i64 0), (.int .i64 0), (.int .i64 0), (.int .i64 0), (.int .i64 0), (.int .i64 0)] [(0, 1), (1, 1), (2, 1)]), [.c (.int .i64 5), .c (.int .i64 5), .c (.int .i64 2)]⟩ ::
 ⟨(some 46), none, .a (.bslice [(.int .i64 0), (.int .i64 0), (.int .i64 0), (.int .i64 0), (.int .i64 0), (.int .i64 0), (.int .i64 0), (.int .i64 0)] 2 8 [0, 1]), [.t 44, .t 45]⟩ ::
 ⟨(some 47), none, .call, [.c (.func (.func 19) [] []), .t 46]⟩ ::
 ⟨(some 48), none, .call, [.c (.func (.func 15) [] []), .t 47, .c (.int .i64 0)]⟩ ::
 ⟨(some 43), none, .p .mov, [.t 48]⟩ ::
 ⟨(some 49), none, .p (.ext 0), [.t 43]⟩ ::
 ⟨(some 50), none, .p (.ext 1), [.t 43]⟩ ::
 ⟨(some 10), none, .p .mov, [.t 49]⟩ ::
 ⟨(some 11), none, .p .mov, [.t 50]⟩ ::
 []))
(.seq (.ops (⟨(some 51), none, .p .mov, [.t 2]⟩ ::
 ⟨(some 52), none, .p (.bin .eql), [.t 51, .c (.int .i64 2)]⟩ ::
 ⟨(some 53), none, .p .mov, [.t 52]⟩ ::
 ⟨(some 54), (some (53, true)), .p .mov, [.t 3]⟩ ::
 ⟨(some 55), (some (53, true)), .p (.bin .eql), [.t 54, .c (.int .i64 0)]⟩ ::
 ⟨(some 56), none, .p .pick, [.t 53, .t 55, .c (.bool false)]⟩ ::
 ⟨(some 57), none, .p .mov, [.t 56]⟩ ::
 ⟨(some 58), (some (57, true)), .p .mov, [.t 4]⟩ ::
 ⟨(some 59), (some (57, true)), .p (.bin .eql), [.t 58, .c (.int .i64 1)]⟩ ::
 ⟨(some 60), none, .p .pick, [.t 57, .t 59, .c (.bool false)]⟩ ::
 ⟨(some 61), none, .p .mov, [.t 60]⟩ ::
 ⟨(some 62), (some (61, true)), .p .mov, [.t 5]⟩ ::
 ⟨(some 63), (some (61, true)), .p (.bin .eql), [.t 62, .c (.int .i64 0)]⟩ ::
 ⟨(some 64), none, .p .pick, [.t 61, .t 63, .c (.bool false)]⟩ ::
 ⟨(some 65), none, .p .mov, [.t 64]⟩ ::
 ⟨(some 66), (some (65, true)), .p .mov, [.t 6]⟩ ::
 ⟨(some 67), (some (65, true)), .p (.bin .eql), [.t 66, .c (.int .i64 0)]⟩ ::
 ⟨(some 68), none, .p .pick, [.t 65, .t 67, .c (.bool false)]⟩ ::
 ⟨(some 69), none, .p .mov, [.t 68]⟩ ::
 ⟨(some 70), (some (69, true)), .p .mov, [.t 7]⟩ ::
 ⟨(some 71), (some (69, true)), .p (.bin .eql), [.t 70, .c (.int .i64 0)]⟩ ::
 ⟨(some 72), none, .p .pick, [.t 69, .t 71, .c (.bool false)]⟩ ::
 ⟨(some 73), none, .p .mov, [.t 72]⟩ ::
 ⟨(some 74), (some (73, true)), .p .mov, [.t 8]⟩ ::
 ⟨(some 75), (some (73, true)), .p (.bin .eql), [.t 74, .c (.int .i64 12)]⟩ ::
 ⟨(some 76), none, .p .pick, [.t 73, .t 75, .c (.bool false)]⟩ ::
 ⟨(some 77), none, .p .mov, [.t 76]⟩ ::
 ⟨(some 78), (some (77, true)), .p .mov, [.t 9]⟩ ::
 ⟨(some 79), (some (77, true)), .p (.bin .eql), [.t 78, .c (.int .i64 120)]⟩ ::
 ⟨(some 80), none, .p .pick, [.t 77, .t 79, .c (.bool false)]⟩ ::
 ⟨(some 81), none, .p .mov, [.t 80]⟩ ::
 ⟨(some 82), (some (81, true)), .p .mov, [.t 10]⟩ ::
 ⟨(some 83), (some (81, true)), .p (.bin .eql), [.t 82, .c (.int .i64 0)]⟩ ::
 ⟨(some 84), none, .p .pick, [.t 81, .t 83, .c (.bool false)]⟩ ::
 ⟨(some 85), none, .p .mov, [.t 84]⟩ ::
 ⟨(some 86), (some (85, true)), .p .mov, [.t 11]⟩ ::
 ⟨(some 87), (some (85, true)), .p (.bin .eql), [.t 86, .c (.int .i64 120)]⟩ ::
 ⟨(some 88), none, .p .pick, [.t 85, .t 87, .c (.bool false)]⟩ ::
 ⟨(some 0), none, .p .mov, [.t 88]⟩ ::
 []))
.ret))))))))))⟩
abbrev f_escapementlaw10_works : Nat := 13
abbrev C_escapementlaw10_works : AFunc := C13
def C14 : AFunc := ⟨14, [.tmp 4],
(.seq (.ops (⟨(some 4), none, .p .mov, [.c (.int .i64 0)]⟩ ::
 []))
(.seq (.ops (⟨(some 5), none, .p .mov, [.t 0]⟩ ::
 ⟨(some 6), none, .p .mov, [.t 1]⟩ ::
 ⟨(some 7), none, .p (.bin .rem), [.t 5, .t 6]⟩ ::
 ⟨(some 0), none, .p .mov, [.t 7]⟩ ::
 []))
(.seq (.seq (.ops (⟨(some 8), none, .p .mov, [.t 0]⟩ ::
 ⟨(some 9), none, .p (.bin .lss), [.t 8, .c (.int .i64 0)]⟩ ::
 []))
(.cond (.t 9)
(.ops (⟨(some 10), none, .p .mov, [.t 0]⟩ ::
 ⟨(some 11), none, .p .mov, [.t 1]⟩ ::
 ⟨(some 12), none, .p (.bin .add), [.t 10, .t 11]⟩ ::
 ⟨(some 0), none, .p .mov, [.t 12]⟩ ::
 []))
.skip))
(.seq (.ops (⟨(some 13), none, .p .mov, [.t 0]⟩ ::
 ⟨(some 4), none, .p .mov, [.t 13]⟩ ::
 []))
.ret))))⟩
abbrev f_escapementref00_Bring : Nat := 14
abbrev C_escapementref00_Bring : AFunc := C14
def L_local_Test_0 : AC := (.seq (.ops (⟨(some 70), none, .p (.bin .lss), [.t 69, .t 68]⟩ ::
 []))
(.seq (.cond (.t 70)
.skip
(.exit 0))
(.seq (.block 1 (.seq (.ops (⟨(some 71), none, .p (.iaddrS 8), [.t 67, .t 69]⟩ ::
 ⟨(some 72), none, .r (.loadN 8), [.t 71]⟩ ::
 ⟨(some 12), none, .a (.alloc [(.int .i64 0), (.int .i64 0), (.int .i64 0), (.int .i64 0), (.int .i64 0), (.int .i64 0), (.int .i64 0), (.int .i64 0)]), []⟩ ::
 ⟨none, none, .e (.store 8), [.t 12, .t 72]⟩ ::
 []))
(.ops (⟨(some 73), none, .p .mov, [.t 10]⟩ ::
 ⟨(some 74), none, .p (.faddr 1), [.t 12]⟩ ::
 ⟨(some 75), none, .r .load1, [.t 74]⟩ ::
 ⟨(some 76), none, .p .mx, [.t 73, .t 75]⟩ ::
 ⟨(some 10), none, .p .mov, [.t 76]⟩ ::
 []))))
(.ops (⟨(some 77), none, .p (.bin .add), [.t 69, .c (.int .i64 1)]⟩ ::
 ⟨(some 69), none, .p .mov, [.t 77]⟩ ::
 [])))))
def L_local_Test_1a : AC := (.seq (.ops (⟨(some 13), none, .p .mov, [.t 90]⟩ ::
 []))
(.ops (⟨(some 14), none, .p .mov, [.t 91]⟩ ::
 [])))
def L_local_Test_1b : AC := (.block 3 (.seq (.ops (⟨(some 92), none, .p .mov, [.t 14]⟩ ::
 ⟨(some 93), none, .p (.bin .lss), [.t 92, .c (.int .i64 0)]⟩ ::
 []))
(.cond (.t 93)
(.seq (.ops (⟨(some 94), none, .p .mov, [.t 13]⟩ ::
 ⟨none, none, .e (.store 1), [.t 4, .t 94]⟩ ::
 ⟨none, none, .e (.store 1), [.t 5, .c (.int .i64 120)]⟩ ::
 []))
.ret)
.skip)))
def C15 : AFunc := ⟨95, [.cell 4 1 false, .cell 5 1 false],
(.seq (.ops (⟨(some 4), none, .a (.alloc [(.int .i64 0)]), []⟩ ::
 ⟨(some 5), none, .a (.alloc [(.int .i64 0)]), []⟩ ::
 []))
(.seq (.ops (⟨(some 16), none, .p .mov, [.t 0]⟩ ::
 ⟨(some 17), none, .p .mov, [.t 1]⟩ ::
 ⟨(some 18), none, .call, [.c (.func (.func 37) [] []), .t 16, .t 17]⟩ ::
 ⟨(some 15), none, .p .mov, [.t 18]⟩ ::
 ⟨(some 19), none, .p (.ext 0), [.t 15]⟩ ::
 ⟨(some 20), none, .p (.ext 1), [.t 15]⟩ ::
 ⟨(some 6), none, .a (.alloc [(.int .i64 0), (.int .i64 0), .nils, .nils, (.int .i64 0), .nils]), []⟩ ::
 ⟨none, none, .e (.store 6), [.t 6, .t 19]⟩ ::
 ⟨none, none, .e (.store 1), [.t 5, .t 20]⟩ ::
 []))
(.seq (.seq (.ops (⟨(some 21), none, .r .load1, [.t 5]⟩ ::
 ⟨(some 22), none, .p (.bin .neq), [.t 21, .c (.int .i64 0)]⟩ ::
 ⟨(some 23), none, .p .mov, [.t 22]⟩ ::
 ⟨(some 24), (some (23, false)), .p (.faddr 0), [.t 6]⟩ ::
 ⟨(some 25), (some (23, false)), .p (.faddr 2), [.t 24]⟩ ::
 ⟨(some 26), (some (23, false)), .r .load1, [.t 25]⟩ ::
 ⟨(some 27), (some (23, false)), .p .lenS, [.t 26]⟩ ::
 ⟨(some 28), (some (23, false)), .p (.bin .eql), [.t 27, .c (.int .i64 0)]⟩ ::
 ⟨(some 29), none, .p .pick, [.t 23, .c (.bool true), .t 28]⟩ ::
 []))
(.cond (.t 29)
(.seq (.dops (⟨(some 30), none, .r .load1, [.t 5]⟩ ::
 ⟨none, none, .e (.store 1), [.t 4, .c (.int .i64 0)]⟩ ::
 ⟨none, none, .e (.store 1), [.t 5, .t 30]⟩ ::
 []) ([0, 2] :: [] :: [] :: []))
.ret)
.skip))
(.seq (.ops (⟨(some 32), none, .p (.faddr 0), [.t 6]⟩ ::
 ⟨(some 33), none, .p (.faddr 2), [.t 32]⟩ ::
 ⟨(some 34), none, .r .load1, [.t 33]⟩ ::
 ⟨(some 35), none, .p (.faddr 0), [.t 6]⟩ ::
 ⟨(some 36), none, .p (.faddr 0), [.t 35]⟩ ::
 ⟨(some 37), none, .r .load1, [.t 36]⟩ ::
 ⟨(some 38), none, .call, [.c (.func (.func 38) [] []), .t 34, .t 37]⟩ ::
 ⟨(some 31), none, .p .mov, [.t 38]⟩ ::
 ⟨(some 39), none, .p (.ext 0), [.t 31]⟩ ::
 ⟨(some 40), none, .p (.ext 1), [.t 31]⟩ ::
 ⟨(some 7), none, .p .mov, [.t 39]⟩ ::
 ⟨none, none, .e (.store 1), [.t 5, .t 40]⟩ ::
 []))
(.seq (.seq (.ops (⟨(some 41), none, .r .load1, [.t 5]⟩ ::
 ⟨(some 42), none, .p (.bin .neq), [.t 41, .c (.int .i64 0)]⟩ ::
 []))
(.cond (.t 42)
(.seq (.dops (⟨(some 43), none, .r .load1, [.t 5]⟩ ::
 ⟨none, none, .e (.store 1), [.t 4, .c (.int .i64 0)]⟩ ::
 ⟨none, none, .e (.store 1), [.t 5, .t 43]⟩ ::
 []) ([0, 2] :: [] :: [] :: []))
.ret)
.skip))
(.seq (.seq (.ops (⟨(some 45), none, .p (.faddr 0), [.t 6]⟩ ::
 ⟨(some 46), none, .p (.faddr 2), [.t 45]⟩ ::
 ⟨(some 47), none, .r .load1, [.t 46]⟩ ::
 ⟨(some 48), none, .p (.faddr 5), [.t 6]⟩ ::
 ⟨(some 49), none, .r .load1, [.t 48]⟩ ::
 ⟨(some 50), none, .p .mov, [.t 7]⟩ ::
 ⟨(some 51), none, .call, [.c (.func (.func 39) [] []), .t 47, .t 49, .t 50]⟩ ::
 ⟨(some 44), none, .p .mov, [.t 51]⟩ ::
 ⟨(some 52), none, .p (.ext 0), [.t 44]⟩ ::
 ⟨(some 53), none, .p (.ext 1), [.t 44]⟩ ::
 ⟨(some 8), none, .p .mov, [.t 52]⟩ ::
 ⟨(some 9), none, .p .mov, [.t 53]⟩ ::
 []))
(.seq (.dops (⟨(some 54), none, .p .mov, [.t 8]⟩ ::
 ⟨(some 55), none, .p .mov, [.t 7]⟩ ::
 ⟨(some 56), none, .p (.faddr 0), [.t 6]⟩ ::
 ⟨(some 57), none, .p (.faddr 0), [.t 56]⟩ ::
 ⟨(some 58), none, .r .load1, [.t 57]⟩ ::
 ⟨(some 59), none, .p (.bin .quo), [.t 55, .t 58]⟩ ::
 ⟨(some 60), none, .p (.faddr 0), [.t 6]⟩ ::
 ⟨(some 61), none, .p (.faddr 1), [.t 60]⟩ ::
 ⟨(some 62), none, .r .load1, [.t 61]⟩ ::
 ⟨(some 63), none, .p (.bin .mul), [.t 59, .t 62]⟩ ::
 ⟨(some 64), none, .p (.bin .gtr), [.t 54, .t 63]⟩ ::
 []) ([] :: [] :: [] :: [] :: [] :: [] :: [] :: [] :: [] :: [] :: [] :: []))
(.cond (.t 64)
(.seq (.ops (⟨none, none, .e (.store 1), [.t 4, .c (.int .i64 0)]⟩ ::
 ⟨none, none, .e (.store 1), [.t 5, .c (.int .i64 120)]⟩ ::
 []))
.ret)
.skip)))
(.seq (.ops (⟨(some 10), none, .p .mov, [.c (.int .i64 0)]⟩ ::
 []))
(.seq (.seq (.ops (⟨(some 65), none, .p (.faddr 0), [.t 6]⟩ ::
 ⟨(some 66), none, .p (.faddr 2), [.t 65]⟩ ::
 ⟨(some 67), none, .r .load1, [.t 66]⟩ ::
 ⟨(some 68), none, .p .lenS, [.t 67]⟩ ::
 ⟨(some 69), none, .p .mov, [.c (.int .i64 0)]⟩ ::
 []))
(.block 0 (.loop L_local_Test_0)))
(.seq (.seq (.dops (⟨(some 78), none, .r (.loadN 6), [.t 6]⟩ ::
 ⟨(some 79), none, .p .mov, [.t 7]⟩ ::
 ⟨(some 80), none, .p .mov, [.t 10]⟩ ::
 ⟨(some 81), none, .p (.faddr 0), [.t 6]⟩ ::
 ⟨(some 82), none, .p (.faddr 0), [.t 81]⟩ ::
 ⟨(some 83), none, .r .load1, [.t 82]⟩ ::
 ⟨(some 84), none, .p (.faddr 0), [.t 6]⟩ ::
 ⟨(some 85), none, .p (.faddr 0), [.t 84]⟩ ::
 ⟨(some 86), none, .r .load1, [.t 85]⟩ ::
 ⟨(some 87), none, .a (.bslice [(.int .i64 0)] 4 1 [0, 1, 2, 3]), [.t 79, .t 80, .t 83, .t 86]⟩ ::
 ⟨(some 88), none, .call, [.c (.func (.func 41) [] []), .t 87]⟩ ::
 ⟨(some 89), none, .call, [.c (.func (.func 40) [] []), .t 78, .t 88]⟩ ::
 []) ([0, 11] :: [] :: [] :: [] :: [] :: [] :: [] :: [] :: [] :: [] :: [] :: [] :: []))
(.block 2 (.rangeFunc (.t 89) [90, 91] L_local_Test_1a L_local_Test_1b)))
(.seq (.ops (⟨none, none, .e (.store 1), [.t 4, .c (.int .i64 0)]⟩ ::
 ⟨none, none, .e (.store 1), [.t 5, .c (.int .i64 0)]⟩ ::
 []))
.ret))))))))))⟩
abbrev f_local_Test : Nat := 15
abbrev C_local_Test : AFunc := C15
def C16 : AFunc := ⟨28, [.tmp 6, .tmp 7],
(.seq (.ops (⟨(some 6), none, .p .mov, [.c (.int .i64 0)]⟩ ::
 ⟨(some 7), none, .p .mov, [.c (.int .i64 0)]⟩ ::
 []))
(.seq (.ops (⟨(some 11), none, .p .mov, [.t 0]⟩ ::
 ⟨(some 12), none, .p .mov, [.t 1]⟩ ::
 ⟨(some 13), none, .call, [.c (.func (.func 37) [] []), .t 11, .t 12]⟩ ::
 ⟨(some 10), none, .p .mov, [.t 13]⟩ ::
 ⟨(some 14), none, .p (.ext 0), [.t 10]⟩ ::
 ⟨(some 15), none, .p (.ext 1), [.t 10]⟩ ::
 ⟨(some 8), none, .a (.alloc [(.int .i64 0), (.int .i64 0), .nils, .nils, (.int .i64 0), .nils]), []⟩ ::
 ⟨none, none, .e (.store 6), [.t 8, .t 14]⟩ ::
 ⟨(some 9), none, .p .mov, [.t 15]⟩ ::
 []))
(.seq (.block 0 (.seq (.ops (⟨(some 17), none, .p .mov, [.t 9]⟩ ::
 ⟨(some 18), none, .p (.bin .neq), [.t 17, .c (.int .i64 0)]⟩ ::
 ⟨(some 16), none, .p .mov, [.t 18]⟩ ::
 []))
(.cond (.t 16)
(.seq (.ops (⟨(some 19), none, .p .mov, [.t 9]⟩ ::
 ⟨(some 6), none, .p .mov, [.c (.int .i64 0)]⟩ ::
 ⟨(some 7), none, .p .mov, [.t 19]⟩ ::
 []))
.ret)
(.seq (.seq (.ops (⟨(some 21), none, .p .mov, [.t 2]⟩ ::
 ⟨(some 22), none, .p (.bin .lss), [.t 21, .c (.int .i64 0)]⟩ ::
 ⟨(some 20), none, .p .mov, [.t 22]⟩ ::
 []))
(.cond (.t 20)
.skip
(.ops (⟨(some 23), none, .p .mov, [.t 2]⟩ ::
 ⟨(some 24), none, .p (.bin .gtr), [.t 23, .c (.int .i64 1048576)]⟩ ::
 ⟨(some 20), none, .p .mov, [.t 24]⟩ ::
 []))))
(.cond (.t 20)
(.seq (.ops (⟨(some 6), none, .p .mov, [.c (.int .i64 0)]⟩ ::
 ⟨(some 7), none, .p .mov, [.c (.int .i64 2)]⟩ ::
 []))
.ret)
.skip)))))
(.seq (.ops (⟨(some 25), none, .r (.loadN 6), [.t 8]⟩ ::
 ⟨(some 26), none, .p .mov, [.t 2]⟩ ::
 ⟨(some 27), none, .call, [.c (.func (.func 42) [] []), .t 25, .t 26]⟩ ::
 ⟨(some 6), none, .p .mov, [.t 27]⟩ ::
 ⟨(some 7), none, .p .mov, [.c (.int .i64 0)]⟩ ::
 []))
.ret))))⟩
abbrev f_local_Slack : Nat := 16
abbrev C_local_Slack : AFunc := C16
def L_escapementlaw10_asks_0 : AC := (.seq (.seq (.ops (⟨(some 8), none, .p .mov, [.t 6]⟩ ::
 ⟨(some 9), none, .p (.faddr 2), [.t 2]⟩ ::
 ⟨(some 10), none, .r .load1, [.t 9]⟩ ::
 ⟨(some 11), none, .p .lenS, [.t 10]⟩ ::
 ⟨(some 12), none, .p (.bin .lss), [.t 8, .t 11]⟩ ::
 []))
(.cond (.t 12)
.skip
(.exit 0)))
(.seq (.block 1 (.seq (.ops (⟨(some 15), none, .p (.faddr 2), [.t 2]⟩ ::
 ⟨(some 16), none, .r .load1, [.t 15]⟩ ::
 ⟨(some 17), none, .p .mov, [.t 6]⟩ ::
 ⟨(some 18), none, .p (.iaddrS 8), [.t 16, .t 17]⟩ ::
 ⟨(some 19), none, .r (.loadN 8), [.t 18]⟩ ::
 ⟨(some 7), none, .a (.alloc [(.int .i64 0), (.int .i64 0), (.int .i64 0), (.int .i64 0), (.int .i64 0), (.int .i64 0), (.int .i64 0), (.int .i64 0)]), []⟩ ::
 ⟨none, none, .e (.store 8), [.t 7, .t 19]⟩ ::
 []))
(.seq (.ops (⟨(some 20), none, .p .mov, [.t 1]⟩ ::
 ⟨(some 21), none, .p (.faddr 1), [.t 7]⟩ ::
 ⟨(some 22), none, .r .load1, [.t 21]⟩ ::
 ⟨(some 23), none, .p (.bin .geq), [.t 20, .t 22]⟩ ::
 []))
(.cond (.t 23)
(.dops (⟨(some 24), none, .p .mov, [.t 5]⟩ ::
 ⟨(some 25), none, .p .mov, [.t 1]⟩ ::
 ⟨(some 26), none, .p (.faddr 1), [.t 7]⟩ ::
 ⟨(some 27), none, .r .load1, [.t 26]⟩ ::
 ⟨(some 28), none, .p (.bin .sub), [.t 25, .t 27]⟩ ::
 ⟨(some 29), none, .p (.faddr 0), [.t 7]⟩ ::
 ⟨(some 30), none, .r .load1, [.t 29]⟩ ::
 ⟨(some 31), none, .p (.bin .quo), [.t 28, .t 30]⟩ ::
 ⟨(some 32), none, .p (.bin .add), [.c (.int .i64 1), .t 31]⟩ ::
 ⟨(some 33), none, .p (.faddr 2), [.t 7]⟩ ::
 ⟨(some 34), none, .r .load1, [.t 33]⟩ ::
 ⟨(some 35), none, .p (.bin .mul), [.t 32, .t 34]⟩ ::
 ⟨(some 36), none, .p (.bin .add), [.t 24, .t 35]⟩ ::
 ⟨(some 5), none, .p .mov, [.t 36]⟩ ::
 []) ([] :: [] :: [] :: [] :: [] :: [] :: [] :: [] :: [] :: [] :: [] :: [] :: [] :: [] :: []))
.skip))))
(.ops (⟨(some 13), none, .p .mov, [.t 6]⟩ ::
 ⟨(some 14), none, .p (.bin .add), [.t 13, .c (.int .i64 1)]⟩ ::
 ⟨(some 6), none, .p .mov, [.t 14]⟩ ::
 []))))
def C17 : AFunc := ⟨38, [.tmp 4],
(.seq (.ops (⟨(some 2), none, .a .box, [.t 0]⟩ ::
 ⟨(some 4), none, .p .mov, [.c (.int .i64 0)]⟩ ::
 []))
(.seq (.ops (⟨(some 5), none, .p .mov, [.c (.int .i64 0)]⟩ ::
 []))
(.seq (.seq (.ops (⟨(some 6), none, .p .mov, [.c (.int .i64 0)]⟩ ::
 []))
(.block 0 (.loop L_escapementlaw10_asks_0)))
(.seq (.ops (⟨(some 37), none, .p .mov, [.t 5]⟩ ::
 ⟨(some 4), none, .p .mov, [.t 37]⟩ ::
 []))
.ret))))⟩
abbrev f_escapementlaw10_asks : Nat := 17
abbrev C_escapementlaw10_asks : AFunc := C17
def L_escapementlaw10_given_1 : AC := (.seq (.seq (.ops (⟨(some 31), none, .p .mov, [.t 9]⟩ ::
 ⟨(some 32), none, .p (.faddr 0), [.t 3]⟩ ::
 ⟨(some 33), none, .r .load1, [.t 32]⟩ ::
 ⟨(some 34), none, .p (.bin .lss), [.t 31, .t 33]⟩ ::
 []))
(.cond (.t 34)
.skip
(.exit 2)))
(.seq (.block 3 (.seq (.ops (⟨(some 37), none, .p .mov, [.t 8]⟩ ::
 ⟨(some 38), none, .p (.bin .gtr), [.t 37, .c (.int .i64 0)]⟩ ::
 ⟨(some 39), none, .p .mov, [.t 38]⟩ ::
 ⟨(some 40), (some (39, true)), .p .mov, [.t 8]⟩ ::
 ⟨(some 41), (some (39, true)), .p (.faddr 0), [.t 3]⟩ ::
 ⟨(some 42), (some (39, true)), .r .load1, [.t 41]⟩ ::
 ⟨(some 43), (some (39, true)), .p .mov, [.t 9]⟩ ::
 ⟨(some 44), (some (39, true)), .p (.bin .sub), [.t 42, .t 43]⟩ ::
 ⟨(some 45), (some (39, true)), .p (.bin .geq), [.t 40, .t 44]⟩ ::
 ⟨(some 46), (some (39, true)), .p .mov, [.t 45]⟩ ::
 ⟨(some 47), (some (46, false)), .p .mov, [.t 7]⟩ ::
 ⟨(some 48), (some (46, false)), .p .mov, [.t 9]⟩ ::
 ⟨(some 49), (some (46, false)), .p (.bin .rem), [.t 48, .c (.int .i64 20)]⟩ ::
 ⟨(some 50), (some (46, false)), .p (.bin .shr), [.t 47, .t 49]⟩ ::
 ⟨(some 51), (some (46, false)), .p (.bin .and), [.t 50, .c (.int .i64 1)]⟩ ::
 ⟨(some 52), (some (46, false)), .p (.bin .eql), [.t 51, .c (.int .i64 1)]⟩ ::
 ⟨(some 53), (some (39, true)), .p .pick, [.t 46, .c (.bool true), .t 52]⟩ ::
 ⟨(some 54), none, .p .pick, [.t 39, .t 53, .c (.bool false)]⟩ ::
 ⟨(some 10), none, .p .mov, [.t 54]⟩ ::
 []))
(.seq (.seq (.ops (⟨(some 55), none, .p .mov, [.t 10]⟩ ::
 []))
(.cond (.t 55)
(.ops (⟨(some 56), none, .p .mov, [.t 8]⟩ ::
 ⟨(some 57), none, .p (.bin .sub), [.t 56, .c (.int .i64 1)]⟩ ::
 ⟨(some 8), none, .p .mov, [.t 57]⟩ ::
 []))
.skip))
(.ops (⟨(some 58), none, .p .mov, [.t 2]⟩ ::
 ⟨(some 59), none, .p .mov, [.t 10]⟩ ::
 ⟨(some 60), none, .a (.bslice [(.bool false)] 1 1 [0]), [.t 59]⟩ ::
 ⟨(some 61), none, .e (.append 1 1), [.t 58, .t 60]⟩ ::
 ⟨(some 2), none, .p .mov, [.t 61]⟩ ::
 [])))))
(.ops (⟨(some 35), none, .p .mov, [.t 9]⟩ ::
 ⟨(some 36), none, .p (.bin .add), [.t 35, .c (.int .i64 1)]⟩ ::
 ⟨(some 9), none, .p .mov, [.t 36]⟩ ::
 []))))
def L_escapementlaw10_given_0 : AC := (.seq (.seq (.ops (⟨(some 11), none, .p .mov, [.t 2]⟩ ::
 ⟨(some 12), none, .p .lenS, [.t 11]⟩ ::
 ⟨(some 13), none, .p (.bin .lss), [.t 12, .c (.int .i64 400)]⟩ ::
 []))
(.cond (.t 13)
.skip
(.exit 0)))
(.block 1 (.seq (.ops (⟨(some 7), none, .p .mov, [.c (.int .i64 0)]⟩ ::
 []))
(.seq (.seq (.ops (⟨(some 14), none, .p .mov, [.t 1]⟩ ::
 ⟨(some 15), none, .p .lenS, [.t 14]⟩ ::
 ⟨(some 16), none, .p (.bin .gtr), [.t 15, .c (.int .i64 0)]⟩ ::
 []))
(.cond (.t 16)
(.ops (⟨(some 17), none, .p .mov, [.t 1]⟩ ::
 ⟨(some 18), none, .p .mov, [.t 2]⟩ ::
 ⟨(some 19), none, .p .lenS, [.t 18]⟩ ::
 ⟨(some 20), none, .p (.faddr 0), [.t 3]⟩ ::
 ⟨(some 21), none, .r .load1, [.t 20]⟩ ::
 ⟨(some 22), none, .p (.bin .quo), [.t 19, .t 21]⟩ ::
 ⟨(some 23), none, .p .mov, [.t 1]⟩ ::
 ⟨(some 24), none, .p .lenS, [.t 23]⟩ ::
 ⟨(some 25), none, .p (.bin .rem), [.t 22, .t 24]⟩ ::
 ⟨(some 26), none, .p (.iaddrS 1), [.t 17, .t 25]⟩ ::
 ⟨(some 27), none, .r .load1, [.t 26]⟩ ::
 ⟨(some 28), none, .call, [.c (.func (.func 14) [] []), .t 27, .c (.int .i64 1048576)]⟩ ::
 ⟨(some 7), none, .p .mov, [.t 28]⟩ ::
 []))
.skip))
(.seq (.ops (⟨(some 29), none, .p (.faddr 1), [.t 3]⟩ ::
 ⟨(some 30), none, .r .load1, [.t 29]⟩ ::
 ⟨(some 8), none, .p .mov, [.t 30]⟩ ::
 []))
(.seq (.ops (⟨(some 9), none, .p .mov, [.c (.int .i64 0)]⟩ ::
 []))
(.block 2 (.loop L_escapementlaw10_given_1))))))))
def C18 : AFunc := ⟨63, [.tmp 6],
(.seq (.ops (⟨(some 3), none, .a .box, [.t 0]⟩ ::
 ⟨(some 6), none, .p .mov, [.c .nils]⟩ ::
 []))
(.seq (.block 0 (.loop L_escapementlaw10_given_0))
(.seq (.ops (⟨(some 62), none, .p .mov, [.t 2]⟩ ::
 ⟨(some 6), none, .p .mov, [.t 62]⟩ ::
 []))
.ret)))⟩
abbrev f_escapementlaw10_given : Nat := 18
abbrev C_escapementlaw10_given : AFunc := C18
def C19 : AFunc := ⟨6, [.tmp 2],
(.seq (.ops (⟨(some 2), none, .p .mov, [.c .nils]⟩ ::
 []))
(.seq (.ops (⟨(some 3), none, .p .mov, [.t 0]⟩ ::
 ⟨(some 4), none, .p (.build [(.int .i64 0), (.int .i64 0), .nils] [(0, 1), (1, 1), (2, 1)]), [.c (.int .i64 5), .c (.int .i64 2), .t 3]⟩ ::
 ⟨(some 5), none, .a (.bslice [(.int .i64 0), (.int .i64 0), .nils] 1 3 [0]), [.t 4]⟩ ::
 ⟨(some 2), none, .p .mov, [.t 5]⟩ ::
 []))
.ret))⟩
abbrev f_escapementlaw10_one : Nat := 19
abbrev C_escapementlaw10_one : AFunc := C19
def L_escapementlaw30_cutParts_0 : AC := (.seq (.seq (.ops (⟨(some 7), none, .p .mov, [.t 4]⟩ ::
 ⟨(some 8), none, .p .mov, [.t 0]⟩ ::
 ⟨(some 9), none, .p .lenS, [.t 8]⟩ ::
 ⟨(some 10), none, .p (.bin .lss), [.t 7, .t 9]⟩ ::
 ⟨(some 11), none, .p .mov, [.t 10]⟩ ::
 ⟨(some 12), (some (11, true)), .p .mov, [.t 4]⟩ ::
 ⟨(some 13), (some (11, true)), .p (.bin .lss), [.t 12, .c (.int .i64 6)]⟩ ::
 ⟨(some 14), none, .p .pick, [.t 11, .t 13, .c (.bool false)]⟩ ::
 []))
(.cond (.t 14)
.skip
(.exit 0)))
(.seq (.block 1 (.seq (.ops (⟨(some 17), none, .p .mov, [.t 0]⟩ ::
 ⟨(some 18), none, .p .mov, [.t 4]⟩ ::
 ⟨(some 19), none, .p (.iaddrS 3), [.t 17, .t 18]⟩ ::
 ⟨(some 20), none, .r (.loadN 3), [.t 19]⟩ ::
 ⟨(some 5), none, .a (.alloc [(.int .i64 0), (.int .i64 0), .nils]), []⟩ ::
 ⟨none, none, .e (.store 3), [.t 5, .t 20]⟩ ::
 []))
(.seq (.ops (⟨(some 6), none, .p .mov, [.c .nils]⟩ ::
 []))
(.seq (.ops (⟨(some 21), none, .p .mov, [.t 6]⟩ ::
 ⟨(some 22), none, .p (.faddr 2), [.t 5]⟩ ::
 ⟨(some 23), none, .r .load1, [.t 22]⟩ ::
 ⟨(some 24), none, .p (.faddr 2), [.t 5]⟩ ::
 ⟨(some 25), none, .r .load1, [.t 24]⟩ ::
 ⟨(some 26), none, .p .lenS, [.t 25]⟩ ::
 ⟨(some 27), none, .p .mn, [.t 26, .c (.int .i64 6)]⟩ ::
 ⟨(some 28), none, .p (.slice 8 false true false), [.t 23, .t 27]⟩ ::
 ⟨(some 29), none, .e (.append 8 64), [.t 21, .t 28]⟩ ::
 ⟨(some 30), none, .p (.faddr 2), [.t 5]⟩ ::
 ⟨none, none, .e (.store 1), [.t 30, .t 29]⟩ ::
 []))
(.ops (⟨(some 31), none, .p .mov, [.t 3]⟩ ::
 ⟨(some 32), none, .r (.loadN 3), [.t 5]⟩ ::
 ⟨(some 33), none, .a (.bslice [(.int .i64 0), (.int .i64 0), .nils] 1 3 [0]), [.t 32]⟩ ::
 ⟨(some 34), none, .e (.append 3 40), [.t 31, .t 33]⟩ ::
 ⟨(some 3), none, .p .mov, [.t 34]⟩ ::
 []))))))
(.ops (⟨(some 15), none, .p .mov, [.t 4]⟩ ::
 ⟨(some 16), none, .p (.bin .add), [.t 15, .c (.int .i64 1)]⟩ ::
 ⟨(some 4), none, .p .mov, [.t 16]⟩ ::
 []))))
def C20 : AFunc := ⟨36, [.tmp 2],
(.seq (.ops (⟨(some 2), none, .p .mov, [.c .nils]⟩ ::
 []))
(.seq (.ops (⟨(some 3), none, .p .mov, [.c .nils]⟩ ::
 []))
(.seq (.seq (.ops (⟨(some 4), none, .p .mov, [.c (.int .i64 0)]⟩ ::
 []))
(.block 0 (.loop L_escapementlaw30_cutParts_0)))
(.seq (.ops (⟨(some 35), none, .p .mov, [.t 3]⟩ ::
 ⟨(some 2), none, .p .mov, [.t 35]⟩ ::
 []))
.ret))))⟩
abbrev f_escapementlaw30_cutParts : Nat := 20
abbrev C_escapementlaw30_cutParts : AFunc := C20
def C21 : AFunc := ⟨27, [.tmp 2, .tmp 3, .tmp 4],
(.seq (.ops (⟨(some 2), none, .p .mov, [.c (.int .i64 0)]⟩ ::
 ⟨(some 3), none, .p .mov, [.c (.int .i64 0)]⟩ ::
 ⟨(some 4), none, .p .mov, [.c (.int .i64 0)]⟩ ::
 []))
(.seq (.ops (⟨(some 6), none, .p .mov, [.t 0]⟩ ::
 ⟨(some 7), none, .call, [.c (.func (.func 29) [] []), .t 6]⟩ ::
 ⟨(some 5), none, .p .mov, [.t 7]⟩ ::
 ⟨(some 8), none, .p (.ext 0), [.t 5]⟩ ::
 ⟨(some 9), none, .p (.ext 1), [.t 5]⟩ ::
 ⟨(some 10), none, .p (.ext 2), [.t 5]⟩ ::
 ⟨(some 2), none, .p .mov, [.t 8]⟩ ::
 ⟨(some 3), none, .p .mov, [.t 9]⟩ ::
 ⟨(some 4), none, .p .mov, [.t 10]⟩ ::
 []))
(.seq (.block 0 (.seq (.ops (⟨(some 12), none, .p .mov, [.t 4]⟩ ::
 ⟨(some 13), none, .p (.bin .neq), [.t 12, .c (.int .i64 0)]⟩ ::
 ⟨(some 11), none, .p .mov, [.t 13]⟩ ::
 []))
(.cond (.t 11)
(.seq (.ops (⟨(some 14), none, .p .mov, [.t 4]⟩ ::
 ⟨(some 2), none, .p .mov, [.c (.int .i64 0)]⟩ ::
 ⟨(some 3), none, .p .mov, [.c (.int .i64 0)]⟩ ::
 ⟨(some 4), none, .p .mov, [.t 14]⟩ ::
 []))
.ret)
(.seq (.ops (⟨(some 16), none, .p .mov, [.t 2]⟩ ::
 ⟨(some 17), none, .p .mov, [.t 3]⟩ ::
 ⟨(some 18), none, .p (.bin .gtr), [.t 16, .t 17]⟩ ::
 ⟨(some 15), none, .p .mov, [.t 18]⟩ ::
 []))
(.cond (.t 15)
(.seq (.ops (⟨(some 2), none, .p .mov, [.c (.int .i64 0)]⟩ ::
 ⟨(some 3), none, .p .mov, [.c (.int .i64 0)]⟩ ::
 ⟨(some 4), none, .p .mov, [.c (.int .i64 120)]⟩ ::
 []))
.ret)
(.seq (.ops (⟨(some 20), none, .p .mov, [.t 2]⟩ ::
 ⟨(some 21), none, .p .mov, [.t 3]⟩ ::
 ⟨(some 22), none, .p (.bin .eql), [.t 20, .t 21]⟩ ::
 ⟨(some 19), none, .p .mov, [.t 22]⟩ ::
 []))
(.cond (.t 19)
(.seq (.ops (⟨(some 2), none, .p .mov, [.c (.int .i64 0)]⟩ ::
 ⟨(some 3), none, .p .mov, [.c (.int .i64 1)]⟩ ::
 ⟨(some 4), none, .p .mov, [.c (.int .i64 0)]⟩ ::
 []))
.ret)
.skip)))))))
(.seq (.ops (⟨(some 23), none, .p .mov, [.t 3]⟩ ::
 ⟨(some 24), none, .p .mov, [.t 2]⟩ ::
 ⟨(some 25), none, .p (.bin .sub), [.t 23, .t 24]⟩ ::
 ⟨(some 26), none, .p .mov, [.t 3]⟩ ::
 ⟨(some 2), none, .p .mov, [.t 25]⟩ ::
 ⟨(some 3), none, .p .mov, [.t 26]⟩ ::
 ⟨(some 4), none, .p .mov, [.c (.int .i64 0)]⟩ ::
 []))
.ret))))⟩
abbrev f_tune_Left : Nat := 21
abbrev C_tune_Left : AFunc := C21
def C22 : AFunc := ⟨27, [.tmp 2, .tmp 3, .tmp 4],
(.seq (.ops (⟨(some 2), none, .p .mov, [.c (.int .i64 0)]⟩ ::
 ⟨(some 3), none, .p .mov, [.c (.int .i64 0)]⟩ ::
 ⟨(some 4), none, .p .mov, [.c (.int .i64 0)]⟩ ::
 []))
(.seq (.ops (⟨(some 9), none, .p .mov, [.t 0]⟩ ::
 ⟨(some 10), none, .call, [.c (.func (.func 43) [] []), .t 9]⟩ ::
 ⟨(some 8), none, .p .mov, [.t 10]⟩ ::
 ⟨(some 11), none, .p (.ext 0), [.t 8]⟩ ::
 ⟨(some 12), none, .p (.ext 1), [.t 8]⟩ ::
 ⟨(some 13), none, .p (.ext 2), [.t 8]⟩ ::
 ⟨(some 5), none, .p .mov, [.t 11]⟩ ::
 ⟨(some 6), none, .p .mov, [.t 12]⟩ ::
 ⟨(some 7), none, .p .mov, [.t 13]⟩ ::
 []))
(.seq (.seq (.ops (⟨(some 14), none, .p .mov, [.t 7]⟩ ::
 ⟨(some 15), none, .p (.bin .neq), [.t 14, .c (.int .i64 0)]⟩ ::
 []))
(.cond (.t 15)
(.seq (.ops (⟨(some 16), none, .p .mov, [.t 7]⟩ ::
 ⟨(some 2), none, .p .mov, [.c (.int .i64 0)]⟩ ::
 ⟨(some 3), none, .p .mov, [.c (.int .i64 0)]⟩ ::
 ⟨(some 4), none, .p .mov, [.t 16]⟩ ::
 []))
.ret)
.skip))
(.seq (.seq (.ops (⟨(some 17), none, .p .mov, [.t 5]⟩ ::
 ⟨(some 18), none, .p .mov, [.t 6]⟩ ::
 ⟨(some 19), none, .p (.bin .gtr), [.t 17, .t 18]⟩ ::
 []))
(.cond (.t 19)
(.seq (.ops (⟨(some 2), none, .p .mov, [.c (.int .i64 0)]⟩ ::
 ⟨(some 3), none, .p .mov, [.c (.int .i64 0)]⟩ ::
 ⟨(some 4), none, .p .mov, [.c (.int .i64 120)]⟩ ::
 []))
.ret)
.skip))
(.seq (.ops (⟨(some 20), none, .p .mov, [.t 6]⟩ ::
 ⟨(some 21), none, .p .mov, [.t 5]⟩ ::
 ⟨(some 22), none, .p (.bin .sub), [.t 20, .t 21]⟩ ::
 ⟨(some 5), none, .p .mov, [.t 22]⟩ ::
 []))
(.seq (.seq (.ops (⟨(some 23), none, .p .mov, [.t 5]⟩ ::
 ⟨(some 24), none, .p (.bin .eql), [.t 23, .c (.int .i64 0)]⟩ ::
 []))
(.cond (.t 24)
(.ops (⟨(some 6), none, .p .mov, [.c (.int .i64 1)]⟩ ::
 []))
.skip))
(.seq (.ops (⟨(some 25), none, .p .mov, [.t 5]⟩ ::
 ⟨(some 26), none, .p .mov, [.t 6]⟩ ::
 ⟨(some 2), none, .p .mov, [.t 25]⟩ ::
 ⟨(some 3), none, .p .mov, [.t 26]⟩ ::
 ⟨(some 4), none, .p .mov, [.c (.int .i64 0)]⟩ ::
 []))
.ret)))))))⟩
abbrev f_escapementref30_Left : Nat := 22
abbrev C_escapementref30_Left : AFunc := C22
def L_tune_With_0 : AC := (.seq (.ops (⟨(some 18), none, .p (.bin .lss), [.t 17, .t 16]⟩ ::
 []))
(.seq (.cond (.t 18)
.skip
(.exit 0))
(.seq (.block 1 (.seq (.ops (⟨(some 19), none, .p .mov, [.t 17]⟩ ::
 ⟨(some 7), none, .p .mov, [.t 19]⟩ ::
 []))
(.seq (.ops (⟨(some 20), none, .p .mov, [.t 6]⟩ ::
 ⟨(some 21), none, .p .mov, [.t 7]⟩ ::
 ⟨(some 22), none, .p .mov, [.t 1]⟩ ::
 ⟨(some 23), none, .p .mov, [.t 7]⟩ ::
 ⟨(some 24), none, .p (.iaddrS 1), [.t 22, .t 23]⟩ ::
 ⟨(some 25), none, .r .load1, [.t 24]⟩ ::
 ⟨(some 26), none, .p (.iaddrS 3), [.t 20, .t 21]⟩ ::
 ⟨(some 27), none, .p (.faddr 1), [.t 26]⟩ ::
 ⟨none, none, .e (.store 1), [.t 27, .t 25]⟩ ::
 []))
(.ops (⟨(some 28), none, .p .mov, [.t 6]⟩ ::
 ⟨(some 29), none, .p .mov, [.t 7]⟩ ::
 ⟨(some 30), none, .p .mov, [.t 6]⟩ ::
 ⟨(some 31), none, .p .mov, [.t 7]⟩ ::
 ⟨(some 32), none, .p (.iaddrS 3), [.t 30, .t 31]⟩ ::
 ⟨(some 33), none, .p (.faddr 2), [.t 32]⟩ ::
 ⟨(some 34), none, .r .load1, [.t 33]⟩ ::
 ⟨(some 35), none, .call, [.c (.func (.func 45) [] []), .t 34]⟩ ::
 ⟨(some 36), none, .p (.iaddrS 3), [.t 28, .t 29]⟩ ::
 ⟨(some 37), none, .p (.faddr 2), [.t 36]⟩ ::
 ⟨none, none, .e (.store 1), [.t 37, .t 35]⟩ ::
 [])))))
(.ops (⟨(some 38), none, .p (.bin .add), [.t 17, .c (.int .i64 1)]⟩ ::
 ⟨(some 17), none, .p .mov, [.t 38]⟩ ::
 [])))))
def C23 : AFunc := ⟨40, [.tmp 4, .tmp 5],
(.seq (.ops (⟨(some 4), none, .p .mov, [.c .nils]⟩ ::
 ⟨(some 5), none, .p .mov, [.c (.int .i64 0)]⟩ ::
 []))
(.seq (.seq (.ops (⟨(some 8), none, .p .mov, [.t 0]⟩ ::
 ⟨(some 9), none, .p .lenS, [.t 8]⟩ ::
 ⟨(some 10), none, .p .mov, [.t 1]⟩ ::
 ⟨(some 11), none, .p .lenS, [.t 10]⟩ ::
 ⟨(some 12), none, .p (.bin .neq), [.t 9, .t 11]⟩ ::
 []))
(.cond (.t 12)
(.seq (.ops (⟨(some 4), none, .p .mov, [.c .nils]⟩ ::
 ⟨(some 5), none, .p .mov, [.c (.int .i64 2)]⟩ ::
 []))
.ret)
.skip))
(.seq (.ops (⟨(some 13), none, .p .mov, [.t 0]⟩ ::
 ⟨(some 14), none, .call, [.c (.func (.func 44) [] []), .t 13]⟩ ::
 ⟨(some 6), none, .p .mov, [.t 14]⟩ ::
 []))
(.seq (.seq (.ops (⟨(some 15), none, .p .mov, [.t 6]⟩ ::
 ⟨(some 16), none, .p .lenS, [.t 15]⟩ ::
 ⟨(some 17), none, .p .mov, [.c (.int .i64 0)]⟩ ::
 []))
(.block 0 (.loop L_tune_With_0)))
(.seq (.ops (⟨(some 39), none, .p .mov, [.t 6]⟩ ::
 ⟨(some 4), none, .p .mov, [.t 39]⟩ ::
 ⟨(some 5), none, .p .mov, [.c (.int .i64 0)]⟩ ::
 []))
.ret)))))⟩
abbrev f_tune_With : Nat := 23
abbrev C_tune_With : AFunc := C23
def L_escapementref30_With_0 : AC := (.seq (.seq (.ops (⟨(some 15), none, .p .mov, [.t 7]⟩ ::
 ⟨(some 16), none, .p .mov, [.t 0]⟩ ::
 ⟨(some 17), none, .p .lenS, [.t 16]⟩ ::
 ⟨(some 18), none, .p (.bin .lss), [.t 15, .t 17]⟩ ::
 []))
(.cond (.t 18)
.skip
(.exit 0)))
(.seq (.block 1 (.seq (.ops (⟨(some 21), none, .p .mov, [.t 0]⟩ ::
 ⟨(some 22), none, .p .mov, [.t 7]⟩ ::
 ⟨(some 23), none, .p (.iaddrS 3), [.t 21, .t 22]⟩ ::
 ⟨(some 24), none, .r (.loadN 3), [.t 23]⟩ ::
 ⟨(some 8), none, .a (.alloc [(.int .i64 0), (.int .i64 0), .nils]), []⟩ ::
 ⟨none, none, .e (.store 3), [.t 8, .t 24]⟩ ::
 []))
(.seq (.ops (⟨(some 25), none, .p .mov, [.t 1]⟩ ::
 ⟨(some 26), none, .p .mov, [.t 7]⟩ ::
 ⟨(some 27), none, .p (.iaddrS 1), [.t 25, .t 26]⟩ ::
 ⟨(some 28), none, .r .load1, [.t 27]⟩ ::
 ⟨(some 29), none, .p (.faddr 1), [.t 8]⟩ ::
 ⟨none, none, .e (.store 1), [.t 29, .t 28]⟩ ::
 []))
(.seq (.ops (⟨(some 9), none, .p .mov, [.c .nils]⟩ ::
 []))
(.seq (.ops (⟨(some 30), none, .p .mov, [.t 9]⟩ ::
 ⟨(some 31), none, .p (.faddr 2), [.t 8]⟩ ::
 ⟨(some 32), none, .r .load1, [.t 31]⟩ ::
 ⟨(some 33), none, .e (.append 8 64), [.t 30, .t 32]⟩ ::
 ⟨(some 34), none, .p (.faddr 2), [.t 8]⟩ ::
 ⟨none, none, .e (.store 1), [.t 34, .t 33]⟩ ::
 []))
(.ops (⟨(some 35), none, .p .mov, [.t 6]⟩ ::
 ⟨(some 36), none, .r (.loadN 3), [.t 8]⟩ ::
 ⟨(some 37), none, .a (.bslice [(.int .i64 0), (.int .i64 0), .nils] 1 3 [0]), [.t 36]⟩ ::
 ⟨(some 38), none, .e (.append 3 40), [.t 35, .t 37]⟩ ::
 ⟨(some 6), none, .p .mov, [.t 38]⟩ ::
 [])))))))
(.ops (⟨(some 19), none, .p .mov, [.t 7]⟩ ::
 ⟨(some 20), none, .p (.bin .add), [.t 19, .c (.int .i64 1)]⟩ ::
 ⟨(some 7), none, .p .mov, [.t 20]⟩ ::
 []))))
def C24 : AFunc := ⟨40, [.tmp 4, .tmp 5],
(.seq (.ops (⟨(some 4), none, .p .mov, [.c .nils]⟩ ::
 ⟨(some 5), none, .p .mov, [.c (.int .i64 0)]⟩ ::
 []))
(.seq (.seq (.ops (⟨(some 10), none, .p .mov, [.t 0]⟩ ::
 ⟨(some 11), none, .p .lenS, [.t 10]⟩ ::
 ⟨(some 12), none, .p .mov, [.t 1]⟩ ::
 ⟨(some 13), none, .p .lenS, [.t 12]⟩ ::
 ⟨(some 14), none, .p (.bin .neq), [.t 11, .t 13]⟩ ::
 []))
(.cond (.t 14)
(.seq (.ops (⟨(some 4), none, .p .mov, [.c .nils]⟩ ::
 ⟨(some 5), none, .p .mov, [.c (.int .i64 2)]⟩ ::
 []))
.ret)
.skip))
(.seq (.ops (⟨(some 6), none, .p .mov, [.c .nils]⟩ ::
 []))
(.seq (.seq (.ops (⟨(some 7), none, .p .mov, [.c (.int .i64 0)]⟩ ::
 []))
(.block 0 (.loop L_escapementref30_With_0)))
(.seq (.ops (⟨(some 39), none, .p .mov, [.t 6]⟩ ::
 ⟨(some 4), none, .p .mov, [.t 39]⟩ ::
 ⟨(some 5), none, .p .mov, [.c (.int .i64 0)]⟩ ::
 []))
.ret)))))⟩
abbrev f_escapementref30_With : Nat := 24
abbrev C_escapementref30_With : AFunc := C24
def L_escapementref30_Same_1 : AC := (.seq (.seq (.ops (⟨(some 57), none, .p .mov, [.t 6]⟩ ::
 ⟨(some 58), none, .p .mov, [.t 0]⟩ ::
 ⟨(some 59), none, .p .mov, [.t 5]⟩ ::
 ⟨(some 60), none, .p (.iaddrS 3), [.t 58, .t 59]⟩ ::
 ⟨(some 61), none, .p (.faddr 2), [.t 60]⟩ ::
 ⟨(some 62), none, .r .load1, [.t 61]⟩ ::
 ⟨(some 63), none, .p .lenS, [.t 62]⟩ ::
 ⟨(some 64), none, .p (.bin .lss), [.t 57, .t 63]⟩ ::
 []))
(.cond (.t 64)
.skip
(.exit 2)))
(.seq (.block 3 (.seq (.dops (⟨(some 67), none, .p .mov, [.t 0]⟩ ::
 ⟨(some 68), none, .p .mov, [.t 5]⟩ ::
 ⟨(some 69), none, .p (.iaddrS 3), [.t 67, .t 68]⟩ ::
 ⟨(some 70), none, .p (.faddr 2), [.t 69]⟩ ::
 ⟨(some 71), none, .r .load1, [.t 70]⟩ ::
 ⟨(some 72), none, .p .mov, [.t 6]⟩ ::
 ⟨(some 73), none, .p (.iaddrS 8), [.t 71, .t 72]⟩ ::
 ⟨(some 74), none, .r (.loadN 8), [.t 73]⟩ ::
 ⟨(some 75), none, .p .mov, [.t 1]⟩ ::
 ⟨(some 76), none, .p .mov, [.t 5]⟩ ::
 ⟨(some 77), none, .p (.iaddrS 3), [.t 75, .t 76]⟩ ::
 ⟨(some 78), none, .p (.faddr 2), [.t 77]⟩ ::
 ⟨(some 79), none, .r .load1, [.t 78]⟩ ::
 ⟨(some 80), none, .p .mov, [.t 6]⟩ ::
 ⟨(some 81), none, .p (.iaddrS 8), [.t 79, .t 80]⟩ ::
 ⟨(some 82), none, .r (.loadN 8), [.t 81]⟩ ::
 ⟨(some 83), none, .p (.neq (.cells [0, 0, 0, 0, 0, 0, 0, 0])), [.t 74, .t 82]⟩ ::
 []) ([] :: [] :: [] :: [] :: [] :: [] :: [] :: [] :: [] :: [] :: [] :: [] :: [] :: [] :: [] :: [] :: [] :: []))
(.cond (.t 83)
(.seq (.ops (⟨(some 4), none, .p .mov, [.c (.bool false)]⟩ ::
 []))
.ret)
.skip)))
(.ops (⟨(some 65), none, .p .mov, [.t 6]⟩ ::
 ⟨(some 66), none, .p (.bin .add), [.t 65, .c (.int .i64 1)]⟩ ::
 ⟨(some 6), none, .p .mov, [.t 66]⟩ ::
 []))))
def L_escapementref30_Same_0 : AC := (.seq (.seq (.ops (⟨(some 12), none, .p .mov, [.t 5]⟩ ::
 ⟨(some 13), none, .p .mov, [.t 0]⟩ ::
 ⟨(some 14), none, .p .lenS, [.t 13]⟩ ::
 ⟨(some 15), none, .p (.bin .lss), [.t 12, .t 14]⟩ ::
 []))
(.cond (.t 15)
.skip
(.exit 0)))
(.seq (.block 1 (.seq (.seq (.dops (⟨(some 18), none, .p .mov, [.t 0]⟩ ::
 ⟨(some 19), none, .p .mov, [.t 5]⟩ ::
 ⟨(some 20), none, .p (.iaddrS 3), [.t 18, .t 19]⟩ ::
 ⟨(some 21), none, .p (.faddr 0), [.t 20]⟩ ::
 ⟨(some 22), none, .r .load1, [.t 21]⟩ ::
 ⟨(some 23), none, .p .mov, [.t 1]⟩ ::
 ⟨(some 24), none, .p .mov, [.t 5]⟩ ::
 ⟨(some 25), none, .p (.iaddrS 3), [.t 23, .t 24]⟩ ::
 ⟨(some 26), none, .p (.faddr 0), [.t 25]⟩ ::
 ⟨(some 27), none, .r .load1, [.t 26]⟩ ::
 ⟨(some 28), none, .p (.bin .neq), [.t 22, .t 27]⟩ ::
 ⟨(some 29), none, .p .mov, [.t 28]⟩ ::
 ⟨(some 30), (some (29, false)), .p .mov, [.t 0]⟩ ::
 ⟨(some 31), (some (29, false)), .p .mov, [.t 5]⟩ ::
 ⟨(some 32), (some (29, false)), .p (.iaddrS 3), [.t 30, .t 31]⟩ ::
 ⟨(some 33), (some (29, false)), .p (.faddr 1), [.t 32]⟩ ::
 ⟨(some 34), (some (29, false)), .r .load1, [.t 33]⟩ ::
 ⟨(some 35), (some (29, false)), .p .mov, [.t 1]⟩ ::
 ⟨(some 36), (some (29, false)), .p .mov, [.t 5]⟩ ::
 ⟨(some 37), (some (29, false)), .p (.iaddrS 3), [.t 35, .t 36]⟩ ::
 ⟨(some 38), (some (29, false)), .p (.faddr 1), [.t 37]⟩ ::
 ⟨(some 39), (some (29, false)), .r .load1, [.t 38]⟩ ::
 ⟨(some 40), (some (29, false)), .p (.bin .neq), [.t 34, .t 39]⟩ ::
 ⟨(some 41), none, .p .pick, [.t 29, .c (.bool true), .t 40]⟩ ::
 ⟨(some 42), none, .p .mov, [.t 41]⟩ ::
 ⟨(some 43), (some (42, false)), .p .mov, [.t 0]⟩ ::
 ⟨(some 44), (some (42, false)), .p .mov, [.t 5]⟩ ::
 ⟨(some 45), (some (42, false)), .p (.iaddrS 3), [.t 43, .t 44]⟩ ::
 ⟨(some 46), (some (42, false)), .p (.faddr 2), [.t 45]⟩ ::
 ⟨(some 47), (some (42, false)), .r .load1, [.t 46]⟩ ::
 ⟨(some 48), (some (42, false)), .p .lenS, [.t 47]⟩ ::
 ⟨(some 49), (some (42, false)), .p .mov, [.t 1]⟩ ::
 ⟨(some 50), (some (42, false)), .p .mov, [.t 5]⟩ ::
 ⟨(some 51), (some (42, false)), .p (.iaddrS 3), [.t 49, .t 50]⟩ ::
 ⟨(some 52), (some (42, false)), .p (.faddr 2), [.t 51]⟩ ::
 ⟨(some 53), (some (42, false)), .r .load1, [.t 52]⟩ ::
 ⟨(some 54), (some (42, false)), .p .lenS, [.t 53]⟩ ::
 ⟨(some 55), (some (42, false)), .p (.bin .neq), [.t 48, .t 54]⟩ ::
 ⟨(some 56), none, .p .pick, [.t 42, .c (.bool true), .t 55]⟩ ::
 []) ([] :: [] :: [] :: [] :: [] :: [] :: [] :: [] :: [] :: [] :: [] :: [] :: [] :: [] :: [] :: [] :: [] :: [] :: [] :: [] :: [] :: [] :: [] :: [] :: [] :: [] :: [] :: [] :: [] :: [] :: [] :: [] :: [] :: [] :: [] :: [] :: [] :: [] :: [] :: []))
(.cond (.t 56)
(.seq (.ops (⟨(some 4), none, .p .mov, [.c (.bool false)]⟩ ::
 []))
.ret)
.skip))
(.seq (.ops (⟨(some 6), none, .p .mov, [.c (.int .i64 0)]⟩ ::
 []))
(.block 2 (.loop L_escapementref30_Same_1)))))
(.ops (⟨(some 16), none, .p .mov, [.t 5]⟩ ::
 ⟨(some 17), none, .p (.bin .add), [.t 16, .c (.int .i64 1)]⟩ ::
 ⟨(some 5), none, .p .mov, [.t 17]⟩ ::
 []))))
def C25 : AFunc := ⟨84, [.tmp 4],
(.seq (.ops (⟨(some 4), none, .p .mov, [.c (.bool false)]⟩ ::
 []))
(.seq (.seq (.ops (⟨(some 7), none, .p .mov, [.t 0]⟩ ::
 ⟨(some 8), none, .p .lenS, [.t 7]⟩ ::
 ⟨(some 9), none, .p .mov, [.t 1]⟩ ::
 ⟨(some 10), none, .p .lenS, [.t 9]⟩ ::
 ⟨(some 11), none, .p (.bin .neq), [.t 8, .t 10]⟩ ::
 []))
(.cond (.t 11)
(.seq (.ops (⟨(some 4), none, .p .mov, [.c (.bool false)]⟩ ::
 []))
.ret)
.skip))
(.seq (.seq (.ops (⟨(some 5), none, .p .mov, [.c (.int .i64 0)]⟩ ::
 []))
(.block 0 (.loop L_escapementref30_Same_0)))
(.seq (.ops (⟨(some 4), none, .p .mov, [.c (.bool true)]⟩ ::
 []))
.ret))))⟩
abbrev f_escapementref30_Same : Nat := 25
abbrev C_escapementref30_Same : AFunc := C25
def C26 : AFunc := ⟨119, [.tmp 0],
(.seq (.ops (⟨(some 0), none, .p .mov, [.c (.bool false)]⟩ ::
 []))
(.seq (.ops (⟨(some 17), none, .call, [.c (.func (.func 32) [] []), .c (.int .i64 2), .c (.int .i64 3)]⟩ ::
 ⟨(some 18), none, .call, [.c (.func (.func 21) [] []), .t 17]⟩ ::
 ⟨(some 16), none, .p .mov, [.t 18]⟩ ::
 ⟨(some 19), none, .p (.ext 0), [.t 16]⟩ ::
 ⟨(some 20), none, .p (.ext 1), [.t 16]⟩ ::
 ⟨(some 21), none, .p (.ext 2), [.t 16]⟩ ::
 ⟨(some 1), none, .p .mov, [.t 19]⟩ ::
 ⟨(some 2), none, .p .mov, [.t 20]⟩ ::
 ⟨(some 3), none, .p .mov, [.t 21]⟩ ::
 []))
(.seq (.ops (⟨(some 23), none, .call, [.c (.func (.func 32) [] []), .c (.int .i64 4), .c (.int .i64 1)]⟩ ::
 ⟨(some 24), none, .call, [.c (.func (.func 21) [] []), .t 23]⟩ ::
 ⟨(some 22), none, .p .mov, [.t 24]⟩ ::
 ⟨(some 25), none, .p (.ext 0), [.t 22]⟩ ::
 ⟨(some 26), none, .p (.ext 1), [.t 22]⟩ ::
 ⟨(some 27), none, .p (.ext 2), [.t 22]⟩ ::
 ⟨(some 4), none, .p .mov, [.t 25]⟩ ::
 ⟨(some 5), none, .p .mov, [.t 26]⟩ ::
 ⟨(some 6), none, .p .mov, [.t 27]⟩ ::
 []))
(.seq (.ops (⟨(some 29), none, .call, [.c (.func (.func 32) [] []), .c (.int .i64 9), .c (.int .i64 9)]⟩ ::
 ⟨(some 30), none, .a (.bslice [(.int .i64 0)] 2 1 [0, 1]), [.c (.int .i64 1), .c (.int .i64 2)]⟩ ::
 ⟨(some 31), none, .call, [.c (.func (.func 23) [] []), .t 29, .t 30]⟩ ::
 ⟨(some 28), none, .p .mov, [.t 31]⟩ ::
 ⟨(some 32), none, .p (.ext 0), [.t 28]⟩ ::
 ⟨(some 33), none, .p (.ext 1), [.t 28]⟩ ::
 ⟨(some 7), none, .p .mov, [.t 32]⟩ ::
 ⟨(some 8), none, .p .mov, [.t 33]⟩ ::
 []))
(.seq (.ops (⟨(some 35), none, .call, [.c (.func (.func 32) [] []), .c (.int .i64 1), .c (.int .i64 1)]⟩ ::
 ⟨(some 36), none, .p (.slice 3 false true false), [.t 35, .c (.int .i64 1)]⟩ ::
 ⟨(some 37), none, .a (.bslice [(.int .i64 0)] 2 1 [0, 1]), [.c (.int .i64 1), .c (.int .i64 2)]⟩ ::
 ⟨(some 38), none, .call, [.c (.func (.func 23) [] []), .t 36, .t 37]⟩ ::
 ⟨(some 34), none, .p .mov, [.t 38]⟩ ::
 ⟨(some 39), none, .p (.ext 0), [.t 34]⟩ ::
 ⟨(some 40), none, .p (.ext 1), [.t 34]⟩ ::
 ⟨(some 9), none, .p .mov, [.t 39]⟩ ::
 ⟨(some 10), none, .p .mov, [.t 40]⟩ ::
 []))
(.seq (.ops (⟨(some 41), none, .call, [.c (.func (.func 32) [] []), .c (.int .i64 1), .c (.int .i64 1)]⟩ ::
 ⟨(some 42), none, .p (.slice 3 false true false), [.t 41, .c (.int .i64 1)]⟩ ::
 ⟨(some 11), none, .p .mov, [.t 42]⟩ ::
 []))
(.seq (.ops (⟨(some 43), none, .p .mov, [.t 11]⟩ ::
 ⟨(some 44), none, .p (.iaddrS 3), [.t 43, .c (.int .i64 0)]⟩ ::
 ⟨(some 45), none, .p (.faddr 2), [.t 44]⟩ ::
 ⟨(some 46), none, .r .load1, [.t 45]⟩ ::
 ⟨(some 47), none, .p (.iaddrS 8), [.t 46, .c (.int .i64 0)]⟩ ::
 ⟨(some 48), none, .p (.faddr 2), [.t 47]⟩ ::
 ⟨none, none, .e (.store 1), [.t 48, .c (.int .i64 8)]⟩ ::
 []))
(.seq (.ops (⟨(some 50), none, .p .mov, [.t 11]⟩ ::
 ⟨(some 51), none, .call, [.c (.func (.func 27) [] []), .t 50, .c (.int .i64 0)]⟩ ::
 ⟨(some 49), none, .p .mov, [.t 51]⟩ ::
 ⟨(some 52), none, .p (.ext 0), [.t 49]⟩ ::
 ⟨(some 53), none, .p (.ext 1), [.t 49]⟩ ::
 ⟨(some 12), none, .p .mov, [.t 52]⟩ ::
 ⟨(some 13), none, .p .mov, [.t 53]⟩ ::
 []))
(.seq (.ops (⟨(some 55), none, .p .mov, [.t 11]⟩ ::
 ⟨(some 56), none, .call, [.c (.func (.func 27) [] []), .t 55, .c (.int .i64 1)]⟩ ::
 ⟨(some 54), none, .p .mov, [.t 56]⟩ ::
 ⟨(some 57), none, .p (.ext 0), [.t 54]⟩ ::
 ⟨(some 58), none, .p (.ext 1), [.t 54]⟩ ::
 ⟨(some 14), none, .p .mov, [.t 57]⟩ ::
 ⟨(some 15), none, .p .mov, [.t 58]⟩ ::
 []))
(.seq (.ops (⟨(some 59), none, .p .mov, [.t 1]⟩ ::
 ⟨(some 60), none, .p (.bin .eql), [.t 59, .c (.int .i64 1)]⟩ ::
 ⟨(some 61), none, .p .mov, [.t 60]⟩ ::
 ⟨(some 62), (some (61, true)), .p .mov, [.t 2]⟩ ::
 ⟨(some 63), (some (61, true)), .p (.bin .eql), [.t 62, .c (.int .i64 8)]⟩ ::
 ⟨(some 64), none, .p .pick, [.t 61, .t 63, .c (.bool false)]⟩ ::
 ⟨(some 65), none, .p .mov, [.t 64]⟩ ::
 ⟨(some 66), (some (65, true)), .p .mov, [.t 3]⟩ ::
 ⟨(some 67), (some (65, true)), .p (.bin .eql), [.t 66, .c (.int .i64 0)]⟩ ::
 ⟨(some 68), none, .p .pick, [.t 65, .t 67, .c (.bool false)]⟩ ::
 ⟨(some 69), none, .p .mov, [.t 68]⟩ ::
 ⟨(some 70), (some (69, true)), .p .mov, [.t 6]⟩ ::
 ⟨(some 71), (some (69, true)), .p (.bin .eql), [.t 70, .c (.int .i64 120)]⟩ ::
 ⟨(some 72), none, .p .pick, [.t 69, .t 71, .c (.bool false)]⟩ ::
 ⟨(some 73), none, .p .mov, [.t 72]⟩ ::
 ⟨(some 74), (some (73, true)), .p .mov, [.t 8]⟩ ::
 ⟨(some 75), (some (73, true)), .p (.bin .eql), [.t 74, .c (.int .i64 0)]⟩ ::
 ⟨(some 76), none, .p .pick, [.t 73, .t 75, .c (.bool false)]⟩ ::
 ⟨(some 77), none, .p .mov, [.t 76]⟩ ::
 ⟨(some 78), (some (77, true)), .p .mov, [.t 7]⟩ ::
 ⟨(some 79), (some (77, true)), .p .lenS, [.t 78]⟩ ::
 ⟨(some 80), (some (77, true)), .p (.bin .eql), [.t 79, .c (.int .i64 2)]⟩ ::
 ⟨(some 81), none, .p .pick, [.t 77, .t 80, .c (.bool false)]⟩ ::
 ⟨(some 82), none, .p .mov, [.t 81]⟩ ::
 ⟨(some 83), (some (82, true)), .p .mov, [.t 7]⟩ ::
 ⟨(some 84), (some (82, true)), .p (.iaddrS 3), [.t 83, .c (.int .i64 0)]⟩ ::
 ⟨(some 85), (some (82, true)), .p (.faddr 1), [.t 84]⟩ ::
 ⟨(some 86), (some (82, true)), .r .load1, [.t 85]⟩ ::
 ⟨(some 87), (some (82, true)), .p (.bin .eql), [.t 86, .c (.int .i64 1)]⟩ ::
 ⟨(some 88), none, .p .pick, [.t 82, .t 87, .c (.bool false)]⟩ ::
 ⟨(some 89), none, .p .mov, [.t 88]⟩ ::
 ⟨(some 90), (some (89, true)), .p .mov, [.t 7]⟩ ::
 ⟨(some 91), (some (89, true)), .p (.iaddrS 3), [.t 90, .c (.int .i64 1)]⟩ ::
 ⟨(some 92), (some (89, true)), .p (.faddr 1), [.t 91]⟩ ::
 ⟨(some 93), (some (89, true)), .r .load1, [.t 92]⟩ ::
 ⟨(some 94), (some (89, true)), .p (.bin .eql), [.t 93, .c (.int .i64 2)]⟩ ::
 ⟨(some 95), none, .p .pick, [.t 89, .t 94, .c (.bool false)]⟩ ::
 ⟨(some 96), none, .p .mov, [.t 95]⟩ ::
 ⟨(some 97), (some (96, true)), .p .mov, [.t 7]⟩ ::
 ⟨(some 98), (some (96, true)), .p (.iaddrS 3), [.t 97, .c (.int .i64 1)]⟩ ::
 ⟨(some 99), (some (96, true)), .p (.faddr 0), [.t 98]⟩ ::
 ⟨(some 100), (some (96, true)), .r .load1, [.t 99]⟩ ::
 ⟨(some 101), (some (96, true)), .p (.bin .eql), [.t 100, .c (.int .i64 8)]⟩ ::
 ⟨(some 102), none, .p .pick, [.t 96, .t 101, .c (.bool false)]⟩ ::
 ⟨(some 103), none, .p .mov, [.t 102]⟩ ::
 ⟨(some 104), (some (103, true)), .p .mov, [.t 10]⟩ ::
 ⟨(some 105), (some (103, true)), .p (.bin .eql), [.t 104, .c (.int .i64 2)]⟩ ::
 ⟨(some 106), none, .p .pick, [.t 103, .t 105, .c (.bool false)]⟩ ::
 ⟨(some 107), none, .p .mov, [.t 106]⟩ ::
 ⟨(some 108), (some (107, true)), .p .mov, [.t 12]⟩ ::
 ⟨(some 109), (some (107, true)), .p (.bin .eql), [.t 108, .c (.int .i64 4)]⟩ ::
 ⟨(some 110), none, .p .pick, [.t 107, .t 109, .c (.bool false)]⟩ ::
 ⟨(some 111), none, .p .mov, [.t 110]⟩ ::
 ⟨(some 112), (some (111, true)), .p .mov, [.t 13]⟩ ::
 ⟨(some 113), (some (111, true)), .p (.bin .eql), [.t 112, .c (.int .i64 0)]⟩ ::
 ⟨(some 114), none, .p .pick, [.t 111, .t 113, .c (.bool false)]⟩ ::
 ⟨(some 115), none, .p .mov, [.t 114]⟩ ::
 ⟨(some 116), (some (115, true)), .p .mov, [.t 15]⟩ ::
 ⟨(some 117), (some (115, true)), .p (.bin .eql), [.t 116, .c (.int .i64 9)]⟩ ::
 ⟨(some 118), none, .p .pick, [.t 115, .t 117, .c (.bool false)]⟩ ::
 ⟨(some 0), none, .p .mov, [.t 118]⟩ ::
 []))
.ret))))))))))⟩
abbrev f_escapementlaw30_works : Nat := 26
abbrev C_escapementlaw30_works : AFunc := C26
def C27 : AFunc := ⟨21, [.tmp 4, .tmp 5],
(.seq (.ops (⟨(some 4), none, .p .mov, [.c (.int .i64 0)]⟩ ::
 ⟨(some 5), none, .p .mov, [.c (.int .i64 0)]⟩ ::
 []))
(.seq (.seq (.ops (⟨(some 6), none, .p .mov, [.t 0]⟩ ::
 ⟨(some 7), none, .p .mov, [.t 1]⟩ ::
 ⟨(some 8), none, .call, [.c (.func (.func 46) [] []), .t 6, .t 7]⟩ ::
 ⟨(some 9), none, .p .not, [.t 8]⟩ ::
 []))
(.cond (.t 9)
(.seq (.ops (⟨(some 4), none, .p .mov, [.c (.int .i64 0)]⟩ ::
 ⟨(some 5), none, .p .mov, [.c (.int .i64 9)]⟩ ::
 []))
.ret)
.skip))
(.seq (.seq (.ops (⟨(some 10), none, .p .mov, [.t 0]⟩ ::
 ⟨(some 11), none, .p .mov, [.t 1]⟩ ::
 ⟨(some 12), none, .p .mov, [.t 0]⟩ ::
 ⟨(some 13), none, .p .mov, [.t 1]⟩ ::
 ⟨(some 14), none, .p (.iaddrS 3), [.t 12, .t 13]⟩ ::
 ⟨(some 15), none, .p (.faddr 0), [.t 14]⟩ ::
 ⟨(some 16), none, .r .load1, [.t 15]⟩ ::
 ⟨(some 17), none, .call, [.c (.func (.func 47) [] []), .t 10, .t 11, .t 16]⟩ ::
 ⟨(some 4), none, .p .mov, [.t 17]⟩ ::
 []))
(.seq (.ops (⟨(some 18), none, .p .mov, [.t 4]⟩ ::
 ⟨(some 19), none, .p (.bin .eql), [.t 18, .c (.int .i64 0)]⟩ ::
 []))
(.cond (.t 19)
(.seq (.ops (⟨(some 4), none, .p .mov, [.c (.int .i64 0)]⟩ ::
 ⟨(some 5), none, .p .mov, [.c (.int .i64 120)]⟩ ::
 []))
.ret)
.skip)))
(.seq (.ops (⟨(some 20), none, .p .mov, [.t 4]⟩ ::
 ⟨(some 4), none, .p .mov, [.t 20]⟩ ::
 ⟨(some 5), none, .p .mov, [.c (.int .i64 0)]⟩ ::
 []))
.ret))))⟩
abbrev f_tune_Need : Nat := 27
abbrev C_tune_Need : AFunc := C27
def C28 : AFunc := ⟨16, [.tmp 6],
(.seq (.ops (⟨(some 6), none, .p .mov, [.c .nils]⟩ ::
 []))
(.seq (.ops (⟨(some 8), none, .p .mov, [.t 0]⟩ ::
 ⟨(some 9), none, .call, [.c (.func (.func 20) [] []), .t 8]⟩ ::
 ⟨(some 7), none, .p .mov, [.t 9]⟩ ::
 []))
(.seq (.ops (⟨(some 10), none, .p .mov, [.t 7]⟩ ::
 ⟨(some 11), none, .p .mov, [.t 1]⟩ ::
 ⟨(some 12), none, .p .mov, [.t 2]⟩ ::
 ⟨(some 13), none, .p (.iaddrS 3), [.t 10, .t 11]⟩ ::
 ⟨(some 14), none, .p (.faddr 1), [.t 13]⟩ ::
 ⟨none, none, .e (.store 1), [.t 14, .t 12]⟩ ::
 []))
(.seq (.ops (⟨(some 15), none, .p .mov, [.t 7]⟩ ::
 ⟨(some 6), none, .p .mov, [.t 15]⟩ ::
 []))
.ret))))⟩
abbrev f_escapementlaw30_budget : Nat := 28
abbrev C_escapementlaw30_budget : AFunc := C28
def C29 : AFunc := ⟨18, [.tmp 2, .tmp 3, .tmp 4],
(.seq (.ops (⟨(some 2), none, .p .mov, [.c (.int .i64 0)]⟩ ::
 ⟨(some 3), none, .p .mov, [.c (.int .i64 0)]⟩ ::
 ⟨(some 4), none, .p .mov, [.c (.int .i64 0)]⟩ ::
 []))
(.seq (.ops (⟨(some 8), none, .p .mov, [.t 0]⟩ ::
 ⟨(some 9), none, .call, [.c (.func (.func 48) [] []), .t 8]⟩ ::
 ⟨(some 7), none, .p .mov, [.t 9]⟩ ::
 ⟨(some 10), none, .p (.ext 0), [.t 7]⟩ ::
 ⟨(some 11), none, .p (.ext 1), [.t 7]⟩ ::
 ⟨(some 5), none, .a (.alloc [(.int .i64 0), (.int .i64 0)]), []⟩ ::
 ⟨none, none, .e (.store 2), [.t 5, .t 10]⟩ ::
 ⟨(some 6), none, .p .mov, [.t 11]⟩ ::
 []))
(.seq (.seq (.ops (⟨(some 12), none, .p .mov, [.t 6]⟩ ::
 ⟨(some 13), none, .p .not, [.t 12]⟩ ::
 []))
(.cond (.t 13)
(.seq (.ops (⟨(some 2), none, .p .mov, [.c (.int .i64 0)]⟩ ::
 ⟨(some 3), none, .p .mov, [.c (.int .i64 0)]⟩ ::
 ⟨(some 4), none, .p .mov, [.c (.int .i64 2)]⟩ ::
 []))
.ret)
.skip))
(.seq (.dops (⟨(some 14), none, .p (.faddr 0), [.t 5]⟩ ::
 ⟨(some 15), none, .r .load1, [.t 14]⟩ ::
 ⟨(some 16), none, .p (.faddr 1), [.t 5]⟩ ::
 ⟨(some 17), none, .r .load1, [.t 16]⟩ ::
 ⟨(some 2), none, .p .mov, [.t 15]⟩ ::
 ⟨(some 3), none, .p .mov, [.t 17]⟩ ::
 ⟨(some 4), none, .p .mov, [.c (.int .i64 0)]⟩ ::
 []) ([] :: [] :: [] :: [] :: [] :: [] :: [] :: []))
.ret))))⟩
abbrev f_share_Sum : Nat := 29
abbrev C_share_Sum : AFunc := C29
def L_tune_Best_0 : AC := (.seq (.ops (⟨(some 25), none, .p (.bin .lss), [.t 24, .t 23]⟩ ::
 []))
(.seq (.cond (.t 25)
.skip
(.exit 1))
(.seq (.block 2 (.seq (.ops (⟨(some 26), none, .p .mov, [.t 24]⟩ ::
 ⟨(some 10), none, .p .mov, [.t 26]⟩ ::
 []))
(.seq (.ops (⟨(some 27), none, .p .mov, [.t 10]⟩ ::
 ⟨(some 28), none, .p (.bin .add), [.t 27, .c (.int .i64 1)]⟩ ::
 ⟨(some 29), none, .p .mov, [.t 0]⟩ ::
 ⟨(some 30), none, .p .mov, [.t 1]⟩ ::
 ⟨(some 31), none, .p .mov, [.t 10]⟩ ::
 ⟨(some 32), none, .p (.bin .add), [.t 31, .c (.int .i64 1)]⟩ ::
 ⟨(some 33), none, .call, [.c (.func (.func 47) [] []), .t 29, .t 30, .t 32]⟩ ::
 ⟨(some 34), none, .p (.build [(.int .i64 0), (.int .i64 0)] [(0, 1), (1, 1)]), [.t 28, .t 33]⟩ ::
 ⟨(some 11), none, .a (.alloc [(.int .i64 0), (.int .i64 0)]), []⟩ ::
 ⟨none, none, .e (.store 2), [.t 11, .t 34]⟩ ::
 []))
(.seq (.ops (⟨(some 35), none, .r (.loadN 2), [.t 11]⟩ ::
 ⟨(some 36), none, .p (.mkfunc (.func 49) 1), [.t 35]⟩ ::
 ⟨(some 12), none, .p .mov, [.t 36]⟩ ::
 []))
(.seq (.ops (⟨(some 37), none, .p (.faddr 1), [.t 11]⟩ ::
 ⟨(some 38), none, .r .load1, [.t 37]⟩ ::
 ⟨(some 39), none, .p (.bin .gtr), [.t 38, .c (.int .i64 0)]⟩ ::
 ⟨(some 40), none, .p .mov, [.t 39]⟩ ::
 ⟨(some 41), (some (40, true)), .p .mov, [.t 12]⟩ ::
 ⟨(some 42), (some (40, true)), .r (.loadN 2), [.t 9]⟩ ::
 ⟨(some 43), (some (40, true)), .call, [.t 41, .t 42]⟩ ::
 ⟨(some 44), none, .p .pick, [.t 40, .t 43, .c (.bool false)]⟩ ::
 []))
(.cond (.t 44)
(.ops (⟨(some 45), none, .r (.loadN 2), [.t 11]⟩ ::
 ⟨none, none, .e (.store 2), [.t 9, .t 45]⟩ ::
 []))
.skip))))))
(.ops (⟨(some 46), none, .p (.bin .add), [.t 24, .c (.int .i64 1)]⟩ ::
 ⟨(some 24), none, .p .mov, [.t 46]⟩ ::
 [])))))
def C30 : AFunc := ⟨54, [.tmp 6, .tmp 7, .tmp 8],
(.seq (.ops (⟨(some 6), none, .p .mov, [.c (.int .i64 0)]⟩ ::
 ⟨(some 7), none, .p .mov, [.c (.int .i64 0)]⟩ ::
 ⟨(some 8), none, .p .mov, [.c (.int .i64 0)]⟩ ::
 []))
(.seq (.block 0 (.seq (.ops (⟨(some 14), none, .p .mov, [.t 0]⟩ ::
 ⟨(some 15), none, .p .mov, [.t 1]⟩ ::
 ⟨(some 16), none, .call, [.c (.func (.func 46) [] []), .t 14, .t 15]⟩ ::
 ⟨(some 17), none, .p .not, [.t 16]⟩ ::
 ⟨(some 13), none, .p .mov, [.t 17]⟩ ::
 []))
(.cond (.t 13)
(.seq (.ops (⟨(some 6), none, .p .mov, [.c (.int .i64 0)]⟩ ::
 ⟨(some 7), none, .p .mov, [.c (.int .i64 0)]⟩ ::
 ⟨(some 8), none, .p .mov, [.c (.int .i64 9)]⟩ ::
 []))
.ret)
(.seq (.seq (.ops (⟨(some 19), none, .p .mov, [.t 2]⟩ ::
 ⟨(some 20), none, .p (.bin .lss), [.t 19, .c (.int .i64 1)]⟩ ::
 ⟨(some 18), none, .p .mov, [.t 20]⟩ ::
 []))
(.cond (.t 18)
.skip
(.ops (⟨(some 21), none, .p .mov, [.t 2]⟩ ::
 ⟨(some 22), none, .p (.bin .gtr), [.t 21, .c (.int .i64 64)]⟩ ::
 ⟨(some 18), none, .p .mov, [.t 22]⟩ ::
 []))))
(.cond (.t 18)
(.seq (.ops (⟨(some 6), none, .p .mov, [.c (.int .i64 0)]⟩ ::
 ⟨(some 7), none, .p .mov, [.c (.int .i64 0)]⟩ ::
 ⟨(some 8), none, .p .mov, [.c (.int .i64 2)]⟩ ::
 []))
.ret)
.skip)))))
(.seq (.ops (⟨(some 9), none, .a (.alloc [(.int .i64 0), (.int .i64 0)]), []⟩ ::
 []))
(.seq (.seq (.ops (⟨(some 23), none, .p .mov, [.t 2]⟩ ::
 ⟨(some 24), none, .p .mov, [.c (.int .i64 0)]⟩ ::
 []))
(.block 1 (.loop L_tune_Best_0)))
(.seq (.seq (.ops (⟨(some 47), none, .p (.faddr 0), [.t 9]⟩ ::
 ⟨(some 48), none, .r .load1, [.t 47]⟩ ::
 ⟨(some 49), none, .p (.bin .eql), [.t 48, .c (.int .i64 0)]⟩ ::
 []))
(.cond (.t 49)
(.seq (.ops (⟨(some 6), none, .p .mov, [.c (.int .i64 0)]⟩ ::
 ⟨(some 7), none, .p .mov, [.c (.int .i64 0)]⟩ ::
 ⟨(some 8), none, .p .mov, [.c (.int .i64 120)]⟩ ::
 []))
.ret)
.skip))
(.seq (.dops (⟨(some 50), none, .p (.faddr 0), [.t 9]⟩ ::
 ⟨(some 51), none, .r .load1, [.t 50]⟩ ::
 ⟨(some 52), none, .p (.faddr 1), [.t 9]⟩ ::
 ⟨(some 53), none, .r .load1, [.t 52]⟩ ::
 ⟨(some 6), none, .p .mov, [.t 51]⟩ ::
 ⟨(some 7), none, .p .mov, [.t 53]⟩ ::
 ⟨(some 8), none, .p .mov, [.c (.int .i64 0)]⟩ ::
 []) ([] :: [] :: [] :: [] :: [] :: [] :: [] :: []))
.ret))))))⟩
abbrev f_tune_Best : Nat := 30
abbrev C_tune_Best : AFunc := C30
def L_tune_Needs_0 : AC := (.seq (.ops (⟨(some 19), none, .p (.bin .lss), [.t 18, .t 17]⟩ ::
 []))
(.seq (.cond (.t 19)
.skip
(.exit 0))
(.seq (.block 1 (.seq (.ops (⟨(some 20), none, .p .mov, [.t 18]⟩ ::
 ⟨(some 4), none, .p .mov, [.t 20]⟩ ::
 []))
(.seq (.ops (⟨(some 22), none, .p .mov, [.t 0]⟩ ::
 ⟨(some 23), none, .p .mov, [.t 4]⟩ ::
 ⟨(some 24), none, .call, [.c (.func (.func 27) [] []), .t 22, .t 23]⟩ ::
 ⟨(some 21), none, .p .mov, [.t 24]⟩ ::
 ⟨(some 25), none, .p (.ext 0), [.t 21]⟩ ::
 ⟨(some 26), none, .p (.ext 1), [.t 21]⟩ ::
 ⟨(some 5), none, .p .mov, [.t 25]⟩ ::
 ⟨(some 6), none, .p .mov, [.t 26]⟩ ::
 []))
(.seq (.seq (.ops (⟨(some 27), none, .p .mov, [.t 6]⟩ ::
 ⟨(some 28), none, .p (.bin .neq), [.t 27, .c (.int .i64 0)]⟩ ::
 []))
(.cond (.t 28)
(.seq (.ops (⟨(some 29), none, .p .mov, [.t 6]⟩ ::
 ⟨(some 2), none, .p .mov, [.c .nils]⟩ ::
 ⟨(some 3), none, .p .mov, [.t 29]⟩ ::
 []))
.ret)
.skip))
(.ops (⟨(some 30), none, .p .mov, [.t 2]⟩ ::
 ⟨(some 31), none, .p .mov, [.t 5]⟩ ::
 ⟨(some 32), none, .a (.bslice [(.int .i64 0)] 1 1 [0]), [.t 31]⟩ ::
 ⟨(some 33), none, .e (.append 1 8), [.t 30, .t 32]⟩ ::
 ⟨(some 2), none, .p .mov, [.t 33]⟩ ::
 []))))))
(.ops (⟨(some 34), none, .p (.bin .add), [.t 18, .c (.int .i64 1)]⟩ ::
 ⟨(some 18), none, .p .mov, [.t 34]⟩ ::
 [])))))
def C31 : AFunc := ⟨49, [.tmp 2, .tmp 3],
(.seq (.ops (⟨(some 2), none, .p .mov, [.c .nils]⟩ ::
 ⟨(some 3), none, .p .mov, [.c (.int .i64 0)]⟩ ::
 []))
(.seq (.seq (.ops (⟨(some 8), none, .p .mov, [.t 0]⟩ ::
 ⟨(some 9), none, .p .lenS, [.t 8]⟩ ::
 ⟨(some 10), none, .p (.bin .eql), [.t 9, .c (.int .i64 0)]⟩ ::
 ⟨(some 11), none, .p .mov, [.t 10]⟩ ::
 ⟨(some 12), (some (11, false)), .p .mov, [.t 0]⟩ ::
 ⟨(some 13), (some (11, false)), .p .lenS, [.t 12]⟩ ::
 ⟨(some 14), (some (11, false)), .p (.bin .gtr), [.t 13, .c (.int .i64 4)]⟩ ::
 ⟨(some 15), none, .p .pick, [.t 11, .c (.bool true), .t 14]⟩ ::
 []))
(.cond (.t 15)
(.seq (.ops (⟨(some 2), none, .p .mov, [.c .nils]⟩ ::
 ⟨(some 3), none, .p .mov, [.c (.int .i64 2)]⟩ ::
 []))
.ret)
.skip))
(.seq (.seq (.ops (⟨(some 16), none, .p .mov, [.t 0]⟩ ::
 ⟨(some 17), none, .p .lenS, [.t 16]⟩ ::
 ⟨(some 18), none, .p .mov, [.c (.int .i64 0)]⟩ ::
 []))
(.block 0 (.loop L_tune_Needs_0)))
(.seq (.ops (⟨(some 36), none, .p .mov, [.t 0]⟩ ::
 ⟨(some 37), none, .p .mov, [.t 2]⟩ ::
 ⟨(some 38), none, .call, [.c (.func (.func 23) [] []), .t 36, .t 37]⟩ ::
 ⟨(some 35), none, .p .mov, [.t 38]⟩ ::
 ⟨(some 39), none, .p (.ext 0), [.t 35]⟩ ::
 ⟨(some 40), none, .p (.ext 1), [.t 35]⟩ ::
 ⟨(some 7), none, .p .mov, [.t 39]⟩ ::
 ⟨(some 3), none, .p .mov, [.t 40]⟩ ::
 []))
(.seq (.seq (.ops (⟨(some 41), none, .p .mov, [.t 3]⟩ ::
 ⟨(some 42), none, .p (.bin .neq), [.t 41, .c (.int .i64 0)]⟩ ::
 ⟨(some 43), none, .p .mov, [.t 42]⟩ ::
 ⟨(some 44), (some (43, false)), .p .mov, [.t 7]⟩ ::
 ⟨(some 45), (some (43, false)), .call, [.c (.func (.func 33) [] []), .t 44]⟩ ::
 ⟨(some 46), (some (43, false)), .p (.bin .neq), [.t 45, .c (.int .i64 0)]⟩ ::
 ⟨(some 47), none, .p .pick, [.t 43, .c (.bool true), .t 46]⟩ ::
 []))
(.cond (.t 47)
(.seq (.ops (⟨(some 2), none, .p .mov, [.c .nils]⟩ ::
 ⟨(some 3), none, .p .mov, [.c (.int .i64 120)]⟩ ::
 []))
.ret)
.skip))
(.seq (.ops (⟨(some 48), none, .p .mov, [.t 2]⟩ ::
 ⟨(some 2), none, .p .mov, [.t 48]⟩ ::
 ⟨(some 3), none, .p .mov, [.c (.int .i64 0)]⟩ ::
 []))
.ret))))))⟩
abbrev f_tune_Needs : Nat := 31
abbrev C_tune_Needs : AFunc := C31
def C32 : AFunc := ⟨14, [.tmp 4],
(.seq (.ops (⟨(some 4), none, .p .mov, [.c .nils]⟩ ::
 []))
(.seq (.ops (⟨(some 5), none, .p .mov, [.t 0]⟩ ::
 ⟨(some 6), none, .p (.build [(.int .i64 0), (.int .i64 0), (.int .i64 0), (.int .i64 0), (.int .i64 0), (.int .i64 0), (.int .i64 0), (.int .i64 0)] [(0, 1), (1, 1), (2, 1)]), [.c (.int .i64 8), .c (.int .i64 8), .c (.int .i64 2)]⟩ ::
 ⟨(some 7), none, .a (.bslice [(.int .i64 0), (.int .i64 0), (.int .i64 0), (.int .i64 0), (.int .i64 0), (.int .i64 0), (.int .i64 0), (.int .i64 0)] 1 8 [0]), [.t 6]⟩ ::
 ⟨(some 8), none, .p (.build [(.int .i64 0), (.int .i64 0), .nils] [(0, 1), (1, 1), (2, 1)]), [.c (.int .i64 4), .t 5, .t 7]⟩ ::
 ⟨(some 9), none, .p .mov, [.t 1]⟩ ::
 ⟨(some 10), none, .p (.build [(.int .i64 0), (.int .i64 0), (.int .i64 0), (.int .i64 0), (.int .i64 0), (.int .i64 0), (.int .i64 0), (.int .i64 0)] [(0, 1), (1, 1), (2, 1)]), [.c (.int .i64 8), .c (.int .i64 8), .c (.int .i64 3)]⟩ ::
 ⟨(some 11), none, .a (.bslice [(.int .i64 0), (.int .i64 0), (.int .i64 0), (.int .i64 0), (.int .i64 0), (.int .i64 0), (.int .i64 0), (.int .i64 0)] 1 8 [0]), [.t 10]⟩ ::
 ⟨(some 12), none, .p (.build [(.int .i64 0), (.int .i64 0), .nils] [(0, 1), (1, 1), (2, 1)]), [.c (.int .i64 8), .t 9, .t 11]⟩ ::
 ⟨(some 13), none, .a (.bslice [(.int .i64 0), (.int .i64 0), .nils] 2 3 [0, 1]), [.t 8, .t 12]⟩ ::
 ⟨(some 4), none, .p .mov, [.t 13]⟩ ::
 []))
.ret))⟩
abbrev f_escapementlaw30_pair : Nat := 32
abbrev C_escapementlaw30_pair : AFunc := C32
def C33 : AFunc := ⟨16, [.tmp 2],
(.seq (.ops (⟨(some 2), none, .p .mov, [.c (.int .i64 0)]⟩ ::
 []))
(.seq (.ops (⟨(some 6), none, .p .mov, [.t 0]⟩ ::
 ⟨(some 7), none, .call, [.c (.func (.func 48) [] []), .t 6]⟩ ::
 ⟨(some 5), none, .p .mov, [.t 7]⟩ ::
 ⟨(some 8), none, .p (.ext 0), [.t 5]⟩ ::
 ⟨(some 9), none, .p (.ext 1), [.t 5]⟩ ::
 ⟨(some 3), none, .a (.alloc [(.int .i64 0), (.int .i64 0)]), []⟩ ::
 ⟨none, none, .e (.store 2), [.t 3, .t 8]⟩ ::
 ⟨(some 4), none, .p .mov, [.t 9]⟩ ::
 []))
(.seq (.block 0 (.seq (.ops (⟨(some 11), none, .p .mov, [.t 4]⟩ ::
 ⟨(some 12), none, .p .not, [.t 11]⟩ ::
 ⟨(some 10), none, .p .mov, [.t 12]⟩ ::
 []))
(.cond (.t 10)
(.seq (.ops (⟨(some 2), none, .p .mov, [.c (.int .i64 2)]⟩ ::
 []))
.ret)
(.seq (.ops (⟨(some 14), none, .r (.loadN 2), [.t 3]⟩ ::
 ⟨(some 15), none, .call, [.c (.func (.func 50) [] []), .t 14]⟩ ::
 ⟨(some 13), none, .p .mov, [.t 15]⟩ ::
 []))
(.cond (.t 13)
(.seq (.ops (⟨(some 2), none, .p .mov, [.c (.int .i64 120)]⟩ ::
 []))
.ret)
.skip)))))
(.seq (.ops (⟨(some 2), none, .p .mov, [.c (.int .i64 0)]⟩ ::
 []))
.ret))))⟩
abbrev f_share_Test : Nat := 33
abbrev C_share_Test : AFunc := C33
def C34 : AFunc := ⟨27, [.tmp 2],
(.seq (.ops (⟨(some 1), none, .a .box, [.t 0]⟩ ::
 ⟨(some 2), none, .p .mov, [.c (.int .i64 0)]⟩ ::
 []))
(.seq (.ops (⟨(some 4), none, .p (.faddr 0), [.t 1]⟩ ::
 ⟨(some 5), none, .r .load1, [.t 4]⟩ ::
 ⟨(some 6), none, .call, [.c (.func (.func 51) [] []), .t 5, .c (.func (.func 52) [] [])]⟩ ::
 ⟨(some 7), none, .p .mov, [.t 6]⟩ ::
 ⟨(some 8), (some (7, false)), .p (.faddr 1), [.t 1]⟩ ::
 ⟨(some 9), (some (7, false)), .r .load1, [.t 8]⟩ ::
 ⟨(some 10), (some (7, false)), .p (.mkfunc (.func 55) 0), [.t 1]⟩ ::
 ⟨(some 11), (some (7, false)), .call, [.c (.func (.func 54) [] []), .t 9, .t 10]⟩ ::
 ⟨(some 12), none, .p .pick, [.t 7, .c (.bool true), .t 11]⟩ ::
 ⟨(some 3), none, .p .mov, [.t 12]⟩ ::
 []))
(.seq (.seq (.ops (⟨(some 13), none, .p .mov, [.t 3]⟩ ::
 ⟨(some 14), none, .p .mov, [.t 13]⟩ ::
 ⟨(some 15), (some (14, false)), .p (.faddr 0), [.t 1]⟩ ::
 ⟨(some 16), (some (14, false)), .r .load1, [.t 15]⟩ ::
 ⟨(some 17), (some (14, false)), .p .lenS, [.t 16]⟩ ::
 ⟨(some 18), (some (14, false)), .call, [.c (.func (.func 57) [] []), .t 17, .c (.int .i64 1), .c (.int .i64 4)]⟩ ::
 ⟨(some 19), (some (14, false)), .p .not, [.t 18]⟩ ::
 ⟨(some 20), none, .p .pick, [.t 14, .c (.bool true), .t 19]⟩ ::
 ⟨(some 21), none, .p .mov, [.t 20]⟩ ::
 ⟨(some 22), (some (21, false)), .p (.faddr 1), [.t 1]⟩ ::
 ⟨(some 23), (some (21, false)), .r .load1, [.t 22]⟩ ::
 ⟨(some 24), (some (21, false)), .p .lenS, [.t 23]⟩ ::
 ⟨(some 25), (some (21, false)), .p (.bin .gtr), [.t 24, .c (.int .i64 8)]⟩ ::
 ⟨(some 26), none, .p .pick, [.t 21, .c (.bool true), .t 25]⟩ ::
 []))
(.cond (.t 26)
(.seq (.ops (⟨(some 2), none, .p .mov, [.c (.int .i64 50)]⟩ ::
 []))
.ret)
.skip))
(.seq (.ops (⟨(some 2), none, .p .mov, [.c (.int .i64 0)]⟩ ::
 []))
.ret))))⟩
abbrev f_conf_Check : Nat := 34
abbrev C_conf_Check : AFunc := C34
def C35 : AFunc := ⟨39, [.tmp 6],
(.seq (.ops (⟨(some 3), none, .a .box, [.t 0]⟩ ::
 ⟨(some 6), none, .p .mov, [.c (.int .i64 0)]⟩ ::
 []))
(.seq (.seq (.ops (⟨(some 9), none, .r (.loadN 2), [.t 3]⟩ ::
 ⟨(some 10), none, .p .mov, [.t 1]⟩ ::
 ⟨(some 11), none, .call, [.c (.func (.func 58) [] []), .t 9, .t 10]⟩ ::
 ⟨(some 7), none, .p .mov, [.t 11]⟩ ::
 []))
(.seq (.ops (⟨(some 12), none, .p .mov, [.t 7]⟩ ::
 ⟨(some 13), none, .p (.bin .neq), [.t 12, .c (.int .i64 0)]⟩ ::
 []))
(.cond (.t 13)
(.seq (.ops (⟨(some 14), none, .p .mov, [.t 7]⟩ ::
 ⟨(some 6), none, .p .mov, [.t 14]⟩ ::
 []))
.ret)
.skip)))
(.seq (.seq (.ops (⟨(some 15), none, .p .mov, [.t 2]⟩ ::
 ⟨(some 16), none, .p (.bin .lss), [.t 15, .c (.int .i64 0)]⟩ ::
 ⟨(some 17), none, .p .mov, [.t 16]⟩ ::
 ⟨(some 18), (some (17, false)), .p .mov, [.t 2]⟩ ::
 ⟨(some 19), (some (17, false)), .p .mov, [.t 1]⟩ ::
 ⟨(some 20), (some (17, false)), .p .lenS, [.t 19]⟩ ::
 ⟨(some 21), (some (17, false)), .p (.bin .geq), [.t 18, .t 20]⟩ ::
 ⟨(some 22), none, .p .pick, [.t 17, .c (.bool true), .t 21]⟩ ::
 []))
(.cond (.t 22)
(.seq (.ops (⟨(some 6), none, .p .mov, [.c (.int .i64 9)]⟩ ::
 []))
.ret)
.skip))
(.seq (.ops (⟨(some 8), none, .a (.alloc [(.bool false), (.bool false), (.bool false), (.bool false)]), []⟩ ::
 []))
(.seq (.ops (⟨(some 23), none, .p (.sliceArr 1 4 false false false), [.t 8]⟩ ::
 ⟨(some 24), none, .p .mov, [.t 1]⟩ ::
 ⟨(some 25), none, .e (.copy 1), [.t 23, .t 24]⟩ ::
 []))
(.seq (.ops (⟨(some 26), none, .p .mov, [.t 2]⟩ ::
 ⟨(some 27), none, .p (.iaddrA 1 4), [.t 8, .t 26]⟩ ::
 ⟨none, none, .e (.store 1), [.t 27, .c (.bool true)]⟩ ::
 []))
(.seq (.dops (⟨(some 29), none, .r (.loadN 2), [.t 3]⟩ ::
 ⟨(some 30), none, .p .mov, [.t 1]⟩ ::
 ⟨(some 31), none, .p .lenS, [.t 30]⟩ ::
 ⟨(some 32), none, .p (.sliceArr 1 4 false true false), [.t 8, .t 31]⟩ ::
 ⟨(some 33), none, .call, [.c (.func (.func 36) [] []), .t 29, .t 32]⟩ ::
 ⟨(some 28), none, .p .mov, [.t 33]⟩ ::
 ⟨(some 34), none, .p (.ext 0), [.t 28]⟩ ::
 ⟨(some 35), none, .p (.ext 1), [.t 28]⟩ ::
 ⟨(some 36), none, .p (.ext 2), [.t 28]⟩ ::
 ⟨(some 6), none, .p .mov, [.t 36]⟩ ::
 []) ([] :: [] :: [] :: [] :: [] :: [] :: [] :: [] :: [] :: [] :: []))
(.seq (.ops (⟨(some 37), none, .p (.sliceArr 1 4 false false false), [.t 8]⟩ ::
 ⟨none, none, .e (.clear [(.bool false)]), [.t 37]⟩ ::
 []))
(.seq (.ops (⟨(some 38), none, .p .mov, [.t 6]⟩ ::
 ⟨(some 6), none, .p .mov, [.t 38]⟩ ::
 []))
.ret)))))))))⟩
abbrev f_gate_Join : Nat := 35
abbrev C_gate_Join : AFunc := C35
def L_gate_Test_0 : AC := (.seq (.ops (⟨(some 33), none, .p (.bin .lss), [.t 32, .t 31]⟩ ::
 []))
(.seq (.cond (.t 33)
.skip
(.exit 0))
(.seq (.block 1 (.seq (.ops (⟨(some 34), none, .p .mov, [.t 32]⟩ ::
 ⟨(some 35), none, .p (.iaddrS 3), [.t 30, .t 32]⟩ ::
 ⟨(some 36), none, .r (.loadN 3), [.t 35]⟩ ::
 ⟨(some 11), none, .a (.alloc [(.int .i64 0), (.int .i64 0), .nils]), []⟩ ::
 ⟨(some 10), none, .p .mov, [.t 34]⟩ ::
 ⟨none, none, .e (.store 3), [.t 11, .t 36]⟩ ::
 []))
(.seq (.ops (⟨(some 37), none, .p .mov, [.t 1]⟩ ::
 ⟨(some 38), none, .p .mov, [.t 10]⟩ ::
 ⟨(some 39), none, .p (.iaddrS 1), [.t 37, .t 38]⟩ ::
 ⟨(some 40), none, .r .load1, [.t 39]⟩ ::
 []))
(.cond (.t 40)
(.ops (⟨(some 41), none, .p .mov, [.t 8]⟩ ::
 ⟨(some 42), none, .r (.loadN 3), [.t 11]⟩ ::
 ⟨(some 43), none, .a (.bslice [(.int .i64 0), (.int .i64 0), .nils] 1 3 [0]), [.t 42]⟩ ::
 ⟨(some 44), none, .e (.append 3 40), [.t 41, .t 43]⟩ ::
 ⟨(some 45), none, .p .mov, [.t 9]⟩ ::
 ⟨(some 46), none, .p .mov, [.t 10]⟩ ::
 ⟨(some 47), none, .a (.bslice [(.int .i64 0)] 1 1 [0]), [.t 46]⟩ ::
 ⟨(some 48), none, .e (.append 1 8), [.t 45, .t 47]⟩ ::
 ⟨(some 8), none, .p .mov, [.t 44]⟩ ::
 ⟨(some 9), none, .p .mov, [.t 48]⟩ ::
 []))
.skip))))
(.ops (⟨(some 49), none, .p (.bin .add), [.t 32, .c (.int .i64 1)]⟩ ::
 ⟨(some 32), none, .p .mov, [.t 49]⟩ ::
 [])))))
def L_gate_Test_1 : AC := (.seq (.ops (⟨(some 58), none, .p (.bin .lss), [.t 57, .t 56]⟩ ::
 []))
(.seq (.cond (.t 58)
.skip
(.exit 2))
(.seq (.block 3 (.seq (.ops (⟨(some 59), none, .p .mov, [.t 57]⟩ ::
 ⟨(some 60), none, .p (.iaddrS 1), [.t 55, .t 57]⟩ ::
 ⟨(some 61), none, .r .load1, [.t 60]⟩ ::
 ⟨(some 13), none, .p .mov, [.t 59]⟩ ::
 ⟨(some 14), none, .p .mov, [.t 61]⟩ ::
 []))
(.seq (.ops (⟨(some 63), none, .p .mov, [.t 8]⟩ ::
 ⟨(some 64), none, .p .mov, [.t 13]⟩ ::
 ⟨(some 65), none, .call, [.c (.func (.func 15) [] []), .t 63, .t 64]⟩ ::
 ⟨(some 62), none, .p .mov, [.t 65]⟩ ::
 ⟨(some 66), none, .p (.ext 0), [.t 62]⟩ ::
 ⟨(some 67), none, .p (.ext 1), [.t 62]⟩ ::
 ⟨(some 15), none, .p .mov, [.t 66]⟩ ::
 ⟨(some 16), none, .p .mov, [.t 67]⟩ ::
 []))
(.seq (.ops (⟨(some 68), none, .p .mov, [.t 16]⟩ ::
 ⟨(some 69), none, .p (.bin .neq), [.t 68, .c (.int .i64 0)]⟩ ::
 []))
(.cond (.t 69)
(.seq (.ops (⟨(some 70), none, .p .mov, [.t 14]⟩ ::
 ⟨(some 71), none, .p .mov, [.t 15]⟩ ::
 ⟨(some 72), none, .p .mov, [.t 16]⟩ ::
 ⟨(some 4), none, .p .mov, [.t 70]⟩ ::
 ⟨(some 5), none, .p .mov, [.t 71]⟩ ::
 ⟨(some 6), none, .p .mov, [.t 72]⟩ ::
 []))
.ret)
.skip)))))
(.ops (⟨(some 73), none, .p (.bin .add), [.t 57, .c (.int .i64 1)]⟩ ::
 ⟨(some 57), none, .p .mov, [.t 73]⟩ ::
 [])))))
def C36 : AFunc := ⟨74, [.tmp 4, .tmp 5, .tmp 6],
(.seq (.ops (⟨(some 2), none, .a .box, [.t 0]⟩ ::
 ⟨(some 4), none, .p .mov, [.c (.int .i64 0)]⟩ ::
 ⟨(some 5), none, .p .mov, [.c (.int .i64 0)]⟩ ::
 ⟨(some 6), none, .p .mov, [.c (.int .i64 0)]⟩ ::
 []))
(.seq (.seq (.ops (⟨(some 17), none, .r (.loadN 2), [.t 2]⟩ ::
 ⟨(some 18), none, .p .mov, [.t 1]⟩ ::
 ⟨(some 19), none, .call, [.c (.func (.func 58) [] []), .t 17, .t 18]⟩ ::
 ⟨(some 7), none, .p .mov, [.t 19]⟩ ::
 []))
(.seq (.ops (⟨(some 20), none, .p .mov, [.t 7]⟩ ::
 ⟨(some 21), none, .p (.bin .neq), [.t 20, .c (.int .i64 0)]⟩ ::
 []))
(.cond (.t 21)
(.seq (.ops (⟨(some 22), none, .p .mov, [.t 7]⟩ ::
 ⟨(some 4), none, .p .mov, [.c (.int .i64 0)]⟩ ::
 ⟨(some 5), none, .p .mov, [.c (.int .i64 0)]⟩ ::
 ⟨(some 6), none, .p .mov, [.t 22]⟩ ::
 []))
.ret)
.skip)))
(.seq (.ops (⟨(some 23), none, .p .mov, [.t 1]⟩ ::
 ⟨(some 24), none, .p .lenS, [.t 23]⟩ ::
 ⟨(some 25), none, .a (.mkslice [(.int .i64 0), (.int .i64 0), .nils] 3 40), [.c (.int .i64 0), .t 24]⟩ ::
 ⟨(some 8), none, .p .mov, [.t 25]⟩ ::
 []))
(.seq (.ops (⟨(some 26), none, .p .mov, [.t 1]⟩ ::
 ⟨(some 27), none, .p .lenS, [.t 26]⟩ ::
 ⟨(some 28), none, .a (.mkslice [(.int .i64 0)] 1 8), [.c (.int .i64 0), .t 27]⟩ ::
 ⟨(some 9), none, .p .mov, [.t 28]⟩ ::
 []))
(.seq (.seq (.ops (⟨(some 29), none, .p (.faddr 0), [.t 2]⟩ ::
 ⟨(some 30), none, .r .load1, [.t 29]⟩ ::
 ⟨(some 31), none, .p .lenS, [.t 30]⟩ ::
 ⟨(some 32), none, .p .mov, [.c (.int .i64 0)]⟩ ::
 []))
(.block 0 (.loop L_gate_Test_0)))
(.seq (.seq (.ops (⟨(some 50), none, .p .mov, [.t 8]⟩ ::
 ⟨(some 51), none, .call, [.c (.func (.func 33) [] []), .t 50]⟩ ::
 ⟨(some 12), none, .p .mov, [.t 51]⟩ ::
 []))
(.seq (.ops (⟨(some 52), none, .p .mov, [.t 12]⟩ ::
 ⟨(some 53), none, .p (.bin .neq), [.t 52, .c (.int .i64 0)]⟩ ::
 []))
(.cond (.t 53)
(.seq (.ops (⟨(some 54), none, .p .mov, [.t 12]⟩ ::
 ⟨(some 4), none, .p .mov, [.c (.int .i64 (-1))]⟩ ::
 ⟨(some 5), none, .p .mov, [.c (.int .i64 0)]⟩ ::
 ⟨(some 6), none, .p .mov, [.t 54]⟩ ::
 []))
.ret)
.skip)))
(.seq (.seq (.ops (⟨(some 55), none, .p .mov, [.t 9]⟩ ::
 ⟨(some 56), none, .p .lenS, [.t 55]⟩ ::
 ⟨(some 57), none, .p .mov, [.c (.int .i64 0)]⟩ ::
 []))
(.block 2 (.loop L_gate_Test_1)))
(.seq (.ops (⟨(some 4), none, .p .mov, [.c (.int .i64 (-1))]⟩ ::
 ⟨(some 5), none, .p .mov, [.c (.int .i64 0)]⟩ ::
 ⟨(some 6), none, .p .mov, [.c (.int .i64 0)]⟩ ::
 []))
.ret))))))))⟩
abbrev f_gate_Test : Nat := 36
abbrev C_gate_Test : AFunc := C36
def C37 : AFunc := ⟨26, [.cell 4 6 true, .tmp 5],
(.seq (.ops (⟨(some 4), none, .a (.alloc [(.int .i64 0), (.int .i64 0), .nils, .nils, (.int .i64 0), .nils]), []⟩ ::
 ⟨(some 5), none, .p .mov, [.c (.int .i64 0)]⟩ ::
 []))
(.seq (.ops (⟨(some 9), none, .p .mov, [.t 0]⟩ ::
 ⟨(some 10), none, .p .mov, [.t 1]⟩ ::
 ⟨(some 11), none, .call, [.c (.func (.func 59) [] []), .t 9, .t 10]⟩ ::
 ⟨(some 8), none, .p .mov, [.t 11]⟩ ::
 ⟨(some 12), none, .p (.ext 0), [.t 8]⟩ ::
 ⟨(some 13), none, .p (.ext 1), [.t 8]⟩ ::
 ⟨(some 6), none, .p .mov, [.t 12]⟩ ::
 ⟨(some 7), none, .p .mov, [.t 13]⟩ ::
 []))
(.seq (.seq (.ops (⟨(some 14), none, .p .mov, [.t 7]⟩ ::
 ⟨(some 15), none, .p (.bin .neq), [.t 14, .c (.int .i64 0)]⟩ ::
 []))
(.cond (.t 15)
(.seq (.ops (⟨(some 16), none, .p (.build [(.int .i64 0), (.int .i64 0), .nils, .nils, (.int .i64 0), .nils] []), []⟩ ::
 ⟨(some 17), none, .p .mov, [.t 7]⟩ ::
 ⟨none, none, .e (.store 6), [.t 4, .t 16]⟩ ::
 ⟨(some 5), none, .p .mov, [.t 17]⟩ ::
 []))
.ret)
.skip))
(.seq (.ops (⟨(some 18), none, .p .mov, [.t 0]⟩ ::
 ⟨(some 19), none, .p .mov, [.t 1]⟩ ::
 ⟨(some 20), none, .p (.iaddrS 3), [.t 18, .t 19]⟩ ::
 ⟨(some 21), none, .r (.loadN 3), [.t 20]⟩ ::
 ⟨(some 22), none, .p .mov, [.t 0]⟩ ::
 ⟨(some 23), none, .p .mov, [.t 1]⟩ ::
 ⟨(some 24), none, .p .mov, [.t 6]⟩ ::
 ⟨(some 25), none, .p (.build [(.int .i64 0), (.int .i64 0), .nils, .nils, (.int .i64 0), .nils] [(0, 3), (3, 1), (4, 1), (5, 1)]), [.t 21, .t 22, .t 23, .t 24]⟩ ::
 ⟨none, none, .e (.store 6), [.t 4, .t 25]⟩ ::
 ⟨(some 5), none, .p .mov, [.c (.int .i64 0)]⟩ ::
 []))
.ret))))⟩
abbrev f_local_of : Nat := 37
abbrev C_local_of : AFunc := C37
def L_demand_Hyper_0 : AC := (.seq (.ops (⟨(some 26), none, .p (.bin .lss), [.t 25, .t 24]⟩ ::
 []))
(.seq (.cond (.t 26)
.skip
(.exit 0))
(.seq (.block 1 (.seq (.ops (⟨(some 27), none, .p (.iaddrS 8), [.t 23, .t 25]⟩ ::
 ⟨(some 28), none, .r (.loadN 8), [.t 27]⟩ ::
 ⟨(some 8), none, .a (.alloc [(.int .i64 0), (.int .i64 0), (.int .i64 0), (.int .i64 0), (.int .i64 0), (.int .i64 0), (.int .i64 0), (.int .i64 0)]), []⟩ ::
 ⟨none, none, .e (.store 8), [.t 8, .t 28]⟩ ::
 []))
(.seq (.ops (⟨(some 30), none, .p .mov, [.t 6]⟩ ::
 ⟨(some 31), none, .p (.faddr 0), [.t 8]⟩ ::
 ⟨(some 32), none, .r .load1, [.t 31]⟩ ::
 ⟨(some 33), none, .a (.bslice [(.int .i64 0)] 2 1 [0, 1]), [.t 30, .t 32]⟩ ::
 ⟨(some 34), none, .call, [.c (.func (.func 61) [] []), .c (.int .i64 4096), .t 33]⟩ ::
 ⟨(some 29), none, .p .mov, [.t 34]⟩ ::
 ⟨(some 35), none, .p (.ext 0), [.t 29]⟩ ::
 ⟨(some 36), none, .p (.ext 1), [.t 29]⟩ ::
 ⟨(some 9), none, .p .mov, [.t 35]⟩ ::
 ⟨(some 10), none, .p .mov, [.t 36]⟩ ::
 []))
(.seq (.seq (.ops (⟨(some 37), none, .p .mov, [.t 10]⟩ ::
 ⟨(some 38), none, .p (.bin .neq), [.t 37, .c (.int .i64 0)]⟩ ::
 []))
(.cond (.t 38)
(.seq (.ops (⟨(some 4), none, .p .mov, [.c (.int .i64 0)]⟩ ::
 ⟨(some 5), none, .p .mov, [.c (.int .i64 5)]⟩ ::
 []))
.ret)
.skip))
(.ops (⟨(some 39), none, .p .mov, [.t 9]⟩ ::
 ⟨(some 6), none, .p .mov, [.t 39]⟩ ::
 []))))))
(.ops (⟨(some 40), none, .p (.bin .add), [.t 25, .c (.int .i64 1)]⟩ ::
 ⟨(some 25), none, .p .mov, [.t 40]⟩ ::
 [])))))
def C38 : AFunc := ⟨42, [.tmp 4, .tmp 5],
(.seq (.ops (⟨(some 4), none, .p .mov, [.c (.int .i64 0)]⟩ ::
 ⟨(some 5), none, .p .mov, [.c (.int .i64 0)]⟩ ::
 []))
(.seq (.seq (.ops (⟨(some 11), none, .p .mov, [.t 0]⟩ ::
 ⟨(some 12), none, .call, [.c (.func (.func 60) [] []), .t 11]⟩ ::
 ⟨(some 13), none, .p .not, [.t 12]⟩ ::
 ⟨(some 14), none, .p .mov, [.t 13]⟩ ::
 ⟨(some 15), (some (14, false)), .p .mov, [.t 1]⟩ ::
 ⟨(some 16), (some (14, false)), .p (.bin .lss), [.t 15, .c (.int .i64 1)]⟩ ::
 ⟨(some 17), none, .p .pick, [.t 14, .c (.bool true), .t 16]⟩ ::
 ⟨(some 18), none, .p .mov, [.t 17]⟩ ::
 ⟨(some 19), (some (18, false)), .p .mov, [.t 1]⟩ ::
 ⟨(some 20), (some (18, false)), .p (.bin .gtr), [.t 19, .c (.int .i64 64)]⟩ ::
 ⟨(some 21), none, .p .pick, [.t 18, .c (.bool true), .t 20]⟩ ::
 []))
(.cond (.t 21)
(.seq (.ops (⟨(some 4), none, .p .mov, [.c (.int .i64 0)]⟩ ::
 ⟨(some 5), none, .p .mov, [.c (.int .i64 2)]⟩ ::
 []))
.ret)
.skip))
(.seq (.ops (⟨(some 22), none, .p .mov, [.t 1]⟩ ::
 ⟨(some 6), none, .p .mov, [.t 22]⟩ ::
 []))
(.seq (.seq (.ops (⟨(some 23), none, .p .mov, [.t 0]⟩ ::
 ⟨(some 24), none, .p .lenS, [.t 23]⟩ ::
 ⟨(some 25), none, .p .mov, [.c (.int .i64 0)]⟩ ::
 []))
(.block 0 (.loop L_demand_Hyper_0)))
(.seq (.ops (⟨(some 41), none, .p .mov, [.t 6]⟩ ::
 ⟨(some 4), none, .p .mov, [.t 41]⟩ ::
 ⟨(some 5), none, .p .mov, [.c (.int .i64 0)]⟩ ::
 []))
.ret)))))⟩
abbrev f_demand_Hyper : Nat := 38
abbrev C_demand_Hyper : AFunc := C38
def C39 : AFunc := ⟨30, [.tmp 6, .tmp 7],
(.seq (.ops (⟨(some 5), none, .a .box, [.t 2]⟩ ::
 ⟨(some 6), none, .p .mov, [.c (.int .i64 0)]⟩ ::
 ⟨(some 7), none, .p .mov, [.c (.int .i64 0)]⟩ ::
 []))
(.seq (.seq (.ops (⟨(some 9), none, .p .mov, [.t 0]⟩ ::
 ⟨(some 10), none, .p .mov, [.t 1]⟩ ::
 ⟨(some 11), none, .call, [.c (.func (.func 62) [] []), .t 9, .t 10]⟩ ::
 ⟨(some 8), none, .p .mov, [.t 11]⟩ ::
 []))
(.seq (.ops (⟨(some 12), none, .p .mov, [.t 8]⟩ ::
 ⟨(some 13), none, .p (.bin .neq), [.t 12, .c (.int .i64 0)]⟩ ::
 ⟨(some 14), none, .p .mov, [.t 13]⟩ ::
 ⟨(some 15), (some (14, false)), .r .load1, [.t 5]⟩ ::
 ⟨(some 16), (some (14, false)), .p (.bin .lss), [.t 15, .c (.int .i64 1)]⟩ ::
 ⟨(some 17), none, .p .pick, [.t 14, .c (.bool true), .t 16]⟩ ::
 ⟨(some 18), none, .p .mov, [.t 17]⟩ ::
 ⟨(some 19), (some (18, false)), .r .load1, [.t 5]⟩ ::
 ⟨(some 20), (some (18, false)), .p (.bin .gtr), [.t 19, .c (.int .i64 1048576)]⟩ ::
 ⟨(some 21), none, .p .pick, [.t 18, .c (.bool true), .t 20]⟩ ::
 []))
(.cond (.t 21)
(.seq (.ops (⟨(some 6), none, .p .mov, [.c (.int .i64 0)]⟩ ::
 ⟨(some 7), none, .p .mov, [.c (.int .i64 2)]⟩ ::
 []))
.ret)
.skip)))
(.seq (.seq (.ops (⟨(some 22), none, .p .mov, [.t 0]⟩ ::
 ⟨(some 23), none, .p (.mkfunc (.func 64) 0), [.t 5]⟩ ::
 ⟨(some 24), none, .call, [.c (.func (.func 63) [] []), .t 22, .t 23]⟩ ::
 []))
(.cond (.t 24)
(.seq (.ops (⟨(some 6), none, .p .mov, [.c (.int .i64 0)]⟩ ::
 ⟨(some 7), none, .p .mov, [.c (.int .i64 2)]⟩ ::
 []))
.ret)
.skip))
(.seq (.ops (⟨(some 25), none, .p .mov, [.t 0]⟩ ::
 ⟨(some 26), none, .p .mov, [.t 1]⟩ ::
 ⟨(some 27), none, .p (.mkfunc (.func 67) 0), [.t 5]⟩ ::
 ⟨(some 28), none, .call, [.c (.func (.func 66) [] []), .t 25, .t 26, .t 27]⟩ ::
 ⟨(some 29), none, .call, [.c (.func (.func 65) [] []), .t 28]⟩ ::
 ⟨(some 6), none, .p .mov, [.t 29]⟩ ::
 ⟨(some 7), none, .p .mov, [.c (.int .i64 0)]⟩ ::
 []))
.ret))))⟩
abbrev f_demand_Use : Nat := 39
abbrev C_demand_Use : AFunc := C39
def C40 : AFunc := ⟨6, [.tmp 4],
(.seq (.ops (⟨(some 2), none, .a .box, [.t 0]⟩ ::
 ⟨(some 3), none, .a .box, [.t 1]⟩ ::
 ⟨(some 4), none, .p .mov, [.c .nilf]⟩ ::
 []))
(.seq (.ops (⟨(some 5), none, .p (.mkfunc (.func 68) 0), [.t 3, .t 2]⟩ ::
 ⟨(some 4), none, .p .mov, [.t 5]⟩ ::
 []))
.ret))⟩
abbrev f_local_look_slacks : Nat := 40
abbrev C_local_look_slacks : AFunc := C40
def L_local_sum_0 : AC := (.seq (.ops (⟨(some 8), none, .p (.bin .lss), [.t 7, .t 6]⟩ ::
 []))
(.seq (.cond (.t 8)
.skip
(.exit 0))
(.seq (.block 1 (.seq (.ops (⟨(some 9), none, .p (.iaddrS 1), [.t 5, .t 7]⟩ ::
 ⟨(some 10), none, .r .load1, [.t 9]⟩ ::
 ⟨(some 4), none, .p .mov, [.t 10]⟩ ::
 []))
(.ops (⟨(some 11), none, .p .mov, [.t 2]⟩ ::
 ⟨(some 12), none, .p .mov, [.t 4]⟩ ::
 ⟨(some 13), none, .p (.bin .add), [.t 11, .t 12]⟩ ::
 ⟨(some 2), none, .p .mov, [.t 13]⟩ ::
 []))))
(.ops (⟨(some 14), none, .p (.bin .add), [.t 7, .c (.int .i64 1)]⟩ ::
 ⟨(some 7), none, .p .mov, [.t 14]⟩ ::
 [])))))
def C41 : AFunc := ⟨16, [.tmp 2],
(.seq (.ops (⟨(some 2), none, .p .mov, [.c (.int .i64 0)]⟩ ::
 []))
(.seq (.seq (.ops (⟨(some 5), none, .p .mov, [.t 0]⟩ ::
 ⟨(some 6), none, .p .lenS, [.t 5]⟩ ::
 ⟨(some 7), none, .p .mov, [.c (.int .i64 0)]⟩ ::
 []))
(.block 0 (.loop L_local_sum_0)))
(.seq (.ops (⟨(some 15), none, .p .mov, [.t 2]⟩ ::
 ⟨(some 2), none, .p .mov, [.t 15]⟩ ::
 []))
.ret)))⟩
abbrev f_local_sum : Nat := 41
abbrev C_local_sum : AFunc := C41
def C42 : AFunc := ⟨38, [.tmp 4],
(.seq (.ops (⟨(some 2), none, .a .box, [.t 0]⟩ ::
 ⟨(some 4), none, .p .mov, [.c (.int .i64 0)]⟩ ::
 []))
(.seq (.ops (⟨(some 10), none, .p (.faddr 0), [.t 2]⟩ ::
 ⟨(some 11), none, .p (.faddr 0), [.t 10]⟩ ::
 ⟨(some 12), none, .r .load1, [.t 11]⟩ ::
 ⟨(some 13), none, .p (.faddr 0), [.t 2]⟩ ::
 ⟨(some 14), none, .p (.faddr 1), [.t 13]⟩ ::
 ⟨(some 15), none, .r .load1, [.t 14]⟩ ::
 ⟨(some 16), none, .p .mov, [.t 1]⟩ ::
 ⟨(some 17), none, .call, [.c (.func (.func 70) [] []), .t 12, .t 15, .t 16]⟩ ::
 ⟨(some 9), none, .p .mov, [.t 17]⟩ ::
 ⟨(some 18), none, .p (.ext 0), [.t 9]⟩ ::
 ⟨(some 19), none, .p (.ext 1), [.t 9]⟩ ::
 ⟨(some 5), none, .p .mov, [.t 18]⟩ ::
 ⟨(some 6), none, .p .mov, [.t 19]⟩ ::
 []))
(.seq (.ops (⟨(some 21), none, .p (.faddr 3), [.t 2]⟩ ::
 ⟨(some 22), none, .r .load1, [.t 21]⟩ ::
 ⟨(some 23), none, .p (.faddr 4), [.t 2]⟩ ::
 ⟨(some 24), none, .r .load1, [.t 23]⟩ ::
 ⟨(some 25), none, .p .mov, [.t 1]⟩ ::
 ⟨(some 26), none, .call, [.c (.func (.func 71) [] []), .t 22, .t 24, .t 25]⟩ ::
 ⟨(some 20), none, .p .mov, [.t 26]⟩ ::
 ⟨(some 27), none, .p (.ext 0), [.t 20]⟩ ::
 ⟨(some 28), none, .p (.ext 1), [.t 20]⟩ ::
 ⟨(some 7), none, .p .mov, [.t 27]⟩ ::
 ⟨(some 8), none, .p .mov, [.t 28]⟩ ::
 []))
(.seq (.ops (⟨(some 29), none, .p .mov, [.t 5]⟩ ::
 ⟨(some 30), none, .r (.loadN 6), [.t 2]⟩ ::
 ⟨(some 31), none, .p .mov, [.t 1]⟩ ::
 ⟨(some 32), none, .call, [.c (.func (.func 69) [] []), .t 30, .t 31]⟩ ::
 ⟨(some 33), none, .p .neg, [.t 32]⟩ ::
 ⟨(some 34), none, .p .mov, [.t 7]⟩ ::
 ⟨(some 35), none, .p .neg, [.t 34]⟩ ::
 ⟨(some 36), none, .a (.bslice [(.int .i64 0)] 3 1 [0, 1, 2]), [.t 29, .t 33, .t 35]⟩ ::
 ⟨(some 37), none, .call, [.c (.func (.func 41) [] []), .t 36]⟩ ::
 ⟨(some 4), none, .p .mov, [.t 37]⟩ ::
 []))
.ret))))⟩
abbrev f_local_look_slack : Nat := 42
abbrev C_local_look_slack : AFunc := C42
def L_escapementref11_Sum_0 : AC := (.seq (.seq (.ops (⟨(some 14), none, .p .mov, [.t 7]⟩ ::
 ⟨(some 15), none, .p .mov, [.t 0]⟩ ::
 ⟨(some 16), none, .p .lenS, [.t 15]⟩ ::
 ⟨(some 17), none, .p (.bin .lss), [.t 14, .t 16]⟩ ::
 []))
(.cond (.t 17)
.skip
(.exit 0)))
(.seq (.block 1 (.seq (.ops (⟨(some 20), none, .p .mov, [.t 0]⟩ ::
 ⟨(some 21), none, .p .mov, [.t 7]⟩ ::
 ⟨(some 22), none, .p (.iaddrS 3), [.t 20, .t 21]⟩ ::
 ⟨(some 23), none, .r (.loadN 3), [.t 22]⟩ ::
 ⟨(some 8), none, .a (.alloc [(.int .i64 0), (.int .i64 0), .nils]), []⟩ ::
 ⟨none, none, .e (.store 3), [.t 8, .t 23]⟩ ::
 []))
(.seq (.seq (.ops (⟨(some 24), none, .p (.faddr 0), [.t 8]⟩ ::
 ⟨(some 25), none, .r .load1, [.t 24]⟩ ::
 ⟨(some 26), none, .p (.bin .lss), [.t 25, .c (.int .i64 1)]⟩ ::
 ⟨(some 27), none, .p .mov, [.t 26]⟩ ::
 ⟨(some 28), (some (27, false)), .p (.faddr 0), [.t 8]⟩ ::
 ⟨(some 29), (some (27, false)), .r .load1, [.t 28]⟩ ::
 ⟨(some 30), (some (27, false)), .p (.bin .gtr), [.t 29, .c (.int .i64 64)]⟩ ::
 ⟨(some 31), none, .p .pick, [.t 27, .c (.bool true), .t 30]⟩ ::
 ⟨(some 32), none, .p .mov, [.t 31]⟩ ::
 ⟨(some 33), (some (32, false)), .p (.faddr 1), [.t 8]⟩ ::
 ⟨(some 34), (some (32, false)), .r .load1, [.t 33]⟩ ::
 ⟨(some 35), (some (32, false)), .p (.bin .lss), [.t 34, .c (.int .i64 1)]⟩ ::
 ⟨(some 36), none, .p .pick, [.t 32, .c (.bool true), .t 35]⟩ ::
 ⟨(some 37), none, .p .mov, [.t 36]⟩ ::
 ⟨(some 38), (some (37, false)), .p (.faddr 1), [.t 8]⟩ ::
 ⟨(some 39), (some (37, false)), .r .load1, [.t 38]⟩ ::
 ⟨(some 40), (some (37, false)), .p (.faddr 0), [.t 8]⟩ ::
 ⟨(some 41), (some (37, false)), .r .load1, [.t 40]⟩ ::
 ⟨(some 42), (some (37, false)), .p (.bin .gtr), [.t 39, .t 41]⟩ ::
 ⟨(some 43), none, .p .pick, [.t 37, .c (.bool true), .t 42]⟩ ::
 []))
(.cond (.t 43)
(.seq (.ops (⟨(some 2), none, .p .mov, [.c (.int .i64 0)]⟩ ::
 ⟨(some 3), none, .p .mov, [.c (.int .i64 0)]⟩ ::
 ⟨(some 4), none, .p .mov, [.c (.int .i64 2)]⟩ ::
 []))
.ret)
.skip))
(.seq (.ops (⟨(some 44), none, .p .mov, [.t 5]⟩ ::
 ⟨(some 45), none, .p (.faddr 0), [.t 8]⟩ ::
 ⟨(some 46), none, .r .load1, [.t 45]⟩ ::
 ⟨(some 47), none, .p (.bin .mul), [.t 44, .t 46]⟩ ::
 ⟨(some 48), none, .p (.faddr 1), [.t 8]⟩ ::
 ⟨(some 49), none, .r .load1, [.t 48]⟩ ::
 ⟨(some 50), none, .p .mov, [.t 6]⟩ ::
 ⟨(some 51), none, .p (.bin .mul), [.t 49, .t 50]⟩ ::
 ⟨(some 52), none, .p (.bin .add), [.t 47, .t 51]⟩ ::
 ⟨(some 5), none, .p .mov, [.t 52]⟩ ::
 []))
(.ops (⟨(some 53), none, .p .mov, [.t 6]⟩ ::
 ⟨(some 54), none, .p (.faddr 0), [.t 8]⟩ ::
 ⟨(some 55), none, .r .load1, [.t 54]⟩ ::
 ⟨(some 56), none, .p (.bin .mul), [.t 53, .t 55]⟩ ::
 ⟨(some 6), none, .p .mov, [.t 56]⟩ ::
 []))))))
(.ops (⟨(some 18), none, .p .mov, [.t 7]⟩ ::
 ⟨(some 19), none, .p (.bin .add), [.t 18, .c (.int .i64 1)]⟩ ::
 ⟨(some 7), none, .p .mov, [.t 19]⟩ ::
 []))))
def L_escapementref11_Sum_1 : AC := (.seq (.seq (.ops (⟨(some 59), none, .p .mov, [.t 10]⟩ ::
 ⟨(some 60), none, .p (.bin .gtr), [.t 59, .c (.int .i64 0)]⟩ ::
 []))
(.cond (.t 60)
.skip
(.exit 2)))
(.block 3 (.dops (⟨(some 61), none, .p .mov, [.t 10]⟩ ::
 ⟨(some 62), none, .p .mov, [.t 9]⟩ ::
 ⟨(some 63), none, .p .mov, [.t 10]⟩ ::
 ⟨(some 64), none, .p (.bin .rem), [.t 62, .t 63]⟩ ::
 ⟨(some 9), none, .p .mov, [.t 61]⟩ ::
 ⟨(some 10), none, .p .mov, [.t 64]⟩ ::
 []) ([] :: [] :: [] :: [] :: [] :: [] :: []))))
def C43 : AFunc := ⟨71, [.tmp 2, .tmp 3, .tmp 4],
(.seq (.ops (⟨(some 2), none, .p .mov, [.c (.int .i64 0)]⟩ ::
 ⟨(some 3), none, .p .mov, [.c (.int .i64 0)]⟩ ::
 ⟨(some 4), none, .p .mov, [.c (.int .i64 0)]⟩ ::
 []))
(.seq (.seq (.ops (⟨(some 11), none, .p .mov, [.t 0]⟩ ::
 ⟨(some 12), none, .p .lenS, [.t 11]⟩ ::
 ⟨(some 13), none, .p (.bin .gtr), [.t 12, .c (.int .i64 4)]⟩ ::
 []))
(.cond (.t 13)
(.seq (.ops (⟨(some 2), none, .p .mov, [.c (.int .i64 0)]⟩ ::
 ⟨(some 3), none, .p .mov, [.c (.int .i64 0)]⟩ ::
 ⟨(some 4), none, .p .mov, [.c (.int .i64 2)]⟩ ::
 []))
.ret)
.skip))
(.seq (.ops (⟨(some 5), none, .p .mov, [.c (.int .i64 0)]⟩ ::
 ⟨(some 6), none, .p .mov, [.c (.int .i64 1)]⟩ ::
 []))
(.seq (.seq (.ops (⟨(some 7), none, .p .mov, [.c (.int .i64 0)]⟩ ::
 []))
(.block 0 (.loop L_escapementref11_Sum_0)))
(.seq (.ops (⟨(some 57), none, .p .mov, [.t 5]⟩ ::
 ⟨(some 58), none, .p .mov, [.t 6]⟩ ::
 ⟨(some 9), none, .p .mov, [.t 57]⟩ ::
 ⟨(some 10), none, .p .mov, [.t 58]⟩ ::
 []))
(.seq (.block 2 (.loop L_escapementref11_Sum_1))
(.seq (.dops (⟨(some 65), none, .p .mov, [.t 5]⟩ ::
 ⟨(some 66), none, .p .mov, [.t 9]⟩ ::
 ⟨(some 67), none, .p (.bin .quo), [.t 65, .t 66]⟩ ::
 ⟨(some 68), none, .p .mov, [.t 6]⟩ ::
 ⟨(some 69), none, .p .mov, [.t 9]⟩ ::
 ⟨(some 70), none, .p (.bin .quo), [.t 68, .t 69]⟩ ::
 ⟨(some 2), none, .p .mov, [.t 67]⟩ ::
 ⟨(some 3), none, .p .mov, [.t 70]⟩ ::
 ⟨(some 4), none, .p .mov, [.c (.int .i64 0)]⟩ ::
 []) ([] :: [] :: [] :: [] :: [] :: [] :: [] :: [] :: [] :: []))
.ret)))))))⟩
abbrev f_escapementref11_Sum : Nat := 43
abbrev C_escapementref11_Sum : AFunc := C43
def C44 : AFunc := ⟨8, [.tmp 2],
(.seq (.ops (⟨(some 2), none, .p .mov, [.c .nils]⟩ ::
 []))
(.seq (.seq (.ops (⟨(some 3), none, .p .mov, [.t 0]⟩ ::
 ⟨(some 4), none, .p (.eq .nilsl), [.t 3, .c .nils]⟩ ::
 []))
(.cond (.t 4)
(.seq (.ops (⟨(some 2), none, .p .mov, [.c .nils]⟩ ::
 []))
.ret)
.skip))
(.seq (.ops (⟨(some 5), none, .a (.bslice [(.int .i64 0), (.int .i64 0), .nils] 0 3 []), []⟩ ::
 ⟨(some 6), none, .p .mov, [.t 0]⟩ ::
 ⟨(some 7), none, .e (.append 3 40), [.t 5, .t 6]⟩ ::
 ⟨(some 2), none, .p .mov, [.t 7]⟩ ::
 []))
.ret)))⟩
abbrev f_slices_Clone_api_Part_api_Part : Nat := 44
abbrev C_slices_Clone_api_Part_api_Part : AFunc := C44
def C45 : AFunc := ⟨8, [.tmp 2],
(.seq (.ops (⟨(some 2), none, .p .mov, [.c .nils]⟩ ::
 []))
(.seq (.seq (.ops (⟨(some 3), none, .p .mov, [.t 0]⟩ ::
 ⟨(some 4), none, .p (.eq .nilsl), [.t 3, .c .nils]⟩ ::
 []))
(.cond (.t 4)
(.seq (.ops (⟨(some 2), none, .p .mov, [.c .nils]⟩ ::
 []))
.ret)
.skip))
(.seq (.ops (⟨(some 5), none, .a (.bslice [(.int .i64 0), (.int .i64 0), (.int .i64 0), (.int .i64 0), (.int .i64 0), (.int .i64 0), (.int .i64 0), (.int .i64 0)] 0 8 []), []⟩ ::
 ⟨(some 6), none, .p .mov, [.t 0]⟩ ::
 ⟨(some 7), none, .e (.append 8 64), [.t 5, .t 6]⟩ ::
 ⟨(some 2), none, .p .mov, [.t 7]⟩ ::
 []))
.ret)))⟩
abbrev f_slices_Clone_api_Task_api_Task : Nat := 45
abbrev C_slices_Clone_api_Task_api_Task : AFunc := C45
def C46 : AFunc := ⟨13, [.tmp 4],
(.seq (.ops (⟨(some 4), none, .p .mov, [.c (.bool false)]⟩ ::
 []))
(.seq (.ops (⟨(some 5), none, .p .mov, [.t 1]⟩ ::
 ⟨(some 6), none, .p (.bin .geq), [.t 5, .c (.int .i64 0)]⟩ ::
 ⟨(some 7), none, .p .mov, [.t 6]⟩ ::
 ⟨(some 8), (some (7, true)), .p .mov, [.t 1]⟩ ::
 ⟨(some 9), (some (7, true)), .p .mov, [.t 0]⟩ ::
 ⟨(some 10), (some (7, true)), .p .lenS, [.t 9]⟩ ::
 ⟨(some 11), (some (7, true)), .p (.bin .lss), [.t 8, .t 10]⟩ ::
 ⟨(some 12), none, .p .pick, [.t 7, .t 11, .c (.bool false)]⟩ ::
 ⟨(some 4), none, .p .mov, [.t 12]⟩ ::
 []))
.ret))⟩
abbrev f_tune_there : Nat := 46
abbrev C_tune_there : AFunc := C46
def L_tune_need_0 : AC := (.seq (.ops (⟨(some 21), none, .p (.bin .lss), [.t 20, .t 19]⟩ ::
 []))
(.seq (.cond (.t 21)
.skip
(.exit 0))
(.seq (.block 1 (.seq (.ops (⟨(some 22), none, .p .mov, [.t 20]⟩ ::
 ⟨(some 9), none, .p .mov, [.t 22]⟩ ::
 []))
(.seq (.ops (⟨(some 23), none, .p .mov, [.t 8]⟩ ::
 ⟨(some 24), none, .p .mov, [.t 9]⟩ ::
 ⟨(some 25), none, .p (.bin .add), [.t 24, .c (.int .i64 1)]⟩ ::
 ⟨(some 26), none, .call, [.t 23, .t 25]⟩ ::
 []))
(.cond (.t 26)
(.seq (.ops (⟨(some 27), none, .p .mov, [.t 9]⟩ ::
 ⟨(some 28), none, .p (.bin .add), [.t 27, .c (.int .i64 1)]⟩ ::
 ⟨(some 6), none, .p .mov, [.t 28]⟩ ::
 []))
.ret)
.skip))))
(.ops (⟨(some 29), none, .p (.bin .add), [.t 20, .c (.int .i64 1)]⟩ ::
 ⟨(some 20), none, .p .mov, [.t 29]⟩ ::
 [])))))
def C47 : AFunc := ⟨30, [.tmp 6],
(.seq (.ops (⟨(some 4), none, .a .box, [.t 1]⟩ ::
 ⟨(some 6), none, .p .mov, [.c (.int .i64 0)]⟩ ::
 []))
(.seq (.ops (⟨(some 10), none, .p .mov, [.t 0]⟩ ::
 ⟨(some 11), none, .call, [.c (.func (.func 44) [] []), .t 10]⟩ ::
 ⟨(some 7), none, .a (.alloc [.nils]), []⟩ ::
 ⟨none, none, .e (.store 1), [.t 7, .t 11]⟩ ::
 []))
(.seq (.ops (⟨(some 12), none, .r .load1, [.t 7]⟩ ::
 ⟨(some 13), none, .r .load1, [.t 4]⟩ ::
 ⟨(some 14), none, .p .mov, [.t 2]⟩ ::
 ⟨(some 15), none, .p (.iaddrS 3), [.t 12, .t 13]⟩ ::
 ⟨(some 16), none, .p (.faddr 0), [.t 15]⟩ ::
 ⟨none, none, .e (.store 1), [.t 16, .t 14]⟩ ::
 []))
(.seq (.ops (⟨(some 17), none, .p (.mkfunc (.func 72) 0), [.t 7, .t 4]⟩ ::
 ⟨(some 8), none, .p .mov, [.t 17]⟩ ::
 []))
(.seq (.seq (.ops (⟨(some 18), none, .p .mov, [.t 2]⟩ ::
 ⟨(some 19), none, .p .mn, [.t 18, .c (.int .i64 64)]⟩ ::
 ⟨(some 20), none, .p .mov, [.c (.int .i64 0)]⟩ ::
 []))
(.block 0 (.loop L_tune_need_0)))
(.seq (.ops (⟨(some 6), none, .p .mov, [.c (.int .i64 0)]⟩ ::
 []))
.ret))))))⟩
abbrev f_tune_need : Nat := 47
abbrev C_tune_need : AFunc := C47
def L_share_sum_0 : AC := (.seq (.ops (⟨(some 15), none, .p (.bin .lss), [.t 14, .t 13]⟩ ::
 []))
(.seq (.cond (.t 15)
.skip
(.exit 0))
(.seq (.block 1 (.seq (.ops (⟨(some 16), none, .p (.iaddrS 3), [.t 12, .t 14]⟩ ::
 ⟨(some 17), none, .r (.loadN 3), [.t 16]⟩ ::
 ⟨(some 6), none, .a (.alloc [(.int .i64 0), (.int .i64 0), .nils]), []⟩ ::
 ⟨none, none, .e (.store 3), [.t 6, .t 17]⟩ ::
 []))
(.seq (.seq (.ops (⟨(some 18), none, .p (.faddr 0), [.t 6]⟩ ::
 ⟨(some 19), none, .r .load1, [.t 18]⟩ ::
 ⟨(some 20), none, .p (.bin .gtr), [.t 19, .c (.int .i64 64)]⟩ ::
 ⟨(some 21), none, .p .mov, [.t 20]⟩ ::
 ⟨(some 22), (some (21, false)), .p (.faddr 1), [.t 6]⟩ ::
 ⟨(some 23), (some (21, false)), .r .load1, [.t 22]⟩ ::
 ⟨(some 24), (some (21, false)), .p (.bin .lss), [.t 23, .c (.int .i64 1)]⟩ ::
 ⟨(some 25), none, .p .pick, [.t 21, .c (.bool true), .t 24]⟩ ::
 ⟨(some 26), none, .p .mov, [.t 25]⟩ ::
 ⟨(some 27), (some (26, false)), .p (.faddr 1), [.t 6]⟩ ::
 ⟨(some 28), (some (26, false)), .r .load1, [.t 27]⟩ ::
 ⟨(some 29), (some (26, false)), .p (.faddr 0), [.t 6]⟩ ::
 ⟨(some 30), (some (26, false)), .r .load1, [.t 29]⟩ ::
 ⟨(some 31), (some (26, false)), .p (.bin .gtr), [.t 28, .t 30]⟩ ::
 ⟨(some 32), none, .p .pick, [.t 26, .c (.bool true), .t 31]⟩ ::
 []))
(.cond (.t 32)
(.seq (.ops (⟨(some 33), none, .r (.loadN 2), [.t 4]⟩ ::
 ⟨none, none, .e (.store 2), [.t 2, .t 33]⟩ ::
 ⟨(some 3), none, .p .mov, [.c (.bool false)]⟩ ::
 []))
.ret)
.skip))
(.ops (⟨(some 34), none, .r (.loadN 2), [.t 4]⟩ ::
 ⟨(some 35), none, .p (.faddr 1), [.t 6]⟩ ::
 ⟨(some 36), none, .r .load1, [.t 35]⟩ ::
 ⟨(some 37), none, .p (.faddr 0), [.t 6]⟩ ::
 ⟨(some 38), none, .r .load1, [.t 37]⟩ ::
 ⟨(some 39), none, .p (.build [(.int .i64 0), (.int .i64 0)] [(0, 1), (1, 1)]), [.t 36, .t 38]⟩ ::
 ⟨(some 40), none, .call, [.c (.func (.func 73) [] []), .t 34, .t 39]⟩ ::
 ⟨none, none, .e (.store 2), [.t 4, .t 40]⟩ ::
 [])))))
(.ops (⟨(some 41), none, .p (.bin .add), [.t 14, .c (.int .i64 1)]⟩ ::
 ⟨(some 14), none, .p .mov, [.t 41]⟩ ::
 [])))))
def C48 : AFunc := ⟨43, [.cell 2 2 true, .tmp 3],
(.seq (.ops (⟨(some 2), none, .a (.alloc [(.int .i64 0), (.int .i64 0)]), []⟩ ::
 ⟨(some 3), none, .p .mov, [.c (.bool false)]⟩ ::
 []))
(.seq (.ops (⟨(some 7), none, .p (.build [(.int .i64 0), (.int .i64 0)] [(0, 1), (1, 1)]), [.c (.int .i64 0), .c (.int .i64 1)]⟩ ::
 ⟨(some 4), none, .a (.alloc [(.int .i64 0), (.int .i64 0)]), []⟩ ::
 ⟨none, none, .e (.store 2), [.t 4, .t 7]⟩ ::
 []))
(.seq (.seq (.ops (⟨(some 8), none, .p .mov, [.t 0]⟩ ::
 ⟨(some 9), none, .p .lenS, [.t 8]⟩ ::
 ⟨(some 10), none, .p (.bin .gtr), [.t 9, .c (.int .i64 4)]⟩ ::
 []))
(.cond (.t 10)
(.seq (.ops (⟨(some 11), none, .r (.loadN 2), [.t 4]⟩ ::
 ⟨none, none, .e (.store 2), [.t 2, .t 11]⟩ ::
 ⟨(some 3), none, .p .mov, [.c (.bool false)]⟩ ::
 []))
.ret)
.skip))
(.seq (.seq (.ops (⟨(some 12), none, .p .mov, [.t 0]⟩ ::
 ⟨(some 13), none, .p .lenS, [.t 12]⟩ ::
 ⟨(some 14), none, .p .mov, [.c (.int .i64 0)]⟩ ::
 []))
(.block 0 (.loop L_share_sum_0)))
(.seq (.ops (⟨(some 42), none, .r (.loadN 2), [.t 4]⟩ ::
 ⟨none, none, .e (.store 2), [.t 2, .t 42]⟩ ::
 ⟨(some 3), none, .p .mov, [.c (.bool true)]⟩ ::
 []))
.ret)))))⟩
abbrev f_share_sum : Nat := 48
abbrev C_share_sum : AFunc := C48
def C49 : AFunc := ⟨21, [.tmp 4],
(.seq (.ops (⟨(some 2), none, .a .box, [.t 0]⟩ ::
 ⟨(some 3), none, .a .box, [.t 1]⟩ ::
 ⟨(some 4), none, .p .mov, [.c (.bool false)]⟩ ::
 []))
(.seq (.ops (⟨(some 5), none, .p (.faddr 0), [.t 3]⟩ ::
 ⟨(some 6), none, .r .load1, [.t 5]⟩ ::
 ⟨(some 7), none, .p (.bin .eql), [.t 6, .c (.int .i64 0)]⟩ ::
 ⟨(some 8), none, .p .mov, [.t 7]⟩ ::
 ⟨(some 9), (some (8, false)), .p (.faddr 1), [.t 2]⟩ ::
 ⟨(some 10), (some (8, false)), .r .load1, [.t 9]⟩ ::
 ⟨(some 11), (some (8, false)), .p (.faddr 0), [.t 3]⟩ ::
 ⟨(some 12), (some (8, false)), .r .load1, [.t 11]⟩ ::
 ⟨(some 13), (some (8, false)), .p (.bin .mul), [.t 10, .t 12]⟩ ::
 ⟨(some 14), (some (8, false)), .p (.faddr 1), [.t 3]⟩ ::
 ⟨(some 15), (some (8, false)), .r .load1, [.t 14]⟩ ::
 ⟨(some 16), (some (8, false)), .p (.faddr 0), [.t 2]⟩ ::
 ⟨(some 17), (some (8, false)), .r .load1, [.t 16]⟩ ::
 ⟨(some 18), (some (8, false)), .p (.bin .mul), [.t 15, .t 17]⟩ ::
 ⟨(some 19), (some (8, false)), .p (.bin .lss), [.t 13, .t 18]⟩ ::
 ⟨(some 20), none, .p .pick, [.t 8, .c (.bool true), .t 19]⟩ ::
 ⟨(some 4), none, .p .mov, [.t 20]⟩ ::
 []))
.ret))⟩
abbrev f_tune_part_less : Nat := 49
abbrev C_tune_part_less : AFunc := C49
def C50 : AFunc := ⟨13, [.tmp 2],
(.seq (.ops (⟨(some 1), none, .a .box, [.t 0]⟩ ::
 ⟨(some 2), none, .p .mov, [.c (.bool false)]⟩ ::
 []))
(.seq (.ops (⟨(some 3), none, .p (.faddr 0), [.t 1]⟩ ::
 ⟨(some 4), none, .r .load1, [.t 3]⟩ ::
 ⟨(some 5), none, .p (.faddr 1), [.t 1]⟩ ::
 ⟨(some 6), none, .r .load1, [.t 5]⟩ ::
 ⟨(some 7), none, .p (.bin .gtr), [.t 4, .t 6]⟩ ::
 ⟨(some 8), none, .p .mov, [.t 7]⟩ ::
 ⟨(some 9), (some (8, true)), .r (.loadN 2), [.t 1]⟩ ::
 ⟨(some 10), (some (8, true)), .p (.build [(.int .i64 0), (.int .i64 0)] [(0, 1), (1, 1)]), [.c (.int .i64 1), .c (.int .i64 1)]⟩ ::
 ⟨(some 11), (some (8, true)), .p (.neq (.cells [0, 0])), [.t 9, .t 10]⟩ ::
 ⟨(some 12), none, .p .pick, [.t 8, .t 11, .c (.bool false)]⟩ ::
 ⟨(some 2), none, .p .mov, [.t 12]⟩ ::
 []))
.ret))⟩
abbrev f_share_fraction_int_above : Nat := 50
abbrev C_share_fraction_int_above : AFunc := C50
def C51 : AFunc := ⟨9, [.tmp 4],
(.seq (.ops (⟨(some 4), none, .p .mov, [.c (.bool false)]⟩ ::
 []))
(.seq (.ops (⟨(some 5), none, .p .mov, [.t 0]⟩ ::
 ⟨(some 6), none, .p .mov, [.t 1]⟩ ::
 ⟨(some 7), none, .call, [.c (.func (.func 74) [] []), .t 5, .t 6]⟩ ::
 ⟨(some 8), none, .p (.bin .geq), [.t 7, .c (.int .i64 0)]⟩ ::
 ⟨(some 4), none, .p .mov, [.t 8]⟩ ::
 []))
.ret))⟩
abbrev f_slices_ContainsFunc_api_Part_api_Part : Nat := 51
abbrev C_slices_ContainsFunc_api_Part_api_Part : AFunc := C51
def C52 : AFunc := ⟨6, [.tmp 2],
(.seq (.ops (⟨(some 1), none, .a .box, [.t 0]⟩ ::
 ⟨(some 2), none, .p .mov, [.c (.bool false)]⟩ ::
 []))
(.seq (.ops (⟨(some 3), none, .r (.loadN 3), [.t 1]⟩ ::
 ⟨(some 4), none, .call, [.c (.func (.func 53) [] []), .t 3]⟩ ::
 ⟨(some 5), none, .p .not, [.t 4]⟩ ::
 ⟨(some 2), none, .p .mov, [.t 5]⟩ ::
 []))
.ret))⟩
abbrev f_conf_Check_1 : Nat := 52
abbrev C_conf_Check_1 : AFunc := C52
def C53 : AFunc := ⟨26, [.tmp 2],
(.seq (.ops (⟨(some 1), none, .a .box, [.t 0]⟩ ::
 ⟨(some 2), none, .p .mov, [.c (.bool false)]⟩ ::
 []))
(.seq (.seq (.ops (⟨(some 3), none, .p (.faddr 0), [.t 1]⟩ ::
 ⟨(some 4), none, .r .load1, [.t 3]⟩ ::
 ⟨(some 5), none, .call, [.c (.func (.func 57) [] []), .t 4, .c (.int .i64 1), .c (.int .i64 64)]⟩ ::
 ⟨(some 6), none, .p .not, [.t 5]⟩ ::
 ⟨(some 7), none, .p .mov, [.t 6]⟩ ::
 ⟨(some 8), (some (7, false)), .p (.faddr 1), [.t 1]⟩ ::
 ⟨(some 9), (some (7, false)), .r .load1, [.t 8]⟩ ::
 ⟨(some 10), (some (7, false)), .p (.faddr 0), [.t 1]⟩ ::
 ⟨(some 11), (some (7, false)), .r .load1, [.t 10]⟩ ::
 ⟨(some 12), (some (7, false)), .call, [.c (.func (.func 57) [] []), .t 9, .c (.int .i64 1), .t 11]⟩ ::
 ⟨(some 13), (some (7, false)), .p .not, [.t 12]⟩ ::
 ⟨(some 14), none, .p .pick, [.t 7, .c (.bool true), .t 13]⟩ ::
 ⟨(some 15), none, .p .mov, [.t 14]⟩ ::
 ⟨(some 16), (some (15, false)), .p (.faddr 2), [.t 1]⟩ ::
 ⟨(some 17), (some (15, false)), .r .load1, [.t 16]⟩ ::
 ⟨(some 18), (some (15, false)), .p .lenS, [.t 17]⟩ ::
 ⟨(some 19), (some (15, false)), .p (.bin .gtr), [.t 18, .c (.int .i64 4)]⟩ ::
 ⟨(some 20), none, .p .pick, [.t 15, .c (.bool true), .t 19]⟩ ::
 []))
(.cond (.t 20)
(.seq (.ops (⟨(some 2), none, .p .mov, [.c (.bool false)]⟩ ::
 []))
.ret)
.skip))
(.seq (.ops (⟨(some 21), none, .p (.faddr 2), [.t 1]⟩ ::
 ⟨(some 22), none, .r .load1, [.t 21]⟩ ::
 ⟨(some 23), none, .p (.mkfunc (.func 75) 0), [.t 1]⟩ ::
 ⟨(some 24), none, .call, [.c (.func (.func 63) [] []), .t 22, .t 23]⟩ ::
 ⟨(some 25), none, .p .not, [.t 24]⟩ ::
 ⟨(some 2), none, .p .mov, [.t 25]⟩ ::
 []))
.ret)))⟩
abbrev f_conf_partMay : Nat := 53
abbrev C_conf_partMay : AFunc := C53
def C54 : AFunc := ⟨9, [.tmp 4],
(.seq (.ops (⟨(some 4), none, .p .mov, [.c (.bool false)]⟩ ::
 []))
(.seq (.ops (⟨(some 5), none, .p .mov, [.t 0]⟩ ::
 ⟨(some 6), none, .p .mov, [.t 1]⟩ ::
 ⟨(some 7), none, .call, [.c (.func (.func 77) [] []), .t 5, .t 6]⟩ ::
 ⟨(some 8), none, .p (.bin .geq), [.t 7, .c (.int .i64 0)]⟩ ::
 ⟨(some 4), none, .p .mov, [.t 8]⟩ ::
 []))
.ret))⟩
abbrev f_slices_ContainsFunc_api_Port_api_Port : Nat := 54
abbrev C_slices_ContainsFunc_api_Port_api_Port : AFunc := C54
def C55 : AFunc := ⟨10, [.tmp 3],
(.seq (.ops (⟨(some 2), none, .a .box, [.t 0]⟩ ::
 ⟨(some 3), none, .p .mov, [.c (.bool false)]⟩ ::
 []))
(.seq (.ops (⟨(some 4), none, .r (.loadN 6), [.t 2]⟩ ::
 ⟨(some 5), none, .p (.faddr 0), [.t 1]⟩ ::
 ⟨(some 6), none, .r .load1, [.t 5]⟩ ::
 ⟨(some 7), none, .p .lenS, [.t 6]⟩ ::
 ⟨(some 8), none, .call, [.c (.func (.func 56) [] []), .t 4, .t 7]⟩ ::
 ⟨(some 9), none, .p .not, [.t 8]⟩ ::
 ⟨(some 3), none, .p .mov, [.t 9]⟩ ::
 []))
.ret))⟩
abbrev f_conf_Check_2 : Nat := 55
abbrev C_conf_Check_2 : AFunc := C55
def C56 : AFunc := ⟨55, [.tmp 4],
(.seq (.ops (⟨(some 2), none, .a .box, [.t 0]⟩ ::
 ⟨(some 4), none, .p .mov, [.c (.bool false)]⟩ ::
 []))
(.seq (.ops (⟨(some 5), none, .p .mov, [.c (.bool false)]⟩ ::
 []))
(.seq (.seq (.ops (⟨(some 6), none, .p (.faddr 0), [.t 2]⟩ ::
 ⟨(some 7), none, .r .load1, [.t 6]⟩ ::
 []))
(.block 0 (.seq (.ops (⟨(some 9), none, .p (.bin .eql), [.t 7, .c (.int .i64 1)]⟩ ::
 ⟨(some 8), none, .p .mov, [.t 9]⟩ ::
 []))
(.cond (.t 8)
(.ops (⟨(some 10), none, .p (.faddr 4), [.t 2]⟩ ::
 ⟨(some 11), none, .r .load1, [.t 10]⟩ ::
 ⟨(some 12), none, .p (.bin .eql), [.t 11, .c (.int .i64 0)]⟩ ::
 ⟨(some 13), none, .p .mov, [.t 12]⟩ ::
 ⟨(some 14), (some (13, true)), .p (.faddr 5), [.t 2]⟩ ::
 ⟨(some 15), (some (13, true)), .r .load1, [.t 14]⟩ ::
 ⟨(some 16), (some (13, true)), .call, [.c (.func (.func 57) [] []), .t 15, .c (.int .i64 1), .c (.int .i64 64)]⟩ ::
 ⟨(some 17), none, .p .pick, [.t 13, .t 16, .c (.bool false)]⟩ ::
 ⟨(some 5), none, .p .mov, [.t 17]⟩ ::
 []))
(.seq (.ops (⟨(some 19), none, .p (.bin .eql), [.t 7, .c (.int .i64 2)]⟩ ::
 ⟨(some 18), none, .p .mov, [.t 19]⟩ ::
 []))
(.cond (.t 18)
(.ops (⟨(some 20), none, .p (.faddr 5), [.t 2]⟩ ::
 ⟨(some 21), none, .r .load1, [.t 20]⟩ ::
 ⟨(some 22), none, .p (.bin .eql), [.t 21, .c (.int .i64 0)]⟩ ::
 ⟨(some 23), none, .p .mov, [.t 22]⟩ ::
 ⟨(some 24), (some (23, true)), .p (.faddr 4), [.t 2]⟩ ::
 ⟨(some 25), (some (23, true)), .r .load1, [.t 24]⟩ ::
 ⟨(some 26), (some (23, true)), .call, [.c (.func (.func 57) [] []), .t 25, .c (.int .i64 1), .c (.int .i64 4)]⟩ ::
 ⟨(some 27), none, .p .pick, [.t 23, .t 26, .c (.bool false)]⟩ ::
 ⟨(some 5), none, .p .mov, [.t 27]⟩ ::
 []))
.skip))))))
(.seq (.ops (⟨(some 28), none, .p .mov, [.t 5]⟩ ::
 ⟨(some 29), none, .p .mov, [.t 28]⟩ ::
 ⟨(some 30), (some (29, true)), .p (.faddr 1), [.t 2]⟩ ::
 ⟨(some 31), (some (29, true)), .r .load1, [.t 30]⟩ ::
 ⟨(some 32), (some (29, true)), .p .mov, [.t 1]⟩ ::
 ⟨(some 33), (some (29, true)), .p (.bin .sub), [.t 32, .c (.int .i64 1)]⟩ ::
 ⟨(some 34), (some (29, true)), .call, [.c (.func (.func 57) [] []), .t 31, .c (.int .i64 0), .t 33]⟩ ::
 ⟨(some 35), none, .p .pick, [.t 29, .t 34, .c (.bool false)]⟩ ::
 ⟨(some 36), none, .p .mov, [.t 35]⟩ ::
 ⟨(some 37), (some (36, true)), .p (.faddr 2), [.t 2]⟩ ::
 ⟨(some 38), (some (36, true)), .r .load1, [.t 37]⟩ ::
 ⟨(some 39), (some (36, true)), .p .mov, [.t 1]⟩ ::
 ⟨(some 40), (some (36, true)), .p (.bin .sub), [.t 39, .c (.int .i64 1)]⟩ ::
 ⟨(some 41), (some (36, true)), .call, [.c (.func (.func 57) [] []), .t 38, .c (.int .i64 0), .t 40]⟩ ::
 ⟨(some 42), none, .p .pick, [.t 36, .t 41, .c (.bool false)]⟩ ::
 ⟨(some 43), none, .p .mov, [.t 42]⟩ ::
 ⟨(some 44), (some (43, true)), .p (.faddr 1), [.t 2]⟩ ::
 ⟨(some 45), (some (43, true)), .r .load1, [.t 44]⟩ ::
 ⟨(some 46), (some (43, true)), .p (.faddr 2), [.t 2]⟩ ::
 ⟨(some 47), (some (43, true)), .r .load1, [.t 46]⟩ ::
 ⟨(some 48), (some (43, true)), .p (.bin .neq), [.t 45, .t 47]⟩ ::
 ⟨(some 49), none, .p .pick, [.t 43, .t 48, .c (.bool false)]⟩ ::
 ⟨(some 50), none, .p .mov, [.t 49]⟩ ::
 ⟨(some 51), (some (50, true)), .p (.faddr 3), [.t 2]⟩ ::
 ⟨(some 52), (some (50, true)), .r .load1, [.t 51]⟩ ::
 ⟨(some 53), (some (50, true)), .call, [.c (.func (.func 57) [] []), .t 52, .c (.int .i64 1), .c (.int .i64 16)]⟩ ::
 ⟨(some 54), none, .p .pick, [.t 50, .t 53, .c (.bool false)]⟩ ::
 ⟨(some 4), none, .p .mov, [.t 54]⟩ ::
 []))
.ret))))⟩
abbrev f_conf_portMay : Nat := 56
abbrev C_conf_portMay : AFunc := C56
def C57 : AFunc := ⟨15, [.tmp 6],
(.seq (.ops (⟨(some 6), none, .p .mov, [.c (.bool false)]⟩ ::
 []))
(.seq (.ops (⟨(some 7), none, .p .mov, [.t 1]⟩ ::
 ⟨(some 8), none, .p .mov, [.t 0]⟩ ::
 ⟨(some 9), none, .p (.bin .leq), [.t 7, .t 8]⟩ ::
 ⟨(some 10), none, .p .mov, [.t 9]⟩ ::
 ⟨(some 11), (some (10, true)), .p .mov, [.t 0]⟩ ::
 ⟨(some 12), (some (10, true)), .p .mov, [.t 2]⟩ ::
 ⟨(some 13), (some (10, true)), .p (.bin .leq), [.t 11, .t 12]⟩ ::
 ⟨(some 14), none, .p .pick, [.t 10, .t 13, .c (.bool false)]⟩ ::
 ⟨(some 6), none, .p .mov, [.t 14]⟩ ::
 []))
.ret))⟩
abbrev f_conf_within : Nat := 57
abbrev C_conf_within : AFunc := C57
def C58 : AFunc := ⟨17, [.tmp 4],
(.seq (.ops (⟨(some 2), none, .a .box, [.t 0]⟩ ::
 ⟨(some 4), none, .p .mov, [.c (.int .i64 0)]⟩ ::
 []))
(.seq (.seq (.ops (⟨(some 6), none, .r (.loadN 2), [.t 2]⟩ ::
 ⟨(some 7), none, .call, [.c (.func (.func 34) [] []), .t 6]⟩ ::
 ⟨(some 5), none, .p .mov, [.t 7]⟩ ::
 []))
(.seq (.ops (⟨(some 8), none, .p .mov, [.t 5]⟩ ::
 ⟨(some 9), none, .p (.bin .neq), [.t 8, .c (.int .i64 0)]⟩ ::
 []))
(.cond (.t 9)
(.seq (.ops (⟨(some 10), none, .p .mov, [.t 5]⟩ ::
 ⟨(some 4), none, .p .mov, [.t 10]⟩ ::
 []))
.ret)
.skip)))
(.seq (.seq (.ops (⟨(some 11), none, .p .mov, [.t 1]⟩ ::
 ⟨(some 12), none, .p .lenS, [.t 11]⟩ ::
 ⟨(some 13), none, .p (.faddr 0), [.t 2]⟩ ::
 ⟨(some 14), none, .r .load1, [.t 13]⟩ ::
 ⟨(some 15), none, .p .lenS, [.t 14]⟩ ::
 ⟨(some 16), none, .p (.bin .neq), [.t 12, .t 15]⟩ ::
 []))
(.cond (.t 16)
(.seq (.ops (⟨(some 4), none, .p .mov, [.c (.int .i64 2)]⟩ ::
 []))
.ret)
.skip))
(.seq (.ops (⟨(some 4), none, .p .mov, [.c (.int .i64 0)]⟩ ::
 []))
.ret))))⟩
abbrev f_gate_asked : Nat := 58
abbrev C_gate_asked : AFunc := C58
def L_delay_More_0 : AC := (.seq (.ops (⟨(some 30), none, .p (.bin .lss), [.t 29, .t 28]⟩ ::
 []))
(.seq (.cond (.t 30)
.skip
(.exit 0))
(.seq (.block 1 (.seq (.ops (⟨(some 31), none, .p .mov, [.t 29]⟩ ::
 ⟨(some 32), none, .p (.iaddrS 8), [.t 27, .t 29]⟩ ::
 ⟨(some 33), none, .r (.loadN 8), [.t 32]⟩ ::
 ⟨(some 10), none, .a (.alloc [(.int .i64 0), (.int .i64 0), (.int .i64 0), (.int .i64 0), (.int .i64 0), (.int .i64 0), (.int .i64 0), (.int .i64 0)]), []⟩ ::
 ⟨(some 9), none, .p .mov, [.t 31]⟩ ::
 ⟨none, none, .e (.store 8), [.t 10, .t 33]⟩ ::
 []))
(.dops (⟨(some 34), none, .p .mov, [.t 8]⟩ ::
 ⟨(some 35), none, .p .mov, [.t 9]⟩ ::
 ⟨(some 36), none, .p (.faddr 7), [.t 10]⟩ ::
 ⟨(some 37), none, .r .load1, [.t 36]⟩ ::
 ⟨(some 38), none, .r (.loadN 5), [.t 6]⟩ ::
 ⟨(some 39), none, .r (.loadN 8), [.t 10]⟩ ::
 ⟨(some 40), none, .call, [.c (.func (.func 79) [] []), .t 38, .t 39]⟩ ::
 ⟨(some 41), none, .p (.faddr 6), [.t 10]⟩ ::
 ⟨(some 42), none, .r .load1, [.t 41]⟩ ::
 ⟨(some 43), none, .p (.bin .add), [.t 40, .t 42]⟩ ::
 ⟨(some 44), none, .p (.bin .sub), [.t 43, .c (.int .i64 1)]⟩ ::
 ⟨(some 45), none, .p (.bin .mul), [.t 37, .t 44]⟩ ::
 ⟨(some 46), none, .p (.iaddrS 1), [.t 34, .t 35]⟩ ::
 ⟨none, none, .e (.store 1), [.t 46, .t 45]⟩ ::
 []) ([] :: [] :: [] :: [0, 7] :: [] :: [] :: [] :: [] :: [0, 7] :: [] :: [] :: [] :: [] :: [] :: []))))
(.ops (⟨(some 47), none, .p (.bin .add), [.t 29, .c (.int .i64 1)]⟩ ::
 ⟨(some 29), none, .p .mov, [.t 47]⟩ ::
 [])))))
def C59 : AFunc := ⟨49, [.tmp 4, .tmp 5],
(.seq (.ops (⟨(some 4), none, .p .mov, [.c .nils]⟩ ::
 ⟨(some 5), none, .p .mov, [.c (.int .i64 0)]⟩ ::
 []))
(.seq (.ops (⟨(some 12), none, .p .mov, [.t 0]⟩ ::
 ⟨(some 13), none, .p .mov, [.t 1]⟩ ::
 ⟨(some 14), none, .call, [.c (.func (.func 78) [] []), .t 12, .t 13]⟩ ::
 ⟨(some 11), none, .p .mov, [.t 14]⟩ ::
 ⟨(some 15), none, .p (.ext 0), [.t 11]⟩ ::
 ⟨(some 16), none, .p (.ext 1), [.t 11]⟩ ::
 ⟨(some 6), none, .a (.alloc [(.int .i64 0), (.int .i64 0), .nils, .nils, (.int .i64 0)]), []⟩ ::
 ⟨none, none, .e (.store 5), [.t 6, .t 15]⟩ ::
 ⟨(some 7), none, .p .mov, [.t 16]⟩ ::
 []))
(.seq (.seq (.ops (⟨(some 17), none, .p .mov, [.t 7]⟩ ::
 ⟨(some 18), none, .p (.bin .neq), [.t 17, .c (.int .i64 0)]⟩ ::
 []))
(.cond (.t 18)
(.seq (.ops (⟨(some 19), none, .p .mov, [.t 7]⟩ ::
 ⟨(some 4), none, .p .mov, [.c .nils]⟩ ::
 ⟨(some 5), none, .p .mov, [.t 19]⟩ ::
 []))
.ret)
.skip))
(.seq (.ops (⟨(some 20), none, .p (.faddr 0), [.t 6]⟩ ::
 ⟨(some 21), none, .p (.faddr 2), [.t 20]⟩ ::
 ⟨(some 22), none, .r .load1, [.t 21]⟩ ::
 ⟨(some 23), none, .p .lenS, [.t 22]⟩ ::
 ⟨(some 24), none, .a (.mkslice [(.int .i64 0)] 1 8), [.t 23, .t 23]⟩ ::
 ⟨(some 8), none, .p .mov, [.t 24]⟩ ::
 []))
(.seq (.seq (.ops (⟨(some 25), none, .p (.faddr 0), [.t 6]⟩ ::
 ⟨(some 26), none, .p (.faddr 2), [.t 25]⟩ ::
 ⟨(some 27), none, .r .load1, [.t 26]⟩ ::
 ⟨(some 28), none, .p .lenS, [.t 27]⟩ ::
 ⟨(some 29), none, .p .mov, [.c (.int .i64 0)]⟩ ::
 []))
(.block 0 (.loop L_delay_More_0)))
(.seq (.ops (⟨(some 48), none, .p .mov, [.t 8]⟩ ::
 ⟨(some 4), none, .p .mov, [.t 48]⟩ ::
 ⟨(some 5), none, .p .mov, [.c (.int .i64 0)]⟩ ::
 []))
.ret))))))⟩
abbrev f_delay_More : Nat := 59
abbrev C_delay_More : AFunc := C59
def C60 : AFunc := ⟨11, [.tmp 2],
(.seq (.ops (⟨(some 2), none, .p .mov, [.c (.bool false)]⟩ ::
 []))
(.seq (.ops (⟨(some 3), none, .p .mov, [.t 0]⟩ ::
 ⟨(some 4), none, .p .lenS, [.t 3]⟩ ::
 ⟨(some 5), none, .p (.bin .leq), [.t 4, .c (.int .i64 4)]⟩ ::
 ⟨(some 6), none, .p .mov, [.t 5]⟩ ::
 ⟨(some 7), (some (6, true)), .p .mov, [.t 0]⟩ ::
 ⟨(some 8), (some (6, true)), .call, [.c (.func (.func 63) [] []), .t 7, .c (.func (.func 80) [] [])]⟩ ::
 ⟨(some 9), (some (6, true)), .p .not, [.t 8]⟩ ::
 ⟨(some 10), none, .p .pick, [.t 6, .t 9, .c (.bool false)]⟩ ::
 ⟨(some 2), none, .p .mov, [.t 10]⟩ ::
 []))
.ret))⟩
abbrev f_demand_all : Nat := 60
abbrev C_demand_all : AFunc := C60
def C61 : AFunc := ⟨53, [.tmp 4, .tmp 5],
(.seq (.ops (⟨(some 4), none, .p .mov, [.c (.int .i64 0)]⟩ ::
 ⟨(some 5), none, .p .mov, [.c (.int .i64 0)]⟩ ::
 []))
(.seq (.seq (.ops (⟨(some 7), none, .p .mov, [.t 0]⟩ ::
 ⟨(some 8), none, .a (.bslice [(.int .i64 0)] 1 1 [0]), [.t 7]⟩ ::
 ⟨(some 9), none, .call, [.c (.func (.func 82) [] []), .t 8]⟩ ::
 ⟨(some 10), none, .p .not, [.t 9]⟩ ::
 ⟨(some 11), none, .p .mov, [.t 10]⟩ ::
 ⟨(some 12), (some (11, false)), .p .mov, [.t 1]⟩ ::
 ⟨(some 13), (some (11, false)), .call, [.c (.func (.func 82) [] []), .t 12]⟩ ::
 ⟨(some 14), (some (11, false)), .p .not, [.t 13]⟩ ::
 ⟨(some 15), none, .p .pick, [.t 11, .c (.bool true), .t 14]⟩ ::
 ⟨(some 16), none, .p .mov, [.t 15]⟩ ::
 ⟨(some 17), (some (16, false)), .p .mov, [.t 1]⟩ ::
 ⟨(some 18), (some (16, false)), .call, [.c (.func (.func 83) [] []), .t 17, .c (.int .i64 0)]⟩ ::
 ⟨(some 19), none, .p .pick, [.t 16, .c (.bool true), .t 18]⟩ ::
 []))
(.cond (.t 19)
(.seq (.ops (⟨(some 4), none, .p .mov, [.c (.int .i64 0)]⟩ ::
 ⟨(some 5), none, .p .mov, [.c (.int .i64 2)]⟩ ::
 []))
.ret)
.skip))
(.seq (.ops (⟨(some 20), none, .p (.build [(.int .i64 0), (.int .i64 0)] [(0, 1)]), [.c (.int .i64 1)]⟩ ::
 ⟨(some 21), none, .a .box, [.t 20]⟩ ::
 ⟨(some 6), none, .p .mov, [.t 21]⟩ ::
 []))
(.seq (.ops (⟨(some 22), none, .p .mov, [.t 6]⟩ ::
 ⟨(some 23), none, .p (.mkfunc (.func 85) 1), [.t 22]⟩ ::
 ⟨(some 24), none, .p .mov, [.t 1]⟩ ::
 ⟨(some 25), none, .call, [.c (.func (.func 84) [] []), .t 23, .t 24]⟩ ::
 []))
(.seq (.seq (.ops (⟨(some 26), none, .p .mov, [.t 6]⟩ ::
 ⟨(some 27), none, .p .nilchk, [.t 26]⟩ ::
 ⟨(some 28), none, .p (.faddr 1), [.t 27]⟩ ::
 ⟨(some 29), none, .r .load1, [.t 28]⟩ ::
 ⟨(some 30), none, .p (.bin .eql), [.t 29, .c (.int .i64 0)]⟩ ::
 ⟨(some 31), none, .p .mov, [.t 30]⟩ ::
 ⟨(some 32), (some (31, true)), .p .mov, [.t 6]⟩ ::
 ⟨(some 33), (some (31, true)), .p .nilchk, [.t 32]⟩ ::
 ⟨(some 34), (some (31, true)), .p (.faddr 0), [.t 33]⟩ ::
 ⟨(some 35), (some (31, true)), .r .load1, [.t 34]⟩ ::
 ⟨(some 36), (some (31, true)), .p .mov, [.t 0]⟩ ::
 ⟨(some 37), (some (31, true)), .p (.bin .gtr), [.t 35, .t 36]⟩ ::
 ⟨(some 38), none, .p .pick, [.t 31, .t 37, .c (.bool false)]⟩ ::
 []))
(.cond (.t 38)
(.ops (⟨(some 39), none, .p .mov, [.t 6]⟩ ::
 ⟨(some 40), none, .p .nilchk, [.t 39]⟩ ::
 ⟨(some 41), none, .p (.faddr 1), [.t 40]⟩ ::
 ⟨none, none, .e (.store 1), [.t 41, .c (.int .i64 10)]⟩ ::
 []))
.skip))
(.seq (.dops (⟨(some 42), none, .p .mov, [.t 6]⟩ ::
 ⟨(some 43), none, .p .nilchk, [.t 42]⟩ ::
 ⟨(some 44), none, .p (.faddr 0), [.t 43]⟩ ::
 ⟨(some 45), none, .r .load1, [.t 44]⟩ ::
 ⟨(some 46), none, .p .mov, [.t 6]⟩ ::
 ⟨(some 47), none, .p .nilchk, [.t 46]⟩ ::
 ⟨(some 48), none, .p (.faddr 1), [.t 47]⟩ ::
 ⟨(some 49), none, .r .load1, [.t 48]⟩ ::
 ⟨(some 50), none, .call, [.c (.func (.func 86) [] []), .t 45, .t 49]⟩ ::
 ⟨(some 51), none, .p (.ext 0), [.t 50]⟩ ::
 ⟨(some 52), none, .p (.ext 1), [.t 50]⟩ ::
 ⟨(some 4), none, .p .mov, [.t 51]⟩ ::
 ⟨(some 5), none, .p .mov, [.t 52]⟩ ::
 []) ([] :: [] :: [] :: [] :: [] :: [] :: [] :: [] :: [] :: [] :: [] :: [] :: [] :: []))
.ret))))))⟩
abbrev f_ticks_Lcm : Nat := 61
abbrev C_ticks_Lcm : AFunc := C61
def C62 : AFunc := ⟨21, [.tmp 4],
(.seq (.ops (⟨(some 4), none, .p .mov, [.c (.int .i64 0)]⟩ ::
 []))
(.seq (.ops (⟨(some 6), none, .p .mov, [.t 1]⟩ ::
 ⟨(some 7), none, .call, [.c (.func (.func 87) [] []), .t 6, .c (.func (.func 88) [] [])]⟩ ::
 ⟨(some 5), none, .p .mov, [.t 7]⟩ ::
 []))
(.seq (.seq (.ops (⟨(some 8), none, .p .mov, [.t 5]⟩ ::
 ⟨(some 9), none, .p .mov, [.t 8]⟩ ::
 ⟨(some 10), (some (9, false)), .p .mov, [.t 0]⟩ ::
 ⟨(some 11), (some (9, false)), .call, [.c (.func (.func 60) [] []), .t 10]⟩ ::
 ⟨(some 12), (some (9, false)), .p .not, [.t 11]⟩ ::
 ⟨(some 13), none, .p .pick, [.t 9, .c (.bool true), .t 12]⟩ ::
 ⟨(some 14), none, .p .mov, [.t 13]⟩ ::
 ⟨(some 15), (some (14, false)), .p .mov, [.t 1]⟩ ::
 ⟨(some 16), (some (14, false)), .p .lenS, [.t 15]⟩ ::
 ⟨(some 17), (some (14, false)), .p .mov, [.t 0]⟩ ::
 ⟨(some 18), (some (14, false)), .p .lenS, [.t 17]⟩ ::
 ⟨(some 19), (some (14, false)), .p (.bin .neq), [.t 16, .t 18]⟩ ::
 ⟨(some 20), none, .p .pick, [.t 14, .c (.bool true), .t 19]⟩ ::
 []))
(.cond (.t 20)
(.seq (.ops (⟨(some 4), none, .p .mov, [.c (.int .i64 2)]⟩ ::
 []))
.ret)
.skip))
(.seq (.ops (⟨(some 4), none, .p .mov, [.c (.int .i64 0)]⟩ ::
 []))
.ret))))⟩
abbrev f_demand_Check : Nat := 62
abbrev C_demand_Check : AFunc := C62
def C63 : AFunc := ⟨9, [.tmp 4],
(.seq (.ops (⟨(some 4), none, .p .mov, [.c (.bool false)]⟩ ::
 []))
(.seq (.ops (⟨(some 5), none, .p .mov, [.t 0]⟩ ::
 ⟨(some 6), none, .p .mov, [.t 1]⟩ ::
 ⟨(some 7), none, .call, [.c (.func (.func 89) [] []), .t 5, .t 6]⟩ ::
 ⟨(some 8), none, .p (.bin .geq), [.t 7, .c (.int .i64 0)]⟩ ::
 ⟨(some 4), none, .p .mov, [.t 8]⟩ ::
 []))
.ret))⟩
abbrev f_slices_ContainsFunc_api_Task_api_Task : Nat := 63
abbrev C_slices_ContainsFunc_api_Task_api_Task : AFunc := C63
def C64 : AFunc := ⟨9, [.tmp 3],
(.seq (.ops (⟨(some 2), none, .a .box, [.t 0]⟩ ::
 ⟨(some 3), none, .p .mov, [.c (.bool false)]⟩ ::
 []))
(.seq (.ops (⟨(some 4), none, .r .load1, [.t 1]⟩ ::
 ⟨(some 5), none, .p (.faddr 0), [.t 2]⟩ ::
 ⟨(some 6), none, .r .load1, [.t 5]⟩ ::
 ⟨(some 7), none, .p (.bin .rem), [.t 4, .t 6]⟩ ::
 ⟨(some 8), none, .p (.bin .neq), [.t 7, .c (.int .i64 0)]⟩ ::
 ⟨(some 3), none, .p .mov, [.t 8]⟩ ::
 []))
.ret))⟩
abbrev f_demand_Use_1 : Nat := 64
abbrev C_demand_Use_1 : AFunc := C64
def L_demand_sum_0 : AC := (.seq (.ops (⟨(some 8), none, .p (.bin .lss), [.t 7, .t 6]⟩ ::
 []))
(.seq (.cond (.t 8)
.skip
(.exit 0))
(.seq (.block 1 (.seq (.ops (⟨(some 9), none, .p (.iaddrS 1), [.t 5, .t 7]⟩ ::
 ⟨(some 10), none, .r .load1, [.t 9]⟩ ::
 ⟨(some 4), none, .p .mov, [.t 10]⟩ ::
 []))
(.ops (⟨(some 11), none, .p .mov, [.t 2]⟩ ::
 ⟨(some 12), none, .p .mov, [.t 4]⟩ ::
 ⟨(some 13), none, .p (.bin .add), [.t 11, .t 12]⟩ ::
 ⟨(some 2), none, .p .mov, [.t 13]⟩ ::
 []))))
(.ops (⟨(some 14), none, .p (.bin .add), [.t 7, .c (.int .i64 1)]⟩ ::
 ⟨(some 7), none, .p .mov, [.t 14]⟩ ::
 [])))))
def C65 : AFunc := ⟨16, [.tmp 2],
(.seq (.ops (⟨(some 2), none, .p .mov, [.c (.int .i64 0)]⟩ ::
 []))
(.seq (.seq (.ops (⟨(some 5), none, .p .mov, [.t 0]⟩ ::
 ⟨(some 6), none, .p .lenS, [.t 5]⟩ ::
 ⟨(some 7), none, .p .mov, [.c (.int .i64 0)]⟩ ::
 []))
(.block 0 (.loop L_demand_sum_0)))
(.seq (.ops (⟨(some 15), none, .p .mov, [.t 2]⟩ ::
 ⟨(some 2), none, .p .mov, [.t 15]⟩ ::
 []))
.ret)))⟩
abbrev f_demand_sum : Nat := 65
abbrev C_demand_sum : AFunc := C65
def L_demand_each_0 : AC := (.seq (.ops (⟨(some 16), none, .p (.bin .lss), [.t 15, .t 14]⟩ ::
 []))
(.seq (.cond (.t 16)
.skip
(.exit 0))
(.seq (.block 1 (.seq (.ops (⟨(some 17), none, .p .mov, [.t 15]⟩ ::
 ⟨(some 18), none, .p (.iaddrS 8), [.t 13, .t 15]⟩ ::
 ⟨(some 19), none, .r (.loadN 8), [.t 18]⟩ ::
 ⟨(some 9), none, .a (.alloc [(.int .i64 0), (.int .i64 0), (.int .i64 0), (.int .i64 0), (.int .i64 0), (.int .i64 0), (.int .i64 0), (.int .i64 0)]), []⟩ ::
 ⟨(some 8), none, .p .mov, [.t 17]⟩ ::
 ⟨none, none, .e (.store 8), [.t 9, .t 19]⟩ ::
 []))
(.dops (⟨(some 20), none, .p .mov, [.t 7]⟩ ::
 ⟨(some 21), none, .p .mov, [.t 8]⟩ ::
 ⟨(some 22), none, .p .mov, [.t 2]⟩ ::
 ⟨(some 23), none, .r (.loadN 8), [.t 9]⟩ ::
 ⟨(some 24), none, .call, [.t 22, .t 23]⟩ ::
 ⟨(some 25), none, .p (.faddr 2), [.t 9]⟩ ::
 ⟨(some 26), none, .r .load1, [.t 25]⟩ ::
 ⟨(some 27), none, .p .mov, [.t 1]⟩ ::
 ⟨(some 28), none, .p .mov, [.t 8]⟩ ::
 ⟨(some 29), none, .p (.iaddrS 1), [.t 27, .t 28]⟩ ::
 ⟨(some 30), none, .r .load1, [.t 29]⟩ ::
 ⟨(some 31), none, .p (.bin .add), [.t 26, .t 30]⟩ ::
 ⟨(some 32), none, .p (.bin .mul), [.t 24, .t 31]⟩ ::
 ⟨(some 33), none, .p (.iaddrS 1), [.t 20, .t 21]⟩ ::
 ⟨none, none, .e (.store 1), [.t 33, .t 32]⟩ ::
 []) ([] :: [] :: [] :: [] :: [] :: [] :: [0, 5] :: [] :: [] :: [] :: [0, 5] :: [] :: [] :: [] :: [] :: []))))
(.ops (⟨(some 34), none, .p (.bin .add), [.t 15, .c (.int .i64 1)]⟩ ::
 ⟨(some 15), none, .p .mov, [.t 34]⟩ ::
 [])))))
def C66 : AFunc := ⟨36, [.tmp 6],
(.seq (.ops (⟨(some 6), none, .p .mov, [.c .nils]⟩ ::
 []))
(.seq (.ops (⟨(some 10), none, .p .mov, [.t 0]⟩ ::
 ⟨(some 11), none, .p .lenS, [.t 10]⟩ ::
 ⟨(some 12), none, .a (.mkslice [(.int .i64 0)] 1 8), [.t 11, .t 11]⟩ ::
 ⟨(some 7), none, .p .mov, [.t 12]⟩ ::
 []))
(.seq (.seq (.ops (⟨(some 13), none, .p .mov, [.t 0]⟩ ::
 ⟨(some 14), none, .p .lenS, [.t 13]⟩ ::
 ⟨(some 15), none, .p .mov, [.c (.int .i64 0)]⟩ ::
 []))
(.block 0 (.loop L_demand_each_0)))
(.seq (.ops (⟨(some 35), none, .p .mov, [.t 7]⟩ ::
 ⟨(some 6), none, .p .mov, [.t 35]⟩ ::
 []))
.ret))))⟩
abbrev f_demand_each : Nat := 66
abbrev C_demand_each : AFunc := C66
def C67 : AFunc := ⟨8, [.tmp 3],
(.seq (.ops (⟨(some 2), none, .a .box, [.t 0]⟩ ::
 ⟨(some 3), none, .p .mov, [.c (.int .i64 0)]⟩ ::
 []))
(.seq (.ops (⟨(some 4), none, .r .load1, [.t 1]⟩ ::
 ⟨(some 5), none, .p (.faddr 0), [.t 2]⟩ ::
 ⟨(some 6), none, .r .load1, [.t 5]⟩ ::
 ⟨(some 7), none, .p (.bin .quo), [.t 4, .t 6]⟩ ::
 ⟨(some 3), none, .p .mov, [.t 7]⟩ ::
 []))
.ret))⟩
abbrev f_demand_Use_2 : Nat := 67
abbrev C_demand_Use_2 : AFunc := C67
def L_local_look_slacks_1_0 : AC := (.seq (.seq (.ops (⟨(some 5), none, .p .mov, [.t 4]⟩ ::
 ⟨(some 6), none, .r .load1, [.t 1]⟩ ::
 ⟨(some 7), none, .p (.bin .leq), [.t 5, .t 6]⟩ ::
 []))
(.cond (.t 7)
.skip
(.exit 0)))
(.seq (.block 1 (.seq (.ops (⟨(some 10), none, .r (.loadN 6), [.t 2]⟩ ::
 ⟨(some 11), none, .p .mov, [.t 4]⟩ ::
 ⟨(some 12), none, .call, [.c (.func (.func 69) [] []), .t 10, .t 11]⟩ ::
 ⟨(some 13), none, .p (.bin .gtr), [.t 12, .c (.int .i64 0)]⟩ ::
 ⟨(some 14), none, .p .mov, [.t 13]⟩ ::
 ⟨(some 15), (some (14, true)), .p .mov, [.t 0]⟩ ::
 ⟨(some 16), (some (14, true)), .p .mov, [.t 4]⟩ ::
 ⟨(some 17), (some (14, true)), .r (.loadN 6), [.t 2]⟩ ::
 ⟨(some 18), (some (14, true)), .p .mov, [.t 4]⟩ ::
 ⟨(some 19), (some (14, true)), .call, [.c (.func (.func 42) [] []), .t 17, .t 18]⟩ ::
 ⟨(some 20), (some (14, true)), .call, [.t 15, .t 16, .t 19]⟩ ::
 ⟨(some 21), (some (14, true)), .p .not, [.t 20]⟩ ::
 ⟨(some 22), none, .p .pick, [.t 14, .t 21, .c (.bool false)]⟩ ::
 []))
(.cond (.t 22)
.ret
.skip)))
(.ops (⟨(some 8), none, .p .mov, [.t 4]⟩ ::
 ⟨(some 9), none, .p (.bin .add), [.t 8, .c (.int .i64 1)]⟩ ::
 ⟨(some 4), none, .p .mov, [.t 9]⟩ ::
 []))))
def C68 : AFunc := ⟨23, [],
(.seq (.ops (⟨(some 4), none, .p .mov, [.c (.int .i64 1)]⟩ ::
 []))
(.block 0 (.loop L_local_look_slacks_1_0)))⟩
abbrev f_local_look_slacks_1 : Nat := 68
abbrev C_local_look_slacks_1 : AFunc := C68
def C69 : AFunc := ⟨18, [.tmp 4],
(.seq (.ops (⟨(some 2), none, .a .box, [.t 0]⟩ ::
 ⟨(some 4), none, .p .mov, [.c (.int .i64 0)]⟩ ::
 []))
(.seq (.ops (⟨(some 8), none, .p (.faddr 0), [.t 2]⟩ ::
 ⟨(some 9), none, .p (.faddr 2), [.t 8]⟩ ::
 ⟨(some 10), none, .r .load1, [.t 9]⟩ ::
 ⟨(some 11), none, .p (.faddr 5), [.t 2]⟩ ::
 ⟨(some 12), none, .r .load1, [.t 11]⟩ ::
 ⟨(some 13), none, .p .mov, [.t 1]⟩ ::
 ⟨(some 14), none, .call, [.c (.func (.func 90) [] []), .t 10, .t 12, .t 13]⟩ ::
 ⟨(some 7), none, .p .mov, [.t 14]⟩ ::
 ⟨(some 15), none, .p (.ext 0), [.t 7]⟩ ::
 ⟨(some 16), none, .p (.ext 1), [.t 7]⟩ ::
 ⟨(some 5), none, .p .mov, [.t 15]⟩ ::
 ⟨(some 6), none, .p .mov, [.t 16]⟩ ::
 []))
(.seq (.ops (⟨(some 17), none, .p .mov, [.t 5]⟩ ::
 ⟨(some 4), none, .p .mov, [.t 17]⟩ ::
 []))
.ret)))⟩
abbrev f_local_look_asks : Nat := 69
abbrev C_local_look_asks : AFunc := C69
def C70 : AFunc := ⟨29, [.tmp 6, .tmp 7],
(.seq (.ops (⟨(some 6), none, .p .mov, [.c (.int .i64 0)]⟩ ::
 ⟨(some 7), none, .p .mov, [.c (.int .i64 0)]⟩ ::
 []))
(.seq (.ops (⟨(some 11), none, .p .mov, [.t 0]⟩ ::
 ⟨(some 12), none, .p .mov, [.t 1]⟩ ::
 ⟨(some 13), none, .call, [.c (.func (.func 91) [] []), .t 11, .t 12]⟩ ::
 ⟨(some 10), none, .p .mov, [.t 13]⟩ ::
 ⟨(some 14), none, .p (.ext 0), [.t 10]⟩ ::
 ⟨(some 15), none, .p (.ext 1), [.t 10]⟩ ::
 ⟨(some 8), none, .a (.alloc [(.int .i64 0), (.int .i64 0)]), []⟩ ::
 ⟨none, none, .e (.store 2), [.t 8, .t 14]⟩ ::
 ⟨(some 9), none, .p .mov, [.t 15]⟩ ::
 []))
(.seq (.seq (.ops (⟨(some 16), none, .p .mov, [.t 9]⟩ ::
 ⟨(some 17), none, .p .not, [.t 16]⟩ ::
 ⟨(some 18), none, .p .mov, [.t 17]⟩ ::
 ⟨(some 19), (some (18, false)), .p .mov, [.t 2]⟩ ::
 ⟨(some 20), (some (18, false)), .p (.bin .lss), [.t 19, .c (.int .i64 0)]⟩ ::
 ⟨(some 21), none, .p .pick, [.t 18, .c (.bool true), .t 20]⟩ ::
 ⟨(some 22), none, .p .mov, [.t 21]⟩ ::
 ⟨(some 23), (some (22, false)), .p .mov, [.t 2]⟩ ::
 ⟨(some 24), (some (22, false)), .p (.bin .gtr), [.t 23, .c (.int .i64 1048576)]⟩ ::
 ⟨(some 25), none, .p .pick, [.t 22, .c (.bool true), .t 24]⟩ ::
 []))
(.cond (.t 25)
(.seq (.ops (⟨(some 6), none, .p .mov, [.c (.int .i64 0)]⟩ ::
 ⟨(some 7), none, .p .mov, [.c (.int .i64 2)]⟩ ::
 []))
.ret)
.skip))
(.seq (.ops (⟨(some 26), none, .r (.loadN 2), [.t 8]⟩ ::
 ⟨(some 27), none, .p .mov, [.t 2]⟩ ::
 ⟨(some 28), none, .call, [.c (.func (.func 92) [] []), .t 26, .t 27]⟩ ::
 ⟨(some 6), none, .p .mov, [.t 28]⟩ ::
 ⟨(some 7), none, .p .mov, [.c (.int .i64 0)]⟩ ::
 []))
.ret))))⟩
abbrev f_supply_Of : Nat := 70
abbrev C_supply_Of : AFunc := C70
def L_delay_Of_0 : AC := (.seq (.ops (⟨(some 29), none, .p (.bin .lss), [.t 28, .t 27]⟩ ::
 []))
(.seq (.cond (.t 29)
.skip
(.exit 1))
(.seq (.block 2 (.seq (.ops (⟨(some 30), none, .p (.iaddrS 8), [.t 26, .t 28]⟩ ::
 ⟨(some 31), none, .r (.loadN 8), [.t 30]⟩ ::
 ⟨(some 10), none, .a (.alloc [(.int .i64 0), (.int .i64 0), (.int .i64 0), (.int .i64 0), (.int .i64 0), (.int .i64 0), (.int .i64 0), (.int .i64 0)]), []⟩ ::
 ⟨none, none, .e (.store 8), [.t 10, .t 31]⟩ ::
 []))
(.seq (.ops (⟨(some 32), none, .p (.faddr 1), [.t 10]⟩ ::
 ⟨(some 33), none, .r .load1, [.t 32]⟩ ::
 ⟨(some 34), none, .p .mov, [.t 2]⟩ ::
 ⟨(some 35), none, .p (.bin .gtr), [.t 33, .t 34]⟩ ::
 []))
(.cond (.t 35)
(.ops (⟨(some 36), none, .p .mov, [.t 6]⟩ ::
 ⟨(some 37), none, .r (.loadN 5), [.t 8]⟩ ::
 ⟨(some 38), none, .r (.loadN 8), [.t 10]⟩ ::
 ⟨(some 39), none, .call, [.c (.func (.func 93) [] []), .t 37, .t 38]⟩ ::
 ⟨(some 40), none, .p .mx, [.t 36, .t 39]⟩ ::
 ⟨(some 6), none, .p .mov, [.t 40]⟩ ::
 []))
.skip))))
(.ops (⟨(some 41), none, .p (.bin .add), [.t 28, .c (.int .i64 1)]⟩ ::
 ⟨(some 28), none, .p .mov, [.t 41]⟩ ::
 [])))))
def C71 : AFunc := ⟨43, [.tmp 6, .tmp 7],
(.seq (.ops (⟨(some 6), none, .p .mov, [.c (.int .i64 0)]⟩ ::
 ⟨(some 7), none, .p .mov, [.c (.int .i64 0)]⟩ ::
 []))
(.seq (.ops (⟨(some 12), none, .p .mov, [.t 0]⟩ ::
 ⟨(some 13), none, .p .mov, [.t 1]⟩ ::
 ⟨(some 14), none, .call, [.c (.func (.func 78) [] []), .t 12, .t 13]⟩ ::
 ⟨(some 11), none, .p .mov, [.t 14]⟩ ::
 ⟨(some 15), none, .p (.ext 0), [.t 11]⟩ ::
 ⟨(some 16), none, .p (.ext 1), [.t 11]⟩ ::
 ⟨(some 8), none, .a (.alloc [(.int .i64 0), (.int .i64 0), .nils, .nils, (.int .i64 0)]), []⟩ ::
 ⟨none, none, .e (.store 5), [.t 8, .t 15]⟩ ::
 ⟨(some 7), none, .p .mov, [.t 16]⟩ ::
 []))
(.seq (.block 0 (.seq (.ops (⟨(some 18), none, .p .mov, [.t 7]⟩ ::
 ⟨(some 19), none, .p (.bin .neq), [.t 18, .c (.int .i64 0)]⟩ ::
 ⟨(some 17), none, .p .mov, [.t 19]⟩ ::
 []))
(.cond (.t 17)
(.seq (.ops (⟨(some 20), none, .p .mov, [.t 7]⟩ ::
 ⟨(some 6), none, .p .mov, [.c (.int .i64 0)]⟩ ::
 ⟨(some 7), none, .p .mov, [.t 20]⟩ ::
 []))
.ret)
(.seq (.ops (⟨(some 22), none, .p .mov, [.t 2]⟩ ::
 ⟨(some 23), none, .p (.bin .lss), [.t 22, .c (.int .i64 0)]⟩ ::
 ⟨(some 21), none, .p .mov, [.t 23]⟩ ::
 []))
(.cond (.t 21)
(.seq (.ops (⟨(some 6), none, .p .mov, [.c (.int .i64 0)]⟩ ::
 ⟨(some 7), none, .p .mov, [.c (.int .i64 2)]⟩ ::
 []))
.ret)
.skip)))))
(.seq (.seq (.ops (⟨(some 24), none, .p (.faddr 0), [.t 8]⟩ ::
 ⟨(some 25), none, .p (.faddr 2), [.t 24]⟩ ::
 ⟨(some 26), none, .r .load1, [.t 25]⟩ ::
 ⟨(some 27), none, .p .lenS, [.t 26]⟩ ::
 ⟨(some 28), none, .p .mov, [.c (.int .i64 0)]⟩ ::
 []))
(.block 1 (.loop L_delay_Of_0)))
(.seq (.ops (⟨(some 42), none, .p .mov, [.t 6]⟩ ::
 ⟨(some 6), none, .p .mov, [.t 42]⟩ ::
 ⟨(some 7), none, .p .mov, [.c (.int .i64 0)]⟩ ::
 []))
.ret)))))⟩
abbrev f_delay_Of : Nat := 71
abbrev C_delay_Of : AFunc := C71
def C72 : AFunc := ⟨20, [.tmp 4],
(.seq (.ops (⟨(some 4), none, .p .mov, [.c (.bool false)]⟩ ::
 []))
(.seq (.ops (⟨(some 7), none, .r .load1, [.t 1]⟩ ::
 ⟨(some 8), none, .r .load1, [.t 2]⟩ ::
 ⟨(some 9), none, .p .mov, [.t 0]⟩ ::
 ⟨(some 10), none, .p (.iaddrS 3), [.t 7, .t 8]⟩ ::
 ⟨(some 11), none, .p (.faddr 1), [.t 10]⟩ ::
 ⟨none, none, .e (.store 1), [.t 11, .t 9]⟩ ::
 []))
(.seq (.ops (⟨(some 13), none, .r .load1, [.t 1]⟩ ::
 ⟨(some 14), none, .r .load1, [.t 2]⟩ ::
 ⟨(some 15), none, .call, [.c (.func (.func 15) [] []), .t 13, .t 14]⟩ ::
 ⟨(some 12), none, .p .mov, [.t 15]⟩ ::
 ⟨(some 16), none, .p (.ext 0), [.t 12]⟩ ::
 ⟨(some 17), none, .p (.ext 1), [.t 12]⟩ ::
 ⟨(some 5), none, .p .mov, [.t 16]⟩ ::
 ⟨(some 6), none, .p .mov, [.t 17]⟩ ::
 []))
(.seq (.ops (⟨(some 18), none, .p .mov, [.t 6]⟩ ::
 ⟨(some 19), none, .p (.bin .eql), [.t 18, .c (.int .i64 0)]⟩ ::
 ⟨(some 4), none, .p .mov, [.t 19]⟩ ::
 []))
.ret))))⟩
abbrev f_tune_need_1 : Nat := 72
abbrev C_tune_need_1 : AFunc := C72
def C73 : AFunc := ⟨40, [.cell 4 2 true],
(.seq (.ops (⟨(some 2), none, .a .box, [.t 0]⟩ ::
 ⟨(some 3), none, .a .box, [.t 1]⟩ ::
 ⟨(some 4), none, .a (.alloc [(.int .i64 0), (.int .i64 0)]), []⟩ ::
 []))
(.seq (.dops (⟨(some 10), none, .p (.faddr 0), [.t 2]⟩ ::
 ⟨(some 11), none, .r .load1, [.t 10]⟩ ::
 ⟨(some 12), none, .p (.faddr 1), [.t 3]⟩ ::
 ⟨(some 13), none, .r .load1, [.t 12]⟩ ::
 ⟨(some 14), none, .p (.bin .mul), [.t 11, .t 13]⟩ ::
 ⟨(some 15), none, .p (.faddr 0), [.t 3]⟩ ::
 ⟨(some 16), none, .r .load1, [.t 15]⟩ ::
 ⟨(some 17), none, .p (.faddr 1), [.t 2]⟩ ::
 ⟨(some 18), none, .r .load1, [.t 17]⟩ ::
 ⟨(some 19), none, .p (.bin .mul), [.t 16, .t 18]⟩ ::
 ⟨(some 20), none, .p (.bin .add), [.t 14, .t 19]⟩ ::
 ⟨(some 21), none, .p (.faddr 1), [.t 2]⟩ ::
 ⟨(some 22), none, .r .load1, [.t 21]⟩ ::
 ⟨(some 23), none, .p (.faddr 1), [.t 3]⟩ ::
 ⟨(some 24), none, .r .load1, [.t 23]⟩ ::
 ⟨(some 25), none, .p (.bin .mul), [.t 22, .t 24]⟩ ::
 ⟨(some 5), none, .p .mov, [.t 20]⟩ ::
 ⟨(some 6), none, .p .mov, [.t 25]⟩ ::
 []) ([] :: [] :: [] :: [] :: [] :: [] :: [] :: [] :: [] :: [] :: [] :: [] :: [] :: [] :: [] :: [] :: [] :: [] :: []))
(.seq (.ops (⟨(some 27), none, .p .mov, [.t 5]⟩ ::
 ⟨(some 28), none, .p .mov, [.t 6]⟩ ::
 ⟨(some 29), none, .call, [.c (.func (.func 94) [] []), .t 27, .t 28]⟩ ::
 ⟨(some 26), none, .p .mov, [.t 29]⟩ ::
 ⟨(some 30), none, .p (.ext 0), [.t 26]⟩ ::
 ⟨(some 31), none, .p (.ext 1), [.t 26]⟩ ::
 ⟨(some 7), none, .p .mov, [.t 30]⟩ ::
 ⟨(some 8), none, .p .mov, [.t 31]⟩ ::
 []))
(.seq (.ops (⟨(some 32), none, .p .mov, [.t 7]⟩ ::
 ⟨(some 9), none, .p .mov, [.t 32]⟩ ::
 []))
(.seq (.dops (⟨(some 33), none, .p .mov, [.t 5]⟩ ::
 ⟨(some 34), none, .p .mov, [.t 9]⟩ ::
 ⟨(some 35), none, .p (.bin .quo), [.t 33, .t 34]⟩ ::
 ⟨(some 36), none, .p .mov, [.t 6]⟩ ::
 ⟨(some 37), none, .p .mov, [.t 9]⟩ ::
 ⟨(some 38), none, .p (.bin .quo), [.t 36, .t 37]⟩ ::
 ⟨(some 39), none, .p (.build [(.int .i64 0), (.int .i64 0)] [(0, 1), (1, 1)]), [.t 35, .t 38]⟩ ::
 ⟨none, none, .e (.store 2), [.t 4, .t 39]⟩ ::
 []) ([] :: [] :: [] :: [] :: [] :: [] :: [] :: [] :: []))
.ret)))))⟩
abbrev f_share_fraction_int_plus : Nat := 73
abbrev C_share_fraction_int_plus : AFunc := C73
def L_slices_IndexFunc_api_Part_api_Part_0 : AC := (.seq (.ops (⟨(some 9), none, .p (.bin .lss), [.t 8, .t 7]⟩ ::
 []))
(.seq (.cond (.t 9)
.skip
(.exit 0))
(.seq (.block 1 (.seq (.ops (⟨(some 10), none, .p .mov, [.t 8]⟩ ::
 ⟨(some 5), none, .p .mov, [.t 10]⟩ ::
 []))
(.seq (.ops (⟨(some 11), none, .p .mov, [.t 1]⟩ ::
 ⟨(some 12), none, .p .mov, [.t 0]⟩ ::
 ⟨(some 13), none, .p .mov, [.t 5]⟩ ::
 ⟨(some 14), none, .p (.iaddrS 3), [.t 12, .t 13]⟩ ::
 ⟨(some 15), none, .r (.loadN 3), [.t 14]⟩ ::
 ⟨(some 16), none, .call, [.t 11, .t 15]⟩ ::
 []))
(.cond (.t 16)
(.seq (.ops (⟨(some 17), none, .p .mov, [.t 5]⟩ ::
 ⟨(some 4), none, .p .mov, [.t 17]⟩ ::
 []))
.ret)
.skip))))
(.ops (⟨(some 18), none, .p (.bin .add), [.t 8, .c (.int .i64 1)]⟩ ::
 ⟨(some 8), none, .p .mov, [.t 18]⟩ ::
 [])))))
def C74 : AFunc := ⟨19, [.tmp 4],
(.seq (.ops (⟨(some 4), none, .p .mov, [.c (.int .i64 0)]⟩ ::
 []))
(.seq (.seq (.ops (⟨(some 6), none, .p .mov, [.t 0]⟩ ::
 ⟨(some 7), none, .p .lenS, [.t 6]⟩ ::
 ⟨(some 8), none, .p .mov, [.c (.int .i64 0)]⟩ ::
 []))
(.block 0 (.loop L_slices_IndexFunc_api_Part_api_Part_0)))
(.seq (.ops (⟨(some 4), none, .p .mov, [.c (.int .i64 (-1))]⟩ ::
 []))
.ret)))⟩
abbrev f_slices_IndexFunc_api_Part_api_Part : Nat := 74
abbrev C_slices_IndexFunc_api_Part_api_Part : AFunc := C74
def C75 : AFunc := ⟨9, [.tmp 3],
(.seq (.ops (⟨(some 2), none, .a .box, [.t 0]⟩ ::
 ⟨(some 3), none, .p .mov, [.c (.bool false)]⟩ ::
 []))
(.seq (.ops (⟨(some 4), none, .r (.loadN 8), [.t 2]⟩ ::
 ⟨(some 5), none, .p (.faddr 1), [.t 1]⟩ ::
 ⟨(some 6), none, .r .load1, [.t 5]⟩ ::
 ⟨(some 7), none, .call, [.c (.func (.func 76) [] []), .t 4, .t 6]⟩ ::
 ⟨(some 8), none, .p .not, [.t 7]⟩ ::
 ⟨(some 3), none, .p .mov, [.t 8]⟩ ::
 []))
.ret))⟩
abbrev f_conf_partMay_1 : Nat := 75
abbrev C_conf_partMay_1 : AFunc := C75
def C76 : AFunc := ⟨86, [.tmp 4],
(.seq (.ops (⟨(some 2), none, .a .box, [.t 0]⟩ ::
 ⟨(some 4), none, .p .mov, [.c (.bool false)]⟩ ::
 []))
(.seq (.ops (⟨(some 6), none, .p (.faddr 0), [.t 2]⟩ ::
 ⟨(some 7), none, .r .load1, [.t 6]⟩ ::
 ⟨(some 8), none, .call, [.c (.func (.func 57) [] []), .t 7, .c (.int .i64 1), .c (.int .i64 64)]⟩ ::
 ⟨(some 9), none, .p .mov, [.t 8]⟩ ::
 ⟨(some 10), (some (9, true)), .p (.faddr 1), [.t 2]⟩ ::
 ⟨(some 11), (some (9, true)), .r .load1, [.t 10]⟩ ::
 ⟨(some 12), (some (9, true)), .p (.faddr 0), [.t 2]⟩ ::
 ⟨(some 13), (some (9, true)), .r .load1, [.t 12]⟩ ::
 ⟨(some 14), (some (9, true)), .call, [.c (.func (.func 57) [] []), .t 11, .c (.int .i64 1), .t 13]⟩ ::
 ⟨(some 15), none, .p .pick, [.t 9, .t 14, .c (.bool false)]⟩ ::
 ⟨(some 16), none, .p .mov, [.t 15]⟩ ::
 ⟨(some 17), (some (16, true)), .p (.faddr 2), [.t 2]⟩ ::
 ⟨(some 18), (some (16, true)), .r .load1, [.t 17]⟩ ::
 ⟨(some 19), (some (16, true)), .p (.faddr 1), [.t 2]⟩ ::
 ⟨(some 20), (some (16, true)), .r .load1, [.t 19]⟩ ::
 ⟨(some 21), (some (16, true)), .call, [.c (.func (.func 57) [] []), .t 18, .c (.int .i64 1), .t 20]⟩ ::
 ⟨(some 22), none, .p .pick, [.t 16, .t 21, .c (.bool false)]⟩ ::
 ⟨(some 5), none, .p .mov, [.t 22]⟩ ::
 []))
(.seq (.seq (.ops (⟨(some 23), none, .p .mov, [.t 5]⟩ ::
 ⟨(some 24), none, .p .not, [.t 23]⟩ ::
 ⟨(some 25), none, .p .mov, [.t 24]⟩ ::
 ⟨(some 26), (some (25, false)), .p (.faddr 3), [.t 2]⟩ ::
 ⟨(some 27), (some (25, false)), .r .load1, [.t 26]⟩ ::
 ⟨(some 28), (some (25, false)), .call, [.c (.func (.func 57) [] []), .t 27, .c (.int .i64 0), .c (.int .i64 255)]⟩ ::
 ⟨(some 29), (some (25, false)), .p .not, [.t 28]⟩ ::
 ⟨(some 30), none, .p .pick, [.t 25, .c (.bool true), .t 29]⟩ ::
 ⟨(some 31), none, .p .mov, [.t 30]⟩ ::
 ⟨(some 32), (some (31, false)), .p (.faddr 5), [.t 2]⟩ ::
 ⟨(some 33), (some (31, false)), .r .load1, [.t 32]⟩ ::
 ⟨(some 34), (some (31, false)), .call, [.c (.func (.func 57) [] []), .t 33, .c (.int .i64 0), .c (.int .i64 4)]⟩ ::
 ⟨(some 35), (some (31, false)), .p .not, [.t 34]⟩ ::
 ⟨(some 36), none, .p .pick, [.t 31, .c (.bool true), .t 35]⟩ ::
 []))
(.cond (.t 36)
(.seq (.ops (⟨(some 4), none, .p .mov, [.c (.bool false)]⟩ ::
 []))
.ret)
.skip))
(.seq (.seq (.ops (⟨(some 37), none, .p (.faddr 3), [.t 2]⟩ ::
 ⟨(some 38), none, .r .load1, [.t 37]⟩ ::
 ⟨(some 39), none, .p (.bin .eql), [.t 38, .c (.int .i64 0)]⟩ ::
 ⟨(some 40), none, .p .mov, [.t 39]⟩ ::
 ⟨(some 41), (some (40, true)), .p (.faddr 4), [.t 2]⟩ ::
 ⟨(some 42), (some (40, true)), .r .load1, [.t 41]⟩ ::
 ⟨(some 43), (some (40, true)), .p (.bin .neq), [.t 42, .c (.int .i64 0)]⟩ ::
 ⟨(some 44), none, .p .pick, [.t 40, .t 43, .c (.bool false)]⟩ ::
 ⟨(some 45), none, .p .mov, [.t 44]⟩ ::
 ⟨(some 46), (some (45, false)), .p (.faddr 3), [.t 2]⟩ ::
 ⟨(some 47), (some (45, false)), .r .load1, [.t 46]⟩ ::
 ⟨(some 48), (some (45, false)), .p (.bin .neq), [.t 47, .c (.int .i64 0)]⟩ ::
 ⟨(some 49), (some (45, false)), .p .mov, [.t 48]⟩ ::
 ⟨(some 50), (some (49, true)), .p (.faddr 4), [.t 2]⟩ ::
 ⟨(some 51), (some (49, true)), .r .load1, [.t 50]⟩ ::
 ⟨(some 52), (some (49, true)), .p (.faddr 2), [.t 2]⟩ ::
 ⟨(some 53), (some (49, true)), .r .load1, [.t 52]⟩ ::
 ⟨(some 54), (some (49, true)), .call, [.c (.func (.func 57) [] []), .t 51, .c (.int .i64 1), .t 53]⟩ ::
 ⟨(some 55), (some (49, true)), .p .not, [.t 54]⟩ ::
 ⟨(some 56), (some (45, false)), .p .pick, [.t 49, .t 55, .c (.bool false)]⟩ ::
 ⟨(some 57), none, .p .pick, [.t 45, .c (.bool true), .t 56]⟩ ::
 []))
(.cond (.t 57)
(.seq (.ops (⟨(some 4), none, .p .mov, [.c (.bool false)]⟩ ::
 []))
.ret)
.skip))
(.seq (.seq (.ops (⟨(some 58), none, .p (.faddr 5), [.t 2]⟩ ::
 ⟨(some 59), none, .r .load1, [.t 58]⟩ ::
 ⟨(some 60), none, .p (.bin .eql), [.t 59, .c (.int .i64 0)]⟩ ::
 []))
(.cond (.t 60)
(.seq (.ops (⟨(some 61), none, .p (.faddr 6), [.t 2]⟩ ::
 ⟨(some 62), none, .r .load1, [.t 61]⟩ ::
 ⟨(some 63), none, .p (.bin .eql), [.t 62, .c (.int .i64 0)]⟩ ::
 ⟨(some 64), none, .p .mov, [.t 63]⟩ ::
 ⟨(some 65), (some (64, true)), .p (.faddr 7), [.t 2]⟩ ::
 ⟨(some 66), (some (64, true)), .r .load1, [.t 65]⟩ ::
 ⟨(some 67), (some (64, true)), .p (.bin .eql), [.t 66, .c (.int .i64 0)]⟩ ::
 ⟨(some 68), none, .p .pick, [.t 64, .t 67, .c (.bool false)]⟩ ::
 ⟨(some 4), none, .p .mov, [.t 68]⟩ ::
 []))
.ret)
.skip))
(.seq (.dops (⟨(some 69), none, .p (.faddr 6), [.t 2]⟩ ::
 ⟨(some 70), none, .r .load1, [.t 69]⟩ ::
 ⟨(some 71), none, .p .mov, [.t 1]⟩ ::
 ⟨(some 72), none, .p (.faddr 2), [.t 2]⟩ ::
 ⟨(some 73), none, .r .load1, [.t 72]⟩ ::
 ⟨(some 74), none, .p .mn, [.t 71, .t 73]⟩ ::
 ⟨(some 75), none, .call, [.c (.func (.func 57) [] []), .t 70, .c (.int .i64 1), .t 74]⟩ ::
 ⟨(some 76), none, .p .mov, [.t 75]⟩ ::
 ⟨(some 77), (some (76, true)), .p (.faddr 7), [.t 2]⟩ ::
 ⟨(some 78), (some (76, true)), .r .load1, [.t 77]⟩ ::
 ⟨(some 79), (some (76, true)), .p (.faddr 2), [.t 2]⟩ ::
 ⟨(some 80), (some (76, true)), .r .load1, [.t 79]⟩ ::
 ⟨(some 81), (some (76, true)), .p (.faddr 6), [.t 2]⟩ ::
 ⟨(some 82), (some (76, true)), .r .load1, [.t 81]⟩ ::
 ⟨(some 83), (some (76, true)), .p (.bin .quo), [.t 80, .t 82]⟩ ::
 ⟨(some 84), (some (76, true)), .call, [.c (.func (.func 57) [] []), .t 78, .c (.int .i64 1), .t 83]⟩ ::
 ⟨(some 85), none, .p .pick, [.t 76, .t 84, .c (.bool false)]⟩ ::
 ⟨(some 4), none, .p .mov, [.t 85]⟩ ::
 []) ([] :: [] :: [] :: [] :: [] :: [] :: [] :: [] :: [] :: [] :: [] :: [] :: [] :: [] :: [] :: [] :: [] :: [] :: []))
.ret))))))⟩
abbrev f_conf_taskMay : Nat := 76
abbrev C_conf_taskMay : AFunc := C76
def L_slices_IndexFunc_api_Port_api_Port_0 : AC := (.seq (.ops (⟨(some 9), none, .p (.bin .lss), [.t 8, .t 7]⟩ ::
 []))
(.seq (.cond (.t 9)
.skip
(.exit 0))
(.seq (.block 1 (.seq (.ops (⟨(some 10), none, .p .mov, [.t 8]⟩ ::
 ⟨(some 5), none, .p .mov, [.t 10]⟩ ::
 []))
(.seq (.ops (⟨(some 11), none, .p .mov, [.t 1]⟩ ::
 ⟨(some 12), none, .p .mov, [.t 0]⟩ ::
 ⟨(some 13), none, .p .mov, [.t 5]⟩ ::
 ⟨(some 14), none, .p (.iaddrS 6), [.t 12, .t 13]⟩ ::
 ⟨(some 15), none, .r (.loadN 6), [.t 14]⟩ ::
 ⟨(some 16), none, .call, [.t 11, .t 15]⟩ ::
 []))
(.cond (.t 16)
(.seq (.ops (⟨(some 17), none, .p .mov, [.t 5]⟩ ::
 ⟨(some 4), none, .p .mov, [.t 17]⟩ ::
 []))
.ret)
.skip))))
(.ops (⟨(some 18), none, .p (.bin .add), [.t 8, .c (.int .i64 1)]⟩ ::
 ⟨(some 8), none, .p .mov, [.t 18]⟩ ::
 [])))))
def C77 : AFunc := ⟨19, [.tmp 4],
(.seq (.ops (⟨(some 4), none, .p .mov, [.c (.int .i64 0)]⟩ ::
 []))
(.seq (.seq (.ops (⟨(some 6), none, .p .mov, [.t 0]⟩ ::
 ⟨(some 7), none, .p .lenS, [.t 6]⟩ ::
 ⟨(some 8), none, .p .mov, [.c (.int .i64 0)]⟩ ::
 []))
(.block 0 (.loop L_slices_IndexFunc_api_Port_api_Port_0)))
(.seq (.ops (⟨(some 4), none, .p .mov, [.c (.int .i64 (-1))]⟩ ::
 []))
.ret)))⟩
abbrev f_slices_IndexFunc_api_Port_api_Port : Nat := 77
abbrev C_slices_IndexFunc_api_Port_api_Port : AFunc := C77
def C78 : AFunc := ⟨29, [.cell 4 5 true, .tmp 5],
(.seq (.ops (⟨(some 4), none, .a (.alloc [(.int .i64 0), (.int .i64 0), .nils, .nils, (.int .i64 0)]), []⟩ ::
 ⟨(some 5), none, .p .mov, [.c (.int .i64 0)]⟩ ::
 []))
(.seq (.seq (.ops (⟨(some 7), none, .p .mov, [.t 0]⟩ ::
 ⟨(some 8), none, .call, [.c (.func (.func 95) [] []), .t 7]⟩ ::
 ⟨(some 6), none, .p .mov, [.t 8]⟩ ::
 []))
(.seq (.ops (⟨(some 9), none, .p .mov, [.t 6]⟩ ::
 ⟨(some 10), none, .p (.bin .neq), [.t 9, .c (.int .i64 0)]⟩ ::
 []))
(.cond (.t 10)
(.seq (.ops (⟨(some 11), none, .p (.build [(.int .i64 0), (.int .i64 0), .nils, .nils, (.int .i64 0)] []), []⟩ ::
 ⟨(some 12), none, .p .mov, [.t 6]⟩ ::
 ⟨none, none, .e (.store 5), [.t 4, .t 11]⟩ ::
 ⟨(some 5), none, .p .mov, [.t 12]⟩ ::
 []))
.ret)
.skip)))
(.seq (.seq (.ops (⟨(some 13), none, .p .mov, [.t 1]⟩ ::
 ⟨(some 14), none, .p (.bin .lss), [.t 13, .c (.int .i64 0)]⟩ ::
 ⟨(some 15), none, .p .mov, [.t 14]⟩ ::
 ⟨(some 16), (some (15, false)), .p .mov, [.t 1]⟩ ::
 ⟨(some 17), (some (15, false)), .p .mov, [.t 0]⟩ ::
 ⟨(some 18), (some (15, false)), .p .lenS, [.t 17]⟩ ::
 ⟨(some 19), (some (15, false)), .p (.bin .geq), [.t 16, .t 18]⟩ ::
 ⟨(some 20), none, .p .pick, [.t 15, .c (.bool true), .t 19]⟩ ::
 []))
(.cond (.t 20)
(.seq (.ops (⟨(some 21), none, .p (.build [(.int .i64 0), (.int .i64 0), .nils, .nils, (.int .i64 0)] []), []⟩ ::
 ⟨none, none, .e (.store 5), [.t 4, .t 21]⟩ ::
 ⟨(some 5), none, .p .mov, [.c (.int .i64 9)]⟩ ::
 []))
.ret)
.skip))
(.seq (.ops (⟨(some 22), none, .p .mov, [.t 0]⟩ ::
 ⟨(some 23), none, .p .mov, [.t 1]⟩ ::
 ⟨(some 24), none, .p (.iaddrS 3), [.t 22, .t 23]⟩ ::
 ⟨(some 25), none, .r (.loadN 3), [.t 24]⟩ ::
 ⟨(some 26), none, .p .mov, [.t 0]⟩ ::
 ⟨(some 27), none, .p .mov, [.t 1]⟩ ::
 ⟨(some 28), none, .p (.build [(.int .i64 0), (.int .i64 0), .nils, .nils, (.int .i64 0)] [(0, 3), (3, 1), (4, 1)]), [.t 25, .t 26, .t 27]⟩ ::
 ⟨none, none, .e (.store 5), [.t 4, .t 28]⟩ ::
 ⟨(some 5), none, .p .mov, [.c (.int .i64 0)]⟩ ::
 []))
.ret))))⟩
abbrev f_delay_of : Nat := 78
abbrev C_delay_of : AFunc := C78
def L_delay_seen_wait_0a : AC := (.ops (⟨(some 5), none, .a (.alloc [(.int .i64 0), (.int .i64 0), .nils]), []⟩ ::
 ⟨none, none, .e (.store 3), [.t 5, .t 13]⟩ ::
 []))
def L_delay_seen_wait_0b : AC := (.block 1 (.ops (⟨(some 14), none, .r .load1, [.t 4]⟩ ::
 ⟨(some 15), none, .p (.faddr 0), [.t 5]⟩ ::
 ⟨(some 16), none, .r .load1, [.t 15]⟩ ::
 ⟨(some 17), none, .p (.bin .mul), [.c (.int .i64 2), .t 16]⟩ ::
 ⟨(some 18), none, .p (.bin .add), [.t 14, .t 17]⟩ ::
 ⟨none, none, .e (.store 1), [.t 4, .t 18]⟩ ::
 [])))
def C79 : AFunc := ⟨20, [.cell 4 1 false],
(.seq (.ops (⟨(some 2), none, .a .box, [.t 0]⟩ ::
 ⟨(some 3), none, .a .box, [.t 1]⟩ ::
 ⟨(some 4), none, .a (.alloc [(.int .i64 0)]), []⟩ ::
 []))
(.seq (.seq (.ops (⟨(some 6), none, .p (.faddr 5), [.t 3]⟩ ::
 ⟨(some 7), none, .r .load1, [.t 6]⟩ ::
 ⟨(some 8), none, .p (.bin .eql), [.t 7, .c (.int .i64 0)]⟩ ::
 []))
(.cond (.t 8)
(.seq (.ops (⟨none, none, .e (.store 1), [.t 4, .c (.int .i64 0)]⟩ ::
 []))
.ret)
.skip))
(.seq (.seq (.ops (⟨(some 9), none, .r (.loadN 5), [.t 2]⟩ ::
 ⟨(some 10), none, .p (.faddr 5), [.t 3]⟩ ::
 ⟨(some 11), none, .r .load1, [.t 10]⟩ ::
 ⟨(some 12), none, .call, [.c (.func (.func 96) [] []), .t 9, .t 11]⟩ ::
 []))
(.block 0 (.rangeFunc (.t 12) [13] L_delay_seen_wait_0a L_delay_seen_wait_0b)))
(.seq (.ops (⟨(some 19), none, .r .load1, [.t 4]⟩ ::
 ⟨none, none, .e (.store 1), [.t 4, .t 19]⟩ ::
 []))
.ret))))⟩
abbrev f_delay_seen_wait : Nat := 79
abbrev C_delay_seen_wait : AFunc := C79
def C80 : AFunc := ⟨6, [.tmp 2],
(.seq (.ops (⟨(some 1), none, .a .box, [.t 0]⟩ ::
 ⟨(some 2), none, .p .mov, [.c (.bool false)]⟩ ::
 []))
(.seq (.ops (⟨(some 3), none, .r (.loadN 8), [.t 1]⟩ ::
 ⟨(some 4), none, .call, [.c (.func (.func 81) [] []), .t 3]⟩ ::
 ⟨(some 5), none, .p .not, [.t 4]⟩ ::
 ⟨(some 2), none, .p .mov, [.t 5]⟩ ::
 []))
.ret))⟩
abbrev f_demand_all_1 : Nat := 80
abbrev C_demand_all_1 : AFunc := C80
def C81 : AFunc := ⟨25, [.tmp 2],
(.seq (.ops (⟨(some 1), none, .a .box, [.t 0]⟩ ::
 ⟨(some 2), none, .p .mov, [.c (.bool false)]⟩ ::
 []))
(.seq (.ops (⟨(some 3), none, .p (.faddr 2), [.t 1]⟩ ::
 ⟨(some 4), none, .r .load1, [.t 3]⟩ ::
 ⟨(some 5), none, .p (.bin .leq), [.c (.int .i64 1), .t 4]⟩ ::
 ⟨(some 6), none, .p .mov, [.t 5]⟩ ::
 ⟨(some 7), (some (6, true)), .p (.faddr 2), [.t 1]⟩ ::
 ⟨(some 8), (some (6, true)), .r .load1, [.t 7]⟩ ::
 ⟨(some 9), (some (6, true)), .p (.faddr 1), [.t 1]⟩ ::
 ⟨(some 10), (some (6, true)), .r .load1, [.t 9]⟩ ::
 ⟨(some 11), (some (6, true)), .p (.bin .leq), [.t 8, .t 10]⟩ ::
 ⟨(some 12), none, .p .pick, [.t 6, .t 11, .c (.bool false)]⟩ ::
 ⟨(some 13), none, .p .mov, [.t 12]⟩ ::
 ⟨(some 14), (some (13, true)), .p (.faddr 1), [.t 1]⟩ ::
 ⟨(some 15), (some (13, true)), .r .load1, [.t 14]⟩ ::
 ⟨(some 16), (some (13, true)), .p (.faddr 0), [.t 1]⟩ ::
 ⟨(some 17), (some (13, true)), .r .load1, [.t 16]⟩ ::
 ⟨(some 18), (some (13, true)), .p (.bin .leq), [.t 15, .t 17]⟩ ::
 ⟨(some 19), none, .p .pick, [.t 13, .t 18, .c (.bool false)]⟩ ::
 ⟨(some 20), none, .p .mov, [.t 19]⟩ ::
 ⟨(some 21), (some (20, true)), .p (.faddr 0), [.t 1]⟩ ::
 ⟨(some 22), (some (20, true)), .r .load1, [.t 21]⟩ ::
 ⟨(some 23), (some (20, true)), .p (.bin .leq), [.t 22, .c (.int .i64 64)]⟩ ::
 ⟨(some 24), none, .p .pick, [.t 20, .t 23, .c (.bool false)]⟩ ::
 ⟨(some 2), none, .p .mov, [.t 24]⟩ ::
 []))
.ret))⟩
abbrev f_demand_may : Nat := 81
abbrev C_demand_may : AFunc := C81
def L_ticks_tick_0 : AC := (.seq (.ops (⟨(some 8), none, .p (.bin .lss), [.t 7, .t 6]⟩ ::
 []))
(.seq (.cond (.t 8)
.skip
(.exit 0))
(.seq (.block 1 (.seq (.ops (⟨(some 9), none, .p (.iaddrS 1), [.t 5, .t 7]⟩ ::
 ⟨(some 10), none, .r .load1, [.t 9]⟩ ::
 ⟨(some 4), none, .p .mov, [.t 10]⟩ ::
 []))
(.seq (.ops (⟨(some 11), none, .p .mov, [.t 4]⟩ ::
 ⟨(some 12), none, .p (.bin .lss), [.t 11, .c (.int .i64 0)]⟩ ::
 ⟨(some 13), none, .p .mov, [.t 12]⟩ ::
 ⟨(some 14), (some (13, false)), .p .mov, [.t 4]⟩ ::
 ⟨(some 15), (some (13, false)), .p (.bin .gtr), [.t 14, .c (.int .i64 1099511627776)]⟩ ::
 ⟨(some 16), none, .p .pick, [.t 13, .c (.bool true), .t 15]⟩ ::
 []))
(.cond (.t 16)
(.seq (.ops (⟨(some 2), none, .p .mov, [.c (.bool false)]⟩ ::
 []))
.ret)
.skip))))
(.ops (⟨(some 17), none, .p (.bin .add), [.t 7, .c (.int .i64 1)]⟩ ::
 ⟨(some 7), none, .p .mov, [.t 17]⟩ ::
 [])))))
def C82 : AFunc := ⟨18, [.tmp 2],
(.seq (.ops (⟨(some 2), none, .p .mov, [.c (.bool false)]⟩ ::
 []))
(.seq (.seq (.ops (⟨(some 5), none, .p .mov, [.t 0]⟩ ::
 ⟨(some 6), none, .p .lenS, [.t 5]⟩ ::
 ⟨(some 7), none, .p .mov, [.c (.int .i64 0)]⟩ ::
 []))
(.block 0 (.loop L_ticks_tick_0)))
(.seq (.ops (⟨(some 2), none, .p .mov, [.c (.bool true)]⟩ ::
 []))
.ret)))⟩
abbrev f_ticks_tick : Nat := 82
abbrev C_ticks_tick : AFunc := C82
def C83 : AFunc := ⟨9, [.tmp 4],
(.seq (.ops (⟨(some 4), none, .p .mov, [.c (.bool false)]⟩ ::
 []))
(.seq (.ops (⟨(some 5), none, .p .mov, [.t 0]⟩ ::
 ⟨(some 6), none, .p .mov, [.t 1]⟩ ::
 ⟨(some 7), none, .call, [.c (.func (.func 97) [] []), .t 5, .t 6]⟩ ::
 ⟨(some 8), none, .p (.bin .geq), [.t 7, .c (.int .i64 0)]⟩ ::
 ⟨(some 4), none, .p .mov, [.t 8]⟩ ::
 []))
.ret))⟩
abbrev f_slices_Contains_int_int : Nat := 83
abbrev C_slices_Contains_int_int : AFunc := C83
def L_ticks_each_0 : AC := (.seq (.ops (⟨(some 9), none, .p (.bin .lss), [.t 8, .t 7]⟩ ::
 []))
(.seq (.cond (.t 9)
.skip
(.exit 0))
(.seq (.block 1 (.seq (.ops (⟨(some 10), none, .p (.iaddrS 1), [.t 6, .t 8]⟩ ::
 ⟨(some 11), none, .r .load1, [.t 10]⟩ ::
 ⟨(some 5), none, .p .mov, [.t 11]⟩ ::
 []))
(.ops (⟨(some 12), none, .p .mov, [.t 0]⟩ ::
 ⟨(some 13), none, .p .mov, [.t 5]⟩ ::
 ⟨(some 14), none, .call, [.t 12, .t 13]⟩ ::
 []))))
(.ops (⟨(some 15), none, .p (.bin .add), [.t 8, .c (.int .i64 1)]⟩ ::
 ⟨(some 8), none, .p .mov, [.t 15]⟩ ::
 [])))))
def C84 : AFunc := ⟨16, [],
(.seq (.ops (⟨(some 6), none, .p .mov, [.t 1]⟩ ::
 ⟨(some 7), none, .p .lenS, [.t 6]⟩ ::
 ⟨(some 8), none, .p .mov, [.c (.int .i64 0)]⟩ ::
 []))
(.block 0 (.loop L_ticks_each_0)))⟩
abbrev f_ticks_each : Nat := 84
abbrev C_ticks_each : AFunc := C84
def C85 : AFunc := ⟨37, [],
(.seq (.ops (⟨(some 6), none, .p .mov, [.t 0]⟩ ::
 ⟨(some 7), none, .p .nilchk, [.t 6]⟩ ::
 ⟨(some 8), none, .p (.faddr 1), [.t 7]⟩ ::
 ⟨(some 9), none, .r .load1, [.t 8]⟩ ::
 ⟨(some 10), none, .p (.bin .eql), [.t 9, .c (.int .i64 0)]⟩ ::
 []))
(.cond (.t 10)
(.seq (.ops (⟨(some 12), none, .p .mov, [.t 0]⟩ ::
 ⟨(some 13), none, .p .nilchk, [.t 12]⟩ ::
 ⟨(some 14), none, .p (.faddr 0), [.t 13]⟩ ::
 ⟨(some 15), none, .r .load1, [.t 14]⟩ ::
 ⟨(some 16), none, .p .mov, [.t 1]⟩ ::
 ⟨(some 17), none, .call, [.c (.func (.func 94) [] []), .t 15, .t 16]⟩ ::
 ⟨(some 11), none, .p .mov, [.t 17]⟩ ::
 ⟨(some 18), none, .p (.ext 0), [.t 11]⟩ ::
 ⟨(some 19), none, .p (.ext 1), [.t 11]⟩ ::
 ⟨(some 4), none, .p .mov, [.t 18]⟩ ::
 ⟨(some 5), none, .p .mov, [.t 19]⟩ ::
 []))
(.dops (⟨(some 21), none, .p .mov, [.t 0]⟩ ::
 ⟨(some 22), none, .p .mov, [.t 0]⟩ ::
 ⟨(some 23), none, .p .mov, [.t 0]⟩ ::
 ⟨(some 24), none, .p .nilchk, [.t 23]⟩ ::
 ⟨(some 25), none, .p (.faddr 0), [.t 24]⟩ ::
 ⟨(some 26), none, .r .load1, [.t 25]⟩ ::
 ⟨(some 27), none, .p .mov, [.t 1]⟩ ::
 ⟨(some 28), none, .p .mov, [.t 4]⟩ ::
 ⟨(some 29), none, .p (.bin .quo), [.t 27, .t 28]⟩ ::
 ⟨(some 30), none, .call, [.c (.func (.func 98) [] []), .t 26, .t 29]⟩ ::
 ⟨(some 20), none, .p .mov, [.t 30]⟩ ::
 ⟨(some 31), none, .p (.ext 0), [.t 20]⟩ ::
 ⟨(some 32), none, .p (.ext 1), [.t 20]⟩ ::
 ⟨(some 33), none, .p .nilchk, [.t 21]⟩ ::
 ⟨(some 34), none, .p (.faddr 0), [.t 33]⟩ ::
 ⟨none, none, .e (.store 1), [.t 34, .t 31]⟩ ::
 ⟨(some 35), none, .p .nilchk, [.t 22]⟩ ::
 ⟨(some 36), none, .p (.faddr 1), [.t 35]⟩ ::
 ⟨none, none, .e (.store 1), [.t 36, .t 32]⟩ ::
 []) ([] :: [] :: [] :: [] :: [] :: [] :: [] :: [] :: [] :: [] :: [] :: [] :: [] :: [] :: [] :: [] :: [] :: [] :: [] :: [])))
.skip))⟩
abbrev f_ticks_count_multiple : Nat := 85
abbrev C_ticks_count_multiple : AFunc := C85
def C86 : AFunc := ⟨16, [.tmp 4, .tmp 5],
(.seq (.ops (⟨(some 4), none, .p .mov, [.c (.int .i64 0)]⟩ ::
 ⟨(some 5), none, .p .mov, [.c (.int .i64 0)]⟩ ::
 []))
(.seq (.seq (.ops (⟨(some 6), none, .p .mov, [.t 1]⟩ ::
 ⟨(some 7), none, .p (.bin .eql), [.t 6, .c (.int .i64 0)]⟩ ::
 ⟨(some 8), none, .p .mov, [.t 7]⟩ ::
 ⟨(some 9), (some (8, true)), .p .mov, [.t 0]⟩ ::
 ⟨(some 10), (some (8, true)), .p (.bin .gtr), [.t 9, .c (.int .i64 1099511627776)]⟩ ::
 ⟨(some 11), none, .p .pick, [.t 8, .t 10, .c (.bool false)]⟩ ::
 []))
(.cond (.t 11)
(.ops (⟨(some 1), none, .p .mov, [.c (.int .i64 10)]⟩ ::
 []))
.skip))
(.seq (.seq (.ops (⟨(some 12), none, .p .mov, [.t 1]⟩ ::
 ⟨(some 13), none, .p (.bin .neq), [.t 12, .c (.int .i64 0)]⟩ ::
 []))
(.cond (.t 13)
(.seq (.ops (⟨(some 14), none, .p .mov, [.t 1]⟩ ::
 ⟨(some 4), none, .p .mov, [.c (.int .i64 0)]⟩ ::
 ⟨(some 5), none, .p .mov, [.t 14]⟩ ::
 []))
.ret)
.skip))
(.seq (.ops (⟨(some 15), none, .p .mov, [.t 0]⟩ ::
 ⟨(some 4), none, .p .mov, [.t 15]⟩ ::
 ⟨(some 5), none, .p .mov, [.c (.int .i64 0)]⟩ ::
 []))
.ret))))⟩
abbrev f_ticks_told : Nat := 86
abbrev C_ticks_told : AFunc := C86
def C87 : AFunc := ⟨9, [.tmp 4],
(.seq (.ops (⟨(some 4), none, .p .mov, [.c (.bool false)]⟩ ::
 []))
(.seq (.ops (⟨(some 5), none, .p .mov, [.t 0]⟩ ::
 ⟨(some 6), none, .p .mov, [.t 1]⟩ ::
 ⟨(some 7), none, .call, [.c (.func (.func 99) [] []), .t 5, .t 6]⟩ ::
 ⟨(some 8), none, .p (.bin .geq), [.t 7, .c (.int .i64 0)]⟩ ::
 ⟨(some 4), none, .p .mov, [.t 8]⟩ ::
 []))
.ret))⟩
abbrev f_slices_ContainsFunc_int_int : Nat := 87
abbrev C_slices_ContainsFunc_int_int : AFunc := C87
def C88 : AFunc := ⟨9, [.tmp 2],
(.seq (.ops (⟨(some 2), none, .p .mov, [.c (.bool false)]⟩ ::
 []))
(.seq (.ops (⟨(some 3), none, .p .mov, [.t 0]⟩ ::
 ⟨(some 4), none, .p (.bin .lss), [.t 3, .c (.int .i64 0)]⟩ ::
 ⟨(some 5), none, .p .mov, [.t 4]⟩ ::
 ⟨(some 6), (some (5, false)), .p .mov, [.t 0]⟩ ::
 ⟨(some 7), (some (5, false)), .p (.bin .gtr), [.t 6, .c (.int .i64 32768)]⟩ ::
 ⟨(some 8), none, .p .pick, [.t 5, .c (.bool true), .t 7]⟩ ::
 ⟨(some 2), none, .p .mov, [.t 8]⟩ ::
 []))
.ret))⟩
abbrev f_demand_Check_1 : Nat := 88
abbrev C_demand_Check_1 : AFunc := C88
def L_slices_IndexFunc_api_Task_api_Task_0 : AC := (.seq (.ops (⟨(some 9), none, .p (.bin .lss), [.t 8, .t 7]⟩ ::
 []))
(.seq (.cond (.t 9)
.skip
(.exit 0))
(.seq (.block 1 (.seq (.ops (⟨(some 10), none, .p .mov, [.t 8]⟩ ::
 ⟨(some 5), none, .p .mov, [.t 10]⟩ ::
 []))
(.seq (.ops (⟨(some 11), none, .p .mov, [.t 1]⟩ ::
 ⟨(some 12), none, .p .mov, [.t 0]⟩ ::
 ⟨(some 13), none, .p .mov, [.t 5]⟩ ::
 ⟨(some 14), none, .p (.iaddrS 8), [.t 12, .t 13]⟩ ::
 ⟨(some 15), none, .r (.loadN 8), [.t 14]⟩ ::
 ⟨(some 16), none, .call, [.t 11, .t 15]⟩ ::
 []))
(.cond (.t 16)
(.seq (.ops (⟨(some 17), none, .p .mov, [.t 5]⟩ ::
 ⟨(some 4), none, .p .mov, [.t 17]⟩ ::
 []))
.ret)
.skip))))
(.ops (⟨(some 18), none, .p (.bin .add), [.t 8, .c (.int .i64 1)]⟩ ::
 ⟨(some 8), none, .p .mov, [.t 18]⟩ ::
 [])))))
def C89 : AFunc := ⟨19, [.tmp 4],
(.seq (.ops (⟨(some 4), none, .p .mov, [.c (.int .i64 0)]⟩ ::
 []))
(.seq (.seq (.ops (⟨(some 6), none, .p .mov, [.t 0]⟩ ::
 ⟨(some 7), none, .p .lenS, [.t 6]⟩ ::
 ⟨(some 8), none, .p .mov, [.c (.int .i64 0)]⟩ ::
 []))
(.block 0 (.loop L_slices_IndexFunc_api_Task_api_Task_0)))
(.seq (.ops (⟨(some 4), none, .p .mov, [.c (.int .i64 (-1))]⟩ ::
 []))
.ret)))⟩
abbrev f_slices_IndexFunc_api_Task_api_Task : Nat := 89
abbrev C_slices_IndexFunc_api_Task_api_Task : AFunc := C89
def C90 : AFunc := ⟨27, [.tmp 6, .tmp 7],
(.seq (.ops (⟨(some 5), none, .a .box, [.t 2]⟩ ::
 ⟨(some 6), none, .p .mov, [.c (.int .i64 0)]⟩ ::
 ⟨(some 7), none, .p .mov, [.c (.int .i64 0)]⟩ ::
 []))
(.seq (.seq (.ops (⟨(some 9), none, .p .mov, [.t 0]⟩ ::
 ⟨(some 10), none, .p .mov, [.t 1]⟩ ::
 ⟨(some 11), none, .call, [.c (.func (.func 62) [] []), .t 9, .t 10]⟩ ::
 ⟨(some 8), none, .p .mov, [.t 11]⟩ ::
 []))
(.seq (.ops (⟨(some 12), none, .p .mov, [.t 8]⟩ ::
 ⟨(some 13), none, .p (.bin .neq), [.t 12, .c (.int .i64 0)]⟩ ::
 ⟨(some 14), none, .p .mov, [.t 13]⟩ ::
 ⟨(some 15), (some (14, false)), .r .load1, [.t 5]⟩ ::
 ⟨(some 16), (some (14, false)), .p (.bin .lss), [.t 15, .c (.int .i64 0)]⟩ ::
 ⟨(some 17), none, .p .pick, [.t 14, .c (.bool true), .t 16]⟩ ::
 ⟨(some 18), none, .p .mov, [.t 17]⟩ ::
 ⟨(some 19), (some (18, false)), .r .load1, [.t 5]⟩ ::
 ⟨(some 20), (some (18, false)), .p (.bin .gtr), [.t 19, .c (.int .i64 1048576)]⟩ ::
 ⟨(some 21), none, .p .pick, [.t 18, .c (.bool true), .t 20]⟩ ::
 []))
(.cond (.t 21)
(.seq (.ops (⟨(some 6), none, .p .mov, [.c (.int .i64 0)]⟩ ::
 ⟨(some 7), none, .p .mov, [.c (.int .i64 2)]⟩ ::
 []))
.ret)
.skip)))
(.seq (.ops (⟨(some 22), none, .p .mov, [.t 0]⟩ ::
 ⟨(some 23), none, .p .mov, [.t 1]⟩ ::
 ⟨(some 24), none, .p (.mkfunc (.func 100) 0), [.t 5]⟩ ::
 ⟨(some 25), none, .call, [.c (.func (.func 66) [] []), .t 22, .t 23, .t 24]⟩ ::
 ⟨(some 26), none, .call, [.c (.func (.func 65) [] []), .t 25]⟩ ::
 ⟨(some 6), none, .p .mov, [.t 26]⟩ ::
 ⟨(some 7), none, .p .mov, [.c (.int .i64 0)]⟩ ::
 []))
.ret)))⟩
abbrev f_demand_Of : Nat := 90
abbrev C_demand_Of : AFunc := C90
def C91 : AFunc := ⟨27, [.cell 4 2 true, .tmp 5],
(.seq (.ops (⟨(some 4), none, .a (.alloc [(.int .i64 0), (.int .i64 0)]), []⟩ ::
 ⟨(some 5), none, .p .mov, [.c (.bool false)]⟩ ::
 []))
(.seq (.ops (⟨(some 7), none, .p .mov, [.t 0]⟩ ::
 ⟨(some 8), none, .p .mov, [.t 1]⟩ ::
 ⟨(some 9), none, .p (.build [(.int .i64 0), (.int .i64 0)] [(0, 1), (1, 1)]), [.t 7, .t 8]⟩ ::
 ⟨(some 10), none, .p (.build [(.int .i64 0), (.int .i64 0)] [(0, 2)]), [.t 9]⟩ ::
 ⟨(some 6), none, .a (.alloc [(.int .i64 0), (.int .i64 0)]), []⟩ ::
 ⟨none, none, .e (.store 2), [.t 6, .t 10]⟩ ::
 []))
(.seq (.ops (⟨(some 11), none, .r (.loadN 2), [.t 6]⟩ ::
 ⟨(some 12), none, .p .mov, [.t 0]⟩ ::
 ⟨(some 13), none, .p (.bin .leq), [.c (.int .i64 1), .t 12]⟩ ::
 ⟨(some 14), none, .p .mov, [.t 13]⟩ ::
 ⟨(some 15), (some (14, true)), .p .mov, [.t 0]⟩ ::
 ⟨(some 16), (some (14, true)), .p (.bin .leq), [.t 15, .c (.int .i64 64)]⟩ ::
 ⟨(some 17), none, .p .pick, [.t 14, .t 16, .c (.bool false)]⟩ ::
 ⟨(some 18), none, .p .mov, [.t 17]⟩ ::
 ⟨(some 19), (some (18, true)), .p .mov, [.t 1]⟩ ::
 ⟨(some 20), (some (18, true)), .p (.bin .leq), [.c (.int .i64 1), .t 19]⟩ ::
 ⟨(some 21), none, .p .pick, [.t 18, .t 20, .c (.bool false)]⟩ ::
 ⟨(some 22), none, .p .mov, [.t 21]⟩ ::
 ⟨(some 23), (some (22, true)), .p .mov, [.t 1]⟩ ::
 ⟨(some 24), (some (22, true)), .p .mov, [.t 0]⟩ ::
 ⟨(some 25), (some (22, true)), .p (.bin .leq), [.t 23, .t 24]⟩ ::
 ⟨(some 26), none, .p .pick, [.t 22, .t 25, .c (.bool false)]⟩ ::
 ⟨none, none, .e (.store 2), [.t 4, .t 11]⟩ ::
 ⟨(some 5), none, .p .mov, [.t 26]⟩ ::
 []))
.ret)))⟩
abbrev f_supply_of : Nat := 91
abbrev C_supply_of : AFunc := C91
def C92 : AFunc := ⟨40, [.tmp 4],
(.seq (.ops (⟨(some 2), none, .a .box, [.t 0]⟩ ::
 ⟨(some 4), none, .p .mov, [.c (.int .i64 0)]⟩ ::
 []))
(.seq (.ops (⟨(some 7), none, .p (.faddr 0), [.t 2]⟩ ::
 ⟨(some 8), none, .r (.loadN 2), [.t 7]⟩ ::
 ⟨(some 9), none, .call, [.c (.func (.func 101) [] []), .t 8]⟩ ::
 ⟨(some 5), none, .p .mov, [.t 9]⟩ ::
 []))
(.seq (.seq (.ops (⟨(some 10), none, .p .mov, [.t 1]⟩ ::
 ⟨(some 11), none, .p .mov, [.t 5]⟩ ::
 ⟨(some 12), none, .p (.bin .lss), [.t 10, .t 11]⟩ ::
 []))
(.cond (.t 12)
(.seq (.ops (⟨(some 4), none, .p .mov, [.c (.int .i64 0)]⟩ ::
 []))
.ret)
.skip))
(.seq (.ops (⟨(some 13), none, .p .mov, [.t 1]⟩ ::
 ⟨(some 14), none, .p .mov, [.t 5]⟩ ::
 ⟨(some 15), none, .p (.bin .sub), [.t 13, .t 14]⟩ ::
 ⟨(some 16), none, .p (.faddr 0), [.t 2]⟩ ::
 ⟨(some 17), none, .p (.faddr 0), [.t 16]⟩ ::
 ⟨(some 18), none, .r .load1, [.t 17]⟩ ::
 ⟨(some 19), none, .call, [.c (.func (.func 102) [] []), .t 15, .t 18]⟩ ::
 ⟨(some 6), none, .p .mov, [.t 19]⟩ ::
 []))
(.seq (.dops (⟨(some 20), none, .p .mov, [.t 6]⟩ ::
 ⟨(some 21), none, .p (.faddr 0), [.t 2]⟩ ::
 ⟨(some 22), none, .p (.faddr 1), [.t 21]⟩ ::
 ⟨(some 23), none, .r .load1, [.t 22]⟩ ::
 ⟨(some 24), none, .p (.bin .mul), [.t 20, .t 23]⟩ ::
 ⟨(some 25), none, .p .mov, [.t 1]⟩ ::
 ⟨(some 26), none, .p .mov, [.t 5]⟩ ::
 ⟨(some 27), none, .p (.bin .sub), [.t 25, .t 26]⟩ ::
 ⟨(some 28), none, .p .mov, [.t 6]⟩ ::
 ⟨(some 29), none, .p (.faddr 0), [.t 2]⟩ ::
 ⟨(some 30), none, .p (.faddr 0), [.t 29]⟩ ::
 ⟨(some 31), none, .r .load1, [.t 30]⟩ ::
 ⟨(some 32), none, .p (.bin .mul), [.t 28, .t 31]⟩ ::
 ⟨(some 33), none, .p (.bin .sub), [.t 27, .t 32]⟩ ::
 ⟨(some 34), none, .p (.faddr 0), [.t 2]⟩ ::
 ⟨(some 35), none, .r (.loadN 2), [.t 34]⟩ ::
 ⟨(some 36), none, .call, [.c (.func (.func 101) [] []), .t 35]⟩ ::
 ⟨(some 37), none, .p (.bin .sub), [.t 33, .t 36]⟩ ::
 ⟨(some 38), none, .p .mx, [.c (.int .i64 0), .t 37]⟩ ::
 ⟨(some 39), none, .p (.bin .add), [.t 24, .t 38]⟩ ::
 ⟨(some 4), none, .p .mov, [.t 39]⟩ ::
 []) ([] :: [] :: [] :: [0, 17] :: [] :: [] :: [] :: [] :: [] :: [] :: [] :: [0, 17] :: [] :: [] :: [] :: [] :: [] :: [] :: [] :: [] :: [] :: []))
.ret)))))⟩
abbrev f_supply_server_gives : Nat := 92
abbrev C_supply_server_gives : AFunc := C92
def C93 : AFunc := ⟨21, [.tmp 4],
(.seq (.ops (⟨(some 2), none, .a .box, [.t 0]⟩ ::
 ⟨(some 3), none, .a .box, [.t 1]⟩ ::
 ⟨(some 4), none, .p .mov, [.c (.int .i64 0)]⟩ ::
 []))
(.seq (.seq (.ops (⟨(some 5), none, .p (.faddr 5), [.t 3]⟩ ::
 ⟨(some 6), none, .r .load1, [.t 5]⟩ ::
 ⟨(some 7), none, .p (.bin .eql), [.t 6, .c (.int .i64 0)]⟩ ::
 []))
(.cond (.t 7)
(.seq (.ops (⟨(some 8), none, .p (.faddr 4), [.t 3]⟩ ::
 ⟨(some 9), none, .r .load1, [.t 8]⟩ ::
 ⟨(some 4), none, .p .mov, [.t 9]⟩ ::
 []))
.ret)
.skip))
(.seq (.dops (⟨(some 10), none, .p (.faddr 4), [.t 3]⟩ ::
 ⟨(some 11), none, .r .load1, [.t 10]⟩ ::
 ⟨(some 12), none, .r (.loadN 5), [.t 2]⟩ ::
 ⟨(some 13), none, .r (.loadN 8), [.t 3]⟩ ::
 ⟨(some 14), none, .call, [.c (.func (.func 79) [] []), .t 12, .t 13]⟩ ::
 ⟨(some 15), none, .p (.faddr 6), [.t 3]⟩ ::
 ⟨(some 16), none, .r .load1, [.t 15]⟩ ::
 ⟨(some 17), none, .p (.bin .mul), [.c (.int .i64 2), .t 16]⟩ ::
 ⟨(some 18), none, .p (.bin .add), [.t 14, .t 17]⟩ ::
 ⟨(some 19), none, .p (.bin .sub), [.t 18, .c (.int .i64 1)]⟩ ::
 ⟨(some 20), none, .p .mx, [.t 11, .t 19]⟩ ::
 ⟨(some 4), none, .p .mov, [.t 20]⟩ ::
 []) ([] :: [0, 5] :: [] :: [] :: [] :: [] :: [0, 5] :: [] :: [] :: [] :: [] :: [] :: []))
.ret)))⟩
abbrev f_delay_seen_by : Nat := 93
abbrev C_delay_seen_by : AFunc := C93
def L_ticks_Gcd_0 : AC := (.seq (.seq (.ops (⟨(some 11), none, .p .mov, [.t 1]⟩ ::
 ⟨(some 12), none, .p (.bin .neq), [.t 11, .c (.int .i64 0)]⟩ ::
 []))
(.cond (.t 12)
.skip
(.exit 0)))
(.block 1 (.dops (⟨(some 13), none, .p .mov, [.t 1]⟩ ::
 ⟨(some 14), none, .p .mov, [.t 0]⟩ ::
 ⟨(some 15), none, .p .mov, [.t 1]⟩ ::
 ⟨(some 16), none, .p (.bin .rem), [.t 14, .t 15]⟩ ::
 ⟨(some 0), none, .p .mov, [.t 13]⟩ ::
 ⟨(some 1), none, .p .mov, [.t 16]⟩ ::
 []) ([] :: [] :: [] :: [] :: [] :: [] :: []))))
def C94 : AFunc := ⟨18, [.tmp 4, .tmp 5],
(.seq (.ops (⟨(some 4), none, .p .mov, [.c (.int .i64 0)]⟩ ::
 ⟨(some 5), none, .p .mov, [.c (.int .i64 0)]⟩ ::
 []))
(.seq (.seq (.ops (⟨(some 6), none, .p .mov, [.t 0]⟩ ::
 ⟨(some 7), none, .p .mov, [.t 1]⟩ ::
 ⟨(some 8), none, .a (.bslice [(.int .i64 0)] 2 1 [0, 1]), [.t 6, .t 7]⟩ ::
 ⟨(some 9), none, .call, [.c (.func (.func 82) [] []), .t 8]⟩ ::
 ⟨(some 10), none, .p .not, [.t 9]⟩ ::
 []))
(.cond (.t 10)
(.seq (.ops (⟨(some 4), none, .p .mov, [.c (.int .i64 0)]⟩ ::
 ⟨(some 5), none, .p .mov, [.c (.int .i64 2)]⟩ ::
 []))
.ret)
.skip))
(.seq (.block 0 (.loop L_ticks_Gcd_0))
(.seq (.ops (⟨(some 17), none, .p .mov, [.t 0]⟩ ::
 ⟨(some 4), none, .p .mov, [.t 17]⟩ ::
 ⟨(some 5), none, .p .mov, [.c (.int .i64 0)]⟩ ::
 []))
.ret))))⟩
abbrev f_ticks_Gcd : Nat := 94
abbrev C_ticks_Gcd : AFunc := C94
def L_delay_Check_0 : AC := (.seq (.ops (⟨(some 12), none, .p (.bin .lss), [.t 11, .t 10]⟩ ::
 []))
(.seq (.cond (.t 12)
.skip
(.exit 0))
(.seq (.block 1 (.seq (.ops (⟨(some 13), none, .p (.iaddrS 3), [.t 9, .t 11]⟩ ::
 ⟨(some 14), none, .r (.loadN 3), [.t 13]⟩ ::
 ⟨(some 4), none, .a (.alloc [(.int .i64 0), (.int .i64 0), .nils]), []⟩ ::
 ⟨none, none, .e (.store 3), [.t 4, .t 14]⟩ ::
 []))
(.seq (.seq (.ops (⟨(some 15), none, .p (.faddr 0), [.t 4]⟩ ::
 ⟨(some 16), none, .r .load1, [.t 15]⟩ ::
 ⟨(some 17), none, .p (.bin .lss), [.t 16, .c (.int .i64 1)]⟩ ::
 ⟨(some 18), none, .p .mov, [.t 17]⟩ ::
 ⟨(some 19), (some (18, false)), .p (.faddr 0), [.t 4]⟩ ::
 ⟨(some 20), (some (18, false)), .r .load1, [.t 19]⟩ ::
 ⟨(some 21), (some (18, false)), .p (.bin .gtr), [.t 20, .c (.int .i64 64)]⟩ ::
 ⟨(some 22), none, .p .pick, [.t 18, .c (.bool true), .t 21]⟩ ::
 ⟨(some 23), none, .p .mov, [.t 22]⟩ ::
 ⟨(some 24), (some (23, false)), .p (.faddr 1), [.t 4]⟩ ::
 ⟨(some 25), (some (23, false)), .r .load1, [.t 24]⟩ ::
 ⟨(some 26), (some (23, false)), .p (.bin .lss), [.t 25, .c (.int .i64 1)]⟩ ::
 ⟨(some 27), none, .p .pick, [.t 23, .c (.bool true), .t 26]⟩ ::
 ⟨(some 28), none, .p .mov, [.t 27]⟩ ::
 ⟨(some 29), (some (28, false)), .p (.faddr 1), [.t 4]⟩ ::
 ⟨(some 30), (some (28, false)), .r .load1, [.t 29]⟩ ::
 ⟨(some 31), (some (28, false)), .p (.faddr 0), [.t 4]⟩ ::
 ⟨(some 32), (some (28, false)), .r .load1, [.t 31]⟩ ::
 ⟨(some 33), (some (28, false)), .p (.bin .gtr), [.t 30, .t 32]⟩ ::
 ⟨(some 34), none, .p .pick, [.t 28, .c (.bool true), .t 33]⟩ ::
 []))
(.cond (.t 34)
(.seq (.ops (⟨(some 2), none, .p .mov, [.c (.int .i64 2)]⟩ ::
 []))
.ret)
.skip))
(.seq (.seq (.dops (⟨(some 35), none, .p (.faddr 2), [.t 4]⟩ ::
 ⟨(some 36), none, .r .load1, [.t 35]⟩ ::
 ⟨(some 37), none, .p (.faddr 2), [.t 4]⟩ ::
 ⟨(some 38), none, .r .load1, [.t 37]⟩ ::
 ⟨(some 39), none, .p .lenS, [.t 38]⟩ ::
 ⟨(some 40), none, .a (.mkslice [(.int .i64 0)] 1 8), [.t 39, .t 39]⟩ ::
 ⟨(some 41), none, .call, [.c (.func (.func 62) [] []), .t 36, .t 40]⟩ ::
 ⟨(some 5), none, .p .mov, [.t 41]⟩ ::
 []) ([] :: [] :: [] :: [] :: [] :: [] :: [] :: [] :: []))
(.seq (.ops (⟨(some 42), none, .p .mov, [.t 5]⟩ ::
 ⟨(some 43), none, .p (.bin .neq), [.t 42, .c (.int .i64 0)]⟩ ::
 []))
(.cond (.t 43)
(.seq (.ops (⟨(some 44), none, .p .mov, [.t 5]⟩ ::
 ⟨(some 2), none, .p .mov, [.t 44]⟩ ::
 []))
.ret)
.skip)))
(.seq (.ops (⟨(some 45), none, .p (.faddr 2), [.t 4]⟩ ::
 ⟨(some 46), none, .r .load1, [.t 45]⟩ ::
 ⟨(some 47), none, .p (.mkfunc (.func 103) 0), [.t 4]⟩ ::
 ⟨(some 48), none, .call, [.c (.func (.func 63) [] []), .t 46, .t 47]⟩ ::
 []))
(.cond (.t 48)
(.seq (.ops (⟨(some 2), none, .p .mov, [.c (.int .i64 2)]⟩ ::
 []))
.ret)
.skip))))))
(.ops (⟨(some 49), none, .p (.bin .add), [.t 11, .c (.int .i64 1)]⟩ ::
 ⟨(some 11), none, .p .mov, [.t 49]⟩ ::
 [])))))
def C95 : AFunc := ⟨50, [.tmp 2],
(.seq (.ops (⟨(some 2), none, .p .mov, [.c (.int .i64 0)]⟩ ::
 []))
(.seq (.seq (.ops (⟨(some 6), none, .p .mov, [.t 0]⟩ ::
 ⟨(some 7), none, .p .lenS, [.t 6]⟩ ::
 ⟨(some 8), none, .p (.bin .gtr), [.t 7, .c (.int .i64 4)]⟩ ::
 []))
(.cond (.t 8)
(.seq (.ops (⟨(some 2), none, .p .mov, [.c (.int .i64 2)]⟩ ::
 []))
.ret)
.skip))
(.seq (.seq (.ops (⟨(some 9), none, .p .mov, [.t 0]⟩ ::
 ⟨(some 10), none, .p .lenS, [.t 9]⟩ ::
 ⟨(some 11), none, .p .mov, [.c (.int .i64 0)]⟩ ::
 []))
(.block 0 (.loop L_delay_Check_0)))
(.seq (.ops (⟨(some 2), none, .p .mov, [.c (.int .i64 0)]⟩ ::
 []))
.ret))))⟩
abbrev f_delay_Check : Nat := 95
abbrev C_delay_Check : AFunc := C95
def C96 : AFunc := ⟨6, [.tmp 4],
(.seq (.ops (⟨(some 2), none, .a .box, [.t 0]⟩ ::
 ⟨(some 3), none, .a .box, [.t 1]⟩ ::
 ⟨(some 4), none, .p .mov, [.c .nilf]⟩ ::
 []))
(.seq (.ops (⟨(some 5), none, .p (.mkfunc (.func 105) 0), [.t 2, .t 3]⟩ ::
 ⟨(some 4), none, .p .mov, [.t 5]⟩ ::
 []))
.ret))⟩
abbrev f_delay_seen_sharers : Nat := 96
abbrev C_delay_seen_sharers : AFunc := C96
def L_slices_Index_int_int_0 : AC := (.seq (.ops (⟨(some 9), none, .p (.bin .lss), [.t 8, .t 7]⟩ ::
 []))
(.seq (.cond (.t 9)
.skip
(.exit 0))
(.seq (.block 1 (.seq (.ops (⟨(some 10), none, .p .mov, [.t 8]⟩ ::
 ⟨(some 5), none, .p .mov, [.t 10]⟩ ::
 []))
(.seq (.ops (⟨(some 11), none, .p .mov, [.t 1]⟩ ::
 ⟨(some 12), none, .p .mov, [.t 0]⟩ ::
 ⟨(some 13), none, .p .mov, [.t 5]⟩ ::
 ⟨(some 14), none, .p (.iaddrS 1), [.t 12, .t 13]⟩ ::
 ⟨(some 15), none, .r .load1, [.t 14]⟩ ::
 ⟨(some 16), none, .p (.bin .eql), [.t 11, .t 15]⟩ ::
 []))
(.cond (.t 16)
(.seq (.ops (⟨(some 17), none, .p .mov, [.t 5]⟩ ::
 ⟨(some 4), none, .p .mov, [.t 17]⟩ ::
 []))
.ret)
.skip))))
(.ops (⟨(some 18), none, .p (.bin .add), [.t 8, .c (.int .i64 1)]⟩ ::
 ⟨(some 8), none, .p .mov, [.t 18]⟩ ::
 [])))))
def C97 : AFunc := ⟨19, [.tmp 4],
(.seq (.ops (⟨(some 4), none, .p .mov, [.c (.int .i64 0)]⟩ ::
 []))
(.seq (.seq (.ops (⟨(some 6), none, .p .mov, [.t 0]⟩ ::
 ⟨(some 7), none, .p .lenS, [.t 6]⟩ ::
 ⟨(some 8), none, .p .mov, [.c (.int .i64 0)]⟩ ::
 []))
(.block 0 (.loop L_slices_Index_int_int_0)))
(.seq (.ops (⟨(some 4), none, .p .mov, [.c (.int .i64 (-1))]⟩ ::
 []))
.ret)))⟩
abbrev f_slices_Index_int_int : Nat := 97
abbrev C_slices_Index_int_int : AFunc := C97
def C98 : AFunc := ⟨29, [.tmp 4, .tmp 5],
(.seq (.ops (⟨(some 4), none, .p .mov, [.c (.int .i64 0)]⟩ ::
 ⟨(some 5), none, .p .mov, [.c (.int .i64 0)]⟩ ::
 []))
(.seq (.seq (.ops (⟨(some 8), none, .p .mov, [.t 0]⟩ ::
 ⟨(some 9), none, .p .mov, [.t 1]⟩ ::
 ⟨(some 10), none, .a (.bslice [(.int .i64 0)] 2 1 [0, 1]), [.t 8, .t 9]⟩ ::
 ⟨(some 11), none, .call, [.c (.func (.func 82) [] []), .t 10]⟩ ::
 ⟨(some 12), none, .p .not, [.t 11]⟩ ::
 []))
(.cond (.t 12)
(.seq (.ops (⟨(some 4), none, .p .mov, [.c (.int .i64 0)]⟩ ::
 ⟨(some 5), none, .p .mov, [.c (.int .i64 2)]⟩ ::
 []))
.ret)
.skip))
(.seq (.ops (⟨(some 14), none, .p .mov, [.t 0]⟩ ::
 ⟨(some 15), none, .p (.conv .u64), [.t 14]⟩ ::
 ⟨(some 16), none, .p .mov, [.t 1]⟩ ::
 ⟨(some 17), none, .p (.conv .u64), [.t 16]⟩ ::
 ⟨(some 18), none, .call, [.c (.func (.func 107) [] []), .t 15, .t 17]⟩ ::
 ⟨(some 13), none, .p .mov, [.t 18]⟩ ::
 ⟨(some 19), none, .p (.ext 0), [.t 13]⟩ ::
 ⟨(some 20), none, .p (.ext 1), [.t 13]⟩ ::
 ⟨(some 6), none, .p .mov, [.t 19]⟩ ::
 ⟨(some 7), none, .p .mov, [.t 20]⟩ ::
 []))
(.seq (.seq (.ops (⟨(some 21), none, .p .mov, [.t 6]⟩ ::
 ⟨(some 22), none, .p (.bin .gtr), [.t 21, .c (.int .u64 0)]⟩ ::
 ⟨(some 23), none, .p .mov, [.t 22]⟩ ::
 ⟨(some 24), (some (23, false)), .p .mov, [.t 7]⟩ ::
 ⟨(some 25), (some (23, false)), .p (.bin .gtr), [.t 24, .c (.int .u64 1099511627776)]⟩ ::
 ⟨(some 26), none, .p .pick, [.t 23, .c (.bool true), .t 25]⟩ ::
 []))
(.cond (.t 26)
(.seq (.ops (⟨(some 4), none, .p .mov, [.c (.int .i64 0)]⟩ ::
 ⟨(some 5), none, .p .mov, [.c (.int .i64 10)]⟩ ::
 []))
.ret)
.skip))
(.seq (.ops (⟨(some 27), none, .p .mov, [.t 7]⟩ ::
 ⟨(some 28), none, .p (.conv .i64), [.t 27]⟩ ::
 ⟨(some 4), none, .p .mov, [.t 28]⟩ ::
 ⟨(some 5), none, .p .mov, [.c (.int .i64 0)]⟩ ::
 []))
.ret)))))⟩
abbrev f_ticks_Mul : Nat := 98
abbrev C_ticks_Mul : AFunc := C98
def L_slices_IndexFunc_int_int_0 : AC := (.seq (.ops (⟨(some 9), none, .p (.bin .lss), [.t 8, .t 7]⟩ ::
 []))
(.seq (.cond (.t 9)
.skip
(.exit 0))
(.seq (.block 1 (.seq (.ops (⟨(some 10), none, .p .mov, [.t 8]⟩ ::
 ⟨(some 5), none, .p .mov, [.t 10]⟩ ::
 []))
(.seq (.ops (⟨(some 11), none, .p .mov, [.t 1]⟩ ::
 ⟨(some 12), none, .p .mov, [.t 0]⟩ ::
 ⟨(some 13), none, .p .mov, [.t 5]⟩ ::
 ⟨(some 14), none, .p (.iaddrS 1), [.t 12, .t 13]⟩ ::
 ⟨(some 15), none, .r .load1, [.t 14]⟩ ::
 ⟨(some 16), none, .call, [.t 11, .t 15]⟩ ::
 []))
(.cond (.t 16)
(.seq (.ops (⟨(some 17), none, .p .mov, [.t 5]⟩ ::
 ⟨(some 4), none, .p .mov, [.t 17]⟩ ::
 []))
.ret)
.skip))))
(.ops (⟨(some 18), none, .p (.bin .add), [.t 8, .c (.int .i64 1)]⟩ ::
 ⟨(some 8), none, .p .mov, [.t 18]⟩ ::
 [])))))
def C99 : AFunc := ⟨19, [.tmp 4],
(.seq (.ops (⟨(some 4), none, .p .mov, [.c (.int .i64 0)]⟩ ::
 []))
(.seq (.seq (.ops (⟨(some 6), none, .p .mov, [.t 0]⟩ ::
 ⟨(some 7), none, .p .lenS, [.t 6]⟩ ::
 ⟨(some 8), none, .p .mov, [.c (.int .i64 0)]⟩ ::
 []))
(.block 0 (.loop L_slices_IndexFunc_int_int_0)))
(.seq (.ops (⟨(some 4), none, .p .mov, [.c (.int .i64 (-1))]⟩ ::
 []))
.ret)))⟩
abbrev f_slices_IndexFunc_int_int : Nat := 99
abbrev C_slices_IndexFunc_int_int : AFunc := C99
def C100 : AFunc := ⟨16, [.tmp 3],
(.seq (.ops (⟨(some 2), none, .a .box, [.t 0]⟩ ::
 ⟨(some 3), none, .p .mov, [.c (.int .i64 0)]⟩ ::
 []))
(.seq (.seq (.ops (⟨(some 4), none, .r .load1, [.t 1]⟩ ::
 ⟨(some 5), none, .p (.faddr 1), [.t 2]⟩ ::
 ⟨(some 6), none, .r .load1, [.t 5]⟩ ::
 ⟨(some 7), none, .p (.bin .lss), [.t 4, .t 6]⟩ ::
 []))
(.cond (.t 7)
(.seq (.ops (⟨(some 3), none, .p .mov, [.c (.int .i64 0)]⟩ ::
 []))
.ret)
.skip))
(.seq (.ops (⟨(some 8), none, .r .load1, [.t 1]⟩ ::
 ⟨(some 9), none, .p (.faddr 1), [.t 2]⟩ ::
 ⟨(some 10), none, .r .load1, [.t 9]⟩ ::
 ⟨(some 11), none, .p (.bin .sub), [.t 8, .t 10]⟩ ::
 ⟨(some 12), none, .p (.faddr 0), [.t 2]⟩ ::
 ⟨(some 13), none, .r .load1, [.t 12]⟩ ::
 ⟨(some 14), none, .p (.bin .quo), [.t 11, .t 13]⟩ ::
 ⟨(some 15), none, .p (.bin .add), [.c (.int .i64 1), .t 14]⟩ ::
 ⟨(some 3), none, .p .mov, [.t 15]⟩ ::
 []))
.ret)))⟩
abbrev f_demand_Of_1 : Nat := 100
abbrev C_demand_Of_1 : AFunc := C100
def C101 : AFunc := ⟨8, [.tmp 2],
(.seq (.ops (⟨(some 1), none, .a .box, [.t 0]⟩ ::
 ⟨(some 2), none, .p .mov, [.c (.int .i64 0)]⟩ ::
 []))
(.seq (.ops (⟨(some 3), none, .p (.faddr 0), [.t 1]⟩ ::
 ⟨(some 4), none, .r .load1, [.t 3]⟩ ::
 ⟨(some 5), none, .p (.faddr 1), [.t 1]⟩ ::
 ⟨(some 6), none, .r .load1, [.t 5]⟩ ::
 ⟨(some 7), none, .p (.bin .sub), [.t 4, .t 6]⟩ ::
 ⟨(some 2), none, .p .mov, [.t 7]⟩ ::
 []))
.ret))⟩
abbrev f_supply_pair_idle : Nat := 101
abbrev C_supply_pair_idle : AFunc := C101
def C102 : AFunc := ⟨14, [.tmp 4],
(.seq (.ops (⟨(some 4), none, .p .mov, [.c (.int .i64 0)]⟩ ::
 []))
(.seq (.ops (⟨(some 8), none, .p .mov, [.t 0]⟩ ::
 ⟨(some 9), none, .p .mov, [.t 1]⟩ ::
 ⟨(some 10), none, .call, [.c (.func (.func 108) [] []), .t 8, .t 9]⟩ ::
 ⟨(some 7), none, .p .mov, [.t 10]⟩ ::
 ⟨(some 11), none, .p (.ext 0), [.t 7]⟩ ::
 ⟨(some 12), none, .p (.ext 1), [.t 7]⟩ ::
 ⟨(some 5), none, .p .mov, [.t 11]⟩ ::
 ⟨(some 6), none, .p .mov, [.t 12]⟩ ::
 []))
(.seq (.ops (⟨(some 13), none, .p .mov, [.t 5]⟩ ::
 ⟨(some 4), none, .p .mov, [.t 13]⟩ ::
 []))
.ret)))⟩
abbrev f_supply_over : Nat := 102
abbrev C_supply_over : AFunc := C102
def C103 : AFunc := ⟨9, [.tmp 3],
(.seq (.ops (⟨(some 2), none, .a .box, [.t 0]⟩ ::
 ⟨(some 3), none, .p .mov, [.c (.bool false)]⟩ ::
 []))
(.seq (.ops (⟨(some 4), none, .r (.loadN 8), [.t 2]⟩ ::
 ⟨(some 5), none, .p (.faddr 1), [.t 1]⟩ ::
 ⟨(some 6), none, .r .load1, [.t 5]⟩ ::
 ⟨(some 7), none, .call, [.c (.func (.func 104) [] []), .t 4, .t 6]⟩ ::
 ⟨(some 8), none, .p .not, [.t 7]⟩ ::
 ⟨(some 3), none, .p .mov, [.t 8]⟩ ::
 []))
.ret))⟩
abbrev f_delay_Check_1 : Nat := 103
abbrev C_delay_Check_1 : AFunc := C103
def C104 : AFunc := ⟨56, [.tmp 4],
(.seq (.ops (⟨(some 2), none, .a .box, [.t 0]⟩ ::
 ⟨(some 4), none, .p .mov, [.c (.bool false)]⟩ ::
 []))
(.seq (.block 0 (.seq (.seq (.ops (⟨(some 6), none, .p (.faddr 4), [.t 2]⟩ ::
 ⟨(some 7), none, .r .load1, [.t 6]⟩ ::
 ⟨(some 8), none, .p (.bin .lss), [.t 7, .c (.int .i64 0)]⟩ ::
 ⟨(some 5), none, .p .mov, [.t 8]⟩ ::
 []))
(.cond (.t 5)
.skip
(.seq (.ops (⟨(some 9), none, .p (.faddr 4), [.t 2]⟩ ::
 ⟨(some 10), none, .r .load1, [.t 9]⟩ ::
 ⟨(some 11), none, .p (.faddr 2), [.t 2]⟩ ::
 ⟨(some 12), none, .r .load1, [.t 11]⟩ ::
 ⟨(some 13), none, .p (.bin .gtr), [.t 10, .t 12]⟩ ::
 ⟨(some 5), none, .p .mov, [.t 13]⟩ ::
 []))
(.cond (.t 5)
.skip
(.seq (.ops (⟨(some 14), none, .p (.faddr 5), [.t 2]⟩ ::
 ⟨(some 15), none, .r .load1, [.t 14]⟩ ::
 ⟨(some 16), none, .p (.bin .lss), [.t 15, .c (.int .i64 0)]⟩ ::
 ⟨(some 5), none, .p .mov, [.t 16]⟩ ::
 []))
(.cond (.t 5)
.skip
(.ops (⟨(some 17), none, .p (.faddr 5), [.t 2]⟩ ::
 ⟨(some 18), none, .r .load1, [.t 17]⟩ ::
 ⟨(some 19), none, .p (.bin .gtr), [.t 18, .c (.int .i64 4)]⟩ ::
 ⟨(some 5), none, .p .mov, [.t 19]⟩ ::
 []))))))))
(.cond (.t 5)
(.seq (.ops (⟨(some 4), none, .p .mov, [.c (.bool false)]⟩ ::
 []))
.ret)
(.seq (.ops (⟨(some 21), none, .p (.faddr 5), [.t 2]⟩ ::
 ⟨(some 22), none, .r .load1, [.t 21]⟩ ::
 ⟨(some 23), none, .p (.bin .eql), [.t 22, .c (.int .i64 0)]⟩ ::
 ⟨(some 20), none, .p .mov, [.t 23]⟩ ::
 []))
(.cond (.t 20)
(.seq (.ops (⟨(some 24), none, .p (.faddr 6), [.t 2]⟩ ::
 ⟨(some 25), none, .r .load1, [.t 24]⟩ ::
 ⟨(some 26), none, .p (.bin .eql), [.t 25, .c (.int .i64 0)]⟩ ::
 ⟨(some 27), none, .p .mov, [.t 26]⟩ ::
 ⟨(some 28), (some (27, true)), .p (.faddr 7), [.t 2]⟩ ::
 ⟨(some 29), (some (27, true)), .r .load1, [.t 28]⟩ ::
 ⟨(some 30), (some (27, true)), .p (.bin .eql), [.t 29, .c (.int .i64 0)]⟩ ::
 ⟨(some 31), none, .p .pick, [.t 27, .t 30, .c (.bool false)]⟩ ::
 ⟨(some 4), none, .p .mov, [.t 31]⟩ ::
 []))
.ret)
.skip)))))
(.seq (.dops (⟨(some 32), none, .p (.faddr 6), [.t 2]⟩ ::
 ⟨(some 33), none, .r .load1, [.t 32]⟩ ::
 ⟨(some 34), none, .p (.bin .leq), [.c (.int .i64 1), .t 33]⟩ ::
 ⟨(some 35), none, .p .mov, [.t 34]⟩ ::
 ⟨(some 36), (some (35, true)), .p (.faddr 6), [.t 2]⟩ ::
 ⟨(some 37), (some (35, true)), .r .load1, [.t 36]⟩ ::
 ⟨(some 38), (some (35, true)), .p .mov, [.t 1]⟩ ::
 ⟨(some 39), (some (35, true)), .p (.bin .leq), [.t 37, .t 38]⟩ ::
 ⟨(some 40), none, .p .pick, [.t 35, .t 39, .c (.bool false)]⟩ ::
 ⟨(some 41), none, .p .mov, [.t 40]⟩ ::
 ⟨(some 42), (some (41, true)), .p (.faddr 7), [.t 2]⟩ ::
 ⟨(some 43), (some (41, true)), .r .load1, [.t 42]⟩ ::
 ⟨(some 44), (some (41, true)), .p (.bin .leq), [.c (.int .i64 1), .t 43]⟩ ::
 ⟨(some 45), none, .p .pick, [.t 41, .t 44, .c (.bool false)]⟩ ::
 ⟨(some 46), none, .p .mov, [.t 45]⟩ ::
 ⟨(some 47), (some (46, true)), .p (.faddr 7), [.t 2]⟩ ::
 ⟨(some 48), (some (46, true)), .r .load1, [.t 47]⟩ ::
 ⟨(some 49), (some (46, true)), .p (.faddr 2), [.t 2]⟩ ::
 ⟨(some 50), (some (46, true)), .r .load1, [.t 49]⟩ ::
 ⟨(some 51), (some (46, true)), .p (.faddr 6), [.t 2]⟩ ::
 ⟨(some 52), (some (46, true)), .r .load1, [.t 51]⟩ ::
 ⟨(some 53), (some (46, true)), .p (.bin .quo), [.t 50, .t 52]⟩ ::
 ⟨(some 54), (some (46, true)), .p (.bin .leq), [.t 48, .t 53]⟩ ::
 ⟨(some 55), none, .p .pick, [.t 46, .t 54, .c (.bool false)]⟩ ::
 ⟨(some 4), none, .p .mov, [.t 55]⟩ ::
 []) ([] :: [] :: [] :: [] :: [] :: [] :: [] :: [] :: [] :: [] :: [] :: [] :: [] :: [] :: [] :: [] :: [] :: [] :: [] :: [] :: [] :: [] :: [] :: [] :: [] :: []))
.ret)))⟩
abbrev f_delay_may : Nat := 104
abbrev C_delay_may : AFunc := C104
def L_delay_seen_sharers_1_0 : AC := (.seq (.ops (⟨(some 11), none, .p (.bin .lss), [.t 10, .t 9]⟩ ::
 []))
(.seq (.cond (.t 11)
.skip
(.exit 0))
(.seq (.block 1 (.seq (.ops (⟨(some 12), none, .p .mov, [.t 10]⟩ ::
 ⟨(some 13), none, .p (.iaddrS 3), [.t 8, .t 10]⟩ ::
 ⟨(some 14), none, .r (.loadN 3), [.t 13]⟩ ::
 ⟨(some 5), none, .a (.alloc [(.int .i64 0), (.int .i64 0), .nils]), []⟩ ::
 ⟨(some 4), none, .p .mov, [.t 12]⟩ ::
 ⟨none, none, .e (.store 3), [.t 5, .t 14]⟩ ::
 []))
(.seq (.ops (⟨(some 15), none, .p (.faddr 2), [.t 5]⟩ ::
 ⟨(some 16), none, .r .load1, [.t 15]⟩ ::
 ⟨(some 17), none, .p (.mkfunc (.func 106) 0), [.t 2]⟩ ::
 ⟨(some 18), none, .call, [.c (.func (.func 63) [] []), .t 16, .t 17]⟩ ::
 ⟨(some 6), none, .p .mov, [.t 18]⟩ ::
 []))
(.seq (.ops (⟨(some 19), none, .p .mov, [.t 4]⟩ ::
 ⟨(some 20), none, .p (.faddr 4), [.t 1]⟩ ::
 ⟨(some 21), none, .r .load1, [.t 20]⟩ ::
 ⟨(some 22), none, .p (.bin .neq), [.t 19, .t 21]⟩ ::
 ⟨(some 23), none, .p .mov, [.t 22]⟩ ::
 ⟨(some 24), (some (23, true)), .p .mov, [.t 6]⟩ ::
 ⟨(some 25), none, .p .pick, [.t 23, .t 24, .c (.bool false)]⟩ ::
 ⟨(some 26), none, .p .mov, [.t 25]⟩ ::
 ⟨(some 27), (some (26, true)), .p .mov, [.t 0]⟩ ::
 ⟨(some 28), (some (26, true)), .r (.loadN 3), [.t 5]⟩ ::
 ⟨(some 29), (some (26, true)), .call, [.t 27, .t 28]⟩ ::
 ⟨(some 30), (some (26, true)), .p .not, [.t 29]⟩ ::
 ⟨(some 31), none, .p .pick, [.t 26, .t 30, .c (.bool false)]⟩ ::
 []))
(.cond (.t 31)
.ret
.skip)))))
(.ops (⟨(some 32), none, .p (.bin .add), [.t 10, .c (.int .i64 1)]⟩ ::
 ⟨(some 10), none, .p .mov, [.t 32]⟩ ::
 [])))))
def C105 : AFunc := ⟨33, [],
(.seq (.ops (⟨(some 7), none, .p (.faddr 3), [.t 1]⟩ ::
 ⟨(some 8), none, .r .load1, [.t 7]⟩ ::
 ⟨(some 9), none, .p .lenS, [.t 8]⟩ ::
 ⟨(some 10), none, .p .mov, [.c (.int .i64 0)]⟩ ::
 []))
(.block 0 (.loop L_delay_seen_sharers_1_0)))⟩
abbrev f_delay_seen_sharers_1 : Nat := 105
abbrev C_delay_seen_sharers_1 : AFunc := C105
def C106 : AFunc := ⟨8, [.tmp 3],
(.seq (.ops (⟨(some 2), none, .a .box, [.t 0]⟩ ::
 ⟨(some 3), none, .p .mov, [.c (.bool false)]⟩ ::
 []))
(.seq (.ops (⟨(some 4), none, .p (.faddr 5), [.t 2]⟩ ::
 ⟨(some 5), none, .r .load1, [.t 4]⟩ ::
 ⟨(some 6), none, .r .load1, [.t 1]⟩ ::
 ⟨(some 7), none, .p (.bin .eql), [.t 5, .t 6]⟩ ::
 ⟨(some 3), none, .p .mov, [.t 7]⟩ ::
 []))
.ret))⟩
abbrev f_delay_seen_sharers_1_1 : Nat := 106
abbrev C_delay_seen_sharers_1_1 : AFunc := C106
def C107 : AFunc := ⟨51, [.tmp 4, .tmp 5],
(.seq (.ops (⟨(some 4), none, .p .mov, [.c (.int .u64 0)]⟩ ::
 ⟨(some 5), none, .p .mov, [.c (.int .u64 0)]⟩ ::
 []))
(.seq (.ops (⟨(some 14), none, .p .mov, [.t 0]⟩ ::
 ⟨(some 15), none, .p (.bin .and), [.t 14, .c (.int .u64 4294967295)]⟩ ::
 ⟨(some 6), none, .p .mov, [.t 15]⟩ ::
 []))
(.seq (.ops (⟨(some 16), none, .p .mov, [.t 0]⟩ ::
 ⟨(some 17), none, .p (.bin .shr), [.t 16, .c (.int .u64 32)]⟩ ::
 ⟨(some 7), none, .p .mov, [.t 17]⟩ ::
 []))
(.seq (.ops (⟨(some 18), none, .p .mov, [.t 1]⟩ ::
 ⟨(some 19), none, .p (.bin .and), [.t 18, .c (.int .u64 4294967295)]⟩ ::
 ⟨(some 8), none, .p .mov, [.t 19]⟩ ::
 []))
(.seq (.ops (⟨(some 20), none, .p .mov, [.t 1]⟩ ::
 ⟨(some 21), none, .p (.bin .shr), [.t 20, .c (.int .u64 32)]⟩ ::
 ⟨(some 9), none, .p .mov, [.t 21]⟩ ::
 []))
(.seq (.ops (⟨(some 22), none, .p .mov, [.t 6]⟩ ::
 ⟨(some 23), none, .p .mov, [.t 8]⟩ ::
 ⟨(some 24), none, .p (.bin .mul), [.t 22, .t 23]⟩ ::
 ⟨(some 10), none, .p .mov, [.t 24]⟩ ::
 []))
(.seq (.ops (⟨(some 25), none, .p .mov, [.t 7]⟩ ::
 ⟨(some 26), none, .p .mov, [.t 8]⟩ ::
 ⟨(some 27), none, .p (.bin .mul), [.t 25, .t 26]⟩ ::
 ⟨(some 28), none, .p .mov, [.t 10]⟩ ::
 ⟨(some 29), none, .p (.bin .shr), [.t 28, .c (.int .u64 32)]⟩ ::
 ⟨(some 30), none, .p (.bin .add), [.t 27, .t 29]⟩ ::
 ⟨(some 11), none, .p .mov, [.t 30]⟩ ::
 []))
(.seq (.ops (⟨(some 31), none, .p .mov, [.t 11]⟩ ::
 ⟨(some 32), none, .p (.bin .and), [.t 31, .c (.int .u64 4294967295)]⟩ ::
 ⟨(some 12), none, .p .mov, [.t 32]⟩ ::
 []))
(.seq (.ops (⟨(some 33), none, .p .mov, [.t 11]⟩ ::
 ⟨(some 34), none, .p (.bin .shr), [.t 33, .c (.int .u64 32)]⟩ ::
 ⟨(some 13), none, .p .mov, [.t 34]⟩ ::
 []))
(.seq (.ops (⟨(some 35), none, .p .mov, [.t 12]⟩ ::
 ⟨(some 36), none, .p .mov, [.t 6]⟩ ::
 ⟨(some 37), none, .p .mov, [.t 9]⟩ ::
 ⟨(some 38), none, .p (.bin .mul), [.t 36, .t 37]⟩ ::
 ⟨(some 39), none, .p (.bin .add), [.t 35, .t 38]⟩ ::
 ⟨(some 12), none, .p .mov, [.t 39]⟩ ::
 []))
(.seq (.ops (⟨(some 40), none, .p .mov, [.t 7]⟩ ::
 ⟨(some 41), none, .p .mov, [.t 9]⟩ ::
 ⟨(some 42), none, .p (.bin .mul), [.t 40, .t 41]⟩ ::
 ⟨(some 43), none, .p .mov, [.t 13]⟩ ::
 ⟨(some 44), none, .p (.bin .add), [.t 42, .t 43]⟩ ::
 ⟨(some 45), none, .p .mov, [.t 12]⟩ ::
 ⟨(some 46), none, .p (.bin .shr), [.t 45, .c (.int .u64 32)]⟩ ::
 ⟨(some 47), none, .p (.bin .add), [.t 44, .t 46]⟩ ::
 ⟨(some 4), none, .p .mov, [.t 47]⟩ ::
 []))
(.seq (.ops (⟨(some 48), none, .p .mov, [.t 0]⟩ ::
 ⟨(some 49), none, .p .mov, [.t 1]⟩ ::
 ⟨(some 50), none, .p (.bin .mul), [.t 48, .t 49]⟩ ::
 ⟨(some 5), none, .p .mov, [.t 50]⟩ ::
 []))
.ret))))))))))))⟩
abbrev f_math_bits_Mul64 : Nat := 107
abbrev C_math_bits_Mul64 : AFunc := C107
def C108 : AFunc := ⟨18, [.tmp 4, .tmp 5],
(.seq (.ops (⟨(some 4), none, .p .mov, [.c (.int .i64 0)]⟩ ::
 ⟨(some 5), none, .p .mov, [.c (.int .i64 0)]⟩ ::
 []))
(.seq (.seq (.ops (⟨(some 6), none, .p .mov, [.t 0]⟩ ::
 ⟨(some 7), none, .p .mov, [.t 1]⟩ ::
 ⟨(some 8), none, .a (.bslice [(.int .i64 0)] 2 1 [0, 1]), [.t 6, .t 7]⟩ ::
 ⟨(some 9), none, .call, [.c (.func (.func 82) [] []), .t 8]⟩ ::
 ⟨(some 10), none, .p .not, [.t 9]⟩ ::
 ⟨(some 11), none, .p .mov, [.t 10]⟩ ::
 ⟨(some 12), (some (11, false)), .p .mov, [.t 1]⟩ ::
 ⟨(some 13), (some (11, false)), .p (.bin .eql), [.t 12, .c (.int .i64 0)]⟩ ::
 ⟨(some 14), none, .p .pick, [.t 11, .c (.bool true), .t 13]⟩ ::
 []))
(.cond (.t 14)
(.seq (.ops (⟨(some 4), none, .p .mov, [.c (.int .i64 0)]⟩ ::
 ⟨(some 5), none, .p .mov, [.c (.int .i64 2)]⟩ ::
 []))
.ret)
.skip))
(.seq (.ops (⟨(some 15), none, .p .mov, [.t 0]⟩ ::
 ⟨(some 16), none, .p .mov, [.t 1]⟩ ::
 ⟨(some 17), none, .p (.bin .quo), [.t 15, .t 16]⟩ ::
 ⟨(some 4), none, .p .mov, [.t 17]⟩ ::
 ⟨(some 5), none, .p .mov, [.c (.int .i64 0)]⟩ ::
 []))
.ret)))⟩
abbrev f_ticks_Div : Nat := 108
abbrev C_ticks_Div : AFunc := C108
def T : Tr AFunc := (.node (.node (.node (.node (.node (.node (.node .nil (some C63) .nil) (some C31) (.node .nil (some C95) .nil)) (some C15) (.node (.node .nil (some C79) .nil) (some C47) .nil)) (some C7) (.node (.node (.node .nil (some C71) .nil) (some C39) (.node .nil (some C103) .nil)) (some C23) (.node (.node .nil (some C87) .nil) (some C55) .nil))) (some C3) (.node (.node (.node (.node .nil (some C67) .nil) (some C35) (.node .nil (some C99) .nil)) (some C19) (.node (.node .nil (some C83) .nil) (some C51) .nil)) (some C11) (.node (.node (.node .nil (some C75) .nil) (some C43) (.node .nil (some C107) .nil)) (some C27) (.node (.node .nil (some C91) .nil) (some C59) .nil)))) none (.node (.node (.node (.node (.node .nil (some C65) .nil) (some C33) (.node .nil (some C97) .nil)) (some C17) (.node (.node .nil (some C81) .nil) (some C49) .nil)) (some C9) (.node (.node (.node .nil (some C73) .nil) (some C41) (.node .nil (some C105) .nil)) (some C25) (.node (.node .nil (some C89) .nil) (some C57) .nil))) (some C5) (.node (.node (.node (.node .nil (some C69) .nil) (some C37) (.node .nil (some C101) .nil)) (some C21) (.node (.node .nil (some C85) .nil) (some C53) .nil)) (some C13) (.node (.node (.node .nil (some C77) .nil) (some C45) .nil) (some C29) (.node (.node .nil (some C93) .nil) (some C61) .nil))))) none (.node (.node (.node (.node (.node (.node .nil (some C64) .nil) (some C32) (.node .nil (some C96) .nil)) (some C16) (.node (.node .nil (some C80) .nil) (some C48) .nil)) (some C8) (.node (.node (.node .nil (some C72) .nil) (some C40) (.node .nil (some C104) .nil)) (some C24) (.node (.node .nil (some C88) .nil) (some C56) .nil))) (some C4) (.node (.node (.node (.node .nil (some C68) .nil) (some C36) (.node .nil (some C100) .nil)) (some C20) (.node (.node .nil (some C84) .nil) (some C52) .nil)) (some C12) (.node (.node (.node .nil (some C76) .nil) (some C44) (.node .nil (some C108) .nil)) (some C28) (.node (.node .nil (some C92) .nil) (some C60) .nil)))) none (.node (.node (.node (.node (.node .nil (some C66) .nil) (some C34) (.node .nil (some C98) .nil)) (some C18) (.node (.node .nil (some C82) .nil) (some C50) .nil)) (some C10) (.node (.node (.node .nil (some C74) .nil) (some C42) (.node .nil (some C106) .nil)) (some C26) (.node (.node .nil (some C90) .nil) (some C58) .nil))) (some C6) (.node (.node (.node (.node .nil (some C70) .nil) (some C38) (.node .nil (some C102) .nil)) (some C22) (.node (.node .nil (some C86) .nil) (some C54) .nil)) (some C14) (.node (.node (.node .nil (some C78) .nil) (some C46) .nil) (some C30) (.node (.node .nil (some C94) .nil) (some C62) .nil))))))
def fs (f : Nat) : Option AFunc := Tr.get T f
def ms (t : Nat) (n : String) : Option Nat := none
end Ir
end Go.Proofs.Ytlndlbngfgaoeaa
