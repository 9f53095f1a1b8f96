/-
  What the program's functions are in Ads, printed by a program.
-/
import Derived.Test.YtenafeojcgmnhaaAdsDef
set_option linter.unusedVariables false
set_option maxRecDepth 100000
namespace Go.Proofs.Ytenafeojcgmnhaa
open Go Ads
namespace Ir
def L_escapementlaw02_RankOrder_0 : AC := (.seq (.seq (.ops (⟨(some 24), none, .p .mov, [.t 7]⟩ ::
 ⟨(some 25), none, .p .mov, [.t 0]⟩ ::
 ⟨(some 26), none, .p .lenS, [.t 25]⟩ ::
 ⟨(some 27), none, .p (.bin .lss), [.t 24, .t 26]⟩ ::
 ⟨(some 28), none, .p .mov, [.t 27]⟩ ::
 ⟨(some 29), (some (28, true)), .p .mov, [.t 7]⟩ ::
 ⟨(some 30), (some (28, true)), .p (.bin .lss), [.t 29, .c (.int .i64 200)]⟩ ::
 ⟨(some 31), none, .p .pick, [.t 28, .t 30, .c (.bool false)]⟩ ::
 []))
(.cond (.t 31)
.skip
(.exit 0)))
(.seq (.block 1 (.seq (.ops (⟨(some 34), none, .p .mov, [.t 0]⟩ ::
 ⟨(some 35), none, .p .mov, [.t 7]⟩ ::
 ⟨(some 36), none, .p (.iaddrS 3), [.t 34, .t 35]⟩ ::
 ⟨(some 37), none, .p (.faddr 1), [.t 36]⟩ ::
 ⟨(some 38), none, .r .load1, [.t 37]⟩ ::
 ⟨(some 39), none, .call, [.c (.func (.func 13) [] []), .t 38, .c (.int .i64 64)]⟩ ::
 ⟨(some 8), none, .p .mov, [.t 39]⟩ ::
 []))
(.seq (.ops (⟨(some 40), none, .p .mov, [.t 0]⟩ ::
 ⟨(some 41), none, .p .mov, [.t 7]⟩ ::
 ⟨(some 42), none, .p (.iaddrS 3), [.t 40, .t 41]⟩ ::
 ⟨(some 43), none, .p (.faddr 0), [.t 42]⟩ ::
 ⟨(some 44), none, .r .load1, [.t 43]⟩ ::
 ⟨(some 45), none, .call, [.c (.func (.func 13) [] []), .t 44, .c (.int .i64 3)]⟩ ::
 []))
(.block 2 (.seq (.ops (⟨(some 61), none, .p (.bin .eql), [.t 45, .c (.int .i64 0)]⟩ ::
 ⟨(some 60), none, .p .mov, [.t 61]⟩ ::
 []))
(.cond (.t 60)
(.seq (.ops (⟨(some 62), none, .p .mov, [.t 3]⟩ ::
 ⟨(some 63), none, .p .mov, [.t 8]⟩ ::
 ⟨(some 64), none, .p .mov, [.t 0]⟩ ::
 ⟨(some 65), none, .p .mov, [.t 7]⟩ ::
 ⟨(some 66), none, .p (.iaddrS 3), [.t 64, .t 65]⟩ ::
 ⟨(some 67), none, .p (.faddr 2), [.t 66]⟩ ::
 ⟨(some 68), none, .r .load1, [.t 67]⟩ ::
 ⟨(some 69), none, .call, [.c (.func (.func 14) [] []), .t 62, .t 63, .t 68]⟩ ::
 ⟨(some 9), none, .p .mov, [.t 69]⟩ ::
 []))
(.seq (.seq (.ops (⟨(some 70), none, .p .mov, [.t 9]⟩ ::
 ⟨(some 71), none, .p (.bin .eql), [.t 70, .c (.int .i64 0)]⟩ ::
 ⟨(some 72), none, .p .mov, [.t 8]⟩ ::
 ⟨(some 73), none, .p (.iaddrA 1 64), [.t 4, .t 72]⟩ ::
 ⟨(some 74), none, .r .load1, [.t 73]⟩ ::
 ⟨(some 75), none, .p (.eq .bool), [.t 71, .t 74]⟩ ::
 []))
(.cond (.t 75)
(.seq (.ops (⟨(some 2), none, .p .mov, [.c (.bool false)]⟩ ::
 []))
.ret)
.skip))
(.seq (.ops (⟨(some 76), none, .p .mov, [.t 8]⟩ ::
 ⟨(some 77), none, .p (.iaddrA 1 64), [.t 4, .t 76]⟩ ::
 ⟨(some 78), none, .r .load1, [.t 77]⟩ ::
 ⟨(some 79), none, .p .not, [.t 78]⟩ ::
 []))
(.cond (.t 79)
(.seq (.ops (⟨(some 80), none, .p .mov, [.t 8]⟩ ::
 ⟨(some 81), none, .p (.iaddrA 1 64), [.t 4, .t 80]⟩ ::
 ⟨none, none, .e (.store 1), [.t 81, .c (.bool true)]⟩ ::
 []))
(.seq (.ops (⟨(some 82), none, .p .mov, [.t 8]⟩ ::
 ⟨(some 83), none, .p .mov, [.t 0]⟩ ::
 ⟨(some 84), none, .p .mov, [.t 7]⟩ ::
 ⟨(some 85), none, .p (.iaddrS 3), [.t 83, .t 84]⟩ ::
 ⟨(some 86), none, .p (.faddr 2), [.t 85]⟩ ::
 ⟨(some 87), none, .r .load1, [.t 86]⟩ ::
 ⟨(some 88), none, .p (.iaddrA 1 64), [.t 5, .t 82]⟩ ::
 ⟨none, none, .e (.store 1), [.t 88, .t 87]⟩ ::
 []))
(.ops (⟨(some 89), none, .p .mov, [.t 6]⟩ ::
 ⟨(some 90), none, .p (.bin .add), [.t 89, .c (.int .i64 1)]⟩ ::
 ⟨(some 6), none, .p .mov, [.t 90]⟩ ::
 []))))
.skip))))
(.seq (.ops (⟨(some 92), none, .p (.bin .eql), [.t 45, .c (.int .i64 1)]⟩ ::
 ⟨(some 91), none, .p .mov, [.t 92]⟩ ::
 []))
(.cond (.t 91)
(.seq (.ops (⟨(some 93), none, .p .mov, [.t 3]⟩ ::
 ⟨(some 94), none, .p .mov, [.t 8]⟩ ::
 ⟨(some 95), none, .p .mov, [.t 0]⟩ ::
 ⟨(some 96), none, .p .mov, [.t 7]⟩ ::
 ⟨(some 97), none, .p (.iaddrS 3), [.t 95, .t 96]⟩ ::
 ⟨(some 98), none, .p (.faddr 2), [.t 97]⟩ ::
 ⟨(some 99), none, .r .load1, [.t 98]⟩ ::
 ⟨(some 100), none, .call, [.c (.func (.func 15) [] []), .t 93, .t 94, .t 99]⟩ ::
 ⟨(some 10), none, .p .mov, [.t 100]⟩ ::
 []))
(.seq (.dops (⟨(some 101), none, .p .mov, [.t 8]⟩ ::
 ⟨(some 102), none, .p (.iaddrA 1 64), [.t 4, .t 101]⟩ ::
 ⟨(some 103), none, .r .load1, [.t 102]⟩ ::
 ⟨(some 104), none, .p .mov, [.t 103]⟩ ::
 ⟨(some 105), (some (104, true)), .p .mov, [.t 0]⟩ ::
 ⟨(some 106), (some (104, true)), .p .mov, [.t 7]⟩ ::
 ⟨(some 107), (some (104, true)), .p (.iaddrS 3), [.t 105, .t 106]⟩ ::
 ⟨(some 108), (some (104, true)), .p (.faddr 2), [.t 107]⟩ ::
 ⟨(some 109), (some (104, true)), .r .load1, [.t 108]⟩ ::
 ⟨(some 110), (some (104, true)), .p .mov, [.t 8]⟩ ::
 ⟨(some 111), (some (104, true)), .p (.iaddrA 1 64), [.t 5, .t 110]⟩ ::
 ⟨(some 112), (some (104, true)), .r .load1, [.t 111]⟩ ::
 ⟨(some 113), (some (104, true)), .p (.bin .leq), [.t 109, .t 112]⟩ ::
 ⟨(some 114), none, .p .pick, [.t 104, .t 113, .c (.bool false)]⟩ ::
 ⟨(some 11), none, .p .mov, [.t 114]⟩ ::
 []) ([] :: [] :: [] :: [] :: [] :: [] :: [] :: [] :: [] :: [] :: [] :: [] :: [] :: [] :: [] :: []))
(.seq (.seq (.ops (⟨(some 115), none, .p .mov, [.t 10]⟩ ::
 ⟨(some 116), none, .p (.bin .eql), [.t 115, .c (.int .i64 0)]⟩ ::
 ⟨(some 117), none, .p .mov, [.t 11]⟩ ::
 ⟨(some 118), none, .p (.neq .bool), [.t 116, .t 117]⟩ ::
 []))
(.cond (.t 118)
(.seq (.ops (⟨(some 2), none, .p .mov, [.c (.bool false)]⟩ ::
 []))
.ret)
.skip))
(.seq (.ops (⟨(some 119), none, .p .mov, [.t 11]⟩ ::
 []))
(.cond (.t 119)
(.ops (⟨(some 120), none, .p .mov, [.t 8]⟩ ::
 ⟨(some 121), none, .p .mov, [.t 0]⟩ ::
 ⟨(some 122), none, .p .mov, [.t 7]⟩ ::
 ⟨(some 123), none, .p (.iaddrS 3), [.t 121, .t 122]⟩ ::
 ⟨(some 124), none, .p (.faddr 2), [.t 123]⟩ ::
 ⟨(some 125), none, .r .load1, [.t 124]⟩ ::
 ⟨(some 126), none, .p (.iaddrA 1 64), [.t 5, .t 120]⟩ ::
 ⟨none, none, .e (.store 1), [.t 126, .t 125]⟩ ::
 []))
.skip)))))
(.seq (.seq (.dops (⟨(some 46), none, .p .mov, [.t 3]⟩ ::
 ⟨(some 47), none, .p .mov, [.t 8]⟩ ::
 ⟨(some 48), none, .call, [.c (.func (.func 16) [] []), .t 46, .t 47]⟩ ::
 ⟨(some 49), none, .p .mov, [.t 8]⟩ ::
 ⟨(some 50), none, .p (.iaddrA 1 64), [.t 4, .t 49]⟩ ::
 ⟨(some 51), none, .r .load1, [.t 50]⟩ ::
 ⟨(some 52), none, .p (.neq .bool), [.t 48, .t 51]⟩ ::
 []) ([] :: [] :: [] :: [] :: [] :: [0, 3] :: [] :: []))
(.cond (.t 52)
(.seq (.ops (⟨(some 2), none, .p .mov, [.c (.bool false)]⟩ ::
 []))
.ret)
.skip))
(.seq (.ops (⟨(some 53), none, .p .mov, [.t 8]⟩ ::
 ⟨(some 54), none, .p (.iaddrA 1 64), [.t 4, .t 53]⟩ ::
 ⟨(some 55), none, .r .load1, [.t 54]⟩ ::
 []))
(.cond (.t 55)
(.seq (.ops (⟨(some 56), none, .p .mov, [.t 8]⟩ ::
 ⟨(some 57), none, .p (.iaddrA 1 64), [.t 4, .t 56]⟩ ::
 ⟨none, none, .e (.store 1), [.t 57, .c (.bool false)]⟩ ::
 []))
(.ops (⟨(some 58), none, .p .mov, [.t 6]⟩ ::
 ⟨(some 59), none, .p (.bin .sub), [.t 58, .c (.int .i64 1)]⟩ ::
 ⟨(some 6), none, .p .mov, [.t 59]⟩ ::
 [])))
.skip)))))))))))
(.ops (⟨(some 32), none, .p .mov, [.t 7]⟩ ::
 ⟨(some 33), none, .p (.bin .add), [.t 32, .c (.int .i64 1)]⟩ ::
 ⟨(some 7), none, .p .mov, [.t 33]⟩ ::
 []))))
def L_escapementlaw02_RankOrder_1 : AC := (.seq (.seq (.ops (⟨(some 131), none, .p .mov, [.t 14]⟩ ::
 ⟨(some 132), none, .p .mov, [.t 6]⟩ ::
 ⟨(some 133), none, .p (.bin .lss), [.t 131, .t 132]⟩ ::
 []))
(.cond (.t 133)
.skip
(.exit 3)))
(.seq (.block 4 (.seq (.ops (⟨(some 137), none, .p .mov, [.t 3]⟩ ::
 ⟨(some 138), none, .call, [.c (.func (.func 18) [] []), .t 137]⟩ ::
 ⟨(some 136), none, .p .mov, [.t 138]⟩ ::
 ⟨(some 139), none, .p (.ext 0), [.t 136]⟩ ::
 ⟨(some 140), none, .p (.ext 1), [.t 136]⟩ ::
 ⟨(some 141), none, .p (.ext 2), [.t 136]⟩ ::
 ⟨(some 15), none, .p .mov, [.t 139]⟩ ::
 ⟨(some 16), none, .p .mov, [.t 140]⟩ ::
 ⟨(some 17), none, .p .mov, [.t 141]⟩ ::
 []))
(.seq (.seq (.ops (⟨(some 142), none, .p .mov, [.t 17]⟩ ::
 ⟨(some 143), none, .p .not, [.t 142]⟩ ::
 ⟨(some 144), none, .p .mov, [.t 143]⟩ ::
 ⟨(some 145), (some (144, false)), .p .mov, [.t 15]⟩ ::
 ⟨(some 146), (some (144, false)), .p (.bin .lss), [.t 145, .c (.int .i64 0)]⟩ ::
 ⟨(some 147), none, .p .pick, [.t 144, .c (.bool true), .t 146]⟩ ::
 ⟨(some 148), none, .p .mov, [.t 147]⟩ ::
 ⟨(some 149), (some (148, false)), .p .mov, [.t 15]⟩ ::
 ⟨(some 150), (some (148, false)), .p (.bin .gtr), [.t 149, .c (.int .i64 63)]⟩ ::
 ⟨(some 151), none, .p .pick, [.t 148, .c (.bool true), .t 150]⟩ ::
 ⟨(some 152), none, .p .mov, [.t 151]⟩ ::
 ⟨(some 153), (some (152, false)), .p .mov, [.t 15]⟩ ::
 ⟨(some 154), (some (152, false)), .p (.iaddrA 1 64), [.t 4, .t 153]⟩ ::
 ⟨(some 155), (some (152, false)), .r .load1, [.t 154]⟩ ::
 ⟨(some 156), (some (152, false)), .p .not, [.t 155]⟩ ::
 ⟨(some 157), none, .p .pick, [.t 152, .c (.bool true), .t 156]⟩ ::
 ⟨(some 158), none, .p .mov, [.t 157]⟩ ::
 ⟨(some 159), (some (158, false)), .p .mov, [.t 15]⟩ ::
 ⟨(some 160), (some (158, false)), .p (.iaddrA 1 64), [.t 5, .t 159]⟩ ::
 ⟨(some 161), (some (158, false)), .r .load1, [.t 160]⟩ ::
 ⟨(some 162), (some (158, false)), .p .mov, [.t 16]⟩ ::
 ⟨(some 163), (some (158, false)), .p (.bin .neq), [.t 161, .t 162]⟩ ::
 ⟨(some 164), none, .p .pick, [.t 158, .c (.bool true), .t 163]⟩ ::
 ⟨(some 165), none, .p .mov, [.t 164]⟩ ::
 ⟨(some 166), (some (165, false)), .p .mov, [.t 14]⟩ ::
 ⟨(some 167), (some (165, false)), .p (.bin .gtr), [.t 166, .c (.int .i64 0)]⟩ ::
 ⟨(some 168), (some (165, false)), .p .mov, [.t 167]⟩ ::
 ⟨(some 169), (some (168, true)), .p .mov, [.t 16]⟩ ::
 ⟨(some 170), (some (168, true)), .p .mov, [.t 12]⟩ ::
 ⟨(some 171), (some (168, true)), .p (.bin .lss), [.t 169, .t 170]⟩ ::
 ⟨(some 172), (some (168, true)), .p .mov, [.t 171]⟩ ::
 ⟨(some 173), (some (172, false)), .p .mov, [.t 16]⟩ ::
 ⟨(some 174), (some (172, false)), .p .mov, [.t 12]⟩ ::
 ⟨(some 175), (some (172, false)), .p (.bin .eql), [.t 173, .t 174]⟩ ::
 ⟨(some 176), (some (172, false)), .p .mov, [.t 175]⟩ ::
 ⟨(some 177), (some (176, true)), .p .mov, [.t 15]⟩ ::
 ⟨(some 178), (some (176, true)), .p .mov, [.t 13]⟩ ::
 ⟨(some 179), (some (176, true)), .p (.bin .lss), [.t 177, .t 178]⟩ ::
 ⟨(some 180), (some (172, false)), .p .pick, [.t 176, .t 179, .c (.bool false)]⟩ ::
 ⟨(some 181), (some (168, true)), .p .pick, [.t 172, .c (.bool true), .t 180]⟩ ::
 ⟨(some 182), (some (165, false)), .p .pick, [.t 168, .t 181, .c (.bool false)]⟩ ::
 ⟨(some 183), none, .p .pick, [.t 165, .c (.bool true), .t 182]⟩ ::
 []))
(.cond (.t 183)
(.seq (.ops (⟨(some 2), none, .p .mov, [.c (.bool false)]⟩ ::
 []))
.ret)
.skip))
(.seq (.ops (⟨(some 184), none, .p .mov, [.t 15]⟩ ::
 ⟨(some 185), none, .p (.iaddrA 1 64), [.t 4, .t 184]⟩ ::
 ⟨none, none, .e (.store 1), [.t 185, .c (.bool false)]⟩ ::
 []))
(.ops (⟨(some 186), none, .p .mov, [.t 16]⟩ ::
 ⟨(some 187), none, .p .mov, [.t 15]⟩ ::
 ⟨(some 12), none, .p .mov, [.t 186]⟩ ::
 ⟨(some 13), none, .p .mov, [.t 187]⟩ ::
 []))))))
(.ops (⟨(some 134), none, .p .mov, [.t 14]⟩ ::
 ⟨(some 135), none, .p (.bin .add), [.t 134, .c (.int .i64 1)]⟩ ::
 ⟨(some 14), none, .p .mov, [.t 135]⟩ ::
 []))))
def C3 : AFunc := ⟨201, [.tmp 2],
(.seq (.ops (⟨(some 2), none, .p .mov, [.c (.bool false)]⟩ ::
 []))
(.seq (.seq (.ops (⟨(some 21), none, .call, [.c (.func (.func 11) [] [])]⟩ ::
 ⟨(some 22), none, .p .not, [.t 21]⟩ ::
 []))
(.cond (.t 22)
(.seq (.ops (⟨(some 2), none, .p .mov, [.c (.bool false)]⟩ ::
 []))
.ret)
.skip))
(.seq (.ops (⟨(some 23), none, .call, [.c (.func (.func 12) [] [])]⟩ ::
 ⟨(some 3), none, .p .mov, [.t 23]⟩ ::
 []))
(.seq (.ops (⟨(some 4), none, .a (.alloc [(.bool false), (.bool false), (.bool false), (.bool false), (.bool false), (.bool false), (.bool false), (.bool false), (.bool false), (.bool false), (.bool false), (.bool false), (.bool false), (.bool false), (.bool false), (.bool false), (.bool false), (.bool false), (.bool false), (.bool false), (.bool false), (.bool false), (.bool false), (.bool false), (.bool false), (.bool false), (.bool false), (.bool false), (.bool false), (.bool false), (.bool false), (.bool false), (.bool false), (.bool false), (.bool false), (.bool false), (.bool false), (.bool false), (.bool false), (.bool false), (.bool false), (.bool false), (.bool false), (.bool false), (.bool false), (.bool false), (.bool false), (.bool false), (.bool false), (.bool false), (.bool false), (.bool false), (.bool false), (.bool false), (.bool false), (.bool false), (.bool false), (.bool false), (.bool false), (.bool false), (.bool false), (.bool false), (.bool false), (.bool false)]), []⟩ ::
 []))
(.seq (.ops (⟨(some 5), none, .a (.alloc [(.int .i64 0), (.int .i64 0), (.int .i64 0), (.int .i64 0), (.int .i64 0), (.int .i64 0), (.int .i64 0), (.int .i64 0), (.int .i64 0), (.int .i64 0), (.int .i64 0), (.int .i64 0), (.int .i64 0), (.int .i64 0), (.int .i64 0), (.int .i64 0), (.int .i64 0), (.int .i64 0), (.int .i64 0), (.int .i64 0), (.int .i64 0), (.int .i64 0), (.int .i64 0), (.int .i64 0), (.int .i64 0), (.int .i64 0), (.int .i64 0), (.int .i64 0), (.int .i64 0), (.int .i64 0), (.int .i64 0), (.int .i64 0), (.int .i64 0), (.int .i64 0), (.int .i64 0), (.int .i64 0), (.int .i64 0), (.int .i64 0), (.int .i64 0), (.int .i64 0), (.int .i64 0), (.int .i64 0), (.int .i64 0), (.int .i64 0), (.int .i64 0), (.int .i64 0), (.int .i64 0), (.int .i64 0), (.int .i64 0), (.int .i64 0), (.int .i64 0), (.int .i64 0), (.int .i64 0), (.int .i64 0), (.int .i64 0), (.int .i64 0), (.int .i64 0), (.int .i64 0), (.int .i64 0), (.int .i64 0), (.int .i64 0), (.int .i64 0), (.int .i64 0), (.int .i64 0)]), []⟩ ::
 []))
(.seq (.ops (⟨(some 6), none, .p .mov, [.c (.int .i64 0)]⟩ ::
 []))
(.seq (.seq (.ops (⟨(some 7), none, .p .mov, [.c (.int .i64 0)]⟩ ::
 []))
(.block 0 (.loop L_escapementlaw02_RankOrder_0)))
(.seq (.seq (.ops (⟨(some 127), none, .p .mov, [.t 3]⟩ ::
 ⟨(some 128), none, .call, [.c (.func (.func 17) [] []), .t 127]⟩ ::
 ⟨(some 129), none, .p .mov, [.t 6]⟩ ::
 ⟨(some 130), none, .p (.bin .neq), [.t 128, .t 129]⟩ ::
 []))
(.cond (.t 130)
(.seq (.ops (⟨(some 2), none, .p .mov, [.c (.bool false)]⟩ ::
 []))
.ret)
.skip))
(.seq (.ops (⟨(some 12), none, .p .mov, [.c (.int .i64 0)]⟩ ::
 ⟨(some 13), none, .p .mov, [.c (.int .i64 0)]⟩ ::
 []))
(.seq (.seq (.ops (⟨(some 14), none, .p .mov, [.c (.int .i64 0)]⟩ ::
 []))
(.block 3 (.loop L_escapementlaw02_RankOrder_1)))
(.seq (.ops (⟨(some 189), none, .p .mov, [.t 3]⟩ ::
 ⟨(some 190), none, .call, [.c (.func (.func 18) [] []), .t 189]⟩ ::
 ⟨(some 188), none, .p .mov, [.t 190]⟩ ::
 ⟨(some 191), none, .p (.ext 0), [.t 188]⟩ ::
 ⟨(some 192), none, .p (.ext 1), [.t 188]⟩ ::
 ⟨(some 193), none, .p (.ext 2), [.t 188]⟩ ::
 ⟨(some 18), none, .p .mov, [.t 191]⟩ ::
 ⟨(some 19), none, .p .mov, [.t 192]⟩ ::
 ⟨(some 20), none, .p .mov, [.t 193]⟩ ::
 []))
(.seq (.ops (⟨(some 194), none, .p .mov, [.t 20]⟩ ::
 ⟨(some 195), none, .p .not, [.t 194]⟩ ::
 ⟨(some 196), none, .p .mov, [.t 195]⟩ ::
 ⟨(some 197), (some (196, true)), .p .mov, [.t 3]⟩ ::
 ⟨(some 198), (some (196, true)), .call, [.c (.func (.func 17) [] []), .t 197]⟩ ::
 ⟨(some 199), (some (196, true)), .p (.bin .eql), [.t 198, .c (.int .i64 0)]⟩ ::
 ⟨(some 200), none, .p .pick, [.t 196, .t 199, .c (.bool false)]⟩ ::
 ⟨(some 2), none, .p .mov, [.t 200]⟩ ::
 []))
.ret))))))))))))⟩
abbrev f_escapementlaw02_RankOrder : Nat := 3
abbrev C_escapementlaw02_RankOrder : AFunc := C3
def L_escapementlaw02_RankMixed_0 : AC := (.seq (.seq (.ops (⟨(some 17), none, .p .mov, [.t 8]⟩ ::
 ⟨(some 18), none, .p .mov, [.t 7]⟩ ::
 ⟨(some 19), none, .p (.bin .lss), [.t 17, .t 18]⟩ ::
 []))
(.cond (.t 19)
.skip
(.exit 0)))
(.seq (.block 1 (.seq (.ops (⟨(some 22), none, .p .mov, [.t 5]⟩ ::
 ⟨(some 23), none, .p .mov, [.t 8]⟩ ::
 ⟨(some 24), none, .p .mov, [.t 0]⟩ ::
 ⟨(some 25), none, .p .mov, [.t 8]⟩ ::
 ⟨(some 26), none, .p (.iaddrS 1), [.t 24, .t 25]⟩ ::
 ⟨(some 27), none, .r .load1, [.t 26]⟩ ::
 ⟨(some 28), none, .call, [.c (.func (.func 14) [] []), .t 22, .t 23, .t 27]⟩ ::
 ⟨(some 29), none, .p (.bin .neq), [.t 28, .c (.int .i64 0)]⟩ ::
 []))
(.cond (.t 29)
(.seq (.ops (⟨(some 4), none, .p .mov, [.c (.bool false)]⟩ ::
 []))
.ret)
.skip)))
(.ops (⟨(some 20), none, .p .mov, [.t 8]⟩ ::
 ⟨(some 21), none, .p (.bin .add), [.t 20, .c (.int .i64 1)]⟩ ::
 ⟨(some 8), none, .p .mov, [.t 21]⟩ ::
 []))))
def L_escapementlaw02_RankMixed_1 : AC := (.seq (.seq (.ops (⟨(some 30), none, .p .mov, [.t 9]⟩ ::
 ⟨(some 31), none, .p .mov, [.t 7]⟩ ::
 ⟨(some 32), none, .p (.bin .lss), [.t 30, .t 31]⟩ ::
 []))
(.cond (.t 32)
.skip
(.exit 2)))
(.seq (.block 3 (.seq (.ops (⟨(some 35), none, .p .mov, [.t 9]⟩ ::
 ⟨(some 36), none, .p .mov, [.t 1]⟩ ::
 ⟨(some 37), none, .p .mov, [.t 7]⟩ ::
 ⟨(some 38), none, .call, [.c (.func (.func 13) [] []), .t 36, .t 37]⟩ ::
 ⟨(some 39), none, .p (.bin .add), [.t 35, .t 38]⟩ ::
 ⟨(some 40), none, .p .mov, [.t 7]⟩ ::
 ⟨(some 41), none, .p (.bin .rem), [.t 39, .t 40]⟩ ::
 ⟨(some 10), none, .p .mov, [.t 41]⟩ ::
 []))
(.seq (.ops (⟨(some 42), none, .p .mov, [.t 6]⟩ ::
 ⟨(some 43), none, .p .mov, [.t 10]⟩ ::
 ⟨(some 44), none, .p .mov, [.t 0]⟩ ::
 ⟨(some 45), none, .p .mov, [.t 10]⟩ ::
 ⟨(some 46), none, .p (.iaddrS 1), [.t 44, .t 45]⟩ ::
 ⟨(some 47), none, .r .load1, [.t 46]⟩ ::
 ⟨(some 48), none, .p .mx, [.t 47, .c (.int .i64 1099511627776)]⟩ ::
 ⟨(some 49), none, .call, [.c (.func (.func 14) [] []), .t 42, .t 43, .t 48]⟩ ::
 ⟨(some 50), none, .p (.bin .neq), [.t 49, .c (.int .i64 0)]⟩ ::
 ⟨(some 51), none, .p .mov, [.t 50]⟩ ::
 ⟨(some 52), (some (51, false)), .p .mov, [.t 6]⟩ ::
 ⟨(some 53), (some (51, false)), .p .mov, [.t 10]⟩ ::
 ⟨(some 54), (some (51, false)), .p .mov, [.t 0]⟩ ::
 ⟨(some 55), (some (51, false)), .p .mov, [.t 10]⟩ ::
 ⟨(some 56), (some (51, false)), .p (.iaddrS 1), [.t 54, .t 55]⟩ ::
 ⟨(some 57), (some (51, false)), .r .load1, [.t 56]⟩ ::
 ⟨(some 58), (some (51, false)), .call, [.c (.func (.func 15) [] []), .t 52, .t 53, .t 57]⟩ ::
 ⟨(some 59), (some (51, false)), .p (.bin .neq), [.t 58, .c (.int .i64 0)]⟩ ::
 ⟨(some 60), none, .p .pick, [.t 51, .c (.bool true), .t 59]⟩ ::
 ⟨(some 61), none, .p .mov, [.t 60]⟩ ::
 ⟨(some 62), (some (61, false)), .p .mov, [.t 9]⟩ ::
 ⟨(some 63), (some (61, false)), .p (.bin .rem), [.t 62, .c (.int .i64 3)]⟩ ::
 ⟨(some 64), (some (61, false)), .p (.bin .eql), [.t 63, .c (.int .i64 0)]⟩ ::
 ⟨(some 65), (some (61, false)), .p .mov, [.t 64]⟩ ::
 ⟨(some 66), (some (65, true)), .p .mov, [.t 6]⟩ ::
 ⟨(some 67), (some (65, true)), .p .mov, [.t 10]⟩ ::
 ⟨(some 68), (some (65, true)), .call, [.c (.func (.func 16) [] []), .t 66, .t 67]⟩ ::
 ⟨(some 69), (some (65, true)), .p .not, [.t 68]⟩ ::
 ⟨(some 70), (some (65, true)), .p .mov, [.t 69]⟩ ::
 ⟨(some 71), (some (70, false)), .p .mov, [.t 6]⟩ ::
 ⟨(some 72), (some (70, false)), .p .mov, [.t 10]⟩ ::
 ⟨(some 73), (some (70, false)), .p .mov, [.t 0]⟩ ::
 ⟨(some 74), (some (70, false)), .p .mov, [.t 10]⟩ ::
 ⟨(some 75), (some (70, false)), .p (.iaddrS 1), [.t 73, .t 74]⟩ ::
 ⟨(some 76), (some (70, false)), .r .load1, [.t 75]⟩ ::
 ⟨(some 77), (some (70, false)), .call, [.c (.func (.func 14) [] []), .t 71, .t 72, .t 76]⟩ ::
 ⟨(some 78), (some (70, false)), .p (.bin .neq), [.t 77, .c (.int .i64 0)]⟩ ::
 ⟨(some 79), (some (65, true)), .p .pick, [.t 70, .c (.bool true), .t 78]⟩ ::
 ⟨(some 80), (some (61, false)), .p .pick, [.t 65, .t 79, .c (.bool false)]⟩ ::
 ⟨(some 81), none, .p .pick, [.t 61, .c (.bool true), .t 80]⟩ ::
 []))
(.cond (.t 81)
(.seq (.ops (⟨(some 4), none, .p .mov, [.c (.bool false)]⟩ ::
 []))
.ret)
.skip))))
(.ops (⟨(some 33), none, .p .mov, [.t 9]⟩ ::
 ⟨(some 34), none, .p (.bin .add), [.t 33, .c (.int .i64 1)]⟩ ::
 ⟨(some 9), none, .p .mov, [.t 34]⟩ ::
 []))))
def C4 : AFunc := ⟨97, [.tmp 4],
(.seq (.ops (⟨(some 4), none, .p .mov, [.c (.bool false)]⟩ ::
 []))
(.seq (.ops (⟨(some 12), none, .call, [.c (.func (.func 12) [] [])]⟩ ::
 ⟨(some 13), none, .call, [.c (.func (.func 12) [] [])]⟩ ::
 ⟨(some 5), none, .p .mov, [.t 12]⟩ ::
 ⟨(some 6), none, .p .mov, [.t 13]⟩ ::
 []))
(.seq (.ops (⟨(some 14), none, .p .mov, [.t 0]⟩ ::
 ⟨(some 15), none, .p .lenS, [.t 14]⟩ ::
 ⟨(some 16), none, .p .mn, [.t 15, .c (.int .i64 64)]⟩ ::
 ⟨(some 7), none, .p .mov, [.t 16]⟩ ::
 []))
(.seq (.seq (.ops (⟨(some 8), none, .p .mov, [.c (.int .i64 0)]⟩ ::
 []))
(.block 0 (.loop L_escapementlaw02_RankMixed_0)))
(.seq (.seq (.ops (⟨(some 9), none, .p .mov, [.c (.int .i64 0)]⟩ ::
 []))
(.block 2 (.loop L_escapementlaw02_RankMixed_1)))
(.seq (.ops (⟨(some 82), none, .p .mov, [.t 5]⟩ ::
 ⟨(some 83), none, .call, [.c (.func (.func 19) [] []), .t 82]⟩ ::
 ⟨(some 11), none, .p .mov, [.t 83]⟩ ::
 []))
(.seq (.ops (⟨(some 84), none, .p .mov, [.t 11]⟩ ::
 ⟨(some 85), none, .p .mov, [.t 6]⟩ ::
 ⟨(some 86), none, .call, [.c (.func (.func 19) [] []), .t 85]⟩ ::
 ⟨(some 87), none, .call, [.c (.func (.func 20) [] []), .t 84, .t 86]⟩ ::
 ⟨(some 88), none, .p .mov, [.t 87]⟩ ::
 ⟨(some 89), (some (88, true)), .p .mov, [.t 11]⟩ ::
 ⟨(some 90), (some (88, true)), .p .lenS, [.t 89]⟩ ::
 ⟨(some 91), (some (88, true)), .p .mov, [.t 7]⟩ ::
 ⟨(some 92), (some (88, true)), .p (.bin .eql), [.t 90, .t 91]⟩ ::
 ⟨(some 93), none, .p .pick, [.t 88, .t 92, .c (.bool false)]⟩ ::
 ⟨(some 94), none, .p .mov, [.t 93]⟩ ::
 ⟨(some 95), (some (94, true)), .call, [.c (.func (.func 11) [] [])]⟩ ::
 ⟨(some 96), none, .p .pick, [.t 94, .t 95, .c (.bool false)]⟩ ::
 ⟨(some 4), none, .p .mov, [.t 96]⟩ ::
 []))
.ret)))))))⟩
abbrev f_escapementlaw02_RankMixed : Nat := 4
abbrev C_escapementlaw02_RankMixed : AFunc := C4
def L_escapementlaw02_RankPlays_0 : AC := (.seq (.seq (.ops (⟨(some 10), none, .p .mov, [.t 5]⟩ ::
 ⟨(some 11), none, .p .mov, [.t 0]⟩ ::
 ⟨(some 12), none, .p .lenS, [.t 11]⟩ ::
 ⟨(some 13), none, .p (.bin .lss), [.t 10, .t 12]⟩ ::
 ⟨(some 14), none, .p .mov, [.t 13]⟩ ::
 ⟨(some 15), (some (14, true)), .p .mov, [.t 5]⟩ ::
 ⟨(some 16), (some (14, true)), .p (.bin .lss), [.t 15, .c (.int .i64 300)]⟩ ::
 ⟨(some 17), none, .p .pick, [.t 14, .t 16, .c (.bool false)]⟩ ::
 []))
(.cond (.t 17)
.skip
(.exit 0)))
(.seq (.block 1 (.seq (.ops (⟨(some 20), none, .p .mov, [.t 3]⟩ ::
 ⟨(some 21), none, .p .mov, [.t 4]⟩ ::
 ⟨(some 22), none, .p .mov, [.t 0]⟩ ::
 ⟨(some 23), none, .p .mov, [.t 5]⟩ ::
 ⟨(some 24), none, .p (.iaddrS 3), [.t 22, .t 23]⟩ ::
 ⟨(some 25), none, .r (.loadN 3), [.t 24]⟩ ::
 ⟨(some 26), none, .call, [.c (.func (.func 22) [] []), .t 20, .t 21, .t 25]⟩ ::
 ⟨(some 27), none, .p .not, [.t 26]⟩ ::
 ⟨(some 28), none, .p .mov, [.t 27]⟩ ::
 ⟨(some 29), (some (28, false)), .p .mov, [.t 3]⟩ ::
 ⟨(some 30), (some (28, false)), .p .mov, [.t 4]⟩ ::
 ⟨(some 31), (some (28, false)), .p .mov, [.t 0]⟩ ::
 ⟨(some 32), (some (28, false)), .p .mov, [.t 5]⟩ ::
 ⟨(some 33), (some (28, false)), .p (.iaddrS 3), [.t 31, .t 32]⟩ ::
 ⟨(some 34), (some (28, false)), .p (.faddr 1), [.t 33]⟩ ::
 ⟨(some 35), (some (28, false)), .r .load1, [.t 34]⟩ ::
 ⟨(some 36), (some (28, false)), .call, [.c (.func (.func 23) [] []), .t 29, .t 30, .t 35]⟩ ::
 ⟨(some 37), (some (28, false)), .p .not, [.t 36]⟩ ::
 ⟨(some 38), none, .p .pick, [.t 28, .c (.bool true), .t 37]⟩ ::
 []))
(.cond (.t 38)
(.seq (.ops (⟨(some 2), none, .p .mov, [.c (.bool false)]⟩ ::
 []))
.ret)
.skip)))
(.ops (⟨(some 18), none, .p .mov, [.t 5]⟩ ::
 ⟨(some 19), none, .p (.bin .add), [.t 18, .c (.int .i64 1)]⟩ ::
 ⟨(some 5), none, .p .mov, [.t 19]⟩ ::
 []))))
def L_escapementlaw02_RankPlays_1 : AC := (.seq (.seq (.ops (⟨(some 46), none, .p .mov, [.t 7]⟩ ::
 ⟨(some 47), none, .p .mov, [.t 6]⟩ ::
 ⟨(some 48), none, .p .lenS, [.t 47]⟩ ::
 ⟨(some 49), none, .p (.bin .lss), [.t 46, .t 48]⟩ ::
 []))
(.cond (.t 49)
.skip
(.exit 2)))
(.seq (.block 3 (.ops (⟨(some 52), none, .p .mov, [.t 6]⟩ ::
 ⟨(some 53), none, .p .mov, [.t 7]⟩ ::
 ⟨(some 54), none, .p (.iaddrS 1), [.t 52, .t 53]⟩ ::
 ⟨none, none, .e (.store 1), [.t 54, .c (.int .i64 (-1))]⟩ ::
 [])))
(.ops (⟨(some 50), none, .p .mov, [.t 7]⟩ ::
 ⟨(some 51), none, .p (.bin .add), [.t 50, .c (.int .i64 1)]⟩ ::
 ⟨(some 7), none, .p .mov, [.t 51]⟩ ::
 []))))
def C5 : AFunc := ⟨63, [.tmp 2],
(.seq (.ops (⟨(some 2), none, .p .mov, [.c (.bool false)]⟩ ::
 []))
(.seq (.ops (⟨(some 8), none, .call, [.c (.func (.func 12) [] [])]⟩ ::
 ⟨(some 9), none, .call, [.c (.func (.func 21) [] [])]⟩ ::
 ⟨(some 3), none, .p .mov, [.t 8]⟩ ::
 ⟨(some 4), none, .p .mov, [.t 9]⟩ ::
 []))
(.seq (.seq (.ops (⟨(some 5), none, .p .mov, [.c (.int .i64 0)]⟩ ::
 []))
(.block 0 (.loop L_escapementlaw02_RankPlays_0)))
(.seq (.ops (⟨(some 39), none, .p .mov, [.t 3]⟩ ::
 ⟨(some 40), none, .call, [.c (.func (.func 19) [] []), .t 39]⟩ ::
 ⟨(some 6), none, .p .mov, [.t 40]⟩ ::
 []))
(.seq (.seq (.ops (⟨(some 41), none, .p .mov, [.t 6]⟩ ::
 ⟨(some 42), none, .p .mov, [.t 4]⟩ ::
 ⟨(some 43), none, .call, [.c (.func (.func 24) [] []), .t 42]⟩ ::
 ⟨(some 44), none, .call, [.c (.func (.func 20) [] []), .t 41, .t 43]⟩ ::
 ⟨(some 45), none, .p .not, [.t 44]⟩ ::
 []))
(.cond (.t 45)
(.seq (.ops (⟨(some 2), none, .p .mov, [.c (.bool false)]⟩ ::
 []))
.ret)
.skip))
(.seq (.seq (.ops (⟨(some 7), none, .p .mov, [.c (.int .i64 0)]⟩ ::
 []))
(.block 2 (.loop L_escapementlaw02_RankPlays_1)))
(.seq (.ops (⟨(some 55), none, .p .mov, [.t 3]⟩ ::
 ⟨(some 56), none, .call, [.c (.func (.func 19) [] []), .t 55]⟩ ::
 ⟨(some 57), none, .p .mov, [.t 4]⟩ ::
 ⟨(some 58), none, .call, [.c (.func (.func 24) [] []), .t 57]⟩ ::
 ⟨(some 59), none, .call, [.c (.func (.func 20) [] []), .t 56, .t 58]⟩ ::
 ⟨(some 60), none, .p .mov, [.t 59]⟩ ::
 ⟨(some 61), (some (60, true)), .call, [.c (.func (.func 11) [] [])]⟩ ::
 ⟨(some 62), none, .p .pick, [.t 60, .t 61, .c (.bool false)]⟩ ::
 ⟨(some 2), none, .p .mov, [.t 62]⟩ ::
 []))
.ret)))))))⟩
abbrev f_escapementlaw02_RankPlays : Nat := 5
abbrev C_escapementlaw02_RankPlays : AFunc := C5
def L_escapementlaw02_RankKnown_0 : AC := (.seq (.seq (.ops (⟨(some 14), none, .p .mov, [.t 2]⟩ ::
 ⟨(some 15), none, .p (.bin .lss), [.t 14, .c (.int .i64 2)]⟩ ::
 []))
(.cond (.t 15)
.skip
(.exit 0)))
(.seq (.block 1 (.seq (.ops (⟨(some 19), none, .p .mov, [.t 1]⟩ ::
 ⟨(some 20), none, .call, [.c (.func (.func 25) [] []), .t 19]⟩ ::
 ⟨(some 18), none, .p .mov, [.t 20]⟩ ::
 ⟨(some 21), none, .p (.ext 0), [.t 18]⟩ ::
 ⟨(some 22), none, .p (.ext 1), [.t 18]⟩ ::
 ⟨(some 23), none, .p (.ext 2), [.t 18]⟩ ::
 ⟨(some 3), none, .p .mov, [.t 21]⟩ ::
 ⟨(some 4), none, .p .mov, [.t 22]⟩ ::
 ⟨(some 5), none, .p .mov, [.t 23]⟩ ::
 []))
(.seq (.ops (⟨(some 25), none, .p .mov, [.t 1]⟩ ::
 ⟨(some 26), none, .call, [.c (.func (.func 18) [] []), .t 25]⟩ ::
 ⟨(some 24), none, .p .mov, [.t 26]⟩ ::
 ⟨(some 27), none, .p (.ext 0), [.t 24]⟩ ::
 ⟨(some 28), none, .p (.ext 1), [.t 24]⟩ ::
 ⟨(some 29), none, .p (.ext 2), [.t 24]⟩ ::
 ⟨(some 6), none, .p .mov, [.t 27]⟩ ::
 ⟨(some 7), none, .p .mov, [.t 28]⟩ ::
 ⟨(some 8), none, .p .mov, [.t 29]⟩ ::
 []))
(.seq (.ops (⟨(some 31), none, .p .mov, [.t 1]⟩ ::
 ⟨(some 32), none, .call, [.c (.func (.func 26) [] []), .t 31, .c (.int .i64 0)]⟩ ::
 ⟨(some 30), none, .p .mov, [.t 32]⟩ ::
 ⟨(some 33), none, .p (.ext 0), [.t 30]⟩ ::
 ⟨(some 34), none, .p (.ext 1), [.t 30]⟩ ::
 ⟨(some 9), none, .p .mov, [.t 33]⟩ ::
 ⟨(some 10), none, .p .mov, [.t 34]⟩ ::
 []))
(.seq (.seq (.ops (⟨(some 35), none, .p .mov, [.t 1]⟩ ::
 ⟨(some 36), none, .call, [.c (.func (.func 14) [] []), .t 35, .c (.int .i64 (-1)), .c (.int .i64 0)]⟩ ::
 ⟨(some 37), none, .p (.bin .neq), [.t 36, .c (.int .i64 1)]⟩ ::
 ⟨(some 38), none, .p .mov, [.t 37]⟩ ::
 ⟨(some 39), (some (38, false)), .p .mov, [.t 1]⟩ ::
 ⟨(some 40), (some (38, false)), .call, [.c (.func (.func 15) [] []), .t 39, .c (.int .i64 64), .c (.int .i64 0)]⟩ ::
 ⟨(some 41), (some (38, false)), .p (.bin .neq), [.t 40, .c (.int .i64 1)]⟩ ::
 ⟨(some 42), none, .p .pick, [.t 38, .c (.bool true), .t 41]⟩ ::
 ⟨(some 43), none, .p .mov, [.t 42]⟩ ::
 ⟨(some 44), (some (43, false)), .p .mov, [.t 1]⟩ ::
 ⟨(some 45), (some (43, false)), .call, [.c (.func (.func 16) [] []), .t 44, .c (.int .i64 0)]⟩ ::
 ⟨(some 46), none, .p .pick, [.t 43, .c (.bool true), .t 45]⟩ ::
 ⟨(some 47), none, .p .mov, [.t 46]⟩ ::
 ⟨(some 48), (some (47, false)), .p .mov, [.t 5]⟩ ::
 ⟨(some 49), none, .p .pick, [.t 47, .c (.bool true), .t 48]⟩ ::
 ⟨(some 50), none, .p .mov, [.t 49]⟩ ::
 ⟨(some 51), (some (50, false)), .p .mov, [.t 8]⟩ ::
 ⟨(some 52), none, .p .pick, [.t 50, .c (.bool true), .t 51]⟩ ::
 ⟨(some 53), none, .p .mov, [.t 52]⟩ ::
 ⟨(some 54), (some (53, false)), .p .mov, [.t 10]⟩ ::
 ⟨(some 55), none, .p .pick, [.t 53, .c (.bool true), .t 54]⟩ ::
 ⟨(some 56), none, .p .mov, [.t 55]⟩ ::
 ⟨(some 57), (some (56, false)), .p .mov, [.t 1]⟩ ::
 ⟨(some 58), (some (56, false)), .call, [.c (.func (.func 17) [] []), .t 57]⟩ ::
 ⟨(some 59), (some (56, false)), .p (.bin .neq), [.t 58, .c (.int .i64 0)]⟩ ::
 ⟨(some 60), none, .p .pick, [.t 56, .c (.bool true), .t 59]⟩ ::
 ⟨(some 61), none, .p .mov, [.t 60]⟩ ::
 ⟨(some 62), (some (61, false)), .p .mov, [.t 1]⟩ ::
 ⟨(some 63), (some (61, false)), .call, [.c (.func (.func 19) [] []), .t 62]⟩ ::
 ⟨(some 64), (some (61, false)), .p .lenS, [.t 63]⟩ ::
 ⟨(some 65), (some (61, false)), .p (.bin .neq), [.t 64, .c (.int .i64 0)]⟩ ::
 ⟨(some 66), none, .p .pick, [.t 61, .c (.bool true), .t 65]⟩ ::
 []))
(.cond (.t 66)
(.seq (.ops (⟨(some 0), none, .p .mov, [.c (.bool false)]⟩ ::
 []))
.ret)
.skip))
(.ops (⟨(some 67), none, .p (.build [.nilp] []), []⟩ ::
 ⟨(some 68), none, .a .box, [.t 67]⟩ ::
 ⟨(some 1), none, .p .mov, [.t 68]⟩ ::
 [])))))))
(.ops (⟨(some 16), none, .p .mov, [.t 2]⟩ ::
 ⟨(some 17), none, .p (.bin .add), [.t 16, .c (.int .i64 1)]⟩ ::
 ⟨(some 2), none, .p .mov, [.t 17]⟩ ::
 []))))
def L_escapementlaw02_RankKnown_1 : AC := (.seq (.seq (.ops (⟨(some 69), none, .p .mov, [.t 12]⟩ ::
 ⟨(some 70), none, .p (.bin .lss), [.t 69, .c (.int .i64 70)]⟩ ::
 []))
(.cond (.t 70)
.skip
(.exit 2)))
(.seq (.block 3 (.ops (⟨(some 73), none, .p .mov, [.t 11]⟩ ::
 ⟨(some 74), none, .p .mov, [.t 12]⟩ ::
 ⟨(some 75), none, .p (.bin .mul), [.t 74, .c (.int .i64 37)]⟩ ::
 ⟨(some 76), none, .p (.bin .rem), [.t 75, .c (.int .i64 66)]⟩ ::
 ⟨(some 77), none, .p (.bin .sub), [.t 76, .c (.int .i64 1)]⟩ ::
 ⟨(some 78), none, .p .mov, [.t 12]⟩ ::
 ⟨(some 79), none, .p (.bin .rem), [.t 78, .c (.int .i64 5)]⟩ ::
 ⟨(some 80), none, .p (.build [(.int .i64 0), (.int .i64 0), (.int .i64 0)] [(1, 1), (2, 1)]), [.t 77, .t 79]⟩ ::
 ⟨(some 81), none, .p .mov, [.t 12]⟩ ::
 ⟨(some 82), none, .p .mov, [.t 12]⟩ ::
 ⟨(some 83), none, .p .neg, [.t 82]⟩ ::
 ⟨(some 84), none, .p (.build [(.int .i64 0), (.int .i64 0), (.int .i64 0)] [(0, 1), (1, 1), (2, 1)]), [.c (.int .i64 1), .t 81, .t 83]⟩ ::
 ⟨(some 85), none, .a (.bslice [(.int .i64 0), (.int .i64 0), (.int .i64 0)] 2 3 [0, 1]), [.t 80, .t 84]⟩ ::
 ⟨(some 86), none, .e (.append 3 24), [.t 73, .t 85]⟩ ::
 ⟨(some 11), none, .p .mov, [.t 86]⟩ ::
 [])))
(.ops (⟨(some 71), none, .p .mov, [.t 12]⟩ ::
 ⟨(some 72), none, .p (.bin .add), [.t 71, .c (.int .i64 1)]⟩ ::
 ⟨(some 12), none, .p .mov, [.t 72]⟩ ::
 []))))
def L_escapementlaw02_RankKnown_2 : AC := (.seq (.seq (.ops (⟨(some 99), none, .p .mov, [.t 13]⟩ ::
 ⟨(some 100), none, .p (.bin .lss), [.t 99, .c (.int .i64 70)]⟩ ::
 []))
(.cond (.t 100)
.skip
(.exit 4)))
(.seq (.block 5 (.ops (⟨(some 103), none, .p .mov, [.t 11]⟩ ::
 ⟨(some 104), none, .p (.build [(.int .i64 0), (.int .i64 0), (.int .i64 0)] [(0, 1)]), [.c (.int .i64 3)]⟩ ::
 ⟨(some 105), none, .a (.bslice [(.int .i64 0), (.int .i64 0), (.int .i64 0)] 1 3 [0]), [.t 104]⟩ ::
 ⟨(some 106), none, .e (.append 3 24), [.t 103, .t 105]⟩ ::
 ⟨(some 11), none, .p .mov, [.t 106]⟩ ::
 [])))
(.ops (⟨(some 101), none, .p .mov, [.t 13]⟩ ::
 ⟨(some 102), none, .p (.bin .add), [.t 101, .c (.int .i64 1)]⟩ ::
 ⟨(some 13), none, .p .mov, [.t 102]⟩ ::
 []))))
def C6 : AFunc := ⟨122, [.tmp 0],
(.seq (.ops (⟨(some 0), none, .p .mov, [.c (.bool false)]⟩ ::
 []))
(.seq (.ops (⟨(some 1), none, .p .mov, [.c .nilp]⟩ ::
 []))
(.seq (.seq (.ops (⟨(some 2), none, .p .mov, [.c (.int .i64 0)]⟩ ::
 []))
(.block 0 (.loop L_escapementlaw02_RankKnown_0)))
(.seq (.ops (⟨(some 11), none, .p .mov, [.c .nils]⟩ ::
 []))
(.seq (.seq (.ops (⟨(some 12), none, .p .mov, [.c (.int .i64 0)]⟩ ::
 []))
(.block 2 (.loop L_escapementlaw02_RankKnown_1)))
(.seq (.ops (⟨(some 87), none, .p .mov, [.t 11]⟩ ::
 ⟨(some 88), none, .p (.build [(.int .i64 0), (.int .i64 0), (.int .i64 0)] [(1, 1)]), [.c (.int .i64 64)]⟩ ::
 ⟨(some 89), none, .p (.build [(.int .i64 0), (.int .i64 0), (.int .i64 0)] [(1, 1)]), [.c (.int .i64 (-1))]⟩ ::
 ⟨(some 90), none, .p (.build [(.int .i64 0), (.int .i64 0), (.int .i64 0)] [(0, 1), (1, 1)]), [.c (.int .i64 1), .c (.int .i64 64)]⟩ ::
 ⟨(some 91), none, .p (.build [(.int .i64 0), (.int .i64 0), (.int .i64 0)] [(0, 1), (1, 1)]), [.c (.int .i64 1), .c (.int .i64 (-1))]⟩ ::
 ⟨(some 92), none, .p (.build [(.int .i64 0), (.int .i64 0), (.int .i64 0)] [(0, 1), (1, 1)]), [.c (.int .i64 2), .c (.int .i64 70)]⟩ ::
 ⟨(some 93), none, .p (.build [(.int .i64 0), (.int .i64 0), (.int .i64 0)] [(0, 1), (1, 1)]), [.c (.int .i64 2), .c (.int .i64 5)]⟩ ::
 ⟨(some 94), none, .p (.build [(.int .i64 0), (.int .i64 0), (.int .i64 0)] [(0, 1), (1, 1)]), [.c (.int .i64 1), .c (.int .i64 5)]⟩ ::
 ⟨(some 95), none, .p (.build [(.int .i64 0), (.int .i64 0), (.int .i64 0)] [(1, 1), (2, 1)]), [.c (.int .i64 5), .c (.int .i64 (-9223372036854775808))]⟩ ::
 ⟨(some 96), none, .p (.build [(.int .i64 0), (.int .i64 0), (.int .i64 0)] [(0, 1), (1, 1), (2, 1)]), [.c (.int .i64 1), .c (.int .i64 6), .c (.int .i64 9223372036854775807)]⟩ ::
 ⟨(some 97), none, .a (.bslice [(.int .i64 0), (.int .i64 0), (.int .i64 0)] 9 3 [0, 1, 2, 3, 4, 5, 6, 7, 8]), [.t 88, .t 89, .t 90, .t 91, .t 92, .t 93, .t 94, .t 95, .t 96]⟩ ::
 ⟨(some 98), none, .e (.append 3 24), [.t 87, .t 97]⟩ ::
 ⟨(some 11), none, .p .mov, [.t 98]⟩ ::
 []))
(.seq (.seq (.ops (⟨(some 13), none, .p .mov, [.c (.int .i64 0)]⟩ ::
 []))
(.block 4 (.loop L_escapementlaw02_RankKnown_2)))
(.seq (.ops (⟨(some 107), none, .p .mov, [.c (.bool true)]⟩ ::
 ⟨(some 108), (some (107, true)), .call, [.c (.func (.func 11) [] [])]⟩ ::
 ⟨(some 109), none, .p .pick, [.t 107, .t 108, .c (.bool false)]⟩ ::
 ⟨(some 110), none, .p .mov, [.t 109]⟩ ::
 ⟨(some 111), (some (110, true)), .p .mov, [.t 11]⟩ ::
 ⟨(some 112), (some (110, true)), .call, [.c (.func (.func 5) [] []), .t 111]⟩ ::
 ⟨(some 113), none, .p .pick, [.t 110, .t 112, .c (.bool false)]⟩ ::
 ⟨(some 114), none, .p .mov, [.t 113]⟩ ::
 ⟨(some 115), (some (114, true)), .call, [.c (.func (.func 5) [] []), .c .nils]⟩ ::
 ⟨(some 116), none, .p .pick, [.t 114, .t 115, .c (.bool false)]⟩ ::
 ⟨(some 117), none, .p .mov, [.t 116]⟩ ::
 ⟨(some 118), (some (117, true)), .p .mov, [.t 11]⟩ ::
 ⟨(some 119), (some (117, true)), .p (.slice 3 false true false), [.t 118, .c (.int .i64 140)]⟩ ::
 ⟨(some 120), (some (117, true)), .call, [.c (.func (.func 3) [] []), .t 119]⟩ ::
 ⟨(some 121), none, .p .pick, [.t 117, .t 120, .c (.bool false)]⟩ ::
 ⟨(some 0), none, .p .mov, [.t 121]⟩ ::
 []))
.ret))))))))⟩
abbrev f_escapementlaw02_RankKnown : Nat := 6
abbrev C_escapementlaw02_RankKnown : AFunc := C6
def C11 : AFunc := ⟨84, [.tmp 0],
(.seq (.ops (⟨(some 0), none, .p .mov, [.c (.bool false)]⟩ ::
 []))
(.seq (.ops (⟨(some 5), none, .call, [.c (.func (.func 12) [] [])]⟩ ::
 ⟨(some 1), none, .p .mov, [.t 5]⟩ ::
 []))
(.seq (.seq (.ops (⟨(some 6), none, .p .mov, [.t 1]⟩ ::
 ⟨(some 7), none, .call, [.c (.func (.func 14) [] []), .t 6, .c (.int .i64 5), .c (.int .i64 9)]⟩ ::
 ⟨(some 8), none, .p (.bin .neq), [.t 7, .c (.int .i64 0)]⟩ ::
 ⟨(some 9), none, .p .mov, [.t 8]⟩ ::
 ⟨(some 10), (some (9, false)), .p .mov, [.t 1]⟩ ::
 ⟨(some 11), (some (9, false)), .call, [.c (.func (.func 14) [] []), .t 10, .c (.int .i64 3), .c (.int .i64 9)]⟩ ::
 ⟨(some 12), (some (9, false)), .p (.bin .neq), [.t 11, .c (.int .i64 0)]⟩ ::
 ⟨(some 13), none, .p .pick, [.t 9, .c (.bool true), .t 12]⟩ ::
 ⟨(some 14), none, .p .mov, [.t 13]⟩ ::
 ⟨(some 15), (some (14, false)), .p .mov, [.t 1]⟩ ::
 ⟨(some 16), (some (14, false)), .call, [.c (.func (.func 14) [] []), .t 15, .c (.int .i64 7), .c (.int .i64 4)]⟩ ::
 ⟨(some 17), (some (14, false)), .p (.bin .neq), [.t 16, .c (.int .i64 0)]⟩ ::
 ⟨(some 18), none, .p .pick, [.t 14, .c (.bool true), .t 17]⟩ ::
 ⟨(some 19), none, .p .mov, [.t 18]⟩ ::
 ⟨(some 20), (some (19, false)), .p .mov, [.t 1]⟩ ::
 ⟨(some 21), (some (19, false)), .call, [.c (.func (.func 19) [] []), .t 20]⟩ ::
 ⟨(some 22), (some (19, false)), .a (.bslice [(.int .i64 0)] 3 1 [0, 1, 2]), [.c (.int .i64 7), .c (.int .i64 3), .c (.int .i64 5)]⟩ ::
 ⟨(some 23), (some (19, false)), .call, [.c (.func (.func 20) [] []), .t 21, .t 22]⟩ ::
 ⟨(some 24), (some (19, false)), .p .not, [.t 23]⟩ ::
 ⟨(some 25), none, .p .pick, [.t 19, .c (.bool true), .t 24]⟩ ::
 []))
(.cond (.t 25)
(.seq (.ops (⟨(some 0), none, .p .mov, [.c (.bool false)]⟩ ::
 []))
.ret)
.skip))
(.seq (.seq (.ops (⟨(some 26), none, .p .mov, [.t 1]⟩ ::
 ⟨(some 27), none, .call, [.c (.func (.func 14) [] []), .t 26, .c (.int .i64 5), .c (.int .i64 1)]⟩ ::
 ⟨(some 28), none, .p (.bin .neq), [.t 27, .c (.int .i64 141)]⟩ ::
 ⟨(some 29), none, .p .mov, [.t 28]⟩ ::
 ⟨(some 30), (some (29, false)), .p .mov, [.t 1]⟩ ::
 ⟨(some 31), (some (29, false)), .call, [.c (.func (.func 15) [] []), .t 30, .c (.int .i64 5), .c (.int .i64 10)]⟩ ::
 ⟨(some 32), (some (29, false)), .p (.bin .neq), [.t 31, .c (.int .i64 2)]⟩ ::
 ⟨(some 33), none, .p .pick, [.t 29, .c (.bool true), .t 32]⟩ ::
 ⟨(some 34), none, .p .mov, [.t 33]⟩ ::
 ⟨(some 35), (some (34, false)), .p .mov, [.t 1]⟩ ::
 ⟨(some 36), (some (34, false)), .call, [.c (.func (.func 15) [] []), .t 35, .c (.int .i64 5), .c (.int .i64 2)]⟩ ::
 ⟨(some 37), (some (34, false)), .p (.bin .neq), [.t 36, .c (.int .i64 0)]⟩ ::
 ⟨(some 38), none, .p .pick, [.t 34, .c (.bool true), .t 37]⟩ ::
 []))
(.cond (.t 38)
(.seq (.ops (⟨(some 0), none, .p .mov, [.c (.bool false)]⟩ ::
 []))
.ret)
.skip))
(.seq (.ops (⟨(some 40), none, .p .mov, [.t 1]⟩ ::
 ⟨(some 41), none, .call, [.c (.func (.func 25) [] []), .t 40]⟩ ::
 ⟨(some 39), none, .p .mov, [.t 41]⟩ ::
 ⟨(some 42), none, .p (.ext 0), [.t 39]⟩ ::
 ⟨(some 43), none, .p (.ext 1), [.t 39]⟩ ::
 ⟨(some 44), none, .p (.ext 2), [.t 39]⟩ ::
 ⟨(some 2), none, .p .mov, [.t 42]⟩ ::
 ⟨(some 3), none, .p .mov, [.t 43]⟩ ::
 ⟨(some 4), none, .p .mov, [.t 44]⟩ ::
 []))
(.seq (.seq (.ops (⟨(some 45), none, .p .mov, [.t 2]⟩ ::
 ⟨(some 46), none, .p (.bin .neq), [.t 45, .c (.int .i64 5)]⟩ ::
 ⟨(some 47), none, .p .mov, [.t 46]⟩ ::
 ⟨(some 48), (some (47, false)), .p .mov, [.t 3]⟩ ::
 ⟨(some 49), (some (47, false)), .p (.bin .neq), [.t 48, .c (.int .i64 2)]⟩ ::
 ⟨(some 50), none, .p .pick, [.t 47, .c (.bool true), .t 49]⟩ ::
 ⟨(some 51), none, .p .mov, [.t 50]⟩ ::
 ⟨(some 52), (some (51, false)), .p .mov, [.t 4]⟩ ::
 ⟨(some 53), (some (51, false)), .p .not, [.t 52]⟩ ::
 ⟨(some 54), none, .p .pick, [.t 51, .c (.bool true), .t 53]⟩ ::
 ⟨(some 55), none, .p .mov, [.t 54]⟩ ::
 ⟨(some 56), (some (55, false)), .p .mov, [.t 1]⟩ ::
 ⟨(some 57), (some (55, false)), .call, [.c (.func (.func 16) [] []), .t 56, .c (.int .i64 5)]⟩ ::
 ⟨(some 58), (some (55, false)), .p .not, [.t 57]⟩ ::
 ⟨(some 59), none, .p .pick, [.t 55, .c (.bool true), .t 58]⟩ ::
 ⟨(some 60), none, .p .mov, [.t 59]⟩ ::
 ⟨(some 61), (some (60, false)), .p .mov, [.t 1]⟩ ::
 ⟨(some 62), (some (60, false)), .call, [.c (.func (.func 16) [] []), .t 61, .c (.int .i64 5)]⟩ ::
 ⟨(some 63), none, .p .pick, [.t 60, .c (.bool true), .t 62]⟩ ::
 []))
(.cond (.t 63)
(.seq (.ops (⟨(some 0), none, .p .mov, [.c (.bool false)]⟩ ::
 []))
.ret)
.skip))
(.seq (.ops (⟨(some 65), none, .p .mov, [.t 1]⟩ ::
 ⟨(some 66), none, .call, [.c (.func (.func 18) [] []), .t 65]⟩ ::
 ⟨(some 64), none, .p .mov, [.t 66]⟩ ::
 ⟨(some 67), none, .p (.ext 0), [.t 64]⟩ ::
 ⟨(some 68), none, .p (.ext 1), [.t 64]⟩ ::
 ⟨(some 69), none, .p (.ext 2), [.t 64]⟩ ::
 ⟨(some 2), none, .p .mov, [.t 67]⟩ ::
 ⟨(some 3), none, .p .mov, [.t 68]⟩ ::
 ⟨(some 4), none, .p .mov, [.t 69]⟩ ::
 []))
(.seq (.ops (⟨(some 70), none, .p .mov, [.t 2]⟩ ::
 ⟨(some 71), none, .p (.bin .eql), [.t 70, .c (.int .i64 7)]⟩ ::
 ⟨(some 72), none, .p .mov, [.t 71]⟩ ::
 ⟨(some 73), (some (72, true)), .p .mov, [.t 3]⟩ ::
 ⟨(some 74), (some (72, true)), .p (.bin .eql), [.t 73, .c (.int .i64 4)]⟩ ::
 ⟨(some 75), none, .p .pick, [.t 72, .t 74, .c (.bool false)]⟩ ::
 ⟨(some 76), none, .p .mov, [.t 75]⟩ ::
 ⟨(some 77), (some (76, true)), .p .mov, [.t 4]⟩ ::
 ⟨(some 78), none, .p .pick, [.t 76, .t 77, .c (.bool false)]⟩ ::
 ⟨(some 79), none, .p .mov, [.t 78]⟩ ::
 ⟨(some 80), (some (79, true)), .p .mov, [.t 1]⟩ ::
 ⟨(some 81), (some (79, true)), .call, [.c (.func (.func 17) [] []), .t 80]⟩ ::
 ⟨(some 82), (some (79, true)), .p (.bin .eql), [.t 81, .c (.int .i64 1)]⟩ ::
 ⟨(some 83), none, .p .pick, [.t 79, .t 82, .c (.bool false)]⟩ ::
 ⟨(some 0), none, .p .mov, [.t 83]⟩ ::
 []))
.ret))))))))⟩
abbrev f_escapementlaw02_works : Nat := 11
abbrev C_escapementlaw02_works : AFunc := C11
def C12 : AFunc := ⟨5, [.tmp 0],
(.seq (.ops (⟨(some 0), none, .p .mov, [.c .nilp]⟩ ::
 []))
(.seq (.ops (⟨(some 1), none, .p (.build [.nils, (.int .i64 0), (.int .i64 0), (.int .i64 0), (.int .i64 0), (.int .i64 0), (.int .i64 0), (.int .i64 0), (.int .i64 0), (.int .i64 0), (.int .i64 0), (.int .i64 0), (.int .i64 0), (.int .i64 0), (.int .i64 0), (.int .i64 0), (.int .i64 0), (.int .i64 0), (.int .i64 0), (.int .i64 0), (.int .i64 0), (.int .i64 0), (.int .i64 0), (.int .i64 0), (.int .i64 0), (.int .i64 0), (.int .i64 0), (.int .i64 0), (.int .i64 0), (.int .i64 0), (.int .i64 0), (.int .i64 0), (.int .i64 0), (.int .i64 0), (.int .i64 0), (.int .i64 0), (.int .i64 0), (.int .i64 0), (.int .i64 0), (.int .i64 0), (.int .i64 0), (.int .i64 0), (.int .i64 0), (.int .i64 0), (.int .i64 0), (.int .i64 0), (.int .i64 0), (.int .i64 0), (.int .i64 0), (.int .i64 0), (.int .i64 0), (.int .i64 0), (.int .i64 0), (.int .i64 0), (.int .i64 0), (.int .i64 0), (.int .i64 0), (.int .i64 0), (.int .i64 0), (.int .i64 0), (.int .i64 0), (.int .i64 0), (.int .i64 0), (.int .i64 0), (.int .i64 0)] []), []⟩ ::
 ⟨(some 2), none, .a .box, [.t 1]⟩ ::
 ⟨(some 3), none, .p (.build [.nilp] [(0, 1)]), [.t 2]⟩ ::
 ⟨(some 4), none, .a .box, [.t 3]⟩ ::
 ⟨(some 0), none, .p .mov, [.t 4]⟩ ::
 []))
.ret))⟩
abbrev f_rank_New : Nat := 12
abbrev C_rank_New : AFunc := C12
def C13 : AFunc := ⟨14, [.tmp 4],
(.seq (.ops (⟨(some 4), none, .p .mov, [.c (.int .i64 0)]⟩ ::
 []))
(.seq (.ops (⟨(some 5), none, .p .mov, [.t 0]⟩ ::
 ⟨(some 6), none, .p .mov, [.t 1]⟩ ::
 ⟨(some 7), none, .p (.bin .rem), [.t 5, .t 6]⟩ ::
 ⟨(some 0), none, .p .mov, [.t 7]⟩ ::
 []))
(.seq (.seq (.ops (⟨(some 8), none, .p .mov, [.t 0]⟩ ::
 ⟨(some 9), none, .p (.bin .lss), [.t 8, .c (.int .i64 0)]⟩ ::
 []))
(.cond (.t 9)
(.ops (⟨(some 10), none, .p .mov, [.t 0]⟩ ::
 ⟨(some 11), none, .p .mov, [.t 1]⟩ ::
 ⟨(some 12), none, .p (.bin .add), [.t 10, .t 11]⟩ ::
 ⟨(some 0), none, .p .mov, [.t 12]⟩ ::
 []))
.skip))
(.seq (.ops (⟨(some 13), none, .p .mov, [.t 0]⟩ ::
 ⟨(some 4), none, .p .mov, [.t 13]⟩ ::
 []))
.ret))))⟩
abbrev f_escapementref00_Bring : Nat := 13
abbrev C_escapementref00_Bring : AFunc := C13
def C14 : AFunc := ⟨55, [.tmp 6],
(.seq (.ops (⟨(some 6), none, .p .mov, [.c (.int .i64 0)]⟩ ::
 []))
(.seq (.seq (.ops (⟨(some 10), none, .p .mov, [.t 0]⟩ ::
 ⟨(some 11), none, .p .mov, [.t 1]⟩ ::
 ⟨(some 12), none, .call, [.c (.func (.func 40) [] []), .t 10, .t 11]⟩ ::
 ⟨(some 7), none, .p .mov, [.t 12]⟩ ::
 []))
(.seq (.ops (⟨(some 13), none, .p .mov, [.t 7]⟩ ::
 ⟨(some 14), none, .p (.bin .neq), [.t 13, .c (.int .i64 0)]⟩ ::
 []))
(.cond (.t 14)
(.seq (.ops (⟨(some 15), none, .p .mov, [.t 7]⟩ ::
 ⟨(some 6), none, .p .mov, [.t 15]⟩ ::
 []))
.ret)
.skip)))
(.seq (.seq (.ops (⟨(some 17), none, .p .mov, [.t 0]⟩ ::
 ⟨(some 18), none, .p .mov, [.t 1]⟩ ::
 ⟨(some 19), none, .call, [.c (.func (.func 41) [] []), .t 17, .t 18]⟩ ::
 ⟨(some 16), none, .p .mov, [.t 19]⟩ ::
 ⟨(some 20), none, .p (.ext 0), [.t 16]⟩ ::
 ⟨(some 21), none, .p (.ext 1), [.t 16]⟩ ::
 ⟨(some 8), none, .p .mov, [.t 20]⟩ ::
 ⟨(some 9), none, .p .mov, [.t 21]⟩ ::
 []))
(.seq (.ops (⟨(some 22), none, .p .mov, [.t 9]⟩ ::
 []))
(.cond (.t 22)
(.seq (.ops (⟨(some 6), none, .p .mov, [.c (.int .i64 141)]⟩ ::
 []))
.ret)
.skip)))
(.seq (.dops (⟨(some 23), none, .p .mov, [.t 0]⟩ ::
 ⟨(some 24), none, .p .nilchk, [.t 23]⟩ ::
 ⟨(some 25), none, .p (.faddr 0), [.t 24]⟩ ::
 ⟨(some 26), none, .r .load1, [.t 25]⟩ ::
 ⟨(some 27), none, .p .mov, [.t 0]⟩ ::
 ⟨(some 28), none, .p .nilchk, [.t 27]⟩ ::
 ⟨(some 29), none, .p (.faddr 0), [.t 28]⟩ ::
 ⟨(some 30), none, .r .load1, [.t 29]⟩ ::
 ⟨(some 31), none, .p .nilchk, [.t 30]⟩ ::
 ⟨(some 32), none, .p (.faddr 0), [.t 31]⟩ ::
 ⟨(some 33), none, .r .load1, [.t 32]⟩ ::
 ⟨(some 34), none, .p .mov, [.t 1]⟩ ::
 ⟨(some 35), none, .p .mov, [.t 2]⟩ ::
 ⟨(some 36), none, .p (.build [(.int .i64 0), (.int .i64 0)] [(0, 1), (1, 1)]), [.t 34, .t 35]⟩ ::
 ⟨(some 37), none, .a (.bslice [(.int .i64 0), (.int .i64 0)] 1 2 [0]), [.t 36]⟩ ::
 ⟨(some 38), none, .e (.append 2 16), [.t 33, .t 37]⟩ ::
 ⟨(some 39), none, .p .nilchk, [.t 26]⟩ ::
 ⟨(some 40), none, .p (.faddr 0), [.t 39]⟩ ::
 ⟨none, none, .e (.store 1), [.t 40, .t 38]⟩ ::
 []) ([] :: [] :: [] :: [0, 16] :: [] :: [] :: [] :: [] :: [] :: [] :: [] :: [] :: [] :: [] :: [] :: [] :: [] :: [] :: [] :: []))
(.seq (.dops (⟨(some 41), none, .p .mov, [.t 0]⟩ ::
 ⟨(some 42), none, .p .nilchk, [.t 41]⟩ ::
 ⟨(some 43), none, .p (.faddr 0), [.t 42]⟩ ::
 ⟨(some 44), none, .r .load1, [.t 43]⟩ ::
 ⟨(some 45), none, .p .mov, [.t 0]⟩ ::
 ⟨(some 46), none, .p .nilchk, [.t 45]⟩ ::
 ⟨(some 47), none, .p (.faddr 0), [.t 46]⟩ ::
 ⟨(some 48), none, .r .load1, [.t 47]⟩ ::
 ⟨(some 49), none, .p .nilchk, [.t 48]⟩ ::
 ⟨(some 50), none, .p (.faddr 0), [.t 49]⟩ ::
 ⟨(some 51), none, .r .load1, [.t 50]⟩ ::
 ⟨(some 52), none, .p .lenS, [.t 51]⟩ ::
 ⟨(some 53), none, .p (.bin .sub), [.t 52, .c (.int .i64 1)]⟩ ::
 ⟨(some 54), none, .call, [.c (.func (.func 42) [] []), .t 44, .t 53]⟩ ::
 []) ([] :: [] :: [] :: [] :: [] :: [] :: [] :: [] :: [] :: [] :: [] :: [] :: [] :: [] :: []))
(.seq (.ops (⟨(some 6), none, .p .mov, [.c (.int .i64 0)]⟩ ::
 []))
.ret))))))⟩
abbrev f_rank_Rank_Put : Nat := 14
abbrev C_rank_Rank_Put : AFunc := C14
def C15 : AFunc := ⟨56, [.tmp 6],
(.seq (.ops (⟨(some 6), none, .p .mov, [.c (.int .i64 0)]⟩ ::
 []))
(.seq (.seq (.ops (⟨(some 10), none, .p .mov, [.t 0]⟩ ::
 ⟨(some 11), none, .p .mov, [.t 1]⟩ ::
 ⟨(some 12), none, .call, [.c (.func (.func 40) [] []), .t 10, .t 11]⟩ ::
 ⟨(some 7), none, .p .mov, [.t 12]⟩ ::
 []))
(.seq (.ops (⟨(some 13), none, .p .mov, [.t 7]⟩ ::
 ⟨(some 14), none, .p (.bin .neq), [.t 13, .c (.int .i64 0)]⟩ ::
 []))
(.cond (.t 14)
(.seq (.ops (⟨(some 15), none, .p .mov, [.t 7]⟩ ::
 ⟨(some 6), none, .p .mov, [.t 15]⟩ ::
 []))
.ret)
.skip)))
(.seq (.ops (⟨(some 17), none, .p .mov, [.t 0]⟩ ::
 ⟨(some 18), none, .p .mov, [.t 1]⟩ ::
 ⟨(some 19), none, .call, [.c (.func (.func 41) [] []), .t 17, .t 18]⟩ ::
 ⟨(some 16), none, .p .mov, [.t 19]⟩ ::
 ⟨(some 20), none, .p (.ext 0), [.t 16]⟩ ::
 ⟨(some 21), none, .p (.ext 1), [.t 16]⟩ ::
 ⟨(some 8), none, .p .mov, [.t 20]⟩ ::
 ⟨(some 9), none, .p .mov, [.t 21]⟩ ::
 []))
(.seq (.block 0 (.seq (.ops (⟨(some 23), none, .p .mov, [.t 9]⟩ ::
 ⟨(some 24), none, .p .not, [.t 23]⟩ ::
 ⟨(some 22), none, .p .mov, [.t 24]⟩ ::
 []))
(.cond (.t 22)
(.seq (.ops (⟨(some 6), none, .p .mov, [.c (.int .i64 8)]⟩ ::
 []))
.ret)
(.seq (.ops (⟨(some 26), none, .p .mov, [.t 2]⟩ ::
 ⟨(some 27), none, .p .mov, [.t 0]⟩ ::
 ⟨(some 28), none, .p .nilchk, [.t 27]⟩ ::
 ⟨(some 29), none, .p (.faddr 0), [.t 28]⟩ ::
 ⟨(some 30), none, .r .load1, [.t 29]⟩ ::
 ⟨(some 31), none, .p .nilchk, [.t 30]⟩ ::
 ⟨(some 32), none, .p (.faddr 0), [.t 31]⟩ ::
 ⟨(some 33), none, .r .load1, [.t 32]⟩ ::
 ⟨(some 34), none, .p .mov, [.t 8]⟩ ::
 ⟨(some 35), none, .p (.iaddrS 2), [.t 33, .t 34]⟩ ::
 ⟨(some 36), none, .p (.faddr 1), [.t 35]⟩ ::
 ⟨(some 37), none, .r .load1, [.t 36]⟩ ::
 ⟨(some 38), none, .p (.bin .gtr), [.t 26, .t 37]⟩ ::
 ⟨(some 25), none, .p .mov, [.t 38]⟩ ::
 []))
(.cond (.t 25)
(.seq (.ops (⟨(some 6), none, .p .mov, [.c (.int .i64 2)]⟩ ::
 []))
.ret)
.skip)))))
(.seq (.ops (⟨(some 39), none, .p .mov, [.t 0]⟩ ::
 ⟨(some 40), none, .p .nilchk, [.t 39]⟩ ::
 ⟨(some 41), none, .p (.faddr 0), [.t 40]⟩ ::
 ⟨(some 42), none, .r .load1, [.t 41]⟩ ::
 ⟨(some 43), none, .p .nilchk, [.t 42]⟩ ::
 ⟨(some 44), none, .p (.faddr 0), [.t 43]⟩ ::
 ⟨(some 45), none, .r .load1, [.t 44]⟩ ::
 ⟨(some 46), none, .p .mov, [.t 8]⟩ ::
 ⟨(some 47), none, .p .mov, [.t 2]⟩ ::
 ⟨(some 48), none, .p (.iaddrS 2), [.t 45, .t 46]⟩ ::
 ⟨(some 49), none, .p (.faddr 1), [.t 48]⟩ ::
 ⟨none, none, .e (.store 1), [.t 49, .t 47]⟩ ::
 []))
(.seq (.ops (⟨(some 50), none, .p .mov, [.t 0]⟩ ::
 ⟨(some 51), none, .p .nilchk, [.t 50]⟩ ::
 ⟨(some 52), none, .p (.faddr 0), [.t 51]⟩ ::
 ⟨(some 53), none, .r .load1, [.t 52]⟩ ::
 ⟨(some 54), none, .p .mov, [.t 8]⟩ ::
 ⟨(some 55), none, .call, [.c (.func (.func 42) [] []), .t 53, .t 54]⟩ ::
 []))
(.seq (.ops (⟨(some 6), none, .p .mov, [.c (.int .i64 0)]⟩ ::
 []))
.ret)))))))⟩
abbrev f_rank_Rank_Lower : Nat := 15
abbrev C_rank_Rank_Lower : AFunc := C15
def C16 : AFunc := ⟨21, [.tmp 4],
(.seq (.ops (⟨(some 4), none, .p .mov, [.c (.bool false)]⟩ ::
 []))
(.seq (.ops (⟨(some 8), none, .p .mov, [.t 0]⟩ ::
 ⟨(some 9), none, .p .mov, [.t 1]⟩ ::
 ⟨(some 10), none, .call, [.c (.func (.func 41) [] []), .t 8, .t 9]⟩ ::
 ⟨(some 7), none, .p .mov, [.t 10]⟩ ::
 ⟨(some 11), none, .p (.ext 0), [.t 7]⟩ ::
 ⟨(some 12), none, .p (.ext 1), [.t 7]⟩ ::
 ⟨(some 5), none, .p .mov, [.t 11]⟩ ::
 ⟨(some 6), none, .p .mov, [.t 12]⟩ ::
 []))
(.seq (.seq (.ops (⟨(some 13), none, .p .mov, [.t 6]⟩ ::
 []))
(.cond (.t 13)
(.ops (⟨(some 14), none, .p .mov, [.t 0]⟩ ::
 ⟨(some 15), none, .p .nilchk, [.t 14]⟩ ::
 ⟨(some 16), none, .p (.faddr 0), [.t 15]⟩ ::
 ⟨(some 17), none, .r .load1, [.t 16]⟩ ::
 ⟨(some 18), none, .p .mov, [.t 5]⟩ ::
 ⟨(some 19), none, .call, [.c (.func (.func 43) [] []), .t 17, .t 18]⟩ ::
 []))
.skip))
(.seq (.ops (⟨(some 20), none, .p .mov, [.t 6]⟩ ::
 ⟨(some 4), none, .p .mov, [.t 20]⟩ ::
 []))
.ret))))⟩
abbrev f_rank_Rank_Remove : Nat := 16
abbrev C_rank_Rank_Remove : AFunc := C16
def C17 : AFunc := ⟨10, [.tmp 2],
(.seq (.ops (⟨(some 2), none, .p .mov, [.c (.int .i64 0)]⟩ ::
 []))
(.seq (.seq (.ops (⟨(some 3), none, .p .mov, [.t 0]⟩ ::
 ⟨(some 4), none, .call, [.c (.func (.func 44) [] []), .t 3]⟩ ::
 []))
(.cond (.t 4)
(.seq (.ops (⟨(some 2), none, .p .mov, [.c (.int .i64 0)]⟩ ::
 []))
.ret)
.skip))
(.seq (.ops (⟨(some 5), none, .p .mov, [.t 0]⟩ ::
 ⟨(some 6), none, .p .nilchk, [.t 5]⟩ ::
 ⟨(some 7), none, .p (.faddr 0), [.t 6]⟩ ::
 ⟨(some 8), none, .r .load1, [.t 7]⟩ ::
 ⟨(some 9), none, .call, [.c (.func (.func 45) [] []), .t 8]⟩ ::
 ⟨(some 2), none, .p .mov, [.t 9]⟩ ::
 []))
.ret)))⟩
abbrev f_rank_Rank_Len : Nat := 17
abbrev C_rank_Rank_Len : AFunc := C17
def C18 : AFunc := ⟨20, [.tmp 2, .tmp 3, .tmp 4],
(.seq (.ops (⟨(some 2), none, .p .mov, [.c (.int .i64 0)]⟩ ::
 ⟨(some 3), none, .p .mov, [.c (.int .i64 0)]⟩ ::
 ⟨(some 4), none, .p .mov, [.c (.bool false)]⟩ ::
 []))
(.seq (.seq (.ops (⟨(some 6), none, .p .mov, [.t 0]⟩ ::
 ⟨(some 7), none, .call, [.c (.func (.func 25) [] []), .t 6]⟩ ::
 ⟨(some 5), none, .p .mov, [.t 7]⟩ ::
 ⟨(some 8), none, .p (.ext 0), [.t 5]⟩ ::
 ⟨(some 9), none, .p (.ext 1), [.t 5]⟩ ::
 ⟨(some 10), none, .p (.ext 2), [.t 5]⟩ ::
 ⟨(some 2), none, .p .mov, [.t 8]⟩ ::
 ⟨(some 3), none, .p .mov, [.t 9]⟩ ::
 ⟨(some 4), none, .p .mov, [.t 10]⟩ ::
 []))
(.seq (.ops (⟨(some 11), none, .p .mov, [.t 4]⟩ ::
 []))
(.cond (.t 11)
(.ops (⟨(some 12), none, .p .mov, [.t 0]⟩ ::
 ⟨(some 13), none, .p .nilchk, [.t 12]⟩ ::
 ⟨(some 14), none, .p (.faddr 0), [.t 13]⟩ ::
 ⟨(some 15), none, .r .load1, [.t 14]⟩ ::
 ⟨(some 16), none, .call, [.c (.func (.func 43) [] []), .t 15, .c (.int .i64 0)]⟩ ::
 []))
.skip)))
(.seq (.ops (⟨(some 17), none, .p .mov, [.t 2]⟩ ::
 ⟨(some 18), none, .p .mov, [.t 3]⟩ ::
 ⟨(some 19), none, .p .mov, [.t 4]⟩ ::
 ⟨(some 2), none, .p .mov, [.t 17]⟩ ::
 ⟨(some 3), none, .p .mov, [.t 18]⟩ ::
 ⟨(some 4), none, .p .mov, [.t 19]⟩ ::
 []))
.ret)))⟩
abbrev f_rank_Rank_Pop : Nat := 18
abbrev C_rank_Rank_Pop : AFunc := C18
def L_rank_Rank_Ids_0 : AC := (.seq (.ops (⟨(some 21), none, .p (.bin .lss), [.t 20, .t 19]⟩ ::
 []))
(.seq (.cond (.t 21)
.skip
(.exit 0))
(.seq (.block 1 (.seq (.ops (⟨(some 22), none, .p (.iaddrS 2), [.t 18, .t 20]⟩ ::
 ⟨(some 23), none, .r (.loadN 2), [.t 22]⟩ ::
 ⟨(some 5), none, .a (.alloc [(.int .i64 0), (.int .i64 0)]), []⟩ ::
 ⟨none, none, .e (.store 2), [.t 5, .t 23]⟩ ::
 []))
(.ops (⟨(some 24), none, .p .mov, [.t 2]⟩ ::
 ⟨(some 25), none, .p (.faddr 0), [.t 5]⟩ ::
 ⟨(some 26), none, .r .load1, [.t 25]⟩ ::
 ⟨(some 27), none, .a (.bslice [(.int .i64 0)] 1 1 [0]), [.t 26]⟩ ::
 ⟨(some 28), none, .e (.append 1 8), [.t 24, .t 27]⟩ ::
 ⟨(some 2), none, .p .mov, [.t 28]⟩ ::
 []))))
(.ops (⟨(some 29), none, .p (.bin .add), [.t 20, .c (.int .i64 1)]⟩ ::
 ⟨(some 20), none, .p .mov, [.t 29]⟩ ::
 [])))))
def C19 : AFunc := ⟨31, [.tmp 2],
(.seq (.ops (⟨(some 2), none, .p .mov, [.c .nils]⟩ ::
 []))
(.seq (.seq (.ops (⟨(some 6), none, .p .mov, [.t 0]⟩ ::
 ⟨(some 7), none, .call, [.c (.func (.func 44) [] []), .t 6]⟩ ::
 []))
(.cond (.t 7)
(.seq (.ops (⟨(some 2), none, .p .mov, [.c .nils]⟩ ::
 []))
.ret)
.skip))
(.seq (.ops (⟨(some 8), none, .p .mov, [.t 0]⟩ ::
 ⟨(some 9), none, .p .nilchk, [.t 8]⟩ ::
 ⟨(some 10), none, .p (.faddr 0), [.t 9]⟩ ::
 ⟨(some 11), none, .r .load1, [.t 10]⟩ ::
 ⟨(some 12), none, .p .nilchk, [.t 11]⟩ ::
 ⟨(some 13), none, .p (.faddr 0), [.t 12]⟩ ::
 ⟨(some 14), none, .r .load1, [.t 13]⟩ ::
 ⟨(some 15), none, .call, [.c (.func (.func 46) [] []), .t 14]⟩ ::
 ⟨(some 3), none, .p .mov, [.t 15]⟩ ::
 []))
(.seq (.ops (⟨(some 16), none, .p .mov, [.t 3]⟩ ::
 ⟨(some 17), none, .call, [.c (.func (.func 47) [] []), .t 16, .c (.func (.func 48) [] [])]⟩ ::
 []))
(.seq (.seq (.ops (⟨(some 18), none, .p .mov, [.t 3]⟩ ::
 ⟨(some 19), none, .p .lenS, [.t 18]⟩ ::
 ⟨(some 20), none, .p .mov, [.c (.int .i64 0)]⟩ ::
 []))
(.block 0 (.loop L_rank_Rank_Ids_0)))
(.seq (.ops (⟨(some 30), none, .p .mov, [.t 2]⟩ ::
 ⟨(some 2), none, .p .mov, [.t 30]⟩ ::
 []))
.ret))))))⟩
abbrev f_rank_Rank_Ids : Nat := 19
abbrev C_rank_Rank_Ids : AFunc := C19
def L_escapementref00_EqInts_0 : AC := (.seq (.seq (.ops (⟨(some 11), none, .p .mov, [.t 5]⟩ ::
 ⟨(some 12), none, .p .mov, [.t 0]⟩ ::
 ⟨(some 13), none, .p .lenS, [.t 12]⟩ ::
 ⟨(some 14), none, .p (.bin .lss), [.t 11, .t 13]⟩ ::
 []))
(.cond (.t 14)
.skip
(.exit 0)))
(.seq (.block 1 (.seq (.dops (⟨(some 17), none, .p .mov, [.t 0]⟩ ::
 ⟨(some 18), none, .p .mov, [.t 5]⟩ ::
 ⟨(some 19), none, .p (.iaddrS 1), [.t 17, .t 18]⟩ ::
 ⟨(some 20), none, .r .load1, [.t 19]⟩ ::
 ⟨(some 21), none, .p .mov, [.t 1]⟩ ::
 ⟨(some 22), none, .p .mov, [.t 5]⟩ ::
 ⟨(some 23), none, .p (.iaddrS 1), [.t 21, .t 22]⟩ ::
 ⟨(some 24), none, .r .load1, [.t 23]⟩ ::
 ⟨(some 25), none, .p (.bin .neq), [.t 20, .t 24]⟩ ::
 []) ([] :: [] :: [] :: [] :: [] :: [] :: [] :: [] :: [] :: []))
(.cond (.t 25)
(.seq (.ops (⟨(some 4), none, .p .mov, [.c (.bool false)]⟩ ::
 []))
.ret)
.skip)))
(.ops (⟨(some 15), none, .p .mov, [.t 5]⟩ ::
 ⟨(some 16), none, .p (.bin .add), [.t 15, .c (.int .i64 1)]⟩ ::
 ⟨(some 5), none, .p .mov, [.t 16]⟩ ::
 []))))
def C20 : AFunc := ⟨26, [.tmp 4],
(.seq (.ops (⟨(some 4), none, .p .mov, [.c (.bool false)]⟩ ::
 []))
(.seq (.seq (.ops (⟨(some 6), none, .p .mov, [.t 0]⟩ ::
 ⟨(some 7), none, .p .lenS, [.t 6]⟩ ::
 ⟨(some 8), none, .p .mov, [.t 1]⟩ ::
 ⟨(some 9), none, .p .lenS, [.t 8]⟩ ::
 ⟨(some 10), none, .p (.bin .neq), [.t 7, .t 9]⟩ ::
 []))
(.cond (.t 10)
(.seq (.ops (⟨(some 4), none, .p .mov, [.c (.bool false)]⟩ ::
 []))
.ret)
.skip))
(.seq (.seq (.ops (⟨(some 5), none, .p .mov, [.c (.int .i64 0)]⟩ ::
 []))
(.block 0 (.loop L_escapementref00_EqInts_0)))
(.seq (.ops (⟨(some 4), none, .p .mov, [.c (.bool true)]⟩ ::
 []))
.ret))))⟩
abbrev f_escapementref00_EqInts : Nat := 20
abbrev C_escapementref00_EqInts : AFunc := C20
def C21 : AFunc := ⟨3, [.tmp 0],
(.seq (.ops (⟨(some 0), none, .p .mov, [.c .nilp]⟩ ::
 []))
(.seq (.ops (⟨(some 1), none, .p (.build [.nils] []), []⟩ ::
 ⟨(some 2), none, .a .box, [.t 1]⟩ ::
 ⟨(some 0), none, .p .mov, [.t 2]⟩ ::
 []))
.ret))⟩
abbrev f_escapementref02_New : Nat := 21
abbrev C_escapementref02_New : AFunc := C21
def C22 : AFunc := ⟨82, [.tmp 6],
(.seq (.ops (⟨(some 5), none, .a .box, [.t 2]⟩ ::
 ⟨(some 6), none, .p .mov, [.c (.bool false)]⟩ ::
 []))
(.seq (.seq (.ops (⟨(some 13), none, .p (.faddr 0), [.t 5]⟩ ::
 ⟨(some 14), none, .r .load1, [.t 13]⟩ ::
 ⟨(some 15), none, .call, [.c (.func (.func 13) [] []), .t 14, .c (.int .i64 4)]⟩ ::
 []))
(.block 0 (.seq (.ops (⟨(some 17), none, .p (.bin .eql), [.t 15, .c (.int .i64 0)]⟩ ::
 ⟨(some 16), none, .p .mov, [.t 17]⟩ ::
 []))
(.cond (.t 16)
(.seq (.dops (⟨(some 18), none, .p .mov, [.t 0]⟩ ::
 ⟨(some 19), none, .p (.faddr 1), [.t 5]⟩ ::
 ⟨(some 20), none, .r .load1, [.t 19]⟩ ::
 ⟨(some 21), none, .p (.faddr 2), [.t 5]⟩ ::
 ⟨(some 22), none, .r .load1, [.t 21]⟩ ::
 ⟨(some 23), none, .call, [.c (.func (.func 14) [] []), .t 18, .t 20, .t 22]⟩ ::
 ⟨(some 24), none, .p .mov, [.t 1]⟩ ::
 ⟨(some 25), none, .p (.faddr 1), [.t 5]⟩ ::
 ⟨(some 26), none, .r .load1, [.t 25]⟩ ::
 ⟨(some 27), none, .p (.faddr 2), [.t 5]⟩ ::
 ⟨(some 28), none, .r .load1, [.t 27]⟩ ::
 ⟨(some 29), none, .call, [.c (.func (.func 51) [] []), .t 24, .t 26, .t 28]⟩ ::
 ⟨(some 30), none, .p (.bin .eql), [.t 23, .t 29]⟩ ::
 ⟨(some 6), none, .p .mov, [.t 30]⟩ ::
 []) ([] :: [] :: [] :: [] :: [] :: [] :: [] :: [] :: [0, 6] :: [] :: [0, 6] :: [] :: [] :: [] :: []))
.ret)
(.seq (.ops (⟨(some 32), none, .p (.bin .eql), [.t 15, .c (.int .i64 1)]⟩ ::
 ⟨(some 31), none, .p .mov, [.t 32]⟩ ::
 []))
(.cond (.t 31)
(.seq (.dops (⟨(some 33), none, .p .mov, [.t 0]⟩ ::
 ⟨(some 34), none, .p (.faddr 1), [.t 5]⟩ ::
 ⟨(some 35), none, .r .load1, [.t 34]⟩ ::
 ⟨(some 36), none, .p (.faddr 2), [.t 5]⟩ ::
 ⟨(some 37), none, .r .load1, [.t 36]⟩ ::
 ⟨(some 38), none, .call, [.c (.func (.func 15) [] []), .t 33, .t 35, .t 37]⟩ ::
 ⟨(some 39), none, .p .mov, [.t 1]⟩ ::
 ⟨(some 40), none, .p (.faddr 1), [.t 5]⟩ ::
 ⟨(some 41), none, .r .load1, [.t 40]⟩ ::
 ⟨(some 42), none, .p (.faddr 2), [.t 5]⟩ ::
 ⟨(some 43), none, .r .load1, [.t 42]⟩ ::
 ⟨(some 44), none, .call, [.c (.func (.func 52) [] []), .t 39, .t 41, .t 43]⟩ ::
 ⟨(some 45), none, .p (.bin .eql), [.t 38, .t 44]⟩ ::
 ⟨(some 6), none, .p .mov, [.t 45]⟩ ::
 []) ([] :: [] :: [] :: [] :: [] :: [] :: [] :: [] :: [0, 6] :: [] :: [0, 6] :: [] :: [] :: [] :: []))
.ret)
(.seq (.ops (⟨(some 47), none, .p (.bin .eql), [.t 15, .c (.int .i64 2)]⟩ ::
 ⟨(some 46), none, .p .mov, [.t 47]⟩ ::
 []))
(.cond (.t 46)
(.seq (.dops (⟨(some 48), none, .p .mov, [.t 0]⟩ ::
 ⟨(some 49), none, .p (.faddr 1), [.t 5]⟩ ::
 ⟨(some 50), none, .r .load1, [.t 49]⟩ ::
 ⟨(some 51), none, .call, [.c (.func (.func 16) [] []), .t 48, .t 50]⟩ ::
 ⟨(some 52), none, .p .mov, [.t 1]⟩ ::
 ⟨(some 53), none, .p (.faddr 1), [.t 5]⟩ ::
 ⟨(some 54), none, .r .load1, [.t 53]⟩ ::
 ⟨(some 55), none, .call, [.c (.func (.func 53) [] []), .t 52, .t 54]⟩ ::
 ⟨(some 56), none, .p (.eq .bool), [.t 51, .t 55]⟩ ::
 ⟨(some 6), none, .p .mov, [.t 56]⟩ ::
 []) ([] :: [] :: [] :: [] :: [] :: [] :: [0, 4] :: [] :: [] :: [] :: []))
.ret)
.skip))))))))
(.seq (.ops (⟨(some 58), none, .p .mov, [.t 0]⟩ ::
 ⟨(some 59), none, .call, [.c (.func (.func 18) [] []), .t 58]⟩ ::
 ⟨(some 57), none, .p .mov, [.t 59]⟩ ::
 ⟨(some 60), none, .p (.ext 0), [.t 57]⟩ ::
 ⟨(some 61), none, .p (.ext 1), [.t 57]⟩ ::
 ⟨(some 62), none, .p (.ext 2), [.t 57]⟩ ::
 ⟨(some 7), none, .p .mov, [.t 60]⟩ ::
 ⟨(some 8), none, .p .mov, [.t 61]⟩ ::
 ⟨(some 9), none, .p .mov, [.t 62]⟩ ::
 []))
(.seq (.ops (⟨(some 64), none, .p .mov, [.t 1]⟩ ::
 ⟨(some 65), none, .call, [.c (.func (.func 54) [] []), .t 64]⟩ ::
 ⟨(some 63), none, .p .mov, [.t 65]⟩ ::
 ⟨(some 66), none, .p (.ext 0), [.t 63]⟩ ::
 ⟨(some 67), none, .p (.ext 1), [.t 63]⟩ ::
 ⟨(some 68), none, .p (.ext 2), [.t 63]⟩ ::
 ⟨(some 10), none, .p .mov, [.t 66]⟩ ::
 ⟨(some 11), none, .p .mov, [.t 67]⟩ ::
 ⟨(some 12), none, .p .mov, [.t 68]⟩ ::
 []))
(.seq (.ops (⟨(some 69), none, .p .mov, [.t 7]⟩ ::
 ⟨(some 70), none, .p .mov, [.t 10]⟩ ::
 ⟨(some 71), none, .p (.bin .eql), [.t 69, .t 70]⟩ ::
 ⟨(some 72), none, .p .mov, [.t 71]⟩ ::
 ⟨(some 73), (some (72, true)), .p .mov, [.t 8]⟩ ::
 ⟨(some 74), (some (72, true)), .p .mov, [.t 11]⟩ ::
 ⟨(some 75), (some (72, true)), .p (.bin .eql), [.t 73, .t 74]⟩ ::
 ⟨(some 76), none, .p .pick, [.t 72, .t 75, .c (.bool false)]⟩ ::
 ⟨(some 77), none, .p .mov, [.t 76]⟩ ::
 ⟨(some 78), (some (77, true)), .p .mov, [.t 9]⟩ ::
 ⟨(some 79), (some (77, true)), .p .mov, [.t 12]⟩ ::
 ⟨(some 80), (some (77, true)), .p (.eq .bool), [.t 78, .t 79]⟩ ::
 ⟨(some 81), none, .p .pick, [.t 77, .t 80, .c (.bool false)]⟩ ::
 ⟨(some 6), none, .p .mov, [.t 81]⟩ ::
 []))
.ret)))))⟩
abbrev f_escapementlaw02_step : Nat := 22
abbrev C_escapementlaw02_step : AFunc := C22
def C23 : AFunc := ⟨71, [.tmp 6],
(.seq (.ops (⟨(some 6), none, .p .mov, [.c (.bool false)]⟩ ::
 []))
(.seq (.ops (⟨(some 18), none, .p .mov, [.t 0]⟩ ::
 ⟨(some 19), none, .call, [.c (.func (.func 25) [] []), .t 18]⟩ ::
 ⟨(some 17), none, .p .mov, [.t 19]⟩ ::
 ⟨(some 20), none, .p (.ext 0), [.t 17]⟩ ::
 ⟨(some 21), none, .p (.ext 1), [.t 17]⟩ ::
 ⟨(some 22), none, .p (.ext 2), [.t 17]⟩ ::
 ⟨(some 7), none, .p .mov, [.t 20]⟩ ::
 ⟨(some 8), none, .p .mov, [.t 21]⟩ ::
 ⟨(some 9), none, .p .mov, [.t 22]⟩ ::
 []))
(.seq (.ops (⟨(some 24), none, .p .mov, [.t 1]⟩ ::
 ⟨(some 25), none, .call, [.c (.func (.func 55) [] []), .t 24]⟩ ::
 ⟨(some 23), none, .p .mov, [.t 25]⟩ ::
 ⟨(some 26), none, .p (.ext 0), [.t 23]⟩ ::
 ⟨(some 27), none, .p (.ext 1), [.t 23]⟩ ::
 ⟨(some 28), none, .p (.ext 2), [.t 23]⟩ ::
 ⟨(some 10), none, .p .mov, [.t 26]⟩ ::
 ⟨(some 11), none, .p .mov, [.t 27]⟩ ::
 ⟨(some 12), none, .p .mov, [.t 28]⟩ ::
 []))
(.seq (.ops (⟨(some 30), none, .p .mov, [.t 0]⟩ ::
 ⟨(some 31), none, .p .mov, [.t 2]⟩ ::
 ⟨(some 32), none, .call, [.c (.func (.func 26) [] []), .t 30, .t 31]⟩ ::
 ⟨(some 29), none, .p .mov, [.t 32]⟩ ::
 ⟨(some 33), none, .p (.ext 0), [.t 29]⟩ ::
 ⟨(some 34), none, .p (.ext 1), [.t 29]⟩ ::
 ⟨(some 13), none, .p .mov, [.t 33]⟩ ::
 ⟨(some 14), none, .p .mov, [.t 34]⟩ ::
 []))
(.seq (.ops (⟨(some 36), none, .p .mov, [.t 1]⟩ ::
 ⟨(some 37), none, .p .mov, [.t 2]⟩ ::
 ⟨(some 38), none, .call, [.c (.func (.func 56) [] []), .t 36, .t 37]⟩ ::
 ⟨(some 35), none, .p .mov, [.t 38]⟩ ::
 ⟨(some 39), none, .p (.ext 0), [.t 35]⟩ ::
 ⟨(some 40), none, .p (.ext 1), [.t 35]⟩ ::
 ⟨(some 15), none, .p .mov, [.t 39]⟩ ::
 ⟨(some 16), none, .p .mov, [.t 40]⟩ ::
 []))
(.seq (.ops (⟨(some 41), none, .p .mov, [.t 7]⟩ ::
 ⟨(some 42), none, .p .mov, [.t 10]⟩ ::
 ⟨(some 43), none, .p (.bin .eql), [.t 41, .t 42]⟩ ::
 ⟨(some 44), none, .p .mov, [.t 43]⟩ ::
 ⟨(some 45), (some (44, true)), .p .mov, [.t 8]⟩ ::
 ⟨(some 46), (some (44, true)), .p .mov, [.t 11]⟩ ::
 ⟨(some 47), (some (44, true)), .p (.bin .eql), [.t 45, .t 46]⟩ ::
 ⟨(some 48), none, .p .pick, [.t 44, .t 47, .c (.bool false)]⟩ ::
 ⟨(some 49), none, .p .mov, [.t 48]⟩ ::
 ⟨(some 50), (some (49, true)), .p .mov, [.t 9]⟩ ::
 ⟨(some 51), (some (49, true)), .p .mov, [.t 12]⟩ ::
 ⟨(some 52), (some (49, true)), .p (.eq .bool), [.t 50, .t 51]⟩ ::
 ⟨(some 53), none, .p .pick, [.t 49, .t 52, .c (.bool false)]⟩ ::
 ⟨(some 54), none, .p .mov, [.t 53]⟩ ::
 ⟨(some 55), (some (54, true)), .p .mov, [.t 13]⟩ ::
 ⟨(some 56), (some (54, true)), .p .mov, [.t 15]⟩ ::
 ⟨(some 57), (some (54, true)), .p (.bin .eql), [.t 55, .t 56]⟩ ::
 ⟨(some 58), none, .p .pick, [.t 54, .t 57, .c (.bool false)]⟩ ::
 ⟨(some 59), none, .p .mov, [.t 58]⟩ ::
 ⟨(some 60), (some (59, true)), .p .mov, [.t 14]⟩ ::
 ⟨(some 61), (some (59, true)), .p .mov, [.t 16]⟩ ::
 ⟨(some 62), (some (59, true)), .p (.eq .bool), [.t 60, .t 61]⟩ ::
 ⟨(some 63), none, .p .pick, [.t 59, .t 62, .c (.bool false)]⟩ ::
 ⟨(some 64), none, .p .mov, [.t 63]⟩ ::
 ⟨(some 65), (some (64, true)), .p .mov, [.t 0]⟩ ::
 ⟨(some 66), (some (64, true)), .call, [.c (.func (.func 17) [] []), .t 65]⟩ ::
 ⟨(some 67), (some (64, true)), .p .mov, [.t 1]⟩ ::
 ⟨(some 68), (some (64, true)), .call, [.c (.func (.func 57) [] []), .t 67]⟩ ::
 ⟨(some 69), (some (64, true)), .p (.bin .eql), [.t 66, .t 68]⟩ ::
 ⟨(some 70), none, .p .pick, [.t 64, .t 69, .c (.bool false)]⟩ ::
 ⟨(some 6), none, .p .mov, [.t 70]⟩ ::
 []))
.ret))))))⟩
abbrev f_escapementlaw02_same : Nat := 23
abbrev C_escapementlaw02_same : AFunc := C23
def L_escapementref02_Rank_Ids_0 : AC := (.seq (.seq (.ops (⟨(some 5), none, .p .mov, [.t 4]⟩ ::
 ⟨(some 6), none, .p .mov, [.t 0]⟩ ::
 ⟨(some 7), none, .p .nilchk, [.t 6]⟩ ::
 ⟨(some 8), none, .p (.faddr 0), [.t 7]⟩ ::
 ⟨(some 9), none, .r .load1, [.t 8]⟩ ::
 ⟨(some 10), none, .p .lenS, [.t 9]⟩ ::
 ⟨(some 11), none, .p (.bin .lss), [.t 5, .t 10]⟩ ::
 []))
(.cond (.t 11)
.skip
(.exit 0)))
(.seq (.block 1 (.ops (⟨(some 14), none, .p .mov, [.t 3]⟩ ::
 ⟨(some 15), none, .p .mov, [.t 0]⟩ ::
 ⟨(some 16), none, .p .nilchk, [.t 15]⟩ ::
 ⟨(some 17), none, .p (.faddr 0), [.t 16]⟩ ::
 ⟨(some 18), none, .r .load1, [.t 17]⟩ ::
 ⟨(some 19), none, .p .mov, [.t 4]⟩ ::
 ⟨(some 20), none, .p (.iaddrS 2), [.t 18, .t 19]⟩ ::
 ⟨(some 21), none, .p (.faddr 0), [.t 20]⟩ ::
 ⟨(some 22), none, .r .load1, [.t 21]⟩ ::
 ⟨(some 23), none, .a (.bslice [(.int .i64 0)] 1 1 [0]), [.t 22]⟩ ::
 ⟨(some 24), none, .e (.append 1 8), [.t 14, .t 23]⟩ ::
 ⟨(some 3), none, .p .mov, [.t 24]⟩ ::
 [])))
(.ops (⟨(some 12), none, .p .mov, [.t 4]⟩ ::
 ⟨(some 13), none, .p (.bin .add), [.t 12, .c (.int .i64 1)]⟩ ::
 ⟨(some 4), none, .p .mov, [.t 13]⟩ ::
 []))))
def C24 : AFunc := ⟨26, [.tmp 2],
(.seq (.ops (⟨(some 2), none, .p .mov, [.c .nils]⟩ ::
 []))
(.seq (.ops (⟨(some 3), none, .p .mov, [.c .nils]⟩ ::
 []))
(.seq (.seq (.ops (⟨(some 4), none, .p .mov, [.c (.int .i64 0)]⟩ ::
 []))
(.block 0 (.loop L_escapementref02_Rank_Ids_0)))
(.seq (.ops (⟨(some 25), none, .p .mov, [.t 3]⟩ ::
 ⟨(some 2), none, .p .mov, [.t 25]⟩ ::
 []))
.ret))))⟩
abbrev f_escapementref02_Rank_Ids : Nat := 24
abbrev C_escapementref02_Rank_Ids : AFunc := C24
def C25 : AFunc := ⟨38, [.tmp 2, .tmp 3, .tmp 4],
(.seq (.ops (⟨(some 2), none, .p .mov, [.c (.int .i64 0)]⟩ ::
 ⟨(some 3), none, .p .mov, [.c (.int .i64 0)]⟩ ::
 ⟨(some 4), none, .p .mov, [.c (.bool false)]⟩ ::
 []))
(.seq (.seq (.ops (⟨(some 5), none, .p .mov, [.t 0]⟩ ::
 ⟨(some 6), none, .call, [.c (.func (.func 44) [] []), .t 5]⟩ ::
 ⟨(some 7), none, .p .mov, [.t 6]⟩ ::
 ⟨(some 8), (some (7, false)), .p .mov, [.t 0]⟩ ::
 ⟨(some 9), (some (7, false)), .p .nilchk, [.t 8]⟩ ::
 ⟨(some 10), (some (7, false)), .p (.faddr 0), [.t 9]⟩ ::
 ⟨(some 11), (some (7, false)), .r .load1, [.t 10]⟩ ::
 ⟨(some 12), (some (7, false)), .p .nilchk, [.t 11]⟩ ::
 ⟨(some 13), (some (7, false)), .p (.faddr 0), [.t 12]⟩ ::
 ⟨(some 14), (some (7, false)), .r .load1, [.t 13]⟩ ::
 ⟨(some 15), (some (7, false)), .p .lenS, [.t 14]⟩ ::
 ⟨(some 16), (some (7, false)), .p (.bin .eql), [.t 15, .c (.int .i64 0)]⟩ ::
 ⟨(some 17), none, .p .pick, [.t 7, .c (.bool true), .t 16]⟩ ::
 []))
(.cond (.t 17)
(.seq (.ops (⟨(some 2), none, .p .mov, [.c (.int .i64 0)]⟩ ::
 ⟨(some 3), none, .p .mov, [.c (.int .i64 0)]⟩ ::
 ⟨(some 4), none, .p .mov, [.c (.bool false)]⟩ ::
 []))
.ret)
.skip))
(.seq (.dops (⟨(some 18), none, .p .mov, [.t 0]⟩ ::
 ⟨(some 19), none, .p .nilchk, [.t 18]⟩ ::
 ⟨(some 20), none, .p (.faddr 0), [.t 19]⟩ ::
 ⟨(some 21), none, .r .load1, [.t 20]⟩ ::
 ⟨(some 22), none, .p .nilchk, [.t 21]⟩ ::
 ⟨(some 23), none, .p (.faddr 0), [.t 22]⟩ ::
 ⟨(some 24), none, .r .load1, [.t 23]⟩ ::
 ⟨(some 25), none, .p (.iaddrS 2), [.t 24, .c (.int .i64 0)]⟩ ::
 ⟨(some 26), none, .p (.faddr 0), [.t 25]⟩ ::
 ⟨(some 27), none, .r .load1, [.t 26]⟩ ::
 ⟨(some 28), none, .p .mov, [.t 0]⟩ ::
 ⟨(some 29), none, .p .nilchk, [.t 28]⟩ ::
 ⟨(some 30), none, .p (.faddr 0), [.t 29]⟩ ::
 ⟨(some 31), none, .r .load1, [.t 30]⟩ ::
 ⟨(some 32), none, .p .nilchk, [.t 31]⟩ ::
 ⟨(some 33), none, .p (.faddr 0), [.t 32]⟩ ::
 ⟨(some 34), none, .r .load1, [.t 33]⟩ ::
 ⟨(some 35), none, .p (.iaddrS 2), [.t 34, .c (.int .i64 0)]⟩ ::
 ⟨(some 36), none, .p (.faddr 1), [.t 35]⟩ ::
 ⟨(some 37), none, .r .load1, [.t 36]⟩ ::
 ⟨(some 2), none, .p .mov, [.t 27]⟩ ::
 ⟨(some 3), none, .p .mov, [.t 37]⟩ ::
 ⟨(some 4), none, .p .mov, [.c (.bool true)]⟩ ::
 []) ([] :: [] :: [] :: [] :: [] :: [] :: [] :: [] :: [] :: [] :: [] :: [] :: [] :: [] :: [] :: [] :: [] :: [] :: [] :: [] :: [] :: [] :: [] :: []))
.ret)))⟩
abbrev f_rank_Rank_First : Nat := 25
abbrev C_rank_Rank_First : AFunc := C25
def C26 : AFunc := ⟨26, [.tmp 4, .tmp 5],
(.seq (.ops (⟨(some 4), none, .p .mov, [.c (.int .i64 0)]⟩ ::
 ⟨(some 5), none, .p .mov, [.c (.bool false)]⟩ ::
 []))
(.seq (.ops (⟨(some 8), none, .p .mov, [.t 0]⟩ ::
 ⟨(some 9), none, .p .mov, [.t 1]⟩ ::
 ⟨(some 10), none, .call, [.c (.func (.func 41) [] []), .t 8, .t 9]⟩ ::
 ⟨(some 7), none, .p .mov, [.t 10]⟩ ::
 ⟨(some 11), none, .p (.ext 0), [.t 7]⟩ ::
 ⟨(some 12), none, .p (.ext 1), [.t 7]⟩ ::
 ⟨(some 6), none, .p .mov, [.t 11]⟩ ::
 ⟨(some 5), none, .p .mov, [.t 12]⟩ ::
 []))
(.seq (.seq (.ops (⟨(some 13), none, .p .mov, [.t 5]⟩ ::
 ⟨(some 14), none, .p .not, [.t 13]⟩ ::
 []))
(.cond (.t 14)
(.seq (.ops (⟨(some 4), none, .p .mov, [.c (.int .i64 0)]⟩ ::
 ⟨(some 5), none, .p .mov, [.c (.bool false)]⟩ ::
 []))
.ret)
.skip))
(.seq (.ops (⟨(some 15), none, .p .mov, [.t 0]⟩ ::
 ⟨(some 16), none, .p .nilchk, [.t 15]⟩ ::
 ⟨(some 17), none, .p (.faddr 0), [.t 16]⟩ ::
 ⟨(some 18), none, .r .load1, [.t 17]⟩ ::
 ⟨(some 19), none, .p .nilchk, [.t 18]⟩ ::
 ⟨(some 20), none, .p (.faddr 0), [.t 19]⟩ ::
 ⟨(some 21), none, .r .load1, [.t 20]⟩ ::
 ⟨(some 22), none, .p .mov, [.t 6]⟩ ::
 ⟨(some 23), none, .p (.iaddrS 2), [.t 21, .t 22]⟩ ::
 ⟨(some 24), none, .p (.faddr 1), [.t 23]⟩ ::
 ⟨(some 25), none, .r .load1, [.t 24]⟩ ::
 ⟨(some 4), none, .p .mov, [.t 25]⟩ ::
 ⟨(some 5), none, .p .mov, [.c (.bool true)]⟩ ::
 []))
.ret))))⟩
abbrev f_rank_Rank_Key : Nat := 26
abbrev C_rank_Rank_Key : AFunc := C26
def C40 : AFunc := ⟨15, [.tmp 4],
(.seq (.ops (⟨(some 4), none, .p .mov, [.c (.int .i64 0)]⟩ ::
 []))
(.seq (.block 0 (.seq (.ops (⟨(some 6), none, .p .mov, [.t 0]⟩ ::
 ⟨(some 7), none, .call, [.c (.func (.func 44) [] []), .t 6]⟩ ::
 ⟨(some 5), none, .p .mov, [.t 7]⟩ ::
 []))
(.cond (.t 5)
(.seq (.ops (⟨(some 4), none, .p .mov, [.c (.int .i64 1)]⟩ ::
 []))
.ret)
(.seq (.ops (⟨(some 9), none, .p .mov, [.t 1]⟩ ::
 ⟨(some 10), none, .p (.bin .lss), [.t 9, .c (.int .i64 0)]⟩ ::
 ⟨(some 11), none, .p .mov, [.t 10]⟩ ::
 ⟨(some 12), (some (11, false)), .p .mov, [.t 1]⟩ ::
 ⟨(some 13), (some (11, false)), .p (.bin .geq), [.t 12, .c (.int .i64 64)]⟩ ::
 ⟨(some 14), none, .p .pick, [.t 11, .c (.bool true), .t 13]⟩ ::
 ⟨(some 8), none, .p .mov, [.t 14]⟩ ::
 []))
(.cond (.t 8)
(.seq (.ops (⟨(some 4), none, .p .mov, [.c (.int .i64 9)]⟩ ::
 []))
.ret)
.skip)))))
(.seq (.ops (⟨(some 4), none, .p .mov, [.c (.int .i64 0)]⟩ ::
 []))
.ret)))⟩
abbrev f_rank_Rank_asked : Nat := 40
abbrev C_rank_Rank_asked : AFunc := C40
def C41 : AFunc := ⟨30, [.tmp 4, .tmp 5],
(.seq (.ops (⟨(some 4), none, .p .mov, [.c (.int .i64 0)]⟩ ::
 ⟨(some 5), none, .p .mov, [.c (.bool false)]⟩ ::
 []))
(.seq (.seq (.ops (⟨(some 6), none, .p .mov, [.t 0]⟩ ::
 ⟨(some 7), none, .p .mov, [.t 1]⟩ ::
 ⟨(some 8), none, .call, [.c (.func (.func 40) [] []), .t 6, .t 7]⟩ ::
 ⟨(some 9), none, .p (.bin .neq), [.t 8, .c (.int .i64 0)]⟩ ::
 []))
(.cond (.t 9)
(.seq (.ops (⟨(some 4), none, .p .mov, [.c (.int .i64 0)]⟩ ::
 ⟨(some 5), none, .p .mov, [.c (.bool false)]⟩ ::
 []))
.ret)
.skip))
(.seq (.dops (⟨(some 10), none, .p .mov, [.t 0]⟩ ::
 ⟨(some 11), none, .p .nilchk, [.t 10]⟩ ::
 ⟨(some 12), none, .p (.faddr 0), [.t 11]⟩ ::
 ⟨(some 13), none, .r .load1, [.t 12]⟩ ::
 ⟨(some 14), none, .p .mov, [.t 1]⟩ ::
 ⟨(some 15), none, .p .nilchk, [.t 13]⟩ ::
 ⟨(some 16), none, .p (.faddr 1), [.t 15]⟩ ::
 ⟨(some 17), none, .p (.iaddrA 1 64), [.t 16, .t 14]⟩ ::
 ⟨(some 18), none, .r .load1, [.t 17]⟩ ::
 ⟨(some 19), none, .p (.bin .sub), [.t 18, .c (.int .i64 1)]⟩ ::
 ⟨(some 20), none, .p .mov, [.t 0]⟩ ::
 ⟨(some 21), none, .p .nilchk, [.t 20]⟩ ::
 ⟨(some 22), none, .p (.faddr 0), [.t 21]⟩ ::
 ⟨(some 23), none, .r .load1, [.t 22]⟩ ::
 ⟨(some 24), none, .p .mov, [.t 1]⟩ ::
 ⟨(some 25), none, .p .nilchk, [.t 23]⟩ ::
 ⟨(some 26), none, .p (.faddr 1), [.t 25]⟩ ::
 ⟨(some 27), none, .p (.iaddrA 1 64), [.t 26, .t 24]⟩ ::
 ⟨(some 28), none, .r .load1, [.t 27]⟩ ::
 ⟨(some 29), none, .p (.bin .gtr), [.t 28, .c (.int .i64 0)]⟩ ::
 ⟨(some 4), none, .p .mov, [.t 19]⟩ ::
 ⟨(some 5), none, .p .mov, [.t 29]⟩ ::
 []) ([] :: [] :: [] :: [] :: [] :: [] :: [] :: [] :: [] :: [] :: [] :: [] :: [] :: [] :: [] :: [] :: [] :: [] :: [] :: [] :: [] :: [] :: []))
.ret)))⟩
abbrev f_rank_Rank_at : Nat := 41
abbrev C_rank_Rank_at : AFunc := C41
def L_rank_heaped_up_0 : AC := (.seq (.seq (.dops (⟨(some 12), none, .p .mov, [.t 1]⟩ ::
 ⟨(some 13), none, .p (.bin .gtr), [.t 12, .c (.int .i64 0)]⟩ ::
 ⟨(some 14), none, .p .mov, [.t 13]⟩ ::
 ⟨(some 15), (some (14, true)), .r (.loadN 2), [.t 4]⟩ ::
 ⟨(some 16), (some (14, true)), .p .mov, [.t 0]⟩ ::
 ⟨(some 17), (some (14, true)), .p .nilchk, [.t 16]⟩ ::
 ⟨(some 18), (some (14, true)), .p (.faddr 0), [.t 17]⟩ ::
 ⟨(some 19), (some (14, true)), .r .load1, [.t 18]⟩ ::
 ⟨(some 20), (some (14, true)), .p .mov, [.t 1]⟩ ::
 ⟨(some 21), (some (14, true)), .p (.bin .sub), [.t 20, .c (.int .i64 1)]⟩ ::
 ⟨(some 22), (some (14, true)), .p (.bin .quo), [.t 21, .c (.int .i64 2)]⟩ ::
 ⟨(some 23), (some (14, true)), .p (.iaddrS 2), [.t 19, .t 22]⟩ ::
 ⟨(some 24), (some (14, true)), .r (.loadN 2), [.t 23]⟩ ::
 ⟨(some 25), (some (14, true)), .call, [.c (.func (.func 63) [] []), .t 15, .t 24]⟩ ::
 ⟨(some 26), none, .p .pick, [.t 14, .t 25, .c (.bool false)]⟩ ::
 []) ([] :: [] :: [] :: [] :: [] :: [] :: [] :: [] :: [] :: [] :: [] :: [] :: [] :: [] :: [] :: []))
(.cond (.t 26)
.skip
(.exit 0)))
(.block 1 (.seq (.ops (⟨(some 27), none, .p .mov, [.t 0]⟩ ::
 ⟨(some 28), none, .p .mov, [.t 1]⟩ ::
 ⟨(some 29), none, .p .mov, [.t 0]⟩ ::
 ⟨(some 30), none, .p .nilchk, [.t 29]⟩ ::
 ⟨(some 31), none, .p (.faddr 0), [.t 30]⟩ ::
 ⟨(some 32), none, .r .load1, [.t 31]⟩ ::
 ⟨(some 33), none, .p .mov, [.t 1]⟩ ::
 ⟨(some 34), none, .p (.bin .sub), [.t 33, .c (.int .i64 1)]⟩ ::
 ⟨(some 35), none, .p (.bin .quo), [.t 34, .c (.int .i64 2)]⟩ ::
 ⟨(some 36), none, .p (.iaddrS 2), [.t 32, .t 35]⟩ ::
 ⟨(some 37), none, .r (.loadN 2), [.t 36]⟩ ::
 ⟨(some 38), none, .call, [.c (.func (.func 64) [] []), .t 27, .t 28, .t 37]⟩ ::
 []))
(.ops (⟨(some 39), none, .p .mov, [.t 1]⟩ ::
 ⟨(some 40), none, .p (.bin .sub), [.t 39, .c (.int .i64 1)]⟩ ::
 ⟨(some 41), none, .p (.bin .quo), [.t 40, .c (.int .i64 2)]⟩ ::
 ⟨(some 1), none, .p .mov, [.t 41]⟩ ::
 [])))))
def C42 : AFunc := ⟨46, [],
(.seq (.ops (⟨(some 5), none, .p .mov, [.t 0]⟩ ::
 ⟨(some 6), none, .p .nilchk, [.t 5]⟩ ::
 ⟨(some 7), none, .p (.faddr 0), [.t 6]⟩ ::
 ⟨(some 8), none, .r .load1, [.t 7]⟩ ::
 ⟨(some 9), none, .p .mov, [.t 1]⟩ ::
 ⟨(some 10), none, .p (.iaddrS 2), [.t 8, .t 9]⟩ ::
 ⟨(some 11), none, .r (.loadN 2), [.t 10]⟩ ::
 ⟨(some 4), none, .a (.alloc [(.int .i64 0), (.int .i64 0)]), []⟩ ::
 ⟨none, none, .e (.store 2), [.t 4, .t 11]⟩ ::
 []))
(.seq (.block 0 (.loop L_rank_heaped_up_0))
(.ops (⟨(some 42), none, .p .mov, [.t 0]⟩ ::
 ⟨(some 43), none, .p .mov, [.t 1]⟩ ::
 ⟨(some 44), none, .r (.loadN 2), [.t 4]⟩ ::
 ⟨(some 45), none, .call, [.c (.func (.func 64) [] []), .t 42, .t 43, .t 44]⟩ ::
 []))))⟩
abbrev f_rank_heaped_up : Nat := 42
abbrev C_rank_heaped_up : AFunc := C42
def C43 : AFunc := ⟨60, [],
(.seq (.ops (⟨(some 6), none, .p .mov, [.t 0]⟩ ::
 ⟨(some 7), none, .p .nilchk, [.t 6]⟩ ::
 ⟨(some 8), none, .p (.faddr 0), [.t 7]⟩ ::
 ⟨(some 9), none, .r .load1, [.t 8]⟩ ::
 ⟨(some 10), none, .p .lenS, [.t 9]⟩ ::
 ⟨(some 11), none, .p (.bin .sub), [.t 10, .c (.int .i64 1)]⟩ ::
 ⟨(some 4), none, .p .mov, [.t 11]⟩ ::
 []))
(.seq (.ops (⟨(some 12), none, .p .mov, [.t 0]⟩ ::
 ⟨(some 13), none, .p .nilchk, [.t 12]⟩ ::
 ⟨(some 14), none, .p (.faddr 0), [.t 13]⟩ ::
 ⟨(some 15), none, .r .load1, [.t 14]⟩ ::
 ⟨(some 16), none, .p .mov, [.t 4]⟩ ::
 ⟨(some 17), none, .p (.iaddrS 2), [.t 15, .t 16]⟩ ::
 ⟨(some 18), none, .r (.loadN 2), [.t 17]⟩ ::
 ⟨(some 5), none, .a (.alloc [(.int .i64 0), (.int .i64 0)]), []⟩ ::
 ⟨none, none, .e (.store 2), [.t 5, .t 18]⟩ ::
 []))
(.seq (.dops (⟨(some 19), none, .p .mov, [.t 0]⟩ ::
 ⟨(some 20), none, .p .mov, [.t 0]⟩ ::
 ⟨(some 21), none, .p .nilchk, [.t 20]⟩ ::
 ⟨(some 22), none, .p (.faddr 0), [.t 21]⟩ ::
 ⟨(some 23), none, .r .load1, [.t 22]⟩ ::
 ⟨(some 24), none, .p .mov, [.t 1]⟩ ::
 ⟨(some 25), none, .p (.iaddrS 2), [.t 23, .t 24]⟩ ::
 ⟨(some 26), none, .p (.faddr 0), [.t 25]⟩ ::
 ⟨(some 27), none, .r .load1, [.t 26]⟩ ::
 ⟨(some 28), none, .p .nilchk, [.t 19]⟩ ::
 ⟨(some 29), none, .p (.faddr 1), [.t 28]⟩ ::
 ⟨(some 30), none, .p (.iaddrA 1 64), [.t 29, .t 27]⟩ ::
 ⟨none, none, .e (.store 1), [.t 30, .c (.int .i64 0)]⟩ ::
 []) ([] :: [] :: [] :: [] :: [] :: [] :: [] :: [] :: [] :: [] :: [] :: [] :: [] :: []))
(.seq (.ops (⟨(some 31), none, .p .mov, [.t 0]⟩ ::
 ⟨(some 32), none, .p .mov, [.t 0]⟩ ::
 ⟨(some 33), none, .p .nilchk, [.t 32]⟩ ::
 ⟨(some 34), none, .p (.faddr 0), [.t 33]⟩ ::
 ⟨(some 35), none, .r .load1, [.t 34]⟩ ::
 ⟨(some 36), none, .p .mov, [.t 4]⟩ ::
 ⟨(some 37), none, .p (.slice 2 false true false), [.t 35, .t 36]⟩ ::
 ⟨(some 38), none, .p .nilchk, [.t 31]⟩ ::
 ⟨(some 39), none, .p (.faddr 0), [.t 38]⟩ ::
 ⟨none, none, .e (.store 1), [.t 39, .t 37]⟩ ::
 []))
(.seq (.seq (.ops (⟨(some 40), none, .p .mov, [.t 1]⟩ ::
 ⟨(some 41), none, .p .mov, [.t 4]⟩ ::
 ⟨(some 42), none, .p (.bin .eql), [.t 40, .t 41]⟩ ::
 []))
(.cond (.t 42)
.ret
.skip))
(.seq (.ops (⟨(some 43), none, .p .mov, [.t 0]⟩ ::
 ⟨(some 44), none, .p .mov, [.t 1]⟩ ::
 ⟨(some 45), none, .r (.loadN 2), [.t 5]⟩ ::
 ⟨(some 46), none, .call, [.c (.func (.func 64) [] []), .t 43, .t 44, .t 45]⟩ ::
 []))
(.seq (.ops (⟨(some 47), none, .p .mov, [.t 0]⟩ ::
 ⟨(some 48), none, .p .mov, [.t 1]⟩ ::
 ⟨(some 49), none, .call, [.c (.func (.func 42) [] []), .t 47, .t 48]⟩ ::
 []))
(.dops (⟨(some 50), none, .p .mov, [.t 0]⟩ ::
 ⟨(some 51), none, .p .mov, [.t 0]⟩ ::
 ⟨(some 52), none, .p (.faddr 0), [.t 5]⟩ ::
 ⟨(some 53), none, .r .load1, [.t 52]⟩ ::
 ⟨(some 54), none, .p .nilchk, [.t 51]⟩ ::
 ⟨(some 55), none, .p (.faddr 1), [.t 54]⟩ ::
 ⟨(some 56), none, .p (.iaddrA 1 64), [.t 55, .t 53]⟩ ::
 ⟨(some 57), none, .r .load1, [.t 56]⟩ ::
 ⟨(some 58), none, .p (.bin .sub), [.t 57, .c (.int .i64 1)]⟩ ::
 ⟨(some 59), none, .call, [.c (.func (.func 65) [] []), .t 50, .t 58]⟩ ::
 []) ([] :: [] :: [] :: [] :: [] :: [] :: [] :: [] :: [] :: [] :: [])))))))))⟩
abbrev f_rank_heaped_cut : Nat := 43
abbrev C_rank_heaped_cut : AFunc := C43
def C44 : AFunc := ⟨12, [.tmp 2],
(.seq (.ops (⟨(some 2), none, .p .mov, [.c (.bool false)]⟩ ::
 []))
(.seq (.ops (⟨(some 3), none, .p .mov, [.t 0]⟩ ::
 ⟨(some 4), none, .p (.eq .nilptr), [.t 3, .c .nilp]⟩ ::
 ⟨(some 5), none, .p .mov, [.t 4]⟩ ::
 ⟨(some 6), (some (5, false)), .p .mov, [.t 0]⟩ ::
 ⟨(some 7), (some (5, false)), .p .nilchk, [.t 6]⟩ ::
 ⟨(some 8), (some (5, false)), .p (.faddr 0), [.t 7]⟩ ::
 ⟨(some 9), (some (5, false)), .r .load1, [.t 8]⟩ ::
 ⟨(some 10), (some (5, false)), .p (.eq .nilptr), [.t 9, .c .nilp]⟩ ::
 ⟨(some 11), none, .p .pick, [.t 5, .c (.bool true), .t 10]⟩ ::
 ⟨(some 2), none, .p .mov, [.t 11]⟩ ::
 []))
.ret))⟩
abbrev f_rank_Rank_none : Nat := 44
abbrev C_rank_Rank_none : AFunc := C44
def C45 : AFunc := ⟨10, [.tmp 2],
(.seq (.ops (⟨(some 2), none, .p .mov, [.c (.int .i64 0)]⟩ ::
 []))
(.seq (.seq (.ops (⟨(some 3), none, .p .mov, [.t 0]⟩ ::
 ⟨(some 4), none, .p (.eq .nilptr), [.t 3, .c .nilp]⟩ ::
 []))
(.cond (.t 4)
(.seq (.ops (⟨(some 2), none, .p .mov, [.c (.int .i64 0)]⟩ ::
 []))
.ret)
.skip))
(.seq (.ops (⟨(some 5), none, .p .mov, [.t 0]⟩ ::
 ⟨(some 6), none, .p .nilchk, [.t 5]⟩ ::
 ⟨(some 7), none, .p (.faddr 0), [.t 6]⟩ ::
 ⟨(some 8), none, .r .load1, [.t 7]⟩ ::
 ⟨(some 9), none, .p .lenS, [.t 8]⟩ ::
 ⟨(some 2), none, .p .mov, [.t 9]⟩ ::
 []))
.ret)))⟩
abbrev f_rank_heaped_Len : Nat := 45
abbrev C_rank_heaped_Len : AFunc := C45
def C46 : AFunc := ⟨8, [.tmp 2],
(.seq (.ops (⟨(some 2), none, .p .mov, [.c .nils]⟩ ::
 []))
(.seq (.seq (.ops (⟨(some 3), none, .p .mov, [.t 0]⟩ ::
 ⟨(some 4), none, .p (.eq .nilsl), [.t 3, .c .nils]⟩ ::
 []))
(.cond (.t 4)
(.seq (.ops (⟨(some 2), none, .p .mov, [.c .nils]⟩ ::
 []))
.ret)
.skip))
(.seq (.ops (⟨(some 5), none, .a (.bslice [(.int .i64 0), (.int .i64 0)] 0 2 []), []⟩ ::
 ⟨(some 6), none, .p .mov, [.t 0]⟩ ::
 ⟨(some 7), none, .e (.append 2 16), [.t 5, .t 6]⟩ ::
 ⟨(some 2), none, .p .mov, [.t 7]⟩ ::
 []))
.ret)))⟩
abbrev f_slices_Clone_rank_one_rank_one : Nat := 46
abbrev C_slices_Clone_rank_one_rank_one : AFunc := C46
def C47 : AFunc := ⟨14, [],
(.seq (.ops (⟨(some 5), none, .p .mov, [.t 0]⟩ ::
 ⟨(some 6), none, .p .lenS, [.t 5]⟩ ::
 ⟨(some 4), none, .p .mov, [.t 6]⟩ ::
 []))
(.ops (⟨(some 7), none, .p .mov, [.t 0]⟩ ::
 ⟨(some 8), none, .p .mov, [.t 4]⟩ ::
 ⟨(some 9), none, .p .mov, [.t 4]⟩ ::
 ⟨(some 10), none, .p (.conv .u64), [.t 9]⟩ ::
 ⟨(some 11), none, .call, [.c (.func (.func 67) [] []), .t 10]⟩ ::
 ⟨(some 12), none, .p .mov, [.t 1]⟩ ::
 ⟨(some 13), none, .call, [.c (.func (.func 66) [] []), .t 7, .c (.int .i64 0), .t 8, .t 11, .t 12]⟩ ::
 [])))⟩
abbrev f_slices_SortFunc_rank_one_rank_one : Nat := 47
abbrev C_slices_SortFunc_rank_one_rank_one : AFunc := C47
def C48 : AFunc := ⟨17, [.tmp 4],
(.seq (.ops (⟨(some 2), none, .a .box, [.t 0]⟩ ::
 ⟨(some 3), none, .a .box, [.t 1]⟩ ::
 ⟨(some 4), none, .p .mov, [.c (.int .i64 0)]⟩ ::
 []))
(.seq (.dops (⟨(some 5), none, .p (.faddr 1), [.t 2]⟩ ::
 ⟨(some 6), none, .r .load1, [.t 5]⟩ ::
 ⟨(some 7), none, .p (.faddr 1), [.t 3]⟩ ::
 ⟨(some 8), none, .r .load1, [.t 7]⟩ ::
 ⟨(some 9), none, .call, [.c (.func (.func 50) [] []), .t 6, .t 8]⟩ ::
 ⟨(some 10), none, .p (.faddr 0), [.t 2]⟩ ::
 ⟨(some 11), none, .r .load1, [.t 10]⟩ ::
 ⟨(some 12), none, .p (.faddr 0), [.t 3]⟩ ::
 ⟨(some 13), none, .r .load1, [.t 12]⟩ ::
 ⟨(some 14), none, .call, [.c (.func (.func 50) [] []), .t 11, .t 13]⟩ ::
 ⟨(some 15), none, .a (.bslice [(.int .i64 0)] 2 1 [0, 1]), [.t 9, .t 14]⟩ ::
 ⟨(some 16), none, .call, [.c (.func (.func 49) [] []), .t 15]⟩ ::
 ⟨(some 4), none, .p .mov, [.t 16]⟩ ::
 []) ([] :: [] :: [] :: [] :: [] :: [] :: [0, 5] :: [] :: [0, 5] :: [] :: [] :: [] :: [] :: []))
.ret))⟩
abbrev f_rank_Rank_Ids_1 : Nat := 48
abbrev C_rank_Rank_Ids_1 : AFunc := C48
def L_cmp_Or_int_0 : AC := (.seq (.ops (⟨(some 9), none, .p (.bin .lss), [.t 8, .t 7]⟩ ::
 []))
(.seq (.cond (.t 9)
.skip
(.exit 0))
(.seq (.block 1 (.seq (.ops (⟨(some 10), none, .p (.iaddrS 1), [.t 6, .t 8]⟩ ::
 ⟨(some 11), none, .r .load1, [.t 10]⟩ ::
 ⟨(some 5), none, .p .mov, [.t 11]⟩ ::
 []))
(.seq (.ops (⟨(some 12), none, .p .mov, [.t 5]⟩ ::
 ⟨(some 13), none, .p .mov, [.t 3]⟩ ::
 ⟨(some 14), none, .p (.bin .neq), [.t 12, .t 13]⟩ ::
 []))
(.cond (.t 14)
(.seq (.ops (⟨(some 15), none, .p .mov, [.t 5]⟩ ::
 ⟨(some 2), none, .p .mov, [.t 15]⟩ ::
 []))
.ret)
.skip))))
(.ops (⟨(some 16), none, .p (.bin .add), [.t 8, .c (.int .i64 1)]⟩ ::
 ⟨(some 8), none, .p .mov, [.t 16]⟩ ::
 [])))))
def C49 : AFunc := ⟨18, [.tmp 2],
(.seq (.ops (⟨(some 2), none, .p .mov, [.c (.int .i64 0)]⟩ ::
 []))
(.seq (.ops (⟨(some 3), none, .p .mov, [.c (.int .i64 0)]⟩ ::
 []))
(.seq (.seq (.ops (⟨(some 6), none, .p .mov, [.t 0]⟩ ::
 ⟨(some 7), none, .p .lenS, [.t 6]⟩ ::
 ⟨(some 8), none, .p .mov, [.c (.int .i64 0)]⟩ ::
 []))
(.block 0 (.loop L_cmp_Or_int_0)))
(.seq (.ops (⟨(some 17), none, .p .mov, [.t 3]⟩ ::
 ⟨(some 2), none, .p .mov, [.t 17]⟩ ::
 []))
.ret))))⟩
abbrev f_cmp_Or_int : Nat := 49
abbrev C_cmp_Or_int : AFunc := C49
def C50 : AFunc := ⟨20, [.tmp 4],
(.seq (.ops (⟨(some 4), none, .p .mov, [.c (.int .i64 0)]⟩ ::
 []))
(.seq (.ops (⟨(some 7), none, .p .mov, [.t 0]⟩ ::
 ⟨(some 8), none, .call, [.c (.func (.func 68) [] []), .t 7]⟩ ::
 ⟨(some 5), none, .p .mov, [.t 8]⟩ ::
 []))
(.seq (.ops (⟨(some 9), none, .p .mov, [.t 1]⟩ ::
 ⟨(some 10), none, .call, [.c (.func (.func 68) [] []), .t 9]⟩ ::
 ⟨(some 6), none, .p .mov, [.t 10]⟩ ::
 []))
(.seq (.seq (.ops (⟨(some 11), none, .p .mov, [.t 5]⟩ ::
 []))
(.cond (.t 11)
(.seq (.seq (.ops (⟨(some 12), none, .p .mov, [.t 6]⟩ ::
 []))
(.cond (.t 12)
(.seq (.ops (⟨(some 4), none, .p .mov, [.c (.int .i64 0)]⟩ ::
 []))
.ret)
.skip))
(.seq (.ops (⟨(some 4), none, .p .mov, [.c (.int .i64 (-1))]⟩ ::
 []))
.ret))
.skip))
(.seq (.seq (.ops (⟨(some 13), none, .p .mov, [.t 6]⟩ ::
 []))
(.cond (.t 13)
(.seq (.ops (⟨(some 4), none, .p .mov, [.c (.int .i64 1)]⟩ ::
 []))
.ret)
.skip))
(.seq (.seq (.ops (⟨(some 14), none, .p .mov, [.t 0]⟩ ::
 ⟨(some 15), none, .p .mov, [.t 1]⟩ ::
 ⟨(some 16), none, .p (.bin .lss), [.t 14, .t 15]⟩ ::
 []))
(.cond (.t 16)
(.seq (.ops (⟨(some 4), none, .p .mov, [.c (.int .i64 (-1))]⟩ ::
 []))
.ret)
.skip))
(.seq (.seq (.ops (⟨(some 17), none, .p .mov, [.t 0]⟩ ::
 ⟨(some 18), none, .p .mov, [.t 1]⟩ ::
 ⟨(some 19), none, .p (.bin .gtr), [.t 17, .t 18]⟩ ::
 []))
(.cond (.t 19)
(.seq (.ops (⟨(some 4), none, .p .mov, [.c (.int .i64 1)]⟩ ::
 []))
.ret)
.skip))
(.seq (.ops (⟨(some 4), none, .p .mov, [.c (.int .i64 0)]⟩ ::
 []))
.ret))))))))⟩
abbrev f_cmp_Compare_int : Nat := 50
abbrev C_cmp_Compare_int : AFunc := C50
def C51 : AFunc := ⟨22, [.tmp 6],
(.seq (.ops (⟨(some 6), none, .p .mov, [.c (.int .i64 0)]⟩ ::
 []))
(.seq (.seq (.ops (⟨(some 7), none, .p .mov, [.t 1]⟩ ::
 ⟨(some 8), none, .p (.bin .lss), [.t 7, .c (.int .i64 0)]⟩ ::
 ⟨(some 9), none, .p .mov, [.t 8]⟩ ::
 ⟨(some 10), (some (9, false)), .p .mov, [.t 1]⟩ ::
 ⟨(some 11), (some (9, false)), .p (.bin .gtr), [.t 10, .c (.int .i64 63)]⟩ ::
 ⟨(some 12), none, .p .pick, [.t 9, .c (.bool true), .t 11]⟩ ::
 []))
(.cond (.t 12)
(.seq (.ops (⟨(some 6), none, .p .mov, [.c (.int .i64 9)]⟩ ::
 []))
.ret)
.skip))
(.seq (.seq (.ops (⟨(some 13), none, .p .mov, [.t 0]⟩ ::
 ⟨(some 14), none, .p .mov, [.t 1]⟩ ::
 ⟨(some 15), none, .call, [.c (.func (.func 69) [] []), .t 13, .t 14]⟩ ::
 ⟨(some 16), none, .p (.bin .geq), [.t 15, .c (.int .i64 0)]⟩ ::
 []))
(.cond (.t 16)
(.seq (.ops (⟨(some 6), none, .p .mov, [.c (.int .i64 141)]⟩ ::
 []))
.ret)
.skip))
(.seq (.ops (⟨(some 17), none, .p .mov, [.t 0]⟩ ::
 ⟨(some 18), none, .p .mov, [.t 1]⟩ ::
 ⟨(some 19), none, .p .mov, [.t 2]⟩ ::
 ⟨(some 20), none, .p (.build [(.int .i64 0), (.int .i64 0)] [(0, 1), (1, 1)]), [.t 18, .t 19]⟩ ::
 ⟨(some 21), none, .call, [.c (.func (.func 70) [] []), .t 17, .t 20]⟩ ::
 []))
(.seq (.ops (⟨(some 6), none, .p .mov, [.c (.int .i64 0)]⟩ ::
 []))
.ret)))))⟩
abbrev f_escapementref02_Rank_Put : Nat := 51
abbrev C_escapementref02_Rank_Put : AFunc := C51
def C52 : AFunc := ⟨37, [.tmp 6],
(.seq (.ops (⟨(some 6), none, .p .mov, [.c (.int .i64 0)]⟩ ::
 []))
(.seq (.seq (.ops (⟨(some 8), none, .p .mov, [.t 1]⟩ ::
 ⟨(some 9), none, .p (.bin .lss), [.t 8, .c (.int .i64 0)]⟩ ::
 ⟨(some 10), none, .p .mov, [.t 9]⟩ ::
 ⟨(some 11), (some (10, false)), .p .mov, [.t 1]⟩ ::
 ⟨(some 12), (some (10, false)), .p (.bin .gtr), [.t 11, .c (.int .i64 63)]⟩ ::
 ⟨(some 13), none, .p .pick, [.t 10, .c (.bool true), .t 12]⟩ ::
 []))
(.cond (.t 13)
(.seq (.ops (⟨(some 6), none, .p .mov, [.c (.int .i64 9)]⟩ ::
 []))
.ret)
.skip))
(.seq (.ops (⟨(some 14), none, .p .mov, [.t 0]⟩ ::
 ⟨(some 15), none, .p .mov, [.t 1]⟩ ::
 ⟨(some 16), none, .call, [.c (.func (.func 69) [] []), .t 14, .t 15]⟩ ::
 ⟨(some 7), none, .p .mov, [.t 16]⟩ ::
 []))
(.seq (.seq (.ops (⟨(some 17), none, .p .mov, [.t 7]⟩ ::
 ⟨(some 18), none, .p (.bin .lss), [.t 17, .c (.int .i64 0)]⟩ ::
 []))
(.cond (.t 18)
(.seq (.ops (⟨(some 6), none, .p .mov, [.c (.int .i64 8)]⟩ ::
 []))
.ret)
.skip))
(.seq (.seq (.ops (⟨(some 19), none, .p .mov, [.t 2]⟩ ::
 ⟨(some 20), none, .p .mov, [.t 0]⟩ ::
 ⟨(some 21), none, .p .nilchk, [.t 20]⟩ ::
 ⟨(some 22), none, .p (.faddr 0), [.t 21]⟩ ::
 ⟨(some 23), none, .r .load1, [.t 22]⟩ ::
 ⟨(some 24), none, .p .mov, [.t 7]⟩ ::
 ⟨(some 25), none, .p (.iaddrS 2), [.t 23, .t 24]⟩ ::
 ⟨(some 26), none, .p (.faddr 1), [.t 25]⟩ ::
 ⟨(some 27), none, .r .load1, [.t 26]⟩ ::
 ⟨(some 28), none, .p (.bin .gtr), [.t 19, .t 27]⟩ ::
 []))
(.cond (.t 28)
(.seq (.ops (⟨(some 6), none, .p .mov, [.c (.int .i64 2)]⟩ ::
 []))
.ret)
.skip))
(.seq (.ops (⟨(some 29), none, .p .mov, [.t 0]⟩ ::
 ⟨(some 30), none, .p .mov, [.t 1]⟩ ::
 ⟨(some 31), none, .call, [.c (.func (.func 53) [] []), .t 29, .t 30]⟩ ::
 []))
(.seq (.ops (⟨(some 32), none, .p .mov, [.t 0]⟩ ::
 ⟨(some 33), none, .p .mov, [.t 1]⟩ ::
 ⟨(some 34), none, .p .mov, [.t 2]⟩ ::
 ⟨(some 35), none, .p (.build [(.int .i64 0), (.int .i64 0)] [(0, 1), (1, 1)]), [.t 33, .t 34]⟩ ::
 ⟨(some 36), none, .call, [.c (.func (.func 70) [] []), .t 32, .t 35]⟩ ::
 []))
(.seq (.ops (⟨(some 6), none, .p .mov, [.c (.int .i64 0)]⟩ ::
 []))
.ret))))))))⟩
abbrev f_escapementref02_Rank_Lower : Nat := 52
abbrev C_escapementref02_Rank_Lower : AFunc := C52
def L_escapementref02_Rank_Remove_0 : AC := (.seq (.seq (.ops (⟨(some 8), none, .p .mov, [.t 6]⟩ ::
 ⟨(some 9), none, .p .mov, [.t 0]⟩ ::
 ⟨(some 10), none, .p .nilchk, [.t 9]⟩ ::
 ⟨(some 11), none, .p (.faddr 0), [.t 10]⟩ ::
 ⟨(some 12), none, .r .load1, [.t 11]⟩ ::
 ⟨(some 13), none, .p .lenS, [.t 12]⟩ ::
 ⟨(some 14), none, .p (.bin .lss), [.t 8, .t 13]⟩ ::
 []))
(.cond (.t 14)
.skip
(.exit 0)))
(.seq (.block 1 (.seq (.ops (⟨(some 17), none, .p .mov, [.t 0]⟩ ::
 ⟨(some 18), none, .p .nilchk, [.t 17]⟩ ::
 ⟨(some 19), none, .p (.faddr 0), [.t 18]⟩ ::
 ⟨(some 20), none, .r .load1, [.t 19]⟩ ::
 ⟨(some 21), none, .p .mov, [.t 6]⟩ ::
 ⟨(some 22), none, .p (.iaddrS 2), [.t 20, .t 21]⟩ ::
 ⟨(some 23), none, .p (.faddr 0), [.t 22]⟩ ::
 ⟨(some 24), none, .r .load1, [.t 23]⟩ ::
 ⟨(some 25), none, .p .mov, [.t 1]⟩ ::
 ⟨(some 26), none, .p (.bin .neq), [.t 24, .t 25]⟩ ::
 []))
(.cond (.t 26)
(.ops (⟨(some 27), none, .p .mov, [.t 5]⟩ ::
 ⟨(some 28), none, .p .mov, [.t 0]⟩ ::
 ⟨(some 29), none, .p .nilchk, [.t 28]⟩ ::
 ⟨(some 30), none, .p (.faddr 0), [.t 29]⟩ ::
 ⟨(some 31), none, .r .load1, [.t 30]⟩ ::
 ⟨(some 32), none, .p .mov, [.t 6]⟩ ::
 ⟨(some 33), none, .p (.iaddrS 2), [.t 31, .t 32]⟩ ::
 ⟨(some 34), none, .r (.loadN 2), [.t 33]⟩ ::
 ⟨(some 35), none, .a (.bslice [(.int .i64 0), (.int .i64 0)] 1 2 [0]), [.t 34]⟩ ::
 ⟨(some 36), none, .e (.append 2 16), [.t 27, .t 35]⟩ ::
 ⟨(some 5), none, .p .mov, [.t 36]⟩ ::
 []))
.skip)))
(.ops (⟨(some 15), none, .p .mov, [.t 6]⟩ ::
 ⟨(some 16), none, .p (.bin .add), [.t 15, .c (.int .i64 1)]⟩ ::
 ⟨(some 6), none, .p .mov, [.t 16]⟩ ::
 []))))
def C53 : AFunc := ⟨50, [.tmp 4],
(.seq (.ops (⟨(some 4), none, .p .mov, [.c (.bool false)]⟩ ::
 []))
(.seq (.ops (⟨(some 5), none, .p .mov, [.c .nils]⟩ ::
 []))
(.seq (.seq (.ops (⟨(some 6), none, .p .mov, [.c (.int .i64 0)]⟩ ::
 []))
(.block 0 (.loop L_escapementref02_Rank_Remove_0)))
(.seq (.ops (⟨(some 37), none, .p .mov, [.t 5]⟩ ::
 ⟨(some 38), none, .p .lenS, [.t 37]⟩ ::
 ⟨(some 39), none, .p .mov, [.t 0]⟩ ::
 ⟨(some 40), none, .p .nilchk, [.t 39]⟩ ::
 ⟨(some 41), none, .p (.faddr 0), [.t 40]⟩ ::
 ⟨(some 42), none, .r .load1, [.t 41]⟩ ::
 ⟨(some 43), none, .p .lenS, [.t 42]⟩ ::
 ⟨(some 44), none, .p (.bin .lss), [.t 38, .t 43]⟩ ::
 ⟨(some 7), none, .p .mov, [.t 44]⟩ ::
 []))
(.seq (.ops (⟨(some 45), none, .p .mov, [.t 0]⟩ ::
 ⟨(some 46), none, .p .mov, [.t 5]⟩ ::
 ⟨(some 47), none, .p .nilchk, [.t 45]⟩ ::
 ⟨(some 48), none, .p (.faddr 0), [.t 47]⟩ ::
 ⟨none, none, .e (.store 1), [.t 48, .t 46]⟩ ::
 []))
(.seq (.ops (⟨(some 49), none, .p .mov, [.t 7]⟩ ::
 ⟨(some 4), none, .p .mov, [.t 49]⟩ ::
 []))
.ret))))))⟩
abbrev f_escapementref02_Rank_Remove : Nat := 53
abbrev C_escapementref02_Rank_Remove : AFunc := C53
def C54 : AFunc := ⟨21, [.tmp 2, .tmp 3, .tmp 4],
(.seq (.ops (⟨(some 2), none, .p .mov, [.c (.int .i64 0)]⟩ ::
 ⟨(some 3), none, .p .mov, [.c (.int .i64 0)]⟩ ::
 ⟨(some 4), none, .p .mov, [.c (.bool false)]⟩ ::
 []))
(.seq (.ops (⟨(some 9), none, .p .mov, [.t 0]⟩ ::
 ⟨(some 10), none, .call, [.c (.func (.func 55) [] []), .t 9]⟩ ::
 ⟨(some 8), none, .p .mov, [.t 10]⟩ ::
 ⟨(some 11), none, .p (.ext 0), [.t 8]⟩ ::
 ⟨(some 12), none, .p (.ext 1), [.t 8]⟩ ::
 ⟨(some 13), none, .p (.ext 2), [.t 8]⟩ ::
 ⟨(some 5), none, .p .mov, [.t 11]⟩ ::
 ⟨(some 6), none, .p .mov, [.t 12]⟩ ::
 ⟨(some 7), none, .p .mov, [.t 13]⟩ ::
 []))
(.seq (.seq (.ops (⟨(some 14), none, .p .mov, [.t 7]⟩ ::
 []))
(.cond (.t 14)
(.ops (⟨(some 15), none, .p .mov, [.t 0]⟩ ::
 ⟨(some 16), none, .p .mov, [.t 5]⟩ ::
 ⟨(some 17), none, .call, [.c (.func (.func 53) [] []), .t 15, .t 16]⟩ ::
 []))
.skip))
(.seq (.ops (⟨(some 18), none, .p .mov, [.t 5]⟩ ::
 ⟨(some 19), none, .p .mov, [.t 6]⟩ ::
 ⟨(some 20), none, .p .mov, [.t 7]⟩ ::
 ⟨(some 2), none, .p .mov, [.t 18]⟩ ::
 ⟨(some 3), none, .p .mov, [.t 19]⟩ ::
 ⟨(some 4), none, .p .mov, [.t 20]⟩ ::
 []))
.ret))))⟩
abbrev f_escapementref02_Rank_Pop : Nat := 54
abbrev C_escapementref02_Rank_Pop : AFunc := C54
def C55 : AFunc := ⟨25, [.tmp 2, .tmp 3, .tmp 4],
(.seq (.ops (⟨(some 2), none, .p .mov, [.c (.int .i64 0)]⟩ ::
 ⟨(some 3), none, .p .mov, [.c (.int .i64 0)]⟩ ::
 ⟨(some 4), none, .p .mov, [.c (.bool false)]⟩ ::
 []))
(.seq (.seq (.ops (⟨(some 5), none, .p .mov, [.t 0]⟩ ::
 ⟨(some 6), none, .p .nilchk, [.t 5]⟩ ::
 ⟨(some 7), none, .p (.faddr 0), [.t 6]⟩ ::
 ⟨(some 8), none, .r .load1, [.t 7]⟩ ::
 ⟨(some 9), none, .p .lenS, [.t 8]⟩ ::
 ⟨(some 10), none, .p (.bin .eql), [.t 9, .c (.int .i64 0)]⟩ ::
 []))
(.cond (.t 10)
(.seq (.ops (⟨(some 2), none, .p .mov, [.c (.int .i64 0)]⟩ ::
 ⟨(some 3), none, .p .mov, [.c (.int .i64 0)]⟩ ::
 ⟨(some 4), none, .p .mov, [.c (.bool false)]⟩ ::
 []))
.ret)
.skip))
(.seq (.dops (⟨(some 11), none, .p .mov, [.t 0]⟩ ::
 ⟨(some 12), none, .p .nilchk, [.t 11]⟩ ::
 ⟨(some 13), none, .p (.faddr 0), [.t 12]⟩ ::
 ⟨(some 14), none, .r .load1, [.t 13]⟩ ::
 ⟨(some 15), none, .p (.iaddrS 2), [.t 14, .c (.int .i64 0)]⟩ ::
 ⟨(some 16), none, .p (.faddr 0), [.t 15]⟩ ::
 ⟨(some 17), none, .r .load1, [.t 16]⟩ ::
 ⟨(some 18), none, .p .mov, [.t 0]⟩ ::
 ⟨(some 19), none, .p .nilchk, [.t 18]⟩ ::
 ⟨(some 20), none, .p (.faddr 0), [.t 19]⟩ ::
 ⟨(some 21), none, .r .load1, [.t 20]⟩ ::
 ⟨(some 22), none, .p (.iaddrS 2), [.t 21, .c (.int .i64 0)]⟩ ::
 ⟨(some 23), none, .p (.faddr 1), [.t 22]⟩ ::
 ⟨(some 24), none, .r .load1, [.t 23]⟩ ::
 ⟨(some 2), none, .p .mov, [.t 17]⟩ ::
 ⟨(some 3), none, .p .mov, [.t 24]⟩ ::
 ⟨(some 4), none, .p .mov, [.c (.bool true)]⟩ ::
 []) ([] :: [] :: [] :: [] :: [] :: [] :: [] :: [] :: [] :: [] :: [] :: [] :: [] :: [] :: [] :: [] :: [] :: []))
.ret)))⟩
abbrev f_escapementref02_Rank_First : Nat := 55
abbrev C_escapementref02_Rank_First : AFunc := C55
def C56 : AFunc := ⟨20, [.tmp 4, .tmp 5],
(.seq (.ops (⟨(some 4), none, .p .mov, [.c (.int .i64 0)]⟩ ::
 ⟨(some 5), none, .p .mov, [.c (.bool false)]⟩ ::
 []))
(.seq (.ops (⟨(some 7), none, .p .mov, [.t 0]⟩ ::
 ⟨(some 8), none, .p .mov, [.t 1]⟩ ::
 ⟨(some 9), none, .call, [.c (.func (.func 69) [] []), .t 7, .t 8]⟩ ::
 ⟨(some 6), none, .p .mov, [.t 9]⟩ ::
 []))
(.seq (.seq (.ops (⟨(some 10), none, .p .mov, [.t 6]⟩ ::
 ⟨(some 11), none, .p (.bin .lss), [.t 10, .c (.int .i64 0)]⟩ ::
 []))
(.cond (.t 11)
(.seq (.ops (⟨(some 4), none, .p .mov, [.c (.int .i64 0)]⟩ ::
 ⟨(some 5), none, .p .mov, [.c (.bool false)]⟩ ::
 []))
.ret)
.skip))
(.seq (.ops (⟨(some 12), none, .p .mov, [.t 0]⟩ ::
 ⟨(some 13), none, .p .nilchk, [.t 12]⟩ ::
 ⟨(some 14), none, .p (.faddr 0), [.t 13]⟩ ::
 ⟨(some 15), none, .r .load1, [.t 14]⟩ ::
 ⟨(some 16), none, .p .mov, [.t 6]⟩ ::
 ⟨(some 17), none, .p (.iaddrS 2), [.t 15, .t 16]⟩ ::
 ⟨(some 18), none, .p (.faddr 1), [.t 17]⟩ ::
 ⟨(some 19), none, .r .load1, [.t 18]⟩ ::
 ⟨(some 4), none, .p .mov, [.t 19]⟩ ::
 ⟨(some 5), none, .p .mov, [.c (.bool true)]⟩ ::
 []))
.ret))))⟩
abbrev f_escapementref02_Rank_Key : Nat := 56
abbrev C_escapementref02_Rank_Key : AFunc := C56
def C57 : AFunc := ⟨8, [.tmp 2],
(.seq (.ops (⟨(some 2), none, .p .mov, [.c (.int .i64 0)]⟩ ::
 []))
(.seq (.ops (⟨(some 3), none, .p .mov, [.t 0]⟩ ::
 ⟨(some 4), none, .p .nilchk, [.t 3]⟩ ::
 ⟨(some 5), none, .p (.faddr 0), [.t 4]⟩ ::
 ⟨(some 6), none, .r .load1, [.t 5]⟩ ::
 ⟨(some 7), none, .p .lenS, [.t 6]⟩ ::
 ⟨(some 2), none, .p .mov, [.t 7]⟩ ::
 []))
.ret))⟩
abbrev f_escapementref02_Rank_Len : Nat := 57
abbrev C_escapementref02_Rank_Len : AFunc := C57
def C63 : AFunc := ⟨24, [.tmp 4],
(.seq (.ops (⟨(some 2), none, .a .box, [.t 0]⟩ ::
 ⟨(some 3), none, .a .box, [.t 1]⟩ ::
 ⟨(some 4), none, .p .mov, [.c (.bool false)]⟩ ::
 []))
(.seq (.ops (⟨(some 5), none, .p (.faddr 1), [.t 2]⟩ ::
 ⟨(some 6), none, .r .load1, [.t 5]⟩ ::
 ⟨(some 7), none, .p (.faddr 1), [.t 3]⟩ ::
 ⟨(some 8), none, .r .load1, [.t 7]⟩ ::
 ⟨(some 9), none, .p (.bin .lss), [.t 6, .t 8]⟩ ::
 ⟨(some 10), none, .p .mov, [.t 9]⟩ ::
 ⟨(some 11), (some (10, false)), .p (.faddr 1), [.t 2]⟩ ::
 ⟨(some 12), (some (10, false)), .r .load1, [.t 11]⟩ ::
 ⟨(some 13), (some (10, false)), .p (.faddr 1), [.t 3]⟩ ::
 ⟨(some 14), (some (10, false)), .r .load1, [.t 13]⟩ ::
 ⟨(some 15), (some (10, false)), .p (.bin .eql), [.t 12, .t 14]⟩ ::
 ⟨(some 16), (some (10, false)), .p .mov, [.t 15]⟩ ::
 ⟨(some 17), (some (16, true)), .p (.faddr 0), [.t 2]⟩ ::
 ⟨(some 18), (some (16, true)), .r .load1, [.t 17]⟩ ::
 ⟨(some 19), (some (16, true)), .p (.faddr 0), [.t 3]⟩ ::
 ⟨(some 20), (some (16, true)), .r .load1, [.t 19]⟩ ::
 ⟨(some 21), (some (16, true)), .p (.bin .lss), [.t 18, .t 20]⟩ ::
 ⟨(some 22), (some (10, false)), .p .pick, [.t 16, .t 21, .c (.bool false)]⟩ ::
 ⟨(some 23), none, .p .pick, [.t 10, .c (.bool true), .t 22]⟩ ::
 ⟨(some 4), none, .p .mov, [.t 23]⟩ ::
 []))
.ret))⟩
abbrev f_rank_one_ahead : Nat := 63
abbrev C_rank_one_ahead : AFunc := C63
def C64 : AFunc := ⟨21, [],
(.seq (.ops (⟨(some 5), none, .a .box, [.t 2]⟩ ::
 []))
(.seq (.dops (⟨(some 6), none, .p .mov, [.t 0]⟩ ::
 ⟨(some 7), none, .p .nilchk, [.t 6]⟩ ::
 ⟨(some 8), none, .p (.faddr 0), [.t 7]⟩ ::
 ⟨(some 9), none, .r .load1, [.t 8]⟩ ::
 ⟨(some 10), none, .p .mov, [.t 1]⟩ ::
 ⟨(some 11), none, .r (.loadN 2), [.t 5]⟩ ::
 ⟨(some 12), none, .p (.iaddrS 2), [.t 9, .t 10]⟩ ::
 ⟨none, none, .e (.store 2), [.t 12, .t 11]⟩ ::
 []) ([] :: [] :: [] :: [] :: [] :: [] :: [] :: [] :: []))
(.dops (⟨(some 13), none, .p .mov, [.t 0]⟩ ::
 ⟨(some 14), none, .p (.faddr 0), [.t 5]⟩ ::
 ⟨(some 15), none, .r .load1, [.t 14]⟩ ::
 ⟨(some 16), none, .p .mov, [.t 1]⟩ ::
 ⟨(some 17), none, .p (.bin .add), [.t 16, .c (.int .i64 1)]⟩ ::
 ⟨(some 18), none, .p .nilchk, [.t 13]⟩ ::
 ⟨(some 19), none, .p (.faddr 1), [.t 18]⟩ ::
 ⟨(some 20), none, .p (.iaddrA 1 64), [.t 19, .t 15]⟩ ::
 ⟨none, none, .e (.store 1), [.t 20, .t 17]⟩ ::
 []) ([] :: [] :: [] :: [] :: [] :: [] :: [] :: [] :: [] :: []))))⟩
abbrev f_rank_heaped_lay : Nat := 64
abbrev C_rank_heaped_lay : AFunc := C64
def L_rank_heaped_down_0 : AC := (.block 1 (.seq (.ops (⟨(some 13), none, .p .mov, [.t 1]⟩ ::
 ⟨(some 14), none, .p (.bin .mul), [.c (.int .i64 2), .t 13]⟩ ::
 ⟨(some 15), none, .p (.bin .add), [.t 14, .c (.int .i64 1)]⟩ ::
 ⟨(some 5), none, .p .mov, [.t 15]⟩ ::
 []))
(.seq (.seq (.dops (⟨(some 16), none, .p .mov, [.t 5]⟩ ::
 ⟨(some 17), none, .p (.bin .add), [.t 16, .c (.int .i64 1)]⟩ ::
 ⟨(some 18), none, .p .mov, [.t 0]⟩ ::
 ⟨(some 19), none, .p .nilchk, [.t 18]⟩ ::
 ⟨(some 20), none, .p (.faddr 0), [.t 19]⟩ ::
 ⟨(some 21), none, .r .load1, [.t 20]⟩ ::
 ⟨(some 22), none, .p .lenS, [.t 21]⟩ ::
 ⟨(some 23), none, .p (.bin .lss), [.t 17, .t 22]⟩ ::
 ⟨(some 24), none, .p .mov, [.t 23]⟩ ::
 ⟨(some 25), (some (24, true)), .p .mov, [.t 0]⟩ ::
 ⟨(some 26), (some (24, true)), .p .nilchk, [.t 25]⟩ ::
 ⟨(some 27), (some (24, true)), .p (.faddr 0), [.t 26]⟩ ::
 ⟨(some 28), (some (24, true)), .r .load1, [.t 27]⟩ ::
 ⟨(some 29), (some (24, true)), .p .mov, [.t 5]⟩ ::
 ⟨(some 30), (some (24, true)), .p (.bin .add), [.t 29, .c (.int .i64 1)]⟩ ::
 ⟨(some 31), (some (24, true)), .p (.iaddrS 2), [.t 28, .t 30]⟩ ::
 ⟨(some 32), (some (24, true)), .r (.loadN 2), [.t 31]⟩ ::
 ⟨(some 33), (some (24, true)), .p .mov, [.t 0]⟩ ::
 ⟨(some 34), (some (24, true)), .p .nilchk, [.t 33]⟩ ::
 ⟨(some 35), (some (24, true)), .p (.faddr 0), [.t 34]⟩ ::
 ⟨(some 36), (some (24, true)), .r .load1, [.t 35]⟩ ::
 ⟨(some 37), (some (24, true)), .p .mov, [.t 5]⟩ ::
 ⟨(some 38), (some (24, true)), .p (.iaddrS 2), [.t 36, .t 37]⟩ ::
 ⟨(some 39), (some (24, true)), .r (.loadN 2), [.t 38]⟩ ::
 ⟨(some 40), (some (24, true)), .call, [.c (.func (.func 63) [] []), .t 32, .t 39]⟩ ::
 ⟨(some 41), none, .p .pick, [.t 24, .t 40, .c (.bool false)]⟩ ::
 []) ([] :: [] :: [] :: [] :: [] :: [] :: [] :: [] :: [] :: [] :: [] :: [] :: [] :: [] :: [] :: [] :: [] :: [] :: [] :: [] :: [] :: [] :: [] :: [] :: [] :: [] :: []))
(.cond (.t 41)
(.ops (⟨(some 42), none, .p .mov, [.t 5]⟩ ::
 ⟨(some 43), none, .p (.bin .add), [.t 42, .c (.int .i64 1)]⟩ ::
 ⟨(some 5), none, .p .mov, [.t 43]⟩ ::
 []))
.skip))
(.seq (.seq (.dops (⟨(some 44), none, .p .mov, [.t 5]⟩ ::
 ⟨(some 45), none, .p .mov, [.t 0]⟩ ::
 ⟨(some 46), none, .p .nilchk, [.t 45]⟩ ::
 ⟨(some 47), none, .p (.faddr 0), [.t 46]⟩ ::
 ⟨(some 48), none, .r .load1, [.t 47]⟩ ::
 ⟨(some 49), none, .p .lenS, [.t 48]⟩ ::
 ⟨(some 50), none, .p (.bin .geq), [.t 44, .t 49]⟩ ::
 ⟨(some 51), none, .p .mov, [.t 50]⟩ ::
 ⟨(some 52), (some (51, false)), .p .mov, [.t 0]⟩ ::
 ⟨(some 53), (some (51, false)), .p .nilchk, [.t 52]⟩ ::
 ⟨(some 54), (some (51, false)), .p (.faddr 0), [.t 53]⟩ ::
 ⟨(some 55), (some (51, false)), .r .load1, [.t 54]⟩ ::
 ⟨(some 56), (some (51, false)), .p .mov, [.t 5]⟩ ::
 ⟨(some 57), (some (51, false)), .p (.iaddrS 2), [.t 55, .t 56]⟩ ::
 ⟨(some 58), (some (51, false)), .r (.loadN 2), [.t 57]⟩ ::
 ⟨(some 59), (some (51, false)), .r (.loadN 2), [.t 4]⟩ ::
 ⟨(some 60), (some (51, false)), .call, [.c (.func (.func 63) [] []), .t 58, .t 59]⟩ ::
 ⟨(some 61), (some (51, false)), .p .not, [.t 60]⟩ ::
 ⟨(some 62), none, .p .pick, [.t 51, .c (.bool true), .t 61]⟩ ::
 []) ([] :: [] :: [] :: [] :: [] :: [] :: [] :: [] :: [] :: [] :: [] :: [] :: [] :: [] :: [] :: [] :: [] :: [] :: [] :: []))
(.cond (.t 62)
(.exit 0)
.skip))
(.seq (.ops (⟨(some 63), none, .p .mov, [.t 0]⟩ ::
 ⟨(some 64), none, .p .mov, [.t 1]⟩ ::
 ⟨(some 65), none, .p .mov, [.t 0]⟩ ::
 ⟨(some 66), none, .p .nilchk, [.t 65]⟩ ::
 ⟨(some 67), none, .p (.faddr 0), [.t 66]⟩ ::
 ⟨(some 68), none, .r .load1, [.t 67]⟩ ::
 ⟨(some 69), none, .p .mov, [.t 5]⟩ ::
 ⟨(some 70), none, .p (.iaddrS 2), [.t 68, .t 69]⟩ ::
 ⟨(some 71), none, .r (.loadN 2), [.t 70]⟩ ::
 ⟨(some 72), none, .call, [.c (.func (.func 64) [] []), .t 63, .t 64, .t 71]⟩ ::
 []))
(.ops (⟨(some 73), none, .p .mov, [.t 5]⟩ ::
 ⟨(some 1), none, .p .mov, [.t 73]⟩ ::
 [])))))))
def C65 : AFunc := ⟨78, [],
(.seq (.ops (⟨(some 6), none, .p .mov, [.t 0]⟩ ::
 ⟨(some 7), none, .p .nilchk, [.t 6]⟩ ::
 ⟨(some 8), none, .p (.faddr 0), [.t 7]⟩ ::
 ⟨(some 9), none, .r .load1, [.t 8]⟩ ::
 ⟨(some 10), none, .p .mov, [.t 1]⟩ ::
 ⟨(some 11), none, .p (.iaddrS 2), [.t 9, .t 10]⟩ ::
 ⟨(some 12), none, .r (.loadN 2), [.t 11]⟩ ::
 ⟨(some 4), none, .a (.alloc [(.int .i64 0), (.int .i64 0)]), []⟩ ::
 ⟨none, none, .e (.store 2), [.t 4, .t 12]⟩ ::
 []))
(.seq (.block 0 (.loop L_rank_heaped_down_0))
(.ops (⟨(some 74), none, .p .mov, [.t 0]⟩ ::
 ⟨(some 75), none, .p .mov, [.t 1]⟩ ::
 ⟨(some 76), none, .r (.loadN 2), [.t 4]⟩ ::
 ⟨(some 77), none, .call, [.c (.func (.func 64) [] []), .t 74, .t 75, .t 76]⟩ ::
 []))))⟩
abbrev f_rank_heaped_down : Nat := 65
abbrev C_rank_heaped_down : AFunc := C65
def L_slices_pdqsortCmpFunc_rank_one_0 : AC := (.block 1 (.seq (.ops (⟨(some 21), none, .p .mov, [.t 2]⟩ ::
 ⟨(some 22), none, .p .mov, [.t 1]⟩ ::
 ⟨(some 23), none, .p (.bin .sub), [.t 21, .t 22]⟩ ::
 ⟨(some 12), none, .p .mov, [.t 23]⟩ ::
 []))
(.seq (.seq (.ops (⟨(some 24), none, .p .mov, [.t 12]⟩ ::
 ⟨(some 25), none, .p (.bin .leq), [.t 24, .c (.int .i64 12)]⟩ ::
 []))
(.cond (.t 25)
(.seq (.ops (⟨(some 26), none, .p .mov, [.t 0]⟩ ::
 ⟨(some 27), none, .p .mov, [.t 1]⟩ ::
 ⟨(some 28), none, .p .mov, [.t 2]⟩ ::
 ⟨(some 29), none, .p .mov, [.t 4]⟩ ::
 ⟨(some 30), none, .call, [.c (.func (.func 71) [] []), .t 26, .t 27, .t 28, .t 29]⟩ ::
 []))
.ret)
.skip))
(.seq (.seq (.ops (⟨(some 31), none, .p .mov, [.t 3]⟩ ::
 ⟨(some 32), none, .p (.bin .eql), [.t 31, .c (.int .i64 0)]⟩ ::
 []))
(.cond (.t 32)
(.seq (.ops (⟨(some 33), none, .p .mov, [.t 0]⟩ ::
 ⟨(some 34), none, .p .mov, [.t 1]⟩ ::
 ⟨(some 35), none, .p .mov, [.t 2]⟩ ::
 ⟨(some 36), none, .p .mov, [.t 4]⟩ ::
 ⟨(some 37), none, .call, [.c (.func (.func 72) [] []), .t 33, .t 34, .t 35, .t 36]⟩ ::
 []))
.ret)
.skip))
(.seq (.seq (.ops (⟨(some 38), none, .p .mov, [.t 10]⟩ ::
 ⟨(some 39), none, .p .not, [.t 38]⟩ ::
 []))
(.cond (.t 39)
(.seq (.ops (⟨(some 40), none, .p .mov, [.t 0]⟩ ::
 ⟨(some 41), none, .p .mov, [.t 1]⟩ ::
 ⟨(some 42), none, .p .mov, [.t 2]⟩ ::
 ⟨(some 43), none, .p .mov, [.t 4]⟩ ::
 ⟨(some 44), none, .call, [.c (.func (.func 73) [] []), .t 40, .t 41, .t 42, .t 43]⟩ ::
 []))
(.ops (⟨(some 45), none, .p .mov, [.t 3]⟩ ::
 ⟨(some 46), none, .p (.bin .sub), [.t 45, .c (.int .i64 1)]⟩ ::
 ⟨(some 3), none, .p .mov, [.t 46]⟩ ::
 [])))
.skip))
(.seq (.ops (⟨(some 48), none, .p .mov, [.t 0]⟩ ::
 ⟨(some 49), none, .p .mov, [.t 1]⟩ ::
 ⟨(some 50), none, .p .mov, [.t 2]⟩ ::
 ⟨(some 51), none, .p .mov, [.t 4]⟩ ::
 ⟨(some 52), none, .call, [.c (.func (.func 74) [] []), .t 48, .t 49, .t 50, .t 51]⟩ ::
 ⟨(some 47), none, .p .mov, [.t 52]⟩ ::
 ⟨(some 53), none, .p (.ext 0), [.t 47]⟩ ::
 ⟨(some 54), none, .p (.ext 1), [.t 47]⟩ ::
 ⟨(some 13), none, .p .mov, [.t 53]⟩ ::
 ⟨(some 14), none, .p .mov, [.t 54]⟩ ::
 []))
(.seq (.seq (.ops (⟨(some 55), none, .p .mov, [.t 14]⟩ ::
 ⟨(some 56), none, .p (.bin .eql), [.t 55, .c (.int .i64 2)]⟩ ::
 []))
(.cond (.t 56)
(.seq (.ops (⟨(some 57), none, .p .mov, [.t 0]⟩ ::
 ⟨(some 58), none, .p .mov, [.t 1]⟩ ::
 ⟨(some 59), none, .p .mov, [.t 2]⟩ ::
 ⟨(some 60), none, .p .mov, [.t 4]⟩ ::
 ⟨(some 61), none, .call, [.c (.func (.func 75) [] []), .t 57, .t 58, .t 59, .t 60]⟩ ::
 []))
(.seq (.ops (⟨(some 62), none, .p .mov, [.t 2]⟩ ::
 ⟨(some 63), none, .p (.bin .sub), [.t 62, .c (.int .i64 1)]⟩ ::
 ⟨(some 64), none, .p .mov, [.t 13]⟩ ::
 ⟨(some 65), none, .p .mov, [.t 1]⟩ ::
 ⟨(some 66), none, .p (.bin .sub), [.t 64, .t 65]⟩ ::
 ⟨(some 67), none, .p (.bin .sub), [.t 63, .t 66]⟩ ::
 ⟨(some 13), none, .p .mov, [.t 67]⟩ ::
 []))
(.ops (⟨(some 14), none, .p .mov, [.c (.int .i64 1)]⟩ ::
 []))))
.skip))
(.seq (.seq (.ops (⟨(some 68), none, .p .mov, [.t 10]⟩ ::
 ⟨(some 69), none, .p .mov, [.t 68]⟩ ::
 ⟨(some 70), (some (69, true)), .p .mov, [.t 11]⟩ ::
 ⟨(some 71), none, .p .pick, [.t 69, .t 70, .c (.bool false)]⟩ ::
 ⟨(some 72), none, .p .mov, [.t 71]⟩ ::
 ⟨(some 73), (some (72, true)), .p .mov, [.t 14]⟩ ::
 ⟨(some 74), (some (72, true)), .p (.bin .eql), [.t 73, .c (.int .i64 1)]⟩ ::
 ⟨(some 75), none, .p .pick, [.t 72, .t 74, .c (.bool false)]⟩ ::
 []))
(.cond (.t 75)
(.seq (.ops (⟨(some 76), none, .p .mov, [.t 0]⟩ ::
 ⟨(some 77), none, .p .mov, [.t 1]⟩ ::
 ⟨(some 78), none, .p .mov, [.t 2]⟩ ::
 ⟨(some 79), none, .p .mov, [.t 4]⟩ ::
 ⟨(some 80), none, .call, [.c (.func (.func 76) [] []), .t 76, .t 77, .t 78, .t 79]⟩ ::
 []))
(.cond (.t 80)
.ret
.skip))
.skip))
(.seq (.seq (.dops (⟨(some 81), none, .p .mov, [.t 1]⟩ ::
 ⟨(some 82), none, .p (.bin .gtr), [.t 81, .c (.int .i64 0)]⟩ ::
 ⟨(some 83), none, .p .mov, [.t 82]⟩ ::
 ⟨(some 84), (some (83, true)), .p .mov, [.t 4]⟩ ::
 ⟨(some 85), (some (83, true)), .p .mov, [.t 0]⟩ ::
 ⟨(some 86), (some (83, true)), .p .mov, [.t 1]⟩ ::
 ⟨(some 87), (some (83, true)), .p (.bin .sub), [.t 86, .c (.int .i64 1)]⟩ ::
 ⟨(some 88), (some (83, true)), .p (.iaddrS 2), [.t 85, .t 87]⟩ ::
 ⟨(some 89), (some (83, true)), .r (.loadN 2), [.t 88]⟩ ::
 ⟨(some 90), (some (83, true)), .p .mov, [.t 0]⟩ ::
 ⟨(some 91), (some (83, true)), .p .mov, [.t 13]⟩ ::
 ⟨(some 92), (some (83, true)), .p (.iaddrS 2), [.t 90, .t 91]⟩ ::
 ⟨(some 93), (some (83, true)), .r (.loadN 2), [.t 92]⟩ ::
 ⟨(some 94), (some (83, true)), .call, [.t 84, .t 89, .t 93]⟩ ::
 ⟨(some 95), (some (83, true)), .p (.bin .lss), [.t 94, .c (.int .i64 0)]⟩ ::
 ⟨(some 96), (some (83, true)), .p .not, [.t 95]⟩ ::
 ⟨(some 97), none, .p .pick, [.t 83, .t 96, .c (.bool false)]⟩ ::
 []) ([] :: [] :: [] :: [] :: [] :: [] :: [] :: [] :: [] :: [] :: [] :: [] :: [] :: [] :: [] :: [] :: [] :: []))
(.cond (.t 97)
(.seq (.ops (⟨(some 98), none, .p .mov, [.t 0]⟩ ::
 ⟨(some 99), none, .p .mov, [.t 1]⟩ ::
 ⟨(some 100), none, .p .mov, [.t 2]⟩ ::
 ⟨(some 101), none, .p .mov, [.t 13]⟩ ::
 ⟨(some 102), none, .p .mov, [.t 4]⟩ ::
 ⟨(some 103), none, .call, [.c (.func (.func 77) [] []), .t 98, .t 99, .t 100, .t 101, .t 102]⟩ ::
 ⟨(some 15), none, .p .mov, [.t 103]⟩ ::
 []))
(.seq (.ops (⟨(some 104), none, .p .mov, [.t 15]⟩ ::
 ⟨(some 1), none, .p .mov, [.t 104]⟩ ::
 []))
(.exit 1)))
.skip))
(.seq (.ops (⟨(some 106), none, .p .mov, [.t 0]⟩ ::
 ⟨(some 107), none, .p .mov, [.t 1]⟩ ::
 ⟨(some 108), none, .p .mov, [.t 2]⟩ ::
 ⟨(some 109), none, .p .mov, [.t 13]⟩ ::
 ⟨(some 110), none, .p .mov, [.t 4]⟩ ::
 ⟨(some 111), none, .call, [.c (.func (.func 78) [] []), .t 106, .t 107, .t 108, .t 109, .t 110]⟩ ::
 ⟨(some 105), none, .p .mov, [.t 111]⟩ ::
 ⟨(some 112), none, .p (.ext 0), [.t 105]⟩ ::
 ⟨(some 113), none, .p (.ext 1), [.t 105]⟩ ::
 ⟨(some 16), none, .p .mov, [.t 112]⟩ ::
 ⟨(some 17), none, .p .mov, [.t 113]⟩ ::
 []))
(.seq (.ops (⟨(some 114), none, .p .mov, [.t 17]⟩ ::
 ⟨(some 11), none, .p .mov, [.t 114]⟩ ::
 []))
(.seq (.ops (⟨(some 115), none, .p .mov, [.t 16]⟩ ::
 ⟨(some 116), none, .p .mov, [.t 1]⟩ ::
 ⟨(some 117), none, .p (.bin .sub), [.t 115, .t 116]⟩ ::
 ⟨(some 118), none, .p .mov, [.t 2]⟩ ::
 ⟨(some 119), none, .p .mov, [.t 16]⟩ ::
 ⟨(some 120), none, .p (.bin .sub), [.t 118, .t 119]⟩ ::
 ⟨(some 18), none, .p .mov, [.t 117]⟩ ::
 ⟨(some 19), none, .p .mov, [.t 120]⟩ ::
 []))
(.seq (.ops (⟨(some 121), none, .p .mov, [.t 12]⟩ ::
 ⟨(some 122), none, .p (.bin .quo), [.t 121, .c (.int .i64 8)]⟩ ::
 ⟨(some 20), none, .p .mov, [.t 122]⟩ ::
 []))
(.seq (.ops (⟨(some 123), none, .p .mov, [.t 18]⟩ ::
 ⟨(some 124), none, .p .mov, [.t 19]⟩ ::
 ⟨(some 125), none, .p (.bin .lss), [.t 123, .t 124]⟩ ::
 []))
(.cond (.t 125)
(.seq (.ops (⟨(some 126), none, .p .mov, [.t 18]⟩ ::
 ⟨(some 127), none, .p .mov, [.t 20]⟩ ::
 ⟨(some 128), none, .p (.bin .geq), [.t 126, .t 127]⟩ ::
 ⟨(some 10), none, .p .mov, [.t 128]⟩ ::
 []))
(.seq (.ops (⟨(some 129), none, .p .mov, [.t 0]⟩ ::
 ⟨(some 130), none, .p .mov, [.t 1]⟩ ::
 ⟨(some 131), none, .p .mov, [.t 16]⟩ ::
 ⟨(some 132), none, .p .mov, [.t 3]⟩ ::
 ⟨(some 133), none, .p .mov, [.t 4]⟩ ::
 ⟨(some 134), none, .call, [.c (.func (.func 66) [] []), .t 129, .t 130, .t 131, .t 132, .t 133]⟩ ::
 []))
(.ops (⟨(some 135), none, .p .mov, [.t 16]⟩ ::
 ⟨(some 136), none, .p (.bin .add), [.t 135, .c (.int .i64 1)]⟩ ::
 ⟨(some 1), none, .p .mov, [.t 136]⟩ ::
 []))))
(.seq (.ops (⟨(some 137), none, .p .mov, [.t 19]⟩ ::
 ⟨(some 138), none, .p .mov, [.t 20]⟩ ::
 ⟨(some 139), none, .p (.bin .geq), [.t 137, .t 138]⟩ ::
 ⟨(some 10), none, .p .mov, [.t 139]⟩ ::
 []))
(.seq (.ops (⟨(some 140), none, .p .mov, [.t 0]⟩ ::
 ⟨(some 141), none, .p .mov, [.t 16]⟩ ::
 ⟨(some 142), none, .p (.bin .add), [.t 141, .c (.int .i64 1)]⟩ ::
 ⟨(some 143), none, .p .mov, [.t 2]⟩ ::
 ⟨(some 144), none, .p .mov, [.t 3]⟩ ::
 ⟨(some 145), none, .p .mov, [.t 4]⟩ ::
 ⟨(some 146), none, .call, [.c (.func (.func 66) [] []), .t 140, .t 142, .t 143, .t 144, .t 145]⟩ ::
 []))
(.ops (⟨(some 147), none, .p .mov, [.t 16]⟩ ::
 ⟨(some 2), none, .p .mov, [.t 147]⟩ ::
 [])))))))))))))))))))
def C66 : AFunc := ⟨148, [],
(.seq (.ops (⟨(some 10), none, .p .mov, [.c (.bool true)]⟩ ::
 []))
(.seq (.ops (⟨(some 11), none, .p .mov, [.c (.bool true)]⟩ ::
 []))
(.block 0 (.loop L_slices_pdqsortCmpFunc_rank_one_0))))⟩
abbrev f_slices_pdqsortCmpFunc_rank_one : Nat := 66
abbrev C_slices_pdqsortCmpFunc_rank_one : AFunc := C66
def C67 : AFunc := ⟨8, [.tmp 2],
(.seq (.ops (⟨(some 2), none, .p .mov, [.c (.int .i64 0)]⟩ ::
 []))
(.seq (.cond (.c (.bool false))
(.seq (.ops (⟨(some 3), none, .p .mov, [.t 0]⟩ ::
 ⟨(some 4), none, .p (.conv .u32), [.t 3]⟩ ::
 ⟨(some 5), none, .call, [.c (.func (.func 79) [] []), .t 4]⟩ ::
 ⟨(some 2), none, .p .mov, [.t 5]⟩ ::
 []))
.ret)
.skip)
(.seq (.ops (⟨(some 6), none, .p .mov, [.t 0]⟩ ::
 ⟨(some 7), none, .call, [.c (.func (.func 80) [] []), .t 6]⟩ ::
 ⟨(some 2), none, .p .mov, [.t 7]⟩ ::
 []))
.ret)))⟩
abbrev f_math_bits_Len : Nat := 67
abbrev C_math_bits_Len : AFunc := C67
def C68 : AFunc := ⟨6, [.tmp 2],
(.seq (.ops (⟨(some 2), none, .p .mov, [.c (.bool false)]⟩ ::
 []))
(.seq (.ops (⟨(some 3), none, .p .mov, [.t 0]⟩ ::
 ⟨(some 4), none, .p .mov, [.t 0]⟩ ::
 ⟨(some 5), none, .p (.bin .neq), [.t 3, .t 4]⟩ ::
 ⟨(some 2), none, .p .mov, [.t 5]⟩ ::
 []))
.ret))⟩
abbrev f_cmp_isNaN_int : Nat := 68
abbrev C_cmp_isNaN_int : AFunc := C68
def L_escapementref02_Rank_at_0 : AC := (.seq (.seq (.ops (⟨(some 6), none, .p .mov, [.t 5]⟩ ::
 ⟨(some 7), none, .p .mov, [.t 0]⟩ ::
 ⟨(some 8), none, .p .nilchk, [.t 7]⟩ ::
 ⟨(some 9), none, .p (.faddr 0), [.t 8]⟩ ::
 ⟨(some 10), none, .r .load1, [.t 9]⟩ ::
 ⟨(some 11), none, .p .lenS, [.t 10]⟩ ::
 ⟨(some 12), none, .p (.bin .lss), [.t 6, .t 11]⟩ ::
 []))
(.cond (.t 12)
.skip
(.exit 0)))
(.seq (.block 1 (.seq (.ops (⟨(some 15), none, .p .mov, [.t 0]⟩ ::
 ⟨(some 16), none, .p .nilchk, [.t 15]⟩ ::
 ⟨(some 17), none, .p (.faddr 0), [.t 16]⟩ ::
 ⟨(some 18), none, .r .load1, [.t 17]⟩ ::
 ⟨(some 19), none, .p .mov, [.t 5]⟩ ::
 ⟨(some 20), none, .p (.iaddrS 2), [.t 18, .t 19]⟩ ::
 ⟨(some 21), none, .p (.faddr 0), [.t 20]⟩ ::
 ⟨(some 22), none, .r .load1, [.t 21]⟩ ::
 ⟨(some 23), none, .p .mov, [.t 1]⟩ ::
 ⟨(some 24), none, .p (.bin .eql), [.t 22, .t 23]⟩ ::
 []))
(.cond (.t 24)
(.seq (.ops (⟨(some 25), none, .p .mov, [.t 5]⟩ ::
 ⟨(some 4), none, .p .mov, [.t 25]⟩ ::
 []))
.ret)
.skip)))
(.ops (⟨(some 13), none, .p .mov, [.t 5]⟩ ::
 ⟨(some 14), none, .p (.bin .add), [.t 13, .c (.int .i64 1)]⟩ ::
 ⟨(some 5), none, .p .mov, [.t 14]⟩ ::
 []))))
def C69 : AFunc := ⟨26, [.tmp 4],
(.seq (.ops (⟨(some 4), none, .p .mov, [.c (.int .i64 0)]⟩ ::
 []))
(.seq (.seq (.ops (⟨(some 5), none, .p .mov, [.c (.int .i64 0)]⟩ ::
 []))
(.block 0 (.loop L_escapementref02_Rank_at_0)))
(.seq (.ops (⟨(some 4), none, .p .mov, [.c (.int .i64 (-1))]⟩ ::
 []))
.ret)))⟩
abbrev f_escapementref02_Rank_at : Nat := 69
abbrev C_escapementref02_Rank_at : AFunc := C69
def L_escapementref02_Rank_put_0 : AC := (.seq (.seq (.dops (⟨(some 6), none, .p .mov, [.t 5]⟩ ::
 ⟨(some 7), none, .p .mov, [.t 0]⟩ ::
 ⟨(some 8), none, .p .nilchk, [.t 7]⟩ ::
 ⟨(some 9), none, .p (.faddr 0), [.t 8]⟩ ::
 ⟨(some 10), none, .r .load1, [.t 9]⟩ ::
 ⟨(some 11), none, .p .lenS, [.t 10]⟩ ::
 ⟨(some 12), none, .p (.bin .lss), [.t 6, .t 11]⟩ ::
 ⟨(some 13), none, .p .mov, [.t 12]⟩ ::
 ⟨(some 14), (some (13, true)), .p .mov, [.t 0]⟩ ::
 ⟨(some 15), (some (13, true)), .p .nilchk, [.t 14]⟩ ::
 ⟨(some 16), (some (13, true)), .p (.faddr 0), [.t 15]⟩ ::
 ⟨(some 17), (some (13, true)), .r .load1, [.t 16]⟩ ::
 ⟨(some 18), (some (13, true)), .p .mov, [.t 5]⟩ ::
 ⟨(some 19), (some (13, true)), .p (.iaddrS 2), [.t 17, .t 18]⟩ ::
 ⟨(some 20), (some (13, true)), .p (.faddr 1), [.t 19]⟩ ::
 ⟨(some 21), (some (13, true)), .r .load1, [.t 20]⟩ ::
 ⟨(some 22), (some (13, true)), .p (.faddr 1), [.t 3]⟩ ::
 ⟨(some 23), (some (13, true)), .r .load1, [.t 22]⟩ ::
 ⟨(some 24), (some (13, true)), .p (.bin .lss), [.t 21, .t 23]⟩ ::
 ⟨(some 25), (some (13, true)), .p .mov, [.t 24]⟩ ::
 ⟨(some 26), (some (25, false)), .p .mov, [.t 0]⟩ ::
 ⟨(some 27), (some (25, false)), .p .nilchk, [.t 26]⟩ ::
 ⟨(some 28), (some (25, false)), .p (.faddr 0), [.t 27]⟩ ::
 ⟨(some 29), (some (25, false)), .r .load1, [.t 28]⟩ ::
 ⟨(some 30), (some (25, false)), .p .mov, [.t 5]⟩ ::
 ⟨(some 31), (some (25, false)), .p (.iaddrS 2), [.t 29, .t 30]⟩ ::
 ⟨(some 32), (some (25, false)), .p (.faddr 1), [.t 31]⟩ ::
 ⟨(some 33), (some (25, false)), .r .load1, [.t 32]⟩ ::
 ⟨(some 34), (some (25, false)), .p (.faddr 1), [.t 3]⟩ ::
 ⟨(some 35), (some (25, false)), .r .load1, [.t 34]⟩ ::
 ⟨(some 36), (some (25, false)), .p (.bin .eql), [.t 33, .t 35]⟩ ::
 ⟨(some 37), (some (25, false)), .p .mov, [.t 36]⟩ ::
 ⟨(some 38), (some (37, true)), .p .mov, [.t 0]⟩ ::
 ⟨(some 39), (some (37, true)), .p .nilchk, [.t 38]⟩ ::
 ⟨(some 40), (some (37, true)), .p (.faddr 0), [.t 39]⟩ ::
 ⟨(some 41), (some (37, true)), .r .load1, [.t 40]⟩ ::
 ⟨(some 42), (some (37, true)), .p .mov, [.t 5]⟩ ::
 ⟨(some 43), (some (37, true)), .p (.iaddrS 2), [.t 41, .t 42]⟩ ::
 ⟨(some 44), (some (37, true)), .p (.faddr 0), [.t 43]⟩ ::
 ⟨(some 45), (some (37, true)), .r .load1, [.t 44]⟩ ::
 ⟨(some 46), (some (37, true)), .p (.faddr 0), [.t 3]⟩ ::
 ⟨(some 47), (some (37, true)), .r .load1, [.t 46]⟩ ::
 ⟨(some 48), (some (37, true)), .p (.bin .lss), [.t 45, .t 47]⟩ ::
 ⟨(some 49), (some (25, false)), .p .pick, [.t 37, .t 48, .c (.bool false)]⟩ ::
 ⟨(some 50), (some (13, true)), .p .pick, [.t 25, .c (.bool true), .t 49]⟩ ::
 ⟨(some 51), none, .p .pick, [.t 13, .t 50, .c (.bool false)]⟩ ::
 []) ([] :: [] :: [] :: [] :: [] :: [] :: [] :: [] :: [] :: [] :: [] :: [] :: [] :: [] :: [] :: [] :: [] :: [] :: [] :: [] :: [] :: [] :: [] :: [] :: [] :: [] :: [] :: [] :: [] :: [] :: [] :: [] :: [] :: [] :: [] :: [] :: [] :: [] :: [] :: [] :: [] :: [] :: [] :: [] :: [] :: [] :: []))
(.cond (.t 51)
.skip
(.exit 0)))
(.block 1 (.seq (.ops (⟨(some 52), none, .p .mov, [.t 4]⟩ ::
 ⟨(some 53), none, .p .mov, [.t 0]⟩ ::
 ⟨(some 54), none, .p .nilchk, [.t 53]⟩ ::
 ⟨(some 55), none, .p (.faddr 0), [.t 54]⟩ ::
 ⟨(some 56), none, .r .load1, [.t 55]⟩ ::
 ⟨(some 57), none, .p .mov, [.t 5]⟩ ::
 ⟨(some 58), none, .p (.iaddrS 2), [.t 56, .t 57]⟩ ::
 ⟨(some 59), none, .r (.loadN 2), [.t 58]⟩ ::
 ⟨(some 60), none, .a (.bslice [(.int .i64 0), (.int .i64 0)] 1 2 [0]), [.t 59]⟩ ::
 ⟨(some 61), none, .e (.append 2 16), [.t 52, .t 60]⟩ ::
 ⟨(some 4), none, .p .mov, [.t 61]⟩ ::
 []))
(.ops (⟨(some 62), none, .p .mov, [.t 5]⟩ ::
 ⟨(some 63), none, .p (.bin .add), [.t 62, .c (.int .i64 1)]⟩ ::
 ⟨(some 5), none, .p .mov, [.t 63]⟩ ::
 [])))))
def C70 : AFunc := ⟨79, [],
(.seq (.ops (⟨(some 3), none, .a .box, [.t 1]⟩ ::
 []))
(.seq (.ops (⟨(some 4), none, .p .mov, [.c .nils]⟩ ::
 []))
(.seq (.ops (⟨(some 5), none, .p .mov, [.c (.int .i64 0)]⟩ ::
 []))
(.seq (.block 0 (.loop L_escapementref02_Rank_put_0))
(.seq (.ops (⟨(some 64), none, .p .mov, [.t 4]⟩ ::
 ⟨(some 65), none, .r (.loadN 2), [.t 3]⟩ ::
 ⟨(some 66), none, .a (.bslice [(.int .i64 0), (.int .i64 0)] 1 2 [0]), [.t 65]⟩ ::
 ⟨(some 67), none, .e (.append 2 16), [.t 64, .t 66]⟩ ::
 ⟨(some 4), none, .p .mov, [.t 67]⟩ ::
 []))
(.ops (⟨(some 68), none, .p .mov, [.t 0]⟩ ::
 ⟨(some 69), none, .p .mov, [.t 4]⟩ ::
 ⟨(some 70), none, .p .mov, [.t 0]⟩ ::
 ⟨(some 71), none, .p .nilchk, [.t 70]⟩ ::
 ⟨(some 72), none, .p (.faddr 0), [.t 71]⟩ ::
 ⟨(some 73), none, .r .load1, [.t 72]⟩ ::
 ⟨(some 74), none, .p .mov, [.t 5]⟩ ::
 ⟨(some 75), none, .p (.slice 2 true false false), [.t 73, .t 74]⟩ ::
 ⟨(some 76), none, .e (.append 2 16), [.t 69, .t 75]⟩ ::
 ⟨(some 77), none, .p .nilchk, [.t 68]⟩ ::
 ⟨(some 78), none, .p (.faddr 0), [.t 77]⟩ ::
 ⟨none, none, .e (.store 1), [.t 78, .t 76]⟩ ::
 [])))))))⟩
abbrev f_escapementref02_Rank_put : Nat := 70
abbrev C_escapementref02_Rank_put : AFunc := C70
def L_slices_insertionSortCmpFunc_rank_one_1 : AC := (.seq (.seq (.dops (⟨(some 18), none, .p .mov, [.t 9]⟩ ::
 ⟨(some 19), none, .p .mov, [.t 1]⟩ ::
 ⟨(some 20), none, .p (.bin .gtr), [.t 18, .t 19]⟩ ::
 ⟨(some 21), none, .p .mov, [.t 20]⟩ ::
 ⟨(some 22), (some (21, true)), .p .mov, [.t 3]⟩ ::
 ⟨(some 23), (some (21, true)), .p .mov, [.t 0]⟩ ::
 ⟨(some 24), (some (21, true)), .p .mov, [.t 9]⟩ ::
 ⟨(some 25), (some (21, true)), .p (.iaddrS 2), [.t 23, .t 24]⟩ ::
 ⟨(some 26), (some (21, true)), .r (.loadN 2), [.t 25]⟩ ::
 ⟨(some 27), (some (21, true)), .p .mov, [.t 0]⟩ ::
 ⟨(some 28), (some (21, true)), .p .mov, [.t 9]⟩ ::
 ⟨(some 29), (some (21, true)), .p (.bin .sub), [.t 28, .c (.int .i64 1)]⟩ ::
 ⟨(some 30), (some (21, true)), .p (.iaddrS 2), [.t 27, .t 29]⟩ ::
 ⟨(some 31), (some (21, true)), .r (.loadN 2), [.t 30]⟩ ::
 ⟨(some 32), (some (21, true)), .call, [.t 22, .t 26, .t 31]⟩ ::
 ⟨(some 33), (some (21, true)), .p (.bin .lss), [.t 32, .c (.int .i64 0)]⟩ ::
 ⟨(some 34), none, .p .pick, [.t 21, .t 33, .c (.bool false)]⟩ ::
 []) ([] :: [] :: [] :: [] :: [] :: [] :: [] :: [] :: [] :: [] :: [] :: [] :: [] :: [] :: [] :: [] :: [] :: []))
(.cond (.t 34)
.skip
(.exit 2)))
(.seq (.block 3 (.dops (⟨(some 37), none, .p .mov, [.t 0]⟩ ::
 ⟨(some 38), none, .p .mov, [.t 9]⟩ ::
 ⟨(some 39), none, .p .mov, [.t 0]⟩ ::
 ⟨(some 40), none, .p .mov, [.t 9]⟩ ::
 ⟨(some 41), none, .p (.bin .sub), [.t 40, .c (.int .i64 1)]⟩ ::
 ⟨(some 42), none, .p .mov, [.t 0]⟩ ::
 ⟨(some 43), none, .p .mov, [.t 9]⟩ ::
 ⟨(some 44), none, .p (.bin .sub), [.t 43, .c (.int .i64 1)]⟩ ::
 ⟨(some 45), none, .p (.iaddrS 2), [.t 42, .t 44]⟩ ::
 ⟨(some 46), none, .r (.loadN 2), [.t 45]⟩ ::
 ⟨(some 47), none, .p .mov, [.t 0]⟩ ::
 ⟨(some 48), none, .p .mov, [.t 9]⟩ ::
 ⟨(some 49), none, .p (.iaddrS 2), [.t 47, .t 48]⟩ ::
 ⟨(some 50), none, .r (.loadN 2), [.t 49]⟩ ::
 ⟨(some 51), none, .p (.iaddrS 2), [.t 37, .t 38]⟩ ::
 ⟨none, none, .e (.store 2), [.t 51, .t 46]⟩ ::
 ⟨(some 52), none, .p (.iaddrS 2), [.t 39, .t 41]⟩ ::
 ⟨none, none, .e (.store 2), [.t 52, .t 50]⟩ ::
 []) ([] :: [] :: [] :: [] :: [] :: [] :: [] :: [] :: [] :: [] :: [] :: [] :: [] :: [] :: [] :: [] :: [] :: [] :: [])))
(.ops (⟨(some 35), none, .p .mov, [.t 9]⟩ ::
 ⟨(some 36), none, .p (.bin .sub), [.t 35, .c (.int .i64 1)]⟩ ::
 ⟨(some 9), none, .p .mov, [.t 36]⟩ ::
 []))))
def L_slices_insertionSortCmpFunc_rank_one_0 : AC := (.seq (.seq (.ops (⟨(some 12), none, .p .mov, [.t 8]⟩ ::
 ⟨(some 13), none, .p .mov, [.t 2]⟩ ::
 ⟨(some 14), none, .p (.bin .lss), [.t 12, .t 13]⟩ ::
 []))
(.cond (.t 14)
.skip
(.exit 0)))
(.seq (.block 1 (.seq (.ops (⟨(some 17), none, .p .mov, [.t 8]⟩ ::
 ⟨(some 9), none, .p .mov, [.t 17]⟩ ::
 []))
(.block 2 (.loop L_slices_insertionSortCmpFunc_rank_one_1))))
(.ops (⟨(some 15), none, .p .mov, [.t 8]⟩ ::
 ⟨(some 16), none, .p (.bin .add), [.t 15, .c (.int .i64 1)]⟩ ::
 ⟨(some 8), none, .p .mov, [.t 16]⟩ ::
 []))))
def C71 : AFunc := ⟨53, [],
(.seq (.ops (⟨(some 10), none, .p .mov, [.t 1]⟩ ::
 ⟨(some 11), none, .p (.bin .add), [.t 10, .c (.int .i64 1)]⟩ ::
 ⟨(some 8), none, .p .mov, [.t 11]⟩ ::
 []))
(.block 0 (.loop L_slices_insertionSortCmpFunc_rank_one_0)))⟩
abbrev f_slices_insertionSortCmpFunc_rank_one : Nat := 71
abbrev C_slices_insertionSortCmpFunc_rank_one : AFunc := C71
def L_slices_heapSortCmpFunc_rank_one_0 : AC := (.seq (.seq (.ops (⟨(some 20), none, .p .mov, [.t 11]⟩ ::
 ⟨(some 21), none, .p (.bin .geq), [.t 20, .c (.int .i64 0)]⟩ ::
 []))
(.cond (.t 21)
.skip
(.exit 0)))
(.seq (.block 1 (.ops (⟨(some 24), none, .p .mov, [.t 0]⟩ ::
 ⟨(some 25), none, .p .mov, [.t 11]⟩ ::
 ⟨(some 26), none, .p .mov, [.t 10]⟩ ::
 ⟨(some 27), none, .p .mov, [.t 8]⟩ ::
 ⟨(some 28), none, .p .mov, [.t 3]⟩ ::
 ⟨(some 29), none, .call, [.c (.func (.func 81) [] []), .t 24, .t 25, .t 26, .t 27, .t 28]⟩ ::
 [])))
(.ops (⟨(some 22), none, .p .mov, [.t 11]⟩ ::
 ⟨(some 23), none, .p (.bin .sub), [.t 22, .c (.int .i64 1)]⟩ ::
 ⟨(some 11), none, .p .mov, [.t 23]⟩ ::
 []))))
def L_slices_heapSortCmpFunc_rank_one_1 : AC := (.seq (.seq (.ops (⟨(some 32), none, .p .mov, [.t 12]⟩ ::
 ⟨(some 33), none, .p (.bin .geq), [.t 32, .c (.int .i64 0)]⟩ ::
 []))
(.cond (.t 33)
.skip
(.exit 2)))
(.seq (.block 3 (.seq (.dops (⟨(some 36), none, .p .mov, [.t 0]⟩ ::
 ⟨(some 37), none, .p .mov, [.t 8]⟩ ::
 ⟨(some 38), none, .p .mov, [.t 0]⟩ ::
 ⟨(some 39), none, .p .mov, [.t 8]⟩ ::
 ⟨(some 40), none, .p .mov, [.t 12]⟩ ::
 ⟨(some 41), none, .p (.bin .add), [.t 39, .t 40]⟩ ::
 ⟨(some 42), none, .p .mov, [.t 0]⟩ ::
 ⟨(some 43), none, .p .mov, [.t 8]⟩ ::
 ⟨(some 44), none, .p .mov, [.t 12]⟩ ::
 ⟨(some 45), none, .p (.bin .add), [.t 43, .t 44]⟩ ::
 ⟨(some 46), none, .p (.iaddrS 2), [.t 42, .t 45]⟩ ::
 ⟨(some 47), none, .r (.loadN 2), [.t 46]⟩ ::
 ⟨(some 48), none, .p .mov, [.t 0]⟩ ::
 ⟨(some 49), none, .p .mov, [.t 8]⟩ ::
 ⟨(some 50), none, .p (.iaddrS 2), [.t 48, .t 49]⟩ ::
 ⟨(some 51), none, .r (.loadN 2), [.t 50]⟩ ::
 ⟨(some 52), none, .p (.iaddrS 2), [.t 36, .t 37]⟩ ::
 ⟨none, none, .e (.store 2), [.t 52, .t 47]⟩ ::
 ⟨(some 53), none, .p (.iaddrS 2), [.t 38, .t 41]⟩ ::
 ⟨none, none, .e (.store 2), [.t 53, .t 51]⟩ ::
 []) ([] :: [] :: [] :: [] :: [] :: [] :: [] :: [] :: [] :: [] :: [] :: [] :: [] :: [] :: [] :: [] :: [] :: [] :: [] :: [] :: []))
(.ops (⟨(some 54), none, .p .mov, [.t 0]⟩ ::
 ⟨(some 55), none, .p .mov, [.t 9]⟩ ::
 ⟨(some 56), none, .p .mov, [.t 12]⟩ ::
 ⟨(some 57), none, .p .mov, [.t 8]⟩ ::
 ⟨(some 58), none, .p .mov, [.t 3]⟩ ::
 ⟨(some 59), none, .call, [.c (.func (.func 81) [] []), .t 54, .t 55, .t 56, .t 57, .t 58]⟩ ::
 []))))
(.ops (⟨(some 34), none, .p .mov, [.t 12]⟩ ::
 ⟨(some 35), none, .p (.bin .sub), [.t 34, .c (.int .i64 1)]⟩ ::
 ⟨(some 12), none, .p .mov, [.t 35]⟩ ::
 []))))
def C72 : AFunc := ⟨60, [],
(.seq (.ops (⟨(some 13), none, .p .mov, [.t 1]⟩ ::
 ⟨(some 8), none, .p .mov, [.t 13]⟩ ::
 []))
(.seq (.ops (⟨(some 9), none, .p .mov, [.c (.int .i64 0)]⟩ ::
 []))
(.seq (.ops (⟨(some 14), none, .p .mov, [.t 2]⟩ ::
 ⟨(some 15), none, .p .mov, [.t 1]⟩ ::
 ⟨(some 16), none, .p (.bin .sub), [.t 14, .t 15]⟩ ::
 ⟨(some 10), none, .p .mov, [.t 16]⟩ ::
 []))
(.seq (.seq (.ops (⟨(some 17), none, .p .mov, [.t 10]⟩ ::
 ⟨(some 18), none, .p (.bin .sub), [.t 17, .c (.int .i64 1)]⟩ ::
 ⟨(some 19), none, .p (.bin .quo), [.t 18, .c (.int .i64 2)]⟩ ::
 ⟨(some 11), none, .p .mov, [.t 19]⟩ ::
 []))
(.block 0 (.loop L_slices_heapSortCmpFunc_rank_one_0)))
(.seq (.ops (⟨(some 30), none, .p .mov, [.t 10]⟩ ::
 ⟨(some 31), none, .p (.bin .sub), [.t 30, .c (.int .i64 1)]⟩ ::
 ⟨(some 12), none, .p .mov, [.t 31]⟩ ::
 []))
(.block 2 (.loop L_slices_heapSortCmpFunc_rank_one_1)))))))⟩
abbrev f_slices_heapSortCmpFunc_rank_one : Nat := 72
abbrev C_slices_heapSortCmpFunc_rank_one : AFunc := C72
def L_slices_breakPatternsCmpFunc_rank_one_0 : AC := (.seq (.seq (.ops (⟨(some 28), none, .p .mov, [.t 11]⟩ ::
 ⟨(some 29), none, .p .mov, [.t 1]⟩ ::
 ⟨(some 30), none, .p .mov, [.t 8]⟩ ::
 ⟨(some 31), none, .p (.bin .quo), [.t 30, .c (.int .i64 4)]⟩ ::
 ⟨(some 32), none, .p (.bin .mul), [.t 31, .c (.int .i64 2)]⟩ ::
 ⟨(some 33), none, .p (.bin .add), [.t 29, .t 32]⟩ ::
 ⟨(some 34), none, .p (.bin .add), [.t 33, .c (.int .i64 1)]⟩ ::
 ⟨(some 35), none, .p (.bin .leq), [.t 28, .t 34]⟩ ::
 []))
(.cond (.t 35)
.skip
(.exit 0)))
(.seq (.block 1 (.seq (.ops (⟨(some 38), none, .call, [.c (.func (.func 83) [] []), .t 9]⟩ ::
 ⟨(some 39), none, .p .mov, [.t 10]⟩ ::
 ⟨(some 40), none, .p (.bin .sub), [.t 39, .c (.int .u64 1)]⟩ ::
 ⟨(some 41), none, .p (.bin .and), [.t 38, .t 40]⟩ ::
 ⟨(some 42), none, .p (.conv .i64), [.t 41]⟩ ::
 ⟨(some 12), none, .p .mov, [.t 42]⟩ ::
 []))
(.seq (.seq (.ops (⟨(some 43), none, .p .mov, [.t 12]⟩ ::
 ⟨(some 44), none, .p .mov, [.t 8]⟩ ::
 ⟨(some 45), none, .p (.bin .geq), [.t 43, .t 44]⟩ ::
 []))
(.cond (.t 45)
(.ops (⟨(some 46), none, .p .mov, [.t 12]⟩ ::
 ⟨(some 47), none, .p .mov, [.t 8]⟩ ::
 ⟨(some 48), none, .p (.bin .sub), [.t 46, .t 47]⟩ ::
 ⟨(some 12), none, .p .mov, [.t 48]⟩ ::
 []))
.skip))
(.dops (⟨(some 49), none, .p .mov, [.t 0]⟩ ::
 ⟨(some 50), none, .p .mov, [.t 11]⟩ ::
 ⟨(some 51), none, .p .mov, [.t 0]⟩ ::
 ⟨(some 52), none, .p .mov, [.t 1]⟩ ::
 ⟨(some 53), none, .p .mov, [.t 12]⟩ ::
 ⟨(some 54), none, .p (.bin .add), [.t 52, .t 53]⟩ ::
 ⟨(some 55), none, .p .mov, [.t 0]⟩ ::
 ⟨(some 56), none, .p .mov, [.t 1]⟩ ::
 ⟨(some 57), none, .p .mov, [.t 12]⟩ ::
 ⟨(some 58), none, .p (.bin .add), [.t 56, .t 57]⟩ ::
 ⟨(some 59), none, .p (.iaddrS 2), [.t 55, .t 58]⟩ ::
 ⟨(some 60), none, .r (.loadN 2), [.t 59]⟩ ::
 ⟨(some 61), none, .p .mov, [.t 0]⟩ ::
 ⟨(some 62), none, .p .mov, [.t 11]⟩ ::
 ⟨(some 63), none, .p (.iaddrS 2), [.t 61, .t 62]⟩ ::
 ⟨(some 64), none, .r (.loadN 2), [.t 63]⟩ ::
 ⟨(some 65), none, .p (.iaddrS 2), [.t 49, .t 50]⟩ ::
 ⟨none, none, .e (.store 2), [.t 65, .t 60]⟩ ::
 ⟨(some 66), none, .p (.iaddrS 2), [.t 51, .t 54]⟩ ::
 ⟨none, none, .e (.store 2), [.t 66, .t 64]⟩ ::
 []) ([] :: [] :: [] :: [] :: [] :: [] :: [] :: [] :: [] :: [] :: [] :: [] :: [] :: [] :: [] :: [] :: [] :: [] :: [] :: [] :: [])))))
(.ops (⟨(some 36), none, .p .mov, [.t 11]⟩ ::
 ⟨(some 37), none, .p (.bin .add), [.t 36, .c (.int .i64 1)]⟩ ::
 ⟨(some 11), none, .p .mov, [.t 37]⟩ ::
 []))))
def C73 : AFunc := ⟨67, [],
(.seq (.ops (⟨(some 13), none, .p .mov, [.t 2]⟩ ::
 ⟨(some 14), none, .p .mov, [.t 1]⟩ ::
 ⟨(some 15), none, .p (.bin .sub), [.t 13, .t 14]⟩ ::
 ⟨(some 8), none, .p .mov, [.t 15]⟩ ::
 []))
(.seq (.ops (⟨(some 16), none, .p .mov, [.t 8]⟩ ::
 ⟨(some 17), none, .p (.bin .geq), [.t 16, .c (.int .i64 8)]⟩ ::
 []))
(.cond (.t 17)
(.seq (.ops (⟨(some 18), none, .p .mov, [.t 8]⟩ ::
 ⟨(some 19), none, .p (.conv .u64), [.t 18]⟩ ::
 ⟨(some 9), none, .a (.alloc [(.int .u64 0)]), []⟩ ::
 ⟨none, none, .e (.store 1), [.t 9, .t 19]⟩ ::
 []))
(.seq (.ops (⟨(some 20), none, .p .mov, [.t 8]⟩ ::
 ⟨(some 21), none, .call, [.c (.func (.func 82) [] []), .t 20]⟩ ::
 ⟨(some 10), none, .p .mov, [.t 21]⟩ ::
 []))
(.seq (.ops (⟨(some 22), none, .p .mov, [.t 1]⟩ ::
 ⟨(some 23), none, .p .mov, [.t 8]⟩ ::
 ⟨(some 24), none, .p (.bin .quo), [.t 23, .c (.int .i64 4)]⟩ ::
 ⟨(some 25), none, .p (.bin .mul), [.t 24, .c (.int .i64 2)]⟩ ::
 ⟨(some 26), none, .p (.bin .add), [.t 22, .t 25]⟩ ::
 ⟨(some 27), none, .p (.bin .sub), [.t 26, .c (.int .i64 1)]⟩ ::
 ⟨(some 11), none, .p .mov, [.t 27]⟩ ::
 []))
(.block 0 (.loop L_slices_breakPatternsCmpFunc_rank_one_0)))))
.skip)))⟩
abbrev f_slices_breakPatternsCmpFunc_rank_one : Nat := 73
abbrev C_slices_breakPatternsCmpFunc_rank_one : AFunc := C73
def C74 : AFunc := ⟨63, [.tmp 8, .tmp 9],
(.seq (.ops (⟨(some 8), none, .p .mov, [.c (.int .i64 0)]⟩ ::
 ⟨(some 9), none, .p .mov, [.c (.int .i64 0)]⟩ ::
 []))
(.seq (.ops (⟨(some 15), none, .p .mov, [.t 2]⟩ ::
 ⟨(some 16), none, .p .mov, [.t 1]⟩ ::
 ⟨(some 17), none, .p (.bin .sub), [.t 15, .t 16]⟩ ::
 ⟨(some 10), none, .p .mov, [.t 17]⟩ ::
 []))
(.seq (.ops (⟨(some 11), none, .a (.alloc [(.int .i64 0)]), []⟩ ::
 []))
(.seq (.ops (⟨(some 18), none, .p .mov, [.t 1]⟩ ::
 ⟨(some 19), none, .p .mov, [.t 10]⟩ ::
 ⟨(some 20), none, .p (.bin .quo), [.t 19, .c (.int .i64 4)]⟩ ::
 ⟨(some 21), none, .p (.bin .mul), [.t 20, .c (.int .i64 1)]⟩ ::
 ⟨(some 22), none, .p (.bin .add), [.t 18, .t 21]⟩ ::
 ⟨(some 12), none, .p .mov, [.t 22]⟩ ::
 []))
(.seq (.ops (⟨(some 23), none, .p .mov, [.t 1]⟩ ::
 ⟨(some 24), none, .p .mov, [.t 10]⟩ ::
 ⟨(some 25), none, .p (.bin .quo), [.t 24, .c (.int .i64 4)]⟩ ::
 ⟨(some 26), none, .p (.bin .mul), [.t 25, .c (.int .i64 2)]⟩ ::
 ⟨(some 27), none, .p (.bin .add), [.t 23, .t 26]⟩ ::
 ⟨(some 13), none, .p .mov, [.t 27]⟩ ::
 []))
(.seq (.ops (⟨(some 28), none, .p .mov, [.t 1]⟩ ::
 ⟨(some 29), none, .p .mov, [.t 10]⟩ ::
 ⟨(some 30), none, .p (.bin .quo), [.t 29, .c (.int .i64 4)]⟩ ::
 ⟨(some 31), none, .p (.bin .mul), [.t 30, .c (.int .i64 3)]⟩ ::
 ⟨(some 32), none, .p (.bin .add), [.t 28, .t 31]⟩ ::
 ⟨(some 14), none, .p .mov, [.t 32]⟩ ::
 []))
(.seq (.seq (.ops (⟨(some 33), none, .p .mov, [.t 10]⟩ ::
 ⟨(some 34), none, .p (.bin .geq), [.t 33, .c (.int .i64 8)]⟩ ::
 []))
(.cond (.t 34)
(.seq (.seq (.ops (⟨(some 35), none, .p .mov, [.t 10]⟩ ::
 ⟨(some 36), none, .p (.bin .geq), [.t 35, .c (.int .i64 50)]⟩ ::
 []))
(.cond (.t 36)
(.seq (.ops (⟨(some 37), none, .p .mov, [.t 0]⟩ ::
 ⟨(some 38), none, .p .mov, [.t 12]⟩ ::
 ⟨(some 39), none, .p .mov, [.t 3]⟩ ::
 ⟨(some 40), none, .call, [.c (.func (.func 84) [] []), .t 37, .t 38, .t 11, .t 39]⟩ ::
 ⟨(some 12), none, .p .mov, [.t 40]⟩ ::
 []))
(.seq (.ops (⟨(some 41), none, .p .mov, [.t 0]⟩ ::
 ⟨(some 42), none, .p .mov, [.t 13]⟩ ::
 ⟨(some 43), none, .p .mov, [.t 3]⟩ ::
 ⟨(some 44), none, .call, [.c (.func (.func 84) [] []), .t 41, .t 42, .t 11, .t 43]⟩ ::
 ⟨(some 13), none, .p .mov, [.t 44]⟩ ::
 []))
(.ops (⟨(some 45), none, .p .mov, [.t 0]⟩ ::
 ⟨(some 46), none, .p .mov, [.t 14]⟩ ::
 ⟨(some 47), none, .p .mov, [.t 3]⟩ ::
 ⟨(some 48), none, .call, [.c (.func (.func 84) [] []), .t 45, .t 46, .t 11, .t 47]⟩ ::
 ⟨(some 14), none, .p .mov, [.t 48]⟩ ::
 []))))
.skip))
(.ops (⟨(some 49), none, .p .mov, [.t 0]⟩ ::
 ⟨(some 50), none, .p .mov, [.t 12]⟩ ::
 ⟨(some 51), none, .p .mov, [.t 13]⟩ ::
 ⟨(some 52), none, .p .mov, [.t 14]⟩ ::
 ⟨(some 53), none, .p .mov, [.t 3]⟩ ::
 ⟨(some 54), none, .call, [.c (.func (.func 85) [] []), .t 49, .t 50, .t 51, .t 52, .t 11, .t 53]⟩ ::
 ⟨(some 13), none, .p .mov, [.t 54]⟩ ::
 [])))
.skip))
(.seq (.ops (⟨(some 55), none, .r .load1, [.t 11]⟩ ::
 []))
(.block 0 (.seq (.ops (⟨(some 58), none, .p (.bin .eql), [.t 55, .c (.int .i64 0)]⟩ ::
 ⟨(some 57), none, .p .mov, [.t 58]⟩ ::
 []))
(.cond (.t 57)
(.seq (.ops (⟨(some 59), none, .p .mov, [.t 13]⟩ ::
 ⟨(some 8), none, .p .mov, [.t 59]⟩ ::
 ⟨(some 9), none, .p .mov, [.c (.int .i64 1)]⟩ ::
 []))
.ret)
(.seq (.ops (⟨(some 61), none, .p (.bin .eql), [.t 55, .c (.int .i64 12)]⟩ ::
 ⟨(some 60), none, .p .mov, [.t 61]⟩ ::
 []))
(.cond (.t 60)
(.seq (.ops (⟨(some 62), none, .p .mov, [.t 13]⟩ ::
 ⟨(some 8), none, .p .mov, [.t 62]⟩ ::
 ⟨(some 9), none, .p .mov, [.c (.int .i64 2)]⟩ ::
 []))
.ret)
(.seq (.ops (⟨(some 56), none, .p .mov, [.t 13]⟩ ::
 ⟨(some 8), none, .p .mov, [.t 56]⟩ ::
 ⟨(some 9), none, .p .mov, [.c (.int .i64 0)]⟩ ::
 []))
.ret))))))))))))))⟩
abbrev f_slices_choosePivotCmpFunc_rank_one : Nat := 74
abbrev C_slices_choosePivotCmpFunc_rank_one : AFunc := C74
def L_slices_reverseRangeCmpFunc_rank_one_0 : AC := (.seq (.seq (.ops (⟨(some 13), none, .p .mov, [.t 8]⟩ ::
 ⟨(some 14), none, .p .mov, [.t 9]⟩ ::
 ⟨(some 15), none, .p (.bin .lss), [.t 13, .t 14]⟩ ::
 []))
(.cond (.t 15)
.skip
(.exit 0)))
(.block 1 (.seq (.dops (⟨(some 16), none, .p .mov, [.t 0]⟩ ::
 ⟨(some 17), none, .p .mov, [.t 8]⟩ ::
 ⟨(some 18), none, .p .mov, [.t 0]⟩ ::
 ⟨(some 19), none, .p .mov, [.t 9]⟩ ::
 ⟨(some 20), none, .p .mov, [.t 0]⟩ ::
 ⟨(some 21), none, .p .mov, [.t 9]⟩ ::
 ⟨(some 22), none, .p (.iaddrS 2), [.t 20, .t 21]⟩ ::
 ⟨(some 23), none, .r (.loadN 2), [.t 22]⟩ ::
 ⟨(some 24), none, .p .mov, [.t 0]⟩ ::
 ⟨(some 25), none, .p .mov, [.t 8]⟩ ::
 ⟨(some 26), none, .p (.iaddrS 2), [.t 24, .t 25]⟩ ::
 ⟨(some 27), none, .r (.loadN 2), [.t 26]⟩ ::
 ⟨(some 28), none, .p (.iaddrS 2), [.t 16, .t 17]⟩ ::
 ⟨none, none, .e (.store 2), [.t 28, .t 23]⟩ ::
 ⟨(some 29), none, .p (.iaddrS 2), [.t 18, .t 19]⟩ ::
 ⟨none, none, .e (.store 2), [.t 29, .t 27]⟩ ::
 []) ([] :: [] :: [] :: [] :: [] :: [] :: [] :: [] :: [] :: [] :: [] :: [] :: [] :: [] :: [] :: [] :: []))
(.seq (.ops (⟨(some 30), none, .p .mov, [.t 8]⟩ ::
 ⟨(some 31), none, .p (.bin .add), [.t 30, .c (.int .i64 1)]⟩ ::
 ⟨(some 8), none, .p .mov, [.t 31]⟩ ::
 []))
(.ops (⟨(some 32), none, .p .mov, [.t 9]⟩ ::
 ⟨(some 33), none, .p (.bin .sub), [.t 32, .c (.int .i64 1)]⟩ ::
 ⟨(some 9), none, .p .mov, [.t 33]⟩ ::
 []))))))
def C75 : AFunc := ⟨34, [],
(.seq (.ops (⟨(some 10), none, .p .mov, [.t 1]⟩ ::
 ⟨(some 8), none, .p .mov, [.t 10]⟩ ::
 []))
(.seq (.ops (⟨(some 11), none, .p .mov, [.t 2]⟩ ::
 ⟨(some 12), none, .p (.bin .sub), [.t 11, .c (.int .i64 1)]⟩ ::
 ⟨(some 9), none, .p .mov, [.t 12]⟩ ::
 []))
(.block 0 (.loop L_slices_reverseRangeCmpFunc_rank_one_0))))⟩
abbrev f_slices_reverseRangeCmpFunc_rank_one : Nat := 75
abbrev C_slices_reverseRangeCmpFunc_rank_one : AFunc := C75
def L_slices_partialInsertionSortCmpFunc_rank_one_1 : AC := (.seq (.seq (.dops (⟨(some 19), none, .p .mov, [.t 9]⟩ ::
 ⟨(some 20), none, .p .mov, [.t 2]⟩ ::
 ⟨(some 21), none, .p (.bin .lss), [.t 19, .t 20]⟩ ::
 ⟨(some 22), none, .p .mov, [.t 21]⟩ ::
 ⟨(some 23), (some (22, true)), .p .mov, [.t 3]⟩ ::
 ⟨(some 24), (some (22, true)), .p .mov, [.t 0]⟩ ::
 ⟨(some 25), (some (22, true)), .p .mov, [.t 9]⟩ ::
 ⟨(some 26), (some (22, true)), .p (.iaddrS 2), [.t 24, .t 25]⟩ ::
 ⟨(some 27), (some (22, true)), .r (.loadN 2), [.t 26]⟩ ::
 ⟨(some 28), (some (22, true)), .p .mov, [.t 0]⟩ ::
 ⟨(some 29), (some (22, true)), .p .mov, [.t 9]⟩ ::
 ⟨(some 30), (some (22, true)), .p (.bin .sub), [.t 29, .c (.int .i64 1)]⟩ ::
 ⟨(some 31), (some (22, true)), .p (.iaddrS 2), [.t 28, .t 30]⟩ ::
 ⟨(some 32), (some (22, true)), .r (.loadN 2), [.t 31]⟩ ::
 ⟨(some 33), (some (22, true)), .call, [.t 23, .t 27, .t 32]⟩ ::
 ⟨(some 34), (some (22, true)), .p (.bin .lss), [.t 33, .c (.int .i64 0)]⟩ ::
 ⟨(some 35), (some (22, true)), .p .not, [.t 34]⟩ ::
 ⟨(some 36), none, .p .pick, [.t 22, .t 35, .c (.bool false)]⟩ ::
 []) ([] :: [] :: [] :: [] :: [] :: [] :: [] :: [] :: [] :: [] :: [] :: [] :: [] :: [] :: [] :: [] :: [] :: [] :: []))
(.cond (.t 36)
.skip
(.exit 2)))
(.block 3 (.ops (⟨(some 37), none, .p .mov, [.t 9]⟩ ::
 ⟨(some 38), none, .p (.bin .add), [.t 37, .c (.int .i64 1)]⟩ ::
 ⟨(some 9), none, .p .mov, [.t 38]⟩ ::
 []))))
def L_slices_partialInsertionSortCmpFunc_rank_one_2 : AC := (.seq (.seq (.ops (⟨(some 68), none, .p .mov, [.t 11]⟩ ::
 ⟨(some 69), none, .p (.bin .geq), [.t 68, .c (.int .i64 1)]⟩ ::
 []))
(.cond (.t 69)
.skip
(.exit 4)))
(.seq (.block 5 (.seq (.seq (.dops (⟨(some 72), none, .p .mov, [.t 3]⟩ ::
 ⟨(some 73), none, .p .mov, [.t 0]⟩ ::
 ⟨(some 74), none, .p .mov, [.t 11]⟩ ::
 ⟨(some 75), none, .p (.iaddrS 2), [.t 73, .t 74]⟩ ::
 ⟨(some 76), none, .r (.loadN 2), [.t 75]⟩ ::
 ⟨(some 77), none, .p .mov, [.t 0]⟩ ::
 ⟨(some 78), none, .p .mov, [.t 11]⟩ ::
 ⟨(some 79), none, .p (.bin .sub), [.t 78, .c (.int .i64 1)]⟩ ::
 ⟨(some 80), none, .p (.iaddrS 2), [.t 77, .t 79]⟩ ::
 ⟨(some 81), none, .r (.loadN 2), [.t 80]⟩ ::
 ⟨(some 82), none, .call, [.t 72, .t 76, .t 81]⟩ ::
 ⟨(some 83), none, .p (.bin .lss), [.t 82, .c (.int .i64 0)]⟩ ::
 ⟨(some 84), none, .p .not, [.t 83]⟩ ::
 []) ([] :: [] :: [] :: [] :: [] :: [] :: [] :: [] :: [] :: [] :: [] :: [] :: [] :: []))
(.cond (.t 84)
(.exit 4)
.skip))
(.dops (⟨(some 85), none, .p .mov, [.t 0]⟩ ::
 ⟨(some 86), none, .p .mov, [.t 11]⟩ ::
 ⟨(some 87), none, .p .mov, [.t 0]⟩ ::
 ⟨(some 88), none, .p .mov, [.t 11]⟩ ::
 ⟨(some 89), none, .p (.bin .sub), [.t 88, .c (.int .i64 1)]⟩ ::
 ⟨(some 90), none, .p .mov, [.t 0]⟩ ::
 ⟨(some 91), none, .p .mov, [.t 11]⟩ ::
 ⟨(some 92), none, .p (.bin .sub), [.t 91, .c (.int .i64 1)]⟩ ::
 ⟨(some 93), none, .p (.iaddrS 2), [.t 90, .t 92]⟩ ::
 ⟨(some 94), none, .r (.loadN 2), [.t 93]⟩ ::
 ⟨(some 95), none, .p .mov, [.t 0]⟩ ::
 ⟨(some 96), none, .p .mov, [.t 11]⟩ ::
 ⟨(some 97), none, .p (.iaddrS 2), [.t 95, .t 96]⟩ ::
 ⟨(some 98), none, .r (.loadN 2), [.t 97]⟩ ::
 ⟨(some 99), none, .p (.iaddrS 2), [.t 85, .t 86]⟩ ::
 ⟨none, none, .e (.store 2), [.t 99, .t 94]⟩ ::
 ⟨(some 100), none, .p (.iaddrS 2), [.t 87, .t 89]⟩ ::
 ⟨none, none, .e (.store 2), [.t 100, .t 98]⟩ ::
 []) ([] :: [] :: [] :: [] :: [] :: [] :: [] :: [] :: [] :: [] :: [] :: [] :: [] :: [] :: [] :: [] :: [] :: [] :: []))))
(.ops (⟨(some 70), none, .p .mov, [.t 11]⟩ ::
 ⟨(some 71), none, .p (.bin .sub), [.t 70, .c (.int .i64 1)]⟩ ::
 ⟨(some 11), none, .p .mov, [.t 71]⟩ ::
 []))))
def L_slices_partialInsertionSortCmpFunc_rank_one_3 : AC := (.seq (.seq (.ops (⟨(some 107), none, .p .mov, [.t 12]⟩ ::
 ⟨(some 108), none, .p .mov, [.t 2]⟩ ::
 ⟨(some 109), none, .p (.bin .lss), [.t 107, .t 108]⟩ ::
 []))
(.cond (.t 109)
.skip
(.exit 6)))
(.seq (.block 7 (.seq (.seq (.dops (⟨(some 112), none, .p .mov, [.t 3]⟩ ::
 ⟨(some 113), none, .p .mov, [.t 0]⟩ ::
 ⟨(some 114), none, .p .mov, [.t 12]⟩ ::
 ⟨(some 115), none, .p (.iaddrS 2), [.t 113, .t 114]⟩ ::
 ⟨(some 116), none, .r (.loadN 2), [.t 115]⟩ ::
 ⟨(some 117), none, .p .mov, [.t 0]⟩ ::
 ⟨(some 118), none, .p .mov, [.t 12]⟩ ::
 ⟨(some 119), none, .p (.bin .sub), [.t 118, .c (.int .i64 1)]⟩ ::
 ⟨(some 120), none, .p (.iaddrS 2), [.t 117, .t 119]⟩ ::
 ⟨(some 121), none, .r (.loadN 2), [.t 120]⟩ ::
 ⟨(some 122), none, .call, [.t 112, .t 116, .t 121]⟩ ::
 ⟨(some 123), none, .p (.bin .lss), [.t 122, .c (.int .i64 0)]⟩ ::
 ⟨(some 124), none, .p .not, [.t 123]⟩ ::
 []) ([] :: [] :: [] :: [] :: [] :: [] :: [] :: [] :: [] :: [] :: [] :: [] :: [] :: []))
(.cond (.t 124)
(.exit 6)
.skip))
(.dops (⟨(some 125), none, .p .mov, [.t 0]⟩ ::
 ⟨(some 126), none, .p .mov, [.t 12]⟩ ::
 ⟨(some 127), none, .p .mov, [.t 0]⟩ ::
 ⟨(some 128), none, .p .mov, [.t 12]⟩ ::
 ⟨(some 129), none, .p (.bin .sub), [.t 128, .c (.int .i64 1)]⟩ ::
 ⟨(some 130), none, .p .mov, [.t 0]⟩ ::
 ⟨(some 131), none, .p .mov, [.t 12]⟩ ::
 ⟨(some 132), none, .p (.bin .sub), [.t 131, .c (.int .i64 1)]⟩ ::
 ⟨(some 133), none, .p (.iaddrS 2), [.t 130, .t 132]⟩ ::
 ⟨(some 134), none, .r (.loadN 2), [.t 133]⟩ ::
 ⟨(some 135), none, .p .mov, [.t 0]⟩ ::
 ⟨(some 136), none, .p .mov, [.t 12]⟩ ::
 ⟨(some 137), none, .p (.iaddrS 2), [.t 135, .t 136]⟩ ::
 ⟨(some 138), none, .r (.loadN 2), [.t 137]⟩ ::
 ⟨(some 139), none, .p (.iaddrS 2), [.t 125, .t 126]⟩ ::
 ⟨none, none, .e (.store 2), [.t 139, .t 134]⟩ ::
 ⟨(some 140), none, .p (.iaddrS 2), [.t 127, .t 129]⟩ ::
 ⟨none, none, .e (.store 2), [.t 140, .t 138]⟩ ::
 []) ([] :: [] :: [] :: [] :: [] :: [] :: [] :: [] :: [] :: [] :: [] :: [] :: [] :: [] :: [] :: [] :: [] :: [] :: []))))
(.ops (⟨(some 110), none, .p .mov, [.t 12]⟩ ::
 ⟨(some 111), none, .p (.bin .add), [.t 110, .c (.int .i64 1)]⟩ ::
 ⟨(some 12), none, .p .mov, [.t 111]⟩ ::
 []))))
def L_slices_partialInsertionSortCmpFunc_rank_one_0 : AC := (.seq (.seq (.ops (⟨(some 15), none, .p .mov, [.t 10]⟩ ::
 ⟨(some 16), none, .p (.bin .lss), [.t 15, .c (.int .i64 5)]⟩ ::
 []))
(.cond (.t 16)
.skip
(.exit 0)))
(.seq (.block 1 (.seq (.block 2 (.loop L_slices_partialInsertionSortCmpFunc_rank_one_1))
(.seq (.seq (.ops (⟨(some 39), none, .p .mov, [.t 9]⟩ ::
 ⟨(some 40), none, .p .mov, [.t 2]⟩ ::
 ⟨(some 41), none, .p (.bin .eql), [.t 39, .t 40]⟩ ::
 []))
(.cond (.t 41)
(.seq (.ops (⟨(some 8), none, .p .mov, [.c (.bool true)]⟩ ::
 []))
.ret)
.skip))
(.seq (.seq (.ops (⟨(some 42), none, .p .mov, [.t 2]⟩ ::
 ⟨(some 43), none, .p .mov, [.t 1]⟩ ::
 ⟨(some 44), none, .p (.bin .sub), [.t 42, .t 43]⟩ ::
 ⟨(some 45), none, .p (.bin .lss), [.t 44, .c (.int .i64 50)]⟩ ::
 []))
(.cond (.t 45)
(.seq (.ops (⟨(some 8), none, .p .mov, [.c (.bool false)]⟩ ::
 []))
.ret)
.skip))
(.seq (.dops (⟨(some 46), none, .p .mov, [.t 0]⟩ ::
 ⟨(some 47), none, .p .mov, [.t 9]⟩ ::
 ⟨(some 48), none, .p .mov, [.t 0]⟩ ::
 ⟨(some 49), none, .p .mov, [.t 9]⟩ ::
 ⟨(some 50), none, .p (.bin .sub), [.t 49, .c (.int .i64 1)]⟩ ::
 ⟨(some 51), none, .p .mov, [.t 0]⟩ ::
 ⟨(some 52), none, .p .mov, [.t 9]⟩ ::
 ⟨(some 53), none, .p (.bin .sub), [.t 52, .c (.int .i64 1)]⟩ ::
 ⟨(some 54), none, .p (.iaddrS 2), [.t 51, .t 53]⟩ ::
 ⟨(some 55), none, .r (.loadN 2), [.t 54]⟩ ::
 ⟨(some 56), none, .p .mov, [.t 0]⟩ ::
 ⟨(some 57), none, .p .mov, [.t 9]⟩ ::
 ⟨(some 58), none, .p (.iaddrS 2), [.t 56, .t 57]⟩ ::
 ⟨(some 59), none, .r (.loadN 2), [.t 58]⟩ ::
 ⟨(some 60), none, .p (.iaddrS 2), [.t 46, .t 47]⟩ ::
 ⟨none, none, .e (.store 2), [.t 60, .t 55]⟩ ::
 ⟨(some 61), none, .p (.iaddrS 2), [.t 48, .t 50]⟩ ::
 ⟨none, none, .e (.store 2), [.t 61, .t 59]⟩ ::
 []) ([] :: [] :: [] :: [] :: [] :: [] :: [] :: [] :: [] :: [] :: [] :: [] :: [] :: [] :: [] :: [] :: [] :: [] :: []))
(.seq (.seq (.ops (⟨(some 62), none, .p .mov, [.t 9]⟩ ::
 ⟨(some 63), none, .p .mov, [.t 1]⟩ ::
 ⟨(some 64), none, .p (.bin .sub), [.t 62, .t 63]⟩ ::
 ⟨(some 65), none, .p (.bin .geq), [.t 64, .c (.int .i64 2)]⟩ ::
 []))
(.cond (.t 65)
(.seq (.ops (⟨(some 66), none, .p .mov, [.t 9]⟩ ::
 ⟨(some 67), none, .p (.bin .sub), [.t 66, .c (.int .i64 1)]⟩ ::
 ⟨(some 11), none, .p .mov, [.t 67]⟩ ::
 []))
(.block 4 (.loop L_slices_partialInsertionSortCmpFunc_rank_one_2)))
.skip))
(.seq (.ops (⟨(some 101), none, .p .mov, [.t 2]⟩ ::
 ⟨(some 102), none, .p .mov, [.t 9]⟩ ::
 ⟨(some 103), none, .p (.bin .sub), [.t 101, .t 102]⟩ ::
 ⟨(some 104), none, .p (.bin .geq), [.t 103, .c (.int .i64 2)]⟩ ::
 []))
(.cond (.t 104)
(.seq (.ops (⟨(some 105), none, .p .mov, [.t 9]⟩ ::
 ⟨(some 106), none, .p (.bin .add), [.t 105, .c (.int .i64 1)]⟩ ::
 ⟨(some 12), none, .p .mov, [.t 106]⟩ ::
 []))
(.block 6 (.loop L_slices_partialInsertionSortCmpFunc_rank_one_3)))
.skip))))))))
(.ops (⟨(some 17), none, .p .mov, [.t 10]⟩ ::
 ⟨(some 18), none, .p (.bin .add), [.t 17, .c (.int .i64 1)]⟩ ::
 ⟨(some 10), none, .p .mov, [.t 18]⟩ ::
 []))))
def C76 : AFunc := ⟨141, [.tmp 8],
(.seq (.ops (⟨(some 8), none, .p .mov, [.c (.bool false)]⟩ ::
 []))
(.seq (.ops (⟨(some 13), none, .p .mov, [.t 1]⟩ ::
 ⟨(some 14), none, .p (.bin .add), [.t 13, .c (.int .i64 1)]⟩ ::
 ⟨(some 9), none, .p .mov, [.t 14]⟩ ::
 []))
(.seq (.seq (.ops (⟨(some 10), none, .p .mov, [.c (.int .i64 0)]⟩ ::
 []))
(.block 0 (.loop L_slices_partialInsertionSortCmpFunc_rank_one_0)))
(.seq (.ops (⟨(some 8), none, .p .mov, [.c (.bool false)]⟩ ::
 []))
.ret))))⟩
abbrev f_slices_partialInsertionSortCmpFunc_rank_one : Nat := 76
abbrev C_slices_partialInsertionSortCmpFunc_rank_one : AFunc := C76
def L_slices_partitionEqualCmpFunc_rank_one_1 : AC := (.seq (.seq (.dops (⟨(some 31), none, .p .mov, [.t 11]⟩ ::
 ⟨(some 32), none, .p .mov, [.t 12]⟩ ::
 ⟨(some 33), none, .p (.bin .leq), [.t 31, .t 32]⟩ ::
 ⟨(some 34), none, .p .mov, [.t 33]⟩ ::
 ⟨(some 35), (some (34, true)), .p .mov, [.t 4]⟩ ::
 ⟨(some 36), (some (34, true)), .p .mov, [.t 0]⟩ ::
 ⟨(some 37), (some (34, true)), .p .mov, [.t 1]⟩ ::
 ⟨(some 38), (some (34, true)), .p (.iaddrS 2), [.t 36, .t 37]⟩ ::
 ⟨(some 39), (some (34, true)), .r (.loadN 2), [.t 38]⟩ ::
 ⟨(some 40), (some (34, true)), .p .mov, [.t 0]⟩ ::
 ⟨(some 41), (some (34, true)), .p .mov, [.t 11]⟩ ::
 ⟨(some 42), (some (34, true)), .p (.iaddrS 2), [.t 40, .t 41]⟩ ::
 ⟨(some 43), (some (34, true)), .r (.loadN 2), [.t 42]⟩ ::
 ⟨(some 44), (some (34, true)), .call, [.t 35, .t 39, .t 43]⟩ ::
 ⟨(some 45), (some (34, true)), .p (.bin .lss), [.t 44, .c (.int .i64 0)]⟩ ::
 ⟨(some 46), (some (34, true)), .p .not, [.t 45]⟩ ::
 ⟨(some 47), none, .p .pick, [.t 34, .t 46, .c (.bool false)]⟩ ::
 []) ([] :: [] :: [] :: [] :: [] :: [] :: [] :: [] :: [] :: [] :: [] :: [] :: [] :: [] :: [] :: [] :: [] :: []))
(.cond (.t 47)
.skip
(.exit 2)))
(.block 3 (.ops (⟨(some 48), none, .p .mov, [.t 11]⟩ ::
 ⟨(some 49), none, .p (.bin .add), [.t 48, .c (.int .i64 1)]⟩ ::
 ⟨(some 11), none, .p .mov, [.t 49]⟩ ::
 []))))
def L_slices_partitionEqualCmpFunc_rank_one_2 : AC := (.seq (.seq (.dops (⟨(some 50), none, .p .mov, [.t 11]⟩ ::
 ⟨(some 51), none, .p .mov, [.t 12]⟩ ::
 ⟨(some 52), none, .p (.bin .leq), [.t 50, .t 51]⟩ ::
 ⟨(some 53), none, .p .mov, [.t 52]⟩ ::
 ⟨(some 54), (some (53, true)), .p .mov, [.t 4]⟩ ::
 ⟨(some 55), (some (53, true)), .p .mov, [.t 0]⟩ ::
 ⟨(some 56), (some (53, true)), .p .mov, [.t 1]⟩ ::
 ⟨(some 57), (some (53, true)), .p (.iaddrS 2), [.t 55, .t 56]⟩ ::
 ⟨(some 58), (some (53, true)), .r (.loadN 2), [.t 57]⟩ ::
 ⟨(some 59), (some (53, true)), .p .mov, [.t 0]⟩ ::
 ⟨(some 60), (some (53, true)), .p .mov, [.t 12]⟩ ::
 ⟨(some 61), (some (53, true)), .p (.iaddrS 2), [.t 59, .t 60]⟩ ::
 ⟨(some 62), (some (53, true)), .r (.loadN 2), [.t 61]⟩ ::
 ⟨(some 63), (some (53, true)), .call, [.t 54, .t 58, .t 62]⟩ ::
 ⟨(some 64), (some (53, true)), .p (.bin .lss), [.t 63, .c (.int .i64 0)]⟩ ::
 ⟨(some 65), none, .p .pick, [.t 53, .t 64, .c (.bool false)]⟩ ::
 []) ([] :: [] :: [] :: [] :: [] :: [] :: [] :: [] :: [] :: [] :: [] :: [] :: [] :: [] :: [] :: [] :: []))
(.cond (.t 65)
.skip
(.exit 4)))
(.block 5 (.ops (⟨(some 66), none, .p .mov, [.t 12]⟩ ::
 ⟨(some 67), none, .p (.bin .sub), [.t 66, .c (.int .i64 1)]⟩ ::
 ⟨(some 12), none, .p .mov, [.t 67]⟩ ::
 []))))
def L_slices_partitionEqualCmpFunc_rank_one_0 : AC := (.block 1 (.seq (.block 2 (.loop L_slices_partitionEqualCmpFunc_rank_one_1))
(.seq (.block 4 (.loop L_slices_partitionEqualCmpFunc_rank_one_2))
(.seq (.seq (.ops (⟨(some 68), none, .p .mov, [.t 11]⟩ ::
 ⟨(some 69), none, .p .mov, [.t 12]⟩ ::
 ⟨(some 70), none, .p (.bin .gtr), [.t 68, .t 69]⟩ ::
 []))
(.cond (.t 70)
(.exit 0)
.skip))
(.seq (.dops (⟨(some 71), none, .p .mov, [.t 0]⟩ ::
 ⟨(some 72), none, .p .mov, [.t 11]⟩ ::
 ⟨(some 73), none, .p .mov, [.t 0]⟩ ::
 ⟨(some 74), none, .p .mov, [.t 12]⟩ ::
 ⟨(some 75), none, .p .mov, [.t 0]⟩ ::
 ⟨(some 76), none, .p .mov, [.t 12]⟩ ::
 ⟨(some 77), none, .p (.iaddrS 2), [.t 75, .t 76]⟩ ::
 ⟨(some 78), none, .r (.loadN 2), [.t 77]⟩ ::
 ⟨(some 79), none, .p .mov, [.t 0]⟩ ::
 ⟨(some 80), none, .p .mov, [.t 11]⟩ ::
 ⟨(some 81), none, .p (.iaddrS 2), [.t 79, .t 80]⟩ ::
 ⟨(some 82), none, .r (.loadN 2), [.t 81]⟩ ::
 ⟨(some 83), none, .p (.iaddrS 2), [.t 71, .t 72]⟩ ::
 ⟨none, none, .e (.store 2), [.t 83, .t 78]⟩ ::
 ⟨(some 84), none, .p (.iaddrS 2), [.t 73, .t 74]⟩ ::
 ⟨none, none, .e (.store 2), [.t 84, .t 82]⟩ ::
 []) ([] :: [] :: [] :: [] :: [] :: [] :: [] :: [] :: [] :: [] :: [] :: [] :: [] :: [] :: [] :: [] :: []))
(.seq (.ops (⟨(some 85), none, .p .mov, [.t 11]⟩ ::
 ⟨(some 86), none, .p (.bin .add), [.t 85, .c (.int .i64 1)]⟩ ::
 ⟨(some 11), none, .p .mov, [.t 86]⟩ ::
 []))
(.ops (⟨(some 87), none, .p .mov, [.t 12]⟩ ::
 ⟨(some 88), none, .p (.bin .sub), [.t 87, .c (.int .i64 1)]⟩ ::
 ⟨(some 12), none, .p .mov, [.t 88]⟩ ::
 []))))))))
def C77 : AFunc := ⟨90, [.tmp 10],
(.seq (.ops (⟨(some 10), none, .p .mov, [.c (.int .i64 0)]⟩ ::
 []))
(.seq (.dops (⟨(some 13), none, .p .mov, [.t 0]⟩ ::
 ⟨(some 14), none, .p .mov, [.t 1]⟩ ::
 ⟨(some 15), none, .p .mov, [.t 0]⟩ ::
 ⟨(some 16), none, .p .mov, [.t 3]⟩ ::
 ⟨(some 17), none, .p .mov, [.t 0]⟩ ::
 ⟨(some 18), none, .p .mov, [.t 3]⟩ ::
 ⟨(some 19), none, .p (.iaddrS 2), [.t 17, .t 18]⟩ ::
 ⟨(some 20), none, .r (.loadN 2), [.t 19]⟩ ::
 ⟨(some 21), none, .p .mov, [.t 0]⟩ ::
 ⟨(some 22), none, .p .mov, [.t 1]⟩ ::
 ⟨(some 23), none, .p (.iaddrS 2), [.t 21, .t 22]⟩ ::
 ⟨(some 24), none, .r (.loadN 2), [.t 23]⟩ ::
 ⟨(some 25), none, .p (.iaddrS 2), [.t 13, .t 14]⟩ ::
 ⟨none, none, .e (.store 2), [.t 25, .t 20]⟩ ::
 ⟨(some 26), none, .p (.iaddrS 2), [.t 15, .t 16]⟩ ::
 ⟨none, none, .e (.store 2), [.t 26, .t 24]⟩ ::
 []) ([] :: [] :: [] :: [] :: [] :: [] :: [] :: [] :: [] :: [] :: [] :: [] :: [] :: [] :: [] :: [] :: []))
(.seq (.ops (⟨(some 27), none, .p .mov, [.t 1]⟩ ::
 ⟨(some 28), none, .p (.bin .add), [.t 27, .c (.int .i64 1)]⟩ ::
 ⟨(some 29), none, .p .mov, [.t 2]⟩ ::
 ⟨(some 30), none, .p (.bin .sub), [.t 29, .c (.int .i64 1)]⟩ ::
 ⟨(some 11), none, .p .mov, [.t 28]⟩ ::
 ⟨(some 12), none, .p .mov, [.t 30]⟩ ::
 []))
(.seq (.block 0 (.loop L_slices_partitionEqualCmpFunc_rank_one_0))
(.seq (.ops (⟨(some 89), none, .p .mov, [.t 11]⟩ ::
 ⟨(some 10), none, .p .mov, [.t 89]⟩ ::
 []))
.ret)))))⟩
abbrev f_slices_partitionEqualCmpFunc_rank_one : Nat := 77
abbrev C_slices_partitionEqualCmpFunc_rank_one : AFunc := C77
def L_slices_partitionCmpFunc_rank_one_0 : AC := (.seq (.seq (.dops (⟨(some 32), none, .p .mov, [.t 12]⟩ ::
 ⟨(some 33), none, .p .mov, [.t 13]⟩ ::
 ⟨(some 34), none, .p (.bin .leq), [.t 32, .t 33]⟩ ::
 ⟨(some 35), none, .p .mov, [.t 34]⟩ ::
 ⟨(some 36), (some (35, true)), .p .mov, [.t 4]⟩ ::
 ⟨(some 37), (some (35, true)), .p .mov, [.t 0]⟩ ::
 ⟨(some 38), (some (35, true)), .p .mov, [.t 12]⟩ ::
 ⟨(some 39), (some (35, true)), .p (.iaddrS 2), [.t 37, .t 38]⟩ ::
 ⟨(some 40), (some (35, true)), .r (.loadN 2), [.t 39]⟩ ::
 ⟨(some 41), (some (35, true)), .p .mov, [.t 0]⟩ ::
 ⟨(some 42), (some (35, true)), .p .mov, [.t 1]⟩ ::
 ⟨(some 43), (some (35, true)), .p (.iaddrS 2), [.t 41, .t 42]⟩ ::
 ⟨(some 44), (some (35, true)), .r (.loadN 2), [.t 43]⟩ ::
 ⟨(some 45), (some (35, true)), .call, [.t 36, .t 40, .t 44]⟩ ::
 ⟨(some 46), (some (35, true)), .p (.bin .lss), [.t 45, .c (.int .i64 0)]⟩ ::
 ⟨(some 47), none, .p .pick, [.t 35, .t 46, .c (.bool false)]⟩ ::
 []) ([] :: [] :: [] :: [] :: [] :: [] :: [] :: [] :: [] :: [] :: [] :: [] :: [] :: [] :: [] :: [] :: []))
(.cond (.t 47)
.skip
(.exit 0)))
(.block 1 (.ops (⟨(some 48), none, .p .mov, [.t 12]⟩ ::
 ⟨(some 49), none, .p (.bin .add), [.t 48, .c (.int .i64 1)]⟩ ::
 ⟨(some 12), none, .p .mov, [.t 49]⟩ ::
 []))))
def L_slices_partitionCmpFunc_rank_one_1 : AC := (.seq (.seq (.dops (⟨(some 50), none, .p .mov, [.t 12]⟩ ::
 ⟨(some 51), none, .p .mov, [.t 13]⟩ ::
 ⟨(some 52), none, .p (.bin .leq), [.t 50, .t 51]⟩ ::
 ⟨(some 53), none, .p .mov, [.t 52]⟩ ::
 ⟨(some 54), (some (53, true)), .p .mov, [.t 4]⟩ ::
 ⟨(some 55), (some (53, true)), .p .mov, [.t 0]⟩ ::
 ⟨(some 56), (some (53, true)), .p .mov, [.t 13]⟩ ::
 ⟨(some 57), (some (53, true)), .p (.iaddrS 2), [.t 55, .t 56]⟩ ::
 ⟨(some 58), (some (53, true)), .r (.loadN 2), [.t 57]⟩ ::
 ⟨(some 59), (some (53, true)), .p .mov, [.t 0]⟩ ::
 ⟨(some 60), (some (53, true)), .p .mov, [.t 1]⟩ ::
 ⟨(some 61), (some (53, true)), .p (.iaddrS 2), [.t 59, .t 60]⟩ ::
 ⟨(some 62), (some (53, true)), .r (.loadN 2), [.t 61]⟩ ::
 ⟨(some 63), (some (53, true)), .call, [.t 54, .t 58, .t 62]⟩ ::
 ⟨(some 64), (some (53, true)), .p (.bin .lss), [.t 63, .c (.int .i64 0)]⟩ ::
 ⟨(some 65), (some (53, true)), .p .not, [.t 64]⟩ ::
 ⟨(some 66), none, .p .pick, [.t 53, .t 65, .c (.bool false)]⟩ ::
 []) ([] :: [] :: [] :: [] :: [] :: [] :: [] :: [] :: [] :: [] :: [] :: [] :: [] :: [] :: [] :: [] :: [] :: []))
(.cond (.t 66)
.skip
(.exit 2)))
(.block 3 (.ops (⟨(some 67), none, .p .mov, [.t 13]⟩ ::
 ⟨(some 68), none, .p (.bin .sub), [.t 67, .c (.int .i64 1)]⟩ ::
 ⟨(some 13), none, .p .mov, [.t 68]⟩ ::
 []))))
def L_slices_partitionCmpFunc_rank_one_3 : AC := (.seq (.seq (.dops (⟨(some 105), none, .p .mov, [.t 12]⟩ ::
 ⟨(some 106), none, .p .mov, [.t 13]⟩ ::
 ⟨(some 107), none, .p (.bin .leq), [.t 105, .t 106]⟩ ::
 ⟨(some 108), none, .p .mov, [.t 107]⟩ ::
 ⟨(some 109), (some (108, true)), .p .mov, [.t 4]⟩ ::
 ⟨(some 110), (some (108, true)), .p .mov, [.t 0]⟩ ::
 ⟨(some 111), (some (108, true)), .p .mov, [.t 12]⟩ ::
 ⟨(some 112), (some (108, true)), .p (.iaddrS 2), [.t 110, .t 111]⟩ ::
 ⟨(some 113), (some (108, true)), .r (.loadN 2), [.t 112]⟩ ::
 ⟨(some 114), (some (108, true)), .p .mov, [.t 0]⟩ ::
 ⟨(some 115), (some (108, true)), .p .mov, [.t 1]⟩ ::
 ⟨(some 116), (some (108, true)), .p (.iaddrS 2), [.t 114, .t 115]⟩ ::
 ⟨(some 117), (some (108, true)), .r (.loadN 2), [.t 116]⟩ ::
 ⟨(some 118), (some (108, true)), .call, [.t 109, .t 113, .t 117]⟩ ::
 ⟨(some 119), (some (108, true)), .p (.bin .lss), [.t 118, .c (.int .i64 0)]⟩ ::
 ⟨(some 120), none, .p .pick, [.t 108, .t 119, .c (.bool false)]⟩ ::
 []) ([] :: [] :: [] :: [] :: [] :: [] :: [] :: [] :: [] :: [] :: [] :: [] :: [] :: [] :: [] :: [] :: []))
(.cond (.t 120)
.skip
(.exit 6)))
(.block 7 (.ops (⟨(some 121), none, .p .mov, [.t 12]⟩ ::
 ⟨(some 122), none, .p (.bin .add), [.t 121, .c (.int .i64 1)]⟩ ::
 ⟨(some 12), none, .p .mov, [.t 122]⟩ ::
 []))))
def L_slices_partitionCmpFunc_rank_one_4 : AC := (.seq (.seq (.dops (⟨(some 123), none, .p .mov, [.t 12]⟩ ::
 ⟨(some 124), none, .p .mov, [.t 13]⟩ ::
 ⟨(some 125), none, .p (.bin .leq), [.t 123, .t 124]⟩ ::
 ⟨(some 126), none, .p .mov, [.t 125]⟩ ::
 ⟨(some 127), (some (126, true)), .p .mov, [.t 4]⟩ ::
 ⟨(some 128), (some (126, true)), .p .mov, [.t 0]⟩ ::
 ⟨(some 129), (some (126, true)), .p .mov, [.t 13]⟩ ::
 ⟨(some 130), (some (126, true)), .p (.iaddrS 2), [.t 128, .t 129]⟩ ::
 ⟨(some 131), (some (126, true)), .r (.loadN 2), [.t 130]⟩ ::
 ⟨(some 132), (some (126, true)), .p .mov, [.t 0]⟩ ::
 ⟨(some 133), (some (126, true)), .p .mov, [.t 1]⟩ ::
 ⟨(some 134), (some (126, true)), .p (.iaddrS 2), [.t 132, .t 133]⟩ ::
 ⟨(some 135), (some (126, true)), .r (.loadN 2), [.t 134]⟩ ::
 ⟨(some 136), (some (126, true)), .call, [.t 127, .t 131, .t 135]⟩ ::
 ⟨(some 137), (some (126, true)), .p (.bin .lss), [.t 136, .c (.int .i64 0)]⟩ ::
 ⟨(some 138), (some (126, true)), .p .not, [.t 137]⟩ ::
 ⟨(some 139), none, .p .pick, [.t 126, .t 138, .c (.bool false)]⟩ ::
 []) ([] :: [] :: [] :: [] :: [] :: [] :: [] :: [] :: [] :: [] :: [] :: [] :: [] :: [] :: [] :: [] :: [] :: []))
(.cond (.t 139)
.skip
(.exit 8)))
(.block 9 (.ops (⟨(some 140), none, .p .mov, [.t 13]⟩ ::
 ⟨(some 141), none, .p (.bin .sub), [.t 140, .c (.int .i64 1)]⟩ ::
 ⟨(some 13), none, .p .mov, [.t 141]⟩ ::
 []))))
def L_slices_partitionCmpFunc_rank_one_2 : AC := (.block 5 (.seq (.block 6 (.loop L_slices_partitionCmpFunc_rank_one_3))
(.seq (.block 8 (.loop L_slices_partitionCmpFunc_rank_one_4))
(.seq (.seq (.ops (⟨(some 142), none, .p .mov, [.t 12]⟩ ::
 ⟨(some 143), none, .p .mov, [.t 13]⟩ ::
 ⟨(some 144), none, .p (.bin .gtr), [.t 142, .t 143]⟩ ::
 []))
(.cond (.t 144)
(.exit 4)
.skip))
(.seq (.dops (⟨(some 145), none, .p .mov, [.t 0]⟩ ::
 ⟨(some 146), none, .p .mov, [.t 12]⟩ ::
 ⟨(some 147), none, .p .mov, [.t 0]⟩ ::
 ⟨(some 148), none, .p .mov, [.t 13]⟩ ::
 ⟨(some 149), none, .p .mov, [.t 0]⟩ ::
 ⟨(some 150), none, .p .mov, [.t 13]⟩ ::
 ⟨(some 151), none, .p (.iaddrS 2), [.t 149, .t 150]⟩ ::
 ⟨(some 152), none, .r (.loadN 2), [.t 151]⟩ ::
 ⟨(some 153), none, .p .mov, [.t 0]⟩ ::
 ⟨(some 154), none, .p .mov, [.t 12]⟩ ::
 ⟨(some 155), none, .p (.iaddrS 2), [.t 153, .t 154]⟩ ::
 ⟨(some 156), none, .r (.loadN 2), [.t 155]⟩ ::
 ⟨(some 157), none, .p (.iaddrS 2), [.t 145, .t 146]⟩ ::
 ⟨none, none, .e (.store 2), [.t 157, .t 152]⟩ ::
 ⟨(some 158), none, .p (.iaddrS 2), [.t 147, .t 148]⟩ ::
 ⟨none, none, .e (.store 2), [.t 158, .t 156]⟩ ::
 []) ([] :: [] :: [] :: [] :: [] :: [] :: [] :: [] :: [] :: [] :: [] :: [] :: [] :: [] :: [] :: [] :: []))
(.seq (.ops (⟨(some 159), none, .p .mov, [.t 12]⟩ ::
 ⟨(some 160), none, .p (.bin .add), [.t 159, .c (.int .i64 1)]⟩ ::
 ⟨(some 12), none, .p .mov, [.t 160]⟩ ::
 []))
(.ops (⟨(some 161), none, .p .mov, [.t 13]⟩ ::
 ⟨(some 162), none, .p (.bin .sub), [.t 161, .c (.int .i64 1)]⟩ ::
 ⟨(some 13), none, .p .mov, [.t 162]⟩ ::
 []))))))))
def C78 : AFunc := ⟨178, [.tmp 10, .tmp 11],
(.seq (.ops (⟨(some 10), none, .p .mov, [.c (.int .i64 0)]⟩ ::
 ⟨(some 11), none, .p .mov, [.c (.bool false)]⟩ ::
 []))
(.seq (.dops (⟨(some 14), none, .p .mov, [.t 0]⟩ ::
 ⟨(some 15), none, .p .mov, [.t 1]⟩ ::
 ⟨(some 16), none, .p .mov, [.t 0]⟩ ::
 ⟨(some 17), none, .p .mov, [.t 3]⟩ ::
 ⟨(some 18), none, .p .mov, [.t 0]⟩ ::
 ⟨(some 19), none, .p .mov, [.t 3]⟩ ::
 ⟨(some 20), none, .p (.iaddrS 2), [.t 18, .t 19]⟩ ::
 ⟨(some 21), none, .r (.loadN 2), [.t 20]⟩ ::
 ⟨(some 22), none, .p .mov, [.t 0]⟩ ::
 ⟨(some 23), none, .p .mov, [.t 1]⟩ ::
 ⟨(some 24), none, .p (.iaddrS 2), [.t 22, .t 23]⟩ ::
 ⟨(some 25), none, .r (.loadN 2), [.t 24]⟩ ::
 ⟨(some 26), none, .p (.iaddrS 2), [.t 14, .t 15]⟩ ::
 ⟨none, none, .e (.store 2), [.t 26, .t 21]⟩ ::
 ⟨(some 27), none, .p (.iaddrS 2), [.t 16, .t 17]⟩ ::
 ⟨none, none, .e (.store 2), [.t 27, .t 25]⟩ ::
 []) ([] :: [] :: [] :: [] :: [] :: [] :: [] :: [] :: [] :: [] :: [] :: [] :: [] :: [] :: [] :: [] :: []))
(.seq (.ops (⟨(some 28), none, .p .mov, [.t 1]⟩ ::
 ⟨(some 29), none, .p (.bin .add), [.t 28, .c (.int .i64 1)]⟩ ::
 ⟨(some 30), none, .p .mov, [.t 2]⟩ ::
 ⟨(some 31), none, .p (.bin .sub), [.t 30, .c (.int .i64 1)]⟩ ::
 ⟨(some 12), none, .p .mov, [.t 29]⟩ ::
 ⟨(some 13), none, .p .mov, [.t 31]⟩ ::
 []))
(.seq (.block 0 (.loop L_slices_partitionCmpFunc_rank_one_0))
(.seq (.block 2 (.loop L_slices_partitionCmpFunc_rank_one_1))
(.seq (.seq (.ops (⟨(some 69), none, .p .mov, [.t 12]⟩ ::
 ⟨(some 70), none, .p .mov, [.t 13]⟩ ::
 ⟨(some 71), none, .p (.bin .gtr), [.t 69, .t 70]⟩ ::
 []))
(.cond (.t 71)
(.seq (.dops (⟨(some 72), none, .p .mov, [.t 0]⟩ ::
 ⟨(some 73), none, .p .mov, [.t 13]⟩ ::
 ⟨(some 74), none, .p .mov, [.t 0]⟩ ::
 ⟨(some 75), none, .p .mov, [.t 1]⟩ ::
 ⟨(some 76), none, .p .mov, [.t 0]⟩ ::
 ⟨(some 77), none, .p .mov, [.t 1]⟩ ::
 ⟨(some 78), none, .p (.iaddrS 2), [.t 76, .t 77]⟩ ::
 ⟨(some 79), none, .r (.loadN 2), [.t 78]⟩ ::
 ⟨(some 80), none, .p .mov, [.t 0]⟩ ::
 ⟨(some 81), none, .p .mov, [.t 13]⟩ ::
 ⟨(some 82), none, .p (.iaddrS 2), [.t 80, .t 81]⟩ ::
 ⟨(some 83), none, .r (.loadN 2), [.t 82]⟩ ::
 ⟨(some 84), none, .p (.iaddrS 2), [.t 72, .t 73]⟩ ::
 ⟨none, none, .e (.store 2), [.t 84, .t 79]⟩ ::
 ⟨(some 85), none, .p (.iaddrS 2), [.t 74, .t 75]⟩ ::
 ⟨none, none, .e (.store 2), [.t 85, .t 83]⟩ ::
 []) ([] :: [] :: [] :: [] :: [] :: [] :: [] :: [] :: [] :: [] :: [] :: [] :: [] :: [] :: [] :: [] :: []))
(.seq (.ops (⟨(some 86), none, .p .mov, [.t 13]⟩ ::
 ⟨(some 10), none, .p .mov, [.t 86]⟩ ::
 ⟨(some 11), none, .p .mov, [.c (.bool true)]⟩ ::
 []))
.ret))
.skip))
(.seq (.dops (⟨(some 87), none, .p .mov, [.t 0]⟩ ::
 ⟨(some 88), none, .p .mov, [.t 12]⟩ ::
 ⟨(some 89), none, .p .mov, [.t 0]⟩ ::
 ⟨(some 90), none, .p .mov, [.t 13]⟩ ::
 ⟨(some 91), none, .p .mov, [.t 0]⟩ ::
 ⟨(some 92), none, .p .mov, [.t 13]⟩ ::
 ⟨(some 93), none, .p (.iaddrS 2), [.t 91, .t 92]⟩ ::
 ⟨(some 94), none, .r (.loadN 2), [.t 93]⟩ ::
 ⟨(some 95), none, .p .mov, [.t 0]⟩ ::
 ⟨(some 96), none, .p .mov, [.t 12]⟩ ::
 ⟨(some 97), none, .p (.iaddrS 2), [.t 95, .t 96]⟩ ::
 ⟨(some 98), none, .r (.loadN 2), [.t 97]⟩ ::
 ⟨(some 99), none, .p (.iaddrS 2), [.t 87, .t 88]⟩ ::
 ⟨none, none, .e (.store 2), [.t 99, .t 94]⟩ ::
 ⟨(some 100), none, .p (.iaddrS 2), [.t 89, .t 90]⟩ ::
 ⟨none, none, .e (.store 2), [.t 100, .t 98]⟩ ::
 []) ([] :: [] :: [] :: [] :: [] :: [] :: [] :: [] :: [] :: [] :: [] :: [] :: [] :: [] :: [] :: [] :: []))
(.seq (.ops (⟨(some 101), none, .p .mov, [.t 12]⟩ ::
 ⟨(some 102), none, .p (.bin .add), [.t 101, .c (.int .i64 1)]⟩ ::
 ⟨(some 12), none, .p .mov, [.t 102]⟩ ::
 []))
(.seq (.ops (⟨(some 103), none, .p .mov, [.t 13]⟩ ::
 ⟨(some 104), none, .p (.bin .sub), [.t 103, .c (.int .i64 1)]⟩ ::
 ⟨(some 13), none, .p .mov, [.t 104]⟩ ::
 []))
(.seq (.block 4 (.loop L_slices_partitionCmpFunc_rank_one_2))
(.seq (.dops (⟨(some 163), none, .p .mov, [.t 0]⟩ ::
 ⟨(some 164), none, .p .mov, [.t 13]⟩ ::
 ⟨(some 165), none, .p .mov, [.t 0]⟩ ::
 ⟨(some 166), none, .p .mov, [.t 1]⟩ ::
 ⟨(some 167), none, .p .mov, [.t 0]⟩ ::
 ⟨(some 168), none, .p .mov, [.t 1]⟩ ::
 ⟨(some 169), none, .p (.iaddrS 2), [.t 167, .t 168]⟩ ::
 ⟨(some 170), none, .r (.loadN 2), [.t 169]⟩ ::
 ⟨(some 171), none, .p .mov, [.t 0]⟩ ::
 ⟨(some 172), none, .p .mov, [.t 13]⟩ ::
 ⟨(some 173), none, .p (.iaddrS 2), [.t 171, .t 172]⟩ ::
 ⟨(some 174), none, .r (.loadN 2), [.t 173]⟩ ::
 ⟨(some 175), none, .p (.iaddrS 2), [.t 163, .t 164]⟩ ::
 ⟨none, none, .e (.store 2), [.t 175, .t 170]⟩ ::
 ⟨(some 176), none, .p (.iaddrS 2), [.t 165, .t 166]⟩ ::
 ⟨none, none, .e (.store 2), [.t 176, .t 174]⟩ ::
 []) ([] :: [] :: [] :: [] :: [] :: [] :: [] :: [] :: [] :: [] :: [] :: [] :: [] :: [] :: [] :: [] :: []))
(.seq (.ops (⟨(some 177), none, .p .mov, [.t 13]⟩ ::
 ⟨(some 10), none, .p .mov, [.t 177]⟩ ::
 ⟨(some 11), none, .p .mov, [.c (.bool false)]⟩ ::
 []))
.ret))))))))))))⟩
abbrev f_slices_partitionCmpFunc_rank_one : Nat := 78
abbrev C_slices_partitionCmpFunc_rank_one : AFunc := C78
def C79 : AFunc := ⟨19, [.tmp 2],
(.seq (.ops (⟨(some 2), none, .p .mov, [.c (.int .i64 0)]⟩ ::
 []))
(.seq (.seq (.ops (⟨(some 3), none, .p .mov, [.t 0]⟩ ::
 ⟨(some 4), none, .p (.bin .geq), [.t 3, .c (.int .u32 65536)]⟩ ::
 []))
(.cond (.t 4)
(.seq (.ops (⟨(some 5), none, .p .mov, [.t 0]⟩ ::
 ⟨(some 6), none, .p (.bin .shr), [.t 5, .c (.int .u64 16)]⟩ ::
 ⟨(some 0), none, .p .mov, [.t 6]⟩ ::
 []))
(.ops (⟨(some 2), none, .p .mov, [.c (.int .i64 16)]⟩ ::
 [])))
.skip))
(.seq (.seq (.ops (⟨(some 7), none, .p .mov, [.t 0]⟩ ::
 ⟨(some 8), none, .p (.bin .geq), [.t 7, .c (.int .u32 256)]⟩ ::
 []))
(.cond (.t 8)
(.seq (.ops (⟨(some 9), none, .p .mov, [.t 0]⟩ ::
 ⟨(some 10), none, .p (.bin .shr), [.t 9, .c (.int .u64 8)]⟩ ::
 ⟨(some 0), none, .p .mov, [.t 10]⟩ ::
 []))
(.ops (⟨(some 11), none, .p .mov, [.t 2]⟩ ::
 ⟨(some 12), none, .p (.bin .add), [.t 11, .c (.int .i64 8)]⟩ ::
 ⟨(some 2), none, .p .mov, [.t 12]⟩ ::
 [])))
.skip))
(.seq (.ops (⟨(some 13), none, .p .mov, [.t 2]⟩ ::
 ⟨(some 14), none, .p .mov, [.t 0]⟩ ::
 ⟨(some 15), none, .p (.conv .u8), [.t 14]⟩ ::
 ⟨(some 16), none, .p .idxS, [.c (.str [0, 1, 2, 2, 3, 3, 3, 3, 4, 4, 4, 4, 4, 4, 4, 4, 5, 5, 5, 5, 5, 5, 5, 5, 5, 5, 5, 5, 5, 5, 5, 5, 6, 6, 6, 6, 6, 6, 6, 6, 6, 6, 6, 6, 6, 6, 6, 6, 6, 6, 6, 6, 6, 6, 6, 6, 6, 6, 6, 6, 6, 6, 6, 6, 7, 7, 7, 7, 7, 7, 7, 7, 7, 7, 7, 7, 7, 7, 7, 7, 7, 7, 7, 7, 7, 7, 7, 7, 7, 7, 7, 7, 7, 7, 7, 7, 7, 7, 7, 7, 7, 7, 7, 7, 7, 7, 7, 7, 7, 7, 7, 7, 7, 7, 7, 7, 7, 7, 7, 7, 7, 7, 7, 7, 7, 7, 7, 7, 8, 8, 8, 8, 8, 8, 8, 8, 8, 8, 8, 8, 8, 8, 8, 8, 8, 8, 8, 8, 8, 8, 8, 8, 8, 8, 8, 8, 8, 8, 8, 8, 8, 8, 8, 8, 8, 8, 8, 8, 8, 8, 8, 8, 8, 8, 8, 8, 8, 8, 8, 8, 8, 8, 8, 8, 8, 8, 8, 8, 8, 8, 8, 8, 8, 8, 8, 8, 8, 8, 8, 8, 8, 8, 8, 8, 8, 8, 8, 8, 8, 8, 8, 8, 8, 8, 8, 8, 8, 8, 8, 8, 8, 8, 8, 8, 8, 8, 8, 8, 8, 8, 8, 8, 8, 8, 8, 8, 8, 8, 8, 8, 8, 8, 8, 8, 8, 8, 8, 8, 8, 8, 8, 8, 8, 8, 8, 8]), .t 15]⟩ ::
 ⟨(some 17), none, .p (.conv .i64), [.t 16]⟩ ::
 ⟨(some 18), none, .p (.bin .add), [.t 13, .t 17]⟩ ::
 ⟨(some 2), none, .p .mov, [.t 18]⟩ ::
 []))
.ret))))⟩
abbrev f_math_bits_Len32 : Nat := 79
abbrev C_math_bits_Len32 : AFunc := C79
def C80 : AFunc := ⟨25, [.tmp 2],
(.seq (.ops (⟨(some 2), none, .p .mov, [.c (.int .i64 0)]⟩ ::
 []))
(.seq (.seq (.ops (⟨(some 3), none, .p .mov, [.t 0]⟩ ::
 ⟨(some 4), none, .p (.bin .geq), [.t 3, .c (.int .u64 4294967296)]⟩ ::
 []))
(.cond (.t 4)
(.seq (.ops (⟨(some 5), none, .p .mov, [.t 0]⟩ ::
 ⟨(some 6), none, .p (.bin .shr), [.t 5, .c (.int .u64 32)]⟩ ::
 ⟨(some 0), none, .p .mov, [.t 6]⟩ ::
 []))
(.ops (⟨(some 2), none, .p .mov, [.c (.int .i64 32)]⟩ ::
 [])))
.skip))
(.seq (.seq (.ops (⟨(some 7), none, .p .mov, [.t 0]⟩ ::
 ⟨(some 8), none, .p (.bin .geq), [.t 7, .c (.int .u64 65536)]⟩ ::
 []))
(.cond (.t 8)
(.seq (.ops (⟨(some 9), none, .p .mov, [.t 0]⟩ ::
 ⟨(some 10), none, .p (.bin .shr), [.t 9, .c (.int .u64 16)]⟩ ::
 ⟨(some 0), none, .p .mov, [.t 10]⟩ ::
 []))
(.ops (⟨(some 11), none, .p .mov, [.t 2]⟩ ::
 ⟨(some 12), none, .p (.bin .add), [.t 11, .c (.int .i64 16)]⟩ ::
 ⟨(some 2), none, .p .mov, [.t 12]⟩ ::
 [])))
.skip))
(.seq (.seq (.ops (⟨(some 13), none, .p .mov, [.t 0]⟩ ::
 ⟨(some 14), none, .p (.bin .geq), [.t 13, .c (.int .u64 256)]⟩ ::
 []))
(.cond (.t 14)
(.seq (.ops (⟨(some 15), none, .p .mov, [.t 0]⟩ ::
 ⟨(some 16), none, .p (.bin .shr), [.t 15, .c (.int .u64 8)]⟩ ::
 ⟨(some 0), none, .p .mov, [.t 16]⟩ ::
 []))
(.ops (⟨(some 17), none, .p .mov, [.t 2]⟩ ::
 ⟨(some 18), none, .p (.bin .add), [.t 17, .c (.int .i64 8)]⟩ ::
 ⟨(some 2), none, .p .mov, [.t 18]⟩ ::
 [])))
.skip))
(.seq (.ops (⟨(some 19), none, .p .mov, [.t 2]⟩ ::
 ⟨(some 20), none, .p .mov, [.t 0]⟩ ::
 ⟨(some 21), none, .p (.conv .u8), [.t 20]⟩ ::
 ⟨(some 22), none, .p .idxS, [.c (.str [0, 1, 2, 2, 3, 3, 3, 3, 4, 4, 4, 4, 4, 4, 4, 4, 5, 5, 5, 5, 5, 5, 5, 5, 5, 5, 5, 5, 5, 5, 5, 5, 6, 6, 6, 6, 6, 6, 6, 6, 6, 6, 6, 6, 6, 6, 6, 6, 6, 6, 6, 6, 6, 6, 6, 6, 6, 6, 6, 6, 6, 6, 6, 6, 7, 7, 7, 7, 7, 7, 7, 7, 7, 7, 7, 7, 7, 7, 7, 7, 7, 7, 7, 7, 7, 7, 7, 7, 7, 7, 7, 7, 7, 7, 7, 7, 7, 7, 7, 7, 7, 7, 7, 7, 7, 7, 7, 7, 7, 7, 7, 7, 7, 7, 7, 7, 7, 7, 7, 7, 7, 7, 7, 7, 7, 7, 7, 7, 8, 8, 8, 8, 8, 8, 8, 8, 8, 8, 8, 8, 8, 8, 8, 8, 8, 8, 8, 8, 8, 8, 8, 8, 8, 8, 8, 8, 8, 8, 8, 8, 8, 8, 8, 8, 8, 8, 8, 8, 8, 8, 8, 8, 8, 8, 8, 8, 8, 8, 8, 8, 8, 8, 8, 8, 8, 8, 8, 8, 8, 8, 8, 8, 8, 8, 8, 8, 8, 8, 8, 8, 8, 8, 8, 8, 8, 8, 8, 8, 8, 8, 8, 8, 8, 8, 8, 8, 8, 8, 8, 8, 8, 8, 8, 8, 8, 8, 8, 8, 8, 8, 8, 8, 8, 8, 8, 8, 8, 8, 8, 8, 8, 8, 8, 8, 8, 8, 8, 8, 8, 8, 8, 8, 8, 8, 8, 8]), .t 21]⟩ ::
 ⟨(some 23), none, .p (.conv .i64), [.t 22]⟩ ::
 ⟨(some 24), none, .p (.bin .add), [.t 19, .t 23]⟩ ::
 ⟨(some 2), none, .p .mov, [.t 24]⟩ ::
 []))
.ret)))))⟩
abbrev f_math_bits_Len64 : Nat := 80
abbrev C_math_bits_Len64 : AFunc := C80
def L_slices_siftDownCmpFunc_rank_one_0 : AC := (.block 1 (.seq (.ops (⟨(some 13), none, .p .mov, [.t 10]⟩ ::
 ⟨(some 14), none, .p (.bin .mul), [.c (.int .i64 2), .t 13]⟩ ::
 ⟨(some 15), none, .p (.bin .add), [.t 14, .c (.int .i64 1)]⟩ ::
 ⟨(some 11), none, .p .mov, [.t 15]⟩ ::
 []))
(.seq (.seq (.ops (⟨(some 16), none, .p .mov, [.t 11]⟩ ::
 ⟨(some 17), none, .p .mov, [.t 2]⟩ ::
 ⟨(some 18), none, .p (.bin .geq), [.t 16, .t 17]⟩ ::
 []))
(.cond (.t 18)
(.exit 0)
.skip))
(.seq (.seq (.dops (⟨(some 19), none, .p .mov, [.t 11]⟩ ::
 ⟨(some 20), none, .p (.bin .add), [.t 19, .c (.int .i64 1)]⟩ ::
 ⟨(some 21), none, .p .mov, [.t 2]⟩ ::
 ⟨(some 22), none, .p (.bin .lss), [.t 20, .t 21]⟩ ::
 ⟨(some 23), none, .p .mov, [.t 22]⟩ ::
 ⟨(some 24), (some (23, true)), .p .mov, [.t 4]⟩ ::
 ⟨(some 25), (some (23, true)), .p .mov, [.t 0]⟩ ::
 ⟨(some 26), (some (23, true)), .p .mov, [.t 3]⟩ ::
 ⟨(some 27), (some (23, true)), .p .mov, [.t 11]⟩ ::
 ⟨(some 28), (some (23, true)), .p (.bin .add), [.t 26, .t 27]⟩ ::
 ⟨(some 29), (some (23, true)), .p (.iaddrS 2), [.t 25, .t 28]⟩ ::
 ⟨(some 30), (some (23, true)), .r (.loadN 2), [.t 29]⟩ ::
 ⟨(some 31), (some (23, true)), .p .mov, [.t 0]⟩ ::
 ⟨(some 32), (some (23, true)), .p .mov, [.t 3]⟩ ::
 ⟨(some 33), (some (23, true)), .p .mov, [.t 11]⟩ ::
 ⟨(some 34), (some (23, true)), .p (.bin .add), [.t 32, .t 33]⟩ ::
 ⟨(some 35), (some (23, true)), .p (.bin .add), [.t 34, .c (.int .i64 1)]⟩ ::
 ⟨(some 36), (some (23, true)), .p (.iaddrS 2), [.t 31, .t 35]⟩ ::
 ⟨(some 37), (some (23, true)), .r (.loadN 2), [.t 36]⟩ ::
 ⟨(some 38), (some (23, true)), .call, [.t 24, .t 30, .t 37]⟩ ::
 ⟨(some 39), (some (23, true)), .p (.bin .lss), [.t 38, .c (.int .i64 0)]⟩ ::
 ⟨(some 40), none, .p .pick, [.t 23, .t 39, .c (.bool false)]⟩ ::
 []) ([] :: [] :: [] :: [] :: [] :: [] :: [] :: [] :: [] :: [] :: [] :: [] :: [] :: [] :: [] :: [] :: [] :: [] :: [] :: [] :: [] :: [] :: []))
(.cond (.t 40)
(.ops (⟨(some 41), none, .p .mov, [.t 11]⟩ ::
 ⟨(some 42), none, .p (.bin .add), [.t 41, .c (.int .i64 1)]⟩ ::
 ⟨(some 11), none, .p .mov, [.t 42]⟩ ::
 []))
.skip))
(.seq (.seq (.dops (⟨(some 43), none, .p .mov, [.t 4]⟩ ::
 ⟨(some 44), none, .p .mov, [.t 0]⟩ ::
 ⟨(some 45), none, .p .mov, [.t 3]⟩ ::
 ⟨(some 46), none, .p .mov, [.t 10]⟩ ::
 ⟨(some 47), none, .p (.bin .add), [.t 45, .t 46]⟩ ::
 ⟨(some 48), none, .p (.iaddrS 2), [.t 44, .t 47]⟩ ::
 ⟨(some 49), none, .r (.loadN 2), [.t 48]⟩ ::
 ⟨(some 50), none, .p .mov, [.t 0]⟩ ::
 ⟨(some 51), none, .p .mov, [.t 3]⟩ ::
 ⟨(some 52), none, .p .mov, [.t 11]⟩ ::
 ⟨(some 53), none, .p (.bin .add), [.t 51, .t 52]⟩ ::
 ⟨(some 54), none, .p (.iaddrS 2), [.t 50, .t 53]⟩ ::
 ⟨(some 55), none, .r (.loadN 2), [.t 54]⟩ ::
 ⟨(some 56), none, .call, [.t 43, .t 49, .t 55]⟩ ::
 ⟨(some 57), none, .p (.bin .lss), [.t 56, .c (.int .i64 0)]⟩ ::
 ⟨(some 58), none, .p .not, [.t 57]⟩ ::
 []) ([] :: [] :: [] :: [] :: [] :: [] :: [] :: [] :: [] :: [] :: [] :: [] :: [] :: [] :: [] :: [] :: []))
(.cond (.t 58)
.ret
.skip))
(.seq (.dops (⟨(some 59), none, .p .mov, [.t 0]⟩ ::
 ⟨(some 60), none, .p .mov, [.t 3]⟩ ::
 ⟨(some 61), none, .p .mov, [.t 10]⟩ ::
 ⟨(some 62), none, .p (.bin .add), [.t 60, .t 61]⟩ ::
 ⟨(some 63), none, .p .mov, [.t 0]⟩ ::
 ⟨(some 64), none, .p .mov, [.t 3]⟩ ::
 ⟨(some 65), none, .p .mov, [.t 11]⟩ ::
 ⟨(some 66), none, .p (.bin .add), [.t 64, .t 65]⟩ ::
 ⟨(some 67), none, .p .mov, [.t 0]⟩ ::
 ⟨(some 68), none, .p .mov, [.t 3]⟩ ::
 ⟨(some 69), none, .p .mov, [.t 11]⟩ ::
 ⟨(some 70), none, .p (.bin .add), [.t 68, .t 69]⟩ ::
 ⟨(some 71), none, .p (.iaddrS 2), [.t 67, .t 70]⟩ ::
 ⟨(some 72), none, .r (.loadN 2), [.t 71]⟩ ::
 ⟨(some 73), none, .p .mov, [.t 0]⟩ ::
 ⟨(some 74), none, .p .mov, [.t 3]⟩ ::
 ⟨(some 75), none, .p .mov, [.t 10]⟩ ::
 ⟨(some 76), none, .p (.bin .add), [.t 74, .t 75]⟩ ::
 ⟨(some 77), none, .p (.iaddrS 2), [.t 73, .t 76]⟩ ::
 ⟨(some 78), none, .r (.loadN 2), [.t 77]⟩ ::
 ⟨(some 79), none, .p (.iaddrS 2), [.t 59, .t 62]⟩ ::
 ⟨none, none, .e (.store 2), [.t 79, .t 72]⟩ ::
 ⟨(some 80), none, .p (.iaddrS 2), [.t 63, .t 66]⟩ ::
 ⟨none, none, .e (.store 2), [.t 80, .t 78]⟩ ::
 []) ([] :: [] :: [] :: [] :: [] :: [] :: [] :: [] :: [] :: [] :: [] :: [] :: [] :: [] :: [] :: [] :: [] :: [] :: [] :: [] :: [] :: [] :: [] :: [] :: []))
(.ops (⟨(some 81), none, .p .mov, [.t 11]⟩ ::
 ⟨(some 10), none, .p .mov, [.t 81]⟩ ::
 []))))))))
def C81 : AFunc := ⟨82, [],
(.seq (.ops (⟨(some 12), none, .p .mov, [.t 1]⟩ ::
 ⟨(some 10), none, .p .mov, [.t 12]⟩ ::
 []))
(.block 0 (.loop L_slices_siftDownCmpFunc_rank_one_0)))⟩
abbrev f_slices_siftDownCmpFunc_rank_one : Nat := 81
abbrev C_slices_siftDownCmpFunc_rank_one : AFunc := C81
def C82 : AFunc := ⟨7, [.tmp 2],
(.seq (.ops (⟨(some 2), none, .p .mov, [.c (.int .u64 0)]⟩ ::
 []))
(.seq (.ops (⟨(some 3), none, .p .mov, [.t 0]⟩ ::
 ⟨(some 4), none, .p (.conv .u64), [.t 3]⟩ ::
 ⟨(some 5), none, .call, [.c (.func (.func 67) [] []), .t 4]⟩ ::
 ⟨(some 6), none, .p (.bin .shl), [.c (.int .u64 1), .t 5]⟩ ::
 ⟨(some 2), none, .p .mov, [.t 6]⟩ ::
 []))
.ret))⟩
abbrev f_slices_nextPowerOfTwo : Nat := 82
abbrev C_slices_nextPowerOfTwo : AFunc := C82
def C83 : AFunc := ⟨33, [.tmp 2],
(.seq (.ops (⟨(some 2), none, .p .mov, [.c (.int .u64 0)]⟩ ::
 []))
(.seq (.dops (⟨(some 3), none, .p .mov, [.t 0]⟩ ::
 ⟨(some 4), none, .p .nilchk, [.t 3]⟩ ::
 ⟨(some 5), none, .r .load1, [.t 4]⟩ ::
 ⟨(some 6), none, .p .mov, [.t 0]⟩ ::
 ⟨(some 7), none, .p .nilchk, [.t 6]⟩ ::
 ⟨(some 8), none, .r .load1, [.t 7]⟩ ::
 ⟨(some 9), none, .p (.bin .shl), [.t 8, .c (.int .u64 13)]⟩ ::
 ⟨(some 10), none, .p (.bin .xor), [.t 5, .t 9]⟩ ::
 ⟨(some 11), none, .p .nilchk, [.t 3]⟩ ::
 ⟨none, none, .e (.store 1), [.t 11, .t 10]⟩ ::
 []) ([] :: [] :: [] :: [] :: [] :: [] :: [] :: [] :: [] :: [] :: []))
(.seq (.dops (⟨(some 12), none, .p .mov, [.t 0]⟩ ::
 ⟨(some 13), none, .p .nilchk, [.t 12]⟩ ::
 ⟨(some 14), none, .r .load1, [.t 13]⟩ ::
 ⟨(some 15), none, .p .mov, [.t 0]⟩ ::
 ⟨(some 16), none, .p .nilchk, [.t 15]⟩ ::
 ⟨(some 17), none, .r .load1, [.t 16]⟩ ::
 ⟨(some 18), none, .p (.bin .shr), [.t 17, .c (.int .u64 7)]⟩ ::
 ⟨(some 19), none, .p (.bin .xor), [.t 14, .t 18]⟩ ::
 ⟨(some 20), none, .p .nilchk, [.t 12]⟩ ::
 ⟨none, none, .e (.store 1), [.t 20, .t 19]⟩ ::
 []) ([] :: [] :: [] :: [] :: [] :: [] :: [] :: [] :: [] :: [] :: []))
(.seq (.dops (⟨(some 21), none, .p .mov, [.t 0]⟩ ::
 ⟨(some 22), none, .p .nilchk, [.t 21]⟩ ::
 ⟨(some 23), none, .r .load1, [.t 22]⟩ ::
 ⟨(some 24), none, .p .mov, [.t 0]⟩ ::
 ⟨(some 25), none, .p .nilchk, [.t 24]⟩ ::
 ⟨(some 26), none, .r .load1, [.t 25]⟩ ::
 ⟨(some 27), none, .p (.bin .shl), [.t 26, .c (.int .u64 17)]⟩ ::
 ⟨(some 28), none, .p (.bin .xor), [.t 23, .t 27]⟩ ::
 ⟨(some 29), none, .p .nilchk, [.t 21]⟩ ::
 ⟨none, none, .e (.store 1), [.t 29, .t 28]⟩ ::
 []) ([] :: [] :: [] :: [] :: [] :: [] :: [] :: [] :: [] :: [] :: []))
(.seq (.ops (⟨(some 30), none, .p .mov, [.t 0]⟩ ::
 ⟨(some 31), none, .p .nilchk, [.t 30]⟩ ::
 ⟨(some 32), none, .r .load1, [.t 31]⟩ ::
 ⟨(some 2), none, .p .mov, [.t 32]⟩ ::
 []))
.ret)))))⟩
abbrev f_slices_xorshift_Next : Nat := 83
abbrev C_slices_xorshift_Next : AFunc := C83
def C84 : AFunc := ⟨18, [.tmp 8],
(.seq (.ops (⟨(some 8), none, .p .mov, [.c (.int .i64 0)]⟩ ::
 []))
(.seq (.ops (⟨(some 9), none, .p .mov, [.t 0]⟩ ::
 ⟨(some 10), none, .p .mov, [.t 1]⟩ ::
 ⟨(some 11), none, .p (.bin .sub), [.t 10, .c (.int .i64 1)]⟩ ::
 ⟨(some 12), none, .p .mov, [.t 1]⟩ ::
 ⟨(some 13), none, .p .mov, [.t 1]⟩ ::
 ⟨(some 14), none, .p (.bin .add), [.t 13, .c (.int .i64 1)]⟩ ::
 ⟨(some 15), none, .p .mov, [.t 2]⟩ ::
 ⟨(some 16), none, .p .mov, [.t 3]⟩ ::
 ⟨(some 17), none, .call, [.c (.func (.func 85) [] []), .t 9, .t 11, .t 12, .t 14, .t 15, .t 16]⟩ ::
 ⟨(some 8), none, .p .mov, [.t 17]⟩ ::
 []))
.ret))⟩
abbrev f_slices_medianAdjacentCmpFunc_rank_one : Nat := 84
abbrev C_slices_medianAdjacentCmpFunc_rank_one : AFunc := C84
def C85 : AFunc := ⟨41, [.tmp 12],
(.seq (.ops (⟨(some 12), none, .p .mov, [.c (.int .i64 0)]⟩ ::
 []))
(.seq (.ops (⟨(some 14), none, .p .mov, [.t 0]⟩ ::
 ⟨(some 15), none, .p .mov, [.t 1]⟩ ::
 ⟨(some 16), none, .p .mov, [.t 2]⟩ ::
 ⟨(some 17), none, .p .mov, [.t 4]⟩ ::
 ⟨(some 18), none, .p .mov, [.t 5]⟩ ::
 ⟨(some 19), none, .call, [.c (.func (.func 86) [] []), .t 14, .t 15, .t 16, .t 17, .t 18]⟩ ::
 ⟨(some 13), none, .p .mov, [.t 19]⟩ ::
 ⟨(some 20), none, .p (.ext 0), [.t 13]⟩ ::
 ⟨(some 21), none, .p (.ext 1), [.t 13]⟩ ::
 ⟨(some 1), none, .p .mov, [.t 20]⟩ ::
 ⟨(some 2), none, .p .mov, [.t 21]⟩ ::
 []))
(.seq (.ops (⟨(some 23), none, .p .mov, [.t 0]⟩ ::
 ⟨(some 24), none, .p .mov, [.t 2]⟩ ::
 ⟨(some 25), none, .p .mov, [.t 3]⟩ ::
 ⟨(some 26), none, .p .mov, [.t 4]⟩ ::
 ⟨(some 27), none, .p .mov, [.t 5]⟩ ::
 ⟨(some 28), none, .call, [.c (.func (.func 86) [] []), .t 23, .t 24, .t 25, .t 26, .t 27]⟩ ::
 ⟨(some 22), none, .p .mov, [.t 28]⟩ ::
 ⟨(some 29), none, .p (.ext 0), [.t 22]⟩ ::
 ⟨(some 30), none, .p (.ext 1), [.t 22]⟩ ::
 ⟨(some 2), none, .p .mov, [.t 29]⟩ ::
 ⟨(some 3), none, .p .mov, [.t 30]⟩ ::
 []))
(.seq (.ops (⟨(some 32), none, .p .mov, [.t 0]⟩ ::
 ⟨(some 33), none, .p .mov, [.t 1]⟩ ::
 ⟨(some 34), none, .p .mov, [.t 2]⟩ ::
 ⟨(some 35), none, .p .mov, [.t 4]⟩ ::
 ⟨(some 36), none, .p .mov, [.t 5]⟩ ::
 ⟨(some 37), none, .call, [.c (.func (.func 86) [] []), .t 32, .t 33, .t 34, .t 35, .t 36]⟩ ::
 ⟨(some 31), none, .p .mov, [.t 37]⟩ ::
 ⟨(some 38), none, .p (.ext 0), [.t 31]⟩ ::
 ⟨(some 39), none, .p (.ext 1), [.t 31]⟩ ::
 ⟨(some 1), none, .p .mov, [.t 38]⟩ ::
 ⟨(some 2), none, .p .mov, [.t 39]⟩ ::
 []))
(.seq (.ops (⟨(some 40), none, .p .mov, [.t 2]⟩ ::
 ⟨(some 12), none, .p .mov, [.t 40]⟩ ::
 []))
.ret)))))⟩
abbrev f_slices_medianCmpFunc_rank_one : Nat := 85
abbrev C_slices_medianCmpFunc_rank_one : AFunc := C85
def C86 : AFunc := ⟨32, [.tmp 10, .tmp 11],
(.seq (.ops (⟨(some 10), none, .p .mov, [.c (.int .i64 0)]⟩ ::
 ⟨(some 11), none, .p .mov, [.c (.int .i64 0)]⟩ ::
 []))
(.seq (.seq (.dops (⟨(some 12), none, .p .mov, [.t 4]⟩ ::
 ⟨(some 13), none, .p .mov, [.t 0]⟩ ::
 ⟨(some 14), none, .p .mov, [.t 2]⟩ ::
 ⟨(some 15), none, .p (.iaddrS 2), [.t 13, .t 14]⟩ ::
 ⟨(some 16), none, .r (.loadN 2), [.t 15]⟩ ::
 ⟨(some 17), none, .p .mov, [.t 0]⟩ ::
 ⟨(some 18), none, .p .mov, [.t 1]⟩ ::
 ⟨(some 19), none, .p (.iaddrS 2), [.t 17, .t 18]⟩ ::
 ⟨(some 20), none, .r (.loadN 2), [.t 19]⟩ ::
 ⟨(some 21), none, .call, [.t 12, .t 16, .t 20]⟩ ::
 ⟨(some 22), none, .p (.bin .lss), [.t 21, .c (.int .i64 0)]⟩ ::
 []) ([] :: [] :: [] :: [] :: [] :: [] :: [] :: [] :: [] :: [] :: [] :: []))
(.cond (.t 22)
(.seq (.ops (⟨(some 23), none, .p .mov, [.t 3]⟩ ::
 ⟨(some 24), none, .p .nilchk, [.t 23]⟩ ::
 ⟨(some 25), none, .r .load1, [.t 24]⟩ ::
 ⟨(some 26), none, .p (.bin .add), [.t 25, .c (.int .i64 1)]⟩ ::
 ⟨(some 27), none, .p .nilchk, [.t 23]⟩ ::
 ⟨none, none, .e (.store 1), [.t 27, .t 26]⟩ ::
 []))
(.seq (.ops (⟨(some 28), none, .p .mov, [.t 2]⟩ ::
 ⟨(some 29), none, .p .mov, [.t 1]⟩ ::
 ⟨(some 10), none, .p .mov, [.t 28]⟩ ::
 ⟨(some 11), none, .p .mov, [.t 29]⟩ ::
 []))
.ret))
.skip))
(.seq (.ops (⟨(some 30), none, .p .mov, [.t 1]⟩ ::
 ⟨(some 31), none, .p .mov, [.t 2]⟩ ::
 ⟨(some 10), none, .p .mov, [.t 30]⟩ ::
 ⟨(some 11), none, .p .mov, [.t 31]⟩ ::
 []))
.ret)))⟩
abbrev f_slices_order2CmpFunc_rank_one : Nat := 86
abbrev C_slices_order2CmpFunc_rank_one : AFunc := C86
def T : Tr AFunc := (.node (.node (.node (.node (.node (.node (.node .nil (some C63) .nil) none .nil) (some C15) (.node (.node .nil (some C79) .nil) (some C47) .nil)) none (.node (.node (.node .nil (some C71) .nil) none .nil) (some C23) (.node .nil (some C55) .nil))) (some C3) (.node (.node (.node (.node .nil (some C67) .nil) none .nil) (some C19) (.node (.node .nil (some C83) .nil) (some C51) .nil)) (some C11) (.node (.node (.node .nil (some C75) .nil) (some C43) .nil) none .nil))) none (.node (.node (.node (.node (.node .nil (some C65) .nil) none .nil) (some C17) (.node (.node .nil (some C81) .nil) (some C49) .nil)) none (.node (.node (.node .nil (some C73) .nil) (some C41) .nil) (some C25) (.node .nil (some C57) .nil))) (some C5) (.node (.node (.node (.node .nil (some C69) .nil) none .nil) (some C21) (.node (.node .nil (some C85) .nil) (some C53) .nil)) (some C13) (.node (.node (.node .nil (some C77) .nil) (some C45) .nil) none .nil)))) none (.node (.node (.node (.node (.node (.node .nil (some C64) .nil) none .nil) (some C16) (.node (.node .nil (some C80) .nil) (some C48) .nil)) none (.node (.node (.node .nil (some C72) .nil) (some C40) .nil) (some C24) (.node .nil (some C56) .nil))) (some C4) (.node (.node (.node (.node .nil (some C68) .nil) none .nil) (some C20) (.node (.node .nil (some C84) .nil) (some C52) .nil)) (some C12) (.node (.node (.node .nil (some C76) .nil) (some C44) .nil) none .nil))) none (.node (.node (.node (.node (.node .nil (some C66) .nil) none .nil) (some C18) (.node (.node .nil (some C82) .nil) (some C50) .nil)) none (.node (.node (.node .nil (some C74) .nil) (some C42) .nil) (some C26) .nil)) (some C6) (.node (.node (.node (.node .nil (some C70) .nil) none .nil) (some C22) (.node (.node .nil (some C86) .nil) (some C54) .nil)) (some C14) (.node (.node (.node .nil (some C78) .nil) (some C46) .nil) none .nil)))))
def fs (f : Nat) : Option AFunc := Tr.get T f
def ms (t : Nat) (n : String) : Option Nat := none
end Ir
end Go.Proofs.Ytenafeojcgmnhaa
