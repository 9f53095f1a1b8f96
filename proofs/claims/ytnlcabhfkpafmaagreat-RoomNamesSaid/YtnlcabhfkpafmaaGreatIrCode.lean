/-
  What the program's functions are in Ads, printed by a program.
-/
import Derived.Test.YtnlcabhfkpafmaaGreatAdsDef
set_option linter.unusedVariables false
set_option maxRecDepth 100000
namespace Go.Proofs.YtnlcabhfkpafmaaGreat
open Go Ads
namespace Ir
def L_escapementlaw18_RoomNames_0 : AC := (.seq (.seq (.ops (⟨(some 253), none, .p .mov, [.t 17]⟩ ::
 ⟨(some 254), none, .p (.bin .lss), [.t 253, .c (.int .i64 2)]⟩ ::
 []))
(.cond (.t 254)
.skip
(.exit 0)))
(.seq (.block 1 (.seq (.ops (⟨(some 258), none, .p .mov, [.t 16]⟩ ::
 ⟨(some 259), none, .call, [.c (.func (.func 15) [] []), .t 258]⟩ ::
 ⟨(some 257), none, .p .mov, [.t 259]⟩ ::
 ⟨(some 260), none, .p (.ext 0), [.t 257]⟩ ::
 ⟨(some 261), none, .p (.ext 1), [.t 257]⟩ ::
 ⟨(some 18), none, .p .mov, [.t 260]⟩ ::
 ⟨(some 19), none, .p .mov, [.t 261]⟩ ::
 []))
(.seq (.ops (⟨(some 263), none, .p .mov, [.t 16]⟩ ::
 ⟨(some 264), none, .call, [.c (.func (.func 35) [] []), .t 263, .c (.int .i64 0)]⟩ ::
 ⟨(some 262), none, .p .mov, [.t 264]⟩ ::
 ⟨(some 265), none, .p (.ext 0), [.t 262]⟩ ::
 ⟨(some 266), none, .p (.ext 1), [.t 262]⟩ ::
 ⟨(some 20), none, .a (.alloc [(.int .i64 0), (.int .i64 0), (.str [])]), []⟩ ::
 ⟨none, none, .e (.store 3), [.t 20, .t 265]⟩ ::
 ⟨(some 21), none, .p .mov, [.t 266]⟩ ::
 []))
(.seq (.ops (⟨(some 268), none, .p .mov, [.t 16]⟩ ::
 ⟨(some 269), none, .call, [.c (.func (.func 30) [] []), .t 268]⟩ ::
 ⟨(some 267), none, .p .mov, [.t 269]⟩ ::
 ⟨(some 270), none, .p (.ext 0), [.t 267]⟩ ::
 ⟨(some 271), none, .p (.ext 1), [.t 267]⟩ ::
 ⟨(some 272), none, .p (.ext 2), [.t 267]⟩ ::
 ⟨(some 22), none, .p .mov, [.t 270]⟩ ::
 ⟨(some 23), none, .p .mov, [.t 271]⟩ ::
 ⟨(some 24), none, .p .mov, [.t 272]⟩ ::
 []))
(.seq (.ops (⟨(some 274), none, .p .mov, [.t 16]⟩ ::
 ⟨(some 275), none, .call, [.c (.func (.func 13) [] []), .t 274, .c (.int .i64 0)]⟩ ::
 ⟨(some 273), none, .p .mov, [.t 275]⟩ ::
 ⟨(some 276), none, .p (.ext 0), [.t 273]⟩ ::
 ⟨(some 277), none, .p (.ext 1), [.t 273]⟩ ::
 ⟨(some 25), none, .p .mov, [.t 276]⟩ ::
 ⟨(some 26), none, .p .mov, [.t 277]⟩ ::
 []))
(.seq (.seq (.ops (⟨(some 278), none, .p .mov, [.t 16]⟩ ::
 ⟨(some 279), none, .call, [.c (.func (.func 28) [] []), .t 278, .c (.int .i64 9), .c .nils, .c (.int .i64 0)]⟩ ::
 ⟨(some 280), none, .p (.bin .neq), [.t 279, .c (.int .i64 1)]⟩ ::
 ⟨(some 281), none, .p .mov, [.t 280]⟩ ::
 ⟨(some 282), (some (281, false)), .p .mov, [.t 16]⟩ ::
 ⟨(some 283), (some (281, false)), .call, [.c (.func (.func 20) [] []), .t 282, .c (.int .i64 0)]⟩ ::
 ⟨(some 284), (some (281, false)), .p (.bin .neq), [.t 283, .c (.int .i64 1)]⟩ ::
 ⟨(some 285), none, .p .pick, [.t 281, .c (.bool true), .t 284]⟩ ::
 ⟨(some 286), none, .p .mov, [.t 285]⟩ ::
 ⟨(some 287), (some (286, false)), .p .mov, [.t 16]⟩ ::
 ⟨(some 288), (some (286, false)), .call, [.c (.func (.func 21) [] []), .t 287, .c (.int .i64 0)]⟩ ::
 ⟨(some 289), (some (286, false)), .p (.bin .neq), [.t 288, .c (.int .i64 1)]⟩ ::
 ⟨(some 290), none, .p .pick, [.t 286, .c (.bool true), .t 289]⟩ ::
 ⟨(some 291), none, .p .mov, [.t 290]⟩ ::
 ⟨(some 292), (some (291, false)), .p .mov, [.t 16]⟩ ::
 ⟨(some 293), (some (291, false)), .call, [.c (.func (.func 22) [] []), .t 292, .c (.int .i64 0), .c (.int .i64 0)]⟩ ::
 ⟨(some 294), (some (291, false)), .p (.bin .neq), [.t 293, .c (.int .i64 1)]⟩ ::
 ⟨(some 295), none, .p .pick, [.t 291, .c (.bool true), .t 294]⟩ ::
 ⟨(some 296), none, .p .mov, [.t 295]⟩ ::
 ⟨(some 297), (some (296, false)), .p .mov, [.t 16]⟩ ::
 ⟨(some 298), (some (296, false)), .call, [.c (.func (.func 23) [] []), .t 297, .c (.int .i64 0)]⟩ ::
 ⟨(some 299), (some (296, false)), .p (.bin .neq), [.t 298, .c (.int .i64 1)]⟩ ::
 ⟨(some 300), none, .p .pick, [.t 296, .c (.bool true), .t 299]⟩ ::
 ⟨(some 301), none, .p .mov, [.t 300]⟩ ::
 ⟨(some 302), (some (301, false)), .p .mov, [.t 16]⟩ ::
 ⟨(some 303), (some (301, false)), .call, [.c (.func (.func 24) [] []), .t 302, .c (.int .i64 0)]⟩ ::
 ⟨(some 304), (some (301, false)), .p (.bin .neq), [.t 303, .c (.int .i64 1)]⟩ ::
 ⟨(some 305), none, .p .pick, [.t 301, .c (.bool true), .t 304]⟩ ::
 ⟨(some 306), none, .p .mov, [.t 305]⟩ ::
 ⟨(some 307), (some (306, false)), .p .mov, [.t 16]⟩ ::
 ⟨(some 308), (some (306, false)), .call, [.c (.func (.func 25) [] []), .t 307, .c (.int .i64 0)]⟩ ::
 ⟨(some 309), (some (306, false)), .p (.bin .neq), [.t 308, .c (.int .i64 1)]⟩ ::
 ⟨(some 310), none, .p .pick, [.t 306, .c (.bool true), .t 309]⟩ ::
 ⟨(some 311), none, .p .mov, [.t 310]⟩ ::
 ⟨(some 312), (some (311, false)), .p .mov, [.t 16]⟩ ::
 ⟨(some 313), (some (311, false)), .call, [.c (.func (.func 26) [] []), .t 312, .c (.int .i64 0)]⟩ ::
 ⟨(some 314), (some (311, false)), .p (.bin .neq), [.t 313, .c (.int .i64 1)]⟩ ::
 ⟨(some 315), none, .p .pick, [.t 311, .c (.bool true), .t 314]⟩ ::
 ⟨(some 316), none, .p .mov, [.t 315]⟩ ::
 ⟨(some 317), (some (316, false)), .p .mov, [.t 16]⟩ ::
 ⟨(some 318), (some (316, false)), .call, [.c (.func (.func 32) [] []), .t 317, .c (.int .i64 0), .c (.int .i64 0)]⟩ ::
 ⟨(some 319), (some (316, false)), .p (.bin .neq), [.t 318, .c (.int .i64 0)]⟩ ::
 ⟨(some 320), none, .p .pick, [.t 316, .c (.bool true), .t 319]⟩ ::
 ⟨(some 321), none, .p .mov, [.t 320]⟩ ::
 ⟨(some 322), (some (321, false)), .p .mov, [.t 16]⟩ ::
 ⟨(some 323), (some (321, false)), .call, [.c (.func (.func 27) [] []), .t 322, .c (.int .i64 0)]⟩ ::
 ⟨(some 324), none, .p .pick, [.t 321, .c (.bool true), .t 323]⟩ ::
 ⟨(some 325), none, .p .mov, [.t 324]⟩ ::
 ⟨(some 326), (some (325, false)), .p .mov, [.t 19]⟩ ::
 ⟨(some 327), none, .p .pick, [.t 325, .c (.bool true), .t 326]⟩ ::
 ⟨(some 328), none, .p .mov, [.t 327]⟩ ::
 ⟨(some 329), (some (328, false)), .p .mov, [.t 21]⟩ ::
 ⟨(some 330), none, .p .pick, [.t 328, .c (.bool true), .t 329]⟩ ::
 ⟨(some 331), none, .p .mov, [.t 330]⟩ ::
 ⟨(some 332), (some (331, false)), .p .mov, [.t 24]⟩ ::
 ⟨(some 333), none, .p .pick, [.t 331, .c (.bool true), .t 332]⟩ ::
 ⟨(some 334), none, .p .mov, [.t 333]⟩ ::
 ⟨(some 335), (some (334, false)), .p .mov, [.t 26]⟩ ::
 ⟨(some 336), none, .p .pick, [.t 334, .c (.bool true), .t 335]⟩ ::
 ⟨(some 337), none, .p .mov, [.t 336]⟩ ::
 ⟨(some 338), (some (337, false)), .p .mov, [.t 16]⟩ ::
 ⟨(some 339), (some (337, false)), .call, [.c (.func (.func 29) [] []), .t 338, .c (.int .i64 0)]⟩ ::
 ⟨(some 340), (some (337, false)), .p (.bin .neq), [.t 339, .c (.int .i64 0)]⟩ ::
 ⟨(some 341), none, .p .pick, [.t 337, .c (.bool true), .t 340]⟩ ::
 ⟨(some 342), none, .p .mov, [.t 341]⟩ ::
 ⟨(some 343), (some (342, false)), .p .mov, [.t 16]⟩ ::
 ⟨(some 344), (some (342, false)), .call, [.c (.func (.func 14) [] []), .t 343, .c (.int .i64 0)]⟩ ::
 ⟨(some 345), (some (342, false)), .p .lenS, [.t 344]⟩ ::
 ⟨(some 346), (some (342, false)), .p .mov, [.t 16]⟩ ::
 ⟨(some 347), (some (342, false)), .call, [.c (.func (.func 34) [] []), .t 346]⟩ ::
 ⟨(some 348), (some (342, false)), .p .lenS, [.t 347]⟩ ::
 ⟨(some 349), (some (342, false)), .p (.bin .add), [.t 345, .t 348]⟩ ::
 ⟨(some 350), (some (342, false)), .p (.bin .neq), [.t 349, .c (.int .i64 0)]⟩ ::
 ⟨(some 351), none, .p .pick, [.t 342, .c (.bool true), .t 350]⟩ ::
 []))
(.cond (.t 351)
(.seq (.ops (⟨(some 0), none, .p .mov, [.c (.bool false)]⟩ ::
 []))
.ret)
.skip))
(.ops (⟨(some 352), none, .p (.build [.nilp, .nilp, .nils, .nils, .nils] []), []⟩ ::
 ⟨(some 353), none, .a .box, [.t 352]⟩ ::
 ⟨(some 16), none, .p .mov, [.t 353]⟩ ::
 []))))))))
(.ops (⟨(some 255), none, .p .mov, [.t 17]⟩ ::
 ⟨(some 256), none, .p (.bin .add), [.t 255, .c (.int .i64 1)]⟩ ::
 ⟨(some 17), none, .p .mov, [.t 256]⟩ ::
 []))))
def C6 : AFunc := ⟨377, [.tmp 0],
(.seq (.ops (⟨(some 0), none, .p .mov, [.c (.bool false)]⟩ ::
 []))
(.seq (.ops (⟨(some 28), none, .p (.build [(.int .i64 0), (.int .i64 0), (.int .i64 0), (.int .i64 0), (.int .i64 0), (.int .i64 0), (.int .i64 0), (.int .i64 0)] []), []⟩ ::
 ⟨(some 29), none, .a (.bslice [(.int .i64 0), (.int .i64 0), (.int .i64 0), (.int .i64 0), (.int .i64 0), (.int .i64 0), (.int .i64 0), (.int .i64 0)] 1 8 [0]), [.t 28]⟩ ::
 ⟨(some 30), none, .call, [.c (.func (.func 9) [] []), .t 29]⟩ ::
 ⟨(some 27), none, .p .mov, [.t 30]⟩ ::
 ⟨(some 31), none, .p (.ext 0), [.t 27]⟩ ::
 ⟨(some 32), none, .p (.ext 1), [.t 27]⟩ ::
 ⟨(some 1), none, .p .mov, [.t 31]⟩ ::
 ⟨(some 2), none, .p .mov, [.t 32]⟩ ::
 []))
(.seq (.ops (⟨(some 34), none, .a (.mkslice [(.int .i64 0), (.int .i64 0), (.int .i64 0), (.int .i64 0), (.int .i64 0), (.int .i64 0), (.int .i64 0), (.int .i64 0)] 8 64), [.c (.int .i64 5), .c (.int .i64 5)]⟩ ::
 ⟨(some 35), none, .call, [.c (.func (.func 9) [] []), .t 34]⟩ ::
 ⟨(some 33), none, .p .mov, [.t 35]⟩ ::
 ⟨(some 36), none, .p (.ext 0), [.t 33]⟩ ::
 ⟨(some 37), none, .p (.ext 1), [.t 33]⟩ ::
 ⟨(some 3), none, .p .mov, [.t 36]⟩ ::
 ⟨(some 4), none, .p .mov, [.t 37]⟩ ::
 []))
(.seq (.ops (⟨(some 38), none, .p (.build [(.int .i64 0), (.int .i64 0), (.int .i64 0), (.int .i64 0), (.int .i64 0), (.int .i64 0), (.int .i64 0), (.int .i64 0)] [(0, 1), (1, 1), (2, 1), (5, 1), (6, 1), (7, 1)]), [.c (.int .i64 9), .c (.int .i64 9), .c (.int .i64 5), .c (.int .i64 2), .c (.int .i64 2), .c (.int .i64 1)]⟩ ::
 ⟨(some 39), none, .p (.build [(.int .i64 0), (.int .i64 0), (.int .i64 0), (.int .i64 0), (.int .i64 0), (.int .i64 0), (.int .i64 0), (.int .i64 0)] [(0, 1), (1, 1), (2, 1), (3, 1), (4, 1)]), [.c (.int .i64 9), .c (.int .i64 3), .c (.int .i64 2), .c (.int .i64 2), .c (.int .i64 1)]⟩ ::
 ⟨(some 40), none, .a (.bslice [(.int .i64 0), (.int .i64 0), (.int .i64 0), (.int .i64 0), (.int .i64 0), (.int .i64 0), (.int .i64 0), (.int .i64 0)] 2 8 [0, 1]), [.t 38, .t 39]⟩ ::
 ⟨(some 5), none, .p .mov, [.t 40]⟩ ::
 []))
(.seq (.ops (⟨(some 42), none, .p .mov, [.t 5]⟩ ::
 ⟨(some 43), none, .call, [.c (.func (.func 9) [] []), .t 42]⟩ ::
 ⟨(some 41), none, .p .mov, [.t 43]⟩ ::
 ⟨(some 44), none, .p (.ext 0), [.t 41]⟩ ::
 ⟨(some 45), none, .p (.ext 1), [.t 41]⟩ ::
 ⟨(some 6), none, .p .mov, [.t 44]⟩ ::
 ⟨(some 7), none, .p .mov, [.t 45]⟩ ::
 []))
(.seq (.seq (.ops (⟨(some 46), none, .p .mov, [.t 7]⟩ ::
 ⟨(some 47), none, .p (.bin .neq), [.t 46, .c (.int .i64 0)]⟩ ::
 ⟨(some 48), none, .p .mov, [.t 47]⟩ ::
 ⟨(some 49), (some (48, false)), .p .mov, [.t 6]⟩ ::
 ⟨(some 50), (some (48, false)), .p (.eq .nilptr), [.t 49, .c .nilp]⟩ ::
 ⟨(some 51), none, .p .pick, [.t 48, .c (.bool true), .t 50]⟩ ::
 []))
(.cond (.t 51)
(.seq (.ops (⟨(some 0), none, .p .mov, [.c (.bool false)]⟩ ::
 []))
.ret)
.skip))
(.seq (.ops (⟨(some 52), none, .p (.build [(.int .i64 0), (.int .i64 0), (.str [])] [(0, 1), (1, 1)]), [.c (.int .i64 1), .c (.int .i64 5)]⟩ ::
 ⟨(some 53), none, .a (.bslice [(.int .i64 0), (.int .i64 0), (.str [])] 1 3 [0]), [.t 52]⟩ ::
 ⟨(some 8), none, .p .mov, [.t 53]⟩ ::
 []))
(.seq (.ops (⟨(some 54), none, .p .mov, [.t 6]⟩ ::
 ⟨(some 55), none, .call, [.c (.func (.func 20) [] []), .t 54, .c (.int .i64 0)]⟩ ::
 ⟨(some 56), none, .p (.bin .eql), [.t 55, .c (.int .i64 250)]⟩ ::
 ⟨(some 57), none, .p .mov, [.t 56]⟩ ::
 ⟨(some 58), (some (57, true)), .p .mov, [.t 6]⟩ ::
 ⟨(some 59), (some (57, true)), .call, [.c (.func (.func 21) [] []), .t 58, .c (.int .i64 2)]⟩ ::
 ⟨(some 60), (some (57, true)), .p (.bin .eql), [.t 59, .c (.int .i64 9)]⟩ ::
 ⟨(some 61), none, .p .pick, [.t 57, .t 60, .c (.bool false)]⟩ ::
 ⟨(some 62), none, .p .mov, [.t 61]⟩ ::
 ⟨(some 63), (some (62, true)), .p .mov, [.t 6]⟩ ::
 ⟨(some 64), (some (62, true)), .call, [.c (.func (.func 22) [] []), .t 63, .c (.int .i64 (-1)), .c (.int .i64 0)]⟩ ::
 ⟨(some 65), (some (62, true)), .p (.bin .eql), [.t 64, .c (.int .i64 9)]⟩ ::
 ⟨(some 66), none, .p .pick, [.t 62, .t 65, .c (.bool false)]⟩ ::
 ⟨(some 67), none, .p .mov, [.t 66]⟩ ::
 ⟨(some 68), (some (67, true)), .p .mov, [.t 6]⟩ ::
 ⟨(some 69), (some (67, true)), .call, [.c (.func (.func 23) [] []), .t 68, .c (.int .i64 1)]⟩ ::
 ⟨(some 70), (some (67, true)), .p (.bin .eql), [.t 69, .c (.int .i64 250)]⟩ ::
 ⟨(some 71), none, .p .pick, [.t 67, .t 70, .c (.bool false)]⟩ ::
 ⟨(some 72), none, .p .mov, [.t 71]⟩ ::
 ⟨(some 73), (some (72, true)), .p .mov, [.t 6]⟩ ::
 ⟨(some 74), (some (72, true)), .call, [.c (.func (.func 24) [] []), .t 73, .c (.int .i64 1)]⟩ ::
 ⟨(some 75), (some (72, true)), .p (.bin .eql), [.t 74, .c (.int .i64 250)]⟩ ::
 ⟨(some 76), none, .p .pick, [.t 72, .t 75, .c (.bool false)]⟩ ::
 ⟨(some 77), none, .p .mov, [.t 76]⟩ ::
 ⟨(some 78), (some (77, true)), .p .mov, [.t 6]⟩ ::
 ⟨(some 79), (some (77, true)), .call, [.c (.func (.func 25) [] []), .t 78, .c (.int .i64 0)]⟩ ::
 ⟨(some 80), (some (77, true)), .p (.bin .eql), [.t 79, .c (.int .i64 250)]⟩ ::
 ⟨(some 81), none, .p .pick, [.t 77, .t 80, .c (.bool false)]⟩ ::
 ⟨(some 82), none, .p .mov, [.t 81]⟩ ::
 ⟨(some 83), (some (82, true)), .p .mov, [.t 6]⟩ ::
 ⟨(some 84), (some (82, true)), .call, [.c (.func (.func 26) [] []), .t 83, .c (.int .i64 0)]⟩ ::
 ⟨(some 85), (some (82, true)), .p (.bin .eql), [.t 84, .c (.int .i64 250)]⟩ ::
 ⟨(some 86), none, .p .pick, [.t 82, .t 85, .c (.bool false)]⟩ ::
 ⟨(some 87), none, .p .mov, [.t 86]⟩ ::
 ⟨(some 88), (some (87, true)), .p .mov, [.t 6]⟩ ::
 ⟨(some 89), (some (87, true)), .call, [.c (.func (.func 27) [] []), .t 88, .c (.int .i64 0)]⟩ ::
 ⟨(some 90), (some (87, true)), .p .not, [.t 89]⟩ ::
 ⟨(some 91), none, .p .pick, [.t 87, .t 90, .c (.bool false)]⟩ ::
 ⟨(some 92), none, .p .mov, [.t 91]⟩ ::
 ⟨(some 93), (some (92, true)), .p .mov, [.t 6]⟩ ::
 ⟨(some 94), (some (92, true)), .p .mov, [.t 8]⟩ ::
 ⟨(some 95), (some (92, true)), .call, [.c (.func (.func 28) [] []), .t 93, .c (.int .i64 2), .t 94, .c (.int .i64 0)]⟩ ::
 ⟨(some 96), (some (92, true)), .p (.bin .eql), [.t 95, .c (.int .i64 9)]⟩ ::
 ⟨(some 97), none, .p .pick, [.t 92, .t 96, .c (.bool false)]⟩ ::
 ⟨(some 98), none, .p .mov, [.t 97]⟩ ::
 ⟨(some 99), (some (98, true)), .p .mov, [.t 6]⟩ ::
 ⟨(some 100), (some (98, true)), .p (.build [(.int .i64 0), (.int .i64 0), (.str [])] []), []⟩ ::
 ⟨(some 101), (some (98, true)), .a (.bslice [(.int .i64 0), (.int .i64 0), (.str [])] 1 3 [0]), [.t 100]⟩ ::
 ⟨(some 102), (some (98, true)), .call, [.c (.func (.func 28) [] []), .t 99, .c (.int .i64 0), .t 101, .c (.int .i64 0)]⟩ ::
 ⟨(some 103), (some (98, true)), .p (.bin .eql), [.t 102, .c (.int .i64 2)]⟩ ::
 ⟨(some 104), none, .p .pick, [.t 98, .t 103, .c (.bool false)]⟩ ::
 ⟨(some 105), none, .p .mov, [.t 104]⟩ ::
 ⟨(some 106), (some (105, true)), .p .mov, [.t 6]⟩ ::
 ⟨(some 107), (some (105, true)), .p .mov, [.t 8]⟩ ::
 ⟨(some 108), (some (105, true)), .call, [.c (.func (.func 28) [] []), .t 106, .c (.int .i64 0), .t 107, .c (.int .i64 (-1))]⟩ ::
 ⟨(some 109), (some (105, true)), .p (.bin .eql), [.t 108, .c (.int .i64 2)]⟩ ::
 ⟨(some 110), none, .p .pick, [.t 105, .t 109, .c (.bool false)]⟩ ::
 ⟨(some 9), none, .p .mov, [.t 110]⟩ ::
 []))
(.seq (.ops (⟨(some 111), none, .p .mov, [.t 6]⟩ ::
 ⟨(some 112), none, .p .mov, [.t 8]⟩ ::
 ⟨(some 113), none, .call, [.c (.func (.func 28) [] []), .t 111, .c (.int .i64 0), .t 112, .c (.int .i64 4)]⟩ ::
 ⟨(some 114), none, .p (.bin .eql), [.t 113, .c (.int .i64 0)]⟩ ::
 ⟨(some 115), none, .p .mov, [.t 114]⟩ ::
 ⟨(some 116), (some (115, true)), .p .mov, [.t 6]⟩ ::
 ⟨(some 117), (some (115, true)), .call, [.c (.func (.func 29) [] []), .t 116, .c (.int .i64 0)]⟩ ::
 ⟨(some 118), (some (115, true)), .p (.bin .eql), [.t 117, .c (.int .i64 13)]⟩ ::
 ⟨(some 119), none, .p .pick, [.t 115, .t 118, .c (.bool false)]⟩ ::
 ⟨(some 120), none, .p .mov, [.t 119]⟩ ::
 ⟨(some 121), (some (120, true)), .p .mov, [.t 6]⟩ ::
 ⟨(some 122), (some (120, true)), .call, [.c (.func (.func 25) [] []), .t 121, .c (.int .i64 0)]⟩ ::
 ⟨(some 123), (some (120, true)), .p (.bin .eql), [.t 122, .c (.int .i64 132)]⟩ ::
 ⟨(some 124), none, .p .pick, [.t 120, .t 123, .c (.bool false)]⟩ ::
 ⟨(some 125), none, .p .mov, [.t 124]⟩ ::
 ⟨(some 126), (some (125, true)), .p .mov, [.t 6]⟩ ::
 ⟨(some 127), (some (125, true)), .call, [.c (.func (.func 26) [] []), .t 126, .c (.int .i64 0)]⟩ ::
 ⟨(some 128), (some (125, true)), .p (.bin .eql), [.t 127, .c (.int .i64 132)]⟩ ::
 ⟨(some 129), none, .p .pick, [.t 125, .t 128, .c (.bool false)]⟩ ::
 ⟨(some 130), none, .p .mov, [.t 129]⟩ ::
 ⟨(some 131), (some (130, true)), .p .mov, [.t 6]⟩ ::
 ⟨(some 132), (some (130, true)), .call, [.c (.func (.func 24) [] []), .t 131, .c (.int .i64 0)]⟩ ::
 ⟨(some 133), (some (130, true)), .p (.bin .eql), [.t 132, .c (.int .i64 0)]⟩ ::
 ⟨(some 134), none, .p .pick, [.t 130, .t 133, .c (.bool false)]⟩ ::
 ⟨(some 135), none, .p .mov, [.t 134]⟩ ::
 ⟨(some 136), (some (135, true)), .p .mov, [.t 6]⟩ ::
 ⟨(some 137), (some (135, true)), .call, [.c (.func (.func 24) [] []), .t 136, .c (.int .i64 0)]⟩ ::
 ⟨(some 138), (some (135, true)), .p (.bin .eql), [.t 137, .c (.int .i64 0)]⟩ ::
 ⟨(some 139), none, .p .pick, [.t 135, .t 138, .c (.bool false)]⟩ ::
 ⟨(some 140), none, .p .mov, [.t 139]⟩ ::
 ⟨(some 141), (some (140, true)), .p .mov, [.t 6]⟩ ::
 ⟨(some 142), (some (140, true)), .call, [.c (.func (.func 21) [] []), .t 141, .c (.int .i64 0)]⟩ ::
 ⟨(some 143), (some (140, true)), .p (.bin .eql), [.t 142, .c (.int .i64 250)]⟩ ::
 ⟨(some 144), none, .p .pick, [.t 140, .t 143, .c (.bool false)]⟩ ::
 ⟨(some 145), none, .p .mov, [.t 144]⟩ ::
 ⟨(some 146), (some (145, true)), .p .mov, [.t 6]⟩ ::
 ⟨(some 147), (some (145, true)), .call, [.c (.func (.func 22) [] []), .t 146, .c (.int .i64 0), .c (.int .i64 0)]⟩ ::
 ⟨(some 148), (some (145, true)), .p (.bin .eql), [.t 147, .c (.int .i64 130)]⟩ ::
 ⟨(some 149), none, .p .pick, [.t 145, .t 148, .c (.bool false)]⟩ ::
 ⟨(some 10), none, .p .mov, [.t 149]⟩ ::
 []))
(.seq (.ops (⟨(some 151), none, .p .mov, [.t 6]⟩ ::
 ⟨(some 152), none, .call, [.c (.func (.func 30) [] []), .t 151]⟩ ::
 ⟨(some 150), none, .p .mov, [.t 152]⟩ ::
 ⟨(some 153), none, .p (.ext 0), [.t 150]⟩ ::
 ⟨(some 154), none, .p (.ext 1), [.t 150]⟩ ::
 ⟨(some 155), none, .p (.ext 2), [.t 150]⟩ ::
 ⟨(some 11), none, .p .mov, [.t 153]⟩ ::
 ⟨(some 12), none, .p .mov, [.t 154]⟩ ::
 ⟨(some 13), none, .p .mov, [.t 155]⟩ ::
 []))
(.seq (.ops (⟨(some 156), none, .p .mov, [.t 13]⟩ ::
 ⟨(some 157), none, .p .mov, [.t 156]⟩ ::
 ⟨(some 158), (some (157, true)), .p .mov, [.t 12]⟩ ::
 ⟨(some 159), (some (157, true)), .p (.bin .eql), [.t 158, .c (.int .i64 3)]⟩ ::
 ⟨(some 160), none, .p .pick, [.t 157, .t 159, .c (.bool false)]⟩ ::
 ⟨(some 161), none, .p .mov, [.t 160]⟩ ::
 ⟨(some 162), (some (161, true)), .p .mov, [.t 6]⟩ ::
 ⟨(some 163), (some (161, true)), .p .mov, [.t 8]⟩ ::
 ⟨(some 164), (some (161, true)), .call, [.c (.func (.func 28) [] []), .t 162, .c (.int .i64 1), .t 163, .c (.int .i64 5)]⟩ ::
 ⟨(some 165), (some (161, true)), .p (.bin .eql), [.t 164, .c (.int .i64 0)]⟩ ::
 ⟨(some 166), none, .p .pick, [.t 161, .t 165, .c (.bool false)]⟩ ::
 ⟨(some 167), none, .p .mov, [.t 166]⟩ ::
 ⟨(some 168), (some (167, true)), .p .mov, [.t 6]⟩ ::
 ⟨(some 169), (some (167, true)), .call, [.c (.func (.func 31) [] []), .t 168, .c (.int .i64 0)]⟩ ::
 ⟨(some 170), none, .p .pick, [.t 167, .t 169, .c (.bool false)]⟩ ::
 ⟨(some 171), none, .p .mov, [.t 170]⟩ ::
 ⟨(some 172), (some (171, true)), .p .mov, [.t 6]⟩ ::
 ⟨(some 173), (some (171, true)), .call, [.c (.func (.func 25) [] []), .t 172, .c (.int .i64 0)]⟩ ::
 ⟨(some 174), (some (171, true)), .p (.bin .eql), [.t 173, .c (.int .i64 0)]⟩ ::
 ⟨(some 175), none, .p .pick, [.t 171, .t 174, .c (.bool false)]⟩ ::
 ⟨(some 176), none, .p .mov, [.t 175]⟩ ::
 ⟨(some 177), (some (176, true)), .p .mov, [.t 6]⟩ ::
 ⟨(some 178), (some (176, true)), .call, [.c (.func (.func 31) [] []), .t 177, .c (.int .i64 0)]⟩ ::
 ⟨(some 179), none, .p .pick, [.t 176, .t 178, .c (.bool false)]⟩ ::
 ⟨(some 180), none, .p .mov, [.t 179]⟩ ::
 ⟨(some 181), (some (180, true)), .p .mov, [.t 6]⟩ ::
 ⟨(some 182), (some (180, true)), .call, [.c (.func (.func 22) [] []), .t 181, .c (.int .i64 0), .c (.int .i64 0)]⟩ ::
 ⟨(some 183), (some (180, true)), .p (.bin .eql), [.t 182, .c (.int .i64 130)]⟩ ::
 ⟨(some 184), none, .p .pick, [.t 180, .t 183, .c (.bool false)]⟩ ::
 ⟨(some 185), none, .p .mov, [.t 184]⟩ ::
 ⟨(some 186), (some (185, true)), .p .mov, [.t 6]⟩ ::
 ⟨(some 187), (some (185, true)), .call, [.c (.func (.func 21) [] []), .t 186, .c (.int .i64 0)]⟩ ::
 ⟨(some 188), (some (185, true)), .p (.bin .eql), [.t 187, .c (.int .i64 0)]⟩ ::
 ⟨(some 189), none, .p .pick, [.t 185, .t 188, .c (.bool false)]⟩ ::
 ⟨(some 190), none, .p .mov, [.t 189]⟩ ::
 ⟨(some 191), (some (190, true)), .p .mov, [.t 6]⟩ ::
 ⟨(some 192), (some (190, true)), .call, [.c (.func (.func 21) [] []), .t 191, .c (.int .i64 0)]⟩ ::
 ⟨(some 193), (some (190, true)), .p (.bin .eql), [.t 192, .c (.int .i64 0)]⟩ ::
 ⟨(some 194), none, .p .pick, [.t 190, .t 193, .c (.bool false)]⟩ ::
 ⟨(some 195), none, .p .mov, [.t 194]⟩ ::
 ⟨(some 196), (some (195, true)), .p .mov, [.t 6]⟩ ::
 ⟨(some 197), (some (195, true)), .call, [.c (.func (.func 32) [] []), .t 196, .c (.int .i64 0), .c (.int .i64 7)]⟩ ::
 ⟨(some 198), (some (195, true)), .p (.bin .eql), [.t 197, .c (.int .i64 2)]⟩ ::
 ⟨(some 199), none, .p .pick, [.t 195, .t 198, .c (.bool false)]⟩ ::
 ⟨(some 200), none, .p .mov, [.t 199]⟩ ::
 ⟨(some 201), (some (200, true)), .p .mov, [.t 6]⟩ ::
 ⟨(some 202), (some (200, true)), .call, [.c (.func (.func 26) [] []), .t 201, .c (.int .i64 0)]⟩ ::
 ⟨(some 203), (some (200, true)), .p (.bin .eql), [.t 202, .c (.int .i64 0)]⟩ ::
 ⟨(some 204), none, .p .pick, [.t 200, .t 203, .c (.bool false)]⟩ ::
 ⟨(some 205), none, .p .mov, [.t 204]⟩ ::
 ⟨(some 206), (some (205, true)), .p .mov, [.t 6]⟩ ::
 ⟨(some 207), (some (205, true)), .call, [.c (.func (.func 31) [] []), .t 206, .c (.int .i64 1)]⟩ ::
 ⟨(some 208), none, .p .pick, [.t 205, .t 207, .c (.bool false)]⟩ ::
 ⟨(some 14), none, .p .mov, [.t 208]⟩ ::
 []))
(.seq (.ops (⟨(some 209), none, .p .mov, [.t 6]⟩ ::
 ⟨(some 210), none, .call, [.c (.func (.func 24) [] []), .t 209, .c (.int .i64 1)]⟩ ::
 ⟨(some 211), none, .p (.bin .eql), [.t 210, .c (.int .i64 133)]⟩ ::
 ⟨(some 212), none, .p .mov, [.t 211]⟩ ::
 ⟨(some 213), (some (212, true)), .p .mov, [.t 6]⟩ ::
 ⟨(some 214), (some (212, true)), .call, [.c (.func (.func 22) [] []), .t 213, .c (.int .i64 1), .c (.int .i64 0)]⟩ ::
 ⟨(some 215), (some (212, true)), .p (.bin .eql), [.t 214, .c (.int .i64 133)]⟩ ::
 ⟨(some 216), none, .p .pick, [.t 212, .t 215, .c (.bool false)]⟩ ::
 ⟨(some 217), none, .p .mov, [.t 216]⟩ ::
 ⟨(some 218), (some (217, true)), .p .mov, [.t 6]⟩ ::
 ⟨(some 219), (some (217, true)), .call, [.c (.func (.func 22) [] []), .t 218, .c (.int .i64 1), .c (.int .i64 1)]⟩ ::
 ⟨(some 220), (some (217, true)), .p (.bin .eql), [.t 219, .c (.int .i64 0)]⟩ ::
 ⟨(some 221), none, .p .pick, [.t 217, .t 220, .c (.bool false)]⟩ ::
 ⟨(some 222), none, .p .mov, [.t 221]⟩ ::
 ⟨(some 223), (some (222, true)), .p .mov, [.t 6]⟩ ::
 ⟨(some 224), (some (222, true)), .call, [.c (.func (.func 22) [] []), .t 223, .c (.int .i64 1), .c (.int .i64 1)]⟩ ::
 ⟨(some 225), (some (222, true)), .p (.bin .eql), [.t 224, .c (.int .i64 131)]⟩ ::
 ⟨(some 226), none, .p .pick, [.t 222, .t 225, .c (.bool false)]⟩ ::
 ⟨(some 227), none, .p .mov, [.t 226]⟩ ::
 ⟨(some 228), (some (227, true)), .p .mov, [.t 6]⟩ ::
 ⟨(some 229), (some (227, true)), .call, [.c (.func (.func 23) [] []), .t 228, .c (.int .i64 0)]⟩ ::
 ⟨(some 230), (some (227, true)), .p (.bin .eql), [.t 229, .c (.int .i64 132)]⟩ ::
 ⟨(some 231), none, .p .pick, [.t 227, .t 230, .c (.bool false)]⟩ ::
 ⟨(some 232), none, .p .mov, [.t 231]⟩ ::
 ⟨(some 233), (some (232, true)), .p .mov, [.t 6]⟩ ::
 ⟨(some 234), (some (232, true)), .call, [.c (.func (.func 24) [] []), .t 233, .c (.int .i64 0)]⟩ ::
 ⟨(some 235), (some (232, true)), .p (.bin .eql), [.t 234, .c (.int .i64 170)]⟩ ::
 ⟨(some 236), none, .p .pick, [.t 232, .t 235, .c (.bool false)]⟩ ::
 ⟨(some 237), none, .p .mov, [.t 236]⟩ ::
 ⟨(some 238), (some (237, true)), .p .mov, [.t 6]⟩ ::
 ⟨(some 239), (some (237, true)), .call, [.c (.func (.func 27) [] []), .t 238, .c (.int .i64 1)]⟩ ::
 ⟨(some 240), none, .p .pick, [.t 237, .t 239, .c (.bool false)]⟩ ::
 ⟨(some 241), none, .p .mov, [.t 240]⟩ ::
 ⟨(some 242), (some (241, true)), .p .mov, [.t 6]⟩ ::
 ⟨(some 243), (some (241, true)), .call, [.c (.func (.func 14) [] []), .t 242, .c (.int .i64 1)]⟩ ::
 ⟨(some 244), (some (241, true)), .p .lenS, [.t 243]⟩ ::
 ⟨(some 245), (some (241, true)), .p (.bin .eql), [.t 244, .c (.int .i64 0)]⟩ ::
 ⟨(some 246), none, .p .pick, [.t 241, .t 245, .c (.bool false)]⟩ ::
 ⟨(some 247), none, .p .mov, [.t 246]⟩ ::
 ⟨(some 248), (some (247, true)), .p .mov, [.t 6]⟩ ::
 ⟨(some 249), (some (247, true)), .call, [.c (.func (.func 34) [] []), .t 248]⟩ ::
 ⟨(some 250), (some (247, true)), .a (.bslice [(.int .i64 0)] 1 1 [0]), [.c (.int .i64 0)]⟩ ::
 ⟨(some 251), (some (247, true)), .call, [.c (.func (.func 33) [] []), .t 249, .t 250]⟩ ::
 ⟨(some 252), none, .p .pick, [.t 247, .t 251, .c (.bool false)]⟩ ::
 ⟨(some 15), none, .p .mov, [.t 252]⟩ ::
 []))
(.seq (.ops (⟨(some 16), none, .p .mov, [.c .nilp]⟩ ::
 []))
(.seq (.seq (.ops (⟨(some 17), none, .p .mov, [.c (.int .i64 0)]⟩ ::
 []))
(.block 0 (.loop L_escapementlaw18_RoomNames_0)))
(.seq (.ops (⟨(some 354), none, .p .mov, [.c (.bool true)]⟩ ::
 ⟨(some 355), (some (354, true)), .call, [.c (.func (.func 7) [] [])]⟩ ::
 ⟨(some 356), none, .p .pick, [.t 354, .t 355, .c (.bool false)]⟩ ::
 ⟨(some 357), none, .p .mov, [.t 356]⟩ ::
 ⟨(some 358), (some (357, true)), .p .mov, [.t 2]⟩ ::
 ⟨(some 359), (some (357, true)), .p (.bin .eql), [.t 358, .c (.int .i64 2)]⟩ ::
 ⟨(some 360), none, .p .pick, [.t 357, .t 359, .c (.bool false)]⟩ ::
 ⟨(some 361), none, .p .mov, [.t 360]⟩ ::
 ⟨(some 362), (some (361, true)), .p .mov, [.t 4]⟩ ::
 ⟨(some 363), (some (361, true)), .p (.bin .eql), [.t 362, .c (.int .i64 2)]⟩ ::
 ⟨(some 364), none, .p .pick, [.t 361, .t 363, .c (.bool false)]⟩ ::
 ⟨(some 365), none, .p .mov, [.t 364]⟩ ::
 ⟨(some 366), (some (365, true)), .p .mov, [.t 9]⟩ ::
 ⟨(some 367), none, .p .pick, [.t 365, .t 366, .c (.bool false)]⟩ ::
 ⟨(some 368), none, .p .mov, [.t 367]⟩ ::
 ⟨(some 369), (some (368, true)), .p .mov, [.t 10]⟩ ::
 ⟨(some 370), none, .p .pick, [.t 368, .t 369, .c (.bool false)]⟩ ::
 ⟨(some 371), none, .p .mov, [.t 370]⟩ ::
 ⟨(some 372), (some (371, true)), .p .mov, [.t 14]⟩ ::
 ⟨(some 373), none, .p .pick, [.t 371, .t 372, .c (.bool false)]⟩ ::
 ⟨(some 374), none, .p .mov, [.t 373]⟩ ::
 ⟨(some 375), (some (374, true)), .p .mov, [.t 15]⟩ ::
 ⟨(some 376), none, .p .pick, [.t 374, .t 375, .c (.bool false)]⟩ ::
 ⟨(some 0), none, .p .mov, [.t 376]⟩ ::
 []))
.ret)))))))))))))))⟩
abbrev f_escapementlaw18_RoomNames : Nat := 6
abbrev C_escapementlaw18_RoomNames : AFunc := C6
def C7 : AFunc := ⟨114, [.tmp 0],
(.seq (.ops (⟨(some 0), none, .p .mov, [.c (.bool false)]⟩ ::
 []))
(.seq (.ops (⟨(some 10), none, .p (.build [(.int .i64 0), (.int .i64 0), (.int .i64 0), (.int .i64 0), (.int .i64 0), (.int .i64 0), (.int .i64 0), (.int .i64 0)] [(0, 1), (1, 1), (2, 1), (3, 1), (4, 1)]), [.c (.int .i64 20), .c (.int .i64 10), .c (.int .i64 4), .c (.int .i64 1), .c (.int .i64 1)]⟩ ::
 ⟨(some 11), none, .p (.build [(.int .i64 0), (.int .i64 0), (.int .i64 0), (.int .i64 0), (.int .i64 0), (.int .i64 0), (.int .i64 0), (.int .i64 0)] [(0, 1), (1, 1), (2, 1), (3, 1), (4, 1)]), [.c (.int .i64 30), .c (.int .i64 20), .c (.int .i64 6), .c (.int .i64 1), .c (.int .i64 3)]⟩ ::
 ⟨(some 12), none, .a (.bslice [(.int .i64 0), (.int .i64 0), (.int .i64 0), (.int .i64 0), (.int .i64 0), (.int .i64 0), (.int .i64 0), (.int .i64 0)] 2 8 [0, 1]), [.t 10, .t 11]⟩ ::
 ⟨(some 1), none, .p .mov, [.t 12]⟩ ::
 []))
(.seq (.ops (⟨(some 14), none, .p .mov, [.t 1]⟩ ::
 ⟨(some 15), none, .call, [.c (.func (.func 9) [] []), .t 14]⟩ ::
 ⟨(some 13), none, .p .mov, [.t 15]⟩ ::
 ⟨(some 16), none, .p (.ext 0), [.t 13]⟩ ::
 ⟨(some 17), none, .p (.ext 1), [.t 13]⟩ ::
 ⟨(some 2), none, .p .mov, [.t 16]⟩ ::
 ⟨(some 3), none, .p .mov, [.t 17]⟩ ::
 []))
(.seq (.seq (.ops (⟨(some 18), none, .p .mov, [.t 3]⟩ ::
 ⟨(some 19), none, .p (.bin .neq), [.t 18, .c (.int .i64 0)]⟩ ::
 ⟨(some 20), none, .p .mov, [.t 19]⟩ ::
 ⟨(some 21), (some (20, false)), .p .mov, [.t 2]⟩ ::
 ⟨(some 22), (some (20, false)), .p (.eq .nilptr), [.t 21, .c .nilp]⟩ ::
 ⟨(some 23), none, .p .pick, [.t 20, .c (.bool true), .t 22]⟩ ::
 []))
(.cond (.t 23)
(.seq (.ops (⟨(some 0), none, .p .mov, [.c (.bool false)]⟩ ::
 []))
.ret)
.skip))
(.seq (.ops (⟨(some 24), none, .p (.build [(.int .i64 0), (.int .i64 0), (.str [])] [(0, 1)]), [.c (.int .i64 2)]⟩ ::
 ⟨(some 25), none, .p (.build [(.int .i64 0), (.int .i64 0), (.str [])] [(0, 1), (1, 1)]), [.c (.int .i64 1), .c (.int .i64 3)]⟩ ::
 ⟨(some 26), none, .p (.build [(.int .i64 0), (.int .i64 0), (.str [])] [(0, 1)]), [.c (.int .i64 3)]⟩ ::
 ⟨(some 27), none, .p (.build [(.int .i64 0), (.int .i64 0), (.str [])] [(0, 1), (1, 1)]), [.c (.int .i64 1), .c (.int .i64 3)]⟩ ::
 ⟨(some 28), none, .a (.bslice [(.int .i64 0), (.int .i64 0), (.str [])] 4 3 [0, 1, 2, 3]), [.t 24, .t 25, .t 26, .t 27]⟩ ::
 ⟨(some 4), none, .p .mov, [.t 28]⟩ ::
 []))
(.seq (.ops (⟨(some 29), none, .p (.build [(.int .i64 0), (.int .i64 0), (.str [])] [(0, 1), (1, 1)]), [.c (.int .i64 1), .c (.int .i64 2)]⟩ ::
 ⟨(some 30), none, .a (.bslice [(.int .i64 0), (.int .i64 0), (.str [])] 1 3 [0]), [.t 29]⟩ ::
 ⟨(some 5), none, .p .mov, [.t 30]⟩ ::
 []))
(.seq (.ops (⟨(some 31), none, .p .mov, [.t 2]⟩ ::
 ⟨(some 32), none, .p .mov, [.t 4]⟩ ::
 ⟨(some 33), none, .call, [.c (.func (.func 28) [] []), .t 31, .c (.int .i64 1), .t 32, .c (.int .i64 0)]⟩ ::
 ⟨(some 34), none, .p (.bin .eql), [.t 33, .c (.int .i64 0)]⟩ ::
 ⟨(some 35), none, .p .mov, [.t 34]⟩ ::
 ⟨(some 36), (some (35, true)), .p .mov, [.t 2]⟩ ::
 ⟨(some 37), (some (35, true)), .call, [.c (.func (.func 31) [] []), .t 36, .c (.int .i64 1)]⟩ ::
 ⟨(some 38), none, .p .pick, [.t 35, .t 37, .c (.bool false)]⟩ ::
 ⟨(some 39), none, .p .mov, [.t 38]⟩ ::
 ⟨(some 40), (some (39, true)), .p .mov, [.t 2]⟩ ::
 ⟨(some 41), (some (39, true)), .call, [.c (.func (.func 22) [] []), .t 40, .c (.int .i64 1), .c (.int .i64 0)]⟩ ::
 ⟨(some 42), (some (39, true)), .p (.bin .eql), [.t 41, .c (.int .i64 0)]⟩ ::
 ⟨(some 43), none, .p .pick, [.t 39, .t 42, .c (.bool false)]⟩ ::
 ⟨(some 44), none, .p .mov, [.t 43]⟩ ::
 ⟨(some 45), (some (44, true)), .p .mov, [.t 2]⟩ ::
 ⟨(some 46), (some (44, true)), .call, [.c (.func (.func 20) [] []), .t 45, .c (.int .i64 1)]⟩ ::
 ⟨(some 47), (some (44, true)), .p (.bin .eql), [.t 46, .c (.int .i64 0)]⟩ ::
 ⟨(some 48), none, .p .pick, [.t 44, .t 47, .c (.bool false)]⟩ ::
 ⟨(some 6), none, .p .mov, [.t 48]⟩ ::
 []))
(.seq (.ops (⟨(some 49), none, .p .mov, [.t 2]⟩ ::
 ⟨(some 50), none, .p .mov, [.t 5]⟩ ::
 ⟨(some 51), none, .call, [.c (.func (.func 28) [] []), .t 49, .c (.int .i64 0), .t 50, .c (.int .i64 1)]⟩ ::
 ⟨(some 52), none, .p (.bin .eql), [.t 51, .c (.int .i64 0)]⟩ ::
 ⟨(some 53), none, .p .mov, [.t 52]⟩ ::
 ⟨(some 54), (some (53, true)), .p .mov, [.t 2]⟩ ::
 ⟨(some 55), (some (53, true)), .call, [.c (.func (.func 31) [] []), .t 54, .c (.int .i64 1)]⟩ ::
 ⟨(some 56), none, .p .pick, [.t 53, .t 55, .c (.bool false)]⟩ ::
 ⟨(some 7), none, .p .mov, [.t 56]⟩ ::
 []))
(.seq (.ops (⟨(some 57), none, .p .mov, [.t 2]⟩ ::
 ⟨(some 58), none, .call, [.c (.func (.func 21) [] []), .t 57, .c (.int .i64 1)]⟩ ::
 ⟨(some 59), none, .p (.bin .eql), [.t 58, .c (.int .i64 0)]⟩ ::
 ⟨(some 60), none, .p .mov, [.t 59]⟩ ::
 ⟨(some 61), (some (60, true)), .p .mov, [.t 2]⟩ ::
 ⟨(some 62), (some (60, true)), .call, [.c (.func (.func 21) [] []), .t 61, .c (.int .i64 1)]⟩ ::
 ⟨(some 63), (some (60, true)), .p (.bin .eql), [.t 62, .c (.int .i64 0)]⟩ ::
 ⟨(some 64), none, .p .pick, [.t 60, .t 63, .c (.bool false)]⟩ ::
 ⟨(some 65), none, .p .mov, [.t 64]⟩ ::
 ⟨(some 66), (some (65, true)), .p .mov, [.t 2]⟩ ::
 ⟨(some 67), (some (65, true)), .call, [.c (.func (.func 21) [] []), .t 66, .c (.int .i64 1)]⟩ ::
 ⟨(some 68), (some (65, true)), .p (.bin .eql), [.t 67, .c (.int .i64 0)]⟩ ::
 ⟨(some 69), none, .p .pick, [.t 65, .t 68, .c (.bool false)]⟩ ::
 ⟨(some 70), none, .p .mov, [.t 69]⟩ ::
 ⟨(some 71), (some (70, true)), .p .mov, [.t 2]⟩ ::
 ⟨(some 72), (some (70, true)), .call, [.c (.func (.func 23) [] []), .t 71, .c (.int .i64 1)]⟩ ::
 ⟨(some 73), (some (70, true)), .p (.bin .eql), [.t 72, .c (.int .i64 0)]⟩ ::
 ⟨(some 74), none, .p .pick, [.t 70, .t 73, .c (.bool false)]⟩ ::
 ⟨(some 75), none, .p .mov, [.t 74]⟩ ::
 ⟨(some 76), (some (75, true)), .p .mov, [.t 2]⟩ ::
 ⟨(some 77), (some (75, true)), .call, [.c (.func (.func 20) [] []), .t 76, .c (.int .i64 1)]⟩ ::
 ⟨(some 78), (some (75, true)), .p (.bin .eql), [.t 77, .c (.int .i64 0)]⟩ ::
 ⟨(some 79), none, .p .pick, [.t 75, .t 78, .c (.bool false)]⟩ ::
 ⟨(some 80), none, .p .mov, [.t 79]⟩ ::
 ⟨(some 81), (some (80, true)), .p .mov, [.t 2]⟩ ::
 ⟨(some 82), (some (80, true)), .call, [.c (.func (.func 31) [] []), .t 81, .c (.int .i64 0)]⟩ ::
 ⟨(some 83), none, .p .pick, [.t 80, .t 82, .c (.bool false)]⟩ ::
 ⟨(some 8), none, .p .mov, [.t 83]⟩ ::
 []))
(.seq (.ops (⟨(some 84), none, .p .mov, [.t 2]⟩ ::
 ⟨(some 85), none, .p .mov, [.t 5]⟩ ::
 ⟨(some 86), none, .call, [.c (.func (.func 28) [] []), .t 84, .c (.int .i64 0), .t 85, .c (.int .i64 25)]⟩ ::
 ⟨(some 87), none, .p (.bin .eql), [.t 86, .c (.int .i64 141)]⟩ ::
 ⟨(some 88), none, .p .mov, [.t 87]⟩ ::
 ⟨(some 89), (some (88, true)), .p .mov, [.t 2]⟩ ::
 ⟨(some 90), (some (88, true)), .call, [.c (.func (.func 27) [] []), .t 89, .c (.int .i64 0)]⟩ ::
 ⟨(some 91), none, .p .pick, [.t 88, .t 90, .c (.bool false)]⟩ ::
 ⟨(some 92), none, .p .mov, [.t 91]⟩ ::
 ⟨(some 93), (some (92, true)), .p .mov, [.t 2]⟩ ::
 ⟨(some 94), (some (92, true)), .p .mov, [.t 5]⟩ ::
 ⟨(some 95), (some (92, true)), .call, [.c (.func (.func 28) [] []), .t 93, .c (.int .i64 0), .t 94, .c (.int .i64 15)]⟩ ::
 ⟨(some 96), (some (92, true)), .p (.bin .eql), [.t 95, .c (.int .i64 140)]⟩ ::
 ⟨(some 97), none, .p .pick, [.t 92, .t 96, .c (.bool false)]⟩ ::
 ⟨(some 98), none, .p .mov, [.t 97]⟩ ::
 ⟨(some 99), (some (98, true)), .p .mov, [.t 2]⟩ ::
 ⟨(some 100), (some (98, true)), .p .mov, [.t 5]⟩ ::
 ⟨(some 101), (some (98, true)), .call, [.c (.func (.func 28) [] []), .t 99, .c (.int .i64 0), .t 100, .c (.int .i64 21)]⟩ ::
 ⟨(some 102), (some (98, true)), .p (.bin .eql), [.t 101, .c (.int .i64 0)]⟩ ::
 ⟨(some 103), none, .p .pick, [.t 98, .t 102, .c (.bool false)]⟩ ::
 ⟨(some 9), none, .p .mov, [.t 103]⟩ ::
 []))
(.seq (.ops (⟨(some 104), none, .p .mov, [.t 6]⟩ ::
 ⟨(some 105), none, .p .mov, [.t 104]⟩ ::
 ⟨(some 106), (some (105, true)), .p .mov, [.t 7]⟩ ::
 ⟨(some 107), none, .p .pick, [.t 105, .t 106, .c (.bool false)]⟩ ::
 ⟨(some 108), none, .p .mov, [.t 107]⟩ ::
 ⟨(some 109), (some (108, true)), .p .mov, [.t 8]⟩ ::
 ⟨(some 110), none, .p .pick, [.t 108, .t 109, .c (.bool false)]⟩ ::
 ⟨(some 111), none, .p .mov, [.t 110]⟩ ::
 ⟨(some 112), (some (111, true)), .p .mov, [.t 9]⟩ ::
 ⟨(some 113), none, .p .pick, [.t 111, .t 112, .c (.bool false)]⟩ ::
 ⟨(some 0), none, .p .mov, [.t 113]⟩ ::
 []))
.ret)))))))))))⟩
abbrev f_escapementlaw18_works : Nat := 7
abbrev C_escapementlaw18_works : AFunc := C7
def L_room_New_0 : AC := (.seq (.ops (⟨(some 28), none, .p (.bin .lss), [.t 27, .t 26]⟩ ::
 []))
(.seq (.cond (.t 28)
.skip
(.exit 0))
(.seq (.block 1 (.seq (.ops (⟨(some 29), none, .p (.iaddrS 8), [.t 25, .t 27]⟩ ::
 ⟨(some 30), none, .r (.loadN 8), [.t 29]⟩ ::
 ⟨(some 7), none, .a (.alloc [(.int .i64 0), (.int .i64 0), (.int .i64 0), (.int .i64 0), (.int .i64 0), (.int .i64 0), (.int .i64 0), (.int .i64 0)]), []⟩ ::
 ⟨none, none, .e (.store 8), [.t 7, .t 30]⟩ ::
 []))
(.seq (.ops (⟨(some 32), none, .p (.faddr 0), [.t 7]⟩ ::
 ⟨(some 33), none, .r .load1, [.t 32]⟩ ::
 ⟨(some 34), none, .call, [.c (.func (.func 37) [] []), .t 33]⟩ ::
 ⟨(some 31), none, .p .mov, [.t 34]⟩ ::
 ⟨(some 35), none, .p (.ext 0), [.t 31]⟩ ::
 ⟨(some 36), none, .p (.ext 1), [.t 31]⟩ ::
 ⟨(some 8), none, .p .mov, [.t 35]⟩ ::
 ⟨(some 9), none, .p .mov, [.t 36]⟩ ::
 []))
(.ops (⟨(some 37), none, .p .mov, [.t 5]⟩ ::
 ⟨(some 38), none, .p .mov, [.t 5]⟩ ::
 ⟨(some 39), none, .p .nilchk, [.t 38]⟩ ::
 ⟨(some 40), none, .p (.faddr 3), [.t 39]⟩ ::
 ⟨(some 41), none, .r .load1, [.t 40]⟩ ::
 ⟨(some 42), none, .p .mov, [.t 8]⟩ ::
 ⟨(some 43), none, .a (.bslice [.nilp] 1 1 [0]), [.t 42]⟩ ::
 ⟨(some 44), none, .e (.append 1 8), [.t 41, .t 43]⟩ ::
 ⟨(some 45), none, .p .nilchk, [.t 37]⟩ ::
 ⟨(some 46), none, .p (.faddr 3), [.t 45]⟩ ::
 ⟨none, none, .e (.store 1), [.t 46, .t 44]⟩ ::
 [])))))
(.ops (⟨(some 47), none, .p (.bin .add), [.t 27, .c (.int .i64 1)]⟩ ::
 ⟨(some 27), none, .p .mov, [.t 47]⟩ ::
 [])))))
def C9 : AFunc := ⟨66, [.tmp 2, .tmp 3],
(.seq (.ops (⟨(some 2), none, .p .mov, [.c .nilp]⟩ ::
 ⟨(some 3), none, .p .mov, [.c (.int .i64 0)]⟩ ::
 []))
(.seq (.seq (.ops (⟨(some 10), none, .p .mov, [.t 0]⟩ ::
 ⟨(some 11), none, .p .mov, [.t 0]⟩ ::
 ⟨(some 12), none, .p .lenS, [.t 11]⟩ ::
 ⟨(some 13), none, .a (.mkslice [(.int .i64 0)] 1 8), [.t 12, .t 12]⟩ ::
 ⟨(some 14), none, .call, [.c (.func (.func 10) [] []), .t 10, .t 13]⟩ ::
 ⟨(some 4), none, .p .mov, [.t 14]⟩ ::
 []))
(.seq (.ops (⟨(some 15), none, .p .mov, [.t 4]⟩ ::
 ⟨(some 16), none, .p (.bin .neq), [.t 15, .c (.int .i64 0)]⟩ ::
 []))
(.cond (.t 16)
(.seq (.ops (⟨(some 17), none, .p .mov, [.t 4]⟩ ::
 ⟨(some 2), none, .p .mov, [.c .nilp]⟩ ::
 ⟨(some 3), none, .p .mov, [.t 17]⟩ ::
 []))
.ret)
.skip)))
(.seq (.dops (⟨(some 18), none, .p .mov, [.t 0]⟩ ::
 ⟨(some 19), none, .call, [.c (.func (.func 36) [] []), .t 18]⟩ ::
 ⟨(some 20), none, .p .mov, [.t 0]⟩ ::
 ⟨(some 21), none, .p .lenS, [.t 20]⟩ ::
 ⟨(some 22), none, .a (.mkslice [.nilp] 1 8), [.t 21, .t 21]⟩ ::
 ⟨(some 23), none, .p (.build [.nilp, .nilp, .nils, .nils, .nils] [(2, 1), (4, 1)]), [.t 19, .t 22]⟩ ::
 ⟨(some 24), none, .a .box, [.t 23]⟩ ::
 ⟨(some 5), none, .p .mov, [.t 24]⟩ ::
 []) ([] :: [] :: [] :: [] :: [] :: [] :: [] :: [] :: []))
(.seq (.seq (.ops (⟨(some 25), none, .p .mov, [.t 0]⟩ ::
 ⟨(some 26), none, .p .lenS, [.t 25]⟩ ::
 ⟨(some 27), none, .p .mov, [.c (.int .i64 0)]⟩ ::
 []))
(.block 0 (.loop L_room_New_0)))
(.seq (.ops (⟨(some 49), none, .p .mov, [.t 5]⟩ ::
 ⟨(some 50), none, .p .mov, [.t 0]⟩ ::
 ⟨(some 51), none, .call, [.c (.func (.func 38) [] []), .t 50]⟩ ::
 ⟨(some 48), none, .p .mov, [.t 51]⟩ ::
 ⟨(some 52), none, .p (.ext 0), [.t 48]⟩ ::
 ⟨(some 53), none, .p (.ext 1), [.t 48]⟩ ::
 ⟨(some 54), none, .p .nilchk, [.t 49]⟩ ::
 ⟨(some 55), none, .p (.faddr 0), [.t 54]⟩ ::
 ⟨none, none, .e (.store 1), [.t 55, .t 52]⟩ ::
 []))
(.seq (.ops (⟨(some 57), none, .p .mov, [.t 5]⟩ ::
 ⟨(some 58), none, .p .mov, [.t 0]⟩ ::
 ⟨(some 59), none, .p .lenS, [.t 58]⟩ ::
 ⟨(some 60), none, .call, [.c (.func (.func 39) [] []), .t 59]⟩ ::
 ⟨(some 56), none, .p .mov, [.t 60]⟩ ::
 ⟨(some 61), none, .p (.ext 0), [.t 56]⟩ ::
 ⟨(some 62), none, .p (.ext 1), [.t 56]⟩ ::
 ⟨(some 63), none, .p .nilchk, [.t 57]⟩ ::
 ⟨(some 64), none, .p (.faddr 1), [.t 63]⟩ ::
 ⟨none, none, .e (.store 1), [.t 64, .t 61]⟩ ::
 []))
(.seq (.ops (⟨(some 65), none, .p .mov, [.t 5]⟩ ::
 ⟨(some 2), none, .p .mov, [.t 65]⟩ ::
 ⟨(some 3), none, .p .mov, [.c (.int .i64 0)]⟩ ::
 []))
.ret)))))))⟩
abbrev f_room_New : Nat := 9
abbrev C_room_New : AFunc := C9
def C10 : AFunc := ⟨21, [.tmp 4],
(.seq (.ops (⟨(some 4), none, .p .mov, [.c (.int .i64 0)]⟩ ::
 []))
(.seq (.ops (⟨(some 6), none, .p .mov, [.t 1]⟩ ::
 ⟨(some 7), none, .call, [.c (.func (.func 40) [] []), .t 6, .c (.func (.func 41) [] [])]⟩ ::
 ⟨(some 5), none, .p .mov, [.t 7]⟩ ::
 []))
(.seq (.seq (.ops (⟨(some 8), none, .p .mov, [.t 5]⟩ ::
 ⟨(some 9), none, .p .mov, [.t 8]⟩ ::
 ⟨(some 10), (some (9, false)), .p .mov, [.t 0]⟩ ::
 ⟨(some 11), (some (9, false)), .call, [.c (.func (.func 42) [] []), .t 10]⟩ ::
 ⟨(some 12), (some (9, false)), .p .not, [.t 11]⟩ ::
 ⟨(some 13), none, .p .pick, [.t 9, .c (.bool true), .t 12]⟩ ::
 ⟨(some 14), none, .p .mov, [.t 13]⟩ ::
 ⟨(some 15), (some (14, false)), .p .mov, [.t 1]⟩ ::
 ⟨(some 16), (some (14, false)), .p .lenS, [.t 15]⟩ ::
 ⟨(some 17), (some (14, false)), .p .mov, [.t 0]⟩ ::
 ⟨(some 18), (some (14, false)), .p .lenS, [.t 17]⟩ ::
 ⟨(some 19), (some (14, false)), .p (.bin .neq), [.t 16, .t 18]⟩ ::
 ⟨(some 20), none, .p .pick, [.t 14, .c (.bool true), .t 19]⟩ ::
 []))
(.cond (.t 20)
(.seq (.ops (⟨(some 4), none, .p .mov, [.c (.int .i64 2)]⟩ ::
 []))
.ret)
.skip))
(.seq (.ops (⟨(some 4), none, .p .mov, [.c (.int .i64 0)]⟩ ::
 []))
.ret))))⟩
abbrev f_demand_Check : Nat := 10
abbrev C_demand_Check : AFunc := C10
def C13 : AFunc := ⟨18, [.tmp 4, .tmp 5],
(.seq (.ops (⟨(some 4), none, .p .mov, [.c (.int .i64 0)]⟩ ::
 ⟨(some 5), none, .p .mov, [.c (.bool false)]⟩ ::
 []))
(.seq (.ops (⟨(some 9), none, .p .mov, [.t 0]⟩ ::
 ⟨(some 10), none, .p .mov, [.t 1]⟩ ::
 ⟨(some 11), none, .call, [.c (.func (.func 46) [] []), .t 9, .t 10]⟩ ::
 ⟨(some 8), none, .p .mov, [.t 11]⟩ ::
 ⟨(some 12), none, .p (.ext 0), [.t 8]⟩ ::
 ⟨(some 13), none, .p (.ext 1), [.t 8]⟩ ::
 ⟨(some 6), none, .p .mov, [.t 12]⟩ ::
 ⟨(some 7), none, .p .mov, [.t 13]⟩ ::
 []))
(.seq (.seq (.ops (⟨(some 14), none, .p .mov, [.t 7]⟩ ::
 ⟨(some 15), none, .p (.bin .neq), [.t 14, .c (.int .i64 0)]⟩ ::
 []))
(.cond (.t 15)
(.seq (.ops (⟨(some 4), none, .p .mov, [.c (.int .i64 0)]⟩ ::
 ⟨(some 5), none, .p .mov, [.c (.bool false)]⟩ ::
 []))
.ret)
.skip))
(.seq (.ops (⟨(some 16), none, .p .mov, [.t 6]⟩ ::
 ⟨(some 17), none, .call, [.c (.func (.func 47) [] []), .t 16]⟩ ::
 ⟨(some 4), none, .p .mov, [.t 17]⟩ ::
 ⟨(some 5), none, .p .mov, [.c (.bool true)]⟩ ::
 []))
.ret))))⟩
abbrev f_room_Room_Deadline : Nat := 13
abbrev C_room_Room_Deadline : AFunc := C13
def C14 : AFunc := ⟨21, [.tmp 4],
(.seq (.ops (⟨(some 4), none, .p .mov, [.c .nils]⟩ ::
 []))
(.seq (.seq (.ops (⟨(some 8), none, .p .mov, [.t 0]⟩ ::
 ⟨(some 9), none, .p .mov, [.t 1]⟩ ::
 ⟨(some 10), none, .call, [.c (.func (.func 46) [] []), .t 8, .t 9]⟩ ::
 ⟨(some 7), none, .p .mov, [.t 10]⟩ ::
 ⟨(some 11), none, .p (.ext 0), [.t 7]⟩ ::
 ⟨(some 12), none, .p (.ext 1), [.t 7]⟩ ::
 ⟨(some 5), none, .p .mov, [.t 11]⟩ ::
 ⟨(some 6), none, .p .mov, [.t 12]⟩ ::
 []))
(.seq (.ops (⟨(some 13), none, .p .mov, [.t 6]⟩ ::
 ⟨(some 14), none, .p (.bin .neq), [.t 13, .c (.int .i64 0)]⟩ ::
 []))
(.cond (.t 14)
(.seq (.ops (⟨(some 4), none, .p .mov, [.c .nils]⟩ ::
 []))
.ret)
.skip)))
(.seq (.ops (⟨(some 15), none, .p .mov, [.t 0]⟩ ::
 ⟨(some 16), none, .p .nilchk, [.t 15]⟩ ::
 ⟨(some 17), none, .p (.faddr 0), [.t 16]⟩ ::
 ⟨(some 18), none, .r .load1, [.t 17]⟩ ::
 ⟨(some 19), none, .p .mov, [.t 1]⟩ ::
 ⟨(some 20), none, .call, [.c (.func (.func 48) [] []), .t 18, .t 19]⟩ ::
 ⟨(some 4), none, .p .mov, [.t 20]⟩ ::
 []))
.ret)))⟩
abbrev f_room_Room_Held : Nat := 14
abbrev C_room_Room_Held : AFunc := C14
def C15 : AFunc := ⟨60, [.tmp 2, .tmp 3],
(.seq (.ops (⟨(some 2), none, .p .mov, [.c (.int .i64 0)]⟩ ::
 ⟨(some 3), none, .p .mov, [.c (.bool false)]⟩ ::
 []))
(.seq (.seq (.ops (⟨(some 9), none, .p .mov, [.t 0]⟩ ::
 ⟨(some 10), none, .call, [.c (.func (.func 49) [] []), .t 9]⟩ ::
 []))
(.cond (.t 10)
(.seq (.ops (⟨(some 2), none, .p .mov, [.c (.int .i64 0)]⟩ ::
 ⟨(some 3), none, .p .mov, [.c (.bool false)]⟩ ::
 []))
.ret)
.skip))
(.seq (.seq (.ops (⟨(some 12), none, .p .mov, [.t 0]⟩ ::
 ⟨(some 13), none, .call, [.c (.func (.func 30) [] []), .t 12]⟩ ::
 ⟨(some 11), none, .p .mov, [.t 13]⟩ ::
 ⟨(some 14), none, .p (.ext 0), [.t 11]⟩ ::
 ⟨(some 15), none, .p (.ext 1), [.t 11]⟩ ::
 ⟨(some 16), none, .p (.ext 2), [.t 11]⟩ ::
 ⟨(some 4), none, .p .mov, [.t 14]⟩ ::
 ⟨(some 5), none, .p .mov, [.t 15]⟩ ::
 ⟨(some 6), none, .p .mov, [.t 16]⟩ ::
 []))
(.seq (.ops (⟨(some 17), none, .p .mov, [.t 6]⟩ ::
 []))
(.cond (.t 17)
(.seq (.ops (⟨(some 18), none, .p .mov, [.t 4]⟩ ::
 ⟨(some 2), none, .p .mov, [.t 18]⟩ ::
 ⟨(some 3), none, .p .mov, [.c (.bool true)]⟩ ::
 []))
.ret)
.skip)))
(.seq (.ops (⟨(some 20), none, .p .mov, [.t 0]⟩ ::
 ⟨(some 21), none, .p .nilchk, [.t 20]⟩ ::
 ⟨(some 22), none, .p (.faddr 1), [.t 21]⟩ ::
 ⟨(some 23), none, .r .load1, [.t 22]⟩ ::
 ⟨(some 24), none, .call, [.c (.func (.func 50) [] []), .t 23]⟩ ::
 ⟨(some 19), none, .p .mov, [.t 24]⟩ ::
 ⟨(some 25), none, .p (.ext 0), [.t 19]⟩ ::
 ⟨(some 26), none, .p (.ext 1), [.t 19]⟩ ::
 ⟨(some 27), none, .p (.ext 2), [.t 19]⟩ ::
 ⟨(some 7), none, .p .mov, [.t 25]⟩ ::
 ⟨(some 8), none, .p .mov, [.t 26]⟩ ::
 ⟨(some 3), none, .p .mov, [.t 27]⟩ ::
 []))
(.seq (.block 0 (.seq (.ops (⟨(some 29), none, .p .mov, [.t 3]⟩ ::
 ⟨(some 30), none, .p .not, [.t 29]⟩ ::
 ⟨(some 28), none, .p .mov, [.t 30]⟩ ::
 []))
(.cond (.t 28)
(.seq (.ops (⟨(some 2), none, .p .mov, [.c (.int .i64 0)]⟩ ::
 ⟨(some 3), none, .p .mov, [.c (.bool false)]⟩ ::
 []))
.ret)
(.seq (.seq (.ops (⟨(some 32), none, .p .mov, [.t 0]⟩ ::
 ⟨(some 33), none, .p .nilchk, [.t 32]⟩ ::
 ⟨(some 34), none, .p (.faddr 4), [.t 33]⟩ ::
 ⟨(some 35), none, .r .load1, [.t 34]⟩ ::
 ⟨(some 36), none, .p .mov, [.t 7]⟩ ::
 ⟨(some 37), none, .p (.iaddrS 1), [.t 35, .t 36]⟩ ::
 ⟨(some 38), none, .r .load1, [.t 37]⟩ ::
 ⟨(some 39), none, .call, [.c (.func (.func 51) [] []), .t 38]⟩ ::
 ⟨(some 31), none, .p .mov, [.t 39]⟩ ::
 []))
(.cond (.t 31)
.skip
(.dops (⟨(some 40), none, .p .mov, [.t 0]⟩ ::
 ⟨(some 41), none, .p .nilchk, [.t 40]⟩ ::
 ⟨(some 42), none, .p (.faddr 2), [.t 41]⟩ ::
 ⟨(some 43), none, .r .load1, [.t 42]⟩ ::
 ⟨(some 44), none, .p .mov, [.t 7]⟩ ::
 ⟨(some 45), none, .call, [.c (.func (.func 52) [] []), .t 43, .t 44]⟩ ::
 ⟨(some 46), none, .p .mov, [.t 0]⟩ ::
 ⟨(some 47), none, .p .nilchk, [.t 46]⟩ ::
 ⟨(some 48), none, .p (.faddr 0), [.t 47]⟩ ::
 ⟨(some 49), none, .r .load1, [.t 48]⟩ ::
 ⟨(some 50), none, .call, [.c (.func (.func 53) [] []), .t 49]⟩ ::
 ⟨(some 51), none, .p (.bin .gtr), [.t 45, .t 50]⟩ ::
 ⟨(some 31), none, .p .mov, [.t 51]⟩ ::
 []) ([] :: [] :: [] :: [] :: [] :: [] :: [] :: [] :: [] :: [0, 6] :: [] :: [] :: [] :: []))))
(.cond (.t 31)
(.seq (.ops (⟨(some 52), none, .p .mov, [.t 7]⟩ ::
 ⟨(some 2), none, .p .mov, [.t 52]⟩ ::
 ⟨(some 3), none, .p .mov, [.c (.bool true)]⟩ ::
 []))
.ret)
.skip)))))
(.seq (.ops (⟨(some 53), none, .p .mov, [.t 0]⟩ ::
 ⟨(some 54), none, .p .nilchk, [.t 53]⟩ ::
 ⟨(some 55), none, .p (.faddr 0), [.t 54]⟩ ::
 ⟨(some 56), none, .r .load1, [.t 55]⟩ ::
 ⟨(some 57), none, .call, [.c (.func (.func 54) [] []), .t 56]⟩ ::
 ⟨(some 58), none, .p (.ext 0), [.t 57]⟩ ::
 ⟨(some 59), none, .p (.ext 1), [.t 57]⟩ ::
 ⟨(some 2), none, .p .mov, [.t 58]⟩ ::
 ⟨(some 3), none, .p .mov, [.t 59]⟩ ::
 []))
.ret))))))⟩
abbrev f_room_Room_Who : Nat := 15
abbrev C_room_Room_Who : AFunc := C15
def C20 : AFunc := ⟨8, [.tmp 4],
(.seq (.ops (⟨(some 4), none, .p .mov, [.c (.int .i64 0)]⟩ ::
 []))
(.seq (.ops (⟨(some 5), none, .p .mov, [.t 0]⟩ ::
 ⟨(some 6), none, .p .mov, [.t 1]⟩ ::
 ⟨(some 7), none, .call, [.c (.func (.func 79) [] []), .t 5, .t 6, .c (.func (.func 80) [] [])]⟩ ::
 ⟨(some 4), none, .p .mov, [.t 7]⟩ ::
 []))
.ret))⟩
abbrev f_room_Room_Did : Nat := 20
abbrev C_room_Room_Did : AFunc := C20
def C21 : AFunc := ⟨8, [.tmp 4],
(.seq (.ops (⟨(some 4), none, .p .mov, [.c (.int .i64 0)]⟩ ::
 []))
(.seq (.ops (⟨(some 5), none, .p .mov, [.t 0]⟩ ::
 ⟨(some 6), none, .p .mov, [.t 1]⟩ ::
 ⟨(some 7), none, .call, [.c (.func (.func 79) [] []), .t 5, .t 6, .c (.func (.func 81) [] [])]⟩ ::
 ⟨(some 4), none, .p .mov, [.t 7]⟩ ::
 []))
.ret))⟩
abbrev f_room_Room_Run : Nat := 21
abbrev C_room_Room_Run : AFunc := C21
def C22 : AFunc := ⟨11, [.tmp 6],
(.seq (.ops (⟨(some 3), none, .a .box, [.t 0]⟩ ::
 ⟨(some 4), none, .a .box, [.t 1]⟩ ::
 ⟨(some 5), none, .a .box, [.t 2]⟩ ::
 ⟨(some 6), none, .p .mov, [.c (.int .i64 0)]⟩ ::
 []))
(.seq (.ops (⟨(some 7), none, .r .load1, [.t 3]⟩ ::
 ⟨(some 8), none, .r .load1, [.t 4]⟩ ::
 ⟨(some 9), none, .p (.mkfunc (.func 82) 0), [.t 3, .t 4, .t 5]⟩ ::
 ⟨(some 10), none, .call, [.c (.func (.func 79) [] []), .t 7, .t 8, .t 9]⟩ ::
 ⟨(some 6), none, .p .mov, [.t 10]⟩ ::
 []))
.ret))⟩
abbrev f_room_Room_Lock : Nat := 22
abbrev C_room_Room_Lock : AFunc := C22
def C23 : AFunc := ⟨9, [.tmp 4],
(.seq (.ops (⟨(some 2), none, .a .box, [.t 0]⟩ ::
 ⟨(some 3), none, .a .box, [.t 1]⟩ ::
 ⟨(some 4), none, .p .mov, [.c (.int .i64 0)]⟩ ::
 []))
(.seq (.ops (⟨(some 5), none, .r .load1, [.t 2]⟩ ::
 ⟨(some 6), none, .r .load1, [.t 3]⟩ ::
 ⟨(some 7), none, .p (.mkfunc (.func 86) 0), [.t 2, .t 3]⟩ ::
 ⟨(some 8), none, .call, [.c (.func (.func 79) [] []), .t 5, .t 6, .t 7]⟩ ::
 ⟨(some 4), none, .p .mov, [.t 8]⟩ ::
 []))
.ret))⟩
abbrev f_room_Room_Unlock : Nat := 23
abbrev C_room_Room_Unlock : AFunc := C23
def C24 : AFunc := ⟨9, [.tmp 4],
(.seq (.ops (⟨(some 2), none, .a .box, [.t 0]⟩ ::
 ⟨(some 3), none, .a .box, [.t 1]⟩ ::
 ⟨(some 4), none, .p .mov, [.c (.int .i64 0)]⟩ ::
 []))
(.seq (.ops (⟨(some 5), none, .r .load1, [.t 2]⟩ ::
 ⟨(some 6), none, .r .load1, [.t 3]⟩ ::
 ⟨(some 7), none, .p (.mkfunc (.func 89) 0), [.t 2, .t 3]⟩ ::
 ⟨(some 8), none, .call, [.c (.func (.func 79) [] []), .t 5, .t 6, .t 7]⟩ ::
 ⟨(some 4), none, .p .mov, [.t 8]⟩ ::
 []))
.ret))⟩
abbrev f_room_Room_Ask : Nat := 24
abbrev C_room_Room_Ask : AFunc := C24
def C25 : AFunc := ⟨8, [.tmp 4],
(.seq (.ops (⟨(some 4), none, .p .mov, [.c (.int .i64 0)]⟩ ::
 []))
(.seq (.ops (⟨(some 5), none, .p .mov, [.t 0]⟩ ::
 ⟨(some 6), none, .p .mov, [.t 1]⟩ ::
 ⟨(some 7), none, .call, [.c (.func (.func 79) [] []), .t 5, .t 6, .c (.func (.func 90) [] [])]⟩ ::
 ⟨(some 4), none, .p .mov, [.t 7]⟩ ::
 []))
.ret))⟩
abbrev f_room_Room_Hold : Nat := 25
abbrev C_room_Room_Hold : AFunc := C25
def C26 : AFunc := ⟨8, [.tmp 4],
(.seq (.ops (⟨(some 4), none, .p .mov, [.c (.int .i64 0)]⟩ ::
 []))
(.seq (.ops (⟨(some 5), none, .p .mov, [.t 0]⟩ ::
 ⟨(some 6), none, .p .mov, [.t 1]⟩ ::
 ⟨(some 7), none, .call, [.c (.func (.func 79) [] []), .t 5, .t 6, .c (.func (.func 91) [] [])]⟩ ::
 ⟨(some 4), none, .p .mov, [.t 7]⟩ ::
 []))
.ret))⟩
abbrev f_room_Room_Give : Nat := 26
abbrev C_room_Room_Give : AFunc := C26
def C27 : AFunc := ⟨33, [.tmp 4],
(.seq (.ops (⟨(some 4), none, .p .mov, [.c (.bool false)]⟩ ::
 []))
(.seq (.seq (.ops (⟨(some 8), none, .p .mov, [.t 0]⟩ ::
 ⟨(some 9), none, .p .mov, [.t 1]⟩ ::
 ⟨(some 10), none, .call, [.c (.func (.func 46) [] []), .t 8, .t 9]⟩ ::
 ⟨(some 7), none, .p .mov, [.t 10]⟩ ::
 ⟨(some 11), none, .p (.ext 0), [.t 7]⟩ ::
 ⟨(some 12), none, .p (.ext 1), [.t 7]⟩ ::
 ⟨(some 5), none, .p .mov, [.t 11]⟩ ::
 ⟨(some 6), none, .p .mov, [.t 12]⟩ ::
 []))
(.seq (.ops (⟨(some 13), none, .p .mov, [.t 6]⟩ ::
 ⟨(some 14), none, .p (.bin .neq), [.t 13, .c (.int .i64 0)]⟩ ::
 []))
(.cond (.t 14)
(.seq (.ops (⟨(some 4), none, .p .mov, [.c (.bool false)]⟩ ::
 []))
.ret)
.skip)))
(.seq (.ops (⟨(some 15), none, .p .mov, [.t 0]⟩ ::
 ⟨(some 16), none, .p .nilchk, [.t 15]⟩ ::
 ⟨(some 17), none, .p (.faddr 4), [.t 16]⟩ ::
 ⟨(some 18), none, .r .load1, [.t 17]⟩ ::
 ⟨(some 19), none, .p .mov, [.t 1]⟩ ::
 ⟨(some 20), none, .p (.iaddrS 1), [.t 18, .t 19]⟩ ::
 ⟨none, none, .e (.store 1), [.t 20, .c .nilp]⟩ ::
 []))
(.seq (.ops (⟨(some 21), none, .p .mov, [.t 0]⟩ ::
 ⟨(some 22), none, .p .nilchk, [.t 21]⟩ ::
 ⟨(some 23), none, .p (.faddr 1), [.t 22]⟩ ::
 ⟨(some 24), none, .r .load1, [.t 23]⟩ ::
 ⟨(some 25), none, .p .mov, [.t 1]⟩ ::
 ⟨(some 26), none, .call, [.c (.func (.func 92) [] []), .t 24, .t 25]⟩ ::
 []))
(.seq (.ops (⟨(some 27), none, .p .mov, [.t 0]⟩ ::
 ⟨(some 28), none, .p .nilchk, [.t 27]⟩ ::
 ⟨(some 29), none, .p (.faddr 0), [.t 28]⟩ ::
 ⟨(some 30), none, .r .load1, [.t 29]⟩ ::
 ⟨(some 31), none, .p .mov, [.t 1]⟩ ::
 ⟨(some 32), none, .call, [.c (.func (.func 93) [] []), .t 30, .t 31]⟩ ::
 []))
(.seq (.ops (⟨(some 4), none, .p .mov, [.c (.bool true)]⟩ ::
 []))
.ret))))))⟩
abbrev f_room_Room_End : Nat := 27
abbrev C_room_Room_End : AFunc := C27
def C28 : AFunc := ⟨70, [.tmp 8],
(.seq (.ops (⟨(some 8), none, .p .mov, [.c (.int .i64 0)]⟩ ::
 []))
(.seq (.seq (.ops (⟨(some 13), none, .p .mov, [.t 0]⟩ ::
 ⟨(some 14), none, .p .mov, [.t 1]⟩ ::
 ⟨(some 15), none, .call, [.c (.func (.func 94) [] []), .t 13, .t 14]⟩ ::
 ⟨(some 9), none, .p .mov, [.t 15]⟩ ::
 []))
(.seq (.ops (⟨(some 16), none, .p .mov, [.t 9]⟩ ::
 ⟨(some 17), none, .p (.bin .neq), [.t 16, .c (.int .i64 0)]⟩ ::
 []))
(.cond (.t 17)
(.seq (.ops (⟨(some 18), none, .p .mov, [.t 9]⟩ ::
 ⟨(some 8), none, .p .mov, [.t 18]⟩ ::
 []))
.ret)
.skip)))
(.seq (.seq (.ops (⟨(some 19), none, .p .mov, [.t 0]⟩ ::
 ⟨(some 20), none, .p .nilchk, [.t 19]⟩ ::
 ⟨(some 21), none, .p (.faddr 4), [.t 20]⟩ ::
 ⟨(some 22), none, .r .load1, [.t 21]⟩ ::
 ⟨(some 23), none, .p .mov, [.t 1]⟩ ::
 ⟨(some 24), none, .p (.iaddrS 1), [.t 22, .t 23]⟩ ::
 ⟨(some 25), none, .r .load1, [.t 24]⟩ ::
 ⟨(some 26), none, .p (.neq .nilptr), [.t 25, .c .nilp]⟩ ::
 []))
(.cond (.t 26)
(.seq (.ops (⟨(some 8), none, .p .mov, [.c (.int .i64 141)]⟩ ::
 []))
.ret)
.skip))
(.seq (.ops (⟨(some 28), none, .p .mov, [.t 0]⟩ ::
 ⟨(some 29), none, .p .nilchk, [.t 28]⟩ ::
 ⟨(some 30), none, .p (.faddr 2), [.t 29]⟩ ::
 ⟨(some 31), none, .r .load1, [.t 30]⟩ ::
 ⟨(some 32), none, .p .mov, [.t 1]⟩ ::
 ⟨(some 33), none, .p (.iaddrS 8), [.t 31, .t 32]⟩ ::
 ⟨(some 34), none, .r (.loadN 8), [.t 33]⟩ ::
 ⟨(some 35), none, .p .mov, [.t 2]⟩ ::
 ⟨(some 36), none, .p .mov, [.t 3]⟩ ::
 ⟨(some 37), none, .call, [.c (.func (.func 95) [] []), .t 34, .t 35, .t 36]⟩ ::
 ⟨(some 27), none, .p .mov, [.t 37]⟩ ::
 ⟨(some 38), none, .p (.ext 0), [.t 27]⟩ ::
 ⟨(some 39), none, .p (.ext 1), [.t 27]⟩ ::
 ⟨(some 10), none, .p .mov, [.t 38]⟩ ::
 ⟨(some 11), none, .p .mov, [.t 39]⟩ ::
 []))
(.seq (.seq (.ops (⟨(some 40), none, .p .mov, [.t 11]⟩ ::
 ⟨(some 41), none, .p (.bin .neq), [.t 40, .c (.int .i64 0)]⟩ ::
 []))
(.cond (.t 41)
(.seq (.ops (⟨(some 42), none, .p .mov, [.t 11]⟩ ::
 ⟨(some 8), none, .p .mov, [.t 42]⟩ ::
 []))
.ret)
.skip))
(.seq (.seq (.ops (⟨(some 43), none, .p .mov, [.t 0]⟩ ::
 ⟨(some 44), none, .p .nilchk, [.t 43]⟩ ::
 ⟨(some 45), none, .p (.faddr 3), [.t 44]⟩ ::
 ⟨(some 46), none, .r .load1, [.t 45]⟩ ::
 ⟨(some 47), none, .p .mov, [.t 1]⟩ ::
 ⟨(some 48), none, .p (.iaddrS 1), [.t 46, .t 47]⟩ ::
 ⟨(some 49), none, .r .load1, [.t 48]⟩ ::
 ⟨(some 50), none, .p .mov, [.t 3]⟩ ::
 ⟨(some 51), none, .call, [.c (.func (.func 96) [] []), .t 49, .t 50]⟩ ::
 ⟨(some 12), none, .p .mov, [.t 51]⟩ ::
 []))
(.seq (.ops (⟨(some 52), none, .p .mov, [.t 12]⟩ ::
 ⟨(some 53), none, .p (.bin .neq), [.t 52, .c (.int .i64 0)]⟩ ::
 []))
(.cond (.t 53)
(.seq (.ops (⟨(some 54), none, .p .mov, [.t 12]⟩ ::
 ⟨(some 8), none, .p .mov, [.t 54]⟩ ::
 []))
.ret)
.skip)))
(.seq (.ops (⟨(some 55), none, .p .mov, [.t 0]⟩ ::
 ⟨(some 56), none, .p .nilchk, [.t 55]⟩ ::
 ⟨(some 57), none, .p (.faddr 4), [.t 56]⟩ ::
 ⟨(some 58), none, .r .load1, [.t 57]⟩ ::
 ⟨(some 59), none, .p .mov, [.t 1]⟩ ::
 ⟨(some 60), none, .p .mov, [.t 10]⟩ ::
 ⟨(some 61), none, .p (.iaddrS 1), [.t 58, .t 59]⟩ ::
 ⟨none, none, .e (.store 1), [.t 61, .t 60]⟩ ::
 []))
(.seq (.dops (⟨(some 62), none, .p .mov, [.t 0]⟩ ::
 ⟨(some 63), none, .p .nilchk, [.t 62]⟩ ::
 ⟨(some 64), none, .p (.faddr 1), [.t 63]⟩ ::
 ⟨(some 65), none, .r .load1, [.t 64]⟩ ::
 ⟨(some 66), none, .p .mov, [.t 1]⟩ ::
 ⟨(some 67), none, .p .mov, [.t 10]⟩ ::
 ⟨(some 68), none, .call, [.c (.func (.func 47) [] []), .t 67]⟩ ::
 ⟨(some 69), none, .call, [.c (.func (.func 97) [] []), .t 65, .t 66, .t 68]⟩ ::
 ⟨(some 8), none, .p .mov, [.t 69]⟩ ::
 []) ([] :: [] :: [] :: [0, 7] :: [] :: [] :: [] :: [] :: [] :: []))
.ret))))))))⟩
abbrev f_room_Room_Release : Nat := 28
abbrev C_room_Room_Release : AFunc := C28
def C29 : AFunc := ⟨17, [.tmp 4],
(.seq (.ops (⟨(some 4), none, .p .mov, [.c (.int .i64 0)]⟩ ::
 []))
(.seq (.seq (.ops (⟨(some 5), none, .p .mov, [.t 0]⟩ ::
 ⟨(some 6), none, .p .mov, [.t 1]⟩ ::
 ⟨(some 7), none, .call, [.c (.func (.func 94) [] []), .t 5, .t 6]⟩ ::
 ⟨(some 8), none, .p (.bin .neq), [.t 7, .c (.int .i64 0)]⟩ ::
 []))
(.cond (.t 8)
(.seq (.ops (⟨(some 4), none, .p .mov, [.c (.int .i64 0)]⟩ ::
 []))
.ret)
.skip))
(.seq (.ops (⟨(some 9), none, .p .mov, [.t 0]⟩ ::
 ⟨(some 10), none, .p .nilchk, [.t 9]⟩ ::
 ⟨(some 11), none, .p (.faddr 3), [.t 10]⟩ ::
 ⟨(some 12), none, .r .load1, [.t 11]⟩ ::
 ⟨(some 13), none, .p .mov, [.t 1]⟩ ::
 ⟨(some 14), none, .p (.iaddrS 1), [.t 12, .t 13]⟩ ::
 ⟨(some 15), none, .r .load1, [.t 14]⟩ ::
 ⟨(some 16), none, .call, [.c (.func (.func 98) [] []), .t 15]⟩ ::
 ⟨(some 4), none, .p .mov, [.t 16]⟩ ::
 []))
.ret)))⟩
abbrev f_room_Room_Earliest : Nat := 29
abbrev C_room_Room_Earliest : AFunc := C29
def L_room_Room_Sole_0 : AC := (.seq (.ops (⟨(some 16), none, .p (.bin .lss), [.t 15, .t 14]⟩ ::
 []))
(.seq (.cond (.t 16)
.skip
(.exit 0))
(.seq (.block 1 (.seq (.ops (⟨(some 17), none, .p .mov, [.t 15]⟩ ::
 ⟨(some 18), none, .p (.iaddrS 1), [.t 13, .t 15]⟩ ::
 ⟨(some 19), none, .r .load1, [.t 18]⟩ ::
 ⟨(some 5), none, .p .mov, [.t 17]⟩ ::
 ⟨(some 6), none, .p .mov, [.t 19]⟩ ::
 []))
(.seq (.ops (⟨(some 20), none, .p .mov, [.t 6]⟩ ::
 ⟨(some 21), none, .call, [.c (.func (.func 83) [] []), .t 20]⟩ ::
 ⟨(some 7), none, .p .mov, [.t 21]⟩ ::
 []))
(.seq (.ops (⟨(some 22), none, .p .mov, [.t 7]⟩ ::
 ⟨(some 23), none, .p (.bin .geq), [.t 22, .c (.int .i64 2)]⟩ ::
 []))
(.cond (.t 23)
(.seq (.ops (⟨(some 24), none, .p .mov, [.t 5]⟩ ::
 ⟨(some 25), none, .p .mov, [.t 7]⟩ ::
 ⟨(some 2), none, .p .mov, [.t 24]⟩ ::
 ⟨(some 3), none, .p .mov, [.t 25]⟩ ::
 ⟨(some 4), none, .p .mov, [.c (.bool true)]⟩ ::
 []))
.ret)
.skip)))))
(.ops (⟨(some 26), none, .p (.bin .add), [.t 15, .c (.int .i64 1)]⟩ ::
 ⟨(some 15), none, .p .mov, [.t 26]⟩ ::
 [])))))
def C30 : AFunc := ⟨27, [.tmp 2, .tmp 3, .tmp 4],
(.seq (.ops (⟨(some 2), none, .p .mov, [.c (.int .i64 0)]⟩ ::
 ⟨(some 3), none, .p .mov, [.c (.int .i64 0)]⟩ ::
 ⟨(some 4), none, .p .mov, [.c (.bool false)]⟩ ::
 []))
(.seq (.seq (.ops (⟨(some 8), none, .p .mov, [.t 0]⟩ ::
 ⟨(some 9), none, .call, [.c (.func (.func 49) [] []), .t 8]⟩ ::
 []))
(.cond (.t 9)
(.seq (.ops (⟨(some 2), none, .p .mov, [.c (.int .i64 0)]⟩ ::
 ⟨(some 3), none, .p .mov, [.c (.int .i64 0)]⟩ ::
 ⟨(some 4), none, .p .mov, [.c (.bool false)]⟩ ::
 []))
.ret)
.skip))
(.seq (.seq (.ops (⟨(some 10), none, .p .mov, [.t 0]⟩ ::
 ⟨(some 11), none, .p .nilchk, [.t 10]⟩ ::
 ⟨(some 12), none, .p (.faddr 4), [.t 11]⟩ ::
 ⟨(some 13), none, .r .load1, [.t 12]⟩ ::
 ⟨(some 14), none, .p .lenS, [.t 13]⟩ ::
 ⟨(some 15), none, .p .mov, [.c (.int .i64 0)]⟩ ::
 []))
(.block 0 (.loop L_room_Room_Sole_0)))
(.seq (.ops (⟨(some 2), none, .p .mov, [.c (.int .i64 0)]⟩ ::
 ⟨(some 3), none, .p .mov, [.c (.int .i64 0)]⟩ ::
 ⟨(some 4), none, .p .mov, [.c (.bool false)]⟩ ::
 []))
.ret))))⟩
abbrev f_room_Room_Sole : Nat := 30
abbrev C_room_Room_Sole : AFunc := C30
def C31 : AFunc := ⟨18, [.tmp 4],
(.seq (.ops (⟨(some 4), none, .p .mov, [.c (.bool false)]⟩ ::
 []))
(.seq (.ops (⟨(some 8), none, .p .mov, [.t 0]⟩ ::
 ⟨(some 9), none, .call, [.c (.func (.func 15) [] []), .t 8]⟩ ::
 ⟨(some 7), none, .p .mov, [.t 9]⟩ ::
 ⟨(some 10), none, .p (.ext 0), [.t 7]⟩ ::
 ⟨(some 11), none, .p (.ext 1), [.t 7]⟩ ::
 ⟨(some 5), none, .p .mov, [.t 10]⟩ ::
 ⟨(some 6), none, .p .mov, [.t 11]⟩ ::
 []))
(.seq (.ops (⟨(some 12), none, .p .mov, [.t 5]⟩ ::
 ⟨(some 13), none, .p .mov, [.t 1]⟩ ::
 ⟨(some 14), none, .p (.bin .eql), [.t 12, .t 13]⟩ ::
 ⟨(some 15), none, .p .mov, [.t 14]⟩ ::
 ⟨(some 16), (some (15, true)), .p .mov, [.t 6]⟩ ::
 ⟨(some 17), none, .p .pick, [.t 15, .t 16, .c (.bool false)]⟩ ::
 ⟨(some 4), none, .p .mov, [.t 17]⟩ ::
 []))
.ret)))⟩
abbrev f_escapementlaw18_who : Nat := 31
abbrev C_escapementlaw18_who : AFunc := C31
def C32 : AFunc := ⟨20, [.tmp 6],
(.seq (.ops (⟨(some 6), none, .p .mov, [.c (.int .i64 0)]⟩ ::
 []))
(.seq (.ops (⟨(some 10), none, .p .mov, [.t 0]⟩ ::
 ⟨(some 11), none, .p .mov, [.t 1]⟩ ::
 ⟨(some 12), none, .call, [.c (.func (.func 46) [] []), .t 10, .t 11]⟩ ::
 ⟨(some 9), none, .p .mov, [.t 12]⟩ ::
 ⟨(some 13), none, .p (.ext 0), [.t 9]⟩ ::
 ⟨(some 14), none, .p (.ext 1), [.t 9]⟩ ::
 ⟨(some 7), none, .p .mov, [.t 13]⟩ ::
 ⟨(some 8), none, .p .mov, [.t 14]⟩ ::
 []))
(.seq (.seq (.ops (⟨(some 15), none, .p .mov, [.t 8]⟩ ::
 ⟨(some 16), none, .p (.bin .neq), [.t 15, .c (.int .i64 0)]⟩ ::
 []))
(.cond (.t 16)
(.seq (.ops (⟨(some 6), none, .p .mov, [.c (.int .i64 0)]⟩ ::
 []))
.ret)
.skip))
(.seq (.ops (⟨(some 17), none, .p .mov, [.t 7]⟩ ::
 ⟨(some 18), none, .p .mov, [.t 2]⟩ ::
 ⟨(some 19), none, .call, [.c (.func (.func 99) [] []), .t 17, .t 18]⟩ ::
 ⟨(some 6), none, .p .mov, [.t 19]⟩ ::
 []))
.ret))))⟩
abbrev f_room_Room_Fault : Nat := 32
abbrev C_room_Room_Fault : AFunc := C32
def L_escapementref00_EqInts_0 : AC := (.seq (.seq (.ops (⟨(some 11), none, .p .mov, [.t 5]⟩ ::
 ⟨(some 12), none, .p .mov, [.t 0]⟩ ::
 ⟨(some 13), none, .p .lenS, [.t 12]⟩ ::
 ⟨(some 14), none, .p (.bin .lss), [.t 11, .t 13]⟩ ::
 []))
(.cond (.t 14)
.skip
(.exit 0)))
(.seq (.block 1 (.seq (.dops (⟨(some 17), none, .p .mov, [.t 0]⟩ ::
 ⟨(some 18), none, .p .mov, [.t 5]⟩ ::
 ⟨(some 19), none, .p (.iaddrS 1), [.t 17, .t 18]⟩ ::
 ⟨(some 20), none, .r .load1, [.t 19]⟩ ::
 ⟨(some 21), none, .p .mov, [.t 1]⟩ ::
 ⟨(some 22), none, .p .mov, [.t 5]⟩ ::
 ⟨(some 23), none, .p (.iaddrS 1), [.t 21, .t 22]⟩ ::
 ⟨(some 24), none, .r .load1, [.t 23]⟩ ::
 ⟨(some 25), none, .p (.bin .neq), [.t 20, .t 24]⟩ ::
 []) ([] :: [] :: [] :: [] :: [] :: [] :: [] :: [] :: [] :: []))
(.cond (.t 25)
(.seq (.ops (⟨(some 4), none, .p .mov, [.c (.bool false)]⟩ ::
 []))
.ret)
.skip)))
(.ops (⟨(some 15), none, .p .mov, [.t 5]⟩ ::
 ⟨(some 16), none, .p (.bin .add), [.t 15, .c (.int .i64 1)]⟩ ::
 ⟨(some 5), none, .p .mov, [.t 16]⟩ ::
 []))))
def C33 : AFunc := ⟨26, [.tmp 4],
(.seq (.ops (⟨(some 4), none, .p .mov, [.c (.bool false)]⟩ ::
 []))
(.seq (.seq (.ops (⟨(some 6), none, .p .mov, [.t 0]⟩ ::
 ⟨(some 7), none, .p .lenS, [.t 6]⟩ ::
 ⟨(some 8), none, .p .mov, [.t 1]⟩ ::
 ⟨(some 9), none, .p .lenS, [.t 8]⟩ ::
 ⟨(some 10), none, .p (.bin .neq), [.t 7, .t 9]⟩ ::
 []))
(.cond (.t 10)
(.seq (.ops (⟨(some 4), none, .p .mov, [.c (.bool false)]⟩ ::
 []))
.ret)
.skip))
(.seq (.seq (.ops (⟨(some 5), none, .p .mov, [.c (.int .i64 0)]⟩ ::
 []))
(.block 0 (.loop L_escapementref00_EqInts_0)))
(.seq (.ops (⟨(some 4), none, .p .mov, [.c (.bool true)]⟩ ::
 []))
.ret))))⟩
abbrev f_escapementref00_EqInts : Nat := 33
abbrev C_escapementref00_EqInts : AFunc := C33
def C34 : AFunc := ⟨10, [.tmp 2],
(.seq (.ops (⟨(some 2), none, .p .mov, [.c .nils]⟩ ::
 []))
(.seq (.seq (.ops (⟨(some 3), none, .p .mov, [.t 0]⟩ ::
 ⟨(some 4), none, .call, [.c (.func (.func 49) [] []), .t 3]⟩ ::
 []))
(.cond (.t 4)
(.seq (.ops (⟨(some 2), none, .p .mov, [.c .nils]⟩ ::
 []))
.ret)
.skip))
(.seq (.ops (⟨(some 5), none, .p .mov, [.t 0]⟩ ::
 ⟨(some 6), none, .p .nilchk, [.t 5]⟩ ::
 ⟨(some 7), none, .p (.faddr 1), [.t 6]⟩ ::
 ⟨(some 8), none, .r .load1, [.t 7]⟩ ::
 ⟨(some 9), none, .call, [.c (.func (.func 100) [] []), .t 8]⟩ ::
 ⟨(some 2), none, .p .mov, [.t 9]⟩ ::
 []))
.ret)))⟩
abbrev f_room_Room_Jobs : Nat := 34
abbrev C_room_Room_Jobs : AFunc := C34
def C35 : AFunc := ⟨21, [.cell 4 3 true, .tmp 5],
(.seq (.ops (⟨(some 4), none, .a (.alloc [(.int .i64 0), (.int .i64 0), (.str [])]), []⟩ ::
 ⟨(some 5), none, .p .mov, [.c (.bool false)]⟩ ::
 []))
(.seq (.ops (⟨(some 9), none, .p .mov, [.t 0]⟩ ::
 ⟨(some 10), none, .p .mov, [.t 1]⟩ ::
 ⟨(some 11), none, .call, [.c (.func (.func 46) [] []), .t 9, .t 10]⟩ ::
 ⟨(some 8), none, .p .mov, [.t 11]⟩ ::
 ⟨(some 12), none, .p (.ext 0), [.t 8]⟩ ::
 ⟨(some 13), none, .p (.ext 1), [.t 8]⟩ ::
 ⟨(some 6), none, .p .mov, [.t 12]⟩ ::
 ⟨(some 7), none, .p .mov, [.t 13]⟩ ::
 []))
(.seq (.seq (.ops (⟨(some 14), none, .p .mov, [.t 7]⟩ ::
 ⟨(some 15), none, .p (.bin .neq), [.t 14, .c (.int .i64 0)]⟩ ::
 []))
(.cond (.t 15)
(.seq (.ops (⟨(some 16), none, .p (.build [(.int .i64 0), (.int .i64 0), (.str [])] []), []⟩ ::
 ⟨none, none, .e (.store 3), [.t 4, .t 16]⟩ ::
 ⟨(some 5), none, .p .mov, [.c (.bool false)]⟩ ::
 []))
.ret)
.skip))
(.seq (.ops (⟨(some 17), none, .p .mov, [.t 6]⟩ ::
 ⟨(some 18), none, .call, [.c (.func (.func 101) [] []), .t 17]⟩ ::
 ⟨(some 19), none, .p (.ext 0), [.t 18]⟩ ::
 ⟨(some 20), none, .p (.ext 1), [.t 18]⟩ ::
 ⟨none, none, .e (.store 3), [.t 4, .t 19]⟩ ::
 ⟨(some 5), none, .p .mov, [.t 20]⟩ ::
 []))
.ret))))⟩
abbrev f_room_Room_Next : Nat := 35
abbrev C_room_Room_Next : AFunc := C35
def C36 : AFunc := ⟨8, [.tmp 2],
(.seq (.ops (⟨(some 2), none, .p .mov, [.c .nils]⟩ ::
 []))
(.seq (.seq (.ops (⟨(some 3), none, .p .mov, [.t 0]⟩ ::
 ⟨(some 4), none, .p (.eq .nilsl), [.t 3, .c .nils]⟩ ::
 []))
(.cond (.t 4)
(.seq (.ops (⟨(some 2), none, .p .mov, [.c .nils]⟩ ::
 []))
.ret)
.skip))
(.seq (.ops (⟨(some 5), none, .a (.bslice [(.int .i64 0), (.int .i64 0), (.int .i64 0), (.int .i64 0), (.int .i64 0), (.int .i64 0), (.int .i64 0), (.int .i64 0)] 0 8 []), []⟩ ::
 ⟨(some 6), none, .p .mov, [.t 0]⟩ ::
 ⟨(some 7), none, .e (.append 8 64), [.t 5, .t 6]⟩ ::
 ⟨(some 2), none, .p .mov, [.t 7]⟩ ::
 []))
.ret)))⟩
abbrev f_slices_Clone_api_Task_api_Task : Nat := 36
abbrev C_slices_Clone_api_Task_api_Task : AFunc := C36
def C37 : AFunc := ⟨10, [.tmp 2, .tmp 3],
(.seq (.ops (⟨(some 2), none, .p .mov, [.c .nilp]⟩ ::
 ⟨(some 3), none, .p .mov, [.c (.int .i64 0)]⟩ ::
 []))
(.seq (.seq (.ops (⟨(some 4), none, .p .mov, [.t 0]⟩ ::
 ⟨(some 5), none, .call, [.c (.func (.func 102) [] []), .t 4]⟩ ::
 ⟨(some 6), none, .p .not, [.t 5]⟩ ::
 []))
(.cond (.t 6)
(.seq (.ops (⟨(some 2), none, .p .mov, [.c .nilp]⟩ ::
 ⟨(some 3), none, .p .mov, [.c (.int .i64 2)]⟩ ::
 []))
.ret)
.skip))
(.seq (.ops (⟨(some 7), none, .p .mov, [.t 0]⟩ ::
 ⟨(some 8), none, .p (.build [(.int .i64 0), (.int .i64 0)] [(0, 1)]), [.t 7]⟩ ::
 ⟨(some 9), none, .a .box, [.t 8]⟩ ::
 ⟨(some 2), none, .p .mov, [.t 9]⟩ ::
 ⟨(some 3), none, .p .mov, [.c (.int .i64 0)]⟩ ::
 []))
.ret)))⟩
abbrev f_spore_New : Nat := 37
abbrev C_spore_New : AFunc := C37
def C38 : AFunc := ⟨11, [.tmp 2, .tmp 3],
(.seq (.ops (⟨(some 2), none, .p .mov, [.c .nilp]⟩ ::
 ⟨(some 3), none, .p .mov, [.c (.int .i64 0)]⟩ ::
 []))
(.seq (.seq (.ops (⟨(some 4), none, .p .mov, [.t 0]⟩ ::
 ⟨(some 5), none, .p .lenS, [.t 4]⟩ ::
 ⟨(some 6), none, .p (.bin .gtr), [.t 5, .c (.int .i64 4)]⟩ ::
 []))
(.cond (.t 6)
(.seq (.ops (⟨(some 2), none, .p .mov, [.c .nilp]⟩ ::
 ⟨(some 3), none, .p .mov, [.c (.int .i64 5)]⟩ ::
 []))
.ret)
.skip))
(.seq (.ops (⟨(some 7), none, .p .mov, [.t 0]⟩ ::
 ⟨(some 8), none, .call, [.c (.func (.func 36) [] []), .t 7]⟩ ::
 ⟨(some 9), none, .p (.build [.nils, .nils, (.bool false)] [(0, 1), (2, 1)]), [.t 8, .c (.bool true)]⟩ ::
 ⟨(some 10), none, .a .box, [.t 9]⟩ ::
 ⟨(some 2), none, .p .mov, [.t 10]⟩ ::
 ⟨(some 3), none, .p .mov, [.c (.int .i64 0)]⟩ ::
 []))
.ret)))⟩
abbrev f_stack_New : Nat := 38
abbrev C_stack_New : AFunc := C38
def C39 : AFunc := ⟨14, [.tmp 2, .tmp 3],
(.seq (.ops (⟨(some 2), none, .p .mov, [.c .nilp]⟩ ::
 ⟨(some 3), none, .p .mov, [.c (.int .i64 0)]⟩ ::
 []))
(.seq (.seq (.ops (⟨(some 4), none, .p .mov, [.t 0]⟩ ::
 ⟨(some 5), none, .p (.bin .lss), [.t 4, .c (.int .i64 0)]⟩ ::
 ⟨(some 6), none, .p .mov, [.t 5]⟩ ::
 ⟨(some 7), (some (6, false)), .p .mov, [.t 0]⟩ ::
 ⟨(some 8), (some (6, false)), .p (.bin .gtr), [.t 7, .c (.int .i64 4)]⟩ ::
 ⟨(some 9), none, .p .pick, [.t 6, .c (.bool true), .t 8]⟩ ::
 []))
(.cond (.t 9)
(.seq (.ops (⟨(some 2), none, .p .mov, [.c .nilp]⟩ ::
 ⟨(some 3), none, .p .mov, [.c (.int .i64 2)]⟩ ::
 []))
.ret)
.skip))
(.seq (.ops (⟨(some 10), none, .call, [.c (.func (.func 103) [] [])]⟩ ::
 ⟨(some 11), none, .p .mov, [.t 0]⟩ ::
 ⟨(some 12), none, .p (.build [.nilp, (.int .i64 0)] [(0, 1), (1, 1)]), [.t 10, .t 11]⟩ ::
 ⟨(some 13), none, .a .box, [.t 12]⟩ ::
 ⟨(some 2), none, .p .mov, [.t 13]⟩ ::
 ⟨(some 3), none, .p .mov, [.c (.int .i64 0)]⟩ ::
 []))
.ret)))⟩
abbrev f_ready_New : Nat := 39
abbrev C_ready_New : AFunc := C39
def C40 : AFunc := ⟨9, [.tmp 4],
(.seq (.ops (⟨(some 4), none, .p .mov, [.c (.bool false)]⟩ ::
 []))
(.seq (.ops (⟨(some 5), none, .p .mov, [.t 0]⟩ ::
 ⟨(some 6), none, .p .mov, [.t 1]⟩ ::
 ⟨(some 7), none, .call, [.c (.func (.func 104) [] []), .t 5, .t 6]⟩ ::
 ⟨(some 8), none, .p (.bin .geq), [.t 7, .c (.int .i64 0)]⟩ ::
 ⟨(some 4), none, .p .mov, [.t 8]⟩ ::
 []))
.ret))⟩
abbrev f_slices_ContainsFunc_int_int : Nat := 40
abbrev C_slices_ContainsFunc_int_int : AFunc := C40
def C41 : AFunc := ⟨9, [.tmp 2],
(.seq (.ops (⟨(some 2), none, .p .mov, [.c (.bool false)]⟩ ::
 []))
(.seq (.ops (⟨(some 3), none, .p .mov, [.t 0]⟩ ::
 ⟨(some 4), none, .p (.bin .lss), [.t 3, .c (.int .i64 0)]⟩ ::
 ⟨(some 5), none, .p .mov, [.t 4]⟩ ::
 ⟨(some 6), (some (5, false)), .p .mov, [.t 0]⟩ ::
 ⟨(some 7), (some (5, false)), .p (.bin .gtr), [.t 6, .c (.int .i64 32768)]⟩ ::
 ⟨(some 8), none, .p .pick, [.t 5, .c (.bool true), .t 7]⟩ ::
 ⟨(some 2), none, .p .mov, [.t 8]⟩ ::
 []))
.ret))⟩
abbrev f_demand_Check_1 : Nat := 41
abbrev C_demand_Check_1 : AFunc := C41
def C42 : AFunc := ⟨11, [.tmp 2],
(.seq (.ops (⟨(some 2), none, .p .mov, [.c (.bool false)]⟩ ::
 []))
(.seq (.ops (⟨(some 3), none, .p .mov, [.t 0]⟩ ::
 ⟨(some 4), none, .p .lenS, [.t 3]⟩ ::
 ⟨(some 5), none, .p (.bin .leq), [.t 4, .c (.int .i64 4)]⟩ ::
 ⟨(some 6), none, .p .mov, [.t 5]⟩ ::
 ⟨(some 7), (some (6, true)), .p .mov, [.t 0]⟩ ::
 ⟨(some 8), (some (6, true)), .call, [.c (.func (.func 105) [] []), .t 7, .c (.func (.func 106) [] [])]⟩ ::
 ⟨(some 9), (some (6, true)), .p .not, [.t 8]⟩ ::
 ⟨(some 10), none, .p .pick, [.t 6, .t 9, .c (.bool false)]⟩ ::
 ⟨(some 2), none, .p .mov, [.t 10]⟩ ::
 []))
.ret))⟩
abbrev f_demand_all : Nat := 42
abbrev C_demand_all : AFunc := C42
def C46 : AFunc := ⟨28, [.tmp 4, .tmp 5],
(.seq (.ops (⟨(some 4), none, .p .mov, [.c .nilp]⟩ ::
 ⟨(some 5), none, .p .mov, [.c (.int .i64 0)]⟩ ::
 []))
(.seq (.seq (.ops (⟨(some 7), none, .p .mov, [.t 0]⟩ ::
 ⟨(some 8), none, .p .mov, [.t 1]⟩ ::
 ⟨(some 9), none, .call, [.c (.func (.func 94) [] []), .t 7, .t 8]⟩ ::
 ⟨(some 6), none, .p .mov, [.t 9]⟩ ::
 []))
(.seq (.ops (⟨(some 10), none, .p .mov, [.t 6]⟩ ::
 ⟨(some 11), none, .p (.bin .neq), [.t 10, .c (.int .i64 0)]⟩ ::
 []))
(.cond (.t 11)
(.seq (.ops (⟨(some 12), none, .p .mov, [.t 6]⟩ ::
 ⟨(some 4), none, .p .mov, [.c .nilp]⟩ ::
 ⟨(some 5), none, .p .mov, [.t 12]⟩ ::
 []))
.ret)
.skip)))
(.seq (.seq (.ops (⟨(some 13), none, .p .mov, [.t 0]⟩ ::
 ⟨(some 14), none, .p .nilchk, [.t 13]⟩ ::
 ⟨(some 15), none, .p (.faddr 4), [.t 14]⟩ ::
 ⟨(some 16), none, .r .load1, [.t 15]⟩ ::
 ⟨(some 17), none, .p .mov, [.t 1]⟩ ::
 ⟨(some 18), none, .p (.iaddrS 1), [.t 16, .t 17]⟩ ::
 ⟨(some 19), none, .r .load1, [.t 18]⟩ ::
 ⟨(some 20), none, .p (.eq .nilptr), [.t 19, .c .nilp]⟩ ::
 []))
(.cond (.t 20)
(.seq (.ops (⟨(some 4), none, .p .mov, [.c .nilp]⟩ ::
 ⟨(some 5), none, .p .mov, [.c (.int .i64 250)]⟩ ::
 []))
.ret)
.skip))
(.seq (.ops (⟨(some 21), none, .p .mov, [.t 0]⟩ ::
 ⟨(some 22), none, .p .nilchk, [.t 21]⟩ ::
 ⟨(some 23), none, .p (.faddr 4), [.t 22]⟩ ::
 ⟨(some 24), none, .r .load1, [.t 23]⟩ ::
 ⟨(some 25), none, .p .mov, [.t 1]⟩ ::
 ⟨(some 26), none, .p (.iaddrS 1), [.t 24, .t 25]⟩ ::
 ⟨(some 27), none, .r .load1, [.t 26]⟩ ::
 ⟨(some 4), none, .p .mov, [.t 27]⟩ ::
 ⟨(some 5), none, .p .mov, [.c (.int .i64 0)]⟩ ::
 []))
.ret))))⟩
abbrev f_room_Room_of : Nat := 46
abbrev C_room_Room_of : AFunc := C46
def C47 : AFunc := ⟨9, [.tmp 2],
(.seq (.ops (⟨(some 2), none, .p .mov, [.c (.int .i64 0)]⟩ ::
 []))
(.seq (.seq (.ops (⟨(some 3), none, .p .mov, [.t 0]⟩ ::
 ⟨(some 4), none, .call, [.c (.func (.func 108) [] []), .t 3]⟩ ::
 []))
(.cond (.t 4)
(.seq (.ops (⟨(some 2), none, .p .mov, [.c (.int .i64 0)]⟩ ::
 []))
.ret)
.skip))
(.seq (.ops (⟨(some 5), none, .p .mov, [.t 0]⟩ ::
 ⟨(some 6), none, .p .nilchk, [.t 5]⟩ ::
 ⟨(some 7), none, .p (.faddr 9), [.t 6]⟩ ::
 ⟨(some 8), none, .r .load1, [.t 7]⟩ ::
 ⟨(some 2), none, .p .mov, [.t 8]⟩ ::
 []))
.ret)))⟩
abbrev f_job_Job_Deadline : Nat := 47
abbrev C_job_Job_Deadline : AFunc := C47
def L_stack_Stack_Held_0 : AC := (.seq (.ops (⟨(some 18), none, .p (.bin .lss), [.t 17, .t 16]⟩ ::
 []))
(.seq (.cond (.t 18)
.skip
(.exit 0))
(.seq (.block 1 (.seq (.ops (⟨(some 19), none, .p (.iaddrS 2), [.t 15, .t 17]⟩ ::
 ⟨(some 20), none, .r (.loadN 2), [.t 19]⟩ ::
 ⟨(some 7), none, .a (.alloc [(.int .i64 0), (.int .i64 0)]), []⟩ ::
 ⟨none, none, .e (.store 2), [.t 7, .t 20]⟩ ::
 []))
(.seq (.ops (⟨(some 21), none, .p .mov, [.t 5]⟩ ::
 ⟨(some 22), none, .r (.loadN 2), [.t 7]⟩ ::
 ⟨(some 23), none, .call, [.t 21, .t 22]⟩ ::
 []))
(.cond (.t 23)
(.ops (⟨(some 24), none, .p .mov, [.t 4]⟩ ::
 ⟨(some 25), none, .p (.faddr 1), [.t 7]⟩ ::
 ⟨(some 26), none, .r .load1, [.t 25]⟩ ::
 ⟨(some 27), none, .a (.bslice [(.int .i64 0)] 1 1 [0]), [.t 26]⟩ ::
 ⟨(some 28), none, .e (.append 1 8), [.t 24, .t 27]⟩ ::
 ⟨(some 4), none, .p .mov, [.t 28]⟩ ::
 []))
.skip))))
(.ops (⟨(some 29), none, .p (.bin .add), [.t 17, .c (.int .i64 1)]⟩ ::
 ⟨(some 17), none, .p .mov, [.t 29]⟩ ::
 [])))))
def C48 : AFunc := ⟨31, [.tmp 4],
(.seq (.ops (⟨(some 4), none, .p .mov, [.c .nils]⟩ ::
 []))
(.seq (.seq (.ops (⟨(some 8), none, .p .mov, [.t 0]⟩ ::
 ⟨(some 9), none, .p (.eq .nilptr), [.t 8, .c .nilp]⟩ ::
 []))
(.cond (.t 9)
(.seq (.ops (⟨(some 4), none, .p .mov, [.c .nils]⟩ ::
 []))
.ret)
.skip))
(.seq (.ops (⟨(some 10), none, .p .mov, [.t 1]⟩ ::
 ⟨(some 11), none, .call, [.c (.func (.func 109) [] []), .t 10]⟩ ::
 ⟨(some 5), none, .p .mov, [.t 11]⟩ ::
 []))
(.seq (.seq (.ops (⟨(some 12), none, .p .mov, [.t 0]⟩ ::
 ⟨(some 13), none, .p .nilchk, [.t 12]⟩ ::
 ⟨(some 14), none, .p (.faddr 1), [.t 13]⟩ ::
 ⟨(some 15), none, .r .load1, [.t 14]⟩ ::
 ⟨(some 16), none, .p .lenS, [.t 15]⟩ ::
 ⟨(some 17), none, .p .mov, [.c (.int .i64 0)]⟩ ::
 []))
(.block 0 (.loop L_stack_Stack_Held_0)))
(.seq (.ops (⟨(some 30), none, .p .mov, [.t 4]⟩ ::
 ⟨(some 4), none, .p .mov, [.t 30]⟩ ::
 []))
.ret)))))⟩
abbrev f_stack_Stack_Held : Nat := 48
abbrev C_stack_Stack_Held : AFunc := C48
def C49 : AFunc := ⟨12, [.tmp 2],
(.seq (.ops (⟨(some 2), none, .p .mov, [.c (.bool false)]⟩ ::
 []))
(.seq (.ops (⟨(some 3), none, .p .mov, [.t 0]⟩ ::
 ⟨(some 4), none, .p (.eq .nilptr), [.t 3, .c .nilp]⟩ ::
 ⟨(some 5), none, .p .mov, [.t 4]⟩ ::
 ⟨(some 6), (some (5, false)), .p .mov, [.t 0]⟩ ::
 ⟨(some 7), (some (5, false)), .p .nilchk, [.t 6]⟩ ::
 ⟨(some 8), (some (5, false)), .p (.faddr 0), [.t 7]⟩ ::
 ⟨(some 9), (some (5, false)), .r .load1, [.t 8]⟩ ::
 ⟨(some 10), (some (5, false)), .p (.eq .nilptr), [.t 9, .c .nilp]⟩ ::
 ⟨(some 11), none, .p .pick, [.t 5, .c (.bool true), .t 10]⟩ ::
 ⟨(some 2), none, .p .mov, [.t 11]⟩ ::
 []))
.ret))⟩
abbrev f_room_Room_none : Nat := 49
abbrev C_room_Room_none : AFunc := C49
def C50 : AFunc := ⟨15, [.tmp 2, .tmp 3, .tmp 4],
(.seq (.ops (⟨(some 2), none, .p .mov, [.c (.int .i64 0)]⟩ ::
 ⟨(some 3), none, .p .mov, [.c (.int .i64 0)]⟩ ::
 ⟨(some 4), none, .p .mov, [.c (.bool false)]⟩ ::
 []))
(.seq (.seq (.ops (⟨(some 5), none, .p .mov, [.t 0]⟩ ::
 ⟨(some 6), none, .call, [.c (.func (.func 110) [] []), .t 5]⟩ ::
 []))
(.cond (.t 6)
(.seq (.ops (⟨(some 2), none, .p .mov, [.c (.int .i64 0)]⟩ ::
 ⟨(some 3), none, .p .mov, [.c (.int .i64 0)]⟩ ::
 ⟨(some 4), none, .p .mov, [.c (.bool false)]⟩ ::
 []))
.ret)
.skip))
(.seq (.ops (⟨(some 7), none, .p .mov, [.t 0]⟩ ::
 ⟨(some 8), none, .p .nilchk, [.t 7]⟩ ::
 ⟨(some 9), none, .p (.faddr 0), [.t 8]⟩ ::
 ⟨(some 10), none, .r .load1, [.t 9]⟩ ::
 ⟨(some 11), none, .call, [.c (.func (.func 111) [] []), .t 10]⟩ ::
 ⟨(some 12), none, .p (.ext 0), [.t 11]⟩ ::
 ⟨(some 13), none, .p (.ext 1), [.t 11]⟩ ::
 ⟨(some 14), none, .p (.ext 2), [.t 11]⟩ ::
 ⟨(some 2), none, .p .mov, [.t 12]⟩ ::
 ⟨(some 3), none, .p .mov, [.t 13]⟩ ::
 ⟨(some 4), none, .p .mov, [.t 14]⟩ ::
 []))
.ret)))⟩
abbrev f_ready_Queue_First : Nat := 50
abbrev C_ready_Queue_First : AFunc := C50
def C51 : AFunc := ⟨12, [.tmp 2],
(.seq (.ops (⟨(some 2), none, .p .mov, [.c (.bool false)]⟩ ::
 []))
(.seq (.ops (⟨(some 3), none, .p .mov, [.t 0]⟩ ::
 ⟨(some 4), none, .call, [.c (.func (.func 108) [] []), .t 3]⟩ ::
 ⟨(some 5), none, .p .not, [.t 4]⟩ ::
 ⟨(some 6), none, .p .mov, [.t 5]⟩ ::
 ⟨(some 7), (some (6, true)), .p .mov, [.t 0]⟩ ::
 ⟨(some 8), (some (6, true)), .p .nilchk, [.t 7]⟩ ::
 ⟨(some 9), (some (6, true)), .p (.faddr 14), [.t 8]⟩ ::
 ⟨(some 10), (some (6, true)), .r .load1, [.t 9]⟩ ::
 ⟨(some 11), none, .p .pick, [.t 6, .t 10, .c (.bool false)]⟩ ::
 ⟨(some 2), none, .p .mov, [.t 11]⟩ ::
 []))
.ret))⟩
abbrev f_job_Job_Begun : Nat := 51
abbrev C_job_Job_Begun : AFunc := C51
def L_level_Level_0 : AC := (.seq (.ops (⟨(some 19), none, .p (.bin .lss), [.t 18, .t 17]⟩ ::
 []))
(.seq (.cond (.t 19)
.skip
(.exit 0))
(.seq (.block 1 (.seq (.ops (⟨(some 20), none, .p (.iaddrS 8), [.t 16, .t 18]⟩ ::
 ⟨(some 21), none, .r (.loadN 8), [.t 20]⟩ ::
 ⟨(some 7), none, .a (.alloc [(.int .i64 0), (.int .i64 0), (.int .i64 0), (.int .i64 0), (.int .i64 0), (.int .i64 0), (.int .i64 0), (.int .i64 0)]), []⟩ ::
 ⟨none, none, .e (.store 8), [.t 7, .t 21]⟩ ::
 []))
(.seq (.dops (⟨(some 22), none, .p (.faddr 1), [.t 7]⟩ ::
 ⟨(some 23), none, .r .load1, [.t 22]⟩ ::
 ⟨(some 24), none, .p .mov, [.t 0]⟩ ::
 ⟨(some 25), none, .p .mov, [.t 1]⟩ ::
 ⟨(some 26), none, .p (.iaddrS 8), [.t 24, .t 25]⟩ ::
 ⟨(some 27), none, .p (.faddr 1), [.t 26]⟩ ::
 ⟨(some 28), none, .r .load1, [.t 27]⟩ ::
 ⟨(some 29), none, .p (.bin .gtr), [.t 23, .t 28]⟩ ::
 []) ([] :: [] :: [] :: [] :: [] :: [] :: [] :: [] :: []))
(.cond (.t 29)
(.ops (⟨(some 30), none, .p .mov, [.t 5]⟩ ::
 ⟨(some 31), none, .p (.bin .add), [.t 30, .c (.int .i64 1)]⟩ ::
 ⟨(some 5), none, .p .mov, [.t 31]⟩ ::
 []))
.skip))))
(.ops (⟨(some 32), none, .p (.bin .add), [.t 18, .c (.int .i64 1)]⟩ ::
 ⟨(some 18), none, .p .mov, [.t 32]⟩ ::
 [])))))
def C52 : AFunc := ⟨34, [.tmp 4],
(.seq (.ops (⟨(some 4), none, .p .mov, [.c (.int .i64 0)]⟩ ::
 []))
(.seq (.seq (.ops (⟨(some 8), none, .p .mov, [.t 1]⟩ ::
 ⟨(some 9), none, .p (.bin .lss), [.t 8, .c (.int .i64 0)]⟩ ::
 ⟨(some 10), none, .p .mov, [.t 9]⟩ ::
 ⟨(some 11), (some (10, false)), .p .mov, [.t 1]⟩ ::
 ⟨(some 12), (some (10, false)), .p .mov, [.t 0]⟩ ::
 ⟨(some 13), (some (10, false)), .p .lenS, [.t 12]⟩ ::
 ⟨(some 14), (some (10, false)), .p (.bin .geq), [.t 11, .t 13]⟩ ::
 ⟨(some 15), none, .p .pick, [.t 10, .c (.bool true), .t 14]⟩ ::
 []))
(.cond (.t 15)
(.seq (.ops (⟨(some 4), none, .p .mov, [.c (.int .i64 0)]⟩ ::
 []))
.ret)
.skip))
(.seq (.ops (⟨(some 5), none, .p .mov, [.c (.int .i64 1)]⟩ ::
 []))
(.seq (.seq (.ops (⟨(some 16), none, .p .mov, [.t 0]⟩ ::
 ⟨(some 17), none, .p .lenS, [.t 16]⟩ ::
 ⟨(some 18), none, .p .mov, [.c (.int .i64 0)]⟩ ::
 []))
(.block 0 (.loop L_level_Level_0)))
(.seq (.ops (⟨(some 33), none, .p .mov, [.t 5]⟩ ::
 ⟨(some 4), none, .p .mov, [.t 33]⟩ ::
 []))
.ret)))))⟩
abbrev f_level_Level : Nat := 52
abbrev C_level_Level : AFunc := C52
def L_stack_Stack_Ceiling_0 : AC := (.seq (.ops (⟨(some 13), none, .p (.bin .lss), [.t 12, .t 11]⟩ ::
 []))
(.seq (.cond (.t 13)
.skip
(.exit 0))
(.seq (.block 1 (.seq (.ops (⟨(some 14), none, .p (.iaddrS 2), [.t 10, .t 12]⟩ ::
 ⟨(some 15), none, .r (.loadN 2), [.t 14]⟩ ::
 ⟨(some 4), none, .a (.alloc [(.int .i64 0), (.int .i64 0)]), []⟩ ::
 ⟨none, none, .e (.store 2), [.t 4, .t 15]⟩ ::
 []))
(.dops (⟨(some 16), none, .p .mov, [.t 2]⟩ ::
 ⟨(some 17), none, .p .mov, [.t 0]⟩ ::
 ⟨(some 18), none, .p .nilchk, [.t 17]⟩ ::
 ⟨(some 19), none, .p (.faddr 0), [.t 18]⟩ ::
 ⟨(some 20), none, .r .load1, [.t 19]⟩ ::
 ⟨(some 21), none, .p (.faddr 1), [.t 4]⟩ ::
 ⟨(some 22), none, .r .load1, [.t 21]⟩ ::
 ⟨(some 23), none, .call, [.c (.func (.func 112) [] []), .t 20, .t 22]⟩ ::
 ⟨(some 24), none, .p .mx, [.t 16, .t 23]⟩ ::
 ⟨(some 2), none, .p .mov, [.t 24]⟩ ::
 []) ([] :: [] :: [] :: [] :: [] :: [] :: [] :: [] :: [] :: [] :: []))))
(.ops (⟨(some 25), none, .p (.bin .add), [.t 12, .c (.int .i64 1)]⟩ ::
 ⟨(some 12), none, .p .mov, [.t 25]⟩ ::
 [])))))
def C53 : AFunc := ⟨27, [.tmp 2],
(.seq (.ops (⟨(some 2), none, .p .mov, [.c (.int .i64 0)]⟩ ::
 []))
(.seq (.seq (.ops (⟨(some 5), none, .p .mov, [.t 0]⟩ ::
 ⟨(some 6), none, .p (.eq .nilptr), [.t 5, .c .nilp]⟩ ::
 []))
(.cond (.t 6)
(.seq (.ops (⟨(some 2), none, .p .mov, [.c (.int .i64 0)]⟩ ::
 []))
.ret)
.skip))
(.seq (.seq (.ops (⟨(some 7), none, .p .mov, [.t 0]⟩ ::
 ⟨(some 8), none, .p .nilchk, [.t 7]⟩ ::
 ⟨(some 9), none, .p (.faddr 1), [.t 8]⟩ ::
 ⟨(some 10), none, .r .load1, [.t 9]⟩ ::
 ⟨(some 11), none, .p .lenS, [.t 10]⟩ ::
 ⟨(some 12), none, .p .mov, [.c (.int .i64 0)]⟩ ::
 []))
(.block 0 (.loop L_stack_Stack_Ceiling_0)))
(.seq (.ops (⟨(some 26), none, .p .mov, [.t 2]⟩ ::
 ⟨(some 2), none, .p .mov, [.t 26]⟩ ::
 []))
.ret))))⟩
abbrev f_stack_Stack_Ceiling : Nat := 53
abbrev C_stack_Stack_Ceiling : AFunc := C53
def C54 : AFunc := ⟨27, [.tmp 2, .tmp 3],
(.seq (.ops (⟨(some 2), none, .p .mov, [.c (.int .i64 0)]⟩ ::
 ⟨(some 3), none, .p .mov, [.c (.bool false)]⟩ ::
 []))
(.seq (.seq (.ops (⟨(some 4), none, .p .mov, [.t 0]⟩ ::
 ⟨(some 5), none, .p (.eq .nilptr), [.t 4, .c .nilp]⟩ ::
 ⟨(some 6), none, .p .mov, [.t 5]⟩ ::
 ⟨(some 7), (some (6, false)), .p .mov, [.t 0]⟩ ::
 ⟨(some 8), (some (6, false)), .p .nilchk, [.t 7]⟩ ::
 ⟨(some 9), (some (6, false)), .p (.faddr 1), [.t 8]⟩ ::
 ⟨(some 10), (some (6, false)), .r .load1, [.t 9]⟩ ::
 ⟨(some 11), (some (6, false)), .p .lenS, [.t 10]⟩ ::
 ⟨(some 12), (some (6, false)), .p (.bin .eql), [.t 11, .c (.int .i64 0)]⟩ ::
 ⟨(some 13), none, .p .pick, [.t 6, .c (.bool true), .t 12]⟩ ::
 []))
(.cond (.t 13)
(.seq (.ops (⟨(some 2), none, .p .mov, [.c (.int .i64 0)]⟩ ::
 ⟨(some 3), none, .p .mov, [.c (.bool false)]⟩ ::
 []))
.ret)
.skip))
(.seq (.dops (⟨(some 14), none, .p .mov, [.t 0]⟩ ::
 ⟨(some 15), none, .p .nilchk, [.t 14]⟩ ::
 ⟨(some 16), none, .p (.faddr 1), [.t 15]⟩ ::
 ⟨(some 17), none, .r .load1, [.t 16]⟩ ::
 ⟨(some 18), none, .p .mov, [.t 0]⟩ ::
 ⟨(some 19), none, .p .nilchk, [.t 18]⟩ ::
 ⟨(some 20), none, .p (.faddr 1), [.t 19]⟩ ::
 ⟨(some 21), none, .r .load1, [.t 20]⟩ ::
 ⟨(some 22), none, .p .lenS, [.t 21]⟩ ::
 ⟨(some 23), none, .p (.bin .sub), [.t 22, .c (.int .i64 1)]⟩ ::
 ⟨(some 24), none, .p (.iaddrS 2), [.t 17, .t 23]⟩ ::
 ⟨(some 25), none, .p (.faddr 0), [.t 24]⟩ ::
 ⟨(some 26), none, .r .load1, [.t 25]⟩ ::
 ⟨(some 2), none, .p .mov, [.t 26]⟩ ::
 ⟨(some 3), none, .p .mov, [.c (.bool true)]⟩ ::
 []) ([] :: [] :: [] :: [] :: [] :: [] :: [] :: [] :: [] :: [] :: [] :: [] :: [] :: [] :: [] :: []))
.ret)))⟩
abbrev f_stack_Stack_Top : Nat := 54
abbrev C_stack_Stack_Top : AFunc := C54
def C79 : AFunc := ⟨21, [.tmp 6],
(.seq (.ops (⟨(some 6), none, .p .mov, [.c (.int .i64 0)]⟩ ::
 []))
(.seq (.ops (⟨(some 10), none, .p .mov, [.t 0]⟩ ::
 ⟨(some 11), none, .p .mov, [.t 1]⟩ ::
 ⟨(some 12), none, .call, [.c (.func (.func 46) [] []), .t 10, .t 11]⟩ ::
 ⟨(some 9), none, .p .mov, [.t 12]⟩ ::
 ⟨(some 13), none, .p (.ext 0), [.t 9]⟩ ::
 ⟨(some 14), none, .p (.ext 1), [.t 9]⟩ ::
 ⟨(some 7), none, .p .mov, [.t 13]⟩ ::
 ⟨(some 8), none, .p .mov, [.t 14]⟩ ::
 []))
(.seq (.seq (.ops (⟨(some 15), none, .p .mov, [.t 8]⟩ ::
 ⟨(some 16), none, .p (.bin .neq), [.t 15, .c (.int .i64 0)]⟩ ::
 []))
(.cond (.t 16)
(.seq (.ops (⟨(some 17), none, .p .mov, [.t 8]⟩ ::
 ⟨(some 6), none, .p .mov, [.t 17]⟩ ::
 []))
.ret)
.skip))
(.seq (.ops (⟨(some 18), none, .p .mov, [.t 2]⟩ ::
 ⟨(some 19), none, .p .mov, [.t 7]⟩ ::
 ⟨(some 20), none, .call, [.t 18, .t 19]⟩ ::
 ⟨(some 6), none, .p .mov, [.t 20]⟩ ::
 []))
.ret))))⟩
abbrev f_room_Room_with : Nat := 79
abbrev C_room_Room_with : AFunc := C79
def C80 : AFunc := ⟨23, [.tmp 2],
(.seq (.ops (⟨(some 2), none, .p .mov, [.c (.int .i64 0)]⟩ ::
 []))
(.seq (.seq (.ops (⟨(some 4), none, .p .mov, [.t 0]⟩ ::
 ⟨(some 5), none, .call, [.c (.func (.func 108) [] []), .t 4]⟩ ::
 []))
(.cond (.t 5)
(.seq (.ops (⟨(some 2), none, .p .mov, [.c (.int .i64 1)]⟩ ::
 []))
.ret)
.skip))
(.seq (.ops (⟨(some 6), none, .p .mov, [.t 0]⟩ ::
 ⟨(some 7), none, .p .nilchk, [.t 6]⟩ ::
 ⟨(some 8), none, .p (.faddr 0), [.t 7]⟩ ::
 ⟨(some 9), none, .r .load1, [.t 8]⟩ ::
 ⟨(some 10), none, .call, [.c (.func (.func 132) [] []), .t 9]⟩ ::
 ⟨(some 3), none, .p .mov, [.t 10]⟩ ::
 []))
(.seq (.ops (⟨(some 11), none, .p .mov, [.t 0]⟩ ::
 ⟨(some 12), none, .p .mov, [.t 0]⟩ ::
 ⟨(some 13), none, .p .nilchk, [.t 12]⟩ ::
 ⟨(some 14), none, .p (.faddr 14), [.t 13]⟩ ::
 ⟨(some 15), none, .r .load1, [.t 14]⟩ ::
 ⟨(some 16), none, .p .mov, [.t 15]⟩ ::
 ⟨(some 17), (some (16, false)), .p .mov, [.t 3]⟩ ::
 ⟨(some 18), (some (16, false)), .p (.bin .eql), [.t 17, .c (.int .i64 0)]⟩ ::
 ⟨(some 19), none, .p .pick, [.t 16, .c (.bool true), .t 18]⟩ ::
 ⟨(some 20), none, .p .nilchk, [.t 11]⟩ ::
 ⟨(some 21), none, .p (.faddr 14), [.t 20]⟩ ::
 ⟨none, none, .e (.store 1), [.t 21, .t 19]⟩ ::
 []))
(.seq (.ops (⟨(some 22), none, .p .mov, [.t 3]⟩ ::
 ⟨(some 2), none, .p .mov, [.t 22]⟩ ::
 []))
.ret)))))⟩
abbrev f_job_Job_Did : Nat := 80
abbrev C_job_Job_Did : AFunc := C80
def C81 : AFunc := ⟨43, [.tmp 2],
(.seq (.ops (⟨(some 2), none, .p .mov, [.c (.int .i64 0)]⟩ ::
 []))
(.seq (.block 0 (.seq (.ops (⟨(some 5), none, .p .mov, [.t 0]⟩ ::
 ⟨(some 6), none, .call, [.c (.func (.func 108) [] []), .t 5]⟩ ::
 ⟨(some 4), none, .p .mov, [.t 6]⟩ ::
 []))
(.cond (.t 4)
(.seq (.ops (⟨(some 2), none, .p .mov, [.c (.int .i64 1)]⟩ ::
 []))
.ret)
(.seq (.ops (⟨(some 8), none, .p .mov, [.t 0]⟩ ::
 ⟨(some 9), none, .p .nilchk, [.t 8]⟩ ::
 ⟨(some 10), none, .p (.faddr 11), [.t 9]⟩ ::
 ⟨(some 11), none, .r .load1, [.t 10]⟩ ::
 ⟨(some 12), none, .p (.bin .eql), [.t 11, .c (.int .i64 3)]⟩ ::
 ⟨(some 7), none, .p .mov, [.t 12]⟩ ::
 []))
(.cond (.t 7)
(.seq (.ops (⟨(some 2), none, .p .mov, [.c (.int .i64 250)]⟩ ::
 []))
.ret)
.skip)))))
(.seq (.seq (.ops (⟨(some 13), none, .p .mov, [.t 0]⟩ ::
 ⟨(some 14), none, .p .nilchk, [.t 13]⟩ ::
 ⟨(some 15), none, .p (.faddr 0), [.t 14]⟩ ::
 ⟨(some 16), none, .r .load1, [.t 15]⟩ ::
 ⟨(some 17), none, .call, [.c (.func (.func 133) [] []), .t 16]⟩ ::
 ⟨(some 3), none, .p .mov, [.t 17]⟩ ::
 []))
(.seq (.ops (⟨(some 18), none, .p .mov, [.t 3]⟩ ::
 ⟨(some 19), none, .p (.bin .neq), [.t 18, .c (.int .i64 0)]⟩ ::
 []))
(.cond (.t 19)
(.seq (.ops (⟨(some 20), none, .p .mov, [.t 3]⟩ ::
 ⟨(some 2), none, .p .mov, [.t 20]⟩ ::
 []))
.ret)
.skip)))
(.seq (.ops (⟨(some 21), none, .p .mov, [.t 0]⟩ ::
 ⟨(some 22), none, .p .nilchk, [.t 21]⟩ ::
 ⟨(some 23), none, .p (.faddr 14), [.t 22]⟩ ::
 ⟨none, none, .e (.store 1), [.t 23, .c (.bool true)]⟩ ::
 []))
(.seq (.ops (⟨(some 24), none, .p .mov, [.t 0]⟩ ::
 ⟨(some 25), none, .p .nilchk, [.t 24]⟩ ::
 ⟨(some 26), none, .p (.faddr 10), [.t 25]⟩ ::
 ⟨(some 27), none, .r .load1, [.t 26]⟩ ::
 ⟨(some 28), none, .p (.bin .add), [.t 27, .c (.int .i64 1)]⟩ ::
 ⟨(some 29), none, .p .nilchk, [.t 24]⟩ ::
 ⟨(some 30), none, .p (.faddr 10), [.t 29]⟩ ::
 ⟨none, none, .e (.store 1), [.t 30, .t 28]⟩ ::
 []))
(.seq (.seq (.ops (⟨(some 31), none, .p .mov, [.t 0]⟩ ::
 ⟨(some 32), none, .p .nilchk, [.t 31]⟩ ::
 ⟨(some 33), none, .p (.faddr 11), [.t 32]⟩ ::
 ⟨(some 34), none, .r .load1, [.t 33]⟩ ::
 ⟨(some 35), none, .p (.bin .neq), [.t 34, .c (.int .i64 0)]⟩ ::
 []))
(.cond (.t 35)
(.ops (⟨(some 36), none, .p .mov, [.t 0]⟩ ::
 ⟨(some 37), none, .p .nilchk, [.t 36]⟩ ::
 ⟨(some 38), none, .p (.faddr 12), [.t 37]⟩ ::
 ⟨(some 39), none, .r .load1, [.t 38]⟩ ::
 ⟨(some 40), none, .p (.bin .add), [.t 39, .c (.int .i64 1)]⟩ ::
 ⟨(some 41), none, .p .nilchk, [.t 36]⟩ ::
 ⟨(some 42), none, .p (.faddr 12), [.t 41]⟩ ::
 ⟨none, none, .e (.store 1), [.t 42, .t 40]⟩ ::
 []))
.skip))
(.seq (.ops (⟨(some 2), none, .p .mov, [.c (.int .i64 0)]⟩ ::
 []))
.ret)))))))⟩
abbrev f_job_Job_Run : Nat := 81
abbrev C_job_Job_Run : AFunc := C81
def C82 : AFunc := ⟨27, [.tmp 5],
(.seq (.ops (⟨(some 5), none, .p .mov, [.c (.int .i64 0)]⟩ ::
 []))
(.seq (.seq (.ops (⟨(some 7), none, .p .mov, [.t 0]⟩ ::
 ⟨(some 8), none, .call, [.c (.func (.func 83) [] []), .t 7]⟩ ::
 ⟨(some 9), none, .p (.bin .geq), [.t 8, .c (.int .i64 2)]⟩ ::
 []))
(.cond (.t 9)
(.seq (.ops (⟨(some 5), none, .p .mov, [.c (.int .i64 130)]⟩ ::
 []))
.ret)
.skip))
(.seq (.dops (⟨(some 10), none, .r .load1, [.t 1]⟩ ::
 ⟨(some 11), none, .p .nilchk, [.t 10]⟩ ::
 ⟨(some 12), none, .p (.faddr 0), [.t 11]⟩ ::
 ⟨(some 13), none, .r .load1, [.t 12]⟩ ::
 ⟨(some 14), none, .r .load1, [.t 2]⟩ ::
 ⟨(some 15), none, .r .load1, [.t 3]⟩ ::
 ⟨(some 16), none, .call, [.c (.func (.func 84) [] []), .t 13, .t 14, .t 15]⟩ ::
 ⟨(some 6), none, .p .mov, [.t 16]⟩ ::
 []) ([] :: [] :: [] :: [] :: [] :: [] :: [] :: [] :: []))
(.seq (.seq (.ops (⟨(some 17), none, .p .mov, [.t 6]⟩ ::
 ⟨(some 18), none, .p (.bin .eql), [.t 17, .c (.int .i64 0)]⟩ ::
 ⟨(some 19), none, .p .mov, [.t 18]⟩ ::
 ⟨(some 20), (some (19, true)), .p .mov, [.t 0]⟩ ::
 ⟨(some 21), (some (19, true)), .call, [.c (.func (.func 83) [] []), .t 20]⟩ ::
 ⟨(some 22), (some (19, true)), .p (.bin .eql), [.t 21, .c (.int .i64 0)]⟩ ::
 ⟨(some 23), none, .p .pick, [.t 19, .t 22, .c (.bool false)]⟩ ::
 []))
(.cond (.t 23)
(.seq (.ops (⟨(some 24), none, .p .mov, [.t 0]⟩ ::
 ⟨(some 25), none, .call, [.c (.func (.func 85) [] []), .t 24, .c (.int .i64 1)]⟩ ::
 ⟨(some 5), none, .p .mov, [.t 25]⟩ ::
 []))
.ret)
.skip))
(.seq (.ops (⟨(some 26), none, .p .mov, [.t 6]⟩ ::
 ⟨(some 5), none, .p .mov, [.t 26]⟩ ::
 []))
.ret)))))⟩
abbrev f_room_Room_Lock_1 : Nat := 82
abbrev C_room_Room_Lock_1 : AFunc := C82
def C83 : AFunc := ⟨11, [.tmp 2],
(.seq (.ops (⟨(some 2), none, .p .mov, [.c (.int .i64 0)]⟩ ::
 []))
(.seq (.ops (⟨(some 6), none, .p .mov, [.t 0]⟩ ::
 ⟨(some 7), none, .call, [.c (.func (.func 134) [] []), .t 6]⟩ ::
 ⟨(some 5), none, .p .mov, [.t 7]⟩ ::
 ⟨(some 8), none, .p (.ext 0), [.t 5]⟩ ::
 ⟨(some 9), none, .p (.ext 1), [.t 5]⟩ ::
 ⟨(some 3), none, .p .mov, [.t 8]⟩ ::
 ⟨(some 4), none, .p .mov, [.t 9]⟩ ::
 []))
(.seq (.ops (⟨(some 10), none, .p .mov, [.t 3]⟩ ::
 ⟨(some 2), none, .p .mov, [.t 10]⟩ ::
 []))
.ret)))⟩
abbrev f_room_section : Nat := 83
abbrev C_room_section : AFunc := C83
def C84 : AFunc := ⟨50, [.tmp 6],
(.seq (.ops (⟨(some 5), none, .a .box, [.t 2]⟩ ::
 ⟨(some 6), none, .p .mov, [.c (.int .i64 0)]⟩ ::
 []))
(.seq (.seq (.ops (⟨(some 9), none, .p .mov, [.t 0]⟩ ::
 ⟨(some 10), none, .p .mov, [.t 1]⟩ ::
 ⟨(some 11), none, .call, [.c (.func (.func 135) [] []), .t 9, .t 10]⟩ ::
 ⟨(some 7), none, .p .mov, [.t 11]⟩ ::
 []))
(.seq (.ops (⟨(some 12), none, .p .mov, [.t 7]⟩ ::
 ⟨(some 13), none, .p (.bin .neq), [.t 12, .c (.int .i64 0)]⟩ ::
 []))
(.cond (.t 13)
(.seq (.ops (⟨(some 14), none, .p .mov, [.t 7]⟩ ::
 ⟨(some 6), none, .p .mov, [.t 14]⟩ ::
 []))
.ret)
.skip)))
(.seq (.ops (⟨(some 15), none, .p (.mkfunc (.func 136) 0), [.t 5]⟩ ::
 ⟨(some 8), none, .p .mov, [.t 15]⟩ ::
 []))
(.seq (.block 0 (.seq (.dops (⟨(some 17), none, .p .mov, [.t 0]⟩ ::
 ⟨(some 18), none, .p .nilchk, [.t 17]⟩ ::
 ⟨(some 19), none, .p (.faddr 0), [.t 18]⟩ ::
 ⟨(some 20), none, .r .load1, [.t 19]⟩ ::
 ⟨(some 21), none, .p .mov, [.t 1]⟩ ::
 ⟨(some 22), none, .r .load1, [.t 5]⟩ ::
 ⟨(some 23), none, .call, [.c (.func (.func 137) [] []), .t 20, .t 21, .t 22]⟩ ::
 ⟨(some 24), none, .p .not, [.t 23]⟩ ::
 ⟨(some 16), none, .p .mov, [.t 24]⟩ ::
 []) ([] :: [] :: [] :: [] :: [] :: [] :: [] :: [] :: [] :: []))
(.cond (.t 16)
(.seq (.ops (⟨(some 6), none, .p .mov, [.c (.int .i64 133)]⟩ ::
 []))
.ret)
(.seq (.ops (⟨(some 26), none, .p .mov, [.t 0]⟩ ::
 ⟨(some 27), none, .p .nilchk, [.t 26]⟩ ::
 ⟨(some 28), none, .p (.faddr 1), [.t 27]⟩ ::
 ⟨(some 29), none, .r .load1, [.t 28]⟩ ::
 ⟨(some 30), none, .p .mov, [.t 8]⟩ ::
 ⟨(some 31), none, .call, [.c (.func (.func 138) [] []), .t 29, .t 30]⟩ ::
 ⟨(some 25), none, .p .mov, [.t 31]⟩ ::
 []))
(.cond (.t 25)
(.seq (.ops (⟨(some 6), none, .p .mov, [.c (.int .i64 131)]⟩ ::
 []))
.ret)
(.seq (.ops (⟨(some 33), none, .p .mov, [.t 0]⟩ ::
 ⟨(some 34), none, .p .mov, [.t 1]⟩ ::
 ⟨(some 35), none, .call, [.c (.func (.func 48) [] []), .t 33, .t 34]⟩ ::
 ⟨(some 36), none, .p .lenS, [.t 35]⟩ ::
 ⟨(some 37), none, .p (.bin .geq), [.t 36, .c (.int .i64 4)]⟩ ::
 ⟨(some 32), none, .p .mov, [.t 37]⟩ ::
 []))
(.cond (.t 32)
(.seq (.ops (⟨(some 6), none, .p .mov, [.c (.int .i64 130)]⟩ ::
 []))
.ret)
.skip)))))))
(.seq (.dops (⟨(some 38), none, .p .mov, [.t 0]⟩ ::
 ⟨(some 39), none, .p .mov, [.t 0]⟩ ::
 ⟨(some 40), none, .p .nilchk, [.t 39]⟩ ::
 ⟨(some 41), none, .p (.faddr 1), [.t 40]⟩ ::
 ⟨(some 42), none, .r .load1, [.t 41]⟩ ::
 ⟨(some 43), none, .p .mov, [.t 1]⟩ ::
 ⟨(some 44), none, .r .load1, [.t 5]⟩ ::
 ⟨(some 45), none, .p (.build [(.int .i64 0), (.int .i64 0)] [(0, 1), (1, 1)]), [.t 43, .t 44]⟩ ::
 ⟨(some 46), none, .a (.bslice [(.int .i64 0), (.int .i64 0)] 1 2 [0]), [.t 45]⟩ ::
 ⟨(some 47), none, .e (.append 2 16), [.t 42, .t 46]⟩ ::
 ⟨(some 48), none, .p .nilchk, [.t 38]⟩ ::
 ⟨(some 49), none, .p (.faddr 1), [.t 48]⟩ ::
 ⟨none, none, .e (.store 1), [.t 49, .t 47]⟩ ::
 []) ([] :: [] :: [] :: [] :: [] :: [] :: [] :: [] :: [] :: [] :: [] :: [] :: [] :: []))
(.seq (.ops (⟨(some 6), none, .p .mov, [.c (.int .i64 0)]⟩ ::
 []))
.ret))))))⟩
abbrev f_stack_Stack_Lock : Nat := 84
abbrev C_stack_Stack_Lock : AFunc := C84
def C85 : AFunc := ⟨65, [.tmp 4],
(.seq (.ops (⟨(some 4), none, .p .mov, [.c (.int .i64 0)]⟩ ::
 []))
(.seq (.block 0 (.seq (.ops (⟨(some 6), none, .p .mov, [.t 0]⟩ ::
 ⟨(some 7), none, .call, [.c (.func (.func 108) [] []), .t 6]⟩ ::
 ⟨(some 5), none, .p .mov, [.t 7]⟩ ::
 []))
(.cond (.t 5)
(.seq (.ops (⟨(some 4), none, .p .mov, [.c (.int .i64 1)]⟩ ::
 []))
.ret)
(.seq (.seq (.ops (⟨(some 9), none, .p .mov, [.t 1]⟩ ::
 ⟨(some 10), none, .p (.bin .lss), [.t 9, .c (.int .i64 1)]⟩ ::
 ⟨(some 8), none, .p .mov, [.t 10]⟩ ::
 []))
(.cond (.t 8)
.skip
(.ops (⟨(some 11), none, .p .mov, [.t 1]⟩ ::
 ⟨(some 12), none, .p (.bin .gtr), [.t 11, .c (.int .i64 3)]⟩ ::
 ⟨(some 8), none, .p .mov, [.t 12]⟩ ::
 []))))
(.cond (.t 8)
(.seq (.ops (⟨(some 4), none, .p .mov, [.c (.int .i64 2)]⟩ ::
 []))
.ret)
(.seq (.ops (⟨(some 14), none, .p .mov, [.t 0]⟩ ::
 ⟨(some 15), none, .p .nilchk, [.t 14]⟩ ::
 ⟨(some 16), none, .p (.faddr 11), [.t 15]⟩ ::
 ⟨(some 17), none, .r .load1, [.t 16]⟩ ::
 ⟨(some 18), none, .p (.bin .eql), [.t 17, .c (.int .i64 3)]⟩ ::
 ⟨(some 19), none, .p .mov, [.t 18]⟩ ::
 ⟨(some 20), (some (19, true)), .p .mov, [.t 1]⟩ ::
 ⟨(some 21), (some (19, true)), .p (.bin .eql), [.t 20, .c (.int .i64 2)]⟩ ::
 ⟨(some 22), none, .p .pick, [.t 19, .t 21, .c (.bool false)]⟩ ::
 ⟨(some 13), none, .p .mov, [.t 22]⟩ ::
 []))
(.cond (.t 13)
(.seq (.ops (⟨(some 23), none, .p .mov, [.t 0]⟩ ::
 ⟨(some 24), none, .p .mov, [.t 1]⟩ ::
 ⟨(some 25), none, .p .nilchk, [.t 23]⟩ ::
 ⟨(some 26), none, .p (.faddr 11), [.t 25]⟩ ::
 ⟨none, none, .e (.store 1), [.t 26, .t 24]⟩ ::
 []))
(.seq (.ops (⟨(some 4), none, .p .mov, [.c (.int .i64 0)]⟩ ::
 []))
.ret))
(.seq (.ops (⟨(some 28), none, .p .mov, [.t 0]⟩ ::
 ⟨(some 29), none, .p .nilchk, [.t 28]⟩ ::
 ⟨(some 30), none, .p (.faddr 11), [.t 29]⟩ ::
 ⟨(some 31), none, .r .load1, [.t 30]⟩ ::
 ⟨(some 32), none, .p (.bin .neq), [.t 31, .c (.int .i64 0)]⟩ ::
 ⟨(some 27), none, .p .mov, [.t 32]⟩ ::
 []))
(.cond (.t 27)
(.seq (.ops (⟨(some 4), none, .p .mov, [.c (.int .i64 130)]⟩ ::
 []))
.ret)
(.seq (.dops (⟨(some 34), none, .p .mov, [.t 1]⟩ ::
 ⟨(some 35), none, .p (.bin .neq), [.t 34, .c (.int .i64 1)]⟩ ::
 ⟨(some 36), none, .p .mov, [.t 35]⟩ ::
 ⟨(some 37), (some (36, true)), .p .mov, [.t 0]⟩ ::
 ⟨(some 38), (some (36, true)), .p .nilchk, [.t 37]⟩ ::
 ⟨(some 39), (some (36, true)), .p (.faddr 13), [.t 38]⟩ ::
 ⟨(some 40), (some (36, true)), .r .load1, [.t 39]⟩ ::
 ⟨(some 41), (some (36, true)), .p .mov, [.t 0]⟩ ::
 ⟨(some 42), (some (36, true)), .p .nilchk, [.t 41]⟩ ::
 ⟨(some 43), (some (36, true)), .p (.faddr 1), [.t 42]⟩ ::
 ⟨(some 44), (some (36, true)), .p (.faddr 7), [.t 43]⟩ ::
 ⟨(some 45), (some (36, true)), .r .load1, [.t 44]⟩ ::
 ⟨(some 46), (some (36, true)), .p (.bin .geq), [.t 40, .t 45]⟩ ::
 ⟨(some 47), none, .p .pick, [.t 36, .t 46, .c (.bool false)]⟩ ::
 ⟨(some 33), none, .p .mov, [.t 47]⟩ ::
 []) ([] :: [] :: [] :: [] :: [] :: [] :: [] :: [] :: [] :: [] :: [] :: [] :: [] :: [] :: [] :: []))
(.cond (.t 33)
(.seq (.ops (⟨(some 4), none, .p .mov, [.c (.int .i64 170)]⟩ ::
 []))
.ret)
(.seq (.ops (⟨(some 49), none, .p .mov, [.t 1]⟩ ::
 ⟨(some 50), none, .p (.bin .neq), [.t 49, .c (.int .i64 1)]⟩ ::
 ⟨(some 48), none, .p .mov, [.t 50]⟩ ::
 []))
(.cond (.t 48)
(.ops (⟨(some 51), none, .p .mov, [.t 0]⟩ ::
 ⟨(some 52), none, .p .nilchk, [.t 51]⟩ ::
 ⟨(some 53), none, .p (.faddr 13), [.t 52]⟩ ::
 ⟨(some 54), none, .r .load1, [.t 53]⟩ ::
 ⟨(some 55), none, .p (.bin .add), [.t 54, .c (.int .i64 1)]⟩ ::
 ⟨(some 56), none, .p .nilchk, [.t 51]⟩ ::
 ⟨(some 57), none, .p (.faddr 13), [.t 56]⟩ ::
 ⟨none, none, .e (.store 1), [.t 57, .t 55]⟩ ::
 []))
.skip)))))))))))))
(.seq (.ops (⟨(some 58), none, .p .mov, [.t 0]⟩ ::
 ⟨(some 59), none, .p .mov, [.t 0]⟩ ::
 ⟨(some 60), none, .p .mov, [.t 1]⟩ ::
 ⟨(some 61), none, .p .nilchk, [.t 58]⟩ ::
 ⟨(some 62), none, .p (.faddr 11), [.t 61]⟩ ::
 ⟨none, none, .e (.store 1), [.t 62, .t 60]⟩ ::
 ⟨(some 63), none, .p .nilchk, [.t 59]⟩ ::
 ⟨(some 64), none, .p (.faddr 12), [.t 63]⟩ ::
 ⟨none, none, .e (.store 1), [.t 64, .c (.int .i64 0)]⟩ ::
 []))
(.seq (.ops (⟨(some 4), none, .p .mov, [.c (.int .i64 0)]⟩ ::
 []))
.ret))))⟩
abbrev f_job_Job_Enter : Nat := 85
abbrev C_job_Job_Enter : AFunc := C85
def C86 : AFunc := ⟨29, [.tmp 4],
(.seq (.ops (⟨(some 4), none, .p .mov, [.c (.int .i64 0)]⟩ ::
 []))
(.seq (.seq (.dops (⟨(some 8), none, .r .load1, [.t 1]⟩ ::
 ⟨(some 9), none, .p .nilchk, [.t 8]⟩ ::
 ⟨(some 10), none, .p (.faddr 0), [.t 9]⟩ ::
 ⟨(some 11), none, .r .load1, [.t 10]⟩ ::
 ⟨(some 12), none, .r .load1, [.t 2]⟩ ::
 ⟨(some 13), none, .call, [.c (.func (.func 87) [] []), .t 11, .t 12]⟩ ::
 ⟨(some 7), none, .p .mov, [.t 13]⟩ ::
 ⟨(some 14), none, .p (.ext 0), [.t 7]⟩ ::
 ⟨(some 15), none, .p (.ext 1), [.t 7]⟩ ::
 ⟨(some 5), none, .p .mov, [.t 14]⟩ ::
 ⟨(some 6), none, .p .mov, [.t 15]⟩ ::
 []) ([] :: [] :: [] :: [] :: [] :: [] :: [] :: [] :: [] :: [] :: [] :: []))
(.seq (.ops (⟨(some 16), none, .p .mov, [.t 6]⟩ ::
 ⟨(some 17), none, .p (.bin .neq), [.t 16, .c (.int .i64 0)]⟩ ::
 []))
(.cond (.t 17)
(.seq (.ops (⟨(some 18), none, .p .mov, [.t 6]⟩ ::
 ⟨(some 4), none, .p .mov, [.t 18]⟩ ::
 []))
.ret)
.skip)))
(.seq (.seq (.dops (⟨(some 19), none, .r .load1, [.t 1]⟩ ::
 ⟨(some 20), none, .p .nilchk, [.t 19]⟩ ::
 ⟨(some 21), none, .p (.faddr 0), [.t 20]⟩ ::
 ⟨(some 22), none, .r .load1, [.t 21]⟩ ::
 ⟨(some 23), none, .r .load1, [.t 2]⟩ ::
 ⟨(some 24), none, .call, [.c (.func (.func 48) [] []), .t 22, .t 23]⟩ ::
 ⟨(some 25), none, .p .lenS, [.t 24]⟩ ::
 ⟨(some 26), none, .p (.bin .eql), [.t 25, .c (.int .i64 0)]⟩ ::
 []) ([] :: [] :: [] :: [] :: [] :: [] :: [] :: [] :: []))
(.cond (.t 26)
(.ops (⟨(some 27), none, .p .mov, [.t 0]⟩ ::
 ⟨(some 28), none, .call, [.c (.func (.func 88) [] []), .t 27]⟩ ::
 []))
.skip))
(.seq (.ops (⟨(some 4), none, .p .mov, [.c (.int .i64 0)]⟩ ::
 []))
.ret))))⟩
abbrev f_room_Room_Unlock_1 : Nat := 86
abbrev C_room_Room_Unlock_1 : AFunc := C86
def C87 : AFunc := ⟨46, [.tmp 4, .tmp 5],
(.seq (.ops (⟨(some 4), none, .p .mov, [.c (.int .i64 0)]⟩ ::
 ⟨(some 5), none, .p .mov, [.c (.int .i64 0)]⟩ ::
 []))
(.seq (.seq (.ops (⟨(some 8), none, .p .mov, [.t 0]⟩ ::
 ⟨(some 9), none, .p .mov, [.t 1]⟩ ::
 ⟨(some 10), none, .call, [.c (.func (.func 135) [] []), .t 8, .t 9]⟩ ::
 ⟨(some 6), none, .p .mov, [.t 10]⟩ ::
 []))
(.seq (.ops (⟨(some 11), none, .p .mov, [.t 6]⟩ ::
 ⟨(some 12), none, .p (.bin .neq), [.t 11, .c (.int .i64 0)]⟩ ::
 []))
(.cond (.t 12)
(.seq (.ops (⟨(some 13), none, .p .mov, [.t 6]⟩ ::
 ⟨(some 4), none, .p .mov, [.c (.int .i64 0)]⟩ ::
 ⟨(some 5), none, .p .mov, [.t 13]⟩ ::
 []))
.ret)
.skip)))
(.seq (.ops (⟨(some 14), none, .p .mov, [.t 0]⟩ ::
 ⟨(some 15), none, .p .mov, [.t 1]⟩ ::
 ⟨(some 16), none, .call, [.c (.func (.func 139) [] []), .t 14, .t 15]⟩ ::
 ⟨(some 7), none, .p .mov, [.t 16]⟩ ::
 []))
(.seq (.seq (.ops (⟨(some 17), none, .p .mov, [.t 7]⟩ ::
 ⟨(some 18), none, .p (.bin .lss), [.t 17, .c (.int .i64 0)]⟩ ::
 []))
(.cond (.t 18)
(.seq (.ops (⟨(some 4), none, .p .mov, [.c (.int .i64 0)]⟩ ::
 ⟨(some 5), none, .p .mov, [.c (.int .i64 132)]⟩ ::
 []))
.ret)
.skip))
(.seq (.ops (⟨(some 19), none, .p .mov, [.t 0]⟩ ::
 ⟨(some 20), none, .p .nilchk, [.t 19]⟩ ::
 ⟨(some 21), none, .p (.faddr 1), [.t 20]⟩ ::
 ⟨(some 22), none, .r .load1, [.t 21]⟩ ::
 ⟨(some 23), none, .p .mov, [.t 7]⟩ ::
 ⟨(some 24), none, .p (.iaddrS 2), [.t 22, .t 23]⟩ ::
 ⟨(some 25), none, .p (.faddr 1), [.t 24]⟩ ::
 ⟨(some 26), none, .r .load1, [.t 25]⟩ ::
 ⟨(some 4), none, .p .mov, [.t 26]⟩ ::
 []))
(.seq (.dops (⟨(some 27), none, .p .mov, [.t 0]⟩ ::
 ⟨(some 28), none, .p .mov, [.t 0]⟩ ::
 ⟨(some 29), none, .p .nilchk, [.t 28]⟩ ::
 ⟨(some 30), none, .p (.faddr 1), [.t 29]⟩ ::
 ⟨(some 31), none, .r .load1, [.t 30]⟩ ::
 ⟨(some 32), none, .p .mov, [.t 7]⟩ ::
 ⟨(some 33), none, .p .mov, [.t 7]⟩ ::
 ⟨(some 34), none, .p (.slice 2 false true true), [.t 31, .t 32, .t 33]⟩ ::
 ⟨(some 35), none, .p .mov, [.t 0]⟩ ::
 ⟨(some 36), none, .p .nilchk, [.t 35]⟩ ::
 ⟨(some 37), none, .p (.faddr 1), [.t 36]⟩ ::
 ⟨(some 38), none, .r .load1, [.t 37]⟩ ::
 ⟨(some 39), none, .p .mov, [.t 7]⟩ ::
 ⟨(some 40), none, .p (.bin .add), [.t 39, .c (.int .i64 1)]⟩ ::
 ⟨(some 41), none, .p (.slice 2 true false false), [.t 38, .t 40]⟩ ::
 ⟨(some 42), none, .e (.append 2 16), [.t 34, .t 41]⟩ ::
 ⟨(some 43), none, .p .nilchk, [.t 27]⟩ ::
 ⟨(some 44), none, .p (.faddr 1), [.t 43]⟩ ::
 ⟨none, none, .e (.store 1), [.t 44, .t 42]⟩ ::
 []) ([] :: [] :: [] :: [] :: [] :: [] :: [] :: [] :: [] :: [] :: [] :: [] :: [] :: [] :: [] :: [] :: [] :: [] :: [] :: []))
(.seq (.ops (⟨(some 45), none, .p .mov, [.t 4]⟩ ::
 ⟨(some 4), none, .p .mov, [.t 45]⟩ ::
 ⟨(some 5), none, .p .mov, [.c (.int .i64 0)]⟩ ::
 []))
.ret)))))))⟩
abbrev f_stack_Stack_Unlock : Nat := 87
abbrev C_stack_Stack_Unlock : AFunc := C87
def C88 : AFunc := ⟨18, [.tmp 2],
(.seq (.ops (⟨(some 2), none, .p .mov, [.c (.int .i64 0)]⟩ ::
 []))
(.seq (.block 0 (.seq (.ops (⟨(some 4), none, .p .mov, [.t 0]⟩ ::
 ⟨(some 5), none, .call, [.c (.func (.func 108) [] []), .t 4]⟩ ::
 ⟨(some 3), none, .p .mov, [.t 5]⟩ ::
 []))
(.cond (.t 3)
(.seq (.ops (⟨(some 2), none, .p .mov, [.c (.int .i64 1)]⟩ ::
 []))
.ret)
(.seq (.ops (⟨(some 7), none, .p .mov, [.t 0]⟩ ::
 ⟨(some 8), none, .p .nilchk, [.t 7]⟩ ::
 ⟨(some 9), none, .p (.faddr 11), [.t 8]⟩ ::
 ⟨(some 10), none, .r .load1, [.t 9]⟩ ::
 ⟨(some 11), none, .p (.bin .eql), [.t 10, .c (.int .i64 0)]⟩ ::
 ⟨(some 6), none, .p .mov, [.t 11]⟩ ::
 []))
(.cond (.t 6)
(.seq (.ops (⟨(some 2), none, .p .mov, [.c (.int .i64 132)]⟩ ::
 []))
.ret)
.skip)))))
(.seq (.ops (⟨(some 12), none, .p .mov, [.t 0]⟩ ::
 ⟨(some 13), none, .p .mov, [.t 0]⟩ ::
 ⟨(some 14), none, .p .nilchk, [.t 12]⟩ ::
 ⟨(some 15), none, .p (.faddr 11), [.t 14]⟩ ::
 ⟨none, none, .e (.store 1), [.t 15, .c (.int .i64 0)]⟩ ::
 ⟨(some 16), none, .p .nilchk, [.t 13]⟩ ::
 ⟨(some 17), none, .p (.faddr 12), [.t 16]⟩ ::
 ⟨none, none, .e (.store 1), [.t 17, .c (.int .i64 0)]⟩ ::
 []))
(.seq (.ops (⟨(some 2), none, .p .mov, [.c (.int .i64 0)]⟩ ::
 []))
.ret))))⟩
abbrev f_job_Job_Leave : Nat := 88
abbrev C_job_Job_Leave : AFunc := C88
def C89 : AFunc := ⟨21, [.tmp 4],
(.seq (.ops (⟨(some 4), none, .p .mov, [.c (.int .i64 0)]⟩ ::
 []))
(.seq (.block 0 (.seq (.dops (⟨(some 6), none, .r .load1, [.t 1]⟩ ::
 ⟨(some 7), none, .p .nilchk, [.t 6]⟩ ::
 ⟨(some 8), none, .p (.faddr 2), [.t 7]⟩ ::
 ⟨(some 9), none, .r .load1, [.t 8]⟩ ::
 ⟨(some 10), none, .r .load1, [.t 2]⟩ ::
 ⟨(some 11), none, .p (.iaddrS 8), [.t 9, .t 10]⟩ ::
 ⟨(some 12), none, .p (.faddr 5), [.t 11]⟩ ::
 ⟨(some 13), none, .r .load1, [.t 12]⟩ ::
 ⟨(some 14), none, .p (.bin .eql), [.t 13, .c (.int .i64 0)]⟩ ::
 ⟨(some 5), none, .p .mov, [.t 14]⟩ ::
 []) ([] :: [] :: [] :: [] :: [] :: [] :: [] :: [] :: [] :: [] :: []))
(.cond (.t 5)
(.seq (.ops (⟨(some 4), none, .p .mov, [.c (.int .i64 133)]⟩ ::
 []))
.ret)
(.seq (.ops (⟨(some 16), none, .p .mov, [.t 0]⟩ ::
 ⟨(some 17), none, .call, [.c (.func (.func 83) [] []), .t 16]⟩ ::
 ⟨(some 18), none, .p (.bin .eql), [.t 17, .c (.int .i64 3)]⟩ ::
 ⟨(some 15), none, .p .mov, [.t 18]⟩ ::
 []))
(.cond (.t 15)
(.seq (.ops (⟨(some 4), none, .p .mov, [.c (.int .i64 0)]⟩ ::
 []))
.ret)
.skip)))))
(.seq (.ops (⟨(some 19), none, .p .mov, [.t 0]⟩ ::
 ⟨(some 20), none, .call, [.c (.func (.func 85) [] []), .t 19, .c (.int .i64 3)]⟩ ::
 ⟨(some 4), none, .p .mov, [.t 20]⟩ ::
 []))
.ret)))⟩
abbrev f_room_Room_Ask_1 : Nat := 89
abbrev C_room_Room_Ask_1 : AFunc := C89
def C90 : AFunc := ⟨8, [.tmp 2],
(.seq (.ops (⟨(some 2), none, .p .mov, [.c (.int .i64 0)]⟩ ::
 []))
(.seq (.seq (.ops (⟨(some 3), none, .p .mov, [.t 0]⟩ ::
 ⟨(some 4), none, .call, [.c (.func (.func 83) [] []), .t 3]⟩ ::
 ⟨(some 5), none, .p (.bin .neq), [.t 4, .c (.int .i64 3)]⟩ ::
 []))
(.cond (.t 5)
(.seq (.ops (⟨(some 2), none, .p .mov, [.c (.int .i64 132)]⟩ ::
 []))
.ret)
.skip))
(.seq (.ops (⟨(some 6), none, .p .mov, [.t 0]⟩ ::
 ⟨(some 7), none, .call, [.c (.func (.func 85) [] []), .t 6, .c (.int .i64 2)]⟩ ::
 ⟨(some 2), none, .p .mov, [.t 7]⟩ ::
 []))
.ret)))⟩
abbrev f_room_Room_Hold_1 : Nat := 90
abbrev C_room_Room_Hold_1 : AFunc := C90
def C91 : AFunc := ⟨8, [.tmp 2],
(.seq (.ops (⟨(some 2), none, .p .mov, [.c (.int .i64 0)]⟩ ::
 []))
(.seq (.seq (.ops (⟨(some 3), none, .p .mov, [.t 0]⟩ ::
 ⟨(some 4), none, .call, [.c (.func (.func 83) [] []), .t 3]⟩ ::
 ⟨(some 5), none, .p (.bin .neq), [.t 4, .c (.int .i64 2)]⟩ ::
 []))
(.cond (.t 5)
(.seq (.ops (⟨(some 2), none, .p .mov, [.c (.int .i64 132)]⟩ ::
 []))
.ret)
.skip))
(.seq (.ops (⟨(some 6), none, .p .mov, [.t 0]⟩ ::
 ⟨(some 7), none, .call, [.c (.func (.func 88) [] []), .t 6]⟩ ::
 ⟨(some 2), none, .p .mov, [.t 7]⟩ ::
 []))
.ret)))⟩
abbrev f_room_Room_Give_1 : Nat := 91
abbrev C_room_Room_Give_1 : AFunc := C91
def C92 : AFunc := ⟨16, [.tmp 4],
(.seq (.ops (⟨(some 4), none, .p .mov, [.c (.bool false)]⟩ ::
 []))
(.seq (.ops (⟨(some 5), none, .p .mov, [.t 0]⟩ ::
 ⟨(some 6), none, .call, [.c (.func (.func 110) [] []), .t 5]⟩ ::
 ⟨(some 7), none, .p .not, [.t 6]⟩ ::
 ⟨(some 8), none, .p .mov, [.t 7]⟩ ::
 ⟨(some 9), (some (8, true)), .p .mov, [.t 0]⟩ ::
 ⟨(some 10), (some (8, true)), .p .nilchk, [.t 9]⟩ ::
 ⟨(some 11), (some (8, true)), .p (.faddr 0), [.t 10]⟩ ::
 ⟨(some 12), (some (8, true)), .r .load1, [.t 11]⟩ ::
 ⟨(some 13), (some (8, true)), .p .mov, [.t 1]⟩ ::
 ⟨(some 14), (some (8, true)), .call, [.c (.func (.func 140) [] []), .t 12, .t 13]⟩ ::
 ⟨(some 15), none, .p .pick, [.t 8, .t 14, .c (.bool false)]⟩ ::
 ⟨(some 4), none, .p .mov, [.t 15]⟩ ::
 []))
.ret))⟩
abbrev f_ready_Queue_Remove : Nat := 92
abbrev C_ready_Queue_Remove : AFunc := C92
def L_stack_Stack_Drop_0 : AC := (.seq (.seq (.ops (⟨(some 13), none, .p .mov, [.t 6]⟩ ::
 ⟨(some 14), none, .p (.bin .eql), [.t 13, .c (.int .i64 0)]⟩ ::
 []))
(.cond (.t 14)
.skip
(.exit 0)))
(.seq (.block 1 (.ops (⟨(some 21), none, .p .mov, [.t 4]⟩ ::
 ⟨(some 22), none, .p .mov, [.t 5]⟩ ::
 ⟨(some 23), none, .a (.bslice [(.int .i64 0)] 1 1 [0]), [.t 22]⟩ ::
 ⟨(some 24), none, .e (.append 1 8), [.t 21, .t 23]⟩ ::
 ⟨(some 4), none, .p .mov, [.t 24]⟩ ::
 [])))
(.ops (⟨(some 16), none, .p .mov, [.t 0]⟩ ::
 ⟨(some 17), none, .p .mov, [.t 1]⟩ ::
 ⟨(some 18), none, .call, [.c (.func (.func 87) [] []), .t 16, .t 17]⟩ ::
 ⟨(some 15), none, .p .mov, [.t 18]⟩ ::
 ⟨(some 19), none, .p (.ext 0), [.t 15]⟩ ::
 ⟨(some 20), none, .p (.ext 1), [.t 15]⟩ ::
 ⟨(some 5), none, .p .mov, [.t 19]⟩ ::
 ⟨(some 6), none, .p .mov, [.t 20]⟩ ::
 []))))
def C93 : AFunc := ⟨26, [.tmp 4],
(.seq (.ops (⟨(some 4), none, .p .mov, [.c .nils]⟩ ::
 []))
(.seq (.seq (.ops (⟨(some 8), none, .p .mov, [.t 0]⟩ ::
 ⟨(some 9), none, .p .mov, [.t 1]⟩ ::
 ⟨(some 10), none, .call, [.c (.func (.func 87) [] []), .t 8, .t 9]⟩ ::
 ⟨(some 7), none, .p .mov, [.t 10]⟩ ::
 ⟨(some 11), none, .p (.ext 0), [.t 7]⟩ ::
 ⟨(some 12), none, .p (.ext 1), [.t 7]⟩ ::
 ⟨(some 5), none, .p .mov, [.t 11]⟩ ::
 ⟨(some 6), none, .p .mov, [.t 12]⟩ ::
 []))
(.block 0 (.loop L_stack_Stack_Drop_0)))
(.seq (.ops (⟨(some 25), none, .p .mov, [.t 4]⟩ ::
 ⟨(some 4), none, .p .mov, [.t 25]⟩ ::
 []))
.ret)))⟩
abbrev f_stack_Stack_Drop : Nat := 93
abbrev C_stack_Stack_Drop : AFunc := C93
def C94 : AFunc := ⟨18, [.tmp 4],
(.seq (.ops (⟨(some 4), none, .p .mov, [.c (.int .i64 0)]⟩ ::
 []))
(.seq (.block 0 (.seq (.ops (⟨(some 6), none, .p .mov, [.t 0]⟩ ::
 ⟨(some 7), none, .call, [.c (.func (.func 49) [] []), .t 6]⟩ ::
 ⟨(some 5), none, .p .mov, [.t 7]⟩ ::
 []))
(.cond (.t 5)
(.seq (.ops (⟨(some 4), none, .p .mov, [.c (.int .i64 1)]⟩ ::
 []))
.ret)
(.seq (.seq (.ops (⟨(some 9), none, .p .mov, [.t 1]⟩ ::
 ⟨(some 10), none, .p (.bin .lss), [.t 9, .c (.int .i64 0)]⟩ ::
 ⟨(some 8), none, .p .mov, [.t 10]⟩ ::
 []))
(.cond (.t 8)
.skip
(.ops (⟨(some 11), none, .p .mov, [.t 1]⟩ ::
 ⟨(some 12), none, .p .mov, [.t 0]⟩ ::
 ⟨(some 13), none, .p .nilchk, [.t 12]⟩ ::
 ⟨(some 14), none, .p (.faddr 2), [.t 13]⟩ ::
 ⟨(some 15), none, .r .load1, [.t 14]⟩ ::
 ⟨(some 16), none, .p .lenS, [.t 15]⟩ ::
 ⟨(some 17), none, .p (.bin .geq), [.t 11, .t 16]⟩ ::
 ⟨(some 8), none, .p .mov, [.t 17]⟩ ::
 []))))
(.cond (.t 8)
(.seq (.ops (⟨(some 4), none, .p .mov, [.c (.int .i64 9)]⟩ ::
 []))
.ret)
.skip)))))
(.seq (.ops (⟨(some 4), none, .p .mov, [.c (.int .i64 0)]⟩ ::
 []))
.ret)))⟩
abbrev f_room_Room_has : Nat := 94
abbrev C_room_Room_has : AFunc := C94
def C95 : AFunc := ⟨39, [.tmp 6, .tmp 7],
(.seq (.ops (⟨(some 3), none, .a .box, [.t 0]⟩ ::
 ⟨(some 6), none, .p .mov, [.c .nilp]⟩ ::
 ⟨(some 7), none, .p .mov, [.c (.int .i64 0)]⟩ ::
 []))
(.seq (.seq (.ops (⟨(some 11), none, .r (.loadN 8), [.t 3]⟩ ::
 ⟨(some 12), none, .a (.bslice [(.int .i64 0), (.int .i64 0), (.int .i64 0), (.int .i64 0), (.int .i64 0), (.int .i64 0), (.int .i64 0), (.int .i64 0)] 1 8 [0]), [.t 11]⟩ ::
 ⟨(some 13), none, .a (.bslice [(.int .i64 0)] 1 1 [0]), [.c (.int .i64 0)]⟩ ::
 ⟨(some 14), none, .call, [.c (.func (.func 10) [] []), .t 12, .t 13]⟩ ::
 ⟨(some 8), none, .p .mov, [.t 14]⟩ ::
 []))
(.block 0 (.seq (.seq (.ops (⟨(some 16), none, .p .mov, [.t 8]⟩ ::
 ⟨(some 17), none, .p (.bin .neq), [.t 16, .c (.int .i64 0)]⟩ ::
 ⟨(some 15), none, .p .mov, [.t 17]⟩ ::
 []))
(.cond (.t 15)
.skip
(.ops (⟨(some 18), none, .p .mov, [.t 2]⟩ ::
 ⟨(some 19), none, .p (.bin .lss), [.t 18, .c (.int .i64 0)]⟩ ::
 ⟨(some 15), none, .p .mov, [.t 19]⟩ ::
 []))))
(.cond (.t 15)
(.seq (.ops (⟨(some 6), none, .p .mov, [.c .nilp]⟩ ::
 ⟨(some 7), none, .p .mov, [.c (.int .i64 2)]⟩ ::
 []))
.ret)
(.seq (.ops (⟨(some 21), none, .p .mov, [.t 2]⟩ ::
 ⟨(some 22), none, .p (.bin .gtr), [.t 21, .c (.int .i64 1099511627776)]⟩ ::
 ⟨(some 20), none, .p .mov, [.t 22]⟩ ::
 []))
(.cond (.t 20)
(.seq (.ops (⟨(some 6), none, .p .mov, [.c .nilp]⟩ ::
 ⟨(some 7), none, .p .mov, [.c (.int .i64 10)]⟩ ::
 []))
.ret)
.skip))))))
(.seq (.ops (⟨(some 24), none, .p .mov, [.t 1]⟩ ::
 ⟨(some 25), none, .call, [.c (.func (.func 141) [] []), .t 24]⟩ ::
 ⟨(some 23), none, .p .mov, [.t 25]⟩ ::
 ⟨(some 26), none, .p (.ext 0), [.t 23]⟩ ::
 ⟨(some 27), none, .p (.ext 1), [.t 23]⟩ ::
 ⟨(some 9), none, .p .mov, [.t 26]⟩ ::
 ⟨(some 10), none, .p .mov, [.t 27]⟩ ::
 []))
(.seq (.seq (.ops (⟨(some 28), none, .p .mov, [.t 10]⟩ ::
 ⟨(some 29), none, .p (.bin .neq), [.t 28, .c (.int .i64 0)]⟩ ::
 []))
(.cond (.t 29)
(.seq (.ops (⟨(some 30), none, .p .mov, [.t 10]⟩ ::
 ⟨(some 6), none, .p .mov, [.c .nilp]⟩ ::
 ⟨(some 7), none, .p .mov, [.t 30]⟩ ::
 []))
.ret)
.skip))
(.seq (.ops (⟨(some 31), none, .p .mov, [.t 9]⟩ ::
 ⟨(some 32), none, .r (.loadN 8), [.t 3]⟩ ::
 ⟨(some 33), none, .p .mov, [.t 2]⟩ ::
 ⟨(some 34), none, .p (.faddr 1), [.t 3]⟩ ::
 ⟨(some 35), none, .r .load1, [.t 34]⟩ ::
 ⟨(some 36), none, .p (.bin .add), [.t 33, .t 35]⟩ ::
 ⟨(some 37), none, .p (.build [.nilp, (.int .i64 0), (.int .i64 0), (.int .i64 0), (.int .i64 0), (.int .i64 0), (.int .i64 0), (.int .i64 0), (.int .i64 0), (.int .i64 0), (.int .i64 0), (.int .i64 0), (.int .i64 0), (.int .i64 0), (.bool false)] [(0, 1), (1, 8), (9, 1)]), [.t 31, .t 32, .t 36]⟩ ::
 ⟨(some 38), none, .a .box, [.t 37]⟩ ::
 ⟨(some 6), none, .p .mov, [.t 38]⟩ ::
 ⟨(some 7), none, .p .mov, [.c (.int .i64 0)]⟩ ::
 []))
.ret)))))⟩
abbrev f_job_New : Nat := 95
abbrev C_job_New : AFunc := C95
def C96 : AFunc := ⟨24, [.tmp 4],
(.seq (.ops (⟨(some 4), none, .p .mov, [.c (.int .i64 0)]⟩ ::
 []))
(.seq (.ops (⟨(some 7), none, .p .mov, [.t 0]⟩ ::
 ⟨(some 8), none, .p (.mkfunc (.func 142) 1), [.t 7]⟩ ::
 ⟨(some 5), none, .p .mov, [.t 8]⟩ ::
 []))
(.seq (.ops (⟨(some 9), none, .p .mov, [.t 5]⟩ ::
 ⟨(some 10), none, .p .mov, [.t 1]⟩ ::
 ⟨(some 11), none, .call, [.t 9, .t 10]⟩ ::
 ⟨(some 6), none, .p .mov, [.t 11]⟩ ::
 []))
(.seq (.seq (.ops (⟨(some 12), none, .p .mov, [.t 6]⟩ ::
 ⟨(some 13), none, .p (.bin .eql), [.t 12, .c (.int .i64 0)]⟩ ::
 []))
(.cond (.t 13)
(.ops (⟨(some 14), none, .p .mov, [.t 0]⟩ ::
 ⟨(some 15), none, .p .mov, [.t 1]⟩ ::
 ⟨(some 16), none, .p .mov, [.t 0]⟩ ::
 ⟨(some 17), none, .p .nilchk, [.t 16]⟩ ::
 ⟨(some 18), none, .p (.faddr 0), [.t 17]⟩ ::
 ⟨(some 19), none, .r .load1, [.t 18]⟩ ::
 ⟨(some 20), none, .p (.bin .add), [.t 15, .t 19]⟩ ::
 ⟨(some 21), none, .p .nilchk, [.t 14]⟩ ::
 ⟨(some 22), none, .p (.faddr 1), [.t 21]⟩ ::
 ⟨none, none, .e (.store 1), [.t 22, .t 20]⟩ ::
 []))
.skip))
(.seq (.ops (⟨(some 23), none, .p .mov, [.t 6]⟩ ::
 ⟨(some 4), none, .p .mov, [.t 23]⟩ ::
 []))
.ret)))))⟩
abbrev f_spore_Guard_Release : Nat := 96
abbrev C_spore_Guard_Release : AFunc := C96
def C97 : AFunc := ⟨35, [.tmp 6],
(.seq (.ops (⟨(some 6), none, .p .mov, [.c (.int .i64 0)]⟩ ::
 []))
(.seq (.block 0 (.seq (.ops (⟨(some 8), none, .p .mov, [.t 0]⟩ ::
 ⟨(some 9), none, .call, [.c (.func (.func 110) [] []), .t 8]⟩ ::
 ⟨(some 7), none, .p .mov, [.t 9]⟩ ::
 []))
(.cond (.t 7)
(.seq (.ops (⟨(some 6), none, .p .mov, [.c (.int .i64 1)]⟩ ::
 []))
.ret)
(.seq (.ops (⟨(some 11), none, .p .mov, [.t 1]⟩ ::
 ⟨(some 12), none, .p (.bin .lss), [.t 11, .c (.int .i64 0)]⟩ ::
 ⟨(some 13), none, .p .mov, [.t 12]⟩ ::
 ⟨(some 14), (some (13, false)), .p .mov, [.t 1]⟩ ::
 ⟨(some 15), (some (13, false)), .p .mov, [.t 0]⟩ ::
 ⟨(some 16), (some (13, false)), .p .nilchk, [.t 15]⟩ ::
 ⟨(some 17), (some (13, false)), .p (.faddr 1), [.t 16]⟩ ::
 ⟨(some 18), (some (13, false)), .r .load1, [.t 17]⟩ ::
 ⟨(some 19), (some (13, false)), .p (.bin .geq), [.t 14, .t 18]⟩ ::
 ⟨(some 20), none, .p .pick, [.t 13, .c (.bool true), .t 19]⟩ ::
 ⟨(some 10), none, .p .mov, [.t 20]⟩ ::
 []))
(.cond (.t 10)
(.seq (.ops (⟨(some 6), none, .p .mov, [.c (.int .i64 9)]⟩ ::
 []))
.ret)
(.seq (.ops (⟨(some 22), none, .p .mov, [.t 2]⟩ ::
 ⟨(some 23), none, .p (.bin .lss), [.t 22, .c (.int .i64 0)]⟩ ::
 ⟨(some 24), none, .p .mov, [.t 23]⟩ ::
 ⟨(some 25), (some (24, false)), .p .mov, [.t 2]⟩ ::
 ⟨(some 26), (some (24, false)), .p (.bin .gtr), [.t 25, .c (.int .i64 1099511627840)]⟩ ::
 ⟨(some 27), none, .p .pick, [.t 24, .c (.bool true), .t 26]⟩ ::
 ⟨(some 21), none, .p .mov, [.t 27]⟩ ::
 []))
(.cond (.t 21)
(.seq (.ops (⟨(some 6), none, .p .mov, [.c (.int .i64 2)]⟩ ::
 []))
.ret)
.skip)))))))
(.seq (.ops (⟨(some 28), none, .p .mov, [.t 0]⟩ ::
 ⟨(some 29), none, .p .nilchk, [.t 28]⟩ ::
 ⟨(some 30), none, .p (.faddr 0), [.t 29]⟩ ::
 ⟨(some 31), none, .r .load1, [.t 30]⟩ ::
 ⟨(some 32), none, .p .mov, [.t 1]⟩ ::
 ⟨(some 33), none, .p .mov, [.t 2]⟩ ::
 ⟨(some 34), none, .call, [.c (.func (.func 143) [] []), .t 31, .t 32, .t 33]⟩ ::
 ⟨(some 6), none, .p .mov, [.t 34]⟩ ::
 []))
.ret)))⟩
abbrev f_ready_Queue_Put : Nat := 97
abbrev C_ready_Queue_Put : AFunc := C97
def C98 : AFunc := ⟨9, [.tmp 2],
(.seq (.ops (⟨(some 2), none, .p .mov, [.c (.int .i64 0)]⟩ ::
 []))
(.seq (.seq (.ops (⟨(some 3), none, .p .mov, [.t 0]⟩ ::
 ⟨(some 4), none, .call, [.c (.func (.func 144) [] []), .t 3]⟩ ::
 []))
(.cond (.t 4)
(.seq (.ops (⟨(some 2), none, .p .mov, [.c (.int .i64 0)]⟩ ::
 []))
.ret)
.skip))
(.seq (.ops (⟨(some 5), none, .p .mov, [.t 0]⟩ ::
 ⟨(some 6), none, .p .nilchk, [.t 5]⟩ ::
 ⟨(some 7), none, .p (.faddr 1), [.t 6]⟩ ::
 ⟨(some 8), none, .r .load1, [.t 7]⟩ ::
 ⟨(some 2), none, .p .mov, [.t 8]⟩ ::
 []))
.ret)))⟩
abbrev f_spore_Guard_Next : Nat := 98
abbrev C_spore_Guard_Next : AFunc := C98
def C99 : AFunc := ⟨45, [.tmp 4],
(.seq (.ops (⟨(some 4), none, .p .mov, [.c (.int .i64 0)]⟩ ::
 []))
(.seq (.ops (⟨(some 8), none, .p .mov, [.t 0]⟩ ::
 ⟨(some 9), none, .call, [.c (.func (.func 101) [] []), .t 8]⟩ ::
 ⟨(some 7), none, .p .mov, [.t 9]⟩ ::
 ⟨(some 10), none, .p (.ext 0), [.t 7]⟩ ::
 ⟨(some 11), none, .p (.ext 1), [.t 7]⟩ ::
 ⟨(some 5), none, .a (.alloc [(.int .i64 0), (.int .i64 0), (.str [])]), []⟩ ::
 ⟨none, none, .e (.store 3), [.t 5, .t 10]⟩ ::
 ⟨(some 6), none, .p .mov, [.t 11]⟩ ::
 []))
(.seq (.block 0 (.seq (.ops (⟨(some 13), none, .p .mov, [.t 6]⟩ ::
 ⟨(some 14), none, .p .not, [.t 13]⟩ ::
 ⟨(some 12), none, .p .mov, [.t 14]⟩ ::
 []))
(.cond (.t 12)
(.seq (.ops (⟨(some 4), none, .p .mov, [.c (.int .i64 0)]⟩ ::
 []))
.ret)
(.seq (.ops (⟨(some 16), none, .p .mov, [.t 1]⟩ ::
 ⟨(some 17), none, .p .mov, [.t 0]⟩ ::
 ⟨(some 18), none, .p .nilchk, [.t 17]⟩ ::
 ⟨(some 19), none, .p (.faddr 9), [.t 18]⟩ ::
 ⟨(some 20), none, .r .load1, [.t 19]⟩ ::
 ⟨(some 21), none, .p (.bin .geq), [.t 16, .t 20]⟩ ::
 ⟨(some 15), none, .p .mov, [.t 21]⟩ ::
 []))
(.cond (.t 15)
(.seq (.ops (⟨(some 4), none, .p .mov, [.c (.int .i64 3)]⟩ ::
 []))
.ret)
(.seq (.dops (⟨(some 23), none, .p .mov, [.t 0]⟩ ::
 ⟨(some 24), none, .p .nilchk, [.t 23]⟩ ::
 ⟨(some 25), none, .p (.faddr 10), [.t 24]⟩ ::
 ⟨(some 26), none, .r .load1, [.t 25]⟩ ::
 ⟨(some 27), none, .p .mov, [.t 0]⟩ ::
 ⟨(some 28), none, .p .nilchk, [.t 27]⟩ ::
 ⟨(some 29), none, .p (.faddr 1), [.t 28]⟩ ::
 ⟨(some 30), none, .p (.faddr 2), [.t 29]⟩ ::
 ⟨(some 31), none, .r .load1, [.t 30]⟩ ::
 ⟨(some 32), none, .p (.bin .geq), [.t 26, .t 31]⟩ ::
 ⟨(some 33), none, .p .mov, [.t 32]⟩ ::
 ⟨(some 34), (some (33, true)), .p .mov, [.t 0]⟩ ::
 ⟨(some 35), (some (33, true)), .p .nilchk, [.t 34]⟩ ::
 ⟨(some 36), (some (33, true)), .p (.faddr 0), [.t 35]⟩ ::
 ⟨(some 37), (some (33, true)), .r .load1, [.t 36]⟩ ::
 ⟨(some 38), (some (33, true)), .call, [.c (.func (.func 145) [] []), .t 37]⟩ ::
 ⟨(some 39), (some (33, true)), .p (.bin .gtr), [.t 38, .c (.int .i64 0)]⟩ ::
 ⟨(some 40), none, .p .pick, [.t 33, .t 39, .c (.bool false)]⟩ ::
 ⟨(some 22), none, .p .mov, [.t 40]⟩ ::
 []) ([] :: [] :: [] :: [] :: [] :: [] :: [] :: [] :: [] :: [] :: [] :: [] :: [] :: [] :: [] :: [] :: [] :: [] :: [] :: []))
(.cond (.t 22)
(.seq (.ops (⟨(some 4), none, .p .mov, [.c (.int .i64 1)]⟩ ::
 []))
.ret)
(.seq (.ops (⟨(some 42), none, .p .mov, [.t 0]⟩ ::
 ⟨(some 43), none, .r (.loadN 3), [.t 5]⟩ ::
 ⟨(some 44), none, .call, [.c (.func (.func 146) [] []), .t 42, .t 43]⟩ ::
 ⟨(some 41), none, .p .mov, [.t 44]⟩ ::
 []))
(.cond (.t 41)
(.seq (.ops (⟨(some 4), none, .p .mov, [.c (.int .i64 2)]⟩ ::
 []))
.ret)
.skip)))))))))
(.seq (.ops (⟨(some 4), none, .p .mov, [.c (.int .i64 0)]⟩ ::
 []))
.ret))))⟩
abbrev f_job_Job_Fault : Nat := 99
abbrev C_job_Job_Fault : AFunc := C99
def C100 : AFunc := ⟨10, [.tmp 2],
(.seq (.ops (⟨(some 2), none, .p .mov, [.c .nils]⟩ ::
 []))
(.seq (.seq (.ops (⟨(some 3), none, .p .mov, [.t 0]⟩ ::
 ⟨(some 4), none, .call, [.c (.func (.func 110) [] []), .t 3]⟩ ::
 []))
(.cond (.t 4)
(.seq (.ops (⟨(some 2), none, .p .mov, [.c .nils]⟩ ::
 []))
.ret)
.skip))
(.seq (.ops (⟨(some 5), none, .p .mov, [.t 0]⟩ ::
 ⟨(some 6), none, .p .nilchk, [.t 5]⟩ ::
 ⟨(some 7), none, .p (.faddr 0), [.t 6]⟩ ::
 ⟨(some 8), none, .r .load1, [.t 7]⟩ ::
 ⟨(some 9), none, .call, [.c (.func (.func 147) [] []), .t 8]⟩ ::
 ⟨(some 2), none, .p .mov, [.t 9]⟩ ::
 []))
.ret)))⟩
abbrev f_ready_Queue_Jobs : Nat := 100
abbrev C_ready_Queue_Jobs : AFunc := C100
def C101 : AFunc := ⟨14, [.cell 2 3 true, .tmp 3],
(.seq (.ops (⟨(some 2), none, .a (.alloc [(.int .i64 0), (.int .i64 0), (.str [])]), []⟩ ::
 ⟨(some 3), none, .p .mov, [.c (.bool false)]⟩ ::
 []))
(.seq (.seq (.ops (⟨(some 4), none, .p .mov, [.t 0]⟩ ::
 ⟨(some 5), none, .call, [.c (.func (.func 108) [] []), .t 4]⟩ ::
 []))
(.cond (.t 5)
(.seq (.ops (⟨(some 6), none, .p (.build [(.int .i64 0), (.int .i64 0), (.str [])] []), []⟩ ::
 ⟨none, none, .e (.store 3), [.t 2, .t 6]⟩ ::
 ⟨(some 3), none, .p .mov, [.c (.bool false)]⟩ ::
 []))
.ret)
.skip))
(.seq (.ops (⟨(some 7), none, .p .mov, [.t 0]⟩ ::
 ⟨(some 8), none, .p .nilchk, [.t 7]⟩ ::
 ⟨(some 9), none, .p (.faddr 0), [.t 8]⟩ ::
 ⟨(some 10), none, .r .load1, [.t 9]⟩ ::
 ⟨(some 11), none, .call, [.c (.func (.func 148) [] []), .t 10]⟩ ::
 ⟨(some 12), none, .p (.ext 0), [.t 11]⟩ ::
 ⟨(some 13), none, .p (.ext 1), [.t 11]⟩ ::
 ⟨none, none, .e (.store 3), [.t 2, .t 12]⟩ ::
 ⟨(some 3), none, .p .mov, [.t 13]⟩ ::
 []))
.ret)))⟩
abbrev f_job_Job_Next : Nat := 101
abbrev C_job_Job_Next : AFunc := C101
def C102 : AFunc := ⟨9, [.tmp 2],
(.seq (.ops (⟨(some 2), none, .p .mov, [.c (.bool false)]⟩ ::
 []))
(.seq (.ops (⟨(some 3), none, .p .mov, [.t 0]⟩ ::
 ⟨(some 4), none, .p (.bin .geq), [.t 3, .c (.int .i64 1)]⟩ ::
 ⟨(some 5), none, .p .mov, [.t 4]⟩ ::
 ⟨(some 6), (some (5, true)), .p .mov, [.t 0]⟩ ::
 ⟨(some 7), (some (5, true)), .p (.bin .leq), [.t 6, .c (.int .i64 64)]⟩ ::
 ⟨(some 8), none, .p .pick, [.t 5, .t 7, .c (.bool false)]⟩ ::
 ⟨(some 2), none, .p .mov, [.t 8]⟩ ::
 []))
.ret))⟩
abbrev f_spore_may : Nat := 102
abbrev C_spore_may : AFunc := C102
def C103 : AFunc := ⟨5, [.tmp 0],
(.seq (.ops (⟨(some 0), none, .p .mov, [.c .nilp]⟩ ::
 []))
(.seq (.ops (⟨(some 1), none, .p (.build [.nils, (.int .i64 0), (.int .i64 0), (.int .i64 0), (.int .i64 0), (.int .i64 0), (.int .i64 0), (.int .i64 0), (.int .i64 0), (.int .i64 0), (.int .i64 0), (.int .i64 0), (.int .i64 0), (.int .i64 0), (.int .i64 0), (.int .i64 0), (.int .i64 0), (.int .i64 0), (.int .i64 0), (.int .i64 0), (.int .i64 0), (.int .i64 0), (.int .i64 0), (.int .i64 0), (.int .i64 0), (.int .i64 0), (.int .i64 0), (.int .i64 0), (.int .i64 0), (.int .i64 0), (.int .i64 0), (.int .i64 0), (.int .i64 0), (.int .i64 0), (.int .i64 0), (.int .i64 0), (.int .i64 0), (.int .i64 0), (.int .i64 0), (.int .i64 0), (.int .i64 0), (.int .i64 0), (.int .i64 0), (.int .i64 0), (.int .i64 0), (.int .i64 0), (.int .i64 0), (.int .i64 0), (.int .i64 0), (.int .i64 0), (.int .i64 0), (.int .i64 0), (.int .i64 0), (.int .i64 0), (.int .i64 0), (.int .i64 0), (.int .i64 0), (.int .i64 0), (.int .i64 0), (.int .i64 0), (.int .i64 0), (.int .i64 0), (.int .i64 0), (.int .i64 0), (.int .i64 0)] []), []⟩ ::
 ⟨(some 2), none, .a .box, [.t 1]⟩ ::
 ⟨(some 3), none, .p (.build [.nilp] [(0, 1)]), [.t 2]⟩ ::
 ⟨(some 4), none, .a .box, [.t 3]⟩ ::
 ⟨(some 0), none, .p .mov, [.t 4]⟩ ::
 []))
.ret))⟩
abbrev f_rank_New : Nat := 103
abbrev C_rank_New : AFunc := C103
def L_slices_IndexFunc_int_int_0 : AC := (.seq (.ops (⟨(some 9), none, .p (.bin .lss), [.t 8, .t 7]⟩ ::
 []))
(.seq (.cond (.t 9)
.skip
(.exit 0))
(.seq (.block 1 (.seq (.ops (⟨(some 10), none, .p .mov, [.t 8]⟩ ::
 ⟨(some 5), none, .p .mov, [.t 10]⟩ ::
 []))
(.seq (.ops (⟨(some 11), none, .p .mov, [.t 1]⟩ ::
 ⟨(some 12), none, .p .mov, [.t 0]⟩ ::
 ⟨(some 13), none, .p .mov, [.t 5]⟩ ::
 ⟨(some 14), none, .p (.iaddrS 1), [.t 12, .t 13]⟩ ::
 ⟨(some 15), none, .r .load1, [.t 14]⟩ ::
 ⟨(some 16), none, .call, [.t 11, .t 15]⟩ ::
 []))
(.cond (.t 16)
(.seq (.ops (⟨(some 17), none, .p .mov, [.t 5]⟩ ::
 ⟨(some 4), none, .p .mov, [.t 17]⟩ ::
 []))
.ret)
.skip))))
(.ops (⟨(some 18), none, .p (.bin .add), [.t 8, .c (.int .i64 1)]⟩ ::
 ⟨(some 8), none, .p .mov, [.t 18]⟩ ::
 [])))))
def C104 : AFunc := ⟨19, [.tmp 4],
(.seq (.ops (⟨(some 4), none, .p .mov, [.c (.int .i64 0)]⟩ ::
 []))
(.seq (.seq (.ops (⟨(some 6), none, .p .mov, [.t 0]⟩ ::
 ⟨(some 7), none, .p .lenS, [.t 6]⟩ ::
 ⟨(some 8), none, .p .mov, [.c (.int .i64 0)]⟩ ::
 []))
(.block 0 (.loop L_slices_IndexFunc_int_int_0)))
(.seq (.ops (⟨(some 4), none, .p .mov, [.c (.int .i64 (-1))]⟩ ::
 []))
.ret)))⟩
abbrev f_slices_IndexFunc_int_int : Nat := 104
abbrev C_slices_IndexFunc_int_int : AFunc := C104
def C105 : AFunc := ⟨9, [.tmp 4],
(.seq (.ops (⟨(some 4), none, .p .mov, [.c (.bool false)]⟩ ::
 []))
(.seq (.ops (⟨(some 5), none, .p .mov, [.t 0]⟩ ::
 ⟨(some 6), none, .p .mov, [.t 1]⟩ ::
 ⟨(some 7), none, .call, [.c (.func (.func 149) [] []), .t 5, .t 6]⟩ ::
 ⟨(some 8), none, .p (.bin .geq), [.t 7, .c (.int .i64 0)]⟩ ::
 ⟨(some 4), none, .p .mov, [.t 8]⟩ ::
 []))
.ret))⟩
abbrev f_slices_ContainsFunc_api_Task_api_Task : Nat := 105
abbrev C_slices_ContainsFunc_api_Task_api_Task : AFunc := C105
def C106 : AFunc := ⟨6, [.tmp 2],
(.seq (.ops (⟨(some 1), none, .a .box, [.t 0]⟩ ::
 ⟨(some 2), none, .p .mov, [.c (.bool false)]⟩ ::
 []))
(.seq (.ops (⟨(some 3), none, .r (.loadN 8), [.t 1]⟩ ::
 ⟨(some 4), none, .call, [.c (.func (.func 107) [] []), .t 3]⟩ ::
 ⟨(some 5), none, .p .not, [.t 4]⟩ ::
 ⟨(some 2), none, .p .mov, [.t 5]⟩ ::
 []))
.ret))⟩
abbrev f_demand_all_1 : Nat := 106
abbrev C_demand_all_1 : AFunc := C106
def C107 : AFunc := ⟨25, [.tmp 2],
(.seq (.ops (⟨(some 1), none, .a .box, [.t 0]⟩ ::
 ⟨(some 2), none, .p .mov, [.c (.bool false)]⟩ ::
 []))
(.seq (.ops (⟨(some 3), none, .p (.faddr 2), [.t 1]⟩ ::
 ⟨(some 4), none, .r .load1, [.t 3]⟩ ::
 ⟨(some 5), none, .p (.bin .leq), [.c (.int .i64 1), .t 4]⟩ ::
 ⟨(some 6), none, .p .mov, [.t 5]⟩ ::
 ⟨(some 7), (some (6, true)), .p (.faddr 2), [.t 1]⟩ ::
 ⟨(some 8), (some (6, true)), .r .load1, [.t 7]⟩ ::
 ⟨(some 9), (some (6, true)), .p (.faddr 1), [.t 1]⟩ ::
 ⟨(some 10), (some (6, true)), .r .load1, [.t 9]⟩ ::
 ⟨(some 11), (some (6, true)), .p (.bin .leq), [.t 8, .t 10]⟩ ::
 ⟨(some 12), none, .p .pick, [.t 6, .t 11, .c (.bool false)]⟩ ::
 ⟨(some 13), none, .p .mov, [.t 12]⟩ ::
 ⟨(some 14), (some (13, true)), .p (.faddr 1), [.t 1]⟩ ::
 ⟨(some 15), (some (13, true)), .r .load1, [.t 14]⟩ ::
 ⟨(some 16), (some (13, true)), .p (.faddr 0), [.t 1]⟩ ::
 ⟨(some 17), (some (13, true)), .r .load1, [.t 16]⟩ ::
 ⟨(some 18), (some (13, true)), .p (.bin .leq), [.t 15, .t 17]⟩ ::
 ⟨(some 19), none, .p .pick, [.t 13, .t 18, .c (.bool false)]⟩ ::
 ⟨(some 20), none, .p .mov, [.t 19]⟩ ::
 ⟨(some 21), (some (20, true)), .p (.faddr 0), [.t 1]⟩ ::
 ⟨(some 22), (some (20, true)), .r .load1, [.t 21]⟩ ::
 ⟨(some 23), (some (20, true)), .p (.bin .leq), [.t 22, .c (.int .i64 64)]⟩ ::
 ⟨(some 24), none, .p .pick, [.t 20, .t 23, .c (.bool false)]⟩ ::
 ⟨(some 2), none, .p .mov, [.t 24]⟩ ::
 []))
.ret))⟩
abbrev f_demand_may : Nat := 107
abbrev C_demand_may : AFunc := C107
def C108 : AFunc := ⟨12, [.tmp 2],
(.seq (.ops (⟨(some 2), none, .p .mov, [.c (.bool false)]⟩ ::
 []))
(.seq (.ops (⟨(some 3), none, .p .mov, [.t 0]⟩ ::
 ⟨(some 4), none, .p (.eq .nilptr), [.t 3, .c .nilp]⟩ ::
 ⟨(some 5), none, .p .mov, [.t 4]⟩ ::
 ⟨(some 6), (some (5, false)), .p .mov, [.t 0]⟩ ::
 ⟨(some 7), (some (5, false)), .p .nilchk, [.t 6]⟩ ::
 ⟨(some 8), (some (5, false)), .p (.faddr 0), [.t 7]⟩ ::
 ⟨(some 9), (some (5, false)), .r .load1, [.t 8]⟩ ::
 ⟨(some 10), (some (5, false)), .p (.eq .nilptr), [.t 9, .c .nilp]⟩ ::
 ⟨(some 11), none, .p .pick, [.t 5, .c (.bool true), .t 10]⟩ ::
 ⟨(some 2), none, .p .mov, [.t 11]⟩ ::
 []))
.ret))⟩
abbrev f_job_Job_none : Nat := 108
abbrev C_job_Job_none : AFunc := C108
def C109 : AFunc := ⟨4, [.tmp 2],
(.seq (.ops (⟨(some 1), none, .a .box, [.t 0]⟩ ::
 ⟨(some 2), none, .p .mov, [.c .nilf]⟩ ::
 []))
(.seq (.ops (⟨(some 3), none, .p (.mkfunc (.func 150) 0), [.t 1]⟩ ::
 ⟨(some 2), none, .p .mov, [.t 3]⟩ ::
 []))
.ret))⟩
abbrev f_stack_of : Nat := 109
abbrev C_stack_of : AFunc := C109
def C110 : AFunc := ⟨12, [.tmp 2],
(.seq (.ops (⟨(some 2), none, .p .mov, [.c (.bool false)]⟩ ::
 []))
(.seq (.ops (⟨(some 3), none, .p .mov, [.t 0]⟩ ::
 ⟨(some 4), none, .p (.eq .nilptr), [.t 3, .c .nilp]⟩ ::
 ⟨(some 5), none, .p .mov, [.t 4]⟩ ::
 ⟨(some 6), (some (5, false)), .p .mov, [.t 0]⟩ ::
 ⟨(some 7), (some (5, false)), .p .nilchk, [.t 6]⟩ ::
 ⟨(some 8), (some (5, false)), .p (.faddr 0), [.t 7]⟩ ::
 ⟨(some 9), (some (5, false)), .r .load1, [.t 8]⟩ ::
 ⟨(some 10), (some (5, false)), .p (.eq .nilptr), [.t 9, .c .nilp]⟩ ::
 ⟨(some 11), none, .p .pick, [.t 5, .c (.bool true), .t 10]⟩ ::
 ⟨(some 2), none, .p .mov, [.t 11]⟩ ::
 []))
.ret))⟩
abbrev f_ready_Queue_none : Nat := 110
abbrev C_ready_Queue_none : AFunc := C110
def C111 : AFunc := ⟨38, [.tmp 2, .tmp 3, .tmp 4],
(.seq (.ops (⟨(some 2), none, .p .mov, [.c (.int .i64 0)]⟩ ::
 ⟨(some 3), none, .p .mov, [.c (.int .i64 0)]⟩ ::
 ⟨(some 4), none, .p .mov, [.c (.bool false)]⟩ ::
 []))
(.seq (.seq (.ops (⟨(some 5), none, .p .mov, [.t 0]⟩ ::
 ⟨(some 6), none, .call, [.c (.func (.func 151) [] []), .t 5]⟩ ::
 ⟨(some 7), none, .p .mov, [.t 6]⟩ ::
 ⟨(some 8), (some (7, false)), .p .mov, [.t 0]⟩ ::
 ⟨(some 9), (some (7, false)), .p .nilchk, [.t 8]⟩ ::
 ⟨(some 10), (some (7, false)), .p (.faddr 0), [.t 9]⟩ ::
 ⟨(some 11), (some (7, false)), .r .load1, [.t 10]⟩ ::
 ⟨(some 12), (some (7, false)), .p .nilchk, [.t 11]⟩ ::
 ⟨(some 13), (some (7, false)), .p (.faddr 0), [.t 12]⟩ ::
 ⟨(some 14), (some (7, false)), .r .load1, [.t 13]⟩ ::
 ⟨(some 15), (some (7, false)), .p .lenS, [.t 14]⟩ ::
 ⟨(some 16), (some (7, false)), .p (.bin .eql), [.t 15, .c (.int .i64 0)]⟩ ::
 ⟨(some 17), none, .p .pick, [.t 7, .c (.bool true), .t 16]⟩ ::
 []))
(.cond (.t 17)
(.seq (.ops (⟨(some 2), none, .p .mov, [.c (.int .i64 0)]⟩ ::
 ⟨(some 3), none, .p .mov, [.c (.int .i64 0)]⟩ ::
 ⟨(some 4), none, .p .mov, [.c (.bool false)]⟩ ::
 []))
.ret)
.skip))
(.seq (.dops (⟨(some 18), none, .p .mov, [.t 0]⟩ ::
 ⟨(some 19), none, .p .nilchk, [.t 18]⟩ ::
 ⟨(some 20), none, .p (.faddr 0), [.t 19]⟩ ::
 ⟨(some 21), none, .r .load1, [.t 20]⟩ ::
 ⟨(some 22), none, .p .nilchk, [.t 21]⟩ ::
 ⟨(some 23), none, .p (.faddr 0), [.t 22]⟩ ::
 ⟨(some 24), none, .r .load1, [.t 23]⟩ ::
 ⟨(some 25), none, .p (.iaddrS 2), [.t 24, .c (.int .i64 0)]⟩ ::
 ⟨(some 26), none, .p (.faddr 0), [.t 25]⟩ ::
 ⟨(some 27), none, .r .load1, [.t 26]⟩ ::
 ⟨(some 28), none, .p .mov, [.t 0]⟩ ::
 ⟨(some 29), none, .p .nilchk, [.t 28]⟩ ::
 ⟨(some 30), none, .p (.faddr 0), [.t 29]⟩ ::
 ⟨(some 31), none, .r .load1, [.t 30]⟩ ::
 ⟨(some 32), none, .p .nilchk, [.t 31]⟩ ::
 ⟨(some 33), none, .p (.faddr 0), [.t 32]⟩ ::
 ⟨(some 34), none, .r .load1, [.t 33]⟩ ::
 ⟨(some 35), none, .p (.iaddrS 2), [.t 34, .c (.int .i64 0)]⟩ ::
 ⟨(some 36), none, .p (.faddr 1), [.t 35]⟩ ::
 ⟨(some 37), none, .r .load1, [.t 36]⟩ ::
 ⟨(some 2), none, .p .mov, [.t 27]⟩ ::
 ⟨(some 3), none, .p .mov, [.t 37]⟩ ::
 ⟨(some 4), none, .p .mov, [.c (.bool true)]⟩ ::
 []) ([] :: [] :: [] :: [] :: [] :: [] :: [] :: [] :: [] :: [] :: [] :: [] :: [] :: [] :: [] :: [] :: [] :: [] :: [] :: [] :: [] :: [] :: [] :: []))
.ret)))⟩
abbrev f_rank_Rank_First : Nat := 111
abbrev C_rank_Rank_First : AFunc := C111
def C112 : AFunc := ⟨8, [.tmp 4],
(.seq (.ops (⟨(some 2), none, .a .box, [.t 0]⟩ ::
 ⟨(some 3), none, .a .box, [.t 1]⟩ ::
 ⟨(some 4), none, .p .mov, [.c (.int .i64 0)]⟩ ::
 []))
(.seq (.ops (⟨(some 5), none, .r .load1, [.t 2]⟩ ::
 ⟨(some 6), none, .p (.mkfunc (.func 153) 0), [.t 2, .t 3]⟩ ::
 ⟨(some 7), none, .call, [.c (.func (.func 152) [] []), .t 5, .t 6]⟩ ::
 ⟨(some 4), none, .p .mov, [.t 7]⟩ ::
 []))
.ret))⟩
abbrev f_level_Ceiling : Nat := 112
abbrev C_level_Ceiling : AFunc := C112
def C132 : AFunc := ⟨19, [.tmp 2],
(.seq (.ops (⟨(some 2), none, .p .mov, [.c (.int .i64 0)]⟩ ::
 []))
(.seq (.block 0 (.seq (.ops (⟨(some 4), none, .p .mov, [.t 0]⟩ ::
 ⟨(some 5), none, .call, [.c (.func (.func 161) [] []), .t 4]⟩ ::
 ⟨(some 3), none, .p .mov, [.t 5]⟩ ::
 []))
(.cond (.t 3)
(.seq (.ops (⟨(some 2), none, .p .mov, [.c (.int .i64 1)]⟩ ::
 []))
.ret)
(.seq (.ops (⟨(some 7), none, .p .mov, [.t 0]⟩ ::
 ⟨(some 8), none, .p .nilchk, [.t 7]⟩ ::
 ⟨(some 9), none, .p (.faddr 0), [.t 8]⟩ ::
 ⟨(some 10), none, .r .load1, [.t 9]⟩ ::
 ⟨(some 11), none, .p .lenS, [.t 10]⟩ ::
 ⟨(some 12), none, .p (.bin .eql), [.t 11, .c (.int .i64 0)]⟩ ::
 ⟨(some 13), none, .p .mov, [.t 12]⟩ ::
 ⟨(some 14), (some (13, false)), .p .mov, [.t 0]⟩ ::
 ⟨(some 15), (some (13, false)), .call, [.c (.func (.func 162) [] []), .t 14]⟩ ::
 ⟨(some 16), none, .p .pick, [.t 13, .c (.bool true), .t 15]⟩ ::
 ⟨(some 6), none, .p .mov, [.t 16]⟩ ::
 []))
(.cond (.t 6)
(.seq (.ops (⟨(some 2), none, .p .mov, [.c (.int .i64 250)]⟩ ::
 []))
.ret)
.skip)))))
(.seq (.ops (⟨(some 17), none, .p .mov, [.t 0]⟩ ::
 ⟨(some 18), none, .call, [.c (.func (.func 163) [] []), .t 17]⟩ ::
 []))
(.seq (.ops (⟨(some 2), none, .p .mov, [.c (.int .i64 0)]⟩ ::
 []))
.ret))))⟩
abbrev f_act_Row_Did : Nat := 132
abbrev C_act_Row_Did : AFunc := C132
def C133 : AFunc := ⟨30, [.tmp 2],
(.seq (.ops (⟨(some 2), none, .p .mov, [.c (.int .i64 0)]⟩ ::
 []))
(.seq (.block 0 (.seq (.ops (⟨(some 4), none, .p .mov, [.t 0]⟩ ::
 ⟨(some 5), none, .call, [.c (.func (.func 161) [] []), .t 4]⟩ ::
 ⟨(some 3), none, .p .mov, [.t 5]⟩ ::
 []))
(.cond (.t 3)
(.seq (.ops (⟨(some 2), none, .p .mov, [.c (.int .i64 1)]⟩ ::
 []))
.ret)
(.seq (.ops (⟨(some 7), none, .p .mov, [.t 0]⟩ ::
 ⟨(some 8), none, .call, [.c (.func (.func 162) [] []), .t 7]⟩ ::
 ⟨(some 9), none, .p .not, [.t 8]⟩ ::
 ⟨(some 6), none, .p .mov, [.t 9]⟩ ::
 []))
(.cond (.t 6)
(.seq (.ops (⟨(some 2), none, .p .mov, [.c (.int .i64 250)]⟩ ::
 []))
.ret)
.skip)))))
(.seq (.seq (.ops (⟨(some 10), none, .p .mov, [.t 0]⟩ ::
 ⟨(some 11), none, .p .nilchk, [.t 10]⟩ ::
 ⟨(some 12), none, .p (.faddr 0), [.t 11]⟩ ::
 ⟨(some 13), none, .r .load1, [.t 12]⟩ ::
 ⟨(some 14), none, .p (.iaddrS 3), [.t 13, .c (.int .i64 0)]⟩ ::
 ⟨(some 15), none, .p (.faddr 1), [.t 14]⟩ ::
 ⟨(some 16), none, .r .load1, [.t 15]⟩ ::
 ⟨(some 17), none, .p (.bin .sub), [.t 16, .c (.int .i64 1)]⟩ ::
 ⟨(some 18), none, .p (.iaddrS 3), [.t 13, .c (.int .i64 0)]⟩ ::
 ⟨(some 19), none, .p (.faddr 1), [.t 18]⟩ ::
 ⟨none, none, .e (.store 1), [.t 19, .t 17]⟩ ::
 []))
(.seq (.ops (⟨(some 20), none, .p .mov, [.t 0]⟩ ::
 ⟨(some 21), none, .p .nilchk, [.t 20]⟩ ::
 ⟨(some 22), none, .p (.faddr 0), [.t 21]⟩ ::
 ⟨(some 23), none, .r .load1, [.t 22]⟩ ::
 ⟨(some 24), none, .p (.iaddrS 3), [.t 23, .c (.int .i64 0)]⟩ ::
 ⟨(some 25), none, .p (.faddr 1), [.t 24]⟩ ::
 ⟨(some 26), none, .r .load1, [.t 25]⟩ ::
 ⟨(some 27), none, .p (.bin .eql), [.t 26, .c (.int .i64 0)]⟩ ::
 []))
(.cond (.t 27)
(.ops (⟨(some 28), none, .p .mov, [.t 0]⟩ ::
 ⟨(some 29), none, .call, [.c (.func (.func 163) [] []), .t 28]⟩ ::
 []))
.skip)))
(.seq (.ops (⟨(some 2), none, .p .mov, [.c (.int .i64 0)]⟩ ::
 []))
.ret))))⟩
abbrev f_act_Row_Ran : Nat := 133
abbrev C_act_Row_Ran : AFunc := C133
def C134 : AFunc := ⟨14, [.tmp 2, .tmp 3],
(.seq (.ops (⟨(some 2), none, .p .mov, [.c (.int .i64 0)]⟩ ::
 ⟨(some 3), none, .p .mov, [.c (.int .i64 0)]⟩ ::
 []))
(.seq (.seq (.ops (⟨(some 4), none, .p .mov, [.t 0]⟩ ::
 ⟨(some 5), none, .call, [.c (.func (.func 108) [] []), .t 4]⟩ ::
 []))
(.cond (.t 5)
(.seq (.ops (⟨(some 2), none, .p .mov, [.c (.int .i64 0)]⟩ ::
 ⟨(some 3), none, .p .mov, [.c (.int .i64 0)]⟩ ::
 []))
.ret)
.skip))
(.seq (.dops (⟨(some 6), none, .p .mov, [.t 0]⟩ ::
 ⟨(some 7), none, .p .nilchk, [.t 6]⟩ ::
 ⟨(some 8), none, .p (.faddr 11), [.t 7]⟩ ::
 ⟨(some 9), none, .r .load1, [.t 8]⟩ ::
 ⟨(some 10), none, .p .mov, [.t 0]⟩ ::
 ⟨(some 11), none, .p .nilchk, [.t 10]⟩ ::
 ⟨(some 12), none, .p (.faddr 12), [.t 11]⟩ ::
 ⟨(some 13), none, .r .load1, [.t 12]⟩ ::
 ⟨(some 2), none, .p .mov, [.t 9]⟩ ::
 ⟨(some 3), none, .p .mov, [.t 13]⟩ ::
 []) ([] :: [] :: [] :: [] :: [] :: [] :: [] :: [] :: [] :: [] :: []))
.ret)))⟩
abbrev f_job_Job_In : Nat := 134
abbrev C_job_Job_In : AFunc := C134
def C135 : AFunc := ⟨27, [.tmp 4],
(.seq (.ops (⟨(some 4), none, .p .mov, [.c (.int .i64 0)]⟩ ::
 []))
(.seq (.block 0 (.seq (.ops (⟨(some 6), none, .p .mov, [.t 0]⟩ ::
 ⟨(some 7), none, .p (.eq .nilptr), [.t 6, .c .nilp]⟩ ::
 ⟨(some 8), none, .p .mov, [.t 7]⟩ ::
 ⟨(some 9), (some (8, false)), .p .mov, [.t 0]⟩ ::
 ⟨(some 10), (some (8, false)), .p .nilchk, [.t 9]⟩ ::
 ⟨(some 11), (some (8, false)), .p (.faddr 2), [.t 10]⟩ ::
 ⟨(some 12), (some (8, false)), .r .load1, [.t 11]⟩ ::
 ⟨(some 13), (some (8, false)), .p .not, [.t 12]⟩ ::
 ⟨(some 14), none, .p .pick, [.t 8, .c (.bool true), .t 13]⟩ ::
 ⟨(some 5), none, .p .mov, [.t 14]⟩ ::
 []))
(.cond (.t 5)
(.seq (.ops (⟨(some 4), none, .p .mov, [.c (.int .i64 1)]⟩ ::
 []))
.ret)
(.seq (.ops (⟨(some 16), none, .p .mov, [.t 1]⟩ ::
 ⟨(some 17), none, .p (.bin .lss), [.t 16, .c (.int .i64 0)]⟩ ::
 ⟨(some 18), none, .p .mov, [.t 17]⟩ ::
 ⟨(some 19), (some (18, false)), .p .mov, [.t 1]⟩ ::
 ⟨(some 20), (some (18, false)), .p .mov, [.t 0]⟩ ::
 ⟨(some 21), (some (18, false)), .p .nilchk, [.t 20]⟩ ::
 ⟨(some 22), (some (18, false)), .p (.faddr 0), [.t 21]⟩ ::
 ⟨(some 23), (some (18, false)), .r .load1, [.t 22]⟩ ::
 ⟨(some 24), (some (18, false)), .p .lenS, [.t 23]⟩ ::
 ⟨(some 25), (some (18, false)), .p (.bin .geq), [.t 19, .t 24]⟩ ::
 ⟨(some 26), none, .p .pick, [.t 18, .c (.bool true), .t 25]⟩ ::
 ⟨(some 15), none, .p .mov, [.t 26]⟩ ::
 []))
(.cond (.t 15)
(.seq (.ops (⟨(some 4), none, .p .mov, [.c (.int .i64 9)]⟩ ::
 []))
.ret)
.skip)))))
(.seq (.ops (⟨(some 4), none, .p .mov, [.c (.int .i64 0)]⟩ ::
 []))
.ret)))⟩
abbrev f_stack_Stack_asked : Nat := 135
abbrev C_stack_Stack_asked : AFunc := C135
def C136 : AFunc := ⟨8, [.tmp 3],
(.seq (.ops (⟨(some 2), none, .a .box, [.t 0]⟩ ::
 ⟨(some 3), none, .p .mov, [.c (.bool false)]⟩ ::
 []))
(.seq (.ops (⟨(some 4), none, .p (.faddr 1), [.t 2]⟩ ::
 ⟨(some 5), none, .r .load1, [.t 4]⟩ ::
 ⟨(some 6), none, .r .load1, [.t 1]⟩ ::
 ⟨(some 7), none, .p (.bin .eql), [.t 5, .t 6]⟩ ::
 ⟨(some 3), none, .p .mov, [.t 7]⟩ ::
 []))
.ret))⟩
abbrev f_stack_Stack_Lock_1 : Nat := 136
abbrev C_stack_Stack_Lock_1 : AFunc := C136
def C137 : AFunc := ⟨32, [.tmp 6],
(.seq (.ops (⟨(some 6), none, .p .mov, [.c (.bool false)]⟩ ::
 []))
(.seq (.seq (.ops (⟨(some 7), none, .p .mov, [.t 1]⟩ ::
 ⟨(some 8), none, .p (.bin .lss), [.t 7, .c (.int .i64 0)]⟩ ::
 ⟨(some 9), none, .p .mov, [.t 8]⟩ ::
 ⟨(some 10), (some (9, false)), .p .mov, [.t 1]⟩ ::
 ⟨(some 11), (some (9, false)), .p .mov, [.t 0]⟩ ::
 ⟨(some 12), (some (9, false)), .p .lenS, [.t 11]⟩ ::
 ⟨(some 13), (some (9, false)), .p (.bin .geq), [.t 10, .t 12]⟩ ::
 ⟨(some 14), none, .p .pick, [.t 9, .c (.bool true), .t 13]⟩ ::
 ⟨(some 15), none, .p .mov, [.t 14]⟩ ::
 ⟨(some 16), (some (15, false)), .p .mov, [.t 2]⟩ ::
 ⟨(some 17), (some (15, false)), .p (.bin .lss), [.t 16, .c (.int .i64 0)]⟩ ::
 ⟨(some 18), none, .p .pick, [.t 15, .c (.bool true), .t 17]⟩ ::
 ⟨(some 19), none, .p .mov, [.t 18]⟩ ::
 ⟨(some 20), (some (19, false)), .p .mov, [.t 2]⟩ ::
 ⟨(some 21), (some (19, false)), .p (.bin .geq), [.t 20, .c (.int .i64 8)]⟩ ::
 ⟨(some 22), none, .p .pick, [.t 19, .c (.bool true), .t 21]⟩ ::
 []))
(.cond (.t 22)
(.seq (.ops (⟨(some 6), none, .p .mov, [.c (.bool false)]⟩ ::
 []))
.ret)
.skip))
(.seq (.dops (⟨(some 23), none, .p .mov, [.t 0]⟩ ::
 ⟨(some 24), none, .p .mov, [.t 1]⟩ ::
 ⟨(some 25), none, .p (.iaddrS 8), [.t 23, .t 24]⟩ ::
 ⟨(some 26), none, .p (.faddr 3), [.t 25]⟩ ::
 ⟨(some 27), none, .r .load1, [.t 26]⟩ ::
 ⟨(some 28), none, .p .mov, [.t 2]⟩ ::
 ⟨(some 29), none, .p (.bin .shl), [.c (.int .i64 1), .t 28]⟩ ::
 ⟨(some 30), none, .p (.bin .and), [.t 27, .t 29]⟩ ::
 ⟨(some 31), none, .p (.bin .neq), [.t 30, .c (.int .i64 0)]⟩ ::
 ⟨(some 6), none, .p .mov, [.t 31]⟩ ::
 []) ([] :: [] :: [] :: [] :: [] :: [] :: [] :: [] :: [] :: [] :: []))
.ret)))⟩
abbrev f_level_Uses : Nat := 137
abbrev C_level_Uses : AFunc := C137
def C138 : AFunc := ⟨9, [.tmp 4],
(.seq (.ops (⟨(some 4), none, .p .mov, [.c (.bool false)]⟩ ::
 []))
(.seq (.ops (⟨(some 5), none, .p .mov, [.t 0]⟩ ::
 ⟨(some 6), none, .p .mov, [.t 1]⟩ ::
 ⟨(some 7), none, .call, [.c (.func (.func 164) [] []), .t 5, .t 6]⟩ ::
 ⟨(some 8), none, .p (.bin .geq), [.t 7, .c (.int .i64 0)]⟩ ::
 ⟨(some 4), none, .p .mov, [.t 8]⟩ ::
 []))
.ret))⟩
abbrev f_slices_ContainsFunc_stack_entry_stack_entry : Nat := 138
abbrev C_slices_ContainsFunc_stack_entry_stack_entry : AFunc := C138
def L_stack_Stack_last_0a : AC := (.seq (.ops (⟨(some 6), none, .p .mov, [.t 15]⟩ ::
 []))
(.ops (⟨(some 7), none, .a (.alloc [(.int .i64 0), (.int .i64 0)]), []⟩ ::
 ⟨none, none, .e (.store 2), [.t 7, .t 16]⟩ ::
 [])))
def L_stack_Stack_last_0b : AC := (.block 1 (.seq (.ops (⟨(some 17), none, .r .load1, [.t 5]⟩ ::
 ⟨(some 18), none, .r (.loadN 2), [.t 7]⟩ ::
 ⟨(some 19), none, .call, [.t 17, .t 18]⟩ ::
 []))
(.cond (.t 19)
(.seq (.ops (⟨(some 20), none, .p .mov, [.t 6]⟩ ::
 ⟨none, none, .e (.store 1), [.t 4, .t 20]⟩ ::
 []))
.ret)
.skip)))
def C139 : AFunc := ⟨21, [.cell 4 1 false],
(.seq (.ops (⟨(some 4), none, .a (.alloc [(.int .i64 0)]), []⟩ ::
 []))
(.seq (.ops (⟨(some 8), none, .p .mov, [.t 1]⟩ ::
 ⟨(some 9), none, .call, [.c (.func (.func 109) [] []), .t 8]⟩ ::
 ⟨(some 5), none, .a (.alloc [.nilf]), []⟩ ::
 ⟨none, none, .e (.store 1), [.t 5, .t 9]⟩ ::
 []))
(.seq (.seq (.ops (⟨(some 10), none, .p .mov, [.t 0]⟩ ::
 ⟨(some 11), none, .p .nilchk, [.t 10]⟩ ::
 ⟨(some 12), none, .p (.faddr 1), [.t 11]⟩ ::
 ⟨(some 13), none, .r .load1, [.t 12]⟩ ::
 ⟨(some 14), none, .call, [.c (.func (.func 165) [] []), .t 13]⟩ ::
 []))
(.block 0 (.rangeFunc (.t 14) [15, 16] L_stack_Stack_last_0a L_stack_Stack_last_0b)))
(.seq (.ops (⟨none, none, .e (.store 1), [.t 4, .c (.int .i64 (-1))]⟩ ::
 []))
.ret))))⟩
abbrev f_stack_Stack_last : Nat := 139
abbrev C_stack_Stack_last : AFunc := C139
def C140 : AFunc := ⟨21, [.tmp 4],
(.seq (.ops (⟨(some 4), none, .p .mov, [.c (.bool false)]⟩ ::
 []))
(.seq (.ops (⟨(some 8), none, .p .mov, [.t 0]⟩ ::
 ⟨(some 9), none, .p .mov, [.t 1]⟩ ::
 ⟨(some 10), none, .call, [.c (.func (.func 166) [] []), .t 8, .t 9]⟩ ::
 ⟨(some 7), none, .p .mov, [.t 10]⟩ ::
 ⟨(some 11), none, .p (.ext 0), [.t 7]⟩ ::
 ⟨(some 12), none, .p (.ext 1), [.t 7]⟩ ::
 ⟨(some 5), none, .p .mov, [.t 11]⟩ ::
 ⟨(some 6), none, .p .mov, [.t 12]⟩ ::
 []))
(.seq (.seq (.ops (⟨(some 13), none, .p .mov, [.t 6]⟩ ::
 []))
(.cond (.t 13)
(.ops (⟨(some 14), none, .p .mov, [.t 0]⟩ ::
 ⟨(some 15), none, .p .nilchk, [.t 14]⟩ ::
 ⟨(some 16), none, .p (.faddr 0), [.t 15]⟩ ::
 ⟨(some 17), none, .r .load1, [.t 16]⟩ ::
 ⟨(some 18), none, .p .mov, [.t 5]⟩ ::
 ⟨(some 19), none, .call, [.c (.func (.func 167) [] []), .t 17, .t 18]⟩ ::
 []))
.skip))
(.seq (.ops (⟨(some 20), none, .p .mov, [.t 6]⟩ ::
 ⟨(some 4), none, .p .mov, [.t 20]⟩ ::
 []))
.ret))))⟩
abbrev f_rank_Rank_Remove : Nat := 140
abbrev C_rank_Rank_Remove : AFunc := C140
def C141 : AFunc := ⟨13, [.tmp 2, .tmp 3],
(.seq (.ops (⟨(some 2), none, .p .mov, [.c .nilp]⟩ ::
 ⟨(some 3), none, .p .mov, [.c (.int .i64 0)]⟩ ::
 []))
(.seq (.seq (.ops (⟨(some 4), none, .p .mov, [.t 0]⟩ ::
 ⟨(some 5), none, .p .lenS, [.t 4]⟩ ::
 ⟨(some 6), none, .p (.bin .gtr), [.t 5, .c (.int .i64 32)]⟩ ::
 []))
(.cond (.t 6)
(.seq (.ops (⟨(some 2), none, .p .mov, [.c .nilp]⟩ ::
 ⟨(some 3), none, .p .mov, [.c (.int .i64 5)]⟩ ::
 []))
.ret)
.skip))
(.seq (.seq (.ops (⟨(some 7), none, .p .mov, [.t 0]⟩ ::
 ⟨(some 8), none, .call, [.c (.func (.func 168) [] []), .t 7, .c (.func (.func 169) [] [])]⟩ ::
 []))
(.cond (.t 8)
(.seq (.ops (⟨(some 2), none, .p .mov, [.c .nilp]⟩ ::
 ⟨(some 3), none, .p .mov, [.c (.int .i64 2)]⟩ ::
 []))
.ret)
.skip))
(.seq (.ops (⟨(some 9), none, .p .mov, [.t 0]⟩ ::
 ⟨(some 10), none, .call, [.c (.func (.func 171) [] []), .t 9]⟩ ::
 ⟨(some 11), none, .p (.build [.nils, (.bool false)] [(0, 1), (1, 1)]), [.t 10, .c (.bool true)]⟩ ::
 ⟨(some 12), none, .a .box, [.t 11]⟩ ::
 ⟨(some 2), none, .p .mov, [.t 12]⟩ ::
 ⟨(some 3), none, .p .mov, [.c (.int .i64 0)]⟩ ::
 []))
.ret))))⟩
abbrev f_act_New : Nat := 141
abbrev C_act_New : AFunc := C141
def C142 : AFunc := ⟨21, [.tmp 4],
(.seq (.ops (⟨(some 4), none, .p .mov, [.c (.int .i64 0)]⟩ ::
 []))
(.seq (.block 0 (.seq (.ops (⟨(some 6), none, .p .mov, [.t 0]⟩ ::
 ⟨(some 7), none, .call, [.c (.func (.func 144) [] []), .t 6]⟩ ::
 ⟨(some 5), none, .p .mov, [.t 7]⟩ ::
 []))
(.cond (.t 5)
(.seq (.ops (⟨(some 4), none, .p .mov, [.c (.int .i64 1)]⟩ ::
 []))
.ret)
(.seq (.ops (⟨(some 9), none, .p .mov, [.t 1]⟩ ::
 ⟨(some 10), none, .p (.bin .lss), [.t 9, .c (.int .i64 0)]⟩ ::
 ⟨(some 8), none, .p .mov, [.t 10]⟩ ::
 []))
(.cond (.t 8)
(.seq (.ops (⟨(some 4), none, .p .mov, [.c (.int .i64 2)]⟩ ::
 []))
.ret)
(.seq (.ops (⟨(some 12), none, .p .mov, [.t 1]⟩ ::
 ⟨(some 13), none, .p (.bin .gtr), [.t 12, .c (.int .i64 1099511627776)]⟩ ::
 ⟨(some 11), none, .p .mov, [.t 13]⟩ ::
 []))
(.cond (.t 11)
(.seq (.ops (⟨(some 4), none, .p .mov, [.c (.int .i64 10)]⟩ ::
 []))
.ret)
(.seq (.ops (⟨(some 15), none, .p .mov, [.t 1]⟩ ::
 ⟨(some 16), none, .p .mov, [.t 0]⟩ ::
 ⟨(some 17), none, .p .nilchk, [.t 16]⟩ ::
 ⟨(some 18), none, .p (.faddr 1), [.t 17]⟩ ::
 ⟨(some 19), none, .r .load1, [.t 18]⟩ ::
 ⟨(some 20), none, .p (.bin .lss), [.t 15, .t 19]⟩ ::
 ⟨(some 14), none, .p .mov, [.t 20]⟩ ::
 []))
(.cond (.t 14)
(.seq (.ops (⟨(some 4), none, .p .mov, [.c (.int .i64 140)]⟩ ::
 []))
.ret)
.skip)))))))))
(.seq (.ops (⟨(some 4), none, .p .mov, [.c (.int .i64 0)]⟩ ::
 []))
.ret)))⟩
abbrev f_spore_Guard_asked : Nat := 142
abbrev C_spore_Guard_asked : AFunc := C142
def C143 : AFunc := ⟨55, [.tmp 6],
(.seq (.ops (⟨(some 6), none, .p .mov, [.c (.int .i64 0)]⟩ ::
 []))
(.seq (.seq (.ops (⟨(some 10), none, .p .mov, [.t 0]⟩ ::
 ⟨(some 11), none, .p .mov, [.t 1]⟩ ::
 ⟨(some 12), none, .call, [.c (.func (.func 172) [] []), .t 10, .t 11]⟩ ::
 ⟨(some 7), none, .p .mov, [.t 12]⟩ ::
 []))
(.seq (.ops (⟨(some 13), none, .p .mov, [.t 7]⟩ ::
 ⟨(some 14), none, .p (.bin .neq), [.t 13, .c (.int .i64 0)]⟩ ::
 []))
(.cond (.t 14)
(.seq (.ops (⟨(some 15), none, .p .mov, [.t 7]⟩ ::
 ⟨(some 6), none, .p .mov, [.t 15]⟩ ::
 []))
.ret)
.skip)))
(.seq (.seq (.ops (⟨(some 17), none, .p .mov, [.t 0]⟩ ::
 ⟨(some 18), none, .p .mov, [.t 1]⟩ ::
 ⟨(some 19), none, .call, [.c (.func (.func 166) [] []), .t 17, .t 18]⟩ ::
 ⟨(some 16), none, .p .mov, [.t 19]⟩ ::
 ⟨(some 20), none, .p (.ext 0), [.t 16]⟩ ::
 ⟨(some 21), none, .p (.ext 1), [.t 16]⟩ ::
 ⟨(some 8), none, .p .mov, [.t 20]⟩ ::
 ⟨(some 9), none, .p .mov, [.t 21]⟩ ::
 []))
(.seq (.ops (⟨(some 22), none, .p .mov, [.t 9]⟩ ::
 []))
(.cond (.t 22)
(.seq (.ops (⟨(some 6), none, .p .mov, [.c (.int .i64 141)]⟩ ::
 []))
.ret)
.skip)))
(.seq (.dops (⟨(some 23), none, .p .mov, [.t 0]⟩ ::
 ⟨(some 24), none, .p .nilchk, [.t 23]⟩ ::
 ⟨(some 25), none, .p (.faddr 0), [.t 24]⟩ ::
 ⟨(some 26), none, .r .load1, [.t 25]⟩ ::
 ⟨(some 27), none, .p .mov, [.t 0]⟩ ::
 ⟨(some 28), none, .p .nilchk, [.t 27]⟩ ::
 ⟨(some 29), none, .p (.faddr 0), [.t 28]⟩ ::
 ⟨(some 30), none, .r .load1, [.t 29]⟩ ::
 ⟨(some 31), none, .p .nilchk, [.t 30]⟩ ::
 ⟨(some 32), none, .p (.faddr 0), [.t 31]⟩ ::
 ⟨(some 33), none, .r .load1, [.t 32]⟩ ::
 ⟨(some 34), none, .p .mov, [.t 1]⟩ ::
 ⟨(some 35), none, .p .mov, [.t 2]⟩ ::
 ⟨(some 36), none, .p (.build [(.int .i64 0), (.int .i64 0)] [(0, 1), (1, 1)]), [.t 34, .t 35]⟩ ::
 ⟨(some 37), none, .a (.bslice [(.int .i64 0), (.int .i64 0)] 1 2 [0]), [.t 36]⟩ ::
 ⟨(some 38), none, .e (.append 2 16), [.t 33, .t 37]⟩ ::
 ⟨(some 39), none, .p .nilchk, [.t 26]⟩ ::
 ⟨(some 40), none, .p (.faddr 0), [.t 39]⟩ ::
 ⟨none, none, .e (.store 1), [.t 40, .t 38]⟩ ::
 []) ([] :: [] :: [] :: [0, 16] :: [] :: [] :: [] :: [] :: [] :: [] :: [] :: [] :: [] :: [] :: [] :: [] :: [] :: [] :: [] :: []))
(.seq (.dops (⟨(some 41), none, .p .mov, [.t 0]⟩ ::
 ⟨(some 42), none, .p .nilchk, [.t 41]⟩ ::
 ⟨(some 43), none, .p (.faddr 0), [.t 42]⟩ ::
 ⟨(some 44), none, .r .load1, [.t 43]⟩ ::
 ⟨(some 45), none, .p .mov, [.t 0]⟩ ::
 ⟨(some 46), none, .p .nilchk, [.t 45]⟩ ::
 ⟨(some 47), none, .p (.faddr 0), [.t 46]⟩ ::
 ⟨(some 48), none, .r .load1, [.t 47]⟩ ::
 ⟨(some 49), none, .p .nilchk, [.t 48]⟩ ::
 ⟨(some 50), none, .p (.faddr 0), [.t 49]⟩ ::
 ⟨(some 51), none, .r .load1, [.t 50]⟩ ::
 ⟨(some 52), none, .p .lenS, [.t 51]⟩ ::
 ⟨(some 53), none, .p (.bin .sub), [.t 52, .c (.int .i64 1)]⟩ ::
 ⟨(some 54), none, .call, [.c (.func (.func 173) [] []), .t 44, .t 53]⟩ ::
 []) ([] :: [] :: [] :: [] :: [] :: [] :: [] :: [] :: [] :: [] :: [] :: [] :: [] :: [] :: []))
(.seq (.ops (⟨(some 6), none, .p .mov, [.c (.int .i64 0)]⟩ ::
 []))
.ret))))))⟩
abbrev f_rank_Rank_Put : Nat := 143
abbrev C_rank_Rank_Put : AFunc := C143
def C144 : AFunc := ⟨12, [.tmp 2],
(.seq (.ops (⟨(some 2), none, .p .mov, [.c (.bool false)]⟩ ::
 []))
(.seq (.ops (⟨(some 3), none, .p .mov, [.t 0]⟩ ::
 ⟨(some 4), none, .p (.eq .nilptr), [.t 3, .c .nilp]⟩ ::
 ⟨(some 5), none, .p .mov, [.t 4]⟩ ::
 ⟨(some 6), (some (5, false)), .p .mov, [.t 0]⟩ ::
 ⟨(some 7), (some (5, false)), .p .nilchk, [.t 6]⟩ ::
 ⟨(some 8), (some (5, false)), .p (.faddr 0), [.t 7]⟩ ::
 ⟨(some 9), (some (5, false)), .r .load1, [.t 8]⟩ ::
 ⟨(some 10), (some (5, false)), .p (.bin .eql), [.t 9, .c (.int .i64 0)]⟩ ::
 ⟨(some 11), none, .p .pick, [.t 5, .c (.bool true), .t 10]⟩ ::
 ⟨(some 2), none, .p .mov, [.t 11]⟩ ::
 []))
.ret))⟩
abbrev f_spore_Guard_none : Nat := 144
abbrev C_spore_Guard_none : AFunc := C144
def L_act_Row_Left_0 : AC := (.seq (.ops (⟨(some 13), none, .p (.bin .lss), [.t 12, .t 11]⟩ ::
 []))
(.seq (.cond (.t 13)
.skip
(.exit 0))
(.seq (.block 1 (.seq (.ops (⟨(some 14), none, .p (.iaddrS 3), [.t 10, .t 12]⟩ ::
 ⟨(some 15), none, .r (.loadN 3), [.t 14]⟩ ::
 ⟨(some 4), none, .a (.alloc [(.int .i64 0), (.int .i64 0), (.str [])]), []⟩ ::
 ⟨none, none, .e (.store 3), [.t 4, .t 15]⟩ ::
 []))
(.seq (.ops (⟨(some 16), none, .p (.faddr 0), [.t 4]⟩ ::
 ⟨(some 17), none, .r .load1, [.t 16]⟩ ::
 ⟨(some 18), none, .p (.bin .eql), [.t 17, .c (.int .i64 1)]⟩ ::
 []))
(.cond (.t 18)
(.ops (⟨(some 19), none, .p .mov, [.t 2]⟩ ::
 ⟨(some 20), none, .p (.faddr 1), [.t 4]⟩ ::
 ⟨(some 21), none, .r .load1, [.t 20]⟩ ::
 ⟨(some 22), none, .p (.bin .add), [.t 19, .t 21]⟩ ::
 ⟨(some 2), none, .p .mov, [.t 22]⟩ ::
 []))
.skip))))
(.ops (⟨(some 23), none, .p (.bin .add), [.t 12, .c (.int .i64 1)]⟩ ::
 ⟨(some 12), none, .p .mov, [.t 23]⟩ ::
 [])))))
def C145 : AFunc := ⟨25, [.tmp 2],
(.seq (.ops (⟨(some 2), none, .p .mov, [.c (.int .i64 0)]⟩ ::
 []))
(.seq (.seq (.ops (⟨(some 5), none, .p .mov, [.t 0]⟩ ::
 ⟨(some 6), none, .call, [.c (.func (.func 161) [] []), .t 5]⟩ ::
 []))
(.cond (.t 6)
(.seq (.ops (⟨(some 2), none, .p .mov, [.c (.int .i64 0)]⟩ ::
 []))
.ret)
.skip))
(.seq (.seq (.ops (⟨(some 7), none, .p .mov, [.t 0]⟩ ::
 ⟨(some 8), none, .p .nilchk, [.t 7]⟩ ::
 ⟨(some 9), none, .p (.faddr 0), [.t 8]⟩ ::
 ⟨(some 10), none, .r .load1, [.t 9]⟩ ::
 ⟨(some 11), none, .p .lenS, [.t 10]⟩ ::
 ⟨(some 12), none, .p .mov, [.c (.int .i64 0)]⟩ ::
 []))
(.block 0 (.loop L_act_Row_Left_0)))
(.seq (.ops (⟨(some 24), none, .p .mov, [.t 2]⟩ ::
 ⟨(some 2), none, .p .mov, [.t 24]⟩ ::
 []))
.ret))))⟩
abbrev f_act_Row_Left : Nat := 145
abbrev C_act_Row_Left : AFunc := C145
def C146 : AFunc := ⟨38, [.tmp 4],
(.seq (.ops (⟨(some 3), none, .a .box, [.t 1]⟩ ::
 ⟨(some 4), none, .p .mov, [.c (.bool false)]⟩ ::
 []))
(.seq (.seq (.ops (⟨(some 5), none, .p .mov, [.t 0]⟩ ::
 ⟨(some 6), none, .p .nilchk, [.t 5]⟩ ::
 ⟨(some 7), none, .p (.faddr 11), [.t 6]⟩ ::
 ⟨(some 8), none, .r .load1, [.t 7]⟩ ::
 []))
(.block 0 (.seq (.ops (⟨(some 10), none, .p (.bin .eql), [.t 8, .c (.int .i64 2)]⟩ ::
 ⟨(some 9), none, .p .mov, [.t 10]⟩ ::
 []))
(.cond (.t 9)
(.seq (.dops (⟨(some 11), none, .p .mov, [.t 0]⟩ ::
 ⟨(some 12), none, .p .nilchk, [.t 11]⟩ ::
 ⟨(some 13), none, .p (.faddr 12), [.t 12]⟩ ::
 ⟨(some 14), none, .r .load1, [.t 13]⟩ ::
 ⟨(some 15), none, .p .mov, [.t 0]⟩ ::
 ⟨(some 16), none, .p .nilchk, [.t 15]⟩ ::
 ⟨(some 17), none, .p (.faddr 1), [.t 16]⟩ ::
 ⟨(some 18), none, .p (.faddr 6), [.t 17]⟩ ::
 ⟨(some 19), none, .r .load1, [.t 18]⟩ ::
 ⟨(some 20), none, .p (.bin .geq), [.t 14, .t 19]⟩ ::
 ⟨(some 4), none, .p .mov, [.t 20]⟩ ::
 []) ([] :: [] :: [] :: [] :: [] :: [] :: [] :: [] :: [] :: [] :: [] :: []))
.ret)
(.seq (.ops (⟨(some 22), none, .p (.bin .eql), [.t 8, .c (.int .i64 1)]⟩ ::
 ⟨(some 21), none, .p .mov, [.t 22]⟩ ::
 []))
(.cond (.t 21)
(.seq (.dops (⟨(some 23), none, .p .mov, [.t 0]⟩ ::
 ⟨(some 24), none, .p .nilchk, [.t 23]⟩ ::
 ⟨(some 25), none, .p (.faddr 12), [.t 24]⟩ ::
 ⟨(some 26), none, .r .load1, [.t 25]⟩ ::
 ⟨(some 27), none, .p .mov, [.t 0]⟩ ::
 ⟨(some 28), none, .p .nilchk, [.t 27]⟩ ::
 ⟨(some 29), none, .p (.faddr 1), [.t 28]⟩ ::
 ⟨(some 30), none, .p (.faddr 4), [.t 29]⟩ ::
 ⟨(some 31), none, .r .load1, [.t 30]⟩ ::
 ⟨(some 32), none, .p (.bin .geq), [.t 26, .t 31]⟩ ::
 ⟨(some 33), none, .p .mov, [.t 32]⟩ ::
 ⟨(some 34), (some (33, true)), .p (.faddr 0), [.t 3]⟩ ::
 ⟨(some 35), (some (33, true)), .r .load1, [.t 34]⟩ ::
 ⟨(some 36), (some (33, true)), .p (.bin .eql), [.t 35, .c (.int .i64 1)]⟩ ::
 ⟨(some 37), none, .p .pick, [.t 33, .t 36, .c (.bool false)]⟩ ::
 ⟨(some 4), none, .p .mov, [.t 37]⟩ ::
 []) ([] :: [] :: [] :: [] :: [] :: [] :: [] :: [] :: [] :: [] :: [] :: [] :: [] :: [] :: [] :: [] :: []))
.ret)
.skip))))))
(.seq (.ops (⟨(some 4), none, .p .mov, [.c (.bool false)]⟩ ::
 []))
.ret)))⟩
abbrev f_job_Job_over : Nat := 146
abbrev C_job_Job_over : AFunc := C146
def L_rank_Rank_Ids_0 : AC := (.seq (.ops (⟨(some 21), none, .p (.bin .lss), [.t 20, .t 19]⟩ ::
 []))
(.seq (.cond (.t 21)
.skip
(.exit 0))
(.seq (.block 1 (.seq (.ops (⟨(some 22), none, .p (.iaddrS 2), [.t 18, .t 20]⟩ ::
 ⟨(some 23), none, .r (.loadN 2), [.t 22]⟩ ::
 ⟨(some 5), none, .a (.alloc [(.int .i64 0), (.int .i64 0)]), []⟩ ::
 ⟨none, none, .e (.store 2), [.t 5, .t 23]⟩ ::
 []))
(.ops (⟨(some 24), none, .p .mov, [.t 2]⟩ ::
 ⟨(some 25), none, .p (.faddr 0), [.t 5]⟩ ::
 ⟨(some 26), none, .r .load1, [.t 25]⟩ ::
 ⟨(some 27), none, .a (.bslice [(.int .i64 0)] 1 1 [0]), [.t 26]⟩ ::
 ⟨(some 28), none, .e (.append 1 8), [.t 24, .t 27]⟩ ::
 ⟨(some 2), none, .p .mov, [.t 28]⟩ ::
 []))))
(.ops (⟨(some 29), none, .p (.bin .add), [.t 20, .c (.int .i64 1)]⟩ ::
 ⟨(some 20), none, .p .mov, [.t 29]⟩ ::
 [])))))
def C147 : AFunc := ⟨31, [.tmp 2],
(.seq (.ops (⟨(some 2), none, .p .mov, [.c .nils]⟩ ::
 []))
(.seq (.seq (.ops (⟨(some 6), none, .p .mov, [.t 0]⟩ ::
 ⟨(some 7), none, .call, [.c (.func (.func 151) [] []), .t 6]⟩ ::
 []))
(.cond (.t 7)
(.seq (.ops (⟨(some 2), none, .p .mov, [.c .nils]⟩ ::
 []))
.ret)
.skip))
(.seq (.ops (⟨(some 8), none, .p .mov, [.t 0]⟩ ::
 ⟨(some 9), none, .p .nilchk, [.t 8]⟩ ::
 ⟨(some 10), none, .p (.faddr 0), [.t 9]⟩ ::
 ⟨(some 11), none, .r .load1, [.t 10]⟩ ::
 ⟨(some 12), none, .p .nilchk, [.t 11]⟩ ::
 ⟨(some 13), none, .p (.faddr 0), [.t 12]⟩ ::
 ⟨(some 14), none, .r .load1, [.t 13]⟩ ::
 ⟨(some 15), none, .call, [.c (.func (.func 174) [] []), .t 14]⟩ ::
 ⟨(some 3), none, .p .mov, [.t 15]⟩ ::
 []))
(.seq (.ops (⟨(some 16), none, .p .mov, [.t 3]⟩ ::
 ⟨(some 17), none, .call, [.c (.func (.func 175) [] []), .t 16, .c (.func (.func 176) [] [])]⟩ ::
 []))
(.seq (.seq (.ops (⟨(some 18), none, .p .mov, [.t 3]⟩ ::
 ⟨(some 19), none, .p .lenS, [.t 18]⟩ ::
 ⟨(some 20), none, .p .mov, [.c (.int .i64 0)]⟩ ::
 []))
(.block 0 (.loop L_rank_Rank_Ids_0)))
(.seq (.ops (⟨(some 30), none, .p .mov, [.t 2]⟩ ::
 ⟨(some 2), none, .p .mov, [.t 30]⟩ ::
 []))
.ret))))))⟩
abbrev f_rank_Rank_Ids : Nat := 147
abbrev C_rank_Rank_Ids : AFunc := C147
def C148 : AFunc := ⟨21, [.cell 2 3 true, .tmp 3],
(.seq (.ops (⟨(some 2), none, .a (.alloc [(.int .i64 0), (.int .i64 0), (.str [])]), []⟩ ::
 ⟨(some 3), none, .p .mov, [.c (.bool false)]⟩ ::
 []))
(.seq (.seq (.ops (⟨(some 4), none, .p .mov, [.t 0]⟩ ::
 ⟨(some 5), none, .call, [.c (.func (.func 161) [] []), .t 4]⟩ ::
 ⟨(some 6), none, .p .mov, [.t 5]⟩ ::
 ⟨(some 7), (some (6, false)), .p .mov, [.t 0]⟩ ::
 ⟨(some 8), (some (6, false)), .p .nilchk, [.t 7]⟩ ::
 ⟨(some 9), (some (6, false)), .p (.faddr 0), [.t 8]⟩ ::
 ⟨(some 10), (some (6, false)), .r .load1, [.t 9]⟩ ::
 ⟨(some 11), (some (6, false)), .p .lenS, [.t 10]⟩ ::
 ⟨(some 12), (some (6, false)), .p (.bin .eql), [.t 11, .c (.int .i64 0)]⟩ ::
 ⟨(some 13), none, .p .pick, [.t 6, .c (.bool true), .t 12]⟩ ::
 []))
(.cond (.t 13)
(.seq (.ops (⟨(some 14), none, .p (.build [(.int .i64 0), (.int .i64 0), (.str [])] []), []⟩ ::
 ⟨none, none, .e (.store 3), [.t 2, .t 14]⟩ ::
 ⟨(some 3), none, .p .mov, [.c (.bool false)]⟩ ::
 []))
.ret)
.skip))
(.seq (.ops (⟨(some 15), none, .p .mov, [.t 0]⟩ ::
 ⟨(some 16), none, .p .nilchk, [.t 15]⟩ ::
 ⟨(some 17), none, .p (.faddr 0), [.t 16]⟩ ::
 ⟨(some 18), none, .r .load1, [.t 17]⟩ ::
 ⟨(some 19), none, .p (.iaddrS 3), [.t 18, .c (.int .i64 0)]⟩ ::
 ⟨(some 20), none, .r (.loadN 3), [.t 19]⟩ ::
 ⟨none, none, .e (.store 3), [.t 2, .t 20]⟩ ::
 ⟨(some 3), none, .p .mov, [.c (.bool true)]⟩ ::
 []))
.ret)))⟩
abbrev f_act_Row_Next : Nat := 148
abbrev C_act_Row_Next : AFunc := C148
def L_slices_IndexFunc_api_Task_api_Task_0 : AC := (.seq (.ops (⟨(some 9), none, .p (.bin .lss), [.t 8, .t 7]⟩ ::
 []))
(.seq (.cond (.t 9)
.skip
(.exit 0))
(.seq (.block 1 (.seq (.ops (⟨(some 10), none, .p .mov, [.t 8]⟩ ::
 ⟨(some 5), none, .p .mov, [.t 10]⟩ ::
 []))
(.seq (.ops (⟨(some 11), none, .p .mov, [.t 1]⟩ ::
 ⟨(some 12), none, .p .mov, [.t 0]⟩ ::
 ⟨(some 13), none, .p .mov, [.t 5]⟩ ::
 ⟨(some 14), none, .p (.iaddrS 8), [.t 12, .t 13]⟩ ::
 ⟨(some 15), none, .r (.loadN 8), [.t 14]⟩ ::
 ⟨(some 16), none, .call, [.t 11, .t 15]⟩ ::
 []))
(.cond (.t 16)
(.seq (.ops (⟨(some 17), none, .p .mov, [.t 5]⟩ ::
 ⟨(some 4), none, .p .mov, [.t 17]⟩ ::
 []))
.ret)
.skip))))
(.ops (⟨(some 18), none, .p (.bin .add), [.t 8, .c (.int .i64 1)]⟩ ::
 ⟨(some 8), none, .p .mov, [.t 18]⟩ ::
 [])))))
def C149 : AFunc := ⟨19, [.tmp 4],
(.seq (.ops (⟨(some 4), none, .p .mov, [.c (.int .i64 0)]⟩ ::
 []))
(.seq (.seq (.ops (⟨(some 6), none, .p .mov, [.t 0]⟩ ::
 ⟨(some 7), none, .p .lenS, [.t 6]⟩ ::
 ⟨(some 8), none, .p .mov, [.c (.int .i64 0)]⟩ ::
 []))
(.block 0 (.loop L_slices_IndexFunc_api_Task_api_Task_0)))
(.seq (.ops (⟨(some 4), none, .p .mov, [.c (.int .i64 (-1))]⟩ ::
 []))
.ret)))⟩
abbrev f_slices_IndexFunc_api_Task_api_Task : Nat := 149
abbrev C_slices_IndexFunc_api_Task_api_Task : AFunc := C149
def C150 : AFunc := ⟨8, [.tmp 3],
(.seq (.ops (⟨(some 2), none, .a .box, [.t 0]⟩ ::
 ⟨(some 3), none, .p .mov, [.c (.bool false)]⟩ ::
 []))
(.seq (.ops (⟨(some 4), none, .p (.faddr 0), [.t 2]⟩ ::
 ⟨(some 5), none, .r .load1, [.t 4]⟩ ::
 ⟨(some 6), none, .r .load1, [.t 1]⟩ ::
 ⟨(some 7), none, .p (.bin .eql), [.t 5, .t 6]⟩ ::
 ⟨(some 3), none, .p .mov, [.t 7]⟩ ::
 []))
.ret))⟩
abbrev f_stack_of_1 : Nat := 150
abbrev C_stack_of_1 : AFunc := C150
def C151 : AFunc := ⟨12, [.tmp 2],
(.seq (.ops (⟨(some 2), none, .p .mov, [.c (.bool false)]⟩ ::
 []))
(.seq (.ops (⟨(some 3), none, .p .mov, [.t 0]⟩ ::
 ⟨(some 4), none, .p (.eq .nilptr), [.t 3, .c .nilp]⟩ ::
 ⟨(some 5), none, .p .mov, [.t 4]⟩ ::
 ⟨(some 6), (some (5, false)), .p .mov, [.t 0]⟩ ::
 ⟨(some 7), (some (5, false)), .p .nilchk, [.t 6]⟩ ::
 ⟨(some 8), (some (5, false)), .p (.faddr 0), [.t 7]⟩ ::
 ⟨(some 9), (some (5, false)), .r .load1, [.t 8]⟩ ::
 ⟨(some 10), (some (5, false)), .p (.eq .nilptr), [.t 9, .c .nilp]⟩ ::
 ⟨(some 11), none, .p .pick, [.t 5, .c (.bool true), .t 10]⟩ ::
 ⟨(some 2), none, .p .mov, [.t 11]⟩ ::
 []))
.ret))⟩
abbrev f_rank_Rank_none : Nat := 151
abbrev C_rank_Rank_none : AFunc := C151
def L_level_highest_api_Task_0 : AC := (.seq (.ops (⟨(some 10), none, .p (.bin .lss), [.t 9, .t 8]⟩ ::
 []))
(.seq (.cond (.t 10)
.skip
(.exit 0))
(.seq (.block 1 (.seq (.ops (⟨(some 11), none, .p .mov, [.t 9]⟩ ::
 ⟨(some 12), none, .p (.iaddrS 8), [.t 7, .t 9]⟩ ::
 ⟨(some 13), none, .r (.loadN 8), [.t 12]⟩ ::
 ⟨(some 6), none, .a (.alloc [(.int .i64 0), (.int .i64 0), (.int .i64 0), (.int .i64 0), (.int .i64 0), (.int .i64 0), (.int .i64 0), (.int .i64 0)]), []⟩ ::
 ⟨(some 5), none, .p .mov, [.t 11]⟩ ::
 ⟨none, none, .e (.store 8), [.t 6, .t 13]⟩ ::
 []))
(.ops (⟨(some 14), none, .p .mov, [.t 4]⟩ ::
 ⟨(some 15), none, .p .mov, [.t 1]⟩ ::
 ⟨(some 16), none, .p .mov, [.t 5]⟩ ::
 ⟨(some 17), none, .r (.loadN 8), [.t 6]⟩ ::
 ⟨(some 18), none, .call, [.t 15, .t 16, .t 17]⟩ ::
 ⟨(some 19), none, .p .mx, [.t 14, .t 18]⟩ ::
 ⟨(some 4), none, .p .mov, [.t 19]⟩ ::
 []))))
(.ops (⟨(some 20), none, .p (.bin .add), [.t 9, .c (.int .i64 1)]⟩ ::
 ⟨(some 9), none, .p .mov, [.t 20]⟩ ::
 [])))))
def C152 : AFunc := ⟨22, [.tmp 4],
(.seq (.ops (⟨(some 4), none, .p .mov, [.c (.int .i64 0)]⟩ ::
 []))
(.seq (.seq (.ops (⟨(some 7), none, .p .mov, [.t 0]⟩ ::
 ⟨(some 8), none, .p .lenS, [.t 7]⟩ ::
 ⟨(some 9), none, .p .mov, [.c (.int .i64 0)]⟩ ::
 []))
(.block 0 (.loop L_level_highest_api_Task_0)))
(.seq (.ops (⟨(some 21), none, .p .mov, [.t 4]⟩ ::
 ⟨(some 4), none, .p .mov, [.t 21]⟩ ::
 []))
.ret)))⟩
abbrev f_level_highest_api_Task : Nat := 152
abbrev C_level_highest_api_Task : AFunc := C152
def C153 : AFunc := ⟨15, [.tmp 6],
(.seq (.ops (⟨(some 5), none, .a .box, [.t 1]⟩ ::
 ⟨(some 6), none, .p .mov, [.c (.int .i64 0)]⟩ ::
 []))
(.seq (.seq (.ops (⟨(some 7), none, .r .load1, [.t 2]⟩ ::
 ⟨(some 8), none, .p .mov, [.t 0]⟩ ::
 ⟨(some 9), none, .r .load1, [.t 3]⟩ ::
 ⟨(some 10), none, .call, [.c (.func (.func 137) [] []), .t 7, .t 8, .t 9]⟩ ::
 ⟨(some 11), none, .p .not, [.t 10]⟩ ::
 []))
(.cond (.t 11)
(.seq (.ops (⟨(some 6), none, .p .mov, [.c (.int .i64 0)]⟩ ::
 []))
.ret)
.skip))
(.seq (.ops (⟨(some 12), none, .r .load1, [.t 2]⟩ ::
 ⟨(some 13), none, .p .mov, [.t 0]⟩ ::
 ⟨(some 14), none, .call, [.c (.func (.func 52) [] []), .t 12, .t 13]⟩ ::
 ⟨(some 6), none, .p .mov, [.t 14]⟩ ::
 []))
.ret)))⟩
abbrev f_level_Ceiling_1 : Nat := 153
abbrev C_level_Ceiling_1 : AFunc := C153
def C161 : AFunc := ⟨12, [.tmp 2],
(.seq (.ops (⟨(some 2), none, .p .mov, [.c (.bool false)]⟩ ::
 []))
(.seq (.ops (⟨(some 3), none, .p .mov, [.t 0]⟩ ::
 ⟨(some 4), none, .p (.eq .nilptr), [.t 3, .c .nilp]⟩ ::
 ⟨(some 5), none, .p .mov, [.t 4]⟩ ::
 ⟨(some 6), (some (5, false)), .p .mov, [.t 0]⟩ ::
 ⟨(some 7), (some (5, false)), .p .nilchk, [.t 6]⟩ ::
 ⟨(some 8), (some (5, false)), .p (.faddr 1), [.t 7]⟩ ::
 ⟨(some 9), (some (5, false)), .r .load1, [.t 8]⟩ ::
 ⟨(some 10), (some (5, false)), .p .not, [.t 9]⟩ ::
 ⟨(some 11), none, .p .pick, [.t 5, .c (.bool true), .t 10]⟩ ::
 ⟨(some 2), none, .p .mov, [.t 11]⟩ ::
 []))
.ret))⟩
abbrev f_act_Row_none : Nat := 161
abbrev C_act_Row_none : AFunc := C161
def C162 : AFunc := ⟨19, [.tmp 2],
(.seq (.ops (⟨(some 2), none, .p .mov, [.c (.bool false)]⟩ ::
 []))
(.seq (.ops (⟨(some 3), none, .p .mov, [.t 0]⟩ ::
 ⟨(some 4), none, .p .nilchk, [.t 3]⟩ ::
 ⟨(some 5), none, .p (.faddr 0), [.t 4]⟩ ::
 ⟨(some 6), none, .r .load1, [.t 5]⟩ ::
 ⟨(some 7), none, .p .lenS, [.t 6]⟩ ::
 ⟨(some 8), none, .p (.bin .gtr), [.t 7, .c (.int .i64 0)]⟩ ::
 ⟨(some 9), none, .p .mov, [.t 8]⟩ ::
 ⟨(some 10), (some (9, true)), .p .mov, [.t 0]⟩ ::
 ⟨(some 11), (some (9, true)), .p .nilchk, [.t 10]⟩ ::
 ⟨(some 12), (some (9, true)), .p (.faddr 0), [.t 11]⟩ ::
 ⟨(some 13), (some (9, true)), .r .load1, [.t 12]⟩ ::
 ⟨(some 14), (some (9, true)), .p (.iaddrS 3), [.t 13, .c (.int .i64 0)]⟩ ::
 ⟨(some 15), (some (9, true)), .p (.faddr 0), [.t 14]⟩ ::
 ⟨(some 16), (some (9, true)), .r .load1, [.t 15]⟩ ::
 ⟨(some 17), (some (9, true)), .p (.bin .eql), [.t 16, .c (.int .i64 1)]⟩ ::
 ⟨(some 18), none, .p .pick, [.t 9, .t 17, .c (.bool false)]⟩ ::
 ⟨(some 2), none, .p .mov, [.t 18]⟩ ::
 []))
.ret))⟩
abbrev f_act_Row_runs : Nat := 162
abbrev C_act_Row_runs : AFunc := C162
def C163 : AFunc := ⟨20, [],
(.dops (⟨(some 2), none, .p .mov, [.t 0]⟩ ::
 ⟨(some 3), none, .p .mov, [.t 0]⟩ ::
 ⟨(some 4), none, .p .nilchk, [.t 3]⟩ ::
 ⟨(some 5), none, .p (.faddr 0), [.t 4]⟩ ::
 ⟨(some 6), none, .r .load1, [.t 5]⟩ ::
 ⟨(some 7), none, .p .mov, [.t 0]⟩ ::
 ⟨(some 8), none, .p .nilchk, [.t 7]⟩ ::
 ⟨(some 9), none, .p (.faddr 0), [.t 8]⟩ ::
 ⟨(some 10), none, .r .load1, [.t 9]⟩ ::
 ⟨(some 11), none, .p .lenS, [.t 10]⟩ ::
 ⟨(some 12), none, .p .mov, [.t 0]⟩ ::
 ⟨(some 13), none, .p .nilchk, [.t 12]⟩ ::
 ⟨(some 14), none, .p (.faddr 0), [.t 13]⟩ ::
 ⟨(some 15), none, .r .load1, [.t 14]⟩ ::
 ⟨(some 16), none, .p .lenS, [.t 15]⟩ ::
 ⟨(some 17), none, .p (.slice 3 true true true), [.t 6, .c (.int .i64 1), .t 11, .t 16]⟩ ::
 ⟨(some 18), none, .p .nilchk, [.t 2]⟩ ::
 ⟨(some 19), none, .p (.faddr 0), [.t 18]⟩ ::
 ⟨none, none, .e (.store 1), [.t 19, .t 17]⟩ ::
 []) ([] :: [] :: [] :: [] :: [] :: [] :: [] :: [] :: [] :: [] :: [] :: [] :: [] :: [] :: [] :: [] :: [] :: [] :: [] :: []))⟩
abbrev f_act_Row_on : Nat := 163
abbrev C_act_Row_on : AFunc := C163
def L_slices_IndexFunc_stack_entry_stack_entry_0 : AC := (.seq (.ops (⟨(some 9), none, .p (.bin .lss), [.t 8, .t 7]⟩ ::
 []))
(.seq (.cond (.t 9)
.skip
(.exit 0))
(.seq (.block 1 (.seq (.ops (⟨(some 10), none, .p .mov, [.t 8]⟩ ::
 ⟨(some 5), none, .p .mov, [.t 10]⟩ ::
 []))
(.seq (.ops (⟨(some 11), none, .p .mov, [.t 1]⟩ ::
 ⟨(some 12), none, .p .mov, [.t 0]⟩ ::
 ⟨(some 13), none, .p .mov, [.t 5]⟩ ::
 ⟨(some 14), none, .p (.iaddrS 2), [.t 12, .t 13]⟩ ::
 ⟨(some 15), none, .r (.loadN 2), [.t 14]⟩ ::
 ⟨(some 16), none, .call, [.t 11, .t 15]⟩ ::
 []))
(.cond (.t 16)
(.seq (.ops (⟨(some 17), none, .p .mov, [.t 5]⟩ ::
 ⟨(some 4), none, .p .mov, [.t 17]⟩ ::
 []))
.ret)
.skip))))
(.ops (⟨(some 18), none, .p (.bin .add), [.t 8, .c (.int .i64 1)]⟩ ::
 ⟨(some 8), none, .p .mov, [.t 18]⟩ ::
 [])))))
def C164 : AFunc := ⟨19, [.tmp 4],
(.seq (.ops (⟨(some 4), none, .p .mov, [.c (.int .i64 0)]⟩ ::
 []))
(.seq (.seq (.ops (⟨(some 6), none, .p .mov, [.t 0]⟩ ::
 ⟨(some 7), none, .p .lenS, [.t 6]⟩ ::
 ⟨(some 8), none, .p .mov, [.c (.int .i64 0)]⟩ ::
 []))
(.block 0 (.loop L_slices_IndexFunc_stack_entry_stack_entry_0)))
(.seq (.ops (⟨(some 4), none, .p .mov, [.c (.int .i64 (-1))]⟩ ::
 []))
.ret)))⟩
abbrev f_slices_IndexFunc_stack_entry_stack_entry : Nat := 164
abbrev C_slices_IndexFunc_stack_entry_stack_entry : AFunc := C164
def C165 : AFunc := ⟨4, [.tmp 2],
(.seq (.ops (⟨(some 1), none, .a .box, [.t 0]⟩ ::
 ⟨(some 2), none, .p .mov, [.c .nilf]⟩ ::
 []))
(.seq (.ops (⟨(some 3), none, .p (.mkfunc (.func 180) 0), [.t 1]⟩ ::
 ⟨(some 2), none, .p .mov, [.t 3]⟩ ::
 []))
.ret))⟩
abbrev f_slices_Backward_stack_entry_stack_entry : Nat := 165
abbrev C_slices_Backward_stack_entry_stack_entry : AFunc := C165
def C166 : AFunc := ⟨30, [.tmp 4, .tmp 5],
(.seq (.ops (⟨(some 4), none, .p .mov, [.c (.int .i64 0)]⟩ ::
 ⟨(some 5), none, .p .mov, [.c (.bool false)]⟩ ::
 []))
(.seq (.seq (.ops (⟨(some 6), none, .p .mov, [.t 0]⟩ ::
 ⟨(some 7), none, .p .mov, [.t 1]⟩ ::
 ⟨(some 8), none, .call, [.c (.func (.func 172) [] []), .t 6, .t 7]⟩ ::
 ⟨(some 9), none, .p (.bin .neq), [.t 8, .c (.int .i64 0)]⟩ ::
 []))
(.cond (.t 9)
(.seq (.ops (⟨(some 4), none, .p .mov, [.c (.int .i64 0)]⟩ ::
 ⟨(some 5), none, .p .mov, [.c (.bool false)]⟩ ::
 []))
.ret)
.skip))
(.seq (.dops (⟨(some 10), none, .p .mov, [.t 0]⟩ ::
 ⟨(some 11), none, .p .nilchk, [.t 10]⟩ ::
 ⟨(some 12), none, .p (.faddr 0), [.t 11]⟩ ::
 ⟨(some 13), none, .r .load1, [.t 12]⟩ ::
 ⟨(some 14), none, .p .mov, [.t 1]⟩ ::
 ⟨(some 15), none, .p .nilchk, [.t 13]⟩ ::
 ⟨(some 16), none, .p (.faddr 1), [.t 15]⟩ ::
 ⟨(some 17), none, .p (.iaddrA 1 64), [.t 16, .t 14]⟩ ::
 ⟨(some 18), none, .r .load1, [.t 17]⟩ ::
 ⟨(some 19), none, .p (.bin .sub), [.t 18, .c (.int .i64 1)]⟩ ::
 ⟨(some 20), none, .p .mov, [.t 0]⟩ ::
 ⟨(some 21), none, .p .nilchk, [.t 20]⟩ ::
 ⟨(some 22), none, .p (.faddr 0), [.t 21]⟩ ::
 ⟨(some 23), none, .r .load1, [.t 22]⟩ ::
 ⟨(some 24), none, .p .mov, [.t 1]⟩ ::
 ⟨(some 25), none, .p .nilchk, [.t 23]⟩ ::
 ⟨(some 26), none, .p (.faddr 1), [.t 25]⟩ ::
 ⟨(some 27), none, .p (.iaddrA 1 64), [.t 26, .t 24]⟩ ::
 ⟨(some 28), none, .r .load1, [.t 27]⟩ ::
 ⟨(some 29), none, .p (.bin .gtr), [.t 28, .c (.int .i64 0)]⟩ ::
 ⟨(some 4), none, .p .mov, [.t 19]⟩ ::
 ⟨(some 5), none, .p .mov, [.t 29]⟩ ::
 []) ([] :: [] :: [] :: [] :: [] :: [] :: [] :: [] :: [] :: [] :: [] :: [] :: [] :: [] :: [] :: [] :: [] :: [] :: [] :: [] :: [] :: [] :: []))
.ret)))⟩
abbrev f_rank_Rank_at : Nat := 166
abbrev C_rank_Rank_at : AFunc := C166
def C167 : AFunc := ⟨60, [],
(.seq (.ops (⟨(some 6), none, .p .mov, [.t 0]⟩ ::
 ⟨(some 7), none, .p .nilchk, [.t 6]⟩ ::
 ⟨(some 8), none, .p (.faddr 0), [.t 7]⟩ ::
 ⟨(some 9), none, .r .load1, [.t 8]⟩ ::
 ⟨(some 10), none, .p .lenS, [.t 9]⟩ ::
 ⟨(some 11), none, .p (.bin .sub), [.t 10, .c (.int .i64 1)]⟩ ::
 ⟨(some 4), none, .p .mov, [.t 11]⟩ ::
 []))
(.seq (.ops (⟨(some 12), none, .p .mov, [.t 0]⟩ ::
 ⟨(some 13), none, .p .nilchk, [.t 12]⟩ ::
 ⟨(some 14), none, .p (.faddr 0), [.t 13]⟩ ::
 ⟨(some 15), none, .r .load1, [.t 14]⟩ ::
 ⟨(some 16), none, .p .mov, [.t 4]⟩ ::
 ⟨(some 17), none, .p (.iaddrS 2), [.t 15, .t 16]⟩ ::
 ⟨(some 18), none, .r (.loadN 2), [.t 17]⟩ ::
 ⟨(some 5), none, .a (.alloc [(.int .i64 0), (.int .i64 0)]), []⟩ ::
 ⟨none, none, .e (.store 2), [.t 5, .t 18]⟩ ::
 []))
(.seq (.dops (⟨(some 19), none, .p .mov, [.t 0]⟩ ::
 ⟨(some 20), none, .p .mov, [.t 0]⟩ ::
 ⟨(some 21), none, .p .nilchk, [.t 20]⟩ ::
 ⟨(some 22), none, .p (.faddr 0), [.t 21]⟩ ::
 ⟨(some 23), none, .r .load1, [.t 22]⟩ ::
 ⟨(some 24), none, .p .mov, [.t 1]⟩ ::
 ⟨(some 25), none, .p (.iaddrS 2), [.t 23, .t 24]⟩ ::
 ⟨(some 26), none, .p (.faddr 0), [.t 25]⟩ ::
 ⟨(some 27), none, .r .load1, [.t 26]⟩ ::
 ⟨(some 28), none, .p .nilchk, [.t 19]⟩ ::
 ⟨(some 29), none, .p (.faddr 1), [.t 28]⟩ ::
 ⟨(some 30), none, .p (.iaddrA 1 64), [.t 29, .t 27]⟩ ::
 ⟨none, none, .e (.store 1), [.t 30, .c (.int .i64 0)]⟩ ::
 []) ([] :: [] :: [] :: [] :: [] :: [] :: [] :: [] :: [] :: [] :: [] :: [] :: [] :: []))
(.seq (.ops (⟨(some 31), none, .p .mov, [.t 0]⟩ ::
 ⟨(some 32), none, .p .mov, [.t 0]⟩ ::
 ⟨(some 33), none, .p .nilchk, [.t 32]⟩ ::
 ⟨(some 34), none, .p (.faddr 0), [.t 33]⟩ ::
 ⟨(some 35), none, .r .load1, [.t 34]⟩ ::
 ⟨(some 36), none, .p .mov, [.t 4]⟩ ::
 ⟨(some 37), none, .p (.slice 2 false true false), [.t 35, .t 36]⟩ ::
 ⟨(some 38), none, .p .nilchk, [.t 31]⟩ ::
 ⟨(some 39), none, .p (.faddr 0), [.t 38]⟩ ::
 ⟨none, none, .e (.store 1), [.t 39, .t 37]⟩ ::
 []))
(.seq (.seq (.ops (⟨(some 40), none, .p .mov, [.t 1]⟩ ::
 ⟨(some 41), none, .p .mov, [.t 4]⟩ ::
 ⟨(some 42), none, .p (.bin .eql), [.t 40, .t 41]⟩ ::
 []))
(.cond (.t 42)
.ret
.skip))
(.seq (.ops (⟨(some 43), none, .p .mov, [.t 0]⟩ ::
 ⟨(some 44), none, .p .mov, [.t 1]⟩ ::
 ⟨(some 45), none, .r (.loadN 2), [.t 5]⟩ ::
 ⟨(some 46), none, .call, [.c (.func (.func 181) [] []), .t 43, .t 44, .t 45]⟩ ::
 []))
(.seq (.ops (⟨(some 47), none, .p .mov, [.t 0]⟩ ::
 ⟨(some 48), none, .p .mov, [.t 1]⟩ ::
 ⟨(some 49), none, .call, [.c (.func (.func 173) [] []), .t 47, .t 48]⟩ ::
 []))
(.dops (⟨(some 50), none, .p .mov, [.t 0]⟩ ::
 ⟨(some 51), none, .p .mov, [.t 0]⟩ ::
 ⟨(some 52), none, .p (.faddr 0), [.t 5]⟩ ::
 ⟨(some 53), none, .r .load1, [.t 52]⟩ ::
 ⟨(some 54), none, .p .nilchk, [.t 51]⟩ ::
 ⟨(some 55), none, .p (.faddr 1), [.t 54]⟩ ::
 ⟨(some 56), none, .p (.iaddrA 1 64), [.t 55, .t 53]⟩ ::
 ⟨(some 57), none, .r .load1, [.t 56]⟩ ::
 ⟨(some 58), none, .p (.bin .sub), [.t 57, .c (.int .i64 1)]⟩ ::
 ⟨(some 59), none, .call, [.c (.func (.func 182) [] []), .t 50, .t 58]⟩ ::
 []) ([] :: [] :: [] :: [] :: [] :: [] :: [] :: [] :: [] :: [] :: [])))))))))⟩
abbrev f_rank_heaped_cut : Nat := 167
abbrev C_rank_heaped_cut : AFunc := C167
def C168 : AFunc := ⟨9, [.tmp 4],
(.seq (.ops (⟨(some 4), none, .p .mov, [.c (.bool false)]⟩ ::
 []))
(.seq (.ops (⟨(some 5), none, .p .mov, [.t 0]⟩ ::
 ⟨(some 6), none, .p .mov, [.t 1]⟩ ::
 ⟨(some 7), none, .call, [.c (.func (.func 183) [] []), .t 5, .t 6]⟩ ::
 ⟨(some 8), none, .p (.bin .geq), [.t 7, .c (.int .i64 0)]⟩ ::
 ⟨(some 4), none, .p .mov, [.t 8]⟩ ::
 []))
.ret))⟩
abbrev f_slices_ContainsFunc_api_Op_api_Op : Nat := 168
abbrev C_slices_ContainsFunc_api_Op_api_Op : AFunc := C168
def C169 : AFunc := ⟨6, [.tmp 2],
(.seq (.ops (⟨(some 1), none, .a .box, [.t 0]⟩ ::
 ⟨(some 2), none, .p .mov, [.c (.bool false)]⟩ ::
 []))
(.seq (.ops (⟨(some 3), none, .r (.loadN 3), [.t 1]⟩ ::
 ⟨(some 4), none, .call, [.c (.func (.func 170) [] []), .t 3]⟩ ::
 ⟨(some 5), none, .p (.bin .neq), [.t 4, .c (.int .i64 0)]⟩ ::
 ⟨(some 2), none, .p .mov, [.t 5]⟩ ::
 []))
.ret))⟩
abbrev f_act_New_1 : Nat := 169
abbrev C_act_New_1 : AFunc := C169
def C170 : AFunc := ⟨39, [.tmp 2],
(.seq (.ops (⟨(some 1), none, .a .box, [.t 0]⟩ ::
 ⟨(some 2), none, .p .mov, [.c (.int .i64 0)]⟩ ::
 []))
(.seq (.dops (⟨(some 7), none, .call, [.c (.func (.func 184) [] [])]⟩ ::
 ⟨(some 8), none, .p (.faddr 0), [.t 1]⟩ ::
 ⟨(some 9), none, .r .load1, [.t 8]⟩ ::
 ⟨(some 10), none, .r (.lookup true (.agg [(.int .i64 0), (.int .i64 0)])), [.t 7, .t 9]⟩ ::
 ⟨(some 6), none, .p .mov, [.t 10]⟩ ::
 ⟨(some 11), none, .p (.ext 0), [.t 6]⟩ ::
 ⟨(some 12), none, .p (.ext 1), [.t 6]⟩ ::
 ⟨(some 3), none, .a (.alloc [(.int .i64 0), (.int .i64 0)]), []⟩ ::
 ⟨none, none, .e (.store 2), [.t 3, .t 11]⟩ ::
 ⟨(some 4), none, .p .mov, [.t 12]⟩ ::
 []) ([] :: [] :: [0, 1] :: [] :: [] :: [] :: [] :: [] :: [] :: [] :: []))
(.seq (.ops (⟨(some 5), none, .p .mov, [.c (.int .i64 0)]⟩ ::
 []))
(.seq (.seq (.ops (⟨(some 13), none, .p (.faddr 0), [.t 1]⟩ ::
 ⟨(some 14), none, .r .load1, [.t 13]⟩ ::
 ⟨(some 15), none, .p (.bin .eql), [.t 14, .c (.int .i64 6)]⟩ ::
 []))
(.cond (.t 15)
(.ops (⟨(some 5), none, .p .mov, [.c (.int .i64 16)]⟩ ::
 []))
.skip))
(.seq (.seq (.ops (⟨(some 16), none, .p .mov, [.t 4]⟩ ::
 ⟨(some 17), none, .p .not, [.t 16]⟩ ::
 ⟨(some 18), none, .p .mov, [.t 17]⟩ ::
 ⟨(some 19), (some (18, false)), .p (.faddr 1), [.t 1]⟩ ::
 ⟨(some 20), (some (18, false)), .r .load1, [.t 19]⟩ ::
 ⟨(some 21), (some (18, false)), .p (.faddr 0), [.t 3]⟩ ::
 ⟨(some 22), (some (18, false)), .r .load1, [.t 21]⟩ ::
 ⟨(some 23), (some (18, false)), .p (.bin .lss), [.t 20, .t 22]⟩ ::
 ⟨(some 24), none, .p .pick, [.t 18, .c (.bool true), .t 23]⟩ ::
 ⟨(some 25), none, .p .mov, [.t 24]⟩ ::
 ⟨(some 26), (some (25, false)), .p (.faddr 1), [.t 1]⟩ ::
 ⟨(some 27), (some (25, false)), .r .load1, [.t 26]⟩ ::
 ⟨(some 28), (some (25, false)), .p (.faddr 1), [.t 3]⟩ ::
 ⟨(some 29), (some (25, false)), .r .load1, [.t 28]⟩ ::
 ⟨(some 30), (some (25, false)), .p (.bin .gtr), [.t 27, .t 29]⟩ ::
 ⟨(some 31), none, .p .pick, [.t 25, .c (.bool true), .t 30]⟩ ::
 ⟨(some 32), none, .p .mov, [.t 31]⟩ ::
 ⟨(some 33), (some (32, false)), .p (.faddr 2), [.t 1]⟩ ::
 ⟨(some 34), (some (32, false)), .r .load1, [.t 33]⟩ ::
 ⟨(some 35), (some (32, false)), .p .lenStr, [.t 34]⟩ ::
 ⟨(some 36), (some (32, false)), .p .mov, [.t 5]⟩ ::
 ⟨(some 37), (some (32, false)), .p (.bin .gtr), [.t 35, .t 36]⟩ ::
 ⟨(some 38), none, .p .pick, [.t 32, .c (.bool true), .t 37]⟩ ::
 []))
(.cond (.t 38)
(.seq (.ops (⟨(some 2), none, .p .mov, [.c (.int .i64 2)]⟩ ::
 []))
.ret)
.skip))
(.seq (.ops (⟨(some 2), none, .p .mov, [.c (.int .i64 0)]⟩ ::
 []))
.ret))))))⟩
abbrev f_act_Check : Nat := 170
abbrev C_act_Check : AFunc := C170
def C171 : AFunc := ⟨8, [.tmp 2],
(.seq (.ops (⟨(some 2), none, .p .mov, [.c .nils]⟩ ::
 []))
(.seq (.seq (.ops (⟨(some 3), none, .p .mov, [.t 0]⟩ ::
 ⟨(some 4), none, .p (.eq .nilsl), [.t 3, .c .nils]⟩ ::
 []))
(.cond (.t 4)
(.seq (.ops (⟨(some 2), none, .p .mov, [.c .nils]⟩ ::
 []))
.ret)
.skip))
(.seq (.ops (⟨(some 5), none, .a (.bslice [(.int .i64 0), (.int .i64 0), (.str [])] 0 3 []), []⟩ ::
 ⟨(some 6), none, .p .mov, [.t 0]⟩ ::
 ⟨(some 7), none, .e (.append 3 32), [.t 5, .t 6]⟩ ::
 ⟨(some 2), none, .p .mov, [.t 7]⟩ ::
 []))
.ret)))⟩
abbrev f_slices_Clone_api_Op_api_Op : Nat := 171
abbrev C_slices_Clone_api_Op_api_Op : AFunc := C171
def C172 : AFunc := ⟨15, [.tmp 4],
(.seq (.ops (⟨(some 4), none, .p .mov, [.c (.int .i64 0)]⟩ ::
 []))
(.seq (.block 0 (.seq (.ops (⟨(some 6), none, .p .mov, [.t 0]⟩ ::
 ⟨(some 7), none, .call, [.c (.func (.func 151) [] []), .t 6]⟩ ::
 ⟨(some 5), none, .p .mov, [.t 7]⟩ ::
 []))
(.cond (.t 5)
(.seq (.ops (⟨(some 4), none, .p .mov, [.c (.int .i64 1)]⟩ ::
 []))
.ret)
(.seq (.ops (⟨(some 9), none, .p .mov, [.t 1]⟩ ::
 ⟨(some 10), none, .p (.bin .lss), [.t 9, .c (.int .i64 0)]⟩ ::
 ⟨(some 11), none, .p .mov, [.t 10]⟩ ::
 ⟨(some 12), (some (11, false)), .p .mov, [.t 1]⟩ ::
 ⟨(some 13), (some (11, false)), .p (.bin .geq), [.t 12, .c (.int .i64 64)]⟩ ::
 ⟨(some 14), none, .p .pick, [.t 11, .c (.bool true), .t 13]⟩ ::
 ⟨(some 8), none, .p .mov, [.t 14]⟩ ::
 []))
(.cond (.t 8)
(.seq (.ops (⟨(some 4), none, .p .mov, [.c (.int .i64 9)]⟩ ::
 []))
.ret)
.skip)))))
(.seq (.ops (⟨(some 4), none, .p .mov, [.c (.int .i64 0)]⟩ ::
 []))
.ret)))⟩
abbrev f_rank_Rank_asked : Nat := 172
abbrev C_rank_Rank_asked : AFunc := C172
def L_rank_heaped_up_0 : AC := (.seq (.seq (.dops (⟨(some 12), none, .p .mov, [.t 1]⟩ ::
 ⟨(some 13), none, .p (.bin .gtr), [.t 12, .c (.int .i64 0)]⟩ ::
 ⟨(some 14), none, .p .mov, [.t 13]⟩ ::
 ⟨(some 15), (some (14, true)), .r (.loadN 2), [.t 4]⟩ ::
 ⟨(some 16), (some (14, true)), .p .mov, [.t 0]⟩ ::
 ⟨(some 17), (some (14, true)), .p .nilchk, [.t 16]⟩ ::
 ⟨(some 18), (some (14, true)), .p (.faddr 0), [.t 17]⟩ ::
 ⟨(some 19), (some (14, true)), .r .load1, [.t 18]⟩ ::
 ⟨(some 20), (some (14, true)), .p .mov, [.t 1]⟩ ::
 ⟨(some 21), (some (14, true)), .p (.bin .sub), [.t 20, .c (.int .i64 1)]⟩ ::
 ⟨(some 22), (some (14, true)), .p (.bin .quo), [.t 21, .c (.int .i64 2)]⟩ ::
 ⟨(some 23), (some (14, true)), .p (.iaddrS 2), [.t 19, .t 22]⟩ ::
 ⟨(some 24), (some (14, true)), .r (.loadN 2), [.t 23]⟩ ::
 ⟨(some 25), (some (14, true)), .call, [.c (.func (.func 185) [] []), .t 15, .t 24]⟩ ::
 ⟨(some 26), none, .p .pick, [.t 14, .t 25, .c (.bool false)]⟩ ::
 []) ([] :: [] :: [] :: [] :: [] :: [] :: [] :: [] :: [] :: [] :: [] :: [] :: [] :: [] :: [] :: []))
(.cond (.t 26)
.skip
(.exit 0)))
(.block 1 (.seq (.ops (⟨(some 27), none, .p .mov, [.t 0]⟩ ::
 ⟨(some 28), none, .p .mov, [.t 1]⟩ ::
 ⟨(some 29), none, .p .mov, [.t 0]⟩ ::
 ⟨(some 30), none, .p .nilchk, [.t 29]⟩ ::
 ⟨(some 31), none, .p (.faddr 0), [.t 30]⟩ ::
 ⟨(some 32), none, .r .load1, [.t 31]⟩ ::
 ⟨(some 33), none, .p .mov, [.t 1]⟩ ::
 ⟨(some 34), none, .p (.bin .sub), [.t 33, .c (.int .i64 1)]⟩ ::
 ⟨(some 35), none, .p (.bin .quo), [.t 34, .c (.int .i64 2)]⟩ ::
 ⟨(some 36), none, .p (.iaddrS 2), [.t 32, .t 35]⟩ ::
 ⟨(some 37), none, .r (.loadN 2), [.t 36]⟩ ::
 ⟨(some 38), none, .call, [.c (.func (.func 181) [] []), .t 27, .t 28, .t 37]⟩ ::
 []))
(.ops (⟨(some 39), none, .p .mov, [.t 1]⟩ ::
 ⟨(some 40), none, .p (.bin .sub), [.t 39, .c (.int .i64 1)]⟩ ::
 ⟨(some 41), none, .p (.bin .quo), [.t 40, .c (.int .i64 2)]⟩ ::
 ⟨(some 1), none, .p .mov, [.t 41]⟩ ::
 [])))))
def C173 : AFunc := ⟨46, [],
(.seq (.ops (⟨(some 5), none, .p .mov, [.t 0]⟩ ::
 ⟨(some 6), none, .p .nilchk, [.t 5]⟩ ::
 ⟨(some 7), none, .p (.faddr 0), [.t 6]⟩ ::
 ⟨(some 8), none, .r .load1, [.t 7]⟩ ::
 ⟨(some 9), none, .p .mov, [.t 1]⟩ ::
 ⟨(some 10), none, .p (.iaddrS 2), [.t 8, .t 9]⟩ ::
 ⟨(some 11), none, .r (.loadN 2), [.t 10]⟩ ::
 ⟨(some 4), none, .a (.alloc [(.int .i64 0), (.int .i64 0)]), []⟩ ::
 ⟨none, none, .e (.store 2), [.t 4, .t 11]⟩ ::
 []))
(.seq (.block 0 (.loop L_rank_heaped_up_0))
(.ops (⟨(some 42), none, .p .mov, [.t 0]⟩ ::
 ⟨(some 43), none, .p .mov, [.t 1]⟩ ::
 ⟨(some 44), none, .r (.loadN 2), [.t 4]⟩ ::
 ⟨(some 45), none, .call, [.c (.func (.func 181) [] []), .t 42, .t 43, .t 44]⟩ ::
 []))))⟩
abbrev f_rank_heaped_up : Nat := 173
abbrev C_rank_heaped_up : AFunc := C173
def C174 : AFunc := ⟨8, [.tmp 2],
(.seq (.ops (⟨(some 2), none, .p .mov, [.c .nils]⟩ ::
 []))
(.seq (.seq (.ops (⟨(some 3), none, .p .mov, [.t 0]⟩ ::
 ⟨(some 4), none, .p (.eq .nilsl), [.t 3, .c .nils]⟩ ::
 []))
(.cond (.t 4)
(.seq (.ops (⟨(some 2), none, .p .mov, [.c .nils]⟩ ::
 []))
.ret)
.skip))
(.seq (.ops (⟨(some 5), none, .a (.bslice [(.int .i64 0), (.int .i64 0)] 0 2 []), []⟩ ::
 ⟨(some 6), none, .p .mov, [.t 0]⟩ ::
 ⟨(some 7), none, .e (.append 2 16), [.t 5, .t 6]⟩ ::
 ⟨(some 2), none, .p .mov, [.t 7]⟩ ::
 []))
.ret)))⟩
abbrev f_slices_Clone_rank_one_rank_one : Nat := 174
abbrev C_slices_Clone_rank_one_rank_one : AFunc := C174
def C175 : AFunc := ⟨14, [],
(.seq (.ops (⟨(some 5), none, .p .mov, [.t 0]⟩ ::
 ⟨(some 6), none, .p .lenS, [.t 5]⟩ ::
 ⟨(some 4), none, .p .mov, [.t 6]⟩ ::
 []))
(.ops (⟨(some 7), none, .p .mov, [.t 0]⟩ ::
 ⟨(some 8), none, .p .mov, [.t 4]⟩ ::
 ⟨(some 9), none, .p .mov, [.t 4]⟩ ::
 ⟨(some 10), none, .p (.conv .u64), [.t 9]⟩ ::
 ⟨(some 11), none, .call, [.c (.func (.func 187) [] []), .t 10]⟩ ::
 ⟨(some 12), none, .p .mov, [.t 1]⟩ ::
 ⟨(some 13), none, .call, [.c (.func (.func 186) [] []), .t 7, .c (.int .i64 0), .t 8, .t 11, .t 12]⟩ ::
 [])))⟩
abbrev f_slices_SortFunc_rank_one_rank_one : Nat := 175
abbrev C_slices_SortFunc_rank_one_rank_one : AFunc := C175
def C176 : AFunc := ⟨17, [.tmp 4],
(.seq (.ops (⟨(some 2), none, .a .box, [.t 0]⟩ ::
 ⟨(some 3), none, .a .box, [.t 1]⟩ ::
 ⟨(some 4), none, .p .mov, [.c (.int .i64 0)]⟩ ::
 []))
(.seq (.dops (⟨(some 5), none, .p (.faddr 1), [.t 2]⟩ ::
 ⟨(some 6), none, .r .load1, [.t 5]⟩ ::
 ⟨(some 7), none, .p (.faddr 1), [.t 3]⟩ ::
 ⟨(some 8), none, .r .load1, [.t 7]⟩ ::
 ⟨(some 9), none, .call, [.c (.func (.func 178) [] []), .t 6, .t 8]⟩ ::
 ⟨(some 10), none, .p (.faddr 0), [.t 2]⟩ ::
 ⟨(some 11), none, .r .load1, [.t 10]⟩ ::
 ⟨(some 12), none, .p (.faddr 0), [.t 3]⟩ ::
 ⟨(some 13), none, .r .load1, [.t 12]⟩ ::
 ⟨(some 14), none, .call, [.c (.func (.func 178) [] []), .t 11, .t 13]⟩ ::
 ⟨(some 15), none, .a (.bslice [(.int .i64 0)] 2 1 [0, 1]), [.t 9, .t 14]⟩ ::
 ⟨(some 16), none, .call, [.c (.func (.func 177) [] []), .t 15]⟩ ::
 ⟨(some 4), none, .p .mov, [.t 16]⟩ ::
 []) ([] :: [] :: [] :: [] :: [] :: [] :: [0, 5] :: [] :: [0, 5] :: [] :: [] :: [] :: [] :: []))
.ret))⟩
abbrev f_rank_Rank_Ids_1 : Nat := 176
abbrev C_rank_Rank_Ids_1 : AFunc := C176
def L_cmp_Or_int_0 : AC := (.seq (.ops (⟨(some 9), none, .p (.bin .lss), [.t 8, .t 7]⟩ ::
 []))
(.seq (.cond (.t 9)
.skip
(.exit 0))
(.seq (.block 1 (.seq (.ops (⟨(some 10), none, .p (.iaddrS 1), [.t 6, .t 8]⟩ ::
 ⟨(some 11), none, .r .load1, [.t 10]⟩ ::
 ⟨(some 5), none, .p .mov, [.t 11]⟩ ::
 []))
(.seq (.ops (⟨(some 12), none, .p .mov, [.t 5]⟩ ::
 ⟨(some 13), none, .p .mov, [.t 3]⟩ ::
 ⟨(some 14), none, .p (.bin .neq), [.t 12, .t 13]⟩ ::
 []))
(.cond (.t 14)
(.seq (.ops (⟨(some 15), none, .p .mov, [.t 5]⟩ ::
 ⟨(some 2), none, .p .mov, [.t 15]⟩ ::
 []))
.ret)
.skip))))
(.ops (⟨(some 16), none, .p (.bin .add), [.t 8, .c (.int .i64 1)]⟩ ::
 ⟨(some 8), none, .p .mov, [.t 16]⟩ ::
 [])))))
def C177 : AFunc := ⟨18, [.tmp 2],
(.seq (.ops (⟨(some 2), none, .p .mov, [.c (.int .i64 0)]⟩ ::
 []))
(.seq (.ops (⟨(some 3), none, .p .mov, [.c (.int .i64 0)]⟩ ::
 []))
(.seq (.seq (.ops (⟨(some 6), none, .p .mov, [.t 0]⟩ ::
 ⟨(some 7), none, .p .lenS, [.t 6]⟩ ::
 ⟨(some 8), none, .p .mov, [.c (.int .i64 0)]⟩ ::
 []))
(.block 0 (.loop L_cmp_Or_int_0)))
(.seq (.ops (⟨(some 17), none, .p .mov, [.t 3]⟩ ::
 ⟨(some 2), none, .p .mov, [.t 17]⟩ ::
 []))
.ret))))⟩
abbrev f_cmp_Or_int : Nat := 177
abbrev C_cmp_Or_int : AFunc := C177
def C178 : AFunc := ⟨20, [.tmp 4],
(.seq (.ops (⟨(some 4), none, .p .mov, [.c (.int .i64 0)]⟩ ::
 []))
(.seq (.ops (⟨(some 7), none, .p .mov, [.t 0]⟩ ::
 ⟨(some 8), none, .call, [.c (.func (.func 188) [] []), .t 7]⟩ ::
 ⟨(some 5), none, .p .mov, [.t 8]⟩ ::
 []))
(.seq (.ops (⟨(some 9), none, .p .mov, [.t 1]⟩ ::
 ⟨(some 10), none, .call, [.c (.func (.func 188) [] []), .t 9]⟩ ::
 ⟨(some 6), none, .p .mov, [.t 10]⟩ ::
 []))
(.seq (.seq (.ops (⟨(some 11), none, .p .mov, [.t 5]⟩ ::
 []))
(.cond (.t 11)
(.seq (.seq (.ops (⟨(some 12), none, .p .mov, [.t 6]⟩ ::
 []))
(.cond (.t 12)
(.seq (.ops (⟨(some 4), none, .p .mov, [.c (.int .i64 0)]⟩ ::
 []))
.ret)
.skip))
(.seq (.ops (⟨(some 4), none, .p .mov, [.c (.int .i64 (-1))]⟩ ::
 []))
.ret))
.skip))
(.seq (.seq (.ops (⟨(some 13), none, .p .mov, [.t 6]⟩ ::
 []))
(.cond (.t 13)
(.seq (.ops (⟨(some 4), none, .p .mov, [.c (.int .i64 1)]⟩ ::
 []))
.ret)
.skip))
(.seq (.seq (.ops (⟨(some 14), none, .p .mov, [.t 0]⟩ ::
 ⟨(some 15), none, .p .mov, [.t 1]⟩ ::
 ⟨(some 16), none, .p (.bin .lss), [.t 14, .t 15]⟩ ::
 []))
(.cond (.t 16)
(.seq (.ops (⟨(some 4), none, .p .mov, [.c (.int .i64 (-1))]⟩ ::
 []))
.ret)
.skip))
(.seq (.seq (.ops (⟨(some 17), none, .p .mov, [.t 0]⟩ ::
 ⟨(some 18), none, .p .mov, [.t 1]⟩ ::
 ⟨(some 19), none, .p (.bin .gtr), [.t 17, .t 18]⟩ ::
 []))
(.cond (.t 19)
(.seq (.ops (⟨(some 4), none, .p .mov, [.c (.int .i64 1)]⟩ ::
 []))
.ret)
.skip))
(.seq (.ops (⟨(some 4), none, .p .mov, [.c (.int .i64 0)]⟩ ::
 []))
.ret))))))))⟩
abbrev f_cmp_Compare_int : Nat := 178
abbrev C_cmp_Compare_int : AFunc := C178
def L_slices_Backward_stack_entry_stack_entry_1_0 : AC := (.seq (.seq (.ops (⟨(some 7), none, .p .mov, [.t 3]⟩ ::
 ⟨(some 8), none, .p (.bin .geq), [.t 7, .c (.int .i64 0)]⟩ ::
 []))
(.cond (.t 8)
.skip
(.exit 0)))
(.seq (.block 1 (.seq (.ops (⟨(some 11), none, .p .mov, [.t 0]⟩ ::
 ⟨(some 12), none, .p .mov, [.t 3]⟩ ::
 ⟨(some 13), none, .r .load1, [.t 1]⟩ ::
 ⟨(some 14), none, .p .mov, [.t 3]⟩ ::
 ⟨(some 15), none, .p (.iaddrS 2), [.t 13, .t 14]⟩ ::
 ⟨(some 16), none, .r (.loadN 2), [.t 15]⟩ ::
 ⟨(some 17), none, .call, [.t 11, .t 12, .t 16]⟩ ::
 ⟨(some 18), none, .p .not, [.t 17]⟩ ::
 []))
(.cond (.t 18)
.ret
.skip)))
(.ops (⟨(some 9), none, .p .mov, [.t 3]⟩ ::
 ⟨(some 10), none, .p (.bin .sub), [.t 9, .c (.int .i64 1)]⟩ ::
 ⟨(some 3), none, .p .mov, [.t 10]⟩ ::
 []))))
def C180 : AFunc := ⟨19, [],
(.seq (.ops (⟨(some 4), none, .r .load1, [.t 1]⟩ ::
 ⟨(some 5), none, .p .lenS, [.t 4]⟩ ::
 ⟨(some 6), none, .p (.bin .sub), [.t 5, .c (.int .i64 1)]⟩ ::
 ⟨(some 3), none, .p .mov, [.t 6]⟩ ::
 []))
(.block 0 (.loop L_slices_Backward_stack_entry_stack_entry_1_0)))⟩
abbrev f_slices_Backward_stack_entry_stack_entry_1 : Nat := 180
abbrev C_slices_Backward_stack_entry_stack_entry_1 : AFunc := C180
def C181 : AFunc := ⟨21, [],
(.seq (.ops (⟨(some 5), none, .a .box, [.t 2]⟩ ::
 []))
(.seq (.dops (⟨(some 6), none, .p .mov, [.t 0]⟩ ::
 ⟨(some 7), none, .p .nilchk, [.t 6]⟩ ::
 ⟨(some 8), none, .p (.faddr 0), [.t 7]⟩ ::
 ⟨(some 9), none, .r .load1, [.t 8]⟩ ::
 ⟨(some 10), none, .p .mov, [.t 1]⟩ ::
 ⟨(some 11), none, .r (.loadN 2), [.t 5]⟩ ::
 ⟨(some 12), none, .p (.iaddrS 2), [.t 9, .t 10]⟩ ::
 ⟨none, none, .e (.store 2), [.t 12, .t 11]⟩ ::
 []) ([] :: [] :: [] :: [] :: [] :: [] :: [] :: [] :: []))
(.dops (⟨(some 13), none, .p .mov, [.t 0]⟩ ::
 ⟨(some 14), none, .p (.faddr 0), [.t 5]⟩ ::
 ⟨(some 15), none, .r .load1, [.t 14]⟩ ::
 ⟨(some 16), none, .p .mov, [.t 1]⟩ ::
 ⟨(some 17), none, .p (.bin .add), [.t 16, .c (.int .i64 1)]⟩ ::
 ⟨(some 18), none, .p .nilchk, [.t 13]⟩ ::
 ⟨(some 19), none, .p (.faddr 1), [.t 18]⟩ ::
 ⟨(some 20), none, .p (.iaddrA 1 64), [.t 19, .t 15]⟩ ::
 ⟨none, none, .e (.store 1), [.t 20, .t 17]⟩ ::
 []) ([] :: [] :: [] :: [] :: [] :: [] :: [] :: [] :: [] :: []))))⟩
abbrev f_rank_heaped_lay : Nat := 181
abbrev C_rank_heaped_lay : AFunc := C181
def L_rank_heaped_down_0 : AC := (.block 1 (.seq (.ops (⟨(some 13), none, .p .mov, [.t 1]⟩ ::
 ⟨(some 14), none, .p (.bin .mul), [.c (.int .i64 2), .t 13]⟩ ::
 ⟨(some 15), none, .p (.bin .add), [.t 14, .c (.int .i64 1)]⟩ ::
 ⟨(some 5), none, .p .mov, [.t 15]⟩ ::
 []))
(.seq (.seq (.dops (⟨(some 16), none, .p .mov, [.t 5]⟩ ::
 ⟨(some 17), none, .p (.bin .add), [.t 16, .c (.int .i64 1)]⟩ ::
 ⟨(some 18), none, .p .mov, [.t 0]⟩ ::
 ⟨(some 19), none, .p .nilchk, [.t 18]⟩ ::
 ⟨(some 20), none, .p (.faddr 0), [.t 19]⟩ ::
 ⟨(some 21), none, .r .load1, [.t 20]⟩ ::
 ⟨(some 22), none, .p .lenS, [.t 21]⟩ ::
 ⟨(some 23), none, .p (.bin .lss), [.t 17, .t 22]⟩ ::
 ⟨(some 24), none, .p .mov, [.t 23]⟩ ::
 ⟨(some 25), (some (24, true)), .p .mov, [.t 0]⟩ ::
 ⟨(some 26), (some (24, true)), .p .nilchk, [.t 25]⟩ ::
 ⟨(some 27), (some (24, true)), .p (.faddr 0), [.t 26]⟩ ::
 ⟨(some 28), (some (24, true)), .r .load1, [.t 27]⟩ ::
 ⟨(some 29), (some (24, true)), .p .mov, [.t 5]⟩ ::
 ⟨(some 30), (some (24, true)), .p (.bin .add), [.t 29, .c (.int .i64 1)]⟩ ::
 ⟨(some 31), (some (24, true)), .p (.iaddrS 2), [.t 28, .t 30]⟩ ::
 ⟨(some 32), (some (24, true)), .r (.loadN 2), [.t 31]⟩ ::
 ⟨(some 33), (some (24, true)), .p .mov, [.t 0]⟩ ::
 ⟨(some 34), (some (24, true)), .p .nilchk, [.t 33]⟩ ::
 ⟨(some 35), (some (24, true)), .p (.faddr 0), [.t 34]⟩ ::
 ⟨(some 36), (some (24, true)), .r .load1, [.t 35]⟩ ::
 ⟨(some 37), (some (24, true)), .p .mov, [.t 5]⟩ ::
 ⟨(some 38), (some (24, true)), .p (.iaddrS 2), [.t 36, .t 37]⟩ ::
 ⟨(some 39), (some (24, true)), .r (.loadN 2), [.t 38]⟩ ::
 ⟨(some 40), (some (24, true)), .call, [.c (.func (.func 185) [] []), .t 32, .t 39]⟩ ::
 ⟨(some 41), none, .p .pick, [.t 24, .t 40, .c (.bool false)]⟩ ::
 []) ([] :: [] :: [] :: [] :: [] :: [] :: [] :: [] :: [] :: [] :: [] :: [] :: [] :: [] :: [] :: [] :: [] :: [] :: [] :: [] :: [] :: [] :: [] :: [] :: [] :: [] :: []))
(.cond (.t 41)
(.ops (⟨(some 42), none, .p .mov, [.t 5]⟩ ::
 ⟨(some 43), none, .p (.bin .add), [.t 42, .c (.int .i64 1)]⟩ ::
 ⟨(some 5), none, .p .mov, [.t 43]⟩ ::
 []))
.skip))
(.seq (.seq (.dops (⟨(some 44), none, .p .mov, [.t 5]⟩ ::
 ⟨(some 45), none, .p .mov, [.t 0]⟩ ::
 ⟨(some 46), none, .p .nilchk, [.t 45]⟩ ::
 ⟨(some 47), none, .p (.faddr 0), [.t 46]⟩ ::
 ⟨(some 48), none, .r .load1, [.t 47]⟩ ::
 ⟨(some 49), none, .p .lenS, [.t 48]⟩ ::
 ⟨(some 50), none, .p (.bin .geq), [.t 44, .t 49]⟩ ::
 ⟨(some 51), none, .p .mov, [.t 50]⟩ ::
 ⟨(some 52), (some (51, false)), .p .mov, [.t 0]⟩ ::
 ⟨(some 53), (some (51, false)), .p .nilchk, [.t 52]⟩ ::
 ⟨(some 54), (some (51, false)), .p (.faddr 0), [.t 53]⟩ ::
 ⟨(some 55), (some (51, false)), .r .load1, [.t 54]⟩ ::
 ⟨(some 56), (some (51, false)), .p .mov, [.t 5]⟩ ::
 ⟨(some 57), (some (51, false)), .p (.iaddrS 2), [.t 55, .t 56]⟩ ::
 ⟨(some 58), (some (51, false)), .r (.loadN 2), [.t 57]⟩ ::
 ⟨(some 59), (some (51, false)), .r (.loadN 2), [.t 4]⟩ ::
 ⟨(some 60), (some (51, false)), .call, [.c (.func (.func 185) [] []), .t 58, .t 59]⟩ ::
 ⟨(some 61), (some (51, false)), .p .not, [.t 60]⟩ ::
 ⟨(some 62), none, .p .pick, [.t 51, .c (.bool true), .t 61]⟩ ::
 []) ([] :: [] :: [] :: [] :: [] :: [] :: [] :: [] :: [] :: [] :: [] :: [] :: [] :: [] :: [] :: [] :: [] :: [] :: [] :: []))
(.cond (.t 62)
(.exit 0)
.skip))
(.seq (.ops (⟨(some 63), none, .p .mov, [.t 0]⟩ ::
 ⟨(some 64), none, .p .mov, [.t 1]⟩ ::
 ⟨(some 65), none, .p .mov, [.t 0]⟩ ::
 ⟨(some 66), none, .p .nilchk, [.t 65]⟩ ::
 ⟨(some 67), none, .p (.faddr 0), [.t 66]⟩ ::
 ⟨(some 68), none, .r .load1, [.t 67]⟩ ::
 ⟨(some 69), none, .p .mov, [.t 5]⟩ ::
 ⟨(some 70), none, .p (.iaddrS 2), [.t 68, .t 69]⟩ ::
 ⟨(some 71), none, .r (.loadN 2), [.t 70]⟩ ::
 ⟨(some 72), none, .call, [.c (.func (.func 181) [] []), .t 63, .t 64, .t 71]⟩ ::
 []))
(.ops (⟨(some 73), none, .p .mov, [.t 5]⟩ ::
 ⟨(some 1), none, .p .mov, [.t 73]⟩ ::
 [])))))))
def C182 : AFunc := ⟨78, [],
(.seq (.ops (⟨(some 6), none, .p .mov, [.t 0]⟩ ::
 ⟨(some 7), none, .p .nilchk, [.t 6]⟩ ::
 ⟨(some 8), none, .p (.faddr 0), [.t 7]⟩ ::
 ⟨(some 9), none, .r .load1, [.t 8]⟩ ::
 ⟨(some 10), none, .p .mov, [.t 1]⟩ ::
 ⟨(some 11), none, .p (.iaddrS 2), [.t 9, .t 10]⟩ ::
 ⟨(some 12), none, .r (.loadN 2), [.t 11]⟩ ::
 ⟨(some 4), none, .a (.alloc [(.int .i64 0), (.int .i64 0)]), []⟩ ::
 ⟨none, none, .e (.store 2), [.t 4, .t 12]⟩ ::
 []))
(.seq (.block 0 (.loop L_rank_heaped_down_0))
(.ops (⟨(some 74), none, .p .mov, [.t 0]⟩ ::
 ⟨(some 75), none, .p .mov, [.t 1]⟩ ::
 ⟨(some 76), none, .r (.loadN 2), [.t 4]⟩ ::
 ⟨(some 77), none, .call, [.c (.func (.func 181) [] []), .t 74, .t 75, .t 76]⟩ ::
 []))))⟩
abbrev f_rank_heaped_down : Nat := 182
abbrev C_rank_heaped_down : AFunc := C182
def L_slices_IndexFunc_api_Op_api_Op_0 : AC := (.seq (.ops (⟨(some 9), none, .p (.bin .lss), [.t 8, .t 7]⟩ ::
 []))
(.seq (.cond (.t 9)
.skip
(.exit 0))
(.seq (.block 1 (.seq (.ops (⟨(some 10), none, .p .mov, [.t 8]⟩ ::
 ⟨(some 5), none, .p .mov, [.t 10]⟩ ::
 []))
(.seq (.ops (⟨(some 11), none, .p .mov, [.t 1]⟩ ::
 ⟨(some 12), none, .p .mov, [.t 0]⟩ ::
 ⟨(some 13), none, .p .mov, [.t 5]⟩ ::
 ⟨(some 14), none, .p (.iaddrS 3), [.t 12, .t 13]⟩ ::
 ⟨(some 15), none, .r (.loadN 3), [.t 14]⟩ ::
 ⟨(some 16), none, .call, [.t 11, .t 15]⟩ ::
 []))
(.cond (.t 16)
(.seq (.ops (⟨(some 17), none, .p .mov, [.t 5]⟩ ::
 ⟨(some 4), none, .p .mov, [.t 17]⟩ ::
 []))
.ret)
.skip))))
(.ops (⟨(some 18), none, .p (.bin .add), [.t 8, .c (.int .i64 1)]⟩ ::
 ⟨(some 8), none, .p .mov, [.t 18]⟩ ::
 [])))))
def C183 : AFunc := ⟨19, [.tmp 4],
(.seq (.ops (⟨(some 4), none, .p .mov, [.c (.int .i64 0)]⟩ ::
 []))
(.seq (.seq (.ops (⟨(some 6), none, .p .mov, [.t 0]⟩ ::
 ⟨(some 7), none, .p .lenS, [.t 6]⟩ ::
 ⟨(some 8), none, .p .mov, [.c (.int .i64 0)]⟩ ::
 []))
(.block 0 (.loop L_slices_IndexFunc_api_Op_api_Op_0)))
(.seq (.ops (⟨(some 4), none, .p .mov, [.c (.int .i64 (-1))]⟩ ::
 []))
.ret)))⟩
abbrev f_slices_IndexFunc_api_Op_api_Op : Nat := 183
abbrev C_slices_IndexFunc_api_Op_api_Op : AFunc := C183
def C184 : AFunc := ⟨15, [.tmp 0],
(.seq (.ops (⟨(some 0), none, .p .mov, [.c .nilm]⟩ ::
 []))
(.seq (.ops (⟨(some 3), none, .p (.build [(.int .i64 0), (.int .i64 0)] [(0, 1), (1, 1)]), [.c (.int .i64 1), .c (.int .i64 64)]⟩ ::
 ⟨(some 4), none, .p (.build [(.int .i64 0), (.int .i64 0)] [(0, 1), (1, 1)]), [.c (.int .i64 0), .c (.int .i64 7)]⟩ ::
 ⟨(some 1), none, .a (.alloc [(.int .i64 0), (.int .i64 0)]), []⟩ ::
 ⟨(some 2), none, .a (.alloc [(.int .i64 0), (.int .i64 0)]), []⟩ ::
 ⟨none, none, .e (.store 2), [.t 1, .t 3]⟩ ::
 ⟨none, none, .e (.store 2), [.t 2, .t 4]⟩ ::
 []))
(.seq (.ops (⟨(some 5), none, .a .mkmap, []⟩ ::
 ⟨(some 6), none, .r (.loadN 2), [.t 1]⟩ ::
 ⟨none, none, .e .ins, [.t 5, .c (.int .i64 1), .t 6]⟩ ::
 ⟨(some 7), none, .r (.loadN 2), [.t 1]⟩ ::
 ⟨none, none, .e .ins, [.t 5, .c (.int .i64 8), .t 7]⟩ ::
 ⟨(some 8), none, .r (.loadN 2), [.t 2]⟩ ::
 ⟨none, none, .e .ins, [.t 5, .c (.int .i64 2), .t 8]⟩ ::
 ⟨(some 9), none, .r (.loadN 2), [.t 2]⟩ ::
 ⟨none, none, .e .ins, [.t 5, .c (.int .i64 6), .t 9]⟩ ::
 ⟨(some 10), none, .r (.loadN 2), [.t 2]⟩ ::
 ⟨none, none, .e .ins, [.t 5, .c (.int .i64 7), .t 10]⟩ ::
 ⟨(some 11), none, .p (.build [(.int .i64 0), (.int .i64 0)] []), []⟩ ::
 ⟨none, none, .e .ins, [.t 5, .c (.int .i64 3), .t 11]⟩ ::
 ⟨(some 12), none, .p (.build [(.int .i64 0), (.int .i64 0)] []), []⟩ ::
 ⟨none, none, .e .ins, [.t 5, .c (.int .i64 4), .t 12]⟩ ::
 ⟨(some 13), none, .p (.build [(.int .i64 0), (.int .i64 0)] []), []⟩ ::
 ⟨none, none, .e .ins, [.t 5, .c (.int .i64 5), .t 13]⟩ ::
 ⟨(some 14), none, .p .mov, [.t 5]⟩ ::
 ⟨(some 0), none, .p .mov, [.t 14]⟩ ::
 []))
.ret)))⟩
abbrev f_act_spans : Nat := 184
abbrev C_act_spans : AFunc := C184
def C185 : AFunc := ⟨24, [.tmp 4],
(.seq (.ops (⟨(some 2), none, .a .box, [.t 0]⟩ ::
 ⟨(some 3), none, .a .box, [.t 1]⟩ ::
 ⟨(some 4), none, .p .mov, [.c (.bool false)]⟩ ::
 []))
(.seq (.ops (⟨(some 5), none, .p (.faddr 1), [.t 2]⟩ ::
 ⟨(some 6), none, .r .load1, [.t 5]⟩ ::
 ⟨(some 7), none, .p (.faddr 1), [.t 3]⟩ ::
 ⟨(some 8), none, .r .load1, [.t 7]⟩ ::
 ⟨(some 9), none, .p (.bin .lss), [.t 6, .t 8]⟩ ::
 ⟨(some 10), none, .p .mov, [.t 9]⟩ ::
 ⟨(some 11), (some (10, false)), .p (.faddr 1), [.t 2]⟩ ::
 ⟨(some 12), (some (10, false)), .r .load1, [.t 11]⟩ ::
 ⟨(some 13), (some (10, false)), .p (.faddr 1), [.t 3]⟩ ::
 ⟨(some 14), (some (10, false)), .r .load1, [.t 13]⟩ ::
 ⟨(some 15), (some (10, false)), .p (.bin .eql), [.t 12, .t 14]⟩ ::
 ⟨(some 16), (some (10, false)), .p .mov, [.t 15]⟩ ::
 ⟨(some 17), (some (16, true)), .p (.faddr 0), [.t 2]⟩ ::
 ⟨(some 18), (some (16, true)), .r .load1, [.t 17]⟩ ::
 ⟨(some 19), (some (16, true)), .p (.faddr 0), [.t 3]⟩ ::
 ⟨(some 20), (some (16, true)), .r .load1, [.t 19]⟩ ::
 ⟨(some 21), (some (16, true)), .p (.bin .lss), [.t 18, .t 20]⟩ ::
 ⟨(some 22), (some (10, false)), .p .pick, [.t 16, .t 21, .c (.bool false)]⟩ ::
 ⟨(some 23), none, .p .pick, [.t 10, .c (.bool true), .t 22]⟩ ::
 ⟨(some 4), none, .p .mov, [.t 23]⟩ ::
 []))
.ret))⟩
abbrev f_rank_one_ahead : Nat := 185
abbrev C_rank_one_ahead : AFunc := C185
def L_slices_pdqsortCmpFunc_rank_one_0 : AC := (.block 1 (.seq (.ops (⟨(some 21), none, .p .mov, [.t 2]⟩ ::
 ⟨(some 22), none, .p .mov, [.t 1]⟩ ::
 ⟨(some 23), none, .p (.bin .sub), [.t 21, .t 22]⟩ ::
 ⟨(some 12), none, .p .mov, [.t 23]⟩ ::
 []))
(.seq (.seq (.ops (⟨(some 24), none, .p .mov, [.t 12]⟩ ::
 ⟨(some 25), none, .p (.bin .leq), [.t 24, .c (.int .i64 12)]⟩ ::
 []))
(.cond (.t 25)
(.seq (.ops (⟨(some 26), none, .p .mov, [.t 0]⟩ ::
 ⟨(some 27), none, .p .mov, [.t 1]⟩ ::
 ⟨(some 28), none, .p .mov, [.t 2]⟩ ::
 ⟨(some 29), none, .p .mov, [.t 4]⟩ ::
 ⟨(some 30), none, .call, [.c (.func (.func 189) [] []), .t 26, .t 27, .t 28, .t 29]⟩ ::
 []))
.ret)
.skip))
(.seq (.seq (.ops (⟨(some 31), none, .p .mov, [.t 3]⟩ ::
 ⟨(some 32), none, .p (.bin .eql), [.t 31, .c (.int .i64 0)]⟩ ::
 []))
(.cond (.t 32)
(.seq (.ops (⟨(some 33), none, .p .mov, [.t 0]⟩ ::
 ⟨(some 34), none, .p .mov, [.t 1]⟩ ::
 ⟨(some 35), none, .p .mov, [.t 2]⟩ ::
 ⟨(some 36), none, .p .mov, [.t 4]⟩ ::
 ⟨(some 37), none, .call, [.c (.func (.func 190) [] []), .t 33, .t 34, .t 35, .t 36]⟩ ::
 []))
.ret)
.skip))
(.seq (.seq (.ops (⟨(some 38), none, .p .mov, [.t 10]⟩ ::
 ⟨(some 39), none, .p .not, [.t 38]⟩ ::
 []))
(.cond (.t 39)
(.seq (.ops (⟨(some 40), none, .p .mov, [.t 0]⟩ ::
 ⟨(some 41), none, .p .mov, [.t 1]⟩ ::
 ⟨(some 42), none, .p .mov, [.t 2]⟩ ::
 ⟨(some 43), none, .p .mov, [.t 4]⟩ ::
 ⟨(some 44), none, .call, [.c (.func (.func 191) [] []), .t 40, .t 41, .t 42, .t 43]⟩ ::
 []))
(.ops (⟨(some 45), none, .p .mov, [.t 3]⟩ ::
 ⟨(some 46), none, .p (.bin .sub), [.t 45, .c (.int .i64 1)]⟩ ::
 ⟨(some 3), none, .p .mov, [.t 46]⟩ ::
 [])))
.skip))
(.seq (.ops (⟨(some 48), none, .p .mov, [.t 0]⟩ ::
 ⟨(some 49), none, .p .mov, [.t 1]⟩ ::
 ⟨(some 50), none, .p .mov, [.t 2]⟩ ::
 ⟨(some 51), none, .p .mov, [.t 4]⟩ ::
 ⟨(some 52), none, .call, [.c (.func (.func 192) [] []), .t 48, .t 49, .t 50, .t 51]⟩ ::
 ⟨(some 47), none, .p .mov, [.t 52]⟩ ::
 ⟨(some 53), none, .p (.ext 0), [.t 47]⟩ ::
 ⟨(some 54), none, .p (.ext 1), [.t 47]⟩ ::
 ⟨(some 13), none, .p .mov, [.t 53]⟩ ::
 ⟨(some 14), none, .p .mov, [.t 54]⟩ ::
 []))
(.seq (.seq (.ops (⟨(some 55), none, .p .mov, [.t 14]⟩ ::
 ⟨(some 56), none, .p (.bin .eql), [.t 55, .c (.int .i64 2)]⟩ ::
 []))
(.cond (.t 56)
(.seq (.ops (⟨(some 57), none, .p .mov, [.t 0]⟩ ::
 ⟨(some 58), none, .p .mov, [.t 1]⟩ ::
 ⟨(some 59), none, .p .mov, [.t 2]⟩ ::
 ⟨(some 60), none, .p .mov, [.t 4]⟩ ::
 ⟨(some 61), none, .call, [.c (.func (.func 193) [] []), .t 57, .t 58, .t 59, .t 60]⟩ ::
 []))
(.seq (.ops (⟨(some 62), none, .p .mov, [.t 2]⟩ ::
 ⟨(some 63), none, .p (.bin .sub), [.t 62, .c (.int .i64 1)]⟩ ::
 ⟨(some 64), none, .p .mov, [.t 13]⟩ ::
 ⟨(some 65), none, .p .mov, [.t 1]⟩ ::
 ⟨(some 66), none, .p (.bin .sub), [.t 64, .t 65]⟩ ::
 ⟨(some 67), none, .p (.bin .sub), [.t 63, .t 66]⟩ ::
 ⟨(some 13), none, .p .mov, [.t 67]⟩ ::
 []))
(.ops (⟨(some 14), none, .p .mov, [.c (.int .i64 1)]⟩ ::
 []))))
.skip))
(.seq (.seq (.ops (⟨(some 68), none, .p .mov, [.t 10]⟩ ::
 ⟨(some 69), none, .p .mov, [.t 68]⟩ ::
 ⟨(some 70), (some (69, true)), .p .mov, [.t 11]⟩ ::
 ⟨(some 71), none, .p .pick, [.t 69, .t 70, .c (.bool false)]⟩ ::
 ⟨(some 72), none, .p .mov, [.t 71]⟩ ::
 ⟨(some 73), (some (72, true)), .p .mov, [.t 14]⟩ ::
 ⟨(some 74), (some (72, true)), .p (.bin .eql), [.t 73, .c (.int .i64 1)]⟩ ::
 ⟨(some 75), none, .p .pick, [.t 72, .t 74, .c (.bool false)]⟩ ::
 []))
(.cond (.t 75)
(.seq (.ops (⟨(some 76), none, .p .mov, [.t 0]⟩ ::
 ⟨(some 77), none, .p .mov, [.t 1]⟩ ::
 ⟨(some 78), none, .p .mov, [.t 2]⟩ ::
 ⟨(some 79), none, .p .mov, [.t 4]⟩ ::
 ⟨(some 80), none, .call, [.c (.func (.func 194) [] []), .t 76, .t 77, .t 78, .t 79]⟩ ::
 []))
(.cond (.t 80)
.ret
.skip))
.skip))
(.seq (.seq (.dops (⟨(some 81), none, .p .mov, [.t 1]⟩ ::
 ⟨(some 82), none, .p (.bin .gtr), [.t 81, .c (.int .i64 0)]⟩ ::
 ⟨(some 83), none, .p .mov, [.t 82]⟩ ::
 ⟨(some 84), (some (83, true)), .p .mov, [.t 4]⟩ ::
 ⟨(some 85), (some (83, true)), .p .mov, [.t 0]⟩ ::
 ⟨(some 86), (some (83, true)), .p .mov, [.t 1]⟩ ::
 ⟨(some 87), (some (83, true)), .p (.bin .sub), [.t 86, .c (.int .i64 1)]⟩ ::
 ⟨(some 88), (some (83, true)), .p (.iaddrS 2), [.t 85, .t 87]⟩ ::
 ⟨(some 89), (some (83, true)), .r (.loadN 2), [.t 88]⟩ ::
 ⟨(some 90), (some (83, true)), .p .mov, [.t 0]⟩ ::
 ⟨(some 91), (some (83, true)), .p .mov, [.t 13]⟩ ::
 ⟨(some 92), (some (83, true)), .p (.iaddrS 2), [.t 90, .t 91]⟩ ::
 ⟨(some 93), (some (83, true)), .r (.loadN 2), [.t 92]⟩ ::
 ⟨(some 94), (some (83, true)), .call, [.t 84, .t 89, .t 93]⟩ ::
 ⟨(some 95), (some (83, true)), .p (.bin .lss), [.t 94, .c (.int .i64 0)]⟩ ::
 ⟨(some 96), (some (83, true)), .p .not, [.t 95]⟩ ::
 ⟨(some 97), none, .p .pick, [.t 83, .t 96, .c (.bool false)]⟩ ::
 []) ([] :: [] :: [] :: [] :: [] :: [] :: [] :: [] :: [] :: [] :: [] :: [] :: [] :: [] :: [] :: [] :: [] :: []))
(.cond (.t 97)
(.seq (.ops (⟨(some 98), none, .p .mov, [.t 0]⟩ ::
 ⟨(some 99), none, .p .mov, [.t 1]⟩ ::
 ⟨(some 100), none, .p .mov, [.t 2]⟩ ::
 ⟨(some 101), none, .p .mov, [.t 13]⟩ ::
 ⟨(some 102), none, .p .mov, [.t 4]⟩ ::
 ⟨(some 103), none, .call, [.c (.func (.func 195) [] []), .t 98, .t 99, .t 100, .t 101, .t 102]⟩ ::
 ⟨(some 15), none, .p .mov, [.t 103]⟩ ::
 []))
(.seq (.ops (⟨(some 104), none, .p .mov, [.t 15]⟩ ::
 ⟨(some 1), none, .p .mov, [.t 104]⟩ ::
 []))
(.exit 1)))
.skip))
(.seq (.ops (⟨(some 106), none, .p .mov, [.t 0]⟩ ::
 ⟨(some 107), none, .p .mov, [.t 1]⟩ ::
 ⟨(some 108), none, .p .mov, [.t 2]⟩ ::
 ⟨(some 109), none, .p .mov, [.t 13]⟩ ::
 ⟨(some 110), none, .p .mov, [.t 4]⟩ ::
 ⟨(some 111), none, .call, [.c (.func (.func 196) [] []), .t 106, .t 107, .t 108, .t 109, .t 110]⟩ ::
 ⟨(some 105), none, .p .mov, [.t 111]⟩ ::
 ⟨(some 112), none, .p (.ext 0), [.t 105]⟩ ::
 ⟨(some 113), none, .p (.ext 1), [.t 105]⟩ ::
 ⟨(some 16), none, .p .mov, [.t 112]⟩ ::
 ⟨(some 17), none, .p .mov, [.t 113]⟩ ::
 []))
(.seq (.ops (⟨(some 114), none, .p .mov, [.t 17]⟩ ::
 ⟨(some 11), none, .p .mov, [.t 114]⟩ ::
 []))
(.seq (.ops (⟨(some 115), none, .p .mov, [.t 16]⟩ ::
 ⟨(some 116), none, .p .mov, [.t 1]⟩ ::
 ⟨(some 117), none, .p (.bin .sub), [.t 115, .t 116]⟩ ::
 ⟨(some 118), none, .p .mov, [.t 2]⟩ ::
 ⟨(some 119), none, .p .mov, [.t 16]⟩ ::
 ⟨(some 120), none, .p (.bin .sub), [.t 118, .t 119]⟩ ::
 ⟨(some 18), none, .p .mov, [.t 117]⟩ ::
 ⟨(some 19), none, .p .mov, [.t 120]⟩ ::
 []))
(.seq (.ops (⟨(some 121), none, .p .mov, [.t 12]⟩ ::
 ⟨(some 122), none, .p (.bin .quo), [.t 121, .c (.int .i64 8)]⟩ ::
 ⟨(some 20), none, .p .mov, [.t 122]⟩ ::
 []))
(.seq (.ops (⟨(some 123), none, .p .mov, [.t 18]⟩ ::
 ⟨(some 124), none, .p .mov, [.t 19]⟩ ::
 ⟨(some 125), none, .p (.bin .lss), [.t 123, .t 124]⟩ ::
 []))
(.cond (.t 125)
(.seq (.ops (⟨(some 126), none, .p .mov, [.t 18]⟩ ::
 ⟨(some 127), none, .p .mov, [.t 20]⟩ ::
 ⟨(some 128), none, .p (.bin .geq), [.t 126, .t 127]⟩ ::
 ⟨(some 10), none, .p .mov, [.t 128]⟩ ::
 []))
(.seq (.ops (⟨(some 129), none, .p .mov, [.t 0]⟩ ::
 ⟨(some 130), none, .p .mov, [.t 1]⟩ ::
 ⟨(some 131), none, .p .mov, [.t 16]⟩ ::
 ⟨(some 132), none, .p .mov, [.t 3]⟩ ::
 ⟨(some 133), none, .p .mov, [.t 4]⟩ ::
 ⟨(some 134), none, .call, [.c (.func (.func 186) [] []), .t 129, .t 130, .t 131, .t 132, .t 133]⟩ ::
 []))
(.ops (⟨(some 135), none, .p .mov, [.t 16]⟩ ::
 ⟨(some 136), none, .p (.bin .add), [.t 135, .c (.int .i64 1)]⟩ ::
 ⟨(some 1), none, .p .mov, [.t 136]⟩ ::
 []))))
(.seq (.ops (⟨(some 137), none, .p .mov, [.t 19]⟩ ::
 ⟨(some 138), none, .p .mov, [.t 20]⟩ ::
 ⟨(some 139), none, .p (.bin .geq), [.t 137, .t 138]⟩ ::
 ⟨(some 10), none, .p .mov, [.t 139]⟩ ::
 []))
(.seq (.ops (⟨(some 140), none, .p .mov, [.t 0]⟩ ::
 ⟨(some 141), none, .p .mov, [.t 16]⟩ ::
 ⟨(some 142), none, .p (.bin .add), [.t 141, .c (.int .i64 1)]⟩ ::
 ⟨(some 143), none, .p .mov, [.t 2]⟩ ::
 ⟨(some 144), none, .p .mov, [.t 3]⟩ ::
 ⟨(some 145), none, .p .mov, [.t 4]⟩ ::
 ⟨(some 146), none, .call, [.c (.func (.func 186) [] []), .t 140, .t 142, .t 143, .t 144, .t 145]⟩ ::
 []))
(.ops (⟨(some 147), none, .p .mov, [.t 16]⟩ ::
 ⟨(some 2), none, .p .mov, [.t 147]⟩ ::
 [])))))))))))))))))))
def C186 : AFunc := ⟨148, [],
(.seq (.ops (⟨(some 10), none, .p .mov, [.c (.bool true)]⟩ ::
 []))
(.seq (.ops (⟨(some 11), none, .p .mov, [.c (.bool true)]⟩ ::
 []))
(.block 0 (.loop L_slices_pdqsortCmpFunc_rank_one_0))))⟩
abbrev f_slices_pdqsortCmpFunc_rank_one : Nat := 186
abbrev C_slices_pdqsortCmpFunc_rank_one : AFunc := C186
def C187 : AFunc := ⟨8, [.tmp 2],
(.seq (.ops (⟨(some 2), none, .p .mov, [.c (.int .i64 0)]⟩ ::
 []))
(.seq (.cond (.c (.bool false))
(.seq (.ops (⟨(some 3), none, .p .mov, [.t 0]⟩ ::
 ⟨(some 4), none, .p (.conv .u32), [.t 3]⟩ ::
 ⟨(some 5), none, .call, [.c (.func (.func 197) [] []), .t 4]⟩ ::
 ⟨(some 2), none, .p .mov, [.t 5]⟩ ::
 []))
.ret)
.skip)
(.seq (.ops (⟨(some 6), none, .p .mov, [.t 0]⟩ ::
 ⟨(some 7), none, .call, [.c (.func (.func 198) [] []), .t 6]⟩ ::
 ⟨(some 2), none, .p .mov, [.t 7]⟩ ::
 []))
.ret)))⟩
abbrev f_math_bits_Len : Nat := 187
abbrev C_math_bits_Len : AFunc := C187
def C188 : AFunc := ⟨6, [.tmp 2],
(.seq (.ops (⟨(some 2), none, .p .mov, [.c (.bool false)]⟩ ::
 []))
(.seq (.ops (⟨(some 3), none, .p .mov, [.t 0]⟩ ::
 ⟨(some 4), none, .p .mov, [.t 0]⟩ ::
 ⟨(some 5), none, .p (.bin .neq), [.t 3, .t 4]⟩ ::
 ⟨(some 2), none, .p .mov, [.t 5]⟩ ::
 []))
.ret))⟩
abbrev f_cmp_isNaN_int : Nat := 188
abbrev C_cmp_isNaN_int : AFunc := C188
def L_slices_insertionSortCmpFunc_rank_one_1 : AC := (.seq (.seq (.dops (⟨(some 18), none, .p .mov, [.t 9]⟩ ::
 ⟨(some 19), none, .p .mov, [.t 1]⟩ ::
 ⟨(some 20), none, .p (.bin .gtr), [.t 18, .t 19]⟩ ::
 ⟨(some 21), none, .p .mov, [.t 20]⟩ ::
 ⟨(some 22), (some (21, true)), .p .mov, [.t 3]⟩ ::
 ⟨(some 23), (some (21, true)), .p .mov, [.t 0]⟩ ::
 ⟨(some 24), (some (21, true)), .p .mov, [.t 9]⟩ ::
 ⟨(some 25), (some (21, true)), .p (.iaddrS 2), [.t 23, .t 24]⟩ ::
 ⟨(some 26), (some (21, true)), .r (.loadN 2), [.t 25]⟩ ::
 ⟨(some 27), (some (21, true)), .p .mov, [.t 0]⟩ ::
 ⟨(some 28), (some (21, true)), .p .mov, [.t 9]⟩ ::
 ⟨(some 29), (some (21, true)), .p (.bin .sub), [.t 28, .c (.int .i64 1)]⟩ ::
 ⟨(some 30), (some (21, true)), .p (.iaddrS 2), [.t 27, .t 29]⟩ ::
 ⟨(some 31), (some (21, true)), .r (.loadN 2), [.t 30]⟩ ::
 ⟨(some 32), (some (21, true)), .call, [.t 22, .t 26, .t 31]⟩ ::
 ⟨(some 33), (some (21, true)), .p (.bin .lss), [.t 32, .c (.int .i64 0)]⟩ ::
 ⟨(some 34), none, .p .pick, [.t 21, .t 33, .c (.bool false)]⟩ ::
 []) ([] :: [] :: [] :: [] :: [] :: [] :: [] :: [] :: [] :: [] :: [] :: [] :: [] :: [] :: [] :: [] :: [] :: []))
(.cond (.t 34)
.skip
(.exit 2)))
(.seq (.block 3 (.dops (⟨(some 37), none, .p .mov, [.t 0]⟩ ::
 ⟨(some 38), none, .p .mov, [.t 9]⟩ ::
 ⟨(some 39), none, .p .mov, [.t 0]⟩ ::
 ⟨(some 40), none, .p .mov, [.t 9]⟩ ::
 ⟨(some 41), none, .p (.bin .sub), [.t 40, .c (.int .i64 1)]⟩ ::
 ⟨(some 42), none, .p .mov, [.t 0]⟩ ::
 ⟨(some 43), none, .p .mov, [.t 9]⟩ ::
 ⟨(some 44), none, .p (.bin .sub), [.t 43, .c (.int .i64 1)]⟩ ::
 ⟨(some 45), none, .p (.iaddrS 2), [.t 42, .t 44]⟩ ::
 ⟨(some 46), none, .r (.loadN 2), [.t 45]⟩ ::
 ⟨(some 47), none, .p .mov, [.t 0]⟩ ::
 ⟨(some 48), none, .p .mov, [.t 9]⟩ ::
 ⟨(some 49), none, .p (.iaddrS 2), [.t 47, .t 48]⟩ ::
 ⟨(some 50), none, .r (.loadN 2), [.t 49]⟩ ::
 ⟨(some 51), none, .p (.iaddrS 2), [.t 37, .t 38]⟩ ::
 ⟨none, none, .e (.store 2), [.t 51, .t 46]⟩ ::
 ⟨(some 52), none, .p (.iaddrS 2), [.t 39, .t 41]⟩ ::
 ⟨none, none, .e (.store 2), [.t 52, .t 50]⟩ ::
 []) ([] :: [] :: [] :: [] :: [] :: [] :: [] :: [] :: [] :: [] :: [] :: [] :: [] :: [] :: [] :: [] :: [] :: [] :: [])))
(.ops (⟨(some 35), none, .p .mov, [.t 9]⟩ ::
 ⟨(some 36), none, .p (.bin .sub), [.t 35, .c (.int .i64 1)]⟩ ::
 ⟨(some 9), none, .p .mov, [.t 36]⟩ ::
 []))))
def L_slices_insertionSortCmpFunc_rank_one_0 : AC := (.seq (.seq (.ops (⟨(some 12), none, .p .mov, [.t 8]⟩ ::
 ⟨(some 13), none, .p .mov, [.t 2]⟩ ::
 ⟨(some 14), none, .p (.bin .lss), [.t 12, .t 13]⟩ ::
 []))
(.cond (.t 14)
.skip
(.exit 0)))
(.seq (.block 1 (.seq (.ops (⟨(some 17), none, .p .mov, [.t 8]⟩ ::
 ⟨(some 9), none, .p .mov, [.t 17]⟩ ::
 []))
(.block 2 (.loop L_slices_insertionSortCmpFunc_rank_one_1))))
(.ops (⟨(some 15), none, .p .mov, [.t 8]⟩ ::
 ⟨(some 16), none, .p (.bin .add), [.t 15, .c (.int .i64 1)]⟩ ::
 ⟨(some 8), none, .p .mov, [.t 16]⟩ ::
 []))))
def C189 : AFunc := ⟨53, [],
(.seq (.ops (⟨(some 10), none, .p .mov, [.t 1]⟩ ::
 ⟨(some 11), none, .p (.bin .add), [.t 10, .c (.int .i64 1)]⟩ ::
 ⟨(some 8), none, .p .mov, [.t 11]⟩ ::
 []))
(.block 0 (.loop L_slices_insertionSortCmpFunc_rank_one_0)))⟩
abbrev f_slices_insertionSortCmpFunc_rank_one : Nat := 189
abbrev C_slices_insertionSortCmpFunc_rank_one : AFunc := C189
def L_slices_heapSortCmpFunc_rank_one_0 : AC := (.seq (.seq (.ops (⟨(some 20), none, .p .mov, [.t 11]⟩ ::
 ⟨(some 21), none, .p (.bin .geq), [.t 20, .c (.int .i64 0)]⟩ ::
 []))
(.cond (.t 21)
.skip
(.exit 0)))
(.seq (.block 1 (.ops (⟨(some 24), none, .p .mov, [.t 0]⟩ ::
 ⟨(some 25), none, .p .mov, [.t 11]⟩ ::
 ⟨(some 26), none, .p .mov, [.t 10]⟩ ::
 ⟨(some 27), none, .p .mov, [.t 8]⟩ ::
 ⟨(some 28), none, .p .mov, [.t 3]⟩ ::
 ⟨(some 29), none, .call, [.c (.func (.func 199) [] []), .t 24, .t 25, .t 26, .t 27, .t 28]⟩ ::
 [])))
(.ops (⟨(some 22), none, .p .mov, [.t 11]⟩ ::
 ⟨(some 23), none, .p (.bin .sub), [.t 22, .c (.int .i64 1)]⟩ ::
 ⟨(some 11), none, .p .mov, [.t 23]⟩ ::
 []))))
def L_slices_heapSortCmpFunc_rank_one_1 : AC := (.seq (.seq (.ops (⟨(some 32), none, .p .mov, [.t 12]⟩ ::
 ⟨(some 33), none, .p (.bin .geq), [.t 32, .c (.int .i64 0)]⟩ ::
 []))
(.cond (.t 33)
.skip
(.exit 2)))
(.seq (.block 3 (.seq (.dops (⟨(some 36), none, .p .mov, [.t 0]⟩ ::
 ⟨(some 37), none, .p .mov, [.t 8]⟩ ::
 ⟨(some 38), none, .p .mov, [.t 0]⟩ ::
 ⟨(some 39), none, .p .mov, [.t 8]⟩ ::
 ⟨(some 40), none, .p .mov, [.t 12]⟩ ::
 ⟨(some 41), none, .p (.bin .add), [.t 39, .t 40]⟩ ::
 ⟨(some 42), none, .p .mov, [.t 0]⟩ ::
 ⟨(some 43), none, .p .mov, [.t 8]⟩ ::
 ⟨(some 44), none, .p .mov, [.t 12]⟩ ::
 ⟨(some 45), none, .p (.bin .add), [.t 43, .t 44]⟩ ::
 ⟨(some 46), none, .p (.iaddrS 2), [.t 42, .t 45]⟩ ::
 ⟨(some 47), none, .r (.loadN 2), [.t 46]⟩ ::
 ⟨(some 48), none, .p .mov, [.t 0]⟩ ::
 ⟨(some 49), none, .p .mov, [.t 8]⟩ ::
 ⟨(some 50), none, .p (.iaddrS 2), [.t 48, .t 49]⟩ ::
 ⟨(some 51), none, .r (.loadN 2), [.t 50]⟩ ::
 ⟨(some 52), none, .p (.iaddrS 2), [.t 36, .t 37]⟩ ::
 ⟨none, none, .e (.store 2), [.t 52, .t 47]⟩ ::
 ⟨(some 53), none, .p (.iaddrS 2), [.t 38, .t 41]⟩ ::
 ⟨none, none, .e (.store 2), [.t 53, .t 51]⟩ ::
 []) ([] :: [] :: [] :: [] :: [] :: [] :: [] :: [] :: [] :: [] :: [] :: [] :: [] :: [] :: [] :: [] :: [] :: [] :: [] :: [] :: []))
(.ops (⟨(some 54), none, .p .mov, [.t 0]⟩ ::
 ⟨(some 55), none, .p .mov, [.t 9]⟩ ::
 ⟨(some 56), none, .p .mov, [.t 12]⟩ ::
 ⟨(some 57), none, .p .mov, [.t 8]⟩ ::
 ⟨(some 58), none, .p .mov, [.t 3]⟩ ::
 ⟨(some 59), none, .call, [.c (.func (.func 199) [] []), .t 54, .t 55, .t 56, .t 57, .t 58]⟩ ::
 []))))
(.ops (⟨(some 34), none, .p .mov, [.t 12]⟩ ::
 ⟨(some 35), none, .p (.bin .sub), [.t 34, .c (.int .i64 1)]⟩ ::
 ⟨(some 12), none, .p .mov, [.t 35]⟩ ::
 []))))
def C190 : AFunc := ⟨60, [],
(.seq (.ops (⟨(some 13), none, .p .mov, [.t 1]⟩ ::
 ⟨(some 8), none, .p .mov, [.t 13]⟩ ::
 []))
(.seq (.ops (⟨(some 9), none, .p .mov, [.c (.int .i64 0)]⟩ ::
 []))
(.seq (.ops (⟨(some 14), none, .p .mov, [.t 2]⟩ ::
 ⟨(some 15), none, .p .mov, [.t 1]⟩ ::
 ⟨(some 16), none, .p (.bin .sub), [.t 14, .t 15]⟩ ::
 ⟨(some 10), none, .p .mov, [.t 16]⟩ ::
 []))
(.seq (.seq (.ops (⟨(some 17), none, .p .mov, [.t 10]⟩ ::
 ⟨(some 18), none, .p (.bin .sub), [.t 17, .c (.int .i64 1)]⟩ ::
 ⟨(some 19), none, .p (.bin .quo), [.t 18, .c (.int .i64 2)]⟩ ::
 ⟨(some 11), none, .p .mov, [.t 19]⟩ ::
 []))
(.block 0 (.loop L_slices_heapSortCmpFunc_rank_one_0)))
(.seq (.ops (⟨(some 30), none, .p .mov, [.t 10]⟩ ::
 ⟨(some 31), none, .p (.bin .sub), [.t 30, .c (.int .i64 1)]⟩ ::
 ⟨(some 12), none, .p .mov, [.t 31]⟩ ::
 []))
(.block 2 (.loop L_slices_heapSortCmpFunc_rank_one_1)))))))⟩
abbrev f_slices_heapSortCmpFunc_rank_one : Nat := 190
abbrev C_slices_heapSortCmpFunc_rank_one : AFunc := C190
def L_slices_breakPatternsCmpFunc_rank_one_0 : AC := (.seq (.seq (.ops (⟨(some 28), none, .p .mov, [.t 11]⟩ ::
 ⟨(some 29), none, .p .mov, [.t 1]⟩ ::
 ⟨(some 30), none, .p .mov, [.t 8]⟩ ::
 ⟨(some 31), none, .p (.bin .quo), [.t 30, .c (.int .i64 4)]⟩ ::
 ⟨(some 32), none, .p (.bin .mul), [.t 31, .c (.int .i64 2)]⟩ ::
 ⟨(some 33), none, .p (.bin .add), [.t 29, .t 32]⟩ ::
 ⟨(some 34), none, .p (.bin .add), [.t 33, .c (.int .i64 1)]⟩ ::
 ⟨(some 35), none, .p (.bin .leq), [.t 28, .t 34]⟩ ::
 []))
(.cond (.t 35)
.skip
(.exit 0)))
(.seq (.block 1 (.seq (.ops (⟨(some 38), none, .call, [.c (.func (.func 201) [] []), .t 9]⟩ ::
 ⟨(some 39), none, .p .mov, [.t 10]⟩ ::
 ⟨(some 40), none, .p (.bin .sub), [.t 39, .c (.int .u64 1)]⟩ ::
 ⟨(some 41), none, .p (.bin .and), [.t 38, .t 40]⟩ ::
 ⟨(some 42), none, .p (.conv .i64), [.t 41]⟩ ::
 ⟨(some 12), none, .p .mov, [.t 42]⟩ ::
 []))
(.seq (.seq (.ops (⟨(some 43), none, .p .mov, [.t 12]⟩ ::
 ⟨(some 44), none, .p .mov, [.t 8]⟩ ::
 ⟨(some 45), none, .p (.bin .geq), [.t 43, .t 44]⟩ ::
 []))
(.cond (.t 45)
(.ops (⟨(some 46), none, .p .mov, [.t 12]⟩ ::
 ⟨(some 47), none, .p .mov, [.t 8]⟩ ::
 ⟨(some 48), none, .p (.bin .sub), [.t 46, .t 47]⟩ ::
 ⟨(some 12), none, .p .mov, [.t 48]⟩ ::
 []))
.skip))
(.dops (⟨(some 49), none, .p .mov, [.t 0]⟩ ::
 ⟨(some 50), none, .p .mov, [.t 11]⟩ ::
 ⟨(some 51), none, .p .mov, [.t 0]⟩ ::
 ⟨(some 52), none, .p .mov, [.t 1]⟩ ::
 ⟨(some 53), none, .p .mov, [.t 12]⟩ ::
 ⟨(some 54), none, .p (.bin .add), [.t 52, .t 53]⟩ ::
 ⟨(some 55), none, .p .mov, [.t 0]⟩ ::
 ⟨(some 56), none, .p .mov, [.t 1]⟩ ::
 ⟨(some 57), none, .p .mov, [.t 12]⟩ ::
 ⟨(some 58), none, .p (.bin .add), [.t 56, .t 57]⟩ ::
 ⟨(some 59), none, .p (.iaddrS 2), [.t 55, .t 58]⟩ ::
 ⟨(some 60), none, .r (.loadN 2), [.t 59]⟩ ::
 ⟨(some 61), none, .p .mov, [.t 0]⟩ ::
 ⟨(some 62), none, .p .mov, [.t 11]⟩ ::
 ⟨(some 63), none, .p (.iaddrS 2), [.t 61, .t 62]⟩ ::
 ⟨(some 64), none, .r (.loadN 2), [.t 63]⟩ ::
 ⟨(some 65), none, .p (.iaddrS 2), [.t 49, .t 50]⟩ ::
 ⟨none, none, .e (.store 2), [.t 65, .t 60]⟩ ::
 ⟨(some 66), none, .p (.iaddrS 2), [.t 51, .t 54]⟩ ::
 ⟨none, none, .e (.store 2), [.t 66, .t 64]⟩ ::
 []) ([] :: [] :: [] :: [] :: [] :: [] :: [] :: [] :: [] :: [] :: [] :: [] :: [] :: [] :: [] :: [] :: [] :: [] :: [] :: [] :: [])))))
(.ops (⟨(some 36), none, .p .mov, [.t 11]⟩ ::
 ⟨(some 37), none, .p (.bin .add), [.t 36, .c (.int .i64 1)]⟩ ::
 ⟨(some 11), none, .p .mov, [.t 37]⟩ ::
 []))))
def C191 : AFunc := ⟨67, [],
(.seq (.ops (⟨(some 13), none, .p .mov, [.t 2]⟩ ::
 ⟨(some 14), none, .p .mov, [.t 1]⟩ ::
 ⟨(some 15), none, .p (.bin .sub), [.t 13, .t 14]⟩ ::
 ⟨(some 8), none, .p .mov, [.t 15]⟩ ::
 []))
(.seq (.ops (⟨(some 16), none, .p .mov, [.t 8]⟩ ::
 ⟨(some 17), none, .p (.bin .geq), [.t 16, .c (.int .i64 8)]⟩ ::
 []))
(.cond (.t 17)
(.seq (.ops (⟨(some 18), none, .p .mov, [.t 8]⟩ ::
 ⟨(some 19), none, .p (.conv .u64), [.t 18]⟩ ::
 ⟨(some 9), none, .a (.alloc [(.int .u64 0)]), []⟩ ::
 ⟨none, none, .e (.store 1), [.t 9, .t 19]⟩ ::
 []))
(.seq (.ops (⟨(some 20), none, .p .mov, [.t 8]⟩ ::
 ⟨(some 21), none, .call, [.c (.func (.func 200) [] []), .t 20]⟩ ::
 ⟨(some 10), none, .p .mov, [.t 21]⟩ ::
 []))
(.seq (.ops (⟨(some 22), none, .p .mov, [.t 1]⟩ ::
 ⟨(some 23), none, .p .mov, [.t 8]⟩ ::
 ⟨(some 24), none, .p (.bin .quo), [.t 23, .c (.int .i64 4)]⟩ ::
 ⟨(some 25), none, .p (.bin .mul), [.t 24, .c (.int .i64 2)]⟩ ::
 ⟨(some 26), none, .p (.bin .add), [.t 22, .t 25]⟩ ::
 ⟨(some 27), none, .p (.bin .sub), [.t 26, .c (.int .i64 1)]⟩ ::
 ⟨(some 11), none, .p .mov, [.t 27]⟩ ::
 []))
(.block 0 (.loop L_slices_breakPatternsCmpFunc_rank_one_0)))))
.skip)))⟩
abbrev f_slices_breakPatternsCmpFunc_rank_one : Nat := 191
abbrev C_slices_breakPatternsCmpFunc_rank_one : AFunc := C191
def C192 : AFunc := ⟨63, [.tmp 8, .tmp 9],
(.seq (.ops (⟨(some 8), none, .p .mov, [.c (.int .i64 0)]⟩ ::
 ⟨(some 9), none, .p .mov, [.c (.int .i64 0)]⟩ ::
 []))
(.seq (.ops (⟨(some 15), none, .p .mov, [.t 2]⟩ ::
 ⟨(some 16), none, .p .mov, [.t 1]⟩ ::
 ⟨(some 17), none, .p (.bin .sub), [.t 15, .t 16]⟩ ::
 ⟨(some 10), none, .p .mov, [.t 17]⟩ ::
 []))
(.seq (.ops (⟨(some 11), none, .a (.alloc [(.int .i64 0)]), []⟩ ::
 []))
(.seq (.ops (⟨(some 18), none, .p .mov, [.t 1]⟩ ::
 ⟨(some 19), none, .p .mov, [.t 10]⟩ ::
 ⟨(some 20), none, .p (.bin .quo), [.t 19, .c (.int .i64 4)]⟩ ::
 ⟨(some 21), none, .p (.bin .mul), [.t 20, .c (.int .i64 1)]⟩ ::
 ⟨(some 22), none, .p (.bin .add), [.t 18, .t 21]⟩ ::
 ⟨(some 12), none, .p .mov, [.t 22]⟩ ::
 []))
(.seq (.ops (⟨(some 23), none, .p .mov, [.t 1]⟩ ::
 ⟨(some 24), none, .p .mov, [.t 10]⟩ ::
 ⟨(some 25), none, .p (.bin .quo), [.t 24, .c (.int .i64 4)]⟩ ::
 ⟨(some 26), none, .p (.bin .mul), [.t 25, .c (.int .i64 2)]⟩ ::
 ⟨(some 27), none, .p (.bin .add), [.t 23, .t 26]⟩ ::
 ⟨(some 13), none, .p .mov, [.t 27]⟩ ::
 []))
(.seq (.ops (⟨(some 28), none, .p .mov, [.t 1]⟩ ::
 ⟨(some 29), none, .p .mov, [.t 10]⟩ ::
 ⟨(some 30), none, .p (.bin .quo), [.t 29, .c (.int .i64 4)]⟩ ::
 ⟨(some 31), none, .p (.bin .mul), [.t 30, .c (.int .i64 3)]⟩ ::
 ⟨(some 32), none, .p (.bin .add), [.t 28, .t 31]⟩ ::
 ⟨(some 14), none, .p .mov, [.t 32]⟩ ::
 []))
(.seq (.seq (.ops (⟨(some 33), none, .p .mov, [.t 10]⟩ ::
 ⟨(some 34), none, .p (.bin .geq), [.t 33, .c (.int .i64 8)]⟩ ::
 []))
(.cond (.t 34)
(.seq (.seq (.ops (⟨(some 35), none, .p .mov, [.t 10]⟩ ::
 ⟨(some 36), none, .p (.bin .geq), [.t 35, .c (.int .i64 50)]⟩ ::
 []))
(.cond (.t 36)
(.seq (.ops (⟨(some 37), none, .p .mov, [.t 0]⟩ ::
 ⟨(some 38), none, .p .mov, [.t 12]⟩ ::
 ⟨(some 39), none, .p .mov, [.t 3]⟩ ::
 ⟨(some 40), none, .call, [.c (.func (.func 202) [] []), .t 37, .t 38, .t 11, .t 39]⟩ ::
 ⟨(some 12), none, .p .mov, [.t 40]⟩ ::
 []))
(.seq (.ops (⟨(some 41), none, .p .mov, [.t 0]⟩ ::
 ⟨(some 42), none, .p .mov, [.t 13]⟩ ::
 ⟨(some 43), none, .p .mov, [.t 3]⟩ ::
 ⟨(some 44), none, .call, [.c (.func (.func 202) [] []), .t 41, .t 42, .t 11, .t 43]⟩ ::
 ⟨(some 13), none, .p .mov, [.t 44]⟩ ::
 []))
(.ops (⟨(some 45), none, .p .mov, [.t 0]⟩ ::
 ⟨(some 46), none, .p .mov, [.t 14]⟩ ::
 ⟨(some 47), none, .p .mov, [.t 3]⟩ ::
 ⟨(some 48), none, .call, [.c (.func (.func 202) [] []), .t 45, .t 46, .t 11, .t 47]⟩ ::
 ⟨(some 14), none, .p .mov, [.t 48]⟩ ::
 []))))
.skip))
(.ops (⟨(some 49), none, .p .mov, [.t 0]⟩ ::
 ⟨(some 50), none, .p .mov, [.t 12]⟩ ::
 ⟨(some 51), none, .p .mov, [.t 13]⟩ ::
 ⟨(some 52), none, .p .mov, [.t 14]⟩ ::
 ⟨(some 53), none, .p .mov, [.t 3]⟩ ::
 ⟨(some 54), none, .call, [.c (.func (.func 203) [] []), .t 49, .t 50, .t 51, .t 52, .t 11, .t 53]⟩ ::
 ⟨(some 13), none, .p .mov, [.t 54]⟩ ::
 [])))
.skip))
(.seq (.ops (⟨(some 55), none, .r .load1, [.t 11]⟩ ::
 []))
(.block 0 (.seq (.ops (⟨(some 58), none, .p (.bin .eql), [.t 55, .c (.int .i64 0)]⟩ ::
 ⟨(some 57), none, .p .mov, [.t 58]⟩ ::
 []))
(.cond (.t 57)
(.seq (.ops (⟨(some 59), none, .p .mov, [.t 13]⟩ ::
 ⟨(some 8), none, .p .mov, [.t 59]⟩ ::
 ⟨(some 9), none, .p .mov, [.c (.int .i64 1)]⟩ ::
 []))
.ret)
(.seq (.ops (⟨(some 61), none, .p (.bin .eql), [.t 55, .c (.int .i64 12)]⟩ ::
 ⟨(some 60), none, .p .mov, [.t 61]⟩ ::
 []))
(.cond (.t 60)
(.seq (.ops (⟨(some 62), none, .p .mov, [.t 13]⟩ ::
 ⟨(some 8), none, .p .mov, [.t 62]⟩ ::
 ⟨(some 9), none, .p .mov, [.c (.int .i64 2)]⟩ ::
 []))
.ret)
(.seq (.ops (⟨(some 56), none, .p .mov, [.t 13]⟩ ::
 ⟨(some 8), none, .p .mov, [.t 56]⟩ ::
 ⟨(some 9), none, .p .mov, [.c (.int .i64 0)]⟩ ::
 []))
.ret))))))))))))))⟩
abbrev f_slices_choosePivotCmpFunc_rank_one : Nat := 192
abbrev C_slices_choosePivotCmpFunc_rank_one : AFunc := C192
def L_slices_reverseRangeCmpFunc_rank_one_0 : AC := (.seq (.seq (.ops (⟨(some 13), none, .p .mov, [.t 8]⟩ ::
 ⟨(some 14), none, .p .mov, [.t 9]⟩ ::
 ⟨(some 15), none, .p (.bin .lss), [.t 13, .t 14]⟩ ::
 []))
(.cond (.t 15)
.skip
(.exit 0)))
(.block 1 (.seq (.dops (⟨(some 16), none, .p .mov, [.t 0]⟩ ::
 ⟨(some 17), none, .p .mov, [.t 8]⟩ ::
 ⟨(some 18), none, .p .mov, [.t 0]⟩ ::
 ⟨(some 19), none, .p .mov, [.t 9]⟩ ::
 ⟨(some 20), none, .p .mov, [.t 0]⟩ ::
 ⟨(some 21), none, .p .mov, [.t 9]⟩ ::
 ⟨(some 22), none, .p (.iaddrS 2), [.t 20, .t 21]⟩ ::
 ⟨(some 23), none, .r (.loadN 2), [.t 22]⟩ ::
 ⟨(some 24), none, .p .mov, [.t 0]⟩ ::
 ⟨(some 25), none, .p .mov, [.t 8]⟩ ::
 ⟨(some 26), none, .p (.iaddrS 2), [.t 24, .t 25]⟩ ::
 ⟨(some 27), none, .r (.loadN 2), [.t 26]⟩ ::
 ⟨(some 28), none, .p (.iaddrS 2), [.t 16, .t 17]⟩ ::
 ⟨none, none, .e (.store 2), [.t 28, .t 23]⟩ ::
 ⟨(some 29), none, .p (.iaddrS 2), [.t 18, .t 19]⟩ ::
 ⟨none, none, .e (.store 2), [.t 29, .t 27]⟩ ::
 []) ([] :: [] :: [] :: [] :: [] :: [] :: [] :: [] :: [] :: [] :: [] :: [] :: [] :: [] :: [] :: [] :: []))
(.seq (.ops (⟨(some 30), none, .p .mov, [.t 8]⟩ ::
 ⟨(some 31), none, .p (.bin .add), [.t 30, .c (.int .i64 1)]⟩ ::
 ⟨(some 8), none, .p .mov, [.t 31]⟩ ::
 []))
(.ops (⟨(some 32), none, .p .mov, [.t 9]⟩ ::
 ⟨(some 33), none, .p (.bin .sub), [.t 32, .c (.int .i64 1)]⟩ ::
 ⟨(some 9), none, .p .mov, [.t 33]⟩ ::
 []))))))
def C193 : AFunc := ⟨34, [],
(.seq (.ops (⟨(some 10), none, .p .mov, [.t 1]⟩ ::
 ⟨(some 8), none, .p .mov, [.t 10]⟩ ::
 []))
(.seq (.ops (⟨(some 11), none, .p .mov, [.t 2]⟩ ::
 ⟨(some 12), none, .p (.bin .sub), [.t 11, .c (.int .i64 1)]⟩ ::
 ⟨(some 9), none, .p .mov, [.t 12]⟩ ::
 []))
(.block 0 (.loop L_slices_reverseRangeCmpFunc_rank_one_0))))⟩
abbrev f_slices_reverseRangeCmpFunc_rank_one : Nat := 193
abbrev C_slices_reverseRangeCmpFunc_rank_one : AFunc := C193
def L_slices_partialInsertionSortCmpFunc_rank_one_1 : AC := (.seq (.seq (.dops (⟨(some 19), none, .p .mov, [.t 9]⟩ ::
 ⟨(some 20), none, .p .mov, [.t 2]⟩ ::
 ⟨(some 21), none, .p (.bin .lss), [.t 19, .t 20]⟩ ::
 ⟨(some 22), none, .p .mov, [.t 21]⟩ ::
 ⟨(some 23), (some (22, true)), .p .mov, [.t 3]⟩ ::
 ⟨(some 24), (some (22, true)), .p .mov, [.t 0]⟩ ::
 ⟨(some 25), (some (22, true)), .p .mov, [.t 9]⟩ ::
 ⟨(some 26), (some (22, true)), .p (.iaddrS 2), [.t 24, .t 25]⟩ ::
 ⟨(some 27), (some (22, true)), .r (.loadN 2), [.t 26]⟩ ::
 ⟨(some 28), (some (22, true)), .p .mov, [.t 0]⟩ ::
 ⟨(some 29), (some (22, true)), .p .mov, [.t 9]⟩ ::
 ⟨(some 30), (some (22, true)), .p (.bin .sub), [.t 29, .c (.int .i64 1)]⟩ ::
 ⟨(some 31), (some (22, true)), .p (.iaddrS 2), [.t 28, .t 30]⟩ ::
 ⟨(some 32), (some (22, true)), .r (.loadN 2), [.t 31]⟩ ::
 ⟨(some 33), (some (22, true)), .call, [.t 23, .t 27, .t 32]⟩ ::
 ⟨(some 34), (some (22, true)), .p (.bin .lss), [.t 33, .c (.int .i64 0)]⟩ ::
 ⟨(some 35), (some (22, true)), .p .not, [.t 34]⟩ ::
 ⟨(some 36), none, .p .pick, [.t 22, .t 35, .c (.bool false)]⟩ ::
 []) ([] :: [] :: [] :: [] :: [] :: [] :: [] :: [] :: [] :: [] :: [] :: [] :: [] :: [] :: [] :: [] :: [] :: [] :: []))
(.cond (.t 36)
.skip
(.exit 2)))
(.block 3 (.ops (⟨(some 37), none, .p .mov, [.t 9]⟩ ::
 ⟨(some 38), none, .p (.bin .add), [.t 37, .c (.int .i64 1)]⟩ ::
 ⟨(some 9), none, .p .mov, [.t 38]⟩ ::
 []))))
def L_slices_partialInsertionSortCmpFunc_rank_one_2 : AC := (.seq (.seq (.ops (⟨(some 68), none, .p .mov, [.t 11]⟩ ::
 ⟨(some 69), none, .p (.bin .geq), [.t 68, .c (.int .i64 1)]⟩ ::
 []))
(.cond (.t 69)
.skip
(.exit 4)))
(.seq (.block 5 (.seq (.seq (.dops (⟨(some 72), none, .p .mov, [.t 3]⟩ ::
 ⟨(some 73), none, .p .mov, [.t 0]⟩ ::
 ⟨(some 74), none, .p .mov, [.t 11]⟩ ::
 ⟨(some 75), none, .p (.iaddrS 2), [.t 73, .t 74]⟩ ::
 ⟨(some 76), none, .r (.loadN 2), [.t 75]⟩ ::
 ⟨(some 77), none, .p .mov, [.t 0]⟩ ::
 ⟨(some 78), none, .p .mov, [.t 11]⟩ ::
 ⟨(some 79), none, .p (.bin .sub), [.t 78, .c (.int .i64 1)]⟩ ::
 ⟨(some 80), none, .p (.iaddrS 2), [.t 77, .t 79]⟩ ::
 ⟨(some 81), none, .r (.loadN 2), [.t 80]⟩ ::
 ⟨(some 82), none, .call, [.t 72, .t 76, .t 81]⟩ ::
 ⟨(some 83), none, .p (.bin .lss), [.t 82, .c (.int .i64 0)]⟩ ::
 ⟨(some 84), none, .p .not, [.t 83]⟩ ::
 []) ([] :: [] :: [] :: [] :: [] :: [] :: [] :: [] :: [] :: [] :: [] :: [] :: [] :: []))
(.cond (.t 84)
(.exit 4)
.skip))
(.dops (⟨(some 85), none, .p .mov, [.t 0]⟩ ::
 ⟨(some 86), none, .p .mov, [.t 11]⟩ ::
 ⟨(some 87), none, .p .mov, [.t 0]⟩ ::
 ⟨(some 88), none, .p .mov, [.t 11]⟩ ::
 ⟨(some 89), none, .p (.bin .sub), [.t 88, .c (.int .i64 1)]⟩ ::
 ⟨(some 90), none, .p .mov, [.t 0]⟩ ::
 ⟨(some 91), none, .p .mov, [.t 11]⟩ ::
 ⟨(some 92), none, .p (.bin .sub), [.t 91, .c (.int .i64 1)]⟩ ::
 ⟨(some 93), none, .p (.iaddrS 2), [.t 90, .t 92]⟩ ::
 ⟨(some 94), none, .r (.loadN 2), [.t 93]⟩ ::
 ⟨(some 95), none, .p .mov, [.t 0]⟩ ::
 ⟨(some 96), none, .p .mov, [.t 11]⟩ ::
 ⟨(some 97), none, .p (.iaddrS 2), [.t 95, .t 96]⟩ ::
 ⟨(some 98), none, .r (.loadN 2), [.t 97]⟩ ::
 ⟨(some 99), none, .p (.iaddrS 2), [.t 85, .t 86]⟩ ::
 ⟨none, none, .e (.store 2), [.t 99, .t 94]⟩ ::
 ⟨(some 100), none, .p (.iaddrS 2), [.t 87, .t 89]⟩ ::
 ⟨none, none, .e (.store 2), [.t 100, .t 98]⟩ ::
 []) ([] :: [] :: [] :: [] :: [] :: [] :: [] :: [] :: [] :: [] :: [] :: [] :: [] :: [] :: [] :: [] :: [] :: [] :: []))))
(.ops (⟨(some 70), none, .p .mov, [.t 11]⟩ ::
 ⟨(some 71), none, .p (.bin .sub), [.t 70, .c (.int .i64 1)]⟩ ::
 ⟨(some 11), none, .p .mov, [.t 71]⟩ ::
 []))))
def L_slices_partialInsertionSortCmpFunc_rank_one_3 : AC := (.seq (.seq (.ops (⟨(some 107), none, .p .mov, [.t 12]⟩ ::
 ⟨(some 108), none, .p .mov, [.t 2]⟩ ::
 ⟨(some 109), none, .p (.bin .lss), [.t 107, .t 108]⟩ ::
 []))
(.cond (.t 109)
.skip
(.exit 6)))
(.seq (.block 7 (.seq (.seq (.dops (⟨(some 112), none, .p .mov, [.t 3]⟩ ::
 ⟨(some 113), none, .p .mov, [.t 0]⟩ ::
 ⟨(some 114), none, .p .mov, [.t 12]⟩ ::
 ⟨(some 115), none, .p (.iaddrS 2), [.t 113, .t 114]⟩ ::
 ⟨(some 116), none, .r (.loadN 2), [.t 115]⟩ ::
 ⟨(some 117), none, .p .mov, [.t 0]⟩ ::
 ⟨(some 118), none, .p .mov, [.t 12]⟩ ::
 ⟨(some 119), none, .p (.bin .sub), [.t 118, .c (.int .i64 1)]⟩ ::
 ⟨(some 120), none, .p (.iaddrS 2), [.t 117, .t 119]⟩ ::
 ⟨(some 121), none, .r (.loadN 2), [.t 120]⟩ ::
 ⟨(some 122), none, .call, [.t 112, .t 116, .t 121]⟩ ::
 ⟨(some 123), none, .p (.bin .lss), [.t 122, .c (.int .i64 0)]⟩ ::
 ⟨(some 124), none, .p .not, [.t 123]⟩ ::
 []) ([] :: [] :: [] :: [] :: [] :: [] :: [] :: [] :: [] :: [] :: [] :: [] :: [] :: []))
(.cond (.t 124)
(.exit 6)
.skip))
(.dops (⟨(some 125), none, .p .mov, [.t 0]⟩ ::
 ⟨(some 126), none, .p .mov, [.t 12]⟩ ::
 ⟨(some 127), none, .p .mov, [.t 0]⟩ ::
 ⟨(some 128), none, .p .mov, [.t 12]⟩ ::
 ⟨(some 129), none, .p (.bin .sub), [.t 128, .c (.int .i64 1)]⟩ ::
 ⟨(some 130), none, .p .mov, [.t 0]⟩ ::
 ⟨(some 131), none, .p .mov, [.t 12]⟩ ::
 ⟨(some 132), none, .p (.bin .sub), [.t 131, .c (.int .i64 1)]⟩ ::
 ⟨(some 133), none, .p (.iaddrS 2), [.t 130, .t 132]⟩ ::
 ⟨(some 134), none, .r (.loadN 2), [.t 133]⟩ ::
 ⟨(some 135), none, .p .mov, [.t 0]⟩ ::
 ⟨(some 136), none, .p .mov, [.t 12]⟩ ::
 ⟨(some 137), none, .p (.iaddrS 2), [.t 135, .t 136]⟩ ::
 ⟨(some 138), none, .r (.loadN 2), [.t 137]⟩ ::
 ⟨(some 139), none, .p (.iaddrS 2), [.t 125, .t 126]⟩ ::
 ⟨none, none, .e (.store 2), [.t 139, .t 134]⟩ ::
 ⟨(some 140), none, .p (.iaddrS 2), [.t 127, .t 129]⟩ ::
 ⟨none, none, .e (.store 2), [.t 140, .t 138]⟩ ::
 []) ([] :: [] :: [] :: [] :: [] :: [] :: [] :: [] :: [] :: [] :: [] :: [] :: [] :: [] :: [] :: [] :: [] :: [] :: []))))
(.ops (⟨(some 110), none, .p .mov, [.t 12]⟩ ::
 ⟨(some 111), none, .p (.bin .add), [.t 110, .c (.int .i64 1)]⟩ ::
 ⟨(some 12), none, .p .mov, [.t 111]⟩ ::
 []))))
def L_slices_partialInsertionSortCmpFunc_rank_one_0 : AC := (.seq (.seq (.ops (⟨(some 15), none, .p .mov, [.t 10]⟩ ::
 ⟨(some 16), none, .p (.bin .lss), [.t 15, .c (.int .i64 5)]⟩ ::
 []))
(.cond (.t 16)
.skip
(.exit 0)))
(.seq (.block 1 (.seq (.block 2 (.loop L_slices_partialInsertionSortCmpFunc_rank_one_1))
(.seq (.seq (.ops (⟨(some 39), none, .p .mov, [.t 9]⟩ ::
 ⟨(some 40), none, .p .mov, [.t 2]⟩ ::
 ⟨(some 41), none, .p (.bin .eql), [.t 39, .t 40]⟩ ::
 []))
(.cond (.t 41)
(.seq (.ops (⟨(some 8), none, .p .mov, [.c (.bool true)]⟩ ::
 []))
.ret)
.skip))
(.seq (.seq (.ops (⟨(some 42), none, .p .mov, [.t 2]⟩ ::
 ⟨(some 43), none, .p .mov, [.t 1]⟩ ::
 ⟨(some 44), none, .p (.bin .sub), [.t 42, .t 43]⟩ ::
 ⟨(some 45), none, .p (.bin .lss), [.t 44, .c (.int .i64 50)]⟩ ::
 []))
(.cond (.t 45)
(.seq (.ops (⟨(some 8), none, .p .mov, [.c (.bool false)]⟩ ::
 []))
.ret)
.skip))
(.seq (.dops (⟨(some 46), none, .p .mov, [.t 0]⟩ ::
 ⟨(some 47), none, .p .mov, [.t 9]⟩ ::
 ⟨(some 48), none, .p .mov, [.t 0]⟩ ::
 ⟨(some 49), none, .p .mov, [.t 9]⟩ ::
 ⟨(some 50), none, .p (.bin .sub), [.t 49, .c (.int .i64 1)]⟩ ::
 ⟨(some 51), none, .p .mov, [.t 0]⟩ ::
 ⟨(some 52), none, .p .mov, [.t 9]⟩ ::
 ⟨(some 53), none, .p (.bin .sub), [.t 52, .c (.int .i64 1)]⟩ ::
 ⟨(some 54), none, .p (.iaddrS 2), [.t 51, .t 53]⟩ ::
 ⟨(some 55), none, .r (.loadN 2), [.t 54]⟩ ::
 ⟨(some 56), none, .p .mov, [.t 0]⟩ ::
 ⟨(some 57), none, .p .mov, [.t 9]⟩ ::
 ⟨(some 58), none, .p (.iaddrS 2), [.t 56, .t 57]⟩ ::
 ⟨(some 59), none, .r (.loadN 2), [.t 58]⟩ ::
 ⟨(some 60), none, .p (.iaddrS 2), [.t 46, .t 47]⟩ ::
 ⟨none, none, .e (.store 2), [.t 60, .t 55]⟩ ::
 ⟨(some 61), none, .p (.iaddrS 2), [.t 48, .t 50]⟩ ::
 ⟨none, none, .e (.store 2), [.t 61, .t 59]⟩ ::
 []) ([] :: [] :: [] :: [] :: [] :: [] :: [] :: [] :: [] :: [] :: [] :: [] :: [] :: [] :: [] :: [] :: [] :: [] :: []))
(.seq (.seq (.ops (⟨(some 62), none, .p .mov, [.t 9]⟩ ::
 ⟨(some 63), none, .p .mov, [.t 1]⟩ ::
 ⟨(some 64), none, .p (.bin .sub), [.t 62, .t 63]⟩ ::
 ⟨(some 65), none, .p (.bin .geq), [.t 64, .c (.int .i64 2)]⟩ ::
 []))
(.cond (.t 65)
(.seq (.ops (⟨(some 66), none, .p .mov, [.t 9]⟩ ::
 ⟨(some 67), none, .p (.bin .sub), [.t 66, .c (.int .i64 1)]⟩ ::
 ⟨(some 11), none, .p .mov, [.t 67]⟩ ::
 []))
(.block 4 (.loop L_slices_partialInsertionSortCmpFunc_rank_one_2)))
.skip))
(.seq (.ops (⟨(some 101), none, .p .mov, [.t 2]⟩ ::
 ⟨(some 102), none, .p .mov, [.t 9]⟩ ::
 ⟨(some 103), none, .p (.bin .sub), [.t 101, .t 102]⟩ ::
 ⟨(some 104), none, .p (.bin .geq), [.t 103, .c (.int .i64 2)]⟩ ::
 []))
(.cond (.t 104)
(.seq (.ops (⟨(some 105), none, .p .mov, [.t 9]⟩ ::
 ⟨(some 106), none, .p (.bin .add), [.t 105, .c (.int .i64 1)]⟩ ::
 ⟨(some 12), none, .p .mov, [.t 106]⟩ ::
 []))
(.block 6 (.loop L_slices_partialInsertionSortCmpFunc_rank_one_3)))
.skip))))))))
(.ops (⟨(some 17), none, .p .mov, [.t 10]⟩ ::
 ⟨(some 18), none, .p (.bin .add), [.t 17, .c (.int .i64 1)]⟩ ::
 ⟨(some 10), none, .p .mov, [.t 18]⟩ ::
 []))))
def C194 : AFunc := ⟨141, [.tmp 8],
(.seq (.ops (⟨(some 8), none, .p .mov, [.c (.bool false)]⟩ ::
 []))
(.seq (.ops (⟨(some 13), none, .p .mov, [.t 1]⟩ ::
 ⟨(some 14), none, .p (.bin .add), [.t 13, .c (.int .i64 1)]⟩ ::
 ⟨(some 9), none, .p .mov, [.t 14]⟩ ::
 []))
(.seq (.seq (.ops (⟨(some 10), none, .p .mov, [.c (.int .i64 0)]⟩ ::
 []))
(.block 0 (.loop L_slices_partialInsertionSortCmpFunc_rank_one_0)))
(.seq (.ops (⟨(some 8), none, .p .mov, [.c (.bool false)]⟩ ::
 []))
.ret))))⟩
abbrev f_slices_partialInsertionSortCmpFunc_rank_one : Nat := 194
abbrev C_slices_partialInsertionSortCmpFunc_rank_one : AFunc := C194
def L_slices_partitionEqualCmpFunc_rank_one_1 : AC := (.seq (.seq (.dops (⟨(some 31), none, .p .mov, [.t 11]⟩ ::
 ⟨(some 32), none, .p .mov, [.t 12]⟩ ::
 ⟨(some 33), none, .p (.bin .leq), [.t 31, .t 32]⟩ ::
 ⟨(some 34), none, .p .mov, [.t 33]⟩ ::
 ⟨(some 35), (some (34, true)), .p .mov, [.t 4]⟩ ::
 ⟨(some 36), (some (34, true)), .p .mov, [.t 0]⟩ ::
 ⟨(some 37), (some (34, true)), .p .mov, [.t 1]⟩ ::
 ⟨(some 38), (some (34, true)), .p (.iaddrS 2), [.t 36, .t 37]⟩ ::
 ⟨(some 39), (some (34, true)), .r (.loadN 2), [.t 38]⟩ ::
 ⟨(some 40), (some (34, true)), .p .mov, [.t 0]⟩ ::
 ⟨(some 41), (some (34, true)), .p .mov, [.t 11]⟩ ::
 ⟨(some 42), (some (34, true)), .p (.iaddrS 2), [.t 40, .t 41]⟩ ::
 ⟨(some 43), (some (34, true)), .r (.loadN 2), [.t 42]⟩ ::
 ⟨(some 44), (some (34, true)), .call, [.t 35, .t 39, .t 43]⟩ ::
 ⟨(some 45), (some (34, true)), .p (.bin .lss), [.t 44, .c (.int .i64 0)]⟩ ::
 ⟨(some 46), (some (34, true)), .p .not, [.t 45]⟩ ::
 ⟨(some 47), none, .p .pick, [.t 34, .t 46, .c (.bool false)]⟩ ::
 []) ([] :: [] :: [] :: [] :: [] :: [] :: [] :: [] :: [] :: [] :: [] :: [] :: [] :: [] :: [] :: [] :: [] :: []))
(.cond (.t 47)
.skip
(.exit 2)))
(.block 3 (.ops (⟨(some 48), none, .p .mov, [.t 11]⟩ ::
 ⟨(some 49), none, .p (.bin .add), [.t 48, .c (.int .i64 1)]⟩ ::
 ⟨(some 11), none, .p .mov, [.t 49]⟩ ::
 []))))
def L_slices_partitionEqualCmpFunc_rank_one_2 : AC := (.seq (.seq (.dops (⟨(some 50), none, .p .mov, [.t 11]⟩ ::
 ⟨(some 51), none, .p .mov, [.t 12]⟩ ::
 ⟨(some 52), none, .p (.bin .leq), [.t 50, .t 51]⟩ ::
 ⟨(some 53), none, .p .mov, [.t 52]⟩ ::
 ⟨(some 54), (some (53, true)), .p .mov, [.t 4]⟩ ::
 ⟨(some 55), (some (53, true)), .p .mov, [.t 0]⟩ ::
 ⟨(some 56), (some (53, true)), .p .mov, [.t 1]⟩ ::
 ⟨(some 57), (some (53, true)), .p (.iaddrS 2), [.t 55, .t 56]⟩ ::
 ⟨(some 58), (some (53, true)), .r (.loadN 2), [.t 57]⟩ ::
 ⟨(some 59), (some (53, true)), .p .mov, [.t 0]⟩ ::
 ⟨(some 60), (some (53, true)), .p .mov, [.t 12]⟩ ::
 ⟨(some 61), (some (53, true)), .p (.iaddrS 2), [.t 59, .t 60]⟩ ::
 ⟨(some 62), (some (53, true)), .r (.loadN 2), [.t 61]⟩ ::
 ⟨(some 63), (some (53, true)), .call, [.t 54, .t 58, .t 62]⟩ ::
 ⟨(some 64), (some (53, true)), .p (.bin .lss), [.t 63, .c (.int .i64 0)]⟩ ::
 ⟨(some 65), none, .p .pick, [.t 53, .t 64, .c (.bool false)]⟩ ::
 []) ([] :: [] :: [] :: [] :: [] :: [] :: [] :: [] :: [] :: [] :: [] :: [] :: [] :: [] :: [] :: [] :: []))
(.cond (.t 65)
.skip
(.exit 4)))
(.block 5 (.ops (⟨(some 66), none, .p .mov, [.t 12]⟩ ::
 ⟨(some 67), none, .p (.bin .sub), [.t 66, .c (.int .i64 1)]⟩ ::
 ⟨(some 12), none, .p .mov, [.t 67]⟩ ::
 []))))
def L_slices_partitionEqualCmpFunc_rank_one_0 : AC := (.block 1 (.seq (.block 2 (.loop L_slices_partitionEqualCmpFunc_rank_one_1))
(.seq (.block 4 (.loop L_slices_partitionEqualCmpFunc_rank_one_2))
(.seq (.seq (.ops (⟨(some 68), none, .p .mov, [.t 11]⟩ ::
 ⟨(some 69), none, .p .mov, [.t 12]⟩ ::
 ⟨(some 70), none, .p (.bin .gtr), [.t 68, .t 69]⟩ ::
 []))
(.cond (.t 70)
(.exit 0)
.skip))
(.seq (.dops (⟨(some 71), none, .p .mov, [.t 0]⟩ ::
 ⟨(some 72), none, .p .mov, [.t 11]⟩ ::
 ⟨(some 73), none, .p .mov, [.t 0]⟩ ::
 ⟨(some 74), none, .p .mov, [.t 12]⟩ ::
 ⟨(some 75), none, .p .mov, [.t 0]⟩ ::
 ⟨(some 76), none, .p .mov, [.t 12]⟩ ::
 ⟨(some 77), none, .p (.iaddrS 2), [.t 75, .t 76]⟩ ::
 ⟨(some 78), none, .r (.loadN 2), [.t 77]⟩ ::
 ⟨(some 79), none, .p .mov, [.t 0]⟩ ::
 ⟨(some 80), none, .p .mov, [.t 11]⟩ ::
 ⟨(some 81), none, .p (.iaddrS 2), [.t 79, .t 80]⟩ ::
 ⟨(some 82), none, .r (.loadN 2), [.t 81]⟩ ::
 ⟨(some 83), none, .p (.iaddrS 2), [.t 71, .t 72]⟩ ::
 ⟨none, none, .e (.store 2), [.t 83, .t 78]⟩ ::
 ⟨(some 84), none, .p (.iaddrS 2), [.t 73, .t 74]⟩ ::
 ⟨none, none, .e (.store 2), [.t 84, .t 82]⟩ ::
 []) ([] :: [] :: [] :: [] :: [] :: [] :: [] :: [] :: [] :: [] :: [] :: [] :: [] :: [] :: [] :: [] :: []))
(.seq (.ops (⟨(some 85), none, .p .mov, [.t 11]⟩ ::
 ⟨(some 86), none, .p (.bin .add), [.t 85, .c (.int .i64 1)]⟩ ::
 ⟨(some 11), none, .p .mov, [.t 86]⟩ ::
 []))
(.ops (⟨(some 87), none, .p .mov, [.t 12]⟩ ::
 ⟨(some 88), none, .p (.bin .sub), [.t 87, .c (.int .i64 1)]⟩ ::
 ⟨(some 12), none, .p .mov, [.t 88]⟩ ::
 []))))))))
def C195 : AFunc := ⟨90, [.tmp 10],
(.seq (.ops (⟨(some 10), none, .p .mov, [.c (.int .i64 0)]⟩ ::
 []))
(.seq (.dops (⟨(some 13), none, .p .mov, [.t 0]⟩ ::
 ⟨(some 14), none, .p .mov, [.t 1]⟩ ::
 ⟨(some 15), none, .p .mov, [.t 0]⟩ ::
 ⟨(some 16), none, .p .mov, [.t 3]⟩ ::
 ⟨(some 17), none, .p .mov, [.t 0]⟩ ::
 ⟨(some 18), none, .p .mov, [.t 3]⟩ ::
 ⟨(some 19), none, .p (.iaddrS 2), [.t 17, .t 18]⟩ ::
 ⟨(some 20), none, .r (.loadN 2), [.t 19]⟩ ::
 ⟨(some 21), none, .p .mov, [.t 0]⟩ ::
 ⟨(some 22), none, .p .mov, [.t 1]⟩ ::
 ⟨(some 23), none, .p (.iaddrS 2), [.t 21, .t 22]⟩ ::
 ⟨(some 24), none, .r (.loadN 2), [.t 23]⟩ ::
 ⟨(some 25), none, .p (.iaddrS 2), [.t 13, .t 14]⟩ ::
 ⟨none, none, .e (.store 2), [.t 25, .t 20]⟩ ::
 ⟨(some 26), none, .p (.iaddrS 2), [.t 15, .t 16]⟩ ::
 ⟨none, none, .e (.store 2), [.t 26, .t 24]⟩ ::
 []) ([] :: [] :: [] :: [] :: [] :: [] :: [] :: [] :: [] :: [] :: [] :: [] :: [] :: [] :: [] :: [] :: []))
(.seq (.ops (⟨(some 27), none, .p .mov, [.t 1]⟩ ::
 ⟨(some 28), none, .p (.bin .add), [.t 27, .c (.int .i64 1)]⟩ ::
 ⟨(some 29), none, .p .mov, [.t 2]⟩ ::
 ⟨(some 30), none, .p (.bin .sub), [.t 29, .c (.int .i64 1)]⟩ ::
 ⟨(some 11), none, .p .mov, [.t 28]⟩ ::
 ⟨(some 12), none, .p .mov, [.t 30]⟩ ::
 []))
(.seq (.block 0 (.loop L_slices_partitionEqualCmpFunc_rank_one_0))
(.seq (.ops (⟨(some 89), none, .p .mov, [.t 11]⟩ ::
 ⟨(some 10), none, .p .mov, [.t 89]⟩ ::
 []))
.ret)))))⟩
abbrev f_slices_partitionEqualCmpFunc_rank_one : Nat := 195
abbrev C_slices_partitionEqualCmpFunc_rank_one : AFunc := C195
def L_slices_partitionCmpFunc_rank_one_0 : AC := (.seq (.seq (.dops (⟨(some 32), none, .p .mov, [.t 12]⟩ ::
 ⟨(some 33), none, .p .mov, [.t 13]⟩ ::
 ⟨(some 34), none, .p (.bin .leq), [.t 32, .t 33]⟩ ::
 ⟨(some 35), none, .p .mov, [.t 34]⟩ ::
 ⟨(some 36), (some (35, true)), .p .mov, [.t 4]⟩ ::
 ⟨(some 37), (some (35, true)), .p .mov, [.t 0]⟩ ::
 ⟨(some 38), (some (35, true)), .p .mov, [.t 12]⟩ ::
 ⟨(some 39), (some (35, true)), .p (.iaddrS 2), [.t 37, .t 38]⟩ ::
 ⟨(some 40), (some (35, true)), .r (.loadN 2), [.t 39]⟩ ::
 ⟨(some 41), (some (35, true)), .p .mov, [.t 0]⟩ ::
 ⟨(some 42), (some (35, true)), .p .mov, [.t 1]⟩ ::
 ⟨(some 43), (some (35, true)), .p (.iaddrS 2), [.t 41, .t 42]⟩ ::
 ⟨(some 44), (some (35, true)), .r (.loadN 2), [.t 43]⟩ ::
 ⟨(some 45), (some (35, true)), .call, [.t 36, .t 40, .t 44]⟩ ::
 ⟨(some 46), (some (35, true)), .p (.bin .lss), [.t 45, .c (.int .i64 0)]⟩ ::
 ⟨(some 47), none, .p .pick, [.t 35, .t 46, .c (.bool false)]⟩ ::
 []) ([] :: [] :: [] :: [] :: [] :: [] :: [] :: [] :: [] :: [] :: [] :: [] :: [] :: [] :: [] :: [] :: []))
(.cond (.t 47)
.skip
(.exit 0)))
(.block 1 (.ops (⟨(some 48), none, .p .mov, [.t 12]⟩ ::
 ⟨(some 49), none, .p (.bin .add), [.t 48, .c (.int .i64 1)]⟩ ::
 ⟨(some 12), none, .p .mov, [.t 49]⟩ ::
 []))))
def L_slices_partitionCmpFunc_rank_one_1 : AC := (.seq (.seq (.dops (⟨(some 50), none, .p .mov, [.t 12]⟩ ::
 ⟨(some 51), none, .p .mov, [.t 13]⟩ ::
 ⟨(some 52), none, .p (.bin .leq), [.t 50, .t 51]⟩ ::
 ⟨(some 53), none, .p .mov, [.t 52]⟩ ::
 ⟨(some 54), (some (53, true)), .p .mov, [.t 4]⟩ ::
 ⟨(some 55), (some (53, true)), .p .mov, [.t 0]⟩ ::
 ⟨(some 56), (some (53, true)), .p .mov, [.t 13]⟩ ::
 ⟨(some 57), (some (53, true)), .p (.iaddrS 2), [.t 55, .t 56]⟩ ::
 ⟨(some 58), (some (53, true)), .r (.loadN 2), [.t 57]⟩ ::
 ⟨(some 59), (some (53, true)), .p .mov, [.t 0]⟩ ::
 ⟨(some 60), (some (53, true)), .p .mov, [.t 1]⟩ ::
 ⟨(some 61), (some (53, true)), .p (.iaddrS 2), [.t 59, .t 60]⟩ ::
 ⟨(some 62), (some (53, true)), .r (.loadN 2), [.t 61]⟩ ::
 ⟨(some 63), (some (53, true)), .call, [.t 54, .t 58, .t 62]⟩ ::
 ⟨(some 64), (some (53, true)), .p (.bin .lss), [.t 63, .c (.int .i64 0)]⟩ ::
 ⟨(some 65), (some (53, true)), .p .not, [.t 64]⟩ ::
 ⟨(some 66), none, .p .pick, [.t 53, .t 65, .c (.bool false)]⟩ ::
 []) ([] :: [] :: [] :: [] :: [] :: [] :: [] :: [] :: [] :: [] :: [] :: [] :: [] :: [] :: [] :: [] :: [] :: []))
(.cond (.t 66)
.skip
(.exit 2)))
(.block 3 (.ops (⟨(some 67), none, .p .mov, [.t 13]⟩ ::
 ⟨(some 68), none, .p (.bin .sub), [.t 67, .c (.int .i64 1)]⟩ ::
 ⟨(some 13), none, .p .mov, [.t 68]⟩ ::
 []))))
def L_slices_partitionCmpFunc_rank_one_3 : AC := (.seq (.seq (.dops (⟨(some 105), none, .p .mov, [.t 12]⟩ ::
 ⟨(some 106), none, .p .mov, [.t 13]⟩ ::
 ⟨(some 107), none, .p (.bin .leq), [.t 105, .t 106]⟩ ::
 ⟨(some 108), none, .p .mov, [.t 107]⟩ ::
 ⟨(some 109), (some (108, true)), .p .mov, [.t 4]⟩ ::
 ⟨(some 110), (some (108, true)), .p .mov, [.t 0]⟩ ::
 ⟨(some 111), (some (108, true)), .p .mov, [.t 12]⟩ ::
 ⟨(some 112), (some (108, true)), .p (.iaddrS 2), [.t 110, .t 111]⟩ ::
 ⟨(some 113), (some (108, true)), .r (.loadN 2), [.t 112]⟩ ::
 ⟨(some 114), (some (108, true)), .p .mov, [.t 0]⟩ ::
 ⟨(some 115), (some (108, true)), .p .mov, [.t 1]⟩ ::
 ⟨(some 116), (some (108, true)), .p (.iaddrS 2), [.t 114, .t 115]⟩ ::
 ⟨(some 117), (some (108, true)), .r (.loadN 2), [.t 116]⟩ ::
 ⟨(some 118), (some (108, true)), .call, [.t 109, .t 113, .t 117]⟩ ::
 ⟨(some 119), (some (108, true)), .p (.bin .lss), [.t 118, .c (.int .i64 0)]⟩ ::
 ⟨(some 120), none, .p .pick, [.t 108, .t 119, .c (.bool false)]⟩ ::
 []) ([] :: [] :: [] :: [] :: [] :: [] :: [] :: [] :: [] :: [] :: [] :: [] :: [] :: [] :: [] :: [] :: []))
(.cond (.t 120)
.skip
(.exit 6)))
(.block 7 (.ops (⟨(some 121), none, .p .mov, [.t 12]⟩ ::
 ⟨(some 122), none, .p (.bin .add), [.t 121, .c (.int .i64 1)]⟩ ::
 ⟨(some 12), none, .p .mov, [.t 122]⟩ ::
 []))))
def L_slices_partitionCmpFunc_rank_one_4 : AC := (.seq (.seq (.dops (⟨(some 123), none, .p .mov, [.t 12]⟩ ::
 ⟨(some 124), none, .p .mov, [.t 13]⟩ ::
 ⟨(some 125), none, .p (.bin .leq), [.t 123, .t 124]⟩ ::
 ⟨(some 126), none, .p .mov, [.t 125]⟩ ::
 ⟨(some 127), (some (126, true)), .p .mov, [.t 4]⟩ ::
 ⟨(some 128), (some (126, true)), .p .mov, [.t 0]⟩ ::
 ⟨(some 129), (some (126, true)), .p .mov, [.t 13]⟩ ::
 ⟨(some 130), (some (126, true)), .p (.iaddrS 2), [.t 128, .t 129]⟩ ::
 ⟨(some 131), (some (126, true)), .r (.loadN 2), [.t 130]⟩ ::
 ⟨(some 132), (some (126, true)), .p .mov, [.t 0]⟩ ::
 ⟨(some 133), (some (126, true)), .p .mov, [.t 1]⟩ ::
 ⟨(some 134), (some (126, true)), .p (.iaddrS 2), [.t 132, .t 133]⟩ ::
 ⟨(some 135), (some (126, true)), .r (.loadN 2), [.t 134]⟩ ::
 ⟨(some 136), (some (126, true)), .call, [.t 127, .t 131, .t 135]⟩ ::
 ⟨(some 137), (some (126, true)), .p (.bin .lss), [.t 136, .c (.int .i64 0)]⟩ ::
 ⟨(some 138), (some (126, true)), .p .not, [.t 137]⟩ ::
 ⟨(some 139), none, .p .pick, [.t 126, .t 138, .c (.bool false)]⟩ ::
 []) ([] :: [] :: [] :: [] :: [] :: [] :: [] :: [] :: [] :: [] :: [] :: [] :: [] :: [] :: [] :: [] :: [] :: []))
(.cond (.t 139)
.skip
(.exit 8)))
(.block 9 (.ops (⟨(some 140), none, .p .mov, [.t 13]⟩ ::
 ⟨(some 141), none, .p (.bin .sub), [.t 140, .c (.int .i64 1)]⟩ ::
 ⟨(some 13), none, .p .mov, [.t 141]⟩ ::
 []))))
def L_slices_partitionCmpFunc_rank_one_2 : AC := (.block 5 (.seq (.block 6 (.loop L_slices_partitionCmpFunc_rank_one_3))
(.seq (.block 8 (.loop L_slices_partitionCmpFunc_rank_one_4))
(.seq (.seq (.ops (⟨(some 142), none, .p .mov, [.t 12]⟩ ::
 ⟨(some 143), none, .p .mov, [.t 13]⟩ ::
 ⟨(some 144), none, .p (.bin .gtr), [.t 142, .t 143]⟩ ::
 []))
(.cond (.t 144)
(.exit 4)
.skip))
(.seq (.dops (⟨(some 145), none, .p .mov, [.t 0]⟩ ::
 ⟨(some 146), none, .p .mov, [.t 12]⟩ ::
 ⟨(some 147), none, .p .mov, [.t 0]⟩ ::
 ⟨(some 148), none, .p .mov, [.t 13]⟩ ::
 ⟨(some 149), none, .p .mov, [.t 0]⟩ ::
 ⟨(some 150), none, .p .mov, [.t 13]⟩ ::
 ⟨(some 151), none, .p (.iaddrS 2), [.t 149, .t 150]⟩ ::
 ⟨(some 152), none, .r (.loadN 2), [.t 151]⟩ ::
 ⟨(some 153), none, .p .mov, [.t 0]⟩ ::
 ⟨(some 154), none, .p .mov, [.t 12]⟩ ::
 ⟨(some 155), none, .p (.iaddrS 2), [.t 153, .t 154]⟩ ::
 ⟨(some 156), none, .r (.loadN 2), [.t 155]⟩ ::
 ⟨(some 157), none, .p (.iaddrS 2), [.t 145, .t 146]⟩ ::
 ⟨none, none, .e (.store 2), [.t 157, .t 152]⟩ ::
 ⟨(some 158), none, .p (.iaddrS 2), [.t 147, .t 148]⟩ ::
 ⟨none, none, .e (.store 2), [.t 158, .t 156]⟩ ::
 []) ([] :: [] :: [] :: [] :: [] :: [] :: [] :: [] :: [] :: [] :: [] :: [] :: [] :: [] :: [] :: [] :: []))
(.seq (.ops (⟨(some 159), none, .p .mov, [.t 12]⟩ ::
 ⟨(some 160), none, .p (.bin .add), [.t 159, .c (.int .i64 1)]⟩ ::
 ⟨(some 12), none, .p .mov, [.t 160]⟩ ::
 []))
(.ops (⟨(some 161), none, .p .mov, [.t 13]⟩ ::
 ⟨(some 162), none, .p (.bin .sub), [.t 161, .c (.int .i64 1)]⟩ ::
 ⟨(some 13), none, .p .mov, [.t 162]⟩ ::
 []))))))))
def C196 : AFunc := ⟨178, [.tmp 10, .tmp 11],
(.seq (.ops (⟨(some 10), none, .p .mov, [.c (.int .i64 0)]⟩ ::
 ⟨(some 11), none, .p .mov, [.c (.bool false)]⟩ ::
 []))
(.seq (.dops (⟨(some 14), none, .p .mov, [.t 0]⟩ ::
 ⟨(some 15), none, .p .mov, [.t 1]⟩ ::
 ⟨(some 16), none, .p .mov, [.t 0]⟩ ::
 ⟨(some 17), none, .p .mov, [.t 3]⟩ ::
 ⟨(some 18), none, .p .mov, [.t 0]⟩ ::
 ⟨(some 19), none, .p .mov, [.t 3]⟩ ::
 ⟨(some 20), none, .p (.iaddrS 2), [.t 18, .t 19]⟩ ::
 ⟨(some 21), none, .r (.loadN 2), [.t 20]⟩ ::
 ⟨(some 22), none, .p .mov, [.t 0]⟩ ::
 ⟨(some 23), none, .p .mov, [.t 1]⟩ ::
 ⟨(some 24), none, .p (.iaddrS 2), [.t 22, .t 23]⟩ ::
 ⟨(some 25), none, .r (.loadN 2), [.t 24]⟩ ::
 ⟨(some 26), none, .p (.iaddrS 2), [.t 14, .t 15]⟩ ::
 ⟨none, none, .e (.store 2), [.t 26, .t 21]⟩ ::
 ⟨(some 27), none, .p (.iaddrS 2), [.t 16, .t 17]⟩ ::
 ⟨none, none, .e (.store 2), [.t 27, .t 25]⟩ ::
 []) ([] :: [] :: [] :: [] :: [] :: [] :: [] :: [] :: [] :: [] :: [] :: [] :: [] :: [] :: [] :: [] :: []))
(.seq (.ops (⟨(some 28), none, .p .mov, [.t 1]⟩ ::
 ⟨(some 29), none, .p (.bin .add), [.t 28, .c (.int .i64 1)]⟩ ::
 ⟨(some 30), none, .p .mov, [.t 2]⟩ ::
 ⟨(some 31), none, .p (.bin .sub), [.t 30, .c (.int .i64 1)]⟩ ::
 ⟨(some 12), none, .p .mov, [.t 29]⟩ ::
 ⟨(some 13), none, .p .mov, [.t 31]⟩ ::
 []))
(.seq (.block 0 (.loop L_slices_partitionCmpFunc_rank_one_0))
(.seq (.block 2 (.loop L_slices_partitionCmpFunc_rank_one_1))
(.seq (.seq (.ops (⟨(some 69), none, .p .mov, [.t 12]⟩ ::
 ⟨(some 70), none, .p .mov, [.t 13]⟩ ::
 ⟨(some 71), none, .p (.bin .gtr), [.t 69, .t 70]⟩ ::
 []))
(.cond (.t 71)
(.seq (.dops (⟨(some 72), none, .p .mov, [.t 0]⟩ ::
 ⟨(some 73), none, .p .mov, [.t 13]⟩ ::
 ⟨(some 74), none, .p .mov, [.t 0]⟩ ::
 ⟨(some 75), none, .p .mov, [.t 1]⟩ ::
 ⟨(some 76), none, .p .mov, [.t 0]⟩ ::
 ⟨(some 77), none, .p .mov, [.t 1]⟩ ::
 ⟨(some 78), none, .p (.iaddrS 2), [.t 76, .t 77]⟩ ::
 ⟨(some 79), none, .r (.loadN 2), [.t 78]⟩ ::
 ⟨(some 80), none, .p .mov, [.t 0]⟩ ::
 ⟨(some 81), none, .p .mov, [.t 13]⟩ ::
 ⟨(some 82), none, .p (.iaddrS 2), [.t 80, .t 81]⟩ ::
 ⟨(some 83), none, .r (.loadN 2), [.t 82]⟩ ::
 ⟨(some 84), none, .p (.iaddrS 2), [.t 72, .t 73]⟩ ::
 ⟨none, none, .e (.store 2), [.t 84, .t 79]⟩ ::
 ⟨(some 85), none, .p (.iaddrS 2), [.t 74, .t 75]⟩ ::
 ⟨none, none, .e (.store 2), [.t 85, .t 83]⟩ ::
 []) ([] :: [] :: [] :: [] :: [] :: [] :: [] :: [] :: [] :: [] :: [] :: [] :: [] :: [] :: [] :: [] :: []))
(.seq (.ops (⟨(some 86), none, .p .mov, [.t 13]⟩ ::
 ⟨(some 10), none, .p .mov, [.t 86]⟩ ::
 ⟨(some 11), none, .p .mov, [.c (.bool true)]⟩ ::
 []))
.ret))
.skip))
(.seq (.dops (⟨(some 87), none, .p .mov, [.t 0]⟩ ::
 ⟨(some 88), none, .p .mov, [.t 12]⟩ ::
 ⟨(some 89), none, .p .mov, [.t 0]⟩ ::
 ⟨(some 90), none, .p .mov, [.t 13]⟩ ::
 ⟨(some 91), none, .p .mov, [.t 0]⟩ ::
 ⟨(some 92), none, .p .mov, [.t 13]⟩ ::
 ⟨(some 93), none, .p (.iaddrS 2), [.t 91, .t 92]⟩ ::
 ⟨(some 94), none, .r (.loadN 2), [.t 93]⟩ ::
 ⟨(some 95), none, .p .mov, [.t 0]⟩ ::
 ⟨(some 96), none, .p .mov, [.t 12]⟩ ::
 ⟨(some 97), none, .p (.iaddrS 2), [.t 95, .t 96]⟩ ::
 ⟨(some 98), none, .r (.loadN 2), [.t 97]⟩ ::
 ⟨(some 99), none, .p (.iaddrS 2), [.t 87, .t 88]⟩ ::
 ⟨none, none, .e (.store 2), [.t 99, .t 94]⟩ ::
 ⟨(some 100), none, .p (.iaddrS 2), [.t 89, .t 90]⟩ ::
 ⟨none, none, .e (.store 2), [.t 100, .t 98]⟩ ::
 []) ([] :: [] :: [] :: [] :: [] :: [] :: [] :: [] :: [] :: [] :: [] :: [] :: [] :: [] :: [] :: [] :: []))
(.seq (.ops (⟨(some 101), none, .p .mov, [.t 12]⟩ ::
 ⟨(some 102), none, .p (.bin .add), [.t 101, .c (.int .i64 1)]⟩ ::
 ⟨(some 12), none, .p .mov, [.t 102]⟩ ::
 []))
(.seq (.ops (⟨(some 103), none, .p .mov, [.t 13]⟩ ::
 ⟨(some 104), none, .p (.bin .sub), [.t 103, .c (.int .i64 1)]⟩ ::
 ⟨(some 13), none, .p .mov, [.t 104]⟩ ::
 []))
(.seq (.block 4 (.loop L_slices_partitionCmpFunc_rank_one_2))
(.seq (.dops (⟨(some 163), none, .p .mov, [.t 0]⟩ ::
 ⟨(some 164), none, .p .mov, [.t 13]⟩ ::
 ⟨(some 165), none, .p .mov, [.t 0]⟩ ::
 ⟨(some 166), none, .p .mov, [.t 1]⟩ ::
 ⟨(some 167), none, .p .mov, [.t 0]⟩ ::
 ⟨(some 168), none, .p .mov, [.t 1]⟩ ::
 ⟨(some 169), none, .p (.iaddrS 2), [.t 167, .t 168]⟩ ::
 ⟨(some 170), none, .r (.loadN 2), [.t 169]⟩ ::
 ⟨(some 171), none, .p .mov, [.t 0]⟩ ::
 ⟨(some 172), none, .p .mov, [.t 13]⟩ ::
 ⟨(some 173), none, .p (.iaddrS 2), [.t 171, .t 172]⟩ ::
 ⟨(some 174), none, .r (.loadN 2), [.t 173]⟩ ::
 ⟨(some 175), none, .p (.iaddrS 2), [.t 163, .t 164]⟩ ::
 ⟨none, none, .e (.store 2), [.t 175, .t 170]⟩ ::
 ⟨(some 176), none, .p (.iaddrS 2), [.t 165, .t 166]⟩ ::
 ⟨none, none, .e (.store 2), [.t 176, .t 174]⟩ ::
 []) ([] :: [] :: [] :: [] :: [] :: [] :: [] :: [] :: [] :: [] :: [] :: [] :: [] :: [] :: [] :: [] :: []))
(.seq (.ops (⟨(some 177), none, .p .mov, [.t 13]⟩ ::
 ⟨(some 10), none, .p .mov, [.t 177]⟩ ::
 ⟨(some 11), none, .p .mov, [.c (.bool false)]⟩ ::
 []))
.ret))))))))))))⟩
abbrev f_slices_partitionCmpFunc_rank_one : Nat := 196
abbrev C_slices_partitionCmpFunc_rank_one : AFunc := C196
def C197 : AFunc := ⟨19, [.tmp 2],
(.seq (.ops (⟨(some 2), none, .p .mov, [.c (.int .i64 0)]⟩ ::
 []))
(.seq (.seq (.ops (⟨(some 3), none, .p .mov, [.t 0]⟩ ::
 ⟨(some 4), none, .p (.bin .geq), [.t 3, .c (.int .u32 65536)]⟩ ::
 []))
(.cond (.t 4)
(.seq (.ops (⟨(some 5), none, .p .mov, [.t 0]⟩ ::
 ⟨(some 6), none, .p (.bin .shr), [.t 5, .c (.int .u64 16)]⟩ ::
 ⟨(some 0), none, .p .mov, [.t 6]⟩ ::
 []))
(.ops (⟨(some 2), none, .p .mov, [.c (.int .i64 16)]⟩ ::
 [])))
.skip))
(.seq (.seq (.ops (⟨(some 7), none, .p .mov, [.t 0]⟩ ::
 ⟨(some 8), none, .p (.bin .geq), [.t 7, .c (.int .u32 256)]⟩ ::
 []))
(.cond (.t 8)
(.seq (.ops (⟨(some 9), none, .p .mov, [.t 0]⟩ ::
 ⟨(some 10), none, .p (.bin .shr), [.t 9, .c (.int .u64 8)]⟩ ::
 ⟨(some 0), none, .p .mov, [.t 10]⟩ ::
 []))
(.ops (⟨(some 11), none, .p .mov, [.t 2]⟩ ::
 ⟨(some 12), none, .p (.bin .add), [.t 11, .c (.int .i64 8)]⟩ ::
 ⟨(some 2), none, .p .mov, [.t 12]⟩ ::
 [])))
.skip))
(.seq (.ops (⟨(some 13), none, .p .mov, [.t 2]⟩ ::
 ⟨(some 14), none, .p .mov, [.t 0]⟩ ::
 ⟨(some 15), none, .p (.conv .u8), [.t 14]⟩ ::
 ⟨(some 16), none, .p .idxS, [.c (.str [0, 1, 2, 2, 3, 3, 3, 3, 4, 4, 4, 4, 4, 4, 4, 4, 5, 5, 5, 5, 5, 5, 5, 5, 5, 5, 5, 5, 5, 5, 5, 5, 6, 6, 6, 6, 6, 6, 6, 6, 6, 6, 6, 6, 6, 6, 6, 6, 6, 6, 6, 6, 6, 6, 6, 6, 6, 6, 6, 6, 6, 6, 6, 6, 7, 7, 7, 7, 7, 7, 7, 7, 7, 7, 7, 7, 7, 7, 7, 7, 7, 7, 7, 7, 7, 7, 7, 7, 7, 7, 7, 7, 7, 7, 7, 7, 7, 7, 7, 7, 7, 7, 7, 7, 7, 7, 7, 7, 7, 7, 7, 7, 7, 7, 7, 7, 7, 7, 7, 7, 7, 7, 7, 7, 7, 7, 7, 7, 8, 8, 8, 8, 8, 8, 8, 8, 8, 8, 8, 8, 8, 8, 8, 8, 8, 8, 8, 8, 8, 8, 8, 8, 8, 8, 8, 8, 8, 8, 8, 8, 8, 8, 8, 8, 8, 8, 8, 8, 8, 8, 8, 8, 8, 8, 8, 8, 8, 8, 8, 8, 8, 8, 8, 8, 8, 8, 8, 8, 8, 8, 8, 8, 8, 8, 8, 8, 8, 8, 8, 8, 8, 8, 8, 8, 8, 8, 8, 8, 8, 8, 8, 8, 8, 8, 8, 8, 8, 8, 8, 8, 8, 8, 8, 8, 8, 8, 8, 8, 8, 8, 8, 8, 8, 8, 8, 8, 8, 8, 8, 8, 8, 8, 8, 8, 8, 8, 8, 8, 8, 8, 8, 8, 8, 8, 8, 8]), .t 15]⟩ ::
 ⟨(some 17), none, .p (.conv .i64), [.t 16]⟩ ::
 ⟨(some 18), none, .p (.bin .add), [.t 13, .t 17]⟩ ::
 ⟨(some 2), none, .p .mov, [.t 18]⟩ ::
 []))
.ret))))⟩
abbrev f_math_bits_Len32 : Nat := 197
abbrev C_math_bits_Len32 : AFunc := C197
def C198 : AFunc := ⟨25, [.tmp 2],
(.seq (.ops (⟨(some 2), none, .p .mov, [.c (.int .i64 0)]⟩ ::
 []))
(.seq (.seq (.ops (⟨(some 3), none, .p .mov, [.t 0]⟩ ::
 ⟨(some 4), none, .p (.bin .geq), [.t 3, .c (.int .u64 4294967296)]⟩ ::
 []))
(.cond (.t 4)
(.seq (.ops (⟨(some 5), none, .p .mov, [.t 0]⟩ ::
 ⟨(some 6), none, .p (.bin .shr), [.t 5, .c (.int .u64 32)]⟩ ::
 ⟨(some 0), none, .p .mov, [.t 6]⟩ ::
 []))
(.ops (⟨(some 2), none, .p .mov, [.c (.int .i64 32)]⟩ ::
 [])))
.skip))
(.seq (.seq (.ops (⟨(some 7), none, .p .mov, [.t 0]⟩ ::
 ⟨(some 8), none, .p (.bin .geq), [.t 7, .c (.int .u64 65536)]⟩ ::
 []))
(.cond (.t 8)
(.seq (.ops (⟨(some 9), none, .p .mov, [.t 0]⟩ ::
 ⟨(some 10), none, .p (.bin .shr), [.t 9, .c (.int .u64 16)]⟩ ::
 ⟨(some 0), none, .p .mov, [.t 10]⟩ ::
 []))
(.ops (⟨(some 11), none, .p .mov, [.t 2]⟩ ::
 ⟨(some 12), none, .p (.bin .add), [.t 11, .c (.int .i64 16)]⟩ ::
 ⟨(some 2), none, .p .mov, [.t 12]⟩ ::
 [])))
.skip))
(.seq (.seq (.ops (⟨(some 13), none, .p .mov, [.t 0]⟩ ::
 ⟨(some 14), none, .p (.bin .geq), [.t 13, .c (.int .u64 256)]⟩ ::
 []))
(.cond (.t 14)
(.seq (.ops (⟨(some 15), none, .p .mov, [.t 0]⟩ ::
 ⟨(some 16), none, .p (.bin .shr), [.t 15, .c (.int .u64 8)]⟩ ::
 ⟨(some 0), none, .p .mov, [.t 16]⟩ ::
 []))
(.ops (⟨(some 17), none, .p .mov, [.t 2]⟩ ::
 ⟨(some 18), none, .p (.bin .add), [.t 17, .c (.int .i64 8)]⟩ ::
 ⟨(some 2), none, .p .mov, [.t 18]⟩ ::
 [])))
.skip))
(.seq (.ops (⟨(some 19), none, .p .mov, [.t 2]⟩ ::
 ⟨(some 20), none, .p .mov, [.t 0]⟩ ::
 ⟨(some 21), none, .p (.conv .u8), [.t 20]⟩ ::
 ⟨(some 22), none, .p .idxS, [.c (.str [0, 1, 2, 2, 3, 3, 3, 3, 4, 4, 4, 4, 4, 4, 4, 4, 5, 5, 5, 5, 5, 5, 5, 5, 5, 5, 5, 5, 5, 5, 5, 5, 6, 6, 6, 6, 6, 6, 6, 6, 6, 6, 6, 6, 6, 6, 6, 6, 6, 6, 6, 6, 6, 6, 6, 6, 6, 6, 6, 6, 6, 6, 6, 6, 7, 7, 7, 7, 7, 7, 7, 7, 7, 7, 7, 7, 7, 7, 7, 7, 7, 7, 7, 7, 7, 7, 7, 7, 7, 7, 7, 7, 7, 7, 7, 7, 7, 7, 7, 7, 7, 7, 7, 7, 7, 7, 7, 7, 7, 7, 7, 7, 7, 7, 7, 7, 7, 7, 7, 7, 7, 7, 7, 7, 7, 7, 7, 7, 8, 8, 8, 8, 8, 8, 8, 8, 8, 8, 8, 8, 8, 8, 8, 8, 8, 8, 8, 8, 8, 8, 8, 8, 8, 8, 8, 8, 8, 8, 8, 8, 8, 8, 8, 8, 8, 8, 8, 8, 8, 8, 8, 8, 8, 8, 8, 8, 8, 8, 8, 8, 8, 8, 8, 8, 8, 8, 8, 8, 8, 8, 8, 8, 8, 8, 8, 8, 8, 8, 8, 8, 8, 8, 8, 8, 8, 8, 8, 8, 8, 8, 8, 8, 8, 8, 8, 8, 8, 8, 8, 8, 8, 8, 8, 8, 8, 8, 8, 8, 8, 8, 8, 8, 8, 8, 8, 8, 8, 8, 8, 8, 8, 8, 8, 8, 8, 8, 8, 8, 8, 8, 8, 8, 8, 8, 8, 8]), .t 21]⟩ ::
 ⟨(some 23), none, .p (.conv .i64), [.t 22]⟩ ::
 ⟨(some 24), none, .p (.bin .add), [.t 19, .t 23]⟩ ::
 ⟨(some 2), none, .p .mov, [.t 24]⟩ ::
 []))
.ret)))))⟩
abbrev f_math_bits_Len64 : Nat := 198
abbrev C_math_bits_Len64 : AFunc := C198
def L_slices_siftDownCmpFunc_rank_one_0 : AC := (.block 1 (.seq (.ops (⟨(some 13), none, .p .mov, [.t 10]⟩ ::
 ⟨(some 14), none, .p (.bin .mul), [.c (.int .i64 2), .t 13]⟩ ::
 ⟨(some 15), none, .p (.bin .add), [.t 14, .c (.int .i64 1)]⟩ ::
 ⟨(some 11), none, .p .mov, [.t 15]⟩ ::
 []))
(.seq (.seq (.ops (⟨(some 16), none, .p .mov, [.t 11]⟩ ::
 ⟨(some 17), none, .p .mov, [.t 2]⟩ ::
 ⟨(some 18), none, .p (.bin .geq), [.t 16, .t 17]⟩ ::
 []))
(.cond (.t 18)
(.exit 0)
.skip))
(.seq (.seq (.dops (⟨(some 19), none, .p .mov, [.t 11]⟩ ::
 ⟨(some 20), none, .p (.bin .add), [.t 19, .c (.int .i64 1)]⟩ ::
 ⟨(some 21), none, .p .mov, [.t 2]⟩ ::
 ⟨(some 22), none, .p (.bin .lss), [.t 20, .t 21]⟩ ::
 ⟨(some 23), none, .p .mov, [.t 22]⟩ ::
 ⟨(some 24), (some (23, true)), .p .mov, [.t 4]⟩ ::
 ⟨(some 25), (some (23, true)), .p .mov, [.t 0]⟩ ::
 ⟨(some 26), (some (23, true)), .p .mov, [.t 3]⟩ ::
 ⟨(some 27), (some (23, true)), .p .mov, [.t 11]⟩ ::
 ⟨(some 28), (some (23, true)), .p (.bin .add), [.t 26, .t 27]⟩ ::
 ⟨(some 29), (some (23, true)), .p (.iaddrS 2), [.t 25, .t 28]⟩ ::
 ⟨(some 30), (some (23, true)), .r (.loadN 2), [.t 29]⟩ ::
 ⟨(some 31), (some (23, true)), .p .mov, [.t 0]⟩ ::
 ⟨(some 32), (some (23, true)), .p .mov, [.t 3]⟩ ::
 ⟨(some 33), (some (23, true)), .p .mov, [.t 11]⟩ ::
 ⟨(some 34), (some (23, true)), .p (.bin .add), [.t 32, .t 33]⟩ ::
 ⟨(some 35), (some (23, true)), .p (.bin .add), [.t 34, .c (.int .i64 1)]⟩ ::
 ⟨(some 36), (some (23, true)), .p (.iaddrS 2), [.t 31, .t 35]⟩ ::
 ⟨(some 37), (some (23, true)), .r (.loadN 2), [.t 36]⟩ ::
 ⟨(some 38), (some (23, true)), .call, [.t 24, .t 30, .t 37]⟩ ::
 ⟨(some 39), (some (23, true)), .p (.bin .lss), [.t 38, .c (.int .i64 0)]⟩ ::
 ⟨(some 40), none, .p .pick, [.t 23, .t 39, .c (.bool false)]⟩ ::
 []) ([] :: [] :: [] :: [] :: [] :: [] :: [] :: [] :: [] :: [] :: [] :: [] :: [] :: [] :: [] :: [] :: [] :: [] :: [] :: [] :: [] :: [] :: []))
(.cond (.t 40)
(.ops (⟨(some 41), none, .p .mov, [.t 11]⟩ ::
 ⟨(some 42), none, .p (.bin .add), [.t 41, .c (.int .i64 1)]⟩ ::
 ⟨(some 11), none, .p .mov, [.t 42]⟩ ::
 []))
.skip))
(.seq (.seq (.dops (⟨(some 43), none, .p .mov, [.t 4]⟩ ::
 ⟨(some 44), none, .p .mov, [.t 0]⟩ ::
 ⟨(some 45), none, .p .mov, [.t 3]⟩ ::
 ⟨(some 46), none, .p .mov, [.t 10]⟩ ::
 ⟨(some 47), none, .p (.bin .add), [.t 45, .t 46]⟩ ::
 ⟨(some 48), none, .p (.iaddrS 2), [.t 44, .t 47]⟩ ::
 ⟨(some 49), none, .r (.loadN 2), [.t 48]⟩ ::
 ⟨(some 50), none, .p .mov, [.t 0]⟩ ::
 ⟨(some 51), none, .p .mov, [.t 3]⟩ ::
 ⟨(some 52), none, .p .mov, [.t 11]⟩ ::
 ⟨(some 53), none, .p (.bin .add), [.t 51, .t 52]⟩ ::
 ⟨(some 54), none, .p (.iaddrS 2), [.t 50, .t 53]⟩ ::
 ⟨(some 55), none, .r (.loadN 2), [.t 54]⟩ ::
 ⟨(some 56), none, .call, [.t 43, .t 49, .t 55]⟩ ::
 ⟨(some 57), none, .p (.bin .lss), [.t 56, .c (.int .i64 0)]⟩ ::
 ⟨(some 58), none, .p .not, [.t 57]⟩ ::
 []) ([] :: [] :: [] :: [] :: [] :: [] :: [] :: [] :: [] :: [] :: [] :: [] :: [] :: [] :: [] :: [] :: []))
(.cond (.t 58)
.ret
.skip))
(.seq (.dops (⟨(some 59), none, .p .mov, [.t 0]⟩ ::
 ⟨(some 60), none, .p .mov, [.t 3]⟩ ::
 ⟨(some 61), none, .p .mov, [.t 10]⟩ ::
 ⟨(some 62), none, .p (.bin .add), [.t 60, .t 61]⟩ ::
 ⟨(some 63), none, .p .mov, [.t 0]⟩ ::
 ⟨(some 64), none, .p .mov, [.t 3]⟩ ::
 ⟨(some 65), none, .p .mov, [.t 11]⟩ ::
 ⟨(some 66), none, .p (.bin .add), [.t 64, .t 65]⟩ ::
 ⟨(some 67), none, .p .mov, [.t 0]⟩ ::
 ⟨(some 68), none, .p .mov, [.t 3]⟩ ::
 ⟨(some 69), none, .p .mov, [.t 11]⟩ ::
 ⟨(some 70), none, .p (.bin .add), [.t 68, .t 69]⟩ ::
 ⟨(some 71), none, .p (.iaddrS 2), [.t 67, .t 70]⟩ ::
 ⟨(some 72), none, .r (.loadN 2), [.t 71]⟩ ::
 ⟨(some 73), none, .p .mov, [.t 0]⟩ ::
 ⟨(some 74), none, .p .mov, [.t 3]⟩ ::
 ⟨(some 75), none, .p .mov, [.t 10]⟩ ::
 ⟨(some 76), none, .p (.bin .add), [.t 74, .t 75]⟩ ::
 ⟨(some 77), none, .p (.iaddrS 2), [.t 73, .t 76]⟩ ::
 ⟨(some 78), none, .r (.loadN 2), [.t 77]⟩ ::
 ⟨(some 79), none, .p (.iaddrS 2), [.t 59, .t 62]⟩ ::
 ⟨none, none, .e (.store 2), [.t 79, .t 72]⟩ ::
 ⟨(some 80), none, .p (.iaddrS 2), [.t 63, .t 66]⟩ ::
 ⟨none, none, .e (.store 2), [.t 80, .t 78]⟩ ::
 []) ([] :: [] :: [] :: [] :: [] :: [] :: [] :: [] :: [] :: [] :: [] :: [] :: [] :: [] :: [] :: [] :: [] :: [] :: [] :: [] :: [] :: [] :: [] :: [] :: []))
(.ops (⟨(some 81), none, .p .mov, [.t 11]⟩ ::
 ⟨(some 10), none, .p .mov, [.t 81]⟩ ::
 []))))))))
def C199 : AFunc := ⟨82, [],
(.seq (.ops (⟨(some 12), none, .p .mov, [.t 1]⟩ ::
 ⟨(some 10), none, .p .mov, [.t 12]⟩ ::
 []))
(.block 0 (.loop L_slices_siftDownCmpFunc_rank_one_0)))⟩
abbrev f_slices_siftDownCmpFunc_rank_one : Nat := 199
abbrev C_slices_siftDownCmpFunc_rank_one : AFunc := C199
def C200 : AFunc := ⟨7, [.tmp 2],
(.seq (.ops (⟨(some 2), none, .p .mov, [.c (.int .u64 0)]⟩ ::
 []))
(.seq (.ops (⟨(some 3), none, .p .mov, [.t 0]⟩ ::
 ⟨(some 4), none, .p (.conv .u64), [.t 3]⟩ ::
 ⟨(some 5), none, .call, [.c (.func (.func 187) [] []), .t 4]⟩ ::
 ⟨(some 6), none, .p (.bin .shl), [.c (.int .u64 1), .t 5]⟩ ::
 ⟨(some 2), none, .p .mov, [.t 6]⟩ ::
 []))
.ret))⟩
abbrev f_slices_nextPowerOfTwo : Nat := 200
abbrev C_slices_nextPowerOfTwo : AFunc := C200
def C201 : AFunc := ⟨33, [.tmp 2],
(.seq (.ops (⟨(some 2), none, .p .mov, [.c (.int .u64 0)]⟩ ::
 []))
(.seq (.dops (⟨(some 3), none, .p .mov, [.t 0]⟩ ::
 ⟨(some 4), none, .p .nilchk, [.t 3]⟩ ::
 ⟨(some 5), none, .r .load1, [.t 4]⟩ ::
 ⟨(some 6), none, .p .mov, [.t 0]⟩ ::
 ⟨(some 7), none, .p .nilchk, [.t 6]⟩ ::
 ⟨(some 8), none, .r .load1, [.t 7]⟩ ::
 ⟨(some 9), none, .p (.bin .shl), [.t 8, .c (.int .u64 13)]⟩ ::
 ⟨(some 10), none, .p (.bin .xor), [.t 5, .t 9]⟩ ::
 ⟨(some 11), none, .p .nilchk, [.t 3]⟩ ::
 ⟨none, none, .e (.store 1), [.t 11, .t 10]⟩ ::
 []) ([] :: [] :: [] :: [] :: [] :: [] :: [] :: [] :: [] :: [] :: []))
(.seq (.dops (⟨(some 12), none, .p .mov, [.t 0]⟩ ::
 ⟨(some 13), none, .p .nilchk, [.t 12]⟩ ::
 ⟨(some 14), none, .r .load1, [.t 13]⟩ ::
 ⟨(some 15), none, .p .mov, [.t 0]⟩ ::
 ⟨(some 16), none, .p .nilchk, [.t 15]⟩ ::
 ⟨(some 17), none, .r .load1, [.t 16]⟩ ::
 ⟨(some 18), none, .p (.bin .shr), [.t 17, .c (.int .u64 7)]⟩ ::
 ⟨(some 19), none, .p (.bin .xor), [.t 14, .t 18]⟩ ::
 ⟨(some 20), none, .p .nilchk, [.t 12]⟩ ::
 ⟨none, none, .e (.store 1), [.t 20, .t 19]⟩ ::
 []) ([] :: [] :: [] :: [] :: [] :: [] :: [] :: [] :: [] :: [] :: []))
(.seq (.dops (⟨(some 21), none, .p .mov, [.t 0]⟩ ::
 ⟨(some 22), none, .p .nilchk, [.t 21]⟩ ::
 ⟨(some 23), none, .r .load1, [.t 22]⟩ ::
 ⟨(some 24), none, .p .mov, [.t 0]⟩ ::
 ⟨(some 25), none, .p .nilchk, [.t 24]⟩ ::
 ⟨(some 26), none, .r .load1, [.t 25]⟩ ::
 ⟨(some 27), none, .p (.bin .shl), [.t 26, .c (.int .u64 17)]⟩ ::
 ⟨(some 28), none, .p (.bin .xor), [.t 23, .t 27]⟩ ::
 ⟨(some 29), none, .p .nilchk, [.t 21]⟩ ::
 ⟨none, none, .e (.store 1), [.t 29, .t 28]⟩ ::
 []) ([] :: [] :: [] :: [] :: [] :: [] :: [] :: [] :: [] :: [] :: []))
(.seq (.ops (⟨(some 30), none, .p .mov, [.t 0]⟩ ::
 ⟨(some 31), none, .p .nilchk, [.t 30]⟩ ::
 ⟨(some 32), none, .r .load1, [.t 31]⟩ ::
 ⟨(some 2), none, .p .mov, [.t 32]⟩ ::
 []))
.ret)))))⟩
abbrev f_slices_xorshift_Next : Nat := 201
abbrev C_slices_xorshift_Next : AFunc := C201
def C202 : AFunc := ⟨18, [.tmp 8],
(.seq (.ops (⟨(some 8), none, .p .mov, [.c (.int .i64 0)]⟩ ::
 []))
(.seq (.ops (⟨(some 9), none, .p .mov, [.t 0]⟩ ::
 ⟨(some 10), none, .p .mov, [.t 1]⟩ ::
 ⟨(some 11), none, .p (.bin .sub), [.t 10, .c (.int .i64 1)]⟩ ::
 ⟨(some 12), none, .p .mov, [.t 1]⟩ ::
 ⟨(some 13), none, .p .mov, [.t 1]⟩ ::
 ⟨(some 14), none, .p (.bin .add), [.t 13, .c (.int .i64 1)]⟩ ::
 ⟨(some 15), none, .p .mov, [.t 2]⟩ ::
 ⟨(some 16), none, .p .mov, [.t 3]⟩ ::
 ⟨(some 17), none, .call, [.c (.func (.func 203) [] []), .t 9, .t 11, .t 12, .t 14, .t 15, .t 16]⟩ ::
 ⟨(some 8), none, .p .mov, [.t 17]⟩ ::
 []))
.ret))⟩
abbrev f_slices_medianAdjacentCmpFunc_rank_one : Nat := 202
abbrev C_slices_medianAdjacentCmpFunc_rank_one : AFunc := C202
def C203 : AFunc := ⟨41, [.tmp 12],
(.seq (.ops (⟨(some 12), none, .p .mov, [.c (.int .i64 0)]⟩ ::
 []))
(.seq (.ops (⟨(some 14), none, .p .mov, [.t 0]⟩ ::
 ⟨(some 15), none, .p .mov, [.t 1]⟩ ::
 ⟨(some 16), none, .p .mov, [.t 2]⟩ ::
 ⟨(some 17), none, .p .mov, [.t 4]⟩ ::
 ⟨(some 18), none, .p .mov, [.t 5]⟩ ::
 ⟨(some 19), none, .call, [.c (.func (.func 204) [] []), .t 14, .t 15, .t 16, .t 17, .t 18]⟩ ::
 ⟨(some 13), none, .p .mov, [.t 19]⟩ ::
 ⟨(some 20), none, .p (.ext 0), [.t 13]⟩ ::
 ⟨(some 21), none, .p (.ext 1), [.t 13]⟩ ::
 ⟨(some 1), none, .p .mov, [.t 20]⟩ ::
 ⟨(some 2), none, .p .mov, [.t 21]⟩ ::
 []))
(.seq (.ops (⟨(some 23), none, .p .mov, [.t 0]⟩ ::
 ⟨(some 24), none, .p .mov, [.t 2]⟩ ::
 ⟨(some 25), none, .p .mov, [.t 3]⟩ ::
 ⟨(some 26), none, .p .mov, [.t 4]⟩ ::
 ⟨(some 27), none, .p .mov, [.t 5]⟩ ::
 ⟨(some 28), none, .call, [.c (.func (.func 204) [] []), .t 23, .t 24, .t 25, .t 26, .t 27]⟩ ::
 ⟨(some 22), none, .p .mov, [.t 28]⟩ ::
 ⟨(some 29), none, .p (.ext 0), [.t 22]⟩ ::
 ⟨(some 30), none, .p (.ext 1), [.t 22]⟩ ::
 ⟨(some 2), none, .p .mov, [.t 29]⟩ ::
 ⟨(some 3), none, .p .mov, [.t 30]⟩ ::
 []))
(.seq (.ops (⟨(some 32), none, .p .mov, [.t 0]⟩ ::
 ⟨(some 33), none, .p .mov, [.t 1]⟩ ::
 ⟨(some 34), none, .p .mov, [.t 2]⟩ ::
 ⟨(some 35), none, .p .mov, [.t 4]⟩ ::
 ⟨(some 36), none, .p .mov, [.t 5]⟩ ::
 ⟨(some 37), none, .call, [.c (.func (.func 204) [] []), .t 32, .t 33, .t 34, .t 35, .t 36]⟩ ::
 ⟨(some 31), none, .p .mov, [.t 37]⟩ ::
 ⟨(some 38), none, .p (.ext 0), [.t 31]⟩ ::
 ⟨(some 39), none, .p (.ext 1), [.t 31]⟩ ::
 ⟨(some 1), none, .p .mov, [.t 38]⟩ ::
 ⟨(some 2), none, .p .mov, [.t 39]⟩ ::
 []))
(.seq (.ops (⟨(some 40), none, .p .mov, [.t 2]⟩ ::
 ⟨(some 12), none, .p .mov, [.t 40]⟩ ::
 []))
.ret)))))⟩
abbrev f_slices_medianCmpFunc_rank_one : Nat := 203
abbrev C_slices_medianCmpFunc_rank_one : AFunc := C203
def C204 : AFunc := ⟨32, [.tmp 10, .tmp 11],
(.seq (.ops (⟨(some 10), none, .p .mov, [.c (.int .i64 0)]⟩ ::
 ⟨(some 11), none, .p .mov, [.c (.int .i64 0)]⟩ ::
 []))
(.seq (.seq (.dops (⟨(some 12), none, .p .mov, [.t 4]⟩ ::
 ⟨(some 13), none, .p .mov, [.t 0]⟩ ::
 ⟨(some 14), none, .p .mov, [.t 2]⟩ ::
 ⟨(some 15), none, .p (.iaddrS 2), [.t 13, .t 14]⟩ ::
 ⟨(some 16), none, .r (.loadN 2), [.t 15]⟩ ::
 ⟨(some 17), none, .p .mov, [.t 0]⟩ ::
 ⟨(some 18), none, .p .mov, [.t 1]⟩ ::
 ⟨(some 19), none, .p (.iaddrS 2), [.t 17, .t 18]⟩ ::
 ⟨(some 20), none, .r (.loadN 2), [.t 19]⟩ ::
 ⟨(some 21), none, .call, [.t 12, .t 16, .t 20]⟩ ::
 ⟨(some 22), none, .p (.bin .lss), [.t 21, .c (.int .i64 0)]⟩ ::
 []) ([] :: [] :: [] :: [] :: [] :: [] :: [] :: [] :: [] :: [] :: [] :: []))
(.cond (.t 22)
(.seq (.ops (⟨(some 23), none, .p .mov, [.t 3]⟩ ::
 ⟨(some 24), none, .p .nilchk, [.t 23]⟩ ::
 ⟨(some 25), none, .r .load1, [.t 24]⟩ ::
 ⟨(some 26), none, .p (.bin .add), [.t 25, .c (.int .i64 1)]⟩ ::
 ⟨(some 27), none, .p .nilchk, [.t 23]⟩ ::
 ⟨none, none, .e (.store 1), [.t 27, .t 26]⟩ ::
 []))
(.seq (.ops (⟨(some 28), none, .p .mov, [.t 2]⟩ ::
 ⟨(some 29), none, .p .mov, [.t 1]⟩ ::
 ⟨(some 10), none, .p .mov, [.t 28]⟩ ::
 ⟨(some 11), none, .p .mov, [.t 29]⟩ ::
 []))
.ret))
.skip))
(.seq (.ops (⟨(some 30), none, .p .mov, [.t 1]⟩ ::
 ⟨(some 31), none, .p .mov, [.t 2]⟩ ::
 ⟨(some 10), none, .p .mov, [.t 30]⟩ ::
 ⟨(some 11), none, .p .mov, [.t 31]⟩ ::
 []))
.ret)))⟩
abbrev f_slices_order2CmpFunc_rank_one : Nat := 204
abbrev C_slices_order2CmpFunc_rank_one : AFunc := C204
def T : Tr AFunc := (.node (.node (.node (.node (.node (.node (.node .nil none (.node .nil (some C191) .nil)) (some C31) (.node .nil (some C95) .nil)) (some C15) (.node (.node (.node .nil (some C143) .nil) (some C79) .nil) (some C47) (.node (.node .nil (some C175) .nil) (some C111) .nil))) (some C7) (.node (.node (.node (.node .nil (some C135) .nil) none (.node .nil (some C199) .nil)) (some C39) (.node (.node .nil (some C167) .nil) (some C103) .nil)) (some C23) (.node (.node (.node .nil (some C151) .nil) (some C87) .nil) none (.node (.node .nil (some C183) .nil) none .nil)))) none (.node (.node (.node (.node .nil none (.node .nil (some C195) .nil)) (some C35) (.node (.node .nil (some C163) .nil) (some C99) .nil)) none (.node (.node (.node .nil (some C147) .nil) (some C83) .nil) (some C51) .nil)) none (.node (.node (.node (.node .nil (some C139) .nil) none (.node .nil (some C203) .nil)) none (.node (.node .nil (some C171) .nil) (some C107) .nil)) (some C27) (.node (.node .nil (some C91) .nil) none (.node (.node .nil (some C187) .nil) none .nil))))) none (.node (.node (.node (.node (.node .nil none (.node .nil (some C193) .nil)) (some C33) (.node (.node .nil (some C161) .nil) (some C97) .nil)) none (.node (.node (.node .nil (some C145) .nil) (some C81) .nil) (some C49) (.node (.node .nil (some C177) .nil) none .nil))) (some C9) (.node (.node (.node (.node .nil (some C137) .nil) none (.node .nil (some C201) .nil)) (some C41) (.node (.node .nil (some C169) .nil) (some C105) .nil)) (some C25) (.node (.node (.node .nil (some C153) .nil) (some C89) .nil) none (.node (.node .nil (some C185) .nil) none .nil)))) none (.node (.node (.node (.node (.node .nil (some C133) .nil) none (.node .nil (some C197) .nil)) (some C37) (.node (.node .nil (some C165) .nil) (some C101) .nil)) (some C21) (.node (.node (.node .nil (some C149) .nil) (some C85) .nil) (some C53) (.node (.node .nil (some C181) .nil) none .nil))) (some C13) (.node (.node (.node (.node .nil (some C141) .nil) none .nil) none (.node (.node .nil (some C173) .nil) (some C109) .nil)) (some C29) (.node (.node .nil (some C93) .nil) none (.node (.node .nil (some C189) .nil) none .nil)))))) none (.node (.node (.node (.node (.node (.node .nil none (.node .nil (some C192) .nil)) (some C32) (.node .nil (some C96) .nil)) none (.node (.node (.node .nil (some C144) .nil) (some C80) .nil) (some C48) (.node (.node .nil (some C176) .nil) (some C112) .nil))) none (.node (.node (.node (.node .nil (some C136) .nil) none (.node .nil (some C200) .nil)) (some C40) (.node (.node .nil (some C168) .nil) (some C104) .nil)) (some C24) (.node (.node (.node .nil (some C152) .nil) (some C88) .nil) none (.node (.node .nil (some C184) .nil) none .nil)))) none (.node (.node (.node (.node (.node .nil (some C132) .nil) none (.node .nil (some C196) .nil)) (some C36) (.node (.node .nil (some C164) .nil) (some C100) .nil)) (some C20) (.node (.node (.node .nil (some C148) .nil) (some C84) .nil) (some C52) (.node (.node .nil (some C180) .nil) none .nil))) none (.node (.node (.node (.node .nil (some C140) .nil) none (.node .nil (some C204) .nil)) none (.node (.node .nil (some C172) .nil) (some C108) .nil)) (some C28) (.node (.node .nil (some C92) .nil) none (.node (.node .nil (some C188) .nil) none .nil))))) none (.node (.node (.node (.node (.node .nil none (.node .nil (some C194) .nil)) (some C34) (.node (.node .nil (some C162) .nil) (some C98) .nil)) none (.node (.node (.node .nil (some C146) .nil) (some C82) .nil) (some C50) (.node (.node .nil (some C178) .nil) none .nil))) (some C10) (.node (.node (.node (.node .nil (some C138) .nil) none (.node .nil (some C202) .nil)) (some C42) (.node (.node .nil (some C170) .nil) (some C106) .nil)) (some C26) (.node (.node .nil (some C90) .nil) none (.node (.node .nil (some C186) .nil) none .nil)))) (some C6) (.node (.node (.node (.node (.node .nil (some C134) .nil) none (.node .nil (some C198) .nil)) (some C38) (.node (.node .nil (some C166) .nil) (some C102) .nil)) (some C22) (.node (.node (.node .nil (some C150) .nil) (some C86) .nil) (some C54) (.node (.node .nil (some C182) .nil) none .nil))) (some C14) (.node (.node (.node (.node .nil (some C142) .nil) none .nil) (some C46) (.node (.node .nil (some C174) .nil) (some C110) .nil)) (some C30) (.node (.node .nil (some C94) .nil) none (.node (.node .nil (some C190) .nil) none .nil)))))))
def fs (f : Nat) : Option AFunc := Tr.get T f
def ms (t : Nat) (n : String) : Option Nat := none
end Ir
end Go.Proofs.YtnlcabhfkpafmaaGreat
