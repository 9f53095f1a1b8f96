/-
  What the program's functions are in Ads, printed by a program.
-/
import Derived.Test.YtecdcefacdodgaaAdsDef
set_option linter.unusedVariables false
set_option maxRecDepth 100000
namespace Go.Proofs.Ytecdcefacdodgaa
open Go Ads
namespace Ir
def L_escapementlaw12_GateKeeps_0 : AC := (.seq (.seq (.ops (⟨(some 60), none, .p .mov, [.t 14]⟩ ::
 ⟨(some 61), none, .p (.bin .lss), [.t 60, .c (.int .i64 500)]⟩ ::
 []))
(.cond (.t 61)
.skip
(.exit 0)))
(.seq (.block 1 (.seq (.seq (.ops (⟨(some 64), none, .p .mov, [.t 13]⟩ ::
 ⟨(some 65), none, .p .mov, [.t 14]⟩ ::
 ⟨(some 66), none, .call, [.c (.func (.func 19) [] []), .t 64, .t 65]⟩ ::
 ⟨(some 67), none, .p .not, [.t 66]⟩ ::
 []))
(.cond (.t 67)
(.seq (.ops (⟨(some 6), none, .p .mov, [.c (.bool false)]⟩ ::
 []))
.ret)
.skip))
(.ops (⟨(some 68), none, .p .mov, [.t 13]⟩ ::
 ⟨(some 69), none, .call, [.c (.func (.func 20) [] []), .t 68]⟩ ::
 []))))
(.ops (⟨(some 62), none, .p .mov, [.t 14]⟩ ::
 ⟨(some 63), none, .p (.bin .add), [.t 62, .c (.int .i64 1)]⟩ ::
 ⟨(some 14), none, .p .mov, [.t 63]⟩ ::
 []))))
def C4 : AFunc := ⟨70, [.tmp 6],
(.seq (.ops (⟨(some 6), none, .p .mov, [.c (.bool false)]⟩ ::
 []))
(.seq (.seq (.ops (⟨(some 15), none, .call, [.c (.func (.func 18) [] [])]⟩ ::
 ⟨(some 16), none, .p .not, [.t 15]⟩ ::
 []))
(.cond (.t 16)
(.seq (.ops (⟨(some 6), none, .p .mov, [.c (.bool false)]⟩ ::
 []))
.ret)
.skip))
(.seq (.ops (⟨(some 17), none, .p .mov, [.t 0]⟩ ::
 ⟨(some 18), none, .call, [.c (.func (.func 14) [] []), .t 17]⟩ ::
 ⟨(some 7), none, .a (.alloc [.nils, .nils]), []⟩ ::
 ⟨none, none, .e (.store 2), [.t 7, .t 18]⟩ ::
 []))
(.seq (.seq (.ops (⟨(some 19), none, .p (.faddr 0), [.t 7]⟩ ::
 ⟨(some 20), none, .r .load1, [.t 19]⟩ ::
 ⟨(some 21), none, .p .lenS, [.t 20]⟩ ::
 ⟨(some 22), none, .p (.bin .eql), [.t 21, .c (.int .i64 0)]⟩ ::
 []))
(.cond (.t 22)
(.seq (.ops (⟨(some 6), none, .p .mov, [.c (.bool true)]⟩ ::
 []))
.ret)
.skip))
(.seq (.dops (⟨(some 23), none, .r (.loadN 2), [.t 7]⟩ ::
 ⟨(some 24), none, .p .mov, [.t 1]⟩ ::
 ⟨(some 25), none, .call, [.c (.func (.func 15) [] []), .t 24, .c (.int .i64 16)]⟩ ::
 ⟨(some 26), none, .call, [.c (.func (.func 17) [] []), .t 23, .t 25]⟩ ::
 ⟨(some 8), none, .p .mov, [.t 26]⟩ ::
 []) ([0, 3] :: [] :: [] :: [] :: [] :: []))
(.seq (.ops (⟨(some 28), none, .r (.loadN 2), [.t 7]⟩ ::
 ⟨(some 29), none, .p .mov, [.t 8]⟩ ::
 ⟨(some 30), none, .call, [.c (.func (.func 16) [] []), .t 28, .t 29]⟩ ::
 ⟨(some 27), none, .p .mov, [.t 30]⟩ ::
 ⟨(some 31), none, .p (.ext 0), [.t 27]⟩ ::
 ⟨(some 32), none, .p (.ext 1), [.t 27]⟩ ::
 ⟨(some 33), none, .p (.ext 2), [.t 27]⟩ ::
 ⟨(some 9), none, .p .mov, [.t 31]⟩ ::
 ⟨(some 10), none, .p .mov, [.t 32]⟩ ::
 ⟨(some 11), none, .p .mov, [.t 33]⟩ ::
 []))
(.seq (.seq (.ops (⟨(some 34), none, .p .mov, [.t 11]⟩ ::
 ⟨(some 35), none, .p (.bin .neq), [.t 34, .c (.int .i64 0)]⟩ ::
 []))
(.cond (.t 35)
(.seq (.ops (⟨(some 36), none, .p .mov, [.t 11]⟩ ::
 ⟨(some 37), none, .p (.bin .eql), [.t 36, .c (.int .i64 120)]⟩ ::
 ⟨(some 38), none, .p .mov, [.t 37]⟩ ::
 ⟨(some 39), (some (38, false)), .p .mov, [.t 11]⟩ ::
 ⟨(some 40), (some (38, false)), .p (.bin .eql), [.t 39, .c (.int .i64 5)]⟩ ::
 ⟨(some 41), none, .p .pick, [.t 38, .c (.bool true), .t 40]⟩ ::
 ⟨(some 6), none, .p .mov, [.t 41]⟩ ::
 []))
.ret)
.skip))
(.seq (.ops (⟨(some 42), none, .p (.faddr 0), [.t 7]⟩ ::
 ⟨(some 43), none, .r .load1, [.t 42]⟩ ::
 ⟨(some 44), none, .p .lenS, [.t 43]⟩ ::
 ⟨(some 12), none, .p .mov, [.t 44]⟩ ::
 []))
(.seq (.dops (⟨(some 45), none, .r (.loadN 2), [.t 7]⟩ ::
 ⟨(some 46), none, .p .mov, [.t 8]⟩ ::
 ⟨(some 47), none, .p .mov, [.t 12]⟩ ::
 ⟨(some 48), none, .a (.mkslice [(.int .i64 0)] 1 8), [.t 47, .t 47]⟩ ::
 ⟨(some 49), none, .p .mov, [.t 12]⟩ ::
 ⟨(some 50), none, .a (.mkslice [(.int .i64 0)] 1 8), [.t 49, .t 49]⟩ ::
 ⟨(some 51), none, .p .mov, [.t 12]⟩ ::
 ⟨(some 52), none, .p (.bin .mul), [.c (.int .i64 4), .t 51]⟩ ::
 ⟨(some 53), none, .a (.mkslice [(.int .i64 0), (.int .i64 0)] 2 16), [.t 52, .t 52]⟩ ::
 ⟨(some 54), none, .p .mov, [.t 12]⟩ ::
 ⟨(some 55), none, .p (.bin .mul), [.c (.int .i64 4), .t 54]⟩ ::
 ⟨(some 56), none, .a (.mkslice [(.int .i64 0)] 1 8), [.t 55, .t 55]⟩ ::
 ⟨(some 57), none, .p .mov, [.t 2]⟩ ::
 ⟨(some 58), none, .p (.build [.nils, .nils, .nils, .nils, .nils, .nils, .nils, (.int .i64 0), .nils] [(0, 2), (2, 1), (3, 1), (4, 1), (5, 1), (6, 1), (8, 1)]), [.t 45, .t 46, .t 48, .t 50, .t 53, .t 56, .t 57]⟩ ::
 ⟨(some 59), none, .a .box, [.t 58]⟩ ::
 ⟨(some 13), none, .p .mov, [.t 59]⟩ ::
 []) ([] :: [] :: [] :: [] :: [] :: [] :: [] :: [] :: [] :: [] :: [] :: [] :: [] :: [] :: [] :: [] :: []))
(.seq (.seq (.ops (⟨(some 14), none, .p .mov, [.c (.int .i64 0)]⟩ ::
 []))
(.block 0 (.loop L_escapementlaw12_GateKeeps_0)))
(.seq (.ops (⟨(some 6), none, .p .mov, [.c (.bool true)]⟩ ::
 []))
.ret)))))))))))⟩
abbrev f_escapementlaw12_GateKeeps : Nat := 4
abbrev C_escapementlaw12_GateKeeps : AFunc := C4
def L_escapementlaw12_made_1 : AC := (.seq (.seq (.ops (⟨(some 37), none, .p .mov, [.t 6]⟩ ::
 ⟨(some 38), none, .p .mov, [.t 0]⟩ ::
 ⟨(some 39), none, .p .mov, [.t 4]⟩ ::
 ⟨(some 40), none, .p (.iaddrS 3), [.t 38, .t 39]⟩ ::
 ⟨(some 41), none, .p (.faddr 2), [.t 40]⟩ ::
 ⟨(some 42), none, .r .load1, [.t 41]⟩ ::
 ⟨(some 43), none, .p .lenS, [.t 42]⟩ ::
 ⟨(some 44), none, .p (.bin .lss), [.t 37, .t 43]⟩ ::
 ⟨(some 45), none, .p .mov, [.t 44]⟩ ::
 ⟨(some 46), (some (45, true)), .p .mov, [.t 6]⟩ ::
 ⟨(some 47), (some (45, true)), .p (.bin .lss), [.t 46, .c (.int .i64 3)]⟩ ::
 ⟨(some 48), none, .p .pick, [.t 45, .t 47, .c (.bool false)]⟩ ::
 []))
(.cond (.t 48)
.skip
(.exit 2)))
(.seq (.block 3 (.seq (.ops (⟨(some 51), none, .p .mov, [.t 0]⟩ ::
 ⟨(some 52), none, .p .mov, [.t 4]⟩ ::
 ⟨(some 53), none, .p (.iaddrS 3), [.t 51, .t 52]⟩ ::
 ⟨(some 54), none, .p (.faddr 2), [.t 53]⟩ ::
 ⟨(some 55), none, .r .load1, [.t 54]⟩ ::
 ⟨(some 56), none, .p .mov, [.t 6]⟩ ::
 ⟨(some 57), none, .p (.iaddrS 8), [.t 55, .t 56]⟩ ::
 ⟨(some 58), none, .r (.loadN 8), [.t 57]⟩ ::
 ⟨(some 7), none, .a (.alloc [(.int .i64 0), (.int .i64 0), (.int .i64 0), (.int .i64 0), (.int .i64 0), (.int .i64 0), (.int .i64 0), (.int .i64 0)]), []⟩ ::
 ⟨none, none, .e (.store 8), [.t 7, .t 58]⟩ ::
 []))
(.seq (.ops (⟨(some 59), none, .p (.faddr 0), [.t 7]⟩ ::
 ⟨(some 60), none, .r .load1, [.t 59]⟩ ::
 ⟨(some 61), none, .call, [.c (.func (.func 15) [] []), .t 60, .c (.int .i64 48)]⟩ ::
 ⟨(some 62), none, .p (.bin .add), [.c (.int .i64 1), .t 61]⟩ ::
 ⟨(some 63), none, .p (.build [(.int .i64 0), (.int .i64 0), (.int .i64 0), (.int .i64 0), (.int .i64 0), (.int .i64 0), (.int .i64 0), (.int .i64 0)] [(0, 1)]), [.t 62]⟩ ::
 ⟨(some 8), none, .a (.alloc [(.int .i64 0), (.int .i64 0), (.int .i64 0), (.int .i64 0), (.int .i64 0), (.int .i64 0), (.int .i64 0), (.int .i64 0)]), []⟩ ::
 ⟨none, none, .e (.store 8), [.t 8, .t 63]⟩ ::
 []))
(.seq (.ops (⟨(some 64), none, .p (.faddr 1), [.t 7]⟩ ::
 ⟨(some 65), none, .r .load1, [.t 64]⟩ ::
 ⟨(some 66), none, .p (.faddr 0), [.t 8]⟩ ::
 ⟨(some 67), none, .r .load1, [.t 66]⟩ ::
 ⟨(some 68), none, .call, [.c (.func (.func 15) [] []), .t 65, .t 67]⟩ ::
 ⟨(some 69), none, .p (.bin .add), [.c (.int .i64 1), .t 68]⟩ ::
 ⟨(some 70), none, .p (.faddr 1), [.t 8]⟩ ::
 ⟨none, none, .e (.store 1), [.t 70, .t 69]⟩ ::
 []))
(.seq (.ops (⟨(some 71), none, .p (.faddr 2), [.t 7]⟩ ::
 ⟨(some 72), none, .r .load1, [.t 71]⟩ ::
 ⟨(some 73), none, .p (.faddr 1), [.t 8]⟩ ::
 ⟨(some 74), none, .r .load1, [.t 73]⟩ ::
 ⟨(some 75), none, .call, [.c (.func (.func 15) [] []), .t 72, .t 74]⟩ ::
 ⟨(some 76), none, .p (.bin .add), [.c (.int .i64 1), .t 75]⟩ ::
 ⟨(some 77), none, .p (.faddr 2), [.t 8]⟩ ::
 ⟨none, none, .e (.store 1), [.t 77, .t 76]⟩ ::
 []))
(.ops (⟨(some 78), none, .p (.faddr 2), [.t 5]⟩ ::
 ⟨(some 79), none, .r .load1, [.t 78]⟩ ::
 ⟨(some 80), none, .r (.loadN 8), [.t 8]⟩ ::
 ⟨(some 81), none, .a (.bslice [(.int .i64 0), (.int .i64 0), (.int .i64 0), (.int .i64 0), (.int .i64 0), (.int .i64 0), (.int .i64 0), (.int .i64 0)] 1 8 [0]), [.t 80]⟩ ::
 ⟨(some 82), none, .e (.append 8 64), [.t 79, .t 81]⟩ ::
 ⟨(some 83), none, .p (.faddr 2), [.t 5]⟩ ::
 ⟨none, none, .e (.store 1), [.t 83, .t 82]⟩ ::
 [])))))))
(.ops (⟨(some 49), none, .p .mov, [.t 6]⟩ ::
 ⟨(some 50), none, .p (.bin .add), [.t 49, .c (.int .i64 1)]⟩ ::
 ⟨(some 6), none, .p .mov, [.t 50]⟩ ::
 []))))
def L_escapementlaw12_made_0 : AC := (.seq (.seq (.ops (⟨(some 9), none, .p .mov, [.t 4]⟩ ::
 ⟨(some 10), none, .p .mov, [.t 0]⟩ ::
 ⟨(some 11), none, .p .lenS, [.t 10]⟩ ::
 ⟨(some 12), none, .p (.bin .lss), [.t 9, .t 11]⟩ ::
 ⟨(some 13), none, .p .mov, [.t 12]⟩ ::
 ⟨(some 14), (some (13, true)), .p .mov, [.t 4]⟩ ::
 ⟨(some 15), (some (13, true)), .p (.bin .lss), [.t 14, .c (.int .i64 4)]⟩ ::
 ⟨(some 16), none, .p .pick, [.t 13, .t 15, .c (.bool false)]⟩ ::
 []))
(.cond (.t 16)
.skip
(.exit 0)))
(.seq (.block 1 (.seq (.ops (⟨(some 19), none, .p .mov, [.t 0]⟩ ::
 ⟨(some 20), none, .p .mov, [.t 4]⟩ ::
 ⟨(some 21), none, .p (.iaddrS 3), [.t 19, .t 20]⟩ ::
 ⟨(some 22), none, .p (.faddr 0), [.t 21]⟩ ::
 ⟨(some 23), none, .r .load1, [.t 22]⟩ ::
 ⟨(some 24), none, .call, [.c (.func (.func 15) [] []), .t 23, .c (.int .i64 10)]⟩ ::
 ⟨(some 25), none, .p (.bin .add), [.c (.int .i64 1), .t 24]⟩ ::
 ⟨(some 26), none, .p (.build [(.int .i64 0), (.int .i64 0), .nils] [(0, 1)]), [.t 25]⟩ ::
 ⟨(some 5), none, .a (.alloc [(.int .i64 0), (.int .i64 0), .nils]), []⟩ ::
 ⟨none, none, .e (.store 3), [.t 5, .t 26]⟩ ::
 []))
(.seq (.dops (⟨(some 27), none, .p .mov, [.t 0]⟩ ::
 ⟨(some 28), none, .p .mov, [.t 4]⟩ ::
 ⟨(some 29), none, .p (.iaddrS 3), [.t 27, .t 28]⟩ ::
 ⟨(some 30), none, .p (.faddr 1), [.t 29]⟩ ::
 ⟨(some 31), none, .r .load1, [.t 30]⟩ ::
 ⟨(some 32), none, .p (.faddr 0), [.t 5]⟩ ::
 ⟨(some 33), none, .r .load1, [.t 32]⟩ ::
 ⟨(some 34), none, .call, [.c (.func (.func 15) [] []), .t 31, .t 33]⟩ ::
 ⟨(some 35), none, .p (.bin .add), [.c (.int .i64 1), .t 34]⟩ ::
 ⟨(some 36), none, .p (.faddr 1), [.t 5]⟩ ::
 ⟨none, none, .e (.store 1), [.t 36, .t 35]⟩ ::
 []) ([] :: [] :: [] :: [] :: [] :: [] :: [] :: [] :: [] :: [] :: [] :: []))
(.seq (.seq (.ops (⟨(some 6), none, .p .mov, [.c (.int .i64 0)]⟩ ::
 []))
(.block 2 (.loop L_escapementlaw12_made_1)))
(.ops (⟨(some 84), none, .p (.faddr 0), [.t 3]⟩ ::
 ⟨(some 85), none, .r .load1, [.t 84]⟩ ::
 ⟨(some 86), none, .r (.loadN 3), [.t 5]⟩ ::
 ⟨(some 87), none, .a (.bslice [(.int .i64 0), (.int .i64 0), .nils] 1 3 [0]), [.t 86]⟩ ::
 ⟨(some 88), none, .e (.append 3 40), [.t 85, .t 87]⟩ ::
 ⟨(some 89), none, .p (.faddr 0), [.t 3]⟩ ::
 ⟨none, none, .e (.store 1), [.t 89, .t 88]⟩ ::
 []))))))
(.ops (⟨(some 17), none, .p .mov, [.t 4]⟩ ::
 ⟨(some 18), none, .p (.bin .add), [.t 17, .c (.int .i64 1)]⟩ ::
 ⟨(some 4), none, .p .mov, [.t 18]⟩ ::
 []))))
def C14 : AFunc := ⟨91, [.cell 2 2 true],
(.seq (.ops (⟨(some 2), none, .a (.alloc [.nils, .nils]), []⟩ ::
 []))
(.seq (.ops (⟨(some 3), none, .a (.alloc [.nils, .nils]), []⟩ ::
 []))
(.seq (.seq (.ops (⟨(some 4), none, .p .mov, [.c (.int .i64 0)]⟩ ::
 []))
(.block 0 (.loop L_escapementlaw12_made_0)))
(.seq (.ops (⟨(some 90), none, .r (.loadN 2), [.t 3]⟩ ::
 ⟨none, none, .e (.store 2), [.t 2, .t 90]⟩ ::
 []))
.ret))))⟩
abbrev f_escapementlaw12_made : Nat := 14
abbrev C_escapementlaw12_made : AFunc := C14
def C15 : AFunc := ⟨14, [.tmp 4],
(.seq (.ops (⟨(some 4), none, .p .mov, [.c (.int .i64 0)]⟩ ::
 []))
(.seq (.ops (⟨(some 5), none, .p .mov, [.t 0]⟩ ::
 ⟨(some 6), none, .p .mov, [.t 1]⟩ ::
 ⟨(some 7), none, .p (.bin .rem), [.t 5, .t 6]⟩ ::
 ⟨(some 0), none, .p .mov, [.t 7]⟩ ::
 []))
(.seq (.seq (.ops (⟨(some 8), none, .p .mov, [.t 0]⟩ ::
 ⟨(some 9), none, .p (.bin .lss), [.t 8, .c (.int .i64 0)]⟩ ::
 []))
(.cond (.t 9)
(.ops (⟨(some 10), none, .p .mov, [.t 0]⟩ ::
 ⟨(some 11), none, .p .mov, [.t 1]⟩ ::
 ⟨(some 12), none, .p (.bin .add), [.t 10, .t 11]⟩ ::
 ⟨(some 0), none, .p .mov, [.t 12]⟩ ::
 []))
.skip))
(.seq (.ops (⟨(some 13), none, .p .mov, [.t 0]⟩ ::
 ⟨(some 4), none, .p .mov, [.t 13]⟩ ::
 []))
.ret))))⟩
abbrev f_escapementref00_Bring : Nat := 15
abbrev C_escapementref00_Bring : AFunc := C15
def L_gate_Test_0 : AC := (.seq (.ops (⟨(some 33), none, .p (.bin .lss), [.t 32, .t 31]⟩ ::
 []))
(.seq (.cond (.t 33)
.skip
(.exit 0))
(.seq (.block 1 (.seq (.ops (⟨(some 34), none, .p .mov, [.t 32]⟩ ::
 ⟨(some 35), none, .p (.iaddrS 3), [.t 30, .t 32]⟩ ::
 ⟨(some 36), none, .r (.loadN 3), [.t 35]⟩ ::
 ⟨(some 11), none, .a (.alloc [(.int .i64 0), (.int .i64 0), .nils]), []⟩ ::
 ⟨(some 10), none, .p .mov, [.t 34]⟩ ::
 ⟨none, none, .e (.store 3), [.t 11, .t 36]⟩ ::
 []))
(.seq (.ops (⟨(some 37), none, .p .mov, [.t 1]⟩ ::
 ⟨(some 38), none, .p .mov, [.t 10]⟩ ::
 ⟨(some 39), none, .p (.iaddrS 1), [.t 37, .t 38]⟩ ::
 ⟨(some 40), none, .r .load1, [.t 39]⟩ ::
 []))
(.cond (.t 40)
(.ops (⟨(some 41), none, .p .mov, [.t 8]⟩ ::
 ⟨(some 42), none, .r (.loadN 3), [.t 11]⟩ ::
 ⟨(some 43), none, .a (.bslice [(.int .i64 0), (.int .i64 0), .nils] 1 3 [0]), [.t 42]⟩ ::
 ⟨(some 44), none, .e (.append 3 40), [.t 41, .t 43]⟩ ::
 ⟨(some 45), none, .p .mov, [.t 9]⟩ ::
 ⟨(some 46), none, .p .mov, [.t 10]⟩ ::
 ⟨(some 47), none, .a (.bslice [(.int .i64 0)] 1 1 [0]), [.t 46]⟩ ::
 ⟨(some 48), none, .e (.append 1 8), [.t 45, .t 47]⟩ ::
 ⟨(some 8), none, .p .mov, [.t 44]⟩ ::
 ⟨(some 9), none, .p .mov, [.t 48]⟩ ::
 []))
.skip))))
(.ops (⟨(some 49), none, .p (.bin .add), [.t 32, .c (.int .i64 1)]⟩ ::
 ⟨(some 32), none, .p .mov, [.t 49]⟩ ::
 [])))))
def L_gate_Test_1 : AC := (.seq (.ops (⟨(some 58), none, .p (.bin .lss), [.t 57, .t 56]⟩ ::
 []))
(.seq (.cond (.t 58)
.skip
(.exit 2))
(.seq (.block 3 (.seq (.ops (⟨(some 59), none, .p .mov, [.t 57]⟩ ::
 ⟨(some 60), none, .p (.iaddrS 1), [.t 55, .t 57]⟩ ::
 ⟨(some 61), none, .r .load1, [.t 60]⟩ ::
 ⟨(some 13), none, .p .mov, [.t 59]⟩ ::
 ⟨(some 14), none, .p .mov, [.t 61]⟩ ::
 []))
(.seq (.ops (⟨(some 63), none, .p .mov, [.t 8]⟩ ::
 ⟨(some 64), none, .p .mov, [.t 13]⟩ ::
 ⟨(some 65), none, .call, [.c (.func (.func 55) [] []), .t 63, .t 64]⟩ ::
 ⟨(some 62), none, .p .mov, [.t 65]⟩ ::
 ⟨(some 66), none, .p (.ext 0), [.t 62]⟩ ::
 ⟨(some 67), none, .p (.ext 1), [.t 62]⟩ ::
 ⟨(some 15), none, .p .mov, [.t 66]⟩ ::
 ⟨(some 16), none, .p .mov, [.t 67]⟩ ::
 []))
(.seq (.ops (⟨(some 68), none, .p .mov, [.t 16]⟩ ::
 ⟨(some 69), none, .p (.bin .neq), [.t 68, .c (.int .i64 0)]⟩ ::
 []))
(.cond (.t 69)
(.seq (.ops (⟨(some 70), none, .p .mov, [.t 14]⟩ ::
 ⟨(some 71), none, .p .mov, [.t 15]⟩ ::
 ⟨(some 72), none, .p .mov, [.t 16]⟩ ::
 ⟨(some 4), none, .p .mov, [.t 70]⟩ ::
 ⟨(some 5), none, .p .mov, [.t 71]⟩ ::
 ⟨(some 6), none, .p .mov, [.t 72]⟩ ::
 []))
.ret)
.skip)))))
(.ops (⟨(some 73), none, .p (.bin .add), [.t 57, .c (.int .i64 1)]⟩ ::
 ⟨(some 57), none, .p .mov, [.t 73]⟩ ::
 [])))))
def C16 : AFunc := ⟨74, [.tmp 4, .tmp 5, .tmp 6],
(.seq (.ops (⟨(some 2), none, .a .box, [.t 0]⟩ ::
 ⟨(some 4), none, .p .mov, [.c (.int .i64 0)]⟩ ::
 ⟨(some 5), none, .p .mov, [.c (.int .i64 0)]⟩ ::
 ⟨(some 6), none, .p .mov, [.c (.int .i64 0)]⟩ ::
 []))
(.seq (.seq (.ops (⟨(some 17), none, .r (.loadN 2), [.t 2]⟩ ::
 ⟨(some 18), none, .p .mov, [.t 1]⟩ ::
 ⟨(some 19), none, .call, [.c (.func (.func 53) [] []), .t 17, .t 18]⟩ ::
 ⟨(some 7), none, .p .mov, [.t 19]⟩ ::
 []))
(.seq (.ops (⟨(some 20), none, .p .mov, [.t 7]⟩ ::
 ⟨(some 21), none, .p (.bin .neq), [.t 20, .c (.int .i64 0)]⟩ ::
 []))
(.cond (.t 21)
(.seq (.ops (⟨(some 22), none, .p .mov, [.t 7]⟩ ::
 ⟨(some 4), none, .p .mov, [.c (.int .i64 0)]⟩ ::
 ⟨(some 5), none, .p .mov, [.c (.int .i64 0)]⟩ ::
 ⟨(some 6), none, .p .mov, [.t 22]⟩ ::
 []))
.ret)
.skip)))
(.seq (.ops (⟨(some 23), none, .p .mov, [.t 1]⟩ ::
 ⟨(some 24), none, .p .lenS, [.t 23]⟩ ::
 ⟨(some 25), none, .a (.mkslice [(.int .i64 0), (.int .i64 0), .nils] 3 40), [.c (.int .i64 0), .t 24]⟩ ::
 ⟨(some 8), none, .p .mov, [.t 25]⟩ ::
 []))
(.seq (.ops (⟨(some 26), none, .p .mov, [.t 1]⟩ ::
 ⟨(some 27), none, .p .lenS, [.t 26]⟩ ::
 ⟨(some 28), none, .a (.mkslice [(.int .i64 0)] 1 8), [.c (.int .i64 0), .t 27]⟩ ::
 ⟨(some 9), none, .p .mov, [.t 28]⟩ ::
 []))
(.seq (.seq (.ops (⟨(some 29), none, .p (.faddr 0), [.t 2]⟩ ::
 ⟨(some 30), none, .r .load1, [.t 29]⟩ ::
 ⟨(some 31), none, .p .lenS, [.t 30]⟩ ::
 ⟨(some 32), none, .p .mov, [.c (.int .i64 0)]⟩ ::
 []))
(.block 0 (.loop L_gate_Test_0)))
(.seq (.seq (.ops (⟨(some 50), none, .p .mov, [.t 8]⟩ ::
 ⟨(some 51), none, .call, [.c (.func (.func 54) [] []), .t 50]⟩ ::
 ⟨(some 12), none, .p .mov, [.t 51]⟩ ::
 []))
(.seq (.ops (⟨(some 52), none, .p .mov, [.t 12]⟩ ::
 ⟨(some 53), none, .p (.bin .neq), [.t 52, .c (.int .i64 0)]⟩ ::
 []))
(.cond (.t 53)
(.seq (.ops (⟨(some 54), none, .p .mov, [.t 12]⟩ ::
 ⟨(some 4), none, .p .mov, [.c (.int .i64 (-1))]⟩ ::
 ⟨(some 5), none, .p .mov, [.c (.int .i64 0)]⟩ ::
 ⟨(some 6), none, .p .mov, [.t 54]⟩ ::
 []))
.ret)
.skip)))
(.seq (.seq (.ops (⟨(some 55), none, .p .mov, [.t 9]⟩ ::
 ⟨(some 56), none, .p .lenS, [.t 55]⟩ ::
 ⟨(some 57), none, .p .mov, [.c (.int .i64 0)]⟩ ::
 []))
(.block 2 (.loop L_gate_Test_1)))
(.seq (.ops (⟨(some 4), none, .p .mov, [.c (.int .i64 (-1))]⟩ ::
 ⟨(some 5), none, .p .mov, [.c (.int .i64 0)]⟩ ::
 ⟨(some 6), none, .p .mov, [.c (.int .i64 0)]⟩ ::
 []))
.ret))))))))⟩
abbrev f_gate_Test : Nat := 16
abbrev C_gate_Test : AFunc := C16
def L_escapementlaw12_who_0 : AC := (.seq (.seq (.ops (⟨(some 7), none, .p .mov, [.t 6]⟩ ::
 ⟨(some 8), none, .p (.faddr 0), [.t 2]⟩ ::
 ⟨(some 9), none, .r .load1, [.t 8]⟩ ::
 ⟨(some 10), none, .p .lenS, [.t 9]⟩ ::
 ⟨(some 11), none, .p (.bin .lss), [.t 7, .t 10]⟩ ::
 []))
(.cond (.t 11)
.skip
(.exit 0)))
(.seq (.block 1 (.ops (⟨(some 14), none, .p .mov, [.t 5]⟩ ::
 ⟨(some 15), none, .p .mov, [.t 1]⟩ ::
 ⟨(some 16), none, .p .mov, [.t 6]⟩ ::
 ⟨(some 17), none, .p (.bin .shr), [.t 15, .t 16]⟩ ::
 ⟨(some 18), none, .p (.bin .and), [.t 17, .c (.int .i64 1)]⟩ ::
 ⟨(some 19), none, .p (.bin .eql), [.t 18, .c (.int .i64 1)]⟩ ::
 ⟨(some 20), none, .a (.bslice [(.bool false)] 1 1 [0]), [.t 19]⟩ ::
 ⟨(some 21), none, .e (.append 1 1), [.t 14, .t 20]⟩ ::
 ⟨(some 5), none, .p .mov, [.t 21]⟩ ::
 [])))
(.ops (⟨(some 12), none, .p .mov, [.t 6]⟩ ::
 ⟨(some 13), none, .p (.bin .add), [.t 12, .c (.int .i64 1)]⟩ ::
 ⟨(some 6), none, .p .mov, [.t 13]⟩ ::
 []))))
def C17 : AFunc := ⟨23, [.tmp 4],
(.seq (.ops (⟨(some 2), none, .a .box, [.t 0]⟩ ::
 ⟨(some 4), none, .p .mov, [.c .nils]⟩ ::
 []))
(.seq (.ops (⟨(some 5), none, .p .mov, [.c .nils]⟩ ::
 []))
(.seq (.seq (.ops (⟨(some 6), none, .p .mov, [.c (.int .i64 0)]⟩ ::
 []))
(.block 0 (.loop L_escapementlaw12_who_0)))
(.seq (.ops (⟨(some 22), none, .p .mov, [.t 5]⟩ ::
 ⟨(some 4), none, .p .mov, [.t 22]⟩ ::
 []))
.ret))))⟩
abbrev f_escapementlaw12_who : Nat := 17
abbrev C_escapementlaw12_who : AFunc := C17
def C18 : AFunc := ⟨87, [.tmp 0],
(.seq (.ops (⟨(some 0), none, .p .mov, [.c (.bool false)]⟩ ::
 []))
(.seq (.ops (⟨(some 9), none, .call, [.c (.func (.func 21) [] [])]⟩ ::
 ⟨(some 1), none, .a (.alloc [.nils, .nils]), []⟩ ::
 ⟨none, none, .e (.store 2), [.t 1, .t 9]⟩ ::
 []))
(.seq (.ops (⟨(some 10), none, .a (.bslice [(.bool false)] 3 1 [0, 1, 2]), [.c (.bool true), .c (.bool true), .c (.bool false)]⟩ ::
 ⟨(some 2), none, .p .mov, [.t 10]⟩ ::
 []))
(.seq (.ops (⟨(some 12), none, .r (.loadN 2), [.t 1]⟩ ::
 ⟨(some 13), none, .p .mov, [.t 2]⟩ ::
 ⟨(some 14), none, .call, [.c (.func (.func 23) [] []), .t 12, .t 13, .c (.int .i64 1), .c (.int .i64 4), .c (.int .i64 2)]⟩ ::
 ⟨(some 11), none, .p .mov, [.t 14]⟩ ::
 ⟨(some 15), none, .p (.ext 0), [.t 11]⟩ ::
 ⟨(some 16), none, .p (.ext 1), [.t 11]⟩ ::
 ⟨(some 3), none, .a (.alloc [.nils, .nils]), []⟩ ::
 ⟨none, none, .e (.store 2), [.t 3, .t 15]⟩ ::
 ⟨(some 4), none, .p .mov, [.t 16]⟩ ::
 []))
(.seq (.ops (⟨(some 18), none, .r (.loadN 2), [.t 1]⟩ ::
 ⟨(some 19), none, .p .mov, [.t 2]⟩ ::
 ⟨(some 20), none, .call, [.c (.func (.func 23) [] []), .t 18, .t 19, .c (.int .i64 1), .c (.int .i64 4), .c (.int .i64 3)]⟩ ::
 ⟨(some 17), none, .p .mov, [.t 20]⟩ ::
 ⟨(some 21), none, .p (.ext 0), [.t 17]⟩ ::
 ⟨(some 22), none, .p (.ext 1), [.t 17]⟩ ::
 ⟨(some 5), none, .a (.alloc [.nils, .nils]), []⟩ ::
 ⟨none, none, .e (.store 2), [.t 5, .t 21]⟩ ::
 ⟨(some 6), none, .p .mov, [.t 22]⟩ ::
 []))
(.seq (.ops (⟨(some 24), none, .r (.loadN 2), [.t 1]⟩ ::
 ⟨(some 25), none, .p .mov, [.t 2]⟩ ::
 ⟨(some 26), none, .call, [.c (.func (.func 23) [] []), .t 24, .t 25, .c (.int .i64 1), .c (.int .i64 4), .c (.int .i64 5)]⟩ ::
 ⟨(some 23), none, .p .mov, [.t 26]⟩ ::
 ⟨(some 27), none, .p (.ext 0), [.t 23]⟩ ::
 ⟨(some 28), none, .p (.ext 1), [.t 23]⟩ ::
 ⟨(some 7), none, .a (.alloc [.nils, .nils]), []⟩ ::
 ⟨none, none, .e (.store 2), [.t 7, .t 27]⟩ ::
 ⟨(some 8), none, .p .mov, [.t 28]⟩ ::
 []))
(.seq (.seq (.ops (⟨(some 29), none, .p .mov, [.t 4]⟩ ::
 ⟨(some 30), none, .p (.bin .neq), [.t 29, .c (.int .i64 0)]⟩ ::
 ⟨(some 31), none, .p .mov, [.t 30]⟩ ::
 ⟨(some 32), (some (31, false)), .p (.faddr 0), [.t 3]⟩ ::
 ⟨(some 33), (some (31, false)), .r .load1, [.t 32]⟩ ::
 ⟨(some 34), (some (31, false)), .p .lenS, [.t 33]⟩ ::
 ⟨(some 35), (some (31, false)), .p (.bin .neq), [.t 34, .c (.int .i64 3)]⟩ ::
 ⟨(some 36), none, .p .pick, [.t 31, .c (.bool true), .t 35]⟩ ::
 ⟨(some 37), none, .p .mov, [.t 36]⟩ ::
 ⟨(some 38), (some (37, false)), .p (.faddr 0), [.t 3]⟩ ::
 ⟨(some 39), (some (37, false)), .r .load1, [.t 38]⟩ ::
 ⟨(some 40), (some (37, false)), .p (.iaddrS 3), [.t 39, .c (.int .i64 1)]⟩ ::
 ⟨(some 41), (some (37, false)), .p (.faddr 0), [.t 40]⟩ ::
 ⟨(some 42), (some (37, false)), .r .load1, [.t 41]⟩ ::
 ⟨(some 43), (some (37, false)), .p (.bin .neq), [.t 42, .c (.int .i64 4)]⟩ ::
 ⟨(some 44), none, .p .pick, [.t 37, .c (.bool true), .t 43]⟩ ::
 ⟨(some 45), none, .p .mov, [.t 44]⟩ ::
 ⟨(some 46), (some (45, false)), .p (.faddr 0), [.t 3]⟩ ::
 ⟨(some 47), (some (45, false)), .r .load1, [.t 46]⟩ ::
 ⟨(some 48), (some (45, false)), .p (.iaddrS 3), [.t 47, .c (.int .i64 1)]⟩ ::
 ⟨(some 49), (some (45, false)), .p (.faddr 1), [.t 48]⟩ ::
 ⟨(some 50), (some (45, false)), .r .load1, [.t 49]⟩ ::
 ⟨(some 51), (some (45, false)), .p (.bin .neq), [.t 50, .c (.int .i64 2)]⟩ ::
 ⟨(some 52), none, .p .pick, [.t 45, .c (.bool true), .t 51]⟩ ::
 []))
(.cond (.t 52)
(.seq (.ops (⟨(some 0), none, .p .mov, [.c (.bool false)]⟩ ::
 []))
.ret)
.skip))
(.seq (.ops (⟨(some 53), none, .r (.loadN 2), [.t 1]⟩ ::
 ⟨(some 54), none, .p .mov, [.t 2]⟩ ::
 ⟨(some 55), none, .call, [.c (.func (.func 24) [] []), .t 53, .t 54, .c (.int .i64 (-1)), .c (.int .i64 0), .c (.int .i64 0)]⟩ ::
 ⟨(some 56), none, .p .mov, [.t 55]⟩ ::
 ⟨(some 57), (some (56, true)), .r (.loadN 2), [.t 1]⟩ ::
 ⟨(some 58), (some (56, true)), .a (.bslice [(.bool false)] 3 1 [0, 1, 2]), [.c (.bool true), .c (.bool true), .c (.bool true)]⟩ ::
 ⟨(some 59), (some (56, true)), .call, [.c (.func (.func 24) [] []), .t 57, .t 58, .c (.int .i64 (-1)), .c (.int .i64 0), .c (.int .i64 120)]⟩ ::
 ⟨(some 60), none, .p .pick, [.t 56, .t 59, .c (.bool false)]⟩ ::
 ⟨(some 61), none, .p .mov, [.t 60]⟩ ::
 ⟨(some 62), (some (61, true)), .r (.loadN 2), [.t 1]⟩ ::
 ⟨(some 63), (some (61, true)), .a (.bslice [(.bool false)] 3 1 [0, 1, 2]), [.c (.bool true), .c (.bool false), .c (.bool false)]⟩ ::
 ⟨(some 64), (some (61, true)), .call, [.c (.func (.func 22) [] []), .t 62, .t 63, .c (.int .i64 2)]⟩ ::
 ⟨(some 65), (some (61, true)), .p (.bin .eql), [.t 64, .c (.int .i64 0)]⟩ ::
 ⟨(some 66), none, .p .pick, [.t 61, .t 65, .c (.bool false)]⟩ ::
 ⟨(some 67), none, .p .mov, [.t 66]⟩ ::
 ⟨(some 68), (some (67, true)), .r (.loadN 2), [.t 1]⟩ ::
 ⟨(some 69), (some (67, true)), .p .mov, [.t 2]⟩ ::
 ⟨(some 70), (some (67, true)), .call, [.c (.func (.func 22) [] []), .t 68, .t 69, .c (.int .i64 2)]⟩ ::
 ⟨(some 71), (some (67, true)), .p (.bin .eql), [.t 70, .c (.int .i64 120)]⟩ ::
 ⟨(some 72), none, .p .pick, [.t 67, .t 71, .c (.bool false)]⟩ ::
 ⟨(some 73), none, .p .mov, [.t 72]⟩ ::
 ⟨(some 74), (some (73, true)), .r (.loadN 2), [.t 1]⟩ ::
 ⟨(some 75), (some (73, true)), .p .mov, [.t 2]⟩ ::
 ⟨(some 76), (some (73, true)), .call, [.c (.func (.func 22) [] []), .t 74, .t 75, .c (.int .i64 3)]⟩ ::
 ⟨(some 77), (some (73, true)), .p (.bin .eql), [.t 76, .c (.int .i64 9)]⟩ ::
 ⟨(some 78), none, .p .pick, [.t 73, .t 77, .c (.bool false)]⟩ ::
 ⟨(some 79), none, .p .mov, [.t 78]⟩ ::
 ⟨(some 80), (some (79, true)), .p .mov, [.t 6]⟩ ::
 ⟨(some 81), (some (79, true)), .p (.bin .eql), [.t 80, .c (.int .i64 120)]⟩ ::
 ⟨(some 82), none, .p .pick, [.t 79, .t 81, .c (.bool false)]⟩ ::
 ⟨(some 83), none, .p .mov, [.t 82]⟩ ::
 ⟨(some 84), (some (83, true)), .p .mov, [.t 8]⟩ ::
 ⟨(some 85), (some (83, true)), .p (.bin .eql), [.t 84, .c (.int .i64 50)]⟩ ::
 ⟨(some 86), none, .p .pick, [.t 83, .t 85, .c (.bool false)]⟩ ::
 ⟨(some 0), none, .p .mov, [.t 86]⟩ ::
 []))
.ret))))))))⟩
abbrev f_escapementlaw12_works : Nat := 18
abbrev C_escapementlaw12_works : AFunc := C18
def L_escapementlaw12_run_begins_1 : AC := (.seq (.seq (.ops (⟨(some 66), none, .p .mov, [.t 7]⟩ ::
 ⟨(some 67), none, .p (.faddr 2), [.t 6]⟩ ::
 ⟨(some 68), none, .r .load1, [.t 67]⟩ ::
 ⟨(some 69), none, .p .lenS, [.t 68]⟩ ::
 ⟨(some 70), none, .p (.bin .lss), [.t 66, .t 69]⟩ ::
 []))
(.cond (.t 70)
.skip
(.exit 2)))
(.seq (.block 3 (.seq (.ops (⟨(some 73), none, .p .mov, [.t 5]⟩ ::
 ⟨(some 74), none, .p (.bin .mul), [.c (.int .i64 4), .t 73]⟩ ::
 ⟨(some 75), none, .p .mov, [.t 7]⟩ ::
 ⟨(some 76), none, .p (.bin .add), [.t 74, .t 75]⟩ ::
 ⟨(some 8), none, .p .mov, [.t 76]⟩ ::
 []))
(.seq (.seq (.ops (⟨(some 77), none, .p .mov, [.t 0]⟩ ::
 ⟨(some 78), none, .p .nilchk, [.t 77]⟩ ::
 ⟨(some 79), none, .p (.faddr 5), [.t 78]⟩ ::
 ⟨(some 80), none, .r .load1, [.t 79]⟩ ::
 ⟨(some 81), none, .p .mov, [.t 8]⟩ ::
 ⟨(some 82), none, .p (.iaddrS 2), [.t 80, .t 81]⟩ ::
 ⟨(some 83), none, .p (.iaddrA 1 2), [.t 82, .c (.int .i64 1)]⟩ ::
 ⟨(some 84), none, .r .load1, [.t 83]⟩ ::
 ⟨(some 85), none, .p (.bin .gtr), [.t 84, .c (.int .i64 0)]⟩ ::
 ⟨(some 86), none, .p .mov, [.t 85]⟩ ::
 ⟨(some 87), (some (86, true)), .p .mov, [.t 0]⟩ ::
 ⟨(some 88), (some (86, true)), .p .nilchk, [.t 87]⟩ ::
 ⟨(some 89), (some (86, true)), .p (.faddr 5), [.t 88]⟩ ::
 ⟨(some 90), (some (86, true)), .r .load1, [.t 89]⟩ ::
 ⟨(some 91), (some (86, true)), .p .mov, [.t 8]⟩ ::
 ⟨(some 92), (some (86, true)), .p (.iaddrS 2), [.t 90, .t 91]⟩ ::
 ⟨(some 93), (some (86, true)), .p (.iaddrA 1 2), [.t 92, .c (.int .i64 0)]⟩ ::
 ⟨(some 94), (some (86, true)), .r .load1, [.t 93]⟩ ::
 ⟨(some 95), (some (86, true)), .p .mov, [.t 1]⟩ ::
 ⟨(some 96), (some (86, true)), .p (.bin .leq), [.t 94, .t 95]⟩ ::
 ⟨(some 97), none, .p .pick, [.t 86, .t 96, .c (.bool false)]⟩ ::
 []))
(.cond (.t 97)
(.seq (.ops (⟨(some 4), none, .p .mov, [.c (.bool false)]⟩ ::
 []))
.ret)
.skip))
(.seq (.ops (⟨(some 98), none, .p .mov, [.t 1]⟩ ::
 ⟨(some 99), none, .p .mov, [.t 0]⟩ ::
 ⟨(some 100), none, .p .nilchk, [.t 99]⟩ ::
 ⟨(some 101), none, .p (.faddr 6), [.t 100]⟩ ::
 ⟨(some 102), none, .r .load1, [.t 101]⟩ ::
 ⟨(some 103), none, .p .mov, [.t 8]⟩ ::
 ⟨(some 104), none, .p (.iaddrS 1), [.t 102, .t 103]⟩ ::
 ⟨(some 105), none, .r .load1, [.t 104]⟩ ::
 ⟨(some 106), none, .p (.bin .geq), [.t 98, .t 105]⟩ ::
 []))
(.cond (.t 106)
(.seq (.dops (⟨(some 107), none, .p .mov, [.t 0]⟩ ::
 ⟨(some 108), none, .p .nilchk, [.t 107]⟩ ::
 ⟨(some 109), none, .p (.faddr 5), [.t 108]⟩ ::
 ⟨(some 110), none, .r .load1, [.t 109]⟩ ::
 ⟨(some 111), none, .p .mov, [.t 8]⟩ ::
 ⟨(some 112), none, .p .mov, [.t 1]⟩ ::
 ⟨(some 113), none, .p (.faddr 2), [.t 6]⟩ ::
 ⟨(some 114), none, .r .load1, [.t 113]⟩ ::
 ⟨(some 115), none, .p .mov, [.t 7]⟩ ::
 ⟨(some 116), none, .p (.iaddrS 8), [.t 114, .t 115]⟩ ::
 ⟨(some 117), none, .p (.faddr 1), [.t 116]⟩ ::
 ⟨(some 118), none, .r .load1, [.t 117]⟩ ::
 ⟨(some 119), none, .p (.bin .add), [.t 112, .t 118]⟩ ::
 ⟨(some 120), none, .p (.faddr 2), [.t 6]⟩ ::
 ⟨(some 121), none, .r .load1, [.t 120]⟩ ::
 ⟨(some 122), none, .p .mov, [.t 7]⟩ ::
 ⟨(some 123), none, .p (.iaddrS 8), [.t 121, .t 122]⟩ ::
 ⟨(some 124), none, .p (.faddr 2), [.t 123]⟩ ::
 ⟨(some 125), none, .r .load1, [.t 124]⟩ ::
 ⟨(some 126), none, .p (.build [(.int .i64 0), (.int .i64 0)] [(0, 1), (1, 1)]), [.t 119, .t 125]⟩ ::
 ⟨(some 127), none, .p (.iaddrS 2), [.t 110, .t 111]⟩ ::
 ⟨none, none, .e (.store 2), [.t 127, .t 126]⟩ ::
 []) ([] :: [] :: [] :: [] :: [] :: [] :: [] :: [] :: [] :: [] :: [] :: [] :: [] :: [] :: [] :: [] :: [] :: [] :: [] :: [] :: [] :: [] :: []))
(.seq (.dops (⟨(some 128), none, .p .mov, [.t 0]⟩ ::
 ⟨(some 129), none, .p .nilchk, [.t 128]⟩ ::
 ⟨(some 130), none, .p (.faddr 6), [.t 129]⟩ ::
 ⟨(some 131), none, .r .load1, [.t 130]⟩ ::
 ⟨(some 132), none, .p .mov, [.t 8]⟩ ::
 ⟨(some 133), none, .p .mov, [.t 1]⟩ ::
 ⟨(some 134), none, .p (.faddr 2), [.t 6]⟩ ::
 ⟨(some 135), none, .r .load1, [.t 134]⟩ ::
 ⟨(some 136), none, .p .mov, [.t 7]⟩ ::
 ⟨(some 137), none, .p (.iaddrS 8), [.t 135, .t 136]⟩ ::
 ⟨(some 138), none, .p (.faddr 0), [.t 137]⟩ ::
 ⟨(some 139), none, .r .load1, [.t 138]⟩ ::
 ⟨(some 140), none, .p (.bin .add), [.t 133, .t 139]⟩ ::
 ⟨(some 141), none, .p (.iaddrS 1), [.t 131, .t 132]⟩ ::
 ⟨none, none, .e (.store 1), [.t 141, .t 140]⟩ ::
 []) ([] :: [] :: [] :: [] :: [] :: [] :: [] :: [] :: [] :: [] :: [] :: [] :: [] :: [] :: [] :: []))
(.seq (.seq (.ops (⟨(some 142), none, .p .mov, [.t 0]⟩ ::
 ⟨(some 143), none, .p .nilchk, [.t 142]⟩ ::
 ⟨(some 144), none, .p (.faddr 8), [.t 143]⟩ ::
 ⟨(some 145), none, .r .load1, [.t 144]⟩ ::
 ⟨(some 146), none, .p .lenS, [.t 145]⟩ ::
 ⟨(some 147), none, .p (.bin .gtr), [.t 146, .c (.int .i64 0)]⟩ ::
 []))
(.cond (.t 147)
(.dops (⟨(some 148), none, .p .mov, [.t 0]⟩ ::
 ⟨(some 149), none, .p .nilchk, [.t 148]⟩ ::
 ⟨(some 150), none, .p (.faddr 6), [.t 149]⟩ ::
 ⟨(some 151), none, .r .load1, [.t 150]⟩ ::
 ⟨(some 152), none, .p .mov, [.t 8]⟩ ::
 ⟨(some 153), none, .p .mov, [.t 0]⟩ ::
 ⟨(some 154), none, .p .nilchk, [.t 153]⟩ ::
 ⟨(some 155), none, .p (.faddr 6), [.t 154]⟩ ::
 ⟨(some 156), none, .r .load1, [.t 155]⟩ ::
 ⟨(some 157), none, .p .mov, [.t 8]⟩ ::
 ⟨(some 158), none, .p (.iaddrS 1), [.t 156, .t 157]⟩ ::
 ⟨(some 159), none, .r .load1, [.t 158]⟩ ::
 ⟨(some 160), none, .p .mov, [.t 0]⟩ ::
 ⟨(some 161), none, .p .nilchk, [.t 160]⟩ ::
 ⟨(some 162), none, .p (.faddr 8), [.t 161]⟩ ::
 ⟨(some 163), none, .r .load1, [.t 162]⟩ ::
 ⟨(some 164), none, .p .mov, [.t 0]⟩ ::
 ⟨(some 165), none, .p .nilchk, [.t 164]⟩ ::
 ⟨(some 166), none, .p (.faddr 7), [.t 165]⟩ ::
 ⟨(some 167), none, .r .load1, [.t 166]⟩ ::
 ⟨(some 168), none, .p .mov, [.t 0]⟩ ::
 ⟨(some 169), none, .p .nilchk, [.t 168]⟩ ::
 ⟨(some 170), none, .p (.faddr 8), [.t 169]⟩ ::
 ⟨(some 171), none, .r .load1, [.t 170]⟩ ::
 ⟨(some 172), none, .p .lenS, [.t 171]⟩ ::
 ⟨(some 173), none, .p (.bin .rem), [.t 167, .t 172]⟩ ::
 ⟨(some 174), none, .p (.iaddrS 1), [.t 163, .t 173]⟩ ::
 ⟨(some 175), none, .r .load1, [.t 174]⟩ ::
 ⟨(some 176), none, .call, [.c (.func (.func 15) [] []), .t 175, .c (.int .i64 20)]⟩ ::
 ⟨(some 177), none, .p (.bin .add), [.t 159, .t 176]⟩ ::
 ⟨(some 178), none, .p (.iaddrS 1), [.t 151, .t 152]⟩ ::
 ⟨none, none, .e (.store 1), [.t 178, .t 177]⟩ ::
 []) ([] :: [] :: [] :: [0, 29] :: [] :: [] :: [] :: [] :: [0, 29] :: [] :: [] :: [0, 29] :: [] :: [] :: [] :: [] :: [] :: [] :: [] :: [] :: [] :: [] :: [] :: [] :: [] :: [] :: [] :: [] :: [] :: [] :: [] :: [] :: []))
.skip))
(.ops (⟨(some 179), none, .p .mov, [.t 0]⟩ ::
 ⟨(some 180), none, .p .mov, [.t 0]⟩ ::
 ⟨(some 181), none, .p .nilchk, [.t 180]⟩ ::
 ⟨(some 182), none, .p (.faddr 7), [.t 181]⟩ ::
 ⟨(some 183), none, .r .load1, [.t 182]⟩ ::
 ⟨(some 184), none, .p (.bin .add), [.t 183, .c (.int .i64 1)]⟩ ::
 ⟨(some 185), none, .p .nilchk, [.t 179]⟩ ::
 ⟨(some 186), none, .p (.faddr 7), [.t 185]⟩ ::
 ⟨none, none, .e (.store 1), [.t 186, .t 184]⟩ ::
 [])))))
.skip)))))
(.ops (⟨(some 71), none, .p .mov, [.t 7]⟩ ::
 ⟨(some 72), none, .p (.bin .add), [.t 71, .c (.int .i64 1)]⟩ ::
 ⟨(some 7), none, .p .mov, [.t 72]⟩ ::
 []))))
def L_escapementlaw12_run_begins_0 : AC := (.seq (.seq (.ops (⟨(some 9), none, .p .mov, [.t 5]⟩ ::
 ⟨(some 10), none, .p .mov, [.t 0]⟩ ::
 ⟨(some 11), none, .p .nilchk, [.t 10]⟩ ::
 ⟨(some 12), none, .p (.faddr 0), [.t 11]⟩ ::
 ⟨(some 13), none, .p (.faddr 0), [.t 12]⟩ ::
 ⟨(some 14), none, .r .load1, [.t 13]⟩ ::
 ⟨(some 15), none, .p .lenS, [.t 14]⟩ ::
 ⟨(some 16), none, .p (.bin .lss), [.t 9, .t 15]⟩ ::
 []))
(.cond (.t 16)
.skip
(.exit 0)))
(.seq (.block 1 (.seq (.ops (⟨(some 19), none, .p .mov, [.t 0]⟩ ::
 ⟨(some 20), none, .p .nilchk, [.t 19]⟩ ::
 ⟨(some 21), none, .p (.faddr 0), [.t 20]⟩ ::
 ⟨(some 22), none, .p (.faddr 0), [.t 21]⟩ ::
 ⟨(some 23), none, .r .load1, [.t 22]⟩ ::
 ⟨(some 24), none, .p .mov, [.t 5]⟩ ::
 ⟨(some 25), none, .p (.iaddrS 3), [.t 23, .t 24]⟩ ::
 ⟨(some 26), none, .r (.loadN 3), [.t 25]⟩ ::
 ⟨(some 6), none, .a (.alloc [(.int .i64 0), (.int .i64 0), .nils]), []⟩ ::
 ⟨none, none, .e (.store 3), [.t 6, .t 26]⟩ ::
 []))
(.seq (.seq (.ops (⟨(some 27), none, .p .mov, [.t 0]⟩ ::
 ⟨(some 28), none, .p .nilchk, [.t 27]⟩ ::
 ⟨(some 29), none, .p (.faddr 2), [.t 28]⟩ ::
 ⟨(some 30), none, .r .load1, [.t 29]⟩ ::
 ⟨(some 31), none, .p .mov, [.t 5]⟩ ::
 ⟨(some 32), none, .p (.iaddrS 1), [.t 30, .t 31]⟩ ::
 ⟨(some 33), none, .r .load1, [.t 32]⟩ ::
 ⟨(some 34), none, .p .not, [.t 33]⟩ ::
 []))
(.cond (.t 34)
(.exit 1)
.skip))
(.seq (.seq (.ops (⟨(some 35), none, .p .mov, [.t 1]⟩ ::
 ⟨(some 36), none, .p (.faddr 0), [.t 6]⟩ ::
 ⟨(some 37), none, .r .load1, [.t 36]⟩ ::
 ⟨(some 38), none, .p (.bin .rem), [.t 35, .t 37]⟩ ::
 ⟨(some 39), none, .p (.bin .eql), [.t 38, .c (.int .i64 0)]⟩ ::
 []))
(.cond (.t 39)
(.seq (.seq (.ops (⟨(some 40), none, .p .mov, [.t 0]⟩ ::
 ⟨(some 41), none, .p .nilchk, [.t 40]⟩ ::
 ⟨(some 42), none, .p (.faddr 3), [.t 41]⟩ ::
 ⟨(some 43), none, .r .load1, [.t 42]⟩ ::
 ⟨(some 44), none, .p .mov, [.t 5]⟩ ::
 ⟨(some 45), none, .p (.iaddrS 1), [.t 43, .t 44]⟩ ::
 ⟨(some 46), none, .r .load1, [.t 45]⟩ ::
 ⟨(some 47), none, .p (.bin .gtr), [.t 46, .c (.int .i64 0)]⟩ ::
 []))
(.cond (.t 47)
(.seq (.ops (⟨(some 4), none, .p .mov, [.c (.bool false)]⟩ ::
 []))
.ret)
.skip))
(.seq (.dops (⟨(some 48), none, .p .mov, [.t 0]⟩ ::
 ⟨(some 49), none, .p .nilchk, [.t 48]⟩ ::
 ⟨(some 50), none, .p (.faddr 3), [.t 49]⟩ ::
 ⟨(some 51), none, .r .load1, [.t 50]⟩ ::
 ⟨(some 52), none, .p .mov, [.t 5]⟩ ::
 ⟨(some 53), none, .p (.faddr 1), [.t 6]⟩ ::
 ⟨(some 54), none, .r .load1, [.t 53]⟩ ::
 ⟨(some 55), none, .p (.iaddrS 1), [.t 51, .t 52]⟩ ::
 ⟨none, none, .e (.store 1), [.t 55, .t 54]⟩ ::
 []) ([] :: [] :: [] :: [] :: [] :: [] :: [] :: [] :: [] :: []))
(.dops (⟨(some 56), none, .p .mov, [.t 0]⟩ ::
 ⟨(some 57), none, .p .nilchk, [.t 56]⟩ ::
 ⟨(some 58), none, .p (.faddr 4), [.t 57]⟩ ::
 ⟨(some 59), none, .r .load1, [.t 58]⟩ ::
 ⟨(some 60), none, .p .mov, [.t 5]⟩ ::
 ⟨(some 61), none, .p .mov, [.t 1]⟩ ::
 ⟨(some 62), none, .p (.faddr 0), [.t 6]⟩ ::
 ⟨(some 63), none, .r .load1, [.t 62]⟩ ::
 ⟨(some 64), none, .p (.bin .add), [.t 61, .t 63]⟩ ::
 ⟨(some 65), none, .p (.iaddrS 1), [.t 59, .t 60]⟩ ::
 ⟨none, none, .e (.store 1), [.t 65, .t 64]⟩ ::
 []) ([] :: [] :: [] :: [] :: [] :: [] :: [] :: [] :: [] :: [] :: [] :: []))))
.skip))
(.seq (.ops (⟨(some 7), none, .p .mov, [.c (.int .i64 0)]⟩ ::
 []))
(.block 2 (.loop L_escapementlaw12_run_begins_1)))))))
(.ops (⟨(some 17), none, .p .mov, [.t 5]⟩ ::
 ⟨(some 18), none, .p (.bin .add), [.t 17, .c (.int .i64 1)]⟩ ::
 ⟨(some 5), none, .p .mov, [.t 18]⟩ ::
 []))))
def C19 : AFunc := ⟨187, [.tmp 4],
(.seq (.ops (⟨(some 4), none, .p .mov, [.c (.bool false)]⟩ ::
 []))
(.seq (.seq (.ops (⟨(some 5), none, .p .mov, [.c (.int .i64 0)]⟩ ::
 []))
(.block 0 (.loop L_escapementlaw12_run_begins_0)))
(.seq (.ops (⟨(some 4), none, .p .mov, [.c (.bool true)]⟩ ::
 []))
.ret)))⟩
abbrev f_escapementlaw12_run_begins : Nat := 19
abbrev C_escapementlaw12_run_begins : AFunc := C19
def L_escapementlaw12_run_goes_0 : AC := (.seq (.seq (.ops (⟨(some 6), none, .p .mov, [.t 3]⟩ ::
 ⟨(some 7), none, .p .mov, [.t 0]⟩ ::
 ⟨(some 8), none, .p .nilchk, [.t 7]⟩ ::
 ⟨(some 9), none, .p (.faddr 3), [.t 8]⟩ ::
 ⟨(some 10), none, .r .load1, [.t 9]⟩ ::
 ⟨(some 11), none, .p .lenS, [.t 10]⟩ ::
 ⟨(some 12), none, .p (.bin .lss), [.t 6, .t 11]⟩ ::
 []))
(.cond (.t 12)
.skip
(.exit 0)))
(.seq (.block 1 (.seq (.dops (⟨(some 15), none, .p .mov, [.t 0]⟩ ::
 ⟨(some 16), none, .p .nilchk, [.t 15]⟩ ::
 ⟨(some 17), none, .p (.faddr 3), [.t 16]⟩ ::
 ⟨(some 18), none, .r .load1, [.t 17]⟩ ::
 ⟨(some 19), none, .p .mov, [.t 3]⟩ ::
 ⟨(some 20), none, .p (.iaddrS 1), [.t 18, .t 19]⟩ ::
 ⟨(some 21), none, .r .load1, [.t 20]⟩ ::
 ⟨(some 22), none, .p (.bin .gtr), [.t 21, .c (.int .i64 0)]⟩ ::
 ⟨(some 23), none, .p .mov, [.t 22]⟩ ::
 ⟨(some 24), (some (23, true)), .p .mov, [.t 2]⟩ ::
 ⟨(some 25), (some (23, true)), .p (.bin .lss), [.t 24, .c (.int .i64 0)]⟩ ::
 ⟨(some 26), (some (23, true)), .p .mov, [.t 25]⟩ ::
 ⟨(some 27), (some (26, false)), .p .mov, [.t 0]⟩ ::
 ⟨(some 28), (some (26, false)), .p .nilchk, [.t 27]⟩ ::
 ⟨(some 29), (some (26, false)), .p (.faddr 4), [.t 28]⟩ ::
 ⟨(some 30), (some (26, false)), .r .load1, [.t 29]⟩ ::
 ⟨(some 31), (some (26, false)), .p .mov, [.t 3]⟩ ::
 ⟨(some 32), (some (26, false)), .p (.iaddrS 1), [.t 30, .t 31]⟩ ::
 ⟨(some 33), (some (26, false)), .r .load1, [.t 32]⟩ ::
 ⟨(some 34), (some (26, false)), .p .mov, [.t 0]⟩ ::
 ⟨(some 35), (some (26, false)), .p .nilchk, [.t 34]⟩ ::
 ⟨(some 36), (some (26, false)), .p (.faddr 4), [.t 35]⟩ ::
 ⟨(some 37), (some (26, false)), .r .load1, [.t 36]⟩ ::
 ⟨(some 38), (some (26, false)), .p .mov, [.t 2]⟩ ::
 ⟨(some 39), (some (26, false)), .p (.iaddrS 1), [.t 37, .t 38]⟩ ::
 ⟨(some 40), (some (26, false)), .r .load1, [.t 39]⟩ ::
 ⟨(some 41), (some (26, false)), .p (.bin .lss), [.t 33, .t 40]⟩ ::
 ⟨(some 42), (some (23, true)), .p .pick, [.t 26, .c (.bool true), .t 41]⟩ ::
 ⟨(some 43), none, .p .pick, [.t 23, .t 42, .c (.bool false)]⟩ ::
 []) ([] :: [] :: [] :: [] :: [] :: [] :: [] :: [] :: [] :: [] :: [] :: [] :: [] :: [] :: [] :: [] :: [] :: [] :: [] :: [] :: [] :: [] :: [] :: [] :: [] :: [] :: [] :: [] :: [] :: []))
(.cond (.t 43)
(.ops (⟨(some 44), none, .p .mov, [.t 3]⟩ ::
 ⟨(some 2), none, .p .mov, [.t 44]⟩ ::
 []))
.skip)))
(.ops (⟨(some 13), none, .p .mov, [.t 3]⟩ ::
 ⟨(some 14), none, .p (.bin .add), [.t 13, .c (.int .i64 1)]⟩ ::
 ⟨(some 3), none, .p .mov, [.t 14]⟩ ::
 []))))
def L_escapementlaw12_run_goes_1 : AC := (.seq (.seq (.ops (⟨(some 63), none, .p .mov, [.t 5]⟩ ::
 ⟨(some 64), none, .p .mov, [.t 2]⟩ ::
 ⟨(some 65), none, .p (.bin .mul), [.c (.int .i64 4), .t 64]⟩ ::
 ⟨(some 66), none, .p (.bin .add), [.t 65, .c (.int .i64 4)]⟩ ::
 ⟨(some 67), none, .p (.bin .lss), [.t 63, .t 66]⟩ ::
 []))
(.cond (.t 67)
.skip
(.exit 2)))
(.seq (.block 3 (.seq (.dops (⟨(some 70), none, .p .mov, [.t 0]⟩ ::
 ⟨(some 71), none, .p .nilchk, [.t 70]⟩ ::
 ⟨(some 72), none, .p (.faddr 5), [.t 71]⟩ ::
 ⟨(some 73), none, .r .load1, [.t 72]⟩ ::
 ⟨(some 74), none, .p .mov, [.t 5]⟩ ::
 ⟨(some 75), none, .p (.iaddrS 2), [.t 73, .t 74]⟩ ::
 ⟨(some 76), none, .p (.iaddrA 1 2), [.t 75, .c (.int .i64 1)]⟩ ::
 ⟨(some 77), none, .r .load1, [.t 76]⟩ ::
 ⟨(some 78), none, .p (.bin .gtr), [.t 77, .c (.int .i64 0)]⟩ ::
 ⟨(some 79), none, .p .mov, [.t 78]⟩ ::
 ⟨(some 80), (some (79, true)), .p .mov, [.t 4]⟩ ::
 ⟨(some 81), (some (79, true)), .p (.bin .lss), [.t 80, .c (.int .i64 0)]⟩ ::
 ⟨(some 82), (some (79, true)), .p .mov, [.t 81]⟩ ::
 ⟨(some 83), (some (82, false)), .p .mov, [.t 0]⟩ ::
 ⟨(some 84), (some (82, false)), .p .nilchk, [.t 83]⟩ ::
 ⟨(some 85), (some (82, false)), .p (.faddr 5), [.t 84]⟩ ::
 ⟨(some 86), (some (82, false)), .r .load1, [.t 85]⟩ ::
 ⟨(some 87), (some (82, false)), .p .mov, [.t 5]⟩ ::
 ⟨(some 88), (some (82, false)), .p (.iaddrS 2), [.t 86, .t 87]⟩ ::
 ⟨(some 89), (some (82, false)), .p (.iaddrA 1 2), [.t 88, .c (.int .i64 0)]⟩ ::
 ⟨(some 90), (some (82, false)), .r .load1, [.t 89]⟩ ::
 ⟨(some 91), (some (82, false)), .p .mov, [.t 0]⟩ ::
 ⟨(some 92), (some (82, false)), .p .nilchk, [.t 91]⟩ ::
 ⟨(some 93), (some (82, false)), .p (.faddr 5), [.t 92]⟩ ::
 ⟨(some 94), (some (82, false)), .r .load1, [.t 93]⟩ ::
 ⟨(some 95), (some (82, false)), .p .mov, [.t 4]⟩ ::
 ⟨(some 96), (some (82, false)), .p (.iaddrS 2), [.t 94, .t 95]⟩ ::
 ⟨(some 97), (some (82, false)), .p (.iaddrA 1 2), [.t 96, .c (.int .i64 0)]⟩ ::
 ⟨(some 98), (some (82, false)), .r .load1, [.t 97]⟩ ::
 ⟨(some 99), (some (82, false)), .p (.bin .lss), [.t 90, .t 98]⟩ ::
 ⟨(some 100), (some (79, true)), .p .pick, [.t 82, .c (.bool true), .t 99]⟩ ::
 ⟨(some 101), none, .p .pick, [.t 79, .t 100, .c (.bool false)]⟩ ::
 []) ([] :: [] :: [] :: [] :: [] :: [] :: [] :: [] :: [] :: [] :: [] :: [] :: [] :: [] :: [] :: [] :: [] :: [] :: [] :: [] :: [] :: [] :: [] :: [] :: [] :: [] :: [] :: [] :: [] :: [] :: [] :: [] :: []))
(.cond (.t 101)
(.ops (⟨(some 102), none, .p .mov, [.t 5]⟩ ::
 ⟨(some 4), none, .p .mov, [.t 102]⟩ ::
 []))
.skip)))
(.ops (⟨(some 68), none, .p .mov, [.t 5]⟩ ::
 ⟨(some 69), none, .p (.bin .add), [.t 68, .c (.int .i64 1)]⟩ ::
 ⟨(some 5), none, .p .mov, [.t 69]⟩ ::
 []))))
def C20 : AFunc := ⟨121, [],
(.seq (.ops (⟨(some 2), none, .p .mov, [.c (.int .i64 (-1))]⟩ ::
 []))
(.seq (.seq (.ops (⟨(some 3), none, .p .mov, [.c (.int .i64 0)]⟩ ::
 []))
(.block 0 (.loop L_escapementlaw12_run_goes_0)))
(.seq (.seq (.ops (⟨(some 45), none, .p .mov, [.t 2]⟩ ::
 ⟨(some 46), none, .p (.bin .lss), [.t 45, .c (.int .i64 0)]⟩ ::
 []))
(.cond (.t 46)
.ret
.skip))
(.seq (.dops (⟨(some 47), none, .p .mov, [.t 0]⟩ ::
 ⟨(some 48), none, .p .nilchk, [.t 47]⟩ ::
 ⟨(some 49), none, .p (.faddr 3), [.t 48]⟩ ::
 ⟨(some 50), none, .r .load1, [.t 49]⟩ ::
 ⟨(some 51), none, .p .mov, [.t 2]⟩ ::
 ⟨(some 52), none, .p .mov, [.t 0]⟩ ::
 ⟨(some 53), none, .p .nilchk, [.t 52]⟩ ::
 ⟨(some 54), none, .p (.faddr 3), [.t 53]⟩ ::
 ⟨(some 55), none, .r .load1, [.t 54]⟩ ::
 ⟨(some 56), none, .p .mov, [.t 2]⟩ ::
 ⟨(some 57), none, .p (.iaddrS 1), [.t 55, .t 56]⟩ ::
 ⟨(some 58), none, .r .load1, [.t 57]⟩ ::
 ⟨(some 59), none, .p (.bin .sub), [.t 58, .c (.int .i64 1)]⟩ ::
 ⟨(some 60), none, .p (.iaddrS 1), [.t 50, .t 51]⟩ ::
 ⟨none, none, .e (.store 1), [.t 60, .t 59]⟩ ::
 []) ([] :: [] :: [] :: [] :: [] :: [] :: [] :: [] :: [] :: [] :: [] :: [] :: [] :: [] :: [] :: []))
(.seq (.ops (⟨(some 4), none, .p .mov, [.c (.int .i64 (-1))]⟩ ::
 []))
(.seq (.seq (.ops (⟨(some 61), none, .p .mov, [.t 2]⟩ ::
 ⟨(some 62), none, .p (.bin .mul), [.c (.int .i64 4), .t 61]⟩ ::
 ⟨(some 5), none, .p .mov, [.t 62]⟩ ::
 []))
(.block 2 (.loop L_escapementlaw12_run_goes_1)))
(.seq (.ops (⟨(some 103), none, .p .mov, [.t 4]⟩ ::
 ⟨(some 104), none, .p (.bin .geq), [.t 103, .c (.int .i64 0)]⟩ ::
 []))
(.cond (.t 104)
(.dops (⟨(some 105), none, .p .mov, [.t 0]⟩ ::
 ⟨(some 106), none, .p .nilchk, [.t 105]⟩ ::
 ⟨(some 107), none, .p (.faddr 5), [.t 106]⟩ ::
 ⟨(some 108), none, .r .load1, [.t 107]⟩ ::
 ⟨(some 109), none, .p .mov, [.t 4]⟩ ::
 ⟨(some 110), none, .p .mov, [.t 0]⟩ ::
 ⟨(some 111), none, .p .nilchk, [.t 110]⟩ ::
 ⟨(some 112), none, .p (.faddr 5), [.t 111]⟩ ::
 ⟨(some 113), none, .r .load1, [.t 112]⟩ ::
 ⟨(some 114), none, .p .mov, [.t 4]⟩ ::
 ⟨(some 115), none, .p (.iaddrS 2), [.t 113, .t 114]⟩ ::
 ⟨(some 116), none, .p (.iaddrA 1 2), [.t 115, .c (.int .i64 1)]⟩ ::
 ⟨(some 117), none, .r .load1, [.t 116]⟩ ::
 ⟨(some 118), none, .p (.bin .sub), [.t 117, .c (.int .i64 1)]⟩ ::
 ⟨(some 119), none, .p (.iaddrS 2), [.t 108, .t 109]⟩ ::
 ⟨(some 120), none, .p (.iaddrA 1 2), [.t 119, .c (.int .i64 1)]⟩ ::
 ⟨none, none, .e (.store 1), [.t 120, .t 118]⟩ ::
 []) ([] :: [] :: [] :: [] :: [] :: [] :: [] :: [] :: [] :: [] :: [] :: [] :: [] :: [] :: [] :: [] :: [] :: []))
.skip))))))))⟩
abbrev f_escapementlaw12_run_goes : Nat := 20
abbrev C_escapementlaw12_run_goes : AFunc := C20
def C21 : AFunc := ⟨6, [.cell 0 2 true],
(.seq (.ops (⟨(some 0), none, .a (.alloc [.nils, .nils]), []⟩ ::
 []))
(.seq (.ops (⟨(some 1), none, .p (.build [(.int .i64 0), (.int .i64 0), .nils] [(0, 1), (1, 1)]), [.c (.int .i64 2), .c (.int .i64 1)]⟩ ::
 ⟨(some 2), none, .p (.build [(.int .i64 0), (.int .i64 0), .nils] [(0, 1), (1, 1)]), [.c (.int .i64 2), .c (.int .i64 1)]⟩ ::
 ⟨(some 3), none, .p (.build [(.int .i64 0), (.int .i64 0), .nils] [(0, 1), (1, 1)]), [.c (.int .i64 4), .c (.int .i64 1)]⟩ ::
 ⟨(some 4), none, .a (.bslice [(.int .i64 0), (.int .i64 0), .nils] 3 3 [0, 1, 2]), [.t 1, .t 2, .t 3]⟩ ::
 ⟨(some 5), none, .p (.build [.nils, .nils] [(0, 1)]), [.t 4]⟩ ::
 ⟨none, none, .e (.store 2), [.t 0, .t 5]⟩ ::
 []))
.ret))⟩
abbrev f_escapementlaw12_three : Nat := 21
abbrev C_escapementlaw12_three : AFunc := C21
def C22 : AFunc := ⟨39, [.tmp 6],
(.seq (.ops (⟨(some 3), none, .a .box, [.t 0]⟩ ::
 ⟨(some 6), none, .p .mov, [.c (.int .i64 0)]⟩ ::
 []))
(.seq (.seq (.ops (⟨(some 9), none, .r (.loadN 2), [.t 3]⟩ ::
 ⟨(some 10), none, .p .mov, [.t 1]⟩ ::
 ⟨(some 11), none, .call, [.c (.func (.func 53) [] []), .t 9, .t 10]⟩ ::
 ⟨(some 7), none, .p .mov, [.t 11]⟩ ::
 []))
(.seq (.ops (⟨(some 12), none, .p .mov, [.t 7]⟩ ::
 ⟨(some 13), none, .p (.bin .neq), [.t 12, .c (.int .i64 0)]⟩ ::
 []))
(.cond (.t 13)
(.seq (.ops (⟨(some 14), none, .p .mov, [.t 7]⟩ ::
 ⟨(some 6), none, .p .mov, [.t 14]⟩ ::
 []))
.ret)
.skip)))
(.seq (.seq (.ops (⟨(some 15), none, .p .mov, [.t 2]⟩ ::
 ⟨(some 16), none, .p (.bin .lss), [.t 15, .c (.int .i64 0)]⟩ ::
 ⟨(some 17), none, .p .mov, [.t 16]⟩ ::
 ⟨(some 18), (some (17, false)), .p .mov, [.t 2]⟩ ::
 ⟨(some 19), (some (17, false)), .p .mov, [.t 1]⟩ ::
 ⟨(some 20), (some (17, false)), .p .lenS, [.t 19]⟩ ::
 ⟨(some 21), (some (17, false)), .p (.bin .geq), [.t 18, .t 20]⟩ ::
 ⟨(some 22), none, .p .pick, [.t 17, .c (.bool true), .t 21]⟩ ::
 []))
(.cond (.t 22)
(.seq (.ops (⟨(some 6), none, .p .mov, [.c (.int .i64 9)]⟩ ::
 []))
.ret)
.skip))
(.seq (.ops (⟨(some 8), none, .a (.alloc [(.bool false), (.bool false), (.bool false), (.bool false)]), []⟩ ::
 []))
(.seq (.ops (⟨(some 23), none, .p (.sliceArr 1 4 false false false), [.t 8]⟩ ::
 ⟨(some 24), none, .p .mov, [.t 1]⟩ ::
 ⟨(some 25), none, .e (.copy 1), [.t 23, .t 24]⟩ ::
 []))
(.seq (.ops (⟨(some 26), none, .p .mov, [.t 2]⟩ ::
 ⟨(some 27), none, .p (.iaddrA 1 4), [.t 8, .t 26]⟩ ::
 ⟨none, none, .e (.store 1), [.t 27, .c (.bool true)]⟩ ::
 []))
(.seq (.dops (⟨(some 29), none, .r (.loadN 2), [.t 3]⟩ ::
 ⟨(some 30), none, .p .mov, [.t 1]⟩ ::
 ⟨(some 31), none, .p .lenS, [.t 30]⟩ ::
 ⟨(some 32), none, .p (.sliceArr 1 4 false true false), [.t 8, .t 31]⟩ ::
 ⟨(some 33), none, .call, [.c (.func (.func 16) [] []), .t 29, .t 32]⟩ ::
 ⟨(some 28), none, .p .mov, [.t 33]⟩ ::
 ⟨(some 34), none, .p (.ext 0), [.t 28]⟩ ::
 ⟨(some 35), none, .p (.ext 1), [.t 28]⟩ ::
 ⟨(some 36), none, .p (.ext 2), [.t 28]⟩ ::
 ⟨(some 6), none, .p .mov, [.t 36]⟩ ::
 []) ([] :: [] :: [] :: [] :: [] :: [] :: [] :: [] :: [] :: [] :: []))
(.seq (.ops (⟨(some 37), none, .p (.sliceArr 1 4 false false false), [.t 8]⟩ ::
 ⟨none, none, .e (.clear [(.bool false)]), [.t 37]⟩ ::
 []))
(.seq (.ops (⟨(some 38), none, .p .mov, [.t 6]⟩ ::
 ⟨(some 6), none, .p .mov, [.t 38]⟩ ::
 []))
.ret)))))))))⟩
abbrev f_gate_Join : Nat := 22
abbrev C_gate_Join : AFunc := C22
def C23 : AFunc := ⟨58, [.cell 10 2 true, .tmp 11],
(.seq (.ops (⟨(some 5), none, .a .box, [.t 0]⟩ ::
 ⟨(some 10), none, .a (.alloc [.nils, .nils]), []⟩ ::
 ⟨(some 11), none, .p .mov, [.c (.int .i64 0)]⟩ ::
 []))
(.seq (.seq (.ops (⟨(some 15), none, .r (.loadN 2), [.t 5]⟩ ::
 ⟨(some 16), none, .p .mov, [.t 1]⟩ ::
 ⟨(some 17), none, .call, [.c (.func (.func 53) [] []), .t 15, .t 16]⟩ ::
 ⟨(some 12), none, .p .mov, [.t 17]⟩ ::
 []))
(.seq (.ops (⟨(some 18), none, .p .mov, [.t 12]⟩ ::
 ⟨(some 19), none, .p (.bin .neq), [.t 18, .c (.int .i64 0)]⟩ ::
 []))
(.cond (.t 19)
(.seq (.ops (⟨(some 20), none, .p (.build [.nils, .nils] []), []⟩ ::
 ⟨(some 21), none, .p .mov, [.t 12]⟩ ::
 ⟨none, none, .e (.store 2), [.t 10, .t 20]⟩ ::
 ⟨(some 11), none, .p .mov, [.t 21]⟩ ::
 []))
.ret)
.skip)))
(.seq (.seq (.ops (⟨(some 22), none, .p .mov, [.t 2]⟩ ::
 ⟨(some 23), none, .p (.bin .lss), [.t 22, .c (.int .i64 0)]⟩ ::
 ⟨(some 24), none, .p .mov, [.t 23]⟩ ::
 ⟨(some 25), (some (24, false)), .p .mov, [.t 2]⟩ ::
 ⟨(some 26), (some (24, false)), .p .mov, [.t 1]⟩ ::
 ⟨(some 27), (some (24, false)), .p .lenS, [.t 26]⟩ ::
 ⟨(some 28), (some (24, false)), .p (.bin .geq), [.t 25, .t 27]⟩ ::
 ⟨(some 29), none, .p .pick, [.t 24, .c (.bool true), .t 28]⟩ ::
 []))
(.cond (.t 29)
(.seq (.ops (⟨(some 30), none, .p (.build [.nils, .nils] []), []⟩ ::
 ⟨none, none, .e (.store 2), [.t 10, .t 30]⟩ ::
 ⟨(some 11), none, .p .mov, [.c (.int .i64 9)]⟩ ::
 []))
.ret)
.skip))
(.seq (.ops (⟨(some 31), none, .r (.loadN 2), [.t 5]⟩ ::
 ⟨(some 32), none, .p .mov, [.t 2]⟩ ::
 ⟨(some 33), none, .p .mov, [.t 3]⟩ ::
 ⟨(some 34), none, .p .mov, [.t 4]⟩ ::
 ⟨(some 35), none, .call, [.c (.func (.func 56) [] []), .t 31, .t 32, .t 33, .t 34]⟩ ::
 ⟨(some 13), none, .a (.alloc [.nils, .nils]), []⟩ ::
 ⟨none, none, .e (.store 2), [.t 13, .t 35]⟩ ::
 []))
(.seq (.ops (⟨(some 36), none, .r (.loadN 2), [.t 13]⟩ ::
 ⟨(some 37), none, .call, [.c (.func (.func 57) [] []), .t 36]⟩ ::
 ⟨(some 14), none, .p .mov, [.t 37]⟩ ::
 []))
(.seq (.seq (.ops (⟨(some 38), none, .p .mov, [.t 14]⟩ ::
 ⟨(some 39), none, .p (.bin .eql), [.t 38, .c (.int .i64 0)]⟩ ::
 ⟨(some 40), none, .p .mov, [.t 39]⟩ ::
 ⟨(some 41), (some (40, true)), .p .mov, [.t 1]⟩ ::
 ⟨(some 42), (some (40, true)), .p .mov, [.t 2]⟩ ::
 ⟨(some 43), (some (40, true)), .p (.iaddrS 1), [.t 41, .t 42]⟩ ::
 ⟨(some 44), (some (40, true)), .r .load1, [.t 43]⟩ ::
 ⟨(some 45), none, .p .pick, [.t 40, .t 44, .c (.bool false)]⟩ ::
 []))
(.cond (.t 45)
(.ops (⟨(some 47), none, .r (.loadN 2), [.t 13]⟩ ::
 ⟨(some 48), none, .p .mov, [.t 1]⟩ ::
 ⟨(some 49), none, .call, [.c (.func (.func 16) [] []), .t 47, .t 48]⟩ ::
 ⟨(some 46), none, .p .mov, [.t 49]⟩ ::
 ⟨(some 50), none, .p (.ext 0), [.t 46]⟩ ::
 ⟨(some 51), none, .p (.ext 1), [.t 46]⟩ ::
 ⟨(some 52), none, .p (.ext 2), [.t 46]⟩ ::
 ⟨(some 14), none, .p .mov, [.t 52]⟩ ::
 []))
.skip))
(.seq (.seq (.ops (⟨(some 53), none, .p .mov, [.t 14]⟩ ::
 ⟨(some 54), none, .p (.bin .neq), [.t 53, .c (.int .i64 0)]⟩ ::
 []))
(.cond (.t 54)
(.seq (.ops (⟨(some 55), none, .p (.build [.nils, .nils] []), []⟩ ::
 ⟨(some 56), none, .p .mov, [.t 14]⟩ ::
 ⟨none, none, .e (.store 2), [.t 10, .t 55]⟩ ::
 ⟨(some 11), none, .p .mov, [.t 56]⟩ ::
 []))
.ret)
.skip))
(.seq (.ops (⟨(some 57), none, .r (.loadN 2), [.t 13]⟩ ::
 ⟨none, none, .e (.store 2), [.t 10, .t 57]⟩ ::
 ⟨(some 11), none, .p .mov, [.c (.int .i64 0)]⟩ ::
 []))
.ret))))))))⟩
abbrev f_gate_Change : Nat := 23
abbrev C_gate_Change : AFunc := C23
def C24 : AFunc := ⟨34, [.tmp 10],
(.seq (.ops (⟨(some 5), none, .a .box, [.t 0]⟩ ::
 ⟨(some 10), none, .p .mov, [.c (.bool false)]⟩ ::
 []))
(.seq (.ops (⟨(some 15), none, .r (.loadN 2), [.t 5]⟩ ::
 ⟨(some 16), none, .p .mov, [.t 1]⟩ ::
 ⟨(some 17), none, .call, [.c (.func (.func 16) [] []), .t 15, .t 16]⟩ ::
 ⟨(some 14), none, .p .mov, [.t 17]⟩ ::
 ⟨(some 18), none, .p (.ext 0), [.t 14]⟩ ::
 ⟨(some 19), none, .p (.ext 1), [.t 14]⟩ ::
 ⟨(some 20), none, .p (.ext 2), [.t 14]⟩ ::
 ⟨(some 11), none, .p .mov, [.t 18]⟩ ::
 ⟨(some 12), none, .p .mov, [.t 19]⟩ ::
 ⟨(some 13), none, .p .mov, [.t 20]⟩ ::
 []))
(.seq (.ops (⟨(some 21), none, .p .mov, [.t 11]⟩ ::
 ⟨(some 22), none, .p .mov, [.t 2]⟩ ::
 ⟨(some 23), none, .p (.bin .eql), [.t 21, .t 22]⟩ ::
 ⟨(some 24), none, .p .mov, [.t 23]⟩ ::
 ⟨(some 25), (some (24, true)), .p .mov, [.t 12]⟩ ::
 ⟨(some 26), (some (24, true)), .p .mov, [.t 3]⟩ ::
 ⟨(some 27), (some (24, true)), .p (.bin .eql), [.t 25, .t 26]⟩ ::
 ⟨(some 28), none, .p .pick, [.t 24, .t 27, .c (.bool false)]⟩ ::
 ⟨(some 29), none, .p .mov, [.t 28]⟩ ::
 ⟨(some 30), (some (29, true)), .p .mov, [.t 4]⟩ ::
 ⟨(some 31), (some (29, true)), .p .mov, [.t 13]⟩ ::
 ⟨(some 32), (some (29, true)), .p (.bin .eql), [.t 30, .t 31]⟩ ::
 ⟨(some 33), none, .p .pick, [.t 29, .t 32, .c (.bool false)]⟩ ::
 ⟨(some 10), none, .p .mov, [.t 33]⟩ ::
 []))
.ret)))⟩
abbrev f_escapementlaw12_tests : Nat := 24
abbrev C_escapementlaw12_tests : AFunc := C24
def C53 : AFunc := ⟨17, [.tmp 4],
(.seq (.ops (⟨(some 2), none, .a .box, [.t 0]⟩ ::
 ⟨(some 4), none, .p .mov, [.c (.int .i64 0)]⟩ ::
 []))
(.seq (.seq (.ops (⟨(some 6), none, .r (.loadN 2), [.t 2]⟩ ::
 ⟨(some 7), none, .call, [.c (.func (.func 57) [] []), .t 6]⟩ ::
 ⟨(some 5), none, .p .mov, [.t 7]⟩ ::
 []))
(.seq (.ops (⟨(some 8), none, .p .mov, [.t 5]⟩ ::
 ⟨(some 9), none, .p (.bin .neq), [.t 8, .c (.int .i64 0)]⟩ ::
 []))
(.cond (.t 9)
(.seq (.ops (⟨(some 10), none, .p .mov, [.t 5]⟩ ::
 ⟨(some 4), none, .p .mov, [.t 10]⟩ ::
 []))
.ret)
.skip)))
(.seq (.seq (.ops (⟨(some 11), none, .p .mov, [.t 1]⟩ ::
 ⟨(some 12), none, .p .lenS, [.t 11]⟩ ::
 ⟨(some 13), none, .p (.faddr 0), [.t 2]⟩ ::
 ⟨(some 14), none, .r .load1, [.t 13]⟩ ::
 ⟨(some 15), none, .p .lenS, [.t 14]⟩ ::
 ⟨(some 16), none, .p (.bin .neq), [.t 12, .t 15]⟩ ::
 []))
(.cond (.t 16)
(.seq (.ops (⟨(some 4), none, .p .mov, [.c (.int .i64 2)]⟩ ::
 []))
.ret)
.skip))
(.seq (.ops (⟨(some 4), none, .p .mov, [.c (.int .i64 0)]⟩ ::
 []))
.ret))))⟩
abbrev f_gate_asked : Nat := 53
abbrev C_gate_asked : AFunc := C53
def C54 : AFunc := ⟨16, [.tmp 2],
(.seq (.ops (⟨(some 2), none, .p .mov, [.c (.int .i64 0)]⟩ ::
 []))
(.seq (.ops (⟨(some 6), none, .p .mov, [.t 0]⟩ ::
 ⟨(some 7), none, .call, [.c (.func (.func 81) [] []), .t 6]⟩ ::
 ⟨(some 5), none, .p .mov, [.t 7]⟩ ::
 ⟨(some 8), none, .p (.ext 0), [.t 5]⟩ ::
 ⟨(some 9), none, .p (.ext 1), [.t 5]⟩ ::
 ⟨(some 3), none, .a (.alloc [(.int .i64 0), (.int .i64 0)]), []⟩ ::
 ⟨none, none, .e (.store 2), [.t 3, .t 8]⟩ ::
 ⟨(some 4), none, .p .mov, [.t 9]⟩ ::
 []))
(.seq (.block 0 (.seq (.ops (⟨(some 11), none, .p .mov, [.t 4]⟩ ::
 ⟨(some 12), none, .p .not, [.t 11]⟩ ::
 ⟨(some 10), none, .p .mov, [.t 12]⟩ ::
 []))
(.cond (.t 10)
(.seq (.ops (⟨(some 2), none, .p .mov, [.c (.int .i64 2)]⟩ ::
 []))
.ret)
(.seq (.ops (⟨(some 14), none, .r (.loadN 2), [.t 3]⟩ ::
 ⟨(some 15), none, .call, [.c (.func (.func 82) [] []), .t 14]⟩ ::
 ⟨(some 13), none, .p .mov, [.t 15]⟩ ::
 []))
(.cond (.t 13)
(.seq (.ops (⟨(some 2), none, .p .mov, [.c (.int .i64 120)]⟩ ::
 []))
.ret)
.skip)))))
(.seq (.ops (⟨(some 2), none, .p .mov, [.c (.int .i64 0)]⟩ ::
 []))
.ret))))⟩
abbrev f_share_Test : Nat := 54
abbrev C_share_Test : AFunc := C54
def L_local_Test_0 : AC := (.seq (.ops (⟨(some 70), none, .p (.bin .lss), [.t 69, .t 68]⟩ ::
 []))
(.seq (.cond (.t 70)
.skip
(.exit 0))
(.seq (.block 1 (.seq (.ops (⟨(some 71), none, .p (.iaddrS 8), [.t 67, .t 69]⟩ ::
 ⟨(some 72), none, .r (.loadN 8), [.t 71]⟩ ::
 ⟨(some 12), none, .a (.alloc [(.int .i64 0), (.int .i64 0), (.int .i64 0), (.int .i64 0), (.int .i64 0), (.int .i64 0), (.int .i64 0), (.int .i64 0)]), []⟩ ::
 ⟨none, none, .e (.store 8), [.t 12, .t 72]⟩ ::
 []))
(.ops (⟨(some 73), none, .p .mov, [.t 10]⟩ ::
 ⟨(some 74), none, .p (.faddr 1), [.t 12]⟩ ::
 ⟨(some 75), none, .r .load1, [.t 74]⟩ ::
 ⟨(some 76), none, .p .mx, [.t 73, .t 75]⟩ ::
 ⟨(some 10), none, .p .mov, [.t 76]⟩ ::
 []))))
(.ops (⟨(some 77), none, .p (.bin .add), [.t 69, .c (.int .i64 1)]⟩ ::
 ⟨(some 69), none, .p .mov, [.t 77]⟩ ::
 [])))))
def L_local_Test_1a : AC := (.seq (.ops (⟨(some 13), none, .p .mov, [.t 90]⟩ ::
 []))
(.ops (⟨(some 14), none, .p .mov, [.t 91]⟩ ::
 [])))
def L_local_Test_1b : AC := (.block 3 (.seq (.ops (⟨(some 92), none, .p .mov, [.t 14]⟩ ::
 ⟨(some 93), none, .p (.bin .lss), [.t 92, .c (.int .i64 0)]⟩ ::
 []))
(.cond (.t 93)
(.seq (.ops (⟨(some 94), none, .p .mov, [.t 13]⟩ ::
 ⟨none, none, .e (.store 1), [.t 4, .t 94]⟩ ::
 ⟨none, none, .e (.store 1), [.t 5, .c (.int .i64 120)]⟩ ::
 []))
.ret)
.skip)))
def C55 : AFunc := ⟨95, [.cell 4 1 false, .cell 5 1 false],
(.seq (.ops (⟨(some 4), none, .a (.alloc [(.int .i64 0)]), []⟩ ::
 ⟨(some 5), none, .a (.alloc [(.int .i64 0)]), []⟩ ::
 []))
(.seq (.ops (⟨(some 16), none, .p .mov, [.t 0]⟩ ::
 ⟨(some 17), none, .p .mov, [.t 1]⟩ ::
 ⟨(some 18), none, .call, [.c (.func (.func 83) [] []), .t 16, .t 17]⟩ ::
 ⟨(some 15), none, .p .mov, [.t 18]⟩ ::
 ⟨(some 19), none, .p (.ext 0), [.t 15]⟩ ::
 ⟨(some 20), none, .p (.ext 1), [.t 15]⟩ ::
 ⟨(some 6), none, .a (.alloc [(.int .i64 0), (.int .i64 0), .nils, .nils, (.int .i64 0), .nils]), []⟩ ::
 ⟨none, none, .e (.store 6), [.t 6, .t 19]⟩ ::
 ⟨none, none, .e (.store 1), [.t 5, .t 20]⟩ ::
 []))
(.seq (.seq (.ops (⟨(some 21), none, .r .load1, [.t 5]⟩ ::
 ⟨(some 22), none, .p (.bin .neq), [.t 21, .c (.int .i64 0)]⟩ ::
 ⟨(some 23), none, .p .mov, [.t 22]⟩ ::
 ⟨(some 24), (some (23, false)), .p (.faddr 0), [.t 6]⟩ ::
 ⟨(some 25), (some (23, false)), .p (.faddr 2), [.t 24]⟩ ::
 ⟨(some 26), (some (23, false)), .r .load1, [.t 25]⟩ ::
 ⟨(some 27), (some (23, false)), .p .lenS, [.t 26]⟩ ::
 ⟨(some 28), (some (23, false)), .p (.bin .eql), [.t 27, .c (.int .i64 0)]⟩ ::
 ⟨(some 29), none, .p .pick, [.t 23, .c (.bool true), .t 28]⟩ ::
 []))
(.cond (.t 29)
(.seq (.dops (⟨(some 30), none, .r .load1, [.t 5]⟩ ::
 ⟨none, none, .e (.store 1), [.t 4, .c (.int .i64 0)]⟩ ::
 ⟨none, none, .e (.store 1), [.t 5, .t 30]⟩ ::
 []) ([0, 2] :: [] :: [] :: []))
.ret)
.skip))
(.seq (.ops (⟨(some 32), none, .p (.faddr 0), [.t 6]⟩ ::
 ⟨(some 33), none, .p (.faddr 2), [.t 32]⟩ ::
 ⟨(some 34), none, .r .load1, [.t 33]⟩ ::
 ⟨(some 35), none, .p (.faddr 0), [.t 6]⟩ ::
 ⟨(some 36), none, .p (.faddr 0), [.t 35]⟩ ::
 ⟨(some 37), none, .r .load1, [.t 36]⟩ ::
 ⟨(some 38), none, .call, [.c (.func (.func 84) [] []), .t 34, .t 37]⟩ ::
 ⟨(some 31), none, .p .mov, [.t 38]⟩ ::
 ⟨(some 39), none, .p (.ext 0), [.t 31]⟩ ::
 ⟨(some 40), none, .p (.ext 1), [.t 31]⟩ ::
 ⟨(some 7), none, .p .mov, [.t 39]⟩ ::
 ⟨none, none, .e (.store 1), [.t 5, .t 40]⟩ ::
 []))
(.seq (.seq (.ops (⟨(some 41), none, .r .load1, [.t 5]⟩ ::
 ⟨(some 42), none, .p (.bin .neq), [.t 41, .c (.int .i64 0)]⟩ ::
 []))
(.cond (.t 42)
(.seq (.dops (⟨(some 43), none, .r .load1, [.t 5]⟩ ::
 ⟨none, none, .e (.store 1), [.t 4, .c (.int .i64 0)]⟩ ::
 ⟨none, none, .e (.store 1), [.t 5, .t 43]⟩ ::
 []) ([0, 2] :: [] :: [] :: []))
.ret)
.skip))
(.seq (.seq (.ops (⟨(some 45), none, .p (.faddr 0), [.t 6]⟩ ::
 ⟨(some 46), none, .p (.faddr 2), [.t 45]⟩ ::
 ⟨(some 47), none, .r .load1, [.t 46]⟩ ::
 ⟨(some 48), none, .p (.faddr 5), [.t 6]⟩ ::
 ⟨(some 49), none, .r .load1, [.t 48]⟩ ::
 ⟨(some 50), none, .p .mov, [.t 7]⟩ ::
 ⟨(some 51), none, .call, [.c (.func (.func 85) [] []), .t 47, .t 49, .t 50]⟩ ::
 ⟨(some 44), none, .p .mov, [.t 51]⟩ ::
 ⟨(some 52), none, .p (.ext 0), [.t 44]⟩ ::
 ⟨(some 53), none, .p (.ext 1), [.t 44]⟩ ::
 ⟨(some 8), none, .p .mov, [.t 52]⟩ ::
 ⟨(some 9), none, .p .mov, [.t 53]⟩ ::
 []))
(.seq (.dops (⟨(some 54), none, .p .mov, [.t 8]⟩ ::
 ⟨(some 55), none, .p .mov, [.t 7]⟩ ::
 ⟨(some 56), none, .p (.faddr 0), [.t 6]⟩ ::
 ⟨(some 57), none, .p (.faddr 0), [.t 56]⟩ ::
 ⟨(some 58), none, .r .load1, [.t 57]⟩ ::
 ⟨(some 59), none, .p (.bin .quo), [.t 55, .t 58]⟩ ::
 ⟨(some 60), none, .p (.faddr 0), [.t 6]⟩ ::
 ⟨(some 61), none, .p (.faddr 1), [.t 60]⟩ ::
 ⟨(some 62), none, .r .load1, [.t 61]⟩ ::
 ⟨(some 63), none, .p (.bin .mul), [.t 59, .t 62]⟩ ::
 ⟨(some 64), none, .p (.bin .gtr), [.t 54, .t 63]⟩ ::
 []) ([] :: [] :: [] :: [] :: [] :: [] :: [] :: [] :: [] :: [] :: [] :: []))
(.cond (.t 64)
(.seq (.ops (⟨none, none, .e (.store 1), [.t 4, .c (.int .i64 0)]⟩ ::
 ⟨none, none, .e (.store 1), [.t 5, .c (.int .i64 120)]⟩ ::
 []))
.ret)
.skip)))
(.seq (.ops (⟨(some 10), none, .p .mov, [.c (.int .i64 0)]⟩ ::
 []))
(.seq (.seq (.ops (⟨(some 65), none, .p (.faddr 0), [.t 6]⟩ ::
 ⟨(some 66), none, .p (.faddr 2), [.t 65]⟩ ::
 ⟨(some 67), none, .r .load1, [.t 66]⟩ ::
 ⟨(some 68), none, .p .lenS, [.t 67]⟩ ::
 ⟨(some 69), none, .p .mov, [.c (.int .i64 0)]⟩ ::
 []))
(.block 0 (.loop L_local_Test_0)))
(.seq (.seq (.dops (⟨(some 78), none, .r (.loadN 6), [.t 6]⟩ ::
 ⟨(some 79), none, .p .mov, [.t 7]⟩ ::
 ⟨(some 80), none, .p .mov, [.t 10]⟩ ::
 ⟨(some 81), none, .p (.faddr 0), [.t 6]⟩ ::
 ⟨(some 82), none, .p (.faddr 0), [.t 81]⟩ ::
 ⟨(some 83), none, .r .load1, [.t 82]⟩ ::
 ⟨(some 84), none, .p (.faddr 0), [.t 6]⟩ ::
 ⟨(some 85), none, .p (.faddr 0), [.t 84]⟩ ::
 ⟨(some 86), none, .r .load1, [.t 85]⟩ ::
 ⟨(some 87), none, .a (.bslice [(.int .i64 0)] 4 1 [0, 1, 2, 3]), [.t 79, .t 80, .t 83, .t 86]⟩ ::
 ⟨(some 88), none, .call, [.c (.func (.func 87) [] []), .t 87]⟩ ::
 ⟨(some 89), none, .call, [.c (.func (.func 86) [] []), .t 78, .t 88]⟩ ::
 []) ([0, 11] :: [] :: [] :: [] :: [] :: [] :: [] :: [] :: [] :: [] :: [] :: [] :: []))
(.block 2 (.rangeFunc (.t 89) [90, 91] L_local_Test_1a L_local_Test_1b)))
(.seq (.ops (⟨none, none, .e (.store 1), [.t 4, .c (.int .i64 0)]⟩ ::
 ⟨none, none, .e (.store 1), [.t 5, .c (.int .i64 0)]⟩ ::
 []))
.ret))))))))))⟩
abbrev f_local_Test : Nat := 55
abbrev C_local_Test : AFunc := C55
def L_gate_other_0 : AC := (.seq (.ops (⟨(some 23), none, .p (.bin .lss), [.t 22, .t 21]⟩ ::
 []))
(.seq (.cond (.t 23)
.skip
(.exit 0))
(.seq (.block 1 (.seq (.ops (⟨(some 24), none, .p .mov, [.t 22]⟩ ::
 ⟨(some 10), none, .p .mov, [.t 24]⟩ ::
 []))
(.seq (.ops (⟨(some 25), none, .p (.faddr 0), [.t 9]⟩ ::
 ⟨(some 26), none, .r .load1, [.t 25]⟩ ::
 ⟨(some 27), none, .p .mov, [.t 10]⟩ ::
 ⟨(some 28), none, .p (.iaddrS 3), [.t 26, .t 27]⟩ ::
 ⟨(some 11), none, .p .mov, [.t 28]⟩ ::
 []))
(.seq (.ops (⟨(some 29), none, .p .mov, [.t 11]⟩ ::
 ⟨(some 30), none, .p .mov, [.t 11]⟩ ::
 ⟨(some 31), none, .p .nilchk, [.t 30]⟩ ::
 ⟨(some 32), none, .p (.faddr 2), [.t 31]⟩ ::
 ⟨(some 33), none, .r .load1, [.t 32]⟩ ::
 ⟨(some 34), none, .call, [.c (.func (.func 90) [] []), .t 33]⟩ ::
 ⟨(some 35), none, .p .nilchk, [.t 29]⟩ ::
 ⟨(some 36), none, .p (.faddr 2), [.t 35]⟩ ::
 ⟨none, none, .e (.store 1), [.t 36, .t 34]⟩ ::
 []))
(.seq (.ops (⟨(some 37), none, .p .mov, [.t 10]⟩ ::
 ⟨(some 38), none, .p .mov, [.t 1]⟩ ::
 ⟨(some 39), none, .p (.bin .eql), [.t 37, .t 38]⟩ ::
 []))
(.cond (.t 39)
(.ops (⟨(some 40), none, .p .mov, [.t 11]⟩ ::
 ⟨(some 41), none, .p .mov, [.t 11]⟩ ::
 ⟨(some 42), none, .p .mov, [.t 2]⟩ ::
 ⟨(some 43), none, .p .mov, [.t 3]⟩ ::
 ⟨(some 44), none, .p .nilchk, [.t 40]⟩ ::
 ⟨(some 45), none, .p (.faddr 0), [.t 44]⟩ ::
 ⟨none, none, .e (.store 1), [.t 45, .t 42]⟩ ::
 ⟨(some 46), none, .p .nilchk, [.t 41]⟩ ::
 ⟨(some 47), none, .p (.faddr 1), [.t 46]⟩ ::
 ⟨none, none, .e (.store 1), [.t 47, .t 43]⟩ ::
 []))
.skip))))))
(.ops (⟨(some 48), none, .p (.bin .add), [.t 22, .c (.int .i64 1)]⟩ ::
 ⟨(some 22), none, .p .mov, [.t 48]⟩ ::
 [])))))
def C56 : AFunc := ⟨50, [.cell 8 2 true],
(.seq (.ops (⟨(some 4), none, .a .box, [.t 0]⟩ ::
 ⟨(some 8), none, .a (.alloc [.nils, .nils]), []⟩ ::
 []))
(.seq (.dops (⟨(some 12), none, .p (.faddr 0), [.t 4]⟩ ::
 ⟨(some 13), none, .r .load1, [.t 12]⟩ ::
 ⟨(some 14), none, .call, [.c (.func (.func 88) [] []), .t 13]⟩ ::
 ⟨(some 15), none, .p (.faddr 1), [.t 4]⟩ ::
 ⟨(some 16), none, .r .load1, [.t 15]⟩ ::
 ⟨(some 17), none, .call, [.c (.func (.func 89) [] []), .t 16]⟩ ::
 ⟨(some 18), none, .p (.build [.nils, .nils] [(0, 1), (1, 1)]), [.t 14, .t 17]⟩ ::
 ⟨(some 9), none, .a (.alloc [.nils, .nils]), []⟩ ::
 ⟨none, none, .e (.store 2), [.t 9, .t 18]⟩ ::
 []) ([] :: [] :: [] :: [] :: [0, 3] :: [] :: [] :: [] :: [] :: []))
(.seq (.seq (.ops (⟨(some 19), none, .p (.faddr 0), [.t 9]⟩ ::
 ⟨(some 20), none, .r .load1, [.t 19]⟩ ::
 ⟨(some 21), none, .p .lenS, [.t 20]⟩ ::
 ⟨(some 22), none, .p .mov, [.c (.int .i64 0)]⟩ ::
 []))
(.block 0 (.loop L_gate_other_0)))
(.seq (.ops (⟨(some 49), none, .r (.loadN 2), [.t 9]⟩ ::
 ⟨none, none, .e (.store 2), [.t 8, .t 49]⟩ ::
 []))
.ret))))⟩
abbrev f_gate_other : Nat := 56
abbrev C_gate_other : AFunc := C56
def C57 : AFunc := ⟨27, [.tmp 2],
(.seq (.ops (⟨(some 1), none, .a .box, [.t 0]⟩ ::
 ⟨(some 2), none, .p .mov, [.c (.int .i64 0)]⟩ ::
 []))
(.seq (.ops (⟨(some 4), none, .p (.faddr 0), [.t 1]⟩ ::
 ⟨(some 5), none, .r .load1, [.t 4]⟩ ::
 ⟨(some 6), none, .call, [.c (.func (.func 91) [] []), .t 5, .c (.func (.func 92) [] [])]⟩ ::
 ⟨(some 7), none, .p .mov, [.t 6]⟩ ::
 ⟨(some 8), (some (7, false)), .p (.faddr 1), [.t 1]⟩ ::
 ⟨(some 9), (some (7, false)), .r .load1, [.t 8]⟩ ::
 ⟨(some 10), (some (7, false)), .p (.mkfunc (.func 95) 0), [.t 1]⟩ ::
 ⟨(some 11), (some (7, false)), .call, [.c (.func (.func 94) [] []), .t 9, .t 10]⟩ ::
 ⟨(some 12), none, .p .pick, [.t 7, .c (.bool true), .t 11]⟩ ::
 ⟨(some 3), none, .p .mov, [.t 12]⟩ ::
 []))
(.seq (.seq (.ops (⟨(some 13), none, .p .mov, [.t 3]⟩ ::
 ⟨(some 14), none, .p .mov, [.t 13]⟩ ::
 ⟨(some 15), (some (14, false)), .p (.faddr 0), [.t 1]⟩ ::
 ⟨(some 16), (some (14, false)), .r .load1, [.t 15]⟩ ::
 ⟨(some 17), (some (14, false)), .p .lenS, [.t 16]⟩ ::
 ⟨(some 18), (some (14, false)), .call, [.c (.func (.func 97) [] []), .t 17, .c (.int .i64 1), .c (.int .i64 4)]⟩ ::
 ⟨(some 19), (some (14, false)), .p .not, [.t 18]⟩ ::
 ⟨(some 20), none, .p .pick, [.t 14, .c (.bool true), .t 19]⟩ ::
 ⟨(some 21), none, .p .mov, [.t 20]⟩ ::
 ⟨(some 22), (some (21, false)), .p (.faddr 1), [.t 1]⟩ ::
 ⟨(some 23), (some (21, false)), .r .load1, [.t 22]⟩ ::
 ⟨(some 24), (some (21, false)), .p .lenS, [.t 23]⟩ ::
 ⟨(some 25), (some (21, false)), .p (.bin .gtr), [.t 24, .c (.int .i64 8)]⟩ ::
 ⟨(some 26), none, .p .pick, [.t 21, .c (.bool true), .t 25]⟩ ::
 []))
(.cond (.t 26)
(.seq (.ops (⟨(some 2), none, .p .mov, [.c (.int .i64 50)]⟩ ::
 []))
.ret)
.skip))
(.seq (.ops (⟨(some 2), none, .p .mov, [.c (.int .i64 0)]⟩ ::
 []))
.ret))))⟩
abbrev f_conf_Check : Nat := 57
abbrev C_conf_Check : AFunc := C57
def L_share_sum_0 : AC := (.seq (.ops (⟨(some 15), none, .p (.bin .lss), [.t 14, .t 13]⟩ ::
 []))
(.seq (.cond (.t 15)
.skip
(.exit 0))
(.seq (.block 1 (.seq (.ops (⟨(some 16), none, .p (.iaddrS 3), [.t 12, .t 14]⟩ ::
 ⟨(some 17), none, .r (.loadN 3), [.t 16]⟩ ::
 ⟨(some 6), none, .a (.alloc [(.int .i64 0), (.int .i64 0), .nils]), []⟩ ::
 ⟨none, none, .e (.store 3), [.t 6, .t 17]⟩ ::
 []))
(.seq (.seq (.ops (⟨(some 18), none, .p (.faddr 0), [.t 6]⟩ ::
 ⟨(some 19), none, .r .load1, [.t 18]⟩ ::
 ⟨(some 20), none, .p (.bin .gtr), [.t 19, .c (.int .i64 64)]⟩ ::
 ⟨(some 21), none, .p .mov, [.t 20]⟩ ::
 ⟨(some 22), (some (21, false)), .p (.faddr 1), [.t 6]⟩ ::
 ⟨(some 23), (some (21, false)), .r .load1, [.t 22]⟩ ::
 ⟨(some 24), (some (21, false)), .p (.bin .lss), [.t 23, .c (.int .i64 1)]⟩ ::
 ⟨(some 25), none, .p .pick, [.t 21, .c (.bool true), .t 24]⟩ ::
 ⟨(some 26), none, .p .mov, [.t 25]⟩ ::
 ⟨(some 27), (some (26, false)), .p (.faddr 1), [.t 6]⟩ ::
 ⟨(some 28), (some (26, false)), .r .load1, [.t 27]⟩ ::
 ⟨(some 29), (some (26, false)), .p (.faddr 0), [.t 6]⟩ ::
 ⟨(some 30), (some (26, false)), .r .load1, [.t 29]⟩ ::
 ⟨(some 31), (some (26, false)), .p (.bin .gtr), [.t 28, .t 30]⟩ ::
 ⟨(some 32), none, .p .pick, [.t 26, .c (.bool true), .t 31]⟩ ::
 []))
(.cond (.t 32)
(.seq (.ops (⟨(some 33), none, .r (.loadN 2), [.t 4]⟩ ::
 ⟨none, none, .e (.store 2), [.t 2, .t 33]⟩ ::
 ⟨(some 3), none, .p .mov, [.c (.bool false)]⟩ ::
 []))
.ret)
.skip))
(.ops (⟨(some 34), none, .r (.loadN 2), [.t 4]⟩ ::
 ⟨(some 35), none, .p (.faddr 1), [.t 6]⟩ ::
 ⟨(some 36), none, .r .load1, [.t 35]⟩ ::
 ⟨(some 37), none, .p (.faddr 0), [.t 6]⟩ ::
 ⟨(some 38), none, .r .load1, [.t 37]⟩ ::
 ⟨(some 39), none, .p (.build [(.int .i64 0), (.int .i64 0)] [(0, 1), (1, 1)]), [.t 36, .t 38]⟩ ::
 ⟨(some 40), none, .call, [.c (.func (.func 106) [] []), .t 34, .t 39]⟩ ::
 ⟨none, none, .e (.store 2), [.t 4, .t 40]⟩ ::
 [])))))
(.ops (⟨(some 41), none, .p (.bin .add), [.t 14, .c (.int .i64 1)]⟩ ::
 ⟨(some 14), none, .p .mov, [.t 41]⟩ ::
 [])))))
def C81 : AFunc := ⟨43, [.cell 2 2 true, .tmp 3],
(.seq (.ops (⟨(some 2), none, .a (.alloc [(.int .i64 0), (.int .i64 0)]), []⟩ ::
 ⟨(some 3), none, .p .mov, [.c (.bool false)]⟩ ::
 []))
(.seq (.ops (⟨(some 7), none, .p (.build [(.int .i64 0), (.int .i64 0)] [(0, 1), (1, 1)]), [.c (.int .i64 0), .c (.int .i64 1)]⟩ ::
 ⟨(some 4), none, .a (.alloc [(.int .i64 0), (.int .i64 0)]), []⟩ ::
 ⟨none, none, .e (.store 2), [.t 4, .t 7]⟩ ::
 []))
(.seq (.seq (.ops (⟨(some 8), none, .p .mov, [.t 0]⟩ ::
 ⟨(some 9), none, .p .lenS, [.t 8]⟩ ::
 ⟨(some 10), none, .p (.bin .gtr), [.t 9, .c (.int .i64 4)]⟩ ::
 []))
(.cond (.t 10)
(.seq (.ops (⟨(some 11), none, .r (.loadN 2), [.t 4]⟩ ::
 ⟨none, none, .e (.store 2), [.t 2, .t 11]⟩ ::
 ⟨(some 3), none, .p .mov, [.c (.bool false)]⟩ ::
 []))
.ret)
.skip))
(.seq (.seq (.ops (⟨(some 12), none, .p .mov, [.t 0]⟩ ::
 ⟨(some 13), none, .p .lenS, [.t 12]⟩ ::
 ⟨(some 14), none, .p .mov, [.c (.int .i64 0)]⟩ ::
 []))
(.block 0 (.loop L_share_sum_0)))
(.seq (.ops (⟨(some 42), none, .r (.loadN 2), [.t 4]⟩ ::
 ⟨none, none, .e (.store 2), [.t 2, .t 42]⟩ ::
 ⟨(some 3), none, .p .mov, [.c (.bool true)]⟩ ::
 []))
.ret)))))⟩
abbrev f_share_sum : Nat := 81
abbrev C_share_sum : AFunc := C81
def C82 : AFunc := ⟨13, [.tmp 2],
(.seq (.ops (⟨(some 1), none, .a .box, [.t 0]⟩ ::
 ⟨(some 2), none, .p .mov, [.c (.bool false)]⟩ ::
 []))
(.seq (.ops (⟨(some 3), none, .p (.faddr 0), [.t 1]⟩ ::
 ⟨(some 4), none, .r .load1, [.t 3]⟩ ::
 ⟨(some 5), none, .p (.faddr 1), [.t 1]⟩ ::
 ⟨(some 6), none, .r .load1, [.t 5]⟩ ::
 ⟨(some 7), none, .p (.bin .gtr), [.t 4, .t 6]⟩ ::
 ⟨(some 8), none, .p .mov, [.t 7]⟩ ::
 ⟨(some 9), (some (8, true)), .r (.loadN 2), [.t 1]⟩ ::
 ⟨(some 10), (some (8, true)), .p (.build [(.int .i64 0), (.int .i64 0)] [(0, 1), (1, 1)]), [.c (.int .i64 1), .c (.int .i64 1)]⟩ ::
 ⟨(some 11), (some (8, true)), .p (.neq (.cells [0, 0])), [.t 9, .t 10]⟩ ::
 ⟨(some 12), none, .p .pick, [.t 8, .t 11, .c (.bool false)]⟩ ::
 ⟨(some 2), none, .p .mov, [.t 12]⟩ ::
 []))
.ret))⟩
abbrev f_share_fraction_int_above : Nat := 82
abbrev C_share_fraction_int_above : AFunc := C82
def C83 : AFunc := ⟨26, [.cell 4 6 true, .tmp 5],
(.seq (.ops (⟨(some 4), none, .a (.alloc [(.int .i64 0), (.int .i64 0), .nils, .nils, (.int .i64 0), .nils]), []⟩ ::
 ⟨(some 5), none, .p .mov, [.c (.int .i64 0)]⟩ ::
 []))
(.seq (.ops (⟨(some 9), none, .p .mov, [.t 0]⟩ ::
 ⟨(some 10), none, .p .mov, [.t 1]⟩ ::
 ⟨(some 11), none, .call, [.c (.func (.func 107) [] []), .t 9, .t 10]⟩ ::
 ⟨(some 8), none, .p .mov, [.t 11]⟩ ::
 ⟨(some 12), none, .p (.ext 0), [.t 8]⟩ ::
 ⟨(some 13), none, .p (.ext 1), [.t 8]⟩ ::
 ⟨(some 6), none, .p .mov, [.t 12]⟩ ::
 ⟨(some 7), none, .p .mov, [.t 13]⟩ ::
 []))
(.seq (.seq (.ops (⟨(some 14), none, .p .mov, [.t 7]⟩ ::
 ⟨(some 15), none, .p (.bin .neq), [.t 14, .c (.int .i64 0)]⟩ ::
 []))
(.cond (.t 15)
(.seq (.ops (⟨(some 16), none, .p (.build [(.int .i64 0), (.int .i64 0), .nils, .nils, (.int .i64 0), .nils] []), []⟩ ::
 ⟨(some 17), none, .p .mov, [.t 7]⟩ ::
 ⟨none, none, .e (.store 6), [.t 4, .t 16]⟩ ::
 ⟨(some 5), none, .p .mov, [.t 17]⟩ ::
 []))
.ret)
.skip))
(.seq (.ops (⟨(some 18), none, .p .mov, [.t 0]⟩ ::
 ⟨(some 19), none, .p .mov, [.t 1]⟩ ::
 ⟨(some 20), none, .p (.iaddrS 3), [.t 18, .t 19]⟩ ::
 ⟨(some 21), none, .r (.loadN 3), [.t 20]⟩ ::
 ⟨(some 22), none, .p .mov, [.t 0]⟩ ::
 ⟨(some 23), none, .p .mov, [.t 1]⟩ ::
 ⟨(some 24), none, .p .mov, [.t 6]⟩ ::
 ⟨(some 25), none, .p (.build [(.int .i64 0), (.int .i64 0), .nils, .nils, (.int .i64 0), .nils] [(0, 3), (3, 1), (4, 1), (5, 1)]), [.t 21, .t 22, .t 23, .t 24]⟩ ::
 ⟨none, none, .e (.store 6), [.t 4, .t 25]⟩ ::
 ⟨(some 5), none, .p .mov, [.c (.int .i64 0)]⟩ ::
 []))
.ret))))⟩
abbrev f_local_of : Nat := 83
abbrev C_local_of : AFunc := C83
def L_demand_Hyper_0 : AC := (.seq (.ops (⟨(some 26), none, .p (.bin .lss), [.t 25, .t 24]⟩ ::
 []))
(.seq (.cond (.t 26)
.skip
(.exit 0))
(.seq (.block 1 (.seq (.ops (⟨(some 27), none, .p (.iaddrS 8), [.t 23, .t 25]⟩ ::
 ⟨(some 28), none, .r (.loadN 8), [.t 27]⟩ ::
 ⟨(some 8), none, .a (.alloc [(.int .i64 0), (.int .i64 0), (.int .i64 0), (.int .i64 0), (.int .i64 0), (.int .i64 0), (.int .i64 0), (.int .i64 0)]), []⟩ ::
 ⟨none, none, .e (.store 8), [.t 8, .t 28]⟩ ::
 []))
(.seq (.ops (⟨(some 30), none, .p .mov, [.t 6]⟩ ::
 ⟨(some 31), none, .p (.faddr 0), [.t 8]⟩ ::
 ⟨(some 32), none, .r .load1, [.t 31]⟩ ::
 ⟨(some 33), none, .a (.bslice [(.int .i64 0)] 2 1 [0, 1]), [.t 30, .t 32]⟩ ::
 ⟨(some 34), none, .call, [.c (.func (.func 109) [] []), .c (.int .i64 4096), .t 33]⟩ ::
 ⟨(some 29), none, .p .mov, [.t 34]⟩ ::
 ⟨(some 35), none, .p (.ext 0), [.t 29]⟩ ::
 ⟨(some 36), none, .p (.ext 1), [.t 29]⟩ ::
 ⟨(some 9), none, .p .mov, [.t 35]⟩ ::
 ⟨(some 10), none, .p .mov, [.t 36]⟩ ::
 []))
(.seq (.seq (.ops (⟨(some 37), none, .p .mov, [.t 10]⟩ ::
 ⟨(some 38), none, .p (.bin .neq), [.t 37, .c (.int .i64 0)]⟩ ::
 []))
(.cond (.t 38)
(.seq (.ops (⟨(some 4), none, .p .mov, [.c (.int .i64 0)]⟩ ::
 ⟨(some 5), none, .p .mov, [.c (.int .i64 5)]⟩ ::
 []))
.ret)
.skip))
(.ops (⟨(some 39), none, .p .mov, [.t 9]⟩ ::
 ⟨(some 6), none, .p .mov, [.t 39]⟩ ::
 []))))))
(.ops (⟨(some 40), none, .p (.bin .add), [.t 25, .c (.int .i64 1)]⟩ ::
 ⟨(some 25), none, .p .mov, [.t 40]⟩ ::
 [])))))
def C84 : AFunc := ⟨42, [.tmp 4, .tmp 5],
(.seq (.ops (⟨(some 4), none, .p .mov, [.c (.int .i64 0)]⟩ ::
 ⟨(some 5), none, .p .mov, [.c (.int .i64 0)]⟩ ::
 []))
(.seq (.seq (.ops (⟨(some 11), none, .p .mov, [.t 0]⟩ ::
 ⟨(some 12), none, .call, [.c (.func (.func 108) [] []), .t 11]⟩ ::
 ⟨(some 13), none, .p .not, [.t 12]⟩ ::
 ⟨(some 14), none, .p .mov, [.t 13]⟩ ::
 ⟨(some 15), (some (14, false)), .p .mov, [.t 1]⟩ ::
 ⟨(some 16), (some (14, false)), .p (.bin .lss), [.t 15, .c (.int .i64 1)]⟩ ::
 ⟨(some 17), none, .p .pick, [.t 14, .c (.bool true), .t 16]⟩ ::
 ⟨(some 18), none, .p .mov, [.t 17]⟩ ::
 ⟨(some 19), (some (18, false)), .p .mov, [.t 1]⟩ ::
 ⟨(some 20), (some (18, false)), .p (.bin .gtr), [.t 19, .c (.int .i64 64)]⟩ ::
 ⟨(some 21), none, .p .pick, [.t 18, .c (.bool true), .t 20]⟩ ::
 []))
(.cond (.t 21)
(.seq (.ops (⟨(some 4), none, .p .mov, [.c (.int .i64 0)]⟩ ::
 ⟨(some 5), none, .p .mov, [.c (.int .i64 2)]⟩ ::
 []))
.ret)
.skip))
(.seq (.ops (⟨(some 22), none, .p .mov, [.t 1]⟩ ::
 ⟨(some 6), none, .p .mov, [.t 22]⟩ ::
 []))
(.seq (.seq (.ops (⟨(some 23), none, .p .mov, [.t 0]⟩ ::
 ⟨(some 24), none, .p .lenS, [.t 23]⟩ ::
 ⟨(some 25), none, .p .mov, [.c (.int .i64 0)]⟩ ::
 []))
(.block 0 (.loop L_demand_Hyper_0)))
(.seq (.ops (⟨(some 41), none, .p .mov, [.t 6]⟩ ::
 ⟨(some 4), none, .p .mov, [.t 41]⟩ ::
 ⟨(some 5), none, .p .mov, [.c (.int .i64 0)]⟩ ::
 []))
.ret)))))⟩
abbrev f_demand_Hyper : Nat := 84
abbrev C_demand_Hyper : AFunc := C84
def C85 : AFunc := ⟨30, [.tmp 6, .tmp 7],
(.seq (.ops (⟨(some 5), none, .a .box, [.t 2]⟩ ::
 ⟨(some 6), none, .p .mov, [.c (.int .i64 0)]⟩ ::
 ⟨(some 7), none, .p .mov, [.c (.int .i64 0)]⟩ ::
 []))
(.seq (.seq (.ops (⟨(some 9), none, .p .mov, [.t 0]⟩ ::
 ⟨(some 10), none, .p .mov, [.t 1]⟩ ::
 ⟨(some 11), none, .call, [.c (.func (.func 110) [] []), .t 9, .t 10]⟩ ::
 ⟨(some 8), none, .p .mov, [.t 11]⟩ ::
 []))
(.seq (.ops (⟨(some 12), none, .p .mov, [.t 8]⟩ ::
 ⟨(some 13), none, .p (.bin .neq), [.t 12, .c (.int .i64 0)]⟩ ::
 ⟨(some 14), none, .p .mov, [.t 13]⟩ ::
 ⟨(some 15), (some (14, false)), .r .load1, [.t 5]⟩ ::
 ⟨(some 16), (some (14, false)), .p (.bin .lss), [.t 15, .c (.int .i64 1)]⟩ ::
 ⟨(some 17), none, .p .pick, [.t 14, .c (.bool true), .t 16]⟩ ::
 ⟨(some 18), none, .p .mov, [.t 17]⟩ ::
 ⟨(some 19), (some (18, false)), .r .load1, [.t 5]⟩ ::
 ⟨(some 20), (some (18, false)), .p (.bin .gtr), [.t 19, .c (.int .i64 1048576)]⟩ ::
 ⟨(some 21), none, .p .pick, [.t 18, .c (.bool true), .t 20]⟩ ::
 []))
(.cond (.t 21)
(.seq (.ops (⟨(some 6), none, .p .mov, [.c (.int .i64 0)]⟩ ::
 ⟨(some 7), none, .p .mov, [.c (.int .i64 2)]⟩ ::
 []))
.ret)
.skip)))
(.seq (.seq (.ops (⟨(some 22), none, .p .mov, [.t 0]⟩ ::
 ⟨(some 23), none, .p (.mkfunc (.func 112) 0), [.t 5]⟩ ::
 ⟨(some 24), none, .call, [.c (.func (.func 111) [] []), .t 22, .t 23]⟩ ::
 []))
(.cond (.t 24)
(.seq (.ops (⟨(some 6), none, .p .mov, [.c (.int .i64 0)]⟩ ::
 ⟨(some 7), none, .p .mov, [.c (.int .i64 2)]⟩ ::
 []))
.ret)
.skip))
(.seq (.ops (⟨(some 25), none, .p .mov, [.t 0]⟩ ::
 ⟨(some 26), none, .p .mov, [.t 1]⟩ ::
 ⟨(some 27), none, .p (.mkfunc (.func 115) 0), [.t 5]⟩ ::
 ⟨(some 28), none, .call, [.c (.func (.func 114) [] []), .t 25, .t 26, .t 27]⟩ ::
 ⟨(some 29), none, .call, [.c (.func (.func 113) [] []), .t 28]⟩ ::
 ⟨(some 6), none, .p .mov, [.t 29]⟩ ::
 ⟨(some 7), none, .p .mov, [.c (.int .i64 0)]⟩ ::
 []))
.ret))))⟩
abbrev f_demand_Use : Nat := 85
abbrev C_demand_Use : AFunc := C85
def C86 : AFunc := ⟨6, [.tmp 4],
(.seq (.ops (⟨(some 2), none, .a .box, [.t 0]⟩ ::
 ⟨(some 3), none, .a .box, [.t 1]⟩ ::
 ⟨(some 4), none, .p .mov, [.c .nilf]⟩ ::
 []))
(.seq (.ops (⟨(some 5), none, .p (.mkfunc (.func 116) 0), [.t 3, .t 2]⟩ ::
 ⟨(some 4), none, .p .mov, [.t 5]⟩ ::
 []))
.ret))⟩
abbrev f_local_look_slacks : Nat := 86
abbrev C_local_look_slacks : AFunc := C86
def L_local_sum_0 : AC := (.seq (.ops (⟨(some 8), none, .p (.bin .lss), [.t 7, .t 6]⟩ ::
 []))
(.seq (.cond (.t 8)
.skip
(.exit 0))
(.seq (.block 1 (.seq (.ops (⟨(some 9), none, .p (.iaddrS 1), [.t 5, .t 7]⟩ ::
 ⟨(some 10), none, .r .load1, [.t 9]⟩ ::
 ⟨(some 4), none, .p .mov, [.t 10]⟩ ::
 []))
(.ops (⟨(some 11), none, .p .mov, [.t 2]⟩ ::
 ⟨(some 12), none, .p .mov, [.t 4]⟩ ::
 ⟨(some 13), none, .p (.bin .add), [.t 11, .t 12]⟩ ::
 ⟨(some 2), none, .p .mov, [.t 13]⟩ ::
 []))))
(.ops (⟨(some 14), none, .p (.bin .add), [.t 7, .c (.int .i64 1)]⟩ ::
 ⟨(some 7), none, .p .mov, [.t 14]⟩ ::
 [])))))
def C87 : AFunc := ⟨16, [.tmp 2],
(.seq (.ops (⟨(some 2), none, .p .mov, [.c (.int .i64 0)]⟩ ::
 []))
(.seq (.seq (.ops (⟨(some 5), none, .p .mov, [.t 0]⟩ ::
 ⟨(some 6), none, .p .lenS, [.t 5]⟩ ::
 ⟨(some 7), none, .p .mov, [.c (.int .i64 0)]⟩ ::
 []))
(.block 0 (.loop L_local_sum_0)))
(.seq (.ops (⟨(some 15), none, .p .mov, [.t 2]⟩ ::
 ⟨(some 2), none, .p .mov, [.t 15]⟩ ::
 []))
.ret)))⟩
abbrev f_local_sum : Nat := 87
abbrev C_local_sum : AFunc := C87
def C88 : AFunc := ⟨8, [.tmp 2],
(.seq (.ops (⟨(some 2), none, .p .mov, [.c .nils]⟩ ::
 []))
(.seq (.seq (.ops (⟨(some 3), none, .p .mov, [.t 0]⟩ ::
 ⟨(some 4), none, .p (.eq .nilsl), [.t 3, .c .nils]⟩ ::
 []))
(.cond (.t 4)
(.seq (.ops (⟨(some 2), none, .p .mov, [.c .nils]⟩ ::
 []))
.ret)
.skip))
(.seq (.ops (⟨(some 5), none, .a (.bslice [(.int .i64 0), (.int .i64 0), .nils] 0 3 []), []⟩ ::
 ⟨(some 6), none, .p .mov, [.t 0]⟩ ::
 ⟨(some 7), none, .e (.append 3 40), [.t 5, .t 6]⟩ ::
 ⟨(some 2), none, .p .mov, [.t 7]⟩ ::
 []))
.ret)))⟩
abbrev f_slices_Clone_api_Part_api_Part : Nat := 88
abbrev C_slices_Clone_api_Part_api_Part : AFunc := C88
def C89 : AFunc := ⟨8, [.tmp 2],
(.seq (.ops (⟨(some 2), none, .p .mov, [.c .nils]⟩ ::
 []))
(.seq (.seq (.ops (⟨(some 3), none, .p .mov, [.t 0]⟩ ::
 ⟨(some 4), none, .p (.eq .nilsl), [.t 3, .c .nils]⟩ ::
 []))
(.cond (.t 4)
(.seq (.ops (⟨(some 2), none, .p .mov, [.c .nils]⟩ ::
 []))
.ret)
.skip))
(.seq (.ops (⟨(some 5), none, .a (.bslice [(.int .i64 0), (.int .i64 0), (.int .i64 0), (.int .i64 0), (.int .i64 0), (.int .i64 0)] 0 6 []), []⟩ ::
 ⟨(some 6), none, .p .mov, [.t 0]⟩ ::
 ⟨(some 7), none, .e (.append 6 48), [.t 5, .t 6]⟩ ::
 ⟨(some 2), none, .p .mov, [.t 7]⟩ ::
 []))
.ret)))⟩
abbrev f_slices_Clone_api_Port_api_Port : Nat := 89
abbrev C_slices_Clone_api_Port_api_Port : AFunc := C89
def C90 : AFunc := ⟨8, [.tmp 2],
(.seq (.ops (⟨(some 2), none, .p .mov, [.c .nils]⟩ ::
 []))
(.seq (.seq (.ops (⟨(some 3), none, .p .mov, [.t 0]⟩ ::
 ⟨(some 4), none, .p (.eq .nilsl), [.t 3, .c .nils]⟩ ::
 []))
(.cond (.t 4)
(.seq (.ops (⟨(some 2), none, .p .mov, [.c .nils]⟩ ::
 []))
.ret)
.skip))
(.seq (.ops (⟨(some 5), none, .a (.bslice [(.int .i64 0), (.int .i64 0), (.int .i64 0), (.int .i64 0), (.int .i64 0), (.int .i64 0), (.int .i64 0), (.int .i64 0)] 0 8 []), []⟩ ::
 ⟨(some 6), none, .p .mov, [.t 0]⟩ ::
 ⟨(some 7), none, .e (.append 8 64), [.t 5, .t 6]⟩ ::
 ⟨(some 2), none, .p .mov, [.t 7]⟩ ::
 []))
.ret)))⟩
abbrev f_slices_Clone_api_Task_api_Task : Nat := 90
abbrev C_slices_Clone_api_Task_api_Task : AFunc := C90
def C91 : AFunc := ⟨9, [.tmp 4],
(.seq (.ops (⟨(some 4), none, .p .mov, [.c (.bool false)]⟩ ::
 []))
(.seq (.ops (⟨(some 5), none, .p .mov, [.t 0]⟩ ::
 ⟨(some 6), none, .p .mov, [.t 1]⟩ ::
 ⟨(some 7), none, .call, [.c (.func (.func 119) [] []), .t 5, .t 6]⟩ ::
 ⟨(some 8), none, .p (.bin .geq), [.t 7, .c (.int .i64 0)]⟩ ::
 ⟨(some 4), none, .p .mov, [.t 8]⟩ ::
 []))
.ret))⟩
abbrev f_slices_ContainsFunc_api_Part_api_Part : Nat := 91
abbrev C_slices_ContainsFunc_api_Part_api_Part : AFunc := C91
def C92 : AFunc := ⟨6, [.tmp 2],
(.seq (.ops (⟨(some 1), none, .a .box, [.t 0]⟩ ::
 ⟨(some 2), none, .p .mov, [.c (.bool false)]⟩ ::
 []))
(.seq (.ops (⟨(some 3), none, .r (.loadN 3), [.t 1]⟩ ::
 ⟨(some 4), none, .call, [.c (.func (.func 93) [] []), .t 3]⟩ ::
 ⟨(some 5), none, .p .not, [.t 4]⟩ ::
 ⟨(some 2), none, .p .mov, [.t 5]⟩ ::
 []))
.ret))⟩
abbrev f_conf_Check_1 : Nat := 92
abbrev C_conf_Check_1 : AFunc := C92
def C93 : AFunc := ⟨26, [.tmp 2],
(.seq (.ops (⟨(some 1), none, .a .box, [.t 0]⟩ ::
 ⟨(some 2), none, .p .mov, [.c (.bool false)]⟩ ::
 []))
(.seq (.seq (.ops (⟨(some 3), none, .p (.faddr 0), [.t 1]⟩ ::
 ⟨(some 4), none, .r .load1, [.t 3]⟩ ::
 ⟨(some 5), none, .call, [.c (.func (.func 97) [] []), .t 4, .c (.int .i64 1), .c (.int .i64 64)]⟩ ::
 ⟨(some 6), none, .p .not, [.t 5]⟩ ::
 ⟨(some 7), none, .p .mov, [.t 6]⟩ ::
 ⟨(some 8), (some (7, false)), .p (.faddr 1), [.t 1]⟩ ::
 ⟨(some 9), (some (7, false)), .r .load1, [.t 8]⟩ ::
 ⟨(some 10), (some (7, false)), .p (.faddr 0), [.t 1]⟩ ::
 ⟨(some 11), (some (7, false)), .r .load1, [.t 10]⟩ ::
 ⟨(some 12), (some (7, false)), .call, [.c (.func (.func 97) [] []), .t 9, .c (.int .i64 1), .t 11]⟩ ::
 ⟨(some 13), (some (7, false)), .p .not, [.t 12]⟩ ::
 ⟨(some 14), none, .p .pick, [.t 7, .c (.bool true), .t 13]⟩ ::
 ⟨(some 15), none, .p .mov, [.t 14]⟩ ::
 ⟨(some 16), (some (15, false)), .p (.faddr 2), [.t 1]⟩ ::
 ⟨(some 17), (some (15, false)), .r .load1, [.t 16]⟩ ::
 ⟨(some 18), (some (15, false)), .p .lenS, [.t 17]⟩ ::
 ⟨(some 19), (some (15, false)), .p (.bin .gtr), [.t 18, .c (.int .i64 4)]⟩ ::
 ⟨(some 20), none, .p .pick, [.t 15, .c (.bool true), .t 19]⟩ ::
 []))
(.cond (.t 20)
(.seq (.ops (⟨(some 2), none, .p .mov, [.c (.bool false)]⟩ ::
 []))
.ret)
.skip))
(.seq (.ops (⟨(some 21), none, .p (.faddr 2), [.t 1]⟩ ::
 ⟨(some 22), none, .r .load1, [.t 21]⟩ ::
 ⟨(some 23), none, .p (.mkfunc (.func 120) 0), [.t 1]⟩ ::
 ⟨(some 24), none, .call, [.c (.func (.func 111) [] []), .t 22, .t 23]⟩ ::
 ⟨(some 25), none, .p .not, [.t 24]⟩ ::
 ⟨(some 2), none, .p .mov, [.t 25]⟩ ::
 []))
.ret)))⟩
abbrev f_conf_partMay : Nat := 93
abbrev C_conf_partMay : AFunc := C93
def C94 : AFunc := ⟨9, [.tmp 4],
(.seq (.ops (⟨(some 4), none, .p .mov, [.c (.bool false)]⟩ ::
 []))
(.seq (.ops (⟨(some 5), none, .p .mov, [.t 0]⟩ ::
 ⟨(some 6), none, .p .mov, [.t 1]⟩ ::
 ⟨(some 7), none, .call, [.c (.func (.func 122) [] []), .t 5, .t 6]⟩ ::
 ⟨(some 8), none, .p (.bin .geq), [.t 7, .c (.int .i64 0)]⟩ ::
 ⟨(some 4), none, .p .mov, [.t 8]⟩ ::
 []))
.ret))⟩
abbrev f_slices_ContainsFunc_api_Port_api_Port : Nat := 94
abbrev C_slices_ContainsFunc_api_Port_api_Port : AFunc := C94
def C95 : AFunc := ⟨10, [.tmp 3],
(.seq (.ops (⟨(some 2), none, .a .box, [.t 0]⟩ ::
 ⟨(some 3), none, .p .mov, [.c (.bool false)]⟩ ::
 []))
(.seq (.ops (⟨(some 4), none, .r (.loadN 6), [.t 2]⟩ ::
 ⟨(some 5), none, .p (.faddr 0), [.t 1]⟩ ::
 ⟨(some 6), none, .r .load1, [.t 5]⟩ ::
 ⟨(some 7), none, .p .lenS, [.t 6]⟩ ::
 ⟨(some 8), none, .call, [.c (.func (.func 96) [] []), .t 4, .t 7]⟩ ::
 ⟨(some 9), none, .p .not, [.t 8]⟩ ::
 ⟨(some 3), none, .p .mov, [.t 9]⟩ ::
 []))
.ret))⟩
abbrev f_conf_Check_2 : Nat := 95
abbrev C_conf_Check_2 : AFunc := C95
def C96 : AFunc := ⟨55, [.tmp 4],
(.seq (.ops (⟨(some 2), none, .a .box, [.t 0]⟩ ::
 ⟨(some 4), none, .p .mov, [.c (.bool false)]⟩ ::
 []))
(.seq (.ops (⟨(some 5), none, .p .mov, [.c (.bool false)]⟩ ::
 []))
(.seq (.seq (.ops (⟨(some 6), none, .p (.faddr 0), [.t 2]⟩ ::
 ⟨(some 7), none, .r .load1, [.t 6]⟩ ::
 []))
(.block 0 (.seq (.ops (⟨(some 9), none, .p (.bin .eql), [.t 7, .c (.int .i64 1)]⟩ ::
 ⟨(some 8), none, .p .mov, [.t 9]⟩ ::
 []))
(.cond (.t 8)
(.ops (⟨(some 10), none, .p (.faddr 4), [.t 2]⟩ ::
 ⟨(some 11), none, .r .load1, [.t 10]⟩ ::
 ⟨(some 12), none, .p (.bin .eql), [.t 11, .c (.int .i64 0)]⟩ ::
 ⟨(some 13), none, .p .mov, [.t 12]⟩ ::
 ⟨(some 14), (some (13, true)), .p (.faddr 5), [.t 2]⟩ ::
 ⟨(some 15), (some (13, true)), .r .load1, [.t 14]⟩ ::
 ⟨(some 16), (some (13, true)), .call, [.c (.func (.func 97) [] []), .t 15, .c (.int .i64 1), .c (.int .i64 64)]⟩ ::
 ⟨(some 17), none, .p .pick, [.t 13, .t 16, .c (.bool false)]⟩ ::
 ⟨(some 5), none, .p .mov, [.t 17]⟩ ::
 []))
(.seq (.ops (⟨(some 19), none, .p (.bin .eql), [.t 7, .c (.int .i64 2)]⟩ ::
 ⟨(some 18), none, .p .mov, [.t 19]⟩ ::
 []))
(.cond (.t 18)
(.ops (⟨(some 20), none, .p (.faddr 5), [.t 2]⟩ ::
 ⟨(some 21), none, .r .load1, [.t 20]⟩ ::
 ⟨(some 22), none, .p (.bin .eql), [.t 21, .c (.int .i64 0)]⟩ ::
 ⟨(some 23), none, .p .mov, [.t 22]⟩ ::
 ⟨(some 24), (some (23, true)), .p (.faddr 4), [.t 2]⟩ ::
 ⟨(some 25), (some (23, true)), .r .load1, [.t 24]⟩ ::
 ⟨(some 26), (some (23, true)), .call, [.c (.func (.func 97) [] []), .t 25, .c (.int .i64 1), .c (.int .i64 4)]⟩ ::
 ⟨(some 27), none, .p .pick, [.t 23, .t 26, .c (.bool false)]⟩ ::
 ⟨(some 5), none, .p .mov, [.t 27]⟩ ::
 []))
.skip))))))
(.seq (.ops (⟨(some 28), none, .p .mov, [.t 5]⟩ ::
 ⟨(some 29), none, .p .mov, [.t 28]⟩ ::
 ⟨(some 30), (some (29, true)), .p (.faddr 1), [.t 2]⟩ ::
 ⟨(some 31), (some (29, true)), .r .load1, [.t 30]⟩ ::
 ⟨(some 32), (some (29, true)), .p .mov, [.t 1]⟩ ::
 ⟨(some 33), (some (29, true)), .p (.bin .sub), [.t 32, .c (.int .i64 1)]⟩ ::
 ⟨(some 34), (some (29, true)), .call, [.c (.func (.func 97) [] []), .t 31, .c (.int .i64 0), .t 33]⟩ ::
 ⟨(some 35), none, .p .pick, [.t 29, .t 34, .c (.bool false)]⟩ ::
 ⟨(some 36), none, .p .mov, [.t 35]⟩ ::
 ⟨(some 37), (some (36, true)), .p (.faddr 2), [.t 2]⟩ ::
 ⟨(some 38), (some (36, true)), .r .load1, [.t 37]⟩ ::
 ⟨(some 39), (some (36, true)), .p .mov, [.t 1]⟩ ::
 ⟨(some 40), (some (36, true)), .p (.bin .sub), [.t 39, .c (.int .i64 1)]⟩ ::
 ⟨(some 41), (some (36, true)), .call, [.c (.func (.func 97) [] []), .t 38, .c (.int .i64 0), .t 40]⟩ ::
 ⟨(some 42), none, .p .pick, [.t 36, .t 41, .c (.bool false)]⟩ ::
 ⟨(some 43), none, .p .mov, [.t 42]⟩ ::
 ⟨(some 44), (some (43, true)), .p (.faddr 1), [.t 2]⟩ ::
 ⟨(some 45), (some (43, true)), .r .load1, [.t 44]⟩ ::
 ⟨(some 46), (some (43, true)), .p (.faddr 2), [.t 2]⟩ ::
 ⟨(some 47), (some (43, true)), .r .load1, [.t 46]⟩ ::
 ⟨(some 48), (some (43, true)), .p (.bin .neq), [.t 45, .t 47]⟩ ::
 ⟨(some 49), none, .p .pick, [.t 43, .t 48, .c (.bool false)]⟩ ::
 ⟨(some 50), none, .p .mov, [.t 49]⟩ ::
 ⟨(some 51), (some (50, true)), .p (.faddr 3), [.t 2]⟩ ::
 ⟨(some 52), (some (50, true)), .r .load1, [.t 51]⟩ ::
 ⟨(some 53), (some (50, true)), .call, [.c (.func (.func 97) [] []), .t 52, .c (.int .i64 1), .c (.int .i64 16)]⟩ ::
 ⟨(some 54), none, .p .pick, [.t 50, .t 53, .c (.bool false)]⟩ ::
 ⟨(some 4), none, .p .mov, [.t 54]⟩ ::
 []))
.ret))))⟩
abbrev f_conf_portMay : Nat := 96
abbrev C_conf_portMay : AFunc := C96
def C97 : AFunc := ⟨15, [.tmp 6],
(.seq (.ops (⟨(some 6), none, .p .mov, [.c (.bool false)]⟩ ::
 []))
(.seq (.ops (⟨(some 7), none, .p .mov, [.t 1]⟩ ::
 ⟨(some 8), none, .p .mov, [.t 0]⟩ ::
 ⟨(some 9), none, .p (.bin .leq), [.t 7, .t 8]⟩ ::
 ⟨(some 10), none, .p .mov, [.t 9]⟩ ::
 ⟨(some 11), (some (10, true)), .p .mov, [.t 0]⟩ ::
 ⟨(some 12), (some (10, true)), .p .mov, [.t 2]⟩ ::
 ⟨(some 13), (some (10, true)), .p (.bin .leq), [.t 11, .t 12]⟩ ::
 ⟨(some 14), none, .p .pick, [.t 10, .t 13, .c (.bool false)]⟩ ::
 ⟨(some 6), none, .p .mov, [.t 14]⟩ ::
 []))
.ret))⟩
abbrev f_conf_within : Nat := 97
abbrev C_conf_within : AFunc := C97
def C106 : AFunc := ⟨40, [.cell 4 2 true],
(.seq (.ops (⟨(some 2), none, .a .box, [.t 0]⟩ ::
 ⟨(some 3), none, .a .box, [.t 1]⟩ ::
 ⟨(some 4), none, .a (.alloc [(.int .i64 0), (.int .i64 0)]), []⟩ ::
 []))
(.seq (.dops (⟨(some 10), none, .p (.faddr 0), [.t 2]⟩ ::
 ⟨(some 11), none, .r .load1, [.t 10]⟩ ::
 ⟨(some 12), none, .p (.faddr 1), [.t 3]⟩ ::
 ⟨(some 13), none, .r .load1, [.t 12]⟩ ::
 ⟨(some 14), none, .p (.bin .mul), [.t 11, .t 13]⟩ ::
 ⟨(some 15), none, .p (.faddr 0), [.t 3]⟩ ::
 ⟨(some 16), none, .r .load1, [.t 15]⟩ ::
 ⟨(some 17), none, .p (.faddr 1), [.t 2]⟩ ::
 ⟨(some 18), none, .r .load1, [.t 17]⟩ ::
 ⟨(some 19), none, .p (.bin .mul), [.t 16, .t 18]⟩ ::
 ⟨(some 20), none, .p (.bin .add), [.t 14, .t 19]⟩ ::
 ⟨(some 21), none, .p (.faddr 1), [.t 2]⟩ ::
 ⟨(some 22), none, .r .load1, [.t 21]⟩ ::
 ⟨(some 23), none, .p (.faddr 1), [.t 3]⟩ ::
 ⟨(some 24), none, .r .load1, [.t 23]⟩ ::
 ⟨(some 25), none, .p (.bin .mul), [.t 22, .t 24]⟩ ::
 ⟨(some 5), none, .p .mov, [.t 20]⟩ ::
 ⟨(some 6), none, .p .mov, [.t 25]⟩ ::
 []) ([] :: [] :: [] :: [] :: [] :: [] :: [] :: [] :: [] :: [] :: [] :: [] :: [] :: [] :: [] :: [] :: [] :: [] :: []))
(.seq (.ops (⟨(some 27), none, .p .mov, [.t 5]⟩ ::
 ⟨(some 28), none, .p .mov, [.t 6]⟩ ::
 ⟨(some 29), none, .call, [.c (.func (.func 133) [] []), .t 27, .t 28]⟩ ::
 ⟨(some 26), none, .p .mov, [.t 29]⟩ ::
 ⟨(some 30), none, .p (.ext 0), [.t 26]⟩ ::
 ⟨(some 31), none, .p (.ext 1), [.t 26]⟩ ::
 ⟨(some 7), none, .p .mov, [.t 30]⟩ ::
 ⟨(some 8), none, .p .mov, [.t 31]⟩ ::
 []))
(.seq (.ops (⟨(some 32), none, .p .mov, [.t 7]⟩ ::
 ⟨(some 9), none, .p .mov, [.t 32]⟩ ::
 []))
(.seq (.dops (⟨(some 33), none, .p .mov, [.t 5]⟩ ::
 ⟨(some 34), none, .p .mov, [.t 9]⟩ ::
 ⟨(some 35), none, .p (.bin .quo), [.t 33, .t 34]⟩ ::
 ⟨(some 36), none, .p .mov, [.t 6]⟩ ::
 ⟨(some 37), none, .p .mov, [.t 9]⟩ ::
 ⟨(some 38), none, .p (.bin .quo), [.t 36, .t 37]⟩ ::
 ⟨(some 39), none, .p (.build [(.int .i64 0), (.int .i64 0)] [(0, 1), (1, 1)]), [.t 35, .t 38]⟩ ::
 ⟨none, none, .e (.store 2), [.t 4, .t 39]⟩ ::
 []) ([] :: [] :: [] :: [] :: [] :: [] :: [] :: [] :: []))
.ret)))))⟩
abbrev f_share_fraction_int_plus : Nat := 106
abbrev C_share_fraction_int_plus : AFunc := C106
def L_delay_More_0 : AC := (.seq (.ops (⟨(some 30), none, .p (.bin .lss), [.t 29, .t 28]⟩ ::
 []))
(.seq (.cond (.t 30)
.skip
(.exit 0))
(.seq (.block 1 (.seq (.ops (⟨(some 31), none, .p .mov, [.t 29]⟩ ::
 ⟨(some 32), none, .p (.iaddrS 8), [.t 27, .t 29]⟩ ::
 ⟨(some 33), none, .r (.loadN 8), [.t 32]⟩ ::
 ⟨(some 10), none, .a (.alloc [(.int .i64 0), (.int .i64 0), (.int .i64 0), (.int .i64 0), (.int .i64 0), (.int .i64 0), (.int .i64 0), (.int .i64 0)]), []⟩ ::
 ⟨(some 9), none, .p .mov, [.t 31]⟩ ::
 ⟨none, none, .e (.store 8), [.t 10, .t 33]⟩ ::
 []))
(.dops (⟨(some 34), none, .p .mov, [.t 8]⟩ ::
 ⟨(some 35), none, .p .mov, [.t 9]⟩ ::
 ⟨(some 36), none, .p (.faddr 7), [.t 10]⟩ ::
 ⟨(some 37), none, .r .load1, [.t 36]⟩ ::
 ⟨(some 38), none, .r (.loadN 5), [.t 6]⟩ ::
 ⟨(some 39), none, .r (.loadN 8), [.t 10]⟩ ::
 ⟨(some 40), none, .call, [.c (.func (.func 135) [] []), .t 38, .t 39]⟩ ::
 ⟨(some 41), none, .p (.faddr 6), [.t 10]⟩ ::
 ⟨(some 42), none, .r .load1, [.t 41]⟩ ::
 ⟨(some 43), none, .p (.bin .add), [.t 40, .t 42]⟩ ::
 ⟨(some 44), none, .p (.bin .sub), [.t 43, .c (.int .i64 1)]⟩ ::
 ⟨(some 45), none, .p (.bin .mul), [.t 37, .t 44]⟩ ::
 ⟨(some 46), none, .p (.iaddrS 1), [.t 34, .t 35]⟩ ::
 ⟨none, none, .e (.store 1), [.t 46, .t 45]⟩ ::
 []) ([] :: [] :: [] :: [0, 7] :: [] :: [] :: [] :: [] :: [0, 7] :: [] :: [] :: [] :: [] :: [] :: []))))
(.ops (⟨(some 47), none, .p (.bin .add), [.t 29, .c (.int .i64 1)]⟩ ::
 ⟨(some 29), none, .p .mov, [.t 47]⟩ ::
 [])))))
def C107 : AFunc := ⟨49, [.tmp 4, .tmp 5],
(.seq (.ops (⟨(some 4), none, .p .mov, [.c .nils]⟩ ::
 ⟨(some 5), none, .p .mov, [.c (.int .i64 0)]⟩ ::
 []))
(.seq (.ops (⟨(some 12), none, .p .mov, [.t 0]⟩ ::
 ⟨(some 13), none, .p .mov, [.t 1]⟩ ::
 ⟨(some 14), none, .call, [.c (.func (.func 134) [] []), .t 12, .t 13]⟩ ::
 ⟨(some 11), none, .p .mov, [.t 14]⟩ ::
 ⟨(some 15), none, .p (.ext 0), [.t 11]⟩ ::
 ⟨(some 16), none, .p (.ext 1), [.t 11]⟩ ::
 ⟨(some 6), none, .a (.alloc [(.int .i64 0), (.int .i64 0), .nils, .nils, (.int .i64 0)]), []⟩ ::
 ⟨none, none, .e (.store 5), [.t 6, .t 15]⟩ ::
 ⟨(some 7), none, .p .mov, [.t 16]⟩ ::
 []))
(.seq (.seq (.ops (⟨(some 17), none, .p .mov, [.t 7]⟩ ::
 ⟨(some 18), none, .p (.bin .neq), [.t 17, .c (.int .i64 0)]⟩ ::
 []))
(.cond (.t 18)
(.seq (.ops (⟨(some 19), none, .p .mov, [.t 7]⟩ ::
 ⟨(some 4), none, .p .mov, [.c .nils]⟩ ::
 ⟨(some 5), none, .p .mov, [.t 19]⟩ ::
 []))
.ret)
.skip))
(.seq (.ops (⟨(some 20), none, .p (.faddr 0), [.t 6]⟩ ::
 ⟨(some 21), none, .p (.faddr 2), [.t 20]⟩ ::
 ⟨(some 22), none, .r .load1, [.t 21]⟩ ::
 ⟨(some 23), none, .p .lenS, [.t 22]⟩ ::
 ⟨(some 24), none, .a (.mkslice [(.int .i64 0)] 1 8), [.t 23, .t 23]⟩ ::
 ⟨(some 8), none, .p .mov, [.t 24]⟩ ::
 []))
(.seq (.seq (.ops (⟨(some 25), none, .p (.faddr 0), [.t 6]⟩ ::
 ⟨(some 26), none, .p (.faddr 2), [.t 25]⟩ ::
 ⟨(some 27), none, .r .load1, [.t 26]⟩ ::
 ⟨(some 28), none, .p .lenS, [.t 27]⟩ ::
 ⟨(some 29), none, .p .mov, [.c (.int .i64 0)]⟩ ::
 []))
(.block 0 (.loop L_delay_More_0)))
(.seq (.ops (⟨(some 48), none, .p .mov, [.t 8]⟩ ::
 ⟨(some 4), none, .p .mov, [.t 48]⟩ ::
 ⟨(some 5), none, .p .mov, [.c (.int .i64 0)]⟩ ::
 []))
.ret))))))⟩
abbrev f_delay_More : Nat := 107
abbrev C_delay_More : AFunc := C107
def C108 : AFunc := ⟨11, [.tmp 2],
(.seq (.ops (⟨(some 2), none, .p .mov, [.c (.bool false)]⟩ ::
 []))
(.seq (.ops (⟨(some 3), none, .p .mov, [.t 0]⟩ ::
 ⟨(some 4), none, .p .lenS, [.t 3]⟩ ::
 ⟨(some 5), none, .p (.bin .leq), [.t 4, .c (.int .i64 4)]⟩ ::
 ⟨(some 6), none, .p .mov, [.t 5]⟩ ::
 ⟨(some 7), (some (6, true)), .p .mov, [.t 0]⟩ ::
 ⟨(some 8), (some (6, true)), .call, [.c (.func (.func 111) [] []), .t 7, .c (.func (.func 136) [] [])]⟩ ::
 ⟨(some 9), (some (6, true)), .p .not, [.t 8]⟩ ::
 ⟨(some 10), none, .p .pick, [.t 6, .t 9, .c (.bool false)]⟩ ::
 ⟨(some 2), none, .p .mov, [.t 10]⟩ ::
 []))
.ret))⟩
abbrev f_demand_all : Nat := 108
abbrev C_demand_all : AFunc := C108
def C109 : AFunc := ⟨53, [.tmp 4, .tmp 5],
(.seq (.ops (⟨(some 4), none, .p .mov, [.c (.int .i64 0)]⟩ ::
 ⟨(some 5), none, .p .mov, [.c (.int .i64 0)]⟩ ::
 []))
(.seq (.seq (.ops (⟨(some 7), none, .p .mov, [.t 0]⟩ ::
 ⟨(some 8), none, .a (.bslice [(.int .i64 0)] 1 1 [0]), [.t 7]⟩ ::
 ⟨(some 9), none, .call, [.c (.func (.func 138) [] []), .t 8]⟩ ::
 ⟨(some 10), none, .p .not, [.t 9]⟩ ::
 ⟨(some 11), none, .p .mov, [.t 10]⟩ ::
 ⟨(some 12), (some (11, false)), .p .mov, [.t 1]⟩ ::
 ⟨(some 13), (some (11, false)), .call, [.c (.func (.func 138) [] []), .t 12]⟩ ::
 ⟨(some 14), (some (11, false)), .p .not, [.t 13]⟩ ::
 ⟨(some 15), none, .p .pick, [.t 11, .c (.bool true), .t 14]⟩ ::
 ⟨(some 16), none, .p .mov, [.t 15]⟩ ::
 ⟨(some 17), (some (16, false)), .p .mov, [.t 1]⟩ ::
 ⟨(some 18), (some (16, false)), .call, [.c (.func (.func 139) [] []), .t 17, .c (.int .i64 0)]⟩ ::
 ⟨(some 19), none, .p .pick, [.t 16, .c (.bool true), .t 18]⟩ ::
 []))
(.cond (.t 19)
(.seq (.ops (⟨(some 4), none, .p .mov, [.c (.int .i64 0)]⟩ ::
 ⟨(some 5), none, .p .mov, [.c (.int .i64 2)]⟩ ::
 []))
.ret)
.skip))
(.seq (.ops (⟨(some 20), none, .p (.build [(.int .i64 0), (.int .i64 0)] [(0, 1)]), [.c (.int .i64 1)]⟩ ::
 ⟨(some 21), none, .a .box, [.t 20]⟩ ::
 ⟨(some 6), none, .p .mov, [.t 21]⟩ ::
 []))
(.seq (.ops (⟨(some 22), none, .p .mov, [.t 6]⟩ ::
 ⟨(some 23), none, .p (.mkfunc (.func 141) 1), [.t 22]⟩ ::
 ⟨(some 24), none, .p .mov, [.t 1]⟩ ::
 ⟨(some 25), none, .call, [.c (.func (.func 140) [] []), .t 23, .t 24]⟩ ::
 []))
(.seq (.seq (.ops (⟨(some 26), none, .p .mov, [.t 6]⟩ ::
 ⟨(some 27), none, .p .nilchk, [.t 26]⟩ ::
 ⟨(some 28), none, .p (.faddr 1), [.t 27]⟩ ::
 ⟨(some 29), none, .r .load1, [.t 28]⟩ ::
 ⟨(some 30), none, .p (.bin .eql), [.t 29, .c (.int .i64 0)]⟩ ::
 ⟨(some 31), none, .p .mov, [.t 30]⟩ ::
 ⟨(some 32), (some (31, true)), .p .mov, [.t 6]⟩ ::
 ⟨(some 33), (some (31, true)), .p .nilchk, [.t 32]⟩ ::
 ⟨(some 34), (some (31, true)), .p (.faddr 0), [.t 33]⟩ ::
 ⟨(some 35), (some (31, true)), .r .load1, [.t 34]⟩ ::
 ⟨(some 36), (some (31, true)), .p .mov, [.t 0]⟩ ::
 ⟨(some 37), (some (31, true)), .p (.bin .gtr), [.t 35, .t 36]⟩ ::
 ⟨(some 38), none, .p .pick, [.t 31, .t 37, .c (.bool false)]⟩ ::
 []))
(.cond (.t 38)
(.ops (⟨(some 39), none, .p .mov, [.t 6]⟩ ::
 ⟨(some 40), none, .p .nilchk, [.t 39]⟩ ::
 ⟨(some 41), none, .p (.faddr 1), [.t 40]⟩ ::
 ⟨none, none, .e (.store 1), [.t 41, .c (.int .i64 10)]⟩ ::
 []))
.skip))
(.seq (.dops (⟨(some 42), none, .p .mov, [.t 6]⟩ ::
 ⟨(some 43), none, .p .nilchk, [.t 42]⟩ ::
 ⟨(some 44), none, .p (.faddr 0), [.t 43]⟩ ::
 ⟨(some 45), none, .r .load1, [.t 44]⟩ ::
 ⟨(some 46), none, .p .mov, [.t 6]⟩ ::
 ⟨(some 47), none, .p .nilchk, [.t 46]⟩ ::
 ⟨(some 48), none, .p (.faddr 1), [.t 47]⟩ ::
 ⟨(some 49), none, .r .load1, [.t 48]⟩ ::
 ⟨(some 50), none, .call, [.c (.func (.func 142) [] []), .t 45, .t 49]⟩ ::
 ⟨(some 51), none, .p (.ext 0), [.t 50]⟩ ::
 ⟨(some 52), none, .p (.ext 1), [.t 50]⟩ ::
 ⟨(some 4), none, .p .mov, [.t 51]⟩ ::
 ⟨(some 5), none, .p .mov, [.t 52]⟩ ::
 []) ([] :: [] :: [] :: [] :: [] :: [] :: [] :: [] :: [] :: [] :: [] :: [] :: [] :: []))
.ret))))))⟩
abbrev f_ticks_Lcm : Nat := 109
abbrev C_ticks_Lcm : AFunc := C109
def C110 : AFunc := ⟨21, [.tmp 4],
(.seq (.ops (⟨(some 4), none, .p .mov, [.c (.int .i64 0)]⟩ ::
 []))
(.seq (.ops (⟨(some 6), none, .p .mov, [.t 1]⟩ ::
 ⟨(some 7), none, .call, [.c (.func (.func 143) [] []), .t 6, .c (.func (.func 144) [] [])]⟩ ::
 ⟨(some 5), none, .p .mov, [.t 7]⟩ ::
 []))
(.seq (.seq (.ops (⟨(some 8), none, .p .mov, [.t 5]⟩ ::
 ⟨(some 9), none, .p .mov, [.t 8]⟩ ::
 ⟨(some 10), (some (9, false)), .p .mov, [.t 0]⟩ ::
 ⟨(some 11), (some (9, false)), .call, [.c (.func (.func 108) [] []), .t 10]⟩ ::
 ⟨(some 12), (some (9, false)), .p .not, [.t 11]⟩ ::
 ⟨(some 13), none, .p .pick, [.t 9, .c (.bool true), .t 12]⟩ ::
 ⟨(some 14), none, .p .mov, [.t 13]⟩ ::
 ⟨(some 15), (some (14, false)), .p .mov, [.t 1]⟩ ::
 ⟨(some 16), (some (14, false)), .p .lenS, [.t 15]⟩ ::
 ⟨(some 17), (some (14, false)), .p .mov, [.t 0]⟩ ::
 ⟨(some 18), (some (14, false)), .p .lenS, [.t 17]⟩ ::
 ⟨(some 19), (some (14, false)), .p (.bin .neq), [.t 16, .t 18]⟩ ::
 ⟨(some 20), none, .p .pick, [.t 14, .c (.bool true), .t 19]⟩ ::
 []))
(.cond (.t 20)
(.seq (.ops (⟨(some 4), none, .p .mov, [.c (.int .i64 2)]⟩ ::
 []))
.ret)
.skip))
(.seq (.ops (⟨(some 4), none, .p .mov, [.c (.int .i64 0)]⟩ ::
 []))
.ret))))⟩
abbrev f_demand_Check : Nat := 110
abbrev C_demand_Check : AFunc := C110
def C111 : AFunc := ⟨9, [.tmp 4],
(.seq (.ops (⟨(some 4), none, .p .mov, [.c (.bool false)]⟩ ::
 []))
(.seq (.ops (⟨(some 5), none, .p .mov, [.t 0]⟩ ::
 ⟨(some 6), none, .p .mov, [.t 1]⟩ ::
 ⟨(some 7), none, .call, [.c (.func (.func 145) [] []), .t 5, .t 6]⟩ ::
 ⟨(some 8), none, .p (.bin .geq), [.t 7, .c (.int .i64 0)]⟩ ::
 ⟨(some 4), none, .p .mov, [.t 8]⟩ ::
 []))
.ret))⟩
abbrev f_slices_ContainsFunc_api_Task_api_Task : Nat := 111
abbrev C_slices_ContainsFunc_api_Task_api_Task : AFunc := C111
def C112 : AFunc := ⟨9, [.tmp 3],
(.seq (.ops (⟨(some 2), none, .a .box, [.t 0]⟩ ::
 ⟨(some 3), none, .p .mov, [.c (.bool false)]⟩ ::
 []))
(.seq (.ops (⟨(some 4), none, .r .load1, [.t 1]⟩ ::
 ⟨(some 5), none, .p (.faddr 0), [.t 2]⟩ ::
 ⟨(some 6), none, .r .load1, [.t 5]⟩ ::
 ⟨(some 7), none, .p (.bin .rem), [.t 4, .t 6]⟩ ::
 ⟨(some 8), none, .p (.bin .neq), [.t 7, .c (.int .i64 0)]⟩ ::
 ⟨(some 3), none, .p .mov, [.t 8]⟩ ::
 []))
.ret))⟩
abbrev f_demand_Use_1 : Nat := 112
abbrev C_demand_Use_1 : AFunc := C112
def L_demand_sum_0 : AC := (.seq (.ops (⟨(some 8), none, .p (.bin .lss), [.t 7, .t 6]⟩ ::
 []))
(.seq (.cond (.t 8)
.skip
(.exit 0))
(.seq (.block 1 (.seq (.ops (⟨(some 9), none, .p (.iaddrS 1), [.t 5, .t 7]⟩ ::
 ⟨(some 10), none, .r .load1, [.t 9]⟩ ::
 ⟨(some 4), none, .p .mov, [.t 10]⟩ ::
 []))
(.ops (⟨(some 11), none, .p .mov, [.t 2]⟩ ::
 ⟨(some 12), none, .p .mov, [.t 4]⟩ ::
 ⟨(some 13), none, .p (.bin .add), [.t 11, .t 12]⟩ ::
 ⟨(some 2), none, .p .mov, [.t 13]⟩ ::
 []))))
(.ops (⟨(some 14), none, .p (.bin .add), [.t 7, .c (.int .i64 1)]⟩ ::
 ⟨(some 7), none, .p .mov, [.t 14]⟩ ::
 [])))))
def C113 : AFunc := ⟨16, [.tmp 2],
(.seq (.ops (⟨(some 2), none, .p .mov, [.c (.int .i64 0)]⟩ ::
 []))
(.seq (.seq (.ops (⟨(some 5), none, .p .mov, [.t 0]⟩ ::
 ⟨(some 6), none, .p .lenS, [.t 5]⟩ ::
 ⟨(some 7), none, .p .mov, [.c (.int .i64 0)]⟩ ::
 []))
(.block 0 (.loop L_demand_sum_0)))
(.seq (.ops (⟨(some 15), none, .p .mov, [.t 2]⟩ ::
 ⟨(some 2), none, .p .mov, [.t 15]⟩ ::
 []))
.ret)))⟩
abbrev f_demand_sum : Nat := 113
abbrev C_demand_sum : AFunc := C113
def L_demand_each_0 : AC := (.seq (.ops (⟨(some 16), none, .p (.bin .lss), [.t 15, .t 14]⟩ ::
 []))
(.seq (.cond (.t 16)
.skip
(.exit 0))
(.seq (.block 1 (.seq (.ops (⟨(some 17), none, .p .mov, [.t 15]⟩ ::
 ⟨(some 18), none, .p (.iaddrS 8), [.t 13, .t 15]⟩ ::
 ⟨(some 19), none, .r (.loadN 8), [.t 18]⟩ ::
 ⟨(some 9), none, .a (.alloc [(.int .i64 0), (.int .i64 0), (.int .i64 0), (.int .i64 0), (.int .i64 0), (.int .i64 0), (.int .i64 0), (.int .i64 0)]), []⟩ ::
 ⟨(some 8), none, .p .mov, [.t 17]⟩ ::
 ⟨none, none, .e (.store 8), [.t 9, .t 19]⟩ ::
 []))
(.dops (⟨(some 20), none, .p .mov, [.t 7]⟩ ::
 ⟨(some 21), none, .p .mov, [.t 8]⟩ ::
 ⟨(some 22), none, .p .mov, [.t 2]⟩ ::
 ⟨(some 23), none, .r (.loadN 8), [.t 9]⟩ ::
 ⟨(some 24), none, .call, [.t 22, .t 23]⟩ ::
 ⟨(some 25), none, .p (.faddr 2), [.t 9]⟩ ::
 ⟨(some 26), none, .r .load1, [.t 25]⟩ ::
 ⟨(some 27), none, .p .mov, [.t 1]⟩ ::
 ⟨(some 28), none, .p .mov, [.t 8]⟩ ::
 ⟨(some 29), none, .p (.iaddrS 1), [.t 27, .t 28]⟩ ::
 ⟨(some 30), none, .r .load1, [.t 29]⟩ ::
 ⟨(some 31), none, .p (.bin .add), [.t 26, .t 30]⟩ ::
 ⟨(some 32), none, .p (.bin .mul), [.t 24, .t 31]⟩ ::
 ⟨(some 33), none, .p (.iaddrS 1), [.t 20, .t 21]⟩ ::
 ⟨none, none, .e (.store 1), [.t 33, .t 32]⟩ ::
 []) ([] :: [] :: [] :: [] :: [] :: [] :: [0, 5] :: [] :: [] :: [] :: [0, 5] :: [] :: [] :: [] :: [] :: []))))
(.ops (⟨(some 34), none, .p (.bin .add), [.t 15, .c (.int .i64 1)]⟩ ::
 ⟨(some 15), none, .p .mov, [.t 34]⟩ ::
 [])))))
def C114 : AFunc := ⟨36, [.tmp 6],
(.seq (.ops (⟨(some 6), none, .p .mov, [.c .nils]⟩ ::
 []))
(.seq (.ops (⟨(some 10), none, .p .mov, [.t 0]⟩ ::
 ⟨(some 11), none, .p .lenS, [.t 10]⟩ ::
 ⟨(some 12), none, .a (.mkslice [(.int .i64 0)] 1 8), [.t 11, .t 11]⟩ ::
 ⟨(some 7), none, .p .mov, [.t 12]⟩ ::
 []))
(.seq (.seq (.ops (⟨(some 13), none, .p .mov, [.t 0]⟩ ::
 ⟨(some 14), none, .p .lenS, [.t 13]⟩ ::
 ⟨(some 15), none, .p .mov, [.c (.int .i64 0)]⟩ ::
 []))
(.block 0 (.loop L_demand_each_0)))
(.seq (.ops (⟨(some 35), none, .p .mov, [.t 7]⟩ ::
 ⟨(some 6), none, .p .mov, [.t 35]⟩ ::
 []))
.ret))))⟩
abbrev f_demand_each : Nat := 114
abbrev C_demand_each : AFunc := C114
def C115 : AFunc := ⟨8, [.tmp 3],
(.seq (.ops (⟨(some 2), none, .a .box, [.t 0]⟩ ::
 ⟨(some 3), none, .p .mov, [.c (.int .i64 0)]⟩ ::
 []))
(.seq (.ops (⟨(some 4), none, .r .load1, [.t 1]⟩ ::
 ⟨(some 5), none, .p (.faddr 0), [.t 2]⟩ ::
 ⟨(some 6), none, .r .load1, [.t 5]⟩ ::
 ⟨(some 7), none, .p (.bin .quo), [.t 4, .t 6]⟩ ::
 ⟨(some 3), none, .p .mov, [.t 7]⟩ ::
 []))
.ret))⟩
abbrev f_demand_Use_2 : Nat := 115
abbrev C_demand_Use_2 : AFunc := C115
def L_local_look_slacks_1_0 : AC := (.seq (.seq (.ops (⟨(some 5), none, .p .mov, [.t 4]⟩ ::
 ⟨(some 6), none, .r .load1, [.t 1]⟩ ::
 ⟨(some 7), none, .p (.bin .leq), [.t 5, .t 6]⟩ ::
 []))
(.cond (.t 7)
.skip
(.exit 0)))
(.seq (.block 1 (.seq (.ops (⟨(some 10), none, .r (.loadN 6), [.t 2]⟩ ::
 ⟨(some 11), none, .p .mov, [.t 4]⟩ ::
 ⟨(some 12), none, .call, [.c (.func (.func 117) [] []), .t 10, .t 11]⟩ ::
 ⟨(some 13), none, .p (.bin .gtr), [.t 12, .c (.int .i64 0)]⟩ ::
 ⟨(some 14), none, .p .mov, [.t 13]⟩ ::
 ⟨(some 15), (some (14, true)), .p .mov, [.t 0]⟩ ::
 ⟨(some 16), (some (14, true)), .p .mov, [.t 4]⟩ ::
 ⟨(some 17), (some (14, true)), .r (.loadN 6), [.t 2]⟩ ::
 ⟨(some 18), (some (14, true)), .p .mov, [.t 4]⟩ ::
 ⟨(some 19), (some (14, true)), .call, [.c (.func (.func 118) [] []), .t 17, .t 18]⟩ ::
 ⟨(some 20), (some (14, true)), .call, [.t 15, .t 16, .t 19]⟩ ::
 ⟨(some 21), (some (14, true)), .p .not, [.t 20]⟩ ::
 ⟨(some 22), none, .p .pick, [.t 14, .t 21, .c (.bool false)]⟩ ::
 []))
(.cond (.t 22)
.ret
.skip)))
(.ops (⟨(some 8), none, .p .mov, [.t 4]⟩ ::
 ⟨(some 9), none, .p (.bin .add), [.t 8, .c (.int .i64 1)]⟩ ::
 ⟨(some 4), none, .p .mov, [.t 9]⟩ ::
 []))))
def C116 : AFunc := ⟨23, [],
(.seq (.ops (⟨(some 4), none, .p .mov, [.c (.int .i64 1)]⟩ ::
 []))
(.block 0 (.loop L_local_look_slacks_1_0)))⟩
abbrev f_local_look_slacks_1 : Nat := 116
abbrev C_local_look_slacks_1 : AFunc := C116
def C117 : AFunc := ⟨18, [.tmp 4],
(.seq (.ops (⟨(some 2), none, .a .box, [.t 0]⟩ ::
 ⟨(some 4), none, .p .mov, [.c (.int .i64 0)]⟩ ::
 []))
(.seq (.ops (⟨(some 8), none, .p (.faddr 0), [.t 2]⟩ ::
 ⟨(some 9), none, .p (.faddr 2), [.t 8]⟩ ::
 ⟨(some 10), none, .r .load1, [.t 9]⟩ ::
 ⟨(some 11), none, .p (.faddr 5), [.t 2]⟩ ::
 ⟨(some 12), none, .r .load1, [.t 11]⟩ ::
 ⟨(some 13), none, .p .mov, [.t 1]⟩ ::
 ⟨(some 14), none, .call, [.c (.func (.func 146) [] []), .t 10, .t 12, .t 13]⟩ ::
 ⟨(some 7), none, .p .mov, [.t 14]⟩ ::
 ⟨(some 15), none, .p (.ext 0), [.t 7]⟩ ::
 ⟨(some 16), none, .p (.ext 1), [.t 7]⟩ ::
 ⟨(some 5), none, .p .mov, [.t 15]⟩ ::
 ⟨(some 6), none, .p .mov, [.t 16]⟩ ::
 []))
(.seq (.ops (⟨(some 17), none, .p .mov, [.t 5]⟩ ::
 ⟨(some 4), none, .p .mov, [.t 17]⟩ ::
 []))
.ret)))⟩
abbrev f_local_look_asks : Nat := 117
abbrev C_local_look_asks : AFunc := C117
def C118 : AFunc := ⟨38, [.tmp 4],
(.seq (.ops (⟨(some 2), none, .a .box, [.t 0]⟩ ::
 ⟨(some 4), none, .p .mov, [.c (.int .i64 0)]⟩ ::
 []))
(.seq (.ops (⟨(some 10), none, .p (.faddr 0), [.t 2]⟩ ::
 ⟨(some 11), none, .p (.faddr 0), [.t 10]⟩ ::
 ⟨(some 12), none, .r .load1, [.t 11]⟩ ::
 ⟨(some 13), none, .p (.faddr 0), [.t 2]⟩ ::
 ⟨(some 14), none, .p (.faddr 1), [.t 13]⟩ ::
 ⟨(some 15), none, .r .load1, [.t 14]⟩ ::
 ⟨(some 16), none, .p .mov, [.t 1]⟩ ::
 ⟨(some 17), none, .call, [.c (.func (.func 147) [] []), .t 12, .t 15, .t 16]⟩ ::
 ⟨(some 9), none, .p .mov, [.t 17]⟩ ::
 ⟨(some 18), none, .p (.ext 0), [.t 9]⟩ ::
 ⟨(some 19), none, .p (.ext 1), [.t 9]⟩ ::
 ⟨(some 5), none, .p .mov, [.t 18]⟩ ::
 ⟨(some 6), none, .p .mov, [.t 19]⟩ ::
 []))
(.seq (.ops (⟨(some 21), none, .p (.faddr 3), [.t 2]⟩ ::
 ⟨(some 22), none, .r .load1, [.t 21]⟩ ::
 ⟨(some 23), none, .p (.faddr 4), [.t 2]⟩ ::
 ⟨(some 24), none, .r .load1, [.t 23]⟩ ::
 ⟨(some 25), none, .p .mov, [.t 1]⟩ ::
 ⟨(some 26), none, .call, [.c (.func (.func 148) [] []), .t 22, .t 24, .t 25]⟩ ::
 ⟨(some 20), none, .p .mov, [.t 26]⟩ ::
 ⟨(some 27), none, .p (.ext 0), [.t 20]⟩ ::
 ⟨(some 28), none, .p (.ext 1), [.t 20]⟩ ::
 ⟨(some 7), none, .p .mov, [.t 27]⟩ ::
 ⟨(some 8), none, .p .mov, [.t 28]⟩ ::
 []))
(.seq (.ops (⟨(some 29), none, .p .mov, [.t 5]⟩ ::
 ⟨(some 30), none, .r (.loadN 6), [.t 2]⟩ ::
 ⟨(some 31), none, .p .mov, [.t 1]⟩ ::
 ⟨(some 32), none, .call, [.c (.func (.func 117) [] []), .t 30, .t 31]⟩ ::
 ⟨(some 33), none, .p .neg, [.t 32]⟩ ::
 ⟨(some 34), none, .p .mov, [.t 7]⟩ ::
 ⟨(some 35), none, .p .neg, [.t 34]⟩ ::
 ⟨(some 36), none, .a (.bslice [(.int .i64 0)] 3 1 [0, 1, 2]), [.t 29, .t 33, .t 35]⟩ ::
 ⟨(some 37), none, .call, [.c (.func (.func 87) [] []), .t 36]⟩ ::
 ⟨(some 4), none, .p .mov, [.t 37]⟩ ::
 []))
.ret))))⟩
abbrev f_local_look_slack : Nat := 118
abbrev C_local_look_slack : AFunc := C118
def L_slices_IndexFunc_api_Part_api_Part_0 : AC := (.seq (.ops (⟨(some 9), none, .p (.bin .lss), [.t 8, .t 7]⟩ ::
 []))
(.seq (.cond (.t 9)
.skip
(.exit 0))
(.seq (.block 1 (.seq (.ops (⟨(some 10), none, .p .mov, [.t 8]⟩ ::
 ⟨(some 5), none, .p .mov, [.t 10]⟩ ::
 []))
(.seq (.ops (⟨(some 11), none, .p .mov, [.t 1]⟩ ::
 ⟨(some 12), none, .p .mov, [.t 0]⟩ ::
 ⟨(some 13), none, .p .mov, [.t 5]⟩ ::
 ⟨(some 14), none, .p (.iaddrS 3), [.t 12, .t 13]⟩ ::
 ⟨(some 15), none, .r (.loadN 3), [.t 14]⟩ ::
 ⟨(some 16), none, .call, [.t 11, .t 15]⟩ ::
 []))
(.cond (.t 16)
(.seq (.ops (⟨(some 17), none, .p .mov, [.t 5]⟩ ::
 ⟨(some 4), none, .p .mov, [.t 17]⟩ ::
 []))
.ret)
.skip))))
(.ops (⟨(some 18), none, .p (.bin .add), [.t 8, .c (.int .i64 1)]⟩ ::
 ⟨(some 8), none, .p .mov, [.t 18]⟩ ::
 [])))))
def C119 : AFunc := ⟨19, [.tmp 4],
(.seq (.ops (⟨(some 4), none, .p .mov, [.c (.int .i64 0)]⟩ ::
 []))
(.seq (.seq (.ops (⟨(some 6), none, .p .mov, [.t 0]⟩ ::
 ⟨(some 7), none, .p .lenS, [.t 6]⟩ ::
 ⟨(some 8), none, .p .mov, [.c (.int .i64 0)]⟩ ::
 []))
(.block 0 (.loop L_slices_IndexFunc_api_Part_api_Part_0)))
(.seq (.ops (⟨(some 4), none, .p .mov, [.c (.int .i64 (-1))]⟩ ::
 []))
.ret)))⟩
abbrev f_slices_IndexFunc_api_Part_api_Part : Nat := 119
abbrev C_slices_IndexFunc_api_Part_api_Part : AFunc := C119
def C120 : AFunc := ⟨9, [.tmp 3],
(.seq (.ops (⟨(some 2), none, .a .box, [.t 0]⟩ ::
 ⟨(some 3), none, .p .mov, [.c (.bool false)]⟩ ::
 []))
(.seq (.ops (⟨(some 4), none, .r (.loadN 8), [.t 2]⟩ ::
 ⟨(some 5), none, .p (.faddr 1), [.t 1]⟩ ::
 ⟨(some 6), none, .r .load1, [.t 5]⟩ ::
 ⟨(some 7), none, .call, [.c (.func (.func 121) [] []), .t 4, .t 6]⟩ ::
 ⟨(some 8), none, .p .not, [.t 7]⟩ ::
 ⟨(some 3), none, .p .mov, [.t 8]⟩ ::
 []))
.ret))⟩
abbrev f_conf_partMay_1 : Nat := 120
abbrev C_conf_partMay_1 : AFunc := C120
def C121 : AFunc := ⟨86, [.tmp 4],
(.seq (.ops (⟨(some 2), none, .a .box, [.t 0]⟩ ::
 ⟨(some 4), none, .p .mov, [.c (.bool false)]⟩ ::
 []))
(.seq (.ops (⟨(some 6), none, .p (.faddr 0), [.t 2]⟩ ::
 ⟨(some 7), none, .r .load1, [.t 6]⟩ ::
 ⟨(some 8), none, .call, [.c (.func (.func 97) [] []), .t 7, .c (.int .i64 1), .c (.int .i64 64)]⟩ ::
 ⟨(some 9), none, .p .mov, [.t 8]⟩ ::
 ⟨(some 10), (some (9, true)), .p (.faddr 1), [.t 2]⟩ ::
 ⟨(some 11), (some (9, true)), .r .load1, [.t 10]⟩ ::
 ⟨(some 12), (some (9, true)), .p (.faddr 0), [.t 2]⟩ ::
 ⟨(some 13), (some (9, true)), .r .load1, [.t 12]⟩ ::
 ⟨(some 14), (some (9, true)), .call, [.c (.func (.func 97) [] []), .t 11, .c (.int .i64 1), .t 13]⟩ ::
 ⟨(some 15), none, .p .pick, [.t 9, .t 14, .c (.bool false)]⟩ ::
 ⟨(some 16), none, .p .mov, [.t 15]⟩ ::
 ⟨(some 17), (some (16, true)), .p (.faddr 2), [.t 2]⟩ ::
 ⟨(some 18), (some (16, true)), .r .load1, [.t 17]⟩ ::
 ⟨(some 19), (some (16, true)), .p (.faddr 1), [.t 2]⟩ ::
 ⟨(some 20), (some (16, true)), .r .load1, [.t 19]⟩ ::
 ⟨(some 21), (some (16, true)), .call, [.c (.func (.func 97) [] []), .t 18, .c (.int .i64 1), .t 20]⟩ ::
 ⟨(some 22), none, .p .pick, [.t 16, .t 21, .c (.bool false)]⟩ ::
 ⟨(some 5), none, .p .mov, [.t 22]⟩ ::
 []))
(.seq (.seq (.ops (⟨(some 23), none, .p .mov, [.t 5]⟩ ::
 ⟨(some 24), none, .p .not, [.t 23]⟩ ::
 ⟨(some 25), none, .p .mov, [.t 24]⟩ ::
 ⟨(some 26), (some (25, false)), .p (.faddr 3), [.t 2]⟩ ::
 ⟨(some 27), (some (25, false)), .r .load1, [.t 26]⟩ ::
 ⟨(some 28), (some (25, false)), .call, [.c (.func (.func 97) [] []), .t 27, .c (.int .i64 0), .c (.int .i64 255)]⟩ ::
 ⟨(some 29), (some (25, false)), .p .not, [.t 28]⟩ ::
 ⟨(some 30), none, .p .pick, [.t 25, .c (.bool true), .t 29]⟩ ::
 ⟨(some 31), none, .p .mov, [.t 30]⟩ ::
 ⟨(some 32), (some (31, false)), .p (.faddr 5), [.t 2]⟩ ::
 ⟨(some 33), (some (31, false)), .r .load1, [.t 32]⟩ ::
 ⟨(some 34), (some (31, false)), .call, [.c (.func (.func 97) [] []), .t 33, .c (.int .i64 0), .c (.int .i64 4)]⟩ ::
 ⟨(some 35), (some (31, false)), .p .not, [.t 34]⟩ ::
 ⟨(some 36), none, .p .pick, [.t 31, .c (.bool true), .t 35]⟩ ::
 []))
(.cond (.t 36)
(.seq (.ops (⟨(some 4), none, .p .mov, [.c (.bool false)]⟩ ::
 []))
.ret)
.skip))
(.seq (.seq (.ops (⟨(some 37), none, .p (.faddr 3), [.t 2]⟩ ::
 ⟨(some 38), none, .r .load1, [.t 37]⟩ ::
 ⟨(some 39), none, .p (.bin .eql), [.t 38, .c (.int .i64 0)]⟩ ::
 ⟨(some 40), none, .p .mov, [.t 39]⟩ ::
 ⟨(some 41), (some (40, true)), .p (.faddr 4), [.t 2]⟩ ::
 ⟨(some 42), (some (40, true)), .r .load1, [.t 41]⟩ ::
 ⟨(some 43), (some (40, true)), .p (.bin .neq), [.t 42, .c (.int .i64 0)]⟩ ::
 ⟨(some 44), none, .p .pick, [.t 40, .t 43, .c (.bool false)]⟩ ::
 ⟨(some 45), none, .p .mov, [.t 44]⟩ ::
 ⟨(some 46), (some (45, false)), .p (.faddr 3), [.t 2]⟩ ::
 ⟨(some 47), (some (45, false)), .r .load1, [.t 46]⟩ ::
 ⟨(some 48), (some (45, false)), .p (.bin .neq), [.t 47, .c (.int .i64 0)]⟩ ::
 ⟨(some 49), (some (45, false)), .p .mov, [.t 48]⟩ ::
 ⟨(some 50), (some (49, true)), .p (.faddr 4), [.t 2]⟩ ::
 ⟨(some 51), (some (49, true)), .r .load1, [.t 50]⟩ ::
 ⟨(some 52), (some (49, true)), .p (.faddr 2), [.t 2]⟩ ::
 ⟨(some 53), (some (49, true)), .r .load1, [.t 52]⟩ ::
 ⟨(some 54), (some (49, true)), .call, [.c (.func (.func 97) [] []), .t 51, .c (.int .i64 1), .t 53]⟩ ::
 ⟨(some 55), (some (49, true)), .p .not, [.t 54]⟩ ::
 ⟨(some 56), (some (45, false)), .p .pick, [.t 49, .t 55, .c (.bool false)]⟩ ::
 ⟨(some 57), none, .p .pick, [.t 45, .c (.bool true), .t 56]⟩ ::
 []))
(.cond (.t 57)
(.seq (.ops (⟨(some 4), none, .p .mov, [.c (.bool false)]⟩ ::
 []))
.ret)
.skip))
(.seq (.seq (.ops (⟨(some 58), none, .p (.faddr 5), [.t 2]⟩ ::
 ⟨(some 59), none, .r .load1, [.t 58]⟩ ::
 ⟨(some 60), none, .p (.bin .eql), [.t 59, .c (.int .i64 0)]⟩ ::
 []))
(.cond (.t 60)
(.seq (.ops (⟨(some 61), none, .p (.faddr 6), [.t 2]⟩ ::
 ⟨(some 62), none, .r .load1, [.t 61]⟩ ::
 ⟨(some 63), none, .p (.bin .eql), [.t 62, .c (.int .i64 0)]⟩ ::
 ⟨(some 64), none, .p .mov, [.t 63]⟩ ::
 ⟨(some 65), (some (64, true)), .p (.faddr 7), [.t 2]⟩ ::
 ⟨(some 66), (some (64, true)), .r .load1, [.t 65]⟩ ::
 ⟨(some 67), (some (64, true)), .p (.bin .eql), [.t 66, .c (.int .i64 0)]⟩ ::
 ⟨(some 68), none, .p .pick, [.t 64, .t 67, .c (.bool false)]⟩ ::
 ⟨(some 4), none, .p .mov, [.t 68]⟩ ::
 []))
.ret)
.skip))
(.seq (.dops (⟨(some 69), none, .p (.faddr 6), [.t 2]⟩ ::
 ⟨(some 70), none, .r .load1, [.t 69]⟩ ::
 ⟨(some 71), none, .p .mov, [.t 1]⟩ ::
 ⟨(some 72), none, .p (.faddr 2), [.t 2]⟩ ::
 ⟨(some 73), none, .r .load1, [.t 72]⟩ ::
 ⟨(some 74), none, .p .mn, [.t 71, .t 73]⟩ ::
 ⟨(some 75), none, .call, [.c (.func (.func 97) [] []), .t 70, .c (.int .i64 1), .t 74]⟩ ::
 ⟨(some 76), none, .p .mov, [.t 75]⟩ ::
 ⟨(some 77), (some (76, true)), .p (.faddr 7), [.t 2]⟩ ::
 ⟨(some 78), (some (76, true)), .r .load1, [.t 77]⟩ ::
 ⟨(some 79), (some (76, true)), .p (.faddr 2), [.t 2]⟩ ::
 ⟨(some 80), (some (76, true)), .r .load1, [.t 79]⟩ ::
 ⟨(some 81), (some (76, true)), .p (.faddr 6), [.t 2]⟩ ::
 ⟨(some 82), (some (76, true)), .r .load1, [.t 81]⟩ ::
 ⟨(some 83), (some (76, true)), .p (.bin .quo), [.t 80, .t 82]⟩ ::
 ⟨(some 84), (some (76, true)), .call, [.c (.func (.func 97) [] []), .t 78, .c (.int .i64 1), .t 83]⟩ ::
 ⟨(some 85), none, .p .pick, [.t 76, .t 84, .c (.bool false)]⟩ ::
 ⟨(some 4), none, .p .mov, [.t 85]⟩ ::
 []) ([] :: [] :: [] :: [] :: [] :: [] :: [] :: [] :: [] :: [] :: [] :: [] :: [] :: [] :: [] :: [] :: [] :: [] :: []))
.ret))))))⟩
abbrev f_conf_taskMay : Nat := 121
abbrev C_conf_taskMay : AFunc := C121
def L_slices_IndexFunc_api_Port_api_Port_0 : AC := (.seq (.ops (⟨(some 9), none, .p (.bin .lss), [.t 8, .t 7]⟩ ::
 []))
(.seq (.cond (.t 9)
.skip
(.exit 0))
(.seq (.block 1 (.seq (.ops (⟨(some 10), none, .p .mov, [.t 8]⟩ ::
 ⟨(some 5), none, .p .mov, [.t 10]⟩ ::
 []))
(.seq (.ops (⟨(some 11), none, .p .mov, [.t 1]⟩ ::
 ⟨(some 12), none, .p .mov, [.t 0]⟩ ::
 ⟨(some 13), none, .p .mov, [.t 5]⟩ ::
 ⟨(some 14), none, .p (.iaddrS 6), [.t 12, .t 13]⟩ ::
 ⟨(some 15), none, .r (.loadN 6), [.t 14]⟩ ::
 ⟨(some 16), none, .call, [.t 11, .t 15]⟩ ::
 []))
(.cond (.t 16)
(.seq (.ops (⟨(some 17), none, .p .mov, [.t 5]⟩ ::
 ⟨(some 4), none, .p .mov, [.t 17]⟩ ::
 []))
.ret)
.skip))))
(.ops (⟨(some 18), none, .p (.bin .add), [.t 8, .c (.int .i64 1)]⟩ ::
 ⟨(some 8), none, .p .mov, [.t 18]⟩ ::
 [])))))
def C122 : AFunc := ⟨19, [.tmp 4],
(.seq (.ops (⟨(some 4), none, .p .mov, [.c (.int .i64 0)]⟩ ::
 []))
(.seq (.seq (.ops (⟨(some 6), none, .p .mov, [.t 0]⟩ ::
 ⟨(some 7), none, .p .lenS, [.t 6]⟩ ::
 ⟨(some 8), none, .p .mov, [.c (.int .i64 0)]⟩ ::
 []))
(.block 0 (.loop L_slices_IndexFunc_api_Port_api_Port_0)))
(.seq (.ops (⟨(some 4), none, .p .mov, [.c (.int .i64 (-1))]⟩ ::
 []))
.ret)))⟩
abbrev f_slices_IndexFunc_api_Port_api_Port : Nat := 122
abbrev C_slices_IndexFunc_api_Port_api_Port : AFunc := C122
def L_ticks_Gcd_0 : AC := (.seq (.seq (.ops (⟨(some 11), none, .p .mov, [.t 1]⟩ ::
 ⟨(some 12), none, .p (.bin .neq), [.t 11, .c (.int .i64 0)]⟩ ::
 []))
(.cond (.t 12)
.skip
(.exit 0)))
(.block 1 (.dops (⟨(some 13), none, .p .mov, [.t 1]⟩ ::
 ⟨(some 14), none, .p .mov, [.t 0]⟩ ::
 ⟨(some 15), none, .p .mov, [.t 1]⟩ ::
 ⟨(some 16), none, .p (.bin .rem), [.t 14, .t 15]⟩ ::
 ⟨(some 0), none, .p .mov, [.t 13]⟩ ::
 ⟨(some 1), none, .p .mov, [.t 16]⟩ ::
 []) ([] :: [] :: [] :: [] :: [] :: [] :: []))))
def C133 : AFunc := ⟨18, [.tmp 4, .tmp 5],
(.seq (.ops (⟨(some 4), none, .p .mov, [.c (.int .i64 0)]⟩ ::
 ⟨(some 5), none, .p .mov, [.c (.int .i64 0)]⟩ ::
 []))
(.seq (.seq (.ops (⟨(some 6), none, .p .mov, [.t 0]⟩ ::
 ⟨(some 7), none, .p .mov, [.t 1]⟩ ::
 ⟨(some 8), none, .a (.bslice [(.int .i64 0)] 2 1 [0, 1]), [.t 6, .t 7]⟩ ::
 ⟨(some 9), none, .call, [.c (.func (.func 138) [] []), .t 8]⟩ ::
 ⟨(some 10), none, .p .not, [.t 9]⟩ ::
 []))
(.cond (.t 10)
(.seq (.ops (⟨(some 4), none, .p .mov, [.c (.int .i64 0)]⟩ ::
 ⟨(some 5), none, .p .mov, [.c (.int .i64 2)]⟩ ::
 []))
.ret)
.skip))
(.seq (.block 0 (.loop L_ticks_Gcd_0))
(.seq (.ops (⟨(some 17), none, .p .mov, [.t 0]⟩ ::
 ⟨(some 4), none, .p .mov, [.t 17]⟩ ::
 ⟨(some 5), none, .p .mov, [.c (.int .i64 0)]⟩ ::
 []))
.ret))))⟩
abbrev f_ticks_Gcd : Nat := 133
abbrev C_ticks_Gcd : AFunc := C133
def C134 : AFunc := ⟨29, [.cell 4 5 true, .tmp 5],
(.seq (.ops (⟨(some 4), none, .a (.alloc [(.int .i64 0), (.int .i64 0), .nils, .nils, (.int .i64 0)]), []⟩ ::
 ⟨(some 5), none, .p .mov, [.c (.int .i64 0)]⟩ ::
 []))
(.seq (.seq (.ops (⟨(some 7), none, .p .mov, [.t 0]⟩ ::
 ⟨(some 8), none, .call, [.c (.func (.func 154) [] []), .t 7]⟩ ::
 ⟨(some 6), none, .p .mov, [.t 8]⟩ ::
 []))
(.seq (.ops (⟨(some 9), none, .p .mov, [.t 6]⟩ ::
 ⟨(some 10), none, .p (.bin .neq), [.t 9, .c (.int .i64 0)]⟩ ::
 []))
(.cond (.t 10)
(.seq (.ops (⟨(some 11), none, .p (.build [(.int .i64 0), (.int .i64 0), .nils, .nils, (.int .i64 0)] []), []⟩ ::
 ⟨(some 12), none, .p .mov, [.t 6]⟩ ::
 ⟨none, none, .e (.store 5), [.t 4, .t 11]⟩ ::
 ⟨(some 5), none, .p .mov, [.t 12]⟩ ::
 []))
.ret)
.skip)))
(.seq (.seq (.ops (⟨(some 13), none, .p .mov, [.t 1]⟩ ::
 ⟨(some 14), none, .p (.bin .lss), [.t 13, .c (.int .i64 0)]⟩ ::
 ⟨(some 15), none, .p .mov, [.t 14]⟩ ::
 ⟨(some 16), (some (15, false)), .p .mov, [.t 1]⟩ ::
 ⟨(some 17), (some (15, false)), .p .mov, [.t 0]⟩ ::
 ⟨(some 18), (some (15, false)), .p .lenS, [.t 17]⟩ ::
 ⟨(some 19), (some (15, false)), .p (.bin .geq), [.t 16, .t 18]⟩ ::
 ⟨(some 20), none, .p .pick, [.t 15, .c (.bool true), .t 19]⟩ ::
 []))
(.cond (.t 20)
(.seq (.ops (⟨(some 21), none, .p (.build [(.int .i64 0), (.int .i64 0), .nils, .nils, (.int .i64 0)] []), []⟩ ::
 ⟨none, none, .e (.store 5), [.t 4, .t 21]⟩ ::
 ⟨(some 5), none, .p .mov, [.c (.int .i64 9)]⟩ ::
 []))
.ret)
.skip))
(.seq (.ops (⟨(some 22), none, .p .mov, [.t 0]⟩ ::
 ⟨(some 23), none, .p .mov, [.t 1]⟩ ::
 ⟨(some 24), none, .p (.iaddrS 3), [.t 22, .t 23]⟩ ::
 ⟨(some 25), none, .r (.loadN 3), [.t 24]⟩ ::
 ⟨(some 26), none, .p .mov, [.t 0]⟩ ::
 ⟨(some 27), none, .p .mov, [.t 1]⟩ ::
 ⟨(some 28), none, .p (.build [(.int .i64 0), (.int .i64 0), .nils, .nils, (.int .i64 0)] [(0, 3), (3, 1), (4, 1)]), [.t 25, .t 26, .t 27]⟩ ::
 ⟨none, none, .e (.store 5), [.t 4, .t 28]⟩ ::
 ⟨(some 5), none, .p .mov, [.c (.int .i64 0)]⟩ ::
 []))
.ret))))⟩
abbrev f_delay_of : Nat := 134
abbrev C_delay_of : AFunc := C134
def L_delay_seen_wait_0a : AC := (.ops (⟨(some 5), none, .a (.alloc [(.int .i64 0), (.int .i64 0), .nils]), []⟩ ::
 ⟨none, none, .e (.store 3), [.t 5, .t 13]⟩ ::
 []))
def L_delay_seen_wait_0b : AC := (.block 1 (.ops (⟨(some 14), none, .r .load1, [.t 4]⟩ ::
 ⟨(some 15), none, .p (.faddr 0), [.t 5]⟩ ::
 ⟨(some 16), none, .r .load1, [.t 15]⟩ ::
 ⟨(some 17), none, .p (.bin .mul), [.c (.int .i64 2), .t 16]⟩ ::
 ⟨(some 18), none, .p (.bin .add), [.t 14, .t 17]⟩ ::
 ⟨none, none, .e (.store 1), [.t 4, .t 18]⟩ ::
 [])))
def C135 : AFunc := ⟨20, [.cell 4 1 false],
(.seq (.ops (⟨(some 2), none, .a .box, [.t 0]⟩ ::
 ⟨(some 3), none, .a .box, [.t 1]⟩ ::
 ⟨(some 4), none, .a (.alloc [(.int .i64 0)]), []⟩ ::
 []))
(.seq (.seq (.ops (⟨(some 6), none, .p (.faddr 5), [.t 3]⟩ ::
 ⟨(some 7), none, .r .load1, [.t 6]⟩ ::
 ⟨(some 8), none, .p (.bin .eql), [.t 7, .c (.int .i64 0)]⟩ ::
 []))
(.cond (.t 8)
(.seq (.ops (⟨none, none, .e (.store 1), [.t 4, .c (.int .i64 0)]⟩ ::
 []))
.ret)
.skip))
(.seq (.seq (.ops (⟨(some 9), none, .r (.loadN 5), [.t 2]⟩ ::
 ⟨(some 10), none, .p (.faddr 5), [.t 3]⟩ ::
 ⟨(some 11), none, .r .load1, [.t 10]⟩ ::
 ⟨(some 12), none, .call, [.c (.func (.func 155) [] []), .t 9, .t 11]⟩ ::
 []))
(.block 0 (.rangeFunc (.t 12) [13] L_delay_seen_wait_0a L_delay_seen_wait_0b)))
(.seq (.ops (⟨(some 19), none, .r .load1, [.t 4]⟩ ::
 ⟨none, none, .e (.store 1), [.t 4, .t 19]⟩ ::
 []))
.ret))))⟩
abbrev f_delay_seen_wait : Nat := 135
abbrev C_delay_seen_wait : AFunc := C135
def C136 : AFunc := ⟨6, [.tmp 2],
(.seq (.ops (⟨(some 1), none, .a .box, [.t 0]⟩ ::
 ⟨(some 2), none, .p .mov, [.c (.bool false)]⟩ ::
 []))
(.seq (.ops (⟨(some 3), none, .r (.loadN 8), [.t 1]⟩ ::
 ⟨(some 4), none, .call, [.c (.func (.func 137) [] []), .t 3]⟩ ::
 ⟨(some 5), none, .p .not, [.t 4]⟩ ::
 ⟨(some 2), none, .p .mov, [.t 5]⟩ ::
 []))
.ret))⟩
abbrev f_demand_all_1 : Nat := 136
abbrev C_demand_all_1 : AFunc := C136
def C137 : AFunc := ⟨25, [.tmp 2],
(.seq (.ops (⟨(some 1), none, .a .box, [.t 0]⟩ ::
 ⟨(some 2), none, .p .mov, [.c (.bool false)]⟩ ::
 []))
(.seq (.ops (⟨(some 3), none, .p (.faddr 2), [.t 1]⟩ ::
 ⟨(some 4), none, .r .load1, [.t 3]⟩ ::
 ⟨(some 5), none, .p (.bin .leq), [.c (.int .i64 1), .t 4]⟩ ::
 ⟨(some 6), none, .p .mov, [.t 5]⟩ ::
 ⟨(some 7), (some (6, true)), .p (.faddr 2), [.t 1]⟩ ::
 ⟨(some 8), (some (6, true)), .r .load1, [.t 7]⟩ ::
 ⟨(some 9), (some (6, true)), .p (.faddr 1), [.t 1]⟩ ::
 ⟨(some 10), (some (6, true)), .r .load1, [.t 9]⟩ ::
 ⟨(some 11), (some (6, true)), .p (.bin .leq), [.t 8, .t 10]⟩ ::
 ⟨(some 12), none, .p .pick, [.t 6, .t 11, .c (.bool false)]⟩ ::
 ⟨(some 13), none, .p .mov, [.t 12]⟩ ::
 ⟨(some 14), (some (13, true)), .p (.faddr 1), [.t 1]⟩ ::
 ⟨(some 15), (some (13, true)), .r .load1, [.t 14]⟩ ::
 ⟨(some 16), (some (13, true)), .p (.faddr 0), [.t 1]⟩ ::
 ⟨(some 17), (some (13, true)), .r .load1, [.t 16]⟩ ::
 ⟨(some 18), (some (13, true)), .p (.bin .leq), [.t 15, .t 17]⟩ ::
 ⟨(some 19), none, .p .pick, [.t 13, .t 18, .c (.bool false)]⟩ ::
 ⟨(some 20), none, .p .mov, [.t 19]⟩ ::
 ⟨(some 21), (some (20, true)), .p (.faddr 0), [.t 1]⟩ ::
 ⟨(some 22), (some (20, true)), .r .load1, [.t 21]⟩ ::
 ⟨(some 23), (some (20, true)), .p (.bin .leq), [.t 22, .c (.int .i64 64)]⟩ ::
 ⟨(some 24), none, .p .pick, [.t 20, .t 23, .c (.bool false)]⟩ ::
 ⟨(some 2), none, .p .mov, [.t 24]⟩ ::
 []))
.ret))⟩
abbrev f_demand_may : Nat := 137
abbrev C_demand_may : AFunc := C137
def L_ticks_tick_0 : AC := (.seq (.ops (⟨(some 8), none, .p (.bin .lss), [.t 7, .t 6]⟩ ::
 []))
(.seq (.cond (.t 8)
.skip
(.exit 0))
(.seq (.block 1 (.seq (.ops (⟨(some 9), none, .p (.iaddrS 1), [.t 5, .t 7]⟩ ::
 ⟨(some 10), none, .r .load1, [.t 9]⟩ ::
 ⟨(some 4), none, .p .mov, [.t 10]⟩ ::
 []))
(.seq (.ops (⟨(some 11), none, .p .mov, [.t 4]⟩ ::
 ⟨(some 12), none, .p (.bin .lss), [.t 11, .c (.int .i64 0)]⟩ ::
 ⟨(some 13), none, .p .mov, [.t 12]⟩ ::
 ⟨(some 14), (some (13, false)), .p .mov, [.t 4]⟩ ::
 ⟨(some 15), (some (13, false)), .p (.bin .gtr), [.t 14, .c (.int .i64 1099511627776)]⟩ ::
 ⟨(some 16), none, .p .pick, [.t 13, .c (.bool true), .t 15]⟩ ::
 []))
(.cond (.t 16)
(.seq (.ops (⟨(some 2), none, .p .mov, [.c (.bool false)]⟩ ::
 []))
.ret)
.skip))))
(.ops (⟨(some 17), none, .p (.bin .add), [.t 7, .c (.int .i64 1)]⟩ ::
 ⟨(some 7), none, .p .mov, [.t 17]⟩ ::
 [])))))
def C138 : AFunc := ⟨18, [.tmp 2],
(.seq (.ops (⟨(some 2), none, .p .mov, [.c (.bool false)]⟩ ::
 []))
(.seq (.seq (.ops (⟨(some 5), none, .p .mov, [.t 0]⟩ ::
 ⟨(some 6), none, .p .lenS, [.t 5]⟩ ::
 ⟨(some 7), none, .p .mov, [.c (.int .i64 0)]⟩ ::
 []))
(.block 0 (.loop L_ticks_tick_0)))
(.seq (.ops (⟨(some 2), none, .p .mov, [.c (.bool true)]⟩ ::
 []))
.ret)))⟩
abbrev f_ticks_tick : Nat := 138
abbrev C_ticks_tick : AFunc := C138
def C139 : AFunc := ⟨9, [.tmp 4],
(.seq (.ops (⟨(some 4), none, .p .mov, [.c (.bool false)]⟩ ::
 []))
(.seq (.ops (⟨(some 5), none, .p .mov, [.t 0]⟩ ::
 ⟨(some 6), none, .p .mov, [.t 1]⟩ ::
 ⟨(some 7), none, .call, [.c (.func (.func 156) [] []), .t 5, .t 6]⟩ ::
 ⟨(some 8), none, .p (.bin .geq), [.t 7, .c (.int .i64 0)]⟩ ::
 ⟨(some 4), none, .p .mov, [.t 8]⟩ ::
 []))
.ret))⟩
abbrev f_slices_Contains_int_int : Nat := 139
abbrev C_slices_Contains_int_int : AFunc := C139
def L_ticks_each_0 : AC := (.seq (.ops (⟨(some 9), none, .p (.bin .lss), [.t 8, .t 7]⟩ ::
 []))
(.seq (.cond (.t 9)
.skip
(.exit 0))
(.seq (.block 1 (.seq (.ops (⟨(some 10), none, .p (.iaddrS 1), [.t 6, .t 8]⟩ ::
 ⟨(some 11), none, .r .load1, [.t 10]⟩ ::
 ⟨(some 5), none, .p .mov, [.t 11]⟩ ::
 []))
(.ops (⟨(some 12), none, .p .mov, [.t 0]⟩ ::
 ⟨(some 13), none, .p .mov, [.t 5]⟩ ::
 ⟨(some 14), none, .call, [.t 12, .t 13]⟩ ::
 []))))
(.ops (⟨(some 15), none, .p (.bin .add), [.t 8, .c (.int .i64 1)]⟩ ::
 ⟨(some 8), none, .p .mov, [.t 15]⟩ ::
 [])))))
def C140 : AFunc := ⟨16, [],
(.seq (.ops (⟨(some 6), none, .p .mov, [.t 1]⟩ ::
 ⟨(some 7), none, .p .lenS, [.t 6]⟩ ::
 ⟨(some 8), none, .p .mov, [.c (.int .i64 0)]⟩ ::
 []))
(.block 0 (.loop L_ticks_each_0)))⟩
abbrev f_ticks_each : Nat := 140
abbrev C_ticks_each : AFunc := C140
def C141 : AFunc := ⟨37, [],
(.seq (.ops (⟨(some 6), none, .p .mov, [.t 0]⟩ ::
 ⟨(some 7), none, .p .nilchk, [.t 6]⟩ ::
 ⟨(some 8), none, .p (.faddr 1), [.t 7]⟩ ::
 ⟨(some 9), none, .r .load1, [.t 8]⟩ ::
 ⟨(some 10), none, .p (.bin .eql), [.t 9, .c (.int .i64 0)]⟩ ::
 []))
(.cond (.t 10)
(.seq (.ops (⟨(some 12), none, .p .mov, [.t 0]⟩ ::
 ⟨(some 13), none, .p .nilchk, [.t 12]⟩ ::
 ⟨(some 14), none, .p (.faddr 0), [.t 13]⟩ ::
 ⟨(some 15), none, .r .load1, [.t 14]⟩ ::
 ⟨(some 16), none, .p .mov, [.t 1]⟩ ::
 ⟨(some 17), none, .call, [.c (.func (.func 133) [] []), .t 15, .t 16]⟩ ::
 ⟨(some 11), none, .p .mov, [.t 17]⟩ ::
 ⟨(some 18), none, .p (.ext 0), [.t 11]⟩ ::
 ⟨(some 19), none, .p (.ext 1), [.t 11]⟩ ::
 ⟨(some 4), none, .p .mov, [.t 18]⟩ ::
 ⟨(some 5), none, .p .mov, [.t 19]⟩ ::
 []))
(.dops (⟨(some 21), none, .p .mov, [.t 0]⟩ ::
 ⟨(some 22), none, .p .mov, [.t 0]⟩ ::
 ⟨(some 23), none, .p .mov, [.t 0]⟩ ::
 ⟨(some 24), none, .p .nilchk, [.t 23]⟩ ::
 ⟨(some 25), none, .p (.faddr 0), [.t 24]⟩ ::
 ⟨(some 26), none, .r .load1, [.t 25]⟩ ::
 ⟨(some 27), none, .p .mov, [.t 1]⟩ ::
 ⟨(some 28), none, .p .mov, [.t 4]⟩ ::
 ⟨(some 29), none, .p (.bin .quo), [.t 27, .t 28]⟩ ::
 ⟨(some 30), none, .call, [.c (.func (.func 157) [] []), .t 26, .t 29]⟩ ::
 ⟨(some 20), none, .p .mov, [.t 30]⟩ ::
 ⟨(some 31), none, .p (.ext 0), [.t 20]⟩ ::
 ⟨(some 32), none, .p (.ext 1), [.t 20]⟩ ::
 ⟨(some 33), none, .p .nilchk, [.t 21]⟩ ::
 ⟨(some 34), none, .p (.faddr 0), [.t 33]⟩ ::
 ⟨none, none, .e (.store 1), [.t 34, .t 31]⟩ ::
 ⟨(some 35), none, .p .nilchk, [.t 22]⟩ ::
 ⟨(some 36), none, .p (.faddr 1), [.t 35]⟩ ::
 ⟨none, none, .e (.store 1), [.t 36, .t 32]⟩ ::
 []) ([] :: [] :: [] :: [] :: [] :: [] :: [] :: [] :: [] :: [] :: [] :: [] :: [] :: [] :: [] :: [] :: [] :: [] :: [] :: [])))
.skip))⟩
abbrev f_ticks_count_multiple : Nat := 141
abbrev C_ticks_count_multiple : AFunc := C141
def C142 : AFunc := ⟨16, [.tmp 4, .tmp 5],
(.seq (.ops (⟨(some 4), none, .p .mov, [.c (.int .i64 0)]⟩ ::
 ⟨(some 5), none, .p .mov, [.c (.int .i64 0)]⟩ ::
 []))
(.seq (.seq (.ops (⟨(some 6), none, .p .mov, [.t 1]⟩ ::
 ⟨(some 7), none, .p (.bin .eql), [.t 6, .c (.int .i64 0)]⟩ ::
 ⟨(some 8), none, .p .mov, [.t 7]⟩ ::
 ⟨(some 9), (some (8, true)), .p .mov, [.t 0]⟩ ::
 ⟨(some 10), (some (8, true)), .p (.bin .gtr), [.t 9, .c (.int .i64 1099511627776)]⟩ ::
 ⟨(some 11), none, .p .pick, [.t 8, .t 10, .c (.bool false)]⟩ ::
 []))
(.cond (.t 11)
(.ops (⟨(some 1), none, .p .mov, [.c (.int .i64 10)]⟩ ::
 []))
.skip))
(.seq (.seq (.ops (⟨(some 12), none, .p .mov, [.t 1]⟩ ::
 ⟨(some 13), none, .p (.bin .neq), [.t 12, .c (.int .i64 0)]⟩ ::
 []))
(.cond (.t 13)
(.seq (.ops (⟨(some 14), none, .p .mov, [.t 1]⟩ ::
 ⟨(some 4), none, .p .mov, [.c (.int .i64 0)]⟩ ::
 ⟨(some 5), none, .p .mov, [.t 14]⟩ ::
 []))
.ret)
.skip))
(.seq (.ops (⟨(some 15), none, .p .mov, [.t 0]⟩ ::
 ⟨(some 4), none, .p .mov, [.t 15]⟩ ::
 ⟨(some 5), none, .p .mov, [.c (.int .i64 0)]⟩ ::
 []))
.ret))))⟩
abbrev f_ticks_told : Nat := 142
abbrev C_ticks_told : AFunc := C142
def C143 : AFunc := ⟨9, [.tmp 4],
(.seq (.ops (⟨(some 4), none, .p .mov, [.c (.bool false)]⟩ ::
 []))
(.seq (.ops (⟨(some 5), none, .p .mov, [.t 0]⟩ ::
 ⟨(some 6), none, .p .mov, [.t 1]⟩ ::
 ⟨(some 7), none, .call, [.c (.func (.func 158) [] []), .t 5, .t 6]⟩ ::
 ⟨(some 8), none, .p (.bin .geq), [.t 7, .c (.int .i64 0)]⟩ ::
 ⟨(some 4), none, .p .mov, [.t 8]⟩ ::
 []))
.ret))⟩
abbrev f_slices_ContainsFunc_int_int : Nat := 143
abbrev C_slices_ContainsFunc_int_int : AFunc := C143
def C144 : AFunc := ⟨9, [.tmp 2],
(.seq (.ops (⟨(some 2), none, .p .mov, [.c (.bool false)]⟩ ::
 []))
(.seq (.ops (⟨(some 3), none, .p .mov, [.t 0]⟩ ::
 ⟨(some 4), none, .p (.bin .lss), [.t 3, .c (.int .i64 0)]⟩ ::
 ⟨(some 5), none, .p .mov, [.t 4]⟩ ::
 ⟨(some 6), (some (5, false)), .p .mov, [.t 0]⟩ ::
 ⟨(some 7), (some (5, false)), .p (.bin .gtr), [.t 6, .c (.int .i64 32768)]⟩ ::
 ⟨(some 8), none, .p .pick, [.t 5, .c (.bool true), .t 7]⟩ ::
 ⟨(some 2), none, .p .mov, [.t 8]⟩ ::
 []))
.ret))⟩
abbrev f_demand_Check_1 : Nat := 144
abbrev C_demand_Check_1 : AFunc := C144
def L_slices_IndexFunc_api_Task_api_Task_0 : AC := (.seq (.ops (⟨(some 9), none, .p (.bin .lss), [.t 8, .t 7]⟩ ::
 []))
(.seq (.cond (.t 9)
.skip
(.exit 0))
(.seq (.block 1 (.seq (.ops (⟨(some 10), none, .p .mov, [.t 8]⟩ ::
 ⟨(some 5), none, .p .mov, [.t 10]⟩ ::
 []))
(.seq (.ops (⟨(some 11), none, .p .mov, [.t 1]⟩ ::
 ⟨(some 12), none, .p .mov, [.t 0]⟩ ::
 ⟨(some 13), none, .p .mov, [.t 5]⟩ ::
 ⟨(some 14), none, .p (.iaddrS 8), [.t 12, .t 13]⟩ ::
 ⟨(some 15), none, .r (.loadN 8), [.t 14]⟩ ::
 ⟨(some 16), none, .call, [.t 11, .t 15]⟩ ::
 []))
(.cond (.t 16)
(.seq (.ops (⟨(some 17), none, .p .mov, [.t 5]⟩ ::
 ⟨(some 4), none, .p .mov, [.t 17]⟩ ::
 []))
.ret)
.skip))))
(.ops (⟨(some 18), none, .p (.bin .add), [.t 8, .c (.int .i64 1)]⟩ ::
 ⟨(some 8), none, .p .mov, [.t 18]⟩ ::
 [])))))
def C145 : AFunc := ⟨19, [.tmp 4],
(.seq (.ops (⟨(some 4), none, .p .mov, [.c (.int .i64 0)]⟩ ::
 []))
(.seq (.seq (.ops (⟨(some 6), none, .p .mov, [.t 0]⟩ ::
 ⟨(some 7), none, .p .lenS, [.t 6]⟩ ::
 ⟨(some 8), none, .p .mov, [.c (.int .i64 0)]⟩ ::
 []))
(.block 0 (.loop L_slices_IndexFunc_api_Task_api_Task_0)))
(.seq (.ops (⟨(some 4), none, .p .mov, [.c (.int .i64 (-1))]⟩ ::
 []))
.ret)))⟩
abbrev f_slices_IndexFunc_api_Task_api_Task : Nat := 145
abbrev C_slices_IndexFunc_api_Task_api_Task : AFunc := C145
def C146 : AFunc := ⟨27, [.tmp 6, .tmp 7],
(.seq (.ops (⟨(some 5), none, .a .box, [.t 2]⟩ ::
 ⟨(some 6), none, .p .mov, [.c (.int .i64 0)]⟩ ::
 ⟨(some 7), none, .p .mov, [.c (.int .i64 0)]⟩ ::
 []))
(.seq (.seq (.ops (⟨(some 9), none, .p .mov, [.t 0]⟩ ::
 ⟨(some 10), none, .p .mov, [.t 1]⟩ ::
 ⟨(some 11), none, .call, [.c (.func (.func 110) [] []), .t 9, .t 10]⟩ ::
 ⟨(some 8), none, .p .mov, [.t 11]⟩ ::
 []))
(.seq (.ops (⟨(some 12), none, .p .mov, [.t 8]⟩ ::
 ⟨(some 13), none, .p (.bin .neq), [.t 12, .c (.int .i64 0)]⟩ ::
 ⟨(some 14), none, .p .mov, [.t 13]⟩ ::
 ⟨(some 15), (some (14, false)), .r .load1, [.t 5]⟩ ::
 ⟨(some 16), (some (14, false)), .p (.bin .lss), [.t 15, .c (.int .i64 0)]⟩ ::
 ⟨(some 17), none, .p .pick, [.t 14, .c (.bool true), .t 16]⟩ ::
 ⟨(some 18), none, .p .mov, [.t 17]⟩ ::
 ⟨(some 19), (some (18, false)), .r .load1, [.t 5]⟩ ::
 ⟨(some 20), (some (18, false)), .p (.bin .gtr), [.t 19, .c (.int .i64 1048576)]⟩ ::
 ⟨(some 21), none, .p .pick, [.t 18, .c (.bool true), .t 20]⟩ ::
 []))
(.cond (.t 21)
(.seq (.ops (⟨(some 6), none, .p .mov, [.c (.int .i64 0)]⟩ ::
 ⟨(some 7), none, .p .mov, [.c (.int .i64 2)]⟩ ::
 []))
.ret)
.skip)))
(.seq (.ops (⟨(some 22), none, .p .mov, [.t 0]⟩ ::
 ⟨(some 23), none, .p .mov, [.t 1]⟩ ::
 ⟨(some 24), none, .p (.mkfunc (.func 159) 0), [.t 5]⟩ ::
 ⟨(some 25), none, .call, [.c (.func (.func 114) [] []), .t 22, .t 23, .t 24]⟩ ::
 ⟨(some 26), none, .call, [.c (.func (.func 113) [] []), .t 25]⟩ ::
 ⟨(some 6), none, .p .mov, [.t 26]⟩ ::
 ⟨(some 7), none, .p .mov, [.c (.int .i64 0)]⟩ ::
 []))
.ret)))⟩
abbrev f_demand_Of : Nat := 146
abbrev C_demand_Of : AFunc := C146
def C147 : AFunc := ⟨29, [.tmp 6, .tmp 7],
(.seq (.ops (⟨(some 6), none, .p .mov, [.c (.int .i64 0)]⟩ ::
 ⟨(some 7), none, .p .mov, [.c (.int .i64 0)]⟩ ::
 []))
(.seq (.ops (⟨(some 11), none, .p .mov, [.t 0]⟩ ::
 ⟨(some 12), none, .p .mov, [.t 1]⟩ ::
 ⟨(some 13), none, .call, [.c (.func (.func 160) [] []), .t 11, .t 12]⟩ ::
 ⟨(some 10), none, .p .mov, [.t 13]⟩ ::
 ⟨(some 14), none, .p (.ext 0), [.t 10]⟩ ::
 ⟨(some 15), none, .p (.ext 1), [.t 10]⟩ ::
 ⟨(some 8), none, .a (.alloc [(.int .i64 0), (.int .i64 0)]), []⟩ ::
 ⟨none, none, .e (.store 2), [.t 8, .t 14]⟩ ::
 ⟨(some 9), none, .p .mov, [.t 15]⟩ ::
 []))
(.seq (.seq (.ops (⟨(some 16), none, .p .mov, [.t 9]⟩ ::
 ⟨(some 17), none, .p .not, [.t 16]⟩ ::
 ⟨(some 18), none, .p .mov, [.t 17]⟩ ::
 ⟨(some 19), (some (18, false)), .p .mov, [.t 2]⟩ ::
 ⟨(some 20), (some (18, false)), .p (.bin .lss), [.t 19, .c (.int .i64 0)]⟩ ::
 ⟨(some 21), none, .p .pick, [.t 18, .c (.bool true), .t 20]⟩ ::
 ⟨(some 22), none, .p .mov, [.t 21]⟩ ::
 ⟨(some 23), (some (22, false)), .p .mov, [.t 2]⟩ ::
 ⟨(some 24), (some (22, false)), .p (.bin .gtr), [.t 23, .c (.int .i64 1048576)]⟩ ::
 ⟨(some 25), none, .p .pick, [.t 22, .c (.bool true), .t 24]⟩ ::
 []))
(.cond (.t 25)
(.seq (.ops (⟨(some 6), none, .p .mov, [.c (.int .i64 0)]⟩ ::
 ⟨(some 7), none, .p .mov, [.c (.int .i64 2)]⟩ ::
 []))
.ret)
.skip))
(.seq (.ops (⟨(some 26), none, .r (.loadN 2), [.t 8]⟩ ::
 ⟨(some 27), none, .p .mov, [.t 2]⟩ ::
 ⟨(some 28), none, .call, [.c (.func (.func 161) [] []), .t 26, .t 27]⟩ ::
 ⟨(some 6), none, .p .mov, [.t 28]⟩ ::
 ⟨(some 7), none, .p .mov, [.c (.int .i64 0)]⟩ ::
 []))
.ret))))⟩
abbrev f_supply_Of : Nat := 147
abbrev C_supply_Of : AFunc := C147
def L_delay_Of_0 : AC := (.seq (.ops (⟨(some 29), none, .p (.bin .lss), [.t 28, .t 27]⟩ ::
 []))
(.seq (.cond (.t 29)
.skip
(.exit 1))
(.seq (.block 2 (.seq (.ops (⟨(some 30), none, .p (.iaddrS 8), [.t 26, .t 28]⟩ ::
 ⟨(some 31), none, .r (.loadN 8), [.t 30]⟩ ::
 ⟨(some 10), none, .a (.alloc [(.int .i64 0), (.int .i64 0), (.int .i64 0), (.int .i64 0), (.int .i64 0), (.int .i64 0), (.int .i64 0), (.int .i64 0)]), []⟩ ::
 ⟨none, none, .e (.store 8), [.t 10, .t 31]⟩ ::
 []))
(.seq (.ops (⟨(some 32), none, .p (.faddr 1), [.t 10]⟩ ::
 ⟨(some 33), none, .r .load1, [.t 32]⟩ ::
 ⟨(some 34), none, .p .mov, [.t 2]⟩ ::
 ⟨(some 35), none, .p (.bin .gtr), [.t 33, .t 34]⟩ ::
 []))
(.cond (.t 35)
(.ops (⟨(some 36), none, .p .mov, [.t 6]⟩ ::
 ⟨(some 37), none, .r (.loadN 5), [.t 8]⟩ ::
 ⟨(some 38), none, .r (.loadN 8), [.t 10]⟩ ::
 ⟨(some 39), none, .call, [.c (.func (.func 162) [] []), .t 37, .t 38]⟩ ::
 ⟨(some 40), none, .p .mx, [.t 36, .t 39]⟩ ::
 ⟨(some 6), none, .p .mov, [.t 40]⟩ ::
 []))
.skip))))
(.ops (⟨(some 41), none, .p (.bin .add), [.t 28, .c (.int .i64 1)]⟩ ::
 ⟨(some 28), none, .p .mov, [.t 41]⟩ ::
 [])))))
def C148 : AFunc := ⟨43, [.tmp 6, .tmp 7],
(.seq (.ops (⟨(some 6), none, .p .mov, [.c (.int .i64 0)]⟩ ::
 ⟨(some 7), none, .p .mov, [.c (.int .i64 0)]⟩ ::
 []))
(.seq (.ops (⟨(some 12), none, .p .mov, [.t 0]⟩ ::
 ⟨(some 13), none, .p .mov, [.t 1]⟩ ::
 ⟨(some 14), none, .call, [.c (.func (.func 134) [] []), .t 12, .t 13]⟩ ::
 ⟨(some 11), none, .p .mov, [.t 14]⟩ ::
 ⟨(some 15), none, .p (.ext 0), [.t 11]⟩ ::
 ⟨(some 16), none, .p (.ext 1), [.t 11]⟩ ::
 ⟨(some 8), none, .a (.alloc [(.int .i64 0), (.int .i64 0), .nils, .nils, (.int .i64 0)]), []⟩ ::
 ⟨none, none, .e (.store 5), [.t 8, .t 15]⟩ ::
 ⟨(some 7), none, .p .mov, [.t 16]⟩ ::
 []))
(.seq (.block 0 (.seq (.ops (⟨(some 18), none, .p .mov, [.t 7]⟩ ::
 ⟨(some 19), none, .p (.bin .neq), [.t 18, .c (.int .i64 0)]⟩ ::
 ⟨(some 17), none, .p .mov, [.t 19]⟩ ::
 []))
(.cond (.t 17)
(.seq (.ops (⟨(some 20), none, .p .mov, [.t 7]⟩ ::
 ⟨(some 6), none, .p .mov, [.c (.int .i64 0)]⟩ ::
 ⟨(some 7), none, .p .mov, [.t 20]⟩ ::
 []))
.ret)
(.seq (.ops (⟨(some 22), none, .p .mov, [.t 2]⟩ ::
 ⟨(some 23), none, .p (.bin .lss), [.t 22, .c (.int .i64 0)]⟩ ::
 ⟨(some 21), none, .p .mov, [.t 23]⟩ ::
 []))
(.cond (.t 21)
(.seq (.ops (⟨(some 6), none, .p .mov, [.c (.int .i64 0)]⟩ ::
 ⟨(some 7), none, .p .mov, [.c (.int .i64 2)]⟩ ::
 []))
.ret)
.skip)))))
(.seq (.seq (.ops (⟨(some 24), none, .p (.faddr 0), [.t 8]⟩ ::
 ⟨(some 25), none, .p (.faddr 2), [.t 24]⟩ ::
 ⟨(some 26), none, .r .load1, [.t 25]⟩ ::
 ⟨(some 27), none, .p .lenS, [.t 26]⟩ ::
 ⟨(some 28), none, .p .mov, [.c (.int .i64 0)]⟩ ::
 []))
(.block 1 (.loop L_delay_Of_0)))
(.seq (.ops (⟨(some 42), none, .p .mov, [.t 6]⟩ ::
 ⟨(some 6), none, .p .mov, [.t 42]⟩ ::
 ⟨(some 7), none, .p .mov, [.c (.int .i64 0)]⟩ ::
 []))
.ret)))))⟩
abbrev f_delay_Of : Nat := 148
abbrev C_delay_Of : AFunc := C148
def L_delay_Check_0 : AC := (.seq (.ops (⟨(some 12), none, .p (.bin .lss), [.t 11, .t 10]⟩ ::
 []))
(.seq (.cond (.t 12)
.skip
(.exit 0))
(.seq (.block 1 (.seq (.ops (⟨(some 13), none, .p (.iaddrS 3), [.t 9, .t 11]⟩ ::
 ⟨(some 14), none, .r (.loadN 3), [.t 13]⟩ ::
 ⟨(some 4), none, .a (.alloc [(.int .i64 0), (.int .i64 0), .nils]), []⟩ ::
 ⟨none, none, .e (.store 3), [.t 4, .t 14]⟩ ::
 []))
(.seq (.seq (.ops (⟨(some 15), none, .p (.faddr 0), [.t 4]⟩ ::
 ⟨(some 16), none, .r .load1, [.t 15]⟩ ::
 ⟨(some 17), none, .p (.bin .lss), [.t 16, .c (.int .i64 1)]⟩ ::
 ⟨(some 18), none, .p .mov, [.t 17]⟩ ::
 ⟨(some 19), (some (18, false)), .p (.faddr 0), [.t 4]⟩ ::
 ⟨(some 20), (some (18, false)), .r .load1, [.t 19]⟩ ::
 ⟨(some 21), (some (18, false)), .p (.bin .gtr), [.t 20, .c (.int .i64 64)]⟩ ::
 ⟨(some 22), none, .p .pick, [.t 18, .c (.bool true), .t 21]⟩ ::
 ⟨(some 23), none, .p .mov, [.t 22]⟩ ::
 ⟨(some 24), (some (23, false)), .p (.faddr 1), [.t 4]⟩ ::
 ⟨(some 25), (some (23, false)), .r .load1, [.t 24]⟩ ::
 ⟨(some 26), (some (23, false)), .p (.bin .lss), [.t 25, .c (.int .i64 1)]⟩ ::
 ⟨(some 27), none, .p .pick, [.t 23, .c (.bool true), .t 26]⟩ ::
 ⟨(some 28), none, .p .mov, [.t 27]⟩ ::
 ⟨(some 29), (some (28, false)), .p (.faddr 1), [.t 4]⟩ ::
 ⟨(some 30), (some (28, false)), .r .load1, [.t 29]⟩ ::
 ⟨(some 31), (some (28, false)), .p (.faddr 0), [.t 4]⟩ ::
 ⟨(some 32), (some (28, false)), .r .load1, [.t 31]⟩ ::
 ⟨(some 33), (some (28, false)), .p (.bin .gtr), [.t 30, .t 32]⟩ ::
 ⟨(some 34), none, .p .pick, [.t 28, .c (.bool true), .t 33]⟩ ::
 []))
(.cond (.t 34)
(.seq (.ops (⟨(some 2), none, .p .mov, [.c (.int .i64 2)]⟩ ::
 []))
.ret)
.skip))
(.seq (.seq (.dops (⟨(some 35), none, .p (.faddr 2), [.t 4]⟩ ::
 ⟨(some 36), none, .r .load1, [.t 35]⟩ ::
 ⟨(some 37), none, .p (.faddr 2), [.t 4]⟩ ::
 ⟨(some 38), none, .r .load1, [.t 37]⟩ ::
 ⟨(some 39), none, .p .lenS, [.t 38]⟩ ::
 ⟨(some 40), none, .a (.mkslice [(.int .i64 0)] 1 8), [.t 39, .t 39]⟩ ::
 ⟨(some 41), none, .call, [.c (.func (.func 110) [] []), .t 36, .t 40]⟩ ::
 ⟨(some 5), none, .p .mov, [.t 41]⟩ ::
 []) ([] :: [] :: [] :: [] :: [] :: [] :: [] :: [] :: []))
(.seq (.ops (⟨(some 42), none, .p .mov, [.t 5]⟩ ::
 ⟨(some 43), none, .p (.bin .neq), [.t 42, .c (.int .i64 0)]⟩ ::
 []))
(.cond (.t 43)
(.seq (.ops (⟨(some 44), none, .p .mov, [.t 5]⟩ ::
 ⟨(some 2), none, .p .mov, [.t 44]⟩ ::
 []))
.ret)
.skip)))
(.seq (.ops (⟨(some 45), none, .p (.faddr 2), [.t 4]⟩ ::
 ⟨(some 46), none, .r .load1, [.t 45]⟩ ::
 ⟨(some 47), none, .p (.mkfunc (.func 164) 0), [.t 4]⟩ ::
 ⟨(some 48), none, .call, [.c (.func (.func 111) [] []), .t 46, .t 47]⟩ ::
 []))
(.cond (.t 48)
(.seq (.ops (⟨(some 2), none, .p .mov, [.c (.int .i64 2)]⟩ ::
 []))
.ret)
.skip))))))
(.ops (⟨(some 49), none, .p (.bin .add), [.t 11, .c (.int .i64 1)]⟩ ::
 ⟨(some 11), none, .p .mov, [.t 49]⟩ ::
 [])))))
def C154 : AFunc := ⟨50, [.tmp 2],
(.seq (.ops (⟨(some 2), none, .p .mov, [.c (.int .i64 0)]⟩ ::
 []))
(.seq (.seq (.ops (⟨(some 6), none, .p .mov, [.t 0]⟩ ::
 ⟨(some 7), none, .p .lenS, [.t 6]⟩ ::
 ⟨(some 8), none, .p (.bin .gtr), [.t 7, .c (.int .i64 4)]⟩ ::
 []))
(.cond (.t 8)
(.seq (.ops (⟨(some 2), none, .p .mov, [.c (.int .i64 2)]⟩ ::
 []))
.ret)
.skip))
(.seq (.seq (.ops (⟨(some 9), none, .p .mov, [.t 0]⟩ ::
 ⟨(some 10), none, .p .lenS, [.t 9]⟩ ::
 ⟨(some 11), none, .p .mov, [.c (.int .i64 0)]⟩ ::
 []))
(.block 0 (.loop L_delay_Check_0)))
(.seq (.ops (⟨(some 2), none, .p .mov, [.c (.int .i64 0)]⟩ ::
 []))
.ret))))⟩
abbrev f_delay_Check : Nat := 154
abbrev C_delay_Check : AFunc := C154
def C155 : AFunc := ⟨6, [.tmp 4],
(.seq (.ops (⟨(some 2), none, .a .box, [.t 0]⟩ ::
 ⟨(some 3), none, .a .box, [.t 1]⟩ ::
 ⟨(some 4), none, .p .mov, [.c .nilf]⟩ ::
 []))
(.seq (.ops (⟨(some 5), none, .p (.mkfunc (.func 166) 0), [.t 2, .t 3]⟩ ::
 ⟨(some 4), none, .p .mov, [.t 5]⟩ ::
 []))
.ret))⟩
abbrev f_delay_seen_sharers : Nat := 155
abbrev C_delay_seen_sharers : AFunc := C155
def L_slices_Index_int_int_0 : AC := (.seq (.ops (⟨(some 9), none, .p (.bin .lss), [.t 8, .t 7]⟩ ::
 []))
(.seq (.cond (.t 9)
.skip
(.exit 0))
(.seq (.block 1 (.seq (.ops (⟨(some 10), none, .p .mov, [.t 8]⟩ ::
 ⟨(some 5), none, .p .mov, [.t 10]⟩ ::
 []))
(.seq (.ops (⟨(some 11), none, .p .mov, [.t 1]⟩ ::
 ⟨(some 12), none, .p .mov, [.t 0]⟩ ::
 ⟨(some 13), none, .p .mov, [.t 5]⟩ ::
 ⟨(some 14), none, .p (.iaddrS 1), [.t 12, .t 13]⟩ ::
 ⟨(some 15), none, .r .load1, [.t 14]⟩ ::
 ⟨(some 16), none, .p (.bin .eql), [.t 11, .t 15]⟩ ::
 []))
(.cond (.t 16)
(.seq (.ops (⟨(some 17), none, .p .mov, [.t 5]⟩ ::
 ⟨(some 4), none, .p .mov, [.t 17]⟩ ::
 []))
.ret)
.skip))))
(.ops (⟨(some 18), none, .p (.bin .add), [.t 8, .c (.int .i64 1)]⟩ ::
 ⟨(some 8), none, .p .mov, [.t 18]⟩ ::
 [])))))
def C156 : AFunc := ⟨19, [.tmp 4],
(.seq (.ops (⟨(some 4), none, .p .mov, [.c (.int .i64 0)]⟩ ::
 []))
(.seq (.seq (.ops (⟨(some 6), none, .p .mov, [.t 0]⟩ ::
 ⟨(some 7), none, .p .lenS, [.t 6]⟩ ::
 ⟨(some 8), none, .p .mov, [.c (.int .i64 0)]⟩ ::
 []))
(.block 0 (.loop L_slices_Index_int_int_0)))
(.seq (.ops (⟨(some 4), none, .p .mov, [.c (.int .i64 (-1))]⟩ ::
 []))
.ret)))⟩
abbrev f_slices_Index_int_int : Nat := 156
abbrev C_slices_Index_int_int : AFunc := C156
def C157 : AFunc := ⟨29, [.tmp 4, .tmp 5],
(.seq (.ops (⟨(some 4), none, .p .mov, [.c (.int .i64 0)]⟩ ::
 ⟨(some 5), none, .p .mov, [.c (.int .i64 0)]⟩ ::
 []))
(.seq (.seq (.ops (⟨(some 8), none, .p .mov, [.t 0]⟩ ::
 ⟨(some 9), none, .p .mov, [.t 1]⟩ ::
 ⟨(some 10), none, .a (.bslice [(.int .i64 0)] 2 1 [0, 1]), [.t 8, .t 9]⟩ ::
 ⟨(some 11), none, .call, [.c (.func (.func 138) [] []), .t 10]⟩ ::
 ⟨(some 12), none, .p .not, [.t 11]⟩ ::
 []))
(.cond (.t 12)
(.seq (.ops (⟨(some 4), none, .p .mov, [.c (.int .i64 0)]⟩ ::
 ⟨(some 5), none, .p .mov, [.c (.int .i64 2)]⟩ ::
 []))
.ret)
.skip))
(.seq (.ops (⟨(some 14), none, .p .mov, [.t 0]⟩ ::
 ⟨(some 15), none, .p (.conv .u64), [.t 14]⟩ ::
 ⟨(some 16), none, .p .mov, [.t 1]⟩ ::
 ⟨(some 17), none, .p (.conv .u64), [.t 16]⟩ ::
 ⟨(some 18), none, .call, [.c (.func (.func 168) [] []), .t 15, .t 17]⟩ ::
 ⟨(some 13), none, .p .mov, [.t 18]⟩ ::
 ⟨(some 19), none, .p (.ext 0), [.t 13]⟩ ::
 ⟨(some 20), none, .p (.ext 1), [.t 13]⟩ ::
 ⟨(some 6), none, .p .mov, [.t 19]⟩ ::
 ⟨(some 7), none, .p .mov, [.t 20]⟩ ::
 []))
(.seq (.seq (.ops (⟨(some 21), none, .p .mov, [.t 6]⟩ ::
 ⟨(some 22), none, .p (.bin .gtr), [.t 21, .c (.int .u64 0)]⟩ ::
 ⟨(some 23), none, .p .mov, [.t 22]⟩ ::
 ⟨(some 24), (some (23, false)), .p .mov, [.t 7]⟩ ::
 ⟨(some 25), (some (23, false)), .p (.bin .gtr), [.t 24, .c (.int .u64 1099511627776)]⟩ ::
 ⟨(some 26), none, .p .pick, [.t 23, .c (.bool true), .t 25]⟩ ::
 []))
(.cond (.t 26)
(.seq (.ops (⟨(some 4), none, .p .mov, [.c (.int .i64 0)]⟩ ::
 ⟨(some 5), none, .p .mov, [.c (.int .i64 10)]⟩ ::
 []))
.ret)
.skip))
(.seq (.ops (⟨(some 27), none, .p .mov, [.t 7]⟩ ::
 ⟨(some 28), none, .p (.conv .i64), [.t 27]⟩ ::
 ⟨(some 4), none, .p .mov, [.t 28]⟩ ::
 ⟨(some 5), none, .p .mov, [.c (.int .i64 0)]⟩ ::
 []))
.ret)))))⟩
abbrev f_ticks_Mul : Nat := 157
abbrev C_ticks_Mul : AFunc := C157
def L_slices_IndexFunc_int_int_0 : AC := (.seq (.ops (⟨(some 9), none, .p (.bin .lss), [.t 8, .t 7]⟩ ::
 []))
(.seq (.cond (.t 9)
.skip
(.exit 0))
(.seq (.block 1 (.seq (.ops (⟨(some 10), none, .p .mov, [.t 8]⟩ ::
 ⟨(some 5), none, .p .mov, [.t 10]⟩ ::
 []))
(.seq (.ops (⟨(some 11), none, .p .mov, [.t 1]⟩ ::
 ⟨(some 12), none, .p .mov, [.t 0]⟩ ::
 ⟨(some 13), none, .p .mov, [.t 5]⟩ ::
 ⟨(some 14), none, .p (.iaddrS 1), [.t 12, .t 13]⟩ ::
 ⟨(some 15), none, .r .load1, [.t 14]⟩ ::
 ⟨(some 16), none, .call, [.t 11, .t 15]⟩ ::
 []))
(.cond (.t 16)
(.seq (.ops (⟨(some 17), none, .p .mov, [.t 5]⟩ ::
 ⟨(some 4), none, .p .mov, [.t 17]⟩ ::
 []))
.ret)
.skip))))
(.ops (⟨(some 18), none, .p (.bin .add), [.t 8, .c (.int .i64 1)]⟩ ::
 ⟨(some 8), none, .p .mov, [.t 18]⟩ ::
 [])))))
def C158 : AFunc := ⟨19, [.tmp 4],
(.seq (.ops (⟨(some 4), none, .p .mov, [.c (.int .i64 0)]⟩ ::
 []))
(.seq (.seq (.ops (⟨(some 6), none, .p .mov, [.t 0]⟩ ::
 ⟨(some 7), none, .p .lenS, [.t 6]⟩ ::
 ⟨(some 8), none, .p .mov, [.c (.int .i64 0)]⟩ ::
 []))
(.block 0 (.loop L_slices_IndexFunc_int_int_0)))
(.seq (.ops (⟨(some 4), none, .p .mov, [.c (.int .i64 (-1))]⟩ ::
 []))
.ret)))⟩
abbrev f_slices_IndexFunc_int_int : Nat := 158
abbrev C_slices_IndexFunc_int_int : AFunc := C158
def C159 : AFunc := ⟨16, [.tmp 3],
(.seq (.ops (⟨(some 2), none, .a .box, [.t 0]⟩ ::
 ⟨(some 3), none, .p .mov, [.c (.int .i64 0)]⟩ ::
 []))
(.seq (.seq (.ops (⟨(some 4), none, .r .load1, [.t 1]⟩ ::
 ⟨(some 5), none, .p (.faddr 1), [.t 2]⟩ ::
 ⟨(some 6), none, .r .load1, [.t 5]⟩ ::
 ⟨(some 7), none, .p (.bin .lss), [.t 4, .t 6]⟩ ::
 []))
(.cond (.t 7)
(.seq (.ops (⟨(some 3), none, .p .mov, [.c (.int .i64 0)]⟩ ::
 []))
.ret)
.skip))
(.seq (.ops (⟨(some 8), none, .r .load1, [.t 1]⟩ ::
 ⟨(some 9), none, .p (.faddr 1), [.t 2]⟩ ::
 ⟨(some 10), none, .r .load1, [.t 9]⟩ ::
 ⟨(some 11), none, .p (.bin .sub), [.t 8, .t 10]⟩ ::
 ⟨(some 12), none, .p (.faddr 0), [.t 2]⟩ ::
 ⟨(some 13), none, .r .load1, [.t 12]⟩ ::
 ⟨(some 14), none, .p (.bin .quo), [.t 11, .t 13]⟩ ::
 ⟨(some 15), none, .p (.bin .add), [.c (.int .i64 1), .t 14]⟩ ::
 ⟨(some 3), none, .p .mov, [.t 15]⟩ ::
 []))
.ret)))⟩
abbrev f_demand_Of_1 : Nat := 159
abbrev C_demand_Of_1 : AFunc := C159
def C160 : AFunc := ⟨27, [.cell 4 2 true, .tmp 5],
(.seq (.ops (⟨(some 4), none, .a (.alloc [(.int .i64 0), (.int .i64 0)]), []⟩ ::
 ⟨(some 5), none, .p .mov, [.c (.bool false)]⟩ ::
 []))
(.seq (.ops (⟨(some 7), none, .p .mov, [.t 0]⟩ ::
 ⟨(some 8), none, .p .mov, [.t 1]⟩ ::
 ⟨(some 9), none, .p (.build [(.int .i64 0), (.int .i64 0)] [(0, 1), (1, 1)]), [.t 7, .t 8]⟩ ::
 ⟨(some 10), none, .p (.build [(.int .i64 0), (.int .i64 0)] [(0, 2)]), [.t 9]⟩ ::
 ⟨(some 6), none, .a (.alloc [(.int .i64 0), (.int .i64 0)]), []⟩ ::
 ⟨none, none, .e (.store 2), [.t 6, .t 10]⟩ ::
 []))
(.seq (.ops (⟨(some 11), none, .r (.loadN 2), [.t 6]⟩ ::
 ⟨(some 12), none, .p .mov, [.t 0]⟩ ::
 ⟨(some 13), none, .p (.bin .leq), [.c (.int .i64 1), .t 12]⟩ ::
 ⟨(some 14), none, .p .mov, [.t 13]⟩ ::
 ⟨(some 15), (some (14, true)), .p .mov, [.t 0]⟩ ::
 ⟨(some 16), (some (14, true)), .p (.bin .leq), [.t 15, .c (.int .i64 64)]⟩ ::
 ⟨(some 17), none, .p .pick, [.t 14, .t 16, .c (.bool false)]⟩ ::
 ⟨(some 18), none, .p .mov, [.t 17]⟩ ::
 ⟨(some 19), (some (18, true)), .p .mov, [.t 1]⟩ ::
 ⟨(some 20), (some (18, true)), .p (.bin .leq), [.c (.int .i64 1), .t 19]⟩ ::
 ⟨(some 21), none, .p .pick, [.t 18, .t 20, .c (.bool false)]⟩ ::
 ⟨(some 22), none, .p .mov, [.t 21]⟩ ::
 ⟨(some 23), (some (22, true)), .p .mov, [.t 1]⟩ ::
 ⟨(some 24), (some (22, true)), .p .mov, [.t 0]⟩ ::
 ⟨(some 25), (some (22, true)), .p (.bin .leq), [.t 23, .t 24]⟩ ::
 ⟨(some 26), none, .p .pick, [.t 22, .t 25, .c (.bool false)]⟩ ::
 ⟨none, none, .e (.store 2), [.t 4, .t 11]⟩ ::
 ⟨(some 5), none, .p .mov, [.t 26]⟩ ::
 []))
.ret)))⟩
abbrev f_supply_of : Nat := 160
abbrev C_supply_of : AFunc := C160
def C161 : AFunc := ⟨40, [.tmp 4],
(.seq (.ops (⟨(some 2), none, .a .box, [.t 0]⟩ ::
 ⟨(some 4), none, .p .mov, [.c (.int .i64 0)]⟩ ::
 []))
(.seq (.ops (⟨(some 7), none, .p (.faddr 0), [.t 2]⟩ ::
 ⟨(some 8), none, .r (.loadN 2), [.t 7]⟩ ::
 ⟨(some 9), none, .call, [.c (.func (.func 169) [] []), .t 8]⟩ ::
 ⟨(some 5), none, .p .mov, [.t 9]⟩ ::
 []))
(.seq (.seq (.ops (⟨(some 10), none, .p .mov, [.t 1]⟩ ::
 ⟨(some 11), none, .p .mov, [.t 5]⟩ ::
 ⟨(some 12), none, .p (.bin .lss), [.t 10, .t 11]⟩ ::
 []))
(.cond (.t 12)
(.seq (.ops (⟨(some 4), none, .p .mov, [.c (.int .i64 0)]⟩ ::
 []))
.ret)
.skip))
(.seq (.ops (⟨(some 13), none, .p .mov, [.t 1]⟩ ::
 ⟨(some 14), none, .p .mov, [.t 5]⟩ ::
 ⟨(some 15), none, .p (.bin .sub), [.t 13, .t 14]⟩ ::
 ⟨(some 16), none, .p (.faddr 0), [.t 2]⟩ ::
 ⟨(some 17), none, .p (.faddr 0), [.t 16]⟩ ::
 ⟨(some 18), none, .r .load1, [.t 17]⟩ ::
 ⟨(some 19), none, .call, [.c (.func (.func 170) [] []), .t 15, .t 18]⟩ ::
 ⟨(some 6), none, .p .mov, [.t 19]⟩ ::
 []))
(.seq (.dops (⟨(some 20), none, .p .mov, [.t 6]⟩ ::
 ⟨(some 21), none, .p (.faddr 0), [.t 2]⟩ ::
 ⟨(some 22), none, .p (.faddr 1), [.t 21]⟩ ::
 ⟨(some 23), none, .r .load1, [.t 22]⟩ ::
 ⟨(some 24), none, .p (.bin .mul), [.t 20, .t 23]⟩ ::
 ⟨(some 25), none, .p .mov, [.t 1]⟩ ::
 ⟨(some 26), none, .p .mov, [.t 5]⟩ ::
 ⟨(some 27), none, .p (.bin .sub), [.t 25, .t 26]⟩ ::
 ⟨(some 28), none, .p .mov, [.t 6]⟩ ::
 ⟨(some 29), none, .p (.faddr 0), [.t 2]⟩ ::
 ⟨(some 30), none, .p (.faddr 0), [.t 29]⟩ ::
 ⟨(some 31), none, .r .load1, [.t 30]⟩ ::
 ⟨(some 32), none, .p (.bin .mul), [.t 28, .t 31]⟩ ::
 ⟨(some 33), none, .p (.bin .sub), [.t 27, .t 32]⟩ ::
 ⟨(some 34), none, .p (.faddr 0), [.t 2]⟩ ::
 ⟨(some 35), none, .r (.loadN 2), [.t 34]⟩ ::
 ⟨(some 36), none, .call, [.c (.func (.func 169) [] []), .t 35]⟩ ::
 ⟨(some 37), none, .p (.bin .sub), [.t 33, .t 36]⟩ ::
 ⟨(some 38), none, .p .mx, [.c (.int .i64 0), .t 37]⟩ ::
 ⟨(some 39), none, .p (.bin .add), [.t 24, .t 38]⟩ ::
 ⟨(some 4), none, .p .mov, [.t 39]⟩ ::
 []) ([] :: [] :: [] :: [0, 17] :: [] :: [] :: [] :: [] :: [] :: [] :: [] :: [0, 17] :: [] :: [] :: [] :: [] :: [] :: [] :: [] :: [] :: [] :: []))
.ret)))))⟩
abbrev f_supply_server_gives : Nat := 161
abbrev C_supply_server_gives : AFunc := C161
def C162 : AFunc := ⟨21, [.tmp 4],
(.seq (.ops (⟨(some 2), none, .a .box, [.t 0]⟩ ::
 ⟨(some 3), none, .a .box, [.t 1]⟩ ::
 ⟨(some 4), none, .p .mov, [.c (.int .i64 0)]⟩ ::
 []))
(.seq (.seq (.ops (⟨(some 5), none, .p (.faddr 5), [.t 3]⟩ ::
 ⟨(some 6), none, .r .load1, [.t 5]⟩ ::
 ⟨(some 7), none, .p (.bin .eql), [.t 6, .c (.int .i64 0)]⟩ ::
 []))
(.cond (.t 7)
(.seq (.ops (⟨(some 8), none, .p (.faddr 4), [.t 3]⟩ ::
 ⟨(some 9), none, .r .load1, [.t 8]⟩ ::
 ⟨(some 4), none, .p .mov, [.t 9]⟩ ::
 []))
.ret)
.skip))
(.seq (.dops (⟨(some 10), none, .p (.faddr 4), [.t 3]⟩ ::
 ⟨(some 11), none, .r .load1, [.t 10]⟩ ::
 ⟨(some 12), none, .r (.loadN 5), [.t 2]⟩ ::
 ⟨(some 13), none, .r (.loadN 8), [.t 3]⟩ ::
 ⟨(some 14), none, .call, [.c (.func (.func 135) [] []), .t 12, .t 13]⟩ ::
 ⟨(some 15), none, .p (.faddr 6), [.t 3]⟩ ::
 ⟨(some 16), none, .r .load1, [.t 15]⟩ ::
 ⟨(some 17), none, .p (.bin .mul), [.c (.int .i64 2), .t 16]⟩ ::
 ⟨(some 18), none, .p (.bin .add), [.t 14, .t 17]⟩ ::
 ⟨(some 19), none, .p (.bin .sub), [.t 18, .c (.int .i64 1)]⟩ ::
 ⟨(some 20), none, .p .mx, [.t 11, .t 19]⟩ ::
 ⟨(some 4), none, .p .mov, [.t 20]⟩ ::
 []) ([] :: [0, 5] :: [] :: [] :: [] :: [] :: [0, 5] :: [] :: [] :: [] :: [] :: [] :: []))
.ret)))⟩
abbrev f_delay_seen_by : Nat := 162
abbrev C_delay_seen_by : AFunc := C162
def C164 : AFunc := ⟨9, [.tmp 3],
(.seq (.ops (⟨(some 2), none, .a .box, [.t 0]⟩ ::
 ⟨(some 3), none, .p .mov, [.c (.bool false)]⟩ ::
 []))
(.seq (.ops (⟨(some 4), none, .r (.loadN 8), [.t 2]⟩ ::
 ⟨(some 5), none, .p (.faddr 1), [.t 1]⟩ ::
 ⟨(some 6), none, .r .load1, [.t 5]⟩ ::
 ⟨(some 7), none, .call, [.c (.func (.func 165) [] []), .t 4, .t 6]⟩ ::
 ⟨(some 8), none, .p .not, [.t 7]⟩ ::
 ⟨(some 3), none, .p .mov, [.t 8]⟩ ::
 []))
.ret))⟩
abbrev f_delay_Check_1 : Nat := 164
abbrev C_delay_Check_1 : AFunc := C164
def C165 : AFunc := ⟨56, [.tmp 4],
(.seq (.ops (⟨(some 2), none, .a .box, [.t 0]⟩ ::
 ⟨(some 4), none, .p .mov, [.c (.bool false)]⟩ ::
 []))
(.seq (.block 0 (.seq (.seq (.ops (⟨(some 6), none, .p (.faddr 4), [.t 2]⟩ ::
 ⟨(some 7), none, .r .load1, [.t 6]⟩ ::
 ⟨(some 8), none, .p (.bin .lss), [.t 7, .c (.int .i64 0)]⟩ ::
 ⟨(some 5), none, .p .mov, [.t 8]⟩ ::
 []))
(.cond (.t 5)
.skip
(.seq (.ops (⟨(some 9), none, .p (.faddr 4), [.t 2]⟩ ::
 ⟨(some 10), none, .r .load1, [.t 9]⟩ ::
 ⟨(some 11), none, .p (.faddr 2), [.t 2]⟩ ::
 ⟨(some 12), none, .r .load1, [.t 11]⟩ ::
 ⟨(some 13), none, .p (.bin .gtr), [.t 10, .t 12]⟩ ::
 ⟨(some 5), none, .p .mov, [.t 13]⟩ ::
 []))
(.cond (.t 5)
.skip
(.seq (.ops (⟨(some 14), none, .p (.faddr 5), [.t 2]⟩ ::
 ⟨(some 15), none, .r .load1, [.t 14]⟩ ::
 ⟨(some 16), none, .p (.bin .lss), [.t 15, .c (.int .i64 0)]⟩ ::
 ⟨(some 5), none, .p .mov, [.t 16]⟩ ::
 []))
(.cond (.t 5)
.skip
(.ops (⟨(some 17), none, .p (.faddr 5), [.t 2]⟩ ::
 ⟨(some 18), none, .r .load1, [.t 17]⟩ ::
 ⟨(some 19), none, .p (.bin .gtr), [.t 18, .c (.int .i64 4)]⟩ ::
 ⟨(some 5), none, .p .mov, [.t 19]⟩ ::
 []))))))))
(.cond (.t 5)
(.seq (.ops (⟨(some 4), none, .p .mov, [.c (.bool false)]⟩ ::
 []))
.ret)
(.seq (.ops (⟨(some 21), none, .p (.faddr 5), [.t 2]⟩ ::
 ⟨(some 22), none, .r .load1, [.t 21]⟩ ::
 ⟨(some 23), none, .p (.bin .eql), [.t 22, .c (.int .i64 0)]⟩ ::
 ⟨(some 20), none, .p .mov, [.t 23]⟩ ::
 []))
(.cond (.t 20)
(.seq (.ops (⟨(some 24), none, .p (.faddr 6), [.t 2]⟩ ::
 ⟨(some 25), none, .r .load1, [.t 24]⟩ ::
 ⟨(some 26), none, .p (.bin .eql), [.t 25, .c (.int .i64 0)]⟩ ::
 ⟨(some 27), none, .p .mov, [.t 26]⟩ ::
 ⟨(some 28), (some (27, true)), .p (.faddr 7), [.t 2]⟩ ::
 ⟨(some 29), (some (27, true)), .r .load1, [.t 28]⟩ ::
 ⟨(some 30), (some (27, true)), .p (.bin .eql), [.t 29, .c (.int .i64 0)]⟩ ::
 ⟨(some 31), none, .p .pick, [.t 27, .t 30, .c (.bool false)]⟩ ::
 ⟨(some 4), none, .p .mov, [.t 31]⟩ ::
 []))
.ret)
.skip)))))
(.seq (.dops (⟨(some 32), none, .p (.faddr 6), [.t 2]⟩ ::
 ⟨(some 33), none, .r .load1, [.t 32]⟩ ::
 ⟨(some 34), none, .p (.bin .leq), [.c (.int .i64 1), .t 33]⟩ ::
 ⟨(some 35), none, .p .mov, [.t 34]⟩ ::
 ⟨(some 36), (some (35, true)), .p (.faddr 6), [.t 2]⟩ ::
 ⟨(some 37), (some (35, true)), .r .load1, [.t 36]⟩ ::
 ⟨(some 38), (some (35, true)), .p .mov, [.t 1]⟩ ::
 ⟨(some 39), (some (35, true)), .p (.bin .leq), [.t 37, .t 38]⟩ ::
 ⟨(some 40), none, .p .pick, [.t 35, .t 39, .c (.bool false)]⟩ ::
 ⟨(some 41), none, .p .mov, [.t 40]⟩ ::
 ⟨(some 42), (some (41, true)), .p (.faddr 7), [.t 2]⟩ ::
 ⟨(some 43), (some (41, true)), .r .load1, [.t 42]⟩ ::
 ⟨(some 44), (some (41, true)), .p (.bin .leq), [.c (.int .i64 1), .t 43]⟩ ::
 ⟨(some 45), none, .p .pick, [.t 41, .t 44, .c (.bool false)]⟩ ::
 ⟨(some 46), none, .p .mov, [.t 45]⟩ ::
 ⟨(some 47), (some (46, true)), .p (.faddr 7), [.t 2]⟩ ::
 ⟨(some 48), (some (46, true)), .r .load1, [.t 47]⟩ ::
 ⟨(some 49), (some (46, true)), .p (.faddr 2), [.t 2]⟩ ::
 ⟨(some 50), (some (46, true)), .r .load1, [.t 49]⟩ ::
 ⟨(some 51), (some (46, true)), .p (.faddr 6), [.t 2]⟩ ::
 ⟨(some 52), (some (46, true)), .r .load1, [.t 51]⟩ ::
 ⟨(some 53), (some (46, true)), .p (.bin .quo), [.t 50, .t 52]⟩ ::
 ⟨(some 54), (some (46, true)), .p (.bin .leq), [.t 48, .t 53]⟩ ::
 ⟨(some 55), none, .p .pick, [.t 46, .t 54, .c (.bool false)]⟩ ::
 ⟨(some 4), none, .p .mov, [.t 55]⟩ ::
 []) ([] :: [] :: [] :: [] :: [] :: [] :: [] :: [] :: [] :: [] :: [] :: [] :: [] :: [] :: [] :: [] :: [] :: [] :: [] :: [] :: [] :: [] :: [] :: [] :: [] :: []))
.ret)))⟩
abbrev f_delay_may : Nat := 165
abbrev C_delay_may : AFunc := C165
def L_delay_seen_sharers_1_0 : AC := (.seq (.ops (⟨(some 11), none, .p (.bin .lss), [.t 10, .t 9]⟩ ::
 []))
(.seq (.cond (.t 11)
.skip
(.exit 0))
(.seq (.block 1 (.seq (.ops (⟨(some 12), none, .p .mov, [.t 10]⟩ ::
 ⟨(some 13), none, .p (.iaddrS 3), [.t 8, .t 10]⟩ ::
 ⟨(some 14), none, .r (.loadN 3), [.t 13]⟩ ::
 ⟨(some 5), none, .a (.alloc [(.int .i64 0), (.int .i64 0), .nils]), []⟩ ::
 ⟨(some 4), none, .p .mov, [.t 12]⟩ ::
 ⟨none, none, .e (.store 3), [.t 5, .t 14]⟩ ::
 []))
(.seq (.ops (⟨(some 15), none, .p (.faddr 2), [.t 5]⟩ ::
 ⟨(some 16), none, .r .load1, [.t 15]⟩ ::
 ⟨(some 17), none, .p (.mkfunc (.func 167) 0), [.t 2]⟩ ::
 ⟨(some 18), none, .call, [.c (.func (.func 111) [] []), .t 16, .t 17]⟩ ::
 ⟨(some 6), none, .p .mov, [.t 18]⟩ ::
 []))
(.seq (.ops (⟨(some 19), none, .p .mov, [.t 4]⟩ ::
 ⟨(some 20), none, .p (.faddr 4), [.t 1]⟩ ::
 ⟨(some 21), none, .r .load1, [.t 20]⟩ ::
 ⟨(some 22), none, .p (.bin .neq), [.t 19, .t 21]⟩ ::
 ⟨(some 23), none, .p .mov, [.t 22]⟩ ::
 ⟨(some 24), (some (23, true)), .p .mov, [.t 6]⟩ ::
 ⟨(some 25), none, .p .pick, [.t 23, .t 24, .c (.bool false)]⟩ ::
 ⟨(some 26), none, .p .mov, [.t 25]⟩ ::
 ⟨(some 27), (some (26, true)), .p .mov, [.t 0]⟩ ::
 ⟨(some 28), (some (26, true)), .r (.loadN 3), [.t 5]⟩ ::
 ⟨(some 29), (some (26, true)), .call, [.t 27, .t 28]⟩ ::
 ⟨(some 30), (some (26, true)), .p .not, [.t 29]⟩ ::
 ⟨(some 31), none, .p .pick, [.t 26, .t 30, .c (.bool false)]⟩ ::
 []))
(.cond (.t 31)
.ret
.skip)))))
(.ops (⟨(some 32), none, .p (.bin .add), [.t 10, .c (.int .i64 1)]⟩ ::
 ⟨(some 10), none, .p .mov, [.t 32]⟩ ::
 [])))))
def C166 : AFunc := ⟨33, [],
(.seq (.ops (⟨(some 7), none, .p (.faddr 3), [.t 1]⟩ ::
 ⟨(some 8), none, .r .load1, [.t 7]⟩ ::
 ⟨(some 9), none, .p .lenS, [.t 8]⟩ ::
 ⟨(some 10), none, .p .mov, [.c (.int .i64 0)]⟩ ::
 []))
(.block 0 (.loop L_delay_seen_sharers_1_0)))⟩
abbrev f_delay_seen_sharers_1 : Nat := 166
abbrev C_delay_seen_sharers_1 : AFunc := C166
def C167 : AFunc := ⟨8, [.tmp 3],
(.seq (.ops (⟨(some 2), none, .a .box, [.t 0]⟩ ::
 ⟨(some 3), none, .p .mov, [.c (.bool false)]⟩ ::
 []))
(.seq (.ops (⟨(some 4), none, .p (.faddr 5), [.t 2]⟩ ::
 ⟨(some 5), none, .r .load1, [.t 4]⟩ ::
 ⟨(some 6), none, .r .load1, [.t 1]⟩ ::
 ⟨(some 7), none, .p (.bin .eql), [.t 5, .t 6]⟩ ::
 ⟨(some 3), none, .p .mov, [.t 7]⟩ ::
 []))
.ret))⟩
abbrev f_delay_seen_sharers_1_1 : Nat := 167
abbrev C_delay_seen_sharers_1_1 : AFunc := C167
def C168 : AFunc := ⟨51, [.tmp 4, .tmp 5],
(.seq (.ops (⟨(some 4), none, .p .mov, [.c (.int .u64 0)]⟩ ::
 ⟨(some 5), none, .p .mov, [.c (.int .u64 0)]⟩ ::
 []))
(.seq (.ops (⟨(some 14), none, .p .mov, [.t 0]⟩ ::
 ⟨(some 15), none, .p (.bin .and), [.t 14, .c (.int .u64 4294967295)]⟩ ::
 ⟨(some 6), none, .p .mov, [.t 15]⟩ ::
 []))
(.seq (.ops (⟨(some 16), none, .p .mov, [.t 0]⟩ ::
 ⟨(some 17), none, .p (.bin .shr), [.t 16, .c (.int .u64 32)]⟩ ::
 ⟨(some 7), none, .p .mov, [.t 17]⟩ ::
 []))
(.seq (.ops (⟨(some 18), none, .p .mov, [.t 1]⟩ ::
 ⟨(some 19), none, .p (.bin .and), [.t 18, .c (.int .u64 4294967295)]⟩ ::
 ⟨(some 8), none, .p .mov, [.t 19]⟩ ::
 []))
(.seq (.ops (⟨(some 20), none, .p .mov, [.t 1]⟩ ::
 ⟨(some 21), none, .p (.bin .shr), [.t 20, .c (.int .u64 32)]⟩ ::
 ⟨(some 9), none, .p .mov, [.t 21]⟩ ::
 []))
(.seq (.ops (⟨(some 22), none, .p .mov, [.t 6]⟩ ::
 ⟨(some 23), none, .p .mov, [.t 8]⟩ ::
 ⟨(some 24), none, .p (.bin .mul), [.t 22, .t 23]⟩ ::
 ⟨(some 10), none, .p .mov, [.t 24]⟩ ::
 []))
(.seq (.ops (⟨(some 25), none, .p .mov, [.t 7]⟩ ::
 ⟨(some 26), none, .p .mov, [.t 8]⟩ ::
 ⟨(some 27), none, .p (.bin .mul), [.t 25, .t 26]⟩ ::
 ⟨(some 28), none, .p .mov, [.t 10]⟩ ::
 ⟨(some 29), none, .p (.bin .shr), [.t 28, .c (.int .u64 32)]⟩ ::
 ⟨(some 30), none, .p (.bin .add), [.t 27, .t 29]⟩ ::
 ⟨(some 11), none, .p .mov, [.t 30]⟩ ::
 []))
(.seq (.ops (⟨(some 31), none, .p .mov, [.t 11]⟩ ::
 ⟨(some 32), none, .p (.bin .and), [.t 31, .c (.int .u64 4294967295)]⟩ ::
 ⟨(some 12), none, .p .mov, [.t 32]⟩ ::
 []))
(.seq (.ops (⟨(some 33), none, .p .mov, [.t 11]⟩ ::
 ⟨(some 34), none, .p (.bin .shr), [.t 33, .c (.int .u64 32)]⟩ ::
 ⟨(some 13), none, .p .mov, [.t 34]⟩ ::
 []))
(.seq (.ops (⟨(some 35), none, .p .mov, [.t 12]⟩ ::
 ⟨(some 36), none, .p .mov, [.t 6]⟩ ::
 ⟨(some 37), none, .p .mov, [.t 9]⟩ ::
 ⟨(some 38), none, .p (.bin .mul), [.t 36, .t 37]⟩ ::
 ⟨(some 39), none, .p (.bin .add), [.t 35, .t 38]⟩ ::
 ⟨(some 12), none, .p .mov, [.t 39]⟩ ::
 []))
(.seq (.ops (⟨(some 40), none, .p .mov, [.t 7]⟩ ::
 ⟨(some 41), none, .p .mov, [.t 9]⟩ ::
 ⟨(some 42), none, .p (.bin .mul), [.t 40, .t 41]⟩ ::
 ⟨(some 43), none, .p .mov, [.t 13]⟩ ::
 ⟨(some 44), none, .p (.bin .add), [.t 42, .t 43]⟩ ::
 ⟨(some 45), none, .p .mov, [.t 12]⟩ ::
 ⟨(some 46), none, .p (.bin .shr), [.t 45, .c (.int .u64 32)]⟩ ::
 ⟨(some 47), none, .p (.bin .add), [.t 44, .t 46]⟩ ::
 ⟨(some 4), none, .p .mov, [.t 47]⟩ ::
 []))
(.seq (.ops (⟨(some 48), none, .p .mov, [.t 0]⟩ ::
 ⟨(some 49), none, .p .mov, [.t 1]⟩ ::
 ⟨(some 50), none, .p (.bin .mul), [.t 48, .t 49]⟩ ::
 ⟨(some 5), none, .p .mov, [.t 50]⟩ ::
 []))
.ret))))))))))))⟩
abbrev f_math_bits_Mul64 : Nat := 168
abbrev C_math_bits_Mul64 : AFunc := C168
def C169 : AFunc := ⟨8, [.tmp 2],
(.seq (.ops (⟨(some 1), none, .a .box, [.t 0]⟩ ::
 ⟨(some 2), none, .p .mov, [.c (.int .i64 0)]⟩ ::
 []))
(.seq (.ops (⟨(some 3), none, .p (.faddr 0), [.t 1]⟩ ::
 ⟨(some 4), none, .r .load1, [.t 3]⟩ ::
 ⟨(some 5), none, .p (.faddr 1), [.t 1]⟩ ::
 ⟨(some 6), none, .r .load1, [.t 5]⟩ ::
 ⟨(some 7), none, .p (.bin .sub), [.t 4, .t 6]⟩ ::
 ⟨(some 2), none, .p .mov, [.t 7]⟩ ::
 []))
.ret))⟩
abbrev f_supply_pair_idle : Nat := 169
abbrev C_supply_pair_idle : AFunc := C169
def C170 : AFunc := ⟨14, [.tmp 4],
(.seq (.ops (⟨(some 4), none, .p .mov, [.c (.int .i64 0)]⟩ ::
 []))
(.seq (.ops (⟨(some 8), none, .p .mov, [.t 0]⟩ ::
 ⟨(some 9), none, .p .mov, [.t 1]⟩ ::
 ⟨(some 10), none, .call, [.c (.func (.func 171) [] []), .t 8, .t 9]⟩ ::
 ⟨(some 7), none, .p .mov, [.t 10]⟩ ::
 ⟨(some 11), none, .p (.ext 0), [.t 7]⟩ ::
 ⟨(some 12), none, .p (.ext 1), [.t 7]⟩ ::
 ⟨(some 5), none, .p .mov, [.t 11]⟩ ::
 ⟨(some 6), none, .p .mov, [.t 12]⟩ ::
 []))
(.seq (.ops (⟨(some 13), none, .p .mov, [.t 5]⟩ ::
 ⟨(some 4), none, .p .mov, [.t 13]⟩ ::
 []))
.ret)))⟩
abbrev f_supply_over : Nat := 170
abbrev C_supply_over : AFunc := C170
def C171 : AFunc := ⟨18, [.tmp 4, .tmp 5],
(.seq (.ops (⟨(some 4), none, .p .mov, [.c (.int .i64 0)]⟩ ::
 ⟨(some 5), none, .p .mov, [.c (.int .i64 0)]⟩ ::
 []))
(.seq (.seq (.ops (⟨(some 6), none, .p .mov, [.t 0]⟩ ::
 ⟨(some 7), none, .p .mov, [.t 1]⟩ ::
 ⟨(some 8), none, .a (.bslice [(.int .i64 0)] 2 1 [0, 1]), [.t 6, .t 7]⟩ ::
 ⟨(some 9), none, .call, [.c (.func (.func 138) [] []), .t 8]⟩ ::
 ⟨(some 10), none, .p .not, [.t 9]⟩ ::
 ⟨(some 11), none, .p .mov, [.t 10]⟩ ::
 ⟨(some 12), (some (11, false)), .p .mov, [.t 1]⟩ ::
 ⟨(some 13), (some (11, false)), .p (.bin .eql), [.t 12, .c (.int .i64 0)]⟩ ::
 ⟨(some 14), none, .p .pick, [.t 11, .c (.bool true), .t 13]⟩ ::
 []))
(.cond (.t 14)
(.seq (.ops (⟨(some 4), none, .p .mov, [.c (.int .i64 0)]⟩ ::
 ⟨(some 5), none, .p .mov, [.c (.int .i64 2)]⟩ ::
 []))
.ret)
.skip))
(.seq (.ops (⟨(some 15), none, .p .mov, [.t 0]⟩ ::
 ⟨(some 16), none, .p .mov, [.t 1]⟩ ::
 ⟨(some 17), none, .p (.bin .quo), [.t 15, .t 16]⟩ ::
 ⟨(some 4), none, .p .mov, [.t 17]⟩ ::
 ⟨(some 5), none, .p .mov, [.c (.int .i64 0)]⟩ ::
 []))
.ret)))⟩
abbrev f_ticks_Div : Nat := 171
abbrev C_ticks_Div : AFunc := C171
def T : Tr AFunc := (.node (.node (.node (.node (.node (.node .nil none (.node (.node .nil (some C159) .nil) (some C95) .nil)) (some C15) (.node (.node (.node .nil (some C143) .nil) none .nil) none (.node .nil (some C111) .nil))) none (.node (.node (.node (.node .nil (some C135) .nil) none .nil) none (.node (.node .nil (some C167) .nil) none .nil)) (some C23) (.node (.node .nil (some C87) .nil) (some C55) (.node .nil (some C119) .nil)))) none (.node (.node .nil (some C19) (.node (.node (.node .nil (some C147) .nil) (some C83) .nil) none (.node .nil (some C115) .nil))) none (.node (.node (.node (.node .nil (some C139) .nil) none .nil) none (.node (.node .nil (some C171) .nil) (some C107) .nil)) none (.node (.node (.node .nil (some C155) .nil) (some C91) .nil) none .nil)))) none (.node (.node (.node (.node .nil none (.node (.node .nil (some C161) .nil) (some C97) .nil)) (some C17) (.node (.node (.node .nil (some C145) .nil) (some C81) .nil) none (.node .nil (some C113) .nil))) none (.node (.node (.node (.node .nil (some C137) .nil) none .nil) none (.node (.node .nil (some C169) .nil) none .nil)) none (.node (.node .nil (some C89) .nil) (some C57) (.node .nil (some C121) .nil)))) none (.node (.node (.node (.node (.node .nil (some C133) .nil) none .nil) none (.node (.node .nil (some C165) .nil) none .nil)) (some C21) (.node (.node .nil (some C85) .nil) (some C53) (.node .nil (some C117) .nil))) none (.node (.node (.node (.node .nil (some C141) .nil) none .nil) none (.node .nil (some C109) .nil)) none (.node (.node (.node .nil (some C157) .nil) (some C93) .nil) none .nil))))) none (.node (.node (.node (.node (.node .nil none (.node (.node .nil (some C160) .nil) (some C96) .nil)) (some C16) (.node (.node (.node .nil (some C144) .nil) none .nil) none (.node .nil (some C112) .nil))) none (.node (.node (.node (.node .nil (some C136) .nil) none .nil) none (.node (.node .nil (some C168) .nil) none .nil)) (some C24) (.node (.node .nil (some C88) .nil) (some C56) (.node .nil (some C120) .nil)))) (some C4) (.node (.node (.node .nil none (.node (.node .nil (some C164) .nil) none .nil)) (some C20) (.node (.node (.node .nil (some C148) .nil) (some C84) .nil) none (.node .nil (some C116) .nil))) none (.node (.node (.node (.node .nil (some C140) .nil) none .nil) none (.node .nil (some C108) .nil)) none (.node (.node (.node .nil (some C156) .nil) (some C92) .nil) none .nil)))) none (.node (.node (.node (.node .nil none (.node (.node .nil (some C162) .nil) none .nil)) (some C18) (.node (.node (.node .nil (some C146) .nil) (some C82) .nil) none (.node .nil (some C114) .nil))) none (.node (.node (.node (.node .nil (some C138) .nil) none .nil) none (.node (.node .nil (some C170) .nil) (some C106) .nil)) none (.node (.node (.node .nil (some C154) .nil) (some C90) .nil) none (.node .nil (some C122) .nil)))) none (.node (.node (.node (.node (.node .nil (some C134) .nil) none .nil) none (.node (.node .nil (some C166) .nil) none .nil)) (some C22) (.node (.node .nil (some C86) .nil) (some C54) (.node .nil (some C118) .nil))) (some C14) (.node (.node (.node (.node .nil (some C142) .nil) none .nil) none (.node .nil (some C110) .nil)) none (.node (.node (.node .nil (some C158) .nil) (some C94) .nil) none .nil))))))
def fs (f : Nat) : Option AFunc := Tr.get T f
def ms (t : Nat) (n : String) : Option Nat := none
end Ir
end Go.Proofs.Ytecdcefacdodgaa
