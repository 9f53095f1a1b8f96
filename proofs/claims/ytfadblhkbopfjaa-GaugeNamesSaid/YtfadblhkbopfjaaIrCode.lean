/-
  What the program's functions are in Ads, printed by a program.
-/
import Derived.Test.YtfadblhkbopfjaaAdsDef
set_option linter.unusedVariables false
set_option maxRecDepth 100000
namespace Go.Proofs.Ytfadblhkbopfjaa
open Go Ads
namespace Ir
abbrev zM (d s : Nat) : Ins := ⟨some d, none, .p .mov, [.t s]⟩
abbrev zF (d s o : Nat) : Ins := ⟨some d, none, .p (.faddr o), [.t s]⟩
abbrev zN (d s : Nat) : Ins := ⟨some d, none, .p .nilchk, [.t s]⟩
abbrev zL (d s : Nat) : Ins := ⟨some d, none, .r .load1, [.t s]⟩
abbrev zMg (d s g : Nat) (b : Bool) : Ins := ⟨some d, some (g, b), .p .mov, [.t s]⟩
abbrev zFg (d s o g : Nat) (b : Bool) : Ins := ⟨some d, some (g, b), .p (.faddr o), [.t s]⟩
abbrev zNg (d s g : Nat) (b : Bool) : Ins := ⟨some d, some (g, b), .p .nilchk, [.t s]⟩
abbrev zLg (d s g : Nat) (b : Bool) : Ins := ⟨some d, some (g, b), .r .load1, [.t s]⟩
def zs (l : List Nat) : String := String.ofList (l.map Char.ofNat)
abbrev zP (d : Nat) (o : POp) (l : List Rand) : Ins := ⟨some d, none, .p o, l⟩
abbrev zPg (d : Nat) (o : POp) (l : List Rand) (g : Nat) (b : Bool) : Ins := ⟨some d, some (g, b), .p o, l⟩
abbrev zS (n : Nat) (l : List Rand) : Ins := ⟨none, none, .e (.store n), l⟩
def C3 : AFunc := ⟨156, [.tmp 0],
(.seq (.ops [zP 0 .mov [.c (.bool false)]])
(.seq (.ops [zP 19 (.build [(.int .i64 0), (.int .i64 0), (.int .i64 0), (.int .i64 0), (.int .i64 0), (.int .i64 0), (.str [])] [(0, 1), (1, 1)]) [.c (.int .i64 3), .c (.int .i64 2)],
⟨some 1, none, .a (.alloc [(.int .i64 0), (.int .i64 0), (.int .i64 0), (.int .i64 0), (.int .i64 0), (.int .i64 0), (.str [])]), []⟩,
 zS 7 [.t 1, .t 19]])
(.seq (.ops [zP 20 (.build [(.int .i64 0), (.int .i64 0), (.int .i64 0), (.int .i64 0), (.int .i64 0), (.int .i64 0), (.str [])] [(0, 1), (1, 1)]) [.c (.int .i64 1), .c (.int .i64 1)],
 zP 21 (.build [(.int .i64 0), (.int .i64 0), (.int .i64 0), (.int .i64 0), (.int .i64 0), (.int .i64 0), (.str [])] [(0, 1), (1, 1)]) [.c (.int .i64 1), .c (.int .i64 3)],
⟨some 22, none, .r (.loadN 7), [.t 1]⟩,
 zP 23 (.build [(.int .i64 0), (.int .i64 0), (.int .i64 0), (.int .i64 0), (.int .i64 0), (.int .i64 0), (.str [])] [(0, 1), (1, 1)]) [.c (.int .i64 4), .c (.int .i64 1)],
⟨some 24, none, .r (.loadN 7), [.t 1]⟩,
 zP 25 (.build [(.int .i64 0), (.int .i64 0), (.int .i64 0), (.int .i64 0), (.int .i64 0), (.int .i64 0), (.str [])] [(0, 1), (1, 1), (3, 1)]) [.c (.int .i64 5), .c (.int .i64 1), .c (.int .i64 1)],
 zP 26 (.build [(.int .i64 0), (.int .i64 0), (.int .i64 0), (.int .i64 0), (.int .i64 0), (.int .i64 0), (.str [])] [(0, 1), (1, 1), (4, 1)]) [.c (.int .i64 6), .c (.int .i64 4), .c (.int .i64 2)],
 zP 27 (.build [(.int .i64 0), (.int .i64 0), (.int .i64 0), (.int .i64 0), (.int .i64 0), (.int .i64 0), (.str [])] [(0, 1), (1, 1), (5, 1)]) [.c (.int .i64 7), .c (.int .i64 2), .c (.int .i64 140)],
 zP 28 (.build [(.int .i64 0), (.int .i64 0), (.int .i64 0), (.int .i64 0), (.int .i64 0), (.int .i64 0), (.str [])] [(0, 1), (1, 1), (2, 1)]) [.c (.int .i64 8), .c (.int .i64 2), .c (.int .i64 1)],
⟨some 29, none, .a (.bslice [(.int .i64 0), (.int .i64 0), (.int .i64 0), (.int .i64 0), (.int .i64 0), (.int .i64 0), (.str [])] 9 7 [0, 1, 2, 3, 4, 5, 6, 7, 8]), [.t 20, .t 21, .t 22, .t 23, .t 24, .t 25, .t 26, .t 27, .t 28]⟩,
 zM 2 29])
(.seq (.ops [zM 30 2,
⟨some 31, none, .call, [.c (.func (.func 4) [] []), .t 30, .c (.int .i64 0), .c (.int .i64 20)]⟩,
 zM 3 31])
(.seq (.ops [zM 32 3,
 zP 33 .lenS [.t 32],
 zP 34 (.bin .eql) [.t 33, .c (.int .i64 2)],
 zM 35 34,
 zMg 36 3 35 true,
 zPg 37 (.iaddrS 5) [.t 36, .c (.int .i64 0)] 35 true,
⟨some 38, some (35, true), .r (.loadN 5), [.t 37]⟩,
 zPg 39 (.build [(.int .i64 0), (.int .i64 0), (.int .i64 0), (.int .i64 0), (.int .i64 0)] [(1, 1), (2, 1), (3, 1)]) [.c (.int .i64 3), .c (.int .i64 20), .c (.int .i64 1)] 35 true,
 zPg 40 (.eq (.cells [0, 0, 0, 0, 0])) [.t 38, .t 39] 35 true,
 zP 41 .pick [.t 35, .t 40, .c (.bool false)],
 zM 42 41,
 zMg 43 3 42 true,
 zPg 44 (.iaddrS 5) [.t 43, .c (.int .i64 1)] 42 true,
⟨some 45, some (42, true), .r (.loadN 5), [.t 44]⟩,
 zPg 46 (.build [(.int .i64 0), (.int .i64 0), (.int .i64 0), (.int .i64 0), (.int .i64 0)] [(1, 1), (2, 1), (4, 1)]) [.c (.int .i64 3), .c (.int .i64 6), .c (.int .i64 2)] 42 true,
 zPg 47 (.eq (.cells [0, 0, 0, 0, 0])) [.t 45, .t 46] 42 true,
 zP 48 .pick [.t 42, .t 47, .c (.bool false)],
 zM 4 48])
(.seq (.ops [⟨some 49, none, .call, [.c (.func (.func 5) [] [])]⟩,
⟨some 5, none, .a (.alloc [.nils, .nils]), []⟩,
 zS 2 [.t 5, .t 49]])
(.seq (.dops [zF 50 5 0,
 zL 51 50,
 zF 52 5 0,
 zL 53 52,
 zP 54 (.iaddrS 3) [.t 53, .c (.int .i64 0)],
 zF 55 54 2,
 zL 56 55,
 zP 57 (.build [(.int .i64 0), (.int .i64 0), (.int .i64 0), (.int .i64 0), (.int .i64 0), (.int .i64 0), (.int .i64 0), (.int .i64 0)] [(0, 1), (1, 1), (2, 1), (3, 1), (4, 1)]) [.c (.int .i64 6), .c (.int .i64 3), .c (.int .i64 2), .c (.int .i64 1), .c (.int .i64 2)],
⟨some 58, none, .a (.bslice [(.int .i64 0), (.int .i64 0), (.int .i64 0), (.int .i64 0), (.int .i64 0), (.int .i64 0), (.int .i64 0), (.int .i64 0)] 1 8 [0]), [.t 57]⟩,
⟨some 59, none, .e (.append 8 64), [.t 56, .t 58]⟩,
 zP 60 (.iaddrS 3) [.t 51, .c (.int .i64 0)],
 zF 61 60 2,
 zS 1 [.t 61, .t 59]] [[], [0, 10], [], [], [], [], [], [], [], [], [], [], []])
(.seq (.ops [zP 62 (.build [(.int .i64 0), (.int .i64 0), (.int .i64 0), (.int .i64 0), (.int .i64 0), (.int .i64 0), (.str [])] [(0, 1), (1, 1)]) [.c (.int .i64 1), .c (.int .i64 2)],
 zP 63 (.build [(.int .i64 0), (.int .i64 0), (.int .i64 0), (.int .i64 0), (.int .i64 0), (.int .i64 0), (.str [])] [(0, 1), (1, 1)]) [.c (.int .i64 1), .c (.int .i64 1)],
 zP 64 (.build [(.int .i64 0), (.int .i64 0), (.int .i64 0), (.int .i64 0), (.int .i64 0), (.int .i64 0), (.str [])] [(0, 1), (1, 1), (3, 1)]) [.c (.int .i64 2), .c (.int .i64 2), .c (.int .i64 1)],
 zP 65 (.build [(.int .i64 0), (.int .i64 0), (.int .i64 0), (.int .i64 0), (.int .i64 0), (.int .i64 0), (.str [])] [(0, 1), (1, 1)]) [.c (.int .i64 2), .c (.int .i64 1)],
 zP 66 (.build [(.int .i64 0), (.int .i64 0), (.int .i64 0), (.int .i64 0), (.int .i64 0), (.int .i64 0), (.str [])] [(0, 1), (1, 1), (3, 1)]) [.c (.int .i64 3), .c (.int .i64 1), .c (.int .i64 1)],
 zP 67 (.build [(.int .i64 0), (.int .i64 0), (.int .i64 0), (.int .i64 0), (.int .i64 0), (.int .i64 0), (.str [])] [(0, 1), (1, 1), (3, 1)]) [.c (.int .i64 4), .c (.int .i64 1), .c (.int .i64 (-1))],
⟨some 68, none, .a (.bslice [(.int .i64 0), (.int .i64 0), (.int .i64 0), (.int .i64 0), (.int .i64 0), (.int .i64 0), (.str [])] 6 7 [0, 1, 2, 3, 4, 5]), [.t 62, .t 63, .t 64, .t 65, .t 66, .t 67]⟩,
 zM 6 68])
(.seq (.ops [⟨some 70, none, .r (.loadN 2), [.t 5]⟩,
 zM 71 6,
⟨some 72, none, .call, [.c (.func (.func 6) [] []), .t 70, .t 71, .c (.int .i64 0), .c (.int .i64 9)]⟩,
 zM 69 72,
 zP 73 (.ext 0) [.t 69],
 zP 74 (.ext 1) [.t 69],
 zM 7 73,
 zM 8 74])
(.seq (.ops [⟨some 76, none, .r (.loadN 2), [.t 5]⟩,
⟨some 77, none, .call, [.c (.func (.func 7) [] []), .t 76, .c (.int .i64 0)]⟩,
 zM 75 77,
 zP 78 (.ext 0) [.t 75],
 zP 79 (.ext 1) [.t 75],
 zM 9 78,
 zM 10 79])
(.seq (.ops [⟨some 81, none, .r (.loadN 2), [.t 5]⟩,
 zM 82 6,
⟨some 83, none, .call, [.c (.func (.func 6) [] []), .t 81, .t 82, .c (.int .i64 1), .c (.int .i64 9)]⟩,
 zM 80 83,
 zP 84 (.ext 0) [.t 80],
 zP 85 (.ext 1) [.t 80],
 zM 11 84,
 zM 12 85])
(.seq (.ops [⟨some 87, none, .r (.loadN 2), [.t 5]⟩,
⟨some 88, none, .call, [.c (.func (.func 7) [] []), .t 87, .c (.int .i64 (-1))]⟩,
 zM 86 88,
 zP 89 (.ext 0) [.t 86],
 zP 90 (.ext 1) [.t 86],
 zM 13 89,
 zM 14 90])
(.seq (.ops [zP 92 (.build [.nils, .nils] []) [],
 zM 93 6,
⟨some 94, none, .call, [.c (.func (.func 6) [] []), .t 92, .t 93, .c (.int .i64 0), .c (.int .i64 9)]⟩,
 zM 91 94,
 zP 95 (.ext 0) [.t 91],
 zP 96 (.ext 1) [.t 91],
 zM 15 95,
 zM 16 96])
(.seq (.ops [zP 98 (.build [.nils, .nils] []) [],
⟨some 99, none, .call, [.c (.func (.func 7) [] []), .t 98, .c (.int .i64 0)]⟩,
 zM 97 99,
 zP 100 (.ext 0) [.t 97],
 zP 101 (.ext 1) [.t 97],
 zM 17 100,
 zM 18 101])
(.seq (.ops [zP 102 .mov [.c (.bool true)],
⟨some 103, some (102, true), .call, [.c (.func (.func 8) [] [])]⟩,
 zP 104 .pick [.t 102, .t 103, .c (.bool false)],
 zM 105 104,
 zMg 106 4 105 true,
 zP 107 .pick [.t 105, .t 106, .c (.bool false)],
 zM 108 107,
 zMg 109 7 108 true,
⟨some 110, some (108, true), .a (.bslice [(.int .i64 0)] 2 1 [0, 1]), [.c (.int .i64 0), .c (.int .i64 1)]⟩,
⟨some 111, some (108, true), .call, [.c (.func (.func 9) [] []), .t 109, .t 110]⟩,
 zP 112 .pick [.t 108, .t 111, .c (.bool false)],
 zM 113 112,
 zMg 114 8 113 true,
 zPg 115 (.bin .eql) [.t 114, .c (.int .i64 0)] 113 true,
 zP 116 .pick [.t 113, .t 115, .c (.bool false)],
 zM 117 116,
 zMg 118 9 117 true,
 zPg 119 (.bin .eql) [.t 118, .c (.int .i64 2)] 117 true,
 zP 120 .pick [.t 117, .t 119, .c (.bool false)],
 zM 121 120,
 zMg 122 10 121 true,
 zPg 123 (.bin .eql) [.t 122, .c (.int .i64 0)] 121 true,
 zP 124 .pick [.t 121, .t 123, .c (.bool false)],
 zM 125 124,
 zMg 126 12 125 true,
 zPg 127 (.bin .eql) [.t 126, .c (.int .i64 9)] 125 true,
 zP 128 .pick [.t 125, .t 127, .c (.bool false)],
 zM 129 128,
 zMg 130 14 129 true,
 zPg 131 (.bin .eql) [.t 130, .c (.int .i64 9)] 129 true,
 zP 132 .pick [.t 129, .t 131, .c (.bool false)],
 zM 133 132,
 zMg 134 16 133 true,
 zPg 135 (.bin .eql) [.t 134, .c (.int .i64 50)] 133 true,
 zP 136 .pick [.t 133, .t 135, .c (.bool false)],
 zM 137 136,
 zMg 138 18 137 true,
 zPg 139 (.bin .eql) [.t 138, .c (.int .i64 50)] 137 true,
 zP 140 .pick [.t 137, .t 139, .c (.bool false)],
 zM 141 140,
⟨some 142, some (141, true), .call, [.c (.func (.func 4) [] []), .c .nils, .c (.int .i64 0), .c (.int .i64 9)]⟩,
 zPg 143 .lenS [.t 142] 141 true,
 zPg 144 (.bin .eql) [.t 143, .c (.int .i64 0)] 141 true,
 zP 145 .pick [.t 141, .t 144, .c (.bool false)],
 zM 146 145,
 zMg 147 2 146 true,
⟨some 148, some (146, true), .call, [.c (.func (.func 10) [] []), .t 147, .c (.int .i64 0), .c (.int .i64 0), .c (.int .i64 20)]⟩,
 zPg 149 (.bin .eql) [.t 148, .c (.int .i64 0)] 146 true,
 zP 150 .pick [.t 146, .t 149, .c (.bool false)],
 zM 151 150,
 zMg 152 6 151 true,
⟨some 153, some (151, true), .call, [.c (.func (.func 11) [] []), .t 152, .c (.int .i64 0), .c (.int .i64 (-1)), .c (.int .i64 0), .c (.int .i64 9)]⟩,
 zPg 154 (.bin .eql) [.t 153, .c (.int .i64 1)] 151 true,
 zP 155 .pick [.t 151, .t 154, .c (.bool false)],
 zM 0 155])
.ret)))))))))))))))⟩
abbrev f_escapementlaw29_GaugeNames : Nat := 3
abbrev C_escapementlaw29_GaugeNames : AFunc := C3
def L_gauge_Spans_0 : AC := (.seq (.ops [zP 15 (.bin .lss) [.t 14, .t 13]])
(.seq (.cond (.t 15)
.skip
(.exit 0))
(.seq (.block 1 (.seq (.ops [zP 16 (.iaddrS 1) [.t 12, .t 14],
 zL 17 16,
 zM 8 17])
(.ops [zM 18 6,
 zM 19 8,
 zN 20 19,
 zF 21 20 0,
⟨some 22, none, .r (.loadN 5), [.t 21]⟩,
⟨some 23, none, .a (.bslice [(.int .i64 0), (.int .i64 0), (.int .i64 0), (.int .i64 0), (.int .i64 0)] 1 5 [0]), [.t 22]⟩,
⟨some 24, none, .e (.append 5 40), [.t 18, .t 23]⟩,
 zM 6 24])))
(.ops [zP 25 (.bin .add) [.t 14, .c (.int .i64 1)],
 zM 14 25]))))
def C4 : AFunc := ⟨27, [.tmp 6],
(.seq (.ops [zP 6 .mov [.c .nils]])
(.seq (.seq (.ops [zM 9 0,
 zM 10 1,
 zM 11 2,
⟨some 12, none, .call, [.c (.func (.func 12) [] []), .t 9, .t 10, .t 11, .c (.func (.func 13) [] [])]⟩,
 zP 13 .lenS [.t 12],
 zP 14 .mov [.c (.int .i64 0)]])
(.block 0 (.loop L_gauge_Spans_0)))
(.seq (.ops [zM 26 6,
 zM 6 26])
.ret)))⟩
abbrev f_gauge_Spans : Nat := 4
abbrev C_gauge_Spans : AFunc := C4
def C5 : AFunc := ⟨6, [.cell 0 2 true],
(.seq (.ops [⟨some 0, none, .a (.alloc [.nils, .nils]), []⟩])
(.seq (.ops [zP 1 (.build [(.int .i64 0), (.int .i64 0), (.int .i64 0), (.int .i64 0), (.int .i64 0), (.int .i64 0), (.int .i64 0), (.int .i64 0)] [(0, 1), (1, 1), (2, 1)]) [.c (.int .i64 8), .c (.int .i64 8), .c (.int .i64 2)],
⟨some 2, none, .a (.bslice [(.int .i64 0), (.int .i64 0), (.int .i64 0), (.int .i64 0), (.int .i64 0), (.int .i64 0), (.int .i64 0), (.int .i64 0)] 1 8 [0]), [.t 1]⟩,
 zP 3 (.build [(.int .i64 0), (.int .i64 0), .nils] [(0, 1), (1, 1), (2, 1)]) [.c (.int .i64 4), .c (.int .i64 2), .t 2],
⟨some 4, none, .a (.bslice [(.int .i64 0), (.int .i64 0), .nils] 1 3 [0]), [.t 3]⟩,
 zP 5 (.build [.nils, .nils] [(0, 1)]) [.t 4],
 zS 2 [.t 0, .t 5]])
.ret))⟩
abbrev f_escapementlaw29_simple : Nat := 5
abbrev C_escapementlaw29_simple : AFunc := C5
def L_gauge_Kept_0 : AC := (.seq (.ops [zP 28 (.bin .lss) [.t 27, .t 26]])
(.seq (.cond (.t 28)
.skip
(.exit 0))
(.seq (.block 1 (.seq (.ops [zP 29 (.iaddrS 1) [.t 25, .t 27],
 zL 30 29,
 zM 13 30])
(.ops [zM 31 8,
 zM 32 13,
 zN 33 32,
 zF 34 33 6,
 zL 35 34,
⟨some 36, none, .a (.bslice [(.int .i64 0)] 1 1 [0]), [.t 35]⟩,
⟨some 37, none, .e (.append 1 8), [.t 31, .t 36]⟩,
 zM 8 37])))
(.ops [zP 38 (.bin .add) [.t 27, .c (.int .i64 1)],
 zM 27 38]))))
def C6 : AFunc := ⟨40, [.tmp 8, .tmp 9],
(.seq (.ops [⟨some 4, none, .a .box, [.t 0]⟩,
⟨some 6, none, .a .box, [.t 2]⟩,
 zP 8 .mov [.c .nils],
 zP 9 .mov [.c (.int .i64 0)]])
(.seq (.seq (.ops [⟨some 14, none, .r (.loadN 2), [.t 4]⟩,
 zL 15 6,
⟨some 16, none, .call, [.c (.func (.func 14) [] []), .t 14, .t 15]⟩,
 zM 10 16])
(.seq (.ops [zM 17 10,
 zP 18 (.bin .neq) [.t 17, .c (.int .i64 0)]])
(.cond (.t 18)
(.seq (.ops [zM 19 10,
 zP 8 .mov [.c .nils],
 zM 9 19])
.ret)
.skip)))
(.seq (.ops [zP 20 (.mkfunc (.func 15) 0) [.t 4, .t 6],
 zM 11 20])
(.seq (.seq (.ops [zM 21 1,
 zL 22 6,
 zM 23 3,
 zM 24 11,
⟨some 25, none, .call, [.c (.func (.func 12) [] []), .t 21, .t 22, .t 23, .t 24]⟩,
 zP 26 .lenS [.t 25],
 zP 27 .mov [.c (.int .i64 0)]])
(.block 0 (.loop L_gauge_Kept_0)))
(.seq (.ops [zM 39 8,
 zM 8 39,
 zP 9 .mov [.c (.int .i64 0)]])
.ret)))))⟩
abbrev f_gauge_Kept : Nat := 6
abbrev C_gauge_Kept : AFunc := C6
def L_gauge_Most_0 : AC := (.seq (.ops [zP 23 (.bin .lss) [.t 22, .t 21]])
(.seq (.cond (.t 23)
.skip
(.exit 0))
(.seq (.block 1 (.seq (.ops [zP 24 (.iaddrS 8) [.t 20, .t 22],
⟨some 25, none, .r (.loadN 8), [.t 24]⟩,
⟨some 8, none, .a (.alloc [(.int .i64 0), (.int .i64 0), (.int .i64 0), (.int .i64 0), (.int .i64 0), (.int .i64 0), (.int .i64 0), (.int .i64 0)]), []⟩,
 zS 8 [.t 8, .t 25]])
(.ops [zM 26 4,
 zF 27 8 4,
 zL 28 27,
 zF 29 8 6,
 zL 30 29,
 zP 31 .mx [.t 26, .t 28, .t 30],
 zM 4 31])))
(.ops [zP 32 (.bin .add) [.t 22, .c (.int .i64 1)],
 zM 22 32]))))
def C7 : AFunc := ⟨34, [.tmp 4, .tmp 5],
(.seq (.ops [⟨some 2, none, .a .box, [.t 0]⟩,
 zP 4 .mov [.c (.int .i64 0)],
 zP 5 .mov [.c (.int .i64 0)]])
(.seq (.seq (.ops [⟨some 9, none, .r (.loadN 2), [.t 2]⟩,
 zM 10 1,
⟨some 11, none, .call, [.c (.func (.func 14) [] []), .t 9, .t 10]⟩,
 zM 6 11])
(.seq (.ops [zM 12 6,
 zP 13 (.bin .neq) [.t 12, .c (.int .i64 0)]])
(.cond (.t 13)
(.seq (.ops [zM 14 6,
 zP 4 .mov [.c (.int .i64 0)],
 zM 5 14])
.ret)
.skip)))
(.seq (.seq (.ops [zF 15 2 0,
 zL 16 15,
 zM 17 1,
 zP 18 (.iaddrS 3) [.t 16, .t 17],
 zF 19 18 2,
 zL 20 19,
 zP 21 .lenS [.t 20],
 zP 22 .mov [.c (.int .i64 0)]])
(.block 0 (.loop L_gauge_Most_0)))
(.seq (.ops [zM 33 4,
 zM 4 33,
 zP 5 .mov [.c (.int .i64 0)]])
.ret))))⟩
abbrev f_gauge_Most : Nat := 7
abbrev C_gauge_Most : AFunc := C7
def C8 : AFunc := ⟨73, [.tmp 0],
(.seq (.ops [zP 0 .mov [.c (.bool false)]])
(.seq (.ops [zP 8 (.build [(.int .i64 0), (.int .i64 0), (.int .i64 0), (.int .i64 0), (.int .i64 0), (.int .i64 0), (.str [])] [(0, 1), (1, 1)]) [.c (.int .i64 1), .c (.int .i64 6)],
 zP 9 (.build [(.int .i64 0), (.int .i64 0), (.int .i64 0), (.int .i64 0), (.int .i64 0), (.int .i64 0), (.str [])] [(0, 1), (1, 1)]) [.c (.int .i64 1), .c (.int .i64 2)],
 zP 10 (.build [(.int .i64 0), (.int .i64 0), (.int .i64 0), (.int .i64 0), (.int .i64 0), (.int .i64 0), (.str [])] [(0, 1), (1, 1)]) [.c (.int .i64 1), .c (.int .i64 1)],
 zP 11 (.build [(.int .i64 0), (.int .i64 0), (.int .i64 0), (.int .i64 0), (.int .i64 0), (.int .i64 0), (.str [])] [(0, 1), (1, 1)]) [.c (.int .i64 2), .c (.int .i64 1)],
 zP 12 (.build [(.int .i64 0), (.int .i64 0), (.int .i64 0), (.int .i64 0), (.int .i64 0), (.int .i64 0), (.str [])] [(0, 1), (1, 1)]) [.c (.int .i64 2), .c (.int .i64 3)],
 zP 13 (.build [(.int .i64 0), (.int .i64 0), (.int .i64 0), (.int .i64 0), (.int .i64 0), (.int .i64 0), (.str [])] [(0, 1), (1, 1)]) [.c (.int .i64 9), .c (.int .i64 2)],
⟨some 14, none, .a (.bslice [(.int .i64 0), (.int .i64 0), (.int .i64 0), (.int .i64 0), (.int .i64 0), (.int .i64 0), (.str [])] 6 7 [0, 1, 2, 3, 4, 5]), [.t 8, .t 9, .t 10, .t 11, .t 12, .t 13]⟩,
 zM 1 14])
(.seq (.ops [zM 15 1,
⟨some 16, none, .call, [.c (.func (.func 4) [] []), .t 15, .c (.int .i64 0), .c (.int .i64 12)]⟩,
 zM 2 16])
(.seq (.ops [⟨some 18, none, .call, [.c (.func (.func 5) [] [])]⟩,
 zM 19 1,
⟨some 20, none, .call, [.c (.func (.func 6) [] []), .t 18, .t 19, .c (.int .i64 0), .c (.int .i64 12)]⟩,
 zM 17 20,
 zP 21 (.ext 0) [.t 17],
 zP 22 (.ext 1) [.t 17],
 zM 3 21,
 zM 4 22])
(.seq (.ops [⟨some 24, none, .call, [.c (.func (.func 5) [] [])]⟩,
⟨some 25, none, .call, [.c (.func (.func 7) [] []), .t 24, .c (.int .i64 0)]⟩,
 zM 23 25,
 zP 26 (.ext 0) [.t 23],
 zP 27 (.ext 1) [.t 23],
 zM 5 26,
 zM 6 27])
(.seq (.ops [zM 28 2,
 zP 29 .lenS [.t 28],
 zP 30 (.bin .eql) [.t 29, .c (.int .i64 2)],
 zM 31 30,
 zMg 32 2 31 true,
 zPg 33 (.iaddrS 5) [.t 32, .c (.int .i64 0)] 31 true,
⟨some 34, some (31, true), .r (.loadN 5), [.t 33]⟩,
 zPg 35 (.build [(.int .i64 0), (.int .i64 0), (.int .i64 0), (.int .i64 0), (.int .i64 0)] [(1, 1), (2, 1), (3, 1), (4, 1)]) [.c (.int .i64 1), .c (.int .i64 2), .c (.int .i64 2), .c (.int .i64 1)] 31 true,
 zPg 36 (.eq (.cells [0, 0, 0, 0, 0])) [.t 34, .t 35] 31 true,
 zP 37 .pick [.t 31, .t 36, .c (.bool false)],
 zM 38 37,
 zMg 39 2 38 true,
 zPg 40 (.iaddrS 5) [.t 39, .c (.int .i64 1)] 38 true,
⟨some 41, some (38, true), .r (.loadN 5), [.t 40]⟩,
 zPg 42 (.build [(.int .i64 0), (.int .i64 0), (.int .i64 0), (.int .i64 0), (.int .i64 0)] [(1, 1), (2, 1)]) [.c (.int .i64 9), .c (.int .i64 12)] 38 true,
 zPg 43 (.eq (.cells [0, 0, 0, 0, 0])) [.t 41, .t 42] 38 true,
 zP 44 .pick [.t 38, .t 43, .c (.bool false)],
 zM 7 44])
(.seq (.ops [zM 45 7,
 zM 46 45,
 zMg 47 1 46 true,
⟨some 48, some (46, true), .call, [.c (.func (.func 10) [] []), .t 47, .c (.int .i64 0), .c (.int .i64 0), .c (.int .i64 12)]⟩,
 zPg 49 (.bin .eql) [.t 48, .c (.int .i64 2)] 46 true,
 zP 50 .pick [.t 46, .t 49, .c (.bool false)],
 zM 51 50,
 zMg 52 3 51 true,
⟨some 53, some (51, true), .a (.bslice [(.int .i64 0)] 2 1 [0, 1]), [.c (.int .i64 0), .c (.int .i64 0)]⟩,
⟨some 54, some (51, true), .call, [.c (.func (.func 9) [] []), .t 52, .t 53]⟩,
 zP 55 .pick [.t 51, .t 54, .c (.bool false)],
 zM 56 55,
 zMg 57 4 56 true,
 zPg 58 (.bin .eql) [.t 57, .c (.int .i64 0)] 56 true,
 zP 59 .pick [.t 56, .t 58, .c (.bool false)],
 zM 60 59,
 zMg 61 5 60 true,
 zPg 62 (.bin .eql) [.t 61, .c (.int .i64 0)] 60 true,
 zP 63 .pick [.t 60, .t 62, .c (.bool false)],
 zM 64 63,
 zMg 65 6 64 true,
 zPg 66 (.bin .eql) [.t 65, .c (.int .i64 0)] 64 true,
 zP 67 .pick [.t 64, .t 66, .c (.bool false)],
 zM 68 67,
 zMg 69 1 68 true,
⟨some 70, some (68, true), .call, [.c (.func (.func 11) [] []), .t 69, .c (.int .i64 0), .c (.int .i64 0), .c (.int .i64 2), .c (.int .i64 9)]⟩,
 zPg 71 (.bin .eql) [.t 70, .c (.int .i64 1)] 68 true,
 zP 72 .pick [.t 68, .t 71, .c (.bool false)],
 zM 0 72])
.ret)))))))⟩
abbrev f_escapementlaw29_works : Nat := 8
abbrev C_escapementlaw29_works : AFunc := C8
def L_escapementref00_EqInts_0 : AC := (.seq (.seq (.ops [zM 11 5,
 zM 12 0,
 zP 13 .lenS [.t 12],
 zP 14 (.bin .lss) [.t 11, .t 13]])
(.cond (.t 14)
.skip
(.exit 0)))
(.seq (.block 1 (.seq (.dops [zM 17 0,
 zM 18 5,
 zP 19 (.iaddrS 1) [.t 17, .t 18],
 zL 20 19,
 zM 21 1,
 zM 22 5,
 zP 23 (.iaddrS 1) [.t 21, .t 22],
 zL 24 23,
 zP 25 (.bin .neq) [.t 20, .t 24]] [[], [], [], [], [], [], [], [], []])
(.cond (.t 25)
(.seq (.ops [zP 4 .mov [.c (.bool false)]])
.ret)
.skip)))
(.ops [zM 15 5,
 zP 16 (.bin .add) [.t 15, .c (.int .i64 1)],
 zM 5 16])))
def C9 : AFunc := ⟨26, [.tmp 4],
(.seq (.ops [zP 4 .mov [.c (.bool false)]])
(.seq (.seq (.ops [zM 6 0,
 zP 7 .lenS [.t 6],
 zM 8 1,
 zP 9 .lenS [.t 8],
 zP 10 (.bin .neq) [.t 7, .t 9]])
(.cond (.t 10)
(.seq (.ops [zP 4 .mov [.c (.bool false)]])
.ret)
.skip))
(.seq (.seq (.ops [zP 5 .mov [.c (.int .i64 0)]])
(.block 0 (.loop L_escapementref00_EqInts_0)))
(.seq (.ops [zP 4 .mov [.c (.bool true)]])
.ret))))⟩
abbrev f_escapementref00_EqInts : Nat := 9
abbrev C_escapementref00_EqInts : AFunc := C9
def L_gauge_Worst_0 : AC := (.seq (.ops [zP 17 (.bin .lss) [.t 16, .t 15]])
(.seq (.cond (.t 17)
.skip
(.exit 0))
(.seq (.block 1 (.seq (.ops [zP 18 (.iaddrS 5) [.t 14, .t 16],
⟨some 19, none, .r (.loadN 5), [.t 18]⟩,
⟨some 10, none, .a (.alloc [(.int .i64 0), (.int .i64 0), (.int .i64 0), (.int .i64 0), (.int .i64 0)]), []⟩,
 zS 5 [.t 10, .t 19]])
(.seq (.ops [zF 20 10 0,
 zL 21 20,
 zM 22 2,
 zP 23 (.bin .eql) [.t 21, .t 22],
 zM 24 23,
 zFg 25 10 4 24 true,
 zLg 26 25 24 true,
 zPg 27 (.bin .eql) [.t 26, .c (.int .i64 1)] 24 true,
 zP 28 .pick [.t 24, .t 27, .c (.bool false)]])
(.cond (.t 28)
(.ops [zM 29 8,
 zF 30 10 2,
 zL 31 30,
 zF 32 10 1,
 zL 33 32,
 zP 34 (.bin .sub) [.t 31, .t 33],
 zP 35 (.bin .add) [.t 34, .c (.int .i64 1)],
 zP 36 .mx [.t 29, .t 35],
 zM 8 36])
.skip))))
(.ops [zP 37 (.bin .add) [.t 16, .c (.int .i64 1)],
 zM 16 37]))))
def C10 : AFunc := ⟨39, [.tmp 8],
(.seq (.ops [zP 8 .mov [.c (.int .i64 0)]])
(.seq (.seq (.ops [zM 11 0,
 zM 12 1,
 zM 13 3,
⟨some 14, none, .call, [.c (.func (.func 4) [] []), .t 11, .t 12, .t 13]⟩,
 zP 15 .lenS [.t 14],
 zP 16 .mov [.c (.int .i64 0)]])
(.block 0 (.loop L_gauge_Worst_0)))
(.seq (.ops [zM 38 8,
 zM 8 38])
.ret)))⟩
abbrev f_gauge_Worst : Nat := 10
abbrev C_gauge_Worst : AFunc := C10
def L_gauge_Load_0 : AC := (.seq (.seq (.ops [zM 17 12,
 zP 18 (.bin .geq) [.t 17, .c (.int .i64 0)],
 zM 19 18,
 zMg 20 12 19 true,
 zMg 21 0 19 true,
 zPg 22 .lenS [.t 21] 19 true,
 zPg 23 (.bin .lss) [.t 20, .t 22] 19 true,
 zP 24 .pick [.t 19, .t 23, .c (.bool false)]])
(.cond (.t 24)
.skip
(.exit 0)))
(.seq (.block 1 (.seq (.ops [zM 27 11,
 zM 28 0,
 zM 29 12,
 zP 30 (.iaddrS 7) [.t 28, .t 29],
⟨some 31, none, .r (.loadN 7), [.t 30]⟩,
⟨some 32, none, .call, [.t 27, .t 31]⟩,
 zM 33 32,
 zMg 34 0 33 true,
 zMg 35 12 33 true,
 zPg 36 (.iaddrS 7) [.t 34, .t 35] 33 true,
 zFg 37 36 0 33 true,
 zLg 38 37 33 true,
 zMg 39 3 33 true,
 zPg 40 (.bin .geq) [.t 38, .t 39] 33 true,
 zP 41 .pick [.t 33, .t 40, .c (.bool false)],
 zM 42 41,
 zMg 43 0 42 true,
 zMg 44 12 42 true,
 zPg 45 (.iaddrS 7) [.t 43, .t 44] 42 true,
 zFg 46 45 0 42 true,
 zLg 47 46 42 true,
 zMg 48 4 42 true,
 zPg 49 (.bin .lss) [.t 47, .t 48] 42 true,
 zP 50 .pick [.t 42, .t 49, .c (.bool false)]])
(.cond (.t 50)
(.ops [zM 51 10,
 zP 52 (.bin .add) [.t 51, .c (.int .i64 1)],
 zM 10 52])
.skip)))
(.ops [zM 25 12,
 zP 26 (.bin .add) [.t 25, .c (.int .i64 1)],
 zM 12 26])))
def C11 : AFunc := ⟨54, [.tmp 10],
(.seq (.ops [⟨some 6, none, .a .box, [.t 1]⟩,
⟨some 7, none, .a .box, [.t 2]⟩,
 zP 10 .mov [.c (.int .i64 0)]])
(.seq (.ops [zP 13 (.mkfunc (.func 16) 0) [.t 6, .t 7],
 zM 11 13])
(.seq (.seq (.ops [zM 14 0,
 zM 15 11,
⟨some 16, none, .call, [.c (.func (.func 17) [] []), .t 14, .t 15]⟩,
 zM 12 16])
(.block 0 (.loop L_gauge_Load_0)))
(.seq (.ops [zM 53 10,
 zM 10 53])
.ret))))⟩
abbrev f_gauge_Load : Nat := 11
abbrev C_gauge_Load : AFunc := C11
def L_gauge_jobs_1 : AC := (.seq (.ops [⟨some 77, none, .e .next, [.t 76]⟩,
 zP 78 (.ext 0) [.t 77]])
(.seq (.cond (.t 78)
.skip
(.exit 3))
(.block 4 (.seq (.ops [⟨some 79, none, .r .entry, [.t 76]⟩,
 zP 80 (.ext 1) [.t 79],
 zM 16 80])
(.seq (.dops [zM 81 12,
 zN 82 81,
 zF 83 82 5,
 zL 84 83,
 zM 85 16,
 zN 86 85,
 zF 87 86 5,
 zL 88 87,
 zP 89 (.bin .gtr) [.t 84, .t 88]] [[], [], [], [], [], [], [], [], []])
(.cond (.t 89)
(.ops [zM 90 16,
 zN 91 90,
 zF 92 91 6,
 zL 93 92,
 zP 94 (.bin .add) [.t 93, .c (.int .i64 1)],
 zN 95 90,
 zF 96 95 6,
 zS 1 [.t 96, .t 94]])
.skip))))))
def L_gauge_jobs_0 : AC := (.seq (.ops [zP 22 (.bin .lss) [.t 21, .t 20]])
(.seq (.cond (.t 22)
.skip
(.exit 0))
(.seq (.block 1 (.seq (.ops [zP 23 (.iaddrS 7) [.t 19, .t 21],
⟨some 24, none, .r (.loadN 7), [.t 23]⟩,
⟨some 11, none, .a (.alloc [(.int .i64 0), (.int .i64 0), (.int .i64 0), (.int .i64 0), (.int .i64 0), (.int .i64 0), (.str [])]), []⟩,
 zS 7 [.t 11, .t 24]])
(.seq (.seq (.ops [zF 25 11 2,
 zL 26 25,
 zM 27 1,
 zP 28 (.bin .neq) [.t 26, .t 27]])
(.cond (.t 28)
(.exit 1)
.skip))
(.seq (.ops [zM 29 9,
 zF 30 11 3,
 zL 31 30,
⟨some 32, none, .r (.lookup false .nilp), [.t 29, .t 31]⟩,
 zM 12 32])
(.seq (.ops [⟨some 33, none, .r (.loadN 7), [.t 11]⟩,
⟨some 34, none, .call, [.c (.func (.func 18) [] []), .t 33]⟩])
(.block 2 (.seq (.ops [zP 35 (.tassert 61 true (.agg [])) [.t 34],
 zP 36 (.ext 1) [.t 35],
 zP 37 (.ext 0) [.t 35]])
(.cond (.t 36)
(.seq (.ops [⟨some 13, none, .a (.alloc []), []⟩,
 zS 0 [.t 13, .t 37]])
(.seq (.dops [zF 38 11 3,
 zL 39 38,
 zF 40 11 0,
 zL 41 40,
 zM 42 2,
 zP 43 (.build [(.int .i64 0), (.int .i64 0), (.int .i64 0), (.int .i64 0), (.int .i64 0)] [(0, 1), (1, 1), (2, 1)]) [.t 39, .t 41, .t 42],
 zF 44 11 0,
 zL 45 44,
 zM 46 3,
 zF 47 11 3,
 zL 48 47,
⟨some 49, none, .call, [.t 46, .t 48]⟩,
 zP 50 (.bin .add) [.t 45, .t 49],
 zP 51 (.build [(.int .i64 0), (.int .i64 0), (.int .i64 0), (.int .i64 0), (.int .i64 0), (.int .i64 0), (.int .i64 0)] [(0, 5), (5, 1)]) [.t 43, .t 50],
⟨some 52, none, .a .box, [.t 51]⟩,
 zM 12 52] [[], [0, 12], [], [0, 12], [], [], [], [0, 12], [], [], [], [], [], [], [], []])
(.seq (.ops [zM 53 9,
 zF 54 11 3,
 zL 55 54,
 zM 56 12,
⟨none, none, .e .ins, [.t 53, .t 55, .t 56]⟩])
(.ops [zM 57 8,
 zM 58 12,
⟨some 59, none, .a (.bslice [.nilp] 1 1 [0]), [.t 58]⟩,
⟨some 60, none, .e (.append 1 8), [.t 57, .t 59]⟩,
 zM 8 60]))))
(.seq (.ops [zP 61 (.tassert 62 true (.agg [])) [.t 34],
 zP 62 (.ext 1) [.t 61],
 zP 63 (.ext 0) [.t 61]])
(.cond (.t 62)
(.seq (.ops [⟨some 14, none, .a (.alloc []), []⟩,
 zS 0 [.t 14, .t 63]])
(.seq (.seq (.ops [zM 64 12,
 zP 65 (.eq .nilptr) [.t 64, .c .nilp]])
(.cond (.t 65)
(.exit 1)
.skip))
(.seq (.ops [zM 66 12,
 zN 67 66,
 zF 68 67 0,
 zF 69 68 3,
 zL 70 69,
 zP 71 (.bin .add) [.t 70, .c (.int .i64 1)],
 zN 72 66,
 zF 73 72 0,
 zF 74 73 3,
 zS 1 [.t 74, .t 71]])
(.seq (.ops [zM 75 9,
⟨some 76, none, .e .range, [.t 75]⟩])
(.block 3 (.loop L_gauge_jobs_1))))))
(.seq (.ops [zP 97 (.tassert 64 true (.agg [(.int .i64 0)])) [.t 34],
 zP 98 (.ext 1) [.t 97],
 zP 99 (.ext 0) [.t 97]])
(.cond (.t 98)
(.seq (.ops [⟨some 17, none, .a (.alloc [(.int .i64 0)]), []⟩,
 zS 1 [.t 17, .t 99]])
(.seq (.seq (.ops [zM 100 12,
 zP 101 (.eq .nilptr) [.t 100, .c .nilp]])
(.cond (.t 101)
(.exit 1)
.skip))
(.seq (.dops [zM 102 12,
 zM 103 12,
 zF 104 11 0,
 zL 105 104,
 zF 106 17 0,
 zL 107 106,
 zN 108 102,
 zF 109 108 0,
 zF 110 109 2,
 zS 1 [.t 110, .t 105],
 zN 111 103,
 zF 112 111 0,
 zF 113 112 4,
 zS 1 [.t 113, .t 107]] [[], [], [], [], [], [0, 10], [], [], [], [], [], [], [], []])
(.ops [zM 114 9,
 zF 115 11 3,
 zL 116 115,
⟨none, none, .e .mdel, [.t 114, .t 116]⟩]))))
.skip))))))))))))
(.ops [zP 117 (.bin .add) [.t 21, .c (.int .i64 1)],
 zM 21 117]))))
def C12 : AFunc := ⟨119, [.tmp 8],
(.seq (.ops [zP 8 .mov [.c .nils]])
(.seq (.ops [⟨some 18, none, .a .mkmap, []⟩,
 zM 9 18])
(.seq (.seq (.ops [zM 19 0,
 zP 20 .lenS [.t 19],
 zP 21 .mov [.c (.int .i64 0)]])
(.block 0 (.loop L_gauge_jobs_0)))
(.seq (.ops [zM 118 8,
 zM 8 118])
.ret))))⟩
abbrev f_gauge_jobs : Nat := 12
abbrev C_gauge_jobs : AFunc := C12
def C13 : AFunc := ⟨3, [.tmp 2],
(.seq (.ops [zP 2 .mov [.c (.int .i64 0)]])
(.seq (.ops [zP 2 .mov [.c (.int .i64 0)]])
.ret))⟩
abbrev f_gauge_Spans_1 : Nat := 13
abbrev C_gauge_Spans_1 : AFunc := C13
def C14 : AFunc := ⟨20, [.tmp 4],
(.seq (.ops [⟨some 2, none, .a .box, [.t 0]⟩,
 zP 4 .mov [.c (.int .i64 0)]])
(.seq (.seq (.ops [⟨some 6, none, .r (.loadN 2), [.t 2]⟩,
⟨some 7, none, .call, [.c (.func (.func 19) [] []), .t 6]⟩,
 zM 5 7])
(.seq (.ops [zM 8 5,
 zP 9 (.bin .neq) [.t 8, .c (.int .i64 0)]])
(.cond (.t 9)
(.seq (.ops [zM 10 5,
 zM 4 10])
.ret)
.skip)))
(.seq (.seq (.ops [zM 11 1,
 zP 12 (.bin .lss) [.t 11, .c (.int .i64 0)],
 zM 13 12,
 zMg 14 1 13 false,
 zFg 15 2 0 13 false,
 zLg 16 15 13 false,
 zPg 17 .lenS [.t 16] 13 false,
 zPg 18 (.bin .geq) [.t 14, .t 17] 13 false,
 zP 19 .pick [.t 13, .c (.bool true), .t 18]])
(.cond (.t 19)
(.seq (.ops [zP 4 .mov [.c (.int .i64 9)]])
.ret)
.skip))
(.seq (.ops [zP 4 .mov [.c (.int .i64 0)]])
.ret))))⟩
abbrev f_gauge_asked : Nat := 14
abbrev C_gauge_asked : AFunc := C14
def C15 : AFunc := ⟨28, [.tmp 4],
(.seq (.ops [zP 4 .mov [.c (.int .i64 0)]])
(.seq (.seq (.ops [zM 5 0,
 zP 6 (.bin .lss) [.t 5, .c (.int .i64 0)],
 zM 7 6,
 zMg 8 0 7 false,
 zFg 9 1 0 7 false,
 zLg 10 9 7 false,
 zLg 11 2 7 false,
 zPg 12 (.iaddrS 3) [.t 10, .t 11] 7 false,
 zFg 13 12 2 7 false,
 zLg 14 13 7 false,
 zPg 15 .lenS [.t 14] 7 false,
 zPg 16 (.bin .geq) [.t 8, .t 15] 7 false,
 zP 17 .pick [.t 7, .c (.bool true), .t 16]])
(.cond (.t 17)
(.seq (.ops [zP 4 .mov [.c (.int .i64 0)]])
.ret)
.skip))
(.seq (.ops [zF 18 1 0,
 zL 19 18,
 zL 20 2,
 zP 21 (.iaddrS 3) [.t 19, .t 20],
 zF 22 21 2,
 zL 23 22,
 zM 24 0,
 zP 25 (.iaddrS 8) [.t 23, .t 24],
 zF 26 25 1,
 zL 27 26,
 zM 4 27])
.ret)))⟩
abbrev f_gauge_Kept_1 : Nat := 15
abbrev C_gauge_Kept_1 : AFunc := C15
def C16 : AFunc := ⟨20, [.tmp 4],
(.seq (.ops [⟨some 3, none, .a .box, [.t 0]⟩,
 zP 4 .mov [.c (.bool false)]])
(.seq (.ops [zF 5 3 1,
 zL 6 5,
 zP 7 (.bin .eql) [.t 6, .c (.int .i64 1)],
 zM 8 7,
 zFg 9 3 2 8 true,
 zLg 10 9 8 true,
 zLg 11 1 8 true,
 zPg 12 (.bin .eql) [.t 10, .t 11] 8 true,
 zP 13 .pick [.t 8, .t 12, .c (.bool false)],
 zM 14 13,
 zFg 15 3 3 14 true,
 zLg 16 15 14 true,
 zLg 17 2 14 true,
 zPg 18 (.bin .eql) [.t 16, .t 17] 14 true,
 zP 19 .pick [.t 14, .t 18, .c (.bool false)],
 zM 4 19])
.ret))⟩
abbrev f_gauge_Load_1 : Nat := 16
abbrev C_gauge_Load_1 : AFunc := C16
def L_slices_IndexFunc_api_Note_api_Note_0 : AC := (.seq (.ops [zP 9 (.bin .lss) [.t 8, .t 7]])
(.seq (.cond (.t 9)
.skip
(.exit 0))
(.seq (.block 1 (.seq (.ops [zM 10 8,
 zM 5 10])
(.seq (.ops [zM 11 1,
 zM 12 0,
 zM 13 5,
 zP 14 (.iaddrS 7) [.t 12, .t 13],
⟨some 15, none, .r (.loadN 7), [.t 14]⟩,
⟨some 16, none, .call, [.t 11, .t 15]⟩])
(.cond (.t 16)
(.seq (.ops [zM 17 5,
 zM 4 17])
.ret)
.skip))))
(.ops [zP 18 (.bin .add) [.t 8, .c (.int .i64 1)],
 zM 8 18]))))
def C17 : AFunc := ⟨19, [.tmp 4],
(.seq (.ops [zP 4 .mov [.c (.int .i64 0)]])
(.seq (.seq (.ops [zM 6 0,
 zP 7 .lenS [.t 6],
 zP 8 .mov [.c (.int .i64 0)]])
(.block 0 (.loop L_slices_IndexFunc_api_Note_api_Note_0)))
(.seq (.ops [zP 4 .mov [.c (.int .i64 (-1))]])
.ret)))⟩
abbrev f_slices_IndexFunc_api_Note_api_Note : Nat := 17
abbrev C_slices_IndexFunc_api_Note_api_Note : AFunc := C17
def C18 : AFunc := ⟨24, [.tmp 2],
(.seq (.ops [⟨some 1, none, .a .box, [.t 0]⟩,
 zP 2 .mov [.c .nili]])
(.seq (.seq (.ops [zF 3 1 1,
 zL 4 3])
(.block 0 (.seq (.ops [zP 6 (.bin .eql) [.t 4, .c (.int .i64 2)],
 zM 5 6])
(.cond (.t 5)
(.seq (.ops [zF 7 1 5,
 zL 8 7,
 zP 9 (.bin .eql) [.t 8, .c (.int .i64 0)]])
(.cond (.t 9)
(.seq (.ops [zP 10 (.build [] []) [],
 zP 11 (.mkiface 61) [.t 10],
 zM 2 11])
.ret)
.skip))
(.seq (.ops [zP 13 (.bin .eql) [.t 4, .c (.int .i64 1)],
 zM 12 13])
(.cond (.t 12)
(.seq (.ops [zP 14 (.build [] []) [],
 zP 15 (.mkiface 62) [.t 14],
 zM 2 15])
.ret)
(.seq (.ops [zP 17 (.bin .eql) [.t 4, .c (.int .i64 3)],
 zM 16 17])
(.cond (.t 16)
(.seq (.ops [zP 18 (.build [(.int .i64 0)] [(0, 1)]) [.c (.int .i64 1)],
 zP 19 (.mkiface 64) [.t 18],
 zM 2 19])
.ret)
(.seq (.ops [zP 21 (.bin .eql) [.t 4, .c (.int .i64 4)],
 zM 20 21])
(.cond (.t 20)
(.seq (.ops [zP 22 (.build [(.int .i64 0)] [(0, 1)]) [.c (.int .i64 2)],
 zP 23 (.mkiface 64) [.t 22],
 zM 2 23])
.ret)
.skip))))))))))
(.seq (.ops [zP 2 .mov [.c .nili]])
.ret)))⟩
abbrev f_gauge_tells : Nat := 18
abbrev C_gauge_tells : AFunc := C18
def C19 : AFunc := ⟨27, [.tmp 2],
(.seq (.ops [⟨some 1, none, .a .box, [.t 0]⟩,
 zP 2 .mov [.c (.int .i64 0)]])
(.seq (.ops [zF 4 1 0,
 zL 5 4,
⟨some 6, none, .call, [.c (.func (.func 20) [] []), .t 5, .c (.func (.func 21) [] [])]⟩,
 zM 7 6,
 zFg 8 1 1 7 false,
 zLg 9 8 7 false,
 zPg 10 (.mkfunc (.func 24) 0) [.t 1] 7 false,
⟨some 11, some (7, false), .call, [.c (.func (.func 23) [] []), .t 9, .t 10]⟩,
 zP 12 .pick [.t 7, .c (.bool true), .t 11],
 zM 3 12])
(.seq (.seq (.ops [zM 13 3,
 zM 14 13,
 zFg 15 1 0 14 false,
 zLg 16 15 14 false,
 zPg 17 .lenS [.t 16] 14 false,
⟨some 18, some (14, false), .call, [.c (.func (.func 26) [] []), .t 17, .c (.int .i64 1), .c (.int .i64 4)]⟩,
 zPg 19 .not [.t 18] 14 false,
 zP 20 .pick [.t 14, .c (.bool true), .t 19],
 zM 21 20,
 zFg 22 1 1 21 false,
 zLg 23 22 21 false,
 zPg 24 .lenS [.t 23] 21 false,
 zPg 25 (.bin .gtr) [.t 24, .c (.int .i64 8)] 21 false,
 zP 26 .pick [.t 21, .c (.bool true), .t 25]])
(.cond (.t 26)
(.seq (.ops [zP 2 .mov [.c (.int .i64 50)]])
.ret)
.skip))
(.seq (.ops [zP 2 .mov [.c (.int .i64 0)]])
.ret))))⟩
abbrev f_conf_Check : Nat := 19
abbrev C_conf_Check : AFunc := C19
def C20 : AFunc := ⟨9, [.tmp 4],
(.seq (.ops [zP 4 .mov [.c (.bool false)]])
(.seq (.ops [zM 5 0,
 zM 6 1,
⟨some 7, none, .call, [.c (.func (.func 27) [] []), .t 5, .t 6]⟩,
 zP 8 (.bin .geq) [.t 7, .c (.int .i64 0)],
 zM 4 8])
.ret))⟩
abbrev f_slices_ContainsFunc_api_Part_api_Part : Nat := 20
abbrev C_slices_ContainsFunc_api_Part_api_Part : AFunc := C20
def C21 : AFunc := ⟨6, [.tmp 2],
(.seq (.ops [⟨some 1, none, .a .box, [.t 0]⟩,
 zP 2 .mov [.c (.bool false)]])
(.seq (.ops [⟨some 3, none, .r (.loadN 3), [.t 1]⟩,
⟨some 4, none, .call, [.c (.func (.func 22) [] []), .t 3]⟩,
 zP 5 .not [.t 4],
 zM 2 5])
.ret))⟩
abbrev f_conf_Check_1 : Nat := 21
abbrev C_conf_Check_1 : AFunc := C21
def C22 : AFunc := ⟨26, [.tmp 2],
(.seq (.ops [⟨some 1, none, .a .box, [.t 0]⟩,
 zP 2 .mov [.c (.bool false)]])
(.seq (.seq (.ops [zF 3 1 0,
 zL 4 3,
⟨some 5, none, .call, [.c (.func (.func 26) [] []), .t 4, .c (.int .i64 1), .c (.int .i64 64)]⟩,
 zP 6 .not [.t 5],
 zM 7 6,
 zFg 8 1 1 7 false,
 zLg 9 8 7 false,
 zFg 10 1 0 7 false,
 zLg 11 10 7 false,
⟨some 12, some (7, false), .call, [.c (.func (.func 26) [] []), .t 9, .c (.int .i64 1), .t 11]⟩,
 zPg 13 .not [.t 12] 7 false,
 zP 14 .pick [.t 7, .c (.bool true), .t 13],
 zM 15 14,
 zFg 16 1 2 15 false,
 zLg 17 16 15 false,
 zPg 18 .lenS [.t 17] 15 false,
 zPg 19 (.bin .gtr) [.t 18, .c (.int .i64 4)] 15 false,
 zP 20 .pick [.t 15, .c (.bool true), .t 19]])
(.cond (.t 20)
(.seq (.ops [zP 2 .mov [.c (.bool false)]])
.ret)
.skip))
(.seq (.ops [zF 21 1 2,
 zL 22 21,
 zP 23 (.mkfunc (.func 29) 0) [.t 1],
⟨some 24, none, .call, [.c (.func (.func 28) [] []), .t 22, .t 23]⟩,
 zP 25 .not [.t 24],
 zM 2 25])
.ret)))⟩
abbrev f_conf_partMay : Nat := 22
abbrev C_conf_partMay : AFunc := C22
def C23 : AFunc := ⟨9, [.tmp 4],
(.seq (.ops [zP 4 .mov [.c (.bool false)]])
(.seq (.ops [zM 5 0,
 zM 6 1,
⟨some 7, none, .call, [.c (.func (.func 31) [] []), .t 5, .t 6]⟩,
 zP 8 (.bin .geq) [.t 7, .c (.int .i64 0)],
 zM 4 8])
.ret))⟩
abbrev f_slices_ContainsFunc_api_Port_api_Port : Nat := 23
abbrev C_slices_ContainsFunc_api_Port_api_Port : AFunc := C23
def C24 : AFunc := ⟨10, [.tmp 3],
(.seq (.ops [⟨some 2, none, .a .box, [.t 0]⟩,
 zP 3 .mov [.c (.bool false)]])
(.seq (.ops [⟨some 4, none, .r (.loadN 6), [.t 2]⟩,
 zF 5 1 0,
 zL 6 5,
 zP 7 .lenS [.t 6],
⟨some 8, none, .call, [.c (.func (.func 25) [] []), .t 4, .t 7]⟩,
 zP 9 .not [.t 8],
 zM 3 9])
.ret))⟩
abbrev f_conf_Check_2 : Nat := 24
abbrev C_conf_Check_2 : AFunc := C24
def C25 : AFunc := ⟨55, [.tmp 4],
(.seq (.ops [⟨some 2, none, .a .box, [.t 0]⟩,
 zP 4 .mov [.c (.bool false)]])
(.seq (.ops [zP 5 .mov [.c (.bool false)]])
(.seq (.seq (.ops [zF 6 2 0,
 zL 7 6])
(.block 0 (.seq (.ops [zP 9 (.bin .eql) [.t 7, .c (.int .i64 1)],
 zM 8 9])
(.cond (.t 8)
(.ops [zF 10 2 4,
 zL 11 10,
 zP 12 (.bin .eql) [.t 11, .c (.int .i64 0)],
 zM 13 12,
 zFg 14 2 5 13 true,
 zLg 15 14 13 true,
⟨some 16, some (13, true), .call, [.c (.func (.func 26) [] []), .t 15, .c (.int .i64 1), .c (.int .i64 64)]⟩,
 zP 17 .pick [.t 13, .t 16, .c (.bool false)],
 zM 5 17])
(.seq (.ops [zP 19 (.bin .eql) [.t 7, .c (.int .i64 2)],
 zM 18 19])
(.cond (.t 18)
(.ops [zF 20 2 5,
 zL 21 20,
 zP 22 (.bin .eql) [.t 21, .c (.int .i64 0)],
 zM 23 22,
 zFg 24 2 4 23 true,
 zLg 25 24 23 true,
⟨some 26, some (23, true), .call, [.c (.func (.func 26) [] []), .t 25, .c (.int .i64 1), .c (.int .i64 4)]⟩,
 zP 27 .pick [.t 23, .t 26, .c (.bool false)],
 zM 5 27])
.skip))))))
(.seq (.ops [zM 28 5,
 zM 29 28,
 zFg 30 2 1 29 true,
 zLg 31 30 29 true,
 zMg 32 1 29 true,
 zPg 33 (.bin .sub) [.t 32, .c (.int .i64 1)] 29 true,
⟨some 34, some (29, true), .call, [.c (.func (.func 26) [] []), .t 31, .c (.int .i64 0), .t 33]⟩,
 zP 35 .pick [.t 29, .t 34, .c (.bool false)],
 zM 36 35,
 zFg 37 2 2 36 true,
 zLg 38 37 36 true,
 zMg 39 1 36 true,
 zPg 40 (.bin .sub) [.t 39, .c (.int .i64 1)] 36 true,
⟨some 41, some (36, true), .call, [.c (.func (.func 26) [] []), .t 38, .c (.int .i64 0), .t 40]⟩,
 zP 42 .pick [.t 36, .t 41, .c (.bool false)],
 zM 43 42,
 zFg 44 2 1 43 true,
 zLg 45 44 43 true,
 zFg 46 2 2 43 true,
 zLg 47 46 43 true,
 zPg 48 (.bin .neq) [.t 45, .t 47] 43 true,
 zP 49 .pick [.t 43, .t 48, .c (.bool false)],
 zM 50 49,
 zFg 51 2 3 50 true,
 zLg 52 51 50 true,
⟨some 53, some (50, true), .call, [.c (.func (.func 26) [] []), .t 52, .c (.int .i64 1), .c (.int .i64 16)]⟩,
 zP 54 .pick [.t 50, .t 53, .c (.bool false)],
 zM 4 54])
.ret))))⟩
abbrev f_conf_portMay : Nat := 25
abbrev C_conf_portMay : AFunc := C25
def C26 : AFunc := ⟨15, [.tmp 6],
(.seq (.ops [zP 6 .mov [.c (.bool false)]])
(.seq (.ops [zM 7 1,
 zM 8 0,
 zP 9 (.bin .leq) [.t 7, .t 8],
 zM 10 9,
 zMg 11 0 10 true,
 zMg 12 2 10 true,
 zPg 13 (.bin .leq) [.t 11, .t 12] 10 true,
 zP 14 .pick [.t 10, .t 13, .c (.bool false)],
 zM 6 14])
.ret))⟩
abbrev f_conf_within : Nat := 26
abbrev C_conf_within : AFunc := C26
def L_slices_IndexFunc_api_Part_api_Part_0 : AC := (.seq (.ops [zP 9 (.bin .lss) [.t 8, .t 7]])
(.seq (.cond (.t 9)
.skip
(.exit 0))
(.seq (.block 1 (.seq (.ops [zM 10 8,
 zM 5 10])
(.seq (.ops [zM 11 1,
 zM 12 0,
 zM 13 5,
 zP 14 (.iaddrS 3) [.t 12, .t 13],
⟨some 15, none, .r (.loadN 3), [.t 14]⟩,
⟨some 16, none, .call, [.t 11, .t 15]⟩])
(.cond (.t 16)
(.seq (.ops [zM 17 5,
 zM 4 17])
.ret)
.skip))))
(.ops [zP 18 (.bin .add) [.t 8, .c (.int .i64 1)],
 zM 8 18]))))
def C27 : AFunc := ⟨19, [.tmp 4],
(.seq (.ops [zP 4 .mov [.c (.int .i64 0)]])
(.seq (.seq (.ops [zM 6 0,
 zP 7 .lenS [.t 6],
 zP 8 .mov [.c (.int .i64 0)]])
(.block 0 (.loop L_slices_IndexFunc_api_Part_api_Part_0)))
(.seq (.ops [zP 4 .mov [.c (.int .i64 (-1))]])
.ret)))⟩
abbrev f_slices_IndexFunc_api_Part_api_Part : Nat := 27
abbrev C_slices_IndexFunc_api_Part_api_Part : AFunc := C27
def C28 : AFunc := ⟨9, [.tmp 4],
(.seq (.ops [zP 4 .mov [.c (.bool false)]])
(.seq (.ops [zM 5 0,
 zM 6 1,
⟨some 7, none, .call, [.c (.func (.func 32) [] []), .t 5, .t 6]⟩,
 zP 8 (.bin .geq) [.t 7, .c (.int .i64 0)],
 zM 4 8])
.ret))⟩
abbrev f_slices_ContainsFunc_api_Task_api_Task : Nat := 28
abbrev C_slices_ContainsFunc_api_Task_api_Task : AFunc := C28
def C29 : AFunc := ⟨9, [.tmp 3],
(.seq (.ops [⟨some 2, none, .a .box, [.t 0]⟩,
 zP 3 .mov [.c (.bool false)]])
(.seq (.ops [⟨some 4, none, .r (.loadN 8), [.t 2]⟩,
 zF 5 1 1,
 zL 6 5,
⟨some 7, none, .call, [.c (.func (.func 30) [] []), .t 4, .t 6]⟩,
 zP 8 .not [.t 7],
 zM 3 8])
.ret))⟩
abbrev f_conf_partMay_1 : Nat := 29
abbrev C_conf_partMay_1 : AFunc := C29
def C30 : AFunc := ⟨86, [.tmp 4],
(.seq (.ops [⟨some 2, none, .a .box, [.t 0]⟩,
 zP 4 .mov [.c (.bool false)]])
(.seq (.ops [zF 6 2 0,
 zL 7 6,
⟨some 8, none, .call, [.c (.func (.func 26) [] []), .t 7, .c (.int .i64 1), .c (.int .i64 64)]⟩,
 zM 9 8,
 zFg 10 2 1 9 true,
 zLg 11 10 9 true,
 zFg 12 2 0 9 true,
 zLg 13 12 9 true,
⟨some 14, some (9, true), .call, [.c (.func (.func 26) [] []), .t 11, .c (.int .i64 1), .t 13]⟩,
 zP 15 .pick [.t 9, .t 14, .c (.bool false)],
 zM 16 15,
 zFg 17 2 2 16 true,
 zLg 18 17 16 true,
 zFg 19 2 1 16 true,
 zLg 20 19 16 true,
⟨some 21, some (16, true), .call, [.c (.func (.func 26) [] []), .t 18, .c (.int .i64 1), .t 20]⟩,
 zP 22 .pick [.t 16, .t 21, .c (.bool false)],
 zM 5 22])
(.seq (.seq (.ops [zM 23 5,
 zP 24 .not [.t 23],
 zM 25 24,
 zFg 26 2 3 25 false,
 zLg 27 26 25 false,
⟨some 28, some (25, false), .call, [.c (.func (.func 26) [] []), .t 27, .c (.int .i64 0), .c (.int .i64 255)]⟩,
 zPg 29 .not [.t 28] 25 false,
 zP 30 .pick [.t 25, .c (.bool true), .t 29],
 zM 31 30,
 zFg 32 2 5 31 false,
 zLg 33 32 31 false,
⟨some 34, some (31, false), .call, [.c (.func (.func 26) [] []), .t 33, .c (.int .i64 0), .c (.int .i64 4)]⟩,
 zPg 35 .not [.t 34] 31 false,
 zP 36 .pick [.t 31, .c (.bool true), .t 35]])
(.cond (.t 36)
(.seq (.ops [zP 4 .mov [.c (.bool false)]])
.ret)
.skip))
(.seq (.seq (.ops [zF 37 2 3,
 zL 38 37,
 zP 39 (.bin .eql) [.t 38, .c (.int .i64 0)],
 zM 40 39,
 zFg 41 2 4 40 true,
 zLg 42 41 40 true,
 zPg 43 (.bin .neq) [.t 42, .c (.int .i64 0)] 40 true,
 zP 44 .pick [.t 40, .t 43, .c (.bool false)],
 zM 45 44,
 zFg 46 2 3 45 false,
 zLg 47 46 45 false,
 zPg 48 (.bin .neq) [.t 47, .c (.int .i64 0)] 45 false,
 zMg 49 48 45 false,
 zFg 50 2 4 49 true,
 zLg 51 50 49 true,
 zFg 52 2 2 49 true,
 zLg 53 52 49 true,
⟨some 54, some (49, true), .call, [.c (.func (.func 26) [] []), .t 51, .c (.int .i64 1), .t 53]⟩,
 zPg 55 .not [.t 54] 49 true,
 zPg 56 .pick [.t 49, .t 55, .c (.bool false)] 45 false,
 zP 57 .pick [.t 45, .c (.bool true), .t 56]])
(.cond (.t 57)
(.seq (.ops [zP 4 .mov [.c (.bool false)]])
.ret)
.skip))
(.seq (.seq (.ops [zF 58 2 5,
 zL 59 58,
 zP 60 (.bin .eql) [.t 59, .c (.int .i64 0)]])
(.cond (.t 60)
(.seq (.ops [zF 61 2 6,
 zL 62 61,
 zP 63 (.bin .eql) [.t 62, .c (.int .i64 0)],
 zM 64 63,
 zFg 65 2 7 64 true,
 zLg 66 65 64 true,
 zPg 67 (.bin .eql) [.t 66, .c (.int .i64 0)] 64 true,
 zP 68 .pick [.t 64, .t 67, .c (.bool false)],
 zM 4 68])
.ret)
.skip))
(.seq (.dops [zF 69 2 6,
 zL 70 69,
 zM 71 1,
 zF 72 2 2,
 zL 73 72,
 zP 74 .mn [.t 71, .t 73],
⟨some 75, none, .call, [.c (.func (.func 26) [] []), .t 70, .c (.int .i64 1), .t 74]⟩,
 zM 76 75,
 zFg 77 2 7 76 true,
 zLg 78 77 76 true,
 zFg 79 2 2 76 true,
 zLg 80 79 76 true,
 zFg 81 2 6 76 true,
 zLg 82 81 76 true,
 zPg 83 (.bin .quo) [.t 80, .t 82] 76 true,
⟨some 84, some (76, true), .call, [.c (.func (.func 26) [] []), .t 78, .c (.int .i64 1), .t 83]⟩,
 zP 85 .pick [.t 76, .t 84, .c (.bool false)],
 zM 4 85] [[], [], [], [], [], [], [], [], [], [], [], [], [], [], [], [], [], []])
.ret))))))⟩
abbrev f_conf_taskMay : Nat := 30
abbrev C_conf_taskMay : AFunc := C30
def L_slices_IndexFunc_api_Port_api_Port_0 : AC := (.seq (.ops [zP 9 (.bin .lss) [.t 8, .t 7]])
(.seq (.cond (.t 9)
.skip
(.exit 0))
(.seq (.block 1 (.seq (.ops [zM 10 8,
 zM 5 10])
(.seq (.ops [zM 11 1,
 zM 12 0,
 zM 13 5,
 zP 14 (.iaddrS 6) [.t 12, .t 13],
⟨some 15, none, .r (.loadN 6), [.t 14]⟩,
⟨some 16, none, .call, [.t 11, .t 15]⟩])
(.cond (.t 16)
(.seq (.ops [zM 17 5,
 zM 4 17])
.ret)
.skip))))
(.ops [zP 18 (.bin .add) [.t 8, .c (.int .i64 1)],
 zM 8 18]))))
def C31 : AFunc := ⟨19, [.tmp 4],
(.seq (.ops [zP 4 .mov [.c (.int .i64 0)]])
(.seq (.seq (.ops [zM 6 0,
 zP 7 .lenS [.t 6],
 zP 8 .mov [.c (.int .i64 0)]])
(.block 0 (.loop L_slices_IndexFunc_api_Port_api_Port_0)))
(.seq (.ops [zP 4 .mov [.c (.int .i64 (-1))]])
.ret)))⟩
abbrev f_slices_IndexFunc_api_Port_api_Port : Nat := 31
abbrev C_slices_IndexFunc_api_Port_api_Port : AFunc := C31
def L_slices_IndexFunc_api_Task_api_Task_0 : AC := (.seq (.ops [zP 9 (.bin .lss) [.t 8, .t 7]])
(.seq (.cond (.t 9)
.skip
(.exit 0))
(.seq (.block 1 (.seq (.ops [zM 10 8,
 zM 5 10])
(.seq (.ops [zM 11 1,
 zM 12 0,
 zM 13 5,
 zP 14 (.iaddrS 8) [.t 12, .t 13],
⟨some 15, none, .r (.loadN 8), [.t 14]⟩,
⟨some 16, none, .call, [.t 11, .t 15]⟩])
(.cond (.t 16)
(.seq (.ops [zM 17 5,
 zM 4 17])
.ret)
.skip))))
(.ops [zP 18 (.bin .add) [.t 8, .c (.int .i64 1)],
 zM 8 18]))))
def C32 : AFunc := ⟨19, [.tmp 4],
(.seq (.ops [zP 4 .mov [.c (.int .i64 0)]])
(.seq (.seq (.ops [zM 6 0,
 zP 7 .lenS [.t 6],
 zP 8 .mov [.c (.int .i64 0)]])
(.block 0 (.loop L_slices_IndexFunc_api_Task_api_Task_0)))
(.seq (.ops [zP 4 .mov [.c (.int .i64 (-1))]])
.ret)))⟩
abbrev f_slices_IndexFunc_api_Task_api_Task : Nat := 32
abbrev C_slices_IndexFunc_api_Task_api_Task : AFunc := C32
def T : Tr AFunc := (.node (.node (.node (.node (.node (.node .nil (some C31) .nil) (some C15) .nil) (some C7) (.node .nil (some C23) .nil)) (some C3) (.node (.node .nil (some C19) .nil) (some C11) (.node .nil (some C27) .nil))) none (.node (.node (.node .nil (some C17) .nil) (some C9) (.node .nil (some C25) .nil)) (some C5) (.node (.node .nil (some C21) .nil) (some C13) (.node .nil (some C29) .nil)))) none (.node (.node (.node (.node (.node .nil (some C32) .nil) (some C16) .nil) (some C8) (.node .nil (some C24) .nil)) (some C4) (.node (.node .nil (some C20) .nil) (some C12) (.node .nil (some C28) .nil))) none (.node (.node (.node .nil (some C18) .nil) (some C10) (.node .nil (some C26) .nil)) (some C6) (.node (.node .nil (some C22) .nil) (some C14) (.node .nil (some C30) .nil)))))
def fs (f : Nat) : Option AFunc := Tr.get T f
def ms (t : Nat) (n : String) : Option Nat := none
end Ir
end Go.Proofs.Ytfadblhkbopfjaa
