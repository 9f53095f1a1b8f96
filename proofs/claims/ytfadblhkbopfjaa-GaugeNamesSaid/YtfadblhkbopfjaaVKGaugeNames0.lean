/-
  Pieces of GaugeNames's run.
-/
import Derived.Test.YtfadblhkbopfjaaIrLink
import Derived.Test.YtfadblhkbopfjaaAdsOrc
import Derived.KernelRfl
set_option linter.unusedVariables false
set_option maxRecDepth 1000000
namespace Go.Proofs.Ytfadblhkbopfjaa
open Go Ads
namespace Ir
def E2 : Ent := ⟨12, [(.sl 1 0 9 9 false), (iv 0), (iv 20), (.func (.func 13) [] [])], 2,
[(1, (.cells [(iv 1), (iv 1), (iv 0), (iv 0), (iv 0), (iv 0), (.str []), (iv 1), (iv 3), (iv 0), (iv 0), (iv 0), (iv 0), (.str []), (iv 3), (iv 2), (iv 0), (iv 0), (iv 0), (iv 0), (.str []), (iv 4), (iv 1), (iv 0), (iv 0), (iv 0), (iv 0), (.str []), (iv 3), (iv 2), (iv 0), (iv 0), (iv 0), (iv 0), (.str []), (iv 5), (iv 1), (iv 0), (iv 1), (iv 0), (iv 0), (.str []), (iv 6), (iv 4), (iv 0), (iv 0), (iv 2), (iv 0), (.str []), (iv 7), (iv 2), (iv 0), (iv 0), (iv 0), (iv 140), (.str []), (iv 8), (iv 2), (iv 1), (iv 0), (iv 0), (iv 0), (.str [])] true 0))],
(.sl 24 0 2 2 true), 34,
[(1, (.cells [(iv 1), (iv 1), (iv 0), (iv 0), (iv 0), (iv 0), (.str []), (iv 1), (iv 3), (iv 0), (iv 0), (iv 0), (iv 0), (.str []), (iv 3), (iv 2), (iv 0), (iv 0), (iv 0), (iv 0), (.str []), (iv 4), (iv 1), (iv 0), (iv 0), (iv 0), (iv 0), (.str []), (iv 3), (iv 2), (iv 0), (iv 0), (iv 0), (iv 0), (.str []), (iv 5), (iv 1), (iv 0), (iv 1), (iv 0), (iv 0), (.str []), (iv 6), (iv 4), (iv 0), (iv 0), (iv 2), (iv 0), (.str []), (iv 7), (iv 2), (iv 0), (iv 0), (iv 0), (iv 140), (.str []), (iv 8), (iv 2), (iv 1), (iv 0), (iv 0), (iv 0), (.str [])] true 0)),
(12, (.cells [(iv 0), (iv 3), (iv 20), (iv 1), (iv 0), (iv 3), (iv 0)] true 0)),
(22, (.cells [(iv 0), (iv 3), (iv 6), (iv 0), (iv 2), (iv 3), (iv 0)] true 0)),
(24, (.cells [(.ptr 12 0), (.ptr 22 0)] true 1))]⟩
theorem K2 : EOk fs ms E2 := eok_any (orc := orcB []) (orcB_ok trivial) (n := 1000000) (af := C12) (show fs 12 = some C12 from rfl) (by kernel_rfl) (by kernel_rfl) (by kernel_rfl)
def E43 : Ent := ⟨12, [(.sl 44 0 6 6 false), (iv 0), (iv 9), (.func (.func 15) [] [(.ptr 45 0), (.ptr 46 0)])], 55,
[(40, (.cells [(iv 4), (iv 2), (.sl 43 0 2 2 true)] true 0)),
(43, (.cells [(iv 8), (iv 8), (iv 2), (iv 0), (iv 0), (iv 0), (iv 0), (iv 0), (iv 6), (iv 3), (iv 2), (iv 1), (iv 2), (iv 0), (iv 0), (iv 0)] true 8)),
(44, (.cells [(iv 1), (iv 2), (iv 0), (iv 0), (iv 0), (iv 0), (.str []), (iv 1), (iv 1), (iv 0), (iv 0), (iv 0), (iv 0), (.str []), (iv 2), (iv 2), (iv 0), (iv 1), (iv 0), (iv 0), (.str []), (iv 2), (iv 1), (iv 0), (iv 0), (iv 0), (iv 0), (.str []), (iv 3), (iv 1), (iv 0), (iv 1), (iv 0), (iv 0), (.str []), (iv 4), (iv 1), (iv 0), (iv (-1)), (iv 0), (iv 0), (.str [])] true 0)),
(45, (.cells [(.sl 40 0 1 1 false), .nils] true 0)),
(46, (.cells [(iv 0)] true 0))],
(.sl 71 0 2 2 true), 83,
[(40, (.cells [(iv 4), (iv 2), (.sl 43 0 2 2 true)] true 0)),
(43, (.cells [(iv 8), (iv 8), (iv 2), (iv 0), (iv 0), (iv 0), (iv 0), (iv 0), (iv 6), (iv 3), (iv 2), (iv 1), (iv 2), (iv 0), (iv 0), (iv 0)] true 8)),
(44, (.cells [(iv 1), (iv 2), (iv 0), (iv 0), (iv 0), (iv 0), (.str []), (iv 1), (iv 1), (iv 0), (iv 0), (iv 0), (iv 0), (.str []), (iv 2), (iv 2), (iv 0), (iv 1), (iv 0), (iv 0), (.str []), (iv 2), (iv 1), (iv 0), (iv 0), (iv 0), (iv 0), (.str []), (iv 3), (iv 1), (iv 0), (iv 1), (iv 0), (iv 0), (.str []), (iv 4), (iv 1), (iv 0), (iv (-1)), (iv 0), (iv 0), (.str [])] true 0)),
(45, (.cells [(.sl 40 0 1 1 false), .nils] true 0)),
(46, (.cells [(iv 0)] true 0)),
(59, (.cells [(iv 0), (iv 1), (iv 9), (iv 2), (iv 0), (iv 9), (iv 0)] true 0)),
(69, (.cells [(iv 1), (iv 2), (iv 9), (iv 1), (iv 0), (iv 5), (iv 1)] true 0)),
(71, (.cells [(.ptr 59 0), (.ptr 69 0)] true 1))]⟩
theorem K43 : EOk fs ms E43 := eok_any (orc := orcB []) (orcB_ok trivial) (n := 1000000) (af := C12) (show fs 12 = some C12 from rfl) (by kernel_rfl) (by kernel_rfl) (by kernel_rfl)
def E157 : Ent := ⟨12, [(.sl 124 0 6 6 false), (iv 0), (iv 12), (.func (.func 13) [] [])], 125,
[(124, (.cells [(iv 1), (iv 6), (iv 0), (iv 0), (iv 0), (iv 0), (.str []), (iv 1), (iv 2), (iv 0), (iv 0), (iv 0), (iv 0), (.str []), (iv 1), (iv 1), (iv 0), (iv 0), (iv 0), (iv 0), (.str []), (iv 2), (iv 1), (iv 0), (iv 0), (iv 0), (iv 0), (.str []), (iv 2), (iv 3), (iv 0), (iv 0), (iv 0), (iv 0), (.str []), (iv 9), (iv 2), (iv 0), (iv 0), (iv 0), (iv 0), (.str [])] true 0))],
(.sl 150 0 2 2 true), 151,
[(124, (.cells [(iv 1), (iv 6), (iv 0), (iv 0), (iv 0), (iv 0), (.str []), (iv 1), (iv 2), (iv 0), (iv 0), (iv 0), (iv 0), (.str []), (iv 1), (iv 1), (iv 0), (iv 0), (iv 0), (iv 0), (.str []), (iv 2), (iv 1), (iv 0), (iv 0), (iv 0), (iv 0), (.str []), (iv 2), (iv 3), (iv 0), (iv 0), (iv 0), (iv 0), (.str []), (iv 9), (iv 2), (iv 0), (iv 0), (iv 0), (iv 0), (.str [])] true 0)),
(131, (.cells [(iv 0), (iv 1), (iv 2), (iv 2), (iv 1), (iv 1), (iv 0)] true 0)),
(148, (.cells [(iv 0), (iv 9), (iv 12), (iv 0), (iv 0), (iv 9), (iv 0)] true 0)),
(150, (.cells [(.ptr 131 0), (.ptr 148 0)] true 1))]⟩
theorem K157 : EOk fs ms E157 := eok_any (orc := orcB []) (orcB_ok trivial) (n := 1000000) (af := C12) (show fs 12 = some C12 from rfl) (by kernel_rfl) (by kernel_rfl) (by kernel_rfl)
def E188 : Ent := ⟨12, [(.sl 124 0 6 6 false), (iv 0), (iv 12), (.func (.func 15) [] [(.ptr 158 0), (.ptr 159 0)])], 166,
[(124, (.cells [(iv 1), (iv 6), (iv 0), (iv 0), (iv 0), (iv 0), (.str []), (iv 1), (iv 2), (iv 0), (iv 0), (iv 0), (iv 0), (.str []), (iv 1), (iv 1), (iv 0), (iv 0), (iv 0), (iv 0), (.str []), (iv 2), (iv 1), (iv 0), (iv 0), (iv 0), (iv 0), (.str []), (iv 2), (iv 3), (iv 0), (iv 0), (iv 0), (iv 0), (.str []), (iv 9), (iv 2), (iv 0), (iv 0), (iv 0), (iv 0), (.str [])] true 0)),
(156, (.cells [(iv 8), (iv 8), (iv 2), (iv 0), (iv 0), (iv 0), (iv 0), (iv 0)] true 0)),
(157, (.cells [(iv 4), (iv 2), (.sl 156 0 1 1 false)] true 0)),
(158, (.cells [(.sl 157 0 1 1 false), .nils] true 0)),
(159, (.cells [(iv 0)] true 0))],
(.sl 191 0 2 2 true), 192,
[(124, (.cells [(iv 1), (iv 6), (iv 0), (iv 0), (iv 0), (iv 0), (.str []), (iv 1), (iv 2), (iv 0), (iv 0), (iv 0), (iv 0), (.str []), (iv 1), (iv 1), (iv 0), (iv 0), (iv 0), (iv 0), (.str []), (iv 2), (iv 1), (iv 0), (iv 0), (iv 0), (iv 0), (.str []), (iv 2), (iv 3), (iv 0), (iv 0), (iv 0), (iv 0), (.str []), (iv 9), (iv 2), (iv 0), (iv 0), (iv 0), (iv 0), (.str [])] true 0)),
(156, (.cells [(iv 8), (iv 8), (iv 2), (iv 0), (iv 0), (iv 0), (iv 0), (iv 0)] true 0)),
(157, (.cells [(iv 4), (iv 2), (.sl 156 0 1 1 false)] true 0)),
(158, (.cells [(.sl 157 0 1 1 false), .nils] true 0)),
(159, (.cells [(iv 0)] true 0)),
(172, (.cells [(iv 0), (iv 1), (iv 2), (iv 2), (iv 1), (iv 9), (iv 0)] true 0)),
(189, (.cells [(iv 0), (iv 9), (iv 12), (iv 0), (iv 0), (iv 17), (iv 0)] true 0)),
(191, (.cells [(.ptr 172 0), (.ptr 189 0)] true 1))]⟩
theorem K188 : EOk fs ms E188 := eok_any (orc := orcB []) (orcB_ok trivial) (n := 1000000) (af := C12) (show fs 12 = some C12 from rfl) (by kernel_rfl) (by kernel_rfl) (by kernel_rfl)
def E221 : Ent := ⟨12, [(.sl 124 0 6 6 false), (iv 0), (iv 12), (.func (.func 13) [] [])], 207,
[(124, (.cells [(iv 1), (iv 6), (iv 0), (iv 0), (iv 0), (iv 0), (.str []), (iv 1), (iv 2), (iv 0), (iv 0), (iv 0), (iv 0), (.str []), (iv 1), (iv 1), (iv 0), (iv 0), (iv 0), (iv 0), (.str []), (iv 2), (iv 1), (iv 0), (iv 0), (iv 0), (iv 0), (.str []), (iv 2), (iv 3), (iv 0), (iv 0), (iv 0), (iv 0), (.str []), (iv 9), (iv 2), (iv 0), (iv 0), (iv 0), (iv 0), (.str [])] true 0))],
(.sl 232 0 2 2 true), 233,
[(124, (.cells [(iv 1), (iv 6), (iv 0), (iv 0), (iv 0), (iv 0), (.str []), (iv 1), (iv 2), (iv 0), (iv 0), (iv 0), (iv 0), (.str []), (iv 1), (iv 1), (iv 0), (iv 0), (iv 0), (iv 0), (.str []), (iv 2), (iv 1), (iv 0), (iv 0), (iv 0), (iv 0), (.str []), (iv 2), (iv 3), (iv 0), (iv 0), (iv 0), (iv 0), (.str []), (iv 9), (iv 2), (iv 0), (iv 0), (iv 0), (iv 0), (.str [])] true 0)),
(213, (.cells [(iv 0), (iv 1), (iv 2), (iv 2), (iv 1), (iv 1), (iv 0)] true 0)),
(230, (.cells [(iv 0), (iv 9), (iv 12), (iv 0), (iv 0), (iv 9), (iv 0)] true 0)),
(232, (.cells [(.ptr 213 0), (.ptr 230 0)] true 1))]⟩
theorem K221 : EOk fs ms E221 := eok_any (orc := orcB []) (orcB_ok trivial) (n := 1000000) (af := C12) (show fs 12 = some C12 from rfl) (by kernel_rfl) (by kernel_rfl) (by kernel_rfl)
def E242 : Ent := ⟨12, [.nils, (iv 0), (iv 9), (.func (.func 13) [] [])], 250,
[],
.nils, 251,
[]⟩
theorem K242 : EOk fs ms E242 := eok_any (orc := orcB []) (orcB_ok trivial) (n := 1000000) (af := C12) (show fs 12 = some C12 from rfl) (by kernel_rfl) (by kernel_rfl) (by kernel_rfl)
def E245 : Ent := ⟨12, [(.sl 1 0 9 9 false), (iv 0), (iv 20), (.func (.func 13) [] [])], 251,
[(1, (.cells [(iv 1), (iv 1), (iv 0), (iv 0), (iv 0), (iv 0), (.str []), (iv 1), (iv 3), (iv 0), (iv 0), (iv 0), (iv 0), (.str []), (iv 3), (iv 2), (iv 0), (iv 0), (iv 0), (iv 0), (.str []), (iv 4), (iv 1), (iv 0), (iv 0), (iv 0), (iv 0), (.str []), (iv 3), (iv 2), (iv 0), (iv 0), (iv 0), (iv 0), (.str []), (iv 5), (iv 1), (iv 0), (iv 1), (iv 0), (iv 0), (.str []), (iv 6), (iv 4), (iv 0), (iv 0), (iv 2), (iv 0), (.str []), (iv 7), (iv 2), (iv 0), (iv 0), (iv 0), (iv 140), (.str []), (iv 8), (iv 2), (iv 1), (iv 0), (iv 0), (iv 0), (.str [])] true 0))],
(.sl 273 0 2 2 true), 283,
[(1, (.cells [(iv 1), (iv 1), (iv 0), (iv 0), (iv 0), (iv 0), (.str []), (iv 1), (iv 3), (iv 0), (iv 0), (iv 0), (iv 0), (.str []), (iv 3), (iv 2), (iv 0), (iv 0), (iv 0), (iv 0), (.str []), (iv 4), (iv 1), (iv 0), (iv 0), (iv 0), (iv 0), (.str []), (iv 3), (iv 2), (iv 0), (iv 0), (iv 0), (iv 0), (.str []), (iv 5), (iv 1), (iv 0), (iv 1), (iv 0), (iv 0), (.str []), (iv 6), (iv 4), (iv 0), (iv 0), (iv 2), (iv 0), (.str []), (iv 7), (iv 2), (iv 0), (iv 0), (iv 0), (iv 140), (.str []), (iv 8), (iv 2), (iv 1), (iv 0), (iv 0), (iv 0), (.str [])] true 0)),
(261, (.cells [(iv 0), (iv 3), (iv 20), (iv 1), (iv 0), (iv 3), (iv 0)] true 0)),
(271, (.cells [(iv 0), (iv 3), (iv 6), (iv 0), (iv 2), (iv 3), (iv 0)] true 0)),
(273, (.cells [(.ptr 261 0), (.ptr 271 0)] true 1))]⟩
theorem K245 : EOk fs ms E245 := eok_any (orc := orcB []) (orcB_ok trivial) (n := 1000000) (af := C12) (show fs 12 = some C12 from rfl) (by kernel_rfl) (by kernel_rfl) (by kernel_rfl)
end Ir
end Go.Proofs.Ytfadblhkbopfjaa
