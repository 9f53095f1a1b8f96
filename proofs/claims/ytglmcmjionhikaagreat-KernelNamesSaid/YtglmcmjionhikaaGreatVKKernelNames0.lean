/-
  Pieces of KernelNames's run.
-/
import Derived.Test.YtglmcmjionhikaaGreatIrCode
import Derived.Test.YtglmcmjionhikaaGreatAdsOrc
import Derived.KernelRfl
set_option linter.unusedVariables false
set_option maxRecDepth 1000000
namespace Go.Proofs.YtglmcmjionhikaaGreat
open Go Ads
namespace Ir
def E2969 : Ent := ⟨286, [(.agg [(iv 4), (iv 2), (.sl 43 0 1 1 true), (.sl 115 0 1 2 false), (iv 0), (.sl 141 0 1 1 false)]), (iv 79)], 1702,
[(43, (.cells [(iv 40), (iv 40), (iv 3), (iv 1), (iv 1), (iv 1), (iv 2), (iv 1)] true 8)),
(115, (.cells [(iv 4), (iv 2), (.sl 43 0 1 1 true), (iv 0), (iv 0), .nils] true 0)),
(141, (.cells [(iv 1)] true 0))],
(iv 34), 1727,
[(43, (.cells [(iv 40), (iv 40), (iv 3), (iv 1), (iv 1), (iv 1), (iv 2), (iv 1)] true 8)),
(115, (.cells [(iv 4), (iv 2), (.sl 43 0 1 1 true), (iv 0), (iv 0), .nils] true 0)),
(141, (.cells [(iv 1)] true 0))]⟩
theorem K2969 : EOk fs ms E2969 := eok_of (orc := orcB []) (orcB_ok trivial) (n := 1000000) (by kernel_rfl) (by kernel_rfl)
def E3023 : Ent := ⟨286, [(.agg [(iv 4), (iv 2), (.sl 43 0 1 1 true), (.sl 115 0 1 2 false), (iv 0), (.sl 141 0 1 1 false)]), (iv 80)], 1734,
[(43, (.cells [(iv 40), (iv 40), (iv 3), (iv 1), (iv 1), (iv 1), (iv 2), (iv 1)] true 8)),
(115, (.cells [(iv 4), (iv 2), (.sl 43 0 1 1 true), (iv 0), (iv 0), .nils] true 0)),
(141, (.cells [(iv 1)] true 0))],
(iv 30), 1759,
[(43, (.cells [(iv 40), (iv 40), (iv 3), (iv 1), (iv 1), (iv 1), (iv 2), (iv 1)] true 8)),
(115, (.cells [(iv 4), (iv 2), (.sl 43 0 1 1 true), (iv 0), (iv 0), .nils] true 0)),
(141, (.cells [(iv 1)] true 0))]⟩
theorem K3023 : EOk fs ms E3023 := eok_of (orc := orcB []) (orcB_ok trivial) (n := 1000000) (by kernel_rfl) (by kernel_rfl)
def E3077 : Ent := ⟨286, [(.agg [(iv 4), (iv 2), (.sl 43 0 1 1 true), (.sl 115 0 1 2 false), (iv 0), (.sl 141 0 1 1 false)]), (iv 81)], 1766,
[(43, (.cells [(iv 40), (iv 40), (iv 3), (iv 1), (iv 1), (iv 1), (iv 2), (iv 1)] true 8)),
(115, (.cells [(iv 4), (iv 2), (.sl 43 0 1 1 true), (iv 0), (iv 0), .nils] true 0)),
(141, (.cells [(iv 1)] true 0))],
(iv 31), 1791,
[(43, (.cells [(iv 40), (iv 40), (iv 3), (iv 1), (iv 1), (iv 1), (iv 2), (iv 1)] true 8)),
(115, (.cells [(iv 4), (iv 2), (.sl 43 0 1 1 true), (iv 0), (iv 0), .nils] true 0)),
(141, (.cells [(iv 1)] true 0))]⟩
theorem K3077 : EOk fs ms E3077 := eok_of (orc := orcB []) (orcB_ok trivial) (n := 1000000) (by kernel_rfl) (by kernel_rfl)
def E3131 : Ent := ⟨286, [(.agg [(iv 4), (iv 2), (.sl 43 0 1 1 true), (.sl 115 0 1 2 false), (iv 0), (.sl 141 0 1 1 false)]), (iv 82)], 1798,
[(43, (.cells [(iv 40), (iv 40), (iv 3), (iv 1), (iv 1), (iv 1), (iv 2), (iv 1)] true 8)),
(115, (.cells [(iv 4), (iv 2), (.sl 43 0 1 1 true), (iv 0), (iv 0), .nils] true 0)),
(141, (.cells [(iv 1)] true 0))],
(iv 32), 1823,
[(43, (.cells [(iv 40), (iv 40), (iv 3), (iv 1), (iv 1), (iv 1), (iv 2), (iv 1)] true 8)),
(115, (.cells [(iv 4), (iv 2), (.sl 43 0 1 1 true), (iv 0), (iv 0), .nils] true 0)),
(141, (.cells [(iv 1)] true 0))]⟩
theorem K3131 : EOk fs ms E3131 := eok_of (orc := orcB []) (orcB_ok trivial) (n := 1000000) (by kernel_rfl) (by kernel_rfl)
def E3185 : Ent := ⟨286, [(.agg [(iv 4), (iv 2), (.sl 43 0 1 1 true), (.sl 115 0 1 2 false), (iv 0), (.sl 141 0 1 1 false)]), (iv 83)], 1830,
[(43, (.cells [(iv 40), (iv 40), (iv 3), (iv 1), (iv 1), (iv 1), (iv 2), (iv 1)] true 8)),
(115, (.cells [(iv 4), (iv 2), (.sl 43 0 1 1 true), (iv 0), (iv 0), .nils] true 0)),
(141, (.cells [(iv 1)] true 0))],
(iv 32), 1855,
[(43, (.cells [(iv 40), (iv 40), (iv 3), (iv 1), (iv 1), (iv 1), (iv 2), (iv 1)] true 8)),
(115, (.cells [(iv 4), (iv 2), (.sl 43 0 1 1 true), (iv 0), (iv 0), .nils] true 0)),
(141, (.cells [(iv 1)] true 0))]⟩
theorem K3185 : EOk fs ms E3185 := eok_of (orc := orcB []) (orcB_ok trivial) (n := 1000000) (by kernel_rfl) (by kernel_rfl)
def E3239 : Ent := ⟨286, [(.agg [(iv 4), (iv 2), (.sl 43 0 1 1 true), (.sl 115 0 1 2 false), (iv 0), (.sl 141 0 1 1 false)]), (iv 84)], 1862,
[(43, (.cells [(iv 40), (iv 40), (iv 3), (iv 1), (iv 1), (iv 1), (iv 2), (iv 1)] true 8)),
(115, (.cells [(iv 4), (iv 2), (.sl 43 0 1 1 true), (iv 0), (iv 0), .nils] true 0)),
(141, (.cells [(iv 1)] true 0))],
(iv 32), 1887,
[(43, (.cells [(iv 40), (iv 40), (iv 3), (iv 1), (iv 1), (iv 1), (iv 2), (iv 1)] true 8)),
(115, (.cells [(iv 4), (iv 2), (.sl 43 0 1 1 true), (iv 0), (iv 0), .nils] true 0)),
(141, (.cells [(iv 1)] true 0))]⟩
theorem K3239 : EOk fs ms E3239 := eok_of (orc := orcB []) (orcB_ok trivial) (n := 1000000) (by kernel_rfl) (by kernel_rfl)
def E3293 : Ent := ⟨286, [(.agg [(iv 4), (iv 2), (.sl 43 0 1 1 true), (.sl 115 0 1 2 false), (iv 0), (.sl 141 0 1 1 false)]), (iv 85)], 1894,
[(43, (.cells [(iv 40), (iv 40), (iv 3), (iv 1), (iv 1), (iv 1), (iv 2), (iv 1)] true 8)),
(115, (.cells [(iv 4), (iv 2), (.sl 43 0 1 1 true), (iv 0), (iv 0), .nils] true 0)),
(141, (.cells [(iv 1)] true 0))],
(iv 33), 1919,
[(43, (.cells [(iv 40), (iv 40), (iv 3), (iv 1), (iv 1), (iv 1), (iv 2), (iv 1)] true 8)),
(115, (.cells [(iv 4), (iv 2), (.sl 43 0 1 1 true), (iv 0), (iv 0), .nils] true 0)),
(141, (.cells [(iv 1)] true 0))]⟩
theorem K3293 : EOk fs ms E3293 := eok_of (orc := orcB []) (orcB_ok trivial) (n := 1000000) (by kernel_rfl) (by kernel_rfl)
def E3347 : Ent := ⟨286, [(.agg [(iv 4), (iv 2), (.sl 43 0 1 1 true), (.sl 115 0 1 2 false), (iv 0), (.sl 141 0 1 1 false)]), (iv 86)], 1926,
[(43, (.cells [(iv 40), (iv 40), (iv 3), (iv 1), (iv 1), (iv 1), (iv 2), (iv 1)] true 8)),
(115, (.cells [(iv 4), (iv 2), (.sl 43 0 1 1 true), (iv 0), (iv 0), .nils] true 0)),
(141, (.cells [(iv 1)] true 0))],
(iv 34), 1951,
[(43, (.cells [(iv 40), (iv 40), (iv 3), (iv 1), (iv 1), (iv 1), (iv 2), (iv 1)] true 8)),
(115, (.cells [(iv 4), (iv 2), (.sl 43 0 1 1 true), (iv 0), (iv 0), .nils] true 0)),
(141, (.cells [(iv 1)] true 0))]⟩
theorem K3347 : EOk fs ms E3347 := eok_of (orc := orcB []) (orcB_ok trivial) (n := 1000000) (by kernel_rfl) (by kernel_rfl)
def E3401 : Ent := ⟨286, [(.agg [(iv 4), (iv 2), (.sl 43 0 1 1 true), (.sl 115 0 1 2 false), (iv 0), (.sl 141 0 1 1 false)]), (iv 87)], 1958,
[(43, (.cells [(iv 40), (iv 40), (iv 3), (iv 1), (iv 1), (iv 1), (iv 2), (iv 1)] true 8)),
(115, (.cells [(iv 4), (iv 2), (.sl 43 0 1 1 true), (iv 0), (iv 0), .nils] true 0)),
(141, (.cells [(iv 1)] true 0))],
(iv 34), 1983,
[(43, (.cells [(iv 40), (iv 40), (iv 3), (iv 1), (iv 1), (iv 1), (iv 2), (iv 1)] true 8)),
(115, (.cells [(iv 4), (iv 2), (.sl 43 0 1 1 true), (iv 0), (iv 0), .nils] true 0)),
(141, (.cells [(iv 1)] true 0))]⟩
theorem K3401 : EOk fs ms E3401 := eok_of (orc := orcB []) (orcB_ok trivial) (n := 1000000) (by kernel_rfl) (by kernel_rfl)
def E3455 : Ent := ⟨286, [(.agg [(iv 4), (iv 2), (.sl 43 0 1 1 true), (.sl 115 0 1 2 false), (iv 0), (.sl 141 0 1 1 false)]), (iv 88)], 1990,
[(43, (.cells [(iv 40), (iv 40), (iv 3), (iv 1), (iv 1), (iv 1), (iv 2), (iv 1)] true 8)),
(115, (.cells [(iv 4), (iv 2), (.sl 43 0 1 1 true), (iv 0), (iv 0), .nils] true 0)),
(141, (.cells [(iv 1)] true 0))],
(iv 34), 2015,
[(43, (.cells [(iv 40), (iv 40), (iv 3), (iv 1), (iv 1), (iv 1), (iv 2), (iv 1)] true 8)),
(115, (.cells [(iv 4), (iv 2), (.sl 43 0 1 1 true), (iv 0), (iv 0), .nils] true 0)),
(141, (.cells [(iv 1)] true 0))]⟩
theorem K3455 : EOk fs ms E3455 := eok_of (orc := orcB []) (orcB_ok trivial) (n := 1000000) (by kernel_rfl) (by kernel_rfl)
def E235 : Ent := ⟨176, [(.sl 115 0 1 2 false), (iv 0)], 130,
[(43, (.cells [(iv 40), (iv 40), (iv 3), (iv 1), (iv 1), (iv 1), (iv 2), (iv 1)] true 8)),
(115, (.cells [(iv 4), (iv 2), (.sl 43 0 1 1 true), (iv 0), (iv 0), .nils] true 0))],
(.tup [(iv 0), (iv 0)]), 2015,
[(43, (.cells [(iv 40), (iv 40), (iv 3), (iv 1), (iv 1), (iv 1), (iv 2), (iv 1)] true 8)),
(115, (.cells [(iv 4), (iv 2), (.sl 43 0 1 1 true), (iv 0), (iv 0), .nils] true 0))]⟩
theorem K235 : EOk fs ms E235 := eok_of (orc := orcB [(286, [(1702, E2969), (1734, E3023), (1766, E3077), (1798, E3131), (1830, E3185), (1862, E3239), (1894, E3293), (1926, E3347), (1958, E3401), (1990, E3455)])]) (orcB_ok ⟨⟨K2969, K3023, K3077, K3131, K3185, K3239, K3293, K3347, K3401, K3455, trivial⟩, trivial⟩) (n := 1000000) (by kernel_rfl) (by kernel_rfl)
def E6231 : Ent := ⟨286, [(.agg [(iv 4), (iv 2), (.sl 43 0 1 1 true), (.sl 2076 0 2 2 false), (iv 0), (.sl 2115 0 1 1 false)]), (iv 69)], 3533,
[(43, (.cells [(iv 40), (iv 40), (iv 3), (iv 1), (iv 1), (iv 1), (iv 2), (iv 1)] true 8)),
(45, (.cells [(iv 40), (iv 40), (iv 3), (iv 1), (iv 1), (iv 1), (iv 2), (iv 1)] true 8)),
(2076, (.cells [(iv 4), (iv 2), (.sl 43 0 1 1 true), (iv 4), (iv 2), (.sl 45 0 1 1 true)] true 0)),
(2115, (.cells [(iv 9)] true 0))],
(iv 21), 3564,
[(43, (.cells [(iv 40), (iv 40), (iv 3), (iv 1), (iv 1), (iv 1), (iv 2), (iv 1)] true 8)),
(45, (.cells [(iv 40), (iv 40), (iv 3), (iv 1), (iv 1), (iv 1), (iv 2), (iv 1)] true 8)),
(2076, (.cells [(iv 4), (iv 2), (.sl 43 0 1 1 true), (iv 4), (iv 2), (.sl 45 0 1 1 true)] true 0)),
(2115, (.cells [(iv 9)] true 0))]⟩
theorem K6231 : EOk fs ms E6231 := eok_of (orc := orcB []) (orcB_ok trivial) (n := 1000000) (by kernel_rfl) (by kernel_rfl)
def E6298 : Ent := ⟨286, [(.agg [(iv 4), (iv 2), (.sl 43 0 1 1 true), (.sl 2076 0 2 2 false), (iv 0), (.sl 2115 0 1 1 false)]), (iv 70)], 3571,
[(43, (.cells [(iv 40), (iv 40), (iv 3), (iv 1), (iv 1), (iv 1), (iv 2), (iv 1)] true 8)),
(45, (.cells [(iv 40), (iv 40), (iv 3), (iv 1), (iv 1), (iv 1), (iv 2), (iv 1)] true 8)),
(2076, (.cells [(iv 4), (iv 2), (.sl 43 0 1 1 true), (iv 4), (iv 2), (.sl 45 0 1 1 true)] true 0)),
(2115, (.cells [(iv 9)] true 0))],
(iv 22), 3602,
[(43, (.cells [(iv 40), (iv 40), (iv 3), (iv 1), (iv 1), (iv 1), (iv 2), (iv 1)] true 8)),
(45, (.cells [(iv 40), (iv 40), (iv 3), (iv 1), (iv 1), (iv 1), (iv 2), (iv 1)] true 8)),
(2076, (.cells [(iv 4), (iv 2), (.sl 43 0 1 1 true), (iv 4), (iv 2), (.sl 45 0 1 1 true)] true 0)),
(2115, (.cells [(iv 9)] true 0))]⟩
theorem K6298 : EOk fs ms E6298 := eok_of (orc := orcB []) (orcB_ok trivial) (n := 1000000) (by kernel_rfl) (by kernel_rfl)
def E6365 : Ent := ⟨286, [(.agg [(iv 4), (iv 2), (.sl 43 0 1 1 true), (.sl 2076 0 2 2 false), (iv 0), (.sl 2115 0 1 1 false)]), (iv 71)], 3609,
[(43, (.cells [(iv 40), (iv 40), (iv 3), (iv 1), (iv 1), (iv 1), (iv 2), (iv 1)] true 8)),
(45, (.cells [(iv 40), (iv 40), (iv 3), (iv 1), (iv 1), (iv 1), (iv 2), (iv 1)] true 8)),
(2076, (.cells [(iv 4), (iv 2), (.sl 43 0 1 1 true), (iv 4), (iv 2), (.sl 45 0 1 1 true)] true 0)),
(2115, (.cells [(iv 9)] true 0))],
(iv 22), 3640,
[(43, (.cells [(iv 40), (iv 40), (iv 3), (iv 1), (iv 1), (iv 1), (iv 2), (iv 1)] true 8)),
(45, (.cells [(iv 40), (iv 40), (iv 3), (iv 1), (iv 1), (iv 1), (iv 2), (iv 1)] true 8)),
(2076, (.cells [(iv 4), (iv 2), (.sl 43 0 1 1 true), (iv 4), (iv 2), (.sl 45 0 1 1 true)] true 0)),
(2115, (.cells [(iv 9)] true 0))]⟩
theorem K6365 : EOk fs ms E6365 := eok_of (orc := orcB []) (orcB_ok trivial) (n := 1000000) (by kernel_rfl) (by kernel_rfl)
def E6432 : Ent := ⟨286, [(.agg [(iv 4), (iv 2), (.sl 43 0 1 1 true), (.sl 2076 0 2 2 false), (iv 0), (.sl 2115 0 1 1 false)]), (iv 72)], 3647,
[(43, (.cells [(iv 40), (iv 40), (iv 3), (iv 1), (iv 1), (iv 1), (iv 2), (iv 1)] true 8)),
(45, (.cells [(iv 40), (iv 40), (iv 3), (iv 1), (iv 1), (iv 1), (iv 2), (iv 1)] true 8)),
(2076, (.cells [(iv 4), (iv 2), (.sl 43 0 1 1 true), (iv 4), (iv 2), (.sl 45 0 1 1 true)] true 0)),
(2115, (.cells [(iv 9)] true 0))],
(iv 22), 3678,
[(43, (.cells [(iv 40), (iv 40), (iv 3), (iv 1), (iv 1), (iv 1), (iv 2), (iv 1)] true 8)),
(45, (.cells [(iv 40), (iv 40), (iv 3), (iv 1), (iv 1), (iv 1), (iv 2), (iv 1)] true 8)),
(2076, (.cells [(iv 4), (iv 2), (.sl 43 0 1 1 true), (iv 4), (iv 2), (.sl 45 0 1 1 true)] true 0)),
(2115, (.cells [(iv 9)] true 0))]⟩
theorem K6432 : EOk fs ms E6432 := eok_of (orc := orcB []) (orcB_ok trivial) (n := 1000000) (by kernel_rfl) (by kernel_rfl)
def E6499 : Ent := ⟨286, [(.agg [(iv 4), (iv 2), (.sl 43 0 1 1 true), (.sl 2076 0 2 2 false), (iv 0), (.sl 2115 0 1 1 false)]), (iv 73)], 3685,
[(43, (.cells [(iv 40), (iv 40), (iv 3), (iv 1), (iv 1), (iv 1), (iv 2), (iv 1)] true 8)),
(45, (.cells [(iv 40), (iv 40), (iv 3), (iv 1), (iv 1), (iv 1), (iv 2), (iv 1)] true 8)),
(2076, (.cells [(iv 4), (iv 2), (.sl 43 0 1 1 true), (iv 4), (iv 2), (.sl 45 0 1 1 true)] true 0)),
(2115, (.cells [(iv 9)] true 0))],
(iv 23), 3716,
[(43, (.cells [(iv 40), (iv 40), (iv 3), (iv 1), (iv 1), (iv 1), (iv 2), (iv 1)] true 8)),
(45, (.cells [(iv 40), (iv 40), (iv 3), (iv 1), (iv 1), (iv 1), (iv 2), (iv 1)] true 8)),
(2076, (.cells [(iv 4), (iv 2), (.sl 43 0 1 1 true), (iv 4), (iv 2), (.sl 45 0 1 1 true)] true 0)),
(2115, (.cells [(iv 9)] true 0))]⟩
theorem K6499 : EOk fs ms E6499 := eok_of (orc := orcB []) (orcB_ok trivial) (n := 1000000) (by kernel_rfl) (by kernel_rfl)
def E6566 : Ent := ⟨286, [(.agg [(iv 4), (iv 2), (.sl 43 0 1 1 true), (.sl 2076 0 2 2 false), (iv 0), (.sl 2115 0 1 1 false)]), (iv 74)], 3723,
[(43, (.cells [(iv 40), (iv 40), (iv 3), (iv 1), (iv 1), (iv 1), (iv 2), (iv 1)] true 8)),
(45, (.cells [(iv 40), (iv 40), (iv 3), (iv 1), (iv 1), (iv 1), (iv 2), (iv 1)] true 8)),
(2076, (.cells [(iv 4), (iv 2), (.sl 43 0 1 1 true), (iv 4), (iv 2), (.sl 45 0 1 1 true)] true 0)),
(2115, (.cells [(iv 9)] true 0))],
(iv 24), 3754,
[(43, (.cells [(iv 40), (iv 40), (iv 3), (iv 1), (iv 1), (iv 1), (iv 2), (iv 1)] true 8)),
(45, (.cells [(iv 40), (iv 40), (iv 3), (iv 1), (iv 1), (iv 1), (iv 2), (iv 1)] true 8)),
(2076, (.cells [(iv 4), (iv 2), (.sl 43 0 1 1 true), (iv 4), (iv 2), (.sl 45 0 1 1 true)] true 0)),
(2115, (.cells [(iv 9)] true 0))]⟩
theorem K6566 : EOk fs ms E6566 := eok_of (orc := orcB []) (orcB_ok trivial) (n := 1000000) (by kernel_rfl) (by kernel_rfl)
def E6633 : Ent := ⟨286, [(.agg [(iv 4), (iv 2), (.sl 43 0 1 1 true), (.sl 2076 0 2 2 false), (iv 0), (.sl 2115 0 1 1 false)]), (iv 75)], 3761,
[(43, (.cells [(iv 40), (iv 40), (iv 3), (iv 1), (iv 1), (iv 1), (iv 2), (iv 1)] true 8)),
(45, (.cells [(iv 40), (iv 40), (iv 3), (iv 1), (iv 1), (iv 1), (iv 2), (iv 1)] true 8)),
(2076, (.cells [(iv 4), (iv 2), (.sl 43 0 1 1 true), (iv 4), (iv 2), (.sl 45 0 1 1 true)] true 0)),
(2115, (.cells [(iv 9)] true 0))],
(iv 24), 3792,
[(43, (.cells [(iv 40), (iv 40), (iv 3), (iv 1), (iv 1), (iv 1), (iv 2), (iv 1)] true 8)),
(45, (.cells [(iv 40), (iv 40), (iv 3), (iv 1), (iv 1), (iv 1), (iv 2), (iv 1)] true 8)),
(2076, (.cells [(iv 4), (iv 2), (.sl 43 0 1 1 true), (iv 4), (iv 2), (.sl 45 0 1 1 true)] true 0)),
(2115, (.cells [(iv 9)] true 0))]⟩
theorem K6633 : EOk fs ms E6633 := eok_of (orc := orcB []) (orcB_ok trivial) (n := 1000000) (by kernel_rfl) (by kernel_rfl)
def E6700 : Ent := ⟨286, [(.agg [(iv 4), (iv 2), (.sl 43 0 1 1 true), (.sl 2076 0 2 2 false), (iv 0), (.sl 2115 0 1 1 false)]), (iv 76)], 3799,
[(43, (.cells [(iv 40), (iv 40), (iv 3), (iv 1), (iv 1), (iv 1), (iv 2), (iv 1)] true 8)),
(45, (.cells [(iv 40), (iv 40), (iv 3), (iv 1), (iv 1), (iv 1), (iv 2), (iv 1)] true 8)),
(2076, (.cells [(iv 4), (iv 2), (.sl 43 0 1 1 true), (iv 4), (iv 2), (.sl 45 0 1 1 true)] true 0)),
(2115, (.cells [(iv 9)] true 0))],
(iv 24), 3830,
[(43, (.cells [(iv 40), (iv 40), (iv 3), (iv 1), (iv 1), (iv 1), (iv 2), (iv 1)] true 8)),
(45, (.cells [(iv 40), (iv 40), (iv 3), (iv 1), (iv 1), (iv 1), (iv 2), (iv 1)] true 8)),
(2076, (.cells [(iv 4), (iv 2), (.sl 43 0 1 1 true), (iv 4), (iv 2), (.sl 45 0 1 1 true)] true 0)),
(2115, (.cells [(iv 9)] true 0))]⟩
theorem K6700 : EOk fs ms E6700 := eok_of (orc := orcB []) (orcB_ok trivial) (n := 1000000) (by kernel_rfl) (by kernel_rfl)
def E6767 : Ent := ⟨286, [(.agg [(iv 4), (iv 2), (.sl 43 0 1 1 true), (.sl 2076 0 2 2 false), (iv 0), (.sl 2115 0 1 1 false)]), (iv 77)], 3837,
[(43, (.cells [(iv 40), (iv 40), (iv 3), (iv 1), (iv 1), (iv 1), (iv 2), (iv 1)] true 8)),
(45, (.cells [(iv 40), (iv 40), (iv 3), (iv 1), (iv 1), (iv 1), (iv 2), (iv 1)] true 8)),
(2076, (.cells [(iv 4), (iv 2), (.sl 43 0 1 1 true), (iv 4), (iv 2), (.sl 45 0 1 1 true)] true 0)),
(2115, (.cells [(iv 9)] true 0))],
(iv 25), 3868,
[(43, (.cells [(iv 40), (iv 40), (iv 3), (iv 1), (iv 1), (iv 1), (iv 2), (iv 1)] true 8)),
(45, (.cells [(iv 40), (iv 40), (iv 3), (iv 1), (iv 1), (iv 1), (iv 2), (iv 1)] true 8)),
(2076, (.cells [(iv 4), (iv 2), (.sl 43 0 1 1 true), (iv 4), (iv 2), (.sl 45 0 1 1 true)] true 0)),
(2115, (.cells [(iv 9)] true 0))]⟩
theorem K6767 : EOk fs ms E6767 := eok_of (orc := orcB []) (orcB_ok trivial) (n := 1000000) (by kernel_rfl) (by kernel_rfl)
def E6834 : Ent := ⟨286, [(.agg [(iv 4), (iv 2), (.sl 43 0 1 1 true), (.sl 2076 0 2 2 false), (iv 0), (.sl 2115 0 1 1 false)]), (iv 78)], 3875,
[(43, (.cells [(iv 40), (iv 40), (iv 3), (iv 1), (iv 1), (iv 1), (iv 2), (iv 1)] true 8)),
(45, (.cells [(iv 40), (iv 40), (iv 3), (iv 1), (iv 1), (iv 1), (iv 2), (iv 1)] true 8)),
(2076, (.cells [(iv 4), (iv 2), (.sl 43 0 1 1 true), (iv 4), (iv 2), (.sl 45 0 1 1 true)] true 0)),
(2115, (.cells [(iv 9)] true 0))],
(iv 26), 3906,
[(43, (.cells [(iv 40), (iv 40), (iv 3), (iv 1), (iv 1), (iv 1), (iv 2), (iv 1)] true 8)),
(45, (.cells [(iv 40), (iv 40), (iv 3), (iv 1), (iv 1), (iv 1), (iv 2), (iv 1)] true 8)),
(2076, (.cells [(iv 4), (iv 2), (.sl 43 0 1 1 true), (iv 4), (iv 2), (.sl 45 0 1 1 true)] true 0)),
(2115, (.cells [(iv 9)] true 0))]⟩
theorem K6834 : EOk fs ms E6834 := eok_of (orc := orcB []) (orcB_ok trivial) (n := 1000000) (by kernel_rfl) (by kernel_rfl)
def E6901 : Ent := ⟨286, [(.agg [(iv 4), (iv 2), (.sl 43 0 1 1 true), (.sl 2076 0 2 2 false), (iv 0), (.sl 2115 0 1 1 false)]), (iv 79)], 3913,
[(43, (.cells [(iv 40), (iv 40), (iv 3), (iv 1), (iv 1), (iv 1), (iv 2), (iv 1)] true 8)),
(45, (.cells [(iv 40), (iv 40), (iv 3), (iv 1), (iv 1), (iv 1), (iv 2), (iv 1)] true 8)),
(2076, (.cells [(iv 4), (iv 2), (.sl 43 0 1 1 true), (iv 4), (iv 2), (.sl 45 0 1 1 true)] true 0)),
(2115, (.cells [(iv 9)] true 0))],
(iv 26), 3944,
[(43, (.cells [(iv 40), (iv 40), (iv 3), (iv 1), (iv 1), (iv 1), (iv 2), (iv 1)] true 8)),
(45, (.cells [(iv 40), (iv 40), (iv 3), (iv 1), (iv 1), (iv 1), (iv 2), (iv 1)] true 8)),
(2076, (.cells [(iv 4), (iv 2), (.sl 43 0 1 1 true), (iv 4), (iv 2), (.sl 45 0 1 1 true)] true 0)),
(2115, (.cells [(iv 9)] true 0))]⟩
theorem K6901 : EOk fs ms E6901 := eok_of (orc := orcB []) (orcB_ok trivial) (n := 1000000) (by kernel_rfl) (by kernel_rfl)
def E6968 : Ent := ⟨286, [(.agg [(iv 4), (iv 2), (.sl 43 0 1 1 true), (.sl 2076 0 2 2 false), (iv 0), (.sl 2115 0 1 1 false)]), (iv 80)], 3951,
[(43, (.cells [(iv 40), (iv 40), (iv 3), (iv 1), (iv 1), (iv 1), (iv 2), (iv 1)] true 8)),
(45, (.cells [(iv 40), (iv 40), (iv 3), (iv 1), (iv 1), (iv 1), (iv 2), (iv 1)] true 8)),
(2076, (.cells [(iv 4), (iv 2), (.sl 43 0 1 1 true), (iv 4), (iv 2), (.sl 45 0 1 1 true)] true 0)),
(2115, (.cells [(iv 9)] true 0))],
(iv 14), 3982,
[(43, (.cells [(iv 40), (iv 40), (iv 3), (iv 1), (iv 1), (iv 1), (iv 2), (iv 1)] true 8)),
(45, (.cells [(iv 40), (iv 40), (iv 3), (iv 1), (iv 1), (iv 1), (iv 2), (iv 1)] true 8)),
(2076, (.cells [(iv 4), (iv 2), (.sl 43 0 1 1 true), (iv 4), (iv 2), (.sl 45 0 1 1 true)] true 0)),
(2115, (.cells [(iv 9)] true 0))]⟩
theorem K6968 : EOk fs ms E6968 := eok_of (orc := orcB []) (orcB_ok trivial) (n := 1000000) (by kernel_rfl) (by kernel_rfl)
def E7035 : Ent := ⟨286, [(.agg [(iv 4), (iv 2), (.sl 43 0 1 1 true), (.sl 2076 0 2 2 false), (iv 0), (.sl 2115 0 1 1 false)]), (iv 81)], 3989,
[(43, (.cells [(iv 40), (iv 40), (iv 3), (iv 1), (iv 1), (iv 1), (iv 2), (iv 1)] true 8)),
(45, (.cells [(iv 40), (iv 40), (iv 3), (iv 1), (iv 1), (iv 1), (iv 2), (iv 1)] true 8)),
(2076, (.cells [(iv 4), (iv 2), (.sl 43 0 1 1 true), (iv 4), (iv 2), (.sl 45 0 1 1 true)] true 0)),
(2115, (.cells [(iv 9)] true 0))],
(iv 15), 4020,
[(43, (.cells [(iv 40), (iv 40), (iv 3), (iv 1), (iv 1), (iv 1), (iv 2), (iv 1)] true 8)),
(45, (.cells [(iv 40), (iv 40), (iv 3), (iv 1), (iv 1), (iv 1), (iv 2), (iv 1)] true 8)),
(2076, (.cells [(iv 4), (iv 2), (.sl 43 0 1 1 true), (iv 4), (iv 2), (.sl 45 0 1 1 true)] true 0)),
(2115, (.cells [(iv 9)] true 0))]⟩
theorem K7035 : EOk fs ms E7035 := eok_of (orc := orcB []) (orcB_ok trivial) (n := 1000000) (by kernel_rfl) (by kernel_rfl)
def E7102 : Ent := ⟨286, [(.agg [(iv 4), (iv 2), (.sl 43 0 1 1 true), (.sl 2076 0 2 2 false), (iv 0), (.sl 2115 0 1 1 false)]), (iv 82)], 4027,
[(43, (.cells [(iv 40), (iv 40), (iv 3), (iv 1), (iv 1), (iv 1), (iv 2), (iv 1)] true 8)),
(45, (.cells [(iv 40), (iv 40), (iv 3), (iv 1), (iv 1), (iv 1), (iv 2), (iv 1)] true 8)),
(2076, (.cells [(iv 4), (iv 2), (.sl 43 0 1 1 true), (iv 4), (iv 2), (.sl 45 0 1 1 true)] true 0)),
(2115, (.cells [(iv 9)] true 0))],
(iv 16), 4058,
[(43, (.cells [(iv 40), (iv 40), (iv 3), (iv 1), (iv 1), (iv 1), (iv 2), (iv 1)] true 8)),
(45, (.cells [(iv 40), (iv 40), (iv 3), (iv 1), (iv 1), (iv 1), (iv 2), (iv 1)] true 8)),
(2076, (.cells [(iv 4), (iv 2), (.sl 43 0 1 1 true), (iv 4), (iv 2), (.sl 45 0 1 1 true)] true 0)),
(2115, (.cells [(iv 9)] true 0))]⟩
theorem K7102 : EOk fs ms E7102 := eok_of (orc := orcB []) (orcB_ok trivial) (n := 1000000) (by kernel_rfl) (by kernel_rfl)
def E7169 : Ent := ⟨286, [(.agg [(iv 4), (iv 2), (.sl 43 0 1 1 true), (.sl 2076 0 2 2 false), (iv 0), (.sl 2115 0 1 1 false)]), (iv 83)], 4065,
[(43, (.cells [(iv 40), (iv 40), (iv 3), (iv 1), (iv 1), (iv 1), (iv 2), (iv 1)] true 8)),
(45, (.cells [(iv 40), (iv 40), (iv 3), (iv 1), (iv 1), (iv 1), (iv 2), (iv 1)] true 8)),
(2076, (.cells [(iv 4), (iv 2), (.sl 43 0 1 1 true), (iv 4), (iv 2), (.sl 45 0 1 1 true)] true 0)),
(2115, (.cells [(iv 9)] true 0))],
(iv 16), 4096,
[(43, (.cells [(iv 40), (iv 40), (iv 3), (iv 1), (iv 1), (iv 1), (iv 2), (iv 1)] true 8)),
(45, (.cells [(iv 40), (iv 40), (iv 3), (iv 1), (iv 1), (iv 1), (iv 2), (iv 1)] true 8)),
(2076, (.cells [(iv 4), (iv 2), (.sl 43 0 1 1 true), (iv 4), (iv 2), (.sl 45 0 1 1 true)] true 0)),
(2115, (.cells [(iv 9)] true 0))]⟩
theorem K7169 : EOk fs ms E7169 := eok_of (orc := orcB []) (orcB_ok trivial) (n := 1000000) (by kernel_rfl) (by kernel_rfl)
def E7236 : Ent := ⟨286, [(.agg [(iv 4), (iv 2), (.sl 43 0 1 1 true), (.sl 2076 0 2 2 false), (iv 0), (.sl 2115 0 1 1 false)]), (iv 84)], 4103,
[(43, (.cells [(iv 40), (iv 40), (iv 3), (iv 1), (iv 1), (iv 1), (iv 2), (iv 1)] true 8)),
(45, (.cells [(iv 40), (iv 40), (iv 3), (iv 1), (iv 1), (iv 1), (iv 2), (iv 1)] true 8)),
(2076, (.cells [(iv 4), (iv 2), (.sl 43 0 1 1 true), (iv 4), (iv 2), (.sl 45 0 1 1 true)] true 0)),
(2115, (.cells [(iv 9)] true 0))],
(iv 16), 4134,
[(43, (.cells [(iv 40), (iv 40), (iv 3), (iv 1), (iv 1), (iv 1), (iv 2), (iv 1)] true 8)),
(45, (.cells [(iv 40), (iv 40), (iv 3), (iv 1), (iv 1), (iv 1), (iv 2), (iv 1)] true 8)),
(2076, (.cells [(iv 4), (iv 2), (.sl 43 0 1 1 true), (iv 4), (iv 2), (.sl 45 0 1 1 true)] true 0)),
(2115, (.cells [(iv 9)] true 0))]⟩
theorem K7236 : EOk fs ms E7236 := eok_of (orc := orcB []) (orcB_ok trivial) (n := 1000000) (by kernel_rfl) (by kernel_rfl)
def E7303 : Ent := ⟨286, [(.agg [(iv 4), (iv 2), (.sl 43 0 1 1 true), (.sl 2076 0 2 2 false), (iv 0), (.sl 2115 0 1 1 false)]), (iv 85)], 4141,
[(43, (.cells [(iv 40), (iv 40), (iv 3), (iv 1), (iv 1), (iv 1), (iv 2), (iv 1)] true 8)),
(45, (.cells [(iv 40), (iv 40), (iv 3), (iv 1), (iv 1), (iv 1), (iv 2), (iv 1)] true 8)),
(2076, (.cells [(iv 4), (iv 2), (.sl 43 0 1 1 true), (iv 4), (iv 2), (.sl 45 0 1 1 true)] true 0)),
(2115, (.cells [(iv 9)] true 0))],
(iv 17), 4172,
[(43, (.cells [(iv 40), (iv 40), (iv 3), (iv 1), (iv 1), (iv 1), (iv 2), (iv 1)] true 8)),
(45, (.cells [(iv 40), (iv 40), (iv 3), (iv 1), (iv 1), (iv 1), (iv 2), (iv 1)] true 8)),
(2076, (.cells [(iv 4), (iv 2), (.sl 43 0 1 1 true), (iv 4), (iv 2), (.sl 45 0 1 1 true)] true 0)),
(2115, (.cells [(iv 9)] true 0))]⟩
theorem K7303 : EOk fs ms E7303 := eok_of (orc := orcB []) (orcB_ok trivial) (n := 1000000) (by kernel_rfl) (by kernel_rfl)
def E7370 : Ent := ⟨286, [(.agg [(iv 4), (iv 2), (.sl 43 0 1 1 true), (.sl 2076 0 2 2 false), (iv 0), (.sl 2115 0 1 1 false)]), (iv 86)], 4179,
[(43, (.cells [(iv 40), (iv 40), (iv 3), (iv 1), (iv 1), (iv 1), (iv 2), (iv 1)] true 8)),
(45, (.cells [(iv 40), (iv 40), (iv 3), (iv 1), (iv 1), (iv 1), (iv 2), (iv 1)] true 8)),
(2076, (.cells [(iv 4), (iv 2), (.sl 43 0 1 1 true), (iv 4), (iv 2), (.sl 45 0 1 1 true)] true 0)),
(2115, (.cells [(iv 9)] true 0))],
(iv 18), 4210,
[(43, (.cells [(iv 40), (iv 40), (iv 3), (iv 1), (iv 1), (iv 1), (iv 2), (iv 1)] true 8)),
(45, (.cells [(iv 40), (iv 40), (iv 3), (iv 1), (iv 1), (iv 1), (iv 2), (iv 1)] true 8)),
(2076, (.cells [(iv 4), (iv 2), (.sl 43 0 1 1 true), (iv 4), (iv 2), (.sl 45 0 1 1 true)] true 0)),
(2115, (.cells [(iv 9)] true 0))]⟩
theorem K7370 : EOk fs ms E7370 := eok_of (orc := orcB []) (orcB_ok trivial) (n := 1000000) (by kernel_rfl) (by kernel_rfl)
def E7437 : Ent := ⟨286, [(.agg [(iv 4), (iv 2), (.sl 43 0 1 1 true), (.sl 2076 0 2 2 false), (iv 0), (.sl 2115 0 1 1 false)]), (iv 87)], 4217,
[(43, (.cells [(iv 40), (iv 40), (iv 3), (iv 1), (iv 1), (iv 1), (iv 2), (iv 1)] true 8)),
(45, (.cells [(iv 40), (iv 40), (iv 3), (iv 1), (iv 1), (iv 1), (iv 2), (iv 1)] true 8)),
(2076, (.cells [(iv 4), (iv 2), (.sl 43 0 1 1 true), (iv 4), (iv 2), (.sl 45 0 1 1 true)] true 0)),
(2115, (.cells [(iv 9)] true 0))],
(iv 18), 4248,
[(43, (.cells [(iv 40), (iv 40), (iv 3), (iv 1), (iv 1), (iv 1), (iv 2), (iv 1)] true 8)),
(45, (.cells [(iv 40), (iv 40), (iv 3), (iv 1), (iv 1), (iv 1), (iv 2), (iv 1)] true 8)),
(2076, (.cells [(iv 4), (iv 2), (.sl 43 0 1 1 true), (iv 4), (iv 2), (.sl 45 0 1 1 true)] true 0)),
(2115, (.cells [(iv 9)] true 0))]⟩
theorem K7437 : EOk fs ms E7437 := eok_of (orc := orcB []) (orcB_ok trivial) (n := 1000000) (by kernel_rfl) (by kernel_rfl)
def E7504 : Ent := ⟨286, [(.agg [(iv 4), (iv 2), (.sl 43 0 1 1 true), (.sl 2076 0 2 2 false), (iv 0), (.sl 2115 0 1 1 false)]), (iv 88)], 4255,
[(43, (.cells [(iv 40), (iv 40), (iv 3), (iv 1), (iv 1), (iv 1), (iv 2), (iv 1)] true 8)),
(45, (.cells [(iv 40), (iv 40), (iv 3), (iv 1), (iv 1), (iv 1), (iv 2), (iv 1)] true 8)),
(2076, (.cells [(iv 4), (iv 2), (.sl 43 0 1 1 true), (iv 4), (iv 2), (.sl 45 0 1 1 true)] true 0)),
(2115, (.cells [(iv 9)] true 0))],
(iv 18), 4286,
[(43, (.cells [(iv 40), (iv 40), (iv 3), (iv 1), (iv 1), (iv 1), (iv 2), (iv 1)] true 8)),
(45, (.cells [(iv 40), (iv 40), (iv 3), (iv 1), (iv 1), (iv 1), (iv 2), (iv 1)] true 8)),
(2076, (.cells [(iv 4), (iv 2), (.sl 43 0 1 1 true), (iv 4), (iv 2), (.sl 45 0 1 1 true)] true 0)),
(2115, (.cells [(iv 9)] true 0))]⟩
theorem K7504 : EOk fs ms E7504 := eok_of (orc := orcB []) (orcB_ok trivial) (n := 1000000) (by kernel_rfl) (by kernel_rfl)
def E3644 : Ent := ⟨176, [(.sl 2076 0 2 2 false), (iv 0)], 2098,
[(43, (.cells [(iv 40), (iv 40), (iv 3), (iv 1), (iv 1), (iv 1), (iv 2), (iv 1)] true 8)),
(45, (.cells [(iv 40), (iv 40), (iv 3), (iv 1), (iv 1), (iv 1), (iv 2), (iv 1)] true 8)),
(2076, (.cells [(iv 4), (iv 2), (.sl 43 0 1 1 true), (iv 4), (iv 2), (.sl 45 0 1 1 true)] true 0))],
(.tup [(iv 0), (iv 0)]), 4286,
[(43, (.cells [(iv 40), (iv 40), (iv 3), (iv 1), (iv 1), (iv 1), (iv 2), (iv 1)] true 8)),
(45, (.cells [(iv 40), (iv 40), (iv 3), (iv 1), (iv 1), (iv 1), (iv 2), (iv 1)] true 8)),
(2076, (.cells [(iv 4), (iv 2), (.sl 43 0 1 1 true), (iv 4), (iv 2), (.sl 45 0 1 1 true)] true 0))]⟩
theorem K3644 : EOk fs ms E3644 := eok_of (orc := orcB [(286, [(3533, E6231), (3571, E6298), (3609, E6365), (3647, E6432), (3685, E6499), (3723, E6566), (3761, E6633), (3799, E6700), (3837, E6767), (3875, E6834), (3913, E6901), (3951, E6968), (3989, E7035), (4027, E7102), (4065, E7169), (4103, E7236), (4141, E7303), (4179, E7370), (4217, E7437), (4255, E7504)])]) (orcB_ok ⟨⟨K6231, K6298, K6365, K6432, K6499, K6566, K6633, K6700, K6767, K6834, K6901, K6968, K7035, K7102, K7169, K7236, K7303, K7370, K7437, K7504, trivial⟩, trivial⟩) (n := 1000000) (by kernel_rfl) (by kernel_rfl)
end Ir
end Go.Proofs.YtglmcmjionhikaaGreat
