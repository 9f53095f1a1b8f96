/-
  GaugeNames, out of its pieces.
-/
import Derived.Test.YtfadblhkbopfjaaIrLink
import Derived.Test.YtfadblhkbopfjaaAdsOrc
import Derived.Test.YtfadblhkbopfjaaVKGaugeNames0
import Derived.KernelRfl
set_option linter.unusedVariables false
set_option maxRecDepth 1000000
namespace Go.Proofs.Ytfadblhkbopfjaa
open Go Ads
namespace Ir
theorem GaugeNames_c : PC fs ms 3 [] (.bool true) := pc_evo (orc := orcB [(12, [(2, E2), (55, E43), (125, E157), (166, E188), (207, E221), (250, E242), (251, E245)])]) (orcB_ok ⟨⟨K2, K43, K157, K188, K221, K242, K245, trivial⟩, trivial⟩) (n := 1000000) (by kernel_rfl)
end Ir
end Go.Proofs.Ytfadblhkbopfjaa
