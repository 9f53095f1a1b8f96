/-
  Demand: what the document's Check refuses.
-/
import Derived.Test.YtlndlbngfgaoeaaVDemD
set_option maxRecDepth 100000
set_option linter.unusedSimpArgs false
set_option linter.unusedVariables false
namespace Go.Proofs.Ytlndlbngfgaoeaa
open Go Ads
namespace Ir

end Ir
end Go.Proofs.Ytlndlbngfgaoeaa
