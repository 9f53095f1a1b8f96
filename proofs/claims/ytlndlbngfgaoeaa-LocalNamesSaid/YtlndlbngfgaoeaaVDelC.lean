/-
  Delay: the document's Check.
-/
import Derived.Test.YtlndlbngfgaoeaaVDelB
set_option maxRecDepth 100000
set_option linter.unusedSimpArgs false
set_option linter.unusedVariables false
namespace Go.Proofs.Ytlndlbngfgaoeaa
open Go Ads
namespace Ir

end Ir
end Go.Proofs.Ytlndlbngfgaoeaa
