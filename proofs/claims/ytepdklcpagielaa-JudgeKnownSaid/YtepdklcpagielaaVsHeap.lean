/-
  Heaps of eight blocks, of which some may be missing.
-/
import Derived.Test.YtepdklcpagielaaVsPre
set_option maxRecDepth 100000
set_option linter.unusedSimpArgs false
set_option linter.unusedVariables false
namespace Go.Proofs.Ytepdklcpagielaa
open Go Ads
namespace Ads

end Ads
end Go.Proofs.Ytepdklcpagielaa
