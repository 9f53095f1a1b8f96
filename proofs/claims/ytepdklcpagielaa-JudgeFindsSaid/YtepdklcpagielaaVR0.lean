/-
  Small helpers of the document's answers: EqInts, CopyInts, Bring.
-/
import Derived.Test.YtepdklcpagielaaIrLink
import Derived.Test.YtepdklcpagielaaVsRows
set_option maxRecDepth 100000
set_option linter.unusedSimpArgs false
set_option linter.unusedVariables false
namespace Go.Proofs.Ytepdklcpagielaa
open Go Ads
namespace Ir

/-- A number brought to be below another one. -/
def bring (i n : Int) : Int := i % n
end Ir
end Go.Proofs.Ytepdklcpagielaa
