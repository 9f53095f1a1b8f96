/-
  Tune: the chapter's examples.
-/
import Derived.Test.YtepdklcpagielaaVTlD
import Derived.KernelRfl
set_option maxRecDepth 100000
set_option linter.unusedSimpArgs false
set_option linter.unusedVariables false
namespace Go.Proofs.Ytepdklcpagielaa
open Go Ads
namespace Ir
theorem JR:PC fs ms 34 [] (.bool true):=W3 (n:=1000000) (by kernel_rfl)
end Ir
end Go.Proofs.Ytepdklcpagielaa
