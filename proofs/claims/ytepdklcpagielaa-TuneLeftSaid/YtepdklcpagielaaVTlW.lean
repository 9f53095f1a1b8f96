/-
  Tune: the chapter's examples.
-/
import Derived.Test.YtepdklcpagielaaVTlD
import Derived.KernelRfl
set_option maxRecDepth 100000
set_option linter.unusedSimpArgs false
set_option linter.unusedVariables false
namespace Go.Proofs.Ytepdklcpagielaa
open Go Ads
namespace Ir
theorem works30_c : PC fs ms f_escapementlaw30_works [] (.bool true) := pc_ev (n := 1000000) (by kernel_rfl)
end Ir
end Go.Proofs.Ytepdklcpagielaa
