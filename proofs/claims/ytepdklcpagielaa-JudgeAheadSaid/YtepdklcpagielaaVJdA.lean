/-
  Judge: the chapter's examples.
-/
import Derived.Test.YtepdklcpagielaaVsHeap
import Derived.Test.YtepdklcpagielaaVR0
import Derived.KernelRfl
set_option maxRecDepth 100000
set_option linter.unusedSimpArgs false
set_option linter.unusedVariables false
namespace Go.Proofs.Ytepdklcpagielaa
open Go Ads
namespace Ir
theorem works26_c : PC fs ms f_escapementlaw26_works [] (.bool true) := pc_ev (n := 1000000) (by kernel_rfl)
end Ir
end Go.Proofs.Ytepdklcpagielaa
