/-
  Local: the chapter's examples, evaluated.
-/
import Derived.Test.YtlndlbngfgaoeaaIrLink
import Derived.Test.YtlndlbngfgaoeaaVsWp
import Derived.KernelRfl
set_option maxRecDepth 100000
namespace Go.Proofs.Ytlndlbngfgaoeaa
open Go Ads
namespace Ir
theorem works10_c : PC fs ms f_escapementlaw10_works [] (.bool true) := pc_ev (n := 1000000) (by kernel_rfl)
end Ir
end Go.Proofs.Ytlndlbngfgaoeaa
