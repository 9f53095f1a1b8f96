/-
  Delay: the closed statement, evaluated.
-/
import Derived.Test.YtbmnehpppegecaaIrLink
import Derived.Test.YtbmnehpppegecaaVsWp
import Derived.KernelRfl
set_option maxRecDepth 100000
namespace Go.Proofs.Ytbmnehpppegecaa
open Go Ads
namespace Ir
theorem delayNames_c : PC fs ms f_escapementlaw09_DelayNames [] (.bool true) := pc_ev (n := 1000000) (by kernel_rfl)
end Ir
end Go.Proofs.Ytbmnehpppegecaa
