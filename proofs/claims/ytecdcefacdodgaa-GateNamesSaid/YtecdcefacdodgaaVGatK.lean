/-
  GateNames: the closed statement, evaluated.
-/
import Derived.Test.YtecdcefacdodgaaIrLink
import Derived.Test.YtecdcefacdodgaaVsWp
import Derived.KernelRfl
set_option maxRecDepth 100000
namespace Go.Proofs.Ytecdcefacdodgaa
open Go Ads
namespace Ir
theorem Br:PC fs ms 5 [] (.bool true):=NK (n:=1000000) (by kernel_rfl)
end Ir
end Go.Proofs.Ytecdcefacdodgaa
