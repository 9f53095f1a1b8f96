/-
  The examples of tape, by evaluation.
-/
import Derived.Test.YtmnolnoeibhjgaaGreatIrLink
import Derived.Test.YtmnolnoeibhjgaaGreatAdsOrc
import Derived.KernelRfl
set_option linter.unusedVariables false
set_option maxRecDepth 1000000
namespace Go.Proofs.YtmnolnoeibhjgaaGreat
open Go Ads
namespace Ir
theorem z9:PC fs ms 12 [] (.bool true):=Pd (mA:=HQ []) (DX trivial) (n:=1000000) (by kernel_rfl)
end Ir
end Go.Proofs.YtmnolnoeibhjgaaGreat
