/-
  Loops over rows; rows of numbers.
-/
import Derived.Test.YtfadblhkbopfjaaVsWp
import Derived.IntWalk
set_option linter.unusedVariables false
set_option linter.unusedSimpArgs false
namespace Go.Proofs.Ytfadblhkbopfjaa
namespace Ads

section
variable {fs : Nat → Option AFunc} {ms : Nat → String → Option Nat} {rd : Bool}

end

section
/- The test of a region's windows, worked out. -/
end
end Ads
end Go.Proofs.Ytfadblhkbopfjaa
