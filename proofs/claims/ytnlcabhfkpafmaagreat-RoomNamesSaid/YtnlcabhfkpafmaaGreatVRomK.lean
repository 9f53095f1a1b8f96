/-
  RoomNames: the closed statement, evaluated.
-/
import Derived.Test.YtnlcabhfkpafmaaGreatIrLink
import Derived.Test.YtnlcabhfkpafmaaGreatVsWp
import Derived.KernelRfl
set_option maxRecDepth 100000
namespace Go.Proofs.YtnlcabhfkpafmaaGreat
open Go Ads
namespace Ir
theorem roomNames_c : PC fs ms f_escapementlaw18_RoomNames [] (.bool true) := pc_ev (n := 1000000) (by kernel_rfl)
end Ir
end Go.Proofs.YtnlcabhfkpafmaaGreat
