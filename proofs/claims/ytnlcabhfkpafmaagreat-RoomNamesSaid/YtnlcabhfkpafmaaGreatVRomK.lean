/-
  RoomNames: the closed statement, evaluated.
-/
import Derived.Test.YtnlcabhfkpafmaaGreatIrLink
import Derived.Test.YtnlcabhfkpafmaaGreatVsWp
import Derived.KernelRfl
set_option maxRecDepth 100000
namespace Go.Proofs.YtnlcabhfkpafmaaGreat
open Go Ads
namespace Ir
theorem Ch:PC fs ms 6 [] (.bool true):=VH (n:=1000000) (by kernel_rfl)
end Ir
end Go.Proofs.YtnlcabhfkpafmaaGreat
