/-
  Pieces of KernelNames's run.
-/
import Derived.Test.YtglmcmjionhikaaGreatIrCode
import Derived.Test.YtglmcmjionhikaaGreatAdsOrc
import Derived.KernelRfl
set_option linter.unusedVariables false
set_option maxRecDepth 1000000
namespace Go.Proofs.YtglmcmjionhikaaGreat
open Go Ads
namespace Ir
def E28912 : Ent := ⟨17, [], 12635,
[],
(.bool true), 13515,
[]⟩
theorem K28912 : EOk fs ms E28912 := eok_of (orc := orcB []) (orcB_ok trivial) (n := 1000000) (by kernel_rfl) (by kernel_rfl)
end Ir
end Go.Proofs.YtglmcmjionhikaaGreat
