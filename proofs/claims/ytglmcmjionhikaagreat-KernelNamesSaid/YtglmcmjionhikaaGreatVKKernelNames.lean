/-
  KernelNames, out of its pieces.
-/
import Derived.Test.YtglmcmjionhikaaGreatIrCode
import Derived.Test.YtglmcmjionhikaaGreatAdsOrc
import Derived.Test.YtglmcmjionhikaaGreatVKKernelNames0
import Derived.Test.YtglmcmjionhikaaGreatVKKernelNames1
import Derived.Test.YtglmcmjionhikaaGreatVKKernelNames2
import Derived.Test.YtglmcmjionhikaaGreatVKKernelNames3
import Derived.Test.YtglmcmjionhikaaGreatVKKernelNames4
import Derived.KernelRfl
set_option linter.unusedVariables false
set_option maxRecDepth 1000000
namespace Go.Proofs.YtglmcmjionhikaaGreat
open Go Ads
namespace Ir
theorem KernelNames_c : PC fs ms 3 [] (.bool true) := pc_evo (orc := orcB [(176, [(130, E235), (2098, E3644), (4286, E7557)]), (7, [(6978, E13026), (7891, E18024)]), (17, [(12635, E28912)])]) (orcB_ok ⟨⟨K235, K3644, K7557, trivial⟩, ⟨K13026, K18024, trivial⟩, ⟨K28912, trivial⟩, trivial⟩) (n := 1000000) (by kernel_rfl)
end Ir
end Go.Proofs.YtglmcmjionhikaaGreat
