/-
  Local: rows of partitions made to be such.
-/
import Derived.Test.YtepdklcpagielaaVLocM
set_option maxRecDepth 100000
set_option linter.unusedSimpArgs false
set_option linter.unusedVariables false
namespace Go.Proofs.Ytepdklcpagielaa
open Go Ads
namespace Ir
def N9(k:Nat)(l:List Pt)(m:Nat)(j:Nat):List (Nat×AV):=[(0,.fz k (pts l)),(1,.int .i64 (m:Nat)),(5,JU 0 j),(6,.int .i64 (j:Nat))]
end Ir
end Go.Proofs.Ytepdklcpagielaa
