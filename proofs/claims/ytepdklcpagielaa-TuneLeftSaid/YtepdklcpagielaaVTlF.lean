/-
  Tune: TuneLeft's contract and the types of its arguments.
-/
import Derived.Test.YtepdklcpagielaaVTlE
import Derived.Test.YtepdklcpagielaaVDelT
namespace Go.Proofs.Ytepdklcpagielaa
namespace Ir
theorem MW{d:Nat×List Pt}(h:d.1≤3∧(d.1=3→d.2=[])∧Small d.2):Small d.2:=h.2.2
end Ir
end Go.Proofs.Ytepdklcpagielaa
