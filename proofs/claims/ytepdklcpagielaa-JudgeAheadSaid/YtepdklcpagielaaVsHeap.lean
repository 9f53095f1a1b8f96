/-
  Heaps of eight blocks, of which some may be missing.
-/
import Derived.Test.YtepdklcpagielaaVsPre
set_option maxRecDepth 100000
set_option linter.unusedSimpArgs false
set_option linter.unusedVariables false
namespace Go.Proofs.Ytepdklcpagielaa
open Go Ads
namespace Ads

abbrev H8 (a0 a1 a2 a3 a4 a5 a6 a7 : Option Blk) : Heap := ⟨8, .node (.node (.node (.node .nil a7 .nil) a3 .nil) a1 (.node .nil a5 .nil)) a0 (.node (.node .nil a4 .nil) a2 (.node .nil a6 .nil))⟩
def pick8 (a0 a1 a2 a3 a4 a5 a6 a7 : Option Blk) : Nat → Option Blk
  | 0 => a0 | 1 => a1 | 2 => a2 | 3 => a3 | 4 => a4 | 5 => a5 | 6 => a6 | 7 => a7 | _ => none
end Ads
end Go.Proofs.Ytepdklcpagielaa
