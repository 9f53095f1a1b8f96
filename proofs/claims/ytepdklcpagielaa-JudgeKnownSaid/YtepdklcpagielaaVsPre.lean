/-
  Rows that lie at a block's start, with room behind them.
-/
import Derived.Test.YtepdklcpagielaaVsGrow
set_option maxRecDepth 100000
set_option linter.unusedSimpArgs false
set_option linter.unusedVariables false
namespace Go.Proofs.Ytepdklcpagielaa
open Go Ads
namespace Ads

theorem splice_nil {α : Type} : ∀ (l : List α) (o : Nat), Heap.splice l o [] = l
 | [], 0 => rfl
 | [], o + 1 => rfl
 | x :: l, 0 => rfl
 | x :: l, o + 1 => by
  show x :: Heap.splice l o [] = _
  rw [splice_nil l o]
end Ads
end Go.Proofs.Ytepdklcpagielaa
