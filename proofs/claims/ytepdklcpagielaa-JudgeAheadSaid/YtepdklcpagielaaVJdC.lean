/-
  Judge: in how many ticks a partition ran.
-/
import Derived.Test.YtepdklcpagielaaVJdB
set_option maxRecDepth 100000
set_option linter.unusedSimpArgs false
set_option linter.unusedVariables false
namespace Go.Proofs.Ytepdklcpagielaa
open Go Ads
namespace Ads
end Ads
namespace Ir
theorem NR.len {lo : Nat} {h : Heap} {v : AV} {M : List Nt} (hr : NR lo h v M) : pV .lenS [v] = some (.int .i64 ((M.length : Nat) : Int)) := by
  rcases hr with ⟨rfl, rfl⟩ | ⟨b, h1, h2, rfl, h4⟩
  · rfl
  · rfl

def cntR (x1 x2 : Int) (l : List Nt) : Nat := (l.filter (isRan x1 x2)).length
end Ir
end Go.Proofs.Ytepdklcpagielaa
