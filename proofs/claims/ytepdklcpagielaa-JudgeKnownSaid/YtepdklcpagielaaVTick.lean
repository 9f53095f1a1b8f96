/-
  Layer 1: Lcm.
-/
import Derived.Test.YtepdklcpagielaaIrLink
import Derived.Test.YtepdklcpagielaaVsRows
set_option maxRecDepth 100000
set_option linter.unusedSimpArgs false
set_option linter.unusedVariables false
namespace Go.Proofs.Ytepdklcpagielaa
open Go Ads
namespace Ir

def cnt (p : Int × Int) : Blk := .cells [.int .i64 p.1, .int .i64 p.2] true 0
def But (b : Nat) (h h' : Heap) : Prop := h'.next = h.next ∧ ∀ c, c ≠ b → h'.get c = h.get c
theorem But.refl (b : Nat) (h : Heap) : But b h h := ⟨rfl, fun _ _ => rfl⟩
theorem But.trans {b : Nat} {h h1 h2 : Heap} (x : But b h h1) (y : But b h1 h2) : But b h h2 := ⟨y.1.trans x.1, fun c hc => (y.2 c hc).trans (x.2 c hc)⟩
theorem But.set (b : Nat) (h : Heap) (x : Blk) : But b h (h.set b x) := ⟨rfl, fun c hc => by rw [Heap.get_set, if_neg hc]⟩

end Ir
end Go.Proofs.Ytepdklcpagielaa
