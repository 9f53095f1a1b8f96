/-
  Layer 1: Lcm.
-/
import Derived.Test.YtepdklcpagielaaIrLink
import Derived.Test.YtepdklcpagielaaVsRows
set_option maxRecDepth 100000
set_option linter.unusedSimpArgs false
set_option linter.unusedVariables false
namespace Go.Proofs.Ytepdklcpagielaa
open Go Ads
namespace Ir

def isTick (n : Int) : Bool := decide (0 ≤ n) && decide (n ≤ 1099511627776)
def pr (p : Int × Int) : AV := .tup [.int .i64 p.1, .int .i64 p.2]
def toldS (n e : Int) : Int × Int := if e = 0 then (if n > 1099511627776 then (0, 10) else (n, 0)) else (0, e)

def gcdS (a b : Int) : Int × Int := if isTick a && isTick b then (Nat.gcd a.toNat b.toNat, 0) else (0, 2)

def mulS (a b : Int) : Int × Int := if isTick a && isTick b then (if a * b > 1099511627776 then (0, 10) else (a * b, 0)) else (0, 2)

def cnt (p : Int × Int) : Blk := .cells [.int .i64 p.1, .int .i64 p.2] true 0
def lcmStep (p : Int × Int) (m : Int) : Int × Int := if p.2 = 0 then mulS p.1 (m.tdiv (gcdS p.1 m).1) else p

/-- Only block b is another one. -/
def But (b : Nat) (h h' : Heap) : Prop := h'.next = h.next ∧ ∀ c, c ≠ b → h'.get c = h.get c
theorem But.refl (b : Nat) (h : Heap) : But b h h := ⟨rfl, fun _ _ => rfl⟩
theorem But.trans {b : Nat} {h h1 h2 : Heap} (x : But b h h1) (y : But b h1 h2) : But b h h2 := ⟨y.1.trans x.1, fun c hc => (y.2 c hc).trans (x.2 c hc)⟩
theorem But.set (b : Nat) (h : Heap) (x : Blk) : But b h (h.set b x) := ⟨rfl, fun c hc => by rw [Heap.get_set, if_neg hc]⟩

def lcmS (limit : Int) (l : List Int) : Int × Int :=
  let p := l.foldl lcmStep (1, 0)
  if isTick limit && (l.all isTick && !l.contains 0) then (if p.2 = 0 ∧ p.1 > limit then toldS p.1 10 else toldS p.1 p.2) else (0, 2)

def Good (p : Int × Int) : Prop := p.2 = 0 → isTick p.1 = true ∧ 1 ≤ p.1

end Ir
end Go.Proofs.Ytepdklcpagielaa
