/-
  Judge: in how many ticks a partition ran.
-/
import Derived.Test.YtepdklcpagielaaVJdB
set_option maxRecDepth 100000
set_option linter.unusedSimpArgs false
set_option linter.unusedVariables false
namespace Go.Proofs.Ytepdklcpagielaa
open Go Ads
namespace Ads
theorem fr_delB {h0 h : Heap} {bs : List Nat} (hb : ∀ b ∈ bs, h0.next ≤ b) (fr : Fr h0 h []) : Fr h0 (delAll bs h) [] :=
  ⟨by rw [delAll_next]; exact fr.next, fun c hc hn => by rw [delAll_get, if_neg (fun hm => by have := hb c hm; omega)]; exact fr.keep c hc hn⟩
end Ads
namespace Ir
theorem NR.len {lo : Nat} {h : Heap} {v : AV} {M : List Nt} (hr : NR lo h v M) : pV .lenS [v] = some (.int .i64 ((M.length : Nat) : Int)) := by
  rcases hr with ⟨rfl, rfl⟩ | ⟨b, h1, h2, rfl, h4⟩
  · rfl
  · rfl

def cntR (x1 x2 : Int) (l : List Nt) : Nat := (l.filter (isRan x1 x2)).length
end Ir
end Go.Proofs.Ytepdklcpagielaa
