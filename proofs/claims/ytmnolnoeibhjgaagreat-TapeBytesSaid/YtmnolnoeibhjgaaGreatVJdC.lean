/-
  Judge: in how many ticks a partition ran.
-/
import Derived.Test.YtmnolnoeibhjgaaGreatVJdB
set_option maxRecDepth 100000
set_option linter.unusedSimpArgs false
set_option linter.unusedVariables false
namespace Go.Proofs.YtmnolnoeibhjgaaGreat
open Go Ads
namespace Ads
theorem fr_delB {h0 h : Heap} {bs : List Nat} (hb : ∀ b ∈ bs, h0.next ≤ b) (fr : Fr h0 h []) : Fr h0 (delAll bs h) [] :=
  ⟨by rw [delAll_next]; exact fr.next, fun c hc hn => by rw [delAll_get, if_neg (fun hm => by have := hb c hm; omega)]; exact fr.keep c hc hn⟩
end Ads
namespace Ir
theorem NR.frzB {lo : Nat} {h : Heap} {v : AV} {M : List Nt} (hr : NR lo h v M) : ∃ (k : Nat) (bs : List Nat), Frz (· ∈ bs) h v (.fz k (nts M)) ∧ ∀ b ∈ bs, lo ≤ b := by
  rcases hr with ⟨rfl, rfl⟩ | ⟨b, h1, h2, rfl, h4⟩
  · exact ⟨3, [], .nils, by simp⟩
  · exact ⟨0, [b], frz_open (by simp) h4 rfl (size_nts M) (len_nts M).symm (cl_nts M), by simpa using h1⟩

theorem NR.len {lo : Nat} {h : Heap} {v : AV} {M : List Nt} (hr : NR lo h v M) : pV .lenS [v] = some (.int .i64 ((M.length : Nat) : Int)) := by
  rcases hr with ⟨rfl, rfl⟩ | ⟨b, h1, h2, rfl, h4⟩
  · rfl
  · rfl

def cntR (x1 x2 : Int) (l : List Nt) : Nat := (l.filter (isRan x1 x2)).length
theorem cntR_next {x1 x2 : Int} {l : List Nt} {j : Nat} (hj : j < l.length) : cntR x1 x2 (l.take (j + 1)) = if isRan x1 x2 l[j] = true then cntR x1 x2 (l.take j) + 1 else cntR x1 x2 (l.take j) := by
  rw [take_next hj]
  unfold cntR
  rw [List.filter_append]
  by_cases h2 : isRan x1 x2 l[j] = true
  · simp [h2]
  · simp [h2]

end Ir
end Go.Proofs.YtmnolnoeibhjgaaGreat
