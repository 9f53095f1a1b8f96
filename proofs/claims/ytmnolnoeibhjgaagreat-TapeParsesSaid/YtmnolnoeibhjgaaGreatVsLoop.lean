/-
  Loops over rows; rows of numbers.
-/
import Derived.Test.YtmnolnoeibhjgaaGreatVsWp
import Derived.IntWalk
set_option linter.unusedVariables false
set_option linter.unusedSimpArgs false
namespace Go.Proofs.YtmnolnoeibhjgaaGreat
namespace Ads

section
variable {fs : Nat → Option AFunc} {ms : Nat → String → Option Nat} {rd : Bool}

theorem inc_val {j : Nat} (h : j < 9223372036854775807) : IntKind.i64.wrap ((j : Int) + 1) = ((j + 1 : Nat) : Int) := by
 rw [IntWalk.i64_in _ (by omega)]; rfl
theorem inc_slot {j : Nat} (h : j < 9223372036854775807) : some (AV.int .i64 (IntKind.i64.wrap ((j : Int) + 1))) = some (AV.int .i64 ((j + 1 : Nat) : Int)) := by rw [inc_val h]

theorem idx_val {l : List AV} {j n k : Nat} {x : AV} (hx : l[j]? = some x) (hs : x.cells.length = n) : pV (.iaddrS n) [.fz k l, .int .i64 (j : Nat)] = some (.fp x.cells 0) := by
 subst hs
 simp only [pV, l2, dNat]
 show (match l[j]? with | some y => cond (Nat.beq y.cells.length x.cells.length) (some (AV.fp y.cells 0)) none | none => none) = _
 rw [hx]
 simp
theorem idx_map {α : Type} {enc : α → AV} {l : List α} {j n k : Nat} (hj : j < l.length) (hs : (enc l[j]).cells.length = n) : pV (.iaddrS n) [.fz k (l.map enc), .int .i64 (j : Nat)] = some (.fp (enc l[j]).cells 0) :=
 idx_val (by simp [hj]) hs

/- Rows of numbers. -/
theorem clL_map {α : Type} {enc : α → AV} (h : ∀ x, (enc x).cl = true) : ∀ l : List α, clL (l.map enc) = true
 | [] => rfl
 | x :: l => by simp only [List.map_cons, clL, h x, Bool.true_and]; exact clL_map h l
theorem allSize_map {α : Type} {enc : α → AV} {n : Nat} (h : ∀ x, (enc x).cells.length = n) : ∀ l : List α, allSize n (l.map enc) = true
 | [] => rfl
 | x :: l => by simp only [List.map_cons, allSize, h x, Nat.beq_refl, Bool.true_and]; exact allSize_map h l
theorem ld1 {h : Heap} {b o : Nat} {vs : List AV} {wr : Bool} {es : Nat} {v : AV} (hg : h.get b = some (.cells vs wr es)) (hv : vs[o]? = some v) : rV .load1 [.ptr b o] h = some v := by
 simp only [rV, l1]; rw [load1_some hg]; exact hv
theorem ldN {h : Heap} {b o n : Nat} {vs : List AV} {wr : Bool} {es : Nat} (hg : h.get b = some (.cells vs wr es)) (hl : o + n ≤ vs.length) : rV (.loadN n) [.ptr b o] h = some (.agg ((vs.drop o).take n)) := by
 simp only [rV, l1]; rw [loadN_some hg hl]; rfl
theorem take_next {α : Type} {l : List α} {j : Nat} (hj : j < l.length) : l.take (j + 1) = l.take j ++ [l[j]] := by simp
end

section
/- The test of a region's windows, worked out. -/
end
end Ads
end Go.Proofs.YtmnolnoeibhjgaaGreat
