/-
  Heaps of eight blocks, of which some may be missing.
-/
import Derived.Test.YtmnolnoeibhjgaaGreatVsPre
set_option maxRecDepth 100000
set_option linter.unusedSimpArgs false
set_option linter.unusedVariables false
namespace Go.Proofs.YtmnolnoeibhjgaaGreat
open Go Ads
namespace Ads

abbrev H8 (a0 a1 a2 a3 a4 a5 a6 a7 : Option Blk) : Heap := ⟨8, .node (.node (.node (.node .nil a7 .nil) a3 .nil) a1 (.node .nil a5 .nil)) a0 (.node (.node .nil a4 .nil) a2 (.node .nil a6 .nil))⟩
def pick8 (a0 a1 a2 a3 a4 a5 a6 a7 : Option Blk) : Nat → Option Blk
  | 0 => a0 | 1 => a1 | 2 => a2 | 3 => a3 | 4 => a4 | 5 => a5 | 6 => a6 | 7 => a7 | _ => none
theorem get_nil (b : Nat) : Tr.get (.nil : Tr Blk) b = none := by simp [Tr.get]
theorem get_leaf {a : Option Blk} {b : Nat} (h : 0 < b) : Tr.get (.node .nil a .nil : Tr Blk) b = none := by
  rcases Nat.mod_two_eq_zero_or_one b with h2 | h2
  · rw [Tr.get_even _ _ h2 (by omega)]
    exact get_nil _
  · rw [Tr.get_odd _ _ h2]
    exact get_nil _
theorem get_left {a a' : Option Blk} {b : Nat} (h : 1 < b) : Tr.get (.node (.node .nil a' .nil) a .nil : Tr Blk) b = none := by
  rcases Nat.mod_two_eq_zero_or_one b with h2 | h2
  · rw [Tr.get_even _ _ h2 (by omega)]
    exact get_nil _
  · rw [Tr.get_odd _ _ h2]
    exact get_leaf (b := b / 2) (by omega)
theorem get8 {a0 a1 a2 a3 a4 a5 a6 a7 : Option Blk} (b : Nat) : (H8 a0 a1 a2 a3 a4 a5 a6 a7).get b = pick8 a0 a1 a2 a3 a4 a5 a6 a7 b := by
  by_cases h8 : b < 8
  · match b, h8 with
    | 0, _ => rfl
    | 1, _ => rfl
    | 2, _ => rfl
    | 3, _ => rfl
    | 4, _ => rfl
    | 5, _ => rfl
    | 6, _ => rfl
    | 7, _ => rfl
  · have hp : pick8 a0 a1 a2 a3 a4 a5 a6 a7 b = none := by
      match b, h8 with
      | b + 8, _ => rfl
    rw [hp]
    show Tr.get (.node (.node (.node (.node .nil a7 .nil) a3 .nil) a1 (.node .nil a5 .nil)) a0 (.node (.node .nil a4 .nil) a2 (.node .nil a6 .nil))) b = none
    rcases Nat.mod_two_eq_zero_or_one b with h2 | h2
    · rw [Tr.get_even _ _ h2 (by omega)]
      rcases Nat.mod_two_eq_zero_or_one (b / 2 - 1) with h3 | h3
      · rw [Tr.get_even _ _ h3 (by omega)]
        exact get_leaf (b := (b / 2 - 1) / 2 - 1) (by omega)
      · rw [Tr.get_odd _ _ h3]
        exact get_leaf (b := (b / 2 - 1) / 2) (by omega)
    · rw [Tr.get_odd _ _ h2]
      rcases Nat.mod_two_eq_zero_or_one (b / 2) with h3 | h3
      · rw [Tr.get_even _ _ h3 (by omega)]
        exact get_leaf (b := b / 2 / 2 - 1) (by omega)
      · rw [Tr.get_odd _ _ h3]
        exact get_left (b := b / 2 / 2) (by omega)

theorem gc8 {B : Nat} {e : Env} {h : Heap} {d : Nat} {l : List (Nat × AV)} {a0 a1 a2 a3 a4 a5 a6 a7 : Option Blk} (p : Nat → Nat) (hl : RenAt p 8 e l)
    (hb : ∀ b x, pick8 a0 a1 a2 a3 a4 a5 a6 a7 b = some x → ∃ y, h.get (p b) = some y ∧ RenB p 8 x y)
    (hi : ∀ b, b < 8 → ∀ c, c < 8 → p b = p c → b = c) (hfix : ∀ b, b < B → p b = b) (hn : B ≤ 8) : GC B p e h (ek d l) (H8 a0 a1 a2 a3 a4 a5 a6 a7) := by
  have hlt : ∀ b, (H8 a0 a1 a2 a3 a4 a5 a6 a7).get b ≠ none → b < 8 := by
    intro b hb
    rw [get8] at hb
    match b, hb with
    | 0, _ => omega
    | 1, _ => omega
    | 2, _ => omega
    | 3, _ => omega
    | 4, _ => omega
    | 5, _ => omega
    | 6, _ => omega
    | 7, _ => omega
    | b + 8, hb => exact absurd rfl hb
  refine ⟨?_, ?_, ?_, hfix, hn⟩
  · intro i v hv
    exact renAt_get hl (sk_low d _ i v hv)
  · intro b x hx
    have hbl : b < 8 := hlt b (by rw [hx]; exact fun h => by cases h)
    rw [get8] at hx
    exact ⟨hbl, hb b x hx⟩
  · intro b c hb hc he
    exact hi b (hlt b hb) c (hlt c hc) he
/-- What eight blocks are. -/
theorem all8 {P : Nat → Blk → Prop} {a0 a1 a2 a3 a4 a5 a6 a7 : Option Blk} (h0 : ∀ x, a0 = some x → P 0 x) (h1 : ∀ x, a1 = some x → P 1 x) (h2 : ∀ x, a2 = some x → P 2 x) (h3 : ∀ x, a3 = some x → P 3 x) (h4 : ∀ x, a4 = some x → P 4 x) (h5 : ∀ x, a5 = some x → P 5 x)
    (h6 : ∀ x, a6 = some x → P 6 x) (h7 : ∀ x, a7 = some x → P 7 x) : ∀ b x, pick8 a0 a1 a2 a3 a4 a5 a6 a7 b = some x → P b x
  | 0, x, h => h0 x h
  | 1, x, h => h1 x h
  | 2, x, h => h2 x h
  | 3, x, h => h3 x h
  | 4, x, h => h4 x h
  | 5, x, h => h5 x h
  | 6, x, h => h6 x h
  | 7, x, h => h7 x h
  | b + 8, x, h => by cases h
/-- The same block. -/
theorem same_blk {O : Option Blk} {p : Nat → Nat} {n : Nat} {h : Heap} {b : Nat} (hg : h.get b = O) (hr : ∀ x, O = some x → RenB p n x x) : ∀ x, O = some x → ∃ y, h.get b = some y ∧ RenB p n x y := fun x hx => ⟨x, hg.trans hx, hr x hx⟩
theorem renB_2 {p : Nat → Nat} {n es : Nat} {wr : Bool} {a b a' b' : AV} (h1 : Ren p n a a') (h2 : Ren p n b b') : RenB p n (.cells [a, b] wr es) (.cells [a', b'] wr es) := by
  refine .cells rfl fun i x y hx hy => ?_
  match i, hx, hy with
  | 0, hx, hy => cases hx; cases hy; exact h1
  | 1, hx, hy => cases hx; cases hy; exact h2
end Ads
end Go.Proofs.YtmnolnoeibhjgaaGreat
