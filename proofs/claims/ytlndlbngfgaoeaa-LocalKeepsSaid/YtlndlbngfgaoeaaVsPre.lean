/-
  Rows that lie at a block's start, with room behind them.
-/
import Derived.Test.YtlndlbngfgaoeaaVsGrow
set_option maxRecDepth 100000
set_option linter.unusedSimpArgs false
set_option linter.unusedVariables false
namespace Go.Proofs.Ytlndlbngfgaoeaa
open Go Ads
namespace Ads

theorem splice_nil {α : Type} : ∀ (l : List α) (o : Nat), Heap.splice l o [] = l
 | [], 0 => rfl
 | [], o + 1 => rfl
 | x :: l, 0 => rfl
 | x :: l, o + 1 => by
  show x :: Heap.splice l o [] = _
  rw [splice_nil l o]
theorem splice_zero {α : Type} : ∀ (xs r : List α), xs.length ≤ r.length → Heap.splice r 0 xs = xs ++ r.drop xs.length
 | [], r, _ => by rw [splice_nil]; simp
 | x :: xs, [], h => by simp at h
 | x :: xs, y :: r, h => by
  show x :: Heap.splice r 0 xs = _
  rw [splice_zero xs r (by simpa using h)]
  rfl
theorem splice_app {α : Type} : ∀ (a r xs : List α), xs.length ≤ r.length → Heap.splice (a ++ r) a.length xs = a ++ xs ++ r.drop xs.length
 | [], r, xs, h => by simpa using splice_zero xs r h
 | x :: a, r, [], h => by rw [splice_nil]; simp
 | x :: a, r, y :: xs, h => by
  show x :: Heap.splice (a ++ r) a.length (y :: xs) = _
  rw [splice_app a r (y :: xs) h]
  rfl

theorem frz_pre {P : Nat → Prop} {g : Heap} {b n cap s : Nat} {op : Bool} {l rest vs : List AV} {wr : Bool} {es : Nat} (hb : P b) (hg : g.get b = some (.cells vs wr es)) (hv : vs = flatCells l ++ rest) (hs : allSize s l = true)
  (hn : n = l.length) (hcap : n ≤ cap) (hcl : clL l = true) : Frz P g (.sl b 0 n cap op) (.fz 0 l) := by
 subst hv
 have hf := flat_get hs
 refine .sl hb hg hs hn (by rw [List.length_append, hf.1]; omega) hcap (by omega) (fun h => by omega) (fun h => by omega) ?_
 intro i x j c y hx hc hy
 rw [Nat.zero_add] at hy
 have e1 := allSize_get hs hx
 have l1 := (List.getElem?_eq_some_iff.1 hc).1
 have l0 := (List.getElem?_eq_some_iff.1 hx).1
 have hlt : i * s + j < (flatCells l).length := by
  rw [hf.1]
  calc i * s + j < i * s + s := by omega
   _ = (i + 1) * s := (Nat.succ_mul i s).symm
   _ ≤ l.length * s := Nat.mul_le_mul_right _ l0
 rw [List.getElem?_append_left hlt] at hy
 rw [flat_at hs hx hc] at hy
 cases hy
 exact .clean (clL_get (cells_cl (clL_get hcl hx)) hc)

theorem app_in {s bytes nx : Nat} {tr : Tr Blk} {b m cap es : Nat} {op : Bool} {l rest vs : List AV} {x y : AV} (hg : Heap.get ⟨nx, tr⟩ b = some (.cells vs true es)) (hv : vs = flatCells l ++ rest) (hs : allSize s l = true) (hm : m = l.length)
  (hcap : m < cap) (hr : rest.length = (cap - m) * s) (hsrc : srcV s ⟨nx, tr⟩ x = some (1, y.cells)) (hy : y.cells.length = s) (hf : flatL y.cells = true) :
  eV (.append s bytes) [.sl b 0 m cap op, x] ⟨nx, tr⟩ = some (.sl b 0 (m + 1) cap op, ⟨nx, Tr.set tr b (.cells (flatCells (l ++ [y]) ++ rest.drop s) true es)⟩) := by
 subst hv hm
 have b1 : Nat.ble (l.length + 1) cap = true := Nat.ble_eq_true_of_le hcap
 have b4 : Nat.beq 1 0 = false := rfl
 have hfl := (flat_get hs).1
 have hrs : s ≤ rest.length := by
  rw [hr]
  calc s = 1 * s := (Nat.one_mul s).symm
   _ ≤ _ := Nat.mul_le_mul_right _ (by omega)
 have hb : Nat.ble (0 + l.length * s + y.cells.length) (flatCells l ++ rest).length = true := Nat.ble_eq_true_of_le (by rw [List.length_append, hfl, hy]; omega)
 have hst : Heap.storeN ⟨nx, tr⟩ b (0 + l.length * s) y.cells = some ⟨nx, Tr.set tr b (.cells (flatCells (l ++ [y]) ++ rest.drop s) true es)⟩ := by
  simp only [Heap.storeN, hg, hb, hf, Bool.and_self, cond_true]
  have : Heap.splice (flatCells l ++ rest) (0 + l.length * s) y.cells = flatCells (l ++ [y]) ++ rest.drop s := by
   rw [Nat.zero_add, ← hfl, splice_app _ _ _ (by omega), flat_app, hy]
   simp [flatCells]
  rw [this]
  rfl
 simp only [eV, l2, hsrc]
 show cond (flatL y.cells) _ _ = _
 rw [hf, cond_true, b4, Bool.false_and, cond_false, b1, cond_true, hst]
 rfl
end Ads
end Go.Proofs.Ytlndlbngfgaoeaa
