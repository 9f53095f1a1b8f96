/-
  What values of struct types are.
-/
import Derived.Test.YtlndlbngfgaoeaaVsLaw
set_option linter.unusedVariables false
namespace Go.Proofs.Ytlndlbngfgaoeaa
open Go
namespace Ads
section
variable {P : Program}

def flatD (t : TypeId) : Bool := match P.underlying t with
 | some (.int _) => true
 | some .bool => true
 | some .string => true
 | some (.slice _) => true
 | _ => false
def flatB (fs : Array Field) : Nat → Bool
 | 0 => true
 | n + 1 => (match fs[n]? with | some f => Nat.beq f.offset n && flatD (P := P) f.type && Nat.beq (P.cellsOf f.type) 1 | none => false) && flatB fs n
theorem flatB_get {fs : Array Field} : ∀ {n : Nat}, flatB (P := P) fs n = true → ∀ i, i < n → ∃ f, fs[i]? = some f ∧ f.offset = i ∧ flatD (P := P) f.type = true ∧ P.cellsOf f.type = 1
 | 0, _, i, hi => by omega
 | n + 1, h, i, hi => by
  simp only [flatB, Bool.and_eq_true] at h
  by_cases e : i = n
  ·subst e
   have h1 := h.1
   split at h1
   ·rename_i f hf
    simp only [Bool.and_eq_true] at h1
    exact ⟨f, hf, Nat.eq_of_beq_eq_true h1.1.1, h1.1.2, Nat.eq_of_beq_eq_true h1.2⟩
   ·simp at h1
  ·exact flatB_get h.2 i (by omega)

theorem flat_cells {t : TypeId} {x : AV} (h : HasTy P t x) (hf : flatD (P := P) t = true) : x.cells = [x] := by
 cases h with
 | struct h1 => simp [flatD, h1] at hf
 | array h1 => simp [flatD, h1] at hf
 | _ => rfl

theorem ty_flat {t : TypeId} {fs : Array Field} {x : AV} {n : Nat} (h : HasTy P t x) (hu : P.underlying t = some (.struct fs)) (hc : P.cellsOf t = n) (hs : fs.size = n) (hf : flatB (P := P) fs n = true) :
  ∃ cs : List AV, x = .agg cs ∧ cs.length = n ∧ ∀ (i : Nat) (f : Field) (y : AV), fs[i]? = some f → cs[i]? = some y → HasTy P f.type y := by
 obtain ⟨cs, ys, rfl, h1, h2, h3⟩ := ty_struct h hu
 refine ⟨cs, rfl, by omega, fun i f y hfi hy => ?_⟩
 have hi : i < n := by have := (List.getElem?_eq_some_iff.1 hy).1; omega
 obtain ⟨g, g1, g2, g3, g4⟩ := flatB_get hf i hi
 rw [g1] at hfi
 cases hfi
 have hz : ys[i]? = some (ys[i]'(by omega)) := List.getElem?_eq_getElem _
 obtain ⟨k1, k2⟩ := h3 i f _ g1 hz
 rw [flat_cells k1 g3, g2, g4] at k2
 have : cs[i]? = some (ys[i]'(by omega)) := by
  have := congrArg (fun l => l[0]?) k2
  simpa using this.symm
 rw [hy] at this
 cases this
 exact k1
end
end Ads
end Go.Proofs.Ytlndlbngfgaoeaa
