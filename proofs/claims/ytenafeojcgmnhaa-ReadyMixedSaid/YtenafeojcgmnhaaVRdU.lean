/-
  Ready: values of the types of four numbers, four truths.
-/
import Derived.Test.YtenafeojcgmnhaaVRdS
import Derived.Test.YtenafeojcgmnhaaVsTy
import Derived.Test.YtenafeojcgmnhaaChecked
import Derived.KernelRfl
set_option maxRecDepth 100000
set_option linter.unusedSimpArgs false
set_option linter.unusedVariables false
namespace Go.Proofs.Ytenafeojcgmnhaa
open Go Ads
namespace Ir

theorem flat_ones {α : Type} {enc : α → AV} (h1 : ∀ a, (enc a).cells = [enc a]) : ∀ l : List α, flatCells (l.map enc) = l.map enc
  | [] => rfl
  | x :: l => by
    have ih := flat_ones h1 l
    simp only [flatCells, List.map_cons, List.flatMap_cons] at ih ⊢
    rw [ih, h1]
    rfl
theorem ty_ints4 {x : AV} (h : HasTy Try.prog 63 x) : ∃ d : List Int, x = .agg (ints d) ∧ d.length = 4 := by
  obtain ⟨ys, rfl, h1, h2⟩ := ty_array h Try.underlying63
  obtain ⟨m, rfl, -⟩ := map_of (enc := AV.int .i64) (q := fun _ => True) ys (fun y hy => by obtain ⟨a, ha, -⟩ := ty_int (h2 y hy) Try.underlying3; exact ⟨a, ha, trivial⟩)
  exact ⟨m, by rw [flat_ones (fun _ => rfl)]; rfl, by simpa using h1⟩
theorem ty_bools4 {x : AV} (h : HasTy Try.prog 65 x) : ∃ d : List Bool, x = .agg (bos d) ∧ d.length = 4 := by
  obtain ⟨ys, rfl, h1, h2⟩ := ty_array h Try.underlying65
  obtain ⟨m, rfl, -⟩ := map_of (enc := AV.bool) (q := fun _ => True) ys (fun y hy => by obtain ⟨a, ha⟩ := ty_bool (h2 y hy) Try.underlying4; exact ⟨a, ha, trivial⟩)
  exact ⟨m, by rw [flat_ones (fun _ => rfl)]; rfl, by simpa using h1⟩
end Ir
end Go.Proofs.Ytenafeojcgmnhaa
