/-
  Demand: the document's Of.
-/
import Derived.Test.YtlndlbngfgaoeaaVDemH
set_option maxRecDepth 100000
set_option linter.unusedSimpArgs false
set_option linter.unusedVariables false
namespace Go.Proofs.Ytlndlbngfgaoeaa
open Go Ads
namespace Ir

theorem sumW_next {l : List Int} {j : Nat} (h : j < l.length) : sumW (l.take (j + 1)) = IntKind.i64.wrap (sumW (l.take j) + l[j]) := by
  rw [take_next h, sumW, List.foldl_append]
  rfl
theorem sumW_in (l : List Int) : IntKind.i64.wrap (sumW l) = sumW l := by
  rcases List.eq_nil_or_concat l with h | ⟨m, x, h⟩
  · subst h; rfl
  · subst h
    rw [List.concat_eq_append, sumW, List.foldl_append]
    show IntKind.i64.wrap (IntKind.i64.wrap (_ + x)) = IntKind.i64.wrap (_ + x)
    exact wrap_wrap _

end Ir
end Go.Proofs.Ytlndlbngfgaoeaa
