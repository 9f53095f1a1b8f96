/-
  Demand: rows of tasks.
-/
import Derived.Test.YtlndlbngfgaoeaaVDemA
set_option maxRecDepth 100000
set_option linter.unusedSimpArgs false
set_option linter.unusedVariables false
namespace Go.Proofs.Ytlndlbngfgaoeaa
open Go Ads
namespace Ir

theorem cl_tks (l : List Tk) : clL (tks l) = true := clL_map (enc := tk) (fun _ => rfl) l
theorem len_tks (l : List Tk) : (tks l).length = l.length := List.length_map ..
theorem idx_tk {l : List Tk} {j k : Nat} (hj : j < l.length) : pV (.iaddrS 8) [.fz k (tks l), .int .i64 (j : Nat)] = some (.fp (tk l[j]).cells 0) := idx_map (enc := tk) hj rfl

def tasksOk (l : List Tk) : Bool := l.all taskOk && decide (l.length ≤ 4)

end Ir
end Go.Proofs.Ytlndlbngfgaoeaa
