/-
  Delay: tasks of partitions. Delay: Check of both. Delay: the document's Check. Delay: how long a task waits, of both. Delay: the document's wait; of; Wait of both. Delay: More of both. Delay: Of of both. Delay: what holds of partitions that may be asked.
-/
import Derived.Test.YtepdklcpagielaaVDem
import Derived.Test.YtepdklcpagielaaVsRows
set_option maxRecDepth 100000
set_option linter.unusedSimpArgs false
set_option linter.unusedVariables false
namespace Go.Proofs.Ytepdklcpagielaa
open Go Ads
namespace Ir

end Ir
end Go.Proofs.Ytepdklcpagielaa
set_option maxRecDepth 100000
set_option linter.unusedSimpArgs false
set_option linter.unusedVariables false
namespace Go.Proofs.Ytepdklcpagielaa
open Go Ads
namespace Ir

structure Pt where
 per : Int
 bud : Int
 k : Nat
 ts : List Tk
def pt (x : Pt) : AV := .agg [.int .i64 x.per, .int .i64 x.bud, .fz x.k (tks x.ts)]
def pts (l : List Pt) : List AV := l.map pt
theorem cl_pt (x : Pt) : (pt x).cl = true := by simp [pt, AV.cl, clL, cl_tks]
theorem cl_pts (l : List Pt) : clL (pts l) = true := clL_map (enc := pt) cl_pt l
theorem len_pts (l : List Pt) : (pts l).length = l.length := List.length_map ..
theorem idx_pt {l : List Pt} {j k : Nat} (hj : j < l.length) : pV (.iaddrS 3) [.fz k (pts l), .int .i64 (j : Nat)] = some (.fp (pt l[j]).cells 0) := idx_map (enc := pt) hj rfl

def partIn (x : Pt) : Prop := 1 ≤ x.per ∧ x.per ≤ 64 ∧ 1 ≤ x.bud ∧ x.bud ≤ x.per
instance (x : Pt) : Decidable (partIn x) := by unfold partIn; infer_instance
def Small (l : List Pt) : Prop := l.length ≤ 17592186044416 ∧ ∀ x, x ∈ l → x.ts.length ≤ 17592186044416

end Ir
end Go.Proofs.Ytepdklcpagielaa
set_option maxRecDepth 100000
set_option linter.unusedSimpArgs false
set_option linter.unusedVariables false
namespace Go.Proofs.Ytepdklcpagielaa
open Go Ads
namespace Ir

end Ir
end Go.Proofs.Ytepdklcpagielaa
set_option maxRecDepth 100000
set_option linter.unusedSimpArgs false
set_option linter.unusedVariables false
namespace Go.Proofs.Ytepdklcpagielaa
open Go Ads
namespace Ir

end Ir
end Go.Proofs.Ytepdklcpagielaa
set_option maxRecDepth 100000
set_option linter.unusedSimpArgs false
set_option linter.unusedVariables false
namespace Go.Proofs.Ytepdklcpagielaa
open Go Ads
namespace Ir

end Ir
end Go.Proofs.Ytepdklcpagielaa
set_option maxRecDepth 100000
set_option linter.unusedSimpArgs false
set_option linter.unusedVariables false
namespace Go.Proofs.Ytepdklcpagielaa
open Go Ads
namespace Ir

end Ir
end Go.Proofs.Ytepdklcpagielaa
set_option maxRecDepth 100000
set_option linter.unusedSimpArgs false
set_option linter.unusedVariables false
namespace Go.Proofs.Ytepdklcpagielaa
open Go Ads
namespace Ir

def mx (a b : Int) : Int := cond (decide (b > a)) b a
end Ir
end Go.Proofs.Ytepdklcpagielaa
set_option maxRecDepth 100000
set_option linter.unusedSimpArgs false
set_option linter.unusedVariables false
namespace Go.Proofs.Ytepdklcpagielaa
open Go Ads
namespace Ir

end Ir
end Go.Proofs.Ytepdklcpagielaa
