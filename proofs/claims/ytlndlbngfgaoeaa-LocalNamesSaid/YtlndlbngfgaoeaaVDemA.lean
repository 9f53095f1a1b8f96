/-
  Demand: the tasks.
-/
import Derived.Test.YtlndlbngfgaoeaaIrLink
import Derived.Test.YtlndlbngfgaoeaaVsLoop
set_option maxRecDepth 100000
set_option linter.unusedSimpArgs false
set_option linter.unusedVariables false
namespace Go.Proofs.Ytlndlbngfgaoeaa
open Go Ads
namespace Ir

structure Tk where
  p : Int
  d : Int
  w : Int
  a : Int
  b : Int
  c : Int
  e : Int
  f : Int
def tk (t : Tk) : AV := .agg [.int .i64 t.p, .int .i64 t.d, .int .i64 t.w, .int .i64 t.a, .int .i64 t.b, .int .i64 t.c, .int .i64 t.e, .int .i64 t.f]
def tks (l : List Tk) : List AV := l.map tk

def taskOk (t : Tk) : Bool := decide (1 ≤ t.w ∧ t.w ≤ t.d ∧ t.d ≤ t.p ∧ t.p ≤ 64)

theorem may_c (t : Tk) : PC fs ms f_demand_may [tk t] (.bool (taskOk t)) := by
  refine pc_of rfl rfl ?_
  refine vd_start (af := C_demand_may) false rfl (Nat.le_of_ble_eq_true rfl) ?_
  generalize hQ : (fun (v : AV) (_ : Heap) => v = .bool (taskOk t)) = Q
  set_option smartUnfolding false in conv => whnf
  iterate 8 (all_goals (first | (refine br (fun hc => ?_) (fun hc => ?_) <;> (try rw [hc]) <;> (set_option smartUnfolding false in conv => whnf)) | skip))
  all_goals (subst hQ; simp only [taskOk]; refine congrArg AV.bool ?_; rw [Bool.eq_iff_iff]; simp at *; omega)
end Ir
end Go.Proofs.Ytlndlbngfgaoeaa
