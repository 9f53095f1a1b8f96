/-
  Delay: tasks of partitions. Delay: Check of both. Delay: the document's Check. Delay: how long a task waits, of both. Delay: the document's wait; of; Wait of both. Delay: More of both. Delay: Of of both. Delay: what holds of partitions that may be asked.
-/
import Derived.Test.YtepdklcpagielaaVDem
import Derived.Test.YtepdklcpagielaaVsRows
set_option maxRecDepth 100000
set_option linter.unusedSimpArgs false
set_option linter.unusedVariables false
namespace Go.Proofs.Ytepdklcpagielaa
open Go Ads
namespace Ir

/-- May a task be asked, of a partition with a budget? -/
def mayD (t : Tk) (B : Int) : Bool := decide (0 ≤ t.b ∧ t.b ≤ t.w ∧ 0 ≤ t.c ∧ t.c ≤ 4 ∧ ((t.c = 0 ∧ t.e = 0 ∧ t.f = 0) ∨ (t.c ≠ 0 ∧ 1 ≤ t.e ∧ t.e ≤ B ∧ 1 ≤ t.f ∧ t.e * t.f ≤ t.w)))

end Ir
end Go.Proofs.Ytepdklcpagielaa
set_option maxRecDepth 100000
set_option linter.unusedSimpArgs false
set_option linter.unusedVariables false
namespace Go.Proofs.Ytepdklcpagielaa
open Go Ads
namespace Ir

structure Pt where
  per : Int
  bud : Int
  k : Nat
  ts : List Tk
def pt (x : Pt) : AV := .agg [.int .i64 x.per, .int .i64 x.bud, .fz x.k (tks x.ts)]
def pts (l : List Pt) : List AV := l.map pt
theorem cl_pt (x : Pt) : (pt x).cl = true := by simp [pt, AV.cl, clL, cl_tks]
theorem cl_pts (l : List Pt) : clL (pts l) = true := clL_map (enc := pt) cl_pt l
theorem len_pts (l : List Pt) : (pts l).length = l.length := List.length_map ..
theorem idx_pt {l : List Pt} {j k : Nat} (hj : j < l.length) : pV (.iaddrS 3) [.fz k (pts l), .int .i64 (j : Nat)] = some (.fp (pt l[j]).cells 0) := idx_map (enc := pt) hj rfl

def partIn (x : Pt) : Prop := 1 ≤ x.per ∧ x.per ≤ 64 ∧ 1 ≤ x.bud ∧ x.bud ≤ x.per
instance (x : Pt) : Decidable (partIn x) := by unfold partIn; infer_instance
def partOk (x : Pt) : Bool := decide (partIn x) && (tasksOk x.ts && x.ts.all fun t => mayD t x.bud)
def delCheck (l : List Pt) : Int := if l.length ≤ 4 ∧ l.all partOk = true then 0 else 2
/-- Rows of tasks that are no longer than they may be. -/
def Small (l : List Pt) : Prop := l.length ≤ 17592186044416 ∧ ∀ x, x ∈ l → x.ts.length ≤ 17592186044416

end Ir
end Go.Proofs.Ytepdklcpagielaa
set_option maxRecDepth 100000
set_option linter.unusedSimpArgs false
set_option linter.unusedVariables false
namespace Go.Proofs.Ytepdklcpagielaa
open Go Ads
namespace Ir

end Ir
end Go.Proofs.Ytepdklcpagielaa
set_option maxRecDepth 100000
set_option linter.unusedSimpArgs false
set_option linter.unusedVariables false
namespace Go.Proofs.Ytepdklcpagielaa
open Go Ads
namespace Ir

def usesP (x : Pt) (g : Int) : Bool := x.ts.any fun t => t.c == g
/-- How long is waited for the first ones. -/
def waitN (l : List Pt) (a g : Int) : Nat → Int
  | 0 => 0
  | j + 1 => match l[j]? with
    | some x => if (j : Int) ≠ a ∧ usesP x g = true then IntKind.i64.wrap (waitN l a g j + IntKind.i64.wrap (2 * x.per)) else waitN l a g j
    | none => waitN l a g j
def waitS (l : List Pt) (a : Int) (t : Tk) : Int := if t.c = 0 then 0 else waitN l a t.c l.length
def sn (x : Pt) (k : Nat) (l : List Pt) (a : Int) : AV := .agg [.int .i64 x.per, .int .i64 x.bud, .fz x.k (tks x.ts), .fz k (pts l), .int .i64 a]
def rangeA : AC → AC
  | .seq a b => match rangeA a with | .bad => rangeA b | x => x
  | .cond _ a b => match rangeA a with | .bad => rangeA b | x => x
  | .block _ c => rangeA c
  | .rangeFunc _ _ a _ => a
  | _ => .bad
def rangeB : AC → AC
  | .seq a b => match rangeB a with | .bad => rangeB b | x => x
  | .cond _ a b => match rangeB a with | .bad => rangeB b | x => x
  | .block _ c => rangeB c
  | .rangeFunc _ _ _ b => b
  | _ => .bad
def wE (F : AV) : Env := ek 4 [(4, .ptr 0 0), (12, F)]
end Ir
end Go.Proofs.Ytepdklcpagielaa
set_option maxRecDepth 100000
set_option linter.unusedSimpArgs false
set_option linter.unusedVariables false
namespace Go.Proofs.Ytepdklcpagielaa
open Go Ads
namespace Ir

/-- A partition among all that is none. -/
def sn0 : AV := .agg [.int .i64 0, .int .i64 0, .nils, .nils, .int .i64 0]
def pr9 (p : Int × Int) : AV := .tup [.int .i64 p.1, .int .i64 p.2]

/-- How long a task waits: of a partition and of a task by number. -/
def dWait (l : List Pt) (a n : Int) : Int × Int := if delCheck l = 2 then (0, 2) else if a < 0 then (0, 9) else match l[a.toNat]? with
  | none => (0, 9)
  | some x => if n < 0 then (0, 9) else match x.ts[n.toNat]? with
    | none => (0, 9)
    | some t => (waitS l a t, 0)

end Ir
end Go.Proofs.Ytepdklcpagielaa
set_option maxRecDepth 100000
set_option linter.unusedSimpArgs false
set_option linter.unusedVariables false
namespace Go.Proofs.Ytepdklcpagielaa
open Go Ads
namespace Ir

/-- How much more a task asks for. -/
def moreOne (l : List Pt) (a : Int) (t : Tk) : Int := IntKind.i64.wrap (t.f * IntKind.i64.wrap (IntKind.i64.wrap (waitS l a t + t.e) - 1))
def moreL (l : List Pt) (i : Nat) : List Int := match l[i]? with
  | some x => x.ts.map (moreOne l (i : Nat))
  | none => []
def dMore (l : List Pt) (a : Int) : List Int × Int := if delCheck l = 2 then ([], 2) else if a < 0 ∨ l.length ≤ a then ([], 9) else (moreL l a.toNat, 0)
def prL (k : Nat) (p : List Int × Int) : AV := .tup [.fz k (ints p.1), .int .i64 p.2]
def moreH (ts : List Int) (j : Nat) : Heap := ⟨1, .node .nil (some (.cells (ints (fillR ts j)) true 0)) .nil⟩

end Ir
end Go.Proofs.Ytepdklcpagielaa
set_option maxRecDepth 100000
set_option linter.unusedSimpArgs false
set_option linter.unusedVariables false
namespace Go.Proofs.Ytepdklcpagielaa
open Go Ads
namespace Ir

def mx (a b : Int) : Int := cond (decide (b > a)) b a
def waitMore (l : List Pt) (a : Int) (t : Tk) : Int := IntKind.i64.wrap (IntKind.i64.wrap (waitS l a t + IntKind.i64.wrap (2 * t.e)) - 1)
/-- The delay by a task. -/
def byOne (l : List Pt) (a : Int) (t : Tk) : Int := if t.c = 0 then t.b else mx t.b (waitMore l a t)
def ofN (l : List Pt) (a n : Int) (ts : List Tk) : Nat → Int
  | 0 => 0
  | j + 1 => match ts[j]? with
    | some t => if t.d > n then mx (ofN l a n ts j) (byOne l a t) else ofN l a n ts j
    | none => ofN l a n ts j
def dOf9 (l : List Pt) (a n : Int) : Int × Int := if delCheck l = 2 then (0, 2) else if a < 0 then (0, 9) else match l[a.toNat]? with
  | none => (0, 9)
  | some x => if n < 0 then (0, 2) else (ofN l a n x.ts x.ts.length, 0)

end Ir
end Go.Proofs.Ytepdklcpagielaa
set_option maxRecDepth 100000
set_option linter.unusedSimpArgs false
set_option linter.unusedVariables false
namespace Go.Proofs.Ytepdklcpagielaa
open Go Ads
namespace Ir

end Ir
end Go.Proofs.Ytepdklcpagielaa
