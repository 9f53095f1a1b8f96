/-
  Demand: the tasks. Demand: rows of tasks. Demand: ContainsFunc over numbers and tasks. Demand: what is refused. Demand: what the document's Check refuses. Demand: jobs of a task; each; sum. Demand: each. Demand: Of. Demand: the document's Of. Demand: Use of both. Demand: Hyper of the program. Demand: what is asked for, without ends of the numbers.
-/
import Derived.Test.YtepdklcpagielaaIrLink
import Derived.Test.YtepdklcpagielaaVsLoop
import Derived.Test.YtepdklcpagielaaVsRows
import Derived.Test.YtepdklcpagielaaVTick
set_option maxRecDepth 100000
set_option linter.unusedSimpArgs false
set_option linter.unusedVariables false
namespace Go.Proofs.Ytepdklcpagielaa
open Go Ads
namespace Ir

structure Tk where
 p : Int
 d : Int
 w : Int
 a : Int
 b : Int
 c : Int
 e : Int
 f : Int
def tk (t : Tk) : AV := .agg [.int .i64 t.p, .int .i64 t.d, .int .i64 t.w, .int .i64 t.a, .int .i64 t.b, .int .i64 t.c, .int .i64 t.e, .int .i64 t.f]
def tks (l : List Tk) : List AV := l.map tk

end Ir
end Go.Proofs.Ytepdklcpagielaa
set_option maxRecDepth 100000
set_option linter.unusedSimpArgs false
set_option linter.unusedVariables false
namespace Go.Proofs.Ytepdklcpagielaa
open Go Ads
namespace Ir

theorem cl_tks (l : List Tk) : clL (tks l) = true := clL_map (enc := tk) (fun _ => rfl) l
theorem len_tks (l : List Tk) : (tks l).length = l.length := List.length_map ..
theorem idx_tk {l : List Tk} {j k : Nat} (hj : j < l.length) : pV (.iaddrS 8) [.fz k (tks l), .int .i64 (j : Nat)] = some (.fp (tk l[j]).cells 0) := idx_map (enc := tk) hj rfl

end Ir
end Go.Proofs.Ytepdklcpagielaa
set_option maxRecDepth 100000
set_option linter.unusedSimpArgs false
set_option linter.unusedVariables false
namespace Go.Proofs.Ytepdklcpagielaa
open Go Ads
namespace Ir

theorem ixfT_c {F : Nat} {capt : List AV} {p : Tk → Bool} (k : Nat) (l : List Tk) (hl : l.length < 2 ^ 62) (hcap : clL capt = true) (hp : ∀ m, m ∈ l → PC fs ms F (tk m :: capt) (.bool (p m))) :
  ∃ n : Int, PC fs ms f_slices_IndexFunc_api_Task_api_Task [.fz k (tks l), .func (.func F) [] capt] (.int .i64 n) ∧ decide (n ≥ 0) = l.any p := by
 by_cases ha : l.any p = true
 ·obtain ⟨j, hj, h1, h2⟩ := least_get (l := l) (p := fun m => p m = true) (by simpa using ha)
  refine ⟨(j : Nat), ?_, by rw [ha]; simp⟩
  refine pc_of (by simp [clL, AV.cl, cl_tks, hcap]) rfl ?_
  refine vd_start (af := C_slices_IndexFunc_api_Task_api_Task) false rfl (Nat.le_of_ble_eq_true rfl) ?_
  generalize hQ : (fun (v : AV) (_ : Heap) => v = .int .i64 (j : Nat)) = Q
  set_option smartUnfolding false in conv => whnf
  refine vc_to0 5 [(0, .fz k (tks l)), (1, .func (.func F) [] capt), (7, .int .i64 (tks l).length), (8, .int .i64 ((0 : Nat) : Int))] (by repeat' (first | exact trivial | refine renAt_sl rfl (by omega) ?_ | refine renAt_ptr rfl (by omega) ?_ | refine renAt_yield rfl (by omega) ?_ | refine renAt_cl rfl (by first | rfl | simp [clL, AV.cl, cl_ints, cl_tks, hcap]) ?_ | refine renAt_cl (inc_slot (by omega)) rfl ?_)) ?_
  refine for_row 5 j (fun _ => True) (fun i => [(0, .fz k (tks l)), (1, .func (.func F) [] capt), (7, .int .i64 (tks l).length), (8, .int .i64 (i : Nat))]) ?_ ?_ trivial
  ·intro i hi _
   set_option smartUnfolding false in conv => whnf
   refine br (fun hc => ?_) (fun hc => ?_) <;> (try rw [hc]) <;> (set_option smartUnfolding false in conv => whnf)
   ·refine ⟨_, idx_tk (by omega), ?_⟩
    set_option smartUnfolding false in conv => whnf
    refine vd_pure (hp _ (List.getElem_mem _)) ?_
    set_option smartUnfolding false in conv => whnf
    refine br (fun hc => ?_) (fun hc => ?_) <;> (try rw [hc]) <;> (set_option smartUnfolding false in conv => whnf)
    ·exact absurd hc (h2 i (by omega) hi)
    ·refine ⟨trivial, ⟨_, rfl, .cl (by simp [AV.cl, cl_tks])⟩, ⟨_, rfl, .cl (by simp [AV.cl, clL, hcap])⟩, ⟨_, rfl, .cl rfl⟩, ⟨_, inc_slot (by omega), .cl rfl⟩, trivial⟩
   ·exfalso
    have := of_decide_eq_false hc
    rw [len_tks] at this
    omega
  ·intro _
   set_option smartUnfolding false in conv => whnf
   refine br (fun hc => ?_) (fun hc => ?_) <;> (try rw [hc]) <;> (set_option smartUnfolding false in conv => whnf)
   ·refine ⟨_, idx_tk hj, ?_⟩
    set_option smartUnfolding false in conv => whnf
    refine vd_pure (hp _ (List.getElem_mem _)) ?_
    set_option smartUnfolding false in conv => whnf
    refine br (fun hc => ?_) (fun hc => ?_) <;> (try rw [hc]) <;> (set_option smartUnfolding false in conv => whnf)
    ·subst hQ
     rfl
    ·rw [h1] at hc; simp at hc
   ·exfalso
    have := of_decide_eq_false hc
    rw [len_tks] at this
    omega
 ·have hn : ∀ m, m ∈ l → p m = false := by
   intro m hm
   rw [Bool.eq_false_iff]
   intro h
   exact ha (List.any_eq_true.2 ⟨m, hm, h⟩)
  refine ⟨-1, ?_, by rw [Bool.eq_false_iff.2 ha]; decide⟩
  refine pc_of (by simp [clL, AV.cl, cl_tks, hcap]) rfl ?_
  refine vd_start (af := C_slices_IndexFunc_api_Task_api_Task) false rfl (Nat.le_of_ble_eq_true rfl) ?_
  generalize hQ : (fun (v : AV) (_ : Heap) => v = .int .i64 (-1)) = Q
  set_option smartUnfolding false in conv => whnf
  refine vc_to0 5 [(0, .fz k (tks l)), (1, .func (.func F) [] capt), (7, .int .i64 (tks l).length), (8, .int .i64 ((0 : Nat) : Int))] (by repeat' (first | exact trivial | refine renAt_sl rfl (by omega) ?_ | refine renAt_ptr rfl (by omega) ?_ | refine renAt_yield rfl (by omega) ?_ | refine renAt_cl rfl (by first | rfl | simp [clL, AV.cl, cl_ints, cl_tks, hcap]) ?_ | refine renAt_cl (inc_slot (by omega)) rfl ?_)) ?_
  refine for_row 5 l.length (fun _ => True) (fun i => [(0, .fz k (tks l)), (1, .func (.func F) [] capt), (7, .int .i64 (tks l).length), (8, .int .i64 (i : Nat))]) ?_ ?_ trivial
  ·intro i hi _
   set_option smartUnfolding false in conv => whnf
   refine br (fun hc => ?_) (fun hc => ?_) <;> (try rw [hc]) <;> (set_option smartUnfolding false in conv => whnf)
   ·refine ⟨_, idx_tk (by omega), ?_⟩
    set_option smartUnfolding false in conv => whnf
    refine vd_pure (hp _ (List.getElem_mem _)) ?_
    set_option smartUnfolding false in conv => whnf
    refine br (fun hc => ?_) (fun hc => ?_) <;> (try rw [hc]) <;> (set_option smartUnfolding false in conv => whnf)
    ·rw [hn _ (List.getElem_mem hi)] at hc; simp at hc
    ·refine ⟨trivial, ⟨_, rfl, .cl (by simp [AV.cl, cl_tks])⟩, ⟨_, rfl, .cl (by simp [AV.cl, clL, hcap])⟩, ⟨_, rfl, .cl rfl⟩, ⟨_, inc_slot (by omega), .cl rfl⟩, trivial⟩
   ·exfalso
    have := of_decide_eq_false hc
    rw [len_tks] at this
    omega
  ·intro _
   set_option smartUnfolding false in conv => whnf
   refine br (fun hc => ?_) (fun hc => ?_) <;> (try rw [hc]) <;> (set_option smartUnfolding false in conv => whnf)
   ·exfalso
    have := of_decide_eq_true hc
    rw [len_tks] at this
    omega
   ·subst hQ
    rfl

theorem cfT_c {F : Nat} {capt : List AV} {p : Tk → Bool} (k : Nat) (l : List Tk) (hl : l.length < 2 ^ 62) (hcap : clL capt = true) (hp : ∀ m, m ∈ l → PC fs ms F (tk m :: capt) (.bool (p m))) :
  PC fs ms f_slices_ContainsFunc_api_Task_api_Task [.fz k (tks l), .func (.func F) [] capt] (.bool (l.any p)) := by
 obtain ⟨n, c1, c2⟩ := ixfT_c k l hl hcap hp
 refine pc_of (by simp [clL, AV.cl, cl_tks, hcap]) rfl ?_
 refine vd_start (af := C_slices_ContainsFunc_api_Task_api_Task) false rfl (Nat.le_of_ble_eq_true rfl) ?_
 generalize hQ : (fun (v : AV) (_ : Heap) => v = .bool (l.any p)) = Q
 set_option smartUnfolding false in conv => whnf
 refine vd_pure c1 ?_
 set_option smartUnfolding false in conv => whnf
 subst hQ
 exact congrArg AV.bool c2
end Ir
end Go.Proofs.Ytepdklcpagielaa
set_option maxRecDepth 100000
set_option linter.unusedSimpArgs false
set_option linter.unusedVariables false
namespace Go.Proofs.Ytepdklcpagielaa
open Go Ads
namespace Ir

end Ir
end Go.Proofs.Ytepdklcpagielaa
set_option maxRecDepth 100000
set_option linter.unusedSimpArgs false
set_option linter.unusedVariables false
namespace Go.Proofs.Ytepdklcpagielaa
open Go Ads
namespace Ir

end Ir
end Go.Proofs.Ytepdklcpagielaa
set_option maxRecDepth 100000
set_option linter.unusedSimpArgs false
set_option linter.unusedVariables false
namespace Go.Proofs.Ytepdklcpagielaa
open Go Ads
namespace Ir

end Ir
end Go.Proofs.Ytepdklcpagielaa
set_option maxRecDepth 100000
set_option linter.unusedSimpArgs false
set_option linter.unusedVariables false
namespace Go.Proofs.Ytepdklcpagielaa
open Go Ads
namespace Ir

end Ir
end Go.Proofs.Ytepdklcpagielaa
set_option maxRecDepth 100000
set_option linter.unusedSimpArgs false
set_option linter.unusedVariables false
namespace Go.Proofs.Ytepdklcpagielaa
open Go Ads
namespace Ir

end Ir
end Go.Proofs.Ytepdklcpagielaa
set_option maxRecDepth 100000
set_option linter.unusedSimpArgs false
set_option linter.unusedVariables false
namespace Go.Proofs.Ytepdklcpagielaa
open Go Ads
namespace Ir

end Ir
end Go.Proofs.Ytepdklcpagielaa
set_option maxRecDepth 100000
set_option linter.unusedSimpArgs false
set_option linter.unusedVariables false
namespace Go.Proofs.Ytepdklcpagielaa
open Go Ads
namespace Ir

end Ir
end Go.Proofs.Ytepdklcpagielaa
set_option maxRecDepth 100000
set_option linter.unusedSimpArgs false
set_option linter.unusedVariables false
namespace Go.Proofs.Ytepdklcpagielaa
open Go Ads
namespace Ir

end Ir
end Go.Proofs.Ytepdklcpagielaa
set_option maxRecDepth 100000
set_option linter.unusedSimpArgs false
set_option linter.unusedVariables false
namespace Go.Proofs.Ytepdklcpagielaa
open Go Ads
namespace Ir

/- What is asked for, without ends of the numbers. -/
end Ir
end Go.Proofs.Ytepdklcpagielaa
