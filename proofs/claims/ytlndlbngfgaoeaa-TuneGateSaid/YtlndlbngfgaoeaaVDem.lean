/-
  Demand: the tasks. Demand: rows of tasks. Demand: ContainsFunc over numbers and tasks. Demand: what is refused. Demand: what the document's Check refuses. Demand: jobs of a task; each; sum. Demand: each. Demand: Of. Demand: the document's Of. Demand: Use of both. Demand: Hyper of the program. Demand: what is asked for, without ends of the numbers.
-/
import Derived.Test.YtlndlbngfgaoeaaIrLink
import Derived.Test.YtlndlbngfgaoeaaVsLoop
import Derived.Test.YtlndlbngfgaoeaaVsRows
import Derived.Test.YtlndlbngfgaoeaaVTick
set_option maxRecDepth 100000
set_option linter.unusedSimpArgs false
set_option linter.unusedVariables false
namespace Go.Proofs.Ytlndlbngfgaoeaa
open Go Ads
namespace Ir

structure Tk where
 p : Int
 d : Int
 w : Int
 a : Int
 b : Int
 c : Int
 e : Int
 f : Int
def tk (t : Tk) : AV := .agg [.int .i64 t.p, .int .i64 t.d, .int .i64 t.w, .int .i64 t.a, .int .i64 t.b, .int .i64 t.c, .int .i64 t.e, .int .i64 t.f]
def tks (l : List Tk) : List AV := l.map tk

def taskOk (t : Tk) : Bool := decide (1 ≤ t.w ∧ t.w ≤ t.d ∧ t.d ≤ t.p ∧ t.p ≤ 64)

theorem may_c (t : Tk) : PC fs ms f_demand_may [tk t] (.bool (taskOk t)) := by
 refine pc_of rfl rfl ?_
 refine vd_start (af := C_demand_may) false rfl (Nat.le_of_ble_eq_true rfl) ?_
 generalize hQ : (fun (v : AV) (_ : Heap) => v = .bool (taskOk t)) = Q
 conv => whnf
 iterate 8 (all_goals (first | (refine br (fun hc => ?_) (fun hc => ?_) <;> (try rw [hc]) <;> (conv => whnf)) | skip))
 all_goals (subst hQ; simp only [taskOk]; refine congrArg AV.bool ?_; rw [Bool.eq_iff_iff]; simp at *; omega)
end Ir
end Go.Proofs.Ytlndlbngfgaoeaa
set_option maxRecDepth 100000
set_option linter.unusedSimpArgs false
set_option linter.unusedVariables false
namespace Go.Proofs.Ytlndlbngfgaoeaa
open Go Ads
namespace Ir

theorem cl_tks (l : List Tk) : clL (tks l) = true := clL_map (enc := tk) (fun _ => rfl) l
theorem len_tks (l : List Tk) : (tks l).length = l.length := List.length_map ..
theorem idx_tk {l : List Tk} {j k : Nat} (hj : j < l.length) : pV (.iaddrS 8) [.fz k (tks l), .int .i64 (j : Nat)] = some (.fp (tk l[j]).cells 0) := idx_map (enc := tk) hj rfl

def tasksOk (l : List Tk) : Bool := l.all taskOk && decide (l.length ≤ 4)

end Ir
end Go.Proofs.Ytlndlbngfgaoeaa
set_option maxRecDepth 100000
set_option linter.unusedSimpArgs false
set_option linter.unusedVariables false
namespace Go.Proofs.Ytlndlbngfgaoeaa
open Go Ads
namespace Ir

theorem ixfI_c {F : Nat} {capt : List AV} {p : Int → Bool} (k : Nat) (l : List Int) (hl : l.length < 2 ^ 62) (hcap : clL capt = true) (hp : ∀ m, PC fs ms F (.int .i64 m :: capt) (.bool (p m))) :
  ∃ n : Int, PC fs ms f_slices_IndexFunc_int_int [.fz k (ints l), .func (.func F) [] capt] (.int .i64 n) ∧ decide (n ≥ 0) = l.any p := by
 by_cases ha : l.any p = true
 ·obtain ⟨j, hj, h1, h2⟩ := least_get (l := l) (p := fun m => p m = true) (by simpa using ha)
  refine ⟨(j : Nat), ?_, by rw [ha]; simp⟩
  refine pc_of (by simp [clL, AV.cl, cl_ints, hcap]) rfl ?_
  refine vd_start (af := C_slices_IndexFunc_int_int) false rfl (Nat.le_of_ble_eq_true rfl) ?_
  generalize hQ : (fun (v : AV) (_ : Heap) => v = .int .i64 (j : Nat)) = Q
  conv => whnf
  refine vc_to0 5 [(0, .fz k (ints l)), (1, .func (.func F) [] capt), (7, .int .i64 (ints l).length), (8, .int .i64 ((0 : Nat) : Int))] (by repeat' (first | exact trivial | refine renAt_sl rfl (by omega) ?_ | refine renAt_ptr rfl (by omega) ?_ | refine renAt_yield rfl (by omega) ?_ | refine renAt_cl rfl (by first | rfl | simp [clL, AV.cl, cl_ints, hcap]) ?_ | refine renAt_cl (inc_slot (by omega)) rfl ?_)) ?_
  refine for_row 5 j (fun _ => True) (fun i => [(0, .fz k (ints l)), (1, .func (.func F) [] capt), (7, .int .i64 (ints l).length), (8, .int .i64 (i : Nat))]) ?_ ?_ trivial
  ·intro i hi _
   conv => whnf
   refine br (fun hc => ?_) (fun hc => ?_) <;> (try rw [hc]) <;> (conv => whnf)
   ·refine ⟨_, idx_int (by omega), ?_⟩
    conv => whnf
    refine vd_pure (hp _) ?_
    conv => whnf
    refine br (fun hc => ?_) (fun hc => ?_) <;> (try rw [hc]) <;> (conv => whnf)
    ·exact absurd hc (h2 i (by omega) hi)
    ·refine ⟨trivial, ⟨_, rfl, .cl (by simp [AV.cl, cl_ints])⟩, ⟨_, rfl, .cl (by simp [AV.cl, clL, hcap])⟩, ⟨_, rfl, .cl rfl⟩, ⟨_, inc_slot (by omega), .cl rfl⟩, trivial⟩
   ·exfalso
    have := of_decide_eq_false hc
    rw [len_ints] at this
    omega
  ·intro _
   conv => whnf
   refine br (fun hc => ?_) (fun hc => ?_) <;> (try rw [hc]) <;> (conv => whnf)
   ·refine ⟨_, idx_int hj, ?_⟩
    conv => whnf
    refine vd_pure (hp _) ?_
    conv => whnf
    refine br (fun hc => ?_) (fun hc => ?_) <;> (try rw [hc]) <;> (conv => whnf)
    ·subst hQ
     rfl
    ·rw [h1] at hc; simp at hc
   ·exfalso
    have := of_decide_eq_false hc
    rw [len_ints] at this
    omega
 ·have hn : ∀ m, m ∈ l → p m = false := by
   intro m hm
   rw [Bool.eq_false_iff]
   intro h
   exact ha (List.any_eq_true.2 ⟨m, hm, h⟩)
  refine ⟨-1, ?_, by rw [Bool.eq_false_iff.2 ha]; decide⟩
  refine pc_of (by simp [clL, AV.cl, cl_ints, hcap]) rfl ?_
  refine vd_start (af := C_slices_IndexFunc_int_int) false rfl (Nat.le_of_ble_eq_true rfl) ?_
  generalize hQ : (fun (v : AV) (_ : Heap) => v = .int .i64 (-1)) = Q
  conv => whnf
  refine vc_to0 5 [(0, .fz k (ints l)), (1, .func (.func F) [] capt), (7, .int .i64 (ints l).length), (8, .int .i64 ((0 : Nat) : Int))] (by repeat' (first | exact trivial | refine renAt_sl rfl (by omega) ?_ | refine renAt_ptr rfl (by omega) ?_ | refine renAt_yield rfl (by omega) ?_ | refine renAt_cl rfl (by first | rfl | simp [clL, AV.cl, cl_ints, hcap]) ?_ | refine renAt_cl (inc_slot (by omega)) rfl ?_)) ?_
  refine for_row 5 l.length (fun _ => True) (fun i => [(0, .fz k (ints l)), (1, .func (.func F) [] capt), (7, .int .i64 (ints l).length), (8, .int .i64 (i : Nat))]) ?_ ?_ trivial
  ·intro i hi _
   conv => whnf
   refine br (fun hc => ?_) (fun hc => ?_) <;> (try rw [hc]) <;> (conv => whnf)
   ·refine ⟨_, idx_int (by omega), ?_⟩
    conv => whnf
    refine vd_pure (hp _) ?_
    conv => whnf
    refine br (fun hc => ?_) (fun hc => ?_) <;> (try rw [hc]) <;> (conv => whnf)
    ·rw [hn _ (List.getElem_mem hi)] at hc; simp at hc
    ·refine ⟨trivial, ⟨_, rfl, .cl (by simp [AV.cl, cl_ints])⟩, ⟨_, rfl, .cl (by simp [AV.cl, clL, hcap])⟩, ⟨_, rfl, .cl rfl⟩, ⟨_, inc_slot (by omega), .cl rfl⟩, trivial⟩
   ·exfalso
    have := of_decide_eq_false hc
    rw [len_ints] at this
    omega
  ·intro _
   conv => whnf
   refine br (fun hc => ?_) (fun hc => ?_) <;> (try rw [hc]) <;> (conv => whnf)
   ·exfalso
    have := of_decide_eq_true hc
    rw [len_ints] at this
    omega
   ·subst hQ
    rfl

theorem cfI_c {F : Nat} {capt : List AV} {p : Int → Bool} (k : Nat) (l : List Int) (hl : l.length < 2 ^ 62) (hcap : clL capt = true) (hp : ∀ m, PC fs ms F (.int .i64 m :: capt) (.bool (p m))) :
  PC fs ms f_slices_ContainsFunc_int_int [.fz k (ints l), .func (.func F) [] capt] (.bool (l.any p)) := by
 obtain ⟨n, c1, c2⟩ := ixfI_c k l hl hcap hp
 refine pc_of (by simp [clL, AV.cl, cl_ints, hcap]) rfl ?_
 refine vd_start (af := C_slices_ContainsFunc_int_int) false rfl (Nat.le_of_ble_eq_true rfl) ?_
 generalize hQ : (fun (v : AV) (_ : Heap) => v = .bool (l.any p)) = Q
 conv => whnf
 refine vd_pure c1 ?_
 conv => whnf
 subst hQ
 exact congrArg AV.bool c2
theorem ixfT_c {F : Nat} {capt : List AV} {p : Tk → Bool} (k : Nat) (l : List Tk) (hl : l.length < 2 ^ 62) (hcap : clL capt = true) (hp : ∀ m, m ∈ l → PC fs ms F (tk m :: capt) (.bool (p m))) :
  ∃ n : Int, PC fs ms f_slices_IndexFunc_api_Task_api_Task [.fz k (tks l), .func (.func F) [] capt] (.int .i64 n) ∧ decide (n ≥ 0) = l.any p := by
 by_cases ha : l.any p = true
 ·obtain ⟨j, hj, h1, h2⟩ := least_get (l := l) (p := fun m => p m = true) (by simpa using ha)
  refine ⟨(j : Nat), ?_, by rw [ha]; simp⟩
  refine pc_of (by simp [clL, AV.cl, cl_tks, hcap]) rfl ?_
  refine vd_start (af := C_slices_IndexFunc_api_Task_api_Task) false rfl (Nat.le_of_ble_eq_true rfl) ?_
  generalize hQ : (fun (v : AV) (_ : Heap) => v = .int .i64 (j : Nat)) = Q
  conv => whnf
  refine vc_to0 5 [(0, .fz k (tks l)), (1, .func (.func F) [] capt), (7, .int .i64 (tks l).length), (8, .int .i64 ((0 : Nat) : Int))] (by repeat' (first | exact trivial | refine renAt_sl rfl (by omega) ?_ | refine renAt_ptr rfl (by omega) ?_ | refine renAt_yield rfl (by omega) ?_ | refine renAt_cl rfl (by first | rfl | simp [clL, AV.cl, cl_ints, cl_tks, hcap]) ?_ | refine renAt_cl (inc_slot (by omega)) rfl ?_)) ?_
  refine for_row 5 j (fun _ => True) (fun i => [(0, .fz k (tks l)), (1, .func (.func F) [] capt), (7, .int .i64 (tks l).length), (8, .int .i64 (i : Nat))]) ?_ ?_ trivial
  ·intro i hi _
   conv => whnf
   refine br (fun hc => ?_) (fun hc => ?_) <;> (try rw [hc]) <;> (conv => whnf)
   ·refine ⟨_, idx_tk (by omega), ?_⟩
    conv => whnf
    refine vd_pure (hp _ (List.getElem_mem _)) ?_
    conv => whnf
    refine br (fun hc => ?_) (fun hc => ?_) <;> (try rw [hc]) <;> (conv => whnf)
    ·exact absurd hc (h2 i (by omega) hi)
    ·refine ⟨trivial, ⟨_, rfl, .cl (by simp [AV.cl, cl_tks])⟩, ⟨_, rfl, .cl (by simp [AV.cl, clL, hcap])⟩, ⟨_, rfl, .cl rfl⟩, ⟨_, inc_slot (by omega), .cl rfl⟩, trivial⟩
   ·exfalso
    have := of_decide_eq_false hc
    rw [len_tks] at this
    omega
  ·intro _
   conv => whnf
   refine br (fun hc => ?_) (fun hc => ?_) <;> (try rw [hc]) <;> (conv => whnf)
   ·refine ⟨_, idx_tk hj, ?_⟩
    conv => whnf
    refine vd_pure (hp _ (List.getElem_mem _)) ?_
    conv => whnf
    refine br (fun hc => ?_) (fun hc => ?_) <;> (try rw [hc]) <;> (conv => whnf)
    ·subst hQ
     rfl
    ·rw [h1] at hc; simp at hc
   ·exfalso
    have := of_decide_eq_false hc
    rw [len_tks] at this
    omega
 ·have hn : ∀ m, m ∈ l → p m = false := by
   intro m hm
   rw [Bool.eq_false_iff]
   intro h
   exact ha (List.any_eq_true.2 ⟨m, hm, h⟩)
  refine ⟨-1, ?_, by rw [Bool.eq_false_iff.2 ha]; decide⟩
  refine pc_of (by simp [clL, AV.cl, cl_tks, hcap]) rfl ?_
  refine vd_start (af := C_slices_IndexFunc_api_Task_api_Task) false rfl (Nat.le_of_ble_eq_true rfl) ?_
  generalize hQ : (fun (v : AV) (_ : Heap) => v = .int .i64 (-1)) = Q
  conv => whnf
  refine vc_to0 5 [(0, .fz k (tks l)), (1, .func (.func F) [] capt), (7, .int .i64 (tks l).length), (8, .int .i64 ((0 : Nat) : Int))] (by repeat' (first | exact trivial | refine renAt_sl rfl (by omega) ?_ | refine renAt_ptr rfl (by omega) ?_ | refine renAt_yield rfl (by omega) ?_ | refine renAt_cl rfl (by first | rfl | simp [clL, AV.cl, cl_ints, cl_tks, hcap]) ?_ | refine renAt_cl (inc_slot (by omega)) rfl ?_)) ?_
  refine for_row 5 l.length (fun _ => True) (fun i => [(0, .fz k (tks l)), (1, .func (.func F) [] capt), (7, .int .i64 (tks l).length), (8, .int .i64 (i : Nat))]) ?_ ?_ trivial
  ·intro i hi _
   conv => whnf
   refine br (fun hc => ?_) (fun hc => ?_) <;> (try rw [hc]) <;> (conv => whnf)
   ·refine ⟨_, idx_tk (by omega), ?_⟩
    conv => whnf
    refine vd_pure (hp _ (List.getElem_mem _)) ?_
    conv => whnf
    refine br (fun hc => ?_) (fun hc => ?_) <;> (try rw [hc]) <;> (conv => whnf)
    ·rw [hn _ (List.getElem_mem hi)] at hc; simp at hc
    ·refine ⟨trivial, ⟨_, rfl, .cl (by simp [AV.cl, cl_tks])⟩, ⟨_, rfl, .cl (by simp [AV.cl, clL, hcap])⟩, ⟨_, rfl, .cl rfl⟩, ⟨_, inc_slot (by omega), .cl rfl⟩, trivial⟩
   ·exfalso
    have := of_decide_eq_false hc
    rw [len_tks] at this
    omega
  ·intro _
   conv => whnf
   refine br (fun hc => ?_) (fun hc => ?_) <;> (try rw [hc]) <;> (conv => whnf)
   ·exfalso
    have := of_decide_eq_true hc
    rw [len_tks] at this
    omega
   ·subst hQ
    rfl

theorem cfT_c {F : Nat} {capt : List AV} {p : Tk → Bool} (k : Nat) (l : List Tk) (hl : l.length < 2 ^ 62) (hcap : clL capt = true) (hp : ∀ m, m ∈ l → PC fs ms F (tk m :: capt) (.bool (p m))) :
  PC fs ms f_slices_ContainsFunc_api_Task_api_Task [.fz k (tks l), .func (.func F) [] capt] (.bool (l.any p)) := by
 obtain ⟨n, c1, c2⟩ := ixfT_c k l hl hcap hp
 refine pc_of (by simp [clL, AV.cl, cl_tks, hcap]) rfl ?_
 refine vd_start (af := C_slices_ContainsFunc_api_Task_api_Task) false rfl (Nat.le_of_ble_eq_true rfl) ?_
 generalize hQ : (fun (v : AV) (_ : Heap) => v = .bool (l.any p)) = Q
 conv => whnf
 refine vd_pure c1 ?_
 conv => whnf
 subst hQ
 exact congrArg AV.bool c2
end Ir
end Go.Proofs.Ytlndlbngfgaoeaa
set_option maxRecDepth 100000
set_option linter.unusedSimpArgs false
set_option linter.unusedVariables false
namespace Go.Proofs.Ytlndlbngfgaoeaa
open Go Ads
namespace Ir

theorem allOne_c (t : Tk) : PC fs ms f_demand_all_1 [tk t] (.bool (!taskOk t)) := by
 refine pc_of rfl rfl ?_
 refine vd_start (af := C_demand_all_1) false rfl (Nat.le_of_ble_eq_true rfl) ?_
 generalize hQ : (fun (v : AV) (_ : Heap) => v = .bool (!taskOk t)) = Q
 conv => whnf
 refine vd_pure (may_c _) ?_
 conv => whnf
 subst hQ
 rfl

theorem any_not (l : List Tk) : (l.any fun t => !taskOk t) = !l.all taskOk := by
 induction l with
 | nil => rfl
 | cons t l ih => simp only [List.any_cons, List.all_cons, ih, Bool.not_and]

theorem all_c (k : Nat) (l : List Tk) (hl : l.length < 2 ^ 62) : PC fs ms f_demand_all [.fz k (tks l)] (.bool (tasksOk l)) := by
 refine pc_of (by simp [clL, AV.cl, cl_tks]) rfl ?_
 refine vd_start (af := C_demand_all) false rfl (Nat.le_of_ble_eq_true rfl) ?_
 generalize hQ : (fun (v : AV) (_ : Heap) => v = .bool (tasksOk l)) = Q
 conv => whnf
 refine br (fun hc => ?_) (fun hc => ?_) <;> (try rw [hc]) <;> (conv => whnf)
 ·refine vd_pure (cfT_c k l hl rfl (fun m _ => allOne_c m)) ?_
  conv => whnf
  subst hQ
  refine congrArg AV.bool ?_
  have := of_decide_eq_true hc
  rw [len_tks] at this
  rw [any_not, Bool.not_not, tasksOk, decide_eq_true (by omega), Bool.and_true]
 ·subst hQ
  refine congrArg AV.bool ?_
  have := of_decide_eq_false hc
  rw [len_tks] at this
  rw [tasksOk, decide_eq_false (by omega), Bool.and_false]

def moreBad (n : Int) : Bool := decide (n < 0) || decide (n > 32768)
theorem checkOne_c (n : Int) : PC fs ms f_demand_Check_1 [.int .i64 n] (.bool (moreBad n)) := by
 refine pc_of rfl rfl ?_
 refine vd_start (af := C_demand_Check_1) false rfl (Nat.le_of_ble_eq_true rfl) ?_
 generalize hQ : (fun (v : AV) (_ : Heap) => v = .bool (moreBad n)) = Q
 conv => whnf
 refine br (fun hc => ?_) (fun hc => ?_) <;> (try rw [hc]) <;> (conv => whnf)
 ·subst hQ; simp only [moreBad, hc, Bool.true_or]
 ·subst hQ; simp only [moreBad, hc, Bool.false_or]

def demCheck (l : List Tk) (a : List Int) : Int := if a.any moreBad = false ∧ tasksOk l = true ∧ a.length = l.length then 0 else 2

theorem check_c (k k' : Nat) (l : List Tk) (a : List Int) (hl : l.length < 2 ^ 62) (ha : a.length < 2 ^ 62) : PC fs ms f_demand_Check [.fz k (tks l), .fz k' (ints a)] (.int .i64 (demCheck l a)) := by
 refine pc_of (by simp [clL, AV.cl, cl_tks, cl_ints]) rfl ?_
 refine vd_start (af := C_demand_Check) false rfl (Nat.le_of_ble_eq_true rfl) ?_
 generalize hQ : (fun (v : AV) (_ : Heap) => v = .int .i64 (demCheck l a)) = Q
 conv => whnf
 refine vd_pure (cfI_c k' a ha rfl checkOne_c) ?_
 conv => whnf
 refine br (fun hc => ?_) (fun hc => ?_) <;> (try rw [hc]) <;> (conv => whnf)
 ·subst hQ; simp [demCheck, hc]
 ·refine vd_pure (all_c k l hl) ?_
  have h1 := hc
  conv => whnf
  refine br (fun hc => ?_) (fun hc => ?_) <;> (try rw [hc]) <;> (conv => whnf)
  ·subst hQ; simp at hc; simp [demCheck, hc]
  ·have h2 := hc
   refine br (fun hc => ?_) (fun hc => ?_) <;> (try rw [hc]) <;> (conv => whnf)
   ·subst hQ; simp [len_ints, len_tks] at hc; rw [demCheck, if_neg (fun h => by omega)]
   ·subst hQ; simp [len_ints, len_tks] at hc; simp at h2; rw [demCheck, if_pos ⟨h1, h2, by omega⟩]
end Ir
end Go.Proofs.Ytlndlbngfgaoeaa
set_option maxRecDepth 100000
set_option linter.unusedSimpArgs false
set_option linter.unusedVariables false
namespace Go.Proofs.Ytlndlbngfgaoeaa
open Go Ads
namespace Ir

end Ir
end Go.Proofs.Ytlndlbngfgaoeaa
set_option maxRecDepth 100000
set_option linter.unusedSimpArgs false
set_option linter.unusedVariables false
namespace Go.Proofs.Ytlndlbngfgaoeaa
open Go Ads
namespace Ir

def jobsS (n : Int) (t : Tk) : Int := if n < t.d then 0 else IntKind.i64.wrap (1 + IntKind.i64.wrap ((IntKind.i64.wrap (n - t.d)).tdiv t.p))

theorem jobs_c (n : Int) (t : Tk) (hp : t.p ≠ 0) : PC fs ms f_demand_Of_1 [tk t, .fp [.int .i64 n] 0] (.int .i64 (jobsS n t)) := by
 refine pc_of rfl rfl ?_
 refine vd_start (af := C_demand_Of_1) false rfl (Nat.le_of_ble_eq_true rfl) ?_
 generalize hQ : (fun (v : AV) (_ : Heap) => v = .int .i64 (jobsS n t)) = Q
 conv => whnf
 refine br (fun hc => ?_) (fun hc => ?_) <;> (try rw [hc]) <;> (conv => whnf)
 ·subst hQ
  rw [jobsS, if_pos (of_decide_eq_true hc)]
 ·refine ⟨_, quo_val _ _ hp, ?_⟩
  conv => whnf
  subst hQ
  rw [jobsS, if_neg (of_decide_eq_false hc)]

def sumW (l : List Int) : Int := l.foldl (fun s x => IntKind.i64.wrap (s + x)) 0

theorem dsum_c (k : Nat) (l : List Int) (hl : l.length < 2 ^ 62) : PC fs ms f_demand_sum [.fz k (ints l)] (.int .i64 (sumW l)) := by
 refine pc_of (by simp [clL, AV.cl, cl_ints]) rfl ?_
 refine vd_start (af := C_demand_sum) false rfl (Nat.le_of_ble_eq_true rfl) ?_
 generalize hQ : (fun (v : AV) (_ : Heap) => v = .int .i64 (sumW l)) = Q
 conv => whnf
 refine vc_to0 5 [(2, .int .i64 (sumW (l.take 0))), (5, .fz k (ints l)), (6, .int .i64 (ints l).length), (7, .int .i64 ((0 : Nat) : Int))] (by repeat' (first | exact trivial | refine renAt_sl rfl (by omega) ?_ | refine renAt_ptr rfl (by omega) ?_ | refine renAt_yield rfl (by omega) ?_ | refine renAt_cl rfl (by first | rfl | simp [clL, AV.cl, cl_ints]) ?_ | refine renAt_cl (inc_slot (by omega)) rfl ?_)) ?_
 refine for_row 5 l.length (fun _ => True) (fun j => [(2, .int .i64 (sumW (l.take j))), (5, .fz k (ints l)), (6, .int .i64 (ints l).length), (7, .int .i64 (j : Nat))]) ?_ ?_ trivial
 ·intro j hj _
  conv => whnf
  refine br (fun hc => ?_) (fun hc => ?_) <;> (try rw [hc]) <;> (conv => whnf)
  ·refine ⟨_, idx_int hj, ?_⟩
   conv => whnf
   refine ⟨trivial, ⟨_, congrArg (fun n => some (AV.int .i64 n)) ?_, .cl rfl⟩, ⟨_, rfl, .cl (by simp [AV.cl, cl_ints])⟩, ⟨_, rfl, .cl rfl⟩, ⟨_, inc_slot (by omega), .cl rfl⟩, trivial⟩
   rw [take_next hj]
   simp only [sumW, List.foldl_append]
   rfl
  ·exfalso
   have := of_decide_eq_false hc
   rw [len_ints] at this
   omega
 ·intro _
  conv => whnf
  refine br (fun hc => ?_) (fun hc => ?_) <;> (try rw [hc]) <;> (conv => whnf)
  ·exfalso
   have := of_decide_eq_true hc
   rw [len_ints] at this
   omega
  ·subst hQ
   rw [List.take_length]
end Ir
end Go.Proofs.Ytlndlbngfgaoeaa
set_option maxRecDepth 100000
set_option linter.unusedSimpArgs false
set_option linter.unusedVariables false
namespace Go.Proofs.Ytlndlbngfgaoeaa
open Go Ads
namespace Ir

def fillH (ts : List Int) (j : Nat) : Heap := ⟨1, .node .nil (some (.cells (ints (fillR ts j)) true 0)) .nil⟩

theorem each_c {F : Nat} {capt : List AV} {q : Tk → Int} (k k' : Nat) (l : List Tk) (a ts : List Int) (hl : l.length ≤ 1048576) (ha : a.length = l.length) (ht : ts.length = l.length) (hcap : clL capt = true)
  (hp : ∀ t, t ∈ l → PC fs ms F (tk t :: capt) (.int .i64 (q t))) (hts : ∀ (j : Nat) (h1 : j < l.length) (h2 : j < a.length) (h3 : j < ts.length), ts[j] = IntKind.i64.wrap (q l[j] * IntKind.i64.wrap (l[j].w + a[j]))) :
  PC fs ms f_demand_each [.fz k (tks l), .fz k' (ints a), .func (.func F) [] capt] (.fz 2 (ints ts)) := by
 refine ⟨by simp [clL, AV.cl, cl_tks, cl_ints, hcap], by simp [AV.cl, cl_ints], ?_⟩
 refine vd_start (af := C_demand_each) false rfl (Nat.le_of_ble_eq_true rfl) ?_
 generalize hQ : (fun (v : AV) (g : Heap) => Frz (fun _ => True) g v (.fz 2 (ints ts))) = Q
 conv => whnf
 refine ⟨_, _, by rw [len_tks]; exact mk_ints (by omega), ?_⟩
 conv => whnf
 refine vc_to 6 [(1, .fz k' (ints a)), (2, .func (.func F) [] capt), (7, .sl 0 0 l.length l.length false), (13, .fz k (tks l)), (14, .int .i64 (tks l).length), (15, .int .i64 ((0 : Nat) : Int))] 1 [(0, .cells (ints (fillR ts 0)) true 0)] id (by repeat' (first | exact trivial | refine renAt_sl rfl (by omega) ?_ | refine renAt_ptr rfl (by omega) ?_ | refine renAt_yield rfl (by omega) ?_ | refine renAt_cl rfl (by first | rfl | simp [clL, AV.cl, cl_ints, cl_tks, hcap]) ?_ | refine renAt_cl (inc_slot (by omega)) rfl ?_)) ⟨by omega, ⟨_, rfl, renB_ints (by rw [fill_zero, ht])⟩, trivial⟩ (by intro b c hb hc _; simp at hb hc; omega) (fun b hb => rfl) (Nat.zero_le _) ?_
 refine for_rowH 0 6 l.length (fun _ => True) (fun j => [(1, .fz k' (ints a)), (2, .func (.func F) [] capt), (7, .sl 0 0 l.length l.length false), (13, .fz k (tks l)), (14, .int .i64 (tks l).length), (15, .int .i64 (j : Nat))]) (fillH ts) ?_ ?_ trivial
 ·intro j hj _
  show vpC fs ms 0 false false _ _ ⟨1, .node .nil (some (.cells (ints (fillR ts j)) true 0)) .nil⟩ _
  conv => whnf
  refine br (fun hc => ?_) (fun hc => ?_) <;> (try rw [hc]) <;> (conv => whnf)
  ·refine ⟨_, idx_tk hj, ?_⟩
   conv => whnf
   refine vd_pure (hp l[j] (List.getElem_mem hj)) ?_
   conv => whnf
   refine ⟨_, idx_int (by omega), ?_⟩
   conv => whnf
   refine ⟨_, idx_sl hj, ?_⟩
   conv => whnf
   refine brT (by show (Nat.ble (j + 1) (ints (fillR ts j)).length && true) = true; rw [len_ints, len_fill ts (by omega), Bool.and_true]; exact Nat.ble_eq_true_of_le (by omega)) ?_
   conv => whnf
   refine ⟨winOk_of (by (conv => whnf); repeat' (first | exact trivial | (exact ⟨rfl, rfl, .inr ⟨_, _, rfl⟩⟩) | (refine ⟨rfl, rfl, .inl ⟨rfl, fun o ho => ?_⟩⟩; cases ho; first | rfl) | (exact ⟨rfl, .inr ⟨_, _, rfl⟩⟩) | (refine ⟨rfl, .inl ⟨rfl, fun i o hi ho => ?_⟩⟩; cases hi; cases ho; first | rfl) | (refine And.intro (fun hon => (Bool.false_ne_true hon).elim) ?_ <;> conv => whnf) | (refine And.intro (fun _ => ?_) ?_ <;> conv => whnf) | (refine And.intro ?_ ?_ <;> conv => whnf))), ?_⟩
   conv => whnf
   refine ⟨trivial, id, gc_hk (n := 1) (m := [(0, _)]) _ (by repeat' (first | exact trivial | refine renAt_sl rfl (by omega) ?_ | refine renAt_ptr rfl (by omega) ?_ | refine renAt_yield rfl (by omega) ?_ | refine renAt_cl rfl (by first | rfl | simp [clL, AV.cl, cl_ints, cl_tks, hcap]) ?_ | refine renAt_cl (inc_slot (by omega)) rfl ?_)) ⟨by omega, ⟨_, rfl, renB_ints (fill_put ts (by omega) (hts j hj (by omega) (by omega)).symm)⟩, trivial⟩ (by intro b c hb hc _; simp at hb hc; omega) (by intro b hb; omega) (by omega)⟩
  ·exfalso
   have := of_decide_eq_false hc
   rw [len_tks] at this
   omega
 ·intro _
  show vpC fs ms 0 false false _ _ ⟨1, .node .nil (some (.cells (ints (fillR ts l.length)) true 0)) .nil⟩ _
  conv => whnf
  refine br (fun hc => ?_) (fun hc => ?_) <;> (try rw [hc]) <;> (conv => whnf)
  ·exfalso
   have := of_decide_eq_true hc
   rw [len_tks] at this
   omega
  ·subst hQ
   rw [← ht, fill_end]
   exact .row (s := 1) trivial rfl (flat_ints ts).symm (size_ints ts) (by rw [len_ints, ht]) (Nat.le_refl _) (by omega) (fun _ => rfl) (fun _ => rfl) (cl_ints ts)
end Ir
end Go.Proofs.Ytlndlbngfgaoeaa
set_option maxRecDepth 100000
set_option linter.unusedSimpArgs false
set_option linter.unusedVariables false
namespace Go.Proofs.Ytlndlbngfgaoeaa
open Go Ads
namespace Ir

def askS (q : Tk → Int) (l : List Tk) (a : List Int) : List Int := List.zipWith (fun t m => IntKind.i64.wrap (q t * IntKind.i64.wrap (t.w + m))) l a
def dOf (l : List Tk) (a : List Int) (n : Int) : Int × Int := if demCheck l a = 0 ∧ 0 ≤ n ∧ n ≤ 1048576 then (sumW (askS (jobsS n) l a), 0) else (0, 2)
def pairI (p : Int × Int) : AV := .tup [.int .i64 p.1, .int .i64 p.2]

theorem demCheck_ok {l : List Tk} {a : List Int} (h : demCheck l a = 0) : a.any moreBad = false ∧ tasksOk l = true ∧ a.length = l.length := by
 unfold demCheck at h
 split at h
 ·assumption
 ·simp at h
theorem tasksOk_p {l : List Tk} (h : tasksOk l = true) {t : Tk} (ht : t ∈ l) : taskOk t = true ∧ 1 ≤ t.p := by
 simp only [tasksOk, Bool.and_eq_true, List.all_eq_true, decide_eq_true_eq] at h
 have : taskOk t = true := by first | exact h.1 t ht | exact h.2 t ht
 refine ⟨this, ?_⟩
 simp only [taskOk, decide_eq_true_eq] at this
 omega
theorem tasksOk_len {l : List Tk} (h : tasksOk l = true) : l.length ≤ 4 := by
 simp only [tasksOk, Bool.and_eq_true, decide_eq_true_eq] at h
 first | exact h.1 | exact h.2

theorem dof_c (k k' : Nat) (l : List Tk) (a : List Int) (n : Int) (hl : l.length < 2 ^ 62) (ha : a.length < 2 ^ 62) : PC fs ms f_demand_Of [.fz k (tks l), .fz k' (ints a), .int .i64 n] (pairI (dOf l a n)) := by
 refine pc_of (by simp [clL, AV.cl, cl_ints, cl_tks]) rfl ?_
 refine vd_begin (af := C_demand_Of) rfl (Nat.le_of_ble_eq_true rfl) ?_
 generalize hQ : (fun (v : AV) (_ : Heap) => v = pairI (dOf l a n)) = Q
 conv => whnf
 refine vc_seq false ?_
 conv => whnf
 refine vc_seq false ?_
 conv => whnf
 refine vd_pure (check_c k k' l a hl ha) ?_
 conv => whnf
 iterate 4 (all_goals (first | (refine br (fun hc => ?_) (fun hc => ?_) <;> (try rw [hc]) <;> (conv => whnf)) | skip))
 ·subst hQ; simp at hc; simp [dOf, hc, pairI]
 ·subst hQ; simp at hc; rw [dOf, if_neg (by omega)]; rfl
 ·subst hQ; simp at hc; rw [dOf, if_neg (by omega)]; rfl
 ·have h0 : demCheck l a = 0 := by rename_i h1 h2; simpa using h1
  obtain ⟨h9, h1, h2⟩ := demCheck_ok h0
  have h3 := tasksOk_len h1
  refine vc_frz [0] (i := 5) (v' := .fp [.int .i64 n] 0) rfl (.ptr' (by simp) rfl (.clean rfl)) ?_
  refine vpC_sound (z := false) ?_
  conv => whnf
  refine vd_pure (each_c (q := jobsS n) k k' l a (askS (jobsS n) l a) (by omega) h2 (by simp [askS, h2]) rfl (fun t ht => jobs_c n t (by have := (tasksOk_p h1 ht).2; omega)) (fun j _ _ _ => by simp [askS])) ?_
  conv => whnf
  refine vd_pure (dsum_c _ _ (by simp [askS]; omega)) ?_
  conv => whnf
  subst hQ
  rename_i c1 c2
  simp at hc c2
  rw [dOf, if_pos (by omega)]
  rfl
end Ir
end Go.Proofs.Ytlndlbngfgaoeaa
set_option maxRecDepth 100000
set_option linter.unusedSimpArgs false
set_option linter.unusedVariables false
namespace Go.Proofs.Ytlndlbngfgaoeaa
open Go Ads
namespace Ir

theorem sumW_next {l : List Int} {j : Nat} (h : j < l.length) : sumW (l.take (j + 1)) = IntKind.i64.wrap (sumW (l.take j) + l[j]) := by
 rw [take_next h, sumW, List.foldl_append]
 rfl
theorem sumW_in (l : List Int) : IntKind.i64.wrap (sumW l) = sumW l := by
 rcases List.eq_nil_or_concat l with h | ⟨m, x, h⟩
 ·subst h; rfl
 ·subst h
  rw [List.concat_eq_append, sumW, List.foldl_append]
  show IntKind.i64.wrap (IntKind.i64.wrap (_ + x)) = IntKind.i64.wrap (_ + x)
  exact wrap_wrap _

end Ir
end Go.Proofs.Ytlndlbngfgaoeaa
set_option maxRecDepth 100000
set_option linter.unusedSimpArgs false
set_option linter.unusedVariables false
namespace Go.Proofs.Ytlndlbngfgaoeaa
open Go Ads
namespace Ir

def useS (n : Int) (t : Tk) : Int := IntKind.i64.wrap (n.tdiv t.p)
def oddT (n : Int) (t : Tk) : Bool := n.tmod t.p != 0
def dUse (l : List Tk) (a : List Int) (n : Int) : Int × Int := if demCheck l a = 0 ∧ 1 ≤ n ∧ n ≤ 1048576 ∧ l.any (oddT n) = false then (sumW (askS (useS n) l a), 0) else (0, 2)

theorem use1_c (n : Int) (t : Tk) (hp : t.p ≠ 0) : PC fs ms f_demand_Use_1 [tk t, .fp [.int .i64 n] 0] (.bool (oddT n t)) := by
 refine pc_of rfl rfl ?_
 refine vd_start (af := C_demand_Use_1) false rfl (Nat.le_of_ble_eq_true rfl) ?_
 generalize hQ : (fun (v : AV) (_ : Heap) => v = .bool (oddT n t)) = Q
 conv => whnf
 refine ⟨_, rem_val _ _ hp, ?_⟩
 conv => whnf
 subst hQ
 rfl
theorem use2_c (n : Int) (t : Tk) (hp : t.p ≠ 0) : PC fs ms f_demand_Use_2 [tk t, .fp [.int .i64 n] 0] (.int .i64 (useS n t)) := by
 refine pc_of rfl rfl ?_
 refine vd_start (af := C_demand_Use_2) false rfl (Nat.le_of_ble_eq_true rfl) ?_
 generalize hQ : (fun (v : AV) (_ : Heap) => v = .int .i64 (useS n t)) = Q
 conv => whnf
 refine ⟨_, quo_val _ _ hp, ?_⟩
 conv => whnf
 subst hQ
 rfl

theorem duse_c (k k' : Nat) (l : List Tk) (a : List Int) (n : Int) (hl : l.length < 2 ^ 62) (ha : a.length < 2 ^ 62) : PC fs ms f_demand_Use [.fz k (tks l), .fz k' (ints a), .int .i64 n] (pairI (dUse l a n)) := by
 refine pc_of (by simp [clL, AV.cl, cl_ints, cl_tks]) rfl ?_
 refine vd_begin (af := C_demand_Use) rfl (Nat.le_of_ble_eq_true rfl) ?_
 generalize hQ : (fun (v : AV) (_ : Heap) => v = pairI (dUse l a n)) = Q
 conv => whnf
 refine vc_seq false ?_
 conv => whnf
 refine vc_seq false ?_
 conv => whnf
 refine vd_pure (check_c k k' l a hl ha) ?_
 conv => whnf
 iterate 4 (all_goals (first | (refine br (fun hc => ?_) (fun hc => ?_) <;> (try rw [hc]) <;> (conv => whnf)) | skip))
 ·subst hQ; simp at hc; simp [dUse, hc, pairI]
 ·subst hQ; simp at hc; rw [dUse, if_neg (by omega)]; rfl
 ·subst hQ; simp at hc; rw [dUse, if_neg (by omega)]; rfl
 ·rename_i c0 c1
  have h0 : demCheck l a = 0 := by simpa using c0
  obtain ⟨h9, h1, h2⟩ := demCheck_ok h0
  have h3 := tasksOk_len h1
  simp at hc c1
  refine vc_frz [0] (i := 5) (v' := .fp [.int .i64 n] 0) rfl (.ptr' (by simp) rfl (.clean rfl)) ?_
  refine vpC_sound (z := false) ?_
  conv => whnf
  refine vd_pure (cfT_c (p := oddT n) k l hl rfl (fun t ht => use1_c n t (by have := (tasksOk_p h1 ht).2; omega))) ?_
  conv => whnf
  refine br (fun hc2 => ?_) (fun hc2 => ?_) <;> rw [hc2] <;> conv => whnf
  ·subst hQ
   rw [dUse, if_neg (by rw [hc2]; simp)]
   rfl
  ·refine vd_pure (each_c (q := useS n) k k' l a (askS (useS n) l a) (by omega) h2 (by simp [askS, h2]) rfl (fun t ht => use2_c n t (by have := (tasksOk_p h1 ht).2; omega)) (fun j _ _ _ => by simp [askS])) ?_
   conv => whnf
   refine vd_pure (dsum_c _ _ (by simp [askS]; omega)) ?_
   conv => whnf
   subst hQ
   rw [dUse, if_pos ⟨h0, by omega, by omega, hc2⟩]
   rfl

theorem any_take {α : Type} {l : List α} {p : α → Bool} {j : Nat} (hj : j < l.length) (h : p l[j] = true) : l.any p = true := List.any_eq_true.2 ⟨l[j], List.getElem_mem hj, h⟩
theorem any_next {α : Type} {l : List α} {p : α → Bool} {j : Nat} (hj : j < l.length) (hi : (l.take j).any p = false) (h : p l[j] = false) : (l.take (j + 1)).any p = false := by
 rw [take_next hj, List.any_append, hi]; simp [h]

end Ir
end Go.Proofs.Ytlndlbngfgaoeaa
set_option maxRecDepth 100000
set_option linter.unusedSimpArgs false
set_option linter.unusedVariables false
namespace Go.Proofs.Ytlndlbngfgaoeaa
open Go Ads
namespace Ir

theorem lcm_step {a n : Nat} (ha : 1 ≤ a) (ha2 : a ≤ 1048576) (hn : 1 ≤ n) (hn2 : n ≤ 1048576) : lcmStep ((a : Int), 0) n = (((Nat.lcm a n : Nat) : Int), 0) := by
 have ta : isTick (a : Int) = true := (isTick_iff _).2 (by omega)
 have tn : isTick (n : Int) = true := (isTick_iff _).2 (by omega)
 have hL : Nat.lcm a n = a * (n / Nat.gcd a n) := by
  rw [Nat.lcm, Nat.mul_div_assoc _ (Nat.gcd_dvd_right a n)]
 have g2 : gcdS a n = (((Nat.gcd a n : Nat) : Int), 0) := by simp [gcdS, ta, tn]
 have hq : (n : Int).tdiv (Nat.gcd a n : Nat) = ((n / Nat.gcd a n : Nat) : Int) := by rw [Int.ofNat_tdiv]
 have hle : n / Nat.gcd a n ≤ 1048576 := by have := Nat.div_le_self n (Nat.gcd a n); omega
 have tq : isTick ((n / Nat.gcd a n : Nat) : Int) = true := (isTick_iff _).2 (by generalize n / Nat.gcd a n = q at *; omega)
 have hmul : (a : Int) * ((n / Nat.gcd a n : Nat) : Int) = ((Nat.lcm a n : Nat) : Int) := by rw [hL]; simp
 have hb : Nat.lcm a n ≤ 1048576 * 1048576 := by rw [hL]; exact Nat.mul_le_mul ha2 hle
 simp only [lcmStep, if_true, g2, hq, mulS, ta, tq, Bool.and_self, hmul]
 rw [if_neg (by omega)]

theorem lcm_two {a n : Nat} (ha : 1 ≤ a) (ha2 : a ≤ 4096) (hn : 1 ≤ n) (hn2 : n ≤ 64) : lcmS 4096 [(a : Int), (n : Int)] = (if Nat.lcm a n ≤ 4096 then (((Nat.lcm a n : Nat) : Int), (0 : Int)) else (0, 10)) := by
 have ta : isTick (a : Int) = true := (isTick_iff _).2 (by omega)
 have tn : isTick (n : Int) = true := (isTick_iff _).2 (by omega)
 have f : [(a : Int), (n : Int)].foldl lcmStep (1, 0) = (((Nat.lcm a n : Nat) : Int), 0) := by
  have h1 : lcmStep (1, 0) (a : Int) = ((a : Int), 0) := by
   have := lcm_step (a := 1) (n := a) (by omega) (by omega) ha (by omega)
   rwa [Nat.lcm_one_left] at this
  simp only [List.foldl_cons, List.foldl_nil, h1]
  exact lcm_step ha (by omega) hn (by omega)
 have hc : (isTick 4096 && ([(a : Int), (n : Int)].all isTick && ![(a : Int), (n : Int)].contains 0)) = true := by
  have e1 : isTick 4096 = true := rfl
  simp [e1, ta, tn]
  omega
 have hb : Nat.lcm a n ≤ 1048576 := Nat.le_trans (Nat.le_of_dvd (Nat.mul_pos ha hn) (Nat.lcm_dvd_mul a n)) (Nat.le_trans (Nat.mul_le_mul ha2 hn2) (by decide))
 simp only [lcmS, f, hc, if_true]
 by_cases h : Nat.lcm a n ≤ 4096
 ·rw [if_neg (by rintro ⟨_, x⟩; omega), toldS, if_pos rfl, if_neg (by omega), if_pos h]
 ·rw [if_pos ⟨trivial, by omega⟩, toldS, if_neg (by decide), if_neg h]

def perN (l : List Tk) : List Nat := l.map (·.p.toNat)
def hypN (l : List Tk) (n : Nat) : Nat := (perN l).foldl Nat.lcm n
def hypS (l : List Tk) (n : Int) : Int × Int := if tasksOk l = true ∧ 1 ≤ n ∧ n ≤ 64 then (if hypN l n.toNat ≤ 4096 then ((hypN l n.toNat : Nat), 0) else (0, 5)) else (0, 2)

theorem hyp_next {l : List Tk} {j : Nat} (hj : j < l.length) (n : Nat) : hypN (l.take (j + 1)) n = Nat.lcm (hypN (l.take j) n) l[j].p.toNat := by
 simp only [hypN, perN]; rw [take_next hj]; simp only [List.map_append, List.foldl_append]; rfl
theorem hyp_cons (t : Tk) (l : List Tk) (n : Nat) : hypN (t :: l) n = hypN l (Nat.lcm n t.p.toNat) := rfl
theorem hyp_dvd (l : List Tk) : ∀ (n m : Nat), hypN l n ∣ m ↔ n ∣ m ∧ ∀ t, t ∈ l → t.p.toNat ∣ m := by
 induction l with
 | nil => intro n m; simp [hypN, perN]
 | cons t l ih =>
  intro n m
  rw [hyp_cons, ih, Nat.lcm_dvd_iff]
  constructor
  ·rintro ⟨⟨x, y⟩, z⟩
   exact ⟨x, fun u hu => by rcases List.mem_cons.1 hu with h | h; exact h ▸ y; exact z u h⟩
  ·rintro ⟨x, y⟩
   exact ⟨⟨x, y t List.mem_cons_self⟩, fun u hu => y u (List.mem_cons_of_mem _ hu)⟩
theorem hyp_pos {l : List Tk} (h : ∀ t, t ∈ l → 1 ≤ t.p) : ∀ {n : Nat}, 1 ≤ n → 1 ≤ hypN l n := by
 induction l with
 | nil => intro n hn; exact hn
 | cons t l ih =>
  intro n hn
  rw [hyp_cons]
  exact ih (fun u hu => h u (List.mem_cons_of_mem _ hu)) (Nat.lcm_pos hn (by have := h t List.mem_cons_self; omega))
theorem hyp_grow {l : List Tk} (h : ∀ t, t ∈ l → 1 ≤ t.p) {n : Nat} (hn : 1 ≤ n) (j : Nat) : hypN (l.take j) n ≤ hypN l n := by
 refine Nat.le_of_dvd (hyp_pos h hn) ?_
 rw [hyp_dvd]
 have := (hyp_dvd l n (hypN l n)).1 (Nat.dvd_refl _)
 exact ⟨this.1, fun t ht => this.2 t (List.mem_of_mem_take ht)⟩

theorem dhyper_c (k : Nat) (l : List Tk) (n : Int) (hl : l.length < 2 ^ 62) : PC fs ms f_demand_Hyper [.fz k (tks l), .int .i64 n] (pairI (hypS l n)) := by
 refine pc_of (by simp [clL, AV.cl, cl_ints, cl_tks]) rfl ?_
 refine vd_start (af := C_demand_Hyper) false rfl (Nat.le_of_ble_eq_true rfl) ?_
 generalize hQ : (fun (v : AV) (_ : Heap) => v = pairI (hypS l n)) = Q
 conv => whnf
 refine vd_pure (all_c k l hl) ?_
 conv => whnf
 iterate 4 (all_goals (first | (refine br (fun hc => ?_) (fun hc => ?_) <;> (try rw [hc]) <;> (conv => whnf)) | skip))
 ·subst hQ; rw [hypS, if_neg (by simp at hc; simp [hc])]; rfl
 ·subst hQ; simp at hc; rw [hypS, if_neg (by omega)]; rfl
 ·subst hQ; simp at hc; rw [hypS, if_neg (by omega)]; rfl
 rename_i c0 c1
 have h1 : tasksOk l = true := by simpa using c0
 simp at hc c1
 obtain ⟨N, rfl⟩ := Int.eq_ofNat_of_zero_le (show 0 ≤ n by omega)
 have hps : ∀ t, t ∈ l → 1 ≤ t.p := fun t ht => (tasksOk_p h1 ht).2
 have h64 : ∀ t, t ∈ l → t.p ≤ 64 := fun t ht => by
  have := (tasksOk_p h1 ht).1
  simp only [taskOk, decide_eq_true_eq] at this
  omega
 refine vc_to0 6 [(6, .int .i64 ((hypN (l.take 0) N : Nat) : Int)), (23, .fz k (tks l)), (24, .int .i64 (tks l).length), (25, .int .i64 ((0 : Nat) : Int))] (by repeat' (first | exact trivial | refine renAt_sl rfl (by omega) ?_ | refine renAt_ptr rfl (by omega) ?_ | refine renAt_yield rfl (by omega) ?_ | refine renAt_cl rfl (by first | rfl | simp [clL, AV.cl, cl_ints, cl_tks]) ?_ | refine renAt_cl (inc_slot (by omega)) rfl ?_)) ?_
 refine for_row 6 l.length (fun j => hypN (l.take j) N ≤ 4096) (fun j => [(6, .int .i64 ((hypN (l.take j) N : Nat) : Int)), (23, .fz k (tks l)), (24, .int .i64 (tks l).length), (25, .int .i64 (j : Nat))]) ?_ ?_ (by show N ≤ 4096; omega)
 ·intro j hj hi
  have hm := List.getElem_mem hj
  have p1 := hps _ hm
  have p2 := h64 _ hm
  obtain ⟨p, hp⟩ := Int.eq_ofNat_of_zero_le (show 0 ≤ l[j].p by omega)
  have hN := hyp_next hj N
  have hpos : 1 ≤ hypN (l.take j) N := hyp_pos (fun t ht => hps t (List.mem_of_mem_take ht)) (by omega)
  rw [hp, show ((p : Int)).toNat = p from rfl] at hN
  conv => whnf
  refine br (fun hc => ?_) (fun hc => ?_) <;> (try rw [hc]) <;> (conv => whnf)
  ·refine ⟨_, idx_tk hj, ?_⟩
   conv => whnf
   refine vd_view (lcm_c 4096 2 [((hypN (l.take j) N : Nat) : Int), l[j].p] (by simp)) rfl (.cons (.clean rfl) (.cons (.row (s := 1) trivial rfl rfl rfl rfl (Nat.le_refl _) (by omega) (fun _ => rfl) (fun _ => rfl) rfl) .nil)) ?_
   rw [hp, lcm_two hpos hi (by omega) (by omega), ← hN]
   by_cases hle : hypN (l.take (j + 1)) N ≤ 4096
   ·rw [if_pos hle]
    conv => whnf
    exact ⟨hle, (by repeat' (first | exact trivial | refine renAt_sl rfl (by omega) ?_ | refine renAt_ptr rfl (by omega) ?_ | refine renAt_yield rfl (by omega) ?_ | refine renAt_cl rfl (by first | rfl | simp [clL, AV.cl, cl_ints, cl_tks]) ?_ | refine renAt_cl (inc_slot (by omega)) rfl ?_))⟩
   ·rw [if_neg hle]
    conv => whnf
    subst hQ
    have := hyp_grow hps (n := N) (by omega) (j + 1)
    rw [hypS, if_pos ⟨h1, by omega, by omega⟩, show ((N : Int)).toNat = N from rfl, if_neg (by omega)]
    rfl
  ·exfalso
   have := of_decide_eq_false hc
   simp only [len_tks] at this
   omega
 ·intro hi
  conv => whnf
  refine br (fun hc => ?_) (fun hc => ?_) <;> (try rw [hc]) <;> (conv => whnf)
  ·exfalso
   have := of_decide_eq_true hc
   simp only [len_tks] at this
   omega
  ·subst hQ
   rw [List.take_length] at *
   rw [hypS, if_pos ⟨h1, by omega, by omega⟩, show ((N : Int)).toNat = N from rfl, if_pos hi]
   rfl
end Ir
end Go.Proofs.Ytlndlbngfgaoeaa
set_option maxRecDepth 100000
set_option linter.unusedSimpArgs false
set_option linter.unusedVariables false
namespace Go.Proofs.Ytlndlbngfgaoeaa
open Go Ads
namespace Ir

/- What is asked for, without ends of the numbers. -/
theorem sumW_from : ∀ (l : List Int) (s : Int), (∀ x, x ∈ l → 0 ≤ x ∧ x ≤ 4503599627370496) → 0 ≤ s → s + l.length * 4503599627370496 ≤ 4611686018427387904 → l.foldl (fun s x => IntKind.i64.wrap (s + x)) s = s + l.sum
 | [], s, _, _, _ => by simp
 | x :: l, s, h, h0, h1 => by
  have hx := h x List.mem_cons_self
  simp only [List.length_cons] at h1
  have e : IntKind.i64.wrap (s + x) = s + x := IntWalk.i64_in _ (by omega)
  rw [List.foldl_cons, e, sumW_from l (s + x) (fun y hy => h y (List.mem_cons_of_mem _ hy)) (by omega) (by omega), List.sum_cons]
  omega
theorem sumW_plain {l : List Int} (h : ∀ x, x ∈ l → 0 ≤ x ∧ x ≤ 4503599627370496) (hl : l.length ≤ 1024) : sumW l = l.sum := by
 rw [sumW, sumW_from l 0 h (by omega) (by omega)]; omega

def OkT (t : Tk) : Prop := 1 ≤ t.w ∧ t.w ≤ t.d ∧ t.d ≤ t.p ∧ t.p ≤ 64
def askP (q : Tk → Int) (l : List Tk) (a : List Int) : List Int := List.zipWith (fun t m => q t * (t.w + m)) l a

theorem ask_plain {q : Tk → Int} : ∀ (l : List Tk) (a : List Int), (∀ t, t ∈ l → OkT t ∧ 0 ≤ q t ∧ q t ≤ 1073741824) → (∀ m, m ∈ a → 0 ≤ m ∧ m ≤ 32768) → askS q l a = askP q l a ∧ ∀ x, x ∈ askP q l a → 0 ≤ x ∧ x ≤ 4503599627370496
 | [], a, _, _ => by simp [askS, askP]
 | t :: l, [], _, _ => by simp [askS, askP]
 | t :: l, m :: a, h1, h2 => by
  obtain ⟨o, q1, q2⟩ := h1 t List.mem_cons_self
  obtain ⟨m1, m2⟩ := h2 m List.mem_cons_self
  obtain ⟨i1, i2⟩ := ask_plain l a (fun t ht => h1 t (List.mem_cons_of_mem _ ht)) (fun m hm => h2 m (List.mem_cons_of_mem _ hm))
  obtain ⟨o1, o2, o3, o4⟩ := o
  have e1 : IntKind.i64.wrap (t.w + m) = t.w + m := IntWalk.i64_in _ (by omega)
  have b1 : 0 ≤ q t * (t.w + m) := Int.mul_nonneg q1 (by omega)
  have b2 : q t * (t.w + m) ≤ 1073741824 * 33000 := Int.mul_le_mul q2 (by omega) (by omega) (by omega)
  have e2 : IntKind.i64.wrap (q t * (t.w + m)) = q t * (t.w + m) := IntWalk.i64_in _ (by omega)
  constructor
  ·show IntKind.i64.wrap (q t * IntKind.i64.wrap (t.w + m)) :: askS q l a = q t * (t.w + m) :: askP q l a
   rw [e1, e2, i1]
  ·intro x hx
   rcases List.mem_cons.1 hx with h | h
   ·have h' : x = q t * (t.w + m) := h
    rw [h']; omega
   ·exact i2 x h

theorem sum_range : ∀ (l : List Int), (∀ x, x ∈ l → 0 ≤ x ∧ x ≤ 4503599627370496) → 0 ≤ l.sum ∧ l.sum ≤ l.length * 4503599627370496
 | [], _ => by simp
 | x :: l, h => by
  have hx := h x List.mem_cons_self
  have := sum_range l (fun y hy => h y (List.mem_cons_of_mem _ hy))
  simp only [List.sum_cons, List.length_cons]
  omega
theorem sum_le {q : Tk → Int} {l : List Tk} {a : List Int} (h1 : ∀ t, t ∈ l → OkT t ∧ 0 ≤ q t ∧ q t ≤ 1073741824) (h2 : ∀ m, m ∈ a → 0 ≤ m ∧ m ≤ 32768) (hl : l.length ≤ 1024) : 0 ≤ (askP q l a).sum ∧ (askP q l a).sum ≤ 4611686018427387904 := by
 have := sum_range _ (ask_plain l a h1 h2).2
 have h3 : (askP q l a).length ≤ 1024 := by simp [askP]; omega
 omega

theorem sum_ask {q : Tk → Int} {l : List Tk} {a : List Int} (h1 : ∀ t, t ∈ l → OkT t ∧ 0 ≤ q t ∧ q t ≤ 1073741824) (h2 : ∀ m, m ∈ a → 0 ≤ m ∧ m ≤ 32768) (hl : l.length ≤ 1024) : sumW (askS q l a) = (askP q l a).sum := by
 obtain ⟨i1, i2⟩ := ask_plain l a h1 h2
 rw [i1, sumW_plain i2 (by simp [askP]; omega)]

def jobsP (n : Int) (t : Tk) : Int := if n < t.d then 0 else 1 + (n - t.d) / t.p
theorem jobs_plain {n : Int} {t : Tk} (h : OkT t) (h0 : 0 ≤ n) (h1 : n ≤ 1048576) : jobsS n t = jobsP n t ∧ 0 ≤ jobsP n t ∧ jobsP n t ≤ 1048577 := by
 obtain ⟨o1, o2, o3, o4⟩ := h
 unfold jobsS jobsP
 split
 ·simp
 ·rename_i hn
  have e1 : IntKind.i64.wrap (n - t.d) = n - t.d := IntWalk.i64_in _ (by omega)
  have e2 : (n - t.d).tdiv t.p = (n - t.d) / t.p := Int.tdiv_eq_ediv_of_nonneg (by omega)
  have b1 : 0 ≤ (n - t.d) / t.p := Int.ediv_nonneg (by omega) (by omega)
  have b2 : (n - t.d) / t.p ≤ n - t.d := Int.ediv_le_self _ (by omega)
  rw [e1, e2]
  generalize (n - t.d) / t.p = z at *
  rw [IntWalk.i64_in z (by omega), IntWalk.i64_in _ (by omega)]
  omega
theorem use_plain {n : Int} {t : Tk} (h : OkT t) (h0 : 0 ≤ n) (h1 : n ≤ 1048576) : useS n t = n / t.p ∧ 0 ≤ n / t.p ∧ n / t.p ≤ 1048576 := by
 obtain ⟨o1, o2, o3, o4⟩ := h
 have e2 : n.tdiv t.p = n / t.p := Int.tdiv_eq_ediv_of_nonneg h0
 have b1 : 0 ≤ n / t.p := Int.ediv_nonneg (by omega) (by omega)
 have b2 : n / t.p ≤ n := Int.ediv_le_self _ h0
 rw [useS, e2]
 generalize n / t.p = z at *
 rw [IntWalk.i64_in z (by omega)]
 omega

theorem jobs_hyper {n h : Int} {t : Tk} (o : OkT t) (hn : 64 ≤ n) (hd : t.p ∣ h) (hh : 0 ≤ h) : jobsP (n + h) t = jobsP n t + h / t.p := by
 obtain ⟨o1, o2, o3, o4⟩ := o
 obtain ⟨c, rfl⟩ := hd
 rw [jobsP, jobsP, if_neg (by omega), if_neg (by omega), Int.mul_ediv_cancel_left c (by omega), show n + t.p * c - t.d = n - t.d + t.p * c by omega, Int.add_mul_ediv_left _ _ (by omega)]
 omega
theorem jobs_mono {n m : Int} {t : Tk} (o : OkT t) (h0 : 0 ≤ n) (h : n ≤ m) : jobsP n t ≤ jobsP m t := by
 obtain ⟨o1, o2, o3, o4⟩ := o
 unfold jobsP
 split
 ·split
  ·omega
  ·have := Int.ediv_nonneg (a := m - t.d) (b := t.p) (by omega) (by omega)
   omega
 ·rw [if_neg (by omega)]
  have := Int.ediv_le_ediv (a := n - t.d) (b := m - t.d) (c := t.p) (by omega) (by omega)
  omega

theorem ask_cong {q r : Tk → Int} : ∀ (l : List Tk) (a : List Int), (∀ t, t ∈ l → q t = r t) → askP q l a = askP r l a
 | [], a, _ => by simp [askP]
 | t :: l, [], _ => by simp [askP]
 | t :: l, m :: a, h => by
  show q t * (t.w + m) :: askP q l a = r t * (t.w + m) :: askP r l a
  rw [h t List.mem_cons_self, ask_cong l a fun u hu => h u (List.mem_cons_of_mem _ hu)]
theorem ask_add {q r s : Tk → Int} : ∀ (l : List Tk) (a : List Int), (∀ t, t ∈ l → q t = r t + s t) → (askP q l a).sum = (askP r l a).sum + (askP s l a).sum
 | [], a, _ => by simp [askP]
 | t :: l, [], _ => by simp [askP]
 | t :: l, m :: a, h => by
  show (q t * (t.w + m) :: askP q l a).sum = (r t * (t.w + m) :: askP r l a).sum + (s t * (t.w + m) :: askP s l a).sum
  have := ask_add (q := q) (r := r) (s := s) l a fun u hu => h u (List.mem_cons_of_mem _ hu)
  rw [List.sum_cons, List.sum_cons, List.sum_cons, h t List.mem_cons_self, this, Int.add_mul]
  omega
theorem ask_mono {q r : Tk → Int} : ∀ (l : List Tk) (a : List Int), (∀ t, t ∈ l → OkT t ∧ q t ≤ r t) → (∀ m, m ∈ a → 0 ≤ m) → (askP q l a).sum ≤ (askP r l a).sum
 | [], a, _, _ => by simp [askP]
 | t :: l, [], _, _ => by simp [askP]
 | t :: l, m :: a, h, h2 => by
  show (q t * (t.w + m) :: askP q l a).sum ≤ (r t * (t.w + m) :: askP r l a).sum
  have := ask_mono (q := q) (r := r) l a (fun u hu => h u (List.mem_cons_of_mem _ hu)) (fun m hm => h2 m (List.mem_cons_of_mem _ hm))
  obtain ⟨⟨o1, o2, o3, o4⟩, hq⟩ := h t List.mem_cons_self
  have hm := h2 m List.mem_cons_self
  have := Int.mul_le_mul_of_nonneg_right hq (show 0 ≤ t.w + m by omega)
  rw [List.sum_cons, List.sum_cons]
  omega

theorem tasksOk_of {l : List Tk} (h : ∀ t, t ∈ l → OkT t) (hl : l.length ≤ 4) : tasksOk l = true := by
 have : l.all taskOk = true := by
  rw [List.all_eq_true]
  intro t ht
  have := h t ht
  simp only [OkT] at this
  simp only [taskOk, decide_eq_true_eq]
  omega
 simp [tasksOk, this, hl]
theorem demCheck_of {l : List Tk} {a : List Int} (h : ∀ t, t ∈ l → OkT t) (hl : l.length ≤ 4) (ha : ∀ m, m ∈ a → 0 ≤ m ∧ m ≤ 32768) (hla : a.length = l.length) : demCheck l a = 0 := by
 have : a.any moreBad = false := by
  rw [List.any_eq_false]
  intro m hm
  have := ha m hm
  simp only [moreBad, decide_eq_true_eq]
  simp
  omega
 rw [demCheck, if_pos ⟨this, tasksOk_of h hl, hla⟩]

theorem dOf_ok {l : List Tk} {a : List Int} {n : Int} (h : ∀ t, t ∈ l → OkT t) (hl : l.length ≤ 4) (ha : ∀ m, m ∈ a → 0 ≤ m ∧ m ≤ 32768) (hla : a.length = l.length) (h0 : 0 ≤ n) (h1 : n ≤ 1048576) :
  dOf l a n = ((askP (jobsP n) l a).sum, 0) := by
 rw [dOf, if_pos ⟨demCheck_of h hl ha hla, h0, h1⟩]
 have hq : ∀ t, t ∈ l → jobsS n t = jobsP n t := fun t ht => (jobs_plain (h t ht) h0 h1).1
 rw [sum_ask (fun t ht => ⟨h t ht, by have := jobs_plain (h t ht) h0 h1; rw [this.1]; omega⟩) ha (by omega), ask_cong l a hq]
theorem hyp_le {l : List Tk} {n : Int} (h : ∀ t, t ∈ l → OkT t) (hl : l.length ≤ 4) (h1 : 1 ≤ n) (h2 : n ≤ 64) : (hypS l n = (((hypN l n.toNat : Nat) : Int), 0) ∧ hypN l n.toNat ≤ 4096 ∧ 1 ≤ hypN l n.toNat) ∨ hypS l n = (0, 5) := by
 rw [hypS, if_pos ⟨tasksOk_of h hl, h1, h2⟩]
 by_cases h4 : hypN l n.toNat ≤ 4096
 ·rw [if_pos h4]
  exact .inl ⟨rfl, h4, hyp_pos (fun t ht => by have := h t ht; simp only [OkT] at this; omega) (by omega)⟩
 ·rw [if_neg h4]; exact .inr rfl

theorem dUse_ok {l : List Tk} {a : List Int} {n : Int} (h : ∀ t, t ∈ l → OkT t) (hl : l.length ≤ 4) (ha : ∀ m, m ∈ a → 0 ≤ m ∧ m ≤ 32768) (hla : a.length = l.length) (h0 : 1 ≤ n) (h1 : n ≤ 1048576) (hd : ∀ t, t ∈ l → t.p ∣ n) :
  dUse l a n = ((askP (fun t => n / t.p) l a).sum, 0) := by
 have hodd : l.any (oddT n) = false := by
  rw [List.any_eq_false]
  intro t ht
  have : n.tmod t.p = 0 := Int.tmod_eq_zero_of_dvd (hd t ht)
  simp [oddT, this]
 rw [dUse, if_pos ⟨demCheck_of h hl ha hla, h0, h1, hodd⟩]
 have hq : ∀ t, t ∈ l → useS n t = n / t.p := fun t ht => (use_plain (h t ht) (by omega) h1).1
 rw [sum_ask (fun t ht => ⟨h t ht, by have := use_plain (h t ht) (by omega) h1; rw [this.1]; omega⟩) ha (by omega), ask_cong l a hq]

end Ir
end Go.Proofs.Ytlndlbngfgaoeaa
