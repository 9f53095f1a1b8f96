/-
  Layer 1: Lcm. Demand: the tasks. Demand: rows of tasks. Demand: ContainsFunc over numbers and tasks. Demand: what is refused. Demand: what the document's Check refuses. Demand: jobs of a task; each; sum. Demand: each. Demand: Of. Demand: the document's Of. Demand: Use of both. Demand: Hyper of the program. Demand: what is asked for, without ends of the numbers. Judge: a partition's notes. Judge: in how many ticks a partition ran. Rows that grow, in any heap. Many blocks at once: each has a role.
-/
import Derived.Test.YtnlcabhfkpafmaaGreatIrLink
import Derived.Test.YtnlcabhfkpafmaaGreatZA
import Derived.Test.YtnlcabhfkpafmaaGreatVsLoop
set_option maxRecDepth 100000
set_option linter.unusedSimpArgs false
set_option linter.unusedVariables false
set_option smartUnfolding false
namespace Go.Proofs.YtnlcabhfkpafmaaGreat
open Go Ads
namespace Ir

structure Tk where
 p : Int
 d : Int
 w : Int
 a : Int
 b : Int
 c : Int
 e : Int
 f : Int
def tk (t : Tk) : AV := .agg [.int .i64 t.p, .int .i64 t.d, .int .i64 t.w, .int .i64 t.a, .int .i64 t.b, .int .i64 t.c, .int .i64 t.e, .int .i64 t.f]
def tks (l : List Tk) : List AV := l.map tk

def taskOk (t : Tk) : Bool := decide (1 ≤ t.w ∧ t.w ≤ t.d ∧ t.d ≤ t.p ∧ t.p ≤ 64)

theorem may_c (t : Tk) : PC fs ms f_demand_may [tk t] (.bool (taskOk t)) := by
 refine pc_of rfl rfl ?_
 refine vd_start (af := C_demand_may) false rfl (yB rfl) ?_
 generalize hQ : (fun (v : AV) (_ : Heap) => v = .bool (taskOk t)) = Q
 conv => whnf
 iterate 8 (all_goals (first | (refine br (fun hc => ?_) (fun hc => ?_) <;> (try rw [hc]) <;> (conv => whnf)) | skip))
 all_goals (subst hQ; simp only [taskOk]; refine congrArg AV.bool ?_; rw [Bool.eq_iff_iff]; simp at *; omega)
theorem cl_tks (l : List Tk) : clL (tks l) = true := clL_map (enc := tk) (fun _ => rfl) l
theorem len_tks (l : List Tk) : (tks l).length = l.length := List.length_map ..
theorem idx_tk {l : List Tk} {j k : Nat} (hj : j < l.length) : pV (.iaddrS 8) [.fz k (tks l), .int .i64 (j : Nat)] = some (.fp (tk l[j]).cells 0) := idx_map (enc := tk) hj rfl

def tasksOk (l : List Tk) : Bool := l.all taskOk && decide (l.length ≤ 4)

set_option smartUnfolding true in
theorem ixfI_c {F : Nat} {capt : List AV} {p : Int → Bool} (k : Nat) (l : List Int) (hl : l.length < 2 ^ 62) (hcap : clL capt = true) (hp : ∀ m, PC fs ms F (.int .i64 m :: capt) (.bool (p m))) :
  ∃ n : Int, PC fs ms f_slices_IndexFunc_int_int [.fz k (ints l), .func (.func F) [] capt] (.int .i64 n) ∧ decide (n ≥ 0) = l.any p := by
 by_cases ha : l.any p = true
 ·obtain ⟨j, hj, h1, h2⟩ := least_get (l := l) (p := fun m => p m = true) (by simpa using ha)
  refine ⟨(j : Nat), ?_, by rw [ha]; simp⟩
  refine pc_of (by simp [clL, AV.cl, cl_ints, hcap]) rfl ?_
  refine vd_start (af := C_slices_IndexFunc_int_int) false rfl (yB rfl) ?_
  generalize hQ : (fun (v : AV) (_ : Heap) => v = .int .i64 (j : Nat)) = Q
  set_option smartUnfolding false in conv => whnf
  refine vc_to0 5 [(0, .fz k (ints l)), (1, .func (.func F) [] capt), (7, .int .i64 (ints l).length), (8, .int .i64 ((0 : Nat) : Int))] (by repeat' (first | exact trivial | refine renAt_sl rfl (by omega) ?_ | refine renAt_ptr rfl (by omega) ?_ | refine renAt_yield rfl (by omega) ?_ | refine renAt_cl rfl (by first | rfl | simp [clL, AV.cl, cl_ints, hcap]) ?_ | refine renAt_cl (inc_slot (by omega)) rfl ?_)) ?_
  refine for_row 5 j (fun _ => True) (fun i => [(0, .fz k (ints l)), (1, .func (.func F) [] capt), (7, .int .i64 (ints l).length), (8, .int .i64 (i : Nat))]) ?_ ?_ trivial
  ·intro i hi _
   set_option smartUnfolding false in conv => whnf
   refine br (fun hc => ?_) (fun hc => ?_) <;> (try rw [hc]) <;> (set_option smartUnfolding false in conv => whnf)
   ·refine ⟨_, idx_int (by omega), ?_⟩
    set_option smartUnfolding false in conv => whnf
    refine vd_pure (hp _) ?_
    set_option smartUnfolding false in conv => whnf
    refine br (fun hc => ?_) (fun hc => ?_) <;> (try rw [hc]) <;> (set_option smartUnfolding false in conv => whnf)
    ·exact absurd hc (h2 i (by omega) hi)
    ·refine ⟨trivial, ⟨_, rfl, .cl (by simp [AV.cl, cl_ints])⟩, ⟨_, rfl, .cl (by simp [AV.cl, clL, hcap])⟩, ⟨_, rfl, .cl rfl⟩, ⟨_, inc_slot (by omega), .cl rfl⟩, trivial⟩
   ·exfalso
    have := of_decide_eq_false hc
    rw [len_ints] at this
    omega
  ·intro _
   set_option smartUnfolding false in conv => whnf
   refine br (fun hc => ?_) (fun hc => ?_) <;> (try rw [hc]) <;> (set_option smartUnfolding false in conv => whnf)
   ·refine ⟨_, idx_int hj, ?_⟩
    set_option smartUnfolding false in conv => whnf
    refine vd_pure (hp _) ?_
    set_option smartUnfolding false in conv => whnf
    refine br (fun hc => ?_) (fun hc => ?_) <;> (try rw [hc]) <;> (set_option smartUnfolding false in conv => whnf)
    ·subst hQ
     rfl
    ·rw [h1] at hc; simp at hc
   ·exfalso
    have := of_decide_eq_false hc
    rw [len_ints] at this
    omega
 ·have hn : ∀ m, m ∈ l → p m = false := by
   intro m hm
   rw [Bool.eq_false_iff]
   intro h
   exact ha (List.any_eq_true.2 ⟨m, hm, h⟩)
  refine ⟨-1, ?_, by rw [Bool.eq_false_iff.2 ha]; decide⟩
  refine pc_of (by simp [clL, AV.cl, cl_ints, hcap]) rfl ?_
  refine vd_start (af := C_slices_IndexFunc_int_int) false rfl (yB rfl) ?_
  generalize hQ : (fun (v : AV) (_ : Heap) => v = .int .i64 (-1)) = Q
  set_option smartUnfolding false in conv => whnf
  refine vc_to0 5 [(0, .fz k (ints l)), (1, .func (.func F) [] capt), (7, .int .i64 (ints l).length), (8, .int .i64 ((0 : Nat) : Int))] (by repeat' (first | exact trivial | refine renAt_sl rfl (by omega) ?_ | refine renAt_ptr rfl (by omega) ?_ | refine renAt_yield rfl (by omega) ?_ | refine renAt_cl rfl (by first | rfl | simp [clL, AV.cl, cl_ints, hcap]) ?_ | refine renAt_cl (inc_slot (by omega)) rfl ?_)) ?_
  refine for_row 5 l.length (fun _ => True) (fun i => [(0, .fz k (ints l)), (1, .func (.func F) [] capt), (7, .int .i64 (ints l).length), (8, .int .i64 (i : Nat))]) ?_ ?_ trivial
  ·intro i hi _
   set_option smartUnfolding false in conv => whnf
   refine br (fun hc => ?_) (fun hc => ?_) <;> (try rw [hc]) <;> (set_option smartUnfolding false in conv => whnf)
   ·refine ⟨_, idx_int (by omega), ?_⟩
    set_option smartUnfolding false in conv => whnf
    refine vd_pure (hp _) ?_
    set_option smartUnfolding false in conv => whnf
    refine br (fun hc => ?_) (fun hc => ?_) <;> (try rw [hc]) <;> (set_option smartUnfolding false in conv => whnf)
    ·rw [hn _ (List.getElem_mem hi)] at hc; simp at hc
    ·refine ⟨trivial, ⟨_, rfl, .cl (by simp [AV.cl, cl_ints])⟩, ⟨_, rfl, .cl (by simp [AV.cl, clL, hcap])⟩, ⟨_, rfl, .cl rfl⟩, ⟨_, inc_slot (by omega), .cl rfl⟩, trivial⟩
   ·exfalso
    have := of_decide_eq_false hc
    rw [len_ints] at this
    omega
  ·intro _
   set_option smartUnfolding false in conv => whnf
   refine br (fun hc => ?_) (fun hc => ?_) <;> (try rw [hc]) <;> (set_option smartUnfolding false in conv => whnf)
   ·exfalso
    have := of_decide_eq_true hc
    rw [len_ints] at this
    omega
   ·subst hQ
    rfl

set_option smartUnfolding true in
theorem cfI_c {F : Nat} {capt : List AV} {p : Int → Bool} (k : Nat) (l : List Int) (hl : l.length < 2 ^ 62) (hcap : clL capt = true) (hp : ∀ m, PC fs ms F (.int .i64 m :: capt) (.bool (p m))) :
  PC fs ms f_slices_ContainsFunc_int_int [.fz k (ints l), .func (.func F) [] capt] (.bool (l.any p)) := by
 obtain ⟨n, c1, c2⟩ := ixfI_c k l hl hcap hp
 refine pc_of (by simp [clL, AV.cl, cl_ints, hcap]) rfl ?_
 refine vd_start (af := C_slices_ContainsFunc_int_int) false rfl (yB rfl) ?_
 generalize hQ : (fun (v : AV) (_ : Heap) => v = .bool (l.any p)) = Q
 set_option smartUnfolding false in conv => whnf
 refine vd_pure c1 ?_
 set_option smartUnfolding false in conv => whnf
 subst hQ
 exact congrArg AV.bool c2
set_option smartUnfolding true in
theorem ixfT_c {F : Nat} {capt : List AV} {p : Tk → Bool} (k : Nat) (l : List Tk) (hl : l.length < 2 ^ 62) (hcap : clL capt = true) (hp : ∀ m, m ∈ l → PC fs ms F (tk m :: capt) (.bool (p m))) :
  ∃ n : Int, PC fs ms f_slices_IndexFunc_api_Task_api_Task [.fz k (tks l), .func (.func F) [] capt] (.int .i64 n) ∧ decide (n ≥ 0) = l.any p := by
 by_cases ha : l.any p = true
 ·obtain ⟨j, hj, h1, h2⟩ := least_get (l := l) (p := fun m => p m = true) (by simpa using ha)
  refine ⟨(j : Nat), ?_, by rw [ha]; simp⟩
  refine pc_of (by simp [clL, AV.cl, cl_tks, hcap]) rfl ?_
  refine vd_start (af := C_slices_IndexFunc_api_Task_api_Task) false rfl (yB rfl) ?_
  generalize hQ : (fun (v : AV) (_ : Heap) => v = .int .i64 (j : Nat)) = Q
  set_option smartUnfolding false in conv => whnf
  refine vc_to0 5 [(0, .fz k (tks l)), (1, .func (.func F) [] capt), (7, .int .i64 (tks l).length), (8, .int .i64 ((0 : Nat) : Int))] (by repeat' (first | exact trivial | refine renAt_sl rfl (by omega) ?_ | refine renAt_ptr rfl (by omega) ?_ | refine renAt_yield rfl (by omega) ?_ | refine renAt_cl rfl (by first | rfl | simp [clL, AV.cl, cl_ints, cl_tks, hcap]) ?_ | refine renAt_cl (inc_slot (by omega)) rfl ?_)) ?_
  refine for_row 5 j (fun _ => True) (fun i => [(0, .fz k (tks l)), (1, .func (.func F) [] capt), (7, .int .i64 (tks l).length), (8, .int .i64 (i : Nat))]) ?_ ?_ trivial
  ·intro i hi _
   set_option smartUnfolding false in conv => whnf
   refine br (fun hc => ?_) (fun hc => ?_) <;> (try rw [hc]) <;> (set_option smartUnfolding false in conv => whnf)
   ·refine ⟨_, idx_tk (by omega), ?_⟩
    set_option smartUnfolding false in conv => whnf
    refine vd_pure (hp _ (List.getElem_mem _)) ?_
    set_option smartUnfolding false in conv => whnf
    refine br (fun hc => ?_) (fun hc => ?_) <;> (try rw [hc]) <;> (set_option smartUnfolding false in conv => whnf)
    ·exact absurd hc (h2 i (by omega) hi)
    ·refine ⟨trivial, ⟨_, rfl, .cl (by simp [AV.cl, cl_tks])⟩, ⟨_, rfl, .cl (by simp [AV.cl, clL, hcap])⟩, ⟨_, rfl, .cl rfl⟩, ⟨_, inc_slot (by omega), .cl rfl⟩, trivial⟩
   ·exfalso
    have := of_decide_eq_false hc
    rw [len_tks] at this
    omega
  ·intro _
   set_option smartUnfolding false in conv => whnf
   refine br (fun hc => ?_) (fun hc => ?_) <;> (try rw [hc]) <;> (set_option smartUnfolding false in conv => whnf)
   ·refine ⟨_, idx_tk hj, ?_⟩
    set_option smartUnfolding false in conv => whnf
    refine vd_pure (hp _ (List.getElem_mem _)) ?_
    set_option smartUnfolding false in conv => whnf
    refine br (fun hc => ?_) (fun hc => ?_) <;> (try rw [hc]) <;> (set_option smartUnfolding false in conv => whnf)
    ·subst hQ
     rfl
    ·rw [h1] at hc; simp at hc
   ·exfalso
    have := of_decide_eq_false hc
    rw [len_tks] at this
    omega
 ·have hn : ∀ m, m ∈ l → p m = false := by
   intro m hm
   rw [Bool.eq_false_iff]
   intro h
   exact ha (List.any_eq_true.2 ⟨m, hm, h⟩)
  refine ⟨-1, ?_, by rw [Bool.eq_false_iff.2 ha]; decide⟩
  refine pc_of (by simp [clL, AV.cl, cl_tks, hcap]) rfl ?_
  refine vd_start (af := C_slices_IndexFunc_api_Task_api_Task) false rfl (yB rfl) ?_
  generalize hQ : (fun (v : AV) (_ : Heap) => v = .int .i64 (-1)) = Q
  set_option smartUnfolding false in conv => whnf
  refine vc_to0 5 [(0, .fz k (tks l)), (1, .func (.func F) [] capt), (7, .int .i64 (tks l).length), (8, .int .i64 ((0 : Nat) : Int))] (by repeat' (first | exact trivial | refine renAt_sl rfl (by omega) ?_ | refine renAt_ptr rfl (by omega) ?_ | refine renAt_yield rfl (by omega) ?_ | refine renAt_cl rfl (by first | rfl | simp [clL, AV.cl, cl_ints, cl_tks, hcap]) ?_ | refine renAt_cl (inc_slot (by omega)) rfl ?_)) ?_
  refine for_row 5 l.length (fun _ => True) (fun i => [(0, .fz k (tks l)), (1, .func (.func F) [] capt), (7, .int .i64 (tks l).length), (8, .int .i64 (i : Nat))]) ?_ ?_ trivial
  ·intro i hi _
   set_option smartUnfolding false in conv => whnf
   refine br (fun hc => ?_) (fun hc => ?_) <;> (try rw [hc]) <;> (set_option smartUnfolding false in conv => whnf)
   ·refine ⟨_, idx_tk (by omega), ?_⟩
    set_option smartUnfolding false in conv => whnf
    refine vd_pure (hp _ (List.getElem_mem _)) ?_
    set_option smartUnfolding false in conv => whnf
    refine br (fun hc => ?_) (fun hc => ?_) <;> (try rw [hc]) <;> (set_option smartUnfolding false in conv => whnf)
    ·rw [hn _ (List.getElem_mem hi)] at hc; simp at hc
    ·refine ⟨trivial, ⟨_, rfl, .cl (by simp [AV.cl, cl_tks])⟩, ⟨_, rfl, .cl (by simp [AV.cl, clL, hcap])⟩, ⟨_, rfl, .cl rfl⟩, ⟨_, inc_slot (by omega), .cl rfl⟩, trivial⟩
   ·exfalso
    have := of_decide_eq_false hc
    rw [len_tks] at this
    omega
  ·intro _
   set_option smartUnfolding false in conv => whnf
   refine br (fun hc => ?_) (fun hc => ?_) <;> (try rw [hc]) <;> (set_option smartUnfolding false in conv => whnf)
   ·exfalso
    have := of_decide_eq_true hc
    rw [len_tks] at this
    omega
   ·subst hQ
    rfl

set_option smartUnfolding true in
theorem cfT_c {F : Nat} {capt : List AV} {p : Tk → Bool} (k : Nat) (l : List Tk) (hl : l.length < 2 ^ 62) (hcap : clL capt = true) (hp : ∀ m, m ∈ l → PC fs ms F (tk m :: capt) (.bool (p m))) :
  PC fs ms f_slices_ContainsFunc_api_Task_api_Task [.fz k (tks l), .func (.func F) [] capt] (.bool (l.any p)) := by
 obtain ⟨n, c1, c2⟩ := ixfT_c k l hl hcap hp
 refine pc_of (by simp [clL, AV.cl, cl_tks, hcap]) rfl ?_
 refine vd_start (af := C_slices_ContainsFunc_api_Task_api_Task) false rfl (yB rfl) ?_
 generalize hQ : (fun (v : AV) (_ : Heap) => v = .bool (l.any p)) = Q
 set_option smartUnfolding false in conv => whnf
 refine vd_pure c1 ?_
 set_option smartUnfolding false in conv => whnf
 subst hQ
 exact congrArg AV.bool c2
theorem allOne_c (t : Tk) : PC fs ms f_demand_all_1 [tk t] (.bool (!taskOk t)) := by
 refine pc_of rfl rfl ?_
 refine vd_start (af := C_demand_all_1) false rfl (yB rfl) ?_
 generalize hQ : (fun (v : AV) (_ : Heap) => v = .bool (!taskOk t)) = Q
 conv => whnf
 refine vd_pure (may_c _) ?_
 conv => whnf
 subst hQ
 rfl

theorem any_not (l : List Tk) : (l.any fun t => !taskOk t) = !l.all taskOk := by
 induction l with
 | nil => rfl
 | cons t l ih => simp only [List.any_cons, List.all_cons, ih, Bool.not_and]

set_option smartUnfolding true in
theorem all_c (k : Nat) (l : List Tk) (hl : l.length < 2 ^ 62) : PC fs ms f_demand_all [.fz k (tks l)] (.bool (tasksOk l)) := by
 refine pc_of (by simp [clL, AV.cl, cl_tks]) rfl ?_
 refine vd_start (af := C_demand_all) false rfl (yB rfl) ?_
 generalize hQ : (fun (v : AV) (_ : Heap) => v = .bool (tasksOk l)) = Q
 set_option smartUnfolding false in conv => whnf
 refine br (fun hc => ?_) (fun hc => ?_) <;> (try rw [hc]) <;> (set_option smartUnfolding false in conv => whnf)
 ·refine vd_pure (cfT_c k l hl rfl (fun m _ => allOne_c m)) ?_
  set_option smartUnfolding false in conv => whnf
  subst hQ
  refine congrArg AV.bool ?_
  have := of_decide_eq_true hc
  rw [len_tks] at this
  rw [any_not, Bool.not_not, tasksOk, decide_eq_true (by omega), Bool.and_true]
 ·subst hQ
  refine congrArg AV.bool ?_
  have := of_decide_eq_false hc
  rw [len_tks] at this
  rw [tasksOk, decide_eq_false (by omega), Bool.and_false]

def moreBad (n : Int) : Bool := decide (n < 0) || decide (n > 32768)
theorem checkOne_c (n : Int) : PC fs ms f_demand_Check_1 [.int .i64 n] (.bool (moreBad n)) := by
 refine pc_of rfl rfl ?_
 refine vd_start (af := C_demand_Check_1) false rfl (yB rfl) ?_
 generalize hQ : (fun (v : AV) (_ : Heap) => v = .bool (moreBad n)) = Q
 conv => whnf
 refine br (fun hc => ?_) (fun hc => ?_) <;> (try rw [hc]) <;> (conv => whnf)
 ·subst hQ; simp only [moreBad, hc, Bool.true_or]
 ·subst hQ; simp only [moreBad, hc, Bool.false_or]

def demCheck (l : List Tk) (a : List Int) : Int := if a.any moreBad = false ∧ tasksOk l = true ∧ a.length = l.length then 0 else 2

set_option smartUnfolding true in
theorem check_c (k k' : Nat) (l : List Tk) (a : List Int) (hl : l.length < 2 ^ 62) (ha : a.length < 2 ^ 62) : PC fs ms f_demand_Check [.fz k (tks l), .fz k' (ints a)] (.int .i64 (demCheck l a)) := by
 refine pc_of (by simp [clL, AV.cl, cl_tks, cl_ints]) rfl ?_
 refine vd_start (af := C_demand_Check) false rfl (yB rfl) ?_
 generalize hQ : (fun (v : AV) (_ : Heap) => v = .int .i64 (demCheck l a)) = Q
 set_option smartUnfolding false in conv => whnf
 refine vd_pure (cfI_c k' a ha rfl checkOne_c) ?_
 set_option smartUnfolding false in conv => whnf
 refine br (fun hc => ?_) (fun hc => ?_) <;> (try rw [hc]) <;> (set_option smartUnfolding false in conv => whnf)
 ·subst hQ; simp [demCheck, hc]
 ·refine vd_pure (all_c k l hl) ?_
  have h1 := hc
  set_option smartUnfolding false in conv => whnf
  refine br (fun hc => ?_) (fun hc => ?_) <;> (try rw [hc]) <;> (set_option smartUnfolding false in conv => whnf)
  ·subst hQ; simp at hc; simp [demCheck, hc]
  ·have h2 := hc
   refine br (fun hc => ?_) (fun hc => ?_) <;> (try rw [hc]) <;> (set_option smartUnfolding false in conv => whnf)
   ·subst hQ; simp [len_ints, len_tks] at hc; rw [demCheck, if_neg (fun h => by omega)]
   ·subst hQ; simp [len_ints, len_tks] at hc; simp at h2; rw [demCheck, if_pos ⟨h1, h2, by omega⟩]
end Ir
end Go.Proofs.YtnlcabhfkpafmaaGreat
namespace Go.Proofs.YtnlcabhfkpafmaaGreat
open Go Ads
namespace Ir

end Ir
end Go.Proofs.YtnlcabhfkpafmaaGreat
namespace Go.Proofs.YtnlcabhfkpafmaaGreat
open Go Ads
namespace Ir

theorem demCheck_ok {l : List Tk} {a : List Int} (h : demCheck l a = 0) : a.any moreBad = false ∧ tasksOk l = true ∧ a.length = l.length := by
 unfold demCheck at h
 split at h
 ·assumption
 ·simp at h
end Ir
end Go.Proofs.YtnlcabhfkpafmaaGreat
namespace Go.Proofs.YtnlcabhfkpafmaaGreat
open Go Ads
namespace Ir

end Ir
end Go.Proofs.YtnlcabhfkpafmaaGreat
namespace Go.Proofs.YtnlcabhfkpafmaaGreat
open Go Ads
namespace Ir

/- What is asked for, without ends of the numbers. -/
end Ir
end Go.Proofs.YtnlcabhfkpafmaaGreat
namespace Go.Proofs.YtnlcabhfkpafmaaGreat
open Go Ads
namespace Ads
theorem src_nv {h : Heap} {b s n cap : Nat} {op wr : Bool} {es : Nat} {cs : List AV} (hg : h.get b = some (.cells cs wr es)) (hl : cs.length = n * s) : srcV s h (.sl b 0 n cap op) = some (n, cs) := by
 have b1 : Nat.ble (0 + n * s) cs.length = true := Nat.ble_eq_true_of_le (by omega)
 show (h.loadN b 0 (n * s)).map _ = _
 have : h.loadN b 0 (n * s) = some cs := by
  simp only [Heap.loadN, Heap.row, hg, b1, cond_true, List.drop_zero]
  rw [← hl, List.take_length]
 rw [this]
 rfl
theorem app_oneB {h : Heap} {s bytes b m : Nat} {vs cs : List AV} {x : AV} (hg : h.get b = some (.cells vs true s)) (hv : vs.length = m * s) (hsrc : srcV s h x = some (1, cs)) (hf : flatL cs = true) (hb : (m + 1) * bytes ≤ 140737488355328) (hm : m + 1 ≤ 140737488355328) :
  eV (.append s bytes) [.sl b 0 m m true, x] h = some (.sl h.next 0 (m + 1) (m + 1) true, (h.del b).new (.cells (vs ++ cs) true s)) := by
 have b1 : Nat.ble (m + 1) m = false := by cases hb : Nat.ble (m + 1) m with | false => rfl | true => (have := Nat.le_of_ble_eq_true hb; omega)
 have b2 : Nat.ble ((m + 1) * bytes) 140737488355328 = true := Nat.ble_eq_true_of_le hb
 have b3 : Nat.ble (m + 1) 9223372036854775807 = true := Nat.ble_eq_true_of_le (by omega)
 have b4 : Nat.ble (0 + m * s) vs.length = true := Nat.ble_eq_true_of_le (by omega)
 have b5 : Nat.beq vs.length (0 + m * s) = true := by rw [hv, Nat.zero_add]; exact Nat.beq_refl _
 have hld : h.loadN b 0 (m * s) = some vs := by
  simp only [Heap.loadN, Heap.row, hg, b4, cond_true, List.drop_zero]
  rw [← hv, List.take_length]
 simp only [eV, l2, hsrc]
 show cond (flatL cs) _ _ = _
 rw [hf, cond_true]
 show cond (Nat.beq 1 0 && Nat.ble m m) _ _ = _
 rw [show Nat.beq 1 0 = false from rfl, Bool.false_and, cond_false, b1, cond_false, b2, b3, Bool.and_self, cond_true, hg, hld]
 show cond true (cond (true && Nat.beq vs.length (0 + m * s) && Nat.beq m m && Nat.beq s s) _ _) _ = _
 rw [b5, Nat.beq_refl, Nat.beq_refl]
 rfl
theorem get_del_ne2 {h : Heap} {b c : Nat} (hn : c ≠ b) : (h.del b).get c = h.get c := by rw [Heap.get_del, if_neg hn]
end Ads
namespace Ir

structure Nt where
 a : Int
 k : Int
 p : Int
 t : Int
 n : Int
 e : Int
 s : List UInt8
 deriving DecidableEq
end Ir
end Go.Proofs.YtnlcabhfkpafmaaGreat
namespace Go.Proofs.YtnlcabhfkpafmaaGreat
open Go Ads
namespace Ads
end Ads
namespace Ir
end Ir
end Go.Proofs.YtnlcabhfkpafmaaGreat
namespace Go.Proofs.YtnlcabhfkpafmaaGreat
open Go Ads
namespace Ads
theorem Fr.wk {h h' : Heap} {bs cs : List Nat} (f : Fr h h' bs) (hs : ∀ b ∈ bs, b ∈ cs) : Fr h h' cs := ⟨f.next, fun c hc hn => f.keep c hc (fun hb => hn (hs c hb))⟩
theorem app_nilsG {s bytes n : Nat} {h : Heap} {x : AV} {cs : List AV} (hs : srcV s h x = some (n, cs)) (hf : flatL cs = true) (hn : n * bytes ≤ 140737488355328) (hm : n ≤ 140737488355328) :
  eV (.append s bytes) [.nils, x] h = some (if n = 0 then (.nils, h) else (.sl h.next 0 n n true, h.new (.cells cs true s))) := by
 have b2 : Nat.ble (n * bytes) 140737488355328 = true := Nat.ble_eq_true_of_le hn
 have b3 : Nat.ble n 9223372036854775807 = true := Nat.ble_eq_true_of_le (by omega)
 simp only [eV, l2, hs]
 show cond (flatL cs) _ _ = _
 rw [hf, cond_true]
 cases n with
 | zero => rfl
 | succ n =>
  rw [show Nat.beq (n + 1) 0 = false from rfl, cond_false, b2, b3, Bool.and_self, cond_true, if_neg (by omega)]
theorem flatL_one {x : AV} {l : List AV} : flatL (x :: l) = (x.flat && flatL l) := by
 show cond x.flat (flatL l) false = _
 cases x.flat <;> rfl

def GR (s : Nat) (lo : Nat) (h : Heap) (v : AV) (l : List AV) : Prop := (l = [] ∧ v = .nils) ∨ l ≠ [] ∧ ∃ b, lo ≤ b ∧ b < h.next ∧ v = .sl b 0 l.length l.length true ∧ h.get b = some (.cells (flatCells l) true s)
theorem GR.nil {s lo : Nat} {h : Heap} : GR s lo h .nils [] := .inl ⟨rfl, rfl⟩
theorem GR.keep {s lo : Nat} {h h' : Heap} {v : AV} {M : List AV} {T : List Nat} (hr : GR s lo h v M) (fr : Fr h h' T) (hT : ∀ c ∈ T, c < lo) : GR s lo h' v M := by
 rcases hr with hr | ⟨hne0, b, h1, h2, h3, h4⟩
 ·exact .inl hr
 ·exact .inr ⟨hne0, b, h1, Nat.lt_of_lt_of_le h2 fr.next, h3, by rw [fr.keep b h2 (fun hm => by have := hT b hm; omega)]; exact h4⟩
theorem GR.app {s bytes lo : Nat} {h : Heap} {v : AV} {M : List AV} (hr : GR s lo h v M) (hlo : lo ≤ h.next) {x : AV} (hx : x.cells.length = s) (hf : flatL x.cells = true) (hs : allSize s M = true) (hl : (M.length + 1) * bytes ≤ 140737488355328) (hm : M.length + 1 ≤ 140737488355328) :
  ∃ v' g', eV (.append s bytes) [v, .sl h.next 0 1 1 false] (h.new (.cells x.cells true 0)) = some (v', g') ∧ GR s lo g' v' (M ++ [x]) ∧ h.next ≤ g'.next ∧ ∀ c, c < lo → g'.get c = h.get c := by
 have hsrc : srcV s (h.new (.cells x.cells true 0)) (.sl h.next 0 1 1 false) = some (1, x.cells) := src_nv get_new_same (by omega)
 have hfa : flatCells (M ++ [x]) = flatCells M ++ x.cells := by rw [flat_app]; simp [flatCells]
 rcases hr with ⟨h1, h2⟩ | ⟨hne0, b, h1, h2, h3, h4⟩
 ·subst h1 h2
  have := app_nilsG (bytes := bytes) hsrc hf (by simpa using hl) (by omega)
  rw [if_neg (by omega)] at this
  refine ⟨_, _, this, .inr ⟨by simp, h.next + 1, by omega, Nat.lt_succ_self _, rfl, ?_⟩, by show h.next ≤ h.next + 1 + 1; omega, fun c hc => ?_⟩
  ·rw [hfa]; exact get_new_same (h := h.new (.cells x.cells true 0))
  ·exact (get_new_ne (h := h.new (.cells x.cells true 0)) (show c < h.next + 1 by omega)).trans (get_new_ne (by omega))
 ·subst h3
  have hg : (h.new (.cells x.cells true 0)).get b = some (.cells (flatCells M) true s) := by rw [get_new_ne h2]; exact h4
  refine ⟨_, _, app_oneB hg (flat_size hs) hsrc hf hl hm, .inr ⟨by simp, h.next + 1, by omega, Nat.lt_succ_self _, by rw [List.length_append]; rfl, ?_⟩, by show h.next ≤ h.next + 1 + 1; omega, fun c hc => ?_⟩
  ·have := get_new_same (h := (h.new (.cells x.cells true 0)).del b) (x := .cells (flatCells M ++ x.cells) true s)
   rw [show ((h.new (.cells x.cells true 0)).del b).next = h.next + 1 from rfl] at this
   rw [this, hfa]
  ·have hne : c ≠ b := by omega
   exact (get_new_ne (h := (h.new (.cells x.cells true 0)).del b) (show c < h.next + 1 by omega)).trans ((get_del_ne2 hne).trans (get_new_ne (by omega)))
end Ads
end Go.Proofs.YtnlcabhfkpafmaaGreat
namespace Go.Proofs.YtnlcabhfkpafmaaGreat
open Go Ads
namespace Ads
structure At (h : Heap) (B : Nat → Nat) (G : Nat → Option Blk) : Prop where
 get : ∀ r x, G r = some x → h.get (B r) = some x ∧ B r < h.next
 inj : ∀ r s x y, G r = some x → G s = some y → B r = B s → r = s
structure FrP (h h' : Heap) (P : Nat → Prop) : Prop where
 next : h.next ≤ h'.next
 keep : ∀ c, c < h.next → ¬ P c → h'.get c = h.get c
section
variable {h h' : Heap} {B : Nat → Nat} {G : Nat → Option Blk} {r : Nat}
end
end Ads
end Go.Proofs.YtnlcabhfkpafmaaGreat
