/-
  Demand: what is refused.
-/
import Derived.Test.YtlndlbngfgaoeaaVDemC
set_option maxRecDepth 100000
set_option linter.unusedSimpArgs false
set_option linter.unusedVariables false
namespace Go.Proofs.Ytlndlbngfgaoeaa
open Go Ads
namespace Ir

theorem allOne_c (t : Tk) : PC fs ms f_demand_all_1 [tk t] (.bool (!taskOk t)) := by
  refine pc_of rfl rfl ?_
  refine vd_start (af := C_demand_all_1) false rfl (Nat.le_of_ble_eq_true rfl) ?_
  generalize hQ : (fun (v : AV) (_ : Heap) => v = .bool (!taskOk t)) = Q
  set_option smartUnfolding false in conv => whnf
  refine vd_pure (may_c _) ?_
  set_option smartUnfolding false in conv => whnf
  subst hQ
  rfl

theorem any_not (l : List Tk) : (l.any fun t => !taskOk t) = !l.all taskOk := by
  induction l with
  | nil => rfl
  | cons t l ih => simp only [List.any_cons, List.all_cons, ih, Bool.not_and]

theorem all_c (k : Nat) (l : List Tk) (hl : l.length < 2 ^ 62) : PC fs ms f_demand_all [.fz k (tks l)] (.bool (tasksOk l)) := by
  refine pc_of (by simp [clL, AV.cl, cl_tks]) rfl ?_
  refine vd_start (af := C_demand_all) false rfl (Nat.le_of_ble_eq_true rfl) ?_
  generalize hQ : (fun (v : AV) (_ : Heap) => v = .bool (tasksOk l)) = Q
  set_option smartUnfolding false in conv => whnf
  refine br (fun hc => ?_) (fun hc => ?_) <;> (try rw [hc]) <;> (set_option smartUnfolding false in conv => whnf)
  · refine vd_pure (cfT_c k l hl rfl (fun m _ => allOne_c m)) ?_
    set_option smartUnfolding false in conv => whnf
    subst hQ
    refine congrArg AV.bool ?_
    have := of_decide_eq_true hc
    rw [len_tks] at this
    rw [any_not, Bool.not_not, tasksOk, decide_eq_true (by omega), Bool.and_true]
  · subst hQ
    refine congrArg AV.bool ?_
    have := of_decide_eq_false hc
    rw [len_tks] at this
    rw [tasksOk, decide_eq_false (by omega), Bool.and_false]

def moreBad (n : Int) : Bool := decide (n < 0) || decide (n > 32768)
theorem checkOne_c (n : Int) : PC fs ms f_demand_Check_1 [.int .i64 n] (.bool (moreBad n)) := by
  refine pc_of rfl rfl ?_
  refine vd_start (af := C_demand_Check_1) false rfl (Nat.le_of_ble_eq_true rfl) ?_
  generalize hQ : (fun (v : AV) (_ : Heap) => v = .bool (moreBad n)) = Q
  set_option smartUnfolding false in conv => whnf
  refine br (fun hc => ?_) (fun hc => ?_) <;> (try rw [hc]) <;> (set_option smartUnfolding false in conv => whnf)
  · subst hQ; simp only [moreBad, hc, Bool.true_or]
  · subst hQ; simp only [moreBad, hc, Bool.false_or]

def demCheck (l : List Tk) (a : List Int) : Int := if a.any moreBad = false ∧ tasksOk l = true ∧ a.length = l.length then 0 else 2

theorem check_c (k k' : Nat) (l : List Tk) (a : List Int) (hl : l.length < 2 ^ 62) (ha : a.length < 2 ^ 62) : PC fs ms f_demand_Check [.fz k (tks l), .fz k' (ints a)] (.int .i64 (demCheck l a)) := by
  refine pc_of (by simp [clL, AV.cl, cl_tks, cl_ints]) rfl ?_
  refine vd_start (af := C_demand_Check) false rfl (Nat.le_of_ble_eq_true rfl) ?_
  generalize hQ : (fun (v : AV) (_ : Heap) => v = .int .i64 (demCheck l a)) = Q
  set_option smartUnfolding false in conv => whnf
  refine vd_pure (cfI_c k' a ha rfl checkOne_c) ?_
  set_option smartUnfolding false in conv => whnf
  refine br (fun hc => ?_) (fun hc => ?_) <;> (try rw [hc]) <;> (set_option smartUnfolding false in conv => whnf)
  · subst hQ; simp [demCheck, hc]
  · refine vd_pure (all_c k l hl) ?_
    have h1 := hc
    set_option smartUnfolding false in conv => whnf
    refine br (fun hc => ?_) (fun hc => ?_) <;> (try rw [hc]) <;> (set_option smartUnfolding false in conv => whnf)
    · subst hQ; simp at hc; simp [demCheck, hc]
    · have h2 := hc
      refine br (fun hc => ?_) (fun hc => ?_) <;> (try rw [hc]) <;> (set_option smartUnfolding false in conv => whnf)
      · subst hQ; simp [len_ints, len_tks] at hc; rw [demCheck, if_neg (fun h => by omega)]
      · subst hQ; simp [len_ints, len_tks] at hc; simp at h2; rw [demCheck, if_pos ⟨h1, h2, by omega⟩]
end Ir
end Go.Proofs.Ytlndlbngfgaoeaa
