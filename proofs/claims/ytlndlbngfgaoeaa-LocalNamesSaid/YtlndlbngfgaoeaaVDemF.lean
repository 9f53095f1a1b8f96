/-
  Demand: jobs of a task; each; sum.
-/
import Derived.Test.YtlndlbngfgaoeaaVDemE
import Derived.Test.YtlndlbngfgaoeaaVsRows
set_option maxRecDepth 100000
set_option linter.unusedSimpArgs false
set_option linter.unusedVariables false
namespace Go.Proofs.Ytlndlbngfgaoeaa
open Go Ads
namespace Ir

/-- How many jobs of a task have their deadlines in so many ticks. -/
def jobsS (n : Int) (t : Tk) : Int := if n < t.d then 0 else IntKind.i64.wrap (1 + IntKind.i64.wrap ((IntKind.i64.wrap (n - t.d)).tdiv t.p))

theorem jobs_c (n : Int) (t : Tk) (hp : t.p ≠ 0) : PC fs ms f_demand_Of_1 [tk t, .fp [.int .i64 n] 0] (.int .i64 (jobsS n t)) := by
  refine pc_of rfl rfl ?_
  refine vd_start (af := C_demand_Of_1) false rfl (Nat.le_of_ble_eq_true rfl) ?_
  generalize hQ : (fun (v : AV) (_ : Heap) => v = .int .i64 (jobsS n t)) = Q
  set_option smartUnfolding false in conv => whnf
  refine br (fun hc => ?_) (fun hc => ?_) <;> (try rw [hc]) <;> (set_option smartUnfolding false in conv => whnf)
  · subst hQ
    rw [jobsS, if_pos (of_decide_eq_true hc)]
  · refine ⟨_, quo_val _ _ hp, ?_⟩
    set_option smartUnfolding false in conv => whnf
    subst hQ
    rw [jobsS, if_neg (of_decide_eq_false hc)]

def sumW (l : List Int) : Int := l.foldl (fun s x => IntKind.i64.wrap (s + x)) 0

theorem dsum_c (k : Nat) (l : List Int) (hl : l.length < 2 ^ 62) : PC fs ms f_demand_sum [.fz k (ints l)] (.int .i64 (sumW l)) := by
  refine pc_of (by simp [clL, AV.cl, cl_ints]) rfl ?_
  refine vd_start (af := C_demand_sum) false rfl (Nat.le_of_ble_eq_true rfl) ?_
  generalize hQ : (fun (v : AV) (_ : Heap) => v = .int .i64 (sumW l)) = Q
  set_option smartUnfolding false in conv => whnf
  refine vc_to0 5 [(2, .int .i64 (sumW (l.take 0))), (5, .fz k (ints l)), (6, .int .i64 (ints l).length), (7, .int .i64 ((0 : Nat) : Int))] (by repeat' (first | exact trivial | refine renAt_sl rfl (by omega) ?_ | refine renAt_ptr rfl (by omega) ?_ | refine renAt_yield rfl (by omega) ?_ | refine renAt_cl rfl (by first | rfl | simp [clL, AV.cl, cl_ints]) ?_ | refine renAt_cl (inc_slot (by omega)) rfl ?_)) ?_
  refine for_row 5 l.length (fun _ => True) (fun j => [(2, .int .i64 (sumW (l.take j))), (5, .fz k (ints l)), (6, .int .i64 (ints l).length), (7, .int .i64 (j : Nat))]) ?_ ?_ trivial
  · intro j hj _
    set_option smartUnfolding false in conv => whnf
    refine br (fun hc => ?_) (fun hc => ?_) <;> (try rw [hc]) <;> (set_option smartUnfolding false in conv => whnf)
    · refine ⟨_, idx_int hj, ?_⟩
      set_option smartUnfolding false in conv => whnf
      refine ⟨trivial, ⟨_, congrArg (fun n => some (AV.int .i64 n)) ?_, .cl rfl⟩, ⟨_, rfl, .cl (by simp [AV.cl, cl_ints])⟩, ⟨_, rfl, .cl rfl⟩, ⟨_, inc_slot (by omega), .cl rfl⟩, trivial⟩
      rw [take_next hj]
      simp only [sumW, List.foldl_append]
      rfl
    · exfalso
      have := of_decide_eq_false hc
      rw [len_ints] at this
      omega
  · intro _
    set_option smartUnfolding false in conv => whnf
    refine br (fun hc => ?_) (fun hc => ?_) <;> (try rw [hc]) <;> (set_option smartUnfolding false in conv => whnf)
    · exfalso
      have := of_decide_eq_true hc
      rw [len_ints] at this
      omega
    · subst hQ
      rw [List.take_length]
end Ir
end Go.Proofs.Ytlndlbngfgaoeaa
