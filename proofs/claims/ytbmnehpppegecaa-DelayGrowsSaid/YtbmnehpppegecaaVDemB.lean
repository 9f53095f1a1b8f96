/-
  Demand: rows of tasks.
-/
import Derived.Test.YtbmnehpppegecaaVDemA
set_option maxRecDepth 100000
set_option linter.unusedSimpArgs false
set_option linter.unusedVariables false
namespace Go.Proofs.Ytbmnehpppegecaa
open Go Ads
namespace Ir

theorem cl_tks (l : List Tk) : clL (tks l) = true := clL_map (enc := tk) (fun _ => rfl) l
theorem len_tks (l : List Tk) : (tks l).length = l.length := List.length_map ..
theorem idx_tk {l : List Tk} {j k : Nat} (hj : j < l.length) : pV (.iaddrS 8) [.fz k (tks l), .int .i64 (j : Nat)] = some (.fp (tk l[j]).cells 0) := idx_map (enc := tk) hj rfl

def tasksOk (l : List Tk) : Bool := l.all taskOk && decide (l.length ≤ 4)

theorem rtasks_c (k : Nat) (l : List Tk) (hl : l.length < 2 ^ 62) : PC fs ms f_escapementref08_Tasks [.fz k (tks l)] (.bool (tasksOk l)) := by
  refine pc_of (by simp [clL, AV.cl, cl_tks]) rfl ?_
  refine vd_start (af := C_escapementref08_Tasks) false rfl (Nat.le_of_ble_eq_true rfl) ?_
  generalize hQ : (fun (v : AV) (_ : Heap) => v = .bool (tasksOk l)) = Q
  set_option smartUnfolding false in conv => whnf
  refine vc_to0 5 [(0, .fz k (tks l)), (3, .int .i64 ((0 : Nat) : Int))] (by repeat' (first | exact trivial | refine renAt_sl rfl (by omega) ?_ | refine renAt_ptr rfl (by omega) ?_ | refine renAt_yield rfl (by omega) ?_ | refine renAt_cl rfl (by first | rfl | simp [clL, AV.cl, cl_ints, cl_tks]) ?_ | refine renAt_cl (inc_slot (by omega)) rfl ?_)) ?_
  refine for_row 5 l.length (fun j => (l.take j).all taskOk = true) (fun j => [(0, .fz k (tks l)), (3, .int .i64 (j : Nat))]) ?_ ?_ rfl
  · intro j hj hi
    set_option smartUnfolding false in conv => whnf
    refine br (fun hc => ?_) (fun hc => ?_) <;> (try rw [hc]) <;> (set_option smartUnfolding false in conv => whnf)
    · refine ⟨_, idx_tk hj, ?_⟩
      set_option smartUnfolding false in conv => whnf
      refine vd_pure (rtask_c _) ?_
      set_option smartUnfolding false in conv => whnf
      refine br (fun hc => ?_) (fun hc => ?_) <;> (try rw [hc]) <;> (set_option smartUnfolding false in conv => whnf)
      · subst hQ
        have hf : l.all taskOk = false := by
          rw [Bool.eq_false_iff]
          intro ha
          rw [List.all_eq_true] at ha
          have := ha _ (List.getElem_mem hj)
          simp [this] at hc
        simp [tasksOk, hf]
      · refine ⟨?_, ⟨_, rfl, .cl (by simp [AV.cl, cl_tks])⟩, ⟨_, inc_slot (by omega), .cl rfl⟩, trivial⟩
        rw [take_next hj, List.all_append, hi]
        simp at hc
        simp [hc]
    · exfalso
      have := of_decide_eq_false hc
      rw [len_tks] at this
      omega
  · intro hi
    set_option smartUnfolding false in conv => whnf
    refine br (fun hc => ?_) (fun hc => ?_) <;> (try rw [hc]) <;> (set_option smartUnfolding false in conv => whnf)
    · exfalso
      have := of_decide_eq_true hc
      rw [len_tks] at this
      omega
    · subst hQ
      rw [List.take_length] at hi
      refine congrArg AV.bool ?_
      rw [tasksOk, hi, Bool.true_and, Bool.eq_iff_iff]
      simp [len_tks]
      omega
end Ir
end Go.Proofs.Ytbmnehpppegecaa
