/-
  Delay: tasks of partitions.
-/
import Derived.Test.YtlndlbngfgaoeaaVDemE
import Derived.Test.YtlndlbngfgaoeaaVsRows
set_option maxRecDepth 100000
set_option linter.unusedSimpArgs false
set_option linter.unusedVariables false
namespace Go.Proofs.Ytlndlbngfgaoeaa
open Go Ads
namespace Ir

/-- May a task be asked, of a partition with a budget? -/
def mayD (t : Tk) (B : Int) : Bool := decide (0 ≤ t.b ∧ t.b ≤ t.w ∧ 0 ≤ t.c ∧ t.c ≤ 4 ∧ ((t.c = 0 ∧ t.e = 0 ∧ t.f = 0) ∨ (t.c ≠ 0 ∧ 1 ≤ t.e ∧ t.e ≤ B ∧ 1 ≤ t.f ∧ t.e * t.f ≤ t.w)))

theorem taskOk_in {t : Tk} (h : taskOk t = true) : 1 ≤ t.w ∧ t.w ≤ t.d ∧ t.d ≤ t.p ∧ t.p ≤ 64 := by simpa [taskOk] using h

theorem may9_c (t : Tk) (B : Int) (h : taskOk t = true) : PC fs ms f_delay_may [tk t, .int .i64 B] (.bool (mayD t B)) := by
  have hw := taskOk_in h
  have hdiv : 1 ≤ t.e → (t.f ≤ t.w / t.e ↔ t.e * t.f ≤ t.w) := fun he => by
    rw [Int.le_ediv_iff_mul_le (by omega), Int.mul_comm]
  have hq : 1 ≤ t.e → IntKind.i64.wrap (t.w.tdiv t.e) = t.w / t.e := fun he => IntWalk.i64_quo _ _ (by omega)
  refine pc_of rfl rfl ?_
  refine vd_start (af := C_delay_may) false rfl (Nat.le_of_ble_eq_true rfl) ?_
  generalize hQ : (fun (v : AV) (_ : Heap) => v = .bool (mayD t B)) = Q
  set_option smartUnfolding false in conv => whnf
  iterate 10 (all_goals (first | (refine br (fun hc => ?_) (fun hc => ?_) <;> (try rw [hc]) <;> (set_option smartUnfolding false in conv => whnf)) | skip))
  all_goals (try (refine ⟨_, quo_val _ _ (by simp at *; omega), ?_⟩; set_option smartUnfolding false in conv => whnf; rw [hq (by simp at *; omega)]))
  all_goals (subst hQ; refine congrArg AV.bool ?_; rw [Bool.eq_iff_iff]; simp [mayD] at *; generalize t.e * t.f = P at *; generalize t.w / t.e = D at *; omega)

end Ir
end Go.Proofs.Ytlndlbngfgaoeaa
