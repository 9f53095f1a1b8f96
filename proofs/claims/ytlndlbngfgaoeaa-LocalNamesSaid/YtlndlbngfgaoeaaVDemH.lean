/-
  Demand: Of.
-/
import Derived.Test.YtlndlbngfgaoeaaVDemG
set_option maxRecDepth 100000
set_option linter.unusedSimpArgs false
set_option linter.unusedVariables false
namespace Go.Proofs.Ytlndlbngfgaoeaa
open Go Ads
namespace Ir

/-- What is asked for of each, of so many jobs. -/
def askS (q : Tk → Int) (l : List Tk) (a : List Int) : List Int := List.zipWith (fun t m => IntKind.i64.wrap (q t * IntKind.i64.wrap (t.w + m))) l a
def dOf (l : List Tk) (a : List Int) (n : Int) : Int × Int := if demCheck l a = 0 ∧ 0 ≤ n ∧ n ≤ 1048576 then (sumW (askS (jobsS n) l a), 0) else (0, 2)
def pairI (p : Int × Int) : AV := .tup [.int .i64 p.1, .int .i64 p.2]

theorem demCheck_ok {l : List Tk} {a : List Int} (h : demCheck l a = 0) : a.any moreBad = false ∧ tasksOk l = true ∧ a.length = l.length := by
  unfold demCheck at h
  split at h
  · assumption
  · simp at h
theorem tasksOk_p {l : List Tk} (h : tasksOk l = true) {t : Tk} (ht : t ∈ l) : taskOk t = true ∧ 1 ≤ t.p := by
  simp only [tasksOk, Bool.and_eq_true, List.all_eq_true, decide_eq_true_eq] at h
  have : taskOk t = true := by first | exact h.1 t ht | exact h.2 t ht
  refine ⟨this, ?_⟩
  simp only [taskOk, decide_eq_true_eq] at this
  omega
theorem tasksOk_len {l : List Tk} (h : tasksOk l = true) : l.length ≤ 4 := by
  simp only [tasksOk, Bool.and_eq_true, decide_eq_true_eq] at h
  first | exact h.1 | exact h.2

theorem dof_c (k k' : Nat) (l : List Tk) (a : List Int) (n : Int) (hl : l.length < 2 ^ 62) (ha : a.length < 2 ^ 62) : PC fs ms f_demand_Of [.fz k (tks l), .fz k' (ints a), .int .i64 n] (pairI (dOf l a n)) := by
  refine pc_of (by simp [clL, AV.cl, cl_ints, cl_tks]) rfl ?_
  refine vd_begin (af := C_demand_Of) rfl (Nat.le_of_ble_eq_true rfl) ?_
  generalize hQ : (fun (v : AV) (_ : Heap) => v = pairI (dOf l a n)) = Q
  set_option smartUnfolding false in conv => whnf
  refine vc_seq false ?_
  set_option smartUnfolding false in conv => whnf
  refine vc_seq false ?_
  set_option smartUnfolding false in conv => whnf
  refine vd_pure (check_c k k' l a hl ha) ?_
  set_option smartUnfolding false in conv => whnf
  iterate 4 (all_goals (first | (refine br (fun hc => ?_) (fun hc => ?_) <;> (try rw [hc]) <;> (set_option smartUnfolding false in conv => whnf)) | skip))
  · subst hQ; simp at hc; simp [dOf, hc, pairI]
  · subst hQ; simp at hc; rw [dOf, if_neg (by omega)]; rfl
  · subst hQ; simp at hc; rw [dOf, if_neg (by omega)]; rfl
  · have h0 : demCheck l a = 0 := by rename_i h1 h2; simpa using h1
    obtain ⟨h9, h1, h2⟩ := demCheck_ok h0
    have h3 := tasksOk_len h1
    refine vc_frz [0] (i := 5) (v' := .fp [.int .i64 n] 0) rfl (.ptr' (by simp) rfl (.clean rfl)) ?_
    refine vpC_sound (z := false) ?_
    set_option smartUnfolding false in conv => whnf
    refine vd_pure (each_c (q := jobsS n) k k' l a (askS (jobsS n) l a) (by omega) h2 (by simp [askS, h2]) rfl (fun t ht => jobs_c n t (by have := (tasksOk_p h1 ht).2; omega)) (fun j _ _ _ => by simp [askS])) ?_
    set_option smartUnfolding false in conv => whnf
    refine vd_pure (dsum_c _ _ (by simp [askS]; omega)) ?_
    set_option smartUnfolding false in conv => whnf
    subst hQ
    rename_i c1 c2
    simp at hc c2
    rw [dOf, if_pos (by omega)]
    rfl
end Ir
end Go.Proofs.Ytlndlbngfgaoeaa
