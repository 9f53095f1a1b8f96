/-
  Demand: Use of both.
-/
import Derived.Test.YtlndlbngfgaoeaaVDemI
set_option maxRecDepth 100000
set_option linter.unusedSimpArgs false
set_option linter.unusedVariables false
namespace Go.Proofs.Ytlndlbngfgaoeaa
open Go Ads
namespace Ir

def useS (n : Int) (t : Tk) : Int := IntKind.i64.wrap (n.tdiv t.p)
/-- Is the hyperperiod none of a task's? -/
def oddT (n : Int) (t : Tk) : Bool := n.tmod t.p != 0
def dUse (l : List Tk) (a : List Int) (n : Int) : Int × Int := if demCheck l a = 0 ∧ 1 ≤ n ∧ n ≤ 1048576 ∧ l.any (oddT n) = false then (sumW (askS (useS n) l a), 0) else (0, 2)

theorem use1_c (n : Int) (t : Tk) (hp : t.p ≠ 0) : PC fs ms f_demand_Use_1 [tk t, .fp [.int .i64 n] 0] (.bool (oddT n t)) := by
  refine pc_of rfl rfl ?_
  refine vd_start (af := C_demand_Use_1) false rfl (Nat.le_of_ble_eq_true rfl) ?_
  generalize hQ : (fun (v : AV) (_ : Heap) => v = .bool (oddT n t)) = Q
  set_option smartUnfolding false in conv => whnf
  refine ⟨_, rem_val _ _ hp, ?_⟩
  set_option smartUnfolding false in conv => whnf
  subst hQ
  rfl
theorem use2_c (n : Int) (t : Tk) (hp : t.p ≠ 0) : PC fs ms f_demand_Use_2 [tk t, .fp [.int .i64 n] 0] (.int .i64 (useS n t)) := by
  refine pc_of rfl rfl ?_
  refine vd_start (af := C_demand_Use_2) false rfl (Nat.le_of_ble_eq_true rfl) ?_
  generalize hQ : (fun (v : AV) (_ : Heap) => v = .int .i64 (useS n t)) = Q
  set_option smartUnfolding false in conv => whnf
  refine ⟨_, quo_val _ _ hp, ?_⟩
  set_option smartUnfolding false in conv => whnf
  subst hQ
  rfl

theorem duse_c (k k' : Nat) (l : List Tk) (a : List Int) (n : Int) (hl : l.length < 2 ^ 62) (ha : a.length < 2 ^ 62) : PC fs ms f_demand_Use [.fz k (tks l), .fz k' (ints a), .int .i64 n] (pairI (dUse l a n)) := by
  refine pc_of (by simp [clL, AV.cl, cl_ints, cl_tks]) rfl ?_
  refine vd_begin (af := C_demand_Use) rfl (Nat.le_of_ble_eq_true rfl) ?_
  generalize hQ : (fun (v : AV) (_ : Heap) => v = pairI (dUse l a n)) = Q
  set_option smartUnfolding false in conv => whnf
  refine vc_seq false ?_
  set_option smartUnfolding false in conv => whnf
  refine vc_seq false ?_
  set_option smartUnfolding false in conv => whnf
  refine vd_pure (check_c k k' l a hl ha) ?_
  set_option smartUnfolding false in conv => whnf
  iterate 4 (all_goals (first | (refine br (fun hc => ?_) (fun hc => ?_) <;> (try rw [hc]) <;> (set_option smartUnfolding false in conv => whnf)) | skip))
  · subst hQ; simp at hc; simp [dUse, hc, pairI]
  · subst hQ; simp at hc; rw [dUse, if_neg (by omega)]; rfl
  · subst hQ; simp at hc; rw [dUse, if_neg (by omega)]; rfl
  · rename_i c0 c1
    have h0 : demCheck l a = 0 := by simpa using c0
    obtain ⟨h9, h1, h2⟩ := demCheck_ok h0
    have h3 := tasksOk_len h1
    simp at hc c1
    refine vc_frz [0] (i := 5) (v' := .fp [.int .i64 n] 0) rfl (.ptr' (by simp) rfl (.clean rfl)) ?_
    refine vpC_sound (z := false) ?_
    set_option smartUnfolding false in conv => whnf
    refine vd_pure (cfT_c (p := oddT n) k l hl rfl (fun t ht => use1_c n t (by have := (tasksOk_p h1 ht).2; omega))) ?_
    set_option smartUnfolding false in conv => whnf
    refine br (fun hc2 => ?_) (fun hc2 => ?_) <;> rw [hc2] <;> set_option smartUnfolding false in conv => whnf
    · subst hQ
      rw [dUse, if_neg (by rw [hc2]; simp)]
      rfl
    · refine vd_pure (each_c (q := useS n) k k' l a (askS (useS n) l a) (by omega) h2 (by simp [askS, h2]) rfl (fun t ht => use2_c n t (by have := (tasksOk_p h1 ht).2; omega)) (fun j _ _ _ => by simp [askS])) ?_
      set_option smartUnfolding false in conv => whnf
      refine vd_pure (dsum_c _ _ (by simp [askS]; omega)) ?_
      set_option smartUnfolding false in conv => whnf
      subst hQ
      rw [dUse, if_pos ⟨h0, by omega, by omega, hc2⟩]
      rfl

theorem any_take {α : Type} {l : List α} {p : α → Bool} {j : Nat} (hj : j < l.length) (h : p l[j] = true) : l.any p = true := List.any_eq_true.2 ⟨l[j], List.getElem_mem hj, h⟩
theorem any_next {α : Type} {l : List α} {p : α → Bool} {j : Nat} (hj : j < l.length) (hi : (l.take j).any p = false) (h : p l[j] = false) : (l.take (j + 1)).any p = false := by
  rw [take_next hj, List.any_append, hi]; simp [h]

end Ir
end Go.Proofs.Ytlndlbngfgaoeaa
