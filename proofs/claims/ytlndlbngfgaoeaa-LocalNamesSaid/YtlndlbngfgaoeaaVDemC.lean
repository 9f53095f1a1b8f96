/-
  Demand: ContainsFunc over numbers and tasks.
-/
import Derived.Test.YtlndlbngfgaoeaaVDemB
set_option maxRecDepth 100000
set_option linter.unusedSimpArgs false
set_option linter.unusedVariables false
namespace Go.Proofs.Ytlndlbngfgaoeaa
open Go Ads
namespace Ir

theorem ixfI_c {F : Nat} {capt : List AV} {p : Int → Bool} (k : Nat) (l : List Int) (hl : l.length < 2 ^ 62) (hcap : clL capt = true) (hp : ∀ m, PC fs ms F (.int .i64 m :: capt) (.bool (p m))) :
    ∃ n : Int, PC fs ms f_slices_IndexFunc_int_int [.fz k (ints l), .func (.func F) [] capt] (.int .i64 n) ∧ decide (n ≥ 0) = l.any p := by
  by_cases ha : l.any p = true
  · obtain ⟨j, hj, h1, h2⟩ := least_get (l := l) (p := fun m => p m = true) (by simpa using ha)
    refine ⟨(j : Nat), ?_, by rw [ha]; simp⟩
    refine pc_of (by simp [clL, AV.cl, cl_ints, hcap]) rfl ?_
    refine vd_start (af := C_slices_IndexFunc_int_int) false rfl (Nat.le_of_ble_eq_true rfl) ?_
    generalize hQ : (fun (v : AV) (_ : Heap) => v = .int .i64 (j : Nat)) = Q
    set_option smartUnfolding false in conv => whnf
    refine vc_to0 5 [(0, .fz k (ints l)), (1, .func (.func F) [] capt), (7, .int .i64 (ints l).length), (8, .int .i64 ((0 : Nat) : Int))] (by repeat' (first | exact trivial | refine renAt_sl rfl (by omega) ?_ | refine renAt_ptr rfl (by omega) ?_ | refine renAt_yield rfl (by omega) ?_ | refine renAt_cl rfl (by first | rfl | simp [clL, AV.cl, cl_ints, hcap]) ?_ | refine renAt_cl (inc_slot (by omega)) rfl ?_)) ?_
    refine for_row 5 j (fun _ => True) (fun i => [(0, .fz k (ints l)), (1, .func (.func F) [] capt), (7, .int .i64 (ints l).length), (8, .int .i64 (i : Nat))]) ?_ ?_ trivial
    · intro i hi _
      set_option smartUnfolding false in conv => whnf
      refine br (fun hc => ?_) (fun hc => ?_) <;> (try rw [hc]) <;> (set_option smartUnfolding false in conv => whnf)
      · refine ⟨_, idx_int (by omega), ?_⟩
        set_option smartUnfolding false in conv => whnf
        refine vd_pure (hp _) ?_
        set_option smartUnfolding false in conv => whnf
        refine br (fun hc => ?_) (fun hc => ?_) <;> (try rw [hc]) <;> (set_option smartUnfolding false in conv => whnf)
        · exact absurd hc (h2 i (by omega) hi)
        · refine ⟨trivial, ⟨_, rfl, .cl (by simp [AV.cl, cl_ints])⟩, ⟨_, rfl, .cl (by simp [AV.cl, clL, hcap])⟩, ⟨_, rfl, .cl rfl⟩, ⟨_, inc_slot (by omega), .cl rfl⟩, trivial⟩
      · exfalso
        have := of_decide_eq_false hc
        rw [len_ints] at this
        omega
    · intro _
      set_option smartUnfolding false in conv => whnf
      refine br (fun hc => ?_) (fun hc => ?_) <;> (try rw [hc]) <;> (set_option smartUnfolding false in conv => whnf)
      · refine ⟨_, idx_int hj, ?_⟩
        set_option smartUnfolding false in conv => whnf
        refine vd_pure (hp _) ?_
        set_option smartUnfolding false in conv => whnf
        refine br (fun hc => ?_) (fun hc => ?_) <;> (try rw [hc]) <;> (set_option smartUnfolding false in conv => whnf)
        · subst hQ
          rfl
        · rw [h1] at hc; simp at hc
      · exfalso
        have := of_decide_eq_false hc
        rw [len_ints] at this
        omega
  · have hn : ∀ m, m ∈ l → p m = false := by
      intro m hm
      rw [Bool.eq_false_iff]
      intro h
      exact ha (List.any_eq_true.2 ⟨m, hm, h⟩)
    refine ⟨-1, ?_, by rw [Bool.eq_false_iff.2 ha]; decide⟩
    refine pc_of (by simp [clL, AV.cl, cl_ints, hcap]) rfl ?_
    refine vd_start (af := C_slices_IndexFunc_int_int) false rfl (Nat.le_of_ble_eq_true rfl) ?_
    generalize hQ : (fun (v : AV) (_ : Heap) => v = .int .i64 (-1)) = Q
    set_option smartUnfolding false in conv => whnf
    refine vc_to0 5 [(0, .fz k (ints l)), (1, .func (.func F) [] capt), (7, .int .i64 (ints l).length), (8, .int .i64 ((0 : Nat) : Int))] (by repeat' (first | exact trivial | refine renAt_sl rfl (by omega) ?_ | refine renAt_ptr rfl (by omega) ?_ | refine renAt_yield rfl (by omega) ?_ | refine renAt_cl rfl (by first | rfl | simp [clL, AV.cl, cl_ints, hcap]) ?_ | refine renAt_cl (inc_slot (by omega)) rfl ?_)) ?_
    refine for_row 5 l.length (fun _ => True) (fun i => [(0, .fz k (ints l)), (1, .func (.func F) [] capt), (7, .int .i64 (ints l).length), (8, .int .i64 (i : Nat))]) ?_ ?_ trivial
    · intro i hi _
      set_option smartUnfolding false in conv => whnf
      refine br (fun hc => ?_) (fun hc => ?_) <;> (try rw [hc]) <;> (set_option smartUnfolding false in conv => whnf)
      · refine ⟨_, idx_int (by omega), ?_⟩
        set_option smartUnfolding false in conv => whnf
        refine vd_pure (hp _) ?_
        set_option smartUnfolding false in conv => whnf
        refine br (fun hc => ?_) (fun hc => ?_) <;> (try rw [hc]) <;> (set_option smartUnfolding false in conv => whnf)
        · rw [hn _ (List.getElem_mem hi)] at hc; simp at hc
        · refine ⟨trivial, ⟨_, rfl, .cl (by simp [AV.cl, cl_ints])⟩, ⟨_, rfl, .cl (by simp [AV.cl, clL, hcap])⟩, ⟨_, rfl, .cl rfl⟩, ⟨_, inc_slot (by omega), .cl rfl⟩, trivial⟩
      · exfalso
        have := of_decide_eq_false hc
        rw [len_ints] at this
        omega
    · intro _
      set_option smartUnfolding false in conv => whnf
      refine br (fun hc => ?_) (fun hc => ?_) <;> (try rw [hc]) <;> (set_option smartUnfolding false in conv => whnf)
      · exfalso
        have := of_decide_eq_true hc
        rw [len_ints] at this
        omega
      · subst hQ
        rfl

theorem cfI_c {F : Nat} {capt : List AV} {p : Int → Bool} (k : Nat) (l : List Int) (hl : l.length < 2 ^ 62) (hcap : clL capt = true) (hp : ∀ m, PC fs ms F (.int .i64 m :: capt) (.bool (p m))) :
    PC fs ms f_slices_ContainsFunc_int_int [.fz k (ints l), .func (.func F) [] capt] (.bool (l.any p)) := by
  obtain ⟨n, c1, c2⟩ := ixfI_c k l hl hcap hp
  refine pc_of (by simp [clL, AV.cl, cl_ints, hcap]) rfl ?_
  refine vd_start (af := C_slices_ContainsFunc_int_int) false rfl (Nat.le_of_ble_eq_true rfl) ?_
  generalize hQ : (fun (v : AV) (_ : Heap) => v = .bool (l.any p)) = Q
  set_option smartUnfolding false in conv => whnf
  refine vd_pure c1 ?_
  set_option smartUnfolding false in conv => whnf
  subst hQ
  exact congrArg AV.bool c2
theorem ixfT_c {F : Nat} {capt : List AV} {p : Tk → Bool} (k : Nat) (l : List Tk) (hl : l.length < 2 ^ 62) (hcap : clL capt = true) (hp : ∀ m, m ∈ l → PC fs ms F (tk m :: capt) (.bool (p m))) :
    ∃ n : Int, PC fs ms f_slices_IndexFunc_api_Task_api_Task [.fz k (tks l), .func (.func F) [] capt] (.int .i64 n) ∧ decide (n ≥ 0) = l.any p := by
  by_cases ha : l.any p = true
  · obtain ⟨j, hj, h1, h2⟩ := least_get (l := l) (p := fun m => p m = true) (by simpa using ha)
    refine ⟨(j : Nat), ?_, by rw [ha]; simp⟩
    refine pc_of (by simp [clL, AV.cl, cl_tks, hcap]) rfl ?_
    refine vd_start (af := C_slices_IndexFunc_api_Task_api_Task) false rfl (Nat.le_of_ble_eq_true rfl) ?_
    generalize hQ : (fun (v : AV) (_ : Heap) => v = .int .i64 (j : Nat)) = Q
    set_option smartUnfolding false in conv => whnf
    refine vc_to0 5 [(0, .fz k (tks l)), (1, .func (.func F) [] capt), (7, .int .i64 (tks l).length), (8, .int .i64 ((0 : Nat) : Int))] (by repeat' (first | exact trivial | refine renAt_sl rfl (by omega) ?_ | refine renAt_ptr rfl (by omega) ?_ | refine renAt_yield rfl (by omega) ?_ | refine renAt_cl rfl (by first | rfl | simp [clL, AV.cl, cl_ints, cl_tks, hcap]) ?_ | refine renAt_cl (inc_slot (by omega)) rfl ?_)) ?_
    refine for_row 5 j (fun _ => True) (fun i => [(0, .fz k (tks l)), (1, .func (.func F) [] capt), (7, .int .i64 (tks l).length), (8, .int .i64 (i : Nat))]) ?_ ?_ trivial
    · intro i hi _
      set_option smartUnfolding false in conv => whnf
      refine br (fun hc => ?_) (fun hc => ?_) <;> (try rw [hc]) <;> (set_option smartUnfolding false in conv => whnf)
      · refine ⟨_, idx_tk (by omega), ?_⟩
        set_option smartUnfolding false in conv => whnf
        refine vd_pure (hp _ (List.getElem_mem _)) ?_
        set_option smartUnfolding false in conv => whnf
        refine br (fun hc => ?_) (fun hc => ?_) <;> (try rw [hc]) <;> (set_option smartUnfolding false in conv => whnf)
        · exact absurd hc (h2 i (by omega) hi)
        · refine ⟨trivial, ⟨_, rfl, .cl (by simp [AV.cl, cl_tks])⟩, ⟨_, rfl, .cl (by simp [AV.cl, clL, hcap])⟩, ⟨_, rfl, .cl rfl⟩, ⟨_, inc_slot (by omega), .cl rfl⟩, trivial⟩
      · exfalso
        have := of_decide_eq_false hc
        rw [len_tks] at this
        omega
    · intro _
      set_option smartUnfolding false in conv => whnf
      refine br (fun hc => ?_) (fun hc => ?_) <;> (try rw [hc]) <;> (set_option smartUnfolding false in conv => whnf)
      · refine ⟨_, idx_tk hj, ?_⟩
        set_option smartUnfolding false in conv => whnf
        refine vd_pure (hp _ (List.getElem_mem _)) ?_
        set_option smartUnfolding false in conv => whnf
        refine br (fun hc => ?_) (fun hc => ?_) <;> (try rw [hc]) <;> (set_option smartUnfolding false in conv => whnf)
        · subst hQ
          rfl
        · rw [h1] at hc; simp at hc
      · exfalso
        have := of_decide_eq_false hc
        rw [len_tks] at this
        omega
  · have hn : ∀ m, m ∈ l → p m = false := by
      intro m hm
      rw [Bool.eq_false_iff]
      intro h
      exact ha (List.any_eq_true.2 ⟨m, hm, h⟩)
    refine ⟨-1, ?_, by rw [Bool.eq_false_iff.2 ha]; decide⟩
    refine pc_of (by simp [clL, AV.cl, cl_tks, hcap]) rfl ?_
    refine vd_start (af := C_slices_IndexFunc_api_Task_api_Task) false rfl (Nat.le_of_ble_eq_true rfl) ?_
    generalize hQ : (fun (v : AV) (_ : Heap) => v = .int .i64 (-1)) = Q
    set_option smartUnfolding false in conv => whnf
    refine vc_to0 5 [(0, .fz k (tks l)), (1, .func (.func F) [] capt), (7, .int .i64 (tks l).length), (8, .int .i64 ((0 : Nat) : Int))] (by repeat' (first | exact trivial | refine renAt_sl rfl (by omega) ?_ | refine renAt_ptr rfl (by omega) ?_ | refine renAt_yield rfl (by omega) ?_ | refine renAt_cl rfl (by first | rfl | simp [clL, AV.cl, cl_ints, cl_tks, hcap]) ?_ | refine renAt_cl (inc_slot (by omega)) rfl ?_)) ?_
    refine for_row 5 l.length (fun _ => True) (fun i => [(0, .fz k (tks l)), (1, .func (.func F) [] capt), (7, .int .i64 (tks l).length), (8, .int .i64 (i : Nat))]) ?_ ?_ trivial
    · intro i hi _
      set_option smartUnfolding false in conv => whnf
      refine br (fun hc => ?_) (fun hc => ?_) <;> (try rw [hc]) <;> (set_option smartUnfolding false in conv => whnf)
      · refine ⟨_, idx_tk (by omega), ?_⟩
        set_option smartUnfolding false in conv => whnf
        refine vd_pure (hp _ (List.getElem_mem _)) ?_
        set_option smartUnfolding false in conv => whnf
        refine br (fun hc => ?_) (fun hc => ?_) <;> (try rw [hc]) <;> (set_option smartUnfolding false in conv => whnf)
        · rw [hn _ (List.getElem_mem hi)] at hc; simp at hc
        · refine ⟨trivial, ⟨_, rfl, .cl (by simp [AV.cl, cl_tks])⟩, ⟨_, rfl, .cl (by simp [AV.cl, clL, hcap])⟩, ⟨_, rfl, .cl rfl⟩, ⟨_, inc_slot (by omega), .cl rfl⟩, trivial⟩
      · exfalso
        have := of_decide_eq_false hc
        rw [len_tks] at this
        omega
    · intro _
      set_option smartUnfolding false in conv => whnf
      refine br (fun hc => ?_) (fun hc => ?_) <;> (try rw [hc]) <;> (set_option smartUnfolding false in conv => whnf)
      · exfalso
        have := of_decide_eq_true hc
        rw [len_tks] at this
        omega
      · subst hQ
        rfl

theorem cfT_c {F : Nat} {capt : List AV} {p : Tk → Bool} (k : Nat) (l : List Tk) (hl : l.length < 2 ^ 62) (hcap : clL capt = true) (hp : ∀ m, m ∈ l → PC fs ms F (tk m :: capt) (.bool (p m))) :
    PC fs ms f_slices_ContainsFunc_api_Task_api_Task [.fz k (tks l), .func (.func F) [] capt] (.bool (l.any p)) := by
  obtain ⟨n, c1, c2⟩ := ixfT_c k l hl hcap hp
  refine pc_of (by simp [clL, AV.cl, cl_tks, hcap]) rfl ?_
  refine vd_start (af := C_slices_ContainsFunc_api_Task_api_Task) false rfl (Nat.le_of_ble_eq_true rfl) ?_
  generalize hQ : (fun (v : AV) (_ : Heap) => v = .bool (l.any p)) = Q
  set_option smartUnfolding false in conv => whnf
  refine vd_pure c1 ?_
  set_option smartUnfolding false in conv => whnf
  subst hQ
  exact congrArg AV.bool c2
end Ir
end Go.Proofs.Ytlndlbngfgaoeaa
