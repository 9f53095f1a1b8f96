/-
  Demand: the document's Of.
-/
import Derived.Test.YtbmnehpppegecaaVDemH
set_option maxRecDepth 100000
set_option linter.unusedSimpArgs false
set_option linter.unusedVariables false
namespace Go.Proofs.Ytbmnehpppegecaa
open Go Ads
namespace Ir

theorem sumW_next {l : List Int} {j : Nat} (h : j < l.length) : sumW (l.take (j + 1)) = IntKind.i64.wrap (sumW (l.take j) + l[j]) := by
  rw [take_next h, sumW, List.foldl_append]
  rfl
theorem sumW_in (l : List Int) : IntKind.i64.wrap (sumW l) = sumW l := by
  rcases List.eq_nil_or_concat l with h | ⟨m, x, h⟩
  · subst h; rfl
  · subst h
    rw [List.concat_eq_append, sumW, List.foldl_append]
    show IntKind.i64.wrap (IntKind.i64.wrap (_ + x)) = IntKind.i64.wrap (_ + x)
    exact wrap_wrap _

theorem rof_c (k k' : Nat) (l : List Tk) (a : List Int) (n : Int) (hl : l.length < 2 ^ 62) (ha : a.length < 2 ^ 62) : PC fs ms f_escapementref08_Of [.fz k (tks l), .fz k' (ints a), .int .i64 n] (pairI (dOf l a n)) := by
  refine pc_of (by simp [clL, AV.cl, cl_ints, cl_tks]) rfl ?_
  refine vd_start (af := C_escapementref08_Of) false rfl (Nat.le_of_ble_eq_true rfl) ?_
  generalize hQ : (fun (v : AV) (_ : Heap) => v = pairI (dOf l a n)) = Q
  set_option smartUnfolding false in conv => whnf
  refine vd_pure (rcheck_c k k' l a hl ha) ?_
  set_option smartUnfolding false in conv => whnf
  iterate 4 (all_goals (first | (refine br (fun hc => ?_) (fun hc => ?_) <;> (try rw [hc]) <;> (set_option smartUnfolding false in conv => whnf)) | skip))
  · subst hQ; simp at hc; simp [dOf, hc, pairI]
  · subst hQ; simp at hc; rw [dOf, if_neg (by omega)]; rfl
  · subst hQ; simp at hc; rw [dOf, if_neg (by omega)]; rfl
  · rename_i c0 c1
    have h0 : demCheck l a = 0 := by simpa using c0
    obtain ⟨h9, h1, h2⟩ := demCheck_ok h0
    have h3 := tasksOk_len h1
    simp at hc c1
    refine vc_to0 6 [(0, .fz k (tks l)), (1, .fz k' (ints a)), (2, .int .i64 n), (8, .int .i64 (sumW ((askS (jobsS n) l a).take 0))), (9, .int .i64 ((0 : Nat) : Int))] (by repeat' (first | exact trivial | refine renAt_sl rfl (by omega) ?_ | refine renAt_cl rfl (by first | rfl | simp [clL, AV.cl, cl_ints, cl_tks]) ?_ | refine renAt_cl (inc_slot (by omega)) rfl ?_)) ?_
    refine for_row 6 l.length (fun _ => True) (fun j => [(0, .fz k (tks l)), (1, .fz k' (ints a)), (2, .int .i64 n), (8, .int .i64 (sumW ((askS (jobsS n) l a).take j))), (9, .int .i64 (j : Nat))]) ?_ ?_ trivial
    · intro j hj _
      have hp := (tasksOk_p h1 (List.getElem_mem hj)).2
      have hA : (askS (jobsS n) l a).length = l.length := by simp [askS, h2]
      have hx : (askS (jobsS n) l a)[j]'(by omega) = IntKind.i64.wrap (jobsS n l[j] * IntKind.i64.wrap (l[j].w + a[j]'(by omega))) := by simp [askS]
      set_option smartUnfolding false in conv => whnf
      refine br (fun hc => ?_) (fun hc => ?_) <;> (try rw [hc]) <;> (set_option smartUnfolding false in conv => whnf)
      · refine ⟨_, idx_tk hj, ?_⟩
        set_option smartUnfolding false in conv => whnf
        refine br (fun hc => ?_) (fun hc => ?_) <;> (try rw [hc]) <;> (set_option smartUnfolding false in conv => whnf)
        · refine ⟨_, idx_tk hj, ?_⟩
          set_option smartUnfolding false in conv => whnf
          refine ⟨_, idx_tk hj, ?_⟩
          set_option smartUnfolding false in conv => whnf
          refine ⟨_, quo_val _ _ (by omega), ?_⟩
          set_option smartUnfolding false in conv => whnf
          refine ⟨_, idx_tk hj, ?_⟩
          set_option smartUnfolding false in conv => whnf
          refine ⟨_, idx_int (by omega), ?_⟩
          set_option smartUnfolding false in conv => whnf
          refine ⟨trivial, ⟨_, rfl, .cl (by simp [AV.cl, cl_tks])⟩, ⟨_, rfl, .cl (by simp [AV.cl, cl_ints])⟩, ⟨_, rfl, .cl rfl⟩, ⟨_, congrArg (fun b => some (AV.int .i64 b)) ?_, .cl rfl⟩, ⟨_, inc_slot (by omega), .cl rfl⟩, trivial⟩
          rw [sumW_next (by omega), hx, jobsS, if_neg (by simp at hc; omega)]
        · refine ⟨trivial, ⟨_, rfl, .cl (by simp [AV.cl, cl_tks])⟩, ⟨_, rfl, .cl (by simp [AV.cl, cl_ints])⟩, ⟨_, rfl, .cl rfl⟩, ⟨_, congrArg (fun b => some (AV.int .i64 b)) ?_, .cl rfl⟩, ⟨_, inc_slot (by omega), .cl rfl⟩, trivial⟩
          rw [sumW_next (by omega), hx, jobsS, if_pos (by simp at hc; omega), Int.zero_mul]
          simp only [show IntKind.i64.wrap 0 = 0 from rfl, Int.add_zero, sumW_in]
      · exfalso
        have := of_decide_eq_false hc
        rw [len_tks] at this
        omega
    · intro _
      set_option smartUnfolding false in conv => whnf
      refine br (fun hc => ?_) (fun hc => ?_) <;> (try rw [hc]) <;> (set_option smartUnfolding false in conv => whnf)
      · exfalso
        have := of_decide_eq_true hc
        rw [len_tks] at this
        omega
      · subst hQ
        rw [dOf, if_pos (by omega), List.take_of_length_le (by simp [askS]; omega)]
        rfl
end Ir
end Go.Proofs.Ytbmnehpppegecaa
