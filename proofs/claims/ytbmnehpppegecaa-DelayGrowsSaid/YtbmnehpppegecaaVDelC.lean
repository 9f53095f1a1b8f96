/-
  Delay: the document's Check.
-/
import Derived.Test.YtbmnehpppegecaaVDelB
set_option maxRecDepth 100000
set_option linter.unusedSimpArgs false
set_option linter.unusedVariables false
namespace Go.Proofs.Ytbmnehpppegecaa
open Go Ads
namespace Ir

theorem rcheck9_c (k : Nat) (l : List Pt) (hs : Small l) : PC fs ms f_escapementref09_Check [.fz k (pts l)] (.int .i64 (delCheck l)) := by
  refine pc_of (by simp [clL, AV.cl, cl_pts]) rfl ?_
  refine vd_start (af := C_escapementref09_Check) false rfl (Nat.le_of_ble_eq_true rfl) ?_
  generalize hQ : (fun (v : AV) (_ : Heap) => v = .int .i64 (delCheck l)) = Q
  set_option smartUnfolding false in conv => whnf
  refine br (fun hc => ?_) (fun hc => ?_) <;> (try rw [hc]) <;> (set_option smartUnfolding false in conv => whnf)
  · subst hQ
    have := of_decide_eq_true hc
    rw [len_pts] at this
    rw [delCheck, if_neg (by omega)]
  · have hl4 : l.length ≤ 4 := by
      have := of_decide_eq_false hc
      rw [len_pts] at this
      omega
    refine vc_to0 5 [(0, .fz k (pts l)), (3, .int .i64 ((0 : Nat) : Int))] (by repeat' (first | exact trivial | refine renAt_sl rfl (by omega) ?_ | refine renAt_ptr rfl (by omega) ?_ | refine renAt_yield rfl (by omega) ?_ | refine renAt_cl rfl (by first | rfl | simp [clL, AV.cl, cl_ints, cl_pts]) ?_ | refine renAt_cl (inc_slot (by omega)) rfl ?_)) ?_
    refine for_row 5 l.length (fun j => (l.take j).all partOk = true) (fun j => [(0, .fz k (pts l)), (3, .int .i64 (j : Nat))]) ?_ ?_ rfl
    · intro j hj hi
      have hts := hs.2 _ (List.getElem_mem hj)
      have hbad := fun h => delCheck_bad (l := l) hj h
      have hgood := fun h => all_next (p := partOk) hj hi h
      have hix := idx_pt (k := k) hj
      generalize l[j] = x at *
      set_option smartUnfolding false in conv => whnf
      refine br (fun hc => ?_) (fun hc => ?_) <;> (try rw [hc]) <;> (set_option smartUnfolding false in conv => whnf)
      · refine ⟨_, hix, ?_⟩
        set_option smartUnfolding false in conv => whnf
        by_cases hx : partIn x
        · have hx' := hx
          obtain ⟨x1, x2, x3, x4⟩ := hx'
          refine brf (by simp; omega) (fun hc => ?_)
          (try rw [hc])
          set_option smartUnfolding false in conv => whnf
          refine brf (by simp; omega) (fun hc => ?_)
          (try rw [hc])
          set_option smartUnfolding false in conv => whnf
          refine brf (by simp; omega) (fun hc => ?_)
          (try rw [hc])
          set_option smartUnfolding false in conv => whnf
          refine brf (by simp; omega) (fun hc => ?_)
          (try rw [hc])
          set_option smartUnfolding false in conv => whnf
          refine vd_pure (rtasks_c x.k x.ts (by omega)) ?_
          by_cases ht : tasksOk x.ts = true
          · rw [ht]
            set_option smartUnfolding false in conv => whnf
            have htk : ∀ t, t ∈ x.ts → taskOk t = true := by
              simp only [tasksOk, Bool.and_eq_true, List.all_eq_true] at ht
              exact ht.1
            refine vc_frz [0] (i := 4) (v' := .fp (pt x).cells 0) rfl (.ptr' (by simp) rfl (.clean (l := (pt x).cells) (cells_cl (cl_pt x)))) ?_
            refine vc_to0 5 [(0, .fz k (pts l)), (3, .int .i64 (j : Nat)), (4, .fp (pt x).cells 0), (5, .int .i64 ((0 : Nat) : Int))] (by repeat' (first | exact trivial | refine renAt_sl rfl (by omega) ?_ | refine renAt_ptr rfl (by omega) ?_ | refine renAt_yield rfl (by omega) ?_ | refine renAt_cl rfl (by first | rfl | simp [clL, AV.cl, cl_ints, cl_pts, cells_cl (cl_pt x)]) ?_ | refine renAt_cl (inc_slot (by omega)) rfl ?_)) ?_
            refine for_row 5 x.ts.length (fun i => (x.ts.take i).all (fun t => mayD t x.bud) = true) (fun i => [(0, .fz k (pts l)), (3, .int .i64 (j : Nat)), (4, .fp (pt x).cells 0), (5, .int .i64 (i : Nat))]) ?_ ?_ rfl
            · intro i hi2 hall
              set_option smartUnfolding false in conv => whnf
              refine brt (by rw [len_tks]; simp; omega) (fun hc => ?_)
              (try rw [hc])
              set_option smartUnfolding false in conv => whnf
              refine ⟨_, idx_tk hi2, ?_⟩
              set_option smartUnfolding false in conv => whnf
              refine vd_pure (rtask9_c _ x.bud (htk _ (List.getElem_mem hi2)) (by omega)) ?_
              cases hm : mayD (x.ts[i]) x.bud with
              | true =>
                set_option smartUnfolding false in conv => whnf
                exact ⟨all_next hi2 hall hm, (by repeat' (first | exact trivial | refine renAt_sl rfl (by omega) ?_ | refine renAt_ptr rfl (by omega) ?_ | refine renAt_yield rfl (by omega) ?_ | refine renAt_cl rfl (by first | rfl | simp [clL, AV.cl, cl_ints, cl_pts, cells_cl (cl_pt x)]) ?_ | refine renAt_cl (inc_slot (by omega)) rfl ?_))⟩
              | false =>
                set_option smartUnfolding false in conv => whnf
                subst hQ
                rw [hbad]
                rw [partOk, Bool.and_eq_false_iff, Bool.and_eq_false_iff]
                exact .inr (.inr (all_no hi2 hm))
            · intro hall
              rw [List.take_length] at hall
              set_option smartUnfolding false in conv => whnf
              refine brf (by rw [len_tks]; simp) (fun hc => ?_)
              (try rw [hc])
              set_option smartUnfolding false in conv => whnf
              exact ⟨hgood (by simp [partOk, hx, ht, hall]), (by repeat' (first | exact trivial | refine renAt_sl rfl (by omega) ?_ | refine renAt_ptr rfl (by omega) ?_ | refine renAt_yield rfl (by omega) ?_ | refine renAt_cl rfl (by first | rfl | simp [clL, AV.cl, cl_ints, cl_pts]) ?_ | refine renAt_cl (inc_slot (by omega)) rfl ?_))⟩
          · rw [Bool.eq_false_iff.2 ht]
            set_option smartUnfolding false in conv => whnf
            subst hQ
            rw [hbad (by simp [partOk, ht])]
        · have hb : delCheck l = 2 := hbad (by simp [partOk, hx])
          unfold partIn at hx
          iterate 5 (all_goals (first | (refine br (fun hc => ?_) (fun hc => ?_) <;> (try rw [hc]) <;> (set_option smartUnfolding false in conv => whnf)) | skip))
          all_goals first
            | (subst hQ; rw [hb]; done)
            | (exfalso; simp at *; omega)
      · exfalso
        have := of_decide_eq_false hc
        simp only [len_pts] at this
        omega
    · intro hi
      rw [List.take_length] at hi
      set_option smartUnfolding false in conv => whnf
      refine br (fun hc => ?_) (fun hc => ?_) <;> (try rw [hc]) <;> (set_option smartUnfolding false in conv => whnf)
      · exfalso
        have := of_decide_eq_true hc
        simp only [len_pts] at this
        omega
      · subst hQ
        rw [delCheck, if_pos ⟨hl4, hi⟩]
end Ir
end Go.Proofs.Ytbmnehpppegecaa
