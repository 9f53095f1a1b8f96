/-
  Demand: what the document's Check refuses.
-/
import Derived.Test.YtbmnehpppegecaaVDemD
set_option maxRecDepth 100000
set_option linter.unusedSimpArgs false
set_option linter.unusedVariables false
namespace Go.Proofs.Ytbmnehpppegecaa
open Go Ads
namespace Ir

theorem rcheck_run {k k' : Nat} {l : List Tk} {a : List Int} (hl : l.length < 2 ^ 62) (ha : a.length < 2 ^ 62) (N : Nat) (okf : Nat → Bool) (h0 : okf 0 = (tasksOk l && decide (a.length = l.length)))
    (h1 : ∀ i, i < N → okf i = true ∧ ∃ hi : i < a.length, okf (i + 1) = !moreBad a[i]) (h2 : N < a.length → okf N = false) :
    PC fs ms f_escapementref08_Check [.fz k (tks l), .fz k' (ints a)] (.int .i64 (if okf N = true then 0 else 2)) := by
  refine pc_of (by simp [clL, AV.cl, cl_tks, cl_ints]) rfl ?_
  refine vd_start (af := C_escapementref08_Check) false rfl (Nat.le_of_ble_eq_true rfl) ?_
  generalize hQ : (fun (v : AV) (_ : Heap) => v = .int .i64 (if okf N = true then 0 else 2)) = Q
  set_option smartUnfolding false in conv => whnf
  refine vd_pure (rtasks_c k l hl) ?_
  set_option smartUnfolding false in conv => whnf
  refine br (fun hc => ?_) (fun hc => ?_) <;> (try rw [hc]) <;> (set_option smartUnfolding false in conv => whnf)
  all_goals (
    refine vc_to0 6 [(0, .fz k (tks l)), (1, .fz k' (ints a)), (5, .bool (okf 0)), (6, .int .i64 ((0 : Nat) : Int))] ⟨⟨_, rfl, .cl (by simp [AV.cl, cl_tks])⟩, ⟨_, rfl, .cl (by simp [AV.cl, cl_ints])⟩, ⟨_, congrArg (fun b => some (AV.bool b)) (by
      rw [h0, hc]
      first
        | rfl
        | (rw [Bool.true_and, Bool.eq_iff_iff, beq_iff_eq, len_ints, len_tks]; simp; omega)), .cl rfl⟩, ⟨_, rfl, .cl rfl⟩, trivial⟩ ?_
    refine for_row 6 N (fun _ => True) (fun i => [(0, .fz k (tks l)), (1, .fz k' (ints a)), (5, .bool (okf i)), (6, .int .i64 (i : Nat))]) ?_ ?_ trivial
    · intro i hi _
      obtain ⟨o1, hia, o2⟩ := h1 i hi
      set_option smartUnfolding false in conv => whnf
      refine br (fun hc => ?_) (fun hc => ?_) <;> (try rw [hc]) <;> (set_option smartUnfolding false in conv => whnf)
      · rw [o1]
        set_option smartUnfolding false in conv => whnf
        refine ⟨_, idx_int hia, ?_⟩
        set_option smartUnfolding false in conv => whnf
        refine br (fun hc => ?_) (fun hc => ?_) <;> (try rw [hc]) <;> (set_option smartUnfolding false in conv => whnf)
        · refine ⟨_, idx_int hia, ?_⟩
          set_option smartUnfolding false in conv => whnf
          refine ⟨trivial, ⟨_, rfl, .cl (by simp [AV.cl, cl_tks])⟩, ⟨_, rfl, .cl (by simp [AV.cl, cl_ints])⟩, ⟨_, congrArg (fun b => some (AV.bool b)) ?_, .cl rfl⟩, ⟨_, inc_slot (by omega), .cl rfl⟩, trivial⟩
          rw [o2, moreBad, Bool.eq_iff_iff]
          simp at hc
          simp
          omega
        · refine ⟨trivial, ⟨_, rfl, .cl (by simp [AV.cl, cl_tks])⟩, ⟨_, rfl, .cl (by simp [AV.cl, cl_ints])⟩, ⟨_, congrArg (fun b => some (AV.bool b)) ?_, .cl rfl⟩, ⟨_, inc_slot (by omega), .cl rfl⟩, trivial⟩
          rw [o2, moreBad, Bool.eq_iff_iff]
          simp at hc
          simp
          omega
      · exfalso
        have := of_decide_eq_false hc
        rw [len_ints] at this
        omega
    · intro _
      set_option smartUnfolding false in conv => whnf
      refine br (fun hc => ?_) (fun hc => ?_) <;> (try rw [hc]) <;> (set_option smartUnfolding false in conv => whnf)
      · have := of_decide_eq_true hc
        rw [len_ints] at this
        have hN := h2 (by omega)
        rw [hN]
        set_option smartUnfolding false in conv => whnf
        subst hQ
        rw [hN]
        rfl
      · refine br (fun hc => ?_) (fun hc => ?_) <;> (try rw [hc]) <;> (set_option smartUnfolding false in conv => whnf)
        · subst hQ; simp at hc; simp [hc]
        · subst hQ; simp at hc; simp [hc])

theorem rcheck_c (k k' : Nat) (l : List Tk) (a : List Int) (hl : l.length < 2 ^ 62) (ha : a.length < 2 ^ 62) : PC fs ms f_escapementref08_Check [.fz k (tks l), .fz k' (ints a)] (.int .i64 (demCheck l a)) := by
  cases h0 : (tasksOk l && decide (a.length = l.length)) with
  | false =>
    have := rcheck_run (k := k) (k' := k') hl ha 0 (fun _ => false) h0.symm (fun i hi => by omega) (fun _ => rfl)
    rwa [show demCheck l a = 2 by
      rw [demCheck, if_neg]
      rintro ⟨_, x, y⟩
      rw [x, decide_eq_true y] at h0
      simp at h0]
  | true =>
    have h0' := h0
    simp only [Bool.and_eq_true, decide_eq_true_eq] at h0'
    cases hb : a.any moreBad with
    | false =>
      have := rcheck_run (k := k) (k' := k') hl ha a.length (fun _ => true) h0.symm (fun i hi => ⟨rfl, hi, by
        have : moreBad a[i] = false := by
          rw [Bool.eq_false_iff]; intro h
          have : a.any moreBad = true := List.any_eq_true.2 ⟨_, List.getElem_mem hi, h⟩
          rw [this] at hb; simp at hb
        rw [this]; rfl⟩) (fun h => by omega)
      rwa [show demCheck l a = 0 by rw [demCheck, if_pos ⟨hb, h0'.1, h0'.2⟩]]
    | true =>
      obtain ⟨j, hj, b1, b2⟩ := least_get (l := a) (p := fun m => moreBad m = true) (by simpa using hb)
      have := rcheck_run (k := k) (k' := k') hl ha (j + 1) (fun i => decide (i ≤ j)) (by rw [h0]; simp) (fun i hi => ⟨by simp; omega, by omega, by
        by_cases hij : i = j
        · subst hij; rw [b1]; simp
        · have := b2 i (by omega) (by omega)
          rw [Bool.eq_false_iff.2 this]; simp; omega⟩) (fun _ => by simp)
      rw [show (if decide (j + 1 ≤ j) = true then (0 : Int) else 2) = 2 by rw [if_neg]; simp] at this
      rwa [show demCheck l a = 2 by rw [demCheck, if_neg]; rintro ⟨x, _⟩; rw [x] at hb; simp at hb]
end Ir
end Go.Proofs.Ytbmnehpppegecaa
