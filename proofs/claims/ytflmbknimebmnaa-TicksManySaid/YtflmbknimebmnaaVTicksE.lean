/-
  The contracts of layer 1, over rows as values: the document's Sum and Lcm; works; TicksMany.
-/
import Derived.Test.YtflmbknimebmnaaVTicksD
import Derived.KernelRfl
set_option maxRecDepth 100000
set_option linter.unusedSimpArgs false
set_option linter.unusedVariables false
namespace Go.Proofs.Ytflmbknimebmnaa
open Go Ads
namespace Ir

theorem foldl_stuck {step : Int × Int → Int → Int × Int} (hs : ∀ p m, p.2 ≠ 0 → step p m = p) : ∀ (l : List Int) (p : Int × Int), p.2 ≠ 0 → l.foldl step p = p
  | [], p, _ => rfl
  | x :: l, p, hp => by rw [List.foldl_cons, hs p x hp]; exact foldl_stuck hs l p hp
theorem foldl_take {step : Int × Int → Int → Int × Int} (hs : ∀ p m, p.2 ≠ 0 → step p m = p) {l : List Int} {j : Nat} (p : Int × Int) (h : ((l.take j).foldl step p).2 ≠ 0) : l.foldl step p = (l.take j).foldl step p := by
  conv => lhs; rw [← List.take_append_drop j l, List.foldl_append]
  exact foldl_stuck hs _ _ h

theorem addStep_stuck (p : Int × Int) (m : Int) (hp : p.2 ≠ 0) : addStep p m = p := by simp [addStep, hp]
theorem lcmStep_stuck (p : Int × Int) (m : Int) (hp : p.2 ≠ 0) : lcmStep p m = p := by simp [lcmStep, hp]

theorem add_most : ∀ (l : List Int) (p : Int × Int), (p.2 = 0 → p.1 ≤ 1099511627776) → (l.foldl addStep p).2 = 0 → (l.foldl addStep p).1 ≤ 1099511627776
  | [], p, hp, h => hp h
  | x :: l, p, hp, h => by
    refine add_most l _ ?_ h
    intro h2
    simp only [addStep] at h2 ⊢
    split
    · rename_i h0
      rw [if_pos h0] at h2
      simp only [addS] at h2 ⊢
      split at h2
      · split at h2
        · simp at h2
        · rename_i h3 h4; rw [if_pos h3, if_neg h4]; omega
      · simp at h2
    · rename_i h0
      exact hp (by rw [if_neg h0] at h2; exact h2)

theorem rsum_c (k : Nat) (l : List Int) (hl : l.length < 2 ^ 62) : PC fs ms f_escapementref01_Sum [.fz k (ints l)] (pr (sumS l)) := by
  refine pc_of (by simp [clL, AV.cl, cl_ints]) rfl ?_
  refine vd_start (af := C_escapementref01_Sum) false rfl (Nat.le_of_ble_eq_true rfl) ?_
  generalize hQ : (fun (u : AV) (_ : Heap) => u = pr (sumS l)) = Q
  conv => whnf
  refine vc_to0 6 [(4, .int .i64 (0 : Nat)), (0, .fz k (ints l))] (by repeat' (first | exact trivial | refine renAt_sl rfl (by omega) ?_ | refine renAt_ptr rfl (by omega) ?_ | refine renAt_yield rfl (by omega) ?_ | refine renAt_cl rfl (by first | rfl | simp [clL, AV.cl, cl_ints]) ?_ | refine renAt_cl (inc_slot (by omega)) rfl ?_)) ?_
  refine for_row 6 l.length (fun j => (l.take j).all isTick = true) (fun j => [(4, .int .i64 (j : Nat)), (0, .fz k (ints l))]) ?_ ?_ rfl
  · intro j hj hi
    conv => whnf
    refine br (fun hc => ?_) (fun hc => ?_) <;> (try rw [hc]) <;> (conv => whnf)
    · refine ⟨_, idx_int hj, ?_⟩
      conv => whnf
      refine vd_pure (rtick_c _) ?_
      conv => whnf
      refine br (fun hc => ?_) (fun hc => ?_) <;> (try rw [hc]) <;> (conv => whnf)
      · subst hQ
        have h1 : l.all isTick = false := all_no hj (by simpa using hc)
        simp [sumS, h1, pr]
      · exact ⟨all_next hj hi (by simpa using hc), renAt_cl (inc_slot (by omega)) rfl (by repeat' (first | exact trivial | refine renAt_sl rfl (by omega) ?_ | refine renAt_ptr rfl (by omega) ?_ | refine renAt_yield rfl (by omega) ?_ | refine renAt_cl rfl (by first | rfl | simp [clL, AV.cl, cl_ints]) ?_ | refine renAt_cl (inc_slot (by omega)) rfl ?_))⟩
    · simp [len_ints] at hc; omega
  · intro hall
    rw [List.take_length] at hall
    conv => whnf
    refine br (fun hc => ?_) (fun hc => ?_) <;> (try rw [hc]) <;> (conv => whnf)
    · simp [len_ints] at hc
    · refine vc_to0 6 [(6, .int .i64 (0 : Nat)), (0, .fz k (ints l)), (5, .int .i64 0)] (by repeat' (first | exact trivial | refine renAt_sl rfl (by omega) ?_ | refine renAt_ptr rfl (by omega) ?_ | refine renAt_yield rfl (by omega) ?_ | refine renAt_cl rfl (by first | rfl | simp [clL, AV.cl, cl_ints]) ?_ | refine renAt_cl (inc_slot (by omega)) rfl ?_)) ?_
      refine for_row 6 l.length (fun j => ((l.take j).foldl addStep (0, 0)).2 = 0) (fun j => [(6, .int .i64 (j : Nat)), (0, .fz k (ints l)), (5, .int .i64 ((l.take j).foldl addStep (0, 0)).1)]) ?_ ?_ rfl
      · intro j hj hi
        have hstep : (l.take (j + 1)).foldl addStep (0, 0) = addS ((l.take j).foldl addStep (0, 0)).1 l[j] := by
          rw [take_next hj, List.foldl_append]
          simp [addStep, hi]
        conv => whnf
        refine br (fun hc => ?_) (fun hc => ?_) <;> (try rw [hc]) <;> (conv => whnf)
        · refine ⟨_, idx_int hj, ?_⟩
          conv => whnf
          refine vd_pure (radd_c _ _) ?_
          conv => whnf
          refine br (fun hc => ?_) (fun hc => ?_) <;> (try rw [hc]) <;> (conv => whnf)
          · subst hQ
            have hne : ((l.take (j + 1)).foldl addStep (0, 0)).2 ≠ 0 := by rw [hstep]; simpa using hc
            have hf := foldl_take addStep_stuck (0, 0) hne
            rw [hstep] at hf hne
            simp only [sumS, hall, if_true, hf, pr]
            simp [toldS, hne]
          · refine ⟨?_, renAt_cl (inc_slot (by omega)) rfl (renAt_cl rfl (by simp [AV.cl, cl_ints]) (renAt_cl (by rw [hstep]; rfl) rfl trivial))⟩
            rw [hstep]
            simpa using hc
        · simp [len_ints] at hc; omega
      · intro hi
        conv => whnf
        refine br (fun hc => ?_) (fun hc => ?_) <;> (try rw [hc]) <;> (conv => whnf)
        · simp [len_ints] at hc
        · subst hQ
          rw [List.take_length] at hi ⊢
          have := add_most l (0, 0) (fun _ => by decide) hi
          simp only [sumS, hall, if_true, pr, hi]
          simp [toldS, Int.not_lt.2 this]

theorem lcm_good {l : List Int} (h : ∀ m, m ∈ l → isTick m = true ∧ 1 ≤ m) : ∀ (p : Int × Int), Good p → Good (l.foldl lcmStep p) := by
  induction l with
  | nil => intro p hp; exact hp
  | cons x l ih =>
    intro p hp
    exact ih (fun m hm => h m (List.mem_cons_of_mem _ hm)) _ (good_step (h x (List.mem_cons_self)) hp)

theorem rlcm_c (limit : Int) (k : Nat) (l : List Int) (hl : l.length < 2 ^ 62) : PC fs ms f_escapementref01_Lcm [.int .i64 limit, .fz k (ints l)] (pr (lcmS limit l)) := by
  refine pc_of (by simp [clL, AV.cl, cl_ints]) rfl ?_
  refine vd_start (af := C_escapementref01_Lcm) false rfl (Nat.le_of_ble_eq_true rfl) ?_
  generalize hQ : (fun (u : AV) (_ : Heap) => u = pr (lcmS limit l)) = Q
  conv => whnf
  refine vd_pure (rtick_c _) ?_
  conv => whnf
  refine br (fun hc => ?_) (fun hc => ?_) <;> (try rw [hc]) <;> (conv => whnf)
  · subst hQ
    have : isTick limit = false := by simpa using hc
    simp [lcmS, this, pr]
  have ht : isTick limit = true := by simpa using hc
  refine vc_to0 7 [(6, .int .i64 (0 : Nat)), (0, .int .i64 limit), (1, .fz k (ints l))] (by repeat' (first | exact trivial | refine renAt_sl rfl (by omega) ?_ | refine renAt_ptr rfl (by omega) ?_ | refine renAt_yield rfl (by omega) ?_ | refine renAt_cl rfl (by first | rfl | simp [clL, AV.cl, cl_ints]) ?_ | refine renAt_cl (inc_slot (by omega)) rfl ?_)) ?_
  refine for_row 7 l.length (fun j => (l.take j).all (fun x => isTick x && x != 0) = true) (fun j => [(6, .int .i64 (j : Nat)), (0, .int .i64 limit), (1, .fz k (ints l))]) ?_ ?_ rfl
  · intro j hj hi
    conv => whnf
    refine br (fun hc => ?_) (fun hc => ?_) <;> (try rw [hc]) <;> (conv => whnf)
    · refine ⟨_, idx_int hj, ?_⟩
      conv => whnf
      refine vd_pure (rtick_c _) ?_
      conv => whnf
      refine br (fun hc => ?_) (fun hc => ?_) <;> (try rw [hc]) <;> (conv => whnf)
      · subst hQ
        have h1 : l.all isTick = false := all_no hj (by simpa using hc)
        simp [lcmS, h1, pr]
      · have h1 : isTick l[j] = true := by simpa using hc
        refine ⟨_, idx_int hj, ?_⟩
        conv => whnf
        refine br (fun hc => ?_) (fun hc => ?_) <;> (try rw [hc]) <;> (conv => whnf)
        · subst hQ
          have h2 : l[j] = 0 := by simpa using hc
          have h3 : l.contains 0 = true := by rw [← h2]; simp
          simp only [lcmS, h3, Bool.not_true, Bool.and_false, Bool.false_eq_true, if_false]
          rfl
        · have h2 : l[j] ≠ 0 := by simpa using hc
          exact ⟨all_next hj hi (by simp [h1, h2]), renAt_cl (inc_slot (by omega)) rfl (by repeat' (first | exact trivial | refine renAt_sl rfl (by omega) ?_ | refine renAt_ptr rfl (by omega) ?_ | refine renAt_yield rfl (by omega) ?_ | refine renAt_cl rfl (by first | rfl | simp [clL, AV.cl, cl_ints]) ?_ | refine renAt_cl (inc_slot (by omega)) rfl ?_))⟩
    · simp [len_ints] at hc; omega
  · intro hall
    rw [List.take_length] at hall
    have hmem : ∀ m, m ∈ l → isTick m = true ∧ 1 ≤ m := by
      intro m hm
      have h1 := List.all_eq_true.1 hall m hm
      simp only [Bool.and_eq_true, bne_iff_ne, ne_eq] at h1
      have := (isTick_iff m).1 h1.1
      exact ⟨h1.1, by omega⟩
    have hcond : (isTick limit && (l.all isTick && !l.contains 0)) = true := by
      simp only [Bool.and_eq_true, Bool.not_eq_true', ht, true_and]
      refine ⟨List.all_eq_true.2 fun m hm => (hmem m hm).1, ?_⟩
      rw [Bool.eq_false_iff]
      intro h0
      have := (hmem 0 (by simpa using h0)).2
      omega
    conv => whnf
    refine br (fun hc => ?_) (fun hc => ?_) <;> (try rw [hc]) <;> (conv => whnf)
    · simp [len_ints] at hc
    · refine vc_to0 7 [(8, .int .i64 (0 : Nat)), (0, .int .i64 limit), (1, .fz k (ints l)), (7, .int .i64 1)] (by repeat' (first | exact trivial | refine renAt_sl rfl (by omega) ?_ | refine renAt_ptr rfl (by omega) ?_ | refine renAt_yield rfl (by omega) ?_ | refine renAt_cl rfl (by first | rfl | simp [clL, AV.cl, cl_ints]) ?_ | refine renAt_cl (inc_slot (by omega)) rfl ?_)) ?_
      refine for_row 7 l.length (fun j => ((l.take j).foldl lcmStep (1, 0)).2 = 0) (fun j => [(8, .int .i64 (j : Nat)), (0, .int .i64 limit), (1, .fz k (ints l)), (7, .int .i64 ((l.take j).foldl lcmStep (1, 0)).1)]) ?_ ?_ rfl
      · intro j hj hi
        have hg : Good ((l.take j).foldl lcmStep (1, 0)) := lcm_good (fun m hm => hmem m (List.mem_of_mem_take hm)) _ (fun _ => ⟨rfl, by decide⟩)
        generalize hp : (l.take j).foldl lcmStep (1, 0) = p at hi hg
        obtain ⟨g1, g2⟩ := hg hi
        obtain ⟨m1, m2⟩ := hmem l[j] (List.getElem_mem hj)
        have gt := (isTick_iff _).1 m1
        have gp := (isTick_iff _).1 g1
        have hgv : (gcdS p.1 l[j]).1 = (Nat.gcd p.1.toNat l[j].toNat : Nat) := by simp [gcdS, g1, m1]
        have hgp : 0 < Nat.gcd p.1.toNat l[j].toNat := Nat.gcd_pos_of_pos_left _ (by omega)
        have hdv := tdiv_bounds gt.1 (show 0 ≤ (gcdS p.1 l[j]).1 by rw [hgv]; omega)
        have hstep : (l.take (j + 1)).foldl lcmStep (1, 0) = mulS p.1 (l[j].tdiv (gcdS p.1 l[j]).1) := by
          rw [take_next hj, List.foldl_append, hp]
          simp [lcmStep, hi]
        conv => whnf
        refine br (fun hc => ?_) (fun hc => ?_) <;> (try rw [hc]) <;> (conv => whnf)
        · refine ⟨_, idx_int hj, ?_⟩
          conv => whnf
          refine vd_pure (rgcd_c _ _) ?_
          conv => whnf
          refine ⟨_, idx_int hj, ?_⟩
          conv => whnf
          refine ⟨_, quo_val _ _ (by rw [hgv]; omega), ?_⟩
          rw [IntWalk.i64_in _ (by omega)]
          conv => whnf
          refine vd_pure (rmul_c _ _) ?_
          conv => whnf
          refine br (fun hc => ?_) (fun hc => ?_) <;> (try rw [hc]) <;> (conv => whnf)
          · subst hQ
            have hne : ((l.take (j + 1)).foldl lcmStep (1, 0)).2 ≠ 0 := by rw [hstep]; simpa using hc
            have hf := foldl_take lcmStep_stuck (1, 0) hne
            have h10 : ((l.take (j + 1)).foldl lcmStep (1, 0)).2 = 10 := by
              rw [hstep] at hne ⊢
              have : (isTick p.1 && isTick (l[j].tdiv (gcdS p.1 l[j]).1)) = true := by
                rw [g1, Bool.true_and, isTick_iff]; omega
              simp only [mulS, this, if_true] at hne ⊢
              split
              · rfl
              · rename_i hh; rw [if_neg hh] at hne; simp at hne
            simp only [lcmS, hcond, if_true, hf, h10]
            rw [if_neg (by simp)]
            simp [toldS, pr]
          · refine ⟨?_, renAt_cl (inc_slot (by omega)) rfl (renAt_cl rfl rfl (renAt_cl rfl (by simp [AV.cl, cl_ints]) (renAt_cl (by rw [hstep]; rfl) rfl trivial)))⟩
            rw [hstep]
            simpa using hc
        · simp [len_ints] at hc; omega
      · intro hi
        rw [List.take_length] at hi
        have hg : Good (l.foldl lcmStep (1, 0)) := lcm_good hmem _ (fun _ => ⟨rfl, by decide⟩)
        obtain ⟨g1, g2⟩ := hg hi
        have gp := (isTick_iff _).1 g1
        conv => whnf
        refine br (fun hc => ?_) (fun hc => ?_) <;> (try rw [hc]) <;> (conv => whnf)
        · simp [len_ints] at hc
        · rw [List.take_length]
          refine br (fun hc => ?_) (fun hc => ?_) <;> (try rw [hc]) <;> (conv => whnf)
          · subst hQ
            simp only [lcmS, hcond, if_true]
            rw [if_pos ⟨hi, by simpa using hc⟩]
            simp [toldS, pr]
          · subst hQ
            simp only [lcmS, hcond, if_true]
            rw [if_neg (fun hh => by have := hh.2; simp at hc; omega)]
            simp only [toldS, hi, if_true]
            rw [if_neg (by omega)]
            rfl

theorem works_c : PC fs ms f_escapementlaw01_works [] (.bool true) := pc_ev (n := 1000000) (by kernel_rfl)

theorem ticksMany_c (limit : Int) (k : Nat) (l : List Int) (hk3 : k ≤ 3) (hl : l.length ≤ 17592186044416) : PC fs ms f_escapementlaw01_TicksMany [.int .i64 limit, .fz k (ints l)] (.bool true) := by
  obtain ⟨k', hk', hcopy⟩ := copyInts_c k l hk3 hl
  have hl2 : l.length < 2 ^ 62 := by omega
  refine pc_of (by simp [clL, AV.cl, cl_ints]) rfl ?_
  refine vd_start (af := C_escapementlaw01_TicksMany) false rfl (Nat.le_of_ble_eq_true rfl) ?_
  generalize hQ : (fun (u : AV) (_ : Heap) => u = .bool true) = Q
  conv => whnf
  refine vd_pure hcopy ?_
  conv => whnf
  refine vd_pure (lcm_c _ _ _ hl2) ?_
  conv => whnf
  refine vd_pure (rlcm_c _ _ _ hl2) ?_
  conv => whnf
  refine vd_pure (sum_c _ _ hl2) ?_
  conv => whnf
  refine vd_pure (rsum_c _ _ hl2) ?_
  conv => whnf
  refine vd_pure (two_same _ _) ?_
  conv => whnf
  refine vd_pure (two_same _ _) ?_
  conv => whnf
  refine vd_pure (eqInts_same _ _ _ hl2) ?_
  conv => whnf
  refine vd_pure works_c ?_
  conv => whnf
  subst hQ
  rfl
end Ir
end Go.Proofs.Ytflmbknimebmnaa
