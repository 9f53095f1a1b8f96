/-
  Demand: the document's Hyper.
-/
import Derived.Test.YtbmnehpppegecaaVDem
set_option maxRecDepth 100000
set_option linter.unusedSimpArgs false
set_option linter.unusedVariables false
namespace Go.Proofs.Ytbmnehpppegecaa
open Go Ads
namespace Ir

/-- Does each task's Period divide it? -/
def wholeB (m : Nat) (l : List Tk) : Bool := l.all fun t => (m : Int).tmod t.p == 0
theorem whole_iff {l : List Tk} (h : ∀ t, t ∈ l → 1 ≤ t.p) (m : Nat) : wholeB m l = true ↔ ∀ t, t ∈ l → t.p.toNat ∣ m := by
  rw [wholeB, List.all_eq_true]
  have : ∀ t, t ∈ l → (((m : Int).tmod t.p == 0) = true ↔ t.p.toNat ∣ m) := by
    intro t ht
    have h1 := h t ht
    obtain ⟨p, hp⟩ := Int.eq_ofNat_of_zero_le (show 0 ≤ t.p by omega)
    rw [hp, show ((p : Int)).toNat = p from rfl, show ((m : Int)).tmod (p : Int) = ((m % p : Nat) : Int) from rfl, beq_iff_eq, Nat.dvd_iff_mod_eq_zero]
    omega
  exact ⟨fun x t ht => (this t ht).1 (x t ht), fun x t ht => (this t ht).2 (x t ht)⟩
theorem whole_next {l : List Tk} {j m : Nat} (hj : j < l.length) : wholeB m (l.take (j + 1)) = (wholeB m (l.take j) && ((m : Int).tmod l[j].p == 0)) := by
  rw [wholeB, take_next hj, List.all_append]; simp [wholeB]

/-- How many times the Period has to be tried. -/
def tryN (l : List Tk) (n : Nat) : Nat := if hypN l n ≤ 4096 then hypN l n / n - 1 else 4096 / n

theorem rhyper_c (k : Nat) (l : List Tk) (n : Int) (hl : l.length < 2 ^ 62) : PC fs ms f_escapementref08_Hyper [.fz k (tks l), .int .i64 n] (pairI (hypS l n)) := by
  refine pc_of (by simp [clL, AV.cl, cl_ints, cl_tks]) rfl ?_
  refine vd_start (af := C_escapementref08_Hyper) false rfl (Nat.le_of_ble_eq_true rfl) ?_
  generalize hQ : (fun (v : AV) (_ : Heap) => v = pairI (hypS l n)) = Q
  conv => whnf
  refine vd_pure (rtasks_c k l hl) ?_
  conv => whnf
  iterate 4 (all_goals (first | (refine br (fun hc => ?_) (fun hc => ?_) <;> (try rw [hc]) <;> (conv => whnf)) | skip))
  · subst hQ; rw [hypS, if_neg (by simp at hc; simp [hc])]; rfl
  · subst hQ; simp at hc; rw [hypS, if_neg (by omega)]; rfl
  · subst hQ; simp at hc; rw [hypS, if_neg (by omega)]; rfl
  rename_i c0 c1
  have h1 : tasksOk l = true := by simpa using c0
  simp at hc c1
  obtain ⟨N, rfl⟩ := Int.eq_ofNat_of_zero_le (show 0 ≤ n by omega)
  have hps : ∀ t, t ∈ l → 1 ≤ t.p := fun t ht => (tasksOk_p h1 ht).2
  have hN1 : 1 ≤ N := by omega
  have hd := (hyp_dvd l N (hypN l N)).1 (Nat.dvd_refl _)
  have hpos := hyp_pos hps hN1
  obtain ⟨M, hM⟩ := hd.1
  have hM1 : 1 ≤ M := by rcases Nat.eq_zero_or_pos M with h | h; rw [h] at hM; omega; exact h
  have hdiv : hypN l N / N = M := by rw [hM, Nat.mul_div_cancel_left M (by omega)]
  have hwh : ∀ i, wholeB ((i + 1) * N) l = true ↔ hypN l N ∣ (i + 1) * N := fun i => by
    rw [whole_iff hps, hyp_dvd]
    exact ⟨fun x => ⟨Nat.dvd_mul_left _ _, x⟩, fun x => x.2⟩
  refine vc_to0 6 [(0, .fz k (tks l)), (1, .int .i64 (N : Nat)), (6, .int .i64 (((0 + 1) * N : Nat) : Int))] (by refine ⟨⟨_, rfl, .cl (by simp [AV.cl, cl_tks])⟩, ⟨_, rfl, .cl rfl⟩, ⟨_, congrArg (fun b => some (AV.int .i64 b)) (by omega), .cl rfl⟩, trivial⟩) ?_
  refine for_row 6 (tryN l N) (fun _ => True) (fun i => [(0, .fz k (tks l)), (1, .int .i64 (N : Nat)), (6, .int .i64 (((i + 1) * N : Nat) : Int))]) ?_ ?_ trivial
  · intro i hi _
    have hsm : (i + 1) * N ≤ 4096 ∧ wholeB ((i + 1) * N) l = false := by
      unfold tryN at hi
      split at hi
      · rename_i hle
        rw [hdiv] at hi
        have : (i + 1) * N < M * N := Nat.mul_lt_mul_of_pos_right (by omega) (by omega)
        rw [Nat.mul_comm M N, ← hM] at this
        refine ⟨by omega, ?_⟩
        rw [Bool.eq_false_iff]
        intro h
        have := Nat.le_of_dvd (Nat.mul_pos (by omega) (by omega)) ((hwh i).1 h)
        omega
      · rename_i hle
        have h4 : (i + 1) * N ≤ 4096 := Nat.le_trans (Nat.mul_le_mul_right N (show i + 1 ≤ 4096 / N by omega)) (Nat.div_mul_le_self _ _)
        refine ⟨h4, ?_⟩
        rw [Bool.eq_false_iff]
        intro h
        have := Nat.le_of_dvd (Nat.mul_pos (by omega) (by omega)) ((hwh i).1 h)
        omega
    obtain ⟨hs1, hs2⟩ := hsm
    generalize hm : (i + 1) * N = m at *
    conv => whnf
    refine brt (by simp; omega) (fun hc => ?_)
    (try rw [hc])
    conv => whnf
    refine vc_to0 6 [(0, .fz k (tks l)), (1, .int .i64 (N : Nat)), (6, .int .i64 (m : Nat)), (7, .bool (wholeB m (l.take 0))), (8, .int .i64 ((0 : Nat) : Int))] (by repeat' (first | exact trivial | refine renAt_sl rfl (by omega) ?_ | refine renAt_ptr rfl (by omega) ?_ | refine renAt_yield rfl (by omega) ?_ | refine renAt_cl rfl (by first | rfl | simp [clL, AV.cl, cl_ints, cl_tks]) ?_ | refine renAt_cl (inc_slot (by omega)) rfl ?_)) ?_
    refine for_row 6 l.length (fun _ => True) (fun j => [(0, .fz k (tks l)), (1, .int .i64 (N : Nat)), (6, .int .i64 (m : Nat)), (7, .bool (wholeB m (l.take j))), (8, .int .i64 (j : Nat))]) ?_ ?_ trivial
    · intro j hj _
      have hp := hps _ (List.getElem_mem hj)
      have hw := whole_next (m := m) hj
      conv => whnf
      refine br (fun hc => ?_) (fun hc => ?_) <;> (try rw [hc]) <;> (conv => whnf)
      · refine br (fun hc2 => ?_) (fun hc2 => ?_) <;> (try rw [hc2]) <;> conv => whnf
        · refine ⟨_, idx_tk hj, ?_⟩
          conv => whnf
          refine ⟨_, rem_val _ _ (by omega), ?_⟩
          conv => whnf
          refine ⟨trivial, ⟨_, rfl, .cl (by simp [AV.cl, cl_tks])⟩, ⟨_, rfl, .cl rfl⟩, ⟨_, rfl, .cl rfl⟩, ⟨_, congrArg (fun b => some (AV.bool b)) ?_, .cl rfl⟩, ⟨_, inc_slot (by omega), .cl rfl⟩, trivial⟩
          rw [hw, hc2, Bool.true_and]
        · refine ⟨trivial, ⟨_, rfl, .cl (by simp [AV.cl, cl_tks])⟩, ⟨_, rfl, .cl rfl⟩, ⟨_, rfl, .cl rfl⟩, ⟨_, congrArg (fun b => some (AV.bool b)) ?_, .cl rfl⟩, ⟨_, inc_slot (by omega), .cl rfl⟩, trivial⟩
          rw [hw, hc2, Bool.false_and]
      · exfalso
        have := of_decide_eq_false hc
        simp only [len_tks] at this
        omega
    · intro _
      rw [List.take_length, hs2]
      conv => whnf
      refine br (fun hc => ?_) (fun hc => ?_) <;> (try rw [hc]) <;> (conv => whnf)
      · exfalso
        have := of_decide_eq_true hc
        simp only [len_tks] at this
        omega
      · refine ⟨trivial, ⟨_, rfl, .cl (by simp [AV.cl, cl_tks])⟩, ⟨_, rfl, .cl rfl⟩, ⟨_, congrArg (fun b => some (AV.int .i64 b)) ?_, .cl rfl⟩, trivial⟩
        rw [Nat.succ_mul, hm, Int.natCast_add]
        exact IntWalk.i64_in _ (by omega)
  · intro _
    unfold tryN
    split
    · rename_i hle
      rw [hdiv, show M - 1 + 1 = M by omega, Nat.mul_comm M N, ← hM]
      have hs2 : wholeB (hypN l N) l = true := (whole_iff hps _).2 hd.2
      generalize hm : hypN l N = m at *
      conv => whnf
      refine brt (by simp; omega) (fun hc => ?_)
      (try rw [hc])
      conv => whnf
      refine vc_to0 6 [(0, .fz k (tks l)), (1, .int .i64 (N : Nat)), (6, .int .i64 (m : Nat)), (7, .bool (wholeB m (l.take 0))), (8, .int .i64 ((0 : Nat) : Int))] (by repeat' (first | exact trivial | refine renAt_sl rfl (by omega) ?_ | refine renAt_ptr rfl (by omega) ?_ | refine renAt_yield rfl (by omega) ?_ | refine renAt_cl rfl (by first | rfl | simp [clL, AV.cl, cl_ints, cl_tks]) ?_ | refine renAt_cl (inc_slot (by omega)) rfl ?_)) ?_
      refine for_row 6 l.length (fun _ => True) (fun j => [(0, .fz k (tks l)), (1, .int .i64 (N : Nat)), (6, .int .i64 (m : Nat)), (7, .bool (wholeB m (l.take j))), (8, .int .i64 (j : Nat))]) ?_ ?_ trivial
      · intro j hj _
        have hp := hps _ (List.getElem_mem hj)
        have hw := whole_next (m := m) hj
        conv => whnf
        refine br (fun hc => ?_) (fun hc => ?_) <;> (try rw [hc]) <;> (conv => whnf)
        · refine br (fun hc2 => ?_) (fun hc2 => ?_) <;> (try rw [hc2]) <;> conv => whnf
          · refine ⟨_, idx_tk hj, ?_⟩
            conv => whnf
            refine ⟨_, rem_val _ _ (by omega), ?_⟩
            conv => whnf
            refine ⟨trivial, ⟨_, rfl, .cl (by simp [AV.cl, cl_tks])⟩, ⟨_, rfl, .cl rfl⟩, ⟨_, rfl, .cl rfl⟩, ⟨_, congrArg (fun b => some (AV.bool b)) ?_, .cl rfl⟩, ⟨_, inc_slot (by omega), .cl rfl⟩, trivial⟩
            rw [hw, hc2, Bool.true_and]
          · refine ⟨trivial, ⟨_, rfl, .cl (by simp [AV.cl, cl_tks])⟩, ⟨_, rfl, .cl rfl⟩, ⟨_, rfl, .cl rfl⟩, ⟨_, congrArg (fun b => some (AV.bool b)) ?_, .cl rfl⟩, ⟨_, inc_slot (by omega), .cl rfl⟩, trivial⟩
            rw [hw, hc2, Bool.false_and]
        · exfalso
          have := of_decide_eq_false hc
          simp only [len_tks] at this
          omega
      · intro _
        rw [List.take_length, hs2]
        conv => whnf
        refine br (fun hc => ?_) (fun hc => ?_) <;> (try rw [hc]) <;> (conv => whnf)
        · exfalso
          have := of_decide_eq_true hc
          simp only [len_tks] at this
          omega
        · subst hQ
          rw [hypS, if_pos ⟨h1, by omega, by omega⟩, show ((N : Int)).toNat = N from rfl, hm, if_pos hle]
          rfl
    · rename_i hle
      have hgt : 4096 < (4096 / N + 1) * N := by
        have := Nat.div_add_mod 4096 N
        have h3 := Nat.mod_lt 4096 (show 0 < N by omega)
        rw [Nat.succ_mul, Nat.mul_comm]
        omega
      generalize hm : (4096 / N + 1) * N = m at *
      conv => whnf
      refine brf (by simp; omega) (fun hc => ?_)
      (try rw [hc])
      conv => whnf
      subst hQ
      rw [hypS, if_pos ⟨h1, by omega, by omega⟩, show ((N : Int)).toNat = N from rfl, if_neg hle]
      rfl
end Ir
end Go.Proofs.Ytbmnehpppegecaa
