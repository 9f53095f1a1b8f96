/-
  Small helpers of the document's answers: EqInts, CopyInts, Bring.
-/
import Derived.Test.YtbmnehpppegecaaIrLink
import Derived.Test.YtbmnehpppegecaaVsRows
set_option maxRecDepth 100000
set_option linter.unusedSimpArgs false
set_option linter.unusedVariables false
namespace Go.Proofs.Ytbmnehpppegecaa
open Go Ads
namespace Ir

theorem eqInts_c (k k' : Nat) (a b : List Int) (hl : a.length < 2 ^ 62) (hl' : b.length < 2 ^ 62) : PC fs ms f_escapementref00_EqInts [.fz k (ints a), .fz k' (ints b)] (.bool (a == b)) := by
  refine pc_of (by simp [clL, AV.cl, cl_ints]) rfl ?_
  refine vd_start (af := C_escapementref00_EqInts) false rfl (Nat.le_of_ble_eq_true rfl) ?_
  generalize hQ : (fun (u : AV) (_ : Heap) => u = .bool (a == b)) = Q
  conv => whnf
  refine br (fun hc => ?_) (fun hc => ?_) <;> (try rw [hc]) <;> (conv => whnf)
  · subst hQ
    simp [len_ints] at hc
    have : (a == b) = false := by
      rw [beq_eq_false_iff_ne]
      rintro rfl
      simp at hc
    rw [this]
  · have hab : a.length = b.length := by simp [len_ints] at hc; omega
    refine vc_to0 5 [(5, .int .i64 (0 : Nat)), (0, .fz k (ints a)), (1, .fz k' (ints b))] (by repeat' (first | exact trivial | refine renAt_sl rfl (by omega) ?_ | refine renAt_ptr rfl (by omega) ?_ | refine renAt_yield rfl (by omega) ?_ | refine renAt_cl rfl (by first | rfl | simp [clL, AV.cl, cl_ints]) ?_ | refine renAt_cl (inc_slot (by omega)) rfl ?_)) ?_
    refine for_row 5 a.length (fun j => a.take j = b.take j) (fun j => [(5, .int .i64 (j : Nat)), (0, .fz k (ints a)), (1, .fz k' (ints b))]) ?_ ?_ rfl
    · intro j hj hi
      conv => whnf
      refine br (fun hc => ?_) (fun hc => ?_) <;> (try rw [hc]) <;> (conv => whnf)
      · refine ⟨_, idx_int hj, ?_⟩
        conv => whnf
        refine ⟨_, idx_int (hab ▸ hj), ?_⟩
        conv => whnf
        refine br (fun hc => ?_) (fun hc => ?_) <;> (try rw [hc]) <;> (conv => whnf)
        · subst hQ
          have : (a == b) = false := by
            rw [beq_eq_false_iff_ne]
            rintro rfl
            simp at hc
          rw [this]
        · have he : a[j] = b[j]'(hab ▸ hj) := by simpa using hc
          refine ⟨?_, renAt_cl (inc_slot (by omega)) rfl (by repeat' (first | exact trivial | refine renAt_sl rfl (by omega) ?_ | refine renAt_ptr rfl (by omega) ?_ | refine renAt_yield rfl (by omega) ?_ | refine renAt_cl rfl (by first | rfl | simp [clL, AV.cl, cl_ints]) ?_ | refine renAt_cl (inc_slot (by omega)) rfl ?_))⟩
          rw [List.take_succ_eq_append_getElem hj, List.take_succ_eq_append_getElem (hab ▸ hj), hi, he]
      · simp [len_ints] at hc; omega
    · intro hi
      conv => whnf
      refine br (fun hc => ?_) (fun hc => ?_) <;> (try rw [hc]) <;> (conv => whnf)
      · simp [len_ints] at hc
      · subst hQ
        have : a = b := by rw [List.take_length] at hi; rw [hi, hab, List.take_length]
        subst this
        simp

theorem eqInts_same (k k' : Nat) (a : List Int) (hl : a.length < 2 ^ 62) : PC fs ms f_escapementref00_EqInts [.fz k (ints a), .fz k' (ints a)] (.bool true) := by
  have := eqInts_c k k' a a hl hl
  simpa using this

theorem copyInts_c (k : Nat) (l : List Int) (hk3 : k ≤ 3) (hl : l.length ≤ 17592186044416) : ∃ k', k' ≤ 3 ∧ PC fs ms f_escapementref00_CopyInts [.fz k (ints l)] (.fz k' (ints l)) := by
  by_cases hne : l = []
  · subst hne
    refine ⟨3, Nat.le_refl _, rfl, rfl, ?_⟩
    refine vd_start (af := C_escapementref00_CopyInts) false rfl (Nat.le_of_ble_eq_true rfl) ?_
    conv => whnf
    refine ⟨.nils, _, rfl, ?_⟩
    conv => whnf
    exact .nils
  · refine ⟨0, by omega, by simp [clL, AV.cl, cl_ints], by simp [AV.cl, cl_ints], ?_⟩
    refine vd_start (af := C_escapementref00_CopyInts) false rfl (Nat.le_of_ble_eq_true rfl) ?_
    generalize hQ : (fun (u : AV) (g : Heap) => Frz (fun _ => True) g u (.fz 0 (ints l))) = Q
    conv => whnf
    have hpos : 0 < l.length := List.length_pos_iff.2 hne
    refine ⟨.sl 0 0 l.length l.length true, hk 1 [(0, .cells (ints l) true 1)], ?_, ?_⟩
    · have h1 : Nat.beq l.length 0 = false := by cases hq : l.length with | zero => omega | succ n => rfl
      have h2 : Nat.ble (l.length * 8) 140737488355328 = true := Nat.ble_eq_true_of_le (by omega)
      have h3 : Nat.ble l.length 9223372036854775807 = true := Nat.ble_eq_true_of_le (by omega)
      simp only [eV, l2, srcV, size_ints, cond_true, flat_ints, len_ints, flatL_ints, h1, cond_false, h2, h3, Bool.and_self]
      rfl
    · conv => whnf
      subst hQ
      exact frz_open (s := 1) trivial rfl (flat_ints l).symm (size_ints l) (len_ints l).symm (cl_ints l)

/-- A number brought to be below another one. -/
def bring (i n : Int) : Int := i % n
theorem bring_c (i n : Int) (hn : 0 < n) (hn2 : n < 2 ^ 62) : PC fs ms f_escapementref00_Bring [.int .i64 i, .int .i64 n] (.int .i64 (bring i n)) := by
  refine pc_of rfl rfl ?_
  refine vd_start (af := C_escapementref00_Bring) false rfl (Nat.le_of_ble_eq_true rfl) ?_
  generalize hQ : (fun (v : AV) (_ : Heap) => v = .int .i64 (bring i n)) = Q
  conv => whnf
  refine ⟨_, rem_val _ _ (by omega), ?_⟩
  conv => whnf
  have h1 : i.tmod n = if 0 ≤ i ∨ n ∣ i then i % n else i % n - n := by
    rw [Int.tmod_eq_emod]
    split <;> simp <;> omega
  have h2 := Int.emod_nonneg i (show n ≠ 0 by omega)
  have h3 := Int.emod_lt_of_pos i hn
  refine br (fun hc => ?_) (fun hc => ?_) <;> (try rw [hc]) <;> (conv => whnf)
  · subst hQ
    simp only [decide_eq_true_eq] at hc
    split at h1
    · omega
    · rw [h1, IntWalk.i64_in _ (by omega)]
      simp only [bring]
      congr 1
      omega
  · subst hQ
    simp only [decide_eq_false_iff_not] at hc
    split at h1
    · rw [h1]; rfl
    · omega
end Ir
end Go.Proofs.Ytbmnehpppegecaa
