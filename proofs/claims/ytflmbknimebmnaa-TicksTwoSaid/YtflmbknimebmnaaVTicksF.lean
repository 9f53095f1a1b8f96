/-
  The contracts of layer 1, over rows as values: TicksTwo, TicksBack, TicksDivide.
-/
import Derived.Test.YtflmbknimebmnaaVTicksE
set_option maxRecDepth 100000
set_option linter.unusedSimpArgs false
set_option linter.unusedVariables false
namespace Go.Proofs.Ytflmbknimebmnaa
open Go Ads
namespace Ir

theorem ticksTwo_c (a b : Int) : PC fs ms f_escapementlaw01_TicksTwo [.int .i64 a, .int .i64 b] (.bool true) := by
  refine pc_of rfl rfl ?_
  refine vd_start (af := C_escapementlaw01_TicksTwo) false rfl (Nat.le_of_ble_eq_true rfl) ?_
  generalize hQ : (fun (v : AV) (_ : Heap) => v = .bool true) = Q
  conv => whnf
  iterate 16 (first
    | (refine vd_pure (add_c _ _) ?_; conv => whnf)
    | (refine vd_pure (radd_c _ _) ?_; conv => whnf)
    | (refine vd_pure (sub_c _ _) ?_; conv => whnf)
    | (refine vd_pure (rsub_c _ _) ?_; conv => whnf)
    | (refine vd_pure (mul_c _ _) ?_; conv => whnf)
    | (refine vd_pure (rmul_c _ _) ?_; conv => whnf)
    | (refine vd_pure (div_c _ _) ?_; conv => whnf)
    | (refine vd_pure (rdiv_c _ _) ?_; conv => whnf)
    | (refine vd_pure (gcd_c _ _) ?_; conv => whnf)
    | (refine vd_pure (rgcd_c _ _) ?_; conv => whnf)
    | (refine vd_pure (two_same _ _) ?_; conv => whnf)
    | (refine vd_pure works_c ?_; conv => whnf)
    | skip)
  subst hQ
  rfl

theorem bring_ex (i n : Int) (hn : 0 < n) (hn2 : n < 2 ^ 62) : ∃ A, PC fs ms f_escapementref00_Bring [.int .i64 i, .int .i64 n] (.int .i64 A) ∧ 0 ≤ A ∧ A < n :=
  ⟨_, bring_c i n hn hn2, Int.emod_nonneg _ (by omega), Int.emod_lt_of_pos _ hn⟩

theorem ticksBack_c (a b : Int) : PC fs ms f_escapementlaw01_TicksBack [.int .i64 a, .int .i64 b] (.bool true) := by
  obtain ⟨A, cA, A0, A1⟩ := bring_ex a 1099511627777 (by omega) (by omega)
  obtain ⟨B, cB, B0, B1⟩ := bring_ex b 1099511627777 (by omega) (by omega)
  obtain ⟨S, cS, S0, S1⟩ := bring_ex A 1048576 (by omega) (by omega)
  obtain ⟨T, cT, T0, T1⟩ := bring_ex B 1048576 (by omega) (by omega)
  have tA : isTick A = true := (isTick_iff _).2 (by omega)
  have tB : isTick B = true := (isTick_iff _).2 (by omega)
  have tS : isTick S = true := (isTick_iff _).2 (by omega)
  have tT : isTick (T + 1) = true := (isTick_iff _).2 (by omega)
  have hST : 0 ≤ S * (T + 1) ∧ S * (T + 1) ≤ 1099511627776 := ⟨Int.mul_nonneg S0 (by omega), Int.le_trans (Int.mul_le_mul (show S ≤ 1048576 by omega) (show T + 1 ≤ 1048576 by omega) (by omega) (by omega)) (by omega)⟩
  have cM : PC fs ms f_ticks_Mul [.int .i64 S, .int .i64 (T + 1)] (pr (S * (T + 1), 0)) := by
    have := mul_c S (T + 1)
    rwa [show mulS S (T + 1) = (S * (T + 1), 0) by simp only [mulS, tS, tT, Bool.and_self, if_true]; rw [if_neg (by omega)]] at this
  have cD : PC fs ms f_ticks_Div [.int .i64 (S * (T + 1)), .int .i64 (T + 1)] (pr (S, 0)) := by
    have := div_c (S * (T + 1)) (T + 1)
    rwa [show divS (S * (T + 1)) (T + 1) = (S, 0) by
      simp only [divS, tT, (isTick_iff _).2 hST, Bool.and_self, if_true]
      rw [if_neg (by omega), Int.tdiv_eq_ediv_of_nonneg hST.1, Int.mul_ediv_cancel _ (by omega)]] at this
  have wT : IntKind.i64.wrap (T + 1) = T + 1 := IntWalk.i64_in _ (by omega)
  have fin : ∀ {Q : AV → Heap → Prop} (hQ : (fun (v : AV) (_ : Heap) => v = .bool true) = Q), Q (.bool true) ⟨0, .nil⟩ := by rintro Q rfl; rfl
  refine pc_of rfl rfl ?_
  refine vd_start (af := C_escapementlaw01_TicksBack) false rfl (Nat.le_of_ble_eq_true rfl) ?_
  generalize hQ : (fun (v : AV) (_ : Heap) => v = .bool true) = Q
  conv => whnf
  refine vd_pure works_c ?_
  conv => whnf
  refine vd_pure cA ?_
  conv => whnf
  refine vd_pure cB ?_
  conv => whnf
  have main : ∀ (hB : B ≠ 0), ∃ q p, PC fs ms f_ticks_Div [.int .i64 A, .int .i64 B] (pr (q, 0)) ∧ PC fs ms f_ticks_Mul [.int .i64 q, .int .i64 B] (pr (p, 0)) ∧ 0 ≤ p ∧ p ≤ A ∧ A - p < B := by
    intro hB
    have hq0 : 0 ≤ A / B := Int.ediv_nonneg A0 B0
    have hqA : A / B ≤ A := Int.ediv_le_self _ A0
    have hp0 : 0 ≤ A / B * B := Int.mul_nonneg hq0 B0
    have hpA : A / B * B ≤ A := Int.ediv_mul_le _ (by omega)
    have hlt : A < (A / B + 1) * B := Int.lt_ediv_add_one_mul_self _ (by omega)
    have hlt2 : A - A / B * B < B := by rw [Int.add_mul] at hlt; omega
    refine ⟨A / B, A / B * B, ?_, ?_, hp0, hpA, hlt2⟩
    · have := div_c A B
      rwa [show divS A B = (A / B, 0) by simp only [divS, tA, tB, Bool.and_self, if_true]; rw [if_neg hB, Int.tdiv_eq_ediv_of_nonneg A0]] at this
    · have := mul_c (A / B) B
      rwa [show mulS (A / B) B = (A / B * B, 0) by simp only [mulS, tB, (isTick_iff _).2 (show 0 ≤ A / B ∧ A / B ≤ 1099511627776 by omega), Bool.and_self, if_true]; rw [if_neg (by omega)]] at this
  by_cases hAB : A + B ≤ 1099511627776
  · have c1 : PC fs ms f_ticks_Add [.int .i64 A, .int .i64 B] (pr (A + B, 0)) := by
      have := add_c A B
      rwa [show addS A B = (A + B, 0) by simp only [addS, tA, tB, Bool.and_self, if_true]; rw [if_neg (by omega)]] at this
    have c2 : PC fs ms f_ticks_Sub [.int .i64 (A + B), .int .i64 B] (pr (A, 0)) := by
      have := sub_c (A + B) B
      rwa [show subS (A + B) B = (A, 0) by simp only [subS, tB, (isTick_iff _).2 (show 0 ≤ A + B ∧ A + B ≤ 1099511627776 by omega), Bool.and_self, if_true]; rw [if_neg (by omega), show A + B - B = A by omega]] at this
    refine vd_pure c1 ?_
    conv => whnf
    refine vd_pure c2 ?_
    conv => whnf
    refine br (fun hc => ?_) (fun hc => ?_) <;> (try rw [hc]) <;> (conv => whnf)
    · simp at hc
    refine br (fun hc => ?_) (fun hc => ?_) <;> (try rw [hc]) <;> (conv => whnf)
    · subst hQ; rfl
    · have hB : B ≠ 0 := by simpa using hc
      obtain ⟨q, p, d1, d2, p0, p1, p2⟩ := main hB
      refine vd_pure d1 ?_
      conv => whnf
      refine vd_pure d2 ?_
      conv => whnf
      refine br (fun hc => ?_) (fun hc => ?_) <;> (try rw [hc]) <;> (conv => whnf)
      · simp at hc; omega
      refine br (fun hc => ?_) (fun hc => ?_) <;> (try rw [hc]) <;> (conv => whnf)
      · rw [IntWalk.i64_in _ (by omega)] at hc; simp at hc; omega
      refine vd_pure cS ?_
      conv => whnf
      refine vd_pure cT ?_
      conv => whnf
      rw [wT]
      refine vd_pure cM ?_
      conv => whnf
      refine vd_pure cT ?_
      conv => whnf
      rw [wT]
      refine vd_pure cD ?_
      conv => whnf
      subst hQ
      simp
  · have c1 : PC fs ms f_ticks_Add [.int .i64 A, .int .i64 B] (pr (0, 10)) := by
      have := add_c A B
      rwa [show addS A B = (0, 10) by simp only [addS, tA, tB, Bool.and_self, if_true]; rw [if_pos (by omega)]] at this
    refine vd_pure c1 ?_
    conv => whnf
    refine br (fun hc => ?_) (fun hc => ?_) <;> (try rw [hc]) <;> (conv => whnf)
    · rw [IntWalk.i64_in _ (by omega)] at hc; simp at hc; omega
    refine br (fun hc => ?_) (fun hc => ?_) <;> (try rw [hc]) <;> (conv => whnf)
    · subst hQ; rfl
    · have hB : B ≠ 0 := by simpa using hc
      obtain ⟨q, p, d1, d2, p0, p1, p2⟩ := main hB
      refine vd_pure d1 ?_
      conv => whnf
      refine vd_pure d2 ?_
      conv => whnf
      refine br (fun hc => ?_) (fun hc => ?_) <;> (try rw [hc]) <;> (conv => whnf)
      · simp at hc; omega
      refine br (fun hc => ?_) (fun hc => ?_) <;> (try rw [hc]) <;> (conv => whnf)
      · rw [IntWalk.i64_in _ (by omega)] at hc; simp at hc; omega
      refine vd_pure cS ?_
      conv => whnf
      refine vd_pure cT ?_
      conv => whnf
      rw [wT]
      refine vd_pure cM ?_
      conv => whnf
      refine vd_pure cT ?_
      conv => whnf
      rw [wT]
      refine vd_pure cD ?_
      conv => whnf
      subst hQ
      simp
end Ir
end Go.Proofs.Ytflmbknimebmnaa
