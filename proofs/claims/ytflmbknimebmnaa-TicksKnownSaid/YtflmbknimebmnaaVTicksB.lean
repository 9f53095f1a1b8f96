/-
  The contracts of layer 1, over rows as values: Mul, two, works, TicksTwo, EqInts, CopyInts, Bring.
-/
import Derived.Test.YtflmbknimebmnaaVTicksA
set_option maxRecDepth 100000
set_option linter.unusedSimpArgs false
set_option linter.unusedVariables false
namespace Go.Proofs.Ytflmbknimebmnaa
open Go Ads
namespace Ir

theorem mask_val (x : Int) (h : 0 ≤ x) (h2 : x < 2 ^ 64) : ((BitVec.ofInt IntKind.u64.bits x &&& BitVec.ofInt IntKind.u64.bits 4294967295).toNat : Int) = x % 4294967296 := by
  obtain ⟨n, rfl⟩ := Int.eq_ofNat_of_zero_le h
  have h3 : (BitVec.ofInt 64 (n : Int)).toNat = n := by
    rw [BitVec.toNat_ofInt]
    omega
  show ((BitVec.ofInt 64 (n : Int) &&& BitVec.ofInt 64 4294967295).toNat : Int) = _
  rw [BitVec.toNat_and, h3, show (BitVec.ofInt 64 4294967295).toNat = 2 ^ 32 - 1 by decide, Nat.and_two_pow_sub_one_eq_mod]
  omega

theorem shr_val (x : Int) : x.fdiv (2 ^ (min (32 : Int).toNat IntKind.u64.bits)) = x / 4294967296 := by
  show x.fdiv 4294967296 = _
  rw [Int.fdiv_eq_ediv_of_nonneg _ (by omega)]

theorem mul_parts (a b : Int) (ha : 0 ≤ a ∧ a ≤ 1099511627776) (hb : 0 ≤ b ∧ b ≤ 1099511627776) :
    a * b = a / 4294967296 * (b / 4294967296) * 18446744073709551616 + (a / 4294967296 * (b % 4294967296) + a % 4294967296 * (b / 4294967296)) * 4294967296 + a % 4294967296 * (b % 4294967296) ∧
    (0 ≤ a / 4294967296 * (b / 4294967296) ∧ a / 4294967296 * (b / 4294967296) ≤ 65536) ∧ (0 ≤ a / 4294967296 * (b % 4294967296) ∧ a / 4294967296 * (b % 4294967296) ≤ 1099511627776) ∧
    (0 ≤ a % 4294967296 * (b / 4294967296) ∧ a % 4294967296 * (b / 4294967296) ≤ 1099511627776) ∧ (0 ≤ a % 4294967296 * (b % 4294967296) ∧ a % 4294967296 * (b % 4294967296) ≤ 18446744065119617025) := by
  have hx : a = a / 4294967296 * 4294967296 + a % 4294967296 := by omega
  have hy : b = b / 4294967296 * 4294967296 + b % 4294967296 := by omega
  have x1 : 0 ≤ a / 4294967296 ∧ a / 4294967296 ≤ 256 := by omega
  have y1 : 0 ≤ b / 4294967296 ∧ b / 4294967296 ≤ 256 := by omega
  have x0 : 0 ≤ a % 4294967296 ∧ a % 4294967296 ≤ 4294967295 := by omega
  have y0 : 0 ≤ b % 4294967296 ∧ b % 4294967296 ≤ 4294967295 := by omega
  generalize a / 4294967296 = u at *
  generalize a % 4294967296 = v at *
  generalize b / 4294967296 = s at *
  generalize b % 4294967296 = t at *
  subst hx hy
  refine ⟨by grind, ?_, ?_, ?_, ?_⟩
  · exact ⟨Int.mul_nonneg x1.1 y1.1, Int.le_trans (Int.mul_le_mul x1.2 y1.2 y1.1 (by omega)) (by omega)⟩
  · exact ⟨Int.mul_nonneg x1.1 y0.1, Int.le_trans (Int.mul_le_mul x1.2 y0.2 y0.1 (by omega)) (by omega)⟩
  · exact ⟨Int.mul_nonneg x0.1 y1.1, Int.le_trans (Int.mul_le_mul x0.2 y1.2 y1.1 (by omega)) (by omega)⟩
  · exact ⟨Int.mul_nonneg x0.1 y0.1, Int.le_trans (Int.mul_le_mul x0.2 y0.2 y0.1 (by omega)) (by omega)⟩

theorem shr_op (x : Int) : pV (.bin .shr) [.int .u64 x, .int .i64 32] = some (.int .u64 (x / 4294967296)) := by
  have := shr_val x
  simp only [pV, pIF, l2, binF, dInt, isShift, cond_true, binShift]
  rw [this]
  rfl
theorem shr_op' {k : IntKind} (x : Int) : pV (.bin .shr) [.int .u64 x, .int k 32] = some (.int .u64 (x / 4294967296)) := by
  have := shr_val x
  simp only [pV, pIF, l2, binF, dInt, isShift, cond_true, binShift]
  rw [this]
  rfl

theorem mul64_c (a b : Int) (ha : 0 ≤ a ∧ a ≤ 1099511627776) (hb : 0 ≤ b ∧ b ≤ 1099511627776) :
    PC fs ms f_math_bits_Mul64 [.int .u64 a, .int .u64 b] (.tup [.int .u64 (a * b / 18446744073709551616), .int .u64 (a * b % 18446744073709551616)]) := by
  refine pc_of rfl rfl ?_
  refine vd_start (af := C_math_bits_Mul64) false rfl (Nat.le_of_ble_eq_true rfl) ?_
  generalize hQ : (fun (v : AV) (_ : Heap) => v = .tup [.int .u64 (a * b / 18446744073709551616), .int .u64 (a * b % 18446744073709551616)]) = Q
  conv => whnf
  iterate 8 (all_goals (first | (refine ⟨_, shr_op' _, ?_⟩ <;> (conv => whnf)) | skip))
  subst hQ
  have hlow : ∀ z : Int, IntKind.u64.wrap z = z % 18446744073709551616 := fun z => by simp [IntKind.wrap, IntKind.signed, IntKind.bits]
  have e := mul_parts a b ha hb
  rw [mask_val a (by omega) (by omega), mask_val b (by omega) (by omega)]
  rw [IntWalk.u64_in (a % 4294967296) (by omega), IntWalk.u64_in (b % 4294967296) (by omega)]
  generalize a / 4294967296 * (b / 4294967296) = p11 at *
  generalize a / 4294967296 * (b % 4294967296) = p10 at *
  generalize a % 4294967296 * (b / 4294967296) = p01 at *
  generalize a % 4294967296 * (b % 4294967296) = p00 at *
  obtain ⟨e1, e2, e3, e4, e5⟩ := e
  rw [IntWalk.u64_in p11 (by omega), IntWalk.u64_in p10 (by omega), IntWalk.u64_in p01 (by omega), IntWalk.u64_in p00 (by omega)]
  rw [IntWalk.u64_in (p10 + p00 / 4294967296) (by omega)]
  rw [mask_val _ (by omega) (by omega)]
  rw [IntWalk.u64_in ((p10 + p00 / 4294967296) % 4294967296) (by omega)]
  rw [IntWalk.u64_in (_ + p01) (by omega)]
  rw [IntWalk.u64_in (p11 + _) (by omega)]
  rw [IntWalk.u64_in _ (by omega)]
  rw [hlow, e1]
  congr 3
  congr 1
  omega

theorem mul_c (a b : Int) : PC fs ms f_ticks_Mul [.int .i64 a, .int .i64 b] (pr (mulS a b)) := by
  refine pc_of rfl rfl ?_
  refine vd_start (af := C_ticks_Mul) false rfl (Nat.le_of_ble_eq_true rfl) ?_
  generalize hQ : (fun (v : AV) (_ : Heap) => v = pr (mulS a b)) = Q
  conv => whnf
  refine tick2_c rfl ?_
  conv => whnf
  refine br (fun hc => ?_) (fun hc => ?_) <;> (try rw [hc]) <;> (conv => whnf)
  · subst hQ
    simp at *
    simp only [mulS, pr, both_no hc]
    rfl
  · simp at hc
    have g1 := (isTick_iff a).1 hc.1
    have g2 := (isTick_iff b).1 hc.2
    rw [IntWalk.u64_in a (by omega), IntWalk.u64_in b (by omega)]
    refine vd_pure (mul64_c a b g1 g2) ?_
    conv => whnf
    iterate 6 (all_goals (first | (refine br (fun hc => ?_) (fun hc => ?_) <;> (try rw [hc]) <;> (conv => whnf)) | skip))
    all_goals subst hQ
    all_goals have hp := Int.mul_nonneg g1.1 g2.1
    · simp only [decide_eq_true_eq] at hc
      simp only [mulS, pr, *]
      generalize a * b = p at *
      rw [if_pos (by simp), if_pos (by omega)]
    · rename_i h1
      simp only [decide_eq_true_eq, decide_eq_false_iff_not] at hc h1
      simp only [mulS, pr, *]
      generalize a * b = p at *
      rw [if_pos (by simp), if_pos (by omega)]
    · rename_i h1
      simp only [decide_eq_false_iff_not] at hc h1
      simp only [mulS, pr, *]
      generalize a * b = p at *
      rw [if_pos (by simp), if_neg (by omega), IntWalk.i64_in _ (by omega), show p % 18446744073709551616 = p by omega]

theorem two_c (a e b f : Int) : PC fs ms f_escapementlaw01_two [.int .i64 a, .int .i64 e, .int .i64 b, .int .i64 f] (.bool (a == b && e == f)) := by
  refine pc_of rfl rfl ?_
  refine vd_start (af := C_escapementlaw01_two) false rfl (Nat.le_of_ble_eq_true rfl) ?_
  generalize hQ : (fun (v : AV) (_ : Heap) => v = .bool (a == b && e == f)) = Q
  conv => whnf
  iterate 6 (all_goals (first | (refine br (fun hc => ?_) (fun hc => ?_) <;> (try rw [hc]) <;> (conv => whnf)) | skip))
  all_goals (subst hQ; simp only [*]; rfl)
theorem two_same (a e : Int) : PC fs ms f_escapementlaw01_two [.int .i64 a, .int .i64 e, .int .i64 a, .int .i64 e] (.bool true) := by
  have := two_c a e a e
  simpa using this

theorem is_c (a e b f : Int) : PC fs ms f_escapementlaw01_is [.int .i64 a, .int .i64 e, .int .i64 b, .int .i64 f] (.bool (a == b && e == f)) := by
  refine pc_of rfl rfl ?_
  refine vd_start (af := C_escapementlaw01_is) false rfl (Nat.le_of_ble_eq_true rfl) ?_
  generalize hQ : (fun (v : AV) (_ : Heap) => v = .bool (a == b && e == f)) = Q
  conv => whnf
  iterate 6 (all_goals (first | (refine br (fun hc => ?_) (fun hc => ?_) <;> (try rw [hc]) <;> (conv => whnf)) | skip))
  all_goals (subst hQ; simp only [*]; rfl)

/-- A number brought to be below another one. -/
def bring (i n : Int) : Int := i % n
theorem bring_c (i n : Int) (hn : 0 < n) (hn2 : n < 2 ^ 62) : PC fs ms f_escapementref00_Bring [.int .i64 i, .int .i64 n] (.int .i64 (bring i n)) := by
  refine pc_of rfl rfl ?_
  refine vd_start (af := C_escapementref00_Bring) false rfl (Nat.le_of_ble_eq_true rfl) ?_
  generalize hQ : (fun (v : AV) (_ : Heap) => v = .int .i64 (bring i n)) = Q
  conv => whnf
  refine ⟨_, rem_val _ _ (by omega), ?_⟩
  conv => whnf
  have h1 : i.tmod n = if 0 ≤ i ∨ n ∣ i then i % n else i % n - n := by
    rw [Int.tmod_eq_emod]
    split <;> simp <;> omega
  have h2 := Int.emod_nonneg i (show n ≠ 0 by omega)
  have h3 := Int.emod_lt_of_pos i hn
  refine br (fun hc => ?_) (fun hc => ?_) <;> (try rw [hc]) <;> (conv => whnf)
  · subst hQ
    simp only [decide_eq_true_eq] at hc
    split at h1
    · omega
    · rw [h1, IntWalk.i64_in _ (by omega)]
      simp only [bring]
      congr 1
      omega
  · subst hQ
    simp only [decide_eq_false_iff_not] at hc
    split at h1
    · rw [h1]; rfl
    · omega
end Ir
end Go.Proofs.Ytflmbknimebmnaa
