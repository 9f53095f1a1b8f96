/-
  The contract of Mul, of the program; two; works.
-/
import Derived.Test.YtflmbknimebmnaaTicksC
set_option maxRecDepth 100000
namespace Go.Proofs.Ytflmbknimebmnaa
open Go Ads
namespace Ir

theorem mask_val (x : Int) (h : 0 ≤ x) (h2 : x < 2 ^ 64) : ((BitVec.ofInt IntKind.u64.bits x &&& BitVec.ofInt IntKind.u64.bits 4294967295).toNat : Int) = x % 4294967296 := by
  obtain ⟨n, rfl⟩ := Int.eq_ofNat_of_zero_le h
  have h3 : (BitVec.ofInt 64 (n : Int)).toNat = n := by
    rw [BitVec.toNat_ofInt]
    omega
  show ((BitVec.ofInt 64 (n : Int) &&& BitVec.ofInt 64 4294967295).toNat : Int) = _
  rw [BitVec.toNat_and, h3, show (BitVec.ofInt 64 4294967295).toNat = 2 ^ 32 - 1 by decide, Nat.and_two_pow_sub_one_eq_mod]
  omega

theorem shr_val (x : Int) : x.fdiv (2 ^ (min (32 : Int).toNat IntKind.u64.bits)) = x / 4294967296 := by
  show x.fdiv 4294967296 = _
  rw [Int.fdiv_eq_ediv_of_nonneg _ (by omega)]

theorem mul_parts (a b : Int) (ha : 0 ≤ a ∧ a ≤ 1099511627776) (hb : 0 ≤ b ∧ b ≤ 1099511627776) :
    a * b = a / 4294967296 * (b / 4294967296) * 18446744073709551616 + (a / 4294967296 * (b % 4294967296) + a % 4294967296 * (b / 4294967296)) * 4294967296 + a % 4294967296 * (b % 4294967296) ∧
    (0 ≤ a / 4294967296 * (b / 4294967296) ∧ a / 4294967296 * (b / 4294967296) ≤ 65536) ∧ (0 ≤ a / 4294967296 * (b % 4294967296) ∧ a / 4294967296 * (b % 4294967296) ≤ 1099511627776) ∧
    (0 ≤ a % 4294967296 * (b / 4294967296) ∧ a % 4294967296 * (b / 4294967296) ≤ 1099511627776) ∧ (0 ≤ a % 4294967296 * (b % 4294967296) ∧ a % 4294967296 * (b % 4294967296) ≤ 18446744065119617025) := by
  have hx : a = a / 4294967296 * 4294967296 + a % 4294967296 := by omega
  have hy : b = b / 4294967296 * 4294967296 + b % 4294967296 := by omega
  have x1 : 0 ≤ a / 4294967296 ∧ a / 4294967296 ≤ 256 := by omega
  have y1 : 0 ≤ b / 4294967296 ∧ b / 4294967296 ≤ 256 := by omega
  have x0 : 0 ≤ a % 4294967296 ∧ a % 4294967296 ≤ 4294967295 := by omega
  have y0 : 0 ≤ b % 4294967296 ∧ b % 4294967296 ≤ 4294967295 := by omega
  generalize a / 4294967296 = u at *
  generalize a % 4294967296 = v at *
  generalize b / 4294967296 = s at *
  generalize b % 4294967296 = t at *
  subst hx hy
  refine ⟨by grind, ?_, ?_, ?_, ?_⟩
  · exact ⟨Int.mul_nonneg x1.1 y1.1, Int.le_trans (Int.mul_le_mul x1.2 y1.2 y1.1 (by omega)) (by omega)⟩
  · exact ⟨Int.mul_nonneg x1.1 y0.1, Int.le_trans (Int.mul_le_mul x1.2 y0.2 y0.1 (by omega)) (by omega)⟩
  · exact ⟨Int.mul_nonneg x0.1 y1.1, Int.le_trans (Int.mul_le_mul x0.2 y1.2 y1.1 (by omega)) (by omega)⟩
  · exact ⟨Int.mul_nonneg x0.1 y0.1, Int.le_trans (Int.mul_le_mul x0.2 y0.2 y0.1 (by omega)) (by omega)⟩

theorem mul64_c (a b : Int) (ha : 0 ≤ a ∧ a ≤ 1099511627776) (hb : 0 ≤ b ∧ b ≤ 1099511627776) (h : Heap) :
    BS fs ms (.call 31 [.int .u64 a, .int .u64 b] h) (.val (.tup [.int .u64 (a * b / 18446744073709551616), .int .u64 (a * b % 18446744073709551616)]) h) := by
  have : Calld fs ms 31 [.int .u64 a, .int .u64 b] ⟨0, .nil⟩ fun v _ => v = .tup [.int .u64 (a * b / 18446744073709551616), .int .u64 (a * b % 18446744073709551616)] := by
    refine calld (af := C31) rfl (by simp [C31]) ?_
    generalize hQ : (fun (v : AV) (_ : Heap) => v = .tup [.int .u64 (a * b / 18446744073709551616), .int .u64 (a * b % 18446744073709551616)]) = Q
    conv => whnf
    iterate 8 (all_goals (first | (refine ⟨_, rfl, ?_⟩ <;> (conv => whnf)) | skip))
    subst hQ
    have hlow : ∀ z : Int, IntKind.u64.wrap z = z % 18446744073709551616 := fun z => by simp [IntKind.wrap, IntKind.signed, IntKind.bits]
    have e := mul_parts a b ha hb
    simp only [shr_val]
    rw [mask_val a (by omega) (by omega), mask_val b (by omega) (by omega)]
    rw [IntWalk.u64_in (a % 4294967296) (by omega), IntWalk.u64_in (b % 4294967296) (by omega)]
    generalize a / 4294967296 * (b / 4294967296) = p11 at *
    generalize a / 4294967296 * (b % 4294967296) = p10 at *
    generalize a % 4294967296 * (b / 4294967296) = p01 at *
    generalize a % 4294967296 * (b % 4294967296) = p00 at *
    obtain ⟨e1, e2, e3, e4, e5⟩ := e
    rw [IntWalk.u64_in p11 (by omega), IntWalk.u64_in p10 (by omega), IntWalk.u64_in p01 (by omega), IntWalk.u64_in p00 (by omega)]
    rw [IntWalk.u64_in (p10 + p00 / 4294967296) (by omega)]
    rw [mask_val _ (by omega) (by omega)]
    rw [IntWalk.u64_in ((p10 + p00 / 4294967296) % 4294967296) (by omega)]
    rw [IntWalk.u64_in (_ + p01) (by omega)]
    rw [IntWalk.u64_in (p11 + _) (by omega)]
    rw [IntWalk.u64_in _ (by omega)]
    rw [hlow, e1]
    congr 3
    congr 1
    omega
  obtain ⟨v, h1, hb, rfl⟩ := this
  exact .fresh hb (by simp [allD, AV.inD]) (by simp [AV.inD, allD])

theorem mul_c (a b : Int) (h : Heap) : BS fs ms (.call 14 [.int .i64 a, .int .i64 b] h) (.val (pr (mulS a b)) h) := by
  refine calld_pr (closed2 _ _) ?_ h
  refine calld (af := C14) rfl (by simp [C14]) ?_
  generalize hQ : (fun (v : AV) (_ : Heap) => v = pr (mulS a b)) = Q
  conv => whnf
  refine tick2_c a b _ _ rfl _ ?_
  conv => whnf
  refine br (fun hc => ?_) (fun hc => ?_) <;> (conv => whnf)
  · subst hQ
    simp at *
    simp only [mulS, pr, both_no hc]
    rfl
  · simp at hc
    have g1 := (isTick_iff a).1 hc.1
    have g2 := (isTick_iff b).1 hc.2
    rw [IntWalk.u64_in a (by omega), IntWalk.u64_in b (by omega)]
    refine calld_of (mul64_c a b g1 g2 _) ?_
    conv => whnf
    iterate 6 (all_goals (first | (refine br (fun hc => ?_) (fun hc => ?_) <;> (try rw [hc]) <;> (conv => whnf)) | skip))
    all_goals subst hQ
    all_goals have hp := Int.mul_nonneg g1.1 g2.1
    · simp only [decide_eq_true_eq] at hc
      simp only [mulS, pr, *]
      generalize a * b = p at *
      rw [if_pos (by simp), if_pos (by omega)]
    · rename_i h1
      simp only [decide_eq_true_eq, decide_eq_false_iff_not] at hc h1
      simp only [mulS, pr, *]
      generalize a * b = p at *
      rw [if_pos (by simp), if_pos (by omega)]
    · rename_i h1
      simp only [decide_eq_false_iff_not] at hc h1
      simp only [mulS, pr, *]
      generalize a * b = p at *
      rw [if_pos (by simp), if_neg (by omega), IntWalk.i64_in _ (by omega), show p % 18446744073709551616 = p by omega]
end Ir
end Go.Proofs.Ytflmbknimebmnaa
