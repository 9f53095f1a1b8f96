/-
  Layer 1: Lcm.
-/
import Derived.Test.YtlndlbngfgaoeaaIrLink
import Derived.Test.YtlndlbngfgaoeaaVsRows
set_option maxRecDepth 100000
set_option linter.unusedSimpArgs false
set_option linter.unusedVariables false
namespace Go.Proofs.Ytlndlbngfgaoeaa
open Go Ads
namespace Ir

def isTick (n : Int) : Bool := decide (0 ≤ n) && decide (n ≤ 1099511627776)
theorem isTick_iff (n : Int) : isTick n = true ↔ 0 ≤ n ∧ n ≤ 1099511627776 := by simp [isTick]
theorem isTick_no {n : Int} (h : n < 0 ∨ n > 1099511627776) : isTick n = false := by
 rw [Bool.eq_false_iff, Ne, isTick_iff]
 omega
def pr (p : Int × Int) : AV := .tup [.int .i64 p.1, .int .i64 p.2]
theorem both_no {a b : Bool} (h : a = false ∨ b = false) : (a && b) = false := by cases a <;> simp_all

theorem tick_c (k : Nat) (l : List Int) (hl : l.length < 2 ^ 62) : PC fs ms f_ticks_tick [.fz k (ints l)] (.bool (l.all isTick)) := by
 refine pc_of (by simp [clL, AV.cl, cl_ints]) rfl ?_
 refine vd_start (af := C_ticks_tick) false rfl (Nat.le_of_ble_eq_true rfl) ?_
 generalize hQ : (fun (u : AV) (_ : Heap) => u = .bool (l.all isTick)) = Q
 conv => whnf
 refine vc_to0 5 [(7, .int .i64 (0 : Nat)), (5, .fz k (ints l)), (6, .int .i64 (ints l).length)] (by repeat' (first | exact trivial | refine renAt_sl rfl (by omega) ?_ | refine renAt_ptr rfl (by omega) ?_ | refine renAt_yield rfl (by omega) ?_ | refine renAt_cl rfl (by first | rfl | simp [clL, AV.cl, cl_ints]) ?_ | refine renAt_cl (inc_slot (by omega)) rfl ?_)) ?_
 refine for_row 5 l.length (fun j => (l.take j).all isTick = true) (fun j => [(7, .int .i64 (j : Nat)), (5, .fz k (ints l)), (6, .int .i64 (ints l).length)]) ?_ ?_ rfl
 ·intro j hj hi
  conv => whnf
  refine br (fun hc => ?_) (fun hc => ?_) <;> (try rw [hc]) <;> (conv => whnf)
  ·refine ⟨_, idx_int hj, ?_⟩
   conv => whnf
   iterate 3 (all_goals (first | (refine br (fun hc => ?_) (fun hc => ?_) <;> (try rw [hc]) <;> (conv => whnf)) | skip))
   ·subst hQ
    rw [all_no hj (isTick_no (.inl (by simpa using hc)))]
   ·subst hQ
    rw [all_no hj (isTick_no (.inr (by simpa using hc)))]
   ·rename_i hc0
    simp only [decide_eq_false_iff_not] at hc hc0
    exact ⟨all_next hj hi ((isTick_iff _).2 (by omega)), renAt_cl (inc_slot (by omega)) rfl (by repeat' (first | exact trivial | refine renAt_sl rfl (by omega) ?_ | refine renAt_ptr rfl (by omega) ?_ | refine renAt_yield rfl (by omega) ?_ | refine renAt_cl rfl (by first | rfl | simp [clL, AV.cl, cl_ints]) ?_ | refine renAt_cl (inc_slot (by omega)) rfl ?_))⟩
  ·simp [len_ints] at hc; omega
 ·intro hi
  conv => whnf
  refine br (fun hc => ?_) (fun hc => ?_) <;> (try rw [hc]) <;> (conv => whnf)
  ·simp [len_ints] at hc
  ·subst hQ
   rw [List.take_length] at hi
   rw [hi]

theorem tick2_c {a b : Int} {h : Heap} {n : Nat} (hn : h.get n = some (.cells [.int .i64 a, .int .i64 b] true 0)) {Q : AV → Heap → Prop} (hq : Q (.bool (isTick a && isTick b)) h) :
  VD fs ms f_ticks_tick [.sl n 0 2 2 false] h Q := by
 have := tick_c 2 [a, b] (by simp)
 simp only [List.all_cons, List.all_nil, Bool.and_true] at this
 exact vd_view this rfl (.cons (.row (s := 1) trivial hn rfl rfl rfl (Nat.le_refl _) (Nat.le_refl _) (fun _ => rfl) (fun _ => rfl) rfl) .nil) hq
theorem tick1_c {a : Int} {h : Heap} {n : Nat} (hn : h.get n = some (.cells [.int .i64 a] true 0)) {Q : AV → Heap → Prop} (hq : Q (.bool (isTick a)) h) :
  VD fs ms f_ticks_tick [.sl n 0 1 1 false] h Q := by
 have := tick_c 2 [a] (by simp)
 simp only [List.all_cons, List.all_nil, Bool.and_true] at this
 exact vd_view this rfl (.cons (.row (s := 1) trivial hn rfl rfl rfl (Nat.le_refl _) (Nat.le_refl _) (fun _ => rfl) (fun _ => rfl) rfl) .nil) hq

def toldS (n e : Int) : Int × Int := if e = 0 then (if n > 1099511627776 then (0, 10) else (n, 0)) else (0, e)

theorem told_c (n e : Int) : PC fs ms f_ticks_told [.int .i64 n, .int .i64 e] (pr (toldS n e)) := by
 refine pc_of rfl rfl ?_
 refine vd_start (af := C_ticks_told) false rfl (Nat.le_of_ble_eq_true rfl) ?_
 generalize hQ : (fun (v : AV) (_ : Heap) => v = pr (toldS n e)) = Q
 conv => whnf
 iterate 6 (all_goals (first | (refine br (fun hc => ?_) (fun hc => ?_) <;> (try rw [hc]) <;> (conv => whnf)) | skip))
 all_goals (subst hQ; simp at *; simp only [pr, toldS])
 all_goals (repeat' split)
 all_goals (first | rfl | omega)

theorem tdiv_bounds {a b : Int} (ha : 0 ≤ a) (hb : 0 ≤ b) : 0 ≤ a.tdiv b ∧ a.tdiv b ≤ a := by
 rw [Int.tdiv_eq_ediv_of_nonneg ha]
 exact ⟨Int.ediv_nonneg ha hb, Int.ediv_le_self _ ha⟩

theorem gcd_loop (Q : AX → Env → Heap → Prop) : ∀ (n m : Nat), (∀ g, Q (.exit 0) (sk 5 (kn [(0, .int .i64 (Nat.gcd m n : Nat))] g)) (hk 0 [])) →
  VC fs ms 0 false (.loop L_ticks_Gcd_0) (ek 5 [(0, .int .i64 (m : Nat)), (1, .int .i64 (n : Nat))]) (hk 0 []) Q := by
 intro n
 induction n using Nat.strongRecOn with
 | _ n ih =>
  intro m hq
  refine vc_loop (z := false) ?_
  conv => whnf
  refine br (fun hc => ?_) (fun hc => ?_) <;> (try rw [hc]) <;> (conv => whnf)
  ·have hn : (n : Int) ≠ 0 := by simpa using hc
   refine ⟨_, rem_val _ _ hn, ?_⟩
   conv => whnf
   refine vc_to0 5 [(0, .int .i64 (n : Nat)), (1, .int .i64 (m % n : Nat))] (renAt_cl rfl rfl (renAt_cl (by show some (AV.int .i64 ((m : Int).tmod n)) = _; rw [Int.ofNat_tmod]) rfl trivial)) ?_
   refine ih (m % n) (Nat.mod_lt _ (by omega)) n ?_
   have : Nat.gcd n (m % n) = Nat.gcd m n := by rw [Nat.gcd_comm m n, Nat.gcd_rec n m, Nat.gcd_comm]
   rw [this]
   exact hq
  ·have hn : n = 0 := by simp at hc; omega
   subst hn
   refine to_kn (P := fun e => Q (.exit 0) e (hk 0 [])) 5 [(0, .int .i64 (Nat.gcd m 0 : Nat))] rfl ⟨?_, trivial⟩ hq
   show some (AV.int .i64 (m : Int)) = _
   rw [Nat.gcd_zero_right]

def gcdS (a b : Int) : Int × Int := if isTick a && isTick b then (Nat.gcd a.toNat b.toNat, 0) else (0, 2)

theorem gcd_c (a b : Int) : PC fs ms f_ticks_Gcd [.int .i64 a, .int .i64 b] (pr (gcdS a b)) := by
 refine pc_of rfl rfl ?_
 refine vd_start (af := C_ticks_Gcd) false rfl (Nat.le_of_ble_eq_true rfl) ?_
 generalize hQ : (fun (v : AV) (_ : Heap) => v = pr (gcdS a b)) = Q
 conv => whnf
 refine tick2_c rfl ?_
 conv => whnf
 refine br (fun hc => ?_) (fun hc => ?_) <;> (try rw [hc]) <;> (conv => whnf)
 ·subst hQ
  simp at *
  simp only [gcdS, pr, both_no hc]
  rfl
 ·simp at hc
  have g1 := (isTick_iff a).1 hc.1
  have g2 := (isTick_iff b).1 hc.2
  obtain ⟨m, rfl⟩ := Int.eq_ofNat_of_zero_le g1.1
  obtain ⟨n, rfl⟩ := Int.eq_ofNat_of_zero_le g2.1
  refine vc_to0 5 [(0, .int .i64 (m : Nat)), (1, .int .i64 (n : Nat))] (by repeat' (first | exact trivial | refine renAt_sl rfl (by omega) ?_ | refine renAt_ptr rfl (by omega) ?_ | refine renAt_yield rfl (by omega) ?_ | refine renAt_cl rfl (by first | rfl | simp [clL, AV.cl, cl_ints]) ?_ | refine renAt_cl (inc_slot (by omega)) rfl ?_)) ?_
  refine gcd_loop _ n m ?_
  intro g
  conv => whnf
  subst hQ
  simp [gcdS, pr, hc]

def mulS (a b : Int) : Int × Int := if isTick a && isTick b then (if a * b > 1099511627776 then (0, 10) else (a * b, 0)) else (0, 2)

theorem mask_val (x : Int) (h : 0 ≤ x) (h2 : x < 2 ^ 64) : ((BitVec.ofInt IntKind.u64.bits x &&& BitVec.ofInt IntKind.u64.bits 4294967295).toNat : Int) = x % 4294967296 := by
 obtain ⟨n, rfl⟩ := Int.eq_ofNat_of_zero_le h
 have h3 : (BitVec.ofInt 64 (n : Int)).toNat = n := by
  rw [BitVec.toNat_ofInt]
  omega
 show ((BitVec.ofInt 64 (n : Int) &&& BitVec.ofInt 64 4294967295).toNat : Int) = _
 rw [BitVec.toNat_and, h3, show (BitVec.ofInt 64 4294967295).toNat = 2 ^ 32 - 1 by decide, Nat.and_two_pow_sub_one_eq_mod]
 omega

theorem shr_val (x : Int) : x.fdiv (2 ^ (min (32 : Int).toNat IntKind.u64.bits)) = x / 4294967296 := by
 show x.fdiv 4294967296 = _
 rw [Int.fdiv_eq_ediv_of_nonneg _ (by omega)]

theorem mul_parts (a b : Int) (ha : 0 ≤ a ∧ a ≤ 1099511627776) (hb : 0 ≤ b ∧ b ≤ 1099511627776) :
  a * b = a / 4294967296 * (b / 4294967296) * 18446744073709551616 + (a / 4294967296 * (b % 4294967296) + a % 4294967296 * (b / 4294967296)) * 4294967296 + a % 4294967296 * (b % 4294967296) ∧
  (0 ≤ a / 4294967296 * (b / 4294967296) ∧ a / 4294967296 * (b / 4294967296) ≤ 65536) ∧ (0 ≤ a / 4294967296 * (b % 4294967296) ∧ a / 4294967296 * (b % 4294967296) ≤ 1099511627776) ∧
  (0 ≤ a % 4294967296 * (b / 4294967296) ∧ a % 4294967296 * (b / 4294967296) ≤ 1099511627776) ∧ (0 ≤ a % 4294967296 * (b % 4294967296) ∧ a % 4294967296 * (b % 4294967296) ≤ 18446744065119617025) := by
 have hx : a = a / 4294967296 * 4294967296 + a % 4294967296 := by omega
 have hy : b = b / 4294967296 * 4294967296 + b % 4294967296 := by omega
 have x1 : 0 ≤ a / 4294967296 ∧ a / 4294967296 ≤ 256 := by omega
 have y1 : 0 ≤ b / 4294967296 ∧ b / 4294967296 ≤ 256 := by omega
 have x0 : 0 ≤ a % 4294967296 ∧ a % 4294967296 ≤ 4294967295 := by omega
 have y0 : 0 ≤ b % 4294967296 ∧ b % 4294967296 ≤ 4294967295 := by omega
 generalize a / 4294967296 = u at *
 generalize a % 4294967296 = v at *
 generalize b / 4294967296 = s at *
 generalize b % 4294967296 = t at *
 subst hx hy
 refine ⟨by grind, ?_, ?_, ?_, ?_⟩
 ·exact ⟨Int.mul_nonneg x1.1 y1.1, Int.le_trans (Int.mul_le_mul x1.2 y1.2 y1.1 (by omega)) (by omega)⟩
 ·exact ⟨Int.mul_nonneg x1.1 y0.1, Int.le_trans (Int.mul_le_mul x1.2 y0.2 y0.1 (by omega)) (by omega)⟩
 ·exact ⟨Int.mul_nonneg x0.1 y1.1, Int.le_trans (Int.mul_le_mul x0.2 y1.2 y1.1 (by omega)) (by omega)⟩
 ·exact ⟨Int.mul_nonneg x0.1 y0.1, Int.le_trans (Int.mul_le_mul x0.2 y0.2 y0.1 (by omega)) (by omega)⟩

theorem shr_op (x : Int) : pV (.bin .shr) [.int .u64 x, .int .i64 32] = some (.int .u64 (x / 4294967296)) := by
 have := shr_val x
 simp only [pV, pIF, l2, binF, dInt, isShift, cond_true, binShift]
 rw [this]
 rfl
theorem shr_op' {k : IntKind} (x : Int) : pV (.bin .shr) [.int .u64 x, .int k 32] = some (.int .u64 (x / 4294967296)) := by
 have := shr_val x
 simp only [pV, pIF, l2, binF, dInt, isShift, cond_true, binShift]
 rw [this]
 rfl

theorem mul64_c (a b : Int) (ha : 0 ≤ a ∧ a ≤ 1099511627776) (hb : 0 ≤ b ∧ b ≤ 1099511627776) :
  PC fs ms f_math_bits_Mul64 [.int .u64 a, .int .u64 b] (.tup [.int .u64 (a * b / 18446744073709551616), .int .u64 (a * b % 18446744073709551616)]) := by
 refine pc_of rfl rfl ?_
 refine vd_start (af := C_math_bits_Mul64) false rfl (Nat.le_of_ble_eq_true rfl) ?_
 generalize hQ : (fun (v : AV) (_ : Heap) => v = .tup [.int .u64 (a * b / 18446744073709551616), .int .u64 (a * b % 18446744073709551616)]) = Q
 conv => whnf
 iterate 8 (all_goals (first | (refine ⟨_, shr_op' _, ?_⟩ <;> (conv => whnf)) | skip))
 subst hQ
 have hlow : ∀ z : Int, IntKind.u64.wrap z = z % 18446744073709551616 := fun z => by simp [IntKind.wrap, IntKind.signed, IntKind.bits]
 have e := mul_parts a b ha hb
 rw [mask_val a (by omega) (by omega), mask_val b (by omega) (by omega)]
 rw [IntWalk.u64_in (a % 4294967296) (by omega), IntWalk.u64_in (b % 4294967296) (by omega)]
 generalize a / 4294967296 * (b / 4294967296) = p11 at *
 generalize a / 4294967296 * (b % 4294967296) = p10 at *
 generalize a % 4294967296 * (b / 4294967296) = p01 at *
 generalize a % 4294967296 * (b % 4294967296) = p00 at *
 obtain ⟨e1, e2, e3, e4, e5⟩ := e
 rw [IntWalk.u64_in p11 (by omega), IntWalk.u64_in p10 (by omega), IntWalk.u64_in p01 (by omega), IntWalk.u64_in p00 (by omega)]
 rw [IntWalk.u64_in (p10 + p00 / 4294967296) (by omega)]
 rw [mask_val _ (by omega) (by omega)]
 rw [IntWalk.u64_in ((p10 + p00 / 4294967296) % 4294967296) (by omega)]
 rw [IntWalk.u64_in (_ + p01) (by omega)]
 rw [IntWalk.u64_in (p11 + _) (by omega)]
 rw [IntWalk.u64_in _ (by omega)]
 rw [hlow, e1]
 congr 3
 congr 1
 omega

theorem mul_c (a b : Int) : PC fs ms f_ticks_Mul [.int .i64 a, .int .i64 b] (pr (mulS a b)) := by
 refine pc_of rfl rfl ?_
 refine vd_start (af := C_ticks_Mul) false rfl (Nat.le_of_ble_eq_true rfl) ?_
 generalize hQ : (fun (v : AV) (_ : Heap) => v = pr (mulS a b)) = Q
 conv => whnf
 refine tick2_c rfl ?_
 conv => whnf
 refine br (fun hc => ?_) (fun hc => ?_) <;> (try rw [hc]) <;> (conv => whnf)
 ·subst hQ
  simp at *
  simp only [mulS, pr, both_no hc]
  rfl
 ·simp at hc
  have g1 := (isTick_iff a).1 hc.1
  have g2 := (isTick_iff b).1 hc.2
  rw [IntWalk.u64_in a (by omega), IntWalk.u64_in b (by omega)]
  refine vd_pure (mul64_c a b g1 g2) ?_
  conv => whnf
  iterate 6 (all_goals (first | (refine br (fun hc => ?_) (fun hc => ?_) <;> (try rw [hc]) <;> (conv => whnf)) | skip))
  all_goals subst hQ
  all_goals have hp := Int.mul_nonneg g1.1 g2.1
  ·simp only [decide_eq_true_eq] at hc
   simp only [mulS, pr, *]
   generalize a * b = p at *
   rw [if_pos (by simp), if_pos (by omega)]
  ·rename_i h1
   simp only [decide_eq_true_eq, decide_eq_false_iff_not] at hc h1
   simp only [mulS, pr, *]
   generalize a * b = p at *
   rw [if_pos (by simp), if_pos (by omega)]
  ·rename_i h1
   simp only [decide_eq_false_iff_not] at hc h1
   simp only [mulS, pr, *]
   generalize a * b = p at *
   rw [if_pos (by simp), if_neg (by omega), IntWalk.i64_in _ (by omega), show p % 18446744073709551616 = p by omega]

theorem index_c (k : Nat) (l : List Int) (x : Int) (hl : l.length < 2 ^ 62) : ∃ r : Int, PC fs ms f_slices_Index_int_int [.fz k (ints l), .int .i64 x] (.int .i64 r) ∧ (0 ≤ r ↔ l.contains x = true) := by
 by_cases hx : l.contains x = true
 ·obtain ⟨j, hj, hjx, hfst⟩ := least_get (l := l) (p := fun y => y = x) ⟨x, by simpa using hx, rfl⟩
  refine ⟨j, ?_, by simp; simpa using hx⟩
  refine pc_of (by simp [clL, AV.cl, cl_ints]) rfl ?_
  refine vd_start (af := C_slices_Index_int_int) false rfl (Nat.le_of_ble_eq_true rfl) ?_
  generalize hQ : (fun (u : AV) (_ : Heap) => u = .int .i64 (j : Nat)) = Q
  conv => whnf
  refine vc_to0 5 [(8, .int .i64 (0 : Nat)), (0, .fz k (ints l)), (1, .int .i64 x), (7, .int .i64 (ints l).length)] (by repeat' (first | exact trivial | refine renAt_sl rfl (by omega) ?_ | refine renAt_ptr rfl (by omega) ?_ | refine renAt_yield rfl (by omega) ?_ | refine renAt_cl rfl (by first | rfl | simp [clL, AV.cl, cl_ints]) ?_ | refine renAt_cl (inc_slot (by omega)) rfl ?_)) ?_
  refine for_row 5 l.length (fun i => i ≤ j) (fun i => [(8, .int .i64 (i : Nat)), (0, .fz k (ints l)), (1, .int .i64 x), (7, .int .i64 (ints l).length)]) ?_ ?_ (Nat.zero_le _)
  ·intro i hi hij
   conv => whnf
   refine br (fun hc => ?_) (fun hc => ?_) <;> (try rw [hc]) <;> (conv => whnf)
   ·refine ⟨_, idx_int hi, ?_⟩
    conv => whnf
    refine br (fun hc => ?_) (fun hc => ?_) <;> (try rw [hc]) <;> (conv => whnf)
    ·subst hQ
     have hxi : x = l[i] := by simpa using hc
     have : i = j := by
      by_cases hlt : i < j
      ·exact absurd hxi.symm (hfst i hi hlt)
      ·omega
     subst this
     rfl
    ·have hxi : x ≠ l[i] := by simpa using hc
     refine ⟨?_, renAt_cl (inc_slot (by omega)) rfl (by repeat' (first | exact trivial | refine renAt_sl rfl (by omega) ?_ | refine renAt_ptr rfl (by omega) ?_ | refine renAt_yield rfl (by omega) ?_ | refine renAt_cl rfl (by first | rfl | simp [clL, AV.cl, cl_ints]) ?_ | refine renAt_cl (inc_slot (by omega)) rfl ?_))⟩
     by_cases he : i = j
     ·subst he; exact absurd hjx.symm hxi
     ·omega
   ·simp [len_ints] at hc; omega
  ·intro hi
   omega
 ·refine ⟨-1, ?_, by simp; simpa using hx⟩
  refine pc_of (by simp [clL, AV.cl, cl_ints]) rfl ?_
  refine vd_start (af := C_slices_Index_int_int) false rfl (Nat.le_of_ble_eq_true rfl) ?_
  generalize hQ : (fun (u : AV) (_ : Heap) => u = .int .i64 (-1)) = Q
  conv => whnf
  refine vc_to0 5 [(8, .int .i64 (0 : Nat)), (0, .fz k (ints l)), (1, .int .i64 x), (7, .int .i64 (ints l).length)] (by repeat' (first | exact trivial | refine renAt_sl rfl (by omega) ?_ | refine renAt_ptr rfl (by omega) ?_ | refine renAt_yield rfl (by omega) ?_ | refine renAt_cl rfl (by first | rfl | simp [clL, AV.cl, cl_ints]) ?_ | refine renAt_cl (inc_slot (by omega)) rfl ?_)) ?_
  refine for_row 5 l.length (fun i => True) (fun i => [(8, .int .i64 (i : Nat)), (0, .fz k (ints l)), (1, .int .i64 x), (7, .int .i64 (ints l).length)]) ?_ ?_ trivial
  ·intro i hi _
   conv => whnf
   refine br (fun hc => ?_) (fun hc => ?_) <;> (try rw [hc]) <;> (conv => whnf)
   ·refine ⟨_, idx_int hi, ?_⟩
    conv => whnf
    refine br (fun hc => ?_) (fun hc => ?_) <;> (try rw [hc]) <;> (conv => whnf)
    ·have hxi : x = l[i] := by simpa using hc
     exact absurd (by rw [hxi]; simp) hx
    ·exact ⟨trivial, renAt_cl (inc_slot (by omega)) rfl (by repeat' (first | exact trivial | refine renAt_sl rfl (by omega) ?_ | refine renAt_ptr rfl (by omega) ?_ | refine renAt_yield rfl (by omega) ?_ | refine renAt_cl rfl (by first | rfl | simp [clL, AV.cl, cl_ints]) ?_ | refine renAt_cl (inc_slot (by omega)) rfl ?_))⟩
   ·simp [len_ints] at hc; omega
  ·intro hi
   conv => whnf
   refine br (fun hc => ?_) (fun hc => ?_) <;> (try rw [hc]) <;> (conv => whnf)
   ·simp [len_ints] at hc
   ·subst hQ; rfl

theorem contains_c (k : Nat) (l : List Int) (x : Int) (hl : l.length < 2 ^ 62) : PC fs ms f_slices_Contains_int_int [.fz k (ints l), .int .i64 x] (.bool (l.contains x)) := by
 obtain ⟨r, hr, hrx⟩ := index_c k l x hl
 refine pc_of (by simp [clL, AV.cl, cl_ints]) rfl ?_
 refine vd_start (af := C_slices_Contains_int_int) false rfl (Nat.le_of_ble_eq_true rfl) ?_
 generalize hQ : (fun (u : AV) (_ : Heap) => u = .bool (l.contains x)) = Q
 conv => whnf
 refine vd_pure hr ?_
 conv => whnf
 subst hQ
 show AV.bool (decide (r ≥ 0)) = _
 congr 1
 rw [Bool.eq_iff_iff, ← hrx]
 simp

/- The counter. -/
def cnt (p : Int × Int) : Blk := .cells [.int .i64 p.1, .int .i64 p.2] true 0
def lcmStep (p : Int × Int) (m : Int) : Int × Int := if p.2 = 0 then mulS p.1 (m.tdiv (gcdS p.1 m).1) else p

theorem mul_step {h : Heap} {b : Nat} {p : Int × Int} {m : Int} (hg : h.get b = some (cnt p)) (hm : isTick m = true) (hm1 : 1 ≤ m) (hp1 : p.2 = 0 → isTick p.1 = true ∧ 1 ≤ p.1) {Q : AV → Heap → Prop} (hq : Q (.tup []) (h.set b (cnt (lcmStep p m)))) (hq0 : p.2 ≠ 0 → Q (.tup []) h) :
  VD fs ms f_ticks_count_multiple [.ptr b 0, .int .i64 m] h Q := by
 refine vd_start (af := C_ticks_count_multiple) true rfl (Nat.le_of_ble_eq_true rfl) ?_
 conv => whnf
 refine ⟨_, ld1 hg rfl, ?_⟩
 conv => whnf
 refine br (fun hc => ?_) (fun hc => ?_) <;> (try rw [hc]) <;> (conv => whnf)
 ·have hp : p.2 = 0 := by simpa using hc
  obtain ⟨ht, h1⟩ := hp1 hp
  have gt := (isTick_iff _).1 hm
  have gp := (isTick_iff _).1 ht
  refine ⟨_, ld1 hg rfl, ?_⟩
  conv => whnf
  refine vd_pure (gcd_c _ _) ?_
  conv => whnf
  refine ⟨_, ld1 hg rfl, ?_⟩
  conv => whnf
  have hgv : (gcdS p.1 m).1 = (Nat.gcd p.1.toNat m.toNat : Nat) := by simp [gcdS, ht, hm]
  have hgp : 0 < Nat.gcd p.1.toNat m.toNat := Nat.gcd_pos_of_pos_left _ (by omega)
  have hdv := tdiv_bounds gt.1 (show 0 ≤ (gcdS p.1 m).1 by rw [hgv]; omega)
  refine ⟨_, quo_val _ _ (by rw [hgv]; omega), ?_⟩
  rw [IntWalk.i64_in _ (by omega)]
  conv => whnf
  refine vd_pure (mul_c _ _) ?_
  conv => whnf
  refine ⟨_, _, st1 hg rfl rfl rfl, ?_⟩
  conv => whnf
  refine ⟨_, _, st1 (get_set_self _ _ _) rfl rfl rfl, ?_⟩
  conv => whnf
  rw [set_set]
  have : lcmStep p m = mulS p.1 (m.tdiv (gcdS p.1 m).1) := by simp [lcmStep, hp]
  rw [this] at hq
  exact hq
 ·exact hq0 (by simpa using hc)
def But (b : Nat) (h h' : Heap) : Prop := h'.next = h.next ∧ ∀ c, c ≠ b → h'.get c = h.get c
theorem But.refl (b : Nat) (h : Heap) : But b h h := ⟨rfl, fun _ _ => rfl⟩
theorem But.trans {b : Nat} {h h1 h2 : Heap} (x : But b h h1) (y : But b h1 h2) : But b h h2 := ⟨y.1.trans x.1, fun c hc => (y.2 c hc).trans (x.2 c hc)⟩
theorem But.set (b : Nat) (h : Heap) (x : Blk) : But b h (h.set b x) := ⟨rfl, fun c hc => by rw [Heap.get_set, if_neg hc]⟩

theorem teach_c {F b : Nat} (step : Int × Int → Int → Int × Int) (Good : Int × Int → Prop) (l : List Int) (k : Nat) (hl : l.length < 2 ^ 62)
  (body : ∀ (h : Heap) (p : Int × Int) (m : Int), m ∈ l → Good p → h.get b = some (cnt p) → ∀ Q : AV → Heap → Prop, Q (.tup []) (h.set b (cnt (step p m))) → (p.2 ≠ 0 → Q (.tup []) h) → VD fs ms F [.ptr b 0, .int .i64 m] h Q)
  (hgood : ∀ p m, m ∈ l → Good p → Good (step p m)) (hstuck : ∀ p m, p.2 ≠ 0 → step p m = p) {h : Heap} {p : Int × Int} (hg : h.get b = some (cnt p)) (hgp : Good p) :
  VD fs ms f_ticks_each [.func (.func F) [.ptr b 0] [], .fz k (ints l)] h fun u h' => u = .tup [] ∧ h'.get b = some (cnt (l.foldl step p)) ∧ But b h h' ∧ Good (l.foldl step p) := by
 refine vd_start (af := C_ticks_each) true rfl (Nat.le_of_ble_eq_true rfl) ?_
 generalize hQ : (fun (u : AV) (h' : Heap) => u = .tup [] ∧ h'.get b = some (cnt (l.foldl step p)) ∧ But b h h' ∧ Good (l.foldl step p)) = Q
 conv => whnf
 refine vc_slots 4 [(8, .int .i64 (0 : Nat)), (0, .func (.func F) [.ptr b 0] []), (6, .fz k (ints l)), (7, .int .i64 (ints l).length)] ⟨rfl, rfl, rfl, rfl, trivial⟩ ?_
 refine for_rowR true h.next 4 l.length (fun j h' => h'.get b = some (cnt ((l.take j).foldl step p)) ∧ But b h h' ∧ Good ((l.take j).foldl step p)) (fun j => [(8, .int .i64 (j : Nat)), (0, .func (.func F) [.ptr b 0] []), (6, .fz k (ints l)), (7, .int .i64 (ints l).length)]) ?_ ?_ ⟨hg, .refl _ _, hgp⟩
 ·intro j h' hj ⟨i1, i2, i3⟩
  conv => whnf
  refine br (fun hc => ?_) (fun hc => ?_) <;> (try rw [hc]) <;> (conv => whnf)
  ·refine ⟨_, idx_int hj, ?_⟩
   conv => whnf
   refine ⟨_, rfl, ?_⟩
   conv => whnf
   have hmem : l[j] ∈ l := List.getElem_mem hj
   have hstep : (l.take (j + 1)).foldl step p = step ((l.take j).foldl step p) l[j] := by rw [take_next hj, List.foldl_append]; rfl
   refine body h' _ _ hmem i3 i1 _ ?_ ?_
   ·conv => whnf
    refine ⟨⟨?_, i2.trans (.set _ _ _), ?_⟩, inc_slot (by omega), rfl, rfl, rfl, trivial⟩
    ·rw [hstep]; exact get_set_self _ _ _
    ·rw [hstep]; exact hgood _ _ hmem i3
   ·intro hne
    conv => whnf
    refine ⟨⟨?_, i2, ?_⟩, inc_slot (by omega), rfl, rfl, rfl, trivial⟩
    ·rw [hstep, hstuck _ _ hne]; exact i1
    ·rw [hstep]; exact hgood _ _ hmem i3
  ·simp [len_ints] at hc; omega
 ·intro h' ⟨i1, i2, i3⟩
  conv => whnf
  refine br (fun hc => ?_) (fun hc => ?_) <;> (try rw [hc]) <;> (conv => whnf)
  ·simp [len_ints] at hc
  ·subst hQ
   rw [List.take_length] at i1 i3
   exact ⟨rfl, i1, i2, i3⟩

def lcmS (limit : Int) (l : List Int) : Int × Int :=
 let p := l.foldl lcmStep (1, 0)
 if isTick limit && (l.all isTick && !l.contains 0) then (if p.2 = 0 ∧ p.1 > limit then toldS p.1 10 else toldS p.1 p.2) else (0, 2)

def Good (p : Int × Int) : Prop := p.2 = 0 → isTick p.1 = true ∧ 1 ≤ p.1

theorem good_step {p : Int × Int} {m : Int} (hm : isTick m = true ∧ 1 ≤ m) (hg : Good p) : Good (lcmStep p m) := by
 intro h0
 by_cases hp : p.2 = 0
 ·obtain ⟨h1, h2⟩ := hg hp
  have gp := (isTick_iff _).1 h1
  have gm := (isTick_iff _).1 hm.1
  have hgv : (gcdS p.1 m).1 = (Nat.gcd p.1.toNat m.toNat : Nat) := by simp [gcdS, h1, hm.1]
  have hgp : 0 < Nat.gcd p.1.toNat m.toNat := Nat.gcd_pos_of_pos_left _ (by omega)
  have hq1 : 1 ≤ m.tdiv (gcdS p.1 m).1 := by
   rw [hgv, Int.tdiv_eq_ediv_of_nonneg gm.1]
   have : Nat.gcd p.1.toNat m.toNat ≤ m.toNat := Nat.gcd_le_right _ (by omega)
   exact (Int.le_ediv_iff_mul_le (by omega)).2 (by omega)
  simp only [lcmStep, hp, if_true] at h0 ⊢
  generalize m.tdiv (gcdS p.1 m).1 = q at *
  simp only [mulS] at h0 ⊢
  split at h0
  ·split at h0
   ·simp at h0
   ·rename_i h3 h4
    rw [if_pos h3, if_neg h4]
    have : 1 ≤ p.1 * q := by
     have := Int.mul_le_mul h2 hq1 (by omega) (by omega)
     omega
    exact ⟨(isTick_iff _).2 ⟨by omega, by simp only; omega⟩, this⟩
  ·simp at h0
 ·simp only [lcmStep, hp, if_false] at h0

theorem lcm_c (limit : Int) (k : Nat) (l : List Int) (hl : l.length < 2 ^ 62) : PC fs ms f_ticks_Lcm [.int .i64 limit, .fz k (ints l)] (pr (lcmS limit l)) := by
 refine pc_of (by simp [clL, AV.cl, cl_ints]) rfl ?_
 refine vd_start (af := C_ticks_Lcm) true rfl (Nat.le_of_ble_eq_true rfl) ?_
 generalize hQ : (fun (u : AV) (_ : Heap) => u = pr (lcmS limit l)) = Q
 conv => whnf
 refine tick1_c rfl ?_
 conv => whnf
 refine br (fun hc => ?_) (fun hc => ?_) <;> (try rw [hc]) <;> (conv => whnf)
 ·subst hQ
  have : isTick limit = false := by simpa using hc
  simp [lcmS, this, pr]
 ·have ht : isTick limit = true := by simpa using hc
  refine vd_pure (tick_c k l hl) ?_
  conv => whnf
  refine br (fun hc => ?_) (fun hc => ?_) <;> (try rw [hc]) <;> (conv => whnf)
  ·subst hQ
   have : l.all isTick = false := by simpa using hc
   simp only [lcmS, this, Bool.false_and, Bool.and_false, Bool.false_eq_true, if_false]
   rfl
  ·have hall : l.all isTick = true := by simpa using hc
   refine vd_pure (contains_c k l 0 hl) ?_
   conv => whnf
   refine br (fun hc => ?_) (fun hc => ?_) <;> (try rw [hc]) <;> (conv => whnf)
   ·subst hQ
    simp only [lcmS, hc, Bool.not_true, Bool.and_false, Bool.false_eq_true, if_false]
    rfl
   ·have hmem : ∀ m, m ∈ l → isTick m = true ∧ 1 ≤ m := by
     intro m hm
     have h1 := List.all_eq_true.1 hall m hm
     have h2 := (isTick_iff m).1 h1
     refine ⟨h1, ?_⟩
     have : m ≠ 0 := by
      rintro rfl
      rw [List.contains_iff_mem.2 hm] at hc
      simp at hc
     omega
    have hcond : (isTick limit && (l.all isTick && !l.contains 0)) = true := by rw [ht, hall, hc]; rfl
    refine (teach_c (b := 1) lcmStep Good l k hl (fun h p m hm hg0 hg Q h1 h2 => mul_step hg (hmem m hm).1 (hmem m hm).2 hg0 h1 h2) (fun p m hm hg => good_step (hmem m hm) hg) (fun p m hp => by simp [lcmStep, hp]) (p := (1, 0)) (by rw [Heap.get_new, if_pos (by rfl)]; rfl) (fun _ => ⟨rfl, by decide⟩)).mono ?_
    rintro u h' ⟨rfl, h1, h2, _⟩
    conv => whnf
    refine ⟨_, ld1 h1 rfl, ?_⟩
    conv => whnf
    refine br (fun hc => ?_) (fun hc => ?_) <;> (try rw [hc]) <;> (conv => whnf)
    ·have he : (l.foldl lcmStep (1, 0)).2 = 0 := by simpa using hc
     refine ⟨_, ld1 h1 rfl, ?_⟩
     conv => whnf
     refine br (fun hc => ?_) (fun hc => ?_) <;> (try rw [hc]) <;> (conv => whnf)
     ·refine ⟨_, _, st1 h1 rfl rfl rfl, ?_⟩
      conv => whnf
      refine ⟨_, ld1 (get_set_self _ _ _) rfl, ?_⟩
      conv => whnf
      refine ⟨_, ld1 (get_set_self _ _ _) rfl, ?_⟩
      conv => whnf
      refine vd_pure (told_c _ _) ?_
      conv => whnf
      subst hQ
      simp only [lcmS, hcond, if_true]
      rw [if_pos ⟨he, by simpa using hc⟩]
      rfl
     ·refine ⟨_, ld1 h1 rfl, ?_⟩
      conv => whnf
      refine ⟨_, ld1 h1 rfl, ?_⟩
      conv => whnf
      refine vd_pure (told_c _ _) ?_
      conv => whnf
      subst hQ
      simp only [lcmS, hcond, if_true]
      rw [if_neg (fun hh => by have := hh.2; simp at hc; omega)]
      rfl
    ·refine ⟨_, ld1 h1 rfl, ?_⟩
     conv => whnf
     refine ⟨_, ld1 h1 rfl, ?_⟩
     conv => whnf
     refine vd_pure (told_c _ _) ?_
     conv => whnf
     subst hQ
     simp only [lcmS, hcond, if_true]
     rw [if_neg (fun hh => by have := hh.1; simp at hc; omega)]
     rfl
end Ir
end Go.Proofs.Ytlndlbngfgaoeaa
