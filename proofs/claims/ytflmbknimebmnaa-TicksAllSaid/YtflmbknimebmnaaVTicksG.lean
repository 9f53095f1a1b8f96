/-
  The contracts of layer 1, over rows as values: TicksDivide.
-/
import Derived.Test.YtflmbknimebmnaaVTicksF
set_option maxRecDepth 100000
set_option linter.unusedSimpArgs false
set_option linter.unusedVariables false
namespace Go.Proofs.Ytflmbknimebmnaa
open Go Ads
namespace Ir

theorem lcm_nat {m n : Nat} (hm : 1 ≤ m) (hn : 1 ≤ n) (hm2 : m ≤ 1048576) (hn2 : n ≤ 1048576) : lcmS 1099511627776 [(m : Int), (n : Int)] = (((Nat.lcm m n : Nat) : Int), 0) := by
  have hg : 0 < Nat.gcd m n := Nat.gcd_pos_of_pos_left _ hm
  have hl : Nat.lcm m n = m * (n / Nat.gcd m n) := by
    rw [Nat.lcm, Nat.mul_div_assoc _ (Nat.gcd_dvd_right m n)]
  have hle : Nat.lcm m n ≤ 1099511627776 := by
    have : Nat.lcm m n ≤ m * n := Nat.le_of_dvd (Nat.mul_pos hm hn) (Nat.lcm_dvd_mul m n)
    exact Nat.le_trans this (Nat.le_trans (Nat.mul_le_mul hm2 hn2) (by decide))
  have hpos : 0 < Nat.lcm m n := Nat.lcm_pos hm hn
  have tm : isTick (m : Int) = true := (isTick_iff _).2 (by omega)
  have tn : isTick (n : Int) = true := (isTick_iff _).2 (by omega)
  have t1 : isTick 1 = true := rfl
  have g1 : gcdS 1 m = (1, 0) := by simp [gcdS, tm, t1]
  have s1 : lcmStep (1, 0) m = ((m : Int), 0) := by
    simp only [lcmStep, if_true, g1, Int.tdiv_one, mulS, t1, tm, Bool.and_self, Int.one_mul]
    rw [if_neg (by omega)]
  have g2 : gcdS m n = (((Nat.gcd m n : Nat) : Int), 0) := by simp [gcdS, tm, tn]
  have hq : (n : Int).tdiv (Nat.gcd m n : Nat) = ((n / Nat.gcd m n : Nat) : Int) := by rw [Int.ofNat_tdiv]
  have tq : isTick ((n / Nat.gcd m n : Nat) : Int) = true := (isTick_iff _).2 (by have := Nat.div_le_self n (Nat.gcd m n); generalize n / Nat.gcd m n = q at *; omega)
  have hmul : (m : Int) * ((n / Nat.gcd m n : Nat) : Int) = ((Nat.lcm m n : Nat) : Int) := by rw [hl]; simp
  have s2 : lcmStep ((m : Int), 0) n = (((Nat.lcm m n : Nat) : Int), 0) := by
    simp only [lcmStep, if_true, g2, hq, mulS, tm, tq, Bool.and_self, hmul]
    rw [if_neg (by omega)]
  have hcond : (isTick 1099511627776 && (([(m : Int), (n : Int)]).all isTick && !([(m : Int), (n : Int)]).contains 0)) = true := by
    have a : (0 : Int) ≠ (m : Int) := by omega
    have b : (0 : Int) ≠ (n : Int) := by omega
    simp [tm, tn, a, b]
    rfl
  simp only [lcmS, hcond, if_true, List.foldl_cons, List.foldl_nil, s1, s2]
  rw [if_neg (by omega)]
  simp only [toldS, if_true]
  rw [if_neg (by omega)]

theorem rem_zero {a b : Int} (hb : b ≠ 0) (h : b ∣ a) : pV (.bin .rem) [.int .i64 a, .int .i64 b] = some (.int .i64 0) := by
  rw [rem_val _ _ hb, Int.tmod_eq_zero_of_dvd h]
theorem rem_ex {a b : Int} (hb : b ≠ 0) : ∃ x : Int, pV (.bin .rem) [.int .i64 a, .int .i64 b] = some (.int .i64 x) ∧ (x = 0 → b ∣ a) :=
  ⟨_, rem_val _ _ hb, fun h => Int.dvd_of_tmod_eq_zero h⟩

theorem lcm2_v {lim a b : Int} {v : AV} {h : Heap} {n : Nat} (hn : h.get n = some (.cells [.int .i64 a, .int .i64 b] true 0)) (hp : PC fs ms f_ticks_Lcm [.int .i64 lim, .fz 2 (ints [a, b])] v) (hv : v.pl = true)
    {Q : AV → Heap → Prop} (hq : Q v h) : VD fs ms f_ticks_Lcm [.int .i64 lim, .sl n 0 2 2 false] h Q :=
  vd_view hp hv (.cons (.clean rfl) (.cons (.row (s := 1) trivial hn rfl rfl rfl (Nat.le_refl _) (Nat.le_refl _) (fun _ => rfl) (fun _ => rfl) rfl) .nil)) hq

/-- What TicksDivide does with its numbers. -/
theorem divide_run {a b c A B C G L : Int} (cA : PC fs ms f_escapementref00_Bring [.int .i64 a, .int .i64 1048576] (.int .i64 A)) (cB : PC fs ms f_escapementref00_Bring [.int .i64 b, .int .i64 1048576] (.int .i64 B))
    (cC : PC fs ms f_escapementref00_Bring [.int .i64 c, .int .i64 1000] (.int .i64 C)) {m n k : Int} (wA : IntKind.i64.wrap (1 + A) = m) (wB : IntKind.i64.wrap (1 + B) = n) (wC : IntKind.i64.wrap (1 + C) = k)
    (m0 : 1 ≤ m) (n0 : 1 ≤ n) (k0 : 1 ≤ k) (g0 : 1 ≤ G)
    (cG : PC fs ms f_ticks_Gcd [.int .i64 m, .int .i64 n] (pr (G, 0))) (cG' : PC fs ms f_ticks_Gcd [.int .i64 n, .int .i64 m] (pr (G, 0))) (cL : PC fs ms f_ticks_Lcm [.int .i64 1099511627776, .fz 2 (ints [m, n])] (pr (L, 0)))
    (hm : G ∣ m) (hn : G ∣ n) (hk2 : k ∣ m → k ∣ n → k ∣ G) (lm : m ∣ L) (ln : n ∣ L) (hp : G * L = m * n) : PC fs ms f_escapementlaw01_TicksDivide [.int .i64 a, .int .i64 b, .int .i64 c] (.bool true) := by
  obtain ⟨x1, e1, y1⟩ := rem_ex (a := m) (b := k) (by omega)
  obtain ⟨x2, e2, y2⟩ := rem_ex (a := n) (b := k) (by omega)
  obtain ⟨x3, e3, y3⟩ := rem_ex (a := G) (b := k) (by omega)
  have r1 := rem_zero (a := m) (b := G) (by omega) hm
  have r2 := rem_zero (a := n) (b := G) (by omega) hn
  have r3 := rem_zero (a := L) (b := m) (by omega) lm
  have r4 := rem_zero (a := L) (b := n) (by omega) ln
  have r5 : x1 = 0 → x2 = 0 → pV (.bin .rem) [.int .i64 G, .int .i64 k] = some (.int .i64 0) := fun h1 h2 => rem_zero (by omega) (hk2 (y1 h1) (y2 h2))
  refine pc_of rfl rfl ?_
  refine vd_start (af := C_escapementlaw01_TicksDivide) false rfl (Nat.le_of_ble_eq_true rfl) ?_
  generalize hQ : (fun (v : AV) (_ : Heap) => v = .bool true) = Q
  conv => whnf
  refine vd_pure cA ?_
  conv => whnf
  refine vd_pure cB ?_
  conv => whnf
  refine vd_pure cC ?_
  conv => whnf
  rw [wA, wB, wC]
  refine vd_pure cG ?_
  conv => whnf
  refine lcm2_v rfl cL rfl ?_
  conv => whnf
  refine br (fun hc => ?_) (fun hc => ?_) <;> (try rw [hc]) <;> (conv => whnf)
  · exfalso; simp at hc; omega
  refine ⟨_, r1, ?_⟩
  conv => whnf
  refine ⟨_, r2, ?_⟩
  conv => whnf
  refine ⟨_, e1, ?_⟩
  conv => whnf
  refine br (fun hc => ?_) (fun hc => ?_) <;> (try rw [hc]) <;> (conv => whnf)
  · have h1 : x1 = 0 := by simpa using hc
    refine ⟨_, e2, ?_⟩
    conv => whnf
    refine br (fun hc => ?_) (fun hc => ?_) <;> (try rw [hc]) <;> (conv => whnf)
    · have h2 : x2 = 0 := by simpa using hc
      refine ⟨_, r5 h1 h2, ?_⟩
      conv => whnf
      refine vd_pure cG' ?_
      conv => whnf
      refine br (fun hc => ?_) (fun hc => ?_) <;> (try rw [hc]) <;> (conv => whnf)
      · refine ⟨_, r3, ?_⟩
        conv => whnf
        refine ⟨_, r4, ?_⟩
        conv => whnf
        refine br (fun hc => ?_) (fun hc => ?_) <;> (try rw [hc]) <;> (conv => whnf)
        · refine vd_pure works_c ?_
          conv => whnf
          subst hQ
          rfl
        · exfalso
          have hc' : (IntKind.i64.wrap (G * L) == IntKind.i64.wrap (m * n)) = false := hc
          rw [hp] at hc'
          simp at hc'
      · exfalso
        simp at hc
    · refine vd_pure cG' ?_
      conv => whnf
      refine br (fun hc => ?_) (fun hc => ?_) <;> (try rw [hc]) <;> (conv => whnf)
      · refine ⟨_, r3, ?_⟩
        conv => whnf
        refine ⟨_, r4, ?_⟩
        conv => whnf
        refine br (fun hc => ?_) (fun hc => ?_) <;> (try rw [hc]) <;> (conv => whnf)
        · refine vd_pure works_c ?_
          conv => whnf
          subst hQ
          rfl
        · exfalso
          have hc' : (IntKind.i64.wrap (G * L) == IntKind.i64.wrap (m * n)) = false := hc
          rw [hp] at hc'
          simp at hc'
      · exfalso
        simp at hc
  · refine vd_pure cG' ?_
    conv => whnf
    refine br (fun hc => ?_) (fun hc => ?_) <;> (try rw [hc]) <;> (conv => whnf)
    · refine ⟨_, r3, ?_⟩
      conv => whnf
      refine ⟨_, r4, ?_⟩
      conv => whnf
      refine br (fun hc => ?_) (fun hc => ?_) <;> (try rw [hc]) <;> (conv => whnf)
      · refine vd_pure works_c ?_
        conv => whnf
        subst hQ
        rfl
      · exfalso
        have hc' : (IntKind.i64.wrap (G * L) == IntKind.i64.wrap (m * n)) = false := hc
        rw [hp] at hc'
        simp at hc'
    · exfalso
      simp at hc

theorem ticksDivide_c (a b c : Int) : PC fs ms f_escapementlaw01_TicksDivide [.int .i64 a, .int .i64 b, .int .i64 c] (.bool true) := by
  obtain ⟨A, cA, A0, A1⟩ := bring_ex a 1048576 (by omega) (by omega)
  obtain ⟨B, cB, B0, B1⟩ := bring_ex b 1048576 (by omega) (by omega)
  obtain ⟨C, cC, C0, C1⟩ := bring_ex c 1000 (by omega) (by omega)
  obtain ⟨m, hm⟩ := Int.eq_ofNat_of_zero_le (show 0 ≤ 1 + A by omega)
  obtain ⟨n, hn⟩ := Int.eq_ofNat_of_zero_le (show 0 ≤ 1 + B by omega)
  obtain ⟨k, hk2⟩ := Int.eq_ofNat_of_zero_le (show 0 ≤ 1 + C by omega)
  have m1 : 1 ≤ m ∧ m ≤ 1048576 := by omega
  have n1 : 1 ≤ n ∧ n ≤ 1048576 := by omega
  have tm : isTick (m : Int) = true := (isTick_iff _).2 (by omega)
  have tn : isTick (n : Int) = true := (isTick_iff _).2 (by omega)
  have hg : 1 ≤ Nat.gcd m n := Nat.gcd_pos_of_pos_left _ (by omega)
  have cG : PC fs ms f_ticks_Gcd [.int .i64 (m : Int), .int .i64 (n : Int)] (pr (((Nat.gcd m n : Nat) : Int), 0)) := by
    have := gcd_c m n
    rwa [show gcdS m n = (((Nat.gcd m n : Nat) : Int), 0) by simp [gcdS, tm, tn]] at this
  have cG' : PC fs ms f_ticks_Gcd [.int .i64 (n : Int), .int .i64 (m : Int)] (pr (((Nat.gcd m n : Nat) : Int), 0)) := by
    have := gcd_c n m
    rwa [show gcdS n m = (((Nat.gcd m n : Nat) : Int), 0) by simp [gcdS, tm, tn, Nat.gcd_comm]] at this
  have cL := lcm_c 1099511627776 2 [(m : Int), (n : Int)] (by simp)
  rw [lcm_nat m1.1 n1.1 m1.2 n1.2] at cL
  refine divide_run (m := (m : Int)) (n := (n : Int)) (k := (k : Int)) cA cB cC (by rw [IntWalk.i64_in _ (by omega)]; exact hm) (by rw [IntWalk.i64_in _ (by omega)]; exact hn) (by rw [IntWalk.i64_in _ (by omega)]; exact hk2) (by omega) (by omega) (by omega) (by omega) cG cG' cL ?_ ?_ ?_ ?_ ?_ ?_
  · exact Int.natCast_dvd_natCast.2 (Nat.gcd_dvd_left m n)
  · exact Int.natCast_dvd_natCast.2 (Nat.gcd_dvd_right m n)
  · intro h1 h2
    exact Int.natCast_dvd_natCast.2 (Nat.dvd_gcd (Int.natCast_dvd_natCast.1 h1) (Int.natCast_dvd_natCast.1 h2))
  · exact Int.natCast_dvd_natCast.2 (Nat.dvd_lcm_left m n)
  · exact Int.natCast_dvd_natCast.2 (Nat.dvd_lcm_right m n)
  · rw [← Int.natCast_mul, Nat.gcd_mul_lcm, Int.natCast_mul]
end Ir
end Go.Proofs.Ytflmbknimebmnaa
