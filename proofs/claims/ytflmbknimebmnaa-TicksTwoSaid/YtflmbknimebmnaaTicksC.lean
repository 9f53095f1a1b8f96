/-
  The contracts of Gcd, of the program and of the document's answer.
-/
import Derived.Test.YtflmbknimebmnaaTicksB
set_option maxRecDepth 100000
namespace Go.Proofs.Ytflmbknimebmnaa
open Go Ads
namespace Ir

def lp18 : AC := match C18.body with
  | .seq _ (.seq _ (.seq (.block _ (.loop c)) _)) => c
  | _ => .skip

theorem gcd_loop (h : Heap) (Q : AX → Env → Heap → Prop) : ∀ (n m : Nat) (g : Nat → Option AV),
    (∀ g, Q (.exit 0) (sk 5 (kn [(0, .int .i64 (Nat.gcd m n : Nat))] g)) h) →
    Ads.Comes fs ms false (.loop lp18) (sk 5 (kn [(0, .int .i64 (m : Nat)), (1, .int .i64 (n : Nat))] g)) h Q := by
  intro n
  induction n using Nat.strongRecOn with
  | _ n ih =>
    intro m g hq
    refine comes_loop ?_
    conv => whnf
    refine br (fun hc => ?_) (fun hc => ?_)
    · conv => whnf
      have hn : (n : Int) ≠ 0 := by simpa using hc
      refine ⟨_, rem_val _ _ hn, ?_⟩
      conv => whnf
      refine comes_kn 5 [(0, .int .i64 (n : Nat)), (1, .int .i64 (m % n : Nat))] ?_ ?_ ?_
      · rfl
      · refine ⟨rfl, ?_, trivial⟩
        show some (AV.int .i64 ((m : Int).tmod n)) = _
        rw [Int.ofNat_tmod]
      · intro g
        refine ih (m % n) (Nat.mod_lt _ (by omega)) n g ?_
        intro g
        have : Nat.gcd n (m % n) = Nat.gcd m n := by rw [Nat.gcd_comm m n, Nat.gcd_rec n m, Nat.gcd_comm]
        rw [this]
        exact hq g
    · conv => whnf
      have hn : n = 0 := by simp at hc; omega
      subst hn
      refine to_kn (P := fun e => Q (.exit 0) e h) 5 [(0, .int .i64 (Nat.gcd m 0 : Nat))] ?_ ?_ ?_
      · rfl
      · refine ⟨?_, trivial⟩
        show some (AV.int .i64 (m : Int)) = _
        rw [Nat.gcd_zero_right]
      · exact hq

def gcdS (a b : Int) : Int × Int := if isTick a && isTick b then (Nat.gcd a.toNat b.toNat, 0) else (0, 2)

theorem gcd_c (a b : Int) (h : Heap) : BS fs ms (.call 18 [.int .i64 a, .int .i64 b] h) (.val (pr (gcdS a b)) h) := by
  refine calld_pr (closed2 _ _) ?_ h
  refine calld (af := C18) rfl (by simp [C18]) ?_
  generalize hQ : (fun (v : AV) (_ : Heap) => v = pr (gcdS a b)) = Q
  conv => whnf
  refine tick2_c a b _ _ rfl _ ?_
  conv => whnf
  refine br (fun hc => ?_) (fun hc => ?_) <;> (conv => whnf)
  · subst hQ
    simp at *
    simp only [gcdS, pr, both_no hc]
    rfl
  · simp at hc
    have g1 := (isTick_iff a).1 hc.1
    have g2 := (isTick_iff b).1 hc.2
    obtain ⟨m, rfl⟩ := Int.eq_ofNat_of_zero_le g1.1
    obtain ⟨n, rfl⟩ := Int.eq_ofNat_of_zero_le g2.1
    refine comes_kn 5 [(0, .int .i64 (m : Nat)), (1, .int .i64 (n : Nat))] ?_ ?_ ?_
    · rfl
    · exact ⟨rfl, rfl, trivial⟩
    · intro g
      refine gcd_loop _ _ n m g ?_
      intro g
      conv => whnf
      subst hQ
      simp [gcdS, pr, hc]

def lp19 : AC := match C19.body with
  | .seq _ (.seq _ (.seq (.block _ (.loop c)) _)) => c
  | _ => .skip

theorem rgcd_loop (h : Heap) (Q : AX → Env → Heap → Prop) : ∀ (n m : Nat) (g : Nat → Option AV),
    (∀ g, Q (.exit 0) (sk 5 (kn [(0, .int .i64 (Nat.gcd m n : Nat))] g)) h) →
    Ads.Comes fs ms false (.loop lp19) (sk 5 (kn [(0, .int .i64 (m : Nat)), (1, .int .i64 (n : Nat))] g)) h Q := by
  intro n
  induction n using Nat.strongRecOn with
  | _ n ih =>
    intro m g hq
    refine comes_loop ?_
    conv => whnf
    refine br (fun hc => ?_) (fun hc => ?_)
    · conv => whnf
      have hn : (n : Int) ≠ 0 := by simp at hc; omega
      refine ⟨_, rem_val _ _ hn, ?_⟩
      conv => whnf
      refine comes_kn 5 [(0, .int .i64 (n : Nat)), (1, .int .i64 (m % n : Nat))] ?_ ?_ ?_
      · rfl
      · refine ⟨rfl, ?_, trivial⟩
        show some (AV.int .i64 ((m : Int).tmod n)) = _
        rw [Int.ofNat_tmod]
      · intro g
        refine ih (m % n) (Nat.mod_lt _ (by omega)) n g ?_
        intro g
        have : Nat.gcd n (m % n) = Nat.gcd m n := by rw [Nat.gcd_comm m n, Nat.gcd_rec n m, Nat.gcd_comm]
        rw [this]
        exact hq g
    · conv => whnf
      have hn : n = 0 := by simp at hc; omega
      subst hn
      refine to_kn (P := fun e => Q (.exit 0) e h) 5 [(0, .int .i64 (Nat.gcd m 0 : Nat))] ?_ ?_ ?_
      · rfl
      · refine ⟨?_, trivial⟩
        show some (AV.int .i64 (m : Int)) = _
        rw [Nat.gcd_zero_right]
      · exact hq

theorem rgcd_c (a b : Int) (h : Heap) : BS fs ms (.call 19 [.int .i64 a, .int .i64 b] h) (.val (pr (gcdS a b)) h) := by
  refine calld_pr (closed2 _ _) ?_ h
  refine calld (af := C19) rfl (by simp [C19]) ?_
  generalize hQ : (fun (v : AV) (_ : Heap) => v = pr (gcdS a b)) = Q
  conv => whnf
  iterate 9 (all_goals (first | (refine br (fun hc => ?_) (fun hc => ?_) <;> (try rw [hc]) <;> (conv => whnf)) | (refine calld_of (rtick_c _ _) ?_ <;> (conv => whnf)) | skip))
  · subst hQ; simp at *; simp [gcdS, pr, hc]
  · rename_i h0; subst hQ; simp at *; simp [gcdS, pr, hc, h0]
  · rename_i h0
    simp at h0 hc
    have g1 := (isTick_iff a).1 h0
    have g2 := (isTick_iff b).1 hc
    obtain ⟨m, rfl⟩ := Int.eq_ofNat_of_zero_le g1.1
    obtain ⟨n, rfl⟩ := Int.eq_ofNat_of_zero_le g2.1
    refine comes_kn 5 [(0, .int .i64 (m : Nat)), (1, .int .i64 (n : Nat))] ?_ ?_ ?_
    · rfl
    · exact ⟨rfl, rfl, trivial⟩
    · intro g
      refine rgcd_loop _ _ n m g ?_
      intro g
      conv => whnf
      subst hQ
      simp [gcdS, pr, h0, hc]

def mulS (a b : Int) : Int × Int := if isTick a && isTick b then (if a * b > 1099511627776 then (0, 10) else (a * b, 0)) else (0, 2)

theorem rmul_c (a b : Int) (h : Heap) : BS fs ms (.call 15 [.int .i64 a, .int .i64 b] h) (.val (pr (mulS a b)) h) := by
  refine calld_pr (closed2 _ _) ?_ h
  refine calld (af := C15) rfl (by simp [C15]) ?_
  generalize hQ : (fun (v : AV) (_ : Heap) => v = pr (mulS a b)) = Q
  conv => whnf
  iterate 9 (all_goals (first | (refine br (fun hc => ?_) (fun hc => ?_) <;> (try rw [hc]) <;> (conv => whnf)) | (refine calld_of (rtick_c _ _) ?_ <;> (conv => whnf)) | skip))
  · subst hQ; simp at *; simp [mulS, pr, hc]
  · rename_i h0; subst hQ; simp at *; simp [mulS, pr, hc, h0]
  · rename_i h0 h1
    simp at h0 h1 hc
    have g1 := (isTick_iff a).1 h0
    have g2 := (isTick_iff b).1 h1
    have hd : (1099511627776 : Int).tdiv a = 1099511627776 / a := Int.tdiv_eq_ediv_of_nonneg (by omega)
    have hb0 : 0 ≤ (1099511627776 : Int) / a := Int.ediv_nonneg (by omega) (by omega)
    have hb1 : (1099511627776 : Int) / a ≤ 1099511627776 := Int.ediv_le_self _ (by omega)
    have hlt : (1099511627776 : Int) / a < b ↔ 1099511627776 < a * b := by rw [Int.ediv_lt_iff_lt_mul hc, Int.mul_comm]
    refine ⟨_, quo_val _ a (by omega), ?_⟩
    rw [hd, IntWalk.i64_in _ (by omega)]
    conv => whnf
    refine br (fun hc2 => ?_) (fun hc2 => ?_) <;> (try rw [hc2]) <;> (conv => whnf)
    · subst hQ
      simp [hlt] at hc2
      simp [mulS, pr, h0, h1, hc2]
    · subst hQ
      have hc3 : ¬ 1099511627776 < a * b := by simpa [hlt] using hc2
      have hnn : 0 ≤ a * b := Int.mul_nonneg g1.1 g2.1
      rw [IntWalk.i64_in _ (by omega)]
      simp [mulS, pr, h0, h1, hc3]
  · rename_i h0 h1
    subst hQ
    simp at *
    have g1 := (isTick_iff a).1 h0
    have : a = 0 := by omega
    subst this
    simp [mulS, pr, h0, h1]
    decide
end Ir
end Go.Proofs.Ytflmbknimebmnaa
