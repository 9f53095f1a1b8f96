/-
  Local: partitions made to be such.
-/
import Derived.Test.YtepdklcpagielaaVDel
import Derived.Test.YtepdklcpagielaaVR0
import Derived.Test.YtepdklcpagielaaVsGrow
set_option maxRecDepth 100000
set_option linter.unusedSimpArgs false
set_option linter.unusedVariables false
namespace Go.Proofs.Ytepdklcpagielaa
open Go Ads
namespace Ir

def n9p (t : Tk) : Int := 1 + t.p % 48
def n9d (t : Tk) : Int := 1 + t.d % n9p t
def n9w (t : Tk) : Int := 1 + t.w % n9d t
def n9b (t : Tk) : Int := t.b % (n9w t + 1)
def n9c (t : Tk) : Int := t.c % 5
def n9e (bud : Int) (t : Tk) : Int := 1 + t.e % min bud (n9w t)
def n9f (bud : Int) (t : Tk) : Int := 1 + t.f % (n9w t / n9e bud t)
def n9 (bud : Int) (t : Tk) : Tk := ⟨n9p t, n9d t, n9w t, 0, n9b t, n9c t, if n9c t > 0 then n9e bud t else 0, if n9c t > 0 then n9f bud t else 0⟩
def nkTs (bud : Int) (l : List Tk) : List Tk := (l.take 4).map (n9 bud)
def q9p (x : Pt) : Int := 1 + x.per % 10
def q9b (x : Pt) : Int := 1 + x.bud % q9p x
def nkP (x : Pt) : Pt := ⟨q9p x, q9b x, growK (nkTs (q9b x) x.ts).length, nkTs (q9b x) x.ts⟩
def nkPs (l : List Pt) (m : Nat) : List Pt := (l.take m).map nkP

theorem n9_in (bud : Int) (t : Tk) (hb : 1 ≤ bud) : (1 ≤ n9p t ∧ n9p t ≤ 64) ∧ (1 ≤ n9d t ∧ n9d t ≤ n9p t) ∧ (1 ≤ n9w t ∧ n9w t ≤ n9d t) ∧ (0 ≤ n9b t ∧ n9b t ≤ n9w t) ∧ (0 ≤ n9c t ∧ n9c t ≤ 4) ∧ (1 ≤ n9e bud t ∧ n9e bud t ≤ bud ∧ n9e bud t ≤ n9w t) ∧ (1 ≤ n9f bud t ∧ n9f bud t ≤ n9w t / n9e bud t) ∧ 1 ≤ n9w t / n9e bud t := by
  have a1 := Int.emod_nonneg t.p (show (48 : Int) ≠ 0 by omega)
  have a2 := Int.emod_lt_of_pos t.p (show (0 : Int) < 48 by omega)
  have hp : 1 ≤ n9p t ∧ n9p t ≤ 64 := by unfold n9p; omega
  have b1 := Int.emod_nonneg t.d (show n9p t ≠ 0 by omega)
  have b2 := Int.emod_lt_of_pos t.d (show 0 < n9p t by omega)
  have hd : 1 ≤ n9d t ∧ n9d t ≤ n9p t := by unfold n9d; omega
  have c1 := Int.emod_nonneg t.w (show n9d t ≠ 0 by omega)
  have c2 := Int.emod_lt_of_pos t.w (show 0 < n9d t by omega)
  have hw : 1 ≤ n9w t ∧ n9w t ≤ n9d t := by unfold n9w; omega
  have d1 := Int.emod_nonneg t.b (show n9w t + 1 ≠ 0 by omega)
  have d2 := Int.emod_lt_of_pos t.b (show 0 < n9w t + 1 by omega)
  have hlo : 0 ≤ n9b t ∧ n9b t ≤ n9w t := by unfold n9b; omega
  have e1 := Int.emod_nonneg t.c (show (5 : Int) ≠ 0 by omega)
  have e2 := Int.emod_lt_of_pos t.c (show (0 : Int) < 5 by omega)
  have hc : 0 ≤ n9c t ∧ n9c t ≤ 4 := by unfold n9c; omega
  have f1 := Int.emod_nonneg t.e (show min bud (n9w t) ≠ 0 by omega)
  have f2 := Int.emod_lt_of_pos t.e (show 0 < min bud (n9w t) by omega)
  have he : 1 ≤ n9e bud t ∧ n9e bud t ≤ bud ∧ n9e bud t ≤ n9w t := by unfold n9e; omega
  have hq : 1 ≤ n9w t / n9e bud t := by
    rw [Int.le_ediv_iff_mul_le (by omega)]
    omega
  have g1 := Int.emod_nonneg t.f (show n9w t / n9e bud t ≠ 0 by omega)
  have g2 := Int.emod_lt_of_pos t.f (show 0 < n9w t / n9e bud t by omega)
  have hf : 1 ≤ n9f bud t ∧ n9f bud t ≤ n9w t / n9e bud t := by unfold n9f; omega
  exact ⟨hp, hd, hw, hlo, hc, he, hf, hq⟩
theorem n9_ok (bud : Int) (t : Tk) (hb : 1 ≤ bud) : taskOk (n9 bud t) = true ∧ mayD (n9 bud t) bud = true := by
  obtain ⟨hp, hd, hw, hlo, hc, he, hf, hq⟩ := n9_in bud t hb
  constructor
  · refine decide_eq_true ?_
    show 1 ≤ n9w t ∧ n9w t ≤ n9d t ∧ n9d t ≤ n9p t ∧ n9p t ≤ 64
    omega
  · refine decide_eq_true ?_
    show 0 ≤ n9b t ∧ n9b t ≤ n9w t ∧ 0 ≤ n9c t ∧ n9c t ≤ 4 ∧ ((n9c t = 0 ∧ (if n9c t > 0 then n9e bud t else 0) = 0 ∧ (if n9c t > 0 then n9f bud t else 0) = 0) ∨ (n9c t ≠ 0 ∧ 1 ≤ (if n9c t > 0 then n9e bud t else 0) ∧ (if n9c t > 0 then n9e bud t else 0) ≤ bud ∧ 1 ≤ (if n9c t > 0 then n9f bud t else 0) ∧ (if n9c t > 0 then n9e bud t else 0) * (if n9c t > 0 then n9f bud t else 0) ≤ n9w t))
    refine ⟨hlo.1, hlo.2, hc.1, hc.2, ?_⟩
    by_cases h0 : n9c t > 0
    · rw [if_pos h0, if_pos h0]
      refine .inr ⟨by omega, he.1, he.2.1, hf.1, ?_⟩
      have h1 : n9e bud t * n9f bud t ≤ n9e bud t * (n9w t / n9e bud t) := Int.mul_le_mul_of_nonneg_left hf.2 (by omega)
      have h2 := Int.mul_ediv_self_le (x := n9w t) (k := n9e bud t) (by omega)
      omega
    · rw [if_neg h0, if_neg h0]
      exact .inl ⟨by omega, rfl, rfl⟩
theorem q9_in (x : Pt) : 1 ≤ q9p x ∧ q9p x ≤ 64 ∧ 1 ≤ q9b x ∧ q9b x ≤ q9p x := by
  have a1 := Int.emod_nonneg x.per (show (10 : Int) ≠ 0 by omega)
  have a2 := Int.emod_lt_of_pos x.per (show (0 : Int) < 10 by omega)
  have hp : 1 ≤ q9p x ∧ q9p x ≤ 64 := by unfold q9p; omega
  have b1 := Int.emod_nonneg x.bud (show q9p x ≠ 0 by omega)
  have b2 := Int.emod_lt_of_pos x.bud (show 0 < q9p x by omega)
  unfold q9b
  omega
theorem nkP_ok (x : Pt) : partOk (nkP x) = true := by
  have hin := q9_in x
  have ht : ∀ t, t ∈ nkTs (q9b x) x.ts → taskOk t = true ∧ mayD t (q9b x) = true := by
    intro t ht
    obtain ⟨u, -, rfl⟩ := List.mem_map.1 ht
    exact n9_ok _ _ hin.2.2.1
  simp only [partOk, nkP, Bool.and_eq_true]
  refine ⟨decide_eq_true hin, ?_, ?_⟩
  · rw [tasksOk, Bool.and_eq_true, List.all_eq_true]
    refine ⟨fun t h => (ht t h).1, decide_eq_true ?_⟩
    simp [nkTs]
    omega
  · rw [List.all_eq_true]
    exact fun t h => (ht t h).2
theorem nkPs_ok (l : List Pt) (m : Nat) (hm : m ≤ 4) : delCheck (nkPs l m) = 0 := by
  rw [delCheck, if_pos]
  refine ⟨by simp [nkPs]; omega, ?_⟩
  rw [List.all_eq_true]
  intro x hx
  obtain ⟨y, -, rfl⟩ := List.mem_map.1 hx
  exact nkP_ok y
theorem nkPs_small (l : List Pt) (m : Nat) (hm : m ≤ 4) : Small (nkPs l m) := by
  refine ⟨by simp [nkPs]; omega, ?_⟩
  intro x hx
  obtain ⟨y, -, rfl⟩ := List.mem_map.1 hx
  simp [nkP, nkTs]
  omega

theorem size_tks (l : List Tk) : allSize 8 (tks l) = true := allSize_map (enc := tk) (fun _ => rfl) l
theorem size_pts (l : List Pt) : allSize 3 (pts l) = true := allSize_map (enc := pt) (fun _ => rfl) l
theorem tks_take (l : List Tk) (j : Nat) : (tks l).take j = tks (l.take j) := by simp [tks]
theorem pts_take (l : List Pt) (j : Nat) : (pts l).take j = pts (l.take j) := by simp [pts]

def F9 (k : Nat) (l : List Pt) (m i : Nat) (V : AV) (j : Nat) : List (Nat × AV) := [(0, .fz k (pts l)), (1, .int .i64 (m : Nat)), (5, V), (6, .int .i64 (i : Nat)), (7, .ptr 1 0), (8, .int .i64 (j : Nat))]

end Ir
end Go.Proofs.Ytepdklcpagielaa
