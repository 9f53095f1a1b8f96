/-
  Tune: the best period.
-/
import Derived.Test.YtlndlbngfgaoeaaVTunD
import Derived.Test.YtlndlbngfgaoeaaVTunF
set_option maxRecDepth 100000
set_option linter.unusedSimpArgs false
set_option linter.unusedVariables false
namespace Go.Proofs.Ytlndlbngfgaoeaa
open Go Ads
namespace Ir

def lessS (p b q c : Int) : Bool := decide (q = 0) || decide (b * q < c * p)
theorem less_c (p b q c : Int) (hp : 0 ≤ p ∧ p ≤ 64) (hb : 0 ≤ b ∧ b ≤ 64) (hq : 0 ≤ q ∧ q ≤ 64) (hc : 0 ≤ c ∧ c ≤ 64) : PC fs ms f_tune_part_less [.agg [.int .i64 p, .int .i64 b], .agg [.int .i64 q, .int .i64 c]] (.bool (lessS p b q c)) := by
 refine pc_of rfl rfl ?_
 refine vd_start (af := C_tune_part_less) false rfl (Nat.le_of_ble_eq_true rfl) ?_
 generalize hQ : (fun (v : AV) (_ : Heap) => v = .bool (lessS p b q c)) = Q
 have m1 := mul_le64 hb.1 hq.1 hb.2 hq.2
 have m2 := mul_le64 hc.1 hp.1 hc.2 hp.2
 have w1 : IntKind.i64.wrap (b * q) = b * q := IntWalk.i64_in _ (by omega)
 have w2 : IntKind.i64.wrap (c * p) = c * p := IntWalk.i64_in _ (by omega)
 conv => whnf
 by_cases c1 : q = 0
 ·refine brt (by simpa using c1) (fun hc => ?_)
  (try rw [hc])
  conv => whnf
  subst hQ
  rw [lessS, decide_eq_true c1, Bool.true_or]
 refine brf (by simpa using c1) (fun hc => ?_)
 (try rw [hc])
 conv => whnf
 subst hQ
 rw [w1, w2, lessS, decide_eq_false c1, Bool.false_or]

theorem needS_in (l : List Pt) (i : Nat) (p : Int) : 0 ≤ needS l i p ∧ needS l i p ≤ 64 ∧ (0 ≤ p → needS l i p ≤ p) := by
 unfold needS
 cases hf : firstBad (enough (setPer l i p) i) 1 (min p 64).toNat with
 | none => simp
 | some u =>
  obtain ⟨h1, h2, -, -⟩ := firstBad_some hf
  show 0 ≤ ((u : Nat) : Int) ∧ ((u : Nat) : Int) ≤ 64 ∧ (0 ≤ p → ((u : Nat) : Int) ≤ p)
  omega

def bestN (l : List Pt) (k : Nat) : Nat → Int × Int
 | 0 => (0, 0)
 | m + 1 => if 0 < needS l k ((m + 1 : Nat) : Int) ∧ lessS ((m + 1 : Nat) : Int) (needS l k ((m + 1 : Nat) : Int)) (bestN l k m).1 (bestN l k m).2 = true then (((m + 1 : Nat) : Int), needS l k ((m + 1 : Nat) : Int)) else bestN l k m

def BestIs (l : List Pt) (k m : Nat) (q : Int × Int) : Prop :=
 (q = (0, 0) ∧ ∀ i, 1 ≤ i → i ≤ m → needS l k ((i : Nat) : Int) = 0) ∨
 (∃ i, 1 ≤ i ∧ i ≤ m ∧ q = (((i : Nat) : Int), needS l k ((i : Nat) : Int)) ∧ 0 < needS l k ((i : Nat) : Int) ∧ ∀ j, 1 ≤ j → j ≤ m → 0 < needS l k ((j : Nat) : Int) → needS l k ((i : Nat) : Int) * ((j : Nat) : Int) ≤ needS l k ((j : Nat) : Int) * ((i : Nat) : Int))

theorem best_is (l : List Pt) (k : Nat) : ∀ m, BestIs l k m (bestN l k m)
 | 0 => .inl ⟨rfl, fun i h1 h2 => by omega⟩
 | m + 1 => by
  have ih := best_is l k m
  rw [bestN]
  have hn := needS_in l k ((m + 1 : Nat) : Int)
  generalize hN : needS l k ((m + 1 : Nat) : Int) = N at *
  rcases ih with ⟨hq, hno⟩ | ⟨i, i1, i2, hq, hi, hle⟩
  ·rw [hq]
   by_cases h0 : 0 < N
   ·rw [if_pos ⟨h0, by simp [lessS]⟩]
    refine .inr ⟨m + 1, by omega, by omega, by rw [hN], by rw [hN]; exact h0, fun j j1 j2 hj => ?_⟩
    by_cases hjm : j = m + 1
    ·subst hjm; omega
    ·rw [hno j j1 (by omega)] at hj; omega
   ·rw [if_neg (fun h => h0 h.1)]
    refine .inl ⟨rfl, fun j j1 j2 => ?_⟩
    by_cases hjm : j = m + 1
    ·subst hjm; omega
    ·exact hno j j1 (by omega)
  ·rw [hq]
   have hI := needS_in l k ((i : Nat) : Int)
   generalize hV : needS l k ((i : Nat) : Int) = V at *
   by_cases h0 : 0 < N ∧ lessS ((m + 1 : Nat) : Int) N ((i : Nat) : Int) V = true
   ·rw [if_pos h0]
    have hls : N * ((i : Nat) : Int) < V * ((m + 1 : Nat) : Int) := by
     have := h0.2
     simp only [lessS, Bool.or_eq_true, decide_eq_true_eq] at this
     rcases this with h | h
     ·omega
     ·exact h
    refine .inr ⟨m + 1, by omega, by omega, by rw [hN], by rw [hN]; exact h0.1, fun j j1 j2 hj => ?_⟩
    by_cases hjm : j = m + 1
    ·subst hjm; omega
    ·have h3 := hle j j1 (by omega) hj
     rw [hN]
     generalize needS l k ((j : Nat) : Int) = J at *
     have a1 : (N * ((i : Nat) : Int)) * ((j : Nat) : Int) ≤ (V * ((m + 1 : Nat) : Int)) * ((j : Nat) : Int) := Int.mul_le_mul_of_nonneg_right (by omega) (by omega)
     have a2 : (V * ((j : Nat) : Int)) * ((m + 1 : Nat) : Int) ≤ (J * ((i : Nat) : Int)) * ((m + 1 : Nat) : Int) := Int.mul_le_mul_of_nonneg_right h3 (by omega)
     have a3 : (N * ((j : Nat) : Int)) * ((i : Nat) : Int) ≤ (J * ((m + 1 : Nat) : Int)) * ((i : Nat) : Int) := by
      rw [Int.mul_right_comm] at a1
      rw [Int.mul_right_comm V, Int.mul_right_comm J] at a2
      exact Int.le_trans a1 a2
     exact Int.le_of_mul_le_mul_right a3 (by omega)
   ·rw [if_neg h0]
    refine .inr ⟨i, i1, by omega, by rw [hV], by rw [hV]; exact hi, fun j j1 j2 hj => ?_⟩
    rw [hV]
    by_cases hjm : j = m + 1
    ·subst hjm
     rw [hN] at hj ⊢
     have : lessS ((m + 1 : Nat) : Int) N ((i : Nat) : Int) V = false := by
      cases h : lessS ((m + 1 : Nat) : Int) N ((i : Nat) : Int) V with
      | false => rfl
      | true => exact absurd ⟨hj, h⟩ h0
     simp only [lessS, Bool.or_eq_false_iff, decide_eq_false_iff_not] at this
     omega
    ·exact hle j j1 (by omega) hj
theorem best_in (l : List Pt) (k m : Nat) (hm : m ≤ 64) : 0 ≤ (bestN l k m).1 ∧ (bestN l k m).1 ≤ 64 ∧ 0 ≤ (bestN l k m).2 ∧ (bestN l k m).2 ≤ 64 := by
 rcases best_is l k m with ⟨hq, -⟩ | ⟨i, i1, i2, hq, -, -⟩
 ·rw [hq]; simp
 ·rw [hq]
  have := needS_in l k ((i : Nat) : Int)
  simp only
  omega

def BestS (l : List Pt) (k m : Nat) : Int × Int × Int := if (bestN l k m).1 = 0 then (0, 0, 120) else ((bestN l k m).1, (bestN l k m).2, 0)
def bestE (k : Nat) (L : List Pt) (i m : Nat) (j : Nat) : List (Nat × AV) := [(0, .fz k (pts L)), (1, .int .i64 (i : Nat)), (9, .ptr 0 0), (23, .int .i64 (m : Nat)), (24, .int .i64 ((j : Nat) : Int))]
def bestH (p : Int × Int) : Heap := H3 (some (.cells [.int .i64 p.1, .int .i64 p.2] true 0)) none none
theorem ren_best {k i m j : Nat} {L : List Pt} {e1 : Env} {h1 : Heap} {q : Int × Int} (e0 : Tr.get e1 0 = some (.fz k (pts L))) (f1 : Tr.get e1 1 = some (.int .i64 (i : Nat))) (e9 : Tr.get e1 9 = some (.ptr 0 0)) (e23 : Tr.get e1 23 = some (.int .i64 (m : Nat)))
  (e24 : Tr.get e1 24 = some (.int .i64 ((j : Nat) : Int))) (g0 : h1.get 0 = some (.cells [.int .i64 q.1, .int .i64 q.2] true 0)) : GC 0 id e1 h1 (ek 5 (bestE k L i m j)) (bestH q) :=
 gc3 id ⟨⟨_, e0, .cl (by simp [AV.cl, cl_pts])⟩, ⟨_, f1, .cl rfl⟩, ⟨_, e9, .ptr (by omega)⟩, ⟨_, e23, .cl rfl⟩, ⟨_, e24, .cl rfl⟩, trivial⟩ (one_blk ⟨_, g0, renB_cl rfl rfl⟩) no_blk no_blk (by decide) (by decide) (by decide) (by intro b hb; omega) (by omega)

theorem best_c (k : Nat) (L : List Pt) (i m : Nat) (hs : Small L) (hi : i < L.length) (hk : Nat.beq k 3 = false) (hl : L.length ≤ 1000) (hm1 : 1 ≤ m) (hm : m ≤ 64) : PC fs ms f_tune_Best [.fz k (pts L), .int .i64 (i : Nat), .int .i64 (m : Nat)] (tripI (BestS L i m)) := by
 refine pc_of (by simp [clL, AV.cl, cl_pts]) rfl ?_
 refine vd_start (af := C_tune_Best) false rfl (Nat.le_of_ble_eq_true rfl) ?_
 generalize hQ : (fun (v : AV) (_ : Heap) => v = tripI (BestS L i m)) = Q
 conv => whnf
 refine vd_pure (there_c k L i hi) ?_
 conv => whnf
 refine brf (by simp; omega) (fun hc => ?_)
 (try rw [hc])
 conv => whnf
 refine brf (by simp; omega) (fun hc => ?_)
 (try rw [hc])
 conv => whnf
 refine vc_gc (ren_best (q := bestN L i 0) (j := 0) rfl rfl rfl rfl rfl rfl) ?_
 refine for_rowL 0 5 m (fun _ => True) (bestE k L i m) (fun j => bestH (bestN L i j)) (fun j hj _ => ?_) (fun _ => ?_) trivial
 ·have hneed := need_c k L i ((j + 1 : Nat) : Int) hs hi hk hl (by omega)
  have hnin := needS_in L i ((j + 1 : Nat) : Int)
  have hbin := best_in L i j (by omega)
  have hnx : bestN L i (j + 1) = if 0 < needS L i ((j + 1 : Nat) : Int) ∧ lessS ((j + 1 : Nat) : Int) (needS L i ((j + 1 : Nat) : Int)) (bestN L i j).1 (bestN L i j).2 = true then (((j + 1 : Nat) : Int), needS L i ((j + 1 : Nat) : Int)) else bestN L i j := rfl
  generalize bestN L i (j + 1) = q' at *
  generalize bestN L i j = q at *
  generalize needS L i ((j + 1 : Nat) : Int) = n at *
  obtain ⟨qa, qb⟩ := q
  show vpC fs ms 0 false false _ (ek 5 [(0, .fz k (pts L)), (1, .int .i64 (i : Nat)), (9, .ptr 0 0), (23, .int .i64 (m : Nat)), (24, .int .i64 ((j : Nat) : Int))]) ⟨3, .node (.node .nil none .nil) (some (.cells [.int .i64 qa, .int .i64 qb] true 0)) (.node .nil none .nil)⟩ _
  have hless := less_c ((j + 1 : Nat) : Int) n qa qb (by omega) ⟨hnin.1, hnin.2.1⟩ ⟨hbin.1, hbin.2.1⟩ ⟨hbin.2.2.1, hbin.2.2.2⟩
  conv => whnf
  refine brt (by simp; omega) (fun hc => ?_)
  (try rw [hc])
  conv => whnf
  rw [inc_val (by omega)]
  refine vd_pure (hneed) ?_
  conv => whnf
  by_cases h0 : 0 < n
  ·refine brt (by simpa using h0) (fun hc => ?_)
   (try rw [hc])
   conv => whnf
   refine vd_pure (hless) ?_
   conv => whnf
   cases hL : lessS ((j + 1 : Nat) : Int) n qa qb with
   | true =>
    conv => whnf
    rw [if_pos ⟨h0, hL⟩] at hnx
    subst hnx
    exact ⟨trivial, id, ren_best rfl rfl rfl rfl (inc_slot (by omega)) rfl⟩
   | false =>
    conv => whnf
    rw [if_neg (by rw [hL]; simp)] at hnx
    subst hnx
    exact ⟨trivial, id, ren_best rfl rfl rfl rfl (inc_slot (by omega)) rfl⟩
  ·refine brf (by simpa using h0) (fun hc => ?_)
   (try rw [hc])
   conv => whnf
   rw [if_neg (fun h => h0 h.1)] at hnx
   subst hnx
   exact ⟨trivial, id, ren_best rfl rfl rfl rfl (inc_slot (by omega)) rfl⟩
 ·refine vc_loop (z := false) ?_
  have hB : BestS L i m = if (bestN L i m).1 = 0 then (0, 0, 120) else ((bestN L i m).1, (bestN L i m).2, 0) := rfl
  generalize bestN L i m = q at *
  obtain ⟨qa, qb⟩ := q
  show vpC fs ms 0 false false _ (ek 5 [(0, .fz k (pts L)), (1, .int .i64 (i : Nat)), (9, .ptr 0 0), (23, .int .i64 (m : Nat)), (24, .int .i64 ((m : Nat) : Int))]) ⟨3, .node (.node .nil none .nil) (some (.cells [.int .i64 qa, .int .i64 qb] true 0)) (.node .nil none .nil)⟩ _
  conv => whnf
  refine brf (by simp) (fun hc => ?_)
  (try rw [hc])
  conv => whnf
  by_cases h0 : qa = 0
  ·refine brt (by simpa using h0) (fun hc => ?_)
   (try rw [hc])
   conv => whnf
   subst hQ
   rw [hB, if_pos h0]
   rfl
  ·refine brf (by simpa using h0) (fun hc => ?_)
   (try rw [hc])
   conv => whnf
   subst hQ
   rw [hB, if_neg h0]
   rfl
end Ir
end Go.Proofs.Ytlndlbngfgaoeaa
