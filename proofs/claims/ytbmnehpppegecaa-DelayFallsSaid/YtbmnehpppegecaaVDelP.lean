/-
  DelayFalls.
-/
import Derived.Test.YtbmnehpppegecaaVDelI
import Derived.Test.YtbmnehpppegecaaVDelN
import Derived.Test.YtbmnehpppegecaaVDel
set_option maxRecDepth 100000
set_option linter.unusedSimpArgs false
set_option linter.unusedVariables false
namespace Go.Proofs.Ytbmnehpppegecaa
open Go Ads
namespace Ir

theorem falls_c (k : Nat) (l0 : List Pt) (a0 b0 : Int) (hs0 : Small l0) : PC fs ms f_escapementlaw09_DelayFalls [.fz k (pts l0), .int .i64 a0, .int .i64 b0] (.bool true) := by
  refine pc_of (by simp [clL, AV.cl, cl_pts]) rfl ?_
  refine vd_start (af := C_escapementlaw09_DelayFalls) false rfl (Nat.le_of_ble_eq_true rfl) ?_
  generalize hQ : (fun (v : AV) (_ : Heap) => v = .bool true) = Q
  conv => whnf
  refine vd_pure (made9_c k l0 4 (by omega) hs0) ?_
  conv => whnf
  refine vd_pure (bring_c a0 70 (by omega) (by omega)) ?_
  conv => whnf
  refine vd_pure (bring_c b0 70 (by omega) (by omega)) ?_
  conv => whnf
  have h := mkPs_ok l0 4 (by omega)
  have hs := mkPs_small l0 4 (by omega)
  generalize mkPs l0 4 = l at *
  have ha : 0 ≤ bring a0 70 := Int.emod_nonneg a0 (show (70 : Int) ≠ 0 by omega)
  have hb : 0 ≤ bring b0 70 := Int.emod_nonneg b0 (show (70 : Int) ≠ 0 by omega)
  generalize bring a0 70 = a at *
  generalize bring b0 70 = b at *
  generalize growK l.length = k1
  refine vc_to0 5 [(0, .fz k1 (pts l)), (1, .int .i64 a), (2, .int .i64 b), (7, .int .i64 ((0 : Nat) : Int))] (by repeat' (first | exact trivial | refine renAt_sl rfl (by omega) ?_ | refine renAt_ptr rfl (by omega) ?_ | refine renAt_yield rfl (by omega) ?_ | refine renAt_cl rfl (by first | rfl | simp [clL, AV.cl, cl_ints, cl_pts]) ?_ | refine renAt_cl (inc_slot (by omega)) rfl ?_)) ?_
  refine for_row 5 l.length (fun _ => True) (fun j => [(0, .fz k1 (pts l)), (1, .int .i64 a), (2, .int .i64 b), (7, .int .i64 (j : Nat))]) ?_ ?_ trivial
  · intro i hi _
    have hx : l[i] ∈ l := List.getElem_mem hi
    have hp : ∀ n, 0 ≤ n → PC fs ms f_delay_Of [.fz k1 (pts l), .int .i64 (i : Nat), .int .i64 n] (.tup [.int .i64 (ofN l (i : Nat) n l[i].ts l[i].ts.length), .int .i64 0]) := by
      intro n hn
      have := dOf9_c k1 l (i : Nat) n hs
      rwa [dOf9_ok h hi hn] at this
    have hmono : ∀ n n' : Int, n ≤ n' → ofN l (i : Nat) n' l[i].ts l[i].ts.length ≤ ofN l (i : Nat) n l[i].ts l[i].ts.length := fun n n' hn => ofN_mono _ n n' hn _ _ (Nat.le_refl _)
    have hzero : ofN l (i : Nat) 64 l[i].ts l[i].ts.length = 0 := ofN_zero _ _ _ (fun t ht => by have := (tk_in h hx ht).1; omega) _ (Nat.le_refl _)
    have hge : ∀ n t, t ∈ l[i].ts → t.d > n → t.b ≤ ofN l (i : Nat) n l[i].ts l[i].ts.length ∧ t.e ≤ ofN l (i : Nat) n l[i].ts l[i].ts.length := by
      intro n t ht hd
      have h1 := byOne_in h (i : Nat) hx ht
      obtain ⟨j, hj, rfl⟩ := List.getElem_of_mem ht
      have h2 := ofN_ge (l := l) (i : Nat) n l[i].ts l[i].ts.length (Nat.le_refl _) j hj hj hd
      omega
    generalize hF : (fun n => ofN l (i : Nat) n l[i].ts l[i].ts.length) = F at *
    have hFe : ∀ n, ofN l (i : Nat) n l[i].ts l[i].ts.length = F n := fun n => by rw [← hF]
    simp only [hFe] at hp hmono hzero hge
    have hix := idx_pt (k := k1) hi
    have hts := hs.2 _ hx
    have hl4 := (ok_in h).1
    generalize l[i] = x at *
    have hp64 := hp 64 (by omega)
    rw [hzero] at hp64
    have hmm : F (bif decide (b > a) then b else a) ≤ F (bif decide (b < a) then b else a) := hmono _ _ (by cases h1 : decide (b > a) <;> cases h2 : decide (b < a) <;> simp at * <;> omega)
    conv => whnf
    refine brt (by rw [len_pts]; simp; omega) (fun hc => ?_)
    (try rw [hc])
    conv => whnf
    refine vd_pure (hp _ (by cases hc : decide (b < a) <;> simp <;> omega)) ?_
    conv => whnf
    refine vd_pure (hp _ (by cases hc : decide (b > a) <;> simp <;> omega)) ?_
    conv => whnf
    refine vd_pure hp64 ?_
    conv => whnf
    refine brf (by simp; omega) (fun hc => ?_)
    (try rw [hc])
    conv => whnf
    generalize (bif decide (b < a) then b else a) = mn at *
    refine vc_to0 5 [(0, .fz k1 (pts l)), (1, .int .i64 a), (2, .int .i64 b), (7, .int .i64 (i : Nat)), (10, .int .i64 (F (bif decide (b > a) then b else a))), (14, .int .i64 ((0 : Nat) : Int))] (by repeat' (first | exact trivial | refine renAt_sl rfl (by omega) ?_ | refine renAt_ptr rfl (by omega) ?_ | refine renAt_yield rfl (by omega) ?_ | refine renAt_cl rfl (by first | rfl | simp [clL, AV.cl, cl_ints, cl_pts]) ?_ | refine renAt_cl (inc_slot (by omega)) rfl ?_)) ?_
    refine for_row 5 x.ts.length (fun _ => True) (fun j => [(0, .fz k1 (pts l)), (1, .int .i64 a), (2, .int .i64 b), (7, .int .i64 (i : Nat)), (10, .int .i64 (F (bif decide (b > a) then b else a))), (14, .int .i64 (j : Nat))]) ?_ ?_ trivial
    · intro j hj _
      have hidx := idx_tk (k := x.k) hj
      have hg := hge (bif decide (b > a) then b else a) x.ts[j] (List.getElem_mem hj)
      generalize x.ts[j] = t at *
      conv => whnf
      refine ⟨_, hix, ?_⟩
      conv => whnf
      refine brt (by rw [len_tks]; simp; omega) (fun hc => ?_)
      (try rw [hc])
      conv => whnf
      refine ⟨_, hix, ?_⟩
      conv => whnf
      refine ⟨_, hidx, ?_⟩
      conv => whnf
      by_cases hd : t.d > (bif decide (b > a) then b else a)
      · have hg2 := hg hd
        refine brt (by simpa using hd) (fun hc => ?_)
        (try rw [hc])
        conv => whnf
        refine brf (decide_eq_false (by omega)) (fun hc => ?_)
        (try rw [hc])
        conv => whnf
        refine brf (decide_eq_false (by omega)) (fun hc => ?_)
        (try rw [hc])
        conv => whnf
        exact ⟨trivial, (by repeat' (first | exact trivial | refine renAt_sl rfl (by omega) ?_ | refine renAt_ptr rfl (by omega) ?_ | refine renAt_yield rfl (by omega) ?_ | refine renAt_cl rfl (by first | rfl | simp [clL, AV.cl, cl_ints, cl_pts]) ?_ | refine renAt_cl (inc_slot (by omega)) rfl ?_))⟩
      · refine brf (by simpa using hd) (fun hc => ?_)
        (try rw [hc])
        conv => whnf
        exact ⟨trivial, (by repeat' (first | exact trivial | refine renAt_sl rfl (by omega) ?_ | refine renAt_ptr rfl (by omega) ?_ | refine renAt_yield rfl (by omega) ?_ | refine renAt_cl rfl (by first | rfl | simp [clL, AV.cl, cl_ints, cl_pts]) ?_ | refine renAt_cl (inc_slot (by omega)) rfl ?_))⟩
    · intro _
      conv => whnf
      refine ⟨_, hix, ?_⟩
      conv => whnf
      refine brf (by rw [len_tks]; simp) (fun hc => ?_)
      (try rw [hc])
      conv => whnf
      exact ⟨trivial, (by repeat' (first | exact trivial | refine renAt_sl rfl (by omega) ?_ | refine renAt_ptr rfl (by omega) ?_ | refine renAt_yield rfl (by omega) ?_ | refine renAt_cl rfl (by first | rfl | simp [clL, AV.cl, cl_ints, cl_pts]) ?_ | refine renAt_cl (inc_slot (by omega)) rfl ?_))⟩
  · intro _
    conv => whnf
    refine brf (by rw [len_pts]; simp) (fun hc => ?_)
    (try rw [hc])
    conv => whnf
    refine vd_pure (works9_c) ?_
    conv => whnf
    subst hQ
    rfl
end Ir
end Go.Proofs.Ytbmnehpppegecaa
