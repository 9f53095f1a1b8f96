/-
  DelayWaits, DelayOf.
-/
import Derived.Test.YtbmnehpppegecaaVDelG
import Derived.Test.YtbmnehpppegecaaVDel
import Derived.Test.YtbmnehpppegecaaVDelT
import Derived.Test.YtbmnehpppegecaaVR0
set_option maxRecDepth 100000
set_option linter.unusedSimpArgs false
set_option linter.unusedVariables false
namespace Go.Proofs.Ytbmnehpppegecaa
open Go Ads
namespace Ir

theorem works9_c : PC fs ms f_escapementlaw09_works [] (.bool true) := pc_ev (n := 1000000) (by kernel_rfl)

theorem more_both (k : Nat) (l : List Pt) (a : Int) (hs : Small l) : ∃ k1 k2 p, PC fs ms f_delay_More [.fz k (pts l), .int .i64 a] (prL k1 p) ∧ PC fs ms f_escapementref09_More [.fz k (pts l), .int .i64 a] (prL k2 p) ∧ p.1.length < 2 ^ 62 := by
  rcases delCheck_or l with h | h
  · by_cases ha : a < 0 ∨ l.length ≤ a
    · exact ⟨3, 3, ([], 9), more_out hs h ha, rmore_out hs h ha, by simp⟩
    · obtain ⟨i, rfl⟩ := Int.eq_ofNat_of_zero_le (show 0 ≤ a by omega)
      have hi : i < l.length := by omega
      obtain ⟨k2, h2⟩ := rmore_ok (k := k) hs h hi
      refine ⟨2, k2, (moreL l i, 0), more_ok hs h hi, h2, ?_⟩
      rw [moreL, List.getElem?_eq_getElem hi]
      have := hs.2 _ (List.getElem_mem hi)
      simp only [List.length_map]
      omega
  · exact ⟨3, 3, ([], 2), more_bad hs h, rmore_bad hs h, by simp⟩

theorem delayWaits_c (k : Nat) (l : List Pt) (a n : Int) (hs : Small l) : PC fs ms f_escapementlaw09_DelayWaits [.fz k (pts l), .int .i64 a, .int .i64 n] (.bool true) := by
  refine pc_of (by simp [clL, AV.cl, cl_pts]) rfl ?_
  refine vd_start (af := C_escapementlaw09_DelayWaits) false rfl (Nat.le_of_ble_eq_true rfl) ?_
  generalize hQ : (fun (v : AV) (_ : Heap) => v = .bool true) = Q
  obtain ⟨k1, k2, p, m1, m2, m3⟩ := more_both k l a hs
  conv => whnf
  refine vd_pure (dWait_c k l a n hs) ?_
  conv => whnf
  refine vd_pure (rWait_c k l a n hs) ?_
  conv => whnf
  refine vd_pure (m1) ?_
  conv => whnf
  refine vd_pure (m2) ?_
  conv => whnf
  refine vd_pure (dcheck9_c k l hs) ?_
  conv => whnf
  refine vd_pure (rcheck9_c k l hs) ?_
  conv => whnf
  refine brt (by simp) (fun hc => ?_)
  (try rw [hc])
  conv => whnf
  refine brt (by simp) (fun hc => ?_)
  (try rw [hc])
  conv => whnf
  refine brt (by simp) (fun hc => ?_)
  (try rw [hc])
  conv => whnf
  refine vd_pure (eqInts_same _ _ p.1 m3) ?_
  conv => whnf
  refine brt (by simp) (fun hc => ?_)
  (try rw [hc])
  conv => whnf
  refine vd_pure (works9_c) ?_
  conv => whnf
  subst hQ
  rfl

theorem delayOf_c (k : Nat) (l : List Pt) (a n : Int) (hs : Small l) : PC fs ms f_escapementlaw09_DelayOf [.fz k (pts l), .int .i64 a, .int .i64 n] (.bool true) := by
  refine pc_of (by simp [clL, AV.cl, cl_pts]) rfl ?_
  refine vd_start (af := C_escapementlaw09_DelayOf) false rfl (Nat.le_of_ble_eq_true rfl) ?_
  generalize hQ : (fun (v : AV) (_ : Heap) => v = .bool true) = Q
  conv => whnf
  refine vd_pure (dOf9_c k l a n hs) ?_
  conv => whnf
  refine vd_pure (rOf9_c k l a n hs) ?_
  conv => whnf
  refine brt (by simp) (fun hc => ?_)
  (try rw [hc])
  conv => whnf
  refine brt (by simp) (fun hc => ?_)
  (try rw [hc])
  conv => whnf
  refine vd_pure (works9_c) ?_
  conv => whnf
  subst hQ
  rfl
end Ir
end Go.Proofs.Ytbmnehpppegecaa
