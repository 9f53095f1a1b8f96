/-
  DemandUse.
-/
import Derived.Test.YtbmnehpppegecaaVDemJ
import Derived.Test.YtbmnehpppegecaaVDem
import Derived.Test.YtbmnehpppegecaaVDemN
set_option maxRecDepth 100000
set_option linter.unusedSimpArgs false
set_option linter.unusedVariables false
namespace Go.Proofs.Ytbmnehpppegecaa
open Go Ads
namespace Ir

theorem demandUse_c (k k' : Nat) (l : List Tk) (a : List Int) (n : Int) (hl : l.length ≤ 17592186044416) (ha : a.length ≤ 17592186044416) : PC fs ms f_escapementlaw08_DemandUse [.fz k (tks l), .fz k' (ints a), .int .i64 n] (.bool true) := by
  refine pc_of (by simp [clL, AV.cl, cl_ints, cl_tks]) rfl ?_
  refine vd_start (af := C_escapementlaw08_DemandUse) false rfl (Nat.le_of_ble_eq_true rfl) ?_
  generalize hQ : (fun (v : AV) (_ : Heap) => v = .bool true) = Q
  conv => whnf
  refine vd_pure (dhyper_c k l n (by omega)) ?_
  conv => whnf
  refine vd_pure (rhyper_c k l n (by omega)) ?_
  conv => whnf
  refine vd_pure (duse_c k k' l a n (by omega) (by omega)) ?_
  conv => whnf
  refine vd_pure (ruse_c k k' l a n (by omega) (by omega)) ?_
  conv => whnf
  refine vd_pure (duse_c k k' l a _ (by omega) (by omega)) ?_
  conv => whnf
  refine vd_pure (ruse_c k k' l a _ (by omega) (by omega)) ?_
  conv => whnf
  refine brt (by simp) (fun hc => ?_)
  (try rw [hc])
  conv => whnf
  refine brt (by simp) (fun hc => ?_)
  (try rw [hc])
  conv => whnf
  refine brt (by simp) (fun hc => ?_)
  (try rw [hc])
  conv => whnf
  refine brt (by simp) (fun hc => ?_)
  (try rw [hc])
  conv => whnf
  refine brt (by simp) (fun hc => ?_)
  (try rw [hc])
  conv => whnf
  refine brt (by simp) (fun hc => ?_)
  (try rw [hc])
  conv => whnf
  refine vd_pure (works8_c) ?_
  conv => whnf
  subst hQ
  rfl
end Ir
end Go.Proofs.Ytbmnehpppegecaa
