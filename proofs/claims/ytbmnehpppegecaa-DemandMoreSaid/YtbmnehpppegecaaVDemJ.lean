/-
  DemandOf.
-/
import Derived.Test.YtbmnehpppegecaaVDem
import Derived.Test.YtbmnehpppegecaaVDemT
import Derived.Test.YtbmnehpppegecaaVR0
set_option maxRecDepth 100000
set_option linter.unusedSimpArgs false
set_option linter.unusedVariables false
namespace Go.Proofs.Ytbmnehpppegecaa
open Go Ads
namespace Ir

theorem works8_c : PC fs ms f_escapementlaw08_works [] (.bool true) := pc_ev (n := 1000000) (by kernel_rfl)

theorem demandOf_c (k k' : Nat) (l : List Tk) (a : List Int) (n : Int) (hk : k' ≤ 3) (hl : l.length ≤ 17592186044416) (ha : a.length ≤ 17592186044416) : PC fs ms f_escapementlaw08_DemandOf [.fz k (tks l), .fz k' (ints a), .int .i64 n] (.bool true) := by
  refine pc_of (by simp [clL, AV.cl, cl_ints, cl_tks]) rfl ?_
  refine vd_start (af := C_escapementlaw08_DemandOf) false rfl (Nat.le_of_ble_eq_true rfl) ?_
  generalize hQ : (fun (v : AV) (_ : Heap) => v = .bool true) = Q
  obtain ⟨k2, hk2, hcopy⟩ := copyInts_c k' a hk ha
  conv => whnf
  refine vd_pure hcopy ?_
  conv => whnf
  refine vd_pure (dof_c k k2 l a n (by omega) (by omega)) ?_
  conv => whnf
  refine vd_pure (rof_c k k' l a n (by omega) (by omega)) ?_
  conv => whnf
  refine vd_pure (check_c k k2 l a (by omega) (by omega)) ?_
  conv => whnf
  refine vd_pure (rcheck_c k k' l a (by omega) (by omega)) ?_
  conv => whnf
  refine brt (by simp) (fun hc => ?_)
  (try rw [hc])
  conv => whnf
  refine brt (by simp) (fun hc => ?_)
  (try rw [hc])
  conv => whnf
  refine brt (by simp) (fun hc => ?_)
  (try rw [hc])
  conv => whnf
  refine vd_pure (eqInts_same _ _ a (by omega)) ?_
  conv => whnf
  refine vd_pure (works8_c) ?_
  conv => whnf
  subst hQ
  rfl
end Ir
end Go.Proofs.Ytbmnehpppegecaa
