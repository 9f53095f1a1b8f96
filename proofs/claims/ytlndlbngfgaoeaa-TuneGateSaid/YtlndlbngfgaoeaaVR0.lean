/-
  Small helpers of the document's answers: EqInts, CopyInts, Bring.
-/
import Derived.Test.YtlndlbngfgaoeaaIrLink
import Derived.Test.YtlndlbngfgaoeaaVsRows
set_option maxRecDepth 100000
set_option linter.unusedSimpArgs false
set_option linter.unusedVariables false
namespace Go.Proofs.Ytlndlbngfgaoeaa
open Go Ads
namespace Ir

def bring (i n : Int) : Int := i % n
theorem bring_c (i n : Int) (hn : 0 < n) (hn2 : n < 2 ^ 62) : PC fs ms f_escapementref00_Bring [.int .i64 i, .int .i64 n] (.int .i64 (bring i n)) := by
 refine pc_of rfl rfl ?_
 refine vd_start (af := C_escapementref00_Bring) false rfl (Nat.le_of_ble_eq_true rfl) ?_
 generalize hQ : (fun (v : AV) (_ : Heap) => v = .int .i64 (bring i n)) = Q
 conv => whnf
 refine ⟨_, rem_val _ _ (by omega), ?_⟩
 conv => whnf
 have h1 : i.tmod n = if 0 ≤ i ∨ n ∣ i then i % n else i % n - n := by
  rw [Int.tmod_eq_emod]
  split <;> simp <;> omega
 have h2 := Int.emod_nonneg i (show n ≠ 0 by omega)
 have h3 := Int.emod_lt_of_pos i hn
 refine br (fun hc => ?_) (fun hc => ?_) <;> (try rw [hc]) <;> (conv => whnf)
 ·subst hQ
  simp only [decide_eq_true_eq] at hc
  split at h1
  ·omega
  ·rw [h1, IntWalk.i64_in _ (by omega)]
   simp only [bring]
   congr 1
   omega
 ·subst hQ
  simp only [decide_eq_false_iff_not] at hc
  split at h1
  ·rw [h1]; rfl
  ·omega
end Ir
end Go.Proofs.Ytlndlbngfgaoeaa
