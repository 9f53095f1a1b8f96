/-
  TuneTight.
-/
import Derived.Test.YtlndlbngfgaoeaaVTunC
import Derived.Test.YtlndlbngfgaoeaaVTunW
import Derived.Test.YtlndlbngfgaoeaaVDelT
set_option maxRecDepth 100000
set_option linter.unusedSimpArgs false
set_option linter.unusedVariables false
namespace Go.Proofs.Ytlndlbngfgaoeaa
open Go Ads
namespace Ir

theorem setPer_self {l : List Pt} {i : Nat} (h : i < l.length) : setPer l i l[i].per = l := by
 rw [setPer_eq h]
 exact List.set_getElem_self h
theorem cutP_idem (x : Pt) : cutP (cutP x) = cutP x := by
 simp only [cutP, List.take_take, Nat.min_self]
theorem cutPs_idem (l : List Pt) : cutPs (cutPs l) = cutPs l := by
 simp only [cutPs]
 rw [← List.map_take, List.take_take, Nat.min_self, List.map_map]
 congr 1
 funext x
 exact cutP_idem x
theorem there_c (k : Nat) (l : List Pt) (i : Nat) (hi : i < l.length) : PC fs ms f_tune_there [.fz k (pts l), .int .i64 (i : Nat)] (.bool true) := by
 refine pc_of (by simp [clL, AV.cl, cl_pts]) rfl ?_
 refine vd_start (af := C_tune_there) false rfl (Nat.le_of_ble_eq_true rfl) ?_
 generalize hQ : (fun (v : AV) (_ : Heap) => v = .bool true) = Q
 conv => whnf
 subst hQ
 show AV.bool (decide (((i : Nat) : Int) < ((pts l).length : Nat))) = _
 rw [len_pts, decide_eq_true (by omega)]
def NeedS (l : List Pt) (i : Nat) (p : Int) : Int × Int := if needS l i p = 0 then (0, 120) else (needS l i p, 0)
theorem Need_c (k : Nat) (l : List Pt) (i : Nat) (hs : Small l) (hi : i < l.length) (hk : Nat.beq k 3 = false) (hl : l.length ≤ 1000) (hp : 1 ≤ l[i].per) : PC fs ms f_tune_Need [.fz k (pts l), .int .i64 (i : Nat)] (pairI (NeedS l i l[i].per)) := by
 refine pc_of (by simp [clL, AV.cl, cl_pts]) rfl ?_
 refine vd_start (af := C_tune_Need) false rfl (Nat.le_of_ble_eq_true rfl) ?_
 generalize hQ : (fun (v : AV) (_ : Heap) => v = pairI (NeedS l i l[i].per)) = Q
 have hix := idx_pt (k := k) hi
 have hn := need_c k l i l[i].per hs hi hk hl hp
 have hN : NeedS l i l[i].per = if needS l i l[i].per = 0 then (0, 120) else (needS l i l[i].per, 0) := rfl
 generalize needS l i l[i].per = n at *
 generalize l[i] = x at *
 conv => whnf
 refine vd_pure (there_c k l i hi) ?_
 conv => whnf
 refine ⟨_, hix, ?_⟩
 conv => whnf
 refine vd_pure hn ?_
 conv => whnf
 by_cases h0 : n = 0
 ·refine brt (by simpa using h0) (fun hc => ?_)
  (try rw [hc])
  conv => whnf
  subst hQ
  rw [hN, if_pos h0]
  rfl
 ·refine brf (by simpa using h0) (fun hc => ?_)
  (try rw [hc])
  conv => whnf
  subst hQ
  rw [hN, if_neg h0]
  rfl
end Ir
end Go.Proofs.Ytlndlbngfgaoeaa
