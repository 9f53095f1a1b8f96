/-
  Tune: a partition with another budget.
-/
import Derived.Test.YtlndlbngfgaoeaaVTunA
import Derived.Test.YtlndlbngfgaoeaaZA
set_option maxRecDepth 100000
set_option linter.unusedSimpArgs false
set_option linter.unusedVariables false
namespace Go.Proofs.Ytlndlbngfgaoeaa
open Go Ads
namespace Ir

def setB (l : List Pt) (i : Nat) (b : Int) : List Pt := match l[i]? with
 | some x => l.set i ⟨x.per, b, x.k, x.ts⟩
 | none => l
theorem setB_eq {l : List Pt} {i : Nat} (h : i < l.length) (b : Int) : setB l i b = l.set i ⟨l[i].per, b, l[i].k, l[i].ts⟩ := by rw [setB, List.getElem?_eq_getElem h]
theorem setB_len {l : List Pt} {i : Nat} (h : i < l.length) (b : Int) : (setB l i b).length = l.length := by rw [setB_eq h]; simp
theorem set_bud : ∀ (l : List Pt) (i : Nat) (h : i < l.length) (b : Int), (flatCells (pts l)).set (i * 3 + 1) (.int .i64 b) = flatCells (pts (l.set i ⟨l[i].per, b, l[i].k, l[i].ts⟩))
 | x :: l, 0, _, b => rfl
 | x :: l, i + 1, h, b => by
  have ih := set_bud l i (by simpa using h) b
  show (AV.int .i64 x.per :: .int .i64 x.bud :: .fz x.k (tks x.ts) :: flatCells (pts l)).set ((i + 1) * 3 + 1) (.int .i64 b) = AV.int .i64 x.per :: .int .i64 x.bud :: .fz x.k (tks x.ts) :: flatCells (pts (l.set i _))
  rw [show (i + 1) * 3 + 1 = (i * 3 + 1) + 1 + 1 + 1 by omega, List.set_cons_succ, List.set_cons_succ, List.set_cons_succ, ih]
  rfl
theorem splice_bud {l : List Pt} {i : Nat} (h : i < l.length) (b : Int) : Heap.splice (flatCells (pts l)) (i * 3 + 1) [.int .i64 b] = flatCells (pts (setB l i b)) := by
 rw [splice_at _ _ _ (by rw [flat_size (size_pts l), len_pts]; omega), set_bud l i h b, setB_eq h]
theorem idx_slS {b n cap j s : Nat} {op : Bool} (h : j < n) : pV (.iaddrS s) [.sl b 0 n cap op, .int .i64 (j : Nat)] = some (.ptr b (j * s)) := by
 have b1 : Nat.ble (j + 1) n = true := Nat.ble_eq_true_of_le h
 simp only [pV, l2, dNat]
 show cond (Nat.ble (j + 1) n) (some (AV.ptr b (0 + j * s))) none = _
 rw [b1, cond_true, Nat.zero_add]

theorem budget_c (k : Nat) (l : List Pt) (i : Nat) (b : Int) (hs : Small l) (hi : i < (cutPs l).length) : PC fs ms f_escapementlaw30_budget [.fz k (pts l), .int .i64 (i : Nat), .int .i64 b] (.fz 0 (pts (setB (cutPs l) i b))) := by
 refine ⟨by simp [clL, AV.cl, cl_pts], by simp [AV.cl, cl_pts], ?_⟩
 refine vd_start (af := C_escapementlaw30_budget) false rfl (Nat.le_of_ble_eq_true rfl) ?_
 generalize hQ : (fun (u : AV) (g : Heap) => Frz (fun _ => True) g u (.fz 0 (pts (setB (cutPs l) i b)))) = Q
 conv => whnf
 refine VD.mono (cutParts_v k l hs) fun v g hv => ?_
 obtain ⟨rfl, rfl⟩ := hv
 generalize cutPs l = L at *
 obtain ⟨n, hn⟩ : ∃ n, L.length = n + 1 := ⟨L.length - 1, by omega⟩
 have hcells : flatCells ((pts L).take (n + 1)) = flatCells (pts L) := by rw [← hn, ← len_pts L, List.take_length]
 rw [hn]
 show putE _ _ (.sl 0 0 (n + 1) (n + 1) true) _
 rw [show H3 (grO 3 (pts L) (n + 1)) none none = ⟨3, .node (.node .nil none .nil) (some (.cells (flatCells (pts L)) true 3)) (.node .nil none .nil)⟩ by rw [← hcells]; rfl]
 conv => whnf
 refine ⟨_, idx_slS (by omega), ?_⟩
 conv => whnf
 refine brT (by show (Nat.ble (i * 3 + 1 + 1) (flatCells (pts L)).length && true) = true; rw [flat_size (size_pts L), len_pts, Bool.and_true]; exact Nat.ble_eq_true_of_le (by omega)) ?_
 conv => whnf
 subst hQ
 exact frz_open (s := 3) trivial rfl (splice_bud hi b) (size_pts _) (by rw [len_pts, setB_len hi, hn]) (cl_pts _)
end Ir
end Go.Proofs.Ytlndlbngfgaoeaa
