/-
  TuneGate.
-/
import Derived.Test.YtlndlbngfgaoeaaVTunQ
import Derived.Test.YtlndlbngfgaoeaaVTunW
set_option maxRecDepth 100000
set_option linter.unusedSimpArgs false
set_option linter.unusedVariables false
namespace Go.Proofs.Ytlndlbngfgaoeaa
open Go Ads
namespace Ir

def inT (n j : Nat) : List Bool := List.replicate j true ++ List.replicate (n - j) false
theorem inT_len {n j : Nat} (h : j ≤ n) : (inT n j).length = n := by simp [inT]; omega
theorem inT_next {n j : Nat} (h : j < n) : (inT n j).set j true = inT n (j + 1) := by
 refine List.ext_getElem (by rw [List.length_set, inT_len (by omega), inT_len (by omega)]) fun i h1 h2 => ?_
 rw [List.getElem_set]
 simp only [inT, List.getElem_append, List.length_replicate, List.getElem_replicate]
 by_cases h3 : j = i
 ·subst h3
  simp
 ·rw [if_neg h3]
  by_cases h4 : i < j
  ·simp [h4]
   omega
  ·simp [h4]
   omega
theorem inT_all {n : Nat} : ∀ (i : Nat) (h : i < (inT n n).length), (inT n n)[i] = true := by
 intro i h
 have h2 : i < n := by simpa [inT] using h
 simp [inT, List.getElem_append, h2]

def gtE (n : Nat) (M : List Pt) (j : Nat) : List (Nat × AV) := [(5, .fz 0 (pts M)), (7, .ptr 0 0), (8, .sl 1 0 n n false), (9, .int .i64 ((j : Nat) : Int))]
def gtH (M : List Pt) (w : List Bool) : Heap := H3 (some (.cells [.fz 0 (pts M), .nils] true 0)) (some (.cells (bls w) true 0)) none
theorem ren_gt {n j : Nat} {M : List Pt} {w : List Bool} {e1 : Env} {h1 : Heap} (e5 : Tr.get e1 5 = some (.fz 0 (pts M))) (e7 : Tr.get e1 7 = some (.ptr 0 0)) (e8 : Tr.get e1 8 = some (.sl 1 0 n n false)) (e9 : Tr.get e1 9 = some (.int .i64 ((j : Nat) : Int)))
  (g0 : h1.get 0 = some (.cells [.fz 0 (pts M), .nils] true 0)) (g1 : h1.get 1 = some (.cells (bls w) true 0)) : GC 0 id e1 h1 (ek 5 (gtE n M j)) (gtH M w) :=
 gc3 id ⟨⟨_, e5, .cl (by simp [AV.cl, cl_pts])⟩, ⟨_, e7, .ptr (by omega)⟩, ⟨_, e8, .sl (by omega)⟩, ⟨_, e9, .cl rfl⟩, trivial⟩ (one_blk ⟨_, g0, renB_cl rfl (by simp [clL, AV.cl, cl_pts])⟩) (one_blk ⟨_, g1, renB_cl rfl (cl_bls w)⟩) no_blk (by decide) (by decide) (by decide) (by intro b hb; omega) (by omega)
theorem mk_bls {n : Nat} (hn : n ≤ 4) : aI (.mkslice [.bool false] 1 1) [.int .i64 (n : Nat), .int .i64 (n : Nat)] = some (.cells (bls (inT n 0)) true 0, fun b => .sl b 0 n n false) := by
 match n, hn with
 | 0, _ => rfl
 | 1, _ => rfl
 | 2, _ => rfl
 | 3, _ => rfl
 | 4, _ => rfl

theorem tuneGate_c (k0 : Nat) (l0 : List Pt) (hs0 : Small l0) : PC fs ms f_escapementlaw30_TuneGate [.fz k0 (pts l0)] (.bool true) := by
 refine pc_of (by simp [clL, AV.cl, cl_pts]) rfl ?_
 refine vd_start (af := C_escapementlaw30_TuneGate) false rfl (Nat.le_of_ble_eq_true rfl) ?_
 generalize hQ : (fun (v : AV) (_ : Heap) => v = .bool true) = Q
 conv => whnf
 refine vd_pure (cutParts_c k0 l0 hs0) ?_
 conv => whnf
 have hl : (cutPs l0).length ≤ 6 := by simp [cutPs]; omega
 have hs : Small (cutPs l0) := by
  refine ⟨by omega, fun x hx => ?_⟩
  obtain ⟨y, -, rfl⟩ := List.mem_map.1 hx
  simp [cutP]; omega
 have hK : Kinds (cutPs l0) := by
  intro x hx
  obtain ⟨y, -, rfl⟩ := List.mem_map.1 hx
  refine ⟨rfl, ?_⟩
  simp [cutP]; omega
 generalize cutPs l0 = L at *
 have hk : 1 ≤ L.length → Nat.beq (growK L.length) 3 = false := by
  intro h
  cases hL : L.length with
  | zero => omega
  | succ n => rfl
 generalize growK L.length = K at *
 have hneeds := needs_c K L hs hK hk
 by_cases h0 : NeedsE L = 0
 case neg =>
  rw [NeedsV, if_neg h0] at hneeds
  refine vd_pure hneeds ?_
  conv => whnf
  refine brt (by simpa using h0) (fun hc => ?_)
  (try rw [hc])
  conv => whnf
  refine vd_pure (works30_c) ?_
  conv => whnf
  subst hQ
  rfl
 have hno := needs_ok h0
 have hk := hk hno.1
 rw [NeedsV, if_pos h0, h0] at hneeds
 have hwith := with_c K 0 L (ndL L L.length) hs hk hK hno.1 (by omega) (ndL_len L _)
 have hMl : (needed L).length = L.length := budL_len L _ _ (Nat.le_refl _)
 have hMs : Small (needed L) := by
  refine ⟨by omega, fun x hx => ?_⟩
  have := kinds_budL (bs := ndL L L.length) hK L.length (Nat.le_refl _) x hx
  omega
 rw [show budL L (ndL L L.length) L.length = needed L from rfl] at hwith
 have hsh := shareTest_c 0 (needed L) hMs
 rw [hno.2.2.2] at hsh
 have hconf := confCheck_c 0 (needed L) hMs
 have hjoin := fun (w : List Bool) (i : Nat) (hi : i < w.length) => gateJoin_c 0 0 (needed L) w i hMs hi
 have htest := fun (w : List Bool) => gateTest_c 0 0 (needed L) w hMs
 have hall := fun (w : List Bool) (hc : confC (needed L) = true) (hw : ∀ (i : Nat) (h : i < w.length), w[i] = true) (hl : w.length = L.length) => gateS_all h0 hc hw hl
 refine vd_pure hneeds ?_
 conv => whnf
 refine vd_pure hwith ?_
 generalize needed L = M at *
 conv => whnf
 refine brf (by rw [len_pts, len_pts, hMl]; simp) (fun hc => ?_)
 (try rw [hc])
 conv => whnf
 refine vd_pure hsh ?_
 conv => whnf
 by_cases hc : confC M = true
 case neg =>
  rw [if_neg hc] at hconf
  refine vd_pure hconf ?_
  conv => whnf
  refine vd_pure (works30_c) ?_
  conv => whnf
  subst hQ
  rfl
 rw [if_pos hc] at hconf
 refine vd_pure hconf ?_
 conv => whnf
 rw [len_pts]
 refine ⟨_, _, mk_bls (by omega), ?_⟩
 conv => whnf
 have hn4 : L.length ≤ 4 := hno.2.1
 have hn1 : 1 ≤ L.length := hno.1
 rw [hMl]
 generalize L.length = n at *
 have hfzw : ∀ (w : List Bool) (h : Heap), w.length = n → h.get 1 = some (.cells (bls w) true 0) → Frz (fun _ => True) h (.sl 1 0 n n false) (.fz 0 (bls w)) := fun w h hw hh => frz_pre (s := 1) (rest := []) trivial hh (by rw [flat_bls, List.append_nil]) (size_bls w) (by rw [len_bls, hw]) (Nat.le_refl _) (cl_bls w)
 refine vc_gc (ren_gt (n := n) (M := M) (w := inT n 0) (j := 0) rfl rfl rfl rfl rfl rfl) ?_
 refine for_rowL 0 5 n (fun _ => True) (gtE n M) (fun j => gtH M (inT n j)) (fun j hj _ => ?_) (fun _ => ?_) trivial
 ·have hw : (inT n j).length = n := inT_len (by omega)
  have hnx := inT_next hj
  have hjn := hjoin (inT n j) j (by omega)
  have hfz := hfzw (inT n j)
  have hJ : joinS M (inT n j) j = 0 ∨ ((j : Nat) : Int) ≠ ((n : Nat) : Int) - 1 := by
   by_cases hj1 : j = n - 1
   ·refine .inl ?_
    have hask : askedS M (inT n j) = 0 := by rw [askedS, if_pos hc, if_pos (by omega)]
    rw [joinS, hask, if_neg (by omega), hnx, show j + 1 = n by omega, hall (inT n n) hc (fun i h => inT_all i h) (inT_len (Nat.le_refl _))]
   ·exact .inr (by omega)
  generalize joinS M (inT n j) j = r at *
  show vpC fs ms 0 false false _ (ek 5 [(5, .fz 0 (pts M)), (7, .ptr 0 0), (8, .sl 1 0 n n false), (9, .int .i64 ((j : Nat) : Int))]) ⟨3, .node (.node .nil (some (.cells (bls (inT n j)) true 0)) .nil) (some (.cells [.fz 0 (pts M), .nils] true 0)) (.node .nil none .nil)⟩ _
  have hend : Heap.splice (bls (inT n j)) j [.bool true] = bls (inT n (j + 1)) := by
   rw [splice_at _ _ _ (by rw [len_bls, hw]; exact hj), ← hnx, bls, bls, List.map_set]
  have hstore : (Nat.ble (j + 1) (bls (inT n j)).length && true) = true := by rw [Bool.and_true, len_bls, hw]; exact Nat.ble_eq_true_of_le hj
  generalize inT n (j + 1) = w' at *
  generalize inT n j = w at *
  conv => whnf
  refine brt (by rw [len_pts, hMl]; simp; omega) (fun hc => ?_)
  (try rw [hc])
  conv => whnf
  refine vd_view hjn rfl (.cons (.clean (cl_cfg 0 M)) (.cons (hfz _ hw rfl) (.cons (.clean rfl) .nil))) ?_
  conv => whnf
  by_cases hr : r = 0
  ·refine brf (by simpa using hr) (fun hc => ?_)
   (try rw [hc])
   conv => whnf
   refine ⟨_, idx_sl (by omega), ?_⟩
   conv => whnf
   refine brT hstore ?_
   conv => whnf
   exact ⟨trivial, id, ren_gt rfl rfl rfl (inc_slot (by omega)) rfl (congrArg (fun c => some (Blk.cells c true 0)) hend)⟩
  ·refine brt (by simpa using hr) (fun hc => ?_)
   (try rw [hc])
   conv => whnf
   have hj2 := hJ.resolve_left hr
   refine brf (by rw [len_pts, hMl, IntWalk.i64_in _ (by omega)]; simpa using hj2) (fun hc => ?_)
   (try rw [hc])
   conv => whnf
   refine ⟨_, idx_sl (by omega), ?_⟩
   conv => whnf
   refine brT hstore ?_
   conv => whnf
   exact ⟨trivial, id, ren_gt rfl rfl rfl (inc_slot (by omega)) rfl (congrArg (fun c => some (Blk.cells c true 0)) hend)⟩
 ·have ht := htest (inT n n)
  have hw : (inT n n).length = n := inT_len (Nat.le_refl _)
  rw [hall (inT n n) hc (fun i h => inT_all i h) hw] at ht
  have hfz := hfzw (inT n n)
  refine vc_loop (z := false) ?_
  show vpC fs ms 0 false false _ (ek 5 [(5, .fz 0 (pts M)), (7, .ptr 0 0), (8, .sl 1 0 n n false), (9, .int .i64 ((n : Nat) : Int))]) ⟨3, .node (.node .nil (some (.cells (bls (inT n n)) true 0)) .nil) (some (.cells [.fz 0 (pts M), .nils] true 0)) (.node .nil none .nil)⟩ _
  generalize inT n n = w at *
  conv => whnf
  refine brf (by rw [len_pts, hMl]; simp) (fun hc => ?_)
  (try rw [hc])
  conv => whnf
  refine vd_view (v := .tup [.int .i64 (-1), .int .i64 0, .int .i64 0]) ht rfl (.cons (.clean (cl_cfg 0 M)) (.cons (hfz _ hw rfl) .nil)) ?_
  conv => whnf
  refine vd_pure (works30_c) ?_
  conv => whnf
  subst hQ
  rfl
end Ir
end Go.Proofs.Ytlndlbngfgaoeaa
