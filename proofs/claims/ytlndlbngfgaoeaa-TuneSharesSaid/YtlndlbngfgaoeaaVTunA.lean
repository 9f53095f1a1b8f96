/-
  Tune: partitions cut to a few more than there may be.
-/
import Derived.Test.YtlndlbngfgaoeaaVLocO
set_option maxRecDepth 100000
set_option linter.unusedSimpArgs false
set_option linter.unusedVariables false
namespace Go.Proofs.Ytlndlbngfgaoeaa
open Go Ads
namespace Ir

def cutP (x : Pt) : Pt := ⟨x.per, x.bud, growK (x.ts.take 6).length, x.ts.take 6⟩
def cutPs (l : List Pt) : List Pt := (l.take 6).map cutP
def cutE (k : Nat) (l : List Pt) (j : Nat) : List (Nat × AV) := [(0, .fz k (pts l)), (3, grV 0 j), (4, .int .i64 (j : Nat))]

theorem flat_tks : ∀ l : List Tk, flatL (flatCells (tks l)) = true
 | [] => rfl
 | x :: l => by
  show flatL (.int .i64 x.p :: .int .i64 x.d :: .int .i64 x.w :: .int .i64 x.a :: .int .i64 x.b :: .int .i64 x.c :: .int .i64 x.e :: .int .i64 x.f :: flatCells (tks l)) = true
  simp only [flatL, AV.flat, cond_true]
  exact flat_tks l

theorem slice_front (k : Nat) (ts : List Tk) (n : Nat) (hn : n ≤ ts.length) : pV (.slice 8 false true false) [.fz k (tks ts), .int .i64 (n : Nat)] = some (.fz (sliceKind k false n ts.length ts.length) (tks (ts.take n))) := by
 have hb : bounds (tks ts).length (tks ts).length false true false [.int .i64 (n : Nat)] = some (0, n, (tks ts).length) := by
  show cond (Nat.ble 0 n && Nat.ble n (tks ts).length && Nat.ble (tks ts).length (tks ts).length) _ _ = _
  rw [Nat.ble_eq_true_of_le (Nat.zero_le n), Nat.ble_eq_true_of_le (by rw [len_tks]; exact hn), Nat.ble_eq_true_of_le (Nat.le_refl _)]
  rfl
 show sliceV 8 false true false k (tks ts) [.int .i64 (n : Nat)] = _
 rw [sliceV, hb]
 simp only [show Nat.beq 0 0 = true from rfl, Bool.not_true, Bool.and_false, cond_false, size_tks, cond_true, List.drop_zero, Nat.sub_zero, len_tks, tks_take]

theorem cutParts_v (k : Nat) (l : List Pt) (hs : Small l) : VD fs ms f_escapementlaw30_cutParts [.fz k (pts l)] ⟨0, .nil⟩ (fun v g => v = grV 0 (cutPs l).length ∧ g = H3 (grO 3 (pts (cutPs l)) (cutPs l).length) none none) := by
 refine vd_start (af := C_escapementlaw30_cutParts) false rfl (Nat.le_of_ble_eq_true rfl) ?_
 generalize hQ : (fun (v : AV) (g : Heap) => v = grV 0 (cutPs l).length ∧ g = H3 (grO 3 (pts (cutPs l)) (cutPs l).length) none none) = Q
 conv => whnf
 have hN : (cutPs l).length = min 6 l.length := by simp [cutPs]
 refine vc_to3 (B := 0) (d := 5) (l := cutE k l 0) (O := grO 3 (pts (cutPs l)) 0) (X := none) (I := none) id ?_ no_blk no_blk no_blk (by decide) (by decide) (by decide) (by intro b hb; omega) (by omega) ?_
 ·exact ⟨⟨_, rfl, .cl (by simp [AV.cl, cl_pts])⟩, ⟨_, rfl, .cl rfl⟩, ⟨_, rfl, .cl rfl⟩, trivial⟩
 refine for_rowV 0 5 (cutPs l).length (cutE k l) (fun j => H3 (grO 3 (pts (cutPs l)) j) none none) ?_ ?_
 ·intro j hj K hK
  have hjl : j < l.length := by omega
  have hj6 : j < 6 := by omega
  have hT : (cutPs l).take (j + 1) = (cutPs l).take j ++ [cutP l[j]] := by
   rw [take_next hj]
   simp [cutPs]
  have hix := idx_pt (k := k) hjl
  have hxs := hs.2 _ (List.getElem_mem hjl)
  have hclL := cl_pts (cutPs l)
  have hszL := size_pts (cutPs l)
  have htk : ∀ n, (pts (cutPs l)).take n = pts ((cutPs l).take n) := fun n => pts_take _ n
  generalize l[j] = x at *
  generalize hL : cutPs l = L at *
  obtain ⟨per, bud, kk, ts⟩ := x
  have hsl := slice_front kk ts (min 6 ts.length) (by omega)
  have htm : ts.take (min 6 ts.length) = ts.take 6 := by
   by_cases h6 : 6 ≤ ts.length
   ·rw [Nat.min_eq_left h6]
   ·rw [Nat.min_eq_right (by omega), List.take_length, List.take_of_length_le (by omega)]
  rw [htm] at hsl
  have hmn : (bif decide (6 < ((tks ts).length : Int)) then (6 : Int) else ((tks ts).length : Int)) = ((min 6 ts.length : Nat) : Int) := by
   rw [len_tks]
   by_cases h6 : (6 : Int) < (ts.length : Int)
   ·rw [decide_eq_true h6, cond_true]; omega
   ·rw [decide_eq_false h6, cond_false]; omega
  refine vc_seqV (vpC_sound (z := false) ?_)
  conv => whnf
  refine brt (by rw [len_pts]; simp; omega) (fun hc => ?_)
  (try rw [hc])
  conv => whnf
  refine brt (by simp; omega) (fun hc => ?_)
  (try rw [hc])
  conv => whnf
  refine vc_seqV (vc_block ?_)
  refine vc_seq false ?_
  conv => whnf
  refine ⟨_, hix, ?_⟩
  conv => whnf
  refine vc_seq false ?_
  conv => whnf
  refine vc_seq false ?_
  conv => whnf
  rw [show (bif decide (6 < ((tks (Pt.mk per bud kk ts).ts).length : Int)) then (6 : Int) else ((tks (Pt.mk per bud kk ts).ts).length : Int)) = ((min 6 ts.length : Nat) : Int) from hmn]
  refine ⟨_, hsl, ?_⟩
  conv => whnf
  cases hm : ts.take 6 with
  | nil =>
   have hcp : cutP ⟨per, bud, kk, ts⟩ = ⟨per, bud, 3, []⟩ := by simp only [cutP, hm]; rfl
   rw [hcp] at hT
   refine ⟨_, _, app_nils0 (src_fz (l := tks []) rfl) rfl, ?_⟩
   conv => whnf
   refine vc_frz [3] (i := 5) (v' := .fp [.int .i64 per, .int .i64 bud, .fz 3 []] 0) rfl (.ptr' (by simp) rfl (.cons (.clean rfl) (.cons (.clean rfl) (.cons .nils .nil)))) ?_
   refine vc_to3 (B := 0) (d := 5) (l := [(0, .fz k (pts l)), (3, grV 0 j), (4, .int .i64 ((j : Nat) : Int)), (5, .fp [.int .i64 per, .int .i64 bud, .fz 3 []] 0)]) (O := grO 3 (pts L) j) (X := none) (I := none) id ?_ (cln_ren (gr_cln hclL j) rfl) no_blk no_blk (by decide) (by decide) (by decide) (by intro b hb; omega) (by omega) ?_
   ·exact ⟨⟨_, rfl, .cl (by simp [AV.cl, cl_pts])⟩, ⟨_, rfl, gr_ren rfl (by omega) j⟩, ⟨_, rfl, .cl rfl⟩, ⟨_, rfl, .cl (by simp [AV.cl, clL, cl_tks])⟩, trivial⟩
   refine vpC_sound (z := false) ?_
   conv => whnf
   cases j with
   | zero =>
    refine ⟨_, _, app_nilsS (cs := [.int .i64 per, .int .i64 bud, .fz 3 []]) (by omega) rfl rfl, ?_⟩
    conv => whnf
    refine vpC_sound (z := false) ?_
    conv => whnf
    refine hK _ _ (fun b => bif Nat.beq b 0 then 4 else b) (gc3 _ ?_ (one_blk ⟨_, rfl, renB_cl ?_ (flat_cl (cl_take hclL _))⟩) no_blk no_blk (by decide) (by decide) (by decide) (by intro b hb; omega) (by omega))
    ·exact ⟨⟨_, rfl, .cl (by simp [AV.cl, cl_pts])⟩, ⟨_, rfl, .sl (by omega)⟩, ⟨_, inc_slot (j := 0) (by omega), .cl rfl⟩, trivial⟩
    ·show [.int .i64 per, .int .i64 bud, .fz 3 []] = flatCells ((pts L).take (0 + 1))
     rw [htk, hT]
     rfl
   | succ j =>
    have hle : j + 1 ≤ L.length := by omega
    refine ⟨_, _, app_openS (cs := [.int .i64 per, .int .i64 bud, .fz 3 []]) (vs := flatCells ((pts L).take (j + 1))) rfl (by rw [flat_size (size_take hszL _), List.length_take, len_pts, Nat.min_eq_left hle]) (by omega) (by omega) rfl rfl, ?_⟩
    conv => whnf
    refine vpC_sound (z := false) ?_
    conv => whnf
    refine hK _ _ (fun b => bif Nat.beq b 0 then 4 else b) (gc3 _ ?_ (one_blk ⟨_, rfl, renB_cl ?_ (flat_cl (cl_take hclL _))⟩) no_blk no_blk (by decide) (by decide) (by decide) (by intro b hb; omega) (by omega))
    ·exact ⟨⟨_, rfl, .cl (by simp [AV.cl, cl_pts])⟩, ⟨_, rfl, .sl (by omega)⟩, ⟨_, inc_slot (j := j + 1) (by omega), .cl rfl⟩, trivial⟩
    ·show flatCells ((pts L).take (j + 1)) ++ [.int .i64 per, .int .i64 bud, .fz 3 []] = flatCells ((pts L).take (j + 1 + 1))
     rw [htk, htk, hT, pts, pts, List.map_append, flat_app]
     rfl
  | cons t0 tr =>
   have hcp : cutP ⟨per, bud, kk, ts⟩ = ⟨per, bud, 0, t0 :: tr⟩ := by simp only [cutP, hm]; rfl
   rw [hcp] at hT
   have hlen : tr.length ≤ 5 := by
    have : (ts.take 6).length ≤ 6 := by simp; omega
    rw [hm] at this
    simpa using this
   refine ⟨_, _, app_nilsN (n := tr.length) (by omega) (by omega) ((src_fz (size_tks (t0 :: tr))).trans (by rw [len_tks]; rfl)) (flat_tks (t0 :: tr)), ?_⟩
   conv => whnf
   refine vc_frz [3, 4] (i := 5) (v' := .fp [.int .i64 per, .int .i64 bud, .fz 0 (tks (t0 :: tr))] 0) rfl (.ptr' (by simp) rfl (.cons (.clean rfl) (.cons (.clean rfl) (.cons (frz_open (s := 8) (by simp) rfl rfl (size_tks _) (by rw [len_tks]; rfl) (cl_tks _)) .nil)))) ?_
   refine vc_to3 (B := 0) (d := 5) (l := [(0, .fz k (pts l)), (3, grV 0 j), (4, .int .i64 ((j : Nat) : Int)), (5, .fp [.int .i64 per, .int .i64 bud, .fz 0 (tks (t0 :: tr))] 0)]) (O := grO 3 (pts L) j) (X := none) (I := none) id ?_ (cln_ren (gr_cln hclL j) rfl) no_blk no_blk (by decide) (by decide) (by decide) (by intro b hb; omega) (by omega) ?_
   ·exact ⟨⟨_, rfl, .cl (by simp [AV.cl, cl_pts])⟩, ⟨_, rfl, gr_ren rfl (by omega) j⟩, ⟨_, rfl, .cl rfl⟩, ⟨_, rfl, .cl (by simp [AV.cl, clL, cl_tks])⟩, trivial⟩
   refine vpC_sound (z := false) ?_
   conv => whnf
   cases j with
   | zero =>
    refine ⟨_, _, app_nilsS (cs := [.int .i64 per, .int .i64 bud, .fz 0 (tks (t0 :: tr))]) (by omega) rfl rfl, ?_⟩
    conv => whnf
    refine vpC_sound (z := false) ?_
    conv => whnf
    refine hK _ _ (fun b => bif Nat.beq b 0 then 4 else b) (gc3 _ ?_ (one_blk ⟨_, rfl, renB_cl ?_ (flat_cl (cl_take hclL _))⟩) no_blk no_blk (by decide) (by decide) (by decide) (by intro b hb; omega) (by omega))
    ·exact ⟨⟨_, rfl, .cl (by simp [AV.cl, cl_pts])⟩, ⟨_, rfl, .sl (by omega)⟩, ⟨_, inc_slot (j := 0) (by omega), .cl rfl⟩, trivial⟩
    ·show [.int .i64 per, .int .i64 bud, .fz 0 (tks (t0 :: tr))] = flatCells ((pts L).take (0 + 1))
     rw [htk, hT]
     rfl
   | succ j =>
    have hle : j + 1 ≤ L.length := by omega
    refine ⟨_, _, app_openS (cs := [.int .i64 per, .int .i64 bud, .fz 0 (tks (t0 :: tr))]) (vs := flatCells ((pts L).take (j + 1))) rfl (by rw [flat_size (size_take hszL _), List.length_take, len_pts, Nat.min_eq_left hle]) (by omega) (by omega) rfl rfl, ?_⟩
    conv => whnf
    refine vpC_sound (z := false) ?_
    conv => whnf
    refine hK _ _ (fun b => bif Nat.beq b 0 then 4 else b) (gc3 _ ?_ (one_blk ⟨_, rfl, renB_cl ?_ (flat_cl (cl_take hclL _))⟩) no_blk no_blk (by decide) (by decide) (by decide) (by intro b hb; omega) (by omega))
    ·exact ⟨⟨_, rfl, .cl (by simp [AV.cl, cl_pts])⟩, ⟨_, rfl, .sl (by omega)⟩, ⟨_, inc_slot (j := j + 1) (by omega), .cl rfl⟩, trivial⟩
    ·show flatCells ((pts L).take (j + 1)) ++ [.int .i64 per, .int .i64 bud, .fz 0 (tks (t0 :: tr))] = flatCells ((pts L).take (j + 1 + 1))
     rw [htk, htk, hT, pts, pts, List.map_append, flat_app]
     rfl
 ·have hlast : Q (grV 0 (cutPs l).length) (H3 (grO 3 (pts (cutPs l)) (cutPs l).length) none none) := by
   subst hQ
   exact ⟨rfl, rfl⟩
  clear hQ
  refine vc_loop (z := false) ?_
  show vpC fs ms 0 false false _ (ek 5 [(0, .fz k (pts l)), (3, grV 0 (cutPs l).length), (4, .int .i64 ((cutPs l).length : Nat))]) _ _
  generalize H3 (grO 3 (pts (cutPs l)) (cutPs l).length) none none = G at *
  generalize grV 0 (cutPs l).length = V at *
  generalize (cutPs l).length = n at *
  by_cases hn : n < l.length
  ·have hn4 : n = 6 := by omega
   conv => whnf
   refine brt (by rw [len_pts]; simp; omega) (fun hc => ?_)
   (try rw [hc])
   conv => whnf
   refine brf (by simp; omega) (fun hc => ?_)
   (try rw [hc])
   conv => whnf
   exact hlast
  ·conv => whnf
   refine brf (by rw [len_pts]; simp; omega) (fun hc => ?_)
   (try rw [hc])
   conv => whnf
   exact hlast

theorem cutParts_c (k : Nat) (l : List Pt) (hs : Small l) : PC fs ms f_escapementlaw30_cutParts [.fz k (pts l)] (.fz (growK (cutPs l).length) (pts (cutPs l))) := by
 refine ⟨by simp [clL, AV.cl, cl_pts], by simp [AV.cl, cl_pts], (cutParts_v k l hs).mono fun v g hv => ?_⟩
 obtain ⟨rfl, rfl⟩ := hv
 exact gr_frz (s := 3) (size_pts _) (cl_pts _) trivial _ (len_pts _).symm rfl
end Ir
end Go.Proofs.Ytlndlbngfgaoeaa
