/-
  Local: rows of partitions made to be such.
-/
import Derived.Test.YtlndlbngfgaoeaaVLocM
set_option maxRecDepth 100000
set_option linter.unusedSimpArgs false
set_option linter.unusedVariables false
namespace Go.Proofs.Ytlndlbngfgaoeaa
open Go Ads
namespace Ir

def N9 (k : Nat) (l : List Pt) (m : Nat) (j : Nat) : List (Nat × AV) := [(0, .fz k (pts l)), (1, .int .i64 (m : Nat)), (5, grV 0 j), (6, .int .i64 (j : Nat))]

theorem made10_c (k : Nat) (l : List Pt) (m : Nat) (hm4 : m ≤ 4) (hs : Small l) : PC fs ms f_escapementlaw10_made [.fz k (pts l), .int .i64 (m : Nat)] (.fz (growK (nkPs l m).length) (pts (nkPs l m))) := by
 refine ⟨by simp [clL, AV.cl, cl_pts], by simp [AV.cl, cl_pts], ?_⟩
 refine vd_start (af := C_escapementlaw10_made) false rfl (Nat.le_of_ble_eq_true rfl) ?_
 generalize hQ : (fun (u : AV) (g : Heap) => Frz (fun _ => True) g u (.fz (growK (nkPs l m).length) (pts (nkPs l m)))) = Q
 conv => whnf
 have hN : (nkPs l m).length = min m l.length := by simp [nkPs]
 refine vc_to3 (B := 0) (d := 5) (l := N9 k l m 0) (O := grO 3 (pts (nkPs l m)) 0) (X := none) (I := none) id ?_ no_blk no_blk no_blk (by decide) (by decide) (by decide) (by intro b hb; omega) (by omega) ?_
 ·exact ⟨⟨_, rfl, .cl (by simp [AV.cl, cl_pts])⟩, ⟨_, rfl, .cl rfl⟩, ⟨_, rfl, .cl rfl⟩, ⟨_, rfl, .cl rfl⟩, trivial⟩
 refine for_rowH 0 5 (nkPs l m).length (fun _ => True) (N9 k l m) (fun j => H3 (grO 3 (pts (nkPs l m)) j) none none) ?_ ?_ trivial
 ·intro j hj _
  have hjl : j < l.length := by omega
  have hjm : j < m := by omega
  have hT : (nkPs l m).take (j + 1) = (nkPs l m).take j ++ [nkP l[j]] := by
   rw [take_next hj]
   simp [nkPs]
  have hix := idx_pt (k := k) hjl
  have hxs := hs.2 _ (List.getElem_mem hjl)
  have hclL := cl_pts (nkPs l m)
  have hszL := size_pts (nkPs l m)
  have htk : ∀ n, (pts (nkPs l m)).take n = pts ((nkPs l m).take n) := fun n => pts_take _ n
  have hin := q9_in l[j]
  generalize l[j] = x at *
  have hmk : nkP x = ⟨q9p x, q9b x, growK (nkTs (q9b x) x.ts).length, nkTs (q9b x) x.ts⟩ := rfl
  have b1 : IntKind.i64.wrap (1 + bring x.per 10) = q9p x := IntWalk.i64_in _ (by show _ ≤ q9p x ∧ q9p x ≤ _; omega)
  have b2 : IntKind.i64.wrap (1 + bring x.bud (q9p x)) = q9b x := IntWalk.i64_in _ (by show _ ≤ q9b x ∧ q9b x ≤ _; omega)
  generalize q9p x = P at *
  generalize q9b x = b at *
  have hTl : (nkTs b x.ts).length = min 4 x.ts.length := by simp [nkTs]
  have hclT := cl_tks (nkTs b x.ts)
  have hszT := size_tks (nkTs b x.ts)
  generalize hL : nkPs l m = L at *
  conv => whnf
  refine brt (by rw [len_pts]; simp; omega) (fun hc => ?_)
  (try rw [hc])
  conv => whnf
  refine brt (by simp; omega) (fun hc => ?_)
  (try rw [hc])
  conv => whnf
  refine ⟨_, hix, ?_⟩
  conv => whnf
  refine vd_pure (bring_c _ 10 (by omega) (by omega)) ?_
  conv => whnf
  rw [b1]
  conv => whnf
  refine ⟨_, hix, ?_⟩
  conv => whnf
  refine vd_pure (bring_c _ P (by omega) (by omega)) ?_
  conv => whnf
  rw [b2]
  conv => whnf
  refine vc_to3 (d := 5) (l := F9 k l m j (grV 0 j) 0) (O := grO 3 (pts L) j) (X := some (.cells [.int .i64 P, .int .i64 b, grV 2 0] true 0)) (I := grO 8 (tks (nkTs b x.ts)) 0) (fun b => bif Nat.beq b 1 then 3 else bif Nat.beq b 2 then 5 else b) ?_ (cln_ren (gr_cln hclL j) rfl) (one_blk ⟨_, rfl, renB_3 (.cl rfl) (.cl rfl) (.cl rfl)⟩) no_blk (by decide) (by decide) (by decide) (by intro b hb; omega) (by omega) ?_
  ·exact ⟨⟨_, rfl, .cl (by simp [AV.cl, cl_pts])⟩, ⟨_, rfl, .cl rfl⟩, ⟨_, rfl, gr_ren rfl (by omega) j⟩, ⟨_, rfl, .cl rfl⟩, ⟨_, rfl, .ptr (by omega)⟩, ⟨_, rfl, .cl rfl⟩, trivial⟩
  refine inner10 k l m j x b hix hxs (by omega) (by omega) (grV 0 j) (grO 3 (pts L) j) (gr_cln hclL j) (fun p hp => gr_ren hp (by omega) j) P ?_
  generalize nkTs b x.ts = T at *
  refine vc_frz [1, 2] (i := 7) (v' := .fp [.int .i64 P, .int .i64 b, .fz (growK T.length) (tks T)] 0) rfl (.ptr' (by simp) rfl (.cons (.clean rfl) (.cons (.clean rfl) (.cons (gr_frz (s := 8) hszT hclT (by simp) T.length (len_tks T).symm rfl) .nil)))) ?_
  refine vc_to3 (d := 5) (l := [(0, .fz k (pts l)), (1, .int .i64 (m : Nat)), (5, grV 0 j), (6, .int .i64 (j : Nat)), (7, .fp [.int .i64 P, .int .i64 b, .fz (growK T.length) (tks T)] 0), (8, .int .i64 (T.length : Nat))]) (O := grO 3 (pts L) j) (X := none) (I := none) id ?_ (cln_ren (gr_cln hclL j) rfl) no_blk no_blk (by decide) (by decide) (by decide) (by intro b hb; omega) (by omega) ?_
  ·exact ⟨⟨_, rfl, .cl (by simp [AV.cl, cl_pts])⟩, ⟨_, rfl, .cl rfl⟩, ⟨_, rfl, gr_ren rfl (by omega) j⟩, ⟨_, rfl, .cl rfl⟩, ⟨_, rfl, .cl (by simp [AV.cl, clL, cl_tks])⟩, ⟨_, rfl, .cl rfl⟩, trivial⟩
  refine vc_loop (z := false) ?_
  by_cases hlt : T.length < x.ts.length
  ·have h4 : T.length = 4 := by omega
   generalize hn : T.length = n at *
   conv => whnf
   refine ⟨_, hix, ?_⟩
   conv => whnf
   refine brt (by rw [len_tks]; simp; omega) (fun hc => ?_)
   (try rw [hc])
   conv => whnf
   refine brf (by simp; omega) (fun hc => ?_)
   (try rw [hc])
   conv => whnf
   subst hn
   cases j with
   | zero =>
    refine ⟨_, _, app_nilsS (cs := [.int .i64 P, .int .i64 b, .fz (growK T.length) (tks T)]) (by omega) rfl rfl, ?_⟩
    conv => whnf
    refine ⟨trivial, fun b => bif Nat.beq b 0 then 4 else b, gc3 _ ?_ (one_blk ⟨_, rfl, renB_cl ?_ (flat_cl (cl_take hclL _))⟩) no_blk no_blk (by decide) (by decide) (by decide) (by intro b hb; omega) (by omega)⟩
    ·exact ⟨⟨_, rfl, .cl (by simp [AV.cl, cl_pts])⟩, ⟨_, rfl, .cl rfl⟩, ⟨_, rfl, .sl (by omega)⟩, ⟨_, inc_slot (j := 0) (by omega), .cl rfl⟩, trivial⟩
    ·show [.int .i64 P, .int .i64 b, .fz (growK T.length) (tks T)] = flatCells ((pts L).take (0 + 1))
     rw [htk, hT, hmk]
     rfl
   | succ j =>
    have hle : j + 1 ≤ L.length := by omega
    refine ⟨_, _, app_openS (cs := [.int .i64 P, .int .i64 b, .fz (growK T.length) (tks T)]) (vs := flatCells ((pts L).take (j + 1))) rfl (by rw [flat_size (size_take hszL _), List.length_take, len_pts, Nat.min_eq_left hle]) (by omega) (by omega) rfl rfl, ?_⟩
    conv => whnf
    refine ⟨trivial, fun b => bif Nat.beq b 0 then 4 else b, gc3 _ ?_ (one_blk ⟨_, rfl, renB_cl ?_ (flat_cl (cl_take hclL _))⟩) no_blk no_blk (by decide) (by decide) (by decide) (by intro b hb; omega) (by omega)⟩
    ·exact ⟨⟨_, rfl, .cl (by simp [AV.cl, cl_pts])⟩, ⟨_, rfl, .cl rfl⟩, ⟨_, rfl, .sl (by omega)⟩, ⟨_, inc_slot (j := j + 1) (by omega), .cl rfl⟩, trivial⟩
    ·show flatCells ((pts L).take (j + 1)) ++ [.int .i64 P, .int .i64 b, .fz (growK T.length) (tks T)] = flatCells ((pts L).take (j + 1 + 1))
     rw [htk, htk, hT, hmk, pts, pts, List.map_append, flat_app]
     rfl
  ·generalize hn : T.length = n at *
   conv => whnf
   refine ⟨_, hix, ?_⟩
   conv => whnf
   refine brf (by rw [len_tks]; simp; omega) (fun hc => ?_)
   (try rw [hc])
   conv => whnf
   subst hn
   cases j with
   | zero =>
    refine ⟨_, _, app_nilsS (cs := [.int .i64 P, .int .i64 b, .fz (growK T.length) (tks T)]) (by omega) rfl rfl, ?_⟩
    conv => whnf
    refine ⟨trivial, fun b => bif Nat.beq b 0 then 4 else b, gc3 _ ?_ (one_blk ⟨_, rfl, renB_cl ?_ (flat_cl (cl_take hclL _))⟩) no_blk no_blk (by decide) (by decide) (by decide) (by intro b hb; omega) (by omega)⟩
    ·exact ⟨⟨_, rfl, .cl (by simp [AV.cl, cl_pts])⟩, ⟨_, rfl, .cl rfl⟩, ⟨_, rfl, .sl (by omega)⟩, ⟨_, inc_slot (j := 0) (by omega), .cl rfl⟩, trivial⟩
    ·show [.int .i64 P, .int .i64 b, .fz (growK T.length) (tks T)] = flatCells ((pts L).take (0 + 1))
     rw [htk, hT, hmk]
     rfl
   | succ j =>
    have hle : j + 1 ≤ L.length := by omega
    refine ⟨_, _, app_openS (cs := [.int .i64 P, .int .i64 b, .fz (growK T.length) (tks T)]) (vs := flatCells ((pts L).take (j + 1))) rfl (by rw [flat_size (size_take hszL _), List.length_take, len_pts, Nat.min_eq_left hle]) (by omega) (by omega) rfl rfl, ?_⟩
    conv => whnf
    refine ⟨trivial, fun b => bif Nat.beq b 0 then 4 else b, gc3 _ ?_ (one_blk ⟨_, rfl, renB_cl ?_ (flat_cl (cl_take hclL _))⟩) no_blk no_blk (by decide) (by decide) (by decide) (by intro b hb; omega) (by omega)⟩
    ·exact ⟨⟨_, rfl, .cl (by simp [AV.cl, cl_pts])⟩, ⟨_, rfl, .cl rfl⟩, ⟨_, rfl, .sl (by omega)⟩, ⟨_, inc_slot (j := j + 1) (by omega), .cl rfl⟩, trivial⟩
    ·show flatCells ((pts L).take (j + 1)) ++ [.int .i64 P, .int .i64 b, .fz (growK T.length) (tks T)] = flatCells ((pts L).take (j + 1 + 1))
     rw [htk, htk, hT, hmk, pts, pts, List.map_append, flat_app]
     rfl
 ·intro _
  have hlast : Q (grV 0 (nkPs l m).length) (H3 (grO 3 (pts (nkPs l m)) (nkPs l m).length) none none) := by
   subst hQ
   exact gr_frz (s := 3) (size_pts _) (cl_pts _) trivial _ (len_pts _).symm rfl
  clear hQ
  show vpC fs ms 0 false false _ (ek 5 [(0, .fz k (pts l)), (1, .int .i64 (m : Nat)), (5, grV 0 (nkPs l m).length), (6, .int .i64 ((nkPs l m).length : Nat))]) _ _
  generalize H3 (grO 3 (pts (nkPs l m)) (nkPs l m).length) none none = G at *
  generalize grV 0 (nkPs l m).length = V at *
  generalize (nkPs l m).length = n at *
  by_cases hn : n < l.length
  ·have hn4 : n = m := by omega
   conv => whnf
   refine brt (by rw [len_pts]; simp; omega) (fun hc => ?_)
   (try rw [hc])
   conv => whnf
   refine brf (by simp; omega) (fun hc => ?_)
   (try rw [hc])
   conv => whnf
   exact hlast
  ·conv => whnf
   refine brf (by rw [len_pts]; simp; omega) (fun hc => ?_)
   (try rw [hc])
   conv => whnf
   exact hlast
end Ir
end Go.Proofs.Ytlndlbngfgaoeaa
