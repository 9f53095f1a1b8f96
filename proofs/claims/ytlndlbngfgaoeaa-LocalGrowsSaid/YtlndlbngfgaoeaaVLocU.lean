/-
  LocalGrows.
-/
import Derived.Test.YtlndlbngfgaoeaaVLocT
import Derived.Test.YtlndlbngfgaoeaaVLocQ
set_option maxRecDepth 100000
set_option linter.unusedSimpArgs false
set_option linter.unusedVariables false
namespace Go.Proofs.Ytlndlbngfgaoeaa
open Go Ads
namespace Ir

theorem flat_pts : ∀ l : List Pt, flatL (flatCells (pts l)) = true
 | [] => rfl
 | x :: l => by
  show flatL (.int .i64 x.per :: .int .i64 x.bud :: .fz x.k (tks x.ts) :: flatCells (pts l)) = true
  simp only [flatL, AV.flat, cond_true]
  exact flat_pts l
theorem pts_flat_len (l : List Pt) : (flatCells (pts l)).length = l.length * 3 := by rw [flat_size (size_pts l), len_pts]

def U9 (per bud : Int) (kk : Nat) (ts : List Tk) (L : List Tk) (j : Nat) : Heap := H3 none (some (.cells [.int .i64 per, .int .i64 bud, .fz kk (tks ts)] true 0)) (grO 8 (tks L) j)

theorem less_loop {Q : AX → Env → Heap → Prop} (per bud : Int) (kk : Nat) (ts : List Tk) (hl : ts.length ≤ 4) (hO : ∀ t, t ∈ ts → OkT t)
  (hK : VC fs ms 0 false (.loop L_escapementlaw10_LocalGrows_0) (ek 5 [(13, .ptr 1 0), (16, .int .i64 0), (17, grV 2 ts.length), (18, .int .i64 (ts.length : Nat))]) (U9 per bud kk ts (ts.map lessT) ts.length) Q) :
  VC fs ms 0 false (.loop L_escapementlaw10_LocalGrows_0) (ek 5 [(13, .ptr 1 0), (16, .int .i64 0), (17, grV 2 0), (18, .int .i64 ((0 : Nat) : Int))]) (U9 per bud kk ts (ts.map lessT) 0) Q := by
 refine for_rowL 0 5 ts.length (fun _ => True) (fun j => [(13, .ptr 1 0), (16, .int .i64 0), (17, grV 2 j), (18, .int .i64 ((j : Nat) : Int))]) (U9 per bud kk ts (ts.map lessT)) ?_ (fun _ => hK) trivial
 clear hK
 intro j hj _
 have hidx := idx_tk (k := kk) hj
 have hT : (ts.map lessT).take (j + 1) = (ts.map lessT).take j ++ [lessT ts[j]] := by
  rw [take_next (by simpa using hj)]
  simp
 have hLl : (ts.map lessT).length = ts.length := by simp
 have hO1 := hO _ (List.getElem_mem hj)
 have hclT := cl_tks (ts.map lessT)
 have hszT := size_tks (ts.map lessT)
 have htk : ∀ n, (tks (ts.map lessT)).take n = tks ((ts.map lessT).take n) := fun n => tks_take _ n
 generalize ts[j] = t at *
 generalize ts.map lessT = L at *
 unfold OkT at hO1
 have e1 : IntKind.i64.wrap (t.w - 1) = t.w - 1 := IntWalk.i64_in _ (by omega)
 have hm : lessT t = ⟨t.p, t.d, max (t.w - 1) 1, 0, 0, 0, 0, 0⟩ := rfl
 generalize hW : max (t.w - 1) 1 = W at *
 show vpC fs ms 0 false false _ (ek 5 [(13, .ptr 1 0), (16, .int .i64 0), (17, grV 2 j), (18, .int .i64 ((j : Nat) : Int))]) (H3 none (some (.cells [.int .i64 per, .int .i64 bud, .fz kk (tks ts)] true 0)) (grO 8 (tks L) j)) _
 conv => whnf
 refine brt (by rw [len_tks]; simp; omega) (fun hc => ?_)
 (try rw [hc])
 conv => whnf
 refine ⟨_, hidx, ?_⟩
 conv => whnf
 rw [e1]
 rw [show (bif decide (1 > t.w - 1) then 1 else t.w - 1) = W by (rw [← hW]; by_cases h : 1 > t.w - 1 <;> simp [h] <;> omega)]
 conv => whnf
 cases j with
 | zero =>
  refine ⟨_, _, app_nilsS (cs := (tk ⟨t.p, t.d, W, 0, 0, 0, 0, 0⟩).cells) (by omega) rfl rfl, ?_⟩
  conv => whnf
  refine ⟨trivial, fun b => bif Nat.beq b 2 then 5 else b, gc3 _ ?_ no_blk (one_blk ⟨_, rfl, renB_cl rfl (by simp [clL, AV.cl, cl_tks])⟩) (one_blk ⟨_, rfl, renB_cl ?_ (flat_cl (cl_take hclT _))⟩) (by decide) (by decide) (by decide) (by intro b hb; omega) (by omega)⟩
  ·exact ⟨⟨_, rfl, .ptr (by omega)⟩, ⟨_, rfl, .cl rfl⟩, ⟨_, rfl, .sl (by omega)⟩, ⟨_, inc_slot (j := 0) (by omega), .cl rfl⟩, trivial⟩
  ·show (tk ⟨t.p, t.d, W, 0, 0, 0, 0, 0⟩).cells = flatCells ((tks L).take (0 + 1))
   rw [htk, hT, hm]
   rfl
 | succ j =>
  have hle : j + 1 ≤ L.length := by omega
  refine ⟨_, _, app_openS (cs := (tk ⟨t.p, t.d, W, 0, 0, 0, 0, 0⟩).cells) (vs := flatCells ((tks L).take (j + 1))) rfl (by rw [flat_size (size_take hszT _), List.length_take, len_tks, Nat.min_eq_left hle]) (by omega) (by omega) rfl rfl, ?_⟩
  conv => whnf
  refine ⟨trivial, fun b => bif Nat.beq b 2 then 5 else b, gc3 _ ?_ no_blk (one_blk ⟨_, rfl, renB_cl rfl (by simp [clL, AV.cl, cl_tks])⟩) (one_blk ⟨_, rfl, renB_cl ?_ (flat_cl (cl_take hclT _))⟩) (by decide) (by decide) (by decide) (by intro b hb; omega) (by omega)⟩
  ·exact ⟨⟨_, rfl, .ptr (by omega)⟩, ⟨_, rfl, .cl rfl⟩, ⟨_, rfl, .sl (by omega)⟩, ⟨_, inc_slot (j := j + 1) (by omega), .cl rfl⟩, trivial⟩
  ·show flatCells ((tks L).take (j + 1)) ++ (tk ⟨t.p, t.d, W, 0, 0, 0, 0, 0⟩).cells = flatCells ((tks L).take (j + 1 + 1))
   rw [htk, htk, hT, hm, tks, tks, List.map_append, flat_app]
   rfl

set_option maxHeartbeats 2000000 in
theorem localGrows_c (k : Nat) (l0 : List Pt) (one : Pt) (which : Int) (hs0 : Small l0) (hone : one.ts.length ≤ 17592186044416) : PC fs ms f_escapementlaw10_LocalGrows [.fz k (pts l0), pt one, .int .i64 which] (.bool true) := by
 refine pc_of (by simp [clL, AV.cl, cl_pts, cl_pt]) rfl ?_
 refine vd_start (af := C_escapementlaw10_LocalGrows) false rfl (Nat.le_of_ble_eq_true rfl) ?_
 generalize hQ : (fun (v : AV) (_ : Heap) => v = .bool true) = Q
 conv => whnf
 refine vd_pure (made10_c k l0 3 (by omega) hs0) ?_
 conv => whnf
 refine vd_frzH [1] (H := ⟨2, .node (.node .nil none .nil) (some (.cells (pt one).cells true 0)) .nil⟩) rfl (args' := [.fz 0 (pts [one]), .int .i64 ((1 : Nat) : Int)]) (.cons (.row (s := 3) (by simp) rfl (by rfl) (size_pts [one]) rfl (Nat.le_refl _) (by omega) (fun h => by omega) (fun h => by omega) (cl_pts [one])) (.cons (.clean rfl) .nil)) (vd_pure (made10_c 0 [one] 1 (by omega) ⟨by simp, by simpa using hone⟩) ?_)
 have h := nkPs_ok l0 3 (by omega)
 have hs := nkPs_small l0 3 (by omega)
 have hl3 : (nkPs l0 3).length ≤ 3 := by simp [nkPs]; omega
 have hyok := nkP_ok one
 rw [show nkPs [one] 1 = [nkP one] from rfl]
 generalize nkPs l0 3 = l at *
 generalize nkP one = y at *
 have hb := big_ok h hyok hl3
 have hsb : Small (l ++ [y]) := ⟨by simp; omega, fun x hx => by have := ((ok_in hb).2 x hx).2.1; omega⟩
 generalize growK l.length = k1
 generalize growK [y].length = k2
 conv => whnf
 by_cases hne : l.length = 0
 ·refine brt (by rw [len_pts]; simpa using hne) (fun hc => ?_)
  (try rw [hc])
  conv => whnf
  refine vd_pure (works10_c) ?_
  conv => whnf
  subst hQ
  rfl
 ·refine brf (by rw [len_pts]; simpa using hne) (fun hc => ?_)
  (try rw [hc])
  conv => whnf
  rw [len_pts]
  refine vd_pure (bring_c which (l.length : Nat) (by omega) (by omega)) ?_
  obtain ⟨i, hi⟩ : ∃ i : Nat, bring which (l.length : Nat) = (i : Nat) := ⟨(bring which (l.length : Nat)).toNat, (Int.toNat_of_nonneg (Int.emod_nonneg which (by omega))).symm⟩
  have hil : i < l.length := by
   have := Int.emod_lt_of_pos which (show (0 : Int) < (l.length : Nat) by omega)
   unfold bring at hi
   omega
  rw [hi]
  clear hi
  conv => whnf
  have hl1 := ltest_c k1 l (i : Nat) hs
  have hl2 := ltest_c 0 (l ++ [y]) (i : Nat) hsb
  have hbig := test_big h hb hil
  have hx : l[i] ∈ l := List.getElem_mem hil
  have hok := (ok_in h).2 _ hx
  have hO := okT_of h hx
  have hpi := hok.1
  unfold partIn at hpi
  have hix := idx_pt (k := k1) hil
  have t3 := ltest_c 2 [bigger l[i] l[i].k] ((0 : Nat) : Int) ⟨by simp, fun x hx => by rw [List.mem_singleton.1 hx]; show l[i].ts.length ≤ _; omega⟩
  have t4 := fun k2 => ltest_c 2 [lessP l[i] l[i].k k2] ((0 : Nat) : Int) ⟨by simp, fun x hx => by rw [List.mem_singleton.1 hx]; show (l[i].ts.map lessT).length ≤ _; rw [List.length_map]; omega⟩
  have r3 := test_bigger h hil l[i].k
  have r4 := fun k2 => test_less h hil l[i].k k2
  refine vd_pure hl1 ?_
  generalize hT : testS l (i : Nat) = T at *
  obtain ⟨T1, T2⟩ := T
  conv => whnf
  obtain ⟨n, hn⟩ : ∃ n, l.length = n + 1 := ⟨l.length - 1, by omega⟩
  refine ⟨_, _, app_lit (s := 3) (bytes := 40) (n := n) rfl (by omega) (by omega) ((src_fz (k := k1) (size_pts l)).trans (by rw [len_pts, hn])) (flat_pts l), ?_⟩
  conv => whnf
  refine ⟨_, _, app_openS (s := 3) (bytes := 40) (n := n + 1) (vs := flatCells (pts l)) (cs := (pt y).cells) rfl (by rw [pts_flat_len, hn]) (by omega) (by omega) rfl rfl, ?_⟩
  conv => whnf
  refine vd_view hl2 rfl (.cons (frz_open (s := 3) (l := pts (l ++ [y])) trivial rfl (by rw [pts, pts, List.map_append, flat_app]; rfl) (size_pts _) (by simp [pts, hn]) (cl_pts _)) (.cons (.clean rfl) .nil)) ?_
  generalize hU : testS (l ++ [y]) (i : Nat) = U at *
  obtain ⟨U1, U2⟩ := U
  simp only at hbig r3 r4
  conv => whnf
  by_cases hT2 : T2 = 0
  ·subst hT2
   have r3 := r3 rfl
   have r4 := fun k2 => r4 k2 rfl
   conv => whnf
   refine ⟨_, hix, ?_⟩
   conv => whnf
   have eb : IntKind.i64.wrap (l[i].bud + 1) = l[i].bud + 1 := IntWalk.i64_in _ (by omega)
   rw [eb, show (bif decide (l[i].per < l[i].bud + 1) then l[i].per else l[i].bud + 1) = min (l[i].bud + 1) l[i].per by (by_cases hq : l[i].per < l[i].bud + 1 <;> simp [hq] <;> omega)]
   have hkk : bigger l[i] l[i].k = ⟨l[i].per, min (l[i].bud + 1) l[i].per, l[i].k, l[i].ts⟩ := rfl
   have hkl : ∀ k2, lessP l[i] l[i].k k2 = ⟨l[i].per, min (l[i].bud + 1) l[i].per, k2, l[i].ts.map lessT⟩ := fun _ => rfl
   rw [hkk] at t3 r3
   simp only [hkl] at t4 r4
   clear hT hU hl1 hl2 hbig hix hkk hkl eb hb hsb
   have hts4 := hok.2.1
   generalize min (l[i].bud + 1) l[i].per = bb at *
   generalize l[i] = x at *
   obtain ⟨per, bud, kk, ts⟩ := x
   dsimp only at t3 t4 r3 r4 hts4 hO
   refine vd_view t3 rfl (.cons (.row (s := 3) trivial rfl (by rfl) (size_pts _) rfl (Nat.le_refl _) (by omega) (fun _ => rfl) (fun _ => rfl) (cl_pts _)) (.cons (.clean rfl) .nil)) ?_
   generalize testS [⟨per, bb, kk, ts⟩] ((0 : Nat) : Int) = V at *
   obtain ⟨V1, V2⟩ := V
   simp only at r3
   subst r3
   conv => whnf
   refine vc_to3 (B := 0) (d := 5) (l := [(13, .ptr 1 0), (16, .int .i64 0), (17, grV 2 0), (18, .int .i64 ((0 : Nat) : Int))]) (O := none) (X := some (.cells [.int .i64 per, .int .i64 bb, .fz kk (tks ts)] true 0)) (I := grO 8 (tks (ts.map lessT)) 0) (fun b => bif Nat.beq b 1 then 5 else bif Nat.beq b 2 then 7 else b) ?_ no_blk (one_blk ⟨_, rfl, renB_cl rfl (by simp [clL, AV.cl, cl_tks])⟩) no_blk (by decide) (by decide) (by decide) (by intro b hb; omega) (by omega) ?_
   ·exact ⟨⟨_, rfl, .ptr (by omega)⟩, ⟨_, rfl, .cl rfl⟩, ⟨_, rfl, .cl rfl⟩, ⟨_, rfl, .cl rfl⟩, trivial⟩
   refine less_loop per bb kk ts hts4 hO ?_
   have hLl : (ts.map lessT).length = ts.length := by simp
   have t4 := t4 (growK ts.length)
   have r4 := r4 (growK ts.length)
   generalize ts.map lessT = L at *
   refine vc_frz [2] (i := 17) (v' := .fz (growK ts.length) (tks L)) rfl (gr_frz (s := 8) (size_tks L) (cl_tks L) (by simp) ts.length (by rw [len_tks]; exact hLl.symm) rfl) ?_
   refine vc_to3 (B := 0) (d := 5) (l := [(13, .ptr 1 0), (16, .int .i64 0), (17, .fz (growK ts.length) (tks L)), (18, .int .i64 (ts.length : Nat))]) (O := none) (X := some (.cells [.int .i64 per, .int .i64 bb, .fz kk (tks ts)] true 0)) (I := none) id ?_ no_blk (one_blk ⟨_, rfl, renB_cl rfl (by simp [clL, AV.cl, cl_tks])⟩) no_blk (by decide) (by decide) (by decide) (by intro b hb; omega) (by omega) ?_
   ·exact ⟨⟨_, rfl, .ptr (by omega)⟩, ⟨_, rfl, .cl rfl⟩, ⟨_, rfl, .cl (by simp [AV.cl, cl_tks])⟩, ⟨_, rfl, .cl rfl⟩, trivial⟩
   refine vc_loop (z := false) ?_
   generalize growK ts.length = g2 at *
   conv => whnf
   refine brf (by rw [len_tks]; simp) (fun hc => ?_)
   (try rw [hc])
   conv => whnf
   refine vd_view t4 rfl (.cons (.row (s := 3) trivial rfl (by rfl) (size_pts _) rfl (Nat.le_refl _) (by omega) (fun _ => rfl) (fun _ => rfl) (cl_pts _)) (.cons (.clean rfl) .nil)) ?_
   generalize testS [⟨per, bb, g2, L⟩] ((0 : Nat) : Int) = W at *
   obtain ⟨W1, W2⟩ := W
   simp only at r4
   subst r4
   conv => whnf
   refine vd_pure (works10_c) ?_
   conv => whnf
   subst hQ
   rfl
  ·refine brt (by simpa using hT2) (fun hc => ?_)
   (try rw [hc])
   conv => whnf
   refine brf (by simp; intro hz; exact hT2 (hbig hz)) (fun hc => ?_)
   (try rw [hc])
   conv => whnf
   refine brt (by simpa using hT2) (fun hc => ?_)
   (try rw [hc])
   conv => whnf
   refine vd_pure (works10_c) ?_
   conv => whnf
   subst hQ
   rfl
end Ir
end Go.Proofs.Ytlndlbngfgaoeaa
