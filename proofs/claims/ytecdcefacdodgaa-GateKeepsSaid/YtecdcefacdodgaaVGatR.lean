/-
  Gate: configurations made to be such. Gate: who is in. Gate: fewer pass, too. Gate: a partition that shares nothing is tested by itself.
-/
import Derived.Test.YtecdcefacdodgaaVGat
import Derived.Test.YtecdcefacdodgaaVsHeap
set_option maxRecDepth 100000
set_option linter.unusedSimpArgs false
set_option linter.unusedVariables false
namespace Go.Proofs.Ytecdcefacdodgaa
open Go Ads
namespace Ir

def m12 (t : Tk) : Tk := ⟨n9p t, n9d t, n9w t, 0, 0, 0, 0, 0⟩
def m12Ts (l : List Tk) : List Tk := (l.take 3).map m12
def m12P (x : Pt) : Pt := ⟨q9p x, q9b x, growK (m12Ts x.ts).length, m12Ts x.ts⟩
def m12Ps (l : List Pt) : List Pt := (l.take 4).map m12P
theorem flatL_tk (t : Tk) : flatL (tk t).cells = true := rfl

def I12 (k : Nat) (l : List Pt) (i : Nat) (j : Nat) : List (Nat × AV) := [(0, .fz k (pts l)), (2, .ptr 4 0), (3, .ptr 3 0), (4, .int .i64 (i : Nat)), (5, .ptr 1 0), (6, .int .i64 (j : Nat))]
def H12 (O : Option Blk) (V : AV) (P b : Int) (T : List Tk) (j : Nat) : Heap := H8 O (some (.cells [.int .i64 P, .int .i64 b, grV 2 j] true 0)) (grO 8 (tks T) j) (some (.cells [V, .nils] true 0)) (some (.cells [.nils, .nils] true 0)) none none none

theorem inner12 {Q : AX → Env → Heap → Prop} (k : Nat) (l : List Pt) (i : Nat) (x : Pt) (P b : Int) (hix : pV (.iaddrS 3) [.fz k (pts l), .int .i64 (i : Nat)] = some (.fp (pt x).cells 0)) (hx : x.ts.length ≤ 17592186044416) (V : AV) (O : Option Blk) (hO : Cln O) (hV : ∀ p : Nat → Nat, p 0 = 0 → Ren p 8 V V)
    (hK : VC fs ms 0 false (.loop L_escapementlaw12_made_1) (ek 5 (I12 k l i (m12Ts x.ts).length)) (H12 O V P b (m12Ts x.ts) (m12Ts x.ts).length) Q) :
    VC fs ms 0 false (.loop L_escapementlaw12_made_1) (ek 5 (I12 k l i 0)) (H12 O V P b (m12Ts x.ts) 0) Q := by
  have hN : (m12Ts x.ts).length = min 3 x.ts.length := by simp [m12Ts]
  refine for_rowL 0 5 (m12Ts x.ts).length (fun _ => True) (I12 k l i) (H12 O V P b (m12Ts x.ts)) ?_ (fun _ => hK) trivial
  clear hK
  intro j hj _
  have hjl : j < x.ts.length := by omega
  have hj3 : j < 3 := by omega
  have hT : (m12Ts x.ts).take (j + 1) = (m12Ts x.ts).take j ++ [m12 x.ts[j]] := by
    rw [take_next hj]
    simp [m12Ts]
  have hidx := idx_tk (k := x.k) hjl
  have hin := n9_in 1 x.ts[j] (by omega)
  have hclT := cl_tks (m12Ts x.ts)
  have hszT := size_tks (m12Ts x.ts)
  have htk : ∀ n, (tks (m12Ts x.ts)).take n = tks ((m12Ts x.ts).take n) := fun n => tks_take _ n
  have hleT : j < (m12Ts x.ts).length := hj
  generalize x.ts[j] = t at *
  have hm : m12 t = ⟨n9p t, n9d t, n9w t, 0, 0, 0, 0, 0⟩ := rfl
  have b1 : IntKind.i64.wrap (1 + bring t.p 48) = n9p t := IntWalk.i64_in _ (by show _ ≤ n9p t ∧ n9p t ≤ _; omega)
  have b2 : IntKind.i64.wrap (1 + bring t.d (n9p t)) = n9d t := IntWalk.i64_in _ (by show _ ≤ n9d t ∧ n9d t ≤ _; omega)
  have b3 : IntKind.i64.wrap (1 + bring t.w (n9d t)) = n9w t := IntWalk.i64_in _ (by show _ ≤ n9w t ∧ n9w t ≤ _; omega)
  generalize n9p t = tp at *
  generalize n9d t = td at *
  generalize n9w t = tw at *
  generalize hL : m12Ts x.ts = L at *
  unfold I12 H12
  set_option smartUnfolding false in conv => whnf
  refine ⟨_, hix, ?_⟩
  set_option smartUnfolding false in conv => whnf
  refine brt (by rw [len_tks]; simp; omega) (fun hc => ?_)
  (try rw [hc])
  set_option smartUnfolding false in conv => whnf
  refine brt (by simp; omega) (fun hc => ?_)
  (try rw [hc])
  set_option smartUnfolding false in conv => whnf
  refine ⟨_, hix, ?_⟩
  set_option smartUnfolding false in conv => whnf
  refine ⟨_, hidx, ?_⟩
  set_option smartUnfolding false in conv => whnf
  refine vd_pure (bring_c _ 48 (by omega) (by omega)) ?_
  set_option smartUnfolding false in conv => whnf
  rw [b1]
  set_option smartUnfolding false in conv => whnf
  refine vd_pure (bring_c _ tp (by omega) (by omega)) ?_
  set_option smartUnfolding false in conv => whnf
  rw [b2]
  set_option smartUnfolding false in conv => whnf
  refine vd_pure (bring_c _ td (by omega) (by omega)) ?_
  set_option smartUnfolding false in conv => whnf
  rw [b3]
  set_option smartUnfolding false in conv => whnf
  have hslots : ∀ (p : Nat → Nat) (e1 : Env), p 1 = 1 → p 3 = 3 → p 4 = 4 → Tr.get e1 0 = some (.fz k (pts l)) → Tr.get e1 2 = some (.ptr 4 0) → Tr.get e1 3 = some (.ptr 3 0) → Tr.get e1 4 = some (.int .i64 (i : Nat)) → Tr.get e1 5 = some (.ptr 1 0) → Tr.get e1 6 = some (.int .i64 ((j + 1 : Nat) : Int)) → RenAt p 8 e1 (I12 k l i (j + 1)) := by
    intro p e1 p1 p3 p4 h0 h2 h3 h4 h5 h6
    refine ⟨⟨_, h0, .cl (by simp [AV.cl, cl_pts])⟩, ⟨_, h2, ?_⟩, ⟨_, h3, ?_⟩, ⟨_, h4, .cl rfl⟩, ⟨_, h5, ?_⟩, ⟨_, h6, .cl rfl⟩, trivial⟩
    · have : Ren p 8 (.ptr 4 0) (.ptr (p 4) 0) := .ptr (by omega)
      rwa [p4] at this
    · have : Ren p 8 (.ptr 3 0) (.ptr (p 3) 0) := .ptr (by omega)
      rwa [p3] at this
    · have : Ren p 8 (.ptr 1 0) (.ptr (p 1) 0) := .ptr (by omega)
      rwa [p1] at this
  cases j with
  | zero =>
    refine ⟨_, _, app_nilsS (cs := (tk ⟨tp, td, tw, 0, 0, 0, 0, 0⟩).cells) (by omega) rfl rfl, ?_⟩
    set_option smartUnfolding false in conv => whnf
    refine ⟨trivial, fun b => bif Nat.beq b 2 then 11 else b, gc8 _ (hslots _ _ rfl rfl rfl rfl rfl rfl rfl rfl (inc_slot (j := 0) (by omega))) (all8 (cln_ren hO rfl) (one_blk ⟨_, rfl, renB_3 (.cl rfl) (.cl rfl) (.sl (by omega))⟩) (one_blk ⟨_, rfl, renB_cl ?_ (flat_cl (cl_take hclT _))⟩) (one_blk ⟨_, rfl, renB_2 (hV _ rfl) (.cl rfl)⟩) (one_blk ⟨_, rfl, renB_cl rfl rfl⟩) no_blk no_blk no_blk) (by decide) (by intro b hb; omega) (by omega)⟩
    show (tk ⟨tp, td, tw, 0, 0, 0, 0, 0⟩).cells = flatCells ((tks L).take (0 + 1))
    rw [htk, hT, hm]
    rfl
  | succ j =>
    have hle : j + 1 ≤ L.length := by omega
    refine ⟨_, _, app_openS (cs := (tk ⟨tp, td, tw, 0, 0, 0, 0, 0⟩).cells) (vs := flatCells ((tks L).take (j + 1))) rfl (by rw [flat_size (size_take hszT _), List.length_take, len_tks, Nat.min_eq_left hle]) (by omega) (by omega) rfl rfl, ?_⟩
    set_option smartUnfolding false in conv => whnf
    refine ⟨trivial, fun b => bif Nat.beq b 2 then 11 else b, gc8 _ (hslots _ _ rfl rfl rfl rfl rfl rfl rfl rfl (inc_slot (j := j + 1) (by omega))) (all8 (cln_ren hO rfl) (one_blk ⟨_, rfl, renB_3 (.cl rfl) (.cl rfl) (.sl (by omega))⟩) (one_blk ⟨_, rfl, renB_cl ?_ (flat_cl (cl_take hclT _))⟩) (one_blk ⟨_, rfl, renB_2 (hV _ rfl) (.cl rfl)⟩) (one_blk ⟨_, rfl, renB_cl rfl rfl⟩) no_blk no_blk no_blk) (by decide) (by intro b hb; omega) (by omega)⟩
    show flatCells ((tks L).take (j + 1)) ++ (tk ⟨tp, td, tw, 0, 0, 0, 0, 0⟩).cells = flatCells ((tks L).take (j + 1 + 1))
    rw [htk, htk, hT, hm, tks, tks, List.map_append, flat_app]
    rfl

def N12 (k : Nat) (l : List Pt) (j : Nat) : List (Nat × AV) := [(0, .fz k (pts l)), (2, .ptr 4 0), (3, .ptr 3 0), (4, .int .i64 (j : Nat))]
def G12 (L : List Pt) (j : Nat) : Heap := H8 (grO 3 (pts L) j) none none (some (.cells [grV 0 j, .nils] true 0)) (some (.cells [.nils, .nils] true 0)) none none none
theorem slots12 {k j : Nat} {l : List Pt} {p : Nat → Nat} {e1 : Env} {b3 b4 : Nat} (p3 : p 3 = b3) (p4 : p 4 = b4) (h0 : Tr.get e1 0 = some (.fz k (pts l))) (h2 : Tr.get e1 2 = some (.ptr b4 0)) (h3 : Tr.get e1 3 = some (.ptr b3 0)) (h4 : Tr.get e1 4 = some (.int .i64 (j : Nat))) : RenAt p 8 e1 (N12 k l j) := by
  subst p3 p4
  exact ⟨⟨_, h0, .cl (by simp [AV.cl, cl_pts])⟩, ⟨_, h2, .ptr (by omega)⟩, ⟨_, h3, .ptr (by omega)⟩, ⟨_, h4, .cl rfl⟩, trivial⟩

theorem made12_c (k : Nat) (l : List Pt) (hs : Small l) : PC fs ms f_escapementlaw12_made [.fz k (pts l)] (cfg (growK (m12Ps l).length) (m12Ps l)) := by
  refine ⟨by simp [clL, AV.cl, cl_pts], cl_cfg _ _, ?_⟩
  refine vd_start (af := C_escapementlaw12_made) false rfl (Nat.le_of_ble_eq_true rfl) ?_
  generalize hQ : (fun (u : AV) (g : Heap) => Frz (fun _ => True) g u (cfg (growK (m12Ps l).length) (m12Ps l))) = Q
  set_option smartUnfolding false in conv => whnf
  have hN : (m12Ps l).length = min 4 l.length := by simp [m12Ps]
  refine vc_gc (e' := ek 5 (N12 k l 0)) (h' := G12 (m12Ps l) 0) (p := fun b => bif Nat.beq b 4 then 0 else bif Nat.beq b 3 then 1 else bif Nat.beq b 0 then 4 else bif Nat.beq b 1 then 3 else b) (gc8 _ (slots12 rfl rfl rfl rfl rfl rfl) (all8 no_blk no_blk no_blk (one_blk ⟨_, rfl, renB_cl rfl rfl⟩) (one_blk ⟨_, rfl, renB_cl rfl rfl⟩) no_blk no_blk no_blk) (by decide) (by intro b hb; exact absurd hb (Nat.not_lt_zero b)) (Nat.zero_le _)) ?_
  show VC fs ms 0 false _ _ _ _
  refine for_rowH 0 5 (m12Ps l).length (fun _ => True) (N12 k l) (G12 (m12Ps l)) ?_ ?_ trivial
  · intro j hj _
    have hjl : j < l.length := by omega
    have hjm : j < 4 := by omega
    have hT : (m12Ps l).take (j + 1) = (m12Ps l).take j ++ [m12P l[j]] := by
      rw [take_next hj]
      simp [m12Ps]
    have hix := idx_pt (k := k) hjl
    have hxs := hs.2 _ (List.getElem_mem hjl)
    have hclL := cl_pts (m12Ps l)
    have hszL := size_pts (m12Ps l)
    have htk : ∀ n, (pts (m12Ps l)).take n = pts ((m12Ps l).take n) := fun n => pts_take _ n
    have hin := q9_in l[j]
    generalize l[j] = x at *
    have hmk : m12P x = ⟨q9p x, q9b x, growK (m12Ts x.ts).length, m12Ts x.ts⟩ := rfl
    have b1 : IntKind.i64.wrap (1 + bring x.per 10) = q9p x := IntWalk.i64_in _ (by show _ ≤ q9p x ∧ q9p x ≤ _; omega)
    have b2 : IntKind.i64.wrap (1 + bring x.bud (q9p x)) = q9b x := IntWalk.i64_in _ (by show _ ≤ q9b x ∧ q9b x ≤ _; omega)
    generalize q9p x = P at *
    generalize q9b x = b at *
    have hTl : (m12Ts x.ts).length = min 3 x.ts.length := by simp [m12Ts]
    have hclT := cl_tks (m12Ts x.ts)
    have hszT := size_tks (m12Ts x.ts)
    generalize hL : m12Ps l = L at *
    unfold N12 G12
    set_option smartUnfolding false in conv => whnf
    refine brt (by rw [len_pts]; simp; omega) (fun hc => ?_)
    (try rw [hc])
    set_option smartUnfolding false in conv => whnf
    refine brt (by simp; omega) (fun hc => ?_)
    (try rw [hc])
    set_option smartUnfolding false in conv => whnf
    refine ⟨_, hix, ?_⟩
    set_option smartUnfolding false in conv => whnf
    refine vd_pure (bring_c _ 10 (by omega) (by omega)) ?_
    set_option smartUnfolding false in conv => whnf
    rw [b1]
    set_option smartUnfolding false in conv => whnf
    refine ⟨_, hix, ?_⟩
    set_option smartUnfolding false in conv => whnf
    refine vd_pure (bring_c _ P (by omega) (by omega)) ?_
    set_option smartUnfolding false in conv => whnf
    rw [b2]
    set_option smartUnfolding false in conv => whnf
    refine vc_gc (e' := ek 5 (I12 k l j 0)) (h' := H12 (grO 3 (pts L) j) (grV 0 j) P b (m12Ts x.ts) 0) (p := fun b => bif Nat.beq b 1 then 8 else b) (gc8 _ ?_ (all8 (cln_ren (gr_cln hclL j) rfl) (one_blk ⟨_, rfl, renB_3 (.cl rfl) (.cl rfl) (.cl rfl)⟩) no_blk (one_blk ⟨_, rfl, renB_2 (gr_ren rfl (by omega) j) (.cl rfl)⟩) (one_blk ⟨_, rfl, renB_cl rfl rfl⟩) no_blk no_blk no_blk) (by decide) (by intro b hb; omega) (by omega)) ?_
    · exact ⟨⟨_, rfl, .cl (by simp [AV.cl, cl_pts])⟩, ⟨_, rfl, .ptr (by omega)⟩, ⟨_, rfl, .ptr (by omega)⟩, ⟨_, rfl, .cl rfl⟩, ⟨_, rfl, .ptr (by omega)⟩, ⟨_, rfl, .cl rfl⟩, trivial⟩
    refine inner12 k l j x P b hix hxs (grV 0 j) (grO 3 (pts L) j) (gr_cln hclL j) (fun p hp => gr_ren hp (by omega) j) ?_
    generalize m12Ts x.ts = T at *
    refine vc_frz [1, 2] (i := 5) (v' := .fp [.int .i64 P, .int .i64 b, .fz (growK T.length) (tks T)] 0) rfl (.ptr' (by simp) rfl (.cons (.clean rfl) (.cons (.clean rfl) (.cons (gr_frz (s := 8) hszT hclT (by simp) T.length (len_tks T).symm rfl) .nil)))) ?_
    refine vc_gc (e' := ek 5 [(0, .fz k (pts l)), (2, .ptr 4 0), (3, .ptr 3 0), (4, .int .i64 (j : Nat)), (5, .fp [.int .i64 P, .int .i64 b, .fz (growK T.length) (tks T)] 0), (6, .int .i64 (T.length : Nat))]) (h' := G12 L j) (p := id) (gc8 _ ?_ (all8 (cln_ren (gr_cln hclL j) rfl) no_blk no_blk (one_blk ⟨_, rfl, renB_2 (gr_ren rfl (by omega) j) (.cl rfl)⟩) (one_blk ⟨_, rfl, renB_cl rfl rfl⟩) no_blk no_blk no_blk) (by decide) (by intro b hb; omega) (by omega)) ?_
    · exact ⟨⟨_, rfl, .cl (by simp [AV.cl, cl_pts])⟩, ⟨_, rfl, .ptr (by omega)⟩, ⟨_, rfl, .ptr (by omega)⟩, ⟨_, rfl, .cl rfl⟩, ⟨_, rfl, .cl (by simp [AV.cl, clL, cl_tks])⟩, ⟨_, rfl, .cl rfl⟩, trivial⟩
    refine vc_loop (z := false) ?_
    unfold G12
    have hend : T.length < x.ts.length → T.length = 3 := by omega
    generalize hn : T.length = n at *
    set_option smartUnfolding false in conv => whnf
    refine ⟨_, hix, ?_⟩
    set_option smartUnfolding false in conv => whnf
    by_cases hlt : n < x.ts.length
    · have h3 := hend hlt
      refine brt (by rw [len_tks]; simp; omega) (fun hc => ?_)
      (try rw [hc])
      set_option smartUnfolding false in conv => whnf
      refine brf (by simp; omega) (fun hc => ?_)
      (try rw [hc])
      set_option smartUnfolding false in conv => whnf
      cases j with
      | zero =>
        refine ⟨_, _, app_nilsS (cs := [.int .i64 P, .int .i64 b, .fz (growK n) (tks T)]) (by omega) rfl rfl, ?_⟩
        set_option smartUnfolding false in conv => whnf
        refine ⟨trivial, fun b => bif Nat.beq b 0 then 9 else b, gc8 _ (slots12 rfl rfl rfl rfl rfl (inc_slot (j := 0) (by omega))) (all8 (one_blk ⟨_, rfl, renB_cl ?_ (flat_cl (cl_take hclL _))⟩) no_blk no_blk (one_blk ⟨_, rfl, renB_2 (.sl (by omega)) (.cl rfl)⟩) (one_blk ⟨_, rfl, renB_cl rfl rfl⟩) no_blk no_blk no_blk) (by decide) (by intro b hb; omega) (by omega)⟩
        show [.int .i64 P, .int .i64 b, .fz (growK n) (tks T)] = flatCells ((pts L).take (0 + 1))
        rw [htk, hT, hmk]
        rfl
      | succ j =>
        have hle : j + 1 ≤ L.length := by omega
        refine ⟨_, _, app_openS (cs := [.int .i64 P, .int .i64 b, .fz (growK n) (tks T)]) (vs := flatCells ((pts L).take (j + 1))) rfl (by rw [flat_size (size_take hszL _), List.length_take, len_pts, Nat.min_eq_left hle]) (by omega) (by omega) rfl rfl, ?_⟩
        set_option smartUnfolding false in conv => whnf
        refine ⟨trivial, fun b => bif Nat.beq b 0 then 9 else b, gc8 _ (slots12 rfl rfl rfl rfl rfl (inc_slot (j := j + 1) (by omega))) (all8 (one_blk ⟨_, rfl, renB_cl ?_ (flat_cl (cl_take hclL _))⟩) no_blk no_blk (one_blk ⟨_, rfl, renB_2 (.sl (by omega)) (.cl rfl)⟩) (one_blk ⟨_, rfl, renB_cl rfl rfl⟩) no_blk no_blk no_blk) (by decide) (by intro b hb; omega) (by omega)⟩
        show flatCells ((pts L).take (j + 1)) ++ [.int .i64 P, .int .i64 b, .fz (growK n) (tks T)] = flatCells ((pts L).take (j + 1 + 1))
        rw [htk, htk, hT, hmk, pts, pts, List.map_append, flat_app]
        rfl
    · refine brf (by rw [len_tks]; simp; omega) (fun hc => ?_)
      (try rw [hc])
      set_option smartUnfolding false in conv => whnf
      cases j with
      | zero =>
        refine ⟨_, _, app_nilsS (cs := [.int .i64 P, .int .i64 b, .fz (growK n) (tks T)]) (by omega) rfl rfl, ?_⟩
        set_option smartUnfolding false in conv => whnf
        refine ⟨trivial, fun b => bif Nat.beq b 0 then 9 else b, gc8 _ (slots12 rfl rfl rfl rfl rfl (inc_slot (j := 0) (by omega))) (all8 (one_blk ⟨_, rfl, renB_cl ?_ (flat_cl (cl_take hclL _))⟩) no_blk no_blk (one_blk ⟨_, rfl, renB_2 (.sl (by omega)) (.cl rfl)⟩) (one_blk ⟨_, rfl, renB_cl rfl rfl⟩) no_blk no_blk no_blk) (by decide) (by intro b hb; omega) (by omega)⟩
        show [.int .i64 P, .int .i64 b, .fz (growK n) (tks T)] = flatCells ((pts L).take (0 + 1))
        rw [htk, hT, hmk]
        rfl
      | succ j =>
        have hle : j + 1 ≤ L.length := by omega
        refine ⟨_, _, app_openS (cs := [.int .i64 P, .int .i64 b, .fz (growK n) (tks T)]) (vs := flatCells ((pts L).take (j + 1))) rfl (by rw [flat_size (size_take hszL _), List.length_take, len_pts, Nat.min_eq_left hle]) (by omega) (by omega) rfl rfl, ?_⟩
        set_option smartUnfolding false in conv => whnf
        refine ⟨trivial, fun b => bif Nat.beq b 0 then 9 else b, gc8 _ (slots12 rfl rfl rfl rfl rfl (inc_slot (j := j + 1) (by omega))) (all8 (one_blk ⟨_, rfl, renB_cl ?_ (flat_cl (cl_take hclL _))⟩) no_blk no_blk (one_blk ⟨_, rfl, renB_2 (.sl (by omega)) (.cl rfl)⟩) (one_blk ⟨_, rfl, renB_cl rfl rfl⟩) no_blk no_blk no_blk) (by decide) (by intro b hb; omega) (by omega)⟩
        show flatCells ((pts L).take (j + 1)) ++ [.int .i64 P, .int .i64 b, .fz (growK n) (tks T)] = flatCells ((pts L).take (j + 1 + 1))
        rw [htk, htk, hT, hmk, pts, pts, List.map_append, flat_app]
        rfl
  · intro _
    have hlast : ∀ g : Heap, g.get 0 = grO 3 (pts (m12Ps l)) (m12Ps l).length → Q (.agg [grV 0 (m12Ps l).length, .nils]) g := by
      subst hQ
      intro g hg
      exact .agg' (.cons (gr_frz (s := 3) (size_pts _) (cl_pts _) trivial _ (len_pts _).symm hg) (.cons (.clean rfl) .nil))
    clear hQ
    have hVf : (grV 0 (m12Ps l).length).flat = true := by cases (m12Ps l).length <;> rfl
    unfold N12 G12
    generalize grO 3 (pts (m12Ps l)) (m12Ps l).length = O at *
    generalize grV 0 (m12Ps l).length = V at *
    have hst : (true && flatL [V, .nils]) = true := by
      show cond V.flat true false = true
      rw [hVf]
      rfl
    generalize (m12Ps l).length = n at *
    by_cases hn : n < l.length
    · have hn4 : n = 4 := by omega
      set_option smartUnfolding false in conv => whnf
      refine brt (by rw [len_pts]; simp; omega) (fun hc => ?_)
      (try rw [hc])
      set_option smartUnfolding false in conv => whnf
      refine brf (by simp; omega) (fun hc => ?_)
      (try rw [hc])
      set_option smartUnfolding false in conv => whnf
      refine brT hst ?_
      set_option smartUnfolding false in conv => whnf
      exact hlast _ rfl
    · set_option smartUnfolding false in conv => whnf
      refine brf (by rw [len_pts]; simp; omega) (fun hc => ?_)
      (try rw [hc])
      set_option smartUnfolding false in conv => whnf
      refine brT hst ?_
      set_option smartUnfolding false in conv => whnf
      exact hlast _ rfl
end Ir
end Go.Proofs.Ytecdcefacdodgaa
set_option maxRecDepth 100000
set_option linter.unusedSimpArgs false
set_option linter.unusedVariables false
namespace Go.Proofs.Ytecdcefacdodgaa
open Go Ads
namespace Ir

def whoB (n : Int) (i : Nat) : Bool := IntKind.i64.wrap ((BitVec.ofInt 64 (n.fdiv (2 ^ (min i 64))) &&& BitVec.ofInt 64 1).toNat : Int) == 1
def whoL (n : Int) (m : Nat) : List Bool := (List.range m).map (whoB n)
theorem whoL_len (n : Int) (m : Nat) : (whoL n m).length = m := by simp [whoL]
theorem shr_any (n : Int) (i : Nat) : pV (.bin .shr) [.int .i64 n, .int .i64 (i : Nat)] = some (.int .i64 (n.fdiv (2 ^ (min i 64)))) := by
  simp only [pV, pIF, l2, binF, dInt, isShift, cond_true, binShift]
  rw [decide_eq_false (by omega)]
  rfl
def whoE (k : Nat) (L : List Pt) (n : Int) (j : Nat) : List (Nat × AV) := [(1, .int .i64 n), (2, .fp [.fz k (pts L), .nils] 0), (5, grV 0 j), (6, .int .i64 ((j : Nat) : Int))]
theorem bls_take (l : List Bool) (n : Nat) : (bls l).take n = bls (l.take n) := by simp [bls, List.map_take]

theorem who_c (k : Nat) (L : List Pt) (n : Int) (hs : Small L) (hl : L.length ≤ 1000) : PC fs ms f_escapementlaw12_who [cfg k L, .int .i64 n] (.fz (growK L.length) (bls (whoL n L.length))) := by
  refine ⟨by simp [clL, cl_cfg, AV.cl], by simp [AV.cl, cl_bls], ?_⟩
  refine vd_begin (af := C_escapementlaw12_who) rfl (Nat.le_of_ble_eq_true rfl) ?_
  generalize hQ : (fun (u : AV) (g : Heap) => Frz (fun _ => True) g u (.fz (growK L.length) (bls (whoL n L.length)))) = Q
  set_option smartUnfolding false in conv => whnf
  refine vc_seq false ?_
  set_option smartUnfolding false in conv => whnf
  refine vc_frz [0] (i := 2) (v' := .fp [.fz k (pts L), .nils] 0) rfl (.ptr' (by simp) rfl (.clean (by simp [cfg, AV.cells, clL, AV.cl, cl_pts]))) ?_
  refine vc_to0 5 [(1, .int .i64 n), (2, .fp [.fz k (pts L), .nils] 0)] ?_ ?_
  · exact ⟨⟨_, rfl, .cl rfl⟩, ⟨_, rfl, .cl (by simp [AV.cl, clL, cl_pts])⟩, trivial⟩
  refine vpC_sound (z := false) ?_
  have hWl := whoL_len n L.length
  have hWg : ∀ j, j < L.length → (whoL n L.length).take (j + 1) = (whoL n L.length).take j ++ [whoB n j] := by
    intro j hj
    rw [take_next (by rw [hWl]; exact hj)]
    simp [whoL]
  generalize whoL n L.length = W at *
  have hclW := cl_bls W
  have hszW := size_bls W
  set_option smartUnfolding false in conv => whnf
  refine vc_gc (e' := ek 5 (whoE k L n 0)) (h' := H3 (grO 1 (bls W) 0) none none) (p := id) (gc3 id ⟨⟨_, rfl, .cl rfl⟩, ⟨_, rfl, .cl (by simp [AV.cl, clL, cl_pts])⟩, ⟨_, rfl, .cl rfl⟩, ⟨_, rfl, .cl rfl⟩, trivial⟩ no_blk no_blk no_blk (by decide) (by decide) (by decide) (by intro b hb; rfl) (Nat.zero_le _)) ?_
  show VC fs ms 0 false _ _ _ _
  refine for_rowH 0 5 L.length (fun _ => True) (whoE k L n) (fun j => H3 (grO 1 (bls W) j) none none) (fun j hj _ => ?_) (fun _ => ?_) trivial
  · have hT := hWg j hj
    unfold whoE
    set_option smartUnfolding false in conv => whnf
    refine brt (by rw [len_pts]; simp; omega) (fun hc => ?_)
    (try rw [hc])
    set_option smartUnfolding false in conv => whnf
    refine ⟨_, shr_any n j, ?_⟩
    cases j with
    | zero =>
      set_option smartUnfolding false in conv => whnf
      refine ⟨_, _, app_nilsS (cs := [.bool (whoB n 0)]) (by omega) rfl rfl, ?_⟩
      set_option smartUnfolding false in conv => whnf
      refine ⟨trivial, fun b => bif Nat.beq b 0 then 4 else b, gc3 _ ⟨⟨_, rfl, .cl rfl⟩, ⟨_, rfl, .cl (by simp [AV.cl, clL, cl_pts])⟩, ⟨_, rfl, .sl (by omega)⟩, ⟨_, inc_slot (j := 0) (by omega), .cl rfl⟩, trivial⟩ (one_blk ⟨_, rfl, renB_cl ?_ (flat_cl (cl_take hclW _))⟩) no_blk no_blk (by decide) (by decide) (by decide) (by intro b hb; omega) (by omega)⟩
      show [AV.bool (whoB n 0)] = flatCells ((bls W).take (0 + 1))
      rw [bls_take, hT]
      rfl
    | succ j =>
      set_option smartUnfolding false in conv => whnf
      refine ⟨_, _, app_openS (cs := [.bool (whoB n (j + 1))]) (vs := flatCells ((bls W).take (j + 1))) rfl (by rw [flat_size (size_take hszW _), List.length_take, len_bls]; omega) (by omega) (by omega) rfl rfl, ?_⟩
      set_option smartUnfolding false in conv => whnf
      refine ⟨trivial, fun b => bif Nat.beq b 0 then 4 else b, gc3 _ ⟨⟨_, rfl, .cl rfl⟩, ⟨_, rfl, .cl (by simp [AV.cl, clL, cl_pts])⟩, ⟨_, rfl, .sl (by omega)⟩, ⟨_, inc_slot (j := j + 1) (by omega), .cl rfl⟩, trivial⟩ (one_blk ⟨_, rfl, renB_cl ?_ (flat_cl (cl_take hclW _))⟩) no_blk no_blk (by decide) (by decide) (by decide) (by intro b hb; omega) (by omega)⟩
      show flatCells ((bls W).take (j + 1)) ++ [AV.bool (whoB n (j + 1))] = flatCells ((bls W).take (j + 1 + 1))
      rw [bls_take, bls_take, hT, bls, bls, List.map_append, flat_app]
      rfl
  · have hlast : Q (grV 0 L.length) (H3 (grO 1 (bls W) L.length) none none) := by
      subst hQ
      exact gr_frz (s := 1) hszW hclW trivial _ (by rw [len_bls, hWl]) rfl
    clear hQ
    unfold whoE
    generalize H3 (grO 1 (bls W) L.length) none none = G at *
    generalize grV 0 L.length = V at *
    set_option smartUnfolding false in conv => whnf
    refine brf (by rw [len_pts]; simp) (fun hc => ?_)
    (try rw [hc])
    set_option smartUnfolding false in conv => whnf
    exact hlast
end Ir
end Go.Proofs.Ytecdcefacdodgaa
set_option maxRecDepth 100000
set_option linter.unusedSimpArgs false
set_option linter.unusedVariables false
namespace Go.Proofs.Ytecdcefacdodgaa
open Go Ads
namespace Ir

/- What servers share, by weights. -/
def wt (x : Pt) : Int := x.bud * (2520 / x.per)
def sumWt : List Pt → Int
  | [] => 0
  | x :: l => wt x + sumWt l
theorem sumWt_app : ∀ l m : List Pt, sumWt (l ++ m) = sumWt l + sumWt m
  | [], m => by simp [sumWt]
  | x :: l, m => by simp only [List.cons_append, sumWt, sumWt_app l m]; omega
/-- Periods that divide 2520. -/
def Short (x : Pt) : Prop := 1 ≤ x.per ∧ x.per ≤ 10 ∧ 1 ≤ x.bud ∧ x.bud ≤ x.per
theorem short_div {d : Int} (h1 : 1 ≤ d) (h2 : d ≤ 10) : 2520 / d * d = 2520 := by
  have : d = 1 ∨ d = 2 ∨ d = 3 ∨ d = 4 ∨ d = 5 ∨ d = 6 ∨ d = 7 ∨ d = 8 ∨ d = 9 ∨ d = 10 := by omega
  rcases this with rfl | rfl | rfl | rfl | rfl | rfl | rfl | rfl | rfl | rfl <;> decide
theorem wt_per {x : Pt} (h : Short x) : wt x * x.per = x.bud * 2520 := by
  unfold wt
  rw [Int.mul_assoc, short_div h.1 h.2.1]
theorem short_ok {x : Pt} (h : Short x) : shareOk x = true := (shareOk_iff x).2 ⟨by have := h.2.1; omega, h.2.2.1, h.2.2.2⟩

theorem fplus_wt {p : Int × Int} {t d W w : Int} (h1 : p.1 * 2520 = p.2 * W) (hp1 : 0 ≤ p.1) (hp2 : 1 ≤ p.2) (ht : 0 ≤ t) (hd : 1 ≤ d) (hw : w * d = t * 2520) : (fplus p t d).1 * 2520 = (fplus p t d).2 * (W + w) := by
  obtain ⟨a, b⟩ := p
  simp only at h1 hp1 hp2
  have m1 := Int.mul_nonneg hp1 (show 0 ≤ d by omega)
  have m2 := Int.mul_nonneg ht (show 0 ≤ b by omega)
  have m4 := pos_mul hp2 hd
  have hT : 0 ≤ topS a b t d := by unfold topS; omega
  have hgp : 0 < Nat.gcd (topS a b t d).toNat (b * d).toNat := Nat.gcd_pos_of_pos_right _ (by omega)
  have hg : gS a b t d = (Nat.gcd (topS a b t d).toNat (b * d).toNat : Nat) := rfl
  have d1 : gS a b t d ∣ topS a b t d := by
    rw [hg, show topS a b t d = (((topS a b t d).toNat : Nat) : Int) by omega]
    exact Int.ofNat_dvd.2 (Nat.gcd_dvd_left _ _)
  have d2 : gS a b t d ∣ b * d := by
    rw [hg, show b * d = (((b * d).toNat : Nat) : Int) by omega]
    exact Int.ofNat_dvd.2 (Nat.gcd_dvd_right _ _)
  have e1 := Int.mul_ediv_cancel' d1
  have e2 := Int.mul_ediv_cancel' d2
  show topS a b t d / gS a b t d * 2520 = b * d / gS a b t d * (W + w)
  have hg0 : gS a b t d ≠ 0 := by omega
  generalize gS a b t d = g at *
  generalize topS a b t d / g = x at *
  generalize b * d / g = y at *
  refine Int.eq_of_mul_eq_mul_left hg0 ?_
  rw [← Int.mul_assoc, e1, ← Int.mul_assoc, e2]
  unfold topS
  have c1 : (a * d + t * b) * 2520 = (a * 2520) * d + (t * 2520) * b := by
    rw [Int.add_mul, Int.mul_right_comm, Int.mul_right_comm t]
  rw [c1, h1, ← hw, Int.mul_add]
  have c2 : b * W * d = b * d * W := Int.mul_right_comm ..
  have c3 : w * d * b = b * d * w := by rw [Int.mul_comm (w * d) b, Int.mul_comm w d, Int.mul_assoc]
  rw [c2, c3]
theorem acc_wt {L : List Pt} (h : ∀ x, x ∈ L → Short x) : ∀ j, j ≤ L.length → (accS L j).1 * 2520 = (accS L j).2 * sumWt (L.take j) ∧ AccIn (accS L j) j
  | 0, _ => by simp [accS, sumWt, AccIn, bdA, bdB]
  | j + 1, hj => by
    obtain ⟨ih1, ih2⟩ := acc_wt h j (by omega)
    have hx := h _ (List.getElem_mem (show j < L.length by omega))
    rw [accS_next (by omega), take_next (by omega), sumWt_app]
    have h1 := hx.1
    have h2 := hx.2.1
    have h3 := hx.2.2.1
    have h4 := hx.2.2.2
    have hw := wt_per hx
    have he : sumWt [L[j]] = wt L[j] := by simp [sumWt]
    rw [he]
    exact ⟨fplus_wt ih1 ih2.1 ih2.2.2.1 (by omega) h1 hw, acc_next ih2 ⟨by omega, by omega⟩ ⟨by omega, by omega⟩⟩
theorem sumR_short {L : List Pt} (h : ∀ x, x ∈ L → Short x) (h4 : L.length ≤ 4) : sumR L = (accS L L.length, true) := by
  rw [sumR, if_neg (by omega)]
  cases hfb : firstBad (shareBad L) 0 L.length with
  | none => rfl
  | some u =>
    obtain ⟨u1, u2, u3, u4⟩ := firstBad_some hfb
    rw [shareBad_eq (by omega), short_ok (h _ (List.getElem_mem (by omega)))] at u3
    exact absurd u3 (by decide)
/-- Servers share no more than there is. -/
theorem shareT_short {L : List Pt} (h : ∀ x, x ∈ L → Short x) (h4 : L.length ≤ 4) : shareT L = 0 ↔ sumWt L ≤ 2520 := by
  obtain ⟨h1, h2⟩ := acc_wt h L.length (Nat.le_refl _)
  rw [List.take_length] at h1
  have hs := sumR_short h h4
  unfold shareT
  rw [hs]
  simp only [if_true]
  obtain ⟨i1, i2, i3, i5⟩ := h2
  generalize accS L L.length = p at *
  obtain ⟨a, b⟩ := p
  simp only at h1 i1 i3
  generalize sumWt L = W at *
  constructor
  · intro h
    have hab : a ≤ b := by
      by_cases c : b < a
      · rw [if_pos c] at h; exact absurd h (by decide)
      · omega
    have : b * W ≤ b * 2520 := by
      rw [← h1]
      exact Int.mul_le_mul_of_nonneg_right hab (by omega)
    exact Int.le_of_mul_le_mul_left this (by omega)
  · intro h
    have : a * 2520 ≤ b * 2520 := by
      rw [h1]
      exact Int.mul_le_mul_of_nonneg_left h (by omega)
    have := Int.le_of_mul_le_mul_right this (by omega)
    rw [if_neg (by show ¬ b < a; omega)]
end Ir
end Go.Proofs.Ytecdcefacdodgaa
set_option maxRecDepth 100000
set_option linter.unusedSimpArgs false
set_option linter.unusedVariables false
namespace Go.Proofs.Ytecdcefacdodgaa
open Go Ads
namespace Ir

def Free (x : Pt) : Prop := ∀ t, t ∈ x.ts → t.c = 0
theorem waitS_free {A : List Pt} {a : Int} {t : Tk} (h : t.c = 0) : waitS A a t = 0 := by rw [waitS, if_pos h]
theorem moreOne_free {A B : List Pt} {a b : Int} {t : Tk} (h : t.c = 0) : moreOne A a t = moreOne B b t := by
  unfold moreOne
  rw [waitS_free h, waitS_free h]
theorem byOne_free {A B : List Pt} {a b : Int} {t : Tk} (h : t.c = 0) : byOne A a t = byOne B b t := by rw [byOne, byOne, if_pos h, if_pos h]
theorem ofN_free {A B : List Pt} {a b n : Int} {ts : List Tk} (h : ∀ t, t ∈ ts → t.c = 0) : ∀ j, ofN A a n ts j = ofN B b n ts j
  | 0 => rfl
  | j + 1 => by
    rw [ofN, ofN, ofN_free (A := A) (B := B) (a := a) (b := b) h j]
    cases hx : ts[j]? with
    | none => rfl
    | some t => simp only [byOne_free (A := A) (B := B) (a := a) (b := b) (h t (List.mem_of_getElem? hx))]
theorem testS_free {A : List Pt} {i : Nat} {x : Pt} (hi : A[i]? = some x) (hx : Free x) (hd : delCheck A = delCheck [x]) : testS A (i : Nat) = testS [x] 0 := by
  have hm : moreL A i = moreL [x] 0 := by
    unfold moreL
    rw [hi]
    exact List.map_congr_left fun t ht => moreOne_free (hx t ht)
  have h0 : ∀ n, dOf9 A ((i : Nat) : Int) n = dOf9 [x] 0 n := by
    intro n
    unfold dOf9
    rw [hd, show ((i : Nat) : Int).toNat = i by simp, hi]
    show (if delCheck [x] = 2 then ((0 : Int), (2 : Int)) else if ((i : Nat) : Int) < 0 then (0, 9) else if n < 0 then (0, 2) else (ofN A (i : Nat) n x.ts x.ts.length, 0)) = (if delCheck [x] = 2 then (0, 2) else if (0 : Int) < 0 then (0, 9) else if n < 0 then (0, 2) else (ofN [x] 0 n x.ts x.ts.length, 0))
    rw [if_neg (show ¬ ((i : Nat) : Int) < 0 by omega), if_neg (show ¬ (0 : Int) < 0 by omega), ofN_free (A := A) (B := [x]) (a := ((i : Nat) : Int)) (b := 0) hx]
  unfold testS
  rw [hd, show ((i : Nat) : Int).toNat = i by simp, hi]
  have hb : badB x A ((i : Nat) : Int) (moreL [x] 0) = badB x [x] 0 (moreL [x] 0) := by
    funext t
    unfold badB slackI
    rw [h0]
  show (if delCheck [x] = 2 then ((0 : Int), (2 : Int)) else if ((i : Nat) : Int) < 0 then (0, 9) else if x.ts.length = 0 then (0, 0) else testP x A (i : Nat) (moreL A i)) = (if delCheck [x] = 2 then (0, 2) else if (0 : Int) < 0 then (0, 9) else if x.ts.length = 0 then (0, 0) else testP x [x] 0 (moreL [x] 0))
  rw [if_neg (show ¬ ((i : Nat) : Int) < 0 by omega), if_neg (show ¬ (0 : Int) < 0 by omega), hm]
  simp only [testP, hb]

/- Configurations made to be such. -/
theorem m12_ok (t : Tk) (b : Int) : taskOk (m12 t) = true ∧ mayD (m12 t) b = true ∧ mayC (m12 t) b = true ∧ (m12 t).c = 0 := by
  obtain ⟨hp, hd, hw, -⟩ := n9_in 1 t (by omega)
  have h1 : inB (n9p t) 1 64 = true := inB_iff.2 hp
  have h2 : inB (n9d t) 1 (n9p t) = true := inB_iff.2 hd
  have h3 : inB (n9w t) 1 (n9d t) = true := inB_iff.2 hw
  refine ⟨decide_eq_true ?_, decide_eq_true ?_, ?_, rfl⟩
  · show 1 ≤ n9w t ∧ n9w t ≤ n9d t ∧ n9d t ≤ n9p t ∧ n9p t ≤ 64
    omega
  · show (0 : Int) ≤ 0 ∧ 0 ≤ n9w t ∧ (0 : Int) ≤ 0 ∧ (0 : Int) ≤ 4 ∧ (((0 : Int) = 0 ∧ (0 : Int) = 0 ∧ (0 : Int) = 0) ∨ _)
    exact ⟨by omega, by omega, by omega, by omega, .inl ⟨rfl, rfl, rfl⟩⟩
  · show (inB (n9p t) 1 64 && inB (n9d t) 1 (n9p t) && inB (n9w t) 1 (n9d t) && true && true && true && true && true) = true
    rw [h1, h2, h3]
    rfl
theorem m12P_ok (x : Pt) : partOk (m12P x) = true ∧ partC (m12P x) = true ∧ Short (m12P x) ∧ Free (m12P x) ∧ (m12P x).ts.length ≤ 3 := by
  have hin := q9_in x
  have hper : q9p x ≤ 10 := by
    have a2 := Int.emod_lt_of_pos x.per (show (0 : Int) < 10 by omega)
    unfold q9p
    omega
  have ht : ∀ t, t ∈ (m12P x).ts → taskOk t = true ∧ mayD t (q9b x) = true ∧ mayC t (q9b x) = true ∧ t.c = 0 := by
    intro t ht
    obtain ⟨u, -, rfl⟩ := List.mem_map.1 ht
    exact m12_ok u _
  have hl : (m12P x).ts.length ≤ 3 := by
    show (m12Ts x.ts).length ≤ 3
    simp [m12Ts]
    omega
  refine ⟨?_, ?_, ⟨hin.1, hper, hin.2.2.1, hin.2.2.2⟩, fun t h => (ht t h).2.2.2, hl⟩
  · simp only [partOk, Bool.and_eq_true]
    refine ⟨decide_eq_true hin, ?_, List.all_eq_true.2 fun t h => (ht t h).2.1⟩
    rw [tasksOk, Bool.and_eq_true, List.all_eq_true]
    exact ⟨fun t h => (ht t h).1, decide_eq_true (by omega)⟩
  · simp only [partC, Bool.and_eq_true, decide_eq_true_eq]
    exact ⟨⟨⟨inB_iff.2 ⟨hin.1, hin.2.1⟩, inB_iff.2 ⟨hin.2.2.1, hin.2.2.2⟩⟩, by omega⟩, List.all_eq_true.2 fun t h => (ht t h).2.2.1⟩
theorem m12Ps_mem {l : List Pt} {x : Pt} (h : x ∈ m12Ps l) : ∃ y, x = m12P y := by
  obtain ⟨y, -, rfl⟩ := List.mem_map.1 h
  exact ⟨y, rfl⟩

/-- Partitions that share nothing, of short periods. -/
def Plain (x : Pt) : Prop := partOk x = true ∧ partC x = true ∧ Short x ∧ Free x
theorem m12Ps_plain {l : List Pt} : ∀ x, x ∈ m12Ps l → Plain x := by
  intro x hx
  obtain ⟨y, rfl⟩ := m12Ps_mem hx
  have := m12P_ok y
  exact ⟨this.1, this.2.1, this.2.2.1, this.2.2.2.1⟩
theorem plain_conf {M : List Pt} (h : ∀ x, x ∈ M → Plain x) (h1 : 1 ≤ M.length) (h4 : M.length ≤ 4) : confC M = true := by
  simp only [confC, Bool.and_eq_true, decide_eq_true_eq]
  exact ⟨⟨List.all_eq_true.2 fun x hx => (h x hx).2.1, h1⟩, h4⟩
theorem plain_del {M : List Pt} (h : ∀ x, x ∈ M → Plain x) (h4 : M.length ≤ 4) : delCheck M = 0 := by
  unfold delCheck
  rw [if_pos ⟨h4, List.all_eq_true.2 fun x hx => (h x hx).1⟩]

/-- What passes the gate: a row of plain partitions. -/
theorem gate_plain {M : List Pt} {w : List Bool} (h : ∀ x, x ∈ M → Plain x) (h1 : 1 ≤ M.length) (h4 : M.length ≤ 4) (hw : w.length = M.length) :
    (gateS M w).2.2 = 0 ↔ (sumWt (selP M w M.length) ≤ 2520 ∧ ∀ x, x ∈ selP M w M.length → (testS [x] 0).2 = 0) := by
  have hask : askedS M w = 0 := by rw [askedS, if_pos (plain_conf h h1 h4), if_pos hw]
  have hsl := (sel_len hw M.length (Nat.le_refl _)).1
  have hS : ∀ x, x ∈ selP M w M.length → Plain x := fun x hx => h x (selP_mem hx)
  unfold gateS
  rw [hask, if_neg (by omega)]
  generalize selP M w M.length = S at *
  have hsh := shareT_short (fun x hx => (hS x hx).2.2.1) (show S.length ≤ 4 by omega)
  have hdel := plain_del hS (by omega)
  have ht : ∀ i (hi : i < S.length), testS S ((i : Nat) : Int) = testS [S[i]] 0 := by
    intro i hi
    have hx := hS _ (List.getElem_mem hi)
    refine testS_free (List.getElem?_eq_getElem hi) hx.2.2.2 ?_
    rw [hdel, plain_del (M := [S[i]]) (fun x hx2 => by rw [List.mem_singleton] at hx2; rw [hx2]; exact hx) (by simp)]
  by_cases hs : shareT S = 0
  · rw [if_neg (by omega)]
    cases hfb : firstBad (fun i => !((testS S ((i : Nat) : Int)).2 == 0)) 0 S.length with
    | none =>
      refine ⟨fun _ => ⟨hsh.1 hs, fun x hx => ?_⟩, fun _ => rfl⟩
      obtain ⟨i, hi, rfl⟩ := List.getElem_of_mem hx
      have := firstBad_none hfb i hi
      rw [Nat.zero_add, ht i hi] at this
      simpa using this
    | some u =>
      obtain ⟨u1, u2, u3, u4⟩ := firstBad_some hfb
      have hu : u < S.length := by omega
      rw [ht u hu] at u3
      have hne : (testS [S[u]] 0).2 ≠ 0 := by simpa using u3
      refine ⟨fun h0 => ?_, fun h0 => absurd (h0.2 _ (List.getElem_mem hu)) hne⟩
      have h0 : (testS S ((u : Nat) : Int)).2 = 0 := h0
      rw [ht u hu] at h0
      exact absurd h0 hne
  · rw [if_pos hs]
    exact ⟨fun h0 => absurd h0 hs, fun h0 => absurd (hsh.2 h0.1) hs⟩
end Ir
end Go.Proofs.Ytecdcefacdodgaa
