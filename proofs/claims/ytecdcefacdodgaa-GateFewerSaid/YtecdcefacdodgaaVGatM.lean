/-
  Gate: configurations made to be such.
-/
import Derived.Test.YtecdcefacdodgaaVGat
import Derived.Test.YtecdcefacdodgaaVsHeap
set_option maxRecDepth 100000
set_option linter.unusedSimpArgs false
set_option linter.unusedVariables false
namespace Go.Proofs.Ytecdcefacdodgaa
open Go Ads
namespace Ir

def m12 (t : Tk) : Tk := ⟨n9p t, n9d t, n9w t, 0, 0, 0, 0, 0⟩
def m12Ts (l : List Tk) : List Tk := (l.take 3).map m12
def m12P (x : Pt) : Pt := ⟨q9p x, q9b x, growK (m12Ts x.ts).length, m12Ts x.ts⟩
def m12Ps (l : List Pt) : List Pt := (l.take 4).map m12P
theorem flatL_tk (t : Tk) : flatL (tk t).cells = true := rfl

def I12 (k : Nat) (l : List Pt) (i : Nat) (j : Nat) : List (Nat × AV) := [(0, .fz k (pts l)), (2, .ptr 4 0), (3, .ptr 3 0), (4, .int .i64 (i : Nat)), (5, .ptr 1 0), (6, .int .i64 (j : Nat))]
def H12 (O : Option Blk) (V : AV) (P b : Int) (T : List Tk) (j : Nat) : Heap := H8 O (some (.cells [.int .i64 P, .int .i64 b, grV 2 j] true 0)) (grO 8 (tks T) j) (some (.cells [V, .nils] true 0)) (some (.cells [.nils, .nils] true 0)) none none none

theorem inner12 {Q : AX → Env → Heap → Prop} (k : Nat) (l : List Pt) (i : Nat) (x : Pt) (P b : Int) (hix : pV (.iaddrS 3) [.fz k (pts l), .int .i64 (i : Nat)] = some (.fp (pt x).cells 0)) (hx : x.ts.length ≤ 17592186044416) (V : AV) (O : Option Blk) (hO : Cln O) (hV : ∀ p : Nat → Nat, p 0 = 0 → Ren p 8 V V)
    (hK : VC fs ms 0 false (.loop L_escapementlaw12_made_1) (ek 5 (I12 k l i (m12Ts x.ts).length)) (H12 O V P b (m12Ts x.ts) (m12Ts x.ts).length) Q) :
    VC fs ms 0 false (.loop L_escapementlaw12_made_1) (ek 5 (I12 k l i 0)) (H12 O V P b (m12Ts x.ts) 0) Q := by
  have hN : (m12Ts x.ts).length = min 3 x.ts.length := by simp [m12Ts]
  refine for_rowL 0 5 (m12Ts x.ts).length (fun _ => True) (I12 k l i) (H12 O V P b (m12Ts x.ts)) ?_ (fun _ => hK) trivial
  clear hK
  intro j hj _
  have hjl : j < x.ts.length := by omega
  have hj3 : j < 3 := by omega
  have hT : (m12Ts x.ts).take (j + 1) = (m12Ts x.ts).take j ++ [m12 x.ts[j]] := by
    rw [take_next hj]
    simp [m12Ts]
  have hidx := idx_tk (k := x.k) hjl
  have hin := n9_in 1 x.ts[j] (by omega)
  have hclT := cl_tks (m12Ts x.ts)
  have hszT := size_tks (m12Ts x.ts)
  have htk : ∀ n, (tks (m12Ts x.ts)).take n = tks ((m12Ts x.ts).take n) := fun n => tks_take _ n
  have hleT : j < (m12Ts x.ts).length := hj
  generalize x.ts[j] = t at *
  have hm : m12 t = ⟨n9p t, n9d t, n9w t, 0, 0, 0, 0, 0⟩ := rfl
  have b1 : IntKind.i64.wrap (1 + bring t.p 48) = n9p t := IntWalk.i64_in _ (by show _ ≤ n9p t ∧ n9p t ≤ _; omega)
  have b2 : IntKind.i64.wrap (1 + bring t.d (n9p t)) = n9d t := IntWalk.i64_in _ (by show _ ≤ n9d t ∧ n9d t ≤ _; omega)
  have b3 : IntKind.i64.wrap (1 + bring t.w (n9d t)) = n9w t := IntWalk.i64_in _ (by show _ ≤ n9w t ∧ n9w t ≤ _; omega)
  generalize n9p t = tp at *
  generalize n9d t = td at *
  generalize n9w t = tw at *
  generalize hL : m12Ts x.ts = L at *
  unfold I12 H12
  set_option smartUnfolding false in conv => whnf
  refine ⟨_, hix, ?_⟩
  set_option smartUnfolding false in conv => whnf
  refine brt (by rw [len_tks]; simp; omega) (fun hc => ?_)
  (try rw [hc])
  set_option smartUnfolding false in conv => whnf
  refine brt (by simp; omega) (fun hc => ?_)
  (try rw [hc])
  set_option smartUnfolding false in conv => whnf
  refine ⟨_, hix, ?_⟩
  set_option smartUnfolding false in conv => whnf
  refine ⟨_, hidx, ?_⟩
  set_option smartUnfolding false in conv => whnf
  refine vd_pure (bring_c _ 48 (by omega) (by omega)) ?_
  set_option smartUnfolding false in conv => whnf
  rw [b1]
  set_option smartUnfolding false in conv => whnf
  refine vd_pure (bring_c _ tp (by omega) (by omega)) ?_
  set_option smartUnfolding false in conv => whnf
  rw [b2]
  set_option smartUnfolding false in conv => whnf
  refine vd_pure (bring_c _ td (by omega) (by omega)) ?_
  set_option smartUnfolding false in conv => whnf
  rw [b3]
  set_option smartUnfolding false in conv => whnf
  have hslots : ∀ (p : Nat → Nat) (e1 : Env), p 1 = 1 → p 3 = 3 → p 4 = 4 → Tr.get e1 0 = some (.fz k (pts l)) → Tr.get e1 2 = some (.ptr 4 0) → Tr.get e1 3 = some (.ptr 3 0) → Tr.get e1 4 = some (.int .i64 (i : Nat)) → Tr.get e1 5 = some (.ptr 1 0) → Tr.get e1 6 = some (.int .i64 ((j + 1 : Nat) : Int)) → RenAt p 8 e1 (I12 k l i (j + 1)) := by
    intro p e1 p1 p3 p4 h0 h2 h3 h4 h5 h6
    refine ⟨⟨_, h0, .cl (by simp [AV.cl, cl_pts])⟩, ⟨_, h2, ?_⟩, ⟨_, h3, ?_⟩, ⟨_, h4, .cl rfl⟩, ⟨_, h5, ?_⟩, ⟨_, h6, .cl rfl⟩, trivial⟩
    · have : Ren p 8 (.ptr 4 0) (.ptr (p 4) 0) := .ptr (by omega)
      rwa [p4] at this
    · have : Ren p 8 (.ptr 3 0) (.ptr (p 3) 0) := .ptr (by omega)
      rwa [p3] at this
    · have : Ren p 8 (.ptr 1 0) (.ptr (p 1) 0) := .ptr (by omega)
      rwa [p1] at this
  cases j with
  | zero =>
    refine ⟨_, _, app_nilsS (cs := (tk ⟨tp, td, tw, 0, 0, 0, 0, 0⟩).cells) (by omega) rfl rfl, ?_⟩
    set_option smartUnfolding false in conv => whnf
    refine ⟨trivial, fun b => bif Nat.beq b 2 then 11 else b, gc8 _ (hslots _ _ rfl rfl rfl rfl rfl rfl rfl rfl (inc_slot (j := 0) (by omega))) (all8 (cln_ren hO rfl) (one_blk ⟨_, rfl, renB_3 (.cl rfl) (.cl rfl) (.sl (by omega))⟩) (one_blk ⟨_, rfl, renB_cl ?_ (flat_cl (cl_take hclT _))⟩) (one_blk ⟨_, rfl, renB_2 (hV _ rfl) (.cl rfl)⟩) (one_blk ⟨_, rfl, renB_cl rfl rfl⟩) no_blk no_blk no_blk) (by decide) (by intro b hb; omega) (by omega)⟩
    show (tk ⟨tp, td, tw, 0, 0, 0, 0, 0⟩).cells = flatCells ((tks L).take (0 + 1))
    rw [htk, hT, hm]
    rfl
  | succ j =>
    have hle : j + 1 ≤ L.length := by omega
    refine ⟨_, _, app_openS (cs := (tk ⟨tp, td, tw, 0, 0, 0, 0, 0⟩).cells) (vs := flatCells ((tks L).take (j + 1))) rfl (by rw [flat_size (size_take hszT _), List.length_take, len_tks, Nat.min_eq_left hle]) (by omega) (by omega) rfl rfl, ?_⟩
    set_option smartUnfolding false in conv => whnf
    refine ⟨trivial, fun b => bif Nat.beq b 2 then 11 else b, gc8 _ (hslots _ _ rfl rfl rfl rfl rfl rfl rfl rfl (inc_slot (j := j + 1) (by omega))) (all8 (cln_ren hO rfl) (one_blk ⟨_, rfl, renB_3 (.cl rfl) (.cl rfl) (.sl (by omega))⟩) (one_blk ⟨_, rfl, renB_cl ?_ (flat_cl (cl_take hclT _))⟩) (one_blk ⟨_, rfl, renB_2 (hV _ rfl) (.cl rfl)⟩) (one_blk ⟨_, rfl, renB_cl rfl rfl⟩) no_blk no_blk no_blk) (by decide) (by intro b hb; omega) (by omega)⟩
    show flatCells ((tks L).take (j + 1)) ++ (tk ⟨tp, td, tw, 0, 0, 0, 0, 0⟩).cells = flatCells ((tks L).take (j + 1 + 1))
    rw [htk, htk, hT, hm, tks, tks, List.map_append, flat_app]
    rfl

def N12 (k : Nat) (l : List Pt) (j : Nat) : List (Nat × AV) := [(0, .fz k (pts l)), (2, .ptr 4 0), (3, .ptr 3 0), (4, .int .i64 (j : Nat))]
def G12 (L : List Pt) (j : Nat) : Heap := H8 (grO 3 (pts L) j) none none (some (.cells [grV 0 j, .nils] true 0)) (some (.cells [.nils, .nils] true 0)) none none none
theorem slots12 {k j : Nat} {l : List Pt} {p : Nat → Nat} {e1 : Env} {b3 b4 : Nat} (p3 : p 3 = b3) (p4 : p 4 = b4) (h0 : Tr.get e1 0 = some (.fz k (pts l))) (h2 : Tr.get e1 2 = some (.ptr b4 0)) (h3 : Tr.get e1 3 = some (.ptr b3 0)) (h4 : Tr.get e1 4 = some (.int .i64 (j : Nat))) : RenAt p 8 e1 (N12 k l j) := by
  subst p3 p4
  exact ⟨⟨_, h0, .cl (by simp [AV.cl, cl_pts])⟩, ⟨_, h2, .ptr (by omega)⟩, ⟨_, h3, .ptr (by omega)⟩, ⟨_, h4, .cl rfl⟩, trivial⟩

theorem made12_c (k : Nat) (l : List Pt) (hs : Small l) : PC fs ms f_escapementlaw12_made [.fz k (pts l)] (cfg (growK (m12Ps l).length) (m12Ps l)) := by
  refine ⟨by simp [clL, AV.cl, cl_pts], cl_cfg _ _, ?_⟩
  refine vd_start (af := C_escapementlaw12_made) false rfl (Nat.le_of_ble_eq_true rfl) ?_
  generalize hQ : (fun (u : AV) (g : Heap) => Frz (fun _ => True) g u (cfg (growK (m12Ps l).length) (m12Ps l))) = Q
  set_option smartUnfolding false in conv => whnf
  have hN : (m12Ps l).length = min 4 l.length := by simp [m12Ps]
  refine vc_gc (e' := ek 5 (N12 k l 0)) (h' := G12 (m12Ps l) 0) (p := fun b => bif Nat.beq b 4 then 0 else bif Nat.beq b 3 then 1 else bif Nat.beq b 0 then 4 else bif Nat.beq b 1 then 3 else b) (gc8 _ (slots12 rfl rfl rfl rfl rfl rfl) (all8 no_blk no_blk no_blk (one_blk ⟨_, rfl, renB_cl rfl rfl⟩) (one_blk ⟨_, rfl, renB_cl rfl rfl⟩) no_blk no_blk no_blk) (by decide) (by intro b hb; exact absurd hb (Nat.not_lt_zero b)) (Nat.zero_le _)) ?_
  show VC fs ms 0 false _ _ _ _
  refine for_rowH 0 5 (m12Ps l).length (fun _ => True) (N12 k l) (G12 (m12Ps l)) ?_ ?_ trivial
  · intro j hj _
    have hjl : j < l.length := by omega
    have hjm : j < 4 := by omega
    have hT : (m12Ps l).take (j + 1) = (m12Ps l).take j ++ [m12P l[j]] := by
      rw [take_next hj]
      simp [m12Ps]
    have hix := idx_pt (k := k) hjl
    have hxs := hs.2 _ (List.getElem_mem hjl)
    have hclL := cl_pts (m12Ps l)
    have hszL := size_pts (m12Ps l)
    have htk : ∀ n, (pts (m12Ps l)).take n = pts ((m12Ps l).take n) := fun n => pts_take _ n
    have hin := q9_in l[j]
    generalize l[j] = x at *
    have hmk : m12P x = ⟨q9p x, q9b x, growK (m12Ts x.ts).length, m12Ts x.ts⟩ := rfl
    have b1 : IntKind.i64.wrap (1 + bring x.per 10) = q9p x := IntWalk.i64_in _ (by show _ ≤ q9p x ∧ q9p x ≤ _; omega)
    have b2 : IntKind.i64.wrap (1 + bring x.bud (q9p x)) = q9b x := IntWalk.i64_in _ (by show _ ≤ q9b x ∧ q9b x ≤ _; omega)
    generalize q9p x = P at *
    generalize q9b x = b at *
    have hTl : (m12Ts x.ts).length = min 3 x.ts.length := by simp [m12Ts]
    have hclT := cl_tks (m12Ts x.ts)
    have hszT := size_tks (m12Ts x.ts)
    generalize hL : m12Ps l = L at *
    unfold N12 G12
    set_option smartUnfolding false in conv => whnf
    refine brt (by rw [len_pts]; simp; omega) (fun hc => ?_)
    (try rw [hc])
    set_option smartUnfolding false in conv => whnf
    refine brt (by simp; omega) (fun hc => ?_)
    (try rw [hc])
    set_option smartUnfolding false in conv => whnf
    refine ⟨_, hix, ?_⟩
    set_option smartUnfolding false in conv => whnf
    refine vd_pure (bring_c _ 10 (by omega) (by omega)) ?_
    set_option smartUnfolding false in conv => whnf
    rw [b1]
    set_option smartUnfolding false in conv => whnf
    refine ⟨_, hix, ?_⟩
    set_option smartUnfolding false in conv => whnf
    refine vd_pure (bring_c _ P (by omega) (by omega)) ?_
    set_option smartUnfolding false in conv => whnf
    rw [b2]
    set_option smartUnfolding false in conv => whnf
    refine vc_gc (e' := ek 5 (I12 k l j 0)) (h' := H12 (grO 3 (pts L) j) (grV 0 j) P b (m12Ts x.ts) 0) (p := fun b => bif Nat.beq b 1 then 8 else b) (gc8 _ ?_ (all8 (cln_ren (gr_cln hclL j) rfl) (one_blk ⟨_, rfl, renB_3 (.cl rfl) (.cl rfl) (.cl rfl)⟩) no_blk (one_blk ⟨_, rfl, renB_2 (gr_ren rfl (by omega) j) (.cl rfl)⟩) (one_blk ⟨_, rfl, renB_cl rfl rfl⟩) no_blk no_blk no_blk) (by decide) (by intro b hb; omega) (by omega)) ?_
    · exact ⟨⟨_, rfl, .cl (by simp [AV.cl, cl_pts])⟩, ⟨_, rfl, .ptr (by omega)⟩, ⟨_, rfl, .ptr (by omega)⟩, ⟨_, rfl, .cl rfl⟩, ⟨_, rfl, .ptr (by omega)⟩, ⟨_, rfl, .cl rfl⟩, trivial⟩
    refine inner12 k l j x P b hix hxs (grV 0 j) (grO 3 (pts L) j) (gr_cln hclL j) (fun p hp => gr_ren hp (by omega) j) ?_
    generalize m12Ts x.ts = T at *
    refine vc_frz [1, 2] (i := 5) (v' := .fp [.int .i64 P, .int .i64 b, .fz (growK T.length) (tks T)] 0) rfl (.ptr' (by simp) rfl (.cons (.clean rfl) (.cons (.clean rfl) (.cons (gr_frz (s := 8) hszT hclT (by simp) T.length (len_tks T).symm rfl) .nil)))) ?_
    refine vc_gc (e' := ek 5 [(0, .fz k (pts l)), (2, .ptr 4 0), (3, .ptr 3 0), (4, .int .i64 (j : Nat)), (5, .fp [.int .i64 P, .int .i64 b, .fz (growK T.length) (tks T)] 0), (6, .int .i64 (T.length : Nat))]) (h' := G12 L j) (p := id) (gc8 _ ?_ (all8 (cln_ren (gr_cln hclL j) rfl) no_blk no_blk (one_blk ⟨_, rfl, renB_2 (gr_ren rfl (by omega) j) (.cl rfl)⟩) (one_blk ⟨_, rfl, renB_cl rfl rfl⟩) no_blk no_blk no_blk) (by decide) (by intro b hb; omega) (by omega)) ?_
    · exact ⟨⟨_, rfl, .cl (by simp [AV.cl, cl_pts])⟩, ⟨_, rfl, .ptr (by omega)⟩, ⟨_, rfl, .ptr (by omega)⟩, ⟨_, rfl, .cl rfl⟩, ⟨_, rfl, .cl (by simp [AV.cl, clL, cl_tks])⟩, ⟨_, rfl, .cl rfl⟩, trivial⟩
    refine vc_loop (z := false) ?_
    unfold G12
    have hend : T.length < x.ts.length → T.length = 3 := by omega
    generalize hn : T.length = n at *
    set_option smartUnfolding false in conv => whnf
    refine ⟨_, hix, ?_⟩
    set_option smartUnfolding false in conv => whnf
    by_cases hlt : n < x.ts.length
    · have h3 := hend hlt
      refine brt (by rw [len_tks]; simp; omega) (fun hc => ?_)
      (try rw [hc])
      set_option smartUnfolding false in conv => whnf
      refine brf (by simp; omega) (fun hc => ?_)
      (try rw [hc])
      set_option smartUnfolding false in conv => whnf
      cases j with
      | zero =>
        refine ⟨_, _, app_nilsS (cs := [.int .i64 P, .int .i64 b, .fz (growK n) (tks T)]) (by omega) rfl rfl, ?_⟩
        set_option smartUnfolding false in conv => whnf
        refine ⟨trivial, fun b => bif Nat.beq b 0 then 9 else b, gc8 _ (slots12 rfl rfl rfl rfl rfl (inc_slot (j := 0) (by omega))) (all8 (one_blk ⟨_, rfl, renB_cl ?_ (flat_cl (cl_take hclL _))⟩) no_blk no_blk (one_blk ⟨_, rfl, renB_2 (.sl (by omega)) (.cl rfl)⟩) (one_blk ⟨_, rfl, renB_cl rfl rfl⟩) no_blk no_blk no_blk) (by decide) (by intro b hb; omega) (by omega)⟩
        show [.int .i64 P, .int .i64 b, .fz (growK n) (tks T)] = flatCells ((pts L).take (0 + 1))
        rw [htk, hT, hmk]
        rfl
      | succ j =>
        have hle : j + 1 ≤ L.length := by omega
        refine ⟨_, _, app_openS (cs := [.int .i64 P, .int .i64 b, .fz (growK n) (tks T)]) (vs := flatCells ((pts L).take (j + 1))) rfl (by rw [flat_size (size_take hszL _), List.length_take, len_pts, Nat.min_eq_left hle]) (by omega) (by omega) rfl rfl, ?_⟩
        set_option smartUnfolding false in conv => whnf
        refine ⟨trivial, fun b => bif Nat.beq b 0 then 9 else b, gc8 _ (slots12 rfl rfl rfl rfl rfl (inc_slot (j := j + 1) (by omega))) (all8 (one_blk ⟨_, rfl, renB_cl ?_ (flat_cl (cl_take hclL _))⟩) no_blk no_blk (one_blk ⟨_, rfl, renB_2 (.sl (by omega)) (.cl rfl)⟩) (one_blk ⟨_, rfl, renB_cl rfl rfl⟩) no_blk no_blk no_blk) (by decide) (by intro b hb; omega) (by omega)⟩
        show flatCells ((pts L).take (j + 1)) ++ [.int .i64 P, .int .i64 b, .fz (growK n) (tks T)] = flatCells ((pts L).take (j + 1 + 1))
        rw [htk, htk, hT, hmk, pts, pts, List.map_append, flat_app]
        rfl
    · refine brf (by rw [len_tks]; simp; omega) (fun hc => ?_)
      (try rw [hc])
      set_option smartUnfolding false in conv => whnf
      cases j with
      | zero =>
        refine ⟨_, _, app_nilsS (cs := [.int .i64 P, .int .i64 b, .fz (growK n) (tks T)]) (by omega) rfl rfl, ?_⟩
        set_option smartUnfolding false in conv => whnf
        refine ⟨trivial, fun b => bif Nat.beq b 0 then 9 else b, gc8 _ (slots12 rfl rfl rfl rfl rfl (inc_slot (j := 0) (by omega))) (all8 (one_blk ⟨_, rfl, renB_cl ?_ (flat_cl (cl_take hclL _))⟩) no_blk no_blk (one_blk ⟨_, rfl, renB_2 (.sl (by omega)) (.cl rfl)⟩) (one_blk ⟨_, rfl, renB_cl rfl rfl⟩) no_blk no_blk no_blk) (by decide) (by intro b hb; omega) (by omega)⟩
        show [.int .i64 P, .int .i64 b, .fz (growK n) (tks T)] = flatCells ((pts L).take (0 + 1))
        rw [htk, hT, hmk]
        rfl
      | succ j =>
        have hle : j + 1 ≤ L.length := by omega
        refine ⟨_, _, app_openS (cs := [.int .i64 P, .int .i64 b, .fz (growK n) (tks T)]) (vs := flatCells ((pts L).take (j + 1))) rfl (by rw [flat_size (size_take hszL _), List.length_take, len_pts, Nat.min_eq_left hle]) (by omega) (by omega) rfl rfl, ?_⟩
        set_option smartUnfolding false in conv => whnf
        refine ⟨trivial, fun b => bif Nat.beq b 0 then 9 else b, gc8 _ (slots12 rfl rfl rfl rfl rfl (inc_slot (j := j + 1) (by omega))) (all8 (one_blk ⟨_, rfl, renB_cl ?_ (flat_cl (cl_take hclL _))⟩) no_blk no_blk (one_blk ⟨_, rfl, renB_2 (.sl (by omega)) (.cl rfl)⟩) (one_blk ⟨_, rfl, renB_cl rfl rfl⟩) no_blk no_blk no_blk) (by decide) (by intro b hb; omega) (by omega)⟩
        show flatCells ((pts L).take (j + 1)) ++ [.int .i64 P, .int .i64 b, .fz (growK n) (tks T)] = flatCells ((pts L).take (j + 1 + 1))
        rw [htk, htk, hT, hmk, pts, pts, List.map_append, flat_app]
        rfl
  · intro _
    have hlast : ∀ g : Heap, g.get 0 = grO 3 (pts (m12Ps l)) (m12Ps l).length → Q (.agg [grV 0 (m12Ps l).length, .nils]) g := by
      subst hQ
      intro g hg
      exact .agg' (.cons (gr_frz (s := 3) (size_pts _) (cl_pts _) trivial _ (len_pts _).symm hg) (.cons (.clean rfl) .nil))
    clear hQ
    have hVf : (grV 0 (m12Ps l).length).flat = true := by cases (m12Ps l).length <;> rfl
    unfold N12 G12
    generalize grO 3 (pts (m12Ps l)) (m12Ps l).length = O at *
    generalize grV 0 (m12Ps l).length = V at *
    have hst : (true && flatL [V, .nils]) = true := by
      show cond V.flat true false = true
      rw [hVf]
      rfl
    generalize (m12Ps l).length = n at *
    by_cases hn : n < l.length
    · have hn4 : n = 4 := by omega
      set_option smartUnfolding false in conv => whnf
      refine brt (by rw [len_pts]; simp; omega) (fun hc => ?_)
      (try rw [hc])
      set_option smartUnfolding false in conv => whnf
      refine brf (by simp; omega) (fun hc => ?_)
      (try rw [hc])
      set_option smartUnfolding false in conv => whnf
      refine brT hst ?_
      set_option smartUnfolding false in conv => whnf
      exact hlast _ rfl
    · set_option smartUnfolding false in conv => whnf
      refine brf (by rw [len_pts]; simp; omega) (fun hc => ?_)
      (try rw [hc])
      set_option smartUnfolding false in conv => whnf
      refine brT hst ?_
      set_option smartUnfolding false in conv => whnf
      exact hlast _ rfl
end Ir
end Go.Proofs.Ytecdcefacdodgaa
