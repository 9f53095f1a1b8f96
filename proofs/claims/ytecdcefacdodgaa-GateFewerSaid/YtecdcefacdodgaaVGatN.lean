/-
  Gate: who is in.
-/
import Derived.Test.YtecdcefacdodgaaVGatM
set_option maxRecDepth 100000
set_option linter.unusedSimpArgs false
set_option linter.unusedVariables false
namespace Go.Proofs.Ytecdcefacdodgaa
open Go Ads
namespace Ir

def whoB (n : Int) (i : Nat) : Bool := IntKind.i64.wrap ((BitVec.ofInt 64 (n.fdiv (2 ^ (min i 64))) &&& BitVec.ofInt 64 1).toNat : Int) == 1
def whoL (n : Int) (m : Nat) : List Bool := (List.range m).map (whoB n)
theorem whoL_len (n : Int) (m : Nat) : (whoL n m).length = m := by simp [whoL]
theorem shr_any (n : Int) (i : Nat) : pV (.bin .shr) [.int .i64 n, .int .i64 (i : Nat)] = some (.int .i64 (n.fdiv (2 ^ (min i 64)))) := by
  simp only [pV, pIF, l2, binF, dInt, isShift, cond_true, binShift]
  rw [decide_eq_false (by omega)]
  rfl
def whoE (k : Nat) (L : List Pt) (n : Int) (j : Nat) : List (Nat × AV) := [(1, .int .i64 n), (2, .fp [.fz k (pts L), .nils] 0), (5, grV 0 j), (6, .int .i64 ((j : Nat) : Int))]
theorem bls_take (l : List Bool) (n : Nat) : (bls l).take n = bls (l.take n) := by simp [bls, List.map_take]

theorem who_c (k : Nat) (L : List Pt) (n : Int) (hs : Small L) (hl : L.length ≤ 1000) : PC fs ms f_escapementlaw12_who [cfg k L, .int .i64 n] (.fz (growK L.length) (bls (whoL n L.length))) := by
  refine ⟨by simp [clL, cl_cfg, AV.cl], by simp [AV.cl, cl_bls], ?_⟩
  refine vd_begin (af := C_escapementlaw12_who) rfl (Nat.le_of_ble_eq_true rfl) ?_
  generalize hQ : (fun (u : AV) (g : Heap) => Frz (fun _ => True) g u (.fz (growK L.length) (bls (whoL n L.length)))) = Q
  set_option smartUnfolding false in conv => whnf
  refine vc_seq false ?_
  set_option smartUnfolding false in conv => whnf
  refine vc_frz [0] (i := 2) (v' := .fp [.fz k (pts L), .nils] 0) rfl (.ptr' (by simp) rfl (.clean (by simp [cfg, AV.cells, clL, AV.cl, cl_pts]))) ?_
  refine vc_to0 5 [(1, .int .i64 n), (2, .fp [.fz k (pts L), .nils] 0)] ?_ ?_
  · exact ⟨⟨_, rfl, .cl rfl⟩, ⟨_, rfl, .cl (by simp [AV.cl, clL, cl_pts])⟩, trivial⟩
  refine vpC_sound (z := false) ?_
  have hWl := whoL_len n L.length
  have hWg : ∀ j, j < L.length → (whoL n L.length).take (j + 1) = (whoL n L.length).take j ++ [whoB n j] := by
    intro j hj
    rw [take_next (by rw [hWl]; exact hj)]
    simp [whoL]
  generalize whoL n L.length = W at *
  have hclW := cl_bls W
  have hszW := size_bls W
  set_option smartUnfolding false in conv => whnf
  refine vc_gc (e' := ek 5 (whoE k L n 0)) (h' := H3 (grO 1 (bls W) 0) none none) (p := id) (gc3 id ⟨⟨_, rfl, .cl rfl⟩, ⟨_, rfl, .cl (by simp [AV.cl, clL, cl_pts])⟩, ⟨_, rfl, .cl rfl⟩, ⟨_, rfl, .cl rfl⟩, trivial⟩ no_blk no_blk no_blk (by decide) (by decide) (by decide) (by intro b hb; rfl) (Nat.zero_le _)) ?_
  show VC fs ms 0 false _ _ _ _
  refine for_rowH 0 5 L.length (fun _ => True) (whoE k L n) (fun j => H3 (grO 1 (bls W) j) none none) (fun j hj _ => ?_) (fun _ => ?_) trivial
  · have hT := hWg j hj
    unfold whoE
    set_option smartUnfolding false in conv => whnf
    refine brt (by rw [len_pts]; simp; omega) (fun hc => ?_)
    (try rw [hc])
    set_option smartUnfolding false in conv => whnf
    refine ⟨_, shr_any n j, ?_⟩
    cases j with
    | zero =>
      set_option smartUnfolding false in conv => whnf
      refine ⟨_, _, app_nilsS (cs := [.bool (whoB n 0)]) (by omega) rfl rfl, ?_⟩
      set_option smartUnfolding false in conv => whnf
      refine ⟨trivial, fun b => bif Nat.beq b 0 then 4 else b, gc3 _ ⟨⟨_, rfl, .cl rfl⟩, ⟨_, rfl, .cl (by simp [AV.cl, clL, cl_pts])⟩, ⟨_, rfl, .sl (by omega)⟩, ⟨_, inc_slot (j := 0) (by omega), .cl rfl⟩, trivial⟩ (one_blk ⟨_, rfl, renB_cl ?_ (flat_cl (cl_take hclW _))⟩) no_blk no_blk (by decide) (by decide) (by decide) (by intro b hb; omega) (by omega)⟩
      show [AV.bool (whoB n 0)] = flatCells ((bls W).take (0 + 1))
      rw [bls_take, hT]
      rfl
    | succ j =>
      set_option smartUnfolding false in conv => whnf
      refine ⟨_, _, app_openS (cs := [.bool (whoB n (j + 1))]) (vs := flatCells ((bls W).take (j + 1))) rfl (by rw [flat_size (size_take hszW _), List.length_take, len_bls]; omega) (by omega) (by omega) rfl rfl, ?_⟩
      set_option smartUnfolding false in conv => whnf
      refine ⟨trivial, fun b => bif Nat.beq b 0 then 4 else b, gc3 _ ⟨⟨_, rfl, .cl rfl⟩, ⟨_, rfl, .cl (by simp [AV.cl, clL, cl_pts])⟩, ⟨_, rfl, .sl (by omega)⟩, ⟨_, inc_slot (j := j + 1) (by omega), .cl rfl⟩, trivial⟩ (one_blk ⟨_, rfl, renB_cl ?_ (flat_cl (cl_take hclW _))⟩) no_blk no_blk (by decide) (by decide) (by decide) (by intro b hb; omega) (by omega)⟩
      show flatCells ((bls W).take (j + 1)) ++ [AV.bool (whoB n (j + 1))] = flatCells ((bls W).take (j + 1 + 1))
      rw [bls_take, bls_take, hT, bls, bls, List.map_append, flat_app]
      rfl
  · have hlast : Q (grV 0 L.length) (H3 (grO 1 (bls W) L.length) none none) := by
      subst hQ
      exact gr_frz (s := 1) hszW hclW trivial _ (by rw [len_bls, hWl]) rfl
    clear hQ
    unfold whoE
    generalize H3 (grO 1 (bls W) L.length) none none = G at *
    generalize grV 0 L.length = V at *
    set_option smartUnfolding false in conv => whnf
    refine brf (by rw [len_pts]; simp) (fun hc => ?_)
    (try rw [hc])
    set_option smartUnfolding false in conv => whnf
    exact hlast
end Ir
end Go.Proofs.Ytecdcefacdodgaa
