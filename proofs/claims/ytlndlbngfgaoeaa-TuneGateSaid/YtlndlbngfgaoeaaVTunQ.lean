/-
  Tune: partitions that are given budgets. Tune: what all need. Tune: what a test hangs on. Tune: all with what they need pass the gate.
-/
import Derived.Test.YtlndlbngfgaoeaaVTunG
import Derived.Test.YtlndlbngfgaoeaaVGat
import Derived.Test.YtlndlbngfgaoeaaZA
set_option maxRecDepth 100000
set_option linter.unusedSimpArgs false
set_option linter.unusedVariables false
namespace Go.Proofs.Ytlndlbngfgaoeaa
open Go Ads
namespace Ir

theorem cloneT_c (ts : List Tk) (h : ts.length ≤ 1000) : PC fs ms f_slices_Clone_api_Task_api_Task [.fz (growK ts.length) (tks ts)] (.fz (growK ts.length) (tks ts)) := by
 refine ⟨by simp [clL, AV.cl, cl_tks], by simp [AV.cl, cl_tks], ?_⟩
 refine vd_start (af := C_slices_Clone_api_Task_api_Task) false rfl (Nat.le_of_ble_eq_true rfl) ?_
 cases ts with
 | nil =>
  conv => whnf
  exact .nils
 | cons t0 tr =>
  generalize hQ : (fun (u : AV) (g : Heap) => Frz (fun _ => True) g u (.fz (growK (t0 :: tr).length) (tks (t0 :: tr)))) = Q
  conv => whnf
  refine ⟨_, _, app_lit (s := 8) (bytes := 64) (n := tr.length) rfl (by omega) (by simp at h; omega) ((src_fz (k := 0) (size_tks (t0 :: tr))).trans (by rw [len_tks]; rfl)) (flat_tks (t0 :: tr)), ?_⟩
  conv => whnf
  subst hQ
  exact frz_open (s := 8) trivial rfl rfl (size_tks _) (by rw [len_tks]; rfl) (cl_tks _)

def budL (L : List Pt) (bs : List Int) : Nat → List Pt
 | 0 => L
 | j + 1 => setB (budL L bs j) j (bs.getD j 0)
theorem budL_len (L : List Pt) (bs : List Int) : ∀ j, j ≤ L.length → (budL L bs j).length = L.length
 | 0, _ => rfl
 | j + 1, h => by rw [budL, setB_len (by rw [budL_len L bs j (by omega)]; omega), budL_len L bs j (by omega)]
def Kinds (L : List Pt) : Prop := ∀ x, x ∈ L → x.k = growK x.ts.length ∧ x.ts.length ≤ 1000
theorem kinds_setB {L : List Pt} {i : Nat} {b : Int} (h : Kinds L) (hi : i < L.length) : Kinds (setB L i b) := by
 intro x hx
 rw [setB_eq hi] at hx
 rcases List.mem_or_eq_of_mem_set hx with h1 | h1
 ·exact h x h1
 ·rw [h1]; exact h L[i] (List.getElem_mem hi)
theorem kinds_budL {L : List Pt} {bs : List Int} (h : Kinds L) : ∀ j, j ≤ L.length → Kinds (budL L bs j)
 | 0, _ => h
 | j + 1, hj => kinds_setB (kinds_budL h j (by omega)) (by rw [budL_len L bs j (by omega)]; omega)
theorem pts_at {l : List Pt} {i : Nat} (h : i < l.length) (r : Nat) (c : AV) (hr : (pt l[i]).cells[r]? = some c) : (flatCells (pts l))[i * 3 + r]? = some c := by
 refine flat_at (size_pts l) (x := pt l[i]) ?_ hr
 rw [pts, List.getElem?_map, List.getElem?_eq_getElem h]
 rfl
theorem set_same {α : Type} {l : List α} {o : Nat} {x : α} (h : l[o]? = some x) : l.set o x = l := by
 refine List.ext_getElem? fun i => ?_
 rw [List.getElem?_set]
 split
 ·rename_i he
  subst he
  rw [h]
  have := (List.getElem?_eq_some_iff.1 h).1
  simp [this]
 ·rfl
theorem splice_ts {l : List Pt} {i : Nat} (h : i < l.length) : Heap.splice (flatCells (pts l)) (i * 3 + 2) [.fz l[i].k (tks l[i].ts)] = flatCells (pts l) := by
 rw [splice_at _ _ _ (by rw [flat_size (size_pts l), len_pts]; omega)]
 exact set_same (pts_at h 2 _ rfl)

def withE (kb n : Nat) (bs : List Int) (j : Nat) : List (Nat × AV) := [(1, .fz kb (ints bs)), (6, .sl 0 0 n n true), (16, .int .i64 (n : Nat)), (17, .int .i64 ((j : Nat) : Int))]
def withH (C : List AV) : Heap := H3 (some (.cells C true 3)) none none
theorem ren_with {kb n j b : Nat} {bs : List Int} {C : List AV} {e1 : Env} {h1 : Heap} {p : Nat → Nat} (hcl : clL C = true) (p01 : p 0 ≠ p 1) (p02 : p 0 ≠ p 2) (p12 : p 1 ≠ p 2) (hp : p 0 = b) (e0 : Tr.get e1 1 = some (.fz kb (ints bs))) (e6 : Tr.get e1 6 = some (.sl b 0 n n true)) (e16 : Tr.get e1 16 = some (.int .i64 (n : Nat)))
  (e17 : Tr.get e1 17 = some (.int .i64 ((j : Nat) : Int))) (g0 : h1.get b = some (.cells C true 3)) : GC 0 p e1 h1 (ek 5 (withE kb n bs j)) (withH C) := by
 subst hp
 exact gc3 p ⟨⟨_, e0, .cl (by simp [AV.cl, cl_ints])⟩, ⟨_, e6, .sl (by omega)⟩, ⟨_, e16, .cl rfl⟩, ⟨_, e17, .cl rfl⟩, trivial⟩ (one_blk ⟨_, g0, renB_cl rfl hcl⟩) no_blk no_blk p01 p02 p12 (by intro b hb; omega) (by omega)

theorem with_c (k kb : Nat) (L : List Pt) (bs : List Int) (hs : Small L) (hk : Nat.beq k 3 = false) (hK : Kinds L) (h1 : 1 ≤ L.length) (hl : L.length ≤ 1000) (hb : bs.length = L.length) :
  PC fs ms f_tune_With [.fz k (pts L), .fz kb (ints bs)] (.tup [.fz 0 (pts (budL L bs L.length)), .int .i64 0]) := by
 refine ⟨by simp [clL, AV.cl, cl_pts, cl_ints], by simp [AV.cl, clL, cl_pts], ?_⟩
 refine vd_start (af := C_tune_With) false rfl (Nat.le_of_ble_eq_true rfl) ?_
 generalize hQ : (fun (u : AV) (g : Heap) => Frz (fun _ => True) g u (.tup [.fz 0 (pts (budL L bs L.length)), .int .i64 0])) = Q
 obtain ⟨n, hn⟩ : ∃ n, L.length = n + 1 := ⟨L.length - 1, by omega⟩
 conv => whnf
 refine brf (by rw [len_pts, len_ints, hb]; simp) (fun hc => ?_)
 (try rw [hc])
 conv => whnf
 refine vd_start (af := C_slices_Clone_api_Part_api_Part) false rfl (Nat.le_of_ble_eq_true rfl) ?_
 conv => whnf
 refine brf (hk) (fun hc => ?_)
 (try rw [hc])
 conv => whnf
 refine ⟨_, _, app_lit (s := 3) (bytes := 40) (n := n) rfl (by omega) (by omega) ((src_fz (k := k) (size_pts L)).trans (by rw [len_pts, hn])) (flat_pts L), ?_⟩
 conv => whnf
 refine vc_gc (ren_with (p := fun b => bif Nat.beq b 0 then 1 else bif Nat.beq b 1 then 0 else b) (b := 1) (n := n + 1) (j := 0) (C := flatCells (pts (budL L bs 0))) (kb := kb) (bs := bs) (flat_cl (cl_pts _)) (by decide) (by decide) (by decide) rfl rfl rfl rfl rfl rfl) ?_
 refine for_rowL 0 5 (n + 1) (fun _ => True) (withE kb (n + 1) bs) (fun j => withH (flatCells (pts (budL L bs j)))) (fun j hj _ => ?_) (fun _ => ?_) trivial
 ·have hjb : j < bs.length := by omega
  have hMl := budL_len L bs j (by omega)
  have hMk := kinds_budL (bs := bs) hK j (by omega)
  have hnx : budL L bs (j + 1) = setB (budL L bs j) j (bs.getD j 0) := rfl
  have hib := idx_int (l := bs) (j := j) (k := kb) hjb
  have hgd : bs.getD j 0 = bs[j] := by rw [List.getD_eq_getElem?_getD, List.getElem?_eq_getElem hjb]; rfl
  rw [hgd] at hnx
  generalize budL L bs (j + 1) = M' at *
  generalize budL L bs j = M at *
  generalize bs[j] = b at *
  have hjM : j < M.length := by omega
  have hsp := splice_bud hjM b
  rw [← hnx] at hsp
  have hM'l : M'.length = n + 1 := by rw [hnx, setB_len hjM]; omega
  have hjM' : j < M'.length := by omega
  have hM'k : Kinds M' := by rw [hnx]; exact kinds_setB hMk hjM
  have hld := pts_at hjM' 2 _ rfl
  have hst := splice_ts hjM'
  have hcl := (hM'k M'[j] (List.getElem_mem hjM'))
  have hclone := cloneT_c M'[j].ts hcl.2
  rw [← hcl.1] at hclone
  generalize M'[j] = y at *
  have hlenC : (flatCells (pts M)).length = (n + 1) * 3 := by rw [flat_size (size_pts _), len_pts]; omega
  have hlenC' : (flatCells (pts M')).length = (n + 1) * 3 := by rw [flat_size (size_pts _), len_pts]; omega
  have hclC := flat_cl (cl_pts M')
  generalize flatCells (pts M) = C at *
  generalize flatCells (pts M') = C' at *
  show vpC fs ms 0 false false _ (ek 5 [(1, .fz kb (ints bs)), (6, .sl 0 0 (n + 1) (n + 1) true), (16, .int .i64 ((n + 1 : Nat) : Int)), (17, .int .i64 ((j : Nat) : Int))]) ⟨3, .node (.node .nil none .nil) (some (.cells C true 3)) (.node .nil none .nil)⟩ _
  conv => whnf
  refine brt (by simp; omega) (fun hc => ?_)
  (try rw [hc])
  conv => whnf
  refine ⟨_, hib, ?_⟩
  conv => whnf
  refine ⟨_, idx_slS (by omega), ?_⟩
  conv => whnf
  refine brT (by show (Nat.ble (j * 3 + 1 + 1) C.length && true) = true; rw [hlenC, Bool.and_true]; exact Nat.ble_eq_true_of_le (by omega)) ?_
  conv => whnf
  refine ⟨_, idx_slS (by omega), ?_⟩
  conv => whnf
  rw [show Heap.splice C (j * 3 + 1) (AV.int .i64 b).cells = C' from hsp]
  refine op_some (ld1 rfl hld) ?_
  conv => whnf
  refine vd_pure hclone ?_
  conv => whnf
  refine ⟨_, idx_slS (by omega), ?_⟩
  conv => whnf
  refine brT (by show (Nat.ble (j * 3 + 2 + 1) C'.length && true) = true; rw [hlenC', Bool.and_true]; exact Nat.ble_eq_true_of_le (by omega)) ?_
  conv => whnf
  rw [show Heap.splice C' (j * 3 + 2) (AV.fz y.k (tks y.ts)).cells = C' from hst]
  refine ⟨trivial, id, ?_⟩
  exact ren_with (p := id) (b := 0) (n := n + 1) (j := j + 1) hclC (by decide) (by decide) (by decide) rfl rfl rfl rfl (inc_slot (by omega)) rfl
 ·refine vc_loop (z := false) ?_
  have hfin := budL_len L bs (n + 1) (by omega)
  rw [hn] at hQ
  generalize budL L bs (n + 1) = M at *
  have hcl := cl_pts M
  have hsz := size_pts M
  have hln := len_pts M
  obtain ⟨C, hC⟩ : ∃ C, flatCells (pts M) = C := ⟨_, rfl⟩
  rw [hC]
  show vpC fs ms 0 false false _ (ek 5 [(1, .fz kb (ints bs)), (6, .sl 0 0 (n + 1) (n + 1) true), (16, .int .i64 ((n + 1 : Nat) : Int)), (17, .int .i64 ((n + 1 : Nat) : Int))]) ⟨3, .node (.node .nil none .nil) (some (.cells C true 3)) (.node .nil none .nil)⟩ _
  conv => whnf
  refine brf (by simp) (fun hc => ?_)
  (try rw [hc])
  conv => whnf
  subst hQ
  exact .tup' (.cons (frz_open (s := 3) trivial rfl hC.symm hsz (by rw [hln]; omega) hcl) (.cons (.clean rfl) .nil))
end Ir
end Go.Proofs.Ytlndlbngfgaoeaa
set_option maxRecDepth 100000
set_option linter.unusedSimpArgs false
set_option linter.unusedVariables false
namespace Go.Proofs.Ytlndlbngfgaoeaa
open Go Ads
namespace Ir

theorem need0_c (k : Nat) (l : List Pt) (i : Nat) (p : Int) (hs : Small l) (hi : i < l.length) (hk : Nat.beq k 3 = false) (hl : l.length ≤ 1000) (hp : p < 1) : PC fs ms f_tune_need [.fz k (pts l), .int .i64 (i : Nat), .int .i64 p] (.int .i64 0) := by
 refine pc_of (by simp [clL, AV.cl, cl_pts]) rfl ?_
 refine vd_start (af := C_tune_need) false rfl (Nat.le_of_ble_eq_true rfl) ?_
 generalize hQ : (fun (v : AV) (_ : Heap) => v = .int .i64 0) = Q
 obtain ⟨n, hn⟩ : ∃ n, l.length = n + 1 := ⟨l.length - 1, by omega⟩
 have hlenC : (flatCells (pts l)).length = (n + 1) * 3 := by rw [flat_size (size_pts _), len_pts, hn]
 conv => whnf
 refine vd_start (af := C_slices_Clone_api_Part_api_Part) false rfl (Nat.le_of_ble_eq_true rfl) ?_
 conv => whnf
 refine brf (hk) (fun hc => ?_)
 (try rw [hc])
 conv => whnf
 refine ⟨_, _, app_lit (s := 3) (bytes := 40) (n := n) rfl (by omega) (by omega) ((src_fz (k := k) (size_pts l)).trans (by rw [len_pts, hn])) (flat_pts l), ?_⟩
 conv => whnf
 refine ⟨_, idx_slS (by omega), ?_⟩
 conv => whnf
 refine brT (by show (Nat.ble (i * 3 + 0 + 1) (flatCells (pts l)).length && true) = true; rw [hlenC, Bool.and_true]; exact Nat.ble_eq_true_of_le (by omega)) ?_
 conv => whnf
 have hmn : (bif decide (64 < p) then (64 : Int) else p) = p := by rw [decide_eq_false (by omega), cond_false]
 rw [hmn]
 refine vc_loop (z := false) ?_
 conv => whnf
 refine brf (by simp; omega) (fun hc => ?_)
 (try rw [hc])
 conv => whnf
 subst hQ
 rfl

theorem needS_neg {l : List Pt} {i : Nat} {p : Int} (hp : p < 1) : needS l i p = 0 := by
 unfold needS
 rw [show (min p 64).toNat = 0 by omega]
 rfl

theorem NeedA_c (k : Nat) (l : List Pt) (i : Nat) (hs : Small l) (hi : i < l.length) (hk : Nat.beq k 3 = false) (hl : l.length ≤ 1000) : PC fs ms f_tune_Need [.fz k (pts l), .int .i64 (i : Nat)] (pairI (NeedS l i l[i].per)) := by
 by_cases hp : 1 ≤ l[i].per
 ·exact Need_c k l i hs hi hk hl hp
 refine pc_of (by simp [clL, AV.cl, cl_pts]) rfl ?_
 refine vd_start (af := C_tune_Need) false rfl (Nat.le_of_ble_eq_true rfl) ?_
 generalize hQ : (fun (v : AV) (_ : Heap) => v = pairI (NeedS l i l[i].per)) = Q
 have hix := idx_pt (k := k) hi
 have hn := need0_c k l i l[i].per hs hi hk hl (by omega)
 have hN : NeedS l i l[i].per = (0, 120) := by rw [NeedS, needS_neg (by omega), if_pos rfl]
 generalize l[i] = x at *
 conv => whnf
 refine vd_pure (there_c k l i hi) ?_
 conv => whnf
 refine ⟨_, hix, ?_⟩
 conv => whnf
 refine vd_pure hn ?_
 conv => whnf
 subst hQ
 rw [hN]
 rfl

def perAt (L : List Pt) (i : Nat) : Int := match L[i]? with
 | some x => x.per
 | none => 0
theorem perAt_eq {L : List Pt} {i : Nat} (h : i < L.length) : perAt L i = L[i].per := by rw [perAt, List.getElem?_eq_getElem h]
def ndL (L : List Pt) (j : Nat) : List Int := (List.range j).map fun i => needS L i (perAt L i)
theorem ndL_len (L : List Pt) (j : Nat) : (ndL L j).length = j := by simp [ndL]
theorem ndL_next (L : List Pt) (j : Nat) : ndL L (j + 1) = ndL L j ++ [needS L j (perAt L j)] := by simp [ndL, List.range_succ]
theorem ndL_get (L : List Pt) {i j : Nat} (h : i < j) : (ndL L j)[i]'(by rw [ndL_len]; exact h) = needS L i (perAt L i) := by simp [ndL]
theorem ndL_take (L : List Pt) {i j : Nat} (h : i ≤ j) : (ndL L j).take i = ndL L i := by
 simp only [ndL, ← List.map_take, List.take_range]
 rw [Nat.min_eq_left h]

theorem ints_take (l : List Int) (n : Nat) : (ints l).take n = ints (l.take n) := by simp [ints, List.map_take]
def noNeed (L : List Pt) (i : Nat) : Bool := needS L i (perAt L i) == 0
def needed (L : List Pt) : List Pt := budL L (ndL L L.length) L.length
def NeedsE (L : List Pt) : Int := if L.length = 0 ∨ 4 < L.length then 2 else match firstBad (noNeed L) 0 L.length with
 | some _ => 120
 | none => if shareT (needed L) = 0 then 0 else 120
def NeedsV (L : List Pt) : AV := if NeedsE L = 0 then .fz 0 (ints (ndL L L.length)) else .nils

def ndsE (k n : Nat) (L : List Pt) (j : Nat) : List (Nat × AV) := [(0, .fz k (pts L)), (2, grV 0 j), (17, .int .i64 (n : Nat)), (18, .int .i64 ((j : Nat) : Int))]
def ndsH (ns : List Int) (j : Nat) : Heap := H3 (grO 1 (ints ns) j) none none

theorem needs_c (k : Nat) (L : List Pt) (hs : Small L) (hK : Kinds L) (hk : 1 ≤ L.length → Nat.beq k 3 = false) : PC fs ms f_tune_Needs [.fz k (pts L)] (.tup [NeedsV L, .int .i64 (NeedsE L)]) := by
 refine ⟨by simp [clL, AV.cl, cl_pts], by unfold NeedsV; split <;> simp [AV.cl, clL, cl_ints], ?_⟩
 refine vd_begin (af := C_tune_Needs) rfl (Nat.le_of_ble_eq_true rfl) ?_
 generalize hQ : (fun (u : AV) (g : Heap) => Frz (fun _ => True) g u (.tup [NeedsV L, .int .i64 (NeedsE L)])) = Q
 have hbad : ∀ e : Int, e ≠ 0 → NeedsE L = e → ∀ g, Q (.tup [.nils, .int .i64 e]) g := by
  intro e he h g
  subst hQ
  show Frz _ g _ _
  rw [NeedsV, h, if_neg he]
  exact .clean rfl
 have hgood : NeedsE L = 0 → ∀ g u, Frz (fun _ => True) g u (.fz 0 (ints (ndL L L.length))) → Q (.tup [u, .int .i64 0]) g := by
  intro h g u hu
  subst hQ
  show Frz _ g _ _
  rw [NeedsV, h, if_pos rfl]
  exact .tup' (.cons hu (.cons (.clean rfl) .nil))
 have hE : NeedsE L = if L.length = 0 ∨ 4 < L.length then 2 else match firstBad (noNeed L) 0 L.length with
  | some _ => 120
  | none => if shareT (needed L) = 0 then 0 else 120 := rfl
 clear hQ
 conv => whnf
 refine vc_seq false ?_
 conv => whnf
 refine vc_seq false ?_
 conv => whnf
 by_cases h0 : L.length = 0
 ·refine brt (by rw [len_pts, h0]; rfl) (fun hc => ?_)
  (try rw [hc])
  conv => whnf
  exact hbad 2 (by decide) (by rw [hE, if_pos (.inl h0)]) _
 refine brf (by rw [len_pts]; exact beq_eq_false_iff_ne.2 (by omega)) (fun hc => ?_)
 (try rw [hc])
 conv => whnf
 by_cases h4 : 4 < L.length
 ·refine brt (by rw [len_pts]; simp; omega) (fun hc => ?_)
  (try rw [hc])
  conv => whnf
  exact hbad 2 (by decide) (by rw [hE, if_pos (.inr h4)]) _
 refine brf (by rw [len_pts]; simp; omega) (fun hc => ?_)
 (try rw [hc])
 conv => whnf
 rw [if_neg (by omega)] at hE
 have hk := hk (by omega)
 refine vc_seqV ?_
 refine vc_seq false ?_
 conv => whnf
 refine vc_block ?_
 rw [len_pts]
 show VC fs ms 0 false _ _ _ _
 refine vc_gc (e' := ek 5 (ndsE k L.length L 0)) (h' := ndsH (ndL L L.length) 0) (p := id) (gc3 id ⟨⟨_, rfl, .cl (by simp [AV.cl, cl_pts])⟩, ⟨_, rfl, .cl rfl⟩, ⟨_, rfl, .cl rfl⟩, ⟨_, rfl, .cl rfl⟩, trivial⟩ no_blk no_blk no_blk (by decide) (by decide) (by decide) (by intro b hb; omega) (by omega)) ?_
 have hbody : ∀ (K : AX → Env → Heap → Prop) j, j < L.length → (noNeed L j = false → ∀ e1 h1 p, GC 0 p e1 h1 (ek 5 (ndsE k L.length L (j + 1))) (ndsH (ndL L L.length) (j + 1)) → K .normal e1 h1) → (noNeed L j = true → ∀ e1 h1, resAllV e1 h1 C_tune_Needs.results = some [.nils, .int .i64 120] → K .ret e1 h1) →
   vpC fs ms 0 false false L_tune_Needs_0 (ek 5 (ndsE k L.length L j)) (ndsH (ndL L L.length) j) K := by
  intro K j hj k1 k2
  have hneed := NeedA_c k L j hs hj hk (by omega)
  rw [← perAt_eq hj] at hneed
  have hin := needS_in L j (perAt L j)
  have hb : noNeed L j = (needS L j (perAt L j) == 0) := rfl
  have htk : (ndL L L.length).take (j + 1) = (ndL L L.length).take j ++ [needS L j (perAt L j)] := by rw [ndL_take L (by omega), ndL_take L (by omega), ndL_next]
  have hNl := ndL_len L L.length
  unfold NeedS at hneed
  generalize needS L j (perAt L j) = m at *
  generalize ndL L L.length = N at *
  generalize hn : L.length = n at *
  unfold ndsE ndsH
  by_cases h0 : m = 0
  ·rw [if_pos h0] at hneed
   conv => whnf
   refine brt (by simp; omega) (fun hc => ?_)
   (try rw [hc])
   conv => whnf
   refine vd_pure (v := .tup [.int .i64 0, .int .i64 120]) hneed ?_
   conv => whnf
   exact k2 (by rw [hb, h0]; rfl) _ _ rfl
  ·rw [if_neg h0] at hneed
   cases j with
   | zero =>
    conv => whnf
    refine brt (by simp; omega) (fun hc => ?_)
    (try rw [hc])
    conv => whnf
    refine vd_pure (v := .tup [.int .i64 m, .int .i64 0]) hneed ?_
    conv => whnf
    refine ⟨_, _, app_nilsS (cs := [.int .i64 m]) (by omega) rfl rfl, ?_⟩
    conv => whnf
    refine k1 (by rw [hb]; exact beq_eq_false_iff_ne.2 h0) _ _ (fun b => bif Nat.beq b 0 then 4 else b) (gc3 _ ⟨⟨_, rfl, .cl (by simp [AV.cl, cl_pts])⟩, ⟨_, rfl, .sl (by omega)⟩, ⟨_, rfl, .cl rfl⟩, ⟨_, inc_slot (j := 0) (by omega), .cl rfl⟩, trivial⟩ (one_blk ⟨_, rfl, renB_cl ?_ (flat_cl (cl_take (cl_ints N) _))⟩) no_blk no_blk (by decide) (by decide) (by decide) (by intro b hb; omega) (by omega))
    show [AV.int .i64 m] = flatCells ((ints N).take (0 + 1))
    rw [ints_take, htk]
    rfl
   | succ j =>
    conv => whnf
    refine brt (by simp; omega) (fun hc => ?_)
    (try rw [hc])
    conv => whnf
    refine vd_pure (v := .tup [.int .i64 m, .int .i64 0]) hneed ?_
    conv => whnf
    refine ⟨_, _, app_openS (cs := [.int .i64 m]) (vs := flatCells ((ints N).take (j + 1))) rfl (by rw [flat_size (size_take (size_ints N) _), List.length_take, len_ints]; omega) (by omega) (by omega) rfl rfl, ?_⟩
    conv => whnf
    refine k1 (by rw [hb]; exact beq_eq_false_iff_ne.2 h0) _ _ (fun b => bif Nat.beq b 0 then 4 else b) (gc3 _ ⟨⟨_, rfl, .cl (by simp [AV.cl, cl_pts])⟩, ⟨_, rfl, .sl (by omega)⟩, ⟨_, rfl, .cl rfl⟩, ⟨_, inc_slot (j := j + 1) (by omega), .cl rfl⟩, trivial⟩ (one_blk ⟨_, rfl, renB_cl ?_ (flat_cl (cl_take (cl_ints N) _))⟩) no_blk no_blk (by decide) (by decide) (by decide) (by intro b hb; omega) (by omega))
    show flatCells ((ints N).take (j + 1)) ++ [AV.int .i64 m] = flatCells ((ints N).take (j + 1 + 1))
    rw [ints_take, ints_take, htk, ints, ints, List.map_append, flat_app]
    rfl
 cases hfb : firstBad (noNeed L) 0 L.length with
 | some u =>
  rw [hfb] at hE
  obtain ⟨u1, u2, u3, u4⟩ := firstBad_some hfb
  refine for_rowL 0 5 u (fun _ => True) (ndsE k L.length L) (ndsH (ndL L L.length)) (fun j hj _ => hbody _ j (by omega) (fun _ e1 h1 p hg => ⟨trivial, p, hg⟩) (fun he => by rw [u4 j (by omega) (by omega)] at he; cases he)) (fun _ => ?_) trivial
  refine vc_loop (z := false) (hbody _ u (by omega) (fun he => by rw [u3] at he; cases he) (fun _ e1 h1 hr => ?_))
  show endV C_tune_Needs.results Q .ret e1 h1
  simp only [endV, hr]
  exact hbad 120 (by decide) hE _
 | none =>
  rw [hfb] at hE
  have hno : ∀ j, j < L.length → noNeed L j = false := fun j hj => by have := firstBad_none hfb j hj; rwa [Nat.zero_add] at this
  refine for_rowL 0 5 L.length (fun _ => True) (ndsE k L.length L) (ndsH (ndL L L.length)) (fun j hj _ => hbody _ j hj (fun _ e1 h1 p hg => ⟨trivial, p, hg⟩) (fun he => by rw [hno j hj] at he; cases he)) (fun _ => ?_) trivial
  refine vc_loop (z := false) ?_
  have hwith := with_c k 0 L (ndL L L.length) hs hk hK (by omega) (by omega) (ndL_len L _)
  have hsN : Small (needed L) := by
   have h1 := budL_len L (ndL L L.length) L.length (Nat.le_refl _)
   refine ⟨by show (budL L (ndL L L.length) L.length).length ≤ _; omega, fun x hx => ?_⟩
   have := kinds_budL (bs := ndL L L.length) hK L.length (Nat.le_refl _) x hx
   omega
  have hst := shareTest_c 0 (needed L) hsN
  have hNl := ndL_len L L.length
  have hNe : needed L = budL L (ndL L L.length) L.length := rfl
  rw [← hNe] at hwith
  generalize needed L = M at *
  obtain ⟨n, hn⟩ : ∃ n, L.length = n + 1 := ⟨L.length - 1, by omega⟩
  rw [hn] at hwith hgood hNl ⊢
  generalize ndL L (n + 1) = N at *
  have hcells : flatCells ((ints N).take (n + 1)) = flatCells (ints N) := by rw [← hNl, ← len_ints N, List.take_length]
  show vpC fs ms 0 false false _ (ek 5 [(0, .fz k (pts L)), (2, .sl 0 0 (n + 1) (n + 1) true), (17, .int .i64 ((n + 1 : Nat) : Int)), (18, .int .i64 ((n + 1 : Nat) : Int))]) ⟨3, .node (.node .nil none .nil) (some (.cells (flatCells ((ints N).take (n + 1))) true 1)) (.node .nil none .nil)⟩ _
  rw [hcells]
  have hfl := flat_ints N
  have hclN := cl_ints N
  have hszN := size_ints N
  have hlnN := len_ints N
  obtain ⟨C, hC⟩ : ∃ C, flatCells (ints N) = C := ⟨_, rfl⟩
  rw [hC]
  conv => whnf
  refine brf (by simp) (fun hc => ?_)
  (try rw [hc])
  conv => whnf
  refine vc_frz [0] (i := 2) (v' := .fz 0 (ints N)) rfl (frz_open (s := 1) (by simp) rfl hC.symm hszN (by rw [hlnN, hNl]) hclN) ?_
  refine vc_to0 5 [(0, .fz k (pts L)), (2, .fz 0 (ints N))] ?_ ?_
  ·exact ⟨⟨_, rfl, .cl (by simp [AV.cl, cl_pts])⟩, ⟨_, rfl, .cl (by simp [AV.cl, cl_ints])⟩, trivial⟩
  refine vpC_sound (z := false) ?_
  conv => whnf
  refine vd_pure (v := .tup [.fz 0 (pts M), .int .i64 0]) hwith ?_
  conv => whnf
  refine vd_pure hst ?_
  conv => whnf
  by_cases hsh : shareT M = 0
  ·refine brf (by simpa using hsh) (fun hc => ?_)
   (try rw [hc])
   conv => whnf
   exact hgood (by rw [hE]; exact if_pos hsh) _ _ (.clean (by simp [AV.cl, cl_ints]))
  ·refine brt (by simpa using hsh) (fun hc => ?_)
   (try rw [hc])
   conv => whnf
   exact hbad 120 (by decide) (by rw [hE]; exact if_neg hsh) _
end Ir
end Go.Proofs.Ytlndlbngfgaoeaa
set_option maxRecDepth 100000
set_option linter.unusedSimpArgs false
set_option linter.unusedVariables false
namespace Go.Proofs.Ytlndlbngfgaoeaa
open Go Ads
namespace Ir

def Alike (A B : List Pt) : Prop := A.length = B.length ∧ ∀ (j : Nat) (x y : Pt), A[j]? = some x → B[j]? = some y → x.per = y.per ∧ x.ts = y.ts
theorem waitN_same {A B : List Pt} (h : Alike A B) (a g : Int) : ∀ j, waitN A a g j = waitN B a g j
 | 0 => rfl
 | j + 1 => by
  have ih := waitN_same h a g j
  rw [waitN, waitN]
  cases hx : A[j]? with
  | none =>
   have : B[j]? = none := by rw [List.getElem?_eq_none_iff] at hx ⊢; rw [← h.1]; exact hx
   rw [this]
   exact ih
  | some x =>
   have hj : j < B.length := by rw [← h.1]; exact (List.getElem?_eq_some_iff.1 hx).1
   have hy : B[j]? = some B[j] := List.getElem?_eq_getElem hj
   obtain ⟨h1, h2⟩ := h.2 j x B[j] hx hy
   rw [hy]
   have hu : usesP x g = usesP B[j] g := by unfold usesP; rw [h2]
   show (if ((j : Nat) : Int) ≠ a ∧ usesP x g = true then IntKind.i64.wrap (waitN A a g j + IntKind.i64.wrap (2 * x.per)) else waitN A a g j) = _
   rw [hu, h1, ih]
theorem waitS_same {A B : List Pt} (h : Alike A B) (a : Int) (t : Tk) : waitS A a t = waitS B a t := by
 unfold waitS
 rw [waitN_same h, h.1]
theorem moreOne_same {A B : List Pt} (h : Alike A B) (a : Int) (t : Tk) : moreOne A a t = moreOne B a t := by
 unfold moreOne
 rw [waitS_same h]
theorem byOne_same {A B : List Pt} (h : Alike A B) (a : Int) (t : Tk) : byOne A a t = byOne B a t := by
 unfold byOne waitMore
 rw [waitS_same h]
theorem ofN_same {A B : List Pt} (h : Alike A B) (a n : Int) (ts : List Tk) : ∀ j, ofN A a n ts j = ofN B a n ts j
 | 0 => rfl
 | j + 1 => by
  rw [ofN, ofN, ofN_same h a n ts j]
  cases ts[j]? with
  | none => rfl
  | some t => simp only [byOne_same h]
theorem moreL_same {A B : List Pt} (h : Alike A B) {i : Nat} (hi : A[i]? = B[i]?) : moreL A i = moreL B i := by
 unfold moreL
 rw [hi]
 cases B[i]? with
 | none => rfl
 | some x => exact List.map_congr_left fun t _ => moreOne_same h _ t
theorem dOf9_same {A B : List Pt} (h : Alike A B) {a n : Int} (hi : A[a.toNat]? = B[a.toNat]?) (hd : delCheck A = delCheck B) : dOf9 A a n = dOf9 B a n := by
 unfold dOf9
 rw [hd, hi]
 cases B[a.toNat]? with
 | none => rfl
 | some x => simp only [ofN_same h]
theorem testS_same {A B : List Pt} (h : Alike A B) {i : Nat} (hi : A[i]? = B[i]?) (hd : delCheck A = delCheck B) : testS A (i : Nat) = testS B (i : Nat) := by
 have hm := moreL_same h hi
 have h0 : ∀ n, dOf9 A ((i : Nat) : Int) n = dOf9 B ((i : Nat) : Int) n := fun n => dOf9_same h (by simpa using hi) hd
 unfold testS
 rw [hd, show ((i : Nat) : Int).toNat = i by simp, hi]
 cases B[i]? with
 | none => rfl
 | some x =>
  have hb : badB x A ((i : Nat) : Int) (moreL B i) = badB x B ((i : Nat) : Int) (moreL B i) := by
   funext t
   unfold badB slackI
   rw [h0]
  simp only [testP, hm, hb]
end Ir
end Go.Proofs.Ytlndlbngfgaoeaa
set_option maxRecDepth 100000
set_option linter.unusedSimpArgs false
set_option linter.unusedVariables false
namespace Go.Proofs.Ytlndlbngfgaoeaa
open Go Ads
namespace Ir

theorem setB_get {l : List Pt} {i : Nat} (h : i < l.length) (b : Int) (j : Nat) : (setB l i b)[j]? = if j = i then some ⟨l[i].per, b, l[i].k, l[i].ts⟩ else l[j]? := by
 rw [setB_eq h, List.getElem?_set]
 by_cases hj : j = i
 ·subst hj
  simp [h]
 ·rw [if_neg (by omega), if_neg hj]
theorem budL_get {L : List Pt} {bs : List Int} : ∀ {n : Nat}, n ≤ L.length → ∀ i (hi : i < L.length), (budL L bs n)[i]? = if i < n then some ⟨L[i].per, bs.getD i 0, L[i].k, L[i].ts⟩ else L[i]?
 | 0, _, i, hi => by simp [budL]
 | n + 1, hn, i, hi => by
  have hl := budL_len L bs n (by omega)
  have ih := budL_get (L := L) (bs := bs) (n := n) (by omega) i hi
  have ihn := budL_get (L := L) (bs := bs) (n := n) (by omega) n (by omega)
  have hnl : n < (budL L bs n).length := by omega
  have hnL : n < L.length := by omega
  rw [if_neg (by omega), List.getElem?_eq_getElem hnl, List.getElem?_eq_getElem hnL] at ihn
  have ihn := Option.some.inj ihn
  rw [budL, setB_get hnl, ihn, ih]
  by_cases h1 : i = n
  ·subst h1
   rw [if_pos rfl, if_pos (by omega)]
  ·rw [if_neg h1]
   by_cases h2 : i < n
   ·rw [if_pos h2, if_pos (by omega)]
   ·rw [if_neg h2, if_neg (by omega)]

theorem testS_del {A : List Pt} {a : Int} (h : (testS A a).2 = 0) : delCheck A = 0 := by
 unfold testS at h
 by_cases h2 : delCheck A = 2
 ·rw [if_pos h2] at h
  exact absurd h (by decide)
 ·unfold delCheck at h2 ⊢
  split
  ·rfl
  ·rename_i h3
   rw [if_neg h3] at h2
   exact absurd rfl h2
theorem delCheck_ok {A : List Pt} (h : delCheck A = 0) : A.length ≤ 4 ∧ ∀ x, x ∈ A → partOk x = true := by
 unfold delCheck at h
 split at h
 ·rename_i h1
  exact ⟨h1.1, List.all_eq_true.1 h1.2⟩
 ·exact absurd h (by decide)

theorem needs_ok {L : List Pt} (h : NeedsE L = 0) : 1 ≤ L.length ∧ L.length ≤ 4 ∧ (∀ j, j < L.length → needS L j (perAt L j) ≠ 0) ∧ shareT (needed L) = 0 := by
 unfold NeedsE at h
 split at h
 ·exact absurd h (by decide)
 ·rename_i h1
  cases hfb : firstBad (noNeed L) 0 L.length with
  | some u => rw [hfb] at h; exact absurd h (by show ¬ ((120 : Int) = 0); decide)
  | none =>
   rw [hfb] at h
   refine ⟨by omega, by omega, fun j hj => ?_, ?_⟩
   ·have := firstBad_none hfb j hj
    rw [Nat.zero_add] at this
    simpa [noNeed] using this
   ·by_cases hs : shareT (needed L) = 0
    ·exact hs
    ·have h : (if shareT (needed L) = 0 then (0 : Int) else 120) = 0 := h
     rw [if_neg hs] at h
     exact absurd h (by decide)

theorem needed_test {L : List Pt} (h : NeedsE L = 0) : ∀ i, i < L.length → (testS (needed L) ((i : Nat) : Int)).2 = 0 := by
 obtain ⟨h1, h4, hn, -⟩ := needs_ok h
 have hlen : (needed L).length = L.length := budL_len L _ _ (Nat.le_refl _)
 have hget : ∀ i (hi : i < L.length), (needed L)[i]? = some ⟨L[i].per, needS L i (perAt L i), L[i].k, L[i].ts⟩ := by
  intro i hi
  have := budL_get (bs := ndL L L.length) (Nat.le_refl L.length) i hi
  rw [if_pos hi] at this
  rw [show needed L = budL L (ndL L L.length) L.length from rfl, this, List.getD_eq_getElem?_getD, List.getElem?_eq_getElem (by rw [ndL_len]; exact hi), ndL_get L hi]
  rfl
 have hen : ∀ i (hi : i < L.length), (testS (setB L i (needS L i (perAt L i))) ((i : Nat) : Int)).2 = 0 := by
  intro i hi
  have h0 := hn i hi
  rw [perAt_eq hi] at h0 ⊢
  unfold needS at h0 ⊢
  rw [setPer_self hi] at h0 ⊢
  cases hf : firstBad (enough L i) 1 (min L[i].per 64).toNat with
  | none => rw [hf] at h0; exact absurd rfl h0
  | some u =>
   have h3 := (firstBad_some hf).2.2.1
   simpa [enough] using h3
 have hdel : delCheck (needed L) = 0 := by
  have : (needed L).all partOk = true := by
   refine List.all_eq_true.2 fun x hx => ?_
   obtain ⟨i, hi, rfl⟩ := List.getElem_of_mem hx
   have hiL : i < L.length := by omega
   have h2 := (delCheck_ok (testS_del (hen i hiL))).2
   have h3 := hget i hiL
   rw [List.getElem?_eq_getElem hi] at h3
   rw [Option.some.inj h3]
   have h5 := setB_get hiL (needS L i (perAt L i)) i
   rw [if_pos rfl] at h5
   exact h2 _ (List.mem_of_getElem? h5)
  unfold delCheck
  rw [if_pos ⟨by omega, this⟩]
 intro i hi
 have hal : Alike (needed L) (setB L i (needS L i (perAt L i))) := by
  refine ⟨by rw [hlen, setB_len hi], fun j x y hx hy => ?_⟩
  have hj : j < L.length := by have := (List.getElem?_eq_some_iff.1 hx).1; omega
  rw [hget j hj] at hx
  rw [setB_get hi] at hy
  cases hx
  by_cases hji : j = i
  ·subst hji
   rw [if_pos rfl] at hy
   cases hy
   exact ⟨rfl, rfl⟩
  ·rw [if_neg hji, List.getElem?_eq_getElem hj] at hy
   cases hy
   exact ⟨rfl, rfl⟩
 rw [testS_same hal (by rw [hget i hi, setB_get hi, if_pos rfl]) (by rw [hdel, testS_del (hen i hi)])]
 exact hen i hi

theorem selP_all {L : List Pt} {w : List Bool} (hw : ∀ (i : Nat) (h : i < w.length), w[i] = true) (hl : w.length = L.length) : ∀ j, j ≤ L.length → selP L w j = L.take j
 | 0, _ => rfl
 | j + 1, h => by rw [selP_yes (by omega) (by omega) (hw j (by omega)), selP_all hw hl j (by omega), take_next (by omega)]

theorem gateS_all {L : List Pt} {w : List Bool} (h : NeedsE L = 0) (hc : confC (needed L) = true) (hw : ∀ (i : Nat) (h : i < w.length), w[i] = true) (hl : w.length = L.length) : gateS (needed L) w = (-1, 0, 0) := by
 have hlen : (needed L).length = L.length := budL_len L _ _ (Nat.le_refl _)
 have hask : askedS (needed L) w = 0 := by rw [askedS, if_pos hc, if_pos (by omega)]
 have hsel : selP (needed L) w (needed L).length = needed L := by rw [selP_all hw (by omega) _ (Nat.le_refl _), List.take_length]
 have ht := needed_test h
 have hs := (needs_ok h).2.2.2
 unfold gateS
 rw [hask, hsel, if_neg (by omega), if_neg (by omega)]
 cases hfb : firstBad (fun i => !((testS (needed L) ((i : Nat) : Int)).2 == 0)) 0 (needed L).length with
 | none => rfl
 | some u =>
  obtain ⟨u1, u2, u3, u4⟩ := firstBad_some hfb
  have := ht u (by omega)
  simp [this] at u3
end Ir
end Go.Proofs.Ytlndlbngfgaoeaa
