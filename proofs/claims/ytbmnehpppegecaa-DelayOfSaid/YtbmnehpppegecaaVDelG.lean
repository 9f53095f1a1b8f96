/-
  Delay: the document's More.
-/
import Derived.Test.YtbmnehpppegecaaVDel
set_option maxRecDepth 100000
set_option linter.unusedSimpArgs false
set_option linter.unusedVariables false
namespace Go.Proofs.Ytbmnehpppegecaa
open Go Ads
namespace Ir

theorem rmore_bad {k : Nat} {l : List Pt} {a : Int} (hs : Small l) (h : delCheck l = 2) : PC fs ms f_escapementref09_More [.fz k (pts l), .int .i64 a] (prL 3 ([], 2)) := by
  refine ⟨by simp [clL, AV.cl, cl_pts], rfl, ?_⟩
  refine vd_start (af := C_escapementref09_More) false rfl (Nat.le_of_ble_eq_true rfl) ?_
  generalize hQ : (fun (v : AV) (g : Heap) => Frz (fun _ => True) g v (prL 3 ([], 2))) = Q
  conv => whnf
  refine vd_pure (rcheck9_c k l hs) ?_
  rw [h]
  conv => whnf
  subst hQ
  exact .tup' (.cons .nils (.cons (.clean rfl) .nil))
theorem rmore_out {k : Nat} {l : List Pt} {a : Int} (hs : Small l) (h : delCheck l = 0) (ha : a < 0 ∨ l.length ≤ a) : PC fs ms f_escapementref09_More [.fz k (pts l), .int .i64 a] (prL 3 ([], 9)) := by
  refine ⟨by simp [clL, AV.cl, cl_pts], rfl, ?_⟩
  refine vd_start (af := C_escapementref09_More) false rfl (Nat.le_of_ble_eq_true rfl) ?_
  generalize hQ : (fun (v : AV) (g : Heap) => Frz (fun _ => True) g v (prL 3 ([], 9))) = Q
  conv => whnf
  refine vd_pure (rcheck9_c k l hs) ?_
  rw [h]
  conv => whnf
  by_cases h0 : a < 0
  · refine brt (by simp; omega) (fun hc => ?_)
    (try rw [hc])
    conv => whnf
    subst hQ
    exact .tup' (.cons .nils (.cons (.clean rfl) .nil))
  · refine brf (by simp; omega) (fun hc => ?_)
    (try rw [hc])
    conv => whnf
    refine brt (by rw [len_pts]; simp; omega) (fun hc => ?_)
    (try rw [hc])
    conv => whnf
    subst hQ
    exact .tup' (.cons .nils (.cons (.clean rfl) .nil))
theorem rmore_ok {k : Nat} {l : List Pt} {i : Nat} (hs : Small l) (h : delCheck l = 0) (hi : i < l.length) : ∃ k', PC fs ms f_escapementref09_More [.fz k (pts l), .int .i64 (i : Nat)] (prL k' (moreL l i, 0)) := by
  have hts := hs.2 _ (List.getElem_mem hi)
  have hM : moreL l i = l[i].ts.map (moreOne l (i : Nat)) := by rw [moreL, List.getElem?_eq_getElem hi]
  have hok := fun t ht => part_c h (List.getElem_mem hi) (t := t) ht
  have hix := idx_pt (k := k) hi
  have hl4 : l.length ≤ 4 := by
    unfold delCheck at h
    split at h
    · rename_i hh; exact hh.1
    · simp at h
  rw [hM]
  have ht4 : ∀ j, j < l[i].ts.length → l[i].ts.length ≤ 4 := fun j hj => by
    have := hs.2 _ (List.getElem_mem hi)
    unfold delCheck at h
    split at h
    · rename_i hh
      have := List.all_eq_true.1 hh.2 _ (List.getElem_mem hi)
      simp only [partOk, Bool.and_eq_true, tasksOk, decide_eq_true_eq] at this
      exact this.2.1.2
    · simp at h
  generalize l[i] = x at *
  have hlen : (x.ts.map (moreOne l (i : Nat))).length = x.ts.length := by simp
  have hget : ∀ (j : Nat) (h1 : j < x.ts.length) (h2 : j < (x.ts.map (moreOne l (i : Nat))).length), moreOne l (i : Nat) x.ts[j] = (x.ts.map (moreOne l (i : Nat)))[j] := fun j h1 h2 => by simp
  generalize x.ts.map (moreOne l (i : Nat)) = M at *
  refine ⟨growK M.length, by simp [clL, AV.cl, cl_pts], by simp [prL, clL, AV.cl, cl_ints], ?_⟩
  refine vd_start (af := C_escapementref09_More) false rfl (Nat.le_of_ble_eq_true rfl) ?_
  generalize hQ : (fun (v : AV) (g : Heap) => Frz (fun _ => True) g v (prL (growK M.length) (M, 0))) = Q
  conv => whnf
  refine vd_pure (rcheck9_c k l hs) ?_
  rw [h]
  conv => whnf
  refine brf (by rw [len_pts]; simp; omega) (fun hc => ?_)
  (try rw [hc])
  conv => whnf
  refine vc_lit (B := 0) (H := growI M 0) (d := 5) (l := [(0, .fz k (pts l)), (1, .int .i64 (i : Nat)), (7, growV 0), (8, .int .i64 ((0 : Nat) : Int))]) (n := 0) (m := []) rfl id (by repeat' (first | exact trivial | refine renAt_sl rfl (by omega) ?_ | refine renAt_ptr rfl (by omega) ?_ | refine renAt_yield rfl (by omega) ?_ | refine renAt_cl rfl (by first | rfl | simp [clL, AV.cl, cl_ints, cl_pts]) ?_ | refine renAt_cl (inc_slot (by omega)) rfl ?_)) trivial (by intro b c hb; simp at hb) (by intro b hb; omega) (by omega) ?_
  refine for_rowH 0 5 x.ts.length (fun _ => True) (fun j => [(0, .fz k (pts l)), (1, .int .i64 (i : Nat)), (7, growV j), (8, .int .i64 (j : Nat))]) (growI M) ?_ ?_ trivial
  · intro j hj _
    have hg := hget j hj (by omega)
    have hT : M.take (j + 1) = M.take j ++ [moreOne l (i : Nat) x.ts[j]] := by rw [take_next (by omega), hg]
    have ht := hok _ (List.getElem_mem hj)
    have hm := mayD_in ht.2.2
    have hj4 := ht4 j hj
    have hidx := idx_tk (k := x.k) hj
    generalize x.ts[j] = t at *
    by_cases hc0 : t.c = 0
    · have h0 : moreOne l (i : Nat) t = 0 := by
        have e : t.f = 0 := by omega
        rw [moreOne, e, Int.zero_mul]; rfl
      rw [h0] at hT
      cases j with
      | zero =>
        conv => whnf
        refine ⟨_, hix, ?_⟩
        conv => whnf
        refine brt (by rw [len_tks]; simp; omega) (fun hc => ?_)
        (try rw [hc])
        conv => whnf
        refine ⟨_, hix, ?_⟩
        conv => whnf
        refine ⟨_, hidx, ?_⟩
        conv => whnf
        refine brf (by simp; omega) (fun hc => ?_)
        (try rw [hc])
        conv => whnf
        refine ⟨_, _, app_nils rfl, ?_⟩
        conv => whnf
        refine ⟨trivial, fun b => 2, gc_lit (H := growI M (0 + 1)) (hk_one _) _ (by repeat' (first | exact trivial | refine renAt_sl rfl (by omega) ?_ | refine renAt_ptr rfl (by omega) ?_ | refine renAt_yield rfl (by omega) ?_ | refine renAt_cl rfl (by first | rfl | simp [clL, AV.cl, cl_ints, cl_pts]) ?_ | refine renAt_cl (inc_slot (by omega)) rfl ?_)) ⟨by omega, ⟨_, rfl, renB_ints (by rw [hT]; rfl)⟩, trivial⟩ (by intro b c hb hc _; simp at hb hc; omega) (by intro b hb; omega) (by omega)⟩
      | succ j =>
        show vpC fs ms 0 false false _ _ ⟨1, .node .nil (some (.cells (ints (M.take (j + 1))) true 1)) .nil⟩ _
        conv => whnf
        refine ⟨_, hix, ?_⟩
        conv => whnf
        refine brt (by rw [len_tks]; simp; omega) (fun hc => ?_)
        (try rw [hc])
        conv => whnf
        refine ⟨_, hix, ?_⟩
        conv => whnf
        refine ⟨_, hidx, ?_⟩
        conv => whnf
        refine brf (by simp; omega) (fun hc => ?_)
        (try rw [hc])
        conv => whnf
        refine ⟨_, _, app_open (vs := ints (M.take (j + 1))) rfl (by simp [ints]; omega) (by omega) rfl, ?_⟩
        conv => whnf
        refine ⟨trivial, fun b => 3, gc_lit (H := growI M (j + 1 + 1)) (hk_one _) _ (by repeat' (first | exact trivial | refine renAt_sl rfl (by omega) ?_ | refine renAt_ptr rfl (by omega) ?_ | refine renAt_yield rfl (by omega) ?_ | refine renAt_cl rfl (by first | rfl | simp [clL, AV.cl, cl_ints, cl_pts]) ?_ | refine renAt_cl (inc_slot (by omega)) rfl ?_)) ⟨by omega, ⟨_, rfl, renB_ints (by rw [hT]; simp [ints])⟩, trivial⟩ (by intro b c hb hc _; simp at hb hc; omega) (by intro b hb; omega) (by omega)⟩
    · cases j with
      | zero =>
        conv => whnf
        refine ⟨_, hix, ?_⟩
        conv => whnf
        refine brt (by rw [len_tks]; simp; omega) (fun hc => ?_)
        (try rw [hc])
        conv => whnf
        refine ⟨_, hix, ?_⟩
        conv => whnf
        refine ⟨_, hidx, ?_⟩
        conv => whnf
        refine brt (by simp; omega) (fun hc => ?_)
        (try rw [hc])
        conv => whnf
        refine vd_pure (rwait_c k l (i : Nat) t (by omega) hs) ?_
        conv => whnf
        refine ⟨winOk_of (by (conv => whnf); repeat' (first | exact trivial | (exact ⟨rfl, rfl, .inr ⟨_, _, rfl⟩⟩) | (refine ⟨rfl, rfl, .inl ⟨rfl, fun o ho => ?_⟩⟩; cases ho; first | rfl) | (exact ⟨rfl, .inr ⟨_, _, rfl⟩⟩) | (refine ⟨rfl, .inl ⟨rfl, fun i o hi ho => ?_⟩⟩; cases hi; cases ho; first | rfl) | (refine And.intro (fun hon => (Bool.false_ne_true hon).elim) ?_ <;> conv => whnf) | (refine And.intro (fun _ => ?_) ?_ <;> conv => whnf) | (refine And.intro ?_ ?_ <;> conv => whnf))), ?_⟩
        conv => whnf
        rw [← moreOne]
        conv => whnf
        refine ⟨_, _, app_nils rfl, ?_⟩
        conv => whnf
        refine ⟨trivial, fun b => 2, gc_lit (H := growI M (0 + 1)) (hk_one _) _ (by repeat' (first | exact trivial | refine renAt_sl rfl (by omega) ?_ | refine renAt_ptr rfl (by omega) ?_ | refine renAt_yield rfl (by omega) ?_ | refine renAt_cl rfl (by first | rfl | simp [clL, AV.cl, cl_ints, cl_pts]) ?_ | refine renAt_cl (inc_slot (by omega)) rfl ?_)) ⟨by omega, ⟨_, rfl, renB_ints (by rw [hT]; rfl)⟩, trivial⟩ (by intro b c hb hc _; simp at hb hc; omega) (by intro b hb; omega) (by omega)⟩
      | succ j =>
        show vpC fs ms 0 false false _ _ ⟨1, .node .nil (some (.cells (ints (M.take (j + 1))) true 1)) .nil⟩ _
        conv => whnf
        refine ⟨_, hix, ?_⟩
        conv => whnf
        refine brt (by rw [len_tks]; simp; omega) (fun hc => ?_)
        (try rw [hc])
        conv => whnf
        refine ⟨_, hix, ?_⟩
        conv => whnf
        refine ⟨_, hidx, ?_⟩
        conv => whnf
        refine brt (by simp; omega) (fun hc => ?_)
        (try rw [hc])
        conv => whnf
        refine vd_pure (rwait_c k l (i : Nat) t (by omega) hs) ?_
        conv => whnf
        refine ⟨winOk_of (by (conv => whnf); repeat' (first | exact trivial | (exact ⟨rfl, rfl, .inr ⟨_, _, rfl⟩⟩) | (refine ⟨rfl, rfl, .inl ⟨rfl, fun o ho => ?_⟩⟩; cases ho; first | rfl) | (exact ⟨rfl, .inr ⟨_, _, rfl⟩⟩) | (refine ⟨rfl, .inl ⟨rfl, fun i o hi ho => ?_⟩⟩; cases hi; cases ho; first | rfl) | (refine And.intro (fun hon => (Bool.false_ne_true hon).elim) ?_ <;> conv => whnf) | (refine And.intro (fun _ => ?_) ?_ <;> conv => whnf) | (refine And.intro ?_ ?_ <;> conv => whnf))), ?_⟩
        conv => whnf
        rw [← moreOne]
        conv => whnf
        refine ⟨_, _, app_open (vs := ints (M.take (j + 1))) rfl (by simp [ints]; omega) (by omega) rfl, ?_⟩
        conv => whnf
        refine ⟨trivial, fun b => 3, gc_lit (H := growI M (j + 1 + 1)) (hk_one _) _ (by repeat' (first | exact trivial | refine renAt_sl rfl (by omega) ?_ | refine renAt_ptr rfl (by omega) ?_ | refine renAt_yield rfl (by omega) ?_ | refine renAt_cl rfl (by first | rfl | simp [clL, AV.cl, cl_ints, cl_pts]) ?_ | refine renAt_cl (inc_slot (by omega)) rfl ?_)) ⟨by omega, ⟨_, rfl, renB_ints (by rw [hT]; simp [ints])⟩, trivial⟩ (by intro b c hb hc _; simp at hb hc; omega) (by intro b hb; omega) (by omega)⟩
  · intro _
    have hfin : Q (.tup [growV x.ts.length, .int .i64 0]) (growI M x.ts.length) := by
      subst hQ
      rw [← hlen]
      exact .tup' (.cons (growI_frz trivial _ rfl) (.cons (.clean rfl) .nil))
    generalize growI M x.ts.length = G at *
    generalize growV x.ts.length = V at *
    conv => whnf
    refine ⟨_, hix, ?_⟩
    conv => whnf
    refine brf (by rw [len_tks]; simp) (fun hc => ?_)
    (try rw [hc])
    conv => whnf
    exact hfin
end Ir
end Go.Proofs.Ytbmnehpppegecaa
