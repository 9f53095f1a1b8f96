/-
  Delay: Of of both.
-/
import Derived.Test.YtlndlbngfgaoeaaVDelE
set_option maxRecDepth 100000
set_option linter.unusedSimpArgs false
set_option linter.unusedVariables false
namespace Go.Proofs.Ytlndlbngfgaoeaa
open Go Ads
namespace Ir

def mx (a b : Int) : Int := cond (decide (b > a)) b a
theorem mx_max (a b : Int) : mx a b = max a b := by
  unfold mx
  by_cases h : b > a
  · rw [decide_eq_true h, cond_true]; omega
  · rw [decide_eq_false h, cond_false]; omega
def waitMore (l : List Pt) (a : Int) (t : Tk) : Int := IntKind.i64.wrap (IntKind.i64.wrap (waitS l a t + IntKind.i64.wrap (2 * t.e)) - 1)
/-- The delay by a task. -/
def byOne (l : List Pt) (a : Int) (t : Tk) : Int := if t.c = 0 then t.b else mx t.b (waitMore l a t)
def ofN (l : List Pt) (a n : Int) (ts : List Tk) : Nat → Int
  | 0 => 0
  | j + 1 => match ts[j]? with
    | some t => if t.d > n then mx (ofN l a n ts j) (byOne l a t) else ofN l a n ts j
    | none => ofN l a n ts j
theorem ofN_next {l : List Pt} {a n : Int} {ts : List Tk} {j : Nat} (h : j < ts.length) : ofN l a n ts (j + 1) = if ts[j].d > n then mx (ofN l a n ts j) (byOne l a ts[j]) else ofN l a n ts j := by
  rw [ofN, List.getElem?_eq_getElem h]
def dOf9 (l : List Pt) (a n : Int) : Int × Int := if delCheck l = 2 then (0, 2) else if a < 0 then (0, 9) else match l[a.toNat]? with
  | none => (0, 9)
  | some x => if n < 0 then (0, 2) else (ofN l a n x.ts x.ts.length, 0)

theorem by_c (x : Pt) (k : Nat) (l : List Pt) (a : Int) (t : Tk) (hs : Small l) : PC fs ms f_delay_seen_by [sn x k l a, tk t] (.int .i64 (byOne l a t)) := by
  refine pc_of (by simp [clL, cl_sn]; rfl) rfl ?_
  refine vd_start (af := C_delay_seen_by) false rfl (Nat.le_of_ble_eq_true rfl) ?_
  generalize hQ : (fun (v : AV) (_ : Heap) => v = .int .i64 (byOne l a t)) = Q
  set_option smartUnfolding false in conv => whnf
  by_cases hc0 : t.c = 0
  · refine brt (by simp [hc0]) (fun hc => ?_)
    (try rw [hc])
    set_option smartUnfolding false in conv => whnf
    subst hQ
    rw [byOne, if_pos hc0]
  · refine brf (by simp [hc0]) (fun hc => ?_)
    (try rw [hc])
    set_option smartUnfolding false in conv => whnf
    refine vd_pure (wait9_c x k l a t hs) ?_
    set_option smartUnfolding false in conv => whnf
    refine ⟨winOk_of (by (set_option smartUnfolding false in conv => whnf); repeat' (first | exact trivial | (exact ⟨rfl, rfl, .inr ⟨_, _, rfl⟩⟩) | (refine ⟨rfl, rfl, .inl ⟨rfl, fun o ho => ?_⟩⟩; cases ho; first | rfl) | (exact ⟨rfl, .inr ⟨_, _, rfl⟩⟩) | (refine ⟨rfl, .inl ⟨rfl, fun i o hi ho => ?_⟩⟩; cases hi; cases ho; first | rfl) | (refine And.intro (fun _ => ?_) ?_ <;> set_option smartUnfolding false in conv => whnf) | (refine And.intro ?_ ?_ <;> set_option smartUnfolding false in conv => whnf))), ?_⟩
    set_option smartUnfolding false in conv => whnf
    subst hQ
    rw [byOne, if_neg hc0]
    rfl

theorem dOf9_c (k : Nat) (l : List Pt) (a n : Int) (hs : Small l) : PC fs ms f_delay_Of [.fz k (pts l), .int .i64 a, .int .i64 n] (.tup [.int .i64 (dOf9 l a n).1, .int .i64 (dOf9 l a n).2]) := by
  refine pc_of (by simp [clL, AV.cl, cl_pts]) rfl ?_
  refine vd_start (af := C_delay_Of) false rfl (Nat.le_of_ble_eq_true rfl) ?_
  generalize hQ : (fun (v : AV) (_ : Heap) => v = .tup [.int .i64 (dOf9 l a n).1, .int .i64 (dOf9 l a n).2]) = Q
  set_option smartUnfolding false in conv => whnf
  rcases delCheck_or l with h | h
  · by_cases ha : a < 0 ∨ l.length ≤ a
    · refine vd_pure (of_out k l a hs h ha) ?_
      set_option smartUnfolding false in conv => whnf
      subst hQ
      rw [dOf9, if_neg (by omega)]
      by_cases h0 : a < 0
      · rw [if_pos h0]
      · rw [if_neg h0, List.getElem?_eq_none (by omega)]
    · obtain ⟨i, rfl⟩ := Int.eq_ofNat_of_zero_le (show 0 ≤ a by omega)
      have hi : i < l.length := by omega
      have hti : ((i : Int)).toNat = i := rfl
      have hof := of_ok k l i hs h hi
      have hts := hs.2 _ (List.getElem_mem hi)
      have hd : dOf9 l (i : Nat) n = if n < 0 then (0, 2) else (ofN l (i : Nat) n l[i].ts l[i].ts.length, 0) := by
        rw [dOf9, if_neg (by omega), if_neg (by omega), hti, List.getElem?_eq_getElem hi]
      refine vd_pure hof ?_
      clear hof
      generalize l[i] = x at *
      set_option smartUnfolding false in conv => whnf
      by_cases h0 : n < 0
      · refine brt (by simp; omega) (fun hc => ?_)
        (try rw [hc])
        set_option smartUnfolding false in conv => whnf
        subst hQ
        rw [hd, if_pos h0]
      · refine brf (by simp; omega) (fun hc => ?_)
        (try rw [hc])
        set_option smartUnfolding false in conv => whnf
        rw [if_neg h0] at hd
        refine vc_frz [0] (i := 8) (v' := .fp (sn x k l (i : Nat)).cells 0) rfl (.ptr' (by simp) rfl (.clean (l := (sn x k l (i : Nat)).cells) (cells_cl (cl_sn x k l (i : Nat))))) ?_
        refine vc_to0 5 [(2, .int .i64 n), (6, .int .i64 (ofN l (i : Nat) n x.ts 0)), (8, .fp (sn x k l (i : Nat)).cells 0), (26, .fz x.k (tks x.ts)), (27, .int .i64 (tks x.ts).length), (28, .int .i64 ((0 : Nat) : Int))] (by repeat' (first | exact trivial | refine renAt_sl rfl (by omega) ?_ | refine renAt_ptr rfl (by omega) ?_ | refine renAt_yield rfl (by omega) ?_ | refine renAt_cl rfl (by first | rfl | simp [clL, AV.cl, cl_ints, cl_tks, cells_cl (cl_sn x k l (i : Nat))]) ?_ | refine renAt_cl (inc_slot (by omega)) rfl ?_)) ?_
        refine for_row 5 x.ts.length (fun _ => True) (fun j => [(2, .int .i64 n), (6, .int .i64 (ofN l (i : Nat) n x.ts j)), (8, .fp (sn x k l (i : Nat)).cells 0), (26, .fz x.k (tks x.ts)), (27, .int .i64 (tks x.ts).length), (28, .int .i64 (j : Nat))]) ?_ ?_ trivial
        · intro j hj _
          have hn := ofN_next (l := l) (a := (i : Nat)) (n := n) hj
          have hidx := idx_tk (k := x.k) hj
          generalize x.ts[j] = t at *
          show vpC fs ms 0 false false _ (ek 5 [(2, .int .i64 n), (6, .int .i64 (ofN l (i : Nat) n x.ts j)), (8, .fp (sn x k l (i : Nat)).cells 0), (26, .fz x.k (tks x.ts)), (27, .int .i64 (tks x.ts).length), (28, .int .i64 (j : Nat))]) _ _
          generalize ofN l (i : Nat) n x.ts j = m at *
          set_option smartUnfolding false in conv => whnf
          refine brt (by rw [len_tks]; simp; omega) (fun hc => ?_)
          (try rw [hc])
          set_option smartUnfolding false in conv => whnf
          refine ⟨_, hidx, ?_⟩
          set_option smartUnfolding false in conv => whnf
          by_cases hdn : t.d > n
          · rw [if_pos hdn] at hn
            refine brt (by simp; omega) (fun hc => ?_)
            (try rw [hc])
            set_option smartUnfolding false in conv => whnf
            refine vd_pure (by_c x k l (i : Nat) t hs) ?_
            set_option smartUnfolding false in conv => whnf
            refine ⟨trivial, ⟨_, rfl, .cl rfl⟩, ⟨_, congrArg (fun b => some (AV.int .i64 b)) hn.symm, .cl rfl⟩, ⟨_, rfl, .cl (by simp [AV.cl, cells_cl (cl_sn x k l (i : Nat))])⟩, ⟨_, rfl, .cl (by simp [AV.cl, cl_tks])⟩, ⟨_, rfl, .cl rfl⟩, ⟨_, inc_slot (by omega), .cl rfl⟩, trivial⟩
          · rw [if_neg hdn] at hn
            refine brf (by simp; omega) (fun hc => ?_)
            (try rw [hc])
            set_option smartUnfolding false in conv => whnf
            refine ⟨trivial, ⟨_, rfl, .cl rfl⟩, ⟨_, congrArg (fun b => some (AV.int .i64 b)) hn.symm, .cl rfl⟩, ⟨_, rfl, .cl (by simp [AV.cl, cells_cl (cl_sn x k l (i : Nat))])⟩, ⟨_, rfl, .cl (by simp [AV.cl, cl_tks])⟩, ⟨_, rfl, .cl rfl⟩, ⟨_, inc_slot (by omega), .cl rfl⟩, trivial⟩
        · intro _
          set_option smartUnfolding false in conv => whnf
          refine brf (by rw [len_tks]; simp) (fun hc => ?_)
          (try rw [hc])
          set_option smartUnfolding false in conv => whnf
          subst hQ
          rw [hd]
  · refine vd_pure (of_bad k l a hs h) ?_
    set_option smartUnfolding false in conv => whnf
    subst hQ
    rw [dOf9, if_pos h]

end Ir
end Go.Proofs.Ytlndlbngfgaoeaa
