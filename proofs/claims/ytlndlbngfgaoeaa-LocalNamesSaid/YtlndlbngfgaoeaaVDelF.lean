/-
  Delay: More of both.
-/
import Derived.Test.YtlndlbngfgaoeaaVDelE
set_option maxRecDepth 100000
set_option linter.unusedSimpArgs false
set_option linter.unusedVariables false
namespace Go.Proofs.Ytlndlbngfgaoeaa
open Go Ads
namespace Ir

/-- How much more a task asks for. -/
def moreOne (l : List Pt) (a : Int) (t : Tk) : Int := IntKind.i64.wrap (t.f * IntKind.i64.wrap (IntKind.i64.wrap (waitS l a t + t.e) - 1))
def moreL (l : List Pt) (i : Nat) : List Int := match l[i]? with
  | some x => x.ts.map (moreOne l (i : Nat))
  | none => []
def dMore (l : List Pt) (a : Int) : List Int × Int := if delCheck l = 2 then ([], 2) else if a < 0 ∨ l.length ≤ a then ([], 9) else (moreL l a.toNat, 0)
def prL (k : Nat) (p : List Int × Int) : AV := .tup [.fz k (ints p.1), .int .i64 p.2]
def moreH (ts : List Int) (j : Nat) : Heap := ⟨1, .node .nil (some (.cells (ints (fillR ts j)) true 0)) .nil⟩

theorem more_bad {k : Nat} {l : List Pt} {a : Int} (hs : Small l) (h : delCheck l = 2) : PC fs ms f_delay_More [.fz k (pts l), .int .i64 a] (prL 3 ([], 2)) := by
  refine ⟨by simp [clL, AV.cl, cl_pts], rfl, ?_⟩
  refine vd_start (af := C_delay_More) false rfl (Nat.le_of_ble_eq_true rfl) ?_
  generalize hQ : (fun (v : AV) (g : Heap) => Frz (fun _ => True) g v (prL 3 ([], 2))) = Q
  set_option smartUnfolding false in conv => whnf
  refine vd_pure (of_bad k l a hs h) ?_
  set_option smartUnfolding false in conv => whnf
  subst hQ
  exact .tup' (.cons .nils (.cons (.clean rfl) .nil))
theorem more_out {k : Nat} {l : List Pt} {a : Int} (hs : Small l) (h : delCheck l = 0) (ha : a < 0 ∨ l.length ≤ a) : PC fs ms f_delay_More [.fz k (pts l), .int .i64 a] (prL 3 ([], 9)) := by
  refine ⟨by simp [clL, AV.cl, cl_pts], rfl, ?_⟩
  refine vd_start (af := C_delay_More) false rfl (Nat.le_of_ble_eq_true rfl) ?_
  generalize hQ : (fun (v : AV) (g : Heap) => Frz (fun _ => True) g v (prL 3 ([], 9))) = Q
  set_option smartUnfolding false in conv => whnf
  refine vd_pure (of_out k l a hs h ha) ?_
  set_option smartUnfolding false in conv => whnf
  subst hQ
  exact .tup' (.cons .nils (.cons (.clean rfl) .nil))
theorem more_ok {k : Nat} {l : List Pt} {i : Nat} (hs : Small l) (h : delCheck l = 0) (hi : i < l.length) : PC fs ms f_delay_More [.fz k (pts l), .int .i64 (i : Nat)] (prL 2 (moreL l i, 0)) := by
  refine ⟨by simp [clL, AV.cl, cl_pts], by simp [prL, clL, AV.cl, cl_ints], ?_⟩
  refine vd_start (af := C_delay_More) false rfl (Nat.le_of_ble_eq_true rfl) ?_
  have hts := hs.2 _ (List.getElem_mem hi)
  have hM : moreL l i = l[i].ts.map (moreOne l (i : Nat)) := by rw [moreL, List.getElem?_eq_getElem hi]
  have hof := of_ok k l i hs h hi
  rw [hM]
  generalize l[i] = x at *
  generalize hQ : (fun (v : AV) (g : Heap) => Frz (fun _ => True) g v (prL 2 (x.ts.map (moreOne l (i : Nat)), 0))) = Q
  set_option smartUnfolding false in conv => whnf
  refine vd_pure hof ?_
  set_option smartUnfolding false in conv => whnf
  refine ⟨_, _, by rw [len_tks]; exact mk_ints (by omega), ?_⟩
  set_option smartUnfolding false in conv => whnf
  have hlen : (x.ts.map (moreOne l (i : Nat))).length = x.ts.length := by simp
  have hget : ∀ (j : Nat) (h1 : j < x.ts.length) (h2 : j < (x.ts.map (moreOne l (i : Nat))).length), moreOne l (i : Nat) x.ts[j] = (x.ts.map (moreOne l (i : Nat)))[j] := fun j h1 h2 => by simp
  generalize x.ts.map (moreOne l (i : Nat)) = M at *
  refine vc_frz [0] (i := 6) (v' := .fp (sn x k l (i : Nat)).cells 0) rfl (.ptr' (by simp) rfl (.clean (l := (sn x k l (i : Nat)).cells) (cells_cl (cl_sn x k l (i : Nat))))) ?_
  refine vc_lit (B := 0) (H := moreH M 0) (d := 5) (l := [(6, .fp (sn x k l (i : Nat)).cells 0), (8, .sl 0 0 x.ts.length x.ts.length false), (27, .fz x.k (tks x.ts)), (28, .int .i64 (tks x.ts).length), (29, .int .i64 ((0 : Nat) : Int))]) (hk_one _) (fun b => 1) (by repeat' (first | exact trivial | refine renAt_sl rfl (by omega) ?_ | refine renAt_ptr rfl (by omega) ?_ | refine renAt_yield rfl (by omega) ?_ | refine renAt_cl rfl (by first | rfl | simp [clL, AV.cl, cl_ints, cl_tks, cells_cl (cl_sn x k l (i : Nat))]) ?_ | refine renAt_cl (inc_slot (by omega)) rfl ?_)) ⟨by omega, ⟨_, rfl, renB_ints (by rw [fill_zero, hlen])⟩, trivial⟩ (by intro b c hb hc _; simp at hb hc; omega) (by intro b hb; omega) (by omega) ?_
  refine for_rowH 0 5 x.ts.length (fun _ => True) (fun j => [(6, .fp (sn x k l (i : Nat)).cells 0), (8, .sl 0 0 x.ts.length x.ts.length false), (27, .fz x.k (tks x.ts)), (28, .int .i64 (tks x.ts).length), (29, .int .i64 (j : Nat))]) (moreH M) ?_ ?_ trivial
  · intro j hj _
    have hg := hget j hj (by omega)
    show vpC fs ms 0 false false _ _ ⟨1, .node .nil (some (.cells (ints (fillR M j)) true 0)) .nil⟩ _
    set_option smartUnfolding false in conv => whnf
    refine brt (by rw [len_tks]; simp; omega) (fun hc => ?_)
    (try rw [hc])
    set_option smartUnfolding false in conv => whnf
    refine ⟨_, idx_tk hj, ?_⟩
    set_option smartUnfolding false in conv => whnf
    refine vd_pure (wait9_c x k l (i : Nat) x.ts[j] hs) ?_
    set_option smartUnfolding false in conv => whnf
    refine ⟨_, idx_sl hj, ?_⟩
    set_option smartUnfolding false in conv => whnf
    refine brT (by show (Nat.ble (j + 1) (ints (fillR M j)).length && true) = true; rw [len_ints, len_fill M (by omega), hlen, Bool.and_true]; exact Nat.ble_eq_true_of_le (by omega)) ?_
    set_option smartUnfolding false in conv => whnf
    refine ⟨winOk_of (by (set_option smartUnfolding false in conv => whnf); repeat' (first | exact trivial | (exact ⟨rfl, rfl, .inr ⟨_, _, rfl⟩⟩) | (refine ⟨rfl, rfl, .inl ⟨rfl, fun o ho => ?_⟩⟩; cases ho; first | rfl) | (exact ⟨rfl, .inr ⟨_, _, rfl⟩⟩) | (refine ⟨rfl, .inl ⟨rfl, fun i o hi ho => ?_⟩⟩; cases hi; cases ho; first | rfl) | (refine And.intro (fun _ => ?_) ?_ <;> set_option smartUnfolding false in conv => whnf) | (refine And.intro ?_ ?_ <;> set_option smartUnfolding false in conv => whnf))), ?_⟩
    set_option smartUnfolding false in conv => whnf
    exact ⟨trivial, id, gc_lit (H := moreH M (j + 1)) (hk_one _) _ (by repeat' (first | exact trivial | refine renAt_sl rfl (by omega) ?_ | refine renAt_ptr rfl (by omega) ?_ | refine renAt_yield rfl (by omega) ?_ | refine renAt_cl rfl (by first | rfl | simp [clL, AV.cl, cl_ints, cl_tks, cells_cl (cl_sn x k l (i : Nat))]) ?_ | refine renAt_cl (inc_slot (by omega)) rfl ?_)) ⟨by omega, ⟨_, rfl, renB_ints (fill_put M (by omega) hg)⟩, trivial⟩ (by intro b c hb hc _; simp at hb hc; omega) (by intro b hb; omega) (by omega)⟩
  · intro _
    show vpC fs ms 0 false false _ _ ⟨1, .node .nil (some (.cells (ints (fillR M x.ts.length)) true 0)) .nil⟩ _
    set_option smartUnfolding false in conv => whnf
    refine brf (by rw [len_tks]; simp) (fun hc => ?_)
    (try rw [hc])
    set_option smartUnfolding false in conv => whnf
    subst hQ
    rw [← hlen, fill_end]
    exact .tup' (.cons (.row (s := 1) trivial rfl (flat_ints M).symm (size_ints M) (by rw [len_ints]) (Nat.le_refl _) (by omega) (fun _ => rfl) (fun _ => rfl) (cl_ints M)) (.cons (.clean rfl) .nil))
end Ir
end Go.Proofs.Ytlndlbngfgaoeaa
