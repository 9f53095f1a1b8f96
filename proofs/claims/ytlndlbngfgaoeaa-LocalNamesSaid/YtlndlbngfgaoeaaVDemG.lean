/-
  Demand: each.
-/
import Derived.Test.YtlndlbngfgaoeaaVDemF
import Derived.Test.YtlndlbngfgaoeaaVsRows
set_option maxRecDepth 100000
set_option linter.unusedSimpArgs false
set_option linter.unusedVariables false
namespace Go.Proofs.Ytlndlbngfgaoeaa
open Go Ads
namespace Ir

def fillH (ts : List Int) (j : Nat) : Heap := ⟨1, .node .nil (some (.cells (ints (fillR ts j)) true 0)) .nil⟩

theorem each_c {F : Nat} {capt : List AV} {q : Tk → Int} (k k' : Nat) (l : List Tk) (a ts : List Int) (hl : l.length ≤ 1048576) (ha : a.length = l.length) (ht : ts.length = l.length) (hcap : clL capt = true)
    (hp : ∀ t, t ∈ l → PC fs ms F (tk t :: capt) (.int .i64 (q t))) (hts : ∀ (j : Nat) (h1 : j < l.length) (h2 : j < a.length) (h3 : j < ts.length), ts[j] = IntKind.i64.wrap (q l[j] * IntKind.i64.wrap (l[j].w + a[j]))) :
    PC fs ms f_demand_each [.fz k (tks l), .fz k' (ints a), .func (.func F) [] capt] (.fz 2 (ints ts)) := by
  refine ⟨by simp [clL, AV.cl, cl_tks, cl_ints, hcap], by simp [AV.cl, cl_ints], ?_⟩
  refine vd_start (af := C_demand_each) false rfl (Nat.le_of_ble_eq_true rfl) ?_
  generalize hQ : (fun (v : AV) (g : Heap) => Frz (fun _ => True) g v (.fz 2 (ints ts))) = Q
  set_option smartUnfolding false in conv => whnf
  refine ⟨_, _, by rw [len_tks]; exact mk_ints (by omega), ?_⟩
  set_option smartUnfolding false in conv => whnf
  refine vc_to 6 [(1, .fz k' (ints a)), (2, .func (.func F) [] capt), (7, .sl 0 0 l.length l.length false), (13, .fz k (tks l)), (14, .int .i64 (tks l).length), (15, .int .i64 ((0 : Nat) : Int))] 1 [(0, .cells (ints (fillR ts 0)) true 0)] id (by repeat' (first | exact trivial | refine renAt_sl rfl (by omega) ?_ | refine renAt_ptr rfl (by omega) ?_ | refine renAt_yield rfl (by omega) ?_ | refine renAt_cl rfl (by first | rfl | simp [clL, AV.cl, cl_ints, cl_tks, hcap]) ?_ | refine renAt_cl (inc_slot (by omega)) rfl ?_)) ⟨by omega, ⟨_, rfl, renB_ints (by rw [fill_zero, ht])⟩, trivial⟩ (by intro b c hb hc _; simp at hb hc; omega) (fun b hb => rfl) (Nat.zero_le _) ?_
  refine for_rowH 0 6 l.length (fun _ => True) (fun j => [(1, .fz k' (ints a)), (2, .func (.func F) [] capt), (7, .sl 0 0 l.length l.length false), (13, .fz k (tks l)), (14, .int .i64 (tks l).length), (15, .int .i64 (j : Nat))]) (fillH ts) ?_ ?_ trivial
  · intro j hj _
    show vpC fs ms 0 false false _ _ ⟨1, .node .nil (some (.cells (ints (fillR ts j)) true 0)) .nil⟩ _
    set_option smartUnfolding false in conv => whnf
    refine br (fun hc => ?_) (fun hc => ?_) <;> (try rw [hc]) <;> (set_option smartUnfolding false in conv => whnf)
    · refine ⟨_, idx_tk hj, ?_⟩
      set_option smartUnfolding false in conv => whnf
      refine vd_pure (hp l[j] (List.getElem_mem hj)) ?_
      set_option smartUnfolding false in conv => whnf
      refine ⟨_, idx_int (by omega), ?_⟩
      set_option smartUnfolding false in conv => whnf
      refine ⟨_, idx_sl hj, ?_⟩
      set_option smartUnfolding false in conv => whnf
      refine brT (by show (Nat.ble (j + 1) (ints (fillR ts j)).length && true) = true; rw [len_ints, len_fill ts (by omega), Bool.and_true]; exact Nat.ble_eq_true_of_le (by omega)) ?_
      set_option smartUnfolding false in conv => whnf
      refine ⟨winOk_of (by (set_option smartUnfolding false in conv => whnf); repeat' (first | exact trivial | (exact ⟨rfl, rfl, .inr ⟨_, _, rfl⟩⟩) | (refine ⟨rfl, rfl, .inl ⟨rfl, fun o ho => ?_⟩⟩; cases ho; first | rfl) | (exact ⟨rfl, .inr ⟨_, _, rfl⟩⟩) | (refine ⟨rfl, .inl ⟨rfl, fun i o hi ho => ?_⟩⟩; cases hi; cases ho; first | rfl) | (refine And.intro (fun _ => ?_) ?_ <;> set_option smartUnfolding false in conv => whnf) | (refine And.intro ?_ ?_ <;> set_option smartUnfolding false in conv => whnf))), ?_⟩
      set_option smartUnfolding false in conv => whnf
      refine ⟨trivial, id, gc_hk (n := 1) (m := [(0, _)]) _ (by repeat' (first | exact trivial | refine renAt_sl rfl (by omega) ?_ | refine renAt_ptr rfl (by omega) ?_ | refine renAt_yield rfl (by omega) ?_ | refine renAt_cl rfl (by first | rfl | simp [clL, AV.cl, cl_ints, cl_tks, hcap]) ?_ | refine renAt_cl (inc_slot (by omega)) rfl ?_)) ⟨by omega, ⟨_, rfl, renB_ints (fill_put ts (by omega) (hts j hj (by omega) (by omega)).symm)⟩, trivial⟩ (by intro b c hb hc _; simp at hb hc; omega) (by intro b hb; omega) (by omega)⟩
    · exfalso
      have := of_decide_eq_false hc
      rw [len_tks] at this
      omega
  · intro _
    show vpC fs ms 0 false false _ _ ⟨1, .node .nil (some (.cells (ints (fillR ts l.length)) true 0)) .nil⟩ _
    set_option smartUnfolding false in conv => whnf
    refine br (fun hc => ?_) (fun hc => ?_) <;> (try rw [hc]) <;> (set_option smartUnfolding false in conv => whnf)
    · exfalso
      have := of_decide_eq_true hc
      rw [len_tks] at this
      omega
    · subst hQ
      rw [← ht, fill_end]
      exact .row (s := 1) trivial rfl (flat_ints ts).symm (size_ints ts) (by rw [len_ints, ht]) (Nat.le_refl _) (by omega) (fun _ => rfl) (fun _ => rfl) (cl_ints ts)
end Ir
end Go.Proofs.Ytlndlbngfgaoeaa
