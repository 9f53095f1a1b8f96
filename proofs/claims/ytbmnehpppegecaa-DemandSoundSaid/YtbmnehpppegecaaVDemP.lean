/-
  Demand: tasks made to be such.
-/
import Derived.Test.YtbmnehpppegecaaVDemJ
import Derived.Test.YtbmnehpppegecaaVDem
import Derived.Test.YtbmnehpppegecaaVDemN
set_option maxRecDepth 100000
set_option linter.unusedSimpArgs false
set_option linter.unusedVariables false
namespace Go.Proofs.Ytbmnehpppegecaa
open Go Ads
namespace Ir

def mk1 (t : Tk) : Tk := ⟨1 + t.p % 64, 1 + t.d % (1 + t.p % 64), 1 + t.w % (1 + t.d % (1 + t.p % 64)), 0, 0, 0, 0, 0⟩
def mkT (l : List Tk) : List Tk := (l.take 4).map mk1
theorem mk1_in (t : Tk) : 1 ≤ (mk1 t).w ∧ (mk1 t).w ≤ (mk1 t).d ∧ (mk1 t).d ≤ (mk1 t).p ∧ (mk1 t).p ≤ 64 := by
  have a1 := Int.emod_nonneg t.p (show (64 : Int) ≠ 0 by omega)
  have a2 := Int.emod_lt_of_pos t.p (show (0 : Int) < 64 by omega)
  have b1 := Int.emod_nonneg t.d (show 1 + t.p % 64 ≠ 0 by omega)
  have b2 := Int.emod_lt_of_pos t.d (show 0 < 1 + t.p % 64 by omega)
  have c1 := Int.emod_nonneg t.w (show 1 + t.d % (1 + t.p % 64) ≠ 0 by omega)
  have c2 := Int.emod_lt_of_pos t.w (show 0 < 1 + t.d % (1 + t.p % 64) by omega)
  simp only [mk1]
  omega
theorem size_tks (l : List Tk) : allSize 8 (tks l) = true := allSize_map (enc := tk) (fun _ => rfl) l
theorem flat_tks1 (l : List Tk) (t : Tk) : flatCells (tks (l ++ [t])) = flatCells (tks l) ++ (tk t).cells := by
  induction l with
  | nil => simp [tks, flatCells]
  | cons u l ih =>
    show (tk u).cells ++ flatCells (tks (l ++ [t])) = (tk u).cells ++ flatCells (tks l) ++ _
    rw [ih, List.append_assoc]
theorem len_flat (l : List Tk) : (flatCells (tks l)).length = l.length * 8 := by
  induction l with
  | nil => rfl
  | cons u l ih =>
    show ((tk u).cells ++ flatCells (tks l)).length = _
    rw [List.length_append, ih]
    simp [tk, AV.cells]
    omega
theorem tks_take (l : List Tk) (j : Nat) : (tks l).take j = tks (l.take j) := by simp [tks]

theorem cl_flat {l : List AV} (h : clL l = true) : clL (flatCells l) = true := by
  induction l with
  | nil => rfl
  | cons x l ih =>
    simp only [clL, Bool.and_eq_true] at h
    exact clL_app (cells_cl h.1) (ih h.2)

theorem made8_c (k : Nat) (l : List Tk) (hl : l.length < 2 ^ 62) : PC fs ms f_escapementlaw08_made [.fz k (tks l)] (.fz (growK (mkT l).length) (tks (mkT l))) := by
  refine ⟨by simp [clL, AV.cl, cl_tks], by simp [AV.cl, cl_tks], ?_⟩
  refine vd_start (af := C_escapementlaw08_made) false rfl (Nat.le_of_ble_eq_true rfl) ?_
  generalize hQ : (fun (u : AV) (g : Heap) => Frz (fun _ => True) g u (.fz (growK (mkT l).length) (tks (mkT l)))) = Q
  conv => whnf
  have hN : (mkT l).length = min 4 l.length := by simp [mkT]
  refine vc_to0 6 [(0, .fz k (tks l)), (3, .nils), (4, .int .i64 ((0 : Nat) : Int))] (by repeat' (first | exact trivial | refine renAt_sl rfl (by omega) ?_ | refine renAt_ptr rfl (by omega) ?_ | refine renAt_yield rfl (by omega) ?_ | refine renAt_cl rfl (by first | rfl | simp [clL, AV.cl, cl_ints, cl_tks]) ?_ | refine renAt_cl (inc_slot (by omega)) rfl ?_)) ?_
  refine for_rowH 0 6 (mkT l).length (fun _ => True) (fun j => [(0, .fz k (tks l)), (3, growV j), (4, .int .i64 (j : Nat))]) (growH 8 (tks (mkT l))) ?_ ?_ trivial
  · intro j hj _
    have hjl : j < l.length := by omega
    have hj4 : j < 4 := by omega
    have hT : (mkT l).take (j + 1) = (mkT l).take j ++ [mk1 l[j]] := by
      rw [take_next hj]
      simp [mkT]
    have hin := mk1_in l[j]
    have b1 : IntKind.i64.wrap (1 + bring l[j].p 64) = (mk1 l[j]).p := IntWalk.i64_in _ (by show _ ≤ (mk1 l[j]).p ∧ (mk1 l[j]).p ≤ _; omega)
    have b2 : IntKind.i64.wrap (1 + bring l[j].d (mk1 l[j]).p) = (mk1 l[j]).d := IntWalk.i64_in _ (by show _ ≤ (mk1 l[j]).d ∧ (mk1 l[j]).d ≤ _; omega)
    have b3 : IntKind.i64.wrap (1 + bring l[j].w (mk1 l[j]).d) = (mk1 l[j]).w := IntWalk.i64_in _ (by show _ ≤ (mk1 l[j]).w ∧ (mk1 l[j]).w ≤ _; omega)
    have hmk : mk1 l[j] = ⟨(mk1 l[j]).p, (mk1 l[j]).d, (mk1 l[j]).w, 0, 0, 0, 0, 0⟩ := rfl
    generalize hm : mk1 l[j] = m at *
    cases j with
    | zero =>
      conv => whnf
      refine brt (by rw [len_tks]; simp; omega) (fun hc => ?_)
      (try rw [hc])
      conv => whnf
      refine ⟨_, idx_tk hjl, ?_⟩
      conv => whnf
      refine vd_pure (bring_c _ 64 (by omega) (by omega)) ?_
      conv => whnf
      rw [b1]
      conv => whnf
      refine ⟨_, idx_tk hjl, ?_⟩
      conv => whnf
      refine vd_pure (bring_c _ m.p (by omega) (by omega)) ?_
      conv => whnf
      rw [b2]
      conv => whnf
      refine ⟨_, idx_tk hjl, ?_⟩
      conv => whnf
      refine vd_pure (bring_c _ m.d (by omega) (by omega)) ?_
      conv => whnf
      rw [b3]
      conv => whnf
      refine ⟨_, _, app_nilsS (cs := (tk ⟨m.p, m.d, m.w, 0, 0, 0, 0, 0⟩).cells) (by omega) rfl rfl, ?_⟩
      conv => whnf
      refine ⟨trivial, fun b => 1, gc_hk (n := 1) (m := [(0, _)]) _ (by repeat' (first | exact trivial | refine renAt_sl rfl (by omega) ?_ | refine renAt_ptr rfl (by omega) ?_ | refine renAt_yield rfl (by omega) ?_ | refine renAt_cl rfl (by first | rfl | simp [clL, AV.cl, cl_ints, cl_tks]) ?_ | refine renAt_cl (inc_slot (by omega)) rfl ?_)) ⟨by omega, ⟨_, rfl, renB_cl ?_ (cl_flat (by simp [cl_tks, tks_take]))⟩, trivial⟩ (by intro b c hb hc _; simp at hb hc; omega) (by intro b hb; omega) (by omega)⟩
      show (tk ⟨m.p, m.d, m.w, 0, 0, 0, 0, 0⟩).cells = flatCells ((tks (mkT l)).take (0 + 1))
      rw [tks_take, hT, ← hmk]
      rfl
    | succ j =>
      conv => whnf
      refine brt (by rw [len_tks]; simp; omega) (fun hc => ?_)
      (try rw [hc])
      conv => whnf
      refine brt (by simp; omega) (fun hc => ?_)
      (try rw [hc])
      conv => whnf
      refine ⟨_, idx_tk hjl, ?_⟩
      conv => whnf
      refine vd_pure (bring_c _ 64 (by omega) (by omega)) ?_
      conv => whnf
      rw [b1]
      conv => whnf
      refine ⟨_, idx_tk hjl, ?_⟩
      conv => whnf
      refine vd_pure (bring_c _ m.p (by omega) (by omega)) ?_
      conv => whnf
      rw [b2]
      conv => whnf
      refine ⟨_, idx_tk hjl, ?_⟩
      conv => whnf
      refine vd_pure (bring_c _ m.d (by omega) (by omega)) ?_
      conv => whnf
      rw [b3]
      conv => whnf
      have hle : j + 1 ≤ (mkT l).length := by omega
      refine ⟨_, _, app_openS (cs := (tk ⟨m.p, m.d, m.w, 0, 0, 0, 0, 0⟩).cells) (vs := flatCells ((tks (mkT l)).take (j + 1))) rfl (by rw [tks_take, len_flat, List.length_take, Nat.min_eq_left hle]) (by omega) (by omega) rfl rfl, ?_⟩
      conv => whnf
      refine ⟨trivial, fun b => 2, gc_hk (n := 1) (m := [(0, _)]) _ (by repeat' (first | exact trivial | refine renAt_sl rfl (by omega) ?_ | refine renAt_ptr rfl (by omega) ?_ | refine renAt_yield rfl (by omega) ?_ | refine renAt_cl rfl (by first | rfl | simp [clL, AV.cl, cl_ints, cl_tks]) ?_ | refine renAt_cl (inc_slot (by omega)) rfl ?_)) ⟨by omega, ⟨_, rfl, renB_cl ?_ (cl_flat (by simp [cl_tks, tks_take]))⟩, trivial⟩ (by intro b c hb hc _; simp at hb hc; omega) (by intro b hb; omega) (by omega)⟩
      show flatCells ((tks (mkT l)).take (j + 1)) ++ (tk ⟨m.p, m.d, m.w, 0, 0, 0, 0, 0⟩).cells = flatCells ((tks (mkT l)).take (j + 1 + 1))
      rw [tks_take, tks_take, hT, flat_tks1, ← hmk]
  · intro _
    have hlast : Q (growV (mkT l).length) (growH 8 (tks (mkT l)) (mkT l).length) := by
      subst hQ
      rw [show (mkT l).length = (tks (mkT l)).length from (len_tks _).symm]
      exact grow_frz (size_tks _) (cl_tks _) trivial _ rfl
    clear hQ
    generalize growH 8 (tks (mkT l)) (mkT l).length = G at *
    generalize growV (mkT l).length = V at *
    generalize (mkT l).length = n at *
    by_cases hn : n < l.length
    · have hn4 : n = 4 := by omega
      conv => whnf
      refine brt (by rw [len_tks]; simp; omega) (fun hc => ?_)
      (try rw [hc])
      conv => whnf
      refine brf (by simp; omega) (fun hc => ?_)
      (try rw [hc])
      conv => whnf
      exact hlast
    · conv => whnf
      refine brf (by rw [len_tks]; simp; omega) (fun hc => ?_)
      (try rw [hc])
      conv => whnf
      exact hlast
end Ir
end Go.Proofs.Ytbmnehpppegecaa
