/-
  DemandSound.
-/
import Derived.Test.YtbmnehpppegecaaVDemS
set_option maxRecDepth 100000
set_option linter.unusedSimpArgs false
set_option linter.unusedVariables false
namespace Go.Proofs.Ytbmnehpppegecaa
open Go Ads
namespace Ir


def endsJ (J : List (Int × Int)) : List Int := J.map (·.1)
def asksJ (J : List (Int × Int)) : List Int := J.map (·.2)
theorem two_frz1 (R : List Int) : ∀ J : List (Int × Int), Frz (· ∈ [1]) (twoH R J) (twoV 1 J.length) (.fz (growK J.length) (ints (endsJ J)))
  | [] => .nils
  | x :: J => frz_open (b := 1) (s := 1) (wr := true) (es := 1) (vs := ints (endsJ (x :: J))) (by simp) rfl (flat_ints _).symm (size_ints _) (by simp [endsJ, ints]) (cl_ints _)
theorem two_frz2 (R : List Int) : ∀ J : List (Int × Int), Frz (· ∈ [2]) (delAll [1] (twoH R J)) (twoV 2 J.length) (.fz (growK J.length) (ints (asksJ J)))
  | [] => .nils
  | x :: J => frz_open (b := 2) (s := 1) (wr := true) (es := 1) (vs := ints (asksJ (x :: J))) (by simp) rfl (flat_ints _).symm (size_ints _) (by simp [asksJ, ints]) (cl_ints _)
theorem two_frz0 (R : List Int) {n : Nat} (hn : R.length = n) : ∀ J : List (Int × Int), Frz (· ∈ [0]) (delAll [2] (delAll [1] (twoH R J))) (.sl 0 0 n n false) (.fz 2 (ints R))
  | [] => .row (s := 1) (by simp) rfl (flat_ints R).symm (size_ints R) (by rw [len_ints, hn]) (Nat.le_refl _) (by omega) (fun _ => rfl) (fun _ => rfl) (cl_ints R)
  | x :: J => .row (s := 1) (by simp) rfl (flat_ints R).symm (size_ints R) (by rw [len_ints, hn]) (Nat.le_refl _) (by omega) (fun _ => rfl) (fun _ => rfl) (cl_ints R)

theorem sumE_next (n : Int) {J : List (Int × Int)} {j : Nat} (h : j < J.length) : sumE n (J.take (j + 1)) = sumE n (J.take j) + (if (endsJ J)[j]'(by simp [endsJ]; exact h) ≤ n then (asksJ J)[j]'(by simp [asksJ]; exact h) else 0) := by
  rw [take_next h, sumE_app]
  simp [sumE, endsJ, asksJ]
theorem sumE_in (n : Int) : ∀ (J : List (Int × Int)), (∀ x, x ∈ J → 0 ≤ x.2 ∧ x.2 ≤ 100) → 0 ≤ sumE n J ∧ sumE n J ≤ J.length * 100
  | [], _ => by simp [sumE]
  | x :: J, h => by
    have hx := h x List.mem_cons_self
    have := sumE_in n J (fun y hy => h y (List.mem_cons_of_mem _ hy))
    simp only [sumE, List.map_cons, List.sum_cons, List.length_cons] at *
    split <;> omega
theorem fill_get (ts : List Int) {i : Nat} (h : i < ts.length) : (fillR ts (i + 1))[i]? = some ts[i] := by
  have : i < (ts.take (i + 1)).length := by simp; omega
  rw [fillR, List.getElem?_append_left this, List.getElem?_take]
  simp [h]

/-- How much more a task asks for. -/
def moreS (fr : Int) (n : Nat) : List Int := (List.range n).map fun i => bring (IntKind.i64.wrap (fr + (i : Nat))) 5
theorem more_len (fr : Int) (n : Nat) : (moreS fr n).length = n := by simp [moreS]
theorem more_in (fr : Int) (n : Nat) : ∀ m, m ∈ moreS fr n → 0 ≤ m ∧ m ≤ 4 := by
  intro m hm
  obtain ⟨i, _, rfl⟩ := List.mem_map.1 hm
  have a1 := Int.emod_nonneg (IntKind.i64.wrap (fr + (i : Nat))) (show (5 : Int) ≠ 0 by omega)
  have a2 := Int.emod_lt_of_pos (IntKind.i64.wrap (fr + (i : Nat))) (show (0 : Int) < 5 by omega)
  simp only [bring]
  omega

theorem sound_out {kk k' : Nat} {L : List Tk} {later : List Int} {fr b : Int} {Q : AX → Env → Heap → Prop} (o : ∀ t, t ∈ L → OkT t) (hL : L.length ≤ 4) (hb : 0 ≤ b ∧ b < 200) (hlat : later.length ≤ 17592186044416)
    (hq : ∀ J : List (Int × Int), J = allS later L (moreS fr L.length) b L.length → Q (.exit 0) (Tr.set (Tr.set (Tr.set (Tr.set (ek 5 [(0, .fz kk (tks L)), (1, .fz k' (ints later)), (2, .int .i64 fr), (7, .sl 0 0 L.length L.length false), (8, .int .i64 b), (9, twoV 1 J.length), (10, twoV 2 J.length), (11, .int .i64 (L.length : Nat))]) 28 (.int .i64 (L.length : Nat))) 29 (.fz kk (tks L))) 30 (.int .i64 (tks L).length)) 31 (.bool false)) (twoH (fillR (moreS fr L.length) L.length) J)) :
    VC fs ms 0 false (.loop L_escapementlaw08_DemandSound_0) (ek 5 [(0, .fz kk (tks L)), (1, .fz k' (ints later)), (2, .int .i64 fr), (7, .sl 0 0 L.length L.length false), (8, .int .i64 b), (9, twoV 1 0), (10, twoV 2 0), (11, .int .i64 ((0 : Nat) : Int))]) (twoH (fillR (moreS fr L.length) 0) []) Q := by
  have hM := more_len fr L.length
  have hMi := more_in fr L.length
  refine for_rowH 0 5 L.length (fun _ => True) (fun i => [(0, .fz kk (tks L)), (1, .fz k' (ints later)), (2, .int .i64 fr), (7, .sl 0 0 L.length L.length false), (8, .int .i64 b), (9, twoV 1 (allS later L (moreS fr L.length) b i).length), (10, twoV 2 (allS later L (moreS fr L.length) b i).length), (11, .int .i64 (i : Nat))]) (fun i => twoH (fillR (moreS fr L.length) i) (allS later L (moreS fr L.length) b i)) ?_ ?_ trivial
  · intro i hi _
    have hnext : allS later L (moreS fr L.length) b (i + 1) = jsF (incS later i) L[i] ((moreS fr L.length)[i]'(by omega)) b (allS later L (moreS fr L.length) b i) 10 := by
      rw [jsF_eq, allS, oneS]
      simp only [List.getElem?_eq_getElem hi, List.getElem?_eq_getElem (show i < (moreS fr L.length).length by omega)]
    have hJl := (all_in (later := later) o hMi hb i).1
    have hMe : (moreS fr L.length)[i]'(by omega) = bring (IntKind.i64.wrap (fr + (i : Nat))) 5 := by simp [moreS]
    have hRi := fill_get (moreS fr L.length) (i := i) (by omega)
    have hm := hMi _ (List.getElem_mem (show i < (moreS fr L.length).length by omega))
    have hput := fill_put (moreS fr L.length) (j := i) (by omega) hMe.symm
    have hlen : (fillR (moreS fr L.length) i).length = L.length := by rw [len_fill _ (by omega), hM]
    show vpC fs ms 0 false false L_escapementlaw08_DemandSound_0 _ (twoH (fillR (moreS fr L.length) i) (allS later L (moreS fr L.length) b i)) _
    simp only [hnext]
    generalize hJ : allS later L (moreS fr L.length) b i = J at *
    cases J with
    | nil =>
      conv => whnf
      refine brt (by rw [len_tks]; simp; omega) (fun hc => ?_)
      (try rw [hc])
      conv => whnf
      refine vd_pure (bring_c _ 5 (by omega) (by omega)) ?_
      conv => whnf
      refine ⟨_, idx_sl hi, ?_⟩
      conv => whnf
      refine brT (by show (Nat.ble (i + 1) (ints (fillR (moreS fr L.length) i)).length && true) = true; rw [len_ints, hlen, Bool.and_true]; exact Nat.ble_eq_true_of_le (by omega)) ?_
      conv => whnf
      refine vc_lit (H := twoH (fillR (moreS fr L.length) (i + 1)) []) (d := 5) (l := inE kk k' L later fr b i L.length 0 0 0) (two_nil _) id (by repeat' (first | exact trivial | refine renAt_sl rfl (by omega) ?_ | refine renAt_ptr rfl (by omega) ?_ | refine renAt_yield rfl (by omega) ?_ | refine renAt_cl rfl (by first | rfl | simp [clL, AV.cl, cl_ints, cl_tks]) ?_ | refine renAt_cl (inc_slot (by omega)) rfl ?_)) ⟨by omega, ⟨_, rfl, renB_ints hput⟩, trivial⟩ (by intro b c hb hc _; simp at hb hc; omega) (by intro b hb; omega) (by omega) ?_
      refine inner_run (J0 := []) o hi (by omega) rfl hRi hi hm hb hlat hJl ?_
      intro J2 A2 hJ2
      rw [← hJ2]
      conv => whnf
      clear hJ2
      cases J2 with
      | nil => exact ⟨trivial, id, gc_lit (two_nil _) _ (by repeat' (first | exact trivial | refine renAt_sl rfl (by omega) ?_ | refine renAt_ptr rfl (by omega) ?_ | refine renAt_yield rfl (by omega) ?_ | refine renAt_cl rfl (by first | rfl | simp [clL, AV.cl, cl_ints, cl_tks]) ?_ | refine renAt_cl (inc_slot (by omega)) rfl ?_)) ⟨by omega, ⟨_, rfl, renB_ints rfl⟩, trivial⟩ (by intro b c hb hc _; simp at hb hc; omega) (by intro b hb; omega) (by omega)⟩
      | cons y J2 => exact ⟨trivial, id, gc_lit (two_cons _ _ _) _ (by repeat' (first | exact trivial | refine renAt_sl rfl (by omega) ?_ | refine renAt_ptr rfl (by omega) ?_ | refine renAt_yield rfl (by omega) ?_ | refine renAt_cl rfl (by first | rfl | simp [clL, AV.cl, cl_ints, cl_tks]) ?_ | refine renAt_cl (inc_slot (by omega)) rfl ?_)) ⟨by omega, ⟨_, rfl, renB_ints rfl⟩, by omega, ⟨_, rfl, renB_ints rfl⟩, by omega, ⟨_, rfl, renB_ints rfl⟩, trivial⟩ (by intro b c hb hc h; simp only [List.map_cons, List.map_nil, List.mem_cons, List.not_mem_nil, or_false] at hb hc; rcases hb with h1 | h1 | h1 <;> rcases hc with h2 | h2 | h2 <;> subst h1 <;> subst h2 <;> first | rfl | (revert h; decide)) (by intro b hb; omega) (by omega)⟩
    | cons x J =>
      conv => whnf
      refine brt (by rw [len_tks]; simp; omega) (fun hc => ?_)
      (try rw [hc])
      conv => whnf
      refine vd_pure (bring_c _ 5 (by omega) (by omega)) ?_
      conv => whnf
      refine ⟨_, idx_sl hi, ?_⟩
      conv => whnf
      refine brT (by show (Nat.ble (i + 1) (ints (fillR (moreS fr L.length) i)).length && true) = true; rw [len_ints, hlen, Bool.and_true]; exact Nat.ble_eq_true_of_le (by omega)) ?_
      conv => whnf
      refine vc_lit (H := twoH (fillR (moreS fr L.length) (i + 1)) (x :: J)) (d := 5) (l := inE kk k' L later fr b i L.length 0 (x :: J).length 0) (two_cons _ _ _) id (by repeat' (first | exact trivial | refine renAt_sl rfl (by omega) ?_ | refine renAt_ptr rfl (by omega) ?_ | refine renAt_yield rfl (by omega) ?_ | refine renAt_cl rfl (by first | rfl | simp [clL, AV.cl, cl_ints, cl_tks]) ?_ | refine renAt_cl (inc_slot (by omega)) rfl ?_)) ⟨by omega, ⟨_, rfl, renB_ints hput⟩, by omega, ⟨_, rfl, renB_ints rfl⟩, by omega, ⟨_, rfl, renB_ints rfl⟩, trivial⟩ (by intro b c hb hc h; simp only [List.map_cons, List.map_nil, List.mem_cons, List.not_mem_nil, or_false] at hb hc; rcases hb with h1 | h1 | h1 <;> rcases hc with h2 | h2 | h2 <;> subst h1 <;> subst h2 <;> first | rfl | (revert h; decide)) (by intro b hb; omega) (by omega) ?_
      refine inner_run (J0 := x :: J) o hi (by omega) rfl hRi hi hm hb hlat hJl ?_
      intro J2 A2 hJ2
      rw [← hJ2]
      conv => whnf
      clear hJ2
      cases J2 with
      | nil => exact ⟨trivial, id, gc_lit (two_nil _) _ (by repeat' (first | exact trivial | refine renAt_sl rfl (by omega) ?_ | refine renAt_ptr rfl (by omega) ?_ | refine renAt_yield rfl (by omega) ?_ | refine renAt_cl rfl (by first | rfl | simp [clL, AV.cl, cl_ints, cl_tks]) ?_ | refine renAt_cl (inc_slot (by omega)) rfl ?_)) ⟨by omega, ⟨_, rfl, renB_ints rfl⟩, trivial⟩ (by intro b c hb hc _; simp at hb hc; omega) (by intro b hb; omega) (by omega)⟩
      | cons y J2 => exact ⟨trivial, id, gc_lit (two_cons _ _ _) _ (by repeat' (first | exact trivial | refine renAt_sl rfl (by omega) ?_ | refine renAt_ptr rfl (by omega) ?_ | refine renAt_yield rfl (by omega) ?_ | refine renAt_cl rfl (by first | rfl | simp [clL, AV.cl, cl_ints, cl_tks]) ?_ | refine renAt_cl (inc_slot (by omega)) rfl ?_)) ⟨by omega, ⟨_, rfl, renB_ints rfl⟩, by omega, ⟨_, rfl, renB_ints rfl⟩, by omega, ⟨_, rfl, renB_ints rfl⟩, trivial⟩ (by intro b c hb hc h; simp only [List.map_cons, List.map_nil, List.mem_cons, List.not_mem_nil, or_false] at hb hc; rcases hb with h1 | h1 | h1 <;> rcases hc with h2 | h2 | h2 <;> subst h1 <;> subst h2 <;> first | rfl | (revert h; decide)) (by intro b hb; omega) (by omega)⟩
  · intro _
    show vpC fs ms 0 false false L_escapementlaw08_DemandSound_0 _ (twoH (fillR (moreS fr L.length) L.length) (allS later L (moreS fr L.length) b L.length)) _
    have hq' := hq _ rfl
    generalize allS later L (moreS fr L.length) b L.length = J at *
    generalize twoH (fillR (moreS fr L.length) L.length) J = G at *
    conv => whnf
    refine br (fun hc => ?_) (fun hc => ?_) <;> (try rw [hc]) <;> (conv => whnf)
    · exfalso
      have := of_decide_eq_true hc
      simp only [len_tks] at this
      omega
    · exact hq'
end Ir
end Go.Proofs.Ytbmnehpppegecaa
