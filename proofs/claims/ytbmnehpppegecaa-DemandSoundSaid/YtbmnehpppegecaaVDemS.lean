/-
  Demand: DemandSound, the rows of jobs.
-/
import Derived.Test.YtbmnehpppegecaaVDemR
import Derived.KernelRfl
set_option maxRecDepth 100000
set_option linter.unusedSimpArgs false
set_option linter.unusedVariables false
namespace Go.Proofs.Ytbmnehpppegecaa
open Go Ads
namespace Ir

def twoV (b : Nat) : Nat → AV
  | 0 => .nils
  | c + 1 => .sl b 0 (c + 1) (c + 1) true
def twoH (R : List Int) (J : List (Int × Int)) : Heap := match J with
  | [] => ⟨1, .node .nil (some (.cells (ints R) true 0)) .nil⟩
  | x :: J => ⟨3, .node (.node .nil (some (.cells (ints ((x :: J).map (·.1))) true 1)) .nil) (some (.cells (ints R) true 0)) (.node .nil (some (.cells (ints ((x :: J).map (·.2))) true 1)) .nil)⟩

theorem two_nil (R : List Int) : twoH R [] = hk 1 [(0, .cells (ints R) true 0)] := rfl
theorem two_cons (R : List Int) (x : Int × Int) (J : List (Int × Int)) : twoH R (x :: J) = hk 3 [(0, .cells (ints R) true 0), (1, .cells (ints ((x :: J).map (·.1))) true 1), (2, .cells (ints ((x :: J).map (·.2))) true 1)] := by kernel_rfl


/-- Jobs of a task behind those of others. -/
def jsF (inc : Nat → Int) (t : Tk) (m b : Int) (J0 : List (Int × Int)) : Nat → List (Int × Int)
  | 0 => J0
  | k + 1 => jsF inc t m b J0 k ++ (if b ≤ atS inc t.p k + inc k then [(atS inc t.p k + inc k + t.d - b, t.w + m)] else [])
theorem jsF_eq (inc : Nat → Int) (t : Tk) (m b : Int) (J0 : List (Int × Int)) : ∀ k, jsF inc t m b J0 k = J0 ++ jsS inc t m b k
  | 0 => by simp [jsF, jsS]
  | k + 1 => by rw [jsF, jsF_eq _ _ _ _ _ k, jsS, List.append_assoc]

def inE (kk k' : Nat) (L : List Tk) (later : List Int) (fr b : Int) (i n : Nat) (at1 : Int) (c k : Nat) : List (Nat × AV) :=
  [(0, .fz kk (tks L)), (1, .fz k' (ints later)), (2, .int .i64 fr), (7, .sl 0 0 n n false), (8, .int .i64 b), (9, twoV 1 c), (10, twoV 2 c), (11, .int .i64 (i : Nat)), (12, .int .i64 at1), (13, .int .i64 (k : Nat))]

theorem inner_run {kk k' : Nat} {L : List Tk} {later : List Int} {fr b m : Int} {i n : Nat} {R : List Int} {J0 : List (Int × Int)} {Q : AX → Env → Heap → Prop} (o : ∀ t, t ∈ L → OkT t) (hi : i < L.length) (hi4 : i < 4) (hn : L.length = n)
    (hR : R[i]? = some m) (hRn : i < n) (hm : 0 ≤ m ∧ m ≤ 4) (hb : 0 ≤ b ∧ b < 200) (hlat : later.length ≤ 17592186044416) (hJ0 : J0.length ≤ i * 10)
    (hq : ∀ (J2 : List (Int × Int)) (A2 : Int), J2 = jsF (incS later i) L[i] m b J0 10 → Q (.exit 2) (Tr.set (Tr.set (ek 5 (inE kk k' L later fr b i n A2 J2.length 10)) 41 (.int .i64 (10 : Nat))) 42 (.bool false)) (twoH R J2)) :
    VC fs ms 0 false (.loop L_escapementlaw08_DemandSound_1) (ek 5 (inE kk k' L later fr b i n 0 J0.length 0)) (twoH R J0) Q := by
  refine for_rowH 0 5 10 (fun _ => True) (fun k => inE kk k' L later fr b i n (atS (incS later i) L[i].p k) (jsF (incS later i) L[i] m b J0 k).length k) (fun k => twoH R (jsF (incS later i) L[i] m b J0 k)) ?_ ?_ trivial
  · intro k hk _
    obtain ⟨o1, o2, o3, o4⟩ := o _ (List.getElem_mem hi)
    have hat := at_in (inc := incS later i) (p := L[i].p) ⟨by omega, o4⟩ (inc_in later i) k
    have hin := inc_in later i k
    have hat1 : atS (incS later i) L[i].p (k + 1) = atS (incS later i) L[i].p k + incS later i k + L[i].p := rfl
    have hJs : jsF (incS later i) L[i] m b J0 (k + 1) = jsF (incS later i) L[i] m b J0 k ++ (if b ≤ atS (incS later i) L[i].p k + incS later i k then [(atS (incS later i) L[i].p k + incS later i k + L[i].d - b, L[i].w + m)] else []) := rfl
    have hJl : (jsF (incS later i) L[i] m b J0 k).length ≤ 1048576 := by
      rw [jsF_eq, List.length_append]
      have := (js_in (inc := incS later i) (b := b) (o _ (List.getElem_mem hi)) hm hb (inc_in later i) k (by omega)).1
      omega
    have hincE : ∀ hpos : 0 < later.length, incS later i k = bring (later[(i * 10 + k) % later.length]'(Nat.mod_lt _ hpos)) 20 := by
      intro hpos
      have hlt : (i * 10 + k) % later.length < later.length := Nat.mod_lt _ hpos
      have : incS later i k = (later.getD ((i * 10 + k) % later.length) 0) % 20 := by
        cases later with
        | nil => simp at hpos
        | cons x xs => rfl
      rw [this, List.getD_eq_getElem?_getD, List.getElem?_eq_getElem hlt]
      rfl
    have hidx : (IntKind.i64.wrap (IntKind.i64.wrap ((i : Int) * 10) + (k : Int))).tmod ((ints later).length : Int) = (((i * 10 + k) % later.length : Nat) : Int) := by
      rw [IntWalk.i64_in ((i : Int) * 10) (by omega), IntWalk.i64_in _ (by omega), len_ints]
      rfl
    show vpC fs ms 0 false false L_escapementlaw08_DemandSound_1 _ (twoH R (jsF (incS later i) L[i] m b J0 k)) _
    simp only [hat1, hJs]
    generalize jsF (incS later i) L[i] m b J0 k = J at *
    generalize atS (incS later i) L[i].p k = A at *
    generalize hc0 : incS later i k = c at *
    have e1 : IntKind.i64.wrap (A + c) = A + c := IntWalk.i64_in _ (by omega)
    have e2 : IntKind.i64.wrap (A + c + L[i].d) = A + c + L[i].d := IntWalk.i64_in _ (by omega)
    have e3 : IntKind.i64.wrap (A + c + L[i].d - b) = A + c + L[i].d - b := IntWalk.i64_in _ (by omega)
    have e4 : IntKind.i64.wrap (L[i].w + m) = L[i].w + m := IntWalk.i64_in _ (by omega)
    have e5 : IntKind.i64.wrap (A + c + L[i].p) = A + c + L[i].p := IntWalk.i64_in _ (by omega)
    cases later with
    | nil =>
      have hc : c = 0 := hc0.symm.trans rfl
      subst hc
      simp only [Int.add_zero] at *
      cases J with
      | nil =>
        by_cases hbB : b ≤ A
        · simp only [if_pos hbB]
          simp only [List.nil_append]
          conv => whnf
          refine brt (by simp; omega) (fun hc => ?_)
          (try rw [hc])
          conv => whnf
          refine brt (by simp; omega) (fun hc => ?_)
          (try rw [hc])
          conv => whnf
          refine ⟨_, idx_tk hi, ?_⟩
          conv => whnf
          rw [e2]
          conv => whnf
          rw [e3]
          conv => whnf
          refine ⟨_, _, app_nils rfl, ?_⟩
          conv => whnf
          refine ⟨_, idx_tk hi, ?_⟩
          conv => whnf
          refine ⟨_, idx_sl hRn, ?_⟩
          conv => whnf
          refine op_some (ld1 (v := .int .i64 m) (vs := ints R) rfl (by simp [ints, hR])) ?_
          conv => whnf
          rw [e4]
          conv => whnf
          refine ⟨_, _, app_nils rfl, ?_⟩
          conv => whnf
          refine ⟨_, idx_tk hi, ?_⟩
          conv => whnf
          rw [e5]
          conv => whnf
          refine ⟨trivial, (fun b => 2 * b), gc_lit (two_cons _ _ _) _ (by repeat' (first | exact trivial | refine renAt_sl rfl (by omega) ?_ | refine renAt_ptr rfl (by omega) ?_ | refine renAt_yield rfl (by omega) ?_ | refine renAt_cl rfl (by first | rfl | simp [clL, AV.cl, cl_ints, cl_tks]) ?_ | refine renAt_cl (inc_slot (by omega)) rfl ?_)) ⟨by omega, ⟨_, rfl, renB_ints rfl⟩, by omega, ⟨_, rfl, renB_ints (by simp [ints])⟩, by omega, ⟨_, rfl, renB_ints (by simp [ints])⟩, trivial⟩ (by intro b c hb hc h; simp only [List.map_cons, List.map_nil, List.mem_cons, List.not_mem_nil, or_false] at hb hc; rcases hb with h1 | h1 | h1 <;> rcases hc with h2 | h2 | h2 <;> subst h1 <;> subst h2 <;> first | rfl | (revert h; decide)) (by intro b hb; omega) (by omega)⟩

        · simp only [if_neg hbB, List.append_nil]
          conv => whnf
          refine brt (by simp; omega) (fun hc => ?_)
          (try rw [hc])
          conv => whnf
          refine brf (by simp; omega) (fun hc => ?_)
          (try rw [hc])
          conv => whnf
          refine ⟨_, idx_tk hi, ?_⟩
          conv => whnf
          rw [e5]
          conv => whnf
          refine ⟨trivial, id, gc_lit (two_nil _) _ (by repeat' (first | exact trivial | refine renAt_sl rfl (by omega) ?_ | refine renAt_ptr rfl (by omega) ?_ | refine renAt_yield rfl (by omega) ?_ | refine renAt_cl rfl (by first | rfl | simp [clL, AV.cl, cl_ints, cl_tks]) ?_ | refine renAt_cl (inc_slot (by omega)) rfl ?_)) ⟨by omega, ⟨_, rfl, renB_ints rfl⟩, trivial⟩ (by intro b c hb hc _; simp at hb hc; omega) (by intro b hb; omega) (by omega)⟩

      | cons x J =>
        by_cases hbB : b ≤ A
        · simp only [if_pos hbB]
          simp only [List.cons_append, List.length_cons, List.length_append, List.length_nil, Nat.zero_add]
          conv => whnf
          refine brt (by simp; omega) (fun hc => ?_)
          (try rw [hc])
          conv => whnf
          refine brt (by simp; omega) (fun hc => ?_)
          (try rw [hc])
          conv => whnf
          refine ⟨_, idx_tk hi, ?_⟩
          conv => whnf
          rw [e2]
          conv => whnf
          rw [e3]
          conv => whnf
          refine ⟨_, _, app_open (vs := ints ((x :: J).map (·.1))) rfl (by simp [ints]) (by simp at hJl; omega) rfl, ?_⟩
          conv => whnf
          refine ⟨_, idx_tk hi, ?_⟩
          conv => whnf
          refine ⟨_, idx_sl hRn, ?_⟩
          conv => whnf
          refine op_some (ld1 (v := .int .i64 m) (vs := ints R) rfl (by simp [ints, hR])) ?_
          conv => whnf
          rw [e4]
          conv => whnf
          refine ⟨_, _, app_open (vs := ints ((x :: J).map (·.2))) rfl (by simp [ints]) (by simp at hJl; omega) rfl, ?_⟩
          conv => whnf
          refine ⟨_, idx_tk hi, ?_⟩
          conv => whnf
          rw [e5]
          conv => whnf
          refine ⟨trivial, (fun b => cond (Nat.beq b 0) 0 (2 * b + 2)), gc_lit (two_cons _ _ _) _ (by repeat' (first | exact trivial | refine renAt_sl rfl (by omega) ?_ | refine renAt_ptr rfl (by omega) ?_ | refine renAt_yield rfl (by omega) ?_ | refine renAt_cl rfl (by first | rfl | simp [clL, AV.cl, cl_ints, cl_tks]) ?_ | refine renAt_cl (inc_slot (by omega)) rfl ?_)) ⟨by omega, ⟨_, rfl, renB_ints rfl⟩, by omega, ⟨_, rfl, renB_ints (by simp [ints])⟩, by omega, ⟨_, rfl, renB_ints (by simp [ints])⟩, trivial⟩ (by intro b c hb hc h; simp only [List.map_cons, List.map_nil, List.mem_cons, List.not_mem_nil, or_false] at hb hc; rcases hb with h1 | h1 | h1 <;> rcases hc with h2 | h2 | h2 <;> subst h1 <;> subst h2 <;> first | rfl | (revert h; decide)) (by intro b hb; omega) (by omega)⟩

        · simp only [if_neg hbB, List.append_nil]
          conv => whnf
          refine brt (by simp; omega) (fun hc => ?_)
          (try rw [hc])
          conv => whnf
          refine brf (by simp; omega) (fun hc => ?_)
          (try rw [hc])
          conv => whnf
          refine ⟨_, idx_tk hi, ?_⟩
          conv => whnf
          rw [e5]
          conv => whnf
          refine ⟨trivial, id, gc_lit (two_cons _ _ _) _ (by repeat' (first | exact trivial | refine renAt_sl rfl (by omega) ?_ | refine renAt_ptr rfl (by omega) ?_ | refine renAt_yield rfl (by omega) ?_ | refine renAt_cl rfl (by first | rfl | simp [clL, AV.cl, cl_ints, cl_tks]) ?_ | refine renAt_cl (inc_slot (by omega)) rfl ?_)) ⟨by omega, ⟨_, rfl, renB_ints rfl⟩, by omega, ⟨_, rfl, renB_ints (by simp [ints])⟩, by omega, ⟨_, rfl, renB_ints (by simp [ints])⟩, trivial⟩ (by intro b c hb hc h; simp only [List.map_cons, List.map_nil, List.mem_cons, List.not_mem_nil, or_false] at hb hc; rcases hb with h1 | h1 | h1 <;> rcases hc with h2 | h2 | h2 <;> subst h1 <;> subst h2 <;> first | rfl | (revert h; decide)) (by intro b hb; omega) (by omega)⟩

    | cons y ys =>
      have hpos : 0 < (y :: ys).length := by simp
      have hbr := hincE hpos
      generalize hys : y :: ys = later at *
      cases J with
      | nil =>
        by_cases hbB : b ≤ A + c
        · simp only [if_pos hbB]
          simp only [List.nil_append]
          conv => whnf
          refine brt (by simp; omega) (fun hc => ?_)
          (try rw [hc])
          conv => whnf
          refine brt (by rw [len_ints]; simp; omega) (fun hc => ?_)
          (try rw [hc])
          conv => whnf
          refine ⟨_, rem_val _ _ (by rw [len_ints]; omega), ?_⟩
          conv => whnf
          rw [hidx]
          refine ⟨_, idx_int (Nat.mod_lt _ (by omega)), ?_⟩
          conv => whnf
          refine vd_pure (bring_c _ 20 (by omega) (by omega)) ?_
          rw [← hbr]
          conv => whnf
          rw [e1]
          conv => whnf
          refine brt (by simp; omega) (fun hc => ?_)
          (try rw [hc])
          conv => whnf
          refine ⟨_, idx_tk hi, ?_⟩
          conv => whnf
          rw [e2]
          conv => whnf
          rw [e3]
          conv => whnf
          refine ⟨_, _, app_nils rfl, ?_⟩
          conv => whnf
          refine ⟨_, idx_tk hi, ?_⟩
          conv => whnf
          refine ⟨_, idx_sl hRn, ?_⟩
          conv => whnf
          refine op_some (ld1 (v := .int .i64 m) (vs := ints R) rfl (by simp [ints, hR])) ?_
          conv => whnf
          rw [e4]
          conv => whnf
          refine ⟨_, _, app_nils rfl, ?_⟩
          conv => whnf
          refine ⟨_, idx_tk hi, ?_⟩
          conv => whnf
          rw [e5]
          conv => whnf
          refine ⟨trivial, (fun b => 2 * b), gc_lit (two_cons _ _ _) _ (by repeat' (first | exact trivial | refine renAt_sl rfl (by omega) ?_ | refine renAt_ptr rfl (by omega) ?_ | refine renAt_yield rfl (by omega) ?_ | refine renAt_cl rfl (by first | rfl | simp [clL, AV.cl, cl_ints, cl_tks]) ?_ | refine renAt_cl (inc_slot (by omega)) rfl ?_)) ⟨by omega, ⟨_, rfl, renB_ints rfl⟩, by omega, ⟨_, rfl, renB_ints (by simp [ints])⟩, by omega, ⟨_, rfl, renB_ints (by simp [ints])⟩, trivial⟩ (by intro b c hb hc h; simp only [List.map_cons, List.map_nil, List.mem_cons, List.not_mem_nil, or_false] at hb hc; rcases hb with h1 | h1 | h1 <;> rcases hc with h2 | h2 | h2 <;> subst h1 <;> subst h2 <;> first | rfl | (revert h; decide)) (by intro b hb; omega) (by omega)⟩

        · simp only [if_neg hbB, List.append_nil]
          conv => whnf
          refine brt (by simp; omega) (fun hc => ?_)
          (try rw [hc])
          conv => whnf
          refine brt (by rw [len_ints]; simp; omega) (fun hc => ?_)
          (try rw [hc])
          conv => whnf
          refine ⟨_, rem_val _ _ (by rw [len_ints]; omega), ?_⟩
          conv => whnf
          rw [hidx]
          refine ⟨_, idx_int (Nat.mod_lt _ (by omega)), ?_⟩
          conv => whnf
          refine vd_pure (bring_c _ 20 (by omega) (by omega)) ?_
          rw [← hbr]
          conv => whnf
          rw [e1]
          conv => whnf
          refine brf (by simp; omega) (fun hc => ?_)
          (try rw [hc])
          conv => whnf
          refine ⟨_, idx_tk hi, ?_⟩
          conv => whnf
          rw [e5]
          conv => whnf
          refine ⟨trivial, id, gc_lit (two_nil _) _ (by repeat' (first | exact trivial | refine renAt_sl rfl (by omega) ?_ | refine renAt_ptr rfl (by omega) ?_ | refine renAt_yield rfl (by omega) ?_ | refine renAt_cl rfl (by first | rfl | simp [clL, AV.cl, cl_ints, cl_tks]) ?_ | refine renAt_cl (inc_slot (by omega)) rfl ?_)) ⟨by omega, ⟨_, rfl, renB_ints rfl⟩, trivial⟩ (by intro b c hb hc _; simp at hb hc; omega) (by intro b hb; omega) (by omega)⟩

      | cons x J =>
        by_cases hbB : b ≤ A + c
        · simp only [if_pos hbB]
          simp only [List.cons_append, List.length_cons, List.length_append, List.length_nil, Nat.zero_add]
          conv => whnf
          refine brt (by simp; omega) (fun hc => ?_)
          (try rw [hc])
          conv => whnf
          refine brt (by rw [len_ints]; simp; omega) (fun hc => ?_)
          (try rw [hc])
          conv => whnf
          refine ⟨_, rem_val _ _ (by rw [len_ints]; omega), ?_⟩
          conv => whnf
          rw [hidx]
          refine ⟨_, idx_int (Nat.mod_lt _ (by omega)), ?_⟩
          conv => whnf
          refine vd_pure (bring_c _ 20 (by omega) (by omega)) ?_
          rw [← hbr]
          conv => whnf
          rw [e1]
          conv => whnf
          refine brt (by simp; omega) (fun hc => ?_)
          (try rw [hc])
          conv => whnf
          refine ⟨_, idx_tk hi, ?_⟩
          conv => whnf
          rw [e2]
          conv => whnf
          rw [e3]
          conv => whnf
          refine ⟨_, _, app_open (vs := ints ((x :: J).map (·.1))) rfl (by simp [ints]) (by simp at hJl; omega) rfl, ?_⟩
          conv => whnf
          refine ⟨_, idx_tk hi, ?_⟩
          conv => whnf
          refine ⟨_, idx_sl hRn, ?_⟩
          conv => whnf
          refine op_some (ld1 (v := .int .i64 m) (vs := ints R) rfl (by simp [ints, hR])) ?_
          conv => whnf
          rw [e4]
          conv => whnf
          refine ⟨_, _, app_open (vs := ints ((x :: J).map (·.2))) rfl (by simp [ints]) (by simp at hJl; omega) rfl, ?_⟩
          conv => whnf
          refine ⟨_, idx_tk hi, ?_⟩
          conv => whnf
          rw [e5]
          conv => whnf
          refine ⟨trivial, (fun b => cond (Nat.beq b 0) 0 (2 * b + 2)), gc_lit (two_cons _ _ _) _ (by repeat' (first | exact trivial | refine renAt_sl rfl (by omega) ?_ | refine renAt_ptr rfl (by omega) ?_ | refine renAt_yield rfl (by omega) ?_ | refine renAt_cl rfl (by first | rfl | simp [clL, AV.cl, cl_ints, cl_tks]) ?_ | refine renAt_cl (inc_slot (by omega)) rfl ?_)) ⟨by omega, ⟨_, rfl, renB_ints rfl⟩, by omega, ⟨_, rfl, renB_ints (by simp [ints])⟩, by omega, ⟨_, rfl, renB_ints (by simp [ints])⟩, trivial⟩ (by intro b c hb hc h; simp only [List.map_cons, List.map_nil, List.mem_cons, List.not_mem_nil, or_false] at hb hc; rcases hb with h1 | h1 | h1 <;> rcases hc with h2 | h2 | h2 <;> subst h1 <;> subst h2 <;> first | rfl | (revert h; decide)) (by intro b hb; omega) (by omega)⟩

        · simp only [if_neg hbB, List.append_nil]
          conv => whnf
          refine brt (by simp; omega) (fun hc => ?_)
          (try rw [hc])
          conv => whnf
          refine brt (by rw [len_ints]; simp; omega) (fun hc => ?_)
          (try rw [hc])
          conv => whnf
          refine ⟨_, rem_val _ _ (by rw [len_ints]; omega), ?_⟩
          conv => whnf
          rw [hidx]
          refine ⟨_, idx_int (Nat.mod_lt _ (by omega)), ?_⟩
          conv => whnf
          refine vd_pure (bring_c _ 20 (by omega) (by omega)) ?_
          rw [← hbr]
          conv => whnf
          rw [e1]
          conv => whnf
          refine brf (by simp; omega) (fun hc => ?_)
          (try rw [hc])
          conv => whnf
          refine ⟨_, idx_tk hi, ?_⟩
          conv => whnf
          rw [e5]
          conv => whnf
          refine ⟨trivial, id, gc_lit (two_cons _ _ _) _ (by repeat' (first | exact trivial | refine renAt_sl rfl (by omega) ?_ | refine renAt_ptr rfl (by omega) ?_ | refine renAt_yield rfl (by omega) ?_ | refine renAt_cl rfl (by first | rfl | simp [clL, AV.cl, cl_ints, cl_tks]) ?_ | refine renAt_cl (inc_slot (by omega)) rfl ?_)) ⟨by omega, ⟨_, rfl, renB_ints rfl⟩, by omega, ⟨_, rfl, renB_ints (by simp [ints])⟩, by omega, ⟨_, rfl, renB_ints (by simp [ints])⟩, trivial⟩ (by intro b c hb hc h; simp only [List.map_cons, List.map_nil, List.mem_cons, List.not_mem_nil, or_false] at hb hc; rcases hb with h1 | h1 | h1 <;> rcases hc with h2 | h2 | h2 <;> subst h1 <;> subst h2 <;> first | rfl | (revert h; decide)) (by intro b hb; omega) (by omega)⟩

  · intro _
    show vpC fs ms 0 false false L_escapementlaw08_DemandSound_1 _ (twoH R (jsF (incS later i) L[i] m b J0 10)) _
    have hq' := hq _ (atS (incS later i) L[i].p 10) rfl
    generalize jsF (incS later i) L[i] m b J0 10 = J2 at *
    generalize atS (incS later i) L[i].p 10 = A2 at *
    generalize twoH R J2 = G at *
    conv => whnf
    exact hq'
end Ir
end Go.Proofs.Ytbmnehpppegecaa
