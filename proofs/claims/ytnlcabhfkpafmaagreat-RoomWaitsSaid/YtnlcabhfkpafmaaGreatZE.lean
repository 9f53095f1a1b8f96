/-
  Room: the stack of what is locked: what it answers, looked at as plain values. Room: the stack, looked at: whether a task may ask, the ceiling, who locked last, what is locked. Room: the stack: whether something is locked; the place of a task's last entry. Room: the stack: the place of a task's last entry. Room: the stack in a heap; Lock. Room: the stack: Unlock, Drop, New. Room: the stack: what Drop leaves, in plain Lean. Room: new stacks. Room: its record; whether there is a task. Room: a room in a heap; its parts lie apart, since each block has a colour.
-/
import Derived.Test.YtnlcabhfkpafmaaGreatZD
import Derived.Test.YtnlcabhfkpafmaaGreatZC
set_option maxRecDepth 100000
set_option linter.unusedSimpArgs false
set_option linter.unusedVariables false
set_option smartUnfolding false
namespace Go.Proofs.YtnlcabhfkpafmaaGreat
open Go Ads
namespace Ir
abbrev En := Int × Int
def en (x : En) : AV := .agg [.int .i64 x.1, .int .i64 x.2]
def ens (L : List En) : List AV := L.map en
theorem len_ens (L : List En) : (ens L).length = L.length := List.length_map ..
theorem cl_ens (L : List En) : clL (ens L) = true := clL_map (enc := en) (fun _ => rfl) L
theorem size_ens (L : List En) : allSize 2 (ens L) = true := allSize_map (enc := en) (fun _ => rfl) L
theorem idx_ens {L : List En} {j k : Nat} (hj : j < L.length) : pV (.iaddrS 2) [.fz k (ens L), .int .i64 ((j : Nat) : Int)] = some (.fp (en L[j]).cells 0) := idx_map (enc := en) hj rfl
def stk (k k' : Nat) (T : List Tk) (L : List En) : AV := .fp [.fz k (tks T), .fz k' (ens L), .bool true] 0
set_option smartUnfolding true in
theorem cl_stk (k k' : Nat) (T : List Tk) (L : List En) : (stk k k' T L).cl = true := by simp [stk, AV.cl, clL, cl_tks, cl_ens]
def fnOf (t : Int) : AV := .func (.func f_stack_of_1) [] [.fp [.int .i64 t] 0]
theorem of_c (t : Int) : PC fs ms f_stack_of [.int .i64 t] (fnOf t) := by
 refine pc_of rfl rfl ?_
 refine vd_begin (af := C_stack_of) rfl (yB rfl) ?_
 generalize hQ : (fun (v : AV) (_ : Heap) => v = fnOf t) = Q
 conv => whnf
 refine vc_seq false ?_
 conv => whnf
 refine vc_frz [0] (i := 1) (v' := .fp [.int .i64 t] 0) rfl (.ptr' (by simp) rfl (.clean rfl)) ?_
 refine vpC_sound (z := false) ?_
 conv => whnf
 subst hQ
 rfl
theorem of1_c (t : Int) (x : En) : PC fs ms f_stack_of_1 [en x, .fp [.int .i64 t] 0] (.bool (x.1 == t)) := by
 refine pc_of rfl rfl ?_
 refine vd_start (af := C_stack_of_1) false rfl (yB rfl) ?_
 generalize hQ : (fun (v : AV) (_ : Heap) => v = .bool (x.1 == t)) = Q
 conv => whnf
 subst hQ
 rfl
def heldL (L : List En) (t : Int) : List Int := (L.filter fun x => x.1 == t).map (·.2)
theorem held_next {L : List En} {j : Nat} (h : j < L.length) (t : Int) : heldL (L.take (j + 1)) t = if L[j].1 == t then heldL (L.take j) t ++ [L[j].2] else heldL (L.take j) t := by
 rw [List.take_succ_eq_append_getElem h, heldL, List.filter_append, List.map_append]
 cases hc : (L[j].1 == t) <;> simp [hc, heldL]
theorem held_len (L : List En) (t : Int) : (heldL L t).length ≤ L.length := by
 rw [heldL, List.length_map]; exact List.length_filter_le ..
set_option smartUnfolding true in
theorem held_c (k k' : Nat) (T : List Tk) (L : List En) (hL : L.length ≤ 1000) (t : Int) : VD fs ms f_stack_Stack_Held [stk k k' T L, .int .i64 t] ⟨0, .nil⟩ (NewRow 1 (ints (heldL L t))) := by
 refine vd_start (af := C_stack_Stack_Held) false rfl (yB rfl) ?_
 generalize hQ : NewRow 1 (ints (heldL L t)) = Q
 set_option smartUnfolding false in conv => whnf
 refine vd_pure (of_c t) ?_
 set_option smartUnfolding false in conv => whnf
 refine vc_to0 5 [(4, .nils), (5, fnOf t), (15, .fz k' (ens L)), (16, .int .i64 (ens L).length), (17, .int .i64 ((0 : Nat) : Int))] (by repeat' (first | exact trivial | refine renAt_sl rfl (by omega) ?_ | refine renAt_ptr rfl (by omega) ?_ | refine renAt_yield rfl (by omega) ?_ | refine renAt_cl rfl (by first | rfl | simp [clL, AV.cl, cl_ints, cl_ens]) ?_ | refine renAt_cl (inc_slot (by omega)) rfl ?_)) ?_
 refine for_rowH 0 5 L.length (fun _ => True) (fun j => [(4, growV (heldL (L.take j) t).length), (5, fnOf t), (15, .fz k' (ens L)), (16, .int .i64 (ens L).length), (17, .int .i64 ((j : Nat) : Int))]) (fun j => growI (heldL (L.take j) t) (heldL (L.take j) t).length) ?_ ?_ trivial
 ·intro j hj _
  have hn := held_next hj t
  have hlen := held_len (L.take j) t
  rw [List.length_take] at hlen
  generalize heldL (L.take j) t = M at *
  cases M with
  | nil =>
   set_option smartUnfolding false in conv => whnf
   refine brt (by rw [len_ens]; simp; omega) (fun hc => ?_)
   (try rw [hc])
   set_option smartUnfolding false in conv => whnf
   refine ⟨_, idx_ens hj, ?_⟩
   set_option smartUnfolding false in conv => whnf
   refine vd_pure (of1_c t L[j]) ?_
   set_option smartUnfolding false in conv => whnf
   refine br (fun hc => ?_) (fun hc => ?_) <;> (try rw [hc]) <;> (set_option smartUnfolding false in conv => whnf)
   ·rw [hc, if_pos rfl] at hn
    rw [hn]
    refine ⟨_, _, app_nils rfl, ?_⟩
    set_option smartUnfolding false in conv => whnf
    refine ⟨trivial, fun b => 2, gc_lit (H := growI [L[j].2] 1) (hk_one _) _ (by repeat' (first | exact trivial | refine renAt_sl rfl (by omega) ?_ | refine renAt_ptr rfl (by omega) ?_ | refine renAt_yield rfl (by omega) ?_ | refine renAt_cl rfl (by first | rfl | simp [clL, AV.cl, cl_ints, cl_ens]) ?_ | refine renAt_cl (inc_slot (by omega)) rfl ?_)) ⟨by omega, ⟨_, rfl, renB_ints rfl⟩, trivial⟩ (by intro b c hb hc _; simp at hb hc; omega) (by intro b hb; omega) (by omega)⟩
   ·rw [hc, if_neg (by simp)] at hn
    rw [hn]
    refine ⟨trivial, fun b => 2, gc_lit (H := growI [] 0) (n := 0) (m := []) rfl _ (by repeat' (first | exact trivial | refine renAt_sl rfl (by omega) ?_ | refine renAt_ptr rfl (by omega) ?_ | refine renAt_yield rfl (by omega) ?_ | refine renAt_cl rfl (by first | rfl | simp [clL, AV.cl, cl_ints, cl_ens]) ?_ | refine renAt_cl (inc_slot (by omega)) rfl ?_)) trivial (by intro b c hb; simp at hb) (by intro b hb; omega) (by omega)⟩
  | cons y M =>
   have hT : (y :: M).take (M.length + 1) = y :: M := List.take_of_length_le (by simp)
   show vpC fs ms 0 false false _ _ ⟨1, .node .nil (some (.cells (ints ((y :: M).take (M.length + 1))) true 1)) .nil⟩ _
   rw [hT]
   set_option smartUnfolding false in conv => whnf
   refine brt (by rw [len_ens]; simp; omega) (fun hc => ?_)
   (try rw [hc])
   set_option smartUnfolding false in conv => whnf
   refine ⟨_, idx_ens hj, ?_⟩
   set_option smartUnfolding false in conv => whnf
   refine vd_pure (of1_c t L[j]) ?_
   set_option smartUnfolding false in conv => whnf
   refine br (fun hc => ?_) (fun hc => ?_) <;> (try rw [hc]) <;> (set_option smartUnfolding false in conv => whnf)
   ·rw [hc, if_pos rfl] at hn
    rw [hn, show ((y :: M) ++ [L[j].2]).length = M.length + 1 + 1 by simp]
    have hT2 : ((y :: M) ++ [L[j].2]).take (M.length + 1 + 1) = (y :: M) ++ [L[j].2] := List.take_of_length_le (by simp)
    refine ⟨_, _, app_open (vs := ints (y :: M)) rfl (by simp [ints]) (by simp at hlen; omega) rfl, ?_⟩
    set_option smartUnfolding false in conv => whnf
    refine ⟨trivial, fun b => 3, gc_lit (H := growI ((y :: M) ++ [L[j].2]) (M.length + 1 + 1)) (hk_one _) _ (by repeat' (first | exact trivial | refine renAt_sl rfl (by omega) ?_ | refine renAt_ptr rfl (by omega) ?_ | refine renAt_yield rfl (by omega) ?_ | refine renAt_cl rfl (by first | rfl | simp [clL, AV.cl, cl_ints, cl_ens]) ?_ | refine renAt_cl (inc_slot (by omega)) rfl ?_)) ⟨by omega, ⟨_, rfl, renB_ints (by rw [hT2]; simp [ints])⟩, trivial⟩ (by intro b c hb hc _; simp at hb hc; omega) (by intro b hb; omega) (by omega)⟩
   ·rw [hc, if_neg (by simp)] at hn
    rw [hn]
    refine ⟨trivial, fun b => 0, gc_lit (H := growI (y :: M) (M.length + 1)) (hk_one _) _ (by repeat' (first | exact trivial | refine renAt_sl rfl (by omega) ?_ | refine renAt_ptr rfl (by omega) ?_ | refine renAt_yield rfl (by omega) ?_ | refine renAt_cl rfl (by first | rfl | simp [clL, AV.cl, cl_ints, cl_ens]) ?_ | refine renAt_cl (inc_slot (by omega)) rfl ?_)) ⟨by omega, ⟨_, rfl, renB_ints (by rw [hT])⟩, trivial⟩ (by intro b c hb hc _; simp at hb hc; omega) (by intro b hb; omega) (by omega)⟩
 ·intro _
  rw [List.take_length]
  have hfin : Q (growV (heldL L t).length) (growI (heldL L t) (heldL L t).length) := by
   subst hQ
   cases hM : heldL L t with
   | nil => exact .inl ⟨rfl, rfl⟩
   | cons y M =>
    refine .inr ⟨0, by rw [len_ints]; rfl, ?_⟩
    show some (Blk.cells (ints ((y :: M).take (M.length + 1))) true 1) = _
    rw [flat_ints, show (y :: M).take (M.length + 1) = y :: M from List.take_of_length_le (by simp)]
  generalize growI (heldL L t) (heldL L t).length = G at *
  generalize growV (heldL L t).length = V at *
  set_option smartUnfolding false in conv => whnf
  refine brf (by rw [len_ens]; simp) (fun hc => ?_)
  (try rw [hc])
  set_option smartUnfolding false in conv => whnf
  exact hfin
def askE (T : List Tk) (t : Int) : Int := if decide (t < 0) || decide (t ≥ (T.length : Nat)) then 9 else 0
set_option smartUnfolding true in
theorem asked_c (k k' : Nat) (T : List Tk) (L : List En) (t : Int) : PC fs ms f_stack_Stack_asked [stk k k' T L, .int .i64 t] (.int .i64 (askE T t)) := by
 refine pc_of (by simp [clL, AV.cl, cl_stk]) rfl ?_
 refine vd_start (af := C_stack_Stack_asked) false rfl (yB rfl) ?_
 generalize hQ : (fun (v : AV) (_ : Heap) => v = .int .i64 (askE T t)) = Q
 set_option smartUnfolding false in conv => whnf
 cases h1 : decide (t < 0) with
 | true =>
  set_option smartUnfolding false in conv => whnf
  subst hQ
  simp [askE, h1]
 | false =>
  set_option smartUnfolding false in conv => whnf
  rw [len_tks]
  refine br (fun hc => ?_) (fun hc => ?_) <;> (try rw [hc]) <;> (set_option smartUnfolding false in conv => whnf)
  ·subst hQ
   simp only [askE, h1, hc]; rfl
  ·subst hQ
   simp only [askE, h1, hc]; rfl
def ceilF (T : List Tk) (L : List En) : Int := L.foldl (fun n x => max n (ceil T x.2)) 0
theorem ceilF_next {T : List Tk} {L : List En} {j : Nat} (h : j < L.length) : ceilF T (L.take (j + 1)) = max (ceilF T (L.take j)) (ceil T L[j].2) := by
 rw [List.take_succ_eq_append_getElem h, ceilF, List.foldl_append]; rfl
set_option smartUnfolding true in
theorem sceil_c (k k' : Nat) (T : List Tk) (L : List En) (hT : T.length < 2 ^ 62) (hL : L.length ≤ 1000) : PC fs ms f_stack_Stack_Ceiling [stk k k' T L] (.int .i64 (ceilF T L)) := by
 refine pc_of (by simp [clL, AV.cl, cl_stk]) rfl ?_
 refine vd_start (af := C_stack_Stack_Ceiling) false rfl (yB rfl) ?_
 generalize hQ : (fun (v : AV) (_ : Heap) => v = .int .i64 (ceilF T L)) = Q
 set_option smartUnfolding false in conv => whnf
 refine vc_to0 5 [(0, stk k k' T L), (2, .int .i64 (ceilF T (L.take 0))), (10, .fz k' (ens L)), (11, .int .i64 (ens L).length), (12, .int .i64 ((0 : Nat) : Int))] (by repeat' (first | exact trivial | refine renAt_sl rfl (by omega) ?_ | refine renAt_ptr rfl (by omega) ?_ | refine renAt_yield rfl (by omega) ?_ | refine renAt_cl rfl (by first | rfl | simp [clL, AV.cl, cl_ints, cl_ens, cl_stk]) ?_ | refine renAt_cl (inc_slot (by omega)) rfl ?_)) ?_
 refine for_row 5 L.length (fun _ => True) (fun j => [(0, stk k k' T L), (2, .int .i64 (ceilF T (L.take j))), (10, .fz k' (ens L)), (11, .int .i64 (ens L).length), (12, .int .i64 ((j : Nat) : Int))]) ?_ ?_ trivial
 ·intro j hj _
  have hn := ceilF_next (T := T) hj
  set_option smartUnfolding false in conv => whnf
  refine brt (by rw [len_ens]; simp; omega) (fun hc => ?_)
  (try rw [hc])
  set_option smartUnfolding false in conv => whnf
  refine ⟨_, idx_ens hj, ?_⟩
  set_option smartUnfolding false in conv => whnf
  refine vd_pure (ceil_c k T hT L[j].2) ?_
  set_option smartUnfolding false in conv => whnf
  refine ⟨trivial, ⟨_, rfl, .cl (cl_stk ..)⟩, ⟨_, mx_slot hn.symm, .cl rfl⟩, ⟨_, rfl, .cl (by simp [AV.cl, cl_ens])⟩, ⟨_, rfl, .cl rfl⟩, ⟨_, inc_slot (by omega), .cl rfl⟩, trivial⟩
 ·intro _
  set_option smartUnfolding false in conv => whnf
  refine brf (by rw [len_ens]; simp) (fun hc => ?_)
  (try rw [hc])
  set_option smartUnfolding false in conv => whnf
  subst hQ
  rw [List.take_length]
def topL (L : List En) : Int × Bool := match L.getLast? with | some x => (x.1, true) | none => (0, false)
set_option smartUnfolding true in
theorem top_c (k k' : Nat) (T : List Tk) (L : List En) (hL : L.length ≤ 1000) : PC fs ms f_stack_Stack_Top [stk k k' T L] (.tup [.int .i64 (topL L).1, .bool (topL L).2]) := by
 refine pc_of (by simp [clL, AV.cl, cl_stk]) rfl ?_
 refine vd_start (af := C_stack_Stack_Top) false rfl (yB rfl) ?_
 generalize hQ : (fun (v : AV) (_ : Heap) => v = .tup [.int .i64 (topL L).1, .bool (topL L).2]) = Q
 set_option smartUnfolding false in conv => whnf
 refine br (fun hc => ?_) (fun hc => ?_) <;> (try rw [hc]) <;> (set_option smartUnfolding false in conv => whnf)
 ·have : L = [] := by have := eq_of_beq hc; rw [len_ens] at this; exact List.length_eq_zero_iff.1 (by omega)
  subst this
  subst hQ
  rfl
 ·have hne : 0 < L.length := by
   have h0 := of_decide_eq_false hc
   rw [len_ens] at h0
   omega
  have hl : L.length - 1 < L.length := by omega
  have hi : IntKind.i64.wrap ((((ens L).length : Nat) : Int) - 1) = ((L.length - 1 : Nat) : Int) := by rw [len_ens, IntWalk.i64_in _ (by omega)]; omega
  have hx := idx_ens (k := k') hl
  rw [← hi] at hx
  refine ⟨_, hx, ?_⟩
  set_option smartUnfolding false in conv => whnf
  subst hQ
  have : L.getLast? = some L[L.length - 1] := by rw [List.getLast?_eq_getElem?, List.getElem?_eq_getElem hl]
  simp only [topL, this]
set_option smartUnfolding true in
theorem ixfEn_c {F : Nat} {capt : List AV} {p : En → Bool} (k : Nat) (l : List En) (hl : l.length < 2 ^ 62) (hcap : clL capt = true) (hp : ∀ m, m ∈ l → PC fs ms F (en m :: capt) (.bool (p m))) :
  ∃ n : Int, PC fs ms f_slices_IndexFunc_stack_entry_stack_entry [.fz k (ens l), .func (.func F) [] capt] (.int .i64 n) ∧ decide (n ≥ 0) = l.any p := by
 by_cases ha : l.any p = true
 ·obtain ⟨j, hj, h1, h2⟩ := least_get (l := l) (p := fun m => p m = true) (by simpa using ha)
  refine ⟨(j : Nat), ?_, by rw [ha]; simp⟩
  refine pc_of (by simp [clL, AV.cl, cl_ens, hcap]) rfl ?_
  refine vd_start (af := C_slices_IndexFunc_stack_entry_stack_entry) false rfl (yB rfl) ?_
  generalize hQ : (fun (v : AV) (_ : Heap) => v = .int .i64 (j : Nat)) = Q
  set_option smartUnfolding false in conv => whnf
  refine vc_to0 5 [(0, .fz k (ens l)), (1, .func (.func F) [] capt), (7, .int .i64 (ens l).length), (8, .int .i64 ((0 : Nat) : Int))] (by repeat' (first | exact trivial | refine renAt_sl rfl (by omega) ?_ | refine renAt_ptr rfl (by omega) ?_ | refine renAt_yield rfl (by omega) ?_ | refine renAt_cl rfl (by first | rfl | simp [clL, AV.cl, cl_ints, cl_ens, hcap]) ?_ | refine renAt_cl (inc_slot (by omega)) rfl ?_)) ?_
  refine for_row 5 j (fun _ => True) (fun i => [(0, .fz k (ens l)), (1, .func (.func F) [] capt), (7, .int .i64 (ens l).length), (8, .int .i64 (i : Nat))]) ?_ ?_ trivial
  ·intro i hi _
   set_option smartUnfolding false in conv => whnf
   refine br (fun hc => ?_) (fun hc => ?_) <;> (try rw [hc]) <;> (set_option smartUnfolding false in conv => whnf)
   ·refine ⟨_, idx_ens (by omega), ?_⟩
    set_option smartUnfolding false in conv => whnf
    refine vd_pure (hp _ (List.getElem_mem _)) ?_
    set_option smartUnfolding false in conv => whnf
    refine br (fun hc => ?_) (fun hc => ?_) <;> (try rw [hc]) <;> (set_option smartUnfolding false in conv => whnf)
    ·exact absurd hc (h2 i (by omega) hi)
    ·refine ⟨trivial, ⟨_, rfl, .cl (by simp [AV.cl, cl_ens])⟩, ⟨_, rfl, .cl (by simp [AV.cl, clL, hcap])⟩, ⟨_, rfl, .cl rfl⟩, ⟨_, inc_slot (by omega), .cl rfl⟩, trivial⟩
   ·exfalso
    have := of_decide_eq_false hc
    rw [len_ens] at this
    omega
  ·intro _
   set_option smartUnfolding false in conv => whnf
   refine br (fun hc => ?_) (fun hc => ?_) <;> (try rw [hc]) <;> (set_option smartUnfolding false in conv => whnf)
   ·refine ⟨_, idx_ens hj, ?_⟩
    set_option smartUnfolding false in conv => whnf
    refine vd_pure (hp _ (List.getElem_mem _)) ?_
    set_option smartUnfolding false in conv => whnf
    refine br (fun hc => ?_) (fun hc => ?_) <;> (try rw [hc]) <;> (set_option smartUnfolding false in conv => whnf)
    ·subst hQ
     rfl
    ·rw [h1] at hc; simp at hc
   ·exfalso
    have := of_decide_eq_false hc
    rw [len_ens] at this
    omega
 ·have hn : ∀ m, m ∈ l → p m = false := by
   intro m hm
   rw [Bool.eq_false_iff]
   intro h
   exact ha (List.any_eq_true.2 ⟨m, hm, h⟩)
  refine ⟨-1, ?_, by rw [Bool.eq_false_iff.2 ha]; decide⟩
  refine pc_of (by simp [clL, AV.cl, cl_ens, hcap]) rfl ?_
  refine vd_start (af := C_slices_IndexFunc_stack_entry_stack_entry) false rfl (yB rfl) ?_
  generalize hQ : (fun (v : AV) (_ : Heap) => v = .int .i64 (-1)) = Q
  set_option smartUnfolding false in conv => whnf
  refine vc_to0 5 [(0, .fz k (ens l)), (1, .func (.func F) [] capt), (7, .int .i64 (ens l).length), (8, .int .i64 ((0 : Nat) : Int))] (by repeat' (first | exact trivial | refine renAt_sl rfl (by omega) ?_ | refine renAt_ptr rfl (by omega) ?_ | refine renAt_yield rfl (by omega) ?_ | refine renAt_cl rfl (by first | rfl | simp [clL, AV.cl, cl_ints, cl_ens, hcap]) ?_ | refine renAt_cl (inc_slot (by omega)) rfl ?_)) ?_
  refine for_row 5 l.length (fun _ => True) (fun i => [(0, .fz k (ens l)), (1, .func (.func F) [] capt), (7, .int .i64 (ens l).length), (8, .int .i64 (i : Nat))]) ?_ ?_ trivial
  ·intro i hi _
   set_option smartUnfolding false in conv => whnf
   refine br (fun hc => ?_) (fun hc => ?_) <;> (try rw [hc]) <;> (set_option smartUnfolding false in conv => whnf)
   ·refine ⟨_, idx_ens (by omega), ?_⟩
    set_option smartUnfolding false in conv => whnf
    refine vd_pure (hp _ (List.getElem_mem _)) ?_
    set_option smartUnfolding false in conv => whnf
    refine br (fun hc => ?_) (fun hc => ?_) <;> (try rw [hc]) <;> (set_option smartUnfolding false in conv => whnf)
    ·rw [hn _ (List.getElem_mem hi)] at hc; simp at hc
    ·refine ⟨trivial, ⟨_, rfl, .cl (by simp [AV.cl, cl_ens])⟩, ⟨_, rfl, .cl (by simp [AV.cl, clL, hcap])⟩, ⟨_, rfl, .cl rfl⟩, ⟨_, inc_slot (by omega), .cl rfl⟩, trivial⟩
   ·exfalso
    have := of_decide_eq_false hc
    rw [len_ens] at this
    omega
  ·intro _
   set_option smartUnfolding false in conv => whnf
   refine br (fun hc => ?_) (fun hc => ?_) <;> (try rw [hc]) <;> (set_option smartUnfolding false in conv => whnf)
   ·exfalso
    have := of_decide_eq_true hc
    rw [len_ens] at this
    omega
   ·subst hQ
    rfl

set_option smartUnfolding true in
theorem cfEn_c {F : Nat} {capt : List AV} {p : En → Bool} (k : Nat) (l : List En) (hl : l.length < 2 ^ 62) (hcap : clL capt = true) (hp : ∀ m, m ∈ l → PC fs ms F (en m :: capt) (.bool (p m))) :
  PC fs ms f_slices_ContainsFunc_stack_entry_stack_entry [.fz k (ens l), .func (.func F) [] capt] (.bool (l.any p)) := by
 obtain ⟨n, c1, c2⟩ := ixfEn_c k l hl hcap hp
 refine pc_of (by simp [clL, AV.cl, cl_ens, hcap]) rfl ?_
 refine vd_start (af := C_slices_ContainsFunc_stack_entry_stack_entry) false rfl (yB rfl) ?_
 generalize hQ : (fun (v : AV) (_ : Heap) => v = .bool (l.any p)) = Q
 set_option smartUnfolding false in conv => whnf
 refine vd_pure c1 ?_
 set_option smartUnfolding false in conv => whnf
 subst hQ
 exact congrArg AV.bool c2


theorem lock1_c (r : Int) (x : En) : PC fs ms f_stack_Stack_Lock_1 [en x, .fp [.int .i64 r] 0] (.bool (x.2 == r)) := by
 refine pc_of rfl rfl ?_
 refine vd_start (af := C_stack_Stack_Lock_1) false rfl (yB rfl) ?_
 generalize hQ : (fun (v : AV) (_ : Heap) => v = .bool (x.2 == r)) = Q
 conv => whnf
 subst hQ
 rfl
set_option smartUnfolding true in
theorem back_c (k : Nat) (L : List En) : PC fs ms f_slices_Backward_stack_entry_stack_entry [.fz k (ens L)] (.func (.func f_slices_Backward_stack_entry_stack_entry_1) [] [.fp [.fz k (ens L)] 0]) := by
 refine pc_of (by simp [clL, AV.cl, cl_ens]) (by simp [clL, AV.cl, cl_ens]) ?_
 refine vd_begin (af := C_slices_Backward_stack_entry_stack_entry) rfl (yB rfl) ?_
 generalize hQ : (fun (v : AV) (_ : Heap) => v = .func (.func f_slices_Backward_stack_entry_stack_entry_1) [] [.fp [.fz k (ens L)] 0]) = Q
 set_option smartUnfolding false in conv => whnf
 refine vc_seq false ?_
 set_option smartUnfolding false in conv => whnf
 refine vc_frz [0] (i := 1) (v' := .fp [.fz k (ens L)] 0) rfl (.ptr' (by simp) rfl (.clean (l := [.fz k (ens L)]) (by simp [clL, AV.cl, cl_ens]))) ?_
 refine vpC_sound (z := false) ?_
 set_option smartUnfolding false in conv => whnf
 subst hQ
 rfl
set_option smartUnfolding true in
theorem res_cell {e : Env} {h : Heap} {a b o es : Nat} {wr : Bool} {vs : List AV} {w : AV} (ha : Tr.get e a = some (.ptr b o)) (hg : h.get b = some (.cells vs wr es)) (hv : vs[o]? = some w) : resAllV e h [.cell a 1 false] = some [w] := by
 have : h.load1 b o = some w := by simp only [Heap.load1, Heap.row, hg, hv]
 simp only [resAllV, resOfV, ha, cond_false, this]
theorem vc_rangeL {B : Nat} {g : Rand} {ps : List Nat} {a b : AC} {e : Env} {h : Heap} {f : Nat} {first capt : List AV} {Q : AX → Env → Heap → Prop} (L : Nat) (hL : h.next = L) (hao : argsOk e [g] = true) (hev : Env.ev e g = .func (.func f) first capt)
  (hw : VD fs ms f (first ++ (.yield L :: capt)) (h.new (.loop 0 none e ps a b)) fun _ h2 => ∃ x st, h2.get L = some (.loop st (pendOf x) e ps a b) ∧ st ≠ 1 ∧ (∀ v, x ≠ .panic v) ∧ Q x e (h2.set L (.loop 3 (pendOf x) e ps a b))) :
  VC fs ms B false (.rangeFunc g ps a b) e h Q := by
 subst hL
 exact vc_range hao hev hw
def lastN (L : List En) (t : Int) : Nat → Int
 | 0 => -1
 | n + 1 => if (match L[n]? with | some x => x.1 == t | none => false) then (n : Nat) else lastN L t n
def lastI (L : List En) (t : Int) : Int := lastN L t L.length
theorem lastN_no {L : List En} {t : Int} : ∀ n, n ≤ L.length → (∀ i (h : i < L.length), n ≤ i → (L[i].1 == t) = false) → lastI L t = lastN L t n := by
 intro n hn hno
 have : ∀ r, r + n = L.length → lastN L t L.length = lastN L t n := by
  intro r
  induction r generalizing n with
  | zero => intro h; rw [show n = L.length by omega]
  | succ r ih =>
   intro h
   rw [ih (n + 1) (by omega) (fun i h1 h2 => hno i h1 (by omega)) (by omega), lastN, List.getElem?_eq_getElem (by omega)]
   have := hno n (by omega) (Nat.le_refl _)
   simp only [this]
   rfl
 exact this (L.length - n) (by omega)
def lastE (F : AV) : Env := ek 5 [(4, .ptr 0 0), (5, .ptr 1 0), (14, F)]
def lastH (F : AV) (t x : Int) : Heap := ⟨3, .node (.node .nil (some (.cells [fnOf t] true 0)) .nil) (some (.cells [.int .i64 x] true 0)) (.node .nil (some (.loop 0 none (lastE F) [15, 16] L_stack_Stack_last_0a L_stack_Stack_last_0b)) .nil)⟩
theorem lastH_three (F : AV) (t x : Int) : lastH F t x = hk 3 [(0, .cells [.int .i64 x] true 0), (1, .cells [fnOf t] true 0), (2, .loop 0 none (lastE F) [15, 16] L_stack_Stack_last_0a L_stack_Stack_last_0b)] := hk_three _ _ _
theorem lastH_new (F : AV) (t : Int) : (⟨2, .node (.node .nil (some (.cells [fnOf t] true 0)) .nil) (some (.cells [.int .i64 0] true 0)) .nil⟩ : Heap).new (.loop 0 none (lastE F) [15, 16] L_stack_Stack_last_0a L_stack_Stack_last_0b) = lastH F t 0 := by kernel_rfl
theorem lastH_get (F : AV) (t x : Int) : (lastH F t x).get 2 = some (.loop 0 none (lastE F) [15, 16] L_stack_Stack_last_0a L_stack_Stack_last_0b) := by kernel_rfl
theorem lastH_set (F : AV) (t x : Int) (z : Blk) : (lastH F t x).set 2 z = ⟨3, .node (.node .nil (some (.cells [fnOf t] true 0)) .nil) (some (.cells [.int .i64 x] true 0)) (.node .nil (some z) .nil)⟩ := by kernel_rfl
set_option smartUnfolding true in
theorem last_it (k : Nat) (L : List En) (hL : L.length ≤ 1000) (t : Int) {F : AV} (hF : F.cl = true) : VD fs ms f_slices_Backward_stack_entry_stack_entry_1 [.yield 2, .fp [.fz k (ens L)] 0] (lastH F t 0) (fun _ h2 => (lastI L t = -1 ∧ h2 = lastH F t 0) ∨
  ∃ i : Nat, lastI L t = i ∧ h2.get 0 = some (.cells [.int .i64 (i : Nat)] true 0) ∧ h2.get 2 = some (.loop 2 (some .ret) (lastE F) [15, 16] L_stack_Stack_last_0a L_stack_Stack_last_0b)) := by
 refine vd_start (af := C_slices_Backward_stack_entry_stack_entry_1) false rfl (yB rfl) ?_
 generalize hQ : (fun (_ : AV) (h2 : Heap) => (lastI L t = -1 ∧ h2 = lastH F t 0) ∨
  ∃ i : Nat, lastI L t = i ∧ h2.get 0 = some (.cells [.int .i64 (i : Nat)] true 0) ∧ h2.get 2 = some (.loop 2 (some .ret) (lastE F) [15, 16] L_stack_Stack_last_0a L_stack_Stack_last_0b)) = Q
 show startF _ _ fun e => vpC fs ms 3 false false _ e ⟨3, .node (.node .nil (some (.cells [fnOf t] true 0)) .nil) (some (.cells [.int .i64 0] true 0)) (.node .nil (some (.loop 0 none (lastE F) [15, 16] L_stack_Stack_last_0a L_stack_Stack_last_0b)) .nil)⟩ _
 set_option smartUnfolding false in conv => whnf
 have hs : some (AV.int .i64 (IntKind.i64.wrap ((((ens L).length : Nat) : Int) - 1))) = some (AV.int .i64 ((L.length : Int) - 1 - ((0 : Nat) : Int))) := by
  rw [len_ens, IntWalk.i64_in _ (by omega)]; simp
 refine vc_lit (B := 3) (H := lastH F t 0) (d := 5) (l := [(0, .yield 2), (1, .fp [.fz k (ens L)] 0), (3, .int .i64 ((L.length : Int) - 1 - ((0 : Nat) : Int)))]) (hk_three _ _ _) id ⟨⟨_, rfl, .yield (by omega)⟩, ⟨_, rfl, .cl (by simp [AV.cl, clL, cl_ens])⟩, ⟨_, hs, .cl rfl⟩, trivial⟩
  ⟨by omega, ⟨_, rfl, renB_cl rfl rfl⟩, by omega, ⟨_, rfl, renB_cl rfl rfl⟩, by omega, ⟨_, rfl, renB_loop (by simp; exact ⟨.ptr (by omega), .ptr (by omega), .cl hF⟩)⟩, trivial⟩ (by intro b c hb hc h; exact h) (fun b hb => rfl) (Nat.le_refl _) ?_
 refine for_rowH 3 5 L.length (fun j => ∀ i (h : i < L.length), L.length - j ≤ i → (L[i].1 == t) = false) (fun j => [(0, .yield 2), (1, .fp [.fz k (ens L)] 0), (3, .int .i64 ((L.length : Int) - 1 - ((j : Nat) : Int)))]) (fun _ => lastH F t 0) ?_ ?_ (fun i h1 h2 => by omega)
 ·intro j hj hno
  have hi : (L.length : Int) - 1 - ((j : Nat) : Int) = ((L.length - 1 - j : Nat) : Int) := by omega
  have hlt : L.length - 1 - j < L.length := by omega
  have hix := idx_ens (k := k) hlt
  rw [hi]
  show vpC fs ms 3 false false _ (ek 5 _) ⟨3, .node (.node .nil (some (.cells [fnOf t] true 0)) .nil) (some (.cells [.int .i64 0] true 0)) (.node .nil (some (.loop 0 none (lastE F) [15, 16] L_stack_Stack_last_0a L_stack_Stack_last_0b)) .nil)⟩ _
  set_option smartUnfolding false in conv => whnf
  refine ⟨_, hix, ?_⟩
  set_option smartUnfolding false in conv => whnf
  refine vd_yield rfl rfl ?_
  refine vpC_sound (z := false) ?_
  set_option smartUnfolding false in conv => whnf
  refine ⟨rfl, none, rfl, ?_⟩
  refine vpC_sound (z := false) ?_
  set_option smartUnfolding false in conv => whnf
  refine vd_pure (of1_c t L[L.length - 1 - j]) ?_
  set_option smartUnfolding false in conv => whnf
  refine br (fun hc => ?_) (fun hc => ?_) <;> (try rw [hc]) <;> (set_option smartUnfolding false in conv => whnf)
  ·refine ⟨by simp, ⟨1, none, rfl⟩, ?_⟩
   set_option smartUnfolding false in conv => whnf
   subst hQ
   refine .inr ⟨L.length - 1 - j, ?_, rfl, rfl⟩
   rw [lastN_no (L.length - 1 - j + 1) (by omega) (fun i h1 h2 => hno i h1 (by omega)), lastN, List.getElem?_eq_getElem hlt]
   simp only [hc]
   rfl
  ·refine ⟨by simp, ⟨1, none, rfl⟩, ?_⟩
   set_option smartUnfolding false in conv => whnf
   have hw : some (AV.int .i64 (IntKind.i64.wrap (((L.length - 1 - j : Nat) : Int) - 1))) = some (AV.int .i64 ((L.length : Int) - 1 - ((j + 1 : Nat) : Int))) := by
    rw [IntWalk.i64_in _ (by omega)]; congr 2; omega
   refine ⟨fun i h1 h2 => ?_, id, gc_lit (H := lastH F t 0) (lastH_three F t 0) _ ⟨⟨_, rfl, .yield (by omega)⟩, ⟨_, rfl, .cl (by simp [AV.cl, clL, cl_ens])⟩, ⟨_, hw, .cl rfl⟩, trivial⟩
    ⟨by omega, ⟨_, rfl, renB_cl rfl rfl⟩, by omega, ⟨_, rfl, renB_cl rfl rfl⟩, by omega, ⟨_, rfl, renB_loop (by simp; exact ⟨.ptr (by omega), .ptr (by omega), .cl hF⟩)⟩, trivial⟩ (by intro b c hb hc h; exact h) (fun b hb => rfl) (Nat.le_refl _)⟩
   by_cases e : i = L.length - 1 - j
   ·subst e; exact hc
   ·exact hno i h1 (by omega)
 ·intro hno
  show vpC fs ms 3 false false _ (ek 5 _) ⟨3, .node (.node .nil (some (.cells [fnOf t] true 0)) .nil) (some (.cells [.int .i64 0] true 0)) (.node .nil (some (.loop 0 none (lastE F) [15, 16] L_stack_Stack_last_0a L_stack_Stack_last_0b)) .nil)⟩ _
  set_option smartUnfolding false in conv => whnf
  refine brf (by simp; omega) (fun hc => ?_)
  (try rw [hc])
  set_option smartUnfolding false in conv => whnf
  subst hQ
  refine .inl ⟨?_, rfl⟩
  rw [lastN_no 0 (Nat.zero_le _) (fun i h1 h2 => hno i h1 (by omega))]
  rfl
set_option smartUnfolding true in
theorem last_c (k k' : Nat) (T : List Tk) (L : List En) (hL : L.length ≤ 1000) (t : Int) : PC fs ms f_stack_Stack_last [stk k k' T L, .int .i64 t] (.int .i64 (lastI L t)) := by
 refine pc_of (by simp [clL, AV.cl, cl_stk]) rfl ?_
 refine vd_start (af := C_stack_Stack_last) false rfl (yB rfl) ?_
 generalize hQ : (fun (v : AV) (_ : Heap) => v = .int .i64 (lastI L t)) = Q
 set_option smartUnfolding false in conv => whnf
 refine vd_pure (of_c t) ?_
 set_option smartUnfolding false in conv => whnf
 refine vd_pure (back_c k' L) ?_
 set_option smartUnfolding false in conv => whnf
 have hF : (AV.func (.func f_slices_Backward_stack_entry_stack_entry_1) [] [.fp [.fz k' (ens L)] 0]).cl = true := by simp [AV.cl, clL, cl_ens]
 refine vc_lit (B := 0) (d := 5) (l := [(4, .ptr 0 0), (5, .ptr 1 0), (14, .func (.func f_slices_Backward_stack_entry_stack_entry_1) [] [.fp [.fz k' (ens L)] 0])]) (hk_two (.cells [.int .i64 0] true 0) (.cells [fnOf t] true 0)) id (by repeat' (first | exact trivial | refine renAt_sl rfl (by omega) ?_ | refine renAt_ptr rfl (by omega) ?_ | refine renAt_yield rfl (by omega) ?_ | refine renAt_cl rfl (by first | rfl | simp [clL, AV.cl, cl_ints, cl_ens]) ?_ | refine renAt_cl (inc_slot (by omega)) rfl ?_)) ⟨by omega, ⟨_, rfl, renB_cl rfl rfl⟩, by omega, ⟨_, rfl, renB_cl rfl rfl⟩, trivial⟩ (by intro b c hb hc h; exact h) (fun b hb => rfl) (by omega) ?_
 show VC fs ms 0 false (.rangeFunc (.t 14) [15, 16] L_stack_Stack_last_0a L_stack_Stack_last_0b) _ _ _
 refine vc_rangeL 2 rfl rfl rfl ?_
 show VD fs ms _ [.yield 2, .fp [.fz k' (ens L)] 0] (Heap.new _ (.loop 0 none (lastE _) [15, 16] L_stack_Stack_last_0a L_stack_Stack_last_0b)) _
 rw [lastH_new]
 refine VD.mono (last_it k' L hL t hF) fun v h2 hh => ?_
 rcases hh with ⟨hl, rfl⟩ | ⟨i, hl, g0, g2⟩
 ·refine ⟨.normal, 0, lastH_get _ _ _, by decide, by simp, ?_⟩
  rw [lastH_set]
  set_option smartUnfolding false in conv => whnf
  subst hQ
  rw [hl]
 ·refine ⟨.ret, 2, g2, by decide, by simp, ?_⟩
  set_option smartUnfolding false in conv => whnf
  refine opt_go (v := [.int .i64 (i : Nat)]) (res_cell rfl ((get_set_ne (by decide)).trans g0) rfl) ?_
  set_option smartUnfolding false in conv => whnf
  subst hQ
  rw [hl]
end Ir
end Go.Proofs.YtnlcabhfkpafmaaGreat
namespace Go.Proofs.YtnlcabhfkpafmaaGreat
open Go Ads
namespace Ads
theorem app_shutM {h : Heap} {s bytes b m n es : Nat} {wr : Bool} {vs cs : List AV} {x : AV} (hg : h.get b = some (.cells vs wr es)) (hv : m * s ≤ vs.length) (hsrc : srcV s h x = some (n + 1, cs)) (hf : flatL cs = true) (hb : bytes ≤ 1048576) (hm : m + n ≤ 1048576) :
  eV (.append s bytes) [.sl b 0 m m false, x] h = some (.sl h.next 0 (m + (n + 1)) (m + (n + 1)) true, h.new (.cells (vs.take (m * s) ++ cs) true s)) := by
 have hmu : (m + (n + 1)) * bytes ≤ 1048577 * 1048576 := Nat.mul_le_mul (by omega) hb
 have b1 : Nat.ble (m + (n + 1)) m = false := by cases hb : Nat.ble (m + (n + 1)) m with | false => rfl | true => (have := Nat.le_of_ble_eq_true hb; omega)
 have b2 : Nat.ble ((m + (n + 1)) * bytes) 140737488355328 = true := Nat.ble_eq_true_of_le (by omega)
 have b3 : Nat.ble (m + (n + 1)) 9223372036854775807 = true := Nat.ble_eq_true_of_le (by omega)
 have hld : h.loadN b 0 (m * s) = some (vs.take (m * s)) := by rw [loadN_some hg (by omega), List.drop_zero]
 simp only [eV, l2, hsrc]
 show cond (flatL cs) _ _ = _
 rw [hf, cond_true]
 show cond (Nat.beq (n + 1) 0 && Nat.ble m m) _ _ = _
 rw [show Nat.beq (n + 1) 0 = false from rfl, Bool.false_and, cond_false, b1, cond_false, b2, b3, Bool.and_self, cond_true, hg, hld]
 rfl
end Ads
namespace Ir
def EnA (h : Heap) (E : Nat) (v : AV) (L : List En) : Prop :=
 (L = [] ∧ v = .nils) ∨ ∃ op rest es, v = .sl E 0 L.length L.length op ∧ E < h.next ∧ h.get E = some (.cells (flatCells (ens L) ++ rest) true es) ∧ (op = true → rest = [] ∧ es = 2)
def ownE (E : Nat) : AV → List Nat
 | .nils => []
 | _ => [E]
theorem EnA.keep {h h' : Heap} {E : Nat} {v : AV} {L : List En} {bs : List Nat} (r : EnA h E v L) (f : Fr h h' bs) (hE : ∀ c, c ∈ ownE E v → c ∉ bs) : EnA h' E v L := by
 rcases r with ⟨h1, h2⟩ | ⟨op, rest, es, rfl, h2, h3, h4⟩
 ·exact .inl ⟨h1, h2⟩
 ·exact .inr ⟨op, rest, es, rfl, Nat.lt_of_lt_of_le h2 f.next, (f.keep E h2 (hE E (by simp [ownE]))).trans h3, h4⟩
theorem ens_len (L : List En) : (flatCells (ens L)).length = L.length * 2 := by rw [flat_size (size_ens L), len_ens]
theorem EnA.view {h : Heap} {E : Nat} {v : AV} {L : List En} (r : EnA h E v L) : ∃ k, Frz (fun _ => True) h v (.fz k (ens L)) := by
 rcases r with ⟨rfl, rfl⟩ | ⟨op, rest, es, rfl, h2, h3, h4⟩
 ·exact ⟨3, .nils⟩
 ·exact ⟨0, frz_pre trivial h3 rfl (size_ens L) (len_ens L).symm (Nat.le_refl _) (cl_ens L)⟩
theorem EnA.app {h : Heap} {E : Nat} {v : AV} {L : List En} (r : EnA h E v L) (hl : L.length ≤ 1000) (x : En) : ∃ v' g', eV (.append 2 16) [v, .sl h.next 0 1 1 false] (h.new (.cells (en x).cells true 0)) = some (v', g') ∧
  EnA g' (h.next + 1) v' (L ++ [x]) ∧ Fr h g' (ownE E v) ∧ h.next + 1 < g'.next := by
 have hsrc : srcV 2 (h.new (.cells (en x).cells true 0)) (.sl h.next 0 1 1 false) = some (1, (en x).cells) := src_new get_new_same rfl
 have hfl : ∀ L : List En, flatCells (ens L) ++ (en x).cells = flatCells (ens (L ++ [x])) ++ [] := by
  intro L
  rw [List.append_nil, ens, ens, List.map_append, flat_app]; rfl
 rcases r with ⟨rfl, rfl⟩ | ⟨op, rest, es, rfl, h2, h3, h4⟩
 ·refine ⟨_, _, app_nilsS (nx := h.next + 1) (by omega) hsrc rfl, .inr ⟨true, [], 2, rfl, Nat.lt_succ_self _, ?_, fun _ => ⟨rfl, rfl⟩⟩, ?_, Nat.lt_succ_self _⟩
  ·exact get_new_same (h := h.new (.cells (en x).cells true 0))
  ·exact ((Fr.refl h []).new (x := .cells (en x).cells true 0)).new
 ·have hg : (h.new (.cells (en x).cells true 0)).get E = some (.cells (flatCells (ens L) ++ rest) true es) := by rw [get_new_ne h2]; exact h3
  cases op with
  | true =>
   obtain ⟨rfl, rfl⟩ := h4 rfl
   rw [List.append_nil] at hg
   refine ⟨_, _, app_full hg (ens_len L) hsrc rfl (by omega) (by omega), .inr ⟨true, [], 2, by rw [List.length_append]; rfl, Nat.lt_succ_self _, ?_, fun _ => ⟨rfl, rfl⟩⟩, ?_, Nat.lt_succ_self _⟩
   ·rw [← hfl]
    exact get_new_same (h := (h.new (.cells (en x).cells true 0)).del E)
   ·refine ⟨by show h.next ≤ h.next + 1 + 1; omega, fun c hc hn => ?_⟩
    have hne : c ≠ E := by simpa [ownE] using hn
    exact (get_new_ne (h := (h.new (.cells (en x).cells true 0)).del E) (show c < h.next + 1 by omega)).trans ((get_del_ne hne).trans (get_new_ne hc))
  | false =>
   refine ⟨_, _, app_shutM (m := L.length) (n := 0) hg (by rw [List.length_append, ens_len]; omega) hsrc rfl (by omega) (by omega), .inr ⟨true, [], 2, by rw [List.length_append]; rfl, Nat.lt_succ_self _, ?_, fun _ => ⟨rfl, rfl⟩⟩, ?_, Nat.lt_succ_self _⟩
   ·rw [← hfl, ← ens_len L, List.take_left]
    exact get_new_same (h := h.new (.cells (en x).cells true 0))
   ·exact ((Fr.refl h [E]).new (x := .cells (en x).cells true 0)).new
theorem pl_ints (l : List Int) : plL (flatCells (ints l)) = true := by
 rw [flat_ints]
 induction l with
 | nil => rfl
 | cons x l ih => exact ih
structure StA (h : Heap) (s E : Nat) (v : AV) (k : Nat) (T : List Tk) (L : List En) : Prop where
 lt : s < h.next
 st : h.get s = some (.cells [.fz k (tks T), v, .bool true] true 0)
 en : EnA h E v L
 ne : s ∉ ownE E v
theorem StA.keep {h h' : Heap} {s E k : Nat} {v : AV} {T : List Tk} {L : List En} (S : StA h s E v k T L) (f : Fr h h' []) : StA h' s E v k T L :=
 ⟨Nat.lt_of_lt_of_le S.lt f.next, (f.keep s S.lt (by simp)).trans S.st, S.en.keep f (by simp), S.ne⟩
set_option smartUnfolding true in
theorem StA.view {h : Heap} {s E k : Nat} {v : AV} {T : List Tk} {L : List En} (S : StA h s E v k T L) : ∃ k', Frz (fun _ => True) h (.ptr s 0) (stk k k' T L) := by
 obtain ⟨k', hk⟩ := S.en.view
 exact ⟨k', .ptr' trivial S.st (.cons (.clean (by simp [AV.cl, cl_tks])) (.cons hk (.cons (.clean rfl) .nil)))⟩
def lockE (T : List Tk) (L : List En) (t r : Int) : Int := if askE T t != 0 then askE T t else if !uses T t r then 133 else if L.any (fun x => x.2 == r) then 131 else if decide (((heldL L t).length : Int) ≥ 4) then 130 else 0
section
variable {h : Heap} {s E k : Nat} {v : AV} {T : List Tk} {L : List En} {Q : AV → Heap → Prop}
set_option smartUnfolding true in
theorem slock_c {t r : Int} (S : StA h s E v k T L) (hT : T.length < 2 ^ 62) (hL : L.length ≤ 900)
  (h0 : lockE T L t r ≠ 0 → ∀ h', StA h' s E v k T L → Fr h h' [] → Q (.int .i64 (lockE T L t r)) h')
  (h1 : lockE T L t r = 0 → ∀ h' E' v', StA h' s E' v' k T (L ++ [(t, r)]) → Fr h h' (s :: ownE E v) → h.next ≤ E' → E' < h'.next → Q (.int .i64 0) h') : VD fs ms f_stack_Stack_Lock [.ptr s 0, .int .i64 t, .int .i64 r] h Q := by
 refine vd_start (af := C_stack_Stack_Lock) true rfl (yB rfl) ?_
 have fr1 : Fr h (h.new (.cells [.int .i64 r] true 0)) [] := (Fr.refl h []).new
 have S1 := S.keep fr1
 have gb : (h.new (.cells [.int .i64 r] true 0)).get h.next = some (.cells [.int .i64 r] true 0) := get_new_same
 have nb : h.next < (h.new (.cells [.int .i64 r] true 0)).next := Nat.lt_succ_self _
 obtain ⟨k1, hv1⟩ := S1.view
 obtain ⟨k2, hv2⟩ := S1.en.view
 set_option smartUnfolding false in conv => whnf
 refine vd_view (asked_c k k1 T L t) rfl (.cons hv1 (.cons (.clean rfl) .nil)) ?_
 set_option smartUnfolding false in conv => whnf
 refine br (fun hc => ?_) (fun hc => ?_) <;> (try rw [hc]) <;> (set_option smartUnfolding false in conv => whnf)
 ·have e : lockE T L t r = askE T t := by rw [lockE, if_pos hc]
  rw [e] at h0
  exact h0 (by simpa using hc) _ S1 fr1
 have e1 : lockE T L t r = if !uses T t r then 133 else if L.any (fun x => x.2 == r) then 131 else if decide (((heldL L t).length : Int) ≥ 4) then 130 else 0 := by rw [lockE, if_neg (by rw [hc]; simp)]
 repeat (first | (refine ⟨_, ld1 S1.st rfl, ?_⟩; set_option smartUnfolding false in conv => whnf) | (refine ⟨_, ld1 gb rfl, ?_⟩; set_option smartUnfolding false in conv => whnf))
 refine vd_pure (usesL_c k T hT t r) ?_
 set_option smartUnfolding false in conv => whnf
 refine br (fun hc => ?_) (fun hc => ?_) <;> (try rw [hc]) <;> (set_option smartUnfolding false in conv => whnf)
 ·rw [if_pos hc] at e1
  rw [e1] at h0
  exact h0 (by decide) _ S1 fr1
 rw [if_neg (by rw [hc]; simp)] at e1
 repeat (first | (refine ⟨_, ld1 S1.st rfl, ?_⟩; set_option smartUnfolding false in conv => whnf) | (refine ⟨_, ld1 gb rfl, ?_⟩; set_option smartUnfolding false in conv => whnf))
 obtain ⟨n, hn, hany⟩ : ∃ n : Bool, PC fs ms f_slices_ContainsFunc_stack_entry_stack_entry [.fz k2 (ens L), .func (.func f_stack_Stack_Lock_1) [] [.fp [.int .i64 r] 0]] (.bool n) ∧ n = L.any (fun x => x.2 == r) := ⟨_, cfEn_c k2 L (by omega) rfl (fun m _ => lock1_c r m), rfl⟩
 refine vd_view hn rfl (.cons hv2 (.cons (.func' .nil (.cons (.ptr' trivial gb (.clean rfl)) .nil)) .nil)) ?_
 rw [← hany] at e1
 set_option smartUnfolding false in conv => whnf
 refine br (fun hc => ?_) (fun hc => ?_) <;> (try rw [hc]) <;> (set_option smartUnfolding false in conv => whnf)
 ·rw [if_pos hc] at e1
  rw [e1] at h0
  exact h0 (by decide) _ S1 fr1
 rw [if_neg (by rw [hc]; simp)] at e1
 refine vd_viewN (by simp [clL, cl_stk, AV.cl]) (pl_ints _) (held_c k k1 T L (by omega) t) (.cons hv1 (.cons (.clean rfl) .nil)) (fun he => ?_) ?_
 ·have hz : heldL L t = [] := by
   have := congrArg List.length he
   rw [len_ints] at this
   exact List.length_eq_zero_iff.1 this
  rw [hz] at e1
  have e0 : lockE T L t r = 0 := e1
  set_option smartUnfolding false in conv => whnf
  repeat (first | (refine ⟨_, ld1 S1.st rfl, ?_⟩; set_option smartUnfolding false in conv => whnf) | (refine ⟨_, ld1 gb rfl, ?_⟩; set_option smartUnfolding false in conv => whnf))
  obtain ⟨v', g', ha, hen, hfr, hnx⟩ := S1.en.app (by omega) (t, r)
  refine ⟨_, _, ha, ?_⟩
  rcases hen with ⟨hnil, _⟩ | ⟨op, rest, es, rfl, g2, g3, g4⟩
  ·simp at hnil
  have hs : g'.get s = some (.cells [.fz k (tks T), v, .bool true] true 0) := (hfr.keep s S1.lt S1.ne).trans S1.st
  set_option smartUnfolding false in conv => whnf
  refine ⟨_, _, sto_o hs rfl (yB rfl) rfl, ?_⟩
  set_option smartUnfolding false in conv => whnf
  have hlt : s ≠ (h.new (.cells [.int .i64 r] true 0)).next + 1 := by have := S1.lt; omega
  refine h1 e0 _ _ _ ⟨Nat.lt_of_lt_of_le S1.lt hfr.next, get_set_same, .inr ⟨op, rest, es, rfl, g2, (get_set_ne (Ne.symm hlt)).trans g3, g4⟩, by simpa [ownE] using hlt⟩ ?_ ?_ g2
  ·exact (fr1.wk (by simp)).trans ((hfr.wk (by intro c hc; simp [hc])).set (by simp))
  ·exact Nat.le_succ_of_le fr1.next
 ·have fr2 : Fr h ((h.new (.cells [.int .i64 r] true 0)).new (.cells (flatCells (ints (heldL L t))) true 1)) [] := fr1.new
  have S2 := S1.keep ((Fr.refl _ []).new (x := .cells (flatCells (ints (heldL L t))) true 1))
  have gb2 := (get_new_ne (x := .cells (flatCells (ints (heldL L t))) true 1) nb).trans gb
  set_option smartUnfolding false in conv => whnf
  rw [len_ints]
  refine br (fun hc => ?_) (fun hc => ?_) <;> (try rw [hc]) <;> (set_option smartUnfolding false in conv => whnf)
  ·rw [if_pos hc] at e1
   rw [e1] at h0
   exact h0 (by decide) _ S2 fr2
  have e0 : lockE T L t r = 0 := by rw [e1, if_neg (by rw [hc]; simp)]
  repeat (first | (refine ⟨_, ld1 S2.st rfl, ?_⟩; set_option smartUnfolding false in conv => whnf) | (refine ⟨_, ld1 gb2 rfl, ?_⟩; set_option smartUnfolding false in conv => whnf))
  obtain ⟨v', g', ha, hen, hfr, hnx⟩ := S2.en.app (by omega) (t, r)
  refine ⟨_, _, ha, ?_⟩
  rcases hen with ⟨hnil, _⟩ | ⟨op, rest, es, rfl, g2, g3, g4⟩
  ·simp at hnil
  have hs : g'.get s = some (.cells [.fz k (tks T), v, .bool true] true 0) := (hfr.keep s S2.lt S2.ne).trans S2.st
  set_option smartUnfolding false in conv => whnf
  refine ⟨_, _, sto_o hs rfl (yB rfl) rfl, ?_⟩
  set_option smartUnfolding false in conv => whnf
  have hlt : s ≠ ((h.new (.cells [.int .i64 r] true 0)).new (.cells (flatCells (ints (heldL L t))) true 1)).next + 1 := by have := S2.lt; omega
  refine h1 e0 _ _ _ ⟨Nat.lt_of_lt_of_le S2.lt hfr.next, get_set_same, .inr ⟨op, rest, es, rfl, g2, (get_set_ne (Ne.symm hlt)).trans g3, g4⟩, by simpa [ownE] using hlt⟩ ?_ ?_ g2
  ·exact (fr2.wk (by simp)).trans ((hfr.wk (by intro c hc; simp [hc])).set (by simp))
  ·exact Nat.le_succ_of_le fr2.next
end
end Ir
end Go.Proofs.YtnlcabhfkpafmaaGreat
namespace Go.Proofs.YtnlcabhfkpafmaaGreat
open Go Ads
namespace Ads
theorem cut_at {E n i : Nat} {op : Bool} (h : i < n) : pV (.slice 2 false true true) [.sl E 0 n n op, .int .i64 ((i : Nat) : Int), .int .i64 ((i : Nat) : Int)] = some (.sl E 0 i i false) := by
 have hb : bounds n n false true true [.int .i64 ((i : Nat) : Int), .int .i64 ((i : Nat) : Int)] = some (0, i, i) := by
  have b1 : Nat.ble i i = true := Nat.ble_eq_true_of_le (Nat.le_refl _)
  have b2 : Nat.ble i n = true := Nat.ble_eq_true_of_le (by omega)
  show cond (Nat.ble 0 i && Nat.ble i i && Nat.ble i n) _ _ = _
  rw [b1, b2]; rfl
 have he : pV (.slice 2 false true true) [.sl E 0 n n op, .int .i64 ((i : Nat) : Int), .int .i64 ((i : Nat) : Int)] = (match bounds n n false true true [.int .i64 ((i : Nat) : Int), .int .i64 ((i : Nat) : Int)] with
   | some (a, hh, mm) => cond (Nat.beq mm a && Nat.beq n mm && (op && !true && !Nat.beq a 0)) (some (.rest E 0 (a * 2))) (some (.sl E (0 + cond (Nat.beq mm a) 0 (a * 2)) (hh - a) (mm - a) false))
   | none => none) := rfl
 rw [he, hb]
 show cond (Nat.beq i 0 && Nat.beq n i && (op && !true && !Nat.beq 0 0)) _ (some (AV.sl E (0 + cond (Nat.beq i 0) 0 (0 * 2)) (i - 0) (i - 0) false)) = _
 have b3 : (op && !true && !Nat.beq 0 0) = false := by cases op <;> rfl
 rw [b3, Bool.and_false, cond_false]
 cases Nat.beq i 0 <;> rfl
theorem tail_at {h : Heap} {E n i es : Nat} {op wr : Bool} {cs : List AV} (hi : i < n) (hg : h.get E = some (.cells cs wr es)) (hn : n * 2 ≤ cs.length) :
  ∃ src, pV (.slice 2 true false false) [.sl E 0 n n op, .int .i64 (((i + 1 : Nat) : Int))] = some src ∧ srcV 2 h src = some (n - (i + 1), (cs.drop ((i + 1) * 2)).take ((n - (i + 1)) * 2)) := by
 have hb : bounds n n true false false [.int .i64 ((i + 1 : Nat) : Int)] = some (i + 1, n, n) := by
  have b1 : Nat.ble n n = true := Nat.ble_eq_true_of_le (Nat.le_refl _)
  have b2 : Nat.ble (i + 1) n = true := Nat.ble_eq_true_of_le (by omega)
  show cond (Nat.ble (i + 1) n && Nat.ble n n && Nat.ble n n) _ _ = _
  rw [b1, b2]; rfl
 have he : pV (.slice 2 true false false) [.sl E 0 n n op, .int .i64 ((i + 1 : Nat) : Int)] = (match bounds n n true false false [.int .i64 ((i + 1 : Nat) : Int)] with
   | some (a, hh, mm) => cond (Nat.beq mm a && Nat.beq n mm && (op && !false && !Nat.beq a 0)) (some (.rest E 0 (a * 2))) (some (.sl E (0 + cond (Nat.beq mm a) 0 (a * 2)) (hh - a) (mm - a) op))
   | none => none) := rfl
 rw [he, hb]
 by_cases e : n = i + 1
 ·subst e
  rw [Nat.sub_self, Nat.zero_mul, List.take_zero]
  cases op with
  | true =>
   refine ⟨.rest E 0 ((i + 1) * 2), ?_, rfl⟩
   show cond (Nat.beq (i + 1) (i + 1) && Nat.beq (i + 1) (i + 1) && (true && !false && !Nat.beq (i + 1) 0)) _ _ = _
   rw [Nat.beq_refl]; rfl
  | false =>
   refine ⟨.sl E 0 0 0 false, ?_, ?_⟩
   ·show cond (Nat.beq (i + 1) (i + 1) && Nat.beq (i + 1) (i + 1) && (false && !false && !Nat.beq (i + 1) 0)) _ (some (AV.sl E (0 + cond (Nat.beq (i + 1) (i + 1)) 0 ((i + 1) * 2)) (i + 1 - (i + 1)) (i + 1 - (i + 1)) false)) = _
    rw [Nat.beq_refl, Nat.sub_self]; rfl
   ·show (h.loadN E 0 (0 * 2)).map _ = _
    rw [loadN_some hg (by omega)]; rfl
 ·have b0 : Nat.beq n (i + 1) = false := by
   cases hc : Nat.beq n (i + 1) with
   | false => rfl
   | true => exact absurd (Nat.eq_of_beq_eq_true hc) e
  refine ⟨.sl E ((i + 1) * 2) (n - (i + 1)) (n - (i + 1)) op, ?_, ?_⟩
  ·show cond (Nat.beq n (i + 1) && _ && _) _ (some (AV.sl E (0 + cond (Nat.beq n (i + 1)) 0 ((i + 1) * 2)) (n - (i + 1)) (n - (i + 1)) op)) = _
   rw [b0, Bool.false_and, Bool.false_and, cond_false, cond_false, Nat.zero_add]
  ·show (h.loadN E ((i + 1) * 2) ((n - (i + 1)) * 2)).map _ = _
   rw [loadN_some hg (by omega)]; rfl
theorem app_keep {h : Heap} {s bytes b m : Nat} {cs : List AV} {x : AV} (hsrc : srcV s h x = some (0, cs)) (hf : flatL cs = true) : eV (.append s bytes) [.sl b 0 m m false, x] h = some (.sl b 0 m m false, h) := by
 simp only [eV, l2, hsrc]
 show cond (flatL cs) _ _ = _
 rw [hf, cond_true]
 show cond (Nat.beq 0 0 && Nat.ble m m) _ _ = _
 rw [show Nat.ble m m = true from Nat.ble_eq_true_of_le (Nat.le_refl _)]
 rfl
end Ads
namespace Ir
theorem flatL_ens (L : List En) : flatL (flatCells (ens L)) = true := by
 induction L with
 | nil => rfl
 | cons x L ih => exact ih
theorem ens_app (L M : List En) : flatCells (ens (L ++ M)) = flatCells (ens L) ++ flatCells (ens M) := by rw [ens, List.map_append, flat_app]; rfl
theorem ens_take {L : List En} {i : Nat} (h : i ≤ L.length) (rest : List AV) : (flatCells (ens L) ++ rest).take (i * 2) = flatCells (ens (L.take i)) := by
 have e : flatCells (ens L) = flatCells (ens (L.take i)) ++ flatCells (ens (L.drop i)) := by rw [← ens_app, List.take_append_drop]
 have hl : (flatCells (ens (L.take i))).length = i * 2 := by rw [ens_len, List.length_take]; omega
 rw [e, List.append_assoc, ← hl, List.take_left]
theorem ens_drop {L : List En} {i : Nat} (h : i ≤ L.length) (rest : List AV) : (flatCells (ens L) ++ rest).drop (i * 2) = flatCells (ens (L.drop i)) ++ rest := by
 have e : flatCells (ens L) = flatCells (ens (L.take i)) ++ flatCells (ens (L.drop i)) := by rw [← ens_app, List.take_append_drop]
 have hl : (flatCells (ens (L.take i))).length = i * 2 := by rw [ens_len, List.length_take]; omega
 rw [e, List.append_assoc, ← hl, List.drop_left]
theorem EnA.cut {h : Heap} {E : Nat} {v : AV} {L : List En} (r : EnA h E v L) (hl : L.length ≤ 1000) {i : Nat} (hi : i < L.length) :
  ∃ s1 s2, pV (.slice 2 false true true) [v, .int .i64 ((i : Nat) : Int), .int .i64 ((i : Nat) : Int)] = some s1 ∧ pV (.slice 2 true false false) [v, .int .i64 ((i + 1 : Nat) : Int)] = some s2 ∧
   ∃ v' g' E', eV (.append 2 16) [s1, s2] h = some (v', g') ∧ EnA g' E' v' (L.eraseIdx i) ∧ Fr h g' [] ∧ (E' ∈ ownE E v ∨ h.next ≤ E') ∧ v' ≠ .nils := by
 rcases r with ⟨rfl, rfl⟩ | ⟨op, rest, es, rfl, h2, h3, h4⟩
 ·simp at hi
 have hlen : (flatCells (ens L) ++ rest).length = L.length * 2 + rest.length := by rw [List.length_append, ens_len]
 obtain ⟨src, e1, e2⟩ := tail_at (op := op) hi h3 (by omega)
 refine ⟨_, _, cut_at hi, e1, ?_⟩
 rw [ens_drop (by omega)] at e2
 have hd : (flatCells (ens (L.drop (i + 1)))).length = (L.length - (i + 1)) * 2 := by rw [ens_len, List.length_drop]
 rw [← hd, List.take_left] at e2
 have he : L.eraseIdx i = L.take i ++ L.drop (i + 1) := List.eraseIdx_eq_take_drop_succ ..
 have hle : (L.eraseIdx i).length = L.length - 1 := by rw [List.length_eraseIdx]; simp [hi]
 by_cases hn : L.length = i + 1
 ·have hd0 : L.drop (i + 1) = [] := List.drop_eq_nil_iff.2 (by omega)
  rw [hn, Nat.sub_self, hd0] at e2
  refine ⟨_, _, E, app_keep e2 rfl, .inr ⟨false, flatCells (ens (L.drop i)) ++ rest, es, ?_, h2, ?_, by simp⟩, Fr.refl _ _, .inl (by simp [ownE]), by simp⟩
  ·rw [hle, hn]; rfl
  ·rw [he, hd0, List.append_nil, ← List.append_assoc, ← ens_app, List.take_append_drop]
   exact h3
 ·obtain ⟨m, hm⟩ : ∃ m, L.length - (i + 1) = m + 1 := ⟨L.length - (i + 2), by omega⟩
  rw [hm] at e2
  refine ⟨_, _, h.next, app_shutM (m := i) (n := m) h3 (by omega) e2 (flatL_ens _) (by omega) (by omega), .inr ⟨true, [], 2, ?_, Nat.lt_succ_self _, ?_, fun _ => ⟨rfl, rfl⟩⟩, (Fr.refl h []).new, .inr (Nat.le_refl _), by simp⟩
  ·rw [hle, show i + (m + 1) = L.length - 1 by omega]
  ·rw [ens_take (by omega), ← ens_app, ← he, List.append_nil]
   exact get_new_same
def unlE (T : List Tk) (L : List En) (t : Int) : Int := if askE T t != 0 then askE T t else if decide (lastI L t < 0) then 132 else 0
theorem lastN_ge (L : List En) (t : Int) : ∀ n, n ≤ L.length → lastN L t n = -1 ∨ ∃ i, i < n ∧ lastN L t n = ((i : Nat) : Int)
 | 0, _ => .inl rfl
 | n + 1, h => by
  rw [lastN, List.getElem?_eq_getElem (by omega)]
  cases hc : (L[n].1 == t) with
  | true => exact .inr ⟨n, by omega, by simp only [hc]; rfl⟩
  | false =>
   simp only [hc]
   rw [if_neg (by simp)]
   rcases lastN_ge L t n (by omega) with h1 | ⟨i, h1, h2⟩
   ·exact .inl h1
   ·exact .inr ⟨i, by omega, h2⟩
theorem en_at {L : List En} {i : Nat} (h : i < L.length) (rest : List AV) : (flatCells (ens L) ++ rest)[i * 2 + 1]? = some (.int .i64 L[i].2) := by
 rw [List.getElem?_append_left (by rw [ens_len]; omega)]
 exact flat_at (size_ens L) (x := en L[i]) (by rw [ens, List.getElem?_map, List.getElem?_eq_getElem h]; rfl) rfl
section
variable {h : Heap} {s E k : Nat} {v : AV} {T : List Tk} {L : List En} {Q : AV → Heap → Prop}
theorem sunlock_c {t : Int} (S : StA h s E v k T L) (hL : L.length ≤ 900)
  (h0 : unlE T L t ≠ 0 → ∀ h', StA h' s E v k T L → Fr h h' [] → Q (.tup [.int .i64 0, .int .i64 (unlE T L t)]) h')
  (h1 : unlE T L t = 0 → ∀ i (hi : i < L.length), lastI L t = ((i : Nat) : Int) → ∀ h' E' v', StA h' s E' v' k T (L.eraseIdx i) → Fr h h' [s] → (E' ∈ ownE E v ∨ h.next ≤ E') → v' ≠ .nils → Q (.tup [.int .i64 L[i].2, .int .i64 0]) h') : VD fs ms f_stack_Stack_Unlock [.ptr s 0, .int .i64 t] h Q := by
 refine vd_start (af := C_stack_Stack_Unlock) true rfl (yB rfl) ?_
 obtain ⟨k1, hv1⟩ := S.view
 conv => whnf
 refine vd_view (asked_c k k1 T L t) rfl (.cons hv1 (.cons (.clean rfl) .nil)) ?_
 conv => whnf
 refine br (fun hc => ?_) (fun hc => ?_) <;> (try rw [hc]) <;> (conv => whnf)
 ·have e : unlE T L t = askE T t := by rw [unlE, if_pos hc]
  rw [e] at h0
  exact h0 (by simpa using hc) _ S (Fr.refl _ _)
 have e1 : unlE T L t = if decide (lastI L t < 0) then 132 else 0 := by rw [unlE, if_neg (by rw [hc]; simp)]
 refine vd_view (last_c k k1 T L (by omega) t) rfl (.cons hv1 (.cons (.clean rfl) .nil)) ?_
 conv => whnf
 refine br (fun hc => ?_) (fun hc => ?_) <;> (try rw [hc]) <;> (conv => whnf)
 ·rw [if_pos hc] at e1
  rw [e1] at h0
  exact h0 (by decide) _ S (Fr.refl _ _)
 rw [if_neg (by rw [hc]; simp)] at e1
 have hlt := of_decide_eq_false hc
 obtain ⟨i, hi, hla⟩ : ∃ i, i < L.length ∧ lastI L t = ((i : Nat) : Int) := by
  rcases lastN_ge L t L.length (Nat.le_refl _) with h2 | h2
  ·exact absurd (show lastI L t < 0 by rw [lastI, h2]; decide) hlt
  ·exact h2
 rw [hla]
 obtain ⟨s1, s2, a1, a2, v', g', E', a3, hen, hfr, hE, hnv⟩ := S.en.cut (by omega) hi
 have hv : ∃ op rest es, v = .sl E 0 L.length L.length op ∧ h.get E = some (.cells (flatCells (ens L) ++ rest) true es) := by
  rcases S.en with ⟨rfl, _⟩ | ⟨op, rest, es, b1, b2, b3, b4⟩
  ·simp at hi
  ·exact ⟨op, rest, es, b1, b3⟩
 obtain ⟨op, rest, es, rfl, hge⟩ := hv
 repeat (first | (refine ⟨_, ld1 S.st rfl, ?_⟩; conv => whnf))
 refine ⟨_, idx_slS3 hi, ?_⟩
 conv => whnf
 refine ⟨_, ld1 hge (en_at hi rest), ?_⟩
 conv => whnf
 repeat (first | (refine ⟨_, ld1 S.st rfl, ?_⟩; conv => whnf))
 refine ⟨_, a1, ?_⟩
 conv => whnf
 repeat (first | (refine ⟨_, ld1 S.st rfl, ?_⟩; conv => whnf))
 have hw : IntKind.i64.wrap (((i : Nat) : Int) + 1) = ((i + 1 : Nat) : Int) := by rw [IntWalk.i64_in _ (by omega)]; omega
 rw [← hw] at a2
 refine ⟨_, a2, ?_⟩
 conv => whnf
 refine ⟨_, _, a3, ?_⟩
 conv => whnf
 have hs : g'.get s = some (.cells [.fz k (tks T), .sl E 0 L.length L.length op, .bool true] true 0) := (hfr.keep s S.lt (by simp)).trans S.st
 have hls : s < g'.next := Nat.lt_of_lt_of_le S.lt hfr.next
 have hsE : s ≠ E' := by
  rcases hE with h | h
  ·have := S.ne; simp [ownE] at this h; rw [h]; exact this
  ·have := S.lt; omega
 rcases hen with ⟨_, rfl⟩ | ⟨op2, rest2, es2, rfl, b2, b3, b4⟩
 ·exact absurd rfl hnv
 refine ⟨_, _, sto_o hs rfl (yB rfl) rfl, ?_⟩
 conv => whnf
 refine h1 e1 i hi hla _ E' _ ⟨hls, get_set_same, .inr ⟨op2, rest2, es2, rfl, b2, (get_set_ne (Ne.symm hsE)).trans b3, b4⟩, by simpa [ownE] using hsE⟩ ((hfr.wk (by simp)).set (by simp)) hE (by simp)
end
set_option smartUnfolding true in
theorem lastN_at (L : List En) (t : Int) : ∀ n, n ≤ L.length → ∀ i (hi : i < L.length), lastN L t n = ((i : Nat) : Int) → (L[i].1 == t) = true
 | 0, _, i, hi, h => by simp only [lastN] at h; omega
 | n + 1, hn, i, hi, h => by
  rw [lastN, List.getElem?_eq_getElem (by omega)] at h
  cases hc : (L[n].1 == t) with
  | true =>
   simp only [hc] at h
   have : n = i := by
    have h : ((n : Nat) : Int) = ((i : Nat) : Int) := h
    omega
   subst this
   exact hc
  | false =>
   simp only [hc] at h
   rw [if_neg (by simp)] at h
   exact lastN_at L t n (by omega) i hi h
theorem lastN_none (L : List En) (t : Int) : ∀ n, n ≤ L.length → lastN L t n < 0 → ∀ i (hi : i < L.length), i < n → (L[i].1 == t) = false
 | 0, _, _, i, hi, h => by omega
 | n + 1, hn, hl, i, hi, h => by
  rw [lastN, List.getElem?_eq_getElem (by omega)] at hl
  cases hc : (L[n].1 == t) with
  | true =>
   simp only [hc] at hl
   have hl : ((n : Nat) : Int) < 0 := hl
   omega
  | false =>
   simp only [hc] at hl
   rw [if_neg (by simp)] at hl
   by_cases e : i = n
   ·subst e; exact hc
   ·exact lastN_none L t n (by omega) hl i hi (by omega)
def dropL (L : List En) (t : Int) : List En := L.filter fun x => !(x.1 == t)
theorem drop_none {L : List En} {t : Int} (h : lastI L t < 0) : dropL L t = L := by
 rw [dropL, List.filter_eq_self]
 intro x hx
 obtain ⟨i, hi, rfl⟩ := List.getElem_of_mem hx
 rw [lastN_none L t L.length (Nat.le_refl _) h i hi hi]; rfl
theorem drop_one {L : List En} {t : Int} {i : Nat} (hi : i < L.length) (h : lastI L t = ((i : Nat) : Int)) : dropL (L.eraseIdx i) t = dropL L t := by
 have hp := lastN_at L t L.length (Nat.le_refl _) i hi h
 have e : L = L.take i ++ L[i] :: L.drop (i + 1) := by rw [List.getElem_cons_drop, List.take_append_drop]
 rw [List.eraseIdx_eq_take_drop_succ]
 conv => rhs; rw [e]
 rw [dropL, dropL, List.filter_append, List.filter_append, List.filter_cons]
 rw [hp]
 rfl
theorem StA.keep2 {h h' : Heap} {s E k : Nat} {v : AV} {T : List Tk} {L : List En} (S : StA h s E v k T L) (hn : h.next ≤ h'.next) (h1 : h'.get s = h.get s) (h2 : ∀ c, c ∈ ownE E v → c < h.next → h'.get c = h.get c) : StA h' s E v k T L := by
 refine ⟨Nat.lt_of_lt_of_le S.lt hn, h1.trans S.st, ?_, S.ne⟩
 rcases S.en with ⟨b1, b2⟩ | ⟨op, rest, es, rfl, b2, b3, b4⟩
 ·exact .inl ⟨b1, b2⟩
 ·exact .inr ⟨op, rest, es, rfl, Nat.lt_of_lt_of_le b2 hn, (h2 E (by simp [ownE]) b2).trans b3, b4⟩
theorem IRow.off {lo : Nat} {h : Heap} {v : AV} {l : List Int} (r : IRow lo h v l) {c : Nat} (hc : c < lo ∨ h.next ≤ c) : offB v c := by
 intro o n k op e
 rcases r with ⟨_, h2⟩ | ⟨b, h1, h2, h3, _⟩
 ·rw [h2] at e; cases e
 ·rw [h3] at e; cases e; omega
theorem IRow.keep2 {lo : Nat} {h h' : Heap} {v : AV} {l : List Int} {bs : List Nat} (hr : IRow lo h v l) (fr : Fr h h' bs) (hb : ∀ c, c ∈ bs → c < lo) : IRow lo h' v l := by
 rcases hr with hr | ⟨b, h1, h2, h3, h4⟩
 ·exact .inl hr
 ·exact .inr ⟨b, h1, Nat.lt_of_lt_of_le h2 fr.next, h3, by rw [fr.keep b h2 (fun hm => by have := hb b hm; omega)]; exact h4⟩
theorem own_eq {c E : Nat} {v : AV} (h : c ∈ ownE E v) : c = E := by
 cases v <;> simp [ownE] at h <;> exact h
theorem own_lt {h : Heap} {E : Nat} {v : AV} {L : List En} (r : EnA h E v L) {c : Nat} (hc : c ∈ ownE E v) : c < h.next := by
 rcases r with ⟨_, rfl⟩ | ⟨op, rest, es, rfl, b2, _⟩
 ·simp [ownE] at hc
 ·rw [own_eq hc]; exact b2
theorem sdrop_loop {t : Int} {h0 : Heap} {B : Nat} {Q : AX → Env → Heap → Prop} {s k : Nat} {T : List Tk} {F : List En} {own : List Nat} (ha : askE T t = 0) (hs0 : s < h0.next)
  (hQ : ∀ h' E v e', StA h' s E v k T F → Fr h0 h' (s :: own) → (∀ c, c ∈ ownE E v → c ∈ own ∨ h0.next ≤ c) → (∃ w, Tr.get e' 4 = some w) → Q (.exit 0) e' h') :
  ∀ (m : Nat) (L : List En) (h : Heap) (E : Nat) (v out : AV) (l : List Int) (r e : Int) (env : Env), L.length + (if e = 0 then 1 else 0) = m → StA h s E v k T L → L.length ≤ 900 → l.length + m ≤ 2000 → dropL L t = F → (e ≠ 0 → lastI L t < 0) →
   IRow h0.next h out l → (∀ c, c ∈ ownE E v → offB out c) → Fr h0 h (s :: own) → (∀ c, c ∈ ownE E v → c ∈ own ∨ h0.next ≤ c) → AllAt env [(0, .ptr s 0), (1, .int .i64 t), (4, out), (5, .int .i64 r), (6, .int .i64 e)] →
   VC fs ms B false (.loop L_stack_Stack_Drop_0) env h Q := by
 intro m
 induction m using Nat.strongRecOn with
 | ind m ih =>
 intro L h E v out l r e env hm S hL hlm hF hno ho hoff fr hown henv
 refine vc_slots 3 _ henv ?_
 refine vc_loop (z := true) ?_
 conv => whnf
 refine br (fun hc => ?_) (fun hc => ?_) <;> (try rw [hc]) <;> (conv => whnf)
 ·have he : e = 0 := eq_of_beq hc
  rw [if_pos he] at hm
  obtain ⟨o', g', a1, a2, a3, a4, a5⟩ := ho.app fr.next (by omega) r
  refine ⟨_, _, a1, ?_⟩
  have hsn := S.lt
  have S2 : StA g' s E v k T L := S.keep2 a3 (a4 s hsn (ho.off (.inl hs0))) (fun c hc hlt => a4 c hlt (hoff c hc))
  have fr2 : Fr h0 g' (s :: own) := ⟨Nat.le_trans fr.next a3, fun c hc hn => (a4 c (Nat.lt_of_lt_of_le hc fr.next) (ho.off (.inl hc))).trans (fr.keep c hc hn)⟩
  have hlen : (l ++ [r]).length = l.length + 1 := by simp
  have hun : unlE T L t = if decide (lastI L t < 0) then 132 else 0 := by rw [unlE, ha]; rfl
  conv => whnf
  refine sunlock_c S2 hL (fun hu h2 S3 fr3 => ?_) (fun hu i hi hla h2 E2 v2 S3 fr3 hE2 hv2 => ?_)
  ·conv => whnf
   refine ih L.length (by omega) L h2 E v o' (l ++ [r]) 0 (unlE T L t) _ (by rw [if_neg hu]; exact Nat.add_zero _) S3 hL (by omega) hF (fun _ => ?_) (a2.keep2 fr3 (fun c hc => by simp at hc)) (fun c hc => a5 c (own_lt S.en hc)) (fr2.trans (fr3.wk (by simp))) hown ⟨rfl, rfl, rfl, rfl, rfl, trivial⟩
   cases hd : decide (lastI L t < 0) with
   | true => exact of_decide_eq_true hd
   | false => rw [hun, hd] at hu; exact absurd rfl hu
  ·have hle : (L.eraseIdx i).length = L.length - 1 := by rw [List.length_eraseIdx]; simp [hi]
   conv => whnf
   refine ih L.length (by omega) (L.eraseIdx i) h2 E2 v2 o' (l ++ [r]) L[i].2 0 _ (by rw [if_pos rfl, hle]; omega) S3 (by omega) (by omega) ((drop_one hi hla).trans hF) (fun h => absurd rfl h) (a2.keep2 fr3 (fun c hc => by rw [List.mem_singleton.1 hc]; exact hs0)) (fun c hc => ?_) (fr2.trans (fr3.wk (by simp))) (fun c hc => ?_) ⟨rfl, rfl, rfl, rfl, rfl, trivial⟩
   ·rw [own_eq hc]
    rcases hE2 with h | h
    ·exact a5 E2 (own_lt S.en h)
    ·exact a2.off (.inr h)
   ·rw [own_eq hc]
    rcases hE2 with h | h
    ·exact hown E2 h
    ·exact .inr (Nat.le_trans (Nat.le_trans fr.next a3) h)
 ·have he : e ≠ 0 := by intro h; subst h; simp at hc
  rw [drop_none (hno he)] at hF
  subst hF
  exact hQ _ _ _ _ S fr hown ⟨_, rfl⟩
theorem sdrop_c {h : Heap} {s E k : Nat} {v : AV} {T : List Tk} {L : List En} {Q : AV → Heap → Prop} {t : Int} (S : StA h s E v k T L) (hL : L.length ≤ 900) (ha : askE T t = 0)
  (hQ : ∀ w h' E' v', StA h' s E' v' k T (dropL L t) → Fr h h' (s :: ownE E v) → (∀ c, c ∈ ownE E' v' → c ∈ ownE E v ∨ h.next ≤ c) → Q w h') : VD fs ms f_stack_Stack_Drop [.ptr s 0, .int .i64 t] h Q := by
 refine vd_begin (af := C_stack_Stack_Drop) rfl (yB rfl) ?_
 conv => whnf
 refine vc_seq true ?_
 conv => whnf
 refine vc_seqV (vc_seq true ?_)
 conv => whnf
 have hun : unlE T L t = if decide (lastI L t < 0) then 132 else 0 := by rw [unlE, ha]; rfl
 refine sunlock_c S hL (fun hu h2 S3 fr3 => ?_) (fun hu i hi hla h2 E2 v2 S3 fr3 hE2 hv2 => ?_)
 ·conv => whnf
  refine vc_block ?_
  refine sdrop_loop (h0 := h) (F := dropL L t) (own := ownE E v) ha S.lt ?_ _ L h2 E v .nils [] 0 (unlE T L t) _ rfl S3 hL (by rw [if_neg hu]; simp; omega) rfl (fun _ => ?_) (.inl ⟨rfl, rfl⟩) (fun c _ o n k op e => by cases e) (fr3.wk (by simp)) (fun c hc => .inl hc) ⟨rfl, rfl, rfl, rfl, rfl, trivial⟩
  ·intro h3 E3 v3 e3 S4 fr4 ho4 hw
   obtain ⟨w, hw⟩ := hw
   show VC fs ms _ _ _ _ _ _
   refine vc_slots 3 [(4, w)] ⟨hw, trivial⟩ (vpC_sound (z := true) ?_)
   conv => whnf
   exact hQ _ _ _ _ S4 fr4 ho4
  ·cases hd : decide (lastI L t < 0) with
   | true => exact of_decide_eq_true hd
   | false => rw [hun, hd] at hu; exact absurd rfl hu
 ·conv => whnf
  refine vc_block ?_
  have hle : (L.eraseIdx i).length = L.length - 1 := by rw [List.length_eraseIdx]; simp [hi]
  refine sdrop_loop (h0 := h) (F := dropL L t) (own := ownE E v) ha S.lt ?_ _ (L.eraseIdx i) h2 E2 v2 .nils [] L[i].2 0 _ rfl S3 (by omega) (by simp; omega) (drop_one hi hla) (fun h => absurd rfl h) (.inl ⟨rfl, rfl⟩) (fun c _ o n k op e => by cases e) (fr3.wk (by simp)) (fun c hc => by rw [own_eq hc]; exact hE2) ⟨rfl, rfl, rfl, rfl, rfl, trivial⟩
  intro h3 E3 v3 e3 S4 fr4 ho4 hw
  obtain ⟨w, hw⟩ := hw
  show VC fs ms _ _ _ _ _ _
  refine vc_slots 3 [(4, w)] ⟨hw, trivial⟩ (vpC_sound (z := true) ?_)
  conv => whnf
  exact hQ _ _ _ _ S4 fr4 ho4
theorem size_tksR (l : List Tk) : allSize 8 (tks l) = true := allSize_map (enc := tk) (fun _ => rfl) l
theorem flat_tksR (l : List Tk) : flatL (flatCells (tks l)) = true := by
 induction l with
 | nil => rfl
 | cons x l ih => exact ih
set_option smartUnfolding true in
theorem cloneK_c (k : Nat) (ts : List Tk) (hk : k = 3 → ts = []) (h : ts.length ≤ 1000) : ∃ k2, PC fs ms f_slices_Clone_api_Task_api_Task [.fz k (tks ts)] (.fz k2 (tks ts)) := by
 cases hb : Nat.beq k 3 with
 | true =>
  have := hk (Nat.eq_of_beq_eq_true hb)
  subst this
  refine ⟨3, by simp [clL, AV.cl, cl_tks], by simp [AV.cl, cl_tks], ?_⟩
  refine vd_start (af := C_slices_Clone_api_Task_api_Task) false rfl (yB rfl) ?_
  set_option smartUnfolding false in conv => whnf
  rw [hb]
  set_option smartUnfolding false in conv => whnf
  exact .nils
 | false =>
  cases ts with
  | nil =>
   refine ⟨0, by simp [clL, AV.cl, cl_tks], by simp [AV.cl, cl_tks], ?_⟩
   refine vd_start (af := C_slices_Clone_api_Task_api_Task) false rfl (yB rfl) ?_
   generalize hQ : (fun (u : AV) (g : Heap) => Frz (fun _ => True) g u (.fz 0 (tks []))) = Q
   set_option smartUnfolding false in conv => whnf
   rw [hb]
   set_option smartUnfolding false in conv => whnf
   refine ⟨_, _, app_lit0 (s := 8) (bytes := 64) (src_fz (k := k) (size_tksR [])) rfl, ?_⟩
   set_option smartUnfolding false in conv => whnf
   subst hQ
   exact .row (s := 8) trivial rfl rfl rfl rfl (Nat.le_refl _) (by omega) (fun _ => rfl) (fun _ => rfl) rfl
  | cons t0 tr =>
   refine ⟨0, by simp [clL, AV.cl, cl_tks], by simp [AV.cl, cl_tks], ?_⟩
   refine vd_start (af := C_slices_Clone_api_Task_api_Task) false rfl (yB rfl) ?_
   generalize hQ : (fun (u : AV) (g : Heap) => Frz (fun _ => True) g u (.fz 0 (tks (t0 :: tr)))) = Q
   set_option smartUnfolding false in conv => whnf
   rw [hb]
   set_option smartUnfolding false in conv => whnf
   refine ⟨_, _, app_lit (s := 8) (bytes := 64) (n := tr.length) rfl (by omega) (by simp at h; omega) ((src_fz (k := k) (size_tksR (t0 :: tr))).trans (by rw [len_tks]; rfl)) (flat_tksR (t0 :: tr)), ?_⟩
   set_option smartUnfolding false in conv => whnf
   subst hQ
   exact frz_open (s := 8) trivial rfl rfl (size_tksR _) (by rw [len_tks]; rfl) (cl_tks _)
theorem snew_c {h : Heap} {Q : AV → Heap → Prop} (k : Nat) (T : List Tk) (hk : k = 3 → T = []) (hT : T.length ≤ 4) (hQ : ∀ h' s k2, StA h' s 0 .nils k2 T [] → h.next ≤ s → Fr h h' [] → Q (.tup [.ptr s 0, .int .i64 0]) h') : VD fs ms f_stack_New [.fz k (tks T)] h Q := by
 obtain ⟨k2, hc2⟩ := cloneK_c k T hk (by omega)
 refine vd_start (af := C_stack_New) true rfl (yB rfl) ?_
 conv => whnf
 refine brf (by rw [len_tks]; simp; omega) (fun hc => ?_)
 (try rw [hc])
 conv => whnf
 refine vd_pure hc2 ?_
 conv => whnf
 exact hQ _ _ k2 ⟨Nat.lt_succ_self _, get_new_same, .inl ⟨rfl, rfl⟩, by simp [ownE]⟩ (Nat.le_refl _) ((Fr.refl h []).new)
def rmB (s q k : Nat) (T : List Tk) (gv jv : AV) : Blk := .cells [.ptr s 0, .ptr q 0, .fz k (tks T), gv, jv] true 0
def jcl : Option Nat → AV
 | none => .nilp
 | some b => .ptr b 0
theorem ask_in {T : List Tk} {t : Int} (h : askE T t = 0) : ∃ i : Nat, t = i ∧ i < T.length := by
 by_cases h1 : t < 0
 ·rw [askE, decide_eq_true h1, Bool.true_or, if_pos rfl] at h; exact absurd h (by decide)
 ·by_cases h2 : t ≥ (T.length : Nat)
  ·rw [askE, decide_eq_true h2, Bool.or_true, if_pos rfl] at h; exact absurd h (by decide)
  ·exact ⟨t.toNat, by omega, by omega⟩
section
variable {h : Heap} {r s q k : Nat} {T : List Tk} {gv jv : AV} {Q : AV → Heap → Prop}
theorem rmnone_c (hr : h.get r = some (rmB s q k T gv jv)) (hQ : Q (.bool false) h) : VD fs ms f_room_Room_none [.ptr r 0] h Q := by
 refine vd_start (af := C_room_Room_none) true rfl (yB rfl) ?_
 conv => whnf
 repeat (first | (refine ⟨_, ld1 hr rfl, ?_⟩; conv => whnf))
 exact hQ
theorem rmhas_c {t : Int} (hr : h.get r = some (rmB s q k T gv jv)) (hQ : Q (.int .i64 (askE T t)) h) : VD fs ms f_room_Room_has [.ptr r 0, .int .i64 t] h Q := by
 refine vd_start (af := C_room_Room_has) true rfl (yB rfl) ?_
 conv => whnf
 refine rmnone_c hr ?_
 conv => whnf
 refine br (fun hc => ?_) (fun hc => ?_) <;> (try rw [hc]) <;> (conv => whnf)
 ·rw [askE, hc] at hQ
  exact hQ
 have c1 := hc
 repeat (first | (refine ⟨_, ld1 hr rfl, ?_⟩; conv => whnf))
 rw [len_tks]
 refine br (fun hc => ?_) (fun hc => ?_) <;> (try rw [hc]) <;> (conv => whnf)
 ·rw [askE, c1, hc] at hQ
  exact hQ
 ·rw [askE, c1, hc] at hQ
  exact hQ
theorem rmof_c {t : Int} {J : Nat} {js : List (Option Nat)} (hr : h.get r = some (rmB s q k T gv (.sl J 0 js.length js.length false))) (hj : h.get J = some (.cells (js.map jcl) true 0)) (hn : js.length = T.length)
  (h0 : askE T t ≠ 0 → Q (.tup [.nilp, .int .i64 (askE T t)]) h) (h1 : ∀ i (hi : i < js.length), t = ((i : Nat) : Int) → js[i] = none → Q (.tup [.nilp, .int .i64 250]) h)
  (h2 : ∀ i (hi : i < js.length) b, t = ((i : Nat) : Int) → js[i] = some b → Q (.tup [.ptr b 0, .int .i64 0]) h) : VD fs ms f_room_Room_of [.ptr r 0, .int .i64 t] h Q := by
 refine vd_start (af := C_room_Room_of) true rfl (yB rfl) ?_
 conv => whnf
 refine rmhas_c hr ?_
 conv => whnf
 refine br (fun hc => ?_) (fun hc => ?_) <;> (try rw [hc]) <;> (conv => whnf)
 ·exact h0 (by simpa using hc)
 have ha : askE T t = 0 := by simpa using hc
 obtain ⟨i, rfl, hi⟩ := ask_in ha
 have hi2 : i < js.length := by omega
 have hg : (js.map jcl)[i * 1]? = some (jcl js[i]) := by rw [Nat.mul_one, List.getElem?_map, List.getElem?_eq_getElem hi2]; rfl
 repeat (first | (refine ⟨_, ld1 hr rfl, ?_⟩; conv => whnf) | (refine ⟨_, idx_slS3 hi2, ?_⟩; conv => whnf) | (refine ⟨_, ld1 hj hg, ?_⟩; conv => whnf))
 cases hb : js[i] with
 | none =>
  conv => whnf
  exact h1 i hi2 rfl hb
 | some b =>
  conv => whnf
  repeat (first | (refine ⟨_, ld1 hr rfl, ?_⟩; conv => whnf) | (refine ⟨_, idx_slS3 hi2, ?_⟩; conv => whnf) | (refine ⟨_, ld1 hj hg, ?_⟩; conv => whnf))
  rw [hb]
  exact h2 i hi2 b rfl hb
end
structure Kc (h h' : Heap) (col col' : Nat → Nat) (K : Nat → Prop) : Prop where
 next : h.next ≤ h'.next
 keep : ∀ c, c < h.next → ¬ K (col c) → h'.get c = h.get c
 col : ∀ c, c < h.next → col' c = col c
def cadd (col : Nat → Nat) (n i : Nat) : Nat → Nat := fun c => if c < n then col c else i
theorem cadd_old {col : Nat → Nat} {n i c : Nat} (h : c < n) : cadd col n i c = col c := if_pos h
theorem cadd_new {col : Nat → Nat} {n i c : Nat} (h : n ≤ c) : cadd col n i c = i := if_neg (by omega)
section
variable {h h1 h2 : Heap} {col col1 col2 : Nat → Nat} {K K' : Nat → Prop}
theorem Kc.refl (h : Heap) (col : Nat → Nat) (K : Nat → Prop) : Kc h h col col K := ⟨Nat.le_refl _, fun _ _ _ => rfl, fun _ _ => rfl⟩
theorem Kc.trans (a : Kc h h1 col col1 K) (b : Kc h1 h2 col1 col2 K) : Kc h h2 col col2 K :=
 ⟨Nat.le_trans a.next b.next, fun c hc hn => (b.keep c (Nat.lt_of_lt_of_le hc a.next) (by rw [a.col c hc]; exact hn)).trans (a.keep c hc hn), fun c hc => (b.col c (Nat.lt_of_lt_of_le hc a.next)).trans (a.col c hc)⟩
theorem Kc.wk (a : Kc h h1 col col1 K) (hK : ∀ n, K n → K' n) : Kc h h1 col col1 K' := ⟨a.next, fun c hc hn => a.keep c hc (fun hk => hn (hK _ hk)), a.col⟩
theorem Kc.of {bs : List Nat} {i : Nat} (f : Fr h h1 bs) (hb : ∀ c, c ∈ bs → c < h.next → col c = i) : Kc h h1 col (cadd col h.next i) (· = i) :=
 ⟨f.next, fun c hc hn => f.keep c hc (fun hm => hn (hb c hm hc)), fun c hc => cadd_old hc⟩
theorem Kc.nil (f : Fr h h1 []) (i : Nat) : Kc h h1 col (cadd col h.next i) K :=
 ⟨f.next, fun c hc hn => f.keep c hc (by simp), fun c hc => cadd_old hc⟩
theorem Kc.same (f : Fr h h1 []) : Kc h h1 col col K := ⟨f.next, fun c hc hn => f.keep c hc (by simp), fun c hc => rfl⟩
end
structure Rec (h : Heap) (col : Nat → Nat) (r s q k : Nat) (T : List Tk) (gv : AV) (J n : Nat) : Prop where
 lt : r < h.next
 co : col r = 1
 get : h.get r = some (rmB s q k T gv (.sl J 0 n n false))
def Stk (h : Heap) (col : Nat → Nat) (s k : Nat) (T : List Tk) (L : List En) : Prop := ∃ E v, StA h s E v k T L ∧ ∀ c, c ∈ s :: ownE E v → col c = 2
def Que (h : Heap) (col : Nat → Nat) (q : Nat) (n : Int) (D : List Id) : Prop := ∃ S, QAt h q S n D ∧ ∀ c, c ∈ S → col c = 3
abbrev Ws := List (Option (Nat × Jb))
def wcl (w : Option (Nat × Jb)) : AV := jcl (w.map Prod.fst)
structure Jrw (h : Heap) (col : Nat → Nat) (J : Nat) (ws : Ws) : Prop where
 lt : J < h.next
 co : col J = 4
 get : h.get J = some (.cells ((ws.map (Option.map Prod.fst)).map jcl) true 0)
def Jbc (h : Heap) (col : Nat → Nat) (i b : Nat) (j : Jb) : Prop := ∃ p C o v, JP h b p C o v j ∧ C < h.next ∧ col b = 10 + i ∧ col p = 10 + i ∧ col C = 10 + i
structure Gua (h : Heap) (col : Nat → Nat) (gv : AV) (gs : List (Nat × Int)) (T : List Tk) : Prop where
 row : gs = [] ∨ ∃ G op es, gv = .sl G 0 gs.length gs.length op ∧ G < h.next ∧ col G = 5 ∧ h.get G = some (.cells (gs.map fun g => .ptr g.1 0) true es)
 all : ∀ i g t, gs[i]? = some g → T[i]? = some t → t.p ≠ 0 ∧ g.1 < h.next ∧ col g.1 = 20 + i ∧ h.get g.1 = some (gB t.p g.2)
section
variable {h h' : Heap} {col col' : Nat → Nat} {K : Nat → Prop}
theorem Rec.keep {r s q k J n : Nat} {T : List Tk} {gv : AV} (R : Rec h col r s q k T gv J n) (f : Kc h h' col col' K) (hK : ¬ K 1) : Rec h' col' r s q k T gv J n :=
 ⟨Nat.lt_of_lt_of_le R.lt f.next, (f.col r R.lt).trans R.co, (f.keep r R.lt (by rw [R.co]; exact hK)).trans R.get⟩
theorem Stk.keep {s k : Nat} {T : List Tk} {L : List En} (R : Stk h col s k T L) (f : Kc h h' col col' K) (hK : ¬ K 2) : Stk h' col' s k T L := by
 obtain ⟨E, v, S, hc⟩ := R
 have hs := hc s (by simp)
 refine ⟨E, v, S.keep2 f.next (f.keep s S.lt (by rw [hs]; exact hK)) (fun c h1 h2 => f.keep c h2 (by rw [hc c (by simp [h1])]; exact hK)), fun c h1 => ?_⟩
 rcases List.mem_cons.1 h1 with rfl | h2
 ·rw [f.col _ S.lt, hs]
 ·rw [f.col c (own_lt S.en h2), hc c h1]
theorem Que.keep {q : Nat} {n : Int} {D : List Id} (R : Que h col q n D) (f : Kc h h' col col' K) (hK : ¬ K 3) : Que h' col' q n D := by
 obtain ⟨S, hq, hc⟩ := R
 have ho := hq.own
 refine ⟨S, hq.keep (T := (List.range h.next).filter fun c => decide (col c ≠ 3)) ⟨f.next, fun c h1 h2 => f.keep c h1 ?_⟩ ?_, fun c h1 => by rw [f.col c (ho c h1), hc c h1]⟩
 ·intro hk
  apply h2
  rw [List.mem_filter, List.mem_range, decide_eq_true_eq]
  exact ⟨h1, fun e => hK (e ▸ hk)⟩
 ·intro b hb hm
  rw [List.mem_filter, decide_eq_true_eq] at hm
  exact hm.2 (hc b hb)
theorem Jrw.keep {J : Nat} {ws : Ws} (R : Jrw h col J ws) (f : Kc h h' col col' K) (hK : ¬ K 4) : Jrw h' col' J ws :=
 ⟨Nat.lt_of_lt_of_le R.lt f.next, (f.col J R.lt).trans R.co, (f.keep J R.lt (by rw [R.co]; exact hK)).trans R.get⟩
theorem Jbc.keep {i b : Nat} {j : Jb} (R : Jbc h col i b j) (f : Kc h h' col col' K) (hK : ¬ K (10 + i)) : Jbc h' col' i b j := by
 obtain ⟨p, C, o, v, J, hC, c1, c2, c3⟩ := R
 have hp := J.rw.lt
 refine ⟨p, C, o, v, ⟨Nat.lt_of_lt_of_le J.lt f.next, (f.keep b J.lt (by rw [c1]; exact hK)).trans J.st, ⟨Nat.lt_of_lt_of_le hp f.next, J.rw.ne, (f.keep p hp (by rw [c2]; exact hK)).trans J.rw.st, ?_⟩, J.n1, J.n2⟩, Nat.lt_of_lt_of_le hC f.next, by rw [f.col b J.lt, c1], by rw [f.col p hp, c2], by rw [f.col C hC, c3]⟩
 have hr := J.rw.row
 cases hl : j.l with
 | nil => rw [hl] at hr; exact hr
 | cons x l =>
  rw [hl] at hr
  obtain ⟨u, cs, e, h1, h2, h3⟩ := hr
  exact ⟨u, cs, e, Nat.lt_of_lt_of_le h1 f.next, (f.keep C hC (by rw [c3]; exact hK)).trans h2, h3⟩
theorem Gua.keep {gv : AV} {gs : List (Nat × Int)} {T : List Tk} (R : Gua h col gv gs T) (f : Kc h h' col col' K) (hK : ¬ K 5) (hK2 : ∀ i, i < gs.length → ¬ K (20 + i)) : Gua h' col' gv gs T := by
 refine ⟨?_, fun i g t hg ht => ?_⟩
 ·rcases R.row with h | ⟨G, op, es, h1, h2, h3, h4⟩
  ·exact .inl h
  ·exact .inr ⟨G, op, es, h1, Nat.lt_of_lt_of_le h2 f.next, by rw [f.col G h2, h3], (f.keep G h2 (by rw [h3]; exact hK)).trans h4⟩
 ·obtain ⟨h1, h2, h3, h4⟩ := R.all i g t hg ht
  exact ⟨h1, Nat.lt_of_lt_of_le h2 f.next, by rw [f.col _ h2, h3], (f.keep _ h2 (by rw [h3]; exact hK2 i (List.getElem?_eq_some_iff.1 hg).1)).trans h4⟩
end
structure RAx (h : Heap) (col : Nat → Nat) (r s q k J : Nat) (gv : AV) (D : List Id) (ws : Ws) (gs : List (Nat × Int)) (T : List Tk) (L : List En) : Prop where
 n4 : T.length ≤ 4
 tl : ws.length = T.length
 gl : gs.length = T.length
 rcd : Rec h col r s q k T gv J ws.length
 stk : ∃ k2, Stk h col s k2 T L
 que : Que h col q T.length D
 jrw : Jrw h col J ws
 job : ∀ i w, ws[i]? = some (some w) → Jbc h col i w.1 w.2
 gua : Gua h col gv gs T
section
variable {h h' : Heap} {col col' : Nat → Nat} {K : Nat → Prop} {r s q k J : Nat} {gv : AV} {D : List Id} {ws : Ws} {gs : List (Nat × Int)} {T : List Tk} {L : List En}
theorem RAx.len (R : RAx h col r s q k J gv D ws gs T L) {i : Nat} {w : Option (Nat × Jb)} (hw : ws[i]? = some w) : i < 4 := by
 have := (List.getElem?_eq_some_iff.1 hw).1
 have := R.tl
 have := R.n4
 omega
theorem RAx.keep (R : RAx h col r s q k J gv D ws gs T L) (f : Kc h h' col col' K) (hK : ∀ n, 1 ≤ n → n < 30 → ¬ K n) (hK2 : ∀ i, i < 4 → ¬ K (20 + i)) : RAx h' col' r s q k J gv D ws gs T L :=
 ⟨R.n4, R.tl, R.gl, R.rcd.keep f (hK 1 (by omega) (by omega)), R.stk.imp fun _ h => h.keep f (hK 2 (by omega) (by omega)), R.que.keep f (hK 3 (by omega) (by omega)), R.jrw.keep f (hK 4 (by omega) (by omega)),
  fun i w hw => (R.job i w hw).keep f (hK _ (by omega) (by have := R.len hw; omega)), R.gua.keep f (hK 5 (by omega) (by omega)) (fun i hi => hK2 i (by have := R.gl; have := R.n4; omega))⟩
theorem RAx.nil (R : RAx h col r s q k J gv D ws gs T L) (f : Fr h h' []) : RAx h' col r s q k J gv D ws gs T L :=
 R.keep (K := fun _ => False) (Kc.same f) (fun _ _ _ h => h) (fun _ _ h => h)
theorem RAx.stk' {L' : List En} {k2 : Nat} (R : RAx h col r s q k J gv D ws gs T L) (f : Kc h h' col col' (· = 2)) (S : Stk h' col' s k2 T L') : RAx h' col' r s q k J gv D ws gs T L' :=
 ⟨R.n4, R.tl, R.gl, R.rcd.keep f (by decide), ⟨k2, S⟩, R.que.keep f (by decide), R.jrw.keep f (by decide), fun i w hw => (R.job i w hw).keep f (by omega), R.gua.keep f (by decide) (by intro i _; omega)⟩
theorem RAx.que' {D' : List Id} (R : RAx h col r s q k J gv D ws gs T L) (f : Kc h h' col col' (· = 3)) (S : Que h' col' q T.length D') : RAx h' col' r s q k J gv D' ws gs T L :=
 ⟨R.n4, R.tl, R.gl, R.rcd.keep f (by decide), R.stk.imp fun _ h => h.keep f (by decide), S, R.jrw.keep f (by decide), fun i w hw => (R.job i w hw).keep f (by omega), R.gua.keep f (by decide) (by intro i _; omega)⟩
theorem RAx.job' {i b : Nat} {j j' : Jb} (R : RAx h col r s q k J gv D ws gs T L) (hw : ws[i]? = some (some (b, j))) (f : Kc h h' col col' (· = 10 + i)) (S : Jbc h' col' i b j') : RAx h' col' r s q k J gv D (ws.set i (some (b, j'))) gs T L := by
 have hi := R.len hw
 have hl := (List.getElem?_eq_some_iff.1 hw).1
 have e : (ws.set i (some (b, j'))).map (Option.map Prod.fst) = ws.map (Option.map Prod.fst) := by
  apply List.ext_getElem?
  intro n
  rw [List.getElem?_map, List.getElem?_map, List.getElem?_set]
  by_cases e : i = n
  ·subst e
   rw [if_pos rfl, if_pos hl, hw]; rfl
  ·rw [if_neg e]
 refine ⟨R.n4, by rw [List.length_set]; exact R.tl, R.gl, ?_, R.stk.imp fun _ h => h.keep f (by omega), R.que.keep f (by omega), ?_, fun n w hn => ?_, R.gua.keep f (by omega) (by intro i _; omega)⟩
 ·rw [List.length_set]
  exact R.rcd.keep f (by omega)
 ·obtain ⟨a1, a2, a3⟩ := R.jrw.keep f (by omega)
  exact ⟨a1, a2, by rw [e]; exact a3⟩
 ·rw [List.getElem?_set] at hn
  by_cases e : i = n
  ·subst e
   rw [if_pos rfl, if_pos hl] at hn
   cases hn
   exact S
  ·rw [if_neg e] at hn
   exact (R.job n w hn).keep f (by omega)
end
structure St where
 T : List Tk
 L : List En
 j : List (Option Jb)
 g : List Int
def wj (ws : Ws) : List (Option Jb) := ws.map (Option.map Prod.snd)
def RA (h : Heap) (col : Nat → Nat) (r : Nat) (st : St) : Prop := ∃ s q k J gv D ws gs, RAx h col r s q k J gv D ws gs st.T st.L ∧ st.j = wj ws ∧ st.g = gs.map Prod.snd ∧
 (∀ y : Id, y ∈ D ↔ ∃ j, st.j[y.1]? = some (some j) ∧ y.2 = j.e) ∧ ∀ (i : Nat) (j : Jb), st.j[i]? = some (some j) → j.l.length ≤ 32
def RK (n : Nat) : Prop := 1 ≤ n ∧ n < 100
theorem RA.keep {h h' : Heap} {col col' : Nat → Nat} {K : Nat → Prop} {r : Nat} {st : St} (R : RA h col r st) (f : Kc h h' col col' K) (hK : ∀ n, 1 ≤ n → n < 30 → ¬ K n) (hK2 : ∀ i, i < 4 → ¬ K (20 + i)) : RA h' col' r st := by
 obtain ⟨s, q, k, J, gv, D, ws, gs, R, h1, h2, h3, h4⟩ := R
 exact ⟨s, q, k, J, gv, D, ws, gs, R.keep f hK hK2, h1, h2, h3, h4⟩
theorem RA.nil {h h' : Heap} {col : Nat → Nat} {r : Nat} {st : St} (R : RA h col r st) (f : Fr h h' []) : RA h' col r st :=
 R.keep (K := fun _ => False) (Kc.same f) (fun _ _ _ h => h) (fun _ _ h => h)
theorem wj_get {ws : Ws} {i : Nat} {b : Nat} {j : Jb} (h : ws[i]? = some (some (b, j))) : (wj ws)[i]? = some (some j) := by rw [wj, List.getElem?_map, h]; rfl
theorem wj_none {ws : Ws} {i : Nat} (h : ws[i]? = some none) : (wj ws)[i]? = some none := by rw [wj, List.getElem?_map, h]; rfl
theorem wj_some {ws : Ws} {i : Nat} {j : Jb} (h : (wj ws)[i]? = some (some j)) : ∃ b, ws[i]? = some (some (b, j)) := by
 rw [wj, List.getElem?_map] at h
 cases hw : ws[i]? with
 | none => rw [hw] at h; cases h
 | some o =>
  rw [hw] at h
  cases o with
  | none => cases h
  | some w => cases h; exact ⟨w.1, rfl⟩
theorem wj_set {ws : Ws} {i b : Nat} {j : Jb} : wj (ws.set i (some (b, j))) = (wj ws).set i (some j) := by rw [wj, wj, List.map_set]; rfl
theorem RA.job' {h h' : Heap} {col col' : Nat → Nat} {r s q k J i b : Nat} {gv : AV} {D : List Id} {ws : Ws} {gs : List (Nat × Int)} {st : St} {j j' : Jb} (R : RAx h col r s q k J gv D ws gs st.T st.L) (h1 : st.j = wj ws) (h2 : st.g = gs.map Prod.snd)
  (h3 : ∀ y : Id, y ∈ D ↔ ∃ j, st.j[y.1]? = some (some j) ∧ y.2 = j.e) (h4 : ∀ (i : Nat) (j : Jb), st.j[i]? = some (some j) → j.l.length ≤ 32) (hw : ws[i]? = some (some (b, j))) (f : Kc h h' col col' (· = 10 + i)) (S : Jbc h' col' i b j') (he : j'.e = j.e) (hl : j'.l.length ≤ 32) :
  RA h' col' r { st with j := st.j.set i (some j') } := by
 have hi := (List.getElem?_eq_some_iff.1 hw).1
 have hj : st.j[i]? = some (some j) := by rw [h1]; exact wj_get hw
 have hil := (List.getElem?_eq_some_iff.1 hj).1
 refine ⟨s, q, k, J, gv, D, _, gs, R.job' hw f S, by rw [wj_set, ← h1], h2, fun y => ?_, fun n jn hn => ?_⟩
 ·rw [h3 y]
  show _ ↔ ∃ j, (st.j.set i (some j'))[y.1]? = some (some j) ∧ y.2 = j.e
  rw [List.getElem?_set]
  by_cases e : i = y.1
  ·rw [if_pos e, if_pos hil, ← e, hj]
   constructor
   ·rintro ⟨a, ha, hb⟩
    cases ha
    exact ⟨_, rfl, hb.trans he.symm⟩
   ·rintro ⟨a, ha, hb⟩
    cases ha
    exact ⟨_, rfl, hb.trans he⟩
  ·rw [if_neg e]
 ·have hn : (st.j.set i (some j'))[n]? = some (some jn) := hn
  rw [List.getElem?_set] at hn
  by_cases e : i = n
  ·rw [if_pos e, if_pos hil] at hn
   cases hn
   exact hl
  ·rw [if_neg e] at hn
   exact h4 n jn hn
end Ir
end Go.Proofs.YtnlcabhfkpafmaaGreat
