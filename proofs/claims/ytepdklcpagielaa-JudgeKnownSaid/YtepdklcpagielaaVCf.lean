/-
  What a configuration may be: the program's answer and the document's. What a configuration may be, by the document; copies. A configuration's copy; whether two are the same. A configuration is the same as its copy.
-/
import Derived.Test.YtepdklcpagielaaVDel
import Derived.Test.YtepdklcpagielaaVsPre
import Derived.Test.YtepdklcpagielaaVsX
import Derived.Test.YtepdklcpagielaaVJf
set_option maxRecDepth 100000
set_option linter.unusedSimpArgs false
set_option linter.unusedVariables false
namespace Go.Proofs.Ytepdklcpagielaa
open Go Ads
namespace Ir
structure Po where
 k : Int
 f : Int
 t : Int
 s : Int
 d : Int
 a : Int
def po (x : Po) : AV := .agg [.int .i64 x.k, .int .i64 x.f, .int .i64 x.t, .int .i64 x.s, .int .i64 x.d, .int .i64 x.a]
def pos (l : List Po) : List AV := l.map po
theorem cl_pos (l : List Po) : clL (pos l) = true := clL_map (enc := po) (fun _ => rfl) l
theorem len_pos (l : List Po) : (pos l).length = l.length := List.length_map ..
theorem size_pos (l : List Po) : allSize 6 (pos l) = true := allSize_map (enc := po) (fun _ => rfl) l
theorem idx_po {l : List Po} {j k : Nat} (hj : j < l.length) : pV (.iaddrS 6) [.fz k (pos l), .int .i64 (j : Nat)] = some (.fp (po l[j]).cells 0) := idx_map (enc := po) hj rfl

theorem ixfP_c {F : Nat} {capt : List AV} {p : Pt → Bool} (k : Nat) (l : List Pt) (hl : l.length < 2 ^ 62) (hcap : clL capt = true) (hp : ∀ m, m ∈ l → PC fs ms F (pt m :: capt) (.bool (p m))) :
  ∃ n : Int, PC fs ms f_slices_IndexFunc_api_Part_api_Part [.fz k (pts l), .func (.func F) [] capt] (.int .i64 n) ∧ decide (n ≥ 0) = l.any p := by
 by_cases ha : l.any p = true
 ·obtain ⟨j, hj, h1, h2⟩ := least_get (l := l) (p := fun m => p m = true) (by simpa using ha)
  refine ⟨(j : Nat), ?_, by rw [ha]; simp⟩
  refine pc_of (by simp [clL, AV.cl, cl_pts, hcap]) rfl ?_
  refine vd_start (af := C_slices_IndexFunc_api_Part_api_Part) false rfl (Nat.le_of_ble_eq_true rfl) ?_
  generalize hQ : (fun (v : AV) (_ : Heap) => v = .int .i64 (j : Nat)) = Q
  set_option smartUnfolding false in conv => whnf
  refine vc_to0 5 [(0, .fz k (pts l)), (1, .func (.func F) [] capt), (7, .int .i64 (pts l).length), (8, .int .i64 ((0 : Nat) : Int))] (by repeat' (first | exact trivial | refine renAt_sl rfl (by omega) ?_ | refine renAt_ptr rfl (by omega) ?_ | refine renAt_yield rfl (by omega) ?_ | refine renAt_cl rfl (by first | rfl | simp [clL, AV.cl, cl_ints, cl_pts, hcap]) ?_ | refine renAt_cl (inc_slot (by omega)) rfl ?_)) ?_
  refine for_row 5 j (fun _ => True) (fun i => [(0, .fz k (pts l)), (1, .func (.func F) [] capt), (7, .int .i64 (pts l).length), (8, .int .i64 (i : Nat))]) ?_ ?_ trivial
  ·intro i hi _
   set_option smartUnfolding false in conv => whnf
   refine br (fun hc => ?_) (fun hc => ?_) <;> (try rw [hc]) <;> (set_option smartUnfolding false in conv => whnf)
   ·refine ⟨_, idx_pt (by omega), ?_⟩
    set_option smartUnfolding false in conv => whnf
    refine vd_pure (hp _ (List.getElem_mem _)) ?_
    set_option smartUnfolding false in conv => whnf
    refine br (fun hc => ?_) (fun hc => ?_) <;> (try rw [hc]) <;> (set_option smartUnfolding false in conv => whnf)
    ·exact absurd hc (h2 i (by omega) hi)
    ·refine ⟨trivial, ⟨_, rfl, .cl (by simp [AV.cl, cl_pts])⟩, ⟨_, rfl, .cl (by simp [AV.cl, clL, hcap])⟩, ⟨_, rfl, .cl rfl⟩, ⟨_, inc_slot (by omega), .cl rfl⟩, trivial⟩
   ·exfalso
    have := of_decide_eq_false hc
    rw [len_pts] at this
    omega
  ·intro _
   set_option smartUnfolding false in conv => whnf
   refine br (fun hc => ?_) (fun hc => ?_) <;> (try rw [hc]) <;> (set_option smartUnfolding false in conv => whnf)
   ·refine ⟨_, idx_pt hj, ?_⟩
    set_option smartUnfolding false in conv => whnf
    refine vd_pure (hp _ (List.getElem_mem _)) ?_
    set_option smartUnfolding false in conv => whnf
    refine br (fun hc => ?_) (fun hc => ?_) <;> (try rw [hc]) <;> (set_option smartUnfolding false in conv => whnf)
    ·subst hQ
     rfl
    ·rw [h1] at hc; simp at hc
   ·exfalso
    have := of_decide_eq_false hc
    rw [len_pts] at this
    omega
 ·have hn : ∀ m, m ∈ l → p m = false := by
   intro m hm
   rw [Bool.eq_false_iff]
   intro h
   exact ha (List.any_eq_true.2 ⟨m, hm, h⟩)
  refine ⟨-1, ?_, by rw [Bool.eq_false_iff.2 ha]; decide⟩
  refine pc_of (by simp [clL, AV.cl, cl_pts, hcap]) rfl ?_
  refine vd_start (af := C_slices_IndexFunc_api_Part_api_Part) false rfl (Nat.le_of_ble_eq_true rfl) ?_
  generalize hQ : (fun (v : AV) (_ : Heap) => v = .int .i64 (-1)) = Q
  set_option smartUnfolding false in conv => whnf
  refine vc_to0 5 [(0, .fz k (pts l)), (1, .func (.func F) [] capt), (7, .int .i64 (pts l).length), (8, .int .i64 ((0 : Nat) : Int))] (by repeat' (first | exact trivial | refine renAt_sl rfl (by omega) ?_ | refine renAt_ptr rfl (by omega) ?_ | refine renAt_yield rfl (by omega) ?_ | refine renAt_cl rfl (by first | rfl | simp [clL, AV.cl, cl_ints, cl_pts, hcap]) ?_ | refine renAt_cl (inc_slot (by omega)) rfl ?_)) ?_
  refine for_row 5 l.length (fun _ => True) (fun i => [(0, .fz k (pts l)), (1, .func (.func F) [] capt), (7, .int .i64 (pts l).length), (8, .int .i64 (i : Nat))]) ?_ ?_ trivial
  ·intro i hi _
   set_option smartUnfolding false in conv => whnf
   refine br (fun hc => ?_) (fun hc => ?_) <;> (try rw [hc]) <;> (set_option smartUnfolding false in conv => whnf)
   ·refine ⟨_, idx_pt (by omega), ?_⟩
    set_option smartUnfolding false in conv => whnf
    refine vd_pure (hp _ (List.getElem_mem _)) ?_
    set_option smartUnfolding false in conv => whnf
    refine br (fun hc => ?_) (fun hc => ?_) <;> (try rw [hc]) <;> (set_option smartUnfolding false in conv => whnf)
    ·rw [hn _ (List.getElem_mem hi)] at hc; simp at hc
    ·refine ⟨trivial, ⟨_, rfl, .cl (by simp [AV.cl, cl_pts])⟩, ⟨_, rfl, .cl (by simp [AV.cl, clL, hcap])⟩, ⟨_, rfl, .cl rfl⟩, ⟨_, inc_slot (by omega), .cl rfl⟩, trivial⟩
   ·exfalso
    have := of_decide_eq_false hc
    rw [len_pts] at this
    omega
  ·intro _
   set_option smartUnfolding false in conv => whnf
   refine br (fun hc => ?_) (fun hc => ?_) <;> (try rw [hc]) <;> (set_option smartUnfolding false in conv => whnf)
   ·exfalso
    have := of_decide_eq_true hc
    rw [len_pts] at this
    omega
   ·subst hQ
    rfl

theorem cfP_c {F : Nat} {capt : List AV} {p : Pt → Bool} (k : Nat) (l : List Pt) (hl : l.length < 2 ^ 62) (hcap : clL capt = true) (hp : ∀ m, m ∈ l → PC fs ms F (pt m :: capt) (.bool (p m))) :
  PC fs ms f_slices_ContainsFunc_api_Part_api_Part [.fz k (pts l), .func (.func F) [] capt] (.bool (l.any p)) := by
 obtain ⟨n, c1, c2⟩ := ixfP_c k l hl hcap hp
 refine pc_of (by simp [clL, AV.cl, cl_pts, hcap]) rfl ?_
 refine vd_start (af := C_slices_ContainsFunc_api_Part_api_Part) false rfl (Nat.le_of_ble_eq_true rfl) ?_
 generalize hQ : (fun (v : AV) (_ : Heap) => v = .bool (l.any p)) = Q
 set_option smartUnfolding false in conv => whnf
 refine vd_pure c1 ?_
 set_option smartUnfolding false in conv => whnf
 subst hQ
 exact congrArg AV.bool c2

theorem ixfO_c {F : Nat} {capt : List AV} {p : Po → Bool} (k : Nat) (l : List Po) (hl : l.length < 2 ^ 62) (hcap : clL capt = true) (hp : ∀ m, m ∈ l → PC fs ms F (po m :: capt) (.bool (p m))) :
  ∃ n : Int, PC fs ms f_slices_IndexFunc_api_Port_api_Port [.fz k (pos l), .func (.func F) [] capt] (.int .i64 n) ∧ decide (n ≥ 0) = l.any p := by
 by_cases ha : l.any p = true
 ·obtain ⟨j, hj, h1, h2⟩ := least_get (l := l) (p := fun m => p m = true) (by simpa using ha)
  refine ⟨(j : Nat), ?_, by rw [ha]; simp⟩
  refine pc_of (by simp [clL, AV.cl, cl_pos, hcap]) rfl ?_
  refine vd_start (af := C_slices_IndexFunc_api_Port_api_Port) false rfl (Nat.le_of_ble_eq_true rfl) ?_
  generalize hQ : (fun (v : AV) (_ : Heap) => v = .int .i64 (j : Nat)) = Q
  set_option smartUnfolding false in conv => whnf
  refine vc_to0 5 [(0, .fz k (pos l)), (1, .func (.func F) [] capt), (7, .int .i64 (pos l).length), (8, .int .i64 ((0 : Nat) : Int))] (by repeat' (first | exact trivial | refine renAt_sl rfl (by omega) ?_ | refine renAt_ptr rfl (by omega) ?_ | refine renAt_yield rfl (by omega) ?_ | refine renAt_cl rfl (by first | rfl | simp [clL, AV.cl, cl_ints, cl_pos, hcap]) ?_ | refine renAt_cl (inc_slot (by omega)) rfl ?_)) ?_
  refine for_row 5 j (fun _ => True) (fun i => [(0, .fz k (pos l)), (1, .func (.func F) [] capt), (7, .int .i64 (pos l).length), (8, .int .i64 (i : Nat))]) ?_ ?_ trivial
  ·intro i hi _
   set_option smartUnfolding false in conv => whnf
   refine br (fun hc => ?_) (fun hc => ?_) <;> (try rw [hc]) <;> (set_option smartUnfolding false in conv => whnf)
   ·refine ⟨_, idx_po (by omega), ?_⟩
    set_option smartUnfolding false in conv => whnf
    refine vd_pure (hp _ (List.getElem_mem _)) ?_
    set_option smartUnfolding false in conv => whnf
    refine br (fun hc => ?_) (fun hc => ?_) <;> (try rw [hc]) <;> (set_option smartUnfolding false in conv => whnf)
    ·exact absurd hc (h2 i (by omega) hi)
    ·refine ⟨trivial, ⟨_, rfl, .cl (by simp [AV.cl, cl_pos])⟩, ⟨_, rfl, .cl (by simp [AV.cl, clL, hcap])⟩, ⟨_, rfl, .cl rfl⟩, ⟨_, inc_slot (by omega), .cl rfl⟩, trivial⟩
   ·exfalso
    have := of_decide_eq_false hc
    rw [len_pos] at this
    omega
  ·intro _
   set_option smartUnfolding false in conv => whnf
   refine br (fun hc => ?_) (fun hc => ?_) <;> (try rw [hc]) <;> (set_option smartUnfolding false in conv => whnf)
   ·refine ⟨_, idx_po hj, ?_⟩
    set_option smartUnfolding false in conv => whnf
    refine vd_pure (hp _ (List.getElem_mem _)) ?_
    set_option smartUnfolding false in conv => whnf
    refine br (fun hc => ?_) (fun hc => ?_) <;> (try rw [hc]) <;> (set_option smartUnfolding false in conv => whnf)
    ·subst hQ
     rfl
    ·rw [h1] at hc; simp at hc
   ·exfalso
    have := of_decide_eq_false hc
    rw [len_pos] at this
    omega
 ·have hn : ∀ m, m ∈ l → p m = false := by
   intro m hm
   rw [Bool.eq_false_iff]
   intro h
   exact ha (List.any_eq_true.2 ⟨m, hm, h⟩)
  refine ⟨-1, ?_, by rw [Bool.eq_false_iff.2 ha]; decide⟩
  refine pc_of (by simp [clL, AV.cl, cl_pos, hcap]) rfl ?_
  refine vd_start (af := C_slices_IndexFunc_api_Port_api_Port) false rfl (Nat.le_of_ble_eq_true rfl) ?_
  generalize hQ : (fun (v : AV) (_ : Heap) => v = .int .i64 (-1)) = Q
  set_option smartUnfolding false in conv => whnf
  refine vc_to0 5 [(0, .fz k (pos l)), (1, .func (.func F) [] capt), (7, .int .i64 (pos l).length), (8, .int .i64 ((0 : Nat) : Int))] (by repeat' (first | exact trivial | refine renAt_sl rfl (by omega) ?_ | refine renAt_ptr rfl (by omega) ?_ | refine renAt_yield rfl (by omega) ?_ | refine renAt_cl rfl (by first | rfl | simp [clL, AV.cl, cl_ints, cl_pos, hcap]) ?_ | refine renAt_cl (inc_slot (by omega)) rfl ?_)) ?_
  refine for_row 5 l.length (fun _ => True) (fun i => [(0, .fz k (pos l)), (1, .func (.func F) [] capt), (7, .int .i64 (pos l).length), (8, .int .i64 (i : Nat))]) ?_ ?_ trivial
  ·intro i hi _
   set_option smartUnfolding false in conv => whnf
   refine br (fun hc => ?_) (fun hc => ?_) <;> (try rw [hc]) <;> (set_option smartUnfolding false in conv => whnf)
   ·refine ⟨_, idx_po (by omega), ?_⟩
    set_option smartUnfolding false in conv => whnf
    refine vd_pure (hp _ (List.getElem_mem _)) ?_
    set_option smartUnfolding false in conv => whnf
    refine br (fun hc => ?_) (fun hc => ?_) <;> (try rw [hc]) <;> (set_option smartUnfolding false in conv => whnf)
    ·rw [hn _ (List.getElem_mem hi)] at hc; simp at hc
    ·refine ⟨trivial, ⟨_, rfl, .cl (by simp [AV.cl, cl_pos])⟩, ⟨_, rfl, .cl (by simp [AV.cl, clL, hcap])⟩, ⟨_, rfl, .cl rfl⟩, ⟨_, inc_slot (by omega), .cl rfl⟩, trivial⟩
   ·exfalso
    have := of_decide_eq_false hc
    rw [len_pos] at this
    omega
  ·intro _
   set_option smartUnfolding false in conv => whnf
   refine br (fun hc => ?_) (fun hc => ?_) <;> (try rw [hc]) <;> (set_option smartUnfolding false in conv => whnf)
   ·exfalso
    have := of_decide_eq_true hc
    rw [len_pos] at this
    omega
   ·subst hQ
    rfl

theorem cfO_c {F : Nat} {capt : List AV} {p : Po → Bool} (k : Nat) (l : List Po) (hl : l.length < 2 ^ 62) (hcap : clL capt = true) (hp : ∀ m, m ∈ l → PC fs ms F (po m :: capt) (.bool (p m))) :
  PC fs ms f_slices_ContainsFunc_api_Port_api_Port [.fz k (pos l), .func (.func F) [] capt] (.bool (l.any p)) := by
 obtain ⟨n, c1, c2⟩ := ixfO_c k l hl hcap hp
 refine pc_of (by simp [clL, AV.cl, cl_pos, hcap]) rfl ?_
 refine vd_start (af := C_slices_ContainsFunc_api_Port_api_Port) false rfl (Nat.le_of_ble_eq_true rfl) ?_
 generalize hQ : (fun (v : AV) (_ : Heap) => v = .bool (l.any p)) = Q
 set_option smartUnfolding false in conv => whnf
 refine vd_pure c1 ?_
 set_option smartUnfolding false in conv => whnf
 subst hQ
 exact congrArg AV.bool c2

def inB (n a b : Int) : Bool := decide (a ≤ n) && decide (n ≤ b)
theorem inB_iff {n a b : Int} : inB n a b = true ↔ a ≤ n ∧ n ≤ b := by simp [inB]
theorem within_c (n a b : Int) : PC fs ms f_conf_within [.int .i64 n, .int .i64 a, .int .i64 b] (.bool (inB n a b)) := by
 refine pc_of rfl rfl ?_
 refine vd_start (af := C_conf_within) false rfl (Nat.le_of_ble_eq_true rfl) ?_
 generalize hQ : (fun (v : AV) (_ : Heap) => v = .bool (inB n a b)) = Q
 set_option smartUnfolding false in conv => whnf
 by_cases h : a ≤ n
 ·refine brt (by simpa using h) (fun hc => ?_)
  (try rw [hc])
  set_option smartUnfolding false in conv => whnf
  subst hQ
  rw [inB, decide_eq_true h, Bool.true_and]
 ·refine brf (by simpa using h) (fun hc => ?_)
  (try rw [hc])
  set_option smartUnfolding false in conv => whnf
  subst hQ
  rw [inB, decide_eq_false h, Bool.false_and]

def mayC (t : Tk) (B : Int) : Bool := inB t.p 1 64 && inB t.d 1 t.p && inB t.w 1 t.d && inB t.a 0 255 && inB t.c 0 4 && !(decide (t.a = 0) && !decide (t.b = 0)) && (decide (t.a = 0) || inB t.b 1 t.w) &&
 (if t.c = 0 then decide (t.e = 0) && decide (t.f = 0) else inB t.e 1 (min B t.w) && inB t.f 1 (t.w / t.e))

theorem taskMay_c (t : Tk) (B : Int) : PC fs ms f_conf_taskMay [tk t, .int .i64 B] (.bool (mayC t B)) := by
 refine pc_of rfl rfl ?_
 refine vd_start (af := C_conf_taskMay) false rfl (Nat.le_of_ble_eq_true rfl) ?_
 generalize hQ : (fun (v : AV) (_ : Heap) => v = .bool (mayC t B)) = Q
 set_option smartUnfolding false in conv => whnf
 refine vd_pure (within_c t.p 1 64) ?_
 cases c1 : inB t.p 1 64 with
 | false =>
  set_option smartUnfolding false in conv => whnf
  subst hQ
  simp [mayC, c1]
 | true =>
 set_option smartUnfolding false in conv => whnf
 refine vd_pure (within_c t.d 1 t.p) ?_
 cases c2 : inB t.d 1 t.p with
 | false =>
  set_option smartUnfolding false in conv => whnf
  subst hQ
  simp [mayC, c2]
 | true =>
 set_option smartUnfolding false in conv => whnf
 refine vd_pure (within_c t.w 1 t.d) ?_
 cases c3 : inB t.w 1 t.d with
 | false =>
  set_option smartUnfolding false in conv => whnf
  subst hQ
  simp [mayC, c3]
 | true =>
 set_option smartUnfolding false in conv => whnf
 refine vd_pure (within_c t.a 0 255) ?_
 cases c4 : inB t.a 0 255 with
 | false =>
  set_option smartUnfolding false in conv => whnf
  subst hQ
  simp [mayC, c4]
 | true =>
 set_option smartUnfolding false in conv => whnf
 refine vd_pure (within_c t.c 0 4) ?_
 cases c5 : inB t.c 0 4 with
 | false =>
  set_option smartUnfolding false in conv => whnf
  subst hQ
  simp [mayC, c5]
 | true =>
 set_option smartUnfolding false in conv => whnf
 have h1 := inB_iff.1 c1
 have h2 := inB_iff.1 c2
 have h3 := inB_iff.1 c3
 have hpre : mayC t B = (!(decide (t.a = 0) && !decide (t.b = 0)) && (decide (t.a = 0) || inB t.b 1 t.w) && (if t.c = 0 then decide (t.e = 0) && decide (t.f = 0) else inB t.e 1 (min B t.w) && inB t.f 1 (t.w / t.e))) := by
  simp only [mayC, c1, c2, c3, c4, c5, Bool.true_and]
 have hend : ∀ Q' : AV → Heap → Prop, (!(decide (t.a = 0) && !decide (t.b = 0)) && (decide (t.a = 0) || inB t.b 1 t.w)) = true → mayC t B = (if t.c = 0 then decide (t.e = 0) && decide (t.f = 0) else inB t.e 1 (min B t.w) && inB t.f 1 (t.w / t.e)) := by
  intro _ h
  rw [hpre, h, Bool.true_and]
 have hmn : (bif decide (t.w < B) then t.w else B) = min B t.w := by
  by_cases h : t.w < B
  ·rw [decide_eq_true h, cond_true]; omega
  ·rw [decide_eq_false h, cond_false]; omega
 by_cases a0 : t.a = 0
 ·refine brt (by simpa using a0) (fun hc => ?_)
  (try rw [hc])
  set_option smartUnfolding false in conv => whnf
  by_cases b0 : t.b = 0
  ·refine brf (by simpa using b0) (fun hc => ?_)
   (try rw [hc])
   set_option smartUnfolding false in conv => whnf
   refine brf (by simpa using a0) (fun hc => ?_)
   (try rw [hc])
   set_option smartUnfolding false in conv => whnf
   have he := hend Q (by rw [decide_eq_true a0, decide_eq_true b0]; rfl)
   by_cases g0 : t.c = 0
   ·refine brt (by simpa using g0) (fun hc => ?_)
    (try rw [hc])
    set_option smartUnfolding false in conv => whnf
    rw [if_pos g0] at he
    by_cases e0 : t.e = 0
    ·refine brt (by simpa using e0) (fun hc => ?_)
     (try rw [hc])
     set_option smartUnfolding false in conv => whnf
     subst hQ
     rw [he, decide_eq_true e0, Bool.true_and]
     exact congrArg AV.bool (by rw [Bool.eq_iff_iff]; simp)
    ·refine brf (by simpa using e0) (fun hc => ?_)
     (try rw [hc])
     set_option smartUnfolding false in conv => whnf
     subst hQ
     rw [he, decide_eq_false e0, Bool.false_and]
   ·refine brf (by simpa using g0) (fun hc => ?_)
    (try rw [hc])
    set_option smartUnfolding false in conv => whnf
    rw [if_neg g0] at he
    rw [hmn]
    refine vd_pure (within_c t.e 1 (min B t.w)) ?_
    cases c7 : inB t.e 1 (min B t.w) with
    | false =>
     set_option smartUnfolding false in conv => whnf
     subst hQ
     rw [he, c7, Bool.false_and]
    | true =>
     have h7 := inB_iff.1 c7
     set_option smartUnfolding false in conv => whnf
     refine ⟨_, quo_val _ _ (by omega), ?_⟩
     set_option smartUnfolding false in conv => whnf
     rw [show IntKind.i64.wrap (t.w.tdiv t.e) = t.w / t.e from IntWalk.i64_quo _ _ (by omega)]
     refine vd_pure (within_c t.f 1 (t.w / t.e)) ?_
     set_option smartUnfolding false in conv => whnf
     subst hQ
     rw [he, c7, Bool.true_and]
  ·refine brt (by simpa using b0) (fun hc => ?_)
   (try rw [hc])
   set_option smartUnfolding false in conv => whnf
   subst hQ
   rw [hpre, decide_eq_true a0, decide_eq_false b0]
   rfl
 ·refine brf (by simpa using a0) (fun hc => ?_)
  (try rw [hc])
  set_option smartUnfolding false in conv => whnf
  refine brt (by simpa using a0) (fun hc => ?_)
  (try rw [hc])
  set_option smartUnfolding false in conv => whnf
  refine vd_pure (within_c t.b 1 t.w) ?_
  cases c6 : inB t.b 1 t.w with
  | false =>
   set_option smartUnfolding false in conv => whnf
   subst hQ
   rw [hpre, c6, decide_eq_false a0]
   rfl
  | true =>
   set_option smartUnfolding false in conv => whnf
   have he := hend Q (by rw [c6, decide_eq_false a0]; rfl)
   by_cases g0 : t.c = 0
   ·refine brt (by simpa using g0) (fun hc => ?_)
    (try rw [hc])
    set_option smartUnfolding false in conv => whnf
    rw [if_pos g0] at he
    by_cases e0 : t.e = 0
    ·refine brt (by simpa using e0) (fun hc => ?_)
     (try rw [hc])
     set_option smartUnfolding false in conv => whnf
     subst hQ
     rw [he, decide_eq_true e0, Bool.true_and]
     exact congrArg AV.bool (by rw [Bool.eq_iff_iff]; simp)
    ·refine brf (by simpa using e0) (fun hc => ?_)
     (try rw [hc])
     set_option smartUnfolding false in conv => whnf
     subst hQ
     rw [he, decide_eq_false e0, Bool.false_and]
   ·refine brf (by simpa using g0) (fun hc => ?_)
    (try rw [hc])
    set_option smartUnfolding false in conv => whnf
    rw [if_neg g0] at he
    rw [hmn]
    refine vd_pure (within_c t.e 1 (min B t.w)) ?_
    cases c7 : inB t.e 1 (min B t.w) with
    | false =>
     set_option smartUnfolding false in conv => whnf
     subst hQ
     rw [he, c7, Bool.false_and]
    | true =>
     have h7 := inB_iff.1 c7
     set_option smartUnfolding false in conv => whnf
     refine ⟨_, quo_val _ _ (by omega), ?_⟩
     set_option smartUnfolding false in conv => whnf
     rw [show IntKind.i64.wrap (t.w.tdiv t.e) = t.w / t.e from IntWalk.i64_quo _ _ (by omega)]
     refine vd_pure (within_c t.f 1 (t.w / t.e)) ?_
     set_option smartUnfolding false in conv => whnf
     subst hQ
     rw [he, c7, Bool.true_and]

theorem partMay1_c (t : Tk) (x : Pt) : PC fs ms f_conf_partMay_1 [tk t, .fp (pt x).cells 0] (.bool (!mayC t x.bud)) := by
 refine pc_of (by simp [clL, AV.cl, pt, AV.cells, cl_tks, tk]) rfl ?_
 refine vd_start (af := C_conf_partMay_1) false rfl (Nat.le_of_ble_eq_true rfl) ?_
 generalize hQ : (fun (v : AV) (_ : Heap) => v = .bool (!mayC t x.bud)) = Q
 set_option smartUnfolding false in conv => whnf
 refine vd_pure (taskMay_c t x.bud) ?_
 set_option smartUnfolding false in conv => whnf
 subst hQ
 rfl

def partC (x : Pt) : Bool := inB x.per 1 64 && inB x.bud 1 x.per && decide (x.ts.length ≤ 4) && x.ts.all fun t => mayC t x.bud

theorem anyNot {α : Type} (l : List α) (p : α → Bool) : (l.any fun x => !p x) = !l.all p := by
 induction l with
 | nil => rfl
 | cons x l ih => simp only [List.any_cons, List.all_cons, ih, Bool.not_and]
theorem partMay_c (x : Pt) (hx : x.ts.length ≤ 17592186044416) : PC fs ms f_conf_partMay [pt x] (.bool (partC x)) := by
 refine pc_of (by simp [clL, cl_pt]) rfl ?_
 refine vd_begin (af := C_conf_partMay) rfl (Nat.le_of_ble_eq_true rfl) ?_
 generalize hQ : (fun (v : AV) (_ : Heap) => v = .bool (partC x)) = Q
 set_option smartUnfolding false in conv => whnf
 refine vc_seq false ?_
 set_option smartUnfolding false in conv => whnf
 refine vc_frz [0] (i := 1) (v' := .fp (pt x).cells 0) rfl (.ptr' (by simp) rfl (.clean (show clL (pt x).cells = true by simp [pt, AV.cells, clL, AV.cl, cl_tks]))) ?_
 refine vc_to0 5 [(1, .fp (pt x).cells 0)] ?_ ?_
 ·exact ⟨⟨_, rfl, .cl (by simp [AV.cl, clL, pt, AV.cells, cl_tks])⟩, trivial⟩
 refine vpC_sound (z := false) ?_
 have h1 := cfT_c (F := f_conf_partMay_1) (capt := [.fp (pt x).cells 0]) (p := fun t => !mayC t x.bud) x.k x.ts (by omega) (by simp [clL, AV.cl, pt, AV.cells, cl_tks]) (fun m _ => partMay1_c m x)
 rw [anyNot] at h1
 set_option smartUnfolding false in conv => whnf
 refine vd_pure (within_c x.per 1 64) ?_
 cases c1 : inB x.per 1 64 with
 | false =>
  set_option smartUnfolding false in conv => whnf
  subst hQ
  simp [partC, c1]
 | true =>
 set_option smartUnfolding false in conv => whnf
 refine vd_pure (within_c x.bud 1 x.per) ?_
 cases c2 : inB x.bud 1 x.per with
 | false =>
  set_option smartUnfolding false in conv => whnf
  subst hQ
  simp [partC, c1, c2]
 | true =>
 set_option smartUnfolding false in conv => whnf
 by_cases h4 : x.ts.length ≤ 4
 ·refine brf (by rw [len_tks]; simp; omega) (fun hc => ?_)
  (try rw [hc])
  set_option smartUnfolding false in conv => whnf
  refine vd_pure h1 ?_
  set_option smartUnfolding false in conv => whnf
  subst hQ
  simp [partC, c1, c2, h4]
 ·refine brt (by rw [len_tks]; simp; omega) (fun hc => ?_)
  (try rw [hc])
  set_option smartUnfolding false in conv => whnf
  subst hQ
  simp [partC, c1, c2, h4]

theorem confOne_c (x : Pt) (hx : x.ts.length ≤ 17592186044416) : PC fs ms f_conf_Check_1 [pt x] (.bool (!partC x)) := by
 refine pc_of (by simp [clL, cl_pt]) rfl ?_
 refine vd_start (af := C_conf_Check_1) false rfl (Nat.le_of_ble_eq_true rfl) ?_
 generalize hQ : (fun (v : AV) (_ : Heap) => v = .bool (!partC x)) = Q
 set_option smartUnfolding false in conv => whnf
 refine vd_pure (partMay_c x hx) ?_
 set_option smartUnfolding false in conv => whnf
 subst hQ
 rfl


def mayO (o : Po) (n : Int) : Bool := (bif o.k == 1 then (o.d == 0 && inB o.a 1 64) else (bif o.k == 2 then (o.a == 0 && inB o.d 1 4) else false)) &&
 (inB o.f 0 (IntKind.i64.wrap (n - 1)) && (inB o.t 0 (IntKind.i64.wrap (n - 1)) && ((o.f != o.t) && inB o.s 1 16)))
theorem portMay_c (o : Po) (n : Int) : PC fs ms f_conf_portMay [po o, .int .i64 n] (.bool (mayO o n)) := by
 refine pc_of rfl rfl ?_
 refine vd_start (af := C_conf_portMay) false rfl (Nat.le_of_ble_eq_true rfl) ?_
 generalize hQ : (fun (v : AV) (_ : Heap) => v = .bool (mayO o n)) = Q
 set_option smartUnfolding false in conv => whnf
 iterate 14 (all_goals (first | (refine vd_pure (within_c _ _ _) ?_; set_option smartUnfolding false in conv => whnf) | (refine br (fun hc => ?_) (fun hc => ?_) <;> (try rw [hc]) <;> (set_option smartUnfolding false in conv => whnf)) | skip))
 all_goals (subst hQ; ((try simp only [Bool.not_eq_true', Bool.not_eq_false'] at *); simp only [mayO, *] <;> first | rfl | (simp; done) | (simp_all; done) | omega))
theorem confTwo_c (o : Po) (k ko : Nat) (L : List Pt) (O : List Po) : PC fs ms f_conf_Check_2 [po o, .fp [.fz k (pts L), .fz ko (pos O)] 0] (.bool (!mayO o (L.length : Nat))) := by
 refine pc_of (by simp [clL, AV.cl, cl_pts, cl_pos, po]) rfl ?_
 refine vd_start (af := C_conf_Check_2) false rfl (Nat.le_of_ble_eq_true rfl) ?_
 generalize hQ : (fun (v : AV) (_ : Heap) => v = .bool (!mayO o (L.length : Nat))) = Q
 set_option smartUnfolding false in conv => whnf
 rw [len_pts]
 refine vd_pure (portMay_c o _) ?_
 set_option smartUnfolding false in conv => whnf
 subst hQ
 rfl
def confC (L : List Pt) (O : List Po) : Bool := L.all partC && (O.all (fun o => mayO o (L.length : Nat)) && (inB (L.length : Nat) 1 4 && !decide (((O.length : Nat) : Int) > 8)))
def cfg (k : Nat) (L : List Pt) (ko : Nat) (O : List Po) : AV := .agg [.fz k (pts L), .fz ko (pos O)]
theorem cl_cfg (k : Nat) (L : List Pt) (ko : Nat) (O : List Po) : (cfg k L ko O).cl = true := by simp [cfg, AV.cl, clL, cl_pts, cl_pos]
theorem confCheck_c (k : Nat) (L : List Pt) (ko : Nat) (O : List Po) (hs : Small L) (ho : O.length ≤ 17592186044416) : PC fs ms f_conf_Check [cfg k L ko O] (.int .i64 (if confC L O = true then 0 else 50)) := by
 refine pc_of (by simp [clL, cl_cfg]) rfl ?_
 refine vd_begin (af := C_conf_Check) rfl (Nat.le_of_ble_eq_true rfl) ?_
 generalize hQ : (fun (v : AV) (_ : Heap) => v = .int .i64 (if confC L O = true then 0 else 50)) = Q
 set_option smartUnfolding false in conv => whnf
 refine vc_seq false ?_
 set_option smartUnfolding false in conv => whnf
 refine vc_frz [0] (i := 1) (v' := .fp [.fz k (pts L), .fz ko (pos O)] 0) rfl (.ptr' (by simp) rfl (.clean (by simp [cfg, AV.cells, clL, AV.cl, cl_pts, cl_pos]))) ?_
 refine vc_to0 5 [(1, .fp [.fz k (pts L), .fz ko (pos O)] 0)] ?_ ?_
 ·exact ⟨⟨_, rfl, .cl (by simp [AV.cl, clL, cl_pts, cl_pos])⟩, trivial⟩
 refine vpC_sound (z := false) ?_
 have h1 := cfP_c (F := f_conf_Check_1) (capt := []) (p := fun x => !partC x) k L (by have := hs.1; omega) rfl (fun m hm => confOne_c m (hs.2 m hm))
 have h2 := cfO_c (F := f_conf_Check_2) (capt := [.fp [.fz k (pts L), .fz ko (pos O)] 0]) (p := fun o => !mayO o (L.length : Nat)) ko O (by omega) (by simp [AV.cl, clL, cl_pts, cl_pos]) (fun m hm => confTwo_c m k ko L O)
 rw [anyNot] at h1
 rw [anyNot] at h2
 have hk : ∀ (b : Bool) h, confC L O = b → Q (.int .i64 (if b = true then 0 else 50)) h := by subst hQ; intro b h hb; rw [hb]
 set_option smartUnfolding false in conv => whnf
 iterate 9 (all_goals (first | (refine vd_pure h1 ?_; set_option smartUnfolding false in conv => whnf) | (refine vd_pure h2 ?_; set_option smartUnfolding false in conv => whnf) | (refine vd_pure (within_c _ _ _) ?_; set_option smartUnfolding false in conv => whnf) | (refine br (fun hc => ?_) (fun hc => ?_) <;> (try rw [hc]) <;> (set_option smartUnfolding false in conv => whnf)) | skip))
 all_goals (try rw [len_pts] at *)
 all_goals (try rw [len_pos] at *)
 all_goals (clear h1 h2; first | (refine hk true _ ?_; clear hk hQ; ((try simp only [Bool.not_eq_true', Bool.not_eq_false'] at *); simp only [confC, *] <;> first | rfl | (simp; done) | (simp_all; done) | omega); done) | (refine hk false _ ?_; clear hk hQ; ((try simp only [Bool.not_eq_true', Bool.not_eq_false'] at *); simp only [confC, *] <;> first | rfl | (simp; done) | (simp_all; done) | omega); done))

/- The document's. -/
theorem within5_c (n a b : Int) : PC fs ms f_escapementref05_within [.int .i64 n, .int .i64 a, .int .i64 b] (.bool (inB n a b)) := by
 refine pc_of rfl rfl ?_
 refine vd_start (af := C_escapementref05_within) false rfl (Nat.le_of_ble_eq_true rfl) ?_
 generalize hQ : (fun (v : AV) (_ : Heap) => v = .bool (inB n a b)) = Q
 set_option smartUnfolding false in conv => whnf
 iterate 2 (all_goals (first  | (refine br (fun hc => ?_) (fun hc => ?_) <;> (try rw [hc]) <;> (set_option smartUnfolding false in conv => whnf)) | skip))
 all_goals (subst hQ; simp_all [inB] <;> omega)
theorem port5_c (o : Po) (n : Int) : PC fs ms f_escapementref05_port [po o, .int .i64 n] (.bool (mayO o n)) := by
 refine pc_of rfl rfl ?_
 refine vd_start (af := C_escapementref05_port) false rfl (Nat.le_of_ble_eq_true rfl) ?_
 generalize hQ : (fun (v : AV) (_ : Heap) => v = .bool (mayO o n)) = Q
 set_option smartUnfolding false in conv => whnf
 iterate 18 (all_goals (first | (refine vd_pure (within5_c _ _ _) ?_; set_option smartUnfolding false in conv => whnf) | (refine br (fun hc => ?_) (fun hc => ?_) <;> (try rw [hc]) <;> (set_option smartUnfolding false in conv => whnf)) | skip))
 all_goals (subst hQ; ((try simp only [Bool.not_eq_true', Bool.not_eq_false'] at *); simp only [mayO, *] <;> first | rfl | (simp; done) | (simp_all; done) | omega))
def mayR (t : Tk) (B : Int) : Bool := inB t.p 1 64 && (inB t.d 1 t.p && (inB t.w 1 t.d && (inB t.a 0 255 && inB t.c 0 4))) &&
 (!((t.a == 0 && t.b != 0) || (t.a != 0 && !inB t.b 1 t.w)) && (bif t.c == 0 then (t.e == 0 && t.f == 0) else (inB t.e 1 B && (inB t.f 1 t.w && decide (IntKind.i64.wrap (t.e * t.f) ≤ t.w)))))
theorem task5_c (t : Tk) (B : Int) : PC fs ms f_escapementref05_task [tk t, .int .i64 B] (.bool (mayR t B)) := by
 refine pc_of rfl rfl ?_
 refine vd_start (af := C_escapementref05_task) false rfl (Nat.le_of_ble_eq_true rfl) ?_
 generalize hQ : (fun (v : AV) (_ : Heap) => v = .bool (mayR t B)) = Q
 set_option smartUnfolding false in conv => whnf
 iterate 26 (all_goals (first | (refine vd_pure (within5_c _ _ _) ?_; set_option smartUnfolding false in conv => whnf) | (refine br (fun hc => ?_) (fun hc => ?_) <;> (try rw [hc]) <;> (set_option smartUnfolding false in conv => whnf)) | skip))
 all_goals (subst hQ; ((try simp only [Bool.not_eq_true', Bool.not_eq_false'] at *); simp only [mayR, *] <;> first | rfl | (simp; done) | (simp_all; done) | omega))
theorem mayR_eq (t : Tk) (B : Int) (hB : B ≤ 64) : mayR t B = mayC t B := by
 have key : 1 ≤ t.w → t.w ≤ 64 → (inB t.e 1 B && (inB t.f 1 t.w && decide (IntKind.i64.wrap (t.e * t.f) ≤ t.w))) = (inB t.e 1 (min B t.w) && inB t.f 1 (t.w / t.e)) := by
  intro w1 w2
  have hd : 1 ≤ t.e → 1 ≤ t.f → t.e ≤ 64 → t.f ≤ 64 → (IntKind.i64.wrap (t.e * t.f) ≤ t.w ↔ t.f ≤ t.w / t.e) ∧ (IntKind.i64.wrap (t.e * t.f) ≤ t.w → t.e ≤ t.w) := by
   intro a b c d
   have hm : 0 ≤ t.e * t.f ∧ t.e * t.f ≤ 4096 := ⟨Int.mul_nonneg (by omega) (by omega), by have := Int.mul_le_mul c d (by omega) (by omega); omega⟩
   rw [IntWalk.i64_in _ (by omega)]
   refine ⟨⟨fun h => ?_, fun h => ?_⟩, fun h => ?_⟩
   ·exact (Int.le_ediv_iff_mul_le (by omega)).2 (by rw [Int.mul_comm]; exact h)
   ·rw [Int.mul_comm]; exact (Int.le_ediv_iff_mul_le (by omega)).1 h
   ·have := Int.mul_le_mul_of_nonneg_left b (show 0 ≤ t.e by omega)
    omega
  rw [Bool.eq_iff_iff]
  simp only [Bool.and_eq_true, inB_iff, decide_eq_true_eq]
  constructor
  ·rintro ⟨⟨a, b⟩, ⟨c, d⟩, e⟩
   obtain ⟨h1, h2⟩ := hd a c (by omega) (by omega)
   exact ⟨⟨a, by have := h2 e; omega⟩, c, h1.1 e⟩
  ·rintro ⟨⟨a, b⟩, c, d⟩
   have h3 : t.w / t.e ≤ t.w := Int.ediv_le_self _ (by omega)
   obtain ⟨h1, h2⟩ := hd a c (by omega) (by omega)
   exact ⟨⟨a, by omega⟩, ⟨c, by omega⟩, h1.2 d⟩
 unfold mayR mayC
 by_cases h : inB t.p 1 64 = true ∧ inB t.d 1 t.p = true ∧ inB t.w 1 t.d = true
 ·obtain ⟨h1, h2, h3⟩ := h
  rw [h1, h2, h3]
  rw [inB_iff] at h1 h2 h3
  rw [key (by omega) (by omega)]
  have hi : ∀ x y : Bool, (if t.c = 0 then x else y) = bif decide (t.c = 0) then x else y := fun x y => by by_cases h : t.c = 0 <;> simp [h]
  rw [hi]
  have e : ∀ x : Int, (x == 0) = decide (x = 0) := fun x => rfl
  have e' : ∀ x : Int, (x != 0) = !decide (x = 0) := fun x => rfl
  rw [e, e, e, e, e', e']
  generalize (inB t.e 1 (min B t.w) && inB t.f 1 (t.w / t.e)) = K
  generalize decide (t.a = 0) = A
  generalize decide (t.b = 0) = A2
  generalize decide (t.c = 0) = A3
  generalize decide (t.e = 0) = A4
  generalize decide (t.f = 0) = A5
  generalize inB t.a 0 255 = A6
  generalize inB t.c 0 4 = A7
  generalize inB t.b 1 t.w = A8
  revert K A A2 A3 A4 A5 A6 A7 A8
  decide
 ·have h1 : inB t.p 1 64 = false ∨ inB t.d 1 t.p = false ∨ inB t.w 1 t.d = false := by
   rcases h1 : inB t.p 1 64 with _ | _
   ·exact .inl rfl
   ·rcases h2 : inB t.d 1 t.p with _ | _
    ·exact .inr (.inl rfl)
    ·rcases h3 : inB t.w 1 t.d with _ | _
     ·exact .inr (.inr rfl)
     ·exact absurd ⟨h1, h2, h3⟩ h
  rcases h1 with h1 | h1 | h1 <;> simp [h1]
end Ir
end Go.Proofs.Ytepdklcpagielaa
set_option maxRecDepth 100000
set_option linter.unusedSimpArgs false
set_option linter.unusedVariables false
namespace Go.Proofs.Ytepdklcpagielaa
open Go Ads
namespace Ir
theorem part5_l {x : Pt} (hx : x.ts.length ≤ 17592186044416) {h : Heap} {B : Nat} {Q : AX → Env → Heap → Prop}
  (hT : x.ts.all (fun t => mayR t x.bud) = true → ∀ e', Q (.exit 0) e' h) (hF : x.ts.all (fun t => mayR t x.bud) = false → ∀ e', Tr.get e' 2 = some (.bool false) → Q .ret e' h) :
  ∀ (m j : Nat) (env : Env), x.ts.length - j = m → j ≤ x.ts.length → (x.ts.take j).all (fun t => mayR t x.bud) = true → AllAt env [(1, .fp (pt x).cells 0), (3, .int .i64 ((j : Nat) : Int))] →
  VC fs ms B false (.loop L_escapementref05_part_0) env h Q := by
 intro m
 induction m using Nat.strongRecOn with
 | ind m ih =>
 intro j env hm hj hi henv
 refine vc_slots 4 _ henv ?_
 refine vc_loopV (vc_seq true ?_)
 set_option smartUnfolding false in conv => whnf
 repeat (first | (refine ⟨_, rfl, ?_⟩; set_option smartUnfolding false in conv => whnf))
 rw [len_tks]
 refine br (fun hc => ?_) (fun hc => ?_) <;> (try rw [hc]) <;> (set_option smartUnfolding false in conv => whnf)
 ·have hlt : j < x.ts.length := by have := of_decide_eq_true hc; omega
  refine vpC_sound (z := true) ?_
  set_option smartUnfolding false in conv => whnf
  repeat (first | (refine ⟨_, rfl, ?_⟩; set_option smartUnfolding false in conv => whnf))
  refine ⟨_, idx_tk hlt, ?_⟩
  set_option smartUnfolding false in conv => whnf
  refine ⟨tk x.ts[j], rfl, ?_⟩
  set_option smartUnfolding false in conv => whnf
  repeat (first | (refine ⟨_, rfl, ?_⟩; set_option smartUnfolding false in conv => whnf))
  refine vd_pure (task5_c _ _) ?_
  set_option smartUnfolding false in conv => whnf
  cases hm' : mayR x.ts[j] x.bud with
  | true =>
   set_option smartUnfolding false in conv => whnf
   exact ih (x.ts.length - (j + 1)) (by omega) (j + 1) _ rfl (by omega) (all_next hlt hi hm') ⟨rfl, inc_slot (by omega), trivial⟩
  | false =>
   set_option smartUnfolding false in conv => whnf
   exact hF (all_no hlt hm') _ rfl
 ·have hge : j = x.ts.length := by have := of_decide_eq_false hc; omega
  subst hge
  rw [List.take_length] at hi
  exact hT hi _
theorem partR_eq (x : Pt) (h : x.bud ≤ 64) : (x.ts.all fun t => mayR t x.bud) = x.ts.all fun t => mayC t x.bud := by
 congr 1
 funext t
 exact mayR_eq t x.bud h
theorem part5_c (x : Pt) (hx : x.ts.length ≤ 17592186044416) : PC fs ms f_escapementref05_part [pt x] (.bool (partC x)) := by
 refine pc_of (by simp [clL, cl_pt]) rfl ?_
 refine vd_begin (af := C_escapementref05_part) rfl (Nat.le_of_ble_eq_true rfl) ?_
 generalize hQ : (fun (v : AV) (_ : Heap) => v = .bool (partC x)) = Q
 have hk : ∀ (b : Bool) h, partC x = b → Q (.bool b) h := by subst hQ; intro b h hb; rw [hb]
 set_option smartUnfolding false in conv => whnf
 refine vc_seq false ?_
 set_option smartUnfolding false in conv => whnf
 refine vc_frz [0] (i := 1) (v' := .fp (pt x).cells 0) rfl (.ptr' (by simp) rfl (.clean (show clL (pt x).cells = true by simp [pt, AV.cells, clL, AV.cl, cl_tks]))) ?_
 refine vc_to0 4 [(1, .fp (pt x).cells 0)] ⟨⟨_, rfl, .cl (by simp [AV.cl, clL, pt, AV.cells, cl_tks])⟩, trivial⟩ ?_
 refine vc_seqV (VC.mono (Q := fun y e h => (y = .ret ∧ partC x = false ∧ Tr.get e 2 = some (.bool false)) ∨ (y = .normal ∧ inB x.per 1 64 = true ∧ inB x.bud 1 x.per = true ∧ decide (x.ts.length ≤ 4) = true ∧ AllAt e [(1, .fp (pt x).cells 0)])) ?_ ?_)
 ·refine vpC_sound (z := false) ?_
  set_option smartUnfolding false in conv => whnf
  have hl : decide (((x.ts.length : Nat) : Int) > 4) = !decide (x.ts.length ≤ 4) := by rw [← decide_not]; exact decide_eq_decide.2 (by omega)
  iterate 8 (all_goals (first | (refine vd_pure (within5_c _ _ _) ?_; set_option smartUnfolding false in conv => whnf) | (refine br (fun hc => ?_) (fun hc => ?_) <;> (try rw [hc]) <;> (set_option smartUnfolding false in conv => whnf)) | skip))
  all_goals (try rw [len_tks] at *)
  all_goals (try rw [hl] at *)
  all_goals (first | (refine .inl ⟨rfl, ?_, rfl⟩; clear hk hQ hl; ((try simp only [Bool.not_eq_true', Bool.not_eq_false'] at *); simp only [partC, *] <;> first | rfl | (simp; done) | (simp_all; done) | omega)) | (refine .inr ⟨rfl, ?_, ?_, ?_, rfl, trivial⟩ <;> clear hk hQ hl <;> simp_all))
 rintro y e h (⟨rfl, hp, h2⟩ | ⟨rfl, h1, h2, h3, he⟩)
 ·exact endV_one h2 (hk false _ hp)
 ·have hp : partC x = x.ts.all fun t => mayR t x.bud := by
   rw [partR_eq x (by rw [inB_iff] at h1 h2; omega), partC, h1, h2, h3]
   rfl
  show VC fs ms _ _ _ _ _ _
  refine vc_slots 4 _ he ?_
  refine vc_seqV (vc_seq true ?_)
  set_option smartUnfolding false in conv => whnf
  refine vc_block ?_
  refine part5_l hx (fun ht e' => ?_) (fun hf e' h2 => ?_) x.ts.length 0 _ rfl (Nat.zero_le _) rfl ⟨rfl, rfl, trivial⟩
  rotate_left
  ·exact endV_one h2 (hk false _ (hp.trans hf))
  show VC fs ms _ _ _ _ _ _
  refine vc_slots 4 [] trivial (vpC_sound (z := true) ?_)
  set_option smartUnfolding false in conv => whnf
  exact hk true _ (hp.trans ht)

theorem check5a_l {k ko : Nat} {L : List Pt} {O : List Po} (hs : Small L) {h : Heap} {B : Nat} {Q : AX → Env → Heap → Prop}
  (hT : L.all partC = true → ∀ e', Tr.get e' 1 = some (.fp [.fz k (pts L), .fz ko (pos O)] 0) → Q (.exit 0) e' h) (hF : L.all partC = false → ∀ e', Tr.get e' 2 = some (.int .i64 50) → Q .ret e' h) :
  ∀ (m j : Nat) (env : Env), L.length - j = m → j ≤ L.length → (L.take j).all partC = true → AllAt env [(1, .fp [.fz k (pts L), .fz ko (pos O)] 0), (3, .int .i64 ((j : Nat) : Int))] →
  VC fs ms B false (.loop L_escapementref05_Check_0) env h Q := by
 intro m
 induction m using Nat.strongRecOn with
 | ind m ih =>
 intro j env hm hj hi henv
 have hsl := hs.1
 refine vc_slots 4 _ henv ?_
 refine vc_loopV (vc_seq true ?_)
 set_option smartUnfolding false in conv => whnf
 repeat (first | (refine ⟨_, rfl, ?_⟩; set_option smartUnfolding false in conv => whnf))
 rw [len_pts]
 refine br (fun hc => ?_) (fun hc => ?_) <;> (try rw [hc]) <;> (set_option smartUnfolding false in conv => whnf)
 ·have hlt : j < L.length := by have := of_decide_eq_true hc; omega
  refine vpC_sound (z := true) ?_
  set_option smartUnfolding false in conv => whnf
  repeat (first | (refine ⟨_, rfl, ?_⟩; set_option smartUnfolding false in conv => whnf))
  refine ⟨_, idx_pt hlt, ?_⟩
  set_option smartUnfolding false in conv => whnf
  refine ⟨pt L[j], rfl, ?_⟩
  set_option smartUnfolding false in conv => whnf
  refine vd_pure (part5_c _ (hs.2 _ (List.getElem_mem hlt))) ?_
  set_option smartUnfolding false in conv => whnf
  cases hm' : partC L[j] with
  | true =>
   set_option smartUnfolding false in conv => whnf
   exact ih (L.length - (j + 1)) (by omega) (j + 1) _ rfl (by omega) (all_next hlt hi hm') ⟨rfl, inc_slot (by omega), trivial⟩
  | false =>
   set_option smartUnfolding false in conv => whnf
   exact hF (all_no hlt hm') _ rfl
 ·have hge : j = L.length := by have := of_decide_eq_false hc; omega
  subst hge
  rw [List.take_length] at hi
  exact hT hi _ rfl
theorem check5b_l {k ko : Nat} {L : List Pt} {O : List Po} (ho : O.length ≤ 17592186044416) {h : Heap} {B : Nat} {Q : AX → Env → Heap → Prop}
  (hT : O.all (fun o => mayO o (L.length : Nat)) = true → ∀ e', Q (.exit 2) e' h) (hF : O.all (fun o => mayO o (L.length : Nat)) = false → ∀ e', Tr.get e' 2 = some (.int .i64 50) → Q .ret e' h) :
  ∀ (m j : Nat) (env : Env), O.length - j = m → j ≤ O.length → (O.take j).all (fun o => mayO o (L.length : Nat)) = true → AllAt env [(1, .fp [.fz k (pts L), .fz ko (pos O)] 0), (4, .int .i64 ((j : Nat) : Int))] →
  VC fs ms B false (.loop L_escapementref05_Check_1) env h Q := by
 intro m
 induction m using Nat.strongRecOn with
 | ind m ih =>
 intro j env hm hj hi henv
 refine vc_slots 4 _ henv ?_
 refine vc_loopV (vc_seq true ?_)
 set_option smartUnfolding false in conv => whnf
 repeat (first | (refine ⟨_, rfl, ?_⟩; set_option smartUnfolding false in conv => whnf))
 rw [len_pos]
 refine br (fun hc => ?_) (fun hc => ?_) <;> (try rw [hc]) <;> (set_option smartUnfolding false in conv => whnf)
 ·have hlt : j < O.length := by have := of_decide_eq_true hc; omega
  refine vpC_sound (z := true) ?_
  set_option smartUnfolding false in conv => whnf
  repeat (first | (refine ⟨_, rfl, ?_⟩; set_option smartUnfolding false in conv => whnf))
  refine ⟨_, idx_po hlt, ?_⟩
  set_option smartUnfolding false in conv => whnf
  refine ⟨po O[j], rfl, ?_⟩
  set_option smartUnfolding false in conv => whnf
  repeat (first | (refine ⟨_, rfl, ?_⟩; set_option smartUnfolding false in conv => whnf))
  rw [len_pts]
  refine vd_pure (port5_c _ _) ?_
  set_option smartUnfolding false in conv => whnf
  cases hm' : mayO O[j] (L.length : Nat) with
  | true =>
   set_option smartUnfolding false in conv => whnf
   exact ih (O.length - (j + 1)) (by omega) (j + 1) _ rfl (by omega) (all_next hlt hi hm') ⟨rfl, inc_slot (by omega), trivial⟩
  | false =>
   set_option smartUnfolding false in conv => whnf
   exact hF (all_no hlt hm') _ rfl
 ·have hge : j = O.length := by have := of_decide_eq_false hc; omega
  subst hge
  rw [List.take_length] at hi
  exact hT hi _
theorem check5_c (k : Nat) (L : List Pt) (ko : Nat) (O : List Po) (hs : Small L) (ho : O.length ≤ 17592186044416) : PC fs ms f_escapementref05_Check [cfg k L ko O] (.int .i64 (if confC L O = true then 0 else 50)) := by
 refine pc_of (by simp [clL, cl_cfg]) rfl ?_
 refine vd_begin (af := C_escapementref05_Check) rfl (Nat.le_of_ble_eq_true rfl) ?_
 generalize hQ : (fun (v : AV) (_ : Heap) => v = .int .i64 (if confC L O = true then 0 else 50)) = Q
 have hk : ∀ (b : Bool) h, confC L O = b → Q (.int .i64 (if b = true then 0 else 50)) h := by subst hQ; intro b h hb; rw [hb]
 have hf : ∀ h, confC L O = false → Q (.int .i64 50) h := fun h hb => hk false h hb
 have ht : ∀ h, confC L O = true → Q (.int .i64 0) h := fun h hb => hk true h hb
 clear hk hQ
 set_option smartUnfolding false in conv => whnf
 refine vc_seq false ?_
 set_option smartUnfolding false in conv => whnf
 refine vc_frz [0] (i := 1) (v' := .fp [.fz k (pts L), .fz ko (pos O)] 0) rfl (.ptr' (by simp) rfl (.clean (by simp [cfg, AV.cells, clL, AV.cl, cl_pts, cl_pos]))) ?_
 refine vc_to0 4 [(1, .fp [.fz k (pts L), .fz ko (pos O)] 0)] ⟨⟨_, rfl, .cl (by simp [AV.cl, clL, cl_pts, cl_pos])⟩, trivial⟩ ?_
 refine vc_seqV (VC.mono (Q := fun y e h => (y = .ret ∧ confC L O = false ∧ Tr.get e 2 = some (.int .i64 50)) ∨ (y = .normal ∧ inB (L.length : Nat) 1 4 = true ∧ decide (((O.length : Nat) : Int) > 8) = false ∧ AllAt e [(1, .fp [.fz k (pts L), .fz ko (pos O)] 0)])) ?_ ?_)
 ·refine vpC_sound (z := false) ?_
  set_option smartUnfolding false in conv => whnf
  rw [len_pts]
  iterate 6 (all_goals (first | (refine vd_pure (within5_c _ _ _) ?_; set_option smartUnfolding false in conv => whnf) | (refine br (fun hc => ?_) (fun hc => ?_) <;> (try rw [hc]) <;> (set_option smartUnfolding false in conv => whnf)) | skip))
  all_goals (try rw [len_pos] at *)
  all_goals (first | (refine .inl ⟨rfl, ?_, rfl⟩; clear hf ht; ((try simp only [Bool.not_eq_true', Bool.not_eq_false'] at *); simp only [confC, *] <;> first | rfl | (simp; done) | (simp_all; done) | omega)) | (refine .inr ⟨rfl, ?_, ?_, rfl, trivial⟩ <;> clear hf ht <;> simp_all))
 rintro y e h (⟨rfl, hp, h2⟩ | ⟨rfl, h1, h2, he⟩)
 ·exact endV_one h2 (hf _ hp)
 ·have hp : confC L O = (L.all partC && O.all (fun o => mayO o (L.length : Nat))) := by
   rw [confC, h1, h2]
   simp
  show VC fs ms _ _ _ _ _ _
  refine vc_slots 4 _ he ?_
  refine vc_seqV (vc_seq true ?_)
  set_option smartUnfolding false in conv => whnf
  refine vc_block ?_
  refine check5a_l (ko := ko) hs (fun hA e' h1 => ?_) (fun hA e' h2 => ?_) L.length 0 _ rfl (Nat.zero_le _) rfl ⟨rfl, rfl, trivial⟩
  rotate_left
  ·exact endV_one h2 (hf _ (by rw [hp, hA]; rfl))
  show VC fs ms _ _ _ _ _ _
  refine vc_slots 4 [(1, .fp [.fz k (pts L), .fz ko (pos O)] 0)] ⟨h1, trivial⟩ ?_
  refine vc_seqV (vc_seq true ?_)
  set_option smartUnfolding false in conv => whnf
  refine vc_block ?_
  refine check5b_l ho (fun hB e' => ?_) (fun hB e' h2 => ?_) O.length 0 _ rfl (Nat.zero_le _) rfl ⟨rfl, rfl, trivial⟩
  rotate_left
  ·exact endV_one h2 (hf _ (by rw [hp, hB, Bool.and_false]))
  show VC fs ms _ _ _ _ _ _
  refine vc_slots 4 [] trivial (vpC_sound (z := true) ?_)
  set_option smartUnfolding false in conv => whnf
  exact ht _ (by rw [hp, hA, hB]; rfl)
end Ir
end Go.Proofs.Ytepdklcpagielaa
set_option maxRecDepth 100000
set_option linter.unusedSimpArgs false
set_option linter.unusedVariables false
namespace Go.Proofs.Ytepdklcpagielaa
open Go Ads
namespace Ads
theorem Frz.mono {P P' : Nat → Prop} (hp : ∀ b, P b → P' b) {g : Heap} {v v' : AV} (h : Frz P g v v') : Frz P' g v v' := by
 induction h with
 | clean h => exact .clean h
 | agg h _ ih => exact .agg h ih
 | tup h _ ih => exact .tup h ih
 | iface _ ih => exact .iface ih
 | nils => exact .nils
 | func h _ h' _ ih ih' => exact .func h ih h' ih'
 | ptr hb hg ho hl _ ih => exact .ptr (hp _ hb) hg ho hl ih
 | sl hb hg hs hn hl hc hk h1 h2 _ ih => exact .sl (hp _ hb) hg hs hn hl hc hk h1 h2 ih
end Ads
namespace Ir
theorem size_tks (l : List Tk) : allSize 8 (tks l) = true := allSize_map (enc := tk) (fun _ => rfl) l
theorem size_pts (l : List Pt) : allSize 3 (pts l) = true := allSize_map (enc := pt) (fun _ => rfl) l
theorem flatL_tks : ∀ l : List Tk, flatL (flatCells (tks l)) = true
 | [] => rfl
 | x :: l => by
  show flatL ((tk x).cells ++ flatCells (tks l)) = true
  simp only [tk, AV.cells, List.cons_append, List.nil_append, flatL_one, flatL_tks l]
  rfl
theorem flatL_pos : ∀ l : List Po, flatL (flatCells (pos l)) = true
 | [] => rfl
 | x :: l => by
  show flatL ((po x).cells ++ flatCells (pos l)) = true
  simp only [po, AV.cells, List.cons_append, List.nil_append, flatL_one, flatL_pos l]
  rfl
def cpP (x : Pt) : Pt := { x with k := growK x.ts.length }
structure Fits (L : List Pt) (O : List Po) : Prop where
 parts : L.length * 40 ≤ 140737488355328
 tasks : ∀ x ∈ L, x.ts.length * 64 ≤ 140737488355328
 ports : O.length * 48 ≤ 140737488355328
theorem Fits.small {L : List Pt} {O : List Po} (h : Fits L O) : Small L := ⟨by have := h.parts; omega, fun x hx => by have := h.tasks x hx; omega⟩

theorem copy_l {k ko : Nat} {L : List Pt} {O : List Po} (hf : Fits L O) {h0 : Heap} {R2 R3 : Nat} (h2 : R2 < h0.next) (h3 : R3 < h0.next) (hne : R2 ≠ R3) {Y2 : AV} {B : Nat} {Q : AX → Env → Heap → Prop}
  (hQ : ∀ e' h' v, GR 3 h0.next h' v (pts (L.map cpP)) → h'.get R3 = some (.cells [v, .nils] true 0) → Fr h0 h' [R3] → AllAt e' [(1, .fp [.fz k (pts L), .fz ko (pos O)] 0), (2, .ptr R2 0), (3, .ptr R3 0)] → Q (.exit 0) e' h') :
  ∀ (m j : Nat) (h : Heap) (v : AV) (env : Env), L.length - j = m → j ≤ L.length → GR 3 h0.next h v (pts ((L.take j).map cpP)) → h.get R3 = some (.cells [v, .nils] true 0) → Fr h0 h [R3] →
  AllAt env [(1, .fp [.fz k (pts L), .fz ko (pos O)] 0), (2, .ptr R2 0), (3, .ptr R3 0), (4, .int .i64 ((j : Nat) : Int))] →
  VC fs ms B false (.loop L_escapementref05_Copy_0) env h Q := by
 intro m
 induction m using Nat.strongRecOn with
 | ind m ih =>
 intro j h v env hm hj hv g3 fr henv
 have hp := hf.parts
 refine vc_slots 4 _ henv ?_
 refine vc_loopV (vc_seq true ?_)
 set_option smartUnfolding false in conv => whnf
 repeat (first | (refine ⟨_, rfl, ?_⟩; set_option smartUnfolding false in conv => whnf))
 rw [len_pts]
 refine br (fun hc => ?_) (fun hc => ?_) <;> (try rw [hc]) <;> (set_option smartUnfolding false in conv => whnf)
 ·have hlt : j < L.length := by have := of_decide_eq_true hc; omega
  have ht := hf.tasks _ (List.getElem_mem hlt)
  refine vc_seqV (vc_block ?_)
  refine vc_seq true ?_
  set_option smartUnfolding false in conv => whnf
  repeat (first | (refine ⟨_, rfl, ?_⟩; set_option smartUnfolding false in conv => whnf))
  refine ⟨_, idx_pt hlt, ?_⟩
  set_option smartUnfolding false in conv => whnf
  refine ⟨pt L[j], rfl, ?_⟩
  set_option smartUnfolding false in conv => whnf
  refine eff_o (sto_o (n := 3) (v := pt L[j]) get_new_same rfl (Nat.le_refl _) rfl) fun h1 e1 => ?_
  set_option smartUnfolding false in conv => whnf
  have g1 : h1.get h.next = some (.cells (pt L[j]).cells true 0) := by rw [e1, get_set_same]; rfl
  have fr1 : Fr h h1 [] := by rw [e1]; exact ((Fr.refl h []).new (x := _)).setn (Nat.le_refl _)
  have n1 : h.next < h1.next := by rw [e1]; exact Nat.lt_succ_self _
  clear e1
  refine vc_seq true ?_
  set_option smartUnfolding false in conv => whnf
  refine vc_seqV (VC.mono (Q := fun y e h4 => y = .normal ∧ ∃ tv, GR 8 (h.next + 1) h4 tv (tks L[j].ts) ∧ h4.get h.next = some (.cells [.int .i64 L[j].per, .int .i64 L[j].bud, tv] true 0) ∧ Fr h h4 [] ∧ h.next < h4.next ∧
   AllAt e [(1, .fp [.fz k (pts L), .fz ko (pos O)] 0), (2, .ptr R2 0), (3, .ptr R3 0), (4, .int .i64 ((j : Nat) : Int)), (5, .ptr h.next 0)]) ?_ ?_)
  ·refine vpC_sound (z := true) ?_
   set_option smartUnfolding false in conv => whnf
   refine ⟨_, ld1 g1 rfl, ?_⟩
   set_option smartUnfolding false in conv => whnf
   obtain ⟨tv, h2', e2, hg2, fr2⟩ := GR.copy (bytes := 64) (k := L[j].k) (lo := h.next + 1) (h := h1) (by omega) (size_tks L[j].ts) (flatL_tks _) (by rw [len_tks]; exact ht) (by rw [len_tks]; omega)
   refine eff_o e2 fun h2'' e2' => ?_
   subst e2'
   set_option smartUnfolding false in conv => whnf
   have g2 : h2''.get h.next = some (.cells (pt L[j]).cells true 0) := (fr2.keep _ n1 (by simp)).trans g1
   have hfl : flatL tv.cells = true := by
    rcases hg2 with ⟨_, rfl⟩ | ⟨_, b, _, _, rfl, _⟩ <;> rfl
   have hcl : tv.cells = [tv] := by
    rcases hg2 with ⟨_, rfl⟩ | ⟨_, b, _, _, rfl, _⟩ <;> rfl
   refine eff_o (sto_o (n := 1) (v := tv) (o := 0 + 2) g2 (by rw [hcl]; rfl) (Nat.le_refl _) hfl) fun h3' e3' => ?_
   set_option smartUnfolding false in conv => whnf
   rw [hcl] at e3'
   refine ⟨rfl, tv, ?_, ?_, ?_, ?_, rfl, rfl, rfl, rfl, rfl, trivial⟩
   ·rw [e3']
    exact hg2.keep (T := [h.next]) ((Fr.refl _ _).set (by simp)) (by simp)
   ·rw [e3', get_set_same]
    rfl
   ·rw [e3']
    exact (fr1.trans fr2).setn (Nat.le_refl _)
   ·rw [e3']
    exact Nat.lt_of_lt_of_le n1 fr2.next
  rintro y e h4 ⟨rfl, tv, ht4, g4, fr4, n4, he⟩
  show VC fs ms _ _ _ _ _ _
  refine vc_slots 4 _ he ?_
  clear he
  obtain ⟨bs, hfz, hbs⟩ := ht4.frz (size_tks _) (cl_tks _)
  rw [len_tks] at hfz
  have hfp : Frz (· ∈ h.next :: bs) h4 (.ptr h.next 0) (.fp (pt (cpP L[j])).cells 0) := by
   exact .ptr' (by simp) g4 (.cons (.clean rfl) (.cons (.clean rfl) (.cons (hfz.mono fun b hb => List.mem_cons_of_mem _ hb) .nil)))
  refine vc_frz (h.next :: bs) (i := 5) rfl hfp ?_
  have fr5 : Fr h (delAll (h.next :: bs) h4) [] := fr_delB (by intro b hb; rcases List.mem_cons.1 hb with rfl | hb; exact Nat.le_refl _; exact Nat.le_of_succ_le (hbs b hb)) fr4
  have n5 : h.next < (delAll (h.next :: bs) h4).next := by rw [delAll_next]; exact n4
  generalize delAll (h.next :: bs) h4 = h5 at *
  clear hfp hfz hbs ht4 g4
  refine vc_slots 4 [(1, .fp [.fz k (pts L), .fz ko (pos O)] 0), (2, .ptr R2 0), (3, .ptr R3 0), (4, .int .i64 ((j : Nat) : Int)), (5, .fp (pt (cpP L[j])).cells 0)] ⟨rfl, rfl, rfl, rfl, rfl, trivial⟩ ?_
  refine vpC_sound (z := true) ?_
  set_option smartUnfolding false in conv => whnf
  have g5 : h5.get R3 = some (.cells [v, .nils] true 0) := (fr5.keep _ (Nat.lt_of_lt_of_le h3 fr.next) (by simp)).trans g3
  refine ⟨_, ld1 g5 rfl, ?_⟩
  set_option smartUnfolding false in conv => whnf
  refine ⟨pt (cpP L[j]), rfl, ?_⟩
  set_option smartUnfolding false in conv => whnf
  have hlj : (pts ((L.take j).map cpP)).length = j := by rw [len_pts, List.length_map, List.length_take]; omega
  obtain ⟨v', g', ea, hv', na, ka⟩ := (hv.keep fr5 (by simp)).app (bytes := 40) (x := pt (cpP L[j])) (Nat.le_trans fr.next fr5.next) rfl rfl (size_pts _) (by rw [hlj]; omega) (by rw [hlj]; omega)
  refine eff_o ea fun g'' ea' => ?_
  subst ea'
  set_option smartUnfolding false in conv => whnf
  have hvf : flatL v'.cells = true ∧ v'.cells = [v'] := by
   rcases hv' with ⟨_, rfl⟩ | ⟨_, b, _, _, rfl, _⟩ <;> exact ⟨rfl, rfl⟩
  have g6 : g''.get R3 = some (.cells [v, .nils] true 0) := (ka R3 h3).trans g5
  refine eff_o (sto_o (n := 1) (v := v') (o := 0 + 0) g6 (by rw [hvf.2]; rfl) (by simp) hvf.1) fun g7 e7 => ?_
  set_option smartUnfolding false in conv => whnf
  rw [hvf.2] at e7
  have fr6 : Fr h5 g'' [] → True := fun _ => trivial
  have hfr : Fr h0 g'' [R3] := ⟨Nat.le_trans fr.next (Nat.le_trans fr5.next na), fun c hc hn => by rw [ka c hc, fr5.keep c (Nat.lt_of_lt_of_le hc fr.next) (by simp)]; exact fr.keep c hc hn⟩
  have hnx : pts ((L.take (j + 1)).map cpP) = pts ((L.take j).map cpP) ++ [pt (cpP L[j])] := by rw [take_next hlt, List.map_append, pts, List.map_append]; rfl
  refine vpC_sound (z := true) ?_
  set_option smartUnfolding false in conv => whnf
  refine ih (L.length - (j + 1)) (by omega) (j + 1) g7 v' _ rfl (by omega) ?_ ?_ ?_ ⟨rfl, rfl, rfl, inc_slot (by omega), trivial⟩
  ·rw [hnx, e7]
   exact hv'.keep (T := [R3]) ((Fr.refl _ _).set (by simp)) (by simpa using h3)
  ·rw [e7, get_set_same]
   rfl
  ·rw [e7]
   exact hfr.set (by simp)
 ·have hge : j = L.length := by have := of_decide_eq_false hc; omega
  subst hge
  rw [List.take_length] at hv
  exact hQ _ h v hv g3 fr ⟨rfl, rfl, rfl, trivial⟩
theorem resAll_cell {a n : Nat} {e : Env} {h : Heap} {b o : Nat} {cs : List AV} (hg : Tr.get e a = some (.ptr b o)) (hl : h.loadN b o n = some cs) : resAllV e h [.cell a n true] = some [.agg cs] := by
 simp only [resAllV, resOfV, hg, hl, cond_true, Option.map_some]
theorem copy5_c (k ko : Nat) {L : List Pt} {O : List Po} (hf : Fits L O) {h0 : Heap} {Q : AV → Heap → Prop}
  (hQ : ∀ h' v w, GR 3 h0.next h' v (pts (L.map cpP)) → GR 6 h0.next h' w (pos O) → Fr h0 h' [] → Q (.agg [v, w]) h') : VD fs ms f_escapementref05_Copy [cfg k L ko O] h0 Q := by
 have hp := hf.ports
 refine vd_begin (af := C_escapementref05_Copy) rfl (Nat.le_of_ble_eq_true rfl) ?_
 set_option smartUnfolding false in conv => whnf
 refine vc_seq true ?_
 set_option smartUnfolding false in conv => whnf
 have g1 : ((h0.new (.cells (cfg k L ko O).cells true 0)).new (.cells [.nils, .nils] true 0)).get h0.next = some (.cells [.fz k (pts L), .fz ko (pos O)] true 0) := (get_new_ne (Nat.lt_succ_self _)).trans get_new_same
 have g2 : ((h0.new (.cells (cfg k L ko O).cells true 0)).new (.cells [.nils, .nils] true 0)).get (h0.next + 1) = some (.cells [.nils, .nils] true 0) := get_new_same (h := h0.new (.cells (cfg k L ko O).cells true 0))
 have fr1 : Fr h0 ((h0.new (.cells (cfg k L ko O).cells true 0)).new (.cells [.nils, .nils] true 0)) [] := (Fr.refl h0 []).new.new
 have n1 : ((h0.new (.cells (cfg k L ko O).cells true 0)).new (.cells [.nils, .nils] true 0)).next = h0.next + 2 := rfl
 generalize (h0.new (.cells (cfg k L ko O).cells true 0)).new (.cells [.nils, .nils] true 0) = h1 at *
 refine vc_frz [h0.next] (i := 1) (v' := .fp [.fz k (pts L), .fz ko (pos O)] 0) rfl (.ptr' (by simp) g1 (.clean (by simp [clL, AV.cl, cl_pts, cl_pos]))) ?_
 have fr2 : Fr h0 (delAll [h0.next] h1) [] := fr_delB (by simp) fr1
 have g2' : (delAll [h0.next] h1).get (h0.next + 1) = some (.cells [.nils, .nils] true 0) := by rw [delAll_get, if_neg (by simp)]; exact g2
 have n2 : (delAll [h0.next] h1).next = h0.next + 2 := by rw [delAll_next]; exact n1
 generalize delAll [h0.next] h1 = h2 at *
 clear g1 g2 fr1 n1
 refine vc_slots 4 [(1, .fp [.fz k (pts L), .fz ko (pos O)] 0), (2, .ptr (h0.next + 1) 0)] ⟨rfl, rfl, trivial⟩ ?_
 refine vc_seq true ?_
 set_option smartUnfolding false in conv => whnf
 refine eff_o (sto_o (n := 2) (v := .agg [.nils, .nils]) get_new_same rfl (Nat.le_refl _) rfl) fun h3 e3 => ?_
 set_option smartUnfolding false in conv => whnf
 have g3 : h3.get h2.next = some (.cells [.nils, .nils] true 0) := by rw [e3, get_set_same]; rfl
 have fr3 : Fr h2 h3 [] := by rw [e3]; exact ((Fr.refl h2 []).new (x := _)).setn (Nat.le_refl _)
 have n3 : h3.next = h2.next + 1 := by rw [e3]; rfl
 have g2 : h3.get (h0.next + 1) = some (.cells [.nils, .nils] true 0) := (fr3.keep _ (by omega) (by simp)).trans g2'
 clear e3
 refine vc_seqV (vc_seq true ?_)
 set_option smartUnfolding false in conv => whnf
 refine vc_block ?_
 refine copy_l (k := k) (ko := ko) hf (h0 := h3) (R2 := h0.next + 1) (R3 := h2.next) (Y2 := .nils) (by omega) (by omega) (by omega) (fun e' h4 v hv g4 fr4 he => ?_) L.length 0 h3 .nils _ rfl (Nat.zero_le _) (.inl ⟨rfl, rfl⟩) g3 (Fr.refl _ _) ⟨rfl, rfl, rfl, rfl, trivial⟩
 have g5 : h4.get (h0.next + 1) = some (.cells [.nils, .nils] true 0) := (fr4.keep _ (by omega) (by simp; omega)).trans g2
 show VC fs ms _ _ _ _ _ _
 refine vc_slots 4 _ he ?_
 clear he
 refine vpC_sound (z := true) ?_
 set_option smartUnfolding false in conv => whnf
 refine ⟨_, ld1 g4 rfl, ?_⟩
 set_option smartUnfolding false in conv => whnf
 repeat (first | (refine ⟨_, rfl, ?_⟩; set_option smartUnfolding false in conv => whnf))
 have hlo : h3.next ≤ h4.next := fr4.next
 obtain ⟨w, h5, e5, hw, fr5⟩ := GR.copy (bytes := 48) (k := ko) (lo := h3.next) (h := h4) hlo (size_pos O) (flatL_pos O) (by rw [len_pos]; exact hp) (by rw [len_pos]; omega)
 refine eff_o e5 fun h5' e5' => ?_
 subst e5'
 set_option smartUnfolding false in conv => whnf
 have hwf : flatL w.cells = true ∧ w.cells = [w] := by
  rcases hw with ⟨_, rfl⟩ | ⟨_, b, _, _, rfl, _⟩ <;> exact ⟨rfl, rfl⟩
 have g6 : h5'.get h2.next = some (.cells [v, .nils] true 0) := (fr5.keep _ (by omega) (by simp)).trans g4
 have g7 : h5'.get (h0.next + 1) = some (.cells [.nils, .nils] true 0) := (fr5.keep _ (by omega) (by simp)).trans g5
 refine eff_o (sto_o (n := 1) (v := w) (o := 0 + 1) g6 (by rw [hwf.2]; rfl) (by simp) hwf.1) fun h6 e6 => ?_
 set_option smartUnfolding false in conv => whnf
 rw [hwf.2] at e6
 have g8 : h6.get h2.next = some (.cells [v, w] true 0) := by rw [e6, get_set_same]; rfl
 have g9 : h6.get (h0.next + 1) = some (.cells [.nils, .nils] true 0) := by rw [e6, get_set_ne (by omega)]; exact g7
 have fr6 : Fr h5' h6 [h2.next] := by rw [e6]; exact (Fr.refl _ _).set (by simp)
 clear e6
 refine ⟨.agg [v, w], ldN (n := 2) g8 (by simp), ?_⟩
 set_option smartUnfolding false in conv => whnf
 have hvf : v.flat = true := by
  rcases hv with ⟨_, rfl⟩ | ⟨_, b, _, _, rfl, _⟩ <;> rfl
 have hwf2 : w.flat = true := by
  rcases hw with ⟨_, rfl⟩ | ⟨_, b, _, _, rfl, _⟩ <;> rfl
 refine eff_o (sto_o (n := 2) (v := .agg [v, w]) (o := 0) g9 rfl (by simp) (by simp [AV.cells, flatL_one, hvf, hwf2]; rfl)) fun h7 e7 => ?_
 set_option smartUnfolding false in conv => whnf
 have g10 : h7.get (h0.next + 1) = some (.cells [v, w] true 0) := by rw [e7, get_set_same]; rfl
 have fr7 : Fr h6 h7 [h0.next + 1] := by rw [e7]; exact (Fr.refl _ _).set (by simp)
 clear e7
 have l7 : h7.loadN (h0.next + 1) 0 2 = some [v, w] := by simp [Heap.loadN, Heap.row, g10]; rfl
 have frA : Fr h0 h7 [] := by
  have f0 : Fr h3 h7 [h2.next, h0.next + 1] := (fr4.wk (by simp)).trans ((fr5.wk (by simp)).trans ((fr6.wk (by simp)).trans (fr7.wk (by simp))))
  exact ⟨Nat.le_trans fr2.next (Nat.le_trans fr3.next f0.next), fun c hc hn => (f0.keep c (by omega) (by simp; omega)).trans ((fr3.keep c (by omega) (by simp)).trans (fr2.keep c hc hn))⟩
 have hv7 : GR 3 h0.next h7 v (pts (L.map cpP)) := (hv.keep ((fr5.wk (cs := [h2.next, h0.next + 1]) (by simp)).trans ((fr6.wk (by simp)).trans (fr7.wk (by simp)))) (by simp; omega)).low (by omega)
 have hw7 : GR 6 h0.next h7 w (pos O) := (hw.keep ((fr6.wk (cs := [h2.next, h0.next + 1]) (by simp)).trans (fr7.wk (by simp))) (by simp; omega)).low (by omega)
 have := hQ h7 v w hv7 hw7 frA
 generalize hE : resAllV _ _ _ = R
 have hR : R = some [.agg [v, w]] := by
  rw [← hE]
  exact resAll_cell (by rfl) l7
 rw [hR]
 exact this
end Ir
end Go.Proofs.Ytepdklcpagielaa
set_option maxRecDepth 100000
set_option linter.unusedSimpArgs false
set_option linter.unusedVariables false
namespace Go.Proofs.Ytepdklcpagielaa
open Go Ads
namespace Ir
theorem idx_pt2 {L : List Pt} {j k : Nat} (hj : j < L.length) : pV (.iaddrS 3) [.fz k (pts (L.map cpP)), .int .i64 (j : Nat)] = some (.fp (pt (cpP L[j])).cells 0) := by
 have := idx_pt (l := L.map cpP) (k := k) (j := j) (by simpa using hj)
 rwa [List.getElem_map] at this
theorem tk_eq (x : Tk) : pV (.neq (.cells [0, 0, 0, 0, 0, 0, 0, 0])) [tk x, tk x] = some (.bool false) := by
 show (eqCells [0, 0, 0, 0, 0, 0, 0, 0] (tk x).cells (tk x).cells).map (fun b => AV.bool !b) = _
 simp [eqCells, eqOne, tk, AV.cells]
theorem po_eq (x : Po) : pV (.neq (.cells [0, 0, 0, 0, 0, 0])) [po x, po x] = some (.bool false) := by
 show (eqCells [0, 0, 0, 0, 0, 0] (po x).cells (po x).cells).map (fun b => AV.bool !b) = _
 simp [eqCells, eqOne, po, AV.cells]
theorem bne_same (a : Int) : (a != a) = false := by simp
theorem same1_l {x : Pt} (hx : x.ts.length ≤ 17592186044416) {Y2 Y3 Y5 : AV} {B : Nat} {h : Heap} {Q : AX → Env → Heap → Prop}
  (hQ : ∀ e', AllAt e' [(2, Y2), (3, Y3), (5, Y5)] → Q (.exit 2) e' h) :
  ∀ (m j : Nat) (env : Env), x.ts.length - j = m → j ≤ x.ts.length → AllAt env [(2, Y2), (3, Y3), (5, Y5), (6, .fp (pt x).cells 0), (7, .fp (pt (cpP x)).cells 0), (8, .int .i64 ((j : Nat) : Int))] →
  VC fs ms B false (.loop L_escapementref05_Same_1) env h Q := by
 intro m
 induction m using Nat.strongRecOn with
 | ind m ih =>
 intro j env hm hj henv
 refine vc_slots 4 _ henv ?_
 refine vc_loopV (vc_seq true ?_)
 set_option smartUnfolding false in conv => whnf
 repeat (first | (refine ⟨_, rfl, ?_⟩; set_option smartUnfolding false in conv => whnf))
 rw [len_tks]
 refine br (fun hc => ?_) (fun hc => ?_) <;> (try rw [hc]) <;> (set_option smartUnfolding false in conv => whnf)
 ·have hlt : j < x.ts.length := by have := of_decide_eq_true hc; omega
  refine vpC_sound (z := true) ?_
  set_option smartUnfolding false in conv => whnf
  repeat (first | (refine ⟨_, rfl, ?_⟩; set_option smartUnfolding false in conv => whnf))
  refine ⟨_, idx_tk hlt, ?_⟩
  set_option smartUnfolding false in conv => whnf
  refine ⟨tk x.ts[j], rfl, ?_⟩
  set_option smartUnfolding false in conv => whnf
  refine ⟨.fz (growK x.ts.length) (tks x.ts), rfl, ?_⟩
  set_option smartUnfolding false in conv => whnf
  refine ⟨_, idx_tk hlt, ?_⟩
  set_option smartUnfolding false in conv => whnf
  refine ⟨tk x.ts[j], rfl, ?_⟩
  set_option smartUnfolding false in conv => whnf
  refine op_some (tk_eq _) ?_
  set_option smartUnfolding false in conv => whnf
  exact ih (x.ts.length - (j + 1)) (by omega) (j + 1) _ rfl (by omega) ⟨rfl, rfl, rfl, rfl, rfl, inc_slot (by omega), trivial⟩
 ·have hge : j = x.ts.length := by have := of_decide_eq_false hc; omega
  exact hQ _ ⟨rfl, rfl, rfl, trivial⟩

theorem same0_l {k ko k' ko' : Nat} {L : List Pt} {O : List Po} (hf : Fits L O) {B : Nat} {Q : AX → Env → Heap → Prop}
  (hQ : ∀ e' h', AllAt e' [(2, .fp [.fz k (pts L), .fz ko (pos O)] 0), (3, .fp [.fz k' (pts (L.map cpP)), .fz ko' (pos O)] 0)] → Q (.exit 0) e' h') :
  ∀ (m j : Nat) (h : Heap) (env : Env), L.length - j = m → j ≤ L.length → AllAt env [(2, .fp [.fz k (pts L), .fz ko (pos O)] 0), (3, .fp [.fz k' (pts (L.map cpP)), .fz ko' (pos O)] 0), (5, .int .i64 ((j : Nat) : Int))] →
  VC fs ms B false (.loop L_escapementref05_Same_0) env h Q := by
 intro m
 induction m using Nat.strongRecOn with
 | ind m ih =>
 intro j h env hm hj henv
 have hp := hf.parts
 refine vc_slots 4 _ henv ?_
 refine vc_loopV (vc_seq true ?_)
 set_option smartUnfolding false in conv => whnf
 repeat (first | (refine ⟨_, rfl, ?_⟩; set_option smartUnfolding false in conv => whnf))
 rw [len_pts]
 refine br (fun hc => ?_) (fun hc => ?_) <;> (try rw [hc]) <;> (set_option smartUnfolding false in conv => whnf)
 ·have hlt : j < L.length := by have := of_decide_eq_true hc; omega
  have hxl : L[j].ts.length ≤ 17592186044416 := by have := hf.tasks _ (List.getElem_mem hlt); omega
  refine vc_seqV (vc_block ?_)
  refine vc_seq true ?_
  set_option smartUnfolding false in conv => whnf
  repeat (first | (refine ⟨_, rfl, ?_⟩; set_option smartUnfolding false in conv => whnf))
  refine ⟨_, idx_pt hlt, ?_⟩
  set_option smartUnfolding false in conv => whnf
  refine ⟨pt L[j], rfl, ?_⟩
  set_option smartUnfolding false in conv => whnf
  refine ⟨.fz k' (pts (L.map cpP)), rfl, ?_⟩
  set_option smartUnfolding false in conv => whnf
  refine ⟨_, idx_pt2 hlt, ?_⟩
  set_option smartUnfolding false in conv => whnf
  refine ⟨pt (cpP L[j]), rfl, ?_⟩
  set_option smartUnfolding false in conv => whnf
  refine eff_o (sto_o (n := 3) (v := pt L[j]) (b := h.next) (vs := [.int .i64 0, .int .i64 0, .nils]) (es := 0) ((get_new_ne (h := h.new _) (Nat.lt_succ_self _)).trans get_new_same) rfl (Nat.le_refl _) rfl) fun h1 e1 => ?_
  set_option smartUnfolding false in conv => whnf
  refine eff_o (sto_o (n := 3) (v := pt (cpP L[j])) (b := h.next + 1) (vs := [.int .i64 0, .int .i64 0, .nils]) (es := 0) (by rw [e1, get_set_ne (by omega)]; exact get_new_same (h := h.new _)) rfl (Nat.le_refl _) rfl) fun h2 e2 => ?_
  set_option smartUnfolding false in conv => whnf
  refine ⟨winOk_of (by (set_option smartUnfolding false in conv => whnf); repeat' (first | exact trivial | (exact ⟨rfl, rfl, .inr ⟨_, _, rfl⟩⟩) | (refine ⟨rfl, rfl, .inl ⟨rfl, fun o ho => ?_⟩⟩; cases ho; first | rfl) | (exact ⟨rfl, .inr ⟨_, _, rfl⟩⟩) | (refine ⟨rfl, .inl ⟨rfl, fun i o hi ho => ?_⟩⟩; cases hi; cases ho; first | rfl) | (refine And.intro (fun hon => (Bool.false_ne_true hon).elim) ?_ <;> set_option smartUnfolding false in conv => whnf) | (refine And.intro (fun _ => ?_) ?_ <;> set_option smartUnfolding false in conv => whnf) | (refine And.intro ?_ ?_ <;> set_option smartUnfolding false in conv => whnf))), ?_⟩
  set_option smartUnfolding false in conv => whnf
  have g6 : h2.get h.next = some (.cells (pt L[j]).cells true 0) := by rw [e2, get_set_ne (by omega), e1, get_set_same]; rfl
  have g7 : h2.get (h.next + 1) = some (.cells (pt (cpP L[j])).cells true 0) := by rw [e2, get_set_same]; rfl
  clear e1 e2
  refine vc_frz [h.next] (i := 6) (v' := .fp (pt L[j]).cells 0) rfl (.ptr' (by simp) g6 (.clean (show clL (pt L[j]).cells = true by simp [pt, AV.cells, clL, AV.cl, cl_tks]))) ?_
  have g7' : (delAll [h.next] h2).get (h.next + 1) = some (.cells (pt (cpP L[j])).cells true 0) := by rw [delAll_get, if_neg (by simp)]; exact g7
  refine vc_frz [h.next + 1] (i := 7) (v' := .fp (pt (cpP L[j])).cells 0) rfl (.ptr' (by simp) g7' (.clean (show clL (pt (cpP L[j])).cells = true by simp [pt, AV.cells, clL, AV.cl, cl_tks]))) ?_
  generalize delAll [h.next + 1] (delAll [h.next] h2) = h3
  refine vc_slots 4 [(2, .fp [.fz k (pts L), .fz ko (pos O)] 0), (3, .fp [.fz k' (pts (L.map cpP)), .fz ko' (pos O)] 0), (5, .int .i64 ((j : Nat) : Int)), (6, .fp (pt L[j]).cells 0), (7, .fp (pt (cpP L[j])).cells 0)] ⟨rfl, rfl, rfl, rfl, rfl, trivial⟩ ?_
  refine vc_seqV (vpC_sound (z := true) ?_)
  set_option smartUnfolding false in conv => whnf
  repeat (first | (refine ⟨_, (rfl : rV .load1 _ _ = some (.int .i64 _)), ?_⟩; set_option smartUnfolding false in conv => whnf) | (refine ⟨_, (rfl : rV .load1 _ _ = some (.fz _ _)), ?_⟩; set_option smartUnfolding false in conv => whnf))
  refine brf (bne_same _) (fun hc => ?_)
  (try rw [hc])
  set_option smartUnfolding false in conv => whnf
  repeat (first | (refine ⟨_, (rfl : rV .load1 _ _ = some (.int .i64 _)), ?_⟩; set_option smartUnfolding false in conv => whnf) | (refine ⟨_, (rfl : rV .load1 _ _ = some (.fz _ _)), ?_⟩; set_option smartUnfolding false in conv => whnf))
  refine brf (bne_same _) (fun hc => ?_)
  (try rw [hc])
  set_option smartUnfolding false in conv => whnf
  repeat (first | (refine ⟨_, (rfl : rV .load1 _ _ = some (.int .i64 _)), ?_⟩; set_option smartUnfolding false in conv => whnf) | (refine ⟨_, (rfl : rV .load1 _ _ = some (.fz _ _)), ?_⟩; set_option smartUnfolding false in conv => whnf))
  refine brf (bne_same _) (fun hc => ?_)
  (try rw [hc])
  set_option smartUnfolding false in conv => whnf
  refine vc_seq true ?_
  set_option smartUnfolding false in conv => whnf
  refine vc_block ?_
  refine same1_l (x := L[j]) hxl (Y2 := .fp [.fz k (pts L), .fz ko (pos O)] 0) (Y3 := .fp [.fz k' (pts (L.map cpP)), .fz ko' (pos O)] 0) (Y5 := .int .i64 ((j : Nat) : Int)) (fun e' he => ?_) L[j].ts.length 0 _ rfl (Nat.zero_le _) ⟨rfl, rfl, rfl, rfl, rfl, rfl, trivial⟩
  show VC fs ms _ _ _ _ _ _
  refine vc_slots 4 _ he (vpC_sound (z := true) ?_)
  set_option smartUnfolding false in conv => whnf
  exact ih (L.length - (j + 1)) (by omega) (j + 1) _ _ rfl (by omega) ⟨rfl, rfl, inc_slot (by omega), trivial⟩
 ·have hge : j = L.length := by have := of_decide_eq_false hc; omega
  exact hQ _ _ ⟨rfl, rfl, trivial⟩
theorem same2_l {k ko k' ko' : Nat} {L : List Pt} {O : List Po} (hf : Fits L O) {B : Nat} {Q : AX → Env → Heap → Prop} {h : Heap}
  (hQ : ∀ e', Q (.exit 4) e' h) :
  ∀ (m j : Nat) (env : Env), O.length - j = m → j ≤ O.length → AllAt env [(2, .fp [.fz k (pts L), .fz ko (pos O)] 0), (3, .fp [.fz k' (pts (L.map cpP)), .fz ko' (pos O)] 0), (9, .int .i64 ((j : Nat) : Int))] →
  VC fs ms B false (.loop L_escapementref05_Same_2) env h Q := by
 intro m
 induction m using Nat.strongRecOn with
 | ind m ih =>
 intro j env hm hj henv
 have hp := hf.ports
 refine vc_slots 4 _ henv ?_
 refine vc_loopV (vc_seq true ?_)
 set_option smartUnfolding false in conv => whnf
 repeat (first | (refine ⟨_, rfl, ?_⟩; set_option smartUnfolding false in conv => whnf))
 rw [len_pos]
 refine br (fun hc => ?_) (fun hc => ?_) <;> (try rw [hc]) <;> (set_option smartUnfolding false in conv => whnf)
 ·have hlt : j < O.length := by have := of_decide_eq_true hc; omega
  refine vpC_sound (z := true) ?_
  set_option smartUnfolding false in conv => whnf
  repeat (first | (refine ⟨_, rfl, ?_⟩; set_option smartUnfolding false in conv => whnf))
  refine ⟨_, idx_po hlt, ?_⟩
  set_option smartUnfolding false in conv => whnf
  refine ⟨po O[j], rfl, ?_⟩
  set_option smartUnfolding false in conv => whnf
  refine ⟨.fz ko' (pos O), rfl, ?_⟩
  set_option smartUnfolding false in conv => whnf
  refine ⟨_, idx_po hlt, ?_⟩
  set_option smartUnfolding false in conv => whnf
  refine ⟨po O[j], rfl, ?_⟩
  set_option smartUnfolding false in conv => whnf
  refine op_some (po_eq _) ?_
  set_option smartUnfolding false in conv => whnf
  exact ih (O.length - (j + 1)) (by omega) (j + 1) _ rfl (by omega) ⟨rfl, rfl, inc_slot (by omega), trivial⟩
 ·have hge : j = O.length := by have := of_decide_eq_false hc; omega
  exact hQ _
theorem same5_c (k ko k' ko' : Nat) {L : List Pt} {O : List Po} (hf : Fits L O) : PC fs ms f_escapementref05_Same [cfg k L ko O, cfg k' (L.map cpP) ko' O] (.bool true) := by
 refine pc_of (by simp [clL, cl_cfg]) rfl ?_
 refine vd_begin (af := C_escapementref05_Same) rfl (Nat.le_of_ble_eq_true rfl) ?_
 generalize hQ : (fun (v : AV) (_ : Heap) => v = .bool true) = Q
 have hk : ∀ h, Q (.bool true) h := by subst hQ; intro h; rfl
 clear hQ
 set_option smartUnfolding false in conv => whnf
 refine vc_seq false ?_
 set_option smartUnfolding false in conv => whnf
 refine vc_frz [0] (i := 2) (v' := .fp [.fz k (pts L), .fz ko (pos O)] 0) rfl (.ptr' (by simp) rfl (.clean (by simp [cfg, AV.cells, clL, AV.cl, cl_pts, cl_pos]))) ?_
 refine vc_frz [1] (i := 3) (v' := .fp [.fz k' (pts (L.map cpP)), .fz ko' (pos O)] 0) rfl (.ptr' (by simp) rfl (.clean (by simp [cfg, AV.cells, clL, AV.cl, cl_pts, cl_pos]))) ?_
 refine vc_to0 4 [(2, .fp [.fz k (pts L), .fz ko (pos O)] 0), (3, .fp [.fz k' (pts (L.map cpP)), .fz ko' (pos O)] 0)] ⟨⟨_, rfl, .cl (by simp [AV.cl, clL, cl_pts, cl_pos])⟩, ⟨_, rfl, .cl (by simp [AV.cl, clL, cl_pts, cl_pos])⟩, trivial⟩ ?_
 refine vc_seqV (vpC_sound (z := false) ?_)
 set_option smartUnfolding false in conv => whnf
 refine brf (by rw [len_pts, len_pts, List.length_map]; exact bne_same _) (fun hc => ?_)
 (try rw [hc])
 set_option smartUnfolding false in conv => whnf
 refine brf (bne_same _) (fun hc => ?_)
 (try rw [hc])
 set_option smartUnfolding false in conv => whnf
 refine vc_seqV (vc_seq true ?_)
 set_option smartUnfolding false in conv => whnf
 refine vc_block ?_
 refine same0_l (k := k) (ko := ko) (k' := k') (ko' := ko') hf (fun e' h' he => ?_) L.length 0 _ _ rfl (Nat.zero_le _) ⟨rfl, rfl, rfl, trivial⟩
 show VC fs ms _ _ _ _ _ _
 refine vc_slots 4 _ he ?_
 refine vc_seqV (vc_seq true ?_)
 set_option smartUnfolding false in conv => whnf
 refine vc_block ?_
 refine same2_l (k := k) (ko := ko) (k' := k') (ko' := ko') hf (fun e' => ?_) O.length 0 _ rfl (Nat.zero_le _) ⟨rfl, rfl, rfl, trivial⟩
 show VC fs ms _ _ _ _ _ _
 refine vc_slots 4 [] trivial (vpC_sound (z := true) ?_)
 set_option smartUnfolding false in conv => whnf
 exact hk _
end Ir
end Go.Proofs.Ytepdklcpagielaa
