/-
  What a configuration may be: the program's answer and the document's. What a configuration may be, by the document; copies. A configuration's copy; whether two are the same. A configuration is the same as its copy.
-/
import Derived.Test.YtepdklcpagielaaVDel
import Derived.Test.YtepdklcpagielaaVsPre
import Derived.Test.YtepdklcpagielaaVsX
import Derived.Test.YtepdklcpagielaaVJf
set_option maxRecDepth 100000
set_option linter.unusedSimpArgs false
set_option linter.unusedVariables false
namespace Go.Proofs.Ytepdklcpagielaa
open Go Ads
namespace Ir
structure Po where
  k : Int
  f : Int
  t : Int
  s : Int
  d : Int
  a : Int
def po (x : Po) : AV := .agg [.int .i64 x.k, .int .i64 x.f, .int .i64 x.t, .int .i64 x.s, .int .i64 x.d, .int .i64 x.a]
def pos (l : List Po) : List AV := l.map po
theorem cl_pos (l : List Po) : clL (pos l) = true := clL_map (enc := po) (fun _ => rfl) l
theorem len_pos (l : List Po) : (pos l).length = l.length := List.length_map ..
theorem idx_po {l : List Po} {j k : Nat} (hj : j < l.length) : pV (.iaddrS 6) [.fz k (pos l), .int .i64 (j : Nat)] = some (.fp (po l[j]).cells 0) := idx_map (enc := po) hj rfl

theorem ixfP_c {F : Nat} {capt : List AV} {p : Pt → Bool} (k : Nat) (l : List Pt) (hl : l.length < 2 ^ 62) (hcap : clL capt = true) (hp : ∀ m, m ∈ l → PC fs ms F (pt m :: capt) (.bool (p m))) :
    ∃ n : Int, PC fs ms f_slices_IndexFunc_api_Part_api_Part [.fz k (pts l), .func (.func F) [] capt] (.int .i64 n) ∧ decide (n ≥ 0) = l.any p := by
  by_cases ha : l.any p = true
  · obtain ⟨j, hj, h1, h2⟩ := least_get (l := l) (p := fun m => p m = true) (by simpa using ha)
    refine ⟨(j : Nat), ?_, by rw [ha]; simp⟩
    refine pc_of (by simp [clL, AV.cl, cl_pts, hcap]) rfl ?_
    refine vd_start (af := C_slices_IndexFunc_api_Part_api_Part) false rfl (Nat.le_of_ble_eq_true rfl) ?_
    generalize hQ : (fun (v : AV) (_ : Heap) => v = .int .i64 (j : Nat)) = Q
    set_option smartUnfolding false in conv => whnf
    refine vc_to0 5 [(0, .fz k (pts l)), (1, .func (.func F) [] capt), (7, .int .i64 (pts l).length), (8, .int .i64 ((0 : Nat) : Int))] (by repeat' (first | exact trivial | refine renAt_sl rfl (by omega) ?_ | refine renAt_ptr rfl (by omega) ?_ | refine renAt_yield rfl (by omega) ?_ | refine renAt_cl rfl (by first | rfl | simp [clL, AV.cl, cl_ints, cl_pts, hcap]) ?_ | refine renAt_cl (inc_slot (by omega)) rfl ?_)) ?_
    refine for_row 5 j (fun _ => True) (fun i => [(0, .fz k (pts l)), (1, .func (.func F) [] capt), (7, .int .i64 (pts l).length), (8, .int .i64 (i : Nat))]) ?_ ?_ trivial
    · intro i hi _
      set_option smartUnfolding false in conv => whnf
      refine br (fun hc => ?_) (fun hc => ?_) <;> (try rw [hc]) <;> (set_option smartUnfolding false in conv => whnf)
      · refine ⟨_, idx_pt (by omega), ?_⟩
        set_option smartUnfolding false in conv => whnf
        refine vd_pure (hp _ (List.getElem_mem _)) ?_
        set_option smartUnfolding false in conv => whnf
        refine br (fun hc => ?_) (fun hc => ?_) <;> (try rw [hc]) <;> (set_option smartUnfolding false in conv => whnf)
        · exact absurd hc (h2 i (by omega) hi)
        · refine ⟨trivial, ⟨_, rfl, .cl (by simp [AV.cl, cl_pts])⟩, ⟨_, rfl, .cl (by simp [AV.cl, clL, hcap])⟩, ⟨_, rfl, .cl rfl⟩, ⟨_, inc_slot (by omega), .cl rfl⟩, trivial⟩
      · exfalso
        have := of_decide_eq_false hc
        rw [len_pts] at this
        omega
    · intro _
      set_option smartUnfolding false in conv => whnf
      refine br (fun hc => ?_) (fun hc => ?_) <;> (try rw [hc]) <;> (set_option smartUnfolding false in conv => whnf)
      · refine ⟨_, idx_pt hj, ?_⟩
        set_option smartUnfolding false in conv => whnf
        refine vd_pure (hp _ (List.getElem_mem _)) ?_
        set_option smartUnfolding false in conv => whnf
        refine br (fun hc => ?_) (fun hc => ?_) <;> (try rw [hc]) <;> (set_option smartUnfolding false in conv => whnf)
        · subst hQ
          rfl
        · rw [h1] at hc; simp at hc
      · exfalso
        have := of_decide_eq_false hc
        rw [len_pts] at this
        omega
  · have hn : ∀ m, m ∈ l → p m = false := by
      intro m hm
      rw [Bool.eq_false_iff]
      intro h
      exact ha (List.any_eq_true.2 ⟨m, hm, h⟩)
    refine ⟨-1, ?_, by rw [Bool.eq_false_iff.2 ha]; decide⟩
    refine pc_of (by simp [clL, AV.cl, cl_pts, hcap]) rfl ?_
    refine vd_start (af := C_slices_IndexFunc_api_Part_api_Part) false rfl (Nat.le_of_ble_eq_true rfl) ?_
    generalize hQ : (fun (v : AV) (_ : Heap) => v = .int .i64 (-1)) = Q
    set_option smartUnfolding false in conv => whnf
    refine vc_to0 5 [(0, .fz k (pts l)), (1, .func (.func F) [] capt), (7, .int .i64 (pts l).length), (8, .int .i64 ((0 : Nat) : Int))] (by repeat' (first | exact trivial | refine renAt_sl rfl (by omega) ?_ | refine renAt_ptr rfl (by omega) ?_ | refine renAt_yield rfl (by omega) ?_ | refine renAt_cl rfl (by first | rfl | simp [clL, AV.cl, cl_ints, cl_pts, hcap]) ?_ | refine renAt_cl (inc_slot (by omega)) rfl ?_)) ?_
    refine for_row 5 l.length (fun _ => True) (fun i => [(0, .fz k (pts l)), (1, .func (.func F) [] capt), (7, .int .i64 (pts l).length), (8, .int .i64 (i : Nat))]) ?_ ?_ trivial
    · intro i hi _
      set_option smartUnfolding false in conv => whnf
      refine br (fun hc => ?_) (fun hc => ?_) <;> (try rw [hc]) <;> (set_option smartUnfolding false in conv => whnf)
      · refine ⟨_, idx_pt (by omega), ?_⟩
        set_option smartUnfolding false in conv => whnf
        refine vd_pure (hp _ (List.getElem_mem _)) ?_
        set_option smartUnfolding false in conv => whnf
        refine br (fun hc => ?_) (fun hc => ?_) <;> (try rw [hc]) <;> (set_option smartUnfolding false in conv => whnf)
        · rw [hn _ (List.getElem_mem hi)] at hc; simp at hc
        · refine ⟨trivial, ⟨_, rfl, .cl (by simp [AV.cl, cl_pts])⟩, ⟨_, rfl, .cl (by simp [AV.cl, clL, hcap])⟩, ⟨_, rfl, .cl rfl⟩, ⟨_, inc_slot (by omega), .cl rfl⟩, trivial⟩
      · exfalso
        have := of_decide_eq_false hc
        rw [len_pts] at this
        omega
    · intro _
      set_option smartUnfolding false in conv => whnf
      refine br (fun hc => ?_) (fun hc => ?_) <;> (try rw [hc]) <;> (set_option smartUnfolding false in conv => whnf)
      · exfalso
        have := of_decide_eq_true hc
        rw [len_pts] at this
        omega
      · subst hQ
        rfl

theorem cfP_c {F : Nat} {capt : List AV} {p : Pt → Bool} (k : Nat) (l : List Pt) (hl : l.length < 2 ^ 62) (hcap : clL capt = true) (hp : ∀ m, m ∈ l → PC fs ms F (pt m :: capt) (.bool (p m))) :
    PC fs ms f_slices_ContainsFunc_api_Part_api_Part [.fz k (pts l), .func (.func F) [] capt] (.bool (l.any p)) := by
  obtain ⟨n, c1, c2⟩ := ixfP_c k l hl hcap hp
  refine pc_of (by simp [clL, AV.cl, cl_pts, hcap]) rfl ?_
  refine vd_start (af := C_slices_ContainsFunc_api_Part_api_Part) false rfl (Nat.le_of_ble_eq_true rfl) ?_
  generalize hQ : (fun (v : AV) (_ : Heap) => v = .bool (l.any p)) = Q
  set_option smartUnfolding false in conv => whnf
  refine vd_pure c1 ?_
  set_option smartUnfolding false in conv => whnf
  subst hQ
  exact congrArg AV.bool c2

theorem ixfO_c {F : Nat} {capt : List AV} {p : Po → Bool} (k : Nat) (l : List Po) (hl : l.length < 2 ^ 62) (hcap : clL capt = true) (hp : ∀ m, m ∈ l → PC fs ms F (po m :: capt) (.bool (p m))) :
    ∃ n : Int, PC fs ms f_slices_IndexFunc_api_Port_api_Port [.fz k (pos l), .func (.func F) [] capt] (.int .i64 n) ∧ decide (n ≥ 0) = l.any p := by
  by_cases ha : l.any p = true
  · obtain ⟨j, hj, h1, h2⟩ := least_get (l := l) (p := fun m => p m = true) (by simpa using ha)
    refine ⟨(j : Nat), ?_, by rw [ha]; simp⟩
    refine pc_of (by simp [clL, AV.cl, cl_pos, hcap]) rfl ?_
    refine vd_start (af := C_slices_IndexFunc_api_Port_api_Port) false rfl (Nat.le_of_ble_eq_true rfl) ?_
    generalize hQ : (fun (v : AV) (_ : Heap) => v = .int .i64 (j : Nat)) = Q
    set_option smartUnfolding false in conv => whnf
    refine vc_to0 5 [(0, .fz k (pos l)), (1, .func (.func F) [] capt), (7, .int .i64 (pos l).length), (8, .int .i64 ((0 : Nat) : Int))] (by repeat' (first | exact trivial | refine renAt_sl rfl (by omega) ?_ | refine renAt_ptr rfl (by omega) ?_ | refine renAt_yield rfl (by omega) ?_ | refine renAt_cl rfl (by first | rfl | simp [clL, AV.cl, cl_ints, cl_pos, hcap]) ?_ | refine renAt_cl (inc_slot (by omega)) rfl ?_)) ?_
    refine for_row 5 j (fun _ => True) (fun i => [(0, .fz k (pos l)), (1, .func (.func F) [] capt), (7, .int .i64 (pos l).length), (8, .int .i64 (i : Nat))]) ?_ ?_ trivial
    · intro i hi _
      set_option smartUnfolding false in conv => whnf
      refine br (fun hc => ?_) (fun hc => ?_) <;> (try rw [hc]) <;> (set_option smartUnfolding false in conv => whnf)
      · refine ⟨_, idx_po (by omega), ?_⟩
        set_option smartUnfolding false in conv => whnf
        refine vd_pure (hp _ (List.getElem_mem _)) ?_
        set_option smartUnfolding false in conv => whnf
        refine br (fun hc => ?_) (fun hc => ?_) <;> (try rw [hc]) <;> (set_option smartUnfolding false in conv => whnf)
        · exact absurd hc (h2 i (by omega) hi)
        · refine ⟨trivial, ⟨_, rfl, .cl (by simp [AV.cl, cl_pos])⟩, ⟨_, rfl, .cl (by simp [AV.cl, clL, hcap])⟩, ⟨_, rfl, .cl rfl⟩, ⟨_, inc_slot (by omega), .cl rfl⟩, trivial⟩
      · exfalso
        have := of_decide_eq_false hc
        rw [len_pos] at this
        omega
    · intro _
      set_option smartUnfolding false in conv => whnf
      refine br (fun hc => ?_) (fun hc => ?_) <;> (try rw [hc]) <;> (set_option smartUnfolding false in conv => whnf)
      · refine ⟨_, idx_po hj, ?_⟩
        set_option smartUnfolding false in conv => whnf
        refine vd_pure (hp _ (List.getElem_mem _)) ?_
        set_option smartUnfolding false in conv => whnf
        refine br (fun hc => ?_) (fun hc => ?_) <;> (try rw [hc]) <;> (set_option smartUnfolding false in conv => whnf)
        · subst hQ
          rfl
        · rw [h1] at hc; simp at hc
      · exfalso
        have := of_decide_eq_false hc
        rw [len_pos] at this
        omega
  · have hn : ∀ m, m ∈ l → p m = false := by
      intro m hm
      rw [Bool.eq_false_iff]
      intro h
      exact ha (List.any_eq_true.2 ⟨m, hm, h⟩)
    refine ⟨-1, ?_, by rw [Bool.eq_false_iff.2 ha]; decide⟩
    refine pc_of (by simp [clL, AV.cl, cl_pos, hcap]) rfl ?_
    refine vd_start (af := C_slices_IndexFunc_api_Port_api_Port) false rfl (Nat.le_of_ble_eq_true rfl) ?_
    generalize hQ : (fun (v : AV) (_ : Heap) => v = .int .i64 (-1)) = Q
    set_option smartUnfolding false in conv => whnf
    refine vc_to0 5 [(0, .fz k (pos l)), (1, .func (.func F) [] capt), (7, .int .i64 (pos l).length), (8, .int .i64 ((0 : Nat) : Int))] (by repeat' (first | exact trivial | refine renAt_sl rfl (by omega) ?_ | refine renAt_ptr rfl (by omega) ?_ | refine renAt_yield rfl (by omega) ?_ | refine renAt_cl rfl (by first | rfl | simp [clL, AV.cl, cl_ints, cl_pos, hcap]) ?_ | refine renAt_cl (inc_slot (by omega)) rfl ?_)) ?_
    refine for_row 5 l.length (fun _ => True) (fun i => [(0, .fz k (pos l)), (1, .func (.func F) [] capt), (7, .int .i64 (pos l).length), (8, .int .i64 (i : Nat))]) ?_ ?_ trivial
    · intro i hi _
      set_option smartUnfolding false in conv => whnf
      refine br (fun hc => ?_) (fun hc => ?_) <;> (try rw [hc]) <;> (set_option smartUnfolding false in conv => whnf)
      · refine ⟨_, idx_po (by omega), ?_⟩
        set_option smartUnfolding false in conv => whnf
        refine vd_pure (hp _ (List.getElem_mem _)) ?_
        set_option smartUnfolding false in conv => whnf
        refine br (fun hc => ?_) (fun hc => ?_) <;> (try rw [hc]) <;> (set_option smartUnfolding false in conv => whnf)
        · rw [hn _ (List.getElem_mem hi)] at hc; simp at hc
        · refine ⟨trivial, ⟨_, rfl, .cl (by simp [AV.cl, cl_pos])⟩, ⟨_, rfl, .cl (by simp [AV.cl, clL, hcap])⟩, ⟨_, rfl, .cl rfl⟩, ⟨_, inc_slot (by omega), .cl rfl⟩, trivial⟩
      · exfalso
        have := of_decide_eq_false hc
        rw [len_pos] at this
        omega
    · intro _
      set_option smartUnfolding false in conv => whnf
      refine br (fun hc => ?_) (fun hc => ?_) <;> (try rw [hc]) <;> (set_option smartUnfolding false in conv => whnf)
      · exfalso
        have := of_decide_eq_true hc
        rw [len_pos] at this
        omega
      · subst hQ
        rfl

theorem cfO_c {F : Nat} {capt : List AV} {p : Po → Bool} (k : Nat) (l : List Po) (hl : l.length < 2 ^ 62) (hcap : clL capt = true) (hp : ∀ m, m ∈ l → PC fs ms F (po m :: capt) (.bool (p m))) :
    PC fs ms f_slices_ContainsFunc_api_Port_api_Port [.fz k (pos l), .func (.func F) [] capt] (.bool (l.any p)) := by
  obtain ⟨n, c1, c2⟩ := ixfO_c k l hl hcap hp
  refine pc_of (by simp [clL, AV.cl, cl_pos, hcap]) rfl ?_
  refine vd_start (af := C_slices_ContainsFunc_api_Port_api_Port) false rfl (Nat.le_of_ble_eq_true rfl) ?_
  generalize hQ : (fun (v : AV) (_ : Heap) => v = .bool (l.any p)) = Q
  set_option smartUnfolding false in conv => whnf
  refine vd_pure c1 ?_
  set_option smartUnfolding false in conv => whnf
  subst hQ
  exact congrArg AV.bool c2

def inB (n a b : Int) : Bool := decide (a ≤ n) && decide (n ≤ b)
theorem inB_iff {n a b : Int} : inB n a b = true ↔ a ≤ n ∧ n ≤ b := by simp [inB]
theorem within_c (n a b : Int) : PC fs ms f_conf_within [.int .i64 n, .int .i64 a, .int .i64 b] (.bool (inB n a b)) := by
  refine pc_of rfl rfl ?_
  refine vd_start (af := C_conf_within) false rfl (Nat.le_of_ble_eq_true rfl) ?_
  generalize hQ : (fun (v : AV) (_ : Heap) => v = .bool (inB n a b)) = Q
  set_option smartUnfolding false in conv => whnf
  by_cases h : a ≤ n
  · refine brt (by simpa using h) (fun hc => ?_)
    (try rw [hc])
    set_option smartUnfolding false in conv => whnf
    subst hQ
    rw [inB, decide_eq_true h, Bool.true_and]
  · refine brf (by simpa using h) (fun hc => ?_)
    (try rw [hc])
    set_option smartUnfolding false in conv => whnf
    subst hQ
    rw [inB, decide_eq_false h, Bool.false_and]

/-- May a task be? -/
def mayC (t : Tk) (B : Int) : Bool := inB t.p 1 64 && inB t.d 1 t.p && inB t.w 1 t.d && inB t.a 0 255 && inB t.c 0 4 && !(decide (t.a = 0) && !decide (t.b = 0)) && (decide (t.a = 0) || inB t.b 1 t.w) &&
  (if t.c = 0 then decide (t.e = 0) && decide (t.f = 0) else inB t.e 1 (min B t.w) && inB t.f 1 (t.w / t.e))

theorem taskMay_c (t : Tk) (B : Int) : PC fs ms f_conf_taskMay [tk t, .int .i64 B] (.bool (mayC t B)) := by
  refine pc_of rfl rfl ?_
  refine vd_start (af := C_conf_taskMay) false rfl (Nat.le_of_ble_eq_true rfl) ?_
  generalize hQ : (fun (v : AV) (_ : Heap) => v = .bool (mayC t B)) = Q
  set_option smartUnfolding false in conv => whnf
  refine vd_pure (within_c t.p 1 64) ?_
  cases c1 : inB t.p 1 64 with
  | false =>
    set_option smartUnfolding false in conv => whnf
    subst hQ
    simp [mayC, c1]
  | true =>
  set_option smartUnfolding false in conv => whnf
  refine vd_pure (within_c t.d 1 t.p) ?_
  cases c2 : inB t.d 1 t.p with
  | false =>
    set_option smartUnfolding false in conv => whnf
    subst hQ
    simp [mayC, c2]
  | true =>
  set_option smartUnfolding false in conv => whnf
  refine vd_pure (within_c t.w 1 t.d) ?_
  cases c3 : inB t.w 1 t.d with
  | false =>
    set_option smartUnfolding false in conv => whnf
    subst hQ
    simp [mayC, c3]
  | true =>
  set_option smartUnfolding false in conv => whnf
  refine vd_pure (within_c t.a 0 255) ?_
  cases c4 : inB t.a 0 255 with
  | false =>
    set_option smartUnfolding false in conv => whnf
    subst hQ
    simp [mayC, c4]
  | true =>
  set_option smartUnfolding false in conv => whnf
  refine vd_pure (within_c t.c 0 4) ?_
  cases c5 : inB t.c 0 4 with
  | false =>
    set_option smartUnfolding false in conv => whnf
    subst hQ
    simp [mayC, c5]
  | true =>
  set_option smartUnfolding false in conv => whnf
  have h1 := inB_iff.1 c1
  have h2 := inB_iff.1 c2
  have h3 := inB_iff.1 c3
  have hpre : mayC t B = (!(decide (t.a = 0) && !decide (t.b = 0)) && (decide (t.a = 0) || inB t.b 1 t.w) && (if t.c = 0 then decide (t.e = 0) && decide (t.f = 0) else inB t.e 1 (min B t.w) && inB t.f 1 (t.w / t.e))) := by
    simp only [mayC, c1, c2, c3, c4, c5, Bool.true_and]
  have hend : ∀ Q' : AV → Heap → Prop, (!(decide (t.a = 0) && !decide (t.b = 0)) && (decide (t.a = 0) || inB t.b 1 t.w)) = true → mayC t B = (if t.c = 0 then decide (t.e = 0) && decide (t.f = 0) else inB t.e 1 (min B t.w) && inB t.f 1 (t.w / t.e)) := by
    intro _ h
    rw [hpre, h, Bool.true_and]
  have hmn : (bif decide (t.w < B) then t.w else B) = min B t.w := by
    by_cases h : t.w < B
    · rw [decide_eq_true h, cond_true]; omega
    · rw [decide_eq_false h, cond_false]; omega
  by_cases a0 : t.a = 0
  · refine brt (by simpa using a0) (fun hc => ?_)
    (try rw [hc])
    set_option smartUnfolding false in conv => whnf
    by_cases b0 : t.b = 0
    · refine brf (by simpa using b0) (fun hc => ?_)
      (try rw [hc])
      set_option smartUnfolding false in conv => whnf
      refine brf (by simpa using a0) (fun hc => ?_)
      (try rw [hc])
      set_option smartUnfolding false in conv => whnf
      have he := hend Q (by rw [decide_eq_true a0, decide_eq_true b0]; rfl)
      by_cases g0 : t.c = 0
      · refine brt (by simpa using g0) (fun hc => ?_)
        (try rw [hc])
        set_option smartUnfolding false in conv => whnf
        rw [if_pos g0] at he
        by_cases e0 : t.e = 0
        · refine brt (by simpa using e0) (fun hc => ?_)
          (try rw [hc])
          set_option smartUnfolding false in conv => whnf
          subst hQ
          rw [he, decide_eq_true e0, Bool.true_and]
          exact congrArg AV.bool (by rw [Bool.eq_iff_iff]; simp)
        · refine brf (by simpa using e0) (fun hc => ?_)
          (try rw [hc])
          set_option smartUnfolding false in conv => whnf
          subst hQ
          rw [he, decide_eq_false e0, Bool.false_and]
      · refine brf (by simpa using g0) (fun hc => ?_)
        (try rw [hc])
        set_option smartUnfolding false in conv => whnf
        rw [if_neg g0] at he
        rw [hmn]
        refine vd_pure (within_c t.e 1 (min B t.w)) ?_
        cases c7 : inB t.e 1 (min B t.w) with
        | false =>
          set_option smartUnfolding false in conv => whnf
          subst hQ
          rw [he, c7, Bool.false_and]
        | true =>
          have h7 := inB_iff.1 c7
          set_option smartUnfolding false in conv => whnf
          refine ⟨_, quo_val _ _ (by omega), ?_⟩
          set_option smartUnfolding false in conv => whnf
          rw [show IntKind.i64.wrap (t.w.tdiv t.e) = t.w / t.e from IntWalk.i64_quo _ _ (by omega)]
          refine vd_pure (within_c t.f 1 (t.w / t.e)) ?_
          set_option smartUnfolding false in conv => whnf
          subst hQ
          rw [he, c7, Bool.true_and]
    · refine brt (by simpa using b0) (fun hc => ?_)
      (try rw [hc])
      set_option smartUnfolding false in conv => whnf
      subst hQ
      rw [hpre, decide_eq_true a0, decide_eq_false b0]
      rfl
  · refine brf (by simpa using a0) (fun hc => ?_)
    (try rw [hc])
    set_option smartUnfolding false in conv => whnf
    refine brt (by simpa using a0) (fun hc => ?_)
    (try rw [hc])
    set_option smartUnfolding false in conv => whnf
    refine vd_pure (within_c t.b 1 t.w) ?_
    cases c6 : inB t.b 1 t.w with
    | false =>
      set_option smartUnfolding false in conv => whnf
      subst hQ
      rw [hpre, c6, decide_eq_false a0]
      rfl
    | true =>
      set_option smartUnfolding false in conv => whnf
      have he := hend Q (by rw [c6, decide_eq_false a0]; rfl)
      by_cases g0 : t.c = 0
      · refine brt (by simpa using g0) (fun hc => ?_)
        (try rw [hc])
        set_option smartUnfolding false in conv => whnf
        rw [if_pos g0] at he
        by_cases e0 : t.e = 0
        · refine brt (by simpa using e0) (fun hc => ?_)
          (try rw [hc])
          set_option smartUnfolding false in conv => whnf
          subst hQ
          rw [he, decide_eq_true e0, Bool.true_and]
          exact congrArg AV.bool (by rw [Bool.eq_iff_iff]; simp)
        · refine brf (by simpa using e0) (fun hc => ?_)
          (try rw [hc])
          set_option smartUnfolding false in conv => whnf
          subst hQ
          rw [he, decide_eq_false e0, Bool.false_and]
      · refine brf (by simpa using g0) (fun hc => ?_)
        (try rw [hc])
        set_option smartUnfolding false in conv => whnf
        rw [if_neg g0] at he
        rw [hmn]
        refine vd_pure (within_c t.e 1 (min B t.w)) ?_
        cases c7 : inB t.e 1 (min B t.w) with
        | false =>
          set_option smartUnfolding false in conv => whnf
          subst hQ
          rw [he, c7, Bool.false_and]
        | true =>
          have h7 := inB_iff.1 c7
          set_option smartUnfolding false in conv => whnf
          refine ⟨_, quo_val _ _ (by omega), ?_⟩
          set_option smartUnfolding false in conv => whnf
          rw [show IntKind.i64.wrap (t.w.tdiv t.e) = t.w / t.e from IntWalk.i64_quo _ _ (by omega)]
          refine vd_pure (within_c t.f 1 (t.w / t.e)) ?_
          set_option smartUnfolding false in conv => whnf
          subst hQ
          rw [he, c7, Bool.true_and]

theorem partMay1_c (t : Tk) (x : Pt) : PC fs ms f_conf_partMay_1 [tk t, .fp (pt x).cells 0] (.bool (!mayC t x.bud)) := by
  refine pc_of (by simp [clL, AV.cl, pt, AV.cells, cl_tks, tk]) rfl ?_
  refine vd_start (af := C_conf_partMay_1) false rfl (Nat.le_of_ble_eq_true rfl) ?_
  generalize hQ : (fun (v : AV) (_ : Heap) => v = .bool (!mayC t x.bud)) = Q
  set_option smartUnfolding false in conv => whnf
  refine vd_pure (taskMay_c t x.bud) ?_
  set_option smartUnfolding false in conv => whnf
  subst hQ
  rfl

/-- May a partition be? -/
def partC (x : Pt) : Bool := inB x.per 1 64 && inB x.bud 1 x.per && decide (x.ts.length ≤ 4) && x.ts.all fun t => mayC t x.bud

theorem anyNot {α : Type} (l : List α) (p : α → Bool) : (l.any fun x => !p x) = !l.all p := by
  induction l with
  | nil => rfl
  | cons x l ih => simp only [List.any_cons, List.all_cons, ih, Bool.not_and]
theorem partMay_c (x : Pt) (hx : x.ts.length ≤ 17592186044416) : PC fs ms f_conf_partMay [pt x] (.bool (partC x)) := by
  refine pc_of (by simp [clL, cl_pt]) rfl ?_
  refine vd_begin (af := C_conf_partMay) rfl (Nat.le_of_ble_eq_true rfl) ?_
  generalize hQ : (fun (v : AV) (_ : Heap) => v = .bool (partC x)) = Q
  set_option smartUnfolding false in conv => whnf
  refine vc_seq false ?_
  set_option smartUnfolding false in conv => whnf
  refine vc_frz [0] (i := 1) (v' := .fp (pt x).cells 0) rfl (.ptr' (by simp) rfl (.clean (show clL (pt x).cells = true by simp [pt, AV.cells, clL, AV.cl, cl_tks]))) ?_
  refine vc_to0 5 [(1, .fp (pt x).cells 0)] ?_ ?_
  · exact ⟨⟨_, rfl, .cl (by simp [AV.cl, clL, pt, AV.cells, cl_tks])⟩, trivial⟩
  refine vpC_sound (z := false) ?_
  have h1 := cfT_c (F := f_conf_partMay_1) (capt := [.fp (pt x).cells 0]) (p := fun t => !mayC t x.bud) x.k x.ts (by omega) (by simp [clL, AV.cl, pt, AV.cells, cl_tks]) (fun m _ => partMay1_c m x)
  rw [anyNot] at h1
  set_option smartUnfolding false in conv => whnf
  refine vd_pure (within_c x.per 1 64) ?_
  cases c1 : inB x.per 1 64 with
  | false =>
    set_option smartUnfolding false in conv => whnf
    subst hQ
    simp [partC, c1]
  | true =>
  set_option smartUnfolding false in conv => whnf
  refine vd_pure (within_c x.bud 1 x.per) ?_
  cases c2 : inB x.bud 1 x.per with
  | false =>
    set_option smartUnfolding false in conv => whnf
    subst hQ
    simp [partC, c1, c2]
  | true =>
  set_option smartUnfolding false in conv => whnf
  by_cases h4 : x.ts.length ≤ 4
  · refine brf (by rw [len_tks]; simp; omega) (fun hc => ?_)
    (try rw [hc])
    set_option smartUnfolding false in conv => whnf
    refine vd_pure h1 ?_
    set_option smartUnfolding false in conv => whnf
    subst hQ
    simp [partC, c1, c2, h4]
  · refine brt (by rw [len_tks]; simp; omega) (fun hc => ?_)
    (try rw [hc])
    set_option smartUnfolding false in conv => whnf
    subst hQ
    simp [partC, c1, c2, h4]

theorem confOne_c (x : Pt) (hx : x.ts.length ≤ 17592186044416) : PC fs ms f_conf_Check_1 [pt x] (.bool (!partC x)) := by
  refine pc_of (by simp [clL, cl_pt]) rfl ?_
  refine vd_start (af := C_conf_Check_1) false rfl (Nat.le_of_ble_eq_true rfl) ?_
  generalize hQ : (fun (v : AV) (_ : Heap) => v = .bool (!partC x)) = Q
  set_option smartUnfolding false in conv => whnf
  refine vd_pure (partMay_c x hx) ?_
  set_option smartUnfolding false in conv => whnf
  subst hQ
  rfl


/-- May a port be? -/
def mayO (o : Po) (n : Int) : Bool := (bif o.k == 1 then (o.d == 0 && inB o.a 1 64) else (bif o.k == 2 then (o.a == 0 && inB o.d 1 4) else false)) &&
  (inB o.f 0 (IntKind.i64.wrap (n - 1)) && (inB o.t 0 (IntKind.i64.wrap (n - 1)) && ((o.f != o.t) && inB o.s 1 16)))
theorem portMay_c (o : Po) (n : Int) : PC fs ms f_conf_portMay [po o, .int .i64 n] (.bool (mayO o n)) := by
  refine pc_of rfl rfl ?_
  refine vd_start (af := C_conf_portMay) false rfl (Nat.le_of_ble_eq_true rfl) ?_
  generalize hQ : (fun (v : AV) (_ : Heap) => v = .bool (mayO o n)) = Q
  set_option smartUnfolding false in conv => whnf
  iterate 14 (all_goals (first | (refine vd_pure (within_c _ _ _) ?_; set_option smartUnfolding false in conv => whnf) | (refine br (fun hc => ?_) (fun hc => ?_) <;> (try rw [hc]) <;> (set_option smartUnfolding false in conv => whnf)) | skip))
  all_goals (subst hQ; ((try simp only [Bool.not_eq_true', Bool.not_eq_false'] at *); simp only [mayO, *] <;> first | rfl | (simp; done) | (simp_all; done) | omega))
theorem confTwo_c (o : Po) (k ko : Nat) (L : List Pt) (O : List Po) : PC fs ms f_conf_Check_2 [po o, .fp [.fz k (pts L), .fz ko (pos O)] 0] (.bool (!mayO o (L.length : Nat))) := by
  refine pc_of (by simp [clL, AV.cl, cl_pts, cl_pos, po]) rfl ?_
  refine vd_start (af := C_conf_Check_2) false rfl (Nat.le_of_ble_eq_true rfl) ?_
  generalize hQ : (fun (v : AV) (_ : Heap) => v = .bool (!mayO o (L.length : Nat))) = Q
  set_option smartUnfolding false in conv => whnf
  rw [len_pts]
  refine vd_pure (portMay_c o _) ?_
  set_option smartUnfolding false in conv => whnf
  subst hQ
  rfl
def confC (L : List Pt) (O : List Po) : Bool := L.all partC && (O.all (fun o => mayO o (L.length : Nat)) && (inB (L.length : Nat) 1 4 && !decide (((O.length : Nat) : Int) > 8)))
def cfg (k : Nat) (L : List Pt) (ko : Nat) (O : List Po) : AV := .agg [.fz k (pts L), .fz ko (pos O)]
theorem cl_cfg (k : Nat) (L : List Pt) (ko : Nat) (O : List Po) : (cfg k L ko O).cl = true := by simp [cfg, AV.cl, clL, cl_pts, cl_pos]
theorem confCheck_c (k : Nat) (L : List Pt) (ko : Nat) (O : List Po) (hs : Small L) (ho : O.length ≤ 17592186044416) : PC fs ms f_conf_Check [cfg k L ko O] (.int .i64 (if confC L O = true then 0 else 50)) := by
  refine pc_of (by simp [clL, cl_cfg]) rfl ?_
  refine vd_begin (af := C_conf_Check) rfl (Nat.le_of_ble_eq_true rfl) ?_
  generalize hQ : (fun (v : AV) (_ : Heap) => v = .int .i64 (if confC L O = true then 0 else 50)) = Q
  set_option smartUnfolding false in conv => whnf
  refine vc_seq false ?_
  set_option smartUnfolding false in conv => whnf
  refine vc_frz [0] (i := 1) (v' := .fp [.fz k (pts L), .fz ko (pos O)] 0) rfl (.ptr' (by simp) rfl (.clean (by simp [cfg, AV.cells, clL, AV.cl, cl_pts, cl_pos]))) ?_
  refine vc_to0 5 [(1, .fp [.fz k (pts L), .fz ko (pos O)] 0)] ?_ ?_
  · exact ⟨⟨_, rfl, .cl (by simp [AV.cl, clL, cl_pts, cl_pos])⟩, trivial⟩
  refine vpC_sound (z := false) ?_
  have h1 := cfP_c (F := f_conf_Check_1) (capt := []) (p := fun x => !partC x) k L (by have := hs.1; omega) rfl (fun m hm => confOne_c m (hs.2 m hm))
  have h2 := cfO_c (F := f_conf_Check_2) (capt := [.fp [.fz k (pts L), .fz ko (pos O)] 0]) (p := fun o => !mayO o (L.length : Nat)) ko O (by omega) (by simp [AV.cl, clL, cl_pts, cl_pos]) (fun m hm => confTwo_c m k ko L O)
  rw [anyNot] at h1
  rw [anyNot] at h2
  have hk : ∀ (b : Bool) h, confC L O = b → Q (.int .i64 (if b = true then 0 else 50)) h := by subst hQ; intro b h hb; rw [hb]
  set_option smartUnfolding false in conv => whnf
  iterate 9 (all_goals (first | (refine vd_pure h1 ?_; set_option smartUnfolding false in conv => whnf) | (refine vd_pure h2 ?_; set_option smartUnfolding false in conv => whnf) | (refine vd_pure (within_c _ _ _) ?_; set_option smartUnfolding false in conv => whnf) | (refine br (fun hc => ?_) (fun hc => ?_) <;> (try rw [hc]) <;> (set_option smartUnfolding false in conv => whnf)) | skip))
  all_goals (try rw [len_pts] at *)
  all_goals (try rw [len_pos] at *)
  all_goals (clear h1 h2; first | (refine hk true _ ?_; clear hk hQ; ((try simp only [Bool.not_eq_true', Bool.not_eq_false'] at *); simp only [confC, *] <;> first | rfl | (simp; done) | (simp_all; done) | omega); done) | (refine hk false _ ?_; clear hk hQ; ((try simp only [Bool.not_eq_true', Bool.not_eq_false'] at *); simp only [confC, *] <;> first | rfl | (simp; done) | (simp_all; done) | omega); done))

/- The document's. -/
def mayR (t : Tk) (B : Int) : Bool := inB t.p 1 64 && (inB t.d 1 t.p && (inB t.w 1 t.d && (inB t.a 0 255 && inB t.c 0 4))) &&
  (!((t.a == 0 && t.b != 0) || (t.a != 0 && !inB t.b 1 t.w)) && (bif t.c == 0 then (t.e == 0 && t.f == 0) else (inB t.e 1 B && (inB t.f 1 t.w && decide (IntKind.i64.wrap (t.e * t.f) ≤ t.w)))))
end Ir
end Go.Proofs.Ytepdklcpagielaa
set_option maxRecDepth 100000
set_option linter.unusedSimpArgs false
set_option linter.unusedVariables false
namespace Go.Proofs.Ytepdklcpagielaa
open Go Ads
namespace Ir
end Ir
end Go.Proofs.Ytepdklcpagielaa
set_option maxRecDepth 100000
set_option linter.unusedSimpArgs false
set_option linter.unusedVariables false
namespace Go.Proofs.Ytepdklcpagielaa
open Go Ads
namespace Ads
theorem Frz.mono {P P' : Nat → Prop} (hp : ∀ b, P b → P' b) {g : Heap} {v v' : AV} (h : Frz P g v v') : Frz P' g v v' := by
  induction h with
  | clean h => exact .clean h
  | agg h _ ih => exact .agg h ih
  | tup h _ ih => exact .tup h ih
  | iface _ ih => exact .iface ih
  | nils => exact .nils
  | func h _ h' _ ih ih' => exact .func h ih h' ih'
  | ptr hb hg ho hl _ ih => exact .ptr (hp _ hb) hg ho hl ih
  | sl hb hg hs hn hl hc hk h1 h2 _ ih => exact .sl (hp _ hb) hg hs hn hl hc hk h1 h2 ih
end Ads
namespace Ir
theorem size_pts (l : List Pt) : allSize 3 (pts l) = true := allSize_map (enc := pt) (fun _ => rfl) l
/-- A partition's copy. -/
def cpP (x : Pt) : Pt := { x with k := growK x.ts.length }
/-- A configuration whose copy has room. -/
structure Fits (L : List Pt) (O : List Po) : Prop where
  parts : L.length * 40 ≤ 140737488355328
  tasks : ∀ x ∈ L, x.ts.length * 64 ≤ 140737488355328
  ports : O.length * 48 ≤ 140737488355328
theorem Fits.small {L : List Pt} {O : List Po} (h : Fits L O) : Small L := ⟨by have := h.parts; omega, fun x hx => by have := h.tasks x hx; omega⟩

end Ir
end Go.Proofs.Ytepdklcpagielaa
set_option maxRecDepth 100000
set_option linter.unusedSimpArgs false
set_option linter.unusedVariables false
namespace Go.Proofs.Ytepdklcpagielaa
open Go Ads
namespace Ir
end Ir
end Go.Proofs.Ytepdklcpagielaa
