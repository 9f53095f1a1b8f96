/-
  Delay: the document's wait; of; Wait of both.
-/
import Derived.Test.YtbmnehpppegecaaVDelD
set_option maxRecDepth 100000
set_option linter.unusedSimpArgs false
set_option linter.unusedVariables false
namespace Go.Proofs.Ytbmnehpppegecaa
open Go Ads
namespace Ir

theorem any_yes {α : Type} {l : List α} {p : α → Bool} {j : Nat} (hj : j < l.length) (h : p l[j] = true) : l.any p = true := List.any_eq_true.2 ⟨l[j], List.getElem_mem hj, h⟩
theorem any_step {α : Type} {l : List α} {p : α → Bool} {j : Nat} (hj : j < l.length) (hi : (l.take j).any p = false) (h : p l[j] = false) : (l.take (j + 1)).any p = false := by
  rw [take_next hj, List.any_append, hi]; simp [h]

theorem uses_c (x : Pt) (g : Int) (hs : x.ts.length ≤ 17592186044416) : PC fs ms f_escapementref09_uses [pt x, .int .i64 g] (.bool (usesP x g)) := by
  refine pc_of (by simp [clL, cl_pt]; rfl) rfl ?_
  refine vd_start (af := C_escapementref09_uses) false rfl (Nat.le_of_ble_eq_true rfl) ?_
  generalize hQ : (fun (v : AV) (_ : Heap) => v = .bool (usesP x g)) = Q
  set_option smartUnfolding false in conv => whnf
  refine vc_frz [0] (i := 2) (v' := .fp (pt x).cells 0) rfl (.ptr' (by simp) rfl (.clean (l := (pt x).cells) (cells_cl (cl_pt x)))) ?_
  refine vc_to0 5 [(1, .int .i64 g), (2, .fp (pt x).cells 0), (5, .int .i64 ((0 : Nat) : Int))] (by repeat' (first | exact trivial | refine renAt_sl rfl (by omega) ?_ | refine renAt_ptr rfl (by omega) ?_ | refine renAt_yield rfl (by omega) ?_ | refine renAt_cl rfl (by first | rfl | simp [clL, AV.cl, cl_ints, cells_cl (cl_pt x)]) ?_ | refine renAt_cl (inc_slot (by omega)) rfl ?_)) ?_
  refine for_row 5 x.ts.length (fun i => (x.ts.take i).any (fun t => t.c == g) = false) (fun i => [(1, .int .i64 g), (2, .fp (pt x).cells 0), (5, .int .i64 (i : Nat))]) ?_ ?_ rfl
  · intro i hi hall
    set_option smartUnfolding false in conv => whnf
    refine brt (by rw [len_tks]; simp; omega) (fun hc => ?_)
    (try rw [hc])
    set_option smartUnfolding false in conv => whnf
    refine ⟨_, idx_tk hi, ?_⟩
    set_option smartUnfolding false in conv => whnf
    cases hm : (x.ts[i].c == g) with
    | true =>
      set_option smartUnfolding false in conv => whnf
      subst hQ
      rw [usesP, any_yes (p := fun t => t.c == g) hi hm]
    | false =>
      set_option smartUnfolding false in conv => whnf
      exact ⟨any_step (p := fun t => t.c == g) hi hall hm, (by repeat' (first | exact trivial | refine renAt_sl rfl (by omega) ?_ | refine renAt_ptr rfl (by omega) ?_ | refine renAt_yield rfl (by omega) ?_ | refine renAt_cl rfl (by first | rfl | simp [clL, AV.cl, cl_ints, cells_cl (cl_pt x)]) ?_ | refine renAt_cl (inc_slot (by omega)) rfl ?_))⟩
  · intro hall
    rw [List.take_length] at hall
    set_option smartUnfolding false in conv => whnf
    refine brf (by rw [len_tks]; simp) (fun hc => ?_)
    (try rw [hc])
    set_option smartUnfolding false in conv => whnf
    subst hQ
    rw [usesP, hall]

theorem rwait_c (k : Nat) (l : List Pt) (a : Int) (t : Tk) (h0 : 0 ≤ t.c) (hs : Small l) : PC fs ms f_escapementref09_wait [.fz k (pts l), .int .i64 a, tk t] (.int .i64 (waitS l a t)) := by
  refine pc_of (by simp [clL, AV.cl, cl_pts]; rfl) rfl ?_
  refine vd_start (af := C_escapementref09_wait) false rfl (Nat.le_of_ble_eq_true rfl) ?_
  generalize hQ : (fun (v : AV) (_ : Heap) => v = .int .i64 (waitS l a t)) = Q
  have hs1 := hs.1
  set_option smartUnfolding false in conv => whnf
  refine vc_frz [0] (i := 5) (v' := .fp (tk t).cells 0) rfl (.ptr' (by simp) rfl (.clean (l := (tk t).cells) rfl)) ?_
  refine vc_to0 5 [(0, .fz k (pts l)), (1, .int .i64 a), (5, .fp (tk t).cells 0), (7, .int .i64 (if t.c = 0 then 0 else waitN l a t.c 0)), (8, .int .i64 ((0 : Nat) : Int))]
    (by refine ⟨⟨_, rfl, .cl (by simp [AV.cl, cl_pts])⟩, ⟨_, rfl, .cl rfl⟩, ⟨_, rfl, .cl rfl⟩, ⟨_, congrArg (fun b => some (AV.int .i64 b)) (by simp [waitN]), .cl rfl⟩, ⟨_, rfl, .cl rfl⟩, trivial⟩) ?_
  refine for_row 5 l.length (fun _ => True) (fun j => [(0, .fz k (pts l)), (1, .int .i64 a), (5, .fp (tk t).cells 0), (7, .int .i64 (if t.c = 0 then 0 else waitN l a t.c j)), (8, .int .i64 (j : Nat))]) ?_ ?_ trivial
  · intro j hj _
    have hts := hs.2 _ (List.getElem_mem hj)
    have hn := waitN_next (a := a) (g := t.c) hj
    have hix := idx_pt (k := k) hj
    generalize l[j] = y at *
    by_cases hc0 : t.c = 0
    · simp only [hc0, if_true]
      set_option smartUnfolding false in conv => whnf
      refine brt (by rw [len_pts]; simp; omega) (fun hc => ?_)
      (try rw [hc])
      set_option smartUnfolding false in conv => whnf
      refine brf (by simp; omega) (fun hc => ?_)
      (try rw [hc])
      set_option smartUnfolding false in conv => whnf
      exact ⟨trivial, (by repeat' (first | exact trivial | refine renAt_sl rfl (by omega) ?_ | refine renAt_ptr rfl (by omega) ?_ | refine renAt_yield rfl (by omega) ?_ | refine renAt_cl rfl (by first | rfl | simp [clL, AV.cl, cl_ints, cl_pts]) ?_ | refine renAt_cl (inc_slot (by omega)) rfl ?_))⟩
    · simp only [if_neg hc0]
      by_cases hja : (j : Int) ≠ a
      · cases hu : usesP y t.c with
        | true =>
          rw [if_pos ⟨hja, hu⟩] at hn
          set_option smartUnfolding false in conv => whnf
          refine brt (by rw [len_pts]; simp; omega) (fun hc => ?_)
          (try rw [hc])
          set_option smartUnfolding false in conv => whnf
          refine brt (by simp; omega) (fun hc => ?_)
          (try rw [hc])
          set_option smartUnfolding false in conv => whnf
          refine brt (by simpa using hja) (fun hc => ?_)
          (try rw [hc])
          set_option smartUnfolding false in conv => whnf
          refine ⟨_, hix, ?_⟩
          set_option smartUnfolding false in conv => whnf
          refine vd_pure (uses_c y t.c hts) ?_
          rw [hu]
          set_option smartUnfolding false in conv => whnf
          refine ⟨_, hix, ?_⟩
          set_option smartUnfolding false in conv => whnf
          refine ⟨trivial, ⟨_, rfl, .cl (by simp [AV.cl, cl_pts])⟩, ⟨_, rfl, .cl rfl⟩, ⟨_, rfl, .cl rfl⟩, ⟨_, congrArg (fun b => some (AV.int .i64 b)) hn.symm, .cl rfl⟩, ⟨_, inc_slot (by omega), .cl rfl⟩, trivial⟩
        | false =>
          rw [if_neg (by rintro ⟨_, z⟩; rw [hu] at z; exact absurd z (by decide))] at hn
          set_option smartUnfolding false in conv => whnf
          refine brt (by rw [len_pts]; simp; omega) (fun hc => ?_)
          (try rw [hc])
          set_option smartUnfolding false in conv => whnf
          refine brt (by simp; omega) (fun hc => ?_)
          (try rw [hc])
          set_option smartUnfolding false in conv => whnf
          refine brt (by simpa using hja) (fun hc => ?_)
          (try rw [hc])
          set_option smartUnfolding false in conv => whnf
          refine ⟨_, hix, ?_⟩
          set_option smartUnfolding false in conv => whnf
          refine vd_pure (uses_c y t.c hts) ?_
          rw [hu]
          set_option smartUnfolding false in conv => whnf
          refine ⟨trivial, ⟨_, rfl, .cl (by simp [AV.cl, cl_pts])⟩, ⟨_, rfl, .cl rfl⟩, ⟨_, rfl, .cl rfl⟩, ⟨_, congrArg (fun b => some (AV.int .i64 b)) hn.symm, .cl rfl⟩, ⟨_, inc_slot (by omega), .cl rfl⟩, trivial⟩
      · rw [if_neg (fun z => hja z.1)] at hn
        set_option smartUnfolding false in conv => whnf
        refine brt (by rw [len_pts]; simp; omega) (fun hc => ?_)
        (try rw [hc])
        set_option smartUnfolding false in conv => whnf
        refine brt (by simp; omega) (fun hc => ?_)
        (try rw [hc])
        set_option smartUnfolding false in conv => whnf
        refine brf (by simpa using hja) (fun hc => ?_)
        (try rw [hc])
        set_option smartUnfolding false in conv => whnf
        refine ⟨trivial, ⟨_, rfl, .cl (by simp [AV.cl, cl_pts])⟩, ⟨_, rfl, .cl rfl⟩, ⟨_, rfl, .cl rfl⟩, ⟨_, congrArg (fun b => some (AV.int .i64 b)) hn.symm, .cl rfl⟩, ⟨_, inc_slot (by omega), .cl rfl⟩, trivial⟩
  · intro _
    set_option smartUnfolding false in conv => whnf
    refine brf (by rw [len_pts]; simp) (fun hc => ?_)
    (try rw [hc])
    set_option smartUnfolding false in conv => whnf
    subst hQ
    rfl

theorem delCheck_or (l : List Pt) : delCheck l = 0 ∨ delCheck l = 2 := by unfold delCheck; split <;> simp
/-- A partition among all that is none. -/
def sn0 : AV := .agg [.int .i64 0, .int .i64 0, .nils, .nils, .int .i64 0]
def pr9 (p : Int × Int) : AV := .tup [.int .i64 p.1, .int .i64 p.2]

theorem of_bad (k : Nat) (l : List Pt) (a : Int) (hs : Small l) (h : delCheck l = 2) : PC fs ms f_delay_of [.fz k (pts l), .int .i64 a] (.tup [sn0, .int .i64 2]) := by
  refine pc_of (by simp [clL, AV.cl, cl_pts]) rfl ?_
  refine vd_start (af := C_delay_of) false rfl (Nat.le_of_ble_eq_true rfl) ?_
  generalize hQ : (fun (v : AV) (_ : Heap) => v = .tup [sn0, .int .i64 2]) = Q
  set_option smartUnfolding false in conv => whnf
  refine vd_pure (dcheck9_c k l hs) ?_
  rw [h]
  set_option smartUnfolding false in conv => whnf
  subst hQ
  rfl
theorem of_out (k : Nat) (l : List Pt) (a : Int) (hs : Small l) (h : delCheck l = 0) (ha : a < 0 ∨ l.length ≤ a) : PC fs ms f_delay_of [.fz k (pts l), .int .i64 a] (.tup [sn0, .int .i64 9]) := by
  refine pc_of (by simp [clL, AV.cl, cl_pts]) rfl ?_
  refine vd_start (af := C_delay_of) false rfl (Nat.le_of_ble_eq_true rfl) ?_
  generalize hQ : (fun (v : AV) (_ : Heap) => v = .tup [sn0, .int .i64 9]) = Q
  set_option smartUnfolding false in conv => whnf
  refine vd_pure (dcheck9_c k l hs) ?_
  rw [h]
  set_option smartUnfolding false in conv => whnf
  by_cases h0 : a < 0
  · refine brt (by simp; omega) (fun hc => ?_)
    (try rw [hc])
    set_option smartUnfolding false in conv => whnf
    subst hQ
    rfl
  · refine brf (by simp; omega) (fun hc => ?_)
    (try rw [hc])
    set_option smartUnfolding false in conv => whnf
    refine brt (by rw [len_pts]; simp; omega) (fun hc => ?_)
    (try rw [hc])
    set_option smartUnfolding false in conv => whnf
    subst hQ
    rfl
theorem of_ok (k : Nat) (l : List Pt) (i : Nat) (hs : Small l) (h : delCheck l = 0) (hi : i < l.length) : PC fs ms f_delay_of [.fz k (pts l), .int .i64 (i : Nat)] (.tup [sn l[i] k l (i : Nat), .int .i64 0]) := by
  refine pc_of (by simp [clL, AV.cl, cl_pts]) (by simp [clL, AV.cl, cl_sn]) ?_
  refine vd_start (af := C_delay_of) false rfl (Nat.le_of_ble_eq_true rfl) ?_
  generalize hQ : (fun (v : AV) (_ : Heap) => v = .tup [sn l[i] k l (i : Nat), .int .i64 0]) = Q
  set_option smartUnfolding false in conv => whnf
  refine vd_pure (dcheck9_c k l hs) ?_
  rw [h]
  set_option smartUnfolding false in conv => whnf
  refine brf (by rw [len_pts]; simp; omega) (fun hc => ?_)
  (try rw [hc])
  set_option smartUnfolding false in conv => whnf
  refine ⟨_, idx_pt hi, ?_⟩
  set_option smartUnfolding false in conv => whnf
  subst hQ
  rfl

/-- How long a task waits: of a partition and of a task by number. -/
def dWait (l : List Pt) (a n : Int) : Int × Int := if delCheck l = 2 then (0, 2) else if a < 0 then (0, 9) else match l[a.toNat]? with
  | none => (0, 9)
  | some x => if n < 0 then (0, 9) else match x.ts[n.toNat]? with
    | none => (0, 9)
    | some t => (waitS l a t, 0)

theorem dWait_c (k : Nat) (l : List Pt) (a n : Int) (hs : Small l) : PC fs ms f_delay_Wait [.fz k (pts l), .int .i64 a, .int .i64 n] (pr9 (dWait l a n)) := by
  refine pc_of (by simp [clL, AV.cl, cl_pts]) rfl ?_
  refine vd_start (af := C_delay_Wait) false rfl (Nat.le_of_ble_eq_true rfl) ?_
  generalize hQ : (fun (v : AV) (_ : Heap) => v = pr9 (dWait l a n)) = Q
  set_option smartUnfolding false in conv => whnf
  rcases delCheck_or l with h | h
  · by_cases ha : a < 0 ∨ l.length ≤ a
    · refine vd_pure (of_out k l a hs h ha) ?_
      set_option smartUnfolding false in conv => whnf
      subst hQ
      rw [dWait, if_neg (by omega)]
      by_cases h0 : a < 0
      · rw [if_pos h0]; rfl
      · rw [if_neg h0, List.getElem?_eq_none (by omega)]; rfl
    · obtain ⟨i, rfl⟩ := Int.eq_ofNat_of_zero_le (show 0 ≤ a by omega)
      have hi : i < l.length := by omega
      have hti : ((i : Int)).toNat = i := rfl
      refine vd_pure (of_ok k l i hs h hi) ?_
      have hts := hs.2 _ (List.getElem_mem hi)
      set_option smartUnfolding false in conv => whnf
      by_cases h0 : n < 0
      · refine brt (by simp; omega) (fun hc => ?_)
        (try rw [hc])
        set_option smartUnfolding false in conv => whnf
        subst hQ
        rw [dWait, if_neg (by omega), if_neg (by omega), hti, List.getElem?_eq_getElem hi]
        simp only [if_pos h0]
        rfl
      · refine brf (by simp; omega) (fun hc => ?_)
        (try rw [hc])
        set_option smartUnfolding false in conv => whnf
        obtain ⟨m, rfl⟩ := Int.eq_ofNat_of_zero_le (show 0 ≤ n by omega)
        have htm : ((m : Int)).toNat = m := rfl
        by_cases hm : m < l[i].ts.length
        · refine brf (by rw [len_tks]; simp; omega) (fun hc => ?_)
          (try rw [hc])
          set_option smartUnfolding false in conv => whnf
          refine ⟨_, idx_tk hm, ?_⟩
          set_option smartUnfolding false in conv => whnf
          refine vd_pure (wait9_c _ k l _ _ hs) ?_
          set_option smartUnfolding false in conv => whnf
          subst hQ
          rw [dWait, if_neg (by omega), if_neg (by omega), hti, List.getElem?_eq_getElem hi]
          simp only [if_neg h0, htm, List.getElem?_eq_getElem hm]
          rfl
        · refine brt (by rw [len_tks]; simp; omega) (fun hc => ?_)
          (try rw [hc])
          set_option smartUnfolding false in conv => whnf
          subst hQ
          rw [dWait, if_neg (by omega), if_neg (by omega), hti, List.getElem?_eq_getElem hi]
          simp only [if_neg h0, htm, List.getElem?_eq_none (show l[i].ts.length ≤ m by omega)]
          rfl
  · refine vd_pure (of_bad k l a hs h) ?_
    set_option smartUnfolding false in conv => whnf
    subst hQ
    rw [dWait, if_pos h]
    rfl

/-- In partitions that may be asked tasks may. -/
theorem part_c {l : List Pt} (h : delCheck l = 0) {x : Pt} (hx : x ∈ l) {t : Tk} (ht : t ∈ x.ts) : partIn x ∧ taskOk t = true ∧ mayD t x.bud = true := by
  unfold delCheck at h
  split at h
  · rename_i hh
    have := List.all_eq_true.1 hh.2 x hx
    simp only [partOk, Bool.and_eq_true, decide_eq_true_eq, List.all_eq_true, tasksOk] at this
    exact ⟨this.1, this.2.1.1 t ht, this.2.2 t ht⟩
  · simp at h
theorem mayD_in {t : Tk} {B : Int} (h : mayD t B = true) : 0 ≤ t.b ∧ t.b ≤ t.w ∧ 0 ≤ t.c ∧ t.c ≤ 4 ∧ ((t.c = 0 ∧ t.e = 0 ∧ t.f = 0) ∨ (t.c ≠ 0 ∧ 1 ≤ t.e ∧ t.e ≤ B ∧ 1 ≤ t.f ∧ t.e * t.f ≤ t.w)) := by simpa [mayD] using h

theorem rWait_c (k : Nat) (l : List Pt) (a n : Int) (hs : Small l) : PC fs ms f_escapementref09_Wait [.fz k (pts l), .int .i64 a, .int .i64 n] (pr9 (dWait l a n)) := by
  refine pc_of (by simp [clL, AV.cl, cl_pts]) rfl ?_
  refine vd_start (af := C_escapementref09_Wait) false rfl (Nat.le_of_ble_eq_true rfl) ?_
  generalize hQ : (fun (v : AV) (_ : Heap) => v = pr9 (dWait l a n)) = Q
  set_option smartUnfolding false in conv => whnf
  refine vd_pure (rcheck9_c k l hs) ?_
  rcases delCheck_or l with h | h
  · rw [h]
    set_option smartUnfolding false in conv => whnf
    by_cases h0 : a < 0
    · refine brt (by simp; omega) (fun hc => ?_)
      (try rw [hc])
      set_option smartUnfolding false in conv => whnf
      subst hQ
      rw [dWait, if_neg (by omega), if_pos h0]
      rfl
    · refine brf (by simp; omega) (fun hc => ?_)
      (try rw [hc])
      set_option smartUnfolding false in conv => whnf
      obtain ⟨i, rfl⟩ := Int.eq_ofNat_of_zero_le (show 0 ≤ a by omega)
      have hti : ((i : Int)).toNat = i := rfl
      by_cases hi : i < l.length
      · refine brf (by rw [len_pts]; simp; omega) (fun hc => ?_)
        (try rw [hc])
        set_option smartUnfolding false in conv => whnf
        have hts := hs.2 _ (List.getElem_mem hi)
        by_cases hn0 : n < 0
        · refine brt (by simp; omega) (fun hc => ?_)
          (try rw [hc])
          set_option smartUnfolding false in conv => whnf
          subst hQ
          rw [dWait, if_neg (by omega), if_neg (by omega), hti, List.getElem?_eq_getElem hi]
          simp only [if_pos hn0]
          rfl
        · refine brf (by simp; omega) (fun hc => ?_)
          (try rw [hc])
          set_option smartUnfolding false in conv => whnf
          refine ⟨_, idx_pt hi, ?_⟩
          set_option smartUnfolding false in conv => whnf
          obtain ⟨m, rfl⟩ := Int.eq_ofNat_of_zero_le (show 0 ≤ n by omega)
          have htm : ((m : Int)).toNat = m := rfl
          by_cases hm : m < l[i].ts.length
          · refine brf (by rw [len_tks]; simp; omega) (fun hc => ?_)
            (try rw [hc])
            set_option smartUnfolding false in conv => whnf
            refine ⟨_, idx_pt hi, ?_⟩
            set_option smartUnfolding false in conv => whnf
            refine ⟨_, idx_tk hm, ?_⟩
            set_option smartUnfolding false in conv => whnf
            have hpc := part_c h (List.getElem_mem hi) (List.getElem_mem hm)
            refine vd_pure (rwait_c k l _ _ (by have := mayD_in hpc.2.2; omega) hs) ?_
            set_option smartUnfolding false in conv => whnf
            subst hQ
            rw [dWait, if_neg (by omega), if_neg (by omega), hti, List.getElem?_eq_getElem hi]
            simp only [if_neg hn0, htm, List.getElem?_eq_getElem hm]
            rfl
          · refine brt (by rw [len_tks]; simp; omega) (fun hc => ?_)
            (try rw [hc])
            set_option smartUnfolding false in conv => whnf
            subst hQ
            rw [dWait, if_neg (by omega), if_neg (by omega), hti, List.getElem?_eq_getElem hi]
            simp only [if_neg hn0, htm, List.getElem?_eq_none (show l[i].ts.length ≤ m by omega)]
            rfl
      · refine brt (by rw [len_pts]; simp; omega) (fun hc => ?_)
        (try rw [hc])
        set_option smartUnfolding false in conv => whnf
        subst hQ
        rw [dWait, if_neg (by omega), if_neg (by omega), hti, List.getElem?_eq_none (by omega)]
        rfl
  · rw [h]
    set_option smartUnfolding false in conv => whnf
    subst hQ
    rw [dWait, if_pos h]
    rfl
end Ir
end Go.Proofs.Ytbmnehpppegecaa
