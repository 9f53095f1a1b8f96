/-
  Delay: Check of both.
-/
import Derived.Test.YtlndlbngfgaoeaaVDelA
set_option maxRecDepth 100000
set_option linter.unusedSimpArgs false
set_option linter.unusedVariables false
namespace Go.Proofs.Ytlndlbngfgaoeaa
open Go Ads
namespace Ir

structure Pt where
  per : Int
  bud : Int
  k : Nat
  ts : List Tk
def pt (x : Pt) : AV := .agg [.int .i64 x.per, .int .i64 x.bud, .fz x.k (tks x.ts)]
def pts (l : List Pt) : List AV := l.map pt
theorem cl_pt (x : Pt) : (pt x).cl = true := by simp [pt, AV.cl, clL, cl_tks]
theorem cl_pts (l : List Pt) : clL (pts l) = true := clL_map (enc := pt) cl_pt l
theorem len_pts (l : List Pt) : (pts l).length = l.length := List.length_map ..
theorem idx_pt {l : List Pt} {j k : Nat} (hj : j < l.length) : pV (.iaddrS 3) [.fz k (pts l), .int .i64 (j : Nat)] = some (.fp (pt l[j]).cells 0) := idx_map (enc := pt) hj rfl

def partIn (x : Pt) : Prop := 1 ≤ x.per ∧ x.per ≤ 64 ∧ 1 ≤ x.bud ∧ x.bud ≤ x.per
instance (x : Pt) : Decidable (partIn x) := by unfold partIn; infer_instance
def partOk (x : Pt) : Bool := decide (partIn x) && (tasksOk x.ts && x.ts.all fun t => mayD t x.bud)
def delCheck (l : List Pt) : Int := if l.length ≤ 4 ∧ l.all partOk = true then 0 else 2
theorem delCheck_bad {l : List Pt} {j : Nat} (hj : j < l.length) (h : partOk l[j] = false) : delCheck l = 2 := by
  rw [delCheck, if_neg]
  rintro ⟨_, x⟩
  rw [List.all_eq_true] at x
  rw [x _ (List.getElem_mem hj)] at h
  exact absurd h (by decide)
/-- Rows of tasks that are no longer than they may be. -/
def Small (l : List Pt) : Prop := l.length ≤ 17592186044416 ∧ ∀ x, x ∈ l → x.ts.length ≤ 17592186044416

theorem demCheck_zero (l : List Tk) : demCheck l (List.replicate l.length 0) = if tasksOk l = true then 0 else 2 := by
  have : (List.replicate l.length (0 : Int)).any moreBad = false := by
    rw [List.any_eq_false]
    intro m hm
    rw [(List.mem_replicate.1 hm).2]
    decide
  unfold demCheck
  by_cases h : tasksOk l = true
  · rw [if_pos ⟨this, h, by simp⟩, if_pos h]
  · rw [if_neg (fun x => h x.2.1), if_neg h]

theorem check1_c (t : Tk) (x : Pt) (h : taskOk t = true) : PC fs ms f_delay_Check_1 [tk t, .fp (pt x).cells 0] (.bool (!mayD t x.bud)) := by
  refine pc_of (by simp [clL, AV.cl, tk, pt, AV.cells, cl_tks]) rfl ?_
  refine vd_start (af := C_delay_Check_1) false rfl (Nat.le_of_ble_eq_true rfl) ?_
  generalize hQ : (fun (v : AV) (_ : Heap) => v = .bool (!mayD t x.bud)) = Q
  set_option smartUnfolding false in conv => whnf
  refine vd_pure (may9_c t x.bud h) ?_
  set_option smartUnfolding false in conv => whnf
  subst hQ
  rfl

theorem dcheck9_c (k : Nat) (l : List Pt) (hs : Small l) : PC fs ms f_delay_Check [.fz k (pts l)] (.int .i64 (delCheck l)) := by
  refine pc_of (by simp [clL, AV.cl, cl_pts]) rfl ?_
  refine vd_start (af := C_delay_Check) false rfl (Nat.le_of_ble_eq_true rfl) ?_
  generalize hQ : (fun (v : AV) (_ : Heap) => v = .int .i64 (delCheck l)) = Q
  set_option smartUnfolding false in conv => whnf
  refine br (fun hc => ?_) (fun hc => ?_) <;> (try rw [hc]) <;> (set_option smartUnfolding false in conv => whnf)
  · subst hQ
    have := of_decide_eq_true hc
    rw [len_pts] at this
    rw [delCheck, if_neg (by omega)]
  · have hl4 : l.length ≤ 4 := by
      have := of_decide_eq_false hc
      rw [len_pts] at this
      omega
    refine vc_to0 5 [(9, .fz k (pts l)), (10, .int .i64 (pts l).length), (11, .int .i64 ((0 : Nat) : Int))] (by repeat' (first | exact trivial | refine renAt_sl rfl (by omega) ?_ | refine renAt_ptr rfl (by omega) ?_ | refine renAt_yield rfl (by omega) ?_ | refine renAt_cl rfl (by first | rfl | simp [clL, AV.cl, cl_ints, cl_pts]) ?_ | refine renAt_cl (inc_slot (by omega)) rfl ?_)) ?_
    refine for_row 5 l.length (fun j => (l.take j).all partOk = true) (fun j => [(9, .fz k (pts l)), (10, .int .i64 (pts l).length), (11, .int .i64 (j : Nat))]) ?_ ?_ rfl
    · intro j hj hi
      have hts := hs.2 _ (List.getElem_mem hj)
      have hbad := fun h => delCheck_bad (l := l) hj h
      have hgood := fun h => all_next (p := partOk) hj hi h
      have hix := idx_pt (k := k) hj
      generalize l[j] = x at *
      set_option smartUnfolding false in conv => whnf
      refine br (fun hc => ?_) (fun hc => ?_) <;> (try rw [hc]) <;> (set_option smartUnfolding false in conv => whnf)
      · refine ⟨_, hix, ?_⟩
        set_option smartUnfolding false in conv => whnf
        by_cases hx : partIn x
        · have hx' := hx
          obtain ⟨x1, x2, x3, x4⟩ := hx'
          refine brf (by simp; omega) (fun hc => ?_)
          (try rw [hc])
          set_option smartUnfolding false in conv => whnf
          refine brf (by simp; omega) (fun hc => ?_)
          (try rw [hc])
          set_option smartUnfolding false in conv => whnf
          refine brf (by simp; omega) (fun hc => ?_)
          (try rw [hc])
          set_option smartUnfolding false in conv => whnf
          refine brf (by simp; omega) (fun hc => ?_)
          (try rw [hc])
          set_option smartUnfolding false in conv => whnf
          refine ⟨_, _, by rw [len_tks]; exact mk_ints (by omega), ?_⟩
          set_option smartUnfolding false in conv => whnf
          refine vd_view (check_c x.k 2 x.ts (List.replicate x.ts.length 0) (by omega) (by simp; omega)) rfl (.cons (.clean (by simp [AV.cl, cl_tks])) (.cons (.row (s := 1) trivial rfl (flat_ints _).symm (size_ints _) (by simp [ints]) (Nat.le_refl _) (by omega) (fun _ => rfl) (fun _ => rfl) (cl_ints _)) .nil)) ?_
          rw [demCheck_zero]
          by_cases ht : tasksOk x.ts = true
          · rw [if_pos ht]
            set_option smartUnfolding false in conv => whnf
            have htk : ∀ t, t ∈ x.ts → taskOk t = true := by
              simp only [tasksOk, Bool.and_eq_true, List.all_eq_true] at ht
              exact ht.1
            refine vd_view (cfT_c (p := fun t => !mayD t x.bud) (capt := [.fp (pt x).cells 0]) x.k x.ts (by omega) (by simp [clL, AV.cl, pt, AV.cells, cl_tks]) (fun t ht => check1_c t x (htk t ht))) rfl
              (.cons (.clean (by simp [AV.cl, cl_tks])) (.cons (.func' .nil (.cons (.ptr' trivial rfl (.clean (l := (pt x).cells) (cells_cl (cl_pt x)))) .nil)) .nil)) ?_
            cases ha : x.ts.any (fun t => !mayD t x.bud) with
            | true =>
              set_option smartUnfolding false in conv => whnf
              subst hQ
              rw [hbad]
              rw [List.any_eq_true] at ha
              obtain ⟨t, h1, h2⟩ := ha
              rw [partOk, Bool.and_eq_false_iff, Bool.and_eq_false_iff]
              refine .inr (.inr ?_)
              rw [List.all_eq_false]
              exact ⟨t, h1, by simpa using h2⟩
            | false =>
              set_option smartUnfolding false in conv => whnf
              refine ⟨hgood ?_, (by repeat' (first | exact trivial | refine renAt_sl rfl (by omega) ?_ | refine renAt_ptr rfl (by omega) ?_ | refine renAt_yield rfl (by omega) ?_ | refine renAt_cl rfl (by first | rfl | simp [clL, AV.cl, cl_ints, cl_pts]) ?_ | refine renAt_cl (inc_slot (by omega)) rfl ?_))⟩
              rw [List.any_eq_false] at ha
              simp only [partOk, decide_eq_true hx, ht, Bool.true_and]
              rw [List.all_eq_true]
              intro t h1
              have := ha t h1
              simpa using this
          · rw [if_neg ht]
            set_option smartUnfolding false in conv => whnf
            subst hQ
            rw [hbad (by simp [partOk, ht])]
        · have hb : delCheck l = 2 := hbad (by simp [partOk, hx])
          unfold partIn at hx
          iterate 5 (all_goals (first | (refine br (fun hc => ?_) (fun hc => ?_) <;> (try rw [hc]) <;> (set_option smartUnfolding false in conv => whnf)) | skip))
          all_goals first
            | (subst hQ; rw [hb]; done)
            | (exfalso; simp at *; omega)
      · exfalso
        have := of_decide_eq_false hc
        simp only [len_pts] at this
        omega
    · intro hi
      rw [List.take_length] at hi
      set_option smartUnfolding false in conv => whnf
      refine br (fun hc => ?_) (fun hc => ?_) <;> (try rw [hc]) <;> (set_option smartUnfolding false in conv => whnf)
      · exfalso
        have := of_decide_eq_true hc
        simp only [len_pts] at this
        omega
      · subst hQ
        rw [delCheck, if_pos ⟨hl4, hi⟩]
end Ir
end Go.Proofs.Ytlndlbngfgaoeaa
