/-
  The contracts of layer 1, over rows as values: EqInts, CopyInts, Contains; each, add, multiple; Sum, Lcm.
-/
import Derived.Test.YtflmbknimebmnaaVTicksB
set_option maxRecDepth 100000
set_option linter.unusedSimpArgs false
set_option linter.unusedVariables false
namespace Go.Proofs.Ytflmbknimebmnaa
open Go Ads
namespace Ir

theorem eqInts_c (k k' : Nat) (a b : List Int) (hl : a.length < 2 ^ 62) (hl' : b.length < 2 ^ 62) : PC fs ms f_escapementref00_EqInts [.fz k (ints a), .fz k' (ints b)] (.bool (a == b)) := by
  refine pc_of (by simp [clL, AV.cl, cl_ints]) rfl ?_
  refine vd_start (af := C_escapementref00_EqInts) false rfl (Nat.le_of_ble_eq_true rfl) ?_
  generalize hQ : (fun (u : AV) (_ : Heap) => u = .bool (a == b)) = Q
  conv => whnf
  refine br (fun hc => ?_) (fun hc => ?_) <;> (try rw [hc]) <;> (conv => whnf)
  · subst hQ
    simp [len_ints] at hc
    have : (a == b) = false := by
      rw [beq_eq_false_iff_ne]
      rintro rfl
      simp at hc
    rw [this]
  · have hab : a.length = b.length := by simp [len_ints] at hc; omega
    refine vc_to0 5 [(5, .int .i64 (0 : Nat)), (0, .fz k (ints a)), (1, .fz k' (ints b))] (by repeat' (first | exact trivial | refine renAt_sl rfl (by omega) ?_ | refine renAt_ptr rfl (by omega) ?_ | refine renAt_yield rfl (by omega) ?_ | refine renAt_cl rfl (by first | rfl | simp [clL, AV.cl, cl_ints]) ?_ | refine renAt_cl (inc_slot (by omega)) rfl ?_)) ?_
    refine for_row 5 a.length (fun j => a.take j = b.take j) (fun j => [(5, .int .i64 (j : Nat)), (0, .fz k (ints a)), (1, .fz k' (ints b))]) ?_ ?_ rfl
    · intro j hj hi
      conv => whnf
      refine br (fun hc => ?_) (fun hc => ?_) <;> (try rw [hc]) <;> (conv => whnf)
      · refine ⟨_, idx_int hj, ?_⟩
        conv => whnf
        refine ⟨_, idx_int (hab ▸ hj), ?_⟩
        conv => whnf
        refine br (fun hc => ?_) (fun hc => ?_) <;> (try rw [hc]) <;> (conv => whnf)
        · subst hQ
          have : (a == b) = false := by
            rw [beq_eq_false_iff_ne]
            rintro rfl
            simp at hc
          rw [this]
        · have he : a[j] = b[j]'(hab ▸ hj) := by simpa using hc
          refine ⟨?_, renAt_cl (inc_slot (by omega)) rfl (by repeat' (first | exact trivial | refine renAt_sl rfl (by omega) ?_ | refine renAt_ptr rfl (by omega) ?_ | refine renAt_yield rfl (by omega) ?_ | refine renAt_cl rfl (by first | rfl | simp [clL, AV.cl, cl_ints]) ?_ | refine renAt_cl (inc_slot (by omega)) rfl ?_))⟩
          rw [List.take_succ_eq_append_getElem hj, List.take_succ_eq_append_getElem (hab ▸ hj), hi, he]
      · simp [len_ints] at hc; omega
    · intro hi
      conv => whnf
      refine br (fun hc => ?_) (fun hc => ?_) <;> (try rw [hc]) <;> (conv => whnf)
      · simp [len_ints] at hc
      · subst hQ
        have : a = b := by rw [List.take_length] at hi; rw [hi, hab, List.take_length]
        subst this
        simp

theorem eqInts_same (k k' : Nat) (a : List Int) (hl : a.length < 2 ^ 62) : PC fs ms f_escapementref00_EqInts [.fz k (ints a), .fz k' (ints a)] (.bool true) := by
  have := eqInts_c k k' a a hl hl
  simpa using this

/-- Rows that were made by append. -/
theorem frz_open {P : Nat → Prop} {g : Heap} {b n s : Nat} {l vs : List AV} {wr : Bool} {es : Nat} (hb : P b) (hg : g.get b = some (.cells vs wr es)) (hv : vs = flatCells l) (hs : allSize s l = true) (hn : n = l.length) (hcl : clL l = true) :
    Frz P g (.sl b 0 n n true) (.fz 0 l) :=
  .row (s := s) hb hg hv hs hn (Nat.le_refl _) (by omega) (fun h => by omega) (fun h => by omega) hcl

theorem copyInts_c (k : Nat) (l : List Int) (hk3 : k ≤ 3) (hl : l.length ≤ 17592186044416) : ∃ k', k' ≤ 3 ∧ PC fs ms f_escapementref00_CopyInts [.fz k (ints l)] (.fz k' (ints l)) := by
  by_cases hne : l = []
  · subst hne
    refine ⟨3, Nat.le_refl _, rfl, rfl, ?_⟩
    refine vd_start (af := C_escapementref00_CopyInts) false rfl (Nat.le_of_ble_eq_true rfl) ?_
    conv => whnf
    refine ⟨.nils, _, rfl, ?_⟩
    conv => whnf
    exact .nils
  · refine ⟨0, by omega, by simp [clL, AV.cl, cl_ints], by simp [AV.cl, cl_ints], ?_⟩
    refine vd_start (af := C_escapementref00_CopyInts) false rfl (Nat.le_of_ble_eq_true rfl) ?_
    generalize hQ : (fun (u : AV) (g : Heap) => Frz (fun _ => True) g u (.fz 0 (ints l))) = Q
    conv => whnf
    have hpos : 0 < l.length := List.length_pos_iff.2 hne
    refine ⟨.sl 0 0 l.length l.length true, hk 1 [(0, .cells (ints l) true 1)], ?_, ?_⟩
    · have h1 : Nat.beq l.length 0 = false := by cases hq : l.length with | zero => omega | succ n => rfl
      have h2 : Nat.ble (l.length * 8) 140737488355328 = true := Nat.ble_eq_true_of_le (by omega)
      have h3 : Nat.ble l.length 9223372036854775807 = true := Nat.ble_eq_true_of_le (by omega)
      simp only [eV, l2, srcV, size_ints, cond_true, flat_ints, len_ints, flatL_ints, h1, cond_false, h2, h3, Bool.and_self]
      rfl
    · conv => whnf
      subst hQ
      exact frz_open (s := 1) trivial rfl (flat_ints l).symm (size_ints l) (len_ints l).symm (cl_ints l)

theorem index_c (k : Nat) (l : List Int) (x : Int) (hl : l.length < 2 ^ 62) : ∃ r : Int, PC fs ms f_slices_Index_int_int [.fz k (ints l), .int .i64 x] (.int .i64 r) ∧ (0 ≤ r ↔ l.contains x = true) := by
  by_cases hx : l.contains x = true
  · obtain ⟨j, hj, hjx, hfst⟩ := least_get (l := l) (p := fun y => y = x) ⟨x, by simpa using hx, rfl⟩
    refine ⟨j, ?_, by simp; simpa using hx⟩
    refine pc_of (by simp [clL, AV.cl, cl_ints]) rfl ?_
    refine vd_start (af := C_slices_Index_int_int) false rfl (Nat.le_of_ble_eq_true rfl) ?_
    generalize hQ : (fun (u : AV) (_ : Heap) => u = .int .i64 (j : Nat)) = Q
    conv => whnf
    refine vc_to0 5 [(8, .int .i64 (0 : Nat)), (0, .fz k (ints l)), (1, .int .i64 x), (7, .int .i64 (ints l).length)] (by repeat' (first | exact trivial | refine renAt_sl rfl (by omega) ?_ | refine renAt_ptr rfl (by omega) ?_ | refine renAt_yield rfl (by omega) ?_ | refine renAt_cl rfl (by first | rfl | simp [clL, AV.cl, cl_ints]) ?_ | refine renAt_cl (inc_slot (by omega)) rfl ?_)) ?_
    refine for_row 5 l.length (fun i => i ≤ j) (fun i => [(8, .int .i64 (i : Nat)), (0, .fz k (ints l)), (1, .int .i64 x), (7, .int .i64 (ints l).length)]) ?_ ?_ (Nat.zero_le _)
    · intro i hi hij
      conv => whnf
      refine br (fun hc => ?_) (fun hc => ?_) <;> (try rw [hc]) <;> (conv => whnf)
      · refine ⟨_, idx_int hi, ?_⟩
        conv => whnf
        refine br (fun hc => ?_) (fun hc => ?_) <;> (try rw [hc]) <;> (conv => whnf)
        · subst hQ
          have hxi : x = l[i] := by simpa using hc
          have : i = j := by
            by_cases hlt : i < j
            · exact absurd hxi.symm (hfst i hi hlt)
            · omega
          subst this
          rfl
        · have hxi : x ≠ l[i] := by simpa using hc
          refine ⟨?_, renAt_cl (inc_slot (by omega)) rfl (by repeat' (first | exact trivial | refine renAt_sl rfl (by omega) ?_ | refine renAt_ptr rfl (by omega) ?_ | refine renAt_yield rfl (by omega) ?_ | refine renAt_cl rfl (by first | rfl | simp [clL, AV.cl, cl_ints]) ?_ | refine renAt_cl (inc_slot (by omega)) rfl ?_))⟩
          by_cases he : i = j
          · subst he; exact absurd hjx.symm hxi
          · omega
      · simp [len_ints] at hc; omega
    · intro hi
      omega
  · refine ⟨-1, ?_, by simp; simpa using hx⟩
    refine pc_of (by simp [clL, AV.cl, cl_ints]) rfl ?_
    refine vd_start (af := C_slices_Index_int_int) false rfl (Nat.le_of_ble_eq_true rfl) ?_
    generalize hQ : (fun (u : AV) (_ : Heap) => u = .int .i64 (-1)) = Q
    conv => whnf
    refine vc_to0 5 [(8, .int .i64 (0 : Nat)), (0, .fz k (ints l)), (1, .int .i64 x), (7, .int .i64 (ints l).length)] (by repeat' (first | exact trivial | refine renAt_sl rfl (by omega) ?_ | refine renAt_ptr rfl (by omega) ?_ | refine renAt_yield rfl (by omega) ?_ | refine renAt_cl rfl (by first | rfl | simp [clL, AV.cl, cl_ints]) ?_ | refine renAt_cl (inc_slot (by omega)) rfl ?_)) ?_
    refine for_row 5 l.length (fun i => True) (fun i => [(8, .int .i64 (i : Nat)), (0, .fz k (ints l)), (1, .int .i64 x), (7, .int .i64 (ints l).length)]) ?_ ?_ trivial
    · intro i hi _
      conv => whnf
      refine br (fun hc => ?_) (fun hc => ?_) <;> (try rw [hc]) <;> (conv => whnf)
      · refine ⟨_, idx_int hi, ?_⟩
        conv => whnf
        refine br (fun hc => ?_) (fun hc => ?_) <;> (try rw [hc]) <;> (conv => whnf)
        · have hxi : x = l[i] := by simpa using hc
          exact absurd (by rw [hxi]; simp) hx
        · exact ⟨trivial, renAt_cl (inc_slot (by omega)) rfl (by repeat' (first | exact trivial | refine renAt_sl rfl (by omega) ?_ | refine renAt_ptr rfl (by omega) ?_ | refine renAt_yield rfl (by omega) ?_ | refine renAt_cl rfl (by first | rfl | simp [clL, AV.cl, cl_ints]) ?_ | refine renAt_cl (inc_slot (by omega)) rfl ?_))⟩
      · simp [len_ints] at hc; omega
    · intro hi
      conv => whnf
      refine br (fun hc => ?_) (fun hc => ?_) <;> (try rw [hc]) <;> (conv => whnf)
      · simp [len_ints] at hc
      · subst hQ; rfl

theorem contains_c (k : Nat) (l : List Int) (x : Int) (hl : l.length < 2 ^ 62) : PC fs ms f_slices_Contains_int_int [.fz k (ints l), .int .i64 x] (.bool (l.contains x)) := by
  obtain ⟨r, hr, hrx⟩ := index_c k l x hl
  refine pc_of (by simp [clL, AV.cl, cl_ints]) rfl ?_
  refine vd_start (af := C_slices_Contains_int_int) false rfl (Nat.le_of_ble_eq_true rfl) ?_
  generalize hQ : (fun (u : AV) (_ : Heap) => u = .bool (l.contains x)) = Q
  conv => whnf
  refine vd_pure hr ?_
  conv => whnf
  subst hQ
  show AV.bool (decide (r ≥ 0)) = _
  congr 1
  rw [Bool.eq_iff_iff, ← hrx]
  simp

/- The counter. -/
def cnt (p : Int × Int) : Blk := .cells [.int .i64 p.1, .int .i64 p.2] true 0
def addStep (p : Int × Int) (m : Int) : Int × Int := if p.2 = 0 then addS p.1 m else p
def lcmStep (p : Int × Int) (m : Int) : Int × Int := if p.2 = 0 then mulS p.1 (m.tdiv (gcdS p.1 m).1) else p

theorem add_step {h : Heap} {b : Nat} {p : Int × Int} {m : Int} (hg : h.get b = some (cnt p)) {Q : AV → Heap → Prop} (hq : Q (.tup []) (h.set b (cnt (addStep p m)))) (hq0 : p.2 ≠ 0 → Q (.tup []) h) :
    VD fs ms f_ticks_count_add [.ptr b 0, .int .i64 m] h Q := by
  refine vd_start (af := C_ticks_count_add) true rfl (Nat.le_of_ble_eq_true rfl) ?_
  conv => whnf
  refine ⟨_, ld1 hg rfl, ?_⟩
  conv => whnf
  refine br (fun hc => ?_) (fun hc => ?_) <;> (try rw [hc]) <;> (conv => whnf)
  · have hp : p.2 = 0 := by simpa using hc
    refine ⟨_, ld1 hg rfl, ?_⟩
    conv => whnf
    refine vd_pure (add_c _ _) ?_
    conv => whnf
    refine ⟨_, _, st1 hg rfl rfl rfl, ?_⟩
    conv => whnf
    refine ⟨_, _, st1 (get_set_self _ _ _) rfl rfl rfl, ?_⟩
    conv => whnf
    rw [set_set]
    have : addStep p m = addS p.1 m := by simp [addStep, hp]
    rw [this] at hq
    exact hq
  · exact hq0 (by simpa using hc)

theorem mul_step {h : Heap} {b : Nat} {p : Int × Int} {m : Int} (hg : h.get b = some (cnt p)) (hm : isTick m = true) (hm1 : 1 ≤ m) (hp1 : p.2 = 0 → isTick p.1 = true ∧ 1 ≤ p.1) {Q : AV → Heap → Prop} (hq : Q (.tup []) (h.set b (cnt (lcmStep p m)))) (hq0 : p.2 ≠ 0 → Q (.tup []) h) :
    VD fs ms f_ticks_count_multiple [.ptr b 0, .int .i64 m] h Q := by
  refine vd_start (af := C_ticks_count_multiple) true rfl (Nat.le_of_ble_eq_true rfl) ?_
  conv => whnf
  refine ⟨_, ld1 hg rfl, ?_⟩
  conv => whnf
  refine br (fun hc => ?_) (fun hc => ?_) <;> (try rw [hc]) <;> (conv => whnf)
  · have hp : p.2 = 0 := by simpa using hc
    obtain ⟨ht, h1⟩ := hp1 hp
    have gt := (isTick_iff _).1 hm
    have gp := (isTick_iff _).1 ht
    refine ⟨_, ld1 hg rfl, ?_⟩
    conv => whnf
    refine vd_pure (gcd_c _ _) ?_
    conv => whnf
    refine ⟨_, ld1 hg rfl, ?_⟩
    conv => whnf
    have hgv : (gcdS p.1 m).1 = (Nat.gcd p.1.toNat m.toNat : Nat) := by simp [gcdS, ht, hm]
    have hgp : 0 < Nat.gcd p.1.toNat m.toNat := Nat.gcd_pos_of_pos_left _ (by omega)
    have hdv := tdiv_bounds gt.1 (show 0 ≤ (gcdS p.1 m).1 by rw [hgv]; omega)
    refine ⟨_, quo_val _ _ (by rw [hgv]; omega), ?_⟩
    rw [IntWalk.i64_in _ (by omega)]
    conv => whnf
    refine vd_pure (mul_c _ _) ?_
    conv => whnf
    refine ⟨_, _, st1 hg rfl rfl rfl, ?_⟩
    conv => whnf
    refine ⟨_, _, st1 (get_set_self _ _ _) rfl rfl rfl, ?_⟩
    conv => whnf
    rw [set_set]
    have : lcmStep p m = mulS p.1 (m.tdiv (gcdS p.1 m).1) := by simp [lcmStep, hp]
    rw [this] at hq
    exact hq
  · exact hq0 (by simpa using hc)
end Ir
end Go.Proofs.Ytflmbknimebmnaa
