/-
  Delay: the document's wait; of; Wait of both.
-/
import Derived.Test.YtlndlbngfgaoeaaVDelD
set_option maxRecDepth 100000
set_option linter.unusedSimpArgs false
set_option linter.unusedVariables false
namespace Go.Proofs.Ytlndlbngfgaoeaa
open Go Ads
namespace Ir

theorem any_yes {α : Type} {l : List α} {p : α → Bool} {j : Nat} (hj : j < l.length) (h : p l[j] = true) : l.any p = true := List.any_eq_true.2 ⟨l[j], List.getElem_mem hj, h⟩
theorem any_step {α : Type} {l : List α} {p : α → Bool} {j : Nat} (hj : j < l.length) (hi : (l.take j).any p = false) (h : p l[j] = false) : (l.take (j + 1)).any p = false := by
  rw [take_next hj, List.any_append, hi]; simp [h]

theorem delCheck_or (l : List Pt) : delCheck l = 0 ∨ delCheck l = 2 := by unfold delCheck; split <;> simp
/-- A partition among all that is none. -/
def sn0 : AV := .agg [.int .i64 0, .int .i64 0, .nils, .nils, .int .i64 0]
def pr9 (p : Int × Int) : AV := .tup [.int .i64 p.1, .int .i64 p.2]

theorem of_bad (k : Nat) (l : List Pt) (a : Int) (hs : Small l) (h : delCheck l = 2) : PC fs ms f_delay_of [.fz k (pts l), .int .i64 a] (.tup [sn0, .int .i64 2]) := by
  refine pc_of (by simp [clL, AV.cl, cl_pts]) rfl ?_
  refine vd_start (af := C_delay_of) false rfl (Nat.le_of_ble_eq_true rfl) ?_
  generalize hQ : (fun (v : AV) (_ : Heap) => v = .tup [sn0, .int .i64 2]) = Q
  set_option smartUnfolding false in conv => whnf
  refine vd_pure (dcheck9_c k l hs) ?_
  rw [h]
  set_option smartUnfolding false in conv => whnf
  subst hQ
  rfl
theorem of_out (k : Nat) (l : List Pt) (a : Int) (hs : Small l) (h : delCheck l = 0) (ha : a < 0 ∨ l.length ≤ a) : PC fs ms f_delay_of [.fz k (pts l), .int .i64 a] (.tup [sn0, .int .i64 9]) := by
  refine pc_of (by simp [clL, AV.cl, cl_pts]) rfl ?_
  refine vd_start (af := C_delay_of) false rfl (Nat.le_of_ble_eq_true rfl) ?_
  generalize hQ : (fun (v : AV) (_ : Heap) => v = .tup [sn0, .int .i64 9]) = Q
  set_option smartUnfolding false in conv => whnf
  refine vd_pure (dcheck9_c k l hs) ?_
  rw [h]
  set_option smartUnfolding false in conv => whnf
  by_cases h0 : a < 0
  · refine brt (by simp; omega) (fun hc => ?_)
    (try rw [hc])
    set_option smartUnfolding false in conv => whnf
    subst hQ
    rfl
  · refine brf (by simp; omega) (fun hc => ?_)
    (try rw [hc])
    set_option smartUnfolding false in conv => whnf
    refine brt (by rw [len_pts]; simp; omega) (fun hc => ?_)
    (try rw [hc])
    set_option smartUnfolding false in conv => whnf
    subst hQ
    rfl
theorem of_ok (k : Nat) (l : List Pt) (i : Nat) (hs : Small l) (h : delCheck l = 0) (hi : i < l.length) : PC fs ms f_delay_of [.fz k (pts l), .int .i64 (i : Nat)] (.tup [sn l[i] k l (i : Nat), .int .i64 0]) := by
  refine pc_of (by simp [clL, AV.cl, cl_pts]) (by simp [clL, AV.cl, cl_sn]) ?_
  refine vd_start (af := C_delay_of) false rfl (Nat.le_of_ble_eq_true rfl) ?_
  generalize hQ : (fun (v : AV) (_ : Heap) => v = .tup [sn l[i] k l (i : Nat), .int .i64 0]) = Q
  set_option smartUnfolding false in conv => whnf
  refine vd_pure (dcheck9_c k l hs) ?_
  rw [h]
  set_option smartUnfolding false in conv => whnf
  refine brf (by rw [len_pts]; simp; omega) (fun hc => ?_)
  (try rw [hc])
  set_option smartUnfolding false in conv => whnf
  refine ⟨_, idx_pt hi, ?_⟩
  set_option smartUnfolding false in conv => whnf
  subst hQ
  rfl

/-- How long a task waits: of a partition and of a task by number. -/
def dWait (l : List Pt) (a n : Int) : Int × Int := if delCheck l = 2 then (0, 2) else if a < 0 then (0, 9) else match l[a.toNat]? with
  | none => (0, 9)
  | some x => if n < 0 then (0, 9) else match x.ts[n.toNat]? with
    | none => (0, 9)
    | some t => (waitS l a t, 0)

/-- In partitions that may be asked tasks may. -/
theorem part_c {l : List Pt} (h : delCheck l = 0) {x : Pt} (hx : x ∈ l) {t : Tk} (ht : t ∈ x.ts) : partIn x ∧ taskOk t = true ∧ mayD t x.bud = true := by
  unfold delCheck at h
  split at h
  · rename_i hh
    have := List.all_eq_true.1 hh.2 x hx
    simp only [partOk, Bool.and_eq_true, decide_eq_true_eq, List.all_eq_true, tasksOk] at this
    exact ⟨this.1, this.2.1.1 t ht, this.2.2 t ht⟩
  · simp at h
theorem mayD_in {t : Tk} {B : Int} (h : mayD t B = true) : 0 ≤ t.b ∧ t.b ≤ t.w ∧ 0 ≤ t.c ∧ t.c ≤ 4 ∧ ((t.c = 0 ∧ t.e = 0 ∧ t.f = 0) ∨ (t.c ≠ 0 ∧ 1 ≤ t.e ∧ t.e ≤ B ∧ 1 ≤ t.f ∧ t.e * t.f ≤ t.w)) := by simpa [mayD] using h

end Ir
end Go.Proofs.Ytlndlbngfgaoeaa
