/-
  The contracts of layer 1, over rows as values: each, Sum, Lcm.
-/
import Derived.Test.YtflmbknimebmnaaVTicksC
set_option maxRecDepth 100000
set_option linter.unusedSimpArgs false
set_option linter.unusedVariables false
namespace Go.Proofs.Ytflmbknimebmnaa
open Go Ads
namespace Ir

/-- Only block b is another one. -/
def But (b : Nat) (h h' : Heap) : Prop := h'.next = h.next ∧ ∀ c, c ≠ b → h'.get c = h.get c
theorem But.refl (b : Nat) (h : Heap) : But b h h := ⟨rfl, fun _ _ => rfl⟩
theorem But.trans {b : Nat} {h h1 h2 : Heap} (x : But b h h1) (y : But b h1 h2) : But b h h2 := ⟨y.1.trans x.1, fun c hc => (y.2 c hc).trans (x.2 c hc)⟩
theorem But.set (b : Nat) (h : Heap) (x : Blk) : But b h (h.set b x) := ⟨rfl, fun c hc => by rw [Heap.get_set, if_neg hc]⟩

theorem each_c {F b : Nat} (step : Int × Int → Int → Int × Int) (Good : Int × Int → Prop) (l : List Int) (k : Nat) (hl : l.length < 2 ^ 62)
    (body : ∀ (h : Heap) (p : Int × Int) (m : Int), m ∈ l → Good p → h.get b = some (cnt p) → ∀ Q : AV → Heap → Prop, Q (.tup []) (h.set b (cnt (step p m))) → (p.2 ≠ 0 → Q (.tup []) h) → VD fs ms F [.ptr b 0, .int .i64 m] h Q)
    (hgood : ∀ p m, m ∈ l → Good p → Good (step p m)) (hstuck : ∀ p m, p.2 ≠ 0 → step p m = p) {h : Heap} {p : Int × Int} (hg : h.get b = some (cnt p)) (hgp : Good p) :
    VD fs ms f_ticks_each [.func (.func F) [.ptr b 0] [], .fz k (ints l)] h fun u h' => u = .tup [] ∧ h'.get b = some (cnt (l.foldl step p)) ∧ But b h h' ∧ Good (l.foldl step p) := by
  refine vd_start (af := C_ticks_each) true rfl (Nat.le_of_ble_eq_true rfl) ?_
  generalize hQ : (fun (u : AV) (h' : Heap) => u = .tup [] ∧ h'.get b = some (cnt (l.foldl step p)) ∧ But b h h' ∧ Good (l.foldl step p)) = Q
  conv => whnf
  refine vc_slots 4 [(8, .int .i64 (0 : Nat)), (0, .func (.func F) [.ptr b 0] []), (6, .fz k (ints l)), (7, .int .i64 (ints l).length)] ⟨rfl, rfl, rfl, rfl, trivial⟩ ?_
  refine for_rowR true h.next 4 l.length (fun j h' => h'.get b = some (cnt ((l.take j).foldl step p)) ∧ But b h h' ∧ Good ((l.take j).foldl step p)) (fun j => [(8, .int .i64 (j : Nat)), (0, .func (.func F) [.ptr b 0] []), (6, .fz k (ints l)), (7, .int .i64 (ints l).length)]) ?_ ?_ ⟨hg, .refl _ _, hgp⟩
  · intro j h' hj ⟨i1, i2, i3⟩
    conv => whnf
    refine br (fun hc => ?_) (fun hc => ?_) <;> (try rw [hc]) <;> (conv => whnf)
    · refine ⟨_, idx_int hj, ?_⟩
      conv => whnf
      refine ⟨_, rfl, ?_⟩
      conv => whnf
      have hmem : l[j] ∈ l := List.getElem_mem hj
      have hstep : (l.take (j + 1)).foldl step p = step ((l.take j).foldl step p) l[j] := by rw [take_next hj, List.foldl_append]; rfl
      refine body h' _ _ hmem i3 i1 _ ?_ ?_
      · conv => whnf
        refine ⟨⟨?_, i2.trans (.set _ _ _), ?_⟩, inc_slot (by omega), rfl, rfl, rfl, trivial⟩
        · rw [hstep]; exact get_set_self _ _ _
        · rw [hstep]; exact hgood _ _ hmem i3
      · intro hne
        conv => whnf
        refine ⟨⟨?_, i2, ?_⟩, inc_slot (by omega), rfl, rfl, rfl, trivial⟩
        · rw [hstep, hstuck _ _ hne]; exact i1
        · rw [hstep]; exact hgood _ _ hmem i3
    · simp [len_ints] at hc; omega
  · intro h' ⟨i1, i2, i3⟩
    conv => whnf
    refine br (fun hc => ?_) (fun hc => ?_) <;> (try rw [hc]) <;> (conv => whnf)
    · simp [len_ints] at hc
    · subst hQ
      rw [List.take_length] at i1 i3
      exact ⟨rfl, i1, i2, i3⟩

def sumS (l : List Int) : Int × Int := if l.all isTick then toldS (l.foldl addStep (0, 0)).1 (l.foldl addStep (0, 0)).2 else (0, 2)

theorem sum_c (k : Nat) (l : List Int) (hl : l.length < 2 ^ 62) : PC fs ms f_ticks_Sum [.fz k (ints l)] (pr (sumS l)) := by
  refine pc_of (by simp [clL, AV.cl, cl_ints]) rfl ?_
  refine vd_start (af := C_ticks_Sum) true rfl (Nat.le_of_ble_eq_true rfl) ?_
  generalize hQ : (fun (u : AV) (_ : Heap) => u = pr (sumS l)) = Q
  conv => whnf
  refine vd_pure (tick_c k l hl) ?_
  conv => whnf
  refine br (fun hc => ?_) (fun hc => ?_) <;> (try rw [hc]) <;> (conv => whnf)
  · subst hQ
    have : l.all isTick = false := by simpa using hc
    simp [sumS, this, pr]
  · have hall : l.all isTick = true := by simpa using hc
    refine (each_c (b := 0) addStep (fun _ => True) l k hl (fun h p m _ _ hg Q h1 h2 => add_step hg h1 h2) (fun _ _ _ _ => trivial) (fun p m hp => by simp [addStep, hp]) (p := (0, 0)) rfl trivial).mono ?_
    rintro u h' ⟨rfl, h1, h2, _⟩
    conv => whnf
    refine ⟨_, ld1 h1 rfl, ?_⟩
    conv => whnf
    refine ⟨_, ld1 h1 rfl, ?_⟩
    conv => whnf
    refine vd_pure (told_c _ _) ?_
    conv => whnf
    subst hQ
    simp only [sumS, hall, if_true, pr]

def lcmS (limit : Int) (l : List Int) : Int × Int :=
  let p := l.foldl lcmStep (1, 0)
  if isTick limit && (l.all isTick && !l.contains 0) then (if p.2 = 0 ∧ p.1 > limit then toldS p.1 10 else toldS p.1 p.2) else (0, 2)

def Good (p : Int × Int) : Prop := p.2 = 0 → isTick p.1 = true ∧ 1 ≤ p.1

theorem good_step {p : Int × Int} {m : Int} (hm : isTick m = true ∧ 1 ≤ m) (hg : Good p) : Good (lcmStep p m) := by
  intro h0
  by_cases hp : p.2 = 0
  · obtain ⟨h1, h2⟩ := hg hp
    have gp := (isTick_iff _).1 h1
    have gm := (isTick_iff _).1 hm.1
    have hgv : (gcdS p.1 m).1 = (Nat.gcd p.1.toNat m.toNat : Nat) := by simp [gcdS, h1, hm.1]
    have hgp : 0 < Nat.gcd p.1.toNat m.toNat := Nat.gcd_pos_of_pos_left _ (by omega)
    have hq1 : 1 ≤ m.tdiv (gcdS p.1 m).1 := by
      rw [hgv, Int.tdiv_eq_ediv_of_nonneg gm.1]
      have : Nat.gcd p.1.toNat m.toNat ≤ m.toNat := Nat.gcd_le_right _ (by omega)
      exact (Int.le_ediv_iff_mul_le (by omega)).2 (by omega)
    simp only [lcmStep, hp, if_true] at h0 ⊢
    generalize m.tdiv (gcdS p.1 m).1 = q at *
    simp only [mulS] at h0 ⊢
    split at h0
    · split at h0
      · simp at h0
      · rename_i h3 h4
        rw [if_pos h3, if_neg h4]
        have : 1 ≤ p.1 * q := by
          have := Int.mul_le_mul h2 hq1 (by omega) (by omega)
          omega
        exact ⟨(isTick_iff _).2 ⟨by omega, by simp only; omega⟩, this⟩
    · simp at h0
  · simp only [lcmStep, hp, if_false] at h0

theorem lcm_c (limit : Int) (k : Nat) (l : List Int) (hl : l.length < 2 ^ 62) : PC fs ms f_ticks_Lcm [.int .i64 limit, .fz k (ints l)] (pr (lcmS limit l)) := by
  refine pc_of (by simp [clL, AV.cl, cl_ints]) rfl ?_
  refine vd_start (af := C_ticks_Lcm) true rfl (Nat.le_of_ble_eq_true rfl) ?_
  generalize hQ : (fun (u : AV) (_ : Heap) => u = pr (lcmS limit l)) = Q
  conv => whnf
  refine tick1_c rfl ?_
  conv => whnf
  refine br (fun hc => ?_) (fun hc => ?_) <;> (try rw [hc]) <;> (conv => whnf)
  · subst hQ
    have : isTick limit = false := by simpa using hc
    simp [lcmS, this, pr]
  · have ht : isTick limit = true := by simpa using hc
    refine vd_pure (tick_c k l hl) ?_
    conv => whnf
    refine br (fun hc => ?_) (fun hc => ?_) <;> (try rw [hc]) <;> (conv => whnf)
    · subst hQ
      have : l.all isTick = false := by simpa using hc
      simp only [lcmS, this, Bool.false_and, Bool.and_false, Bool.false_eq_true, if_false]
      rfl
    · have hall : l.all isTick = true := by simpa using hc
      refine vd_pure (contains_c k l 0 hl) ?_
      conv => whnf
      refine br (fun hc => ?_) (fun hc => ?_) <;> (try rw [hc]) <;> (conv => whnf)
      · subst hQ
        simp only [lcmS, hc, Bool.not_true, Bool.and_false, Bool.false_eq_true, if_false]
        rfl
      · have hmem : ∀ m, m ∈ l → isTick m = true ∧ 1 ≤ m := by
          intro m hm
          have h1 := List.all_eq_true.1 hall m hm
          have h2 := (isTick_iff m).1 h1
          refine ⟨h1, ?_⟩
          have : m ≠ 0 := by
            rintro rfl
            rw [List.contains_iff_mem.2 hm] at hc
            simp at hc
          omega
        have hcond : (isTick limit && (l.all isTick && !l.contains 0)) = true := by rw [ht, hall, hc]; rfl
        refine (each_c (b := 1) lcmStep Good l k hl (fun h p m hm hg0 hg Q h1 h2 => mul_step hg (hmem m hm).1 (hmem m hm).2 hg0 h1 h2) (fun p m hm hg => good_step (hmem m hm) hg) (fun p m hp => by simp [lcmStep, hp]) (p := (1, 0)) (by rw [Heap.get_new, if_pos (by rfl)]; rfl) (fun _ => ⟨rfl, by decide⟩)).mono ?_
        rintro u h' ⟨rfl, h1, h2, _⟩
        conv => whnf
        refine ⟨_, ld1 h1 rfl, ?_⟩
        conv => whnf
        refine br (fun hc => ?_) (fun hc => ?_) <;> (try rw [hc]) <;> (conv => whnf)
        · have he : (l.foldl lcmStep (1, 0)).2 = 0 := by simpa using hc
          refine ⟨_, ld1 h1 rfl, ?_⟩
          conv => whnf
          refine br (fun hc => ?_) (fun hc => ?_) <;> (try rw [hc]) <;> (conv => whnf)
          · refine ⟨_, _, st1 h1 rfl rfl rfl, ?_⟩
            conv => whnf
            refine ⟨_, ld1 (get_set_self _ _ _) rfl, ?_⟩
            conv => whnf
            refine ⟨_, ld1 (get_set_self _ _ _) rfl, ?_⟩
            conv => whnf
            refine vd_pure (told_c _ _) ?_
            conv => whnf
            subst hQ
            simp only [lcmS, hcond, if_true]
            rw [if_pos ⟨he, by simpa using hc⟩]
            rfl
          · refine ⟨_, ld1 h1 rfl, ?_⟩
            conv => whnf
            refine ⟨_, ld1 h1 rfl, ?_⟩
            conv => whnf
            refine vd_pure (told_c _ _) ?_
            conv => whnf
            subst hQ
            simp only [lcmS, hcond, if_true]
            rw [if_neg (fun hh => by have := hh.2; simp at hc; omega)]
            rfl
        · refine ⟨_, ld1 h1 rfl, ?_⟩
          conv => whnf
          refine ⟨_, ld1 h1 rfl, ?_⟩
          conv => whnf
          refine vd_pure (told_c _ _) ?_
          conv => whnf
          subst hQ
          simp only [lcmS, hcond, if_true]
          rw [if_neg (fun hh => by have := hh.1; simp at hc; omega)]
          rfl
end Ir
end Go.Proofs.Ytflmbknimebmnaa
