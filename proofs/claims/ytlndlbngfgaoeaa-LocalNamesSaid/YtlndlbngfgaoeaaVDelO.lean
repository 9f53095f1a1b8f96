/-
  Delay: what holds of partitions that may be asked.
-/
import Derived.Test.YtlndlbngfgaoeaaVDelH
set_option maxRecDepth 100000
set_option linter.unusedSimpArgs false
set_option linter.unusedVariables false
namespace Go.Proofs.Ytlndlbngfgaoeaa
open Go Ads
namespace Ir

theorem ok_in {l : List Pt} (h : delCheck l = 0) : l.length ≤ 4 ∧ ∀ x, x ∈ l → partIn x ∧ x.ts.length ≤ 4 ∧ ∀ t, t ∈ x.ts → taskOk t = true ∧ mayD t x.bud = true := by
  unfold delCheck at h
  split at h
  · rename_i h1
    refine ⟨h1.1, fun x hx => ?_⟩
    have h2 := List.all_eq_true.1 h1.2 x hx
    simp only [partOk, Bool.and_eq_true, tasksOk, List.all_eq_true] at h2
    exact ⟨of_decide_eq_true h2.1, of_decide_eq_true h2.2.1.2, fun t ht => ⟨h2.2.1.1 t ht, h2.2.2 t ht⟩⟩
  · omega
theorem waitN_in {l : List Pt} (h : delCheck l = 0) (a g : Int) : ∀ j, j ≤ l.length → 0 ≤ waitN l a g j ∧ waitN l a g j ≤ 128 * j
  | 0, _ => by simp [waitN]
  | j + 1, hj => by
    have ih := waitN_in h a g j (by omega)
    have hl := (ok_in h).1
    have hp := ((ok_in h).2 _ (List.getElem_mem (show j < l.length by omega))).1
    unfold partIn at hp
    rw [waitN_next (show j < l.length by omega)]
    split
    · rw [IntWalk.i64_in (2 * _) (by omega), IntWalk.i64_in _ (by omega)]
      omega
    · omega
theorem waitN_sum {l : List Pt} (h : delCheck l = 0) (a g : Int) (j : Nat) (hj : j < l.length) : waitN l a g (j + 1) = if (j : Int) ≠ a ∧ usesP l[j] g = true then waitN l a g j + 2 * l[j].per else waitN l a g j := by
  have ih := waitN_in h a g j (by omega)
  have hl := (ok_in h).1
  have hp := ((ok_in h).2 _ (List.getElem_mem (show j < l.length by omega))).1
  unfold partIn at hp
  rw [waitN_next (show j < l.length by omega)]
  split
  · rw [IntWalk.i64_in (2 * _) (by omega), IntWalk.i64_in _ (by omega)]
  · rfl
theorem waitS_in {l : List Pt} (h : delCheck l = 0) (a : Int) (t : Tk) : 0 ≤ waitS l a t ∧ waitS l a t ≤ 512 := by
  unfold waitS
  split
  · omega
  · have := waitN_in h a t.c l.length (Nat.le_refl _)
    have hl := (ok_in h).1
    omega
theorem waitMore_eq {l : List Pt} (h : delCheck l = 0) (a : Int) (t : Tk) (he : 0 ≤ t.e ∧ t.e ≤ 64) : waitMore l a t = waitS l a t + 2 * t.e - 1 := by
  have := waitS_in h a t
  unfold waitMore
  rw [IntWalk.i64_in (2 * _) (by omega), IntWalk.i64_in (_ + _) (by omega), IntWalk.i64_in _ (by omega)]
theorem tk_in {l : List Pt} (h : delCheck l = 0) {x : Pt} (hx : x ∈ l) {t : Tk} (ht : t ∈ x.ts) : (1 ≤ t.w ∧ t.w ≤ t.d ∧ t.d ≤ t.p ∧ t.p ≤ 64) ∧ 0 ≤ t.b ∧ t.b ≤ t.w ∧ 0 ≤ t.c ∧ t.c ≤ 4 ∧ ((t.c = 0 ∧ t.e = 0 ∧ t.f = 0) ∨ (t.c ≠ 0 ∧ 1 ≤ t.e ∧ t.e ≤ x.bud ∧ 1 ≤ t.f ∧ t.e * t.f ≤ t.w)) :=
  ⟨taskOk_in (((ok_in h).2 x hx).2.2 t ht).1, mayD_in (((ok_in h).2 x hx).2.2 t ht).2⟩
theorem e_in {l : List Pt} (h : delCheck l = 0) {x : Pt} (hx : x ∈ l) {t : Tk} (ht : t ∈ x.ts) : 0 ≤ t.e ∧ t.e ≤ 64 := by
  have h1 := tk_in h hx ht
  have h2 := ((ok_in h).2 x hx).1
  unfold partIn at h2
  omega
theorem byOne_in {l : List Pt} (h : delCheck l = 0) (a : Int) {x : Pt} (hx : x ∈ l) {t : Tk} (ht : t ∈ x.ts) : 0 ≤ byOne l a t ∧ t.b ≤ byOne l a t ∧ t.e ≤ byOne l a t := by
  have h1 := tk_in h hx ht
  have h2 := e_in h hx ht
  have h3 := waitS_in h a t
  unfold byOne
  split
  · omega
  · rw [mx_max, waitMore_eq h a t h2]
    omega

theorem ofN_nonneg {l : List Pt} (a n : Int) (ts : List Tk) : ∀ j, j ≤ ts.length → 0 ≤ ofN l a n ts j
  | 0, _ => by simp [ofN]
  | j + 1, hj => by
    have ih := ofN_nonneg (l := l) a n ts j (by omega)
    rw [ofN_next (show j < ts.length by omega)]
    split
    · rw [mx_max]; omega
    · exact ih
theorem ofN_mono {l : List Pt} (a n n' : Int) (hn : n ≤ n') (ts : List Tk) : ∀ j, j ≤ ts.length → ofN l a n' ts j ≤ ofN l a n ts j
  | 0, _ => by simp [ofN]
  | j + 1, hj => by
    have ih := ofN_mono (l := l) a n n' hn ts j (by omega)
    have hlt : j < ts.length := by omega
    rw [ofN_next hlt, ofN_next hlt]
    split
    · rw [if_pos (by omega), mx_max, mx_max]; omega
    · split
      · rw [mx_max]; omega
      · exact ih
theorem ofN_zero {l : List Pt} (a n : Int) (ts : List Tk) (hd : ∀ t, t ∈ ts → t.d ≤ n) : ∀ j, j ≤ ts.length → ofN l a n ts j = 0
  | 0, _ => by simp [ofN]
  | j + 1, hj => by
    have hlt : j < ts.length := by omega
    have := hd _ (List.getElem_mem hlt)
    rw [ofN_next hlt, if_neg (by omega), ofN_zero a n ts hd j (by omega)]
theorem ofN_ge {l : List Pt} (a n : Int) (ts : List Tk) : ∀ j, j ≤ ts.length → ∀ (i : Nat) (hi : i < ts.length), i < j → ts[i].d > n → byOne l a ts[i] ≤ ofN l a n ts j
  | 0, _, i, _, hij, _ => by omega
  | j + 1, hj, i, hi, hij, hd => by
    have hlt : j < ts.length := by omega
    rw [ofN_next hlt]
    by_cases hji : i = j
    · subst hji
      rw [if_pos hd, mx_max]; omega
    · have ih := ofN_ge (l := l) a n ts j (by omega) i hi (by omega) hd
      split
      · rw [mx_max]; omega
      · exact ih

theorem dOf9_ok {l : List Pt} (h : delCheck l = 0) {i : Nat} (hi : i < l.length) {n : Int} (hn : 0 ≤ n) : dOf9 l (i : Nat) n = (ofN l (i : Nat) n l[i].ts l[i].ts.length, 0) := by
  rw [dOf9, if_neg (by omega), if_neg (by omega), show ((i : Int)).toNat = i from rfl, List.getElem?_eq_getElem hi]
  simp only
  rw [if_neg (by omega)]

end Ir
end Go.Proofs.Ytlndlbngfgaoeaa
