/-
  Delay: what one partition more does.
-/
import Derived.Test.YtlndlbngfgaoeaaVDel
set_option maxRecDepth 100000
set_option linter.unusedSimpArgs false
set_option linter.unusedVariables false
namespace Go.Proofs.Ytlndlbngfgaoeaa
open Go Ads
namespace Ir

theorem usesP_c {x : Pt} {g : Int} : usesP x g = true ↔ ∃ t, t ∈ x.ts ∧ t.c = g := by
 simp [usesP, List.any_eq_true]
def shares (x y : Pt) : Bool := x.ts.any fun t => decide (t.c > 0) && usesP y t.c

theorem big_ok {l : List Pt} {y : Pt} (h : delCheck l = 0) (hy : partOk y = true) (h3 : l.length ≤ 3) : delCheck (l ++ [y]) = 0 := by
 unfold delCheck at h
 split at h
 ·rename_i h1
  rw [delCheck, if_pos]
  refine ⟨by simp; omega, ?_⟩
  rw [List.all_append, h1.2]
  simp [hy]
 ·omega
theorem waitN_big (l : List Pt) (y : Pt) (a g : Int) : ∀ j, j ≤ l.length → waitN (l ++ [y]) a g j = waitN l a g j
 | 0, _ => rfl
 | j + 1, hj => by
  have hlt : j < l.length := by omega
  rw [waitN_next (l := l ++ [y]) (by simp; omega), waitN_next hlt, waitN_big l y a g j (by omega), List.getElem_append_left hlt]
theorem waitN_last {l : List Pt} {y : Pt} (h : delCheck (l ++ [y]) = 0) (a : Nat) (ha : a < l.length) (g : Int) : waitN (l ++ [y]) (a : Nat) g (l ++ [y]).length = waitN l (a : Nat) g l.length + (if usesP y g = true then 2 * y.per else 0) := by
 rw [List.length_append]
 show waitN (l ++ [y]) (a : Nat) g (l.length + 1) = _
 rw [waitN_sum h _ _ l.length (by simp), waitN_big l y _ _ _ (Nat.le_refl _)]
 simp only [List.getElem_concat_length]
 by_cases hu : usesP y g = true
 ·rw [if_pos ⟨by omega, hu⟩, if_pos hu]
 ·rw [if_neg (fun x => hu x.2), if_neg hu]
  omega
theorem waitS_big {l : List Pt} {y : Pt} (h : delCheck (l ++ [y]) = 0) (a : Nat) (ha : a < l.length) (t : Tk) : waitS (l ++ [y]) (a : Nat) t = waitS l (a : Nat) t + (if t.c ≠ 0 ∧ usesP y t.c = true then 2 * y.per else 0) := by
 unfold waitS
 by_cases h0 : t.c = 0
 ·rw [if_pos h0, if_pos h0, if_neg (fun x => x.1 h0)]
  rfl
 ·rw [if_neg h0, if_neg h0, waitN_last h a ha]
  by_cases hu : usesP y t.c = true
  ·rw [if_pos hu, if_pos ⟨h0, hu⟩]
  ·rw [if_neg hu, if_neg (fun x => hu x.2)]
theorem moreOne_eq {l : List Pt} (h : delCheck l = 0) (a : Int) (t : Tk) (he : 0 ≤ t.e ∧ t.e ≤ 64) (hf : 0 ≤ t.f ∧ t.f ≤ 64) : moreOne l a t = t.f * (waitS l a t + t.e - 1) := by
 have := waitS_in h a t
 unfold moreOne
 rw [IntWalk.i64_in (_ + _) (by omega), IntWalk.i64_in (_ - _) (by omega)]
 refine IntWalk.i64_in _ ?_
 have h1 : t.f * (waitS l a t + t.e - 1) ≤ t.f * 1000 := Int.mul_le_mul_of_nonneg_left (by omega) hf.1
 have h2 : t.f * (-1) ≤ t.f * (waitS l a t + t.e - 1) := Int.mul_le_mul_of_nonneg_left (by omega) hf.1
 omega
theorem f_in {l : List Pt} (h : delCheck l = 0) {x : Pt} (hx : x ∈ l) {t : Tk} (ht : t ∈ x.ts) : 0 ≤ t.f ∧ t.f ≤ 64 := by
 have h1 := tk_in h hx ht
 rcases h1.2.2.2.2.2 with h2 | h2
 ·omega
 ·refine ⟨by omega, ?_⟩
  have h3 : 1 * t.f ≤ t.e * t.f := Int.mul_le_mul_of_nonneg_right (by omega) (by omega)
  omega
theorem more_mono {l : List Pt} {y x : Pt} (h : delCheck l = 0) (hb : delCheck (l ++ [y]) = 0) (a : Nat) (ha : a < l.length) (hx : x ∈ l) (hy : 0 ≤ y.per) {t : Tk} (ht : t ∈ x.ts) : moreOne l (a : Nat) t ≤ moreOne (l ++ [y]) (a : Nat) t ∧ (¬ (t.c > 0 ∧ usesP y t.c = true) → moreOne (l ++ [y]) (a : Nat) t = moreOne l (a : Nat) t) := by
 have he := e_in h hx ht
 have hf := f_in h hx ht
 have hc := (tk_in h hx ht).2.2.2.1
 rw [moreOne_eq h _ _ he hf, moreOne_eq hb _ _ he hf, waitS_big hb a ha]
 constructor
 ·refine Int.mul_le_mul_of_nonneg_left ?_ hf.1
  split <;> omega
 ·intro hn
  rw [if_neg (fun z => hn ⟨by omega, z.2⟩)]
  simp
theorem by_mono {l : List Pt} {y x : Pt} (h : delCheck l = 0) (hb : delCheck (l ++ [y]) = 0) (a : Nat) (ha : a < l.length) (hx : x ∈ l) (hy : 0 ≤ y.per) {t : Tk} (ht : t ∈ x.ts) : byOne l (a : Nat) t ≤ byOne (l ++ [y]) (a : Nat) t ∧ (¬ (t.c > 0 ∧ usesP y t.c = true) → byOne (l ++ [y]) (a : Nat) t = byOne l (a : Nat) t) := by
 have he := e_in h hx ht
 have hc := (tk_in h hx ht).2.2.2.1
 unfold byOne
 by_cases h0 : t.c = 0
 ·rw [if_pos h0, if_pos h0]
  exact ⟨by omega, fun _ => rfl⟩
 ·rw [if_neg h0, if_neg h0, mx_max, mx_max, waitMore_eq h _ _ he, waitMore_eq hb _ _ he, waitS_big hb a ha]
  constructor
  ·split <;> omega
  ·intro hn
   rw [if_neg (fun z => hn ⟨by omega, z.2⟩)]
   omega
theorem ofN_big {l m : List Pt} {a n : Int} {ts : List Tk} (hm : ∀ t, t ∈ ts → byOne l a t ≤ byOne m a t) : ∀ j, j ≤ ts.length → ofN l a n ts j ≤ ofN m a n ts j
 | 0, _ => by simp [ofN]
 | j + 1, hj => by
  have hlt : j < ts.length := by omega
  have ih := ofN_big (n := n) hm j (by omega)
  have := hm _ (List.getElem_mem hlt)
  rw [ofN_next hlt, ofN_next hlt]
  split
  ·rw [mx_max, mx_max]; omega
  ·exact ih
theorem ofN_same {l m : List Pt} {a n : Int} {ts : List Tk} (hm : ∀ t, t ∈ ts → byOne m a t = byOne l a t) : ∀ j, j ≤ ts.length → ofN m a n ts j = ofN l a n ts j
 | 0, _ => rfl
 | j + 1, hj => by
  have hlt : j < ts.length := by omega
  rw [ofN_next hlt, ofN_next hlt, ofN_same (n := n) hm j (by omega), hm _ (List.getElem_mem hlt)]

end Ir
end Go.Proofs.Ytlndlbngfgaoeaa
