/-
  Demand: DemandSound, the plain law: jobs that are released ask for no more than the demand.
-/
import Derived.Test.YtbmnehpppegecaaVDemQ
set_option maxRecDepth 100000
set_option linter.unusedSimpArgs false
set_option linter.unusedVariables false
namespace Go.Proofs.Ytbmnehpppegecaa
open Go Ads
namespace Ir

/-- How much later than it may a job is released. -/
def incS (later : List Int) (i k : Nat) : Int := match later with
  | [] => 0
  | _ => (later.getD ((i * 10 + k) % later.length) 0) % 20
theorem inc_in (later : List Int) (i k : Nat) : 0 ≤ incS later i k ∧ incS later i k ≤ 19 := by
  unfold incS
  split
  · omega
  · rename_i l _
    have a1 := Int.emod_nonneg (later.getD ((i * 10 + k) % later.length) 0) (show (20 : Int) ≠ 0 by omega)
    have a2 := Int.emod_lt_of_pos (later.getD ((i * 10 + k) % later.length) 0) (show (0 : Int) < 20 by omega)
    omega
def atS (inc : Nat → Int) (p : Int) : Nat → Int
  | 0 => 0
  | k + 1 => atS inc p k + inc k + p
def jsS (inc : Nat → Int) (t : Tk) (m b : Int) : Nat → List (Int × Int)
  | 0 => []
  | k + 1 => jsS inc t m b k ++ (if b ≤ atS inc t.p k + inc k then [(atS inc t.p k + inc k + t.d - b, t.w + m)] else [])
def oneS (later : List Int) (L : List Tk) (a : List Int) (b : Int) (i : Nat) : List (Int × Int) := match L[i]?, a[i]? with
  | some t, some m => jsS (incS later i) t m b 10
  | _, _ => []
def allS (later : List Int) (L : List Tk) (a : List Int) (b : Int) : Nat → List (Int × Int)
  | 0 => []
  | i + 1 => allS later L a b i ++ oneS later L a b i
def sumE (n : Int) (J : List (Int × Int)) : Int := (J.map fun x => if x.1 ≤ n then x.2 else 0).sum
theorem sumE_app (n : Int) (J K : List (Int × Int)) : sumE n (J ++ K) = sumE n J + sumE n K := by
  simp only [sumE, List.map_append, List.sum_append]

theorem at_in {inc : Nat → Int} {p : Int} (hp : 1 ≤ p ∧ p ≤ 64) (hi : ∀ k, 0 ≤ inc k ∧ inc k ≤ 19) : ∀ k : Nat, 0 ≤ atS inc p k ∧ atS inc p k ≤ k * 84
  | 0 => by simp [atS]
  | k + 1 => by
    have := at_in hp hi k
    have := hi k
    simp only [atS]
    omega
theorem at_gap {inc : Nat → Int} {p : Int} (hp : 1 ≤ p ∧ p ≤ 64) (hi : ∀ k, 0 ≤ inc k ∧ inc k ≤ 19) (j : Nat) : ∀ d : Nat, atS inc p j + inc j + p ≤ atS inc p (j + 1 + d)
  | 0 => by show _ ≤ atS inc p (j + 1); simp only [atS]; omega
  | d + 1 => by
    have := at_gap hp hi j d
    have := hi (j + 1 + d)
    show _ ≤ atS inc p (j + 1 + d) + inc (j + 1 + d) + p
    omega

/-- How many jobs count. -/
theorem js_sum {inc : Nat → Int} {t : Tk} {m b n : Int} (o : OkT t) (hi : ∀ k, 0 ≤ inc k ∧ inc k ≤ 19) : ∀ K : Nat, ∃ c : Nat, sumE n (jsS inc t m b K) = c * (t.w + m) ∧
    (c = 0 ∨ ∃ j, j < K ∧ b ≤ atS inc t.p j + inc j ∧ atS inc t.p j + inc j + t.d - b ≤ n ∧ ((c : Int) - 1) * t.p ≤ atS inc t.p j + inc j - b)
  | 0 => ⟨0, by simp [jsS, sumE], .inl rfl⟩
  | K + 1 => by
    obtain ⟨c, h1, h2⟩ := js_sum (m := m) (b := b) (n := n) o hi K
    obtain ⟨o1, o2, o3, o4⟩ := o
    have keep : sumE n (jsS inc t m b (K + 1)) = sumE n (jsS inc t m b K) → ∃ c : Nat, sumE n (jsS inc t m b (K + 1)) = c * (t.w + m) ∧
      (c = 0 ∨ ∃ j, j < K + 1 ∧ b ≤ atS inc t.p j + inc j ∧ atS inc t.p j + inc j + t.d - b ≤ n ∧ ((c : Int) - 1) * t.p ≤ atS inc t.p j + inc j - b) := fun h =>
      ⟨c, h.trans h1, h2.imp id fun ⟨j, x1, x2⟩ => ⟨j, by omega, x2⟩⟩
    by_cases hb : b ≤ atS inc t.p K + inc K
    · by_cases hn : atS inc t.p K + inc K + t.d - b ≤ n
      · refine ⟨c + 1, ?_, .inr ⟨K, by omega, hb, hn, ?_⟩⟩
        · simp only [jsS, if_pos hb, sumE_app, h1]
          simp only [sumE, List.map_cons, List.map_nil, List.sum_cons, List.sum_nil, if_pos hn]
          rw [Int.natCast_add, Int.add_mul]
          simp
        · rcases h2 with h2 | ⟨j, j1, j2, j3, j4⟩
          · subst h2; simp; omega
          · have hg := at_gap ⟨by omega, o4⟩ hi j (K - (j + 1))
            rw [show j + 1 + (K - (j + 1)) = K by omega] at hg
            have hk := hi K
            have e : ((c : Int) - 1) * t.p = (c : Int) * t.p - t.p := by rw [Int.sub_mul]; omega
            rw [show (((c + 1 : Nat) : Int) - 1) = c by omega]
            omega
      · refine keep ?_
        simp only [jsS, if_pos hb, sumE_app]
        simp only [sumE, List.map_cons, List.map_nil, List.sum_cons, List.sum_nil, if_neg hn]
        omega
    · refine keep ?_
      simp only [jsS, if_neg hb, sumE_app]
      simp only [sumE, List.map_nil, List.sum_nil]
      omega

theorem js_le {inc : Nat → Int} {t : Tk} {m b n : Int} (o : OkT t) (hm : 0 ≤ m) (hi : ∀ k, 0 ≤ inc k ∧ inc k ≤ 19) (K : Nat) : sumE n (jsS inc t m b K) ≤ jobsP n t * (t.w + m) := by
  obtain ⟨c, h1, h2⟩ := js_sum (m := m) (b := b) (n := n) o hi K
  obtain ⟨o1, o2, o3, o4⟩ := o
  rw [h1]
  refine Int.mul_le_mul_of_nonneg_right ?_ (by omega)
  unfold jobsP
  split
  · rename_i hn
    rcases h2 with h2 | ⟨j, j1, j2, j3, j4⟩
    · omega
    · omega
  · rename_i hn
    have b1 : 0 ≤ (n - t.d) / t.p := Int.ediv_nonneg (by omega) (by omega)
    rcases h2 with h2 | ⟨j, j1, j2, j3, j4⟩
    · omega
    · have : (c : Int) - 1 ≤ (n - t.d) / t.p := by
        rw [Int.le_ediv_iff_mul_le (by omega)]
        omega
      omega

theorem sound_plain {later : List Int} {L : List Tk} {a : List Int} {b n : Int} (o : ∀ t, t ∈ L → OkT t) (ha : ∀ m, m ∈ a → 0 ≤ m) (hla : a.length = L.length) : ∀ i : Nat, i ≤ L.length → sumE n (allS later L a b i) ≤ ((askP (jobsP n) L a).take i).sum
  | 0, _ => by simp [allS, sumE]
  | i + 1, h => by
    have ih := sound_plain (later := later) (b := b) (n := n) o ha hla i (by omega)
    have hl : (askP (jobsP n) L a).length = L.length := by simp [askP, hla]
    have h1 := js_le (n := n) (b := b) (o _ (List.getElem_mem (show i < L.length by omega))) (ha _ (List.getElem_mem (show i < a.length by omega))) (inc_in later i) 10
    have e : oneS later L a b i = jsS (incS later i) (L[i]'(by omega)) (a[i]'(by omega)) b 10 := by
      simp only [oneS, List.getElem?_eq_getElem (show i < L.length by omega), List.getElem?_eq_getElem (show i < a.length by omega)]
    rw [take_next (by omega), List.sum_append, allS, sumE_app, e]
    simp only [askP, List.getElem_zipWith, List.sum_cons, List.sum_nil] at *
    omega

/-- How long the rows of jobs are, and what they hold. -/
theorem js_in {inc : Nat → Int} {t : Tk} {m b : Int} (o : OkT t) (hm : 0 ≤ m ∧ m ≤ 4) (hb : 0 ≤ b ∧ b < 200) (hi : ∀ k, 0 ≤ inc k ∧ inc k ≤ 19) : ∀ K : Nat, K ≤ 10 → (jsS inc t m b K).length ≤ K ∧ ∀ x, x ∈ jsS inc t m b K → 0 ≤ x.1 ∧ x.1 ≤ 1000 ∧ 0 ≤ x.2 ∧ x.2 ≤ 100
  | 0, _ => by simp [jsS]
  | K + 1, hK => by
    obtain ⟨h1, h2⟩ := js_in o hm hb hi K (by omega)
    obtain ⟨o1, o2, o3, o4⟩ := o
    have ha := at_in (inc := inc) (p := t.p) ⟨by omega, o4⟩ hi K
    have hk := hi K
    simp only [jsS]
    split
    · refine ⟨by simp; omega, fun x hx => ?_⟩
      rcases List.mem_append.1 hx with h | h
      · exact h2 x h
      · rw [List.mem_singleton] at h
        subst h
        simp only
        omega
    · rw [List.append_nil]
      exact ⟨by omega, h2⟩
theorem all_in {later : List Int} {L : List Tk} {a : List Int} {b : Int} (o : ∀ t, t ∈ L → OkT t) (ha : ∀ m, m ∈ a → 0 ≤ m ∧ m ≤ 4) (hb : 0 ≤ b ∧ b < 200) : ∀ i : Nat, (allS later L a b i).length ≤ i * 10 ∧ ∀ x, x ∈ allS later L a b i → 0 ≤ x.1 ∧ x.1 ≤ 1000 ∧ 0 ≤ x.2 ∧ x.2 ≤ 100
  | 0 => by simp [allS]
  | i + 1 => by
    obtain ⟨h1, h2⟩ := all_in (later := later) o ha hb i
    have one : (oneS later L a b i).length ≤ 10 ∧ ∀ x, x ∈ oneS later L a b i → 0 ≤ x.1 ∧ x.1 ≤ 1000 ∧ 0 ≤ x.2 ∧ x.2 ≤ 100 := by
      unfold oneS
      split
      · rename_i t m ht hm
        exact js_in (o t (List.mem_of_getElem? ht)) (ha m (List.mem_of_getElem? hm)) hb (inc_in later i) 10 (Nat.le_refl _)
      · simp
    refine ⟨by simp only [allS, List.length_append]; omega, fun x hx => ?_⟩
    rcases List.mem_append.1 hx with h | h
    · exact h2 x h
    · exact one.2 x h
end Ir
end Go.Proofs.Ytbmnehpppegecaa
