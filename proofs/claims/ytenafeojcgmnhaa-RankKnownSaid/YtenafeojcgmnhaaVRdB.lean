/-
  Rank in plain Lean: ids in a heap.
-/
import Derived.Test.YtenafeojcgmnhaaVRdA
set_option maxRecDepth 100000
set_option linter.unusedSimpArgs false
set_option linter.unusedVariables false
namespace Go.Proofs.Ytenafeojcgmnhaa
open Go Ads
namespace Ir

theorem ah_iff {a b : Id} : ah a b = true ↔ a.2 < b.2 ∨ (a.2 = b.2 ∧ a.1 < b.1) := by simp [ah]
theorem ah_not {a b : Id} : ah a b = false ↔ b.2 < a.2 ∨ (a.2 = b.2 ∧ b.1 ≤ a.1) := by
  rw [← Bool.not_eq_true, ah_iff]
  omega
def gI (V : List Id) (i : Nat) : Id := V.getD i (0, 0)
theorem gI_eq {V : List Id} {i : Nat} (h : i < V.length) : gI V i = V[i] := by simp [gI, List.getD_eq_getElem?_getD, List.getElem?_eq_getElem h]
theorem gI_set {V : List Id} {i : Nat} (h : i < V.length) (x : Id) (k : Nat) : gI (V.set i x) k = if k = i then x else gI V k := by
  simp only [gI, List.getD_eq_getElem?_getD, List.getElem?_set]
  by_cases hk : i = k
  · subst hk; simp [h]
  · rw [if_neg hk, if_neg (Ne.symm hk)]
def swp (V : List Id) (i j : Nat) : List Id := (V.set i (gI V j)).set j (gI V i)
theorem swp_len (V : List Id) (i j : Nat) : (swp V i j).length = V.length := by simp [swp]
theorem gI_swp {V : List Id} {i j : Nat} (hi : i < V.length) (hj : j < V.length) (k : Nat) : gI (swp V i j) k = if k = j then gI V i else if k = i then gI V j else gI V k := by
  rw [swp, gI_set (by simpa using hj), gI_set hi]

/-- The same ids with the same keys. -/
def Same (V W : List Id) : Prop := V.length = W.length ∧ ∀ y, (∃ i, i < V.length ∧ gI V i = y) ↔ ∃ i, i < W.length ∧ gI W i = y
theorem Same.refl (V : List Id) : Same V V := ⟨rfl, fun _ => Iff.rfl⟩
theorem Same.trans {V W X : List Id} (a : Same V W) (b : Same W X) : Same V X := ⟨a.1.trans b.1, fun y => (a.2 y).trans (b.2 y)⟩
theorem same_swp {V : List Id} {i j : Nat} (hi : i < V.length) (hj : j < V.length) : Same V (swp V i j) := by
  refine ⟨(swp_len V i j).symm, fun y => ⟨?_, ?_⟩⟩
  · rintro ⟨k, hk, he⟩
    by_cases h1 : k = i
    · subst h1
      exact ⟨j, by rw [swp_len]; exact hj, by rw [gI_swp hi hj, if_pos rfl, he]⟩
    · by_cases h2 : k = j
      · subst h2
        exact ⟨i, by rw [swp_len]; exact hi, by rw [gI_swp hi hj, if_neg (fun e => h1 e.symm), if_pos rfl, he]⟩
      · exact ⟨k, by rw [swp_len]; exact hk, by rw [gI_swp hi hj, if_neg h2, if_neg h1, he]⟩
  · rintro ⟨k, hk, he⟩
    rw [swp_len] at hk
    rw [gI_swp hi hj] at he
    split at he
    · exact ⟨i, hi, he⟩
    · split at he
      · exact ⟨j, hj, he⟩
      · exact ⟨k, hk, he⟩

/-- Places tell where each id is, but for one. -/
structure PlV (V : List Id) (P : Nat → Nat) (a : Nat) : Prop where
  lt : a < V.length
  small : ∀ i, i < V.length → (gI V i).1 < 64
  dist : ∀ i j, i < V.length → j < V.length → (gI V i).1 = (gI V j).1 → i = j
  pl : ∀ i, i < V.length → i ≠ a → P (gI V i).1 = i + 1
  back : ∀ d, d < 64 → d ≠ (gI V a).1 → 0 < P d → P d ≤ V.length ∧ (gI V (P d - 1)).1 = d
structure PlF (V : List Id) (P : Nat → Nat) : Prop where
  small : ∀ i, i < V.length → (gI V i).1 < 64
  pl : ∀ i, i < V.length → P (gI V i).1 = i + 1
  back : ∀ d, d < 64 → 0 < P d → P d ≤ V.length ∧ (gI V (P d - 1)).1 = d
theorem PlF.dist {V : List Id} {P : Nat → Nat} (h : PlF V P) : ∀ i j, i < V.length → j < V.length → (gI V i).1 = (gI V j).1 → i = j := by
  intro i j hi hj he
  have h1 := h.pl i hi
  have h2 := h.pl j hj
  rw [he] at h1
  omega
theorem PlV.fill {V : List Id} {P : Nat → Nat} {a : Nat} (h : PlV V P a) : PlF V (upd P (gI V a).1 (a + 1)) := by
  refine ⟨h.small, fun i hi => ?_, fun d hd hp => ?_⟩
  · unfold upd
    split
    · rename_i he
      have := h.dist i a hi h.lt he
      omega
    · rename_i he
      exact h.pl i hi (by rintro rfl; exact he rfl)
  · unfold upd at hp ⊢
    split
    · rename_i he
      exact ⟨by have := h.lt; omega, by rw [he]; rfl⟩
    · rename_i he
      rw [if_neg he] at hp
      exact h.back d hd he hp
/-- The one at 'm' goes to 'a'; who has no place is at 'm'. -/
theorem PlV.step {V : List Id} {P : Nat → Nat} {a m : Nat} (h : PlV V P a) (hm : m < V.length) (hne : m ≠ a) : PlV (swp V a m) (upd P (gI V m).1 (a + 1)) m := by
  have hl := swp_len V a m
  have hg := gI_swp h.lt hm
  refine ⟨by omega, fun i hi => ?_, fun i j hi hj he => ?_, fun i hi hn => ?_, fun d hd hn hp => ?_⟩
  · rw [hg]
    have h1 := h.small a h.lt
    have h2 := h.small m hm
    have h3 := h.small i (by omega)
    split
    · exact h1
    · split
      · exact h2
      · exact h3
  · have hs : ∀ k, gI (swp V a m) k = gI V (if k = m then a else if k = a then m else k) := by
      intro k
      rw [hg]
      split
      · rfl
      · split <;> rfl
    have hlt := h.lt
    have hk : ∀ k, k < (swp V a m).length → (if k = m then a else if k = a then m else k) < V.length := by
      intro k hk
      split
      · omega
      · split <;> omega
    rw [hs, hs] at he
    have key := h.dist _ _ (hk i hi) (hk j hj) he
    revert key
    repeat' split
    all_goals (intro key; omega)
  · rw [hg, if_neg hn]
    unfold upd
    by_cases hia : i = a
    · rw [if_pos hia, if_pos rfl]; omega
    · rw [if_neg hia, if_neg (fun he => hn (h.dist i m (by omega) hm he))]
      exact h.pl i (by omega) hia
  · rw [hg, if_pos rfl] at hn
    unfold upd at hp ⊢
    by_cases hdm : d = (gI V m).1
    · rw [if_pos hdm]
      exact ⟨by have := h.lt; omega, by rw [hg, if_neg (by omega), if_pos (by omega), hdm]⟩
    · rw [if_neg hdm] at hp ⊢
      have := h.back d hd hn hp
      refine ⟨by omega, ?_⟩
      rw [hg, if_neg, if_neg]
      · exact this.2
      · intro e; rw [e] at this; exact hn this.2.symm
      · intro e; rw [e] at this; exact hdm this.2.symm

def Hp (V : List Id) : Prop := ∀ i, 0 < i → i < V.length → ah (gI V i) (gI V ((i - 1) / 2)) = false
def Hab (V : List Id) (a : Nat) : Prop := ∀ c, 0 < c → c < V.length → (c - 1) / 2 = a → 0 < a → ah (gI V c) (gI V ((a - 1) / 2)) = false
def Hch (V : List Id) (a : Nat) : Prop := ∀ c, 0 < c → c < V.length → (c - 1) / 2 = a → ah (gI V c) (gI V a) = false
structure Hup (V : List Id) (a : Nat) : Prop where
  o : ∀ i, 0 < i → i < V.length → i ≠ a → (i - 1) / 2 ≠ a → ah (gI V i) (gI V ((i - 1) / 2)) = false
  ab : Hab V a
structure Hdn (V : List Id) (a : Nat) : Prop where
  o : ∀ i, 0 < i → i < V.length → (i - 1) / 2 ≠ a → ah (gI V i) (gI V ((i - 1) / 2)) = false
  ab : Hab V a
theorem Hdn.full {V : List Id} {a : Nat} (h : Hdn V a) (hc : Hch V a) : Hp V := by
  intro i h0 hi
  by_cases hp : (i - 1) / 2 = a
  · rw [hp]; exact hc i h0 hi hp
  · exact h.o i h0 hi hp
theorem Hup.done {V : List Id} {a : Nat} (h : Hup V a) (hs : a = 0 ∨ ah (gI V a) (gI V ((a - 1) / 2)) = false) : Hdn V a := by
  refine ⟨fun i h0 hi hn => ?_, h.ab⟩
  by_cases ha : i = a
  · subst ha
    rcases hs with h1 | h1
    · omega
    · exact h1
  · exact h.o i h0 hi ha hn
theorem ah_tt {a b c : Id} (h1 : ah a b = false) (h2 : ah b c = false) : ah a c = false := by rw [ah_not] at *; omega
theorem ah_as {a b : Id} (h1 : ah a b = true) : ah b a = false := by rw [ah_not]; rw [ah_iff] at h1; omega
theorem Hup.step {V : List Id} {a : Nat} (h : Hup V a) (ha : 0 < a) (hl : a < V.length) (hs : ah (gI V a) (gI V ((a - 1) / 2)) = true) : Hup (swp V a ((a - 1) / 2)) ((a - 1) / 2) ∧ Hch (swp V a ((a - 1) / 2)) ((a - 1) / 2) := by
  obtain ⟨m, hm⟩ : ∃ m, m = (a - 1) / 2 := ⟨_, rfl⟩
  rw [← hm] at hs ⊢
  have hlen := swp_len V a m
  have hg := gI_swp hl (show m < V.length by omega)
  refine ⟨⟨fun i h0 hi hn hp => ?_, fun c h0 hc hp hma => ?_⟩, fun c h0 hc hp => ?_⟩
  · rw [hg, hg, if_neg hn, if_neg hp]
    have hia : i ≠ a := by rintro rfl; exact hp hm.symm
    rw [if_neg hia]
    by_cases hpa : (i - 1) / 2 = a
    · rw [if_pos hpa]
      have := h.ab i h0 (by omega) hpa ha
      rw [← hm] at this
      exact this
    · rw [if_neg hpa]
      exact h.o i h0 (by omega) hia hpa
  · have hmo := h.o m hma (by omega) (by omega) (by omega)
    have e1 : gI (swp V a m) ((m - 1) / 2) = gI V ((m - 1) / 2) := by rw [hg, if_neg (by omega), if_neg (by omega)]
    rw [e1, hg, if_neg (by omega)]
    by_cases hca : c = a
    · rw [if_pos hca]; exact hmo
    · rw [if_neg hca]
      have := h.o c h0 (by omega) hca (by omega)
      rw [hp] at this
      exact ah_tt this hmo
  · have e1 : gI (swp V a m) m = gI V a := by rw [hg, if_pos rfl]
    rw [e1, hg, if_neg (by omega)]
    by_cases hca : c = a
    · rw [if_pos hca]; exact ah_as hs
    · rw [if_neg hca]
      have := h.o c h0 (by omega) hca (by omega)
      rw [hp] at this
      exact ah_tt this (ah_as hs)
theorem Hdn.step {V : List Id} {a m : Nat} (h : Hdn V a) (hl : a < V.length) (hm0 : 0 < m) (hm : m < V.length) (hp : (m - 1) / 2 = a) (hs : ah (gI V m) (gI V a) = true)
    (hmin : ∀ c, 0 < c → c < V.length → (c - 1) / 2 = a → ah (gI V c) (gI V m) = false) : Hdn (swp V a m) m := by
  have hlen := swp_len V a m
  have hg := gI_swp hl hm
  refine ⟨fun i h0 hi hn => ?_, fun c h0 hc hpc hma => ?_⟩
  · by_cases him : i = m
    · subst him
      have e1 : gI (swp V a i) ((i - 1) / 2) = gI V i := by rw [hp, hg, if_neg (by omega), if_pos rfl]
      rw [e1, hg, if_pos rfl]
      exact ah_as hs
    · by_cases hia : i = a
      · subst hia
        have e1 : gI (swp V i m) ((i - 1) / 2) = gI V ((i - 1) / 2) := by rw [hg, if_neg hn, if_neg (by omega)]
        rw [e1, hg, if_neg him, if_pos rfl]
        exact h.ab m hm0 hm hp h0
      · rw [hg i, if_neg him, if_neg hia, hg, if_neg hn]
        by_cases hpa : (i - 1) / 2 = a
        · rw [if_pos hpa]
          exact hmin i h0 (by omega) hpa
        · rw [if_neg hpa]
          exact h.o i h0 (by omega) hpa
  · have e1 : gI (swp V a m) ((m - 1) / 2) = gI V m := by rw [hp, hg, if_neg (by omega), if_pos rfl]
    rw [e1, hg, if_neg (by omega), if_neg (by omega)]
    have := h.o c h0 (by omega) (by omega)
    rw [hpc] at this
    exact this
end Ir
end Go.Proofs.Ytenafeojcgmnhaa
