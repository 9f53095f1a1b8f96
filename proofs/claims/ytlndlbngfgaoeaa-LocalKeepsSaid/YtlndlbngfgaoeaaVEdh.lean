/-
  Jobs that run by the least deadline first: when what they ask for is given, nobody is late. What a server gives at least, whichever ticks of each period it runs in.
-/
import Derived.Test.YtlndlbngfgaoeaaVsLoop
import Derived.Test.YtlndlbngfgaoeaaVSup
set_option linter.unusedSimpArgs false
set_option linter.unusedVariables false
namespace Go.Proofs.Ytlndlbngfgaoeaa
namespace Edf
open Ads

def sm (f : Nat → Int) : Nat → Int
  | 0 => 0
  | m + 1 => sm f m + f m
theorem sm_le {f g : Nat → Int} : ∀ {m : Nat}, (∀ i, i < m → f i ≤ g i) → sm f m ≤ sm g m
  | 0, _ => Int.le_refl _
  | m + 1, h => by
    have h1 := sm_le (f := f) (g := g) (m := m) fun i hi => h i (by omega)
    have h2 := h m (by omega)
    simp only [sm]
    omega
theorem sm_eq {f g : Nat → Int} {m : Nat} (h : ∀ i, i < m → f i = g i) : sm f m = sm g m :=
  Int.le_antisymm (sm_le fun i hi => by rw [h i hi]; exact Int.le_refl _) (sm_le fun i hi => by rw [h i hi]; exact Int.le_refl _)
theorem sm_add (f g : Nat → Int) : ∀ m, sm (fun i => f i + g i) m = sm f m + sm g m
  | 0 => rfl
  | m + 1 => by
    have := sm_add f g m
    simp only [sm]
    omega
theorem sm_zero : ∀ m, sm (fun _ => 0) m = 0
  | 0 => rfl
  | m + 1 => by simp only [sm, sm_zero m]; rfl
theorem sm_nonneg {f : Nat → Int} {m : Nat} (h : ∀ i, i < m → 0 ≤ f i) : 0 ≤ sm f m := by
  rw [← sm_zero m]
  exact sm_le h
theorem sm_pos {f : Nat → Int} : ∀ {m : Nat}, (∀ i, i < m → 0 ≤ f i) → 0 < sm f m → ∃ i, i < m ∧ 0 < f i
  | 0, _, h => by simp [sm] at h
  | m + 1, h0, h => by
    by_cases hm : 0 < f m
    · exact ⟨m, by omega, hm⟩
    · simp only [sm] at h
      obtain ⟨i, hi, h1⟩ := sm_pos (f := f) (m := m) (fun i hi => h0 i (by omega)) (by omega)
      exact ⟨i, by omega, h1⟩
theorem sm_point (f : Nat → Int) (k : Nat) (a : Int) : ∀ {m : Nat}, k < m → sm (fun i => f i - if i = k then a else 0) m = sm f m - a
  | m + 1, h => by
    by_cases hk : k = m
    · subst hk
      have : sm (fun i => f i - if i = k then a else 0) k = sm f k := sm_eq fun i hi => by rw [if_neg (by omega)]; omega
      show sm (fun i => f i - if i = k then a else 0) k + (f k - if k = k then a else 0) = sm f k + f k - a
      rw [this, if_pos rfl]
      omega
    · have := sm_point f k a (m := m) (by omega)
      show sm (fun i => f i - if i = k then a else 0) m + (f m - if m = k then a else 0) = sm f m + f m - a
      rw [this, if_neg (by omega)]
      omega
theorem sm_mem {f : Nat → Int} {m : Nat} (h : ∀ i, i < m → 0 ≤ f i) {k : Nat} (hk : k < m) : f k ≤ sm f m := by
  have h1 : sm (fun i => if i = k then f k else 0) m ≤ sm f m := sm_le fun i hi => by
    by_cases he : i = k
    · rw [if_pos he, he]; exact Int.le_refl _
    · rw [if_neg he]; exact h i hi
  have h2 : sm (fun i => if i = k then f k else 0) m = f k := by
    have := sm_point (fun _ => 0) k (f k) hk
    rw [sm_zero] at this
    have h3 : sm (fun i => (0 : Int) - if i = k then f k else 0) m + sm (fun i => if i = k then f k else 0) m = 0 := by
      rw [← sm_add]
      have hz : sm (fun i => (0 - if i = k then f k else 0) + if i = k then f k else 0) m = sm (fun _ => 0) m := sm_eq fun i hi => by
        by_cases h : i = k
        · rw [if_pos h]; omega
        · rw [if_neg h]; omega
      rw [hz, sm_zero]
    omega
  omega

/-- The ticks of so many in which one runs. -/
def gs (runs : Nat → Bool) (s : Nat) : Nat → Int
  | 0 => 0
  | k + 1 => gs runs s k + if runs (s + k) = true then 1 else 0

section
variable (m : Nat) (D C P : Nat → Int) (runs : Nat → Bool) (e l n : Nat → Nat → Int)
def eR (u i : Nat) : Int := if n u i ≤ (u : Nat) then ((u : Nat) : Int) + D i else e u i
def lR (u i : Nat) : Int := if n u i ≤ (u : Nat) then C i else l u i
/-- What is asked for, of a task, of so many ticks. -/
def dbf (t : Int) (i : Nat) : Int := if D i ≤ t then (1 + (t - D i) / P i) * C i else 0

/-- Jobs that are played: by the least deadline first. -/
structure Play (N : Nat) : Prop where
  task : ∀ i, i < m → 1 ≤ C i ∧ D i ≤ P i ∧ 1 ≤ P i
  init : ∀ i, i < m → l 0 i = 0
  ends : ∀ u, u < N → ∀ i, i < m → e (u + 1) i = eR D e n u i
  next1 : ∀ u, u < N → ∀ i, i < m → n u i ≤ (u : Nat) → ((u : Nat) : Int) + P i ≤ n (u + 1) i
  next2 : ∀ u, u < N → ∀ i, i < m → ¬ n u i ≤ (u : Nat) → n (u + 1) i = n u i
  idle : ∀ u, u < N → (runs u = false ∨ ∀ i, i < m → lR C l n u i ≤ 0) → ∀ i, i < m → l (u + 1) i = lR C l n u i
  run : ∀ u, u < N → runs u = true → (∃ i, i < m ∧ 0 < lR C l n u i) → ∃ k, k < m ∧ 0 < lR C l n u k ∧ (∀ i, i < m → 0 < lR C l n u i → eR D e n u k ≤ eR D e n u i) ∧ ∀ i, i < m → l (u + 1) i = lR C l n u i - if i = k then 1 else 0
end

section
variable {m : Nat} {D C P : Nat → Int} {runs : Nat → Bool} {e l n : Nat → Nat → Int} {N : Nat}

theorem Play.cases (p : Play m D C P runs e l n N) {u : Nat} (hu : u < N) : (∀ i, i < m → l (u + 1) i = lR C l n u i) ∨ (runs u = true ∧ ∃ k, k < m ∧ 0 < lR C l n u k ∧ (∀ i, i < m → 0 < lR C l n u i → eR D e n u k ≤ eR D e n u i) ∧ ∀ i, i < m → l (u + 1) i = lR C l n u i - if i = k then 1 else 0) := by
  cases hr : runs u with
  | false => exact .inl (p.idle u hu (.inl hr))
  | true =>
    by_cases hex : ∃ i, i < m ∧ 0 < lR C l n u i
    · exact .inr ⟨rfl, p.run u hu hr hex⟩
    · refine .inl (p.idle u hu (.inr fun i hi => ?_))
      by_cases h : lR C l n u i ≤ 0
      · exact h
      · exact absurd ⟨i, hi, by omega⟩ hex
theorem Play.inv (p : Play m D C P runs e l n N) : ∀ u, u ≤ N → ∀ i, i < m → 0 ≤ l u i ∧ (0 < l u i → e u i ≤ n u i)
  | 0, _, i, hi => by rw [p.init i hi]; exact ⟨Int.le_refl _, fun h => absurd h (by omega)⟩
  | u + 1, hu, i, hi => by
    obtain ⟨h1, h2⟩ := p.inv u (by omega) i hi
    obtain ⟨t1, t2, t3⟩ := p.task i hi
    have hle : 0 ≤ l (u + 1) i ∧ l (u + 1) i ≤ lR C l n u i := by
      have h0 : 0 ≤ lR C l n u i := by unfold lR; split <;> omega
      rcases p.cases (show u < N by omega) with h | ⟨-, k, hk, hk1, -, h⟩
      · rw [h i hi]; omega
      · rw [h i hi]
        by_cases hik : i = k
        · subst hik; rw [if_pos rfl]; omega
        · rw [if_neg hik]; omega
    refine ⟨hle.1, fun h => ?_⟩
    rw [p.ends u (by omega) i hi]
    by_cases hn : n u i ≤ (u : Nat)
    · have := p.next1 u (by omega) i hi hn
      unfold eR
      rw [if_pos hn]
      omega
    · have := p.next2 u (by omega) i hi hn
      unfold eR
      unfold lR at hle
      rw [if_neg hn] at hle ⊢
      rw [this]
      exact h2 (by omega)

def pend (m : Nat) (e l : Nat → Nat → Int) (x : Int) (u : Nat) : Int := sm (fun i => if e u i ≤ x then l u i else 0) m
def rel (D C : Nat → Int) (n : Nat → Nat → Int) (x : Int) (u i : Nat) : Int := if n u i ≤ (u : Nat) ∧ ((u : Nat) : Int) + D i ≤ x then C i else 0

theorem Play.after (p : Play m D C P runs e l n N) {u : Nat} (hu : u < N) {x : Int} (hmiss : ∀ i, i < m → 0 < l u i → ((u : Nat) : Int) < e u i) :
    sm (fun i => if eR D e n u i ≤ x then lR C l n u i else 0) m = pend m e l x u + sm (rel D C n x u) m := by
  unfold pend
  rw [← sm_add]
  refine sm_eq fun i hi => ?_
  obtain ⟨h1, h2⟩ := p.inv u (by omega) i hi
  have h3 := hmiss i hi
  by_cases hn : n u i ≤ (u : Nat)
  · have h0 : l u i = 0 := by
      by_cases h : 0 < l u i
      · have := h2 h; have := h3 h; omega
      · omega
    have e1 : eR D e n u i = ((u : Nat) : Int) + D i := by rw [eR, if_pos hn]
    have l1 : lR C l n u i = C i := by rw [lR, if_pos hn]
    rw [e1, l1, h0]
    by_cases hx : ((u : Nat) : Int) + D i ≤ x
    · have r1 : rel D C n x u i = C i := by rw [rel, if_pos ⟨hn, hx⟩]
      rw [if_pos hx, r1]
      split <;> omega
    · have r1 : rel D C n x u i = 0 := by rw [rel, if_neg (fun h => hx h.2)]
      rw [if_neg hx, r1]
      split <;> omega
  · have e1 : eR D e n u i = e u i := by rw [eR, if_neg hn]
    have l1 : lR C l n u i = l u i := by rw [lR, if_neg hn]
    have r1 : rel D C n x u i = 0 := by rw [rel, if_neg (fun h => hn h.1)]
    rw [e1, l1, r1]
    omega
theorem Play.tick (p : Play m D C P runs e l n N) {u : Nat} (hu : u < N) {x : Int} (hmiss : ∀ i, i < m → 0 < l u i → ((u : Nat) : Int) < e u i) (hpos : 0 < pend m e l x (u + 1)) :
    pend m e l x (u + 1) = pend m e l x u + sm (rel D C n x u) m - if runs u = true then 1 else 0 := by
  rw [← p.after hu (x := x) hmiss]
  have hinv := p.inv (u + 1) (by omega)
  obtain ⟨i, hi, hi2⟩ := sm_pos (fun i hi => by split; exact (hinv i hi).1; exact Int.le_refl _) hpos
  have hie : e (u + 1) i ≤ x ∧ 0 < l (u + 1) i := by
    by_cases h : e (u + 1) i ≤ x
    · rw [if_pos h] at hi2; exact ⟨h, hi2⟩
    · rw [if_neg h] at hi2; omega
  rw [p.ends u hu i hi] at hie
  have he : pend m e l x (u + 1) = sm (fun i => if eR D e n u i ≤ x then l (u + 1) i else 0) m := sm_eq fun i hi => by rw [p.ends u hu i hi]
  rw [he]
  cases hr : runs u with
  | false =>
    have := p.idle u hu (.inl hr)
    simp only [Bool.false_eq_true, if_false, Int.sub_zero]
    exact sm_eq fun i hi => by rw [this i hi]
  | true =>
    have hex : ∃ i, i < m ∧ 0 < lR C l n u i := by
      rcases p.cases hu with h | ⟨-, k, hk, hk1, -⟩
      · exact ⟨i, hi, by rw [← h i hi]; exact hie.2⟩
      · exact ⟨k, hk, hk1⟩
    obtain ⟨k, hk, hk1, hk2, hk3⟩ := p.run u hu hr hex
    have hli : 0 < lR C l n u i := by
      have := hk3 i hi
      by_cases hik : i = k
      · subst hik; exact hk1
      · rw [if_neg hik] at this; omega
    have hkx : eR D e n u k ≤ x := by have := hk2 i hi hli; omega
    simp only [if_true]
    rw [← sm_point _ k 1 hk]
    refine sm_eq fun j hj => ?_
    rw [hk3 j hj]
    by_cases hjk : j = k
    · subst hjk
      rw [if_pos hkx, if_pos hkx, if_pos rfl]
    · rw [if_neg hjk]
      split <;> omega

/-- How much of a task's is released. -/
def rs (D C : Nat → Int) (n : Nat → Nat → Int) (x : Int) (s : Nat) (i : Nat) : Nat → Int
  | 0 => 0
  | k + 1 => rs D C n x s i k + rel D C n x (s + k) i
theorem Play.count (p : Play m D C P runs e l n N) {x : Int} {s i : Nat} (hi : i < m) : ∀ k, s + k ≤ N → ∃ c : Nat, rs D C n x s i k = c * C i ∧ (c = 0 ∨ (((s : Nat) : Int) + c * P i ≤ n (s + k) i ∧ ((s : Nat) : Int) + ((c : Nat) - 1 : Int) * P i + D i ≤ x))
  | 0, _ => ⟨0, by simp [rs], .inl rfl⟩
  | k + 1, h => by
    obtain ⟨c, h1, h2⟩ := p.count (x := x) (s := s) hi k (by omega)
    obtain ⟨t1, t2, t3⟩ := p.task i hi
    by_cases hn : n (s + k) i ≤ ((s + k : Nat) : Int)
    · have hx1 := p.next1 (s + k) (by omega) i hi hn
      by_cases hx : ((s + k : Nat) : Int) + D i ≤ x
      · refine ⟨c + 1, ?_, .inr ⟨?_, ?_⟩⟩
        · rw [rs, h1, rel, if_pos ⟨hn, hx⟩]
          rw [show ((c + 1 : Nat) : Int) = (c : Int) + 1 by omega, Int.add_mul]
          omega
        · rw [show ((c + 1 : Nat) : Int) = (c : Int) + 1 by omega, Int.add_mul]
          show _ ≤ n (s + k + 1) i
          rcases h2 with rfl | ⟨h2, -⟩
          · simp
            omega
          · omega
        · rw [show ((c + 1 : Nat) : Int) - 1 = (c : Int) by omega]
          rcases h2 with rfl | ⟨h2, -⟩
          · simp
            omega
          · omega
      · refine ⟨c, by rw [rs, h1, rel, if_neg (fun h => hx h.2)]; omega, ?_⟩
        rcases h2 with rfl | ⟨h2, h3⟩
        · exact .inl rfl
        · exact .inr ⟨by show _ ≤ n (s + k + 1) i; omega, h3⟩
    · have hx2 := p.next2 (s + k) (by omega) i hi hn
      refine ⟨c, by rw [rs, h1, rel, if_neg (fun h => hn h.1)]; omega, ?_⟩
      rcases h2 with rfl | ⟨h2, h3⟩
      · exact .inl rfl
      · exact .inr ⟨by show _ ≤ n (s + k + 1) i; omega, h3⟩
theorem Play.asked (p : Play m D C P runs e l n N) {x : Int} {s i k : Nat} (hi : i < m) (h : s + k ≤ N) : rs D C n x s i k ≤ dbf D C P (x - (s : Nat)) i := by
  obtain ⟨c, h1, h2⟩ := p.count (x := x) hi k h
  obtain ⟨t1, t2, t3⟩ := p.task i hi
  rw [h1, dbf]
  rcases h2 with rfl | ⟨-, h2⟩
  · split
    · rename_i hd
      have := Int.ediv_nonneg (show 0 ≤ x - (s : Nat) - D i by omega) (show 0 ≤ P i by omega)
      have := Int.mul_nonneg (show 0 ≤ 1 + (x - (s : Nat) - D i) / P i by omega) (show 0 ≤ C i by omega)
      simp
      exact this
    · simp
  · by_cases hc : c = 0
    · subst hc
      split
      · have := Int.ediv_nonneg (show 0 ≤ x - (s : Nat) - D i by omega) (show 0 ≤ P i by omega)
        have := Int.mul_nonneg (show 0 ≤ 1 + (x - (s : Nat) - D i) / P i by omega) (show 0 ≤ C i by omega)
        simp
        exact this
      · simp
    · have h3 : 0 ≤ ((c : Nat) - 1 : Int) * P i := Int.mul_nonneg (by omega) (by omega)
      rw [if_pos (by omega)]
      refine Int.mul_le_mul_of_nonneg_right ?_ (by omega)
      have := (Int.le_ediv_iff_mul_le (show 0 < P i by omega)).2 (show ((c : Nat) - 1 : Int) * P i ≤ x - (s : Nat) - D i by omega)
      omega

theorem Play.span (p : Play m D C P runs e l n N) {x : Int} {s : Nat} (h0 : pend m e l x s = 0) : ∀ k, s + k ≤ N → (∀ u, u < s + k → ∀ i, i < m → 0 < l u i → ((u : Nat) : Int) < e u i) → (∀ j, 0 < j → j ≤ k → 0 < pend m e l x (s + j)) →
    pend m e l x (s + k) = sm (fun i => rs D C n x s i k) m - gs runs s k
  | 0, _, _, _ => by
    rw [Nat.add_zero, h0, gs, show (fun i => rs D C n x s i 0) = fun _ => 0 from rfl, sm_zero]
    rfl
  | k + 1, h, hm, hp => by
    have ih := p.span h0 k (by omega) (fun u hu => hm u (by omega)) (fun j h1 h2 => hp j h1 (by omega))
    have ht := p.tick (u := s + k) (by omega) (x := x) (hm (s + k) (by omega)) (hp (k + 1) (by omega) (Nat.le_refl _))
    show pend m e l x (s + k + 1) = _
    rw [ht, ih, gs]
    have : sm (fun i => rs D C n x s i (k + 1)) m = sm (fun i => rs D C n x s i k) m + sm (rel D C n x (s + k)) m := by
      rw [← sm_add]
      exact sm_eq fun i hi => rfl
    rw [this]
    omega

/-- Nobody is late. -/
theorem Play.keeps (p : Play m D C P runs e l n N) (hs : ∀ s k : Nat, s + k ≤ N → 0 < sm (dbf D C P ((k : Nat) : Int)) m → sm (dbf D C P ((k : Nat) : Int)) m ≤ gs runs s k) (hg : ∀ s k, 0 ≤ gs runs s k) :
    ∀ u, u ≤ N → ∀ i, i < m → 0 < l u i → ((u : Nat) : Int) < e u i := by
  intro u
  induction u using Nat.strongRecOn with
  | _ u ih =>
    intro hu i hi hl
    by_cases hlate : ((u : Nat) : Int) < e u i
    · exact hlate
    exfalso
    have hpu : 0 < pend m e l ((u : Nat) : Int) u := by
      have hinv := p.inv u hu
      have h1 := sm_mem (f := fun i => if e u i ≤ ((u : Nat) : Int) then l u i else 0) (m := m) (fun i hi => by split; exact (hinv i hi).1; exact Int.le_refl _) hi
      rw [if_pos (by omega)] at h1
      unfold pend
      omega
    have hnn : ∀ v, v ≤ N → 0 ≤ pend m e l ((u : Nat) : Int) v := fun v hv => sm_nonneg fun i hi => by split; exact (p.inv v hv i hi).1; exact Int.le_refl _
    have h00 : pend m e l ((u : Nat) : Int) 0 = 0 := by
      have hz : pend m e l ((u : Nat) : Int) 0 = sm (fun _ => 0) m := sm_eq fun i hi => by rw [p.init i hi]; split <;> rfl
      rw [hz, sm_zero]
    obtain ⟨k, hk, hk2⟩ := least (p := fun k => k ≤ u ∧ pend m e l ((u : Nat) : Int) (u - k) = 0) ⟨u, Nat.le_refl _, by rw [Nat.sub_self]; exact h00⟩
    obtain ⟨hku, hk0⟩ := hk
    have hsp := p.span hk0 k (by omega) (fun v hv i hi h => ih v (by omega) (by omega) i hi h) (fun j j1 j2 => by
      have h1 := hk2 (k - j) (by omega)
      have h2 := hnn (u - k + j) (by omega)
      rw [show u - k + j = u - (k - j) by omega] at h2 ⊢
      by_cases h3 : pend m e l ((u : Nat) : Int) (u - (k - j)) = 0
      · exact absurd ⟨by omega, h3⟩ h1
      · omega)
    rw [show u - k + k = u by omega] at hsp
    have hle : sm (fun i => rs D C n ((u : Nat) : Int) (u - k) i k) m ≤ sm (dbf D C P ((k : Nat) : Int)) m := sm_le fun i hi => by
      have := p.asked (x := ((u : Nat) : Int)) (s := u - k) (k := k) hi (by omega)
      rwa [show ((u : Nat) : Int) - ((u - k : Nat) : Int) = ((k : Nat) : Int) by omega] at this
    have hgk := hg (u - k) k
    by_cases hd : 0 < sm (dbf D C P ((k : Nat) : Int)) m
    · have := hs (u - k) k (by omega) hd
      omega
    · omega
theorem gs_nonneg (runs : Nat → Bool) (s : Nat) : ∀ k, 0 ≤ gs runs s k
  | 0 => Int.le_refl _
  | k + 1 => by
    have := gs_nonneg runs s k
    rw [gs]
    split <;> omega
end
end Edf
end Go.Proofs.Ytlndlbngfgaoeaa
set_option linter.unusedSimpArgs false
set_option linter.unusedVariables false
namespace Go.Proofs.Ytlndlbngfgaoeaa
namespace Edf
open Ads

theorem gs_add (runs : Nat → Bool) (s a : Nat) : ∀ b, gs runs s (a + b) = gs runs s a + gs runs (s + a) b
  | 0 => by simp [gs]
  | b + 1 => by
    rw [show a + (b + 1) = a + b + 1 by omega, gs, gs, gs_add runs s a b, show s + (a + b) = s + a + b by omega]
    omega
theorem gs_le (runs : Nat → Bool) (s : Nat) : ∀ k, gs runs s k ≤ (k : Nat)
  | 0 => Int.le_refl _
  | k + 1 => by
    have := gs_le runs s k
    rw [gs]
    split <;> omega

theorem gs_block {runs : Nat → Bool} {P B M : Nat} (hb : ∀ q, (q + 1) * P ≤ M → gs runs (q * P) P = (B : Nat)) : ∀ q, q * P ≤ M → gs runs 0 (q * P) = (q : Int) * (B : Nat)
  | 0, _ => by simp [gs]
  | q + 1, h => by
    have h1 : (q + 1) * P = q * P + P := Nat.succ_mul q P
    have ih := gs_block hb q (by omega)
    rw [h1, gs_add, ih, Nat.zero_add, hb q h]
    rw [show ((q + 1 : Nat) : Int) = (q : Int) + 1 by omega, Int.add_mul]
    omega
/-- Up to a tick of a period. -/
theorem gs_upto {runs : Nat → Bool} {P B M : Nat} (hP : 1 ≤ P) (hB : B ≤ P) (hb : ∀ q, (q + 1) * P ≤ M → gs runs (q * P) P = (B : Nat)) (hM : P ∣ M) {x : Nat} (hx : x ≤ M) :
    ∃ q r : Nat, x = q * P + r ∧ r < P ∧ (q : Int) * (B : Nat) + max 0 ((r : Int) - ((P : Nat) - (B : Nat))) ≤ gs runs 0 x ∧ gs runs 0 x ≤ (q : Int) * (B : Nat) + min (r : Int) (B : Nat) := by
  have hdm := Nat.div_add_mod x P
  have hr := Nat.mod_lt x (show 0 < P by omega)
  refine ⟨x / P, x % P, by rw [Nat.mul_comm] at hdm; omega, hr, ?_⟩
  have hxq : x = x / P * P + x % P := by rw [Nat.mul_comm] at hdm; omega
  generalize x / P = q at *
  generalize x % P = r at *
  subst hxq
  have h0 := gs_block hb q (by omega)
  rw [gs_add, h0, Nat.zero_add]
  have g1 := gs_nonneg runs (q * P) r
  have g2 := gs_le runs (q * P) r
  by_cases hr0 : r = 0
  · subst hr0
    simp only [gs]
    omega
  · have hq1 : (q + 1) * P ≤ M := by
      obtain ⟨c, hc⟩ := hM
      subst hc
      have : q < c := by
        by_cases h : q < c
        · exact h
        · have := Nat.mul_le_mul_right P (show c ≤ q by omega)
          rw [Nat.mul_comm P c] at hx
          omega
      rw [Nat.mul_comm P c]
      exact Nat.mul_le_mul_right P this
    have h3 := hb q hq1
    have h4 := gs_add runs (q * P) r (P - r)
    rw [show r + (P - r) = P by omega, h3] at h4
    have g3 := gs_nonneg runs (q * P + r) (P - r)
    have g4 := gs_le runs (q * P + r) (P - r)
    omega

theorem supply_least {runs : Nat → Bool} {P B M : Nat} (hP : 1 ≤ P) (hB1 : 1 ≤ B) (hB : B ≤ P) (hb : ∀ q, (q + 1) * P ≤ M → gs runs (q * P) P = (B : Nat)) (hM : P ∣ M) {s k : Nat} (h : s + k ≤ M) :
    Ir.givesS (P : Nat) (B : Nat) (k : Nat) ≤ gs runs s k := by
  have hnn := gs_nonneg runs s k
  unfold Ir.givesS
  by_cases hI : ((k : Nat) : Int) < (P : Nat) - (B : Nat)
  · rw [if_pos hI]; exact hnn
  rw [if_neg hI]
  obtain ⟨a, r, ha, hr, a1, a2⟩ := gs_upto hP hB hb hM (show s ≤ M by omega)
  obtain ⟨b, t, hb', ht, b1, b2⟩ := gs_upto hP hB hb hM h
  have hadd := gs_add runs 0 s k
  rw [Nat.zero_add] at hadd
  have hab : a ≤ b := by
    by_cases h : a ≤ b
    · exact h
    · have := Nat.mul_le_mul_right P (show b + 1 ≤ a by omega)
      rw [Nat.succ_mul] at this
      omega
  obtain ⟨c, rfl⟩ : ∃ c, b = a + c := ⟨b - a, by omega⟩
  rw [Nat.add_mul] at hb'
  rw [show ((a + c : Nat) : Int) = (a : Int) + c by omega, Int.add_mul] at b1 b2
  have hk : ((k : Nat) : Int) = (c : Int) * (P : Nat) + t - r := by
    have : k + r = c * P + t := by omega
    have h2 : ((k + r : Nat) : Int) = ((c * P + t : Nat) : Int) := by rw [this]
    rw [Int.natCast_add, Int.natCast_add, Int.natCast_mul] at h2
    omega
  have hPpos : (0 : Int) < (P : Nat) := by omega
  have hw1 := Int.ediv_mul_le (((k : Nat) : Int) - ((P : Nat) - (B : Nat))) (show ((P : Nat) : Int) ≠ 0 by omega)
  have hw2 := Int.lt_ediv_add_one_mul_self (((k : Nat) : Int) - ((P : Nat) - (B : Nat))) hPpos
  have hw0 := Int.ediv_nonneg (show 0 ≤ ((k : Nat) : Int) - ((P : Nat) - (B : Nat)) by omega) (show (0 : Int) ≤ (P : Nat) by omega)
  generalize (((k : Nat) : Int) - ((P : Nat) - (B : Nat))) / ((P : Nat) : Int) = w at *
  rw [Int.add_mul] at hw2
  -- w is c, c - 1 or c - 2
  have hwc : w = (c : Int) ∨ w = (c : Int) - 1 ∨ w = (c : Int) - 2 := by
    have h1 : w ≤ c := by
      by_cases h : w ≤ c
      · exact h
      · have := Int.mul_le_mul_of_nonneg_right (show (c : Int) + 1 ≤ w by omega) (show (0 : Int) ≤ (P : Nat) by omega)
        rw [Int.add_mul] at this
        omega
    have h2 : (c : Int) - 2 ≤ w := by
      by_cases h : (c : Int) - 2 ≤ w
      · exact h
      · have := Int.mul_le_mul_of_nonneg_right (show w ≤ (c : Int) - 3 by omega) (show (0 : Int) ≤ (P : Nat) by omega)
        rw [Int.sub_mul] at this
        omega
    omega
  rcases hwc with rfl | rfl | rfl
  · generalize (c : Int) * (P : Nat) = X at *
    generalize (c : Int) * (B : Nat) = Y at *
    omega
  · rw [Int.sub_mul] at hw1 hw2 ⊢
    rw [Int.sub_mul]
    generalize (c : Int) * (P : Nat) = X at *
    generalize (c : Int) * (B : Nat) = Y at *
    omega
  · rw [Int.sub_mul] at hw1 hw2 ⊢
    rw [Int.sub_mul]
    generalize (c : Int) * (P : Nat) = X at *
    generalize (c : Int) * (B : Nat) = Y at *
    omega
end Edf
end Go.Proofs.Ytlndlbngfgaoeaa
