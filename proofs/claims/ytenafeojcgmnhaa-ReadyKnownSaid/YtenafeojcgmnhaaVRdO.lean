/-
  Ready in plain Lean: a queue's ids and the document's deadlines.
-/
import Derived.Test.YtenafeojcgmnhaaVRdN
set_option maxRecDepth 100000
set_option linter.unusedSimpArgs false
set_option linter.unusedVariables false
namespace Go.Proofs.Ytenafeojcgmnhaa
open Go Ads
namespace Ir

theorem sorted_uniq {α : Type} {r : α → α → Prop} (irr : ∀ x, ¬ r x x) (asy : ∀ x y, r x y → ¬ r y x) : ∀ (A B : List α), A.Pairwise r → B.Pairwise r → (∀ y, y ∈ A ↔ y ∈ B) → A = B
  | [], [], _, _, _ => rfl
  | [], b :: B, _, _, h => absurd ((h b).2 List.mem_cons_self) (by simp)
  | a :: A, [], _, _, h => absurd ((h a).1 List.mem_cons_self) (by simp)
  | a :: A, b :: B, ha, hb, h => by
    rw [List.pairwise_cons] at ha hb
    have e : a = b := by
      rcases List.mem_cons.1 ((h a).1 List.mem_cons_self) with e | e
      · exact e
      · rcases List.mem_cons.1 ((h b).2 List.mem_cons_self) with e2 | e2
        · exact e2.symm
        · exact absurd (ha.1 b e2) (asy _ _ (hb.1 a e))
    subst e
    congr 1
    refine sorted_uniq irr asy A B ha.2 hb.2 fun y => ⟨fun hy => ?_, fun hy => ?_⟩
    · rcases List.mem_cons.1 ((h y).1 (List.mem_cons_of_mem _ hy)) with e | e
      · subst e; exact absurd (ha.1 y hy) (irr y)
      · exact e
    · rcases List.mem_cons.1 ((h y).2 (List.mem_cons_of_mem _ hy)) with e | e
      · subst e; exact absurd (hb.1 y hy) (irr y)
      · exact e

/-- The code's ids and the document's deadlines are the same. -/
structure Mch (L : List Id) (D : List Int) : Prop where
  to : ∀ y ∈ L, y.1 < D.length ∧ gD D y.1 = y.2 ∧ 0 ≤ y.2
  of : ∀ i, i < D.length → 0 ≤ gD D i → (i, gD D i) ∈ L
theorem gD_rep {n i : Nat} (h : i < n) : gD (rep n) i = -1 := by
  rw [gD_eq (by rw [rep_len]; exact h)]
  simp [rep]
theorem mch_new (n : Nat) : Mch [] (rep n) := ⟨fun y hy => by simp at hy, fun i hi h => by rw [rep_len] at hi; rw [gD_rep hi] at h; omega⟩
theorem Mch.put {L L' : List Id} {D : List Int} (h : Mch L D) {i : Nat} {d : Int} (hi : i < D.length) (hd : 0 ≤ d) (hn : gD D i < 0) (hL : ∀ y, y ∈ L' ↔ y ∈ L ∨ y = (i, d)) : Mch L' (D.set i d) := by
  refine ⟨fun y hy => ?_, fun j hj h0 => ?_⟩
  · rw [List.length_set, gD_set hi]
    rcases (hL y).1 hy with hy | hy
    · have := h.to y hy
      rw [if_neg (by rintro rfl; omega)]
      exact this
    · subst hy
      rw [if_pos rfl]
      exact ⟨hi, rfl, hd⟩
  · rw [List.length_set] at hj
    rw [gD_set hi] at h0 ⊢
    rw [hL]
    by_cases e : j = i
    · subst e
      rw [if_pos rfl]
      exact .inr rfl
    · rw [if_neg e] at h0 ⊢
      exact .inl (h.of j hj h0)
theorem Mch.remove {L L' : List Id} {D : List Int} (h : Mch L D) {i : Nat} (hi : i < D.length) (hL : ∀ y, y ∈ L' ↔ y ∈ L ∧ y.1 ≠ i) : Mch L' (D.set i (-1)) := by
  refine ⟨fun y hy => ?_, fun j hj h0 => ?_⟩
  · have hy := (hL y).1 hy
    rw [List.length_set, gD_set hi, if_neg hy.2]
    exact h.to y hy.1
  · rw [List.length_set] at hj
    rw [gD_set hi] at h0 ⊢
    rw [hL]
    by_cases e : j = i
    · subst e
      rw [if_pos rfl] at h0
      omega
    · rw [if_neg e] at h0 ⊢
      exact ⟨h.of j hj h0, e⟩
theorem Mch.has {L : List Id} {D : List Int} (h : Mch L D) (id : Int) : hasD D id = true ↔ ∃ y ∈ L, id = (y.1 : Int) := by
  simp only [hasD, Bool.and_eq_true, decide_eq_true_eq]
  constructor
  · rintro ⟨h1, h2, h3⟩
    refine ⟨(id.toNat, gD D id.toNat), h.of id.toNat (by omega) h3, ?_⟩
    show id = ((id.toNat : Nat) : Int)
    omega
  · rintro ⟨y, hy, rfl⟩
    have := h.to y hy
    refine ⟨by omega, by omega, ?_⟩
    rw [Int.toNat_natCast, this.2.1]
    exact this.2.2
theorem Mch.val {L : List Id} {D : List Int} (h : Mch L D) {y : Id} (hy : y ∈ L) {id : Int} (e : id = (y.1 : Int)) : gD D id.toNat = y.2 := by
  subst e
  rw [Int.toNat_natCast]
  exact (h.to y hy).2.1

def rD (D : List Int) (x y : Nat) : Prop := gD D x < gD D y ∨ (gD D x = gD D y ∧ x < y)
theorem dj_mem (D : List Int) : ∀ i x, x ∈ dj D i ↔ x < i ∧ 0 ≤ gD D x
  | 0, x => by simp [dj]
  | i + 1, x => by
    have ih := dj_mem D i x
    unfold dj
    split
    · rw [ih]
      constructor
      · rintro ⟨h1, h2⟩; exact ⟨by omega, h2⟩
      · rintro ⟨h1, h2⟩
        refine ⟨?_, h2⟩
        rcases Nat.lt_or_ge x i with h | h
        · exact h
        · have : x = i := by omega
          subst this
          omega
    · have hm : x ∈ (dj D i).take (cutK (leD D i) (dj D i)) ∨ x ∈ (dj D i).drop (cutK (leD D i) (dj D i)) ↔ x ∈ dj D i := by
        rw [← List.mem_append, List.take_append_drop]
      simp only [List.mem_append, List.mem_singleton]
      constructor
      · rintro ((h | h) | h)
        · have := ih.1 (hm.1 (.inl h)); exact ⟨by omega, this.2⟩
        · subst h; exact ⟨by omega, by omega⟩
        · have := ih.1 (hm.1 (.inr h)); exact ⟨by omega, this.2⟩
      · rintro ⟨h1, h2⟩
        by_cases e : x = i
        · exact .inl (.inr e)
        · rcases hm.2 (ih.2 ⟨by omega, h2⟩) with h | h
          · exact .inl (.inl h)
          · exact .inr h
theorem dj_srt (D : List Int) : ∀ i, (dj D i).Pairwise (rD D)
  | 0 => List.Pairwise.nil
  | i + 1 => by
    have ih := dj_srt D i
    unfold dj
    split
    · exact ih
    · have hlt := dj_lt D i
      have hle := cutK_le (leD D i) (dj D i)
      have hin := cutK_in (leD D i) (dj D i)
      have hat := cutK_at (leD D i) (dj D i)
      generalize cutK (leD D i) (dj D i) = K at *
      generalize dj D i = l at *
      have ih' := ih
      rw [List.pairwise_iff_getElem] at ih'
      have get : ∀ j (h : j < l.length), l.getD j 0 = l[j] := fun j h => by rw [List.getD_eq_getElem?_getD, List.getElem?_eq_getElem h]; rfl
      have hT : ∀ x ∈ l.take K, rD D x i := by
        intro x hx
        obtain ⟨j, hj, rfl⟩ := List.mem_iff_getElem.1 hx
        rw [List.length_take] at hj
        rw [List.getElem_take]
        have h1 := hin j (by omega)
        rw [get j (by omega)] at h1
        have h1 : gD D l[j] ≤ gD D i := of_decide_eq_true h1
        have h2 := hlt l[j] (List.getElem_mem _)
        unfold rD
        omega
      have hU : ∀ y ∈ l.drop K, gD D i < gD D y := by
        intro y hy
        obtain ⟨j, hj, rfl⟩ := List.mem_iff_getElem.1 hy
        rw [List.length_drop] at hj
        rw [List.getElem_drop]
        have h1 := hat (by omega)
        rw [get K (by omega)] at h1
        have h1 : ¬ gD D l[K] ≤ gD D i := of_decide_eq_false h1
        by_cases e : j = 0
        · subst e
          have : gD D i < gD D l[K] := by omega
          exact this
        · have h2 := ih' K (K + j) (by omega) (by omega) (by omega)
          unfold rD at h2
          omega
      rw [List.append_assoc, List.pairwise_append]
      have ih2 := ih
      rw [← List.take_append_drop K l, List.pairwise_append] at ih2
      refine ⟨ih2.1, ?_, ?_⟩
      · rw [List.singleton_append, List.pairwise_cons]
        exact ⟨fun y hy => .inl (hU y hy), ih2.2.1⟩
      · intro x hx y hy
        simp only [List.singleton_append, List.mem_cons] at hy
        rcases hy with rfl | hy
        · exact hT x hx
        · exact ih2.2.2 x hx y hy
/-- What the document's Jobs are, with their deadlines. -/
def djI (D : List Int) : List Id := (dj D D.length).map fun x => (x, gD D x)
theorem djI_ids (D : List Int) : idl (djI D) = nl (dj D D.length) := by simp [djI, idl, nl]
theorem djI_late (D : List Int) (now : Int) : idl (lat (djI D) now) = nl (latD D now (dj D D.length)) := by
  simp only [djI, idl, nl, lat, latD, List.filter_map, List.map_map]
  rfl
theorem djI_srt (D : List Int) : (djI D).Pairwise (fun x y => ah x y = true) := by
  unfold djI
  rw [List.pairwise_map]
  refine (dj_srt D D.length).imp ?_
  intro a b h
  rw [ah_iff]
  exact h
theorem ah_irr (x : Id) : ¬ ah x x = true := by rw [ah_iff]; omega
theorem ah_asy (x y : Id) : ah x y = true → ¬ ah y x = true := by rw [ah_iff, ah_iff]; omega
theorem djI_mem {L : List Id} {D : List Int} (h : Mch L D) (y : Id) : y ∈ djI D ↔ y ∈ L := by
  unfold djI
  rw [List.mem_map]
  constructor
  · rintro ⟨x, hx, rfl⟩
    have := (dj_mem D D.length x).1 hx
    exact h.of x this.1 this.2
  · intro hy
    have := h.to y hy
    refine ⟨y.1, (dj_mem D D.length y.1).2 ⟨this.1, by omega⟩, ?_⟩
    rw [this.2.1]
theorem Ord.pw {L M : List Id} (h : Ord L M) : M.Pairwise (fun x y => ah x y = true) := by
  rw [List.pairwise_iff_getElem]
  intro i j hi hj hij
  have h1 := h.srt i j (Nat.zero_le _) hij hj
  rw [gI_eq hi, gI_eq hj, ah_not] at h1
  rw [ah_iff]
  have h2 : M[i].1 ≠ M[j].1 := by
    intro e
    have := h.dst i j hi hj (by rw [gI_eq hi, gI_eq hj]; exact e)
    omega
  omega
theorem Mch.jobs {L M : List Id} {D : List Int} (h : Mch L D) (ho : Ord L M) : M = djI D :=
  sorted_uniq ah_irr ah_asy M (djI D) ho.pw (djI_srt D) fun y => (ho.mem y).trans (djI_mem h y).symm
theorem Mch.none {L : List Id} {D : List Int} (h : Mch L D) : L = [] ↔ dj D D.length = [] := by
  have hm := djI_mem h
  constructor
  · rintro rfl
    cases hd : dj D D.length with
    | nil => rfl
    | cons x l =>
      have := (hm (x, gD D x)).1 (by rw [djI, hd]; simp)
      simp at this
  · intro hd
    cases L with
    | nil => rfl
    | cons x l =>
      have := (hm x).2 List.mem_cons_self
      rw [djI, hd] at this
      simp at this
theorem Mch.first {L : List Id} {D : List Int} (h : Mch L D) {y : Id} (hf : IsFst L y) {x : Nat} {l : List Nat} (hd : dj D D.length = x :: l) : y = (x, gD D x) := by
  have hm := djI_mem h
  have hs := djI_srt D
  have e : djI D = (x, gD D x) :: l.map fun x => (x, gD D x) := by rw [djI, hd]; rfl
  rw [e, List.pairwise_cons] at hs
  have hx : (x, gD D x) ∈ L := (hm _).1 (by rw [e]; exact List.mem_cons_self)
  have hy := (hm y).2 hf.1
  rw [e] at hy
  rcases List.mem_cons.1 hy with hy | hy
  · exact hy
  · have h1 := hs.1 y hy
    have h2 := hf.2 _ hx
    rw [h1] at h2
    cases h2
end Ir
end Go.Proofs.Ytenafeojcgmnhaa
