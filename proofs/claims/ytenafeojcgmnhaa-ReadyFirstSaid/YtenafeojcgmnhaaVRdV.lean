/-
  Ready: the first one, and those that are late.
-/
import Derived.Test.YtenafeojcgmnhaaVRdS
set_option maxRecDepth 100000
set_option linter.unusedSimpArgs false
set_option linter.unusedVariables false
namespace Go.Proofs.Ytenafeojcgmnhaa
open Go Ads
namespace Ir

/-- What the statement itself notes: one more than each deadline. -/
structure Nte (L : List Id) (V : List Int) : Prop where
  len : V.length = 4
  to : ∀ y ∈ L, y.1 < 4 ∧ gD V y.1 = y.2 + 1 ∧ 0 ≤ y.2
  of : ∀ t, t < 4 → 0 < gD V t → (t, gD V t - 1) ∈ L
  nn : ∀ t, t < 4 → 0 ≤ gD V t ∧ gD V t ≤ 200
structure Fst (h : Heap) (q : Nat) (S : List Nat) (L : List Id) (u : Nat) (V : List Int) : Prop where
  qa : QAt h q S 4 L
  gu : h.get u = some (.cells (ints V) true 0)
  lu : u < h.next
  uS : u ∉ S
  nt : Nte L V
theorem Fst.get {h : Heap} {q u : Nat} {S : List Nat} {L : List Id} {V : List Int} (F : Fst h q S L u V) {t : Nat} (ht : t < 4) : (ints V)[0 + t * 1]? = some (.int .i64 (gD V t)) := by
  rw [Nat.zero_add, Nat.mul_one]
  exact ints_get (by rw [F.nt.len]; exact ht)
theorem Fst.put {h : Heap} {q u : Nat} {S : List Nat} {L : List Id} {V : List Int} (F : Fst h q S L u V) {t : Nat} (ht : t < 4) (x : Int) : eV (.store 1) [.ptr u (0 + t * 1), .int .i64 x] h = some (.undef, h.set u (.cells (ints (V.set t x)) true 0)) := by
  have hl : t < V.length := by rw [F.nt.len]; exact ht
  rw [← ints_set hl, Nat.zero_add]
  exact sto_o (n := 1) (v := .int .i64 x) F.gu rfl (by rw [len_ints, Nat.mul_one]; exact hl) rfl
theorem Nte.del {L L' : List Id} {V : List Int} (N : Nte L V) {t : Nat} (ht : t < 4) (hL : ∀ z, z ∈ L' ↔ z ∈ L ∧ z.1 ≠ t) : Nte L' (V.set t 0) := by
  have hl : t < V.length := by rw [N.len]; exact ht
  refine ⟨by rw [List.length_set]; exact N.len, fun y hy => ?_, fun s hs h0 => ?_, fun s hs => ?_⟩
  · have := (hL y).1 hy
    rw [gD_set hl, if_neg this.2]
    exact N.to y this.1
  · rw [gD_set hl] at h0 ⊢
    by_cases e : s = t
    · subst e; rw [if_pos rfl] at h0; omega
    · rw [if_neg e] at h0 ⊢
      exact (hL _).2 ⟨N.of s hs h0, e⟩
  · rw [gD_set hl]
    split
    · omega
    · exact N.nn s hs
theorem Nte.add {L L' : List Id} {V : List Int} (N : Nte L V) {t : Nat} (ht : t < 4) {d : Int} (h0 : 0 ≤ d) (h2 : d < 200) (h1 : gD V t = 0) (hL : ∀ z, z ∈ L' ↔ z ∈ L ∨ z = (t, d)) : Nte L' (V.set t (d + 1)) := by
  have hl : t < V.length := by rw [N.len]; exact ht
  refine ⟨by rw [List.length_set]; exact N.len, fun y hy => ?_, fun s hs hp => ?_, fun s hs => ?_⟩
  · rw [gD_set hl]
    rcases (hL y).1 hy with hy | rfl
    · have := N.to y hy
      rw [if_neg (by intro e; rw [e] at this; omega)]
      exact this
    · rw [if_pos rfl]
      exact ⟨ht, rfl, h0⟩
  · rw [gD_set hl] at hp ⊢
    rw [hL]
    by_cases e : s = t
    · subst e; rw [if_pos rfl]; right; rw [show d + 1 - 1 = d by omega]
    · rw [if_neg e] at hp ⊢
      exact .inl (N.of s hs hp)
  · rw [gD_set hl]
    split
    · omega
    · exact N.nn s hs
theorem Nte.same {L L' : List Id} {V : List Int} (N : Nte L V) (hL : ∀ z, z ∈ L' ↔ z ∈ L) : Nte L' V := ⟨N.len, fun y hy => N.to y ((hL y).1 hy), fun t ht h => (hL _).2 (N.of t ht h), N.nn⟩

def fsE (k : Nat) (l : List Do3) (now : Int) (q u i : Nat) : List (Nat × AV) := [(0, .fz k (dos l)), (1, .int .i64 now), (5, .ptr q 0), (7, .ptr u 0), (8, .int .i64 ((i : Nat) : Int))]
theorem fst_l0 {k : Nat} {l : List Do3} {now : Int} {q u : Nat} {B : Nat} {Q : AX → Env → Heap → Prop} (hl : l.length < 2 ^ 62) 
    (hQ : ∀ e' h' S' L' V', Tr.get e' 1 = some (.int .i64 now) → Tr.get e' 5 = some (.ptr q 0) → Tr.get e' 7 = some (.ptr u 0) → Fst h' q S' L' u V' → Q (.exit 0) e' h') :
    ∀ (n i : Nat) (h : Heap) (S : List Nat) (L : List Id) (V : List Int) (env : Env), l.length - i = n → i ≤ l.length → Fst h q S L u V → AllAt env (fsE k l now q u i) →
    VC fs ms B false (.loop L_escapementlaw15_ReadyFirst_0) env h Q := by
  intro n
  induction n using Nat.strongRecOn with
  | ind n ih =>
  intro i h S L V env hn hi F henv
  refine vc_slots 4 (fsE k l now q u i) henv ?_
  refine vc_loopV (vc_seq true ?_)
  unfold fsE
  generalize hJ : ((i : Nat) : Int) = J
  set_option smartUnfolding false in conv => whnf
  rw [dos_len]
  refine br (fun hc => ?_) (fun hc => ?_) <;> (try rw [hc]) <;> (set_option smartUnfolding false in conv => whnf)
  · have hlt : i < l.length := by have := of_decide_eq_true hc; omega
    refine br (fun hc => ?_) (fun hc => ?_) <;> (try rw [hc]) <;> (set_option smartUnfolding false in conv => whnf)
    · subst hJ
      refine vpC_sound (z := true) ?_
      generalize hx : l[i] = x
      obtain ⟨kd, t, d⟩ := x
      have hix : pV (.iaddrS 3) [.fz k (dos l), .int .i64 ((i : Nat) : Int)] = some (.fp [.int .i64 kd, .int .i64 t, .int .i64 d] 0) := by
        rw [idx_dos hlt, hx]; rfl
      set_option smartUnfolding false in conv => whnf
      refine ⟨_, hix, ?_⟩
      set_option smartUnfolding false in conv => whnf
      refine ⟨_, rfl, ?_⟩
      set_option smartUnfolding false in conv => whnf
      refine vd_pure (bring_c t 4 (by omega) (by omega)) ?_
      set_option smartUnfolding false in conv => whnf
      refine ⟨_, hix, ?_⟩
      set_option smartUnfolding false in conv => whnf
      refine ⟨_, rfl, ?_⟩
      set_option smartUnfolding false in conv => whnf
      refine vd_pure (bring_c d 200 (by omega) (by omega)) ?_
      set_option smartUnfolding false in conv => whnf
      refine ⟨winOk_of (by (set_option smartUnfolding false in conv => whnf); repeat' (first | exact trivial | (exact ⟨rfl, rfl, .inr ⟨_, _, rfl⟩⟩) | (refine ⟨rfl, rfl, .inl ⟨rfl, fun o ho => ?_⟩⟩; cases ho; first | rfl) | (exact ⟨rfl, .inr ⟨_, _, rfl⟩⟩) | (refine ⟨rfl, .inl ⟨rfl, fun i o hi ho => ?_⟩⟩; cases hi; cases ho; first | rfl) | (refine And.intro (fun _ => ?_) ?_ <;> set_option smartUnfolding false in conv => whnf) | (refine And.intro ?_ ?_ <;> set_option smartUnfolding false in conv => whnf))), ?_⟩
      set_option smartUnfolding false in conv => whnf
      refine ⟨_, hix, ?_⟩
      set_option smartUnfolding false in conv => whnf
      refine ⟨_, rfl, ?_⟩
      set_option smartUnfolding false in conv => whnf
      refine vd_pure (bring_c kd 3 (by omega) (by omega)) ?_
      set_option smartUnfolding false in conv => whnf
      have ht0 : 0 ≤ bring t 4 := Int.emod_nonneg _ (by omega)
      have ht4 : bring t 4 < 4 := Int.emod_lt_of_pos _ (by omega)
      have hd0 : 0 ≤ bring d 200 := Int.emod_nonneg _ (by omega)
      have hd2 : bring d 200 < 200 := Int.emod_lt_of_pos _ (by omega)
      generalize hT : bring t 4 = T at *
      generalize bring d 200 = d' at *
      generalize bring kd 3 = k' at *
      obtain ⟨t', rfl⟩ : ∃ t' : Nat, T = t' := ⟨T.toNat, by omega⟩
      have ht : t' < 4 := by omega
      clear ht0 ht4
      have hnn := F.nt.nn t' ht
      refine br (fun hc => ?_) (fun hc => ?_) <;> (try rw [hc]) <;> (set_option smartUnfolding false in conv => whnf)
      · -- Remove
        refine qremove_o F.qa _ (fun hno => ?_) fun y e hy h1 S1 L1 q1 q2 q3 => ?_
        · set_option smartUnfolding false in conv => whnf
          have h0 : gD V t' = 0 := by
            by_cases h : 0 < gD V t'
            · exact absurd rfl (hno _ (F.nt.of t' ht h))
            · omega
          refine ⟨_, idx_arr (o := 0) ht, ?_⟩
          set_option smartUnfolding false in conv => whnf
          refine ⟨_, ld1 F.gu (F.get ht), ?_⟩
          set_option smartUnfolding false in conv => whnf
          refine ⟨winOk_of (by (set_option smartUnfolding false in conv => whnf); repeat' (first | exact trivial | (exact ⟨rfl, rfl, .inr ⟨_, _, rfl⟩⟩) | (refine ⟨rfl, rfl, .inl ⟨rfl, fun o ho => ?_⟩⟩; cases ho; first | rfl | (exact ld1 F.gu (F.get ht))) | (exact ⟨rfl, .inr ⟨_, _, rfl⟩⟩) | (refine ⟨rfl, .inl ⟨rfl, fun i o hi ho => ?_⟩⟩; cases hi; cases ho; first | rfl | (exact ld1 F.gu (F.get ht))) | (refine And.intro (fun _ => ?_) ?_ <;> set_option smartUnfolding false in conv => whnf) | (refine And.intro ?_ ?_ <;> set_option smartUnfolding false in conv => whnf))), ?_⟩
          set_option smartUnfolding false in conv => whnf
          refine brf (by rw [h0]; rfl) (fun hc => ?_)
          (try rw [hc])
          set_option smartUnfolding false in conv => whnf
          refine ⟨_, idx_arr (o := 0) ht, ?_⟩
          set_option smartUnfolding false in conv => whnf
          refine eff_o (F.put ht 0) fun h2 e2 => ?_
          set_option smartUnfolding false in conv => whnf
          refine ih (l.length - (i + 1)) (by omega) (i + 1) h2 S L (V.set t' 0) _ rfl (by omega) ⟨F.qa.keep (T := [u]) (by rw [e2]; exact (Fr.refl h [u]).set (by simp)) (fun b hb hm => F.uS (by simp at hm; rwa [← hm])), by rw [e2, get_set_same], by rw [e2]; exact F.lu, F.uS, F.nt.del ht fun z => ⟨fun hz => ⟨hz, fun e => hno z hz (by rw [e])⟩, fun hz => hz.1⟩⟩ ⟨rfl, rfl, rfl, rfl, inc_slot (by omega), trivial⟩
        · set_option smartUnfolding false in conv => whnf
          have hty : t' = y.1 := by omega
          subst hty
          have hp : 0 < gD V y.1 := by have := F.nt.to y hy; omega
          have gu1 : h1.get u = some (.cells (ints V) true 0) := by rw [q3.fr.keep u F.lu F.uS]; exact F.gu
          refine ⟨_, idx_arr (o := 0) ht, ?_⟩
          set_option smartUnfolding false in conv => whnf
          refine ⟨_, ld1 gu1 (F.get ht), ?_⟩
          set_option smartUnfolding false in conv => whnf
          refine ⟨winOk_of (by (set_option smartUnfolding false in conv => whnf); repeat' (first | exact trivial | (exact ⟨rfl, rfl, .inr ⟨_, _, rfl⟩⟩) | (refine ⟨rfl, rfl, .inl ⟨rfl, fun o ho => ?_⟩⟩; cases ho; first | rfl | (exact ld1 F.gu (F.get ht)) | (exact ld1 gu1 (F.get ht))) | (exact ⟨rfl, .inr ⟨_, _, rfl⟩⟩) | (refine ⟨rfl, .inl ⟨rfl, fun i o hi ho => ?_⟩⟩; cases hi; cases ho; first | rfl | (exact ld1 F.gu (F.get ht)) | (exact ld1 gu1 (F.get ht))) | (refine And.intro (fun _ => ?_) ?_ <;> set_option smartUnfolding false in conv => whnf) | (refine And.intro ?_ ?_ <;> set_option smartUnfolding false in conv => whnf))), ?_⟩
          set_option smartUnfolding false in conv => whnf
          refine brf (by rw [decide_eq_true hp]; rfl) (fun hc => ?_)
          (try rw [hc])
          set_option smartUnfolding false in conv => whnf
          have F1 : Fst h1 q S1 L u V → True := fun _ => trivial
          refine ⟨_, idx_arr (o := 0) ht, ?_⟩
          set_option smartUnfolding false in conv => whnf
          have hl4 : y.1 < V.length := by rw [F.nt.len]; exact ht
          refine eff_o (h' := h1.set u (.cells (ints (V.set y.1 0)) true 0)) (v := .undef) (by rw [← ints_set hl4, Nat.zero_add]; exact sto_o (n := 1) (v := .int .i64 0) gu1 rfl (by rw [len_ints, Nat.mul_one]; exact hl4) rfl) fun h2 e2 => ?_
          set_option smartUnfolding false in conv => whnf
          have uS1 := q3.off F.lu F.uS
          refine ih (l.length - (i + 1)) (by omega) (i + 1) h2 S1 L1 (V.set y.1 0) _ rfl (by omega) ⟨q1.keep (T := [u]) (by rw [e2]; exact (Fr.refl h1 [u]).set (by simp)) (fun b hb hm => uS1 (by simp at hm; rwa [← hm])), by rw [e2, get_set_same], by rw [e2]; exact Nat.lt_of_lt_of_le F.lu q3.fr.next, uS1, F.nt.del ht q2⟩ ⟨rfl, rfl, rfl, rfl, inc_slot (by omega), trivial⟩
      · -- Put
        refine qput_o F.qa _ _ (fun hb => by omega) (fun _ hb => by omega) (fun _ _ y hy e => ?_) fun _ j hj _ hno h1 S1 L1 q1 q2 q3 => ?_
        · set_option smartUnfolding false in conv => whnf
          have hty : t' = y.1 := by omega
          have hp : 0 < gD V t' := by rw [hty]; have := F.nt.to y hy; omega
          refine ⟨_, idx_arr (o := 0) ht, ?_⟩
          set_option smartUnfolding false in conv => whnf
          refine ⟨_, ld1 F.gu (F.get ht), ?_⟩
          set_option smartUnfolding false in conv => whnf
          refine ⟨winOk_of (by (set_option smartUnfolding false in conv => whnf); repeat' (first | exact trivial | (exact ⟨rfl, rfl, .inr ⟨_, _, rfl⟩⟩) | (refine ⟨rfl, rfl, .inl ⟨rfl, fun o ho => ?_⟩⟩; cases ho; first | rfl | (exact ld1 F.gu (F.get ht))) | (exact ⟨rfl, .inr ⟨_, _, rfl⟩⟩) | (refine ⟨rfl, .inl ⟨rfl, fun i o hi ho => ?_⟩⟩; cases hi; cases ho; first | rfl | (exact ld1 F.gu (F.get ht))) | (refine And.intro (fun _ => ?_) ?_ <;> set_option smartUnfolding false in conv => whnf) | (refine And.intro ?_ ?_ <;> set_option smartUnfolding false in conv => whnf))), ?_⟩
          set_option smartUnfolding false in conv => whnf
          have hz : (gD V t' == (0 : Int)) = false := by simp; omega
          refine brf (by rw [hz]; rfl) (fun hc => ?_)
          (try rw [hc])
          set_option smartUnfolding false in conv => whnf
          refine ⟨_, idx_arr (o := 0) ht, ?_⟩
          set_option smartUnfolding false in conv => whnf
          refine ⟨_, ld1 F.gu (F.get ht), ?_⟩
          set_option smartUnfolding false in conv => whnf
          refine brf (hz) (fun hc => ?_)
          (try rw [hc])
          set_option smartUnfolding false in conv => whnf
          exact ih (l.length - (i + 1)) (by omega) (i + 1) h S L V _ rfl (by omega) F ⟨rfl, rfl, rfl, rfl, inc_slot (by omega), trivial⟩
        · set_option smartUnfolding false in conv => whnf
          have hty : t' = j := by omega
          subst hty
          have h0 : gD V t' = 0 := by
            by_cases h : 0 < gD V t'
            · exact absurd rfl (hno _ (F.nt.of t' ht h))
            · omega
          have gu1 : h1.get u = some (.cells (ints V) true 0) := by rw [q3.fr.keep u F.lu F.uS]; exact F.gu
          have uS1 := q3.off F.lu F.uS
          have hz : (gD V t' == (0 : Int)) = true := by simp [h0]
          refine ⟨_, idx_arr (o := 0) ht, ?_⟩
          set_option smartUnfolding false in conv => whnf
          refine ⟨_, ld1 gu1 (F.get ht), ?_⟩
          set_option smartUnfolding false in conv => whnf
          refine ⟨winOk_of (by (set_option smartUnfolding false in conv => whnf); repeat' (first | exact trivial | (exact ⟨rfl, rfl, .inr ⟨_, _, rfl⟩⟩) | (refine ⟨rfl, rfl, .inl ⟨rfl, fun o ho => ?_⟩⟩; cases ho; first | rfl | (exact ld1 F.gu (F.get ht)) | (exact ld1 gu1 (F.get ht))) | (exact ⟨rfl, .inr ⟨_, _, rfl⟩⟩) | (refine ⟨rfl, .inl ⟨rfl, fun i o hi ho => ?_⟩⟩; cases hi; cases ho; first | rfl | (exact ld1 F.gu (F.get ht)) | (exact ld1 gu1 (F.get ht))) | (refine And.intro (fun _ => ?_) ?_ <;> set_option smartUnfolding false in conv => whnf) | (refine And.intro ?_ ?_ <;> set_option smartUnfolding false in conv => whnf))), ?_⟩
          set_option smartUnfolding false in conv => whnf
          refine brf (by rw [hz]; rfl) (fun hc => ?_)
          (try rw [hc])
          set_option smartUnfolding false in conv => whnf
          refine ⟨_, idx_arr (o := 0) ht, ?_⟩
          set_option smartUnfolding false in conv => whnf
          refine ⟨_, ld1 gu1 (F.get ht), ?_⟩
          set_option smartUnfolding false in conv => whnf
          refine brt (hz) (fun hc => ?_)
          (try rw [hc])
          set_option smartUnfolding false in conv => whnf
          refine ⟨_, idx_arr (o := 0) ht, ?_⟩
          set_option smartUnfolding false in conv => whnf
          rw [IntWalk.i64_in (d' + 1) (by omega)]
          have hl4 : t' < V.length := by rw [F.nt.len]; exact ht
          refine eff_o (h' := h1.set u (.cells (ints (V.set t' (d' + 1))) true 0)) (v := .undef) (by rw [← ints_set hl4, Nat.zero_add]; exact sto_o (n := 1) (v := .int .i64 (d' + 1)) gu1 rfl (by rw [len_ints, Nat.mul_one]; exact hl4) rfl) fun h2 e2 => ?_
          set_option smartUnfolding false in conv => whnf
          refine ih (l.length - (i + 1)) (by omega) (i + 1) h2 S1 L1 (V.set t' (d' + 1)) _ rfl (by omega) ⟨q1.keep (T := [u]) (by rw [e2]; exact (Fr.refl h1 [u]).set (by simp)) (fun b hb hm => uS1 (by simp at hm; rwa [← hm])), by rw [e2, get_set_same], by rw [e2]; exact Nat.lt_of_lt_of_le F.lu q3.fr.next, uS1, F.nt.add ht hd0 hd2 h0 q2⟩ ⟨rfl, rfl, rfl, rfl, inc_slot (by omega), trivial⟩
    · subst hJ
      exact hQ _ h S L V rfl rfl rfl F
  · subst hJ
    exact hQ _ h S L V rfl rfl rfl F

/-- Has anybody a job? -/
def someV (V : List Int) (i : Nat) : Bool := (List.range i).any fun j => decide (0 < gD V j)
theorem someV_succ (V : List Int) (i : Nat) : someV V (i + 1) = (someV V i || decide (0 < gD V i)) := by
  simp [someV, List.range_succ, List.any_append]
theorem someV_iff {L : List Id} {V : List Int} (N : Nte L V) : someV V 4 = true ↔ L ≠ [] := by
  simp only [someV, List.any_eq_true, List.mem_range, decide_eq_true_eq]
  constructor
  · rintro ⟨j, h1, h2⟩ rfl
    have := N.of j h1 h2
    simp at this
  · intro h
    obtain ⟨y, hy⟩ := List.exists_mem_of_ne_nil L h
    have := N.to y hy
    exact ⟨y.1, this.1, by omega⟩
theorem lat_pre {n : Int} : ∀ {M : List Id}, M.Pairwise (fun x y => ah x y = true) → lat M n = M.take (lat M n).length ∧ ∀ i, i < M.length → ((gI M i).2 ≤ n ↔ i < (lat M n).length)
  | [], _ => ⟨rfl, fun i hi => by simp at hi⟩
  | x :: M, h => by
    rw [List.pairwise_cons] at h
    have ih := lat_pre (n := n) h.2
    have hlat : lat (x :: M) n = if x.2 ≤ n then x :: lat M n else lat M n := by
      unfold lat
      rw [List.filter_cons]
      by_cases hx : x.2 ≤ n <;> simp [hx]
    by_cases hx : x.2 ≤ n
    · rw [hlat, if_pos hx]
      refine ⟨by rw [List.length_cons, List.take_succ_cons, ← ih.1], fun i hi => ?_⟩
      cases i with
      | zero => exact ⟨fun _ => Nat.succ_pos _, fun _ => hx⟩
      | succ i =>
        have := ih.2 i (by simpa using hi)
        rw [show gI (x :: M) (i + 1) = gI M i by simp [gI], this, List.length_cons]
        omega
    · rw [hlat, if_neg hx]
      have hall : ∀ y ∈ M, ¬ y.2 ≤ n := by
        intro y hy
        have := ah_iff.1 (h.1 y hy)
        omega
      have he : lat M n = [] := by
        unfold lat
        rw [List.filter_eq_nil_iff]
        intro y hy
        have := hall y hy
        simpa using this
      rw [he]
      refine ⟨rfl, fun i hi => ⟨fun h => ?_, fun h => by simp at h⟩⟩
      cases i with
      | zero => exact absurd h hx
      | succ i =>
        rw [show gI (x :: M) (i + 1) = gI M i by simp [gI]] at h
        exact absurd h (hall _ (mem_gI.2 ⟨i, by simpa using hi, rfl⟩))

def f1E (now : Int) (q u : Nat) (x y : Int) (c : Bool) (s : Bool) (i : Nat) : List (Nat × AV) := [(1, .int .i64 now), (5, .ptr q 0), (7, .ptr u 0), (11, .int .i64 x), (12, .int .i64 y), (13, .bool c), (14, .bool s), (15, .int .i64 ((i : Nat) : Int))]
theorem fst_l1 {now : Int} {q u : Nat} {h : Heap} {S : List Nat} {L : List Id} {V : List Int} (F : Fst h q S L u V) {x y : Int} {c : Bool} (hF : c = true → ∀ t : Nat, t < 4 → 0 < gD V t → ¬ (gD V t - 1 < y) ∧ ¬ (gD V t - 1 = y ∧ ((t : Nat) : Int) < x)) {B : Nat} {Q : AX → Env → Heap → Prop}
    (hQ : ∀ e', AllAt e' (f1E now q u x y c (someV V 4) 4) → Q (.exit 2) e' h) :
    ∀ (n i : Nat) (env : Env), 4 - i = n → i ≤ 4 → AllAt env (f1E now q u x y c (someV V i) i) →
    VC fs ms B false (.loop L_escapementlaw15_ReadyFirst_1) env h Q := by
  intro n
  induction n using Nat.strongRecOn with
  | ind n ih =>
  intro i env hn hi henv
  refine vc_slots 5 (f1E now q u x y c (someV V i) i) henv ?_
  refine vc_loopV (vc_seq true ?_)
  unfold f1E
  set_option smartUnfolding false in conv => whnf
  refine br (fun hc => ?_) (fun hc => ?_) <;> (try rw [hc]) <;> (set_option smartUnfolding false in conv => whnf)
  · have hlt : i < 4 := by have := of_decide_eq_true hc; omega
    have hnn := F.nt.nn i hlt
    refine vc_seqV (vc_block ?_)
    refine vc_seqV (VC.mono (Q := fun x1 e1 h1 => x1 = .normal ∧ h1 = h ∧ AllAt e1 (f1E now q u x y c (someV V (i + 1)) i)) ?_ ?_)
    · refine vpC_sound (z := true) ?_
      have hsu := someV_succ V i
      cases hs : someV V i with
      | true =>
        rw [hs, Bool.true_or] at hsu
        set_option smartUnfolding false in conv => whnf
        exact ⟨rfl, rfl, rfl, rfl, rfl, rfl, rfl, rfl, by rw [hsu]; rfl, rfl, trivial⟩
      | false =>
        rw [hs, Bool.false_or] at hsu
        set_option smartUnfolding false in conv => whnf
        refine ⟨_, idx_arr (o := 0) hlt, ?_⟩
        set_option smartUnfolding false in conv => whnf
        refine ⟨_, ld1 F.gu (F.get hlt), ?_⟩
        set_option smartUnfolding false in conv => whnf
        exact ⟨rfl, rfl, rfl, rfl, rfl, rfl, rfl, rfl, by rw [hsu]; rfl, rfl, trivial⟩
    · rintro x1 e1 h1 ⟨rfl, rfl, henv1⟩
      refine vc_slots 5 (f1E now q u x y c (someV V (i + 1)) i) henv1 (vpC_sound (z := true) ?_)
      unfold f1E
      cases c with
      | false =>
        set_option smartUnfolding false in conv => whnf
        refine vpC_sound (z := true) ?_
        set_option smartUnfolding false in conv => whnf
        exact ih (4 - (i + 1)) (by omega) (i + 1) _ rfl (by omega) ⟨rfl, rfl, rfl, rfl, rfl, rfl, rfl, inc_slot (by omega), trivial⟩
      | true =>
        have hFi := hF rfl i hlt
        set_option smartUnfolding false in conv => whnf
        refine ⟨_, idx_arr (o := 0) hlt, ?_⟩
        set_option smartUnfolding false in conv => whnf
        refine ⟨_, ld1 F.gu (F.get hlt), ?_⟩
        set_option smartUnfolding false in conv => whnf
        refine br (fun hc => ?_) (fun hc => ?_) <;> (try rw [hc]) <;> (set_option smartUnfolding false in conv => whnf)
        · have hp : 0 < gD V i := of_decide_eq_true hc
          have hFi := hFi hp
          refine ⟨_, idx_arr (o := 0) hlt, ?_⟩
          set_option smartUnfolding false in conv => whnf
          refine ⟨_, ld1 F.gu (F.get hlt), ?_⟩
          set_option smartUnfolding false in conv => whnf
          rw [IntWalk.i64_in (gD V i - 1) (by omega)]
          refine brf (decide_eq_false hFi.1) (fun hc => ?_)
          (try rw [hc])
          set_option smartUnfolding false in conv => whnf
          refine ⟨_, idx_arr (o := 0) hlt, ?_⟩
          set_option smartUnfolding false in conv => whnf
          refine ⟨_, ld1 F.gu (F.get hlt), ?_⟩
          set_option smartUnfolding false in conv => whnf
          rw [IntWalk.i64_in (gD V i - 1) (by omega)]
          refine br (fun hc => ?_) (fun hc => ?_) <;> (try rw [hc]) <;> (set_option smartUnfolding false in conv => whnf)
          · have heq : gD V i - 1 = y := by simpa using hc
            refine brf (decide_eq_false (fun h => hFi.2 ⟨heq, h⟩)) (fun hc => ?_)
            (try rw [hc])
            set_option smartUnfolding false in conv => whnf
            refine vpC_sound (z := true) ?_
            set_option smartUnfolding false in conv => whnf
            exact ih (4 - (i + 1)) (by omega) (i + 1) _ rfl (by omega) ⟨rfl, rfl, rfl, rfl, rfl, rfl, rfl, inc_slot (by omega), trivial⟩
          · refine vpC_sound (z := true) ?_
            set_option smartUnfolding false in conv => whnf
            exact ih (4 - (i + 1)) (by omega) (i + 1) _ rfl (by omega) ⟨rfl, rfl, rfl, rfl, rfl, rfl, rfl, inc_slot (by omega), trivial⟩
        · refine vpC_sound (z := true) ?_
          set_option smartUnfolding false in conv => whnf
          exact ih (4 - (i + 1)) (by omega) (i + 1) _ rfl (by omega) ⟨rfl, rfl, rfl, rfl, rfl, rfl, rfl, inc_slot (by omega), trivial⟩
  · have hge : i = 4 := by have := of_decide_eq_false hc; omega
    subst hge
    exact hQ _ ⟨rfl, rfl, rfl, rfl, rfl, rfl, rfl, rfl, trivial⟩

theorem bring_nat {t : Nat} (h : t < 4) : bring ((t : Nat) : Int) 4 = ((t : Nat) : Int) := Int.emod_eq_of_lt (by omega) (by omega)
def f2E (u : Nat) (n : Int) (v w : AV) (i : Nat) : List (Nat × AV) := [(7, .ptr u 0), (16, .int .i64 n), (17, v), (18, w), (19, .int .i64 ((i : Nat) : Int))]
theorem fst_l2 {q u lo1 lo2 : Nat} {h : Heap} {S : List Nat} {L M : List Id} {V : List Int} {v w : AV} {n : Int} (F : Fst h q S L u V) (ho : Ord L M) (h4 : M.length ≤ 4) (hv : IRow lo1 h v (idl (lat M n))) (hw : IRow lo2 h w (idl M)) {B : Nat} {Q : AX → Env → Heap → Prop}
    (hQ : ∀ e', Q (.exit 4) e' h) :
    ∀ (k i : Nat) (env : Env), M.length - i = k → i ≤ M.length → AllAt env (f2E u n v w i) →
    VC fs ms B false (.loop L_escapementlaw15_ReadyFirst_2) env h Q := by
  have hpre := lat_pre (n := n) ho.pw
  have hll := lat_len M n
  intro k
  induction k using Nat.strongRecOn with
  | ind k ih =>
  intro i env hk hi henv
  refine vc_slots 5 (f2E u n v w i) henv ?_
  refine vc_loop (z := true) ?_
  unfold f2E
  set_option smartUnfolding false in conv => whnf
  refine op_some hw.read.1 ?_
  set_option smartUnfolding false in conv => whnf
  rw [idl_len]
  refine br (fun hc => ?_) (fun hc => ?_) <;> (try rw [hc]) <;> (set_option smartUnfolding false in conv => whnf)
  · have hlt : i < M.length := by have := of_decide_eq_true hc; omega
    have hmem : gI M i ∈ L := (ho.mem _).1 (mem_gI.2 ⟨i, hlt, rfl⟩)
    have hto := F.nt.to _ hmem
    have hnn := F.nt.nn _ hto.1
    obtain ⟨b, r1, r2⟩ := hw.read.2 i (by rw [idl_len]; exact hlt)
    rw [idl_get hlt] at r2
    refine ⟨_, r1, ?_⟩
    set_option smartUnfolding false in conv => whnf
    refine ⟨_, r2, ?_⟩
    set_option smartUnfolding false in conv => whnf
    refine vd_pure (bring_c _ 4 (by omega) (by omega)) ?_
    set_option smartUnfolding false in conv => whnf
    rw [bring_nat hto.1]
    refine ⟨_, idx_arr (o := 0) hto.1, ?_⟩
    set_option smartUnfolding false in conv => whnf
    refine ⟨_, ld1 F.gu (F.get hto.1), ?_⟩
    set_option smartUnfolding false in conv => whnf
    have hkey : IntKind.i64.wrap (gD V (gI M i).1 - 1) = (gI M i).2 := by rw [IntWalk.i64_in _ (by omega)]; omega
    rw [hkey]
    have hiff := hpre.2 i hlt
    by_cases hle : (gI M i).2 ≤ n
    · have hil := hiff.1 hle
      have d1 : decide ((gI M i).2 ≤ n) = true := decide_eq_true hle
      have d2 : decide (((i : Nat) : Int) < (((lat M n).length : Nat) : Int)) = true := decide_eq_true (by omega)
      rw [d1]
      refine op_some hv.read.1 ?_
      set_option smartUnfolding false in conv => whnf
      rw [idl_len]
      refine brf (by rw [d2]; rfl) (fun hc => ?_)
      (try rw [hc])
      set_option smartUnfolding false in conv => whnf
      all_goals (try rw [d2])
      set_option smartUnfolding false in conv => whnf
      iterate 6 (all_goals (try (refine brf (by rw [d2]; rfl) (fun hc => ?_); (try rw [hc]); (set_option smartUnfolding false in conv => whnf))))
      refine op_some hv.read.1 ?_
      set_option smartUnfolding false in conv => whnf
      rw [idl_len]
      iterate 6 (all_goals (try (refine brf (by rw [d2]; rfl) (fun hc => ?_); (try rw [hc]); (set_option smartUnfolding false in conv => whnf))))
      refine brt (d2) (fun hc => ?_)
      (try rw [hc])
      set_option smartUnfolding false in conv => whnf
      obtain ⟨b', r3, r4⟩ := hv.read.2 i (by rw [idl_len]; exact hil)
      have hsame : gI (lat M n) i = gI M i := by
        rw [hpre.1, gI, gI, List.getD_eq_getElem?_getD, List.getD_eq_getElem?_getD, List.getElem?_take, if_pos hil]
      rw [idl_get hil, hsame] at r4
      refine ⟨_, r3, ?_⟩
      set_option smartUnfolding false in conv => whnf
      refine ⟨_, r4, ?_⟩
      set_option smartUnfolding false in conv => whnf
      refine ⟨_, r1, ?_⟩
      set_option smartUnfolding false in conv => whnf
      refine ⟨_, r2, ?_⟩
      set_option smartUnfolding false in conv => whnf
      iterate 6 (all_goals (try (refine brf (by rw [d2]; rfl) (fun hc => ?_); (try rw [hc]); (set_option smartUnfolding false in conv => whnf))))
      refine brf (by simp) (fun hc => ?_)
      (try rw [hc])
      set_option smartUnfolding false in conv => whnf
      iterate 6 (all_goals (try (refine brf (by rw [d2]; rfl) (fun hc => ?_); (try rw [hc]); (set_option smartUnfolding false in conv => whnf))))
      exact ih (M.length - (i + 1)) (by omega) (i + 1) _ rfl (by omega) ⟨rfl, rfl, rfl, rfl, inc_slot (by omega), trivial⟩
    · have hil : ¬ i < (lat M n).length := fun h => hle (hiff.2 h)
      have d1 : decide ((gI M i).2 ≤ n) = false := decide_eq_false hle
      have d2 : decide (((i : Nat) : Int) < (((lat M n).length : Nat) : Int)) = false := decide_eq_false (by omega)
      rw [d1]
      refine op_some hv.read.1 ?_
      set_option smartUnfolding false in conv => whnf
      rw [idl_len]
      iterate 6 (all_goals (try (refine brf (by rw [d2]; rfl) (fun hc => ?_); (try rw [hc]); (set_option smartUnfolding false in conv => whnf))))
      refine op_some hv.read.1 ?_
      set_option smartUnfolding false in conv => whnf
      rw [idl_len]
      iterate 6 (all_goals (try (refine brf (by rw [d2]; rfl) (fun hc => ?_); (try rw [hc]); (set_option smartUnfolding false in conv => whnf))))
      refine brf (d2) (fun hc => ?_)
      (try rw [hc])
      set_option smartUnfolding false in conv => whnf
      iterate 6 (all_goals (try (refine brf (by rw [d2]; rfl) (fun hc => ?_); (try rw [hc]); (set_option smartUnfolding false in conv => whnf))))
      exact ih (M.length - (i + 1)) (by omega) (i + 1) _ rfl (by omega) ⟨rfl, rfl, rfl, rfl, inc_slot (by omega), trivial⟩
  · exact hQ _

theorem readyFirst_c (k : Nat) (l : List Do3) (now : Int) (hl : l.length < 2 ^ 62) : PC fs ms f_escapementlaw15_ReadyFirst [.fz k (dos l), .int .i64 now] (.bool true) := by
  refine pc_of (by simp [clL, AV.cl, cl_dos]) rfl ?_
  generalize hK : (fun (u : AV) (_ : Heap) => u = .bool true) = K
  have hKt : ∀ h, K (.bool true) h := fun h => by subst hK; rfl
  clear hK
  generalize (⟨0, .nil⟩ : Heap) = h0
  refine vd_begin (af := C_escapementlaw15_ReadyFirst) rfl (Nat.le_of_ble_eq_true rfl) ?_
  set_option smartUnfolding false in conv => whnf
  refine vc_seq true ?_
  set_option smartUnfolding false in conv => whnf
  refine vc_seq true ?_
  set_option smartUnfolding false in conv => whnf
  refine vd_pure works15_c ?_
  set_option smartUnfolding false in conv => whnf
  refine vc_seq true ?_
  set_option smartUnfolding false in conv => whnf
  refine new_o 4 (fun hb => by omega) fun _ _ h1 q S hq hS fr1 => ?_
  set_option smartUnfolding false in conv => whnf
  refine vc_seq true ?_
  set_option smartUnfolding false in conv => whnf
  refine vc_seq true ?_
  set_option smartUnfolding false in conv => whnf
  have F0 : Fst (h1.new (.cells [.int .i64 0, .int .i64 0, .int .i64 0, .int .i64 0] true 0)) q S [] h1.next [0, 0, 0, 0] := by
    refine ⟨hq.keep ((Fr.refl h1 []).new) (by simp), get_new_same, Nat.lt_succ_self _, fun h => by have := hq.own _ h; omega, rfl, fun y hy => by simp at hy, fun t ht h => ?_, fun t ht => ?_⟩
    · rcases (show t = 0 ∨ t = 1 ∨ t = 2 ∨ t = 3 by omega) with rfl | rfl | rfl | rfl <;> simp [gD] at h
    · rcases (show t = 0 ∨ t = 1 ∨ t = 2 ∨ t = 3 by omega) with rfl | rfl | rfl | rfl <;> simp [gD]
  refine vc_seqV (vc_seq true ?_)
  set_option smartUnfolding false in conv => whnf
  refine vc_block ?_
  refine fst_l0 (k := k) (l := l) (now := now) (q := q) (u := h1.next) hl ?_ _ 0 _ S [] [0, 0, 0, 0] _ rfl (Nat.zero_le _) F0 ⟨rfl, rfl, rfl, rfl, rfl, trivial⟩
  intro e2 h2 S2 L2 V2 g1 g5 g7 F2
  show VC fs ms _ _ _ _ _ _
  have hfst : ∃ (x y : Int) (c : Bool), (∀ {Q : AV → Heap → Prop}, Q (.tup [.int .i64 x, .int .i64 y, .bool c]) h2 → VD fs ms f_ready_Queue_First [.ptr q 0] h2 Q) ∧ (c = true → ∀ t : Nat, t < 4 → 0 < gD V2 t → ¬ (gD V2 t - 1 < y) ∧ ¬ (gD V2 t - 1 = y ∧ ((t : Nat) : Int) < x)) ∧ c = someV V2 4 ∧ (c = true → ∃ t : Nat, t < 4 ∧ x = t ∧ gD V2 t = y + 1 ∧ 0 ≤ y ∧ y < 200) := by
    by_cases hL : L2 = []
    · refine ⟨0, 0, false, fun {Q} hQ => qfirst_o F2.qa (fun _ => hQ) (fun x hx => by have := hx.1; rw [hL] at this; simp at this), fun h => (by cases h), ?_, fun h => (by cases h)⟩
      cases hs : someV V2 4 with
      | false => rfl
      | true => exact absurd hL ((someV_iff F2.nt).1 hs)
    · have hs := (someV_iff F2.nt).2 hL
      obtain ⟨y0, hy0⟩ : ∃ y0, IsFst L2 y0 := by
        obtain ⟨k, p, S', P, rfl, hn, hr, hg, hl⟩ := F2.qa.ex
        exact ⟨_, hp_fst hr.hp (List.length_pos_iff.2 hL)⟩
      have hto := F2.nt.to _ hy0.1
      refine ⟨(y0.1 : Nat), y0.2, true, fun {Q} hQ => qfirst_o F2.qa (fun h => absurd h hL) (fun x hx => ?_), fun _ t ht hp => ?_, hs.symm, fun _ => ⟨y0.1, hto.1, rfl, hto.2.1, hto.2.2, by have := F2.nt.nn _ hto.1; omega⟩⟩
      · have e : x = y0 := by
          have a1 := ah_not.1 (hx.2 _ hy0.1)
          have a2 := ah_not.1 (hy0.2 _ hx.1)
          exact Prod.ext (by omega) (by omega)
        rw [e]; exact hQ
      · have := ah_not.1 (hy0.2 _ (F2.nt.of t ht hp))
        simp only at this
        omega
  obtain ⟨x, y, c, d1, hF, hcs, hcx⟩ := hfst
  refine vc_slots 4 [(1, .int .i64 now), (5, .ptr q 0), (7, .ptr h1.next 0)] ⟨g1, g5, g7, trivial⟩ ?_
  refine vc_seq true ?_
  set_option smartUnfolding false in conv => whnf
  refine d1 ?_
  set_option smartUnfolding false in conv => whnf
  refine vc_seq true ?_
  set_option smartUnfolding false in conv => whnf
  refine vc_seqV (vc_seq true ?_)
  set_option smartUnfolding false in conv => whnf
  refine vc_block ?_
  refine fst_l1 (now := now) (x := x) (y := y) (c := c) F2 hF ?_ _ 0 _ rfl (by omega) ⟨rfl, rfl, rfl, rfl, rfl, rfl, rfl, rfl, trivial⟩
  intro e3 henv3
  show VC fs ms _ _ _ _ _ _
  rw [← hcs] at henv3
  refine vc_slots 5 (f1E now q h1.next x y c c 4) henv3 ?_
  unfold f1E
  refine vc_seqV (VC.mono (Q := fun x1 e1 h' => x1 = .normal ∧ h' = h2 ∧ AllAt e1 [(1, .int .i64 now), (5, .ptr q 0), (7, .ptr h1.next 0)]) (vpC_sound (z := true) ?_) ?_)
  · cases c with
    | false =>
      set_option smartUnfolding false in conv => whnf
      exact ⟨rfl, rfl, rfl, rfl, rfl, trivial⟩
    | true =>
      obtain ⟨t, ht, rfl, hg, hy0, hy2⟩ := hcx rfl
      set_option smartUnfolding false in conv => whnf
      refine vd_pure (bring_c _ 4 (by omega) (by omega)) ?_
      set_option smartUnfolding false in conv => whnf
      rw [bring_nat ht]
      refine ⟨_, idx_arr (o := 0) ht, ?_⟩
      set_option smartUnfolding false in conv => whnf
      refine ⟨_, ld1 F2.gu (F2.get ht), ?_⟩
      set_option smartUnfolding false in conv => whnf
      rw [IntWalk.i64_in (y + 1) (by omega), hg]
      refine brf (by simp) (fun hc => ?_)
      (try rw [hc])
      set_option smartUnfolding false in conv => whnf
      exact ⟨rfl, rfl, rfl, rfl, rfl, trivial⟩
  · rintro x1 e1 h' ⟨rfl, rfl, henv1⟩
    refine vc_slots 4 [(1, .int .i64 now), (5, .ptr q 0), (7, .ptr h1.next 0)] henv1 ?_
    refine vc_seq true ?_
    set_option smartUnfolding false in conv => whnf
    refine vd_pure (bring_c now 220 (by omega) (by omega)) ?_
    set_option smartUnfolding false in conv => whnf
    generalize IntKind.i64.wrap (bring now 220 - 10) = n
    refine vc_seq true ?_
    set_option smartUnfolding false in conv => whnf
    refine qlate_o F2.qa n fun h3 v M k1 k2 k3 fr3 => ?_
    set_option smartUnfolding false in conv => whnf
    refine qjobs_o (F2.qa.keep fr3 (by simp)) fun h4 w M' j1 j2 j3 fr4 => ?_
    set_option smartUnfolding false in conv => whnf
    have hM : M' = M := sorted_uniq ah_irr ah_asy M' M j2.pw k2.pw fun y => by rw [j2.mem, k2.mem]
    subst hM
    have F4 : Fst h4 q S2 L2 h1.next V2 := ⟨(F2.qa.keep fr3 (by simp)).keep fr4 (by simp), by rw [fr4.keep _ (Nat.lt_of_lt_of_le F2.lu fr3.next) (by simp), fr3.keep _ F2.lu (by simp)]; exact F2.gu, Nat.lt_of_lt_of_le F2.lu (Nat.le_trans fr3.next fr4.next), F2.uS, F2.nt⟩
    have k1' := k1.keep fr4
    have hll := lat_len M' n
    refine vc_seq true ?_
    set_option smartUnfolding false in conv => whnf
    refine op_some k1'.read.1 ?_
    set_option smartUnfolding false in conv => whnf
    refine op_some j1.read.1 ?_
    set_option smartUnfolding false in conv => whnf
    rw [idl_len, idl_len]
    refine brf (decide_eq_false (by omega)) (fun hc => ?_)
    (try rw [hc])
    set_option smartUnfolding false in conv => whnf
    refine vc_seqV (vc_seq true ?_)
    set_option smartUnfolding false in conv => whnf
    refine vc_block ?_
    refine fst_l2 F4 j2 j3 k1' j1 ?_ _ 0 _ rfl (Nat.zero_le _) ⟨rfl, rfl, rfl, rfl, rfl, trivial⟩
    intro e5
    show VC fs ms _ _ _ _ _ _
    refine vc_slots 3 [] trivial (vpC_sound (z := true) ?_)
    set_option smartUnfolding false in conv => whnf
    exact hKt _
end Ir
end Go.Proofs.Ytenafeojcgmnhaa
