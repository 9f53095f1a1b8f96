/-
  Rows of ids, sorted in place: what is needed of numbers and of rows; reversing. Rows of ids, sorted in place: parting. Rows of ids, sorted in place: a pivot is chosen; patterns are broken. Rows of ids, sorted in place: a pivot is chosen; patterns are broken. Rows of ids, sorted in place: patterns are broken. Rows of ids, sorted in place: sorted in part. Rows of ids, sorted in place: by a heap. Rows of ids, sorted in place: all of it. Rank: Ids of any number.
-/
import Derived.Test.YtenafeojcgmnhaaVRdI
import Derived.Test.YtenafeojcgmnhaaVRdJ
set_option maxRecDepth 100000
set_option linter.unusedSimpArgs false
set_option linter.unusedVariables false
namespace Go.Proofs.Ytenafeojcgmnhaa
open Go Ads
namespace Ir

theorem idx_w {b N cap i : Nat} {op : Bool} {z : Int} (hz : z = ((i : Nat) : Int)) (hi : i < N) : pV (.iaddrS 2) [.sl b 0 N cap op, .int .i64 z] = some (.ptr b (i * 2)) := by
  subst hz
  exact idx_slS3 hi
theorem ah_tot {x y : Id} (hn : x.1 ≠ y.1) (h : ah x y = false) : ah y x = true := by rw [ah_iff]; rw [ah_not] at h; omega
theorem cmp_f {x y : Id} (h : ¬ cmpI x y < 0) : ah x y = false := by
  rw [← Bool.not_eq_true, ← cmpI_lt]
  exact h
theorem RS.all {a e : Nat} {L M : List Id} (h : RS a e L M) {p : Id → Prop} (hp : ∀ k, a ≤ k → k < e → p (gI L k)) : ∀ k, a ≤ k → k < e → p (gI M k) := by
  intro k k1 k2
  obtain ⟨j, j1, j2, j3⟩ := (h.mem (gI M k)).2 ⟨k, k1, k2, rfl⟩
  rw [← j3]
  exact hp j j1 j2
/-- What lies ahead of a place comes sooner than all from there on. -/
def Low (L : List Id) (a e : Nat) : Prop := 0 < a → ∀ k, a ≤ k → k < e → ah (gI L (a - 1)) (gI L k) = true
theorem Low.rs {L M : List Id} {a e : Nat} (h : Low L a e) (r : RS a e L M) : Low M a e := by
  intro h0
  rw [r.out (a - 1) (by omega)]
  exact r.all (p := fun y => ah (gI L (a - 1)) y = true) (h h0)
/-- Parted by the one at m. -/
structure Prt (L : List Id) (a e m : Nat) : Prop where
  am : a ≤ m
  me : m < e
  lo : ∀ k, a ≤ k → k < m → ah (gI L k) (gI L m) = true
  hi : ∀ k, m < k → k < e → ah (gI L k) (gI L m) = false
theorem Prt.left {L M : List Id} {a e m : Nat} (h : Prt L a e m) (r : RS a m L M) : Prt M a e m := by
  have hm := r.out m (by omega)
  refine ⟨h.am, h.me, ?_, fun k k1 k2 => ?_⟩
  · rw [hm]; exact r.all (p := fun y => ah y (gI L m) = true) h.lo
  · rw [hm, r.out k (by omega)]; exact h.hi k k1 k2
theorem Prt.right {L M : List Id} {a e m : Nat} (h : Prt L a e m) (r : RS (m + 1) e L M) : Prt M a e m := by
  have hm := r.out m (by omega)
  refine ⟨h.am, h.me, fun k k1 k2 => ?_, fun k k1 k2 => ?_⟩
  · rw [hm, r.out k (by omega)]; exact h.lo k k1 k2
  · rw [hm]; exact r.all (p := fun y => ah y (gI L m) = false) (fun k k1 k2 => h.hi k (by omega) k2) k (by omega) k2
theorem Prt.low {L : List Id} {a e m : Nat} (h : Prt L a e m) (he : e ≤ L.length) (d : Dst L) : Low L (m + 1) e := by
  intro _ k k1 k2
  rw [Nat.add_sub_cancel]
  refine ah_tot (fun e => ?_) (h.hi k (by omega) k2)
  have := d k m (by omega) (by have := h.me; omega) e
  omega
theorem Prt.srt {L : List Id} {a e m : Nat} (h : Prt L a e m) (h1 : Srt L a m) (h2 : Srt L (m + 1) e) : Srt L a e := by
  intro i j hi hij hj
  rcases Nat.lt_trichotomy j m with c | c | c
  · exact h1 i j hi hij c
  · subst c
    exact ah_as (h.lo i hi hij)
  · rcases Nat.lt_trichotomy i m with d | d | d
    · exact ah_tt (h.hi j c hj) (ah_as (h.lo i hi d))
    · subst d
      exact h.hi j c hj
    · exact h2 i j (by omega) hij hj

/- Reversing. -/
theorem rev_l {b es cap a e N : Nat} {op : Bool} {rest : List AV} {h0 : Heap} {L0 : List Id} {B : Nat} {Q : AX → Env → Heap → Prop} (hN : N < 2 ^ 60) (he : e ≤ N)
    (hQ : ∀ h' L' e', SAt h' b es L' rest → RS a e L0 L' → Fr h0 h' [b] → Q (.exit 0) e' h') :
    ∀ (m i j : Nat) (h : Heap) (L : List Id) (env : Env), j - i = m → a ≤ i → j < e → SAt h b es L rest → L.length = N → RS a e L0 L → Fr h0 h [b] → AllAt env [(0, .sl b 0 N cap op), (8, .int .i64 ((i : Nat) : Int)), (9, .int .i64 ((j : Nat) : Int))] →
    VC fs ms B false (.loop L_slices_reverseRangeCmpFunc_rank_one_0) env h Q := by
  intro m
  induction m using Nat.strongRecOn with
  | ind m ih =>
  intro i j h L env hm hi hj hh hL hr fr henv
  refine vc_slots 4 _ henv ?_
  refine vc_loop (z := true) ?_
  set_option smartUnfolding false in conv => whnf
  refine br (fun hc => ?_) (fun hc => ?_) <;> (try rw [hc]) <;> (set_option smartUnfolding false in conv => whnf)
  · have hlt : i < j := by have := of_decide_eq_true hc; omega
    refine ⟨_, idx_w (i := j) (by (first | with_reducible rfl | omega | (simp (disch := omega) only [IntWalk.i64_in] <;> omega))) (by omega), ?_⟩
    set_option smartUnfolding false in conv => whnf
    refine ⟨_, (hh).one (by omega), ?_⟩
    set_option smartUnfolding false in conv => whnf
    refine ⟨_, idx_w (i := i) (by (first | with_reducible rfl | omega | (simp (disch := omega) only [IntWalk.i64_in] <;> omega))) (by omega), ?_⟩
    set_option smartUnfolding false in conv => whnf
    refine ⟨_, (hh).one (by omega), ?_⟩
    set_option smartUnfolding false in conv => whnf
    refine ⟨_, idx_w (i := i) (by (first | with_reducible rfl | omega | (simp (disch := omega) only [IntWalk.i64_in] <;> omega))) (by omega), ?_⟩
    set_option smartUnfolding false in conv => whnf
    refine eff_o ((hh).put (by omega) _) fun g1 eg1 => ?_
    set_option smartUnfolding false in conv => whnf
    have hg1 : SAt g1 b es ((L).set (i) (gI (L) (j))) rest := by rw [eg1]; exact (hh).next
    refine ⟨_, idx_w (i := j) (by (first | with_reducible rfl | omega | (simp (disch := omega) only [IntWalk.i64_in] <;> omega))) (by omega), ?_⟩
    set_option smartUnfolding false in conv => whnf
    refine eff_o (hg1.put (by rw [List.length_set]; omega) _) fun g2 eg2 => ?_
    set_option smartUnfolding false in conv => whnf
    have hg2 : SAt g2 b es (swp (L) (i) (j)) rest := by rw [eg2]; exact hg1.next
    have frg : Fr h g2 [b] := by rw [eg2, eg1]; exact ((Fr.refl h [b]).set (by simp)).set (by simp)
    refine ih (j - 1 - (i + 1)) (by omega) (i + 1) (j - 1) g2 _ _ rfl (by omega) (by omega) hg2 (by rw [swp_len]; exact hL) (hr.trans (RS.swap (by omega) (by omega) (by omega) (by omega) (by omega))) (fr.trans frg) (by repeat' (first | exact trivial | refine And.intro (by first | with_reducible_and_instances rfl | (refine Eq.trans (b := some (AV.int .i64 _)) rfl (congrArg (fun z => some (AV.int .i64 z)) ?_); first | omega | (simp (disch := omega) only [IntWalk.i64_in] <;> omega)) | rfl) ?_))
  · exact hQ h L _ hh hr fr
theorem rev_o {h : Heap} {b es cap a e : Nat} {op : Bool} {L : List Id} {rest : List AV} (hh : SAt h b es L rest) (hN : L.length < 2 ^ 60) (ha : a < e) (he : e ≤ L.length) {Q : AV → Heap → Prop}
    (hQ : ∀ h' L', SAt h' b es L' rest → RS a e L L' → Fr h h' [b] → Q (.tup []) h') :
    VD fs ms f_slices_reverseRangeCmpFunc_rank_one [.sl b 0 L.length cap op, .int .i64 ((a : Nat) : Int), .int .i64 ((e : Nat) : Int), cmpF] h Q := by
  refine vd_begin (af := C_slices_reverseRangeCmpFunc_rank_one) rfl (Nat.le_of_ble_eq_true rfl) ?_
  set_option smartUnfolding false in conv => whnf
  refine vc_seq true ?_
  set_option smartUnfolding false in conv => whnf
  refine vc_seq true ?_
  set_option smartUnfolding false in conv => whnf
  refine vc_block ?_
  refine rev_l hN he ?_ _ a (e - 1) h L _ rfl (Nat.le_refl _) (by omega) hh rfl (RS.refl _ _ _) (Fr.refl _ _) (by repeat' (first | exact trivial | refine And.intro (by first | with_reducible_and_instances rfl | (refine Eq.trans (b := some (AV.int .i64 _)) rfl (congrArg (fun z => some (AV.int .i64 z)) ?_); first | omega | (simp (disch := omega) only [IntWalk.i64_in] <;> omega)) | rfl) ?_))
  intro h' L' e' k1 k2 k3
  show Q (.tup []) h'
  exact hQ h' L' k1 k2 k3
end Ir
end Go.Proofs.Ytenafeojcgmnhaa
set_option maxRecDepth 100000
set_option linter.unusedSimpArgs false
set_option linter.unusedVariables false
namespace Go.Proofs.Ytenafeojcgmnhaa
open Go Ads
namespace Ir

def prE (b N cap a i j : Nat) (op : Bool) : List (Nat × AV) := [(0, .sl b 0 N cap op), (1, .int .i64 ((a : Nat) : Int)), (4, cmpF), (12, .int .i64 ((i : Nat) : Int)), (13, .int .i64 ((j : Nat) : Int))]

theorem p_up0 {b es cap N a j i0 : Nat} {op : Bool} {rest : List AV} {h : Heap} {L : List Id} {B : Nat} {Q : AX → Env → Heap → Prop} (hh : SAt h b es L rest) (hN : N < 2 ^ 60) (hL : L.length = N) (hj : j < N)
    (hQ : ∀ i' e', i0 ≤ i' → i' ≤ j + 1 → a < i' → (∀ k, a < k → k < i' → ah (gI L k) (gI L a) = true) → (i' ≤ j → ah (gI L i') (gI L a) = false) → AllAt e' (prE b N cap a i' j op) → Q (.exit 0) e' h) :
    ∀ (m i : Nat) (env : Env), j + 1 - i = m → i0 ≤ i → i ≤ j + 1 → a < i → (∀ k, a < k → k < i → ah (gI L k) (gI L a) = true) → AllAt env (prE b N cap a i j op) →
    VC fs ms B false (.loop L_slices_partitionCmpFunc_rank_one_0) env h Q := by
  intro m
  induction m using Nat.strongRecOn with
  | ind m ih =>
  intro i env hm hi0 hi hai hs henv
  refine vc_slots 4 _ henv ?_
  refine vc_loop (z := true) ?_
  unfold prE
  set_option smartUnfolding false in conv => whnf
  refine br (fun hc => ?_) (fun hc => ?_) <;> (try rw [hc]) <;> (set_option smartUnfolding false in conv => whnf)
  · have hlt : i ≤ j := by have := of_decide_eq_true hc; omega
    refine ⟨_, idx_w (i := i) (by (first | with_reducible rfl | omega | (simp (disch := omega) only [IntWalk.i64_in] <;> omega))) (by omega), ?_⟩
    set_option smartUnfolding false in conv => whnf
    refine ⟨_, (hh).one (by omega), ?_⟩
    set_option smartUnfolding false in conv => whnf
    refine ⟨_, idx_w (i := a) (by (first | with_reducible rfl | omega | (simp (disch := omega) only [IntWalk.i64_in] <;> omega))) (by omega), ?_⟩
    set_option smartUnfolding false in conv => whnf
    refine ⟨_, (hh).one (by omega), ?_⟩
    set_option smartUnfolding false in conv => whnf
    refine vd_pure (cmpI_c _ _) ?_
    set_option smartUnfolding false in conv => whnf
    refine br (fun hc => ?_) (fun hc => ?_) <;> (try rw [hc]) <;> (set_option smartUnfolding false in conv => whnf)
    · have hlt2 : ah (gI L i) (gI L a) = true := (cmpI_lt _ _).1 (of_decide_eq_true hc)
      refine ih (j + 1 - (i + 1)) (by omega) (i + 1) _ rfl (by omega) (by omega) (by omega) (fun k k1 k2 => ?_) (by repeat' (first | exact trivial | refine And.intro (by first | with_reducible_and_instances rfl | (refine Eq.trans (b := some (AV.int .i64 _)) rfl (congrArg (fun z => some (AV.int .i64 z)) ?_); first | omega | (simp (disch := omega) only [IntWalk.i64_in] <;> omega)) | rfl) ?_))
      by_cases e : k = i
      · subst e; exact hlt2
      · exact hs k k1 (by omega)
    · exact hQ i _ hi0 (by omega) hai hs (fun _ => cmp_f (of_decide_eq_false hc)) (by repeat' (first | exact trivial | refine And.intro (by first | with_reducible_and_instances rfl | (refine Eq.trans (b := some (AV.int .i64 _)) rfl (congrArg (fun z => some (AV.int .i64 z)) ?_); first | omega | (simp (disch := omega) only [IntWalk.i64_in] <;> omega)) | rfl) ?_))
  · have hge : j < i := by have := of_decide_eq_false hc; omega
    exact hQ i _ hi0 hi hai hs (fun h => by omega) (by repeat' (first | exact trivial | refine And.intro (by first | with_reducible_and_instances rfl | (refine Eq.trans (b := some (AV.int .i64 _)) rfl (congrArg (fun z => some (AV.int .i64 z)) ?_); first | omega | (simp (disch := omega) only [IntWalk.i64_in] <;> omega)) | rfl) ?_))

theorem p_dn1 {b es cap N a e i j0 : Nat} {op : Bool} {rest : List AV} {h : Heap} {L : List Id} {B : Nat} {Q : AX → Env → Heap → Prop} (hh : SAt h b es L rest) (hN : N < 2 ^ 60) (hL : L.length = N) (he : e ≤ N) (hai : a < i)
    (hQ : ∀ j' e', j' ≤ j0 → i ≤ j' + 1 → j' < e → (∀ k, j' < k → k < e → ah (gI L k) (gI L a) = false) → (i ≤ j' → ah (gI L j') (gI L a) = true) → AllAt e' (prE b N cap a i j' op) → Q (.exit 2) e' h) :
    ∀ (j : Nat) (env : Env), j ≤ j0 → i ≤ j + 1 → j < e → (∀ k, j < k → k < e → ah (gI L k) (gI L a) = false) → AllAt env (prE b N cap a i j op) →
    VC fs ms B false (.loop L_slices_partitionCmpFunc_rank_one_1) env h Q := by
  intro j
  induction j using Nat.strongRecOn with
  | ind j ih =>
  intro env hj0 hi hje hs henv
  refine vc_slots 4 _ henv ?_
  refine vc_loop (z := true) ?_
  unfold prE
  set_option smartUnfolding false in conv => whnf
  refine br (fun hc => ?_) (fun hc => ?_) <;> (try rw [hc]) <;> (set_option smartUnfolding false in conv => whnf)
  · have hlt : i ≤ j := by have := of_decide_eq_true hc; omega
    refine ⟨_, idx_w (i := j) (by (first | with_reducible rfl | omega | (simp (disch := omega) only [IntWalk.i64_in] <;> omega))) (by omega), ?_⟩
    set_option smartUnfolding false in conv => whnf
    refine ⟨_, (hh).one (by omega), ?_⟩
    set_option smartUnfolding false in conv => whnf
    refine ⟨_, idx_w (i := a) (by (first | with_reducible rfl | omega | (simp (disch := omega) only [IntWalk.i64_in] <;> omega))) (by omega), ?_⟩
    set_option smartUnfolding false in conv => whnf
    refine ⟨_, (hh).one (by omega), ?_⟩
    set_option smartUnfolding false in conv => whnf
    refine vd_pure (cmpI_c _ _) ?_
    set_option smartUnfolding false in conv => whnf
    cases hc2 : decide (cmpI (gI L j) (gI L a) < 0) with
    | true =>
      set_option smartUnfolding false in conv => whnf
      exact hQ j _ hj0 (by omega) hje hs (fun _ => (cmpI_lt _ _).1 (of_decide_eq_true hc2)) (by repeat' (first | exact trivial | refine And.intro (by first | with_reducible_and_instances rfl | (refine Eq.trans (b := some (AV.int .i64 _)) rfl (congrArg (fun z => some (AV.int .i64 z)) ?_); first | omega | (simp (disch := omega) only [IntWalk.i64_in] <;> omega)) | rfl) ?_))
    | false =>
      set_option smartUnfolding false in conv => whnf
      refine ih (j - 1) (by omega) _ (by omega) (by omega) (by omega) (fun k k1 k2 => ?_) (by repeat' (first | exact trivial | refine And.intro (by first | with_reducible_and_instances rfl | (refine Eq.trans (b := some (AV.int .i64 _)) rfl (congrArg (fun z => some (AV.int .i64 z)) ?_); first | omega | (simp (disch := omega) only [IntWalk.i64_in] <;> omega)) | rfl) ?_))
      by_cases e : k = j
      · subst e; exact cmp_f (of_decide_eq_false hc2)
      · exact hs k (by omega) k2
  · have hge : j < i := by have := of_decide_eq_false hc; omega
    exact hQ j _ hj0 (by omega) hje hs (fun h => by omega) (by repeat' (first | exact trivial | refine And.intro (by first | with_reducible_and_instances rfl | (refine Eq.trans (b := some (AV.int .i64 _)) rfl (congrArg (fun z => some (AV.int .i64 z)) ?_); first | omega | (simp (disch := omega) only [IntWalk.i64_in] <;> omega)) | rfl) ?_))

theorem p_up3 {b es cap N a j i0 : Nat} {op : Bool} {rest : List AV} {h : Heap} {L : List Id} {B : Nat} {Q : AX → Env → Heap → Prop} (hh : SAt h b es L rest) (hN : N < 2 ^ 60) (hL : L.length = N) (hj : j < N)
    (hQ : ∀ i' e', i0 ≤ i' → i' ≤ j + 1 → a < i' → (∀ k, a < k → k < i' → ah (gI L k) (gI L a) = true) → (i' ≤ j → ah (gI L i') (gI L a) = false) → AllAt e' (prE b N cap a i' j op) → Q (.exit 6) e' h) :
    ∀ (m i : Nat) (env : Env), j + 1 - i = m → i0 ≤ i → i ≤ j + 1 → a < i → (∀ k, a < k → k < i → ah (gI L k) (gI L a) = true) → AllAt env (prE b N cap a i j op) →
    VC fs ms B false (.loop L_slices_partitionCmpFunc_rank_one_3) env h Q := by
  intro m
  induction m using Nat.strongRecOn with
  | ind m ih =>
  intro i env hm hi0 hi hai hs henv
  refine vc_slots 4 _ henv ?_
  refine vc_loop (z := true) ?_
  unfold prE
  set_option smartUnfolding false in conv => whnf
  refine br (fun hc => ?_) (fun hc => ?_) <;> (try rw [hc]) <;> (set_option smartUnfolding false in conv => whnf)
  · have hlt : i ≤ j := by have := of_decide_eq_true hc; omega
    refine ⟨_, idx_w (i := i) (by (first | with_reducible rfl | omega | (simp (disch := omega) only [IntWalk.i64_in] <;> omega))) (by omega), ?_⟩
    set_option smartUnfolding false in conv => whnf
    refine ⟨_, (hh).one (by omega), ?_⟩
    set_option smartUnfolding false in conv => whnf
    refine ⟨_, idx_w (i := a) (by (first | with_reducible rfl | omega | (simp (disch := omega) only [IntWalk.i64_in] <;> omega))) (by omega), ?_⟩
    set_option smartUnfolding false in conv => whnf
    refine ⟨_, (hh).one (by omega), ?_⟩
    set_option smartUnfolding false in conv => whnf
    refine vd_pure (cmpI_c _ _) ?_
    set_option smartUnfolding false in conv => whnf
    refine br (fun hc => ?_) (fun hc => ?_) <;> (try rw [hc]) <;> (set_option smartUnfolding false in conv => whnf)
    · have hlt2 : ah (gI L i) (gI L a) = true := (cmpI_lt _ _).1 (of_decide_eq_true hc)
      refine ih (j + 1 - (i + 1)) (by omega) (i + 1) _ rfl (by omega) (by omega) (by omega) (fun k k1 k2 => ?_) (by repeat' (first | exact trivial | refine And.intro (by first | with_reducible_and_instances rfl | (refine Eq.trans (b := some (AV.int .i64 _)) rfl (congrArg (fun z => some (AV.int .i64 z)) ?_); first | omega | (simp (disch := omega) only [IntWalk.i64_in] <;> omega)) | rfl) ?_))
      by_cases e : k = i
      · subst e; exact hlt2
      · exact hs k k1 (by omega)
    · exact hQ i _ hi0 (by omega) hai hs (fun _ => cmp_f (of_decide_eq_false hc)) (by repeat' (first | exact trivial | refine And.intro (by first | with_reducible_and_instances rfl | (refine Eq.trans (b := some (AV.int .i64 _)) rfl (congrArg (fun z => some (AV.int .i64 z)) ?_); first | omega | (simp (disch := omega) only [IntWalk.i64_in] <;> omega)) | rfl) ?_))
  · have hge : j < i := by have := of_decide_eq_false hc; omega
    exact hQ i _ hi0 hi hai hs (fun h => by omega) (by repeat' (first | exact trivial | refine And.intro (by first | with_reducible_and_instances rfl | (refine Eq.trans (b := some (AV.int .i64 _)) rfl (congrArg (fun z => some (AV.int .i64 z)) ?_); first | omega | (simp (disch := omega) only [IntWalk.i64_in] <;> omega)) | rfl) ?_))

theorem p_dn4 {b es cap N a e i j0 : Nat} {op : Bool} {rest : List AV} {h : Heap} {L : List Id} {B : Nat} {Q : AX → Env → Heap → Prop} (hh : SAt h b es L rest) (hN : N < 2 ^ 60) (hL : L.length = N) (he : e ≤ N) (hai : a < i)
    (hQ : ∀ j' e', j' ≤ j0 → i ≤ j' + 1 → j' < e → (∀ k, j' < k → k < e → ah (gI L k) (gI L a) = false) → (i ≤ j' → ah (gI L j') (gI L a) = true) → AllAt e' (prE b N cap a i j' op) → Q (.exit 8) e' h) :
    ∀ (j : Nat) (env : Env), j ≤ j0 → i ≤ j + 1 → j < e → (∀ k, j < k → k < e → ah (gI L k) (gI L a) = false) → AllAt env (prE b N cap a i j op) →
    VC fs ms B false (.loop L_slices_partitionCmpFunc_rank_one_4) env h Q := by
  intro j
  induction j using Nat.strongRecOn with
  | ind j ih =>
  intro env hj0 hi hje hs henv
  refine vc_slots 4 _ henv ?_
  refine vc_loop (z := true) ?_
  unfold prE
  set_option smartUnfolding false in conv => whnf
  refine br (fun hc => ?_) (fun hc => ?_) <;> (try rw [hc]) <;> (set_option smartUnfolding false in conv => whnf)
  · have hlt : i ≤ j := by have := of_decide_eq_true hc; omega
    refine ⟨_, idx_w (i := j) (by (first | with_reducible rfl | omega | (simp (disch := omega) only [IntWalk.i64_in] <;> omega))) (by omega), ?_⟩
    set_option smartUnfolding false in conv => whnf
    refine ⟨_, (hh).one (by omega), ?_⟩
    set_option smartUnfolding false in conv => whnf
    refine ⟨_, idx_w (i := a) (by (first | with_reducible rfl | omega | (simp (disch := omega) only [IntWalk.i64_in] <;> omega))) (by omega), ?_⟩
    set_option smartUnfolding false in conv => whnf
    refine ⟨_, (hh).one (by omega), ?_⟩
    set_option smartUnfolding false in conv => whnf
    refine vd_pure (cmpI_c _ _) ?_
    set_option smartUnfolding false in conv => whnf
    cases hc2 : decide (cmpI (gI L j) (gI L a) < 0) with
    | true =>
      set_option smartUnfolding false in conv => whnf
      exact hQ j _ hj0 (by omega) hje hs (fun _ => (cmpI_lt _ _).1 (of_decide_eq_true hc2)) (by repeat' (first | exact trivial | refine And.intro (by first | with_reducible_and_instances rfl | (refine Eq.trans (b := some (AV.int .i64 _)) rfl (congrArg (fun z => some (AV.int .i64 z)) ?_); first | omega | (simp (disch := omega) only [IntWalk.i64_in] <;> omega)) | rfl) ?_))
    | false =>
      set_option smartUnfolding false in conv => whnf
      refine ih (j - 1) (by omega) _ (by omega) (by omega) (by omega) (fun k k1 k2 => ?_) (by repeat' (first | exact trivial | refine And.intro (by first | with_reducible_and_instances rfl | (refine Eq.trans (b := some (AV.int .i64 _)) rfl (congrArg (fun z => some (AV.int .i64 z)) ?_); first | omega | (simp (disch := omega) only [IntWalk.i64_in] <;> omega)) | rfl) ?_))
      by_cases e : k = j
      · subst e; exact cmp_f (of_decide_eq_false hc2)
      · exact hs k (by omega) k2
  · have hge : j < i := by have := of_decide_eq_false hc; omega
    exact hQ j _ hj0 (by omega) hje hs (fun h => by omega) (by repeat' (first | exact trivial | refine And.intro (by first | with_reducible_and_instances rfl | (refine Eq.trans (b := some (AV.int .i64 _)) rfl (congrArg (fun z => some (AV.int .i64 z)) ?_); first | omega | (simp (disch := omega) only [IntWalk.i64_in] <;> omega)) | rfl) ?_))

/-- What is known between two rounds. -/
structure Pr (L : List Id) (a e i j : Nat) : Prop where
  ai : a < i
  ij : i ≤ j + 1
  je : j < e
  lo : ∀ k, a < k → k < i → ah (gI L k) (gI L a) = true
  hi : ∀ k, j < k → k < e → ah (gI L k) (gI L a) = false
theorem Pr.step {L : List Id} {a e i j : Nat} (h : Pr L a e i j) (hij : i ≤ j) (he : e ≤ L.length) (h1 : ah (gI L i) (gI L a) = false) (h2 : ah (gI L j) (gI L a) = true) : i < j ∧ Pr (swp L i j) a e (i + 1) (j - 1) := by
  have hlt : i < j := by
    rcases Nat.lt_or_ge i j with c | c
    · exact c
    · have : i = j := by omega
      subst this
      rw [h1] at h2
      cases h2
  have hai := h.ai
  have hje := h.je
  have hg := gI_swp (V := L) (show i < L.length by omega) (show j < L.length by omega)
  have ha : gI (swp L i j) a = gI L a := by rw [hg, if_neg (by omega), if_neg (by omega)]
  refine ⟨hlt, by omega, by omega, by omega, fun k k1 k2 => ?_, fun k k1 k2 => ?_⟩
  · rw [ha, hg, if_neg (by omega)]
    by_cases hk : k = i
    · rw [if_pos hk]; exact h2
    · rw [if_neg hk]; exact h.lo k k1 (by omega)
  · rw [ha, hg]
    by_cases hk : k = j
    · rw [if_pos hk]; exact h1
    · rw [if_neg hk, if_neg (by omega)]; exact h.hi k (by omega) k2
theorem Pr.done {L : List Id} {a e i j : Nat} (h : Pr L a e i j) (hij : j < i) (he : e ≤ L.length) : Prt (swp L j a) a e j := by
  have hai := h.ai
  have hje := h.je
  have hij2 := h.ij
  have hg := gI_swp (V := L) (show j < L.length by omega) (show a < L.length by omega)
  have hj : gI (swp L j a) j = gI L a := by
    rw [hg]
    by_cases c : j = a
    · rw [if_pos c, c]
    · rw [if_neg c, if_pos rfl]
  refine ⟨by have := h.ij; omega, hje, fun k k1 k2 => ?_, fun k k1 k2 => ?_⟩
  · rw [hj, hg]
    by_cases hk : k = a
    · rw [if_pos hk]; exact h.lo j (by omega) hij
    · rw [if_neg hk, if_neg (by omega)]; exact h.lo k (by omega) (by have := h.ij; omega)
  · rw [hj, hg, if_neg (by omega), if_neg (by omega)]
    exact h.hi k k1 k2

theorem p_out {b es cap N a e : Nat} {op : Bool} {rest : List AV} {h0 : Heap} {L0 : List Id} {B : Nat} {Q : AX → Env → Heap → Prop} (hN : N < 2 ^ 60) (he : e ≤ N)
    (hQ : ∀ h' L' i j e', SAt h' b es L' rest → RS a e L0 L' → Pr L' a e i j → j < i → Fr h0 h' [b] → AllAt e' (prE b N cap a i j op) → Q (.exit 4) e' h') :
    ∀ (m i j : Nat) (h : Heap) (L : List Id) (env : Env), j + 1 - i = m → SAt h b es L rest → L.length = N → RS a e L0 L → Fr h0 h [b] → Pr L a e i j → AllAt env (prE b N cap a i j op) →
    VC fs ms B false (.loop L_slices_partitionCmpFunc_rank_one_2) env h Q := by
  intro m
  induction m using Nat.strongRecOn with
  | ind m ih =>
  intro i j h L env hm hh hL hr fr hp henv
  have hpje := hp.je
  refine vc_loopV (vc_block (vc_seqV (vc_block ?_)))
  refine p_up3 (i0 := i) hh hN hL (by omega) ?_ _ i env rfl (Nat.le_refl _) hp.ij hp.ai hp.lo henv
  intro i' e1 i0 i1 i2 i3 i4 henv1
  show VC fs ms _ _ _ _ _ _
  refine vc_seqV (vc_block ?_)
  refine p_dn4 (j0 := j) hh hN hL he i2 ?_ j e1 (Nat.le_refl _) i1 hp.je hp.hi henv1
  intro j' e2 j0 j1 j2 j3 j4 henv2
  show VC fs ms _ _ _ _ _ _
  have hp2 : Pr L a e i' j' := ⟨i2, j1, j2, i3, j3⟩
  refine vc_slots 4 _ henv2 (vpC_sound (z := true) ?_)
  unfold prE
  set_option smartUnfolding false in conv => whnf
  refine br (fun hc => ?_) (fun hc => ?_) <;> (try rw [hc]) <;> (set_option smartUnfolding false in conv => whnf)
  · have hlt : j' < i' := by have := of_decide_eq_true hc; omega
    exact hQ h L i' j' _ hh hr hp2 hlt fr (by repeat' (first | exact trivial | refine And.intro (by first | with_reducible_and_instances rfl | (refine Eq.trans (b := some (AV.int .i64 _)) rfl (congrArg (fun z => some (AV.int .i64 z)) ?_); first | omega | (simp (disch := omega) only [IntWalk.i64_in] <;> omega)) | rfl) ?_))
  · have hle : i' ≤ j' := by have := of_decide_eq_false hc; omega
    obtain ⟨hlt, hp3⟩ := hp2.step hle (by omega) (i4 (by omega)) (j4 hle)
    refine ⟨_, idx_w (i := j') (by (first | with_reducible rfl | omega | (simp (disch := omega) only [IntWalk.i64_in] <;> omega))) (by omega), ?_⟩
    set_option smartUnfolding false in conv => whnf
    refine ⟨_, (hh).one (by omega), ?_⟩
    set_option smartUnfolding false in conv => whnf
    refine ⟨_, idx_w (i := i') (by (first | with_reducible rfl | omega | (simp (disch := omega) only [IntWalk.i64_in] <;> omega))) (by omega), ?_⟩
    set_option smartUnfolding false in conv => whnf
    refine ⟨_, (hh).one (by omega), ?_⟩
    set_option smartUnfolding false in conv => whnf
    refine ⟨_, idx_w (i := i') (by (first | with_reducible rfl | omega | (simp (disch := omega) only [IntWalk.i64_in] <;> omega))) (by omega), ?_⟩
    set_option smartUnfolding false in conv => whnf
    refine eff_o ((hh).put (by omega) _) fun g1 eg1 => ?_
    set_option smartUnfolding false in conv => whnf
    have hg1 : SAt g1 b es ((L).set (i') (gI (L) (j'))) rest := by rw [eg1]; exact (hh).next
    refine ⟨_, idx_w (i := j') (by (first | with_reducible rfl | omega | (simp (disch := omega) only [IntWalk.i64_in] <;> omega))) (by omega), ?_⟩
    set_option smartUnfolding false in conv => whnf
    refine eff_o (hg1.put (by rw [List.length_set]; omega) _) fun g2 eg2 => ?_
    set_option smartUnfolding false in conv => whnf
    have hg2 : SAt g2 b es (swp (L) (i') (j')) rest := by rw [eg2]; exact hg1.next
    have frg : Fr h g2 [b] := by rw [eg2, eg1]; exact ((Fr.refl h [b]).set (by simp)).set (by simp)
    refine ih (j' - 1 + 1 - (i' + 1)) (by omega) (i' + 1) (j' - 1) g2 _ _ rfl hg2 (by rw [swp_len]; exact hL) (hr.trans (RS.swap (by omega) (by omega) (by omega) (by omega) (by omega))) (fr.trans frg) hp3 (by repeat' (first | exact trivial | refine And.intro (by first | with_reducible_and_instances rfl | (refine Eq.trans (b := some (AV.int .i64 _)) rfl (congrArg (fun z => some (AV.int .i64 z)) ?_); first | omega | (simp (disch := omega) only [IntWalk.i64_in] <;> omega)) | rfl) ?_))

theorem part_o {h : Heap} {b es cap a e p : Nat} {op : Bool} {L : List Id} {rest : List AV} (hh : SAt h b es L rest) (hN : L.length < 2 ^ 60) (ha : a < e) (he : e ≤ L.length) (hp : a ≤ p) (hpe : p < e) {Q : AV → Heap → Prop}
    (hQ : ∀ h' L' m c, SAt h' b es L' rest → RS a e L L' → Prt L' a e m → Fr h h' [b] → Q (.tup [.int .i64 ((m : Nat) : Int), .bool c]) h') :
    VD fs ms f_slices_partitionCmpFunc_rank_one [.sl b 0 L.length cap op, .int .i64 ((a : Nat) : Int), .int .i64 ((e : Nat) : Int), .int .i64 ((p : Nat) : Int), cmpF] h Q := by
  refine vd_begin (af := C_slices_partitionCmpFunc_rank_one) rfl (Nat.le_of_ble_eq_true rfl) ?_
  set_option smartUnfolding false in conv => whnf
  obtain ⟨N, hL⟩ : ∃ N, L.length = N := ⟨_, rfl⟩
  rw [hL] at hN he ⊢
  refine vc_seq true ?_
  set_option smartUnfolding false in conv => whnf
  refine vc_seq true ?_
  set_option smartUnfolding false in conv => whnf
  refine ⟨_, idx_w (i := p) (by (first | with_reducible rfl | omega | (simp (disch := omega) only [IntWalk.i64_in] <;> omega))) (by omega), ?_⟩
  set_option smartUnfolding false in conv => whnf
  refine ⟨_, (hh).one (by omega), ?_⟩
  set_option smartUnfolding false in conv => whnf
  refine ⟨_, idx_w (i := a) (by (first | with_reducible rfl | omega | (simp (disch := omega) only [IntWalk.i64_in] <;> omega))) (by omega), ?_⟩
  set_option smartUnfolding false in conv => whnf
  refine ⟨_, (hh).one (by omega), ?_⟩
  set_option smartUnfolding false in conv => whnf
  refine ⟨_, idx_w (i := a) (by (first | with_reducible rfl | omega | (simp (disch := omega) only [IntWalk.i64_in] <;> omega))) (by omega), ?_⟩
  set_option smartUnfolding false in conv => whnf
  refine eff_o ((hh).put (by omega) _) fun g1z eg1z => ?_
  set_option smartUnfolding false in conv => whnf
  have hg1z : SAt g1z b es ((L).set (a) (gI (L) (p))) rest := by rw [eg1z]; exact (hh).next
  refine ⟨_, idx_w (i := p) (by (first | with_reducible rfl | omega | (simp (disch := omega) only [IntWalk.i64_in] <;> omega))) (by omega), ?_⟩
  set_option smartUnfolding false in conv => whnf
  refine eff_o (hg1z.put (by rw [List.length_set]; omega) _) fun g2z eg2z => ?_
  set_option smartUnfolding false in conv => whnf
  have hg2z : SAt g2z b es (swp (L) (a) (p)) rest := by rw [eg2z]; exact hg1z.next
  have frgz : Fr h g2z [b] := by rw [eg2z, eg1z]; exact ((Fr.refl h [b]).set (by simp)).set (by simp)
  have r0 : RS a e L (swp L a p) := RS.swap (by omega) (by omega) (by omega) (by omega) (by omega)
  have hL0 : (swp L a p).length = N := by rw [swp_len]; exact hL
  have fr0 := frgz
  revert r0 hL0 hg2z
  generalize swp L a p = M
  intro hM r0 hL0
  refine vc_seq true ?_
  set_option smartUnfolding false in conv => whnf
  refine vc_slots 4 (prE b N cap a (a + 1) (e - 1) op) (by repeat' (first | exact trivial | refine And.intro (by first | with_reducible_and_instances rfl | (refine Eq.trans (b := some (AV.int .i64 _)) rfl (congrArg (fun z => some (AV.int .i64 z)) ?_); first | omega | (simp (disch := omega) only [IntWalk.i64_in] <;> omega)) | rfl) ?_)) ?_
  refine vc_seqV (vc_block ?_)
  refine p_up0 (a := a) (i0 := 0) (j := e - 1) hM hN hL0 (by omega) ?_ _ (a + 1) _ rfl (by omega) (by omega) (by omega) (fun k k1 k2 => by omega) (by repeat' (first | exact trivial | refine And.intro (by first | with_reducible_and_instances rfl | (refine Eq.trans (b := some (AV.int .i64 _)) rfl (congrArg (fun z => some (AV.int .i64 z)) ?_); first | omega | (simp (disch := omega) only [IntWalk.i64_in] <;> omega)) | rfl) ?_))
  intro i e1 i0 i1 i2 i3 i4 henv1
  show VC fs ms _ _ _ _ _ _
  refine vc_seqV (vc_block ?_)
  refine p_dn1 (a := a) (j0 := e - 1) hM hN hL0 he i2 ?_ (e - 1) e1 (Nat.le_refl _) i1 (by omega) (fun k k1 k2 => by omega) henv1
  intro j e2 j0 j1 j2 j3 j4 henv2
  show VC fs ms _ _ _ _ _ _
  have hp2 : Pr M a e i j := ⟨i2, j1, j2, i3, j3⟩
  refine vc_slots 4 _ henv2 ?_
  unfold prE
  refine vc_seq true ?_
  set_option smartUnfolding false in conv => whnf
  refine br (fun hc => ?_) (fun hc => ?_) <;> (try rw [hc]) <;> (set_option smartUnfolding false in conv => whnf)
  · have hlt : j < i := by have := of_decide_eq_true hc; omega
    refine ⟨_, idx_w (i := a) (by (first | with_reducible rfl | omega | (simp (disch := omega) only [IntWalk.i64_in] <;> omega))) (by omega), ?_⟩
    set_option smartUnfolding false in conv => whnf
    refine ⟨_, (hM).one (by omega), ?_⟩
    set_option smartUnfolding false in conv => whnf
    refine ⟨_, idx_w (i := j) (by (first | with_reducible rfl | omega | (simp (disch := omega) only [IntWalk.i64_in] <;> omega))) (by omega), ?_⟩
    set_option smartUnfolding false in conv => whnf
    refine ⟨_, (hM).one (by omega), ?_⟩
    set_option smartUnfolding false in conv => whnf
    refine ⟨_, idx_w (i := j) (by (first | with_reducible rfl | omega | (simp (disch := omega) only [IntWalk.i64_in] <;> omega))) (by omega), ?_⟩
    set_option smartUnfolding false in conv => whnf
    refine eff_o ((hM).put (by omega) _) fun g1 eg1 => ?_
    set_option smartUnfolding false in conv => whnf
    have hg1 : SAt g1 b es ((M).set (j) (gI (M) (a))) rest := by rw [eg1]; exact (hM).next
    refine ⟨_, idx_w (i := a) (by (first | with_reducible rfl | omega | (simp (disch := omega) only [IntWalk.i64_in] <;> omega))) (by omega), ?_⟩
    set_option smartUnfolding false in conv => whnf
    refine eff_o (hg1.put (by rw [List.length_set]; omega) _) fun g2 eg2 => ?_
    set_option smartUnfolding false in conv => whnf
    have hg2 : SAt g2 b es (swp (M) (j) (a)) rest := by rw [eg2]; exact hg1.next
    have frg : Fr g2z g2 [b] := by rw [eg2, eg1]; exact ((Fr.refl g2z [b]).set (by simp)).set (by simp)
    exact hQ _ _ j true hg2 (r0.trans (RS.swap (by omega) (by omega) (by omega) (by omega) (by omega))) (hp2.done hlt (by omega)) (fr0.trans frg)
  · have hle : i ≤ j := by have := of_decide_eq_false hc; omega
    obtain ⟨hlt, hp3⟩ := hp2.step hle (by omega) (i4 (by omega)) (j4 hle)
    refine vc_seq true ?_
    set_option smartUnfolding false in conv => whnf
    refine ⟨_, idx_w (i := j) (by (first | with_reducible rfl | omega | (simp (disch := omega) only [IntWalk.i64_in] <;> omega))) (by omega), ?_⟩
    set_option smartUnfolding false in conv => whnf
    refine ⟨_, (hM).one (by omega), ?_⟩
    set_option smartUnfolding false in conv => whnf
    refine ⟨_, idx_w (i := i) (by (first | with_reducible rfl | omega | (simp (disch := omega) only [IntWalk.i64_in] <;> omega))) (by omega), ?_⟩
    set_option smartUnfolding false in conv => whnf
    refine ⟨_, (hM).one (by omega), ?_⟩
    set_option smartUnfolding false in conv => whnf
    refine ⟨_, idx_w (i := i) (by (first | with_reducible rfl | omega | (simp (disch := omega) only [IntWalk.i64_in] <;> omega))) (by omega), ?_⟩
    set_option smartUnfolding false in conv => whnf
    refine eff_o ((hM).put (by omega) _) fun g1 eg1 => ?_
    set_option smartUnfolding false in conv => whnf
    have hg1 : SAt g1 b es ((M).set (i) (gI (M) (j))) rest := by rw [eg1]; exact (hM).next
    refine ⟨_, idx_w (i := j) (by (first | with_reducible rfl | omega | (simp (disch := omega) only [IntWalk.i64_in] <;> omega))) (by omega), ?_⟩
    set_option smartUnfolding false in conv => whnf
    refine eff_o (hg1.put (by rw [List.length_set]; omega) _) fun g2 eg2 => ?_
    set_option smartUnfolding false in conv => whnf
    have hg2 : SAt g2 b es (swp (M) (i) (j)) rest := by rw [eg2]; exact hg1.next
    have frg : Fr g2z g2 [b] := by rw [eg2, eg1]; exact ((Fr.refl g2z [b]).set (by simp)).set (by simp)
    refine vc_seq true ?_
    set_option smartUnfolding false in conv => whnf
    refine vc_seq true ?_
    set_option smartUnfolding false in conv => whnf
    refine vc_seqV (vc_block ?_)
    have hL1 : (swp M i j).length = N := by rw [swp_len]; exact hL0
    refine p_out hN he ?_ _ (i + 1) (j - 1) _ _ _ rfl hg2 hL1 (r0.trans (RS.swap (by omega) (by omega) (by omega) (by omega) (by omega))) (fr0.trans frg) hp3 (by repeat' (first | exact trivial | refine And.intro (by first | with_reducible_and_instances rfl | (refine Eq.trans (b := some (AV.int .i64 _)) rfl (congrArg (fun z => some (AV.int .i64 z)) ?_); first | omega | (simp (disch := omega) only [IntWalk.i64_in] <;> omega)) | rfl) ?_))
    intro h3 L3 i3 j3 e3 m1 m2 m3 m4 m5 m6
    show VC fs ms _ _ _ _ _ _
    have hL3 : L3.length = N := by rw [← m2.len]; exact hL
    have q1 := m3.ai
    have q2 := m3.ij
    have q3 := m3.je
    refine vc_slots 4 _ m6 (vpC_sound (z := true) ?_)
    unfold prE
    set_option smartUnfolding false in conv => whnf
    refine ⟨_, idx_w (i := a) (by (first | with_reducible rfl | omega | (simp (disch := omega) only [IntWalk.i64_in] <;> omega))) (by omega), ?_⟩
    set_option smartUnfolding false in conv => whnf
    refine ⟨_, (m1).one (by omega), ?_⟩
    set_option smartUnfolding false in conv => whnf
    refine ⟨_, idx_w (i := j3) (by (first | with_reducible rfl | omega | (simp (disch := omega) only [IntWalk.i64_in] <;> omega))) (by omega), ?_⟩
    set_option smartUnfolding false in conv => whnf
    refine ⟨_, (m1).one (by omega), ?_⟩
    set_option smartUnfolding false in conv => whnf
    refine ⟨_, idx_w (i := j3) (by (first | with_reducible rfl | omega | (simp (disch := omega) only [IntWalk.i64_in] <;> omega))) (by omega), ?_⟩
    set_option smartUnfolding false in conv => whnf
    refine eff_o ((m1).put (by omega) _) fun g1 eg1 => ?_
    set_option smartUnfolding false in conv => whnf
    have hg1 : SAt g1 b es ((L3).set (j3) (gI (L3) (a))) rest := by rw [eg1]; exact (m1).next
    refine ⟨_, idx_w (i := a) (by (first | with_reducible rfl | omega | (simp (disch := omega) only [IntWalk.i64_in] <;> omega))) (by omega), ?_⟩
    set_option smartUnfolding false in conv => whnf
    refine eff_o (hg1.put (by rw [List.length_set]; omega) _) fun g2 eg2 => ?_
    set_option smartUnfolding false in conv => whnf
    have hg2 : SAt g2 b es (swp (L3) (j3) (a)) rest := by rw [eg2]; exact hg1.next
    have frg : Fr h3 g2 [b] := by rw [eg2, eg1]; exact ((Fr.refl h3 [b]).set (by simp)).set (by simp)
    exact hQ _ _ j3 false hg2 (m2.trans (RS.swap (by omega) (by omega) (by omega) (by omega) (by omega))) (m3.done m4 (by omega)) (m5.trans frg)
end Ir
end Go.Proofs.Ytenafeojcgmnhaa
set_option maxRecDepth 100000
set_option linter.unusedSimpArgs false
set_option linter.unusedVariables false
namespace Go.Proofs.Ytenafeojcgmnhaa
open Go Ads
namespace Ir

theorem div_v {z d : Int} (n m : Nat) (hz : z = ((n : Nat) : Int)) (hd : d = ((m : Nat) : Int)) (hm : 0 < m) (hn : n < 2 ^ 62) : pV (.bin .quo) [.int .i64 z, .int .i64 d] = some (.int .i64 ((n / m : Nat) : Int)) := by
  subst hz hd
  rw [quo_val _ _ (by omega)]
  have e2 : ((n : Nat) : Int).tdiv ((m : Nat) : Int) = ((n / m : Nat) : Int) := by rw [Int.tdiv_eq_ediv_of_nonneg (by omega)]; rfl
  have : n / m ≤ n := Nat.div_le_self _ _
  rw [e2, wrap_nat (by omega)]
/-- One cell that is written. -/
structure Sw (h : Heap) (k : IntKind) (s : Nat) (c : Int) : Prop where
  hg : h.get s = some (.cells [.int k c] true 0)
  lt : s < h.next
theorem Sw.put {h : Heap} {k : IntKind} {s : Nat} {c : Int} (hs : Sw h k s c) (c' : Int) : eV (.store 1) [.ptr s 0, .int k c'] h = some (.undef, h.set s (.cells [.int k c'] true 0)) :=
  sto_o (n := 1) (v := .int k c') hs.hg rfl (Nat.le_refl _) rfl
theorem Sw.next {h : Heap} {k : IntKind} {s : Nat} {c : Int} (hs : Sw h k s c) (c' : Int) : Sw (h.set s (.cells [.int k c'] true 0)) k s c' := ⟨get_set_same, hs.lt⟩
theorem Sw.keep {h h' : Heap} {k : IntKind} {s : Nat} {c : Int} {bs : List Nat} (hs : Sw h k s c) (fr : Fr h h' bs) (hn : s ∉ bs) : Sw h' k s c := ⟨by rw [fr.keep s hs.lt hn]; exact hs.hg, Nat.lt_of_lt_of_le hs.lt fr.next⟩
theorem SAt.keep {h h' : Heap} {b es : Nat} {L : List Id} {rest : List AV} {bs : List Nat} (hs : SAt h b es L rest) (fr : Fr h h' bs) (hn : b ∉ bs) : SAt h' b es L rest := ⟨by rw [fr.keep b hs.lb hn]; exact hs.hb, Nat.lt_of_lt_of_le hs.lb fr.next⟩

theorem ord2_o {h : Heap} {b es cap s i j : Nat} {op : Bool} {L : List Id} {rest : List AV} {c : Int} (hh : SAt h b es L rest) (hs : Sw h .i64 s c) (hne : b ≠ s) (hi : i < L.length) (hj : j < L.length) {Q : AV → Heap → Prop}
    (hQ : ∀ h' c' x y, (x = i ∨ x = j) → (y = i ∨ y = j) → Sw h' .i64 s c' → Fr h h' [s] → Q (.tup [.int .i64 ((x : Nat) : Int), .int .i64 ((y : Nat) : Int)]) h') :
    VD fs ms f_slices_order2CmpFunc_rank_one [.sl b 0 L.length cap op, .int .i64 ((i : Nat) : Int), .int .i64 ((j : Nat) : Int), .ptr s 0, cmpF] h Q := by
  refine vd_start (af := C_slices_order2CmpFunc_rank_one) true rfl (Nat.le_of_ble_eq_true rfl) ?_
  set_option smartUnfolding false in conv => whnf
  refine ⟨_, idx_w (i := j) (by (first | with_reducible rfl | omega | (simp (disch := omega) only [IntWalk.i64_in] <;> omega))) (by omega), ?_⟩
  set_option smartUnfolding false in conv => whnf
  refine ⟨_, (hh).one (by omega), ?_⟩
  set_option smartUnfolding false in conv => whnf
  refine ⟨_, idx_w (i := i) (by (first | with_reducible rfl | omega | (simp (disch := omega) only [IntWalk.i64_in] <;> omega))) (by omega), ?_⟩
  set_option smartUnfolding false in conv => whnf
  refine ⟨_, (hh).one (by omega), ?_⟩
  set_option smartUnfolding false in conv => whnf
  refine vd_pure (cmpI_c _ _) ?_
  set_option smartUnfolding false in conv => whnf
  refine br (fun hc => ?_) (fun hc => ?_) <;> (try rw [hc]) <;> (set_option smartUnfolding false in conv => whnf)
  · refine ⟨_, ld1 hs.hg rfl, ?_⟩
    set_option smartUnfolding false in conv => whnf
    refine eff_o (hs.put _) fun h1 e1 => ?_
    set_option smartUnfolding false in conv => whnf
    refine hQ h1 _ j i (.inr rfl) (.inl rfl) (by rw [e1]; exact hs.next _) ?_
    rw [e1]; exact (Fr.refl h [s]).set (by simp)
  · exact hQ h _ i j (.inl rfl) (.inr rfl) hs (Fr.refl h [s])
theorem med_o {h : Heap} {b es cap s i j k : Nat} {op : Bool} {L : List Id} {rest : List AV} {c : Int} (hh : SAt h b es L rest) (hs : Sw h .i64 s c) (hne : b ≠ s) (hi : i < L.length) (hj : j < L.length) (hk : k < L.length) {Q : AV → Heap → Prop}
    (hQ : ∀ h' c' x, (x = i ∨ x = j ∨ x = k) → Sw h' .i64 s c' → Fr h h' [s] → Q (.int .i64 ((x : Nat) : Int)) h') :
    VD fs ms f_slices_medianCmpFunc_rank_one [.sl b 0 L.length cap op, .int .i64 ((i : Nat) : Int), .int .i64 ((j : Nat) : Int), .int .i64 ((k : Nat) : Int), .ptr s 0, cmpF] h Q := by
  refine vd_start (af := C_slices_medianCmpFunc_rank_one) true rfl (Nat.le_of_ble_eq_true rfl) ?_
  set_option smartUnfolding false in conv => whnf
  refine ord2_o hh hs hne hi hj fun h1 c1 x1 y1 a1 b1 s1 f1 => ?_
  set_option smartUnfolding false in conv => whnf
  have hh1 := hh.keep f1 (by simp [hne])
  refine ord2_o hh1 s1 hne (i := y1) (by omega) hk fun h2 c2 x2 y2 a2 b2 s2 f2 => ?_
  set_option smartUnfolding false in conv => whnf
  have hh2 := hh1.keep f2 (by simp [hne])
  refine ord2_o hh2 s2 hne (i := x1) (j := x2) (by omega) (by omega) fun h3 c3 x3 y3 a3 b3 s3 f3 => ?_
  set_option smartUnfolding false in conv => whnf
  exact hQ h3 c3 y3 (by omega) s3 ((f1.trans f2).trans f3)
theorem medA_o {h : Heap} {b es cap s i : Nat} {op : Bool} {L : List Id} {rest : List AV} {c : Int} (hh : SAt h b es L rest) (hs : Sw h .i64 s c) (hne : b ≠ s) (hN : L.length < 2 ^ 60) (h0 : 0 < i) (hi : i + 1 < L.length) {Q : AV → Heap → Prop}
    (hQ : ∀ h' c' x, i ≤ x + 1 → x ≤ i + 1 → Sw h' .i64 s c' → Fr h h' [s] → Q (.int .i64 ((x : Nat) : Int)) h') :
    VD fs ms f_slices_medianAdjacentCmpFunc_rank_one [.sl b 0 L.length cap op, .int .i64 ((i : Nat) : Int), .ptr s 0, cmpF] h Q := by
  refine vd_start (af := C_slices_medianAdjacentCmpFunc_rank_one) true rfl (Nat.le_of_ble_eq_true rfl) ?_
  set_option smartUnfolding false in conv => whnf
  rw [dec_v (by omega) h0, inc_val (by omega)]
  refine med_o hh hs hne (i := i - 1) (j := i) (k := i + 1) (by omega) (by omega) (by omega) fun h1 c1 x a1 s1 f1 => ?_
  set_option smartUnfolding false in conv => whnf
  exact hQ h1 c1 x (by omega) (by omega) s1 f1
end Ir
end Go.Proofs.Ytenafeojcgmnhaa
set_option maxRecDepth 100000
set_option linter.unusedSimpArgs false
set_option linter.unusedVariables false
namespace Go.Proofs.Ytenafeojcgmnhaa
open Go Ads
namespace Ads
section
variable {fs : Nat → Option AFunc} {ms : Nat → String → Option Nat} {B : Nat} {rd : Bool}
/-- A test, with a stop ahead of what it leads to. -/
theorem vc_condV {c : Rand} {a b : AC} {e : Env} {h : Heap} {Q : AX → Env → Heap → Prop} (hw : evK e c fun v => match v with | .bool t => brn t (VC fs ms B rd a e h Q) (VC fs ms B rd b e h Q) | _ => False) : VC fs ms B rd (.cond c a b) e h Q := by
  obtain ⟨ha, hw⟩ := evK_sound hw
  split at hw
  · rename_i t ht
    rcases brn_elim hw with ⟨rfl, h2⟩ | ⟨rfl, h2⟩
    · obtain ⟨x, e1, h1, hb, hk⟩ := h2
      exact ⟨_, _, _, .cond ha ht hb, hk⟩
    · obtain ⟨x, e1, h1, hb, hk⟩ := h2
      exact ⟨_, _, _, .cond ha ht hb, hk⟩
  · exact hw.elim
end
end Ads
namespace Ir

/-- What a row becomes where new blocks may be made besides. -/
theorem pivot_o {h : Heap} {b es cap a e : Nat} {op : Bool} {L : List Id} {rest : List AV} (hh : SAt h b es L rest) (hN : L.length < 2 ^ 60) (ha : a + 12 < e) (he : e ≤ L.length) {Q : AV → Heap → Prop}
    (hQ : ∀ h' p t, SAt h' b es L rest → a ≤ p → p < e → Fr h h' [b] → Q (.tup [.int .i64 ((p : Nat) : Int), .int .i64 t]) h') :
    VD fs ms f_slices_choosePivotCmpFunc_rank_one [.sl b 0 L.length cap op, .int .i64 ((a : Nat) : Int), .int .i64 ((e : Nat) : Int), cmpF] h Q := by
  obtain ⟨q, q1, q2, q3⟩ : ∃ q, q = (e - a) / 4 ∧ 4 * q ≤ e - a ∧ e - a < 4 * q + 4 := ⟨_, rfl, by omega, by omega⟩
  have hdv : ∀ {z : Int}, z = ((e - a : Nat) : Int) → pV (.bin .quo) [.int .i64 z, .int .i64 4] = some (.int .i64 ((q : Nat) : Int)) := fun hz => by rw [q1]; exact div_v (e - a) 4 hz rfl (by omega) (by omega)
  clear q1
  obtain ⟨i, hi⟩ : ∃ i, i = a + q := ⟨_, rfl⟩
  obtain ⟨j, hj⟩ : ∃ j, j = a + q * 2 := ⟨_, rfl⟩
  obtain ⟨k, hk⟩ : ∃ k, k = a + q * 3 := ⟨_, rfl⟩
  have el : IntKind.i64.wrap (((e : Nat) : Int) - ((a : Nat) : Int)) = ((e - a : Nat) : Int) := by rw [IntWalk.i64_in _ (by omega)]; omega
  have ei : IntKind.i64.wrap (((a : Nat) : Int) + IntKind.i64.wrap (((q : Nat) : Int) * 1)) = ((i : Nat) : Int) := by rw [IntWalk.i64_in (_ * _) (by omega), IntWalk.i64_in _ (by omega)]; omega
  have ej : IntKind.i64.wrap (((a : Nat) : Int) + IntKind.i64.wrap (((q : Nat) : Int) * 2)) = ((j : Nat) : Int) := by rw [IntWalk.i64_in (_ * _) (by omega), IntWalk.i64_in _ (by omega)]; omega
  have ek : IntKind.i64.wrap (((a : Nat) : Int) + IntKind.i64.wrap (((q : Nat) : Int) * 3)) = ((k : Nat) : Int) := by rw [IntWalk.i64_in (_ * _) (by omega), IntWalk.i64_in _ (by omega)]; omega
  refine vd_begin (af := C_slices_choosePivotCmpFunc_rank_one) rfl (Nat.le_of_ble_eq_true rfl) ?_
  set_option smartUnfolding false in conv => whnf
  refine vc_seq true ?_
  set_option smartUnfolding false in conv => whnf
  refine vc_seq true ?_
  set_option smartUnfolding false in conv => whnf
  refine vc_seq true ?_
  set_option smartUnfolding false in conv => whnf
  refine vc_seq true ?_
  set_option smartUnfolding false in conv => whnf
  refine ⟨_, hdv (by (first | with_reducible rfl | omega | (simp (disch := omega) only [IntWalk.i64_in] <;> omega))), ?_⟩
  set_option smartUnfolding false in conv => whnf
  refine vc_seq true ?_
  set_option smartUnfolding false in conv => whnf
  refine ⟨_, hdv (by (first | with_reducible rfl | omega | (simp (disch := omega) only [IntWalk.i64_in] <;> omega))), ?_⟩
  set_option smartUnfolding false in conv => whnf
  refine vc_seq true ?_
  set_option smartUnfolding false in conv => whnf
  refine ⟨_, hdv (by (first | with_reducible rfl | omega | (simp (disch := omega) only [IntWalk.i64_in] <;> omega))), ?_⟩
  set_option smartUnfolding false in conv => whnf
  have hv : ∀ z z' : Int, z = z' → some (AV.int .i64 z) = some (AV.int .i64 z') := fun _ _ h => by rw [h]
  have hb := hh.lb
  have fr0 : Fr h (h.new (.cells [.int .i64 0] true 0)) [b] := (Fr.refl h [b]).new
  have hs0 : Sw (h.new (.cells [.int .i64 0] true 0)) .i64 h.next 0 := ⟨get_new_same, Nat.lt_succ_self _⟩
  have hh0 : SAt (h.new (.cells [.int .i64 0] true 0)) b es L rest := ⟨by rw [get_new_ne hb]; exact hh.hb, Nat.lt_of_lt_of_le hb (Nat.le_succ _)⟩
  have hne : b ≠ h.next := by omega
  have frs : ∀ {g g' : Heap}, Fr h g [b] → Fr g g' [h.next] → Fr h g' [b] := fun f1 f2 => ⟨Nat.le_trans f1.next f2.next, fun c hc hn => by
    rw [f2.keep c (Nat.lt_of_lt_of_le hc f1.next) (by simp; omega)]; exact f1.keep c hc hn⟩
  refine vc_slots 4 [(0, .sl b 0 L.length cap op), (3, cmpF), (10, .int .i64 ((e - a : Nat) : Int)), (11, .ptr h.next 0), (12, .int .i64 ((i : Nat) : Int)), (13, .int .i64 ((j : Nat) : Int)), (14, .int .i64 ((k : Nat) : Int))] ⟨rfl, rfl, hv _ _ el, rfl, hv _ _ ei, hv _ _ ej, hv _ _ ek, trivial⟩ ?_
  revert hs0 hh0 fr0
  generalize (h.new (.cells [.int .i64 0] true 0)) = h1
  intro fr0 hs0 hh0
  refine vc_seqV ?_
  refine VC.mono (Q := fun x e2 h2 => x = .normal ∧ ∃ (p : Nat) (c : Int), a ≤ p ∧ p < e ∧ SAt h2 b es L rest ∧ Sw h2 .i64 h.next c ∧ Fr h h2 [b] ∧ AllAt e2 [(11, .ptr h.next 0), (13, .int .i64 ((p : Nat) : Int))]) ?_ ?_
  · refine vc_seq true ?_
    set_option smartUnfolding false in conv => whnf
    obtain ⟨U, hU⟩ : ∃ U : Nat, U = e - a := ⟨_, rfl⟩
    rw [← hU]
    refine vc_condV ?_
    set_option smartUnfolding false in conv => whnf
    refine brt ((show decide (((U : Nat) : Int) ≥ 8) = true from decide_eq_true (by omega))) (fun hc => ?_)
    (try rw [hc])
    set_option smartUnfolding false in conv => whnf
    refine vc_seqV ?_
    refine VC.mono (Q := fun x e2 h2 => x = .normal ∧ ∃ (i' j' k' : Nat) (c : Int), a ≤ i' ∧ i' < e ∧ a ≤ j' ∧ j' < e ∧ a ≤ k' ∧ k' < e ∧ SAt h2 b es L rest ∧ Sw h2 .i64 h.next c ∧ Fr h h2 [b] ∧ AllAt e2 [(0, .sl b 0 L.length cap op), (3, cmpF), (11, .ptr h.next 0), (12, .int .i64 ((i' : Nat) : Int)), (13, .int .i64 ((j' : Nat) : Int)), (14, .int .i64 ((k' : Nat) : Int))]) ?_ ?_
    · refine vc_seq true ?_
      set_option smartUnfolding false in conv => whnf
      refine vc_condV ?_
      set_option smartUnfolding false in conv => whnf
      refine br (fun hc => ?_) (fun hc => ?_) <;> (try rw [hc]) <;> (set_option smartUnfolding false in conv => whnf)
      · refine vpC_sound (z := true) ?_
        set_option smartUnfolding false in conv => whnf
        have h50 : 50 ≤ U := by have := of_decide_eq_true hc; omega
        refine medA_o hh0 hs0 hne hN (by omega) (by omega) fun h2 c2 i' i1 i2 s2 f2 => ?_
        set_option smartUnfolding false in conv => whnf
        have hh2 := hh0.keep f2 (by simp [hne])
        refine medA_o hh2 s2 hne hN (by omega) (by omega) fun h3 c3 j' j1 j2 s3 f3 => ?_
        set_option smartUnfolding false in conv => whnf
        have hh3 := hh2.keep f3 (by simp [hne])
        refine medA_o hh3 s3 hne hN (by omega) (by omega) fun h4 c4 k' k1 k2 s4 f4 => ?_
        set_option smartUnfolding false in conv => whnf
        exact ⟨rfl, i', j', k', c4, by omega, by omega, by omega, by omega, by omega, by omega, hh3.keep f4 (by simp [hne]), s4, frs fr0 ((f2.trans f3).trans f4), rfl, rfl, rfl, rfl, rfl, rfl, trivial⟩
      · refine vpC_sound (z := true) ?_
        set_option smartUnfolding false in conv => whnf
        exact ⟨rfl, i, j, k, 0, by omega, by omega, by omega, by omega, by omega, by omega, hh0, hs0, fr0, rfl, rfl, rfl, rfl, rfl, rfl, trivial⟩
    · rintro x e2 h2 ⟨rfl, i', j', k', c, a1, a2, a3, a4, a5, a6, hh2, hs2, fr2, he⟩
      show VC fs ms _ _ _ _ _ _
      refine vc_slots 4 _ he (vpC_sound (z := true) ?_)
      set_option smartUnfolding false in conv => whnf
      refine med_o hh2 hs2 hne (i := i') (j := j') (k := k') (by omega) (by omega) (by omega) fun h3 c3 x x1 s3 f3 => ?_
      set_option smartUnfolding false in conv => whnf
      exact ⟨rfl, x, c3, by omega, by omega, hh2.keep f3 (by simp [hne]), s3, frs fr2 f3, rfl, rfl, trivial⟩
  · rintro x e2 h2 ⟨rfl, p, c, p1, p2, hh2, hs2, fr2, he⟩
    show VC fs ms _ _ _ _ _ _
    refine vc_slots 4 _ he (vpC_sound (z := true) ?_)
    set_option smartUnfolding false in conv => whnf
    refine ⟨_, ld1 hs2.hg rfl, ?_⟩
    set_option smartUnfolding false in conv => whnf
    refine br (fun hc => ?_) (fun hc => ?_) <;> (try rw [hc]) <;> (set_option smartUnfolding false in conv => whnf)
    · exact hQ h2 p _ hh2 p1 p2 fr2
    · refine br (fun hc => ?_) (fun hc => ?_) <;> (try rw [hc]) <;> (set_option smartUnfolding false in conv => whnf)
      · exact hQ h2 p _ hh2 p1 p2 fr2
      · exact hQ h2 p _ hh2 p1 p2 fr2
end Ir
end Go.Proofs.Ytenafeojcgmnhaa
set_option maxRecDepth 100000
set_option linter.unusedSimpArgs false
set_option linter.unusedVariables false
namespace Go.Proofs.Ytenafeojcgmnhaa
open Go Ads
namespace Ir

theorem shl_v (k : IntKind) (x : Int) (n : Nat) : pV (.bin .shl) [.int k x, .int .u64 ((n : Nat) : Int)] = some (.int k (k.wrap (x * 2 ^ (min n k.bits)))) := by
  simp [pV, pIF, l2, binF, dInt, isShift, binShift, show ¬ ((n : Nat) : Int) < 0 by omega]
theorem shr_v (k : IntKind) (x : Int) (n : Nat) : pV (.bin .shr) [.int k x, .int .u64 ((n : Nat) : Int)] = some (.int k (x.fdiv (2 ^ (min n k.bits)))) := by
  simp [pV, pIF, l2, binF, dInt, isShift, binShift, show ¬ ((n : Nat) : Int) < 0 by omega]
theorem swput_o {h : Heap} {k : IntKind} {s : Nat} {c c' : Int} {K : AV → Heap → Prop} (hs : Sw h k s c) (hK : ∀ h' d, d = c' → Sw h' k s d → Fr h h' [s] → K .undef h') : ∃ v h1, eV (.store 1) [.ptr s 0, .int k c'] h = some (v, h1) ∧ K v h1 :=
  eff_o (hs.put c') fun h1 e1 => hK h1 c' rfl (by rw [e1]; exact hs.next _) (by rw [e1]; exact (Fr.refl h [s]).set (by simp))
theorem next_o {h : Heap} {s : Nat} {c : Int} (hs : Sw h .u64 s c) {Q : AV → Heap → Prop} (hQ : ∀ h' c', Sw h' .u64 s c' → Fr h h' [s] → Q (.int .u64 c') h') : VD fs ms f_slices_xorshift_Next [.ptr s 0] h Q := by
  refine vd_start (af := C_slices_xorshift_Next) true rfl (Nat.le_of_ble_eq_true rfl) ?_
  set_option smartUnfolding false in conv => whnf
  refine ⟨_, ld1 hs.hg rfl, ?_⟩
  set_option smartUnfolding false in conv => whnf
  refine ⟨_, ld1 hs.hg rfl, ?_⟩
  set_option smartUnfolding false in conv => whnf
  refine ⟨_, shl_v .u64 c 13, ?_⟩
  set_option smartUnfolding false in conv => whnf
  refine swput_o hs fun h1 c1 _ s1 f1 => ?_
  set_option smartUnfolding false in conv => whnf
  refine ⟨_, ld1 s1.hg rfl, ?_⟩
  set_option smartUnfolding false in conv => whnf
  refine ⟨_, ld1 s1.hg rfl, ?_⟩
  set_option smartUnfolding false in conv => whnf
  refine ⟨_, shr_v .u64 c1 7, ?_⟩
  set_option smartUnfolding false in conv => whnf
  refine swput_o s1 fun h2 c2 _ s2 f2 => ?_
  set_option smartUnfolding false in conv => whnf
  refine ⟨_, ld1 s2.hg rfl, ?_⟩
  set_option smartUnfolding false in conv => whnf
  refine ⟨_, ld1 s2.hg rfl, ?_⟩
  set_option smartUnfolding false in conv => whnf
  refine ⟨_, shl_v .u64 c2 17, ?_⟩
  set_option smartUnfolding false in conv => whnf
  refine swput_o s2 fun h3 c3 _ s3 f3 => ?_
  set_option smartUnfolding false in conv => whnf
  refine ⟨_, ld1 s3.hg rfl, ?_⟩
  set_option smartUnfolding false in conv => whnf
  exact hQ h3 c3 s3 ((f1.trans f2).trans f3)
theorem npow_ev : ∀ n, n < 65 → 0 < n → evD fs ms 200 (.call f_slices_nextPowerOfTwo [.int .i64 ((n : Nat) : Int)] ⟨0, .nil⟩) (fun r => match r with | .val (.int .u64 m) _ => decide (0 < m ∧ m ≤ 2 * n) | _ => false) = true := by decide
theorem npow_c {n : Nat} (h : n < 65) (h0 : 0 < n) : ∃ m : Int, 0 < m ∧ m ≤ 2 * n ∧ PC fs ms f_slices_nextPowerOfTwo [.int .i64 ((n : Nat) : Int)] (.int .u64 m) := by
  obtain ⟨r, hr, hk⟩ := ev_sound _ _ _ (evD_true (npow_ev n h h0))
  split at hk
  · rename_i m h1
    have := of_decide_eq_true hk
    exact ⟨m, this.1, this.2, rfl, rfl, _, _, fun B => .closed hr rfl rfl, .clean rfl⟩
  · cases hk
/-- A number's lower part. -/
theorem and_v (x : Int) {m : Int} (h0 : 0 < m) (h1 : m ≤ 256) : ∃ o : Nat, IntKind.i64.wrap (IntKind.u64.wrap ((BitVec.ofInt IntKind.u64.bits x &&& BitVec.ofInt IntKind.u64.bits (IntKind.u64.wrap (m - 1))).toNat : Int)) = ((o : Nat) : Int) ∧ ((o : Nat) : Int) < m := by
  have hlow : ∀ z : Int, IntKind.u64.wrap z = z % 18446744073709551616 := fun z => by simp [IntKind.wrap, IntKind.signed, IntKind.bits]
  have h2 : (BitVec.ofInt IntKind.u64.bits x &&& BitVec.ofInt IntKind.u64.bits (IntKind.u64.wrap (m - 1))).toNat ≤ (BitVec.ofInt 64 (m - 1)).toNat := by
    rw [hlow, show (m - 1) % 18446744073709551616 = m - 1 by omega, BitVec.toNat_and]
    exact Nat.and_le_right
  have h3 : ((BitVec.ofInt 64 (m - 1)).toNat : Int) = m - 1 := by
    rw [BitVec.toNat_ofInt]
    have : (m - 1) % ((2 ^ 64 : Nat) : Int) = m - 1 := by omega
    rw [this]
    omega
  generalize (BitVec.ofInt IntKind.u64.bits x &&& BitVec.ofInt IntKind.u64.bits (IntKind.u64.wrap (m - 1))).toNat = o at *
  refine ⟨o, ?_, by omega⟩
  rw [hlow, IntWalk.i64_in _ (by omega)]
  omega
theorem _root_.Go.Proofs.Ytenafeojcgmnhaa.Ads.Fr.hide {h g g' : Heap} {bs : List Nat} {s : Nat} (f1 : Fr h g bs) (f2 : Fr g g' [s]) (hs : h.next ≤ s) : Fr h g' bs := ⟨Nat.le_trans f1.next f2.next, fun c hc hn => by
  rw [f2.keep c (Nat.lt_of_lt_of_le hc f1.next) (by simp; omega)]; exact f1.keep c hc hn⟩

def bkE (b N cap a n s x : Nat) (m : Int) (op : Bool) : List (Nat × AV) := [(0, .sl b 0 N cap op), (1, .int .i64 ((a : Nat) : Int)), (8, .int .i64 ((n : Nat) : Int)), (9, .ptr s 0), (10, .int .u64 m), (11, .int .i64 ((x : Nat) : Int))]
theorem brk_l {b es cap a e N n q s : Nat} {m : Int} {op : Bool} {rest : List AV} {h0 : Heap} {L0 : List Id} {B : Nat} {Q : AX → Env → Heap → Prop} (hN : N < 2 ^ 60) (he : e ≤ N) (hn : n = e - a) (ha : a + 12 < e) (hq : q = n / 4) (hm0 : 0 < m) (hm : m ≤ 2 * ((n : Nat) : Int)) (hn64 : n < 65) (hs0 : h0.next ≤ s) (hbs : b ≠ s)
    (hQ : ∀ h' L' e', SAt h' b es L' rest → RS a e L0 L' → Fr h0 h' [b] → Q (.exit 0) e' h') :
    ∀ (k x : Nat) (h : Heap) (L : List Id) (c : Int) (env : Env), a + q * 2 + 2 - x = k → a ≤ x → x ≤ a + q * 2 + 2 → SAt h b es L rest → L.length = N → Sw h .u64 s c → RS a e L0 L → Fr h0 h [b] → AllAt env (bkE b N cap a n s x m op) →
    VC fs ms B false (.loop L_slices_breakPatternsCmpFunc_rank_one_0) env h Q := by
  have hdv : pV (.bin .quo) [.int .i64 ((n : Nat) : Int), .int .i64 4] = some (.int .i64 ((q : Nat) : Int)) := by rw [hq]; exact div_v n 4 rfl rfl (by omega) (by omega)
  have q1 : 4 * q ≤ n := by omega
  clear hq
  have e34 : IntKind.i64.wrap (IntKind.i64.wrap (((a : Nat) : Int) + IntKind.i64.wrap (((q : Nat) : Int) * 2)) + 1) = ((a + q * 2 + 1 : Nat) : Int) := by rw [IntWalk.i64_in (_ * _) (by omega), IntWalk.i64_in (((a : Nat) : Int) + _) (by omega), IntWalk.i64_in _ (by omega)]; omega
  intro k
  induction k using Nat.strongRecOn with
  | ind k ih =>
  intro x h L c env hk hax hx hh hL hs hr fr henv
  refine vc_slots 4 _ henv ?_
  refine vc_loopV (vc_seq true ?_)
  unfold bkE
  set_option smartUnfolding false in conv => whnf
  refine ⟨_, hdv, ?_⟩
  set_option smartUnfolding false in conv => whnf
  rw [e34]
  refine br (fun hc => ?_) (fun hc => ?_) <;> (try rw [hc]) <;> (set_option smartUnfolding false in conv => whnf)
  · have hlt : x ≤ a + q * 2 + 1 := by have := of_decide_eq_true hc; omega
    refine vc_seqV (vc_block (vc_seq true ?_))
    set_option smartUnfolding false in conv => whnf
    refine next_o hs fun h1 c1 s1 f1 => ?_
    set_option smartUnfolding false in conv => whnf
    obtain ⟨o, ho, hom⟩ := and_v c1 hm0 (show m ≤ 256 by omega)
    rw [ho]
    have hh1 := hh.keep f1 (by simp [hbs])
    have fr1 := fr.hide f1 hs0
    refine vc_slots 4 [(0, .sl b 0 N cap op), (1, .int .i64 ((a : Nat) : Int)), (8, .int .i64 ((n : Nat) : Int)), (9, .ptr s 0), (10, .int .u64 m), (11, .int .i64 ((x : Nat) : Int)), (12, .int .i64 ((o : Nat) : Int))] ⟨rfl, rfl, rfl, rfl, rfl, rfl, rfl, trivial⟩ ?_
    refine vc_seqV ?_
    refine VC.mono (Q := fun x' e2 h2 => x' = .normal ∧ h2 = h1 ∧ ∃ o' : Nat, o' < n ∧ AllAt e2 [(0, .sl b 0 N cap op), (1, .int .i64 ((a : Nat) : Int)), (8, .int .i64 ((n : Nat) : Int)), (9, .ptr s 0), (10, .int .u64 m), (11, .int .i64 ((x : Nat) : Int)), (12, .int .i64 ((o' : Nat) : Int))]) ?_ ?_
    · refine vpC_sound (z := true) ?_
      set_option smartUnfolding false in conv => whnf
      refine br (fun hc => ?_) (fun hc => ?_) <;> (try rw [hc]) <;> (set_option smartUnfolding false in conv => whnf)
      · have hge : n ≤ o := by have := of_decide_eq_true hc; omega
        refine ⟨rfl, rfl, o - n, by omega, rfl, rfl, rfl, rfl, rfl, rfl, congrArg (fun z => some (AV.int .i64 z)) (?_ : IntKind.i64.wrap (((o : Nat) : Int) - ((n : Nat) : Int)) = _), trivial⟩
        rw [IntWalk.i64_in _ (by omega)]; omega
      · have hge : o < n := by have := of_decide_eq_false hc; omega
        exact ⟨rfl, rfl, o, hge, rfl, rfl, rfl, rfl, rfl, rfl, rfl, trivial⟩
    · rintro x' e2 h2 ⟨rfl, rfl, o', ho', he2⟩
      show VC fs ms _ _ _ _ _ _
      refine vc_slots 4 _ he2 (vpC_sound (z := true) ?_)
      set_option smartUnfolding false in conv => whnf
      have ev : IntKind.i64.wrap (((a : Nat) : Int) + ((o' : Nat) : Int)) = ((a + o' : Nat) : Int) := by rw [IntWalk.i64_in _ (by omega)]; omega
      rw [ev]
      refine ⟨_, idx_w (i := (a + o')) (by (first | with_reducible rfl | omega | (simp (disch := omega) only [IntWalk.i64_in] <;> omega))) (by omega), ?_⟩
      set_option smartUnfolding false in conv => whnf
      refine ⟨_, (hh1).one (by omega), ?_⟩
      set_option smartUnfolding false in conv => whnf
      refine ⟨_, idx_w (i := x) (by (first | with_reducible rfl | omega | (simp (disch := omega) only [IntWalk.i64_in] <;> omega))) (by omega), ?_⟩
      set_option smartUnfolding false in conv => whnf
      refine ⟨_, (hh1).one (by omega), ?_⟩
      set_option smartUnfolding false in conv => whnf
      refine ⟨_, idx_w (i := x) (by (first | with_reducible rfl | omega | (simp (disch := omega) only [IntWalk.i64_in] <;> omega))) (by omega), ?_⟩
      set_option smartUnfolding false in conv => whnf
      refine eff_o ((hh1).put (by omega) _) fun g1 eg1 => ?_
      set_option smartUnfolding false in conv => whnf
      have hg1 : SAt g1 b es ((L).set (x) (gI (L) ((a + o')))) rest := by rw [eg1]; exact (hh1).next
      refine ⟨_, idx_w (i := (a + o')) (by (first | with_reducible rfl | omega | (simp (disch := omega) only [IntWalk.i64_in] <;> omega))) (by omega), ?_⟩
      set_option smartUnfolding false in conv => whnf
      refine eff_o (hg1.put (by rw [List.length_set]; omega) _) fun g2 eg2 => ?_
      set_option smartUnfolding false in conv => whnf
      have hg2 : SAt g2 b es (swp (L) (x) ((a + o'))) rest := by rw [eg2]; exact hg1.next
      have frg : Fr h2 g2 [b] := by rw [eg2, eg1]; exact ((Fr.refl h2 [b]).set (by simp)).set (by simp)
      refine vpC_sound (z := true) ?_
      set_option smartUnfolding false in conv => whnf
      refine ih (a + q * 2 + 2 - (x + 1)) (by omega) (x + 1) g2 _ _ _ rfl (by omega) (by omega) hg2 (by rw [swp_len]; exact hL) (s1.keep frg (by simp [Ne.symm hbs])) (hr.trans (RS.swap (by omega) (by omega) (by omega) (by omega) (by omega))) (fr1.trans frg) ⟨rfl, rfl, rfl, rfl, rfl, inc_slot (by omega), trivial⟩
  · exact hQ h L _ hh hr fr
theorem brk_o {h : Heap} {b es cap a e : Nat} {op : Bool} {L : List Id} {rest : List AV} (hh : SAt h b es L rest) (hN : L.length < 65) (ha : a + 12 < e) (he : e ≤ L.length) {Q : AV → Heap → Prop}
    (hQ : ∀ h' L', SAt h' b es L' rest → RS a e L L' → Fr h h' [b] → Q (.tup []) h') :
    VD fs ms f_slices_breakPatternsCmpFunc_rank_one [.sl b 0 L.length cap op, .int .i64 ((a : Nat) : Int), .int .i64 ((e : Nat) : Int), cmpF] h Q := by
  obtain ⟨n, hn⟩ : ∃ n, n = e - a := ⟨_, rfl⟩
  obtain ⟨q, hq⟩ : ∃ q, q = n / 4 := ⟨_, rfl⟩
  have hdv : pV (.bin .quo) [.int .i64 ((n : Nat) : Int), .int .i64 4] = some (.int .i64 ((q : Nat) : Int)) := by rw [hq]; exact div_v n 4 rfl rfl (by omega) (by omega)
  have el : IntKind.i64.wrap (((e : Nat) : Int) - ((a : Nat) : Int)) = ((n : Nat) : Int) := by rw [IntWalk.i64_in _ (by omega)]; omega
  have ex : IntKind.i64.wrap (IntKind.i64.wrap (((a : Nat) : Int) + IntKind.i64.wrap (((q : Nat) : Int) * 2)) - 1) = ((a + q * 2 - 1 : Nat) : Int) := by rw [IntWalk.i64_in (_ * _) (by omega), IntWalk.i64_in (((a : Nat) : Int) + _) (by omega), IntWalk.i64_in _ (by omega)]; omega
  have eu : IntKind.u64.wrap ((n : Nat) : Int) = ((n : Nat) : Int) := by
    have hlow : ∀ z : Int, IntKind.u64.wrap z = z % 18446744073709551616 := fun z => by simp [IntKind.wrap, IntKind.signed, IntKind.bits]
    rw [hlow]; omega
  refine vd_begin (af := C_slices_breakPatternsCmpFunc_rank_one) rfl (Nat.le_of_ble_eq_true rfl) ?_
  set_option smartUnfolding false in conv => whnf
  refine vc_seq true ?_
  set_option smartUnfolding false in conv => whnf
  rw [el]
  refine vc_seq true ?_
  set_option smartUnfolding false in conv => whnf
  refine vc_condV ?_
  set_option smartUnfolding false in conv => whnf
  refine brt ((show decide (((n : Nat) : Int) ≥ 8) = true from decide_eq_true (by omega))) (fun hc => ?_)
  (try rw [hc])
  set_option smartUnfolding false in conv => whnf
  refine vc_seq true ?_
  set_option smartUnfolding false in conv => whnf
  rw [eu]
  have hb := hh.lb
  have fr0 : Fr h (h.new (.cells [.int .u64 0] true 0)) [b] := (Fr.refl h [b]).new
  have hs0 : Sw (h.new (.cells [.int .u64 0] true 0)) .u64 h.next 0 := ⟨get_new_same, Nat.lt_succ_self _⟩
  have hh0 : SAt (h.new (.cells [.int .u64 0] true 0)) b es L rest := ⟨by rw [get_new_ne hb]; exact hh.hb, Nat.lt_of_lt_of_le hb (Nat.le_succ _)⟩
  have hne : b ≠ h.next := by omega
  refine swput_o hs0 fun h1 c1 _ s1 f1 => ?_
  have hh1 := hh0.keep f1 (by simp [hne])
  have fr1 := fr0.hide f1 (Nat.le_refl _)
  set_option smartUnfolding false in conv => whnf
  refine vc_seq true ?_
  set_option smartUnfolding false in conv => whnf
  obtain ⟨m, m0, m2, hm⟩ := npow_c (n := n) (by omega) (by omega)
  refine vd_pure hm ?_
  set_option smartUnfolding false in conv => whnf
  refine vc_seq true ?_
  set_option smartUnfolding false in conv => whnf
  refine ⟨_, hdv, ?_⟩
  set_option smartUnfolding false in conv => whnf
  rw [ex]
  refine vc_block ?_
  refine brk_l (e := e) (by omega) he hn ha hq m0 m2 (by omega) (Nat.le_refl h.next) hne ?_ _ (a + q * 2 - 1) h1 L _ _ rfl (by omega) (by omega) hh1 rfl s1 (RS.refl _ _ _) fr1 ⟨rfl, rfl, rfl, rfl, rfl, rfl, trivial⟩
  intro h' L' e' k1 k2 k3
  exact hQ h' L' k1 k2 k3
end Ir
end Go.Proofs.Ytenafeojcgmnhaa
set_option maxRecDepth 100000
set_option linter.unusedSimpArgs false
set_option linter.unusedVariables false
namespace Go.Proofs.Ytenafeojcgmnhaa
open Go Ads
namespace Ir

def paE (b N cap a e i jj : Nat) (op : Bool) : List (Nat × AV) := [(0, .sl b 0 N cap op), (1, .int .i64 ((a : Nat) : Int)), (2, .int .i64 ((e : Nat) : Int)), (3, cmpF), (9, .int .i64 ((i : Nat) : Int)), (10, .int .i64 ((jj : Nat) : Int))]
theorem Srt.step {L : List Id} {a i : Nat} (h : Srt L a i) (hs : ah (gI L i) (gI L (i - 1)) = false) (ha : a < i) : Srt L a (i + 1) := by
  intro u v h1 h2 h3
  by_cases hv : v = i
  · subst hv
    by_cases hu : u = v - 1
    · subst hu; exact hs
    · exact ah_tt hs (h u (v - 1) h1 (by omega) (by omega))
  · exact h u v h1 h2 (by omega)
theorem pa_scan {b es N cap a e jj : Nat} {op : Bool} {rest : List AV} {h : Heap} {L : List Id} {B : Nat} {Q : AX → Env → Heap → Prop} (hh : SAt h b es L rest) (hN : N < 2 ^ 60) (hL : L.length = N) (he : e ≤ N)
    (hQ : ∀ i' e', a < i' → i' ≤ e → Srt L a i' → (i' < e → ah (gI L i') (gI L (i' - 1)) = true) → AllAt e' (paE b N cap a e i' jj op) → Q (.exit 2) e' h) :
    ∀ (m i : Nat) (env : Env), e - i = m → i ≤ e → a < i → Srt L a i → AllAt env (paE b N cap a e i jj op) →
    VC fs ms B false (.loop L_slices_partialInsertionSortCmpFunc_rank_one_1) env h Q := by
  intro m
  induction m using Nat.strongRecOn with
  | ind m ih =>
  intro i env hm hi hai hs henv
  refine vc_slots 4 _ henv ?_
  refine vc_loop (z := true) ?_
  unfold paE
  set_option smartUnfolding false in conv => whnf
  refine br (fun hc => ?_) (fun hc => ?_) <;> (try rw [hc]) <;> (set_option smartUnfolding false in conv => whnf)
  · have hlt : i < e := by have := of_decide_eq_true hc; omega
    refine ⟨_, idx_w (i := i) (by (first | with_reducible rfl | omega | (simp (disch := omega) only [IntWalk.i64_in] <;> omega))) (by omega), ?_⟩
    set_option smartUnfolding false in conv => whnf
    refine ⟨_, (hh).one (by omega), ?_⟩
    set_option smartUnfolding false in conv => whnf
    refine ⟨_, idx_w (i := i - 1) (by (first | with_reducible rfl | omega | (simp (disch := omega) only [IntWalk.i64_in] <;> omega))) (by omega), ?_⟩
    set_option smartUnfolding false in conv => whnf
    refine ⟨_, (hh).one (by omega), ?_⟩
    set_option smartUnfolding false in conv => whnf
    refine vd_pure (cmpI_c _ _) ?_
    set_option smartUnfolding false in conv => whnf
    cases hc2 : decide (cmpI (gI L i) (gI L (i - 1)) < 0) with
    | true =>
      set_option smartUnfolding false in conv => whnf
      exact hQ i _ hai hi hs (fun _ => (cmpI_lt _ _).1 (of_decide_eq_true hc2)) (by repeat' (first | exact trivial | refine And.intro (by first | with_reducible_and_instances rfl | (refine Eq.trans (b := some (AV.int .i64 _)) rfl (congrArg (fun z => some (AV.int .i64 z)) ?_); first | omega | (simp (disch := omega) only [IntWalk.i64_in] <;> omega)) | rfl) ?_))
    | false =>
      set_option smartUnfolding false in conv => whnf
      exact ih (e - (i + 1)) (by omega) (i + 1) _ rfl (by omega) (by omega) (hs.step (cmp_f (of_decide_eq_false hc2)) hai) (by repeat' (first | exact trivial | refine And.intro (by first | with_reducible_and_instances rfl | (refine Eq.trans (b := some (AV.int .i64 _)) rfl (congrArg (fun z => some (AV.int .i64 z)) ?_); first | omega | (simp (disch := omega) only [IntWalk.i64_in] <;> omega)) | rfl) ?_))
  · have hge : e ≤ i := by have := of_decide_eq_false hc; omega
    exact hQ i _ hai hi hs (fun h => by omega) (by repeat' (first | exact trivial | refine And.intro (by first | with_reducible_and_instances rfl | (refine Eq.trans (b := some (AV.int .i64 _)) rfl (congrArg (fun z => some (AV.int .i64 z)) ?_); first | omega | (simp (disch := omega) only [IntWalk.i64_in] <;> omega)) | rfl) ?_))

theorem pa_left {b es N cap a e i jj : Nat} {op : Bool} {rest : List AV} {B : Nat} {h0 : Heap} {L0 : List Id} {Q : AX → Env → Heap → Prop} (hN : N < 2 ^ 60) (he : e ≤ N) (hi : i < e) (lo : Low L0 a e)
    (hQ : ∀ h' L' e', SAt h' b es L' rest → RS a e L0 L' → Srt L' a i → Fr h0 h' [b] → AllAt e' (paE b N cap a e i jj op) → Q (.exit 4) e' h') :
    ∀ (j : Nat) (h : Heap) (L : List Id) (env : Env), SAt h b es L rest → L.length = N → a ≤ j → j < i → SrtB L a i j → RS a e L0 L → Fr h0 h [b] → AllAt env (paE b N cap a e i jj op ++ [(11, .int .i64 ((j : Nat) : Int))]) →
    VC fs ms B false (.loop L_slices_partialInsertionSortCmpFunc_rank_one_2) env h Q := by
  intro j
  induction j using Nat.strongRecOn with
  | ind j ih =>
  intro h L env hh hL ha hj hs hr fr henv
  refine vc_slots 4 _ henv ?_
  refine vc_loop (z := true) ?_
  unfold paE
  set_option smartUnfolding false in conv => whnf
  refine br (fun hc => ?_) (fun hc => ?_) <;> (try rw [hc]) <;> (set_option smartUnfolding false in conv => whnf)
  · have h1 : 1 ≤ j := by have := of_decide_eq_true hc; omega
    refine ⟨_, idx_w (i := j) (by (first | with_reducible rfl | omega | (simp (disch := omega) only [IntWalk.i64_in] <;> omega))) (by omega), ?_⟩
    set_option smartUnfolding false in conv => whnf
    refine ⟨_, (hh).one (by omega), ?_⟩
    set_option smartUnfolding false in conv => whnf
    refine ⟨_, idx_w (i := j - 1) (by (first | with_reducible rfl | omega | (simp (disch := omega) only [IntWalk.i64_in] <;> omega))) (by omega), ?_⟩
    set_option smartUnfolding false in conv => whnf
    refine ⟨_, (hh).one (by omega), ?_⟩
    set_option smartUnfolding false in conv => whnf
    refine vd_pure (cmpI_c _ _) ?_
    set_option smartUnfolding false in conv => whnf
    cases hc2 : decide (cmpI (gI L j) (gI L (j - 1)) < 0) with
    | true =>
      set_option smartUnfolding false in conv => whnf
      have hlt : ah (gI L j) (gI L (j - 1)) = true := (cmpI_lt _ _).1 (of_decide_eq_true hc2)
      have haj : a < j := by
        rcases Nat.lt_or_ge a j with c | c
        · exact c
        · exfalso
          have e1 : j = a := by omega
          subst e1
          have := ah_as ((lo.rs hr) (by omega) j (Nat.le_refl _) (by omega))
          rw [hlt] at this
          cases this
      refine ⟨_, idx_w (i := (j - 1)) (by (first | with_reducible rfl | omega | (simp (disch := omega) only [IntWalk.i64_in] <;> omega))) (by omega), ?_⟩
      set_option smartUnfolding false in conv => whnf
      refine ⟨_, (hh).one (by omega), ?_⟩
      set_option smartUnfolding false in conv => whnf
      refine ⟨_, idx_w (i := j) (by (first | with_reducible rfl | omega | (simp (disch := omega) only [IntWalk.i64_in] <;> omega))) (by omega), ?_⟩
      set_option smartUnfolding false in conv => whnf
      refine ⟨_, (hh).one (by omega), ?_⟩
      set_option smartUnfolding false in conv => whnf
      refine ⟨_, idx_w (i := j) (by (first | with_reducible rfl | omega | (simp (disch := omega) only [IntWalk.i64_in] <;> omega))) (by omega), ?_⟩
      set_option smartUnfolding false in conv => whnf
      refine eff_o ((hh).put (by omega) _) fun g1 eg1 => ?_
      set_option smartUnfolding false in conv => whnf
      have hg1 : SAt g1 b es ((L).set (j) (gI (L) ((j - 1)))) rest := by rw [eg1]; exact (hh).next
      refine ⟨_, idx_w (i := (j - 1)) (by (first | with_reducible rfl | omega | (simp (disch := omega) only [IntWalk.i64_in] <;> omega))) (by omega), ?_⟩
      set_option smartUnfolding false in conv => whnf
      refine eff_o (hg1.put (by rw [List.length_set]; omega) _) fun g2 eg2 => ?_
      set_option smartUnfolding false in conv => whnf
      have hg2 : SAt g2 b es (swp (L) (j) ((j - 1))) rest := by rw [eg2]; exact hg1.next
      have frg : Fr h g2 [b] := by rw [eg2, eg1]; exact ((Fr.refl h [b]).set (by simp)).set (by simp)
      exact ih (j - 1) (by omega) g2 _ _ hg2 (by rw [swp_len]; exact hL) (by omega) (by omega) (hs.step haj (by omega) (by omega) hlt) (hr.trans (RS.swap (by omega) (by omega) (by omega) (by omega) (by omega))) (fr.trans frg) (by repeat' (first | exact trivial | refine And.intro (by first | with_reducible_and_instances rfl | (refine Eq.trans (b := some (AV.int .i64 _)) rfl (congrArg (fun z => some (AV.int .i64 z)) ?_); first | omega | (simp (disch := omega) only [IntWalk.i64_in] <;> omega)) | rfl) ?_))
    | false =>
      set_option smartUnfolding false in conv => whnf
      exact hQ h L _ hh hr (hs.done (.inr (cmp_f (of_decide_eq_false hc2)))) fr (by repeat' (first | exact trivial | refine And.intro (by first | with_reducible_and_instances rfl | (refine Eq.trans (b := some (AV.int .i64 _)) rfl (congrArg (fun z => some (AV.int .i64 z)) ?_); first | omega | (simp (disch := omega) only [IntWalk.i64_in] <;> omega)) | rfl) ?_))
  · have h1 : j ≤ a := by have := of_decide_eq_false hc; omega
    exact hQ h L _ hh hr (hs.done (.inl h1)) fr (by repeat' (first | exact trivial | refine And.intro (by first | with_reducible_and_instances rfl | (refine Eq.trans (b := some (AV.int .i64 _)) rfl (congrArg (fun z => some (AV.int .i64 z)) ?_); first | omega | (simp (disch := omega) only [IntWalk.i64_in] <;> omega)) | rfl) ?_))

theorem pa_right {b es N cap a e i jj : Nat} {op : Bool} {rest : List AV} {B : Nat} {h0 : Heap} {L0 : List Id} {Q : AX → Env → Heap → Prop} (hN : N < 2 ^ 60) (he : e ≤ N)
    (hQ : ∀ h' L' e', SAt h' b es L' rest → RS i e L0 L' → Fr h0 h' [b] → AllAt e' (paE b N cap a e i jj op) → Q (.exit 6) e' h') :
    ∀ (m j : Nat) (h : Heap) (L : List Id) (env : Env), e - j = m → SAt h b es L rest → L.length = N → i < j → j ≤ e → RS i e L0 L → Fr h0 h [b] → AllAt env (paE b N cap a e i jj op ++ [(12, .int .i64 ((j : Nat) : Int))]) →
    VC fs ms B false (.loop L_slices_partialInsertionSortCmpFunc_rank_one_3) env h Q := by
  intro m
  induction m using Nat.strongRecOn with
  | ind m ih =>
  intro j h L env hm hh hL hj hje hr fr henv
  refine vc_slots 4 _ henv ?_
  refine vc_loop (z := true) ?_
  unfold paE
  set_option smartUnfolding false in conv => whnf
  refine br (fun hc => ?_) (fun hc => ?_) <;> (try rw [hc]) <;> (set_option smartUnfolding false in conv => whnf)
  · have h1 : j < e := by have := of_decide_eq_true hc; omega
    refine ⟨_, idx_w (i := j) (by (first | with_reducible rfl | omega | (simp (disch := omega) only [IntWalk.i64_in] <;> omega))) (by omega), ?_⟩
    set_option smartUnfolding false in conv => whnf
    refine ⟨_, (hh).one (by omega), ?_⟩
    set_option smartUnfolding false in conv => whnf
    refine ⟨_, idx_w (i := j - 1) (by (first | with_reducible rfl | omega | (simp (disch := omega) only [IntWalk.i64_in] <;> omega))) (by omega), ?_⟩
    set_option smartUnfolding false in conv => whnf
    refine ⟨_, (hh).one (by omega), ?_⟩
    set_option smartUnfolding false in conv => whnf
    refine vd_pure (cmpI_c _ _) ?_
    set_option smartUnfolding false in conv => whnf
    cases hc2 : decide (cmpI (gI L j) (gI L (j - 1)) < 0) with
    | true =>
      set_option smartUnfolding false in conv => whnf
      refine ⟨_, idx_w (i := (j - 1)) (by (first | with_reducible rfl | omega | (simp (disch := omega) only [IntWalk.i64_in] <;> omega))) (by omega), ?_⟩
      set_option smartUnfolding false in conv => whnf
      refine ⟨_, (hh).one (by omega), ?_⟩
      set_option smartUnfolding false in conv => whnf
      refine ⟨_, idx_w (i := j) (by (first | with_reducible rfl | omega | (simp (disch := omega) only [IntWalk.i64_in] <;> omega))) (by omega), ?_⟩
      set_option smartUnfolding false in conv => whnf
      refine ⟨_, (hh).one (by omega), ?_⟩
      set_option smartUnfolding false in conv => whnf
      refine ⟨_, idx_w (i := j) (by (first | with_reducible rfl | omega | (simp (disch := omega) only [IntWalk.i64_in] <;> omega))) (by omega), ?_⟩
      set_option smartUnfolding false in conv => whnf
      refine eff_o ((hh).put (by omega) _) fun g1 eg1 => ?_
      set_option smartUnfolding false in conv => whnf
      have hg1 : SAt g1 b es ((L).set (j) (gI (L) ((j - 1)))) rest := by rw [eg1]; exact (hh).next
      refine ⟨_, idx_w (i := (j - 1)) (by (first | with_reducible rfl | omega | (simp (disch := omega) only [IntWalk.i64_in] <;> omega))) (by omega), ?_⟩
      set_option smartUnfolding false in conv => whnf
      refine eff_o (hg1.put (by rw [List.length_set]; omega) _) fun g2 eg2 => ?_
      set_option smartUnfolding false in conv => whnf
      have hg2 : SAt g2 b es (swp (L) (j) ((j - 1))) rest := by rw [eg2]; exact hg1.next
      have frg : Fr h g2 [b] := by rw [eg2, eg1]; exact ((Fr.refl h [b]).set (by simp)).set (by simp)
      exact ih (e - (j + 1)) (by omega) (j + 1) g2 _ _ rfl hg2 (by rw [swp_len]; exact hL) (by omega) (by omega) (hr.trans (RS.swap (by omega) (by omega) (by omega) (by omega) (by omega))) (fr.trans frg) (by repeat' (first | exact trivial | refine And.intro (by first | with_reducible_and_instances rfl | (refine Eq.trans (b := some (AV.int .i64 _)) rfl (congrArg (fun z => some (AV.int .i64 z)) ?_); first | omega | (simp (disch := omega) only [IntWalk.i64_in] <;> omega)) | rfl) ?_))
    | false =>
      set_option smartUnfolding false in conv => whnf
      exact hQ h L _ hh hr fr (by repeat' (first | exact trivial | refine And.intro (by first | with_reducible_and_instances rfl | (refine Eq.trans (b := some (AV.int .i64 _)) rfl (congrArg (fun z => some (AV.int .i64 z)) ?_); first | omega | (simp (disch := omega) only [IntWalk.i64_in] <;> omega)) | rfl) ?_))
  · exact hQ h L _ hh hr fr (by repeat' (first | exact trivial | refine And.intro (by first | with_reducible_and_instances rfl | (refine Eq.trans (b := some (AV.int .i64 _)) rfl (congrArg (fun z => some (AV.int .i64 z)) ?_); first | omega | (simp (disch := omega) only [IntWalk.i64_in] <;> omega)) | rfl) ?_))

theorem pa_l0 {b es N cap a e : Nat} {op : Bool} {rest : List AV} {B : Nat} {h0 : Heap} {L0 : List Id} {Q : AX → Env → Heap → Prop} (hN : N < 2 ^ 60) (he : e ≤ N) (lo : Low L0 a e)
    (hR : ∀ h' L' c e', SAt h' b es L' rest → RS a e L0 L' → (c = true → Srt L' a e) → Fr h0 h' [b] → Tr.get e' 8 = some (.bool c) → Q .ret e' h')
    (hX : ∀ h' L' e', SAt h' b es L' rest → RS a e L0 L' → Fr h0 h' [b] → Q (.exit 0) e' h') :
    ∀ (m jj i : Nat) (h : Heap) (L : List Id) (env : Env), 5 - jj = m → SAt h b es L rest → L.length = N → a < i → i ≤ e → Srt L a i → RS a e L0 L → Fr h0 h [b] → AllAt env (paE b N cap a e i jj op) →
    VC fs ms B false (.loop L_slices_partialInsertionSortCmpFunc_rank_one_0) env h Q := by
  intro m
  induction m using Nat.strongRecOn with
  | ind m ih =>
  intro jj i h L env hm hh hL hai hie hs hr fr henv
  refine vc_slots 4 _ henv ?_
  refine vc_loopV (vc_seq true ?_)
  unfold paE
  set_option smartUnfolding false in conv => whnf
  refine br (fun hc => ?_) (fun hc => ?_) <;> (try rw [hc]) <;> (set_option smartUnfolding false in conv => whnf)
  · have hj5 : jj < 5 := by have := of_decide_eq_true hc; omega
    refine vc_seqV (vc_block (vc_seqV (vc_block ?_)))
    refine pa_scan (a := a) (e := e) (jj := jj) hh hN hL he ?_ _ i _ rfl hie hai hs (by repeat' (first | exact trivial | refine And.intro (by first | with_reducible_and_instances rfl | (refine Eq.trans (b := some (AV.int .i64 _)) rfl (congrArg (fun z => some (AV.int .i64 z)) ?_); first | omega | (simp (disch := omega) only [IntWalk.i64_in] <;> omega)) | rfl) ?_))
    intro i1 e1 a1 a2 s1 a3 henv1
    show VC fs ms _ _ _ _ _ _
    refine vc_slots 4 _ henv1 ?_
    unfold paE
    refine vc_seq true ?_
    set_option smartUnfolding false in conv => whnf
    by_cases hE : i1 = e
    · have : (((i1 : Nat) : Int) == ((e : Nat) : Int)) = true := by simp [hE]
      refine brt (this) (fun hc => ?_)
      (try rw [hc])
      set_option smartUnfolding false in conv => whnf
      exact hR h L true _ hh hr (fun _ => by rw [← hE]; exact s1) fr rfl
    · have : (((i1 : Nat) : Int) == ((e : Nat) : Int)) = false := by simp; omega
      refine brf (this) (fun hc => ?_)
      (try rw [hc])
      set_option smartUnfolding false in conv => whnf
      refine vc_seq true ?_
      set_option smartUnfolding false in conv => whnf
      refine br (fun hc => ?_) (fun hc => ?_) <;> (try rw [hc]) <;> (set_option smartUnfolding false in conv => whnf)
      · exact hR h L false _ hh hr (fun h => by cases h) fr rfl
      · refine vc_seq true ?_
        set_option smartUnfolding false in conv => whnf
        refine ⟨_, idx_w (i := (i1 - 1)) (by (first | with_reducible rfl | omega | (simp (disch := omega) only [IntWalk.i64_in] <;> omega))) (by omega), ?_⟩
        set_option smartUnfolding false in conv => whnf
        refine ⟨_, (hh).one (by omega), ?_⟩
        set_option smartUnfolding false in conv => whnf
        refine ⟨_, idx_w (i := i1) (by (first | with_reducible rfl | omega | (simp (disch := omega) only [IntWalk.i64_in] <;> omega))) (by omega), ?_⟩
        set_option smartUnfolding false in conv => whnf
        refine ⟨_, (hh).one (by omega), ?_⟩
        set_option smartUnfolding false in conv => whnf
        refine ⟨_, idx_w (i := i1) (by (first | with_reducible rfl | omega | (simp (disch := omega) only [IntWalk.i64_in] <;> omega))) (by omega), ?_⟩
        set_option smartUnfolding false in conv => whnf
        refine eff_o ((hh).put (by omega) _) fun g1 eg1 => ?_
        set_option smartUnfolding false in conv => whnf
        have hg1 : SAt g1 b es ((L).set (i1) (gI (L) ((i1 - 1)))) rest := by rw [eg1]; exact (hh).next
        refine ⟨_, idx_w (i := (i1 - 1)) (by (first | with_reducible rfl | omega | (simp (disch := omega) only [IntWalk.i64_in] <;> omega))) (by omega), ?_⟩
        set_option smartUnfolding false in conv => whnf
        refine eff_o (hg1.put (by rw [List.length_set]; omega) _) fun g2 eg2 => ?_
        set_option smartUnfolding false in conv => whnf
        have hg2 : SAt g2 b es (swp (L) (i1) ((i1 - 1))) rest := by rw [eg2]; exact hg1.next
        have frg : Fr h g2 [b] := by rw [eg2, eg1]; exact ((Fr.refl h [b]).set (by simp)).set (by simp)
        have r1 : RS a e L0 (swp L i1 (i1 - 1)) := hr.trans (RS.swap (by omega) (by omega) (by omega) (by omega) (by omega))
        have hL1 : (swp L i1 (i1 - 1)).length = N := by rw [swp_len]; exact hL
        have hb1 : SrtB (swp L i1 (i1 - 1)) a i1 (i1 - 1) := by
          have hg := gI_swp (V := L) (show i1 < L.length by omega) (show i1 - 1 < L.length by omega)
          intro u v h1 h2 h3 h4
          rw [hg, hg, if_neg h4, if_neg (by omega), if_neg (by omega), if_neg (by omega)]
          exact s1 u v h1 h2 h3
        refine vc_slots 4 (paE b N cap a e i1 jj op) (by repeat' (first | exact trivial | refine And.intro (by first | with_reducible_and_instances rfl | (refine Eq.trans (b := some (AV.int .i64 _)) rfl (congrArg (fun z => some (AV.int .i64 z)) ?_); first | omega | (simp (disch := omega) only [IntWalk.i64_in] <;> omega)) | rfl) ?_)) ?_
        refine vc_seqV ?_
        refine VC.mono (Q := fun x e2 h2 => x = .normal ∧ ∃ L2, SAt h2 b es L2 rest ∧ RS a e L0 L2 ∧ Srt L2 a i1 ∧ Fr h0 h2 [b] ∧ AllAt e2 (paE b N cap a e i1 jj op)) ?_ ?_
        · unfold paE
          refine vc_seq true ?_
          set_option smartUnfolding false in conv => whnf
          refine vc_condV ?_
          set_option smartUnfolding false in conv => whnf
          refine br (fun hc => ?_) (fun hc => ?_) <;> (try rw [hc]) <;> (set_option smartUnfolding false in conv => whnf)
          · refine vc_seq true ?_
            set_option smartUnfolding false in conv => whnf
            refine vc_block ?_
            refine pa_left (i := i1) (jj := jj) (e := e) hN he (by omega) lo ?_ (i1 - 1) g2 _ _ hg2 hL1 (by omega) (by omega) hb1 r1 (fr.trans frg) (by repeat' (first | exact trivial | refine And.intro (by first | with_reducible_and_instances rfl | (refine Eq.trans (b := some (AV.int .i64 _)) rfl (congrArg (fun z => some (AV.int .i64 z)) ?_); first | omega | (simp (disch := omega) only [IntWalk.i64_in] <;> omega)) | rfl) ?_))
            intro h' L' e' k1 k2 k3 k4 k5
            exact ⟨rfl, L', k1, k2, k3, k4, k5⟩
          · refine vpC_sound (z := true) ?_
            set_option smartUnfolding false in conv => whnf
            have hia : i1 = a + 1 := by
              have := of_decide_eq_false hc
              simp only [IntKind.wrap_i64] at this
              omega
            refine ⟨rfl, _, hg2, r1, fun u v h1 h2 h3 => by omega, fr.trans frg, (by repeat' (first | exact trivial | refine And.intro (by first | with_reducible_and_instances rfl | (refine Eq.trans (b := some (AV.int .i64 _)) rfl (congrArg (fun z => some (AV.int .i64 z)) ?_); first | omega | (simp (disch := omega) only [IntWalk.i64_in] <;> omega)) | rfl) ?_))⟩
        · rintro x e2 h2 ⟨rfl, L2, hh2, r2, s2, fr2, he2⟩
          show VC fs ms _ _ _ _ _ _
          have hL2 : L2.length = N := by rw [← r2.len, hr.len]; exact hL
          refine VC.mono (Q := fun x e3 h3 => x = .normal ∧ ∃ L3, SAt h3 b es L3 rest ∧ RS a e L0 L3 ∧ Srt L3 a i1 ∧ Fr h0 h3 [b] ∧ AllAt e3 (paE b N cap a e i1 jj op)) ?_ ?_
          · refine vc_slots 4 _ he2 ?_
            unfold paE
            refine vc_seq true ?_
            set_option smartUnfolding false in conv => whnf
            refine vc_condV ?_
            set_option smartUnfolding false in conv => whnf
            refine br (fun hc => ?_) (fun hc => ?_) <;> (try rw [hc]) <;> (set_option smartUnfolding false in conv => whnf)
            · refine vc_seq true ?_
              set_option smartUnfolding false in conv => whnf
              refine vc_block ?_
              refine pa_right (i := i1) (jj := jj) (a := a) (e := e) (L0 := L2) (h0 := h0) hN he ?_ _ (i1 + 1) h2 L2 _ rfl hh2 hL2 (by omega) (by omega) (RS.refl _ _ _) fr2 (by repeat' (first | exact trivial | refine And.intro (by first | with_reducible_and_instances rfl | (refine Eq.trans (b := some (AV.int .i64 _)) rfl (congrArg (fun z => some (AV.int .i64 z)) ?_); first | omega | (simp (disch := omega) only [IntWalk.i64_in] <;> omega)) | rfl) ?_))
              intro h' L' e' k1 k2 k3 k4
              refine ⟨rfl, L', k1, r2.trans (k2.wide (by omega) (Nat.le_refl _)), fun u v h1 h2 h3 => ?_, k3, k4⟩
              rw [k2.out u (by omega), k2.out v (by omega)]
              exact s2 u v h1 h2 h3
            · refine vpC_sound (z := true) ?_
              set_option smartUnfolding false in conv => whnf
              exact ⟨rfl, L2, hh2, r2, s2, fr2, (by repeat' (first | exact trivial | refine And.intro (by first | with_reducible_and_instances rfl | (refine Eq.trans (b := some (AV.int .i64 _)) rfl (congrArg (fun z => some (AV.int .i64 z)) ?_); first | omega | (simp (disch := omega) only [IntWalk.i64_in] <;> omega)) | rfl) ?_))⟩
          · rintro x e3 h3 ⟨rfl, L3, hh3, r3, s3, fr3, he3⟩
            show VC fs ms _ _ _ _ _ _
            have hL3 : L3.length = N := by rw [← r3.len, hr.len]; exact hL
            refine vc_slots 4 _ he3 (vpC_sound (z := true) ?_)
            unfold paE
            set_option smartUnfolding false in conv => whnf
            exact ih (5 - (jj + 1)) (by omega) (jj + 1) i1 h3 L3 _ rfl hh3 hL3 a1 a2 s3 r3 fr3 (by repeat' (first | exact trivial | refine And.intro (by first | with_reducible_and_instances rfl | (refine Eq.trans (b := some (AV.int .i64 _)) rfl (congrArg (fun z => some (AV.int .i64 z)) ?_); first | omega | (simp (disch := omega) only [IntWalk.i64_in] <;> omega)) | rfl) ?_))
  · exact hX h L _ hh hr fr
theorem pa_o {h : Heap} {b es cap a e : Nat} {op : Bool} {L : List Id} {rest : List AV} (hh : SAt h b es L rest) (hN : L.length < 2 ^ 60) (ha : a < e) (he : e ≤ L.length) (lo : Low L a e) {Q : AV → Heap → Prop}
    (hQ : ∀ h' L' c, SAt h' b es L' rest → RS a e L L' → (c = true → Srt L' a e) → Fr h h' [b] → Q (.bool c) h') :
    VD fs ms f_slices_partialInsertionSortCmpFunc_rank_one [.sl b 0 L.length cap op, .int .i64 ((a : Nat) : Int), .int .i64 ((e : Nat) : Int), cmpF] h Q := by
  refine vd_begin (af := C_slices_partialInsertionSortCmpFunc_rank_one) rfl (Nat.le_of_ble_eq_true rfl) ?_
  set_option smartUnfolding false in conv => whnf
  refine vc_seq true ?_
  set_option smartUnfolding false in conv => whnf
  refine vc_seq true ?_
  set_option smartUnfolding false in conv => whnf
  refine vc_seqV (vc_seq true ?_)
  set_option smartUnfolding false in conv => whnf
  refine vc_block ?_
  refine pa_l0 (a := a) (e := e) hN he lo ?_ ?_ _ 0 (a + 1) h L _ rfl hh rfl (by omega) (by omega) (fun u v h1 h2 h3 => by omega) (RS.refl _ _ _) (Fr.refl _ _) (by repeat' (first | exact trivial | refine And.intro (by first | with_reducible_and_instances rfl | (refine Eq.trans (b := some (AV.int .i64 _)) rfl (congrArg (fun z => some (AV.int .i64 z)) ?_); first | omega | (simp (disch := omega) only [IntWalk.i64_in] <;> omega)) | rfl) ?_))
  · intro h' L' c e' k1 k2 k3 k4 k5
    show endV [.tmp 8] Q .ret e' h'
    simp only [endV, resAllV, resOfV, k5]
    exact hQ h' L' c k1 k2 k3 k4
  · intro h' L' e' k1 k2 k3
    show VC fs ms _ _ _ _ _ _
    refine vc_slots 4 [] trivial (vpC_sound (z := true) ?_)
    set_option smartUnfolding false in conv => whnf
    exact hQ h' L' false k1 k2 (fun h => by cases h) k3
end Ir
end Go.Proofs.Ytenafeojcgmnhaa
set_option maxRecDepth 100000
set_option linter.unusedSimpArgs false
set_option linter.unusedVariables false
namespace Go.Proofs.Ytenafeojcgmnhaa
open Go Ads
namespace Ir

/-- A heap from s on, of the first n behind f. -/
def HM (L : List Id) (f s n : Nat) : Prop := ∀ c p, 0 < c → c < n → p = (c - 1) / 2 → s ≤ p → ah (gI L (f + p)) (gI L (f + c)) = false
/-- The same, but at r. -/
structure HX (L : List Id) (f s n r : Nat) : Prop where
  ok : ∀ c p, 0 < c → c < n → p = (c - 1) / 2 → s ≤ p → p ≠ r → ah (gI L (f + p)) (gI L (f + c)) = false
  gp : ∀ c p, 0 < c → c < n → r = (c - 1) / 2 → 0 < r → p = (r - 1) / 2 → s ≤ p → ah (gI L (f + p)) (gI L (f + c)) = false
theorem HX.leaf {L : List Id} {f s n r : Nat} (h : HX L f s n r) (hr : n ≤ 2 * r + 1) : HM L f s n := by
  intro c p h0 hc hp hs
  exact h.ok c p h0 hc hp hs (by omega)
theorem HX.done {L : List Id} {f s n r m : Nat} (h : HX L f s n r) (hm : ∀ c, (c = 2 * r + 1 ∨ c = 2 * r + 2) → c < n → ah (gI L (f + m)) (gI L (f + c)) = false) (hr : ah (gI L (f + r)) (gI L (f + m)) = false) : HM L f s n := by
  intro c p h0 hc hp hs
  by_cases e : p = r
  · subst e
    exact ah_tt hr (hm c (by omega) hc)
  · exact h.ok c p h0 hc hp hs e
theorem HX.step {L : List Id} {f s n r m : Nat} (h : HX L f s n r) (hs : s ≤ r) (hmr : m = 2 * r + 1 ∨ m = 2 * r + 2) (hmn : m < n) (hn : f + n ≤ L.length) (hm : ∀ c, (c = 2 * r + 1 ∨ c = 2 * r + 2) → c < n → ah (gI L (f + m)) (gI L (f + c)) = false)
    (hr : ah (gI L (f + r)) (gI L (f + m)) = true) : HX (swp L (f + r) (f + m)) f s n m := by
  have hg := gI_swp (V := L) (show f + r < L.length by omega) (show f + m < L.length by omega)
  refine ⟨fun c p h0 hc hp hsp hpm => ?_, fun c p h0 hc hmc hm0 hp hsp => ?_⟩
  · rw [hg (f + p), if_neg (by omega), hg (f + c)]
    by_cases e : p = r
    · subst e
      rw [if_pos rfl]
      by_cases e2 : c = m
      · subst e2
        rw [if_pos rfl]
        exact ah_as hr
      · rw [if_neg (by omega), if_neg (by omega)]
        exact hm c (by omega) hc
    · rw [if_neg (by omega), if_neg (by omega)]
      by_cases e2 : c = r
      · subst e2
        rw [if_pos rfl]
        exact h.gp m p (by omega) hmn (by omega) h0 hp hsp
      · rw [if_neg (by omega)]
        exact h.ok c p h0 hc hp hsp e
  · have : p = r := by omega
    subst this
    rw [hg (f + p), if_neg (by omega), if_pos rfl, hg (f + c), if_neg (by omega), if_neg (by omega)]
    exact h.ok c m h0 hc hmc (by omega) (by omega)
theorem HM.top {L : List Id} {f n : Nat} (h : HM L f 0 n) : ∀ u, u < n → ah (gI L f) (gI L (f + u)) = false := by
  intro u
  induction u using Nat.strongRecOn with
  | ind u ih =>
    intro hu
    rcases Nat.eq_zero_or_pos u with rfl | h0
    · rw [ah_not, Nat.add_zero]; omega
    · exact ah_tt (ih ((u - 1) / 2) (by omega) (by omega)) (h u _ h0 hu rfl (Nat.zero_le _))

def sfE (b N cap s n f r : Nat) (op : Bool) : List (Nat × AV) := [(0, .sl b 0 N cap op), (1, .int .i64 ((s : Nat) : Int)), (2, .int .i64 ((n : Nat) : Int)), (3, .int .i64 ((f : Nat) : Int)), (4, cmpF), (10, .int .i64 ((r : Nat) : Int))]
theorem sift_l {b es N cap s n f : Nat} {op : Bool} {rest : List AV} {B : Nat} {h0 : Heap} {L0 : List Id} {Q : AX → Env → Heap → Prop} (hN : N < 2 ^ 60) (hf : f + n ≤ N)
    (hQ : ∀ h' L' x e', (x = .ret ∨ x = .exit 0) → SAt h' b es L' rest → RS f (f + n) L0 L' → HM L' f s n → Fr h0 h' [b] → Q x e' h') :
    ∀ (m r : Nat) (h : Heap) (L : List Id) (env : Env), n - r = m → r ≤ n → s ≤ r → SAt h b es L rest → L.length = N → RS f (f + n) L0 L → HX L f s n r → Fr h0 h [b] → AllAt env (sfE b N cap s n f r op) →
    VC fs ms B false (.loop L_slices_siftDownCmpFunc_rank_one_0) env h Q := by
  intro m
  induction m using Nat.strongRecOn with
  | ind m ih =>
  intro r h L env hm hrn hsr hh hL hr hx fr henv
  have e11 : IntKind.i64.wrap (IntKind.i64.wrap (2 * ((r : Nat) : Int)) + 1) = ((2 * r + 1 : Nat) : Int) := by rw [IntWalk.i64_in (_ * _) (by omega), IntWalk.i64_in _ (by omega)]; omega
  refine vc_slots 4 _ henv ?_
  refine vc_loopV (vc_block (vc_seq true ?_))
  unfold sfE
  set_option smartUnfolding false in conv => whnf
  rw [e11]
  obtain ⟨c1, hc1⟩ : ∃ c1, c1 = 2 * r + 1 := ⟨_, rfl⟩
  rw [← hc1]
  clear e11
  refine vc_slots 4 [(0, .sl b 0 N cap op), (1, .int .i64 ((s : Nat) : Int)), (2, .int .i64 ((n : Nat) : Int)), (3, .int .i64 ((f : Nat) : Int)), (4, cmpF), (10, .int .i64 ((r : Nat) : Int)), (11, .int .i64 ((c1 : Nat) : Int))] ⟨rfl, rfl, rfl, rfl, rfl, rfl, rfl, trivial⟩ ?_
  refine vc_seq true ?_
  set_option smartUnfolding false in conv => whnf
  refine br (fun hc => ?_) (fun hc => ?_) <;> (try rw [hc]) <;> (set_option smartUnfolding false in conv => whnf)
  · have hge : n ≤ c1 := by have := of_decide_eq_true hc; omega
    exact hQ h L _ _ (.inr rfl) hh hr (hx.leaf (by omega)) fr
  · have hlt : c1 < n := by have := of_decide_eq_false hc; omega
    refine vc_seqV ?_
    refine VC.mono (Q := fun x e2 h2 => x = .normal ∧ h2 = h ∧ ∃ c2, (c2 = 2 * r + 1 ∨ c2 = 2 * r + 2) ∧ c2 < n ∧ (∀ c, (c = 2 * r + 1 ∨ c = 2 * r + 2) → c < n → ah (gI L (f + c2)) (gI L (f + c)) = false) ∧ AllAt e2 [(0, .sl b 0 N cap op), (1, .int .i64 ((s : Nat) : Int)), (2, .int .i64 ((n : Nat) : Int)), (3, .int .i64 ((f : Nat) : Int)), (4, cmpF), (10, .int .i64 ((r : Nat) : Int)), (11, .int .i64 ((c2 : Nat) : Int))]) ?_ ?_
    · refine vpC_sound (z := true) ?_
      set_option smartUnfolding false in conv => whnf
      have irr : ∀ x : Id, ah x x = false := fun x => by rw [ah_not]; omega
      refine br (fun hc => ?_) (fun hc => ?_) <;> (try rw [hc]) <;> (set_option smartUnfolding false in conv => whnf)
      · have hc1n : c1 + 1 < n := by
          have := of_decide_eq_true hc
          simp only [IntKind.wrap_i64] at this
          omega
        refine ⟨_, idx_w (i := f + c1) (by (first | with_reducible rfl | omega | (simp (disch := omega) only [IntWalk.i64_in] <;> omega))) (by omega), ?_⟩
        set_option smartUnfolding false in conv => whnf
        refine ⟨_, (hh).one (by omega), ?_⟩
        set_option smartUnfolding false in conv => whnf
        refine ⟨_, idx_w (i := f + c1 + 1) (by (first | with_reducible rfl | omega | (simp (disch := omega) only [IntWalk.i64_in] <;> omega))) (by omega), ?_⟩
        set_option smartUnfolding false in conv => whnf
        refine ⟨_, (hh).one (by omega), ?_⟩
        set_option smartUnfolding false in conv => whnf
        refine vd_pure (cmpI_c _ _) ?_
        set_option smartUnfolding false in conv => whnf
        refine br (fun hc => ?_) (fun hc => ?_) <;> (try rw [hc]) <;> (set_option smartUnfolding false in conv => whnf)
        · have hlt2 : ah (gI L (f + c1)) (gI L (f + c1 + 1)) = true := (cmpI_lt _ _).1 (of_decide_eq_true hc)
          refine ⟨rfl, rfl, c1 + 1, by omega, by omega, fun c hcc hcn => ?_, (by repeat' (first | exact trivial | refine And.intro (by first | with_reducible_and_instances rfl | (refine Eq.trans (b := some (AV.int .i64 _)) rfl (congrArg (fun z => some (AV.int .i64 z)) ?_); first | omega | (simp (disch := omega) only [IntWalk.i64_in] <;> omega)) | rfl) ?_))⟩
          rcases (show c = c1 ∨ c = c1 + 1 by omega) with e | e
          · subst e; exact ah_as hlt2
          · subst e; exact irr _
        · have hlt2 : ah (gI L (f + c1)) (gI L (f + c1 + 1)) = false := cmp_f (of_decide_eq_false hc)
          refine ⟨rfl, rfl, c1, by omega, by omega, fun c hcc hcn => ?_, (by repeat' (first | exact trivial | refine And.intro (by first | with_reducible_and_instances rfl | (refine Eq.trans (b := some (AV.int .i64 _)) rfl (congrArg (fun z => some (AV.int .i64 z)) ?_); first | omega | (simp (disch := omega) only [IntWalk.i64_in] <;> omega)) | rfl) ?_))⟩
          rcases (show c = c1 ∨ c = c1 + 1 by omega) with e | e
          · subst e; exact irr _
          · subst e; exact hlt2
      · have hc1n : ¬ c1 + 1 < n := by
          have := of_decide_eq_false hc
          simp only [IntKind.wrap_i64] at this
          omega
        refine ⟨rfl, rfl, c1, by omega, by omega, fun c hcc hcn => ?_, (by repeat' (first | exact trivial | refine And.intro (by first | with_reducible_and_instances rfl | (refine Eq.trans (b := some (AV.int .i64 _)) rfl (congrArg (fun z => some (AV.int .i64 z)) ?_); first | omega | (simp (disch := omega) only [IntWalk.i64_in] <;> omega)) | rfl) ?_))⟩
        have : c = c1 := by omega
        subst this
        exact irr _
    · rintro x e2 h2 ⟨rfl, rfl, c2, k1, k2, k3, he2⟩
      show VC fs ms _ _ _ _ _ _
      refine vc_slots 4 _ he2 ?_
      refine vc_seq true ?_
      set_option smartUnfolding false in conv => whnf
      refine ⟨_, idx_w (i := f + r) (by (first | with_reducible rfl | omega | (simp (disch := omega) only [IntWalk.i64_in] <;> omega))) (by omega), ?_⟩
      set_option smartUnfolding false in conv => whnf
      refine ⟨_, (hh).one (by omega), ?_⟩
      set_option smartUnfolding false in conv => whnf
      refine ⟨_, idx_w (i := f + c2) (by (first | with_reducible rfl | omega | (simp (disch := omega) only [IntWalk.i64_in] <;> omega))) (by omega), ?_⟩
      set_option smartUnfolding false in conv => whnf
      refine ⟨_, (hh).one (by omega), ?_⟩
      set_option smartUnfolding false in conv => whnf
      refine vd_pure (cmpI_c _ _) ?_
      set_option smartUnfolding false in conv => whnf
      cases hc2 : decide (cmpI (gI L (f + r)) (gI L (f + c2)) < 0) with
      | true =>
        set_option smartUnfolding false in conv => whnf
        have hlt2 : ah (gI L (f + r)) (gI L (f + c2)) = true := (cmpI_lt _ _).1 (of_decide_eq_true hc2)
        refine vpC_sound (z := true) ?_
        set_option smartUnfolding false in conv => whnf
        refine ⟨_, idx_w (i := (f + c2)) (by (first | with_reducible rfl | omega | (simp (disch := omega) only [IntWalk.i64_in] <;> omega))) (by omega), ?_⟩
        set_option smartUnfolding false in conv => whnf
        refine ⟨_, (hh).one (by omega), ?_⟩
        set_option smartUnfolding false in conv => whnf
        refine ⟨_, idx_w (i := (f + r)) (by (first | with_reducible rfl | omega | (simp (disch := omega) only [IntWalk.i64_in] <;> omega))) (by omega), ?_⟩
        set_option smartUnfolding false in conv => whnf
        refine ⟨_, (hh).one (by omega), ?_⟩
        set_option smartUnfolding false in conv => whnf
        refine ⟨_, idx_w (i := (f + r)) (by (first | with_reducible rfl | omega | (simp (disch := omega) only [IntWalk.i64_in] <;> omega))) (by omega), ?_⟩
        set_option smartUnfolding false in conv => whnf
        refine eff_o ((hh).put (by omega) _) fun g1 eg1 => ?_
        set_option smartUnfolding false in conv => whnf
        have hg1 : SAt g1 b es ((L).set ((f + r)) (gI (L) ((f + c2)))) rest := by rw [eg1]; exact (hh).next
        refine ⟨_, idx_w (i := (f + c2)) (by (first | with_reducible rfl | omega | (simp (disch := omega) only [IntWalk.i64_in] <;> omega))) (by omega), ?_⟩
        set_option smartUnfolding false in conv => whnf
        refine eff_o (hg1.put (by rw [List.length_set]; omega) _) fun g2 eg2 => ?_
        set_option smartUnfolding false in conv => whnf
        have hg2 : SAt g2 b es (swp (L) ((f + r)) ((f + c2))) rest := by rw [eg2]; exact hg1.next
        have frg : Fr h2 g2 [b] := by rw [eg2, eg1]; exact ((Fr.refl h2 [b]).set (by simp)).set (by simp)
        exact ih (n - c2) (by omega) c2 g2 _ _ rfl (by omega) (by omega) hg2 (by rw [swp_len]; exact hL) (hr.trans (RS.swap (by omega) (by omega) (by omega) (by omega) (by omega))) (hx.step hsr k1 k2 (by omega) k3 hlt2) (fr.trans frg) (by repeat' (first | exact trivial | refine And.intro (by first | with_reducible_and_instances rfl | (refine Eq.trans (b := some (AV.int .i64 _)) rfl (congrArg (fun z => some (AV.int .i64 z)) ?_); first | omega | (simp (disch := omega) only [IntWalk.i64_in] <;> omega)) | rfl) ?_))
      | false =>
        set_option smartUnfolding false in conv => whnf
        exact hQ h2 L _ _ (.inl rfl) hh hr (hx.done k3 (cmp_f (of_decide_eq_false hc2))) fr
theorem sift_o {h : Heap} {b es cap s n f : Nat} {op : Bool} {L : List Id} {rest : List AV} (hh : SAt h b es L rest) (hN : L.length < 2 ^ 60) (hf : f + n ≤ L.length) (hsn : s ≤ n) (hx : HX L f s n s) {Q : AV → Heap → Prop}
    (hQ : ∀ h' L', SAt h' b es L' rest → RS f (f + n) L L' → HM L' f s n → Fr h h' [b] → Q (.tup []) h') :
    VD fs ms f_slices_siftDownCmpFunc_rank_one [.sl b 0 L.length cap op, .int .i64 ((s : Nat) : Int), .int .i64 ((n : Nat) : Int), .int .i64 ((f : Nat) : Int), cmpF] h Q := by
  refine vd_begin (af := C_slices_siftDownCmpFunc_rank_one) rfl (Nat.le_of_ble_eq_true rfl) ?_
  set_option smartUnfolding false in conv => whnf
  refine vc_seq true ?_
  set_option smartUnfolding false in conv => whnf
  refine vc_block ?_
  refine sift_l (s := s) (n := n) (f := f) hN hf ?_ _ s h L _ rfl hsn (Nat.le_refl _) hh rfl (RS.refl _ _ _) hx (Fr.refl _ _) (by repeat' (first | exact trivial | refine And.intro (by first | with_reducible_and_instances rfl | (refine Eq.trans (b := some (AV.int .i64 _)) rfl (congrArg (fun z => some (AV.int .i64 z)) ?_); first | omega | (simp (disch := omega) only [IntWalk.i64_in] <;> omega)) | rfl) ?_))
  intro h' L' x e' hx' k1 k2 k3 k4
  rcases hx' with rfl | rfl
  · exact hQ h' L' k1 k2 k3 k4
  · exact hQ h' L' k1 k2 k3 k4

theorem hs_l0 {b es N cap n a : Nat} {op : Bool} {rest : List AV} {B : Nat} {h0 : Heap} {L0 : List Id} {Q : AX → Env → Heap → Prop} (hN : N < 2 ^ 60) (hf : a + n ≤ N)
    (hQ : ∀ h' L' e', SAt h' b es L' rest → RS a (a + n) L0 L' → HM L' a 0 n → Fr h0 h' [b] → AllAt e' [(0, .sl b 0 N cap op), (3, cmpF), (8, .int .i64 ((a : Nat) : Int)), (9, .int .i64 ((0 : Nat) : Int)), (10, .int .i64 ((n : Nat) : Int))] → Q (.exit 0) e' h') :
    ∀ (k : Nat) (h : Heap) (L : List Id) (z : Int) (env : Env), z = ((k : Nat) : Int) - 1 → k ≤ n → SAt h b es L rest → L.length = N → RS a (a + n) L0 L → HM L a k n → Fr h0 h [b] → AllAt env [(0, .sl b 0 N cap op), (3, cmpF), (8, .int .i64 ((a : Nat) : Int)), (9, .int .i64 ((0 : Nat) : Int)), (10, .int .i64 ((n : Nat) : Int)), (11, .int .i64 z)] →
    VC fs ms B false (.loop L_slices_heapSortCmpFunc_rank_one_0) env h Q := by
  intro k
  induction k with
  | zero =>
    intro h L z env hz hk hh hL hr hx fr henv
    refine vc_slots 4 _ henv ?_
    refine vc_loop (z := true) ?_
    set_option smartUnfolding false in conv => whnf
    refine brf ((show decide (z ≥ 0) = false from decide_eq_false (by omega))) (fun hc => ?_)
    (try rw [hc])
    set_option smartUnfolding false in conv => whnf
    exact hQ h L _ hh hr hx fr (by repeat' (first | exact trivial | refine And.intro (by first | with_reducible_and_instances rfl | (refine Eq.trans (b := some (AV.int .i64 _)) rfl (congrArg (fun z => some (AV.int .i64 z)) ?_); first | omega | (simp (disch := omega) only [IntWalk.i64_in] <;> omega)) | rfl) ?_))
  | succ k ih =>
    intro h L z env hz hk hh hL hr hx fr henv
    have hz : z = ((k : Nat) : Int) := by omega
    subst hz
    refine vc_slots 4 _ henv ?_
    refine vc_loop (z := true) ?_
    set_option smartUnfolding false in conv => whnf
    subst hL
    have hx2 : HX L a k n k := ⟨fun c p h1 h2 h3 h4 h5 => hx c p h1 h2 h3 (by omega), fun c p h1 h2 h3 h4 h5 h6 => by omega⟩
    refine sift_o hh hN hf (by omega) hx2 fun h2 L2 k1 k2 k3 k4 => ?_
    set_option smartUnfolding false in conv => whnf
    have hl := k2.len
    refine ih h2 L2 _ _ ?_ (by omega) k1 (by omega) (hr.trans k2) k3 (fr.trans k4) ⟨rfl, rfl, rfl, rfl, rfl, rfl, trivial⟩
    rw [IntWalk.i64_in _ (by omega)]

structure HT (L : List Id) (a n k : Nat) : Prop where
  hm : HM L a 0 k
  st : Srt L (a + k) (a + n)
  up : ∀ u v, u < k → k ≤ v → v < n → ah (gI L (a + v)) (gI L (a + u)) = false
theorem HT.swp {L : List Id} {a n k : Nat} (h : HT L a n (k + 1)) (hk : k + 1 ≤ n) (hn : a + n ≤ L.length) : HX (swp L a (a + k)) a 0 k 0 ∧ Srt (swp L a (a + k)) (a + k) (a + n) ∧ ∀ u v, u < k → k ≤ v → v < n → ah (gI (swp L a (a + k)) (a + v)) (gI (swp L a (a + k)) (a + u)) = false := by
  have hg := gI_swp (V := L) (show a < L.length by omega) (show a + k < L.length by omega)
  have top := h.hm.top
  refine ⟨⟨fun c p h1 h2 h3 h4 h5 => ?_, fun c p h1 h2 h3 h4 h5 h6 => by omega⟩, fun i j h1 h2 h3 => ?_, fun u v h1 h2 h3 => ?_⟩
  · rw [hg, if_neg (by omega), if_neg (by omega), hg, if_neg (by omega), if_neg (by omega)]
    exact h.hm c p h1 (by omega) h3 h4
  · obtain ⟨j, rfl⟩ : ∃ j', j = a + j' := ⟨j - a, by omega⟩
    rw [hg (a + j), if_neg (by omega), if_neg (by omega)]
    by_cases e : i = a + k
    · subst e
      rw [hg, if_pos rfl]
      have := h.up 0 j (by omega) (by omega) (by omega)
      rwa [Nat.add_zero] at this
    · rw [hg, if_neg e, if_neg (by omega)]
      exact h.st i (a + j) (by omega) h2 h3
  · have hmem : ∃ u', u' < k + 1 ∧ gI (Ir.swp L a (a + k)) (a + u) = gI L (a + u') := by
      by_cases e : u = 0
      · subst e
        refine ⟨k, by omega, ?_⟩
        rw [hg, if_neg (by omega), if_pos (by omega)]
      · exact ⟨u, by omega, by rw [hg, if_neg (by omega), if_neg (by omega)]⟩
    obtain ⟨u', hu', eu⟩ := hmem
    rw [eu]
    by_cases e : v = k
    · subst e
      rw [hg, if_pos rfl]
      exact top u' hu'
    · rw [hg, if_neg (by omega), if_neg (by omega)]
      exact h.up u' v hu' (by omega) h3
theorem HT.sift {L M : List Id} {a n k : Nat} (hx : Srt L (a + k) (a + n)) (hu : ∀ u v, u < k → k ≤ v → v < n → ah (gI L (a + v)) (gI L (a + u)) = false) (r : RS a (a + k) L M) (hm : HM M a 0 k) (hk : k ≤ n) : HT M a n k := by
  refine ⟨hm, fun i j h1 h2 h3 => ?_, fun u v h1 h2 h3 => ?_⟩
  · rw [r.out i (by omega), r.out j (by omega)]
    exact hx i j h1 h2 h3
  · rw [r.out (a + v) (by omega)]
    refine r.all (p := fun y => ah (gI L (a + v)) y = false) (fun k' k1 k2 => ?_) (a + u) (by omega) (by omega)
    have := hu (k' - a) v (by omega) h2 h3
    rwa [show a + (k' - a) = k' by omega] at this

theorem hs_l1 {b es N cap n a : Nat} {op : Bool} {rest : List AV} {B : Nat} {h0 : Heap} {L0 : List Id} {Q : AX → Env → Heap → Prop} (hN : N < 2 ^ 60) (hf : a + n ≤ N)
    (hQ : ∀ h' L' e', SAt h' b es L' rest → RS a (a + n) L0 L' → Srt L' a (a + n) → Fr h0 h' [b] → Q (.exit 2) e' h') :
    ∀ (k : Nat) (h : Heap) (L : List Id) (z : Int) (env : Env), z = ((k : Nat) : Int) - 1 → k ≤ n → SAt h b es L rest → L.length = N → RS a (a + n) L0 L → HT L a n k → Fr h0 h [b] → AllAt env [(0, .sl b 0 N cap op), (3, cmpF), (8, .int .i64 ((a : Nat) : Int)), (9, .int .i64 ((0 : Nat) : Int)), (12, .int .i64 z)] →
    VC fs ms B false (.loop L_slices_heapSortCmpFunc_rank_one_1) env h Q := by
  intro k
  induction k with
  | zero =>
    intro h L z env hz hk hh hL hr hx fr henv
    refine vc_slots 4 _ henv ?_
    refine vc_loop (z := true) ?_
    set_option smartUnfolding false in conv => whnf
    refine brf ((show decide (z ≥ 0) = false from decide_eq_false (by omega))) (fun hc => ?_)
    (try rw [hc])
    set_option smartUnfolding false in conv => whnf
    exact hQ h L _ hh hr hx.st fr
  | succ k ih =>
    intro h L z env hz hk hh hL hr hx fr henv
    have hz : z = ((k : Nat) : Int) := by omega
    subst hz
    refine vc_slots 4 _ henv ?_
    refine vc_loop (z := true) ?_
    set_option smartUnfolding false in conv => whnf
    refine ⟨_, idx_w (i := (a + k)) (by (first | with_reducible rfl | omega | (simp (disch := omega) only [IntWalk.i64_in] <;> omega))) (by omega), ?_⟩
    set_option smartUnfolding false in conv => whnf
    refine ⟨_, (hh).one (by omega), ?_⟩
    set_option smartUnfolding false in conv => whnf
    refine ⟨_, idx_w (i := a) (by (first | with_reducible rfl | omega | (simp (disch := omega) only [IntWalk.i64_in] <;> omega))) (by omega), ?_⟩
    set_option smartUnfolding false in conv => whnf
    refine ⟨_, (hh).one (by omega), ?_⟩
    set_option smartUnfolding false in conv => whnf
    refine ⟨_, idx_w (i := a) (by (first | with_reducible rfl | omega | (simp (disch := omega) only [IntWalk.i64_in] <;> omega))) (by omega), ?_⟩
    set_option smartUnfolding false in conv => whnf
    refine eff_o ((hh).put (by omega) _) fun g1 eg1 => ?_
    set_option smartUnfolding false in conv => whnf
    have hg1 : SAt g1 b es ((L).set (a) (gI (L) ((a + k)))) rest := by rw [eg1]; exact (hh).next
    refine ⟨_, idx_w (i := (a + k)) (by (first | with_reducible rfl | omega | (simp (disch := omega) only [IntWalk.i64_in] <;> omega))) (by omega), ?_⟩
    set_option smartUnfolding false in conv => whnf
    refine eff_o (hg1.put (by rw [List.length_set]; omega) _) fun g2 eg2 => ?_
    set_option smartUnfolding false in conv => whnf
    have hg2 : SAt g2 b es (swp (L) (a) ((a + k))) rest := by rw [eg2]; exact hg1.next
    have frg : Fr h g2 [b] := by rw [eg2, eg1]; exact ((Fr.refl h [b]).set (by simp)).set (by simp)
    obtain ⟨x1, x2, x3⟩ := hx.swp hk (by omega)
    have r1 : RS a (a + n) L0 (swp L a (a + k)) := hr.trans (RS.swap (by omega) (by omega) (by omega) (by omega) (by omega))
    have hL1 : (swp L a (a + k)).length = N := by rw [swp_len]; exact hL
    revert x1 x2 x3 r1 hL1 hg2
    generalize swp L a (a + k) = M
    intro hM x1 x2 x3 r1 hL1
    subst hL1
    refine sift_o hM hN (show a + k ≤ M.length by omega) (Nat.zero_le k) x1 fun h2 L2 k1 k2 k3 k4 => ?_
    set_option smartUnfolding false in conv => whnf
    have hl := k2.len
    refine ih h2 L2 _ _ ?_ (by omega) k1 (by omega) (r1.trans (k2.wide (Nat.le_refl _) (by omega))) (HT.sift x2 x3 k2 k3 (by omega)) ((fr.trans frg).trans k4) ⟨rfl, rfl, rfl, rfl, rfl, trivial⟩
    rw [IntWalk.i64_in _ (by omega)]

theorem hsort_o {h : Heap} {b es cap a e : Nat} {op : Bool} {L : List Id} {rest : List AV} (hh : SAt h b es L rest) (hN : L.length < 2 ^ 60) (ha : a < e) (he : e ≤ L.length) {Q : AV → Heap → Prop}
    (hQ : ∀ h' L', SAt h' b es L' rest → RS a e L L' → Srt L' a e → Fr h h' [b] → Q (.tup []) h') :
    VD fs ms f_slices_heapSortCmpFunc_rank_one [.sl b 0 L.length cap op, .int .i64 ((a : Nat) : Int), .int .i64 ((e : Nat) : Int), cmpF] h Q := by
  obtain ⟨n, hn⟩ : ∃ n, n = e - a := ⟨_, rfl⟩
  obtain rfl : e = a + n := by omega
  have el : IntKind.i64.wrap (((a + n : Nat) : Int) - ((a : Nat) : Int)) = ((n : Nat) : Int) := by rw [IntWalk.i64_in _ (by omega)]; omega
  obtain ⟨q, hq⟩ : ∃ q, q = (n - 1) / 2 := ⟨_, rfl⟩
  have hdv : pV (.bin .quo) [.int .i64 (IntKind.i64.wrap (((n : Nat) : Int) - 1)), .int .i64 2] = some (.int .i64 ((q : Nat) : Int)) := by rw [hq]; exact div_v (n - 1) 2 (by (first | with_reducible rfl | omega | (simp (disch := omega) only [IntWalk.i64_in] <;> omega))) rfl (by omega) (by omega)
  clear hn
  refine vd_begin (af := C_slices_heapSortCmpFunc_rank_one) rfl (Nat.le_of_ble_eq_true rfl) ?_
  set_option smartUnfolding false in conv => whnf
  refine vc_seq true ?_
  set_option smartUnfolding false in conv => whnf
  refine vc_seq true ?_
  set_option smartUnfolding false in conv => whnf
  refine vc_seq true ?_
  set_option smartUnfolding false in conv => whnf
  rw [el]
  refine vc_seqV (vc_seq true ?_)
  set_option smartUnfolding false in conv => whnf
  refine ⟨_, hdv, ?_⟩
  set_option smartUnfolding false in conv => whnf
  refine vc_block ?_
  refine hs_l0 (n := n) (a := a) hN he ?_ (q + 1) h L _ _ (by omega) (by omega) hh rfl (RS.refl _ _ _) (fun c p h1 h2 h3 h4 => by omega) (Fr.refl _ _) ⟨rfl, rfl, rfl, rfl, rfl, rfl, trivial⟩
  intro h1 L1 e1 k1 k2 k3 k4 k5
  show VC fs ms _ _ _ _ _ _
  have hl := k2.len
  refine vc_slots 4 _ k5 (vc_seq true ?_)
  set_option smartUnfolding false in conv => whnf
  refine vc_block ?_
  refine hs_l1 (L0 := L) (n := n) (a := a) hN he ?_ n h1 L1 _ _ ?_ (Nat.le_refl _) k1 (by omega) k2 ⟨k3, fun i j h1 h2 h3 => by omega, fun u v h1 h2 h3 => by omega⟩ k4 ⟨rfl, rfl, rfl, rfl, rfl, trivial⟩
  · intro h' L' e' m1 m2 m3 m4
    exact hQ h' L' m1 m2 m3 m4
  · rw [IntWalk.i64_in _ (by omega)]
end Ir
end Go.Proofs.Ytenafeojcgmnhaa
set_option maxRecDepth 100000
set_option linter.unusedSimpArgs false
set_option linter.unusedVariables false
namespace Go.Proofs.Ytenafeojcgmnhaa
open Go Ads
namespace Ir

section
variable {h : Heap} {b es cap a e N : Nat} {op : Bool} {L : List Id} {rest : List AV} {Q : AV → Heap → Prop}
theorem ins_N (hL : L.length = N) (hh : SAt h b es L rest) (hN : N < 65) (ha : a ≤ e) (he : e ≤ N) (hQ : ∀ h' L', SAt h' b es L' rest → RS a e L L' → Srt L' a e → Fr h h' [b] → Q (.tup []) h') :
    VD fs ms f_slices_insertionSortCmpFunc_rank_one [.sl b 0 N cap op, .int .i64 ((a : Nat) : Int), .int .i64 ((e : Nat) : Int), cmpF] h Q := by
  subst hL; exact ins_o hh (by omega) ha he hQ
theorem hsort_N (hL : L.length = N) (hh : SAt h b es L rest) (hN : N < 65) (ha : a < e) (he : e ≤ N) (hQ : ∀ h' L', SAt h' b es L' rest → RS a e L L' → Srt L' a e → Fr h h' [b] → Q (.tup []) h') :
    VD fs ms f_slices_heapSortCmpFunc_rank_one [.sl b 0 N cap op, .int .i64 ((a : Nat) : Int), .int .i64 ((e : Nat) : Int), cmpF] h Q := by
  subst hL; exact hsort_o hh (by omega) ha he hQ
theorem brk_N (hL : L.length = N) (hh : SAt h b es L rest) (hN : N < 65) (ha : a + 12 < e) (he : e ≤ N) (hQ : ∀ h' L', SAt h' b es L' rest → RS a e L L' → Fr h h' [b] → Q (.tup []) h') :
    VD fs ms f_slices_breakPatternsCmpFunc_rank_one [.sl b 0 N cap op, .int .i64 ((a : Nat) : Int), .int .i64 ((e : Nat) : Int), cmpF] h Q := by
  subst hL; exact brk_o hh hN ha he hQ
theorem pivot_N (hL : L.length = N) (hh : SAt h b es L rest) (hN : N < 65) (ha : a + 12 < e) (he : e ≤ N) (hQ : ∀ h' p t, SAt h' b es L rest → a ≤ p → p < e → Fr h h' [b] → Q (.tup [.int .i64 ((p : Nat) : Int), .int .i64 t]) h') :
    VD fs ms f_slices_choosePivotCmpFunc_rank_one [.sl b 0 N cap op, .int .i64 ((a : Nat) : Int), .int .i64 ((e : Nat) : Int), cmpF] h Q := by
  subst hL; exact pivot_o hh (by omega) ha he hQ
theorem rev_N (hL : L.length = N) (hh : SAt h b es L rest) (hN : N < 65) (ha : a < e) (he : e ≤ N) (hQ : ∀ h' L', SAt h' b es L' rest → RS a e L L' → Fr h h' [b] → Q (.tup []) h') :
    VD fs ms f_slices_reverseRangeCmpFunc_rank_one [.sl b 0 N cap op, .int .i64 ((a : Nat) : Int), .int .i64 ((e : Nat) : Int), cmpF] h Q := by
  subst hL; exact rev_o hh (by omega) ha he hQ
theorem pa_N (hL : L.length = N) (hh : SAt h b es L rest) (hN : N < 65) (ha : a < e) (he : e ≤ N) (lo : Low L a e) (hQ : ∀ h' L' c, SAt h' b es L' rest → RS a e L L' → (c = true → Srt L' a e) → Fr h h' [b] → Q (.bool c) h') :
    VD fs ms f_slices_partialInsertionSortCmpFunc_rank_one [.sl b 0 N cap op, .int .i64 ((a : Nat) : Int), .int .i64 ((e : Nat) : Int), cmpF] h Q := by
  subst hL; exact pa_o hh (by omega) ha he lo hQ
theorem part_N {p : Nat} (hL : L.length = N) (hh : SAt h b es L rest) (hN : N < 65) (ha : a < e) (he : e ≤ N) (hp : a ≤ p) (hpe : p < e) (hQ : ∀ h' L' m c, SAt h' b es L' rest → RS a e L L' → Prt L' a e m → Fr h h' [b] → Q (.tup [.int .i64 ((m : Nat) : Int), .bool c]) h') :
    VD fs ms f_slices_partitionCmpFunc_rank_one [.sl b 0 N cap op, .int .i64 ((a : Nat) : Int), .int .i64 ((e : Nat) : Int), .int .i64 ((p : Nat) : Int), cmpF] h Q := by
  subst hL; exact part_o hh (by omega) ha he hp hpe hQ
end

def pdE (b N cap a e : Nat) (op : Bool) (lim : Int) (wb wp : Bool) : List (Nat × AV) := [(0, .sl b 0 N cap op), (1, .int .i64 ((a : Nat) : Int)), (2, .int .i64 ((e : Nat) : Int)), (3, .int .i64 lim), (4, cmpF), (10, .bool wb), (11, .bool wp)]
theorem pdq_l {b es N cap : Nat} {op : Bool} {rest : List AV} (hN : N < 65) :
    ∀ (n a e : Nat) (h : Heap) (L : List Id) (lim : Int) (wb wp : Bool) (env : Env) (B : Nat) (Q : AX → Env → Heap → Prop), e - a = n → a ≤ e → e ≤ N → SAt h b es L rest → L.length = N → Low L a e → Dst L → AllAt env (pdE b N cap a e op lim wb wp) →
    (∀ h' L' e', SAt h' b es L' rest → RS a e L L' → Srt L' a e → Fr h h' [b] → Q .ret e' h') →
    VC fs ms B false (.loop L_slices_pdqsortCmpFunc_rank_one_0) env h Q := by
  intro n
  induction n using Nat.strongRecOn with
  | ind n ih =>
  intro a e h L lim wb wp env B Q hn hae he hh hL lo hd henv hQ
  have el : IntKind.i64.wrap (((e : Nat) : Int) - ((a : Nat) : Int)) = ((n : Nat) : Int) := by rw [IntWalk.i64_in _ (by omega)]; omega
  have call : ∀ (a' e' : Nat) (h1 : Heap) (M : List Id) (l1 : Int) (Q1 : AV → Heap → Prop), e' - a' < n → a' ≤ e' → e' ≤ N → SAt h1 b es M rest → M.length = N → Low M a' e' → Dst M →
      (∀ h' L', SAt h' b es L' rest → RS a' e' M L' → Srt L' a' e' → Fr h1 h' [b] → Q1 (.tup []) h') →
      VD fs ms f_slices_pdqsortCmpFunc_rank_one [.sl b 0 N cap op, .int .i64 ((a' : Nat) : Int), .int .i64 ((e' : Nat) : Int), .int .i64 l1, cmpF] h1 Q1 := by
    intro a' e' h1 M l1 Q1 c1 c2 c3 c4 c5 c6 c7 c8
    refine vd_begin (af := C_slices_pdqsortCmpFunc_rank_one) rfl (Nat.le_of_ble_eq_true rfl) ?_
    set_option smartUnfolding false in conv => whnf
    refine vc_seq true ?_
    set_option smartUnfolding false in conv => whnf
    refine vc_seq true ?_
    set_option smartUnfolding false in conv => whnf
    refine vc_block ?_
    refine ih _ c1 a' e' h1 M l1 true true _ _ _ rfl c2 c3 c4 c5 c6 c7 ⟨rfl, rfl, rfl, rfl, rfl, rfl, rfl, trivial⟩ ?_
    intro h' L' e2 k1 k2 k3 k4
    exact c8 h' L' k1 k2 k3 k4
  refine vc_slots 4 _ henv ?_
  unfold pdE
  refine vc_loopV (vc_block (vc_seq true ?_))
  set_option smartUnfolding false in conv => whnf
  rw [el]
  refine vc_seq true ?_
  set_option smartUnfolding false in conv => whnf
  refine br (fun hc => ?_) (fun hc => ?_) <;> (try rw [hc]) <;> (set_option smartUnfolding false in conv => whnf)
  · refine ins_N hL hh hN hae he fun h' L' k1 k2 k3 k4 => ?_
    set_option smartUnfolding false in conv => whnf
    exact hQ h' L' _ k1 k2 k3 k4
  have hn12 : 12 < n := by have := of_decide_eq_false hc; omega
  clear hc
  refine vc_seq true ?_
  set_option smartUnfolding false in conv => whnf
  refine br (fun hc => ?_) (fun hc => ?_) <;> (try rw [hc]) <;> (set_option smartUnfolding false in conv => whnf)
  · refine hsort_N hL hh hN (by omega) he fun h' L' k1 k2 k3 k4 => ?_
    set_option smartUnfolding false in conv => whnf
    exact hQ h' L' _ k1 k2 k3 k4
  clear hc
  refine vc_seqV ?_
  refine VC.mono (Q := fun x e2 h2 => x = .normal ∧ ∃ (L2 : List Id) (l2 : Int), SAt h2 b es L2 rest ∧ RS a e L L2 ∧ Fr h h2 [b] ∧ AllAt e2 (pdE b N cap a e op l2 wb wp ++ [(12, .int .i64 ((n : Nat) : Int))])) ?_ ?_
  · refine vpC_sound (z := true) ?_
    set_option smartUnfolding false in conv => whnf
    cases wb with
    | true =>
      set_option smartUnfolding false in conv => whnf
      exact ⟨rfl, L, lim, hh, RS.refl _ _ _, Fr.refl _ _, rfl, rfl, rfl, rfl, rfl, rfl, rfl, rfl, trivial⟩
    | false =>
      set_option smartUnfolding false in conv => whnf
      refine brk_N hL hh hN (by omega) he fun h' L' k1 k2 k3 => ?_
      set_option smartUnfolding false in conv => whnf
      exact ⟨rfl, L', _, k1, k2, k3, rfl, rfl, rfl, rfl, rfl, rfl, rfl, rfl, trivial⟩
  rintro x e2 h2 ⟨rfl, L2, l2, hh2, r2, fr2, he2⟩
  show VC fs ms _ _ _ _ _ _
  have hL2 : L2.length = N := by rw [← r2.len]; exact hL
  refine vc_slots 4 _ he2 (vc_seq true ?_)
  set_option smartUnfolding false in conv => whnf
  refine pivot_N hL2 hh2 hN (by omega) he fun h3 p t k1 k2 k3 k4 => ?_
  set_option smartUnfolding false in conv => whnf
  have fr3 := fr2.trans k4
  refine vc_seqV ?_
  refine VC.mono (Q := fun x e2 h2 => x = .normal ∧ ∃ (L2 : List Id) (p : Nat) (t : Int), SAt h2 b es L2 rest ∧ RS a e L L2 ∧ Fr h h2 [b] ∧ a ≤ p ∧ p < e ∧ AllAt e2 (pdE b N cap a e op l2 wb wp ++ [(12, .int .i64 ((n : Nat) : Int)), (13, .int .i64 ((p : Nat) : Int)), (14, .int .i64 t)])) ?_ ?_
  · refine vpC_sound (z := true) ?_
    set_option smartUnfolding false in conv => whnf
    refine br (fun hc => ?_) (fun hc => ?_) <;> (try rw [hc]) <;> (set_option smartUnfolding false in conv => whnf)
    · refine rev_N hL2 k1 hN (by omega) he fun h4 L4 m1 m2 m3 => ?_
      set_option smartUnfolding false in conv => whnf
      have ep : IntKind.i64.wrap (IntKind.i64.wrap (((e : Nat) : Int) - 1) - IntKind.i64.wrap (((p : Nat) : Int) - ((a : Nat) : Int))) = ((e - 1 - (p - a) : Nat) : Int) := by
        rw [IntWalk.i64_in (((e : Nat) : Int) - 1) (by omega), IntWalk.i64_in (((p : Nat) : Int) - _) (by omega), IntWalk.i64_in _ (by omega)]; omega
      rw [ep]
      exact ⟨rfl, L4, e - 1 - (p - a), _, m1, r2.trans m2, fr3.trans m3, by omega, by omega, rfl, rfl, rfl, rfl, rfl, rfl, rfl, rfl, rfl, rfl, trivial⟩
    · exact ⟨rfl, L2, p, t, k1, r2, fr3, k2, k3, rfl, rfl, rfl, rfl, rfl, rfl, rfl, rfl, rfl, rfl, trivial⟩
  clear k1 k2 k3 k4 fr3 hL2 hh2 r2 fr2 he2
  rintro x e2 h2 ⟨rfl, L2, p, t, hh2, r2, fr2, hp1, hp2, he2⟩
  show VC fs ms _ _ _ _ _ _
  have hL2 : L2.length = N := by rw [← r2.len]; exact hL
  refine vc_slots 4 _ he2 (vc_seqV ?_)
  refine VC.mono (Q := fun x e2 h2 => (x = .ret ∧ ∃ L2, SAt h2 b es L2 rest ∧ RS a e L L2 ∧ Srt L2 a e ∧ Fr h h2 [b]) ∨ (x = .normal ∧ ∃ (L2 : List Id), SAt h2 b es L2 rest ∧ RS a e L L2 ∧ Fr h h2 [b] ∧ AllAt e2 (pdE b N cap a e op l2 wb wp ++ [(12, .int .i64 ((n : Nat) : Int)), (13, .int .i64 ((p : Nat) : Int))]))) ?_ ?_
  · refine vpC_sound (z := true) ?_
    set_option smartUnfolding false in conv => whnf
    cases wb with
    | false =>
      set_option smartUnfolding false in conv => whnf
      exact .inr ⟨rfl, L2, hh2, r2, fr2, rfl, rfl, rfl, rfl, rfl, rfl, rfl, rfl, rfl, trivial⟩
    | true =>
      cases wp with
      | false =>
        set_option smartUnfolding false in conv => whnf
        exact .inr ⟨rfl, L2, hh2, r2, fr2, rfl, rfl, rfl, rfl, rfl, rfl, rfl, rfl, rfl, trivial⟩
      | true =>
        set_option smartUnfolding false in conv => whnf
        refine br (fun hc => ?_) (fun hc => ?_) <;> (try rw [hc]) <;> (set_option smartUnfolding false in conv => whnf)
        · refine pa_N hL2 hh2 hN (by omega) he (lo.rs r2) fun h4 L4 c m1 m2 m3 m4 => ?_
          set_option smartUnfolding false in conv => whnf
          cases c with
          | true =>
            set_option smartUnfolding false in conv => whnf
            exact .inl ⟨rfl, L4, m1, r2.trans m2, m3 rfl, fr2.trans m4⟩
          | false =>
            set_option smartUnfolding false in conv => whnf
            exact .inr ⟨rfl, L4, m1, r2.trans m2, fr2.trans m4, rfl, rfl, rfl, rfl, rfl, rfl, rfl, rfl, rfl, trivial⟩
        · exact .inr ⟨rfl, L2, hh2, r2, fr2, rfl, rfl, rfl, rfl, rfl, rfl, rfl, rfl, rfl, trivial⟩
  clear hL2 hh2 r2 fr2 he2
  rintro x e2 h2 (⟨rfl, L2, hh2, r2, s2, fr2⟩ | ⟨rfl, L2, hh2, r2, fr2, he2⟩)
  · exact hQ h2 L2 e2 hh2 r2 s2 fr2
  show VC fs ms _ _ _ _ _ _
  have hL2 : L2.length = N := by rw [← r2.len]; exact hL
  have lo2 := lo.rs r2
  have hd2 := r2.dst hd
  refine vc_slots 4 _ he2 (vc_seqV ?_)
  refine VC.mono (Q := fun x e2 h3 => x = .normal ∧ h3 = h2 ∧ AllAt e2 (pdE b N cap a e op l2 wb wp ++ [(12, .int .i64 ((n : Nat) : Int)), (13, .int .i64 ((p : Nat) : Int))])) ?_ ?_
  · refine vpC_sound (z := true) ?_
    unfold pdE
    set_option smartUnfolding false in conv => whnf
    rcases Nat.eq_zero_or_pos a with h0 | h0
    · refine brf ((show decide (((a : Nat) : Int) > 0) = false from decide_eq_false (by omega))) (fun hc => ?_)
      (try rw [hc])
      set_option smartUnfolding false in conv => whnf
      exact ⟨rfl, rfl, rfl, rfl, rfl, rfl, rfl, rfl, rfl, rfl, rfl, trivial⟩
    · refine brt ((show decide (((a : Nat) : Int) > 0) = true from decide_eq_true (by omega))) (fun hc => ?_)
      (try rw [hc])
      set_option smartUnfolding false in conv => whnf
      refine ⟨_, idx_w (i := a - 1) (by (first | with_reducible rfl | omega | (simp (disch := omega) only [IntWalk.i64_in] <;> omega))) (by omega), ?_⟩
      set_option smartUnfolding false in conv => whnf
      refine ⟨_, (hh2).one (by omega), ?_⟩
      set_option smartUnfolding false in conv => whnf
      refine ⟨_, idx_w (i := p) (by (first | with_reducible rfl | omega | (simp (disch := omega) only [IntWalk.i64_in] <;> omega))) (by omega), ?_⟩
      set_option smartUnfolding false in conv => whnf
      refine ⟨_, (hh2).one (by omega), ?_⟩
      set_option smartUnfolding false in conv => whnf
      refine vd_pure (cmpI_c _ _) ?_
      set_option smartUnfolding false in conv => whnf
      rw [show decide (cmpI (gI L2 (a - 1)) (gI L2 p) < 0) = true from decide_eq_true ((cmpI_lt _ _).2 (lo2 h0 p hp1 hp2))]
      set_option smartUnfolding false in conv => whnf
      exact ⟨rfl, rfl, rfl, rfl, rfl, rfl, rfl, rfl, rfl, rfl, rfl, trivial⟩
  clear he2
  rintro x e2 h3 ⟨rfl, rfl, he2⟩
  show VC fs ms _ _ _ _ _ _
  refine vc_slots 4 _ he2 (vc_seq true ?_)
  set_option smartUnfolding false in conv => whnf
  refine part_N hL2 hh2 hN (by omega) he hp1 hp2 fun h4 L4 m c k1 k2 k3 k4 => ?_
  set_option smartUnfolding false in conv => whnf
  have hL4 : L4.length = N := by rw [← k2.len]; exact hL2
  have lo4 := lo2.rs k2
  have hd4 := k2.dst hd2
  have am := k3.am
  have me := k3.me
  have e1 : IntKind.i64.wrap (((m : Nat) : Int) - ((a : Nat) : Int)) = ((m - a : Nat) : Int) := by rw [IntWalk.i64_in _ (by omega)]; omega
  have e2 : IntKind.i64.wrap (((e : Nat) : Int) - ((m : Nat) : Int)) = ((e - m : Nat) : Int) := by rw [IntWalk.i64_in _ (by omega)]; omega
  have hlow : Low L4 a m := fun h0 k g1 g2 => lo4 h0 k g1 (by omega)
  have hlow2 : Low L4 (m + 1) e := k3.low (by omega) hd4
  have em : IntKind.i64.wrap (((m : Nat) : Int) + 1) = ((m + 1 : Nat) : Int) := inc_val (by omega)
  refine vc_seq true ?_
  set_option smartUnfolding false in conv => whnf
  refine vc_seq true ?_
  set_option smartUnfolding false in conv => whnf
  rw [e1, e2]
  refine vc_seq true ?_
  set_option smartUnfolding false in conv => whnf
  refine ⟨_, div_v n 8 rfl rfl (by omega) (by omega), ?_⟩
  set_option smartUnfolding false in conv => whnf
  obtain ⟨q, hq⟩ : ∃ q, n / 8 = q := ⟨_, rfl⟩
  rw [hq]
  refine vc_seq true ?_
  set_option smartUnfolding false in conv => whnf
  refine vpC_sound (z := true) ?_
  set_option smartUnfolding false in conv => whnf
  refine br (fun hc => ?_) (fun hc => ?_) <;> (try rw [hc]) <;> (set_option smartUnfolding false in conv => whnf)
  · generalize hwb : decide (((m - a : Nat) : Int) ≥ ((q : Nat) : Int)) = wb'
    refine call a m h4 L4 l2 _ (by omega) am (by omega) k1 hL4 hlow hd4 fun h5 L5 g1 g2 g3 g4 => ?_
    set_option smartUnfolding false in conv => whnf
    rw [em]
    have hL5 : L5.length = N := by rw [← g2.len]; exact hL4
    have p5 := k3.left g2
    refine ih (e - (m + 1)) (by omega) (m + 1) e h5 L5 l2 wb' c _ B Q rfl (by omega) he g1 hL5 (p5.low (by omega) (g2.dst hd4)) (g2.dst hd4) ⟨rfl, rfl, rfl, rfl, rfl, rfl, rfl, trivial⟩ ?_
    intro h6 L6 e6 j1 j2 j3 j4
    refine hQ h6 L6 e6 j1 ((r2.trans k2).trans ((g2.wide (Nat.le_refl _) (by omega)).trans (j2.wide (by omega) (Nat.le_refl _)))) ?_ (((fr2.trans k4).trans g4).trans j4)
    refine (p5.right j2).srt (fun u v h1 h2 h3 => ?_) j3
    rw [j2.out u (by omega), j2.out v (by omega)]
    exact g3 u v h1 h2 h3
  · generalize hwb : decide (((e - m : Nat) : Int) ≥ ((q : Nat) : Int)) = wb'
    rw [em]
    refine call (m + 1) e h4 L4 l2 _ (by omega) (by omega) he k1 hL4 hlow2 hd4 fun h5 L5 g1 g2 g3 g4 => ?_
    set_option smartUnfolding false in conv => whnf
    have hL5 : L5.length = N := by rw [← g2.len]; exact hL4
    have p5 := k3.right g2
    refine ih (m - a) (by omega) a m h5 L5 l2 wb' c _ B Q rfl am (by omega) g1 hL5 ?_ (g2.dst hd4) ⟨rfl, rfl, rfl, rfl, rfl, rfl, rfl, trivial⟩ ?_
    · intro h0 k j1 j2
      rw [g2.out (a - 1) (by omega), g2.out k (by omega)]
      exact hlow h0 k j1 j2
    intro h6 L6 e6 j1 j2 j3 j4
    refine hQ h6 L6 e6 j1 ((r2.trans k2).trans ((g2.wide (by omega) (Nat.le_refl _)).trans (j2.wide (Nat.le_refl _) (by omega)))) ?_ (((fr2.trans k4).trans g4).trans j4)
    refine (p5.left j2).srt j3 (fun u v h1 h2 h3 => ?_)
    rw [j2.out u (by omega), j2.out v (by omega)]
    exact g3 u v h1 h2 h3
end Ir
end Go.Proofs.Ytenafeojcgmnhaa
set_option maxRecDepth 100000
set_option linter.unusedSimpArgs false
set_option linter.unusedVariables false
namespace Go.Proofs.Ytenafeojcgmnhaa
open Go Ads
namespace Ir

theorem pdq_any {h : Heap} {b es cap : Nat} {op : Bool} {L : List Id} {rest : List AV} {m : Int} (hh : SAt h b es L rest) (h64 : L.length ≤ 64) (hd : Dst L) {Q : AV → Heap → Prop}
    (hQ : ∀ h' L', SAt h' b es L' rest → RS 0 L.length L L' → Srt L' 0 L.length → Fr h h' [b] → Q (.tup []) h') :
    VD fs ms f_slices_pdqsortCmpFunc_rank_one [.sl b 0 L.length cap op, .int .i64 ((0 : Nat) : Int), .int .i64 ((L.length : Nat) : Int), .int .i64 m, cmpF] h Q := by
  refine vd_begin (af := C_slices_pdqsortCmpFunc_rank_one) rfl (Nat.le_of_ble_eq_true rfl) ?_
  set_option smartUnfolding false in conv => whnf
  refine vc_seq true ?_
  set_option smartUnfolding false in conv => whnf
  refine vc_seq true ?_
  set_option smartUnfolding false in conv => whnf
  refine vc_block ?_
  refine pdq_l (N := L.length) (by omega) _ 0 L.length h L m true true _ _ _ rfl (Nat.zero_le _) (Nat.le_refl _) hh rfl (fun h => by omega) hd ⟨rfl, rfl, rfl, rfl, rfl, rfl, rfl, trivial⟩ ?_
  intro h' L' e2 k1 k2 k3 k4
  exact hQ h' L' k1 k2 k3 k4
theorem sort_any {h : Heap} {b es cap : Nat} {op : Bool} {L : List Id} {rest : List AV} (hh : SAt h b es L rest) (h64 : L.length ≤ 64) (hd : Dst L) {Q : AV → Heap → Prop}
    (hQ : ∀ h' L', SAt h' b es L' rest → RS 0 L.length L L' → Srt L' 0 L.length → Fr h h' [b] → Q (.tup []) h') :
    VD fs ms f_slices_SortFunc_rank_one_rank_one [.sl b 0 L.length cap op, cmpF] h Q := by
  refine vd_start (af := C_slices_SortFunc_rank_one_rank_one) true rfl (Nat.le_of_ble_eq_true rfl) ?_
  set_option smartUnfolding false in conv => whnf
  obtain ⟨m, hm⟩ := Len_c (n := L.length) (by omega)
  have hu : IntKind.u64.wrap ((L.length : Nat) : Int) = ((L.length : Nat) : Int) := by
    have hlow : ∀ z : Int, IntKind.u64.wrap z = z % 18446744073709551616 := fun z => by simp [IntKind.wrap, IntKind.signed, IntKind.bits]
    rw [hlow]
    omega
  rw [hu]
  refine vd_pure hm ?_
  set_option smartUnfolding false in conv => whnf
  refine pdq_any hh h64 hd fun h' L' k1 k2 k3 k4 => ?_
  set_option smartUnfolding false in conv => whnf
  exact hQ h' L' k1 k2 k3 k4

theorem ids_any {h : Heap} {k p : Nat} {S : List Nat} {L : List Id} {P : Nat → Nat} (hr : RAt h k p S L P) {Q : AV → Heap → Prop}
    (hQ : ∀ h' v M, IRow h.next h' v (idl M) → Ord L M → Fr h h' [] → Q v h') : VD fs ms f_rank_Rank_Ids [.ptr k 0] h Q := by
  refine vd_begin (af := C_rank_Rank_Ids) rfl (Nat.le_of_ble_eq_true rfl) ?_
  set_option smartUnfolding false in conv => whnf
  refine vc_seq true ?_
  set_option smartUnfolding false in conv => whnf
  refine vc_seq true ?_
  set_option smartUnfolding false in conv => whnf
  refine none_o hr ?_
  set_option smartUnfolding false in conv => whnf
  obtain ⟨rv, c1, c2⟩ := clone_o hr.row hr.pl.len64
  refine vc_seq true ?_
  set_option smartUnfolding false in conv => whnf
  refine ⟨_, ld1 hr.hk rfl, ?_⟩
  set_option smartUnfolding false in conv => whnf
  refine ⟨_, c1, ?_⟩
  set_option smartUnfolding false in conv => whnf
  refine c2 (fun hL => ?_) fun h1 c es op hs hc fr => ?_
  · set_option smartUnfolding false in conv => whnf
    refine vc_seq true ?_
    set_option smartUnfolding false in conv => whnf
    refine vd_pure sort_nil ?_
    set_option smartUnfolding false in conv => whnf
    refine vc_seq true ?_
    set_option smartUnfolding false in conv => whnf
    refine vc_loop (z := true) ?_
    set_option smartUnfolding false in conv => whnf
    refine vpC_sound (z := true) ?_
    set_option smartUnfolding false in conv => whnf
    subst hL
    refine hQ h .nils [] (.inl ⟨rfl, rfl⟩) ⟨rfl, fun y => Iff.rfl, ?_, ?_⟩ (Fr.refl _ _)
    · intro i j hi; simp at hi
    · intro i j h1 h2 h3; simp at h3
  · set_option smartUnfolding false in conv => whnf
    refine vc_seq true ?_
    set_option smartUnfolding false in conv => whnf
    refine sort_any hs hr.pl.len64 hr.pl.dist fun h2 M k1 k2 k3 k4 => ?_
    set_option smartUnfolding false in conv => whnf
    have hML := k2.len
    have hd : Dst M := k2.dst hr.pl.dist
    have fr2 : Fr h h2 [] := ⟨Nat.le_trans fr.next k4.next, fun b hb _ => by
      rw [k4.keep b (Nat.lt_of_lt_of_le hb fr.next) (by simp; omega)]
      exact fr.keep b hb (by simp)⟩
    refine vc_seqV (vc_seq true ?_)
    set_option smartUnfolding false in conv => whnf
    refine vc_block ?_
    have h64 := hr.pl.len64
    refine ids_loop (L := M) (N := L.length) h64 hML.symm hc _ 0 h2 .nils _ rfl k1 (Nat.zero_le _) (.inl ⟨rfl, rfl⟩) (fun o n k op e => by cases e) fr2 ⟨rfl, rfl, rfl, rfl, trivial⟩ ?_
    intro h3 v e3 g2 hi hf
    show VC fs ms _ _ _ _ _ _
    refine vc_slots 3 [(2, v)] ⟨g2, trivial⟩ (vpC_sound (z := true) ?_)
    set_option smartUnfolding false in conv => whnf
    refine hQ h3 v M hi ⟨hML.symm, fun y => ?_, hd, by rw [← hML]; exact k3⟩ hf
    rw [mem_gI, mem_gI]
    have := k2.mem y
    rw [← hML]
    constructor
    · rintro ⟨i, hi, e⟩
      obtain ⟨j, _, j1, j2⟩ := this.2 ⟨i, Nat.zero_le _, hi, e⟩
      exact ⟨j, j1, j2⟩
    · rintro ⟨i, hi, e⟩
      obtain ⟨j, _, j1, j2⟩ := this.1 ⟨i, Nat.zero_le _, hi, e⟩
      exact ⟨j, j1, j2⟩
theorem srt_uniq {α : Type} {r : α → α → Prop} (irr : ∀ x, ¬ r x x) (asy : ∀ x y, r x y → ¬ r y x) : ∀ (A B : List α), A.Pairwise r → B.Pairwise r → (∀ y, y ∈ A ↔ y ∈ B) → A = B
  | [], [], _, _, _ => rfl
  | [], b :: B, _, _, h => absurd ((h b).2 List.mem_cons_self) (by simp)
  | a :: A, [], _, _, h => absurd ((h a).1 List.mem_cons_self) (by simp)
  | a :: A, b :: B, ha, hb, h => by
    rw [List.pairwise_cons] at ha hb
    have e : a = b := by
      rcases List.mem_cons.1 ((h a).1 List.mem_cons_self) with e | e
      · exact e
      · rcases List.mem_cons.1 ((h b).2 List.mem_cons_self) with e2 | e2
        · exact e2.symm
        · exact absurd (ha.1 b e2) (asy _ _ (hb.1 a e))
    subst e
    congr 1
    refine srt_uniq irr asy A B ha.2 hb.2 fun y => ⟨fun hy => ?_, fun hy => ?_⟩
    · rcases List.mem_cons.1 ((h y).1 (List.mem_cons_of_mem _ hy)) with e | e
      · subst e; exact absurd (ha.1 y hy) (irr y)
      · exact e
    · rcases List.mem_cons.1 ((h y).2 (List.mem_cons_of_mem _ hy)) with e | e
      · subst e; exact absurd (hb.1 y hy) (irr y)
      · exact e

theorem ah_ir (x : Id) : ¬ ah x x = true := by rw [ah_iff]; omega
theorem ah_asym (x y : Id) : ah x y = true → ¬ ah y x = true := by rw [ah_iff, ah_iff]; omega
theorem Ord.pws {L M : List Id} (h : Ord L M) : M.Pairwise (fun x y => ah x y = true) := by
  rw [List.pairwise_iff_getElem]
  intro i j hi hj hij
  have h1 := h.srt i j (Nat.zero_le _) hij hj
  rw [gI_eq hi, gI_eq hj, ah_not] at h1
  rw [ah_iff]
  have h2 : M[i].1 ≠ M[j].1 := by
    intro e
    have := h.dst i j hi hj (by rw [gI_eq hi, gI_eq hj]; exact e)
    omega
  omega
theorem IRow.fz {lo : Nat} {h : Heap} {v : AV} {l : List Int} (hr : IRow lo h v l) : ∃ k, Frz (fun _ => True) h v (.fz k (ints l)) := by
  rcases hr with ⟨rfl, rfl⟩ | ⟨b, h1, h2, rfl, h4⟩
  · exact ⟨3, .nils⟩
  · exact ⟨0, frz_open trivial h4 (flat_ints l).symm (size_ints l) (len_ints l).symm (cl_ints l)⟩
end Ir
end Go.Proofs.Ytenafeojcgmnhaa
