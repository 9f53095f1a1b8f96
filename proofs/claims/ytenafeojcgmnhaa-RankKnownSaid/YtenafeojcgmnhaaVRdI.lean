/-
  Rows of ids, sorted in place: insertion.
-/
import Derived.Test.YtenafeojcgmnhaaVRdH
set_option maxRecDepth 100000
set_option linter.unusedSimpArgs false
set_option linter.unusedVariables false
namespace Go.Proofs.Ytenafeojcgmnhaa
open Go Ads
namespace Ir

/-- A row of ids. -/
structure SAt (h : Heap) (b es : Nat) (L : List Id) (rest : List AV) : Prop where
  hb : h.get b = some (.cells (oc L ++ rest) true es)
  lb : b < h.next
theorem SAt.one {h : Heap} {b es : Nat} {L : List Id} {rest : List AV} (hh : SAt h b es L rest) {i : Nat} (hi : i < L.length) : rV (.loadN 2) [.ptr b (i * 2)] h = some (ob (gI L i)) := by
  have hlen := oc_len L
  rw [ldN hh.hb (by rw [List.length_append]; omega), oc_take hi, gI_eq hi]
  rfl
theorem SAt.put {h : Heap} {b es : Nat} {L : List Id} {rest : List AV} (hh : SAt h b es L rest) {i : Nat} (hi : i < L.length) (x : Id) : eV (.store 2) [.ptr b (i * 2), ob x] h = some (.undef, h.set b (.cells (oc (L.set i x) ++ rest) true es)) := by
  have hlen := oc_len L
  rw [← oc_set L i hi x rest]
  exact sto_o (n := 2) (v := ob x) hh.hb rfl (by rw [List.length_append]; omega) rfl
theorem SAt.next {h : Heap} {b es : Nat} {L L' : List Id} {rest : List AV} (hh : SAt h b es L rest) : SAt (h.set b (.cells (oc L' ++ rest) true es)) b es L' rest := ⟨get_set_same, hh.lb⟩

def Dst (L : List Id) : Prop := ∀ i j, i < L.length → j < L.length → (gI L i).1 = (gI L j).1 → i = j
/-- Only the places from a to e may have changed, with one another. -/
structure RS (a e : Nat) (L M : List Id) : Prop where
  len : L.length = M.length
  out : ∀ k, k < a ∨ e ≤ k → gI M k = gI L k
  mem : ∀ y, (∃ k, a ≤ k ∧ k < e ∧ gI L k = y) ↔ ∃ k, a ≤ k ∧ k < e ∧ gI M k = y
  dst : Dst L → Dst M
theorem RS.refl (a e : Nat) (L : List Id) : RS a e L L := ⟨rfl, fun _ _ => rfl, fun _ => Iff.rfl, id⟩
theorem RS.trans {a e : Nat} {L M K : List Id} (h : RS a e L M) (g : RS a e M K) : RS a e L K := ⟨h.len.trans g.len, fun k hk => (g.out k hk).trans (h.out k hk), fun y => (h.mem y).trans (g.mem y), fun d => g.dst (h.dst d)⟩
theorem RS.wide {a e a' e' : Nat} {L M : List Id} (h : RS a e L M) (ha : a' ≤ a) (he : e ≤ e') : RS a' e' L M := by
  refine ⟨h.len, fun k hk => h.out k (by omega), fun y => ⟨?_, ?_⟩, h.dst⟩
  · rintro ⟨k, k1, k2, hy⟩
    by_cases hk : a ≤ k ∧ k < e
    · obtain ⟨j, j1, j2, j3⟩ := (h.mem y).1 ⟨k, hk.1, hk.2, hy⟩
      exact ⟨j, by omega, by omega, j3⟩
    · exact ⟨k, k1, k2, by rw [h.out k (by omega)]; exact hy⟩
  · rintro ⟨k, k1, k2, hy⟩
    by_cases hk : a ≤ k ∧ k < e
    · obtain ⟨j, j1, j2, j3⟩ := (h.mem y).2 ⟨k, hk.1, hk.2, hy⟩
      exact ⟨j, by omega, by omega, j3⟩
    · exact ⟨k, k1, k2, by rw [← h.out k (by omega)]; exact hy⟩
theorem RS.swap {a e : Nat} {L : List Id} {i j : Nat} (hi : a ≤ i) (hi' : i < e) (hj : a ≤ j) (hj' : j < e) (he : e ≤ L.length) : RS a e L (swp L i j) := by
  have hg := gI_swp (V := L) (show i < L.length by omega) (show j < L.length by omega)
  refine ⟨(swp_len L i j).symm, fun k hk => ?_, fun y => ⟨?_, ?_⟩, fun d => ?_⟩
  · rw [hg, if_neg (by omega), if_neg (by omega)]
  · rintro ⟨k, k1, k2, hy⟩
    by_cases h1 : k = i
    · subst h1
      exact ⟨j, hj, hj', by rw [hg, if_pos rfl, hy]⟩
    · by_cases h2 : k = j
      · subst h2
        exact ⟨i, hi, hi', by rw [hg, if_neg (fun e => h1 e.symm), if_pos rfl, hy]⟩
      · exact ⟨k, k1, k2, by rw [hg, if_neg h2, if_neg h1, hy]⟩
  · rintro ⟨k, k1, k2, hy⟩
    rw [hg] at hy
    split at hy
    · exact ⟨i, hi, hi', hy⟩
    · split at hy
      · exact ⟨j, hj, hj', hy⟩
      · exact ⟨k, k1, k2, hy⟩
  · have hs : ∀ k, gI (swp L i j) k = gI L (if k = j then i else if k = i then j else k) := by
      intro k
      rw [hg]
      split
      · rfl
      · split <;> rfl
    have hl := swp_len L i j
    intro u v hu hv he
    rw [hs, hs] at he
    have hk : ∀ k, k < (swp L i j).length → (if k = j then i else if k = i then j else k) < L.length := by
      intro k hk
      split
      · omega
      · split <;> omega
    have key := d _ _ (hk u hu) (hk v hv) he
    revert key
    repeat' split
    all_goals (intro key; omega)
/-- Sorted from a to e. -/
def Srt (L : List Id) (a e : Nat) : Prop := ∀ i j, a ≤ i → i < j → j < e → ah (gI L j) (gI L i) = false
/-- The same, but for the one at j, which may come sooner. -/
def SrtB (L : List Id) (a e j : Nat) : Prop := ∀ u v, a ≤ u → u < v → v < e → v ≠ j → ah (gI L v) (gI L u) = false
theorem SrtB.step {L : List Id} {a e j : Nat} (h : SrtB L a e j) (ha : a < j) (hj : j < e) (he : e ≤ L.length) (hs : ah (gI L j) (gI L (j - 1)) = true) : SrtB (swp L j (j - 1)) a e (j - 1) := by
  have hg := gI_swp (V := L) (show j < L.length by omega) (show j - 1 < L.length by omega)
  intro u v h1 h2 h3 h4
  rw [hg v, if_neg h4, hg u]
  by_cases hv : v = j
  · rw [if_pos hv]
    by_cases hu : u = j - 1
    · rw [if_pos hu]; exact ah_as hs
    · rw [if_neg hu, if_neg (by omega)]
      exact h u (j - 1) h1 (by omega) (by omega) (by omega)
  · rw [if_neg hv]
    by_cases hu : u = j - 1
    · rw [if_pos hu]; exact h j v (by omega) (by omega) h3 hv
    · rw [if_neg hu]
      by_cases hu2 : u = j
      · rw [if_pos hu2]; exact h (j - 1) v (by omega) (by omega) h3 hv
      · rw [if_neg hu2]; exact h u v h1 h2 h3 hv
theorem SrtB.done {L : List Id} {a e j : Nat} (h : SrtB L a e j) (hs : j ≤ a ∨ ah (gI L j) (gI L (j - 1)) = false) : Srt L a e := by
  intro u v h1 h2 h3
  by_cases hv : v = j
  · subst hv
    rcases hs with hs | hs
    · omega
    · by_cases hu : u = v - 1
      · subst hu; exact hs
      · exact ah_tt hs (h u (v - 1) h1 (by omega) (by omega) (by omega))
  · exact h u v h1 h2 h3 hv

abbrev cmpF : AV := .func (.func f_rank_Rank_Ids_1) [] []

theorem dec_v {j : Nat} (h : j < 2 ^ 62) (h0 : 0 < j) : IntKind.i64.wrap (((j : Nat) : Int) - 1) = ((j - 1 : Nat) : Int) := by
  rw [show ((j : Nat) : Int) - 1 = ((j - 1 : Nat) : Int) by omega, wrap_nat (by omega)]

def insE (b N cap a e i j : Nat) (op : Bool) : List (Nat × AV) := [(0, .sl b 0 N cap op), (1, .int .i64 ((a : Nat) : Int)), (2, .int .i64 ((e : Nat) : Int)), (3, cmpF), (8, .int .i64 ((i : Nat) : Int)), (9, .int .i64 ((j : Nat) : Int))]
theorem ins_in {b es N cap a e i : Nat} {op : Bool} {rest : List AV} {B : Nat} {Q : AX → Env → Heap → Prop} (hN : N < 2 ^ 60) (he : e ≤ N) (hi : i < e) :
    ∀ (j : Nat) (h : Heap) (L : List Id), SAt h b es L rest → L.length = N → a ≤ j → j ≤ i → SrtB L a (i + 1) j →
    (∀ (h' : Heap) (L' : List Id) (e' : Env), Tr.get e' 0 = some (.sl b 0 N cap op) → Tr.get e' 1 = some (.int .i64 ((a : Nat) : Int)) → Tr.get e' 2 = some (.int .i64 ((e : Nat) : Int)) → Tr.get e' 3 = some cmpF → Tr.get e' 8 = some (.int .i64 ((i : Nat) : Int)) →
      SAt h' b es L' rest → RS a (i + 1) L L' → Srt L' a (i + 1) → Fr h h' [b] → Q (.exit 2) e' h') →
    VC fs ms B false (.loop L_slices_insertionSortCmpFunc_rank_one_1) (ek 4 (insE b N cap a e i j op)) h Q := by
  intro j
  induction j using Nat.strongRecOn with
  | ind j ih =>
  intro h L hh hL ha hj hs hQ
  refine vc_loop (z := true) ?_
  unfold insE
  set_option smartUnfolding false in conv => whnf
  refine br (fun hc => ?_) (fun hc => ?_) <;> (try rw [hc]) <;> (set_option smartUnfolding false in conv => whnf)
  · have h0 : a < j := by have := of_decide_eq_true hc; omega
    refine ⟨_, idx_slS3 (by omega), ?_⟩
    set_option smartUnfolding false in conv => whnf
    refine ⟨_, hh.one (by omega), ?_⟩
    set_option smartUnfolding false in conv => whnf
    rw [dec_v (by omega) (by omega)]
    refine ⟨_, idx_slS3 (by omega), ?_⟩
    set_option smartUnfolding false in conv => whnf
    refine ⟨_, hh.one (by omega), ?_⟩
    set_option smartUnfolding false in conv => whnf
    refine vd_pure (cmpI_c _ _) ?_
    set_option smartUnfolding false in conv => whnf
    refine br (fun hc => ?_) (fun hc => ?_) <;> (try rw [hc]) <;> (set_option smartUnfolding false in conv => whnf)
    · have hlt : ah (gI L j) (gI L (j - 1)) = true := (cmpI_lt _ _).1 (of_decide_eq_true hc)
      rw [dec_v (by omega) (by omega)]
      refine ⟨_, idx_slS3 (by omega), ?_⟩
      set_option smartUnfolding false in conv => whnf
      refine ⟨_, hh.one (by omega), ?_⟩
      set_option smartUnfolding false in conv => whnf
      refine ⟨_, idx_slS3 (by omega), ?_⟩
      set_option smartUnfolding false in conv => whnf
      refine ⟨_, hh.one (by omega), ?_⟩
      set_option smartUnfolding false in conv => whnf
      refine ⟨_, idx_slS3 (by omega), ?_⟩
      set_option smartUnfolding false in conv => whnf
      refine eff_o (hh.put (by omega) _) fun h1 e1 => ?_
      set_option smartUnfolding false in conv => whnf
      have hh1 : SAt h1 b es (L.set j (gI L (j - 1))) rest := by rw [e1]; exact hh.next
      refine ⟨_, idx_slS3 (by omega), ?_⟩
      set_option smartUnfolding false in conv => whnf
      refine eff_o (hh1.put (by rw [List.length_set]; omega) _) fun h2 e2 => ?_
      set_option smartUnfolding false in conv => whnf
      have hh2 : SAt h2 b es (swp L j (j - 1)) rest := by rw [e2]; exact hh1.next
      have fr : Fr h h2 [b] := by rw [e2, e1]; exact ((Fr.refl h [b]).set (by simp)).set (by simp)
      rw [dec_v (by omega) (by omega)]
      refine vc_slots 4 (insE b N cap a e i (j - 1) op) ⟨rfl, rfl, rfl, rfl, rfl, rfl, trivial⟩ ?_
      refine ih (j - 1) (by omega) h2 _ hh2 (by rw [swp_len]; exact hL) (by omega) (by omega) (hs.step (by omega) (by omega) (by omega) hlt) ?_
      intro h' L' e' g0 g1 g2 g3 g8 k1 k2 k3 k4
      exact hQ h' L' e' g0 g1 g2 g3 g8 k1 ((RS.swap (by omega) (by omega) (by omega) (by omega) (by omega)).trans k2) k3 (fr.trans k4)
    · have hlt : ah (gI L j) (gI L (j - 1)) = false := by
        rw [← Bool.not_eq_true, ← cmpI_lt]
        exact of_decide_eq_false hc
      exact hQ h L _ rfl rfl rfl rfl rfl hh (RS.refl _ _ _) (hs.done (.inr hlt)) (Fr.refl _ _)
  · have h0 : j ≤ a := by have := of_decide_eq_false hc; omega
    exact hQ h L _ rfl rfl rfl rfl rfl hh (RS.refl _ _ _) (hs.done (.inl h0)) (Fr.refl _ _)

theorem ins_out {b es N cap a e : Nat} {op : Bool} {rest : List AV} {B : Nat} {Q : AX → Env → Heap → Prop} (hN : N < 2 ^ 60) (he : e ≤ N) :
    ∀ (k i : Nat) (h : Heap) (L : List Id) (env : Env), e - i = k → SAt h b es L rest → L.length = N → a < i → Srt L a i → (Srt L a (i + 1) → True) →
    Tr.get env 0 = some (.sl b 0 N cap op) → Tr.get env 1 = some (.int .i64 ((a : Nat) : Int)) → Tr.get env 2 = some (.int .i64 ((e : Nat) : Int)) → Tr.get env 3 = some cmpF → Tr.get env 8 = some (.int .i64 ((i : Nat) : Int)) →
    (∀ (h' : Heap) (L' : List Id) (e' : Env), SAt h' b es L' rest → RS a e L L' → Srt L' a e → Fr h h' [b] → Q (.exit 0) e' h') →
    VC fs ms B false (.loop L_slices_insertionSortCmpFunc_rank_one_0) env h Q := by
  intro k
  induction k using Nat.strongRecOn with
  | ind k ih =>
  intro i h L env hk hh hL hai hs _ g0 g1 g2 g3 g8 hQ
  refine vc_slots 4 [(0, .sl b 0 N cap op), (1, .int .i64 ((a : Nat) : Int)), (2, .int .i64 ((e : Nat) : Int)), (3, cmpF), (8, .int .i64 ((i : Nat) : Int))] ⟨g0, g1, g2, g3, g8, trivial⟩ ?_
  refine vc_loopV (vc_seq true ?_)
  set_option smartUnfolding false in conv => whnf
  refine br (fun hc => ?_) (fun hc => ?_) <;> (try rw [hc]) <;> (set_option smartUnfolding false in conv => whnf)
  · have hlt : i < e := by have := of_decide_eq_true hc; omega
    refine vc_seqV (vc_block (vc_seq true ?_))
    set_option smartUnfolding false in conv => whnf
    refine vc_block ?_
    refine vc_slots 4 (insE b N cap a e i i op) ⟨rfl, rfl, rfl, rfl, rfl, rfl, trivial⟩ ?_
    refine ins_in hN he hlt i h L hh hL (by omega) (Nat.le_refl _) (fun u v h1 h2 h3 h4 => hs u v h1 h2 (by omega)) ?_
    intro h' L' e' j0 j1 j2 j3 j8 k1 k2 k3 k4
    show VC fs ms _ _ _ _ _ _
    refine vc_slots 4 [(0, .sl b 0 N cap op), (1, .int .i64 ((a : Nat) : Int)), (2, .int .i64 ((e : Nat) : Int)), (3, cmpF), (8, .int .i64 ((i : Nat) : Int))] ⟨j0, j1, j2, j3, j8, trivial⟩ (vpC_sound (z := true) ?_)
    set_option smartUnfolding false in conv => whnf
    have hl := k2.len
    refine ih (e - (i + 1)) (by omega) (i + 1) h' L' _ rfl k1 (by omega) (by omega) k3 (fun _ => trivial) rfl rfl rfl rfl (inc_slot (by omega)) ?_
    intro h2 L2 e2 m1 m2 m3 m4
    exact hQ h2 L2 e2 m1 ((k2.wide (Nat.le_refl _) (by omega)).trans m2) m3 (k4.trans m4)
  · have hge : e ≤ i := by have := of_decide_eq_false hc; omega
    exact hQ h L _ hh (RS.refl _ _ _) (fun u v h1 h2 h3 => hs u v h1 h2 (by omega)) (Fr.refl _ _)

theorem ins_o {h : Heap} {b es cap a e : Nat} {op : Bool} {L : List Id} {rest : List AV} (hh : SAt h b es L rest) (hN : L.length < 2 ^ 60) (ha : a ≤ e) (he : e ≤ L.length) {Q : AV → Heap → Prop}
    (hQ : ∀ h' L', SAt h' b es L' rest → RS a e L L' → Srt L' a e → Fr h h' [b] → Q (.tup []) h') :
    VD fs ms f_slices_insertionSortCmpFunc_rank_one [.sl b 0 L.length cap op, .int .i64 ((a : Nat) : Int), .int .i64 ((e : Nat) : Int), cmpF] h Q := by
  refine vd_begin (af := C_slices_insertionSortCmpFunc_rank_one) rfl (Nat.le_of_ble_eq_true rfl) ?_
  set_option smartUnfolding false in conv => whnf
  refine vc_seq true ?_
  set_option smartUnfolding false in conv => whnf
  refine vc_block ?_
  refine ins_out hN he _ (a + 1) h L _ rfl hh rfl (by omega) (fun u v h1 h2 h3 => by omega) (fun _ => trivial) rfl rfl rfl rfl (inc_slot (by omega)) ?_
  intro h' L' e' k1 k2 k3 k4
  show Q (.tup []) h'
  exact hQ h' L' k1 k2 k3 k4
end Ir
end Go.Proofs.Ytenafeojcgmnhaa
