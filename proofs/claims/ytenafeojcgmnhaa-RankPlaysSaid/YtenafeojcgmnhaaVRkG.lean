/-
  Rank: the document's rank, what changes it.
-/
import Derived.Test.YtenafeojcgmnhaaVRkF
set_option maxRecDepth 100000
set_option linter.unusedSimpArgs false
set_option linter.unusedVariables false
namespace Go.Proofs.Ytenafeojcgmnhaa
open Go Ads
namespace Ir

def noId (id : Int) (L : List Id) : List Id := L.filter fun y => decide (((y.1 : Nat) : Int) ≠ id)
theorem noId_take {L : List Id} {id : Int} {i : Nat} (h : i < L.length) : noId id (L.take (i + 1)) = noId id (L.take i) ++ (if ((gI L i).1 : Int) ≠ id then [gI L i] else []) := by
  rw [List.take_succ_eq_append_getElem h, gI_eq h, noId, List.filter_append]
  congr 1
  by_cases hc : ((L[i].1 : Nat) : Int) ≠ id
  · rw [if_pos hc]; simp [hc]
  · rw [if_neg hc]; simp at hc; simp [hc]
theorem noId_len (id : Int) (L : List Id) : (noId id L).length ≤ L.length := List.length_filter_le ..

theorem mrem_l {h0 : Heap} {m : Nat} {S : List Nat} {L : List Id} (hr0 : MR h0 m S L) (hl : L.length ≤ 64) (id : Int) {B : Nat} {Q : AX → Env → Heap → Prop}
    (hQ : ∀ h' v' e', Fr h0 h' [] → GR h0.next h' v' (noId id L) → AllAt e' [(0, .ptr m 0), (5, v')] → Q (.exit 0) e' h') :
    ∀ (n i : Nat) (h : Heap) (v' : AV) (env : Env), L.length - i = n → i ≤ L.length → Fr h0 h [] → GR h0.next h v' (noId id (L.take i)) → AllAt env [(0, .ptr m 0), (1, .int .i64 id), (5, v'), (6, .int .i64 ((i : Nat) : Int))] →
    VC fs ms B false (.loop L_escapementref02_Rank_Remove_0) env h Q := by
  intro n
  induction n using Nat.strongRecOn with
  | ind n ih =>
  intro i h v' env hn hi fr hg henv
  obtain ⟨v, g1, g2, _, _⟩ := (hr0.keep fr (by simp)).ex
  have rd := g2.rd
  refine vc_slots 4 _ henv ?_
  refine vc_loop (z := true) ?_
  set_option smartUnfolding false in conv => whnf
  refine ⟨_, ld1 g1 rfl, ?_⟩
  set_option smartUnfolding false in conv => whnf
  refine op_some rd.len ?_
  set_option smartUnfolding false in conv => whnf
  refine br (fun hc => ?_) (fun hc => ?_) <;> (try rw [hc]) <;> (set_option smartUnfolding false in conv => whnf)
  · have hlt : i < L.length := by have := of_decide_eq_true hc; omega
    obtain ⟨b, p1, p2, p3, p4⟩ := rd.get i hlt
    refine ⟨_, ld1 g1 rfl, ?_⟩
    set_option smartUnfolding false in conv => whnf
    refine ⟨_, p1, ?_⟩
    set_option smartUnfolding false in conv => whnf
    refine ⟨_, p2, ?_⟩
    set_option smartUnfolding false in conv => whnf
    have hst := noId_take (id := id) hlt
    cases he : ((((gI L i).1 : Nat) : Int) != id) with
    | true =>
      have hne : ((gI L i).1 : Int) ≠ id := by simpa using he
      rw [if_pos hne] at hst
      set_option smartUnfolding false in conv => whnf
      refine ⟨_, ld1 g1 rfl, ?_⟩
      set_option smartUnfolding false in conv => whnf
      refine ⟨_, p1, ?_⟩
      set_option smartUnfolding false in conv => whnf
      refine ⟨_, p4, ?_⟩
      set_option smartUnfolding false in conv => whnf
      obtain ⟨v2, g', a1, a2, a3, a4⟩ := hg.app fr.next (by have := noId_len id (L.take i); rw [List.length_take] at this; omega) (gI L i)
      refine eff_o a1 fun h2 e2 => ?_
      subst e2
      set_option smartUnfolding false in conv => whnf
      refine ih (L.length - (i + 1)) (by omega) (i + 1) h2 v2 _ rfl (by omega) ⟨by have := fr.next; omega, fun c hc _ => by rw [a4 c hc]; exact fr.keep c hc (by simp)⟩ (by rw [hst]; exact a2) (by repeat' (first | exact trivial | refine And.intro (by first | with_reducible_and_instances rfl | (refine Eq.trans (b := some (AV.int .i64 _)) rfl (congrArg (fun z => some (AV.int .i64 z)) ?_); first | omega | (simp (disch := omega) only [IntWalk.i64_in] <;> omega)) | rfl) ?_))
    | false =>
      have hne : ¬ ((gI L i).1 : Int) ≠ id := by simpa using he
      rw [if_neg hne, List.append_nil] at hst
      set_option smartUnfolding false in conv => whnf
      exact ih (L.length - (i + 1)) (by omega) (i + 1) h v' _ rfl (by omega) fr (by rw [hst]; exact hg) (by repeat' (first | exact trivial | refine And.intro (by first | with_reducible_and_instances rfl | (refine Eq.trans (b := some (AV.int .i64 _)) rfl (congrArg (fun z => some (AV.int .i64 z)) ?_); first | omega | (simp (disch := omega) only [IntWalk.i64_in] <;> omega)) | rfl) ?_))
  · have hge : i = L.length := by have := of_decide_eq_false hc; omega
    subst hge
    rw [List.take_length] at hg
    exact hQ h v' _ fr hg (by repeat' (first | exact trivial | refine And.intro (by first | with_reducible_and_instances rfl | (refine Eq.trans (b := some (AV.int .i64 _)) rfl (congrArg (fun z => some (AV.int .i64 z)) ?_); first | omega | (simp (disch := omega) only [IntWalk.i64_in] <;> omega)) | rfl) ?_))
theorem mrem_o {h : Heap} {m : Nat} {S : List Nat} {L : List Id} (hr : MR h m S L) (hl : L.length ≤ 64) (id : Int) {Q : AV → Heap → Prop}
    (hQ : ∀ h' S', MR h' m S' (noId id L) → Own h h' S S' → Q (.bool (decide (((noId id L).length : Int) < ((L.length : Nat) : Int)))) h') : VD fs ms f_escapementref02_Rank_Remove [.ptr m 0, .int .i64 id] h Q := by
  refine vd_begin (af := C_escapementref02_Rank_Remove) rfl (Nat.le_of_ble_eq_true rfl) ?_
  set_option smartUnfolding false in conv => whnf
  refine vc_seq true ?_
  set_option smartUnfolding false in conv => whnf
  refine vc_seq true ?_
  set_option smartUnfolding false in conv => whnf
  refine vc_seqV (vc_seq true ?_)
  set_option smartUnfolding false in conv => whnf
  refine vc_block ?_
  refine mrem_l hr hl id ?_ _ 0 h .nils _ rfl (Nat.zero_le _) (Fr.refl _ _) (.inl ⟨rfl, rfl⟩) (by repeat' (first | exact trivial | refine And.intro (by first | with_reducible_and_instances rfl | (refine Eq.trans (b := some (AV.int .i64 _)) rfl (congrArg (fun z => some (AV.int .i64 z)) ?_); first | omega | (simp (disch := omega) only [IntWalk.i64_in] <;> omega)) | rfl) ?_))
  intro h1 v1 e1 fr hg he
  show VC fs ms _ _ _ _ _ _
  obtain ⟨v, g1, g2, _, _⟩ := (hr.keep fr (by simp)).ex
  refine vc_slots 4 _ he (vpC_sound (z := true) ?_)
  set_option smartUnfolding false in conv => whnf
  refine op_some hg.rd.len ?_
  set_option smartUnfolding false in conv => whnf
  refine ⟨_, ld1 g1 rfl, ?_⟩
  set_option smartUnfolding false in conv => whnf
  refine op_some g2.rd.len ?_
  set_option smartUnfolding false in conv => whnf
  have hlm := hr.lm
  refine eff_o (sto_o (n := 1) (v := v1) g1 ?_ ?_ ?_) fun h2 e2 => ?_
  · rcases hg with ⟨_, rfl⟩ | ⟨b, _, _, rfl, _⟩ <;> rfl
  · simp
  · rcases hg with ⟨_, rfl⟩ | ⟨b, _, _, rfl, _⟩ <;> rfl
  set_option smartUnfolding false in conv => whnf
  have hm1 : m ∉ blk v1 := fun hm => by have := hg.own m hm; omega
  have hS : m ∈ S := by obtain ⟨v0, _, _, rfl, _⟩ := hr.ex; simp
  have fr2 : Fr h1 h2 [m] := by rw [e2]; exact (Fr.refl h1 [m]).set (by simp)
  refine hQ h2 (m :: blk v1) ⟨by have := fr2.next; have := fr.next; omega, v1, ?_, (hg.kp fr2 fun b hb => ?_).low, rfl, hm1⟩ ⟨⟨by have := fr2.next; have := fr.next; omega, fun c hc hn => ?_⟩, fun b hb => ?_⟩
  · rw [e2, get_set_same]
    rcases hg with ⟨_, rfl⟩ | ⟨b, _, _, rfl, _⟩ <;> rfl
  · simp
    rintro rfl
    exact hm1 hb
  · rw [fr2.keep c (Nat.lt_of_lt_of_le hc fr.next) (by simp; rintro rfl; exact hn hS), fr.keep c hc (by simp)]
  · rcases List.mem_cons.1 hb with rfl | hb
    · exact .inl hS
    · exact .inr (hg.own b hb).1

abbrev Pw (L : List Id) : Prop := L.Pairwise (fun x y => ah x y = true)
theorem ins_pw {L : List Id} {x : Id} {k : Nat} (hk : k ≤ L.length) (hp : Pw L) (h1 : ∀ j, j < k → ah (gI L j) x = true) (h2 : k < L.length → ah (gI L k) x = false) (hx : ∀ y ∈ L, y.1 ≠ x.1) : Pw (L.take k ++ x :: L.drop k) ∧ ∀ y, y ∈ L.take k ++ x :: L.drop k ↔ y ∈ L ∨ y = x := by
  have e := List.take_append_drop k L
  have hp2 : Pw (L.take k ++ L.drop k) := by rw [e]; exact hp
  rw [Pw, List.pairwise_append] at hp2
  obtain ⟨pa, pb, pc⟩ := hp2
  have t1 : ∀ y ∈ L.take k, ah y x = true := by
    intro y hy
    obtain ⟨j, hj, rfl⟩ := List.mem_iff_getElem.1 hy
    rw [List.length_take] at hj
    have := h1 j (by omega)
    rw [gI_eq (by omega)] at this
    simpa using this
  have t2 : ∀ y ∈ L.drop k, ah x y = true := by
    intro y hy
    have hlen : k < L.length := by
      rcases Nat.lt_or_ge k L.length with c | c
      · exact c
      · rw [List.drop_eq_nil_of_le c] at hy; cases hy
    have hyL : y ∈ L := List.mem_of_mem_drop hy
    have hk' := h2 hlen
    refine ah_tot (hx y hyL) ?_
    obtain ⟨j, hj, rfl⟩ := List.mem_iff_getElem.1 hy
    rw [List.length_drop] at hj
    rw [List.getElem_drop]
    rcases Nat.eq_zero_or_pos j with rfl | h0
    · rw [gI_eq hlen] at hk'; simpa using hk'
    · have := (List.pairwise_iff_getElem.1 hp) k (k + j) hlen (by omega) (by omega)
      rw [gI_eq hlen] at hk'
      exact ah_tt (ah_as this) hk'
  refine ⟨?_, fun y => ?_⟩
  · rw [Pw, List.pairwise_append, List.pairwise_cons]
    refine ⟨pa, ⟨t2, pb⟩, fun y hy z hz => ?_⟩
    rcases List.mem_cons.1 hz with rfl | hz
    · exact t1 y hy
    · exact pc y hy z hz
  · conv => rhs; rw [← e]
    simp only [List.mem_append, List.mem_cons]
    constructor
    · rintro (h | h | h)
      · exact .inl (.inl h)
      · exact .inr h
      · exact .inl (.inr h)
    · rintro ((h | h) | h)
      · exact .inl h
      · exact .inr (.inr h)
      · exact .inr (.inl h)

theorem dput_l {h0 : Heap} {m s : Nat} {S : List Nat} {L : List Id} {x : Id} (hr0 : MR h0 m S L) (hl : L.length ≤ 64) (hs : h0.get s = some (.cells (ob x).cells true 0)) (hsl : s < h0.next) {B : Nat} {Q : AX → Env → Heap → Prop}
    (hQ : ∀ h' v' k e', k ≤ L.length → (∀ j, j < k → ah (gI L j) x = true) → (k < L.length → ah (gI L k) x = false) → Fr h0 h' [] → GR h0.next h' v' (L.take k) → AllAt e' [(0, .ptr m 0), (3, .ptr s 0), (4, v'), (5, .int .i64 ((k : Nat) : Int))] → Q (.exit 0) e' h') :
    ∀ (n k : Nat) (h : Heap) (v' : AV) (env : Env), L.length - k = n → k ≤ L.length → (∀ j, j < k → ah (gI L j) x = true) → Fr h0 h [] → GR h0.next h v' (L.take k) → AllAt env [(0, .ptr m 0), (3, .ptr s 0), (4, v'), (5, .int .i64 ((k : Nat) : Int))] →
    VC fs ms B false (.loop L_escapementref02_Rank_put_0) env h Q := by
  intro n
  induction n using Nat.strongRecOn with
  | ind n ih =>
  intro k h v' env hn hk ha fr hg henv
  obtain ⟨v, g1, g2, _, _⟩ := (hr0.keep fr (by simp)).ex
  have hs1 : h.get s = some (.cells [.int .i64 (x.1 : Nat), .int .i64 x.2] true 0) := by rw [fr.keep s hsl (by simp)]; exact hs
  have rd := g2.rd
  refine vc_slots 4 _ henv ?_
  refine vc_loopV (vc_seqV ?_)
  refine VC.mono (Q := fun y e2 h2 => h2 = h ∧ ((y = .exit 0 ∧ (k < L.length → ah (gI L k) x = false) ∧ AllAt e2 [(0, .ptr m 0), (3, .ptr s 0), (4, v'), (5, .int .i64 ((k : Nat) : Int))]) ∨ (y = .normal ∧ k < L.length ∧ ah (gI L k) x = true ∧ AllAt e2 [(0, .ptr m 0), (3, .ptr s 0), (4, v'), (5, .int .i64 ((k : Nat) : Int))]))) ?_ ?_
  · refine vpC_sound (z := true) ?_
    set_option smartUnfolding false in conv => whnf
    refine ⟨_, ld1 g1 rfl, ?_⟩
    set_option smartUnfolding false in conv => whnf
    refine op_some rd.len ?_
    set_option smartUnfolding false in conv => whnf
    refine br (fun hc => ?_) (fun hc => ?_) <;> (try rw [hc]) <;> (set_option smartUnfolding false in conv => whnf)
    · have hlt : k < L.length := by have := of_decide_eq_true hc; omega
      obtain ⟨b, p1, p2, p3, p4⟩ := rd.get k hlt
      refine ⟨_, ld1 g1 rfl, ?_⟩
      set_option smartUnfolding false in conv => whnf
      refine ⟨_, p1, ?_⟩
      set_option smartUnfolding false in conv => whnf
      refine ⟨_, p3, ?_⟩
      set_option smartUnfolding false in conv => whnf
      refine ⟨_, ld1 hs1 rfl, ?_⟩
      set_option smartUnfolding false in conv => whnf
      refine br (fun hc => ?_) (fun hc => ?_) <;> (try rw [hc]) <;> (set_option smartUnfolding false in conv => whnf)
      · have h1 : (gI L k).2 < x.2 := of_decide_eq_true hc
        exact ⟨rfl, .inr ⟨rfl, hlt, by rw [ah_iff]; exact .inl h1, rfl, rfl, rfl, rfl, trivial⟩⟩
      · have h1 : ¬ (gI L k).2 < x.2 := of_decide_eq_false hc
        refine ⟨_, ld1 g1 rfl, ?_⟩
        set_option smartUnfolding false in conv => whnf
        refine ⟨_, p1, ?_⟩
        set_option smartUnfolding false in conv => whnf
        refine ⟨_, p3, ?_⟩
        set_option smartUnfolding false in conv => whnf
        refine ⟨_, ld1 hs1 rfl, ?_⟩
        set_option smartUnfolding false in conv => whnf
        cases he : ((gI L k).2 == x.2) with
        | false =>
          have h2 : ¬ (gI L k).2 = x.2 := by simpa using he
          set_option smartUnfolding false in conv => whnf
          exact ⟨rfl, .inl ⟨rfl, fun _ => by rw [← Bool.not_eq_true, ah_iff]; omega, rfl, rfl, rfl, rfl, trivial⟩⟩
        | true =>
          have h2 : (gI L k).2 = x.2 := by simpa using he
          set_option smartUnfolding false in conv => whnf
          refine ⟨_, ld1 g1 rfl, ?_⟩
          set_option smartUnfolding false in conv => whnf
          refine ⟨_, p1, ?_⟩
          set_option smartUnfolding false in conv => whnf
          refine ⟨_, p2, ?_⟩
          set_option smartUnfolding false in conv => whnf
          refine ⟨_, ld1 hs1 rfl, ?_⟩
          set_option smartUnfolding false in conv => whnf
          refine br (fun hc => ?_) (fun hc => ?_) <;> (try rw [hc]) <;> (set_option smartUnfolding false in conv => whnf)
          · have h3 := of_decide_eq_true hc
            exact ⟨rfl, .inr ⟨rfl, hlt, by rw [ah_iff]; omega, rfl, rfl, rfl, rfl, trivial⟩⟩
          · have h3 := of_decide_eq_false hc
            exact ⟨rfl, .inl ⟨rfl, fun _ => by rw [← Bool.not_eq_true, ah_iff]; omega, rfl, rfl, rfl, rfl, trivial⟩⟩
    · have hge : ¬ k < L.length := by have := of_decide_eq_false hc; omega
      exact ⟨rfl, .inl ⟨rfl, fun h => absurd h hge, rfl, rfl, rfl, rfl, trivial⟩⟩
  · rintro y e2 h2 ⟨rfl, (⟨rfl, hn, he⟩ | ⟨rfl, hlt, hah, he⟩)⟩
    · exact hQ h2 v' k e2 hk ha hn fr hg he
    · show VC fs ms _ _ _ _ _ _
      obtain ⟨b, p1, p2, p3, p4⟩ := rd.get k hlt
      refine vc_slots 4 _ he (vpC_sound (z := true) ?_)
      set_option smartUnfolding false in conv => whnf
      refine ⟨_, ld1 g1 rfl, ?_⟩
      set_option smartUnfolding false in conv => whnf
      refine ⟨_, p1, ?_⟩
      set_option smartUnfolding false in conv => whnf
      refine ⟨_, p4, ?_⟩
      set_option smartUnfolding false in conv => whnf
      obtain ⟨v2, g', a1, a2, a3, a4⟩ := hg.app fr.next (by rw [List.length_take]; omega) (gI L k)
      refine eff_o a1 fun h3 e3 => ?_
      subst e3
      set_option smartUnfolding false in conv => whnf
      refine ih (L.length - (k + 1)) (by omega) (k + 1) h3 v2 _ rfl (by omega) (fun j hj => ?_) ⟨by have := fr.next; omega, fun c hc _ => by rw [a4 c hc]; exact fr.keep c hc (by simp)⟩ ?_ (by repeat' (first | exact trivial | refine And.intro (by first | with_reducible_and_instances rfl | (refine Eq.trans (b := some (AV.int .i64 _)) rfl (congrArg (fun z => some (AV.int .i64 z)) ?_); first | omega | (simp (disch := omega) only [IntWalk.i64_in] <;> omega)) | rfl) ?_))
      · by_cases e : j = k
        · subst e; exact hah
        · exact ha j (by omega)
      · rw [List.take_succ_eq_append_getElem hlt, ← gI_eq hlt]; exact a2

theorem dput_o {h : Heap} {m : Nat} {S : List Nat} {L : List Id} {x : Id} (hr : MR h m S L) (hl : L.length ≤ 64) (hp : Pw L) (hx : ∀ y ∈ L, y.1 ≠ x.1) {Q : AV → Heap → Prop}
    (hQ : ∀ h' S' L', MR h' m S' L' → Pw L' → (∀ y, y ∈ L' ↔ y ∈ L ∨ y = x) → Own h h' S S' → Q (.tup []) h') : VD fs ms f_escapementref02_Rank_put [.ptr m 0, ob x] h Q := by
  refine vd_begin (af := C_escapementref02_Rank_put) rfl (Nat.le_of_ble_eq_true rfl) ?_
  set_option smartUnfolding false in conv => whnf
  refine vc_seq true ?_
  set_option smartUnfolding false in conv => whnf
  have fr0 : Fr h (h.new (.cells (ob x).cells true 0)) [] := (Fr.refl h []).new
  have gs : (h.new (.cells (ob x).cells true 0)).get h.next = some (.cells (ob x).cells true 0) := get_new_same
  have hls : h.next < (h.new (.cells (ob x).cells true 0)).next := Nat.lt_succ_self _
  have hr1 := hr.keep fr0 (by simp)
  obtain ⟨h1, e1⟩ : ∃ h1, h1 = h.new (.cells (ob x).cells true 0) := ⟨_, rfl⟩
  rw [← e1] at fr0 gs hls hr1
  change VC fs ms _ _ _ _ (h.new (.cells (ob x).cells true 0)) _
  rw [← e1]
  clear e1
  refine vc_seq true ?_
  set_option smartUnfolding false in conv => whnf
  refine vc_seq true ?_
  set_option smartUnfolding false in conv => whnf
  refine vc_seqV (vc_block ?_)
  refine dput_l (x := x) hr1 hl gs hls ?_ _ 0 h1 .nils _ rfl (Nat.zero_le _) (fun j hj => by omega) (Fr.refl _ _) (.inl ⟨rfl, rfl⟩) (by repeat' (first | exact trivial | refine And.intro (by first | with_reducible_and_instances rfl | (refine Eq.trans (b := some (AV.int .i64 _)) rfl (congrArg (fun z => some (AV.int .i64 z)) ?_); first | omega | (simp (disch := omega) only [IntWalk.i64_in] <;> omega)) | rfl) ?_))
  intro h2 v2 k e2 k1 k2 k3 fr2 g2 he2
  show VC fs ms _ _ _ _ _ _
  obtain ⟨q1, q2⟩ := ins_pw k1 hp k2 k3 hx
  have hr2 := hr1.keep fr2 (by simp)
  obtain ⟨v, gm, gv, hS, hmv⟩ := hr2.ex
  have hs2 : h2.get h.next = some (.cells [.int .i64 (x.1 : Nat), .int .i64 x.2] true 0) := by rw [fr2.keep _ hls (by simp)]; exact gs
  obtain ⟨v3, h3, a1, a2, a3, a4⟩ := g2.app fr2.next (by rw [List.length_take]; omega) x
  refine vc_slots 4 _ he2 (vc_seq true ?_)
  set_option smartUnfolding false in conv => whnf
  refine ⟨_, (show rV (.loadN 2) [.ptr h.next 0] h2 = some (ob x) from (ldN hs2 (o := 0) (n := 2) (by simp)).trans rfl), ?_⟩
  set_option smartUnfolding false in conv => whnf
  refine eff_o a1 fun h3' e3 => ?_
  subst e3
  set_option smartUnfolding false in conv => whnf
  have fr3 : Fr h1 h3' [] := ⟨by have := fr2.next; omega, fun c hc _ => by rw [a4 c hc]; exact fr2.keep c hc (by simp)⟩
  have hr3 := hr1.keep fr3 (by simp)
  obtain ⟨v0, gm3, gv3, hS3, hmv3⟩ := hr3.ex
  refine vpC_sound (z := true) ?_
  set_option smartUnfolding false in conv => whnf
  refine ⟨_, ld1 gm3 rfl, ?_⟩
  set_option smartUnfolding false in conv => whnf
  obtain ⟨w, w1, w2⟩ := gv3.rd.suf k k1
  refine ⟨_, w1, ?_⟩
  set_option smartUnfolding false in conv => whnf
  have hsrc := w2 h3' fun _ _ => rfl
  have hlm1 := hr1.lm
  have happ : ∃ v4 h4, eV (.append 2 16) [v3, w] h3' = some (v4, h4) ∧ GR h1.next h4 v4 (L.take k ++ x :: L.drop k) ∧ Fr h1 h4 [] := by
    have hol : (L.take k ++ [x]).length = k + 1 := by rw [List.length_append, List.length_take]; simp; omega
    rcases a2 with ⟨e, _⟩ | ⟨b, b1, b2, b3, b4⟩
    · simp at e
    · subst b3
      rcases Nat.lt_or_ge k L.length with c | c
      · obtain ⟨n, hn⟩ : ∃ n, L.length - k = n + 1 := ⟨L.length - k - 1, by omega⟩
        rw [hn] at hsrc
        refine ⟨_, _, app_fullN b4 (oc_len _) hsrc (flat_oc _) (by omega) (by omega), .inr ⟨h3'.next, by have := fr3.next; omega, Nat.lt_succ_self _, ?_, ?_⟩, ⟨by show h1.next ≤ h3'.next + 1; have := fr3.next; omega, fun c hc _ => ?_⟩⟩
        · rw [hol]
          have : (L.take k ++ x :: L.drop k).length = k + 1 + (n + 1) := by rw [List.length_append, List.length_take, List.length_cons, List.length_drop]; omega
          rw [this]
        · have := get_new_same (h := h3'.del b) (x := .cells (oc (L.take k ++ [x]) ++ oc (L.drop k)) true 2)
          rw [show (h3'.del b).next = h3'.next from rfl] at this
          rw [this, ← oc_app, List.append_assoc]
          rfl
        · have hne : c ≠ b := by omega
          exact (get_new_ne (h := h3'.del b) (show c < h3'.next by have := fr3.next; omega)).trans ((get_del_ne hne).trans (fr3.keep c hc (by simp)))
      · have : L.length - k = 0 := by omega
        rw [this] at hsrc
        have hd : L.drop k = [] := List.drop_eq_nil_of_le c
        refine ⟨_, _, app_zero hsrc (flat_oc _), ?_, fr3⟩
        rw [hd]
        exact .inr ⟨b, b1, b2, rfl, b4⟩
  obtain ⟨v4, h4, c1, c2, c3⟩ := happ
  refine eff_o c1 fun h4' e4 => ?_
  subst e4
  set_option smartUnfolding false in conv => whnf
  have gm4 : h4'.get m = some (.cells [v0] true 0) := by rw [c3.keep m hlm1 (by simp), ← fr3.keep m hlm1 (by simp)]; exact gm3
  refine eff_o (sto_o (n := 1) (v := v4) gm4 ?_ ?_ ?_) fun h5 e5 => ?_
  · rcases c2 with ⟨_, rfl⟩ | ⟨b, _, _, rfl, _⟩ <;> rfl
  · simp
  · rcases c2 with ⟨_, rfl⟩ | ⟨b, _, _, rfl, _⟩ <;> rfl
  set_option smartUnfolding false in conv => whnf
  have hm1 : m ∉ blk v4 := fun hm => by have := c2.own m hm; omega
  have hmS : m ∈ S := by obtain ⟨v0, _, _, rfl, _⟩ := hr.ex; simp
  have fr5 : Fr h4' h5 [m] := by rw [e5]; exact (Fr.refl h4' [m]).set (by simp)
  have n1 := fr0.next
  have n2 := c3.next
  have n3 := fr5.next
  have n4 := hr.lm
  refine hQ h5 (m :: blk v4) _ ⟨by omega, v4, ?_, (c2.kp fr5 fun b hb => ?_).low, rfl, hm1⟩ q1 q2 ⟨⟨by omega, fun c hc hn => ?_⟩, fun b hb => ?_⟩
  · rw [e5, get_set_same]
    rcases c2 with ⟨_, rfl⟩ | ⟨b, _, _, rfl, _⟩ <;> rfl
  · simp
    rintro rfl
    exact hm1 hb
  · rw [fr5.keep c (by omega) (by simp; rintro rfl; exact hn hmS), c3.keep c (by omega) (by simp), fr0.keep c hc (by simp)]
  · rcases List.mem_cons.1 hb with rfl | hb
    · exact .inl hmS
    · have := (c2.own b hb).1
      exact .inr (by omega)
end Ir
end Go.Proofs.Ytenafeojcgmnhaa
