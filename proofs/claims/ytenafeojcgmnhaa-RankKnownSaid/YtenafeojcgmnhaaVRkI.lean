/-
  Rank: step, same; the contract of RankPlays.
-/
import Derived.Test.YtenafeojcgmnhaaVRkR
import Derived.Test.YtenafeojcgmnhaaVRkT
set_option maxRecDepth 100000
set_option linter.unusedSimpArgs false
set_option linter.unusedVariables false
namespace Go.Proofs.Ytenafeojcgmnhaa
open Go Ads
namespace Ir

theorem step02_o {h : Heap} {k p m : Nat} {S T : List Nat} {L M : List Id} (H : BR h k p S L m T M) (d : Rd3) {Q : AV → Heap → Prop} (hQ : ∀ h' S' L' T' M', BR h' k p S' L' m T' M' → Q (.bool true) h') :
    VD fs ms f_escapementlaw02_step [.ptr k 0, .ptr m 0, rdv d] h Q := by
  obtain ⟨kd, id, key⟩ := d
  refine vd_begin (af := C_escapementlaw02_step) rfl (Nat.le_of_ble_eq_true rfl) ?_
  set_option smartUnfolding false in conv => whnf
  refine vc_seq true ?_
  set_option smartUnfolding false in conv => whnf
  have fr0 : Fr h (h.new (.cells (rdv (kd, id, key)).cells true 0)) [] := (Fr.refl h []).new
  have gs : (h.new (.cells (rdv (kd, id, key)).cells true 0)).get h.next = some (.cells [.int .i64 kd, .int .i64 id, .int .i64 key] true 0) := get_new_same
  have hls : h.next < (h.new (.cells (rdv (kd, id, key)).cells true 0)).next := Nat.lt_succ_self _
  have H1 := H.keep fr0
  have nS : h.next ∉ S := fun hm => by obtain ⟨P, hr⟩ := H.ra; have := hr.own.2.2 _ hm; omega
  have nT : h.next ∉ T := fun hm => by have := H.rm.own _ hm; omega
  obtain ⟨h1, e1⟩ : ∃ h1, h1 = h.new (.cells (rdv (kd, id, key)).cells true 0) := ⟨_, rfl⟩
  rw [← e1] at fr0 gs hls H1
  change VC fs ms _ _ _ _ (h.new (.cells (rdv (kd, id, key)).cells true 0)) _
  rw [← e1]
  clear e1
  refine vc_seqV (vc_seq true ?_)
  set_option smartUnfolding false in conv => whnf
  refine ⟨_, ld1 gs rfl, ?_⟩
  set_option smartUnfolding false in conv => whnf
  refine vd_pure (bring_c kd 4 (by omega) (by omega)) ?_
  set_option smartUnfolding false in conv => whnf
  generalize bring kd 4 = r
  refine vpC_sound (z := true) ?_
  set_option smartUnfolding false in conv => whnf
  refine br (fun hc => ?_) (fun hc => ?_) <;> (try rw [hc]) <;> (set_option smartUnfolding false in conv => whnf)
  · refine ⟨_, ld1 gs rfl, ?_⟩
    set_option smartUnfolding false in conv => whnf
    refine ⟨_, ld1 gs rfl, ?_⟩
    set_option smartUnfolding false in conv => whnf
    obtain ⟨e, he⟩ := H1.put id key
    refine he fun h2 S2 o2 k2 => ?_
    have gs2 : h2.get h.next = some (.cells [.int .i64 kd, .int .i64 id, .int .i64 key] true 0) := by rw [o2.fr.keep _ hls nS]; exact gs
    set_option smartUnfolding false in conv => whnf
    refine ⟨_, ld1 gs2 rfl, ?_⟩
    set_option smartUnfolding false in conv => whnf
    refine ⟨_, ld1 gs2 rfl, ?_⟩
    set_option smartUnfolding false in conv => whnf
    refine k2 fun h3 L3 T3 M3 H3 f3 => ?_
    set_option smartUnfolding false in conv => whnf
    refine ⟨winOk_of (by (set_option smartUnfolding false in conv => whnf); repeat' (first | exact trivial | (exact ⟨rfl, rfl, .inr ⟨_, _, rfl⟩⟩) | (refine ⟨rfl, rfl, .inl ⟨rfl, fun o ho => ?_⟩⟩; cases ho; first | rfl | (exact ld1 gs rfl) | (exact ld1 gs2 rfl)) | (exact ⟨rfl, .inr ⟨_, _, rfl⟩⟩) | (refine ⟨rfl, .inl ⟨rfl, fun i o hi ho => ?_⟩⟩; cases hi; cases ho; first | rfl | (exact ld1 gs rfl) | (exact ld1 gs2 rfl)) | (refine And.intro (fun _ => ?_) ?_ <;> set_option smartUnfolding false in conv => whnf) | (refine And.intro ?_ ?_ <;> set_option smartUnfolding false in conv => whnf))), ?_⟩
    rw [show (e == e) = true by simp]
    exact hQ h3 _ _ _ _ H3
  · refine br (fun hc => ?_) (fun hc => ?_) <;> (try rw [hc]) <;> (set_option smartUnfolding false in conv => whnf)
    · refine ⟨_, ld1 gs rfl, ?_⟩
      set_option smartUnfolding false in conv => whnf
      refine ⟨_, ld1 gs rfl, ?_⟩
      set_option smartUnfolding false in conv => whnf
      obtain ⟨e, he⟩ := H1.lower id key
      refine he fun h2 S2 o2 k2 => ?_
      have gs2 : h2.get h.next = some (.cells [.int .i64 kd, .int .i64 id, .int .i64 key] true 0) := by rw [o2.fr.keep _ hls nS]; exact gs
      set_option smartUnfolding false in conv => whnf
      refine ⟨_, ld1 gs2 rfl, ?_⟩
      set_option smartUnfolding false in conv => whnf
      refine ⟨_, ld1 gs2 rfl, ?_⟩
      set_option smartUnfolding false in conv => whnf
      refine k2 fun h3 L3 T3 M3 H3 f3 => ?_
      set_option smartUnfolding false in conv => whnf
      refine ⟨winOk_of (by (set_option smartUnfolding false in conv => whnf); repeat' (first | exact trivial | (exact ⟨rfl, rfl, .inr ⟨_, _, rfl⟩⟩) | (refine ⟨rfl, rfl, .inl ⟨rfl, fun o ho => ?_⟩⟩; cases ho; first | rfl | (exact ld1 gs rfl) | (exact ld1 gs2 rfl)) | (exact ⟨rfl, .inr ⟨_, _, rfl⟩⟩) | (refine ⟨rfl, .inl ⟨rfl, fun i o hi ho => ?_⟩⟩; cases hi; cases ho; first | rfl | (exact ld1 gs rfl) | (exact ld1 gs2 rfl)) | (refine And.intro (fun _ => ?_) ?_ <;> set_option smartUnfolding false in conv => whnf) | (refine And.intro ?_ ?_ <;> set_option smartUnfolding false in conv => whnf))), ?_⟩
      rw [show (e == e) = true by simp]
      exact hQ h3 _ _ _ _ H3
    · refine br (fun hc => ?_) (fun hc => ?_) <;> (try rw [hc]) <;> (set_option smartUnfolding false in conv => whnf)
      · refine ⟨_, ld1 gs rfl, ?_⟩
        set_option smartUnfolding false in conv => whnf
        obtain ⟨e, he⟩ := H1.remove id
        refine he fun h2 S2 o2 k2 => ?_
        have gs2 : h2.get h.next = some (.cells [.int .i64 kd, .int .i64 id, .int .i64 key] true 0) := by rw [o2.fr.keep _ hls nS]; exact gs
        set_option smartUnfolding false in conv => whnf
        refine ⟨_, ld1 gs2 rfl, ?_⟩
        set_option smartUnfolding false in conv => whnf
        refine k2 fun h3 L3 T3 M3 H3 f3 => ?_
        set_option smartUnfolding false in conv => whnf
        refine ⟨winOk_of (by (set_option smartUnfolding false in conv => whnf); repeat' (first | exact trivial | (exact ⟨rfl, rfl, .inr ⟨_, _, rfl⟩⟩) | (refine ⟨rfl, rfl, .inl ⟨rfl, fun o ho => ?_⟩⟩; cases ho; first | rfl | (exact ld1 gs rfl) | (exact ld1 gs2 rfl)) | (exact ⟨rfl, .inr ⟨_, _, rfl⟩⟩) | (refine ⟨rfl, .inl ⟨rfl, fun i o hi ho => ?_⟩⟩; cases hi; cases ho; first | rfl | (exact ld1 gs rfl) | (exact ld1 gs2 rfl)) | (refine And.intro (fun _ => ?_) ?_ <;> set_option smartUnfolding false in conv => whnf) | (refine And.intro ?_ ?_ <;> set_option smartUnfolding false in conv => whnf))), ?_⟩
        rw [show (e == e) = true by simp]
        exact hQ h3 _ _ _ _ H3
      · refine vpC_sound (z := true) ?_
        set_option smartUnfolding false in conv => whnf
        obtain ⟨x, y, c, he⟩ := H1.pop
        refine he fun h2 S2 o2 k2 => ?_
        set_option smartUnfolding false in conv => whnf
        refine k2 fun h3 L3 T3 M3 H3 f3 => ?_
        set_option smartUnfolding false in conv => whnf
        rw [show (x == x) = true by simp]
        set_option smartUnfolding false in conv => whnf
        rw [show (y == y) = true by simp]
        set_option smartUnfolding false in conv => whnf
        rw [show (c == c) = true by simp]
        exact hQ h3 _ _ _ _ H3

variable {h : Heap} {k p m : Nat} {S T : List Nat} {L M : List Id}
theorem BR.first (H : BR h k p S L m T M) : ∃ (x y : Int) (c : Bool), (∀ {Q : AV → Heap → Prop}, Q (.tup [.int .i64 x, .int .i64 y, .bool c]) h → VD fs ms f_rank_Rank_First [.ptr k 0] h Q) ∧
    ∀ {Q : AV → Heap → Prop}, Q (.tup [.int .i64 x, .int .i64 y, .bool c]) h → VD fs ms f_escapementref02_Rank_First [.ptr m 0] h Q := by
  obtain ⟨P, hr⟩ := H.ra
  have hlen := H.len
  by_cases hM : M = []
  · have hL : L = [] := List.eq_nil_of_length_eq_zero (by rw [← hlen, hM]; rfl)
    refine ⟨0, 0, false, fun {Q} hQ => first_o hr (fun _ => hQ) fun h0 => ?_, fun {Q} hQ => mfirst2_o H.rm (fun _ => hQ) fun h0 => ?_⟩
    · rw [hL] at h0; simp at h0
    · rw [hM] at h0; simp at h0
  · have h0 : 0 < M.length := List.length_pos_iff.2 hM
    refine ⟨((gI M 0).1 : Int), (gI M 0).2, true, fun {Q} hQ => first_o hr (fun hL => ?_) fun hl => ?_, fun {Q} hQ => mfirst2_o H.rm (fun h => absurd h hM) fun _ => hQ⟩
    · rw [hL] at hlen; simp at hlen; exact absurd hlen hM
    · rw [H.f (hp_f hr.hp hl) h0]; exact hQ
theorem BR.key (H : BR h k p S L m T M) (id : Int) : ∃ (x : Int) (c : Bool), (∀ {Q : AV → Heap → Prop}, Q (.tup [.int .i64 x, .bool c]) h → VD fs ms f_rank_Rank_Key [.ptr k 0, .int .i64 id] h Q) ∧
    ∀ {Q : AV → Heap → Prop}, Q (.tup [.int .i64 x, .bool c]) h → VD fs ms f_escapementref02_Rank_Key [.ptr m 0, .int .i64 id] h Q := by
  obtain ⟨P, hr⟩ := H.ra
  by_cases c2 : ∃ y ∈ L, id = y.1
  · obtain ⟨y, hy, e⟩ := c2
    refine ⟨y.2, true, fun {Q} hQ => key_o hr id (fun hn => absurd e (hn y hy)) fun z e2 hz => ?_, fun {Q} hQ => mkey_o H.rm H.l64 id (fun hn => absurd e.symm (hn y ((H.mem y).2 hy))) fun z hz e2 => ?_⟩
    · have : z = y := hr.pl.uniq hz hy (by omega)
      rw [this]; exact hQ
    · have : z = y := hr.pl.uniq ((H.mem z).1 hz) hy (by omega)
      rw [this]; exact hQ
  · refine ⟨0, false, fun {Q} hQ => key_o hr id (fun _ => hQ) fun z e2 hz => absurd ⟨z, hz, e2⟩ c2, fun {Q} hQ => mkey_o H.rm H.l64 id (fun _ => hQ) fun z hz e2 => absurd ⟨z, (H.mem z).1 hz, e2.symm⟩ c2⟩
theorem same02_o (H : BR h k p S L m T M) (id : Int) {Q : AV → Heap → Prop} (hQ : Q (.bool true) h) : VD fs ms f_escapementlaw02_same [.ptr k 0, .ptr m 0, .int .i64 id] h Q := by
  obtain ⟨P, hr⟩ := H.ra
  obtain ⟨x, y, c, f1, f2⟩ := H.first
  obtain ⟨u, d, g1, g2⟩ := H.key id
  refine vd_begin (af := C_escapementlaw02_same) rfl (Nat.le_of_ble_eq_true rfl) ?_
  set_option smartUnfolding false in conv => whnf
  refine vc_seq true ?_
  set_option smartUnfolding false in conv => whnf
  refine vc_seq true ?_
  set_option smartUnfolding false in conv => whnf
  refine f1 ?_
  set_option smartUnfolding false in conv => whnf
  refine vc_seq true ?_
  set_option smartUnfolding false in conv => whnf
  refine f2 ?_
  set_option smartUnfolding false in conv => whnf
  refine vc_seq true ?_
  set_option smartUnfolding false in conv => whnf
  refine g1 ?_
  set_option smartUnfolding false in conv => whnf
  refine vc_seq true ?_
  set_option smartUnfolding false in conv => whnf
  refine g2 ?_
  set_option smartUnfolding false in conv => whnf
  refine vc_slots 5 [(0, .ptr k 0), (1, .ptr m 0), (7, .int .i64 x), (8, .int .i64 y), (9, .bool c), (10, .int .i64 x), (11, .int .i64 y), (12, .bool c), (13, .int .i64 u), (14, .bool d), (15, .int .i64 u), (16, .bool d)] ⟨rfl, rfl, rfl, rfl, rfl, rfl, rfl, rfl, rfl, rfl, rfl, rfl, trivial⟩ ?_
  refine vc_seqV (vc_ops (vo_cut 3 (vpO_sound (z := true) ?_)))
  set_option smartUnfolding false in conv => whnf
  rw [show (x == x) = true by simp]
  refine vo_cut 5 (vpO_sound (z := true) ?_)
  set_option smartUnfolding false in conv => whnf
  rw [show (y == y) = true by simp]
  refine vo_cut 5 (vpO_sound (z := true) ?_)
  set_option smartUnfolding false in conv => whnf
  rw [show (c == c) = true by simp]
  refine vo_cut 5 (vpO_sound (z := true) ?_)
  set_option smartUnfolding false in conv => whnf
  rw [show (u == u) = true by simp]
  refine vo_cut 5 (vpO_sound (z := true) ?_)
  set_option smartUnfolding false in conv => whnf
  rw [show (d == d) = true by simp]
  refine vpO_sound (z := true) ?_
  set_option smartUnfolding false in conv => whnf
  refine len_o hr ?_
  set_option smartUnfolding false in conv => whnf
  refine mlen_o H.rm ?_
  rw [H.len]
  set_option smartUnfolding false in conv => whnf
  rw [show (((L.length : Nat) : Int) == ((L.length : Nat) : Int)) = true by simp]
  exact ⟨_, _, _, .ret, hQ⟩
theorem ints_st {D : List Int} {i : Nat} (hi : i < D.length) (x : Int) : Heap.splice (ints D) (i * 1) [.int .i64 x] = ints (D.set i x) := by
  rw [Nat.mul_one, splice_at _ _ _ (by rw [len_ints]; exact hi), ints, ints, List.map_set]
theorem IRow.pt {lo : Nat} {h : Heap} {v : AV} {l : List Int} (hr : IRow lo h v l) {i : Nat} (hi : i < l.length) (x : Int) : ∃ b, pV (.iaddrS 1) [v, .int .i64 ((i : Nat) : Int)] = some (.ptr b (i * 1)) ∧ ∃ h', eV (.store 1) [.ptr b (i * 1), .int .i64 x] h = some (.undef, h') ∧ IRow lo h' v (l.set i x) ∧ h'.next = h.next ∧ ∀ c, c < lo → h'.get c = h.get c := by
  rcases hr with ⟨rfl, rfl⟩ | ⟨b, h1, h2, rfl, h4⟩
  · simp at hi
  · refine ⟨b, idx_slS3 hi, _, sto_o (n := 1) (v := .int .i64 x) h4 rfl (by rw [len_ints, Nat.mul_one]; exact hi) rfl, .inr ⟨b, h1, h2, by rw [List.length_set], ?_⟩, rfl, fun c hc => get_set_ne (by omega)⟩
    rw [get_set_same]
    have := ints_st hi x
    exact congrArg (fun z => some (Blk.cells z true 1)) this

def plE2 (z : Nat) (l : List Rd3) (k m i : Nat) : List (Nat × AV) := [(0, .fz z (rds l)), (3, .ptr k 0), (4, .ptr m 0), (5, .int .i64 ((i : Nat) : Int))]
theorem pl_l0 {z : Nat} {l : List Rd3} {k p m : Nat} {B : Nat} {Q : AX → Env → Heap → Prop} (hl : l.length < 2 ^ 62) (hQ : ∀ e' h' S L T M, BR h' k p S L m T M → AllAt e' [(3, .ptr k 0), (4, .ptr m 0)] → Q (.exit 0) e' h') :
    ∀ (n i : Nat) (h : Heap) (S : List Nat) (L : List Id) (T : List Nat) (M : List Id) (env : Env), l.length - i = n → i ≤ l.length → BR h k p S L m T M → AllAt env (plE2 z l k m i) →
    VC fs ms B false (.loop L_escapementlaw02_RankPlays_0) env h Q := by
  intro n
  induction n using Nat.strongRecOn with
  | ind n ih =>
  intro i h S L T M env hn hi H henv
  refine vc_slots 4 _ henv ?_
  refine vc_loopV (vc_seq true ?_)
  unfold plE2
  generalize hJ : ((i : Nat) : Int) = J
  set_option smartUnfolding false in conv => whnf
  rw [rds_len]
  refine br (fun hc => ?_) (fun hc => ?_) <;> (try rw [hc]) <;> (set_option smartUnfolding false in conv => whnf)
  · have hlt : i < l.length := by have := of_decide_eq_true hc; omega
    refine br (fun hc => ?_) (fun hc => ?_) <;> (try rw [hc]) <;> (set_option smartUnfolding false in conv => whnf)
    · subst hJ
      have hix := idx_rds (k := z) hlt
      generalize l[i] = d at hix
      refine vc_seqV (vc_block ?_)
      refine vpC_sound (z := true) ?_
      set_option smartUnfolding false in conv => whnf
      refine ⟨_, hix, ?_⟩
      set_option smartUnfolding false in conv => whnf
      refine ⟨rdv d, rfl, ?_⟩
      set_option smartUnfolding false in conv => whnf
      refine step02_o H d fun h1 S1 L1 T1 M1 H1 => ?_
      set_option smartUnfolding false in conv => whnf
      refine ⟨_, hix, ?_⟩
      set_option smartUnfolding false in conv => whnf
      refine ⟨.int .i64 d.2.1, rfl, ?_⟩
      set_option smartUnfolding false in conv => whnf
      refine same02_o H1 _ ?_
      set_option smartUnfolding false in conv => whnf
      refine vpC_sound (z := true) ?_
      set_option smartUnfolding false in conv => whnf
      exact ih (l.length - (i + 1)) (by omega) (i + 1) h1 S1 L1 T1 M1 _ rfl (by omega) H1 (by repeat' (first | exact trivial | refine And.intro (by first | with_reducible_and_instances rfl | (refine Eq.trans (b := some (AV.int .i64 _)) rfl (congrArg (fun z => some (AV.int .i64 z)) ?_); first | omega | (simp (disch := omega) only [IntWalk.i64_in] <;> omega)) | rfl) ?_))
    · subst hJ
      exact hQ _ h S L T M H (by repeat' (first | exact trivial | refine And.intro (by first | with_reducible_and_instances rfl | (refine Eq.trans (b := some (AV.int .i64 _)) rfl (congrArg (fun z => some (AV.int .i64 z)) ?_); first | omega | (simp (disch := omega) only [IntWalk.i64_in] <;> omega)) | rfl) ?_))
  · subst hJ
    exact hQ _ h S L T M H (by repeat' (first | exact trivial | refine And.intro (by first | with_reducible_and_instances rfl | (refine Eq.trans (b := some (AV.int .i64 _)) rfl (congrArg (fun z => some (AV.int .i64 z)) ?_); first | omega | (simp (disch := omega) only [IntWalk.i64_in] <;> omega)) | rfl) ?_))
theorem pl_l1 {k m : Nat} {lo : Nat} {h0 : Heap} {v : AV} {N : Nat} {B : Nat} {Q : AX → Env → Heap → Prop} (hlo : h0.next ≤ lo) (hN : N ≤ 1000)
    (hQ : ∀ h' e', AllAt e' [(3, .ptr k 0), (4, .ptr m 0)] → Fr h0 h' [] → Q (.exit 2) e' h') :
    ∀ (n i : Nat) (h : Heap) (l : List Int) (env : Env), N - i = n → i ≤ N → l.length = N → IRow lo h v l → Fr h0 h [] → AllAt env [(3, .ptr k 0), (4, .ptr m 0), (6, v), (7, .int .i64 ((i : Nat) : Int))] →
    VC fs ms B false (.loop L_escapementlaw02_RankPlays_1) env h Q := by
  intro n
  induction n using Nat.strongRecOn with
  | ind n ih =>
  intro i h l env hk hi hl hr fr0 henv
  refine vc_slots 4 _ henv ?_
  refine vc_loop (z := true) ?_
  set_option smartUnfolding false in conv => whnf
  refine op_some hr.read.1 ?_
  set_option smartUnfolding false in conv => whnf
  refine br (fun hc => ?_) (fun hc => ?_) <;> (try rw [hc]) <;> (set_option smartUnfolding false in conv => whnf)
  · have hlt : i < l.length := by have := of_decide_eq_true hc; omega
    obtain ⟨b, p1, h1, p2, p3, p4, p5⟩ := hr.pt hlt (-1)
    refine ⟨_, p1, ?_⟩
    set_option smartUnfolding false in conv => whnf
    refine eff_o p2 fun h1' e1 => ?_
    subst e1
    set_option smartUnfolding false in conv => whnf
    refine ih (N - (i + 1)) (by omega) (i + 1) h1' _ _ rfl (by omega) (by rw [List.length_set]; exact hl) p3 ⟨by have := fr0.next; omega, fun c hc _ => by rw [p5 c (by omega)]; exact fr0.keep c hc (by simp)⟩ (by repeat' (first | exact trivial | refine And.intro (by first | with_reducible_and_instances rfl | (refine Eq.trans (b := some (AV.int .i64 _)) rfl (congrArg (fun z => some (AV.int .i64 z)) ?_); first | omega | (simp (disch := omega) only [IntWalk.i64_in] <;> omega)) | rfl) ?_))
  · exact hQ h _ (by repeat' (first | exact trivial | refine And.intro (by first | with_reducible_and_instances rfl | (refine Eq.trans (b := some (AV.int .i64 _)) rfl (congrArg (fun z => some (AV.int .i64 z)) ?_); first | omega | (simp (disch := omega) only [IntWalk.i64_in] <;> omega)) | rfl) ?_)) fr0
theorem rankPlays_c {z : Nat} {l : List Rd3} (hl : l.length < 2 ^ 62) : PC fs ms f_escapementlaw02_RankPlays [.fz z (rds l)] (.bool true) := by
  refine pc_of (by simp [clL, AV.cl, cl_rds]) rfl ?_
  generalize hK : (fun (u : AV) (_ : Heap) => u = .bool true) = K
  have hKt : ∀ h, K (.bool true) h := fun h => by subst hK; rfl
  clear hK
  generalize (⟨0, .nil⟩ : Heap) = h0
  refine vd_begin (af := C_escapementlaw02_RankPlays) rfl (Nat.le_of_ble_eq_true rfl) ?_
  set_option smartUnfolding false in conv => whnf
  refine vc_seq true ?_
  set_option smartUnfolding false in conv => whnf
  refine vc_seq true ?_
  set_option smartUnfolding false in conv => whnf
  refine rnew_o fun h1 k p hr hk hp fr => ?_
  set_option smartUnfolding false in conv => whnf
  refine mnew2_o fun h2 m hm hmn fr2 => ?_
  set_option smartUnfolding false in conv => whnf
  have H : BR h2 k p [k, p] [] m [m] [] := by
    refine ⟨⟨_, hr.keep fr2 (by simp)⟩, hm, List.Pairwise.nil, fun y => Iff.rfl, fun c hc hc2 => ?_⟩
    have := hr.own.2.2 c hc
    simp at hc2
    omega
  refine vc_seqV (vc_seq true ?_)
  set_option smartUnfolding false in conv => whnf
  refine vc_block ?_
  refine pl_l0 hl ?_ _ 0 h2 _ _ _ _ _ rfl (Nat.zero_le _) H (by repeat' (first | exact trivial | refine And.intro (by first | with_reducible_and_instances rfl | (refine Eq.trans (b := some (AV.int .i64 _)) rfl (congrArg (fun z => some (AV.int .i64 z)) ?_); first | omega | (simp (disch := omega) only [IntWalk.i64_in] <;> omega)) | rfl) ?_))
  intro e3 h3 S L T M H3 he3
  show VC fs ms _ _ _ _ _ _
  obtain ⟨P3, r3⟩ := H3.ra
  refine vc_slots 4 _ he3 (vc_seq true ?_)
  set_option smartUnfolding false in conv => whnf
  refine ids_any r3 fun h4 v4 M4 i4 o4 fr4 => ?_
  set_option smartUnfolding false in conv => whnf
  have H4 := H3.keep fr4
  refine vc_seq true ?_
  set_option smartUnfolding false in conv => whnf
  have h64 := r3.pl.len64
  have hM : M4 = M := srt_uniq ah_ir ah_asym M4 M o4.pws H3.pw fun y => by rw [o4.mem, H3.mem]
  refine mids_o H4.rm H4.l64 fun h5 v5 i5 fr5 => ?_
  set_option smartUnfolding false in conv => whnf
  have i4' := i4.keep fr5
  have H5 := H4.keep fr5
  obtain ⟨z1, f1⟩ := i4'.fz
  obtain ⟨z2, f2⟩ := i5.fz
  have hlen4 := o4.len
  subst hM
  refine vd_view (eqInts_same z1 z2 (idl M4) (by rw [idl_len]; omega)) rfl (.cons f1 (.cons f2 .nil)) ?_
  set_option smartUnfolding false in conv => whnf
  refine vc_seqV (vc_seq true ?_)
  set_option smartUnfolding false in conv => whnf
  refine vc_block ?_
  refine pl_l1 (h0 := h3) (lo := h3.next) (N := (idl M4).length) (Nat.le_refl _) (by rw [idl_len]; omega) ?_ _ 0 h5 (idl M4) _ rfl (Nat.zero_le _) rfl i4' (fr4.trans fr5) (by repeat' (first | exact trivial | refine And.intro (by first | with_reducible_and_instances rfl | (refine Eq.trans (b := some (AV.int .i64 _)) rfl (congrArg (fun z => some (AV.int .i64 z)) ?_); first | omega | (simp (disch := omega) only [IntWalk.i64_in] <;> omega)) | rfl) ?_))
  intro h6 e6 he6 fr6
  show VC fs ms _ _ _ _ _ _
  have H6 := H3.keep fr6
  obtain ⟨P6, r6⟩ := H6.ra
  refine vc_slots 4 _ he6 (vpC_sound (z := true) ?_)
  set_option smartUnfolding false in conv => whnf
  refine ids_any r6 fun h7 v7 M7 i7 o7 fr7 => ?_
  set_option smartUnfolding false in conv => whnf
  have H7 := H6.keep fr7
  have hM7 : M7 = M4 := srt_uniq ah_ir ah_asym M7 M4 o7.pws H6.pw fun y => by rw [o7.mem, H6.mem]
  refine mids_o H7.rm H7.l64 fun h8 v8 i8 fr8 => ?_
  set_option smartUnfolding false in conv => whnf
  have i7' := i7.keep fr8
  obtain ⟨z3, f3⟩ := i7'.fz
  obtain ⟨z4, f4⟩ := i8.fz
  subst hM7
  refine vd_view (eqInts_same z3 z4 (idl M7) (by rw [idl_len]; omega)) rfl (.cons f3 (.cons f4 .nil)) ?_
  set_option smartUnfolding false in conv => whnf
  refine vd_pure works02_c ?_
  set_option smartUnfolding false in conv => whnf
  exact hKt _
end Ir
end Go.Proofs.Ytenafeojcgmnhaa
