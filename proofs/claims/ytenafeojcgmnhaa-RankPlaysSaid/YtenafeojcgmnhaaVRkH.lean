/-
  Rank: the document's calls; both ranks, call by call.
-/
import Derived.Test.YtenafeojcgmnhaaVRkG
set_option maxRecDepth 100000
set_option linter.unusedSimpArgs false
set_option linter.unusedVariables false
namespace Go.Proofs.Ytenafeojcgmnhaa
open Go Ads
namespace Ir

theorem mnew2_o {h : Heap} {Q : AV → Heap → Prop} (hQ : ∀ h' m, MR h' m [m] [] → h.next ≤ m → Fr h h' [] → Q (.ptr m 0) h') : VD fs ms f_escapementref02_New [] h Q := by
  refine vd_start (af := C_escapementref02_New) true rfl (Nat.le_of_ble_eq_true rfl) ?_
  set_option smartUnfolding false in conv => whnf
  exact hQ _ h.next ⟨Nat.lt_succ_self _, .nils, get_new_same, .inl ⟨rfl, rfl⟩, rfl, by simp [blk]⟩ (Nat.le_refl _) (Fr.refl h []).new
theorem mPut_o {h : Heap} {m : Nat} {S : List Nat} {L : List Id} (hr : MR h m S L) (hl : L.length ≤ 64) (hp : Pw L) (id key : Int) {Q : AV → Heap → Prop} (h1 : id < 0 ∨ 64 ≤ id → Q (.int .i64 9) h)
    (h2 : ∀ y, y ∈ L → id = y.1 → Q (.int .i64 141) h)
    (h3 : ∀ i : Nat, id = i → i < 64 → (∀ y ∈ L, y.1 ≠ i) → ∀ h' S' L', MR h' m S' L' → Pw L' → (∀ y, y ∈ L' ↔ y ∈ L ∨ y = (i, key)) → Own h h' S S' → Q (.int .i64 0) h') : VD fs ms f_escapementref02_Rank_Put [.ptr m 0, .int .i64 id, .int .i64 key] h Q := by
  refine vd_start (af := C_escapementref02_Rank_Put) true rfl (Nat.le_of_ble_eq_true rfl) ?_
  set_option smartUnfolding false in conv => whnf
  refine br (fun hc => ?_) (fun hc => ?_) <;> (try rw [hc]) <;> (set_option smartUnfolding false in conv => whnf)
  · exact h1 (.inl (of_decide_eq_true hc))
  have a1 : ¬ id < 0 := of_decide_eq_false hc
  refine br (fun hc => ?_) (fun hc => ?_) <;> (try rw [hc]) <;> (set_option smartUnfolding false in conv => whnf)
  · exact h1 (.inr (by have := of_decide_eq_true hc; omega))
  have a2 : ¬ id > 63 := of_decide_eq_false hc
  obtain ⟨i, rfl⟩ : ∃ i : Nat, id = i := ⟨id.toNat, by omega⟩
  refine mat_o hr hl _ (fun hn => ?_) fun j hj he => ?_
  · set_option smartUnfolding false in conv => whnf
    have hno : ∀ y ∈ L, y.1 ≠ i := fun y hy e => hn y hy (by rw [e])
    refine dput_o (x := (i, key)) hr hl hp (fun y hy => hno y hy) fun h' S' L' k1 k2 k3 k4 => ?_
    set_option smartUnfolding false in conv => whnf
    exact h3 i rfl (by omega) hno h' S' L' k1 k2 k3 k4
  · set_option smartUnfolding false in conv => whnf
    exact h2 _ (mem_gI.2 ⟨j, hj, rfl⟩) he.symm
theorem mLower_o {h : Heap} {m : Nat} {S : List Nat} {L : List Id} (hr : MR h m S L) (hl : L.length ≤ 64) (hp : Pw L) (hd : ∀ x ∈ L, ∀ y ∈ L, x.1 = y.1 → x = y) (id key : Int) {Q : AV → Heap → Prop} (h1 : id < 0 ∨ 64 ≤ id → Q (.int .i64 9) h)
    (h2 : ¬ (id < 0 ∨ 64 ≤ id) → (∀ y ∈ L, id ≠ (y.1 : Int)) → Q (.int .i64 8) h)
    (h3 : ∀ y : Id, id = (y.1 : Int) → y ∈ L → y.2 < key → Q (.int .i64 2) h)
    (h4 : ∀ y : Id, id = (y.1 : Int) → y ∈ L → key ≤ y.2 → ∀ h' S' L', MR h' m S' L' → Pw L' → (∀ z, z ∈ L' ↔ (z ∈ L ∧ z.1 ≠ y.1) ∨ z = (y.1, key)) → Own h h' S S' → Q (.int .i64 0) h') : VD fs ms f_escapementref02_Rank_Lower [.ptr m 0, .int .i64 id, .int .i64 key] h Q := by
  refine vd_start (af := C_escapementref02_Rank_Lower) true rfl (Nat.le_of_ble_eq_true rfl) ?_
  set_option smartUnfolding false in conv => whnf
  refine br (fun hc => ?_) (fun hc => ?_) <;> (try rw [hc]) <;> (set_option smartUnfolding false in conv => whnf)
  · exact h1 (.inl (of_decide_eq_true hc))
  have a1 : ¬ id < 0 := of_decide_eq_false hc
  refine br (fun hc => ?_) (fun hc => ?_) <;> (try rw [hc]) <;> (set_option smartUnfolding false in conv => whnf)
  · exact h1 (.inr (by have := of_decide_eq_true hc; omega))
  have a2 : ¬ id > 63 := of_decide_eq_false hc
  refine mat_o hr hl _ (fun hn => ?_) fun j hj he => ?_
  · set_option smartUnfolding false in conv => whnf
    exact h2 (by omega) fun y hy e => hn y hy e.symm
  · set_option smartUnfolding false in conv => whnf
    obtain ⟨v, g1, g2, _, _⟩ := hr.ex
    obtain ⟨b, p1, p2, p3, p4⟩ := g2.rd.get j hj
    have hyL : gI L j ∈ L := mem_gI.2 ⟨j, hj, rfl⟩
    refine ⟨_, ld1 g1 rfl, ?_⟩
    set_option smartUnfolding false in conv => whnf
    refine ⟨_, p1, ?_⟩
    set_option smartUnfolding false in conv => whnf
    refine ⟨_, p3, ?_⟩
    set_option smartUnfolding false in conv => whnf
    refine br (fun hc => ?_) (fun hc => ?_) <;> (try rw [hc]) <;> (set_option smartUnfolding false in conv => whnf)
    · exact h3 _ he.symm hyL (of_decide_eq_true hc)
    · have hle : key ≤ (gI L j).2 := by have := of_decide_eq_false hc; omega
      subst he
      refine mrem_o hr hl _ fun h' S' k1 k2 => ?_
      set_option smartUnfolding false in conv => whnf
      have hsub : ∀ z, z ∈ noId ((gI L j).1 : Int) L ↔ z ∈ L ∧ z.1 ≠ (gI L j).1 := by
        intro z
        rw [noId, List.mem_filter]
        simp only [decide_eq_true_eq]
        exact ⟨fun ⟨a, b⟩ => ⟨a, fun e => b (by rw [e])⟩, fun ⟨a, b⟩ => ⟨a, fun e => b (by omega)⟩⟩
      refine dput_o (x := ((gI L j).1, key)) k1 (Nat.le_trans (noId_len _ _) hl) (List.Pairwise.sublist List.filter_sublist hp) (fun y hy => ((hsub y).1 hy).2) fun h2' S2 L2 q1 q2 q3 q4 => ?_
      set_option smartUnfolding false in conv => whnf
      refine h4 _ rfl hyL hle h2' S2 L2 q1 q2 (fun z => by rw [q3, hsub]) ⟨?_, fun b hb => ?_⟩
      · refine ⟨Nat.le_trans k2.fr.next q4.fr.next, fun c hc hn => ?_⟩
        have hn2 : c ∉ S' := fun h' => by
          rcases k2.new c h' with h' | h'
          · exact hn h'
          · omega
        rw [q4.fr.keep c (Nat.lt_of_lt_of_le hc k2.fr.next) hn2, k2.fr.keep c hc hn]
      · rcases q4.new b hb with hb | hb
        · exact k2.new b hb
        · exact .inr (Nat.le_trans k2.fr.next hb)
theorem mPop_o {h : Heap} {m : Nat} {S : List Nat} {L : List Id} (hr : MR h m S L) (hl : L.length ≤ 64) {Q : AV → Heap → Prop} (h1 : L = [] → Q (.tup [.int .i64 0, .int .i64 0, .bool false]) h)
    (h2 : 0 < L.length → ∀ h' S', MR h' m S' (noId ((gI L 0).1 : Int) L) → Own h h' S S' → Q (.tup [.int .i64 ((gI L 0).1 : Nat), .int .i64 (gI L 0).2, .bool true]) h') : VD fs ms f_escapementref02_Rank_Pop [.ptr m 0] h Q := by
  refine vd_start (af := C_escapementref02_Rank_Pop) true rfl (Nat.le_of_ble_eq_true rfl) ?_
  set_option smartUnfolding false in conv => whnf
  refine mfirst2_o hr (fun hL => ?_) fun hl0 => ?_
  · set_option smartUnfolding false in conv => whnf
    exact h1 hL
  · set_option smartUnfolding false in conv => whnf
    refine mrem_o hr hl _ fun h' S' k1 k2 => ?_
    set_option smartUnfolding false in conv => whnf
    exact h2 hl0 h' S' k1 k2
/-- Ids of the document's rank. -/
theorem mids_l {h0 : Heap} {m : Nat} {S : List Nat} {L : List Id} (hr0 : MR h0 m S L) (hl : L.length ≤ 64) {B : Nat} {Q : AX → Env → Heap → Prop}
    (hQ : ∀ h' v' e', Fr h0 h' [] → IRow h0.next h' v' (idl L) → Tr.get e' 3 = some v' → Q (.exit 0) e' h') :
    ∀ (n i : Nat) (h : Heap) (v' : AV) (env : Env), L.length - i = n → i ≤ L.length → Fr h0 h [] → IRow h0.next h v' (idl (L.take i)) → AllAt env [(0, .ptr m 0), (3, v'), (4, .int .i64 ((i : Nat) : Int))] →
    VC fs ms B false (.loop L_escapementref02_Rank_Ids_0) env h Q := by
  intro n
  induction n using Nat.strongRecOn with
  | ind n ih =>
  intro i h v' env hn hi fr hg henv
  obtain ⟨v, g1, g2, _, _⟩ := (hr0.keep fr (by simp)).ex
  have rd := g2.rd
  refine vc_slots 4 _ henv ?_
  refine vc_loop (z := true) ?_
  set_option smartUnfolding false in conv => whnf
  refine ⟨_, ld1 g1 rfl, ?_⟩
  set_option smartUnfolding false in conv => whnf
  refine op_some rd.len ?_
  set_option smartUnfolding false in conv => whnf
  refine br (fun hc => ?_) (fun hc => ?_) <;> (try rw [hc]) <;> (set_option smartUnfolding false in conv => whnf)
  · have hlt : i < L.length := by have := of_decide_eq_true hc; omega
    obtain ⟨b, p1, p2, p3, p4⟩ := rd.get i hlt
    refine ⟨_, ld1 g1 rfl, ?_⟩
    set_option smartUnfolding false in conv => whnf
    refine ⟨_, p1, ?_⟩
    set_option smartUnfolding false in conv => whnf
    refine ⟨_, p2, ?_⟩
    set_option smartUnfolding false in conv => whnf
    obtain ⟨v2, g', a1, a2, a3, a4, a5⟩ := hg.app fr.next (by rw [idl_len, List.length_take]; omega) ((gI L i).1 : Int)
    refine eff_o a1 fun h2 e2 => ?_
    subst e2
    set_option smartUnfolding false in conv => whnf
    refine ih (L.length - (i + 1)) (by omega) (i + 1) h2 v2 _ rfl (by omega) ⟨by have := fr.next; omega, fun c hc _ => ?_⟩ (by rw [idl_take hlt]; exact a2) (by repeat' (first | exact trivial | refine And.intro (by first | with_reducible_and_instances rfl | (refine Eq.trans (b := some (AV.int .i64 _)) rfl (congrArg (fun z => some (AV.int .i64 z)) ?_); first | omega | (simp (disch := omega) only [IntWalk.i64_in] <;> omega)) | rfl) ?_))
    have hcb : offB v' c := by
      rcases hg with ⟨_, rfl⟩ | ⟨b', h1', _, rfl, _⟩
      · intro o n k op e; cases e
      · intro o n k op e; cases e; omega
    rw [a4 c (Nat.lt_of_lt_of_le hc fr.next) hcb]; exact fr.keep c hc (by simp)
  · have hge : i = L.length := by have := of_decide_eq_false hc; omega
    subst hge
    rw [List.take_length] at hg
    exact hQ h v' _ fr hg rfl
theorem mids_o {h : Heap} {m : Nat} {S : List Nat} {L : List Id} (hr : MR h m S L) (hl : L.length ≤ 64) {Q : AV → Heap → Prop} (hQ : ∀ h' v, IRow h.next h' v (idl L) → Fr h h' [] → Q v h') : VD fs ms f_escapementref02_Rank_Ids [.ptr m 0] h Q := by
  refine vd_begin (af := C_escapementref02_Rank_Ids) rfl (Nat.le_of_ble_eq_true rfl) ?_
  set_option smartUnfolding false in conv => whnf
  refine vc_seq true ?_
  set_option smartUnfolding false in conv => whnf
  refine vc_seq true ?_
  set_option smartUnfolding false in conv => whnf
  refine vc_seqV (vc_seq true ?_)
  set_option smartUnfolding false in conv => whnf
  refine vc_block ?_
  refine mids_l hr hl ?_ _ 0 h .nils _ rfl (Nat.zero_le _) (Fr.refl _ _) (.inl ⟨rfl, rfl⟩) (by repeat' (first | exact trivial | refine And.intro (by first | with_reducible_and_instances rfl | (refine Eq.trans (b := some (AV.int .i64 _)) rfl (congrArg (fun z => some (AV.int .i64 z)) ?_); first | omega | (simp (disch := omega) only [IntWalk.i64_in] <;> omega)) | rfl) ?_))
  intro h' v' e' fr hi h3
  show VC fs ms _ _ _ _ _ _
  refine vc_slots 4 [(3, v')] ⟨h3, trivial⟩ (vpC_sound (z := true) ?_)
  set_option smartUnfolding false in conv => whnf
  exact hQ h' v' hi fr

/-- Both ranks in one heap. -/
structure BR (h : Heap) (k p : Nat) (S : List Nat) (L : List Id) (m : Nat) (T : List Nat) (M : List Id) : Prop where
  ra : ∃ P, RAt h k p S L P
  rm : MR h m T M
  pw : Pw M
  mem : ∀ y, y ∈ M ↔ y ∈ L
  dis : ∀ c ∈ S, c ∉ T
variable {h : Heap} {k p m : Nat} {S T : List Nat} {L M : List Id}
theorem Pw.nd {M : List Id} (h : Pw M) : M.Nodup := List.Pairwise.imp (fun {a b} hab e => by subst e; exact ah_ir a hab) h
theorem BR.len (H : BR h k p S L m T M) : M.length = L.length := by
  obtain ⟨P, hr⟩ := H.ra
  exact len_same H.pw.nd hr.pl.nd H.mem
theorem BR.l64 (H : BR h k p S L m T M) : M.length ≤ 64 := by
  obtain ⟨P, hr⟩ := H.ra
  rw [H.len]; exact hr.pl.len64
theorem BR.uniq (H : BR h k p S L m T M) : ∀ x ∈ M, ∀ y ∈ M, x.1 = y.1 → x = y := by
  obtain ⟨P, hr⟩ := H.ra
  exact fun x hx y hy e => hr.pl.uniq ((H.mem x).1 hx) ((H.mem y).1 hy) e
theorem BR.keep {h' : Heap} (H : BR h k p S L m T M) (fr : Fr h h' []) : BR h' k p S L m T M := by
  obtain ⟨P, hr⟩ := H.ra
  exact ⟨⟨P, hr.keep fr (by simp)⟩, H.rm.keep fr (by simp), H.pw, H.mem, H.dis⟩
/-- Behind a call of one, the other is as it was. -/
theorem BR.mid {h1 : Heap} {S1 : List Nat} (H : BR h k p S L m T M) (o : Own h h1 S S1) : MR h1 m T M ∧ ∀ c ∈ S1, c ∉ T := by
  have hd : ∀ c ∈ T, c ∉ S := fun c hc hs => H.dis c hs hc
  exact ⟨H.rm.keep o.fr hd, fun c hc ht => o.away (fun c hc => H.rm.own c hc) hd c ht hc⟩
theorem BR.join {h1 h2 : Heap} {S1 T1 : List Nat} {L1 M1 : List Id} {P1 : Nat → Nat} (r1 : RAt h1 k p S1 L1 P1) (d1 : ∀ c ∈ S1, c ∉ T) (r2 : MR h2 m T1 M1) (o2 : Own h1 h2 T T1) (pw : Pw M1) (mem : ∀ y, y ∈ M1 ↔ y ∈ L1) : BR h2 k p S1 L1 m T1 M1 := by
  refine ⟨⟨P1, r1.keep o2.fr d1⟩, r2, pw, mem, fun c hc ht => ?_⟩
  rcases o2.new c ht with h | h
  · exact d1 c hc h
  · have := r1.own.2.2 c hc; omega
theorem isF_uniq {L : List Id} (hu : ∀ x ∈ L, ∀ y ∈ L, x.1 = y.1 → x = y) {x y : Id} (hx : IsF L x) (hy : IsF L y) : x = y := by
  have a1 := ah_not.1 (hx.2 _ hy.1)
  have a2 := ah_not.1 (hy.2 _ hx.1)
  exact hu _ hx.1 _ hy.1 (by omega)
theorem pw_f {M : List Id} (hp : Pw M) (h0 : 0 < M.length) : IsF M (gI M 0) := by
  refine ⟨mem_gI.2 ⟨0, h0, rfl⟩, fun y hy => ?_⟩
  obtain ⟨i, hi, rfl⟩ := mem_gI.1 hy
  rcases Nat.eq_zero_or_pos i with rfl | hp0
  · rw [ah_not]; omega
  · have := (List.pairwise_iff_getElem.1 hp) 0 i h0 hi hp0
    rw [gI_eq h0, gI_eq hi]
    exact ah_as this
theorem BR.f (H : BR h k p S L m T M) {x : Id} (hx : IsF L x) (h0 : 0 < M.length) : x = gI M 0 := by
  obtain ⟨P, hr⟩ := H.ra
  have hm := pw_f H.pw h0
  exact isF_uniq (fun x hx y hy e => hr.pl.uniq hx hy e) hx ⟨(H.mem _).1 hm.1, fun y hy => hm.2 y ((H.mem y).2 hy)⟩
theorem noId_mem {L : List Id} {i : Nat} : ∀ z, z ∈ noId (i : Int) L ↔ z ∈ L ∧ z.1 ≠ i := by
  intro z
  rw [noId, List.mem_filter]
  simp only [decide_eq_true_eq]
  exact ⟨fun ⟨a, b⟩ => ⟨a, fun e => b (by rw [e])⟩, fun ⟨a, b⟩ => ⟨a, fun e => b (by omega)⟩⟩

theorem own_refl {h : Heap} {S : List Nat} : Own h h S S := ⟨Fr.refl _ _, fun b hb => .inl hb⟩
theorem BR.put (H : BR h k p S L m T M) (id key : Int) : ∃ e : Int, ∀ {Q : AV → Heap → Prop},
    (∀ h1 S1, Own h h1 S S1 → (∀ {Q2 : AV → Heap → Prop}, (∀ h2 L2 T2 M2, BR h2 k p S1 L2 m T2 M2 → Fr h1 h2 T → Q2 (.int .i64 e) h2) → VD fs ms f_escapementref02_Rank_Put [.ptr m 0, .int .i64 id, .int .i64 key] h1 Q2) → Q (.int .i64 e) h1) →
    VD fs ms f_rank_Rank_Put [.ptr k 0, .int .i64 id, .int .i64 key] h Q := by
  obtain ⟨P, hr⟩ := H.ra
  have l64 := H.l64
  by_cases c1 : id < 0 ∨ 64 ≤ id
  · refine ⟨9, fun {Q} hQ => put_o hr id key (fun _ => hQ h S own_refl fun {Q2} h2 => mPut_o H.rm l64 H.pw id key (fun _ => h2 h L T M H (Fr.refl _ _)) (fun y hy e => ?_) fun i hi h64 => by omega) (fun y hy e => ?_) fun i hi h64 => by omega⟩
    · obtain ⟨j, hj, rfl⟩ := mem_gI.1 ((H.mem y).1 hy)
      have := hr.pl.small j hj
      omega
    · obtain ⟨j, hj, rfl⟩ := mem_gI.1 hy
      have := hr.pl.small j hj
      omega
  by_cases c2 : ∃ y ∈ L, id = y.1
  · obtain ⟨y, hy, e⟩ := c2
    refine ⟨141, fun {Q} hQ => put_o hr id key (fun h => absurd h c1) (fun _ _ _ => hQ h S own_refl fun {Q2} h2 => mPut_o H.rm l64 H.pw id key (fun h => absurd h c1) (fun _ _ _ => h2 h L T M H (Fr.refl _ _)) fun i hi h64 hn => ?_) fun i hi h64 hn => ?_⟩
    · exact absurd (show y.1 = i by omega) (hn y ((H.mem y).2 hy))
    · exact absurd (show y.1 = i by omega) (hn y hy)
  · refine ⟨0, fun {Q} hQ => put_o hr id key (fun h => absurd h c1) (fun y hy e => absurd ⟨y, hy, e⟩ c2) fun i hi h64 hn h1 S1 L1 P1 r1 r2 r3 => ?_⟩
    obtain ⟨rm1, d1⟩ := H.mid r3
    refine hQ h1 S1 r3 fun {Q2} h2 => mPut_o rm1 l64 H.pw id key (fun h => absurd h c1) (fun y hy e => absurd ⟨y, (H.mem y).1 hy, e⟩ c2) fun i' hi' _ _ h2' T2 M2 q1 q2 q3 q4 => ?_
    obtain rfl : i = i' := by omega
    exact h2 h2' L1 T2 M2 (BR.join r1 d1 q1 q4 q2 fun y => by rw [q3, r2, H.mem]) q4.fr
theorem BR.lower (H : BR h k p S L m T M) (id key : Int) : ∃ e : Int, ∀ {Q : AV → Heap → Prop},
    (∀ h1 S1, Own h h1 S S1 → (∀ {Q2 : AV → Heap → Prop}, (∀ h2 L2 T2 M2, BR h2 k p S1 L2 m T2 M2 → Fr h1 h2 T → Q2 (.int .i64 e) h2) → VD fs ms f_escapementref02_Rank_Lower [.ptr m 0, .int .i64 id, .int .i64 key] h1 Q2) → Q (.int .i64 e) h1) →
    VD fs ms f_rank_Rank_Lower [.ptr k 0, .int .i64 id, .int .i64 key] h Q := by
  obtain ⟨P, hr⟩ := H.ra
  have l64 := H.l64
  have sm : ∀ y ∈ L, y.1 < 64 := fun y hy => by obtain ⟨j, hj, rfl⟩ := mem_gI.1 hy; exact hr.pl.small j hj
  by_cases c1 : id < 0 ∨ 64 ≤ id
  · refine ⟨9, fun {Q} hQ => lower_o hr id key (fun _ => hQ h S own_refl fun {Q2} h2 => mLower_o H.rm l64 H.pw H.uniq id key (fun _ => h2 h L T M H (Fr.refl _ _)) (fun hn => absurd c1 hn) (fun y e hy => ?_) fun y e hy => ?_) (fun hn => absurd c1 hn) (fun y e hy => ?_) fun y e hy => ?_⟩
    · have := sm y ((H.mem y).1 hy); omega
    · have := sm y ((H.mem y).1 hy); omega
    · have := sm y hy; omega
    · have := sm y hy; omega
  by_cases c2 : ∃ y ∈ L, id = y.1
  · obtain ⟨y, hy, e⟩ := c2
    have ey : ∀ z ∈ L, id = (z.1 : Int) → z = y := fun z hz e2 => hr.pl.uniq hz hy (by omega)
    by_cases c3 : y.2 < key
    · refine ⟨2, fun {Q} hQ => lower_o hr id key (fun h => absurd h c1) (fun _ hn => absurd e (hn y hy)) (fun _ _ _ _ => hQ h S own_refl fun {Q2} h2 => mLower_o H.rm l64 H.pw H.uniq id key (fun h => absurd h c1) (fun _ hn => absurd e (hn y ((H.mem y).2 hy))) (fun _ _ _ _ => h2 h L T M H (Fr.refl _ _)) fun z e2 hz hle => ?_) fun z e2 hz hle => ?_⟩
      · have := ey z ((H.mem z).1 hz) e2; subst this; omega
      · have := ey z hz e2; subst this; omega
    · refine ⟨0, fun {Q} hQ => lower_o hr id key (fun h => absurd h c1) (fun _ hn => absurd e (hn y hy)) (fun z e2 hz hlt => ?_) fun z e2 hz hle h1 S1 L1 P1 r1 r2 r3 => ?_⟩
      · have := ey z hz e2; subst this; exact absurd hlt c3
      · have := ey z hz e2; subst this
        obtain ⟨rm1, d1⟩ := H.mid r3
        refine hQ h1 S1 r3 fun {Q2} h2 => mLower_o rm1 l64 H.pw H.uniq id key (fun h => absurd h c1) (fun _ hn => absurd e (hn z ((H.mem z).2 hy))) (fun w e3 hw hlt => ?_) fun w e3 hw hle' h2' T2 M2 q1 q2 q3 q4 => ?_
        · have := ey w ((H.mem w).1 hw) e3; subst this; exact absurd hlt c3
        · have := ey w ((H.mem w).1 hw) e3; subst this
          exact h2 h2' L1 T2 M2 (BR.join r1 d1 q1 q4 q2 fun y => by rw [q3, r2, H.mem]) q4.fr
  · refine ⟨8, fun {Q} hQ => lower_o hr id key (fun h => absurd h c1) (fun _ _ => hQ h S own_refl fun {Q2} h2 => mLower_o H.rm l64 H.pw H.uniq id key (fun h => absurd h c1) (fun _ _ => h2 h L T M H (Fr.refl _ _)) (fun y e hy => ?_) fun y e hy => ?_) (fun y e hy => ?_) fun y e hy => ?_⟩
    · exact absurd ⟨y, (H.mem y).1 hy, e⟩ c2
    · exact absurd ⟨y, (H.mem y).1 hy, e⟩ c2
    · exact absurd ⟨y, hy, e⟩ c2
    · exact absurd ⟨y, hy, e⟩ c2
theorem BR.remove (H : BR h k p S L m T M) (id : Int) : ∃ e : Bool, ∀ {Q : AV → Heap → Prop},
    (∀ h1 S1, Own h h1 S S1 → (∀ {Q2 : AV → Heap → Prop}, (∀ h2 L2 T2 M2, BR h2 k p S1 L2 m T2 M2 → Fr h1 h2 T → Q2 (.bool e) h2) → VD fs ms f_escapementref02_Rank_Remove [.ptr m 0, .int .i64 id] h1 Q2) → Q (.bool e) h1) →
    VD fs ms f_rank_Rank_Remove [.ptr k 0, .int .i64 id] h Q := by
  obtain ⟨P, hr⟩ := H.ra
  have l64 := H.l64
  by_cases c2 : ∃ y ∈ L, id = y.1
  · obtain ⟨y, hy, e⟩ := c2
    refine ⟨true, fun {Q} hQ => remove_o hr id (fun hn => absurd e (hn y hy)) fun z e2 hz h1 S1 L1 P1 r1 r2 r3 => ?_⟩
    obtain ⟨rm1, d1⟩ := H.mid r3
    subst e2
    refine hQ h1 S1 r3 fun {Q2} h2 => mrem_o rm1 l64 _ fun h2' T2 q1 q2 => ?_
    have hzM := (H.mem z).2 hz
    have hlt : (noId (z.1 : Int) M).length < M.length := by
      have h1 : (noId (z.1 : Int) M).length + 1 = M.length := len_del (List.Nodup.sublist List.filter_sublist H.pw.nd) H.pw.nd hzM (fun w hw e => H.uniq w hw z hzM e) noId_mem
      omega
    rw [show decide (((noId (z.1 : Int) M).length : Int) < ((M.length : Nat) : Int)) = true from decide_eq_true (by omega)]
    exact h2 h2' L1 T2 _ (BR.join r1 d1 q1 q2 (List.Pairwise.sublist List.filter_sublist H.pw) fun y => by rw [noId_mem, r2, H.mem]) q2.fr
  · refine ⟨false, fun {Q} hQ => remove_o hr id (fun hn => hQ h S own_refl fun {Q2} h2 => mrem_o H.rm l64 _ fun h2' T2 q1 q2 => ?_) fun z e2 hz => absurd ⟨z, hz, e2⟩ c2⟩
    have hM : noId id M = M := List.filter_eq_self.2 fun y hy => decide_eq_true fun e => c2 ⟨y, (H.mem y).1 hy, e.symm⟩
    rw [hM] at q1 ⊢
    rw [show decide (((M.length : Nat) : Int) < ((M.length : Nat) : Int)) = false from decide_eq_false (by omega)]
    exact h2 h2' L T2 M (BR.join hr H.dis q1 q2 H.pw H.mem) q2.fr
theorem BR.pop (H : BR h k p S L m T M) : ∃ (x y : Int) (c : Bool), ∀ {Q : AV → Heap → Prop},
    (∀ h1 S1, Own h h1 S S1 → (∀ {Q2 : AV → Heap → Prop}, (∀ h2 L2 T2 M2, BR h2 k p S1 L2 m T2 M2 → Fr h1 h2 T → Q2 (.tup [.int .i64 x, .int .i64 y, .bool c]) h2) → VD fs ms f_escapementref02_Rank_Pop [.ptr m 0] h1 Q2) → Q (.tup [.int .i64 x, .int .i64 y, .bool c]) h1) →
    VD fs ms f_rank_Rank_Pop [.ptr k 0] h Q := by
  obtain ⟨P, hr⟩ := H.ra
  have l64 := H.l64
  have hlen := H.len
  by_cases hM : M = []
  · have hL : L = [] := List.eq_nil_of_length_eq_zero (by rw [← hlen, hM]; rfl)
    refine ⟨0, 0, false, fun {Q} hQ => pop_o hr (fun _ => hQ h S own_refl fun {Q2} h2 => mPop_o H.rm l64 (fun _ => h2 h L T M H (Fr.refl _ _)) fun h0 => ?_) fun x hx => ?_⟩
    · rw [hM] at h0; simp at h0
    · have := hx.1; rw [hL] at this; simp at this
  · have h0 : 0 < M.length := List.length_pos_iff.2 hM
    refine ⟨((gI M 0).1 : Int), (gI M 0).2, true, fun {Q} hQ => pop_o hr (fun hL => ?_) fun x hx h1 S1 L1 P1 r1 _ r2 r3 => ?_⟩
    · rw [hL] at hlen; simp at hlen; exact absurd hlen hM
    · have ex := H.f hx h0
      obtain ⟨rm1, d1⟩ := H.mid r3
      rw [ex]
      refine hQ h1 S1 r3 fun {Q2} h2 => mPop_o rm1 l64 (fun h => absurd h hM) fun _ h2' T2 q1 q2 => ?_
      exact h2 h2' L1 T2 _ (BR.join r1 d1 q1 q2 (List.Pairwise.sublist List.filter_sublist H.pw) fun y => by rw [noId_mem, r2, H.mem, ex]) q2.fr
end Ir
end Go.Proofs.Ytenafeojcgmnhaa
