/-
  Ready: a queue in a heap.
-/
import Derived.Test.YtenafeojcgmnhaaVRdJ
set_option maxRecDepth 100000
set_option linter.unusedSimpArgs false
set_option linter.unusedVariables false
namespace Go.Proofs.Ytenafeojcgmnhaa
open Go Ads
namespace Ir

structure QAt (h : Heap) (q : Nat) (S : List Nat) (n : Int) (L : List Id) : Prop where
  ex : ∃ k p S' P, S = q :: S' ∧ q ∉ S' ∧ RAt h k p S' L P ∧ h.get q = some (.cells [.ptr k 0, .int .i64 n] true 0) ∧ q < h.next
  n4 : n ≤ 4
  ids : ∀ y ∈ L, (y.1 : Int) < n
theorem QAt.own {h : Heap} {q : Nat} {S : List Nat} {n : Int} {L : List Id} (hq : QAt h q S n L) : ∀ b ∈ S, b < h.next := by
  obtain ⟨k, p, S', P, rfl, hn, hr, hg, hl⟩ := hq.ex
  intro b hb
  rcases List.mem_cons.1 hb with rfl | hb
  · exact hl
  · exact hr.own.2.2 b hb
theorem QAt.dst {h : Heap} {q : Nat} {S : List Nat} {n : Int} {L : List Id} (hq : QAt h q S n L) : Dst L := by
  obtain ⟨k, p, S', P, rfl, hn, hr, hg, hl⟩ := hq.ex
  exact hr.pl.dist
theorem QAt.uniq {h : Heap} {q : Nat} {S : List Nat} {n : Int} {L : List Id} (hq : QAt h q S n L) {x y : Id} (hx : x ∈ L) (hy : y ∈ L) (e : x.1 = y.1) : x = y := by
  obtain ⟨k, p, S', P, rfl, hn, hr, hg, hl⟩ := hq.ex
  exact hr.pl.uniq hx hy e
theorem RAt.few {h : Heap} {k p : Nat} {S : List Nat} {L : List Id} {P : Nat → Nat} (hr : RAt h k p S L P) {n : Int} (h4 : n ≤ 4) (hi : ∀ y ∈ L, (y.1 : Int) < n) : L.length ≤ 4 :=
  hr.pl.len fun y hy => by have := hi y hy; omega
/-- A queue stays when others change. -/
theorem RAt.keep {h h' : Heap} {k p : Nat} {S T : List Nat} {L : List Id} {P : Nat → Nat} (hr : RAt h k p S L P) (fr : Fr h h' T) (hd : ∀ b ∈ S, b ∉ T) : RAt h' k p S L P := by
  obtain ⟨kS, pS, hS⟩ := hr.own
  refine ⟨by rw [fr.keep k hr.lk (hd k kS)]; exact hr.hk, hr.ne, Nat.lt_of_lt_of_le hr.lk fr.next, Nat.lt_of_lt_of_le hr.lp fr.next, ?_, hr.pl, hr.hp⟩
  rcases hr.row with ⟨h1, h2, h3⟩ | ⟨r, cap, rest, h1, h2, h3, h4⟩
  · exact .inl ⟨h1, h2, by rw [fr.keep p hr.lp (hd p pS)]; exact h3⟩
  · have rS : r ∈ S := by rw [h1]; simp
    exact .inr ⟨r, cap, rest, h1, h2, h3, ⟨by rw [fr.keep p hr.lp (hd p pS)]; exact h4.hp, by rw [fr.keep r h4.lr (hd r rS)]; exact h4.hr, h4.ne, Nat.lt_of_lt_of_le h4.lp fr.next, Nat.lt_of_lt_of_le h4.lr fr.next⟩⟩
theorem QAt.keep {h h' : Heap} {q : Nat} {S T : List Nat} {n : Int} {L : List Id} (hq : QAt h q S n L) (fr : Fr h h' T) (hd : ∀ b ∈ S, b ∉ T) : QAt h' q S n L := by
  obtain ⟨k, p, S', P, rfl, hn, hr, hg, hl⟩ := hq.ex
  exact ⟨⟨k, p, S', P, rfl, hn, hr.keep fr fun b hb => hd b (List.mem_cons_of_mem _ hb), by rw [fr.keep q hl (hd q List.mem_cons_self)]; exact hg, Nat.lt_of_lt_of_le hl fr.next⟩, hq.n4, hq.ids⟩

theorem rnew_o {h : Heap} {Q : AV → Heap → Prop} (hQ : ∀ h' k p, RAt h' k p [k, p] [] (fun _ => 0) → h.next ≤ k → h.next ≤ p → Fr h h' [] → Q (.ptr k 0) h') : VD fs ms f_rank_New [] h Q := by
  refine vd_start (af := C_rank_New) true rfl (Nat.le_of_ble_eq_true rfl) ?_
  set_option smartUnfolding false in conv => whnf
  refine hQ _ (h.next + 1) h.next ⟨?_, by omega, ?_, ?_, .inl ⟨rfl, rfl, ?_⟩, ?_, ?_⟩ (by omega) (by omega) ((Fr.refl h []).new.new)
  · exact get_new_same (h := h.new _)
  · exact Nat.lt_succ_self _
  · show h.next < h.next + 1 + 1; omega
  · refine (get_new_ne (h := h.new _) (Nat.lt_succ_self _)).trans (get_new_same.trans ?_)
    rfl
  · refine ⟨?_, ?_, ?_⟩
    · intro i hi; simp at hi
    · intro i hi; simp at hi
    · intro d _ hd; simp at hd
  · intro i _ hi; simp at hi
theorem new_o {h : Heap} (n : Int) {Q : AV → Heap → Prop} (h1 : n < 0 ∨ 4 < n → Q (.tup [.nilp, .int .i64 2]) h)
    (h2 : 0 ≤ n → n ≤ 4 → ∀ h' q S, QAt h' q S n [] → (∀ b ∈ S, h.next ≤ b) → Fr h h' [] → Q (.tup [.ptr q 0, .int .i64 0]) h') : VD fs ms f_ready_New [.int .i64 n] h Q := by
  refine vd_start (af := C_ready_New) true rfl (Nat.le_of_ble_eq_true rfl) ?_
  set_option smartUnfolding false in conv => whnf
  refine br (fun hc => ?_) (fun hc => ?_) <;> (try rw [hc]) <;> (set_option smartUnfolding false in conv => whnf)
  · exact h1 (.inl (of_decide_eq_true hc))
  · have hn0 : ¬ n < 0 := of_decide_eq_false hc
    refine br (fun hc => ?_) (fun hc => ?_) <;> (try rw [hc]) <;> (set_option smartUnfolding false in conv => whnf)
    · exact h1 (.inr (of_decide_eq_true hc))
    · have hn4 : ¬ 4 < n := of_decide_eq_false hc
      refine rnew_o fun h' k p hr hk hp fr => ?_
      set_option smartUnfolding false in conv => whnf
      have lk := hr.lk
      have lp := hr.lp
      refine h2 (by omega) (by omega) _ h'.next (h'.next :: [k, p]) ⟨⟨k, p, [k, p], _, rfl, by simp; omega, hr.keep (Fr.refl h' []).new (by simp), get_new_same, Nat.lt_succ_self _⟩, by omega, fun y hy => by simp at hy⟩ ?_ ?_
      · intro b hb
        simp at hb
        have := fr.next
        omega
      · exact fr.new
theorem qnone_o {h : Heap} {q : Nat} {S : List Nat} {n : Int} {L : List Id} (hq : QAt h q S n L) {Q : AV → Heap → Prop} (hQ : Q (.bool false) h) : VD fs ms f_ready_Queue_none [.ptr q 0] h Q := by
  obtain ⟨k, p, S', P, rfl, hn, hr, hg, hl⟩ := hq.ex
  refine vd_start (af := C_ready_Queue_none) true rfl (Nat.le_of_ble_eq_true rfl) ?_
  set_option smartUnfolding false in conv => whnf
  refine ⟨_, ld1 hg rfl, ?_⟩
  set_option smartUnfolding false in conv => whnf
  exact hQ
theorem qput_o {h : Heap} {q : Nat} {S : List Nat} {n : Int} {L : List Id} (hq : QAt h q S n L) (id d : Int) {Q : AV → Heap → Prop} (h1 : id < 0 ∨ n ≤ id → Q (.int .i64 9) h) (h2 : ¬ (id < 0 ∨ n ≤ id) → d < 0 ∨ 1099511627840 < d → Q (.int .i64 2) h)
    (h3 : ¬ (id < 0 ∨ n ≤ id) → ¬ (d < 0 ∨ 1099511627840 < d) → ∀ y ∈ L, id = (y.1 : Int) → Q (.int .i64 141) h)
    (h4 : ¬ (d < 0 ∨ 1099511627840 < d) → ∀ i : Nat, id = i → id < n → (∀ y ∈ L, y.1 ≠ i) → ∀ h' S' L', QAt h' q S' n L' → (∀ y, y ∈ L' ↔ y ∈ L ∨ y = (i, d)) → Own h h' S S' → Q (.int .i64 0) h') : VD fs ms f_ready_Queue_Put [.ptr q 0, .int .i64 id, .int .i64 d] h Q := by
  refine vd_start (af := C_ready_Queue_Put) true rfl (Nat.le_of_ble_eq_true rfl) ?_
  set_option smartUnfolding false in conv => whnf
  refine qnone_o hq ?_
  obtain ⟨k, p, S', P, rfl, hn, hr, hg, hl⟩ := hq.ex
  set_option smartUnfolding false in conv => whnf
  have tail : ¬ (id < 0 ∨ n ≤ id) → ¬ (d < 0 ∨ 1099511627840 < d) → ∀ K : AV → Heap → Prop, (∀ v h', Q v h' → K v h') → VD fs ms f_rank_Rank_Put [.ptr k 0, .int .i64 id, .int .i64 d] h K := by
    intro a1 a2 K hK
    refine put_o hr id d (fun hb => ?_) (fun y hy e => hK _ _ (h3 a1 a2 y hy e)) fun i hi i64 hno h' S1 L' P' r1 r2 r3 => ?_
    · have := hq.n4; omega
    · have hown := hr.own.2.2
      refine hK _ _ (h4 a2 i hi (by omega) hno h' (q :: S1) L' ⟨⟨k, p, S1, P', rfl, ?_, r1, ?_, Nat.lt_of_lt_of_le hl r3.fr.next⟩, hq.n4, ?_⟩ r2 ⟨⟨r3.fr.next, fun b hb hnb => r3.fr.keep b hb (by simp at hnb; exact hnb.2)⟩, ?_⟩)
      · intro hm
        rcases r3.new q hm with h | h
        · exact hn h
        · omega
      · rw [r3.fr.keep q hl hn]; exact hg
      · intro y hy
        rcases (r2 y).1 hy with h | h
        · exact hq.ids y h
        · subst h; show (i : Int) < n; omega
      · intro b hb
        rcases List.mem_cons.1 hb with rfl | hb
        · exact .inl List.mem_cons_self
        · rcases r3.new b hb with h | h
          · exact .inl (List.mem_cons_of_mem _ h)
          · exact .inr h
  refine br (fun hc => ?_) (fun hc => ?_) <;> (try rw [hc]) <;> (set_option smartUnfolding false in conv => whnf)
  · exact h1 (.inl (of_decide_eq_true hc))
  · have i0 : ¬ id < 0 := of_decide_eq_false hc
    refine ⟨_, ld1 hg rfl, ?_⟩
    set_option smartUnfolding false in conv => whnf
    refine br (fun hc => ?_) (fun hc => ?_) <;> (try rw [hc]) <;> (set_option smartUnfolding false in conv => whnf)
    · exact h1 (.inr (of_decide_eq_true hc))
    · have i1 : ¬ n ≤ id := of_decide_eq_false hc
      have hin : ¬ (id < 0 ∨ n ≤ id) := by omega
      refine br (fun hc => ?_) (fun hc => ?_) <;> (try rw [hc]) <;> (set_option smartUnfolding false in conv => whnf)
      · exact h2 hin (.inl (of_decide_eq_true hc))
      · have d0 : ¬ d < 0 := of_decide_eq_false hc
        refine br (fun hc => ?_) (fun hc => ?_) <;> (try rw [hc]) <;> (set_option smartUnfolding false in conv => whnf)
        · exact h2 hin (.inr (of_decide_eq_true hc))
        · have d1 : ¬ 1099511627840 < d := of_decide_eq_false hc
          refine ⟨_, ld1 hg rfl, ?_⟩
          set_option smartUnfolding false in conv => whnf
          refine tail hin (by omega) _ fun v h' hv => ?_
          set_option smartUnfolding false in conv => whnf
          exact hv

theorem qremove_o {h : Heap} {q : Nat} {S : List Nat} {n : Int} {L : List Id} (hq : QAt h q S n L) (id : Int) {Q : AV → Heap → Prop} (h1 : (∀ y ∈ L, id ≠ (y.1 : Int)) → Q (.bool false) h)
    (h2 : ∀ y : Id, id = (y.1 : Int) → y ∈ L → ∀ h' S' L', QAt h' q S' n L' → (∀ z, z ∈ L' ↔ z ∈ L ∧ z.1 ≠ y.1) → Own h h' S S' → Q (.bool true) h') : VD fs ms f_ready_Queue_Remove [.ptr q 0, .int .i64 id] h Q := by
  refine vd_start (af := C_ready_Queue_Remove) true rfl (Nat.le_of_ble_eq_true rfl) ?_
  set_option smartUnfolding false in conv => whnf
  refine qnone_o hq ?_
  obtain ⟨k, p, S', P, rfl, hn, hr, hg, hl⟩ := hq.ex
  set_option smartUnfolding false in conv => whnf
  refine ⟨_, ld1 hg rfl, ?_⟩
  set_option smartUnfolding false in conv => whnf
  refine remove_o hr id (fun hno => ?_) fun y hy hyL h' S1 L' P' r1 r2 r3 => ?_
  · set_option smartUnfolding false in conv => whnf
    exact h1 hno
  · set_option smartUnfolding false in conv => whnf
    refine h2 y hy hyL h' (q :: S1) L' ⟨⟨k, p, S1, P', rfl, ?_, r1, ?_, Nat.lt_of_lt_of_le hl r3.fr.next⟩, hq.n4, fun z hz => hq.ids z ((r2 z).1 hz).1⟩ r2 ⟨⟨r3.fr.next, fun b hb hnb => r3.fr.keep b hb (by simp at hnb; exact hnb.2)⟩, ?_⟩
    · intro hm
      rcases r3.new q hm with h | h
      · exact hn h
      · omega
    · rw [r3.fr.keep q hl hn]; exact hg
    · intro b hb
      rcases List.mem_cons.1 hb with rfl | hb
      · exact .inl List.mem_cons_self
      · rcases r3.new b hb with h | h
        · exact .inl (List.mem_cons_of_mem _ h)
        · exact .inr h
/-- The least one. -/
def IsFst (L : List Id) (x : Id) : Prop := x ∈ L ∧ ∀ y ∈ L, ah y x = false
theorem hp_fst {L : List Id} (h : Hp L) (hl : 0 < L.length) : IsFst L (gI L 0) := by
  refine ⟨mem_gI.2 ⟨0, hl, rfl⟩, fun y hy => ?_⟩
  obtain ⟨i, hi, rfl⟩ := mem_gI.1 hy
  clear hy
  induction i using Nat.strongRecOn with
  | ind i ih =>
    rcases Nat.eq_zero_or_pos i with rfl | h0
    · rw [ah_not]; omega
    · exact ah_tt (h i h0 hi) (ih ((i - 1) / 2) (by omega) (by omega))
theorem qfirst_o {h : Heap} {q : Nat} {S : List Nat} {n : Int} {L : List Id} (hq : QAt h q S n L) {Q : AV → Heap → Prop} (h1 : L = [] → Q (.tup [.int .i64 0, .int .i64 0, .bool false]) h)
    (h2 : ∀ x, IsFst L x → Q (.tup [.int .i64 (x.1 : Nat), .int .i64 x.2, .bool true]) h) : VD fs ms f_ready_Queue_First [.ptr q 0] h Q := by
  refine vd_start (af := C_ready_Queue_First) true rfl (Nat.le_of_ble_eq_true rfl) ?_
  set_option smartUnfolding false in conv => whnf
  refine qnone_o hq ?_
  obtain ⟨k, p, S', P, rfl, hn, hr, hg, hl⟩ := hq.ex
  set_option smartUnfolding false in conv => whnf
  refine ⟨_, ld1 hg rfl, ?_⟩
  set_option smartUnfolding false in conv => whnf
  refine first_o hr (fun hL => ?_) fun hl0 => ?_
  · set_option smartUnfolding false in conv => whnf
    exact h1 hL
  · set_option smartUnfolding false in conv => whnf
    exact h2 _ (hp_fst hr.hp hl0)
theorem qdead_o {h : Heap} {q : Nat} {S : List Nat} {n : Int} {L : List Id} (hq : QAt h q S n L) (id : Int) {Q : AV → Heap → Prop} (h1 : (∀ y ∈ L, id ≠ (y.1 : Int)) → Q (.tup [.int .i64 0, .bool false]) h)
    (h2 : ∀ y : Id, id = (y.1 : Int) → y ∈ L → Q (.tup [.int .i64 y.2, .bool true]) h) : VD fs ms f_ready_Queue_Deadline [.ptr q 0, .int .i64 id] h Q := by
  refine vd_start (af := C_ready_Queue_Deadline) true rfl (Nat.le_of_ble_eq_true rfl) ?_
  set_option smartUnfolding false in conv => whnf
  refine qnone_o hq ?_
  obtain ⟨k, p, S', P, rfl, hn, hr, hg, hl⟩ := hq.ex
  set_option smartUnfolding false in conv => whnf
  refine ⟨_, ld1 hg rfl, ?_⟩
  set_option smartUnfolding false in conv => whnf
  refine key_o hr id (fun hno => ?_) fun y hy hyL => ?_
  · set_option smartUnfolding false in conv => whnf
    exact h1 hno
  · set_option smartUnfolding false in conv => whnf
    exact h2 y hy hyL
theorem qjobs_o {h : Heap} {q : Nat} {S : List Nat} {n : Int} {L : List Id} (hq : QAt h q S n L) {Q : AV → Heap → Prop} (hQ : ∀ h' v M, IRow h.next h' v (idl M) → Ord L M → M.length ≤ 4 → Fr h h' [] → Q v h') : VD fs ms f_ready_Queue_Jobs [.ptr q 0] h Q := by
  refine vd_start (af := C_ready_Queue_Jobs) true rfl (Nat.le_of_ble_eq_true rfl) ?_
  set_option smartUnfolding false in conv => whnf
  refine qnone_o hq ?_
  obtain ⟨k, p, S', P, rfl, hn, hr, hg, hl⟩ := hq.ex
  set_option smartUnfolding false in conv => whnf
  have hfew := hr.few hq.n4 hq.ids
  refine ⟨_, ld1 hg rfl, ?_⟩
  set_option smartUnfolding false in conv => whnf
  refine ids_few hr (by omega) fun h' v M k1 k2 k3 => ?_
  set_option smartUnfolding false in conv => whnf
  exact hQ h' v M k1 k2 (by have := k2.len; omega) k3

theorem IRow.read {lo : Nat} {h : Heap} {v : AV} {l : List Int} (hr : IRow lo h v l) : pV .lenS [v] = some (.int .i64 ((l.length : Nat) : Int)) ∧ ∀ i, i < l.length → ∃ b, pV (.iaddrS 1) [v, .int .i64 ((i : Nat) : Int)] = some (.ptr b (i * 1)) ∧ rV .load1 [.ptr b (i * 1)] h = some (.int .i64 (l.getD i 0)) := by
  rcases hr with ⟨rfl, rfl⟩ | ⟨b, h1, h2, rfl, h4⟩
  · exact ⟨rfl, fun i hi => by simp at hi⟩
  · refine ⟨rfl, fun i hi => ⟨b, ?_, ld1 h4 ?_⟩⟩
    · exact idx_slS3 hi
    · rw [Nat.mul_one, ints, List.getElem?_map, List.getD_eq_getElem?_getD, List.getElem?_eq_getElem hi]
      rfl
theorem idl_get {M : List Id} {i : Nat} (h : i < M.length) : (idl M).getD i 0 = ((gI M i).1 : Int) := by
  rw [List.getD_eq_getElem?_getD, idl, List.getElem?_map, List.getElem?_eq_getElem h, gI_eq h]
  rfl
def lat (M : List Id) (now : Int) : List Id := M.filter fun y => decide (y.2 ≤ now)
theorem lat_take {M : List Id} {now : Int} {i : Nat} (h : i < M.length) : idl (lat (M.take (i + 1)) now) = idl (lat (M.take i) now) ++ (if (gI M i).2 ≤ now then [((gI M i).1 : Int)] else []) := by
  rw [List.take_succ_eq_append_getElem h, gI_eq h, lat, List.filter_append, idl, List.map_append]
  congr 1
  by_cases hh : M[i].2 ≤ now <;> simp [hh]
def latE (q : Nat) (now : Int) (out v : AV) (N i : Nat) : List (Nat × AV) := [(0, .ptr q 0), (1, .int .i64 now), (4, out), (10, v), (11, .int .i64 ((N : Nat) : Int)), (12, .int .i64 ((i : Nat) : Int))]
theorem lat_len (M : List Id) (now : Int) : (lat M now).length ≤ M.length := List.length_filter_le ..
theorem late_loop {q : Nat} {S : List Nat} {n now : Int} {L M : List Id} {N : Nat} {v : AV} {h0 : Heap} {B : Nat} {Q : AX → Env → Heap → Prop} (hN : M.length = N) (h4 : N ≤ 4) (hM : ∀ y, y ∈ M → y ∈ L) (hS0 : ∀ b ∈ S, b < h0.next) :
    ∀ (k i : Nat) (h : Heap) (out : AV) (env : Env), N - i = k → QAt h q S n L → i ≤ N → IRow h0.next h v (idl M) → IRow h0.next h out (idl (lat (M.take i) now)) → (∀ c, offB v c ∨ (offB out c ∧ c < h.next)) → Fr h0 h [] →
    AllAt env (latE q now out v N i) →
    (∀ (h' : Heap) (out' : AV) (e' : Env), Tr.get e' 4 = some out' → IRow h0.next h' out' (idl (lat M now)) → Fr h0 h' [] → Q (.exit 0) e' h') →
    VC fs ms B false (.loop L_ready_Queue_Late_0) env h Q := by
  intro k
  induction k using Nat.strongRecOn with
  | ind k ih =>
  intro i h out env hk hq hi hv hr ho fr0 henv hQ
  refine vc_slots 4 (latE q now out v N i) henv ?_
  refine vc_loop (z := true) ?_
  unfold latE
  set_option smartUnfolding false in conv => whnf
  refine br (fun hc => ?_) (fun hc => ?_) <;> (try rw [hc]) <;> (set_option smartUnfolding false in conv => whnf)
  · have hlt : i < M.length := by have := of_decide_eq_true hc; omega
    obtain ⟨b, r1, r2⟩ := hv.read.2 i (by rw [idl_len]; exact hlt)
    rw [idl_get hlt] at r2
    refine ⟨_, r1, ?_⟩
    set_option smartUnfolding false in conv => whnf
    refine ⟨_, r2, ?_⟩
    set_option smartUnfolding false in conv => whnf
    have hy : gI M i ∈ L := hM _ (mem_gI.2 ⟨i, hlt, rfl⟩)
    refine qdead_o hq _ (fun hno => absurd rfl (hno _ hy)) fun y e hyL => ?_
    have e2 : gI M i = y := hq.uniq hy hyL (by omega)
    subst e2
    set_option smartUnfolding false in conv => whnf
    have hlo := fr0.next
    have hlat := lat_take (now := now) hlt
    have hll := lat_len (M.take i) now
    rw [List.length_take] at hll
    refine br (fun hc => ?_) (fun hc => ?_) <;> (try rw [hc]) <;> (set_option smartUnfolding false in conv => whnf)
    · have hle : (gI M i).2 ≤ now := of_decide_eq_true hc
      rw [if_pos hle] at hlat
      obtain ⟨v', g', a1, a2, a3, a4, a5⟩ := hr.app hlo (by rw [idl_len]; omega) ((gI M i).1 : Int)
      refine eff_o a1 fun h2 e2 => ?_
      subst e2
      set_option smartUnfolding false in conv => whnf
      have offlo : ∀ c, c < h0.next → offB out c := by
        intro c hc
        rcases hr with ⟨_, rfl⟩ | ⟨b', h1', _, rfl, _⟩
        · intro o n k op e; cases e
        · intro o n k op e; cases e; omega
      have fr1 : ∀ T : List Nat, (∀ c, c ∉ T → offB out c) → Fr h h2 T := fun T hT => ⟨a3, fun c hc hn => a4 c hc (hT c hn)⟩
      have hq2 : QAt h2 q S n L := by
        rcases hr with ⟨_, rfl⟩ | ⟨b', h1', _, rfl, _⟩
        · exact hq.keep (fr1 [] fun c _ o n k op e => by cases e) (by simp)
        · refine hq.keep (fr1 [b'] fun c hc o n k op e => by cases e; simp at hc) fun c hc hm => ?_
          simp at hm
          have := hS0 c hc
          omega
      have hv2 : IRow h0.next h2 v (idl M) := by
        rcases hv with hv | ⟨b', h1', h2', rfl, h4'⟩
        · exact .inl hv
        · have hob : offB out b' := by
            rcases ho b' with h | h
            · exact absurd rfl (h _ _ _ _)
            · exact h.1
          exact .inr ⟨b', h1', by omega, rfl, by rw [a4 b' h2' hob]; exact h4'⟩
      refine ih (N - (i + 1)) (by omega) (i + 1) h2 v' _ rfl hq2 (by omega) hv2 (by rw [hlat]; exact a2) (fun c => ?_) ⟨by omega, fun b hb _ => ?_⟩ ⟨rfl, rfl, rfl, rfl, rfl, inc_slot (by omega), trivial⟩ hQ
      · rcases ho c with h | h
        · exact .inl h
        · exact .inr ⟨a5 c h.2, by omega⟩
      · rw [a4 b (by omega) (offlo b hb)]
        exact fr0.keep b hb (by simp)
    · have hle : ¬ (gI M i).2 ≤ now := of_decide_eq_false hc
      rw [if_neg hle, List.append_nil] at hlat
      refine ih (N - (i + 1)) (by omega) (i + 1) h out _ rfl hq (by omega) hv (by rw [hlat]; exact hr) ho fr0 ⟨rfl, rfl, rfl, rfl, rfl, inc_slot (by omega), trivial⟩ hQ
  · have hge : i = N := by have := of_decide_eq_false hc; omega
    subst hge
    refine hQ h out _ rfl ?_ fr0
    rw [← hN, List.take_length] at hr
    exact hr

theorem qlate_o {h : Heap} {q : Nat} {S : List Nat} {n : Int} {L : List Id} (hq : QAt h q S n L) (now : Int) {Q : AV → Heap → Prop} (hQ : ∀ h' v M, IRow h.next h' v (idl (lat M now)) → Ord L M → M.length ≤ 4 → Fr h h' [] → Q v h') : VD fs ms f_ready_Queue_Late [.ptr q 0, .int .i64 now] h Q := by
  refine vd_begin (af := C_ready_Queue_Late) rfl (Nat.le_of_ble_eq_true rfl) ?_
  set_option smartUnfolding false in conv => whnf
  refine vc_seq true ?_
  set_option smartUnfolding false in conv => whnf
  refine vc_seqV (vc_seq true ?_)
  set_option smartUnfolding false in conv => whnf
  refine qjobs_o hq fun h1 v M k1 k2 k3 k4 => ?_
  set_option smartUnfolding false in conv => whnf
  refine op_some k1.read.1 ?_
  set_option smartUnfolding false in conv => whnf
  refine vc_block ?_
  rw [idl_len]
  refine late_loop (now := now) (L := L) rfl k3 (fun y hy => (k2.mem y).1 hy) hq.own _ 0 h1 .nils _ rfl (hq.keep k4 (by simp)) (Nat.zero_le _) k1 (.inl ⟨rfl, rfl⟩) (fun c => ?_) k4 ⟨rfl, rfl, rfl, rfl, rfl, rfl, trivial⟩ ?_
  · rcases k1 with ⟨_, rfl⟩ | ⟨b, _, hb, rfl, _⟩
    · exact .inl fun o n k op e => by cases e
    · by_cases hcb : c = b
      · subst hcb; exact .inr ⟨fun o n k op e => (by cases e), hb⟩
      · exact .inl fun o n k op e => by cases e; exact hcb rfl
  · intro h2 out e2 g4 hi hf
    show VC fs ms _ _ _ _ _ _
    refine vc_slots 3 [(4, out)] ⟨g4, trivial⟩ (vpC_sound (z := true) ?_)
    set_option smartUnfolding false in conv => whnf
    exact hQ h2 out M hi k2 k3 hf
end Ir
end Go.Proofs.Ytenafeojcgmnhaa
