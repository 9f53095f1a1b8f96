/-
  Rank: the document's rank, a row of ids in order. Rank: the document's rank, what changes it. Rank: the document's calls; both ranks, call by call.
-/
import Derived.Test.YtenafeojcgmnhaaVRkE
set_option maxRecDepth 100000
set_option linter.unusedSimpArgs false
set_option linter.unusedVariables false
namespace Go.Proofs.Ytenafeojcgmnhaa
open Go Ads
namespace Ads
/-- Some more behind a row that is full: a new row. -/
theorem app_fullN {h : Heap} {s bytes b m n : Nat} {vs cs : List AV} {x : AV} (hg : h.get b = some (.cells vs true s)) (hv : vs.length = m * s) (hsrc : srcV s h x = some (n + 1, cs)) (hf : flatL cs = true) (hb : bytes ≤ 1048576) (hm : m + n ≤ 1048576) :
    eV (.append s bytes) [.sl b 0 m m true, x] h = some (.sl h.next 0 (m + (n + 1)) (m + (n + 1)) true, (h.del b).new (.cells (vs ++ cs) true s)) := by
  have hmu : (m + (n + 1)) * bytes ≤ 1048577 * 1048576 := Nat.mul_le_mul (by omega) hb
  have b1 : Nat.ble (m + (n + 1)) m = false := by cases hb : Nat.ble (m + (n + 1)) m with | false => rfl | true => (have := Nat.le_of_ble_eq_true hb; omega)
  have b2 : Nat.ble ((m + (n + 1)) * bytes) 140737488355328 = true := Nat.ble_eq_true_of_le (by omega)
  have b3 : Nat.ble (m + (n + 1)) 9223372036854775807 = true := Nat.ble_eq_true_of_le (by omega)
  have b4 : Nat.ble (0 + m * s) vs.length = true := Nat.ble_eq_true_of_le (by omega)
  have b5 : Nat.beq vs.length (0 + m * s) = true := by rw [hv, Nat.zero_add]; exact Nat.beq_refl _
  have hld : h.loadN b 0 (m * s) = some vs := by
    simp only [Heap.loadN, Heap.row, hg, b4, cond_true, List.drop_zero]
    rw [← hv, List.take_length]
  simp only [eV, l2, hsrc]
  show cond (flatL cs) _ _ = _
  rw [hf, cond_true]
  show cond (Nat.beq (n + 1) 0 && Nat.ble m m) _ _ = _
  rw [show Nat.beq (n + 1) 0 = false from rfl, Bool.false_and, cond_false, b1, cond_false, b2, b3, Bool.and_self, cond_true, hg, hld]
  show cond true (cond (true && Nat.beq vs.length (0 + m * s) && Nat.beq m m && Nat.beq s s) _ _) _ = _
  rw [b5, Nat.beq_refl, Nat.beq_refl]
  rfl
/-- Nothing more. -/
theorem app_zero {h : Heap} {s bytes b m : Nat} {x : AV} {cs : List AV} (hsrc : srcV s h x = some (0, cs)) (hf : flatL cs = true) : eV (.append s bytes) [.sl b 0 m m true, x] h = some (.sl b 0 m m true, h) := by
  simp only [eV, l2, hsrc]
  show cond (flatL cs) _ _ = _
  rw [hf, cond_true]
  show cond (Nat.beq 0 0 && Nat.ble m m) _ _ = _
  rw [Nat.ble_eq_true_of_le (Nat.le_refl m)]
  rfl
end Ads
namespace Ir

/-- A row of ids that was made behind the first blocks. -/
def GR (lo : Nat) (h : Heap) (v : AV) (L : List Id) : Prop :=
  (L = [] ∧ v = .nils) ∨ ∃ b, lo ≤ b ∧ b < h.next ∧ v = .sl b 0 L.length L.length true ∧ h.get b = some (.cells (oc L) true 2)
theorem GR.keep {lo : Nat} {h h' : Heap} {v : AV} {L : List Id} (hr : GR lo h v L) (hn : h.next ≤ h'.next) (hk : ∀ c, c < h.next → lo ≤ c → h'.get c = h.get c) : GR lo h' v L := by
  rcases hr with hr | ⟨b, h1, h2, h3, h4⟩
  · exact .inl hr
  · exact .inr ⟨b, h1, by omega, h3, by rw [hk b h2 h1]; exact h4⟩
theorem GR.app {lo : Nat} {h : Heap} {v : AV} {L : List Id} (hr : GR lo h v L) (hlo : lo ≤ h.next) (hl : L.length ≤ 1000) (x : Id) : ∃ v' g', eV (.append 2 16) [v, .sl h.next 0 1 1 false] (h.new (.cells (ob x).cells true 0)) = some (v', g') ∧
    GR lo g' v' (L ++ [x]) ∧ h.next ≤ g'.next ∧ ∀ c, c < lo → g'.get c = h.get c := by
  have hsrc : srcV 2 (h.new (.cells (ob x).cells true 0)) (.sl h.next 0 1 1 false) = some (1, (ob x).cells) := src_new get_new_same rfl
  rcases hr with ⟨h1, h2⟩ | ⟨b, h1, h2, h3, h4⟩
  · subst h1 h2
    refine ⟨_, _, app_nilsS (by omega) hsrc rfl, .inr ⟨h.next + 1, by omega, Nat.lt_succ_self _, rfl, ?_⟩, by show h.next ≤ h.next + 1 + 1; omega, fun c hc => ?_⟩
    · exact get_new_same (h := h.new (.cells (ob x).cells true 0))
    · exact (get_new_ne (h := h.new (.cells (ob x).cells true 0)) (show c < h.next + 1 by omega)).trans (get_new_ne (by omega))
  · subst h3
    have hg : (h.new (.cells (ob x).cells true 0)).get b = some (.cells (oc L) true 2) := by rw [get_new_ne h2]; exact h4
    refine ⟨_, _, app_full hg (oc_len L) hsrc rfl (by omega) (by omega), .inr ⟨h.next + 1, by omega, Nat.lt_succ_self _, by rw [List.length_append]; rfl, ?_⟩, by show h.next ≤ h.next + 1 + 1; omega, fun c hc => ?_⟩
    · have := get_new_same (h := (h.new (.cells (ob x).cells true 0)).del b) (x := .cells (oc L ++ (ob x).cells) true 2)
      rw [show ((h.new (.cells (ob x).cells true 0)).del b).next = h.next + 1 from rfl] at this
      rw [this, oc_app]
      rfl
    · have hne : c ≠ b := by omega
      exact (get_new_ne (h := (h.new (.cells (ob x).cells true 0)).del b) (show c < h.next + 1 by omega)).trans ((get_del_ne hne).trans (get_new_ne (by omega)))
/-- How such a row is read. -/
structure Rd (h : Heap) (v : AV) (L : List Id) : Prop where
  len : pV .lenS [v] = some (.int .i64 ((L.length : Nat) : Int))
  get : ∀ i, i < L.length → ∃ b, pV (.iaddrS 2) [v, .int .i64 ((i : Nat) : Int)] = some (.ptr b (i * 2)) ∧ rV .load1 [.ptr b (i * 2)] h = some (.int .i64 ((gI L i).1 : Nat)) ∧ rV .load1 [.ptr b (i * 2 + 1)] h = some (.int .i64 (gI L i).2) ∧ rV (.loadN 2) [.ptr b (i * 2)] h = some (ob (gI L i))
  suf : ∀ k, k ≤ L.length → ∃ w, pV (.slice 2 true false false) [v, .int .i64 ((k : Nat) : Int)] = some w ∧ ∀ h', (∀ b, v = .sl b 0 L.length L.length true → h'.get b = h.get b) → srcV 2 h' w = some (L.length - k, oc (L.drop k))
theorem GR.rd {lo : Nat} {h : Heap} {v : AV} {L : List Id} (hr : GR lo h v L) : Rd h v L := by
  rcases hr with ⟨rfl, rfl⟩ | ⟨b, h1, h2, rfl, h4⟩
  · refine ⟨rfl, fun i hi => by simp at hi, fun k hk => ⟨.nils, ?_, fun h' _ => ?_⟩⟩
    · have : k = 0 := by simpa using hk
      subst this
      rfl
    · have : k = 0 := by simpa using hk
      subst this
      rfl
  · have hol := oc_len L
    refine ⟨rfl, fun i hi => ⟨b, idx_slS3 hi, ?_, ?_, ?_⟩, fun k hk => ?_⟩
    · refine ld1 h4 ?_; rw [gI_eq hi]; exact oc_id hi
    · refine ld1 h4 ?_; rw [gI_eq hi]; exact oc_key hi
    · have := ldN h4 (o := i * 2) (n := 2) (by omega)
      rw [this, ← List.append_nil (oc L), oc_take hi, gI_eq hi]; rfl
    · have bk : Nat.ble k L.length = true := Nat.ble_eq_true_of_le hk
      have bl : Nat.ble L.length L.length = true := Nat.ble_eq_true_of_le (Nat.le_refl _)
      have hp : pV (.slice 2 true false false) [.sl b 0 L.length L.length true, .int .i64 ((k : Nat) : Int)] = cond (Nat.beq L.length k && Nat.beq L.length L.length && (true && !Nat.beq k 0)) (some (.rest b 0 (k * 2))) (some (.sl b (0 + cond (Nat.beq L.length k) 0 (k * 2)) (L.length - k) (L.length - k) true)) := by
        show (match bounds L.length L.length true false false [.int .i64 ((k : Nat) : Int)] with | some (l, h, mm) => _ | none => _) = _
        have : bounds L.length L.length true false false [.int .i64 ((k : Nat) : Int)] = some (k, L.length, L.length) := by
          simp only [bounds, asNat, Option.map_some, bk, bl, Bool.and_self, cond_true]
        rw [this]
        rfl
      rw [hp]
      by_cases e : k = L.length
      · subst e
        rcases Nat.eq_zero_or_pos L.length with e0 | e0
        · have hL := List.eq_nil_of_length_eq_zero e0
          subst hL
          refine ⟨_, rfl, fun h' hh' => ?_⟩
          have hg := hh' b rfl
          rw [h4] at hg
          exact src_new (n := 0) hg rfl
        · have : Nat.beq L.length 0 = false := by cases hb : Nat.beq L.length 0 with | false => rfl | true => (have := Nat.eq_of_beq_eq_true hb; omega)
          rw [Nat.beq_refl, this]
          refine ⟨_, rfl, fun h' _ => ?_⟩
          rw [Nat.sub_self, List.drop_length]
          rfl
      · have : Nat.beq L.length k = false := by cases hb : Nat.beq L.length k with | false => rfl | true => (have := Nat.eq_of_beq_eq_true hb; omega)
        rw [this]
        refine ⟨_, rfl, fun h' hh' => ?_⟩
        have hg := hh' b rfl
        rw [h4] at hg
        show (h'.loadN b (0 + k * 2) ((L.length - k) * 2)).map _ = _
        have b4 : Nat.ble (0 + k * 2 + (L.length - k) * 2) (oc L).length = true := Nat.ble_eq_true_of_le (by omega)
        have : h'.loadN b (0 + k * 2) ((L.length - k) * 2) = some (oc (L.drop k)) := by
          simp only [Heap.loadN, Heap.row, hg, b4, cond_true]
          have h5 : oc L = oc (L.take k) ++ oc (L.drop k) := by rw [← oc_app, List.take_append_drop]
          have h6 : (oc (L.take k)).length = k * 2 := by rw [oc_len, List.length_take, Nat.min_eq_left hk]
          rw [h5, Nat.zero_add, ← h6, List.drop_left', List.take_of_length_le]
          · rw [oc_len, List.length_drop]; omega
          · rfl
        rw [this]
        rfl

def blk : AV → List Nat
  | .sl b _ _ _ _ => [b]
  | _ => []
/-- The document's rank in a heap. -/
structure MR (h : Heap) (m : Nat) (S : List Nat) (L : List Id) : Prop where
  lm : m < h.next
  ex : ∃ v, h.get m = some (.cells [v] true 0) ∧ GR 0 h v L ∧ S = m :: blk v ∧ m ∉ blk v
theorem GR.own {lo : Nat} {h : Heap} {v : AV} {L : List Id} (hr : GR lo h v L) : ∀ b ∈ blk v, lo ≤ b ∧ b < h.next := by
  rcases hr with ⟨_, rfl⟩ | ⟨b, h1, h2, rfl, _⟩
  · intro b hb; simp [blk] at hb
  · intro c hc; simp [blk] at hc; subst hc; exact ⟨h1, h2⟩
theorem GR.low {lo : Nat} {h : Heap} {v : AV} {L : List Id} (hr : GR lo h v L) : GR 0 h v L := by
  rcases hr with hr | ⟨b, h1, h2, h3, h4⟩
  · exact .inl hr
  · exact .inr ⟨b, Nat.zero_le _, h2, h3, h4⟩
theorem GR.kp {lo : Nat} {h h' : Heap} {v : AV} {L : List Id} {T : List Nat} (hr : GR lo h v L) (fr : Fr h h' T) (hd : ∀ b ∈ blk v, b ∉ T) : GR lo h' v L := by
  rcases hr with hr | ⟨b, h1, h2, h3, h4⟩
  · exact .inl hr
  · exact .inr ⟨b, h1, Nat.lt_of_lt_of_le h2 fr.next, h3, by rw [fr.keep b h2 (hd b (by rw [h3]; simp [blk]))]; exact h4⟩
theorem MR.own {h : Heap} {m : Nat} {S : List Nat} {L : List Id} (hr : MR h m S L) : ∀ b ∈ S, b < h.next := by
  obtain ⟨v, h1, h2, rfl, h4⟩ := hr.ex
  intro b hb
  rcases List.mem_cons.1 hb with rfl | hb
  · exact hr.lm
  · exact (h2.own b hb).2
theorem MR.keep {h h' : Heap} {m : Nat} {S T : List Nat} {L : List Id} (hr : MR h m S L) (fr : Fr h h' T) (hd : ∀ b ∈ S, b ∉ T) : MR h' m S L := by
  obtain ⟨v, h1, h2, rfl, h4⟩ := hr.ex
  exact ⟨Nat.lt_of_lt_of_le hr.lm fr.next, v, by rw [fr.keep m hr.lm (hd m (by simp))]; exact h1, h2.kp fr fun b hb => hd b (by simp [hb]), rfl, h4⟩

theorem mat_l {h : Heap} {m : Nat} {S : List Nat} {L : List Id} (hr : MR h m S L) (hl : L.length ≤ 64) (id : Int) {B : Nat} {Q : AX → Env → Heap → Prop}
    (h1 : ∀ e', (∀ y ∈ L, ((y.1 : Nat) : Int) ≠ id) → Q (.exit 0) e' h) (h2 : ∀ e' j, j < L.length → (((gI L j).1 : Nat) : Int) = id → Tr.get e' 4 = some (.int .i64 ((j : Nat) : Int)) → Q .ret e' h) :
    ∀ (n i : Nat) (env : Env), L.length - i = n → i ≤ L.length → (∀ k, k < i → (((gI L k).1 : Nat) : Int) ≠ id) → AllAt env [(0, .ptr m 0), (1, .int .i64 id), (5, .int .i64 ((i : Nat) : Int))] →
    VC fs ms B false (.loop L_escapementref02_Rank_at_0) env h Q := by
  obtain ⟨v, g1, g2, _, _⟩ := hr.ex
  have rd := g2.rd
  intro n
  induction n using Nat.strongRecOn with
  | ind n ih =>
  intro i env hn hi hs henv
  refine vc_slots 4 _ henv ?_
  refine vc_loop (z := true) ?_
  set_option smartUnfolding false in conv => whnf
  refine ⟨_, ld1 g1 rfl, ?_⟩
  set_option smartUnfolding false in conv => whnf
  refine op_some rd.len ?_
  set_option smartUnfolding false in conv => whnf
  refine br (fun hc => ?_) (fun hc => ?_) <;> (try rw [hc]) <;> (set_option smartUnfolding false in conv => whnf)
  · have hlt : i < L.length := by have := of_decide_eq_true hc; omega
    obtain ⟨b, p1, p2, p3, p4⟩ := rd.get i hlt
    refine ⟨_, ld1 g1 rfl, ?_⟩
    set_option smartUnfolding false in conv => whnf
    refine ⟨_, p1, ?_⟩
    set_option smartUnfolding false in conv => whnf
    refine ⟨_, p2, ?_⟩
    set_option smartUnfolding false in conv => whnf
    cases he : ((((gI L i).1 : Nat) : Int) == id) with
    | true =>
      set_option smartUnfolding false in conv => whnf
      exact h2 _ i hlt (by simpa using he) rfl
    | false =>
      set_option smartUnfolding false in conv => whnf
      refine ih (L.length - (i + 1)) (by omega) (i + 1) _ rfl (by omega) (fun k hk => ?_) (by repeat' (first | exact trivial | refine And.intro (by first | with_reducible_and_instances rfl | (refine Eq.trans (b := some (AV.int .i64 _)) rfl (congrArg (fun z => some (AV.int .i64 z)) ?_); first | omega | (simp (disch := omega) only [IntWalk.i64_in] <;> omega)) | rfl) ?_))
      by_cases e : k = i
      · subst e; simpa using he
      · exact hs k (by omega)
  · have hge : i = L.length := by have := of_decide_eq_false hc; omega
    refine h1 _ fun y hy => ?_
    obtain ⟨k, hk, rfl⟩ := mem_gI.1 hy
    exact hs k (by omega)
theorem mat_o {h : Heap} {m : Nat} {S : List Nat} {L : List Id} (hr : MR h m S L) (hl : L.length ≤ 64) (id : Int) {Q : AV → Heap → Prop}
    (h1 : (∀ y ∈ L, ((y.1 : Nat) : Int) ≠ id) → Q (.int .i64 (-1)) h) (h2 : ∀ j, j < L.length → (((gI L j).1 : Nat) : Int) = id → Q (.int .i64 ((j : Nat) : Int)) h) : VD fs ms f_escapementref02_Rank_at [.ptr m 0, .int .i64 id] h Q := by
  refine vd_begin (af := C_escapementref02_Rank_at) rfl (Nat.le_of_ble_eq_true rfl) ?_
  set_option smartUnfolding false in conv => whnf
  refine vc_seq true ?_
  set_option smartUnfolding false in conv => whnf
  refine vc_seqV (vc_seq true ?_)
  set_option smartUnfolding false in conv => whnf
  refine vc_block ?_
  refine mat_l hr hl id ?_ ?_ _ 0 _ rfl (Nat.zero_le _) (fun k hk => by omega) (by repeat' (first | exact trivial | refine And.intro (by first | with_reducible_and_instances rfl | (refine Eq.trans (b := some (AV.int .i64 _)) rfl (congrArg (fun z => some (AV.int .i64 z)) ?_); first | omega | (simp (disch := omega) only [IntWalk.i64_in] <;> omega)) | rfl) ?_))
  · intro e' hn
    show VC fs ms _ _ _ _ _ _
    refine vc_slots 4 [] trivial (vpC_sound (z := true) ?_)
    set_option smartUnfolding false in conv => whnf
    exact h1 hn
  · intro e' j hj he h4
    show endV [.tmp 4] Q .ret e' h
    simp only [endV, resAllV, resOfV, h4]
    exact h2 j hj he
theorem mkey_o {h : Heap} {m : Nat} {S : List Nat} {L : List Id} (hr : MR h m S L) (hl : L.length ≤ 64) (id : Int) {Q : AV → Heap → Prop}
    (h1 : (∀ y ∈ L, ((y.1 : Nat) : Int) ≠ id) → Q (.tup [.int .i64 0, .bool false]) h) (h2 : ∀ y ∈ L, ((y.1 : Nat) : Int) = id → Q (.tup [.int .i64 y.2, .bool true]) h) : VD fs ms f_escapementref02_Rank_Key [.ptr m 0, .int .i64 id] h Q := by
  obtain ⟨v, g1, g2, _, _⟩ := hr.ex
  have rd := g2.rd
  refine vd_start (af := C_escapementref02_Rank_Key) true rfl (Nat.le_of_ble_eq_true rfl) ?_
  set_option smartUnfolding false in conv => whnf
  refine mat_o hr hl id (fun hn => ?_) fun j hj he => ?_
  · set_option smartUnfolding false in conv => whnf
    exact h1 hn
  · set_option smartUnfolding false in conv => whnf
    obtain ⟨b, p1, p2, p3, p4⟩ := rd.get j hj
    refine ⟨_, ld1 g1 rfl, ?_⟩
    set_option smartUnfolding false in conv => whnf
    refine ⟨_, p1, ?_⟩
    set_option smartUnfolding false in conv => whnf
    refine ⟨_, p3, ?_⟩
    set_option smartUnfolding false in conv => whnf
    exact h2 _ (mem_gI.2 ⟨j, hj, rfl⟩) he
theorem mlen_o {h : Heap} {m : Nat} {S : List Nat} {L : List Id} (hr : MR h m S L) {Q : AV → Heap → Prop} (hQ : Q (.int .i64 ((L.length : Nat) : Int)) h) : VD fs ms f_escapementref02_Rank_Len [.ptr m 0] h Q := by
  obtain ⟨v, g1, g2, _, _⟩ := hr.ex
  refine vd_start (af := C_escapementref02_Rank_Len) true rfl (Nat.le_of_ble_eq_true rfl) ?_
  set_option smartUnfolding false in conv => whnf
  refine ⟨_, ld1 g1 rfl, ?_⟩
  set_option smartUnfolding false in conv => whnf
  refine op_some g2.rd.len ?_
  set_option smartUnfolding false in conv => whnf
  exact hQ
theorem mfirst2_o {h : Heap} {m : Nat} {S : List Nat} {L : List Id} (hr : MR h m S L) {Q : AV → Heap → Prop} (h1 : L = [] → Q (.tup [.int .i64 0, .int .i64 0, .bool false]) h)
    (h2 : 0 < L.length → Q (.tup [.int .i64 ((gI L 0).1 : Nat), .int .i64 (gI L 0).2, .bool true]) h) : VD fs ms f_escapementref02_Rank_First [.ptr m 0] h Q := by
  obtain ⟨v, g1, g2, _, _⟩ := hr.ex
  have rd := g2.rd
  refine vd_start (af := C_escapementref02_Rank_First) true rfl (Nat.le_of_ble_eq_true rfl) ?_
  set_option smartUnfolding false in conv => whnf
  refine ⟨_, ld1 g1 rfl, ?_⟩
  set_option smartUnfolding false in conv => whnf
  refine op_some rd.len ?_
  set_option smartUnfolding false in conv => whnf
  by_cases hL : L = []
  · subst hL
    set_option smartUnfolding false in conv => whnf
    exact h1 rfl
  · have hl : 0 < L.length := List.length_pos_iff.2 hL
    rw [show (((L.length : Nat) : Int) == 0) = false by simp; omega]
    set_option smartUnfolding false in conv => whnf
    obtain ⟨b, p1, p2, p3, p4⟩ := rd.get 0 hl
    refine ⟨_, ld1 g1 rfl, ?_⟩
    set_option smartUnfolding false in conv => whnf
    refine ⟨_, p1, ?_⟩
    set_option smartUnfolding false in conv => whnf
    refine ⟨_, p2, ?_⟩
    set_option smartUnfolding false in conv => whnf
    refine ⟨_, ld1 g1 rfl, ?_⟩
    set_option smartUnfolding false in conv => whnf
    refine ⟨_, p1, ?_⟩
    set_option smartUnfolding false in conv => whnf
    refine ⟨_, p3, ?_⟩
    set_option smartUnfolding false in conv => whnf
    exact h2 hl
end Ir
end Go.Proofs.Ytenafeojcgmnhaa
set_option maxRecDepth 100000
set_option linter.unusedSimpArgs false
set_option linter.unusedVariables false
namespace Go.Proofs.Ytenafeojcgmnhaa
open Go Ads
namespace Ir

def noId (id : Int) (L : List Id) : List Id := L.filter fun y => decide (((y.1 : Nat) : Int) ≠ id)
theorem noId_take {L : List Id} {id : Int} {i : Nat} (h : i < L.length) : noId id (L.take (i + 1)) = noId id (L.take i) ++ (if ((gI L i).1 : Int) ≠ id then [gI L i] else []) := by
  rw [List.take_succ_eq_append_getElem h, gI_eq h, noId, List.filter_append]
  congr 1
  by_cases hc : ((L[i].1 : Nat) : Int) ≠ id
  · rw [if_pos hc]; simp [hc]
  · rw [if_neg hc]; simp at hc; simp [hc]
theorem noId_len (id : Int) (L : List Id) : (noId id L).length ≤ L.length := List.length_filter_le ..

theorem mrem_l {h0 : Heap} {m : Nat} {S : List Nat} {L : List Id} (hr0 : MR h0 m S L) (hl : L.length ≤ 64) (id : Int) {B : Nat} {Q : AX → Env → Heap → Prop}
    (hQ : ∀ h' v' e', Fr h0 h' [] → GR h0.next h' v' (noId id L) → AllAt e' [(0, .ptr m 0), (5, v')] → Q (.exit 0) e' h') :
    ∀ (n i : Nat) (h : Heap) (v' : AV) (env : Env), L.length - i = n → i ≤ L.length → Fr h0 h [] → GR h0.next h v' (noId id (L.take i)) → AllAt env [(0, .ptr m 0), (1, .int .i64 id), (5, v'), (6, .int .i64 ((i : Nat) : Int))] →
    VC fs ms B false (.loop L_escapementref02_Rank_Remove_0) env h Q := by
  intro n
  induction n using Nat.strongRecOn with
  | ind n ih =>
  intro i h v' env hn hi fr hg henv
  obtain ⟨v, g1, g2, _, _⟩ := (hr0.keep fr (by simp)).ex
  have rd := g2.rd
  refine vc_slots 4 _ henv ?_
  refine vc_loop (z := true) ?_
  set_option smartUnfolding false in conv => whnf
  refine ⟨_, ld1 g1 rfl, ?_⟩
  set_option smartUnfolding false in conv => whnf
  refine op_some rd.len ?_
  set_option smartUnfolding false in conv => whnf
  refine br (fun hc => ?_) (fun hc => ?_) <;> (try rw [hc]) <;> (set_option smartUnfolding false in conv => whnf)
  · have hlt : i < L.length := by have := of_decide_eq_true hc; omega
    obtain ⟨b, p1, p2, p3, p4⟩ := rd.get i hlt
    refine ⟨_, ld1 g1 rfl, ?_⟩
    set_option smartUnfolding false in conv => whnf
    refine ⟨_, p1, ?_⟩
    set_option smartUnfolding false in conv => whnf
    refine ⟨_, p2, ?_⟩
    set_option smartUnfolding false in conv => whnf
    have hst := noId_take (id := id) hlt
    cases he : ((((gI L i).1 : Nat) : Int) != id) with
    | true =>
      have hne : ((gI L i).1 : Int) ≠ id := by simpa using he
      rw [if_pos hne] at hst
      set_option smartUnfolding false in conv => whnf
      refine ⟨_, ld1 g1 rfl, ?_⟩
      set_option smartUnfolding false in conv => whnf
      refine ⟨_, p1, ?_⟩
      set_option smartUnfolding false in conv => whnf
      refine ⟨_, p4, ?_⟩
      set_option smartUnfolding false in conv => whnf
      obtain ⟨v2, g', a1, a2, a3, a4⟩ := hg.app fr.next (by have := noId_len id (L.take i); rw [List.length_take] at this; omega) (gI L i)
      refine eff_o a1 fun h2 e2 => ?_
      subst e2
      set_option smartUnfolding false in conv => whnf
      refine ih (L.length - (i + 1)) (by omega) (i + 1) h2 v2 _ rfl (by omega) ⟨by have := fr.next; omega, fun c hc _ => by rw [a4 c hc]; exact fr.keep c hc (by simp)⟩ (by rw [hst]; exact a2) (by repeat' (first | exact trivial | refine And.intro (by first | with_reducible_and_instances rfl | (refine Eq.trans (b := some (AV.int .i64 _)) rfl (congrArg (fun z => some (AV.int .i64 z)) ?_); first | omega | (simp (disch := omega) only [IntWalk.i64_in] <;> omega)) | rfl) ?_))
    | false =>
      have hne : ¬ ((gI L i).1 : Int) ≠ id := by simpa using he
      rw [if_neg hne, List.append_nil] at hst
      set_option smartUnfolding false in conv => whnf
      exact ih (L.length - (i + 1)) (by omega) (i + 1) h v' _ rfl (by omega) fr (by rw [hst]; exact hg) (by repeat' (first | exact trivial | refine And.intro (by first | with_reducible_and_instances rfl | (refine Eq.trans (b := some (AV.int .i64 _)) rfl (congrArg (fun z => some (AV.int .i64 z)) ?_); first | omega | (simp (disch := omega) only [IntWalk.i64_in] <;> omega)) | rfl) ?_))
  · have hge : i = L.length := by have := of_decide_eq_false hc; omega
    subst hge
    rw [List.take_length] at hg
    exact hQ h v' _ fr hg (by repeat' (first | exact trivial | refine And.intro (by first | with_reducible_and_instances rfl | (refine Eq.trans (b := some (AV.int .i64 _)) rfl (congrArg (fun z => some (AV.int .i64 z)) ?_); first | omega | (simp (disch := omega) only [IntWalk.i64_in] <;> omega)) | rfl) ?_))
theorem mrem_o {h : Heap} {m : Nat} {S : List Nat} {L : List Id} (hr : MR h m S L) (hl : L.length ≤ 64) (id : Int) {Q : AV → Heap → Prop}
    (hQ : ∀ h' S', MR h' m S' (noId id L) → Own h h' S S' → Q (.bool (decide (((noId id L).length : Int) < ((L.length : Nat) : Int)))) h') : VD fs ms f_escapementref02_Rank_Remove [.ptr m 0, .int .i64 id] h Q := by
  refine vd_begin (af := C_escapementref02_Rank_Remove) rfl (Nat.le_of_ble_eq_true rfl) ?_
  set_option smartUnfolding false in conv => whnf
  refine vc_seq true ?_
  set_option smartUnfolding false in conv => whnf
  refine vc_seq true ?_
  set_option smartUnfolding false in conv => whnf
  refine vc_seqV (vc_seq true ?_)
  set_option smartUnfolding false in conv => whnf
  refine vc_block ?_
  refine mrem_l hr hl id ?_ _ 0 h .nils _ rfl (Nat.zero_le _) (Fr.refl _ _) (.inl ⟨rfl, rfl⟩) (by repeat' (first | exact trivial | refine And.intro (by first | with_reducible_and_instances rfl | (refine Eq.trans (b := some (AV.int .i64 _)) rfl (congrArg (fun z => some (AV.int .i64 z)) ?_); first | omega | (simp (disch := omega) only [IntWalk.i64_in] <;> omega)) | rfl) ?_))
  intro h1 v1 e1 fr hg he
  show VC fs ms _ _ _ _ _ _
  obtain ⟨v, g1, g2, _, _⟩ := (hr.keep fr (by simp)).ex
  refine vc_slots 4 _ he (vpC_sound (z := true) ?_)
  set_option smartUnfolding false in conv => whnf
  refine op_some hg.rd.len ?_
  set_option smartUnfolding false in conv => whnf
  refine ⟨_, ld1 g1 rfl, ?_⟩
  set_option smartUnfolding false in conv => whnf
  refine op_some g2.rd.len ?_
  set_option smartUnfolding false in conv => whnf
  have hlm := hr.lm
  refine eff_o (sto_o (n := 1) (v := v1) g1 ?_ ?_ ?_) fun h2 e2 => ?_
  · rcases hg with ⟨_, rfl⟩ | ⟨b, _, _, rfl, _⟩ <;> rfl
  · simp
  · rcases hg with ⟨_, rfl⟩ | ⟨b, _, _, rfl, _⟩ <;> rfl
  set_option smartUnfolding false in conv => whnf
  have hm1 : m ∉ blk v1 := fun hm => by have := hg.own m hm; omega
  have hS : m ∈ S := by obtain ⟨v0, _, _, rfl, _⟩ := hr.ex; simp
  have fr2 : Fr h1 h2 [m] := by rw [e2]; exact (Fr.refl h1 [m]).set (by simp)
  refine hQ h2 (m :: blk v1) ⟨by have := fr2.next; have := fr.next; omega, v1, ?_, (hg.kp fr2 fun b hb => ?_).low, rfl, hm1⟩ ⟨⟨by have := fr2.next; have := fr.next; omega, fun c hc hn => ?_⟩, fun b hb => ?_⟩
  · rw [e2, get_set_same]
    rcases hg with ⟨_, rfl⟩ | ⟨b, _, _, rfl, _⟩ <;> rfl
  · simp
    rintro rfl
    exact hm1 hb
  · rw [fr2.keep c (Nat.lt_of_lt_of_le hc fr.next) (by simp; rintro rfl; exact hn hS), fr.keep c hc (by simp)]
  · rcases List.mem_cons.1 hb with rfl | hb
    · exact .inl hS
    · exact .inr (hg.own b hb).1

abbrev Pw (L : List Id) : Prop := L.Pairwise (fun x y => ah x y = true)
theorem ins_pw {L : List Id} {x : Id} {k : Nat} (hk : k ≤ L.length) (hp : Pw L) (h1 : ∀ j, j < k → ah (gI L j) x = true) (h2 : k < L.length → ah (gI L k) x = false) (hx : ∀ y ∈ L, y.1 ≠ x.1) : Pw (L.take k ++ x :: L.drop k) ∧ ∀ y, y ∈ L.take k ++ x :: L.drop k ↔ y ∈ L ∨ y = x := by
  have e := List.take_append_drop k L
  have hp2 : Pw (L.take k ++ L.drop k) := by rw [e]; exact hp
  rw [Pw, List.pairwise_append] at hp2
  obtain ⟨pa, pb, pc⟩ := hp2
  have t1 : ∀ y ∈ L.take k, ah y x = true := by
    intro y hy
    obtain ⟨j, hj, rfl⟩ := List.mem_iff_getElem.1 hy
    rw [List.length_take] at hj
    have := h1 j (by omega)
    rw [gI_eq (by omega)] at this
    simpa using this
  have t2 : ∀ y ∈ L.drop k, ah x y = true := by
    intro y hy
    have hlen : k < L.length := by
      rcases Nat.lt_or_ge k L.length with c | c
      · exact c
      · rw [List.drop_eq_nil_of_le c] at hy; cases hy
    have hyL : y ∈ L := List.mem_of_mem_drop hy
    have hk' := h2 hlen
    refine ah_tot (hx y hyL) ?_
    obtain ⟨j, hj, rfl⟩ := List.mem_iff_getElem.1 hy
    rw [List.length_drop] at hj
    rw [List.getElem_drop]
    rcases Nat.eq_zero_or_pos j with rfl | h0
    · rw [gI_eq hlen] at hk'; simpa using hk'
    · have := (List.pairwise_iff_getElem.1 hp) k (k + j) hlen (by omega) (by omega)
      rw [gI_eq hlen] at hk'
      exact ah_tt (ah_as this) hk'
  refine ⟨?_, fun y => ?_⟩
  · rw [Pw, List.pairwise_append, List.pairwise_cons]
    refine ⟨pa, ⟨t2, pb⟩, fun y hy z hz => ?_⟩
    rcases List.mem_cons.1 hz with rfl | hz
    · exact t1 y hy
    · exact pc y hy z hz
  · conv => rhs; rw [← e]
    simp only [List.mem_append, List.mem_cons]
    constructor
    · rintro (h | h | h)
      · exact .inl (.inl h)
      · exact .inr h
      · exact .inl (.inr h)
    · rintro ((h | h) | h)
      · exact .inl h
      · exact .inr (.inr h)
      · exact .inr (.inl h)

theorem dput_l {h0 : Heap} {m s : Nat} {S : List Nat} {L : List Id} {x : Id} (hr0 : MR h0 m S L) (hl : L.length ≤ 64) (hs : h0.get s = some (.cells (ob x).cells true 0)) (hsl : s < h0.next) {B : Nat} {Q : AX → Env → Heap → Prop}
    (hQ : ∀ h' v' k e', k ≤ L.length → (∀ j, j < k → ah (gI L j) x = true) → (k < L.length → ah (gI L k) x = false) → Fr h0 h' [] → GR h0.next h' v' (L.take k) → AllAt e' [(0, .ptr m 0), (3, .ptr s 0), (4, v'), (5, .int .i64 ((k : Nat) : Int))] → Q (.exit 0) e' h') :
    ∀ (n k : Nat) (h : Heap) (v' : AV) (env : Env), L.length - k = n → k ≤ L.length → (∀ j, j < k → ah (gI L j) x = true) → Fr h0 h [] → GR h0.next h v' (L.take k) → AllAt env [(0, .ptr m 0), (3, .ptr s 0), (4, v'), (5, .int .i64 ((k : Nat) : Int))] →
    VC fs ms B false (.loop L_escapementref02_Rank_put_0) env h Q := by
  intro n
  induction n using Nat.strongRecOn with
  | ind n ih =>
  intro k h v' env hn hk ha fr hg henv
  obtain ⟨v, g1, g2, _, _⟩ := (hr0.keep fr (by simp)).ex
  have hs1 : h.get s = some (.cells [.int .i64 (x.1 : Nat), .int .i64 x.2] true 0) := by rw [fr.keep s hsl (by simp)]; exact hs
  have rd := g2.rd
  refine vc_slots 4 _ henv ?_
  refine vc_loopV (vc_seqV ?_)
  refine VC.mono (Q := fun y e2 h2 => h2 = h ∧ ((y = .exit 0 ∧ (k < L.length → ah (gI L k) x = false) ∧ AllAt e2 [(0, .ptr m 0), (3, .ptr s 0), (4, v'), (5, .int .i64 ((k : Nat) : Int))]) ∨ (y = .normal ∧ k < L.length ∧ ah (gI L k) x = true ∧ AllAt e2 [(0, .ptr m 0), (3, .ptr s 0), (4, v'), (5, .int .i64 ((k : Nat) : Int))]))) ?_ ?_
  · refine vpC_sound (z := true) ?_
    set_option smartUnfolding false in conv => whnf
    refine ⟨_, ld1 g1 rfl, ?_⟩
    set_option smartUnfolding false in conv => whnf
    refine op_some rd.len ?_
    set_option smartUnfolding false in conv => whnf
    refine br (fun hc => ?_) (fun hc => ?_) <;> (try rw [hc]) <;> (set_option smartUnfolding false in conv => whnf)
    · have hlt : k < L.length := by have := of_decide_eq_true hc; omega
      obtain ⟨b, p1, p2, p3, p4⟩ := rd.get k hlt
      refine ⟨_, ld1 g1 rfl, ?_⟩
      set_option smartUnfolding false in conv => whnf
      refine ⟨_, p1, ?_⟩
      set_option smartUnfolding false in conv => whnf
      refine ⟨_, p3, ?_⟩
      set_option smartUnfolding false in conv => whnf
      refine ⟨_, ld1 hs1 rfl, ?_⟩
      set_option smartUnfolding false in conv => whnf
      refine br (fun hc => ?_) (fun hc => ?_) <;> (try rw [hc]) <;> (set_option smartUnfolding false in conv => whnf)
      · have h1 : (gI L k).2 < x.2 := of_decide_eq_true hc
        exact ⟨rfl, .inr ⟨rfl, hlt, by rw [ah_iff]; exact .inl h1, rfl, rfl, rfl, rfl, trivial⟩⟩
      · have h1 : ¬ (gI L k).2 < x.2 := of_decide_eq_false hc
        refine ⟨_, ld1 g1 rfl, ?_⟩
        set_option smartUnfolding false in conv => whnf
        refine ⟨_, p1, ?_⟩
        set_option smartUnfolding false in conv => whnf
        refine ⟨_, p3, ?_⟩
        set_option smartUnfolding false in conv => whnf
        refine ⟨_, ld1 hs1 rfl, ?_⟩
        set_option smartUnfolding false in conv => whnf
        cases he : ((gI L k).2 == x.2) with
        | false =>
          have h2 : ¬ (gI L k).2 = x.2 := by simpa using he
          set_option smartUnfolding false in conv => whnf
          exact ⟨rfl, .inl ⟨rfl, fun _ => by rw [← Bool.not_eq_true, ah_iff]; omega, rfl, rfl, rfl, rfl, trivial⟩⟩
        | true =>
          have h2 : (gI L k).2 = x.2 := by simpa using he
          set_option smartUnfolding false in conv => whnf
          refine ⟨_, ld1 g1 rfl, ?_⟩
          set_option smartUnfolding false in conv => whnf
          refine ⟨_, p1, ?_⟩
          set_option smartUnfolding false in conv => whnf
          refine ⟨_, p2, ?_⟩
          set_option smartUnfolding false in conv => whnf
          refine ⟨_, ld1 hs1 rfl, ?_⟩
          set_option smartUnfolding false in conv => whnf
          refine br (fun hc => ?_) (fun hc => ?_) <;> (try rw [hc]) <;> (set_option smartUnfolding false in conv => whnf)
          · have h3 := of_decide_eq_true hc
            exact ⟨rfl, .inr ⟨rfl, hlt, by rw [ah_iff]; omega, rfl, rfl, rfl, rfl, trivial⟩⟩
          · have h3 := of_decide_eq_false hc
            exact ⟨rfl, .inl ⟨rfl, fun _ => by rw [← Bool.not_eq_true, ah_iff]; omega, rfl, rfl, rfl, rfl, trivial⟩⟩
    · have hge : ¬ k < L.length := by have := of_decide_eq_false hc; omega
      exact ⟨rfl, .inl ⟨rfl, fun h => absurd h hge, rfl, rfl, rfl, rfl, trivial⟩⟩
  · rintro y e2 h2 ⟨rfl, (⟨rfl, hn, he⟩ | ⟨rfl, hlt, hah, he⟩)⟩
    · exact hQ h2 v' k e2 hk ha hn fr hg he
    · show VC fs ms _ _ _ _ _ _
      obtain ⟨b, p1, p2, p3, p4⟩ := rd.get k hlt
      refine vc_slots 4 _ he (vpC_sound (z := true) ?_)
      set_option smartUnfolding false in conv => whnf
      refine ⟨_, ld1 g1 rfl, ?_⟩
      set_option smartUnfolding false in conv => whnf
      refine ⟨_, p1, ?_⟩
      set_option smartUnfolding false in conv => whnf
      refine ⟨_, p4, ?_⟩
      set_option smartUnfolding false in conv => whnf
      obtain ⟨v2, g', a1, a2, a3, a4⟩ := hg.app fr.next (by rw [List.length_take]; omega) (gI L k)
      refine eff_o a1 fun h3 e3 => ?_
      subst e3
      set_option smartUnfolding false in conv => whnf
      refine ih (L.length - (k + 1)) (by omega) (k + 1) h3 v2 _ rfl (by omega) (fun j hj => ?_) ⟨by have := fr.next; omega, fun c hc _ => by rw [a4 c hc]; exact fr.keep c hc (by simp)⟩ ?_ (by repeat' (first | exact trivial | refine And.intro (by first | with_reducible_and_instances rfl | (refine Eq.trans (b := some (AV.int .i64 _)) rfl (congrArg (fun z => some (AV.int .i64 z)) ?_); first | omega | (simp (disch := omega) only [IntWalk.i64_in] <;> omega)) | rfl) ?_))
      · by_cases e : j = k
        · subst e; exact hah
        · exact ha j (by omega)
      · rw [List.take_succ_eq_append_getElem hlt, ← gI_eq hlt]; exact a2

theorem dput_o {h : Heap} {m : Nat} {S : List Nat} {L : List Id} {x : Id} (hr : MR h m S L) (hl : L.length ≤ 64) (hp : Pw L) (hx : ∀ y ∈ L, y.1 ≠ x.1) {Q : AV → Heap → Prop}
    (hQ : ∀ h' S' L', MR h' m S' L' → Pw L' → (∀ y, y ∈ L' ↔ y ∈ L ∨ y = x) → Own h h' S S' → Q (.tup []) h') : VD fs ms f_escapementref02_Rank_put [.ptr m 0, ob x] h Q := by
  refine vd_begin (af := C_escapementref02_Rank_put) rfl (Nat.le_of_ble_eq_true rfl) ?_
  set_option smartUnfolding false in conv => whnf
  refine vc_seq true ?_
  set_option smartUnfolding false in conv => whnf
  have fr0 : Fr h (h.new (.cells (ob x).cells true 0)) [] := (Fr.refl h []).new
  have gs : (h.new (.cells (ob x).cells true 0)).get h.next = some (.cells (ob x).cells true 0) := get_new_same
  have hls : h.next < (h.new (.cells (ob x).cells true 0)).next := Nat.lt_succ_self _
  have hr1 := hr.keep fr0 (by simp)
  obtain ⟨h1, e1⟩ : ∃ h1, h1 = h.new (.cells (ob x).cells true 0) := ⟨_, rfl⟩
  rw [← e1] at fr0 gs hls hr1
  change VC fs ms _ _ _ _ (h.new (.cells (ob x).cells true 0)) _
  rw [← e1]
  clear e1
  refine vc_seq true ?_
  set_option smartUnfolding false in conv => whnf
  refine vc_seq true ?_
  set_option smartUnfolding false in conv => whnf
  refine vc_seqV (vc_block ?_)
  refine dput_l (x := x) hr1 hl gs hls ?_ _ 0 h1 .nils _ rfl (Nat.zero_le _) (fun j hj => by omega) (Fr.refl _ _) (.inl ⟨rfl, rfl⟩) (by repeat' (first | exact trivial | refine And.intro (by first | with_reducible_and_instances rfl | (refine Eq.trans (b := some (AV.int .i64 _)) rfl (congrArg (fun z => some (AV.int .i64 z)) ?_); first | omega | (simp (disch := omega) only [IntWalk.i64_in] <;> omega)) | rfl) ?_))
  intro h2 v2 k e2 k1 k2 k3 fr2 g2 he2
  show VC fs ms _ _ _ _ _ _
  obtain ⟨q1, q2⟩ := ins_pw k1 hp k2 k3 hx
  have hr2 := hr1.keep fr2 (by simp)
  obtain ⟨v, gm, gv, hS, hmv⟩ := hr2.ex
  have hs2 : h2.get h.next = some (.cells [.int .i64 (x.1 : Nat), .int .i64 x.2] true 0) := by rw [fr2.keep _ hls (by simp)]; exact gs
  obtain ⟨v3, h3, a1, a2, a3, a4⟩ := g2.app fr2.next (by rw [List.length_take]; omega) x
  refine vc_slots 4 _ he2 (vc_seq true ?_)
  set_option smartUnfolding false in conv => whnf
  refine ⟨_, (show rV (.loadN 2) [.ptr h.next 0] h2 = some (ob x) from (ldN hs2 (o := 0) (n := 2) (by simp)).trans rfl), ?_⟩
  set_option smartUnfolding false in conv => whnf
  refine eff_o a1 fun h3' e3 => ?_
  subst e3
  set_option smartUnfolding false in conv => whnf
  have fr3 : Fr h1 h3' [] := ⟨by have := fr2.next; omega, fun c hc _ => by rw [a4 c hc]; exact fr2.keep c hc (by simp)⟩
  have hr3 := hr1.keep fr3 (by simp)
  obtain ⟨v0, gm3, gv3, hS3, hmv3⟩ := hr3.ex
  refine vpC_sound (z := true) ?_
  set_option smartUnfolding false in conv => whnf
  refine ⟨_, ld1 gm3 rfl, ?_⟩
  set_option smartUnfolding false in conv => whnf
  obtain ⟨w, w1, w2⟩ := gv3.rd.suf k k1
  refine ⟨_, w1, ?_⟩
  set_option smartUnfolding false in conv => whnf
  have hsrc := w2 h3' fun _ _ => rfl
  have hlm1 := hr1.lm
  have happ : ∃ v4 h4, eV (.append 2 16) [v3, w] h3' = some (v4, h4) ∧ GR h1.next h4 v4 (L.take k ++ x :: L.drop k) ∧ Fr h1 h4 [] := by
    have hol : (L.take k ++ [x]).length = k + 1 := by rw [List.length_append, List.length_take]; simp; omega
    rcases a2 with ⟨e, _⟩ | ⟨b, b1, b2, b3, b4⟩
    · simp at e
    · subst b3
      rcases Nat.lt_or_ge k L.length with c | c
      · obtain ⟨n, hn⟩ : ∃ n, L.length - k = n + 1 := ⟨L.length - k - 1, by omega⟩
        rw [hn] at hsrc
        refine ⟨_, _, app_fullN b4 (oc_len _) hsrc (flat_oc _) (by omega) (by omega), .inr ⟨h3'.next, by have := fr3.next; omega, Nat.lt_succ_self _, ?_, ?_⟩, ⟨by show h1.next ≤ h3'.next + 1; have := fr3.next; omega, fun c hc _ => ?_⟩⟩
        · rw [hol]
          have : (L.take k ++ x :: L.drop k).length = k + 1 + (n + 1) := by rw [List.length_append, List.length_take, List.length_cons, List.length_drop]; omega
          rw [this]
        · have := get_new_same (h := h3'.del b) (x := .cells (oc (L.take k ++ [x]) ++ oc (L.drop k)) true 2)
          rw [show (h3'.del b).next = h3'.next from rfl] at this
          rw [this, ← oc_app, List.append_assoc]
          rfl
        · have hne : c ≠ b := by omega
          exact (get_new_ne (h := h3'.del b) (show c < h3'.next by have := fr3.next; omega)).trans ((get_del_ne hne).trans (fr3.keep c hc (by simp)))
      · have : L.length - k = 0 := by omega
        rw [this] at hsrc
        have hd : L.drop k = [] := List.drop_eq_nil_of_le c
        refine ⟨_, _, app_zero hsrc (flat_oc _), ?_, fr3⟩
        rw [hd]
        exact .inr ⟨b, b1, b2, rfl, b4⟩
  obtain ⟨v4, h4, c1, c2, c3⟩ := happ
  refine eff_o c1 fun h4' e4 => ?_
  subst e4
  set_option smartUnfolding false in conv => whnf
  have gm4 : h4'.get m = some (.cells [v0] true 0) := by rw [c3.keep m hlm1 (by simp), ← fr3.keep m hlm1 (by simp)]; exact gm3
  refine eff_o (sto_o (n := 1) (v := v4) gm4 ?_ ?_ ?_) fun h5 e5 => ?_
  · rcases c2 with ⟨_, rfl⟩ | ⟨b, _, _, rfl, _⟩ <;> rfl
  · simp
  · rcases c2 with ⟨_, rfl⟩ | ⟨b, _, _, rfl, _⟩ <;> rfl
  set_option smartUnfolding false in conv => whnf
  have hm1 : m ∉ blk v4 := fun hm => by have := c2.own m hm; omega
  have hmS : m ∈ S := by obtain ⟨v0, _, _, rfl, _⟩ := hr.ex; simp
  have fr5 : Fr h4' h5 [m] := by rw [e5]; exact (Fr.refl h4' [m]).set (by simp)
  have n1 := fr0.next
  have n2 := c3.next
  have n3 := fr5.next
  have n4 := hr.lm
  refine hQ h5 (m :: blk v4) _ ⟨by omega, v4, ?_, (c2.kp fr5 fun b hb => ?_).low, rfl, hm1⟩ q1 q2 ⟨⟨by omega, fun c hc hn => ?_⟩, fun b hb => ?_⟩
  · rw [e5, get_set_same]
    rcases c2 with ⟨_, rfl⟩ | ⟨b, _, _, rfl, _⟩ <;> rfl
  · simp
    rintro rfl
    exact hm1 hb
  · rw [fr5.keep c (by omega) (by simp; rintro rfl; exact hn hmS), c3.keep c (by omega) (by simp), fr0.keep c hc (by simp)]
  · rcases List.mem_cons.1 hb with rfl | hb
    · exact .inl hmS
    · have := (c2.own b hb).1
      exact .inr (by omega)
end Ir
end Go.Proofs.Ytenafeojcgmnhaa
set_option maxRecDepth 100000
set_option linter.unusedSimpArgs false
set_option linter.unusedVariables false
namespace Go.Proofs.Ytenafeojcgmnhaa
open Go Ads
namespace Ir

theorem mnew2_o {h : Heap} {Q : AV → Heap → Prop} (hQ : ∀ h' m, MR h' m [m] [] → h.next ≤ m → Fr h h' [] → Q (.ptr m 0) h') : VD fs ms f_escapementref02_New [] h Q := by
  refine vd_start (af := C_escapementref02_New) true rfl (Nat.le_of_ble_eq_true rfl) ?_
  set_option smartUnfolding false in conv => whnf
  exact hQ _ h.next ⟨Nat.lt_succ_self _, .nils, get_new_same, .inl ⟨rfl, rfl⟩, rfl, by simp [blk]⟩ (Nat.le_refl _) (Fr.refl h []).new
theorem mPut_o {h : Heap} {m : Nat} {S : List Nat} {L : List Id} (hr : MR h m S L) (hl : L.length ≤ 64) (hp : Pw L) (id key : Int) {Q : AV → Heap → Prop} (h1 : id < 0 ∨ 64 ≤ id → Q (.int .i64 9) h)
    (h2 : ∀ y, y ∈ L → id = y.1 → Q (.int .i64 141) h)
    (h3 : ∀ i : Nat, id = i → i < 64 → (∀ y ∈ L, y.1 ≠ i) → ∀ h' S' L', MR h' m S' L' → Pw L' → (∀ y, y ∈ L' ↔ y ∈ L ∨ y = (i, key)) → Own h h' S S' → Q (.int .i64 0) h') : VD fs ms f_escapementref02_Rank_Put [.ptr m 0, .int .i64 id, .int .i64 key] h Q := by
  refine vd_start (af := C_escapementref02_Rank_Put) true rfl (Nat.le_of_ble_eq_true rfl) ?_
  set_option smartUnfolding false in conv => whnf
  refine br (fun hc => ?_) (fun hc => ?_) <;> (try rw [hc]) <;> (set_option smartUnfolding false in conv => whnf)
  · exact h1 (.inl (of_decide_eq_true hc))
  have a1 : ¬ id < 0 := of_decide_eq_false hc
  refine br (fun hc => ?_) (fun hc => ?_) <;> (try rw [hc]) <;> (set_option smartUnfolding false in conv => whnf)
  · exact h1 (.inr (by have := of_decide_eq_true hc; omega))
  have a2 : ¬ id > 63 := of_decide_eq_false hc
  obtain ⟨i, rfl⟩ : ∃ i : Nat, id = i := ⟨id.toNat, by omega⟩
  refine mat_o hr hl _ (fun hn => ?_) fun j hj he => ?_
  · set_option smartUnfolding false in conv => whnf
    have hno : ∀ y ∈ L, y.1 ≠ i := fun y hy e => hn y hy (by rw [e])
    refine dput_o (x := (i, key)) hr hl hp (fun y hy => hno y hy) fun h' S' L' k1 k2 k3 k4 => ?_
    set_option smartUnfolding false in conv => whnf
    exact h3 i rfl (by omega) hno h' S' L' k1 k2 k3 k4
  · set_option smartUnfolding false in conv => whnf
    exact h2 _ (mem_gI.2 ⟨j, hj, rfl⟩) he.symm
theorem mLower_o {h : Heap} {m : Nat} {S : List Nat} {L : List Id} (hr : MR h m S L) (hl : L.length ≤ 64) (hp : Pw L) (hd : ∀ x ∈ L, ∀ y ∈ L, x.1 = y.1 → x = y) (id key : Int) {Q : AV → Heap → Prop} (h1 : id < 0 ∨ 64 ≤ id → Q (.int .i64 9) h)
    (h2 : ¬ (id < 0 ∨ 64 ≤ id) → (∀ y ∈ L, id ≠ (y.1 : Int)) → Q (.int .i64 8) h)
    (h3 : ∀ y : Id, id = (y.1 : Int) → y ∈ L → y.2 < key → Q (.int .i64 2) h)
    (h4 : ∀ y : Id, id = (y.1 : Int) → y ∈ L → key ≤ y.2 → ∀ h' S' L', MR h' m S' L' → Pw L' → (∀ z, z ∈ L' ↔ (z ∈ L ∧ z.1 ≠ y.1) ∨ z = (y.1, key)) → Own h h' S S' → Q (.int .i64 0) h') : VD fs ms f_escapementref02_Rank_Lower [.ptr m 0, .int .i64 id, .int .i64 key] h Q := by
  refine vd_start (af := C_escapementref02_Rank_Lower) true rfl (Nat.le_of_ble_eq_true rfl) ?_
  set_option smartUnfolding false in conv => whnf
  refine br (fun hc => ?_) (fun hc => ?_) <;> (try rw [hc]) <;> (set_option smartUnfolding false in conv => whnf)
  · exact h1 (.inl (of_decide_eq_true hc))
  have a1 : ¬ id < 0 := of_decide_eq_false hc
  refine br (fun hc => ?_) (fun hc => ?_) <;> (try rw [hc]) <;> (set_option smartUnfolding false in conv => whnf)
  · exact h1 (.inr (by have := of_decide_eq_true hc; omega))
  have a2 : ¬ id > 63 := of_decide_eq_false hc
  refine mat_o hr hl _ (fun hn => ?_) fun j hj he => ?_
  · set_option smartUnfolding false in conv => whnf
    exact h2 (by omega) fun y hy e => hn y hy e.symm
  · set_option smartUnfolding false in conv => whnf
    obtain ⟨v, g1, g2, _, _⟩ := hr.ex
    obtain ⟨b, p1, p2, p3, p4⟩ := g2.rd.get j hj
    have hyL : gI L j ∈ L := mem_gI.2 ⟨j, hj, rfl⟩
    refine ⟨_, ld1 g1 rfl, ?_⟩
    set_option smartUnfolding false in conv => whnf
    refine ⟨_, p1, ?_⟩
    set_option smartUnfolding false in conv => whnf
    refine ⟨_, p3, ?_⟩
    set_option smartUnfolding false in conv => whnf
    refine br (fun hc => ?_) (fun hc => ?_) <;> (try rw [hc]) <;> (set_option smartUnfolding false in conv => whnf)
    · exact h3 _ he.symm hyL (of_decide_eq_true hc)
    · have hle : key ≤ (gI L j).2 := by have := of_decide_eq_false hc; omega
      subst he
      refine mrem_o hr hl _ fun h' S' k1 k2 => ?_
      set_option smartUnfolding false in conv => whnf
      have hsub : ∀ z, z ∈ noId ((gI L j).1 : Int) L ↔ z ∈ L ∧ z.1 ≠ (gI L j).1 := by
        intro z
        rw [noId, List.mem_filter]
        simp only [decide_eq_true_eq]
        exact ⟨fun ⟨a, b⟩ => ⟨a, fun e => b (by rw [e])⟩, fun ⟨a, b⟩ => ⟨a, fun e => b (by omega)⟩⟩
      refine dput_o (x := ((gI L j).1, key)) k1 (Nat.le_trans (noId_len _ _) hl) (List.Pairwise.sublist List.filter_sublist hp) (fun y hy => ((hsub y).1 hy).2) fun h2' S2 L2 q1 q2 q3 q4 => ?_
      set_option smartUnfolding false in conv => whnf
      refine h4 _ rfl hyL hle h2' S2 L2 q1 q2 (fun z => by rw [q3, hsub]) ⟨?_, fun b hb => ?_⟩
      · refine ⟨Nat.le_trans k2.fr.next q4.fr.next, fun c hc hn => ?_⟩
        have hn2 : c ∉ S' := fun h' => by
          rcases k2.new c h' with h' | h'
          · exact hn h'
          · omega
        rw [q4.fr.keep c (Nat.lt_of_lt_of_le hc k2.fr.next) hn2, k2.fr.keep c hc hn]
      · rcases q4.new b hb with hb | hb
        · exact k2.new b hb
        · exact .inr (Nat.le_trans k2.fr.next hb)
theorem mPop_o {h : Heap} {m : Nat} {S : List Nat} {L : List Id} (hr : MR h m S L) (hl : L.length ≤ 64) {Q : AV → Heap → Prop} (h1 : L = [] → Q (.tup [.int .i64 0, .int .i64 0, .bool false]) h)
    (h2 : 0 < L.length → ∀ h' S', MR h' m S' (noId ((gI L 0).1 : Int) L) → Own h h' S S' → Q (.tup [.int .i64 ((gI L 0).1 : Nat), .int .i64 (gI L 0).2, .bool true]) h') : VD fs ms f_escapementref02_Rank_Pop [.ptr m 0] h Q := by
  refine vd_start (af := C_escapementref02_Rank_Pop) true rfl (Nat.le_of_ble_eq_true rfl) ?_
  set_option smartUnfolding false in conv => whnf
  refine mfirst2_o hr (fun hL => ?_) fun hl0 => ?_
  · set_option smartUnfolding false in conv => whnf
    exact h1 hL
  · set_option smartUnfolding false in conv => whnf
    refine mrem_o hr hl _ fun h' S' k1 k2 => ?_
    set_option smartUnfolding false in conv => whnf
    exact h2 hl0 h' S' k1 k2
/-- Ids of the document's rank. -/
theorem mids_l {h0 : Heap} {m : Nat} {S : List Nat} {L : List Id} (hr0 : MR h0 m S L) (hl : L.length ≤ 64) {B : Nat} {Q : AX → Env → Heap → Prop}
    (hQ : ∀ h' v' e', Fr h0 h' [] → IRow h0.next h' v' (idl L) → Tr.get e' 3 = some v' → Q (.exit 0) e' h') :
    ∀ (n i : Nat) (h : Heap) (v' : AV) (env : Env), L.length - i = n → i ≤ L.length → Fr h0 h [] → IRow h0.next h v' (idl (L.take i)) → AllAt env [(0, .ptr m 0), (3, v'), (4, .int .i64 ((i : Nat) : Int))] →
    VC fs ms B false (.loop L_escapementref02_Rank_Ids_0) env h Q := by
  intro n
  induction n using Nat.strongRecOn with
  | ind n ih =>
  intro i h v' env hn hi fr hg henv
  obtain ⟨v, g1, g2, _, _⟩ := (hr0.keep fr (by simp)).ex
  have rd := g2.rd
  refine vc_slots 4 _ henv ?_
  refine vc_loop (z := true) ?_
  set_option smartUnfolding false in conv => whnf
  refine ⟨_, ld1 g1 rfl, ?_⟩
  set_option smartUnfolding false in conv => whnf
  refine op_some rd.len ?_
  set_option smartUnfolding false in conv => whnf
  refine br (fun hc => ?_) (fun hc => ?_) <;> (try rw [hc]) <;> (set_option smartUnfolding false in conv => whnf)
  · have hlt : i < L.length := by have := of_decide_eq_true hc; omega
    obtain ⟨b, p1, p2, p3, p4⟩ := rd.get i hlt
    refine ⟨_, ld1 g1 rfl, ?_⟩
    set_option smartUnfolding false in conv => whnf
    refine ⟨_, p1, ?_⟩
    set_option smartUnfolding false in conv => whnf
    refine ⟨_, p2, ?_⟩
    set_option smartUnfolding false in conv => whnf
    obtain ⟨v2, g', a1, a2, a3, a4, a5⟩ := hg.app fr.next (by rw [idl_len, List.length_take]; omega) ((gI L i).1 : Int)
    refine eff_o a1 fun h2 e2 => ?_
    subst e2
    set_option smartUnfolding false in conv => whnf
    refine ih (L.length - (i + 1)) (by omega) (i + 1) h2 v2 _ rfl (by omega) ⟨by have := fr.next; omega, fun c hc _ => ?_⟩ (by rw [idl_take hlt]; exact a2) (by repeat' (first | exact trivial | refine And.intro (by first | with_reducible_and_instances rfl | (refine Eq.trans (b := some (AV.int .i64 _)) rfl (congrArg (fun z => some (AV.int .i64 z)) ?_); first | omega | (simp (disch := omega) only [IntWalk.i64_in] <;> omega)) | rfl) ?_))
    have hcb : offB v' c := by
      rcases hg with ⟨_, rfl⟩ | ⟨b', h1', _, rfl, _⟩
      · intro o n k op e; cases e
      · intro o n k op e; cases e; omega
    rw [a4 c (Nat.lt_of_lt_of_le hc fr.next) hcb]; exact fr.keep c hc (by simp)
  · have hge : i = L.length := by have := of_decide_eq_false hc; omega
    subst hge
    rw [List.take_length] at hg
    exact hQ h v' _ fr hg rfl
theorem mids_o {h : Heap} {m : Nat} {S : List Nat} {L : List Id} (hr : MR h m S L) (hl : L.length ≤ 64) {Q : AV → Heap → Prop} (hQ : ∀ h' v, IRow h.next h' v (idl L) → Fr h h' [] → Q v h') : VD fs ms f_escapementref02_Rank_Ids [.ptr m 0] h Q := by
  refine vd_begin (af := C_escapementref02_Rank_Ids) rfl (Nat.le_of_ble_eq_true rfl) ?_
  set_option smartUnfolding false in conv => whnf
  refine vc_seq true ?_
  set_option smartUnfolding false in conv => whnf
  refine vc_seq true ?_
  set_option smartUnfolding false in conv => whnf
  refine vc_seqV (vc_seq true ?_)
  set_option smartUnfolding false in conv => whnf
  refine vc_block ?_
  refine mids_l hr hl ?_ _ 0 h .nils _ rfl (Nat.zero_le _) (Fr.refl _ _) (.inl ⟨rfl, rfl⟩) (by repeat' (first | exact trivial | refine And.intro (by first | with_reducible_and_instances rfl | (refine Eq.trans (b := some (AV.int .i64 _)) rfl (congrArg (fun z => some (AV.int .i64 z)) ?_); first | omega | (simp (disch := omega) only [IntWalk.i64_in] <;> omega)) | rfl) ?_))
  intro h' v' e' fr hi h3
  show VC fs ms _ _ _ _ _ _
  refine vc_slots 4 [(3, v')] ⟨h3, trivial⟩ (vpC_sound (z := true) ?_)
  set_option smartUnfolding false in conv => whnf
  exact hQ h' v' hi fr

/-- Both ranks in one heap. -/
structure BR (h : Heap) (k p : Nat) (S : List Nat) (L : List Id) (m : Nat) (T : List Nat) (M : List Id) : Prop where
  ra : ∃ P, RAt h k p S L P
  rm : MR h m T M
  pw : Pw M
  mem : ∀ y, y ∈ M ↔ y ∈ L
  dis : ∀ c ∈ S, c ∉ T
variable {h : Heap} {k p m : Nat} {S T : List Nat} {L M : List Id}
theorem Pw.nd {M : List Id} (h : Pw M) : M.Nodup := List.Pairwise.imp (fun {a b} hab e => by subst e; exact ah_ir a hab) h
theorem BR.len (H : BR h k p S L m T M) : M.length = L.length := by
  obtain ⟨P, hr⟩ := H.ra
  exact len_same H.pw.nd hr.pl.nd H.mem
theorem BR.l64 (H : BR h k p S L m T M) : M.length ≤ 64 := by
  obtain ⟨P, hr⟩ := H.ra
  rw [H.len]; exact hr.pl.len64
theorem BR.uniq (H : BR h k p S L m T M) : ∀ x ∈ M, ∀ y ∈ M, x.1 = y.1 → x = y := by
  obtain ⟨P, hr⟩ := H.ra
  exact fun x hx y hy e => hr.pl.uniq ((H.mem x).1 hx) ((H.mem y).1 hy) e
theorem BR.keep {h' : Heap} (H : BR h k p S L m T M) (fr : Fr h h' []) : BR h' k p S L m T M := by
  obtain ⟨P, hr⟩ := H.ra
  exact ⟨⟨P, hr.keep fr (by simp)⟩, H.rm.keep fr (by simp), H.pw, H.mem, H.dis⟩
/-- Behind a call of one, the other is as it was. -/
theorem BR.mid {h1 : Heap} {S1 : List Nat} (H : BR h k p S L m T M) (o : Own h h1 S S1) : MR h1 m T M ∧ ∀ c ∈ S1, c ∉ T := by
  have hd : ∀ c ∈ T, c ∉ S := fun c hc hs => H.dis c hs hc
  exact ⟨H.rm.keep o.fr hd, fun c hc ht => o.away (fun c hc => H.rm.own c hc) hd c ht hc⟩
theorem BR.join {h1 h2 : Heap} {S1 T1 : List Nat} {L1 M1 : List Id} {P1 : Nat → Nat} (r1 : RAt h1 k p S1 L1 P1) (d1 : ∀ c ∈ S1, c ∉ T) (r2 : MR h2 m T1 M1) (o2 : Own h1 h2 T T1) (pw : Pw M1) (mem : ∀ y, y ∈ M1 ↔ y ∈ L1) : BR h2 k p S1 L1 m T1 M1 := by
  refine ⟨⟨P1, r1.keep o2.fr d1⟩, r2, pw, mem, fun c hc ht => ?_⟩
  rcases o2.new c ht with h | h
  · exact d1 c hc h
  · have := r1.own.2.2 c hc; omega
theorem isF_uniq {L : List Id} (hu : ∀ x ∈ L, ∀ y ∈ L, x.1 = y.1 → x = y) {x y : Id} (hx : IsF L x) (hy : IsF L y) : x = y := by
  have a1 := ah_not.1 (hx.2 _ hy.1)
  have a2 := ah_not.1 (hy.2 _ hx.1)
  exact hu _ hx.1 _ hy.1 (by omega)
theorem pw_f {M : List Id} (hp : Pw M) (h0 : 0 < M.length) : IsF M (gI M 0) := by
  refine ⟨mem_gI.2 ⟨0, h0, rfl⟩, fun y hy => ?_⟩
  obtain ⟨i, hi, rfl⟩ := mem_gI.1 hy
  rcases Nat.eq_zero_or_pos i with rfl | hp0
  · rw [ah_not]; omega
  · have := (List.pairwise_iff_getElem.1 hp) 0 i h0 hi hp0
    rw [gI_eq h0, gI_eq hi]
    exact ah_as this
theorem BR.f (H : BR h k p S L m T M) {x : Id} (hx : IsF L x) (h0 : 0 < M.length) : x = gI M 0 := by
  obtain ⟨P, hr⟩ := H.ra
  have hm := pw_f H.pw h0
  exact isF_uniq (fun x hx y hy e => hr.pl.uniq hx hy e) hx ⟨(H.mem _).1 hm.1, fun y hy => hm.2 y ((H.mem y).2 hy)⟩
theorem noId_mem {L : List Id} {i : Nat} : ∀ z, z ∈ noId (i : Int) L ↔ z ∈ L ∧ z.1 ≠ i := by
  intro z
  rw [noId, List.mem_filter]
  simp only [decide_eq_true_eq]
  exact ⟨fun ⟨a, b⟩ => ⟨a, fun e => b (by rw [e])⟩, fun ⟨a, b⟩ => ⟨a, fun e => b (by omega)⟩⟩

theorem own_refl {h : Heap} {S : List Nat} : Own h h S S := ⟨Fr.refl _ _, fun b hb => .inl hb⟩
theorem BR.put (H : BR h k p S L m T M) (id key : Int) : ∃ e : Int, ∀ {Q : AV → Heap → Prop},
    (∀ h1 S1, Own h h1 S S1 → (∀ {Q2 : AV → Heap → Prop}, (∀ h2 L2 T2 M2, BR h2 k p S1 L2 m T2 M2 → Fr h1 h2 T → Q2 (.int .i64 e) h2) → VD fs ms f_escapementref02_Rank_Put [.ptr m 0, .int .i64 id, .int .i64 key] h1 Q2) → Q (.int .i64 e) h1) →
    VD fs ms f_rank_Rank_Put [.ptr k 0, .int .i64 id, .int .i64 key] h Q := by
  obtain ⟨P, hr⟩ := H.ra
  have l64 := H.l64
  by_cases c1 : id < 0 ∨ 64 ≤ id
  · refine ⟨9, fun {Q} hQ => put_o hr id key (fun _ => hQ h S own_refl fun {Q2} h2 => mPut_o H.rm l64 H.pw id key (fun _ => h2 h L T M H (Fr.refl _ _)) (fun y hy e => ?_) fun i hi h64 => by omega) (fun y hy e => ?_) fun i hi h64 => by omega⟩
    · obtain ⟨j, hj, rfl⟩ := mem_gI.1 ((H.mem y).1 hy)
      have := hr.pl.small j hj
      omega
    · obtain ⟨j, hj, rfl⟩ := mem_gI.1 hy
      have := hr.pl.small j hj
      omega
  by_cases c2 : ∃ y ∈ L, id = y.1
  · obtain ⟨y, hy, e⟩ := c2
    refine ⟨141, fun {Q} hQ => put_o hr id key (fun h => absurd h c1) (fun _ _ _ => hQ h S own_refl fun {Q2} h2 => mPut_o H.rm l64 H.pw id key (fun h => absurd h c1) (fun _ _ _ => h2 h L T M H (Fr.refl _ _)) fun i hi h64 hn => ?_) fun i hi h64 hn => ?_⟩
    · exact absurd (show y.1 = i by omega) (hn y ((H.mem y).2 hy))
    · exact absurd (show y.1 = i by omega) (hn y hy)
  · refine ⟨0, fun {Q} hQ => put_o hr id key (fun h => absurd h c1) (fun y hy e => absurd ⟨y, hy, e⟩ c2) fun i hi h64 hn h1 S1 L1 P1 r1 r2 r3 => ?_⟩
    obtain ⟨rm1, d1⟩ := H.mid r3
    refine hQ h1 S1 r3 fun {Q2} h2 => mPut_o rm1 l64 H.pw id key (fun h => absurd h c1) (fun y hy e => absurd ⟨y, (H.mem y).1 hy, e⟩ c2) fun i' hi' _ _ h2' T2 M2 q1 q2 q3 q4 => ?_
    obtain rfl : i = i' := by omega
    exact h2 h2' L1 T2 M2 (BR.join r1 d1 q1 q4 q2 fun y => by rw [q3, r2, H.mem]) q4.fr
theorem BR.lower (H : BR h k p S L m T M) (id key : Int) : ∃ e : Int, ∀ {Q : AV → Heap → Prop},
    (∀ h1 S1, Own h h1 S S1 → (∀ {Q2 : AV → Heap → Prop}, (∀ h2 L2 T2 M2, BR h2 k p S1 L2 m T2 M2 → Fr h1 h2 T → Q2 (.int .i64 e) h2) → VD fs ms f_escapementref02_Rank_Lower [.ptr m 0, .int .i64 id, .int .i64 key] h1 Q2) → Q (.int .i64 e) h1) →
    VD fs ms f_rank_Rank_Lower [.ptr k 0, .int .i64 id, .int .i64 key] h Q := by
  obtain ⟨P, hr⟩ := H.ra
  have l64 := H.l64
  have sm : ∀ y ∈ L, y.1 < 64 := fun y hy => by obtain ⟨j, hj, rfl⟩ := mem_gI.1 hy; exact hr.pl.small j hj
  by_cases c1 : id < 0 ∨ 64 ≤ id
  · refine ⟨9, fun {Q} hQ => lower_o hr id key (fun _ => hQ h S own_refl fun {Q2} h2 => mLower_o H.rm l64 H.pw H.uniq id key (fun _ => h2 h L T M H (Fr.refl _ _)) (fun hn => absurd c1 hn) (fun y e hy => ?_) fun y e hy => ?_) (fun hn => absurd c1 hn) (fun y e hy => ?_) fun y e hy => ?_⟩
    · have := sm y ((H.mem y).1 hy); omega
    · have := sm y ((H.mem y).1 hy); omega
    · have := sm y hy; omega
    · have := sm y hy; omega
  by_cases c2 : ∃ y ∈ L, id = y.1
  · obtain ⟨y, hy, e⟩ := c2
    have ey : ∀ z ∈ L, id = (z.1 : Int) → z = y := fun z hz e2 => hr.pl.uniq hz hy (by omega)
    by_cases c3 : y.2 < key
    · refine ⟨2, fun {Q} hQ => lower_o hr id key (fun h => absurd h c1) (fun _ hn => absurd e (hn y hy)) (fun _ _ _ _ => hQ h S own_refl fun {Q2} h2 => mLower_o H.rm l64 H.pw H.uniq id key (fun h => absurd h c1) (fun _ hn => absurd e (hn y ((H.mem y).2 hy))) (fun _ _ _ _ => h2 h L T M H (Fr.refl _ _)) fun z e2 hz hle => ?_) fun z e2 hz hle => ?_⟩
      · have := ey z ((H.mem z).1 hz) e2; subst this; omega
      · have := ey z hz e2; subst this; omega
    · refine ⟨0, fun {Q} hQ => lower_o hr id key (fun h => absurd h c1) (fun _ hn => absurd e (hn y hy)) (fun z e2 hz hlt => ?_) fun z e2 hz hle h1 S1 L1 P1 r1 r2 r3 => ?_⟩
      · have := ey z hz e2; subst this; exact absurd hlt c3
      · have := ey z hz e2; subst this
        obtain ⟨rm1, d1⟩ := H.mid r3
        refine hQ h1 S1 r3 fun {Q2} h2 => mLower_o rm1 l64 H.pw H.uniq id key (fun h => absurd h c1) (fun _ hn => absurd e (hn z ((H.mem z).2 hy))) (fun w e3 hw hlt => ?_) fun w e3 hw hle' h2' T2 M2 q1 q2 q3 q4 => ?_
        · have := ey w ((H.mem w).1 hw) e3; subst this; exact absurd hlt c3
        · have := ey w ((H.mem w).1 hw) e3; subst this
          exact h2 h2' L1 T2 M2 (BR.join r1 d1 q1 q4 q2 fun y => by rw [q3, r2, H.mem]) q4.fr
  · refine ⟨8, fun {Q} hQ => lower_o hr id key (fun h => absurd h c1) (fun _ _ => hQ h S own_refl fun {Q2} h2 => mLower_o H.rm l64 H.pw H.uniq id key (fun h => absurd h c1) (fun _ _ => h2 h L T M H (Fr.refl _ _)) (fun y e hy => ?_) fun y e hy => ?_) (fun y e hy => ?_) fun y e hy => ?_⟩
    · exact absurd ⟨y, (H.mem y).1 hy, e⟩ c2
    · exact absurd ⟨y, (H.mem y).1 hy, e⟩ c2
    · exact absurd ⟨y, hy, e⟩ c2
    · exact absurd ⟨y, hy, e⟩ c2
theorem BR.remove (H : BR h k p S L m T M) (id : Int) : ∃ e : Bool, ∀ {Q : AV → Heap → Prop},
    (∀ h1 S1, Own h h1 S S1 → (∀ {Q2 : AV → Heap → Prop}, (∀ h2 L2 T2 M2, BR h2 k p S1 L2 m T2 M2 → Fr h1 h2 T → Q2 (.bool e) h2) → VD fs ms f_escapementref02_Rank_Remove [.ptr m 0, .int .i64 id] h1 Q2) → Q (.bool e) h1) →
    VD fs ms f_rank_Rank_Remove [.ptr k 0, .int .i64 id] h Q := by
  obtain ⟨P, hr⟩ := H.ra
  have l64 := H.l64
  by_cases c2 : ∃ y ∈ L, id = y.1
  · obtain ⟨y, hy, e⟩ := c2
    refine ⟨true, fun {Q} hQ => remove_o hr id (fun hn => absurd e (hn y hy)) fun z e2 hz h1 S1 L1 P1 r1 r2 r3 => ?_⟩
    obtain ⟨rm1, d1⟩ := H.mid r3
    subst e2
    refine hQ h1 S1 r3 fun {Q2} h2 => mrem_o rm1 l64 _ fun h2' T2 q1 q2 => ?_
    have hzM := (H.mem z).2 hz
    have hlt : (noId (z.1 : Int) M).length < M.length := by
      have h1 : (noId (z.1 : Int) M).length + 1 = M.length := len_del (List.Nodup.sublist List.filter_sublist H.pw.nd) H.pw.nd hzM (fun w hw e => H.uniq w hw z hzM e) noId_mem
      omega
    rw [show decide (((noId (z.1 : Int) M).length : Int) < ((M.length : Nat) : Int)) = true from decide_eq_true (by omega)]
    exact h2 h2' L1 T2 _ (BR.join r1 d1 q1 q2 (List.Pairwise.sublist List.filter_sublist H.pw) fun y => by rw [noId_mem, r2, H.mem]) q2.fr
  · refine ⟨false, fun {Q} hQ => remove_o hr id (fun hn => hQ h S own_refl fun {Q2} h2 => mrem_o H.rm l64 _ fun h2' T2 q1 q2 => ?_) fun z e2 hz => absurd ⟨z, hz, e2⟩ c2⟩
    have hM : noId id M = M := List.filter_eq_self.2 fun y hy => decide_eq_true fun e => c2 ⟨y, (H.mem y).1 hy, e.symm⟩
    rw [hM] at q1 ⊢
    rw [show decide (((M.length : Nat) : Int) < ((M.length : Nat) : Int)) = false from decide_eq_false (by omega)]
    exact h2 h2' L T2 M (BR.join hr H.dis q1 q2 H.pw H.mem) q2.fr
theorem BR.pop (H : BR h k p S L m T M) : ∃ (x y : Int) (c : Bool), ∀ {Q : AV → Heap → Prop},
    (∀ h1 S1, Own h h1 S S1 → (∀ {Q2 : AV → Heap → Prop}, (∀ h2 L2 T2 M2, BR h2 k p S1 L2 m T2 M2 → Fr h1 h2 T → Q2 (.tup [.int .i64 x, .int .i64 y, .bool c]) h2) → VD fs ms f_escapementref02_Rank_Pop [.ptr m 0] h1 Q2) → Q (.tup [.int .i64 x, .int .i64 y, .bool c]) h1) →
    VD fs ms f_rank_Rank_Pop [.ptr k 0] h Q := by
  obtain ⟨P, hr⟩ := H.ra
  have l64 := H.l64
  have hlen := H.len
  by_cases hM : M = []
  · have hL : L = [] := List.eq_nil_of_length_eq_zero (by rw [← hlen, hM]; rfl)
    refine ⟨0, 0, false, fun {Q} hQ => pop_o hr (fun _ => hQ h S own_refl fun {Q2} h2 => mPop_o H.rm l64 (fun _ => h2 h L T M H (Fr.refl _ _)) fun h0 => ?_) fun x hx => ?_⟩
    · rw [hM] at h0; simp at h0
    · have := hx.1; rw [hL] at this; simp at this
  · have h0 : 0 < M.length := List.length_pos_iff.2 hM
    refine ⟨((gI M 0).1 : Int), (gI M 0).2, true, fun {Q} hQ => pop_o hr (fun hL => ?_) fun x hx h1 S1 L1 P1 r1 _ r2 r3 => ?_⟩
    · rw [hL] at hlen; simp at hlen; exact absurd hlen hM
    · have ex := H.f hx h0
      obtain ⟨rm1, d1⟩ := H.mid r3
      rw [ex]
      refine hQ h1 S1 r3 fun {Q2} h2 => mPop_o rm1 l64 (fun h => absurd h hM) fun _ h2' T2 q1 q2 => ?_
      exact h2 h2' L1 T2 _ (BR.join r1 d1 q1 q2 (List.Pairwise.sublist List.filter_sublist H.pw) fun y => by rw [noId_mem, r2, H.mem, ex]) q2.fr
end Ir
end Go.Proofs.Ytenafeojcgmnhaa
