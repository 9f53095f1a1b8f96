/-
  Rank: the document's rank, a row of ids in order.
-/
import Derived.Test.YtenafeojcgmnhaaVRkE
set_option maxRecDepth 100000
set_option linter.unusedSimpArgs false
set_option linter.unusedVariables false
namespace Go.Proofs.Ytenafeojcgmnhaa
open Go Ads
namespace Ads
/-- Some more behind a row that is full: a new row. -/
theorem app_fullN {h : Heap} {s bytes b m n : Nat} {vs cs : List AV} {x : AV} (hg : h.get b = some (.cells vs true s)) (hv : vs.length = m * s) (hsrc : srcV s h x = some (n + 1, cs)) (hf : flatL cs = true) (hb : bytes ≤ 1048576) (hm : m + n ≤ 1048576) :
    eV (.append s bytes) [.sl b 0 m m true, x] h = some (.sl h.next 0 (m + (n + 1)) (m + (n + 1)) true, (h.del b).new (.cells (vs ++ cs) true s)) := by
  have hmu : (m + (n + 1)) * bytes ≤ 1048577 * 1048576 := Nat.mul_le_mul (by omega) hb
  have b1 : Nat.ble (m + (n + 1)) m = false := by cases hb : Nat.ble (m + (n + 1)) m with | false => rfl | true => (have := Nat.le_of_ble_eq_true hb; omega)
  have b2 : Nat.ble ((m + (n + 1)) * bytes) 140737488355328 = true := Nat.ble_eq_true_of_le (by omega)
  have b3 : Nat.ble (m + (n + 1)) 9223372036854775807 = true := Nat.ble_eq_true_of_le (by omega)
  have b4 : Nat.ble (0 + m * s) vs.length = true := Nat.ble_eq_true_of_le (by omega)
  have b5 : Nat.beq vs.length (0 + m * s) = true := by rw [hv, Nat.zero_add]; exact Nat.beq_refl _
  have hld : h.loadN b 0 (m * s) = some vs := by
    simp only [Heap.loadN, Heap.row, hg, b4, cond_true, List.drop_zero]
    rw [← hv, List.take_length]
  simp only [eV, l2, hsrc]
  show cond (flatL cs) _ _ = _
  rw [hf, cond_true]
  show cond (Nat.beq (n + 1) 0 && Nat.ble m m) _ _ = _
  rw [show Nat.beq (n + 1) 0 = false from rfl, Bool.false_and, cond_false, b1, cond_false, b2, b3, Bool.and_self, cond_true, hg, hld]
  show cond true (cond (true && Nat.beq vs.length (0 + m * s) && Nat.beq m m && Nat.beq s s) _ _) _ = _
  rw [b5, Nat.beq_refl, Nat.beq_refl]
  rfl
/-- Nothing more. -/
theorem app_zero {h : Heap} {s bytes b m : Nat} {x : AV} {cs : List AV} (hsrc : srcV s h x = some (0, cs)) (hf : flatL cs = true) : eV (.append s bytes) [.sl b 0 m m true, x] h = some (.sl b 0 m m true, h) := by
  simp only [eV, l2, hsrc]
  show cond (flatL cs) _ _ = _
  rw [hf, cond_true]
  show cond (Nat.beq 0 0 && Nat.ble m m) _ _ = _
  rw [Nat.ble_eq_true_of_le (Nat.le_refl m)]
  rfl
end Ads
namespace Ir

/-- A row of ids that was made behind the first blocks. -/
def GR (lo : Nat) (h : Heap) (v : AV) (L : List Id) : Prop :=
  (L = [] ∧ v = .nils) ∨ ∃ b, lo ≤ b ∧ b < h.next ∧ v = .sl b 0 L.length L.length true ∧ h.get b = some (.cells (oc L) true 2)
theorem GR.keep {lo : Nat} {h h' : Heap} {v : AV} {L : List Id} (hr : GR lo h v L) (hn : h.next ≤ h'.next) (hk : ∀ c, c < h.next → lo ≤ c → h'.get c = h.get c) : GR lo h' v L := by
  rcases hr with hr | ⟨b, h1, h2, h3, h4⟩
  · exact .inl hr
  · exact .inr ⟨b, h1, by omega, h3, by rw [hk b h2 h1]; exact h4⟩
theorem GR.app {lo : Nat} {h : Heap} {v : AV} {L : List Id} (hr : GR lo h v L) (hlo : lo ≤ h.next) (hl : L.length ≤ 1000) (x : Id) : ∃ v' g', eV (.append 2 16) [v, .sl h.next 0 1 1 false] (h.new (.cells (ob x).cells true 0)) = some (v', g') ∧
    GR lo g' v' (L ++ [x]) ∧ h.next ≤ g'.next ∧ ∀ c, c < lo → g'.get c = h.get c := by
  have hsrc : srcV 2 (h.new (.cells (ob x).cells true 0)) (.sl h.next 0 1 1 false) = some (1, (ob x).cells) := src_new get_new_same rfl
  rcases hr with ⟨h1, h2⟩ | ⟨b, h1, h2, h3, h4⟩
  · subst h1 h2
    refine ⟨_, _, app_nilsS (by omega) hsrc rfl, .inr ⟨h.next + 1, by omega, Nat.lt_succ_self _, rfl, ?_⟩, by show h.next ≤ h.next + 1 + 1; omega, fun c hc => ?_⟩
    · exact get_new_same (h := h.new (.cells (ob x).cells true 0))
    · exact (get_new_ne (h := h.new (.cells (ob x).cells true 0)) (show c < h.next + 1 by omega)).trans (get_new_ne (by omega))
  · subst h3
    have hg : (h.new (.cells (ob x).cells true 0)).get b = some (.cells (oc L) true 2) := by rw [get_new_ne h2]; exact h4
    refine ⟨_, _, app_full hg (oc_len L) hsrc rfl (by omega) (by omega), .inr ⟨h.next + 1, by omega, Nat.lt_succ_self _, by rw [List.length_append]; rfl, ?_⟩, by show h.next ≤ h.next + 1 + 1; omega, fun c hc => ?_⟩
    · have := get_new_same (h := (h.new (.cells (ob x).cells true 0)).del b) (x := .cells (oc L ++ (ob x).cells) true 2)
      rw [show ((h.new (.cells (ob x).cells true 0)).del b).next = h.next + 1 from rfl] at this
      rw [this, oc_app]
      rfl
    · have hne : c ≠ b := by omega
      exact (get_new_ne (h := (h.new (.cells (ob x).cells true 0)).del b) (show c < h.next + 1 by omega)).trans ((get_del_ne hne).trans (get_new_ne (by omega)))
/-- How such a row is read. -/
structure Rd (h : Heap) (v : AV) (L : List Id) : Prop where
  len : pV .lenS [v] = some (.int .i64 ((L.length : Nat) : Int))
  get : ∀ i, i < L.length → ∃ b, pV (.iaddrS 2) [v, .int .i64 ((i : Nat) : Int)] = some (.ptr b (i * 2)) ∧ rV .load1 [.ptr b (i * 2)] h = some (.int .i64 ((gI L i).1 : Nat)) ∧ rV .load1 [.ptr b (i * 2 + 1)] h = some (.int .i64 (gI L i).2) ∧ rV (.loadN 2) [.ptr b (i * 2)] h = some (ob (gI L i))
  suf : ∀ k, k ≤ L.length → ∃ w, pV (.slice 2 true false false) [v, .int .i64 ((k : Nat) : Int)] = some w ∧ ∀ h', (∀ b, v = .sl b 0 L.length L.length true → h'.get b = h.get b) → srcV 2 h' w = some (L.length - k, oc (L.drop k))
theorem GR.rd {lo : Nat} {h : Heap} {v : AV} {L : List Id} (hr : GR lo h v L) : Rd h v L := by
  rcases hr with ⟨rfl, rfl⟩ | ⟨b, h1, h2, rfl, h4⟩
  · refine ⟨rfl, fun i hi => by simp at hi, fun k hk => ⟨.nils, ?_, fun h' _ => ?_⟩⟩
    · have : k = 0 := by simpa using hk
      subst this
      rfl
    · have : k = 0 := by simpa using hk
      subst this
      rfl
  · have hol := oc_len L
    refine ⟨rfl, fun i hi => ⟨b, idx_slS3 hi, ?_, ?_, ?_⟩, fun k hk => ?_⟩
    · refine ld1 h4 ?_; rw [gI_eq hi]; exact oc_id hi
    · refine ld1 h4 ?_; rw [gI_eq hi]; exact oc_key hi
    · have := ldN h4 (o := i * 2) (n := 2) (by omega)
      rw [this, ← List.append_nil (oc L), oc_take hi, gI_eq hi]; rfl
    · have bk : Nat.ble k L.length = true := Nat.ble_eq_true_of_le hk
      have bl : Nat.ble L.length L.length = true := Nat.ble_eq_true_of_le (Nat.le_refl _)
      have hp : pV (.slice 2 true false false) [.sl b 0 L.length L.length true, .int .i64 ((k : Nat) : Int)] = cond (Nat.beq L.length k && Nat.beq L.length L.length && (true && !Nat.beq k 0)) (some (.rest b 0 (k * 2))) (some (.sl b (0 + cond (Nat.beq L.length k) 0 (k * 2)) (L.length - k) (L.length - k) true)) := by
        show (match bounds L.length L.length true false false [.int .i64 ((k : Nat) : Int)] with | some (l, h, mm) => _ | none => _) = _
        have : bounds L.length L.length true false false [.int .i64 ((k : Nat) : Int)] = some (k, L.length, L.length) := by
          simp only [bounds, asNat, Option.map_some, bk, bl, Bool.and_self, cond_true]
        rw [this]
        rfl
      rw [hp]
      by_cases e : k = L.length
      · subst e
        rcases Nat.eq_zero_or_pos L.length with e0 | e0
        · have hL := List.eq_nil_of_length_eq_zero e0
          subst hL
          refine ⟨_, rfl, fun h' hh' => ?_⟩
          have hg := hh' b rfl
          rw [h4] at hg
          exact src_new (n := 0) hg rfl
        · have : Nat.beq L.length 0 = false := by cases hb : Nat.beq L.length 0 with | false => rfl | true => (have := Nat.eq_of_beq_eq_true hb; omega)
          rw [Nat.beq_refl, this]
          refine ⟨_, rfl, fun h' _ => ?_⟩
          rw [Nat.sub_self, List.drop_length]
          rfl
      · have : Nat.beq L.length k = false := by cases hb : Nat.beq L.length k with | false => rfl | true => (have := Nat.eq_of_beq_eq_true hb; omega)
        rw [this]
        refine ⟨_, rfl, fun h' hh' => ?_⟩
        have hg := hh' b rfl
        rw [h4] at hg
        show (h'.loadN b (0 + k * 2) ((L.length - k) * 2)).map _ = _
        have b4 : Nat.ble (0 + k * 2 + (L.length - k) * 2) (oc L).length = true := Nat.ble_eq_true_of_le (by omega)
        have : h'.loadN b (0 + k * 2) ((L.length - k) * 2) = some (oc (L.drop k)) := by
          simp only [Heap.loadN, Heap.row, hg, b4, cond_true]
          have h5 : oc L = oc (L.take k) ++ oc (L.drop k) := by rw [← oc_app, List.take_append_drop]
          have h6 : (oc (L.take k)).length = k * 2 := by rw [oc_len, List.length_take, Nat.min_eq_left hk]
          rw [h5, Nat.zero_add, ← h6, List.drop_left', List.take_of_length_le]
          · rw [oc_len, List.length_drop]; omega
          · rfl
        rw [this]
        rfl

def blk : AV → List Nat
  | .sl b _ _ _ _ => [b]
  | _ => []
/-- The document's rank in a heap. -/
structure MR (h : Heap) (m : Nat) (S : List Nat) (L : List Id) : Prop where
  lm : m < h.next
  ex : ∃ v, h.get m = some (.cells [v] true 0) ∧ GR 0 h v L ∧ S = m :: blk v ∧ m ∉ blk v
theorem GR.own {lo : Nat} {h : Heap} {v : AV} {L : List Id} (hr : GR lo h v L) : ∀ b ∈ blk v, lo ≤ b ∧ b < h.next := by
  rcases hr with ⟨_, rfl⟩ | ⟨b, h1, h2, rfl, _⟩
  · intro b hb; simp [blk] at hb
  · intro c hc; simp [blk] at hc; subst hc; exact ⟨h1, h2⟩
theorem GR.low {lo : Nat} {h : Heap} {v : AV} {L : List Id} (hr : GR lo h v L) : GR 0 h v L := by
  rcases hr with hr | ⟨b, h1, h2, h3, h4⟩
  · exact .inl hr
  · exact .inr ⟨b, Nat.zero_le _, h2, h3, h4⟩
theorem GR.kp {lo : Nat} {h h' : Heap} {v : AV} {L : List Id} {T : List Nat} (hr : GR lo h v L) (fr : Fr h h' T) (hd : ∀ b ∈ blk v, b ∉ T) : GR lo h' v L := by
  rcases hr with hr | ⟨b, h1, h2, h3, h4⟩
  · exact .inl hr
  · exact .inr ⟨b, h1, Nat.lt_of_lt_of_le h2 fr.next, h3, by rw [fr.keep b h2 (hd b (by rw [h3]; simp [blk]))]; exact h4⟩
theorem MR.own {h : Heap} {m : Nat} {S : List Nat} {L : List Id} (hr : MR h m S L) : ∀ b ∈ S, b < h.next := by
  obtain ⟨v, h1, h2, rfl, h4⟩ := hr.ex
  intro b hb
  rcases List.mem_cons.1 hb with rfl | hb
  · exact hr.lm
  · exact (h2.own b hb).2
theorem MR.keep {h h' : Heap} {m : Nat} {S T : List Nat} {L : List Id} (hr : MR h m S L) (fr : Fr h h' T) (hd : ∀ b ∈ S, b ∉ T) : MR h' m S L := by
  obtain ⟨v, h1, h2, rfl, h4⟩ := hr.ex
  exact ⟨Nat.lt_of_lt_of_le hr.lm fr.next, v, by rw [fr.keep m hr.lm (hd m (by simp))]; exact h1, h2.kp fr fun b hb => hd b (by simp [hb]), rfl, h4⟩

theorem mat_l {h : Heap} {m : Nat} {S : List Nat} {L : List Id} (hr : MR h m S L) (hl : L.length ≤ 64) (id : Int) {B : Nat} {Q : AX → Env → Heap → Prop}
    (h1 : ∀ e', (∀ y ∈ L, ((y.1 : Nat) : Int) ≠ id) → Q (.exit 0) e' h) (h2 : ∀ e' j, j < L.length → (((gI L j).1 : Nat) : Int) = id → Tr.get e' 4 = some (.int .i64 ((j : Nat) : Int)) → Q .ret e' h) :
    ∀ (n i : Nat) (env : Env), L.length - i = n → i ≤ L.length → (∀ k, k < i → (((gI L k).1 : Nat) : Int) ≠ id) → AllAt env [(0, .ptr m 0), (1, .int .i64 id), (5, .int .i64 ((i : Nat) : Int))] →
    VC fs ms B false (.loop L_escapementref02_Rank_at_0) env h Q := by
  obtain ⟨v, g1, g2, _, _⟩ := hr.ex
  have rd := g2.rd
  intro n
  induction n using Nat.strongRecOn with
  | ind n ih =>
  intro i env hn hi hs henv
  refine vc_slots 4 _ henv ?_
  refine vc_loop (z := true) ?_
  set_option smartUnfolding false in conv => whnf
  refine ⟨_, ld1 g1 rfl, ?_⟩
  set_option smartUnfolding false in conv => whnf
  refine op_some rd.len ?_
  set_option smartUnfolding false in conv => whnf
  refine br (fun hc => ?_) (fun hc => ?_) <;> (try rw [hc]) <;> (set_option smartUnfolding false in conv => whnf)
  · have hlt : i < L.length := by have := of_decide_eq_true hc; omega
    obtain ⟨b, p1, p2, p3, p4⟩ := rd.get i hlt
    refine ⟨_, ld1 g1 rfl, ?_⟩
    set_option smartUnfolding false in conv => whnf
    refine ⟨_, p1, ?_⟩
    set_option smartUnfolding false in conv => whnf
    refine ⟨_, p2, ?_⟩
    set_option smartUnfolding false in conv => whnf
    cases he : ((((gI L i).1 : Nat) : Int) == id) with
    | true =>
      set_option smartUnfolding false in conv => whnf
      exact h2 _ i hlt (by simpa using he) rfl
    | false =>
      set_option smartUnfolding false in conv => whnf
      refine ih (L.length - (i + 1)) (by omega) (i + 1) _ rfl (by omega) (fun k hk => ?_) (by repeat' (first | exact trivial | refine And.intro (by first | with_reducible_and_instances rfl | (refine Eq.trans (b := some (AV.int .i64 _)) rfl (congrArg (fun z => some (AV.int .i64 z)) ?_); first | omega | (simp (disch := omega) only [IntWalk.i64_in] <;> omega)) | rfl) ?_))
      by_cases e : k = i
      · subst e; simpa using he
      · exact hs k (by omega)
  · have hge : i = L.length := by have := of_decide_eq_false hc; omega
    refine h1 _ fun y hy => ?_
    obtain ⟨k, hk, rfl⟩ := mem_gI.1 hy
    exact hs k (by omega)
theorem mat_o {h : Heap} {m : Nat} {S : List Nat} {L : List Id} (hr : MR h m S L) (hl : L.length ≤ 64) (id : Int) {Q : AV → Heap → Prop}
    (h1 : (∀ y ∈ L, ((y.1 : Nat) : Int) ≠ id) → Q (.int .i64 (-1)) h) (h2 : ∀ j, j < L.length → (((gI L j).1 : Nat) : Int) = id → Q (.int .i64 ((j : Nat) : Int)) h) : VD fs ms f_escapementref02_Rank_at [.ptr m 0, .int .i64 id] h Q := by
  refine vd_begin (af := C_escapementref02_Rank_at) rfl (Nat.le_of_ble_eq_true rfl) ?_
  set_option smartUnfolding false in conv => whnf
  refine vc_seq true ?_
  set_option smartUnfolding false in conv => whnf
  refine vc_seqV (vc_seq true ?_)
  set_option smartUnfolding false in conv => whnf
  refine vc_block ?_
  refine mat_l hr hl id ?_ ?_ _ 0 _ rfl (Nat.zero_le _) (fun k hk => by omega) (by repeat' (first | exact trivial | refine And.intro (by first | with_reducible_and_instances rfl | (refine Eq.trans (b := some (AV.int .i64 _)) rfl (congrArg (fun z => some (AV.int .i64 z)) ?_); first | omega | (simp (disch := omega) only [IntWalk.i64_in] <;> omega)) | rfl) ?_))
  · intro e' hn
    show VC fs ms _ _ _ _ _ _
    refine vc_slots 4 [] trivial (vpC_sound (z := true) ?_)
    set_option smartUnfolding false in conv => whnf
    exact h1 hn
  · intro e' j hj he h4
    show endV [.tmp 4] Q .ret e' h
    simp only [endV, resAllV, resOfV, h4]
    exact h2 j hj he
theorem mkey_o {h : Heap} {m : Nat} {S : List Nat} {L : List Id} (hr : MR h m S L) (hl : L.length ≤ 64) (id : Int) {Q : AV → Heap → Prop}
    (h1 : (∀ y ∈ L, ((y.1 : Nat) : Int) ≠ id) → Q (.tup [.int .i64 0, .bool false]) h) (h2 : ∀ y ∈ L, ((y.1 : Nat) : Int) = id → Q (.tup [.int .i64 y.2, .bool true]) h) : VD fs ms f_escapementref02_Rank_Key [.ptr m 0, .int .i64 id] h Q := by
  obtain ⟨v, g1, g2, _, _⟩ := hr.ex
  have rd := g2.rd
  refine vd_start (af := C_escapementref02_Rank_Key) true rfl (Nat.le_of_ble_eq_true rfl) ?_
  set_option smartUnfolding false in conv => whnf
  refine mat_o hr hl id (fun hn => ?_) fun j hj he => ?_
  · set_option smartUnfolding false in conv => whnf
    exact h1 hn
  · set_option smartUnfolding false in conv => whnf
    obtain ⟨b, p1, p2, p3, p4⟩ := rd.get j hj
    refine ⟨_, ld1 g1 rfl, ?_⟩
    set_option smartUnfolding false in conv => whnf
    refine ⟨_, p1, ?_⟩
    set_option smartUnfolding false in conv => whnf
    refine ⟨_, p3, ?_⟩
    set_option smartUnfolding false in conv => whnf
    exact h2 _ (mem_gI.2 ⟨j, hj, rfl⟩) he
theorem mlen_o {h : Heap} {m : Nat} {S : List Nat} {L : List Id} (hr : MR h m S L) {Q : AV → Heap → Prop} (hQ : Q (.int .i64 ((L.length : Nat) : Int)) h) : VD fs ms f_escapementref02_Rank_Len [.ptr m 0] h Q := by
  obtain ⟨v, g1, g2, _, _⟩ := hr.ex
  refine vd_start (af := C_escapementref02_Rank_Len) true rfl (Nat.le_of_ble_eq_true rfl) ?_
  set_option smartUnfolding false in conv => whnf
  refine ⟨_, ld1 g1 rfl, ?_⟩
  set_option smartUnfolding false in conv => whnf
  refine op_some g2.rd.len ?_
  set_option smartUnfolding false in conv => whnf
  exact hQ
theorem mfirst2_o {h : Heap} {m : Nat} {S : List Nat} {L : List Id} (hr : MR h m S L) {Q : AV → Heap → Prop} (h1 : L = [] → Q (.tup [.int .i64 0, .int .i64 0, .bool false]) h)
    (h2 : 0 < L.length → Q (.tup [.int .i64 ((gI L 0).1 : Nat), .int .i64 (gI L 0).2, .bool true]) h) : VD fs ms f_escapementref02_Rank_First [.ptr m 0] h Q := by
  obtain ⟨v, g1, g2, _, _⟩ := hr.ex
  have rd := g2.rd
  refine vd_start (af := C_escapementref02_Rank_First) true rfl (Nat.le_of_ble_eq_true rfl) ?_
  set_option smartUnfolding false in conv => whnf
  refine ⟨_, ld1 g1 rfl, ?_⟩
  set_option smartUnfolding false in conv => whnf
  refine op_some rd.len ?_
  set_option smartUnfolding false in conv => whnf
  by_cases hL : L = []
  · subst hL
    set_option smartUnfolding false in conv => whnf
    exact h1 rfl
  · have hl : 0 < L.length := List.length_pos_iff.2 hL
    rw [show (((L.length : Nat) : Int) == 0) = false by simp; omega]
    set_option smartUnfolding false in conv => whnf
    obtain ⟨b, p1, p2, p3, p4⟩ := rd.get 0 hl
    refine ⟨_, ld1 g1 rfl, ?_⟩
    set_option smartUnfolding false in conv => whnf
    refine ⟨_, p1, ?_⟩
    set_option smartUnfolding false in conv => whnf
    refine ⟨_, p2, ?_⟩
    set_option smartUnfolding false in conv => whnf
    refine ⟨_, ld1 g1 rfl, ?_⟩
    set_option smartUnfolding false in conv => whnf
    refine ⟨_, p1, ?_⟩
    set_option smartUnfolding false in conv => whnf
    refine ⟨_, p3, ?_⟩
    set_option smartUnfolding false in conv => whnf
    exact h2 hl
end Ir
end Go.Proofs.Ytenafeojcgmnhaa
