/-
  Ready: the document's queue in a heap.
-/
import Derived.Test.YtenafeojcgmnhaaVRdK
set_option maxRecDepth 100000
set_option linter.unusedSimpArgs false
set_option linter.unusedVariables false
namespace Go.Proofs.Ytenafeojcgmnhaa
open Go Ads
namespace Ir

/-- The document's queue: at m, its row at b. -/
structure MAt (h : Heap) (m b es : Nat) (op : Bool) (D : List Int) : Prop where
  hm : h.get m = some (.cells [.sl b 0 D.length D.length op] true 0)
  hb : h.get b = some (.cells (ints D) true es)
  ne : m ≠ b
  lm : m < h.next
  lb : b < h.next
theorem MAt.keep {h h' : Heap} {m b es : Nat} {op : Bool} {D : List Int} {T : List Nat} (hh : MAt h m b es op D) (fr : Fr h h' T) (h1 : m ∉ T) (h2 : b ∉ T) : MAt h' m b es op D :=
  ⟨by rw [fr.keep m hh.lm h1]; exact hh.hm, by rw [fr.keep b hh.lb h2]; exact hh.hb, hh.ne, Nat.lt_of_lt_of_le hh.lm fr.next, Nat.lt_of_lt_of_le hh.lb fr.next⟩
def gD (D : List Int) (i : Nat) : Int := D.getD i 0
theorem gD_eq {D : List Int} {i : Nat} (h : i < D.length) : gD D i = D[i] := by simp [gD, List.getD_eq_getElem?_getD, List.getElem?_eq_getElem h]
theorem gD_set {D : List Int} {i : Nat} (h : i < D.length) (x : Int) (k : Nat) : gD (D.set i x) k = if k = i then x else gD D k := by
  simp only [gD, List.getD_eq_getElem?_getD, List.getElem?_set]
  by_cases hk : i = k
  · subst hk; simp [h]
  · rw [if_neg hk, if_neg (Ne.symm hk)]
theorem MAt.row {h : Heap} {m b es : Nat} {op : Bool} {D : List Int} (hh : MAt h m b es op D) : rV .load1 [.ptr m 0] h = some (.sl b 0 D.length D.length op) := ld1 hh.hm rfl
theorem MAt.get {h : Heap} {m b es : Nat} {op : Bool} {D : List Int} (hh : MAt h m b es op D) {i : Nat} (hi : i < D.length) : rV .load1 [.ptr b (i * 1)] h = some (.int .i64 (gD D i)) := by
  refine ld1 hh.hb ?_
  rw [Nat.mul_one, ints, List.getElem?_map, List.getElem?_eq_getElem hi, gD_eq hi]
  rfl
theorem ints_set {D : List Int} {i : Nat} (hi : i < D.length) (x : Int) : Heap.splice (ints D) (i * 1) [.int .i64 x] = ints (D.set i x) := by
  rw [Nat.mul_one, splice_at _ _ _ (by rw [len_ints]; exact hi), ints, ints, List.map_set]
theorem MAt.put {h : Heap} {m b es : Nat} {op : Bool} {D : List Int} (hh : MAt h m b es op D) {i : Nat} (hi : i < D.length) (x : Int) : eV (.store 1) [.ptr b (i * 1), .int .i64 x] h = some (.undef, h.set b (.cells (ints (D.set i x)) true es)) := by
  rw [← ints_set hi]
  exact sto_o (n := 1) (v := .int .i64 x) hh.hb rfl (by rw [len_ints, Nat.mul_one]; exact hi) rfl
theorem MAt.next {h : Heap} {m b es : Nat} {op : Bool} {D : List Int} (hh : MAt h m b es op D) (i : Nat) (x : Int) : MAt (h.set b (.cells (ints (D.set i x)) true es)) m b es op (D.set i x) :=
  ⟨by rw [get_set_ne hh.ne, List.length_set]; exact hh.hm, get_set_same, hh.ne, hh.lm, hh.lb⟩

/-- Has a task a job? -/
def hasD (D : List Int) (id : Int) : Bool := decide (0 ≤ id) && (decide (id < (D.length : Int)) && decide (0 ≤ gD D id.toNat))
theorem has_o {h : Heap} {m b es : Nat} {op : Bool} {D : List Int} (hh : MAt h m b es op D) (id : Int) {Q : AV → Heap → Prop} (hQ : Q (.bool (hasD D id)) h) : VD fs ms f_escapementref15_Queue_has [.ptr m 0, .int .i64 id] h Q := by
  refine vd_start (af := C_escapementref15_Queue_has) true rfl (Nat.le_of_ble_eq_true rfl) ?_
  unfold hasD at hQ
  set_option smartUnfolding false in conv => whnf
  refine br (fun hc => ?_) (fun hc => ?_) <;> (try rw [hc]) <;> (set_option smartUnfolding false in conv => whnf)
  · have h0 : 0 ≤ id := of_decide_eq_true hc
    obtain ⟨i, rfl⟩ : ∃ i : Nat, id = i := ⟨id.toNat, by omega⟩
    rw [decide_eq_true h0] at hQ
    refine ⟨_, hh.row, ?_⟩
    set_option smartUnfolding false in conv => whnf
    refine br (fun hc => ?_) (fun hc => ?_) <;> (try rw [hc]) <;> (set_option smartUnfolding false in conv => whnf)
    · have h1 : i < D.length := by have := of_decide_eq_true hc; omega
      refine ⟨_, hh.row, ?_⟩
      set_option smartUnfolding false in conv => whnf
      refine ⟨_, idx_slS3 h1, ?_⟩
      set_option smartUnfolding false in conv => whnf
      refine ⟨_, hh.get h1, ?_⟩
      set_option smartUnfolding false in conv => whnf
      have hc' : decide ((i : Int) < (D.length : Int)) = true := hc
      rw [hc', Bool.true_and, Bool.true_and] at hQ
      exact hQ
    · have hc' : decide ((i : Int) < (D.length : Int)) = false := hc
      rw [hc', Bool.true_and, Bool.false_and] at hQ
      exact hQ
  · rw [hc, Bool.false_and] at hQ
    exact hQ
theorem mdead_o {h : Heap} {m b es : Nat} {op : Bool} {D : List Int} (hh : MAt h m b es op D) (id : Int) {Q : AV → Heap → Prop} (h1 : hasD D id = false → Q (.tup [.int .i64 0, .bool false]) h)
    (h2 : hasD D id = true → Q (.tup [.int .i64 (gD D id.toNat), .bool true]) h) : VD fs ms f_escapementref15_Queue_Deadline [.ptr m 0, .int .i64 id] h Q := by
  refine vd_start (af := C_escapementref15_Queue_Deadline) true rfl (Nat.le_of_ble_eq_true rfl) ?_
  set_option smartUnfolding false in conv => whnf
  refine has_o hh id ?_
  set_option smartUnfolding false in conv => whnf
  cases hb : hasD D id with
  | false =>
    set_option smartUnfolding false in conv => whnf
    exact h1 hb
  | true =>
    have hb' := hb
    simp only [hasD, Bool.and_eq_true, decide_eq_true_eq] at hb'
    obtain ⟨i, rfl⟩ : ∃ i : Nat, id = i := ⟨id.toNat, by omega⟩
    set_option smartUnfolding false in conv => whnf
    refine ⟨_, hh.row, ?_⟩
    set_option smartUnfolding false in conv => whnf
    refine ⟨_, idx_slS3 (by omega), ?_⟩
    set_option smartUnfolding false in conv => whnf
    refine ⟨_, hh.get (by omega), ?_⟩
    set_option smartUnfolding false in conv => whnf
    exact h2 hb
theorem mput_o {h : Heap} {m b es : Nat} {op : Bool} {D : List Int} (hh : MAt h m b es op D) (id d : Int) {Q : AV → Heap → Prop} (h1 : id < 0 ∨ (D.length : Int) ≤ id → Q (.int .i64 9) h) (h2 : ¬ (id < 0 ∨ (D.length : Int) ≤ id) → d < 0 ∨ 1099511627840 < d → Q (.int .i64 2) h)
    (h3 : ¬ (id < 0 ∨ (D.length : Int) ≤ id) → ¬ (d < 0 ∨ 1099511627840 < d) → 0 ≤ gD D id.toNat → Q (.int .i64 141) h)
    (h4 : ¬ (d < 0 ∨ 1099511627840 < d) → ∀ i : Nat, id = i → i < D.length → gD D i < 0 → ∀ h', MAt h' m b es op (D.set i d) → Fr h h' [b] → Q (.int .i64 0) h') : VD fs ms f_escapementref15_Queue_Put [.ptr m 0, .int .i64 id, .int .i64 d] h Q := by
  refine vd_start (af := C_escapementref15_Queue_Put) true rfl (Nat.le_of_ble_eq_true rfl) ?_
  set_option smartUnfolding false in conv => whnf
  refine br (fun hc => ?_) (fun hc => ?_) <;> (try rw [hc]) <;> (set_option smartUnfolding false in conv => whnf)
  · exact h1 (.inl (of_decide_eq_true hc))
  · have i0 : ¬ id < 0 := of_decide_eq_false hc
    refine ⟨_, hh.row, ?_⟩
    set_option smartUnfolding false in conv => whnf
    refine br (fun hc => ?_) (fun hc => ?_) <;> (try rw [hc]) <;> (set_option smartUnfolding false in conv => whnf)
    · exact h1 (.inr (of_decide_eq_true hc))
    · have i1 : ¬ (D.length : Int) ≤ id := of_decide_eq_false hc
      have hin : ¬ (id < 0 ∨ (D.length : Int) ≤ id) := by omega
      obtain ⟨i, rfl⟩ : ∃ i : Nat, id = i := ⟨id.toNat, by omega⟩
      refine br (fun hc => ?_) (fun hc => ?_) <;> (try rw [hc]) <;> (set_option smartUnfolding false in conv => whnf)
      · exact h2 hin (.inl (of_decide_eq_true hc))
      · have d0 : ¬ d < 0 := of_decide_eq_false hc
        refine br (fun hc => ?_) (fun hc => ?_) <;> (try rw [hc]) <;> (set_option smartUnfolding false in conv => whnf)
        · exact h2 hin (.inr (of_decide_eq_true hc))
        · have d1 : ¬ 1099511627840 < d := of_decide_eq_false hc
          have hdn : ¬ (d < 0 ∨ 1099511627840 < d) := by omega
          refine has_o hh _ ?_
          set_option smartUnfolding false in conv => whnf
          cases hb : hasD D (i : Int) with
          | true =>
            have hb' := hb
            simp only [hasD, Bool.and_eq_true, decide_eq_true_eq] at hb'
            set_option smartUnfolding false in conv => whnf
            exact h3 hin hdn hb'.2.2
          | false =>
            have hneg : gD D i < 0 := by
              simp only [hasD, Bool.and_eq_false_iff, decide_eq_false_iff_not, Int.toNat_natCast] at hb
              omega
            set_option smartUnfolding false in conv => whnf
            refine ⟨_, hh.row, ?_⟩
            set_option smartUnfolding false in conv => whnf
            refine ⟨_, idx_slS3 (by omega), ?_⟩
            set_option smartUnfolding false in conv => whnf
            refine eff_o (hh.put (by omega) d) fun h' e' => ?_
            set_option smartUnfolding false in conv => whnf
            exact h4 hdn i rfl (by omega) hneg h' (by rw [e']; exact hh.next i d) (by rw [e']; exact (Fr.refl h [b]).set (by simp))
theorem mremove_o {h : Heap} {m b es : Nat} {op : Bool} {D : List Int} (hh : MAt h m b es op D) (id : Int) {Q : AV → Heap → Prop} (h1 : hasD D id = false → Q (.bool false) h)
    (h2 : ∀ i : Nat, id = i → i < D.length → 0 ≤ gD D i → ∀ h', MAt h' m b es op (D.set i (-1)) → Fr h h' [b] → Q (.bool true) h') : VD fs ms f_escapementref15_Queue_Remove [.ptr m 0, .int .i64 id] h Q := by
  refine vd_start (af := C_escapementref15_Queue_Remove) true rfl (Nat.le_of_ble_eq_true rfl) ?_
  set_option smartUnfolding false in conv => whnf
  refine has_o hh id ?_
  set_option smartUnfolding false in conv => whnf
  cases hb : hasD D id with
  | false =>
    set_option smartUnfolding false in conv => whnf
    exact h1 hb
  | true =>
    simp only [hasD, Bool.and_eq_true, decide_eq_true_eq] at hb
    obtain ⟨i, rfl⟩ : ∃ i : Nat, id = i := ⟨id.toNat, by omega⟩
    set_option smartUnfolding false in conv => whnf
    refine ⟨_, hh.row, ?_⟩
    set_option smartUnfolding false in conv => whnf
    refine ⟨_, idx_slS3 (by omega), ?_⟩
    set_option smartUnfolding false in conv => whnf
    refine eff_o (hh.put (by omega) (-1)) fun h' e' => ?_
    set_option smartUnfolding false in conv => whnf
    exact h2 i rfl (by omega) hb.2.2 h' (by rw [e']; exact hh.next i (-1)) (by rw [e']; exact (Fr.refl h [b]).set (by simp))

theorem MAt.grow {h : Heap} {m b es : Nat} {op : Bool} {D : List Int} (hh : MAt h m b es op D) (ho : (D = [] ∧ op = false) ∨ (op = true ∧ es = 1)) (hl : D.length ≤ 1000) (x : Int) : ∃ v' g', eV (.append 1 8) [.sl b 0 D.length D.length op, .sl h.next 0 1 1 false] (h.new (.cells [.int .i64 x] true 0)) = some (v', g') ∧
    g'.get m = h.get m ∧ v' = .sl (h.next + 1) 0 (D.length + 1) (D.length + 1) true ∧ g'.next = h.next + 2 ∧ g'.get (h.next + 1) = some (.cells (ints (D ++ [x])) true 1) ∧ ∀ c, c < h.next → c ≠ b → g'.get c = h.get c := by
  have hsrc : srcV 1 (h.new (.cells [.int .i64 x] true 0)) (.sl h.next 0 1 1 false) = some (1, [.int .i64 x]) := src_new get_new_same rfl
  have hb : (h.new (.cells [.int .i64 x] true 0)).get b = some (.cells (ints D) true es) := by rw [get_new_ne hh.lb]; exact hh.hb
  have key : ∀ c, c < h.next → c ≠ b → ((h.new (.cells [.int .i64 x] true 0)).new (.cells (ints (D ++ [x])) true 1)).get c = h.get c := fun c hc _ =>
    (get_new_ne (h := h.new (.cells [.int .i64 x] true 0)) (show c < h.next + 1 by omega)).trans (get_new_ne hc)
  rcases ho with ⟨rfl, rfl⟩ | ⟨rfl, rfl⟩
  · refine ⟨_, _, app_shutN (n := 0) hb hsrc rfl (by omega) (by omega), key m hh.lm hh.ne, rfl, rfl, get_new_same (h := h.new (.cells [.int .i64 x] true 0)), key⟩
  · have hi : ints D ++ [.int .i64 x] = ints (D ++ [x]) := by simp [ints]
    have key2 : ∀ c, c < h.next → c ≠ b → (((h.new (.cells [.int .i64 x] true 0)).del b).new (.cells (ints D ++ [.int .i64 x]) true 1)).get c = h.get c := fun c hc hn =>
      (get_new_ne (h := (h.new (.cells [.int .i64 x] true 0)).del b) (show c < h.next + 1 by omega)).trans ((get_del_ne hn).trans (get_new_ne hc))
    refine ⟨_, _, app_full hb (by rw [len_ints, Nat.mul_one]) hsrc rfl (by omega) (by omega), key2 m hh.lm hh.ne, rfl, rfl, ?_, key2⟩
    rw [← hi]
    exact get_new_same (h := (h.new (.cells [.int .i64 x] true 0)).del b)
def rep (i : Nat) : List Int := List.replicate i (-1)
theorem rep_len (i : Nat) : (rep i).length = i := List.length_replicate ..
theorem rep_succ (i : Nat) : rep (i + 1) = rep i ++ [-1] := List.replicate_succ' ..
theorem mnew_loop {n m : Nat} {h0 : Heap} {B : Nat} {Q : AX → Env → Heap → Prop} (h4 : n ≤ 4) (hm0 : h0.next ≤ m) :
    ∀ (k i : Nat) (h : Heap) (b es : Nat) (op : Bool) (env : Env), n - i = k → MAt h m b es op (rep i) → h0.next ≤ b → (rep i = [] ∧ op = false) ∨ (op = true ∧ es = 1) → i ≤ n → Fr h0 h [] →
    AllAt env [(0, .int .i64 ((n : Nat) : Int)), (4, .ptr m 0), (5, .int .i64 ((i : Nat) : Int))] →
    (∀ (h' : Heap) (b' es' : Nat) (op' : Bool) (e' : Env), Tr.get e' 4 = some (.ptr m 0) → MAt h' m b' es' op' (rep n) → h0.next ≤ b' → Fr h0 h' [] → Q (.exit 0) e' h') →
    VC fs ms B false (.loop L_escapementref15_New_0) env h Q := by
  intro k
  induction k using Nat.strongRecOn with
  | ind k ih =>
  intro i h b es op env hk hh hb ho hi fr0 henv hQ
  refine vc_slots 3 [(0, .int .i64 ((n : Nat) : Int)), (4, .ptr m 0), (5, .int .i64 ((i : Nat) : Int))] henv ?_
  refine vc_loop (z := true) ?_
  set_option smartUnfolding false in conv => whnf
  refine br (fun hc => ?_) (fun hc => ?_) <;> (try rw [hc]) <;> (set_option smartUnfolding false in conv => whnf)
  · have hlt : i < n := by have := of_decide_eq_true hc; omega
    refine ⟨_, hh.row, ?_⟩
    set_option smartUnfolding false in conv => whnf
    obtain ⟨v', g', a1, a2, a3, a4, a5, a6⟩ := hh.grow ho (by rw [rep_len]; omega) (-1)
    refine eff_o a1 fun h1 e1 => ?_
    subst e1
    set_option smartUnfolding false in conv => whnf
    have lm := hh.lm
    have lb := hh.lb
    refine eff_o (sto_o (a2.trans hh.hm) (by subst a3; rfl) (Nat.le_refl _) (by subst a3; rfl)) fun h2 e2 => ?_
    set_option smartUnfolding false in conv => whnf
    have hh2 : MAt h2 m (h.next + 1) 1 true (rep (i + 1)) := by
      refine ⟨?_, ?_, by omega, ?_, ?_⟩
      · rw [e2, get_set_same, a3, rep_succ, List.length_append]; rfl
      · rw [e2, get_set_ne (by omega), rep_succ]; exact a5
      · rw [e2]; show m < h1.next; omega
      · rw [e2]; show h.next + 1 < h1.next; omega
    have fr2 : Fr h0 h2 [] := by
      have := fr0.next
      refine ⟨by rw [e2]; show h0.next ≤ h1.next; omega, fun c hc _ => ?_⟩
      rw [e2, get_set_ne (by omega), a6 c (by omega) (by omega)]
      exact fr0.keep c hc (by simp)
    refine ih (n - (i + 1)) (by omega) (i + 1) h2 (h.next + 1) 1 true _ rfl hh2 (by have := fr0.next; omega) (.inr ⟨rfl, rfl⟩) (by omega) fr2 ⟨rfl, rfl, inc_slot (by omega), trivial⟩ hQ
  · have hge : i = n := by have := of_decide_eq_false hc; omega
    subst hge
    exact hQ h b es op _ rfl hh hb fr0
theorem mnew_o {h : Heap} (n : Int) {Q : AV → Heap → Prop} (h1 : n < 0 ∨ 4 < n → Q (.tup [.nilp, .int .i64 2]) h)
    (h2 : ∀ i : Nat, n = i → i ≤ 4 → ∀ h' m b es op, MAt h' m b es op (rep i) → h.next ≤ m → h.next ≤ b → Fr h h' [] → Q (.tup [.ptr m 0, .int .i64 0]) h') : VD fs ms f_escapementref15_New [.int .i64 n] h Q := by
  refine vd_begin (af := C_escapementref15_New) rfl (Nat.le_of_ble_eq_true rfl) ?_
  set_option smartUnfolding false in conv => whnf
  refine vc_seq true ?_
  set_option smartUnfolding false in conv => whnf
  refine vc_seq true ?_
  set_option smartUnfolding false in conv => whnf
  refine br (fun hc => ?_) (fun hc => ?_) <;> (try rw [hc]) <;> (set_option smartUnfolding false in conv => whnf)
  · exact h1 (.inl (of_decide_eq_true hc))
  · have hn0 : ¬ n < 0 := of_decide_eq_false hc
    refine br (fun hc => ?_) (fun hc => ?_) <;> (try rw [hc]) <;> (set_option smartUnfolding false in conv => whnf)
    · exact h1 (.inr (of_decide_eq_true hc))
    · have hn4 : ¬ 4 < n := of_decide_eq_false hc
      obtain ⟨i, rfl⟩ : ∃ i : Nat, n = i := ⟨n.toNat, by omega⟩
      refine vc_seq true ?_
      set_option smartUnfolding false in conv => whnf
      refine vc_seqV (vc_seq true ?_)
      set_option smartUnfolding false in conv => whnf
      refine vc_block ?_
      refine mnew_loop (h0 := h) (n := i) (m := h.next + 1) (by omega) (by omega) _ 0 _ h.next 0 false _ rfl ⟨?_, ?_, by omega, ?_, ?_⟩ (Nat.le_refl _) (.inl ⟨rfl, rfl⟩) (Nat.zero_le _) (Fr.refl h []).new.new ⟨rfl, rfl, rfl, trivial⟩ ?_
      · exact get_new_same (h := h.new _)
      · exact (get_new_ne (h := h.new _) (Nat.lt_succ_self _)).trans get_new_same
      · exact Nat.lt_succ_self _
      · show h.next < h.next + 1 + 1; omega
      intro h' b' es' op' e' g4 k1 k2 k3
      show VC fs ms _ _ _ _ _ _
      refine vc_slots 3 [(4, .ptr (h.next + 1) 0)] ⟨g4, trivial⟩ (vpC_sound (z := true) ?_)
      set_option smartUnfolding false in conv => whnf
      exact h2 i rfl (by omega) h' _ b' es' op' k1 (by omega) k2 k3
end Ir
end Go.Proofs.Ytenafeojcgmnhaa
