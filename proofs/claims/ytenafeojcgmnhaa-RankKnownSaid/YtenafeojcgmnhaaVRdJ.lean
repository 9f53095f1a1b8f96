/-
  Rank: Ids of a few.
-/
import Derived.Test.YtenafeojcgmnhaaVRdI
set_option maxRecDepth 100000
set_option linter.unusedSimpArgs false
set_option linter.unusedVariables false
namespace Go.Proofs.Ytenafeojcgmnhaa
open Go Ads
namespace Ads
theorem src_pre {h : Heap} {b s n cap : Nat} {op wr : Bool} {es : Nat} {cs rest : List AV} (hg : h.get b = some (.cells (cs ++ rest) wr es)) (hl : cs.length = n * s) : srcV s h (.sl b 0 n cap op) = some (n, cs) := by
  have b1 : Nat.ble (0 + n * s) (cs ++ rest).length = true := Nat.ble_eq_true_of_le (by rw [List.length_append]; omega)
  show (h.loadN b 0 (n * s)).map _ = _
  have : h.loadN b 0 (n * s) = some cs := by
    simp only [Heap.loadN, Heap.row, hg, b1, cond_true, List.drop_zero]
    rw [← hl, List.take_left']
    rfl
  rw [this]
  rfl
/-- Behind a row that has no place. -/
theorem app_shut0 {h : Heap} {b s bytes : Nat} {src : AV} {cs : List AV} (hsrc : srcV s h src = some (0, cs)) (hf : flatL cs = true) : eV (.append s bytes) [.sl b 0 0 0 false, src] h = some (.sl b 0 0 0 false, h) := by
  simp only [eV, l2, hsrc]
  show cond (flatL cs) _ _ = _
  rw [hf, cond_true]
  rfl
theorem app_shutN {h : Heap} {b s bytes n es : Nat} {wr : Bool} {vs : List AV} {src : AV} {cs : List AV} (hg : h.get b = some (.cells vs wr es)) (hsrc : srcV s h src = some (n + 1, cs)) (hf : flatL cs = true) (hb : bytes ≤ 1048576) (hn : n ≤ 1048576) :
    eV (.append s bytes) [.sl b 0 0 0 false, src] h = some (.sl h.next 0 (n + 1) (n + 1) true, h.new (.cells cs true s)) := by
  have hm : (n + 1) * bytes ≤ 1048577 * 1048576 := Nat.mul_le_mul (by omega) hb
  have b2 : Nat.ble ((0 + (n + 1)) * bytes) 140737488355328 = true := Nat.ble_eq_true_of_le (by rw [Nat.zero_add]; omega)
  have b3 : Nat.ble (0 + (n + 1)) 9223372036854775807 = true := Nat.ble_eq_true_of_le (by omega)
  have hld : h.loadN b 0 (0 * s) = some [] := by
    have b1 : Nat.ble (0 + 0 * s) vs.length = true := Nat.ble_eq_true_of_le (by omega)
    simp only [Heap.loadN, Heap.row, hg]
    rw [b1, cond_true, Nat.zero_mul]
    rfl
  have b0 : Nat.ble (0 + (n + 1)) 0 = false := by
    cases hb : Nat.ble (0 + (n + 1)) 0 with
    | false => rfl
    | true => have := Nat.le_of_ble_eq_true hb; omega
  simp only [eV, l2, hsrc]
  show cond (flatL cs) _ _ = _
  rw [hf, cond_true]
  show cond (Nat.beq (n + 1) 0 && Nat.ble 0 0) _ _ = _
  rw [show Nat.beq (n + 1) 0 = false from rfl, Bool.false_and, cond_false, b0, cond_false, b2, b3, Bool.and_self, cond_true, hg, hld]
  show some (AV.sl h.next 0 (0 + (n + 1)) (0 + (n + 1)) true, h.new (.cells ([] ++ cs) true s)) = _
  rw [Nat.zero_add, List.nil_append]
end Ads
namespace Ir
theorem flat_oc : ∀ L : List Id, flatL (oc L) = true
  | [] => rfl
  | x :: L => by
    show flatL (.int .i64 (x.1 : Nat) :: .int .i64 x.2 :: oc L) = true
    simp only [flatL, flat_oc L]
    rfl

theorem pdq_few {h : Heap} {b es cap : Nat} {op : Bool} {L : List Id} {rest : List AV} {m : Int} (hh : SAt h b es L rest) (h12 : L.length ≤ 12) {Q : AV → Heap → Prop}
    (hQ : ∀ h' L', SAt h' b es L' rest → RS 0 L.length L L' → Srt L' 0 L.length → Fr h h' [b] → Q (.tup []) h') :
    VD fs ms f_slices_pdqsortCmpFunc_rank_one [.sl b 0 L.length cap op, .int .i64 ((0 : Nat) : Int), .int .i64 ((L.length : Nat) : Int), .int .i64 m, cmpF] h Q := by
  refine vd_start (af := C_slices_pdqsortCmpFunc_rank_one) true rfl (Nat.le_of_ble_eq_true rfl) ?_
  set_option smartUnfolding false in conv => whnf
  refine vc_loop (z := true) ?_
  set_option smartUnfolding false in conv => whnf
  have hd : decide (IntKind.i64.wrap (((L.length : Nat) : Int) - ((0 : Nat) : Int)) ≤ 12) = true := by
    rw [show ((L.length : Nat) : Int) - ((0 : Nat) : Int) = ((L.length : Nat) : Int) by omega, wrap_nat (by omega)]
    exact decide_eq_true (by omega)
  refine brt (hd) (fun hc => ?_)
  (try rw [hc])
  set_option smartUnfolding false in conv => whnf
  refine ins_o hh (by omega) (Nat.zero_le _) (Nat.le_refl _) fun h' L' k1 k2 k3 k4 => ?_
  set_option smartUnfolding false in conv => whnf
  exact hQ h' L' k1 k2 k3 k4
theorem sort_few {h : Heap} {b es cap : Nat} {op : Bool} {L : List Id} {rest : List AV} (hh : SAt h b es L rest) (h12 : L.length ≤ 12) {Q : AV → Heap → Prop}
    (hQ : ∀ h' L', SAt h' b es L' rest → RS 0 L.length L L' → Srt L' 0 L.length → Fr h h' [b] → Q (.tup []) h') :
    VD fs ms f_slices_SortFunc_rank_one_rank_one [.sl b 0 L.length cap op, cmpF] h Q := by
  refine vd_start (af := C_slices_SortFunc_rank_one_rank_one) true rfl (Nat.le_of_ble_eq_true rfl) ?_
  set_option smartUnfolding false in conv => whnf
  obtain ⟨m, hm⟩ := Len_c (n := L.length) (by omega)
  have hu : IntKind.u64.wrap ((L.length : Nat) : Int) = ((L.length : Nat) : Int) := by
    have hlow : ∀ z : Int, IntKind.u64.wrap z = z % 18446744073709551616 := fun z => by simp [IntKind.wrap, IntKind.signed, IntKind.bits]
    rw [hlow]
    omega
  rw [hu]
  refine vd_pure hm ?_
  set_option smartUnfolding false in conv => whnf
  refine pdq_few hh h12 fun h' L' k1 k2 k3 k4 => ?_
  set_option smartUnfolding false in conv => whnf
  exact hQ h' L' k1 k2 k3 k4

/-- A copy of the row. -/
theorem clone_o {h : Heap} {k p : Nat} {S : List Nat} {L : List Id} {P : Nat → Nat} (hr : Row h k p S L P) (h64 : L.length ≤ 64) : ∃ rv, rV .load1 [.ptr p 0] h = some rv ∧ ∀ {Q : AV → Heap → Prop},
    (L = [] → Q .nils h) → (∀ h' c es op, SAt h' c es L [] → h.next ≤ c → Fr h h' [] → Q (.sl c 0 L.length L.length op) h') → VD fs ms f_slices_Clone_rank_one_rank_one [rv] h Q := by
  rcases hr with ⟨hL, _, hg⟩ | ⟨r, cap, rest, _, _, _, hh⟩
  · refine ⟨.nils, ld1 hg rfl, fun {Q} q0 q1 => ?_⟩
    refine vd_start (af := C_slices_Clone_rank_one_rank_one) true rfl (Nat.le_of_ble_eq_true rfl) ?_
    set_option smartUnfolding false in conv => whnf
    exact q0 hL
  · refine ⟨_, hh.row, fun {Q} q0 q1 => ?_⟩
    have hol := oc_len L
    refine vd_start (af := C_slices_Clone_rank_one_rank_one) true rfl (Nat.le_of_ble_eq_true rfl) ?_
    set_option smartUnfolding false in conv => whnf
    have hsrc : ∀ g : Heap, g = h.new (.cells [] true 0) → srcV 2 g (.sl r 0 L.length cap true) = some (L.length, oc L) := by
      rintro g rfl
      exact src_pre (rest := rest) (by rw [get_new_ne hh.lr]; exact hh.hr) hol
    by_cases hl : L.length = 0
    · have hL : L = [] := List.eq_nil_of_length_eq_zero hl
      subst hL
      refine eff_o (app_shut0 (hsrc _ rfl) (flat_oc _)) fun h1 e1 => ?_
      set_option smartUnfolding false in conv => whnf
      refine q1 h1 h.next 0 false ⟨?_, ?_⟩ (Nat.le_refl _) ?_
      · rw [e1, get_new_same]; rfl
      · rw [e1]; exact Nat.lt_succ_self _
      · rw [e1]; exact (Fr.refl h []).new
    · obtain ⟨n, hn⟩ : ∃ n, L.length = n + 1 := ⟨L.length - 1, by omega⟩
      rw [hn] at hsrc ⊢
      refine eff_o (app_shutN get_new_same (hsrc _ rfl) (flat_oc _) (by omega) (by omega)) fun h1 e1 => ?_
      set_option smartUnfolding false in conv => whnf
      rw [hn] at q1
      refine q1 h1 (h.next + 1) 2 true ⟨?_, ?_⟩ (by omega) ?_
      · rw [e1, List.append_nil]; exact get_new_same
      · rw [e1]; exact Nat.lt_succ_self _
      · rw [e1]; exact ((Fr.refl h []).new).new

/-- A row of numbers that was made behind the first blocks. -/
def IRow (lo : Nat) (h : Heap) (v : AV) (l : List Int) : Prop :=
  (l = [] ∧ v = .nils) ∨ ∃ b, lo ≤ b ∧ b < h.next ∧ v = .sl b 0 l.length l.length true ∧ h.get b = some (.cells (ints l) true 1)
def offB (v : AV) (c : Nat) : Prop := ∀ o n k op, v ≠ .sl c o n k op
theorem IRow.keep {lo : Nat} {h h' : Heap} {v : AV} {l : List Int} (hr : IRow lo h v l) (fr : Fr h h' []) : IRow lo h' v l := by
  rcases hr with hr | ⟨b, h1, h2, h3, h4⟩
  · exact .inl hr
  · exact .inr ⟨b, h1, Nat.lt_of_lt_of_le h2 fr.next, h3, by rw [fr.keep b h2 (by simp)]; exact h4⟩
theorem IRow.app {lo : Nat} {h : Heap} {v : AV} {l : List Int} (hr : IRow lo h v l) (hlo : lo ≤ h.next) (hl : l.length ≤ 1048576) (x : Int) : ∃ v' g', eV (.append 1 8) [v, .sl h.next 0 1 1 false] (h.new (.cells [.int .i64 x] true 0)) = some (v', g') ∧
    IRow lo g' v' (l ++ [x]) ∧ h.next ≤ g'.next ∧ (∀ c, c < h.next → offB v c → g'.get c = h.get c) ∧ ∀ c, c < h.next → offB v' c := by
  have hsrc : srcV 1 (h.new (.cells [.int .i64 x] true 0)) (.sl h.next 0 1 1 false) = some (1, [.int .i64 x]) := src_new get_new_same rfl
  have off : ∀ (n k : Nat) c, c < h.next → offB (.sl (h.next + 1) 0 n k true) c := by
    intro n k c hc o n' k' op e
    cases e
    omega
  rcases hr with ⟨h1, h2⟩ | ⟨b, h1, h2, h3, h4⟩
  · subst h1 h2
    refine ⟨_, _, app_nilsS (by omega) hsrc rfl, .inr ⟨h.next + 1, by omega, Nat.lt_succ_self _, rfl, ?_⟩, by show h.next ≤ h.next + 1 + 1; omega, fun c hc _ => ?_, off _ _⟩
    · exact get_new_same (h := h.new (.cells [.int .i64 x] true 0))
    · exact (get_new_ne (h := h.new (.cells [.int .i64 x] true 0)) (show c < h.next + 1 by omega)).trans (get_new_ne hc)
  · subst h3
    have hg : (h.new (.cells [.int .i64 x] true 0)).get b = some (.cells (ints l) true 1) := by rw [get_new_ne h2]; exact h4
    refine ⟨_, _, app_full hg (by rw [len_ints, Nat.mul_one]) hsrc rfl (by omega) hl, .inr ⟨h.next + 1, by omega, Nat.lt_succ_self _, by rw [List.length_append]; rfl, ?_⟩, by show h.next ≤ h.next + 1 + 1; omega, fun c hc ho => ?_, off _ _⟩
    · have := get_new_same (h := (h.new (.cells [.int .i64 x] true 0)).del b) (x := .cells (ints l ++ [.int .i64 x]) true 1)
      rw [show ((h.new (.cells [.int .i64 x] true 0)).del b).next = h.next + 1 from rfl] at this
      rw [this, ints, ints, List.map_append]
      rfl
    · have hne : c ≠ b := by rintro rfl; exact ho _ _ _ _ rfl
      exact (get_new_ne (h := (h.new (.cells [.int .i64 x] true 0)).del b) (show c < h.next + 1 by omega)).trans ((get_del_ne hne).trans (get_new_ne hc))

def idl (L : List Id) : List Int := L.map fun y => (y.1 : Int)
theorem idl_len (L : List Id) : (idl L).length = L.length := by simp [idl]
theorem idl_take {L : List Id} {i : Nat} (h : i < L.length) : idl (L.take (i + 1)) = idl (L.take i) ++ [((gI L i).1 : Int)] := by
  rw [List.take_succ_eq_append_getElem h, gI_eq h, idl, List.map_append]
  rfl
def idsE (v : AV) (c N i : Nat) (op : Bool) : List (Nat × AV) := [(2, v), (18, .sl c 0 N N op), (19, .int .i64 ((N : Nat) : Int)), (20, .int .i64 ((i : Nat) : Int))]
theorem ids_loop {c es N : Nat} {op : Bool} {h0 : Heap} {B : Nat} {Q : AX → Env → Heap → Prop} {L : List Id} (hN : N ≤ 64) (hL : L.length = N) (hc0 : h0.next ≤ c) :
    ∀ (k i : Nat) (h : Heap) (v : AV) (env : Env), N - i = k → SAt h c es L [] → i ≤ N → IRow h0.next h v (idl (L.take i)) → offB v c → Fr h0 h [] →
    AllAt env (idsE v c N i op) →
    (∀ (h' : Heap) (v' : AV) (e' : Env), Tr.get e' 2 = some v' → IRow h0.next h' v' (idl L) → Fr h0 h' [] → Q (.exit 0) e' h') →
    VC fs ms B false (.loop L_rank_Rank_Ids_0) env h Q := by
  intro k
  induction k using Nat.strongRecOn with
  | ind k ih =>
  intro i h v env hk hh hi hr ho fr0 henv hQ
  refine vc_slots 5 (idsE v c N i op) henv ?_
  refine vc_loop (z := true) ?_
  unfold idsE
  set_option smartUnfolding false in conv => whnf
  refine br (fun hc => ?_) (fun hc => ?_) <;> (try rw [hc]) <;> (set_option smartUnfolding false in conv => whnf)
  · have hlt : i < L.length := by have := of_decide_eq_true hc; omega
    refine ⟨_, idx_slS3 (by omega), ?_⟩
    set_option smartUnfolding false in conv => whnf
    refine ⟨_, hh.one hlt, ?_⟩
    set_option smartUnfolding false in conv => whnf
    refine eff_o (sto_o get_new_same rfl (Nat.le_refl _) rfl) fun h1 e1 => ?_
    set_option smartUnfolding false in conv => whnf
    have fr1 : Fr h h1 [] := by rw [e1]; exact ((Fr.refl h []).new (x := _)).setn (Nat.le_refl _)
    have gb : h1.get h.next = some (.cells (ob (gI L i)).cells true 0) := by rw [e1, get_set_same]; rfl
    clear e1
    refine ⟨_, ld1 gb rfl, ?_⟩
    set_option smartUnfolding false in conv => whnf
    have hr1 := hr.keep fr1
    have hlo : h0.next ≤ h1.next := Nat.le_trans fr0.next fr1.next
    obtain ⟨v', g', a1, a2, a3, a4, a5⟩ := hr1.app hlo (by rw [idl_len, List.length_take]; omega) ((gI L i).1 : Int)
    refine eff_o a1 fun h2 e2 => ?_
    subst e2
    set_option smartUnfolding false in conv => whnf
    have hcl : c < h.next := hh.lb
    have hc1 : c < h1.next := Nat.lt_of_lt_of_le hcl fr1.next
    refine ih (N - (i + 1)) (by omega) (i + 1) h2 v' _ rfl ⟨?_, by omega⟩ (by omega) (by rw [idl_take hlt]; exact a2) (a5 c hc1) ⟨by omega, fun b hb _ => ?_⟩ ⟨rfl, rfl, rfl, inc_slot (by omega), trivial⟩ hQ
    · rw [a4 c hc1 ho, fr1.keep c hcl (by simp)]; exact hh.hb
    · have hob : offB v b := by
        rcases hr with ⟨_, rfl⟩ | ⟨b', h1', _, rfl, _⟩
        · intro o n k op e; cases e
        · intro o n k op e; cases e; omega
      rw [a4 b (Nat.lt_of_lt_of_le hb hlo) hob, fr1.keep b (Nat.lt_of_lt_of_le hb fr0.next) (by simp)]
      exact fr0.keep b hb (by simp)
  · have hge : i = N := by have := of_decide_eq_false hc; omega
    subst hge
    refine hQ h v _ rfl ?_ fr0
    rw [← hL, List.take_length] at hr
    exact hr

theorem sort_nil_ev : evD fs ms 100 (.call f_slices_SortFunc_rank_one_rank_one [.nils, cmpF] ⟨0, .nil⟩) (fun r => match r with | .val (.tup []) _ => true | _ => false) = true := by decide
theorem sort_nil : PC fs ms f_slices_SortFunc_rank_one_rank_one [.nils, cmpF] (.tup []) := by
  obtain ⟨r, hr, hk⟩ := ev_sound _ _ _ (evD_true sort_nil_ev)
  split at hk
  · exact ⟨rfl, rfl, _, _, fun B => .closed hr rfl rfl, .clean rfl⟩
  · cases hk
/-- What Ids tells: the ids in order. -/
structure Ord (L M : List Id) : Prop where
  len : M.length = L.length
  mem : ∀ y, y ∈ M ↔ y ∈ L
  dst : Dst M
  srt : Srt M 0 M.length
theorem ids_few {h : Heap} {k p : Nat} {S : List Nat} {L : List Id} {P : Nat → Nat} (hr : RAt h k p S L P) (h12 : L.length ≤ 12) {Q : AV → Heap → Prop}
    (hQ : ∀ h' v M, IRow h.next h' v (idl M) → Ord L M → Fr h h' [] → Q v h') : VD fs ms f_rank_Rank_Ids [.ptr k 0] h Q := by
  refine vd_begin (af := C_rank_Rank_Ids) rfl (Nat.le_of_ble_eq_true rfl) ?_
  set_option smartUnfolding false in conv => whnf
  refine vc_seq true ?_
  set_option smartUnfolding false in conv => whnf
  refine vc_seq true ?_
  set_option smartUnfolding false in conv => whnf
  refine none_o hr ?_
  set_option smartUnfolding false in conv => whnf
  obtain ⟨rv, c1, c2⟩ := clone_o hr.row hr.pl.len64
  refine vc_seq true ?_
  set_option smartUnfolding false in conv => whnf
  refine ⟨_, ld1 hr.hk rfl, ?_⟩
  set_option smartUnfolding false in conv => whnf
  refine ⟨_, c1, ?_⟩
  set_option smartUnfolding false in conv => whnf
  refine c2 (fun hL => ?_) fun h1 c es op hs hc fr => ?_
  · set_option smartUnfolding false in conv => whnf
    refine vc_seq true ?_
    set_option smartUnfolding false in conv => whnf
    refine vd_pure sort_nil ?_
    set_option smartUnfolding false in conv => whnf
    refine vc_seq true ?_
    set_option smartUnfolding false in conv => whnf
    refine vc_loop (z := true) ?_
    set_option smartUnfolding false in conv => whnf
    refine vpC_sound (z := true) ?_
    set_option smartUnfolding false in conv => whnf
    subst hL
    refine hQ h .nils [] (.inl ⟨rfl, rfl⟩) ⟨rfl, fun y => Iff.rfl, ?_, ?_⟩ (Fr.refl _ _)
    · intro i j hi; simp at hi
    · intro i j h1 h2 h3; simp at h3
  · set_option smartUnfolding false in conv => whnf
    refine vc_seq true ?_
    set_option smartUnfolding false in conv => whnf
    refine sort_few hs h12 fun h2 M k1 k2 k3 k4 => ?_
    set_option smartUnfolding false in conv => whnf
    have hML := k2.len
    have hd : Dst M := k2.dst hr.pl.dist
    have fr2 : Fr h h2 [] := ⟨Nat.le_trans fr.next k4.next, fun b hb _ => by
      rw [k4.keep b (Nat.lt_of_lt_of_le hb fr.next) (by simp; omega)]
      exact fr.keep b hb (by simp)⟩
    refine vc_seqV (vc_seq true ?_)
    set_option smartUnfolding false in conv => whnf
    refine vc_block ?_
    have h64 := hr.pl.len64
    refine ids_loop (L := M) (N := L.length) h64 hML.symm hc _ 0 h2 .nils _ rfl k1 (Nat.zero_le _) (.inl ⟨rfl, rfl⟩) (fun o n k op e => by cases e) fr2 ⟨rfl, rfl, rfl, rfl, trivial⟩ ?_
    intro h3 v e3 g2 hi hf
    show VC fs ms _ _ _ _ _ _
    refine vc_slots 3 [(2, v)] ⟨g2, trivial⟩ (vpC_sound (z := true) ?_)
    set_option smartUnfolding false in conv => whnf
    refine hQ h3 v M hi ⟨hML.symm, fun y => ?_, hd, by rw [← hML]; exact k3⟩ hf
    rw [mem_gI, mem_gI]
    have := k2.mem y
    rw [← hML]
    constructor
    · rintro ⟨i, hi, e⟩
      obtain ⟨j, _, j1, j2⟩ := this.2 ⟨i, Nat.zero_le _, hi, e⟩
      exact ⟨j, j1, j2⟩
    · rintro ⟨i, hi, e⟩
      obtain ⟨j, _, j1, j2⟩ := this.1 ⟨i, Nat.zero_le _, hi, e⟩
      exact ⟨j, j1, j2⟩
end Ir
end Go.Proofs.Ytenafeojcgmnhaa
