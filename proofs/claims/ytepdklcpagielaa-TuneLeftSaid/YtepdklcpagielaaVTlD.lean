/-
  Tune: partitions that are given budgets, as the document has it.
-/
import Derived.Test.YtepdklcpagielaaVTlC
set_option maxRecDepth 100000
set_option linter.unusedSimpArgs false
set_option linter.unusedVariables false
namespace Go.Proofs.Ytepdklcpagielaa
open Go Ads
namespace Ads
theorem get_del_at {h : Heap} {b c : Nat} (hn : c ≠ b) : (h.del b).get c = h.get c := by rw [Heap.get_del, if_neg hn]
theorem src_nw {h : Heap} {b s n cap : Nat} {op wr : Bool} {es : Nat} {cs : List AV} (hg : h.get b = some (.cells cs wr es)) (hl : cs.length = n * s) : srcV s h (.sl b 0 n cap op) = some (n, cs) := by
  have b1 : Nat.ble (0 + n * s) cs.length = true := Nat.ble_eq_true_of_le (by omega)
  show (h.loadN b 0 (n * s)).map _ = _
  have : h.loadN b 0 (n * s) = some cs := by
    simp only [Heap.loadN, Heap.row, hg, b1, cond_true, List.drop_zero]
    rw [← hl, List.take_length]
  rw [this]
  rfl
/-- One more behind a row that is full: a new row. -/
theorem app_one {h : Heap} {s bytes b m : Nat} {vs cs : List AV} {x : AV} (hg : h.get b = some (.cells vs true s)) (hv : vs.length = m * s) (hsrc : srcV s h x = some (1, cs)) (hf : flatL cs = true) (hb : bytes ≤ 1048576) (hm : m ≤ 1048576) :
    eV (.append s bytes) [.sl b 0 m m true, x] h = some (.sl h.next 0 (m + 1) (m + 1) true, (h.del b).new (.cells (vs ++ cs) true s)) := by
  have hmu : (m + 1) * bytes ≤ 1048577 * 1048576 := Nat.mul_le_mul (by omega) hb
  have b1 : Nat.ble (m + 1) m = false := by cases hb : Nat.ble (m + 1) m with | false => rfl | true => (have := Nat.le_of_ble_eq_true hb; omega)
  have b2 : Nat.ble ((m + 1) * bytes) 140737488355328 = true := Nat.ble_eq_true_of_le (by omega)
  have b3 : Nat.ble (m + 1) 9223372036854775807 = true := Nat.ble_eq_true_of_le (by omega)
  have b4 : Nat.ble (0 + m * s) vs.length = true := Nat.ble_eq_true_of_le (by omega)
  have b5 : Nat.beq vs.length (0 + m * s) = true := by rw [hv, Nat.zero_add]; exact Nat.beq_refl _
  have hld : h.loadN b 0 (m * s) = some vs := by
    simp only [Heap.loadN, Heap.row, hg, b4, cond_true, List.drop_zero]
    rw [← hv, List.take_length]
  simp only [eV, l2, hsrc]
  show cond (flatL cs) _ _ = _
  rw [hf, cond_true]
  show cond (Nat.beq 1 0 && Nat.ble m m) _ _ = _
  rw [show Nat.beq 1 0 = false from rfl, Bool.false_and, cond_false, b1, cond_false, b2, b3, Bool.and_self, cond_true, hg, hld]
  show cond true (cond (true && Nat.beq vs.length (0 + m * s) && Nat.beq m m && Nat.beq s s) _ _) _ = _
  rw [b5, Nat.beq_refl, Nat.beq_refl]
  rfl
end Ads
namespace Ir

/-- A row of partitions that was made behind the first blocks. -/
def PR (lo : Nat) (h : Heap) (v : AV) (M : List Pt) : Prop := (M = [] ∧ v = .nils) ∨ ∃ b, lo ≤ b ∧ b < h.next ∧ v = .sl b 0 M.length M.length true ∧ h.get b = some (.cells (flatCells (pts M)) true 3)
theorem PR.keep {lo : Nat} {h h' : Heap} {v : AV} {M : List Pt} (hr : PR lo h v M) (fr : Fr h h' []) : PR lo h' v M := by
  rcases hr with hr | ⟨b, h1, h2, h3, h4⟩
  · exact .inl hr
  · exact .inr ⟨b, h1, Nat.lt_of_lt_of_le h2 fr.next, h3, by rw [fr.keep b h2 (by simp)]; exact h4⟩
theorem PR.frz {lo : Nat} {h : Heap} {v : AV} {M : List Pt} (hr : PR lo h v M) : ∃ k, Frz (fun _ => True) h v (.fz k (pts M)) := by
  rcases hr with ⟨rfl, rfl⟩ | ⟨b, h1, h2, rfl, h4⟩
  · exact ⟨3, .nils⟩
  · exact ⟨0, frz_open trivial h4 rfl (size_pts M) (len_pts M).symm (cl_pts M)⟩
theorem PR.app {lo : Nat} {h : Heap} {v : AV} {M : List Pt} (hr : PR lo h v M) (hlo : lo ≤ h.next) (hl : M.length ≤ 1000) (x : Pt) : ∃ v' g', eV (.append 3 40) [v, .sl h.next 0 1 1 false] (h.new (.cells (pt x).cells true 0)) = some (v', g') ∧
    PR lo g' v' (M ++ [x]) ∧ h.next ≤ g'.next ∧ ∀ c, c < lo → g'.get c = h.get c := by
  have hsrc : srcV 3 (h.new (.cells (pt x).cells true 0)) (.sl h.next 0 1 1 false) = some (1, (pt x).cells) := src_nw get_new_same rfl
  have hfa : flatCells (pts (M ++ [x])) = flatCells (pts M) ++ (pt x).cells := by rw [pts, List.map_append, flat_app]; simp [flatCells, pts]
  rcases hr with ⟨h1, h2⟩ | ⟨b, h1, h2, h3, h4⟩
  · subst h1 h2
    refine ⟨_, _, app_nilsS (by omega) hsrc rfl, .inr ⟨h.next + 1, by omega, Nat.lt_succ_self _, rfl, ?_⟩, by show h.next ≤ h.next + 1 + 1; omega, fun c hc => ?_⟩
    · exact get_new_same (h := h.new (.cells (pt x).cells true 0))
    · exact (get_new_ne (h := h.new (.cells (pt x).cells true 0)) (show c < h.next + 1 by omega)).trans (get_new_ne (by omega))
  · subst h3
    have hg : (h.new (.cells (pt x).cells true 0)).get b = some (.cells (flatCells (pts M)) true 3) := by rw [get_new_ne h2]; exact h4
    refine ⟨_, _, app_one hg (by rw [flat_size (size_pts M), len_pts]) hsrc rfl (by omega) (by omega), .inr ⟨h.next + 1, by omega, Nat.lt_succ_self _, by rw [List.length_append]; rfl, ?_⟩, by show h.next ≤ h.next + 1 + 1; omega, fun c hc => ?_⟩
    · have := get_new_same (h := (h.new (.cells (pt x).cells true 0)).del b) (x := .cells (flatCells (pts M) ++ (pt x).cells) true 3)
      rw [show ((h.new (.cells (pt x).cells true 0)).del b).next = h.next + 1 from rfl] at this
      rw [this, hfa]
    · have hne : c ≠ b := by omega
      exact (get_new_ne (h := (h.new (.cells (pt x).cells true 0)).del b) (show c < h.next + 1 by omega)).trans ((get_del_at hne).trans (get_new_ne (by omega)))

theorem rwith_l {k kb : Nat} {L : List Pt} {bs : List Int} {h0 : Heap} (hK : Kinds L) (hb : bs.length = L.length) (hl : L.length ≤ 900) {B : Nat} {Q : AX → Env → Heap → Prop}
    (hQ : ∀ e' h' v, PR h0.next h' v (wL L bs) → Fr h0 h' [] → Tr.get e' 6 = some v → Q (.exit 0) e' h') :
    ∀ (m j : Nat) (h : Heap) (v : AV) (env : Env), L.length - j = m → j ≤ L.length → PR h0.next h v ((wL L bs).take j) → Fr h0 h [] → AllAt env [(0, .fz k (pts L)), (1, .fz kb (ints bs)), (6, v), (7, .int .i64 ((j : Nat) : Int))] →
    VC fs ms B false (.loop L_escapementref30_With_0) env h Q := by
  intro m
  induction m using Nat.strongRecOn with
  | ind m ih =>
  intro j h v env hm hj hr fr henv
  refine vc_slots 4 _ henv ?_
  refine vc_loopV (vc_seq true ?_)
  set_option smartUnfolding false in conv => whnf
  rw [len_pts]
  refine br (fun hc => ?_) (fun hc => ?_) <;> (try rw [hc]) <;> (set_option smartUnfolding false in conv => whnf)
  · have hlt : j < L.length := by have := of_decide_eq_true hc; omega
    have hlb : j < bs.length := by omega
    have hix := idx_pt (k := k) hlt
    have hib := idx_int (l := bs) (j := j) (k := kb) hlb
    have hwl := wL_len hb
    have htk : (wL L bs).take (j + 1) = (wL L bs).take j ++ [wP L[j] bs[j]] := by rw [take_next (by omega), wL_get j (by omega) hlt hlb]
    obtain ⟨k1, k2⟩ := hK _ (List.getElem_mem hlt)
    generalize L[j] = x at *
    generalize bs[j] = d at *
    obtain ⟨per, bud, kk, ts⟩ := x
    simp only at k1 k2
    subst k1
    refine vc_seqV (vc_block ?_)
    refine vc_seq true ?_
    set_option smartUnfolding false in conv => whnf
    refine ⟨_, hix, ?_⟩
    set_option smartUnfolding false in conv => whnf
    refine ⟨.agg [.int .i64 per, .int .i64 bud, .fz (growK ts.length) (tks ts)], rfl, ?_⟩
    set_option smartUnfolding false in conv => whnf
    refine eff_o (sto_o get_new_same rfl (Nat.le_refl _) rfl) fun h1 e1 => ?_
    set_option smartUnfolding false in conv => whnf
    have gs1 : h1.get h.next = some (.cells [.int .i64 per, .int .i64 bud, .fz (growK ts.length) (tks ts)] true 0) := by rw [e1, get_set_same]; rfl
    have fr1 : Fr h h1 [] := by rw [e1]; exact ((Fr.refl h []).new (x := _)).setn (Nat.le_refl _)
    have nx1 : h.next < h1.next := by rw [e1]; exact Nat.lt_succ_self _
    clear e1
    refine vc_seq true ?_
    set_option smartUnfolding false in conv => whnf
    refine ⟨_, hib, ?_⟩
    set_option smartUnfolding false in conv => whnf
    refine ⟨.int .i64 d, rfl, ?_⟩
    set_option smartUnfolding false in conv => whnf
    refine eff_o (sto_o (n := 1) (v := .int .i64 d) gs1 rfl (by simp) rfl) fun h2 e2 => ?_
    set_option smartUnfolding false in conv => whnf
    have gs2 : h2.get h.next = some (.cells [.int .i64 per, .int .i64 d, .fz (growK ts.length) (tks ts)] true 0) := by rw [e2, get_set_same]; rfl
    have fr2 : Fr h h2 [] := by rw [e2]; exact fr1.setn (Nat.le_refl _)
    have nx2 : h.next < h2.next := by rw [e2]; exact nx1
    clear e2
    refine vc_seq true ?_
    set_option smartUnfolding false in conv => whnf
    refine vc_seq true ?_
    set_option smartUnfolding false in conv => whnf
    refine ⟨_, ld1 gs2 rfl, ?_⟩
    set_option smartUnfolding false in conv => whnf
    have happ : ∃ u h3, eV (.append 8 64) [.nils, .fz (growK ts.length) (tks ts)] h2 = some (u, h3) ∧ u.cells = [u] ∧ u.flat = true ∧ Fr h h3 [] ∧ h3.get h.next = h2.get h.next ∧ h2.next ≤ h3.next ∧
        ∃ bl : List Nat, (∀ b ∈ bl, h2.next ≤ b) ∧ ∀ h4 : Heap, (∀ c, c ≠ h.next → h4.get c = h3.get c) → Frz (· ∈ h.next :: bl) h4 u (.fz (growK ts.length) (tks ts)) := by
      cases ts with
      | nil => exact ⟨.nils, h2, app_nils0 (nx := h2.next) (tr := h2.m) (src_fz (l := tks []) rfl) rfl, rfl, rfl, fr2, rfl, Nat.le_refl _, [], by simp, fun h4 _ => .nils⟩
      | cons t0 tr =>
        refine ⟨_, _, app_nilsN (nx := h2.next) (tr := h2.m) (n := tr.length) (by omega) (by simp at k2; omega) ((src_fz (size_tks (t0 :: tr))).trans (by rw [len_tks]; rfl)) (flat_tks (t0 :: tr)), rfl, rfl, fr2.new (x := .cells (flatCells (tks (t0 :: tr))) true 8), get_new_ne (h := h2) nx2, Nat.le_succ _, [h2.next], by simp, fun h4 hk => ?_⟩
        refine frz_open (wr := true) (es := 8) (s := 8) (by simp) ?_ rfl (size_tks _) (by rw [len_tks]; rfl) (cl_tks _)
        rw [hk _ (by omega)]
        exact get_new_same (h := h2)
    obtain ⟨u, h3, a1, a2, a3, fr3, g3, n3, bl, b1, b2⟩ := happ
    refine eff_o a1 fun h3' e3 => ?_
    subst e3
    set_option smartUnfolding false in conv => whnf
    rw [← g3] at gs2
    refine eff_o (sto_o (n := 1) (v := u) gs2 (by rw [a2]; rfl) (by simp) (by rw [a2]; simp [flatL, a3])) fun h4 e4 => ?_
    set_option smartUnfolding false in conv => whnf
    have gs4 : h4.get h.next = some (.cells [.int .i64 per, .int .i64 d, u] true 0) := by rw [e4, get_set_same, a2]; rfl
    have fr4 : Fr h h4 [] := by rw [e4]; exact fr3.setn (Nat.le_refl _)
    have hk4 : ∀ c, c ≠ h.next → h4.get c = h3'.get c := fun c hc => by rw [e4, get_set_ne hc]
    have n4 : h4.next = h3'.next := by rw [e4]; rfl
    clear e4
    refine vc_frz (h.next :: bl) (i := 8) (v' := .fp [.int .i64 per, .int .i64 d, .fz (growK ts.length) (tks ts)] 0) rfl (.ptr' (by simp) gs4 (.cons (.clean rfl) (.cons (.clean rfl) (.cons (b2 h4 hk4) .nil)))) ?_
    have fr5 : Fr h (delAll (h.next :: bl) h4) [] := fr_del (T := []) (fun b hb => by
      rcases List.mem_cons.1 hb with rfl | hb
      · exact .inl (Nat.le_refl _)
      · have := b1 b hb; exact .inl (by omega)) fr4
    generalize delAll (h.next :: bl) h4 = h5 at *
    refine vc_slots 4 [(0, .fz k (pts L)), (1, .fz kb (ints bs)), (6, v), (7, .int .i64 ((j : Nat) : Int)), (8, .fp [.int .i64 per, .int .i64 d, .fz (growK ts.length) (tks ts)] 0)] ⟨rfl, rfl, rfl, rfl, rfl, trivial⟩ ?_
    refine vpC_sound (z := true) ?_
    set_option smartUnfolding false in conv => whnf
    refine ⟨pt ⟨per, d, growK ts.length, ts⟩, rfl, ?_⟩
    set_option smartUnfolding false in conv => whnf
    have hr5 := hr.keep fr5
    have fr05 : Fr h0 h5 [] := fr.trans fr5
    obtain ⟨v6, h6, c1, c2, c3, c4⟩ := hr5.app fr05.next (by rw [List.length_take]; omega) ⟨per, d, growK ts.length, ts⟩
    refine eff_o c1 fun h6' e6 => ?_
    subst e6
    set_option smartUnfolding false in conv => whnf
    refine vpC_sound (z := true) ?_
    set_option smartUnfolding false in conv => whnf
    refine ih (L.length - (j + 1)) (by omega) (j + 1) h6' v6 _ rfl (by omega) (by rw [htk]; exact c2) ⟨Nat.le_trans fr05.next c3, fun c hc _ => by rw [c4 c hc]; exact fr05.keep c hc (by simp)⟩ ⟨rfl, rfl, rfl, inc_slot (by omega), trivial⟩
  · have hge : j = L.length := by have := of_decide_eq_false hc; omega
    subst hge
    rw [List.take_of_length_le (by rw [wL_len hb]; omega)] at hr
    exact hQ _ h v hr fr rfl
theorem rwith_o {h : Heap} {k kb : Nat} {L : List Pt} {bs : List Int} (hK : Kinds L) (hb : bs.length = L.length) (hl : L.length ≤ 900) {Q : AV → Heap → Prop}
    (hQ : ∀ h' v, PR h.next h' v (wL L bs) → Fr h h' [] → Q (.tup [v, .int .i64 0]) h') : VD fs ms f_escapementref30_With [.fz k (pts L), .fz kb (ints bs)] h Q := by
  refine vd_begin (af := C_escapementref30_With) rfl (Nat.le_of_ble_eq_true rfl) ?_
  set_option smartUnfolding false in conv => whnf
  refine vc_seq true ?_
  set_option smartUnfolding false in conv => whnf
  refine vc_seq true ?_
  set_option smartUnfolding false in conv => whnf
  rw [len_pts, len_ints, hb]
  rw [show (((L.length : Nat) : Int) != ((L.length : Nat) : Int)) = false by simp]
  set_option smartUnfolding false in conv => whnf
  refine vc_seq true ?_
  set_option smartUnfolding false in conv => whnf
  refine vc_seqV (vc_seq true ?_)
  set_option smartUnfolding false in conv => whnf
  refine vc_block ?_
  refine rwith_l (k := k) (kb := kb) hK hb hl ?_ _ 0 h .nils _ rfl (Nat.zero_le _) (.inl ⟨rfl, rfl⟩) (Fr.refl _ _) ⟨rfl, rfl, rfl, rfl, trivial⟩
  intro e' h' v hr fr g6
  show VC fs ms _ _ _ _ _ _
  refine vc_slots 4 [(6, v)] ⟨g6, trivial⟩ (vpC_sound (z := true) ?_)
  set_option smartUnfolding false in conv => whnf
  exact hQ h' v hr fr
end Ir
end Go.Proofs.Ytepdklcpagielaa
