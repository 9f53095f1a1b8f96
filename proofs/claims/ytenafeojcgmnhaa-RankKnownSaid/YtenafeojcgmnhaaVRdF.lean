/-
  Rank: an id more.
-/
import Derived.Test.YtenafeojcgmnhaaVRdE
import Derived.Test.YtenafeojcgmnhaaVsPre
import Derived.Test.YtenafeojcgmnhaaVsGrow
set_option maxRecDepth 100000
set_option linter.unusedSimpArgs false
set_option linter.unusedVariables false
namespace Go.Proofs.Ytenafeojcgmnhaa
open Go Ads
namespace Ads
theorem get_del_ne {h : Heap} {b c : Nat} (hn : c ≠ b) : (h.del b).get c = h.get c := by rw [Heap.get_del, if_neg hn]
theorem src_new {h : Heap} {b s n cap : Nat} {op wr : Bool} {es : Nat} {cs : List AV} (hg : h.get b = some (.cells cs wr es)) (hl : cs.length = n * s) : srcV s h (.sl b 0 n cap op) = some (n, cs) := by
  have b1 : Nat.ble (0 + n * s) cs.length = true := Nat.ble_eq_true_of_le (by omega)
  show (h.loadN b 0 (n * s)).map _ = _
  have : h.loadN b 0 (n * s) = some cs := by
    simp only [Heap.loadN, Heap.row, hg, b1, cond_true, List.drop_zero]
    rw [← hl, List.take_length]
  rw [this]
  rfl
/-- One more behind a row that is full: a new row. -/
theorem app_full {h : Heap} {s bytes b m : Nat} {vs cs : List AV} {x : AV} (hg : h.get b = some (.cells vs true s)) (hv : vs.length = m * s) (hsrc : srcV s h x = some (1, cs)) (hf : flatL cs = true) (hb : bytes ≤ 1048576) (hm : m ≤ 1048576) :
    eV (.append s bytes) [.sl b 0 m m true, x] h = some (.sl h.next 0 (m + 1) (m + 1) true, (h.del b).new (.cells (vs ++ cs) true s)) := by
  have hmu : (m + 1) * bytes ≤ 1048577 * 1048576 := Nat.mul_le_mul (by omega) hb
  have b1 : Nat.ble (m + 1) m = false := by cases hb : Nat.ble (m + 1) m with | false => rfl | true => (have := Nat.le_of_ble_eq_true hb; omega)
  have b2 : Nat.ble ((m + 1) * bytes) 140737488355328 = true := Nat.ble_eq_true_of_le (by omega)
  have b3 : Nat.ble (m + 1) 9223372036854775807 = true := Nat.ble_eq_true_of_le (by omega)
  have b4 : Nat.ble (0 + m * s) vs.length = true := Nat.ble_eq_true_of_le (by omega)
  have b5 : Nat.beq vs.length (0 + m * s) = true := by rw [hv, Nat.zero_add]; exact Nat.beq_refl _
  have hld : h.loadN b 0 (m * s) = some vs := by
    simp only [Heap.loadN, Heap.row, hg, b4, cond_true, List.drop_zero]
    rw [← hv, List.take_length]
  simp only [eV, l2, hsrc]
  show cond (flatL cs) _ _ = _
  rw [hf, cond_true]
  show cond (Nat.beq 1 0 && Nat.ble m m) _ _ = _
  rw [show Nat.beq 1 0 = false from rfl, Bool.false_and, cond_false, b1, cond_false, b2, b3, Bool.and_self, cond_true, hg, hld]
  show cond true (cond (true && Nat.beq vs.length (0 + m * s) && Nat.beq m m && Nat.beq s s) _ _) _ = _
  rw [b5, Nat.beq_refl, Nat.beq_refl]
  rfl
end Ads
namespace Ir

theorem Row.app {h : Heap} {k p : Nat} {S : List Nat} {L : List Id} {P : Nat → Nat} (hr : Row h k p S L P) (kp : k ≠ p) (lk : k < h.next) (lp : p < h.next) (h64 : L.length ≤ 64) (x : Id) {src : AV} {cap0 : Nat} {op wr : Bool} {es : Nat} (hs : src = .sl h.next 0 1 cap0 op) {g : Heap} (hg : g = h.new (.cells (ob x).cells wr es)) :
    ∃ rv, h.get p = some (.cells (rv :: plc P) true 0) ∧ ∃ rv' g', eV (.append 2 16) [rv, src] g = some (rv', g') ∧ Fr h g' S ∧ g'.get k = h.get k ∧ g'.get p = h.get p ∧ h.next ≤ g'.next ∧
      ∃ r cap rest, rv' = .sl r 0 (L.length + 1) cap true ∧ r ≠ k ∧ r ≠ p ∧ r < g'.next ∧ g'.get r = some (.cells (oc (L ++ [x]) ++ rest) true 2) ∧ (L.length + 1) * 2 + rest.length = cap * 2 ∧ (r ∈ S ∨ h.next ≤ r) := by
  subst hs
  have hsrc : srcV 2 g (.sl h.next 0 1 cap0 op) = some (1, (ob x).cells) := src_new (by rw [hg]; exact get_new_same) rfl
  have gn : g.next = h.next + 1 := by rw [hg]; rfl
  have frg : Fr h g S := by rw [hg]; exact (Fr.refl h S).new
  rcases hr with ⟨hL, hS, hp⟩ | ⟨r, cap, rest, hS, hrk, hcap, hh⟩
  · subst hL
    refine ⟨.nils, hp, .sl g.next 0 1 1 true, g.new (.cells (ob x).cells true 2), app_nilsS (nx := g.next) (tr := g.m) (by omega) hsrc rfl, frg.new, ?_, ?_, ?_, g.next, 1, [], rfl, by omega, by omega, Nat.lt_succ_self _, ?_, rfl, .inr (by omega)⟩
    · rw [get_new_ne (by omega), hg, get_new_ne lk]
    · rw [get_new_ne (by omega), hg, get_new_ne lp]
    · show h.next ≤ g.next + 1; omega
    · rw [get_new_same]; simp [oc_one]
  · have hp' : h.get p = some (.cells (.sl r 0 L.length cap true :: plc P) true 0) := hh.hp
    have hol := oc_len L
    have hgr : g.get r = some (.cells (oc L ++ rest) true 2) := by rw [hg, get_new_ne hh.lr]; exact hh.hr
    have hrS : r ∈ S := by rw [hS]; simp
    have hpr := hh.ne
    have hlr := hh.lr
    by_cases hroom : L.length < cap
    · have happ := app_in (bytes := 16) (nx := g.next) (tr := g.m) (op := true) (l := obs L) (rest := rest) (y := ob x) hgr rfl (size_obs L) (len_obs L).symm hroom (by omega) hsrc rfl rfl
      refine ⟨_, hp', _, _, happ, ?_, ?_, ?_, ?_, r, cap, rest.drop 2, rfl, hrk, hpr.symm, ?_, ?_, ?_, .inl hrS⟩
      · exact Fr.set (h1 := g) frg hrS
      · rw [show Heap.get (⟨g.next, Tr.set g.m r (.cells (flatCells (obs L ++ [ob x]) ++ rest.drop 2) true 2)⟩ : Heap) k = (g.set r (.cells (flatCells (obs L ++ [ob x]) ++ rest.drop 2) true 2)).get k from rfl, get_set_ne (Ne.symm hrk), hg, get_new_ne lk]
      · rw [show Heap.get (⟨g.next, Tr.set g.m r (.cells (flatCells (obs L ++ [ob x]) ++ rest.drop 2) true 2)⟩ : Heap) p = (g.set r (.cells (flatCells (obs L ++ [ob x]) ++ rest.drop 2) true 2)).get p from rfl, get_set_ne hpr, hg, get_new_ne lp]
      · show h.next ≤ g.next; omega
      · show r < g.next; omega
      · rw [show Heap.get (⟨g.next, Tr.set g.m r (.cells (flatCells (obs L ++ [ob x]) ++ rest.drop 2) true 2)⟩ : Heap) r = (g.set r (.cells (flatCells (obs L ++ [ob x]) ++ rest.drop 2) true 2)).get r from rfl, get_set_same]
        simp [oc, obs]
      · rw [List.length_drop]; omega
    · have hc : cap = L.length := by omega
      have hr0 : rest = [] := List.eq_nil_of_length_eq_zero (by omega)
      subst hr0
      subst hc
      rw [List.append_nil] at hgr
      refine ⟨_, hp', _, _, app_full (bytes := 16) hgr hol hsrc rfl (by omega) (by omega), ?_, ?_, ?_, ?_, g.next, L.length + 1, [], rfl, by omega, by omega, Nat.lt_succ_self _, ?_, by simp, .inr (by omega)⟩
      · refine ⟨?_, fun c hc hn => ?_⟩
        · show h.next ≤ g.next + 1; omega
        · rw [get_new_ne (show c < (g.del r).next by show c < g.next; omega), get_del_ne (by rintro rfl; exact hn hrS)]
          exact frg.keep c hc hn
      · rw [get_new_ne (show k < (g.del r).next by show k < g.next; omega), get_del_ne (Ne.symm hrk), hg, get_new_ne lk]
      · rw [get_new_ne (show p < (g.del r).next by show p < g.next; omega), get_del_ne hpr, hg, get_new_ne lp]
      · show h.next ≤ g.next + 1; omega
      · rw [show g.next = (g.del r).next from rfl, get_new_same, List.append_nil, oc_app, oc_one]

theorem RAt.own {h : Heap} {k p : Nat} {S : List Nat} {L : List Id} {P : Nat → Nat} (hr : RAt h k p S L P) : k ∈ S ∧ p ∈ S ∧ ∀ b ∈ S, b < h.next := by
  rcases hr.row with ⟨_, hS, _⟩ | ⟨r, cap, rest, hS, _, _, hh⟩
  · subst hS
    refine ⟨by simp, by simp, fun b hb => ?_⟩
    simp at hb
    rcases hb with rfl | rfl
    · exact hr.lk
    · exact hr.lp
  · subst hS
    refine ⟨by simp, by simp, fun b hb => ?_⟩
    simp at hb
    rcases hb with rfl | rfl | rfl
    · exact hr.lk
    · exact hr.lp
    · exact hh.lr
theorem plv_app {L : List Id} {P : Nat → Nat} {x : Id} (hf : PlF L P) (hx : x.1 < 64) (h0 : P x.1 = 0) : PlV (L ++ [x]) P L.length := by
  have hl : (L ++ [x]).length = L.length + 1 := by simp
  refine ⟨by omega, fun i hi => ?_, fun i j hi hj he => ?_, fun i hi hn => ?_, fun d hd hn hp => ?_⟩
  · by_cases h : i = L.length
    · subst h; rw [gI_end]; exact hx
    · rw [gI_app (by omega)]; exact hf.small i (by omega)
  · have key : ∀ i, i < L.length → (gI L i).1 = x.1 → False := by
      intro i hi e
      have := hf.pl i hi
      rw [e] at this
      omega
    by_cases h1 : i = L.length
    · subst h1
      by_cases h2 : j = L.length
      · exact h2.symm
      · rw [gI_end, gI_app (by omega)] at he
        exact (key j (by omega) he.symm).elim
    · rw [gI_app (by omega)] at he
      by_cases h2 : j = L.length
      · subst h2
        rw [gI_end] at he
        exact (key i (by omega) he).elim
      · rw [gI_app (by omega)] at he
        exact hf.dist i j (by omega) (by omega) he
  · rw [gI_app (by omega)]
    exact hf.pl i (by omega)
  · have hb := hf.back d hd hp
    refine ⟨by omega, ?_⟩
    rw [gI_app (by omega)]
    exact hb.2
theorem hup_app {L : List Id} {x : Id} (h : Hp L) : Hup (L ++ [x]) L.length := by
  have hl : (L ++ [x]).length = L.length + 1 := by simp
  refine ⟨fun i h0 hi h1 h2 => ?_, fun c h0 hc hp h1 => by omega⟩
  rw [gI_app (by omega), gI_app (by omega)]
  exact h i h0 (by omega)
theorem hch_app {L : List Id} {x : Id} : Hch (L ++ [x]) L.length := fun c h0 hc hp => by simp at hc; omega

theorem put_o {h : Heap} {k p : Nat} {S : List Nat} {L : List Id} {P : Nat → Nat} (hr : RAt h k p S L P) (id key : Int) {Q : AV → Heap → Prop} (h1 : id < 0 ∨ 64 ≤ id → Q (.int .i64 9) h)
    (h2 : ∀ y, y ∈ L → id = y.1 → Q (.int .i64 141) h)
    (h3 : ∀ i : Nat, id = i → i < 64 → (∀ y ∈ L, y.1 ≠ i) → ∀ h' S' L' P', RAt h' k p S' L' P' → (∀ y, y ∈ L' ↔ y ∈ L ∨ y = (i, key)) → Own h h' S S' → Q (.int .i64 0) h') : VD fs ms f_rank_Rank_Put [.ptr k 0, .int .i64 id, .int .i64 key] h Q := by
  refine vd_start (af := C_rank_Rank_Put) true rfl (Nat.le_of_ble_eq_true rfl) ?_
  set_option smartUnfolding false in conv => whnf
  refine asked_o hr id ?_
  set_option smartUnfolding false in conv => whnf
  by_cases hb : id < 0 ∨ 64 ≤ id
  · rw [if_pos hb]
    set_option smartUnfolding false in conv => whnf
    exact h1 hb
  rw [if_neg hb]
  set_option smartUnfolding false in conv => whnf
  refine at_o hr id (fun h => absurd h hb) (fun i hi i64 h0 => ?_) fun i j hi i64 hj hP hid => ?_
  · set_option smartUnfolding false in conv => whnf
    subst hi
    refine ⟨_, ld1 hr.hk rfl, ?_⟩
    set_option smartUnfolding false in conv => whnf
    refine ⟨_, ld1 hr.hk rfl, ?_⟩
    set_option smartUnfolding false in conv => whnf
    obtain ⟨kS, pS, hS⟩ := hr.own
    have h64 := hr.pl.len64
    obtain ⟨rv, hrv, rv', g', happ, frg, gk, gp, gn, r, cap, rest, e1, rk, rp, rl, gr, gc, rS⟩ := hr.row.app hr.ne hr.lk hr.lp h64 (i, key) (cap0 := 1) (op := false) (wr := true) (es := 0) rfl (g := h.new (.cells (ob (i, key)).cells true 0)) rfl
    refine ⟨_, ld1 hrv rfl, ?_⟩
    set_option smartUnfolding false in conv => whnf
    refine eff_o happ fun g1 eg => ?_
    subst eg
    set_option smartUnfolding false in conv => whnf
    refine eff_o (sto_o (gp.trans hrv) (by subst e1; rfl) (by rw [List.length_cons]; show 0 + 1 ≤ _; omega) (by subst e1; rfl)) fun g2 e2 => ?_
    set_option smartUnfolding false in conv => whnf
    refine ⟨winOk_of (by (set_option smartUnfolding false in conv => whnf); repeat' (first | exact trivial | (exact ⟨rfl, rfl, .inr ⟨_, _, rfl⟩⟩) | (refine ⟨rfl, rfl, .inl ⟨rfl, fun o ho => ?_⟩⟩; cases ho; first | rfl | (exact ld1 hr.hk rfl) | (exact ld1 (gk.trans hr.hk) rfl)) | (exact ⟨rfl, .inr ⟨_, _, rfl⟩⟩) | (refine ⟨rfl, .inl ⟨rfl, fun i o hi ho => ?_⟩⟩; cases hi; cases ho; first | rfl | (exact ld1 hr.hk rfl) | (exact ld1 (gk.trans hr.hk) rfl)) | (refine And.intro (fun _ => ?_) ?_ <;> set_option smartUnfolding false in conv => whnf) | (refine And.intro ?_ ?_ <;> set_option smartUnfolding false in conv => whnf))), ?_⟩
    set_option smartUnfolding false in conv => whnf
    have hpn := hr.lp
    have hkn := hr.lk
    have gk2 : g2.get k = some (.cells [.ptr p 0] true 0) := by rw [e2, get_set_ne hr.ne]; exact gk.trans hr.hk
    have hh2 : HAt g2 p r cap true (L ++ [(i, key)]) P rest := by
      refine ⟨?_, ?_, rp.symm, ?_, ?_⟩
      · rw [e2, get_set_same, e1]
        show some (Blk.cells (.sl r 0 (L.length + 1) cap true :: Heap.splice (plc P) 0 []) true 0) = _
        rw [splice_nil, List.length_append]
        rfl
      · rw [e2, get_set_ne rp]; exact gr
      · rw [e2]; show p < g1.next; omega
      · rw [e2]; exact rl
    have fr2 : Fr h g2 S := by rw [e2]; exact frg.set pS
    clear e2
    refine ⟨_, ld1 gk2 rfl, ?_⟩
    set_option smartUnfolding false in conv => whnf
    refine ⟨_, ld1 gk2 rfl, ?_⟩
    set_option smartUnfolding false in conv => whnf
    refine ⟨_, hh2.row, ?_⟩
    set_option smartUnfolding false in conv => whnf
    have hl : (L ++ [((i, key) : Id)]).length = L.length + 1 := by simp
    rw [(len_pred (M := L) (x := (i, key))).resolve_right (by omega)]
    refine up_o hh2 (by omega) (by omega) (plv_app hr.pl i64 h0) (hup_app hr.hp) fun h4 L4 P4 a4 hh4 k1 k2 k3 k4 k5 k6 k7 fr4 => ?_
    set_option smartUnfolding false in conv => whnf
    have kn2 : k < g2.next := Nat.lt_of_lt_of_le hkn fr2.next
    refine h3 i rfl i64 (hr.pl.no h0) h4 [k, p, r] L4 P4 ⟨?_, hr.ne, Nat.lt_of_lt_of_le kn2 fr4.next, hh4.lp, .inr ⟨r, cap, rest, rfl, rk, by omega, hh4⟩, k3, k4.full (k7 hch_app)⟩ (fun y => ?_) ⟨?_, fun b hb => ?_⟩
    · rw [fr4.keep k kn2 (by simp [hr.ne, Ne.symm rk])]; exact gk2
    · rw [k6.mem]; simp
    · refine ⟨Nat.le_trans fr2.next fr4.next, fun b hb hn => ?_⟩
      have hbp : b ≠ p := by rintro rfl; exact hn pS
      have hbr : b ≠ r := by
        rintro rfl
        rcases rS with h | h
        · exact hn h
        · omega
      rw [fr4.keep b (Nat.lt_of_lt_of_le hb fr2.next) (by simp [hbp, hbr])]
      exact fr2.keep b hb hn
    · simp at hb
      rcases hb with rfl | rfl | rfl
      · exact .inl kS
      · exact .inl pS
      · exact rS
  · set_option smartUnfolding false in conv => whnf
    subst hi
    refine h2 (gI L j) (mem_gI.2 ⟨j, hj, rfl⟩) (by rw [hid])
end Ir
end Go.Proofs.Ytenafeojcgmnhaa
