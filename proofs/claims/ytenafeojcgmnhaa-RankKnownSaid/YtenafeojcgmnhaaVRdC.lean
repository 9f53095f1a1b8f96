/-
  Rank's heap of ids: up, down, cut.
-/
import Derived.Test.YtenafeojcgmnhaaVRdB
set_option maxRecDepth 100000
set_option linter.unusedSimpArgs false
set_option linter.unusedVariables false
namespace Go.Proofs.Ytenafeojcgmnhaa
open Go Ads
namespace Ads
theorem vc_loopV {fs : Nat → Option AFunc} {ms : Nat → String → Option Nat} {B : Nat} {rd : Bool} {c : AC} {e : Env} {h : Heap} {Q : AX → Env → Heap → Prop}
    (hw : VC fs ms B rd c e h fun x e1 h1 => match x with | .normal => VC fs ms B rd (.loop c) e1 h1 Q | x => Q x e1 h1) : VC fs ms B rd (.loop c) e h Q := by
  obtain ⟨x, e1, h1, hb, hk⟩ := hw
  cases x with
  | normal =>
    obtain ⟨x2, e2, h2, hb2, hk2⟩ := hk
    exact ⟨_, _, _, .loopN hb hb2, hk2⟩
  | exit i => exact ⟨_, _, _, .loopX hb rfl, hk⟩
  | ret => exact ⟨_, _, _, .loopX hb rfl, hk⟩
  | panic v => exact ⟨_, _, _, .loopX hb rfl, hk⟩
end Ads
namespace Ir

theorem HAt.row {h : Heap} {p r cap : Nat} {op : Bool} {L : List Id} {P : Nat → Nat} {rest : List AV} (hh : HAt h p r cap op L P rest) : rV .load1 [.ptr p 0] h = some (.sl r 0 L.length cap op) := ld1 hh.hp rfl
theorem HAt.one {h : Heap} {p r cap : Nat} {op : Bool} {L : List Id} {P : Nat → Nat} {rest : List AV} (hh : HAt h p r cap op L P rest) {i : Nat} (hi : i < L.length) : rV (.loadN 2) [.ptr r (i * 2)] h = some (ob (gI L i)) := by
  have hlen := oc_len L
  rw [ldN hh.hr (by rw [List.length_append]; omega), oc_take hi, gI_eq hi]
  rfl
theorem HAt.id {h : Heap} {p r cap : Nat} {op : Bool} {L : List Id} {P : Nat → Nat} {rest : List AV} (hh : HAt h p r cap op L P rest) {i : Nat} (hi : i < L.length) : rV .load1 [.ptr r (i * 2)] h = some (.int .i64 ((gI L i).1 : Nat)) := by
  have hlen := oc_len L
  refine ld1 hh.hr ?_
  rw [List.getElem?_append_left (by omega), gI_eq hi]
  exact oc_id hi
theorem HAt.key {h : Heap} {p r cap : Nat} {op : Bool} {L : List Id} {P : Nat → Nat} {rest : List AV} (hh : HAt h p r cap op L P rest) {i : Nat} (hi : i < L.length) : rV .load1 [.ptr r (i * 2 + 1)] h = some (.int .i64 (gI L i).2) := by
  have hlen := oc_len L
  refine ld1 hh.hr ?_
  rw [List.getElem?_append_left (by omega), gI_eq hi]
  exact oc_key hi
theorem HAt.place {h : Heap} {p r cap : Nat} {op : Bool} {L : List Id} {P : Nat → Nat} {rest : List AV} (hh : HAt h p r cap op L P rest) {i : Nat} (hi : i < 64) : rV .load1 [.ptr p (1 + i * 1)] h = some (.int .i64 ((P i : Nat) : Int)) := by
  refine ld1 hh.hp ?_
  rw [show 1 + i * 1 = i + 1 by omega, List.getElem?_cons_succ]
  exact plc_get hi
theorem half_op {a : Nat} (h : a < 2 ^ 62) : pV (.bin .quo) [.int .i64 (IntKind.i64.wrap (((a + 1 : Nat) : Int) - 1)), .int .i64 2] = some (.int .i64 ((a / 2 : Nat) : Int)) := by
  rw [quo_val _ _ (by decide)]
  have e1 : IntKind.i64.wrap (((a + 1 : Nat) : Int) - 1) = ((a : Nat) : Int) := by
    rw [show ((a + 1 : Nat) : Int) - 1 = ((a : Nat) : Int) by omega]
    exact wrap_nat (by omega)
  rw [e1]
  have e2 : ((a : Nat) : Int).tdiv 2 = ((a / 2 : Nat) : Int) := by rw [Int.tdiv_eq_ediv_of_nonneg (by omega)]; rfl
  rw [e2, wrap_nat (by omega)]
theorem two_cells (x : Id) : ([.int .i64 (x.1 : Nat), .int .i64 x.2] : List AV) = (ob x).cells := rfl

theorem set_gI {L : List Id} {a : Nat} (h : a < L.length) : L.set a (gI L a) = L := by
  rw [gI_eq h]
  exact List.set_getElem_self h
/-- What lies elsewhere. -/
theorem gI_ne {L : List Id} {a i : Nat} {x : Id} (h : a < L.length) (hi : i ≠ a) : gI (L.set a x) i = gI L i := by rw [gI_set h, if_neg hi]
theorem gI_at {L : List Id} {a : Nat} {x : Id} (h : a < L.length) : gI (L.set a x) a = x := by rw [gI_set h, if_pos rfl]
theorem swp_at {L : List Id} {a m : Nat} {x : Id} (h : a < L.length) (hm : m < L.length) (hn : m ≠ a) : (L.set a (gI L m)).set m x = swp (L.set a x) a m := by
  rw [swp, gI_at h, gI_ne h hn, List.set_set]

theorem up_loop {p r cap t : Nat} {op : Bool} {rest : List AV} {x : Id} {B : Nat} {Q : AX → Env → Heap → Prop} {N : Nat} (hN : N < 2 ^ 62) (tp : t ≠ p) (tr : t ≠ r) (es : Nat) :
    ∀ (a : Nat) (h : Heap) (L : List Id) (P : Nat → Nat), HAt h p r cap op L P rest → t < h.next → h.get t = some (.cells (ob x).cells true es) → a < N → L.length = N → PlV (L.set a x) P a → Hup (L.set a x) a →
    (∀ (a' : Nat) (h' : Heap) (L' : List Id) (P' : Nat → Nat) (e' : Env), Tr.get e' 0 = some (.ptr p 0) → Tr.get e' 1 = some (.int .i64 ((a' : Nat) : Int)) → Tr.get e' 4 = some (.ptr t 0) → HAt h' p r cap op L' P' rest → h'.get t = some (.cells (ob x).cells true es) → a' < N → L'.length = N →
      PlV (L'.set a' x) P' a' → Hdn (L'.set a' x) a' → Same (L.set a x) (L'.set a' x) → (Hch (L.set a x) a → Hch (L'.set a' x) a') → Fr h h' [p, r] → Q (.exit 0) e' h') →
    VC fs ms B false (.loop L_rank_heaped_up_0) (ek 3 [(0, .ptr p 0), (1, .int .i64 ((a : Nat) : Int)), (4, .ptr t 0)]) h Q := by
  intro a
  induction a using Nat.strongRecOn with
  | ind a ih =>
  intro h L P hh htn ht ha hL hp hu hQ
  refine vc_loop (z := true) ?_
  set_option smartUnfolding false in conv => whnf
  rcases Nat.eq_zero_or_pos a with h0 | h0
  · refine br (fun hc => ?_) (fun hc => ?_) <;> (try rw [hc]) <;> (set_option smartUnfolding false in conv => whnf)
    · exfalso
      have := of_decide_eq_true hc
      omega
    · exact hQ a h L P _ rfl rfl rfl hh ht ha hL hp (hu.done (.inl h0)) (Same.refl _) id (Fr.refl _ _)
  · obtain ⟨b, rfl⟩ : ∃ b, a = b + 1 := ⟨a - 1, by omega⟩
    refine br (fun hc => ?_) (fun hc => ?_) <;> (try rw [hc]) <;> (set_option smartUnfolding false in conv => whnf)
    · refine ⟨_, ldN ht (Nat.le_refl _), ?_⟩
      set_option smartUnfolding false in conv => whnf
      refine ⟨_, hh.row, ?_⟩
      set_option smartUnfolding false in conv => whnf
      refine ⟨_, half_op (by omega), ?_⟩
      set_option smartUnfolding false in conv => whnf
      refine ⟨_, idx_slS3 (by omega), ?_⟩
      set_option smartUnfolding false in conv => whnf
      refine ⟨_, hh.one (by omega), ?_⟩
      set_option smartUnfolding false in conv => whnf
      refine vd_pure (ahead_c x _) ?_
      set_option smartUnfolding false in conv => whnf
      refine br (fun hc => ?_) (fun hc => ?_) <;> (try rw [hc]) <;> (set_option smartUnfolding false in conv => whnf)
      · have hc' := hc
        refine ⟨_, hh.row, ?_⟩
        set_option smartUnfolding false in conv => whnf
        refine ⟨_, half_op (by omega), ?_⟩
        set_option smartUnfolding false in conv => whnf
        refine ⟨_, idx_slS3 (by omega), ?_⟩
        set_option smartUnfolding false in conv => whnf
        refine ⟨_, hh.one (by omega), ?_⟩
        set_option smartUnfolding false in conv => whnf
        have hbs : b / 2 < L.length := by omega
        have hne : b / 2 ≠ b + 1 := by omega
        have hal : b + 1 < L.length := by omega
        have hsm : (gI L (b / 2)).1 < 64 := by
          have := hp.small (b / 2) (by rw [List.length_set]; exact hbs)
          rw [gI_ne hal hne] at this
          exact this
        refine lay_o hh hal hsm (by omega) fun h' hh' fr => ?_
        set_option smartUnfolding false in conv => whnf
        refine ⟨_, half_op (by omega), ?_⟩
        set_option smartUnfolding false in conv => whnf
        have e0 : (b + 1 - 1) / 2 = b / 2 := by omega
        have hs : ah (gI (L.set (b + 1) x) (b + 1)) (gI (L.set (b + 1) x) ((b + 1 - 1) / 2)) = true := by
          rw [e0, gI_at hal, gI_ne hal hne]
          exact hc'
        have hst := hu.step (by omega) (by rw [List.length_set]; exact hal) hs
        rw [e0] at hst
        have hsw : (L.set (b + 1) (gI L (b / 2))).set (b / 2) x = swp (L.set (b + 1) x) (b + 1) (b / 2) := swp_at hal hbs hne
        have hpl := hp.step (m := b / 2) (by rw [List.length_set]; exact hbs) hne
        rw [gI_ne hal hne] at hpl
        refine vc_slots 3 [(0, .ptr p 0), (1, .int .i64 ((b / 2 : Nat) : Int)), (4, .ptr t 0)] ⟨rfl, rfl, rfl, trivial⟩ ?_
        refine ih (b / 2) (by omega) h' _ _ hh' (Nat.lt_of_lt_of_le htn fr.next) (by rw [fr.keep t htn (by simp [tp, tr])]; exact ht) (by omega) (by simp [hL]) (by rw [hsw]; exact hpl) (by rw [hsw]; exact hst.1) ?_
        intro a' h1 L1 P1 e1 g0 g1 g4 k1 k2 k3 k4 k5 k6 k7 k8 k9
        rw [hsw] at k7 k8
        refine hQ a' h1 L1 P1 e1 g0 g1 g4 k1 k2 k3 k4 k5 k6 ((same_swp (by rw [List.length_set]; exact hal) (by rw [List.length_set]; exact hbs)).trans k7) (fun _ => k8 hst.2) (fr.trans k9)
      · have hc' := hc
        refine hQ (b + 1) h L P _ rfl rfl rfl hh ht ha hL hp (hu.done (.inr ?_)) (Same.refl _) id (Fr.refl _ _)
        rw [show (b + 1 - 1) / 2 = b / 2 by omega, gI_at (by omega), gI_ne (by omega) (by omega)]
        exact hc'
    · exfalso
      have := of_decide_eq_false hc
      omega

theorem HAt.new {h : Heap} {p r cap : Nat} {op : Bool} {L : List Id} {P : Nat → Nat} {rest : List AV} (hh : HAt h p r cap op L P rest) (x : Blk) : HAt (h.new x) p r cap op L P rest :=
  ⟨by rw [get_new_ne hh.lp]; exact hh.hp, by rw [get_new_ne hh.lr]; exact hh.hr, hh.ne, Nat.lt_succ_of_lt hh.lp, Nat.lt_succ_of_lt hh.lr⟩
theorem HAt.set {h : Heap} {p r cap : Nat} {op : Bool} {L : List Id} {P : Nat → Nat} {rest : List AV} (hh : HAt h p r cap op L P rest) {b : Nat} (x : Blk) (h1 : b ≠ p) (h2 : b ≠ r) : HAt (h.set b x) p r cap op L P rest :=
  ⟨by rw [get_set_ne h1.symm]; exact hh.hp, by rw [get_set_ne h2.symm]; exact hh.hr, hh.ne, hh.lp, hh.lr⟩

theorem up_o {h : Heap} {p r cap : Nat} {op : Bool} {L : List Id} {P : Nat → Nat} {rest : List AV} {a : Nat} (hh : HAt h p r cap op L P rest) (ha : a < L.length) (hN : L.length < 2 ^ 62) (hp : PlV L P a) (hu : Hup L a) {Q : AV → Heap → Prop}
    (hQ : ∀ h' L' P' a', HAt h' p r cap op L' P' rest → L'.length = L.length → a' < L'.length → PlF L' P' → Hdn L' a' → gI L' a' = gI L a → Same L L' → (Hch L a → Hch L' a') → Fr h h' [p, r] → Q (.tup []) h') : VD fs ms f_rank_heaped_up [.ptr p 0, .int .i64 ((a : Nat) : Int)] h Q := by
  refine vd_begin (af := C_rank_heaped_up) rfl (Nat.le_of_ble_eq_true rfl) ?_
  set_option smartUnfolding false in conv => whnf
  refine vc_seq true ?_
  set_option smartUnfolding false in conv => whnf
  refine ⟨_, hh.row, ?_⟩
  set_option smartUnfolding false in conv => whnf
  refine ⟨_, idx_slS3 ha, ?_⟩
  set_option smartUnfolding false in conv => whnf
  refine ⟨_, hh.one ha, ?_⟩
  set_option smartUnfolding false in conv => whnf
  refine ⟨_, _, sto_o get_new_same rfl (Nat.le_refl _) rfl, ?_⟩
  set_option smartUnfolding false in conv => whnf
  refine vc_seqV (vc_block ?_)
  refine vc_slots 3 [(0, .ptr p 0), (1, .int .i64 ((a : Nat) : Int)), (4, .ptr h.next 0)] ⟨rfl, rfl, rfl, trivial⟩ ?_
  have n1 : h.next ≠ p := by have := hh.lp; omega
  have n2 : h.next ≠ r := by have := hh.lr; omega
  refine up_loop (x := gI L a) (N := L.length) hN n1 n2 _ a _ L P ((hh.new _).set _ n1 n2) (Nat.lt_succ_self _) (by rw [get_set_same]; rfl) ha rfl (by rw [set_gI ha]; exact hp) (by rw [set_gI ha]; exact hu) ?_
  intro a' h1 L1 P1 e1 g0 g1 g4 k1 k2 k3 k4 k5 k6 k7 k8 k9
  rw [set_gI ha] at k7 k8
  show VC fs ms _ _ _ _ _ _
  refine vc_slots 3 [(0, .ptr p 0), (1, .int .i64 ((a' : Nat) : Int)), (4, .ptr h.next 0)] ⟨g0, g1, g4, trivial⟩ (vpC_sound (z := true) ?_)
  set_option smartUnfolding false in conv => whnf
  refine ⟨_, ldN k2 (Nat.le_refl _), ?_⟩
  set_option smartUnfolding false in conv => whnf
  have hsm : (gI L a).1 < 64 := hp.small a ha
  have hal : a' < L1.length := by omega
  refine lay_o (x := gI L a) k1 hal hsm (by omega) fun h2 hh2 fr2 => ?_
  set_option smartUnfolding false in conv => whnf
  have hfin := k5.fill
  rw [gI_at hal] at hfin
  refine hQ h2 _ _ a' hh2 (by rw [List.length_set]; exact k4) (by rw [List.length_set]; exact hal) hfin k6 (gI_at hal) k7 k8 ?_
  exact (((Fr.refl h [p, r]).new (x := _)).setn (Nat.le_refl _)).trans (k9.trans fr2)

theorem dbl_v {a : Nat} (h : a < 2 ^ 61) : IntKind.i64.wrap (IntKind.i64.wrap (2 * ((a : Nat) : Int)) + 1) = ((2 * a + 1 : Nat) : Int) := by
  rw [show 2 * ((a : Nat) : Int) = ((2 * a : Nat) : Int) by omega, wrap_nat (by omega), inc_val (by omega)]

theorem down_loop {p r cap t : Nat} {op : Bool} {rest : List AV} {x : Id} {B : Nat} {Q : AX → Env → Heap → Prop} {N : Nat} (hN : N < 2 ^ 60) (tp : t ≠ p) (tr : t ≠ r) (es : Nat) :
    ∀ (k a : Nat) (h : Heap) (L : List Id) (P : Nat → Nat), N - a = k → HAt h p r cap op L P rest → t < h.next → h.get t = some (.cells (ob x).cells true es) → a < N → L.length = N → PlV (L.set a x) P a → Hdn (L.set a x) a →
    (∀ (a' : Nat) (h' : Heap) (L' : List Id) (P' : Nat → Nat) (e' : Env), Tr.get e' 0 = some (.ptr p 0) → Tr.get e' 1 = some (.int .i64 ((a' : Nat) : Int)) → Tr.get e' 4 = some (.ptr t 0) → HAt h' p r cap op L' P' rest → h'.get t = some (.cells (ob x).cells true es) → a' < N → L'.length = N →
      PlV (L'.set a' x) P' a' → Hp (L'.set a' x) → Same (L.set a x) (L'.set a' x) → Fr h h' [p, r] → Q (.exit 0) e' h') →
    VC fs ms B false (.loop L_rank_heaped_down_0) (ek 3 [(0, .ptr p 0), (1, .int .i64 ((a : Nat) : Int)), (4, .ptr t 0)]) h Q := by
  intro k
  induction k using Nat.strongRecOn with
  | ind k ih =>
  intro a h L P hk hh htn ht ha hL hp hu hQ
  have hal : a < L.length := by omega
  have hdone : ∀ e', Tr.get e' 0 = some (.ptr p 0) → Tr.get e' 1 = some (.int .i64 ((a : Nat) : Int)) → Tr.get e' 4 = some (.ptr t 0) → Hch (L.set a x) a → Q (.exit 0) e' h := fun e' g0 g1 g4 hc =>
    hQ a h L P e' g0 g1 g4 hh ht ha hL hp (hu.full hc) (Same.refl _) (Fr.refl _ _)
  have hstep : ∀ m (h' : Heap), m < N → (m - 1) / 2 = a → 0 < m → ah (gI L m) x = true → (∀ c, 0 < c → c < N → (c - 1) / 2 = a → ah (gI L c) (gI L m) = false) → 
      HAt h' p r cap op (L.set a (gI L m)) (upd P (gI L m).1 (a + 1)) rest → Fr h h' [p, r] →
      VC fs ms B false (.loop L_rank_heaped_down_0) (ek 3 [(0, .ptr p 0), (1, .int .i64 ((m : Nat) : Int)), (4, .ptr t 0)]) h' Q := by
    intro m h' hm hpa hm0 hs hmin hh' fr
    have hne : m ≠ a := by omega
    have hml : m < L.length := by omega
    have hsw : (L.set a (gI L m)).set m x = swp (L.set a x) a m := swp_at hal hml hne
    have hpl := hp.step (m := m) (by rw [List.length_set]; exact hml) hne
    rw [gI_ne hal hne] at hpl
    have hdn := hu.step (m := m) (by rw [List.length_set]; exact hal) hm0 (by rw [List.length_set]; exact hml) hpa (by rw [gI_at hal, gI_ne hal hne]; exact hs) (by
      intro c h0 hc hpc
      rw [List.length_set] at hc
      rw [gI_ne hal (by omega), gI_ne hal hne]
      exact hmin c h0 (by omega) hpc)
    refine ih (N - m) (by omega) m h' _ _ rfl hh' (Nat.lt_of_lt_of_le htn fr.next) (by rw [fr.keep t htn (by simp [tp, tr])]; exact ht) hm (by simp [hL]) (by rw [hsw]; exact hpl) (by rw [hsw]; exact hdn) ?_
    intro a' h1 L1 P1 e1 g0 g1 g4 k1 k2 k3 k4 k5 k6 k7 k9
    rw [hsw] at k7
    exact hQ a' h1 L1 P1 e1 g0 g1 g4 k1 k2 k3 k4 k5 k6 ((same_swp (by rw [List.length_set]; exact hal) (by rw [List.length_set]; exact hml)).trans k7) (fr.trans k9)
  clear ih hQ
  have hsm : ∀ m, m < N → m ≠ a → (gI L m).1 < 64 := by
    intro m hm hne
    have := hp.small m (by rw [List.length_set]; omega)
    rw [gI_ne hal hne] at this
    exact this
  refine vc_loopV (vc_block ?_)
  refine vc_seq true ?_
  set_option smartUnfolding false in conv => whnf
  rw [dbl_v (by omega)]
  refine vc_seqV (VC.mono (Q := fun x e1 h1 => x = .normal ∧ h1 = h ∧ ∃ m, Tr.get e1 0 = some (.ptr p 0) ∧ Tr.get e1 1 = some (.int .i64 ((a : Nat) : Int)) ∧ Tr.get e1 4 = some (.ptr t 0) ∧ Tr.get e1 5 = some (.int .i64 ((m : Nat) : Int)) ∧ (m = 2 * a + 1 ∨ m = 2 * a + 2) ∧ (N ≤ m → m = 2 * a + 1) ∧ (m < N → ∀ c, 0 < c → c < N → (c - 1) / 2 = a → ah (gI L c) (gI L m) = false)) ?_ ?_)
  · refine vpC_sound (z := true) ?_
    generalize hK : (fun (x : AX) (e1 : Env) (h1 : Heap) => x = .normal ∧ h1 = h ∧ ∃ m, Tr.get e1 0 = some (.ptr p 0) ∧ Tr.get e1 1 = some (.int .i64 ((a : Nat) : Int)) ∧ Tr.get e1 4 = some (.ptr t 0) ∧ Tr.get e1 5 = some (.int .i64 ((m : Nat) : Int)) ∧ (m = 2 * a + 1 ∨ m = 2 * a + 2) ∧ (N ≤ m → m = 2 * a + 1) ∧ (m < N → ∀ c, 0 < c → c < N → (c - 1) / 2 = a → ah (gI L c) (gI L m) = false)) = K
    set_option smartUnfolding false in conv => whnf
    refine ⟨_, hh.row, ?_⟩
    set_option smartUnfolding false in conv => whnf
    rw [inc_val (by omega)]
    refine br (fun hc => ?_) (fun hc => ?_) <;> (try rw [hc]) <;> (set_option smartUnfolding false in conv => whnf)
    · have hlt : 2 * a + 1 + 1 < L.length := by have := of_decide_eq_true hc; omega
      refine ⟨_, hh.row, ?_⟩
      set_option smartUnfolding false in conv => whnf
      rw [inc_val (by omega)]
      refine ⟨_, idx_slS3 hlt, ?_⟩
      set_option smartUnfolding false in conv => whnf
      refine ⟨_, hh.one hlt, ?_⟩
      set_option smartUnfolding false in conv => whnf
      refine ⟨_, hh.row, ?_⟩
      set_option smartUnfolding false in conv => whnf
      refine ⟨_, idx_slS3 (by omega), ?_⟩
      set_option smartUnfolding false in conv => whnf
      refine ⟨_, hh.one (by omega), ?_⟩
      set_option smartUnfolding false in conv => whnf
      refine vd_pure (ahead_c _ _) ?_
      set_option smartUnfolding false in conv => whnf
      have h1 : 2 * a + 1 + 1 = 2 * a + 2 := by omega
      refine br (fun hc => ?_) (fun hc => ?_) <;> (try rw [hc]) <;> (set_option smartUnfolding false in conv => whnf)
      · have hc' := hc
        rw [inc_val (by omega)]
        subst hK
        refine ⟨rfl, rfl, 2 * a + 1 + 1, rfl, rfl, rfl, rfl, .inr rfl, by omega, fun _ c h0 hcn hpc => ?_⟩
        rcases (show c = 2 * a + 1 ∨ c = 2 * a + 1 + 1 by omega) with rfl | rfl
        · exact ah_as hc'
        · rw [ah_not]; omega
      · have hc' := hc
        subst hK
        refine ⟨rfl, rfl, 2 * a + 1, rfl, rfl, rfl, rfl, .inl rfl, by omega, fun _ c h0 hcn hpc => ?_⟩
        rcases (show c = 2 * a + 1 ∨ c = 2 * a + 1 + 1 by omega) with rfl | rfl
        · rw [ah_not]; omega
        · exact hc'
    · have hge : ¬ 2 * a + 1 + 1 < L.length := by have := of_decide_eq_false hc; omega
      subst hK
      refine ⟨rfl, rfl, 2 * a + 1, rfl, rfl, rfl, rfl, .inl rfl, by omega, fun _ c h0 hcn hpc => ?_⟩
      rcases (show c = 2 * a + 1 by omega) with rfl
      rw [ah_not]; omega
  · rintro x1 e1 h1 ⟨rfl, rfl, m, g0, g1, g4, g5, hm, hmN, hmin⟩
    refine vc_slots 3 [(0, .ptr p 0), (1, .int .i64 ((a : Nat) : Int)), (4, .ptr t 0), (5, .int .i64 ((m : Nat) : Int))] ⟨g0, g1, g4, g5, trivial⟩ (vpC_sound (z := true) ?_)
    set_option smartUnfolding false in conv => whnf
    refine ⟨_, hh.row, ?_⟩
    set_option smartUnfolding false in conv => whnf
    refine br (fun hc => ?_) (fun hc => ?_) <;> (try rw [hc]) <;> (set_option smartUnfolding false in conv => whnf)
    · have hge : L.length ≤ m := by have := of_decide_eq_true hc; omega
      refine hdone _ rfl rfl rfl fun c h0 hcn hpc => ?_
      rw [List.length_set] at hcn
      have := hmN (by omega)
      omega
    · have hlt : m < L.length := by have := of_decide_eq_false hc; omega
      refine ⟨_, hh.row, ?_⟩
      set_option smartUnfolding false in conv => whnf
      refine ⟨_, idx_slS3 hlt, ?_⟩
      set_option smartUnfolding false in conv => whnf
      refine ⟨_, hh.one hlt, ?_⟩
      set_option smartUnfolding false in conv => whnf
      refine ⟨_, ldN ht (Nat.le_refl _), ?_⟩
      set_option smartUnfolding false in conv => whnf
      refine vd_pure (ahead_c _ x) ?_
      set_option smartUnfolding false in conv => whnf
      refine br (fun hc => ?_) (fun hc => ?_) <;> (try rw [hc]) <;> (set_option smartUnfolding false in conv => whnf)
      · have hc' : ah (gI L m) x = false := by simpa using hc
        have hs : ∀ c, 0 < c → c < N → (c - 1) / 2 = a → ah (gI L c) x = false := fun c h0 hcn hpc => ah_tt (hmin (by omega) c h0 hcn hpc) hc'
        refine hdone _ rfl rfl rfl fun c h0 hcn hpc => ?_
        rw [List.length_set] at hcn
        rw [gI_at hal, gI_ne hal (by omega)]
        exact hs c h0 (by omega) hpc
      · have hc' : ah (gI L m) x = true := by simpa using hc
        refine ⟨_, hh.row, ?_⟩
        set_option smartUnfolding false in conv => whnf
        refine ⟨_, idx_slS3 hlt, ?_⟩
        set_option smartUnfolding false in conv => whnf
        refine ⟨_, hh.one hlt, ?_⟩
        set_option smartUnfolding false in conv => whnf
        refine lay_o hh hal (hsm m (by omega) (by omega)) (by omega) fun h' hh' fr => ?_
        set_option smartUnfolding false in conv => whnf
        refine vc_slots 3 [(0, .ptr p 0), (1, .int .i64 ((m : Nat) : Int)), (4, .ptr t 0)] ⟨rfl, rfl, rfl, trivial⟩ ?_
        exact hstep m h' (by omega) (by omega) (by omega) hc' (hmin (by omega)) hh' fr

theorem down_o {h : Heap} {p r cap : Nat} {op : Bool} {L : List Id} {P : Nat → Nat} {rest : List AV} {a : Nat} (hh : HAt h p r cap op L P rest) (ha : a < L.length) (hN : L.length < 2 ^ 60) (hp : PlV L P a) (hu : Hdn L a) {Q : AV → Heap → Prop}
    (hQ : ∀ h' L' P', HAt h' p r cap op L' P' rest → L'.length = L.length → PlF L' P' → Hp L' → Same L L' → Fr h h' [p, r] → Q (.tup []) h') : VD fs ms f_rank_heaped_down [.ptr p 0, .int .i64 ((a : Nat) : Int)] h Q := by
  refine vd_begin (af := C_rank_heaped_down) rfl (Nat.le_of_ble_eq_true rfl) ?_
  set_option smartUnfolding false in conv => whnf
  refine vc_seq true ?_
  set_option smartUnfolding false in conv => whnf
  refine ⟨_, hh.row, ?_⟩
  set_option smartUnfolding false in conv => whnf
  refine ⟨_, idx_slS3 ha, ?_⟩
  set_option smartUnfolding false in conv => whnf
  refine ⟨_, hh.one ha, ?_⟩
  set_option smartUnfolding false in conv => whnf
  refine ⟨_, _, sto_o get_new_same rfl (Nat.le_refl _) rfl, ?_⟩
  set_option smartUnfolding false in conv => whnf
  refine vc_seqV (vc_block ?_)
  refine vc_slots 3 [(0, .ptr p 0), (1, .int .i64 ((a : Nat) : Int)), (4, .ptr h.next 0)] ⟨rfl, rfl, rfl, trivial⟩ ?_
  have n1 : h.next ≠ p := by have := hh.lp; omega
  have n2 : h.next ≠ r := by have := hh.lr; omega
  refine down_loop (x := gI L a) (N := L.length) hN n1 n2 _ _ a _ L P rfl ((hh.new _).set _ n1 n2) (Nat.lt_succ_self _) (by rw [get_set_same]; rfl) ha rfl (by rw [set_gI ha]; exact hp) (by rw [set_gI ha]; exact hu) ?_
  intro a' h1 L1 P1 e1 g0 g1 g4 k1 k2 k3 k4 k5 k6 k7 k9
  rw [set_gI ha] at k7
  show VC fs ms _ _ _ _ _ _
  refine vc_slots 3 [(0, .ptr p 0), (1, .int .i64 ((a' : Nat) : Int)), (4, .ptr h.next 0)] ⟨g0, g1, g4, trivial⟩ (vpC_sound (z := true) ?_)
  set_option smartUnfolding false in conv => whnf
  refine ⟨_, ldN k2 (Nat.le_refl _), ?_⟩
  set_option smartUnfolding false in conv => whnf
  have hsm : (gI L a).1 < 64 := hp.small a ha
  have hal : a' < L1.length := by omega
  refine lay_o (x := gI L a) k1 hal hsm (by omega) fun h2 hh2 fr2 => ?_
  set_option smartUnfolding false in conv => whnf
  have hfin := k5.fill
  rw [gI_at hal] at hfin
  refine hQ h2 _ _ hh2 (by rw [List.length_set]; exact k4) hfin k6 k7 ?_
  exact (((Fr.refl h [p, r]).new (x := _)).setn (Nat.le_refl _)).trans (k9.trans fr2)

theorem PlF.vac {L : List Id} {P : Nat → Nat} (h : PlF L P) {a : Nat} (ha : a < L.length) : PlV L P a := ⟨ha, h.small, h.dist, fun i hi _ => h.pl i hi, fun d hd _ hp => h.back d hd hp⟩

/-- A row's beginning. -/
theorem pre_sl {b n cap k size : Nat} {op : Bool} (h : k ≤ cap) : pV (.slice size false true false) [.sl b 0 n cap op, .int .i64 ((k : Nat) : Int)] = some (.sl b 0 k cap op) := by
  have b1 : Nat.ble k cap = true := Nat.ble_eq_true_of_le h
  have b2 : Nat.ble cap cap = true := Nat.ble_eq_true_of_le (Nat.le_refl _)
  have b3 : bounds n cap false true false [.int .i64 ((k : Nat) : Int)] = some (0, k, cap) := by
    show cond (Nat.ble 0 k && Nat.ble k cap && Nat.ble cap cap) (some (0, k, cap)) none = _
    rw [b1, b2]
    rfl
  show sliceF size false true false (.sl b 0 n cap op) [.int .i64 ((k : Nat) : Int)] = _
  simp only [sliceF, dSl, b3]
  have b4 : (Nat.beq cap 0 && Nat.beq cap cap && (op && !Nat.beq 0 0)) = false := by
    have : (op && !Nat.beq 0 0) = false := by cases op <;> rfl
    rw [this, Bool.and_false]
  rw [b4, cond_false, Nat.zero_mul]
  have b5 : (cond (Nat.beq cap 0) 0 0) = 0 := by cases Nat.beq cap 0 <;> rfl
  rw [b5]
  rfl
theorem oc_app (L M : List Id) : oc (L ++ M) = oc L ++ oc M := by simp [oc, obs, flatCells]
theorem oc_one (x : Id) : oc [x] = (ob x).cells := by simp [oc, obs, flatCells]
theorem gI_app {M : List Id} {x : Id} {i : Nat} (h : i < M.length) : gI (M ++ [x]) i = gI M i := by
  rw [gI_eq (by rw [List.length_append]; omega), gI_eq h, List.getElem_append_left h]
theorem gI_end {M : List Id} {x : Id} : gI (M ++ [x]) M.length = x := by
  rw [gI_eq (by rw [List.length_append]; exact Nat.lt_succ_self _)]
  simp
theorem mem_gI {L : List Id} {y : Id} : y ∈ L ↔ ∃ i, i < L.length ∧ gI L i = y := by
  rw [List.mem_iff_getElem]
  constructor
  · rintro ⟨i, h, e⟩
    exact ⟨i, h, by rw [gI_eq h, e]⟩
  · rintro ⟨i, h, e⟩
    exact ⟨i, h, by rw [← gI_eq h, e]⟩
theorem Same.mem {L M : List Id} (h : Same L M) {y : Id} : y ∈ M ↔ y ∈ L := by rw [mem_gI, mem_gI]; exact (h.2 y).symm

theorem HAt.setP {h : Heap} {p r cap : Nat} {op : Bool} {L : List Id} {P : Nat → Nat} {rest : List AV} (hh : HAt h p r cap op L P rest) {i : Nat} (hi : i < 64) (v : Nat) {es : Nat} (he : es = 0) :
    HAt (h.set p (.cells (Heap.splice (.sl r 0 L.length cap op :: plc P) (1 + i * 1) [.int .i64 ((v : Nat) : Int)]) true es)) p r cap op L (upd P i v) rest := by
  subst he
  exact ⟨by rw [get_set_same, plc_set hi], by rw [get_set_ne hh.ne.symm]; exact hh.hr, hh.ne, hh.lp, hh.lr⟩
theorem HAt.pop {h : Heap} {p r cap : Nat} {op : Bool} {M : List Id} {x : Id} {P : Nat → Nat} {rest : List AV} (hh : HAt h p r cap op (M ++ [x]) P rest) {es : Nat} (he : es = 0) :
    HAt (h.set p (.cells (Heap.splice (.sl r 0 (M ++ [x]).length cap op :: plc P) 0 [.sl r 0 M.length cap op]) true es)) p r cap op M P ((ob x).cells ++ rest) := by
  subst he
  refine ⟨?_, ?_, hh.ne, hh.lp, hh.lr⟩
  · rw [get_set_same]
    show some (Blk.cells (.sl r 0 M.length cap op :: Heap.splice (plc P) 0 []) true 0) = _
    rw [splice_nil]
  · rw [get_set_ne hh.ne.symm, hh.hr, oc_app, oc_one, List.append_assoc]

/-- What is cut, in plain Lean. -/
theorem cut_last {M : List Id} {x : Id} {P : Nat → Nat} (hf : PlF (M ++ [x]) P) : PlF M (upd P x.1 0) := by
  have hl : (M ++ [x]).length = M.length + 1 := by simp
  have hx := hf.pl M.length (by omega)
  rw [gI_end] at hx
  refine ⟨fun i hi => ?_, fun i hi => ?_, fun d hd hp => ?_⟩
  · rw [← gI_app (x := x) hi]; exact hf.small i (by omega)
  · have := hf.pl i (by omega)
    rw [gI_app hi] at this
    unfold upd
    rw [if_neg (by intro e; rw [e] at this; omega)]
    exact this
  · unfold upd at hp ⊢
    split at hp
    · omega
    · rename_i hne
      rw [if_neg hne]
      have hb := hf.back d hd hp
      rw [hl] at hb
      have : P d ≠ M.length + 1 := by
        intro e
        rw [e] at hb
        have e2 := hb.2
        rw [show M.length + 1 - 1 = M.length by omega, gI_end] at e2
        exact hne e2.symm
      refine ⟨by omega, ?_⟩
      rw [← gI_app (x := x) (by omega)]
      exact hb.2
theorem hp_pre {M : List Id} {x : Id} (h : Hp (M ++ [x])) : Hp M := by
  intro i h0 hi
  have := h i h0 (by simp; omega)
  rwa [gI_app hi, gI_app (by omega)] at this
theorem cut_mid {M : List Id} {x : Id} {P : Nat → Nat} {a : Nat} (ha : a < M.length) (hf : PlF (M ++ [x]) P) : PlF (M.set a x) (upd (upd P (gI M a).1 0) x.1 (a + 1)) := by
  have hl : (M ++ [x]).length = M.length + 1 := by simp
  have hx := hf.pl M.length (by omega)
  rw [gI_end] at hx
  have hA := hf.pl a (by omega)
  rw [gI_app ha] at hA
  refine ⟨fun i hi => ?_, fun i hi => ?_, fun d hd hp => ?_⟩
  · rw [gI_set ha]
    split
    · have := hf.small M.length (by omega)
      rwa [gI_end] at this
    · rw [List.length_set] at hi
      rw [← gI_app (x := x) hi]; exact hf.small i (by omega)
  · rw [List.length_set] at hi
    rw [gI_set ha]
    unfold upd
    split
    · rename_i e
      rw [if_pos rfl, e]
    · rename_i e
      have := hf.pl i (by omega)
      rw [gI_app hi] at this
      rw [if_neg (by intro e; rw [e] at this; omega), if_neg (by intro e; rw [e] at this; omega)]
      exact this
  · rw [List.length_set]
    unfold upd at hp ⊢
    by_cases e : d = x.1
    · rw [if_pos e]
      refine ⟨by omega, ?_⟩
      rw [show a + 1 - 1 = a by omega, gI_at ha, e]
    · rw [if_neg e] at hp ⊢
      by_cases e2 : d = (gI M a).1
      · rw [if_pos e2] at hp; omega
      · rw [if_neg e2] at hp ⊢
        have hb := hf.back d hd hp
        rw [hl] at hb
        have n1 : P d ≠ M.length + 1 := by
          intro e3
          rw [e3] at hb
          have e4 := hb.2
          rw [show M.length + 1 - 1 = M.length by omega, gI_end] at e4
          exact e e4.symm
        have n2 : P d - 1 ≠ a := by
          intro e3
          have e4 := hb.2
          rw [e3, gI_app ha] at e4
          exact e2 e4.symm
        refine ⟨by omega, ?_⟩
        rw [gI_ne ha n2, ← gI_app (x := x) (by omega)]
        exact hb.2
theorem cut_hup {M : List Id} {x : Id} {a : Nat} (ha : a < M.length) (h : Hp (M ++ [x])) : Hup (M.set a x) a := by
  have h := hp_pre h
  refine ⟨fun i h0 hi h1 h2 => ?_, fun c h0 hc hp h1 => ?_⟩
  · rw [gI_ne ha h1, gI_ne ha h2]
    exact h i h0 (by simpa using hi)
  · rw [List.length_set] at hc
    rw [gI_ne ha (by omega), gI_ne ha (by omega)]
    have k1 := h c h0 hc
    have k2 := h a h1 ha
    rw [hp] at k1
    exact ah_tt k1 k2
theorem cut_mem {M : List Id} {x : Id} {P : Nat → Nat} {a : Nat} (ha : a < M.length) (hf : PlF (M ++ [x]) P) (y : Id) : y ∈ M.set a x ↔ y ∈ M ++ [x] ∧ y.1 ≠ (gI (M ++ [x]) a).1 := by
  have hl : (M ++ [x]).length = M.length + 1 := by simp
  rw [mem_gI, mem_gI]
  constructor
  · rintro ⟨i, hi, e⟩
    rw [List.length_set] at hi
    rw [gI_set ha] at e
    split at e
    · subst e
      refine ⟨⟨M.length, by omega, gI_end⟩, fun e2 => ?_⟩
      have := hf.dist M.length a (by omega) (by omega) (by rw [gI_end]; exact e2)
      omega
    · rename_i hne
      subst e
      refine ⟨⟨i, by omega, gI_app hi⟩, fun e2 => ?_⟩
      rw [← gI_app (x := x) hi] at e2
      exact hne (hf.dist i a (by omega) (by omega) e2)
  · rintro ⟨⟨i, hi, e⟩, hne⟩
    by_cases h1 : i = M.length
    · subst h1
      rw [gI_end] at e
      exact ⟨a, by rw [List.length_set]; exact ha, by rw [gI_at ha, e]⟩
    · refine ⟨i, by rw [List.length_set]; omega, ?_⟩
      rw [gI_ne ha, ← gI_app (x := x) (by omega), e]
      rintro rfl
      rw [e] at hne
      exact hne rfl
theorem last_mem {M : List Id} {x : Id} {P : Nat → Nat} (hf : PlF (M ++ [x]) P) (y : Id) : y ∈ M ↔ y ∈ M ++ [x] ∧ y.1 ≠ (gI (M ++ [x]) M.length).1 := by
  have hl : (M ++ [x]).length = M.length + 1 := by simp
  rw [gI_end]
  constructor
  · intro h
    refine ⟨List.mem_append_left _ h, fun e => ?_⟩
    obtain ⟨i, hi, e2⟩ := mem_gI.1 h
    have := hf.dist i M.length (by omega) (by omega) (by rw [gI_app hi, gI_end, e2, e])
    omega
  · rintro ⟨h, hne⟩
    rcases List.mem_append.1 h with h | h
    · exact h
    · simp at h
      subst h
      exact absurd rfl hne
end Ir
end Go.Proofs.Ytenafeojcgmnhaa
