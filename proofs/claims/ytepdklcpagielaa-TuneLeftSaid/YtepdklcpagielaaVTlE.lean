/-
  Tune: what is written into one copy changes no other. The contract of TuneLeft.
-/
import Derived.Test.YtepdklcpagielaaVTlD
import Derived.Test.YtepdklcpagielaaVTlW
set_option maxRecDepth 100000
set_option linter.unusedSimpArgs false
set_option linter.unusedVariables false
namespace Go.Proofs.Ytepdklcpagielaa
open Go Ads
namespace Ir

theorem XW.frz {h : Heap} {b n : Nat} {L : List Pt} {bs : List Int} (X : XW h b L bs n) (hn : L.length = n) (hb : bs.length = n) : Frz (fun _ => True) h (.sl b 0 n n true) (.fz 0 (pts (wL L bs))) := by
  obtain ⟨C, g, cl, cells⟩ := X.ex
  have hwl := wL_len (L := L) (bs := bs) (by omega)
  refine .sl (vs := C) (wr := true) (es := 3) (s := 3) trivial g (size_pts _) (by rw [len_pts]; omega) (by rw [len_pts]; omega) (Nat.le_refl _) (by omega) (fun h => by omega) (fun h => by omega) ?_
  intro i x j c y hx hc hy
  rw [pts, List.getElem?_map] at hx
  have hi : i < (wL L bs).length := by
    rcases Nat.lt_or_ge i (wL L bs).length with h | h
    · exact h
    · rw [List.getElem?_eq_none h] at hx; cases hx
  rw [List.getElem?_eq_getElem hi, wL_get i hi (by omega) (by omega)] at hx
  cases hx
  rw [Nat.zero_add] at hy
  obtain ⟨c0, c1, _⟩ := cells i (by omega)
  obtain ⟨c2, tv, c3, t⟩ := c1 (by omega)
  have hgd : bs.getD i 0 = bs[i]'(by omega) := by rw [List.getD_eq_getElem?_getD, List.getElem?_eq_getElem (by omega)]; rfl
  match j, hc, hy with
  | 0, hc, hy =>
    cases hc
    rw [Nat.add_zero, c0] at hy
    cases hy
    exact .clean rfl
  | 1, hc, hy =>
    cases hc
    rw [c2, hgd] at hy
    cases hy
    exact .clean rfl
  | 2, hc, hy =>
    cases hc
    rw [c3] at hy
    obtain rfl : tv = y := by simpa using hy
    show Frz _ h tv (.fz (growK (L[i]'(by omega)).ts.length) (tks (L[i]'(by omega)).ts))
    generalize (L[i]'(by omega)).ts = ts at *
    rcases t with ⟨rfl, rfl⟩ | ⟨hne, d, rfl, _, _, gd⟩
    · exact .nils
    · cases ts with
      | nil => exact absurd rfl hne
      | cons t0 tr => exact frz_open (s := 8) trivial gd rfl (size_tks _) (by rw [len_tks]) (cl_tks _)
  | j + 3, hc, hy => simp [pt, AV.cells] at hc

/-- How a row of partitions lies. -/
def SV (h : Heap) (b : Nat) (tv : AV) (m : Nat) : Prop := (m = 0 ∧ tv = .nils) ∨ ∃ c vs, tv = .sl c 0 m m true ∧ c ≠ b ∧ h.get c = some (.cells vs true 8) ∧ vs.length = m * 8
def SX (h : Heap) (b n : Nat) : Prop := ∃ C, h.get b = some (.cells C true 3) ∧ C.length = n * 3 ∧ ∀ i, i < n → ∃ tv m, C[i * 3 + 2]? = some tv ∧ m ≤ 6 ∧ SV h b tv m
theorem XW.shape {h : Heap} {b n : Nat} {L : List Pt} {bs : List Int} (X : XW h b L bs n) (hn : L.length = n) (h6 : ∀ x ∈ L, x.ts.length ≤ 6) : SX h b n := by
  obtain ⟨C, g, cl, cells⟩ := X.ex
  refine ⟨C, g, by omega, fun i hi => ?_⟩
  obtain ⟨c0, c1, _⟩ := cells i (by omega)
  obtain ⟨c2, tv, c3, t⟩ := c1 (by omega)
  refine ⟨tv, _, c3, h6 _ (List.getElem_mem (show i < L.length by omega)), ?_⟩
  rcases t with ⟨e, rfl⟩ | ⟨hne, d, rfl, h1, _, gd⟩
  · exact .inl ⟨by rw [e]; rfl, rfl⟩
  · exact .inr ⟨d, _, rfl, h1, gd, by rw [flat_size (size_tks _), len_tks]⟩
theorem SX.set {h : Heap} {b n c : Nat} {vs vs' : List AV} (X : SX h b n) (hc : c ≠ b) (g : h.get c = some (.cells vs true 8)) (hl : vs'.length = vs.length) : SX (h.set c (.cells vs' true 8)) b n := by
  obtain ⟨C, gC, cl, hX⟩ := X
  refine ⟨C, by rw [get_set_ne (Ne.symm hc)]; exact gC, cl, fun i hi => ?_⟩
  obtain ⟨tv, m, h1, h2, h3⟩ := hX i hi
  refine ⟨tv, m, h1, h2, ?_⟩
  rcases h3 with h3 | ⟨d, us, e1, e2, e3, e4⟩
  · exact .inl h3
  · by_cases e : d = c
    · subst e
      rw [g] at e3
      cases e3
      exact .inr ⟨d, vs', e1, e2, get_set_same, by omega⟩
    · exact .inr ⟨d, us, e1, e2, by rw [get_set_ne e]; exact e3, e4⟩
def tlE (kk n b i : Nat) (L : List Pt) : List (Nat × AV) := [(5, .fz kk (pts L)), (6, .fz kk (pts L)), (13, .sl b 0 n n true), (17, .int .i64 ((i : Nat) : Int))]
theorem tl_l1 {kk n b i : Nat} {L : List Pt} (hi : i < n) {B : Nat} {Q : AX → Env → Heap → Prop} (hQ : ∀ e' h', SX h' b n → AllAt e' (tlE kk n b i L) → Q (.exit 2) e' h') :
    ∀ (k j : Nat) (h : Heap) (env : Env), 6 - j = k → j ≤ 6 → SX h b n → AllAt env (tlE kk n b i L ++ [(18, .int .i64 ((j : Nat) : Int))]) →
    VC fs ms B false (.loop L_escapementlaw30_TuneLeft_1) env h Q := by
  intro k
  induction k using Nat.strongRecOn with
  | ind k ih =>
  intro j h env hk hj X henv
  obtain ⟨C, gC, cl, hX⟩ := id X
  obtain ⟨tv, m, h1, h2, h3⟩ := hX i hi
  refine vc_slots 5 _ henv ?_
  refine vc_loop (z := true) ?_
  unfold tlE
  set_option smartUnfolding false in conv => whnf
  refine ⟨_, idx_slS3 hi, ?_⟩
  set_option smartUnfolding false in conv => whnf
  refine ⟨_, ld1 gC h1, ?_⟩
  set_option smartUnfolding false in conv => whnf
  rcases h3 with ⟨rfl, rfl⟩ | ⟨c, vs, rfl, e2, e3, e4⟩
  · set_option smartUnfolding false in conv => whnf
    exact hQ _ _ X (by repeat' (first | exact trivial | refine And.intro (by first | with_reducible_and_instances rfl | (refine Eq.trans (b := some (AV.int .i64 _)) rfl (congrArg (fun z => some (AV.int .i64 z)) ?_); first | omega | (simp (disch := omega) only [IntWalk.i64_in] <;> omega)) | rfl) ?_))
  · set_option smartUnfolding false in conv => whnf
    refine br (fun hc => ?_) (fun hc => ?_) <;> (try rw [hc]) <;> (set_option smartUnfolding false in conv => whnf)
    · have hlt : j < m := by have := of_decide_eq_true hc; omega
      refine ⟨_, idx_slS3 hi, ?_⟩
      set_option smartUnfolding false in conv => whnf
      refine ⟨_, ld1 gC h1, ?_⟩
      set_option smartUnfolding false in conv => whnf
      refine ⟨_, idx_slS3 hlt, ?_⟩
      set_option smartUnfolding false in conv => whnf
      refine eff_o (sto_o (n := 1) (v := .int .i64 99) e3 rfl (by omega) rfl) fun h5 e5 => ?_
      set_option smartUnfolding false in conv => whnf
      rw [show Heap.splice vs (j * 8 + 2) (AV.int .i64 99).cells = vs.set (j * 8 + 2) (.int .i64 99) from splice_at _ _ _ (by omega)] at e5
      exact ih (6 - (j + 1)) (by omega) (j + 1) h5 _ rfl (by omega) (by rw [e5]; exact X.set e2 e3 (by rw [List.length_set])) (by repeat' (first | exact trivial | refine And.intro (by first | with_reducible_and_instances rfl | (refine Eq.trans (b := some (AV.int .i64 _)) rfl (congrArg (fun z => some (AV.int .i64 z)) ?_); first | omega | (simp (disch := omega) only [IntWalk.i64_in] <;> omega)) | rfl) ?_))
    · exact hQ _ _ X (by repeat' (first | exact trivial | refine And.intro (by first | with_reducible_and_instances rfl | (refine Eq.trans (b := some (AV.int .i64 _)) rfl (congrArg (fun z => some (AV.int .i64 z)) ?_); first | omega | (simp (disch := omega) only [IntWalk.i64_in] <;> omega)) | rfl) ?_))
theorem tl_l0 {kk n b : Nat} {L : List Pt} (hn : n ≤ 900) {B : Nat} {Q : AX → Env → Heap → Prop} (hQ : ∀ e' h', AllAt e' [(5, .fz kk (pts L)), (6, .fz kk (pts L))] → Q (.exit 0) e' h') :
    ∀ (k i : Nat) (h : Heap) (env : Env), n - i = k → i ≤ n → SX h b n → AllAt env (tlE kk n b i L) →
    VC fs ms B false (.loop L_escapementlaw30_TuneLeft_0) env h Q := by
  intro k
  induction k using Nat.strongRecOn with
  | ind k ih =>
  intro i h env hk hi X henv
  refine vc_slots 5 _ henv ?_
  refine vc_loopV (vc_seq true ?_)
  unfold tlE
  set_option smartUnfolding false in conv => whnf
  refine br (fun hc => ?_) (fun hc => ?_) <;> (try rw [hc]) <;> (set_option smartUnfolding false in conv => whnf)
  · have hlt : i < n := by have := of_decide_eq_true hc; omega
    refine vc_seqV (vc_block (vc_seq true ?_))
    set_option smartUnfolding false in conv => whnf
    refine vc_block ?_
    refine tl_l1 (kk := kk) (L := L) hlt ?_ _ 0 h _ rfl (by omega) X (by repeat' (first | exact trivial | refine And.intro (by first | with_reducible_and_instances rfl | (refine Eq.trans (b := some (AV.int .i64 _)) rfl (congrArg (fun z => some (AV.int .i64 z)) ?_); first | omega | (simp (disch := omega) only [IntWalk.i64_in] <;> omega)) | rfl) ?_))
    intro e1 h1 X1 he1
    show VC fs ms _ _ _ _ _ _
    refine vc_slots 5 _ he1 (vpC_sound (z := true) ?_)
    unfold tlE
    set_option smartUnfolding false in conv => whnf
    exact ih (n - (i + 1)) (by omega) (i + 1) h1 _ rfl (by omega) X1 (by repeat' (first | exact trivial | refine And.intro (by first | with_reducible_and_instances rfl | (refine Eq.trans (b := some (AV.int .i64 _)) rfl (congrArg (fun z => some (AV.int .i64 z)) ?_); first | omega | (simp (disch := omega) only [IntWalk.i64_in] <;> omega)) | rfl) ?_))
  · exact hQ _ _ (by repeat' (first | exact trivial | refine And.intro (by first | with_reducible_and_instances rfl | (refine Eq.trans (b := some (AV.int .i64 _)) rfl (congrArg (fun z => some (AV.int .i64 z)) ?_); first | omega | (simp (disch := omega) only [IntWalk.i64_in] <;> omega)) | rfl) ?_))

theorem slice_ints (k : Nat) (l : List Int) (n : Nat) (hn : n ≤ l.length) : pV (.slice 1 false true false) [.fz k (ints l), .int .i64 ((n : Nat) : Int)] = some (.fz (sliceKind k false n l.length l.length) (ints (l.take n))) := by
  have hb : bounds (ints l).length (ints l).length false true false [.int .i64 (n : Nat)] = some (0, n, (ints l).length) := by
    show cond (Nat.ble 0 n && Nat.ble n (ints l).length && Nat.ble (ints l).length (ints l).length) _ _ = _
    rw [Nat.ble_eq_true_of_le (Nat.zero_le n), Nat.ble_eq_true_of_le (by rw [len_ints]; exact hn), Nat.ble_eq_true_of_le (Nat.le_refl _)]
    rfl
  show sliceV 1 false true false k (ints l) [.int .i64 (n : Nat)] = _
  rw [sliceV, hb]
  simp only [show Nat.beq 0 0 = true from rfl, Bool.not_true, Bool.and_false, cond_false, size_ints, cond_true, List.drop_zero, Nat.sub_zero, len_ints]
  rw [show (ints l).take n = ints (l.take n) by simp [ints, List.map_take]]
theorem eqv_refl (L : List Pt) : Eqv L L := ⟨rfl, fun i h h' => ⟨rfl, rfl, rfl⟩⟩
theorem withE_o {h : Heap} {k kb : Nat} {L : List Pt} {bs : List Int} (hne : L.length ≠ bs.length) {Q : AV → Heap → Prop} (hQ : Q (.tup [.nils, .int .i64 2]) h) : VD fs ms f_tune_With [.fz k (pts L), .fz kb (ints bs)] h Q := by
  refine vd_start (af := C_tune_With) true rfl (Nat.le_of_ble_eq_true rfl) ?_
  set_option smartUnfolding false in conv => whnf
  rw [len_pts, len_ints]
  rw [show (((L.length : Nat) : Int) != ((bs.length : Nat) : Int)) = true by simp; omega]
  set_option smartUnfolding false in conv => whnf
  exact hQ
theorem rwithE_o {h : Heap} {k kb : Nat} {L : List Pt} {bs : List Int} (hne : L.length ≠ bs.length) {Q : AV → Heap → Prop} (hQ : Q (.tup [.nils, .int .i64 2]) h) : VD fs ms f_escapementref30_With [.fz k (pts L), .fz kb (ints bs)] h Q := by
  refine vd_start (af := C_escapementref30_With) true rfl (Nat.le_of_ble_eq_true rfl) ?_
  set_option smartUnfolding false in conv => whnf
  rw [len_pts, len_ints]
  rw [show (((L.length : Nat) : Int) != ((bs.length : Nat) : Int)) = true by simp; omega]
  set_option smartUnfolding false in conv => whnf
  exact hQ
theorem with0_o {h : Heap} {kb : Nat} {Q : AV → Heap → Prop} (hQ : ∀ h', Fr h h' [] → Q (.tup [.nils, .int .i64 0]) h') : VD fs ms f_tune_With [.fz 3 (pts []), .fz kb (ints [])] h Q := by
  refine vd_begin (af := C_tune_With) rfl (Nat.le_of_ble_eq_true rfl) ?_
  set_option smartUnfolding false in conv => whnf
  refine vc_seq true ?_
  set_option smartUnfolding false in conv => whnf
  refine vc_seq true ?_
  set_option smartUnfolding false in conv => whnf
  refine vc_seq true ?_
  set_option smartUnfolding false in conv => whnf
  refine vd_start (af := C_slices_Clone_api_Part_api_Part) true rfl (Nat.le_of_ble_eq_true rfl) ?_
  set_option smartUnfolding false in conv => whnf
  refine vc_seqV (vc_seq true ?_)
  set_option smartUnfolding false in conv => whnf
  refine vc_block (vc_loop (z := true) ?_)
  set_option smartUnfolding false in conv => whnf
  refine vpC_sound (z := true) ?_
  set_option smartUnfolding false in conv => whnf
  exact hQ h (Fr.refl _ _)
/-- What both copies are. -/
def XY (h : Heap) (x y : AV) (n : Nat) : Prop := (∃ A k k', Frz (fun _ => True) h x (.fz k (pts A)) ∧ Frz (fun _ => True) h y (.fz k' (pts A)) ∧ A.length ≤ 6 ∧ ∀ a ∈ A, a.ts.length ≤ 6) ∧ ((n = 0 ∧ x = .nils) ∨ ∃ b, x = .sl b 0 n n true ∧ SX h b n)
theorem both_o {h : Heap} {kk kb : Nat} {L : List Pt} {bs : List Int} (hkk : kk = growK L.length) (hK : Kinds L) (h6 : L.length ≤ 6) (ht : ∀ x ∈ L, x.ts.length ≤ 6) : ∃ e : Int, ∀ {Q : AV → Heap → Prop},
    (∀ h1 x, (∀ {Q2 : AV → Heap → Prop}, (∀ h2 y n, n ≤ 6 → XY h2 x y n → Q2 (.tup [y, .int .i64 e]) h2) → VD fs ms f_escapementref30_With [.fz kk (pts L), .fz kb (ints bs)] h1 Q2) → Q (.tup [x, .int .i64 e]) h1) → VD fs ms f_tune_With [.fz kk (pts L), .fz kb (ints bs)] h Q := by
  by_cases hne : L.length = bs.length
  · cases L with
    | nil =>
      have hbs : bs = [] := List.eq_nil_of_length_eq_zero (by rw [← hne]; rfl)
      subst hbs
      subst hkk
      refine ⟨0, fun {Q} hQ => with0_o fun h1 _ => hQ h1 .nils fun {Q2} h2 => rwith_o hK rfl (by simp) fun h3 y hy _ => ?_⟩
      rcases hy with ⟨_, rfl⟩ | ⟨b, _, _, rfl, gb⟩
      · exact h2 h3 .nils 0 (by omega) ⟨⟨[], 3, 3, .nils, .nils, by simp, by simp⟩, .inl ⟨rfl, rfl⟩⟩
      · exact h2 h3 _ 0 (by omega) ⟨⟨[], 3, 0, .nils, frz_open (s := 3) trivial gb rfl rfl rfl rfl, by simp, by simp⟩, .inl ⟨rfl, rfl⟩⟩
    | cons p0 L' =>
      have hn : (p0 :: L').length = L'.length + 1 := rfl
      subst hkk
      generalize hLg : p0 :: L' = L at *
      generalize L'.length = n at *
      rw [hn]
      refine ⟨0, fun {Q} hQ => with2_o hK hn (by omega) (by omega) fun h1 b X hb0 fr1 => hQ h1 _ fun {Q2} h2 => rwith_o hK (by omega) (by omega) fun h3 y hy fr3 => ?_⟩
      have X3 : XW h3 b L bs (n + 1) := by
        obtain ⟨C, g, cl, cells⟩ := X.ex
        refine ⟨Nat.lt_of_lt_of_le X.lb fr3.next, C, by rw [fr3.keep b X.lb (by simp)]; exact g, cl, fun i hi => ?_⟩
        obtain ⟨c0, c1, c2⟩ := cells i hi
        refine ⟨c0, fun hij => ?_, c2⟩
        obtain ⟨d1, tv, d2, d3⟩ := c1 hij
        exact ⟨d1, tv, d2, d3.keep fr3 (by simp)⟩
      obtain ⟨k', fy⟩ := hy.frz
      have hwl := wL_len (L := L) (bs := bs) (by omega)
      refine h2 h3 y (n + 1) (by omega) ⟨⟨wL L bs, 0, k', X3.frz hn (by omega), fy, by omega, fun a ha => ?_⟩, .inr ⟨b, rfl, X3.shape hn ht⟩⟩
      obtain ⟨i, hi, rfl⟩ := List.getElem_of_mem ha
      rw [wL_get i hi (by omega) (by omega)]
      exact ht L[i] (List.getElem_mem (show i < L.length by omega))
  · exact ⟨2, fun {Q} hQ => withE_o hne (hQ h .nils fun {Q2} h2 => rwithE_o hne (h2 h .nils 0 (by omega) ⟨⟨[], 3, 3, .nils, .nils, by simp, by simp⟩, .inl ⟨rfl, rfl⟩⟩))⟩

theorem tuneLeft_c (k0 kb : Nat) (l0 : List Pt) (hs0 : Small l0) (b0 : List Int) (hb0 : b0.length < 2 ^ 60) : PC fs ms f_escapementlaw30_TuneLeft [.fz k0 (pts l0), .fz kb (ints b0)] (.bool true) := by
  refine pc_of (by simp [clL, AV.cl, cl_pts, cl_ints]) rfl ?_
  generalize hK : (fun (u : AV) (_ : Heap) => u = .bool true) = K
  have hKt : ∀ h, K (.bool true) h := fun h => by subst hK; rfl
  clear hK
  generalize (⟨0, .nil⟩ : Heap) = h0
  have hcut := cutParts_c k0 l0 hs0
  have hlen : (cutPs l0).length ≤ 6 := by simp [cutPs]; omega
  have hKi : Kinds (cutPs l0) := by
    intro x hx
    simp only [cutPs, List.mem_map] at hx
    obtain ⟨y, _, rfl⟩ := hx
    exact ⟨rfl, by simp [cutP]; omega⟩
  have ht : ∀ x ∈ cutPs l0, x.ts.length ≤ 6 := by
    intro x hx
    simp only [cutPs, List.mem_map] at hx
    obtain ⟨y, _, rfl⟩ := hx
    simp [cutP]; omega
  have hsm : Small (cutPs l0) := ⟨by omega, fun x hx => by have := ht x hx; omega⟩
  generalize cutPs l0 = L at *
  obtain ⟨kk, hkk⟩ : ∃ kk, kk = growK L.length := ⟨_, rfl⟩
  rw [← hkk] at hcut
  obtain ⟨m, hm, hml⟩ : ∃ m, m = min b0.length 8 ∧ m ≤ b0.length := ⟨_, rfl, Nat.min_le_left _ _⟩
  have hsl := slice_ints kb b0 m hml
  obtain ⟨kc, hkc⟩ : ∃ kc, sliceKind kb false m b0.length b0.length = kc := ⟨_, rfl⟩
  rw [hkc] at hsl
  have eN : cond (decide ((8 : Int) < ((b0.length : Nat) : Int))) 8 ((b0.length : Nat) : Int) = ((m : Nat) : Int) := by
    cases hd : decide ((8 : Int) < ((b0.length : Nat) : Int)) with
    | true => have := of_decide_eq_true hd; simp only [cond_true]; omega
    | false => have := of_decide_eq_false hd; simp only [cond_false]; omega
  generalize b0.take m = bs at *
  have hLc := left_c kk L hsm
  have hRc := rleft_c kk L (by omega)
  generalize LeftS L = q at *
  obtain ⟨qa, qb, qe⟩ := q
  refine vd_begin (af := C_escapementlaw30_TuneLeft) rfl (Nat.le_of_ble_eq_true rfl) ?_
  set_option smartUnfolding false in conv => whnf
  refine vc_seq true ?_
  set_option smartUnfolding false in conv => whnf
  refine vc_seq true ?_
  set_option smartUnfolding false in conv => whnf
  refine vd_pure hcut ?_
  set_option smartUnfolding false in conv => whnf
  refine vd_pure hcut ?_
  set_option smartUnfolding false in conv => whnf
  refine vc_seq true ?_
  set_option smartUnfolding false in conv => whnf
  rw [len_ints, eN]
  refine ⟨_, hsl, ?_⟩
  set_option smartUnfolding false in conv => whnf
  refine vc_seq true ?_
  set_option smartUnfolding false in conv => whnf
  refine vd_pure (v := .tup [.int .i64 qa, .int .i64 qb, .int .i64 qe]) hLc ?_
  set_option smartUnfolding false in conv => whnf
  refine vc_seq true ?_
  set_option smartUnfolding false in conv => whnf
  refine vd_pure (v := .tup [.int .i64 qa, .int .i64 qb, .int .i64 qe]) hRc ?_
  set_option smartUnfolding false in conv => whnf
  refine vc_seq true ?_
  set_option smartUnfolding false in conv => whnf
  obtain ⟨e, hb⟩ := both_o (h := h0) (kb := kc) (bs := bs) hkk hKi hlen ht
  refine hb fun h1 x hr => ?_
  set_option smartUnfolding false in conv => whnf
  refine vc_seq true ?_
  set_option smartUnfolding false in conv => whnf
  refine hr fun h2 y n n6 XY2 => ?_
  set_option smartUnfolding false in conv => whnf
  obtain ⟨⟨A, ka, ka', fx, fy, hA, hAt⟩, hsh⟩ := XY2
  refine vc_slots 5 [(5, .fz kk (pts L)), (6, .fz kk (pts L)), (7, .int .i64 qa), (8, .int .i64 qb), (9, .int .i64 qe), (10, .int .i64 qa), (11, .int .i64 qb), (12, .int .i64 qe), (13, x), (14, .int .i64 e), (15, y), (16, .int .i64 e)] ⟨rfl, rfl, rfl, rfl, rfl, rfl, rfl, rfl, rfl, rfl, rfl, rfl, trivial⟩ ?_
  refine vc_seqV (vc_seqV (vc_ops (vo_cut 3 (vpO_sound (z := true) ?_))))
  set_option smartUnfolding false in conv => whnf
  rw [show (qa != qa) = false by simp]
  refine vo_cut 5 (vpO_sound (z := true) ?_)
  set_option smartUnfolding false in conv => whnf
  rw [show (qb != qb) = false by simp]
  refine vo_cut 5 (vpO_sound (z := true) ?_)
  set_option smartUnfolding false in conv => whnf
  rw [show (qe != qe) = false by simp]
  refine vo_cut 7 (vpO_sound (z := true) ?_)
  set_option smartUnfolding false in conv => whnf
  refine vd_view (same30_c ka ka' (eqv_refl A) (by omega) fun a ha => by have := hAt a ha; omega) rfl (.cons fx (.cons fy .nil)) ?_
  set_option smartUnfolding false in conv => whnf
  refine vo_cut 3 (vpO_sound (z := true) ?_)
  set_option smartUnfolding false in conv => whnf
  rw [show (e != e) = false by simp]
  refine vpO_sound (z := true) ?_
  set_option smartUnfolding false in conv => whnf
  refine vpC_sound (z := true) ?_
  set_option smartUnfolding false in conv => whnf
  refine vc_slots 5 [(5, .fz kk (pts L)), (6, .fz kk (pts L)), (13, x)] ⟨rfl, rfl, rfl, trivial⟩ ?_
  refine vc_seqV (vc_seq true ?_)
  set_option smartUnfolding false in conv => whnf
  refine vc_block ?_
  refine VC.mono (Q := fun z e1 h1 => z = .exit 0 ∧ AllAt e1 [(5, .fz kk (pts L)), (6, .fz kk (pts L))]) ?_ ?_
  · rcases hsh with ⟨rfl, rfl⟩ | ⟨b, rfl, X⟩
    · refine vc_loop (z := true) ?_
      set_option smartUnfolding false in conv => whnf
      exact ⟨rfl, rfl, rfl, trivial⟩
    · exact tl_l0 (kk := kk) (L := L) (by omega) (fun e' h' he => ⟨rfl, he⟩) _ 0 h2 _ rfl (Nat.zero_le _) X (by repeat' (first | exact trivial | refine And.intro (by first | with_reducible_and_instances rfl | (refine Eq.trans (b := some (AV.int .i64 _)) rfl (congrArg (fun z => some (AV.int .i64 z)) ?_); first | omega | (simp (disch := omega) only [IntWalk.i64_in] <;> omega)) | rfl) ?_))
  · rintro z e' h' ⟨rfl, he⟩
    show VC fs ms _ _ _ _ _ _
    refine vc_slots 5 _ he (vpC_sound (z := true) ?_)
    set_option smartUnfolding false in conv => whnf
    refine vd_pure (same30_c kk kk (eqv_refl L) (by omega) fun a ha => by have := ht a ha; omega) ?_
    set_option smartUnfolding false in conv => whnf
    refine vd_pure works30_c ?_
    set_option smartUnfolding false in conv => whnf
    exact hKt _
end Ir
end Go.Proofs.Ytepdklcpagielaa
