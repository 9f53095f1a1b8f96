/-
  Tape: texts as bytes; the document's Put.
-/
import Derived.Test.YtmnolnoeibhjgaaGreatVTpC
set_option maxRecDepth 100000
set_option linter.unusedSimpArgs false
set_option linter.unusedVariables false
namespace Go.Proofs.YtmnolnoeibhjgaaGreat
open Go Ads
namespace Ir
def strB (s : List UInt8) : List Int := s.map fun b => (b.toNat : Int)
theorem strB_len (s : List UInt8) : (strB s).length = s.length := List.length_map ..
theorem src_str (s : List UInt8) (h : Heap) : srcV 1 h (.str s) = some ((bys (strB s)).length, flatCells (bys (strB s))) := by
  rw [flat_bys, len_bys, strB_len]
  simp [srcV, srcCells, bys, strB, Function.comp_def]
def txt (s : List UInt8) : List Int := puts [(s.length : Int)] ++ strB s
theorem txt_len (s : List UInt8) : (txt s).length ≤ 9 + s.length := by
  have := puts_len [(s.length : Int)]
  simp only [List.length_cons, List.length_nil] at this
  rw [txt, List.length_append, strB_len]
  omega
theorem badN_len {n : Nat} (h : n ≤ 9007199254740991) : badN (n : Int) = false := by
  simp only [badN, Bool.or_eq_false_iff, decide_eq_false_iff_not]
  omega
/-- A text behind a row of bytes. -/
theorem BR.txt {lo : Nat} {h : Heap} {v : AV} {M : List Int} (hr : BR lo h v M) (hlo : lo ≤ h.next) {s : List UInt8} (hm : M.length + s.length ≤ 1000000000) :
    ∃ v' g', eV (.append 1 1) [v, .str s] h = some (v', g') ∧ BR lo g' v' (M ++ strB s) ∧ h.next ≤ g'.next ∧ ∀ c, c < lo → g'.get c = h.get c := by
  have := GR.appN (bytes := 1) hr hlo (src_str s h) (by rw [flat_bys]; exact flatL_bys _) (size_bys M) (by rw [len_bys, len_bys, strB_len]; omega) (by rw [len_bys, len_bys, strB_len]; omega)
  rw [← app_bys] at this
  exact this
/-- A row of bytes behind another one. -/
theorem BR.row {lo : Nat} {h : Heap} {v x : AV} {M X : List Int} (hr : BR lo h v M) (hlo : lo ≤ h.next) (hx : srcV 1 h x = some (X.length, bys X)) (hm : M.length + X.length ≤ 1000000000) :
    ∃ v' g', eV (.append 1 1) [v, x] h = some (v', g') ∧ BR lo g' v' (M ++ X) ∧ h.next ≤ g'.next ∧ ∀ c, c < lo → g'.get c = h.get c := by
  have := GR.appN (bytes := 1) (X := bys X) hr hlo (by rw [len_bys, flat_bys]; exact hx) (by rw [flat_bys]; exact flatL_bys _) (size_bys M) (by rw [len_bys, len_bys]; omega) (by rw [len_bys, len_bys]; omega)
  rw [← app_bys] at this
  exact this
theorem BR.src {lo : Nat} {h : Heap} {v : AV} {M : List Int} (hr : BR lo h v M) : srcV 1 h v = some (M.length, bys M) := by
  rcases hr with ⟨h1, rfl⟩ | ⟨hne, b, h1, h2, rfl, h4⟩
  · have : M = [] := by cases M with | nil => rfl | cons x r => simp [bys] at h1
    subst this
    rfl
  · rw [len_bys] at *
    rw [flat_bys] at h4
    exact src_nv h4 (by rw [len_bys, Nat.mul_one])
theorem BR.new {lo : Nat} {h : Heap} {v : AV} {M : List Int} {x : Blk} (hr : BR lo h v M) : BR lo (h.new x) v M := by
  rcases hr with hr | ⟨hne0, b, h1, h2, h3, h4⟩
  · exact .inl hr
  · exact .inr ⟨hne0, b, h1, Nat.lt_succ_of_lt h2, h3, by rw [get_new_ne h2]; exact h4⟩

theorem text_g {b : List Int} {s : List UInt8} (hs : s.length ≤ 16) (hsz : b.length ≤ 900000) {lo : Nat} {h : Heap} {v : AV} (hr : BR lo h v b) {Q : AV → Heap → Prop}
    (hQ : ∀ v' h', BR h.next h' v' (b ++ txt s) → h.next ≤ h'.next → (∀ d, d < h.next → ¬ OwnB v d → h'.get d = h.get d) → Q (.tup [v', .int .i64 0]) h') :
    VD fs ms f_pack_PutText [v, .str s] h Q := by
  refine vd_start (af := C_pack_PutText) true rfl (Nat.le_of_ble_eq_true rfl) ?_
  set_option smartUnfolding false in conv => whnf
  refine brf (by simp; omega) (fun hc => ?_)
  (try rw [hc])
  set_option smartUnfolding false in conv => whnf
  refine put_g (l := [(s.length : Int)]) (c := h.next) (by intro n hn; simp at hn; subst hn; exact badN_len (by omega)) (by simp; omega) hr.new get_new_same fun v' h' hr' hn' hk' => ?_
  set_option smartUnfolding false in conv => whnf
  have hpl := puts_len [(s.length : Int)]
  simp only [List.length_cons, List.length_nil] at hpl
  obtain ⟨v2, g2, ha, hr2, hn2, hk2⟩ := hr'.txt (s := s) hn' (by rw [List.length_append]; omega)
  refine ⟨_, _, ha, ?_⟩
  set_option smartUnfolding false in conv => whnf
  have hnn : h.next + 1 ≤ h'.next := hn'
  exact hQ v2 g2 (by rw [List.append_assoc] at hr2; exact hr2.low (Nat.le_succ _)) (by omega) (fun d hd ho => by rw [hk2 d (Nat.lt_succ_of_lt hd), hk' d (Nat.lt_succ_of_lt hd) (by omega) ho, get_new_ne (by omega)])

/- The document's. -/
theorem cpy_c {k : Nat} (b : List Int) (hsz : b.length ≤ 1000000) {h : Heap} {Q : AV → Heap → Prop} (hQ : ∀ v h', BR h.next h' v b → Fr h h' [] → Q v h') : VD fs ms f_escapementref00_CopyBytes [.fz k (bys b)] h Q := by
  refine vd_start (af := C_escapementref00_CopyBytes) true rfl (Nat.le_of_ble_eq_true rfl) ?_
  set_option smartUnfolding false in conv => whnf
  obtain ⟨v', g', ha, hr', fr'⟩ := GR.copy (s := 1) (bytes := 1) (lo := h.next) (k := k) (h := h) (M := bys b) (Nat.le_refl _) (size_bys b) (by rw [flat_bys]; exact flatL_bys _) (by rw [len_bys]; omega) (by rw [len_bys]; omega)
  refine ⟨_, _, ha, ?_⟩
  set_option smartUnfolding false in conv => whnf
  exact hQ v' g' hr' fr'

theorem rput_in {kx : Nat} {l : List Int} {j : Nat} {n : Int} (hn : 255 ≤ n) (hn2 : n ≤ 9007199254740991) {h0 : Heap} {B : Nat} {Q : AX → Env → Heap → Prop} :
    ∀ (m i : Nat) (h : Heap) (env : Env) (v : AV) (M : List Int), 8 - i = m → i ≤ 8 → BR h0.next h v M → Fr h0 h [] → M.length + m ≤ 1000000000 →
      AllAt env [(6, v), (8, .int .i64 (n - 254)), (9, .int .i64 (7 - ((i : Nat) : Int))), (1, .fz kx (ints l)), (7, .int .i64 ((j : Nat) : Int))] →
      (∀ e' h' v', BR h0.next h' v' (M ++ hi8 n i) → Fr h0 h' [] → AllAt e' [(6, v'), (1, .fz kx (ints l)), (7, .int .i64 ((j : Nat) : Int))] → Q (.exit 2) e' h') →
      VC fs ms B false (.loop L_escapementref04_Put_1) env h Q := by
  intro m
  induction m with
  | zero =>
    intro i h env v M hm hi hr fr hM henv hQ
    have h8 : i = 8 := by omega
    refine vc_slots 4 _ henv ?_
    refine vc_loopV (vpC_sound (z := true) ?_)
    set_option smartUnfolding false in conv => whnf
    refine brf (by simp; omega) (fun hc => ?_)
    (try rw [hc])
    set_option smartUnfolding false in conv => whnf
    refine hQ _ _ v (by simpa [hi8, h8] using hr) fr ⟨rfl, rfl, rfl, trivial⟩
  | succ m ih =>
    intro i h env v M hm hi hr fr hM henv hQ
    refine vc_slots 4 _ henv ?_
    refine vc_loopV (vpC_sound (z := true) ?_)
    set_option smartUnfolding false in conv => whnf
    refine brt (by simp; omega) (fun hc => ?_)
    (try rw [hc])
    set_option smartUnfolding false in conv => whnf
    have hs : IntKind.i64.wrap (8 * (7 - ((i : Nat) : Int))) = ((56 - 8 * i : Nat) : Int) := by rw [IntWalk.i64_in _ (by omega)]; omega
    rw [hs]
    refine ⟨_, shr_val _ (by omega), ?_⟩
    set_option smartUnfolding false in conv => whnf
    obtain ⟨v', g', ha, hr', hnx, hkp⟩ := hr.put fr.next (by omega) (w8 ((n - 254).fdiv (2 ^ (56 - 8 * i))))
    refine ⟨_, _, ha, ?_⟩
    set_option smartUnfolding false in conv => whnf
    have fr' := fr.app hnx hkp
    refine ih (i + 1) _ _ v' _ (by omega) (by omega) hr' fr' (by rw [List.length_append]; simp; omega) ⟨rfl, rfl, ?_, rfl, rfl, trivial⟩ ?_
    · show some (AV.int .i64 (IntKind.i64.wrap ((7 - ((i : Nat) : Int)) - 1))) = _
      rw [IntWalk.i64_in _ (by omega)]
      congr 2
      omega
    · intro e' h' v'' hr2 fr2 ha2
      rw [List.append_assoc, List.singleton_append, ← hi8_next (by omega)] at hr2
      exact hQ e' h' v'' hr2 fr2 ha2

theorem rput_l {kx : Nat} {b l : List Int} (hl : ∀ n ∈ l, badN n = false) (hsz : b.length + 9 * l.length ≤ 1000000000) {h0 : Heap} {B : Nat} {Q : AX → Env → Heap → Prop}
    (hQ : ∀ e' h' v', BR h0.next h' v' (b ++ puts l) → Fr h0 h' [] → Tr.get e' 6 = some v' → Q (.exit 0) e' h') :
    ∀ (m j : Nat) (h : Heap) (env : Env) (v : AV), l.length - j = m → j ≤ l.length → BR h0.next h v (b ++ puts (l.take j)) → Fr h0 h [] →
      AllAt env [(6, v), (1, .fz kx (ints l)), (7, .int .i64 ((j : Nat) : Int))] →
      VC fs ms B false (.loop L_escapementref04_Put_0) env h Q := by
  intro m
  induction m with
  | zero =>
    intro j h env v hm hj hr fr henv
    have he : j = l.length := by omega
    refine vc_slots 4 _ henv ?_
    refine vc_loopV (vpC_sound (z := true) ?_)
    set_option smartUnfolding false in conv => whnf
    refine brf (by simp [len_ints]; omega) (fun hc => ?_)
    (try rw [hc])
    set_option smartUnfolding false in conv => whnf
    subst he
    exact hQ _ _ v (by simpa using hr) fr rfl
  | succ m ih =>
    intro j h env v hm hj hr fr henv
    have hlt : j < l.length := by omega
    have hpl := puts_len (l.take j)
    rw [List.length_take, Nat.min_eq_left (by omega)] at hpl
    have hb : (b ++ puts (l.take j)).length + 9 ≤ 1000000000 := by rw [List.length_append]; omega
    have hnx := puts_next hlt
    have hbad := hl _ (List.getElem_mem hlt)
    have hix := idx_int (k := kx) hlt
    generalize hx : l[j] = n at *
    simp only [badN, Bool.or_eq_false_iff, decide_eq_false_iff_not] at hbad
    have hnext : ∀ e' h' v', BR h0.next h' v' (b ++ puts (l.take j) ++ put1 n) → Fr h0 h' [] → AllAt e' [(6, v'), (1, .fz kx (ints l)), (7, .int .i64 ((j : Nat) : Int))] →
        VC fs ms B false (.ops [zM 16 7, zP 17 (.bin .add) [.t 16, .c (.int .i64 1)], zM 7 17]) e' h' (fun x e1 h1 => match x with | .normal => VC fs ms B false (.loop L_escapementref04_Put_0) e1 h1 Q | x => Q x e1 h1) := by
      intro e' h' v' hr' fr' ha'
      refine vc_slots 4 _ ha' (vpC_sound (z := true) ?_)
      set_option smartUnfolding false in conv => whnf
      rw [List.append_assoc, ← hnx] at hr'
      exact ih (j + 1) h' _ v' (by omega) (by omega) hr' fr' ⟨rfl, rfl, inc_slot (by omega), trivial⟩
    refine vc_slots 4 _ henv ?_
    refine vc_loopV (vc_seq true ?_)
    set_option smartUnfolding false in conv => whnf
    refine brt (by simp [len_ints]; omega) (fun hc => ?_)
    (try rw [hc])
    set_option smartUnfolding false in conv => whnf
    refine vc_seqV (vpC_sound (z := true) ?_)
    set_option smartUnfolding false in conv => whnf
    refine ⟨_, hix, ?_⟩
    set_option smartUnfolding false in conv => whnf
    refine ⟨.int .i64 n, rfl, ?_⟩
    set_option smartUnfolding false in conv => whnf
    refine brf (by simp; omega) (fun hc => ?_)
    (try rw [hc])
    set_option smartUnfolding false in conv => whnf
    refine brf (by simp; omega) (fun hc => ?_)
    (try rw [hc])
    set_option smartUnfolding false in conv => whnf
    refine br (fun hc => ?_) (fun hc => ?_) <;> (try rw [hc]) <;> (set_option smartUnfolding false in conv => whnf)
    · have h255 : n < 255 := of_decide_eq_true hc
      obtain ⟨v', g', ha, hr', hnx', hkp⟩ := hr.put fr.next (by omega) (w8 n)
      refine ⟨_, _, ha, ?_⟩
      set_option smartUnfolding false in conv => whnf
      refine hnext _ _ v' (by rw [put1, if_pos h255]; exact hr') (fr.app hnx' hkp) ⟨rfl, rfl, rfl, trivial⟩
    · have h255 : ¬ n < 255 := of_decide_eq_false hc
      obtain ⟨v', g', ha, hr', hnx', hkp⟩ := hr.put fr.next (by omega) 255
      refine ⟨_, _, ha, ?_⟩
      set_option smartUnfolding false in conv => whnf
      have hw : IntKind.i64.wrap (n - 254) = n - 254 := IntWalk.i64_in _ (by omega)
      rw [hw]
      refine rput_in (kx := kx) (l := l) (j := j) (n := n) (h0 := h0) (by omega) (by omega) 8 0 _ _ v' _ rfl (by omega) hr' (fr.app hnx' hkp) (by rw [List.length_append]; simp; omega) ⟨rfl, rfl, rfl, rfl, rfl, trivial⟩ ?_
      intro e' h' v'' hr2 fr2 ha2
      set_option smartUnfolding false in conv => whnf
      refine hnext e' h' v'' ?_ fr2 ha2
      rw [put1, if_neg h255]
      rw [List.append_assoc] at hr2
      exact hr2
theorem rput_c {k kx : Nat} (b l : List Int) (hl : ∀ n ∈ l, badN n = false) (hsz : b.length + 9 * l.length ≤ 1000000) {h : Heap} {Q : AV → Heap → Prop} (hQ : ∀ v h', BR h.next h' v (b ++ puts l) → Fr h h' [] → Q (.tup [v, .int .i64 0]) h') :
    VD fs ms f_escapementref04_Put [.fz k (bys b), .fz kx (ints l)] h Q := by
  refine vd_begin (af := C_escapementref04_Put) rfl (Nat.le_of_ble_eq_true rfl) ?_
  set_option smartUnfolding false in conv => whnf
  refine vc_seq true ?_
  set_option smartUnfolding false in conv => whnf
  refine vc_seq true ?_
  set_option smartUnfolding false in conv => whnf
  refine cpy_c b (by omega) fun v h1 hr fr => ?_
  set_option smartUnfolding false in conv => whnf
  refine vc_seqV (vc_seq true ?_)
  set_option smartUnfolding false in conv => whnf
  refine vc_block ?_
  refine rput_l (kx := kx) (b := b) (l := l) (h0 := h) hl (by omega) ?_ l.length 0 _ _ v rfl (Nat.zero_le _) (by simpa [puts] using hr) fr ⟨rfl, rfl, rfl, trivial⟩
  intro e' h' v' hr' fr' h6
  set_option smartUnfolding false in conv => whnf
  refine vc_slots 3 [(6, v')] ⟨h6, trivial⟩ (vpC_sound (z := true) ?_)
  set_option smartUnfolding false in conv => whnf
  exact hQ v' h' hr' fr'
theorem rput_g {b l : List Int} (hl : ∀ n ∈ l, badN n = false) (hsz : b.length + 9 * l.length ≤ 1000000) {lo c : Nat} {h : Heap} {v : AV} (hr : BR lo h v b) (hg : h.get c = some (.cells (ints l) true 0)) {Q : AV → Heap → Prop}
    (hQ : ∀ v' h', BR h.next h' v' (b ++ puts l) → h.next ≤ h'.next → (∀ d, d < h.next → d ≠ c → ¬ OwnB v d → h'.get d = h.get d) → Q (.tup [v', .int .i64 0]) h') :
    VD fs ms f_escapementref04_Put [v, .sl c 0 l.length l.length false] h Q := by
  obtain ⟨bs, hf, hbs⟩ := hr.frzO
  refine vd_frz (args' := [.fz (growK b.length) (bys b), .fz 2 (ints l)]) (c :: bs) (.cons (Frz.mono (fun i hi => List.mem_cons_of_mem _ hi) hf) (.cons (.row (s := 1) (wr := true) (es := 0) (by simp) hg (flat_ints l).symm (size_ints l) (len_ints l).symm (Nat.le_refl _) (by omega) (fun _ => rfl) (fun _ => rfl) (cl_ints l)) .nil)) ?_
  refine rput_c b l hl hsz fun v' h' hr' fr' => hQ v' h' ?_ ?_ ?_
  · rw [delAll_next] at hr'
    exact hr'
  · have := fr'.next
    rw [delAll_next] at this
    exact this
  · intro d hdl hdc hdo
    rw [fr'.keep d (by rw [delAll_next]; exact hdl) (by simp), delAll_get, if_neg (fun hm => (List.mem_cons.1 hm).elim hdc (fun h => hdo (hbs d h)))]
theorem rtext_g {b : List Int} {s : List UInt8} (hs : s.length ≤ 16) (hsz : b.length ≤ 900000) {lo : Nat} {h : Heap} {v : AV} (hr : BR lo h v b) {Q : AV → Heap → Prop}
    (hQ : ∀ v' h', BR h.next h' v' (b ++ txt s) → h.next ≤ h'.next → (∀ d, d < h.next → ¬ OwnB v d → h'.get d = h.get d) → Q (.tup [v', .int .i64 0]) h') :
    VD fs ms f_escapementref04_PutText [v, .str s] h Q := by
  refine vd_start (af := C_escapementref04_PutText) true rfl (Nat.le_of_ble_eq_true rfl) ?_
  set_option smartUnfolding false in conv => whnf
  refine brf (by simp; omega) (fun hc => ?_)
  (try rw [hc])
  set_option smartUnfolding false in conv => whnf
  refine rput_g (l := [(s.length : Int)]) (c := h.next) (by intro n hn; simp at hn; subst hn; exact badN_len (by omega)) (by simp; omega) hr.new get_new_same fun v' h' hr' hn' hk' => ?_
  set_option smartUnfolding false in conv => whnf
  have hpl := puts_len [(s.length : Int)]
  simp only [List.length_cons, List.length_nil] at hpl
  obtain ⟨v2, g2, ha, hr2, hn2, hk2⟩ := hr'.txt (s := s) hn' (by rw [List.length_append]; omega)
  refine ⟨_, _, ha, ?_⟩
  set_option smartUnfolding false in conv => whnf
  have hnn : h.next + 1 ≤ h'.next := hn'
  exact hQ v2 g2 (by rw [List.append_assoc] at hr2; exact hr2.low (Nat.le_succ _)) (by omega) (fun d hd ho => by rw [hk2 d (Nat.lt_succ_of_lt hd), hk' d (Nat.lt_succ_of_lt hd) (by omega) ho, get_new_ne (by omega)])
end Ir
end Go.Proofs.YtmnolnoeibhjgaaGreat
