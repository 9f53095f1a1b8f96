/-
  Tape: numbers as bytes: the program's Put.
-/
import Derived.Test.YtmnolnoeibhjgaaGreatVTpB
set_option maxRecDepth 100000
set_option linter.unusedSimpArgs false
set_option linter.unusedVariables false
namespace Go.Proofs.YtmnolnoeibhjgaaGreat
open Go Ads
namespace Ads
/-- Some more behind a row that is full: a new row. -/
theorem app_nB {h : Heap} {s bytes b m n : Nat} {vs cs : List AV} {x : AV} (hg : h.get b = some (.cells vs true s)) (hv : vs.length = m * s) (hsrc : srcV s h x = some (n + 1, cs)) (hf : flatL cs = true) (hb : (m + (n + 1)) * bytes ≤ 140737488355328) (hm : m + (n + 1) ≤ 140737488355328) :
    eV (.append s bytes) [.sl b 0 m m true, x] h = some (.sl h.next 0 (m + (n + 1)) (m + (n + 1)) true, (h.del b).new (.cells (vs ++ cs) true s)) := by
  have b1 : Nat.ble (m + (n + 1)) m = false := by cases hb : Nat.ble (m + (n + 1)) m with | false => rfl | true => (have := Nat.le_of_ble_eq_true hb; omega)
  have b2 : Nat.ble ((m + (n + 1)) * bytes) 140737488355328 = true := Nat.ble_eq_true_of_le hb
  have b3 : Nat.ble (m + (n + 1)) 9223372036854775807 = true := Nat.ble_eq_true_of_le (by omega)
  have b4 : Nat.ble (0 + m * s) vs.length = true := Nat.ble_eq_true_of_le (by omega)
  have b5 : Nat.beq vs.length (0 + m * s) = true := by rw [hv, Nat.zero_add]; exact Nat.beq_refl _
  have hld : h.loadN b 0 (m * s) = some vs := by
    simp only [Heap.loadN, Heap.row, hg, b4, cond_true, List.drop_zero]
    rw [← hv, List.take_length]
  simp only [eV, l2, hsrc]
  show cond (flatL cs) _ _ = _
  rw [hf, cond_true]
  show cond (Nat.beq (n + 1) 0 && Nat.ble m m) _ _ = _
  rw [show Nat.beq (n + 1) 0 = false from rfl, Bool.false_and, cond_false, b1, cond_false, b2, b3, Bool.and_self, cond_true, hg, hld]
  show cond true (cond (true && Nat.beq vs.length (0 + m * s) && Nat.beq m m && Nat.beq s s) _ _) _ = _
  rw [b5, Nat.beq_refl, Nat.beq_refl]
  rfl
theorem GR.appN {s bytes lo : Nat} {h : Heap} {v x : AV} {M X : List AV} (hr : GR s lo h v M) (hlo : lo ≤ h.next) (hsrc : srcV s h x = some (X.length, flatCells X)) (hf : flatL (flatCells X) = true) (hs : allSize s M = true) (hl : (M.length + X.length) * bytes ≤ 140737488355328) (hm : M.length + X.length ≤ 140737488355328) :
    ∃ v' g', eV (.append s bytes) [v, x] h = some (v', g') ∧ GR s lo g' v' (M ++ X) ∧ h.next ≤ g'.next ∧ ∀ c, c < lo → g'.get c = h.get c := by
  rcases hr with ⟨rfl, rfl⟩ | ⟨hne0, b, h1, h2, rfl, h4⟩
  · have := app_nilsG (bytes := bytes) hsrc hf (by simpa using hl) (by simpa using hm)
    by_cases hz : X.length = 0
    · rw [if_pos hz] at this
      have hX : X = [] := List.eq_nil_of_length_eq_zero hz
      subst hX
      exact ⟨_, _, this, .inl ⟨rfl, rfl⟩, Nat.le_refl _, fun c _ => rfl⟩
    · rw [if_neg hz] at this
      exact ⟨_, _, this, .inr ⟨fun h => hz (by rw [List.nil_append] at h; rw [h]; rfl), h.next, hlo, Nat.lt_succ_self _, rfl, get_new_same⟩, Nat.le_succ _, fun c hc => get_new_ne (by omega)⟩
  · cases X with
    | nil =>
      refine ⟨.sl b 0 M.length M.length true, h, ?_, .inr ⟨by simpa using hne0, b, h1, h2, by simp, by simpa using h4⟩, Nat.le_refl _, fun c _ => rfl⟩
      have hsrc' : srcV s h x = some (0, flatCells []) := hsrc
      simp only [eV, l2, hsrc']
      show cond (flatL (flatCells [])) (cond (Nat.beq 0 0 && Nat.ble M.length M.length) _ _) _ = _
      rw [hf, Nat.ble_eq_true_of_le (Nat.le_refl _)]
      rfl
    | cons y X =>
      refine ⟨_, _, app_nB (n := X.length) h4 (flat_size hs) hsrc hf hl hm, .inr ⟨by simp, h.next, hlo, Nat.lt_succ_self _, by rw [List.length_append]; rfl, ?_⟩, Nat.le_succ _, fun c hc => ?_⟩
      · have := get_new_same (h := h.del b) (x := .cells (flatCells M ++ flatCells (y :: X)) true s)
        rw [show (h.del b).next = h.next from rfl] at this
        rw [this, flat_app]
      · have hne : c ≠ b := by omega
        exact (get_new_ne (h := h.del b) (show c < h.next by omega)).trans (get_del_ne2 hne)
theorem Frz.mono {P P' : Nat → Prop} (hp : ∀ b, P b → P' b) {g : Heap} {v v' : AV} (h : Frz P g v v') : Frz P' g v v' := by
  induction h with
  | clean h => exact .clean h
  | agg h _ ih => exact .agg h ih
  | tup h _ ih => exact .tup h ih
  | iface _ ih => exact .iface ih
  | nils => exact .nils
  | func h _ h' _ ih ih' => exact .func h ih h' ih'
  | ptr hb hg ho hl _ ih => exact .ptr (hp _ hb) hg ho hl ih
  | sl hb hg hs hn hl hc hk h1 h2 _ ih => exact .sl (hp _ hb) hg hs hn hl hc hk h1 h2 ih
theorem Fr.app {h0 h g : Heap} (fr : Fr h0 h []) (hn : h.next ≤ g.next) (hk : ∀ c, c < h0.next → g.get c = h.get c) : Fr h0 g [] := ⟨Nat.le_trans fr.next hn, fun c hc hb => (hk c hc).trans (fr.keep c hc hb)⟩
theorem shr_val (x : Int) {n : Nat} (h : n ≤ 64) : pV (.bin .shr) [.int .i64 x, .int .i64 (n : Nat)] = some (.int .i64 (x.fdiv (2 ^ n))) := by
  have : ¬ ((n : Int) < 0) := by omega
  simp [pV, pIF, l2, binF, dInt, isShift, binShift, this, Nat.min_eq_left (show n ≤ IntKind.i64.bits from h)]
end Ads
namespace Ir

def bys (l : List Int) : List AV := l.map (AV.int .u8)
theorem len_bys (l : List Int) : (bys l).length = l.length := List.length_map ..
theorem size_bys (l : List Int) : allSize 1 (bys l) = true := allSize_map (enc := AV.int .u8) (fun _ => rfl) l
theorem cl_bys (l : List Int) : clL (bys l) = true := clL_map (enc := AV.int .u8) (fun _ => rfl) l
theorem app_bys (l m : List Int) : bys (l ++ m) = bys l ++ bys m := List.map_append ..
theorem flat_bys (l : List Int) : flatCells (bys l) = bys l := by
  induction l with
  | nil => rfl
  | cons x l ih =>
    show AV.cells (.int .u8 x) ++ flatCells (bys l) = _
    rw [ih]
    rfl
theorem flatL_bys : ∀ l : List Int, flatL (bys l) = true
  | [] => rfl
  | x :: l => by simp only [bys, List.map_cons, flatL, AV.flat, cond_true]; exact flatL_bys l
abbrev w8 (n : Int) : Int := IntKind.u8.wrap n
def hi8 (n : Int) (i : Nat) : List Int := (List.range' i (8 - i)).map fun i => w8 ((n - 254).fdiv (2 ^ (56 - 8 * i)))
def put1 (n : Int) : List Int := if n < 255 then [w8 n] else 255 :: hi8 n 0
def puts (l : List Int) : List Int := l.flatMap put1
theorem hi8_next {n : Int} {i : Nat} (h : i < 8) : hi8 n i = w8 ((n - 254).fdiv (2 ^ (56 - 8 * i))) :: hi8 n (i + 1) := by
  obtain ⟨k, hk⟩ : ∃ k, 8 - i = k + 1 := ⟨7 - i, by omega⟩
  simp only [hi8, hk, List.range'_succ, List.map_cons]
  rw [show 8 - (i + 1) = k by omega]
theorem hi8_len (n : Int) : (hi8 n 0).length = 8 := by simp [hi8]
theorem put1_len (n : Int) : (put1 n).length ≤ 9 := by
  unfold put1
  split
  · simp
  · simp [hi8_len]
theorem puts_len (l : List Int) : (puts l).length ≤ 9 * l.length := by
  induction l with
  | nil => simp [puts]
  | cons n l ih =>
    have := put1_len n
    simp only [puts, List.flatMap_cons, List.length_append, List.length_cons] at ih ⊢
    omega
theorem puts_next {l : List Int} {j : Nat} (hj : j < l.length) : puts (l.take (j + 1)) = puts (l.take j) ++ put1 l[j] := by
  rw [take_next hj, puts, List.flatMap_append]
  simp [puts]
theorem puts_app (l m : List Int) : puts (l ++ m) = puts l ++ puts m := List.flatMap_append ..

/-- A row of bytes, behind the first blocks. -/
abbrev BR (lo : Nat) (h : Heap) (v : AV) (M : List Int) : Prop := GR 1 lo h v (bys M)
theorem BR.put {lo : Nat} {h : Heap} {v : AV} {M : List Int} (hr : BR lo h v M) (hlo : lo ≤ h.next) (hm : M.length ≤ 1000000000) (x : Int) :
    ∃ v' g', eV (.append 1 1) [v, .sl h.next 0 1 1 false] (h.new (.cells [.int .u8 x] true 0)) = some (v', g') ∧ BR lo g' v' (M ++ [x]) ∧ h.next ≤ g'.next ∧ ∀ c, c < lo → g'.get c = h.get c := by
  have := GR.app (bytes := 1) hr hlo (x := .int .u8 x) rfl rfl (size_bys M) (by rw [len_bys]; omega) (by rw [len_bys]; omega)
  rw [show bys M ++ [AV.int .u8 x] = bys (M ++ [x]) from (app_bys M [x]).symm] at this
  exact this

theorem put_in {kx : Nat} {l : List Int} {j : Nat} {n : Int} (hn : 255 ≤ n) (hn2 : n ≤ 9007199254740991) {h0 : Heap} {B : Nat} {Q : AX → Env → Heap → Prop} :
    ∀ (m i : Nat) (h : Heap) (env : Env) (v : AV) (M : List Int), 8 - i = m → i ≤ 8 → BR h0.next h v M → Fr h0 h [] → M.length + m ≤ 1000000000 →
      AllAt env [(6, v), (8, .int .i64 n), (9, .int .i64 (56 - 8 * ((i : Nat) : Int))), (12, .fz kx (ints l)), (13, .int .i64 ((l.length : Nat) : Int)), (14, .int .i64 ((j : Nat) : Int))] →
      (∀ e' h' v', BR h0.next h' v' (M ++ hi8 n i) → Fr h0 h' [] → AllAt e' [(6, v'), (12, .fz kx (ints l)), (13, .int .i64 ((l.length : Nat) : Int)), (14, .int .i64 ((j : Nat) : Int))] → Q (.exit 3) e' h') →
      VC fs ms B false (.loop L_pack_Put_1) env h Q := by
  intro m
  induction m with
  | zero =>
    intro i h env v M hm hi hr fr hM henv hQ
    have h8 : i = 8 := by omega
    refine vc_slots 4 _ henv ?_
    refine vc_loopV (vpC_sound (z := true) ?_)
    set_option smartUnfolding false in conv => whnf
    refine brf (by simp; omega) (fun hc => ?_)
    (try rw [hc])
    set_option smartUnfolding false in conv => whnf
    refine hQ _ _ v (by simpa [hi8, h8] using hr) fr ⟨rfl, rfl, rfl, rfl, trivial⟩
  | succ m ih =>
    intro i h env v M hm hi hr fr hM henv hQ
    refine vc_slots 4 _ henv ?_
    refine vc_loopV (vpC_sound (z := true) ?_)
    set_option smartUnfolding false in conv => whnf
    refine brt (by simp; omega) (fun hc => ?_)
    (try rw [hc])
    set_option smartUnfolding false in conv => whnf
    have hs : (56 : Int) - 8 * ((i : Nat) : Int) = ((56 - 8 * i : Nat) : Int) := by omega
    have hw : IntKind.i64.wrap (IntKind.i64.wrap (n - 255) + 1) = n - 254 := by
      rw [IntWalk.i64_in (n - 255) (by omega), IntWalk.i64_in _ (by omega)]; omega
    rw [hw, hs]
    refine ⟨_, shr_val _ (by omega), ?_⟩
    set_option smartUnfolding false in conv => whnf
    obtain ⟨v', g', ha, hr', hnx, hkp⟩ := hr.put fr.next (by omega) (w8 ((n - 254).fdiv (2 ^ (56 - 8 * i))))
    refine ⟨_, _, ha, ?_⟩
    set_option smartUnfolding false in conv => whnf
    have fr' := fr.app hnx hkp
    refine ih (i + 1) _ _ v' _ (by omega) (by omega) hr' fr' (by rw [List.length_append]; simp; omega) ⟨rfl, rfl, ?_, rfl, rfl, rfl, trivial⟩ ?_
    · show some (AV.int .i64 (IntKind.i64.wrap (((56 - 8 * i : Nat) : Int) - 8))) = _
      rw [IntWalk.i64_in _ (by omega)]
      congr 2
      omega
    · intro e' h' v'' hr2 fr2 ha2
      rw [List.append_assoc, List.singleton_append, ← hi8_next (by omega)] at hr2
      exact hQ e' h' v'' hr2 fr2 ha2

theorem put_l {kx : Nat} {b l : List Int} (hl : ∀ n ∈ l, badN n = false) (hsz : b.length + 9 * l.length ≤ 1000000000) {h0 : Heap} {B : Nat} {Q : AX → Env → Heap → Prop}
    (hQ : ∀ e' h' v', BR h0.next h' v' (b ++ puts l) → Fr h0 h' [] → Tr.get e' 6 = some v' → Q (.exit 0) e' h') :
    ∀ (m j : Nat) (h : Heap) (env : Env) (v : AV), l.length - j = m → j ≤ l.length → BR h0.next h v (b ++ puts (l.take j)) → Fr h0 h [] →
      AllAt env [(6, v), (12, .fz kx (ints l)), (13, .int .i64 ((l.length : Nat) : Int)), (14, .int .i64 ((j : Nat) : Int))] →
      VC fs ms B false (.loop L_pack_Put_0) env h Q := by
  intro m
  induction m with
  | zero =>
    intro j h env v hm hj hr fr henv
    have he : j = l.length := by omega
    subst he
    refine vc_slots 4 _ henv ?_
    refine vc_loopV (vpC_sound (z := true) ?_)
    set_option smartUnfolding false in conv => whnf
    refine brf (by simp) (fun hc => ?_)
    (try rw [hc])
    set_option smartUnfolding false in conv => whnf
    exact hQ _ _ v (by simpa using hr) fr rfl
  | succ m ih =>
    intro j h env v hm hj hr fr henv
    have hlt : j < l.length := by omega
    have hpl := puts_len (l.take j)
    rw [List.length_take, Nat.min_eq_left (by omega)] at hpl
    have hb : (b ++ puts (l.take j)).length + 9 ≤ 1000000000 := by rw [List.length_append]; omega
    have hnx := puts_next hlt
    have hbad := hl _ (List.getElem_mem hlt)
    have hix := idx_int (k := kx) hlt
    generalize hx : l[j] = n at *
    simp only [badN, Bool.or_eq_false_iff, decide_eq_false_iff_not] at hbad
    have hnext : ∀ e' h' v', BR h0.next h' v' (b ++ puts (l.take j) ++ put1 n) → Fr h0 h' [] → AllAt e' [(6, v'), (12, .fz kx (ints l)), (13, .int .i64 ((l.length : Nat) : Int)), (14, .int .i64 ((j : Nat) : Int))] →
        VC fs ms B false (.ops [zP 49 (.bin .add) [.t 14, .c (.int .i64 1)], zM 14 49]) e' h' (fun x e1 h1 => match x with | .normal => VC fs ms B false (.loop L_pack_Put_0) e1 h1 Q | x => Q x e1 h1) := by
      intro e' h' v' hr' fr' ha'
      refine vc_slots 4 _ ha' (vpC_sound (z := true) ?_)
      set_option smartUnfolding false in conv => whnf
      rw [List.append_assoc, ← hnx] at hr'
      exact ih (j + 1) h' _ v' (by omega) (by omega) hr' fr' ⟨rfl, rfl, rfl, inc_slot (by omega), trivial⟩
    refine vc_slots 4 _ henv ?_
    refine vc_loopV (vc_seq true ?_)
    set_option smartUnfolding false in conv => whnf
    refine vc_seq true ?_
    set_option smartUnfolding false in conv => whnf
    refine brt (by simp; omega) (fun hc => ?_)
    (try rw [hc])
    set_option smartUnfolding false in conv => whnf
    refine vc_seqV (vpC_sound (z := true) ?_)
    set_option smartUnfolding false in conv => whnf
    refine ⟨_, hix, ?_⟩
    set_option smartUnfolding false in conv => whnf
    refine ⟨.int .i64 n, rfl, ?_⟩
    set_option smartUnfolding false in conv => whnf
    refine brf (by simp; omega) (fun hc => ?_)
    (try rw [hc])
    set_option smartUnfolding false in conv => whnf
    refine brf (by simp; omega) (fun hc => ?_)
    (try rw [hc])
    set_option smartUnfolding false in conv => whnf
    refine br (fun hc => ?_) (fun hc => ?_) <;> (try rw [hc]) <;> (set_option smartUnfolding false in conv => whnf)
    · have h255 : n < 255 := of_decide_eq_true hc
      obtain ⟨v', g', ha, hr', hnx', hkp⟩ := hr.put fr.next (by omega) (w8 n)
      refine ⟨_, _, ha, ?_⟩
      set_option smartUnfolding false in conv => whnf
      refine hnext _ _ v' (by rw [put1, if_pos h255]; exact hr') (fr.app hnx' hkp) ⟨rfl, rfl, rfl, rfl, trivial⟩
    · have h255 : ¬ n < 255 := of_decide_eq_false hc
      obtain ⟨v', g', ha, hr', hnx', hkp⟩ := hr.put fr.next (by omega) 255
      refine ⟨_, _, ha, ?_⟩
      set_option smartUnfolding false in conv => whnf
      refine put_in (kx := kx) (l := l) (j := j) (n := n) (h0 := h0) (by omega) (by omega) 8 0 _ _ v' _ rfl (by omega) hr' (fr.app hnx' hkp) (by rw [List.length_append]; simp; omega) ⟨rfl, rfl, rfl, rfl, rfl, rfl, trivial⟩ ?_
      intro e' h' v'' hr2 fr2 ha2
      set_option smartUnfolding false in conv => whnf
      refine hnext e' h' v'' ?_ fr2 ha2
      rw [put1, if_neg h255]
      rw [List.append_assoc] at hr2
      exact hr2

/-- A copy of a row of bytes. -/
theorem clone_c (b : List Int) (hsz : b.length ≤ 1000000) {h : Heap} {Q : AV → Heap → Prop} (hQ : ∀ v h', BR h.next h' v b → Fr h h' [] → Q v h') : VD fs ms f_slices_Clone_byte_byte [.fz (growK b.length) (bys b)] h Q := by
  refine vd_start (af := C_slices_Clone_byte_byte) true rfl (Nat.le_of_ble_eq_true rfl) ?_
  cases hb : b with
  | nil =>
    set_option smartUnfolding false in conv => whnf
    exact hQ _ _ (by rw [hb]; exact GR.nil) (Fr.refl _ _)
  | cons x r =>
    set_option smartUnfolding false in conv => whnf
    have ha : eV (.append 1 1) [.sl h.next 0 0 0 false, .fz 0 (bys (x :: r))] (h.new (.cells [] true 0)) = some (.sl (h.next + 1) 0 (r.length + 1) (r.length + 1) true, (h.new (.cells [] true 0)).new (.cells (bys (x :: r)) true 1)) := by
      have := app_lit (s := 1) (bytes := 1) (n := r.length) (b := h.next) (nx := (h.new (.cells [] true 0)).next) (tr := (h.new (.cells [] true 0)).m) (x := .fz 0 (bys (x :: r))) (cs := bys (x :: r)) (wr := true) (es := 0) get_new_same (by omega) (by rw [hb] at hsz; simp at hsz; omega) (by
        have := src_fz (k := 0) (h := (h.new (.cells [] true 0))) (size_bys (x :: r))
        rw [flat_bys, len_bys] at this
        exact this) (flatL_bys _)
      exact this
    refine ⟨_, _, ha, ?_⟩
    set_option smartUnfolding false in conv => whnf
    refine hQ _ _ ?_ ((Fr.refl _ _).new.new)
    rw [hb]
    refine .inr ⟨by simp [bys], h.next + 1, by omega, Nat.lt_succ_self _, by rw [len_bys]; rfl, ?_⟩
    rw [flat_bys]
    exact get_new_same (h := h.new (.cells [] true 0))
theorem put_c {kx : Nat} (b l : List Int) (hl : ∀ n ∈ l, badN n = false) (hsz : b.length + 9 * l.length ≤ 1000000) {h : Heap} {Q : AV → Heap → Prop} (hQ : ∀ v h', BR h.next h' v (b ++ puts l) → Fr h h' [] → Q (.tup [v, .int .i64 0]) h') :
    VD fs ms f_pack_Put [.fz (growK b.length) (bys b), .fz kx (ints l)] h Q := by
  refine vd_begin (af := C_pack_Put) rfl (Nat.le_of_ble_eq_true rfl) ?_
  set_option smartUnfolding false in conv => whnf
  refine vc_seq true ?_
  set_option smartUnfolding false in conv => whnf
  refine vc_seq true ?_
  set_option smartUnfolding false in conv => whnf
  refine clone_c b (by omega) fun v h1 hr fr => ?_
  set_option smartUnfolding false in conv => whnf
  refine vc_seqV (vc_seq true ?_)
  set_option smartUnfolding false in conv => whnf
  rw [len_ints]
  refine vc_block ?_
  refine put_l (kx := kx) (b := b) (l := l) (h0 := h) hl (by omega) ?_ l.length 0 _ _ v rfl (Nat.zero_le _) (by simpa [puts] using hr) fr ⟨rfl, rfl, rfl, rfl, trivial⟩
  intro e' h' v' hr' fr' h6
  set_option smartUnfolding false in conv => whnf
  refine vc_slots 3 [(6, v')] ⟨h6, trivial⟩ (vpC_sound (z := true) ?_)
  set_option smartUnfolding false in conv => whnf
  exact hQ v' h' hr' fr'
/-- The block of a row. -/
def OwnB (v : AV) (d : Nat) : Prop := ∃ o n c p, v = .sl d o n c p
theorem BR.own {lo : Nat} {h : Heap} {v : AV} {M : List Int} (hr : BR lo h v M) {d : Nat} (ho : OwnB v d) : lo ≤ d ∧ d < h.next := by
  obtain ⟨o, n, c, p, rfl⟩ := ho
  rcases hr with ⟨_, h⟩ | ⟨_, b, h1, h2, h3, _⟩
  · simp at h
  · simp only [AV.sl.injEq] at h3
    obtain ⟨rfl, _⟩ := h3
    exact ⟨h1, h2⟩
theorem BR.frzO {lo : Nat} {h : Heap} {v : AV} {M : List Int} (hr : BR lo h v M) : ∃ bs : List Nat, Frz (· ∈ bs) h v (.fz (growK M.length) (bys M)) ∧ ∀ b ∈ bs, OwnB v b := by
  rcases hr with ⟨hM, rfl⟩ | ⟨hne0, b, h1, h2, rfl, h4⟩
  · have : M = [] := by cases M with | nil => rfl | cons x r => simp [bys] at hM
    subst this
    exact ⟨[], .nils, by simp⟩
  · cases M with
    | nil => exact absurd rfl hne0
    | cons m M => exact ⟨[b], frz_open (by simp) h4 rfl (size_bys _) rfl (cl_bys _), by simp [OwnB]⟩
/-- The same, of rows that lie in blocks. -/
theorem put_g {b l : List Int} (hl : ∀ n ∈ l, badN n = false) (hsz : b.length + 9 * l.length ≤ 1000000) {lo c : Nat} {h : Heap} {v : AV} (hr : BR lo h v b) (hg : h.get c = some (.cells (ints l) true 0)) {Q : AV → Heap → Prop}
    (hQ : ∀ v' h', BR h.next h' v' (b ++ puts l) → h.next ≤ h'.next → (∀ d, d < h.next → d ≠ c → ¬ OwnB v d → h'.get d = h.get d) → Q (.tup [v', .int .i64 0]) h') :
    VD fs ms f_pack_Put [v, .sl c 0 l.length l.length false] h Q := by
  obtain ⟨bs, hf, hbs⟩ := hr.frzO
  refine vd_frz (args' := [.fz (growK b.length) (bys b), .fz 2 (ints l)]) (c :: bs) (.cons (Frz.mono (fun i hi => List.mem_cons_of_mem _ hi) hf) (.cons (.row (s := 1) (wr := true) (es := 0) (by simp) hg (flat_ints l).symm (size_ints l) (len_ints l).symm (Nat.le_refl _) (by omega) (fun _ => rfl) (fun _ => rfl) (cl_ints l)) .nil)) ?_
  refine put_c b l hl hsz fun v' h' hr' fr' => hQ v' h' ?_ ?_ ?_
  · rw [delAll_next] at hr'
    exact hr'
  · have := fr'.next
    rw [delAll_next] at this
    exact this
  · intro d hdl hdc hdo
    rw [fr'.keep d (by rw [delAll_next]; exact hdl) (by simp), delAll_get, if_neg (fun hm => (List.mem_cons.1 hm).elim hdc (fun h => hdo (hbs d h)))]
end Ir
end Go.Proofs.YtmnolnoeibhjgaaGreat
