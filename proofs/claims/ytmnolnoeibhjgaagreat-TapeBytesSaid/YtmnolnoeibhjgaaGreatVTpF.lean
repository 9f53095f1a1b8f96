/-
  Tape: a command's bytes, as the document makes them; tapes of commands.
-/
import Derived.Test.YtmnolnoeibhjgaaGreatVTpE
set_option maxRecDepth 100000
set_option linter.unusedSimpArgs false
set_option linter.unusedVariables false
namespace Go.Proofs.YtmnolnoeibhjgaaGreat
open Go Ads
namespace Ir
structure EntR (h0 : Heap) (x : TCmd) (L : List Int) (h : Heap) (v : AV) : Prop where
  fr : Fr h0 h []
  hA : h.get h0.next = some (.cells (tcm x).cells true 0)
  hr : BR (h0.next + 1) h v L
  nx : h0.next + 1 ≤ h.next
theorem rento_l {h0 : Heap} {x : TCmd} (hg : Good x) {P : List Int} (hP : P.length ≤ 100) {B : Nat} {Q : AX → Env → Heap → Prop} (hQ : ∀ e' h' v, EntR h0 x (P ++ opsB x.ops) h' v → Tr.get e' 3 = some v → Q (.exit 0) e' h') :
    ∀ (m j : Nat) (h : Heap) (env : Env) (v : AV), x.ops.length - j = m → j ≤ x.ops.length → EntR h0 x (P ++ opsB (x.ops.take j)) h v → AllAt env [(1, .ptr h0.next 0), (3, v), (5, .int .i64 ((j : Nat) : Int))] →
      VC fs ms B false (.loop L_escapementref28_entry_0) env h Q := by
  intro m
  induction m with
  | zero =>
    intro j h env v hm hj hs henv
    have he : j = x.ops.length := by omega
    refine vc_slots 5 _ henv ?_
    refine vc_loopV (vpC_sound (z := true) ?_)
    set_option smartUnfolding false in conv => whnf
    refine ⟨.fz x.kk (tops x.ops), ld1 hs.hA rfl, ?_⟩
    set_option smartUnfolding false in conv => whnf
    refine brf (by simp [len_tops]; omega) (fun hc => ?_)
    (try rw [hc])
    set_option smartUnfolding false in conv => whnf
    subst he
    exact hQ _ _ v (by simpa using hs) rfl
  | succ m ih =>
    intro j h env v hm hj hs henv
    have hlt : j < x.ops.length := by omega
    have hix := idx_top (k := x.kk) hlt
    have ho := hg.ho _ (List.getElem_mem hlt)
    have hnx := opsB_next hlt
    have hpl : (opsB (x.ops.take j)).length ≤ 43 * 32 := by
      have := opsB_len (l := x.ops.take j) (fun o ho => (hg.ho o (List.mem_of_mem_take ho)).2.2)
      have h2 := hg.hl
      rw [List.length_take] at this
      omega
    generalize hO : x.ops[j] = o at *
    have h62 := hg.hl
    obtain ⟨fr, hA, hr, nx⟩ := hs
    have hld : rV .load1 [.ptr h0.next 5] h = some (.fz x.kk (tops x.ops)) := ld1 hA rfl
    refine vc_slots 5 _ henv ?_
    refine vc_loopV (vpC_sound (z := true) ?_)
    set_option smartUnfolding false in conv => whnf
    refine ⟨.fz x.kk (tops x.ops), hld, ?_⟩
    set_option smartUnfolding false in conv => whnf
    refine brt (by simp [len_tops]; omega) (fun hc => ?_)
    (try rw [hc])
    set_option smartUnfolding false in conv => whnf
    refine ⟨.fz x.kk (tops x.ops), hld, ?_⟩
    set_option smartUnfolding false in conv => whnf
    refine ⟨_, hix, ?_⟩
    set_option smartUnfolding false in conv => whnf
    refine ⟨.int .i64 o.k, rfl, ?_⟩
    set_option smartUnfolding false in conv => whnf
    refine ⟨.fz x.kk (tops x.ops), hld, ?_⟩
    set_option smartUnfolding false in conv => whnf
    refine ⟨_, hix, ?_⟩
    set_option smartUnfolding false in conv => whnf
    refine ⟨.int .i64 o.n, rfl, ?_⟩
    set_option smartUnfolding false in conv => whnf
    refine rput_g (l := [o.k, o.n]) (c := h.next) (by intro n hn; simp at hn; rcases hn with rfl | rfl <;> simp [ho]) (by rw [List.length_append]; simp; omega) hr.new get_new_same fun v' h2 hr' hn' hk' => ?_
    have hn2 : h.next + 1 ≤ h2.next := hn'
    replace hr' : BR (h.next + 1) h2 v' _ := hr'
    have hk2 : ∀ d, d < h.next → ¬ OwnB v d → h2.get d = h.get d := fun d hd hw => (hk' d (by show d < h.next + 1; omega) (by omega) hw).trans (get_new_ne hd)
    have hvl : ∀ d, d < h0.next + 1 → ¬ OwnB v d := fun d hd hw => by have := (hr.own hw).1; omega
    have h2A : h2.get h0.next = some (.cells (tcm x).cells true 0) := (hk2 _ (by omega) (hvl _ (by omega))).trans hA
    have hld2 : rV .load1 [.ptr h0.next 5] h2 = some (.fz x.kk (tops x.ops)) := ld1 h2A rfl
    have h2f : Fr h0 h2 [] := fr.app (by omega) (fun c hc => hk2 c (by omega) (hvl _ (by omega)))
    set_option smartUnfolding false in conv => whnf
    refine ⟨.fz x.kk (tops x.ops), hld2, ?_⟩
    set_option smartUnfolding false in conv => whnf
    refine ⟨_, hix, ?_⟩
    set_option smartUnfolding false in conv => whnf
    refine ⟨.str o.s, rfl, ?_⟩
    set_option smartUnfolding false in conv => whnf
    have hp2 := puts_len [o.k, o.n]
    simp only [List.length_cons, List.length_nil] at hp2
    refine rtext_g ho.2.2 (by rw [List.length_append, List.length_append]; omega) hr' fun v'' h4 hr4 hn4' hk4 => ?_
    have hvl2 : ∀ d, d < h0.next + 1 → ¬ OwnB v' d := fun d hd hw => by have := (hr'.own hw).1; omega
    set_option smartUnfolding false in conv => whnf
    refine ih (j + 1) h4 _ v'' (by omega) (by omega) ⟨h2f.app (by omega) (fun c hc => hk4 c (by omega) (hvl2 _ (by omega))), (hk4 _ (by omega) (hvl2 _ (by omega))).trans h2A, ?_, by omega⟩ ⟨rfl, rfl, inc_slot (by omega), trivial⟩
    rw [hnx, opB, ← List.append_assoc, ← List.append_assoc]
    exact hr4.low (by omega)
theorem rent_c {x : TCmd} (hg : Good x) {h : Heap} {Q : AV → Heap → Prop} (hQ : ∀ v h', BR h.next h' v (entB x) → Fr h h' [] → Q v h') : VD fs ms f_escapementref28_entry [tcm x] h Q := by
  refine vd_begin (af := C_escapementref28_entry) rfl (Nat.le_of_ble_eq_true rfl) ?_
  set_option smartUnfolding false in conv => whnf
  refine vc_seq true ?_
  set_option smartUnfolding false in conv => whnf
  have hA : (h.new (.cells (tcm x).cells true 0)).get h.next = some (.cells (tcm x).cells true 0) := get_new_same
  have hol := hg.hl
  refine vc_seq true ?_
  set_option smartUnfolding false in conv => whnf
  repeat (first | (refine ⟨_, ld1 hA rfl, ?_⟩; set_option smartUnfolding false in conv => whnf))
  have hbad : ∀ n ∈ [x.k, x.p, x.t, x.n, x.m, (x.ops.length : Int)], badN n = false := by
    intro n hn
    simp only [List.mem_cons, List.not_mem_nil, or_false] at hn
    rcases hn with rfl | rfl | rfl | rfl | rfl | rfl
    · exact hg.hn _ (by simp [nums])
    · exact hg.hn _ (by simp [nums])
    · exact hg.hn _ (by simp [nums])
    · exact hg.hn _ (by simp [nums])
    · exact hg.hn _ (by simp [nums])
    · exact badN_len (by omega)
  rw [len_tops]
  refine rput_g (lo := h.next + 1) (l := [x.k, x.p, x.t, x.n, x.m, (x.ops.length : Int)]) (b := []) (c := h.next + 1) hbad (by simp) (.inl ⟨rfl, rfl⟩) (get_new_same (h := h.new (.cells (tcm x).cells true 0))) fun v h2 hr hn hk => ?_
  have hn2 : h.next + 2 ≤ h2.next := hn
  have h2A : h2.get h.next = some (.cells (tcm x).cells true 0) := (hk _ (show h.next < h.next + 2 by omega) (by omega) (by rintro ⟨o, n, c, p, hw⟩; cases hw)).trans ((get_new_ne (show h.next < h.next + 1 by omega)).trans hA)
  have h2f : Fr h h2 [] := ⟨by omega, fun c hc hb => (hk c (show c < h.next + 2 by omega) (by omega) (by rintro ⟨o, n, c, p, hw⟩; cases hw)).trans ((get_new_ne (show c < h.next + 1 by omega)).trans (get_new_ne hc))⟩
  set_option smartUnfolding false in conv => whnf
  refine vc_seqV (vc_seq true ?_)
  set_option smartUnfolding false in conv => whnf
  refine vc_block ?_
  have hsum : [] ++ puts [x.k, x.p, x.t, x.n, x.m, (x.ops.length : Int)] = puts (nums x) ++ puts [(x.ops.length : Int)] := by
    rw [List.nil_append, ← puts_app]
    rfl
  rw [hsum] at hr
  refine rento_l hg (h0 := h) (P := puts (nums x) ++ puts [(x.ops.length : Int)]) (by rw [List.length_append]; have h1 := puts_len [(x.ops.length : Int)]; have h2 : (puts (nums x)).length ≤ 9 * 5 := puts_len (nums x); simp only [List.length_cons, List.length_nil] at h1; omega) ?_ x.ops.length 0 _ _ v rfl (Nat.zero_le _) ⟨h2f, h2A, ?_, by omega⟩ ⟨rfl, rfl, rfl, trivial⟩
  · intro e' h' w hs h3
    show VC fs ms h.next false _ _ _ _
    refine vc_slots 3 [(3, w)] ⟨h3, trivial⟩ (vpC_sound (z := true) ?_)
    set_option smartUnfolding false in conv => whnf
    exact hQ w h' (hs.hr.low (Nat.le_succ _)) hs.fr
  · rw [List.take_zero]
    simp only [opsB, List.flatMap_nil, List.append_nil]
    exact hr.low (show h.next + 1 ≤ h.next + 2 by omega)

theorem res_two {e : Env} {h : Heap} {a b : Nat} {v w : AV} (ha : Tr.get e a = some v) (hb : Tr.get e b = some w) : resAllV e h [.tmp a, .tmp b] = some [v, w] := by
  simp only [resAllV, resOfV, ha, hb]
/- Tapes. -/
def errL : List TCmd → Int
  | [] => 0
  | x :: l => if chk x = 0 then errL l else chk x
def bytB (l : List TCmd) : List Int := l.flatMap fun x => puts [((entB x).length : Int)] ++ entB x
def bytR (l : List TCmd) : List Int := if errL l = 0 then bytB l else []
theorem errL_at {l : List TCmd} {j : Nat} (hj : j < l.length) : errL (l.drop j) = if chk l[j] = 0 then errL (l.drop (j + 1)) else chk l[j] := by
  rw [List.drop_eq_getElem_cons hj]
  rfl
theorem bytB_next {l : List TCmd} {j : Nat} (hj : j < l.length) : bytB (l.take (j + 1)) = bytB (l.take j) ++ (puts [((entB l[j]).length : Int)] ++ entB l[j]) := by
  rw [take_next hj, bytB, List.flatMap_append]
  simp [bytB]
theorem bytB_len : ∀ {l : List TCmd}, (∀ x ∈ l, chk x = 0) → (bytB l).length ≤ 1600 * l.length
  | [], _ => by simp [bytB]
  | x :: l, h => by
    have h1 := entB_len (good_of (h x (by simp)))
    have h2 := bytB_len (l := l) (fun o ho => h o (by simp [ho]))
    have h3 := puts_len [((entB x).length : Int)]
    simp only [List.length_cons, List.length_nil] at h3
    simp only [bytB, List.flatMap_cons, List.length_append, List.length_cons] at h2 ⊢
    omega
theorem mem_take_next {α : Type} {l : List α} {j : Nat} (hj : j < l.length) {P : α → Prop} (h : ∀ x ∈ l.take j, P x) (hx : P l[j]) : ∀ x ∈ l.take (j + 1), P x := by
  rw [take_next hj]
  intro x hm
  rcases List.mem_append.1 hm with hm | hm
  · exact h x hm
  · simp only [List.mem_singleton] at hm
    subst hm
    exact hx
theorem bytes_l {h0 : Heap} {k : Nat} {l : List TCmd} (hl : l.length ≤ 40) (hops : ∀ x ∈ l, x.ops.length < 2 ^ 62) {B : Nat} {Q : AX → Env → Heap → Prop} (hQ : ∀ e' h' v, errL l = 0 → BR h0.next h' v (bytB l) → Fr h0 h' [] → Tr.get e' 2 = some v → Q (.exit 0) e' h')
    (hE : ∀ e' h', errL l ≠ 0 → Fr h0 h' [] → Tr.get e' 2 = some .nils → Tr.get e' 3 = some (.int .i64 (errL l)) → Q .ret e' h') :
    ∀ (m j : Nat) (h : Heap) (env : Env) (v : AV), l.length - j = m → j ≤ l.length → errL l = errL (l.drop j) → (∀ x ∈ l.take j, chk x = 0) → BR h0.next h v (bytB (l.take j)) → Fr h0 h [] →
      AllAt env [(2, v), (8, .fz k (tcms l)), (9, .int .i64 ((l.length : Nat) : Int)), (10, .int .i64 ((j : Nat) : Int))] →
      VC fs ms B false (.loop L_tape_Bytes_0) env h Q := by
  intro m
  induction m with
  | zero =>
    intro j h env v hm hj he hc hr fr henv
    have hjl : j = l.length := by omega
    refine vc_slots 5 _ henv ?_
    refine vc_loopV (vpC_sound (z := true) ?_)
    set_option smartUnfolding false in conv => whnf
    refine brf (by simp; omega) (fun hc => ?_)
    (try rw [hc])
    set_option smartUnfolding false in conv => whnf
    subst hjl
    rw [List.drop_length] at he
    exact hQ _ _ v he (by simpa using hr) fr rfl
  | succ m ih =>
    intro j h env v hm hj he hcs hr fr henv
    have hlt : j < l.length := by omega
    have hix := idx_tcm (k := k) hlt
    have hox := hops _ (List.getElem_mem hlt)
    have hnx := bytB_next hlt
    have hbl := bytB_len hcs
    rw [List.length_take] at hbl
    have hmt := mem_take_next (P := fun x => chk x = 0) hlt hcs
    rw [errL_at hlt] at he
    generalize hX : l[j] = x at *
    refine vc_slots 5 _ henv ?_
    refine vc_loopV (vpC_sound (z := true) ?_)
    set_option smartUnfolding false in conv => whnf
    refine brt (by simp; omega) (fun hc => ?_)
    (try rw [hc])
    set_option smartUnfolding false in conv => whnf
    refine ⟨_, hix, ?_⟩
    set_option smartUnfolding false in conv => whnf
    refine ⟨tcm x, rfl, ?_⟩
    set_option smartUnfolding false in conv => whnf
    refine eff_o (sto_o get_new_same rfl (Nat.le_refl _) rfl) fun h1 e1 => ?_
    have h1c : h1.get h.next = some (.cells (tcm x).cells true 0) := by rw [e1, get_set_same]; rfl
    have h1r : BR h0.next h1 v (bytB (l.take j)) := by
      rw [e1]
      exact hr.keep (T := []) (((Fr.refl h []).new).setn (Nat.le_refl _)) (by simp)
    have h1f : Fr h0 h1 [] := by rw [e1]; exact fr.new.setn fr.next
    have h1n : h1.next = h.next + 1 := by rw [e1]; rfl
    have hvo : ∀ d, OwnB v d → d < h.next := fun d hw => (hr.own hw).2
    clear e1
    set_option smartUnfolding false in conv => whnf
    have hldx : rV (.loadN 6) [.ptr h.next 0] h1 = some (tcm x) := ldN h1c (Nat.le_refl _)
    refine ⟨tcm x, hldx, ?_⟩
    set_option smartUnfolding false in conv => whnf
    refine vd_pure (chk_c x hox) ?_
    set_option smartUnfolding false in conv => whnf
    refine br (fun hc => ?_) (fun hc => ?_) <;> (try rw [hc]) <;> (set_option smartUnfolding false in conv => whnf)
    · have hne : chk x ≠ 0 := by simpa using hc
      rw [if_neg hne] at he
      exact hE _ _ (by rw [he]; exact hne) h1f rfl (by rw [he]; rfl)
    · have heq : chk x = 0 := by simpa using hc
      have hg := good_of heq
      rw [if_pos heq] at he
      refine ⟨tcm x, hldx, ?_⟩
      set_option smartUnfolding false in conv => whnf
      refine ent_c hg fun w h2 hr2 fr2 => ?_
      have hrl := hr2.len
      rw [len_bys] at hrl
      set_option smartUnfolding false in conv => whnf
      rw [hrl]
      set_option smartUnfolding false in conv => whnf
      have hel := entB_len hg
      have h2r : BR h0.next h2 v (bytB (l.take j)) := h1r.keep fr2 (by simp)
      refine put_g (l := [((entB x).length : Int)]) (c := h2.next) (by intro n hn; simp at hn; subst hn; exact badN_len (by omega)) (by simp; omega) h2r.new get_new_same fun v' h3 hr3 hn3 hk3 => ?_
      have hn3' : h2.next + 1 ≤ h3.next := hn3
      have hn2' := fr2.next
      replace hr3 : BR (h2.next + 1) h3 v' _ := hr3
      have hwk : BR h1.next h3 w (entB x) := by
        rcases hr2 with hw | ⟨hne0, b, g1, g2, g3, g4⟩
        · exact .inl hw
        · exact .inr ⟨hne0, b, g1, by omega, g3, by rw [hk3 b (by show b < h2.next + 1; omega) (by omega) (fun hw => by have := hvo b hw; omega), get_new_ne g2]; exact g4⟩
      have hk4 : ∀ d, d < h0.next → h3.get d = h2.get d := fun d hd => by
        have := h1f.next
        rw [hk3 d (by show d < h2.next + 1; omega) (by omega) (fun hw => by have := (h2r.own hw).1; omega), get_new_ne (by omega)]
      have h3f : Fr h0 h3 [] := (h1f.trans ⟨fr2.next, fun c hc hn => fr2.keep c hc hn⟩).app (by omega) hk4
      set_option smartUnfolding false in conv => whnf
      have hpp := puts_len [((entB x).length : Int)]
      simp only [List.length_cons, List.length_nil] at hpp
      obtain ⟨v2, g2, ha, hr5, hn5, hk5⟩ := BR.row hr3 hn3' hwk.src (by rw [List.length_append]; omega)
      refine ⟨_, _, ha, ?_⟩
      set_option smartUnfolding false in conv => whnf
      have h1f' := h1f.next
      refine ih (j + 1) g2 _ v2 (by omega) (by omega) he (hmt heq) ?_ (h3f.app (by omega) (fun c hc => hk5 c (by omega))) ⟨rfl, rfl, rfl, inc_slot (by omega), trivial⟩
      rw [hnx, ← List.append_assoc]
      exact hr5.low (by omega)
theorem bytes_c (k : Nat) (l : List TCmd) (hl : l.length ≤ 40) (hops : ∀ x ∈ l, x.ops.length < 2 ^ 62) {h : Heap} {Q : AV → Heap → Prop} (hQ : ∀ v h', BR h.next h' v (bytR l) → Fr h h' [] → Q (.tup [v, .int .i64 (errL l)]) h') :
    VD fs ms f_tape_Bytes [.fz k (tcms l)] h Q := by
  refine vd_begin (af := C_tape_Bytes) rfl (Nat.le_of_ble_eq_true rfl) ?_
  set_option smartUnfolding false in conv => whnf
  refine vc_seq true ?_
  set_option smartUnfolding false in conv => whnf
  refine vc_seqV (vc_seq true ?_)
  set_option smartUnfolding false in conv => whnf
  rw [len_tcms]
  refine vc_block ?_
  refine bytes_l (h0 := h) (k := k) hl hops ?_ ?_ l.length 0 h _ .nils rfl (Nat.zero_le _) rfl (by simp) (.inl ⟨rfl, rfl⟩) (Fr.refl _ _) ⟨rfl, rfl, rfl, rfl, trivial⟩
  · intro e' h' v he hr fr h2
    show VC fs ms h.next false _ _ _ _
    refine vc_slots 3 [(2, v)] ⟨h2, trivial⟩ (vpC_sound (z := true) ?_)
    set_option smartUnfolding false in conv => whnf
    have := hQ v h' (by rw [bytR, if_pos he]; exact hr) fr
    rw [he] at this
    exact this
  · intro e' h' he fr h2 h3
    set_option smartUnfolding false in conv => whnf
    refine opt_go (v := [.nils, .int .i64 (errL l)]) (res_two h2 h3) ?_
    exact hQ .nils h' (by rw [bytR, if_neg he]; exact .inl ⟨rfl, rfl⟩) fr
theorem rbytes_l {h0 : Heap} {k : Nat} {l : List TCmd} (hl : l.length ≤ 40) (hops : ∀ x ∈ l, x.ops.length < 2 ^ 62) {B : Nat} {Q : AX → Env → Heap → Prop} (hQ : ∀ e' h' v, errL l = 0 → BR h0.next h' v (bytB l) → Fr h0 h' [] → Tr.get e' 4 = some v → Q (.exit 0) e' h')
    (hE : ∀ e' h', errL l ≠ 0 → Fr h0 h' [] → Tr.get e' 2 = some .nils → Tr.get e' 3 = some (.int .i64 (errL l)) → Q .ret e' h') :
    ∀ (m j : Nat) (h : Heap) (env : Env) (v : AV), l.length - j = m → j ≤ l.length → errL l = errL (l.drop j) → (∀ x ∈ l.take j, chk x = 0) → BR h0.next h v (bytB (l.take j)) → Fr h0 h [] →
      AllAt env [(4, v), (0, .fz k (tcms l)), (5, .int .i64 ((j : Nat) : Int))] →
      VC fs ms B false (.loop L_escapementref28_Bytes_0) env h Q := by
  intro m
  induction m with
  | zero =>
    intro j h env v hm hj he hc hr fr henv
    have hjl : j = l.length := by omega
    refine vc_slots 5 _ henv ?_
    refine vc_loopV (vpC_sound (z := true) ?_)
    set_option smartUnfolding false in conv => whnf
    refine brf (by simp [len_tcms]; omega) (fun hc => ?_)
    (try rw [hc])
    set_option smartUnfolding false in conv => whnf
    subst hjl
    rw [List.drop_length] at he
    exact hQ _ _ v he (by simpa using hr) fr rfl
  | succ m ih =>
    intro j h env v hm hj he hcs hr fr henv
    have hlt : j < l.length := by omega
    have hix := idx_tcm (k := k) hlt
    have hox := hops _ (List.getElem_mem hlt)
    have hnx := bytB_next hlt
    have hbl := bytB_len hcs
    rw [List.length_take] at hbl
    have hmt := mem_take_next (P := fun x => chk x = 0) hlt hcs
    rw [errL_at hlt] at he
    generalize hX : l[j] = x at *
    have hvo : ∀ d, OwnB v d → d < h.next := fun d hw => (hr.own hw).2
    refine vc_slots 5 _ henv ?_
    refine vc_loopV (vpC_sound (z := true) ?_)
    set_option smartUnfolding false in conv => whnf
    refine brt (by simp [len_tcms]; omega) (fun hc => ?_)
    (try rw [hc])
    set_option smartUnfolding false in conv => whnf
    refine ⟨_, hix, ?_⟩
    set_option smartUnfolding false in conv => whnf
    refine ⟨tcm x, rfl, ?_⟩
    set_option smartUnfolding false in conv => whnf
    refine vd_pure (refchk_c x hox) ?_
    set_option smartUnfolding false in conv => whnf
    refine br (fun hc => ?_) (fun hc => ?_) <;> (try rw [hc]) <;> (set_option smartUnfolding false in conv => whnf)
    · have hne : chk x ≠ 0 := by simpa using hc
      rw [if_neg hne] at he
      exact hE _ _ (by rw [he]; exact hne) fr rfl (by rw [he]; rfl)
    · have heq : chk x = 0 := by simpa using hc
      have hg := good_of heq
      rw [if_pos heq] at he
      refine ⟨_, hix, ?_⟩
      set_option smartUnfolding false in conv => whnf
      refine ⟨tcm x, rfl, ?_⟩
      set_option smartUnfolding false in conv => whnf
      refine rent_c hg fun w h2 hr2 fr2 => ?_
      have hrl := hr2.len
      rw [len_bys] at hrl
      set_option smartUnfolding false in conv => whnf
      rw [hrl]
      set_option smartUnfolding false in conv => whnf
      have hel := entB_len hg
      have h2r : BR h0.next h2 v (bytB (l.take j)) := hr.keep fr2 (by simp)
      refine rput_g (l := [((entB x).length : Int)]) (c := h2.next) (by intro n hn; simp at hn; subst hn; exact badN_len (by omega)) (by simp; omega) h2r.new get_new_same fun v' h3 hr3 hn3 hk3 => ?_
      have hn3' : h2.next + 1 ≤ h3.next := hn3
      have hn2' := fr2.next
      replace hr3 : BR (h2.next + 1) h3 v' _ := hr3
      have hwk : BR h.next h3 w (entB x) := by
        rcases hr2 with hw | ⟨hne0, b, g1, g2, g3, g4⟩
        · exact .inl hw
        · exact .inr ⟨hne0, b, g1, by omega, g3, by rw [hk3 b (by show b < h2.next + 1; omega) (by omega) (fun hw => by have := hvo b hw; omega), get_new_ne g2]; exact g4⟩
      have hk4 : ∀ d, d < h0.next → h3.get d = h2.get d := fun d hd => by
        have := fr.next
        rw [hk3 d (by show d < h2.next + 1; omega) (by omega) (fun hw => by have := (h2r.own hw).1; omega), get_new_ne (by omega)]
      have h3f : Fr h0 h3 [] := (fr.trans ⟨fr2.next, fun c hc hn => fr2.keep c hc hn⟩).app (by omega) hk4
      set_option smartUnfolding false in conv => whnf
      have hpp := puts_len [((entB x).length : Int)]
      simp only [List.length_cons, List.length_nil] at hpp
      obtain ⟨v2, g2, ha, hr5, hn5, hk5⟩ := BR.row hr3 hn3' hwk.src (by rw [List.length_append]; omega)
      refine ⟨_, _, ha, ?_⟩
      set_option smartUnfolding false in conv => whnf
      have h1f' := fr.next
      refine ih (j + 1) g2 _ v2 (by omega) (by omega) he (hmt heq) ?_ (h3f.app (by omega) (fun c hc => hk5 c (by omega))) ⟨rfl, rfl, inc_slot (by omega), trivial⟩
      rw [hnx, ← List.append_assoc]
      exact hr5.low (by omega)
theorem rbytes_c (k : Nat) (l : List TCmd) (hl : l.length ≤ 40) (hops : ∀ x ∈ l, x.ops.length < 2 ^ 62) {h : Heap} {Q : AV → Heap → Prop} (hQ : ∀ v h', BR h.next h' v (bytR l) → Fr h h' [] → Q (.tup [v, .int .i64 (errL l)]) h') :
    VD fs ms f_escapementref28_Bytes [.fz k (tcms l)] h Q := by
  refine vd_begin (af := C_escapementref28_Bytes) rfl (Nat.le_of_ble_eq_true rfl) ?_
  set_option smartUnfolding false in conv => whnf
  refine vc_seq true ?_
  set_option smartUnfolding false in conv => whnf
  refine vc_seq true ?_
  set_option smartUnfolding false in conv => whnf
  refine vc_seqV (vc_seq true ?_)
  set_option smartUnfolding false in conv => whnf
  refine vc_block ?_
  refine rbytes_l (h0 := h) (k := k) hl hops ?_ ?_ l.length 0 h _ .nils rfl (Nat.zero_le _) rfl (by simp) (.inl ⟨rfl, rfl⟩) (Fr.refl _ _) ⟨rfl, rfl, rfl, trivial⟩
  · intro e' h' v he hr fr h2
    show VC fs ms h.next false _ _ _ _
    refine vc_slots 3 [(4, v)] ⟨h2, trivial⟩ (vpC_sound (z := true) ?_)
    set_option smartUnfolding false in conv => whnf
    have := hQ v h' (by rw [bytR, if_pos he]; exact hr) fr
    rw [he] at this
    exact this
  · intro e' h' he fr h2 h3
    set_option smartUnfolding false in conv => whnf
    refine opt_go (v := [.nils, .int .i64 (errL l)]) (res_two h2 h3) ?_
    exact hQ .nils h' (by rw [bytR, if_neg he]; exact .inl ⟨rfl, rfl⟩) fr

/- Two rows of bytes, compared. -/
def bytS (L : List Int) : List UInt8 := L.map fun n => UInt8.ofNat n.toNat
theorem strBytes_bys : ∀ L : List Int, strBytes (bys L) = some (bytS L)
  | [] => rfl
  | n :: L => by
    have := strBytes_bys L
    simp only [bys, List.map_cons, strBytes, bytS] at this ⊢
    rw [this]
    rfl
theorem BR.str {lo : Nat} {h : Heap} {v : AV} {M : List Int} (hr : BR lo h v M) : rV .toStr [v] h = some (.str (bytS M)) := by
  rcases hr with ⟨h1, rfl⟩ | ⟨hne, b, h1, h2, rfl, h4⟩
  · have : M = [] := by cases M with | nil => rfl | cons x r => simp [bys] at h1
    subst this
    rfl
  · rw [flat_bys] at h4
    have hl : h.loadN b 0 (bys M).length = some (bys M) := by
      rw [loadN_some h4 (by omega)]
      simp
    show rI .toStr [.sl b 0 (bys M).length (bys M).length true] h = _
    simp only [rI, hl, strBytes_bys, Option.map_some]
theorem eqBytes_g {lo lo' : Nat} {h : Heap} {v w : AV} {M : List Int} (hr : BR lo h v M) (hr' : BR lo' h w M) {Q : AV → Heap → Prop} (hQ : Q (.bool true) h) : VD fs ms f_escapementref00_EqBytes [v, w] h Q := by
  refine vd_start (af := C_escapementref00_EqBytes) true rfl (Nat.le_of_ble_eq_true rfl) ?_
  set_option smartUnfolding false in conv => whnf
  refine ⟨_, hr.str, ?_⟩
  set_option smartUnfolding false in conv => whnf
  refine ⟨_, hr'.str, ?_⟩
  set_option smartUnfolding false in conv => whnf
  have : (bytS M == bytS M) = true := by simp
  rw [this]
  exact hQ
end Ir
end Go.Proofs.YtmnolnoeibhjgaaGreat
