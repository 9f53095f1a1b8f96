/-
  Tape: Parse. Tape: the good ones. Tape: commands that are the same; what is brought. Tape: commands that may be written. Tape: what was written is read as it was (plain Lean). Tape: the statement TapeBack.
-/
import Derived.Test.YtmnolnoeibhjgaaGreatZD
set_option maxRecDepth 100000
set_option linter.unusedSimpArgs false
set_option linter.unusedVariables false
namespace Go.Proofs.YtmnolnoeibhjgaaGreat
open Go Ads
namespace Ir
def ten (x : TCmd × Int) : AV := .agg [.int .i64 x.1.k, .int .i64 x.1.p, .int .i64 x.1.t, .int .i64 x.1.n, .int .i64 x.1.m, .fz x.1.kk (tops x.1.ops), .int .i64 x.2]
def tens (l : List (TCmd × Int)) : List AV := l.map ten
theorem len_tens (l : List (TCmd × Int)) : (tens l).length = l.length := List.length_map ..
theorem size_tens (l : List (TCmd × Int)) : allSize 7 (tens l) = true := allSize_map (enc := ten) (fun _ => rfl) l
theorem cl_ten (x : TCmd × Int) : (ten x).cl = true := by simp [ten, AV.cl, clL, cl_tops]
theorem cl_tens (l : List (TCmd × Int)) : clL (tens l) = true := clL_map (enc := ten) cl_ten l
theorem idx_ten {l : List (TCmd × Int)} {j k : Nat} (hj : j < l.length) : pV (.iaddrS 7) [.fz k (tens l), .int .i64 (j : Nat)] = some (.fp (ten l[j]).cells 0) := idx_map (enc := ten) hj rfl
def nmR (X : List Int) : List Int := if readE X = 0 then (rdN 5 (X, 0)).1 else []
def entR (X : List Int) : TCmd × Int := (⟨(nmR X).getD 0 0, (nmR X).getD 1 0, (nmR X).getD 2 0, (nmR X).getD 3 0, (nmR X).getD 4 0, growK (resO X).length, resO X⟩, readE X)
theorem readF_c {I : Nat} {L X : List Int} {v : AV} {h : Heap} (hs : SvP h I L v X) {Q : AV → Heap → Prop} (hQ : ∀ h', Fr h h' [] → Q (ten (entR X)) h') : VD fs ms f_tape_read [v] h Q := by
 refine vd_frzR (read_c hs fun w h' fr gr => ?_)
 by_cases hz : readE X = 0
 ·obtain ⟨bs, hf, hb⟩ := gr.frz (size_tops _) (cl_tops _)
  refine ⟨bs, ten (entR X), ?_, hQ _ (fr_delB hb fr)⟩
  rw [len_tops] at hf
  simp only [cellsR, ten, entR, nmR, if_pos hz, hz]
  exact .agg' (.cons (.clean rfl) (.cons (.clean rfl) (.cons (.clean rfl) (.cons (.clean rfl) (.cons (.clean rfl) (.cons hf (.cons (.clean rfl) .nil)))))))
 ·refine ⟨[], ten (entR X), ?_, hQ _ (fr_delB (by simp) fr)⟩
  simp only [cellsR, ten, entR, nmR, resO, if_neg hz]
  exact .agg' (.cons (.clean rfl) (.cons (.clean rfl) (.cons (.clean rfl) (.cons (.clean rfl) (.cons (.clean rfl) (.cons .nils (.cons (.clean rfl) .nil)))))))
def parN : Nat → List Int → List (TCmd × Int) → List (TCmd × Int) × Int
 | 0, _, A => (A, 0)
 | m + 1, X, A => if X = [] then (A, 0) else if (numS 4096 (X, 0)).2.2 ≠ 0 then (A, (numS 4096 (X, 0)).2.2) else if ((numS 4096 (X, 0)).2.1.length : Int) < (numS 4096 (X, 0)).1 then (A, 3) else
  parN m ((numS 4096 (X, 0)).2.1.drop (numS 4096 (X, 0)).1.toNat) (A ++ [entR ((numS 4096 (X, 0)).2.1.take (numS 4096 (X, 0)).1.toNat)])
def par (X : List Int) : List (TCmd × Int) × Int := parN X.length X []
theorem rN_pos {most : Int} {X : List Int} (h : (rN most X).1 = 0) : 1 ≤ (rN most X).2.2 := by
 cases X with
 | nil => simp [rN] at h
 | cons c r =>
  simp only [rN] at h ⊢
  by_cases h1 : c = 255
  ·rw [if_pos h1] at h ⊢
   by_cases h2 : r.length < 8
   ·rw [if_pos h2] at h; simp at h
   ·rw [if_neg h2] at h ⊢
    by_cases h3 : val8 (r.take 8) = 0 ∨ val8 (r.take 8) > 9007199254740737
    ·rw [if_pos h3] at h; simp at h
    ·rw [if_neg h3] at h ⊢
     by_cases h4 : 254 + val8 (r.take 8) > most
     ·rw [if_pos h4] at h; simp at h
     ·rw [if_neg h4]; simp
  ·rw [if_neg h1] at h ⊢
   by_cases h2 : c > most
   ·rw [if_pos h2] at h; simp at h
   ·rw [if_neg h2]; simp
theorem numS_drop {most : Int} {X : List Int} (hok : okB X) (h : (numS most (X, 0)).2.2 = 0) : (numS most (X, 0)).2.1.length < X.length ∧ X.drop (X.length - (numS most (X, 0)).2.1.length) = (numS most (X, 0)).2.1 := by
 have h2 := (rN_rng (most := most) hok).2.1
 unfold numS at h ⊢
 rw [if_neg (by simp)] at h ⊢
 by_cases he : (rN most X).1 = 0
 ·have h1 := rN_pos he
  rw [if_neg (by simpa using he)]
  refine ⟨by simp only [List.length_drop]; omega, ?_⟩
  simp only [List.length_drop]
  rw [show X.length - (X.length - (rN most X).2.2) = (rN most X).2.2 by omega]
 ·rw [if_pos he] at h
  exact absurd h he
theorem parse_l {h0 : Heap} {I : Nat} {L : List Int} (lI : L = [] ∨ I < h0.next) {B : Nat} {Q : AX → Env → Heap → Prop} : ∀ (m : Nat) (X : List Int) (A : List (TCmd × Int)) (h : Heap) (env : Env) (v w : AV), X.length ≤ m → A.length + X.length ≤ 100000 →
  SvP h I L v X → GR 7 h0.next h w (tens A) → Fr h0 h [] → AllAt env [(0, v), (2, w), (3, .int .i64 0)] →
  (∀ e' h' w', GR 7 h0.next h' w' (tens (parN m X A).1) → Fr h0 h' [] → Tr.get e' 2 = some w' → ((parN m X A).2 = 0 → Q (.exit 0) e' h') ∧ (Tr.get e' 3 = some (.int .i64 (parN m X A).2) → Q .ret e' h')) →
  VC fs ms B false (.loop L_tape_Parse_0) env h Q := by
 intro m
 induction m with
 | zero =>
  intro X A h env v w hm hb hs gr fr henv hQ
  refine vc_slots 5 _ henv ?_
  refine vc_loopV (vpC_sound (z := true) ?_)
  set_option smartUnfolding false in conv => whnf
  rw [hs.hs.len]
  set_option smartUnfolding false in conv => whnf
  refine brf (by simp; exact List.eq_nil_of_length_eq_zero (by omega)) (fun hc => ?_)
  (try rw [hc])
  set_option smartUnfolding false in conv => whnf
  exact (hQ _ _ w gr fr rfl).1 rfl
 | succ m ih =>
  intro X A h env v w hm hb hs gr fr henv hQ
  refine vc_slots 5 _ henv ?_
  by_cases hX : X = []
  ·refine vc_loopV (vpC_sound (z := true) ?_)
   set_option smartUnfolding false in conv => whnf
   rw [hs.hs.len]
   set_option smartUnfolding false in conv => whnf
   refine brf (by simp [hX]) (fun hc => ?_)
   (try rw [hc])
   set_option smartUnfolding false in conv => whnf
   have h2 : parN (m + 1) X A = (A, 0) := if_pos hX
   rw [h2] at hQ
   exact (hQ _ _ w gr fr rfl).1 rfl
  have hX1 : 0 < X.length := List.length_pos_iff.2 hX
  have hpN : parN (m + 1) X A = if (numS 4096 (X, 0)).2.2 ≠ 0 then (A, (numS 4096 (X, 0)).2.2) else if ((numS 4096 (X, 0)).2.1.length : Int) < (numS 4096 (X, 0)).1 then (A, 3) else
   parN m ((numS 4096 (X, 0)).2.1.drop (numS 4096 (X, 0)).1.toNat) (A ++ [entR ((numS 4096 (X, 0)).2.1.take (numS 4096 (X, 0)).1.toNat)]) := if_neg hX
  refine vc_loopV (vc_seq true ?_)
  set_option smartUnfolding false in conv => whnf
  rw [hs.hs.len]
  set_option smartUnfolding false in conv => whnf
  refine brt (by simp; omega) (fun hc => ?_)
  (try rw [hc])
  set_option smartUnfolding false in conv => whnf
  refine vc_block (vc_seq true ?_)
  set_option smartUnfolding false in conv => whnf
  refine read0_c hs fun h1 rd1 fr1 n1 => ?_
  set_option smartUnfolding false in conv => whnf
  refine vc_seq true ?_
  set_option smartUnfolding false in conv => whnf
  have hd := numS_drop (most := 4096) hs.ok
  have hnn := numS_nn (most := 4096) (S := (X, 0)) hs.ok
  refine num_c (by decide) rd1 fun h2 rd2 fr2 => ?_
  rw [hpN] at hQ
  clear hpN
  generalize numS 4096 (X, 0) = S at *
  have f02 : Fr h h2 [] := ⟨by have := fr2.next; omega, fun c hc _ => (fr2.keep c (by omega) (by simp; omega)).trans (fr1.keep c hc (by simp))⟩
  have gr2 := gr.keep f02 (by simp)
  have fr02 : Fr h0 h2 [] := fr.trans f02
  have hs2 := hs.keep f02 (.inr (by simp))
  set_option smartUnfolding false in conv => whnf
  refine vc_seqV (vc_seq true ?_)
  set_option smartUnfolding false in conv => whnf
  refine err_c rd2 ?_
  set_option smartUnfolding false in conv => whnf
  refine vc_seq true ?_
  set_option smartUnfolding false in conv => whnf
  refine vc_condV ?_
  set_option smartUnfolding false in conv => whnf
  refine br (fun hc => ?_) (fun hc => ?_) <;> (try rw [hc]) <;> (set_option smartUnfolding false in conv => whnf)
  ·have hne : S.2.2 ≠ 0 := by simpa using hc
   rw [if_pos hne] at hQ
   refine vpC_sound (z := true) ?_
   set_option smartUnfolding false in conv => whnf
   exact (hQ _ _ w gr2 fr02 rfl).2 rfl
  have hz : S.2.2 = 0 := by simpa using hc
  rw [if_neg (by simpa using hz)] at hQ
  obtain ⟨hd1, hd2⟩ := hd hz
  refine vpC_sound (z := true) ?_
  set_option smartUnfolding false in conv => whnf
  refine vc_seqV (vc_seq true ?_)
  set_option smartUnfolding false in conv => whnf
  refine left_c rd2 ?_
  set_option smartUnfolding false in conv => whnf
  refine vc_condV ?_
  set_option smartUnfolding false in conv => whnf
  refine br (fun hc => ?_) (fun hc => ?_) <;> (try rw [hc]) <;> (set_option smartUnfolding false in conv => whnf)
  ·have hlt : (S.2.1.length : Int) < S.1 := by simpa using hc
   rw [if_pos hlt] at hQ
   refine vpC_sound (z := true) ?_
   set_option smartUnfolding false in conv => whnf
   exact (hQ _ _ w gr2 fr02 rfl).2 rfl
  have hge : ¬ (S.2.1.length : Int) < S.1 := by simpa using hc
  rw [if_neg hge] at hQ
  refine vpC_sound (z := true) ?_
  set_option smartUnfolding false in conv => whnf
  refine vc_seq true ?_
  set_option smartUnfolding false in conv => whnf
  rw [hs2.hs.len]
  set_option smartUnfolding false in conv => whnf
  refine left_c rd2 ?_
  set_option smartUnfolding false in conv => whnf
  have hsz := hs.sz
  have hwr : IntKind.i64.wrap ((X.length : Int) - (S.2.1.length : Int)) = ((X.length - S.2.1.length : Nat) : Int) := by
   simp only [IntKind.wrap, IntKind.signed, IntKind.bits]
   simp
   omega
  rw [hwr]
  obtain ⟨v1, hp1, hs3⟩ := hs2.from (lo := X.length - S.2.1.length) (by omega)
  rw [hd2] at hs3
  refine ⟨v1, hp1, ?_⟩
  set_option smartUnfolding false in conv => whnf
  obtain ⟨n, hn⟩ := Int.eq_ofNat_of_zero_le hnn
  have hnt : S.1.toNat = n := by rw [hn]; rfl
  have hnl : n ≤ S.2.1.length := by omega
  rw [hnt] at hQ
  obtain ⟨v2, hp2, hs4⟩ := hs3.to hnl
  obtain ⟨v3, hp3, hs5⟩ := hs3.from hnl
  rw [← hn] at hp2 hp3
  refine vc_seq true ?_
  set_option smartUnfolding false in conv => whnf
  refine ⟨v2, hp2, ?_⟩
  set_option smartUnfolding false in conv => whnf
  refine readF_c hs4 fun h3 fr3 => ?_
  set_option smartUnfolding false in conv => whnf
  have fr03 : Fr h0 h3 [] := fr02.trans fr3
  have gr3 := gr2.keep fr3 (by simp)
  obtain ⟨w', g', ha, gr4, hn4, hk4⟩ := GR.app (bytes := 72) gr3 fr03.next (x := ten (entR (S.2.1.take n))) rfl rfl (size_tens A) (by rw [len_tens]; omega) (by rw [len_tens]; omega)
  refine ⟨_, _, ha, ?_⟩
  have fr4 : Fr h0 g' [] := fr03.app hn4 (fun c hc => hk4 c hc)
  have hs6 : SvP g' I L v3 (S.2.1.drop n) := by
   have h1 := (hs5.keep fr3 (.inr (by simp)))
   refine ⟨h1.hs, ?_, h1.ok, h1.sz⟩
   rcases h1.gI with h | ⟨⟨wr, es, k1⟩, k2⟩
   ·exact .inl h
   ·rcases lI with h | h
    ·exact .inl h
    ·exact .inr ⟨⟨wr, es, (hk4 I h).trans k1⟩, by omega⟩
  set_option smartUnfolding false in conv => whnf
  refine vpC_sound (z := true) ?_
  set_option smartUnfolding false in conv => whnf
  refine ⟨v3, hp3, ?_⟩
  set_option smartUnfolding false in conv => whnf
  refine ih _ (A ++ [entR (S.2.1.take n)]) g' _ v3 w' (by rw [List.length_drop]; omega) (by rw [List.length_drop]; simp; omega) hs6 (by rw [tens, List.map_append]; exact gr4) fr4 ⟨rfl, rfl, rfl, trivial⟩ hQ
theorem parse_c {I : Nat} {L X : List Int} {v : AV} {h : Heap} (hs : SvP h I L v X) (hl : X.length ≤ 100000) {Q : AV → Heap → Prop} (hQ : ∀ w h', GR 7 h.next h' w (tens (par X).1) → Fr h h' [] → Q (.tup [w, .int .i64 (par X).2]) h') : VD fs ms f_tape_Parse [v] h Q := by
 refine vd_begin (af := C_tape_Parse) rfl (yB rfl) ?_
 set_option smartUnfolding false in conv => whnf
 refine vc_seq true ?_
 set_option smartUnfolding false in conv => whnf
 refine vc_seqV ?_
 refine vc_block ?_
 refine parse_l (h0 := h) (I := I) (L := L) (hs.gI.imp id (fun h => h.2)) X.length X [] h _ v .nils (Nat.le_refl _) (by simpa using hl) hs (.inl ⟨rfl, rfl⟩) (Fr.refl h []) ⟨rfl, rfl, rfl, trivial⟩ ?_
 intro e' h' w gr fr h2
 refine ⟨fun hz => ?_, fun h3 => ?_⟩
 ·show VC fs ms h.next false _ _ _ _
  refine vc_slots 3 [(2, w)] ⟨h2, trivial⟩ (vpC_sound (z := true) ?_)
  set_option smartUnfolding false in conv => whnf
  have := hQ w h' gr fr
  rw [show (par X).2 = 0 from hz] at this
  exact this
 ·set_option smartUnfolding false in conv => whnf
  refine opt_go (v := [w, .int .i64 (par X).2]) (res_two h2 h3) ?_
  exact hQ w h' gr fr
theorem flat_tops : ∀ l : List TOp, flatL (flatCells (tops l)) = true
 | [] => rfl
 | x :: l => by
  show flatL (.int .i64 x.k :: .int .i64 x.n :: .str x.s :: flatCells (tops l)) = true
  simp only [flatL, AV.flat, cond_true]
  exact flat_tops l
theorem cloneO_c (l : List TOp) (h : l.length ≤ 100000) : PC fs ms f_slices_Clone_api_Op_api_Op [.fz (growK l.length) (tops l)] (.fz (growK l.length) (tops l)) := by
 refine ⟨by simp [clL, AV.cl, cl_tops], by simp [AV.cl, cl_tops], ?_⟩
 refine vd_start (af := C_slices_Clone_api_Op_api_Op) false rfl (yB rfl) ?_
 cases l with
 | nil =>
  set_option smartUnfolding false in conv => whnf
  exact .nils
 | cons t0 tr =>
  generalize hQ : (fun (u : AV) (g : Heap) => Frz (fun _ => True) g u (.fz (growK (t0 :: tr).length) (tops (t0 :: tr)))) = Q
  set_option smartUnfolding false in conv => whnf
  refine ⟨_, _, app_lit (s := 3) (bytes := 32) (n := tr.length) rfl (by omega) (by simp at h; omega) ((src_fz (k := 0) (size_tops (t0 :: tr))).trans (by rw [len_tops]; rfl)) (flat_tops (t0 :: tr)), ?_⟩
  set_option smartUnfolding false in conv => whnf
  subst hQ
  exact frz_open (s := 3) trivial rfl rfl (size_tops _) (by rw [len_tops]; rfl) (cl_tops _)
def goodR (A : List (TCmd × Int)) : List TCmd := (A.filter fun x => x.2 == 0).map (·.1)
structure KindR (x : TCmd × Int) : Prop where
 k : x.1.kk = growK x.1.ops.length
 l : x.1.ops.length ≤ 100000
theorem goodR_next {A : List (TCmd × Int)} {j : Nat} (hj : j < A.length) : goodR (A.take (j + 1)) = goodR (A.take j) ++ (if A[j].2 = 0 then [A[j].1] else []) := by
 rw [take_next hj, goodR, List.filter_append, List.map_append]
 by_cases h : A[j].2 = 0
 ·simp [h, goodR]
 ·simp [h, goodR]
theorem goodR_len (A : List (TCmd × Int)) : (goodR A).length ≤ A.length := by
 rw [goodR, List.length_map]
 exact List.length_filter_le ..
theorem good_l {h0 : Heap} {k : Nat} {A : List (TCmd × Int)} (hl : A.length ≤ 100000) (hA : ∀ x ∈ A, KindR x) {B : Nat} {Q : AX → Env → Heap → Prop} (hQ : ∀ e' h' v, GR 6 h0.next h' v (tcms (goodR A)) → Fr h0 h' [] → Tr.get e' 2 = some v → Q (.exit 0) e' h') :
  ∀ (m j : Nat) (h : Heap) (env : Env) (v : AV), A.length - j = m → j ≤ A.length → GR 6 h0.next h v (tcms (goodR (A.take j))) → Fr h0 h [] →
   AllAt env [(2, v), (6, .fz k (tens A)), (7, .int .i64 ((A.length : Nat) : Int)), (8, .int .i64 ((j : Nat) : Int))] →
   VC fs ms B false (.loop L_tape_Good_0) env h Q := by
 intro m
 induction m with
 | zero =>
  intro j h env v hm hj hr fr henv
  have hjl : j = A.length := by omega
  subst hjl
  refine vc_slots 5 _ henv ?_
  refine vc_loopV (vpC_sound (z := true) ?_)
  set_option smartUnfolding false in conv => whnf
  refine brf (by simp) (fun hc => ?_)
  (try rw [hc])
  set_option smartUnfolding false in conv => whnf
  rw [List.take_length] at hr
  exact hQ _ h v hr fr rfl
 | succ m ih =>
  intro j h env v hm hj hr fr henv
  have hlt : j < A.length := by omega
  have hix := idx_ten (k := k) hlt
  have hnx := goodR_next hlt
  obtain ⟨hk, hlo⟩ := hA _ (List.getElem_mem hlt)
  have hgl := goodR_len (A.take j)
  rw [List.length_take] at hgl
  generalize hX : A[j] = x at *
  refine vc_slots 5 _ henv ?_
  refine vc_loopV (vc_seq true ?_)
  set_option smartUnfolding false in conv => whnf
  refine vc_seq true ?_
  set_option smartUnfolding false in conv => whnf
  refine brt (by simp; omega) (fun hc => ?_)
  (try rw [hc])
  set_option smartUnfolding false in conv => whnf
  refine vc_seqV (vc_block (vc_seq true ?_))
  set_option smartUnfolding false in conv => whnf
  refine ⟨_, hix, ?_⟩
  set_option smartUnfolding false in conv => whnf
  refine ⟨ten x, rfl, ?_⟩
  set_option smartUnfolding false in conv => whnf
  refine eff_o (sto_o get_new_same rfl (Nat.le_refl _) rfl) fun h1 e1 => ?_
  have f1 : Fr h h1 [] := by rw [e1]; exact ((Fr.refl h []).new).setn (Nat.le_refl _)
  have g1 : h1.get h.next = some (.cells (ten x).cells true 0) := by rw [e1, get_set_same]; rfl
  have n1 : h1.next = h.next + 1 := by rw [e1]; rfl
  clear e1
  set_option smartUnfolding false in conv => whnf
  have hr1 := hr.keep f1 (by simp)
  have fr1 := fr.trans f1
  refine vc_seq true ?_
  set_option smartUnfolding false in conv => whnf
  refine ⟨.int .i64 x.2, ld1 g1 rfl, ?_⟩
  set_option smartUnfolding false in conv => whnf
  refine vc_condV ?_
  set_option smartUnfolding false in conv => whnf
  refine br (fun hc => ?_) (fun hc => ?_) <;> (try rw [hc]) <;> (set_option smartUnfolding false in conv => whnf)
  ·have hz : x.2 = 0 := by simpa using hc
   rw [if_pos hz] at hnx
   refine vc_seq true ?_
   set_option smartUnfolding false in conv => whnf
   refine ⟨tcm x.1, ldN g1 (by show 0 + 0 + 6 ≤ 7; omega), ?_⟩
   set_option smartUnfolding false in conv => whnf
   refine eff_o (sto_o get_new_same rfl (Nat.le_refl _) rfl) fun h2 e2 => ?_
   have f2 : Fr h1 h2 [] := by rw [e2]; exact ((Fr.refl h1 []).new).setn (Nat.le_refl _)
   have g2 : h2.get h1.next = some (.cells (tcm x.1).cells true 0) := by rw [e2, get_set_same]; rfl
   have n2 : h2.next = h1.next + 1 := by rw [e2]; rfl
   clear e2
   have hr2 := hr1.keep f2 (by simp)
   have fr2 := fr1.trans f2
   set_option smartUnfolding false in conv => whnf
   refine vc_seq true ?_
   set_option smartUnfolding false in conv => whnf
   refine ⟨.fz x.1.kk (tops x.1.ops), ld1 g2 rfl, ?_⟩
   set_option smartUnfolding false in conv => whnf
   refine vd_pure (by rw [hk]; exact cloneO_c x.1.ops hlo) ?_
   set_option smartUnfolding false in conv => whnf
   refine eff_o (sto_o g2 rfl (by show 0 + 0 + 5 + 1 ≤ 6; omega) rfl) fun h3 e3 => ?_
   have f3 : Fr h2 h3 [h1.next] := by rw [e3]; exact (Fr.refl h2 _).set (by simp)
   have g3 : h3.get h1.next = some (.cells (tcm x.1).cells true 0) := by
    rw [e3, get_set_same]
    simp only [tcm, AV.cells, hk]
    rfl
   clear e3
   have fn := fr.next
   have f13 : Fr h1 h3 [] := ⟨by have := f3.next; omega, fun c hc _ => (f3.keep c (by omega) (by simp; omega)).trans (f2.keep c hc (by simp))⟩
   have hr3 := hr1.keep f13 (by simp)
   have fr3 := fr1.trans f13
   set_option smartUnfolding false in conv => whnf
   refine vpC_sound (z := true) ?_
   set_option smartUnfolding false in conv => whnf
   refine ⟨tcm x.1, ldN g3 (Nat.le_refl _), ?_⟩
   set_option smartUnfolding false in conv => whnf
   obtain ⟨v', g', ha, hr4, hn4, hk4⟩ := GR.app (bytes := 64) hr3 fr3.next (x := tcm x.1) rfl rfl (size_tcms _) (by rw [len_tcms]; omega) (by rw [len_tcms]; omega)
   refine ⟨_, _, ha, ?_⟩
   have fr4 : Fr h0 g' [] := fr3.app hn4 (fun c hc => hk4 c hc)
   set_option smartUnfolding false in conv => whnf
   refine vpC_sound (z := true) ?_
   set_option smartUnfolding false in conv => whnf
   refine ih (j + 1) g' _ v' (by omega) (by omega) (by rw [hnx, tcms, List.map_append]; exact hr4) fr4 ⟨rfl, rfl, rfl, inc_slot (by omega), trivial⟩
  ·have hz : ¬ x.2 = 0 := by simpa using hc
   rw [if_neg hz, List.append_nil] at hnx
   refine vpC_sound (z := true) ?_
   set_option smartUnfolding false in conv => whnf
   refine vpC_sound (z := true) ?_
   set_option smartUnfolding false in conv => whnf
   refine ih (j + 1) h1 _ v (by omega) (by omega) (by rw [hnx]; exact hr1) fr1 ⟨rfl, rfl, rfl, inc_slot (by omega), trivial⟩
theorem good_c {k : Nat} {A : List (TCmd × Int)} (hl : A.length ≤ 100000) (hA : ∀ x ∈ A, KindR x) {h : Heap} {Q : AV → Heap → Prop} (hQ : ∀ v h', GR 6 h.next h' v (tcms (goodR A)) → Fr h h' [] → Q v h') : VD fs ms f_tape_Good [.fz k (tens A)] h Q := by
 refine vd_begin (af := C_tape_Good) rfl (yB rfl) ?_
 set_option smartUnfolding false in conv => whnf
 refine vc_seq true ?_
 set_option smartUnfolding false in conv => whnf
 refine vc_seqV (vc_seq true ?_)
 set_option smartUnfolding false in conv => whnf
 rw [len_tens]
 refine vc_block ?_
 refine good_l (h0 := h) hl hA ?_ A.length 0 h _ .nils rfl (Nat.zero_le _) (.inl ⟨rfl, rfl⟩) (Fr.refl _ _) ⟨rfl, rfl, rfl, rfl, trivial⟩
 intro e' h' v hr fr h2
 show VC fs ms h.next false _ _ _ _
 refine vc_slots 3 [(2, v)] ⟨h2, trivial⟩ (vpC_sound (z := true) ?_)
 set_option smartUnfolding false in conv => whnf
 exact hQ v h' hr fr
theorem top_same (o : TOp) : pV (.neq (.cells [0, 0, 2])) [top o, top o] = some (.bool false) := by
 simp [pV, top, eqA, eqCells, eqOne]
theorem bne_same (a : Int) : (a != a) = false := by simp
theorem same_l {x : TCmd} {h : Heap} {a b : Nat} (hA : h.get a = some (.cells (tcm x).cells true 0)) (hB : h.get b = some (.cells (tcm x).cells true 0)) (hx : x.ops.length < 2 ^ 62) {B : Nat} {Q : AX → Env → Heap → Prop} (hQ : ∀ e', Q (.exit 0) e' h) :
  ∀ (m j : Nat) (env : Env), x.ops.length - j = m → j ≤ x.ops.length → AllAt env [(2, .ptr a 0), (3, .ptr b 0), (5, .int .i64 ((j : Nat) : Int))] → VC fs ms B false (.loop L_escapementlaw28_sameCmd_0) env h Q := by
 intro m
 induction m with
 | zero =>
  intro j env hm hj henv
  have hjl : j = x.ops.length := by omega
  subst hjl
  refine vc_slots 5 _ henv ?_
  refine vc_loopV (vpC_sound (z := true) ?_)
  set_option smartUnfolding false in conv => whnf
  refine ⟨.fz x.kk (tops x.ops), ld1 hA rfl, ?_⟩
  set_option smartUnfolding false in conv => whnf
  refine brf (by simp [len_tops]) (fun hc => ?_)
  (try rw [hc])
  set_option smartUnfolding false in conv => whnf
  exact hQ _
 | succ m ih =>
  intro j env hm hj henv
  have hlt : j < x.ops.length := by omega
  have hix := idx_top (k := x.kk) hlt
  generalize hX : x.ops[j] = o at *
  refine vc_slots 5 _ henv ?_
  refine vc_loopV (vc_seq true ?_)
  set_option smartUnfolding false in conv => whnf
  refine ⟨.fz x.kk (tops x.ops), ld1 hA rfl, ?_⟩
  set_option smartUnfolding false in conv => whnf
  refine brt (by simp [len_tops]; omega) (fun hc => ?_)
  (try rw [hc])
  set_option smartUnfolding false in conv => whnf
  refine vc_seqV (vc_block (vc_seq true ?_))
  set_option smartUnfolding false in conv => whnf
  refine ⟨.fz x.kk (tops x.ops), ld1 hA rfl, ?_⟩
  set_option smartUnfolding false in conv => whnf
  refine ⟨_, hix, ?_⟩
  set_option smartUnfolding false in conv => whnf
  refine ⟨top o, rfl, ?_⟩
  set_option smartUnfolding false in conv => whnf
  refine ⟨.fz x.kk (tops x.ops), ld1 hB rfl, ?_⟩
  set_option smartUnfolding false in conv => whnf
  refine ⟨_, hix, ?_⟩
  set_option smartUnfolding false in conv => whnf
  refine ⟨top o, rfl, ?_⟩
  set_option smartUnfolding false in conv => whnf
  refine op_some (top_same _) ?_
  set_option smartUnfolding false in conv => whnf
  refine vpC_sound (z := true) ?_
  set_option smartUnfolding false in conv => whnf
  refine vpC_sound (z := true) ?_
  set_option smartUnfolding false in conv => whnf
  refine ih (j + 1) _ (by omega) (by omega) ⟨rfl, rfl, inc_slot (by omega), trivial⟩
theorem same_c (x : TCmd) (hx : x.ops.length < 2 ^ 62) : PC fs ms f_escapementlaw28_sameCmd [tcm x, tcm x] (.bool true) := by
 refine pc_of (by simp [clL, cl_tcm]) rfl ?_
 refine vd_begin (af := C_escapementlaw28_sameCmd) rfl (yB rfl) ?_
 generalize hQ : (fun (v : AV) (_ : Heap) => v = .bool true) = Q
 set_option smartUnfolding false in conv => whnf
 refine vc_seq true ?_
 set_option smartUnfolding false in conv => whnf
 obtain ⟨H, hH⟩ : ∃ H, H = ((⟨0, .nil⟩ : Heap).new (.cells (tcm x).cells true 0)).new (.cells (tcm x).cells true 0) := ⟨_, rfl⟩
 have hA : H.get 0 = some (.cells (tcm x).cells true 0) := by rw [hH]; rfl
 have hB : H.get 1 = some (.cells (tcm x).cells true 0) := by rw [hH]; exact get_new_same (h := (⟨0, .nil⟩ : Heap).new _)
 show VC fs ms _ _ _ _ (((⟨0, .nil⟩ : Heap).new (.cells (tcm x).cells true 0)).new (.cells (tcm x).cells true 0)) _
 rw [← hH]
 clear hH
 refine vc_slots 3 [(2, .ptr 0 0), (3, .ptr 1 0)] ⟨rfl, rfl, trivial⟩ ?_
 refine vc_seqV (vc_seq true ?_)
 set_option smartUnfolding false in conv => whnf
 refine ⟨.int .i64 x.k, ld1 hA rfl, ?_⟩
 set_option smartUnfolding false in conv => whnf
 refine ⟨.int .i64 x.k, ld1 hB rfl, ?_⟩
 set_option smartUnfolding false in conv => whnf
 rw [bne_same]
 set_option smartUnfolding false in conv => whnf
 refine ⟨.int .i64 x.p, ld1 hA rfl, ?_⟩
 set_option smartUnfolding false in conv => whnf
 refine ⟨.int .i64 x.p, ld1 hB rfl, ?_⟩
 set_option smartUnfolding false in conv => whnf
 rw [bne_same]
 set_option smartUnfolding false in conv => whnf
 refine ⟨.int .i64 x.t, ld1 hA rfl, ?_⟩
 set_option smartUnfolding false in conv => whnf
 refine ⟨.int .i64 x.t, ld1 hB rfl, ?_⟩
 set_option smartUnfolding false in conv => whnf
 rw [bne_same]
 set_option smartUnfolding false in conv => whnf
 refine ⟨.int .i64 x.n, ld1 hA rfl, ?_⟩
 set_option smartUnfolding false in conv => whnf
 refine ⟨.int .i64 x.n, ld1 hB rfl, ?_⟩
 set_option smartUnfolding false in conv => whnf
 rw [bne_same]
 set_option smartUnfolding false in conv => whnf
 refine ⟨.int .i64 x.m, ld1 hA rfl, ?_⟩
 set_option smartUnfolding false in conv => whnf
 refine ⟨.int .i64 x.m, ld1 hB rfl, ?_⟩
 set_option smartUnfolding false in conv => whnf
 rw [bne_same]
 set_option smartUnfolding false in conv => whnf
 refine ⟨.fz x.kk (tops x.ops), ld1 hA rfl, ?_⟩
 set_option smartUnfolding false in conv => whnf
 refine ⟨.fz x.kk (tops x.ops), ld1 hB rfl, ?_⟩
 set_option smartUnfolding false in conv => whnf
 rw [bne_same]
 set_option smartUnfolding false in conv => whnf
 refine vpC_sound (z := true) ?_
 set_option smartUnfolding false in conv => whnf
 refine vc_seqV (vc_seq true ?_)
 set_option smartUnfolding false in conv => whnf
 refine vc_block ?_
 refine same_l hA hB hx ?_ x.ops.length 0 _ rfl (Nat.zero_le _) ⟨rfl, rfl, rfl, trivial⟩
 intro e'
 show VC fs ms _ false _ _ _ _
 refine vc_slots 3 [] trivial (vpC_sound (z := true) ?_)
 set_option smartUnfolding false in conv => whnf
 subst hQ
 rfl
abbrev brM (n : Int) : Int := bring n 9007199254740991
def wo (o : TOp) : TOp := ⟨brM o.k, brM o.n, o.s.take 16⟩
def wos (l : List TOp) : List TOp := l.map wo
def wr1 (x : TCmd) : TCmd := ⟨brM x.k, brM x.p, brM x.t, brM x.n, brM x.m, growK (wos (x.ops.take 32)).length, wos (x.ops.take 32)⟩
def wrt (l : List TCmd) : List TCmd := (l.take 40).map wr1
theorem min_val (n m : Nat) : (bif decide ((m : Int) < (n : Int)) then (m : Int) else (n : Int)) = ((min n m : Nat) : Int) := by
 by_cases h : (m : Int) < n
 ·rw [decide_eq_true h]
  simp only [cond_true]
  omega
 ·rw [decide_eq_false h]
  simp only [cond_false]
  omega
theorem slice_str {s : List UInt8} {n : Nat} (hn : n ≤ s.length) : pV (.sliceStr false true) [.str s, .int .i64 ((n : Nat) : Int)] = some (.str (s.take n)) := by
 have hb : bounds s.length s.length false true false [.int .i64 ((n : Nat) : Int)] = some (0, n, s.length) := by
  have h0 : asNat (.int .i64 ((n : Nat) : Int)) = some n := by simp [asNat]
  simp only [bounds, h0, Option.map_some]
  rw [Nat.ble_eq_true_of_le (Nat.zero_le _), Nat.ble_eq_true_of_le hn, Nat.ble_eq_true_of_le (Nat.le_refl _)]
  rfl
 show Ads.pI (.sliceStr false true) [.str s, .int .i64 ((n : Nat) : Int)] = _
 simp only [Ads.pI, hb, List.drop_zero]
theorem slice_16 (s : List UInt8) : pV (.sliceStr false true) [.str s, .int .i64 (bif decide ((16 : Int) < (s.length : Int)) then (16 : Int) else (s.length : Int))] = some (.str (s.take 16)) := by
 have h2 : (bif decide ((16 : Int) < (s.length : Int)) then (16 : Int) else (s.length : Int)) = ((min s.length 16 : Nat) : Int) := min_val s.length 16
 rw [h2, slice_str (Nat.min_le_left _ _)]
 congr 2
 rw [Nat.min_comm, ← List.take_take]
 congr 1
 simp
theorem small_ok {a : Bool} {P n o : Nat} (h : P < n) : (a || smallL n [.ptr P o]) = true := by simp [smallL, smallV, Nat.ble_eq_true_of_le (show P + 1 ≤ n from h)]
structure WS (hb : Heap) (P : Nat) (x : TCmd) (h : Heap) (v : AV) (acc : List TOp) : Prop where
 fr : Fr hb h [P]
 gP : h.get P = some (.cells [.int .i64 (brM x.k), .int .i64 (brM x.p), .int .i64 (brM x.t), .int .i64 (brM x.n), .int .i64 (brM x.m), v] true 0)
 gr : GR 3 hb.next h v (tops acc)
theorem wos_next {l : List TOp} {j : Nat} (hj : j < l.length) : wos (l.take (j + 1)) = wos (l.take j) ++ [wo l[j]] := by
 rw [take_next hj, wos, List.map_append]
 rfl
theorem bringM_c (n : Int) : PC fs ms f_escapementref00_Bring [.int .i64 n, .int .i64 9007199254740991] (.int .i64 (brM n)) := bring_c n 9007199254740991 (by decide) (by decide)
theorem wo_l {x : TCmd} {hb : Heap} {P : Nat} (hP : P < hb.next) {a0 a3 a4 : AV} (hx : x.ops.length < 2 ^ 62) {B : Nat} {Q : AX → Env → Heap → Prop} (hQ : ∀ e' h' v, WS hb P x h' v (wos (x.ops.take 32)) → AllAt e' [(0, a0), (3, a3), (4, a4), (6, .ptr P 0)] → Q (.exit 2) e' h') :
  ∀ (m j : Nat) (h : Heap) (env : Env) (v : AV), min 32 x.ops.length - j = m → j ≤ min 32 x.ops.length → WS hb P x h v (wos (x.ops.take j)) → AllAt env [(0, a0), (3, a3), (4, a4), (5, .fp (tcm x).cells 0), (6, .ptr P 0), (7, .int .i64 ((j : Nat) : Int))] →
   VC fs ms B false (.loop L_escapementlaw28_written_1) env h Q := by
 intro m
 induction m with
 | zero =>
  intro j h env v hm hj hs henv
  have hjl : j = min 32 x.ops.length := by omega
  have ht : x.ops.take j = x.ops.take 32 := by rw [hjl, ← List.take_take]; congr 1; simp
  rw [ht] at hs
  generalize hJ : ((j : Nat) : Int) = J at henv
  refine vc_slots 6 _ henv ?_
  refine vc_loopV (vpC_sound (z := true) ?_)
  set_option smartUnfolding false in conv => whnf
  refine ⟨.fz x.kk (tops x.ops), rfl, ?_⟩
  set_option smartUnfolding false in conv => whnf
  refine br (fun hc => ?_) (fun hc => ?_) <;> (try rw [hc]) <;> (set_option smartUnfolding false in conv => whnf)
  ·have hc1 : j < x.ops.length := by have := of_decide_eq_true hc; rw [len_tops] at this; omega
   refine brf (by simp; omega) (fun hc => ?_)
   (try rw [hc])
   set_option smartUnfolding false in conv => whnf
   exact hQ _ h v hs ⟨rfl, rfl, rfl, rfl, trivial⟩
  ·exact hQ _ h v hs ⟨rfl, rfl, rfl, rfl, trivial⟩
 | succ m ih =>
  intro j h env v hm hj hs henv
  have hlt : j < x.ops.length := by omega
  have h32 : j < 32 := by omega
  have hix := idx_top (k := x.kk) hlt
  have hnx := wos_next hlt
  generalize hX : x.ops[j] = o at *
  obtain ⟨fr, gP, gr⟩ := hs
  have haccl : (wos (x.ops.take j)).length ≤ 32 := by rw [wos, List.length_map, List.length_take]; omega
  generalize hacc : wos (x.ops.take j) = acc at *
  generalize hJ : ((j : Nat) : Int) = J at henv hix
  refine vc_slots 6 _ henv ?_
  refine vc_loopV (vc_seq true ?_)
  set_option smartUnfolding false in conv => whnf
  refine ⟨.fz x.kk (tops x.ops), rfl, ?_⟩
  set_option smartUnfolding false in conv => whnf
  refine brt (by simp [len_tops]; omega) (fun hc => ?_)
  (try rw [hc])
  set_option smartUnfolding false in conv => whnf
  refine brt (by simp; omega) (fun hc => ?_)
  (try rw [hc])
  set_option smartUnfolding false in conv => whnf
  refine vc_seqV (vc_block (vc_seq true ?_))
  set_option smartUnfolding false in conv => whnf
  refine ⟨.fz x.kk (tops x.ops), rfl, ?_⟩
  set_option smartUnfolding false in conv => whnf
  refine ⟨_, hix, ?_⟩
  set_option smartUnfolding false in conv => whnf
  refine ⟨top o, rfl, ?_⟩
  set_option smartUnfolding false in conv => whnf
  refine eff_o (sto_o get_new_same rfl (Nat.le_refl _) rfl) fun h1 e1 => ?_
  have f1 : Fr h h1 [] := by rw [e1]; exact ((Fr.refl h []).new).setn (Nat.le_refl _)
  have g1 : h1.get h.next = some (.cells (top o).cells true 0) := by rw [e1, get_set_same]; rfl
  clear e1
  set_option smartUnfolding false in conv => whnf
  refine vc_frz [h.next] (i := 8) (v := .ptr h.next 0) (v' := .fp (top o).cells 0) rfl (.ptr' (by simp) g1 (.clean (cells_cl (show (top o).cl = true from rfl)))) ?_
  have frn := fr.next
  have gP2 := (delAll_get (bs := [h.next]) (g := h1) P).trans ((if_neg (by simp; omega)).trans ((f1.keep P (by omega) (by simp)).trans gP))
  have gr2 : GR 3 hb.next (delAll [h.next] h1) v (tops acc) := by
   rcases gr with h | ⟨hne, b, b1, b2, b3, b4⟩
   ·exact .inl h
   ·exact .inr ⟨hne, b, b1, by rw [delAll_next]; exact Nat.lt_of_lt_of_le b2 f1.next, b3, (delAll_get ..).trans ((if_neg (by simp; omega)).trans ((f1.keep b b2 (by simp)).trans b4))⟩
  have fr2 : Fr hb (delAll [h.next] h1) [P] := ⟨by rw [delAll_next]; have := f1.next; omega, fun c hc hn => (delAll_get ..).trans ((if_neg (by simp; omega)).trans ((f1.keep c (by omega) (by simp)).trans (fr.keep c hc hn)))⟩
  generalize delAll [h.next] h1 = H at *
  refine vc_slots 6 [(0, a0), (3, a3), (4, a4), (5, .fp (tcm x).cells 0), (6, .ptr P 0), (7, .int .i64 J), (8, .fp (top o).cells 0)] ⟨rfl, rfl, rfl, rfl, rfl, rfl, by rw [Tr.get_set, if_pos rfl], trivial⟩ ?_
  refine vpC_sound (z := true) ?_
  set_option smartUnfolding false in conv => whnf
  refine ⟨v, ld1 gP2 rfl, ?_⟩
  set_option smartUnfolding false in conv => whnf
  refine ⟨.int .i64 o.k, rfl, ?_⟩
  set_option smartUnfolding false in conv => whnf
  refine vd_pure (bringM_c _) ?_
  set_option smartUnfolding false in conv => whnf
  refine ⟨.int .i64 o.n, rfl, ?_⟩
  set_option smartUnfolding false in conv => whnf
  refine vd_pure (bringM_c _) ?_
  set_option smartUnfolding false in conv => whnf
  refine ⟨.str o.s, rfl, ?_⟩
  set_option smartUnfolding false in conv => whnf
  refine ⟨.str o.s, rfl, ?_⟩
  set_option smartUnfolding false in conv => whnf
  refine ⟨_, slice_16 o.s, ?_⟩
  set_option smartUnfolding false in conv => whnf
  obtain ⟨v', g', ha, gr3, hn3, hk3⟩ := GR.app (bytes := 32) gr2 (by have := fr2.next; omega) (x := top (wo o)) rfl rfl (size_tops acc) (by rw [len_tops]; omega) (by rw [len_tops]; omega)
  refine ⟨_, _, ha, ?_⟩
  obtain ⟨c1, c2, c3⟩ := GR.one gr3
  set_option smartUnfolding false in conv => whnf
  have hdt : v.dt = true := by
   rcases gr2 with ⟨_, rfl⟩ | ⟨_, b, _, _, rfl, _⟩
   ·rfl
   ·rfl
  refine eff_o (sto_o ((hk3 P hP).trans gP2) c2 (by show 0 + 0 + 5 + 1 ≤ 6; omega) c3) fun h4 e4 => ?_
  set_option smartUnfolding false in conv => whnf
  have hPH : P < H.next := Nat.lt_of_lt_of_le hP fr2.next
  refine ⟨winOk_of (by (set_option smartUnfolding false in conv => whnf); repeat' (first | exact trivial | (exact ⟨rfl, rfl, .inr ⟨_, _, rfl⟩⟩) | (refine ⟨small_ok hPH, rfl, .inl ⟨hdt, fun o ho => ?_⟩⟩; cases ho; first | rfl | exact ld1 gP2 rfl) | (exact ⟨rfl, .inr ⟨_, _, rfl⟩⟩) | (refine ⟨rfl, .inl ⟨hdt, fun i o hi ho => ?_⟩⟩; cases hi; cases ho; first | rfl | exact ld1 gP2 rfl) | (refine ⟨rfl, rfl, .inl ⟨rfl, fun o ho => ?_⟩⟩; cases ho; first | rfl | exact ld1 gP2 rfl) | (refine ⟨rfl, .inl ⟨rfl, fun i o hi ho => ?_⟩⟩; cases hi; cases ho; first | rfl | exact ld1 gP2 rfl) | (refine And.intro (fun hon => (Bool.false_ne_true hon).elim) ?_ <;> set_option smartUnfolding false in conv => whnf) | (refine And.intro (fun _ => ?_) ?_ <;> set_option smartUnfolding false in conv => whnf) | (refine And.intro ?_ ?_ <;> set_option smartUnfolding false in conv => whnf))), ?_⟩
  set_option smartUnfolding false in conv => whnf
  have gP4 : h4.get P = some (.cells [.int .i64 (brM x.k), .int .i64 (brM x.p), .int .i64 (brM x.t), .int .i64 (brM x.n), .int .i64 (brM x.m), v'] true 0) := by rw [e4, get_set_same, c1]; rfl
  have f4 : Fr g' h4 [P] := by rw [e4]; exact (Fr.refl g' _).set (by simp)
  clear e4
  refine vpC_sound (z := true) ?_
  set_option smartUnfolding false in conv => whnf
  subst hJ
  refine ih (j + 1) h4 _ v' (by omega) (by omega) ⟨⟨by have := f4.next; have := fr2.next; omega, fun c hc hn => (f4.keep c (by have := fr2.next; omega) hn).trans ((hk3 c hc).trans (fr2.keep c hc hn))⟩, gP4, ?_⟩ ⟨rfl, rfl, rfl, rfl, rfl, inc_slot (by omega), trivial⟩
  rw [hnx, tops, List.map_append]
  exact gr3.keep f4 (by simpa using hP)
theorem wrt_next {l : List TCmd} {j : Nat} (hj : j < l.length) (h40 : j < 40) : tcms (wrt (l.take (j + 1))) = tcms (wrt (l.take j)) ++ [tcm (wr1 l[j])] := by
 have h1 : (l.take (j + 1)).take 40 = l.take (j + 1) := List.take_of_length_le (by rw [List.length_take]; omega)
 have h2 : (l.take j).take 40 = l.take j := List.take_of_length_le (by rw [List.length_take]; omega)
 rw [wrt, wrt, h1, h2, take_next hj, List.map_append, tcms, List.map_append]
 rfl
theorem wrt_len (l : List TCmd) : (wrt l).length = min 40 l.length := by simp [wrt]
theorem writ_l {h0 : Heap} {k : Nat} {l : List TCmd} (hl : l.length < 2 ^ 62) (hops : ∀ x ∈ l, x.ops.length < 2 ^ 62) {B : Nat} {Q : AX → Env → Heap → Prop} (hQ : ∀ e' h' v, GR 6 h0.next h' v (tcms (wrt l)) → Fr h0 h' [] → Tr.get e' 3 = some v → Q (.exit 0) e' h') :
  ∀ (m j : Nat) (h : Heap) (env : Env) (v : AV), min 40 l.length - j = m → j ≤ min 40 l.length → GR 6 h0.next h v (tcms (wrt (l.take j))) → Fr h0 h [] →
   AllAt env [(0, .fz k (tcms l)), (3, v), (4, .int .i64 ((j : Nat) : Int))] →
   VC fs ms B false (.loop L_escapementlaw28_written_0) env h Q := by
 intro m
 induction m with
 | zero =>
  intro j h env v hm hj hr fr henv
  have hjl : j = min 40 l.length := by omega
  have ht : wrt (l.take j) = wrt l := by
   unfold wrt
   rw [hjl, List.take_take]
   congr 1
   rw [show min 40 (min 40 l.length) = min 40 l.length by omega, ← List.take_take]
   simp
  rw [ht] at hr
  generalize hJ : ((j : Nat) : Int) = J at henv
  refine vc_slots 5 _ henv ?_
  refine vc_loopV (vpC_sound (z := true) ?_)
  set_option smartUnfolding false in conv => whnf
  refine br (fun hc => ?_) (fun hc => ?_) <;> (try rw [hc]) <;> (set_option smartUnfolding false in conv => whnf)
  ·have hc1 : j < l.length := by have := of_decide_eq_true hc; rw [len_tcms] at this; omega
   refine brf (by simp; omega) (fun hc => ?_)
   (try rw [hc])
   set_option smartUnfolding false in conv => whnf
   exact hQ _ h v hr fr rfl
  ·exact hQ _ h v hr fr rfl
 | succ m ih =>
  intro j h env v hm hj hr fr henv
  have hlt : j < l.length := by omega
  have h40 : j < 40 := by omega
  have hix := idx_tcm (k := k) hlt
  have hox := hops _ (List.getElem_mem hlt)
  have hnx := wrt_next hlt h40
  have hwl := wrt_len (l.take j)
  generalize hX : l[j] = x at *
  generalize hJ : ((j : Nat) : Int) = J at henv hix
  refine vc_slots 6 _ henv ?_
  refine vc_loopV (vc_seq true ?_)
  set_option smartUnfolding false in conv => whnf
  refine brt (by simp [len_tcms]; omega) (fun hc => ?_)
  (try rw [hc])
  set_option smartUnfolding false in conv => whnf
  refine brt (by simp; omega) (fun hc => ?_)
  (try rw [hc])
  set_option smartUnfolding false in conv => whnf
  refine vc_seqV (vc_block (vc_seq true ?_))
  set_option smartUnfolding false in conv => whnf
  refine ⟨_, hix, ?_⟩
  set_option smartUnfolding false in conv => whnf
  refine ⟨tcm x, rfl, ?_⟩
  set_option smartUnfolding false in conv => whnf
  refine eff_o (sto_o get_new_same rfl (Nat.le_refl _) rfl) fun h1 e1 => ?_
  have f1 : Fr h h1 [] := by rw [e1]; exact ((Fr.refl h []).new).setn (Nat.le_refl _)
  have g1 : h1.get h.next = some (.cells (tcm x).cells true 0) := by rw [e1, get_set_same]; rfl
  clear e1
  set_option smartUnfolding false in conv => whnf
  refine vc_frz [h.next] (i := 5) (v := .ptr h.next 0) (v' := .fp (tcm x).cells 0) rfl (.ptr' (by simp) g1 (.clean (cells_cl (cl_tcm x)))) ?_
  have frn := fr.next
  have fr2 : Fr h0 (delAll [h.next] h1) [] := fr_delB (by simp; omega) (fr.trans f1)
  have hr2 : GR 6 h0.next (delAll [h.next] h1) v (tcms (wrt (l.take j))) := by
   rcases hr with h | ⟨hne, b, b1, b2, b3, b4⟩
   ·exact .inl h
   ·exact .inr ⟨hne, b, b1, by rw [delAll_next]; exact Nat.lt_of_lt_of_le b2 f1.next, b3, (delAll_get ..).trans ((if_neg (by simp; omega)).trans ((f1.keep b b2 (by simp)).trans b4))⟩
  generalize delAll [h.next] h1 = H at *
  refine vc_slots 6 [(0, .fz k (tcms l)), (3, v), (4, .int .i64 J), (5, .fp (tcm x).cells 0)] ⟨rfl, rfl, rfl, by rw [Tr.get_set, if_pos rfl], trivial⟩ ?_
  refine vc_seq true ?_
  set_option smartUnfolding false in conv => whnf
  refine ⟨.int .i64 x.k, rfl, ?_⟩
  set_option smartUnfolding false in conv => whnf
  refine vd_pure (bringM_c _) ?_
  set_option smartUnfolding false in conv => whnf
  refine ⟨.int .i64 x.p, rfl, ?_⟩
  set_option smartUnfolding false in conv => whnf
  refine vd_pure (bringM_c _) ?_
  set_option smartUnfolding false in conv => whnf
  refine ⟨.int .i64 x.t, rfl, ?_⟩
  set_option smartUnfolding false in conv => whnf
  refine vd_pure (bringM_c _) ?_
  set_option smartUnfolding false in conv => whnf
  refine ⟨.int .i64 x.n, rfl, ?_⟩
  set_option smartUnfolding false in conv => whnf
  refine vd_pure (bringM_c _) ?_
  set_option smartUnfolding false in conv => whnf
  refine ⟨.int .i64 x.m, rfl, ?_⟩
  set_option smartUnfolding false in conv => whnf
  refine vd_pure (bringM_c _) ?_
  set_option smartUnfolding false in conv => whnf
  refine eff_o (sto_o get_new_same rfl (Nat.le_refl _) rfl) fun h3 e3 => ?_
  have f3 : Fr H h3 [] := by rw [e3]; exact ((Fr.refl H []).new).setn (Nat.le_refl _)
  have gP : h3.get H.next = some (.cells [.int .i64 (brM x.k), .int .i64 (brM x.p), .int .i64 (brM x.t), .int .i64 (brM x.n), .int .i64 (brM x.m), .nils] true 0) := by rw [e3, get_set_same]; rfl
  have n3 : h3.next = H.next + 1 := by rw [e3]; rfl
  set_option smartUnfolding false in conv => whnf
  refine ⟨winOk_of (by (set_option smartUnfolding false in conv => whnf); repeat' (first | exact trivial | (exact ⟨rfl, rfl, .inr ⟨_, _, rfl⟩⟩) | (refine ⟨rfl, rfl, .inl ⟨rfl, fun o ho => ?_⟩⟩; cases ho; first | rfl) | (exact ⟨rfl, .inr ⟨_, _, rfl⟩⟩) | (refine ⟨rfl, .inl ⟨rfl, fun i o hi ho => ?_⟩⟩; cases hi; cases ho; first | rfl) | (refine And.intro (fun hon => (Bool.false_ne_true hon).elim) ?_ <;> set_option smartUnfolding false in conv => whnf) | (refine And.intro (fun _ => ?_) ?_ <;> set_option smartUnfolding false in conv => whnf) | (refine And.intro ?_ ?_ <;> set_option smartUnfolding false in conv => whnf))), ?_⟩
  set_option smartUnfolding false in conv => whnf
  clear e3
  refine vc_seqV (vc_seq true ?_)
  set_option smartUnfolding false in conv => whnf
  refine vc_block ?_
  refine wo_l (hb := h3) (P := H.next) (x := x) (a0 := .fz k (tcms l)) (a3 := v) (a4 := .int .i64 J) (by omega) hox ?_ (min 32 x.ops.length) 0 h3 _ .nils rfl (Nat.zero_le _) ⟨Fr.refl h3 _, gP, .inl ⟨rfl, rfl⟩⟩ ⟨rfl, rfl, rfl, rfl, rfl, rfl, trivial⟩
  intro e' h4 w ⟨f4, gP4, gr4⟩ ha
  show VC fs ms _ false _ _ _ _
  obtain ⟨bs, hf, hbs⟩ := gr4.frz (size_tops _) (cl_tops _)
  rw [len_tops] at hf
  refine vc_frz (H.next :: bs) (i := 6) (v := .ptr H.next 0) (v' := .fp (tcm (wr1 x)).cells 0) ha.2.2.2.1 (.ptr' (by simp) gP4 (.cons (.clean rfl) (.cons (.clean rfl) (.cons (.clean rfl) (.cons (.clean rfl) (.cons (.clean rfl) (.cons (Frz.mono (by simp; intro b hb; exact .inr hb) hf) .nil))))))) ?_
  have hge : ∀ b ∈ H.next :: bs, H.next ≤ b := by
   intro b hb
   rcases List.mem_cons.1 hb with rfl | hb
   ·exact Nat.le_refl _
   ·have := hbs b hb; omega
  have fr5 : Fr h0 (delAll (H.next :: bs) h4) [] := fr_delB (fun b hb => by have := hge b hb; have := fr2.next; omega) ⟨by have := fr2.next; have := f4.next; omega, fun c hc _ => (f4.keep c (by have := fr2.next; omega) (by have := fr2.next; simp; omega)).trans ((f3.keep c (by have := fr2.next; omega) (by simp)).trans (fr2.keep c hc (by simp)))⟩
  have hr5 : GR 6 h0.next (delAll (H.next :: bs) h4) v (tcms (wrt (l.take j))) := by
   rcases hr2 with h | ⟨hne, b, b1, b2, b3, b4⟩
   ·exact .inl h
   ·exact .inr ⟨hne, b, b1, by rw [delAll_next]; have := f4.next; omega, b3, (delAll_get ..).trans ((if_neg (fun hb => by have := hge b hb; omega)).trans ((f4.keep b (by omega) (by simp; omega)).trans ((f3.keep b b2 (by simp)).trans b4)))⟩
  generalize delAll (H.next :: bs) h4 = G at *
  refine vc_slots 6 [(0, .fz k (tcms l)), (3, v), (4, .int .i64 J), (6, .fp (tcm (wr1 x)).cells 0)] ⟨by rw [Tr.get_set, if_neg (by decide)]; exact ha.1, by rw [Tr.get_set, if_neg (by decide)]; exact ha.2.1, by rw [Tr.get_set, if_neg (by decide)]; exact ha.2.2.1, by rw [Tr.get_set, if_pos rfl], trivial⟩ ?_
  refine vpC_sound (z := true) ?_
  set_option smartUnfolding false in conv => whnf
  refine ⟨tcm (wr1 x), rfl, ?_⟩
  set_option smartUnfolding false in conv => whnf
  have htl : (l.take j).length ≤ 40 := by rw [List.length_take]; omega
  obtain ⟨v', g', ha2, gr6, hn6, hk6⟩ := GR.app (bytes := 64) hr5 fr5.next (x := tcm (wr1 x)) rfl rfl (size_tcms _) (by rw [len_tcms, hwl]; omega) (by rw [len_tcms, hwl]; omega)
  refine ⟨_, _, ha2, ?_⟩
  set_option smartUnfolding false in conv => whnf
  refine vpC_sound (z := true) ?_
  set_option smartUnfolding false in conv => whnf
  subst hJ
  refine ih (j + 1) g' _ v' (by omega) (by omega) (by rw [hnx]; exact gr6) (fr5.app hn6 (fun c hc => hk6 c hc)) ⟨rfl, rfl, inc_slot (by omega), trivial⟩
theorem writ_c {k : Nat} {l : List TCmd} (hl : l.length < 2 ^ 62) (hops : ∀ x ∈ l, x.ops.length < 2 ^ 62) {h : Heap} {Q : AV → Heap → Prop} (hQ : ∀ h', Fr h h' [] → Q (.fz (growK (wrt l).length) (tcms (wrt l))) h') : VD fs ms f_escapementlaw28_written [.fz k (tcms l)] h Q := by
 refine vd_frzR ?_
 refine vd_begin (af := C_escapementlaw28_written) rfl (yB rfl) ?_
 set_option smartUnfolding false in conv => whnf
 refine vc_seq true ?_
 set_option smartUnfolding false in conv => whnf
 refine vc_seq true ?_
 set_option smartUnfolding false in conv => whnf
 refine vc_seqV (vc_seq true ?_)
 set_option smartUnfolding false in conv => whnf
 refine vc_block ?_
 refine writ_l (h0 := h) hl hops ?_ (min 40 l.length) 0 h _ .nils rfl (Nat.zero_le _) (.inl ⟨by simp [wrt, tcms], rfl⟩) (Fr.refl _ _) ⟨rfl, rfl, rfl, trivial⟩
 intro e' h' v hr fr h3
 show VC fs ms h.next false _ _ _ _
 refine vc_slots 3 [(3, v)] ⟨h3, trivial⟩ (vpC_sound (z := true) ?_)
 set_option smartUnfolding false in conv => whnf
 obtain ⟨bs, hf, hbs⟩ := hr.frz (size_tcms _) (cl_tcms _)
 rw [len_tcms] at hf
 exact ⟨bs, _, hf, hQ _ (fr_delB hbs fr)⟩
theorem stepV_eq {v c : Int} (hv : 0 ≤ v) (hv2 : v < 2 ^ 56) (hc : 0 ≤ c) (hc2 : c < 256) : stepV v c = v * 256 + c := by
 obtain ⟨a, rfl⟩ := Int.eq_ofNat_of_zero_le hv
 obtain ⟨b, rfl⟩ := Int.eq_ofNat_of_zero_le hc
 have ha : a < 2 ^ 56 := by omega
 have hb : b < 2 ^ 8 := by omega
 unfold stepV
 rw [u64_wrap, u64_wrap, u64_wrap]
 rw [show ((a : Int) * 2 ^ 8) % 18446744073709551616 = ((a * 256 : Nat) : Int) by omega, show (b : Int) % 18446744073709551616 = ((b : Nat) : Int) by omega]
 rw [BitVec.ofInt_natCast, BitVec.ofInt_natCast]
 rw [BitVec.toNat_or, BitVec.toNat_ofNat, BitVec.toNat_ofNat, Nat.mod_eq_of_lt (by omega), Nat.mod_eq_of_lt (by omega)]
 have := Nat.shiftLeft_add_eq_or_of_lt hb a
 rw [Nat.shiftLeft_eq] at this
 rw [show a * 256 = a * 2 ^ 8 by omega, ← this]
 omega
theorem w8_mod {n : Int} : w8 n = n % 256 := by simp [w8, IntKind.wrap, IntKind.signed, IntKind.bits]
theorem val8_hi {n : Int} (h1 : 255 ≤ n) (h2 : n ≤ 9007199254740991) : ∀ d : Nat, d ≤ 8 → (hi8 n (8 - d)).foldl stepV ((n - 254) / 2 ^ (8 * d)) = n - 254
 | 0, _ => by simp [hi8]
 | d + 1, hd => by
  have ih := val8_hi h1 h2 d (by omega)
  rw [hi8_next (by omega), List.foldl_cons, show 8 - (d + 1) + 1 = 8 - d by omega, show 56 - 8 * (8 - (d + 1)) = 8 * d by omega]
  have e : stepV ((n - 254) / 2 ^ (8 * (d + 1))) (w8 ((n - 254).fdiv (2 ^ (8 * d)))) = (n - 254) / 2 ^ (8 * d) := by
   have hp : (0 : Int) < 2 ^ (8 * d) := Int.pow_pos (by decide)
   rw [Int.fdiv_eq_ediv_of_nonneg _ (by omega), w8_mod]
   have hq : (n - 254) / 2 ^ (8 * (d + 1)) = ((n - 254) / 2 ^ (8 * d)) / 256 := by
    rw [Int.ediv_ediv_of_nonneg (by omega), show 8 * (d + 1) = 8 * d + 8 by omega, Int.pow_add]
    rfl
   have hle : (n - 254) / 2 ^ (8 * d) ≤ n - 254 := Int.ediv_le_self _ (by omega)
   have hge : 0 ≤ (n - 254) / 2 ^ (8 * d) := Int.ediv_nonneg (by omega) (by omega)
   rw [hq]
   generalize (n - 254) / 2 ^ (8 * d) = q at *
   rw [stepV_eq (by omega) (by omega) (by omega) (by omega)]
   omega
  rw [e]
  exact ih
theorem rN_put {n most : Int} {r : List Int} (h0 : 0 ≤ n) (h1 : n ≤ most) (h2 : n ≤ 9007199254740991) : rN most (put1 n ++ r) = (0, n, (put1 n).length) := by
 unfold put1
 by_cases h : n < 255
 ·rw [if_pos h, w8_mod]
  show (if n % 256 = 255 then _ else if n % 256 > most then _ else _) = _
  rw [show n % 256 = n by omega, if_neg (by omega), if_neg (by omega)]
  rfl
 ·rw [if_neg h]
  have hl := hi8_len n
  have hv : val8 (hi8 n 0) = n - 254 := by
   have := val8_hi (n := n) (by omega) h2 8 (Nat.le_refl _)
   rw [show (n - 254) / 2 ^ (8 * 8) = 0 from Int.ediv_eq_zero_of_lt (by omega) (by omega)] at this
   exact this
  have ht : (hi8 n 0 ++ r).take 8 = hi8 n 0 := by rw [← hl, List.take_left']; rfl
  rw [List.cons_append]
  unfold rN
  dsimp only
  rw [if_pos rfl, ht, hv, if_neg (by simp [hl]), if_neg (by omega), if_neg (by omega)]
  simp [hl]
  omega
theorem numS_put {n most : Int} {r : List Int} (h0 : 0 ≤ n) (h1 : n ≤ most) (h2 : n ≤ 9007199254740991) : numS most (put1 n ++ r, 0) = (n, r, 0) := by
 unfold numS
 rw [if_neg (by simp), rN_put h0 h1 h2, if_neg (by simp), List.drop_left']
 rfl
def okN (n : Int) : Prop := 0 ≤ n ∧ n ≤ 9007199254740991
theorem puts_cons (n : Int) (l : List Int) : puts (n :: l) = put1 n ++ puts l := List.flatMap_cons ..
theorem puts_one (n : Int) : puts [n] = put1 n := by rw [puts_cons]; simp [puts]
theorem rdN_puts {l r : List Int} (hl : ∀ n ∈ l, okN n) : ∀ j, j ≤ l.length → rdN j (puts l ++ r, 0) = (l.take j, puts (l.drop j) ++ r, 0)
 | 0, _ => by simp [rdN]
 | j + 1, hj => by
  have ih := rdN_puts (r := r) hl j (by omega)
  have hlt : j < l.length := by omega
  have hn := hl _ (List.getElem_mem hlt)
  unfold rdN
  rw [ih, List.drop_eq_getElem_cons hlt, puts_cons, List.append_assoc, numS_put hn.1 hn.2 hn.2, take_next hlt]
theorem bytS_str (s : List UInt8) : bytS (strB s) = s := by
 simp [bytS, strB, Function.comp_def]
theorem textS_txt {s : List UInt8} {r : List Int} (h : s.length ≤ 16) : textS 16 (txt s ++ r, 0) = (s, r, 0) := by
 have hn : numS 16 (txt s ++ r, 0) = ((s.length : Int), strB s ++ r, 0) := by
  rw [txt, puts_one, List.append_assoc, numS_put (by omega) (by omega) (by omega)]
 have hl := strB_len s
 unfold textS
 rw [hn]
 rw [if_neg (by simp), if_neg (by simp [hl]; omega)]
 simp only [Int.toNat_natCast]
 rw [List.take_left' hl, List.drop_left' hl, bytS_str]
structure okO (o : TOp) : Prop where
 k : okN o.k
 n : okN o.n
 s : o.s.length ≤ 16
theorem opS_op {o : TOp} {r : List Int} (h : okO o) : opS (opB o ++ r, 0) = (o, r, 0) := by
 have h1 : numS MX (opB o ++ r, 0) = (o.k, put1 o.n ++ (txt o.s ++ r), 0) := by
  rw [opB, puts_cons, puts_one, List.append_assoc, List.append_assoc, numS_put h.k.1 h.k.2 h.k.2]
 have h2 : numS MX (put1 o.n ++ (txt o.s ++ r), 0) = (o.n, txt o.s ++ r, 0) := numS_put h.n.1 h.n.2 h.n.2
 unfold opS
 rw [h1]
 simp only
 rw [h2]
 simp only
 rw [textS_txt h.s]
theorem opsB_cons (o : TOp) (l : List TOp) : opsB (o :: l) = opB o ++ opsB l := List.flatMap_cons ..
theorem opsN_ops {l : List TOp} {r : List Int} (hl : ∀ o ∈ l, okO o) : ∀ j, j ≤ l.length → opsN j (opsB l ++ r, 0) = (l.take j, opsB (l.drop j) ++ r, 0)
 | 0, _ => by simp [opsN]
 | j + 1, hj => by
  have ih := opsN_ops (r := r) hl j (by omega)
  have hlt : j < l.length := by omega
  have ho := hl _ (List.getElem_mem hlt)
  unfold opsN
  rw [ih, List.drop_eq_getElem_cons hlt, opsB_cons, List.append_assoc, opS_op ho, take_next hlt]
structure okC (x : TCmd) : Prop where
 n : ∀ n ∈ nums x, okN n
 l : x.ops.length ≤ 32
 o : ∀ o ∈ x.ops, okO o
 k : x.kk = growK x.ops.length
theorem ent_back {x : TCmd} (h : okC x) : entR (entB x) = (x, 0) := by
 have h5 : rdN 5 (entB x, 0) = (nums x, put1 (x.ops.length : Int) ++ opsB x.ops, 0) := by
  have := rdN_puts (r := put1 (x.ops.length : Int) ++ opsB x.ops) h.n 5 (Nat.le_refl _)
  rw [entB, puts_one, List.append_assoc, this]
  simp [nums, puts]
 have hl := h.l
 have hm : manyS (entB x) = ((x.ops.length : Int), opsB x.ops, 0) := by
  unfold manyS
  rw [h5, numS_put (by omega) (by omega) (by omega)]
 have hf : finS (entB x) = (x.ops, [], 0) := by
  unfold finS
  rw [hm]
  have := opsN_ops (r := []) h.o x.ops.length (Nat.le_refl _)
  simp only [Int.toNat_natCast]
  rw [List.append_nil] at this
  rw [this]
  simp [opsB]
 have he : readE (entB x) = 0 := by
  unfold readE
  rw [hf]
  rfl
 unfold entR resO nmR
 rw [he, if_pos rfl, if_pos rfl, h5, hf, ← h.k]
 rfl
theorem bytB_cons (x : TCmd) (l : List TCmd) : bytB (x :: l) = put1 ((entB x).length : Int) ++ (entB x ++ bytB l) := by
 rw [bytB, List.flatMap_cons, puts_one, List.append_assoc]
 rfl
theorem par_back : ∀ (m : Nat) (l : List TCmd) (A : List (TCmd × Int)), (∀ x ∈ l, okC x ∧ (entB x).length ≤ 4096) → (bytB l).length ≤ m → parN m (bytB l) A = (A ++ l.map fun x => (x, 0), 0)
 | m, [], A, _, _ => by cases m <;> simp [parN, bytB]
 | 0, x :: l, A, h, hm => by
  rw [bytB_cons] at hm
  have : 1 ≤ (put1 ((entB x).length : Int)).length := by unfold put1; split <;> simp
  simp only [List.length_append] at hm
  omega
 | m + 1, x :: l, A, h, hm => by
  obtain ⟨hc, hl⟩ := h x (by simp)
  have ih := par_back m l (A ++ [(x, 0)]) (fun y hy => h y (by simp [hy]))
  have h1 : 1 ≤ (put1 ((entB x).length : Int)).length := by unfold put1; split <;> simp
  rw [bytB_cons] at hm ⊢
  have hn : numS 4096 (put1 ((entB x).length : Int) ++ (entB x ++ bytB l), 0) = (((entB x).length : Int), entB x ++ bytB l, 0) := numS_put (by omega) (by omega) (by omega)
  simp only [List.length_append] at hm
  unfold parN
  rw [if_neg (fun hh => by have := congrArg List.length hh; simp only [List.length_append, List.length_nil] at this; omega), hn, if_neg (by simp), if_neg (by simp; omega)]
  simp only [Int.toNat_natCast]
  rw [List.take_left', List.drop_left', ent_back hc, ih (by omega)]
  ·simp
  ·rfl
  ·rfl
theorem par_all {l : List TCmd} (h : ∀ x ∈ l, okC x ∧ (entB x).length ≤ 4096) : par (bytB l) = (l.map fun x => (x, 0), 0) := by
 have := par_back (bytB l).length l [] h (Nat.le_refl _)
 rwa [List.nil_append] at this
theorem goodR_all (l : List TCmd) : goodR (l.map fun x => (x, 0)) = l := by
 rw [goodR, List.filter_eq_self.2 (by intro x hx; obtain ⟨y, _, rfl⟩ := List.mem_map.1 hx; rfl), List.map_map]
 simp [Function.comp_def]
theorem brM_ok (n : Int) : okN (brM n) ∧ badN (brM n) = false := by
 have h1 : 0 ≤ brM n := Int.emod_nonneg _ (by decide)
 have h2 : brM n < 9007199254740991 := Int.emod_lt_of_pos _ (by decide)
 refine ⟨⟨h1, by omega⟩, ?_⟩
 simp only [badN, Bool.or_eq_false_iff, decide_eq_false_iff_not]
 omega
theorem wr1_ok (x : TCmd) : okC (wr1 x) ∧ Good (wr1 x) := by
 have hl : (wr1 x).ops.length ≤ 32 := by
  show (wos (x.ops.take 32)).length ≤ 32
  rw [wos, List.length_map, List.length_take]
  omega
 have ho : ∀ o ∈ (wr1 x).ops, ∃ o1, o = wo o1 := by
  intro o ho
  obtain ⟨o1, _, rfl⟩ := List.mem_map.1 (show o ∈ (x.ops.take 32).map wo from ho)
  exact ⟨o1, rfl⟩
 have hn : ∀ n ∈ nums (wr1 x), ∃ m, n = brM m := by
  intro n hn
  simp only [nums, wr1, List.mem_cons, List.not_mem_nil, or_false] at hn
  rcases hn with rfl | rfl | rfl | rfl | rfl <;> exact ⟨_, rfl⟩
 have hs : ∀ s : List UInt8, (s.take 16).length ≤ 16 := by intro s; rw [List.length_take]; omega
 refine ⟨⟨?_, hl, ?_, rfl⟩, ⟨?_, hl, ?_⟩⟩
 ·intro n h
  obtain ⟨m, rfl⟩ := hn n h
  exact (brM_ok m).1
 ·intro o h
  obtain ⟨o1, rfl⟩ := ho o h
  exact ⟨(brM_ok _).1, (brM_ok _).1, hs _⟩
 ·intro n h
  obtain ⟨m, rfl⟩ := hn n h
  exact (brM_ok m).2
 ·intro o h
  obtain ⟨o1, rfl⟩ := ho o h
  exact ⟨(brM_ok _).2, (brM_ok _).2, hs _⟩
theorem opsE_good : ∀ {l : List TOp}, (∀ o ∈ l, opE o = 0) → opsE l = 0
 | [], _ => rfl
 | o :: l, h => by
  rw [opsE, if_pos (h o (by simp))]
  exact opsE_good (fun p hp => h p (by simp [hp]))
theorem chk_good {x : TCmd} (h : Good x) : chk x = 0 := by
 have hn := h.hn
 simp only [nums, List.mem_cons, List.not_mem_nil, or_false, forall_eq_or_imp, forall_eq] at hn
 obtain ⟨h1, h2, h3, h4, h5⟩ := hn
 unfold chk
 rw [h1, h2, h3, h4, h5, if_neg (by decide), if_neg (by have := h.hl; omega)]
 refine opsE_good fun o ho => ?_
 obtain ⟨a, b, c⟩ := h.ho o ho
 unfold opE
 rw [a, b, if_neg (by decide), if_neg (by omega)]
theorem errL_good : ∀ {l : List TCmd}, (∀ x ∈ l, chk x = 0) → errL l = 0
 | [], _ => rfl
 | x :: l, h => by
  rw [errL, if_pos (h x (by simp))]
  exact errL_good (fun y hy => h y (by simp [hy]))
theorem okB_app {l m : List Int} (h : okB l) (h' : okB m) : okB (l ++ m) := by
 intro n hn
 rcases List.mem_append.1 hn with hn | hn
 ·exact h n hn
 ·exact h' n hn
theorem okB_put (n : Int) : okB (put1 n) := by
 unfold put1
 split
 ·intro m hm
  simp only [List.mem_cons, List.not_mem_nil, or_false] at hm
  subst hm
  rw [w8_mod]
  omega
 ·intro m hm
  rcases List.mem_cons.1 hm with rfl | hm
  ·omega
  ·obtain ⟨i, _, rfl⟩ := List.mem_map.1 hm
   rw [w8_mod]
   omega
theorem okB_flat {α : Type} {f : α → List Int} {l : List α} (h : ∀ x ∈ l, okB (f x)) : okB (l.flatMap f) := by
 intro n hn
 obtain ⟨x, hx, hn⟩ := List.mem_flatMap.1 hn
 exact h x hx n hn
theorem okB_puts (l : List Int) : okB (puts l) := okB_flat fun n _ => okB_put n
theorem okB_str (s : List UInt8) : okB (strB s) := by
 intro n hn
 obtain ⟨b, _, rfl⟩ := List.mem_map.1 hn
 have := b.toNat_lt
 omega
theorem okB_ent (x : TCmd) : okB (entB x) := okB_app (okB_app (okB_puts _) (okB_puts _)) (okB_flat fun o _ => okB_app (okB_puts _) (okB_app (okB_puts _) (okB_str _)))
theorem okB_byt (l : List TCmd) : okB (bytB l) := okB_flat fun x _ => okB_app (okB_puts _) (okB_ent x)
theorem parseF_c {I : Nat} {L X : List Int} {v : AV} {h : Heap} (hs : SvP h I L v X) (hl : X.length ≤ 100000) {Q : AV → Heap → Prop} (hQ : ∀ h', Fr h h' [] → Q (.tup [.fz (growK (par X).1.length) (tens (par X).1), .int .i64 (par X).2]) h') : VD fs ms f_tape_Parse [v] h Q := by
 refine vd_frzR (parse_c hs hl fun w h' gr fr => ?_)
 obtain ⟨bs, hf, hb⟩ := gr.frz (size_tens _) (cl_tens _)
 rw [len_tens] at hf
 exact ⟨bs, _, .tup' (.cons hf (.cons (.clean rfl) .nil)), hQ _ (fr_delB hb fr)⟩
theorem goodF_c {k : Nat} {A : List (TCmd × Int)} (hl : A.length ≤ 100000) (hA : ∀ x ∈ A, KindR x) {h : Heap} {Q : AV → Heap → Prop} (hQ : ∀ h', Fr h h' [] → Q (.fz (growK (goodR A).length) (tcms (goodR A))) h') : VD fs ms f_tape_Good [.fz k (tens A)] h Q := by
 refine vd_frzR (good_c hl hA fun w h' gr fr => ?_)
 obtain ⟨bs, hf, hb⟩ := gr.frz (size_tcms _) (cl_tcms _)
 rw [len_tcms] at hf
 exact ⟨bs, _, hf, hQ _ (fr_delB hb fr)⟩
theorem back_l {k1 k2 k3 : Nat} {W : List TCmd} (hW : ∀ x ∈ W, okC x ∧ Good x) (hl : W.length ≤ 40) {B : Nat} {Q : AX → Env → Heap → Prop} {h : Heap} (hQ : ∀ e', Q (.exit 0) e' h) :
  ∀ (m j : Nat) (env : Env), W.length - j = m → j ≤ W.length → AllAt env [(0, .fz k1 (tcms W)), (5, .fz k2 (tens (W.map fun x => (x, 0)))), (7, .fz k3 (tcms W)), (8, .int .i64 ((j : Nat) : Int))] → VC fs ms B false (.loop L_escapementlaw28_TapeBack_0) env h Q := by
 intro m
 induction m with
 | zero =>
  intro j env hm hj henv
  have hjl : j = W.length := by omega
  subst hjl
  refine vc_slots 5 _ henv ?_
  refine vc_loopV (vpC_sound (z := true) ?_)
  set_option smartUnfolding false in conv => whnf
  refine brf (by simp [len_tcms]) (fun hc => ?_)
  (try rw [hc])
  set_option smartUnfolding false in conv => whnf
  exact hQ _
 | succ m ih =>
  intro j env hm hj henv
  have hlt : j < W.length := by omega
  have hi1 := idx_tcm (k := k1) hlt
  have hi3 := idx_tcm (k := k3) hlt
  have hi2 := idx_ten (k := k2) (l := W.map fun x => (x, 0)) (j := j) (by simpa using hlt)
  rw [List.getElem_map] at hi2
  obtain ⟨hc1, hc2⟩ := hW _ (List.getElem_mem hlt)
  have hcl : W[j].ops.length < 2 ^ 62 := by have := hc1.l; omega
  generalize hX : W[j] = x at *
  refine vc_slots 5 _ henv ?_
  refine vc_loopV (vc_seq true ?_)
  set_option smartUnfolding false in conv => whnf
  refine brt (by simp [len_tcms]; omega) (fun hc => ?_)
  (try rw [hc])
  set_option smartUnfolding false in conv => whnf
  refine vc_seqV (vc_block (vc_seq true ?_))
  set_option smartUnfolding false in conv => whnf
  refine ⟨_, hi2, ?_⟩
  set_option smartUnfolding false in conv => whnf
  refine ⟨.int .i64 0, rfl, ?_⟩
  set_option smartUnfolding false in conv => whnf
  refine ⟨_, hi2, ?_⟩
  set_option smartUnfolding false in conv => whnf
  refine ⟨tcm x, rfl, ?_⟩
  set_option smartUnfolding false in conv => whnf
  refine ⟨_, hi1, ?_⟩
  set_option smartUnfolding false in conv => whnf
  refine ⟨tcm x, rfl, ?_⟩
  set_option smartUnfolding false in conv => whnf
  refine vd_pure (same_c x hcl) ?_
  set_option smartUnfolding false in conv => whnf
  refine ⟨_, hi3, ?_⟩
  set_option smartUnfolding false in conv => whnf
  refine ⟨tcm x, rfl, ?_⟩
  set_option smartUnfolding false in conv => whnf
  refine ⟨_, hi1, ?_⟩
  set_option smartUnfolding false in conv => whnf
  refine ⟨tcm x, rfl, ?_⟩
  set_option smartUnfolding false in conv => whnf
  refine vd_pure (same_c x hcl) ?_
  set_option smartUnfolding false in conv => whnf
  refine ⟨_, hi1, ?_⟩
  set_option smartUnfolding false in conv => whnf
  refine ⟨tcm x, rfl, ?_⟩
  set_option smartUnfolding false in conv => whnf
  refine vd_pure (v := .int .i64 0) (by have := chk_c x hcl; rw [chk_good hc2] at this; exact this) ?_
  set_option smartUnfolding false in conv => whnf
  refine vpC_sound (z := true) ?_
  set_option smartUnfolding false in conv => whnf
  refine vpC_sound (z := true) ?_
  set_option smartUnfolding false in conv => whnf
  refine ih (j + 1) _ (by omega) (by omega) ⟨rfl, rfl, rfl, inc_slot (by omega), trivial⟩
theorem tapeBack_c (hw : PC fs ms f_escapementlaw28_works [] (.bool true)) (k : Nat) (l : List TCmd) (hl : l.length < 2 ^ 62) (hops : ∀ x ∈ l, x.ops.length < 2 ^ 62) : PC fs ms f_escapementlaw28_TapeBack [.fz k (tcms l)] (.bool true) := by
 refine pc_of (by simp [clL, AV.cl, cl_tcms]) rfl ?_
 refine vd_begin (af := C_escapementlaw28_TapeBack) rfl (yB rfl) ?_
 generalize hQ : (fun (v : AV) (_ : Heap) => v = .bool true) = Q
 have hWk : ∀ x ∈ wrt l, okC x ∧ Good x := by
  intro x hx
  obtain ⟨y, _, rfl⟩ := List.mem_map.1 hx
  exact wr1_ok y
 have hWl : (wrt l).length ≤ 40 := by rw [wrt_len]; omega
 have hch : ∀ x ∈ wrt l, chk x = 0 := fun x hx => chk_good (hWk x hx).2
 have hWo : ∀ x ∈ wrt l, x.ops.length < 2 ^ 62 := fun x hx => by have := (hWk x hx).1.l; omega
 have hbl := bytB_len hch
 set_option smartUnfolding false in conv => whnf
 refine vc_seq true ?_
 set_option smartUnfolding false in conv => whnf
 refine vc_seq true ?_
 set_option smartUnfolding false in conv => whnf
 refine writ_c hl hops fun h1 fr1 => ?_
 generalize hWW : wrt l = W at *
 set_option smartUnfolding false in conv => whnf
 refine vc_seq true ?_
 set_option smartUnfolding false in conv => whnf
 refine bytes_c _ W hWl hWo fun v h2 br2 fr2 => ?_
 rw [errL_good hch]
 rw [show bytR W = bytB W from if_pos (errL_good hch)] at br2
 set_option smartUnfolding false in conv => whnf
 obtain ⟨I, hI, sv, hg⟩ := br2.sv
 refine vc_seq true ?_
 set_option smartUnfolding false in conv => whnf
 refine parseF_c (I := I) (L := bytB W) ⟨sv, hg, okB_byt W, by omega⟩ (by omega) fun h3 fr3 => ?_
 rw [par_all (fun x hx => ⟨(hWk x hx).1, by have := entB_len (hWk x hx).2; omega⟩)]
 set_option smartUnfolding false in conv => whnf
 refine vc_seq true ?_
 set_option smartUnfolding false in conv => whnf
 refine goodF_c (by simpa using Nat.le_trans hWl (by omega)) (fun x hx => by
  obtain ⟨y, hy, rfl⟩ := List.mem_map.1 hx
  exact ⟨(hWk y hy).1.k, by have := (hWk y hy).1.l; show y.ops.length ≤ _; omega⟩) fun h4 fr4 => ?_
 rw [goodR_all]
 set_option smartUnfolding false in conv => whnf
 obtain ⟨E, hE⟩ : ∃ E, E = W.map fun x => (x, (0 : Int)) := ⟨_, rfl⟩
 have hEl : E.length = W.length := by rw [hE, List.length_map]
 show VC fs ms _ _ _ _ _ _
 refine vc_slots 5 [(0, .fz (growK W.length) (tcms W)), (4, .int .i64 0), (5, .fz (growK E.length) (tens E)), (6, .int .i64 0), (7, .fz (growK W.length) (tcms W))] ⟨rfl, rfl, by rw [hE]; rfl, rfl, rfl, trivial⟩ ?_
 refine vc_seqV (vc_seq true ?_)
 set_option smartUnfolding false in conv => whnf
 refine brf (by rw [len_tens, len_tcms, hEl]; exact bne_same _) (fun hc => ?_)
 (try rw [hc])
 set_option smartUnfolding false in conv => whnf
 refine vc_condV ?_
 set_option smartUnfolding false in conv => whnf
 refine brf (by exact bne_same _) (fun hc => ?_)
 (try rw [hc])
 set_option smartUnfolding false in conv => whnf
 refine vpC_sound (z := true) ?_
 set_option smartUnfolding false in conv => whnf
 refine vc_seqV (vc_seq true ?_)
 set_option smartUnfolding false in conv => whnf
 refine vc_block ?_
 refine back_l (k1 := growK W.length) (k2 := growK E.length) (k3 := growK W.length) hWk hWl ?_ W.length 0 _ rfl (Nat.zero_le _) ⟨rfl, by rw [← hE]; rfl, rfl, rfl, trivial⟩
 intro e'
 show VC fs ms _ false _ _ _ _
 refine vc_slots 3 [] trivial (vpC_sound (z := true) ?_)
 set_option smartUnfolding false in conv => whnf
 refine vd_pure hw ?_
 set_option smartUnfolding false in conv => whnf
 subst hQ
 rfl
end Ir
end Go.Proofs.YtmnolnoeibhjgaaGreat
