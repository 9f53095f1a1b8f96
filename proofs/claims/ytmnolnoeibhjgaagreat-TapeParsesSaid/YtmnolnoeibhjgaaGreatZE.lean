/-
  Tape: Parse. Tape: the good ones. Tape: commands that are the same; what is brought. Tape: the document's reader: numbers. Tape: the document's reader: its other methods. Tape: the document's read. Tape: the document's Parse. Tape: the document's Good and Same. Tape: the good ones, in rows that may be written. Tape: the loops of the statement TapeParses. Tape: the statement TapeParses.
-/
import Derived.Test.YtmnolnoeibhjgaaGreatZD
set_option maxRecDepth 100000
set_option linter.unusedSimpArgs false
set_option linter.unusedVariables false
namespace Go.Proofs.YtmnolnoeibhjgaaGreat
open Go Ads
namespace Ir
def ten (x : TCmd × Int) : AV := .agg [.int .i64 x.1.k, .int .i64 x.1.p, .int .i64 x.1.t, .int .i64 x.1.n, .int .i64 x.1.m, .fz x.1.kk (tops x.1.ops), .int .i64 x.2]
def tens (l : List (TCmd × Int)) : List AV := l.map ten
theorem len_tens (l : List (TCmd × Int)) : (tens l).length = l.length := List.length_map ..
theorem size_tens (l : List (TCmd × Int)) : allSize 7 (tens l) = true := allSize_map (enc := ten) (fun _ => rfl) l
theorem cl_ten (x : TCmd × Int) : (ten x).cl = true := by simp [ten, AV.cl, clL, cl_tops]
theorem cl_tens (l : List (TCmd × Int)) : clL (tens l) = true := clL_map (enc := ten) cl_ten l
theorem idx_ten {l : List (TCmd × Int)} {j k : Nat} (hj : j < l.length) : pV (.iaddrS 7) [.fz k (tens l), .int .i64 (j : Nat)] = some (.fp (ten l[j]).cells 0) := idx_map (enc := ten) hj rfl
def nmR (X : List Int) : List Int := if readE X = 0 then (rdN 5 (X, 0)).1 else []
def entR (X : List Int) : TCmd × Int := (⟨(nmR X).getD 0 0, (nmR X).getD 1 0, (nmR X).getD 2 0, (nmR X).getD 3 0, (nmR X).getD 4 0, growK (resO X).length, resO X⟩, readE X)
theorem readF_c {I : Nat} {L X : List Int} {v : AV} {h : Heap} (hs : SvP h I L v X) {Q : AV → Heap → Prop} (hQ : ∀ h', Fr h h' [] → Q (ten (entR X)) h') : VD fs ms f_tape_read [v] h Q := by
 refine vd_frzR (read_c hs fun w h' fr gr => ?_)
 by_cases hz : readE X = 0
 ·obtain ⟨bs, hf, hb⟩ := gr.frz (size_tops _) (cl_tops _)
  refine ⟨bs, ten (entR X), ?_, hQ _ (fr_delB hb fr)⟩
  rw [len_tops] at hf
  simp only [cellsR, ten, entR, nmR, if_pos hz, hz]
  exact .agg' (.cons (.clean rfl) (.cons (.clean rfl) (.cons (.clean rfl) (.cons (.clean rfl) (.cons (.clean rfl) (.cons hf (.cons (.clean rfl) .nil)))))))
 ·refine ⟨[], ten (entR X), ?_, hQ _ (fr_delB (by simp) fr)⟩
  simp only [cellsR, ten, entR, nmR, resO, if_neg hz]
  exact .agg' (.cons (.clean rfl) (.cons (.clean rfl) (.cons (.clean rfl) (.cons (.clean rfl) (.cons (.clean rfl) (.cons .nils (.cons (.clean rfl) .nil)))))))
def parN : Nat → List Int → List (TCmd × Int) → List (TCmd × Int) × Int
 | 0, _, A => (A, 0)
 | m + 1, X, A => if X = [] then (A, 0) else if (numS 4096 (X, 0)).2.2 ≠ 0 then (A, (numS 4096 (X, 0)).2.2) else if ((numS 4096 (X, 0)).2.1.length : Int) < (numS 4096 (X, 0)).1 then (A, 3) else
  parN m ((numS 4096 (X, 0)).2.1.drop (numS 4096 (X, 0)).1.toNat) (A ++ [entR ((numS 4096 (X, 0)).2.1.take (numS 4096 (X, 0)).1.toNat)])
def par (X : List Int) : List (TCmd × Int) × Int := parN X.length X []
theorem rN_pos {most : Int} {X : List Int} (h : (rN most X).1 = 0) : 1 ≤ (rN most X).2.2 := by
 cases X with
 | nil => simp [rN] at h
 | cons c r =>
  simp only [rN] at h ⊢
  by_cases h1 : c = 255
  ·rw [if_pos h1] at h ⊢
   by_cases h2 : r.length < 8
   ·rw [if_pos h2] at h; simp at h
   ·rw [if_neg h2] at h ⊢
    by_cases h3 : val8 (r.take 8) = 0 ∨ val8 (r.take 8) > 9007199254740737
    ·rw [if_pos h3] at h; simp at h
    ·rw [if_neg h3] at h ⊢
     by_cases h4 : 254 + val8 (r.take 8) > most
     ·rw [if_pos h4] at h; simp at h
     ·rw [if_neg h4]; simp
  ·rw [if_neg h1] at h ⊢
   by_cases h2 : c > most
   ·rw [if_pos h2] at h; simp at h
   ·rw [if_neg h2]; simp
theorem numS_drop {most : Int} {X : List Int} (hok : okB X) (h : (numS most (X, 0)).2.2 = 0) : (numS most (X, 0)).2.1.length < X.length ∧ X.drop (X.length - (numS most (X, 0)).2.1.length) = (numS most (X, 0)).2.1 := by
 have h2 := (rN_rng (most := most) hok).2.1
 unfold numS at h ⊢
 rw [if_neg (by simp)] at h ⊢
 by_cases he : (rN most X).1 = 0
 ·have h1 := rN_pos he
  rw [if_neg (by simpa using he)]
  refine ⟨by simp only [List.length_drop]; omega, ?_⟩
  simp only [List.length_drop]
  rw [show X.length - (X.length - (rN most X).2.2) = (rN most X).2.2 by omega]
 ·rw [if_pos he] at h
  exact absurd h he
theorem parse_l {h0 : Heap} {I : Nat} {L : List Int} (lI : L = [] ∨ I < h0.next) {B : Nat} {Q : AX → Env → Heap → Prop} : ∀ (m : Nat) (X : List Int) (A : List (TCmd × Int)) (h : Heap) (env : Env) (v w : AV), X.length ≤ m → A.length + X.length ≤ 100000 →
  SvP h I L v X → GR 7 h0.next h w (tens A) → Fr h0 h [] → AllAt env [(0, v), (2, w), (3, .int .i64 0)] →
  (∀ e' h' w', GR 7 h0.next h' w' (tens (parN m X A).1) → Fr h0 h' [] → Tr.get e' 2 = some w' → ((parN m X A).2 = 0 → Q (.exit 0) e' h') ∧ (Tr.get e' 3 = some (.int .i64 (parN m X A).2) → Q .ret e' h')) →
  VC fs ms B false (.loop L_tape_Parse_0) env h Q := by
 intro m
 induction m with
 | zero =>
  intro X A h env v w hm hb hs gr fr henv hQ
  refine vc_slots 5 _ henv ?_
  refine vc_loopV (vpC_sound (z := true) ?_)
  set_option smartUnfolding false in conv => whnf
  rw [hs.hs.len]
  set_option smartUnfolding false in conv => whnf
  refine brf (by simp; exact List.eq_nil_of_length_eq_zero (by omega)) (fun hc => ?_)
  (try rw [hc])
  set_option smartUnfolding false in conv => whnf
  exact (hQ _ _ w gr fr rfl).1 rfl
 | succ m ih =>
  intro X A h env v w hm hb hs gr fr henv hQ
  refine vc_slots 5 _ henv ?_
  by_cases hX : X = []
  ·refine vc_loopV (vpC_sound (z := true) ?_)
   set_option smartUnfolding false in conv => whnf
   rw [hs.hs.len]
   set_option smartUnfolding false in conv => whnf
   refine brf (by simp [hX]) (fun hc => ?_)
   (try rw [hc])
   set_option smartUnfolding false in conv => whnf
   have h2 : parN (m + 1) X A = (A, 0) := if_pos hX
   rw [h2] at hQ
   exact (hQ _ _ w gr fr rfl).1 rfl
  have hX1 : 0 < X.length := List.length_pos_iff.2 hX
  have hpN : parN (m + 1) X A = if (numS 4096 (X, 0)).2.2 ≠ 0 then (A, (numS 4096 (X, 0)).2.2) else if ((numS 4096 (X, 0)).2.1.length : Int) < (numS 4096 (X, 0)).1 then (A, 3) else
   parN m ((numS 4096 (X, 0)).2.1.drop (numS 4096 (X, 0)).1.toNat) (A ++ [entR ((numS 4096 (X, 0)).2.1.take (numS 4096 (X, 0)).1.toNat)]) := if_neg hX
  refine vc_loopV (vc_seq true ?_)
  set_option smartUnfolding false in conv => whnf
  rw [hs.hs.len]
  set_option smartUnfolding false in conv => whnf
  refine brt (by simp; omega) (fun hc => ?_)
  (try rw [hc])
  set_option smartUnfolding false in conv => whnf
  refine vc_block (vc_seq true ?_)
  set_option smartUnfolding false in conv => whnf
  refine read0_c hs fun h1 rd1 fr1 n1 => ?_
  set_option smartUnfolding false in conv => whnf
  refine vc_seq true ?_
  set_option smartUnfolding false in conv => whnf
  have hd := numS_drop (most := 4096) hs.ok
  have hnn := numS_nn (most := 4096) (S := (X, 0)) hs.ok
  refine num_c (by decide) rd1 fun h2 rd2 fr2 => ?_
  rw [hpN] at hQ
  clear hpN
  generalize numS 4096 (X, 0) = S at *
  have f02 : Fr h h2 [] := ⟨by have := fr2.next; omega, fun c hc _ => (fr2.keep c (by omega) (by simp; omega)).trans (fr1.keep c hc (by simp))⟩
  have gr2 := gr.keep f02 (by simp)
  have fr02 : Fr h0 h2 [] := fr.trans f02
  have hs2 := hs.keep f02 (.inr (by simp))
  set_option smartUnfolding false in conv => whnf
  refine vc_seqV (vc_seq true ?_)
  set_option smartUnfolding false in conv => whnf
  refine err_c rd2 ?_
  set_option smartUnfolding false in conv => whnf
  refine vc_seq true ?_
  set_option smartUnfolding false in conv => whnf
  refine vc_condV ?_
  set_option smartUnfolding false in conv => whnf
  refine br (fun hc => ?_) (fun hc => ?_) <;> (try rw [hc]) <;> (set_option smartUnfolding false in conv => whnf)
  ·have hne : S.2.2 ≠ 0 := by simpa using hc
   rw [if_pos hne] at hQ
   refine vpC_sound (z := true) ?_
   set_option smartUnfolding false in conv => whnf
   exact (hQ _ _ w gr2 fr02 rfl).2 rfl
  have hz : S.2.2 = 0 := by simpa using hc
  rw [if_neg (by simpa using hz)] at hQ
  obtain ⟨hd1, hd2⟩ := hd hz
  refine vpC_sound (z := true) ?_
  set_option smartUnfolding false in conv => whnf
  refine vc_seqV (vc_seq true ?_)
  set_option smartUnfolding false in conv => whnf
  refine left_c rd2 ?_
  set_option smartUnfolding false in conv => whnf
  refine vc_condV ?_
  set_option smartUnfolding false in conv => whnf
  refine br (fun hc => ?_) (fun hc => ?_) <;> (try rw [hc]) <;> (set_option smartUnfolding false in conv => whnf)
  ·have hlt : (S.2.1.length : Int) < S.1 := by simpa using hc
   rw [if_pos hlt] at hQ
   refine vpC_sound (z := true) ?_
   set_option smartUnfolding false in conv => whnf
   exact (hQ _ _ w gr2 fr02 rfl).2 rfl
  have hge : ¬ (S.2.1.length : Int) < S.1 := by simpa using hc
  rw [if_neg hge] at hQ
  refine vpC_sound (z := true) ?_
  set_option smartUnfolding false in conv => whnf
  refine vc_seq true ?_
  set_option smartUnfolding false in conv => whnf
  rw [hs2.hs.len]
  set_option smartUnfolding false in conv => whnf
  refine left_c rd2 ?_
  set_option smartUnfolding false in conv => whnf
  have hsz := hs.sz
  have hwr : IntKind.i64.wrap ((X.length : Int) - (S.2.1.length : Int)) = ((X.length - S.2.1.length : Nat) : Int) := by
   simp only [IntKind.wrap, IntKind.signed, IntKind.bits]
   simp
   omega
  rw [hwr]
  obtain ⟨v1, hp1, hs3⟩ := hs2.from (lo := X.length - S.2.1.length) (by omega)
  rw [hd2] at hs3
  refine ⟨v1, hp1, ?_⟩
  set_option smartUnfolding false in conv => whnf
  obtain ⟨n, hn⟩ := Int.eq_ofNat_of_zero_le hnn
  have hnt : S.1.toNat = n := by rw [hn]; rfl
  have hnl : n ≤ S.2.1.length := by omega
  rw [hnt] at hQ
  obtain ⟨v2, hp2, hs4⟩ := hs3.to hnl
  obtain ⟨v3, hp3, hs5⟩ := hs3.from hnl
  rw [← hn] at hp2 hp3
  refine vc_seq true ?_
  set_option smartUnfolding false in conv => whnf
  refine ⟨v2, hp2, ?_⟩
  set_option smartUnfolding false in conv => whnf
  refine readF_c hs4 fun h3 fr3 => ?_
  set_option smartUnfolding false in conv => whnf
  have fr03 : Fr h0 h3 [] := fr02.trans fr3
  have gr3 := gr2.keep fr3 (by simp)
  obtain ⟨w', g', ha, gr4, hn4, hk4⟩ := GR.app (bytes := 72) gr3 fr03.next (x := ten (entR (S.2.1.take n))) rfl rfl (size_tens A) (by rw [len_tens]; omega) (by rw [len_tens]; omega)
  refine ⟨_, _, ha, ?_⟩
  have fr4 : Fr h0 g' [] := fr03.app hn4 (fun c hc => hk4 c hc)
  have hs6 : SvP g' I L v3 (S.2.1.drop n) := by
   have h1 := (hs5.keep fr3 (.inr (by simp)))
   refine ⟨h1.hs, ?_, h1.ok, h1.sz⟩
   rcases h1.gI with h | ⟨⟨wr, es, k1⟩, k2⟩
   ·exact .inl h
   ·rcases lI with h | h
    ·exact .inl h
    ·exact .inr ⟨⟨wr, es, (hk4 I h).trans k1⟩, by omega⟩
  set_option smartUnfolding false in conv => whnf
  refine vpC_sound (z := true) ?_
  set_option smartUnfolding false in conv => whnf
  refine ⟨v3, hp3, ?_⟩
  set_option smartUnfolding false in conv => whnf
  refine ih _ (A ++ [entR (S.2.1.take n)]) g' _ v3 w' (by rw [List.length_drop]; omega) (by rw [List.length_drop]; simp; omega) hs6 (by rw [tens, List.map_append]; exact gr4) fr4 ⟨rfl, rfl, rfl, trivial⟩ hQ
theorem parse_c {I : Nat} {L X : List Int} {v : AV} {h : Heap} (hs : SvP h I L v X) (hl : X.length ≤ 100000) {Q : AV → Heap → Prop} (hQ : ∀ w h', GR 7 h.next h' w (tens (par X).1) → Fr h h' [] → Q (.tup [w, .int .i64 (par X).2]) h') : VD fs ms f_tape_Parse [v] h Q := by
 refine vd_begin (af := C_tape_Parse) rfl (yB rfl) ?_
 set_option smartUnfolding false in conv => whnf
 refine vc_seq true ?_
 set_option smartUnfolding false in conv => whnf
 refine vc_seqV ?_
 refine vc_block ?_
 refine parse_l (h0 := h) (I := I) (L := L) (hs.gI.imp id (fun h => h.2)) X.length X [] h _ v .nils (Nat.le_refl _) (by simpa using hl) hs (.inl ⟨rfl, rfl⟩) (Fr.refl h []) ⟨rfl, rfl, rfl, trivial⟩ ?_
 intro e' h' w gr fr h2
 refine ⟨fun hz => ?_, fun h3 => ?_⟩
 ·show VC fs ms h.next false _ _ _ _
  refine vc_slots 3 [(2, w)] ⟨h2, trivial⟩ (vpC_sound (z := true) ?_)
  set_option smartUnfolding false in conv => whnf
  have := hQ w h' gr fr
  rw [show (par X).2 = 0 from hz] at this
  exact this
 ·set_option smartUnfolding false in conv => whnf
  refine opt_go (v := [w, .int .i64 (par X).2]) (res_two h2 h3) ?_
  exact hQ w h' gr fr
theorem flat_tops : ∀ l : List TOp, flatL (flatCells (tops l)) = true
 | [] => rfl
 | x :: l => by
  show flatL (.int .i64 x.k :: .int .i64 x.n :: .str x.s :: flatCells (tops l)) = true
  simp only [flatL, AV.flat, cond_true]
  exact flat_tops l
def goodR (A : List (TCmd × Int)) : List TCmd := (A.filter fun x => x.2 == 0).map (·.1)
structure KindR (x : TCmd × Int) : Prop where
 k : x.1.kk = growK x.1.ops.length
 l : x.1.ops.length ≤ 100000
theorem goodR_next {A : List (TCmd × Int)} {j : Nat} (hj : j < A.length) : goodR (A.take (j + 1)) = goodR (A.take j) ++ (if A[j].2 = 0 then [A[j].1] else []) := by
 rw [take_next hj, goodR, List.filter_append, List.map_append]
 by_cases h : A[j].2 = 0
 ·simp [h, goodR]
 ·simp [h, goodR]
theorem goodR_len (A : List (TCmd × Int)) : (goodR A).length ≤ A.length := by
 rw [goodR, List.length_map]
 exact List.length_filter_le ..
theorem top_same (o : TOp) : pV (.neq (.cells [0, 0, 2])) [top o, top o] = some (.bool false) := by
 simp [pV, top, eqA, eqCells, eqOne]
theorem bne_same (a : Int) : (a != a) = false := by simp
theorem rfail_c {R : Nat} {h : Heap} {v : AV} {e n : Int} (g : h.get R = some (.cells [v, .int .i64 e] true 0)) {Q : AV → Heap → Prop} (hQ : ∀ h', h'.get R = some (.cells [.nils, .int .i64 n] true 0) → Fr h h' [R] → Q (.int .i64 0) h') : VD fs ms f_escapementref04_Reader_fail [.ptr R 0, .int .i64 n] h Q := by
 refine vd_start (af := C_escapementref04_Reader_fail) true rfl (yB rfl) ?_
 set_option smartUnfolding false in conv => whnf
 refine eff_o (sto_o g rfl (by simp) rfl) fun h2 e2 => ?_
 have g2 : h2.get R = some (.cells [v, .int .i64 n] true 0) := by rw [e2, get_set_same]; rfl
 have f2 : Fr h h2 [R] := by rw [e2]; exact (Fr.refl h [R]).set (by simp)
 clear e2
 set_option smartUnfolding false in conv => whnf
 refine eff_o (sto_o g2 rfl (by simp) rfl) fun h3 e3 => ?_
 have g3 : h3.get R = some (.cells [.nils, .int .i64 n] true 0) := by rw [e3, get_set_same]; rfl
 have f3 : Fr h h3 [R] := by rw [e3]; exact f2.set (by simp)
 clear e3
 set_option smartUnfolding false in conv => whnf
 exact hQ h3 g3 f3
theorem rval_l {I R : Nat} {L X : List Int} {v : AV} {e0 : Int} {h : Heap} {wr : Bool} {es : Nat} (hs : Sv I L v X) (gR : h.get R = some (.cells [v, .int .i64 e0] true 0)) (gI : h.get I = some (.cells (bys L) wr es)) (hX : 9 ≤ X.length) {Y : List Int} (hY : (X.drop 1).take 8 = Y) {a1 a6 : AV} {B : Nat} {Q : AX → Env → Heap → Prop}
  (hQ : ∀ e', AllAt e' [(7, .int .u64 (val8 Y)), (0, .ptr R 0), (1, a1), (6, a6)] → Q (.exit 0) e' h) :
  ∀ (m j : Nat) (env : Env), 8 - j = m → j ≤ 8 → AllAt env [(7, .int .u64 ((Y.take j).foldl stepV 0)), (8, .int .i64 ((j + 1 : Nat) : Int)), (0, .ptr R 0), (1, a1), (6, a6)] →
   VC fs ms B false (.loop L_escapementref04_Reader_Num_0) env h Q := by
 have hYl : Y.length = 8 := by rw [← hY, List.length_take, List.length_drop]; omega
 intro m
 induction m with
 | zero =>
  intro j env hm hj henv
  have he : j = 8 := by omega
  have ht : Y.take j = Y := List.take_of_length_le (by omega)
  rw [ht] at henv
  refine vc_slots 6 _ henv ?_
  refine vc_loopV (vpC_sound (z := true) ?_)
  set_option smartUnfolding false in conv => whnf
  refine brf (by simp; omega) (fun hc => ?_)
  (try rw [hc])
  set_option smartUnfolding false in conv => whnf
  exact hQ _ ⟨rfl, rfl, rfl, rfl, trivial⟩
 | succ m ih =>
  intro j env hm hj henv
  have hlt : j < Y.length := by omega
  obtain ⟨q, hq1, hq2⟩ := hs.ix (i := j + 1) (by omega)
  have hld := hq2 h wr es gI
  have hxy : Y[j] = X[j + 1] := by
   subst hY
   rw [List.getElem_take, List.getElem_drop]
   congr 1
   omega
  have hnx : (Y.take (j + 1)).foldl stepV 0 = stepV ((Y.take j).foldl stepV 0) X[j + 1] := by
   rw [take_next hlt, List.foldl_append, ← hxy]
   rfl
  generalize hc0 : X[j + 1] = c at *
  generalize (Y.take j).foldl stepV 0 = acc at *
  refine vc_slots 6 _ henv ?_
  refine vc_loopV (vpC_sound (z := true) ?_)
  set_option smartUnfolding false in conv => whnf
  refine brt (by simp; omega) (fun hc => ?_)
  (try rw [hc])
  set_option smartUnfolding false in conv => whnf
  refine ⟨_, shl_val acc, ?_⟩
  set_option smartUnfolding false in conv => whnf
  refine ⟨_, ld1 gR rfl, ?_⟩
  set_option smartUnfolding false in conv => whnf
  refine ⟨_, hq1, ?_⟩
  set_option smartUnfolding false in conv => whnf
  refine ⟨_, hld, ?_⟩
  set_option smartUnfolding false in conv => whnf
  exact ih (j + 1) _ (by omega) (by omega) ⟨by rw [hnx]; rfl, inc_slot (by omega), rfl, rfl, rfl, trivial⟩
theorem rnum_c {R I : Nat} {L : List Int} {S : RS} {h : Heap} {most : Int} (hm : most ≤ 9007199254740991) (hr : RdP h R I L S) {Q : AV → Heap → Prop}
  (hQ : ∀ h', RdP h' R I L (numS most S).2 → Fr h h' [R] → Q (.int .i64 (numS most S).1) h') : VD fs ms f_escapementref04_Reader_Num [.ptr R 0, .int .i64 most] h Q := by
 have hr0 := hr
 obtain ⟨⟨v, gR, hs⟩, gI, lR, ok, sz⟩ := hr
 refine vd_begin (af := C_escapementref04_Reader_Num) rfl (yB rfl) ?_
 set_option smartUnfolding false in conv => whnf
 refine vc_seq true ?_
 set_option smartUnfolding false in conv => whnf
 refine vc_seqV (vc_seq true ?_)
 set_option smartUnfolding false in conv => whnf
 refine ⟨_, ld1 gR rfl, ?_⟩
 set_option smartUnfolding false in conv => whnf
 refine vc_condV ?_
 set_option smartUnfolding false in conv => whnf
 refine br (fun hc => ?_) (fun hc => ?_) <;> (try rw [hc]) <;> (set_option smartUnfolding false in conv => whnf)
 ·have he : S.2 ≠ 0 := by simpa using hc
  have hn : numS most S = (0, S) := if_pos he
  rw [hn] at hQ
  refine vpC_sound (z := true) ?_
  set_option smartUnfolding false in conv => whnf
  exact hQ h hr0 (Fr.refl _ _)
 have he : S.2 = 0 := by simpa using hc
 have hnS : numS most S = if (rN most S.1).1 ≠ 0 then (0, [], (rN most S.1).1) else ((rN most S.1).2.1, S.1.drop (rN most S.1).2.2, 0) := if_neg (by simpa using he)
 have hbad : ∀ (e : Int), (rN most S.1).1 = e → e ≠ 0 → ∀ h', h'.get R = some (.cells [.nils, .int .i64 e] true 0) → Fr h h' [R] → Q (.int .i64 0) h' := by
  intro e h1 h2 h' g f
  rw [if_pos (by rw [h1]; exact h2), h1] at hnS
  rw [hnS] at hQ
  exact hQ h' (hr0.to f (v' := .nils) g .nils (by simp) (by intro n hn; simp at hn)) f
 rw [he] at gR
 generalize hX : S.1 = X at *
 have hlast : ∀ e' (n : Int) (sz : Nat), AllAt e' [(0, .ptr R 0), (1, .int .i64 most), (5, .int .i64 n), (6, .int .i64 ((sz : Nat) : Int))] → (rN most X = if n > most then (5, 0, 0) else (0, n, sz)) →
   VC fs ms h.next false (.seq (.seq (.ops [zM 65 5, zM 66 1, zP 67 (.bin .gtr) [.t 65, .t 66]]) (.cond (.t 67) (.seq (.ops [zM 68 0, ⟨some 69, none, .call, [.c (.func (.func 74) [] []), .t 68, .c (.int .i64 5)]⟩, zM 4 69]) .ret) .skip))
    (.seq (.ops [zM 70 0, zM 71 0, zN 72 71, zF 73 72 0, zL 74 73, zM 75 6, zP 76 (.slice 1 true false false) [.t 74, .t 75], zN 77 70, zF 78 77 0, zS 1 [.t 78, .t 76]]) (.seq (.ops [zM 79 5, zM 4 79]) .ret))) e' h (endV C_escapementref04_Reader_Num.results Q) := by
  intro e' n sz ha hr
  have hrg := rN_rng (most := most) ok
  refine vc_slots 4 _ ha (vc_seqV (vc_seq true ?_))
  set_option smartUnfolding false in conv => whnf
  refine vc_condV ?_
  set_option smartUnfolding false in conv => whnf
  refine br (fun hc => ?_) (fun hc => ?_) <;> (try rw [hc]) <;> (set_option smartUnfolding false in conv => whnf)
  ·have hgt : n > most := of_decide_eq_true hc
   rw [if_pos hgt] at hr
   refine vc_seq true ?_
   set_option smartUnfolding false in conv => whnf
   refine rfail_c gR fun h' g f => ?_
   set_option smartUnfolding false in conv => whnf
   refine vpC_sound (z := true) ?_
   set_option smartUnfolding false in conv => whnf
   exact hbad 5 (by rw [hr]) (by decide) h' g f
  ·have hgt : ¬ n > most := of_decide_eq_false hc
   rw [if_neg hgt] at hr
   rw [hr] at hrg hnS
   rw [if_neg (by simp)] at hnS
   rw [hnS] at hQ
   obtain ⟨v', hp, hsv⟩ := hs.from (lo := sz) hrg.2.1
   have hcc := hsv.cells
   refine vpC_sound (z := true) ?_
   set_option smartUnfolding false in conv => whnf
   refine vpC_sound (z := true) ?_
   set_option smartUnfolding false in conv => whnf
   refine ⟨_, ld1 gR rfl, ?_⟩
   set_option smartUnfolding false in conv => whnf
   refine ⟨v', hp, ?_⟩
   set_option smartUnfolding false in conv => whnf
   refine eff_o (sto_o gR hcc.2.1 (by simp) hcc.2.2) fun h2 e2 => ?_
   have g2 : h2.get R = some (.cells [v', .int .i64 0] true 0) := by rw [e2, get_set_same, hcc.1]; rfl
   have f2 : Fr h h2 [R] := by rw [e2]; exact (Fr.refl h [R]).set (by simp)
   clear e2
   set_option smartUnfolding false in conv => whnf
   exact hQ h2 (hr0.to f2 (v' := v') g2 hsv (by rw [hX, List.length_drop]; omega) (ok.drop _)) f2
 refine vpC_sound (z := true) ?_
 set_option smartUnfolding false in conv => whnf
 refine vc_seqV (vc_seq true ?_)
 set_option smartUnfolding false in conv => whnf
 refine ⟨_, ld1 gR rfl, ?_⟩
 set_option smartUnfolding false in conv => whnf
 rw [hs.len]
 set_option smartUnfolding false in conv => whnf
 refine vc_condV ?_
 set_option smartUnfolding false in conv => whnf
 refine br (fun hc => ?_) (fun hc => ?_) <;> (try rw [hc]) <;> (set_option smartUnfolding false in conv => whnf)
 ·have h0 : X = [] := List.eq_nil_of_length_eq_zero (by simpa using hc)
  refine vc_seq true ?_
  set_option smartUnfolding false in conv => whnf
  refine rfail_c gR fun h' g f => ?_
  set_option smartUnfolding false in conv => whnf
  refine vpC_sound (z := true) ?_
  set_option smartUnfolding false in conv => whnf
  exact hbad 3 (by rw [h0]; rfl) (by decide) h' g f
 have h0 : 0 < X.length := by
  have : ¬ X.length = 0 := by simpa using hc
  omega
 have hXne : X ≠ [] := List.length_pos_iff.1 h0
 have hLne : L ≠ [] := hs.ne hXne
 obtain ⟨⟨wr, es, gI⟩, dI, lI⟩ := gI.resolve_left hLne
 obtain ⟨c, r, hXc⟩ : ∃ c r, X = c :: r := by
  cases X with
  | nil => exact absurd rfl hXne
  | cons c r => exact ⟨c, r, rfl⟩
 have hlen : X.length = r.length + 1 := by rw [hXc]; rfl
 obtain ⟨q0, hq1, hq2⟩ := hs.ix (i := 0) h0
 have hld := hq2 h wr es gI
 have hc0 : X[0] = c := by simp [hXc]
 rw [hc0] at hld
 have hcr := ok c (by rw [hXc]; simp)
 have hrN : rN most X = if c = 255 then (if r.length < 8 then (3, 0, 0) else if val8 (r.take 8) = 0 ∨ val8 (r.take 8) > 9007199254740737 then (4, 0, 0) else if 254 + val8 (r.take 8) > most then (5, 0, 0) else (0, 254 + val8 (r.take 8), 9))
  else if c > most then (5, 0, 0) else (0, c, 1) := by rw [hXc]; rfl
 have hwc : IntKind.i64.wrap c = c := IntWalk.i64_in _ (by omega)
 refine vpC_sound (z := true) ?_
 set_option smartUnfolding false in conv => whnf
 refine vc_seq true ?_
 set_option smartUnfolding false in conv => whnf
 refine ⟨_, ld1 gR rfl, ?_⟩
 set_option smartUnfolding false in conv => whnf
 refine ⟨_, hq1, ?_⟩
 set_option smartUnfolding false in conv => whnf
 refine ⟨_, hld, ?_⟩
 set_option smartUnfolding false in conv => whnf
 rw [hwc]
 refine vc_seq true ?_
 set_option smartUnfolding false in conv => whnf
 refine vc_seqV (vc_seq true ?_)
 set_option smartUnfolding false in conv => whnf
 refine vc_condV ?_
 set_option smartUnfolding false in conv => whnf
 refine br (fun hc => ?_) (fun hc => ?_) <;> (try rw [hc]) <;> (set_option smartUnfolding false in conv => whnf)
 ·have h255 : c = 255 := by simpa using hc
  rw [if_pos h255] at hrN
  refine vc_seqV (vc_seq true ?_)
  set_option smartUnfolding false in conv => whnf
  refine ⟨_, ld1 gR rfl, ?_⟩
  set_option smartUnfolding false in conv => whnf
  rw [hs.len]
  set_option smartUnfolding false in conv => whnf
  refine vc_condV ?_
  set_option smartUnfolding false in conv => whnf
  refine br (fun hc => ?_) (fun hc => ?_) <;> (try rw [hc]) <;> (set_option smartUnfolding false in conv => whnf)
  ·have hr8 : r.length < 8 := by have := of_decide_eq_true hc; rw [hlen] at this; omega
   rw [if_pos hr8] at hrN
   refine vc_seq true ?_
   set_option smartUnfolding false in conv => whnf
   refine rfail_c gR fun h' g f => ?_
   set_option smartUnfolding false in conv => whnf
   refine vpC_sound (z := true) ?_
   set_option smartUnfolding false in conv => whnf
   exact hbad 3 (by rw [hrN]) (by decide) h' g f
  have hr8 : ¬ r.length < 8 := by have := of_decide_eq_false hc; rw [hlen] at this; omega
  rw [if_neg hr8] at hrN
  refine vpC_sound (z := true) ?_
  set_option smartUnfolding false in conv => whnf
  refine vc_seq true ?_
  set_option smartUnfolding false in conv => whnf
  refine vc_seq true ?_
  set_option smartUnfolding false in conv => whnf
  refine vc_seqV (vc_seq true ?_)
  set_option smartUnfolding false in conv => whnf
  refine vc_block ?_
  have hY : (X.drop 1).take 8 = r.take 8 := by rw [hXc]; rfl
  refine rval_l hs gR gI (by omega) hY ?_ 8 0 _ rfl (Nat.zero_le _) ⟨rfl, rfl, rfl, rfl, rfl, trivial⟩
  intro e' ha
  have hv := val8_rng (r.take 8) 0 (by omega)
  change 0 ≤ val8 (r.take 8) at hv
  generalize val8 (r.take 8) = V at *
  show VC fs ms h.next false _ _ _ _
  refine vc_slots 6 _ ha ?_
  refine vc_seqV (vc_seq true ?_)
  set_option smartUnfolding false in conv => whnf
  refine br (fun hc => ?_) (fun hc => ?_) <;> (try rw [hc]) <;> (set_option smartUnfolding false in conv => whnf)
  ·have hV : V = 0 := by simpa using hc
   rw [if_pos (.inl hV)] at hrN
   refine vc_condV ?_
   set_option smartUnfolding false in conv => whnf
   refine vc_seq true ?_
   set_option smartUnfolding false in conv => whnf
   refine rfail_c gR fun h' g f => ?_
   set_option smartUnfolding false in conv => whnf
   refine vpC_sound (z := true) ?_
   set_option smartUnfolding false in conv => whnf
   exact hbad 4 (by rw [hrN]) (by decide) h' g f
  have hV0 : ¬ V = 0 := by simpa using hc
  refine vc_condV ?_
  set_option smartUnfolding false in conv => whnf
  refine br (fun hc => ?_) (fun hc => ?_) <;> (try rw [hc]) <;> (set_option smartUnfolding false in conv => whnf)
  ·have hV : V > 9007199254740737 := of_decide_eq_true hc
   rw [if_pos (.inr hV)] at hrN
   refine vc_seq true ?_
   set_option smartUnfolding false in conv => whnf
   refine rfail_c gR fun h' g f => ?_
   set_option smartUnfolding false in conv => whnf
   refine vpC_sound (z := true) ?_
   set_option smartUnfolding false in conv => whnf
   exact hbad 4 (by rw [hrN]) (by decide) h' g f
  have hV : ¬ V > 9007199254740737 := of_decide_eq_false hc
  rw [if_neg (by rintro (h | h) <;> omega)] at hrN
  have hwv : IntKind.i64.wrap (254 + IntKind.i64.wrap V) = 254 + V := by rw [IntWalk.i64_in V (by omega), IntWalk.i64_in _ (by omega)]
  refine vpC_sound (z := true) ?_
  set_option smartUnfolding false in conv => whnf
  refine vpC_sound (z := true) ?_
  set_option smartUnfolding false in conv => whnf
  rw [hwv]
  exact hlast _ (254 + V) 9 ⟨rfl, rfl, rfl, rfl, trivial⟩ hrN
 ·have h255 : ¬ c = 255 := by simpa using hc
  refine vpC_sound (z := true) ?_
  set_option smartUnfolding false in conv => whnf
  exact hlast _ c 1 ⟨rfl, rfl, rfl, rfl, trivial⟩ (by rw [hrN, if_neg h255])
theorem rerr_c {R I : Nat} {L : List Int} {S : RS} {h : Heap} (hr : RdP h R I L S) {Q : AV → Heap → Prop} (hQ : Q (.int .i64 S.2) h) : VD fs ms f_escapementref04_Reader_Err [.ptr R 0] h Q := by
 obtain ⟨⟨v, gR, hs⟩, _⟩ := hr
 refine vd_start (af := C_escapementref04_Reader_Err) true rfl (yB rfl) ?_
 set_option smartUnfolding false in conv => whnf
 refine ⟨_, ld1 gR rfl, ?_⟩
 set_option smartUnfolding false in conv => whnf
 exact hQ
theorem rleft_c {R I : Nat} {L : List Int} {S : RS} {h : Heap} (hr : RdP h R I L S) {Q : AV → Heap → Prop} (hQ : Q (.int .i64 ((S.1.length : Nat) : Int)) h) : VD fs ms f_escapementref04_Reader_Left [.ptr R 0] h Q := by
 obtain ⟨⟨v, gR, hs⟩, _⟩ := hr
 refine vd_start (af := C_escapementref04_Reader_Left) true rfl (yB rfl) ?_
 set_option smartUnfolding false in conv => whnf
 refine ⟨_, ld1 gR rfl, ?_⟩
 set_option smartUnfolding false in conv => whnf
 rw [hs.len]
 set_option smartUnfolding false in conv => whnf
 exact hQ
theorem SvP.src {h : Heap} {I : Nat} {L : List Int} {v : AV} {X : List Int} (hs : SvP h I L v X) : srcV 1 h v = some (X.length, bys X) := by
 rcases hs.gI with hL | ⟨⟨wr, es, hg⟩, _⟩
 ·rcases hs.hs with ⟨rfl, hx⟩ | ⟨o, j, rfl, hx⟩ | ⟨o, cap, op, rfl, q1, q2, q3, q4⟩
  ·subst hx; rfl
  ·subst hx; rfl
  ·exact absurd hL q4
 ·exact (hs.hs.load hg).1
theorem cpyS_c {I : Nat} {L X : List Int} {v : AV} {h : Heap} (hs : SvP h I L v X) (hsz : X.length ≤ 1000000) {Q : AV → Heap → Prop} (hQ : ∀ v' h', BR h.next h' v' X → Fr h h' [] → Q v' h') : VD fs ms f_escapementref00_CopyBytes [v] h Q := by
 refine vd_start (af := C_escapementref00_CopyBytes) true rfl (yB rfl) ?_
 set_option smartUnfolding false in conv => whnf
 have ha := app_nilsG (bytes := 1) hs.src (flatL_bys X) (by omega) (by omega)
 by_cases hz : X.length = 0
 ·rw [if_pos hz] at ha
  refine ⟨_, _, ha, ?_⟩
  set_option smartUnfolding false in conv => whnf
  exact hQ _ _ (by rw [List.eq_nil_of_length_eq_zero hz]; exact GR.nil) (Fr.refl _ _)
 ·rw [if_neg hz] at ha
  refine ⟨_, _, ha, ?_⟩
  set_option smartUnfolding false in conv => whnf
  refine hQ _ _ (.inr ⟨fun h => hz (by simpa [bys] using congrArg List.length h), h.next, Nat.le_refl _, Nat.lt_succ_self _, by rw [len_bys], ?_⟩) (Fr.refl _ _).new
  rw [flat_bys]
  exact get_new_same
theorem rread_c {I : Nat} {L X : List Int} {v : AV} {h : Heap} (hs : SvP h I L v X) (hsz : X.length ≤ 1000000) {Q : AV → Heap → Prop} (hQ : ∀ h' J, RdP h' (h'.next - 1) J X (X, 0) → h.next ≤ J → h.next ≤ h'.next - 1 → Fr h h' [] → Q (.ptr (h'.next - 1) 0) h') : VD fs ms f_escapementref04_Read [v] h Q := by
 refine vd_start (af := C_escapementref04_Read) true rfl (yB rfl) ?_
 set_option smartUnfolding false in conv => whnf
 refine cpyS_c hs hsz fun v' h1 br fr => ?_
 obtain ⟨J, hJ, sv, hg⟩ := br.sv
 have hb : pV (.build [.nils, .int .i64 0] [(0, 1)]) [v'] = some (.agg [v', .int .i64 0]) := by rcases sv with ⟨rfl, _⟩ | ⟨o, k, rfl, _⟩ | ⟨o, cap, op, rfl, _⟩ <;> rfl
 set_option smartUnfolding false in conv => whnf
 refine opt_go hb ?_
 set_option smartUnfolding false in conv => whnf
 have := hQ (h1.new (.cells [v', .int .i64 0] true 0)) J
 rw [show (h1.new (.cells [v', .int .i64 0] true 0)).next - 1 = h1.next from rfl] at this
 refine this ?_ hJ fr.next fr.new
 refine ⟨⟨v', get_new_same, sv⟩, ?_, Nat.lt_succ_self _, hs.ok, hs.sz⟩
 rcases hg with h | ⟨⟨wr, es, h1⟩, h2⟩
 ·exact .inl h
 ·exact .inr ⟨⟨wr, es, (get_new_ne h2).trans h1⟩, by omega, Nat.lt_succ_of_lt h2⟩
theorem rend_c {R I : Nat} {L : List Int} {S : RS} {h : Heap} (hr : RdP h R I L S) {Q : AV → Heap → Prop} (hQ : Q (.int .i64 (endE S)) h) : VD fs ms f_escapementref04_Reader_End [.ptr R 0] h Q := by
 obtain ⟨⟨v, gR, hs⟩, _⟩ := hr
 refine vd_start (af := C_escapementref04_Reader_End) true rfl (yB rfl) ?_
 set_option smartUnfolding false in conv => whnf
 refine ⟨_, ld1 gR rfl, ?_⟩
 set_option smartUnfolding false in conv => whnf
 refine br (fun hc => ?_) (fun hc => ?_) <;> (try rw [hc]) <;> (set_option smartUnfolding false in conv => whnf)
 ·have he : S.2 = 0 := by simpa using hc
  refine ⟨_, ld1 gR rfl, ?_⟩
  set_option smartUnfolding false in conv => whnf
  rw [hs.len]
  set_option smartUnfolding false in conv => whnf
  refine br (fun hc => ?_) (fun hc => ?_) <;> (try rw [hc]) <;> (set_option smartUnfolding false in conv => whnf)
  ·have hl : S.1 ≠ [] := by intro h0; rw [h0] at hc; simp at hc
   rw [endE, if_pos he, if_neg hl] at hQ
   exact hQ
  ·have hl : S.1 = [] := by
    have := of_decide_eq_false hc
    exact List.eq_nil_of_length_eq_zero (by omega)
   refine ⟨_, ld1 gR rfl, ?_⟩
   set_option smartUnfolding false in conv => whnf
   rw [endE, if_pos he, if_pos hl] at hQ
   rw [he]
   exact hQ
 ·have he : S.2 ≠ 0 := by simpa using hc
  refine ⟨_, ld1 gR rfl, ?_⟩
  set_option smartUnfolding false in conv => whnf
  rw [endE, if_neg he] at hQ
  exact hQ
theorem rtextR_c {R I : Nat} {L : List Int} {S : RS} {h : Heap} {most : Int} (hm : most ≤ 9007199254740991) (hr : RdP h R I L S) {Q : AV → Heap → Prop}
  (hQ : ∀ h', RdP h' R I L (textS most S).2 → Fr h h' [R] → Q (.str (textS most S).1) h') : VD fs ms f_escapementref04_Reader_Text [.ptr R 0, .int .i64 most] h Q := by
 refine vd_begin (af := C_escapementref04_Reader_Text) rfl (yB rfl) ?_
 set_option smartUnfolding false in conv => whnf
 refine vc_seq true ?_
 set_option smartUnfolding false in conv => whnf
 refine vc_seq true ?_
 set_option smartUnfolding false in conv => whnf
 have hnn := numS_nn (most := most) hr.ok
 have htS : textS most S = if (numS most S).2.2 ≠ 0 then ([], (numS most S).2) else if ((numS most S).2.1.length : Int) < (numS most S).1 then ([], [], 3) else (bytS ((numS most S).2.1.take (numS most S).1.toNat), (numS most S).2.1.drop (numS most S).1.toNat, 0) := rfl
 refine rnum_c hm hr fun h1 hr1 fr1 => ?_
 generalize numS most S = T at *
 have hr10 := hr1
 obtain ⟨⟨v, gR, hs⟩, gI, lR, ok, sz⟩ := hr1
 set_option smartUnfolding false in conv => whnf
 refine vc_seqV (vc_seq true ?_)
 set_option smartUnfolding false in conv => whnf
 refine ⟨_, ld1 gR rfl, ?_⟩
 set_option smartUnfolding false in conv => whnf
 refine vc_condV ?_
 set_option smartUnfolding false in conv => whnf
 refine br (fun hc => ?_) (fun hc => ?_) <;> (try rw [hc]) <;> (set_option smartUnfolding false in conv => whnf)
 ·have hne : T.2.2 ≠ 0 := by simpa using hc
  rw [if_pos hne] at htS
  rw [htS] at hQ
  refine vpC_sound (z := true) ?_
  set_option smartUnfolding false in conv => whnf
  exact hQ h1 hr10 fr1
 have hz : T.2.2 = 0 := by simpa using hc
 rw [if_neg (by simpa using hz)] at htS
 rw [hz] at gR
 refine vpC_sound (z := true) ?_
 set_option smartUnfolding false in conv => whnf
 refine vc_seqV (vc_seq true ?_)
 set_option smartUnfolding false in conv => whnf
 refine ⟨_, ld1 gR rfl, ?_⟩
 set_option smartUnfolding false in conv => whnf
 rw [hs.len]
 set_option smartUnfolding false in conv => whnf
 refine vc_condV ?_
 set_option smartUnfolding false in conv => whnf
 refine br (fun hc => ?_) (fun hc => ?_) <;> (try rw [hc]) <;> (set_option smartUnfolding false in conv => whnf)
 ·have hlt : (T.2.1.length : Int) < T.1 := of_decide_eq_true hc
  rw [if_pos hlt] at htS
  rw [htS] at hQ
  refine vc_seq true ?_
  set_option smartUnfolding false in conv => whnf
  refine rfail_c gR fun h' g f => ?_
  set_option smartUnfolding false in conv => whnf
  refine vpC_sound (z := true) ?_
  set_option smartUnfolding false in conv => whnf
  exact hQ h' (hr10.to f (v' := .nils) g .nils (by simp) (by intro n hn; simp at hn)) (fr1.trans f)
 have hge : ¬ (T.2.1.length : Int) < T.1 := of_decide_eq_false hc
 rw [if_neg hge] at htS
 obtain ⟨n, hn⟩ := Int.eq_ofNat_of_zero_le hnn
 have hnt : T.1.toNat = n := by rw [hn]; rfl
 have hnl : n ≤ T.2.1.length := by omega
 rw [hnt] at htS
 rw [htS] at hQ
 obtain ⟨v2, hp2, hs2⟩ := hs.to hnl
 obtain ⟨v3, hp3, hs3⟩ := hs.from hnl
 rw [← hn] at hp2 hp3
 have hstr : rV .toStr [v2] h1 = some (.str (bytS (T.2.1.take n))) := by
  rcases gI with hL | ⟨⟨wr, es, hg⟩, _⟩
  ·rcases hs2 with ⟨rfl, hx⟩ | ⟨o, j, rfl, hx⟩ | ⟨o, cap, op, rfl, q1, q2, q3, q4⟩
   ·rw [hx]; rfl
   ·rw [hx]; rfl
   ·exact absurd hL q4
  ·exact (hs2.load hg).2
 have hcc := hs3.cells
 refine vpC_sound (z := true) ?_
 set_option smartUnfolding false in conv => whnf
 refine vpC_sound (z := true) ?_
 set_option smartUnfolding false in conv => whnf
 refine ⟨_, ld1 gR rfl, ?_⟩
 set_option smartUnfolding false in conv => whnf
 refine ⟨v2, hp2, ?_⟩
 set_option smartUnfolding false in conv => whnf
 refine ⟨_, hstr, ?_⟩
 set_option smartUnfolding false in conv => whnf
 refine ⟨_, ld1 gR rfl, ?_⟩
 set_option smartUnfolding false in conv => whnf
 refine ⟨v3, hp3, ?_⟩
 set_option smartUnfolding false in conv => whnf
 refine eff_o (sto_o gR hcc.2.1 (by simp) hcc.2.2) fun h2 e2 => ?_
 have g2 : h2.get R = some (.cells [v3, .int .i64 0] true 0) := by rw [e2, get_set_same, hcc.1]; rfl
 have f2 : Fr h1 h2 [R] := by rw [e2]; exact (Fr.refl h1 [R]).set (by simp)
 clear e2
 set_option smartUnfolding false in conv => whnf
 exact hQ h2 (hr10.to f2 (v' := v3) g2 hs3 (by rw [List.length_drop]; omega) (ok.drop _)) (fr1.trans f2)
def cells6 (l : List Int) (w : AV) : List AV := [.int .i64 (l.getD 0 0), .int .i64 (l.getD 1 0), .int .i64 (l.getD 2 0), .int .i64 (l.getD 3 0), .int .i64 (l.getD 4 0), w]
structure RPl (h0 : Heap) (P2 R J P4 : Nat) (L : List Int) : Prop where
 p2 : P2 = h0.next
 r2 : P2 < R
 r4 : R < P4
 j4 : L = [] ∨ P2 < J ∧ J < P4
structure RO (h0 : Heap) (P2 R J P4 : Nat) (L : List Int) (l : List Int) (acc : List TOp) (S : RS) (h : Heap) : Prop where
 fr : Fr h0 h []
 g2 : h.get P2 = some (.cells (cellsT []) true 0)
 g4 : ∃ w, h.get P4 = some (.cells (cells6 l w) true 0) ∧ GR 3 (P4 + 1) h w (tops acc)
 rd : RdP h R J L S
 nx : P4 + 1 ≤ h.next
theorem rread_l {h0 : Heap} {P2 R J P4 : Nat} {L : List Int} (hp : RPl h0 P2 R J P4 L) {l : List Int} {S0 : RS} {n : Nat} (hn : n ≤ 32) {B : Nat} {Q : AX → Env → Heap → Prop} (hQ : ∀ e' h' j, j ≤ n → (j = n ∨ (opsN j S0).2.2 ≠ 0) → RO h0 P2 R J P4 L l (opsN j S0).1 (opsN j S0).2 h' → AllAt e' [(2, .ptr P2 0), (3, .ptr R 0), (4, .ptr P4 0)] → Q (.exit 0) e' h') :
  ∀ (m j : Nat) (h : Heap) (env : Env), n - j = m → j ≤ n → RO h0 P2 R J P4 L l (opsN j S0).1 (opsN j S0).2 h → AllAt env [(2, .ptr P2 0), (3, .ptr R 0), (4, .ptr P4 0), (5, .int .i64 ((n : Nat) : Int)), (6, .int .i64 ((j : Nat) : Int))] →
   VC fs ms B false (.loop L_escapementref28_read_0) env h Q := by
 obtain ⟨q1, q2, q3, q4⟩ := hp
 intro m
 induction m with
 | zero =>
  intro j h env hm hj hs henv
  have he : j = n := by omega
  refine vc_slots 5 _ henv ?_
  refine vc_loopV (vpC_sound (z := true) ?_)
  set_option smartUnfolding false in conv => whnf
  refine brf (by simp; omega) (fun hc => ?_)
  (try rw [hc])
  set_option smartUnfolding false in conv => whnf
  exact hQ _ _ j hj (.inl he) hs ⟨rfl, rfl, rfl, trivial⟩
 | succ m ih =>
  intro j h env hm hj hs henv
  have hlt : j < n := by omega
  have hs0 := hs
  have hjl := opsN_l j S0
  have hnS : opsN (j + 1) S0 = ((opsN j S0).1 ++ [(opS (opsN j S0).2).1], (opS (opsN j S0).2).2) := rfl
  have hQ' := hQ
  refine vc_slots 5 _ henv ?_
  obtain ⟨fr, g2, ⟨w, g4, gr⟩, rd, nx⟩ := hs
  refine vc_loopV (vc_seqV (vc_seq true ?_))
  set_option smartUnfolding false in conv => whnf
  refine brt (by simp; omega) (fun hc => ?_)
  (try rw [hc])
  set_option smartUnfolding false in conv => whnf
  refine rerr_c rd ?_
  set_option smartUnfolding false in conv => whnf
  refine vc_condV ?_
  set_option smartUnfolding false in conv => whnf
  refine br (fun hc => ?_) (fun hc => ?_) <;> (try rw [hc]) <;> (set_option smartUnfolding false in conv => whnf)
  rotate_left
  ·have hne : (opsN j S0).2.2 ≠ 0 := by simpa using hc
   refine vpC_sound (z := true) ?_
   set_option smartUnfolding false in conv => whnf
   exact hQ _ _ j hj (.inr hne) hs0 ⟨rfl, rfl, rfl, trivial⟩
  have hz : (opsN j S0).2.2 = 0 := by simpa using hc
  clear hs0 hQ'
  generalize (opsN j S0).1 = acc at *
  generalize (opsN j S0).2 = S at *
  refine vpC_sound (z := true) ?_
  set_option smartUnfolding false in conv => whnf
  refine vc_seqV (vc_block (vc_seq true ?_))
  set_option smartUnfolding false in conv => whnf
  refine rnum_c (by decide) rd fun h1 rd1 fr1 => ?_
  have n1 := fr1.next
  set_option smartUnfolding false in conv => whnf
  refine rnum_c (by decide) rd1 fun h2 rd2 fr2 => ?_
  have n2 := fr2.next
  set_option smartUnfolding false in conv => whnf
  refine eff_o (sto_o get_new_same rfl (Nat.le_refl _) rfl) fun h3 e3 => ?_
  have f3 : Fr h2 h3 [] := by rw [e3]; exact ((Fr.refl h2 []).new).setn (Nat.le_refl _)
  have n3 : h3.next = h2.next + 1 := by rw [e3]; rfl
  have g73 : h3.get h2.next = some (.cells [.int .i64 (numS MX S).1, .int .i64 (numS MX (numS MX S).2).1, .str []] true 0) := by rw [e3, get_set_same]; rfl
  clear e3
  have rd3 := rd2.keep f3 (by simp) (.inr (by simp))
  set_option smartUnfolding false in conv => whnf
  refine vc_seq true ?_
  set_option smartUnfolding false in conv => whnf
  refine rtextR_c (by decide) rd3 fun h4 rd4 fr4 => ?_
  have n4 := fr4.next
  have g74 := (fr4.keep h2.next (by omega) (by simp; omega)).trans g73
  set_option smartUnfolding false in conv => whnf
  refine eff_o (sto_o g74 rfl (by simp) rfl) fun h5 e5 => ?_
  have f5 : Fr h4 h5 [h2.next] := by rw [e5]; exact (Fr.refl h4 _).set (by simp)
  have n5 : h5.next = h4.next := by rw [e5]; rfl
  have g75 : h5.get h2.next = some (.cells (top (opS S).1).cells true 0) := by rw [e5, get_set_same]; rfl
  clear e5
  have rd5 : RdP h5 R J L (opS S).2 := rd4.keep f5 (by simp; omega) (q4.imp id (fun h => by simp; omega))
  have fk : ∀ c, c < h.next → c ≠ R → h5.get c = h.get c := fun c hc hn => (f5.keep c (by omega) (by simp; omega)).trans ((fr4.keep c (by omega) (by simpa using hn)).trans ((f3.keep c (by omega) (by simp)).trans ((fr2.keep c (by omega) (by simpa using hn)).trans (fr1.keep c hc (by simpa using hn)))))
  have gr5 : GR 3 (P4 + 1) h5 w (tops acc) := by
   rcases gr with h | ⟨hne, b, b1, b2, b3, b4⟩
   ·exact .inl h
   ·exact .inr ⟨hne, b, b1, by omega, b3, (fk b b2 (by omega)).trans b4⟩
  have g45 := (fk P4 (by omega) (by omega)).trans g4
  set_option smartUnfolding false in conv => whnf
  refine vpC_sound (z := true) ?_
  set_option smartUnfolding false in conv => whnf
  refine ⟨w, ld1 g45 rfl, ?_⟩
  set_option smartUnfolding false in conv => whnf
  refine ⟨top (opS S).1, ldN g75 (Nat.le_refl _), ?_⟩
  set_option smartUnfolding false in conv => whnf
  obtain ⟨w', g', ha, gr6, hn6, hk6⟩ := GR.app (bytes := 32) gr5 (by omega) (x := top (opS S).1) rfl rfl (size_tops acc) (by rw [len_tops]; omega) (by rw [len_tops]; omega)
  refine ⟨_, _, ha, ?_⟩
  set_option smartUnfolding false in conv => whnf
  obtain ⟨c1, c2, c3⟩ := GR.one gr6
  refine eff_o (sto_o ((hk6 P4 (by omega)).trans g45) c2 (by show 0 + 0 + 5 + 1 ≤ 6; omega) c3) fun h7 e7 => ?_
  have f7 : Fr g' h7 [P4] := by rw [e7]; exact (Fr.refl g' _).set (by simp)
  have n7 : h7.next = g'.next := by rw [e7]; rfl
  have g47 : h7.get P4 = some (.cells (cells6 l w') true 0) := by rw [e7, get_set_same, c1]; rfl
  clear e7
  have fk7 : ∀ c, c < P4 → h7.get c = h5.get c := fun c hc => (f7.keep c (by omega) (by simp; omega)).trans (hk6 c (by omega))
  have rd7 : RdP h7 R J L (opS S).2 := by
   obtain ⟨⟨v, k1, k2⟩, k3, k4, k5, k6⟩ := rd5
   refine ⟨⟨v, (fk7 R q3).trans k1, k2⟩, ?_, by omega, k5, k6⟩
   rcases k3 with h | ⟨⟨wr, es, j1⟩, j2, j3⟩
   ·exact .inl h
   ·rcases q4 with h | ⟨_, h⟩
    ·exact .inl h
    ·exact .inr ⟨⟨wr, es, (fk7 J h).trans j1⟩, j2, by omega⟩
  set_option smartUnfolding false in conv => whnf
  refine vpC_sound (z := true) ?_
  set_option smartUnfolding false in conv => whnf
  refine ih (j + 1) h7 _ (by omega) (by omega) ?_ ⟨rfl, rfl, rfl, rfl, inc_slot (by omega), trivial⟩
  rw [hnS]
  have fn := fr.next
  refine ⟨⟨by omega, fun c hc _ => (fk7 c (by omega)).trans ((fk c (by omega) (by omega)).trans (fr.keep c hc (by simp)))⟩, (fk7 P2 (by omega)).trans ((fk P2 (by omega) (by omega)).trans g2), ⟨w', g47, ?_⟩, rd7, by omega⟩
  rw [tops, List.map_append]
  exact gr6.keep f7 (by simp)
theorem rrd_c {I : Nat} {L X : List Int} {v : AV} {h : Heap} (hs : SvP h I L v X) (hsz : X.length ≤ 1000000) {Q : AV → Heap → Prop} (hQ : ∀ h', Fr h h' [] → Q (ten (entR X)) h') : VD fs ms f_escapementref28_read [v] h Q := by
 refine vd_frzR ?_
 refine vd_begin (af := C_escapementref28_read) rfl (yB rfl) ?_
 set_option smartUnfolding false in conv => whnf
 refine vc_seq true ?_
 set_option smartUnfolding false in conv => whnf
 obtain ⟨h1, hH1⟩ : ∃ h1, h1 = h.new (.cells (cellsT []) true 0) := ⟨_, rfl⟩
 have g1 : h1.get h.next = some (.cells (cellsT []) true 0) := by rw [hH1]; exact get_new_same
 have fr1 : Fr h h1 [] := by rw [hH1]; exact (Fr.refl h []).new
 have n1 : h1.next = h.next + 1 := by rw [hH1]; rfl
 have hs1 : SvP h1 I L v X := hs.keep fr1 (.inr (by simp))
 show VC fs ms _ _ _ _ (h.new (.cells (cellsT []) true 0)) _
 rw [← hH1]
 clear hH1
 refine vc_seq true ?_
 set_option smartUnfolding false in conv => whnf
 refine rread_c hs1 hsz fun h2 J rd2 hJ hR fr2 => ?_
 generalize hRR : h2.next - 1 = R at *
 have lR2 := rd2.lR
 have lJ2 := rd2.gI
 set_option smartUnfolding false in conv => whnf
 refine vc_seq true ?_
 set_option smartUnfolding false in conv => whnf
 refine rnum_c (by decide) rd2 fun h3 rd3 fr3 => ?_
 set_option smartUnfolding false in conv => whnf
 refine rnum_c (by decide) rd3 fun h4 rd4 fr4 => ?_
 set_option smartUnfolding false in conv => whnf
 refine rnum_c (by decide) rd4 fun h5 rd5 fr5 => ?_
 set_option smartUnfolding false in conv => whnf
 refine rnum_c (by decide) rd5 fun h6 rd6 fr6 => ?_
 set_option smartUnfolding false in conv => whnf
 refine rnum_c (by decide) rd6 fun h7 rd7 fr7 => ?_
 have f27 : Fr h2 h7 [R] := fr3.trans (fr4.trans (fr5.trans (fr6.trans fr7)))
 have n27 := f27.next
 set_option smartUnfolding false in conv => whnf
 refine eff_o (sto_o get_new_same rfl (Nat.le_refl _) rfl) fun h8 e8 => ?_
 have f8 : Fr h7 h8 [] := by rw [e8]; exact ((Fr.refl h7 []).new).setn (Nat.le_refl _)
 have n8 : h8.next = h7.next + 1 := by rw [e8]; rfl
 have g48 : h8.get h7.next = some (.cells (cells6 (rdN 5 (X, 0)).1 .nils) true 0) := by rw [e8, get_set_same]; rfl
 clear e8
 have rd8 : RdP h8 R J X (rdN 5 (X, 0)).2 := rd7.keep f8 (by simp) (.inr (by simp))
 have g28 : h8.get h.next = some (.cells (cellsT []) true 0) := (f8.keep _ (by omega) (by simp)).trans ((f27.keep _ (by omega) (by simp; omega)).trans ((fr2.keep _ (by omega) (by simp)).trans g1))
 have f08 : Fr h h8 [] := ⟨by have := fr2.next; omega, fun c hc _ => (f8.keep c (by omega) (by simp)).trans ((f27.keep c (by omega) (by simp; omega)).trans ((fr2.keep c (by omega) (by simp)).trans (fr1.keep c hc (by simp))))⟩
 set_option smartUnfolding false in conv => whnf
 refine vc_seq true ?_
 set_option smartUnfolding false in conv => whnf
 have hmok : (manyS X).1 ≤ 32 := numS_le (m := 32) rd8.ok (by omega)
 have hmnn : 0 ≤ (manyS X).1 := numS_nn (most := 32) rd8.ok
 have hmany : manyS X = numS 32 (rdN 5 (X, 0)).2 := rfl
 have hfin : finS X = opsN (manyS X).1.toNat (manyS X).2 := rfl
 refine rnum_c (by decide) rd8 fun h9 rd9 fr9 => ?_
 rw [← hmany] at *
 generalize hl5 : (rdN 5 (X, 0)).1 = l5 at *
 obtain ⟨n, hn⟩ := Int.eq_ofNat_of_zero_le hmnn
 have hn32 : n ≤ 32 := by omega
 have hnt : (manyS X).1.toNat = n := by rw [hn]; rfl
 have n9 := fr9.next
 have g49 := (fr9.keep h7.next (by omega) (by simp; omega)).trans g48
 have g29 := (fr9.keep h.next (by omega) (by simp; omega)).trans g28
 have f09 : Fr h h9 [] := ⟨by have := f08.next; omega, fun c hc _ => (fr9.keep c (by have := f08.next; omega) (by simp; omega)).trans (f08.keep c hc (by simp))⟩
 set_option smartUnfolding false in conv => whnf
 refine vc_seqV (vc_seq true ?_)
 set_option smartUnfolding false in conv => whnf
 refine vc_block ?_
 refine rread_l (h0 := h) (P2 := h.next) (R := R) (J := J) (P4 := h7.next) (L := X) ⟨rfl, by omega, by omega, lJ2.imp id (fun h => by have := h.2.2; omega)⟩ (l := l5) (S0 := (manyS X).2) (n := n) hn32 ?_ n 0 h9 _ rfl (Nat.zero_le _) ⟨f09, g29, ⟨.nils, g49, .inl ⟨rfl, rfl⟩⟩, rd9, by omega⟩ ⟨rfl, rfl, rfl, by rw [← hn]; rfl, rfl, trivial⟩
 intro e' h10 j hj hor ⟨q1, q2, ⟨w, q3, q4⟩, q5, q6⟩ ha
 have hE : endE (opsN j (manyS X).2).2 = readE X := by
  rcases hor with rfl | hne
  ·unfold readE
   rw [hfin, hnt]
  ·rw [opsN_met (by omega) hne, endE, if_neg hne]
 have hJn : readE X = 0 → (opsN j (manyS X).2).1 = (finS X).1 := by
  intro hz
  rcases hor with rfl | hne
  ·rw [hfin, hnt]
  ·rw [opsN_met (by omega) hne] at hz
   exact absurd hz hne
 show VC fs ms _ _ _ _ _ _
 refine vc_slots 4 _ ha ?_
 refine vc_seqV (vc_seq true ?_)
 set_option smartUnfolding false in conv => whnf
 refine rend_c q5 ?_
 rw [hE]
 set_option smartUnfolding false in conv => whnf
 refine vc_seq true ?_
 set_option smartUnfolding false in conv => whnf
 refine vc_condV ?_
 set_option smartUnfolding false in conv => whnf
 refine br (fun hc => ?_) (fun hc => ?_) <;> (try rw [hc]) <;> (set_option smartUnfolding false in conv => whnf)
 ·have hz : readE X ≠ 0 := by simpa using hc
  refine vpC_sound (z := true) ?_
  set_option smartUnfolding false in conv => whnf
  refine eff_o (sto_o q2 rfl (Nat.le_refl _) rfl) fun h11 e11 => ?_
  have g11 : h11.get h.next = some (.cells [.int .i64 0, .int .i64 0, .int .i64 0, .int .i64 0, .int .i64 0, .nils, .int .i64 (readE X)] true 0) := by rw [e11, get_set_same]; rfl
  have f11 : Fr h h11 [] := by rw [e11]; exact q1.setn (Nat.le_refl _)
  clear e11
  set_option smartUnfolding false in conv => whnf
  refine opt_go (v := [.agg [.int .i64 0, .int .i64 0, .int .i64 0, .int .i64 0, .int .i64 0, .nils, .int .i64 (readE X)]]) (res_cellN (a := 2) (o := 0) (n := 7) rfl g11 (by show 0 + 7 ≤ 7; omega)) ?_
  refine ⟨[], ten (entR X), ?_, hQ _ (fr_delB (by simp) f11)⟩
  simp only [ten, entR, nmR, resO, if_neg hz]
  exact .agg' (.cons (.clean rfl) (.cons (.clean rfl) (.cons (.clean rfl) (.cons (.clean rfl) (.cons (.clean rfl) (.cons .nils (.cons (.clean rfl) .nil)))))))
 ·have hz : readE X = 0 := by simpa using hc
  obtain ⟨c1, c2, c3⟩ := GR.one q4
  refine vpC_sound (z := true) ?_
  set_option smartUnfolding false in conv => whnf
  refine vpC_sound (z := true) ?_
  set_option smartUnfolding false in conv => whnf
  refine ⟨.agg (cells6 l5 w), ldN q3 (Nat.le_refl _), ?_⟩
  set_option smartUnfolding false in conv => whnf
  refine eff_o (sto_o q2 rfl (Nat.le_refl _) (flat_W c1 c3)) fun h11 e11 => ?_
  have g11 : h11.get h.next = some (.cells (cellsW l5 w) true 0) := by rw [e11, get_set_same]; rfl
  have f11 : Fr h h11 [] := by rw [e11]; exact q1.setn (Nat.le_refl _)
  have gr11 : GR 3 (h7.next + 1) h11 w (tops (opsN j (manyS X).2).1) := by rw [e11]; exact q4.keep (T := [h.next]) ((Fr.refl h10 _).set (by simp)) (by simp; have := f08.next; omega)
  clear e11
  set_option smartUnfolding false in conv => whnf
  refine opt_go (v := [.agg (cellsW l5 w)]) (res_cellN (a := 2) (o := 0) (n := 7) rfl g11 (by show 0 + 7 ≤ 7; omega)) ?_
  obtain ⟨bs, hf, hb⟩ := gr11.frz (size_tops _) (cl_tops _)
  refine ⟨bs, ten (entR X), ?_, hQ _ (fr_delB (fun b hb' => by have := hb b hb'; have := f08.next; omega) f11)⟩
  rw [len_tops, hJn hz] at hf
  simp only [ten, entR, nmR, resO, if_pos hz, hz, hl5]
  exact .agg' (.cons (.clean rfl) (.cons (.clean rfl) (.cons (.clean rfl) (.cons (.clean rfl) (.cons (.clean rfl) (.cons hf (.cons (.clean rfl) .nil)))))))
theorem Sv.sub {I : Nat} {L : List Int} {v : AV} {X : List Int} (hs : Sv I L v X) {lo hi : Nat} (h0 : lo ≤ hi) (hl : hi ≤ X.length) : ∃ v', pV (.slice 1 true true false) [v, .int .i64 ((lo : Nat) : Int), .int .i64 ((hi : Nat) : Int)] = some v' ∧ Sv I L v' ((X.drop lo).take (hi - lo)) := by
 have hlen : ((X.drop lo).take (hi - lo)).length = hi - lo := by rw [List.length_take, List.length_drop]; omega
 rcases hs with ⟨rfl, rfl⟩ | ⟨o, k, rfl, rfl⟩ | ⟨o, cap, op, rfl, g1, g2, g3, g0⟩
 ·have h1 : hi = 0 := by simpa using hl
  have h2 : lo = 0 := by omega
  subst h1 h2
  exact ⟨.nils, rfl, .inl ⟨rfl, rfl⟩⟩
 ·have h1 : hi = 0 := by simpa using hl
  have h2 : lo = 0 := by omega
  subst h1 h2
  exact ⟨.rest I o k, rfl, .inr (.inl ⟨o, k, rfl, rfl⟩)⟩
 ·have hb : bounds X.length cap true true false [.int .i64 ((lo : Nat) : Int), .int .i64 ((hi : Nat) : Int)] = some (lo, hi, cap) := by
   simp only [bounds, nat_as, Option.map_some]
   rw [Nat.ble_eq_true_of_le h0, Nat.ble_eq_true_of_le (show hi ≤ cap by omega), Nat.ble_eq_true_of_le (Nat.le_refl _)]
   rfl
  have hp : pV (.slice 1 true true false) [.sl I o X.length cap op, .int .i64 ((lo : Nat) : Int), .int .i64 ((hi : Nat) : Int)] = some (cond (Nat.beq cap lo && Nat.beq cap cap && (op && true && !Nat.beq lo 0)) (.rest I o (lo * 1)) (.sl I (o + cond (Nat.beq cap lo) 0 (lo * 1)) (hi - lo) (cap - lo) op)) := by
   show sliceF 1 true true false (.sl I o X.length cap op) [.int .i64 ((lo : Nat) : Int), .int .i64 ((hi : Nat) : Int)] = _
   simp only [sliceF, dSl, hb, Bool.not_false, cond_false]
   cases (Nat.beq cap lo && Nat.beq cap cap && (op && true && !Nat.beq lo 0)) <;> rfl
  refine ⟨_, hp, ?_⟩
  cases hq : (Nat.beq cap lo && Nat.beq cap cap && (op && true && !Nat.beq lo 0)) with
  | true =>
   simp only [Bool.and_eq_true] at hq
   have := Nat.eq_of_beq_eq_true hq.1.1
   refine .inr (.inl ⟨o, lo * 1, rfl, ?_⟩)
   exact List.eq_nil_of_length_eq_zero (by rw [hlen]; omega)
  | false =>
   simp only [cond_false]
   cases hc : Nat.beq cap lo with
   | true =>
    have hcl := Nat.eq_of_beq_eq_true hc
    have hz : (X.drop lo).take (hi - lo) = [] := List.eq_nil_of_length_eq_zero (by rw [hlen]; omega)
    refine .inr (.inr ⟨o, cap - lo, op, ?_, ?_, ?_, ?_, g0⟩)
    ·simp only [cond_true, Nat.add_zero, hlen]
    ·rw [hz]; simp
    ·omega
    ·rw [hz]; simp
   | false =>
    refine .inr (.inr ⟨o + lo, cap - lo, op, ?_, ?_, ?_, ?_, g0⟩)
    ·simp only [cond_false, Nat.mul_one, hlen]
    ·omega
    ·omega
    ·rw [hlen]
     conv => lhs; rw [g3]
     rw [List.drop_take, List.drop_drop, List.take_take, Nat.min_eq_left (by omega)]
theorem SvP.sub {h : Heap} {I : Nat} {L : List Int} {v : AV} {X : List Int} (hr : SvP h I L v X) {lo hi : Nat} (h0 : lo ≤ hi) (hl : hi ≤ X.length) : ∃ v', pV (.slice 1 true true false) [v, .int .i64 ((lo : Nat) : Int), .int .i64 ((hi : Nat) : Int)] = some v' ∧ SvP h I L v' ((X.drop lo).take (hi - lo)) := by
 obtain ⟨v', h1, h2⟩ := hr.hs.sub h0 hl
 exact ⟨v', h1, h2, hr.gI, (hr.ok.drop _).take _, by have := hr.sz; rw [List.length_take, List.length_drop]; omega⟩
def headS (X : List Int) : Int × Int × Int := if (numS 4096 (X, 0)).2.2 ≠ 0 then (0, 0, (numS 4096 (X, 0)).2.2) else if ((numS 4096 (X, 0)).2.1.length : Int) < (numS 4096 (X, 0)).1 then (0, 0, 3) else ((numS 4096 (X, 0)).1, ((X.length - (numS 4096 (X, 0)).2.1.length : Nat) : Int), 0)
theorem head_c {I : Nat} {L X : List Int} {v : AV} {h : Heap} (hs : SvP h I L v X) (hsz : X.length ≤ 1000000) {Q : AV → Heap → Prop} (hQ : ∀ h', Fr h h' [] → Q (.tup [.int .i64 (headS X).1, .int .i64 (headS X).2.1, .int .i64 (headS X).2.2]) h') : VD fs ms f_escapementref28_head [v] h Q := by
 refine vd_begin (af := C_escapementref28_head) rfl (yB rfl) ?_
 set_option smartUnfolding false in conv => whnf
 refine vc_seq true ?_
 set_option smartUnfolding false in conv => whnf
 refine vc_seq true ?_
 set_option smartUnfolding false in conv => whnf
 refine rread_c hs hsz fun h2 J rd2 hJ hR fr2 => ?_
 generalize hRR : h2.next - 1 = R at *
 have lR2 := rd2.lR
 set_option smartUnfolding false in conv => whnf
 refine vc_seq true ?_
 set_option smartUnfolding false in conv => whnf
 have hd := numS_drop (most := 4096) hs.ok
 have hH : headS X = if (numS 4096 (X, 0)).2.2 ≠ 0 then (0, 0, (numS 4096 (X, 0)).2.2) else if ((numS 4096 (X, 0)).2.1.length : Int) < (numS 4096 (X, 0)).1 then (0, 0, 3) else ((numS 4096 (X, 0)).1, ((X.length - (numS 4096 (X, 0)).2.1.length : Nat) : Int), 0) := rfl
 refine rnum_c (by decide) rd2 fun h3 rd3 fr3 => ?_
 generalize numS 4096 (X, 0) = S at *
 have f03 : Fr h h3 [] := ⟨by have := fr2.next; have := fr3.next; omega, fun c hc _ => (fr3.keep c (by have := fr2.next; omega) (by simp; omega)).trans (fr2.keep c hc (by simp))⟩
 have hs3 := hs.keep f03 (.inr (by simp))
 set_option smartUnfolding false in conv => whnf
 refine vc_seqV (vc_seq true ?_)
 set_option smartUnfolding false in conv => whnf
 refine rerr_c rd3 ?_
 set_option smartUnfolding false in conv => whnf
 refine vc_seq true ?_
 set_option smartUnfolding false in conv => whnf
 refine vc_condV ?_
 set_option smartUnfolding false in conv => whnf
 refine br (fun hc => ?_) (fun hc => ?_) <;> (try rw [hc]) <;> (set_option smartUnfolding false in conv => whnf)
 ·have hne : S.2.2 ≠ 0 := by simpa using hc
  rw [if_pos hne] at hH
  rw [hH] at hQ
  refine vpC_sound (z := true) ?_
  set_option smartUnfolding false in conv => whnf
  exact hQ h3 f03
 have hz : S.2.2 = 0 := by simpa using hc
 rw [if_neg (by simpa using hz)] at hH
 obtain ⟨hd1, hd2⟩ := hd hz
 refine vpC_sound (z := true) ?_
 set_option smartUnfolding false in conv => whnf
 refine vc_seq true ?_
 set_option smartUnfolding false in conv => whnf
 rw [hs3.hs.len]
 set_option smartUnfolding false in conv => whnf
 refine rleft_c rd3 ?_
 set_option smartUnfolding false in conv => whnf
 have hsz2 := hs.sz
 have hwr : IntKind.i64.wrap ((X.length : Int) - (S.2.1.length : Int)) = ((X.length - S.2.1.length : Nat) : Int) := by
  simp only [IntKind.wrap, IntKind.signed, IntKind.bits]
  simp
  omega
 rw [hwr]
 refine vc_seqV (vc_seq true ?_)
 set_option smartUnfolding false in conv => whnf
 refine rleft_c rd3 ?_
 set_option smartUnfolding false in conv => whnf
 refine vc_condV ?_
 set_option smartUnfolding false in conv => whnf
 refine br (fun hc => ?_) (fun hc => ?_) <;> (try rw [hc]) <;> (set_option smartUnfolding false in conv => whnf)
 ·have hlt : (S.2.1.length : Int) < S.1 := by simpa using hc
  rw [if_pos hlt] at hH
  rw [hH] at hQ
  refine vpC_sound (z := true) ?_
  set_option smartUnfolding false in conv => whnf
  exact hQ h3 f03
 have hge : ¬ (S.2.1.length : Int) < S.1 := by simpa using hc
 rw [if_neg hge] at hH
 rw [hH] at hQ
 refine vpC_sound (z := true) ?_
 set_option smartUnfolding false in conv => whnf
 refine vpC_sound (z := true) ?_
 set_option smartUnfolding false in conv => whnf
 exact hQ h3 f03
theorem rparse_l {h0 : Heap} {I : Nat} {L : List Int} (lI : L = [] ∨ I < h0.next) {B : Nat} {Q : AX → Env → Heap → Prop} : ∀ (m : Nat) (X : List Int) (A : List (TCmd × Int)) (h : Heap) (env : Env) (v w : AV), X.length ≤ m → A.length + X.length ≤ 100000 →
  SvP h I L v X → GR 7 h0.next h w (tens A) → Fr h0 h [] → AllAt env [(0, v), (4, w), (3, .int .i64 0)] →
  (∀ e' h' w', GR 7 h0.next h' w' (tens (parN m X A).1) → Fr h0 h' [] → ((parN m X A).2 = 0 → AllAt e' [(4, w')] → Q (.exit 0) e' h') ∧ (AllAt e' [(2, w'), (3, .int .i64 (parN m X A).2)] → Q .ret e' h')) →
  VC fs ms B false (.loop L_escapementref28_Parse_0) env h Q := by
 intro m
 induction m with
 | zero =>
  intro X A h env v w hm hb hs gr fr henv hQ
  refine vc_slots 5 _ henv ?_
  refine vc_loopV (vpC_sound (z := true) ?_)
  set_option smartUnfolding false in conv => whnf
  rw [hs.hs.len]
  set_option smartUnfolding false in conv => whnf
  refine brf (by simp; exact List.eq_nil_of_length_eq_zero (by omega)) (fun hc => ?_)
  (try rw [hc])
  set_option smartUnfolding false in conv => whnf
  exact (hQ _ _ w gr fr).1 rfl ⟨rfl, trivial⟩
 | succ m ih =>
  intro X A h env v w hm hb hs gr fr henv hQ
  refine vc_slots 5 _ henv ?_
  by_cases hX : X = []
  ·refine vc_loopV (vpC_sound (z := true) ?_)
   set_option smartUnfolding false in conv => whnf
   rw [hs.hs.len]
   set_option smartUnfolding false in conv => whnf
   refine brf (by simp [hX]) (fun hc => ?_)
   (try rw [hc])
   set_option smartUnfolding false in conv => whnf
   have h2 : parN (m + 1) X A = (A, 0) := if_pos hX
   rw [h2] at hQ
   exact (hQ _ _ w gr fr).1 rfl ⟨rfl, trivial⟩
  have hX1 : 0 < X.length := List.length_pos_iff.2 hX
  have hpN : parN (m + 1) X A = if (numS 4096 (X, 0)).2.2 ≠ 0 then (A, (numS 4096 (X, 0)).2.2) else if ((numS 4096 (X, 0)).2.1.length : Int) < (numS 4096 (X, 0)).1 then (A, 3) else
   parN m ((numS 4096 (X, 0)).2.1.drop (numS 4096 (X, 0)).1.toNat) (A ++ [entR ((numS 4096 (X, 0)).2.1.take (numS 4096 (X, 0)).1.toNat)]) := if_neg hX
  have hH : headS X = if (numS 4096 (X, 0)).2.2 ≠ 0 then (0, 0, (numS 4096 (X, 0)).2.2) else if ((numS 4096 (X, 0)).2.1.length : Int) < (numS 4096 (X, 0)).1 then (0, 0, 3) else ((numS 4096 (X, 0)).1, ((X.length - (numS 4096 (X, 0)).2.1.length : Nat) : Int), 0) := rfl
  have hd := numS_drop (most := 4096) hs.ok
  have hnn := numS_nn (most := 4096) (S := (X, 0)) hs.ok
  refine vc_loopV (vc_seq true ?_)
  set_option smartUnfolding false in conv => whnf
  rw [hs.hs.len]
  set_option smartUnfolding false in conv => whnf
  refine brt (by simp; omega) (fun hc => ?_)
  (try rw [hc])
  set_option smartUnfolding false in conv => whnf
  refine vc_block (vc_seq true ?_)
  set_option smartUnfolding false in conv => whnf
  refine head_c hs (by omega) fun h2 f02 => ?_
  rw [hpN] at hQ
  clear hpN
  generalize numS 4096 (X, 0) = S at *
  generalize headS X = HS at *
  obtain ⟨a, b, c⟩ := HS
  have gr2 := gr.keep f02 (by simp)
  have fr02 : Fr h0 h2 [] := fr.trans f02
  have hs2 := hs.keep f02 (.inr (by simp))
  set_option smartUnfolding false in conv => whnf
  refine vc_seqV (vc_seq true ?_)
  set_option smartUnfolding false in conv => whnf
  refine vc_condV ?_
  set_option smartUnfolding false in conv => whnf
  by_cases hne : S.2.2 ≠ 0
  ·rw [if_pos hne] at hH hQ
   obtain ⟨rfl, rfl, rfl⟩ : a = 0 ∧ b = 0 ∧ c = S.2.2 := ⟨congrArg Prod.fst hH, congrArg (·.2.1) hH, congrArg (·.2.2) hH⟩
   refine brt (by simpa using hne) (fun hc => ?_)
   (try rw [hc])
   set_option smartUnfolding false in conv => whnf
   refine vpC_sound (z := true) ?_
   set_option smartUnfolding false in conv => whnf
   exact (hQ _ _ w gr2 fr02).2 ⟨rfl, rfl, trivial⟩
  have hz : S.2.2 = 0 := by simpa using hne
  rw [if_neg (by simpa using hz)] at hH hQ
  obtain ⟨hd1, hd2⟩ := hd hz
  by_cases hlt : (S.2.1.length : Int) < S.1
  ·rw [if_pos hlt] at hH hQ
   have hc3 : c = 3 := congrArg (·.2.2) hH
   refine brt (by simp [hc3]) (fun hc => ?_)
   (try rw [hc])
   set_option smartUnfolding false in conv => whnf
   refine vpC_sound (z := true) ?_
   set_option smartUnfolding false in conv => whnf
   rw [hc3]
   exact (hQ _ _ w gr2 fr02).2 ⟨rfl, rfl, trivial⟩
  rw [if_neg hlt] at hH hQ
  have ha : a = S.1 := congrArg Prod.fst hH
  have hb2 : b = ((X.length - S.2.1.length : Nat) : Int) := congrArg (·.2.1) hH
  have hc3 : c = 0 := congrArg (·.2.2) hH
  obtain ⟨n, hn⟩ := Int.eq_ofNat_of_zero_le hnn
  have hnt : S.1.toNat = n := by rw [hn]; rfl
  have hnl : n ≤ S.2.1.length := by omega
  rw [hnt] at hQ
  refine brf (by simp [hc3]) (fun hc => ?_)
  (try rw [hc])
  set_option smartUnfolding false in conv => whnf
  refine vpC_sound (z := true) ?_
  set_option smartUnfolding false in conv => whnf
  have hsz := hs.sz
  have hwr : IntKind.i64.wrap (b + a) = ((X.length - S.2.1.length + n : Nat) : Int) := by
   rw [ha, hb2, hn]
   simp only [IntKind.wrap, IntKind.signed, IntKind.bits]
   simp
   omega
  obtain ⟨v2, hp2, hs4⟩ := hs2.sub (lo := X.length - S.2.1.length) (hi := X.length - S.2.1.length + n) (by omega) (by omega)
  rw [← hwr, ← hb2] at hp2
  rw [hd2, show X.length - S.2.1.length + n - (X.length - S.2.1.length) = n by omega] at hs4
  obtain ⟨v3, hp3, hs5⟩ := hs2.from (lo := X.length - S.2.1.length + n) (by omega)
  rw [← List.drop_drop, hd2] at hs5
  rw [← hwr] at hp3
  refine vc_seq true ?_
  set_option smartUnfolding false in conv => whnf
  refine ⟨v2, hp2, ?_⟩
  set_option smartUnfolding false in conv => whnf
  refine rrd_c hs4 (by rw [List.length_take]; omega) fun h3 fr3 => ?_
  set_option smartUnfolding false in conv => whnf
  have fr03 : Fr h0 h3 [] := fr02.trans fr3
  have gr3 := gr2.keep fr3 (by simp)
  obtain ⟨w', g', ha4, gr4, hn4, hk4⟩ := GR.app (bytes := 72) gr3 fr03.next (x := ten (entR (S.2.1.take n))) rfl rfl (size_tens A) (by rw [len_tens]; omega) (by rw [len_tens]; omega)
  refine ⟨_, _, ha4, ?_⟩
  have fr4 : Fr h0 g' [] := fr03.app hn4 (fun c hc => hk4 c hc)
  have hs6 : SvP g' I L v3 (S.2.1.drop n) := by
   have h1 := (hs5.keep fr3 (.inr (by simp)))
   refine ⟨h1.hs, ?_, h1.ok, h1.sz⟩
   rcases h1.gI with h | ⟨⟨wr, es, k1⟩, k2⟩
   ·exact .inl h
   ·rcases lI with h | h
    ·exact .inl h
    ·exact .inr ⟨⟨wr, es, (hk4 I h).trans k1⟩, by omega⟩
  set_option smartUnfolding false in conv => whnf
  refine vpC_sound (z := true) ?_
  set_option smartUnfolding false in conv => whnf
  refine ⟨v3, hp3, ?_⟩
  set_option smartUnfolding false in conv => whnf
  refine ih _ (A ++ [entR (S.2.1.take n)]) g' _ v3 w' (by rw [List.length_drop]; omega) (by rw [List.length_drop]; simp; omega) hs6 (by rw [tens, List.map_append]; exact gr4) fr4 ⟨rfl, rfl, rfl, trivial⟩ hQ
theorem rparse_c {I : Nat} {L X : List Int} {v : AV} {h : Heap} (hs : SvP h I L v X) (hl : X.length ≤ 100000) {Q : AV → Heap → Prop} (hQ : ∀ h', Fr h h' [] → Q (.tup [.fz (growK (par X).1.length) (tens (par X).1), .int .i64 (par X).2]) h') : VD fs ms f_escapementref28_Parse [v] h Q := by
 refine vd_frzR ?_
 have hfin : ∀ w h', GR 7 h.next h' w (tens (par X).1) → Fr h h' [] → ∃ bs v', Frz (· ∈ bs) h' (.tup [w, .int .i64 (par X).2]) v' ∧ Q v' (delAll bs h') := by
  intro w h' gr fr
  obtain ⟨bs, hf, hb⟩ := gr.frz (size_tens _) (cl_tens _)
  rw [len_tens] at hf
  exact ⟨bs, _, .tup' (.cons hf (.cons (.clean rfl) .nil)), hQ _ (fr_delB hb fr)⟩
 generalize hQQ : (fun (v : AV) (h1 : Heap) => ∃ bs v', Frz (· ∈ bs) h1 v v' ∧ Q v' (delAll bs h1)) = QQ
 have hfin2 : ∀ w h', GR 7 h.next h' w (tens (par X).1) → Fr h h' [] → QQ (.tup [w, .int .i64 (par X).2]) h' := by rw [← hQQ]; exact hfin
 refine vd_begin (af := C_escapementref28_Parse) rfl (yB rfl) ?_
 set_option smartUnfolding false in conv => whnf
 refine vc_seq true ?_
 set_option smartUnfolding false in conv => whnf
 refine vc_seq true ?_
 set_option smartUnfolding false in conv => whnf
 refine vc_seqV ?_
 refine vc_block ?_
 refine rparse_l (h0 := h) (I := I) (L := L) (hs.gI.imp id (fun h => h.2)) X.length X [] h _ v .nils (Nat.le_refl _) (by simpa using hl) hs (.inl ⟨rfl, rfl⟩) (Fr.refl h []) ⟨rfl, rfl, rfl, trivial⟩ ?_
 intro e' h' w gr fr
 refine ⟨fun hz h4 => ?_, fun h23 => ?_⟩
 ·show VC fs ms h.next false _ _ _ _
  refine vc_slots 3 _ h4 (vpC_sound (z := true) ?_)
  set_option smartUnfolding false in conv => whnf
  have := hfin2 w h' gr fr
  rw [show (par X).2 = 0 from hz] at this
  exact this
 ·set_option smartUnfolding false in conv => whnf
  refine opt_go (v := [w, .int .i64 (par X).2]) (res_two h23.1 h23.2.1) ?_
  exact hfin2 w h' gr fr
theorem rsame_l {x : TCmd} {h : Heap} {a b : Nat} (hA : h.get a = some (.cells (tcm x).cells true 0)) (hB : h.get b = some (.cells (tcm x).cells true 0)) (hx : x.ops.length < 2 ^ 62) {B : Nat} {Q : AX → Env → Heap → Prop} (hQ : ∀ e', Q (.exit 0) e' h) :
  ∀ (m j : Nat) (env : Env), x.ops.length - j = m → j ≤ x.ops.length → AllAt env [(2, .ptr a 0), (3, .ptr b 0), (5, .int .i64 ((j : Nat) : Int))] → VC fs ms B false (.loop L_escapementref28_SameCmd_0) env h Q := by
 intro m
 induction m with
 | zero =>
  intro j env hm hj henv
  have hjl : j = x.ops.length := by omega
  subst hjl
  refine vc_slots 5 _ henv ?_
  refine vc_loopV (vpC_sound (z := true) ?_)
  set_option smartUnfolding false in conv => whnf
  refine ⟨.fz x.kk (tops x.ops), ld1 hA rfl, ?_⟩
  set_option smartUnfolding false in conv => whnf
  refine brf (by simp [len_tops]) (fun hc => ?_)
  (try rw [hc])
  set_option smartUnfolding false in conv => whnf
  exact hQ _
 | succ m ih =>
  intro j env hm hj henv
  have hlt : j < x.ops.length := by omega
  have hix := idx_top (k := x.kk) hlt
  generalize hX : x.ops[j] = o at *
  refine vc_slots 5 _ henv ?_
  refine vc_loopV (vc_seq true ?_)
  set_option smartUnfolding false in conv => whnf
  refine ⟨.fz x.kk (tops x.ops), ld1 hA rfl, ?_⟩
  set_option smartUnfolding false in conv => whnf
  refine brt (by simp [len_tops]; omega) (fun hc => ?_)
  (try rw [hc])
  set_option smartUnfolding false in conv => whnf
  refine vc_seqV (vc_block (vc_seq true ?_))
  set_option smartUnfolding false in conv => whnf
  refine ⟨.fz x.kk (tops x.ops), ld1 hA rfl, ?_⟩
  set_option smartUnfolding false in conv => whnf
  refine ⟨_, hix, ?_⟩
  set_option smartUnfolding false in conv => whnf
  refine ⟨top o, rfl, ?_⟩
  set_option smartUnfolding false in conv => whnf
  refine ⟨.fz x.kk (tops x.ops), ld1 hB rfl, ?_⟩
  set_option smartUnfolding false in conv => whnf
  refine ⟨_, hix, ?_⟩
  set_option smartUnfolding false in conv => whnf
  refine ⟨top o, rfl, ?_⟩
  set_option smartUnfolding false in conv => whnf
  refine op_some (top_same _) ?_
  set_option smartUnfolding false in conv => whnf
  refine vpC_sound (z := true) ?_
  set_option smartUnfolding false in conv => whnf
  refine vpC_sound (z := true) ?_
  set_option smartUnfolding false in conv => whnf
  refine ih (j + 1) _ (by omega) (by omega) ⟨rfl, rfl, inc_slot (by omega), trivial⟩
theorem rsame_c (x : TCmd) (hx : x.ops.length < 2 ^ 62) : PC fs ms f_escapementref28_SameCmd [tcm x, tcm x] (.bool true) := by
 refine pc_of (by simp [clL, cl_tcm]) rfl ?_
 refine vd_begin (af := C_escapementref28_SameCmd) rfl (yB rfl) ?_
 generalize hQ : (fun (v : AV) (_ : Heap) => v = .bool true) = Q
 set_option smartUnfolding false in conv => whnf
 refine vc_seq true ?_
 set_option smartUnfolding false in conv => whnf
 obtain ⟨H, hH⟩ : ∃ H, H = ((⟨0, .nil⟩ : Heap).new (.cells (tcm x).cells true 0)).new (.cells (tcm x).cells true 0) := ⟨_, rfl⟩
 have hA : H.get 0 = some (.cells (tcm x).cells true 0) := by rw [hH]; rfl
 have hB : H.get 1 = some (.cells (tcm x).cells true 0) := by rw [hH]; exact get_new_same (h := (⟨0, .nil⟩ : Heap).new _)
 show VC fs ms _ _ _ _ (((⟨0, .nil⟩ : Heap).new (.cells (tcm x).cells true 0)).new (.cells (tcm x).cells true 0)) _
 rw [← hH]
 clear hH
 refine vc_slots 3 [(2, .ptr 0 0), (3, .ptr 1 0)] ⟨rfl, rfl, trivial⟩ ?_
 refine vc_seqV (vc_seq true ?_)
 set_option smartUnfolding false in conv => whnf
 refine ⟨.int .i64 x.k, ld1 hA rfl, ?_⟩
 set_option smartUnfolding false in conv => whnf
 refine ⟨.int .i64 x.k, ld1 hB rfl, ?_⟩
 set_option smartUnfolding false in conv => whnf
 rw [bne_same]
 set_option smartUnfolding false in conv => whnf
 refine ⟨.int .i64 x.p, ld1 hA rfl, ?_⟩
 set_option smartUnfolding false in conv => whnf
 refine ⟨.int .i64 x.p, ld1 hB rfl, ?_⟩
 set_option smartUnfolding false in conv => whnf
 rw [bne_same]
 set_option smartUnfolding false in conv => whnf
 refine ⟨.int .i64 x.t, ld1 hA rfl, ?_⟩
 set_option smartUnfolding false in conv => whnf
 refine ⟨.int .i64 x.t, ld1 hB rfl, ?_⟩
 set_option smartUnfolding false in conv => whnf
 rw [bne_same]
 set_option smartUnfolding false in conv => whnf
 refine ⟨.int .i64 x.n, ld1 hA rfl, ?_⟩
 set_option smartUnfolding false in conv => whnf
 refine ⟨.int .i64 x.n, ld1 hB rfl, ?_⟩
 set_option smartUnfolding false in conv => whnf
 rw [bne_same]
 set_option smartUnfolding false in conv => whnf
 refine ⟨.int .i64 x.m, ld1 hA rfl, ?_⟩
 set_option smartUnfolding false in conv => whnf
 refine ⟨.int .i64 x.m, ld1 hB rfl, ?_⟩
 set_option smartUnfolding false in conv => whnf
 rw [bne_same]
 set_option smartUnfolding false in conv => whnf
 refine ⟨.fz x.kk (tops x.ops), ld1 hA rfl, ?_⟩
 set_option smartUnfolding false in conv => whnf
 refine ⟨.fz x.kk (tops x.ops), ld1 hB rfl, ?_⟩
 set_option smartUnfolding false in conv => whnf
 rw [bne_same]
 set_option smartUnfolding false in conv => whnf
 refine vpC_sound (z := true) ?_
 set_option smartUnfolding false in conv => whnf
 refine vc_seqV (vc_seq true ?_)
 set_option smartUnfolding false in conv => whnf
 refine vc_block ?_
 refine rsame_l hA hB hx ?_ x.ops.length 0 _ rfl (Nat.zero_le _) ⟨rfl, rfl, rfl, trivial⟩
 intro e'
 show VC fs ms _ false _ _ _ _
 refine vc_slots 3 [] trivial (vpC_sound (z := true) ?_)
 set_option smartUnfolding false in conv => whnf
 subst hQ
 rfl
theorem sameA_l {k1 k2 : Nat} {A : List (TCmd × Int)} (hl : A.length ≤ 100000) (hA : ∀ x ∈ A, x.1.ops.length < 2 ^ 62) {B : Nat} {Q : AX → Env → Heap → Prop} {h : Heap} (hQ : ∀ e', Q (.exit 0) e' h) :
  ∀ (m j : Nat) (env : Env), A.length - j = m → j ≤ A.length → AllAt env [(0, .fz k1 (tens A)), (1, .fz k2 (tens A)), (5, .int .i64 ((j : Nat) : Int))] → VC fs ms B false (.loop L_escapementref28_Same_0) env h Q := by
 intro m
 induction m with
 | zero =>
  intro j env hm hj henv
  have hjl : j = A.length := by omega
  subst hjl
  refine vc_slots 5 _ henv ?_
  refine vc_loopV (vpC_sound (z := true) ?_)
  set_option smartUnfolding false in conv => whnf
  refine brf (by simp [len_tens]) (fun hc => ?_)
  (try rw [hc])
  set_option smartUnfolding false in conv => whnf
  exact hQ _
 | succ m ih =>
  intro j env hm hj henv
  have hlt : j < A.length := by omega
  have hi1 := idx_ten (k := k1) hlt
  have hi2 := idx_ten (k := k2) hlt
  have hcl := hA _ (List.getElem_mem hlt)
  generalize hX : A[j] = x at *
  refine vc_slots 5 _ henv ?_
  refine vc_loopV (vc_seq true ?_)
  set_option smartUnfolding false in conv => whnf
  refine brt (by simp [len_tens]; omega) (fun hc => ?_)
  (try rw [hc])
  set_option smartUnfolding false in conv => whnf
  refine vc_seqV (vc_block (vc_seq true ?_))
  set_option smartUnfolding false in conv => whnf
  refine ⟨_, hi1, ?_⟩
  set_option smartUnfolding false in conv => whnf
  refine ⟨.int .i64 x.2, rfl, ?_⟩
  set_option smartUnfolding false in conv => whnf
  refine ⟨_, hi2, ?_⟩
  set_option smartUnfolding false in conv => whnf
  refine ⟨.int .i64 x.2, rfl, ?_⟩
  set_option smartUnfolding false in conv => whnf
  rw [bne_same]
  set_option smartUnfolding false in conv => whnf
  refine ⟨_, hi1, ?_⟩
  set_option smartUnfolding false in conv => whnf
  refine ⟨tcm x.1, rfl, ?_⟩
  set_option smartUnfolding false in conv => whnf
  refine ⟨_, hi2, ?_⟩
  set_option smartUnfolding false in conv => whnf
  refine ⟨tcm x.1, rfl, ?_⟩
  set_option smartUnfolding false in conv => whnf
  refine vd_pure (rsame_c x.1 hcl) ?_
  set_option smartUnfolding false in conv => whnf
  refine vpC_sound (z := true) ?_
  set_option smartUnfolding false in conv => whnf
  refine vpC_sound (z := true) ?_
  set_option smartUnfolding false in conv => whnf
  refine ih (j + 1) _ (by omega) (by omega) ⟨rfl, rfl, inc_slot (by omega), trivial⟩
theorem sameA_c (k1 k2 : Nat) (A : List (TCmd × Int)) (hl : A.length ≤ 100000) (hA : ∀ x ∈ A, x.1.ops.length < 2 ^ 62) : PC fs ms f_escapementref28_Same [.fz k1 (tens A), .fz k2 (tens A)] (.bool true) := by
 refine pc_of (by simp [clL, AV.cl, cl_tens]) rfl ?_
 refine vd_begin (af := C_escapementref28_Same) rfl (yB rfl) ?_
 generalize hQ : (fun (v : AV) (_ : Heap) => v = .bool true) = Q
 set_option smartUnfolding false in conv => whnf
 refine vc_seq true ?_
 set_option smartUnfolding false in conv => whnf
 refine vc_seqV (vc_seq true ?_)
 set_option smartUnfolding false in conv => whnf
 refine vc_condV ?_
 set_option smartUnfolding false in conv => whnf
 refine brf (by exact bne_same _) (fun hc => ?_)
 (try rw [hc])
 set_option smartUnfolding false in conv => whnf
 refine vpC_sound (z := true) ?_
 set_option smartUnfolding false in conv => whnf
 refine vc_seqV (vc_seq true ?_)
 set_option smartUnfolding false in conv => whnf
 refine vc_block ?_
 refine sameA_l (k1 := k1) (k2 := k2) hl hA ?_ A.length 0 _ rfl (Nat.zero_le _) ⟨rfl, rfl, rfl, trivial⟩
 intro e'
 show VC fs ms _ false _ _ _ _
 refine vc_slots 3 [] trivial (vpC_sound (z := true) ?_)
 set_option smartUnfolding false in conv => whnf
 subst hQ
 rfl
theorem rgood_l {h0 : Heap} {k : Nat} {A : List (TCmd × Int)} (hl : A.length ≤ 100000) (hA : ∀ x ∈ A, KindR x) {B : Nat} {Q : AX → Env → Heap → Prop} (hQ : ∀ e' h' v, GR 6 h0.next h' v (tcms (goodR A)) → Fr h0 h' [] → AllAt e' [(3, v)] → Q (.exit 0) e' h') :
  ∀ (m j : Nat) (h : Heap) (env : Env) (v : AV), A.length - j = m → j ≤ A.length → GR 6 h0.next h v (tcms (goodR (A.take j))) → Fr h0 h [] →
   AllAt env [(3, v), (0, .fz k (tens A)), (4, .int .i64 ((j : Nat) : Int))] →
   VC fs ms B false (.loop L_escapementref28_Good_0) env h Q := by
 intro m
 induction m with
 | zero =>
  intro j h env v hm hj hr fr henv
  have hjl : j = A.length := by omega
  subst hjl
  refine vc_slots 5 _ henv ?_
  refine vc_loopV (vpC_sound (z := true) ?_)
  set_option smartUnfolding false in conv => whnf
  refine brf (by simp [len_tens]) (fun hc => ?_)
  (try rw [hc])
  set_option smartUnfolding false in conv => whnf
  rw [List.take_length] at hr
  exact hQ _ h v hr fr ⟨rfl, trivial⟩
 | succ m ih =>
  intro j h env v hm hj hr fr henv
  have hlt : j < A.length := by omega
  have hix := idx_ten (k := k) hlt
  have hnx := goodR_next hlt
  obtain ⟨hk, hlo⟩ := hA _ (List.getElem_mem hlt)
  have hgl := goodR_len (A.take j)
  rw [List.length_take] at hgl
  generalize hX : A[j] = x at *
  refine vc_slots 5 _ henv ?_
  refine vc_loopV (vc_seq true ?_)
  set_option smartUnfolding false in conv => whnf
  refine brt (by simp [len_tens]; omega) (fun hc => ?_)
  (try rw [hc])
  set_option smartUnfolding false in conv => whnf
  refine vc_seqV (vc_block (vc_seq true ?_))
  set_option smartUnfolding false in conv => whnf
  refine ⟨_, hix, ?_⟩
  set_option smartUnfolding false in conv => whnf
  refine ⟨.int .i64 x.2, rfl, ?_⟩
  set_option smartUnfolding false in conv => whnf
  refine vc_condV ?_
  set_option smartUnfolding false in conv => whnf
  refine br (fun hc => ?_) (fun hc => ?_) <;> (try rw [hc]) <;> (set_option smartUnfolding false in conv => whnf)
  ·have hz : x.2 = 0 := by simpa using hc
   rw [if_pos hz] at hnx
   refine vc_seq true ?_
   set_option smartUnfolding false in conv => whnf
   refine ⟨_, hix, ?_⟩
   set_option smartUnfolding false in conv => whnf
   refine ⟨tcm x.1, rfl, ?_⟩
   set_option smartUnfolding false in conv => whnf
   refine eff_o (sto_o get_new_same rfl (Nat.le_refl _) rfl) fun h2 e2 => ?_
   have f2 : Fr h h2 [] := by rw [e2]; exact ((Fr.refl h []).new).setn (Nat.le_refl _)
   have g2 : h2.get h.next = some (.cells (tcm x.1).cells true 0) := by rw [e2, get_set_same]; rfl
   have n2 : h2.next = h.next + 1 := by rw [e2]; rfl
   clear e2
   set_option smartUnfolding false in conv => whnf
   refine vc_seq true ?_
   set_option smartUnfolding false in conv => whnf
   refine vc_seq true ?_
   set_option smartUnfolding false in conv => whnf
   refine ⟨.fz x.1.kk (tops x.1.ops), ld1 g2 rfl, ?_⟩
   set_option smartUnfolding false in conv => whnf
   obtain ⟨w, g', ha, gr3, fr3⟩ := GR.copy (s := 3) (bytes := 32) (lo := h2.next) (k := x.1.kk) (h := h2) (M := tops x.1.ops) (Nat.le_refl _) (size_tops _) (flat_tops _) (by rw [len_tops]; omega) (by rw [len_tops]; omega)
   refine ⟨_, _, ha, ?_⟩
   obtain ⟨c1, c2, c3⟩ := GR.one gr3
   set_option smartUnfolding false in conv => whnf
   have g3 := (fr3.keep h.next (by omega) (by simp)).trans g2
   refine eff_o (sto_o g3 c2 (by show 0 + 0 + 5 + 1 ≤ 6; omega) c3) fun h4 e4 => ?_
   have f4 : Fr g' h4 [h.next] := by rw [e4]; exact (Fr.refl g' _).set (by simp)
   have g4 : h4.get h.next = some (.cells [.int .i64 x.1.k, .int .i64 x.1.p, .int .i64 x.1.t, .int .i64 x.1.n, .int .i64 x.1.m, w] true 0) := by rw [e4, get_set_same, c1]; rfl
   clear e4
   have gr4 := gr3.keep f4 (by simp; omega)
   obtain ⟨bs, hf, hbs⟩ := gr4.frz (size_tops _) (cl_tops _)
   rw [len_tops, ← hk] at hf
   set_option smartUnfolding false in conv => whnf
   refine vc_frz (h.next :: bs) (i := 5) (v := .ptr h.next 0) (v' := .fp (tcm x.1).cells 0) rfl (.ptr' (by simp) g4 (.cons (.clean rfl) (.cons (.clean rfl) (.cons (.clean rfl) (.cons (.clean rfl) (.cons (.clean rfl) (.cons (Frz.mono (by simp; intro b hb; exact .inr hb) hf) .nil))))))) ?_
   have hge : ∀ b ∈ h.next :: bs, h.next ≤ b := by
    intro b hb
    rcases List.mem_cons.1 hb with rfl | hb
    ·exact Nat.le_refl _
    ·have := hbs b hb; omega
   have fn := fr.next
   have fk : ∀ c, c < h.next → (delAll (h.next :: bs) h4).get c = h.get c := fun c hc => (delAll_get ..).trans ((if_neg (fun hb => by have := hge c hb; omega)).trans ((f4.keep c (by have := fr3.next; omega) (by simp; omega)).trans ((fr3.keep c (by omega) (by simp)).trans (f2.keep c hc (by simp)))))
   have hn : h.next ≤ (delAll (h.next :: bs) h4).next := by rw [delAll_next]; have := f4.next; have := fr3.next; omega
   have fr5 : Fr h0 (delAll (h.next :: bs) h4) [] := ⟨by omega, fun c hc _ => (fk c (by omega)).trans (fr.keep c hc (by simp))⟩
   have hr5 : GR 6 h0.next (delAll (h.next :: bs) h4) v (tcms (goodR (A.take j))) := by
    rcases hr with h | ⟨hne, b, b1, b2, b3, b4⟩
    ·exact .inl h
    ·exact .inr ⟨hne, b, b1, by omega, b3, (fk b b2).trans b4⟩
   generalize delAll (h.next :: bs) h4 = G at *
   refine vc_slots 5 [(3, v), (0, .fz k (tens A)), (4, .int .i64 ((j : Nat) : Int)), (5, .fp (tcm x.1).cells 0)] ⟨rfl, rfl, rfl, by rw [Tr.get_set, if_pos rfl], trivial⟩ ?_
   refine vpC_sound (z := true) ?_
   set_option smartUnfolding false in conv => whnf
   refine ⟨tcm x.1, rfl, ?_⟩
   set_option smartUnfolding false in conv => whnf
   obtain ⟨v', g6, ha6, gr6, hn6, hk6⟩ := GR.app (bytes := 64) hr5 fr5.next (x := tcm x.1) rfl rfl (size_tcms _) (by rw [len_tcms]; omega) (by rw [len_tcms]; omega)
   refine ⟨_, _, ha6, ?_⟩
   set_option smartUnfolding false in conv => whnf
   refine vpC_sound (z := true) ?_
   set_option smartUnfolding false in conv => whnf
   refine ih (j + 1) g6 _ v' (by omega) (by omega) (by rw [hnx, tcms, List.map_append]; exact gr6) (fr5.app hn6 (fun c hc => hk6 c hc)) ⟨rfl, rfl, inc_slot (by omega), trivial⟩
  ·have hz : ¬ x.2 = 0 := by simpa using hc
   rw [if_neg hz, List.append_nil] at hnx
   refine vpC_sound (z := true) ?_
   set_option smartUnfolding false in conv => whnf
   refine vpC_sound (z := true) ?_
   set_option smartUnfolding false in conv => whnf
   refine ih (j + 1) h _ v (by omega) (by omega) (by rw [hnx]; exact hr) fr ⟨rfl, rfl, inc_slot (by omega), trivial⟩
theorem rgood_c {k : Nat} {A : List (TCmd × Int)} (hl : A.length ≤ 100000) (hA : ∀ x ∈ A, KindR x) {h : Heap} {Q : AV → Heap → Prop} (hQ : ∀ h', Fr h h' [] → Q (.fz (growK (goodR A).length) (tcms (goodR A))) h') : VD fs ms f_escapementref28_Good [.fz k (tens A)] h Q := by
 refine vd_frzR ?_
 refine vd_begin (af := C_escapementref28_Good) rfl (yB rfl) ?_
 set_option smartUnfolding false in conv => whnf
 refine vc_seq true ?_
 set_option smartUnfolding false in conv => whnf
 refine vc_seq true ?_
 set_option smartUnfolding false in conv => whnf
 refine vc_seqV (vc_seq true ?_)
 set_option smartUnfolding false in conv => whnf
 refine vc_block ?_
 refine rgood_l (h0 := h) hl hA ?_ A.length 0 h _ .nils rfl (Nat.zero_le _) (.inl ⟨rfl, rfl⟩) (Fr.refl _ _) ⟨rfl, rfl, rfl, trivial⟩
 intro e' h' v hr fr h3
 show VC fs ms h.next false _ _ _ _
 refine vc_slots 3 _ h3 (vpC_sound (z := true) ?_)
 set_option smartUnfolding false in conv => whnf
 obtain ⟨bs, hf, hbs⟩ := hr.frz (size_tcms _) (cl_tcms _)
 rw [len_tcms] at hf
 exact ⟨bs, _, hf, hQ _ (fr_delB hbs fr)⟩
def tcL (p : TCmd × AV) : AV := .agg [.int .i64 p.1.k, .int .i64 p.1.p, .int .i64 p.1.t, .int .i64 p.1.n, .int .i64 p.1.m, p.2]
def tcLs (l : List (TCmd × AV)) : List AV := l.map tcL
theorem len_tcLs (l : List (TCmd × AV)) : (tcLs l).length = l.length := List.length_map ..
theorem size_tcLs (l : List (TCmd × AV)) : allSize 6 (tcLs l) = true := allSize_map (enc := tcL) (fun _ => rfl) l
theorem GR.es {s lo : Nat} {h : Heap} {v : AV} {M : List AV} (hr : GR s lo h v M) {d : Nat} (ho : OwnB v d) : ∃ cs, h.get d = some (.cells cs true s) := by
 obtain ⟨o, n, c, p, rfl⟩ := ho
 rcases hr with ⟨_, h⟩ | ⟨_, b, h1, h2, h3, h4⟩
 ·simp at h
 ·simp only [AV.sl.injEq] at h3
  obtain ⟨rfl, _⟩ := h3
  exact ⟨_, h4⟩
theorem GR.mv {s lo : Nat} {h h' : Heap} {v : AV} {M : List AV} (hr : GR s lo h v M) (hn : h.next ≤ h'.next) (hk : ∀ d, OwnB v d → h'.get d = h.get d) : GR s lo h' v M := by
 rcases hr with h | ⟨hne, b, h1, h2, rfl, h4⟩
 ·exact .inl h
 ·exact .inr ⟨hne, b, h1, by omega, rfl, (hk b ⟨_, _, _, _, rfl⟩).trans h4⟩
structure NL (lo : Nat) (h : Heap) (v : AV) (W : List (TCmd × AV)) (i : Nat) : Prop where
 row : GR 6 lo h v (tcLs W)
 live : ∀ j (hj : j < W.length), i ≤ j → GR 3 lo h W[j].2 (tops W[j].1.ops)
 low : ∀ j (hj : j < W.length) b, OwnB W[j].2 b → lo ≤ b ∧ b < h.next ∧ ∃ cs, cs.length = W[j].1.ops.length * 3 ∧ h.get b = some (.cells cs true 3)
 val : ∀ j (hj : j < W.length), (W[j].1.ops = [] ∧ W[j].2 = .nils) ∨ ∃ b, W[j].2 = .sl b 0 W[j].1.ops.length W[j].1.ops.length true
 dist : ∀ j k (hj : j < W.length) (hk : k < W.length) b, OwnB W[j].2 b → OwnB W[k].2 b → j = k
theorem NL.keep {lo : Nat} {h h' : Heap} {v : AV} {W : List (TCmd × AV)} {i : Nat} (hr : NL lo h v W i) {T : List Nat} (fr : Fr h h' T) (hT : ∀ c ∈ T, c < lo) : NL lo h' v W i := by
 refine ⟨hr.row.keep fr hT, fun j hj hi => (hr.live j hj hi).keep fr hT, fun j hj b hb => ?_, hr.val, hr.dist⟩
 obtain ⟨h1, h2, cs, h3, h4⟩ := hr.low j hj b hb
 exact ⟨h1, Nat.lt_of_lt_of_le h2 fr.next, cs, h3, (fr.keep b h2 (fun hm => by have := hT b hm; omega)).trans h4⟩
theorem cloneL_c (l : List TOp) (hl : l.length ≤ 100000) {h : Heap} {Q : AV → Heap → Prop} (hQ : ∀ v h', GR 3 h.next h' v (tops l) → Fr h h' [] → Q v h') : VD fs ms f_slices_Clone_api_Op_api_Op [.fz (growK l.length) (tops l)] h Q := by
 refine vd_start (af := C_slices_Clone_api_Op_api_Op) true rfl (yB rfl) ?_
 cases hb : l with
 | nil =>
  set_option smartUnfolding false in conv => whnf
  exact hQ _ _ (by rw [hb]; exact .inl ⟨rfl, rfl⟩) (Fr.refl _ _)
 | cons x r =>
  set_option smartUnfolding false in conv => whnf
  have ha : eV (.append 3 32) [.sl h.next 0 0 0 false, .fz 0 (tops (x :: r))] (h.new (.cells [] true 0)) = some (.sl (h.next + 1) 0 (r.length + 1) (r.length + 1) true, (h.new (.cells [] true 0)).new (.cells (flatCells (tops (x :: r))) true 3)) := by
   have := app_lit (s := 3) (bytes := 32) (n := r.length) (b := h.next) (nx := (h.new (.cells [] true 0)).next) (tr := (h.new (.cells [] true 0)).m) (x := .fz 0 (tops (x :: r))) (cs := flatCells (tops (x :: r))) (wr := true) (es := 0) get_new_same (by omega) (by rw [hb] at hl; simp at hl; omega) (by
    have := src_fz (k := 0) (h := (h.new (.cells [] true 0))) (size_tops (x :: r))
    rw [len_tops] at this
    exact this) (flat_tops _)
   exact this
  refine ⟨_, _, ha, ?_⟩
  set_option smartUnfolding false in conv => whnf
  refine hQ _ _ ?_ ((Fr.refl _ _).new.new)
  rw [hb]
  exact .inr ⟨by simp [tops], h.next + 1, by omega, Nat.lt_succ_self _, by rw [len_tops]; rfl, get_new_same (h := h.new (.cells [] true 0))⟩
theorem NL.more {lo : Nat} {h g' : Heap} {v v' w : AV} {W : List (TCmd × AV)} {x : TCmd} (hr : NL lo h v W 0) (ha : GR 6 lo g' v' (tcLs W ++ [tcL (x, w)])) (hw : GR 3 lo h w (tops x.ops)) (hnew : ∀ j (hj : j < W.length) b, OwnB W[j].2 b → ¬ OwnB w b) (hn : h.next ≤ g'.next) (hk : ∀ d, d < h.next → ¬ OwnB v d → g'.get d = h.get d) : NL lo g' v' (W ++ [(x, w)]) 0 := by
 have hvo : ∀ d cs, h.get d = some (.cells cs true 3) → ¬ OwnB v d := by
  intro d cs hg ho
  obtain ⟨cs', hg'⟩ := GR.es hr.row ho
  rw [hg] at hg'
  simp at hg'
 have hat : ∀ j (hj : j < (W ++ [(x, w)]).length), (∃ hj' : j < W.length, (W ++ [(x, w)])[j] = W[j]) ∨ (j = W.length ∧ (W ++ [(x, w)])[j] = (x, w)) := by
  intro j hj
  by_cases h1 : j < W.length
  ·exact .inl ⟨h1, List.getElem_append_left h1⟩
  ·have : j = W.length := by simp at hj; omega
   subst this
   exact .inr ⟨rfl, by simp⟩
 have hkw : ∀ d, OwnB w d → g'.get d = h.get d := by
  intro d ho
  obtain ⟨cs, hg⟩ := GR.es hw ho
  exact hk d (GR.own hw ho).2 (hvo d cs hg)
 have hkj : ∀ j (hj : j < W.length) d, OwnB W[j].2 d → g'.get d = h.get d := by
  intro j hj d ho
  obtain ⟨h1, h2, cs, h3, h4⟩ := hr.low j hj d ho
  exact hk d h2 (hvo d cs h4)
 refine ⟨by rw [tcLs, List.map_append]; exact ha, fun j hj _ => ?_, fun j hj b hb => ?_, fun j hj => ?_, fun j k hj hk' b hb1 hb2 => ?_⟩
 ·rcases hat j hj with ⟨h1, h2⟩ | ⟨rfl, h2⟩
  ·rw [h2]
   exact GR.mv (hr.live j h1 (Nat.zero_le _)) hn (hkj j h1)
  ·rw [h2]
   exact GR.mv hw hn hkw
 ·rcases hat j hj with ⟨h1, h2⟩ | ⟨rfl, h2⟩
  ·rw [h2] at hb ⊢
   obtain ⟨q1, q2, cs, q3, q4⟩ := hr.low j h1 b hb
   exact ⟨q1, by omega, cs, q3, (hkj j h1 b hb).trans q4⟩
  ·rw [h2] at hb ⊢
   have q1 := GR.own hw hb
   refine ⟨q1.1, by omega, ?_⟩
   rcases hw with ⟨_, h0⟩ | ⟨_, b', k1, k2, k3, k4⟩
   ·simp only at hb
    rw [h0] at hb
    obtain ⟨o, n, c, p, h9⟩ := hb
    simp at h9
   ·simp only at hb
    rw [k3] at hb
    obtain ⟨o, n, c, p, h9⟩ := hb
    simp only [AV.sl.injEq] at h9
    obtain ⟨rfl, _⟩ := h9
    refine ⟨_, ?_, (hkw b' ⟨_, _, _, _, k3⟩).trans k4⟩
    rw [flat_size (size_tops _), len_tops]
 ·rcases hat j hj with ⟨h1, h2⟩ | ⟨rfl, h2⟩
  ·rw [h2]
   exact hr.val j h1
  ·rw [h2]
   rcases hw with ⟨h0, h9⟩ | ⟨_, b', k1, k2, k3, k4⟩
   ·exact .inl ⟨by simpa [tops] using h0, h9⟩
   ·exact .inr ⟨b', by rw [len_tops] at k3; exact k3⟩
 ·rcases hat j hj with ⟨h1, h2⟩ | ⟨rfl, h2⟩ <;> rcases hat k hk' with ⟨h3, h4⟩ | ⟨rfl, h4⟩
  ·rw [h2] at hb1; rw [h4] at hb2
   exact hr.dist j k h1 h3 b hb1 hb2
  ·rw [h2] at hb1; rw [h4] at hb2
   exact absurd hb2 (hnew j h1 b hb1)
  ·rw [h2] at hb1; rw [h4] at hb2
   exact absurd hb1 (hnew k h3 b hb2)
  ·rfl
theorem goodL_l {h0 : Heap} {k : Nat} {A : List (TCmd × Int)} (hl : A.length ≤ 100000) (hA : ∀ x ∈ A, KindR x) {B : Nat} {Q : AX → Env → Heap → Prop} (hQ : ∀ e' h' v W, NL h0.next h' v W 0 → W.map (·.1) = goodR A → Fr h0 h' [] → Tr.get e' 2 = some v → Q (.exit 0) e' h') :
  ∀ (m j : Nat) (h : Heap) (env : Env) (v : AV) (W : List (TCmd × AV)), A.length - j = m → j ≤ A.length → NL h0.next h v W 0 → W.map (·.1) = goodR (A.take j) → Fr h0 h [] →
   AllAt env [(2, v), (6, .fz k (tens A)), (7, .int .i64 ((A.length : Nat) : Int)), (8, .int .i64 ((j : Nat) : Int))] →
   VC fs ms B false (.loop L_tape_Good_0) env h Q := by
 intro m
 induction m with
 | zero =>
  intro j h env v W hm hj hr hW fr henv
  have hjl : j = A.length := by omega
  subst hjl
  refine vc_slots 5 _ henv ?_
  refine vc_loopV (vpC_sound (z := true) ?_)
  set_option smartUnfolding false in conv => whnf
  refine brf (by simp) (fun hc => ?_)
  (try rw [hc])
  set_option smartUnfolding false in conv => whnf
  rw [List.take_length] at hW
  exact hQ _ h v W hr hW fr rfl
 | succ m ih =>
  intro j h env v W hm hj hr hW fr henv
  have hlt : j < A.length := by omega
  have hix := idx_ten (k := k) hlt
  have hnx := goodR_next hlt
  obtain ⟨hk, hlo⟩ := hA _ (List.getElem_mem hlt)
  have hgl := goodR_len (A.take j)
  rw [List.length_take] at hgl
  have hwl : W.length = (goodR (A.take j)).length := by rw [← hW, List.length_map]
  generalize hX : A[j] = x at *
  refine vc_slots 5 _ henv ?_
  refine vc_loopV (vc_seq true ?_)
  set_option smartUnfolding false in conv => whnf
  refine vc_seq true ?_
  set_option smartUnfolding false in conv => whnf
  refine brt (by simp; omega) (fun hc => ?_)
  (try rw [hc])
  set_option smartUnfolding false in conv => whnf
  refine vc_seqV (vc_block (vc_seq true ?_))
  set_option smartUnfolding false in conv => whnf
  refine ⟨_, hix, ?_⟩
  set_option smartUnfolding false in conv => whnf
  refine ⟨ten x, rfl, ?_⟩
  set_option smartUnfolding false in conv => whnf
  refine eff_o (sto_o get_new_same rfl (Nat.le_refl _) rfl) fun h1 e1 => ?_
  have f1 : Fr h h1 [] := by rw [e1]; exact ((Fr.refl h []).new).setn (Nat.le_refl _)
  have g1 : h1.get h.next = some (.cells (ten x).cells true 0) := by rw [e1, get_set_same]; rfl
  have n1 : h1.next = h.next + 1 := by rw [e1]; rfl
  clear e1
  set_option smartUnfolding false in conv => whnf
  have hr1 := hr.keep f1 (by simp)
  have fr1 := fr.trans f1
  refine vc_seq true ?_
  set_option smartUnfolding false in conv => whnf
  refine ⟨.int .i64 x.2, ld1 g1 rfl, ?_⟩
  set_option smartUnfolding false in conv => whnf
  refine vc_condV ?_
  set_option smartUnfolding false in conv => whnf
  refine br (fun hc => ?_) (fun hc => ?_) <;> (try rw [hc]) <;> (set_option smartUnfolding false in conv => whnf)
  ·have hz : x.2 = 0 := by simpa using hc
   rw [if_pos hz] at hnx
   refine vc_seq true ?_
   set_option smartUnfolding false in conv => whnf
   refine ⟨tcm x.1, ldN g1 (by show 0 + 0 + 6 ≤ 7; omega), ?_⟩
   set_option smartUnfolding false in conv => whnf
   refine eff_o (sto_o get_new_same rfl (Nat.le_refl _) rfl) fun h2 e2 => ?_
   have f2 : Fr h1 h2 [] := by rw [e2]; exact ((Fr.refl h1 []).new).setn (Nat.le_refl _)
   have g2 : h2.get h1.next = some (.cells (tcm x.1).cells true 0) := by rw [e2, get_set_same]; rfl
   have n2 : h2.next = h1.next + 1 := by rw [e2]; rfl
   clear e2
   have hr2 := hr1.keep f2 (by simp)
   have fr2 := fr1.trans f2
   set_option smartUnfolding false in conv => whnf
   refine vc_seq true ?_
   set_option smartUnfolding false in conv => whnf
   refine ⟨.fz x.1.kk (tops x.1.ops), ld1 g2 rfl, ?_⟩
   set_option smartUnfolding false in conv => whnf
   rw [hk]
   refine cloneL_c x.1.ops hlo fun w h3 gr3 f3 => ?_
   have n3 := f3.next
   have g3 := (f3.keep h1.next (by omega) (by simp)).trans g2
   obtain ⟨c1, c2, c3⟩ := GR.one gr3
   set_option smartUnfolding false in conv => whnf
   refine eff_o (sto_o g3 c2 (by show 0 + 0 + 5 + 1 ≤ 6; omega) c3) fun h4 e4 => ?_
   have f4 : Fr h3 h4 [h1.next] := by rw [e4]; exact (Fr.refl h3 _).set (by simp)
   have g4 : h4.get h1.next = some (.cells [.int .i64 x.1.k, .int .i64 x.1.p, .int .i64 x.1.t, .int .i64 x.1.n, .int .i64 x.1.m, w] true 0) := by rw [e4, get_set_same, c1]; rfl
   have n4 : h4.next = h3.next := by rw [e4]; rfl
   clear e4
   have fn := fr.next
   have f14 : Fr h1 h4 [] := ⟨by omega, fun c hc _ => (f4.keep c (by omega) (by simp; omega)).trans ((f3.keep c (by omega) (by simp)).trans (f2.keep c hc (by simp)))⟩
   have hr4 := hr1.keep f14 (by simp)
   have fr4 := fr1.trans f14
   have gr4 : GR 3 h2.next h4 w (tops x.1.ops) := gr3.keep f4 (by simp; omega)
   set_option smartUnfolding false in conv => whnf
   refine vpC_sound (z := true) ?_
   set_option smartUnfolding false in conv => whnf
   refine ⟨tcL (x.1, w), ldN g4 (Nat.le_refl _), ?_⟩
   set_option smartUnfolding false in conv => whnf
   obtain ⟨v', g', ha, gr5, hn5, hk5⟩ := GR.appO (bytes := 64) hr4.row (x := tcL (x.1, w)) rfl (by rw [c1] at c3; exact c3) (size_tcLs _) (by rw [len_tcLs]; omega) (by rw [len_tcLs]; omega)
   refine ⟨_, _, ha, ?_⟩
   have hr5 : NL h0.next g' v' (W ++ [(x.1, w)]) 0 := by
    refine hr4.more (gr5.low (by omega)) (gr4.low (by omega)) (fun i hi b hb hb2 => ?_) hn5 hk5
    have q1 := (hr1.low i hi b hb).2.1
    have q2 := (GR.own gr4 hb2).1
    omega
   have hW5 : (W ++ [(x.1, w)]).map (·.1) = goodR (A.take (j + 1)) := by rw [hnx, List.map_append, hW]; rfl
   have fr5 : Fr h0 g' [] := ⟨by have := fr4.next; omega, fun c hc _ => (hk5 c (by have := fr4.next; omega) (fun ho => by have := (GR.own hr4.row ho).1; omega)).trans (fr4.keep c hc (by simp))⟩
   set_option smartUnfolding false in conv => whnf
   refine vpC_sound (z := true) ?_
   set_option smartUnfolding false in conv => whnf
   refine ih (j + 1) g' _ v' _ (by omega) (by omega) hr5 hW5 fr5 ⟨rfl, rfl, rfl, inc_slot (by omega), trivial⟩
  ·have hz : ¬ x.2 = 0 := by simpa using hc
   rw [if_neg hz, List.append_nil] at hnx
   refine vpC_sound (z := true) ?_
   set_option smartUnfolding false in conv => whnf
   refine vpC_sound (z := true) ?_
   set_option smartUnfolding false in conv => whnf
   refine ih (j + 1) h1 _ v W (by omega) (by omega) hr1 (by rw [hnx]; exact hW) fr1 ⟨rfl, rfl, rfl, inc_slot (by omega), trivial⟩
theorem goodL_c {k : Nat} {A : List (TCmd × Int)} (hl : A.length ≤ 100000) (hA : ∀ x ∈ A, KindR x) {h : Heap} {Q : AV → Heap → Prop} (hQ : ∀ v h' W, NL h.next h' v W 0 → W.map (·.1) = goodR A → Fr h h' [] → Q v h') : VD fs ms f_tape_Good [.fz k (tens A)] h Q := by
 refine vd_begin (af := C_tape_Good) rfl (yB rfl) ?_
 set_option smartUnfolding false in conv => whnf
 refine vc_seq true ?_
 set_option smartUnfolding false in conv => whnf
 refine vc_seqV (vc_seq true ?_)
 set_option smartUnfolding false in conv => whnf
 rw [len_tens]
 refine vc_block ?_
 refine goodL_l (h0 := h) hl hA ?_ A.length 0 h _ .nils [] rfl (Nat.zero_le _) ⟨.inl ⟨rfl, rfl⟩, by simp, by simp, by simp, by simp⟩ rfl (Fr.refl _ _) ⟨rfl, rfl, rfl, rfl, trivial⟩
 intro e' h' v W hr hW fr h2
 show VC fs ms h.next false _ _ _ _
 refine vc_slots 3 [(2, v)] ⟨h2, trivial⟩ (vpC_sound (z := true) ?_)
 set_option smartUnfolding false in conv => whnf
 exact hQ v h' W hr hW fr
theorem idx_slP {b o n cap j s : Nat} {op : Bool} (h : j < n) : pV (.iaddrS s) [.sl b o n cap op, .int .i64 (j : Nat)] = some (.ptr b (o + j * s)) := by
 have b1 : Nat.ble (j + 1) n = true := Nat.ble_eq_true_of_le (by omega)
 simp only [pV, l2, dNat]
 show cond (Nat.ble (j + 1) n) (some (AV.ptr b (o + j * s))) none = _
 rw [b1, cond_true]
theorem flat_row {s : Nat} : ∀ {M : List AV} {i : Nat} (hs : allSize s M = true) (hi : i < M.length), ((flatCells M).drop (i * s)).take s = M[i].cells
 | x :: M, 0, hs, hi => by
  have hx : x.cells.length = s ∧ allSize s M = true := by simpa [allSize] using hs
  show ((x.cells ++ flatCells M).drop (0 * s)).take s = x.cells
  rw [Nat.zero_mul, List.drop_zero, ← hx.1, List.take_left']
  rfl
 | x :: M, i + 1, hs, hi => by
  have hx : x.cells.length = s ∧ allSize s M = true := by simpa [allSize] using hs
  have ih := flat_row (i := i) hx.2 (by simpa using hi)
  rw [List.getElem_cons_succ]
  show ((x.cells ++ flatCells M).drop ((i + 1) * s)).take s = _
  rw [show (i + 1) * s = x.cells.length + i * s by rw [hx.1, Nat.add_mul]; omega, ← List.drop_drop, List.drop_left', ih]
  ·rfl
theorem xor_l {h0 : Heap} {I n : Nat} (hI : I < h0.next) {a5 a6 a7 a8 : AV} {B : Nat} {Q : AX → Env → Heap → Prop} (hQ : ∀ e' h', Fr h0 h' [I] → AllAt e' [(5, a5), (6, a6), (7, a7), (8, a8)] → Q (.exit 0) e' h') :
  ∀ (m j : Nat) (h : Heap) (env : Env) (L : List Int), n - j = m → j ≤ n → n < 2 ^ 62 → L.length = n → h.get I = some (.cells (bys L) true 1) → Fr h0 h [I] → AllAt env [(3, .sl I 0 n n true), (5, a5), (6, a6), (7, a7), (8, a8), (9, .int .i64 ((j : Nat) : Int))] →
   VC fs ms B false (.loop L_escapementlaw28_TapeParses_0) env h Q := by
 intro m
 induction m with
 | zero =>
  intro j h env L hm hj hn hL hg fr henv
  have he : j = n := by omega
  subst he
  refine vc_slots 5 _ henv ?_
  refine vc_loopV (vpC_sound (z := true) ?_)
  set_option smartUnfolding false in conv => whnf
  refine brf (by simp) (fun hc => ?_)
  (try rw [hc])
  set_option smartUnfolding false in conv => whnf
  exact hQ _ _ fr ⟨rfl, rfl, rfl, rfl, trivial⟩
 | succ m ih =>
  intro j h env L hm hj hn hL hg fr henv
  have hlt : j < n := by omega
  have hq : pV (.iaddrS 1) [.sl I 0 n n true, .int .i64 ((j : Nat) : Int)] = some (.ptr I (0 + j * 1)) := idx_slP hlt
  have hld : (bys L)[0 + j * 1]? = some (.int .u8 (L[j]'(by omega))) := by
   rw [show 0 + j * 1 = j by omega]
   simp [bys, List.getElem?_map, List.getElem?_eq_getElem (show j < L.length by omega)]
  generalize L[j]'(by omega) = c at hld
  refine vc_slots 5 _ henv ?_
  refine vc_loopV (vc_seq true ?_)
  set_option smartUnfolding false in conv => whnf
  refine brt (by simp; omega) (fun hc => ?_)
  (try rw [hc])
  set_option smartUnfolding false in conv => whnf
  refine vc_seqV (vc_block (vpC_sound (z := true) ?_))
  set_option smartUnfolding false in conv => whnf
  refine ⟨_, hq, ?_⟩
  set_option smartUnfolding false in conv => whnf
  refine ⟨_, ld1 hg hld, ?_⟩
  set_option smartUnfolding false in conv => whnf
  refine ⟨_, hq, ?_⟩
  set_option smartUnfolding false in conv => whnf
  refine eff_o (sto_o hg rfl (by rw [len_bys]; omega) rfl) fun h1 e1 => ?_
  have f1 : Fr h h1 [I] := by rw [e1]; exact (Fr.refl h _).set (by simp)
  have g1 : ∃ L1 : List Int, L1.length = n ∧ h1.get I = some (.cells (bys L1) true 1) := by
   obtain ⟨d, hd⟩ : ∃ d : Int, h1 = h.set I (.cells (Heap.splice (bys L) (0 + j * 1) [.int .u8 d]) true 1) := ⟨_, e1⟩
   rw [hd, get_set_same]
   refine ⟨L.set j d, by rw [List.length_set]; exact hL, ?_⟩
   rw [show 0 + j * 1 = j by omega, splice_at _ _ _ (by rw [len_bys]; omega), bys, bys, List.map_set]
  clear e1
  obtain ⟨L1, hL1, g1⟩ := g1
  set_option smartUnfolding false in conv => whnf
  refine vpC_sound (z := true) ?_
  set_option smartUnfolding false in conv => whnf
  refine ih (j + 1) h1 _ L1 (by omega) (by omega) hn hL1 g1 (fr.trans f1) ⟨rfl, rfl, rfl, rfl, rfl, inc_slot (by omega), trivial⟩
theorem neg_l {W : List (TCmd × AV)} {c i b n : Nat} (hi : i < W.length) (hWl : W.length ≤ 100000) (hw : W[i].2 = .sl b 0 n n true) (hn : n ≤ 100000) (hcb : c ≠ b) {h0 : Heap} (hb : b < h0.next) {a5 a7 a11 : AV} {B : Nat} {Q : AX → Env → Heap → Prop}
  (hQ : ∀ e' h', Fr h0 h' [b] → (∃ cs : List AV, cs.length = n * 3 ∧ h'.get b = some (.cells cs true 3)) → AllAt e' [(5, a5), (7, a7), (10, .sl c 0 W.length W.length true), (11, a11), (12, .int .i64 ((i : Nat) : Int))] → Q (.exit 4) e' h') :
  ∀ (m k : Nat) (h : Heap) (env : Env), n - k = m → k ≤ n → h.get c = some (.cells (flatCells (tcLs W)) true 6) → (∃ cs : List AV, cs.length = n * 3 ∧ h.get b = some (.cells cs true 3)) → Fr h0 h [b] →
   AllAt env [(5, a5), (7, a7), (10, .sl c 0 W.length W.length true), (11, a11), (12, .int .i64 ((i : Nat) : Int)), (13, .int .i64 ((k : Nat) : Int))] →
   VC fs ms B false (.loop L_escapementlaw28_TapeParses_2) env h Q := by
 have hq : pV (.iaddrS 6) [.sl c 0 W.length W.length true, .int .i64 ((i : Nat) : Int)] = some (.ptr c (0 + i * 6)) := idx_slP hi
 have hfl : (flatCells (tcLs W))[0 + i * 6 + 5]? = some (.sl b 0 n n true) := by
  rw [Nat.zero_add, ← hw]
  exact flat_at (z := 6) (size_tcLs W) (x := tcL W[i]) (by rw [tcLs, List.getElem?_map, List.getElem?_eq_getElem hi]; rfl) rfl
 intro m
 induction m with
 | zero =>
  intro k h env hm hk hR hg fr henv
  have he : k = n := by omega
  subst he
  refine vc_slots 5 _ henv ?_
  refine vc_loopV (vpC_sound (z := true) ?_)
  set_option smartUnfolding false in conv => whnf
  refine ⟨_, hq, ?_⟩
  set_option smartUnfolding false in conv => whnf
  refine ⟨_, ld1 hR hfl, ?_⟩
  set_option smartUnfolding false in conv => whnf
  refine brf (by simp) (fun hc => ?_)
  (try rw [hc])
  set_option smartUnfolding false in conv => whnf
  exact hQ _ _ fr hg ⟨rfl, rfl, rfl, rfl, rfl, trivial⟩
 | succ m ih =>
  intro k h env hm hk hR hg fr henv
  have hlt : k < n := by omega
  obtain ⟨cs, hcs, hg⟩ := hg
  have hq3 : pV (.iaddrS 3) [.sl b 0 n n true, .int .i64 ((k : Nat) : Int)] = some (.ptr b (0 + k * 3)) := idx_slP hlt
  refine vc_slots 5 _ henv ?_
  refine vc_loopV (vc_seq true ?_)
  set_option smartUnfolding false in conv => whnf
  refine ⟨_, hq, ?_⟩
  set_option smartUnfolding false in conv => whnf
  refine ⟨_, ld1 hR hfl, ?_⟩
  set_option smartUnfolding false in conv => whnf
  refine brt (by simp; omega) (fun hc => ?_)
  (try rw [hc])
  set_option smartUnfolding false in conv => whnf
  refine vc_seqV (vc_block (vpC_sound (z := true) ?_))
  set_option smartUnfolding false in conv => whnf
  refine ⟨_, hq, ?_⟩
  set_option smartUnfolding false in conv => whnf
  refine ⟨_, ld1 hR hfl, ?_⟩
  set_option smartUnfolding false in conv => whnf
  refine ⟨_, hq3, ?_⟩
  set_option smartUnfolding false in conv => whnf
  refine eff_o (sto_o hg rfl (by rw [hcs]; omega) rfl) fun h1 e1 => ?_
  have f1 : Fr h h1 [b] := by rw [e1]; exact (Fr.refl h _).set (by simp)
  have c1 : h1.get c = some (.cells (flatCells (tcLs W)) true 6) := by rw [e1]; exact (get_set_ne hcb).trans hR
  have g1 : ∃ cs : List AV, cs.length = n * 3 ∧ h1.get b = some (.cells cs true 3) := by
   rw [e1, get_set_same]
   refine ⟨_, ?_, rfl⟩
   rw [← hcs]
   exact Heap.length_splice _ _ _
  clear e1
  set_option smartUnfolding false in conv => whnf
  refine vpC_sound (z := true) ?_
  set_option smartUnfolding false in conv => whnf
  refine ih (k + 1) h1 _ (by omega) (by omega) c1 g1 (fr.trans f1) ⟨rfl, rfl, rfl, rfl, rfl, inc_slot (by omega), trivial⟩
theorem negs_l {W : List (TCmd × AV)} {lo c K : Nat} (hWl : W.length ≤ 100000) (hG : ∀ x ∈ W.map (·.1), KindR (x, 0)) {h0 : Heap} (hlo : lo ≤ h0.next) {a5 a7 : AV} {B : Nat} {Q : AX → Env → Heap → Prop} (hQ : ∀ e' h', AllAt e' [(5, a5), (7, a7)] → Q (.exit 2) e' h') :
  ∀ (m i : Nat) (h : Heap) (env : Env), W.length - i = m → i ≤ W.length → NL lo h (.sl c 0 W.length W.length true) W i → h.get c = some (.cells (flatCells (tcLs W)) true 6) →
   AllAt env [(5, a5), (7, a7), (10, .sl c 0 W.length W.length true), (11, .fz K (tcms (W.map (·.1)))), (12, .int .i64 ((i : Nat) : Int))] →
   VC fs ms B false (.loop L_escapementlaw28_TapeParses_1) env h Q := by
 intro m
 induction m with
 | zero =>
  intro i h env hm hi hr hR henv
  have he : i = W.length := by omega
  subst he
  refine vc_slots 5 _ henv ?_
  refine vc_loopV (vpC_sound (z := true) ?_)
  set_option smartUnfolding false in conv => whnf
  refine brf (by simp) (fun hc => ?_)
  (try rw [hc])
  set_option smartUnfolding false in conv => whnf
  exact hQ _ _ ⟨rfl, rfl, trivial⟩
 | succ m ih =>
  intro i h env hm hi hr hR henv
  have hlt : i < W.length := by omega
  have hq : pV (.iaddrS 6) [.sl c 0 W.length W.length true, .int .i64 ((i : Nat) : Int)] = some (.ptr c (0 + i * 6)) := idx_slP hlt
  have hix := idx_tcm (k := K) (l := W.map (·.1)) (j := i) (by simpa using hlt)
  rw [List.getElem_map] at hix
  obtain ⟨hk, hol⟩ := hG W[i].1 (List.mem_map.2 ⟨W[i], List.getElem_mem hlt, rfl⟩)
  have hlive := hr.live i hlt (Nat.le_refl _)
  have hfl : rV (.loadN 6) [.ptr c (0 + i * 6)] h = some (tcL W[i]) := by
   have hle : 0 + i * 6 + 6 ≤ (flatCells (tcLs W)).length := by rw [flat_size (size_tcLs W), len_tcLs]; omega
   rw [ldN hR hle, Nat.zero_add]
   have := flat_row (M := tcLs W) (i := i) (size_tcLs W) (by rw [len_tcLs]; exact hlt)
   rw [this]
   simp only [tcLs, List.getElem_map]
   rfl
  obtain ⟨bs, hf, -⟩ := hlive.frz (size_tops _) (cl_tops _)
  rw [len_tops] at hf
  have hfz : Frz (fun _ => True) h (tcL W[i]) (tcm W[i].1) := by
   unfold tcL tcm
   rw [show W[i].1.kk = growK W[i].1.ops.length from hk]
   exact .agg' (.cons (.clean rfl) (.cons (.clean rfl) (.cons (.clean rfl) (.cons (.clean rfl) (.cons (.clean rfl) (.cons (Frz.mono (fun _ _ => trivial) hf) .nil))))))
  refine vc_slots 5 _ henv ?_
  refine vc_loopV (vc_seq true ?_)
  set_option smartUnfolding false in conv => whnf
  refine brt (by simp; omega) (fun hc => ?_)
  (try rw [hc])
  set_option smartUnfolding false in conv => whnf
  refine vc_seqV (vc_block (vc_seqV (vc_seq true ?_)))
  set_option smartUnfolding false in conv => whnf
  refine ⟨_, hq, ?_⟩
  set_option smartUnfolding false in conv => whnf
  refine ⟨_, hfl, ?_⟩
  set_option smartUnfolding false in conv => whnf
  refine ⟨_, hix, ?_⟩
  set_option smartUnfolding false in conv => whnf
  refine ⟨tcm W[i].1, rfl, ?_⟩
  set_option smartUnfolding false in conv => whnf
  refine vd_view (rsame_c W[i].1 (by have : W[i].1.ops.length ≤ 100000 := hol; omega)) rfl (.cons hfz (.cons (.clean (cl_tcm _)) .nil)) ?_
  set_option smartUnfolding false in conv => whnf
  refine vpC_sound (z := true) ?_
  set_option smartUnfolding false in conv => whnf
  have hcont : ∀ e' h', NL lo h' (.sl c 0 W.length W.length true) W (i + 1) → h'.get c = some (.cells (flatCells (tcLs W)) true 6) → AllAt e' [(5, a5), (7, a7), (10, .sl c 0 W.length W.length true), (11, .fz K (tcms (W.map (·.1)))), (12, .int .i64 ((i : Nat) : Int))] →
    VC fs ms B false (.ops [zM 68 12, zP 69 (.bin .add) [.t 68, .c (.int .i64 1)], zM 12 69]) e' h' (fun x e1 h1 => match x with | .normal => VC fs ms B false (.loop L_escapementlaw28_TapeParses_1) e1 h1 Q | x => Q x e1 h1) := by
   intro e' h' hr' hR' ha
   refine vc_slots 5 _ ha (vpC_sound (z := true) ?_)
   set_option smartUnfolding false in conv => whnf
   exact ih (i + 1) h' _ (by omega) (by omega) hr' hR' ⟨rfl, rfl, rfl, rfl, inc_slot (by omega), trivial⟩
  refine vc_seq true ?_
  set_option smartUnfolding false in conv => whnf
  refine vc_block ?_
  rcases hr.val i hlt with ⟨hv1, hv2⟩ | ⟨b, hv⟩
  ·have hfl5 : (flatCells (tcLs W))[0 + i * 6 + 5]? = some .nils := by
    rw [Nat.zero_add, ← hv2]
    exact flat_at (z := 6) (size_tcLs W) (x := tcL W[i]) (by rw [tcLs, List.getElem?_map, List.getElem?_eq_getElem hlt]; rfl) rfl
   refine vc_slots 5 [(5, a5), (7, a7), (10, .sl c 0 W.length W.length true), (11, .fz K (tcms (W.map (·.1)))), (12, .int .i64 ((i : Nat) : Int)), (13, .int .i64 0)] ⟨rfl, rfl, rfl, rfl, rfl, rfl, trivial⟩ ?_
   refine vc_loopV (vpC_sound (z := true) ?_)
   set_option smartUnfolding false in conv => whnf
   refine ⟨_, hq, ?_⟩
   set_option smartUnfolding false in conv => whnf
   refine ⟨_, ld1 hR hfl5, ?_⟩
   set_option smartUnfolding false in conv => whnf
   exact hcont _ h ⟨hr.row, fun j hj hi => hr.live j hj (by omega), hr.low, hr.val, hr.dist⟩ hR ⟨rfl, rfl, rfl, rfl, rfl, trivial⟩
  ·have hob : OwnB W[i].2 b := ⟨_, _, _, _, hv⟩
   obtain ⟨q1, q2, cs, q3, q4⟩ := hr.low i hlt b hob
   have hcb : c ≠ b := by
    rintro rfl
    rw [q4] at hR
    simp at hR
   refine neg_l (h0 := h) (n := W[i].1.ops.length) hlt hWl hv hol hcb q2 ?_ W[i].1.ops.length 0 h _ rfl (Nat.zero_le _) hR ⟨cs, q3, q4⟩ (Fr.refl _ _) ⟨rfl, rfl, rfl, rfl, rfl, rfl, trivial⟩
   intro e' h' fr ⟨cs', r1, r2⟩ ha
   have hR' : h'.get c = some (.cells (flatCells (tcLs W)) true 6) := (fr.keep c (by
    rcases hr.row with ⟨h0, _⟩ | ⟨_, c', _, k2, k3, _⟩
    ·rw [← List.length_eq_zero_iff, len_tcLs] at h0; omega
    ·simp only [AV.sl.injEq] at k3
     rw [k3.1]; exact k2) (by simpa using hcb)).trans hR
   refine hcont e' h' ⟨?_, fun j hj hji => ?_, fun j hj d hd => ?_, hr.val, hr.dist⟩ hR' ha
   ·refine GR.mv hr.row fr.next fun d hd => ?_
    obtain ⟨o, n, c', p, h9⟩ := hd
    simp only [AV.sl.injEq] at h9
    rw [← h9.1]
    exact hR'.trans hR.symm
   ·refine GR.mv (hr.live j hj (by omega)) fr.next fun d hd => ?_
    refine fr.keep d (hr.low j hj d hd).2.1 ?_
    simp only [List.mem_singleton]
    rintro rfl
    have := hr.dist j i hj hlt d hd hob
    omega
   ·obtain ⟨s1, s2, ds, s3, s4⟩ := hr.low j hj d hd
    by_cases hdb : d = b
    ·subst hdb
     have := hr.dist j i hj hlt d hd hob
     subst this
     exact ⟨s1, Nat.lt_of_lt_of_le s2 fr.next, cs', r1, r2⟩
    ·exact ⟨s1, Nat.lt_of_lt_of_le s2 fr.next, ds, s3, (fr.keep d s2 (by simpa using hdb)).trans s4⟩
theorem sliceB_fz {k n : Nat} {b : List Int} (hn : n ≤ b.length) : pV (.slice 1 false true false) [.fz k (bys b), .int .i64 ((n : Nat) : Int)] = some (.fz (sliceKind k false n b.length b.length) (bys (b.take n))) := by
 have hb : bounds (bys b).length (bys b).length false true false [.int .i64 ((n : Nat) : Int)] = some (0, n, (bys b).length) := by
  have h0 : asNat (.int .i64 ((n : Nat) : Int)) = some n := by simp [asNat]
  simp only [bounds, h0, Option.map_some]
  rw [Nat.ble_eq_true_of_le (Nat.zero_le _), Nat.ble_eq_true_of_le (show n ≤ (bys b).length by rw [len_bys]; exact hn), Nat.ble_eq_true_of_le (Nat.le_refl _)]
  rfl
 show sliceV 1 false true false k (bys b) [.int .i64 ((n : Nat) : Int)] = _
 rw [sliceV, hb]
 have : (Nat.beq 0 b.length && Nat.beq k 0 && !Nat.beq 0 0) = false := by simp
 simp only [len_bys, this, cond_false, size_bys, cond_true, List.drop_zero, Nat.sub_zero]
 rw [bys, bys, List.map_take]
theorem min3000 (n : Nat) : (bif decide ((3000 : Int) < (n : Int)) then (3000 : Int) else (n : Int)) = ((min n 3000 : Nat) : Int) := by
 by_cases h : (3000 : Int) < n
 ·rw [decide_eq_true h]
  simp only [cond_true]
  omega
 ·rw [decide_eq_false h]
  simp only [cond_false]
  omega
theorem entR_kind {X : List Int} (h : okB X) : KindR (entR X) := by
 refine ⟨rfl, ?_⟩
 show (resO X).length ≤ 100000
 unfold resO
 split
 ·unfold finS
  rw [opsN_l]
  have hr : okB (rdN 5 (X, 0)).2.1 := numS_ok (numS_ok (numS_ok (numS_ok (numS_ok h))))
  have := numS_le (m := 32) hr (by omega)
  unfold manyS
  omega
 ·simp
theorem parN_kind : ∀ (m : Nat) (X : List Int) (A : List (TCmd × Int)), okB X → (∀ x ∈ A, KindR x) → (∀ x ∈ (parN m X A).1, KindR x) ∧ (parN m X A).1.length ≤ A.length + m
 | 0, X, A, _, hA => ⟨hA, Nat.le_refl _⟩
 | m + 1, X, A, hX, hA => by
  unfold parN
  split
  ·exact ⟨hA, by simp⟩
  ·split
   ·exact ⟨hA, by simp⟩
   ·split
    ·exact ⟨hA, by simp⟩
    ·have hS : okB (numS 4096 (X, 0)).2.1 := numS_ok (S := (X, 0)) hX
     have ih := parN_kind m _ (A ++ [entR ((numS 4096 (X, 0)).2.1.take (numS 4096 (X, 0)).1.toNat)]) (hS.drop (numS 4096 (X, 0)).1.toNat) (by
      intro x hx
      rcases List.mem_append.1 hx with h | h
      ·exact hA x h
      ·rw [List.mem_singleton] at h
       rw [h]
       exact entR_kind (hS.take _))
     refine ⟨ih.1, Nat.le_trans ih.2 ?_⟩
     simp
     omega
theorem parseG_c {I : Nat} {L X : List Int} {v : AV} {h : Heap} (hs : SvP h I L v X) (hl : X.length ≤ 100000) {Q : AV → Heap → Prop} (hQ : ∀ h', Fr h h' [] → Q (.tup [.fz (growK (par X).1.length) (tens (par X).1), .int .i64 (par X).2]) h') : VD fs ms f_tape_Parse [v] h Q := by
 refine vd_frzR (parse_c hs hl fun w h' gr fr => ?_)
 obtain ⟨bs, hf, hb⟩ := gr.frz (size_tens _) (cl_tens _)
 rw [len_tens] at hf
 exact ⟨bs, _, .tup' (.cons hf (.cons (.clean rfl) .nil)), hQ _ (fr_delB hb fr)⟩
theorem tapeParses_c (hw : PC fs ms f_escapementlaw28_works [] (.bool true)) (k : Nat) (b : List Int) (hb : okB b) : PC fs ms f_escapementlaw28_TapeParses [.fz k (bys b)] (.bool true) := by
 refine pc_of (by simp [clL, AV.cl, cl_bys]) rfl ?_
 refine vd_begin (af := C_escapementlaw28_TapeParses) rfl (yB rfl) ?_
 generalize hQ : (fun (v : AV) (_ : Heap) => v = .bool true) = Q
 have hsl : pV (.slice 1 false true false) [.fz k (bys b), .int .i64 (bif decide ((3000 : Int) < (((bys b).length : Nat) : Int)) then (3000 : Int) else (((bys b).length : Nat) : Int))] = some (.fz (sliceKind k false (min b.length 3000) b.length b.length) (bys (b.take (min b.length 3000)))) := by
  rw [min3000, len_bys, sliceB_fz (Nat.min_le_left _ _)]
 have hXl : (b.take (min b.length 3000)).length ≤ 3000 := by rw [List.length_take]; omega
 have hXo := hb.take (min b.length 3000)
 generalize sliceKind k false (min b.length 3000) b.length b.length = k1 at hsl
 generalize b.take (min b.length 3000) = X at *
 obtain ⟨hAk, hAl⟩ := parN_kind X.length X [] hXo (by simp)
 change ∀ x ∈ (par X).1, KindR x at hAk
 change (par X).1.length ≤ _ at hAl
 set_option smartUnfolding false in conv => whnf
 refine vc_seq true ?_
 set_option smartUnfolding false in conv => whnf
 refine vc_seq true ?_
 set_option smartUnfolding false in conv => whnf
 refine ⟨_, hsl, ?_⟩
 set_option smartUnfolding false in conv => whnf
 refine cpy_c X (by omega) fun v1 h1 br1 fr1 => ?_
 set_option smartUnfolding false in conv => whnf
 obtain ⟨I, hI, sv, hg⟩ := br1.sv
 have hs1 : SvP h1 I X v1 X := ⟨sv, hg, hXo, by omega⟩
 refine vc_seq true ?_
 set_option smartUnfolding false in conv => whnf
 refine cpyS_c hs1 (by omega) fun v2 h2 br2 fr2 => ?_
 set_option smartUnfolding false in conv => whnf
 obtain ⟨J, hJ, sv2, hg2⟩ := br2.sv
 refine vc_seq true ?_
 set_option smartUnfolding false in conv => whnf
 refine parseG_c (hs1.keep fr2 (.inr (by simp))) (by omega) fun h3 fr3 => ?_
 set_option smartUnfolding false in conv => whnf
 have hs3 : SvP h3 J X v2 X := (SvP.mk sv2 hg2 hXo (by omega) : SvP h2 J X v2 X).keep fr3 (.inr (by simp))
 refine vc_seq true ?_
 set_option smartUnfolding false in conv => whnf
 refine rparse_c hs3 (by omega) fun h4 fr4 => ?_
 have br4 : BR h1.next.pred.succ h4 v1 X ∨ True := .inr trivial
 clear br4
 set_option smartUnfolding false in conv => whnf
 generalize hA : (par X).1 = A at *
 generalize hE : (par X).2 = E at *
 refine vc_seqV (vc_seq true ?_)
 set_option smartUnfolding false in conv => whnf
 refine vc_block ?_
 refine VC.mono (Q := fun x e h => x = .exit 0 ∧ AllAt e [(5, .fz (growK A.length) (tens A)), (6, .int .i64 E), (7, .fz (growK A.length) (tens A)), (8, .int .i64 E)]) ?_ ?_
 ·rcases br1 with ⟨hz, rfl⟩ | ⟨hne, c, q1, q2, rfl, q4⟩
  ·refine vc_slots 5 [(3, .nils), (5, .fz (growK A.length) (tens A)), (6, .int .i64 E), (7, .fz (growK A.length) (tens A)), (8, .int .i64 E), (9, .int .i64 0)] ⟨rfl, rfl, rfl, rfl, rfl, rfl, trivial⟩ ?_
   refine vc_loopV (vpC_sound (z := true) ?_)
   set_option smartUnfolding false in conv => whnf
   exact ⟨rfl, rfl, rfl, rfl, rfl, trivial⟩
  ·have n2 := fr2.next
   have n3 := fr3.next
   have n4 := fr4.next
   have g4 : h4.get c = some (.cells (bys X) true 1) := by
    rw [flat_bys] at q4
    exact (fr4.keep c (by omega) (by simp)).trans ((fr3.keep c (by omega) (by simp)).trans ((fr2.keep c (by omega) (by simp)).trans q4))
   refine xor_l (h0 := h4) (I := c) (n := X.length) (by omega) ?_ X.length 0 h4 _ X rfl (Nat.zero_le _) (by omega) rfl g4 (Fr.refl _ _) ⟨by rw [len_bys]; rfl, rfl, rfl, rfl, rfl, rfl, trivial⟩
   intro e' h' _ ha
   exact ⟨rfl, ha⟩
 rintro x e5 h5 ⟨rfl, ha5⟩
 show VC fs ms _ false _ _ _ _
 have hA2 : ∀ x ∈ A, x.1.ops.length < 2 ^ 62 := fun x hx => by have := (hAk x hx).l; omega
 have hAl2 : A.length ≤ 100000 := by simp at hAl; omega
 refine vc_slots 5 _ ha5 ?_
 refine vc_seqV (vc_seq true ?_)
 set_option smartUnfolding false in conv => whnf
 refine vd_pure (sameA_c _ _ A hAl2 hA2) ?_
 set_option smartUnfolding false in conv => whnf
 rw [bne_same]
 set_option smartUnfolding false in conv => whnf
 refine vpC_sound (z := true) ?_
 set_option smartUnfolding false in conv => whnf
 refine vc_seq true ?_
 set_option smartUnfolding false in conv => whnf
 refine goodL_c hAl2 hAk fun v6 h6 W hN hW fr6 => ?_
 set_option smartUnfolding false in conv => whnf
 refine rgood_c hAl2 hAk fun h7 fr7 => ?_
 set_option smartUnfolding false in conv => whnf
 have hN7 := hN.keep fr7 (by simp)
 have hlen := GR.len hN7.row
 have hWl : W.length = (goodR A).length := by rw [← hW, List.length_map]
 have hgl := goodR_len A
 refine vc_seqV (vc_seq true ?_)
 set_option smartUnfolding false in conv => whnf
 rw [hlen]
 set_option smartUnfolding false in conv => whnf
 refine vc_condV ?_
 set_option smartUnfolding false in conv => whnf
 refine brf (by rw [len_tcLs, len_tcms, hWl]; exact bne_same _) (fun hc => ?_)
 (try rw [hc])
 set_option smartUnfolding false in conv => whnf
 refine vpC_sound (z := true) ?_
 set_option smartUnfolding false in conv => whnf
 refine vc_seqV (vc_seq true ?_)
 set_option smartUnfolding false in conv => whnf
 refine vc_block ?_
 refine VC.mono (Q := fun x e h => x = .exit 2 ∧ AllAt e [(5, .fz (growK A.length) (tens A)), (7, .fz (growK A.length) (tens A))]) ?_ ?_
 ·have hG : ∀ x ∈ W.map (·.1), KindR (x, 0) := by
   rw [hW]
   intro x hx
   obtain ⟨y, hy, rfl⟩ := List.mem_map.1 hx
   have := hAk y (List.mem_filter.1 hy).1
   exact ⟨this.k, this.l⟩
  rcases hN7.row with ⟨hz, rfl⟩ | ⟨hne, c, q1, q2, q3, q4⟩
  ·refine vc_slots 5 [(5, .fz (growK A.length) (tens A)), (7, .fz (growK A.length) (tens A)), (10, .nils), (12, .int .i64 0)] ⟨rfl, rfl, rfl, rfl, trivial⟩ ?_
   refine vc_loopV (vpC_sound (z := true) ?_)
   set_option smartUnfolding false in conv => whnf
   exact ⟨rfl, rfl, rfl, trivial⟩
  ·rw [len_tcLs] at q3
   subst q3
   refine negs_l (W := W) (lo := h5.next) (c := c) (K := growK (goodR A).length) (by omega) hG (h0 := h7) (by have := fr6.next; have := fr7.next; omega) ?_ W.length 0 h7 _ rfl (Nat.zero_le _) hN7 q4 ⟨rfl, rfl, rfl, by rw [hW]; rfl, rfl, trivial⟩
   intro e' h' ha
   exact ⟨rfl, ha⟩
 rintro x e8 h8 ⟨rfl, ha8⟩
 show VC fs ms _ false _ _ _ _
 refine vc_slots 5 _ ha8 (vpC_sound (z := true) ?_)
 set_option smartUnfolding false in conv => whnf
 refine vd_pure (sameA_c _ _ A hAl2 hA2) ?_
 set_option smartUnfolding false in conv => whnf
 refine vd_pure hw ?_
 set_option smartUnfolding false in conv => whnf
 subst hQ
 rfl
end Ir
end Go.Proofs.YtmnolnoeibhjgaaGreat
