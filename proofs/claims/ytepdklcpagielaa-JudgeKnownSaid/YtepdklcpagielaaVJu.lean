/-
  Judge: the state behind a row of notes, in plain Lean. Judge: the walk through the notes. Judge: Find.
-/
import Derived.Test.YtepdklcpagielaaVJf
import Derived.Test.YtepdklcpagielaaVCf
set_option maxRecDepth 100000
set_option linter.unusedSimpArgs false
set_option linter.unusedVariables false
namespace Go.Proofs.Ytepdklcpagielaa
open Go Ads
namespace Ir
structure Inv (s : Ks) : Prop where
 now : 0 ≤ s.2.2.1
 wf : WFp s.1 s.2.1
 ts : ∀ c ∈ s.1, c.ts.length ≤ 4
 len : s.2.1.length = 4
 le : s.1.length ≤ 4
theorem turnS_ts (c : Pt) (p : Pr) (x : Nt) : (turnS c p x).1.ts = c.ts := by
 unfold turnS
 split
 ·rfl
 ·split <;> rfl
theorem turnS_has (c : Pt) (p : Pr) (x : Nt) : (turnS c p x).2.1.has = true → p.has = true ∧ (turnS c p x).2.1.task = p.task := by
 unfold turnS
 split
 ·intro h; simp [pr0] at h
 ·split
  ·intro h; simp [fresh, pr0] at h
  ·intro h; exact ⟨h, rfl⟩
theorem doesS_has (p : Pr) (x : Nt) (t : Tk) : (doesS p x t).has = true → (p.has = true ∧ (doesS p x t).task = p.task) ∨ (x.k = 5 ∧ (doesS p x t).task = x.t) := by
 unfold doesS
 split
 ·intro h
  obtain ⟨a, b⟩ := setJob_has p x.t.toNat { p.job x.t.toNat with ran := IntKind.i64.wrap ((p.job x.t.toNat).ran + 1) }
  exact .inl ⟨a ▸ h, b⟩
 ·split
  ·split
   ·intro h
    obtain ⟨a, b⟩ := setJob_has p x.t.toNat ⟨true, x.a, 0, IntKind.i64.wrap (x.a + t.p)⟩
    exact .inl ⟨a ▸ h, b⟩
   ·intro h
    exact .inl ⟨h, rfl⟩
  ·split
   ·intro h
    obtain ⟨a, b⟩ := setJob_has p x.t.toNat { p.job x.t.toNat with is := false }
    simp only [Bool.and_eq_true] at h
    exact .inl ⟨h.1, b⟩
   ·split
    ·rename_i h5
     split
     ·intro _
      exact .inr ⟨by simpa using h5, rfl⟩
     ·intro h
      exact .inl ⟨h, rfl⟩
    ·intro h
     exact .inl ⟨h, rfl⟩
theorem wf_set {cs : List Pt} {ps : List Pr} {i : Nat} {p' : Pr} (hw : WFp cs ps) (hc : ∀ (h : i < cs.length), p'.has = true → 0 ≤ p'.task ∧ p'.task < (cs[i].ts.length : Nat)) : WFp cs (ps.set i p') := by
 intro j hj hp hh
 have hp' : j < ps.length := by simpa using hp
 by_cases h : i = j
 ·subst h
  rw [List.getElem_set_self] at hh ⊢
  exact hc hj hh
 ·rw [List.getElem_set_ne h] at hh ⊢
  exact hw j hj hp' hh
theorem wf_cs {cs cs' : List Pt} {ps : List Pr} (hw : WFp cs ps) (hl : cs'.length = cs.length) (he : ∀ (i : Nat) (h : i < cs.length) (h' : i < cs'.length), cs'[i].ts = cs[i].ts) : WFp cs' ps := by
 intro j hj hp hh
 rw [he j (hl ▸ hj) hj]
 exact hw j (hl ▸ hj) hp hh
theorem set_ts {cs : List Pt} {i : Nat} {c' : Pt} (hc : ∀ (h : i < cs.length), c'.ts = cs[i].ts) : ∀ (j : Nat) (h : j < cs.length) (h' : j < (cs.set i c').length), (cs.set i c')[j].ts = cs[j].ts := by
 intro j h h'
 by_cases e : i = j
 ·subst e
  rw [List.getElem_set_self]
  exact hc h
 ·rw [List.getElem_set_ne e]
theorem inv_note {un : Int} {s s' : Ks} {x : Nt} (hi : Inv s) (h : noteS un s x = .inr s') : Inv s' := by
 unfold noteS at h
 split at h
 ·simp at h
 rename_i hs
 have hs : shapedS s.1 s.2.2.1 un x = true := by simpa using hs
 obtain ⟨a1, a2, k1, k8, p1, p2, tw, tn⟩ := shaped_yes hs
 split at h
 ·simp at h
 rename_i ps now ran gone hto
 obtain ⟨hsame, hnow⟩ := toS_same hto
 simp only at hsame hnow
 have hwf := hsame.wf hi.wf
 obtain ⟨i, hic, hxp, htk⟩ := tasks_at p1 p2
 have hlen : ps.length = 4 := hsame.1.trans hi.len
 have hip : i < ps.length := by have := hi.le; omega
 have h0 : 0 ≤ now := by have := hi.now; omega
 rw [htk] at tn
 unfold noteB at h
 rw [show x.p.toNat = i by omega, show ps.getD i pr0 = ps[i] by simp [List.getD_eq_getElem?_getD, List.getElem?_eq_getElem hip], show s.1.getD i pt0 = s.1[i] by simp [List.getD_eq_getElem?_getD, List.getElem?_eq_getElem hic]] at h
 unfold noteC at h
 split at h
 ·simp at h
 split at h
 ·simp at h
 split at h
 ·simp at h
 have hold := fun hh => hwf i hic hip hh
 split at h
 ·simp only [Sum.inr.injEq] at h
  subst h
  refine ⟨h0, ?_, ?_, by simpa using hlen, by simpa using hi.le⟩
  ·refine wf_cs (cs := s.1) (wf_set hwf fun hc hh => ?_) (by simp) (set_ts fun hc => turnS_ts _ _ _)
   obtain ⟨a, b⟩ := turnS_has _ _ _ hh
   rw [b]
   exact hold a
  ·intro c hc
   rcases List.mem_or_eq_of_mem_set hc with h1 | h1
   ·exact hi.ts c h1
   ·rw [h1, turnS_ts]
    exact hi.ts _ (List.getElem_mem hic)
 ·rename_i hw
  split at h
  ·simp at h
  split at h
  ·simp at h
  simp only [Sum.inr.injEq] at h
  subst h
  refine ⟨h0, ?_, hi.ts, by simpa using hlen, hi.le⟩
  refine wf_set hwf fun hc hh => ?_
  have e1 : ∀ q : Pr, (if (x.k == 1) = true then { q with ran := IntKind.i64.wrap (q.ran + 1) } else q).has = q.has ∧ (if (x.k == 1) = true then { q with ran := IntKind.i64.wrap (q.ran + 1) } else q).task = q.task := fun q => by split <;> exact ⟨rfl, rfl⟩
  obtain ⟨q1, q2⟩ := e1 ps[i]
  simp only at hh ⊢
  generalize (if (x.k == 1) = true then { ps[i] with ran := IntKind.i64.wrap (ps[i].ran + 1) } else ps[i]) = q at *
  split at hh
  ·rename_i ht
   rw [if_pos ht]
   rcases doesS_has _ _ _ hh with ⟨a, b⟩ | ⟨a, b⟩
   ·rw [b, q2]
    exact hold (q1 ▸ a)
   ·rw [b]
    have := tn (by simpa using hw)
    omega
  ·rename_i ht
   rw [if_neg ht, q2]
   exact hold (q1 ▸ hh)
def runS (un : Int) : Nat → Ks → List Nt → (Int × Nat) ⊕ Ks
 | _, s, [] => .inr s
 | j, s, x :: l => match noteS un s x with
  | .inl r => .inl (r, j)
  | .inr s => runS un (j + 1) s l
def findS (un : Int) (s : Ks) (l : List Nt) : Int × Nat := match runS un 0 s l with
 | .inl r => r
 | .inr s => match toS s.1.length (un - s.2.2.1).toNat s.2.1 s.2.2.1 s.2.2.2.1 s.2.2.2.2 with
  | .inl r => (r, l.length)
  | .inr _ => (0, 0)
theorem runS_drop {un : Int} {s : Ks} {l : List Nt} {j : Nat} (hj : j < l.length) : runS un j s (l.drop j) = match noteS un s l[j] with | .inl r => .inl (r, j) | .inr s => runS un (j + 1) s (l.drop (j + 1)) := by
 rw [List.drop_eq_getElem_cons hj]
 rfl
def ks0 (cs : List Pt) : Ks := (cs, [pr0, pr0, pr0, pr0], 0, false, false)
theorem inv_0 {cs : List Pt} (h : cs.length ≤ 4) (ht : ∀ c ∈ cs, c.ts.length ≤ 4) : Inv (ks0 cs) := by
 refine ⟨Int.le_refl 0, ?_, ht, rfl, h⟩
 intro i hc hp hh
 have hi : i < 4 := hp
 match i, hi with
 | 0, _ => simp [ks0, pr0] at hh
 | 1, _ => simp [ks0, pr0] at hh
 | 2, _ => simp [ks0, pr0] at hh
 | 3, _ => simp [ks0, pr0] at hh
end Ir
end Go.Proofs.Ytepdklcpagielaa
set_option maxRecDepth 100000
set_option linter.unusedSimpArgs false
set_option linter.unusedVariables false
namespace Go.Proofs.Ytepdklcpagielaa
open Go Ads
namespace Ir
theorem find_l {h0 : Heap} {b C P kl : Nat} {X : AV} {un : Int} (hun : un ≤ 10000) {l : List Nt} (hl : l.length ≤ 17592186044416) {s0 : Ks} {B : Nat} {Q : AX → Env → Heap → Prop}
  (hQ : ∀ s, runS un 0 s0 l = .inr s → Inv s → ∀ at_ e' h', RS h' b C X (tlJ un s.2.2.1 s.2.2.2.1 s.2.2.2.2 at_) s.1 s.2.1 → Fr h0 h' [b, C] → AllAt e' [(0, .ptr b 0), (1, .fz kl (nts l)), (4, .ptr P 0)] → Q (.exit 0) e' h')
  (hP : ∀ rule j, runS un 0 s0 l = .inl (rule, j) → ∀ e' h' tl cs qs, RS h' b C X tl cs qs → tl[4]? = some (.int .i64 ((j : Nat) : Int)) → Fr h0 h' [b, C] → Tr.get e' 4 = some (.ptr P 0) → Q (.panic (.iface 115 (.int .i64 rule))) e' h') :
  ∀ (m j : Nat) (h : Heap) (s : Ks) (at_ : Int) (env : Env), l.length - j = m → j ≤ l.length → runS un 0 s0 l = runS un j s (l.drop j) → Inv s → b < h.next → C < h.next → RS h b C X (tlJ un s.2.2.1 s.2.2.2.1 s.2.2.2.2 at_) s.1 s.2.1 → Fr h0 h [b, C] →
  AllAt env [(0, .ptr b 0), (1, .fz kl (nts l)), (4, .ptr P 0), (8, .fz kl (nts l)), (9, .int .i64 ((l.length : Nat) : Int)), (10, .int .i64 ((j : Nat) : Int))] →
  VC fs ms B false (.loop L_judge_look_find_0) env h Q := by
 intro m
 induction m using Nat.strongRecOn with
 | ind m ih =>
 intro j h s at_ env hm hj hrun hi hb hC r fr henv
 refine vc_slots 4 _ henv ?_
 refine vc_loopV (vc_seq true ?_)
 set_option smartUnfolding false in conv => whnf
 refine vc_seq true ?_
 set_option smartUnfolding false in conv => whnf
 refine br (fun hc => ?_) (fun hc => ?_) <;> (try rw [hc]) <;> (set_option smartUnfolding false in conv => whnf)
 ·have hlt : j < l.length := by have := of_decide_eq_true hc; omega
  rw [runS_drop hlt] at hrun
  obtain ⟨cs, ps, now, ran, gone⟩ := s
  simp only at r hrun
  refine vc_seqV (vc_block ?_)
  refine vc_seq true ?_
  set_option smartUnfolding false in conv => whnf
  refine ⟨_, idx_nt hlt, ?_⟩
  set_option smartUnfolding false in conv => whnf
  refine ⟨nt l[j], rfl, ?_⟩
  set_option smartUnfolding false in conv => whnf
  refine eff_o (sto_o (n := 7) (v := nt l[j]) get_new_same rfl (Nat.le_refl _) rfl) fun h1 e1 => ?_
  set_option smartUnfolding false in conv => whnf
  have g1 : h1.get h.next = some (.cells (nt l[j]).cells true 0) := by rw [e1, get_set_same]; rfl
  have fr1 : Fr h h1 [] := by rw [e1]; exact ((Fr.refl h []).new (x := _)).setn (Nat.le_refl _)
  have n1 : h.next < h1.next := by rw [e1]; exact Nat.lt_succ_self _
  have r1 := r.keep fr1 hb hC
  clear e1
  refine vc_seq true ?_
  set_option smartUnfolding false in conv => whnf
  obtain ⟨h2, s2, r2, fr2⟩ := r1.putT (v := .int .i64 ((j : Nat) : Int)) (f := 4) (o := 0 + 98) (tl' := tlJ un now ran gone ((j : Nat) : Int)) (by omega) rfl (by simp [tlJ]) rfl rfl
  refine eff_o s2 fun h2' e2 => ?_
  subst e2
  set_option smartUnfolding false in conv => whnf
  have g2 : h2'.get h.next = some (.cells (nt l[j]).cells true 0) := (fr2.keep _ n1 (by simp; omega)).trans g1
  have fr02 : Fr h0 h2' [b, C] := fr.trans (Fr.trans (fr1.wk (by simp)) (fr2.wk (by simp)))
  have hb2 : b < h2'.next := Nat.lt_of_lt_of_le hb (Nat.le_trans fr1.next fr2.next)
  have hC2 : C < h2'.next := Nat.lt_of_lt_of_le hC (Nat.le_trans fr1.next fr2.next)
  refine vc_opsX (z := true) rfl ?_
  set_option smartUnfolding false in conv => whnf
  refine ⟨nt l[j], ldN (n := 7) g2 (Nat.le_refl _), ?_⟩
  set_option smartUnfolding false in conv => whnf
  refine note_x r2 hb2 hC2 hi.now hun hi.wf hi.ts l[j] (fun s' hs h' r' fr' => ?_) (fun rule hs h' tl qs r' ht fr' => hP rule j (by rw [hrun, hs]) _ h' tl cs qs r' ht (fr02.trans fr') rfl)
  set_option smartUnfolding false in conv => whnf
  refine vpC_sound (z := true) ?_
  set_option smartUnfolding false in conv => whnf
  exact ih (l.length - (j + 1)) (by omega) (j + 1) h' s' _ _ rfl (by omega) (by rw [hrun, hs]) (inv_note hi hs) (Nat.lt_of_lt_of_le hb2 fr'.next) (Nat.lt_of_lt_of_le hC2 fr'.next) r' (fr02.trans fr') ⟨rfl, rfl, rfl, rfl, rfl, inc_slot (by omega), trivial⟩
 ·have hge : j = l.length := by have := of_decide_eq_false hc; omega
  subst hge
  rw [List.drop_length] at hrun
  exact hQ s hrun hi at_ _ h r fr ⟨rfl, rfl, rfl, trivial⟩

theorem find_c {h0 : Heap} {b C kl : Nat} {X : AV} {un at_ : Int} (hun : un ≤ 10000) {l : List Nt} (hl : l.length ≤ 17592186044416) {s0 : Ks} (hi : Inv s0) (r : RS h0 b C X (tlJ un s0.2.2.1 s0.2.2.2.1 s0.2.2.2.2 at_) s0.1 s0.2.1) (hb : b < h0.next) (hC : C < h0.next) {Q : AV → Heap → Prop}
  (hQ : ∀ h' tl cs' qs, RS h' b C X tl cs' qs → ((findS un s0 l).1 ≠ 0 → tl[4]? = some (.int .i64 (((findS un s0 l).2 : Nat) : Int))) → Fr h0 h' [b, C] → Q (.int .i64 (findS un s0 l).1) h') : VD fs ms f_judge_look_find [.ptr b 0, .fz kl (nts l)] h0 Q := by
 refine vd_callD (af := C_judge_look_find) (l1 := [⟨some 7, none, .p (.mkfunc (.func f_judge_look_find_1) 0), [.t 4]⟩]) (dst := none) (r := .t 7) (g := f_judge_look_find_1) (ag := C_judge_look_find_1) (t := 2) (l2 := [⟨some 1, none, .p .mov, [.t 2]⟩]) (first := []) (capt := [.ptr h0.next 0])
  rfl (Nat.le_of_ble_eq_true rfl) rfl rfl rfl (Nat.le_of_ble_eq_true rfl) rfl rfl rfl rfl ?_
 set_option smartUnfolding false in conv => whnf
 refine vpC_sound (z := true) ?_
 set_option smartUnfolding false in conv => whnf
 have g1 : (h0.new (.cells [.int .i64 0] true 0)).get h0.next = some (.cells [.int .i64 0] true 0) := get_new_same
 have fr1 : Fr h0 (h0.new (.cells [.int .i64 0] true 0)) [] := (Fr.refl h0 []).new
 have n1 : h0.next < (h0.new (.cells [.int .i64 0] true 0)).next := Nat.lt_succ_self _
 have r1 := r.keep fr1 hb hC
 generalize h0.new (.cells [.int .i64 0] true 0) = h1 at *
 refine ⟨rfl, vpO_sound (z := true) ?_⟩
 set_option smartUnfolding false in conv => whnf
 refine ⟨rfl, rfl, ?_⟩
 show VC fs ms _ _ _ _ _ _
 refine VC.mono (Q := fun x e3 h3 => Fr h1 h3 [b, C] ∧ Tr.get e3 4 = some (.ptr h0.next 0) ∧ ((x = .ret ∧ (findS un s0 l).1 = 0 ∧ ∃ tl cs' qs, RS h3 b C X tl cs' qs) ∨ (∃ rule j, x = .panic (.iface 115 (.int .i64 rule)) ∧ findS un s0 l = (rule, j) ∧ ∃ tl cs' qs, RS h3 b C X tl cs' qs ∧ tl[4]? = some (.int .i64 ((j : Nat) : Int))))) ?_ ?_
 ·clear hQ
  refine vc_slots 4 [(0, .ptr b 0), (1, .fz kl (nts l)), (4, .ptr h0.next 0)] ⟨rfl, rfl, rfl, trivial⟩ ?_
  refine vc_seqV (vc_seq true ?_)
  set_option smartUnfolding false in conv => whnf
  refine vc_block ?_
  refine find_l (h0 := h1) (P := h0.next) hun hl (s0 := s0) (fun s hs hi at2 e' h' r' fr' he => ?_) (fun rule j hs e' h' tl cs qs r' ht fr' h4 => ⟨fr', h4, .inr ⟨rule, j, rfl, by rw [findS, hs], tl, cs, qs, r', ht⟩⟩) l.length 0 h1 s0 at_ _ rfl (Nat.zero_le _) rfl hi (Nat.lt_of_lt_of_le hb fr1.next) (Nat.lt_of_lt_of_le hC fr1.next) r1 (Fr.refl _ _) ⟨rfl, rfl, rfl, rfl, by show some (AV.int .i64 ((nts l).length : Nat)) = _; rw [len_nts], rfl, trivial⟩
  obtain ⟨cs, ps, now, ran, gone⟩ := s
  simp only at r'
  have hfs : findS un s0 l = match toS cs.length (un - now).toNat ps now ran gone with | .inl r => (r, l.length) | .inr _ => (0, 0) := by unfold findS; rw [hs]; try rfl
  show VC fs ms _ _ _ _ _ _
  refine vc_slots 4 _ he ?_
  refine vc_seq true ?_
  set_option smartUnfolding false in conv => whnf
  have hln : AV.int .i64 ((nts l).length : Nat) = .int .i64 ((l.length : Nat) : Int) := by rw [len_nts]
  rw [len_nts]
  obtain ⟨h2, s2, r2, fr2⟩ := r'.putT (v := .int .i64 ((l.length : Nat) : Int)) (f := 4) (o := 0 + 98) (tl' := tlJ un now ran gone ((l.length : Nat) : Int)) (by omega) rfl (by simp [tlJ]) rfl rfl
  refine eff_o s2 fun h2' e2 => ?_
  subst e2
  set_option smartUnfolding false in conv => whnf
  have fr2' : Fr h1 h2' [b, C] := fr'.trans (fr2.wk (by simp))
  have hb1 := Nat.lt_of_lt_of_le hb fr1.next
  have hC1 := Nat.lt_of_lt_of_le hC fr1.next
  refine vc_seqV (vc_opsX (z := true) rfl ?_)
  set_option smartUnfolding false in conv => whnf
  refine ⟨_, r2.ldt (f := 0) (by omega) rfl, ?_⟩
  set_option smartUnfolding false in conv => whnf
  refine to_x r2 (Nat.lt_of_lt_of_le hb1 fr2'.next) (Nat.lt_of_lt_of_le hC1 fr2'.next) hi.now hun (fun s hs h3 r3 fr3 => ?_) (fun rule hs h3 tl qs r3 ht fr3 => ⟨fr2'.trans (fr3.wk (by simp)), rfl, .inr ⟨rule, l.length, rfl, by rw [hfs, hs], tl, cs, qs, r3, ht⟩⟩)
  set_option smartUnfolding false in conv => whnf
  rw [hs] at hfs
  have fr3' : Fr h1 h3 [b, C] := fr2'.trans (fr3.wk (by simp))
  have g3 : h3.get h0.next = some (.cells [.int .i64 0] true 0) := (fr3'.keep _ n1 (by simp; omega)).trans g1
  refine vpC_sound (z := true) ?_
  set_option smartUnfolding false in conv => whnf
  refine eff_o (sto_o (n := 1) (v := .int .i64 0) g3 rfl (Nat.le_refl _) rfl) fun h4 e4 => ?_
  set_option smartUnfolding false in conv => whnf
  have fr4 : Fr h3 h4 [] := by
   rw [e4]
   refine ⟨Nat.le_refl _, fun c hc hn => ?_⟩
   rw [get_set_o]
   split
   ·rename_i he
    rw [he, g3]
    rfl
   ·rfl
  have r4 := r3.keep fr4 (Nat.lt_of_lt_of_le hb1 fr3'.next) (Nat.lt_of_lt_of_le hC1 fr3'.next)
  exact ⟨fr3'.trans (fr4.wk (by simp)), rfl, .inl ⟨rfl, by rw [hfs], _, _, _, r4⟩⟩
 ·rintro x e3 h3 ⟨fr3, g4, ⟨rfl, hz, tl, cs', qs, r3⟩ | ⟨rule, j, rfl, hz, tl, cs', qs, r3, ht⟩⟩
  ·refine ⟨.inr (.inl rfl), rfl, ?_⟩
   set_option smartUnfolding false in conv => whnf
   refine vpO_sound (z := true) ?_
   set_option smartUnfolding false in conv => whnf
   refine ⟨rfl, vpC_sound (z := true) ?_⟩
   set_option smartUnfolding false in conv => whnf
   have g3 : h3.get h0.next = some (.cells [.int .i64 0] true 0) := (fr3.keep _ n1 (by simp; omega)).trans g1
   have l3 : h3.load1 h0.next 0 = some (.int .i64 0) := ld1 g3 rfl
   refine ⟨.inl rfl, [.int .i64 0], ?_, ?_⟩
   ·simp only [resAllV, resOfV, C_judge_look_find, C43, g4, cond_false, l3]
   ·have := hQ h3 tl cs' qs r3 (fun h => absurd hz h) ((fr1.wk (by simp)).trans fr3)
    rw [hz] at this
    exact this
  ·refine ⟨.inr (.inr ⟨_, rfl⟩), rfl, ?_⟩
   set_option smartUnfolding false in conv => whnf
   refine vpO_sound (z := true) ?_
   set_option smartUnfolding false in conv => whnf
   refine ⟨rfl, vpC_sound (z := true) ?_⟩
   set_option smartUnfolding false in conv => whnf
   have g3 : h3.get h0.next = some (.cells [.int .i64 0] true 0) := (fr3.keep _ n1 (by simp; omega)).trans g1
   refine eff_o (sto_o (n := 1) (v := .int .i64 rule) g3 rfl (Nat.le_refl _) rfl) fun h4 e4 => ?_
   set_option smartUnfolding false in conv => whnf
   have l4 : h4.load1 h0.next 0 = some (.int .i64 rule) := by rw [e4]; exact ld1 get_set_same rfl
   refine ⟨.inl rfl, [.int .i64 rule], ?_, ?_⟩
   ·simp only [resAllV, resOfV, C_judge_look_find, C43, g4, cond_false, l4]
   ·have fr4 : Fr h0 h4 [b, C] := by
     rw [e4]
     exact ((fr1.wk (by simp)).trans fr3).setn (Nat.le_refl _)
    have r4 : RS h4 b C X tl cs' qs := by
     rw [e4]
     exact ⟨by rw [get_set_ne (by omega)]; exact r3.st, by rw [get_set_ne (by omega)]; exact r3.cf, r3.len, r3.le, r3.ne⟩
    have := hQ h4 tl cs' qs r4 (fun h => by rw [hz]; exact ht) fr4
    rw [hz] at this
    exact this
end Ir
end Go.Proofs.Ytepdklcpagielaa
set_option maxRecDepth 100000
set_option linter.unusedSimpArgs false
set_option linter.unusedVariables false
namespace Go.Proofs.Ytepdklcpagielaa
open Go Ads
namespace Ir
theorem flatL_pts : ∀ l : List Pt, flatL (flatCells (pts l)) = true
 | [] => rfl
 | x :: l => by
  show flatL (.int .i64 x.per :: .int .i64 x.bud :: .fz x.k (tks x.ts) :: flatCells (pts l)) = true
  simp only [flatL_one, flatL_pts l]
  rfl
theorem cloneP_c {k : Nat} {L : List Pt} (hk : k = 3 → L = []) (h1 : L ≠ []) (h4 : L.length ≤ 4) {h : Heap} {Q : AV → Heap → Prop} (hQ : ∀ h' C, h.next ≤ C → C < h'.next → h'.get C = some (.cells (flatCells (pts L)) true 3) → Fr h h' [] → Q (.sl C 0 L.length L.length true) h') :
  VD fs ms f_slices_Clone_api_Part_api_Part [.fz k (pts L)] h Q := by
 have hk3 : Nat.beq k 3 = false := by
  cases hb : Nat.beq k 3 with
  | false => rfl
  | true => exact absurd (hk (Nat.eq_of_beq_eq_true hb)) h1
 refine vd_start (af := C_slices_Clone_api_Part_api_Part) true rfl (Nat.le_of_ble_eq_true rfl) ?_
 set_option smartUnfolding false in conv => whnf
 refine brf (hk3) (fun hc => ?_)
 (try rw [hc])
 set_option smartUnfolding false in conv => whnf
 obtain ⟨n, hn⟩ : ∃ n, L.length = n + 1 := ⟨L.length - 1, by cases L with | nil => exact absurd rfl h1 | cons a l => simp⟩
 refine eff_o (app_lit (s := 3) (bytes := 40) (n := n) (b := h.next) (nx := h.next + 1) (cs := flatCells (pts L)) get_new_same (by omega) (by omega) ((src_fz (k := k) (size_pts L)).trans (by rw [len_pts, hn])) (flatL_pts L)) fun h1 e1 => ?_
 set_option smartUnfolding false in conv => whnf
 have := hQ h1 (h.next + 1) (by omega) (by rw [e1]; exact Nat.lt_succ_self _) (by rw [e1]; exact get_new_same (h := h.new _)) (by rw [e1]; exact (Fr.refl h []).new.new)
 rw [hn] at this
 exact this

def findT (L : List Pt) (O : List Po) (l : List Nt) (un : Int) : Int × Int × Int :=
 if confC L O = false then (0, 0, 50)
 else if (decide (un < 0) || decide (un > 10000)) = true then (0, 0, 5)
 else if ((findS un (ks0 L) l).1 == 0) = true then (0, 0, 0)
 else ((findS un (ks0 L) l).1, (((findS un (ks0 L) l).2 : Nat) : Int), 0)
theorem confC_len {L : List Pt} {O : List Po} (h : confC L O = true) : 1 ≤ L.length ∧ L.length ≤ 4 ∧ ∀ c ∈ L, c.ts.length ≤ 4 := by
 simp only [confC, Bool.and_eq_true, inB_iff] at h
 refine ⟨by omega, by omega, fun c hc => ?_⟩
 have := List.all_eq_true.1 h.1 c hc
 simp only [partC, Bool.and_eq_true, decide_eq_true_eq] at this
 exact this.1.2
theorem jfind_c {k ko kl : Nat} {L : List Pt} {O : List Po} (hf : Fits L O) (hk : k = 3 → L = []) {l : List Nt} (hl : l.length ≤ 17592186044416) (un : Int) :
  PC fs ms f_judge_Find [cfg k L ko O, .fz kl (nts l), .int .i64 un] (.tup [.int .i64 (findT L O l un).1, .int .i64 (findT L O l un).2.1, .int .i64 (findT L O l un).2.2]) := by
 have hp := hf.ports
 refine pc_of (by simp [clL, cl_cfg, AV.cl, cl_nts]) rfl ?_
 generalize (⟨0, .nil⟩ : Heap) = h0
 refine vd_begin (af := C_judge_Find) rfl (Nat.le_of_ble_eq_true rfl) ?_
 generalize hQ : (fun (v : AV) (_ : Heap) => v = .tup [.int .i64 (findT L O l un).1, .int .i64 (findT L O l un).2.1, .int .i64 (findT L O l un).2.2]) = Q
 have hq : ∀ r : Int × Int × Int, findT L O l un = r → ∀ h, Q (.tup [.int .i64 r.1, .int .i64 r.2.1, .int .i64 r.2.2]) h := by
  subst hQ
  intro r hr h
  rw [hr]
 clear hQ
 set_option smartUnfolding false in conv => whnf
 refine vc_seq true ?_
 set_option smartUnfolding false in conv => whnf
 have g1 : (h0.new (.cells (cfg k L ko O).cells true 0)).get h0.next = some (.cells [.fz k (pts L), .fz ko (pos O)] true 0) := get_new_same
 generalize h0.new (.cells (cfg k L ko O).cells true 0) = h1 at *
 refine vc_seqV (vc_seq true ?_)
 set_option smartUnfolding false in conv => whnf
 refine ⟨cfg k L ko O, ldN (n := 2) g1 (Nat.le_refl _), ?_⟩
 set_option smartUnfolding false in conv => whnf
 refine vd_pure (confCheck_c k L ko O hf.small (by omega)) ?_
 set_option smartUnfolding false in conv => whnf
 cases hc0 : confC L O with
 | false =>
  refine vpC_sound (z := true) ?_
  set_option smartUnfolding false in conv => whnf
  exact hq (0, 0, 50) (by rw [findT, if_pos hc0]) _
 | true =>
  obtain ⟨l1, l4, lt⟩ := confC_len hc0
  refine vpC_sound (z := true) ?_
  set_option smartUnfolding false in conv => whnf
  refine vc_seqV (VC.mono (Q := fun y e h => h = h1 ∧ ((y = .ret ∧ (decide (un < 0) || decide (un > 10000)) = true ∧ AllAt e [(6, .int .i64 0), (7, .int .i64 0), (8, .int .i64 5)]) ∨ (y = .normal ∧ (decide (un < 0) || decide (un > 10000)) = false ∧ AllAt e [(1, .fz kl (nts l)), (2, .int .i64 un), (3, .ptr h0.next 0)]))) ?_ ?_)
  ·refine vpC_sound (z := true) ?_
   set_option smartUnfolding false in conv => whnf
   refine br (fun hc => ?_) (fun hc => ?_) <;> (try rw [hc]) <;> (set_option smartUnfolding false in conv => whnf)
   ·exact ⟨rfl, .inl ⟨rfl, by first | rfl | (rw [hc]; rfl), rfl, rfl, rfl, trivial⟩⟩
   ·have h1c := hc
    refine br (fun hc => ?_) (fun hc => ?_) <;> (try rw [hc]) <;> (set_option smartUnfolding false in conv => whnf)
    ·exact ⟨rfl, .inl ⟨rfl, by first | rfl | (rw [h1c, hc]; rfl), rfl, rfl, rfl, trivial⟩⟩
    ·exact ⟨rfl, .inr ⟨rfl, by first | rfl | (rw [h1c, hc]; rfl), rfl, rfl, rfl, trivial⟩⟩
  rintro y e h ⟨rfl, ⟨rfl, hb, g6, g7, g8, _⟩ | ⟨rfl, hb, he⟩⟩
  ·have := hq (0, 0, 5) (by rw [findT, if_neg (by rw [hc0]; simp), if_pos hb]) h
   simp only [endV, C_judge_Find, C18, resAllV, resOfV, g6, g7, g8]
   exact this
  ·show VC fs ms _ _ _ _ _ _
   refine vc_slots 4 _ he ?_
   clear he
   have hun : un ≤ 10000 := by
    simp only [Bool.or_eq_false_iff, decide_eq_false_iff_not] at hb
    omega
   have hT : findT L O l un = if ((findS un (ks0 L) l).1 == 0) = true then (0, 0, 0) else ((findS un (ks0 L) l).1, (((findS un (ks0 L) l).2 : Nat) : Int), 0) := by
    rw [findT, if_neg (by rw [hc0]; simp), if_neg (by rw [hb]; simp)]
   refine vc_seqV (VC.mono (Q := fun y e h3 => y = .normal ∧ ∃ b C, RS h3 b C .nils (tlJ un 0 false false 0) L [pr0, pr0, pr0, pr0] ∧ b < h3.next ∧ C < h3.next ∧ AllAt e [(1, .fz kl (nts l)), (10, .ptr b 0)]) ?_ ?_)
   ·refine vpC_sound (z := true) ?_
    set_option smartUnfolding false in conv => whnf
    refine ⟨_, ld1 g1 rfl, ?_⟩
    set_option smartUnfolding false in conv => whnf
    refine cloneP_c hk (by intro h; rw [h] at l1; simp at l1) l4 (fun h2 C hC1 hC2 gC fr2 => ?_)
    set_option smartUnfolding false in conv => whnf
    exact ⟨rfl, h2.next, C, ⟨get_new_same, (get_new_ne hC2).trans gC, rfl, l4, by omega⟩, Nat.lt_succ_self _, Nat.lt_succ_of_lt hC2, rfl, rfl, trivial⟩
   rintro y e h3 ⟨rfl, b, C, r3, nb, nC, he⟩
   show VC fs ms _ _ _ _ _ _
   refine vc_slots 4 _ he ?_
   clear he
   refine vc_seqV (vc_seq true ?_)
   set_option smartUnfolding false in conv => whnf
   refine find_c hun hl (s0 := ks0 L) (inv_0 l4 lt) r3 nb nC (fun h4 tl cs' qs r4 ht fr4 => ?_)
   set_option smartUnfolding false in conv => whnf
   refine vpC_sound (z := true) ?_
   set_option smartUnfolding false in conv => whnf
   refine br (fun hc => ?_) (fun hc => ?_) <;> (try rw [hc]) <;> (set_option smartUnfolding false in conv => whnf)
   ·exact hq (0, 0, 0) (by rw [hT, if_pos hc]) _
   ·rw [if_neg (by rw [hc]; simp)] at hT
    refine vpC_sound (z := true) ?_
    set_option smartUnfolding false in conv => whnf
    refine ⟨_, r4.ldt (f := 4) (by omega) (ht (by simpa using hc)), ?_⟩
    set_option smartUnfolding false in conv => whnf
    exact hq _ hT _
end Ir
end Go.Proofs.Ytepdklcpagielaa
