/-
  The document's judge: who could run; a tick goes by. The document's judge: what may be noted. The document's judge: who has what is global. The document's judge: the rule that a note breaks. The document's judge: what is known behind a note. The document's judge: what is known behind a task's note. The document's judge: Find. The document's judge: the walk through the notes; Find. Judge: the program's states and the document's go together, in plain Lean.
-/
import Derived.Test.YtepdklcpagielaaVJu
set_option maxRecDepth 100000
set_option linter.unusedSimpArgs false
set_option linter.unusedVariables false
namespace Go.Proofs.Ytepdklcpagielaa
open Go Ads
namespace Ir
def tlR (now : Int) (ran gone : Bool) : List AV := [.int .i64 now, .bool ran, .bool gone]
section
variable {b C : Nat} {X : AV} {tl : List AV} {cs : List Pt} {ps : List Pr}

theorem rcould_l {h0 : Heap} (r : RS h0 b C X tl cs ps) (hb : b < h0.next) (hC : C < h0.next) {B : Nat} {Q : AX → Env → Heap → Prop} (hQ : ∀ e' h', Fr h0 h' [] → Tr.get e' 3 = some (.int .i64 (optI (couldN ps cs.length))) → Q (.exit 0) e' h') :
  ∀ (m j : Nat) (h : Heap) (env : Env), cs.length - j = m → j ≤ cs.length → Fr h0 h [] → AllAt env [(0, .ptr b 0), (3, .int .i64 (optI (couldN ps j))), (4, .int .i64 ((j : Nat) : Int))] →
  VC fs ms B false (.loop L_escapementref26_known_could_0) env h Q := by
 intro m
 induction m using Nat.strongRecOn with
 | ind m ih =>
 intro j h env hm hj fr henv
 have hle := r.le
 have hlen := r.len
 have rh := r.keep fr hb hC
 refine vc_slots 4 _ henv ?_
 refine vc_loopV (vc_seq true ?_)
 set_option smartUnfolding false in conv => whnf
 refine ⟨_, ld1 rh.st rfl, ?_⟩
 set_option smartUnfolding false in conv => whnf
 refine br (fun hc => ?_) (fun hc => ?_) <;> (try rw [hc]) <;> (set_option smartUnfolding false in conv => whnf)
 ·have hlt : j < cs.length := by have := of_decide_eq_true hc; omega
  have hjp : j < ps.length := by omega
  have hnx : couldN ps (j + 1) = if (ps[j].left && sooner ps ps[j] (couldN ps j)) = true then some j else couldN ps j := by
   show (match ps[j]? with | some p => _ | none => _) = _
   rw [List.getElem?_eq_getElem hjp]
  have hcl := fun i => couldN_lt (ps := ps) (n := j) (i := i)
  have hgo : ∀ (f' : Option Nat) e' h', couldN ps (j + 1) = f' → Fr h0 h' [] → AllAt e' [(0, .ptr b 0), (3, .int .i64 (optI f')), (4, .int .i64 (((j + 1 : Nat) : Nat) : Int))] → VC fs ms B false (.loop L_escapementref26_known_could_0) e' h' Q := fun f' e' h' hf fr' he => ih (cs.length - (j + 1)) (by omega) (j + 1) h' e' rfl (by omega) fr' (by rw [hf]; exact he)
  clear ih hQ
  generalize couldN ps j = f at *
  refine vc_seqV (vc_block ?_)
  refine vc_seq true ?_
  set_option smartUnfolding false in conv => whnf
  refine ⟨_, idx_arr (by omega), ?_⟩
  set_option smartUnfolding false in conv => whnf
  refine ⟨_, rh.whole hjp (by omega), ?_⟩
  set_option smartUnfolding false in conv => whnf
  refine eff_o (sto_o (n := 23) (v := .agg (prc ps[j])) get_new_same rfl (Nat.le_refl _) rfl) fun h1 e1 => ?_
  set_option smartUnfolding false in conv => whnf
  have gj : h1.get h.next = some (.cells (prc ps[j]) true 0) := by rw [e1, get_set_same]; rfl
  have fr1 : Fr h0 h1 [] := by rw [e1]; exact fr.trans (((Fr.refl h []).new (x := _)).setn (Nat.le_refl _))
  have r1 := r.keep fr1 hb hC
  clear e1
  refine vpC_sound (z := true) ?_
  rcases f with _ | i
  ·have h33 : decide (optI none < 0) = true := rfl
   simp only [sooner, Bool.and_true] at hnx
   unfold Pr.left at hnx
   set_option smartUnfolding false in conv => whnf
   iterate 5 (all_goals (first | (refine ⟨_, ld1 gj rfl, ?_⟩; set_option smartUnfolding false in conv => whnf) | (refine br (fun hc => ?_) (fun hc => ?_) <;> (try rw [hc]) <;> (set_option smartUnfolding false in conv => whnf)) | skip))
   all_goals (refine vpC_sound (z := true) ?_; set_option smartUnfolding false in conv => whnf)
   all_goals (first | (refine hgo (some j) _ _ ?_ fr1 ⟨rfl, rfl, inc_slot (by omega), trivial⟩; rw [hnx]; simp only [*]; rfl) | (refine hgo none _ _ ?_ fr1 ⟨rfl, rfl, inc_slot (by omega), trivial⟩; rw [hnx]; simp only [*]; rfl))
  ·have hij := hcl i rfl
   have h33 : decide (optI (some i) < 0) = false := decide_eq_false (by show ¬ ((i : Nat) : Int) < 0; omega)
   have hs : sooner ps ps[j] (some i) = decide (ps[j].ends < (ps[i]'(by omega)).ends) := by
    simp [sooner, pend, List.getElem?_eq_getElem (show i < ps.length by omega)]
   rw [hs] at hnx
   unfold Pr.left at hnx
   have li : rV .load1 [.ptr b (0 + 2 + i * 23 + 3)] h1 = some (.int .i64 (ps[i]'(by omega)).ends) := r1.ld (i := i) (by omega) (f := 3) (by omega) (by omega) rfl
   have ii : pV (.iaddrA 23 4) [.ptr b (0 + 2), .int .i64 (optI (some i))] = some (.ptr b (0 + 2 + i * 23)) := idx_arr (by omega)
   set_option smartUnfolding false in conv => whnf
   iterate 10 (all_goals (first | (refine ⟨_, ld1 gj rfl, ?_⟩; set_option smartUnfolding false in conv => whnf) | (refine ⟨_, ii, ?_⟩; set_option smartUnfolding false in conv => whnf) | (refine ⟨_, li, ?_⟩; set_option smartUnfolding false in conv => whnf) | (refine br (fun hc => ?_) (fun hc => ?_) <;> (try rw [hc]) <;> (set_option smartUnfolding false in conv => whnf)) | skip))
   all_goals (refine vpC_sound (z := true) ?_; set_option smartUnfolding false in conv => whnf)
   all_goals (first | (refine hgo (some j) _ _ ?_ fr1 ⟨rfl, rfl, inc_slot (by omega), trivial⟩; rw [hnx]; simp only [*]; rfl) | (refine hgo (some i) _ _ ?_ fr1 ⟨rfl, rfl, inc_slot (by omega), trivial⟩; rw [hnx]; simp only [*]; rfl))
 ·have hge : j = cs.length := by have := of_decide_eq_false hc; omega
  subst hge
  exact hQ _ h fr rfl
theorem rcould_c {h0 : Heap} (r : RS h0 b C X tl cs ps) (hb : b < h0.next) (hC : C < h0.next) {Q : AV → Heap → Prop} (hQ : ∀ h', Fr h0 h' [] → Q (.int .i64 (optI (couldN ps cs.length))) h') : VD fs ms f_escapementref26_known_could [.ptr b 0] h0 Q := by
 refine vd_begin (af := C_escapementref26_known_could) rfl (Nat.le_of_ble_eq_true rfl) ?_
 set_option smartUnfolding false in conv => whnf
 refine vc_seq true ?_
 set_option smartUnfolding false in conv => whnf
 refine vc_seq true ?_
 set_option smartUnfolding false in conv => whnf
 refine vc_seqV (vc_seq true ?_)
 set_option smartUnfolding false in conv => whnf
 refine vc_block ?_
 refine rcould_l r hb hC (fun e' h' fr' g3 => ?_) cs.length 0 h0 _ rfl (Nat.zero_le _) (Fr.refl _ _) ⟨rfl, rfl, rfl, trivial⟩
 show VC fs ms _ _ _ _ _ _
 refine vc_slots 4 [(3, .int .i64 (optI (couldN ps cs.length)))] ⟨g3, trivial⟩ (vpC_sound (z := true) ?_)
 set_option smartUnfolding false in conv => whnf
 exact hQ h' fr'

theorem rby1_l {h0 : Heap} (r : RS h0 b C X tl cs ps) (hb : b < h0.next) (hC : C < h0.next) {B : Nat} {Q : AX → Env → Heap → Prop}
  (hT : (ps.take cs.length).all ok8 = true → ∀ e' h', Fr h0 h' [] → Tr.get e' 0 = some (.ptr b 0) → Q (.exit 0) e' h')
  (hF : (ps.take cs.length).all ok8 = false → ∀ e' h', Fr h0 h' [] → Tr.get e' 2 = some (.int .i64 8) → Q .ret e' h') :
  ∀ (m j : Nat) (h : Heap) (env : Env), cs.length - j = m → j ≤ cs.length → (ps.take j).all ok8 = true → Fr h0 h [] → AllAt env [(0, .ptr b 0), (3, .int .i64 ((j : Nat) : Int))] →
  VC fs ms B false (.loop L_escapementref26_known_by_0) env h Q := by
 intro m
 induction m using Nat.strongRecOn with
 | ind m ih =>
 intro j h env hm hj hi fr henv
 have hle := r.le
 have hlen := r.len
 have rh := r.keep fr hb hC
 refine vc_slots 4 _ henv ?_
 refine vc_loopV (vc_seq true ?_)
 set_option smartUnfolding false in conv => whnf
 refine ⟨_, ld1 rh.st rfl, ?_⟩
 set_option smartUnfolding false in conv => whnf
 refine br (fun hc => ?_) (fun hc => ?_) <;> (try rw [hc]) <;> (set_option smartUnfolding false in conv => whnf)
 ·have hlt : j < cs.length := by have := of_decide_eq_true hc; omega
  have hjp : j < ps.length := by omega
  have hwh := rh.whole hjp (o := 0 + 2 + j * 23) (by omega)
  have hno : ok8 ps[j] = false → ∀ e' h', Fr h0 h' [] → Tr.get e' 2 = some (.int .i64 8) → Q .ret e' h' := fun hf => hF (by
   rw [List.all_eq_false]
   exact ⟨ps[j], by rw [List.mem_take_iff_getElem]; exact ⟨j, by omega, rfl⟩, by simp [hf]⟩)
  have hgo : ok8 ps[j] = true → ∀ e' h', Fr h0 h' [] → AllAt e' [(0, .ptr b 0), (3, .int .i64 (((j + 1 : Nat) : Nat) : Int))] → VC fs ms B false (.loop L_escapementref26_known_by_0) e' h' Q := fun hf e' h' fr' he =>
   ih (cs.length - (j + 1)) (by omega) (j + 1) h' e' rfl (by omega) (all_next hjp hi hf) fr' he
  clear ih hT hF
  generalize ps[j] = p at *
  refine vc_seqV (vc_block ?_)
  refine vc_seq true ?_
  set_option smartUnfolding false in conv => whnf
  refine ⟨_, idx_arr (by omega), ?_⟩
  set_option smartUnfolding false in conv => whnf
  refine ⟨_, hwh, ?_⟩
  set_option smartUnfolding false in conv => whnf
  refine eff_o (sto_o (n := 23) (v := .agg (prc p)) get_new_same rfl (Nat.le_refl _) rfl) fun h1 e1 => ?_
  set_option smartUnfolding false in conv => whnf
  have gj : h1.get h.next = some (.cells (prc p) true 0) := by rw [e1, get_set_same]; rfl
  have fr1 : Fr h0 h1 [] := by rw [e1]; exact fr.trans (((Fr.refl h []).new (x := _)).setn (Nat.le_refl _))
  clear e1
  have h8 : ok8 p = !(p.inn && (p.has && decide (p.ran ≥ p.bud))) := by
   have : decide (p.ran < p.bud) = !decide (p.ran ≥ p.bud) := by rw [← decide_not]; exact decide_eq_decide.2 (by omega)
   rw [ok8, Pr.left, this]
   cases p.inn <;> cases p.has <;> rfl
  rw [h8] at hno hgo
  refine vpC_sound (z := true) ?_
  set_option smartUnfolding false in conv => whnf
  iterate 9 (all_goals (first | (refine ⟨_, ld1 gj rfl, ?_⟩; set_option smartUnfolding false in conv => whnf) | (refine br (fun hc => ?_) (fun hc => ?_) <;> (try rw [hc]) <;> (set_option smartUnfolding false in conv => whnf)) | skip))
  all_goals (first | exact hno (by simp only [*]; rfl) _ _ fr1 rfl | (refine vpC_sound (z := true) ?_; (set_option smartUnfolding false in conv => whnf); exact hgo (by simp only [*]; rfl) _ _ fr1 ⟨rfl, inc_slot (by omega), trivial⟩))
 ·have hge : j = cs.length := by have := of_decide_eq_false hc; omega
  subst hge
  exact hT hi _ h fr rfl

theorem rby2_l {h0 : Heap} {nw : Int} (hb : b < h0.next) (hC : C < h0.next) (htl : tl[0]? = some (.int .i64 nw)) {B : Nat} {Q : AX → Env → Heap → Prop}
  (hQ : ∀ qs, endsN nw ps cs.length = some qs → ∀ e' h', RS h' b C X tl cs qs → Fr h0 h' [b] → Q (.exit 2) e' h')
  (hP : endsN nw ps cs.length = none → ∀ e' h', Tr.get e' 2 = some (.int .i64 4) → Q .ret e' h') :
  ∀ (m j : Nat) (h : Heap) (qs : List Pr) (env : Env), cs.length - j = m → j ≤ cs.length → endsN nw ps j = some qs → RS h b C X tl cs qs → Fr h0 h [b] → AllAt env [(0, .ptr b 0), (5, .int .i64 ((j : Nat) : Int))] →
  VC fs ms B false (.loop L_escapementref26_known_by_1) env h Q := by
 intro m
 induction m using Nat.strongRecOn with
 | ind m ih =>
 intro j h qs env hm hj hes r fr henv
 have hle := r.le
 have hlen := r.len
 have hbh := Nat.lt_of_lt_of_le hb fr.next
 have hCh := Nat.lt_of_lt_of_le hC fr.next
 refine vc_slots 6 _ henv ?_
 refine vc_loopV (vc_seq true ?_)
 set_option smartUnfolding false in conv => whnf
 refine ⟨_, ld1 r.st rfl, ?_⟩
 set_option smartUnfolding false in conv => whnf
 refine br (fun hc => ?_) (fun hc => ?_) <;> (try rw [hc]) <;> (set_option smartUnfolding false in conv => whnf)
 ·have hlt : j < cs.length := by have := of_decide_eq_true hc; omega
  have hjp : j < qs.length := by omega
  have hnx : endsN nw ps (j + 1) = (stepE nw qs[j]).map fun p' => qs.set j p' := by
   show (match endsN nw ps j with | none => none | some qs => _) = _
   rw [hes]
   show (match qs[j]? with | none => some qs | some p => _) = _
   rw [List.getElem?_eq_getElem hjp]
  have hno : stepE nw qs[j] = none → ∀ e' h', Tr.get e' 2 = some (.int .i64 4) → Q .ret e' h' := fun hf => hP (by
   rw [hf] at hnx
   have := endsN_none (nw := nw) (ps := ps) (j := j + 1) hnx (cs.length - (j + 1))
   rwa [show j + 1 + (cs.length - (j + 1)) = cs.length by omega] at this)
  have hgo : ∀ p', stepE nw qs[j] = some p' → ∀ h' e', RS h' b C X tl cs (qs.set j p') → Fr h0 h' [b] → AllAt e' [(0, .ptr b 0), (5, .int .i64 (((j + 1 : Nat) : Nat) : Int))] → VC fs ms B false (.loop L_escapementref26_known_by_1) e' h' Q := fun p' hf h' e' r' fr' he =>
   ih (cs.length - (j + 1)) (by omega) (j + 1) h' _ e' rfl (by omega) (by rw [hnx, hf]; rfl) r' fr' he
  clear ih hQ hP hnx
  have hwh := r.whole hjp (o := 0 + 2 + j * 23) (by omega)
  have hset : qs.set j qs[j] = qs := List.set_getElem_self hjp
  have hput := fun {h' : Heap} (r' : RS h' b C X tl cs qs) (p' : Pr) => r'.put (v := .agg (prc p')) (n := 23) (p' := p') hjp (f := 0) (o := 0 + 2 + j * 23) (by omega) rfl (by omega) rfl rfl
  generalize qs[j] = p at *
  refine vc_seqV (vc_block ?_)
  refine vc_seq true ?_
  set_option smartUnfolding false in conv => whnf
  refine ⟨_, idx_arr (by omega), ?_⟩
  set_option smartUnfolding false in conv => whnf
  refine ⟨_, hwh, ?_⟩
  set_option smartUnfolding false in conv => whnf
  refine eff_o (sto_o (n := 23) (v := .agg (prc p)) get_new_same rfl (Nat.le_refl _) rfl) fun h1 e1 => ?_
  set_option smartUnfolding false in conv => whnf
  have gj : h1.get h.next = some (.cells (prc p) true 0) := by rw [e1, get_set_same]; rfl
  have fr1 : Fr h h1 [] := by rw [e1]; exact ((Fr.refl h []).new (x := _)).setn (Nat.le_refl _)
  have n1 : h.next < h1.next := by rw [e1]; exact Nat.lt_succ_self _
  have r1 := r.keep fr1 hbh hCh
  have fr01 : Fr h0 h1 [b] := fr.trans (fr1.wk (by simp))
  clear e1
  have lnow : rV .load1 [.ptr b (0 + 94)] h1 = some (.int .i64 nw) := r1.ldt (f := 0) (by omega) htl
  have hst : stepE nw p = if (!p.inn || p.ends != nw) = true then some p else if (p.ran != p.bud) = true then none else some { p with ran := 0, ends := IntKind.i64.wrap (nw + p.per) } := by
   rw [stepE]
   cases p.inn <;> cases h1 : (p.ends == nw) <;> cases h2 : (p.ran == p.bud) <;> simp [bne, h1, h2]
  rw [hst] at hno hgo
  refine vc_seqV (VC.mono (Q := fun y e h2 => h2 = h1 ∧ AllAt e [(0, .ptr b 0), (5, .int .i64 ((j : Nat) : Int)), (6, .ptr h.next 0)] ∧ ((y = .exit 3 ∧ (!p.inn || p.ends != nw) = true) ∨ (y = .normal ∧ (!p.inn || p.ends != nw) = false))) ?_ ?_)
  ·refine vpC_sound (z := true) ?_
   set_option smartUnfolding false in conv => whnf
   iterate 8 (all_goals (first | (refine ⟨_, ld1 gj rfl, ?_⟩; set_option smartUnfolding false in conv => whnf) | (refine ⟨_, lnow, ?_⟩; set_option smartUnfolding false in conv => whnf) | (refine br (fun hc => ?_) (fun hc => ?_) <;> (try rw [hc]) <;> (set_option smartUnfolding false in conv => whnf)) | skip))
   all_goals (first | (refine ⟨rfl, ⟨rfl, rfl, rfl, trivial⟩, .inl ⟨rfl, ?_⟩⟩; first | rfl | (simp only [*]; rfl)) | (refine ⟨rfl, ⟨rfl, rfl, rfl, trivial⟩, .inr ⟨rfl, ?_⟩⟩; first | rfl | (simp only [*]; rfl)))
  rintro y e h' ⟨rfl, he, ⟨rfl, hc1⟩ | ⟨rfl, hc1⟩⟩
  ·show VC fs ms _ _ _ _ _ _
   refine vc_slots 4 [(0, .ptr b 0), (5, .int .i64 ((j : Nat) : Int))] ⟨he.1, he.2.1, trivial⟩ (vpC_sound (z := true) ?_)
   set_option smartUnfolding false in conv => whnf
   exact hgo p (if_pos hc1) _ _ (by rw [hset]; exact r1) fr01 ⟨rfl, inc_slot (by omega), trivial⟩
  ·rw [if_neg (by rw [hc1]; simp)] at hno hgo
   show VC fs ms _ _ _ _ _ _
   refine vc_slots 4 _ he ?_
   clear he
   refine vc_seqV (vpC_sound (z := true) ?_)
   set_option smartUnfolding false in conv => whnf
   refine ⟨_, ld1 gj rfl, ?_⟩
   set_option smartUnfolding false in conv => whnf
   refine ⟨_, ld1 gj rfl, ?_⟩
   set_option smartUnfolding false in conv => whnf
   refine br (fun hc => ?_) (fun hc => ?_) <;> (try rw [hc]) <;> (set_option smartUnfolding false in conv => whnf)
   ·exact hno (if_pos hc) _ _ rfl
   ·have hgo' := hgo _ (if_neg (by rw [hc]; simp))
    refine vc_seq true ?_
    set_option smartUnfolding false in conv => whnf
    refine eff_o (sto_o (n := 1) (v := .int .i64 0) (o := 0 + 4) gj rfl (Nat.le_of_ble_eq_true rfl) rfl) fun h2 e2 => ?_
    set_option smartUnfolding false in conv => whnf
    have g2 : h2.get h.next = some (.cells (prc { p with ran := 0 }) true 0) := by rw [e2, get_set_same]; rfl
    have fr2 : Fr h h2 [] := by rw [e2]; exact fr1.setn (Nat.le_refl _)
    have n2 : h.next < h2.next := by rw [e2]; exact n1
    have r2 := r.keep fr2 hbh hCh
    clear e2
    have lnow2 : rV .load1 [.ptr b (0 + 94)] h2 = some (.int .i64 nw) := r2.ldt (f := 0) (by omega) htl
    refine vc_seq true ?_
    set_option smartUnfolding false in conv => whnf
    refine ⟨_, lnow2, ?_⟩
    set_option smartUnfolding false in conv => whnf
    refine ⟨_, ld1 g2 rfl, ?_⟩
    set_option smartUnfolding false in conv => whnf
    refine eff_o (sto_o (n := 1) (v := .int .i64 (IntKind.i64.wrap (nw + p.per))) (o := 0 + 3) g2 rfl (Nat.le_of_ble_eq_true rfl) rfl) fun h3 e3 => ?_
    set_option smartUnfolding false in conv => whnf
    have g3 : h3.get h.next = some (.cells (prc { p with ran := 0, ends := IntKind.i64.wrap (nw + p.per) }) true 0) := by rw [e3, get_set_same]; rfl
    have fr3 : Fr h h3 [] := by rw [e3]; exact fr2.setn (Nat.le_refl _)
    have r3 := r.keep fr3 hbh hCh
    clear e3
    refine vpC_sound (z := true) ?_
    set_option smartUnfolding false in conv => whnf
    refine ⟨.agg (prc { p with ran := 0, ends := IntKind.i64.wrap (nw + p.per) }), ldN (n := 23) g3 (Nat.le_refl _), ?_⟩
    set_option smartUnfolding false in conv => whnf
    refine ⟨_, idx_arr (by omega), ?_⟩
    set_option smartUnfolding false in conv => whnf
    obtain ⟨h4, s4, r4, fr4⟩ := hput r3 { p with ran := 0, ends := IntKind.i64.wrap (nw + p.per) }
    refine eff_o s4 fun h4' e4 => ?_
    subst e4
    set_option smartUnfolding false in conv => whnf
    refine vpC_sound (z := true) ?_
    set_option smartUnfolding false in conv => whnf
    exact hgo' _ _ r4 (fr.trans ((fr3.wk (by simp)).trans fr4)) ⟨rfl, inc_slot (by omega), trivial⟩
 ·have hge : j = cs.length := by have := of_decide_eq_false hc; omega
  subst hge
  exact hQ qs hes _ h r fr
theorem rby_c {h0 : Heap} {now : Int} {ran gone : Bool} (r : RS h0 b C X (tlR now ran gone) cs ps) (hb : b < h0.next) (hC : C < h0.next) {Q : AV → Heap → Prop}
  (hQ : ∀ qs, byS cs.length ps now ran gone = .inr qs → ∀ h', RS h' b C X (tlR (IntKind.i64.wrap (now + 1)) false false) cs qs → Fr h0 h' [b] → Q (.int .i64 0) h')
  (hR : ∀ rule, byS cs.length ps now ran gone = .inl rule → ∀ h', Q (.int .i64 rule) h') : VD fs ms f_escapementref26_known_by [.ptr b 0] h0 Q := by
 refine vd_begin (af := C_escapementref26_known_by) rfl (Nat.le_of_ble_eq_true rfl) ?_
 set_option smartUnfolding false in conv => whnf
 refine vc_seq true ?_
 set_option smartUnfolding false in conv => whnf
 refine vc_seqV (vc_seq true ?_)
 set_option smartUnfolding false in conv => whnf
 refine vc_block ?_
 refine rby1_l r hb hC (fun ht e' h1 fr1 g0 => ?_) (fun hf e' h1 fr1 g2 => ?_) cs.length 0 h0 _ rfl (Nat.zero_le _) rfl (Fr.refl _ _) ⟨rfl, rfl, trivial⟩
 rotate_left
 ·exact endV_one g2 (hR 8 (by rw [byS, if_pos hf]) h1)
 have r1 := r.keep fr1 hb hC
 have hb1 := Nat.lt_of_lt_of_le hb fr1.next
 have hC1 := Nat.lt_of_lt_of_le hC fr1.next
 have h3 : (optI (couldN ps cs.length) == -1) = !decide (optI (couldN ps cs.length) ≥ 0) := by
  cases couldN ps cs.length with
  | none => rfl
  | some i => rw [show (optI (some i) == -1) = false from beq_eq_false_iff_ne.2 (by show ((i : Nat) : Int) ≠ -1; omega), show decide (optI (some i) ≥ 0) = true from decide_eq_true (by show ((i : Nat) : Int) ≥ 0; omega)]; rfl
 show VC fs ms _ _ _ _ _ _
 refine vc_slots 4 [(0, .ptr b 0)] ⟨g0, trivial⟩ ?_
 refine vc_seqV (VC.mono (Q := fun y e h => Fr h1 h [] ∧ ((y = .ret ∧ (ran || (gone || (optI (couldN ps cs.length) == -1))) = false ∧ Tr.get e 2 = some (.int .i64 3)) ∨ (y = .normal ∧ (ran || (gone || (optI (couldN ps cs.length) == -1))) = true ∧ Tr.get e 0 = some (.ptr b 0)))) ?_ ?_)
 ·have l2 : rV .load1 [.ptr b (0 + 95)] h1 = some (.bool ran) := r1.ldt (f := 1) (by omega) rfl
  have l3 : rV .load1 [.ptr b (0 + 96)] h1 = some (.bool gone) := r1.ldt (f := 2) (by omega) rfl
  rw [h3]
  refine vpC_sound (z := true) ?_
  cases ran
  ·set_option smartUnfolding false in conv => whnf
   refine ⟨_, l2, ?_⟩
   set_option smartUnfolding false in conv => whnf
   refine ⟨_, l3, ?_⟩
   set_option smartUnfolding false in conv => whnf
   cases gone
   ·set_option smartUnfolding false in conv => whnf
    refine rcould_c r1 hb1 hC1 (fun h2 fr2 => ?_)
    set_option smartUnfolding false in conv => whnf
    refine br (fun hc => ?_) (fun hc => ?_) <;> (try rw [hc]) <;> (set_option smartUnfolding false in conv => whnf)
    ·exact ⟨fr2, .inl ⟨rfl, by first | rfl | (simp only [*]; rfl), rfl⟩⟩
    ·exact ⟨fr2, .inr ⟨rfl, by first | rfl | (simp only [*]; rfl), rfl⟩⟩
   ·set_option smartUnfolding false in conv => whnf
    exact ⟨Fr.refl _ _, .inr ⟨rfl, rfl, rfl⟩⟩
  ·set_option smartUnfolding false in conv => whnf
   refine ⟨_, l2, ?_⟩
   set_option smartUnfolding false in conv => whnf
   exact ⟨Fr.refl _ _, .inr ⟨rfl, rfl, rfl⟩⟩
 rintro y e h2 ⟨fr2, ⟨rfl, hf, g2⟩ | ⟨rfl, hok, g0⟩⟩
 ·exact endV_one g2 (hR 3 (by rw [byS, if_neg (by rw [ht]; simp), if_pos hf]) h2)
 have hby : byS cs.length ps now ran gone = match endsN (IntKind.i64.wrap (now + 1)) ps cs.length with
  | none => .inl 4
  | some qs => .inr qs := by rw [byS, if_neg (by rw [ht]; simp), if_neg (by rw [hok]; simp)]; try rfl
 have r2 := r1.keep fr2 hb1 hC1
 have fr02 := fr1.trans fr2
 show VC fs ms _ _ _ _ _ _
 refine vc_slots 4 [(0, .ptr b 0)] ⟨g0, trivial⟩ ?_
 refine vc_seq true ?_
 set_option smartUnfolding false in conv => whnf
 refine ⟨_, r2.ldt (f := 0) (by omega) rfl, ?_⟩
 set_option smartUnfolding false in conv => whnf
 obtain ⟨h4, s4, r4, fr4⟩ := r2.putT (v := .int .i64 (IntKind.i64.wrap (now + 1))) (f := 0) (o := 0 + 94) (tl' := tlR (IntKind.i64.wrap (now + 1)) ran gone) (by omega) rfl (by simp [tlR]) rfl rfl
 refine eff_o s4 fun h4' e4 => ?_
 subst e4
 set_option smartUnfolding false in conv => whnf
 refine vc_seq true ?_
 set_option smartUnfolding false in conv => whnf
 obtain ⟨h5, s5, r5, fr5⟩ := r4.putT (v := .bool false) (f := 1) (o := 0 + 95) (tl' := tlR (IntKind.i64.wrap (now + 1)) false gone) (by omega) rfl (by simp [tlR]) rfl rfl
 refine eff_o s5 fun h5' e5 => ?_
 subst e5
 set_option smartUnfolding false in conv => whnf
 refine vc_seq true ?_
 set_option smartUnfolding false in conv => whnf
 obtain ⟨h6, s6, r6, fr6⟩ := r5.putT (v := .bool false) (f := 2) (o := 0 + 96) (tl' := tlR (IntKind.i64.wrap (now + 1)) false false) (by omega) rfl (by simp [tlR]) rfl rfl
 refine eff_o s6 fun h6' e6 => ?_
 subst e6
 set_option smartUnfolding false in conv => whnf
 have fr06 : Fr h0 h6' [b] := Fr.trans (fr02.wk (by simp)) (fr4.trans (fr5.trans fr6))
 refine vc_seqV (vc_seq true ?_)
 set_option smartUnfolding false in conv => whnf
 refine vc_block ?_
 refine rby2_l (h0 := h0) (ps := ps) (nw := IntKind.i64.wrap (now + 1)) hb hC rfl (fun qs he e' h' r' fr' => ?_) (fun he e' h' g2 => ?_) cs.length 0 h6' ps _ rfl (Nat.zero_le _) rfl r6 fr06 ⟨rfl, rfl, trivial⟩
 rotate_left
 ·exact endV_one g2 (hR 4 (by rw [hby, he]) h')
 show VC fs ms _ _ _ _ _ _
 refine vc_slots 4 [] trivial (vpC_sound (z := true) ?_)
 set_option smartUnfolding false in conv => whnf
 exact hQ qs (by rw [hby, he]) h' r' fr'

theorem byS_pos {n : Nat} {now : Int} {ran gone : Bool} {rule : Int} (h : byS n ps now ran gone = .inl rule) : 0 < rule := by
 unfold byS at h
 split at h
 ·simp only [Sum.inl.injEq] at h; omega
 ·split at h
  ·simp only [Sum.inl.injEq] at h; omega
  ·split at h
   ·simp only [Sum.inl.injEq] at h; omega
   ·simp at h
theorem rto_l {h0 : Heap} {to_ : Int} (hto : to_ ≤ 10000) {B : Nat} {Q : AX → Env → Heap → Prop} : ∀ (k : Nat) (h : Heap) (ps : List Pr) (now : Int) (ran gone : Bool) (env : Env), RS h b C X (tlR now ran gone) cs ps → b < h.next → C < h.next → 0 ≤ now → k = (to_ - now).toNat → Fr h0 h [b] →
  (∀ s : Kn, toS cs.length k ps now ran gone = .inr s → ∀ e' h', RS h' b C X (tlR s.2.1 s.2.2.1 s.2.2.2) cs s.1 → Fr h0 h' [b] → Q (.exit 0) e' h') →
  (∀ rule, toS cs.length k ps now ran gone = .inl rule → ∀ e' h', Tr.get e' 4 = some (.int .i64 rule) → Q .ret e' h') →
  AllAt env [(0, .ptr b 0), (1, .int .i64 to_)] → VC fs ms B false (.loop L_escapementref26_known_to_0) env h Q := by
 intro k
 induction k with
 | zero =>
  intro h ps now ran gone env r hb hC h0n hk fr hQ hR henv
  refine vc_slots 4 _ henv ?_
  refine vc_loopV (vc_seq true ?_)
  set_option smartUnfolding false in conv => whnf
  refine ⟨_, r.ldt (f := 0) (by omega) rfl, ?_⟩
  set_option smartUnfolding false in conv => whnf
  rw [show decide (now < to_) = false from decide_eq_false (by omega)]
  set_option smartUnfolding false in conv => whnf
  exact hQ (ps, now, ran, gone) rfl _ _ r fr
 | succ k ih =>
  intro h ps now ran gone env r hb hC h0n hk fr hQ hR henv
  refine vc_slots 4 _ henv ?_
  refine vc_loopV (vc_seq true ?_)
  set_option smartUnfolding false in conv => whnf
  refine ⟨_, r.ldt (f := 0) (by omega) rfl, ?_⟩
  set_option smartUnfolding false in conv => whnf
  rw [show decide (now < to_) = true from decide_eq_true (by omega)]
  set_option smartUnfolding false in conv => whnf
  refine vc_block ?_
  refine vpC_sound (z := true) ?_
  set_option smartUnfolding false in conv => whnf
  refine rby_c r hb hC (fun qs hs h' r' fr' => ?_) (fun rule hs h' => ?_)
  ·set_option smartUnfolding false in conv => whnf
   have hw : IntKind.i64.wrap (now + 1) = now + 1 := IntWalk.i64_in _ (by omega)
   rw [hw] at r'
   have hto : toS cs.length (k + 1) ps now ran gone = toS cs.length k qs (now + 1) false false := by rw [toS, hs]
   rw [hto] at hQ hR
   exact ih h' qs (now + 1) false false _ r' (Nat.lt_of_lt_of_le hb fr'.next) (Nat.lt_of_lt_of_le hC fr'.next) (by omega) (by omega) (fr.trans fr') hQ hR ⟨rfl, rfl, trivial⟩
  ·set_option smartUnfolding false in conv => whnf
   refine brt (decide_eq_true (byS_pos hs)) (fun hc => ?_)
   (try rw [hc])
   set_option smartUnfolding false in conv => whnf
   exact hR rule (by rw [toS, hs]) _ h' rfl
theorem rto_c {h0 : Heap} {now to_ : Int} {ran gone : Bool} (r : RS h0 b C X (tlR now ran gone) cs ps) (hb : b < h0.next) (hC : C < h0.next) (hn : 0 ≤ now) (hto : to_ ≤ 10000) {Q : AV → Heap → Prop}
  (hQ : ∀ s : Kn, toS cs.length (to_ - now).toNat ps now ran gone = .inr s → ∀ h', RS h' b C X (tlR s.2.1 s.2.2.1 s.2.2.2) cs s.1 → Fr h0 h' [b] → Q (.int .i64 0) h')
  (hR : ∀ rule, toS cs.length (to_ - now).toNat ps now ran gone = .inl rule → ∀ h', Q (.int .i64 rule) h') : VD fs ms f_escapementref26_known_to [.ptr b 0, .int .i64 to_] h0 Q := by
 refine vd_begin (af := C_escapementref26_known_to) rfl (Nat.le_of_ble_eq_true rfl) ?_
 set_option smartUnfolding false in conv => whnf
 refine vc_seq true ?_
 set_option smartUnfolding false in conv => whnf
 refine vc_seqV (vc_block ?_)
 refine rto_l hto (to_ - now).toNat h0 ps now ran gone _ r hb hC hn rfl (Fr.refl h0 [b]) (fun s hs e' h' r' fr' => ?_) (fun rule hs e' h' g4 => ?_) ⟨rfl, rfl, trivial⟩
 ·show VC fs ms _ _ _ _ _ _
  refine vc_slots 4 [] trivial (vpC_sound (z := true) ?_)
  set_option smartUnfolding false in conv => whnf
  exact hQ s hs h' r' fr'
 ·exact endV_one g4 (hR rule hs h')
end
end Ir
end Go.Proofs.Ytepdklcpagielaa
set_option maxRecDepth 100000
set_option linter.unusedSimpArgs false
set_option linter.unusedVariables false
namespace Go.Proofs.Ytepdklcpagielaa
open Go Ads
namespace Ir
section
variable {b C : Nat} {X : AV} {cs : List Pt} {ps : List Pr}
theorem rshaped_c {h0 : Heap} {un now : Int} {ran gone : Bool} (r : RS h0 b C X (tlR now ran gone) cs ps) (hb : b < h0.next) (hC : C < h0.next) (x : Nt) {Q : AV → Heap → Prop}
  (hQ : ∀ h', Fr h0 h' [] → Q (.bool (shapedS cs now un x)) h') : VD fs ms f_escapementref26_known_shaped [.ptr b 0, nt x, .int .i64 un] h0 Q := by
 refine vd_begin (af := C_escapementref26_known_shaped) rfl (Nat.le_of_ble_eq_true rfl) ?_
 set_option smartUnfolding false in conv => whnf
 refine vc_seq true ?_
 set_option smartUnfolding false in conv => whnf
 have gs : (h0.new (.cells (nt x).cells true 0)).get h0.next = some (.cells (nt x).cells true 0) := get_new_same
 have fr1 : Fr h0 (h0.new (.cells (nt x).cells true 0)) [] := (Fr.refl h0 []).new
 have r1 := r.keep fr1 hb hC
 have hq := hQ _ fr1
 clear hQ
 generalize h0.new (.cells (nt x).cells true 0) = h1 at *
 generalize h0.next = pn at *
 have lnow : rV .load1 [.ptr b (0 + 94)] h1 = some (.int .i64 now) := r1.ldt (f := 0) (by omega) rfl
 have lpar : rV .load1 [.ptr b (0 + 0 + 0)] h1 = some (.sl C 0 cs.length cs.length true) := ld1 r1.st rfl
 have hS : shapedS cs now un x = if (decide (x.a < now) || (decide (x.a > un) || (decide (x.k < 1) || (decide (x.k > 8) || (decide (x.p < 0) || decide (x.p ≥ (cs.length : Nat))))))) = true then false
  else if wholeN x = true then x.t == 0 else (decide (x.t ≥ 0) || (x.t == -1 && x.k == 1)) && decide (x.t < (tasksAt cs x.p : Nat)) := rfl
 refine vc_seqV (VC.mono (Q := fun y e h => h = h1 ∧ ((y = .ret ∧ (decide (x.a < now) || (decide (x.a > un) || (decide (x.k < 1) || (decide (x.k > 8) || (decide (x.p < 0) || decide (x.p ≥ (cs.length : Nat))))))) = true ∧ Tr.get e 6 = some (.bool false)) ∨ (y = .normal ∧ (decide (x.a < now) || (decide (x.a > un) || (decide (x.k < 1) || (decide (x.k > 8) || (decide (x.p < 0) || decide (x.p ≥ (cs.length : Nat))))))) = false ∧ AllAt e [(0, .ptr b 0), (4, .ptr pn 0)]))) ?_ ?_)
 ·clear hS hq
  refine vpC_sound (z := true) ?_
  set_option smartUnfolding false in conv => whnf
  iterate 14 (all_goals (first | (refine ⟨_, ld1 gs rfl, ?_⟩; set_option smartUnfolding false in conv => whnf) | (refine ⟨_, lnow, ?_⟩; set_option smartUnfolding false in conv => whnf) | (refine ⟨_, lpar, ?_⟩; set_option smartUnfolding false in conv => whnf) | (refine br (fun hc => ?_) (fun hc => ?_) <;> (try rw [hc]) <;> (set_option smartUnfolding false in conv => whnf)) | skip))
  all_goals (first | (refine ⟨rfl, .inl ⟨rfl, ?_, rfl⟩⟩; (first | rfl | (simp only [*]; done) | (simp only [*]; rfl))) | (refine ⟨rfl, .inr ⟨rfl, ?_, rfl, rfl, trivial⟩⟩; (first | rfl | (simp only [*]; done) | (simp only [*]; rfl))))
 rintro y e h ⟨rfl, ⟨rfl, hbad, g6⟩ | ⟨rfl, hgood, he⟩⟩
 ·rw [hS, if_pos hbad] at hq
  exact endV_one g6 hq
 rw [if_neg (by rw [hgood]; simp)] at hS
 simp only [Bool.or_eq_false_iff, decide_eq_false_iff_not] at hgood
 obtain ⟨j, hj, hpj, htk⟩ := tasks_at (cs := cs) (i := x.p) (by omega) (by omega)
 rw [htk] at hS
 show VC fs ms _ _ _ _ _ _
 refine vc_slots 4 _ he ?_
 clear he
 have hend : ∀ v, shapedS cs now un x = v → Q (.bool v) h := fun v hv => hv ▸ hq
 clear hq
 refine vc_seqV (VC.mono (Q := fun y e h' => h' = h ∧ ((y = .ret ∧ wholeN x = true ∧ Tr.get e 6 = some (.bool (x.t == 0))) ∨ (y = .normal ∧ wholeN x = false ∧ AllAt e [(0, .ptr b 0), (4, .ptr pn 0)]))) ?_ ?_)
 ·clear hend
  refine vpC_sound (z := true) ?_
  set_option smartUnfolding false in conv => whnf
  iterate 7 (all_goals (first | (refine ⟨_, ld1 gs rfl, ?_⟩; set_option smartUnfolding false in conv => whnf) | (refine br (fun hc => ?_) (fun hc => ?_) <;> (try rw [hc]) <;> (set_option smartUnfolding false in conv => whnf)) | skip))
  all_goals (first | (refine ⟨rfl, .inl ⟨rfl, ?_, rfl⟩⟩; (first | rfl | (simp only [wholeN, *]; done) | (simp only [wholeN, *]; rfl))) | (refine ⟨rfl, .inr ⟨rfl, ?_, rfl, rfl, trivial⟩⟩; (first | rfl | (simp only [wholeN, *]; done) | (simp only [wholeN, *]; rfl))))
 rintro y e h' ⟨rfl, ⟨rfl, hw, g6⟩ | ⟨rfl, hw, he⟩⟩
 ·rw [if_pos hw] at hS
  exact endV_one g6 (hend _ hS)
 rw [if_neg (by rw [hw]; simp)] at hS
 show VC fs ms _ _ _ _ _ _
 refine vc_slots 4 _ he ?_
 clear he
 have lpt : rV .load1 [.ptr C (0 + j * 3 + 2)] h' = some (.fz cs[j].k (tks cs[j].ts)) := r1.ldc hj (f := 2) (by omega) (by omega) rfl
 refine vc_seq true ?_
 set_option smartUnfolding false in conv => whnf
 refine vc_seqV (VC.mono (Q := fun y e h2 => y = .normal ∧ h2 = h' ∧ AllAt e [(0, .ptr b 0), (4, .ptr pn 0), (7, .int .i64 (if (x.k == 1) = true then -1 else 0))]) ?_ ?_)
 ·refine vpC_sound (z := true) ?_
  set_option smartUnfolding false in conv => whnf
  iterate 2 (all_goals (first | (refine ⟨_, ld1 gs rfl, ?_⟩; set_option smartUnfolding false in conv => whnf) | (refine br (fun hc => ?_) (fun hc => ?_) <;> (try rw [hc]) <;> (set_option smartUnfolding false in conv => whnf)) | skip))
  ·exact ⟨rfl, rfl, rfl, rfl, by first | rfl | (rw [if_pos hc]; rfl), trivial⟩
  ·exact ⟨rfl, rfl, rfl, rfl, by first | rfl | (rw [if_neg (by rw [hc]; simp)]; rfl), trivial⟩
 rintro y e h2 ⟨rfl, rfl, he⟩
 show VC fs ms _ _ _ _ _ _
 refine vc_slots 4 _ he (vpC_sound (z := true) ?_)
 clear he
 have hl : (decide (x.t ≥ 0) || (x.t == -1 && x.k == 1)) = decide (x.t ≥ (if (x.k == 1) = true then -1 else 0)) := by
  by_cases h1 : x.k = 1
  ·rw [if_pos (by simpa using h1), Bool.eq_iff_iff]
   simp [h1]
   omega
  ·rw [if_neg (by simpa using h1), Bool.eq_iff_iff]
   simp [h1]
 rw [hl] at hS
 generalize (if (x.k == 1) = true then (-1 : Int) else 0) = least at *
 set_option smartUnfolding false in conv => whnf
 refine ⟨_, ld1 gs rfl, ?_⟩
 set_option smartUnfolding false in conv => whnf
 refine br (fun hc => ?_) (fun hc => ?_) <;> (try rw [hc]) <;> (set_option smartUnfolding false in conv => whnf)
 ·refine ⟨_, ld1 gs rfl, ?_⟩
  set_option smartUnfolding false in conv => whnf
  refine ⟨_, lpar, ?_⟩
  set_option smartUnfolding false in conv => whnf
  refine ⟨_, ld1 gs rfl, ?_⟩
  set_option smartUnfolding false in conv => whnf
  rw [hpj]
  refine ⟨_, idx_slO hj, ?_⟩
  set_option smartUnfolding false in conv => whnf
  refine ⟨_, lpt, ?_⟩
  set_option smartUnfolding false in conv => whnf
  rw [len_tks]
  exact hend _ (by rw [hS, hc, Bool.true_and])
 ·exact hend _ (by rw [hS, hc, Bool.false_and])

theorem rsome_c (p : Pr) : PC fs ms f_escapementref26_part_some [.agg (prc p)] (.bool p.some) := by
 refine pc_of rfl rfl ?_
 refine vd_start (af := C_escapementref26_part_some) false rfl (Nat.le_of_ble_eq_true rfl) ?_
 generalize hQ : (fun (v : AV) (_ : Heap) => v = .bool p.some) = Q
 have hk : ∀ (b : Bool) h, p.some = b → Q (.bool b) h := by subst hQ; intro b h hb; rw [hb]
 clear hQ
 unfold Pr.some at hk
 set_option smartUnfolding false in conv => whnf
 iterate 10 (all_goals (first | (refine ⟨.ptr _ _, (rfl : pV _ _ = _), ?_⟩; set_option smartUnfolding false in conv => whnf) | (refine br (fun hc => ?_) (fun hc => ?_) <;> (try rw [hc]) <;> (set_option smartUnfolding false in conv => whnf)) | skip))
 all_goals (refine hk _ _ ?_; (first | rfl | (simp only [*]; done) | (simp only [*]; rfl)))
theorem job_c {p : Pr} {k o : Nat} {h : Heap} {b es : Nat} (hg : h.get b = some (.cells (prc p) true es)) (hk : k < 4) (f : Nat) (hf : f < 4) (ho : o = 5 + k * 4 + f) {v : AV} (hv : (jbc (p.job k))[f]? = some v) : rV .load1 [.ptr b o] h = some v := by
 subst ho
 exact ld1 hg ((job_cell hk hf).trans hv)
theorem rthere_c (p : Pr) (x : Nt) (hk : 1 ≤ x.k ∧ x.k ≤ 8) (ht : x.k ≤ 5 → (x.t = -1 ∧ x.k = 1) ∨ (0 ≤ x.t ∧ x.t < 4)) : PC fs ms f_escapementref26_part_there [.agg (prc p), nt x] (.bool (thereS p x)) := by
 obtain ⟨a, k, q, t, n, e, s⟩ := x
 simp only at hk ht
 refine pc_of rfl rfl ?_
 generalize (⟨0, .nil⟩ : Heap) = h0
 refine vd_begin (af := C_escapementref26_part_there) rfl (Nat.le_of_ble_eq_true rfl) ?_
 generalize hQ : (fun (v : AV) (_ : Heap) => v = .bool (thereS p ⟨a, k, q, t, n, e, s⟩)) = Q
 have hend : ∀ (b : Bool) h, thereS p ⟨a, k, q, t, n, e, s⟩ = b → Q (.bool b) h := by subst hQ; intro b h hb; rw [hb]
 clear hQ
 set_option smartUnfolding false in conv => whnf
 refine vc_seq true ?_
 set_option smartUnfolding false in conv => whnf
 have g2 : ((h0.new (.cells (AV.agg (prc p)).cells true 0)).new (.cells (nt ⟨a, k, q, t, n, e, s⟩).cells true 0)).get h0.next = some (.cells (prc p) true 0) := (get_new_ne (Nat.lt_succ_self _)).trans get_new_same
 have g3 : ((h0.new (.cells (AV.agg (prc p)).cells true 0)).new (.cells (nt ⟨a, k, q, t, n, e, s⟩).cells true 0)).get (h0.new (.cells (AV.agg (prc p)).cells true 0)).next = some (.cells (nt ⟨a, k, q, t, n, e, s⟩).cells true 0) := get_new_same
 generalize (h0.new (.cells (AV.agg (prc p)).cells true 0)).new (.cells (nt ⟨a, k, q, t, n, e, s⟩).cells true 0) = h1 at *
 generalize (h0.new (.cells (AV.agg (prc p)).cells true 0)).next = p3 at *
 generalize h0.next = p2 at *
 refine vpC_sound (z := true) ?_
 have hcase : k = 1 ∨ k = 2 ∨ k = 3 ∨ k = 4 ∨ k = 5 ∨ k = 6 ∨ k = 7 ∨ k = 8 := by omega
 by_cases h5 : k ≤ 5
 ·rcases ht h5 with ⟨rfl, rfl⟩ | ⟨t0, t4⟩
  ·set_option smartUnfolding false in conv => whnf
   iterate 8 (all_goals (first | (refine ⟨_, ld1 g3 rfl, ?_⟩; set_option smartUnfolding false in conv => whnf) | (refine ⟨_, ld1 g2 rfl, ?_⟩; set_option smartUnfolding false in conv => whnf) | (refine br (fun hc => ?_) (fun hc => ?_) <;> (try rw [hc]) <;> (set_option smartUnfolding false in conv => whnf)) | skip))
   all_goals (exact hend _ _ rfl)
  ·obtain ⟨j, rfl⟩ : ∃ j : Nat, t = (j : Nat) := ⟨t.toNat, by omega⟩
   have hj : j < 4 := by omega
   have hidx : pV (.iaddrA 4 4) [.ptr p2 (0 + 5), .int .i64 ((j : Nat) : Int)] = some (.ptr p2 (0 + 5 + j * 4)) := idx_arr hj
   have hjob : rV .load1 [.ptr p2 (0 + 5 + j * 4 + 0)] h1 = some (.bool (p.job j).is) := job_c g2 hj 0 (by omega) (by omega) rfl
   have hth : ∀ k, k = 1 ∨ k = 2 ∨ k = 3 ∨ k = 4 ∨ k = 5 → thereS p ⟨a, k, q, (j : Nat), n, e, s⟩ = if (k == 2) = true then (e != 0 || !(p.job j).is) else (p.job j).is := by
    intro k hk
    have h1 : (((j : Nat) : Int) == -1) = false := beq_eq_false_iff_ne.2 (by omega)
    rcases hk with rfl | rfl | rfl | rfl | rfl <;> simp [thereS, wholeN, h1]
   have hh : k = 1 ∨ k = 2 ∨ k = 3 ∨ k = 4 ∨ k = 5 := by omega
   have hth' := hth k hh
   have h10 : decide (((j : Nat) : Int) < 0) = false := decide_eq_false (by omega)
   rcases hh with rfl | rfl | rfl | rfl | rfl
   all_goals (set_option smartUnfolding false in conv => whnf)
   iterate 8 (all_goals (first | (refine ⟨_, ld1 g3 rfl, ?_⟩; set_option smartUnfolding false in conv => whnf) | (refine ⟨_, hidx, ?_⟩; set_option smartUnfolding false in conv => whnf) | (refine ⟨_, hjob, ?_⟩; set_option smartUnfolding false in conv => whnf) | (refine br (fun hc => ?_) (fun hc => ?_) <;> (try rw [hc]) <;> (set_option smartUnfolding false in conv => whnf)) | skip))
   all_goals (first | (refine hend _ _ ?_; rw [hth']; (first | rfl | (simp only [*]; done) | (simp only [*]; rfl))) | (exfalso; simp_all; done))
 ·have hh : k = 6 ∨ k = 7 ∨ k = 8 := by omega
  have hsm : rV (.loadN 23) [.ptr p2 0] h1 = some (.agg (prc p)) := ldN g2 (Nat.le_refl _)
  rcases hh with rfl | rfl | rfl
  all_goals (set_option smartUnfolding false in conv => whnf)
  iterate 4 (all_goals (first | (refine ⟨_, ld1 g3 rfl, ?_⟩; set_option smartUnfolding false in conv => whnf) | (refine ⟨_, hsm, ?_⟩; set_option smartUnfolding false in conv => whnf) | (refine vd_pure (rsome_c p) ?_; set_option smartUnfolding false in conv => whnf) | (refine br (fun hc => ?_) (fun hc => ?_) <;> (try rw [hc]) <;> (set_option smartUnfolding false in conv => whnf)) | skip))
  all_goals (exact hend _ _ rfl)
def timelyR (p : Pr) (x : Nt) (t : Tk) : Bool :=
 if (x.k != 1 && (x.k != 3 && x.k != 5)) = true then true
 else decide (x.a < IntKind.i64.wrap ((p.job x.t.toNat).tm + t.d)) && (x.k != 1 || decide ((p.job x.t.toNat).ran < t.w))
theorem rtimely_c (p : Pr) (x : Nt) (t : Tk) (ht : 1 ≤ x.k → x.k ≤ 5 → 0 ≤ x.t ∧ x.t < 4) : PC fs ms f_escapementref26_part_timely [.agg (prc p), nt x, tk t] (.bool (timelyR p x t)) := by
 refine pc_of rfl rfl ?_
 generalize (⟨0, .nil⟩ : Heap) = h0
 refine vd_begin (af := C_escapementref26_part_timely) rfl (Nat.le_of_ble_eq_true rfl) ?_
 generalize hQ : (fun (v : AV) (_ : Heap) => v = .bool (timelyR p x t)) = Q
 have hend : ∀ (b : Bool) h, timelyR p x t = b → Q (.bool b) h := by subst hQ; intro b h hb; rw [hb]
 clear hQ
 set_option smartUnfolding false in conv => whnf
 refine vc_seq true ?_
 set_option smartUnfolding false in conv => whnf
 have g3 : (((h0.new (.cells (AV.agg (prc p)).cells true 0)).new (.cells (nt x).cells true 0)).new (.cells (tk t).cells true 0)).get h0.next = some (.cells (prc p) true 0) := (get_new_ne (h := (h0.new (.cells (AV.agg (prc p)).cells true 0)).new (.cells (nt x).cells true 0)) (show h0.next < h0.next + 1 + 1 by omega)).trans ((get_new_ne (Nat.lt_succ_self _)).trans get_new_same)
 have g4 : (((h0.new (.cells (AV.agg (prc p)).cells true 0)).new (.cells (nt x).cells true 0)).new (.cells (tk t).cells true 0)).get (h0.new (.cells (AV.agg (prc p)).cells true 0)).next = some (.cells (nt x).cells true 0) := (get_new_ne (Nat.lt_succ_self _)).trans get_new_same
 have g5 : (((h0.new (.cells (AV.agg (prc p)).cells true 0)).new (.cells (nt x).cells true 0)).new (.cells (tk t).cells true 0)).get ((h0.new (.cells (AV.agg (prc p)).cells true 0)).new (.cells (nt x).cells true 0)).next = some (.cells (tk t).cells true 0) := get_new_same
 have l3 : h0.next < (((h0.new (.cells (AV.agg (prc p)).cells true 0)).new (.cells (nt x).cells true 0)).new (.cells (tk t).cells true 0)).next := by show h0.next < h0.next + 1 + 1 + 1; omega
 have l4 : (h0.new (.cells (AV.agg (prc p)).cells true 0)).next < (((h0.new (.cells (AV.agg (prc p)).cells true 0)).new (.cells (nt x).cells true 0)).new (.cells (tk t).cells true 0)).next := by show h0.next + 1 < h0.next + 1 + 1 + 1; omega
 have l5 : ((h0.new (.cells (AV.agg (prc p)).cells true 0)).new (.cells (nt x).cells true 0)).next < (((h0.new (.cells (AV.agg (prc p)).cells true 0)).new (.cells (nt x).cells true 0)).new (.cells (tk t).cells true 0)).next := by show h0.next + 1 + 1 < h0.next + 1 + 1 + 1; omega
 generalize ((h0.new (.cells (AV.agg (prc p)).cells true 0)).new (.cells (nt x).cells true 0)).new (.cells (tk t).cells true 0) = h1 at *
 generalize ((h0.new (.cells (AV.agg (prc p)).cells true 0)).new (.cells (nt x).cells true 0)).next = p5 at *
 generalize (h0.new (.cells (AV.agg (prc p)).cells true 0)).next = p4 at *
 generalize h0.next = p3 at *
 unfold timelyR at hend
 refine vc_seqV (VC.mono (Q := fun y e h => h = h1 ∧ ((y = .ret ∧ (x.k != 1 && (x.k != 3 && x.k != 5)) = true ∧ Tr.get e 6 = some (.bool true)) ∨ (y = .normal ∧ (x.k != 1 && (x.k != 3 && x.k != 5)) = false ∧ AllAt e [(3, .ptr p3 0), (4, .ptr p4 0), (5, .ptr p5 0)]))) ?_ ?_)
 ·clear hend
  refine vpC_sound (z := true) ?_
  set_option smartUnfolding false in conv => whnf
  iterate 7 (all_goals (first | (refine ⟨_, ld1 g4 rfl, ?_⟩; set_option smartUnfolding false in conv => whnf) | (refine br (fun hc => ?_) (fun hc => ?_) <;> (try rw [hc]) <;> (set_option smartUnfolding false in conv => whnf)) | skip))
  all_goals (first | (refine ⟨rfl, .inl ⟨rfl, ?_, rfl⟩⟩; (first | rfl | (simp only [*]; done) | (simp only [*]; rfl))) | (refine ⟨rfl, .inr ⟨rfl, ?_, rfl, rfl, rfl, trivial⟩⟩; (first | rfl | (simp only [*]; done) | (simp only [*]; rfl))))
 rintro y e h ⟨rfl, ⟨rfl, hk, g6⟩ | ⟨rfl, hk, he⟩⟩
 ·exact endV_one g6 (hend _ _ (if_pos hk))
 have hkk : 1 ≤ x.k ∧ x.k ≤ 5 := by
  simp at hk
  omega
 obtain ⟨t0, t4⟩ := ht hkk.1 hkk.2
 have hxt : x.t = ((x.t.toNat : Nat) : Int) := by omega
 have hj : x.t.toNat < 4 := by omega
 have hend2 := fun b h hb => hend b h ((if_neg (by rw [hk]; simp)).trans hb)
 clear hend
 generalize hjn : x.t.toNat = jn at *
 show VC fs ms _ _ _ _ _ _
 refine vc_slots 4 _ he ?_
 clear he
 refine vc_seq true ?_
 set_option smartUnfolding false in conv => whnf
 refine ⟨_, ld1 g4 rfl, ?_⟩
 set_option smartUnfolding false in conv => whnf
 rw [hxt]
 refine ⟨_, idx_arr hj, ?_⟩
 set_option smartUnfolding false in conv => whnf
 have hjob : rV (.loadN 4) [.ptr p3 (0 + 5 + jn * 4)] h = some (.agg (jbc (p.job jn))) := by
  rw [ldN g3 (by rw [prc_len]; omega)]
  match jn, hj with
  | 0, _ => rfl
  | 1, _ => rfl
  | 2, _ => rfl
  | 3, _ => rfl
 refine ⟨_, hjob, ?_⟩
 set_option smartUnfolding false in conv => whnf
 refine eff_o (sto_o (n := 4) (v := .agg (jbc (p.job jn))) get_new_same rfl (Nat.le_refl _) rfl) fun h2 e2 => ?_
 set_option smartUnfolding false in conv => whnf
 have k3 : h2.get h.next = some (.cells (jbc (p.job jn)) true 0) := by rw [e2, get_set_same]; rfl
 have k4 : h2.get p4 = some (.cells (nt x).cells true 0) := by rw [e2, get_set_ne (by omega), get_new_ne l4]; exact g4
 have k5 : h2.get p5 = some (.cells (tk t).cells true 0) := by rw [e2, get_set_ne (by omega), get_new_ne l5]; exact g5
 clear e2
 refine vpC_sound (z := true) ?_
 set_option smartUnfolding false in conv => whnf
 iterate 10 (all_goals (first | (refine ⟨_, ld1 k3 rfl, ?_⟩; set_option smartUnfolding false in conv => whnf) | (refine ⟨_, ld1 k4 rfl, ?_⟩; set_option smartUnfolding false in conv => whnf) | (refine ⟨_, ld1 k5 rfl, ?_⟩; set_option smartUnfolding false in conv => whnf) | (refine br (fun hc => ?_) (fun hc => ?_) <;> (try rw [hc]) <;> (set_option smartUnfolding false in conv => whnf)) | skip))
 all_goals (refine hend2 _ _ ?_; (first | rfl | (simp only [*]; done) | (simp only [*]; rfl)))
end
end Ir
end Go.Proofs.Ytepdklcpagielaa
set_option maxRecDepth 100000
set_option linter.unusedSimpArgs false
set_option linter.unusedVariables false
namespace Go.Proofs.Ytepdklcpagielaa
open Go Ads
namespace Ir
section
variable {b C : Nat} {X : AV} {tl : List AV} {cs : List Pt} {ps : List Pr}
theorem rtaken_l {h : Heap} (r : RS h b C X tl cs ps) (hwf : WFp cs ps) {own g : Int} {B : Nat} {Q : AX → Env → Heap → Prop}
  (hF : takenN cs ps own g cs.length = false → ∀ e', Q (.exit 0) e' h)
  (hT : takenN cs ps own g cs.length = true → ∀ e', Tr.get e' 6 = some (.bool true) → Q .ret e' h) :
  ∀ (m j : Nat) (env : Env), cs.length - j = m → j ≤ cs.length → takenN cs ps own g j = false → AllAt env [(0, .ptr b 0), (1, .int .i64 own), (2, .int .i64 g), (7, .int .i64 ((j : Nat) : Int))] →
  VC fs ms B false (.loop L_escapementref26_known_taken_0) env h Q := by
 intro m
 induction m using Nat.strongRecOn with
 | ind m ih =>
 intro j env hm hj hi henv
 have hle := r.le
 have hlen := r.len
 refine vc_slots 4 _ henv ?_
 refine vc_loopV (vc_seq true ?_)
 set_option smartUnfolding false in conv => whnf
 refine ⟨_, ld1 r.st rfl, ?_⟩
 set_option smartUnfolding false in conv => whnf
 refine br (fun hc => ?_) (fun hc => ?_) <;> (try rw [hc]) <;> (set_option smartUnfolding false in conv => whnf)
 ·have hlt : j < cs.length := by have := of_decide_eq_true hc; omega
  have hjp : j < ps.length := by omega
  have hnx : takenN cs ps own g (j + 1) = takenP cs own g j ps[j] := by
   show (takenN cs ps own g j || (match ps[j]? with | some p => takenP cs own g j p | none => false)) = _
   rw [hi, List.getElem?_eq_getElem hjp, Bool.false_or]
  have hno : takenP cs own g j ps[j] = false → ∀ e', AllAt e' [(0, .ptr b 0), (1, .int .i64 own), (2, .int .i64 g), (7, .int .i64 (((j + 1 : Nat) : Nat) : Int))] → VC fs ms B false (.loop L_escapementref26_known_taken_0) e' h Q := fun hf e' he =>
   ih (cs.length - (j + 1)) (by omega) (j + 1) e' rfl (by omega) (by rw [hnx]; exact hf) he
  have hyes : takenP cs own g j ps[j] = true → ∀ e', Tr.get e' 6 = some (.bool true) → Q .ret e' h := fun hf => hT (by
   have := takenN_mono (hnx.trans hf) (cs.length - (j + 1))
   rwa [show j + 1 + (cs.length - (j + 1)) = cs.length by omega] at this)
  have hw := hwf j hlt hjp
  clear ih hF hT hnx
  have i1 : pV (.iaddrA 23 4) [.ptr b (0 + 2), .int .i64 ((j : Nat) : Int)] = some (.ptr b (0 + 2 + j * 23)) := idx_arr (by omega)
  have lhas : rV .load1 [.ptr b (0 + 2 + j * 23 + 21)] h = some (.bool ps[j].has) := r.ld hjp (f := 21) (by omega) (by omega) rfl
  have ltask : rV .load1 [.ptr b (0 + 2 + j * 23 + 22)] h = some (.int .i64 ps[j].task) := r.ld hjp (f := 22) (by omega) (by omega) rfl
  have lpar : rV .load1 [.ptr b (0 + 0 + 0)] h = some (.sl C 0 cs.length cs.length true) := ld1 r.st rfl
  have i2 : pV (.iaddrS 3) [.sl C 0 cs.length cs.length true, .int .i64 ((j : Nat) : Int)] = some (.ptr C (0 + j * 3)) := idx_slO hlt
  have lts : rV .load1 [.ptr C (0 + j * 3 + 2)] h = some (.fz cs[j].k (tks cs[j].ts)) := r.ldc hlt (f := 2) (by omega) (by omega) rfl
  unfold takenP at hno hyes
  generalize hp : ps[j] = p at *
  refine vc_seqV (vc_block ?_)
  refine vpC_sound (z := true) ?_
  set_option smartUnfolding false in conv => whnf
  refine br (fun hc => ?_) (fun hc => ?_) <;> (try rw [hc]) <;> (set_option smartUnfolding false in conv => whnf)
  ·have hc1 := hc
   refine ⟨_, i1, ?_⟩
   set_option smartUnfolding false in conv => whnf
   refine ⟨_, lhas, ?_⟩
   set_option smartUnfolding false in conv => whnf
   refine br (fun hc => ?_) (fun hc => ?_) <;> (try rw [hc]) <;> (set_option smartUnfolding false in conv => whnf)
   ·obtain ⟨w0, w1⟩ := hw hc
    obtain ⟨tk0, t1, t2⟩ := idx_tkO hlt w0 w1
    refine ⟨_, lpar, ?_⟩
    set_option smartUnfolding false in conv => whnf
    refine ⟨_, i2, ?_⟩
    set_option smartUnfolding false in conv => whnf
    refine ⟨_, lts, ?_⟩
    set_option smartUnfolding false in conv => whnf
    refine ⟨_, i1, ?_⟩
    set_option smartUnfolding false in conv => whnf
    refine ⟨_, ltask, ?_⟩
    set_option smartUnfolding false in conv => whnf
    refine ⟨_, t1, ?_⟩
    set_option smartUnfolding false in conv => whnf
    refine ⟨.int .i64 tk0.c, rfl, ?_⟩
    set_option smartUnfolding false in conv => whnf
    rw [t2] at hno hyes
    refine br (fun hc => ?_) (fun hc => ?_) <;> (try rw [hc]) <;> (set_option smartUnfolding false in conv => whnf)
    ·exact hyes (by (first | rfl | (simp only [*]; done) | (simp only [*]; rfl))) _ rfl
    ·refine vpC_sound (z := true) ?_
     set_option smartUnfolding false in conv => whnf
     exact hno (by (first | rfl | (simp only [*]; done) | (simp only [*]; rfl))) _ ⟨rfl, rfl, rfl, inc_slot (by omega), trivial⟩
   ·refine vpC_sound (z := true) ?_
    set_option smartUnfolding false in conv => whnf
    exact hno (by (first | rfl | (simp only [Bool.and_false, Bool.false_and, *]; done) | (simp only [Bool.and_false, Bool.false_and, *]; rfl))) _ ⟨rfl, rfl, rfl, inc_slot (by omega), trivial⟩
  ·refine vpC_sound (z := true) ?_
   set_option smartUnfolding false in conv => whnf
   exact hno (by (first | rfl | (simp only [Bool.and_false, Bool.false_and, *]; done) | (simp only [Bool.and_false, Bool.false_and, *]; rfl))) _ ⟨rfl, rfl, rfl, inc_slot (by omega), trivial⟩
 ·have hge : j = cs.length := by have := of_decide_eq_false hc; omega
  subst hge
  exact hF hi _
theorem rtaken_c {h : Heap} (r : RS h b C X tl cs ps) (hwf : WFp cs ps) {own g : Int} {Q : AV → Heap → Prop} (hQ : Q (.bool (takenN cs ps own g cs.length)) h) : VD fs ms f_escapementref26_known_taken [.ptr b 0, .int .i64 own, .int .i64 g] h Q := by
 refine vd_begin (af := C_escapementref26_known_taken) rfl (Nat.le_of_ble_eq_true rfl) ?_
 set_option smartUnfolding false in conv => whnf
 refine vc_seq true ?_
 set_option smartUnfolding false in conv => whnf
 refine vc_seqV (vc_seq true ?_)
 set_option smartUnfolding false in conv => whnf
 refine vc_block ?_
 refine rtaken_l r hwf (own := own) (g := g) (fun hf e' => ?_) (fun ht e' g6 => ?_) cs.length 0 _ rfl (Nat.zero_le _) rfl ⟨rfl, rfl, rfl, rfl, trivial⟩
 ·rw [hf] at hQ
  show VC fs ms _ _ _ _ _ _
  refine vc_slots 4 [] trivial (vpC_sound (z := true) ?_)
  set_option smartUnfolding false in conv => whnf
  exact hQ
 ·rw [ht] at hQ
  exact endV_one g6 hQ

theorem rshares_c {h0 : Heap} (r : RS h0 b C X tl cs ps) (hb : b < h0.next) (hC : C < h0.next) (hwf : WFp cs ps) {i : Nat} (hi : i < cs.length) (hip : i < ps.length) (x : Nt) (hxp : x.p = ((i : Nat) : Int)) (ht : x.k = 5 → 0 ≤ x.t ∧ x.t < (cs[i].ts.length : Nat)) {Q : AV → Heap → Prop}
  (hQ : ∀ h', Fr h0 h' [] → Q (.bool (sharesS cs ps ps[i] x)) h') : VD fs ms f_escapementref26_known_shares [.ptr b 0, nt x] h0 Q := by
 have hlen := r.len
 have hS : sharesS cs ps ps[i] x = bif (x.k == 1) then !ps[i].has || ps[i].task == x.t else bif (x.k != 5 || x.e != 0) then true else bif (x.n == 4) then !ps[i].has && (decide (globS cs i x.t > 0) && !takenN cs ps x.p (globS cs i x.t) cs.length) else (x.n != 5 || (ps[i].has && ps[i].task == x.t)) := by
  rw [sharesS, hxp, Int.toNat_natCast]
  cases h1 : (x.k == 1)
  ·cases h2 : (x.k != 5 || x.e != 0)
   ·cases h4 : (x.n == 4)
    ·have h6 : (x.n != 4) = true := by simp [bne, h4]
     cases h5 : (x.n == 5) <;> simp [h1, h2, h4, h5, h6, bne]
    ·have h5 : (x.n == 5) = false := by
      have : x.n = 4 := by simpa using h4
      rw [this]; rfl
     have h6 : (x.n != 4) = false := by simp [bne, h4]
     simp [h1, h2, h4, h5, h6]
     cases takenN cs ps (i : Nat) (globS cs i x.t) cs.length <;> cases ps[i].has <;> simp
   ·simp [h1, h2]
  ·simp [h1]
 rw [hS] at hQ
 clear hS
 refine vd_begin (af := C_escapementref26_known_shares) rfl (Nat.le_of_ble_eq_true rfl) ?_
 set_option smartUnfolding false in conv => whnf
 refine vc_seq true ?_
 set_option smartUnfolding false in conv => whnf
 have gs : (h0.new (.cells (nt x).cells true 0)).get h0.next = some (.cells (nt x).cells true 0) := get_new_same
 have fr1 : Fr h0 (h0.new (.cells (nt x).cells true 0)) [] := (Fr.refl h0 []).new
 have n1 : h0.next < (h0.new (.cells (nt x).cells true 0)).next := Nat.lt_succ_self _
 have r1 := r.keep fr1 hb hC
 generalize h0.new (.cells (nt x).cells true 0) = h1 at *
 refine vc_seq true ?_
 set_option smartUnfolding false in conv => whnf
 refine ⟨_, ld1 gs rfl, ?_⟩
 set_option smartUnfolding false in conv => whnf
 rw [hxp]
 refine ⟨_, idx_arr (by omega), ?_⟩
 set_option smartUnfolding false in conv => whnf
 refine ⟨_, r1.whole hip (by omega), ?_⟩
 set_option smartUnfolding false in conv => whnf
 refine eff_o (sto_o (n := 23) (v := .agg (prc ps[i])) get_new_same rfl (Nat.le_refl _) rfl) fun h2 e2 => ?_
 set_option smartUnfolding false in conv => whnf
 have gp : h2.get h1.next = some (.cells (prc ps[i]) true 0) := by rw [e2, get_set_same]; rfl
 have fr2 : Fr h1 h2 [] := by rw [e2]; exact ((Fr.refl h1 []).new (x := _)).setn (Nat.le_refl _)
 have gs2 : h2.get h0.next = some (.cells (nt x).cells true 0) := (fr2.keep _ n1 (by simp)).trans gs
 have fr02 := fr1.trans fr2
 have r2 := r.keep fr02 hb hC
 have hq := hQ h2 fr02
 clear e2 r1 gs fr1 hQ
 generalize h1.next = pp at *
 generalize h0.next = pn at *
 refine vc_seqV (vpC_sound (z := true) ?_)
 set_option smartUnfolding false in conv => whnf
 refine ⟨_, ld1 gs2 rfl, ?_⟩
 set_option smartUnfolding false in conv => whnf
 refine br (fun hc => ?_) (fun hc => ?_) <;> (try rw [hc]) <;> (set_option smartUnfolding false in conv => whnf)
 ·rw [hc, cond_true] at hq
  iterate 6 (all_goals (first | (refine ⟨_, ld1 gp rfl, ?_⟩; set_option smartUnfolding false in conv => whnf) | (refine ⟨_, ld1 gs2 rfl, ?_⟩; set_option smartUnfolding false in conv => whnf) | (refine br (fun hc => ?_) (fun hc => ?_) <;> (try rw [hc]) <;> (set_option smartUnfolding false in conv => whnf)) | skip))
  all_goals (first | (rw [hc] at hq; exact hq) | (simp only [*, Bool.not_true, Bool.not_false, Bool.false_or, Bool.true_or] at hq; exact hq))
 ·rw [hc, cond_false] at hq
  refine vc_seqV (VC.mono (Q := fun y e h => h = h2 ∧ ((y = .ret ∧ (x.k != 5 || x.e != 0) = true ∧ Tr.get e 4 = some (.bool true)) ∨ (y = .normal ∧ (x.k != 5 || x.e != 0) = false ∧ AllAt e [(0, .ptr b 0), (3, .ptr pn 0), (5, .ptr pp 0)]))) ?_ ?_)
  ·clear hq
   refine vpC_sound (z := true) ?_
   set_option smartUnfolding false in conv => whnf
   iterate 6 (all_goals (first | (refine ⟨_, ld1 gs2 rfl, ?_⟩; set_option smartUnfolding false in conv => whnf) | (refine br (fun hc => ?_) (fun hc => ?_) <;> (try rw [hc]) <;> (set_option smartUnfolding false in conv => whnf)) | skip))
   all_goals (first | (refine ⟨rfl, .inl ⟨rfl, ?_, rfl⟩⟩; (first | rfl | (simp only [*]; done) | (simp only [*]; rfl))) | (refine ⟨rfl, .inr ⟨rfl, ?_, rfl, rfl, rfl, trivial⟩⟩; (first | rfl | (simp only [*]; done) | (simp only [*]; rfl))))
  rintro y e h ⟨rfl, ⟨rfl, hk5, g4⟩ | ⟨rfl, hk5, he⟩⟩
  ·rw [hk5, cond_true] at hq
   exact endV_one g4 hq
  rw [hk5, cond_false] at hq
  have hxk : x.k = 5 := by simp at hk5; exact hk5.1
  obtain ⟨w0, w1⟩ := ht hxk
  obtain ⟨tk0, t1, t2⟩ := idx_tkO hi w0 w1
  rw [t2] at hq
  show VC fs ms _ _ _ _ _ _
  refine vc_slots 4 _ he ?_
  clear he
  refine vc_seqV (vc_seq true ?_)
  set_option smartUnfolding false in conv => whnf
  refine ⟨_, ld1 gs2 rfl, ?_⟩
  set_option smartUnfolding false in conv => whnf
  cases h4 : (x.n == 4) with
  | true =>
   rw [h4, cond_true] at hq
   refine vpC_sound (z := true) ?_
   set_option smartUnfolding false in conv => whnf
   refine ⟨_, ld1 r2.st rfl, ?_⟩
   set_option smartUnfolding false in conv => whnf
   refine ⟨_, ld1 gs2 rfl, ?_⟩
   set_option smartUnfolding false in conv => whnf
   rw [hxp]
   refine ⟨_, idx_slO hi, ?_⟩
   set_option smartUnfolding false in conv => whnf
   refine ⟨_, r2.ldc hi (f := 2) (by omega) (by omega) rfl, ?_⟩
   set_option smartUnfolding false in conv => whnf
   refine ⟨_, ld1 gs2 rfl, ?_⟩
   set_option smartUnfolding false in conv => whnf
   refine ⟨_, t1, ?_⟩
   set_option smartUnfolding false in conv => whnf
   refine ⟨.int .i64 tk0.c, rfl, ?_⟩
   set_option smartUnfolding false in conv => whnf
   refine ⟨_, ld1 gp rfl, ?_⟩
   set_option smartUnfolding false in conv => whnf
   refine br (fun hc => ?_) (fun hc => ?_) <;> (try rw [hc]) <;> (set_option smartUnfolding false in conv => whnf)
   ·have hc1 := hc
    refine br (fun hc => ?_) (fun hc => ?_) <;> (try rw [hc]) <;> (set_option smartUnfolding false in conv => whnf)
    ·refine ⟨_, ld1 gs2 rfl, ?_⟩
     set_option smartUnfolding false in conv => whnf
     refine rtaken_c r2 hwf ?_
     set_option smartUnfolding false in conv => whnf
     rw [hc1, hc, Bool.true_and, Bool.true_and] at hq
     exact hq
    ·rw [hc1, hc, Bool.false_and, Bool.and_false] at hq
     exact hq
   ·rw [hc, Bool.false_and] at hq
    exact hq
  | false =>
   rw [h4, cond_false] at hq
   refine vpC_sound (z := true) ?_
   set_option smartUnfolding false in conv => whnf
   refine vpC_sound (z := true) ?_
   set_option smartUnfolding false in conv => whnf
   iterate 8 (all_goals (first | (refine ⟨_, ld1 gp rfl, ?_⟩; set_option smartUnfolding false in conv => whnf) | (refine ⟨_, ld1 gs2 rfl, ?_⟩; set_option smartUnfolding false in conv => whnf) | (refine br (fun hc => ?_) (fun hc => ?_) <;> (try rw [hc]) <;> (set_option smartUnfolding false in conv => whnf)) | skip))
   all_goals (first | exact hq | (simp only [*, Bool.not_true, Bool.not_false, Bool.false_or, Bool.true_or, Bool.true_and, Bool.false_and] at hq; exact hq))
end
end Ir
end Go.Proofs.Ytepdklcpagielaa
set_option maxRecDepth 100000
set_option linter.unusedSimpArgs false
set_option linter.unusedVariables false
namespace Go.Proofs.Ytepdklcpagielaa
open Go Ads
namespace Ir
def breaksR (cs : List Pt) (ps : List Pr) (ran : Bool) (p : Pr) (t : Tk) (x : Nt) : Int :=
 if (p.inn == (x.k == 6)) = true then 2
 else if (x.k == 1 && (ran || optI (couldN ps cs.length) != x.p)) = true then 3
 else if (!thereS p x) = true then 5
 else if ((x.k == 2 && x.e == 0) && decide (x.a < (p.job x.t.toNat).nx)) = true then 6
 else if (decide (x.t ≥ 0) && !timelyR p x t) = true then 7
 else if (!sharesS cs ps p x) = true then 8 else 0
structure Shp (cs : List Pt) (i : Nat) (x : Nt) : Prop where
 hi : i < cs.length
 xp : x.p = ((i : Nat) : Int)
 k1 : 1 ≤ x.k
 k8 : x.k ≤ 8
 tw : wholeN x = true → x.t = 0
 tn : wholeN x = false → (0 ≤ x.t ∨ (x.t = -1 ∧ x.k = 1)) ∧ x.t < (cs[i].ts.length : Nat)
 t4 : cs[i].ts.length ≤ 4
theorem wholeN_no {x : Nt} (h : x.k ≤ 5) : wholeN x = false := by
 simp [wholeN]
 omega
theorem Shp.low {cs : List Pt} {i : Nat} {x : Nt} (s : Shp cs i x) (h : x.k ≤ 5) : (x.t = -1 ∧ x.k = 1) ∨ (0 ≤ x.t ∧ x.t < 4) := by
 obtain ⟨a, b⟩ := s.tn (wholeN_no h)
 have := s.t4
 omega
section
variable {b C : Nat} {X : AV} {cs : List Pt} {ps : List Pr}
theorem rbreaks_c {h0 : Heap} {now : Int} {ran gone : Bool} (r : RS h0 b C X (tlR now ran gone) cs ps) (hb : b < h0.next) (hC : C < h0.next) (hwf : WFp cs ps) {i : Nat} {x : Nt} (sh : Shp cs i x) (hi : i < cs.length) (hip : i < ps.length) {Q : AV → Heap → Prop}
  (hQ : ∀ h', Fr h0 h' [] → Q (.int .i64 (breaksR cs ps ran ps[i] (cs[i].ts.getD x.t.toNat tk00) x)) h') : VD fs ms f_escapementref26_known_breaks [.ptr b 0, nt x] h0 Q := by
 have hlen := r.len
 have hxp := sh.xp
 have hq : ∀ v, breaksR cs ps ran ps[i] (cs[i].ts.getD x.t.toNat tk00) x = v → ∀ h', Fr h0 h' [] → Q (.int .i64 v) h' := fun v hv h' f => hv ▸ hQ h' f
 clear hQ
 have hT : ∀ h : Heap, rV .load1 [.ptr C (0 + i * 3 + 2)] h = some (.fz cs[i].k (tks cs[i].ts)) → True := fun _ _ => trivial
 have hidx : 0 ≤ x.t → x.t < (cs[i].ts.length : Nat) → pV (.iaddrS 8) [.fz cs[i].k (tks cs[i].ts), .int .i64 x.t] = some (.fp (tk (cs[i].ts.getD x.t.toNat tk00)).cells 0) := fun t0 t1 => by
  have hj : x.t.toNat < cs[i].ts.length := by omega
  have := idx_tk (k := cs[i].k) hj
  rw [show ((x.t.toNat : Nat) : Int) = x.t by omega] at this
  rw [this]
  simp [List.getD_eq_getElem?_getD, List.getElem?_eq_getElem hj]
 have hout : 0 ≤ x.t → ¬ x.t < (cs[i].ts.length : Nat) → cs[i].ts.getD x.t.toNat tk00 = tk00 := fun t0 t1 => by
  rw [List.getD_eq_getElem?_getD, List.getElem?_eq_none (by omega)]
  rfl
 generalize hTd : cs[i].ts.getD x.t.toNat tk00 = T at *
 refine vd_begin (af := C_escapementref26_known_breaks) rfl (Nat.le_of_ble_eq_true rfl) ?_
 set_option smartUnfolding false in conv => whnf
 refine vc_seq true ?_
 set_option smartUnfolding false in conv => whnf
 have gs : (h0.new (.cells (nt x).cells true 0)).get h0.next = some (.cells (nt x).cells true 0) := get_new_same
 have fr1 : Fr h0 (h0.new (.cells (nt x).cells true 0)) [] := (Fr.refl h0 []).new
 have n1 : h0.next < (h0.new (.cells (nt x).cells true 0)).next := Nat.lt_succ_self _
 have r1 := r.keep fr1 hb hC
 generalize h0.new (.cells (nt x).cells true 0) = h1 at *
 refine vc_seq true ?_
 set_option smartUnfolding false in conv => whnf
 refine ⟨_, ld1 gs rfl, ?_⟩
 set_option smartUnfolding false in conv => whnf
 rw [hxp]
 refine ⟨_, idx_arr (by omega), ?_⟩
 set_option smartUnfolding false in conv => whnf
 rw [← hxp]
 refine ⟨_, r1.whole hip (by omega), ?_⟩
 set_option smartUnfolding false in conv => whnf
 refine eff_o (sto_o (n := 23) (v := .agg (prc ps[i])) get_new_same rfl (Nat.le_refl _) rfl) fun h2 e2 => ?_
 set_option smartUnfolding false in conv => whnf
 have gp : h2.get h1.next = some (.cells (prc ps[i]) true 0) := by rw [e2, get_set_same]; rfl
 have fr2 : Fr h1 h2 [] := by rw [e2]; exact ((Fr.refl h1 []).new (x := _)).setn (Nat.le_refl _)
 have n2 : h1.next < h2.next := by rw [e2]; exact Nat.lt_succ_self _
 have gs2 : h2.get h0.next = some (.cells (nt x).cells true 0) := (fr2.keep _ n1 (by simp)).trans gs
 have fr02 := fr1.trans fr2
 have n02 : h0.next < h2.next := by omega
 have hpp : h0.next ≤ h1.next := Nat.le_of_lt n1
 clear e2 r1 gs fr1 fr2 n1
 generalize h1.next = pp at *
 refine vc_seq true ?_
 set_option smartUnfolding false in conv => whnf
 have gt3 : (h2.new (.cells (tk tk00).cells true 0)).get h2.next = some (.cells (tk tk00).cells true 0) := get_new_same
 have gs3 : (h2.new (.cells (tk tk00).cells true 0)).get h0.next = some (.cells (nt x).cells true 0) := (get_new_ne n02).trans gs2
 have gp3 : (h2.new (.cells (tk tk00).cells true 0)).get pp = some (.cells (prc ps[i]) true 0) := (get_new_ne n2).trans gp
 have fr03 : Fr h0 (h2.new (.cells (tk tk00).cells true 0)) [] := fr02.new
 have n23 : h2.next < (h2.new (.cells (tk tk00).cells true 0)).next := Nat.lt_succ_self _
 have hnew : (h2.new (.cells [.int .i64 0, .int .i64 0, .int .i64 0, .int .i64 0, .int .i64 0, .int .i64 0, .int .i64 0, .int .i64 0] true 0)) = h2.new (.cells (tk tk00).cells true 0) := rfl
 refine vc_seqV (VC.mono (Q := fun y e h4 => y = .normal ∧ Fr h0 h4 [] ∧ (∃ T6, (0 ≤ x.t → T6 = T) ∧ h4.get h2.next = some (.cells (tk T6).cells true 0)) ∧ h4.get h0.next = some (.cells (nt x).cells true 0) ∧ h4.get pp = some (.cells (prc ps[i]) true 0) ∧ h2.next < h4.next ∧
  AllAt e [(0, .ptr b 0), (3, .ptr h0.next 0), (5, .ptr pp 0), (6, .ptr h2.next 0)]) ?_ ?_)
 ·rw [hnew]
  clear hq gs2 gp fr02 hnew
  generalize h2.new (.cells (tk tk00).cells true 0) = h3 at *
  have r3 := r.keep fr03 hb hC
  have lpar : rV .load1 [.ptr b (0 + 0 + 0)] h3 = some (.sl C 0 cs.length cs.length true) := ld1 r3.st rfl
  have i2 : pV (.iaddrS 3) [.sl C 0 cs.length cs.length true, .int .i64 x.p] = some (.ptr C (0 + i * 3)) := by rw [hxp]; exact idx_slO hi
  have lts : rV .load1 [.ptr C (0 + i * 3 + 2)] h3 = some (.fz cs[i].k (tks cs[i].ts)) := r3.ldc hi (f := 2) (by omega) (by omega) rfl
  refine vpC_sound (z := true) ?_
  set_option smartUnfolding false in conv => whnf
  refine ⟨_, ld1 gs3 rfl, ?_⟩
  set_option smartUnfolding false in conv => whnf
  refine br (fun hc => ?_) (fun hc => ?_) <;> (try rw [hc]) <;> (set_option smartUnfolding false in conv => whnf)
  ·have t0 := of_decide_eq_true hc
   refine ⟨_, ld1 gs3 rfl, ?_⟩
   set_option smartUnfolding false in conv => whnf
   refine ⟨_, lpar, ?_⟩
   set_option smartUnfolding false in conv => whnf
   refine ⟨_, ld1 gs3 rfl, ?_⟩
   set_option smartUnfolding false in conv => whnf
   refine ⟨_, i2, ?_⟩
   set_option smartUnfolding false in conv => whnf
   refine ⟨_, lts, ?_⟩
   set_option smartUnfolding false in conv => whnf
   rw [len_tks]
   refine br (fun hc => ?_) (fun hc => ?_) <;> (try rw [hc]) <;> (set_option smartUnfolding false in conv => whnf)
   ·have t1 := of_decide_eq_true hc
    refine ⟨_, lpar, ?_⟩
    set_option smartUnfolding false in conv => whnf
    refine ⟨_, ld1 gs3 rfl, ?_⟩
    set_option smartUnfolding false in conv => whnf
    refine ⟨_, i2, ?_⟩
    set_option smartUnfolding false in conv => whnf
    refine ⟨_, lts, ?_⟩
    set_option smartUnfolding false in conv => whnf
    refine ⟨_, ld1 gs3 rfl, ?_⟩
    set_option smartUnfolding false in conv => whnf
    refine ⟨_, hidx t0 t1, ?_⟩
    set_option smartUnfolding false in conv => whnf
    refine ⟨tk T, rfl, ?_⟩
    set_option smartUnfolding false in conv => whnf
    refine eff_o (sto_o (n := 8) (v := tk T) gt3 rfl (Nat.le_refl _) rfl) fun h4 e4 => ?_
    set_option smartUnfolding false in conv => whnf
    refine ⟨rfl, by rw [e4]; exact fr03.setn (by omega), ⟨T, fun _ => rfl, by rw [e4, get_set_same]; rfl⟩, by rw [e4, get_set_ne (by omega)]; exact gs3, by rw [e4, get_set_ne (by omega)]; exact gp3, by rw [e4]; exact n23, rfl, rfl, rfl, rfl, trivial⟩
   ·have t1 := of_decide_eq_false hc
    exact ⟨rfl, fr03, ⟨tk00, fun _ => (hout t0 t1).symm, gt3⟩, gs3, gp3, n23, rfl, rfl, rfl, rfl, trivial⟩
  ·have t0 := of_decide_eq_false hc
   exact ⟨rfl, fr03, ⟨tk00, fun h => absurd h t0, gt3⟩, gs3, gp3, n23, rfl, rfl, rfl, rfl, trivial⟩
 rintro y e h4 ⟨rfl, fr04, ⟨T6, hT6, gt⟩, gs4, gp4, n24, he⟩
 clear gt3 gs3 gp3 fr03 n23 hnew gs2 gp fr02 hidx hout
 have r4 := r.keep fr04 hb hC
 show VC fs ms _ _ _ _ _ _
 refine vc_slots 4 _ he ?_
 clear he
 generalize hp : ps[i] = p at *
 unfold breaksR at hq
 refine vc_seqV (vc_block ?_)
 refine vc_seq true ?_
 set_option smartUnfolding false in conv => whnf
 refine ⟨_, ld1 gp4 rfl, ?_⟩
 set_option smartUnfolding false in conv => whnf
 refine ⟨_, ld1 gs4 rfl, ?_⟩
 set_option smartUnfolding false in conv => whnf
 refine vc_condV ?_
 set_option smartUnfolding false in conv => whnf
 refine br (fun hc => ?_) (fun hc => ?_) <;> (try rw [hc]) <;> (set_option smartUnfolding false in conv => whnf)
 ·refine vpC_sound (z := true) ?_
  set_option smartUnfolding false in conv => whnf
  exact hq _ (if_pos hc) _ fr04
 rw [if_neg (by rw [hc]; simp)] at hq
 clear hc
 refine vc_seqV (VC.mono (Q := fun y e h5 => y = .normal ∧ Fr h4 h5 [] ∧ AllAt e [(0, .ptr b 0), (3, .ptr h0.next 0), (5, .ptr pp 0), (6, .ptr h2.next 0), (54, .bool (x.k == 1 && (ran || optI (couldN ps cs.length) != x.p)))]) ?_ ?_)
 ·clear hq
  have lran : rV .load1 [.ptr b (0 + 95)] h4 = some (.bool ran) := r4.ldt (f := 1) (by omega) rfl
  refine vpC_sound (z := true) ?_
  set_option smartUnfolding false in conv => whnf
  refine ⟨_, ld1 gs4 rfl, ?_⟩
  set_option smartUnfolding false in conv => whnf
  refine br (fun hc => ?_) (fun hc => ?_) <;> (try rw [hc]) <;> (set_option smartUnfolding false in conv => whnf)
  ·have h1c := hc
   refine ⟨_, lran, ?_⟩
   set_option smartUnfolding false in conv => whnf
   refine br (fun hc => ?_) (fun hc => ?_) <;> (try rw [hc]) <;> (set_option smartUnfolding false in conv => whnf)
   ·refine ⟨winOk_of (by (set_option smartUnfolding false in conv => whnf); repeat' (first | exact trivial | (exact ⟨rfl, rfl, .inr ⟨_, _, rfl⟩⟩) | (refine ⟨rfl, rfl, .inl ⟨rfl, fun o ho => ?_⟩⟩; cases ho; first | rfl) | (exact ⟨rfl, .inr ⟨_, _, rfl⟩⟩) | (refine ⟨rfl, .inl ⟨rfl, fun i o hi ho => ?_⟩⟩; cases hi; cases ho; first | rfl) | (refine And.intro (fun hon => (Bool.false_ne_true hon).elim) ?_ <;> set_option smartUnfolding false in conv => whnf) | (refine And.intro (fun _ => ?_) ?_ <;> set_option smartUnfolding false in conv => whnf) | (refine And.intro ?_ ?_ <;> set_option smartUnfolding false in conv => whnf))), ?_⟩
    set_option smartUnfolding false in conv => whnf
    exact ⟨rfl, Fr.refl _ _, rfl, rfl, rfl, rfl, by (first | rfl | (simp only [*]; done) | (simp only [*]; rfl)), trivial⟩
   ·refine rcould_c r4 (Nat.lt_of_lt_of_le hb fr04.next) (Nat.lt_of_lt_of_le hC fr04.next) (fun h5 fr5 => ?_)
    set_option smartUnfolding false in conv => whnf
    have gs5 : h5.get h0.next = some (.cells (nt x).cells true 0) := (fr5.keep _ (by omega) (by simp)).trans gs4
    refine ⟨_, ld1 gs5 rfl, ?_⟩
    set_option smartUnfolding false in conv => whnf
    refine ⟨winOk_of (by (set_option smartUnfolding false in conv => whnf); repeat' (first | exact trivial | (exact ⟨rfl, rfl, .inr ⟨_, _, rfl⟩⟩) | (refine ⟨rfl, rfl, .inl ⟨rfl, fun o ho => ?_⟩⟩; cases ho; first | rfl | exact ld1 gs4 rfl |  exact ld1 gs5 rfl) | (exact ⟨rfl, .inr ⟨_, _, rfl⟩⟩) | (refine ⟨rfl, .inl ⟨rfl, fun i o hi ho => ?_⟩⟩; cases hi; cases ho; first | rfl | exact ld1 gs4 rfl |  exact ld1 gs5 rfl) | (refine And.intro (fun hon => (Bool.false_ne_true hon).elim) ?_ <;> set_option smartUnfolding false in conv => whnf) | (refine And.intro (fun _ => ?_) ?_ <;> set_option smartUnfolding false in conv => whnf) | (refine And.intro ?_ ?_ <;> set_option smartUnfolding false in conv => whnf))), ?_⟩
    set_option smartUnfolding false in conv => whnf
    exact ⟨rfl, fr5, rfl, rfl, rfl, rfl, by (first | rfl | (simp only [*]; done) | (simp only [*]; rfl)), trivial⟩
  ·refine ⟨winOk_of (by (set_option smartUnfolding false in conv => whnf); repeat' (first | exact trivial | (exact ⟨rfl, rfl, .inr ⟨_, _, rfl⟩⟩) | (refine ⟨rfl, rfl, .inl ⟨rfl, fun o ho => ?_⟩⟩; cases ho; first | rfl) | (exact ⟨rfl, .inr ⟨_, _, rfl⟩⟩) | (refine ⟨rfl, .inl ⟨rfl, fun i o hi ho => ?_⟩⟩; cases hi; cases ho; first | rfl) | (refine And.intro (fun hon => (Bool.false_ne_true hon).elim) ?_ <;> set_option smartUnfolding false in conv => whnf) | (refine And.intro (fun _ => ?_) ?_ <;> set_option smartUnfolding false in conv => whnf) | (refine And.intro ?_ ?_ <;> set_option smartUnfolding false in conv => whnf))), ?_⟩
   set_option smartUnfolding false in conv => whnf
   exact ⟨rfl, Fr.refl _ _, rfl, rfl, rfl, rfl, by (first | rfl | (simp only [*]; done) | (simp only [*]; rfl)), trivial⟩
 rintro y e h5 ⟨rfl, fr5, he⟩
 have hne0 : h0.next < h4.next := by omega
 have hnp : pp < h4.next := by omega
 have gs5 : h5.get h0.next = some (.cells (nt x).cells true 0) := (fr5.keep _ hne0 (by simp)).trans gs4
 have gp5 : h5.get pp = some (.cells (prc p) true 0) := (fr5.keep _ hnp (by simp)).trans gp4
 have gt5 : h5.get h2.next = some (.cells (tk T6).cells true 0) := (fr5.keep _ n24 (by simp)).trans gt
 have fr05 := fr04.trans fr5
 have r5 := r.keep fr05 hb hC
 clear gs4 gp4 gt r4
 show VC fs ms _ _ _ _ _ _
 refine vc_slots 6 _ he ?_
 clear he
 refine vc_condV ?_
 set_option smartUnfolding false in conv => whnf
 refine br (fun hc => ?_) (fun hc => ?_) <;> (try rw [hc]) <;> (set_option smartUnfolding false in conv => whnf)
 ·refine vpC_sound (z := true) ?_
  set_option smartUnfolding false in conv => whnf
  exact hq _ (if_pos hc) _ fr05
 rw [if_neg (by rw [hc]; simp)] at hq
 clear hc
 refine vc_seq true ?_
 set_option smartUnfolding false in conv => whnf
 refine ⟨.agg (prc p), ldN (n := 23) gp5 (Nat.le_refl _), ?_⟩
 set_option smartUnfolding false in conv => whnf
 refine ⟨nt x, ldN (n := 7) gs5 (Nat.le_refl _), ?_⟩
 set_option smartUnfolding false in conv => whnf
 refine vd_pure (rthere_c p x ⟨sh.k1, sh.k8⟩ (fun h => sh.low h)) ?_
 set_option smartUnfolding false in conv => whnf
 refine vc_condV ?_
 set_option smartUnfolding false in conv => whnf
 refine br (fun hc => ?_) (fun hc => ?_) <;> (try rw [hc]) <;> (set_option smartUnfolding false in conv => whnf)
 ·refine vpC_sound (z := true) ?_
  set_option smartUnfolding false in conv => whnf
  exact hq _ (if_pos hc) _ fr05
 rw [if_neg (by rw [hc]; simp)] at hq
 clear hc
 refine vc_seqV (VC.mono (Q := fun y e h => y = .normal ∧ h = h5 ∧ AllAt e [(0, .ptr b 0), (3, .ptr h0.next 0), (5, .ptr pp 0), (6, .ptr h2.next 0), (76, .bool ((x.k == 2 && x.e == 0) && decide (x.a < (p.job x.t.toNat).nx)))]) ?_ ?_)
 ·clear hq
  refine vpC_sound (z := true) ?_
  set_option smartUnfolding false in conv => whnf
  refine ⟨_, ld1 gs5 rfl, ?_⟩
  set_option smartUnfolding false in conv => whnf
  refine br (fun hc => ?_) (fun hc => ?_) <;> (try rw [hc]) <;> (set_option smartUnfolding false in conv => whnf)
  ·have hk2 : x.k = 2 := by simpa using hc
   have hlow := sh.low (by omega)
   have hxt : x.t = ((x.t.toNat : Nat) : Int) := by omega
   have hj : x.t.toNat < 4 := by omega
   have i3 : pV (.iaddrA 4 4) [.ptr pp (0 + 5), .int .i64 x.t] = some (.ptr pp (0 + 5 + x.t.toNat * 4)) := by
    have := idx_arr (b := pp) (o := 0 + 5) (n := 4) (j := x.t.toNat) (s := 4) hj
    rwa [← hxt] at this
   have l3 : rV .load1 [.ptr pp (0 + 5 + x.t.toNat * 4 + 3)] h5 = some (.int .i64 (p.job x.t.toNat).nx) := job_c gp5 hj 3 (by omega) (by omega) rfl
   iterate 8 (all_goals (first | (refine ⟨_, ld1 gs5 rfl, ?_⟩; set_option smartUnfolding false in conv => whnf) | (refine ⟨_, i3, ?_⟩; set_option smartUnfolding false in conv => whnf) | (refine ⟨_, l3, ?_⟩; set_option smartUnfolding false in conv => whnf) | (refine br (fun hc => ?_) (fun hc => ?_) <;> (try rw [hc]) <;> (set_option smartUnfolding false in conv => whnf)) | skip))
   all_goals (exact ⟨rfl, rfl, rfl, rfl, rfl, rfl, by (first | rfl | (simp only [*]; done) | (simp only [*]; rfl)), trivial⟩)
  ·exact ⟨rfl, rfl, rfl, rfl, rfl, rfl, by (first | rfl | (simp only [*]; done) | (simp only [*]; rfl)), trivial⟩
 rintro y e h ⟨rfl, rfl, he⟩
 show VC fs ms _ _ _ _ _ _
 refine vc_slots 7 _ he ?_
 clear he
 refine vc_condV ?_
 set_option smartUnfolding false in conv => whnf
 refine br (fun hc => ?_) (fun hc => ?_) <;> (try rw [hc]) <;> (set_option smartUnfolding false in conv => whnf)
 ·refine vpC_sound (z := true) ?_
  set_option smartUnfolding false in conv => whnf
  exact hq _ (if_pos hc) _ fr05
 rw [if_neg (by rw [hc]; simp)] at hq
 clear hc
 refine vc_seqV (VC.mono (Q := fun y e h' => y = .normal ∧ h' = h ∧ AllAt e [(0, .ptr b 0), (3, .ptr h0.next 0), (96, .bool (decide (x.t ≥ 0) && !timelyR p x T))]) ?_ ?_)
 ·clear hq
  refine vpC_sound (z := true) ?_
  set_option smartUnfolding false in conv => whnf
  refine ⟨_, ld1 gs5 rfl, ?_⟩
  set_option smartUnfolding false in conv => whnf
  refine br (fun hc => ?_) (fun hc => ?_) <;> (try rw [hc]) <;> (set_option smartUnfolding false in conv => whnf)
  ·have h6 := hT6 (of_decide_eq_true hc)
   subst h6
   refine ⟨.agg (prc p), ldN (n := 23) gp5 (Nat.le_refl _), ?_⟩
   set_option smartUnfolding false in conv => whnf
   refine ⟨nt x, ldN (n := 7) gs5 (Nat.le_refl _), ?_⟩
   set_option smartUnfolding false in conv => whnf
   refine ⟨tk T6, ldN (n := 8) gt5 (Nat.le_refl _), ?_⟩
   set_option smartUnfolding false in conv => whnf
   refine vd_pure (rtimely_c p x T6 (fun h1 h5 => by have := sh.low h5; have := of_decide_eq_true hc; omega)) ?_
   set_option smartUnfolding false in conv => whnf
   exact ⟨rfl, rfl, rfl, rfl, by (first | rfl | (simp only [*]; done) | (simp only [*]; rfl)), trivial⟩
  ·exact ⟨rfl, rfl, rfl, rfl, by (first | rfl | (simp only [*]; done) | (simp only [*]; rfl)), trivial⟩
 rintro y e h' ⟨rfl, rfl, he⟩
 show VC fs ms _ _ _ _ _ _
 refine vc_slots 7 _ he ?_
 clear he
 refine vc_condV ?_
 set_option smartUnfolding false in conv => whnf
 refine br (fun hc => ?_) (fun hc => ?_) <;> (try rw [hc]) <;> (set_option smartUnfolding false in conv => whnf)
 ·refine vpC_sound (z := true) ?_
  set_option smartUnfolding false in conv => whnf
  exact hq _ (if_pos hc) _ fr05
 rw [if_neg (by rw [hc]; simp)] at hq
 clear hc
 refine vc_seq true ?_
 set_option smartUnfolding false in conv => whnf
 refine ⟨nt x, ldN (n := 7) gs5 (Nat.le_refl _), ?_⟩
 set_option smartUnfolding false in conv => whnf
 refine rshares_c r5 (Nat.lt_of_lt_of_le hb fr05.next) (Nat.lt_of_lt_of_le hC fr05.next) hwf hi hip x hxp (fun hk => by have := sh.tn (wholeN_no (by omega)); omega) (fun h6 fr6 => ?_)
 set_option smartUnfolding false in conv => whnf
 rw [hp]
 refine vc_condV ?_
 set_option smartUnfolding false in conv => whnf
 refine br (fun hc => ?_) (fun hc => ?_) <;> (try rw [hc]) <;> (set_option smartUnfolding false in conv => whnf)
 ·refine vpC_sound (z := true) ?_
  set_option smartUnfolding false in conv => whnf
  exact hq _ (if_pos hc) _ (fr05.trans fr6)
 ·rw [if_neg (by rw [hc]; simp)] at hq
  refine vpC_sound (z := true) ?_
  set_option smartUnfolding false in conv => whnf
  refine vpC_sound (z := true) ?_
  set_option smartUnfolding false in conv => whnf
  exact hq _ rfl _ (fr05.trans fr6)
end
end Ir
end Go.Proofs.Ytepdklcpagielaa
set_option maxRecDepth 100000
set_option linter.unusedSimpArgs false
set_option linter.unusedVariables false
namespace Go.Proofs.Ytepdklcpagielaa
open Go Ads
namespace Ir
theorem pts_take : ∀ {cs : List Pt} {i : Nat} (hi : i < cs.length), ((flatCells (pts cs)).drop (i * 3)).take 3 = (pt cs[i]).cells
 | c :: cs, 0, hi => by
  show (((pt c).cells ++ flatCells (pts cs)).drop (0 * 3)).take 3 = (pt c).cells
  rw [Nat.zero_mul, List.drop_zero, List.take_append_of_le_length (show 3 ≤ (pt c).cells.length from Nat.le_refl 3)]
  rfl
 | c :: cs, i + 1, hi => by
  have := pts_take (cs := cs) (i := i) (by simpa using hi)
  show (((pt c).cells ++ flatCells (pts cs)).drop ((i + 1) * 3)).take 3 = _
  rw [show (i + 1) * 3 = 3 + i * 3 by omega, ← List.drop_drop]
  exact this
def beginsR (c : Pt) (p : Pr) (x : Nt) : Pt × Pr × Bool := if wholeN x = true then turnS c p x else (c, p, false)
section
variable {b C : Nat} {X : AV} {cs : List Pt} {ps : List Pr} {h : Heap} {tl : List AV}
theorem RS.ldp {o i : Nat} (r : RS h b C X tl cs ps) (hi : i < cs.length) (ho : o = i * 3) : rV (.loadN 3) [.ptr C o] h = some (pt cs[i]) := by
 subst ho
 have hfc : (flatCells (pts cs)).length = cs.length * 3 := by rw [flat_size (size_pts cs), len_pts]
 rw [ldN r.cf (by rw [hfc]; omega), pts_take hi]
 rfl
theorem RS.putP {o i : Nat} {c' : Pt} (r : RS h b C X tl cs ps) (hi : i < cs.length) (ho : o = i * 3) :
  ∃ h', eV (.store 3) [.ptr C o, pt c'] h = some (.undef, h') ∧ RS h' b C X tl (cs.set i c') ps ∧ Fr h h' [C] := by
 have hb : b ≠ C := r.ne
 have hfc : (flatCells (pts cs)).length = cs.length * 3 := by rw [flat_size (size_pts cs), len_pts]
 subst ho
 refine ⟨_, sto_o (n := 3) (es := 3) r.cf rfl (by rw [hfc]; omega) rfl, ⟨?_, ?_, r.len, by rw [List.length_set]; exact r.le, r.ne⟩, (Fr.refl h [C]).set (by simp)⟩
 ·rw [get_set_ne hb, List.length_set]
  exact r.st
 ·have := pts_set hi (f := 0) (pt c').cells c' (Nat.le_refl _) rfl
  rw [Nat.add_zero] at this
  rw [get_set_same, this]

theorem rbegins_c {h0 : Heap} {now : Int} {ran gone : Bool} (r : RS h0 b C X (tlR now ran gone) cs ps) (hb : b < h0.next) (hC : C < h0.next) {i : Nat} {x : Nt} (hxp : x.p = ((i : Nat) : Int)) (hi : i < cs.length) (hip : i < ps.length) {Q : AV → Heap → Prop}
  (hQ : ∀ h', RS h' b C X (tlR now ran (gone || (beginsR cs[i] ps[i] x).2.2)) (cs.set i (beginsR cs[i] ps[i] x).1) (ps.set i (beginsR cs[i] ps[i] x).2.1) → Fr h0 h' [b, C] → Q (.tup []) h') : VD fs ms f_escapementref26_known_begins [.ptr b 0, nt x] h0 Q := by
 have hlen := r.len
 refine vd_begin (af := C_escapementref26_known_begins) rfl (Nat.le_of_ble_eq_true rfl) ?_
 set_option smartUnfolding false in conv => whnf
 refine vc_seq true ?_
 set_option smartUnfolding false in conv => whnf
 have gs : (h0.new (.cells (nt x).cells true 0)).get h0.next = some (.cells (nt x).cells true 0) := get_new_same
 have fr1 : Fr h0 (h0.new (.cells (nt x).cells true 0)) [] := (Fr.refl h0 []).new
 have n1 : h0.next < (h0.new (.cells (nt x).cells true 0)).next := Nat.lt_succ_self _
 have r1 := r.keep fr1 hb hC
 generalize h0.new (.cells (nt x).cells true 0) = h1 at *
 refine vc_seq true ?_
 set_option smartUnfolding false in conv => whnf
 refine ⟨_, ld1 gs rfl, ?_⟩
 set_option smartUnfolding false in conv => whnf
 rw [hxp]
 refine ⟨_, idx_arr (by omega), ?_⟩
 set_option smartUnfolding false in conv => whnf
 rw [← hxp]
 refine ⟨_, r1.whole hip (by omega), ?_⟩
 set_option smartUnfolding false in conv => whnf
 refine eff_o (sto_o (n := 23) (v := .agg (prc ps[i])) get_new_same rfl (Nat.le_refl _) rfl) fun h2 e2 => ?_
 set_option smartUnfolding false in conv => whnf
 have gp : h2.get h1.next = some (.cells (prc ps[i]) true 0) := by rw [e2, get_set_same]; rfl
 have fr2 : Fr h1 h2 [] := by rw [e2]; exact ((Fr.refl h1 []).new (x := _)).setn (Nat.le_refl _)
 have n2 : h1.next < h2.next := by rw [e2]; exact Nat.lt_succ_self _
 have gs2 : h2.get h0.next = some (.cells (nt x).cells true 0) := (fr2.keep _ n1 (by simp)).trans gs
 have fr02 := fr1.trans fr2
 have hbp : b < h1.next := Nat.lt_of_lt_of_le hb fr1.next
 have hCp : C < h1.next := Nat.lt_of_lt_of_le hC fr1.next
 have r2 := r.keep fr02 hb hC
 clear e2 r1 gs fr1 fr2
 generalize h1.next = pp at *
 have hhx : h0.next ≤ h0.next := Nat.le_refl _
 generalize hpx : h0.next = px at *
 refine vc_seqV (VC.mono (Q := fun y e h3 => y = .normal ∧ ∃ c' p' g', beginsR cs[i] ps[i] x = (c', p', g') ∧ RS h3 b C X (tlR now ran (gone || g')) (cs.set i c') ps ∧ h3.get pp = some (.cells (prc p') true 0) ∧ h3.get px = some (.cells (nt x).cells true 0) ∧ Fr h2 h3 [b, C, pp] ∧
  AllAt e [(0, .ptr b 0), (3, .ptr px 0), (4, .ptr pp 0)]) ?_ ?_)
 ·clear hQ
  refine vc_seq true ?_
  set_option smartUnfolding false in conv => whnf
  refine ⟨_, ld1 gs2 rfl, ?_⟩
  set_option smartUnfolding false in conv => whnf
  refine vc_block ?_
  refine vc_seq true ?_
  set_option smartUnfolding false in conv => whnf
  have lpar : rV .load1 [.ptr b (0 + 0 + 0)] h2 = some (.sl C 0 cs.length cs.length true) := ld1 r2.st rfl
  have i2 : pV (.iaddrS 3) [.sl C 0 cs.length cs.length true, .int .i64 x.p] = some (.ptr C (0 + i * 3)) := by rw [hxp]; exact idx_slO hi
  cases k6 : (x.k == 6) with
  | true =>
   have hB : beginsR cs[i] ps[i] x = (cs[i], fresh { pr0 with inn := true } cs[i] x.a, false) := by
    have : x.k = 6 := by simpa using k6
    simp [beginsR, wholeN, turnS, this]
   refine vc_condV ?_
   set_option smartUnfolding false in conv => whnf
   refine vc_seq true ?_
   set_option smartUnfolding false in conv => whnf
   refine ⟨_, lpar, ?_⟩
   set_option smartUnfolding false in conv => whnf
   refine ⟨_, ld1 gs2 rfl, ?_⟩
   set_option smartUnfolding false in conv => whnf
   refine ⟨_, i2, ?_⟩
   set_option smartUnfolding false in conv => whnf
   refine ⟨_, r2.ldp hi (by omega), ?_⟩
   set_option smartUnfolding false in conv => whnf
   refine eff_o (sto_o (n := 3) (v := pt cs[i]) get_new_same rfl (Nat.le_refl _) rfl) fun h3 e3 => ?_
   set_option smartUnfolding false in conv => whnf
   have g3 : h3.get h2.next = some (.cells (pt cs[i]).cells true 0) := by rw [e3, get_set_same]; rfl
   have fr3 : Fr h2 h3 [] := by rw [e3]; exact ((Fr.refl h2 []).new (x := _)).setn (Nat.le_refl _)
   have n3 : h2.next < h3.next := by rw [e3]; exact Nat.lt_succ_self _
   have gs3 : h3.get px = some (.cells (nt x).cells true 0) := (fr3.keep _ (by omega) (by simp)).trans gs2
   have gp3 : h3.get pp = some (.cells (prc ps[i]) true 0) := (fr3.keep _ n2 (by simp)).trans gp
   clear e3
   refine vpC_sound (z := true) ?_
   set_option smartUnfolding false in conv => whnf
   repeat (first | (refine ⟨_, ld1 g3 rfl, ?_⟩; set_option smartUnfolding false in conv => whnf) | (refine ⟨_, ld1 gs3 rfl, ?_⟩; set_option smartUnfolding false in conv => whnf))
   refine eff_o (sto_o (n := 23) (v := .agg (prc (fresh { pr0 with inn := true } cs[i] x.a))) gp3 rfl (Nat.le_refl _) rfl) fun h4 e4 => ?_
   set_option smartUnfolding false in conv => whnf
   have fr4 : Fr h2 h4 [b, C, pp] := by rw [e4]; exact (fr3.wk (by simp)).set (by simp)
   refine ⟨rfl, _, _, _, hB, ?_, by rw [e4, get_set_same]; rfl, by rw [e4, get_set_ne (by omega)]; exact gs3, fr4, rfl, rfl, rfl, trivial⟩
   rw [Bool.or_false, List.set_getElem_self]
   have r3 := r2.keep fr3 (by omega) (by omega)
   rw [e4]
   exact ⟨by rw [get_set_ne (by omega)]; exact r3.st, by rw [get_set_ne (by omega)]; exact r3.cf, r3.len, r3.le, r3.ne⟩
  | false =>
   refine vc_condV ?_
   set_option smartUnfolding false in conv => whnf
   refine vc_seq true ?_
   set_option smartUnfolding false in conv => whnf
   cases k7 : (x.k == 7) with
   | true =>
    have hB : beginsR cs[i] ps[i] x = (cs[i], pr0, true) := by
     have : x.k = 7 := by simpa using k7
     simp [beginsR, wholeN, turnS, this]
    refine vpC_sound (z := true) ?_
    set_option smartUnfolding false in conv => whnf
    refine eff_o (sto_o (n := 23) (v := .agg (prc pr0)) gp rfl (Nat.le_refl _) rfl) fun h4 e4 => ?_
    set_option smartUnfolding false in conv => whnf
    have r4 : RS h4 b C X (tlR now ran gone) cs ps := by
     rw [e4]
     exact ⟨by rw [get_set_ne (by omega)]; exact r2.st, by rw [get_set_ne (by omega)]; exact r2.cf, r2.len, r2.le, r2.ne⟩
    have fr4 : Fr h2 h4 [b, C, pp] := by rw [e4]; exact (Fr.refl _ _).set (by simp)
    have g4 : h4.get pp = some (.cells (prc pr0) true 0) := by rw [e4, get_set_same]; rfl
    have gs4 : h4.get px = some (.cells (nt x).cells true 0) := by rw [e4, get_set_ne (by omega)]; exact gs2
    clear e4
    obtain ⟨h5, s5, r5, fr5⟩ := r4.putT (v := .bool true) (f := 2) (o := 0 + 96) (tl' := tlR now ran true) (by omega) rfl (by simp [tlR]) rfl rfl
    refine eff_o s5 fun h5' e5 => ?_
    subst e5
    set_option smartUnfolding false in conv => whnf
    have hpn : pp < h4.next := Nat.lt_of_lt_of_le n2 fr4.next
    refine ⟨rfl, _, _, _, hB, ?_, (fr5.keep _ hpn (by simp; omega)).trans g4, (fr5.keep _ (by have := fr4.next; omega) (by simp; omega)).trans gs4, fr4.trans (fr5.wk (by simp)), rfl, rfl, rfl, trivial⟩
    rw [Bool.or_true, List.set_getElem_self]
    exact r5
   | false =>
    refine vc_condV ?_
    set_option smartUnfolding false in conv => whnf
    refine vc_seq true ?_
    set_option smartUnfolding false in conv => whnf
    cases k8 : (x.k == 8) with
    | true =>
     have hB : beginsR cs[i] ps[i] x = (chg cs[i] x.n, fresh ps[i] (chg cs[i] x.n) x.a, false) := by
      have : x.k = 8 := by simpa using k8
      simp [beginsR, wholeN, turnS, this]
     generalize ps[i] = p at *
     refine vc_condV ?_
     set_option smartUnfolding false in conv => whnf
     refine vc_seq true ?_
     set_option smartUnfolding false in conv => whnf
     refine ⟨_, ld1 gs2 rfl, ?_⟩
     set_option smartUnfolding false in conv => whnf
     refine ⟨.int .i64 (IntKind.i64.wrap (x.n.tdiv 100)), rfl, ?_⟩
     set_option smartUnfolding false in conv => whnf
     refine eff_o (sto_o (n := 1) (v := .int .i64 (IntKind.i64.wrap (x.n.tdiv 100))) (o := 0 + 1) gp rfl (Nat.le_of_ble_eq_true rfl) rfl) fun h3 e3 => ?_
     set_option smartUnfolding false in conv => whnf
     have g3 : h3.get pp = some (.cells (prc { p with per := IntKind.i64.wrap (x.n.tdiv 100) }) true 0) := by rw [e3, get_set_same]; rfl
     have fr3 : Fr h2 h3 [pp] := by rw [e3]; exact (Fr.refl _ _).set (by simp)
     have gs3 : h3.get px = some (.cells (nt x).cells true 0) := (fr3.keep _ (by omega) (by simp; omega)).trans gs2
     clear e3
     refine vc_seq true ?_
     set_option smartUnfolding false in conv => whnf
     refine ⟨_, ld1 gs3 rfl, ?_⟩
     set_option smartUnfolding false in conv => whnf
     refine ⟨.int .i64 (x.n.tmod 100), rfl, ?_⟩
     set_option smartUnfolding false in conv => whnf
     refine eff_o (sto_o (n := 1) (v := .int .i64 (x.n.tmod 100)) (o := 0 + 2) g3 rfl (Nat.le_of_ble_eq_true rfl) rfl) fun h4 e4 => ?_
     set_option smartUnfolding false in conv => whnf
     have g4 : h4.get pp = some (.cells (prc { p with per := IntKind.i64.wrap (x.n.tdiv 100), bud := x.n.tmod 100 }) true 0) := by rw [e4, get_set_same]; rfl
     have fr4 : Fr h2 h4 [pp] := by rw [e4]; exact fr3.set (by simp)
     clear e4 g3 fr3 gs3
     refine vc_seq true ?_
     set_option smartUnfolding false in conv => whnf
     refine eff_o (sto_o (n := 1) (v := .int .i64 0) (o := 0 + 4) g4 rfl (Nat.le_of_ble_eq_true rfl) rfl) fun h5 e5 => ?_
     set_option smartUnfolding false in conv => whnf
     have g5 : h5.get pp = some (.cells (prc { p with per := IntKind.i64.wrap (x.n.tdiv 100), bud := x.n.tmod 100, ran := 0 }) true 0) := by rw [e5, get_set_same]; rfl
     have fr5 : Fr h2 h5 [pp] := by rw [e5]; exact fr4.set (by simp)
     have gs5 : h5.get px = some (.cells (nt x).cells true 0) := (fr5.keep _ (by omega) (by simp; omega)).trans gs2
     clear e5 g4 fr4
     refine vc_seq true ?_
     set_option smartUnfolding false in conv => whnf
     repeat (first | (refine ⟨_, ld1 g5 rfl, ?_⟩; set_option smartUnfolding false in conv => whnf) | (refine ⟨_, ld1 gs5 rfl, ?_⟩; set_option smartUnfolding false in conv => whnf))
     refine eff_o (sto_o (n := 1) (v := .int .i64 (IntKind.i64.wrap (x.a + IntKind.i64.wrap (x.n.tdiv 100)))) (o := 0 + 3) g5 rfl (Nat.le_of_ble_eq_true rfl) rfl) fun h6 e6 => ?_
     set_option smartUnfolding false in conv => whnf
     have g6 : h6.get pp = some (.cells (prc (fresh p (chg cs[i] x.n) x.a)) true 0) := by rw [e6, get_set_same]; rfl
     have fr6 : Fr h2 h6 [pp] := by rw [e6]; exact fr5.set (by simp)
     have gs6 : h6.get px = some (.cells (nt x).cells true 0) := (fr6.keep _ (by omega) (by simp; omega)).trans gs2
     have r6 : RS h6 b C X (tlR now ran gone) cs ps := ⟨(fr6.keep _ (by omega) (by simp; omega)).trans r2.st, (fr6.keep _ (by omega) (by simp; omega)).trans r2.cf, r2.len, r2.le, r2.ne⟩
     have hp6 : pp < h6.next := Nat.lt_of_lt_of_le n2 fr6.next
     have hx6 : px < h6.next := by have := fr6.next; omega
     clear e6 g5 fr5 gs5
     have lpar6 : rV .load1 [.ptr b (0 + 0 + 0)] h6 = some (.sl C 0 cs.length cs.length true) := ld1 r6.st rfl
     refine vc_seq true ?_
     set_option smartUnfolding false in conv => whnf
     refine ⟨_, lpar6, ?_⟩
     set_option smartUnfolding false in conv => whnf
     refine ⟨_, ld1 gs6 rfl, ?_⟩
     set_option smartUnfolding false in conv => whnf
     refine ⟨_, i2, ?_⟩
     set_option smartUnfolding false in conv => whnf
     refine ⟨_, r6.ldp hi (by omega), ?_⟩
     set_option smartUnfolding false in conv => whnf
     generalize hcc : cs[i] = c at *
     refine eff_o (sto_o (n := 3) (v := pt c) get_new_same rfl (Nat.le_refl _) rfl) fun h7 e7 => ?_
     set_option smartUnfolding false in conv => whnf
     have g7 : h7.get h6.next = some (.cells (pt c).cells true 0) := by rw [e7, get_set_same]; rfl
     have fr7 : Fr h6 h7 [] := by rw [e7]; exact ((Fr.refl h6 []).new (x := _)).setn (Nat.le_refl _)
     have n7 : h6.next < h7.next := by rw [e7]; exact Nat.lt_succ_self _
     have gp7 : h7.get pp = some (.cells (prc (fresh p (chg c x.n) x.a)) true 0) := (fr7.keep _ (by omega) (by simp)).trans g6
     clear e7
     generalize hpc : h6.next = pc at *
     refine vc_seq true ?_
     set_option smartUnfolding false in conv => whnf
     refine ⟨_, ld1 gp7 rfl, ?_⟩
     set_option smartUnfolding false in conv => whnf
     refine eff_o (sto_o (n := 1) (v := .int .i64 (fresh p (chg c x.n) x.a).per) (o := 0 + 0) g7 rfl (Nat.le_of_ble_eq_true rfl) rfl) fun h8 e8 => ?_
     set_option smartUnfolding false in conv => whnf
     have g8 : h8.get pc = some (.cells (pt { c with per := IntKind.i64.wrap (x.n.tdiv 100) }).cells true 0) := by rw [e8, get_set_same]; rfl
     have gp8 : h8.get pp = some (.cells (prc (fresh p (chg c x.n) x.a)) true 0) := by rw [e8, get_set_ne (by omega)]; exact gp7
     have fr8 : Fr h7 h8 [pc] := by rw [e8]; exact (Fr.refl _ _).set (by simp)
     clear e8
     refine vc_seq true ?_
     set_option smartUnfolding false in conv => whnf
     refine ⟨_, ld1 gp8 rfl, ?_⟩
     set_option smartUnfolding false in conv => whnf
     refine eff_o (sto_o (n := 1) (v := .int .i64 (fresh p (chg c x.n) x.a).bud) (o := 0 + 1) g8 rfl (Nat.le_of_ble_eq_true rfl) rfl) fun h9 e9 => ?_
     set_option smartUnfolding false in conv => whnf
     have g9 : h9.get pc = some (.cells (pt (chg c x.n)).cells true 0) := by rw [e9, get_set_same]; rfl
     have fr9 : Fr h7 h9 [pc] := by rw [e9]; exact fr8.set (by simp)
     clear e9
     have r9 : RS h9 b C X (tlR now ran gone) cs ps := by
      have r7 := r6.keep fr7 (by omega) (by omega)
      exact ⟨(fr9.keep _ (by omega) (by simp; omega)).trans r7.st, (fr9.keep _ (by omega) (by simp; omega)).trans r7.cf, r7.len, r7.le, r7.ne⟩
     have gs9 : h9.get px = some (.cells (nt x).cells true 0) := (fr9.keep _ (by omega) (by simp; omega)).trans ((fr7.keep _ (by omega) (by simp)).trans gs6)
     have gp9 : h9.get pp = some (.cells (prc (fresh p (chg c x.n) x.a)) true 0) := (fr9.keep _ (by omega) (by simp; omega)).trans gp7
     have lpar9 : rV .load1 [.ptr b (0 + 0 + 0)] h9 = some (.sl C 0 cs.length cs.length true) := ld1 r9.st rfl
     have hp9 : pp < h9.next := by have := fr9.next; omega
     have hx9 : px < h9.next := by have := fr9.next; omega
     refine vpC_sound (z := true) ?_
     set_option smartUnfolding false in conv => whnf
     refine ⟨_, lpar9, ?_⟩
     set_option smartUnfolding false in conv => whnf
     refine ⟨_, ld1 gs9 rfl, ?_⟩
     set_option smartUnfolding false in conv => whnf
     refine ⟨pt (chg c x.n), ldN (n := 3) g9 (Nat.le_refl _), ?_⟩
     set_option smartUnfolding false in conv => whnf
     refine ⟨_, i2, ?_⟩
     set_option smartUnfolding false in conv => whnf
     obtain ⟨h10, s10, r10, fr10⟩ := r9.putP (c' := chg c x.n) hi (o := 0 + i * 3) (by omega)
     refine eff_o s10 fun h10' e10 => ?_
     subst e10
     set_option smartUnfolding false in conv => whnf
     refine ⟨rfl, _, _, _, hB, by rw [Bool.or_false]; exact r10, (fr10.keep _ hp9 (by simp; omega)).trans gp9, (fr10.keep _ hx9 (by simp; omega)).trans gs9, ?_, rfl, rfl, rfl, trivial⟩
     have hn2 : h2.next ≤ pc := by have := fr6.next; omega
     refine ⟨by have := fr10.next; have := fr9.next; have := fr7.next; have := fr6.next; omega, fun d hd hnd => ?_⟩
     simp only [List.mem_cons, List.not_mem_nil, or_false, not_or] at hnd
     have hd6 : d < h6.next := Nat.lt_of_lt_of_le hd fr6.next
     rw [fr10.keep d (by have := fr9.next; have := fr7.next; omega) (by simp; omega), fr9.keep d (by have := fr7.next; omega) (by simp; omega), fr7.keep d hd6 (by simp)]
     exact fr6.keep d hd (by simp; omega)
    | false =>
     have hB : beginsR cs[i] ps[i] x = (cs[i], ps[i], false) := by
      have : wholeN x = false := by rw [wholeN, k6, k7, k8]; rfl
      simp [beginsR, this]
     refine vpC_sound (z := true) ?_
     set_option smartUnfolding false in conv => whnf
     refine ⟨rfl, _, _, _, hB, by rw [Bool.or_false, List.set_getElem_self]; exact r2, gp, gs2, Fr.refl _ _, rfl, rfl, rfl, trivial⟩
 rintro y e h3 ⟨rfl, c', p', g', hB, r3, g3, gs3, fr3, he⟩
 rw [hB] at hQ
 show VC fs ms _ _ _ _ _ _
 refine vc_slots 4 _ he (vpC_sound (z := true) ?_)
 set_option smartUnfolding false in conv => whnf
 refine ⟨_, ld1 gs3 rfl, ?_⟩
 set_option smartUnfolding false in conv => whnf
 refine ⟨.agg (prc p'), ldN (n := 23) g3 (Nat.le_refl _), ?_⟩
 set_option smartUnfolding false in conv => whnf
 rw [hxp]
 refine ⟨_, idx_arr (by omega), ?_⟩
 set_option smartUnfolding false in conv => whnf
 obtain ⟨h4, s4, r4, fr4⟩ := r3.put (v := .agg (prc p')) (n := 23) (p' := p') hip (f := 0) (o := 0 + 2 + i * 23) (by omega) rfl (by omega) rfl rfl
 refine eff_o s4 fun h4' e4 => ?_
 subst e4
 set_option smartUnfolding false in conv => whnf
 refine hQ _ r4 ⟨by have := fr02.next; have := fr3.next; have := fr4.next; omega, fun d hd hnd => ?_⟩
 simp only [List.mem_cons, List.not_mem_nil, or_false, not_or] at hnd
 rw [fr4.keep d (by have := fr02.next; have := fr3.next; omega) (by simp; omega), fr3.keep d (by have := fr02.next; omega) (by simp; omega)]
 exact fr02.keep d (by omega) (by simp)
end
end Ir
end Go.Proofs.Ytepdklcpagielaa
set_option maxRecDepth 100000
set_option linter.unusedSimpArgs false
set_option linter.unusedVariables false
namespace Go.Proofs.Ytepdklcpagielaa
open Go Ads
namespace Ir
def doesR (p : Pr) (x : Nt) (t : Tk) : Pr :=
 if (x.k == 2) = true then (if (x.e == 0) = true then p.setJob x.t.toNat ⟨true, x.a, 0, IntKind.i64.wrap (x.a + t.p)⟩ else p)
 else if (x.k == 1) = true then (if decide (x.t ≥ 0) = true then { p with ran := IntKind.i64.wrap (p.ran + 1) }.setJob x.t.toNat { p.job x.t.toNat with ran := IntKind.i64.wrap ((p.job x.t.toNat).ran + 1) } else { p with ran := IntKind.i64.wrap (p.ran + 1) })
 else if (x.k == 3 || x.k == 4) = true then { p.setJob x.t.toNat { p.job x.t.toNat with is := false } with has := p.has && p.task != x.t }
 else if (x.k == 5) = true then
  (if (x.e == 0 && x.n == 5) = true then { (if (x.e == 0 && x.n == 4) = true then { p with has := true, task := x.t } else p) with has := false } else (if (x.e == 0 && x.n == 4) = true then { p with has := true, task := x.t } else p))
 else p
theorem job_ran (p : Pr) (a : Int) (k : Nat) : ({ p with ran := a } : Pr).job k = p.job k := by
 unfold Pr.job
 split <;> rfl
section
variable {b C : Nat} {X : AV} {cs : List Pt} {ps : List Pr} {h : Heap} {tl : List AV}
theorem rdoes_b {h3 : Heap} {now : Int} {ran gone : Bool} {i pp px B : Nat} {p : Pr} {x : Nt} (r : RS h3 b C X (tlR now ran gone) cs (ps.set i p)) (hb : b < pp) (hC : C < pp) (hpx : px < pp) (hpp : pp < h3.next) (hbx : b < px) (hCx : C < px) (hxp : x.p = ((i : Nat) : Int)) (hi : i < cs.length) (hip : i < ps.length)
  (hk : 1 ≤ x.k ∧ x.k ≤ 8) (hlow : x.k ≤ 5 → (x.t = -1 ∧ x.k = 1) ∨ (0 ≤ x.t ∧ x.t < 4)) (htk : x.k ≤ 5 → 0 ≤ x.t → x.t < (cs[i].ts.length : Nat)) (gp : h3.get pp = some (.cells (prc p) true 0)) (gx : h3.get px = some (.cells (nt x).cells true 0)) {Q : AX → Env → Heap → Prop}
  (hQ : ∀ e' h', RS h' b C X (tlR now (ran || x.k == 1) gone) cs (ps.set i p) → h'.get pp = some (.cells (prc (doesR p x (cs[i].ts.getD x.t.toNat tk00))) true 0) → Fr h3 h' [b, pp] → AllAt e' [(0, .ptr b 0), (3, .ptr px 0), (4, .ptr pp 0)] → Q .normal e' h')
  {env : Env} (he : AllAt env [(0, .ptr b 0), (3, .ptr px 0), (4, .ptr pp 0), (16, .int .i64 x.k)]) : VC fs ms B false (match C48.body with | .seq _ (.seq _ (.seq _ (.seq (.seq _ c) _))) => c | c => c) env h3 Q := by
 show VC fs ms B false (.block 0 _) env h3 Q
 have hlen := r.len
 refine vc_slots 5 _ he ?_
 clear he
 refine vc_block ?_
 refine vc_seq true ?_
 set_option smartUnfolding false in conv => whnf
 have hst : ∀ {h4 h5 : Heap} {p1 p2 : Pr} {o n : Nat} {v : AV}, h4.get pp = some (.cells (prc p1) true 0) → h5 = h4.set pp (.cells (Heap.splice (prc p1) o v.cells) true 0) → Heap.splice (prc p1) o v.cells = prc p2 → h5.get pp = some (.cells (prc p2) true 0) ∧ Fr h4 h5 [b, pp] := by
  intro h4 h5 p1 p2 o n v g e hs
  rw [e, hs]
  exact ⟨get_set_same, (Fr.refl _ _).set (by simp)⟩
 have hrs : ∀ {h4 h5 : Heap} {x' : Blk} {tl : List AV}, h5 = h4.set pp x' → RS h4 b C X tl cs (ps.set i p) → RS h5 b C X tl cs (ps.set i p) := by
  intro h4 h5 x' tl e r'
  rw [e]
  exact ⟨by rw [get_set_ne (by omega)]; exact r'.st, by rw [get_set_ne (by omega)]; exact r'.cf, r'.len, r'.le, r'.ne⟩
 have hgx : ∀ {h4 h5 : Heap} {x' : Blk}, h5 = h4.set pp x' → h4.get px = some (.cells (nt x).cells true 0) → h5.get px = some (.cells (nt x).cells true 0) := by
  intro h4 h5 x' e g
  rw [e, get_set_ne (by omega)]
  exact g
 have i3 : 0 ≤ x.t → x.t < 4 → pV (.iaddrA 4 4) [.ptr pp (0 + 5), .int .i64 x.t] = some (.ptr pp (0 + 5 + x.t.toNat * 4)) := fun t0 t4 => by
  have := idx_arr (b := pp) (o := 0 + 5) (n := 4) (j := x.t.toNat) (s := 4) (by omega)
  rwa [show ((x.t.toNat : Nat) : Int) = x.t by omega] at this
 unfold doesR at hQ
 cases e2 : (x.k == 2) with
 | true =>
  have hk2 : x.k = 2 := by simpa using e2
  obtain ⟨t0, t4⟩ : 0 ≤ x.t ∧ x.t < 4 := by have := hlow (by omega); omega
  rw [if_pos e2, show (x.k == 1) = false by rw [hk2]; rfl, Bool.or_false] at hQ
  have htl := htk (by omega) t0
  have hj : x.t.toNat < cs[i].ts.length := by omega
  have hT : cs[i].ts.getD x.t.toNat tk00 = cs[i].ts[x.t.toNat] := by simp [List.getD_eq_getElem?_getD, List.getElem?_eq_getElem hj]
  have hidx : pV (.iaddrS 8) [.fz cs[i].k (tks cs[i].ts), .int .i64 x.t] = some (.fp (tk (cs[i].ts.getD x.t.toNat tk00)).cells 0) := by
   rw [hT]
   have := idx_tk (k := cs[i].k) hj
   rwa [show ((x.t.toNat : Nat) : Int) = x.t by omega] at this
  generalize cs[i].ts.getD x.t.toNat tk00 = T at *
  have i2 : pV (.iaddrS 3) [.sl C 0 cs.length cs.length true, .int .i64 x.p] = some (.ptr C (0 + i * 3)) := by rw [hxp]; exact idx_slO hi
  have lpar : rV .load1 [.ptr b (0 + 0 + 0)] h3 = some (.sl C 0 cs.length cs.length true) := ld1 r.st rfl
  have lts : rV .load1 [.ptr C (0 + i * 3 + 2)] h3 = some (.fz cs[i].k (tks cs[i].ts)) := r.ldc hi (f := 2) (by omega) (by omega) rfl
  refine vpC_sound (z := true) ?_
  set_option smartUnfolding false in conv => whnf
  refine ⟨_, ld1 gx rfl, ?_⟩
  set_option smartUnfolding false in conv => whnf
  refine br (fun hc => ?_) (fun hc => ?_) <;> (try rw [hc]) <;> (set_option smartUnfolding false in conv => whnf)
  ·rw [if_pos hc] at hQ
   repeat (first | (refine ⟨_, ld1 gx rfl, ?_⟩; set_option smartUnfolding false in conv => whnf) | (refine ⟨_, lpar, ?_⟩; set_option smartUnfolding false in conv => whnf) | (refine ⟨_, i2, ?_⟩; set_option smartUnfolding false in conv => whnf) | (refine ⟨_, lts, ?_⟩; set_option smartUnfolding false in conv => whnf) | (refine ⟨_, hidx, ?_⟩; set_option smartUnfolding false in conv => whnf) | (refine ⟨_, i3 t0 t4, ?_⟩; set_option smartUnfolding false in conv => whnf) | (refine ⟨_, (rfl : rV .load1 [.fp (tk T).cells 0] h3 = some (.int .i64 T.p)), ?_⟩; set_option smartUnfolding false in conv => whnf))
   refine eff_o (sto_o (n := 4) (v := .agg (jbc ⟨true, x.a, 0, IntKind.i64.wrap (x.a + T.p)⟩)) (o := 0 + 5 + x.t.toNat * 4) gp rfl (by rw [prc_len]; omega) rfl) fun h4 e4 => ?_
   set_option smartUnfolding false in conv => whnf
   obtain ⟨g4, f4⟩ := hst (n := 4) gp e4 (by rw [show 0 + 5 + x.t.toNat * 4 = 5 + x.t.toNat * 4 + 0 by omega]; exact jput_all (by omega) _)
   exact hQ _ _ (hrs e4 r) g4 f4 ⟨rfl, rfl, rfl, trivial⟩
  ·rw [if_neg (by rw [hc]; simp)] at hQ
   exact hQ _ _ r gp (Fr.refl _ _) ⟨rfl, rfl, rfl, trivial⟩
 | false =>
  rw [if_neg (by rw [e2]; simp)] at hQ
  refine vc_condV ?_
  set_option smartUnfolding false in conv => whnf
  refine vc_seq true ?_
  set_option smartUnfolding false in conv => whnf
  cases e1 : (x.k == 1) with
  | true =>
   have hk1 : x.k = 1 := by simpa using e1
   rw [if_pos e1, e1, Bool.or_true] at hQ
   refine vc_condV ?_
   set_option smartUnfolding false in conv => whnf
   refine vc_seq true ?_
   set_option smartUnfolding false in conv => whnf
   obtain ⟨h4, s4, r4, fr4⟩ := r.putT (v := .bool true) (f := 1) (o := 0 + 95) (tl' := tlR now true gone) (by omega) rfl (by simp [tlR]) rfl rfl
   refine eff_o s4 fun h4' e4 => ?_
   subst e4
   set_option smartUnfolding false in conv => whnf
   have gp4 := (fr4.keep pp hpp (by simp; omega)).trans gp
   have gx4 := (fr4.keep px (by omega) (by simp; omega)).trans gx
   refine vc_seq true ?_
   set_option smartUnfolding false in conv => whnf
   refine ⟨_, ld1 gp4 rfl, ?_⟩
   set_option smartUnfolding false in conv => whnf
   refine eff_o (sto_o (n := 1) (v := .int .i64 (IntKind.i64.wrap (p.ran + 1))) (o := 0 + 4) gp4 rfl (Nat.le_of_ble_eq_true rfl) rfl) fun h5 e5 => ?_
   set_option smartUnfolding false in conv => whnf
   obtain ⟨g5, f5⟩ := hst (n := 1) (p2 := { p with ran := IntKind.i64.wrap (p.ran + 1) }) gp4 e5 rfl
   have gx5 := hgx e5 gx4
   have r5 := hrs e5 r4
   have fr5 : Fr h3 h5 [b, pp] := (fr4.wk (by simp)).trans f5
   clear e5
   refine vpC_sound (z := true) ?_
   set_option smartUnfolding false in conv => whnf
   refine ⟨_, ld1 gx5 rfl, ?_⟩
   set_option smartUnfolding false in conv => whnf
   refine br (fun hc => ?_) (fun hc => ?_) <;> (try rw [hc]) <;> (set_option smartUnfolding false in conv => whnf)
   ·rw [if_pos hc] at hQ
    have t0 := of_decide_eq_true hc
    have t4 : x.t < 4 := by have := hlow (by omega); omega
    have hj : x.t.toNat < 4 := by omega
    have hran : rV .load1 [.ptr pp (0 + 5 + x.t.toNat * 4 + 2)] h5 = some (.int .i64 (p.job x.t.toNat).ran) := by
     rw [← job_ran p (IntKind.i64.wrap (p.ran + 1))]
     exact job_c g5 hj 2 (by omega) (by omega) rfl
    repeat (first | (refine ⟨_, ld1 gx5 rfl, ?_⟩; set_option smartUnfolding false in conv => whnf) | (refine ⟨_, i3 t0 t4, ?_⟩; set_option smartUnfolding false in conv => whnf) | (refine ⟨_, hran, ?_⟩; set_option smartUnfolding false in conv => whnf))
    refine eff_o (sto_o (n := 1) (v := .int .i64 (IntKind.i64.wrap ((p.job x.t.toNat).ran + 1))) (o := 0 + 5 + x.t.toNat * 4 + 2) g5 rfl (by rw [prc_len]; omega) rfl) fun h6 e6 => ?_
    set_option smartUnfolding false in conv => whnf
    obtain ⟨g6, f6⟩ := hst (n := 1) g5 e6 (by rw [show 0 + 5 + x.t.toNat * 4 + 2 = 5 + x.t.toNat * 4 + 2 by omega]; exact jput_ran hj _)
    rw [job_ran] at g6
    exact hQ _ _ (hrs e6 r5) g6 (fr5.trans f6) ⟨rfl, rfl, rfl, trivial⟩
   ·rw [if_neg (by rw [hc]; simp)] at hQ
    exact hQ _ _ r5 g5 fr5 ⟨rfl, rfl, rfl, trivial⟩
  | false =>
   rw [if_neg (by rw [e1]; simp), e1, Bool.or_false] at hQ
   refine vc_condV ?_
   set_option smartUnfolding false in conv => whnf
   refine vc_seqV (VC.mono (Q := fun y e h => y = .normal ∧ h = h3 ∧ AllAt e [(0, .ptr b 0), (3, .ptr px 0), (4, .ptr pp 0), (16, .int .i64 x.k), (71, .bool (x.k == 3 || x.k == 4))]) ?_ ?_)
   ·refine vpC_sound (z := true) ?_
    set_option smartUnfolding false in conv => whnf
    refine br (fun hc => ?_) (fun hc => ?_) <;> (try rw [hc]) <;> (set_option smartUnfolding false in conv => whnf)
    ·exact ⟨rfl, rfl, rfl, rfl, rfl, rfl, by (first | rfl | (simp only [*]; done) | (simp only [*]; rfl)), trivial⟩
    ·exact ⟨rfl, rfl, rfl, rfl, rfl, rfl, by (first | rfl | (simp only [*]; done) | (simp only [*]; rfl)), trivial⟩
   rintro y e h3 ⟨rfl, rfl, he⟩
   show VC fs ms _ _ _ _ _ _
   refine vc_slots 7 _ he ?_
   clear he
   cases e3 : (x.k == 3 || x.k == 4) with
   | true =>
    rw [if_pos e3] at hQ
    have hk3 : x.k = 3 ∨ x.k = 4 := by simpa using e3
    obtain ⟨t0, t4⟩ : 0 ≤ x.t ∧ x.t < 4 := by have := hlow (by omega); omega
    have hj : x.t.toNat < 4 := by omega
    refine vc_condV ?_
    set_option smartUnfolding false in conv => whnf
    refine vc_seq true ?_
    set_option smartUnfolding false in conv => whnf
    repeat (first | (refine ⟨_, ld1 gx rfl, ?_⟩; set_option smartUnfolding false in conv => whnf) | (refine ⟨_, i3 t0 t4, ?_⟩; set_option smartUnfolding false in conv => whnf))
    refine eff_o (sto_o (n := 1) (v := .bool false) (o := 0 + 5 + x.t.toNat * 4 + 0) gp rfl (by rw [prc_len]; omega) rfl) fun h4 e4 => ?_
    set_option smartUnfolding false in conv => whnf
    obtain ⟨g4, f4⟩ := hst (n := 1) gp e4 (by rw [show 0 + 5 + x.t.toNat * 4 + 0 = 5 + x.t.toNat * 4 + 0 by omega]; exact jput_is hj _)
    have gx4 := hgx e4 gx
    have r4 := hrs e4 r
    clear e4
    obtain ⟨q1, q2⟩ := setJob_has p x.t.toNat { p.job x.t.toNat with is := false }
    generalize p.setJob x.t.toNat { p.job x.t.toNat with is := false } = q at *
    rw [← q1, ← q2] at hQ
    refine vpC_sound (z := true) ?_
    set_option smartUnfolding false in conv => whnf
    refine ⟨_, ld1 g4 rfl, ?_⟩
    set_option smartUnfolding false in conv => whnf
    refine br (fun hc => ?_) (fun hc => ?_) <;> (try rw [hc]) <;> (set_option smartUnfolding false in conv => whnf)
    ·rw [hc, Bool.true_and] at hQ
     repeat (first | (refine ⟨_, ld1 g4 rfl, ?_⟩; set_option smartUnfolding false in conv => whnf) | (refine ⟨_, ld1 gx4 rfl, ?_⟩; set_option smartUnfolding false in conv => whnf))
     refine eff_o (sto_o (n := 1) (v := .bool (q.task != x.t)) (o := 0 + 21) g4 rfl (Nat.le_of_ble_eq_true rfl) rfl) fun h5 e5 => ?_
     set_option smartUnfolding false in conv => whnf
     obtain ⟨g5, f5⟩ := hst (n := 1) (p2 := { q with has := q.task != x.t }) g4 e5 rfl
     exact hQ _ _ (hrs e5 r4) g5 (f4.trans f5) ⟨rfl, rfl, rfl, trivial⟩
    ·rw [hc, Bool.false_and] at hQ
     refine eff_o (sto_o (n := 1) (v := .bool false) (o := 0 + 21) g4 rfl (Nat.le_of_ble_eq_true rfl) rfl) fun h5 e5 => ?_
     set_option smartUnfolding false in conv => whnf
     obtain ⟨g5, f5⟩ := hst (n := 1) (p2 := { q with has := false }) g4 e5 rfl
     exact hQ _ _ (hrs e5 r4) g5 (f4.trans f5) ⟨rfl, rfl, rfl, trivial⟩
   | false =>
    rw [if_neg (by rw [e3]; simp)] at hQ
    refine vc_condV ?_
    set_option smartUnfolding false in conv => whnf
    refine vc_seq true ?_
    set_option smartUnfolding false in conv => whnf
    cases e5 : (x.k == 5) with
    | true =>
     rw [if_pos e5] at hQ
     refine vc_condV ?_
     set_option smartUnfolding false in conv => whnf
     refine vc_seqV (VC.mono (Q := fun y e h => y = .normal ∧ h.get pp = some (.cells (prc (if (x.e == 0 && x.n == 4) = true then { p with has := true, task := x.t } else p)) true 0) ∧ h.get px = some (.cells (nt x).cells true 0) ∧ RS h b C X (tlR now ran gone) cs (ps.set i p) ∧ Fr h3 h [b, pp] ∧ AllAt e [(0, .ptr b 0), (3, .ptr px 0), (4, .ptr pp 0)]) ?_ ?_)
     ·clear hQ
      refine vc_seqV (VC.mono (Q := fun y e h => y = .normal ∧ h = h3 ∧ AllAt e [(0, .ptr b 0), (3, .ptr px 0), (4, .ptr pp 0), (98, .bool (x.e == 0 && x.n == 4))]) ?_ ?_)
      ·refine vpC_sound (z := true) ?_
       set_option smartUnfolding false in conv => whnf
       iterate 3 (all_goals (first | (refine ⟨_, ld1 gx rfl, ?_⟩; set_option smartUnfolding false in conv => whnf) | (refine br (fun hc => ?_) (fun hc => ?_) <;> (try rw [hc]) <;> (set_option smartUnfolding false in conv => whnf)) | skip))
       all_goals (exact ⟨rfl, rfl, rfl, rfl, rfl, by (first | rfl | (simp only [*]; done) | (simp only [*]; rfl)), trivial⟩)
      rintro y e h3 ⟨rfl, rfl, he⟩
      show VC fs ms _ _ _ _ _ _
      refine vc_slots 7 _ he ?_
      clear he
      refine vc_condV ?_
      set_option smartUnfolding false in conv => whnf
      refine br (fun hc => ?_) (fun hc => ?_) <;> (try rw [hc]) <;> (set_option smartUnfolding false in conv => whnf)
      ·rw [if_pos rfl]
       refine vc_seq true ?_
       set_option smartUnfolding false in conv => whnf
       refine eff_o (sto_o (n := 1) (v := .bool true) (o := 0 + 21) gp rfl (Nat.le_of_ble_eq_true rfl) rfl) fun h4 e4 => ?_
       set_option smartUnfolding false in conv => whnf
       obtain ⟨g4, f4⟩ := hst (n := 1) (p2 := { p with has := true }) gp e4 rfl
       have gx4 := hgx e4 gx
       have r4 := hrs e4 r
       clear e4
       refine vpC_sound (z := true) ?_
       set_option smartUnfolding false in conv => whnf
       refine ⟨_, ld1 gx4 rfl, ?_⟩
       set_option smartUnfolding false in conv => whnf
       refine eff_o (sto_o (n := 1) (v := .int .i64 x.t) (o := 0 + 22) g4 rfl (Nat.le_of_ble_eq_true rfl) rfl) fun h5 e5 => ?_
       set_option smartUnfolding false in conv => whnf
       obtain ⟨g5, f5⟩ := hst (n := 1) (p2 := { p with has := true, task := x.t }) g4 e5 rfl
       exact ⟨rfl, g5, hgx e5 gx4, hrs e5 r4, f4.trans f5, rfl, rfl, rfl, trivial⟩
      ·rw [if_neg (by simp)]
       refine vpC_sound (z := true) ?_
       set_option smartUnfolding false in conv => whnf
       exact ⟨rfl, gp, gx, r, Fr.refl _ _, rfl, rfl, rfl, trivial⟩
     rintro y e h4 ⟨rfl, g4, gx4, r4, f4, he⟩
     show VC fs ms _ _ _ _ _ _
     refine vc_slots 4 _ he ?_
     clear he
     generalize (if (x.e == 0 && x.n == 4) = true then { p with has := true, task := x.t } else p) = q at *
     refine vc_seqV (VC.mono (Q := fun y e h => y = .normal ∧ h = h4 ∧ AllAt e [(0, .ptr b 0), (3, .ptr px 0), (4, .ptr pp 0), (110, .bool (x.e == 0 && x.n == 5))]) ?_ ?_)
     ·refine vpC_sound (z := true) ?_
      set_option smartUnfolding false in conv => whnf
      iterate 3 (all_goals (first | (refine ⟨_, ld1 gx4 rfl, ?_⟩; set_option smartUnfolding false in conv => whnf) | (refine br (fun hc => ?_) (fun hc => ?_) <;> (try rw [hc]) <;> (set_option smartUnfolding false in conv => whnf)) | skip))
      all_goals (exact ⟨rfl, rfl, rfl, rfl, rfl, by (first | rfl | (simp only [*]; done) | (simp only [*]; rfl)), trivial⟩)
     rintro y e h4 ⟨rfl, rfl, he⟩
     show VC fs ms _ _ _ _ _ _
     refine vc_slots 7 _ he ?_
     clear he
     refine vpC_sound (z := true) ?_
     set_option smartUnfolding false in conv => whnf
     refine br (fun hc => ?_) (fun hc => ?_) <;> (try rw [hc]) <;> (set_option smartUnfolding false in conv => whnf)
     ·rw [if_pos hc] at hQ
      refine eff_o (sto_o (n := 1) (v := .bool false) (o := 0 + 21) g4 rfl (Nat.le_of_ble_eq_true rfl) rfl) fun h5 e5 => ?_
      set_option smartUnfolding false in conv => whnf
      obtain ⟨g5, f5⟩ := hst (n := 1) (p2 := { q with has := false }) g4 e5 rfl
      exact hQ _ _ (hrs e5 r4) g5 (f4.trans f5) ⟨rfl, rfl, rfl, trivial⟩
     ·rw [if_neg (by rw [hc]; simp)] at hQ
      exact hQ _ _ r4 g4 f4 ⟨rfl, rfl, rfl, trivial⟩
    | false =>
     rw [if_neg (by rw [e5]; simp)] at hQ
     refine vpC_sound (z := true) ?_
     set_option smartUnfolding false in conv => whnf
     exact hQ _ _ r gp (Fr.refl _ _) ⟨rfl, rfl, rfl, trivial⟩
end
end Ir
end Go.Proofs.Ytepdklcpagielaa
set_option maxRecDepth 100000
set_option linter.unusedSimpArgs false
set_option linter.unusedVariables false
namespace Go.Proofs.Ytepdklcpagielaa
open Go Ads
namespace Ir
theorem beginsR_ts (c : Pt) (p : Pr) (x : Nt) : (beginsR c p x).1.ts = c.ts := by
 unfold beginsR
 split
 ·exact turnS_ts c p x
 ·rfl
def behindR (s : Ks) (i : Nat) (c : Pt) (p : Pr) (t : Tk) (x : Nt) : Ks :=
 (s.1.set i (beginsR c p x).1, s.2.1.set i (doesR (beginsR c p x).2.1 x t), s.2.2.1, s.2.2.2.1 || x.k == 1, s.2.2.2.2 || (beginsR c p x).2.2)
section
variable {b C : Nat} {X : AV} {cs : List Pt} {ps : List Pr}
theorem rbehind_c {h0 : Heap} {now : Int} {ran gone : Bool} (r : RS h0 b C X (tlR now ran gone) cs ps) (hb : b < h0.next) (hC : C < h0.next) {i : Nat} {x : Nt} (sh : Shp cs i x) (hi : i < cs.length) (hip : i < ps.length) {Q : AV → Heap → Prop}
  (hQ : ∀ h', RS h' b C X (tlR now (ran || x.k == 1) (gone || (beginsR cs[i] ps[i] x).2.2)) (cs.set i (beginsR cs[i] ps[i] x).1) (ps.set i (doesR (beginsR cs[i] ps[i] x).2.1 x (cs[i].ts.getD x.t.toNat tk00))) → Fr h0 h' [b, C] → Q (.tup []) h') : VD fs ms f_escapementref26_known_behind [.ptr b 0, nt x] h0 Q := by
 have hlen := r.len
 have hxp := sh.xp
 refine vd_begin (af := C_escapementref26_known_behind) rfl (Nat.le_of_ble_eq_true rfl) ?_
 set_option smartUnfolding false in conv => whnf
 refine vc_seq true ?_
 set_option smartUnfolding false in conv => whnf
 have gs : (h0.new (.cells (nt x).cells true 0)).get h0.next = some (.cells (nt x).cells true 0) := get_new_same
 have fr1 : Fr h0 (h0.new (.cells (nt x).cells true 0)) [] := (Fr.refl h0 []).new
 have n1 : h0.next < (h0.new (.cells (nt x).cells true 0)).next := Nat.lt_succ_self _
 have r1 := r.keep fr1 hb hC
 generalize h0.new (.cells (nt x).cells true 0) = h1 at *
 refine vc_seq true ?_
 set_option smartUnfolding false in conv => whnf
 refine ⟨nt x, ldN (n := 7) gs (Nat.le_refl _), ?_⟩
 set_option smartUnfolding false in conv => whnf
 refine rbegins_c r1 (by omega) (by omega) hxp hi hip (fun h2 r2 fr2 => ?_)
 set_option smartUnfolding false in conv => whnf
 have hts := beginsR_ts cs[i] ps[i] x
 generalize hB : beginsR cs[i] ps[i] x = B at *
 obtain ⟨c', p', g'⟩ := B
 simp only at r2 hQ hts
 have gs2 : h2.get h0.next = some (.cells (nt x).cells true 0) := (fr2.keep _ n1 (by simp; omega)).trans gs
 have fr02 : Fr h0 h2 [b, C] := (fr1.wk (by simp)).trans fr2
 have n2 : h0.next < h2.next := Nat.lt_of_lt_of_le n1 fr2.next
 have hi' : i < (cs.set i c').length := by simpa using hi
 have hci : (cs.set i c')[i] = c' := List.getElem_set_self _
 clear gs fr1 r1
 refine vc_seq true ?_
 set_option smartUnfolding false in conv => whnf
 refine ⟨_, ld1 gs2 rfl, ?_⟩
 set_option smartUnfolding false in conv => whnf
 rw [hxp]
 refine ⟨_, idx_arr (by omega), ?_⟩
 set_option smartUnfolding false in conv => whnf
 rw [← hxp]
 have hwh := r2.whole (i := i) (o := 0 + 2 + i * 23) (by simpa using hip) (by omega)
 rw [List.getElem_set_self] at hwh
 refine ⟨_, hwh, ?_⟩
 set_option smartUnfolding false in conv => whnf
 refine eff_o (sto_o (n := 23) (v := .agg (prc p')) get_new_same rfl (Nat.le_refl _) rfl) fun h3 e3 => ?_
 set_option smartUnfolding false in conv => whnf
 have gp : h3.get h2.next = some (.cells (prc p') true 0) := by rw [e3, get_set_same]; rfl
 have fr3 : Fr h2 h3 [] := by rw [e3]; exact ((Fr.refl h2 []).new (x := _)).setn (Nat.le_refl _)
 have n3 : h2.next < h3.next := by rw [e3]; exact Nat.lt_succ_self _
 have gs3 : h3.get h0.next = some (.cells (nt x).cells true 0) := (fr3.keep _ n2 (by simp)).trans gs2
 have r3 := r2.keep fr3 (by omega) (by omega)
 clear e3 hwh gs2
 generalize hpp : h2.next = pp at *
 have hQ' : ∀ h', RS h' b C X (tlR now (ran || x.k == 1) (gone || g')) (cs.set i c') (ps.set i (doesR p' x ((cs.set i c')[i].ts.getD x.t.toNat tk00))) → Fr h0 h' [b, C] → Q (.tup []) h' := by rw [hci, hts]; exact hQ
 clear hQ
 refine vc_seqV (vc_seq true ?_)
 set_option smartUnfolding false in conv => whnf
 refine ⟨_, ld1 gs3 rfl, ?_⟩
 set_option smartUnfolding false in conv => whnf
 refine rdoes_b (i := i) (pp := pp) (px := h0.next) (p := p') (x := x) r3 (by omega) (by omega) (by omega) (by omega) hb hC hxp hi' hip ⟨sh.k1, sh.k8⟩ (fun h => sh.low h) (fun h5 t0 => ?_) gp gs3 (fun e' h4 r4 g4 fr4 he => ?_) ⟨rfl, rfl, rfl, rfl, trivial⟩
 ·rw [hci, hts]
  have := sh.tn (wholeN_no h5)
  omega
 ·show VC fs ms _ _ _ _ _ _
  refine vc_slots 4 _ he (vpC_sound (z := true) ?_)
  have gs4 : h4.get h0.next = some (.cells (nt x).cells true 0) := (fr4.keep _ (by omega) (by simp; omega)).trans gs3
  generalize doesR p' x ((cs.set i c')[i].ts.getD x.t.toNat tk00) = q at *
  set_option smartUnfolding false in conv => whnf
  refine ⟨_, ld1 gs4 rfl, ?_⟩
  set_option smartUnfolding false in conv => whnf
  refine ⟨.agg (prc q), ldN (n := 23) g4 (Nat.le_refl _), ?_⟩
  set_option smartUnfolding false in conv => whnf
  rw [hxp]
  refine ⟨_, idx_arr (by omega), ?_⟩
  set_option smartUnfolding false in conv => whnf
  obtain ⟨h5, s5, r5, fr5⟩ := r4.putS (v := .agg (prc q)) (n := 23) (p' := q) hip (f := 0) (o := 0 + 2 + i * 23) (by omega) rfl (by omega) rfl rfl
  refine eff_o s5 fun h5' e5 => ?_
  subst e5
  set_option smartUnfolding false in conv => whnf
  refine hQ' _ r5 ⟨by have := fr02.next; have := fr3.next; have := fr4.next; have := fr5.next; omega, fun d hd hnd => ?_⟩
  simp only [List.mem_cons, List.not_mem_nil, or_false, not_or] at hnd
  have h1' := fr02.next
  have h2' := fr3.next
  have h3' := fr4.next
  rw [fr5.keep d (by omega) (by simp; omega), fr4.keep d (by omega) (by simp; omega), fr3.keep d (by omega) (by simp)]
  exact fr02.keep d hd (by simp; omega)
end
end Ir
end Go.Proofs.Ytepdklcpagielaa
set_option maxRecDepth 100000
set_option linter.unusedSimpArgs false
set_option linter.unusedVariables false
namespace Go.Proofs.Ytepdklcpagielaa
open Go Ads
namespace Ir
def noteR (un : Int) (s : Ks) (x : Nt) : Int ⊕ Ks :=
 if shapedS s.1 s.2.2.1 un x = false then .inl 1
 else match toS s.1.length (x.a - s.2.2.1).toNat s.2.1 s.2.2.1 s.2.2.2.1 s.2.2.2.2 with
 | .inl r => .inl r
 | .inr (ps, now, ran, gone) =>
  if breaksR s.1 ps ran (ps.getD x.p.toNat pr0) ((s.1.getD x.p.toNat pt0).ts.getD x.t.toNat tk00) x > 0 then .inl (breaksR s.1 ps ran (ps.getD x.p.toNat pr0) ((s.1.getD x.p.toNat pt0).ts.getD x.t.toNat tk00) x)
  else .inr (behindR (s.1, ps, now, ran, gone) x.p.toNat (s.1.getD x.p.toNat pt0) (ps.getD x.p.toNat pr0) ((s.1.getD x.p.toNat pt0).ts.getD x.t.toNat tk00) x)
def runR (un : Int) : Nat → Ks → List Nt → (Int × Nat) ⊕ Ks
 | _, s, [] => .inr s
 | j, s, x :: l => match noteR un s x with
  | .inl r => .inl (r, j)
  | .inr s => runR un (j + 1) s l
theorem runR_drop {un : Int} {s : Ks} {l : List Nt} {j : Nat} (hj : j < l.length) : runR un j s (l.drop j) = match noteR un s l[j] with | .inl r => .inl (r, j) | .inr s => runR un (j + 1) s (l.drop (j + 1)) := by
 rw [List.drop_eq_getElem_cons hj]
 rfl
theorem doesR_has (p : Pr) (x : Nt) (t : Tk) : (doesR p x t).has = true → (p.has = true ∧ (doesR p x t).task = p.task) ∨ (x.k = 5 ∧ (doesR p x t).task = x.t) := by
 unfold doesR
 split
 ·split
  ·intro h
   obtain ⟨a, b⟩ := setJob_has p x.t.toNat ⟨true, x.a, 0, IntKind.i64.wrap (x.a + t.p)⟩
   exact .inl ⟨a ▸ h, b⟩
  ·intro h
   exact .inl ⟨h, rfl⟩
 ·split
  ·split
   ·intro h
    obtain ⟨a, b⟩ := setJob_has { p with ran := IntKind.i64.wrap (p.ran + 1) } x.t.toNat { p.job x.t.toNat with ran := IntKind.i64.wrap ((p.job x.t.toNat).ran + 1) }
    rw [a] at h
    exact .inl ⟨h, b⟩
   ·intro h
    exact .inl ⟨h, rfl⟩
  ·split
   ·intro h
    obtain ⟨a, b⟩ := setJob_has p x.t.toNat { p.job x.t.toNat with is := false }
    simp only [Bool.and_eq_true] at h
    exact .inl ⟨h.1, b⟩
   ·split
    ·rename_i h5
     split
     ·intro h
      simp at h
     ·split
      ·intro _
       exact .inr ⟨by simpa using h5, rfl⟩
      ·intro h
       exact .inl ⟨h, rfl⟩
    ·intro h
     exact .inl ⟨h, rfl⟩
theorem beginsR_has (c : Pt) (p : Pr) (x : Nt) : (beginsR c p x).2.1.has = true → p.has = true ∧ (beginsR c p x).2.1.task = p.task := by
 unfold beginsR
 split
 ·exact turnS_has c p x
 ·intro h
  exact ⟨h, rfl⟩
theorem shp_of {cs : List Pt} {now un : Int} {x : Nt} (hts : ∀ c ∈ cs, c.ts.length ≤ 4) (h : shapedS cs now un x = true) : Shp cs x.p.toNat x := by
 obtain ⟨a1, a2, k1, k8, p1, p2, tw, tn⟩ := shaped_yes h
 obtain ⟨i, hic, hxp, htk⟩ := tasks_at p1 p2
 rw [htk] at tn
 have hi : x.p.toNat = i := by omega
 rw [hi]
 exact ⟨hic, hxp, k1, k8, tw, tn, hts _ (List.getElem_mem hic)⟩
theorem inv_noteR {un : Int} {s s' : Ks} {x : Nt} (hi : Inv s) (h : noteR un s x = .inr s') : Inv s' := by
 unfold noteR at h
 split at h
 ·simp at h
 rename_i hs
 have sh := shp_of hi.ts (by simpa using hs : shapedS s.1 s.2.2.1 un x = true)
 split at h
 ·simp at h
 rename_i ps now ran gone hto
 obtain ⟨hsame, hnow⟩ := toS_same hto
 simp only at hsame hnow
 have hwf := hsame.wf hi.wf
 generalize hin : x.p.toNat = i at *
 have hic := sh.hi
 have hlen : ps.length = 4 := hsame.1.trans hi.len
 have hip : i < ps.length := by have := hi.le; omega
 have h0 : 0 ≤ now := by have := hi.now; omega
 rw [show ps.getD i pr0 = ps[i] by simp [List.getD_eq_getElem?_getD, List.getElem?_eq_getElem hip], show s.1.getD i pt0 = s.1[i] by simp [List.getD_eq_getElem?_getD, List.getElem?_eq_getElem hic]] at h
 split at h
 ·simp at h
 have hold := fun hh => hwf i hic hip hh
 simp only [Sum.inr.injEq] at h
 subst h
 unfold behindR
 refine ⟨h0, ?_, ?_, by simpa using hlen, by simpa using hi.le⟩
 ·refine wf_cs (cs := s.1) (wf_set hwf fun hc hh => ?_) (by simp) (set_ts fun hc => beginsR_ts _ _ _)
  rcases doesR_has _ _ _ hh with ⟨a, b⟩ | ⟨a, b⟩
  ·obtain ⟨a', b'⟩ := beginsR_has _ _ _ a
   rw [b, b']
   exact hold a'
  ·rw [b]
   have := sh.tn (wholeN_no (by omega))
   omega
 ·intro c hc
  rcases List.mem_or_eq_of_mem_set hc with h1 | h1
  ·exact hi.ts c h1
  ·rw [h1, beginsR_ts]
   exact hi.ts _ (List.getElem_mem hic)

section
variable {b C : Nat} {X : AV}
theorem rfind_l {h0 : Heap} {kl : Nat} {un : Int} (hun : un ≤ 10000) {l : List Nt} (hl : l.length ≤ 17592186044416) {s0 : Ks} {B : Nat} {Q : AX → Env → Heap → Prop}
  (hQ : ∀ s, runR un 0 s0 l = .inr s → Inv s → ∀ e' h', RS h' b C X (tlR s.2.2.1 s.2.2.2.1 s.2.2.2.2) s.1 s.2.1 → Fr h0 h' [b, C] → AllAt e' [(1, .fz kl (nts l)), (2, .int .i64 un), (10, .ptr b 0)] → Q (.exit 0) e' h')
  (hP : ∀ rule j, runR un 0 s0 l = .inl (rule, j) → ∀ e' h', AllAt e' [(6, .int .i64 rule), (7, .int .i64 ((j : Nat) : Int)), (8, .int .i64 0)] → Q .ret e' h') :
  ∀ (m j : Nat) (h : Heap) (s : Ks) (env : Env), l.length - j = m → j ≤ l.length → runR un 0 s0 l = runR un j s (l.drop j) → Inv s → b < h.next → C < h.next → RS h b C X (tlR s.2.2.1 s.2.2.2.1 s.2.2.2.2) s.1 s.2.1 → Fr h0 h [b, C] →
  AllAt env [(1, .fz kl (nts l)), (2, .int .i64 un), (10, .ptr b 0), (11, .int .i64 ((j : Nat) : Int))] →
  VC fs ms B false (.loop L_escapementref26_Find_0) env h Q := by
 intro m
 induction m using Nat.strongRecOn with
 | ind m ih =>
 intro j h s env hm hj hrun hi hb hC r fr henv
 refine vc_slots 4 _ henv ?_
 refine vc_loopV (vc_seq true ?_)
 set_option smartUnfolding false in conv => whnf
 rw [len_nts]
 refine br (fun hc => ?_) (fun hc => ?_) <;> (try rw [hc]) <;> (set_option smartUnfolding false in conv => whnf)
 ·have hlt : j < l.length := by have := of_decide_eq_true hc; omega
  rw [runR_drop hlt] at hrun
  obtain ⟨cs, ps, now, ran, gone⟩ := s
  have hidx : pV (.iaddrS 7) [.fz kl (nts l), .int .i64 (j : Nat)] = some (.fp (nt l[j]).cells 0) := idx_nt hlt
  have hwhole : ∀ h : Heap, rV (.loadN 7) [.fp (nt l[j]).cells 0] h = some (nt l[j]) := fun _ => rfl
  have hat : ∀ h : Heap, rV .load1 [.fp (nt l[j]).cells (0 + 0)] h = some (.int .i64 l[j].a) := fun _ => rfl
  generalize hx : l[j] = x at *
  simp only at r
  unfold noteR at hrun
  simp only at hrun
  refine vc_seqV (vc_block ?_)
  refine vc_seqV (vc_seq true ?_)
  set_option smartUnfolding false in conv => whnf
  refine ⟨_, hidx, ?_⟩
  set_option smartUnfolding false in conv => whnf
  refine ⟨_, hwhole _, ?_⟩
  set_option smartUnfolding false in conv => whnf
  refine rshaped_c r hb hC x (fun h1 fr1 => ?_)
  set_option smartUnfolding false in conv => whnf
  have r1 := r.keep fr1 hb hC
  have hb1 := Nat.lt_of_lt_of_le hb fr1.next
  have hC1 := Nat.lt_of_lt_of_le hC fr1.next
  have fr01 : Fr h0 h1 [b, C] := fr.trans (fr1.wk (by simp))
  refine vpC_sound (z := true) ?_
  set_option smartUnfolding false in conv => whnf
  refine br (fun hc => ?_) (fun hc => ?_) <;> (try rw [hc]) <;> (set_option smartUnfolding false in conv => whnf)
  ·rw [if_pos (by simpa using hc)] at hrun
   exact hP 1 j hrun _ _ ⟨rfl, rfl, rfl, trivial⟩
  have hs : shapedS cs now un x = true := by simpa using hc
  rw [if_neg (by rw [hs]; simp)] at hrun
  clear hc
  obtain ⟨a1, a2, k1, k8, p1, p2, tw, tn⟩ := shaped_yes hs
  have sh := shp_of hi.ts hs
  refine vc_seqV (vc_seq true ?_)
  set_option smartUnfolding false in conv => whnf
  refine ⟨_, hidx, ?_⟩
  set_option smartUnfolding false in conv => whnf
  refine ⟨_, hat _, ?_⟩
  set_option smartUnfolding false in conv => whnf
  refine rto_c r1 hb1 hC1 hi.now (show x.a ≤ 10000 by omega) (fun s hto h2 r2 fr2 => ?_) (fun rule hto h2 => ?_)
  rotate_left
  ·rw [hto] at hrun
   set_option smartUnfolding false in conv => whnf
   refine vpC_sound (z := true) ?_
   set_option smartUnfolding false in conv => whnf
   have hpos : rule > 0 := by
    have : ∀ {k : Nat} {ps : List Pr} {now : Int} {ran gone : Bool}, toS cs.length k ps now ran gone = .inl rule → 0 < rule := by
     intro k
     induction k with
     | zero => intro ps now ran gone h; simp [toS] at h
     | succ k ih2 =>
      intro ps now ran gone h
      simp only [toS] at h
      split at h
      ·rename_i r' hr'
       simp only [Sum.inl.injEq] at h
       subst h
       exact byS_pos hr'
      ·exact ih2 h
    exact this hto
   refine brt (decide_eq_true hpos) (fun hc => ?_)
   (try rw [hc])
   set_option smartUnfolding false in conv => whnf
   exact hP rule j hrun _ _ ⟨rfl, rfl, rfl, trivial⟩
  rw [hto] at hrun
  obtain ⟨hsame, hnow⟩ := toS_same hto
  obtain ⟨ps1, now1, ran1, gone1⟩ := s
  simp only at hrun r2 hsame hnow
  have hwf := hsame.wf hi.wf
  simp only at hwf
  have hb2 := Nat.lt_of_lt_of_le hb1 fr2.next
  have hC2 := Nat.lt_of_lt_of_le hC1 fr2.next
  have fr02 : Fr h0 h2 [b, C] := fr01.trans (fr2.wk (by simp))
  have hnote : ∀ s', noteR un (cs, ps, now, ran, gone) x = .inr s' → Inv s' := fun s' h => inv_noteR hi h
  unfold noteR at hnote
  simp only at hnote
  rw [if_neg (by rw [hs]; simp), hto] at hnote
  simp only at hnote
  set_option smartUnfolding false in conv => whnf
  refine vpC_sound (z := true) ?_
  set_option smartUnfolding false in conv => whnf
  generalize hin : x.p.toNat = i at *
  have hic : i < cs.length := sh.hi
  have hip : i < ps1.length := by have := r2.len; have := r2.le; omega
  rw [show ps1.getD i pr0 = ps1[i] by simp [List.getD_eq_getElem?_getD, List.getElem?_eq_getElem hip], show cs.getD i pt0 = cs[i] by simp [List.getD_eq_getElem?_getD, List.getElem?_eq_getElem hic]] at hrun hnote
  refine vc_seqV (vc_seq true ?_)
  set_option smartUnfolding false in conv => whnf
  refine ⟨_, hidx, ?_⟩
  set_option smartUnfolding false in conv => whnf
  refine ⟨_, hwhole _, ?_⟩
  set_option smartUnfolding false in conv => whnf
  refine rbreaks_c r2 hb2 hC2 hwf sh hic hip (fun h3 fr3 => ?_)
  set_option smartUnfolding false in conv => whnf
  have r3 := r2.keep fr3 hb2 hC2
  have fr03 : Fr h0 h3 [b, C] := fr02.trans (fr3.wk (by simp))
  refine vpC_sound (z := true) ?_
  set_option smartUnfolding false in conv => whnf
  refine br (fun hc => ?_) (fun hc => ?_) <;> (try rw [hc]) <;> (set_option smartUnfolding false in conv => whnf)
  ·have hpos := of_decide_eq_true hc
   rw [if_pos hpos] at hrun
   exact hP _ j hrun _ _ ⟨rfl, rfl, rfl, trivial⟩
  have hpos := of_decide_eq_false hc
  rw [if_neg hpos] at hrun hnote
  refine vpC_sound (z := true) ?_
  set_option smartUnfolding false in conv => whnf
  refine ⟨_, hidx, ?_⟩
  set_option smartUnfolding false in conv => whnf
  refine ⟨_, hwhole _, ?_⟩
  set_option smartUnfolding false in conv => whnf
  refine rbehind_c r3 (Nat.lt_of_lt_of_le hb2 fr3.next) (Nat.lt_of_lt_of_le hC2 fr3.next) sh hic hip (fun h4 r4 fr4 => ?_)
  set_option smartUnfolding false in conv => whnf
  refine vpC_sound (z := true) ?_
  set_option smartUnfolding false in conv => whnf
  exact ih (l.length - (j + 1)) (by omega) (j + 1) h4 _ _ rfl (by omega) hrun (hnote _ rfl) (Nat.lt_of_lt_of_le hb2 (Nat.le_trans fr3.next fr4.next)) (Nat.lt_of_lt_of_le hC2 (Nat.le_trans fr3.next fr4.next)) r4 (fr03.trans fr4) ⟨rfl, rfl, rfl, inc_slot (by omega), trivial⟩
 ·have hge : j = l.length := by have := of_decide_eq_false hc; omega
  subst hge
  rw [List.drop_length] at hrun
  exact hQ s hrun hi _ h r fr ⟨rfl, rfl, rfl, trivial⟩
def findU (L : List Pt) (O : List Po) (l : List Nt) (un : Int) : Int × Int × Int :=
 if confC L O = false then (0, 0, 50)
 else if (decide (un < 0) || decide (un > 10000)) = true then (0, 0, 5)
 else match runR un 0 (ks0 L) l with
 | .inl r => (r.1, ((r.2 : Nat) : Int), 0)
 | .inr s => match toS s.1.length (un - s.2.2.1).toNat s.2.1 s.2.2.1 s.2.2.2.1 s.2.2.2.2 with
  | .inl r => (r, ((l.length : Nat) : Int), 0)
  | .inr _ => (0, 0, 0)
theorem toS_pos {n : Nat} {rule : Int} : ∀ {k : Nat} {ps : List Pr} {now : Int} {ran gone : Bool}, toS n k ps now ran gone = .inl rule → 0 < rule := by
 intro k
 induction k with
 | zero => intro ps now ran gone h; simp [toS] at h
 | succ k ih2 =>
  intro ps now ran gone h
  simp only [toS] at h
  split at h
  ·rename_i r' hr'
   simp only [Sum.inl.injEq] at h
   subst h
   exact byS_pos hr'
  ·exact ih2 h
theorem endV_3 {a c d : Nat} {e : Env} {h : Heap} {Q : AV → Heap → Prop} {u v w : AV} (hg : Tr.get e a = some u ∧ Tr.get e c = some v ∧ Tr.get e d = some w) (hq : Q (.tup [u, v, w]) h) : endV [.tmp a, .tmp c, .tmp d] Q .ret e h := by
 simp only [endV, resAllV, resOfV, hg.1, hg.2.1, hg.2.2]
 exact hq
theorem rfind_c {k ko kl : Nat} {L : List Pt} {O : List Po} (hf : Fits L O) {l : List Nt} (hl : l.length ≤ 17592186044416) (un : Int) :
  PC fs ms f_escapementref26_Find [cfg k L ko O, .fz kl (nts l), .int .i64 un] (.tup [.int .i64 (findU (L.map cpP) O l un).1, .int .i64 (findU (L.map cpP) O l un).2.1, .int .i64 (findU (L.map cpP) O l un).2.2]) := by
 have hp := hf.ports
 have hcc : confC (L.map cpP) O = confC L O := by
  have h1 : (L.map cpP).all partC = L.all partC := by rw [List.all_map]; rfl
  rw [confC, confC, h1, List.length_map]
 refine pc_of (by simp [clL, cl_cfg, AV.cl, cl_nts]) rfl ?_
 generalize (⟨0, .nil⟩ : Heap) = h0
 refine vd_begin (af := C_escapementref26_Find) rfl (Nat.le_of_ble_eq_true rfl) ?_
 generalize hQ : (fun (v : AV) (_ : Heap) => v = .tup [.int .i64 (findU (L.map cpP) O l un).1, .int .i64 (findU (L.map cpP) O l un).2.1, .int .i64 (findU (L.map cpP) O l un).2.2]) = Q
 have hq : ∀ r : Int × Int × Int, findU (L.map cpP) O l un = r → ∀ h, Q (.tup [.int .i64 r.1, .int .i64 r.2.1, .int .i64 r.2.2]) h := by
  subst hQ
  intro r hr h
  rw [hr]
 clear hQ
 set_option smartUnfolding false in conv => whnf
 refine vc_seq true ?_
 set_option smartUnfolding false in conv => whnf
 have g1 : (h0.new (.cells (cfg k L ko O).cells true 0)).get h0.next = some (.cells [.fz k (pts L), .fz ko (pos O)] true 0) := get_new_same
 generalize h0.new (.cells (cfg k L ko O).cells true 0) = h1 at *
 refine vc_seqV (vc_seq true ?_)
 set_option smartUnfolding false in conv => whnf
 refine ⟨cfg k L ko O, ldN (n := 2) g1 (Nat.le_refl _), ?_⟩
 set_option smartUnfolding false in conv => whnf
 refine vd_pure (check5_c k L ko O hf.small (by omega)) ?_
 set_option smartUnfolding false in conv => whnf
 cases hc0 : confC L O with
 | false =>
  refine vpC_sound (z := true) ?_
  set_option smartUnfolding false in conv => whnf
  exact hq (0, 0, 50) (by rw [findU, if_pos (hcc.trans hc0)]) _
 | true =>
  obtain ⟨l1, l4, lt⟩ := confC_len hc0
  refine vpC_sound (z := true) ?_
  set_option smartUnfolding false in conv => whnf
  refine vc_seqV (VC.mono (Q := fun y e h => h = h1 ∧ ((y = .ret ∧ (decide (un < 0) || decide (un > 10000)) = true ∧ Tr.get e 6 = some (.int .i64 0) ∧ Tr.get e 7 = some (.int .i64 0) ∧ Tr.get e 8 = some (.int .i64 5)) ∨ (y = .normal ∧ (decide (un < 0) || decide (un > 10000)) = false ∧ AllAt e [(1, .fz kl (nts l)), (2, .int .i64 un), (3, .ptr h0.next 0)]))) ?_ ?_)
  ·refine vpC_sound (z := true) ?_
   set_option smartUnfolding false in conv => whnf
   refine br (fun hc => ?_) (fun hc => ?_) <;> (try rw [hc]) <;> (set_option smartUnfolding false in conv => whnf)
   ·exact ⟨rfl, .inl ⟨rfl, by (first | rfl | (simp only [*]; done) | (simp only [*]; rfl)), rfl, rfl, rfl⟩⟩
   ·refine br (fun hc => ?_) (fun hc => ?_) <;> (try rw [hc]) <;> (set_option smartUnfolding false in conv => whnf)
    ·exact ⟨rfl, .inl ⟨rfl, by (first | rfl | (simp only [*]; done) | (simp only [*]; rfl)), rfl, rfl, rfl⟩⟩
    ·exact ⟨rfl, .inr ⟨rfl, by (first | rfl | (simp only [*]; done) | (simp only [*]; rfl)), rfl, rfl, rfl, trivial⟩⟩
  rintro y e h ⟨rfl, ⟨rfl, hb, hg⟩ | ⟨rfl, hb, he⟩⟩
  ·exact endV_3 hg (hq (0, 0, 5) (by rw [findU, if_neg (by rw [hcc, hc0]; simp), if_pos hb]) h)
  ·have hun : un ≤ 10000 := by
    simp only [Bool.or_eq_false_iff, decide_eq_false_iff_not] at hb
    omega
   have hT : findU (L.map cpP) O l un = match runR un 0 (ks0 (L.map cpP)) l with
     | .inl r => (r.1, ((r.2 : Nat) : Int), 0)
     | .inr s => match toS s.1.length (un - s.2.2.1).toNat s.2.1 s.2.2.1 s.2.2.2.1 s.2.2.2.2 with
      | .inl r => (r, ((l.length : Nat) : Int), 0)
      | .inr _ => (0, 0, 0) := by
    rw [findU, if_neg (by rw [hcc, hc0]; simp), if_neg (by rw [hb]; simp)]
   show VC fs ms _ _ _ _ _ _
   refine vc_slots 4 _ he ?_
   clear he
   refine vc_seqV (VC.mono (Q := fun y e h3 => y = .normal ∧ ∃ b C X, RS h3 b C X (tlR 0 false false) (L.map cpP) [pr0, pr0, pr0, pr0] ∧ b < h3.next ∧ C < h3.next ∧ AllAt e [(1, .fz kl (nts l)), (2, .int .i64 un), (10, .ptr b 0)]) ?_ ?_)
   ·refine vpC_sound (z := true) ?_
    set_option smartUnfolding false in conv => whnf
    refine ⟨cfg k L ko O, ldN (n := 2) g1 (Nat.le_refl _), ?_⟩
    set_option smartUnfolding false in conv => whnf
    refine copy5_c k ko hf (fun h2 v w hv hw fr2 => ?_)
    rcases hv with ⟨hv, _⟩ | ⟨_, C, hC1, hC2, hv, gC⟩
    ·exfalso
     have : (pts (L.map cpP)).length = 0 := by rw [hv]; rfl
     rw [len_pts, List.length_map] at this
     omega
    ·rw [len_pts] at hv
     have hl4 : (L.map cpP).length ≤ 4 := by rw [List.length_map]; exact l4
     generalize L.map cpP = L' at *
     subst hv
     have hwc : w.cells = [w] := by
      rcases hw with ⟨_, rfl⟩ | ⟨_, b, _, _, rfl, _⟩ <;> rfl
     have hsp : Heap.splice (AV.nils :: AV.nils :: (prs [pr0, pr0, pr0, pr0] ++ tlR 0 false false)) 0 [.sl C 0 L'.length L'.length true, w] = .sl C 0 L'.length L'.length true :: w :: (prs [pr0, pr0, pr0, pr0] ++ tlR 0 false false) := rfl
     set_option smartUnfolding false in conv => whnf
     exact ⟨rfl, h2.next, C, w, ⟨get_new_same, (get_new_ne hC2).trans gC, rfl, hl4, by omega⟩, Nat.lt_succ_self _, Nat.lt_succ_of_lt hC2, rfl, rfl, rfl, trivial⟩
   rintro y e h3 ⟨rfl, b, C, X, r3, nb, nC, he⟩
   show VC fs ms _ _ _ _ _ _
   refine vc_slots 4 _ he ?_
   clear he
   have hi0 : Inv (ks0 (L.map cpP)) := inv_0 (by rw [List.length_map]; exact l4) (fun c hc => by
    obtain ⟨d, hd, rfl⟩ := List.mem_map.1 hc
    exact lt d hd)
   generalize L.map cpP = L' at *
   refine vc_seqV (vc_seq true ?_)
   set_option smartUnfolding false in conv => whnf
   refine vc_block ?_
   refine rfind_l (b := b) (C := C) (X := X) (h0 := h3) (kl := kl) hun hl (s0 := ks0 L') (fun s hs hi e' h' r' fr' he => ?_) (fun rule j hs e' h' he => ?_) l.length 0 h3 (ks0 L') _ rfl (Nat.zero_le _) rfl hi0 nb nC r3 (Fr.refl _ _) ⟨rfl, rfl, rfl, rfl, trivial⟩
   rotate_left
   ·rw [hs] at hT
    exact endV_3 ⟨he.1, he.2.1, he.2.2.1⟩ (hq _ hT h')
   ·rw [hs] at hT
    show VC fs ms _ _ _ _ _ _
    refine vc_slots 4 _ he ?_
    clear he
    obtain ⟨cs, ps, now, ran, gone⟩ := s
    simp only at r' hT
    refine vc_seqV (vc_seq true ?_)
    set_option smartUnfolding false in conv => whnf
    refine rto_c r' (Nat.lt_of_lt_of_le nb fr'.next) (Nat.lt_of_lt_of_le nC fr'.next) hi.now hun (fun s hto h4 r4 fr4 => ?_) (fun rule hto h4 => ?_)
    ·rw [hto] at hT
     set_option smartUnfolding false in conv => whnf
     refine vpC_sound (z := true) ?_
     set_option smartUnfolding false in conv => whnf
     refine vpC_sound (z := true) ?_
     set_option smartUnfolding false in conv => whnf
     exact hq (0, 0, 0) hT _
    ·rw [hto] at hT
     set_option smartUnfolding false in conv => whnf
     refine vpC_sound (z := true) ?_
     set_option smartUnfolding false in conv => whnf
     refine brt (decide_eq_true (toS_pos hto)) (fun hc => ?_)
     (try rw [hc])
     set_option smartUnfolding false in conv => whnf
     rw [len_nts]
     exact hq _ hT _
end
end Ir
end Go.Proofs.Ytepdklcpagielaa
set_option maxRecDepth 100000
set_option linter.unusedSimpArgs false
set_option linter.unusedVariables false
namespace Go.Proofs.Ytepdklcpagielaa
open Go Ads
namespace Ir
def PE (p q : Pr) : Prop := ∃ t, q = { p with task := t } ∧ (p.has = true → t = p.task)
theorem PE.refl (p : Pr) : PE p p := ⟨p.task, rfl, fun _ => rfl⟩
structure LE (ps qs : List Pr) : Prop where
 len : ps.length = qs.length
 at_ : ∀ (i : Nat) (h1 : i < ps.length) (h2 : i < qs.length), PE ps[i] qs[i]
structure CE (cs ds : List Pt) : Prop where
 len : cs.length = ds.length
 at_ : ∀ (i : Nat) (h1 : i < cs.length) (h2 : i < ds.length), ds[i].per = cs[i].per ∧ ds[i].bud = cs[i].bud ∧ ds[i].ts = cs[i].ts
theorem LE.set {ps qs : List Pr} (l : LE ps qs) {i : Nat} {p q : Pr} (h : PE p q) : LE (ps.set i p) (qs.set i q) := by
 refine ⟨by simp [l.len], fun j h1 h2 => ?_⟩
 rw [List.getElem_set, List.getElem_set]
 split
 ·exact h
 ·exact l.at_ j (by simpa using h1) (by simpa using h2)
theorem CE.set {cs ds : List Pt} (l : CE cs ds) {i : Nat} {c d : Pt} (h : d.per = c.per ∧ d.bud = c.bud ∧ d.ts = c.ts) : CE (cs.set i c) (ds.set i d) := by
 refine ⟨by simp [l.len], fun j h1 h2 => ?_⟩
 rw [List.getElem_set, List.getElem_set]
 split
 ·exact h
 ·exact l.at_ j (by simpa using h1) (by simpa using h2)
theorem LE.get {ps qs : List Pr} (l : LE ps qs) (i : Nat) : (ps[i]? = none ∧ qs[i]? = none) ∨ ∃ p q, ps[i]? = some p ∧ qs[i]? = some q ∧ PE p q := by
 by_cases h : i < ps.length
 ·have h2 : i < qs.length := l.len ▸ h
  exact .inr ⟨_, _, List.getElem?_eq_getElem h, List.getElem?_eq_getElem h2, l.at_ i h h2⟩
 ·exact .inl ⟨List.getElem?_eq_none (by omega), List.getElem?_eq_none (by have := l.len; omega)⟩
theorem CE.get {cs ds : List Pt} (l : CE cs ds) (i : Nat) : (cs[i]? = none ∧ ds[i]? = none) ∨ ∃ c d, cs[i]? = some c ∧ ds[i]? = some d ∧ d.per = c.per ∧ d.bud = c.bud ∧ d.ts = c.ts := by
 by_cases h : i < cs.length
 ·have h2 : i < ds.length := l.len ▸ h
  exact .inr ⟨_, _, List.getElem?_eq_getElem h, List.getElem?_eq_getElem h2, l.at_ i h h2⟩
 ·exact .inl ⟨List.getElem?_eq_none (by omega), List.getElem?_eq_none (by have := l.len; omega)⟩
theorem LE.ok8 {ps qs : List Pr} (l : LE ps qs) : ∀ n, (qs.take n).all ok8 = (ps.take n).all ok8 := by
 intro n
 rw [Bool.eq_iff_iff, List.all_eq_true, List.all_eq_true]
 constructor
 ·intro h p hp
  obtain ⟨i, hi, rfl⟩ := List.mem_take_iff_getElem.1 hp
  have h1 : i < ps.length := by omega
  have h2 : i < qs.length := l.len ▸ h1
  have := h qs[i] (List.mem_take_iff_getElem.2 ⟨i, by omega, rfl⟩)
  obtain ⟨t, ht, _⟩ := l.at_ i h1 h2
  rw [ht] at this
  exact this
 ·intro h p hp
  obtain ⟨i, hi, rfl⟩ := List.mem_take_iff_getElem.1 hp
  have h2 : i < qs.length := by omega
  have h1 : i < ps.length := l.len ▸ h2
  have := h ps[i] (List.mem_take_iff_getElem.2 ⟨i, by omega, rfl⟩)
  obtain ⟨t, ht, _⟩ := l.at_ i h1 h2
  rw [ht]
  exact this
theorem LE.pend {ps qs : List Pr} (l : LE ps qs) (i : Nat) : pend qs i = pend ps i := by
 unfold Ir.pend
 rcases l.get i with ⟨h1, h2⟩ | ⟨p, q, h1, h2, t, rfl, _⟩
 ·rw [h1, h2]
 ·rw [h1, h2]
theorem LE.could {ps qs : List Pr} (l : LE ps qs) : ∀ n, couldN qs n = couldN ps n
 | 0 => rfl
 | n + 1 => by
  simp only [couldN]
  rw [l.could n]
  rcases l.get n with ⟨h1, h2⟩ | ⟨p, q, h1, h2, t, rfl, _⟩
  ·rw [h1, h2]
  ·rw [h1, h2]
   have hs : ∀ o, sooner qs { p with task := t } o = sooner ps p o := fun o => by
    cases o with
    | none => rfl
    | some j =>
     show decide (p.ends < Ir.pend qs j) = decide (p.ends < Ir.pend ps j)
     rw [l.pend]
   simp only [hs]
   rfl
theorem stepE_PE {nw : Int} {p q : Pr} (h : PE p q) : (stepE nw p = none ∧ stepE nw q = none) ∨ ∃ p' q', stepE nw p = some p' ∧ stepE nw q = some q' ∧ PE p' q' := by
 obtain ⟨t, rfl, ht⟩ := h
 unfold stepE
 simp only
 by_cases h1 : (p.inn && p.ends == nw) = true
 ·rw [if_pos h1, if_pos h1]
  by_cases h2 : (p.ran == p.bud) = true
  ·rw [if_pos h2, if_pos h2]
   exact .inr ⟨_, _, rfl, rfl, t, rfl, ht⟩
  ·rw [if_neg h2, if_neg h2]
   exact .inl ⟨rfl, rfl⟩
 ·rw [if_neg h1, if_neg h1]
  exact .inr ⟨_, _, rfl, rfl, t, rfl, ht⟩
theorem LE.ends {nw : Int} {ps qs : List Pr} (l : LE ps qs) : ∀ n, (endsN nw ps n = none ∧ endsN nw qs n = none) ∨ ∃ a b, endsN nw ps n = some a ∧ endsN nw qs n = some b ∧ LE a b
 | 0 => .inr ⟨ps, qs, rfl, rfl, l⟩
 | n + 1 => by
  simp only [endsN]
  rcases l.ends n with ⟨h1, h2⟩ | ⟨a, b, h1, h2, l'⟩
  ·rw [h1, h2]
   exact .inl ⟨rfl, rfl⟩
  ·rw [h1, h2]
   rcases l'.get n with ⟨h3, h4⟩ | ⟨p, q, h3, h4, hpq⟩
   ·simp only [h3, h4]
    exact .inr ⟨a, b, rfl, rfl, l'⟩
   ·simp only [h3, h4]
    rcases stepE_PE (nw := nw) hpq with ⟨h5, h6⟩ | ⟨p', q', h5, h6, hpq'⟩
    ·rw [h5, h6]
     exact .inl ⟨rfl, rfl⟩
    ·rw [h5, h6]
     exact .inr ⟨_, _, rfl, rfl, l'.set hpq'⟩
theorem LE.by_ {n : Nat} {ps qs : List Pr} (l : LE ps qs) (now : Int) (ran gone : Bool) : (∃ r, byS n ps now ran gone = .inl r ∧ byS n qs now ran gone = .inl r) ∨ ∃ a b, byS n ps now ran gone = .inr a ∧ byS n qs now ran gone = .inr b ∧ LE a b := by
 unfold byS
 rw [l.ok8, l.could]
 split
 ·exact .inl ⟨_, rfl, rfl⟩
 ·split
  ·exact .inl ⟨_, rfl, rfl⟩
  ·rcases l.ends (nw := IntKind.i64.wrap (now + 1)) n with ⟨h1, h2⟩ | ⟨a, b, h1, h2, l'⟩
   ·rw [h1, h2]
    exact .inl ⟨_, rfl, rfl⟩
   ·rw [h1, h2]
    exact .inr ⟨_, _, rfl, rfl, l'⟩
theorem LE.to_ {n : Nat} : ∀ {k : Nat} {ps qs : List Pr} (l : LE ps qs) (now : Int) (ran gone : Bool), (∃ r, toS n k ps now ran gone = .inl r ∧ toS n k qs now ran gone = .inl r) ∨ ∃ a b now' ran' gone', toS n k ps now ran gone = .inr (a, now', ran', gone') ∧ toS n k qs now ran gone = .inr (b, now', ran', gone') ∧ LE a b
 | 0, ps, qs, l, now, ran, gone => .inr ⟨ps, qs, now, ran, gone, rfl, rfl, l⟩
 | k + 1, ps, qs, l, now, ran, gone => by
  simp only [toS]
  rcases l.by_ (n := n) now ran gone with ⟨r, h1, h2⟩ | ⟨a, b, h1, h2, l'⟩
  ·rw [h1, h2]
   exact .inl ⟨_, rfl, rfl⟩
  ·rw [h1, h2]
   exact l'.to_ (now + 1) false false
theorem CE.tasks {cs ds : List Pt} (c : CE cs ds) (i : Int) : tasksAt ds i = tasksAt cs i := by
 unfold tasksAt
 rcases c.get i.toNat with ⟨h1, h2⟩ | ⟨p, q, h1, h2, _, _, h3⟩
 ·rw [h1, h2]
 ·rw [h1, h2]
  simp only [h3]
theorem CE.glob {cs ds : List Pt} (c : CE cs ds) (i : Nat) (t : Int) : globS ds i t = globS cs i t := by
 unfold globS
 rcases c.get i with ⟨h1, h2⟩ | ⟨p, q, h1, h2, _, _, h3⟩
 ·rw [h1, h2]
 ·rw [h1, h2]
  simp only [h3]
theorem CE.shaped {cs ds : List Pt} (c : CE cs ds) (now un : Int) (x : Nt) : shapedS ds now un x = shapedS cs now un x := by
 unfold shapedS
 rw [c.len, c.tasks]
theorem takenP_eq {cs ds : List Pt} (c : CE cs ds) {p q : Pr} (h : PE p q) (own g : Int) (i : Nat) : takenP ds own g i q = takenP cs own g i p := by
 obtain ⟨t, rfl, ht⟩ := h
 unfold takenP
 simp only
 cases hh : p.has with
 | false => rw [Bool.and_false, Bool.false_and, Bool.false_and]
 | true => rw [ht hh, c.glob]
theorem LE.taken {cs ds : List Pt} (c : CE cs ds) {ps qs : List Pr} (l : LE ps qs) (own g : Int) : ∀ n, takenN ds qs own g n = takenN cs ps own g n
 | 0 => rfl
 | n + 1 => by
  simp only [takenN]
  rw [l.taken c own g n]
  rcases l.get n with ⟨h1, h2⟩ | ⟨p, q, h1, h2, h3⟩
  ·rw [h1, h2]
  ·rw [h1, h2]
   simp only [takenP_eq c h3]
theorem shares_eq {cs ds : List Pt} (c : CE cs ds) {ps qs : List Pr} (l : LE ps qs) {p q : Pr} (h : PE p q) (x : Nt) : sharesS ds qs q x = sharesS cs ps p x := by
 have hg := c.glob x.p.toNat x.t
 have ht := l.taken c x.p (globS cs x.p.toNat x.t) cs.length
 obtain ⟨t, rfl, hh⟩ := h
 unfold sharesS
 rw [hg, ← c.len, ht]
 simp only
 cases hp : p.has with
 | false => rfl
 | true => rw [hh hp]
theorem there_eq {p q : Pr} (h : PE p q) (x : Nt) : thereS q x = thereS p x := by
 obtain ⟨t, rfl, _⟩ := h
 rfl
theorem turn_eq {c d : Pt} (hc : d.per = c.per ∧ d.bud = c.bud ∧ d.ts = c.ts) {p q : Pr} (h : PE p q) (x : Nt) :
  ((turnS d q x).1.per = (turnS c p x).1.per ∧ (turnS d q x).1.bud = (turnS c p x).1.bud ∧ (turnS d q x).1.ts = (turnS c p x).1.ts) ∧ PE (turnS c p x).2.1 (turnS d q x).2.1 ∧ (turnS d q x).2.2 = (turnS c p x).2.2 := by
 obtain ⟨t, rfl, ht⟩ := h
 obtain ⟨h1, h2, h3⟩ := hc
 unfold turnS
 split
 ·exact ⟨⟨h1, h2, h3⟩, PE.refl _, rfl⟩
 ·split
  ·refine ⟨⟨h1, h2, h3⟩, ?_, rfl⟩
   unfold fresh
   rw [h1, h2]
   exact PE.refl _
  ·exact ⟨⟨rfl, rfl, h3⟩, ⟨t, rfl, ht⟩, rfl⟩
theorem setJob_PE {p : Pr} {t : Int} (k : Nat) (j : Jb) : ({ p with task := t } : Pr).setJob k j = { p.setJob k j with task := t } := by
 unfold Pr.setJob
 split <;> rfl
theorem PE.trans {p q r : Pr} (h : PE p q) (h' : PE q r) : PE p r := by
 obtain ⟨t, rfl, hh⟩ := h
 obtain ⟨t', rfl, hh'⟩ := h'
 exact ⟨t', rfl, fun h => (hh' h).trans (hh h)⟩
theorem PE.eq {p q : Pr} (h : p = q) : PE p q := h ▸ PE.refl p
theorem job_task (p : Pr) (t : Int) (k : Nat) : ({ p with task := t } : Pr).job k = p.job k := by
 unfold Pr.job
 split <;> rfl
theorem doesR_PE {p q : Pr} (h : PE p q) (x : Nt) (T : Tk) : PE (doesR p x T) (doesR q x T) := by
 obtain ⟨t, rfl, hh⟩ := h
 have hs : ∀ (r : Pr) (k : Nat) (j : Jb), (r.has = true → t = r.task) → PE (r.setJob k j) (({ r with task := t } : Pr).setJob k j) := fun r k j hr =>
  ⟨t, setJob_PE k j, fun h => by obtain ⟨a, b⟩ := setJob_has r k j; rw [b]; exact hr (a ▸ h)⟩
 unfold doesR
 simp only [job_task]
 split
 ·split
  ·exact hs p _ _ hh
  ·exact ⟨t, rfl, hh⟩
 ·split
  ·split
   ·exact hs { p with ran := IntKind.i64.wrap (p.ran + 1) } _ _ hh
   ·exact ⟨t, rfl, hh⟩
  ·split
   ·rw [setJob_PE (p := p) (t := t)]
    obtain ⟨a, b⟩ := setJob_has p x.t.toNat ⟨false, (p.job x.t.toNat).tm, (p.job x.t.toNat).ran, (p.job x.t.toNat).nx⟩
    generalize p.setJob x.t.toNat ⟨false, (p.job x.t.toNat).tm, (p.job x.t.toNat).ran, (p.job x.t.toNat).nx⟩ = q0 at *
    by_cases hp : p.has = true
    ·have ht := hh hp
     subst ht
     exact ⟨p.task, rfl, fun _ => b.symm⟩
    ·have hp' : p.has = false := by simpa using hp
     rw [hp']
     exact ⟨t, rfl, fun h => by simp at h⟩
   ·split
    ·split
     ·split
      ·exact ⟨x.t, rfl, fun h => by simp at h⟩
      ·exact ⟨t, rfl, fun h => by simp at h⟩
     ·split
      ·exact PE.refl _
      ·exact ⟨t, rfl, hh⟩
    ·exact ⟨t, rfl, hh⟩
theorem does_eq {p q : Pr} (h : PE p q) (x : Nt) (T : Tk) (hk : 1 ≤ x.k ∧ x.k ≤ 5) (ht : (x.t = -1 ∧ x.k = 1) ∨ 0 ≤ x.t) :
  PE (if (x.t != -1) = true then doesS (if (x.k == 1) = true then { p with ran := IntKind.i64.wrap (p.ran + 1) } else p) x T else (if (x.k == 1) = true then { p with ran := IntKind.i64.wrap (p.ran + 1) } else p)) (doesR q x T) := by
 refine PE.trans ?_ (doesR_PE h x T)
 have hT : (x.t != -1) = decide (x.t ≥ 0) := by
  rcases ht with ⟨a, _⟩ | a
  ·rw [a]; rfl
  ·rw [decide_eq_true a]; simp; omega
 rw [hT]
 clear h
 obtain ⟨a, k, r, t, n, e, s⟩ := x
 simp only at hk ht hT ⊢
 have hkk : k = 1 ∨ k = 2 ∨ k = 3 ∨ k = 4 ∨ k = 5 := by omega
 rcases hkk with rfl | rfl | rfl | rfl | rfl
 ·show PE (if decide (t ≥ 0) = true then ({ p with ran := IntKind.i64.wrap (p.ran + 1) } : Pr).setJob t.toNat { ({ p with ran := IntKind.i64.wrap (p.ran + 1) } : Pr).job t.toNat with ran := IntKind.i64.wrap ((({ p with ran := IntKind.i64.wrap (p.ran + 1) } : Pr).job t.toNat).ran + 1) } else { p with ran := IntKind.i64.wrap (p.ran + 1) })
   (if decide (t ≥ 0) = true then { p with ran := IntKind.i64.wrap (p.ran + 1) }.setJob t.toNat { p.job t.toNat with ran := IntKind.i64.wrap ((p.job t.toNat).ran + 1) } else { p with ran := IntKind.i64.wrap (p.ran + 1) })
  rw [job_ran]
  exact PE.refl _
 ·have t0 : decide (t ≥ 0) = true := decide_eq_true (by omega)
  rw [t0]
  exact PE.refl _
 ·have t0 : decide (t ≥ 0) = true := decide_eq_true (by omega)
  rw [t0]
  exact PE.refl _
 ·have t0 : decide (t ≥ 0) = true := decide_eq_true (by omega)
  rw [t0]
  exact PE.refl _
 ·have t0 : decide (t ≥ 0) = true := decide_eq_true (by omega)
  rw [t0]
  show PE (if (e == 0 && (n == 4 || n == 5)) = true then { p with has := n == 4, task := t } else p)
   (if (e == 0 && n == 5) = true then { (if (e == 0 && n == 4) = true then { p with has := true, task := t } else p) with has := false } else (if (e == 0 && n == 4) = true then { p with has := true, task := t } else p))
  cases he : (e == 0) with
  | false => exact PE.refl _
  | true =>
   cases n4 : (n == 4) with
   | true =>
    have n5 : (n == 5) = false := by
     have : n = 4 := by simpa using n4
     rw [this]; rfl
    rw [n5]
    exact PE.refl _
   | false =>
    cases n5 : (n == 5) with
    | true => exact ⟨p.task, rfl, fun h => by simp at h⟩
    | false => exact PE.refl _
structure KE (s s' : Ks) : Prop where
 cs : CE s.1 s'.1
 ps : LE s.2.1 s'.2.1
 now : s'.2.2.1 = s.2.2.1
 ran : s'.2.2.2.1 = s.2.2.2.1
 gone : s'.2.2.2.2 = s.2.2.2.2
theorem rule_eq {p : Pr} {T : Tk} {x : Nt} (hk : 1 ≤ x.k ∧ x.k ≤ 5) (ht : (x.t = -1 ∧ x.k = 1) ∨ 0 ≤ x.t) :
  ((x.t != -1 && timelyS p x T != 0) = true ∧ timelyS p x T > 0 ∧ (if ((x.k == 2 && x.e == 0) && decide (x.a < (p.job x.t.toNat).nx)) = true then some (6 : Int) else if (decide (x.t ≥ 0) && !timelyR p x T) = true then some 7 else none) = some (timelyS p x T)) ∨
  ((x.t != -1 && timelyS p x T != 0) = false ∧ (if ((x.k == 2 && x.e == 0) && decide (x.a < (p.job x.t.toNat).nx)) = true then some (6 : Int) else if (decide (x.t ≥ 0) && !timelyR p x T) = true then some 7 else none) = none) := by
 have hT : (x.t != -1) = decide (x.t ≥ 0) := by
  rcases ht with ⟨a, _⟩ | a
  ·rw [a]; rfl
  ·rw [decide_eq_true a]; simp; omega
 rw [hT]
 obtain ⟨a, k, r, t, n, e, s⟩ := x
 simp only at hk ht hT ⊢
 have hkk : k = 1 ∨ k = 2 ∨ k = 3 ∨ k = 4 ∨ k = 5 := by omega
 generalize hj : p.job t.toNat = j
 have e0 : ∀ e : Int, (e != 0) = !(e == 0) := fun _ => rfl
 have hnx : decide (a ≥ j.nx) = !decide (a < j.nx) := by rw [← decide_not]; exact decide_eq_decide.2 (by omega)
 rcases hkk with rfl | rfl | rfl | rfl | rfl
 ·have h1 : timelyS p ⟨a, 1, r, t, n, e, s⟩ T = if decide (a < IntKind.i64.wrap (j.tm + T.d)) = false then 7 else if decide (j.ran < T.w) = false then 7 else 0 := by rw [← hj]; rfl
  have h2 : timelyR p ⟨a, 1, r, t, n, e, s⟩ T = (decide (a < IntKind.i64.wrap (j.tm + T.d)) && decide (j.ran < T.w)) := by rw [← hj]; rfl
  rw [h1, h2]
  cases decide (t ≥ 0) <;> cases decide (a < IntKind.i64.wrap (j.tm + T.d)) <;> cases decide (j.ran < T.w) <;> simp
 ·have t0 : decide (t ≥ 0) = true := decide_eq_true (by omega)
  have h1 : timelyS p ⟨a, 2, r, t, n, e, s⟩ T = if (e != 0 || decide (a ≥ j.nx)) = true then 0 else 6 := by rw [← hj]; rfl
  have h2 : timelyR p ⟨a, 2, r, t, n, e, s⟩ T = true := rfl
  rw [h1, h2, t0, hnx, e0]
  by_cases he : e = 0 <;> cases decide (a < j.nx) <;> simp [he]
 ·have t0 : decide (t ≥ 0) = true := decide_eq_true (by omega)
  have h1 : timelyS p ⟨a, 3, r, t, n, e, s⟩ T = if decide (a < IntKind.i64.wrap (j.tm + T.d)) = false then 7 else 0 := by rw [← hj]; rfl
  have h2 : timelyR p ⟨a, 3, r, t, n, e, s⟩ T = (decide (a < IntKind.i64.wrap (j.tm + T.d)) && true) := by rw [← hj]; rfl
  rw [h1, h2, t0]
  cases decide (a < IntKind.i64.wrap (j.tm + T.d)) <;> simp
 ·have h1 : timelyS p ⟨a, 4, r, t, n, e, s⟩ T = 0 := rfl
  have h2 : timelyR p ⟨a, 4, r, t, n, e, s⟩ T = true := rfl
  rw [h1, h2]
  simp
 ·have t0 : decide (t ≥ 0) = true := decide_eq_true (by omega)
  have h1 : timelyS p ⟨a, 5, r, t, n, e, s⟩ T = if decide (a < IntKind.i64.wrap (j.tm + T.d)) = false then 7 else 0 := by rw [← hj]; rfl
  have h2 : timelyR p ⟨a, 5, r, t, n, e, s⟩ T = (decide (a < IntKind.i64.wrap (j.tm + T.d)) && true) := by rw [← hj]; rfl
  rw [h1, h2, t0]
  cases decide (a < IntKind.i64.wrap (j.tm + T.d)) <;> simp
theorem noteC_eq {cs : List Pt} {ps : List Pr} {now : Int} {ran gone : Bool} {i : Nat} {c : Pt} {p : Pr} {T : Tk} {x : Nt} (hk : 1 ≤ x.k ∧ x.k ≤ 8) (ht : x.k ≤ 5 → (x.t = -1 ∧ x.k = 1) ∨ 0 ≤ x.t) (hw : wholeN x = true → x.t = 0) :
  (breaksR cs ps ran p T x > 0 ∧ noteC cs ps now ran gone i c p T x = .inl (breaksR cs ps ran p T x)) ∨ (breaksR cs ps ran p T x = 0 ∧ noteC cs ps now ran gone i c p T x =
   if wholeN x = true then .inr (cs.set i (turnS c p x).1, ps.set i (turnS c p x).2.1, now, ran, gone || (turnS c p x).2.2)
   else .inr (cs, ps.set i (if (x.t != -1) = true then doesS (if (x.k == 1) = true then { p with ran := IntKind.i64.wrap (p.ran + 1) } else p) x T else (if (x.k == 1) = true then { p with ran := IntKind.i64.wrap (p.ran + 1) } else p)), now, ran || x.k == 1, gone)) := by
 have hbr : breaksR cs ps ran p T x = if (p.inn == (x.k == 6)) = true then 2
  else if (x.k == 1 && (ran || optI (couldN ps cs.length) != x.p)) = true then 3
  else if (!thereS p x) = true then 5
  else match (if ((x.k == 2 && x.e == 0) && decide (x.a < (p.job x.t.toNat).nx)) = true then some (6 : Int) else if (decide (x.t ≥ 0) && !timelyR p x T) = true then some 7 else none) with
  | some r => r
  | none => if (!sharesS cs ps p x) = true then 8 else 0 := by
  unfold breaksR
  split
  ·rfl
  ·split
   ·rfl
   ·split
    ·rfl
    ·split
     ·rfl
     ·split <;> rfl
 rw [hbr]
 unfold noteC
 by_cases h2 : (p.inn == (x.k == 6)) = true
 ·have h2n : (p.inn != (x.k == 6)) = false := by simpa [bne] using h2
  rw [if_pos h2, if_pos h2n]
  exact .inl ⟨by omega, rfl⟩
 have h2n : ¬ ((p.inn != (x.k == 6)) = false) := by simpa [bne] using h2
 rw [if_neg h2, if_neg h2n]
 have h3e : (x.k != 1 || (!ran && optI (couldN ps cs.length) == x.p)) = !(x.k == 1 && (ran || optI (couldN ps cs.length) != x.p)) := by
  cases ha : (x.k == 1) <;> cases hb : ran <;> cases hcc : (optI (couldN ps cs.length) == x.p) <;> simp [ha, hb, hcc, bne]
 rw [h3e]
 generalize (x.k == 1 && (ran || optI (couldN ps cs.length) != x.p)) = B3
 cases B3 with
 | true => exact .inl ⟨by rw [if_pos rfl]; decide, rfl⟩
 | false =>
 rw [if_neg (show ¬ (false = true) by simp), if_neg (show ¬ ((!false) = false) by simp)]
 cases h5 : thereS p x with
 | false => exact .inl ⟨by rw [if_pos (show (!false) = true from rfl)]; decide, rfl⟩
 | true =>
 rw [if_neg (show ¬ ((!true) = true) by simp), if_neg (show ¬ (true = false) by simp)]
 by_cases w : wholeN x = true
 ·have hkk : 6 ≤ x.k := by
   simp [wholeN] at w
   omega
  rw [if_pos w, if_pos w]
  have h6 : ((x.k == 2 && x.e == 0) && decide (x.a < (p.job x.t.toNat).nx)) = false := by
   have : (x.k == 2) = false := beq_eq_false_iff_ne.2 (by omega)
   rw [this]; rfl
  have e1 : (x.k != 1) = true := by simp; omega
  have e3 : (x.k != 3) = true := by simp; omega
  have e5 : (x.k != 5) = true := by simp; omega
  have h7 : timelyR p x T = true := by
   unfold timelyR
   rw [if_pos (by rw [e1, e3, e5]; rfl)]
  have h8 : sharesS cs ps p x = true := by
   unfold sharesS
   rw [if_neg (by simp; omega), if_pos (by rw [e5]; rfl)]
  rw [h6, h7, h8]
  cases decide (x.t ≥ 0) <;> exact .inr ⟨rfl, rfl⟩
 ·rw [if_neg w, if_neg w]
  have hkk : x.k ≤ 5 := by
   simp [wholeN] at w
   omega
  rcases rule_eq (p := p) (T := T) (x := x) ⟨hk.1, hkk⟩ (ht hkk) with ⟨a1, a2, a3⟩ | ⟨a1, a3⟩
  ·rw [a3, if_pos a1]
   exact .inl ⟨a2, rfl⟩
  ·have a1n : ¬ ((x.t != -1 && timelyS p x T != 0) = true) := by rw [a1]; simp
   rw [a3, if_neg a1n]
   cases sharesS cs ps p x with
   | false => exact .inl ⟨by show (8 : Int) > 0; decide, rfl⟩
   | true => exact .inr ⟨rfl, rfl⟩
theorem breaks_eq {cs ds : List Pt} (c : CE cs ds) {ps qs : List Pr} (l : LE ps qs) {p q : Pr} (h : PE p q) (ran : Bool) (T : Tk) (x : Nt) : breaksR ds qs ran q T x = breaksR cs ps ran p T x := by
 have h1 := shares_eq c l h x
 have h2 := there_eq h x
 have h3 := l.could cs.length
 obtain ⟨t, rfl, _⟩ := h
 unfold breaksR
 rw [h1, h2, ← c.len, h3]
 rfl
theorem note_eq {un : Int} {s s' : Ks} (h : KE s s') (hi : Inv s) (x : Nt) : (∃ r, noteS un s x = .inl r ∧ noteR un s' x = .inl r) ∨ ∃ a b, noteS un s x = .inr a ∧ noteR un s' x = .inr b ∧ KE a b := by
 obtain ⟨cs, ps, now, ran, gone⟩ := s
 obtain ⟨ds, qs, now', ran', gone'⟩ := s'
 obtain ⟨hc, hp, h1, h2, h3⟩ := h
 simp only at hc hp h1 h2 h3
 subst h1 h2 h3
 unfold noteS noteR
 simp only
 rw [hc.shaped]
 by_cases hs : shapedS cs now' un x = false
 ·rw [if_pos hs, if_pos hs]
  exact .inl ⟨1, rfl, rfl⟩
 rw [if_neg hs, if_neg hs, ← hc.len]
 have hs' : shapedS cs now' un x = true := by simpa using hs
 have sh := shp_of hi.ts hs'
 rcases hp.to_ (n := cs.length) (k := (x.a - now').toNat) now' ran' gone' with ⟨r, t1, t2⟩ | ⟨a, b, now1, ran1, gone1, t1, t2, l⟩
 ·rw [t1, t2]
  exact .inl ⟨r, rfl, rfl⟩
 rw [t1, t2]
 simp only
 unfold noteB
 generalize x.p.toNat = i at *
 have hic : i < cs.length := sh.hi
 have hid : i < ds.length := hc.len ▸ hic
 have hia : i < a.length := by
  have h4 : ps.length = 4 := hi.len
  have h5 : cs.length ≤ 4 := hi.le
  have h6 := (toS_same t1).1.1
  simp only at h6
  omega
 have hib : i < b.length := l.len ▸ hia
 rw [show a.getD i pr0 = a[i] by simp [List.getD_eq_getElem?_getD, List.getElem?_eq_getElem hia], show b.getD i pr0 = b[i] by simp [List.getD_eq_getElem?_getD, List.getElem?_eq_getElem hib],
  show cs.getD i pt0 = cs[i] by simp [List.getD_eq_getElem?_getD, List.getElem?_eq_getElem hic], show ds.getD i pt0 = ds[i] by simp [List.getD_eq_getElem?_getD, List.getElem?_eq_getElem hid]]
 have hcd := hc.at_ i hic hid
 have hab := l.at_ i hia hib
 rw [hcd.2.2]
 generalize cs[i].ts.getD x.t.toNat tk00 = T
 have hlow : x.k ≤ 5 → (x.t = -1 ∧ x.k = 1) ∨ 0 ≤ x.t := fun h5 => by have := (sh.tn (wholeN_no h5)).1; omega
 rw [breaks_eq hc l hab]
 rcases noteC_eq (cs := cs) (ps := a) (now := now1) (ran := ran1) (gone := gone1) (i := i) (c := cs[i]) (p := a[i]) (T := T) (x := x) ⟨sh.k1, sh.k8⟩ hlow sh.tw with ⟨c1, c2⟩ | ⟨c1, c2⟩
 ·rw [if_pos c1, c2]
  exact .inl ⟨_, rfl, rfl⟩
 ·have c1n : ¬ (breaksR cs a ran1 a[i] T x > 0) := by rw [c1]; decide
  rw [if_neg c1n, c2]
  by_cases w : wholeN x = true
  ·rw [if_pos w]
   have hk6 : 6 ≤ x.k := by
    simp [wholeN] at w
    omega
   obtain ⟨e1, e2, e3⟩ := turn_eq hcd hab x
   have hD : ∀ p : Pr, doesR p x T = p := fun p => by
    unfold doesR
    rw [if_neg (by simp; omega), if_neg (by simp; omega), if_neg (by simp; omega), if_neg (by simp; omega)]
   refine .inr ⟨_, _, rfl, rfl, ?_⟩
   unfold behindR beginsR
   simp only [if_pos w]
   rw [hD]
   exact ⟨hc.set e1, l.set e2, rfl, by show (ran1 || x.k == 1) = ran1; rw [show (x.k == 1) = false from beq_eq_false_iff_ne.2 (by omega), Bool.or_false], by show (gone1 || (turnS ds[i] b[i] x).2.2) = _; rw [e3]⟩
  ·rw [if_neg w]
   have hk5 : x.k ≤ 5 := by
    have := sh.k8
    simp [wholeN] at w
    omega
   refine .inr ⟨_, _, rfl, rfl, ?_⟩
   unfold behindR beginsR
   simp only [if_neg w]
   refine ⟨?_, l.set (does_eq hab x T ⟨sh.k1, hk5⟩ (hlow hk5)), rfl, rfl, Bool.or_false _⟩
   rw [List.set_getElem_self]
   exact hc
theorem run_eq {un : Int} : ∀ {l : List Nt} {j : Nat} {s s' : Ks} (h : KE s s') (hi : Inv s), (∃ r, runS un j s l = .inl r ∧ runR un j s' l = .inl r) ∨ ∃ a b, runS un j s l = .inr a ∧ runR un j s' l = .inr b ∧ KE a b
 | [], j, s, s', h, hi => .inr ⟨s, s', rfl, rfl, h⟩
 | x :: l, j, s, s', h, hi => by
  simp only [runS, runR]
  rcases note_eq (un := un) h hi x with ⟨r, h1, h2⟩ | ⟨a, b, h1, h2, h3⟩
  ·rw [h1, h2]
   exact .inl ⟨_, rfl, rfl⟩
  ·rw [h1, h2]
   exact run_eq h3 (inv_note hi h1)
theorem noteS_pos {un : Int} {s : Ks} {x : Nt} {r : Int} (hi : Inv s) (h : noteS un s x = .inl r) : 0 < r := by
 unfold noteS at h
 split at h
 ·simp only [Sum.inl.injEq] at h; omega
 rename_i hs
 have sh := shp_of hi.ts (by simpa using hs : shapedS s.1 s.2.2.1 un x = true)
 split at h
 ·rename_i r' hr
  simp only [Sum.inl.injEq] at h
  subst h
  exact toS_pos hr
 ·rename_i ps now ran gone hto
  unfold noteB at h
  rcases noteC_eq (cs := s.1) (ps := ps) (now := now) (ran := ran) (gone := gone) (i := x.p.toNat) (c := s.1.getD x.p.toNat pt0) (p := ps.getD x.p.toNat pr0) (T := (s.1.getD x.p.toNat pt0).ts.getD x.t.toNat tk00) (x := x) ⟨sh.k1, sh.k8⟩ (fun h5 => by have := (sh.tn (wholeN_no h5)).1; omega) sh.tw with ⟨c1, c2⟩ | ⟨c1, c2⟩
  ·rw [c2] at h
   simp only [Sum.inl.injEq] at h
   omega
  ·rw [c2] at h
   split at h <;> simp at h
theorem runS_pos {un : Int} : ∀ {l : List Nt} {j : Nat} {s : Ks} {r : Int × Nat} (hi : Inv s), runS un j s l = .inl r → 0 < r.1
 | [], j, s, r, hi, h => by simp [runS] at h
 | x :: l, j, s, r, hi, h => by
  simp only [runS] at h
  split at h
  ·rename_i r' hr
   simp only [Sum.inl.injEq] at h
   subst h
   exact noteS_pos hi hr
  ·rename_i s' hs
   exact runS_pos (inv_note hi hs) h
theorem find_eq {L : List Pt} {O : List Po} (l : List Nt) (un : Int) : findT L O l un = findU (L.map cpP) O l un := by
 have hcc : confC (L.map cpP) O = confC L O := by
  have h1 : (L.map cpP).all partC = L.all partC := by rw [List.all_map]; rfl
  rw [confC, confC, h1, List.length_map]
 unfold findT findU
 rw [hcc]
 cases hc0 : confC L O with
 | false => rfl
 | true =>
 obtain ⟨l1, l4, lt⟩ := confC_len hc0
 have hi := inv_0 l4 lt
 have hk : KE (ks0 L) (ks0 (L.map cpP)) := by
  refine ⟨⟨by simp [ks0], fun i h1 h2 => ?_⟩, ⟨rfl, fun i h1 h2 => PE.refl _⟩, rfl, rfl, rfl⟩
  have e : ∀ (h2 : i < (L.map cpP).length) (h1 : i < L.length), (L.map cpP)[i] = cpP L[i] := fun _ _ => List.getElem_map ..
  have e1 := congrArg Pt.per (e h2 h1)
  have e2 := congrArg Pt.bud (e h2 h1)
  have e3 := congrArg Pt.ts (e h2 h1)
  exact ⟨e1, e2, e3⟩
 have htf : ¬ (true = false) := by decide
 rw [if_neg htf, if_neg htf]
 split
 ·rfl
 ·unfold findS
  rcases run_eq (un := un) (l := l) (j := 0) hk hi with ⟨r, h1, h2⟩ | ⟨a, b, h1, h2, h3⟩
  ·have := runS_pos hi h1
   have hn : ¬ ((r.1 == 0) = true) := by simp; omega
   rw [h1, h2]
   simp only
   rw [if_neg hn]
  ·rw [h1, h2]
   obtain ⟨cs, ps, now, ran, gone⟩ := a
   obtain ⟨ds, qs, now', ran', gone'⟩ := b
   obtain ⟨hc, hp, e1, e2, e3⟩ := h3
   simp only at hc hp e1 e2 e3
   subst e1 e2 e3
   simp only
   rw [← hc.len]
   rcases hp.to_ (n := cs.length) (k := (un - now').toNat) now' ran' gone' with ⟨r, t1, t2⟩ | ⟨a, b, now1, ran1, gone1, t1, t2, l⟩
   ·have := toS_pos t1
    have hn : ¬ ((r == 0) = true) := by simp; omega
    rw [t1, t2]
    simp only
    rw [if_neg hn]
   ·rw [t1, t2]
    simp only
    rw [if_pos (show ((0 : Int) == 0) = true from rfl)]
end Ir
end Go.Proofs.Ytepdklcpagielaa
