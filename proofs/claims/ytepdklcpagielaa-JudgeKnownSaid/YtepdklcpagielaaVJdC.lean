/-
  Judge: in how many ticks a partition ran.
-/
import Derived.Test.YtepdklcpagielaaVJdB
set_option maxRecDepth 100000
set_option linter.unusedSimpArgs false
set_option linter.unusedVariables false
namespace Go.Proofs.Ytepdklcpagielaa
open Go Ads
namespace Ads
theorem fr_delB {h0 h : Heap} {bs : List Nat} (hb : ∀ b ∈ bs, h0.next ≤ b) (fr : Fr h0 h []) : Fr h0 (delAll bs h) [] :=
 ⟨by rw [delAll_next]; exact fr.next, fun c hc hn => by rw [delAll_get, if_neg (fun hm => by have := hb c hm; omega)]; exact fr.keep c hc hn⟩
end Ads
namespace Ir
theorem NR.frzB {lo : Nat} {h : Heap} {v : AV} {M : List Nt} (hr : NR lo h v M) : ∃ (k : Nat) (bs : List Nat), Frz (· ∈ bs) h v (.fz k (nts M)) ∧ ∀ b ∈ bs, lo ≤ b := by
 rcases hr with ⟨rfl, rfl⟩ | ⟨b, h1, h2, rfl, h4⟩
 ·exact ⟨3, [], .nils, by simp⟩
 ·exact ⟨0, [b], frz_open (by simp) h4 rfl (size_nts M) (len_nts M).symm (cl_nts M), by simpa using h1⟩

theorem NR.len {lo : Nat} {h : Heap} {v : AV} {M : List Nt} (hr : NR lo h v M) : pV .lenS [v] = some (.int .i64 ((M.length : Nat) : Int)) := by
 rcases hr with ⟨rfl, rfl⟩ | ⟨b, h1, h2, rfl, h4⟩
 ·rfl
 ·rfl

def cntR (x1 x2 : Int) (l : List Nt) : Nat := (l.filter (isRan x1 x2)).length
theorem cntR_next {x1 x2 : Int} {l : List Nt} {j : Nat} (hj : j < l.length) : cntR x1 x2 (l.take (j + 1)) = if isRan x1 x2 l[j] = true then cntR x1 x2 (l.take j) + 1 else cntR x1 x2 (l.take j) := by
 rw [take_next hj]
 unfold cntR
 rw [List.filter_append]
 by_cases h2 : isRan x1 x2 l[j] = true
 ·simp [h2]
 ·simp [h2]

theorem jran_l {k : Nat} {l : List Nt} {x1 x2 : Int} {h0 : Heap} (hl : l.length ≤ 140737488355328) {B : Nat} {Q : AX → Env → Heap → Prop}
  (hQ : ∀ e' h', Fr h0 h' [] → Tr.get e' 8 = some (.int .i64 ((cntR x1 x2 l : Nat) : Int)) → Q (.exit 0) e' h') :
  ∀ (m j : Nat) (h : Heap) (env : Env), l.length - j = m → j ≤ l.length → Fr h0 h [] → AllAt env [(2, .int .i64 x1), (3, .int .i64 x2), (8, .int .i64 ((cntR x1 x2 (l.take j) : Nat) : Int)), (13, .fz k (nts l)), (14, .int .i64 ((l.length : Nat) : Int)), (15, .int .i64 ((j : Nat) : Int))] →
  VC fs ms B false (.loop L_judge_Ran_0) env h Q := by
 intro m
 induction m using Nat.strongRecOn with
 | ind m ih =>
 intro j h env hm hj fr henv
 refine vc_slots 5 _ henv ?_
 refine vc_loopV (vc_seq true ?_)
 set_option smartUnfolding false in conv => whnf
 refine vc_seq true ?_
 set_option smartUnfolding false in conv => whnf
 refine br (fun hc => ?_) (fun hc => ?_) <;> (try rw [hc]) <;> (set_option smartUnfolding false in conv => whnf)
 ·have hlt : j < l.length := by have := of_decide_eq_true hc; omega
  have hix := idx_nt (k := k) hlt
  have hle : cntR x1 x2 (l.take j) ≤ j := Nat.le_trans (List.length_filter_le ..) (by rw [List.length_take]; omega)
  have hn := cntR_next (x1 := x1) (x2 := x2) hlt
  generalize hx : l[j] = x at *
  generalize cntR x1 x2 (l.take j) = c at *
  have hno : isRan x1 x2 x = false → ∀ e' h', Fr h0 h' [] → AllAt e' [(2, .int .i64 x1), (3, .int .i64 x2), (8, .int .i64 ((c : Nat) : Int)), (13, .fz k (nts l)), (14, .int .i64 ((l.length : Nat) : Int)), (15, .int .i64 (((j + 1 : Nat) : Nat) : Int))] → VC fs ms B false (.loop L_judge_Ran_0) e' h' Q := fun hf e' h' fr' he => by
   rw [hf, if_neg (by simp)] at hn
   exact ih (l.length - (j + 1)) (by omega) (j + 1) h' e' rfl (by omega) fr' (by rw [hn]; exact he)
  have hyes : isRan x1 x2 x = true → ∀ e' h', Fr h0 h' [] → AllAt e' [(2, .int .i64 x1), (3, .int .i64 x2), (8, .int .i64 ((c + 1 : Nat) : Int)), (13, .fz k (nts l)), (14, .int .i64 ((l.length : Nat) : Int)), (15, .int .i64 (((j + 1 : Nat) : Nat) : Int))] → VC fs ms B false (.loop L_judge_Ran_0) e' h' Q := fun hf e' h' fr' he => by
   rw [hf, if_pos rfl] at hn
   exact ih (l.length - (j + 1)) (by omega) (j + 1) h' e' rfl (by omega) fr' (by rw [hn]; exact he)
  clear ih hn hQ
  refine vc_seqV (vc_block ?_)
  refine vc_seq true ?_
  set_option smartUnfolding false in conv => whnf
  refine ⟨_, hix, ?_⟩
  set_option smartUnfolding false in conv => whnf
  refine ⟨nt x, rfl, ?_⟩
  set_option smartUnfolding false in conv => whnf
  refine eff_o (sto_o get_new_same rfl (Nat.le_refl _) rfl) fun h1 e1 => ?_
  set_option smartUnfolding false in conv => whnf
  have gs1 : h1.get h.next = some (.cells (nt x).cells true 0) := by rw [e1, get_set_same]; rfl
  have fr1 : Fr h0 h1 [] := by rw [e1]; exact fr.trans (((Fr.refl h []).new (x := _)).setn (Nat.le_refl _))
  clear e1
  refine vc_seq true ?_
  set_option smartUnfolding false in conv => whnf
  refine ⟨_, ld1 gs1 rfl, ?_⟩
  set_option smartUnfolding false in conv => whnf
  refine br (fun hc => ?_) (fun hc => ?_) <;> (try rw [hc]) <;> (set_option smartUnfolding false in conv => whnf)
  ·have c1 : x.k = 1 := by simpa using hc
   refine ⟨_, ld1 gs1 rfl, ?_⟩
   set_option smartUnfolding false in conv => whnf
   refine br (fun hc => ?_) (fun hc => ?_) <;> (try rw [hc]) <;> (set_option smartUnfolding false in conv => whnf)
   ·have c3 : x1 ≤ x.a := by simpa using hc
    refine ⟨_, ld1 gs1 rfl, ?_⟩
    set_option smartUnfolding false in conv => whnf
    refine vpC_sound (z := true) ?_
    set_option smartUnfolding false in conv => whnf
    refine br (fun hc => ?_) (fun hc => ?_) <;> (try rw [hc]) <;> (set_option smartUnfolding false in conv => whnf)
    ·have c4 : x.a < x2 := by simpa using hc
     refine vpC_sound (z := true) ?_
     set_option smartUnfolding false in conv => whnf
     refine hyes (by simp [isRan, c1, c3, c4]) _ _ fr1 ⟨rfl, rfl, inc_slot (by omega), rfl, rfl, inc_slot (by omega), trivial⟩
    ·have c4 : ¬ x.a < x2 := by simpa using hc
     refine vpC_sound (z := true) ?_
     set_option smartUnfolding false in conv => whnf
     refine hno (by simp [isRan, c4]) _ _ fr1 ⟨rfl, rfl, rfl, rfl, rfl, inc_slot (by omega), trivial⟩
   ·have c3 : ¬ x1 ≤ x.a := by have := of_decide_eq_false hc; omega
    refine vpC_sound (z := true) ?_
    set_option smartUnfolding false in conv => whnf
    refine vpC_sound (z := true) ?_
    set_option smartUnfolding false in conv => whnf
    refine hno (by simp [isRan, c3]) _ _ fr1 ⟨rfl, rfl, rfl, rfl, rfl, inc_slot (by omega), trivial⟩
  ·have c1 : ¬ x.k = 1 := by simpa using hc
   refine vpC_sound (z := true) ?_
   set_option smartUnfolding false in conv => whnf
   refine vpC_sound (z := true) ?_
   set_option smartUnfolding false in conv => whnf
   refine hno (by simp [isRan, c1]) _ _ fr1 ⟨rfl, rfl, rfl, rfl, rfl, inc_slot (by omega), trivial⟩
 ·have hge : j = l.length := by have := of_decide_eq_false hc; omega
  subst hge
  rw [List.take_length]
  exact hQ _ _ fr rfl

theorem jran_c (k : Nat) (l : List Nt) (p x1 x2 : Int) (hl : l.length * 64 ≤ 140737488355328) {h : Heap} {Q : AV → Heap → Prop} (hQ : ∀ h', Fr h h' [] → Q (.int .i64 ((ranN p x1 x2 l : Nat) : Int)) h') : VD fs ms f_judge_Ran [.fz k (nts l), .int .i64 p, .int .i64 x1, .int .i64 x2] h Q := by
 have hfl := flt_le p l
 refine vd_begin (af := C_judge_Ran) rfl (Nat.le_of_ble_eq_true rfl) ?_
 set_option smartUnfolding false in conv => whnf
 refine vc_seq true ?_
 set_option smartUnfolding false in conv => whnf
 refine vc_seqV ?_
 refine vc_seq true ?_
 set_option smartUnfolding false in conv => whnf
 refine jof_c k l p hl fun v h1 hr fr => ?_
 set_option smartUnfolding false in conv => whnf
 rw [hr.len]
 set_option smartUnfolding false in conv => whnf
 obtain ⟨k', bs, hfz, hbs⟩ := hr.frzB
 refine vc_frz bs (i := 13) (v' := .fz k' (nts (flt p l))) rfl hfz ?_
 have fr2 := fr_delB hbs fr
 refine vc_block ?_
 refine jran_l (k := k') (l := flt p l) (x1 := x1) (x2 := x2) (h0 := h) (by omega) ?_ (flt p l).length 0 _ _ rfl (Nat.zero_le _) fr2 ⟨rfl, rfl, rfl, rfl, rfl, rfl, trivial⟩
 intro e' h' fr3 g8
 show VC fs ms _ _ _ _ _ _
 refine vc_slots 4 [(8, .int .i64 ((cntR x1 x2 (flt p l) : Nat) : Int))] ⟨g8, trivial⟩ (vpC_sound (z := true) ?_)
 set_option smartUnfolding false in conv => whnf
 exact hQ h' fr3
end Ir
end Go.Proofs.Ytepdklcpagielaa
