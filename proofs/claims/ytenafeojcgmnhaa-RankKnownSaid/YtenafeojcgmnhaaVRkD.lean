/-
  Rank: what is popped. The contract of RankOrder.
-/
import Derived.Test.YtenafeojcgmnhaaVRkC
import Derived.Test.YtenafeojcgmnhaaVRdK
set_option maxRecDepth 100000
set_option linter.unusedSimpArgs false
set_option linter.unusedVariables false
namespace Go.Proofs.Ytenafeojcgmnhaa
open Go Ads
namespace Ads
section
variable {fs : Nat → Option AFunc} {ms : Nat → String → Option Nat} {B : Nat} {rd : Bool}
theorem vs_app : ∀ {l1 l2 : List Ins} {e : Env} {h : Heap} {tr e1 h1 tr2 e2 h2}, VS fs ms B (.ops rd l1 e h) (.ops tr e1 h1) → VS fs ms B (.ops rd l2 e1 h1) (.ops tr2 e2 h2) → ∃ tr3, VS fs ms B (.ops rd (l1 ++ l2) e h) (.ops tr3 e2 h2)
  | [], l2, e, h, tr, e1, h1, tr2, e2, h2, a, b => by
    cases a
    exact ⟨_, b⟩
  | i :: l1, l2, e, h, tr, e1, h1, tr2, e2, h2, a, b => by
    cases a with
    | off hw ha =>
      obtain ⟨tr3, hc⟩ := vs_app ha b
      exact ⟨_, .off hw hc⟩
    | on hw ho hv ha =>
      obtain ⟨tr3, hc⟩ := vs_app ha b
      exact ⟨_, .on hw ho hv hc⟩
/-- Operations, with a stop after the first n. -/
theorem vo_cut {l : List Ins} {e : Env} {h : Heap} {K : Env → Heap → Prop} (n : Nat) (hw : VO fs ms B rd (l.take n) e h fun e1 h1 => VO fs ms B rd (l.drop n) e1 h1 K) : VO fs ms B rd l e h K := by
  obtain ⟨tr, e1, h1, a, tr2, e2, h2, b, hk⟩ := hw
  obtain ⟨tr3, hc⟩ := vs_app a b
  rw [List.take_append_drop] at hc
  exact ⟨tr3, e2, h2, hc, hk⟩
theorem vc_ops {l : List Ins} {e : Env} {h : Heap} {Q : AX → Env → Heap → Prop} (hw : VO fs ms B rd l e h fun e1 h1 => Q .normal e1 h1) : VC fs ms B rd (.ops l) e h Q := by
  obtain ⟨tr, e1, h1, a, hk⟩ := hw
  exact ⟨_, _, _, .ops a, hk⟩
theorem VO.mono {l : List Ins} {e : Env} {h : Heap} {K K' : Env → Heap → Prop} (hc : VO fs ms B rd l e h K) (hq : ∀ e' h', K e' h' → K' e' h') : VO fs ms B rd l e h K' := by
  obtain ⟨tr, e', h', hb, hk⟩ := hc
  exact ⟨tr, e', h', hb, hq e' h' hk⟩
end
end Ads
namespace Ir

def poE (k t u n i : Nat) (last : Id) : List (Nat × AV) := [(3, .ptr k 0), (4, .ptr t 0), (5, .ptr u 0), (6, .int .i64 ((n : Nat) : Int)), (12, .int .i64 last.2), (13, .int .i64 ((last.1 : Nat) : Int)), (14, .int .i64 ((i : Nat) : Int))]
theorem ro_l1 {k p t u n : Nat} {B : Nat} {Q : AX → Env → Heap → Prop} (hn64 : n ≤ 64)
    (hQ : ∀ e' h' S' P', Tr.get e' 3 = some (.ptr k 0) → RAt h' k p S' [] P' → Q (.exit 3) e' h') :
    ∀ (m i : Nat) (h : Heap) (S : List Nat) (L : List Id) (P : Nat → Nat) (W : List Bool) (V : List Int) (last : Id) (env : Env), n - i = m → i + L.length = n → (0 < i → ∀ y ∈ L, ah y last = false) → Nt h k p S L P t u W V → AllAt env (poE k t u n i last) →
    VC fs ms B false (.loop L_escapementlaw02_RankOrder_1) env h Q := by
  intro m
  induction m using Nat.strongRecOn with
  | ind m ih =>
  intro i h S L P W V last env hm hi hlast N henv
  refine vc_slots 4 (poE k t u n i last) henv ?_
  refine vc_loopV (vc_seq true ?_)
  unfold poE
  set_option smartUnfolding false in conv => whnf
  refine br (fun hc => ?_) (fun hc => ?_) <;> (try rw [hc]) <;> (set_option smartUnfolding false in conv => whnf)
  · have hlt : i < n := by have := of_decide_eq_true hc; omega
    refine vc_seqV (vc_block (vc_seq true ?_))
    set_option smartUnfolding false in conv => whnf
    refine pop_o N.ra (fun hL => by subst hL; simp at hi; omega) fun x hx h1 S1 L1 P1 r1 r2 r3 r4 => ?_
    have hB := N.nb r4
    have hxs := N.small hx.1
    have hw := (N.to x hx.1).1
    have hv := (N.to x hx.1).2
    generalize hX : ((x.1 : Nat) : Int) = X
    set_option smartUnfolding false in conv => whnf
    refine vc_slots 5 [(3, .ptr k 0), (4, .ptr t 0), (5, .ptr u 0), (6, .int .i64 ((n : Nat) : Int)), (12, .int .i64 last.2), (13, .int .i64 ((last.1 : Nat) : Int)), (14, .int .i64 ((i : Nat) : Int)), (15, .int .i64 X), (16, .int .i64 x.2), (17, .bool true)] ⟨rfl, rfl, rfl, rfl, rfl, rfl, rfl, rfl, rfl, rfl, trivial⟩ ?_
    refine vc_seqV (vc_seqV (vc_ops (vo_cut 6 (vpO_sound (z := true) ?_))))
    set_option smartUnfolding false in conv => whnf
    rw [show decide (X < 0) = false from decide_eq_false (by omega)]
    have hix : ∀ b, pV (.iaddrA 1 64) [.ptr b 0, .int .i64 X] = some (.ptr b (0 + x.1 * 1)) := by
      intro b; rw [← hX]; exact idx_arr (o := 0) hxs
    refine vo_cut 4 (vpO_sound (z := true) ?_)
    set_option smartUnfolding false in conv => whnf
    rw [show decide (X > 63) = false from decide_eq_false (by omega)]
    refine vo_cut 6 (vpO_sound (z := true) ?_)
    set_option smartUnfolding false in conv => whnf
    refine ⟨_, hix _, ?_⟩
    set_option smartUnfolding false in conv => whnf
    refine ⟨_, hB.ldW N.wl hxs hw, ?_⟩
    set_option smartUnfolding false in conv => whnf
    refine vo_cut 6 (vpO_sound (z := true) ?_)
    set_option smartUnfolding false in conv => whnf
    refine ⟨_, hix _, ?_⟩
    set_option smartUnfolding false in conv => whnf
    refine ⟨_, hB.ldV N.vl hxs, ?_⟩
    rw [hv]
    set_option smartUnfolding false in conv => whnf
    rw [show (x.snd != x.snd) = false from by simp]
    generalize hI : ((i : Nat) : Int) = I
    refine vo_cut 5 (vpO_sound (z := true) ?_)
    set_option smartUnfolding false in conv => whnf
    refine VO.mono (K := fun e2 h2 => h2 = h1 ∧ AllAt e2 [(3, .ptr k 0), (4, .ptr t 0), (5, .ptr u 0), (6, .int .i64 ((n : Nat) : Int)), (14, .int .i64 I), (15, .int .i64 X), (16, .int .i64 x.2), (183, .bool false)]) ?_ ?_
    · by_cases h0 : i = 0
      · rw [show decide (I > 0) = false from decide_eq_false (by omega)]
        refine vpO_sound (z := true) ?_
        set_option smartUnfolding false in conv => whnf
        exact ⟨rfl, rfl, rfl, rfl, rfl, rfl, rfl, rfl, rfl, trivial⟩
      · rw [show decide (I > 0) = true from decide_eq_true (by omega)]
        have hah := hlast (by omega) x hx.1
        rw [ah_not] at hah
        refine vo_cut 4 (vpO_sound (z := true) ?_)
        set_option smartUnfolding false in conv => whnf
        rw [show decide (x.snd < last.snd) = false from decide_eq_false (by omega)]
        refine vo_cut 4 (vpO_sound (z := true) ?_)
        set_option smartUnfolding false in conv => whnf
        cases hE : (x.snd == last.snd) with
        | true =>
          refine vo_cut 3 (vpO_sound (z := true) ?_)
          set_option smartUnfolding false in conv => whnf
          have hE' : x.snd = last.snd := by simpa using hE
          rw [show decide (X < ((last.1 : Nat) : Int)) = false from decide_eq_false (by omega)]
          refine vpO_sound (z := true) ?_
          set_option smartUnfolding false in conv => whnf
          exact ⟨rfl, rfl, rfl, rfl, rfl, rfl, rfl, rfl, rfl, trivial⟩
        | false =>
          refine vpO_sound (z := true) ?_
          set_option smartUnfolding false in conv => whnf
          exact ⟨rfl, rfl, rfl, rfl, rfl, rfl, rfl, rfl, rfl, trivial⟩
    · rintro e2 h2 ⟨rfl, he⟩
      show VC fs ms B false _ _ _ _
      refine vc_slots 8 _ he (vpC_sound (z := true) ?_)
      set_option smartUnfolding false in conv => whnf
      refine vpC_sound (z := true) ?_
      set_option smartUnfolding false in conv => whnf
      refine ⟨_, hix _, ?_⟩
      set_option smartUnfolding false in conv => whnf
      refine eff_o (hB.stW N.wl hxs false) fun h3 e3 => ?_
      set_option smartUnfolding false in conv => whnf
      obtain ⟨N3, hlen⟩ := N.del hx.1 r1 r3 r4 e3
      subst hX hI
      refine vpC_sound (z := true) ?_
      set_option smartUnfolding false in conv => whnf
      refine ih (n - (i + 1)) (by omega) (i + 1) h3 S1 L1 P1 _ _ x _ rfl (by omega) (fun _ y hy => hx.2 y ((r3 y).1 hy).1) N3 ⟨rfl, rfl, rfl, rfl, rfl, rfl, inc_slot (by omega), trivial⟩
  · have hge : L.length = 0 := by have := of_decide_eq_false hc; omega
    have := List.eq_nil_of_length_eq_zero hge
    subst this
    exact hQ _ h S P rfl N.ra

theorem gB_rep (n i : Nat) : gB (List.replicate n false) i = false := by
  rw [gB, List.getD_eq_getElem?_getD, List.getElem?_replicate]
  split <;> rfl
theorem nt_new {h : Heap} {k p : Nat} (hr : RAt h k p [k, p] [] (fun _ => 0)) : Nt ((h.new (.cells (bol (List.replicate 64 false)) true 0)).new (.cells (ints (List.replicate 64 0)) true 0)) k p [k, p] [] (fun _ => 0) h.next (h.next + 1) (List.replicate 64 false) (List.replicate 64 0) := by
  have hk := hr.lk
  have hp := hr.lp
  have fr : Fr h ((h.new (.cells (bol (List.replicate 64 false)) true 0)).new (.cells (ints (List.replicate 64 0)) true 0)) [] := (Fr.refl h []).new.new
  refine ⟨hr.keep fr (by simp), ?_, ?_, ?_, ?_, by simp; omega, by simp; omega, by omega, by simp, by simp, fun y hy => by simp at hy, fun i hi hb => ?_⟩
  · exact (get_new_ne (h := h.new _) (Nat.lt_succ_self _)).trans get_new_same
  · exact get_new_same (h := h.new _)
  · show h.next < h.next + 1 + 1; omega
  · show h.next + 1 < h.next + 1 + 1; omega
  · rw [gB_rep] at hb; cases hb
theorem rankOrder_c {k : Nat} {l : List Rd3} (hl : l.length < 2 ^ 62) : PC fs ms f_escapementlaw02_RankOrder [.fz k (rds l)] (.bool true) := by
  refine pc_of (by simp [clL, AV.cl, cl_rds]) rfl ?_
  generalize hK : (fun (u : AV) (_ : Heap) => u = .bool true) = K
  have hKt : ∀ h, K (.bool true) h := fun h => by subst hK; rfl
  clear hK
  generalize (⟨0, .nil⟩ : Heap) = h0
  refine vd_begin (af := C_escapementlaw02_RankOrder) rfl (Nat.le_of_ble_eq_true rfl) ?_
  set_option smartUnfolding false in conv => whnf
  refine vc_seq true ?_
  set_option smartUnfolding false in conv => whnf
  refine vc_seq true ?_
  set_option smartUnfolding false in conv => whnf
  refine vd_pure works02_c ?_
  set_option smartUnfolding false in conv => whnf
  refine vc_seq true ?_
  set_option smartUnfolding false in conv => whnf
  refine rnew_o fun h1 q p hr hq hp fr => ?_
  set_option smartUnfolding false in conv => whnf
  have N := nt_new hr
  rw [show bol (List.replicate 64 false) = [.bool false, .bool false, .bool false, .bool false, .bool false, .bool false, .bool false, .bool false, .bool false, .bool false, .bool false, .bool false, .bool false, .bool false, .bool false, .bool false, .bool false, .bool false, .bool false, .bool false, .bool false, .bool false, .bool false, .bool false, .bool false, .bool false, .bool false, .bool false, .bool false, .bool false, .bool false, .bool false, .bool false, .bool false, .bool false, .bool false, .bool false, .bool false, .bool false, .bool false, .bool false, .bool false, .bool false, .bool false, .bool false, .bool false, .bool false, .bool false, .bool false, .bool false, .bool false, .bool false, .bool false, .bool false, .bool false, .bool false, .bool false, .bool false, .bool false, .bool false, .bool false, .bool false, .bool false, .bool false] by kernel_rfl] at N
  rw [show ints (List.replicate 64 0) = [.int .i64 0, .int .i64 0, .int .i64 0, .int .i64 0, .int .i64 0, .int .i64 0, .int .i64 0, .int .i64 0, .int .i64 0, .int .i64 0, .int .i64 0, .int .i64 0, .int .i64 0, .int .i64 0, .int .i64 0, .int .i64 0, .int .i64 0, .int .i64 0, .int .i64 0, .int .i64 0, .int .i64 0, .int .i64 0, .int .i64 0, .int .i64 0, .int .i64 0, .int .i64 0, .int .i64 0, .int .i64 0, .int .i64 0, .int .i64 0, .int .i64 0, .int .i64 0, .int .i64 0, .int .i64 0, .int .i64 0, .int .i64 0, .int .i64 0, .int .i64 0, .int .i64 0, .int .i64 0, .int .i64 0, .int .i64 0, .int .i64 0, .int .i64 0, .int .i64 0, .int .i64 0, .int .i64 0, .int .i64 0, .int .i64 0, .int .i64 0, .int .i64 0, .int .i64 0, .int .i64 0, .int .i64 0, .int .i64 0, .int .i64 0, .int .i64 0, .int .i64 0, .int .i64 0, .int .i64 0, .int .i64 0, .int .i64 0, .int .i64 0, .int .i64 0] by kernel_rfl] at N
  revert N
  generalize hH : (h1.new _).new _ = H
  intro N
  refine vc_seq true ?_
  set_option smartUnfolding false in conv => whnf
  refine vc_seq true ?_
  set_option smartUnfolding false in conv => whnf
  refine vc_seq true ?_
  set_option smartUnfolding false in conv => whnf
  rw [hH]
  refine vc_seqV (vc_seq true ?_)
  set_option smartUnfolding false in conv => whnf
  refine vc_block ?_
  refine ro_l0 (z := k) (l := l) (k := q) (p := p) (t := h1.next) (u := h1.next + 1) hl ?_ _ 0 _ _ [] _ _ _ _ rfl (Nat.zero_le _) N ⟨rfl, rfl, rfl, rfl, rfl, rfl, trivial⟩
  intro e2 h2 S2 L2 P2 W2 V2 g3 g4 g5 g6 N2
  show VC fs ms _ _ _ _ _ _
  refine vc_slots 3 [(3, .ptr q 0), (4, .ptr h1.next 0), (5, .ptr (h1.next + 1) 0), (6, .int .i64 ((L2.length : Nat) : Int))] ⟨g3, g4, g5, g6, trivial⟩ ?_
  refine vc_seq true ?_
  set_option smartUnfolding false in conv => whnf
  refine len_o N2.ra ?_
  set_option smartUnfolding false in conv => whnf
  rw [show (((L2.length : Nat) : Int) != ((L2.length : Nat) : Int)) = false from by simp]
  set_option smartUnfolding false in conv => whnf
  refine vc_seq true ?_
  set_option smartUnfolding false in conv => whnf
  refine vc_seqV (vc_seq true ?_)
  set_option smartUnfolding false in conv => whnf
  refine vc_block ?_
  refine ro_l1 (k := q) (p := p) (t := h1.next) (u := h1.next + 1) (n := L2.length) N2.ra.pl.len64 ?_ _ 0 _ S2 L2 P2 W2 V2 (0, 0) _ rfl (Nat.zero_add _) (fun h => by omega) N2 ⟨rfl, rfl, rfl, rfl, rfl, rfl, rfl, trivial⟩
  intro e3 h3 S3 P3 g3 r3
  show VC fs ms _ _ _ _ _ _
  refine vc_slots 3 [(3, .ptr q 0)] ⟨g3, trivial⟩ (vpC_sound (z := true) ?_)
  set_option smartUnfolding false in conv => whnf
  refine pop_o r3 (fun _ => ?_) fun x hx => by have := hx.1; simp at this
  set_option smartUnfolding false in conv => whnf
  refine len_o r3 ?_
  set_option smartUnfolding false in conv => whnf
  exact hKt _
end Ir
end Go.Proofs.Ytenafeojcgmnhaa
