/-
  Ready: any calls. The contract of ReadyPlays.
-/
import Derived.Test.YtenafeojcgmnhaaVRdQ
set_option maxRecDepth 100000
set_option linter.unusedSimpArgs false
set_option linter.unusedVariables false
namespace Go.Proofs.Ytenafeojcgmnhaa
open Go Ads
namespace Ir

def plE (k : Nat) (l : List Do3) (q m i : Nat) : List (Nat × AV) := [(1, .fz k (dos l)), (5, .ptr q 0), (7, .ptr m 0), (8, .int .i64 0), (9, .int .i64 ((i : Nat) : Int))]
theorem plays_loop {k : Nat} {l : List Do3} {q m b es : Nat} {op : Bool} {B : Nat} {Q : AX → Env → Heap → Prop} (hl : l.length < 2 ^ 62) (hQ : ∀ e' h', Q (.exit 0) e' h') :
    ∀ (n i : Nat) (h : Heap) (S : List Nat) (L : List Id) (D : List Int) (env : Env), l.length - i = n → i ≤ l.length → Both h q S m b es op L D → AllAt env (plE k l q m i) →
    VC fs ms B false (.loop L_escapementlaw15_ReadyPlays_0) env h Q := by
  intro n
  induction n using Nat.strongRecOn with
  | ind n ih =>
  intro i h S L D env hn hi H henv
  refine vc_slots 4 (plE k l q m i) henv ?_
  refine vc_loopV (vc_seq true ?_)
  unfold plE
  generalize hJ : ((i : Nat) : Int) = J
  set_option smartUnfolding false in conv => whnf
  rw [dos_len]
  refine br (fun hc => ?_) (fun hc => ?_) <;> (try rw [hc]) <;> (set_option smartUnfolding false in conv => whnf)
  · have hlt : i < l.length := by have := of_decide_eq_true hc; omega
    refine br (fun hc => ?_) (fun hc => ?_) <;> (try rw [hc]) <;> (set_option smartUnfolding false in conv => whnf)
    · subst hJ
      refine vc_seqV (vc_block ?_)
      refine vc_seq true ?_
      set_option smartUnfolding false in conv => whnf
      refine ⟨_, idx_dos hlt, ?_⟩
      set_option smartUnfolding false in conv => whnf
      generalize hx : l[i] = x
      obtain ⟨kd, t, d⟩ := x
      refine ⟨dov (kd, t, d), rfl, ?_⟩
      set_option smartUnfolding false in conv => whnf
      refine eff_o (sto_o get_new_same rfl (Nat.le_refl _) rfl) fun h1 e1 => ?_
      set_option smartUnfolding false in conv => whnf
      have fr1 : Fr h h1 [] := by rw [e1]; exact ((Fr.refl h []).new (x := _)).setn (Nat.le_refl _)
      have gb : h1.get h.next = some (.cells (dov (kd, t, d)).cells true 0) := by rw [e1, get_set_same]; rfl
      have nb : h.next < h1.next := by rw [e1]; exact Nat.lt_succ_self _
      clear e1
      have H1 := H.keep fr1
      have nS : h.next ∉ S := fun hm => by have := H.qa.own _ hm; omega
      have nb' : h.next ≠ b := by have := H.ma.lb; omega
      refine vc_seq true ?_
      set_option smartUnfolding false in conv => whnf
      refine vc_seqV (VC.mono (Q := fun x e2 h2 => x = .normal ∧ (∃ S2 L2 D2, Both h2 q S2 m b es op L2 D2) ∧ AllAt e2 (plE k l q m i) ∧ Tr.get e2 11 = some (.bool true)) ?_ ?_)
      · refine vc_seq true ?_
        set_option smartUnfolding false in conv => whnf
        refine ⟨_, ld1 gb rfl, ?_⟩
        set_option smartUnfolding false in conv => whnf
        refine vd_pure (bring_c kd 3 (by omega) (by omega)) ?_
        set_option smartUnfolding false in conv => whnf
        refine vpC_sound (z := true) ?_
        generalize bring kd 3 = r
        set_option smartUnfolding false in conv => whnf
        refine br (fun hc => ?_) (fun hc => ?_) <;> (try rw [hc]) <;> (set_option smartUnfolding false in conv => whnf)
        · refine ⟨_, ld1 gb rfl, ?_⟩
          set_option smartUnfolding false in conv => whnf
          refine ⟨_, ld1 gb rfl, ?_⟩
          set_option smartUnfolding false in conv => whnf
          obtain ⟨e, he⟩ := H1.put t d
          refine he fun h2 S2 L2 o2 k2 => ?_
          set_option smartUnfolding false in conv => whnf
          have gb2 : h2.get h.next = some (.cells (dov (kd, t, d)).cells true 0) := by rw [o2.fr.keep _ nb nS]; exact gb
          refine ⟨_, ld1 gb2 rfl, ?_⟩
          set_option smartUnfolding false in conv => whnf
          refine ⟨_, ld1 gb2 rfl, ?_⟩
          set_option smartUnfolding false in conv => whnf
          refine k2 fun h3 D3 H3 fr3 => ?_
          set_option smartUnfolding false in conv => whnf
          refine ⟨winOk_of (by (set_option smartUnfolding false in conv => whnf); repeat' (first | exact trivial | (exact ⟨rfl, rfl, .inr ⟨_, _, rfl⟩⟩) | (refine ⟨rfl, rfl, .inl ⟨rfl, fun o ho => ?_⟩⟩; cases ho; first | rfl | (exact ld1 gb rfl) | (exact ld1 gb2 rfl)) | (exact ⟨rfl, .inr ⟨_, _, rfl⟩⟩) | (refine ⟨rfl, .inl ⟨rfl, fun i o hi ho => ?_⟩⟩; cases hi; cases ho; first | rfl | (exact ld1 gb rfl) | (exact ld1 gb2 rfl)) | (refine And.intro (fun _ => ?_) ?_ <;> set_option smartUnfolding false in conv => whnf) | (refine And.intro ?_ ?_ <;> set_option smartUnfolding false in conv => whnf))), ?_⟩
          refine ⟨rfl, ⟨_, _, _, H3⟩, ⟨rfl, rfl, rfl, rfl, rfl, trivial⟩, ?_⟩
          show some (AV.bool (decide (e = e))) = _
          simp
        · refine br (fun hc => ?_) (fun hc => ?_) <;> (try rw [hc]) <;> (set_option smartUnfolding false in conv => whnf)
          · refine ⟨_, ld1 gb rfl, ?_⟩
            set_option smartUnfolding false in conv => whnf
            obtain ⟨e, he⟩ := H1.remove t
            refine he fun h2 S2 L2 o2 k2 => ?_
            set_option smartUnfolding false in conv => whnf
            have gb2 : h2.get h.next = some (.cells (dov (kd, t, d)).cells true 0) := by rw [o2.fr.keep _ nb nS]; exact gb
            refine ⟨_, ld1 gb2 rfl, ?_⟩
            set_option smartUnfolding false in conv => whnf
            refine k2 fun h3 D3 H3 fr3 => ?_
            set_option smartUnfolding false in conv => whnf
            refine ⟨winOk_of (by (set_option smartUnfolding false in conv => whnf); repeat' (first | exact trivial | (exact ⟨rfl, rfl, .inr ⟨_, _, rfl⟩⟩) | (refine ⟨rfl, rfl, .inl ⟨rfl, fun o ho => ?_⟩⟩; cases ho; first | rfl | (exact ld1 gb rfl) | (exact ld1 gb2 rfl)) | (exact ⟨rfl, .inr ⟨_, _, rfl⟩⟩) | (refine ⟨rfl, .inl ⟨rfl, fun i o hi ho => ?_⟩⟩; cases hi; cases ho; first | rfl | (exact ld1 gb rfl) | (exact ld1 gb2 rfl)) | (refine And.intro (fun _ => ?_) ?_ <;> set_option smartUnfolding false in conv => whnf) | (refine And.intro ?_ ?_ <;> set_option smartUnfolding false in conv => whnf))), ?_⟩
            refine ⟨rfl, ⟨_, _, _, H3⟩, ⟨rfl, rfl, rfl, rfl, rfl, trivial⟩, ?_⟩
            show some (AV.bool (e == e)) = _
            simp
          · refine ⟨_, ld1 gb rfl, ?_⟩
            set_option smartUnfolding false in conv => whnf
            refine H1.late d fun h2 v r hr iv fr2 k2 => ?_
            set_option smartUnfolding false in conv => whnf
            have gb2 : h2.get h.next = some (.cells (dov (kd, t, d)).cells true 0) := by rw [fr2.keep _ nb (by simp)]; exact gb
            refine ⟨_, ld1 gb2 rfl, ?_⟩
            set_option smartUnfolding false in conv => whnf
            refine k2 fun h3 v3 iv3 fr3 => ?_
            set_option smartUnfolding false in conv => whnf
            obtain ⟨z1, f1⟩ := (iv.keep fr3).frz
            obtain ⟨z2, f2⟩ := iv3.frz
            refine vd_view (eqInts_same z1 z2 r (by omega)) rfl (.cons f1 (.cons f2 .nil)) ?_
            set_option smartUnfolding false in conv => whnf
            refine ⟨winOk_of (by (set_option smartUnfolding false in conv => whnf); repeat' (first | exact trivial | (exact ⟨rfl, rfl, .inr ⟨_, _, rfl⟩⟩) | (refine ⟨rfl, rfl, .inl ⟨rfl, fun o ho => ?_⟩⟩; cases ho; first | rfl | (exact ld1 gb rfl) | (exact ld1 gb2 rfl)) | (exact ⟨rfl, .inr ⟨_, _, rfl⟩⟩) | (refine ⟨rfl, .inl ⟨rfl, fun i o hi ho => ?_⟩⟩; cases hi; cases ho; first | rfl | (exact ld1 gb rfl) | (exact ld1 gb2 rfl)) | (refine And.intro (fun _ => ?_) ?_ <;> set_option smartUnfolding false in conv => whnf) | (refine And.intro ?_ ?_ <;> set_option smartUnfolding false in conv => whnf))), ?_⟩
            exact ⟨rfl, ⟨_, _, _, (H1.keep fr2).keep fr3⟩, ⟨rfl, rfl, rfl, rfl, rfl, trivial⟩, rfl⟩
      · rintro x e2 h2 ⟨rfl, ⟨S2, L2, D2, H2⟩, ha, g11⟩
        show VC fs ms _ _ _ _ _ _
        refine vc_slots 4 ((11, .bool true) :: plE k l q m i) ⟨g11, ha⟩ (vpC_sound (z := true) ?_)
        unfold plE
        set_option smartUnfolding false in conv => whnf
        refine same_o H2 fun h3 fr3 => ?_
        set_option smartUnfolding false in conv => whnf
        refine vpC_sound (z := true) ?_
        set_option smartUnfolding false in conv => whnf
        exact ih (l.length - (i + 1)) (by omega) (i + 1) h3 S2 L2 D2 _ rfl (by omega) (H2.keep fr3) ⟨rfl, rfl, rfl, rfl, inc_slot (by omega), trivial⟩
    · exact hQ _ _
  · exact hQ _ _

theorem readyPlays_c (n : Int) (k : Nat) (l : List Do3) (hl : l.length < 2 ^ 62) : PC fs ms f_escapementlaw15_ReadyPlays [.int .i64 n, .fz k (dos l)] (.bool true) := by
  refine pc_of (by simp [clL, AV.cl, cl_dos]) rfl ?_
  generalize hK : (fun (u : AV) (_ : Heap) => u = .bool true) = K
  have hKt : ∀ h, K (.bool true) h := fun h => by subst hK; rfl
  clear hK
  generalize (⟨0, .nil⟩ : Heap) = h0
  refine vd_begin (af := C_escapementlaw15_ReadyPlays) rfl (Nat.le_of_ble_eq_true rfl) ?_
  set_option smartUnfolding false in conv => whnf
  refine vc_seq true ?_
  set_option smartUnfolding false in conv => whnf
  refine vc_seq true ?_
  set_option smartUnfolding false in conv => whnf
  refine new_o n (fun hb => ?_) fun n0 n4 h1 q S hq hS fr1 => ?_
  · set_option smartUnfolding false in conv => whnf
    refine vc_seq true ?_
    set_option smartUnfolding false in conv => whnf
    refine mnew_o n (fun _ => ?_) fun i hi h4 => by omega
    set_option smartUnfolding false in conv => whnf
    refine vc_seq true ?_
    set_option smartUnfolding false in conv => whnf
    refine vc_seqV (vc_seq true ?_)
    set_option smartUnfolding false in conv => whnf
    refine vc_block ?_
    refine vc_loopV (vc_seq true ?_)
    set_option smartUnfolding false in conv => whnf
    have fin : ∀ e h, VC fs ms h0.next false (.seq (.ops (⟨(some 96), none, .call, [.c (.func (.func 36) [] [])]⟩ :: ⟨(some 4), none, .p .mov, [.t 96]⟩ :: [])) .ret) e h (endV C_escapementlaw15_ReadyPlays.results K) := by
      intro e h
      refine vc_slots 3 [] trivial (vpC_sound (z := true) ?_)
      set_option smartUnfolding false in conv => whnf
      refine vd_pure works15_c ?_
      set_option smartUnfolding false in conv => whnf
      exact hKt _
    refine br (fun hc => ?_) (fun hc => ?_) <;> (try rw [hc]) <;> (set_option smartUnfolding false in conv => whnf)
    · exact fin _ _
    · exact fin _ _
  · set_option smartUnfolding false in conv => whnf
    refine vc_seq true ?_
    set_option smartUnfolding false in conv => whnf
    refine mnew_o n (fun h => by omega) fun i hi h4 h2 m b es op hm m1 b1 fr2 => ?_
    set_option smartUnfolding false in conv => whnf
    refine vc_seq true ?_
    set_option smartUnfolding false in conv => whnf
    have H : Both h2 q S m b es op [] (rep i) := by
      have hown := hq.own
      refine ⟨?_, hm, by rw [rep_len]; exact h4, mch_new i, fun h => by have := hown m h; omega, fun h => by have := hown b h; omega⟩
      rw [rep_len, ← hi]
      exact hq.keep fr2 (by simp)
    refine vc_seqV (vc_seq true ?_)
    set_option smartUnfolding false in conv => whnf
    refine vc_block ?_
    refine plays_loop hl ?_ _ 0 h2 S [] (rep i) _ rfl (Nat.zero_le _) H ⟨rfl, rfl, rfl, rfl, rfl, trivial⟩
    intro e3 h3
    show VC fs ms _ _ _ _ _ _
    refine vc_slots 3 [] trivial (vpC_sound (z := true) ?_)
    set_option smartUnfolding false in conv => whnf
    refine vd_pure works15_c ?_
    set_option smartUnfolding false in conv => whnf
    exact hKt _
end Ir
end Go.Proofs.Ytenafeojcgmnhaa
