/-
  Rank: the first loop of RankOrder.
-/
import Derived.Test.YtenafeojcgmnhaaVRkB
set_option maxRecDepth 100000
set_option linter.unusedSimpArgs false
set_option linter.unusedVariables false
namespace Go.Proofs.Ytenafeojcgmnhaa
open Go Ads
namespace Ir

theorem Nt.put {h h1 h2 : Heap} {k p t u : Nat} {S S' : List Nat} {L L' : List Id} {P P' : Nat → Nat} {W : List Bool} {V : List Int} (N : Nt h k p S L P t u W V) {i : Nat} (hi : i < 64) {key : Int} (hno : ∀ y ∈ L, y.1 ≠ i) (hr : RAt h1 k p S' L' P') (hL : ∀ y, y ∈ L' ↔ y ∈ L ∨ y = (i, key)) (o : Own h h1 S S')
    (e : h2 = (h1.set t (.cells (bol (W.set i true)) true 0)).set u (.cells (ints (V.set i key)) true 0)) : Nt h2 k p S' L' P' t u (W.set i true) (V.set i key) ∧ L'.length = L.length + 1 := by
  subst e
  have B := N.nb o
  have B2 := (B.setW N.tu (W.set i true)).setV N.tu (V.set i key)
  have hw : i < W.length := by rw [N.wl]; exact hi
  have hv : i < V.length := by rw [N.vl]; exact hi
  refine ⟨⟨(hr.set B.tS _).set B.uS _, B2.gt, B2.gu, B2.lt, B2.lu, B2.tS, B2.uS, N.tu, by rw [List.length_set]; exact N.wl, by rw [List.length_set]; exact N.vl, fun y hy => ?_, fun j hj hb => ?_⟩, ?_⟩
  · rw [gB_set hw, gN_set hv]
    rcases (hL y).1 hy with hy | rfl
    · rw [if_neg (hno y hy), if_neg (hno y hy)]; exact N.to y hy
    · rw [if_pos rfl, if_pos rfl]; exact ⟨rfl, rfl⟩
  · rw [gB_set hw] at hb
    rw [gN_set hv, hL]
    by_cases e : j = i
    · subst e; rw [if_pos rfl]; exact .inr rfl
    · rw [if_neg e] at hb ⊢; exact .inl (N.of j hj hb)
  · exact len_add hr.pl.nd N.ra.pl.nd (fun h => hno _ h rfl) hL
theorem Nt.low {h h1 h2 : Heap} {k p t u : Nat} {S S' : List Nat} {L L' : List Id} {P P' : Nat → Nat} {W : List Bool} {V : List Int} (N : Nt h k p S L P t u W V) {y : Id} (hy : y ∈ L) {key : Int} (hr : RAt h1 k p S' L' P') (hL : ∀ z, z ∈ L' ↔ (z ∈ L ∧ z.1 ≠ y.1) ∨ z = (y.1, key)) (o : Own h h1 S S')
    (e : h2 = h1.set u (.cells (ints (V.set y.1 key)) true 0)) : Nt h2 k p S' L' P' t u W (V.set y.1 key) ∧ L'.length = L.length := by
  subst e
  have hi := N.small hy
  have B := N.nb o
  have B2 := B.setV N.tu (V.set y.1 key)
  have hv : y.1 < V.length := by rw [N.vl]; exact hi
  refine ⟨⟨hr.set B.uS _, B2.gt, B2.gu, B2.lt, B2.lu, B2.tS, B2.uS, N.tu, N.wl, by rw [List.length_set]; exact N.vl, fun z hz => ?_, fun j hj hb => ?_⟩, ?_⟩
  · rw [gN_set hv]
    rcases (hL z).1 hz with hz | rfl
    · rw [if_neg hz.2]; exact N.to z hz.1
    · rw [if_pos rfl]; exact ⟨(N.to y hy).1, rfl⟩
  · rw [gN_set hv, hL]
    by_cases e : j = y.1
    · subst e; rw [if_pos rfl]; exact .inr rfl
    · rw [if_neg e]; exact .inl ⟨N.of j hj hb, e⟩
  · have hu : ∀ z ∈ L, z.1 = y.1 → z = y := fun z hz e => N.ra.pl.uniq hz hy e
    have hnd := N.ra.pl.nd
    have h1 : (L.filter fun z => decide (z.1 ≠ y.1)).length + 1 = L.length := len_del (hnd.sublist List.filter_sublist) hnd hy hu fun z => by simp [List.mem_filter]
    have h2 : L'.length = (L.filter fun z => decide (z.1 ≠ y.1)).length + 1 := len_add hr.pl.nd (hnd.sublist List.filter_sublist) (x := (y.1, key)) (fun h => by simp [List.mem_filter] at h) fun z => by rw [hL]; simp [List.mem_filter]
    omega
theorem Nt.del {h h1 h2 : Heap} {k p t u : Nat} {S S' : List Nat} {L L' : List Id} {P P' : Nat → Nat} {W : List Bool} {V : List Int} (N : Nt h k p S L P t u W V) {y : Id} (hy : y ∈ L) (hr : RAt h1 k p S' L' P') (hL : ∀ z, z ∈ L' ↔ z ∈ L ∧ z.1 ≠ y.1) (o : Own h h1 S S')
    (e : h2 = h1.set t (.cells (bol (W.set y.1 false)) true 0)) : Nt h2 k p S' L' P' t u (W.set y.1 false) V ∧ L'.length + 1 = L.length := by
  subst e
  have hi := N.small hy
  have B := N.nb o
  have B2 := B.setW N.tu (W.set y.1 false)
  have hw : y.1 < W.length := by rw [N.wl]; exact hi
  refine ⟨⟨hr.set B.tS _, B2.gt, B2.gu, B2.lt, B2.lu, B2.tS, B2.uS, N.tu, by rw [List.length_set]; exact N.wl, N.vl, fun z hz => ?_, fun j hj hb => ?_⟩, ?_⟩
  · have hz := (hL z).1 hz
    rw [gB_set hw, if_neg hz.2]; exact N.to z hz.1
  · rw [gB_set hw] at hb
    rw [hL]
    by_cases e : j = y.1
    · subst e; rw [if_pos rfl] at hb; cases hb
    · rw [if_neg e] at hb; exact ⟨N.of j hj hb, e⟩
  · exact len_del hr.pl.nd N.ra.pl.nd hy (fun z hz e => N.ra.pl.uniq hz hy e) hL

def roE (z : Nat) (l : List Rd3) (k t u n i : Nat) : List (Nat × AV) := [(0, .fz z (rds l)), (3, .ptr k 0), (4, .ptr t 0), (5, .ptr u 0), (6, .int .i64 ((n : Nat) : Int)), (7, .int .i64 ((i : Nat) : Int))]
theorem ro_l0 {z : Nat} {l : List Rd3} {k p t u : Nat} {B : Nat} {Q : AX → Env → Heap → Prop} (hl : l.length < 2 ^ 62)
    (hQ : ∀ e' h' S' L' P' W' V', Tr.get e' 3 = some (.ptr k 0) → Tr.get e' 4 = some (.ptr t 0) → Tr.get e' 5 = some (.ptr u 0) → Tr.get e' 6 = some (.int .i64 ((L'.length : Nat) : Int)) → Nt h' k p S' L' P' t u W' V' → Q (.exit 0) e' h') :
    ∀ (n i : Nat) (h : Heap) (S : List Nat) (L : List Id) (P : Nat → Nat) (W : List Bool) (V : List Int) (env : Env), l.length - i = n → i ≤ l.length → Nt h k p S L P t u W V → AllAt env (roE z l k t u L.length i) →
    VC fs ms B false (.loop L_escapementlaw02_RankOrder_0) env h Q := by
  intro n
  induction n using Nat.strongRecOn with
  | ind n ih =>
  intro i h S L P W V env hn hi N henv
  refine vc_slots 4 (roE z l k t u L.length i) henv ?_
  refine vc_loopV (vc_seq true ?_)
  unfold roE
  generalize hJ : ((i : Nat) : Int) = J
  set_option smartUnfolding false in conv => whnf
  rw [rds_len]
  refine br (fun hc => ?_) (fun hc => ?_) <;> (try rw [hc]) <;> (set_option smartUnfolding false in conv => whnf)
  · have hlt : i < l.length := by have := of_decide_eq_true hc; omega
    refine br (fun hc => ?_) (fun hc => ?_) <;> (try rw [hc]) <;> (set_option smartUnfolding false in conv => whnf)
    · subst hJ
      refine vpC_sound (z := true) ?_
      generalize hx : l[i] = x
      obtain ⟨kd, id, key⟩ := x
      have hix : pV (.iaddrS 3) [.fz z (rds l), .int .i64 ((i : Nat) : Int)] = some (.fp [.int .i64 kd, .int .i64 id, .int .i64 key] 0) := by
        rw [idx_rds hlt, hx]; rfl
      have h64 := N.ra.pl.len64
      set_option smartUnfolding false in conv => whnf
      refine ⟨_, hix, ?_⟩
      set_option smartUnfolding false in conv => whnf
      refine ⟨_, rfl, ?_⟩
      set_option smartUnfolding false in conv => whnf
      refine vd_pure (bring_c id 64 (by omega) (by omega)) ?_
      set_option smartUnfolding false in conv => whnf
      refine ⟨_, hix, ?_⟩
      set_option smartUnfolding false in conv => whnf
      refine ⟨_, rfl, ?_⟩
      set_option smartUnfolding false in conv => whnf
      refine vd_pure (bring_c kd 3 (by omega) (by omega)) ?_
      set_option smartUnfolding false in conv => whnf
      have ht0 : 0 ≤ bring id 64 := Int.emod_nonneg _ (by omega)
      have ht4 : bring id 64 < 64 := Int.emod_lt_of_pos _ (by omega)
      generalize hT : bring id 64 = T at *
      generalize bring kd 3 = k' at *
      obtain ⟨t', rfl⟩ : ∃ t' : Nat, T = t' := ⟨T.toNat, by omega⟩
      have ht : t' < 64 := by omega
      refine br (fun hc => ?_) (fun hc => ?_) <;> (try rw [hc]) <;> (set_option smartUnfolding false in conv => whnf)
      · -- Put
        refine ⟨_, hix, ?_⟩
        set_option smartUnfolding false in conv => whnf
        refine ⟨_, rfl, ?_⟩
        set_option smartUnfolding false in conv => whnf
        refine put_o N.ra _ key (fun hb => by omega) (fun y hy e => ?_) fun j hj _ hno h1 S1 L1 P1 r1 r2 r3 => ?_
        · have hty : t' = y.1 := by omega
          have hw : gB W t' = true := by rw [hty]; exact (N.to y hy).1
          set_option smartUnfolding false in conv => whnf
          refine ⟨_, idx_arr (o := 0) ht, ?_⟩
          set_option smartUnfolding false in conv => whnf
          refine ⟨_, N.ldW ht hw, ?_⟩
          set_option smartUnfolding false in conv => whnf
          refine ⟨_, idx_arr (o := 0) ht, ?_⟩
          set_option smartUnfolding false in conv => whnf
          refine ⟨_, N.ldW ht hw, ?_⟩
          set_option smartUnfolding false in conv => whnf
          exact ih (l.length - (i + 1)) (by omega) (i + 1) h S L P W V _ rfl (by omega) N ⟨rfl, rfl, rfl, rfl, rfl, inc_slot (by omega), trivial⟩
        · have hjt : t' = j := by omega
          subst hjt
          have hw := N.no ht hno
          have B := N.nb r3
          set_option smartUnfolding false in conv => whnf
          refine ⟨_, idx_arr (o := 0) ht, ?_⟩
          set_option smartUnfolding false in conv => whnf
          refine ⟨_, B.ldW N.wl ht hw, ?_⟩
          set_option smartUnfolding false in conv => whnf
          refine ⟨_, idx_arr (o := 0) ht, ?_⟩
          set_option smartUnfolding false in conv => whnf
          refine ⟨_, B.ldW N.wl ht hw, ?_⟩
          set_option smartUnfolding false in conv => whnf
          refine ⟨_, idx_arr (o := 0) ht, ?_⟩
          set_option smartUnfolding false in conv => whnf
          refine eff_o (B.stW N.wl ht true) fun h2 e2 => ?_
          set_option smartUnfolding false in conv => whnf
          refine ⟨_, hix, ?_⟩
          set_option smartUnfolding false in conv => whnf
          refine ⟨_, rfl, ?_⟩
          set_option smartUnfolding false in conv => whnf
          refine ⟨_, idx_arr (o := 0) ht, ?_⟩
          set_option smartUnfolding false in conv => whnf
          have B2 : Nb h2 t u S1 (W.set t' true) V := by rw [e2]; exact B.setW N.tu _
          refine eff_o (B2.stV N.vl ht key) fun h3 e3 => ?_
          set_option smartUnfolding false in conv => whnf
          obtain ⟨N3, hlen⟩ := N.put ht hno r1 r2 r3 (show h3 = _ by rw [e3, e2])
          refine ih (l.length - (i + 1)) (by omega) (i + 1) h3 S1 L1 P1 _ _ _ rfl (by omega) N3 ⟨rfl, rfl, rfl, rfl, ?_, inc_slot (by omega), trivial⟩
          rw [hlen]
          exact inc_slot (by omega)
      · refine br (fun hc => ?_) (fun hc => ?_) <;> (try rw [hc]) <;> (set_option smartUnfolding false in conv => whnf)
        · -- Lower
          refine ⟨_, hix, ?_⟩
          set_option smartUnfolding false in conv => whnf
          refine ⟨_, rfl, ?_⟩
          set_option smartUnfolding false in conv => whnf
          refine lower_o N.ra _ key (fun hb => by omega) (fun _ hno => ?_) (fun y e hy hlt2 => ?_) fun y e hy hle h1 S1 L1 P1 r1 r2 r3 => ?_
          · have hw : gB W t' = false := N.no ht fun y hy e => hno y hy (by rw [e])
            set_option smartUnfolding false in conv => whnf
            refine ⟨_, idx_arr (o := 0) ht, ?_⟩
            set_option smartUnfolding false in conv => whnf
            refine ⟨_, N.ldW ht hw, ?_⟩
            set_option smartUnfolding false in conv => whnf
            exact ih (l.length - (i + 1)) (by omega) (i + 1) h S L P W V _ rfl (by omega) N ⟨rfl, rfl, rfl, rfl, rfl, inc_slot (by omega), trivial⟩
          · have hty : t' = y.1 := by omega
            have hw : gB W t' = true := by rw [hty]; exact (N.to y hy).1
            have hv : gN V t' = y.2 := by rw [hty]; exact (N.to y hy).2
            set_option smartUnfolding false in conv => whnf
            refine ⟨_, idx_arr (o := 0) ht, ?_⟩
            set_option smartUnfolding false in conv => whnf
            refine ⟨_, N.ldW ht hw, ?_⟩
            set_option smartUnfolding false in conv => whnf
            refine ⟨_, hix, ?_⟩
            set_option smartUnfolding false in conv => whnf
            refine ⟨_, rfl, ?_⟩
            set_option smartUnfolding false in conv => whnf
            refine ⟨_, idx_arr (o := 0) ht, ?_⟩
            set_option smartUnfolding false in conv => whnf
            refine ⟨_, N.ldV ht, ?_⟩
            rw [hv]
            set_option smartUnfolding false in conv => whnf
            rw [show decide (key ≤ y.2) = false from decide_eq_false (by omega)]
            set_option smartUnfolding false in conv => whnf
            exact ih (l.length - (i + 1)) (by omega) (i + 1) h S L P W V _ rfl (by omega) N ⟨rfl, rfl, rfl, rfl, rfl, inc_slot (by omega), trivial⟩
          · have hty : t' = y.1 := by omega
            subst hty
            have hw := (N.to y hy).1
            have hv := (N.to y hy).2
            have B := N.nb r3
            set_option smartUnfolding false in conv => whnf
            refine ⟨_, idx_arr (o := 0) ht, ?_⟩
            set_option smartUnfolding false in conv => whnf
            refine ⟨_, B.ldW N.wl ht hw, ?_⟩
            set_option smartUnfolding false in conv => whnf
            refine ⟨_, hix, ?_⟩
            set_option smartUnfolding false in conv => whnf
            refine ⟨_, rfl, ?_⟩
            set_option smartUnfolding false in conv => whnf
            refine ⟨_, idx_arr (o := 0) ht, ?_⟩
            set_option smartUnfolding false in conv => whnf
            refine ⟨_, B.ldV N.vl ht, ?_⟩
            rw [hv]
            set_option smartUnfolding false in conv => whnf
            rw [show decide (key ≤ y.2) = true from decide_eq_true (by omega)]
            set_option smartUnfolding false in conv => whnf
            refine ⟨_, hix, ?_⟩
            set_option smartUnfolding false in conv => whnf
            refine ⟨_, rfl, ?_⟩
            set_option smartUnfolding false in conv => whnf
            refine ⟨_, idx_arr (o := 0) ht, ?_⟩
            set_option smartUnfolding false in conv => whnf
            refine eff_o (B.stV N.vl ht key) fun h3 e3 => ?_
            set_option smartUnfolding false in conv => whnf
            obtain ⟨N3, hlen⟩ := N.low hy r1 r2 r3 e3
            refine ih (l.length - (i + 1)) (by omega) (i + 1) h3 S1 L1 P1 _ _ _ rfl (by omega) N3 ⟨rfl, rfl, rfl, rfl, by rw [hlen]; rfl, inc_slot (by omega), trivial⟩
        · -- Remove
          refine remove_o N.ra _ (fun hno => ?_) fun y e hy h1 S1 L1 P1 r1 r2 r3 => ?_
          · have hw : gB W t' = false := N.no ht fun y hy e => hno y hy (by rw [e])
            set_option smartUnfolding false in conv => whnf
            refine ⟨_, idx_arr (o := 0) ht, ?_⟩
            set_option smartUnfolding false in conv => whnf
            refine ⟨_, N.ldW ht hw, ?_⟩
            set_option smartUnfolding false in conv => whnf
            refine ⟨winOk_of (by (set_option smartUnfolding false in conv => whnf); repeat' (first | exact trivial | (exact ⟨rfl, rfl, .inr ⟨_, _, rfl⟩⟩) | (refine ⟨rfl, rfl, .inl ⟨rfl, fun o ho => ?_⟩⟩; cases ho; first | rfl | (exact N.ldW ht hw)) | (exact ⟨rfl, .inr ⟨_, _, rfl⟩⟩) | (refine ⟨rfl, .inl ⟨rfl, fun i o hi ho => ?_⟩⟩; cases hi; cases ho; first | rfl | (exact N.ldW ht hw)) | (refine And.intro (fun _ => ?_) ?_ <;> set_option smartUnfolding false in conv => whnf) | (refine And.intro ?_ ?_ <;> set_option smartUnfolding false in conv => whnf))), ?_⟩
            set_option smartUnfolding false in conv => whnf
            refine ⟨_, idx_arr (o := 0) ht, ?_⟩
            set_option smartUnfolding false in conv => whnf
            refine ⟨_, N.ldW ht hw, ?_⟩
            set_option smartUnfolding false in conv => whnf
            exact ih (l.length - (i + 1)) (by omega) (i + 1) h S L P W V _ rfl (by omega) N ⟨rfl, rfl, rfl, rfl, rfl, inc_slot (by omega), trivial⟩
          · have hty : t' = y.1 := by omega
            subst hty
            have hw := (N.to y hy).1
            have B := N.nb r3
            set_option smartUnfolding false in conv => whnf
            refine ⟨_, idx_arr (o := 0) ht, ?_⟩
            set_option smartUnfolding false in conv => whnf
            refine ⟨_, B.ldW N.wl ht hw, ?_⟩
            set_option smartUnfolding false in conv => whnf
            refine ⟨winOk_of (by (set_option smartUnfolding false in conv => whnf); repeat' (first | exact trivial | (exact ⟨rfl, rfl, .inr ⟨_, _, rfl⟩⟩) | (refine ⟨rfl, rfl, .inl ⟨rfl, fun o ho => ?_⟩⟩; cases ho; first | rfl | (exact N.ldW ht hw) | (exact B.ldW N.wl ht hw)) | (exact ⟨rfl, .inr ⟨_, _, rfl⟩⟩) | (refine ⟨rfl, .inl ⟨rfl, fun i o hi ho => ?_⟩⟩; cases hi; cases ho; first | rfl | (exact N.ldW ht hw) | (exact B.ldW N.wl ht hw)) | (refine And.intro (fun _ => ?_) ?_ <;> set_option smartUnfolding false in conv => whnf) | (refine And.intro ?_ ?_ <;> set_option smartUnfolding false in conv => whnf))), ?_⟩
            set_option smartUnfolding false in conv => whnf
            refine ⟨_, idx_arr (o := 0) ht, ?_⟩
            set_option smartUnfolding false in conv => whnf
            refine ⟨_, B.ldW N.wl ht hw, ?_⟩
            set_option smartUnfolding false in conv => whnf
            refine ⟨_, idx_arr (o := 0) ht, ?_⟩
            set_option smartUnfolding false in conv => whnf
            refine eff_o (B.stW N.wl ht false) fun h3 e3 => ?_
            set_option smartUnfolding false in conv => whnf
            obtain ⟨N3, hlen⟩ := N.del hy r1 r2 r3 e3
            refine ih (l.length - (i + 1)) (by omega) (i + 1) h3 S1 L1 P1 _ _ _ rfl (by omega) N3 ⟨rfl, rfl, rfl, rfl, ?_, inc_slot (by omega), trivial⟩
            rw [show L1.length = L.length - 1 by omega]
            exact congrArg (fun x => some (AV.int .i64 x)) (show IntKind.i64.wrap (((L.length : Nat) : Int) - 1) = ((L.length - 1 : Nat) : Int) by rw [show ((L.length : Nat) : Int) - 1 = ((L.length - 1 : Nat) : Int) by omega, wrap_nat (by omega)])
    · subst hJ
      exact hQ _ h S L P W V rfl rfl rfl rfl N
  · subst hJ
    exact hQ _ h S L P W V rfl rfl rfl rfl N
end Ir
end Go.Proofs.Ytenafeojcgmnhaa
