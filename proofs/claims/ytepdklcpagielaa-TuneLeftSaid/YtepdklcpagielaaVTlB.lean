/-
  Tune: partitions that are the same; partitions that are given budgets.
-/
import Derived.Test.YtepdklcpagielaaVTlA
set_option maxRecDepth 100000
set_option linter.unusedSimpArgs false
set_option linter.unusedVariables false
namespace Go.Proofs.Ytepdklcpagielaa
open Go Ads
namespace Ir

/-- The same but for the kinds of rows. -/
def Eqv (A B : List Pt) : Prop := A.length = B.length ∧ ∀ (i : Nat) (h : i < A.length) (h' : i < B.length), A[i].per = B[i].per ∧ A[i].bud = B[i].bud ∧ A[i].ts = B[i].ts
theorem neq_tk (t : Tk) : pV (.neq (.cells [0, 0, 0, 0, 0, 0, 0, 0])) [tk t, tk t] = some (.bool false) := by
  simp [pV, pIF, l2, eqA, eqCells, eqOne, tk]
def smE (k k' : Nat) (A B : List Pt) (i : Nat) : List (Nat × AV) := [(0, .fz k (pts A)), (1, .fz k' (pts B)), (5, .int .i64 ((i : Nat) : Int))]
theorem sm_in {k k' : Nat} {A B : List Pt} {i : Nat} (hi : i < A.length) (hi' : i < B.length) (hts : A[i].ts = B[i].ts) (hl : A[i].ts.length < 2 ^ 60) {Bs : Nat} {Q : AX → Env → Heap → Prop}
    (hQ : ∀ e' h', AllAt e' (smE k k' A B i) → Q (.exit 2) e' h') :
    ∀ (n j : Nat) (h : Heap) (env : Env), A[i].ts.length - j = n → j ≤ A[i].ts.length → AllAt env (smE k k' A B i ++ [(6, .int .i64 ((j : Nat) : Int))]) →
    VC fs ms Bs false (.loop L_escapementref30_Same_1) env h Q := by
  have ia := idx_pt (k := k) hi
  have ib := idx_pt (k := k') hi'
  generalize A[i] = x at *
  generalize B[i] = y at *
  obtain ⟨xp, xb, xk, xt⟩ := x
  obtain ⟨yp, yb, yk, yt⟩ := y
  simp only at hts hl ⊢
  subst hts
  intro n
  induction n using Nat.strongRecOn with
  | ind n ih =>
  intro j h env hn hj henv
  refine vc_slots 4 _ henv ?_
  refine vc_loop (z := true) ?_
  unfold smE
  set_option smartUnfolding false in conv => whnf
  refine ⟨_, ia, ?_⟩
  set_option smartUnfolding false in conv => whnf
  refine ⟨.fz xk (tks xt), rfl, ?_⟩
  set_option smartUnfolding false in conv => whnf
  rw [show (tks xt).length = xt.length from List.length_map ..]
  refine br (fun hc => ?_) (fun hc => ?_) <;> (try rw [hc]) <;> (set_option smartUnfolding false in conv => whnf)
  · have hlt : j < xt.length := by have := of_decide_eq_true hc; omega
    refine ⟨_, ia, ?_⟩
    set_option smartUnfolding false in conv => whnf
    refine ⟨.fz xk (tks xt), rfl, ?_⟩
    set_option smartUnfolding false in conv => whnf
    refine ⟨_, idx_tk hlt, ?_⟩
    set_option smartUnfolding false in conv => whnf
    refine ⟨tk xt[j], rfl, ?_⟩
    set_option smartUnfolding false in conv => whnf
    refine ⟨_, ib, ?_⟩
    set_option smartUnfolding false in conv => whnf
    refine ⟨.fz yk (tks xt), rfl, ?_⟩
    set_option smartUnfolding false in conv => whnf
    refine ⟨_, idx_tk hlt, ?_⟩
    set_option smartUnfolding false in conv => whnf
    refine ⟨tk xt[j], rfl, ?_⟩
    set_option smartUnfolding false in conv => whnf
    refine op_some (neq_tk _) ?_
    set_option smartUnfolding false in conv => whnf
    exact ih (xt.length - (j + 1)) (by omega) (j + 1) h _ rfl (by omega) (by repeat' (first | exact trivial | refine And.intro (by first | with_reducible_and_instances rfl | (refine Eq.trans (b := some (AV.int .i64 _)) rfl (congrArg (fun z => some (AV.int .i64 z)) ?_); first | omega | (simp (disch := omega) only [IntWalk.i64_in] <;> omega)) | rfl) ?_))
  · exact hQ _ _ (by repeat' (first | exact trivial | refine And.intro (by first | with_reducible_and_instances rfl | (refine Eq.trans (b := some (AV.int .i64 _)) rfl (congrArg (fun z => some (AV.int .i64 z)) ?_); first | omega | (simp (disch := omega) only [IntWalk.i64_in] <;> omega)) | rfl) ?_))
theorem sm_out {k k' : Nat} {A B : List Pt} (hE : Eqv A B) (hA : A.length < 2 ^ 60) (hl : ∀ x ∈ A, x.ts.length < 2 ^ 60) {Bs : Nat} {Q : AX → Env → Heap → Prop}
    (hQ : ∀ e' h', Q (.exit 0) e' h') :
    ∀ (n i : Nat) (h : Heap) (env : Env), A.length - i = n → i ≤ A.length → AllAt env (smE k k' A B i) →
    VC fs ms Bs false (.loop L_escapementref30_Same_0) env h Q := by
  intro n
  induction n using Nat.strongRecOn with
  | ind n ih =>
  intro i h env hn hi henv
  refine vc_slots 4 _ henv ?_
  refine vc_loopV (vc_seq true ?_)
  unfold smE
  set_option smartUnfolding false in conv => whnf
  rw [len_pts]
  refine br (fun hc => ?_) (fun hc => ?_) <;> (try rw [hc]) <;> (set_option smartUnfolding false in conv => whnf)
  · have hlt : i < A.length := by have := of_decide_eq_true hc; omega
    have hlt' : i < B.length := by rw [← hE.1]; exact hlt
    obtain ⟨e1, e2, e3⟩ := hE.2 i hlt hlt'
    have hlx := hl _ (List.getElem_mem hlt)
    have ia := idx_pt (k := k) hlt
    have ib := idx_pt (k := k') hlt'
    refine vc_seqV (vc_block ?_)
    refine vc_seqV ?_
    refine VC.mono (Q := fun x e2 h2 => x = .normal ∧ AllAt e2 (smE k k' A B i)) ?_ ?_
    · refine vpC_sound (z := true) ?_
      generalize A[i] = x at *
      generalize B[i] = y at *
      obtain ⟨xp, xb, xk, xt⟩ := x
      obtain ⟨yp, yb, yk, yt⟩ := y
      simp only at e1 e2 e3 hlx
      subst e1 e2 e3
      set_option smartUnfolding false in conv => whnf
      refine ⟨_, ia, ?_⟩
      set_option smartUnfolding false in conv => whnf
      refine ⟨.int .i64 xp, rfl, ?_⟩
      set_option smartUnfolding false in conv => whnf
      refine ⟨_, ib, ?_⟩
      set_option smartUnfolding false in conv => whnf
      refine ⟨.int .i64 xp, rfl, ?_⟩
      set_option smartUnfolding false in conv => whnf
      rw [show (xp != xp) = false by simp]
      set_option smartUnfolding false in conv => whnf
      refine ⟨_, ia, ?_⟩
      set_option smartUnfolding false in conv => whnf
      refine ⟨.int .i64 xb, rfl, ?_⟩
      set_option smartUnfolding false in conv => whnf
      refine ⟨_, ib, ?_⟩
      set_option smartUnfolding false in conv => whnf
      refine ⟨.int .i64 xb, rfl, ?_⟩
      set_option smartUnfolding false in conv => whnf
      rw [show (xb != xb) = false by simp]
      set_option smartUnfolding false in conv => whnf
      refine ⟨_, ia, ?_⟩
      set_option smartUnfolding false in conv => whnf
      refine ⟨.fz xk (tks xt), rfl, ?_⟩
      set_option smartUnfolding false in conv => whnf
      refine ⟨_, ib, ?_⟩
      set_option smartUnfolding false in conv => whnf
      refine ⟨.fz yk (tks xt), rfl, ?_⟩
      set_option smartUnfolding false in conv => whnf
      rw [show ((((tks xt).length : Nat) : Int) != (((tks xt).length : Nat) : Int)) = false by simp]
      set_option smartUnfolding false in conv => whnf
      exact ⟨rfl, rfl, rfl, rfl, trivial⟩
    · rintro x e2' h2 ⟨rfl, he⟩
      show VC fs ms _ _ _ _ _ _
      refine vc_slots 4 _ he (vc_seq true ?_)
      unfold smE
      set_option smartUnfolding false in conv => whnf
      refine vc_block ?_
      refine sm_in (k := k) (k' := k') hlt hlt' e3 hlx ?_ _ 0 h2 _ rfl (Nat.zero_le _) (by repeat' (first | exact trivial | refine And.intro (by first | with_reducible_and_instances rfl | (refine Eq.trans (b := some (AV.int .i64 _)) rfl (congrArg (fun z => some (AV.int .i64 z)) ?_); first | omega | (simp (disch := omega) only [IntWalk.i64_in] <;> omega)) | rfl) ?_))
      intro e3 h3 he3
      show VC fs ms _ _ _ _ _ _
      refine vc_slots 4 _ he3 (vpC_sound (z := true) ?_)
      unfold smE
      set_option smartUnfolding false in conv => whnf
      exact ih (A.length - (i + 1)) (by omega) (i + 1) h3 _ rfl (by omega) (by repeat' (first | exact trivial | refine And.intro (by first | with_reducible_and_instances rfl | (refine Eq.trans (b := some (AV.int .i64 _)) rfl (congrArg (fun z => some (AV.int .i64 z)) ?_); first | omega | (simp (disch := omega) only [IntWalk.i64_in] <;> omega)) | rfl) ?_))
  · exact hQ _ _
theorem same30_c (k k' : Nat) {A B : List Pt} (hE : Eqv A B) (hA : A.length < 2 ^ 60) (hl : ∀ x ∈ A, x.ts.length < 2 ^ 60) : PC fs ms f_escapementref30_Same [.fz k (pts A), .fz k' (pts B)] (.bool true) := by
  refine pc_of (by simp [clL, AV.cl, cl_pts]) rfl ?_
  generalize hK : (fun (u : AV) (_ : Heap) => u = .bool true) = K
  have hKt : ∀ h, K (.bool true) h := fun h => by subst hK; rfl
  clear hK
  generalize (⟨0, .nil⟩ : Heap) = h0
  refine vd_begin (af := C_escapementref30_Same) rfl (Nat.le_of_ble_eq_true rfl) ?_
  set_option smartUnfolding false in conv => whnf
  refine vc_seq true ?_
  set_option smartUnfolding false in conv => whnf
  refine vc_seq true ?_
  set_option smartUnfolding false in conv => whnf
  rw [len_pts, len_pts, hE.1]
  rw [show (((B.length : Nat) : Int) != ((B.length : Nat) : Int)) = false by simp]
  set_option smartUnfolding false in conv => whnf
  refine vc_seqV (vc_seq true ?_)
  set_option smartUnfolding false in conv => whnf
  refine vc_block ?_
  refine sm_out (k := k) (k' := k') hE hA hl ?_ _ 0 h0 _ rfl (Nat.zero_le _) (by repeat' (first | exact trivial | refine And.intro (by first | with_reducible_and_instances rfl | (refine Eq.trans (b := some (AV.int .i64 _)) rfl (congrArg (fun z => some (AV.int .i64 z)) ?_); first | omega | (simp (disch := omega) only [IntWalk.i64_in] <;> omega)) | rfl) ?_))
  intro e' h'
  show VC fs ms _ _ _ _ _ _
  refine vc_slots 4 [] trivial (vpC_sound (z := true) ?_)
  set_option smartUnfolding false in conv => whnf
  exact hKt _
end Ir
end Go.Proofs.Ytepdklcpagielaa
