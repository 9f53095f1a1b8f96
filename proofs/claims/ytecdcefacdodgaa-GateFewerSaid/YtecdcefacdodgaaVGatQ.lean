/-
  GateFewer.
-/
import Derived.Test.YtecdcefacdodgaaVGatP
import Derived.Test.YtecdcefacdodgaaVGatW
import Derived.Test.YtecdcefacdodgaaVDelT
set_option maxRecDepth 100000
set_option linter.unusedSimpArgs false
set_option linter.unusedVariables false
namespace Go.Proofs.Ytecdcefacdodgaa
open Go Ads
namespace Ir

theorem wt_nonneg {x : Pt} (h : Short x) : 0 ≤ wt x := by
  have h1 := h.1
  have h3 := h.2.2.1
  exact Int.mul_nonneg (by omega) (Int.ediv_nonneg (by omega) (by omega))
theorem sel_less {M : List Pt} {w w' : List Bool} (hM : ∀ x, x ∈ M → Short x) (hw : w.length = M.length) (hw' : w'.length = M.length) (hle : ∀ (i : Nat) (h : i < w.length) (h' : i < w'.length), w'[i] = true → w[i] = true) :
    ∀ j, j ≤ M.length → sumWt (selP M w' j) ≤ sumWt (selP M w j) ∧ ∀ x, x ∈ selP M w' j → x ∈ selP M w j
  | 0, _ => ⟨Int.le_refl _, fun x hx => hx⟩
  | j + 1, hj => by
    obtain ⟨i1, i2⟩ := sel_less hM hw hw' hle j (by omega)
    have hx := wt_nonneg (hM _ (List.getElem_mem (show j < M.length by omega)))
    have hj1 : j < w.length := by omega
    have hj2 : j < w'.length := by omega
    have hle := hle j hj1 hj2
    have he : sumWt [M[j]] = wt M[j] := by simp [sumWt]
    cases h1 : w'[j] with
    | true =>
      rw [selP_yes (by omega) hj2 h1, selP_yes (by omega) hj1 (hle h1), sumWt_app, sumWt_app]
      refine ⟨by omega, fun x hx => ?_⟩
      rcases List.mem_append.1 hx with hx | hx
      · exact List.mem_append_left _ (i2 x hx)
      · exact List.mem_append_right _ hx
    | false =>
      rw [selP_no (by omega) hj2 h1]
      cases h2 : w[j] with
      | true =>
        rw [selP_yes (by omega) hj1 h2, sumWt_app]
        exact ⟨by omega, fun x hx => List.mem_append_left _ (i2 x hx)⟩
      | false =>
        rw [selP_no (by omega) hj1 h2]
        exact ⟨i1, i2⟩
theorem sel_none {M : List Pt} {w : List Bool} (hw : w.length = M.length) (h : ∀ (i : Nat) (h : i < w.length), w[i] = false) : ∀ j, j ≤ M.length → selP M w j = []
  | 0, _ => rfl
  | j + 1, hj => by rw [selP_no (by omega) (by omega) (h j (by omega)), sel_none hw h j (by omega)]

def notB (n m : Int) : Int := IntKind.i64.wrap ((BitVec.ofInt 64 n &&& ~~~ BitVec.ofInt 64 m).toNat : Int)
theorem who_fin : ∀ a : Fin 16, ∀ b : Fin 16, ∀ i : Fin 4, whoB (notB ((a.val : Nat) : Int) ((b.val : Nat) : Int)) i.val = true → whoB ((a.val : Nat) : Int) i.val = true := by decide +kernel
theorem who_zero : ∀ i : Fin 4, whoB 0 i.val = false := by decide +kernel
theorem who_less {n m : Int} (h1 : 0 ≤ n ∧ n < 16) (h2 : 0 ≤ m ∧ m < 16) {i : Nat} (hi : i < 4) (h : whoB (notB n m) i = true) : whoB n i = true := by
  have := who_fin ⟨n.toNat, by omega⟩ ⟨m.toNat, by omega⟩ ⟨i, hi⟩
  simp only [show ((n.toNat : Nat) : Int) = n by omega, show ((m.toNat : Nat) : Int) = m by omega] at this
  exact this h
theorem whoL_get {n : Int} {m i : Nat} (h : i < (whoL n m).length) : (whoL n m)[i] = whoB n i := by simp [whoL]

/-- What the statement asks. -/
theorem fewer {M : List Pt} (hM : ∀ x, x ∈ M → Plain x) (h4 : M.length ≤ 4) {n m : Int} (h1 : 0 ≤ n ∧ n < 16) (h2 : 0 ≤ m ∧ m < 16) (hne : 1 ≤ M.length) :
    (gateS M (whoL 0 M.length)).2.2 = 0 ∧ ((gateS M (whoL n M.length)).2.2 = 0 → (gateS M (whoL (notB n m) M.length)).2.2 = 0) := by
  have hl := fun n => whoL_len n M.length
  constructor
  · rw [gate_plain hM hne h4 (hl 0), sel_none (hl 0) (fun i hi => by rw [whoL_get hi]; rw [hl] at hi; exact who_zero ⟨i, by omega⟩) _ (Nat.le_refl _)]
    exact ⟨by decide, fun x hx => by simp at hx⟩
  · rw [gate_plain hM hne h4 (hl n), gate_plain hM hne h4 (hl (notB n m))]
    obtain ⟨i1, i2⟩ := sel_less (fun x hx => (hM x hx).2.2.1) (hl n) (hl (notB n m)) (fun i hi hi' h => by
      rw [whoL_get hi'] at h
      rw [whoL_get hi]
      rw [hl] at hi
      exact who_less h1 h2 (by omega) h) M.length (Nat.le_refl _)
    exact fun ⟨a1, a2⟩ => ⟨by omega, fun x hx => a2 x (i2 x hx)⟩
theorem gate_empty (w : List Bool) : gateS [] w = (0, 0, 50) := by
  have : askedS [] w = 50 := by rw [askedS, if_neg (by simp [confC])]
  rw [gateS, this, if_pos (by omega)]

theorem gateFewer_c (k : Nat) (l : List Pt) (n m : Int) (hs : Small l) : PC fs ms f_escapementlaw12_GateFewer [.fz k (pts l), .int .i64 n, .int .i64 m] (.bool true) := by
  refine pc_of (by simp [clL, AV.cl, cl_pts]) rfl ?_
  refine vd_begin (af := C_escapementlaw12_GateFewer) rfl (Nat.le_of_ble_eq_true rfl) ?_
  generalize hQ : (fun (v : AV) (_ : Heap) => v = .bool true) = Q
  have hM := m12Ps_plain (l := l)
  have hM4 : (m12Ps l).length ≤ 4 := by simp [m12Ps]; omega
  have hMs : Small (m12Ps l) := by
    refine ⟨by omega, fun x hx => ?_⟩
    obtain ⟨y, rfl⟩ := m12Ps_mem hx
    have := (m12P_ok y).2.2.2.2
    omega
  have hmade := made12_c k l hs
  generalize m12Ps l = M at *
  generalize growK M.length = K at *
  have hn1 := Int.emod_nonneg n (show (16 : Int) ≠ 0 by omega)
  have hn2 := Int.emod_lt_of_pos n (show (0 : Int) < 16 by omega)
  have hm1 := Int.emod_nonneg m (show (16 : Int) ≠ 0 by omega)
  have hm2 := Int.emod_lt_of_pos m (show (0 : Int) < 16 by omega)
  have hbn := bring_c n 16 (by omega) (by omega)
  have hbm := bring_c m 16 (by omega) (by omega)
  rw [show bring n 16 = n % 16 from rfl] at hbn
  rw [show bring m 16 = m % 16 from rfl] at hbm
  have hfew := fewer hM hM4 ⟨hn1, hn2⟩ ⟨hm1, hm2⟩
  generalize n % 16 = a at *
  generalize m % 16 = b at *
  have hwho := fun n => who_c K M n hMs (by omega)
  have t1 := gateTest_c K (growK M.length) M (whoL a M.length) hMs
  have t2 := gateTest_c K (growK M.length) M (whoL (notB a b) M.length) hMs
  have t3 := gateTest_c K (growK M.length) M (whoL 0 M.length) hMs
  have hemp : M.length = 0 → gateS M (whoL a M.length) = (0, 0, 50) ∧ gateS M (whoL (notB a b) M.length) = (0, 0, 50) := by
    intro h
    have : M = [] := List.length_eq_zero_iff.1 h
    subst this
    exact ⟨gate_empty _, gate_empty _⟩
  have w1 := hwho a
  have w2 := hwho (notB a b)
  have w3 := hwho 0
  clear hwho
  generalize gateS M (whoL a M.length) = q1 at *
  generalize gateS M (whoL (notB a b) M.length) = q2 at *
  generalize gateS M (whoL 0 M.length) = q3 at *
  obtain ⟨a1, a2, a3⟩ := q1
  obtain ⟨b1, b2, b3⟩ := q2
  obtain ⟨c1, c2, c3⟩ := q3
  set_option smartUnfolding false in conv => whnf
  refine vc_seq false ?_
  set_option smartUnfolding false in conv => whnf
  refine vc_seq false ?_
  set_option smartUnfolding false in conv => whnf
  refine vd_pure (v := .agg [.fz K (pts M), .nils]) hmade ?_
  set_option smartUnfolding false in conv => whnf
  refine vc_frz [0] (i := 7) (v' := .fp [.fz K (pts M), .nils] 0) rfl (.ptr' (by simp) rfl (.clean (show clL [.fz K (pts M), .nils] = true by simp [clL, AV.cl, cl_pts]))) ?_
  refine vc_to0 5 [(1, .int .i64 n), (2, .int .i64 m), (7, .fp [.fz K (pts M), .nils] 0)] ?_ ?_
  · exact ⟨⟨_, rfl, .cl rfl⟩, ⟨_, rfl, .cl rfl⟩, ⟨_, rfl, .cl (by simp [AV.cl, clL, cl_pts])⟩, trivial⟩
  refine vpC_sound (z := false) ?_
  set_option smartUnfolding false in conv => whnf
  refine vd_pure (hbn) ?_
  set_option smartUnfolding false in conv => whnf
  refine vd_pure (hbm) ?_
  set_option smartUnfolding false in conv => whnf
  refine vd_pure w1 ?_
  set_option smartUnfolding false in conv => whnf
  refine vd_pure (v := .tup [.int .i64 a1, .int .i64 a2, .int .i64 a3]) t1 ?_
  set_option smartUnfolding false in conv => whnf
  refine ⟨winOk_of (by (set_option smartUnfolding false in conv => whnf); repeat' (first | exact trivial | (exact ⟨rfl, rfl, .inr ⟨_, _, rfl⟩⟩) | (refine ⟨rfl, rfl, .inl ⟨rfl, fun o ho => ?_⟩⟩; cases ho; first | rfl) | (exact ⟨rfl, .inr ⟨_, _, rfl⟩⟩) | (refine ⟨rfl, .inl ⟨rfl, fun i o hi ho => ?_⟩⟩; cases hi; cases ho; first | rfl) | (refine And.intro (fun _ => ?_) ?_ <;> set_option smartUnfolding false in conv => whnf) | (refine And.intro ?_ ?_ <;> set_option smartUnfolding false in conv => whnf))), ?_⟩
  set_option smartUnfolding false in conv => whnf
  refine vd_pure w2 ?_
  set_option smartUnfolding false in conv => whnf
  refine vd_pure (v := .tup [.int .i64 b1, .int .i64 b2, .int .i64 b3]) t2 ?_
  set_option smartUnfolding false in conv => whnf
  refine ⟨winOk_of (by (set_option smartUnfolding false in conv => whnf); repeat' (first | exact trivial | (exact ⟨rfl, rfl, .inr ⟨_, _, rfl⟩⟩) | (refine ⟨rfl, rfl, .inl ⟨rfl, fun o ho => ?_⟩⟩; cases ho; first | rfl) | (exact ⟨rfl, .inr ⟨_, _, rfl⟩⟩) | (refine ⟨rfl, .inl ⟨rfl, fun i o hi ho => ?_⟩⟩; cases hi; cases ho; first | rfl) | (refine And.intro (fun _ => ?_) ?_ <;> set_option smartUnfolding false in conv => whnf) | (refine And.intro ?_ ?_ <;> set_option smartUnfolding false in conv => whnf))), ?_⟩
  set_option smartUnfolding false in conv => whnf
  rw [len_pts]
  by_cases h0 : M.length = 0
  · obtain ⟨e1, e2⟩ := hemp h0
    simp only [Prod.mk.injEq] at e1 e2
    obtain ⟨rfl, rfl, rfl⟩ := e1
    obtain ⟨rfl, rfl, rfl⟩ := e2
    refine brt (by rw [h0]; rfl) (fun hc => ?_)
    (try rw [hc])
    set_option smartUnfolding false in conv => whnf
    refine vd_pure (works12_c) ?_
    set_option smartUnfolding false in conv => whnf
    subst hQ
    rfl
  · refine brf (by exact beq_eq_false_iff_ne.2 (by omega)) (fun hc => ?_)
    (try rw [hc])
    set_option smartUnfolding false in conv => whnf
    refine vd_pure w3 ?_
    set_option smartUnfolding false in conv => whnf
    refine vd_pure (v := .tup [.int .i64 c1, .int .i64 c2, .int .i64 c3]) t3 ?_
    set_option smartUnfolding false in conv => whnf
    refine ⟨winOk_of (by (set_option smartUnfolding false in conv => whnf); repeat' (first | exact trivial | (exact ⟨rfl, rfl, .inr ⟨_, _, rfl⟩⟩) | (refine ⟨rfl, rfl, .inl ⟨rfl, fun o ho => ?_⟩⟩; cases ho; first | rfl) | (exact ⟨rfl, .inr ⟨_, _, rfl⟩⟩) | (refine ⟨rfl, .inl ⟨rfl, fun i o hi ho => ?_⟩⟩; cases hi; cases ho; first | rfl) | (refine And.intro (fun _ => ?_) ?_ <;> set_option smartUnfolding false in conv => whnf) | (refine And.intro ?_ ?_ <;> set_option smartUnfolding false in conv => whnf))), ?_⟩
    set_option smartUnfolding false in conv => whnf
    obtain ⟨f1, f2⟩ := hfew (by omega)
    simp only at f1 f2
    subst f1
    set_option smartUnfolding false in conv => whnf
    by_cases g0 : a3 = 0
    · have g1 := f2 g0
      subst g0 g1
      set_option smartUnfolding false in conv => whnf
      refine vd_pure (works12_c) ?_
      set_option smartUnfolding false in conv => whnf
      subst hQ
      rfl
    · refine brt (by simpa using g0) (fun hc => ?_)
      (try rw [hc])
      set_option smartUnfolding false in conv => whnf
      refine vd_pure (works12_c) ?_
      set_option smartUnfolding false in conv => whnf
      subst hQ
      rfl
end Ir
end Go.Proofs.Ytecdcefacdodgaa
