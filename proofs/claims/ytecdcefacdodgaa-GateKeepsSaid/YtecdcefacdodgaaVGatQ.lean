/-
  GateFewer.
-/
import Derived.Test.YtecdcefacdodgaaVGatR
import Derived.Test.YtecdcefacdodgaaVGatW
import Derived.Test.YtecdcefacdodgaaVDelT
set_option maxRecDepth 100000
set_option linter.unusedSimpArgs false
set_option linter.unusedVariables false
namespace Go.Proofs.Ytecdcefacdodgaa
open Go Ads
namespace Ir

theorem wt_nonneg {x : Pt} (h : Short x) : 0 ≤ wt x := by
  have h1 := h.1
  have h3 := h.2.2.1
  exact Int.mul_nonneg (by omega) (Int.ediv_nonneg (by omega) (by omega))
theorem sel_less {M : List Pt} {w w' : List Bool} (hM : ∀ x, x ∈ M → Short x) (hw : w.length = M.length) (hw' : w'.length = M.length) (hle : ∀ (i : Nat) (h : i < w.length) (h' : i < w'.length), w'[i] = true → w[i] = true) :
    ∀ j, j ≤ M.length → sumWt (selP M w' j) ≤ sumWt (selP M w j) ∧ ∀ x, x ∈ selP M w' j → x ∈ selP M w j
  | 0, _ => ⟨Int.le_refl _, fun x hx => hx⟩
  | j + 1, hj => by
    obtain ⟨i1, i2⟩ := sel_less hM hw hw' hle j (by omega)
    have hx := wt_nonneg (hM _ (List.getElem_mem (show j < M.length by omega)))
    have hj1 : j < w.length := by omega
    have hj2 : j < w'.length := by omega
    have hle := hle j hj1 hj2
    have he : sumWt [M[j]] = wt M[j] := by simp [sumWt]
    cases h1 : w'[j] with
    | true =>
      rw [selP_yes (by omega) hj2 h1, selP_yes (by omega) hj1 (hle h1), sumWt_app, sumWt_app]
      refine ⟨by omega, fun x hx => ?_⟩
      rcases List.mem_append.1 hx with hx | hx
      · exact List.mem_append_left _ (i2 x hx)
      · exact List.mem_append_right _ hx
    | false =>
      rw [selP_no (by omega) hj2 h1]
      cases h2 : w[j] with
      | true =>
        rw [selP_yes (by omega) hj1 h2, sumWt_app]
        exact ⟨by omega, fun x hx => List.mem_append_left _ (i2 x hx)⟩
      | false =>
        rw [selP_no (by omega) hj1 h2]
        exact ⟨i1, i2⟩
theorem sel_none {M : List Pt} {w : List Bool} (hw : w.length = M.length) (h : ∀ (i : Nat) (h : i < w.length), w[i] = false) : ∀ j, j ≤ M.length → selP M w j = []
  | 0, _ => rfl
  | j + 1, hj => by rw [selP_no (by omega) (by omega) (h j (by omega)), sel_none hw h j (by omega)]

def notB (n m : Int) : Int := IntKind.i64.wrap ((BitVec.ofInt 64 n &&& ~~~ BitVec.ofInt 64 m).toNat : Int)
theorem who_fin : ∀ a : Fin 16, ∀ b : Fin 16, ∀ i : Fin 4, whoB (notB ((a.val : Nat) : Int) ((b.val : Nat) : Int)) i.val = true → whoB ((a.val : Nat) : Int) i.val = true := by decide +kernel
theorem who_zero : ∀ i : Fin 4, whoB 0 i.val = false := by decide +kernel
theorem who_less {n m : Int} (h1 : 0 ≤ n ∧ n < 16) (h2 : 0 ≤ m ∧ m < 16) {i : Nat} (hi : i < 4) (h : whoB (notB n m) i = true) : whoB n i = true := by
  have := who_fin ⟨n.toNat, by omega⟩ ⟨m.toNat, by omega⟩ ⟨i, hi⟩
  simp only [show ((n.toNat : Nat) : Int) = n by omega, show ((m.toNat : Nat) : Int) = m by omega] at this
  exact this h
theorem whoL_get {n : Int} {m i : Nat} (h : i < (whoL n m).length) : (whoL n m)[i] = whoB n i := by simp [whoL]

/-- What the statement asks. -/
theorem fewer {M : List Pt} (hM : ∀ x, x ∈ M → Plain x) (h4 : M.length ≤ 4) {n m : Int} (h1 : 0 ≤ n ∧ n < 16) (h2 : 0 ≤ m ∧ m < 16) (hne : 1 ≤ M.length) :
    (gateS M (whoL 0 M.length)).2.2 = 0 ∧ ((gateS M (whoL n M.length)).2.2 = 0 → (gateS M (whoL (notB n m) M.length)).2.2 = 0) := by
  have hl := fun n => whoL_len n M.length
  constructor
  · rw [gate_plain hM hne h4 (hl 0), sel_none (hl 0) (fun i hi => by rw [whoL_get hi]; rw [hl] at hi; exact who_zero ⟨i, by omega⟩) _ (Nat.le_refl _)]
    exact ⟨by decide, fun x hx => by simp at hx⟩
  · rw [gate_plain hM hne h4 (hl n), gate_plain hM hne h4 (hl (notB n m))]
    obtain ⟨i1, i2⟩ := sel_less (fun x hx => (hM x hx).2.2.1) (hl n) (hl (notB n m)) (fun i hi hi' h => by
      rw [whoL_get hi'] at h
      rw [whoL_get hi]
      rw [hl] at hi
      exact who_less h1 h2 (by omega) h) M.length (Nat.le_refl _)
    exact fun ⟨a1, a2⟩ => ⟨by omega, fun x hx => a2 x (i2 x hx)⟩
theorem gate_empty (w : List Bool) : gateS [] w = (0, 0, 50) := by
  have : askedS [] w = 50 := by rw [askedS, if_neg (by simp [confC])]
  rw [gateS, this, if_pos (by omega)]

end Ir
end Go.Proofs.Ytecdcefacdodgaa
