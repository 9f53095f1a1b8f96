/-
  Gate: fewer pass, too.
-/
import Derived.Test.YtecdcefacdodgaaVGatN
set_option maxRecDepth 100000
set_option linter.unusedSimpArgs false
set_option linter.unusedVariables false
namespace Go.Proofs.Ytecdcefacdodgaa
open Go Ads
namespace Ir

/- What servers share, by weights. -/
def wt (x : Pt) : Int := x.bud * (2520 / x.per)
def sumWt : List Pt → Int
  | [] => 0
  | x :: l => wt x + sumWt l
theorem sumWt_app : ∀ l m : List Pt, sumWt (l ++ m) = sumWt l + sumWt m
  | [], m => by simp [sumWt]
  | x :: l, m => by simp only [List.cons_append, sumWt, sumWt_app l m]; omega
/-- Periods that divide 2520. -/
def Short (x : Pt) : Prop := 1 ≤ x.per ∧ x.per ≤ 10 ∧ 1 ≤ x.bud ∧ x.bud ≤ x.per
theorem short_div {d : Int} (h1 : 1 ≤ d) (h2 : d ≤ 10) : 2520 / d * d = 2520 := by
  have : d = 1 ∨ d = 2 ∨ d = 3 ∨ d = 4 ∨ d = 5 ∨ d = 6 ∨ d = 7 ∨ d = 8 ∨ d = 9 ∨ d = 10 := by omega
  rcases this with rfl | rfl | rfl | rfl | rfl | rfl | rfl | rfl | rfl | rfl <;> decide
theorem wt_per {x : Pt} (h : Short x) : wt x * x.per = x.bud * 2520 := by
  unfold wt
  rw [Int.mul_assoc, short_div h.1 h.2.1]
theorem short_ok {x : Pt} (h : Short x) : shareOk x = true := (shareOk_iff x).2 ⟨by have := h.2.1; omega, h.2.2.1, h.2.2.2⟩

theorem fplus_wt {p : Int × Int} {t d W w : Int} (h1 : p.1 * 2520 = p.2 * W) (hp1 : 0 ≤ p.1) (hp2 : 1 ≤ p.2) (ht : 0 ≤ t) (hd : 1 ≤ d) (hw : w * d = t * 2520) : (fplus p t d).1 * 2520 = (fplus p t d).2 * (W + w) := by
  obtain ⟨a, b⟩ := p
  simp only at h1 hp1 hp2
  have m1 := Int.mul_nonneg hp1 (show 0 ≤ d by omega)
  have m2 := Int.mul_nonneg ht (show 0 ≤ b by omega)
  have m4 := pos_mul hp2 hd
  have hT : 0 ≤ topS a b t d := by unfold topS; omega
  have hgp : 0 < Nat.gcd (topS a b t d).toNat (b * d).toNat := Nat.gcd_pos_of_pos_right _ (by omega)
  have hg : gS a b t d = (Nat.gcd (topS a b t d).toNat (b * d).toNat : Nat) := rfl
  have d1 : gS a b t d ∣ topS a b t d := by
    rw [hg, show topS a b t d = (((topS a b t d).toNat : Nat) : Int) by omega]
    exact Int.ofNat_dvd.2 (Nat.gcd_dvd_left _ _)
  have d2 : gS a b t d ∣ b * d := by
    rw [hg, show b * d = (((b * d).toNat : Nat) : Int) by omega]
    exact Int.ofNat_dvd.2 (Nat.gcd_dvd_right _ _)
  have e1 := Int.mul_ediv_cancel' d1
  have e2 := Int.mul_ediv_cancel' d2
  show topS a b t d / gS a b t d * 2520 = b * d / gS a b t d * (W + w)
  have hg0 : gS a b t d ≠ 0 := by omega
  generalize gS a b t d = g at *
  generalize topS a b t d / g = x at *
  generalize b * d / g = y at *
  refine Int.eq_of_mul_eq_mul_left hg0 ?_
  rw [← Int.mul_assoc, e1, ← Int.mul_assoc, e2]
  unfold topS
  have c1 : (a * d + t * b) * 2520 = (a * 2520) * d + (t * 2520) * b := by
    rw [Int.add_mul, Int.mul_right_comm, Int.mul_right_comm t]
  rw [c1, h1, ← hw, Int.mul_add]
  have c2 : b * W * d = b * d * W := Int.mul_right_comm ..
  have c3 : w * d * b = b * d * w := by rw [Int.mul_comm (w * d) b, Int.mul_comm w d, Int.mul_assoc]
  rw [c2, c3]
theorem acc_wt {L : List Pt} (h : ∀ x, x ∈ L → Short x) : ∀ j, j ≤ L.length → (accS L j).1 * 2520 = (accS L j).2 * sumWt (L.take j) ∧ AccIn (accS L j) j
  | 0, _ => by simp [accS, sumWt, AccIn, bdA, bdB]
  | j + 1, hj => by
    obtain ⟨ih1, ih2⟩ := acc_wt h j (by omega)
    have hx := h _ (List.getElem_mem (show j < L.length by omega))
    rw [accS_next (by omega), take_next (by omega), sumWt_app]
    have h1 := hx.1
    have h2 := hx.2.1
    have h3 := hx.2.2.1
    have h4 := hx.2.2.2
    have hw := wt_per hx
    have he : sumWt [L[j]] = wt L[j] := by simp [sumWt]
    rw [he]
    exact ⟨fplus_wt ih1 ih2.1 ih2.2.2.1 (by omega) h1 hw, acc_next ih2 ⟨by omega, by omega⟩ ⟨by omega, by omega⟩⟩
theorem sumR_short {L : List Pt} (h : ∀ x, x ∈ L → Short x) (h4 : L.length ≤ 4) : sumR L = (accS L L.length, true) := by
  rw [sumR, if_neg (by omega)]
  cases hfb : firstBad (shareBad L) 0 L.length with
  | none => rfl
  | some u =>
    obtain ⟨u1, u2, u3, u4⟩ := firstBad_some hfb
    rw [shareBad_eq (by omega), short_ok (h _ (List.getElem_mem (by omega)))] at u3
    exact absurd u3 (by decide)
/-- Servers share no more than there is. -/
theorem shareT_short {L : List Pt} (h : ∀ x, x ∈ L → Short x) (h4 : L.length ≤ 4) : shareT L = 0 ↔ sumWt L ≤ 2520 := by
  obtain ⟨h1, h2⟩ := acc_wt h L.length (Nat.le_refl _)
  rw [List.take_length] at h1
  have hs := sumR_short h h4
  unfold shareT
  rw [hs]
  simp only [if_true]
  obtain ⟨i1, i2, i3, i5⟩ := h2
  generalize accS L L.length = p at *
  obtain ⟨a, b⟩ := p
  simp only at h1 i1 i3
  generalize sumWt L = W at *
  constructor
  · intro h
    have hab : a ≤ b := by
      by_cases c : b < a
      · rw [if_pos c] at h; exact absurd h (by decide)
      · omega
    have : b * W ≤ b * 2520 := by
      rw [← h1]
      exact Int.mul_le_mul_of_nonneg_right hab (by omega)
    exact Int.le_of_mul_le_mul_left this (by omega)
  · intro h
    have : a * 2520 ≤ b * 2520 := by
      rw [h1]
      exact Int.mul_le_mul_of_nonneg_left h (by omega)
    have := Int.le_of_mul_le_mul_right this (by omega)
    rw [if_neg (by show ¬ b < a; omega)]
end Ir
end Go.Proofs.Ytecdcefacdodgaa
