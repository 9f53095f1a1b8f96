/-
  DelayGrows: what one partition more does.
-/
import Derived.Test.YtbmnehpppegecaaVDelP
import Derived.Test.YtbmnehpppegecaaVDelS
set_option maxRecDepth 100000
set_option linter.unusedSimpArgs false
set_option linter.unusedVariables false
namespace Go.Proofs.Ytbmnehpppegecaa
open Go Ads
namespace Ir

/-- All that the statement asks about one partition. -/
theorem grows_all {l : List Pt} {y : Pt} (h : delCheck l = 0) (hb : delCheck (l ++ [y]) = 0) (a : Nat) (ha : a < l.length) (n : Int) :
    ofN l (a : Nat) n l[a].ts l[a].ts.length ≤ ofN (l ++ [y]) (a : Nat) n l[a].ts l[a].ts.length ∧
    (shares l[a] y = false → ofN l (a : Nat) n l[a].ts l[a].ts.length = ofN (l ++ [y]) (a : Nat) n l[a].ts l[a].ts.length ∧ moreL (l ++ [y]) a = moreL l a) ∧
    (∀ (k : Nat) (hk : k < l[a].ts.length), (∃ (h1 : k < (moreL l a).length) (h2 : k < (moreL (l ++ [y]) a).length), (moreL l a)[k] ≤ (moreL (l ++ [y]) a)[k]) ∧
      waitS l (a : Nat) l[a].ts[k] ≤ waitS (l ++ [y]) (a : Nat) l[a].ts[k] ∧ waitS (l ++ [y]) (a : Nat) l[a].ts[k] ≤ waitS l (a : Nat) l[a].ts[k] + 2 * y.per) := by
  have hx : l[a] ∈ l := List.getElem_mem ha
  have hyp := ((ok_in hb).2 y (by simp)).1
  unfold partIn at hyp
  have hm1 : moreL l a = l[a].ts.map (moreOne l (a : Nat)) := by rw [moreL, List.getElem?_eq_getElem ha]
  have hm2 : moreL (l ++ [y]) a = l[a].ts.map (moreOne (l ++ [y]) (a : Nat)) := by rw [moreL, List.getElem?_append_left ha, List.getElem?_eq_getElem ha]
  refine ⟨ofN_big (fun t ht => (by_mono h hb a ha hx (by omega) ht).1) _ (Nat.le_refl _), ?_, ?_⟩
  · intro hs
    have hn : ∀ t, t ∈ l[a].ts → ¬ (t.c > 0 ∧ usesP y t.c = true) := by
      intro t ht hz
      rw [shares, List.any_eq_false] at hs
      exact hs t ht (by rw [decide_eq_true hz.1, hz.2]; rfl)
    refine ⟨(ofN_same (fun t ht => (by_mono h hb a ha hx (by omega) ht).2 (hn t ht)) _ (Nat.le_refl _)).symm, ?_⟩
    rw [hm1, hm2]
    exact List.map_congr_left fun t ht => (more_mono h hb a ha hx (by omega) ht).2 (hn t ht)
  · intro k hk
    refine ⟨⟨by simp [hm1, hk], by simp [hm2, hk], ?_⟩, ?_, ?_⟩
    · simp only [hm1, hm2, List.getElem_map]
      exact (more_mono h hb a ha hx (by omega) (List.getElem_mem hk)).1
    · rw [waitS_big hb a ha]; split <;> omega
    · rw [waitS_big hb a ha]; split <;> omega

theorem dWait_ok {l : List Pt} (h : delCheck l = 0) {i : Nat} (hi : i < l.length) {k : Nat} (hk : k < l[i].ts.length) : dWait l (i : Nat) (k : Nat) = (waitS l (i : Nat) l[i].ts[k], 0) := by
  rw [dWait, if_neg (by omega), if_neg (by omega), show ((i : Int)).toNat = i from rfl, List.getElem?_eq_getElem hi]
  simp only
  rw [if_neg (by omega), show ((k : Int)).toNat = k from rfl, List.getElem?_eq_getElem hk]
end Ir
end Go.Proofs.Ytbmnehpppegecaa
