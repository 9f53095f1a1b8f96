/-
  The contracts of tick: are all numbers of a row ticks?
-/
import Derived.Test.YtflmbknimebmnaaIrLink
import Derived.Test.YtflmbknimebmnaaAdsWp
import Derived.IntWalk
set_option maxRecDepth 100000
namespace Go.Proofs.Ytflmbknimebmnaa
open Go Ads
namespace Ir
def isTick (n : Int) : Bool := decide (0 ≤ n) && decide (n ≤ 1099511627776)
/-- The body of a function's loop. -/
def lp28 : AC := match C28.body with
  | .seq _ (.seq (.seq _ (.block _ (.loop c))) _) => c
  | _ => .skip
theorem tick_loop (l : List Int) (b o cap : Nat) (op : Bool) (h : Heap) (hlen : l.length < 2 ^ 62) (hrow : ∀ i (hi : i < l.length), h.load1 b (o + i * 1) = some (.int .i64 l[i])) (Q : AX → Env → Heap → Prop) :
   ∀ (r k : Nat), k + r = l.length → ∀ g, 
    ((l.drop k).all isTick = true → ∀ g, Q (.exit 0) (sk 5 g) h) → ((l.drop k).all isTick = false → ∀ g, Q .ret (sk 5 (kn [(2, .bool false)] g)) h) →
    Ads.Comes fs ms false (.loop lp28) (sk 5 (kn [(5, .sl b o l.length cap op), (6, .int .i64 l.length), (7, .int .i64 k)] g)) h Q := by
  intro r
  induction r with
  | zero =>
    intro k hk g h1 h2
    refine comes_loop ?_
    conv => whnf
    refine br (fun hc => ?_) (fun hc => ?_)
    · simp at hc; omega
    · conv => whnf
      refine to_kn (P := fun e => Q (.exit 0) e h) 5 [] rfl trivial ?_
      exact h1 (by rw [List.drop_eq_nil_of_le (by omega)]; rfl)
  | succ r ih =>
    intro k hk g h1 h2
    have hkl : k < l.length := by omega
    have hd : l.drop k = l[k] :: l.drop (k + 1) := List.drop_eq_getElem_cons hkl
    refine comes_loop ?_
    conv => whnf
    refine br (fun hc => ?_) (fun hc => ?_)
    · conv => whnf
      have hble : Nat.ble (k + 1) l.length = true := Nat.ble_eq_true_of_le (by omega)
      refine ⟨.ptr b (o + k * 1), by simp [pIF, l2, dSl, dNat, asNat, hble], ?_⟩
      conv => whnf
      refine ⟨_, hrow k hkl, ?_⟩
      conv => whnf
      iterate 3 (all_goals (first | (refine br (fun hc => ?_) (fun hc => ?_) <;> (try rw [hc]) <;> (conv => whnf)) | skip))
      all_goals (try (simp at *; done))
      all_goals (try (simp at *; omega))
      · refine to_kn (P := fun e => Q .ret e h) 5 [(2, .bool false)] ?_ ?_ ?_
        · rfl
        · exact ⟨rfl, trivial⟩
        · exact h2 (by rw [hd]; simp at hc; simp only [List.all_cons, isTick, Bool.and_eq_false_iff]; simp; omega)
      · refine to_kn (P := fun e => Q .ret e h) 5 [(2, .bool false)] ?_ ?_ ?_
        · rfl
        · exact ⟨rfl, trivial⟩
        · exact h2 (by rw [hd]; simp at hc; simp only [List.all_cons, isTick, Bool.and_eq_false_iff]; simp; omega)
      · rename_i hc0
        simp at hc hc0
        refine comes_kn 5 [(5, .sl b o l.length cap op), (6, .int .i64 l.length), (7, .int .i64 (k + 1 : Nat))] ?_ ?_ ?_
        · rfl
        · refine ⟨rfl, ?_, ?_, trivial⟩
          · rfl
          · show some (AV.int _ _) = _
            rw [IntWalk.i64_in _ (by omega)]
            rfl
        · intro g
          refine ih (k + 1) (by omega) g (fun ha => h1 ?_) (fun ha => h2 ?_)
          · rw [hd, List.all_cons, ha]; simp [isTick, hc]; omega
          · rw [hd]; simp only [List.all_cons, ha, Bool.and_false]
    · simp at hc; omega

theorem tick_c (l : List Int) (b o cap : Nat) (op : Bool) (h : Heap) (hlen : l.length < 2 ^ 62) (hrow : ∀ i (hi : i < l.length), h.load1 b (o + i * 1) = some (.int .i64 l[i])) :
    Calld fs ms 28 [.sl b o l.length cap op] h fun v h1 => v = .bool (l.all isTick) ∧ h1 = h := by
  refine calld (af := C28) rfl (by simp [C28]) ?_
  generalize hQ : (fun (v : AV) (h1 : Heap) => v = .bool (l.all isTick) ∧ h1 = h) = Q
  conv => whnf
  refine comes_kn 5 [(5, .sl b o l.length cap op), (6, .int .i64 l.length), (7, .int .i64 (0 : Nat))] ?_ ?_ ?_
  · rfl
  · exact ⟨rfl, rfl, rfl, trivial⟩
  · intro g
    refine tick_loop l b o cap op h hlen hrow _ l.length 0 (by omega) g (fun ha g => ?_) (fun ha g => ?_)
    · conv => whnf
      subst hQ
      exact ⟨by simpa using ha, rfl⟩
    · conv => whnf
      subst hQ
      exact ⟨by simpa using ha, rfl⟩
end Ir
end Go.Proofs.Ytflmbknimebmnaa
