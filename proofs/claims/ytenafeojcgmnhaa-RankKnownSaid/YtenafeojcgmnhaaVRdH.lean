/-
  How ids are compared and sorted by insertion.
-/
import Derived.Test.YtenafeojcgmnhaaVRdG
set_option maxRecDepth 100000
set_option linter.unusedSimpArgs false
set_option linter.unusedVariables false
namespace Go.Proofs.Ytenafeojcgmnhaa
open Go Ads
namespace Ir

theorem isNaN_c (x : Int) : PC fs ms f_cmp_isNaN_int [.int .i64 x] (.bool false) := by
  refine pc_of rfl rfl ?_
  refine vd_start (af := C_cmp_isNaN_int) false rfl (Nat.le_of_ble_eq_true rfl) ?_
  generalize hQ : (fun (u : AV) (_ : Heap) => u = .bool false) = Q
  set_option smartUnfolding false in conv => whnf
  subst hQ
  simp
def cmp3 (x y : Int) : Int := if x < y then -1 else if y < x then 1 else 0
theorem Compare_c (x y : Int) : PC fs ms f_cmp_Compare_int [.int .i64 x, .int .i64 y] (.int .i64 (cmp3 x y)) := by
  refine pc_of rfl rfl ?_
  refine vd_start (af := C_cmp_Compare_int) false rfl (Nat.le_of_ble_eq_true rfl) ?_
  generalize hQ : (fun (u : AV) (_ : Heap) => u = .int .i64 (cmp3 x y)) = Q
  set_option smartUnfolding false in conv => whnf
  refine vd_pure (isNaN_c x) ?_
  set_option smartUnfolding false in conv => whnf
  refine vd_pure (isNaN_c y) ?_
  set_option smartUnfolding false in conv => whnf
  refine br (fun hc => ?_) (fun hc => ?_) <;> (try rw [hc]) <;> (set_option smartUnfolding false in conv => whnf)
  · have h1 : x < y := of_decide_eq_true hc
    subst hQ
    rw [cmp3, if_pos h1]
  · have h1 : ¬ x < y := of_decide_eq_false hc
    refine br (fun hc => ?_) (fun hc => ?_) <;> (try rw [hc]) <;> (set_option smartUnfolding false in conv => whnf)
    · have h2 : y < x := of_decide_eq_true hc
      subst hQ
      rw [cmp3, if_neg h1, if_pos h2]
    · have h2 : ¬ y < x := of_decide_eq_false hc
      subst hQ
      rw [cmp3, if_neg h1, if_neg h2]
def or2 (a b : Int) : Int := if a ≠ 0 then a else b
theorem Or_c (a b : Int) (k : Nat) : PC fs ms f_cmp_Or_int [.fz k [.int .i64 a, .int .i64 b]] (.int .i64 (or2 a b)) := by
  refine pc_of rfl rfl ?_
  refine vd_start (af := C_cmp_Or_int) false rfl (Nat.le_of_ble_eq_true rfl) ?_
  generalize hQ : (fun (u : AV) (_ : Heap) => u = .int .i64 (or2 a b)) = Q
  set_option smartUnfolding false in conv => whnf
  refine vc_loop (z := false) ?_
  set_option smartUnfolding false in conv => whnf
  refine ⟨_, (idx_val (j := 0) (x := .int .i64 a) rfl rfl), ?_⟩
  set_option smartUnfolding false in conv => whnf
  refine br (fun hc => ?_) (fun hc => ?_) <;> (try rw [hc]) <;> (set_option smartUnfolding false in conv => whnf)
  · have h1 : a ≠ 0 := by simpa using hc
    subst hQ
    rw [or2, if_pos h1]
  · have h1 : ¬ a ≠ 0 := by simpa using hc
    refine vc_loop (z := false) ?_
    set_option smartUnfolding false in conv => whnf
    refine ⟨_, (idx_val (j := 1) (x := .int .i64 b) rfl rfl), ?_⟩
    set_option smartUnfolding false in conv => whnf
    refine br (fun hc => ?_) (fun hc => ?_) <;> (try rw [hc]) <;> (set_option smartUnfolding false in conv => whnf)
    · have h2 : b ≠ 0 := by simpa using hc
      subst hQ
      rw [or2, if_neg h1]
    · have h2 : ¬ b ≠ 0 := by simpa using hc
      refine vc_loop (z := false) ?_
      set_option smartUnfolding false in conv => whnf
      subst hQ
      rw [or2, if_neg h1]
      have : b = 0 := by omega
      rw [this]
theorem lenb_ev : ∀ n, n < 65 → evD fs ms 100 (.call f_math_bits_Len [.int .u64 ((n : Nat) : Int)] ⟨0, .nil⟩) (fun r => match r with | .val (.int .i64 _) _ => true | _ => false) = true := by decide
theorem Len_c {n : Nat} (h : n < 65) : ∃ m, PC fs ms f_math_bits_Len [.int .u64 ((n : Nat) : Int)] (.int .i64 m) := by
  obtain ⟨r, hr, hk⟩ := ev_sound _ _ _ (evD_true (lenb_ev n h))
  split at hk
  · rename_i m h1
    exact ⟨m, rfl, rfl, _, _, fun B => .closed hr rfl rfl, .clean rfl⟩
  · cases hk

def cmpI (x y : Id) : Int := or2 (cmp3 x.2 y.2) (cmp3 x.1 y.1)
theorem cmpI_lt (x y : Id) : cmpI x y < 0 ↔ ah x y = true := by
  rw [ah_iff]
  unfold cmpI or2 cmp3
  split <;> split <;> (try split) <;> (try split) <;> simp at * <;> omega
theorem cmpI_c (x y : Id) : PC fs ms f_rank_Rank_Ids_1 [ob x, ob y] (.int .i64 (cmpI x y)) := by
  refine pc_of rfl rfl ?_
  refine vd_start (af := C_rank_Rank_Ids_1) false rfl (Nat.le_of_ble_eq_true rfl) ?_
  generalize hQ : (fun (u : AV) (_ : Heap) => u = .int .i64 (cmpI x y)) = Q
  obtain ⟨x1, x2⟩ := x
  obtain ⟨y1, y2⟩ := y
  set_option smartUnfolding false in conv => whnf
  refine vd_pure (Compare_c x2 y2) ?_
  set_option smartUnfolding false in conv => whnf
  refine vd_pure (Compare_c x1 y1) ?_
  set_option smartUnfolding false in conv => whnf
  refine vd_view (Or_c _ _ 0) rfl (.cons (.row (s := 1) trivial rfl rfl rfl rfl (Nat.le_refl _) (by omega) (fun h => by omega) (fun h => by omega) rfl) .nil) ?_
  set_option smartUnfolding false in conv => whnf
  refine ⟨winOk_of (by (set_option smartUnfolding false in conv => whnf); repeat' (first | exact trivial | (exact ⟨rfl, rfl, .inr ⟨_, _, rfl⟩⟩) | (refine ⟨rfl, rfl, .inl ⟨rfl, fun o ho => ?_⟩⟩; cases ho; first | rfl) | (exact ⟨rfl, .inr ⟨_, _, rfl⟩⟩) | (refine ⟨rfl, .inl ⟨rfl, fun i o hi ho => ?_⟩⟩; cases hi; cases ho; first | rfl) | (refine And.intro (fun _ => ?_) ?_ <;> set_option smartUnfolding false in conv => whnf) | (refine And.intro ?_ ?_ <;> set_option smartUnfolding false in conv => whnf))), ?_⟩
  subst hQ
  rfl
end Ir
end Go.Proofs.Ytenafeojcgmnhaa
