/-
  Tape: the document's check.
-/
import Derived.Test.YtmnolnoeibhjgaaGreatVTpA
set_option maxRecDepth 100000
set_option linter.unusedSimpArgs false
set_option linter.unusedVariables false
namespace Go.Proofs.YtmnolnoeibhjgaaGreat
open Go Ads
namespace Ir
theorem refchk_c (x : TCmd) (hl : x.ops.length < 2 ^ 62) : PC fs ms f_escapementref28_Check [tcm x] (.int .i64 (chk x)) := by
  refine pc_of (by simp [clL, cl_tcm]) rfl ?_
  refine vd_start (af := C_escapementref28_Check) false rfl (Nat.le_of_ble_eq_true rfl) ?_
  generalize hQ : (fun (v : AV) (_ : Heap) => v = .int .i64 (chk x)) = Q
  have hbad : (badN x.k || badN x.p || badN x.t || badN x.n || badN x.m) = true → chk x = 2 := fun h => by rw [chk, if_pos h]
  have hgood : (badN x.k || badN x.p || badN x.t || badN x.n || badN x.m) = false → chk x = if 32 < x.ops.length then 5 else opsE x.ops := fun h => by rw [chk, if_neg (by rw [h]; decide)]
  generalize chk x = C at *
  set_option smartUnfolding false in conv => whnf
  iterate 14 (all_goals (first | (refine vd_pure (refnum_c _) ?_; set_option smartUnfolding false in conv => whnf) | (refine br (fun hc => ?_) (fun hc => ?_) <;> (try rw [hc]) <;> (set_option smartUnfolding false in conv => whnf)) | skip))
  iterate 5 (first | (subst hQ; (simp only [Bool.not_not] at *); rw [hbad (by simp only [*, Bool.true_or, Bool.or_true])]) | skip)
  · subst hQ
    have h2 : 32 < x.ops.length := by have := of_decide_eq_true hc; rw [len_tops] at this; omega
    simp only [Bool.not_not] at *
    rw [hgood (by simp only [*, Bool.or_self]), if_pos h2]
  · have h2 : ¬ 32 < x.ops.length := by have := of_decide_eq_false hc; rw [len_tops] at this; omega
    simp only [Bool.not_not] at *
    have hx := hgood (by simp only [*, Bool.or_self])
    rw [if_neg h2] at hx
    subst hx
    clear hgood hbad
    have h32 : x.ops.length < 2 ^ 62 := hl
    refine vc_lit (B := 0) (d := 3) (l := [(1, .ptr 0 0), (3, .int .i64 (0 : Nat))]) (hk_one (.cells (tcm x).cells true 0)) id ⟨⟨_, rfl, .ptr (by omega)⟩, ⟨_, rfl, .cl rfl⟩, trivial⟩ ⟨by omega, ⟨_, rfl, renB_cl rfl (cells_cl (cl_tcm x))⟩, trivial⟩ (by intro b c hb hc _; simp at hb hc; omega) (by intro b hb; omega) (by omega) ?_
    refine for_rowH 0 3 x.ops.length (fun j => opsE x.ops = opsE (x.ops.drop j)) (fun j => [(1, .ptr 0 0), (3, .int .i64 (j : Nat))]) (fun _ => ⟨1, .node .nil (some (.cells (tcm x).cells true 0)) .nil⟩) ?_ ?_ rfl
    · intro j hj hi
      rw [opsE_at hj] at hi
      have hix := idx_top (k := x.kk) hj
      generalize hO : x.ops[j] = o at *
      set_option smartUnfolding false in conv => whnf
      refine brt (by simpa [len_tops] using hj) (fun hc => ?_)
      (try rw [hc])
      set_option smartUnfolding false in conv => whnf
      refine ⟨_, hix, ?_⟩
      set_option smartUnfolding false in conv => whnf
      refine vd_pure (refnum_c _) ?_
      set_option smartUnfolding false in conv => whnf
      have h2' : badN o.k = true ∨ badN o.n = true → opE o = 2 := fun h => by rw [opE, if_pos (by simpa using h)]
      have h2n : badN o.k = false → badN o.n = false → opE o = if 16 < o.s.length then 5 else 0 := fun h1 h2 => by rw [opE, if_neg (by rw [h1, h2]; decide)]
      refine br (fun hc => ?_) (fun hc => ?_) <;> (try rw [hc]) <;> (set_option smartUnfolding false in conv => whnf)
      · subst hQ
        rw [hi, h2' (.inl (by simpa using hc))]
        rfl
      · have hc0 : badN o.k = false := by simpa using hc
        refine ⟨_, hix, ?_⟩
        set_option smartUnfolding false in conv => whnf
        refine vd_pure (refnum_c _) ?_
        set_option smartUnfolding false in conv => whnf
        refine br (fun hc => ?_) (fun hc => ?_) <;> (try rw [hc]) <;> (set_option smartUnfolding false in conv => whnf)
        · subst hQ
          rw [hi, h2' (.inr (by simpa using hc))]
          rfl
        · refine ⟨_, hix, ?_⟩
          set_option smartUnfolding false in conv => whnf
          have h3 := h2n hc0 (by simpa using hc)
          refine br (fun hc => ?_) (fun hc => ?_) <;> (try rw [hc]) <;> (set_option smartUnfolding false in conv => whnf)
          · subst hQ
            have h4 : 16 < o.s.length := by have := of_decide_eq_true hc; omega
            rw [if_pos h4] at h3
            rw [hi, h3]
            rfl
          · have h4 : ¬ 16 < o.s.length := by have := of_decide_eq_false hc; omega
            rw [if_neg h4] at h3
            rw [h3, if_pos rfl] at hi
            refine ⟨hi, id, gc_lit (hk_one (.cells (tcm x).cells true 0)) _ ⟨⟨_, rfl, .ptr (by omega)⟩, ⟨_, inc_slot (by omega), .cl rfl⟩, trivial⟩ ⟨by omega, ⟨_, rfl, renB_cl rfl (cells_cl (cl_tcm x))⟩, trivial⟩ (by intro b c hb hc _; simp at hb hc; omega) (by intro b hb; omega) (by omega)⟩
    · intro hi
      rw [List.drop_length] at hi
      set_option smartUnfolding false in conv => whnf
      refine brf (by simp [len_tops]) (fun hc => ?_)
      (try rw [hc])
      set_option smartUnfolding false in conv => whnf
      subst hQ
      rw [hi]
      rfl
end Ir
end Go.Proofs.YtmnolnoeibhjgaaGreat
