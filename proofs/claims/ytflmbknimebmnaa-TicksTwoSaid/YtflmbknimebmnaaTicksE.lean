/-
  TicksTwo returns true, whatever the two numbers are.
-/
import Derived.Test.YtflmbknimebmnaaTicksD
set_option maxRecDepth 100000
namespace Go.Proofs.Ytflmbknimebmnaa
open Go Ads
namespace Ir

theorem two_c (a e b f : Int) (h : Heap) : BS fs ms (.call 11 [.int .i64 a, .int .i64 e, .int .i64 b, .int .i64 f] h) (.val (.bool (a == b && e == f)) h) := by
  have : Calld fs ms 11 [.int .i64 a, .int .i64 e, .int .i64 b, .int .i64 f] ⟨0, .nil⟩ fun v _ => v = .bool (a == b && e == f) := by
    refine calld (af := C11) rfl (by simp [C11]) ?_
    generalize hQ : (fun (v : AV) (_ : Heap) => v = .bool (a == b && e == f)) = Q
    conv => whnf
    iterate 6 (all_goals (first | (refine br (fun hc => ?_) (fun hc => ?_) <;> (try rw [hc]) <;> (conv => whnf)) | skip))
    all_goals (subst hQ; simp only [*]; rfl)
  obtain ⟨v, h1, hb, rfl⟩ := this
  exact .fresh hb (by simp [allD, AV.inD]) (by simp [AV.inD])

theorem two_same (a e : Int) (h : Heap) : BS fs ms (.call 11 [.int .i64 a, .int .i64 e, .int .i64 a, .int .i64 e] h) (.val (.bool true) h) := by
  have := two_c a e a e h
  simpa using this

theorem works_ev : evD fs ms 1000000 (.call 20 [] ⟨0, .nil⟩) isTrue = true := by kernel_rfl

theorem works_c (h : Heap) : BS fs ms (.call 20 [] h) (.val (.bool true) h) := by
  obtain ⟨h1, hb⟩ := ev_true (evD_true works_ev)
  exact .fresh hb (by simp [allD]) (by simp [AV.inD])

theorem ticksTwo_c (a b : Int) (h : Heap) : Calld fs ms 3 [.int .i64 a, .int .i64 b] h fun v h1 => v = .bool true ∧ h1 = h := by
  refine calld (af := C3) rfl (by simp [C3]) ?_
  generalize hQ : (fun (v : AV) (h1 : Heap) => v = .bool true ∧ h1 = h) = Q
  conv => whnf
  iterate 16 (first
    | (refine calld_of (add_c _ _ _) ?_; conv => whnf)
    | (refine calld_of (radd_c _ _ _) ?_; conv => whnf)
    | (refine calld_of (sub_c _ _ _) ?_; conv => whnf)
    | (refine calld_of (rsub_c _ _ _) ?_; conv => whnf)
    | (refine calld_of (mul_c _ _ _) ?_; conv => whnf)
    | (refine calld_of (rmul_c _ _ _) ?_; conv => whnf)
    | (refine calld_of (div_c _ _ _) ?_; conv => whnf)
    | (refine calld_of (rdiv_c _ _ _) ?_; conv => whnf)
    | (refine calld_of (gcd_c _ _ _) ?_; conv => whnf)
    | (refine calld_of (rgcd_c _ _ _) ?_; conv => whnf)
    | (refine calld_of (two_same _ _ _) ?_; conv => whnf)
    | (refine calld_of (works_c _) ?_; conv => whnf)
    | skip)
  subst hQ
  exact ⟨rfl, rfl⟩
end Ir
end Go.Proofs.Ytflmbknimebmnaa
