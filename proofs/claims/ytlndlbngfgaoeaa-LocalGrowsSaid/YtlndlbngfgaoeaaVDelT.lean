/-
  Delay: values of the types of partitions.
-/
import Derived.Test.YtlndlbngfgaoeaaVDel
import Derived.Test.YtlndlbngfgaoeaaVDemT
set_option maxRecDepth 100000
set_option linter.unusedSimpArgs false
set_option linter.unusedVariables false
namespace Go.Proofs.Ytlndlbngfgaoeaa
open Go Ads
namespace Ir

theorem ty_pt {x : AV} (h : HasTy Try.prog 33 x) : ∃ a, x = pt a ∧ a.ts.length ≤ 17592186044416 := by
 obtain ⟨cs, rfl, hl, h1⟩ := ty_flat (n := 3) h Try.underlying33 (by kernel_rfl) (by kernel_rfl) (by kernel_rfl)
 match cs, hl with
 | [c0, c1, c2], _ =>
  obtain ⟨n0, rfl, -⟩ := ty_int (h1 0 _ c0 rfl rfl) Try.underlying3
  obtain ⟨n1, rfl, -⟩ := ty_int (h1 1 _ c1 rfl rfl) Try.underlying3
  obtain ⟨d, rfl, -, -, hd⟩ := ty_tks (h1 2 _ c2 rfl rfl)
  exact ⟨⟨n0, n1, d.1, d.2⟩, rfl, hd⟩

theorem ty_pts {x : AV} (h : HasTy Try.prog 22 x) : ∃ d : Nat × List Pt, x = .fz d.1 (pts d.2) ∧ d.1 ≤ 3 ∧ (d.1 = 3 → d.2 = []) ∧ Small d.2 := by
 obtain ⟨k, l, rfl, h1, h2, h3, h4⟩ := ty_slice h Try.underlying22
 obtain ⟨m, rfl, hm⟩ := map_of (enc := pt) (q := fun a => a.ts.length ≤ 17592186044416) l (fun y hy => ty_pt (h4 y hy))
 rw [show Try.prog.bytesOf 33 = 40 by kernel_rfl] at h3
 simp only [reachBytes, List.length_map] at h3
 exact ⟨(k, m), rfl, h1, fun hk => by simpa using h2 hk, by show m.length ≤ _; omega, hm⟩
end Ir
end Go.Proofs.Ytlndlbngfgaoeaa
