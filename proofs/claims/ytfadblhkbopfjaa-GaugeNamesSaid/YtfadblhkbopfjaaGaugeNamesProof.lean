/-
  The statement GaugeNames holds: the Go function GaugeNames returns true, whatever its arguments are.
-/
import Derived.Test.YtfadblhkbopfjaaRows
import Derived.Test.YtfadblhkbopfjaaVKGaugeNames
import Derived.Test.YtfadblhkbopfjaaVsLaw
set_option linter.unusedVariables false
set_option maxRecDepth 100000
namespace Go.Proofs.Ytfadblhkbopfjaa
namespace GaugeNamesProof
open Go Ads Go.ChangeShapes Go.WideShapes Go.ChangeAt Go.RowKit

theorem own : ownKnob Try.prog.godebug = none := by kernel_rfl

theorem sys : SysOk Try.prog Ir.fs Ir.ms where
  fsOk := fun f af h => by
    unfold Ir.fs at h
    rw [Ir.tie] at h
    exact ofL_get Ir.all h
  msOk := fun t name f h => by
    intro v w
    unfold Ir.ms at h
    repeat (split at h; · (rename_i hc; obtain ⟨rfl, rfl⟩ := hc; cases h; kernel_rfl))
    simp at h
  mixed := by kernel_rfl

theorem law (xs : List AV) (hl : xs.length = Try.f3.params.size) (ht : ∀ (i : Nat) t x, Try.f3.params.toList[i]? = some t → xs[i]? = some x → HasTy Try.prog t x) : PC Ir.fs Ir.ms 3 xs (.bool true) := by
  match xs, hl with
  | [], _ =>

    exact Ir.GaugeNames_c

theorem lifted (os : Os) (started : os.Started) (H : Type) (enc : TypeId × Value → H) :
    ReturnsInHanded {} Try.checked os 3 .any (Rows.gaugeNamesSpec.pre6 enc Try.prog Try.f3 Rows.gaugeNamesRow.domain false) (Rows.gaugeNamesSpec.post enc Try.prog Try.f3 false true false false) := by
  refine returns_sized (C := Try.checked) own started (by kernel_rfl) Try.func3
    (ChangeSpec.witness6 (enc := enc) (C := Try.checked) false ⟨#[], #[], []⟩ 8 (by kernel_rfl) (by kernel_rfl) (by kernel_rfl) (by kernel_rfl)) ?_
  intro W base args ds gs before hval hW hwt
  exact law_holds sys Ir.codes (by kernel_rfl) (tb := 4) rfl rfl Try.underlying4 (by kernel_rfl)
    (fun ds hds => by match ds, hds with | [], _ => exact ⟨rfl, rfl, rfl⟩) law hval hW hwt

theorem over : Rows.gaugeNamesRow.holds Try.pinned (OpenSpec.ofChange Rows.gaugeNamesSpec) :=
  OpenClaim.holds_of_wide 3 Try.f3 rfl rfl rfl rfl rfl rfl rfl ⟨rfl, rfl, rfl, rfl, rfl⟩ rfl rfl rfl rfl rfl (by kernel_rfl) Try.func3 (by kernel_rfl)
    (of_decide_eq_true (by kernel_rfl)) (by unfold Func.isWrapper; first | (rw [if_pos (by decide +kernel)]; kernel_rfl) | (rw [if_neg (by decide +kernel)]; exact ⟨rfl, rfl⟩))
    (fun os started H enc _ => lifted os started H enc)

theorem proved : Rows.GaugeNamesSaid := over
#print axioms proved
end GaugeNamesProof
end Go.Proofs.Ytfadblhkbopfjaa
