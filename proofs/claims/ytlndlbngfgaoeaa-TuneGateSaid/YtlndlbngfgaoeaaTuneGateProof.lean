/-
  The statement TuneGate holds: the Go function TuneGate returns true, whatever its arguments are.
-/
import Derived.Test.YtlndlbngfgaoeaaRows
import Derived.Test.YtlndlbngfgaoeaaVTunO
import Derived.Test.YtlndlbngfgaoeaaVsLaw
set_option linter.unusedVariables false
set_option maxRecDepth 100000
namespace Go.Proofs.Ytlndlbngfgaoeaa
namespace TuneGateProof
open Go Ads Go.ChangeShapes Go.WideShapes Go.ChangeAt Go.RowKit

theorem own : ownKnob Try.prog.godebug = none := by kernel_rfl

theorem sys : SysOk Try.prog Ir.fs Ir.ms where
  fsOk := fun f af h => by
    unfold Ir.fs at h
    rw [Ir.tie] at h
    exact ofL_get Ir.all h
  msOk := fun t name f h => by simp [Ir.ms] at h
  mixed := by kernel_rfl

theorem law (xs : List AV) (hl : xs.length = Try.f11.params.size) (ht : ∀ (i : Nat) t x, Try.f11.params.toList[i]? = some t → xs[i]? = some x → HasTy Try.prog t x) : PC Ir.fs Ir.ms 11 xs (.bool true) := by
  match xs, hl with
  | [x0], _ =>
    obtain ⟨d0, rfl, hd0⟩ := Ir.ty_pts (ht 0 _ x0 rfl rfl)
    exact Ir.tuneGate_c d0.1 d0.2 hd0.2.2

theorem lifted (os : Os) (started : os.Started) (H : Type) (enc : TypeId × Value → H) :
    ReturnsInHanded {} Try.checked os 11 .any (Rows.tuneGateSpec.pre6 enc Try.prog Try.f11 Rows.tuneGateRow.domain false) (Rows.tuneGateSpec.post enc Try.prog Try.f11 false true false false) := by
  refine returns_sized (C := Try.checked) own started (by kernel_rfl) Try.func11
    (ChangeSpec.witness6 (enc := enc) (C := Try.checked) false ⟨#[], #[.slice none 0 0], []⟩ 8 (by kernel_rfl) (by kernel_rfl) (by kernel_rfl) (by kernel_rfl)) ?_
  intro W base args ds gs before hval hW hwt
  exact law_holds sys Ir.codes (by kernel_rfl) (tb := 4) rfl rfl Try.underlying4 (by kernel_rfl)
    (fun ds hds => by match ds, hds with | [d0], _ => exact ⟨rfl, rfl, rfl⟩) law hval hW hwt

theorem over : Rows.tuneGateRow.holds Try.pinned (OpenSpec.ofChange Rows.tuneGateSpec) :=
  OpenClaim.holds_of_wide 11 Try.f11 rfl rfl rfl rfl rfl rfl rfl ⟨rfl, rfl, rfl, rfl, rfl⟩ rfl rfl rfl rfl rfl (by kernel_rfl) Try.func11 (by kernel_rfl)
    (of_decide_eq_true (by kernel_rfl)) (by unfold Func.isWrapper; first | (rw [if_pos (by decide +kernel)]; kernel_rfl) | (rw [if_neg (by decide +kernel)]; exact ⟨rfl, rfl⟩))
    (fun os started H enc _ => lifted os started H enc)

theorem proved : Rows.TuneGateSaid := over
#print axioms proved
end TuneGateProof
end Go.Proofs.Ytlndlbngfgaoeaa
