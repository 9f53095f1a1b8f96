/-
  The statement TapeNames holds: the Go function TapeNames returns true, whatever its arguments are.
-/
import Derived.Test.YtmnolnoeibhjgaaGreatRows
import Derived.Test.YtmnolnoeibhjgaaGreatVKTapeNames
import Derived.Test.YtmnolnoeibhjgaaGreatIrLink
import Derived.Test.YtmnolnoeibhjgaaGreatVsLaw
set_option linter.unusedVariables false
set_option maxRecDepth 100000
namespace Go.Proofs.YtmnolnoeibhjgaaGreat
namespace TapeNamesProof
open Go Ads Go.ChangeShapes Go.WideShapes Go.ChangeAt Go.RowKit

theorem own : ownKnob Tryz.prog.godebug = none := by kernel_rfl

theorem sys : SysOk Tryz.prog Ir.fs Ir.ms where
  fsOk := fun f af h => by
    unfold Ir.fs at h
    rw [Ir.tie] at h
    exact ofL_get Ir.all h
  msOk := fun t name f h => by
    intro v w
    unfold Ir.ms at h
    repeat (split at h; · (rename_i hc; obtain ⟨rfl, rfl⟩ := hc; cases h; kernel_rfl))
    simp at h
  mixed := by kernel_rfl

theorem law (xs : List AV) (hl : xs.length = Tryz.f6.params.size) (ht : ∀ (i : Nat) t x, Tryz.f6.params.toList[i]? = some t → xs[i]? = some x → HasTy Tryz.prog t x) : PC Ir.fs Ir.ms 6 xs (.bool true) := by
  match xs, hl with
  | [], _ =>

    exact Ir.TapeNames_c

theorem lifted (os : Os) (started : os.Started) (H : Type) (enc : TypeId × Value → H) :
    ReturnsInHanded {} Tryz.checked os 6 .any (Rows.tapeNamesSpec.pre6 enc Tryz.prog Tryz.f6 Rows.tapeNamesRow.domain false) (Rows.tapeNamesSpec.post enc Tryz.prog Tryz.f6 false true false false) := by
  refine returns_sized (C := Tryz.checked) own started (by kernel_rfl) Tryz.func6
    (ChangeSpec.witness6 (enc := enc) (C := Tryz.checked) false ⟨#[], #[], []⟩ 8 (by kernel_rfl) (by kernel_rfl) (by kernel_rfl) (by kernel_rfl)) ?_
  intro W base args ds gs before hval hW hwt
  exact law_holds sys Ir.codes (by kernel_rfl) (tb := 4) rfl rfl Tryz.underlying4 (by kernel_rfl)
    (fun ds hds => by match ds, hds with | [], _ => exact ⟨rfl, rfl, rfl⟩) law hval hW hwt

theorem named : Tryz.pinned.checked.prog.funcNamed Rows.tapeNamesRow.func = some 6 := by kernel_rfl
theorem facts : joinedFacts Tryz.pinned.checked.prog 6 Tryz.f6 Rows.tapeNamesSpec Rows.tapeNamesRow = true := by kernel_rfl
theorem inst : Tryz.f6.isInstance Tryz.pinned.checked.prog Rows.tapeNamesRow.origin Rows.tapeNamesRow.targs := of_decide_eq_true (by kernel_rfl)
theorem over : Rows.tapeNamesRow.holds Tryz.pinned (OpenSpec.ofChange Rows.tapeNamesSpec) :=
  OpenClaim.holds_of_wide 6 Tryz.f6 rfl rfl rfl rfl rfl rfl rfl ⟨rfl, rfl, rfl, rfl, rfl⟩ rfl rfl rfl rfl rfl named Tryz.func6 facts
    inst (by unfold Func.isWrapper; first | (rw [if_pos (by decide +kernel)]; kernel_rfl) | (rw [if_neg (by decide +kernel)]; exact ⟨rfl, rfl⟩))
    (fun os started H enc _ => lifted os started H enc)

theorem proved : Rows.TapeNamesSaid := over
#print axioms proved
end TapeNamesProof
end Go.Proofs.YtmnolnoeibhjgaaGreat
