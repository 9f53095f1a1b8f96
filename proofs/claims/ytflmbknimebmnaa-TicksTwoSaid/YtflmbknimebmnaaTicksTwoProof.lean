/-
  The statement TicksTwo holds: the Go function TicksTwo returns true, whatever its arguments are.
-/
import Derived.Test.YtflmbknimebmnaaRows
import Derived.Test.YtflmbknimebmnaaVTicksF
import Derived.Test.YtflmbknimebmnaaVsLaw
set_option linter.unusedVariables false
set_option maxRecDepth 100000
namespace Go.Proofs.Ytflmbknimebmnaa
namespace TicksTwoProof
open Go Ads Go.ChangeShapes Go.WideShapes Go.ChangeAt Go.RowKit

theorem own : ownKnob Try.prog.godebug = none := by kernel_rfl

theorem sys : SysOk Try.prog Ir.fs Ir.ms where
  fsOk := fun f af h => by
    unfold Ir.fs at h
    rw [Ir.tie] at h
    exact ofL_get Ir.all h
  msOk := fun t name f h => by
    intro v w
    unfold Ir.ms at h
    repeat (split at h; · (rename_i hc; obtain ⟨rfl, rfl⟩ := hc; cases h; kernel_rfl))
    simp at h
  mixed := by kernel_rfl

theorem law (xs : List AV) (hl : xs.length = Try.f3.params.size) (ht : ∀ (i : Nat) t x, Try.f3.params.toList[i]? = some t → xs[i]? = some x → HasTy Try.prog t x) : PC Ir.fs Ir.ms 3 xs (.bool true) := by
  match xs, hl with
  | [x0, x1], _ =>
    obtain ⟨n0, rfl, hn0⟩ := ty_int (ht 0 3 x0 rfl rfl) Try.underlying3
    obtain ⟨n1, rfl, hn1⟩ := ty_int (ht 1 3 x1 rfl rfl) Try.underlying3
    exact Ir.ticksTwo_c n0 n1

theorem lifted (os : Os) (started : os.Started) (H : Type) (enc : TypeId × Value → H) :
    ReturnsInHanded {} Try.checked os 3 .any (Rows.ticksTwoSpec.pre6 enc Try.prog Try.f3 Rows.ticksTwoRow.domain false) (Rows.ticksTwoSpec.post enc Try.prog Try.f3 false true false false) := by
  refine returns_sized (C := Try.checked) own started (by kernel_rfl) Try.func3
    (ChangeSpec.witness6 (enc := enc) (C := Try.checked) false ⟨#[], #[.int .i64 0, .int .i64 0], []⟩ 8 (by kernel_rfl) (by kernel_rfl) (by kernel_rfl) (by kernel_rfl)) ?_
  intro W base args ds gs before hval hW hwt
  exact law_holds sys Ir.codes (by kernel_rfl) (tb := 4) rfl rfl Try.underlying4 (by kernel_rfl)
    (fun ds hds => by match ds, hds with | [d0, d1], _ => exact ⟨rfl, rfl, rfl⟩) law hval hW hwt

theorem named : Try.pinned.checked.prog.funcNamed Rows.ticksTwoRow.func = some 3 := by kernel_rfl
theorem facts : joinedFacts Try.pinned.checked.prog 3 Try.f3 Rows.ticksTwoSpec Rows.ticksTwoRow = true := by kernel_rfl
theorem inst : Try.f3.isInstance Try.pinned.checked.prog Rows.ticksTwoRow.origin Rows.ticksTwoRow.targs := of_decide_eq_true (by kernel_rfl)
theorem over : Rows.ticksTwoRow.holds Try.pinned (OpenSpec.ofChange Rows.ticksTwoSpec) :=
  OpenClaim.holds_of_wide 3 Try.f3 rfl rfl rfl rfl rfl rfl rfl ⟨rfl, rfl, rfl, rfl, rfl⟩ rfl rfl rfl rfl rfl named Try.func3 facts
    inst (by unfold Func.isWrapper; first | (rw [if_pos (by decide +kernel)]; kernel_rfl) | (rw [if_neg (by decide +kernel)]; exact ⟨rfl, rfl⟩))
    (fun os started H enc _ => lifted os started H enc)

theorem proved : Rows.TicksTwoSaid := over
#print axioms proved
end TicksTwoProof
end Go.Proofs.Ytflmbknimebmnaa
