/-
  The statement GateNames holds: the Go function GateNames returns true, whatever its arguments are.
-/
import Derived.Test.YtecdcefacdodgaaRows
import Derived.Test.YtecdcefacdodgaaVGatK
import Derived.Test.YtecdcefacdodgaaVsLaw
set_option linter.unusedVariables false
set_option maxRecDepth 100000
namespace Go.Proofs.Ytecdcefacdodgaa
namespace GateNamesProof
open Go Ads Go.ChangeShapes Go.WideShapes Go.ChangeAt Go.RowKit
theorem own:ownKnob Try.prog.godebug=none:=by kernel_rfl
theorem sys:kZ Try.prog Ir.fs Ir.ms where
  zW:=fun f af h=>by
    unfold Ir.fs at h;rw[Ir.tie] at h;exact su Ir.all h
  Jl:=fun t name f h=>by simp[Ir.ms] at h
  mixed:=by kernel_rfl
theorem law(xs:List AV)(hl:xs.length=Try.f5.params.size)(ht:∀(i:Nat) t x,Try.f5.params.toList[i]?=some t→xs[i]?=some x→cZ Try.prog t x):PC Ir.fs Ir.ms 5 xs (.bool true):=by
  match xs,hl with
  |[],_=>
    exact Ir.Br
theorem lifted(os:Os)(started:os.Started)(H:Type)(enc:TypeId×Value→H):
    ReturnsInHanded {} Try.checked os 5 .any (Rows.gateNamesSpec.pre6 enc Try.prog Try.f5 Rows.gateNamesRow.domain false) (Rows.gateNamesSpec.post enc Try.prog Try.f5 false true false false):=by
  refine mO (C:=Try.checked) own started (by kernel_rfl) Try.func5
    (ChangeSpec.witness6 (enc:=enc) (C:=Try.checked) false ⟨#[],#[],[]⟩ 8 (by kernel_rfl) (by kernel_rfl) (by kernel_rfl) (by kernel_rfl)) ?_
  intro W base args ds gs before hval hW oS;exact tK sys Ir.codes (by kernel_rfl) (tb:=4) rfl rfl Try.underlying4 (by kernel_rfl)
    (fun ds hds=>by match ds,hds with|[],_=>exact⟨rfl,rfl,rfl⟩) law hval hW oS
theorem eW:Rows.gateNamesRow.holds Try.pinned (OpenSpec.ofChange Rows.gateNamesSpec):=
  OpenClaim.holds_of_wide 5 Try.f5 rfl rfl rfl rfl rfl rfl rfl ⟨rfl,rfl,rfl,rfl,rfl⟩ rfl rfl rfl rfl rfl (by kernel_rfl) Try.func5 (by kernel_rfl)
    (of_decide_eq_true (by kernel_rfl)) (by unfold Func.isWrapper;first|(rw[if_pos (by decide+kernel)];kernel_rfl)|(rw[if_neg (by decide+kernel)];exact⟨rfl,rfl⟩))
    (fun os started H enc _=>lifted os started H enc)
theorem proved:Rows.GateNamesSaid:=eW
#print axioms proved
end GateNamesProof
end Go.Proofs.Ytecdcefacdodgaa
