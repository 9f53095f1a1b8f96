/-
  The statement ReadyKnown holds: the Go function ReadyKnown returns true, whatever its arguments are.
-/
import Derived.Test.YtenafeojcgmnhaaRows
import Derived.Test.YtenafeojcgmnhaaVRdW
import Derived.Test.YtenafeojcgmnhaaVsLaw
set_option linter.unusedVariables false
set_option maxRecDepth 100000
namespace Go.Proofs.Ytenafeojcgmnhaa
namespace ReadyKnownProof
open Go Ads Go.ChangeShapes Go.WideShapes Go.ChangeAt Go.RowKit
theorem own:ownKnob Try.prog.godebug=none:=by kernel_rfl
theorem sys:jc Try.prog Ir.fs Ir.ms where
  rU:=fun f af h=>by
    unfold Ir.fs at h;rw[Ir.tie] at h;exact jR Ir.all h
  wX:=fun t name f h=>by simp[Ir.ms] at h
  mixed:=by kernel_rfl
theorem law(xs:List AV)(hl:xs.length=Try.f10.params.size)(ht:∀(i:Nat) t x,Try.f10.params.toList[i]?=some t→xs[i]?=some x→cE Try.prog t x):PC Ir.fs Ir.ms 10 xs (.bool true):=by
  match xs,hl with
  |[],_=>
    exact Ir.zw
theorem lifted(os:Os)(started:os.Started)(H:Type)(enc:TypeId×Value→H):
    ReturnsInHanded {} Try.checked os 10 .any (Rows.readyKnownSpec.pre6 enc Try.prog Try.f10 Rows.readyKnownRow.domain false) (Rows.readyKnownSpec.post enc Try.prog Try.f10 false true false false):=by
  refine ec (C:=Try.checked) own started (by kernel_rfl) Try.func10
    (ChangeSpec.witness6 (enc:=enc) (C:=Try.checked) false ⟨#[],#[],[]⟩ 8 (by kernel_rfl) (by kernel_rfl) (by kernel_rfl) (by kernel_rfl)) ?_
  intro W base args ds gs before hval hW mC;exact ji sys Ir.codes (by kernel_rfl) (tb:=4) rfl rfl Try.underlying4 (by kernel_rfl)
    (fun ds hds=>by match ds,hds with|[],_=>exact⟨rfl,rfl,rfl⟩) law hval hW mC
theorem dS:Rows.readyKnownRow.holds Try.pinned (OpenSpec.ofChange Rows.readyKnownSpec):=
  OpenClaim.holds_of_wide 10 Try.f10 rfl rfl rfl rfl rfl rfl rfl ⟨rfl,rfl,rfl,rfl,rfl⟩ rfl rfl rfl rfl rfl (by kernel_rfl) Try.func10 (by kernel_rfl)
    (of_decide_eq_true (by kernel_rfl)) (by unfold Func.isWrapper;first|(rw[if_pos (by decide+kernel)];kernel_rfl)|(rw[if_neg (by decide+kernel)];exact⟨rfl,rfl⟩))
    (fun os started H enc _=>lifted os started H enc)
theorem proved:Rows.ReadyKnownSaid:=dS
#print axioms proved
end ReadyKnownProof
end Go.Proofs.Ytenafeojcgmnhaa
