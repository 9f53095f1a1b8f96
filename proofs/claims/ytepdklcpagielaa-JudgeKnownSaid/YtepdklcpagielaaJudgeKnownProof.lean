/-
  The statement JudgeKnown holds: the Go function JudgeKnown returns true, whatever its arguments are.
-/
import Derived.Test.YtepdklcpagielaaRows
import Derived.Test.YtepdklcpagielaaVJK
import Derived.Test.YtepdklcpagielaaVsLaw
set_option linter.unusedVariables false
set_option maxRecDepth 100000
namespace Go.Proofs.Ytepdklcpagielaa
namespace JudgeKnownProof
open Go Ads Go.ChangeShapes Go.WideShapes Go.ChangeAt Go.RowKit
theorem own:ownKnob Try.prog.godebug=none:=by kernel_rfl
theorem sys:lW Try.prog Ir.fs Ir.ms where
  yN:=fun f af h=>by
    unfold Ir.fs at h;rw[Ir.tie] at h;exact ql Ir.all h
  Gg:=fun t name f h=>by simp[Ir.ms] at h
  mixed:=by kernel_rfl
theorem law(xs:List AV)(hl:xs.length=Try.f7.params.size)(ht:∀(i:Nat) t x,Try.f7.params.toList[i]?=some t→xs[i]?=some x→cP Try.prog t x):PC Ir.fs Ir.ms 7 xs (.bool true):=by
  match xs,hl with
  |[],_=>
    exact Ir.CF
theorem lifted(os:Os)(started:os.Started)(H:Type)(enc:TypeId×Value→H):
    ReturnsInHanded {} Try.checked os 7 .any (Rows.judgeKnownSpec.pre6 enc Try.prog Try.f7 Rows.judgeKnownRow.domain false) (Rows.judgeKnownSpec.post enc Try.prog Try.f7 false true false false):=by
  refine jP (C:=Try.checked) own started (by kernel_rfl) Try.func7
    (ChangeSpec.witness6 (enc:=enc) (C:=Try.checked) false ⟨#[],#[],[]⟩ 8 (by kernel_rfl) (by kernel_rfl) (by kernel_rfl) (by kernel_rfl)) ?_
  intro W base args ds gs before hval hW qR;exact pG sys Ir.codes (by kernel_rfl) (tb:=4) rfl rfl Try.underlying4 (by kernel_rfl)
    (fun ds hds=>by match ds,hds with|[],_=>exact⟨rfl,rfl,rfl⟩) law hval hW qR
theorem fJ:Rows.judgeKnownRow.holds Try.pinned (OpenSpec.ofChange Rows.judgeKnownSpec):=
  OpenClaim.holds_of_wide 7 Try.f7 rfl rfl rfl rfl rfl rfl rfl ⟨rfl,rfl,rfl,rfl,rfl⟩ rfl rfl rfl rfl rfl (by kernel_rfl) Try.func7 (by kernel_rfl)
    (of_decide_eq_true (by kernel_rfl)) (by unfold Func.isWrapper;first|(rw[if_pos (by decide+kernel)];kernel_rfl)|(rw[if_neg (by decide+kernel)];exact⟨rfl,rfl⟩))
    (fun os started H enc _=>lifted os started H enc)
theorem proved:Rows.JudgeKnownSaid:=fJ
#print axioms proved
end JudgeKnownProof
end Go.Proofs.Ytepdklcpagielaa
