/-
  The statement RankKnown holds: the Go function RankKnown returns true, whatever its arguments are.
-/
import Derived.Test.YtenafeojcgmnhaaRows
import Derived.Test.YtenafeojcgmnhaaVRkJ
import Derived.Test.YtenafeojcgmnhaaVsLaw
set_option linter.unusedVariables false
set_option maxRecDepth 100000
namespace Go.Proofs.Ytenafeojcgmnhaa
namespace RankKnownProof
open Go Ads Go.ChangeShapes Go.WideShapes Go.ChangeAt Go.RowKit
theorem own:ownKnob Try.prog.godebug=none:=by kernel_rfl
theorem sys:jc Try.prog Ir.fs Ir.ms where
  rU:=fun f af h=>by
    unfold Ir.fs at h;rw[Ir.tie] at h;exact jR Ir.all h
  wX:=fun t name f h=>by simp[Ir.ms] at h
  mixed:=by kernel_rfl
theorem law(xs:List AV)(hl:xs.length=Try.f6.params.size)(ht:∀(i:Nat) t x,Try.f6.params.toList[i]?=some t→xs[i]?=some x→cE Try.prog t x):PC Ir.fs Ir.ms 6 xs (.bool true):=by
  match xs,hl with
  |[],_=>
    exact Ir.Bs
theorem lifted(os:Os)(started:os.Started)(H:Type)(enc:TypeId×Value→H):
    ReturnsInHanded {} Try.checked os 6 .any (Rows.rankKnownSpec.pre6 enc Try.prog Try.f6 Rows.rankKnownRow.domain false) (Rows.rankKnownSpec.post enc Try.prog Try.f6 false true false false):=by
  refine ec (C:=Try.checked) own started (by kernel_rfl) Try.func6
    (ChangeSpec.witness6 (enc:=enc) (C:=Try.checked) false ⟨#[],#[],[]⟩ 8 (by kernel_rfl) (by kernel_rfl) (by kernel_rfl) (by kernel_rfl)) ?_
  intro W base args ds gs before hval hW mC;exact ji sys Ir.codes (by kernel_rfl) (tb:=4) rfl rfl Try.underlying4 (by kernel_rfl)
    (fun ds hds=>by match ds,hds with|[],_=>exact⟨rfl,rfl,rfl⟩) law hval hW mC
theorem dS:Rows.rankKnownRow.holds Try.pinned (OpenSpec.ofChange Rows.rankKnownSpec):=
  OpenClaim.holds_of_wide 6 Try.f6 rfl rfl rfl rfl rfl rfl rfl ⟨rfl,rfl,rfl,rfl,rfl⟩ rfl rfl rfl rfl rfl (by kernel_rfl) Try.func6 (by kernel_rfl)
    (of_decide_eq_true (by kernel_rfl)) (by unfold Func.isWrapper;first|(rw[if_pos (by decide+kernel)];kernel_rfl)|(rw[if_neg (by decide+kernel)];exact⟨rfl,rfl⟩))
    (fun os started H enc _=>lifted os started H enc)
theorem proved:Rows.RankKnownSaid:=dS
#print axioms proved
end RankKnownProof
end Go.Proofs.Ytenafeojcgmnhaa
