/-
  The statement RankOrder holds: the Go function RankOrder returns true, whatever its arguments are.
-/
import Derived.Test.YtenafeojcgmnhaaRows
import Derived.Test.YtenafeojcgmnhaaVRkT
import Derived.Test.YtenafeojcgmnhaaVsLaw
set_option linter.unusedVariables false
set_option maxRecDepth 100000
namespace Go.Proofs.Ytenafeojcgmnhaa
namespace RankOrderProof
open Go Ads Go.ChangeShapes Go.WideShapes Go.ChangeAt Go.RowKit
theorem own:ownKnob Try.prog.godebug=none:=by kernel_rfl
theorem sys:jc Try.prog Ir.fs Ir.ms where
  rU:=fun f af h=>by
    unfold Ir.fs at h;rw[Ir.tie] at h;exact jR Ir.all h
  wX:=fun t name f h=>by simp[Ir.ms] at h
  mixed:=by kernel_rfl
theorem law(xs:List AV)(hl:xs.length=Try.f3.params.size)(ht:∀(i:Nat) t x,Try.f3.params.toList[i]?=some t→xs[i]?=some x→cE Try.prog t x):PC Ir.fs Ir.ms 3 xs (.bool true):=by
  match xs,hl with
  |[x0],_=>
    obtain⟨d0,rfl,GI⟩:=Ir.wh (ht 0 _ x0 rfl rfl);exact Ir.ue GI
theorem lifted(os:Os)(started:os.Started)(H:Type)(enc:TypeId×Value→H):
    ReturnsInHanded {} Try.checked os 3 .any (Rows.rankOrderSpec.pre6 enc Try.prog Try.f3 Rows.rankOrderRow.domain false) (Rows.rankOrderSpec.post enc Try.prog Try.f3 false true false false):=by
  refine ec (C:=Try.checked) own started (by kernel_rfl) Try.func3
    (ChangeSpec.witness6 (enc:=enc) (C:=Try.checked) false ⟨#[],#[.slice none 0 0],[]⟩ 8 (by kernel_rfl) (by kernel_rfl) (by kernel_rfl) (by kernel_rfl)) ?_
  intro W base args ds gs before hval hW mC;exact ji sys Ir.codes (by kernel_rfl) (tb:=4) rfl rfl Try.underlying4 (by kernel_rfl)
    (fun ds hds=>by match ds,hds with|[d0],_=>exact⟨rfl,rfl,rfl⟩) law hval hW mC
theorem dS:Rows.rankOrderRow.holds Try.pinned (OpenSpec.ofChange Rows.rankOrderSpec):=
  OpenClaim.holds_of_wide 3 Try.f3 rfl rfl rfl rfl rfl rfl rfl ⟨rfl,rfl,rfl,rfl,rfl⟩ rfl rfl rfl rfl rfl (by kernel_rfl) Try.func3 (by kernel_rfl)
    (of_decide_eq_true (by kernel_rfl)) (by unfold Func.isWrapper;first|(rw[if_pos (by decide+kernel)];kernel_rfl)|(rw[if_neg (by decide+kernel)];exact⟨rfl,rfl⟩))
    (fun os started H enc _=>lifted os started H enc)
theorem proved:Rows.RankOrderSaid:=dS
#print axioms proved
end RankOrderProof
end Go.Proofs.Ytenafeojcgmnhaa
