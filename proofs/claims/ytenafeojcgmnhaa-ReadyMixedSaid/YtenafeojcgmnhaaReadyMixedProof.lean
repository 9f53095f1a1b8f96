/-
  The statement ReadyMixed holds: the Go function ReadyMixed returns true, whatever its arguments are.
-/
import Derived.Test.YtenafeojcgmnhaaRows
import Derived.Test.YtenafeojcgmnhaaVRdU
import Derived.Test.YtenafeojcgmnhaaVsLaw
set_option linter.unusedVariables false
set_option maxRecDepth 100000
namespace Go.Proofs.Ytenafeojcgmnhaa
namespace ReadyMixedProof
open Go Ads Go.ChangeShapes Go.WideShapes Go.ChangeAt Go.RowKit
theorem own:ownKnob Try.prog.godebug=none:=by kernel_rfl
theorem sys:jc Try.prog Ir.fs Ir.ms where
  rU:=fun f af h=>by
    unfold Ir.fs at h;rw[Ir.tie] at h;exact jR Ir.all h
  wX:=fun t name f h=>by simp[Ir.ms] at h
  mixed:=by kernel_rfl
theorem law(xs:List AV)(hl:xs.length=Try.f9.params.size)(ht:∀(i:Nat) t x,Try.f9.params.toList[i]?=some t→xs[i]?=some x→cE Try.prog t x):PC Ir.fs Ir.ms 9 xs (.bool true):=by
  match xs,hl with
  |[x0,x1,x2],_=>
    obtain⟨d0,rfl,GI⟩:=Ir.IB (ht 0 _ x0 rfl rfl);obtain⟨d1,rfl,AO⟩:=Ir.Fo (ht 1 _ x1 rfl rfl);obtain⟨n2,rfl,hn2⟩:=ku (ht 2 3 x2 rfl rfl) Try.underlying3;exact Ir.zx d0 d1 n2 GI AO
theorem lifted(os:Os)(started:os.Started)(H:Type)(enc:TypeId×Value→H):
    ReturnsInHanded {} Try.checked os 9 .any (Rows.readyMixedSpec.pre6 enc Try.prog Try.f9 Rows.readyMixedRow.domain false) (Rows.readyMixedSpec.post enc Try.prog Try.f9 false true false false):=by
  refine ec (C:=Try.checked) own started (by kernel_rfl) Try.func9
    (ChangeSpec.witness6 (enc:=enc) (C:=Try.checked) false ⟨#[],#[.agg #[.int .i64 0,.int .i64 0,.int .i64 0,.int .i64 0],.agg #[.bool false,.bool false,.bool false,.bool false],.int .i64 0],[]⟩ 8 (by kernel_rfl) (by kernel_rfl) (by kernel_rfl) (by kernel_rfl)) ?_
  intro W base args ds gs before hval hW mC;exact ji sys Ir.codes (by kernel_rfl) (tb:=4) rfl rfl Try.underlying4 (by kernel_rfl)
    (fun ds hds=>by match ds,hds with|[d0,d1,d2],_=>exact⟨rfl,rfl,rfl⟩) law hval hW mC
theorem dS:Rows.readyMixedRow.holds Try.pinned (OpenSpec.ofChange Rows.readyMixedSpec):=
  OpenClaim.holds_of_wide 9 Try.f9 rfl rfl rfl rfl rfl rfl rfl ⟨rfl,rfl,rfl,rfl,rfl⟩ rfl rfl rfl rfl rfl (by kernel_rfl) Try.func9 (by kernel_rfl)
    (of_decide_eq_true (by kernel_rfl)) (by unfold Func.isWrapper;first|(rw[if_pos (by decide+kernel)];kernel_rfl)|(rw[if_neg (by decide+kernel)];exact⟨rfl,rfl⟩))
    (fun os started H enc _=>lifted os started H enc)
theorem proved:Rows.ReadyMixedSaid:=dS
#print axioms proved
end ReadyMixedProof
end Go.Proofs.Ytenafeojcgmnhaa
