/-
  The statement RankMixed holds: the Go function RankMixed returns true, whatever its arguments are.
-/
import Derived.Test.YtenafeojcgmnhaaRows
import Derived.Test.YtenafeojcgmnhaaVRkE
import Derived.Test.YtenafeojcgmnhaaVsLaw
set_option linter.unusedVariables false
set_option maxRecDepth 100000
namespace Go.Proofs.Ytenafeojcgmnhaa
namespace RankMixedProof
open Go Ads Go.ChangeShapes Go.WideShapes Go.ChangeAt Go.RowKit
theorem own:ownKnob Try.prog.godebug=none:=by kernel_rfl
theorem sys:jc Try.prog Ir.fs Ir.ms where
  rU:=fun f af h=>by
    unfold Ir.fs at h;rw[Ir.tie] at h;exact jR Ir.all h
  wX:=fun t name f h=>by simp[Ir.ms] at h
  mixed:=by kernel_rfl
theorem law(xs:List AV)(hl:xs.length=Try.f4.params.size)(ht:∀(i:Nat) t x,Try.f4.params.toList[i]?=some t→xs[i]?=some x→cE Try.prog t x):PC Ir.fs Ir.ms 4 xs (.bool true):=by
  match xs,hl with
  |[x0,x1],_=>
    obtain⟨k0,l0,rfl,hk0,wS,AY,hw0⟩:=KI (ht 0 _ x0 rfl rfl) (e:=3) (by kernel_rfl) Try.underlying3;rw[show Try.prog.bytesOf 3=8 by kernel_rfl] at AY;simp only[reachBytes] at AY;obtain⟨n1,rfl,JG⟩:=ku (ht 1 3 x1 rfl rfl) Try.underlying3;exact Ir.Bt (by omega) n1
theorem lifted(os:Os)(started:os.Started)(H:Type)(enc:TypeId×Value→H):
    ReturnsInHanded {} Try.checked os 4 .any (Rows.rankMixedSpec.pre6 enc Try.prog Try.f4 Rows.rankMixedRow.domain false) (Rows.rankMixedSpec.post enc Try.prog Try.f4 false true false false):=by
  refine ec (C:=Try.checked) own started (by kernel_rfl) Try.func4
    (ChangeSpec.witness6 (enc:=enc) (C:=Try.checked) false ⟨#[],#[.slice none 0 0,.int .i64 0],[]⟩ 8 (by kernel_rfl) (by kernel_rfl) (by kernel_rfl) (by kernel_rfl)) ?_
  intro W base args ds gs before hval hW mC;exact ji sys Ir.codes (by kernel_rfl) (tb:=4) rfl rfl Try.underlying4 (by kernel_rfl)
    (fun ds hds=>by match ds,hds with|[d0,d1],_=>exact⟨rfl,rfl,rfl⟩) law hval hW mC
theorem dS:Rows.rankMixedRow.holds Try.pinned (OpenSpec.ofChange Rows.rankMixedSpec):=
  OpenClaim.holds_of_wide 4 Try.f4 rfl rfl rfl rfl rfl rfl rfl ⟨rfl,rfl,rfl,rfl,rfl⟩ rfl rfl rfl rfl rfl (by kernel_rfl) Try.func4 (by kernel_rfl)
    (of_decide_eq_true (by kernel_rfl)) (by unfold Func.isWrapper;first|(rw[if_pos (by decide+kernel)];kernel_rfl)|(rw[if_neg (by decide+kernel)];exact⟨rfl,rfl⟩))
    (fun os started H enc _=>lifted os started H enc)
theorem proved:Rows.RankMixedSaid:=dS
#print axioms proved
end RankMixedProof
end Go.Proofs.Ytenafeojcgmnhaa
