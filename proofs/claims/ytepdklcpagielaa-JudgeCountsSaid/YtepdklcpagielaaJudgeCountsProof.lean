/-
  The statement JudgeCounts holds: the Go function JudgeCounts returns true, whatever its arguments are.
-/
import Derived.Test.YtepdklcpagielaaRows
import Derived.Test.YtepdklcpagielaaVJdT
import Derived.Test.YtepdklcpagielaaVsLaw
set_option linter.unusedVariables false
set_option maxRecDepth 100000
namespace Go.Proofs.Ytepdklcpagielaa
namespace JudgeCountsProof
open Go Ads Go.ChangeShapes Go.WideShapes Go.ChangeAt Go.RowKit
theorem own:ownKnob Try.prog.godebug=none:=by kernel_rfl
theorem sys:lW Try.prog Ir.fs Ir.ms where
  yN:=fun f af h=>by
    unfold Ir.fs at h;rw[Ir.tie] at h;exact ql Ir.all h
  Gg:=fun t name f h=>by simp[Ir.ms] at h
  mixed:=by kernel_rfl
theorem law(xs:List AV)(hl:xs.length=Try.f6.params.size)(ht:∀(i:Nat) t x,Try.f6.params.toList[i]?=some t→xs[i]?=some x→cP Try.prog t x):PC Ir.fs Ir.ms 6 xs (.bool true):=by
  match xs,hl with
  |[x0,x1,x2],_=>
    obtain⟨d0,rfl,Li⟩:=Ir.TP (ht 0 _ x0 rfl rfl);obtain⟨n1,rfl,J2⟩:=cE (ht 1 3 x1 rfl rfl) Try.underlying3;obtain⟨d2,rfl,Ur⟩:=Ir.TX (ht 2 _ x2 rfl rfl);exact Ir.yA d0.1 d0.2 n1 d2.1 d2.2 Li
theorem lifted(os:Os)(started:os.Started)(H:Type)(enc:TypeId×Value→H):
    ReturnsInHanded {} Try.checked os 6 .any (Rows.judgeCountsSpec.pre6 enc Try.prog Try.f6 Rows.judgeCountsRow.domain false) (Rows.judgeCountsSpec.post enc Try.prog Try.f6 false true false false):=by
  refine jP (C:=Try.checked) own started (by kernel_rfl) Try.func6
    (ChangeSpec.witness6 (enc:=enc) (C:=Try.checked) false ⟨#[],#[.slice none 0 0,.int .i64 0,.agg #[.int .i64 0,.int .i64 0]],[]⟩ 8 (by kernel_rfl) (by kernel_rfl) (by kernel_rfl) (by kernel_rfl)) ?_
  intro W base args ds gs before hval hW qR;exact pG sys Ir.codes (by kernel_rfl) (tb:=4) rfl rfl Try.underlying4 (by kernel_rfl)
    (fun ds hds=>by match ds,hds with|[d0,d1,d2],_=>exact⟨rfl,rfl,rfl⟩) law hval hW qR
theorem fJ:Rows.judgeCountsRow.holds Try.pinned (OpenSpec.ofChange Rows.judgeCountsSpec):=
  OpenClaim.holds_of_wide 6 Try.f6 rfl rfl rfl rfl rfl rfl rfl ⟨rfl,rfl,rfl,rfl,rfl⟩ rfl rfl rfl rfl rfl (by kernel_rfl) Try.func6 (by kernel_rfl)
    (of_decide_eq_true (by kernel_rfl)) (by unfold Func.isWrapper;first|(rw[if_pos (by decide+kernel)];kernel_rfl)|(rw[if_neg (by decide+kernel)];exact⟨rfl,rfl⟩))
    (fun os started H enc _=>lifted os started H enc)
theorem proved:Rows.JudgeCountsSaid:=fJ
#print axioms proved
end JudgeCountsProof
end Go.Proofs.Ytepdklcpagielaa
