/-
  The statement JudgeAhead holds: the Go function JudgeAhead returns true, whatever its arguments are.
-/
import Derived.Test.YtepdklcpagielaaRows
import Derived.Test.YtepdklcpagielaaVJaT
import Derived.Test.YtepdklcpagielaaVsLaw
set_option linter.unusedVariables false
set_option maxRecDepth 100000
namespace Go.Proofs.Ytepdklcpagielaa
namespace JudgeAheadProof
open Go Ads Go.ChangeShapes Go.WideShapes Go.ChangeAt Go.RowKit
theorem own:ownKnob Try.prog.godebug=none:=by kernel_rfl
theorem sys:lW Try.prog Ir.fs Ir.ms where
  yN:=fun f af h=>by
    unfold Ir.fs at h;rw[Ir.tie] at h;exact ql Ir.all h
  Gg:=fun t name f h=>by simp[Ir.ms] at h
  mixed:=by kernel_rfl
theorem law(xs:List AV)(hl:xs.length=Try.f5.params.size)(ht:∀(i:Nat) t x,Try.f5.params.toList[i]?=some t→xs[i]?=some x→cP Try.prog t x):PC Ir.fs Ir.ms 5 xs (.bool true):=by
  match xs,hl with
  |[x0,x1,x2],_=>
    obtain⟨d0,rfl,Li⟩:=Ir.Nb (ht 0 _ x0 rfl rfl);obtain⟨d1,rfl,D2⟩:=Ir.H6 (ht 1 _ x1 rfl rfl);obtain⟨n2,rfl,hn2⟩:=cE (ht 2 3 x2 rfl rfl) Try.underlying3;exact Ir.CD d0.1.1 d0.1.2 d0.2.1 d0.2.2 d1.1 d1.2 n2 Li.1 Li.2 D2
theorem lifted(os:Os)(started:os.Started)(H:Type)(enc:TypeId×Value→H):
    ReturnsInHanded {} Try.checked os 5 .any (Rows.judgeAheadSpec.pre6 enc Try.prog Try.f5 Rows.judgeAheadRow.domain false) (Rows.judgeAheadSpec.post enc Try.prog Try.f5 false true false false):=by
  refine jP (C:=Try.checked) own started (by kernel_rfl) Try.func5
    (ChangeSpec.witness6 (enc:=enc) (C:=Try.checked) false ⟨#[],#[.agg #[.slice none 0 0,.slice none 0 0],.slice none 0 0,.int .i64 0],[]⟩ 8 (by kernel_rfl) (by kernel_rfl) (by kernel_rfl) (by kernel_rfl)) ?_
  intro W base args ds gs before hval hW qR;exact pG sys Ir.codes (by kernel_rfl) (tb:=4) rfl rfl Try.underlying4 (by kernel_rfl)
    (fun ds hds=>by match ds,hds with|[d0,d1,d2],_=>exact⟨rfl,rfl,rfl⟩) law hval hW qR
theorem fJ:Rows.judgeAheadRow.holds Try.pinned (OpenSpec.ofChange Rows.judgeAheadSpec):=
  OpenClaim.holds_of_wide 5 Try.f5 rfl rfl rfl rfl rfl rfl rfl ⟨rfl,rfl,rfl,rfl,rfl⟩ rfl rfl rfl rfl rfl (by kernel_rfl) Try.func5 (by kernel_rfl)
    (of_decide_eq_true (by kernel_rfl)) (by unfold Func.isWrapper;first|(rw[if_pos (by decide+kernel)];kernel_rfl)|(rw[if_neg (by decide+kernel)];exact⟨rfl,rfl⟩))
    (fun os started H enc _=>lifted os started H enc)
theorem proved:Rows.JudgeAheadSaid:=fJ
#print axioms proved
end JudgeAheadProof
end Go.Proofs.Ytepdklcpagielaa
