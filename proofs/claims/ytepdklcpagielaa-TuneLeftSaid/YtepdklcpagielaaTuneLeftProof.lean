/-
  The statement TuneLeft holds: the Go function TuneLeft returns true, whatever its arguments are.
-/
import Derived.Test.YtepdklcpagielaaRows
import Derived.Test.YtepdklcpagielaaVTlF
import Derived.Test.YtepdklcpagielaaVsLaw
set_option linter.unusedVariables false
set_option maxRecDepth 100000
namespace Go.Proofs.Ytepdklcpagielaa
namespace TuneLeftProof
open Go Ads Go.ChangeShapes Go.WideShapes Go.ChangeAt Go.RowKit
theorem own:ownKnob Try.prog.godebug=none:=by kernel_rfl
theorem sys:lW Try.prog Ir.fs Ir.ms where
  yN:=fun f af h=>by
    unfold Ir.fs at h;rw[Ir.tie] at h;exact ql Ir.all h
  Gg:=fun t name f h=>by simp[Ir.ms] at h
  mixed:=by kernel_rfl
theorem law(xs:List AV)(hl:xs.length=Try.f8.params.size)(ht:∀(i:Nat) t x,Try.f8.params.toList[i]?=some t→xs[i]?=some x→cP Try.prog t x):PC Ir.fs Ir.ms 8 xs (.bool true):=by
  match xs,hl with
  |[x0,x1],_=>
    obtain⟨d0,rfl,Li⟩:=Ir.TT (ht 0 _ x0 rfl rfl);obtain⟨k1,l1,rfl,AA,Rh,J0,hw1⟩:=Qx (ht 1 _ x1 rfl rfl) (e:=3) (by kernel_rfl) Try.underlying3;rw[show Try.prog.bytesOf 3=8 by kernel_rfl] at J0;simp only[reachBytes] at J0;exact Ir.GQ d0.1 k1 d0.2 (Ir.MW Li) l1 (by omega)
theorem lifted(os:Os)(started:os.Started)(H:Type)(enc:TypeId×Value→H):
    ReturnsInHanded {} Try.checked os 8 .any (Rows.tuneLeftSpec.pre6 enc Try.prog Try.f8 Rows.tuneLeftRow.domain false) (Rows.tuneLeftSpec.post enc Try.prog Try.f8 false true false false):=by
  refine jP (C:=Try.checked) own started (by kernel_rfl) Try.func8
    (ChangeSpec.witness6 (enc:=enc) (C:=Try.checked) false ⟨#[],#[.slice none 0 0,.slice none 0 0],[]⟩ 8 (by kernel_rfl) (by kernel_rfl) (by kernel_rfl) (by kernel_rfl)) ?_
  intro W base args ds gs before hval hW qR;exact pG sys Ir.codes (by kernel_rfl) (tb:=4) rfl rfl Try.underlying4 (by kernel_rfl)
    (fun ds hds=>by match ds,hds with|[d0,d1],_=>exact⟨rfl,rfl,rfl⟩) law hval hW qR
theorem fJ:Rows.tuneLeftRow.holds Try.pinned (OpenSpec.ofChange Rows.tuneLeftSpec):=
  OpenClaim.holds_of_wide 8 Try.f8 rfl rfl rfl rfl rfl rfl rfl ⟨rfl,rfl,rfl,rfl,rfl⟩ rfl rfl rfl rfl rfl (by kernel_rfl) Try.func8 (by kernel_rfl)
    (of_decide_eq_true (by kernel_rfl)) (by unfold Func.isWrapper;first|(rw[if_pos (by decide+kernel)];kernel_rfl)|(rw[if_neg (by decide+kernel)];exact⟨rfl,rfl⟩))
    (fun os started H enc _=>lifted os started H enc)
theorem proved:Rows.TuneLeftSaid:=fJ
#print axioms proved
end TuneLeftProof
end Go.Proofs.Ytepdklcpagielaa
