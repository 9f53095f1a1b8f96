/-
  The statement GateKeeps holds: the Go function GateKeeps returns true, whatever its arguments are.
-/
import Derived.Test.YtecdcefacdodgaaRows
import Derived.Test.YtecdcefacdodgaaVGkW
import Derived.Test.YtecdcefacdodgaaVsLaw
set_option linter.unusedVariables false
set_option maxRecDepth 100000
namespace Go.Proofs.Ytecdcefacdodgaa
namespace GateKeepsProof
open Go Ads Go.ChangeShapes Go.WideShapes Go.ChangeAt Go.RowKit
theorem own:ownKnob Try.prog.godebug=none:=by kernel_rfl
theorem sys:kZ Try.prog Ir.fs Ir.ms where
  zW:=fun f af h=>by
    unfold Ir.fs at h;rw[Ir.tie] at h;exact su Ir.all h
  Jl:=fun t name f h=>by simp[Ir.ms] at h
  mixed:=by kernel_rfl
theorem law(xs:List AV)(hl:xs.length=Try.f4.params.size)(ht:∀(i:Nat) t x,Try.f4.params.toList[i]?=some t→xs[i]?=some x→cZ Try.prog t x):PC Ir.fs Ir.ms 4 xs (.bool true):=by
  match xs,hl with
  |[x0,x1,x2],_=>
    obtain⟨d0,rfl,Rz⟩:=Ir.Kk (ht 0 _ x0 rfl rfl);obtain⟨n1,rfl,GX⟩:=iW (ht 1 3 x1 rfl rfl) Try.underlying3;obtain⟨k2,l2,rfl,hk2,Xv,Nw,Qy⟩:=MX (ht 2 _ x2 rfl rfl) (e:=3) (by kernel_rfl) Try.underlying3;rw[show Try.prog.bytesOf 3=8 by kernel_rfl] at Nw;simp only[reachBytes] at Nw;exact Ir.Bq d0.1 d0.2 n1 k2 l2 Rz.2.2 (by omega)
theorem lifted(os:Os)(started:os.Started)(H:Type)(enc:TypeId×Value→H):
    ReturnsInHanded {} Try.checked os 4 .any (Rows.gateKeepsSpec.pre6 enc Try.prog Try.f4 Rows.gateKeepsRow.domain false) (Rows.gateKeepsSpec.post enc Try.prog Try.f4 false true false false):=by
  refine mO (C:=Try.checked) own started (by kernel_rfl) Try.func4
    (ChangeSpec.witness6 (enc:=enc) (C:=Try.checked) false ⟨#[],#[.slice none 0 0,.int .i64 0,.slice none 0 0],[]⟩ 8 (by kernel_rfl) (by kernel_rfl) (by kernel_rfl) (by kernel_rfl)) ?_
  intro W base args ds gs before hval hW oS;exact tK sys Ir.codes (by kernel_rfl) (tb:=4) rfl rfl Try.underlying4 (by kernel_rfl)
    (fun ds hds=>by match ds,hds with|[d0,d1,d2],_=>exact⟨rfl,rfl,rfl⟩) law hval hW oS
theorem eW:Rows.gateKeepsRow.holds Try.pinned (OpenSpec.ofChange Rows.gateKeepsSpec):=
  OpenClaim.holds_of_wide 4 Try.f4 rfl rfl rfl rfl rfl rfl rfl ⟨rfl,rfl,rfl,rfl,rfl⟩ rfl rfl rfl rfl rfl (by kernel_rfl) Try.func4 (by kernel_rfl)
    (of_decide_eq_true (by kernel_rfl)) (by unfold Func.isWrapper;first|(rw[if_pos (by decide+kernel)];kernel_rfl)|(rw[if_neg (by decide+kernel)];exact⟨rfl,rfl⟩))
    (fun os started H enc _=>lifted os started H enc)
theorem proved:Rows.GateKeepsSaid:=eW
#print axioms proved
end GateKeepsProof
end Go.Proofs.Ytecdcefacdodgaa
