/-
  Delay: values of the types of partitions.
-/
import Derived.Test.YtepdklcpagielaaVDel
import Derived.Test.YtepdklcpagielaaVDemT
set_option maxRecDepth 100000
set_option linter.unusedSimpArgs false
set_option linter.unusedVariables false
namespace Go.Proofs.Ytepdklcpagielaa
open Go Ads
namespace Ir
theorem Xq{x:AV}(h:cP Try.prog 37 x):∃a,x=pt a∧a.ts.length≤17592186044416:=by
 obtain⟨cs,rfl,hl,h1⟩:=oF (n:=3) h Try.underlying37 (by kernel_rfl) (by kernel_rfl) (by kernel_rfl)
 match cs,hl with
 |[c0,c1,c2],_=>
  obtain⟨n0,rfl,-⟩:=cE (h1 0 _ c0 rfl rfl) Try.underlying3;obtain⟨n1,rfl,-⟩:=cE (h1 1 _ c1 rfl rfl) Try.underlying3;obtain⟨d,rfl,-,-,hd⟩:=TW (h1 2 _ c2 rfl rfl);exact⟨⟨n0,n1,d.1,d.2⟩,rfl,hd⟩
theorem TT{x:AV}(h:cP Try.prog 30 x):∃d:Nat×List Pt,x=.fz d.1 (pts d.2)∧d.1≤3∧(d.1=3→d.2=[])∧Small d.2:=by
 obtain⟨k,l,rfl,h1,h2,h3,h4⟩:=mw h Try.underlying30;obtain⟨m,rfl,hm⟩:=qj (enc:=pt) (q:=fun a=>a.ts.length≤17592186044416) l (fun y hy=>Xq (h4 y hy));rw[show Try.prog.bytesOf 37=40 by kernel_rfl] at h3;simp only[reachBytes,List.length_map] at h3;exact⟨(k,m),rfl,h1,fun hk=>by simpa using h2 hk,by show m.length≤_;omega,hm⟩
end Ir
end Go.Proofs.Ytepdklcpagielaa
