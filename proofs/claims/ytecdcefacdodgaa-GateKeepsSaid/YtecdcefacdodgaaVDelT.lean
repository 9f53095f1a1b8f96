/-
  Delay: values of the types of partitions.
-/
import Derived.Test.YtecdcefacdodgaaVDel
import Derived.Test.YtecdcefacdodgaaVDemT
set_option maxRecDepth 100000
set_option linter.unusedSimpArgs false
set_option linter.unusedVariables false
namespace Go.Proofs.Ytecdcefacdodgaa
open Go Ads
namespace Ir
theorem SS{x:AV}(h:cZ Try.prog 50 x):∃a,x=pt a∧a.ts.length≤17592186044416:=by
 obtain⟨cs,rfl,hl,h1⟩:=Fq (n:=3) h Try.underlying50 (by kernel_rfl) (by kernel_rfl) (by kernel_rfl)
 match cs,hl with
 |[c0,c1,c2],_=>
  obtain⟨n0,rfl,-⟩:=iW (h1 0 _ c0 rfl rfl) Try.underlying3;obtain⟨n1,rfl,-⟩:=iW (h1 1 _ c1 rfl rfl) Try.underlying3;obtain⟨d,rfl,-,-,hd⟩:=P2 (h1 2 _ c2 rfl rfl);exact⟨⟨n0,n1,d.1,d.2⟩,rfl,hd⟩
theorem Kk{x:AV}(h:cZ Try.prog 22 x):∃d:Nat×List Pt,x=.fz d.1 (pts d.2)∧d.1≤3∧(d.1=3→d.2=[])∧Small d.2:=by
 obtain⟨k,l,rfl,h1,h2,h3,h4⟩:=w9 h Try.underlying22;obtain⟨m,rfl,hm⟩:=Ac (enc:=pt) (q:=fun a=>a.ts.length≤17592186044416) l (fun y hy=>SS (h4 y hy));rw[show Try.prog.bytesOf 50=40 by kernel_rfl] at h3;simp only[reachBytes,List.length_map] at h3;exact⟨(k,m),rfl,h1,fun hk=>by simpa using h2 hk,by show m.length≤_;omega,hm⟩
end Ir
end Go.Proofs.Ytecdcefacdodgaa
