/-
  Demand: values of the types of tasks.
-/
import Derived.Test.YtepdklcpagielaaVDem
import Derived.Test.YtepdklcpagielaaZA
import Derived.Test.YtepdklcpagielaaChecked
import Derived.KernelRfl
set_option maxRecDepth 100000
set_option linter.unusedSimpArgs false
set_option linter.unusedVariables false
namespace Go.Proofs.Ytepdklcpagielaa
open Go Ads
namespace Ir
theorem Xr{x:AV}(h:cP Try.prog 39 x):∃a,x=tk a:=by
 obtain⟨cs,rfl,hl,h1⟩:=oF (n:=8) h Try.underlying39 (by kernel_rfl) (by kernel_rfl) (by kernel_rfl)
 match cs,hl with
 |[c0,c1,c2,c3,c4,c5,c6,c7],_=>
  obtain⟨n0,rfl,-⟩:=cE (h1 0 _ c0 rfl rfl) Try.underlying3;obtain⟨n1,rfl,-⟩:=cE (h1 1 _ c1 rfl rfl) Try.underlying3;obtain⟨n2,rfl,-⟩:=cE (h1 2 _ c2 rfl rfl) Try.underlying3;obtain⟨n3,rfl,-⟩:=cE (h1 3 _ c3 rfl rfl) Try.underlying3;obtain⟨n4,rfl,-⟩:=cE (h1 4 _ c4 rfl rfl) Try.underlying3;obtain⟨n5,rfl,-⟩:=cE (h1 5 _ c5 rfl rfl) Try.underlying3;obtain⟨n6,rfl,-⟩:=cE (h1 6 _ c6 rfl rfl) Try.underlying3;obtain⟨n7,rfl,-⟩:=cE (h1 7 _ c7 rfl rfl) Try.underlying3;exact⟨⟨n0,n1,n2,n3,n4,n5,n6,n7⟩,rfl⟩
theorem TW{x:AV}(h:cP Try.prog 35 x):∃d:Nat×List Tk,x=.fz d.1 (dI d.2)∧d.1≤3∧(d.1=3→d.2=[])∧d.2.length≤17592186044416:=by
 obtain⟨k,l,rfl,h1,h2,h3,h4⟩:=mw h Try.underlying35;obtain⟨m,rfl,-⟩:=qj (enc:=tk) (q:=fun _=>True) l (fun y hy=>by obtain⟨a,ha⟩:=Xr (h4 y hy);exact⟨a,ha,trivial⟩);rw[show Try.prog.bytesOf 39=64 by kernel_rfl] at h3;simp only[reachBytes,List.length_map] at h3;exact⟨(k,m),rfl,h1,fun hk=>by simpa using h2 hk,by show m.length≤_;omega⟩
end Ir
end Go.Proofs.Ytepdklcpagielaa
