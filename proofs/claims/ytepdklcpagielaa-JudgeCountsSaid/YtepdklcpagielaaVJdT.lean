/-
  Judge: values of the types of notes.
-/
import Derived.Test.YtepdklcpagielaaVJdD
import Derived.Test.YtepdklcpagielaaZA
set_option maxRecDepth 100000
set_option linter.unusedSimpArgs false
set_option linter.unusedVariables false
namespace Go.Proofs.Ytepdklcpagielaa
open Go Ads
namespace Ir
theorem Xo{x:AV}(h:cP Try.prog 24 x):∃a,x=nt a∧True:=by
 obtain⟨cs,rfl,hl,h1⟩:=oF (n:=7) h Try.underlying24 (by kernel_rfl) (by kernel_rfl) (by kernel_rfl)
 match cs,hl with
 |[c0,c1,c2,c3,c4,c5,c6],_=>
  obtain⟨n0,rfl,-⟩:=cE (h1 0 _ c0 rfl rfl) Try.underlying3;obtain⟨n1,rfl,-⟩:=cE (h1 1 _ c1 rfl rfl) Try.underlying3;obtain⟨n2,rfl,-⟩:=cE (h1 2 _ c2 rfl rfl) Try.underlying3;obtain⟨n3,rfl,-⟩:=cE (h1 3 _ c3 rfl rfl) Try.underlying3;obtain⟨n4,rfl,-⟩:=cE (h1 4 _ c4 rfl rfl) Try.underlying3;obtain⟨n5,rfl,-⟩:=cE (h1 5 _ c5 rfl rfl) Try.underlying22;obtain⟨s6,rfl,-⟩:=Nc (h1 6 _ c6 rfl rfl) Try.underlying9;exact⟨⟨n0,n1,n2,n3,n4,n5,s6⟩,rfl,trivial⟩
theorem TP{x:AV}(h:cP Try.prog 25 x):∃d:Nat×List Nt,x=.fz d.1 (b8 d.2)∧d.2.length*64≤140737488355328:=by
 obtain⟨k,l,rfl,h1,h2,h3,h4⟩:=mw h Try.underlying25;obtain⟨m,rfl,hm⟩:=qj (enc:=nt) (q:=fun a=>True) l (fun y hy=>Xo (h4 y hy));rw[show Try.prog.bytesOf 24=64 by kernel_rfl] at h3;simp only[reachBytes,List.length_map] at h3;exact⟨(k,m),rfl,by show m.length*64≤_;omega⟩
theorem TX{x:AV}(h:cP Try.prog 55 x):∃d:Int×Int,x=.agg [.int .i64 d.1,.int .i64 d.2]∧True:=by
 obtain⟨ys,rfl,h1,h2⟩:=M9 h Try.underlying55
 match ys,h1 with
 |[c0,c1],_=>
  obtain⟨n0,rfl,-⟩:=cE (h2 c0 (by simp)) Try.underlying3;obtain⟨n1,rfl,-⟩:=cE (h2 c1 (by simp)) Try.underlying3;exact⟨(n0,n1),rfl,trivial⟩
end Ir
end Go.Proofs.Ytepdklcpagielaa
