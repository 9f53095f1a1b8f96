/-
  Ready: values of the types of calls.
-/
import Derived.Test.YtenafeojcgmnhaaVRdR
import Derived.Test.YtenafeojcgmnhaaZA
import Derived.Test.YtenafeojcgmnhaaChecked
import Derived.KernelRfl
set_option maxRecDepth 100000
set_option linter.unusedSimpArgs false
set_option linter.unusedVariables false
namespace Go.Proofs.Ytenafeojcgmnhaa
open Go Ads
namespace Ir
theorem IA{x:AV}(h:cE Try.prog 59 x):∃a,x=Fu a:=by
 obtain⟨cs,rfl,hl,h1⟩:=Eg (n:=3) h Try.underlying59 (by kernel_rfl) (by kernel_rfl) (by kernel_rfl)
 match cs,hl with
 |[c0,c1,c2],_=>
  obtain⟨n0,rfl,-⟩:=ku (h1 0 _ c0 rfl rfl) Try.underlying3;obtain⟨n1,rfl,-⟩:=ku (h1 1 _ c1 rfl rfl) Try.underlying3;obtain⟨n2,rfl,-⟩:=ku (h1 2 _ c2 rfl rfl) Try.underlying3;exact⟨(n0,n1,n2),rfl⟩
theorem wh{x:AV}(h:cE Try.prog 51 x):∃d:Nat×List xj,x=.fz d.1 (rK d.2)∧d.2.length<2^62:=by
 obtain⟨k,l,rfl,h1,h2,h3,h4⟩:=wj h Try.underlying51;obtain⟨m,rfl,-⟩:=tD (enc:=Fu) (q:=fun _=>True) l (fun y hy=>by obtain⟨a,ha⟩:=IA (h4 y hy);exact⟨a,ha,trivial⟩);rw[show Try.prog.bytesOf 59=24 by kernel_rfl] at h3;simp only[reachBytes,List.length_map] at h3;exact⟨(k,m),rfl,by show m.length<_;omega⟩
end Ir
end Go.Proofs.Ytenafeojcgmnhaa
