/-
  Tape: values of the types of commands.
-/
import Derived.Test.YtmnolnoeibhjgaaGreatZC
import Derived.Test.YtmnolnoeibhjgaaGreatZA
set_option maxRecDepth 100000
set_option linter.unusedSimpArgs false
set_option linter.unusedVariables false
namespace Go.Proofs.YtmnolnoeibhjgaaGreat
open Go Ads
namespace Ir
theorem PF{x:AV}(h:dc Tryz.prog 42 x):∃a,x=top a∧True:=by
 obtain⟨cs,rfl,hl,h1⟩:=Ei (n:=3) h Tryz.underlying42 (by kernel_rfl) (by kernel_rfl) (by kernel_rfl)
 match cs,hl with
 |[c0,c1,c2],_=>
  obtain⟨n0,rfl,-⟩:=oa (h1 0 _ c0 rfl rfl) Tryz.underlying3;obtain⟨n1,rfl,-⟩:=oa (h1 1 _ c1 rfl rfl) Tryz.underlying3;obtain⟨s2,rfl,-⟩:=PD (h1 2 _ c2 rfl rfl) Tryz.underlying9;exact⟨⟨n0,n1,s2⟩,rfl,trivial⟩
theorem KJ{x:AV}(h:dc Tryz.prog 23 x):∃d:Nat×List nq,x=.fz d.1 (b9 d.2)∧d.2.length<2^62:=by
 obtain⟨k,l,rfl,h1,h2,h3,h4⟩:=sQ h Tryz.underlying23;obtain⟨m,rfl,-⟩:=vP (enc:=top) (q:=fun _=>True) l (fun y hy=>PF (h4 y hy));rw[show Tryz.prog.bytesOf 42=32 by kernel_rfl] at h3;simp only[reachBytes,List.length_map] at h3;exact⟨(k,m),rfl,by show m.length<_;omega⟩
theorem PE{x:AV}(h:dc Tryz.prog 25 x):∃a,x=dG a∧a.ops.length<2^62:=by
 obtain⟨cs,rfl,hl,h1⟩:=Ei (n:=6) h Tryz.underlying25 (by kernel_rfl) (by kernel_rfl) (by kernel_rfl)
 match cs,hl with
 |[c0,c1,c2,c3,c4,c5],_=>
  obtain⟨n0,rfl,-⟩:=oa (h1 0 _ c0 rfl rfl) Tryz.underlying3;obtain⟨n1,rfl,-⟩:=oa (h1 1 _ c1 rfl rfl) Tryz.underlying3;obtain⟨n2,rfl,-⟩:=oa (h1 2 _ c2 rfl rfl) Tryz.underlying3;obtain⟨n3,rfl,-⟩:=oa (h1 3 _ c3 rfl rfl) Tryz.underlying3;obtain⟨n4,rfl,-⟩:=oa (h1 4 _ c4 rfl rfl) Tryz.underlying3;obtain⟨d,rfl,hd⟩:=KJ (h1 5 _ c5 rfl rfl);exact⟨⟨n0,n1,n2,n3,n4,d.1,d.2⟩,rfl,hd⟩
theorem Ej{x:AV}(h:dc Tryz.prog 22 x):∃d:Nat×List bu,x=.fz d.1 (dA d.2)∧d.2.length<2^62∧∀a∈d.2,a.ops.length<2^62:=by
 obtain⟨k,l,rfl,h1,h2,h3,h4⟩:=sQ h Tryz.underlying22;obtain⟨m,rfl,hm⟩:=vP (enc:=dG) (q:=fun a=>a.ops.length<2^62) l (fun y hy=>PE (h4 y hy));rw[show Tryz.prog.bytesOf 25=64 by kernel_rfl] at h3;simp only[reachBytes,List.length_map] at h3;exact⟨(k,m),rfl,by show m.length<_;omega,hm⟩
end Ir
end Go.Proofs.YtmnolnoeibhjgaaGreat
