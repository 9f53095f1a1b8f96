/-
  RoomPlays: with the types of its arguments.
-/
import Derived.Test.YtnlcabhfkpafmaaGreatZI
import Derived.Test.YtnlcabhfkpafmaaGreatVDemT
set_option maxRecDepth 100000
set_option linter.unusedSimpArgs false
set_option linter.unusedVariables false
namespace Go.Proofs.YtnlcabhfkpafmaaGreat
open Go Ads
namespace Ir
theorem UQ{x:AV}(h:dY Tryz.prog 57 x):∃a,x=op a∧True:=by
 obtain⟨cs,rfl,hl,h1⟩:=Ap (n:=3) h Tryz.underlying57 (by kernel_rfl) (by kernel_rfl) (by kernel_rfl)
 match cs,hl with
 |[c0,c1,c2],_=>
  obtain⟨n0,rfl,-⟩:=jQ (h1 0 _ c0 rfl rfl) Tryz.underlying3;obtain⟨n1,rfl,-⟩:=jQ (h1 1 _ c1 rfl rfl) Tryz.underlying3;obtain⟨s2,rfl,-⟩:=Sn (h1 2 _ c2 rfl rfl) Tryz.underlying9;exact⟨⟨n0,n1,s2⟩,rfl,trivial⟩
theorem Sm{x:AV}(h:dY Tryz.prog 48 x):∃d:Nat×List Op,x=.fz d.1 (ops d.2)∧(d.1=3→d.2=[])∧d.2.length<2^62:=by
 obtain⟨k,l,rfl,h1,h2,h3,h4⟩:=wZ h Tryz.underlying48;obtain⟨m,rfl,-⟩:=zU (enc:=op) (q:=fun _=>True) l (fun y hy=>UQ (h4 y hy));rw[show Tryz.prog.bytesOf 57=32 by kernel_rfl] at h3;simp only[reachBytes,List.length_map] at h3;exact⟨(k,m),rfl,fun hk=>by simpa using h2 hk,by show m.length<_;omega⟩
theorem UP{x:AV}(h:dY Tryz.prog 50 x):∃a,x=A2 a∧((a.kk=3→a.ops=[])∧a.ops.length<2^62):=by
 obtain⟨cs,rfl,hl,h1⟩:=Ap (n:=4) h Tryz.underlying50 (by kernel_rfl) (by kernel_rfl) (by kernel_rfl)
 match cs,hl with
 |[c0,c1,c2,c3],_=>
  obtain⟨n0,rfl,-⟩:=jQ (h1 0 _ c0 rfl rfl) Tryz.underlying3;obtain⟨n1,rfl,-⟩:=jQ (h1 1 _ c1 rfl rfl) Tryz.underlying3;obtain⟨n2,rfl,-⟩:=jQ (h1 2 _ c2 rfl rfl) Tryz.underlying3;obtain⟨d,rfl,hd⟩:=Sm (h1 3 _ c3 rfl rfl);exact⟨⟨n0,n1,n2,d.1,d.2⟩,rfl,hd⟩
theorem Sl{x:AV}(h:dY Tryz.prog 44 x):∃d:Nat×List Do,x=.fz d.1 (HL d.2)∧d.2.length<2^62∧∀a∈d.2,(a.kk=3→a.ops=[])∧a.ops.length<2^62:=by
 obtain⟨k,l,rfl,h1,h2,h3,h4⟩:=wZ h Tryz.underlying44;obtain⟨m,rfl,hm⟩:=zU (enc:=A2) (q:=fun a=>(a.kk=3→a.ops=[])∧a.ops.length<2^62) l (fun y hy=>UP (h4 y hy));rw[show Tryz.prog.bytesOf 50=48 by kernel_rfl] at h3;simp only[reachBytes,List.length_map] at h3;exact⟨(k,m),rfl,by show m.length<_;omega,hm⟩
end Ir
end Go.Proofs.YtnlcabhfkpafmaaGreat
