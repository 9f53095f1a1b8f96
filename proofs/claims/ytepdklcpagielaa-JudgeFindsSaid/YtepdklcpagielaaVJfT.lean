/-
  Judge: values of the types of configurations and notes.
-/
import Derived.Test.YtepdklcpagielaaVCf
import Derived.Test.YtepdklcpagielaaZA
set_option maxRecDepth 100000
set_option linter.unusedSimpArgs false
set_option linter.unusedVariables false
namespace Go.Proofs.Ytepdklcpagielaa
open Go Ads
namespace Ir
theorem TU{x:AV}(h:cP Try.prog 39 x):∃a,x=tk a:=by
 obtain⟨cs,rfl,hl,h1⟩:=oF (n:=8) h Try.underlying39 (by kernel_rfl) (by kernel_rfl) (by kernel_rfl)
 match cs,hl with
 |[c0,c1,c2,c3,c4,c5,c6,c7],_=>
  obtain⟨n0,rfl,-⟩:=cE (h1 0 _ c0 rfl rfl) Try.underlying3;obtain⟨n1,rfl,-⟩:=cE (h1 1 _ c1 rfl rfl) Try.underlying3;obtain⟨n2,rfl,-⟩:=cE (h1 2 _ c2 rfl rfl) Try.underlying3;obtain⟨n3,rfl,-⟩:=cE (h1 3 _ c3 rfl rfl) Try.underlying3;obtain⟨n4,rfl,-⟩:=cE (h1 4 _ c4 rfl rfl) Try.underlying3;obtain⟨n5,rfl,-⟩:=cE (h1 5 _ c5 rfl rfl) Try.underlying3;obtain⟨n6,rfl,-⟩:=cE (h1 6 _ c6 rfl rfl) Try.underlying3;obtain⟨n7,rfl,-⟩:=cE (h1 7 _ c7 rfl rfl) Try.underlying3;exact⟨⟨n0,n1,n2,n3,n4,n5,n6,n7⟩,rfl⟩
theorem Qz{x:AV}(h:cP Try.prog 35 x):∃d:Nat×List Tk,x=.fz d.1 (dI d.2)∧d.2.length*64≤140737488355328:=by
 obtain⟨k,l,rfl,h1,h2,h3,h4⟩:=mw h Try.underlying35;obtain⟨m,rfl,-⟩:=qj (enc:=tk) (q:=fun _=>True) l (fun y hy=>by obtain⟨a,ha⟩:=TU (h4 y hy);exact⟨a,ha,trivial⟩);rw[show Try.prog.bytesOf 39=64 by kernel_rfl] at h3;simp only[reachBytes,List.length_map] at h3;exact⟨(k,m),rfl,by show m.length*64≤_;omega⟩
theorem TS{x:AV}(h:cP Try.prog 37 x):∃a,x=pt a∧a.ts.length*64≤140737488355328:=by
 obtain⟨cs,rfl,hl,h1⟩:=oF (n:=3) h Try.underlying37 (by kernel_rfl) (by kernel_rfl) (by kernel_rfl)
 match cs,hl with
 |[c0,c1,c2],_=>
  obtain⟨n0,rfl,-⟩:=cE (h1 0 _ c0 rfl rfl) Try.underlying3;obtain⟨n1,rfl,-⟩:=cE (h1 1 _ c1 rfl rfl) Try.underlying3;obtain⟨d,rfl,hd⟩:=Qz (h1 2 _ c2 rfl rfl);exact⟨⟨n0,n1,d.1,d.2⟩,rfl,hd⟩
theorem Qy{x:AV}(h:cP Try.prog 30 x):∃d:Nat×List Pt,x=.fz d.1 (pts d.2)∧(d.1=3→d.2=[])∧d.2.length*40≤140737488355328∧∀a∈d.2,a.ts.length*64≤140737488355328:=by
 obtain⟨k,l,rfl,h1,h2,h3,h4⟩:=mw h Try.underlying30;obtain⟨m,rfl,hm⟩:=qj (enc:=pt) (q:=fun a=>a.ts.length*64≤140737488355328) l (fun y hy=>TS (h4 y hy));rw[show Try.prog.bytesOf 37=40 by kernel_rfl] at h3;simp only[reachBytes,List.length_map] at h3;exact⟨(k,m),rfl,fun hk=>by simpa using h2 hk,by show m.length*40≤_;omega,hm⟩
theorem Xp{x:AV}(h:cP Try.prog 97 x):∃a,x=po a:=by
 obtain⟨cs,rfl,hl,h1⟩:=oF (n:=6) h Try.underlying97 (by kernel_rfl) (by kernel_rfl) (by kernel_rfl)
 match cs,hl with
 |[c0,c1,c2,c3,c4,c5],_=>
  obtain⟨n0,rfl,-⟩:=cE (h1 0 _ c0 rfl rfl) Try.underlying3;obtain⟨n1,rfl,-⟩:=cE (h1 1 _ c1 rfl rfl) Try.underlying3;obtain⟨n2,rfl,-⟩:=cE (h1 2 _ c2 rfl rfl) Try.underlying3;obtain⟨n3,rfl,-⟩:=cE (h1 3 _ c3 rfl rfl) Try.underlying3;obtain⟨n4,rfl,-⟩:=cE (h1 4 _ c4 rfl rfl) Try.underlying3;obtain⟨n5,rfl,-⟩:=cE (h1 5 _ c5 rfl rfl) Try.underlying3;exact⟨⟨n0,n1,n2,n3,n4,n5⟩,rfl⟩
theorem TQ{x:AV}(h:cP Try.prog 31 x):∃d:Nat×List Po,x=.fz d.1 (pos d.2)∧d.2.length*48≤140737488355328:=by
 obtain⟨k,l,rfl,h1,h2,h3,h4⟩:=mw h Try.underlying31;obtain⟨m,rfl,-⟩:=qj (enc:=po) (q:=fun _=>True) l (fun y hy=>by obtain⟨a,ha⟩:=Xp (h4 y hy);exact⟨a,ha,trivial⟩);rw[show Try.prog.bytesOf 97=48 by kernel_rfl] at h3;simp only[reachBytes,List.length_map] at h3;exact⟨(k,m),rfl,by show m.length*48≤_;omega⟩
theorem Nb{x:AV}(h:cP Try.prog 33 x):∃d:(Nat×List Pt)×(Nat×List Po),x=cfg d.1.1 d.1.2 d.2.1 d.2.2∧Fits d.1.2 d.2.2∧(d.1.1=3→d.1.2=[]):=by
 obtain⟨cs,rfl,hl,h1⟩:=oF (n:=2) h Try.underlying33 (by kernel_rfl) (by kernel_rfl) (by kernel_rfl)
 match cs,hl with
 |[c0,c1],_=>
  obtain⟨d0,rfl,a1,a2,a3⟩:=Qy (h1 0 _ c0 rfl rfl);obtain⟨d1,rfl,b1⟩:=TQ (h1 1 _ c1 rfl rfl);exact⟨(d0,d1),rfl,⟨a2,a3,b1⟩,a1⟩
theorem TO{x:AV}(h:cP Try.prog 24 x):∃a,x=nt a∧True:=by
 obtain⟨cs,rfl,hl,h1⟩:=oF (n:=7) h Try.underlying24 (by kernel_rfl) (by kernel_rfl) (by kernel_rfl)
 match cs,hl with
 |[c0,c1,c2,c3,c4,c5,c6],_=>
  obtain⟨n0,rfl,-⟩:=cE (h1 0 _ c0 rfl rfl) Try.underlying3;obtain⟨n1,rfl,-⟩:=cE (h1 1 _ c1 rfl rfl) Try.underlying3;obtain⟨n2,rfl,-⟩:=cE (h1 2 _ c2 rfl rfl) Try.underlying3;obtain⟨n3,rfl,-⟩:=cE (h1 3 _ c3 rfl rfl) Try.underlying3;obtain⟨n4,rfl,-⟩:=cE (h1 4 _ c4 rfl rfl) Try.underlying3;obtain⟨n5,rfl,-⟩:=cE (h1 5 _ c5 rfl rfl) Try.underlying22;obtain⟨s6,rfl,-⟩:=Nc (h1 6 _ c6 rfl rfl) Try.underlying9;exact⟨⟨n0,n1,n2,n3,n4,n5,s6⟩,rfl,trivial⟩
theorem H6{x:AV}(h:cP Try.prog 25 x):∃d:Nat×List Nt,x=.fz d.1 (b8 d.2)∧d.2.length*64≤140737488355328:=by
 obtain⟨k,l,rfl,h1,h2,h3,h4⟩:=mw h Try.underlying25;obtain⟨m,rfl,hm⟩:=qj (enc:=nt) (q:=fun a=>True) l (fun y hy=>TO (h4 y hy));rw[show Try.prog.bytesOf 24=64 by kernel_rfl] at h3;simp only[reachBytes,List.length_map] at h3;exact⟨(k,m),rfl,by show m.length*64≤_;omega⟩
end Ir
end Go.Proofs.Ytepdklcpagielaa
