/-
  Rank: cut.
-/
import Derived.Test.YtenafeojcgmnhaaVRdC
set_option maxRecDepth 100000
set_option linter.unusedSimpArgs false
set_option linter.unusedVariables false
namespace Go.Proofs.Ytenafeojcgmnhaa
open Go Ads
namespace Ads
end Ads
namespace Ir
theorem Bc{M:List Id}{x:Id}:IntKind.i64.wrap (((M++[x]).length:Int)-1)=((M.length:Nat):Int)∨2^62≤M.length:=by
 by_cases h:M.length<2^62
 ·left;rw[List.length_append,show(((M.length+[x].length:Nat)):Int)-1=((M.length:Nat):Int) by simp,iw (by omega)]
 ·right;omega
theorem O4{h:Heap}{p r cap:Nat}{op:Bool}{M:List Id}{x:Id}{P:Nat→Nat}{rest:List AV}{a:Nat}(hh:mJ h p r cap op (M++[x]) P rest)(ha:a<M.length+1)(hN:M.length+1<2^60)(hc:M.length+1≤cap)(hf:qt (M++[x]) P)(hp:Hp (M++[x])){Q:AV→Heap→Prop}
  (hQ:∀h' L' P',mJ h' p r cap op L' P' ((ob x).cells++rest)→L'.length=M.length→qt L' P'→Hp L'→(∀y,y∈L'↔y∈M++[x]∧y.1≠(gI (M++[x]) a).1)→Fr h h' [p,r]→Q (.cg []) h'):VD fs ms 43 [.ptr p 0,.int .i64 ((a:Nat):Int)] h Q:=by
 have hl:(M++[x]).length=M.length+1:=by simp
 have VR:=(Bc (M:=M) (x:=x)).resolve_right (by omega);refine aE (af:=RP) true rfl (Nat.le_of_ble_eq_true rfl) ?_;conv=>whnf
 refine⟨_,hh.row,?_⟩;conv=>whnf
 refine⟨_,hh.row,?_⟩;conv=>whnf
 rw[VR];refine⟨_,bh (by omega),?_⟩;conv=>whnf
 refine⟨_,hh.one (by omega),?_⟩;conv=>whnf
 rw[iL];have n1:h.next≠p:=by have:=hh.lp;omega
 have n2:h.next≠r:=by have:=hh.lr;omega
 refine bA (fQ aB rfl (Nat.le_refl _) rfl) fun h1 e1=>?_;conv=>whnf
 have uu:mJ h1 p r cap op (M++[x]) P rest:=by rw[e1];exact(hh.new _).set _ n1 n2
 have qm:h1.get h.next=some (.cells (ob x).cells true 0):=by rw[e1,aV];rfl
 have sP:Fr h h1 [p,r]:=by rw[e1];exact((Fr.refl h [p,r]).new (x:=_)).Im (Nat.le_refl _)
 have lt1:h.next<h1.next:=by rw[e1];exact Nat.lt_succ_self _
 clear e1;refine⟨_,uu.row,?_⟩;conv=>whnf
 refine⟨_,bh (by omega),?_⟩;conv=>whnf
 refine⟨_,uu.id (by omega),?_⟩;conv=>whnf
 have IP:=hf.small a (by omega);refine⟨_,bu (o:=1) IP,?_⟩;conv=>whnf
 refine bA (fQ uu.hp rfl (by rw[List.length_cons,nI];show 1+(gI (M++[x]) a).1*1+1≤_;omega) rfl) fun h2 e2=>?_;conv=>whnf
 have lV:mJ h2 p r cap op (M++[x]) (iH P (gI (M++[x]) a).1 0) rest:=by rw[e2];exact uu.Vh IP 0 rfl
 have jh:h2.get h.next=some (.cells (ob x).cells true 0):=by rw[e2,bw n1];exact qm
 have iI:Fr h h2 [p,r]:=by rw[e2];exact sP.set (by simp)
 have lt2:h.next<h2.next:=by rw[e2];exact lt1
 clear e2;refine⟨_,lV.row,?_⟩;conv=>whnf
 refine⟨_,CQ (by omega),?_⟩;conv=>whnf
 refine bA (fQ lV.hp rfl (by rw[List.length_cons];show 0+1≤_;omega) rfl) fun h3 e3=>?_;conv=>whnf
 have My:mJ h3 p r cap op M (iH P (gI (M++[x]) a).1 0) ((ob x).cells++rest):=by rw[e3];exact lV.pop rfl
 have PD:h3.get h.next=some (.cells (ob x).cells true 0):=by rw[e3,bw n1];exact jh
 have ql:Fr h h3 [p,r]:=by rw[e3];exact iI.set (by simp)
 have We:h.next<h3.next:=by rw[e3];exact lt2
 clear e3;refine br (fun hc=>?_) (fun hc=>?_)<;>(try rw[hc])<;>(conv=>whnf)
 ·have gR:a=M.length:=by simp at hc;omega
  subst gR;refine hQ h3 M _ My rfl ?_ (GZ hp) (Hv hf) ql;rw[iL];exact F7 hf
 ·have gR:a≠M.length:=by simp at hc;omega
  have K1:a<M.length:=by omega
  refine⟨_,IS PD (Nat.le_refl _),?_⟩;conv=>whnf
  have hxs:x.1<64:=by have:=hf.small M.length (by omega);rwa [iL] at this
  refine Bb (x:=x) My K1 hxs (by omega) fun h4 K9 wL=>?_;conv=>whnf
  have SB:h4.get h.next=some (.cells (ob x).cells true 0):=by rw[wL.keep _ We (by simp[n1,n2])];exact PD
  rw[ew K1] at K9;have hpf:=I9 K1 hf;refine NO K9 (by rw[List.length_set];exact K1) (by rw[List.length_set];omega) (hpf.Vn (by rw[List.length_set];exact K1)) (I7 K1 hp) fun h5 L5 P5 a5 VN k1 k2 k3 k4 k5 k6 k7 DD=>?_;conv=>whnf
  rw[List.length_set] at k1;have Oa:h5.get h.next=some (.cells (ob x).cells true 0):=by rw[DD.keep _ (Nat.lt_of_lt_of_le We wL.next) (by simp[n1,n2])];exact SB
  refine⟨_,bQ Oa rfl,?_⟩;conv=>whnf
  refine⟨_,bu (o:=1) hxs,?_⟩;conv=>whnf
  refine⟨_,VN.place hxs,?_⟩;conv=>whnf
  have hpa:=k3.pl a5 k2;rw[k5,mR K1] at hpa;rw[hpa,show IntKind.i64.wrap (((a5+1:Nat):Int)-1)=((a5:Nat):Int) by rw[show((a5+1:Nat):Int)-1=((a5:Nat):Int) by omega,iw (by omega)]];refine LL VN k2 (by omega) (k3.Vn k2) k4 fun h6 L6 P6 hh6 j1 j2 j3 j4 Ma=>?_;conv=>whnf
  refine hQ h6 L6 P6 hh6 (by omega) j2 j3 (fun y=>?_) (ql.trans (wL.trans (DD.trans Ma)));rw[j4.mem,k6.mem];exact I8 K1 hf y
end Ir
end Go.Proofs.Ytenafeojcgmnhaa
