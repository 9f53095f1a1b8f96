/-
  Gate: configurations made to be such. Gate: who is in. Gate: fewer pass, too. Gate: a partition that shares nothing is tested by itself.
-/
import Derived.Test.YtecdcefacdodgaaVGat
import Derived.Test.YtecdcefacdodgaaZA
set_option maxRecDepth 100000
set_option linter.unusedSimpArgs false
set_option linter.unusedVariables false
namespace Go.Proofs.Ytecdcefacdodgaa
open Go Ads
namespace Ir
def PE(t:Tk):Tk:=⟨uz t,uy t,nw t,0,0,0,0,0⟩
def dW(l:List Tk):List Tk:=(l.take 3).map PE
def v8(x:Pt):Pt:=⟨Al x,CO x,eM (dW x.ts).length,dW x.ts⟩
def cT(l:List Pt):List Pt:=(l.take 4).map v8
theorem Rc(t:Tk):bY (tk t).cells=true:=rfl
def Qg(k:Nat)(l:List Pt)(i:Nat)(j:Nat):List (Nat×AV):=[(0,.fz k (pts l)),(2,.ptr 4 0),(3,.ptr 3 0),(4,.int .i64 (i:Nat)),(5,.ptr 1 0),(6,.int .i64 (j:Nat))]
def QI(O:Option ck)(V:AV)(P b:Int)(T:List Tk)(j:Nat):Heap:=H8 O (some (.cells [.int .i64 P,.int .i64 b,FY 2 j] true 0)) (FX 8 (fQ T) j) (some (.cells [V,.aq] true 0)) (some (.cells [.aq,.aq] true 0)) none none none
theorem Mh{Q:AX→Env→Heap→Prop}(k:Nat)(l:List Pt)(i:Nat)(x:Pt)(P b:Int)(r7:pV (.aH 3) [.fz k (pts l),.int .i64 (i:Nat)]=some (.fp (pt x).cells 0))(hx:x.ts.length≤17592186044416)(V:AV)(O:Option ck)(hO:Uc O)(hV:∀p:Nat→Nat,p 0=0→oz p 8 V V)
  (hK:VC fs ms 0 false (.loop ee) (ek 5 (Qg k l i (dW x.ts).length)) (QI O V P b (dW x.ts) (dW x.ts).length) Q):
  VC fs ms 0 false (.loop ee) (ek 5 (Qg k l i 0)) (QI O V P b (dW x.ts) 0) Q:=by
 have hN:(dW x.ts).length=min 3 x.ts.length:=by simp[dW]
 refine gk 0 5 (dW x.ts).length (fun _=>True) (Qg k l i) (QI O V P b (dW x.ts)) ?_ (fun _=>hK) trivial;clear hK;intro j hj _;have hjl:j<x.ts.length:=by omega
 have hj3:j<3:=by omega
 have hT:(dW x.ts).take (j+1)=(dW x.ts).take j++[PE x.ts[j]]:=by
  rw[eG hj];simp[dW]
 have hidx:=mK (k:=x.k) hjl;have hin:=Jn 1 x.ts[j] (by omega);have L7:=bJ (dW x.ts);have Pb:=Cl (dW x.ts);have CL:∀n,(fQ (dW x.ts)).take n=fQ ((dW x.ts).take n):=fun n=>Ke _ n;have XK:j<(dW x.ts).length:=hj;generalize x.ts[j]=t at*;have hm:PE t=⟨uz t,uy t,nw t,0,0,0,0,0⟩:=rfl;have b1:IntKind.i64.wrap (1+mT t.p 48)=uz t:=IntWalk.i64_in _ (by show _≤uz t∧uz t≤_;omega);have b2:IntKind.i64.wrap (1+mT t.d (uz t))=uy t:=IntWalk.i64_in _ (by show _≤uy t∧uy t≤_;omega);have b3:IntKind.i64.wrap (1+mT t.w (uy t))=nw t:=IntWalk.i64_in _ (by show _≤nw t∧nw t≤_;omega);generalize uz t=tp at*;generalize uy t=td at*;generalize nw t=tw at*;generalize hL:dW x.ts=L at*;unfold Qg QI;conv=>whnf
 refine⟨_,r7,?_⟩;conv=>whnf
 refine fP (by rw[bM];simp;omega) (fun hc=>?_)
 (try rw[hc])
 conv=>whnf
 refine fP (by simp;omega) (fun hc=>?_)
 (try rw[hc])
 conv=>whnf
 refine⟨_,r7,?_⟩;conv=>whnf
 refine⟨_,hidx,?_⟩;conv=>whnf
 refine ai (jG _ 48 (by omega) (by omega)) ?_;conv=>whnf
 rw[b1];conv=>whnf
 refine ai (jG _ tp (by omega) (by omega)) ?_;conv=>whnf
 rw[b2];conv=>whnf
 refine ai (jG _ td (by omega) (by omega)) ?_;conv=>whnf
 rw[b3];conv=>whnf
 have IU:∀(p:Nat→Nat) (e1:Env),p 1=1→p 3=3→p 4=4→Tr.get e1 0=some (.fz k (pts l))→Tr.get e1 2=some (.ptr 4 0)→Tr.get e1 3=some (.ptr 3 0)→Tr.get e1 4=some (.int .i64 (i:Nat))→Tr.get e1 5=some (.ptr 1 0)→Tr.get e1 6=some (.int .i64 ((j+1:Nat):Int))→fW p 8 e1 (Qg k l i (j+1)):=by
  intro p e1 p1 p3 p4 h0 h2 h3 h4 h5 h6;refine⟨⟨_,h0,.cl (by simp[AV.cl,aS])⟩,⟨_,h2,?_⟩,⟨_,h3,?_⟩,⟨_,h4,.cl rfl⟩,⟨_,h5,?_⟩,⟨_,h6,.cl rfl⟩,trivial⟩
  ·have:oz p 8 (.ptr 4 0) (.ptr (p 4) 0):=.ptr (by omega)
   rwa [p4] at this
  ·have:oz p 8 (.ptr 3 0) (.ptr (p 3) 0):=.ptr (by omega)
   rwa [p3] at this
  ·have:oz p 8 (.ptr 1 0) (.ptr (p 1) 0):=.ptr (by omega)
   rwa [p1] at this
 cases j with
 |zero=>
  refine⟨_,_,pS (cs:=(tk ⟨tp,td,tw,0,0,0,0,0⟩).cells) (by omega) rfl rfl,?_⟩;conv=>whnf
  refine⟨trivial,fun b=>bif Nat.beq b 2 then 11 else b,Di _ (IU _ _ rfl rfl rfl rfl rfl rfl rfl rfl (au (j:=0) (by omega))) (vm (uU hO rfl) (bf ⟨_,rfl,DZ (.cl rfl) (.cl rfl) (.sl (by omega))⟩) (bf ⟨_,rfl,aX ?_ (gD (kC L7 _))⟩) (bf ⟨_,rfl,pg (hV _ rfl) (.cl rfl)⟩) (bf ⟨_,rfl,aX rfl rfl⟩) aZ aZ aZ) (by decide) (by intro b hb;omega) (by omega)⟩;show(tk ⟨tp,td,tw,0,0,0,0,0⟩).cells=ah ((fQ L).take (0+1));rw[CL,hT,hm];rfl
 |succ j=>
  have hle:j+1≤L.length:=by omega
  refine⟨_,_,pT (cs:=(tk ⟨tp,td,tw,0,0,0,0,0⟩).cells) (vs:=ah ((fQ L).take (j+1))) rfl (by rw[kM (size_take Pb _),List.length_take,bM,Nat.min_eq_left hle]) (by omega) (by omega) rfl rfl,?_⟩;conv=>whnf
  refine⟨trivial,fun b=>bif Nat.beq b 2 then 11 else b,Di _ (IU _ _ rfl rfl rfl rfl rfl rfl rfl rfl (au (j:=j+1) (by omega))) (vm (uU hO rfl) (bf ⟨_,rfl,DZ (.cl rfl) (.cl rfl) (.sl (by omega))⟩) (bf ⟨_,rfl,aX ?_ (gD (kC L7 _))⟩) (bf ⟨_,rfl,pg (hV _ rfl) (.cl rfl)⟩) (bf ⟨_,rfl,aX rfl rfl⟩) aZ aZ aZ) (by decide) (by intro b hb;omega) (by omega)⟩;show ah ((fQ L).take (j+1))++(tk ⟨tp,td,tw,0,0,0,0,0⟩).cells=ah ((fQ L).take (j+1+1));rw[CL,CL,hT,hm,fQ,fQ,List.map_append,mX];rfl
def QJ(k:Nat)(l:List Pt)(j:Nat):List (Nat×AV):=[(0,.fz k (pts l)),(2,.ptr 4 0),(3,.ptr 3 0),(4,.int .i64 (j:Nat))]
def Qf(L:List Pt)(j:Nat):Heap:=H8 (FX 3 (pts L) j) none none (some (.cells [FY 0 j,.aq] true 0)) (some (.cells [.aq,.aq] true 0)) none none none
theorem sO{k j:Nat}{l:List Pt}{p:Nat→Nat}{e1:Env}{b3 b4:Nat}(p3:p 3=b3)(p4:p 4=b4)(h0:Tr.get e1 0=some (.fz k (pts l)))(h2:Tr.get e1 2=some (.ptr b4 0))(h3:Tr.get e1 3=some (.ptr b3 0))(h4:Tr.get e1 4=some (.int .i64 (j:Nat))):fW p 8 e1 (QJ k l j):=by
 subst p3 p4;exact⟨⟨_,h0,.cl (by simp[AV.cl,aS])⟩,⟨_,h2,.ptr (by omega)⟩,⟨_,h3,.ptr (by omega)⟩,⟨_,h4,.cl rfl⟩,trivial⟩
theorem BY(k:Nat)(l:List Pt)(hs:Small l):PC fs ms 14 [.fz k (pts l)] (cfg (eM (cT l).length) (cT l)):=by
 refine⟨by simp[bn,AV.cl,aS],qW _ _,?_⟩;refine aA (af:=S0) false rfl (Nat.le_of_ble_eq_true rfl) ?_;generalize hQ:(fun(u:AV) (g:Heap)=>kz (fun _=>True) g u (cfg (eM (cT l).length) (cT l)))=Q;conv=>whnf
 have hN:(cT l).length=min 4 l.length:=by simp[cT]
 refine iX (e':=ek 5 (QJ k l 0)) (h':=Qf (cT l) 0) (p:=fun b=>bif Nat.beq b 4 then 0 else bif Nat.beq b 3 then 1 else bif Nat.beq b 0 then 4 else bif Nat.beq b 1 then 3 else b) (Di _ (sO rfl rfl rfl rfl rfl rfl) (vm aZ aZ aZ (bf ⟨_,rfl,aX rfl rfl⟩) (bf ⟨_,rfl,aX rfl rfl⟩) aZ aZ aZ) (by decide) (by intro b hb;exact absurd hb (Nat.not_lt_zero b)) (Nat.zero_le _)) ?_;show VC fs ms 0 false _ _ _ _;refine jR 0 5 (cT l).length (fun _=>True) (QJ k l) (Qf (cT l)) ?_ ?_ trivial
 ·intro j hj _;have hjl:j<l.length:=by omega
  have hjm:j<4:=by omega
  have hT:(cT l).take (j+1)=(cT l).take j++[v8 l[j]]:=by
   rw[eG hj];simp[cT]
  have r7:=lD (k:=k) hjl;have hxs:=hs.2 _ (List.getElem_mem hjl);have Dt:=aS (cT l);have Sf:=sM (cT l);have CL:∀n,(pts (cT l)).take n=pts ((cT l).take n):=fun n=>JG _ n;have hin:=JH l[j];generalize l[j]=x at*;have hmk:v8 x=⟨Al x,CO x,eM (dW x.ts).length,dW x.ts⟩:=rfl;have b1:IntKind.i64.wrap (1+mT x.bV 10)=Al x:=IntWalk.i64_in _ (by show _≤Al x∧Al x≤_;omega);have b2:IntKind.i64.wrap (1+mT x.cE (Al x))=CO x:=IntWalk.i64_in _ (by show _≤CO x∧CO x≤_;omega);generalize Al x=P at*;generalize CO x=b at*;have hTl:(dW x.ts).length=min 3 x.ts.length:=by simp[dW]
  have L7:=bJ (dW x.ts);have Pb:=Cl (dW x.ts);generalize hL:cT l=L at*;unfold QJ Qf;conv=>whnf
  refine fP (by rw[bL];simp;omega) (fun hc=>?_)
  (try rw[hc])
  conv=>whnf
  refine fP (by simp;omega) (fun hc=>?_)
  (try rw[hc])
  conv=>whnf
  refine⟨_,r7,?_⟩;conv=>whnf
  refine ai (jG _ 10 (by omega) (by omega)) ?_;conv=>whnf
  rw[b1];conv=>whnf
  refine⟨_,r7,?_⟩;conv=>whnf
  refine ai (jG _ P (by omega) (by omega)) ?_;conv=>whnf
  rw[b2];conv=>whnf
  refine iX (e':=ek 5 (Qg k l j 0)) (h':=QI (FX 3 (pts L) j) (FY 0 j) P b (dW x.ts) 0) (p:=fun b=>bif Nat.beq b 1 then 8 else b) (Di _ ?_ (vm (uU (Dk Dt j) rfl) (bf ⟨_,rfl,DZ (.cl rfl) (.cl rfl) (.cl rfl)⟩) aZ (bf ⟨_,rfl,pg (Dm rfl (by omega) j) (.cl rfl)⟩) (bf ⟨_,rfl,aX rfl rfl⟩) aZ aZ aZ) (by decide) (by intro b hb;omega) (by omega)) ?_
  ·exact⟨⟨_,rfl,.cl (by simp[AV.cl,aS])⟩,⟨_,rfl,.ptr (by omega)⟩,⟨_,rfl,.ptr (by omega)⟩,⟨_,rfl,.cl rfl⟩,⟨_,rfl,.ptr (by omega)⟩,⟨_,rfl,.cl rfl⟩,trivial⟩
  refine Mh k l j x P b r7 hxs (FY 0 j) (FX 3 (pts L) j) (Dk Dt j) (fun p hp=>Dm hp (by omega) j) ?_;generalize dW x.ts=T at*;refine iq [1,2] (i:=5) (v':=.fp [.int .i64 P,.int .i64 b,.fz (eM T.length) (fQ T)] 0) rfl (.ptr' (by simp) rfl (.cons (.clean rfl) (.cons (.clean rfl) (.cons (Dl (s:=8) Pb L7 (by simp) T.length (bM T).symm rfl) .nil)))) ?_;refine iX (e':=ek 5 [(0,.fz k (pts l)),(2,.ptr 4 0),(3,.ptr 3 0),(4,.int .i64 (j:Nat)),(5,.fp [.int .i64 P,.int .i64 b,.fz (eM T.length) (fQ T)] 0),(6,.int .i64 (T.length:Nat))]) (h':=Qf L j) (p:=id) (Di _ ?_ (vm (uU (Dk Dt j) rfl) aZ aZ (bf ⟨_,rfl,pg (Dm rfl (by omega) j) (.cl rfl)⟩) (bf ⟨_,rfl,aX rfl rfl⟩) aZ aZ aZ) (by decide) (by intro b hb;omega) (by omega)) ?_
  ·exact⟨⟨_,rfl,.cl (by simp[AV.cl,aS])⟩,⟨_,rfl,.ptr (by omega)⟩,⟨_,rfl,.ptr (by omega)⟩,⟨_,rfl,.cl rfl⟩,⟨_,rfl,.cl (by simp[AV.cl,bn,bJ])⟩,⟨_,rfl,.cl rfl⟩,trivial⟩
  refine fK (z:=false) ?_;unfold Qf;have hend:T.length<x.ts.length→T.length=3:=by omega
  generalize hn:T.length=n at*;conv=>whnf
  refine⟨_,r7,?_⟩;conv=>whnf
  by_cases hlt:n<x.ts.length
  ·have h3:=hend hlt;refine fP (by rw[bM];simp;omega) (fun hc=>?_)
   (try rw[hc])
   conv=>whnf
   refine fO (by simp;omega) (fun hc=>?_)
   (try rw[hc])
   conv=>whnf
   cases j with
   |zero=>
    refine⟨_,_,pS (cs:=[.int .i64 P,.int .i64 b,.fz (eM n) (fQ T)]) (by omega) rfl rfl,?_⟩;conv=>whnf
    refine⟨trivial,fun b=>bif Nat.beq b 0 then 9 else b,Di _ (sO rfl rfl rfl rfl rfl (au (j:=0) (by omega))) (vm (bf ⟨_,rfl,aX ?_ (gD (kC Dt _))⟩) aZ aZ (bf ⟨_,rfl,pg (.sl (by omega)) (.cl rfl)⟩) (bf ⟨_,rfl,aX rfl rfl⟩) aZ aZ aZ) (by decide) (by intro b hb;omega) (by omega)⟩;show [.int .i64 P,.int .i64 b,.fz (eM n) (fQ T)]=ah ((pts L).take (0+1));rw[CL,hT,hmk];rfl
   |succ j=>
    have hle:j+1≤L.length:=by omega
    refine⟨_,_,pT (cs:=[.int .i64 P,.int .i64 b,.fz (eM n) (fQ T)]) (vs:=ah ((pts L).take (j+1))) rfl (by rw[kM (size_take Sf _),List.length_take,bL,Nat.min_eq_left hle]) (by omega) (by omega) rfl rfl,?_⟩;conv=>whnf
    refine⟨trivial,fun b=>bif Nat.beq b 0 then 9 else b,Di _ (sO rfl rfl rfl rfl rfl (au (j:=j+1) (by omega))) (vm (bf ⟨_,rfl,aX ?_ (gD (kC Dt _))⟩) aZ aZ (bf ⟨_,rfl,pg (.sl (by omega)) (.cl rfl)⟩) (bf ⟨_,rfl,aX rfl rfl⟩) aZ aZ aZ) (by decide) (by intro b hb;omega) (by omega)⟩;show ah ((pts L).take (j+1))++[.int .i64 P,.int .i64 b,.fz (eM n) (fQ T)]=ah ((pts L).take (j+1+1));rw[CL,CL,hT,hmk,pts,pts,List.map_append,mX];rfl
  ·refine fO (by rw[bM];simp;omega) (fun hc=>?_)
   (try rw[hc])
   conv=>whnf
   cases j with
   |zero=>
    refine⟨_,_,pS (cs:=[.int .i64 P,.int .i64 b,.fz (eM n) (fQ T)]) (by omega) rfl rfl,?_⟩;conv=>whnf
    refine⟨trivial,fun b=>bif Nat.beq b 0 then 9 else b,Di _ (sO rfl rfl rfl rfl rfl (au (j:=0) (by omega))) (vm (bf ⟨_,rfl,aX ?_ (gD (kC Dt _))⟩) aZ aZ (bf ⟨_,rfl,pg (.sl (by omega)) (.cl rfl)⟩) (bf ⟨_,rfl,aX rfl rfl⟩) aZ aZ aZ) (by decide) (by intro b hb;omega) (by omega)⟩;show [.int .i64 P,.int .i64 b,.fz (eM n) (fQ T)]=ah ((pts L).take (0+1));rw[CL,hT,hmk];rfl
   |succ j=>
    have hle:j+1≤L.length:=by omega
    refine⟨_,_,pT (cs:=[.int .i64 P,.int .i64 b,.fz (eM n) (fQ T)]) (vs:=ah ((pts L).take (j+1))) rfl (by rw[kM (size_take Sf _),List.length_take,bL,Nat.min_eq_left hle]) (by omega) (by omega) rfl rfl,?_⟩;conv=>whnf
    refine⟨trivial,fun b=>bif Nat.beq b 0 then 9 else b,Di _ (sO rfl rfl rfl rfl rfl (au (j:=j+1) (by omega))) (vm (bf ⟨_,rfl,aX ?_ (gD (kC Dt _))⟩) aZ aZ (bf ⟨_,rfl,pg (.sl (by omega)) (.cl rfl)⟩) (bf ⟨_,rfl,aX rfl rfl⟩) aZ aZ aZ) (by decide) (by intro b hb;omega) (by omega)⟩;show ah ((pts L).take (j+1))++[.int .i64 P,.int .i64 b,.fz (eM n) (fQ T)]=ah ((pts L).take (j+1+1));rw[CL,CL,hT,hmk,pts,pts,List.map_append,mX];rfl
 ·intro _;have iC:∀g:Heap,g.get 0=FX 3 (pts (cT l)) (cT l).length→Q (.agg [FY 0 (cT l).length,.aq]) g:=by
   subst hQ;intro g hg;exact .U7 (.cons (Dl (s:=3) (sM _) (aS _) trivial _ (bL _).symm hg) (.cons (.clean rfl) .nil))
  clear hQ;have hVf:(FY 0 (cT l).length).flat=true:=by cases(cT l).length<;>rfl
  unfold QJ Qf;generalize FX 3 (pts (cT l)) (cT l).length=O at*;generalize FY 0 (cT l).length=V at*;have hst:(true&&bY [V,.aq])=true:=by
   show cond V.flat true false=true;rw[hVf];rfl
  generalize(cT l).length=n at*;by_cases hn:n<l.length
  ·have hn4:n=4:=by omega
   conv=>whnf
   refine fP (by rw[bL];simp;omega) (fun hc=>?_)
   (try rw[hc])
   conv=>whnf
   refine fO (by simp;omega) (fun hc=>?_)
   (try rw[hc])
   conv=>whnf
   refine CU hst ?_;conv=>whnf
   exact iC _ rfl
  ·conv=>whnf
   refine fO (by rw[bL];simp;omega) (fun hc=>?_)
   (try rw[hc])
   conv=>whnf
   refine CU hst ?_;conv=>whnf
   exact iC _ rfl
end Ir
end Go.Proofs.Ytecdcefacdodgaa
set_option maxRecDepth 100000
set_option linter.unusedSimpArgs false
set_option linter.unusedVariables false
namespace Go.Proofs.Ytecdcefacdodgaa
open Go Ads
namespace Ir
def uR(n:Int)(i:Nat):Bool:=IntKind.i64.wrap ((BitVec.ofInt 64 (n.fdiv (2^(min i 64)))&&&BitVec.ofInt 64 1).toNat:Int)==1
def lX(n:Int)(m:Nat):List Bool:=(List.range m).map (uR n)
theorem xo(n:Int)(m:Nat):(lX n m).length=m:=by simp[lX]
theorem MS(n:Int)(i:Nat):pV (.bin .shr) [.int .i64 n,.int .i64 (i:Nat)]=some (.int .i64 (n.fdiv (2^(min i 64)))):=by
 simp only[pV,KF,l2,AU,xG,iN,cond_true,ld];rw[decide_eq_false (by omega)];rfl
def MY(k:Nat)(L:List Pt)(n:Int)(j:Nat):List (Nat×AV):=[(1,.int .i64 n),(2,.fp [.fz k (pts L),.aq] 0),(5,FY 0 j),(6,.int .i64 ((j:Nat):Int))]
theorem vq(l:List Bool)(n:Nat):(gG l).take n=gG (l.take n):=by simp[gG,List.map_take]
theorem NT(k:Nat)(L:List Pt)(n:Int)(hs:Small L)(hl:L.length≤1000):PC fs ms 17 [cfg k L,.int .i64 n] (.fz (eM L.length) (gG (lX n L.length))):=by
 refine⟨by simp[bn,qW,AV.cl],by simp[AV.cl,lg],?_⟩;refine iZ (af:=S3) rfl (Nat.le_of_ble_eq_true rfl) ?_;generalize hQ:(fun(u:AV) (g:Heap)=>kz (fun _=>True) g u (.fz (eM L.length) (gG (lX n L.length))))=Q;conv=>whnf
 refine iY false ?_;conv=>whnf
 refine iq [0] (i:=2) (v':=.fp [.fz k (pts L),.aq] 0) rfl (.ptr' (by simp) rfl (.clean (by simp[cfg,AV.cells,bn,AV.cl,aS]))) ?_;refine dy 5 [(1,.int .i64 n),(2,.fp [.fz k (pts L),.aq] 0)] ?_ ?_
 ·exact⟨⟨_,rfl,.cl rfl⟩,⟨_,rfl,.cl (by simp[AV.cl,bn,aS])⟩,trivial⟩
 refine bg (z:=false) ?_;have W8:=xo n L.length;have hWg:∀j,j<L.length→(lX n L.length).take (j+1)=(lX n L.length).take j++[uR n j]:=by
  intro j hj;rw[eG (by rw[W8];exact hj)];simp[lX]
 generalize lX n L.length=W at*;have OL:=lg W;have Sg:=wQ W;conv=>whnf
 refine iX (e':=ek 5 (MY k L n 0)) (h':=H3 (FX 1 (gG W) 0) none none) (p:=id) (Oq id ⟨⟨_,rfl,.cl rfl⟩,⟨_,rfl,.cl (by simp[AV.cl,bn,aS])⟩,⟨_,rfl,.cl rfl⟩,⟨_,rfl,.cl rfl⟩,trivial⟩ aZ aZ aZ (by decide) (by decide) (by decide) (by intro b hb;rfl) (Nat.zero_le _)) ?_;show VC fs ms 0 false _ _ _ _;refine jR 0 5 L.length (fun _=>True) (MY k L n) (fun j=>H3 (FX 1 (gG W) j) none none) (fun j hj _=>?_) (fun _=>?_) trivial
 ·have hT:=hWg j hj;unfold MY;conv=>whnf
  refine fP (by rw[bL];simp;omega) (fun hc=>?_)
  (try rw[hc])
  conv=>whnf
  refine⟨_,MS n j,?_⟩;cases j with
  |zero=>
   conv=>whnf
   refine⟨_,_,pS (cs:=[.bool (uR n 0)]) (by omega) rfl rfl,?_⟩;conv=>whnf
   refine⟨trivial,fun b=>bif Nat.beq b 0 then 4 else b,Oq _ ⟨⟨_,rfl,.cl rfl⟩,⟨_,rfl,.cl (by simp[AV.cl,bn,aS])⟩,⟨_,rfl,.sl (by omega)⟩,⟨_,au (j:=0) (by omega),.cl rfl⟩,trivial⟩ (bf ⟨_,rfl,aX ?_ (gD (kC OL _))⟩) aZ aZ (by decide) (by decide) (by decide) (by intro b hb;omega) (by omega)⟩;show [AV.bool (uR n 0)]=ah ((gG W).take (0+1));rw[vq,hT];rfl
  |succ j=>
   conv=>whnf
   refine⟨_,_,pT (cs:=[.bool (uR n (j+1))]) (vs:=ah ((gG W).take (j+1))) rfl (by rw[kM (size_take Sg _),List.length_take,dQ];omega) (by omega) (by omega) rfl rfl,?_⟩;conv=>whnf
   refine⟨trivial,fun b=>bif Nat.beq b 0 then 4 else b,Oq _ ⟨⟨_,rfl,.cl rfl⟩,⟨_,rfl,.cl (by simp[AV.cl,bn,aS])⟩,⟨_,rfl,.sl (by omega)⟩,⟨_,au (j:=j+1) (by omega),.cl rfl⟩,trivial⟩ (bf ⟨_,rfl,aX ?_ (gD (kC OL _))⟩) aZ aZ (by decide) (by decide) (by decide) (by intro b hb;omega) (by omega)⟩;show ah ((gG W).take (j+1))++[AV.bool (uR n (j+1))]=ah ((gG W).take (j+1+1));rw[vq,vq,hT,gG,gG,List.map_append,mX];rfl
 ·have iC:Q (FY 0 L.length) (H3 (FX 1 (gG W) L.length) none none):=by
   subst hQ;exact Dl (s:=1) Sg OL trivial _ (by rw[dQ,W8]) rfl
  clear hQ;unfold MY;generalize H3 (FX 1 (gG W) L.length) none none=G at*;generalize FY 0 L.length=V at*;conv=>whnf
  refine fO (by rw[bL];simp) (fun hc=>?_)
  (try rw[hc])
  conv=>whnf
  exact iC
end Ir
end Go.Proofs.Ytecdcefacdodgaa
set_option maxRecDepth 100000
set_option linter.unusedSimpArgs false
set_option linter.unusedVariables false
namespace Go.Proofs.Ytecdcefacdodgaa
open Go Ads
namespace Ir
def wt(x:Pt):Int:=x.cE*(2520/x.bV)
def fq:List Pt→Int
 |[]=>0
 |x::l=>wt x+fq l
theorem kV:∀l m:List Pt,fq (l++m)=fq l+fq m
 |[],m=>by simp[fq]
 |x::l,m=>by simp only[List.cons_append,fq,kV l m];omega
def ki(x:Pt):Prop:=1≤x.bV∧x.bV≤10∧1≤x.cE∧x.cE≤x.bV
theorem GD{d:Int}(h1:1≤d)(h2:d≤10):2520/d*d=2520:=by
 have:d=1∨d=2∨d=3∨d=4∨d=5∨d=6∨d=7∨d=8∨d=9∨d=10:=by omega
 rcases this with rfl|rfl|rfl|rfl|rfl|rfl|rfl|rfl|rfl|rfl<;>decide
theorem Kr{x:Pt}(h:ki x):wt x*x.bV=x.cE*2520:=by
 unfold wt;rw[Int.mul_assoc,GD h.1 h.2.1]
theorem J0{x:Pt}(h:ki x):qn x=true:=(mu x).2 ⟨by have:=h.2.1;omega,h.2.2.1,h.2.2.2⟩
theorem HX{p:Int×Int}{t d W w:Int}(h1:p.1*2520=p.2*W)(TH:0≤p.1)(Qv:1≤p.2)(ht:0≤t)(hd:1≤d)(hw:w*d=t*2520):(qK p t d).1*2520=(qK p t d).2*(W+w):=by
 obtain⟨a,b⟩:=p;simp only at h1 TH Qv;have m1:=Int.mul_nonneg TH (show 0≤d by omega);have m2:=Int.mul_nonneg ht (show 0≤b by omega);have m4:=Aj Qv hd;have hT:0≤jC a b t d:=by unfold jC;omega
 have F6:0<Nat.gcd (jC a b t d).toNat (b*d).toNat:=Nat.gcd_pos_of_pos_right _ (by omega);have hg:gS a b t d=(Nat.gcd (jC a b t d).toNat (b*d).toNat:Nat):=rfl;have d1:gS a b t d∣jC a b t d:=by
  rw[hg,show jC a b t d=(((jC a b t d).toNat:Nat):Int) by omega];exact Int.ofNat_dvd.2 (Nat.gcd_dvd_left _ _)
 have d2:gS a b t d∣b*d:=by
  rw[hg,show b*d=(((b*d).toNat:Nat):Int) by omega];exact Int.ofNat_dvd.2 (Nat.gcd_dvd_right _ _)
 have e1:=Int.mul_ediv_cancel' d1;have e2:=Int.mul_ediv_cancel' d2;show jC a b t d/gS a b t d*2520=b*d/gS a b t d*(W+w);have GW:gS a b t d≠0:=by omega
 generalize gS a b t d=g at*;generalize jC a b t d/g=x at*;generalize b*d/g=y at*;refine Int.eq_of_mul_eq_mul_left GW ?_;rw[←Int.mul_assoc,e1,←Int.mul_assoc,e2];unfold jC;have c1:(a*d+t*b)*2520=(a*2520)*d+(t*2520)*b:=by
  rw[Int.add_mul,Int.mul_right_comm,Int.mul_right_comm t]
 rw[c1,h1,←hw,Int.mul_add];have c2:b*W*d=b*d*W:=Int.mul_right_comm ..;have c3:w*d*b=b*d*w:=by rw[Int.mul_comm (w*d) b,Int.mul_comm w d,Int.mul_assoc]
 rw[c2,c3]
theorem Hh{L:List Pt}(h:∀x,x∈L→ki x):∀j,j≤L.length→(gO L j).1*2520=(gO L j).2*fq (L.take j)∧x8 (gO L j) j
 |0,_=>by simp[gO,fq,x8,M4,Ku]
 |j+1,hj=>by
  obtain⟨ih1,ih2⟩:=Hh h j (by omega);have hx:=h _ (List.getElem_mem (show j<L.length by omega));rw[sW (by omega),eG (by omega),kV];have h1:=hx.1;have h2:=hx.2.1;have h3:=hx.2.2.1;have h4:=hx.2.2.2;have hw:=Kr hx;have he:fq [L[j]]=wt L[j]:=by simp[fq]
  rw[he];exact⟨HX ih1 ih2.1 ih2.2.2.1 (by omega) h1 hw,AI ih2 ⟨by omega,by omega⟩ ⟨by omega,by omega⟩⟩
theorem wY{L:List Pt}(h:∀x,x∈L→ki x)(h4:L.length≤4):l6 L=(gO L L.length,true):=by
 rw[l6,if_neg (by omega)];cases mh:b9 (fo L) 0 L.length with
 |none=>rfl
 |some u=>
  obtain⟨u1,u2,u3,u4⟩:=dH mh;rw[pq (by omega),J0 (h _ (List.getElem_mem (by omega)))] at u3;exact absurd u3 (by decide)
theorem Ar{L:List Pt}(h:∀x,x∈L→ki x)(h4:L.length≤4):iU L=0↔fq L≤2520:=by
 obtain⟨h1,h2⟩:=Hh h L.length (Nat.le_refl _);rw[List.take_length] at h1;have hs:=wY h h4;unfold iU;rw[hs];simp only[if_true];obtain⟨i1,i2,i3,i5⟩:=h2;generalize gO L L.length=p at*;obtain⟨a,b⟩:=p;simp only at h1 i1 i3;generalize fq L=W at*;constructor
 ·intro h;have hab:a≤b:=by
   by_cases c:b<a
   ·rw[if_pos c] at h;exact absurd h (by decide)
   ·omega
  have:b*W≤b*2520:=by
   rw[←h1];exact Int.mul_le_mul_of_nonneg_right hab (by omega)
  exact Int.le_of_mul_le_mul_left this (by omega)
 ·intro h;have:a*2520≤b*2520:=by
   rw[h1];exact Int.mul_le_mul_of_nonneg_left h (by omega)
  have:=Int.le_of_mul_le_mul_right this (by omega);rw[if_neg (by show¬b<a;omega)]
end Ir
end Go.Proofs.Ytecdcefacdodgaa
set_option maxRecDepth 100000
set_option linter.unusedSimpArgs false
set_option linter.unusedVariables false
namespace Go.Proofs.Ytecdcefacdodgaa
open Go Ads
namespace Ir
def NU(x:Pt):Prop:=∀t,t∈x.ts→t.c=0
theorem xl{A:List Pt}{a:Int}{t:Tk}(h:t.c=0):eN A a t=0:=by rw[eN,if_pos h]
theorem Af{A B:List Pt}{a b:Int}{t:Tk}(h:t.c=0):dF A a t=dF B b t:=by
 unfold dF;rw[xl h,xl h]
theorem CV{A B:List Pt}{a b:Int}{t:Tk}(h:t.c=0):ez A a t=ez B b t:=by rw[ez,ez,if_pos h,if_pos h]
theorem B1{A B:List Pt}{a b n:Int}{ts:List Tk}(h:∀t,t∈ts→t.c=0):∀j,og A a n ts j=og B b n ts j
 |0=>rfl
 |j+1=>by
  rw[og,og,B1 (A:=A) (B:=B) (a:=a) (b:=b) h j];cases hx:ts[j]? with
  |none=>rfl
  |some t=>simp only[CV (A:=A) (B:=B) (a:=a) (b:=b) (h t (List.mem_of_getElem? hx))]
theorem Eg{A:List Pt}{i:Nat}{x:Pt}(hi:A[i]?=some x)(hx:NU x)(hd:aB A=aB [x]):cB A (i:Nat)=cB [x] 0:=by
 have hm:cO A i=cO [x] 0:=by
  unfold cO;rw[hi];exact List.map_congr_left fun t ht=>Af (hx t ht)
 have h0:∀n,qX A ((i:Nat):Int) n=qX [x] 0 n:=by
  intro n;unfold qX;rw[hd,show((i:Nat):Int).toNat=i by simp,hi];show(if aB [x]=2 then((0:Int),(2:Int)) else if((i:Nat):Int)<0 then(0,9) else if n<0 then(0,2) else(og A (i:Nat) n x.ts x.ts.length,0))=(if aB [x]=2 then(0,2) else if(0:Int)<0 then(0,9) else if n<0 then(0,2) else(og [x] 0 n x.ts x.ts.length,0));rw[if_neg (show¬((i:Nat):Int)<0 by omega),if_neg (show¬(0:Int)<0 by omega),B1 (A:=A) (B:=[x]) (a:=((i:Nat):Int)) (b:=0) hx]
 unfold cB;rw[hd,show((i:Nat):Int).toNat=i by simp,hi];have hb:rQ x A ((i:Nat):Int) (cO [x] 0)=rQ x [x] 0 (cO [x] 0):=by
  funext t
  unfold rQ j9;rw[h0]
 show(if aB [x]=2 then((0:Int),(2:Int)) else if((i:Nat):Int)<0 then(0,9) else if x.ts.length=0 then(0,0) else sQ x A (i:Nat) (cO A i))=(if aB [x]=2 then(0,2) else if(0:Int)<0 then(0,9) else if x.ts.length=0 then(0,0) else sQ x [x] 0 (cO [x] 0));rw[if_neg (show¬((i:Nat):Int)<0 by omega),if_neg (show¬(0:Int)<0 by omega),hm];simp only[sQ,hb]
theorem PF(t:Tk)(b:Int):dw (PE t)=true∧qB (PE t) b=true∧qA (PE t) b=true∧(PE t).c=0:=by
 obtain⟨hp,hd,hw,-⟩:=Jn 1 t (by omega);have h1:nv (uz t) 1 64=true:=gY.2 hp;have h2:nv (uy t) 1 (uz t)=true:=gY.2 hd;have h3:nv (nw t) 1 (uy t)=true:=gY.2 hw;refine⟨decide_eq_true ?_,decide_eq_true ?_,?_,rfl⟩
 ·show 1≤nw t∧nw t≤uy t∧uy t≤uz t∧uz t≤64;omega
 ·show(0:Int)≤0∧0≤nw t∧(0:Int)≤0∧(0:Int)≤4∧(((0:Int)=0∧(0:Int)=0∧(0:Int)=0)∨_);exact⟨by omega,by omega,by omega,by omega,.inl ⟨rfl,rfl,rfl⟩⟩
 ·show(nv (uz t) 1 64&&nv (uy t) 1 (uz t)&&nv (nw t) 1 (uy t)&&true&&true&&true&&true&&true)=true;rw[h1,h2,h3];rfl
theorem Ab(x:Pt):gN (v8 x)=true∧lK (v8 x)=true∧ki (v8 x)∧NU (v8 x)∧(v8 x).ts.length≤3:=by
 have hin:=JH x;have Wi:Al x≤10:=by
  have a2:=Int.emod_lt_of_pos x.bV (show(0:Int)<10 by omega);unfold Al;omega
 have ht:∀t,t∈(v8 x).ts→dw t=true∧qB t (CO x)=true∧qA t (CO x)=true∧t.c=0:=by
  intro t ht;obtain⟨u,-,rfl⟩:=List.mem_map.1 ht;exact PF u _
 have hl:(v8 x).ts.length≤3:=by
  show(dW x.ts).length≤3;simp[dW];omega
 refine⟨?_,?_,⟨hin.1,Wi,hin.2.2.1,hin.2.2.2⟩,fun t h=>(ht t h).2.2.2,hl⟩
 ·simp only[gN,Bool.and_eq_true];refine⟨decide_eq_true hin,?_,List.all_eq_true.2 fun t h=>(ht t h).2.1⟩;rw[cL,Bool.and_eq_true,List.all_eq_true];exact⟨fun t h=>(ht t h).1,decide_eq_true (by omega)⟩
 ·simp only[lK,Bool.and_eq_true,decide_eq_true_eq];exact⟨⟨⟨gY.2 ⟨hin.1,hin.2.1⟩,gY.2 ⟨hin.2.2.1,hin.2.2.2⟩⟩,by omega⟩,List.all_eq_true.2 fun t h=>(ht t h).2.2.1⟩
theorem tM{l:List Pt}{x:Pt}(h:x∈cT l):∃y,x=v8 y:=by
 obtain⟨y,-,rfl⟩:=List.mem_map.1 h;exact⟨y,rfl⟩
def Plain(x:Pt):Prop:=gN x=true∧lK x=true∧ki x∧NU x
theorem uw{l:List Pt}:∀x,x∈cT l→Plain x:=by
 intro x hx;obtain⟨y,rfl⟩:=tM hx;have:=Ab y;exact⟨this.1,this.2.1,this.2.2.1,this.2.2.2.1⟩
theorem wz{M:List Pt}(h:∀x,x∈M→Plain x)(h1:1≤M.length)(h4:M.length≤4):mc M=true:=by
 simp only[mc,Bool.and_eq_true,decide_eq_true_eq];exact⟨⟨List.all_eq_true.2 fun x hx=>(h x hx).2.1,h1⟩,h4⟩
theorem kS{M:List Pt}(h:∀x,x∈M→Plain x)(h4:M.length≤4):aB M=0:=by
 unfold aB;rw[if_pos ⟨h4,List.all_eq_true.2 fun x hx=>(h x hx).1⟩]
theorem nH{M:List Pt}{w:List Bool}(h:∀x,x∈M→Plain x)(h1:1≤M.length)(h4:M.length≤4)(hw:w.length=M.length):
  (gn M w).2.2=0↔(fq (cR M w M.length)≤2520∧∀x,x∈cR M w M.length→(cB [x] 0).2=0):=by
 have xJ:dO M w=0:=by rw[dO,if_pos (wz h h1 h4),if_pos hw]
 have O5:=(sI hw M.length (Nat.le_refl _)).1;have hS:∀x,x∈cR M w M.length→Plain x:=fun x hx=>h x (pn hx);unfold gn;rw[xJ,if_neg (by omega)];generalize cR M w M.length=S at*;have hsh:=Ar (fun x hx=>(hS x hx).2.2.1) (show S.length≤4 by omega);have xK:=kS hS (by omega);have ht:∀i (hi:i<S.length),cB S ((i:Nat):Int)=cB [S[i]] 0:=by
  intro i hi;have hx:=hS _ (List.getElem_mem hi);refine Eg (List.getElem?_eq_getElem hi) hx.2.2.2 ?_;rw[xK,kS (M:=[S[i]]) (fun x EZ=>by rw[List.mem_singleton] at EZ;rw[EZ];exact hx) (by simp)]
 by_cases hs:iU S=0
 ·rw[if_neg (by omega)];cases mh:b9 (fun i=>!((cB S ((i:Nat):Int)).2==0)) 0 S.length with
  |none=>
   refine⟨fun _=>⟨hsh.1 hs,fun x hx=>?_⟩,fun _=>rfl⟩;obtain⟨i,hi,rfl⟩:=List.getElem_of_mem hx;have:=ef mh i hi;rw[Nat.zero_add,ht i hi] at this;simpa using this
  |some u=>
   obtain⟨u1,u2,u3,u4⟩:=dH mh;have hu:u<S.length:=by omega
   rw[ht u hu] at u3;have hne:(cB [S[u]] 0).2≠0:=by simpa using u3
   refine⟨fun h0=>?_,fun h0=>absurd (h0.2 _ (List.getElem_mem hu)) hne⟩;have h0:(cB S ((u:Nat):Int)).2=0:=h0;rw[ht u hu] at h0;exact absurd h0 hne
 ·rw[if_pos hs];exact⟨fun h0=>absurd h0 hs,fun h0=>absurd (hsh.2 h0.1) hs⟩
end Ir
end Go.Proofs.Ytecdcefacdodgaa
