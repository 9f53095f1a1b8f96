/-
  Tune: partitions that are the same; partitions that are given budgets.
-/
import Derived.Test.YtepdklcpagielaaVTlA
set_option maxRecDepth 100000
set_option linter.unusedSimpArgs false
set_option linter.unusedVariables false
namespace Go.Proofs.Ytepdklcpagielaa
open Go Ads
namespace Ir
def ZH(A B:List Pt):Prop:=A.length=B.length∧∀(i:Nat) (h:i<A.length) (h':i<B.length),A[i].cJ=B[i].cJ∧A[i].cn=B[i].cn∧A[i].ts=B[i].ts
theorem Tl(t:Tk):pV (.neq (.cells [0,0,0,0,0,0,0,0])) [tk t,tk t]=some (.bool false):=by
 simp[pV,NC,l2,Dd,eC,qK,tk]
def Rr(k k':Nat)(A B:List Pt)(i:Nat):List (Nat×AV):=[(0,.fz k (pts A)),(1,.fz k' (pts B)),(5,.int .i64 ((i:Nat):Int))]
theorem Xg{k k':Nat}{A B:List Pt}{i:Nat}(hi:i<A.length)(hi':i<B.length)(hts:A[i].ts=B[i].ts)(hl:A[i].ts.length<2^60){Bs:Nat}{Q:AX→Env→Heap→Prop}
  (hQ:∀e' h',aP e' (Rr k k' A B i)→Q (.exit 2) e' h'):
  ∀(n j:Nat) (h:Heap) (env:Env),A[i].ts.length-j=n→j≤A[i].ts.length→aP env (Rr k k' A B i++[(6,.int .i64 ((j:Nat):Int))])→
  VC fs ms Bs false (.loop jF) env h Q:=by
 have ia:=gH (k:=k) hi;have ib:=gH (k:=k') hi';generalize A[i]=x at*;generalize B[i]=y at*;obtain⟨xp,xb,xk,xt⟩:=x;obtain⟨yp,yb,yk,yt⟩:=y;simp only at hts hl⊢;subst hts;intro n;induction n using Nat.strongRecOn with
 |ind n ih=>
 intro j h env hn hj cH;refine ak 4 _ cH ?_;refine lU (z:=true) ?_;unfold Rr;conv=>whnf
 refine⟨_,ia,?_⟩;conv=>whnf
 refine⟨.fz xk (dI xt),rfl,?_⟩;conv=>whnf
 rw[show(dI xt).length=xt.length from List.length_map ..];refine br (fun hc=>?_) (fun hc=>?_)<;>(try rw[hc])<;>(conv=>whnf)
 ·have hlt:j<xt.length:=by have:=of_decide_eq_true hc;omega
  refine⟨_,ia,?_⟩;conv=>whnf
  refine⟨.fz xk (dI xt),rfl,?_⟩;conv=>whnf
  refine⟨_,iP hlt,?_⟩;conv=>whnf
  refine⟨tk xt[j],rfl,?_⟩;conv=>whnf
  refine⟨_,ib,?_⟩;conv=>whnf
  refine⟨.fz yk (dI xt),rfl,?_⟩;conv=>whnf
  refine⟨_,iP hlt,?_⟩;conv=>whnf
  refine⟨tk xt[j],rfl,?_⟩;conv=>whnf
  refine sZ (Tl _) ?_;conv=>whnf
  exact ih (xt.length-(j+1)) (by omega) (j+1) h _ rfl (by omega) (by repeat' (first|exact trivial|refine And.intro (by first|with_reducible_and_instances rfl|(refine Eq.trans (b:=some (AV.int .i64 _)) rfl (congrArg (fun z=>some (AV.int .i64 z)) ?_);first|omega|(simp(disch:=omega) only[IntWalk.i64_in]<;>omega))|rfl) ?_))
 ·exact hQ _ _ (by repeat' (first|exact trivial|refine And.intro (by first|with_reducible_and_instances rfl|(refine Eq.trans (b:=some (AV.int .i64 _)) rfl (congrArg (fun z=>some (AV.int .i64 z)) ?_);first|omega|(simp(disch:=omega) only[IntWalk.i64_in]<;>omega))|rfl) ?_))
theorem TI{k k':Nat}{A B:List Pt}(hE:ZH A B)(hA:A.length<2^60)(hl:∀x∈A,x.ts.length<2^60){Bs:Nat}{Q:AX→Env→Heap→Prop}
  (hQ:∀e' h',Q (.exit 0) e' h'):
  ∀(n i:Nat) (h:Heap) (env:Env),A.length-i=n→i≤A.length→aP env (Rr k k' A B i)→
  VC fs ms Bs false (.loop jE) env h Q:=by
 intro n;induction n using Nat.strongRecOn with
 |ind n ih=>
 intro i h env hn hi cH;refine ak 4 _ cH ?_;refine bJ (aj true ?_);unfold Rr;conv=>whnf
 rw[bh];refine br (fun hc=>?_) (fun hc=>?_)<;>(try rw[hc])<;>(conv=>whnf)
 ·have hlt:i<A.length:=by have:=of_decide_eq_true hc;omega
  have hlt':i<B.length:=by rw[←hE.1];exact hlt
  obtain⟨e1,e2,e3⟩:=hE.2 i hlt hlt';have hlx:=hl _ (List.getElem_mem hlt);have ia:=gH (k:=k) hlt;have ib:=gH (k:=k') hlt';refine az (aL ?_);refine az ?_;refine VC.mono (Q:=fun x e2 h2=>x=.normal∧aP e2 (Rr k k' A B i)) ?_ ?_
  ·refine aa (z:=true) ?_;generalize A[i]=x at*;generalize B[i]=y at*;obtain⟨xp,xb,xk,xt⟩:=x;obtain⟨yp,yb,yk,yt⟩:=y;simp only at e1 e2 e3 hlx;subst e1 e2 e3;conv=>whnf
   refine⟨_,ia,?_⟩;conv=>whnf
   refine⟨.int .i64 xp,rfl,?_⟩;conv=>whnf
   refine⟨_,ib,?_⟩;conv=>whnf
   refine⟨.int .i64 xp,rfl,?_⟩;conv=>whnf
   rw[show(xp !=xp)=false by simp];conv=>whnf
   refine⟨_,ia,?_⟩;conv=>whnf
   refine⟨.int .i64 xb,rfl,?_⟩;conv=>whnf
   refine⟨_,ib,?_⟩;conv=>whnf
   refine⟨.int .i64 xb,rfl,?_⟩;conv=>whnf
   rw[show(xb !=xb)=false by simp];conv=>whnf
   refine⟨_,ia,?_⟩;conv=>whnf
   refine⟨.fz xk (dI xt),rfl,?_⟩;conv=>whnf
   refine⟨_,ib,?_⟩;conv=>whnf
   refine⟨.fz yk (dI xt),rfl,?_⟩;conv=>whnf
   rw[show((((dI xt).length:Nat):Int)!=(((dI xt).length:Nat):Int))=false by simp];conv=>whnf
   exact⟨rfl,rfl,rfl,rfl,trivial⟩
  ·rintro x Cp h2 ⟨rfl,he⟩;show VC fs ms _ _ _ _ _ _;refine ak 4 _ he (aj true ?_);unfold Rr;conv=>whnf
   refine aL ?_;refine Xg (k:=k) (k':=k') hlt hlt' e3 hlx ?_ _ 0 h2 _ rfl (Nat.zero_le _) (by repeat' (first|exact trivial|refine And.intro (by first|with_reducible_and_instances rfl|(refine Eq.trans (b:=some (AV.int .i64 _)) rfl (congrArg (fun z=>some (AV.int .i64 z)) ?_);first|omega|(simp(disch:=omega) only[IntWalk.i64_in]<;>omega))|rfl) ?_));intro e3 h3 he3;show VC fs ms _ _ _ _ _ _;refine ak 4 _ he3 (aa (z:=true) ?_);unfold Rr;conv=>whnf
   exact ih (A.length-(i+1)) (by omega) (i+1) h3 _ rfl (by omega) (by repeat' (first|exact trivial|refine And.intro (by first|with_reducible_and_instances rfl|(refine Eq.trans (b:=some (AV.int .i64 _)) rfl (congrArg (fun z=>some (AV.int .i64 z)) ?_);first|omega|(simp(disch:=omega) only[IntWalk.i64_in]<;>omega))|rfl) ?_))
 ·exact hQ _ _
theorem EK(k k':Nat){A B:List Pt}(hE:ZH A B)(hA:A.length<2^60)(hl:∀x∈A,x.ts.length<2^60):PC fs ms 33 [.fz k (pts A),.fz k' (pts B)] (.bool true):=by
 refine aX (by simp[bL,AV.cl,bz]) rfl ?_;generalize hK:(fun(u:AV) (_:Heap)=>u=.bool true)=K;have QW:∀h,K (.bool true) h:=fun h=>by subst hK;rfl
 clear hK;generalize(⟨0,.nil⟩:Heap)=h0;refine bw (af:=XK) rfl (Nat.le_of_ble_eq_true rfl) ?_;conv=>whnf
 refine aj true ?_;conv=>whnf
 refine aj true ?_;conv=>whnf
 rw[bh,bh,hE.1];rw[show(((B.length:Nat):Int)!=((B.length:Nat):Int))=false by simp];conv=>whnf
 refine az (aj true ?_);conv=>whnf
 refine aL ?_;refine TI (k:=k) (k':=k') hE hA hl ?_ _ 0 h0 _ rfl (Nat.zero_le _) (by repeat' (first|exact trivial|refine And.intro (by first|with_reducible_and_instances rfl|(refine Eq.trans (b:=some (AV.int .i64 _)) rfl (congrArg (fun z=>some (AV.int .i64 z)) ?_);first|omega|(simp(disch:=omega) only[IntWalk.i64_in]<;>omega))|rfl) ?_));intro e' h';show VC fs ms _ _ _ _ _ _;refine ak 4 [] trivial (aa (z:=true) ?_);conv=>whnf
 exact QW _
end Ir
end Go.Proofs.Ytepdklcpagielaa
