/-
  Judge: JudgeCounts.
-/
import Derived.Test.YtepdklcpagielaaVJdC
import Derived.Test.YtepdklcpagielaaVJdW
set_option maxRecDepth 100000
set_option linter.unusedSimpArgs false
set_option linter.unusedVariables false
namespace Go.Proofs.Ytepdklcpagielaa
open Go Ads
namespace Ir
theorem Er:∀{L:List Nt} {i:Nat} (h:i<L.length),((ai (b8 L)).drop (i*7)).take 7=(nt L[i]).cells
 |x::L,0,h=>rfl
 |x::L,i+1,h=>by
  have:=Er (L:=L) (i:=i) (by simpa using h);rw[List.getElem_cons_succ,←this,show(i+1)*7=7+i*7 by omega,←List.drop_drop];rfl
theorem Ep:∀(L:List Nt) (i:Nat) (h:i<L.length) (v:Int),Heap.splice (ai (b8 L)) (i*7+0) [.int .i64 v]=ai (b8 (L.set i {L[i] with a:=v}))
 |x::L,0,h,v=>by
  show AV.int .i64 v::Heap.splice _ 0 []=_;rw[c8];rfl
 |x::L,i+1,h,v=>by
  have:=Ep L i (by simpa using h) v;rw[List.set_cons_succ,List.getElem_cons_succ,show(i+1)*7+0=i*7+0+7 by omega];show AV.int .i64 x.a::.int .i64 x.k::.int .i64 x.p::.int .i64 x.t::.int .i64 x.n::.int .i64 x.e::.str x.s::Heap.splice (ai (b8 L)) (i*7+0) [.int .i64 v]=_;rw[this];rfl
theorem Rm(x:Nt):pV (.neq (.cells [0,0,0,0,0,0,2])) [nt x,nt x]=some (.bool false):=by
 simp[pV,nt,Dd,eC,qK]
theorem U2{k:Nat}{M:List Nt}{b:Nat}{h0:Heap}(hb:h0.next≤b)(hl:M.length≤140737488355328){B:Nat}{Q:AX→Env→Heap→Prop}{X0 X1 X2:AV}
  (hQ:∀e' h',Fr h0 h' []→aP e' [(0,X0),(1,X1),(5,X2),(8,.fz k (b8 M))]→Q (.exit 0) e' h'):
  ∀(m j:Nat) (h:Heap) (L:List Nt) (env:Env),M.length-j=m→j≤M.length→Fr h0 h []→L.length=M.length→(∀i,j≤i→L[i]?=M[i]?)→h.get b=some (.cells (ai (b8 L)) true 7)→
  aP env [(0,X0),(1,X1),(5,X2),(7,.sl b 0 M.length M.length true),(8,.fz k (b8 M)),(9,.int .i64 ((j:Nat):Int))]→
  VC fs ms B false (.loop fN) env h Q:=by
 intro m;induction m using Nat.strongRecOn with
 |ind m ih=>
 intro j h L env hm hj fr hL hLM hg cH;refine ak 4 _ cH ?_;refine bJ (aj true ?_);conv=>whnf
 refine br (fun hc=>?_) (fun hc=>?_)<;>(try rw[hc])<;>(conv=>whnf)
 ·have hlt:j<M.length:=by have:=of_decide_eq_true hc;omega
  have rG:=kF (k:=k) hlt;have hxe:L[j]'(by omega)=M[j]:=by
   have:=hLM j (Nat.le_refl _);rw[List.getElem?_eq_getElem hlt,List.getElem?_eq_getElem (by omega)] at this;simpa using this
  have xP:=Er (L:=L) (i:=j) (by omega);have hst:=Ep L j (by omega) (-1);have hfl:(ai (b8 L)).length=L.length*7:=by rw[c9 (dK L),bU]
  rw[hxe] at xP hst;generalize hx:M[j]=x at*;refine az (aL ?_);refine aj true ?_;conv=>whnf
  refine⟨_,l9 hlt,?_⟩;conv=>whnf
  refine⟨nt x,by rw[tU hg (by omega),xP];rfl,?_⟩;conv=>whnf
  refine⟨_,rG,?_⟩;conv=>whnf
  refine⟨nt x,rfl,?_⟩;conv=>whnf
  refine sZ (Rm x) ?_;conv=>whnf
  refine aa (z:=true) ?_;conv=>whnf
  refine⟨_,l9 hlt,?_⟩;conv=>whnf
  refine aT (cD (n:=1) (v:=.int .i64 (-1)) hg rfl (by omega) rfl) fun h1 e1=>?_;conv=>whnf
  have hg1:h1.get b=some (.cells (ai (b8 (L.set j {x with a:=-1}))) true 7):=by rw[e1,aG];exact congrArg (fun z=>some (dm.cells z true 7)) hst
  have cT:Fr h0 h1 []:=by rw[e1];exact fr.lD hb
  clear e1;refine aa (z:=true) ?_;conv=>whnf
  refine ih (M.length-(j+1)) (by omega) (j+1) h1 _ _ rfl (by omega) cT (by rw[List.length_set];exact hL) (fun i hi=>?_) hg1 ⟨rfl,rfl,rfl,rfl,rfl,ay (by omega),trivial⟩;rw[List.getElem?_set_ne (by omega)];exact hLM i (by omega)
 ·have hge:j=M.length:=by have:=of_decide_eq_false hc;omega
  exact hQ _ _ fr ⟨rfl,rfl,rfl,rfl,trivial⟩
theorem RF{k k2:Nat}{M:List Nt}{h:Heap}(hl:M.length≤140737488355328){B:Nat}{Q:AX→Env→Heap→Prop}{X0 X1 X2:AV}
  (hQ:∀e',aP e' [(0,X0),(1,X1),(5,X2)]→Q (.exit 2) e' h):
  ∀(m j:Nat) (env:Env),M.length-j=m→j≤M.length→
  aP env [(0,X0),(1,X1),(5,X2),(8,.fz k (b8 M)),(10,.fz k2 (b8 M)),(11,.int .i64 ((j:Nat):Int))]→
  VC fs ms B false (.loop fO) env h Q:=by
 intro m;induction m using Nat.strongRecOn with
 |ind m ih=>
 intro j env hm hj cH;refine ak 4 _ cH ?_;refine bJ (aj true ?_);conv=>whnf
 rw[bU];refine br (fun hc=>?_) (fun hc=>?_)<;>(try rw[hc])<;>(conv=>whnf)
 ·have hlt:j<M.length:=by have:=of_decide_eq_true hc;omega
  have rG:=kF (k:=k) hlt;have abz:=kF (k:=k2) hlt;generalize hx:M[j]=x at*;refine az (aL ?_);refine aa (z:=true) ?_;conv=>whnf
  rw[bU];rw[show decide (((j:Nat):Int)≥((M.length:Nat):Int))=false from decide_eq_false (by omega)];conv=>whnf
  refine⟨_,abz,?_⟩;conv=>whnf
  refine⟨nt x,rfl,?_⟩;conv=>whnf
  refine⟨_,rG,?_⟩;conv=>whnf
  refine⟨nt x,rfl,?_⟩;conv=>whnf
  refine sZ (Rm x) ?_;conv=>whnf
  refine aa (z:=true) ?_;conv=>whnf
  refine ih (M.length-(j+1)) (by omega) (j+1) _ rfl (by omega) ⟨rfl,rfl,rfl,rfl,rfl,ay (by omega),trivial⟩
 ·have hge:j=M.length:=by have:=of_decide_eq_false hc;omega
  exact hQ _ ⟨rfl,rfl,rfl,trivial⟩
theorem yA(k:Nat)(l:List Nt)(p a b:Int)(hl:l.length*64≤140737488355328):PC fs ms 6 [.fz k (b8 l),.int .i64 p,.agg [.int .i64 a,.int .i64 b]] (.bool true):=by
 have hfl:=yJ p l;refine aX (by simp[bL,AV.cl,nG]) rfl ?_;refine bw (af:=C6) rfl (Nat.le_of_ble_eq_true rfl) ?_;generalize hQ:(fun(u:AV) (_:Heap)=>u=.bool true)=Q;have hend:Q (.bool true)=fun _=>True:=by subst hQ;funext;simp
 conv=>whnf
 refine aj true ?_;conv=>whnf
 refine aj true ?_;conv=>whnf
 refine LZ k l p hl fun v1 h2 xX cT=>?_;conv=>whnf
 refine TE k l p hl fun v2 h3 Aj fq=>?_;conv=>whnf
 have g2:h2.get 0=some (.cells [.int .i64 a,.int .i64 b] true 0):=(cT.keep 0 (show 0<1 by omega) (by simp)).trans an;have n2:1≤h2.next:=cT.next;have xX:NR 1 h2 v1 (Ah p l):=xX;clear cT;generalize hM:Ah p l=M at*;refine aj true ?_;conv=>whnf
 rw[(xX.keep fq).len];conv=>whnf
 rw[Aj.len];conv=>whnf
 rw[show(((M.length:Nat):Int)!=((M.length:Nat):Int))=false by simp];conv=>whnf
 obtain⟨k2,YG,VQ,Vw⟩:=Aj.R9;refine dV YG (i:=8) (v':=.fz k2 (b8 M)) rfl VQ ?_;have jY:=uZ Vw fq;have Wh:=xX.keep jY;have g4:(ck YG h3).get 0=some (.cells [.int .i64 a,.int .i64 b] true 0):=(jY.keep 0 (by omega) (by simp)).trans g2;have n4:1≤(ck YG h3).next:=Nat.le_trans n2 jY.next
 generalize ck YG h3=h4 at*;clear Aj fq VQ Vw jY xX g2 n2;refine ak 4 [(0,.fz k (b8 l)),(1,.int .i64 p),(5,.ptr 0 0),(7,v1),(8,.fz k2 (b8 M))] ⟨rfl,rfl,rfl,rfl,rfl,trivial⟩ ?_;refine az (aj true ?_);conv=>whnf
 refine aL ?_;refine VC.mono (Q:=fun x e' h'=>x=.exit 0∧h'.get 0=some (.cells [.int .i64 a,.int .i64 b] true 0)∧1≤h'.next∧aP e' [(0,.fz k (b8 l)),(1,.int .i64 p),(5,.ptr 0 0),(8,.fz k2 (b8 M))]) ?_ ?_
 ·rcases Wh with⟨hM0,rfl⟩|⟨b1,ox,iH,rfl,QY⟩
  ·subst hM0;refine bJ (aj true ?_);conv=>whnf
   exact⟨rfl,g4,n4,rfl,rfl,rfl,rfl,trivial⟩
  ·refine U2 (k:=k2) (M:=M) (b:=b1) (h0:=⟨1,h4.m⟩) ox (by omega) (X0:=.fz k (b8 l)) (X1:=.int .i64 p) (X2:=.ptr 0 0) ?_ M.length 0 h4 M _ rfl (Nat.zero_le _) ⟨n4,fun c _ _=>rfl⟩ rfl (fun i _=>rfl) QY ⟨rfl,rfl,rfl,rfl,rfl,rfl,trivial⟩;intro e' h' fr he;refine⟨rfl,(fr.keep 0 (by show 0<1;omega) (by simp)).trans g4,fr.next,he⟩
 rintro x e' h5 ⟨rfl,g5,n5,he⟩;show VC fs ms _ _ _ _ _ _;refine ak 4 _ he ?_;refine aj true ?_;conv=>whnf
 refine LZ k l p hl fun v3 h6 Rb tG=>?_;conv=>whnf
 have g6:h6.get 0=some (.cells [.int .i64 a,.int .i64 b] true 0):=(tG.keep 0 (by omega) (by simp)).trans g5;have n6:1≤h6.next:=Nat.le_trans n5 tG.next;rw[hM] at Rb;obtain⟨k3,YH,VR,Vx⟩:=Rb.R9;refine dV YH (i:=10) (v':=.fz k3 (b8 M)) rfl VR ?_;have yM:=uZ Vx tG;have g7:(ck YH h6).get 0=some (.cells [.int .i64 a,.int .i64 b] true 0):=(yM.keep 0 (by omega) (by simp)).trans g5;have n7:1≤(ck YH h6).next:=Nat.le_trans n5 yM.next
 generalize ck YH h6=h7 at*;clear Rb tG VR Vx yM g6 n6 g5 n5;refine dV [0] (i:=5) (v':=.fp [.int .i64 a,.int .i64 b] 0) rfl (.ptr' (by simp) g7 (.cons (.clean rfl) (.cons (.clean rfl) .nil))) ?_;generalize ck [0] h7=h8 at*;refine ak 4 [(0,.fz k (b8 l)),(1,.int .i64 p),(5,.fp [.int .i64 a,.int .i64 b] 0),(8,.fz k2 (b8 M)),(10,.fz k3 (b8 M))] ⟨rfl,rfl,rfl,rfl,rfl,trivial⟩ ?_;refine az (aj true ?_);conv=>whnf
 refine aL ?_;refine RF (k:=k2) (k2:=k3) (M:=M) (by omega) (X0:=.fz k (b8 l)) (X1:=.int .i64 p) (X2:=.fp [.int .i64 a,.int .i64 b] 0) ?_ M.length 0 _ rfl (Nat.zero_le _) ⟨rfl,rfl,rfl,rfl,rfl,rfl,trivial⟩;intro e' he;show VC fs ms _ _ _ _ _ _;refine ak 4 _ he (aa (z:=true) ?_);conv=>whnf
 refine⟨.fp [.int .i64 a,.int .i64 b] 0,rfl,?_⟩;conv=>whnf
 refine⟨.int .i64 a,rfl,?_⟩;conv=>whnf
 refine⟨.fp [.int .i64 a,.int .i64 b] 1,rfl,?_⟩;conv=>whnf
 refine⟨.int .i64 b,rfl,?_⟩;conv=>whnf
 refine S8 k l p a b hl fun h9 _=>?_;conv=>whnf
 refine⟨.fp [.int .i64 a,.int .i64 b] 0,rfl,?_⟩;conv=>whnf
 refine⟨.int .i64 a,rfl,?_⟩;conv=>whnf
 refine⟨.fp [.int .i64 a,.int .i64 b] 1,rfl,?_⟩;conv=>whnf
 refine⟨.int .i64 b,rfl,?_⟩;conv=>whnf
 refine TF k l p a b hl ?_;conv=>whnf
 rw[show(((wN p a b l:Nat):Int)==((wN p a b l:Nat):Int))=true by simp];conv=>whnf
 refine au lK ?_;conv=>whnf
 refine⟨dc (by(conv=>whnf);repeat' (first|exact trivial|(exact⟨rfl,rfl,.inr ⟨_,_,rfl⟩⟩)|(refine⟨rfl,rfl,.inl ⟨rfl,fun o ho=>?_⟩⟩;cases ho;first|rfl)|(exact⟨rfl,.inr ⟨_,_,rfl⟩⟩)|(refine⟨rfl,.inl ⟨rfl,fun i o hi ho=>?_⟩⟩;cases hi;cases ho;first|rfl)|(refine And.intro (fun dZ=>(Bool.false_ne_true dZ).elim) ?_<;>conv=>whnf)|(refine And.intro (fun _=>?_) ?_<;>conv=>whnf)|(refine And.intro ?_ ?_<;>conv=>whnf))),?_⟩;subst hQ;rfl
end Ir
end Go.Proofs.Ytepdklcpagielaa
