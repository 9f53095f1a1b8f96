/-
  Tape: the document's Good and Same.
-/
import Derived.Test.YtmnolnoeibhjgaaGreatVTqD
import Derived.Test.YtmnolnoeibhjgaaGreatVTpP
set_option maxRecDepth 100000
set_option linter.unusedSimpArgs false
set_option linter.unusedVariables false
namespace Go.Proofs.YtmnolnoeibhjgaaGreat
open Go Ads
namespace Ir
theorem Kx{x:bu}{h:Heap}{a b:Nat}(hA:h.get a=some (.cells (dG x).cells true 0))(hB:h.get b=some (.cells (dG x).cells true 0))(hx:x.ops.length<2^62){B:Nat}{Q:AX→Env→Heap→Prop}(hQ:∀e',Q (.exit 0) e' h):
  ∀(m j:Nat) (env:Env),x.ops.length-j=m→j≤x.ops.length→bQ env [(2,.ptr a 0),(3,.ptr b 0),(5,.int .i64 ((j:Nat):Int))]→VC fs ms B false (.loop fY) env h Q:=by
 intro m;induction m with
 |zero=>
  intro j env hm hj bg;have hjl:j=x.ops.length:=by omega
  subst hjl;refine ay 5 _ bg ?_;refine aH (aa (z:=true) ?_);conv=>whnf
  refine⟨.fz x.kk (b9 x.ops),cM hA rfl,?_⟩;conv=>whnf
  refine k7 (by simp[bq]) (fun hc=>?_)
  (try rw[hc])
  conv=>whnf
  exact hQ _
 |succ m ih=>
  intro j env hm hj bg;have hlt:j<x.ops.length:=by omega
  have lV:=nJ (k:=x.kk) hlt;generalize hX:x.ops[j]=o at*;refine ay 5 _ bg ?_;refine aH (an true ?_);conv=>whnf
  refine⟨.fz x.kk (b9 x.ops),cM hA rfl,?_⟩;conv=>whnf
  refine ny (by simp[bq];omega) (fun hc=>?_)
  (try rw[hc])
  conv=>whnf
  refine aJ (aR (an true ?_));conv=>whnf
  refine⟨.fz x.kk (b9 x.ops),cM hA rfl,?_⟩;conv=>whnf
  refine⟨_,lV,?_⟩;conv=>whnf
  refine⟨top o,rfl,?_⟩;conv=>whnf
  refine⟨.fz x.kk (b9 x.ops),cM hB rfl,?_⟩;conv=>whnf
  refine⟨_,lV,?_⟩;conv=>whnf
  refine⟨top o,rfl,?_⟩;conv=>whnf
  refine DU (BJ _) ?_;conv=>whnf
  refine aa (z:=true) ?_;conv=>whnf
  refine aa (z:=true) ?_;conv=>whnf
  refine ih (j+1) _ (by omega) (by omega) ⟨rfl,rfl,bC (by omega),trivial⟩
theorem Ea(x:bu)(hx:x.ops.length<2^62):PC fs ms 19 [dG x,dG x] (.bool true):=by
 refine mb (by simp[e9,mq]) rfl ?_;refine bY (af:=S8) rfl (Nat.le_of_ble_eq_true rfl) ?_;generalize hQ:(fun(v:AV) (_:Heap)=>v=.bool true)=Q;conv=>whnf
 refine an true ?_;conv=>whnf
 obtain⟨H,hH⟩:∃H,H=((⟨0,.nil⟩:Heap).new (.cells (dG x).cells true 0)).new (.cells (dG x).cells true 0):=⟨_,rfl⟩;have hA:H.get 0=some (.cells (dG x).cells true 0):=by rw[hH];rfl
 have hB:H.get 1=some (.cells (dG x).cells true 0):=by rw[hH];exact au (h:=(⟨0,.nil⟩:Heap).new _)
 show VC fs ms _ _ _ _ (((⟨0,.nil⟩:Heap).new (.cells (dG x).cells true 0)).new (.cells (dG x).cells true 0)) _;rw[←hH];clear hH;refine ay 3 [(2,.ptr 0 0),(3,.ptr 1 0)] ⟨rfl,rfl,trivial⟩ ?_;refine aJ (an true ?_);conv=>whnf
 refine⟨.int .i64 x.k,cM hA rfl,?_⟩;conv=>whnf
 refine⟨.int .i64 x.k,cM hB rfl,?_⟩;conv=>whnf
 rw[de];conv=>whnf
 refine⟨.int .i64 x.p,cM hA rfl,?_⟩;conv=>whnf
 refine⟨.int .i64 x.p,cM hB rfl,?_⟩;conv=>whnf
 rw[de];conv=>whnf
 refine⟨.int .i64 x.t,cM hA rfl,?_⟩;conv=>whnf
 refine⟨.int .i64 x.t,cM hB rfl,?_⟩;conv=>whnf
 rw[de];conv=>whnf
 refine⟨.int .i64 x.n,cM hA rfl,?_⟩;conv=>whnf
 refine⟨.int .i64 x.n,cM hB rfl,?_⟩;conv=>whnf
 rw[de];conv=>whnf
 refine⟨.int .i64 x.m,cM hA rfl,?_⟩;conv=>whnf
 refine⟨.int .i64 x.m,cM hB rfl,?_⟩;conv=>whnf
 rw[de];conv=>whnf
 refine⟨.fz x.kk (b9 x.ops),cM hA rfl,?_⟩;conv=>whnf
 refine⟨.fz x.kk (b9 x.ops),cM hB rfl,?_⟩;conv=>whnf
 rw[de];conv=>whnf
 refine aa (z:=true) ?_;conv=>whnf
 refine aJ (an true ?_);conv=>whnf
 refine aR ?_;refine Kx hA hB hx ?_ x.ops.length 0 _ rfl (Nat.zero_le _) ⟨rfl,rfl,rfl,trivial⟩;intro e';show VC fs ms _ false _ _ _ _;refine ay 3 [] trivial (aa (z:=true) ?_);conv=>whnf
 subst hQ;rfl
theorem KB{k1 k2:Nat}{A:List (bu×Int)}(hl:A.length≤100000)(hA:∀x∈A,x.1.ops.length<2^62){B:Nat}{Q:AX→Env→Heap→Prop}{h:Heap}(hQ:∀e',Q (.exit 0) e' h):
  ∀(m j:Nat) (env:Env),A.length-j=m→j≤A.length→bQ env [(0,.fz k1 (fK A)),(1,.fz k2 (fK A)),(5,.int .i64 ((j:Nat):Int))]→VC fs ms B false (.loop iD) env h Q:=by
 intro m;induction m with
 |zero=>
  intro j env hm hj bg;have hjl:j=A.length:=by omega
  subst hjl;refine ay 5 _ bg ?_;refine aH (aa (z:=true) ?_);conv=>whnf
  refine k7 (by simp[eo]) (fun hc=>?_)
  (try rw[hc])
  conv=>whnf
  exact hQ _
 |succ m ih=>
  intro j env hm hj bg;have hlt:j<A.length:=by omega
  have hi1:=p7 (k:=k1) hlt;have hi2:=p7 (k:=k2) hlt;have ju:=hA _ (List.getElem_mem hlt);generalize hX:A[j]=x at*;refine ay 5 _ bg ?_;refine aH (an true ?_);conv=>whnf
  refine ny (by simp[eo];omega) (fun hc=>?_)
  (try rw[hc])
  conv=>whnf
  refine aJ (aR (an true ?_));conv=>whnf
  refine⟨_,hi1,?_⟩;conv=>whnf
  refine⟨.int .i64 x.2,rfl,?_⟩;conv=>whnf
  refine⟨_,hi2,?_⟩;conv=>whnf
  refine⟨.int .i64 x.2,rfl,?_⟩;conv=>whnf
  rw[de];conv=>whnf
  refine⟨_,hi1,?_⟩;conv=>whnf
  refine⟨dG x.1,rfl,?_⟩;conv=>whnf
  refine⟨_,hi2,?_⟩;conv=>whnf
  refine⟨dG x.1,rfl,?_⟩;conv=>whnf
  refine cC (Ea x.1 ju) ?_;conv=>whnf
  refine aa (z:=true) ?_;conv=>whnf
  refine aa (z:=true) ?_;conv=>whnf
  refine ih (j+1) _ (by omega) (by omega) ⟨rfl,rfl,bC (by omega),trivial⟩
theorem Eb(k1 k2:Nat)(A:List (bu×Int))(hl:A.length≤100000)(hA:∀x∈A,x.1.ops.length<2^62):PC fs ms 16 [.fz k1 (fK A),.fz k2 (fK A)] (.bool true):=by
 refine mb (by simp[e9,AV.cl,uE]) rfl ?_;refine bY (af:=S6) rfl (Nat.le_of_ble_eq_true rfl) ?_;generalize hQ:(fun(v:AV) (_:Heap)=>v=.bool true)=Q;conv=>whnf
 refine an true ?_;conv=>whnf
 refine aJ (an true ?_);conv=>whnf
 refine cj ?_;conv=>whnf
 refine k7 (by exact de _) (fun hc=>?_)
 (try rw[hc])
 conv=>whnf
 refine aa (z:=true) ?_;conv=>whnf
 refine aJ (an true ?_);conv=>whnf
 refine aR ?_;refine KB (k1:=k1) (k2:=k2) hl hA ?_ A.length 0 _ rfl (Nat.zero_le _) ⟨rfl,rfl,rfl,trivial⟩;intro e';show VC fs ms _ false _ _ _ _;refine ay 3 [] trivial (aa (z:=true) ?_);conv=>whnf
 subst hQ;rfl
theorem Kt{h0:Heap}{k:Nat}{A:List (bu×Int)}(hl:A.length≤100000)(hA:∀x∈A,mH x){B:Nat}{Q:AX→Env→Heap→Prop}(hQ:∀e' h' v,GR 6 h0.next h' v (dA (fe A))→Fr h0 h' []→bQ e' [(3,v)]→Q (.exit 0) e' h'):
  ∀(m j:Nat) (h:Heap) (env:Env) (v:AV),A.length-j=m→j≤A.length→GR 6 h0.next h v (dA (fe (A.take j)))→Fr h0 h []→
   bQ env [(3,v),(0,.fz k (fK A)),(4,.int .i64 ((j:Nat):Int))]→
   VC fs ms B false (.loop iC) env h Q:=by
 intro m;induction m with
 |zero=>
  intro j h env v hm hj hr fr bg;have hjl:j=A.length:=by omega
  subst hjl;refine ay 5 _ bg ?_;refine aH (aa (z:=true) ?_);conv=>whnf
  refine k7 (by simp[eo]) (fun hc=>?_)
  (try rw[hc])
  conv=>whnf
  rw[List.take_length] at hr;exact hQ _ h v hr fr ⟨rfl,trivial⟩
 |succ m ih=>
  intro j h env v hm hj hr fr bg;have hlt:j<A.length:=by omega
  have lV:=p7 (k:=k) hlt;have hU:=qZ hlt;obtain⟨hk,hlo⟩:=hA _ (List.getElem_mem hlt);have Li:=p5 (A.take j);rw[List.length_take] at Li;generalize hX:A[j]=x at*;refine ay 5 _ bg ?_;refine aH (an true ?_);conv=>whnf
  refine ny (by simp[eo];omega) (fun hc=>?_)
  (try rw[hc])
  conv=>whnf
  refine aJ (aR (an true ?_));conv=>whnf
  refine⟨_,lV,?_⟩;conv=>whnf
  refine⟨.int .i64 x.2,rfl,?_⟩;conv=>whnf
  refine cj ?_;conv=>whnf
  refine br (fun hc=>?_) (fun hc=>?_)<;>(try rw[hc])<;>(conv=>whnf)
  ·have hz:x.2=0:=by simpa using hc
   rw[if_pos hz] at hU;refine an true ?_;conv=>whnf
   refine⟨_,lV,?_⟩;conv=>whnf
   refine⟨dG x.1,rfl,?_⟩;conv=>whnf
   refine cm (bX au rfl (Nat.le_refl _) rfl) fun h2 e2=>?_;have f2:Fr h h2 []:=by rw[e2];exact((Fr.refl h []).new).gM (Nat.le_refl _)
   have g2:h2.get h.next=some (.cells (dG x.1).cells true 0):=by rw[e2,aA];rfl
   have n2:h2.next=h.next+1:=by rw[e2];rfl
   clear e2;conv=>whnf
   refine an true ?_;conv=>whnf
   refine an true ?_;conv=>whnf
   refine⟨.fz x.1.kk (b9 x.1.ops),cM g2 rfl,?_⟩;conv=>whnf
   obtain⟨w,g',ha,FB,qY⟩:=GR.copy (s:=3) (bytes:=32) (lo:=h2.next) (k:=x.1.kk) (h:=h2) (M:=b9 x.1.ops) (Nat.le_refl _) (dK _) (pY _) (by rw[bq];omega) (by rw[bq];omega);refine⟨_,_,ha,?_⟩;obtain⟨c1,c2,c3⟩:=GR.one FB;conv=>whnf
   have g3:=(qY.keep h.next (by omega) (by simp)).trans g2;refine cm (bX g3 c2 (by show 0+0+5+1≤6;omega) c3) fun h4 e4=>?_;have f4:Fr g' h4 [h.next]:=by rw[e4];exact(Fr.refl g' _).set (by simp)
   have g4:h4.get h.next=some (.cells [.int .i64 x.1.k,.int .i64 x.1.p,.int .i64 x.1.t,.int .i64 x.1.n,.int .i64 x.1.m,w] true 0):=by rw[e4,aA,c1];rfl
   clear e4;have IX:=FB.keep f4 (by simp;omega);obtain⟨bs,hf,Ac⟩:=IX.BX (dK _) (iM _);rw[bq,←hk] at hf;conv=>whnf
   refine tP (h.next::bs) (i:=5) (v:=.ptr h.next 0) (v':=.fp (dG x.1).cells 0) rfl (.ptr' (by simp) g4 (.cons (.clean rfl) (.cons (.clean rfl) (.cons (.clean rfl) (.cons (.clean rfl) (.cons (.clean rfl) (.cons (jr.mono (by simp;intro b hb;exact .inr hb) hf) .nil))))))) ?_;have hge:∀b∈h.next::bs,h.next≤b:=by
    intro b hb;rcases List.mem_cons.1 hb with rfl|hb
    ·exact Nat.le_refl _
    ·have:=Ac b hb;omega
   have fn:=fr.next;have fk:∀c,c<h.next→(cg (h.next::bs) h4).get c=h.get c:=fun c hc=>(dm ..).trans ((if_neg (fun hb=>by have:=hge c hb;omega)).trans ((f4.keep c (by have:=qY.next;omega) (by simp;omega)).trans ((qY.keep c (by omega) (by simp)).trans (f2.keep c hc (by simp)))));have hn:h.next≤(cg (h.next::bs) h4).next:=by rw[bF];have:=f4.next;have:=qY.next;omega
   have Cu:Fr h0 (cg (h.next::bs) h4) []:=⟨by omega,fun c hc _=>(fk c (by omega)).trans (fr.keep c hc (by simp))⟩;have B4:GR 6 h0.next (cg (h.next::bs) h4) v (dA (fe (A.take j))):=by
    rcases hr with h|⟨hne,b,b1,b2,b3,b4⟩
    ·exact .inl h
    ·exact .inr ⟨hne,b,b1,by omega,b3,(fk b b2).trans b4⟩
   generalize cg (h.next::bs) h4=G at*;refine ay 5 [(3,v),(0,.fz k (fK A)),(4,.int .i64 ((j:Nat):Int)),(5,.fp (dG x.1).cells 0)] ⟨rfl,rfl,rfl,by rw[Tr.aT,if_pos rfl],trivial⟩ ?_;refine aa (z:=true) ?_;conv=>whnf
   refine⟨dG x.1,rfl,?_⟩;conv=>whnf
   obtain⟨v',g6,ha6,GH,Ud,Qi⟩:=GR.app (bytes:=64) B4 Cu.next (x:=dG x.1) rfl rfl (iX _) (by rw[cD];omega) (by rw[cD];omega);refine⟨_,_,ha6,?_⟩;conv=>whnf
   refine aa (z:=true) ?_;conv=>whnf
   refine ih (j+1) g6 _ v' (by omega) (by omega) (by rw[hU,dA,List.map_append];exact GH) (Cu.app Ud (fun c hc=>Qi c hc)) ⟨rfl,rfl,bC (by omega),trivial⟩
  ·have hz:¬x.2=0:=by simpa using hc
   rw[if_neg hz,List.append_nil] at hU;refine aa (z:=true) ?_;conv=>whnf
   refine aa (z:=true) ?_;conv=>whnf
   refine ih (j+1) h _ v (by omega) (by omega) (by rw[hU];exact hr) fr ⟨rfl,rfl,bC (by omega),trivial⟩
theorem Ks{k:Nat}{A:List (bu×Int)}(hl:A.length≤100000)(hA:∀x∈A,mH x){h:Heap}{Q:AV→Heap→Prop}(hQ:∀h',Fr h h' []→Q (.fz (cR (fe A).length) (dA (fe A))) h'):VD fs ms 18 [.fz k (fK A)] h Q:=by
 refine me ?_;refine bY (af:=S7) rfl (Nat.le_of_ble_eq_true rfl) ?_;conv=>whnf
 refine an true ?_;conv=>whnf
 refine an true ?_;conv=>whnf
 refine aJ (an true ?_);conv=>whnf
 refine aR ?_;refine Kt (h0:=h) hl hA ?_ A.length 0 h _ .az rfl (Nat.zero_le _) (.inl ⟨rfl,rfl⟩) (Fr.refl _ _) ⟨rfl,rfl,rfl,trivial⟩;intro e' h' v hr fr h3;show VC fs ms h.next false _ _ _ _;refine ay 3 _ h3 (aa (z:=true) ?_);conv=>whnf
 obtain⟨bs,hf,Ac⟩:=hr.BX (iX _) (pT _);rw[cD] at hf;exact⟨bs,_,hf,hQ _ (gY Ac fr)⟩
end Ir
end Go.Proofs.YtmnolnoeibhjgaaGreat
