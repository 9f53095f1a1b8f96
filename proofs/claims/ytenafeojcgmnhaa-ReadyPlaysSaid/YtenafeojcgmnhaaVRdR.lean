/-
  Ready: any calls. The contract of ReadyPlays.
-/
import Derived.Test.YtenafeojcgmnhaaVRdQ
set_option maxRecDepth 100000
set_option linter.unusedSimpArgs false
set_option linter.unusedVariables false
namespace Go.Proofs.Ytenafeojcgmnhaa
open Go Ads
namespace Ir
def Oq(k:Nat)(l:List xj)(q m i:Nat):List (Nat×AV):=[(1,.fz k (rK l)),(5,.ptr q 0),(7,.ptr m 0),(8,.int .i64 0),(9,.int .i64 ((i:Nat):Int))]
theorem CP{k:Nat}{l:List xj}{q m b es:Nat}{op:Bool}{B:Nat}{Q:AX→Env→Heap→Prop}(hl:l.length<2^62)(hQ:∀e' h',Q (.exit 0) e' h'):
  ∀(n i:Nat) (h:Heap) (S:List Nat) (L:List Id) (D:List Int) (env:Env),l.length-i=n→i≤l.length→mH h q S m b es op L D→aW env (Oq k l q m i)→
  VC fs ms B false (.loop fh) env h Q:=by
 intro n;induction n using Nat.strongRecOn with
 |ind n ih=>
 intro i h S L D env hn hi H bM;refine an 4 (Oq k l q m i) bM ?_;refine cK (aa true ?_);unfold Oq;generalize hJ:((i:Nat):Int)=J;conv=>whnf
 rw[rL];refine br (fun hc=>?_) (fun hc=>?_)<;>(try rw[hc])<;>(conv=>whnf)
 ·have hlt:i<l.length:=by have:=of_decide_eq_true hc;omega
  refine br (fun hc=>?_) (fun hc=>?_)<;>(try rw[hc])<;>(conv=>whnf)
  ·subst hJ;refine aJ (aG ?_);refine aa true ?_;conv=>whnf
   refine⟨_,DN hlt,?_⟩;conv=>whnf
   generalize hx:l[i]=x;obtain⟨kd,t,d⟩:=x;refine⟨Fu (kd,t,d),rfl,?_⟩;conv=>whnf
   refine bA (fQ aB rfl (Nat.le_refl _) rfl) fun h1 e1=>?_;conv=>whnf
   have sP:Fr h h1 []:=by rw[e1];exact((Fr.refl h []).new (x:=_)).Im (Nat.le_refl _)
   have gb:h1.get h.next=some (.cells (Fu (kd,t,d)).cells true 0):=by rw[e1,aV];rfl
   have nb:h.next<h1.next:=by rw[e1];exact Nat.lt_succ_self _
   clear e1;have H1:=H.keep sP;have nS:h.next∉S:=fun hm=>by have:=H.qa.own _ hm;omega
   have nb':h.next≠b:=by have:=H.ma.lb;omega
   refine aa true ?_;conv=>whnf
   refine aJ (VC.mono (Q:=fun x e2 h2=>x=.normal∧(∃S2 L2 D2,mH h2 q S2 m b es op L2 D2)∧aW e2 (Oq k l q m i)∧Tr.get e2 11=some (.bool true)) ?_ ?_)
   ·refine aa true ?_;conv=>whnf
    refine⟨_,bQ gb rfl,?_⟩;conv=>whnf
    refine aZ (gP kd 3 (by omega) (by omega)) ?_;conv=>whnf
    refine aq (z:=true) ?_;generalize eR kd 3=r;conv=>whnf
    refine br (fun hc=>?_) (fun hc=>?_)<;>(try rw[hc])<;>(conv=>whnf)
    ·refine⟨_,bQ gb rfl,?_⟩;conv=>whnf
     refine⟨_,bQ gb rfl,?_⟩;conv=>whnf
     obtain⟨e,he⟩:=H1.put t d;refine he fun h2 S2 L2 o2 k2=>?_;conv=>whnf
     have Ck:h2.get h.next=some (.cells (Fu (kd,t,d)).cells true 0):=by rw[o2.fr.keep _ nb nS];exact gb
     refine⟨_,bQ Ck rfl,?_⟩;conv=>whnf
     refine⟨_,bQ Ck rfl,?_⟩;conv=>whnf
     refine k2 fun h3 D3 H3 ql=>?_;conv=>whnf
     refine⟨eA (by(conv=>whnf);repeat' (first|exact trivial|(exact bQ gb rfl)|(exact bQ Ck rfl)|(exact⟨rfl,rfl,.inr ⟨_,_,rfl⟩⟩)|(refine⟨rfl,rfl,.inl ⟨rfl,fun o ho=>?_⟩⟩;cases ho;first|rfl|(exact bQ gb rfl)|(exact bQ Ck rfl))|(exact⟨rfl,.inr ⟨_,_,rfl⟩⟩)|(refine⟨rfl,.inl ⟨rfl,fun i o hi ho=>?_⟩⟩;cases hi;cases ho;first|rfl|(exact bQ gb rfl)|(exact bQ Ck rfl))|(refine And.intro (fun dY=>(Bool.false_ne_true dY).elim) ?_<;>conv=>whnf)|(refine And.intro (fun _=>?_) ?_<;>conv=>whnf)|(refine And.intro ?_ ?_<;>conv=>whnf))),?_⟩;refine⟨rfl,⟨_,_,_,H3⟩,⟨rfl,rfl,rfl,rfl,rfl,trivial⟩,?_⟩;show some (AV.bool (decide (e=e)))=_;simp
    ·refine br (fun hc=>?_) (fun hc=>?_)<;>(try rw[hc])<;>(conv=>whnf)
     ·refine⟨_,bQ gb rfl,?_⟩;conv=>whnf
      obtain⟨e,he⟩:=H1.remove t;refine he fun h2 S2 L2 o2 k2=>?_;conv=>whnf
      have Ck:h2.get h.next=some (.cells (Fu (kd,t,d)).cells true 0):=by rw[o2.fr.keep _ nb nS];exact gb
      refine⟨_,bQ Ck rfl,?_⟩;conv=>whnf
      refine k2 fun h3 D3 H3 ql=>?_;conv=>whnf
      refine⟨eA (by(conv=>whnf);repeat' (first|exact trivial|(exact bQ gb rfl)|(exact bQ Ck rfl)|(exact⟨rfl,rfl,.inr ⟨_,_,rfl⟩⟩)|(refine⟨rfl,rfl,.inl ⟨rfl,fun o ho=>?_⟩⟩;cases ho;first|rfl|(exact bQ gb rfl)|(exact bQ Ck rfl))|(exact⟨rfl,.inr ⟨_,_,rfl⟩⟩)|(refine⟨rfl,.inl ⟨rfl,fun i o hi ho=>?_⟩⟩;cases hi;cases ho;first|rfl|(exact bQ gb rfl)|(exact bQ Ck rfl))|(refine And.intro (fun dY=>(Bool.false_ne_true dY).elim) ?_<;>conv=>whnf)|(refine And.intro (fun _=>?_) ?_<;>conv=>whnf)|(refine And.intro ?_ ?_<;>conv=>whnf))),?_⟩;refine⟨rfl,⟨_,_,_,H3⟩,⟨rfl,rfl,rfl,rfl,rfl,trivial⟩,?_⟩;show some (AV.bool (e==e))=_;simp
     ·refine⟨_,bQ gb rfl,?_⟩;conv=>whnf
      refine H1.late d fun h2 v r hr iv iI k2=>?_;conv=>whnf
      have Ck:h2.get h.next=some (.cells (Fu (kd,t,d)).cells true 0):=by rw[iI.keep _ nb (by simp)];exact gb
      refine⟨_,bQ Ck rfl,?_⟩;conv=>whnf
      refine k2 fun h3 v3 iv3 ql=>?_;conv=>whnf
      obtain⟨z1,f1⟩:=(iv.keep ql).Gs;obtain⟨z2,f2⟩:=iv3.Gs;refine jv (jg z1 z2 r (by omega)) rfl (.cons f1 (.cons f2 .nil)) ?_;conv=>whnf
      refine⟨eA (by(conv=>whnf);repeat' (first|exact trivial|(exact bQ gb rfl)|(exact bQ Ck rfl)|(exact⟨rfl,rfl,.inr ⟨_,_,rfl⟩⟩)|(refine⟨rfl,rfl,.inl ⟨rfl,fun o ho=>?_⟩⟩;cases ho;first|rfl|(exact bQ gb rfl)|(exact bQ Ck rfl))|(exact⟨rfl,.inr ⟨_,_,rfl⟩⟩)|(refine⟨rfl,.inl ⟨rfl,fun i o hi ho=>?_⟩⟩;cases hi;cases ho;first|rfl|(exact bQ gb rfl)|(exact bQ Ck rfl))|(refine And.intro (fun dY=>(Bool.false_ne_true dY).elim) ?_<;>conv=>whnf)|(refine And.intro (fun _=>?_) ?_<;>conv=>whnf)|(refine And.intro ?_ ?_<;>conv=>whnf))),?_⟩;exact⟨rfl,⟨_,_,_,(H1.keep iI).keep ql⟩,⟨rfl,rfl,rfl,rfl,rfl,trivial⟩,rfl⟩
   ·rintro x e2 h2 ⟨rfl,⟨S2,L2,D2,H2⟩,ha,g11⟩;show VC fs ms _ _ _ _ _ _;refine an 4 ((11,.bool true)::Oq k l q m i) ⟨g11,ha⟩ (aq (z:=true) ?_);unfold Oq;conv=>whnf
    refine ND H2 fun h3 ql=>?_;conv=>whnf
    refine aq (z:=true) ?_;conv=>whnf
    exact ih (l.length-(i+1)) (by omega) (i+1) h3 S2 L2 D2 _ rfl (by omega) (H2.keep ql) ⟨rfl,rfl,rfl,rfl,aS (by omega),trivial⟩
  ·exact hQ _ _
 ·exact hQ _ _
theorem sD(n:Int)(k:Nat)(l:List xj)(hl:l.length<2^62):PC fs ms 7 [.int .i64 n,.fz k (rK l)] (.bool true):=by
 refine j9 (by simp[iy,AV.cl,B6]) rfl ?_;generalize hK:(fun(u:AV) (_:Heap)=>u=.bool true)=K;have BO:∀h,K (.bool true) h:=fun h=>by subst hK;rfl
 clear hK;generalize(⟨0,.nil⟩:Heap)=h0;refine bC (af:=C7) rfl (Nat.le_of_ble_eq_true rfl) ?_;conv=>whnf
 refine aa true ?_;conv=>whnf
 refine aa true ?_;conv=>whnf
 refine Bg n (fun hb=>?_) fun n0 n4 h1 q S hq hS sP=>?_
 ·conv=>whnf
  refine aa true ?_;conv=>whnf
  refine HI n (fun _=>?_) fun i hi h4=>by omega
  conv=>whnf
  refine aa true ?_;conv=>whnf
  refine aJ (aa true ?_);conv=>whnf
  refine aG ?_;refine cK (aa true ?_);conv=>whnf
  have fin:∀e h,VC fs ms h0.next false (.seq (.ops (⟨(some 96),none,.call,[.c (.func (.func 36) [] [])]⟩::⟨(some 4),none,.p .Fy,[.t 96]⟩::[])) .ret) e h (yK C7.results K):=by
   intro e h;refine an 3 [] trivial (aq (z:=true) ?_);conv=>whnf
   refine aZ nh ?_;conv=>whnf
   exact BO _
  refine br (fun hc=>?_) (fun hc=>?_)<;>(try rw[hc])<;>(conv=>whnf)
  ·exact fin _ _
  ·exact fin _ _
 ·conv=>whnf
  refine aa true ?_;conv=>whnf
  refine HI n (fun h=>by omega) fun i hi h4 h2 m b es op hm m1 b1 iI=>?_;conv=>whnf
  refine aa true ?_;conv=>whnf
  have H:mH h2 q S m b es op [] (rep i):=by
   have hown:=hq.own;refine⟨?_,hm,by rw[sF];exact h4,J6 i,fun h=>by have:=hown m h;omega,fun h=>by have:=hown b h;omega⟩;rw[sF,←hi];exact hq.keep iI (by simp)
  refine aJ (aa true ?_);conv=>whnf
  refine aG ?_;refine CP hl ?_ _ 0 h2 S [] (rep i) _ rfl (Nat.zero_le _) H ⟨rfl,rfl,rfl,rfl,rfl,trivial⟩;intro e3 h3;show VC fs ms _ _ _ _ _ _;refine an 3 [] trivial (aq (z:=true) ?_);conv=>whnf
  refine aZ nh ?_;conv=>whnf
  exact BO _
end Ir
end Go.Proofs.Ytenafeojcgmnhaa
