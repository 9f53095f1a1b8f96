/-
  Ready: the document's First and Late.
-/
import Derived.Test.YtenafeojcgmnhaaVRdM
set_option maxRecDepth 100000
set_option linter.unusedSimpArgs false
set_option linter.unusedVariables false
namespace Go.Proofs.Ytenafeojcgmnhaa
open Go Ads
namespace Ir
theorem Bf{h:Heap}{m b es:Nat}{op:Bool}{D:List Int}(hh:qp h m b es op D)(hD:D.length≤4){Q:AV→Heap→Prop}(h1:∀h',dj D D.length=[]→Fr h h' []→Q (.cg [.int .i64 0,.int .i64 0,.bool false]) h')
  (h2:∀h' x l,dj D D.length=x::l→Fr h h' []→Q (.cg [.int .i64 ((x:Nat):Int),.int .i64 (gD D x),.bool true]) h'):VD fs ms 61 [.ptr m 0] h Q:=by
 refine aE (af:=R5) true rfl (Nat.le_of_ble_eq_true rfl) ?_;conv=>whnf
 refine zg hh hD fun h' v hv fr=>?_;conv=>whnf
 refine cM hv.read.1 ?_;conv=>whnf
 rw[jr];have hlt:=uW D D.length;by_cases h0:(dj D D.length).length=0
 ·refine IK (by rw[h0];rfl) (fun hc=>?_)
  (try rw[hc])
  conv=>whnf
  exact h1 h' (List.eq_nil_of_length_eq_zero h0) fr
 ·refine od (by simp;exact fun e=>h0 (by rw[e];rfl)) (fun hc=>?_)
  (try rw[hc])
  conv=>whnf
  obtain⟨x,l,hd⟩:∃x l,dj D D.length=x::l:=List.exists_cons_of_ne_nil (fun e=>h0 (by rw[e];rfl));rw[hd] at hv hlt;have hx:x<D.length:=hlt x List.mem_cons_self;obtain⟨b',r1,r2⟩:=hv.read.2 0 (by rw[jr];simp);have y5:=hh.keep fr (by simp) (by simp);refine⟨_,r1,?_⟩;conv=>whnf
  refine⟨_,r2,?_⟩;conv=>whnf
  refine⟨_,y5.row,?_⟩;conv=>whnf
  refine⟨_,r1,?_⟩;conv=>whnf
  refine⟨_,r2,?_⟩;conv=>whnf
  refine⟨_,bh (j:=x) hx,?_⟩;conv=>whnf
  refine⟨_,y5.get hx,?_⟩;conv=>whnf
  exact h2 h' x l hd fr
def wU(D:List Int)(now:Int)(l:List Nat):List Nat:=l.filter fun x=>decide (gD D x≤now)
theorem EU{D:List Int}{now:Int}{l:List Nat}{i:Nat}(h:i<l.length):nl (wU D now (l.take (i+1)))=nl (wU D now (l.take i))++(if gD D (l.getD i 0)≤now then [((l.getD i 0:Nat):Int)] else []):=by
 rw[List.take_succ_eq_append_getElem h,List.getD_eq_getElem?_getD,List.getElem?_eq_getElem h,wU,List.filter_append,nl,List.map_append]
 congr 1
 by_cases hh:gD D l[i]≤now<;>simp[hh]
def HH(m:Nat)(now:Int)(out v:AV)(i:Nat):List (Nat×AV):=[(0,.ptr m 0),(1,.int .i64 now),(5,out),(6,v),(7,.int .i64 ((i:Nat):Int))]
theorem CB{m b es:Nat}{op:Bool}{D:List Int}{now:Int}{l:List Nat}{v:AV}{h0:Heap}{B:Nat}{Q:AX→Env→Heap→Prop}(h4:l.length≤4)(hl:∀x∈l,x<D.length)(hm:m<h0.next)(hb:b<h0.next):
  ∀(k i:Nat) (h:Heap) (out:AV) (env:Env),l.length-i=k→qp h m b es op D→i≤l.length→dr h0.next h v (nl l)→dr h0.next h out (nl (wU D now (l.take i)))→(∀c,qo v c∨(qo out c∧c<h.next))→Fr h0 h []→
  aW env (HH m now out v i)→
  (∀(h':Heap) (out':AV) (e':Env),Tr.get e' 5=some out'→dr h0.next h' out' (nl (wU D now l))→Fr h0 h' []→Q (.exit 0) e' h')→
  VC fs ms B false (.loop fm) env h Q:=by
 intro k;induction k using Nat.strongRecOn with
 |ind k ih=>
 intro i h out env hk hh hi hv hr ho kC bM hQ;refine an 4 (HH m now out v i) bM ?_;refine bB (z:=true) ?_;unfold HH;conv=>whnf
 refine cM hv.read.1 ?_;conv=>whnf
 rw[jr];refine br (fun hc=>?_) (fun hc=>?_)<;>(try rw[hc])<;>(conv=>whnf)
 ·have hlt:i<l.length:=by have:=of_decide_eq_true hc;omega
  obtain⟨b',r1,r2⟩:=hv.read.2 i (by rw[jr];exact hlt);rw[HL] at r2;have hx:l.getD i 0<D.length:=by
   rw[List.getD_eq_getElem?_getD,List.getElem?_eq_getElem hlt];exact hl _ (List.getElem_mem hlt)
  refine⟨_,hh.row,?_⟩;conv=>whnf
  refine⟨_,r1,?_⟩;conv=>whnf
  refine⟨_,r2,?_⟩;conv=>whnf
  refine⟨_,bh hx,?_⟩;conv=>whnf
  refine⟨_,hh.get hx,?_⟩;conv=>whnf
  have hlo:=kC.next;have uv:=EU (D:=D) (now:=now) hlt;have Oh:(wU D now (l.take i)).length≤4:=by
   have:=List.length_filter_le (fun x=>decide (gD D x≤now)) (l.take i);rw[List.length_take] at this;unfold wU;omega
  refine br (fun hc=>?_) (fun hc=>?_)<;>(try rw[hc])<;>(conv=>whnf)
  ·have hle:gD D (l.getD i 0)≤now:=of_decide_eq_true hc;rw[if_pos hle] at uv;refine⟨_,r1,?_⟩;conv=>whnf
   refine⟨_,r2,?_⟩;conv=>whnf
   obtain⟨v',g',a1,a2,a3,a4,a5⟩:=hr.app hlo (by rw[jr];omega) ((l.getD i 0:Nat):Int);refine bA a1 fun h2 e2=>?_;subst e2;conv=>whnf
   have Bk:∀c,c<h0.next→qo out c:=by
    intro c hc;rcases hr with⟨_,rfl⟩|⟨b',wz,_,rfl,_⟩
    ·intro o n k op e;cases e
    ·intro o n k op e;cases e;omega
   have iI:Fr h0 h2 []:=⟨by omega,fun c hc _=>by rw[a4 c (by omega) (Bk c hc)];exact kC.keep c hc (by simp)⟩;have lV:qp h2 m b es op D:=⟨by rw[a4 m hh.lm (Bk m hm)];exact hh.hm,by rw[a4 b hh.lb (Bk b hb)];exact hh.hb,hh.ne,Nat.lt_of_lt_of_le hh.lm a3,Nat.lt_of_lt_of_le hh.lb a3⟩;have JM:dr h0.next h2 v (nl l):=by
    rcases hv with hv|⟨b',wz,pN,rfl,Mj⟩
    ·exact .inl hv
    ·have Qn:qo out b':=by
      rcases ho b' with h|h
      ·exact absurd rfl (h _ _ _ _)
      ·exact h.1
     exact .inr ⟨b',wz,by omega,rfl,by rw[a4 b' pN Qn];exact Mj⟩
   refine ih (l.length-(i+1)) (by omega) (i+1) h2 v' _ rfl lV (by omega) JM (by rw[uv];exact a2) (fun c=>?_) iI ⟨rfl,rfl,rfl,rfl,aS (by omega),trivial⟩ hQ;rcases ho c with h|h
   ·exact .inl h
   ·exact .inr ⟨a5 c h.2,by omega⟩
  ·have hle:¬gD D (l.getD i 0)≤now:=of_decide_eq_false hc;rw[if_neg hle,List.append_nil] at uv;refine ih (l.length-(i+1)) (by omega) (i+1) h out _ rfl hh (by omega) hv (by rw[uv];exact hr) ho kC ⟨rfl,rfl,rfl,rfl,aS (by omega),trivial⟩ hQ
 ·have hge:i=l.length:=by have:=of_decide_eq_false hc;omega
  subst hge;refine hQ h out _ rfl ?_ kC;rw[List.take_length] at hr;exact hr
theorem J8{h:Heap}{m b es:Nat}{op:Bool}{D:List Int}(hh:qp h m b es op D)(hD:D.length≤4)(now:Int){Q:AV→Heap→Prop}(hQ:∀h' v,dr h.next h' v (nl (wU D now (dj D D.length)))→Fr h h' []→Q v h'):VD fs ms 34 [.ptr m 0,.int .i64 now] h Q:=by
 refine bC (af:=RM) rfl (Nat.le_of_ble_eq_true rfl) ?_;conv=>whnf
 refine aa true ?_;conv=>whnf
 refine aa true ?_;conv=>whnf
 refine aa true ?_;conv=>whnf
 refine zg hh hD fun h1 v k1 k4=>?_;conv=>whnf
 refine aJ (aa true ?_);conv=>whnf
 refine aG ?_;have hlen:=yJ D D.length;refine CB (D:=D) (now:=now) (by omega) (uW D D.length) hh.lm hh.lb _ 0 h1 .aN _ rfl (hh.keep k4 (by simp) (by simp)) (Nat.zero_le _) k1 (.inl ⟨rfl,rfl⟩) (fun c=>?_) k4 ⟨rfl,rfl,rfl,rfl,rfl,trivial⟩ ?_
 ·rcases k1 with⟨_,rfl⟩|⟨b,_,hb,rfl,_⟩
  ·exact .inl fun o n k op e=>by cases e
  ·by_cases hcb:c=b
   ·subst hcb;exact .inr ⟨fun o n k op e=>(by cases e),hb⟩
   ·exact .inl fun o n k op e=>by cases e;exact hcb rfl
 ·intro h2 out e2 g4 hi hf;show VC fs ms _ _ _ _ _ _;refine an 3 [(5,out)] ⟨g4,trivial⟩ (aq (z:=true) ?_);conv=>whnf
  exact hQ h2 out hi hf
end Ir
end Go.Proofs.Ytenafeojcgmnhaa
