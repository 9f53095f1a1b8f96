/-
  Room: new rooms. Room: what does not change it: Deadline, Fault, Next, Held, Jobs, Sole; Run and Did. Room: Held, Jobs, Sole; Run and Did. Room: Lock and Unlock. Room: Unlock. Room: End and Who. Room: Release. Room: Release, where the operations lie in the heap.
-/
import Derived.Test.YtnlcabhfkpafmaaGreatZE
set_option maxRecDepth 100000
set_option linter.unusedSimpArgs false
set_option linter.unusedVariables false
namespace Go.Proofs.YtnlcabhfkpafmaaGreat
open Go Ads
namespace Ir
theorem Jd{n:Nat}(hn:n≤4):aI (.jT [.aQ] 1 8) [.int .i64 (n:Nat),.int .i64 (n:Nat)]=some (.cells (List.replicate n .aQ) true 0,fun b=>.sl b 0 n n false):=by
 have b2:Nat.ble (8*n) 140737488355328=true:=Nat.ble_eq_true_of_le (by omega);have b3:Nat.ble n 9223372036854775807=true:=Nat.ble_eq_true_of_le (by omega);have b1:Nat.ble n n=true:=Nat.ble_eq_true_of_le (by omega);have z:∀n,dU [.aQ] n=List.replicate n .aQ:=fun n=>by
  induction n with
  |zero=>rfl
  |succ n ih=>rw[List.replicate_succ,←ih];rfl
 rw[←z];show cond (Nat.ble n n&&Nat.ble (8*n) 140737488355328&&Nat.ble n 9223372036854775807) (some (dD.cells (dU [.aQ] n) true 0,fun b=>AV.sl b 0 n n false)) none=_;rw[b1,b2,b3];rfl
theorem nI{l:List Tk}(h:cj l=true):l.length≤4:=by
 rw[cj,Bool.and_eq_true,decide_eq_true_eq] at h;exact h.2
structure Nw(h0:Heap)(nH:Nat→Nat)(h:Heap)(col:Nat→Nat)(r k2 J:Nat)(T:List Tk)(gv:AV)(gs:List (Nat×Int)):Prop where
 r0:h0.next≤r
 lt:r<h.next
 co:col r=1
 get:h.get r=some (.cells [.aQ,.aQ,.fz k2 (eP T),gv,.sl J 0 T.length T.length false] true 0)
 jl:J<h.next
 jc:col J=4
 jg:h.get J=some (.cells (List.replicate T.length .aQ) true 0)
 row:(gs=[]∧gv=.aL)∨∃G,gv=.sl G 0 gs.length gs.length true∧G<h.next∧(h0.next≤G∧col G=5)∧h.get G=some (.cells (gs.map fun g=>.ptr g.1 0) true 1)
 all:∀i g t,gs[i]?=some g→T[i]?=some t→t.p≠0∧g.1<h.next∧col g.1=20+i∧h.get g.1=some (gB t.p g.2)
 z:gs.map Prod.snd=List.replicate gs.length 0
 kc:Kc h0 h nH col (fun _=>False)
theorem Nw.keep{h0 h h':Heap}{nH col aC:Nat→Nat}{r k2 J:Nat}{T:List Tk}{gv:AV}{gs:List (Nat×Int)}(S:Nw h0 nH h col r k2 J T gv gs)(f:Kc h h' col aC (fun _=>False)):Nw h0 nH h' aC r k2 J T gv gs:=by
 refine⟨S.r0,Nat.lt_of_lt_of_le S.lt f.next,(f.col r S.lt).trans S.co,(f.keep r S.lt id).trans S.get,Nat.lt_of_lt_of_le S.jl f.next,(f.col J S.jl).trans S.jc,(f.keep J S.jl id).trans S.jg,?_,fun i g t hg ht=>?_,S.z,S.kc.trans f⟩
 ·rcases S.row with h|⟨G,h1,h2,h3,h4⟩
  ·exact .inl h
  ·exact .inr ⟨G,h1,Nat.lt_of_lt_of_le h2 f.next,⟨h3.1,(f.col G h2).trans h3.2⟩,(f.keep G h2 id).trans h4⟩
 ·obtain⟨h1,h2,h3,h4⟩:=S.all i g t hg ht;exact⟨h1,Nat.lt_of_lt_of_le h2 f.next,(f.col _ h2).trans h3,(f.keep _ h2 id).trans h4⟩
theorem Nw.app{h0 h:Heap}{nH col:Nat→Nat}{r k2 J:Nat}{T:List Tk}{gv:AV}{gs:List (Nat×Int)}(S:Nw h0 nH h col r k2 J T gv gs)(hl:gs.length≤4)(g:Nat):
  ∃v' g' G,eV (.append 1 8) [gv,.sl h.next 0 1 1 false] (h.new (.cells [.ptr g 0] true 0))=some (v',g')∧v'=.sl G 0 (gs.length+1) (gs.length+1) true∧h.next≤G∧G<g'.next∧
   g'.get G=some (.cells ((gs.map fun g=>.ptr g.1 0)++[.ptr g 0]) true 1)∧h.next≤g'.next∧∀c,c<h.next→(c<h0.next∨col c≠5)→g'.get c=h.get c:=by
 have hsrc:dm 1 (h.new (.cells [.ptr g 0] true 0)) (.sl h.next 0 1 1 false)=some (1,[.ptr g 0]):=ql aj rfl;rcases S.row with⟨h1,h2⟩|⟨G,h1,h2,h3,h4⟩
 ·subst h1 h2;refine⟨_,_,h.next+1,mV (by omega) hsrc rfl,rfl,by omega,Nat.lt_succ_self _,?_,by show h.next≤h.next+1+1;omega,fun c hc _=>?_⟩
  ·exact aj (h:=h.new (.cells [.ptr g 0] true 0))
  ·exact(aA (h:=h.new (.cells [.ptr g 0] true 0)) (show c<h.next+1 by omega)).trans (aA hc)
 ·subst h1;have hg:(h.new (.cells [.ptr g 0] true 0)).get G=some (.cells (gs.map fun g=>.ptr g.1 0) true 1):=by rw[aA h2];exact h4
  refine⟨_,_,h.next+1,mT hg (by rw[List.length_map,Nat.mul_one]) hsrc rfl (by omega) (by omega),rfl,by omega,Nat.lt_succ_self _,?_,by show h.next≤h.next+1+1;omega,fun c hc hn=>?_⟩
  ·exact aj (h:=(h.new (.cells [.ptr g 0] true 0)).del G)
  ·have hne:c≠G:=by
    rintro rfl;rcases hn with h|h
    ·have:=h3.1;omega
    ·exact h h3.2
   exact(aA (h:=(h.new (.cells [.ptr g 0] true 0)).del G) (show c<h.next+1 by omega)).trans ((ep hne).trans (aA hc))
theorem Oq{T:List Tk}{k k2 J r B:Nat}{h0:Heap}{nH:Nat→Nat}{Q:AX→Env→Heap→Prop}(hok:∀t∈T,1≤t.p∧t.p≤64)(hT:T.length≤4)
  (hQ:∀h col gv gs e,Nw h0 nH h col r k2 J T gv gs→gs.length=T.length→dr e [(0,.fz k (eP T)),(5,.ptr r 0)]→Q (.exit 0) e h):
  ∀(m i:Nat) (h:Heap) (col:Nat→Nat) (gv:AV) (gs:List (Nat×Int)) (env:Env),T.length-i=m→i≤T.length→gs.length=i→Nw h0 nH h col r k2 J T gv gs→
   dr env [(0,.fz k (eP T)),(5,.ptr r 0),(25,.fz k (eP T)),(26,.int .i64 ((T.length:Nat):Int)),(27,.int .i64 ((i:Nat):Int))]→VC fs ms B false (.loop rW) env h Q:=by
 intro m;induction m using Nat.strongRecOn with
 |ind m ih=>
 intro i h col gv gs env hm hi hg S dF;refine aH 6 _ dF ?_;refine dI (z:=true) ?_;conv=>whnf
 refine br (fun hc=>?_) (fun hc=>?_)<;>(try rw[hc])<;>(conv=>whnf)
 ·have hlt:i<T.length:=by have:=of_decide_eq_true hc;omega
  refine⟨_,kD hlt,?_⟩;conv=>whnf
  obtain⟨t,ht⟩:∃t,t=T[i]:=⟨_,rfl⟩;have Ul:T[i]?=some t:=by rw[ht];exact List.getElem?_eq_getElem hlt
  have hp:=hok t (by rw[ht];exact List.getElem_mem _);rw[←ht];refine⟨tk t,rfl,?_⟩;conv=>whnf
  refine bW (bq aj rfl (Nat.le_refl _) rfl) fun h1 e1=>?_;conv=>whnf
  have dy:Fr h h1 []:=by rw[e1];exact((Fr.refl h []).new (x:=_)).ki (Nat.le_refl _)
  have gb:h1.get h.next=some (.cells (tk t).cells true 0):=by rw[e1,ay];rfl
  clear e1;refine⟨_,aT gb rfl,?_⟩;conv=>whnf
  refine Qw (fun _=>?_) (fun h=>(h hp).elim);conv=>whnf
  have ey:Fr h (h1.new (gB t.p 0)) []:=dy.new;have sZ:=aj (h:=h1) (x:=gB t.p 0);have su:h1.next<(h1.new (gB t.p 0)).next:=Nat.lt_succ_self _
  have Po:b8 col h.next (20+i) h1.next=20+i:=cA dy.next;have S2:=S.keep (Kc.nil (col:=col) ey (20+i));generalize h1.new (gB t.p 0)=h2 at*;generalize b8 col h.next (20+i)=iT at*;generalize h1.next=gn at*;refine⟨_,aT S2.get rfl,?_⟩;conv=>whnf
  obtain⟨v',g',G,a1,rfl,a2,a3,a4,a5,a6⟩:=S2.app (by omega) gn;refine⟨_,_,a1,?_⟩;conv=>whnf
  have xD:g'.get r=some (.cells [.aQ,.aQ,.fz k2 (eP T),gv,.sl J 0 T.length T.length false] true 0):=(a6 r S2.lt (.inr (by rw[S2.co];decide))).trans S2.get;refine⟨_,_,bq xD rfl (Nat.le_of_ble_eq_true rfl) rfl,?_⟩;conv=>whnf
  have YD:G≠r:=by have:=S2.lt;omega
  have YE:J≠r:=by intro e;have:=S2.jc;rw[e,S2.co] at this;omega
  refine ih (T.length-(i+1)) (by omega) (i+1) _ (b8 iT h2.next 5) _ (gs++[(gn,0)]) _ rfl (by omega) (by simp[hg]) ⟨S2.r0,Nat.lt_of_lt_of_le S2.lt a5,(bO S2.lt).trans S2.co,ay,Nat.lt_of_lt_of_le S2.jl a5,(bO S2.jl).trans S2.jc,?_,?_,fun n g u hn hu=>?_,?_,?_⟩ ⟨rfl,rfl,rfl,rfl,aK (by omega),trivial⟩
  ·exact(aX YE).trans ((a6 J S2.jl (.inr (by rw[S2.jc];decide))).trans S2.jg)
  ·refine .inr ⟨G,?_,a3,⟨Nat.le_trans S2.kc.next a2,cA a2⟩,?_⟩
   ·rw[List.length_append];rfl
   ·rw[List.map_append];exact(aX YD).trans a4
  ·have key:∀(n:Nat) (g:Nat×Int) (u:Tk),(u.p≠0∧g.1<h2.next∧iT g.1=20+n∧h2.get g.1=some (gB u.p g.2))→u.p≠0∧g.1<(g'.set r (.cells (Heap.splice [.aQ,.aQ,.fz k2 (eP T),gv,.sl J 0 T.length T.length false] (0+3) (AV.sl G 0 (gs.length+1) (gs.length+1) true).cells) true 0)).next∧b8 iT h2.next 5 g.1=20+n∧
     (g'.set r (.cells (Heap.splice [.aQ,.aQ,.fz k2 (eP T),gv,.sl J 0 T.length T.length false] (0+3) (AV.sl G 0 (gs.length+1) (gs.length+1) true).cells) true 0)).get g.1=some (gB u.p g.2):=by
    rintro n g u ⟨h1,h2,h3,h4⟩;have hne:g.1≠r:=by intro e;rw[e,S2.co] at h3;omega
    exact⟨h1,Nat.lt_of_lt_of_le h2 a5,(bO h2).trans h3,(aX hne).trans ((a6 _ h2 (.inr (by omega))).trans h4)⟩
   by_cases e:n<gs.length
   ·rw[List.getElem?_append_left e] at hn;exact key n g u (S2.all n g u hn hu)
   ·rw[List.getElem?_append_right (by omega)] at hn;have e0:n-gs.length=0:=by
     have:=(List.getElem?_eq_some_iff.1 hn).1;simp at this;omega
    rw[e0] at hn;cases hn
    have en:n=i:=by omega
    subst en;rw[Ul] at hu;cases hu
    exact key n (gn,0) t ⟨by omega,su,Po,sZ⟩
  ·rw[List.map_append,S2.z,List.length_append];exact(List.replicate_succ' ..).symm
  ·refine⟨Nat.le_trans S2.kc.next a5,fun c hc hn=>?_,fun c hc=>(bO (Nat.lt_of_lt_of_le hc S2.kc.next)).trans (S2.kc.col c hc)⟩;have hne:c≠r:=by have:=S2.r0;omega
   exact(aX hne).trans ((a6 c (Nat.lt_of_lt_of_le hc S2.kc.next) (.inl hc)).trans (S2.kc.keep c hc id))
 ·have hge:i=T.length:=by have:=of_decide_eq_false hc;omega
  exact hQ _ _ _ _ _ S (by omega) ⟨rfl,rfl,trivial⟩
theorem Ab{h:Heap}{col:Nat→Nat}{Q:AV→Heap→Prop}(k:Nat)(T:List Tk)(hk:k=3→T=[])(hT:T.length≤17592186044416)
  (h0:dA T (List.replicate T.length 0)≠0→∀h',Fr h h' []→Q (.cq [.aQ,.int .i64 (dA T (List.replicate T.length 0))]) h')
  (h1:cj T=true→∀h' aC r,RA h' aC r ⟨T,[],List.replicate T.length none,List.replicate T.length 0⟩→Kc h h' col aC (fun _=>False)→Q (.cq [.ptr r 0,.int .i64 0]) h'):VD fs ms 9 [.fz k (eP T)] h Q:=by
 refine bY (af:=C9) rfl (Nat.le_of_ble_eq_true rfl) ?_;conv=>whnf
 refine aF true ?_;conv=>whnf
 refine bu (aF true ?_);conv=>whnf
 rw[bt];refine⟨_,_,NM (by omega),?_⟩;conv=>whnf
 have g0:(h.new (.cells (ints (List.replicate T.length 0)) true 0)).get h.next=some (.cells (aa (ints (List.replicate T.length 0))++[]) true 0):=by rw[m0,List.append_nil];exact aj
 have lq:Fr h (h.new (.cells (ints (List.replicate T.length 0)) true 0)) []:=(Fr.refl h []).new;refine fQ (DX k 0 T (List.replicate T.length 0) (by omega) (by rw[List.length_replicate];omega)) rfl (.cons (.clean (by simp[AV.cl,bF])) (.cons (pZ trivial g0 rfl (qk _) (by rw[bI,List.length_replicate]) (Nat.le_refl _) (bS _)) .nil)) ?_;conv=>whnf
 refine aq (z:=true) ?_;conv=>whnf
 refine br (fun hc=>?_) (fun hc=>?_)<;>(try rw[hc])<;>(conv=>whnf)
 ·exact h0 (by simpa using hc) _ lq
 have hok:dA T (List.replicate T.length 0)=0:=by simpa using hc
 have hto:=(A1 hok).2.1;obtain⟨k2,Bd⟩:=AU k T hk (by have:=nI hto;omega);refine aF true ?_;conv=>whnf
 refine aR Bd ?_;conv=>whnf
 rw[bt];refine⟨_,_,Jd (nI hto),?_⟩;conv=>whnf
 refine bu (aF true ?_);conv=>whnf
 refine bx ?_;have h4:=nI hto;obtain⟨uV,lJ⟩:∃g,g=(h.new (.cells (ints (List.replicate T.length 0)) true 0)):=⟨_,rfl⟩;obtain⟨vQ,sX⟩:∃g,g=uV.new (.cells (List.replicate T.length .aQ) true 0):=⟨_,rfl⟩;obtain⟨CR,xw⟩:∃g,g=vQ.new (.cells [.aQ,.aQ,.fz k2 (eP T),.aL,.sl uV.next 0 T.length T.length false] true 0):=⟨_,rfl⟩;have n1:h.next≤uV.next:=by rw[lJ];exact Nat.le_succ _
 have n2:vQ.next=uV.next+1:=by rw[sX];rfl
 have n3:CR.next=vQ.next+1:=by rw[xw];rfl
 have gJ:CR.get uV.next=some (.cells (List.replicate T.length .aQ) true 0):=by rw[xw,aA (by omega),sX];exact aj
 have gr:CR.get vQ.next=some (.cells [.aQ,.aQ,.fz k2 (eP T),.aL,.sl uV.next 0 T.length T.length false] true 0):=by rw[xw];exact aj
 have gx:Fr h CR []:=by rw[xw,sX,lJ];exact(((Fr.refl h []).new).new).new
 have QZ:∀t∈T,1≤t.p∧t.p≤64:=by
  rw[cj,Bool.and_eq_true,List.all_eq_true] at hto;intro t ht;have:=hto.1 t ht;simp only[iG,decide_eq_true_eq] at this;omega
 have S0:Nw h col CR (b8 (b8 col h.next 4) vQ.next 1) vQ.next k2 uV.next T .aL []:=
  ⟨by omega,by omega,cA (Nat.le_refl _),gr,by omega,by rw[bO (by omega),cA n1],gJ,.inl ⟨rfl,rfl⟩,fun i g t hg=>by simp at hg,rfl,
   ⟨gx.next,fun c hc _=>gx.keep c hc (by simp),fun c hc=>by rw[bO (by omega),bO hc]⟩⟩
 subst xw;subst sX;subst lJ;refine Oq (h0:=h) (nH:=col) (k2:=k2) QZ h4 ?_ T.length 0 _ _ _ [] _ rfl (Nat.zero_le _) rfl S0 ⟨rfl,rfl,rfl,congrArg (fun n:Nat=>some (AV.int .i64 (n:Int))) (bt T),rfl,trivial⟩;intro h5 mX gv gs e5 S su Nf;clear S0 gr gJ n2 n3 gx g0 lq n1;generalize((h.new (.cells (ints (List.replicate T.length 0)) true 0)).new (.cells (List.replicate T.length .aQ) true 0)).next=r at S Nf
 generalize(h.new (.cells (ints (List.replicate T.length 0)) true 0)).next=J at S
 refine aH 6 _ Nf (aq (z:=true) ?_);conv=>whnf
 refine Sj k T hk h4 fun h6 s k3 SA hs CN=>?_;conv=>whnf
 have S6:=S.keep (Kc.nil (col:=mX) CN 2);have cs:b8 mX h5.next 2 s=2:=cA hs;generalize b8 mX h5.next 2=col6 at*;refine bW (bq S6.get rfl (Nat.le_of_ble_eq_true rfl) rfl) fun h7 e7=>?_;conv=>whnf
 rw[bt];replace e7:h7=h6.set r (.cells [.ptr s 0,.aQ,.fz k2 (eP T),gv,.sl J 0 T.length T.length false] true 0):=e7;have sr:s≠r:=by intro e;rw[e,S6.co] at cs;omega
 have G7:h7.get r=some (.cells [.ptr s 0,.aQ,.fz k2 (eP T),gv,.sl J 0 T.length T.length false] true 0):=by rw[e7];exact ay
 have o7:∀c,c≠r→h7.get c=h6.get c:=fun c hc=>by rw[e7,aX hc]
 have x7:h7.next=h6.next:=by rw[e7];rfl
 clear e7;refine UB ((T.length:Nat):Int) (fun h=>by omega) fun _ _ h8 q X hq hX KE=>?_;conv=>whnf
 have G8:=(KE.keep r (by rw[x7];exact S6.lt) (by simp)).trans G7;refine bW (bq G8 rfl (Nat.le_of_ble_eq_true rfl) rfl) fun h9 e9=>?_;conv=>whnf
 replace e9:h9=h8.set r (SW s q k2 T gv (.sl J 0 T.length T.length false)):=e9;have x9:h9.next=h8.next:=by rw[e9];rfl
 have G9:h9.get r=some (SW s q k2 T gv (.sl J 0 T.length T.length false)):=by rw[e9];exact ay
 have n78:=KE.next;have o9:∀c,c≠r→c<h6.next→h9.get c=h6.get c:=fun c hc hl=>by
  rw[e9,aX hc];exact(KE.keep c (by omega) (by simp)).trans (o7 c hc)
 have Fw:∀c,c<h6.next→b8 col6 h7.next 3 c=col6 c:=fun c hc=>bO (by omega);have ZG:∀c,c∈s::gz 0 AV.aL→c=s:=by simp[gz]
 have BZ:=S6.lt;have jlt:=S6.jl;have slt:=SA.lt;have aaU:=hq.own;refine h1 hto h9 (b8 col6 h7.next 3) r ⟨s,q,k2,J,gv,[],List.replicate T.length none,gs,⟨h4,List.length_replicate,su,⟨by omega,(Fw r BZ).trans S6.co,by rw[List.length_replicate];exact G9⟩,⟨k3,0,.aL,?_,fun c hc=>?_⟩,⟨X,?_,fun c hc=>?_⟩,⟨by omega,(Fw J jlt).trans S6.jc,?_⟩,fun i w hw=>?_,?_⟩,?_,?_,fun y=>?_,fun i j hj=>?_⟩ ⟨?_,fun c hc _=>?_,fun c hc=>?_⟩
 ·exact SA.yF (by omega) (o9 s sr slt) (fun c hc=>by simp[gz] at hc)
 ·rw[ZG c hc,Fw s slt,cs]
 ·have fx:Fr h8 h9 [r]:=by rw[e9];exact(Fr.refl _ _).set (by simp)
  refine hq.keep fx fun b hb hm=>?_;have:=hX b hb;simp at hm;omega
 ·exact cA (hX c hc)
 ·rw[o9 J (by intro e;have:=S6.jc;rw[e,S6.co] at this;omega) jlt,S6.jg,List.map_replicate,List.map_replicate];rfl
 ·rw[List.getElem?_replicate] at hw;split at hw<;>cases hw
 ·refine⟨?_,fun i g t hg ht=>?_⟩
  ·rcases S6.row with⟨h,_⟩|⟨G,a1,a2,a3,a4⟩
   ·exact .inl h
   ·exact .inr ⟨G,_,_,a1,by omega,(Fw G a2).trans a3.2,(o9 G (by intro e;have:=a3.2;rw[e,S6.co] at this;omega) a2).trans a4⟩
  ·obtain⟨a1,a2,a3,a4⟩:=S6.all i g t hg ht;exact⟨a1,by omega,(Fw _ a2).trans a3,(o9 _ (by intro e;rw[e,S6.co] at a3;omega) a2).trans a4⟩
 ·rw[wj,List.map_replicate];rfl
 ·rw[S6.z,su]
 ·constructor
  ·intro hy;simp at hy
  ·rintro⟨j,hj,_⟩;have hj:(List.replicate T.length none)[y.1]?=some (some j):=hj;rw[List.getElem?_replicate] at hj;split at hj<;>cases hj
 ·have hj:(List.replicate T.length none)[i]?=some (some j):=hj;rw[List.getElem?_replicate] at hj;split at hj<;>cases hj
 ·have:=S6.kc.next;omega
 ·have:=S6.kc.next;have:=S6.r0;exact(o9 c (by omega) (by omega)).trans (S6.kc.keep c hc id)
 ·have:=S6.kc.next;exact(Fw c (by omega)).trans (S6.kc.col c hc)
def lY(T:List Tk)(js:List (Option Jb))(t:Int):Int:=if cz T t !=0 then cz T t else match js[t.toNat]? with|some (some _)=>0|_=>250
theorem EE{T:List Tk}{js:List (Option Jb)}{t:Int}(h:cz T t≠0):lY T js t=cz T t:=by rw[lY,if_pos (by simpa using h)]
theorem BF{T:List Tk}{js:List (Option Jb)}{i:Nat}(hl:i<T.length)(h:js[i]?=some none):lY T js i=250:=by
 have ha:cz T i=0:=by
  rw[cz,decide_eq_false (by omega),decide_eq_false (by omega)];rfl
 rw[lY,ha,Int.toNat_natCast,h];rfl
theorem gO{T:List Tk}{js:List (Option Jb)}{i:Nat}{j:Jb}(hl:i<T.length)(h:js[i]?=some (some j)):lY T js i=0:=by
 have ha:cz T i=0:=by
  rw[cz,decide_eq_false (by omega),decide_eq_false (by omega)];rfl
 rw[lY,ha,Int.toNat_natCast,h];rfl
section
variable {h:Heap} {col:Nat→Nat} {r s q k J:Nat} {gv:AV} {D:List Id} {ws:Ws} {gs:List (Nat×Int)} {T:List Tk} {L:List En} {st:St} {Q:AV→Heap→Prop} {t:Int}
theorem yU(R:qp h col r s q k J gv D ws gs T L)(h0:lY T (wj ws) t≠0→Q (.cq [.aQ,.int .i64 (lY T (wj ws) t)]) h)
  (h1:∀(i b:Nat) (j:Jb),t=((i:Nat):Int)→ws[i]?=some (some (b,j))→Q (.cq [.ptr b 0,.int .i64 0]) h):VD fs ms 46 [.ptr r 0,.int .i64 t] h Q:=by
 have hl:=R.tl;have hg:=R.dB.get;have hj:=R.kr.get;have e:ws.length=(ws.map (Option.map Prod.fst)).length:=(List.length_map ..).symm;rw[e] at hg;refine Sf hg hj (by rw[List.length_map];exact hl) (fun ha=>?_) (fun i hi ht hn=>?_) (fun i hi b ht hn=>?_)
 ·rw[EE ha] at h0;exact h0 ha
 ·subst ht;have hi':i<ws.length:=by rw[e];exact hi
  rw[List.getElem_map] at hn;have hw:ws[i]?=some none:=by
   rw[List.getElem?_eq_getElem hi'];cases hc:ws[i] with
   |none=>rfl
   |some w=>rw[hc] at hn;cases hn
  rw[BF (by omega) (sW hw)] at h0;exact h0 (by decide)
 ·subst ht;have hi':i<ws.length:=by rw[e];exact hi
  rw[List.getElem_map] at hn;cases hc:ws[i] with
  |none=>rw[hc] at hn;cases hn
  |some w=>
   rw[hc] at hn;cases hn
   exact h1 i w.1 w.2 rfl (by rw[List.getElem?_eq_getElem hi',hc])
theorem Oe(R:RA h col r st)(h0:lY st.T st.j t≠0→Q (.cq [.int .i64 0,.bool false]) h)(h1:∀(i:Nat) (j:Jb),t=((i:Nat):Int)→st.j[i]?=some (some j)→Q (.cq [.int .i64 j.e,.bool true]) h):
  VD fs ms 13 [.ptr r 0,.int .i64 t] h Q:=by
 obtain⟨s,q,k,J,gv,D,ws,gs,R,e1,e2,e3,e4⟩:=R;rw[e1] at h0 h1;refine ak (af:=U0) true rfl (Nat.le_of_ble_eq_true rfl) ?_;conv=>whnf
 refine yU R (fun hn=>?_) (fun i b j ht hw=>?_)
 ·conv=>whnf
  refine qt ((by simpa using hn)) (fun hc=>?_)
  (try rw[hc])
  conv=>whnf
  exact h0 hn
 ·conv=>whnf
  obtain⟨p,C,o,v,JJ,_⟩:=R.mP i _ hw;refine Eo JJ ?_;conv=>whnf
  exact h1 i j ht (dn hw)
theorem JQ{now:Int}(R:RA h col r st)(h0:lY st.T st.j t≠0→Q (.int .i64 0) h)(h1:∀(i:Nat) (j:Jb),t=((i:Nat):Int)→st.j[i]?=some (some j)→∀h',Fr h h' []→Q (.int .i64 (ru j now)) h'):
  VD fs ms 32 [.ptr r 0,.int .i64 t,.int .i64 now] h Q:=by
 obtain⟨s,q,k,J,gv,D,ws,gs,R,e1,e2,e3,e4⟩:=R;rw[e1] at h0 h1 e4;refine ak (af:=Vi) true rfl (Nat.le_of_ble_eq_true rfl) ?_;conv=>whnf
 refine yU R (fun hn=>?_) (fun i b j ht hw=>?_)
 ·conv=>whnf
  refine qt ((by simpa using hn)) (fun hc=>?_)
  (try rw[hc])
  conv=>whnf
  exact h0 hn
 ·conv=>whnf
  obtain⟨p,C,o,v,JJ,_⟩:=R.mP i _ hw;have:=e4 i j (dn hw);refine I0 JJ (by show j.l.length≤64;omega) fun h' fr=>?_;conv=>whnf
  exact h1 i j ht (dn hw) h' fr
theorem Ot(R:RA h col r st)(h0:lY st.T st.j t≠0→∀h',Fr h h' []→Q (.cq [op s8,.bool false]) h')(h1:∀(i:Nat) (j:Jb),t=((i:Nat):Int)→st.j[i]?=some (some j)→∀h',Fr h h' []→Q (.cq [op (j.l.headD s8),.bool (!j.l.isEmpty)]) h'):
  VD fs ms 35 [.ptr r 0,.int .i64 t] h Q:=by
 obtain⟨s,q,k,J,gv,D,ws,gs,R,e1,e2,e3,e4⟩:=R;rw[e1] at h0 h1 e4;refine ak (af:=Vl) true rfl (Nat.le_of_ble_eq_true rfl) ?_;conv=>whnf
 have dy:Fr h (h.new (.cells (op s8).cells true 0)) []:=(Fr.refl h []).new;refine yU (R.nil dy) (fun hn=>?_) (fun i b j ht hw=>?_)
 ·conv=>whnf
  refine qt ((by simpa using hn)) (fun hc=>?_)
  (try rw[hc])
  conv=>whnf
  refine bW (bq aj rfl (Nat.le_refl _) rfl) fun h1 e1=>?_;conv=>whnf
  refine dM (jV rfl (bR (vs:=(op s8).cells) (by rw[e1];exact ay) (Nat.le_refl _)) rfl) ?_;conv=>whnf
  exact h0 hn _ (by rw[e1];exact dy.ki (Nat.le_refl _))
 ·conv=>whnf
  obtain⟨p,C,o,v,JJ,_⟩:=(R.nil dy).mP i _ hw;refine Er JJ fun h2 ey=>?_;conv=>whnf
  have g2:h2.get h.next=some (.cells (op s8).cells true 0):=(ey.keep _ (Nat.lt_succ_self _) (by simp)).trans aj;refine bW (bq g2 rfl (Nat.le_refl _) rfl) fun h3 e3=>?_;conv=>whnf
  refine dM (jV rfl (bR (vs:=(op (j.l.headD s8)).cells) (by rw[e3];exact ay) (Nat.le_refl _)) rfl) ?_;conv=>whnf
  exact h1 i j ht (dn hw) _ (by rw[e3];exact(dy.trans ey).ki (Nat.le_refl _))
end
section
variable {h:Heap} {col:Nat→Nat} {r s q k J:Nat} {gv:AV} {D:List Id} {ws:Ws} {gs:List (Nat×Int)} {T:List Tk} {L:List En} {st:St} {Q:AV→Heap→Prop} {t:Int}
theorem tT{b p C o:Nat}{v:AV}{j:Jb}(J:JP h b p C o v j)(hQ:Q (.int .i64 j.s) h):VD fs ms 83 [.ptr b 0] h Q:=by
 refine ak (af:=Tc) true rfl (Nat.le_of_ble_eq_true rfl) ?_;conv=>whnf
 refine Uw J ?_;conv=>whnf
 exact hQ
theorem Oz(hQ:Q (.int .i64 0) h):VD fs ms 83 [.aQ] h Q:=by
 refine ak (af:=Tc) true rfl (Nat.le_of_ble_eq_true rfl) ?_;conv=>whnf
 refine ak (af:=GV) true rfl (Nat.le_of_ble_eq_true rfl) ?_;conv=>whnf
 refine ak (af:=GU) true rfl (Nat.le_of_ble_eq_true rfl) ?_;conv=>whnf
 exact hQ
theorem Ok(R:RA h col r st)(hL:st.L.length≤1000)(h0:lY st.T st.j t≠0→Q .aL h)(h1:∀(i:Nat) (j:Jb),t=((i:Nat):Int)→st.j[i]?=some (some j)→∀h' v,fI h.next h' v (bz st.L t)→Fr h h' []→Q v h'):
  VD fs ms 14 [.ptr r 0,.int .i64 t] h Q:=by
 obtain⟨s,q,k,J,gv,D,ws,gs,R,e1,e2,e3,e4⟩:=R;rw[e1] at h0 h1 e4;refine ak (af:=U1) true rfl (Nat.le_of_ble_eq_true rfl) ?_;conv=>whnf
 refine yU R (fun hn=>?_) (fun i b j ht hw=>?_)
 ·conv=>whnf
  refine qt ((by simpa using hn)) (fun hc=>?_)
  (try rw[hc])
  conv=>whnf
  exact h0 hn
 ·conv=>whnf
  repeat(first|(refine⟨_,aT R.dB.get rfl,?_⟩;conv=>whnf))
  obtain⟨k2,E,v,S,hc⟩:=R.stk;obtain⟨k1,C6⟩:=S.view;refine w7 (by simp[cD,nG,AV.cl]) (z3 _) (CX k2 k1 st.T st.L hL t) (.cons C6 (.cons (.clean rfl) .nil)) (fun he=>?_) ?_
  ·conv=>whnf
   refine h1 i j ht (dn hw) _ _ (.inl ⟨?_,rfl⟩) (Fr.refl _ _);have:=congrArg List.length he;rw[bI] at this;exact List.length_eq_zero_iff.1 this
  ·conv=>whnf
   rw[bI,m0];exact h1 i j ht (dn hw) _ _ (.inr ⟨h.next,Nat.le_refl _,Nat.lt_succ_self _,rfl,aj⟩) ((Fr.refl h []).new)
theorem On(R:RA h col r st)(h1:∀h' v M,fI h.next h' v (FX M)→(∀y:Id,y∈M↔∃j,st.j[y.1]?=some (some j)∧y.2=j.e)→PO M→G6 M 0 M.length→Fr h h' []→Q v h'):
  VD fs ms 34 [.ptr r 0] h Q:=by
 obtain⟨s,q,k,J,gv,D,ws,gs,R,e1,e2,e3,e4⟩:=R;refine ak (af:=Vk) true rfl (Nat.le_of_ble_eq_true rfl) ?_;conv=>whnf
 refine sO R.dB.get ?_;conv=>whnf
 repeat(first|(refine⟨_,aT R.dB.get rfl,?_⟩;conv=>whnf))
 obtain⟨X,hq,_⟩:=R.z5;refine N4 hq fun h' v M hv ho hm fr=>?_;conv=>whnf
 exact h1 h' v M hv (fun y=>(ho.mem y).trans (e3 y)) ho.dst ho.srt fr
def FL(w:Option (Nat×Jb)):Bool:=match w with|some x=>decide (x.2.s≥2)|none=>false
theorem OB(R:RA h col r st){B:Nat}{Q:AX→Env→Heap→Prop}(RX:qp h col r s q k J gv D ws gs T L)
  (h0:(∀(i:Nat) w,ws[i]?=some w→FL w=false)→∀e,Q (.exit 0) e h)(h1:∀(i b:Nat) (j:Jb) e,ws[i]?=some (some (b,j))→2≤j.s→(∀(m:Nat) w,m<i→ws[m]?=some w→FL w=false)→dr e [(2,.int .i64 (i:Nat)),(3,.int .i64 j.s),(4,.bool true)]→Q .ret e h):
  ∀(m i:Nat) (env:Env),ws.length-i=m→i≤ws.length→(∀(n:Nat) w,n<i→ws[n]?=some w→FL w=false)→dr env [(13,.sl J 0 ws.length ws.length false),(14,.int .i64 ((ws.length:Nat):Int)),(15,.int .i64 ((i:Nat):Int))]→
   VC fs ms B false (.loop lE) env h Q:=by
 have Nh:=RX.n4;have KM:=RX.tl;intro m;induction m using Nat.strongRecOn with
 |ind m ih=>
 intro i env hm hi hno dF;refine aH 5 _ dF ?_;refine dI (z:=true) ?_;conv=>whnf
 refine br (fun hc=>?_) (fun hc=>?_)<;>(try rw[hc])<;>(conv=>whnf)
 ·have hlt:i<ws.length:=by have:=of_decide_eq_true hc;omega
  refine⟨_,aJ hlt,?_⟩;conv=>whnf
  have hg:((ws.map (Option.map Prod.fst)).map xF)[i*1]?=some (UU ws[i]):=by
   rw[Nat.mul_one,List.getElem?_map,List.getElem?_map,List.getElem?_eq_getElem hlt];rfl
  refine⟨_,aT RX.kr.get hg,?_⟩;have hwi:ws[i]?=some ws[i]:=List.getElem?_eq_getElem hlt;have next:FL ws[i]=false→∀(n:Nat) w,n<i+1→ws[n]?=some w→FL w=false:=by
   intro hf n w hn hw;by_cases e:n=i
   ·subst e;rw[hwi] at hw;cases hw;exact hf
   ·exact hno n w (by omega) hw
  cases hc:ws[i] with
  |none=>
   rw[hc] at next
   conv=>whnf
   refine Oz ?_;conv=>whnf
   exact ih (ws.length-(i+1)) (by omega) (i+1) _ rfl (by omega) (next rfl) ⟨rfl,rfl,aK (by omega),trivial⟩
  |some w=>
   rw[hc] at next hwi
   obtain⟨b,j⟩:=w;obtain⟨p,C,o,v,JJ,_⟩:=RX.mP i _ hwi;conv=>whnf
   refine tT JJ ?_;conv=>whnf
   refine br (fun hc=>?_) (fun hc=>?_)<;>(try rw[hc])<;>(conv=>whnf)
   ·exact h1 i b j _ hwi (of_decide_eq_true hc) hno ⟨rfl,rfl,rfl,trivial⟩
   ·exact ih (ws.length-(i+1)) (by omega) (i+1) _ rfl (by omega) (next hc) ⟨rfl,rfl,aK (by omega),trivial⟩
 ·have hge:i=ws.length:=by have:=of_decide_eq_false hc;omega
  refine h0 (fun n w hn=>hno n w ?_ hn) _;have:=(List.getElem?_eq_some_iff.1 hn).1;omega
theorem D7{ws:Ws}{i:Nat}{j:Jb}(h:∀w,ws[i]?=some w→FL w=false)(hj:(wj ws)[i]?=some (some j)):j.s<2:=by
 obtain⟨b,hb⟩:=Ar hj;have:=h _ hb;have:=of_decide_eq_false (show decide (j.s≥2)=false from this);omega
theorem vF{a b c:Nat}{u v w:AV}{e:Env}{h:Heap}{Q:AV→Heap→Prop}(h1:Tr.get e a=some u)(h2:Tr.get e b=some v)(h3:Tr.get e c=some w)(hq:Q (.cq [u,v,w]) h):FF [.tmp a,.tmp b,.tmp c] Q .ret e h:=by
 simp only[FF,dH,n8,h1,h2,h3];exact hq
theorem EW(R:RA h col r st)(h0:(∀(i:Nat) (j:Jb),st.j[i]?=some (some j)→j.s<2)→Q (.cq [.int .i64 0,.int .i64 0,.bool false]) h)
  (h1:∀(i:Nat) (j:Jb),st.j[i]?=some (some j)→2≤j.s→(∀(m:Nat) (j':Jb),m<i→st.j[m]?=some (some j')→j'.s<2)→Q (.cq [.int .i64 ((i:Nat):Int),.int .i64 j.s,.bool true]) h):VD fs ms 30 [.ptr r 0] h Q:=by
 have R0:=R;obtain⟨s,q,k,J,gv,D,ws,gs,R,e1,e2,e3,e4⟩:=R;rw[e1] at h0 h1;refine bY (af:=Vh) rfl (Nat.le_of_ble_eq_true rfl) ?_;conv=>whnf
 refine aF true ?_;conv=>whnf
 refine bu (aF true ?_);conv=>whnf
 refine sO R.dB.get ?_;conv=>whnf
 refine aq (z:=true) ?_;conv=>whnf
 refine bu (aF true ?_);conv=>whnf
 repeat(first|(refine⟨_,aT R.dB.get rfl,?_⟩;conv=>whnf))
 refine bx ?_;refine OB R0 R ?_ ?_ ws.length 0 _ rfl (Nat.zero_le _) (fun n w hn=>by omega) ⟨rfl,rfl,rfl,trivial⟩
 ·intro hno e;refine aH 0 [] trivial (aq (z:=true) ?_);conv=>whnf
  exact h0 fun i j hj=>D7 (hno i) hj
 ·intro i b j e hw hs hno he;exact vF he.1 he.2.1 he.2.2.1 (h1 i j (dn hw) hs fun m j' hm hj=>D7 (fun w=>hno m w hm) hj)
theorem Ff(i:Nat)(hi:i<4):RK (10+i):=⟨by omega,by omega⟩
theorem od{F:AV}(R:qp h col r s q k J gv D ws gs T L)(h0:lY T (wj ws) t≠0→Q (.int .i64 (lY T (wj ws) t)) h)
  (h1:∀(i b:Nat) (j:Jb),t=((i:Nat):Int)→ws[i]?=some (some (b,j))→∃f aM,F=.func (.func f) [] aM∧VD fs ms f ([.ptr b 0]++aM) h Q):VD fs ms 79 [.ptr r 0,.int .i64 t,F] h Q:=by
 refine ak (af:=V1) true rfl (Nat.le_of_ble_eq_true rfl) ?_;conv=>whnf
 refine yU R (fun hn=>?_) (fun i b j ht hw=>?_)
 ·conv=>whnf
  refine qt ((by simpa using hn)) (fun hc=>?_)
  (try rw[hc])
  conv=>whnf
  exact h0 hn
 ·obtain⟨f,aM,rfl,hv⟩:=h1 i b j ht hw;conv=>whnf
  refine VD.mono hv fun v h' hq=>?_;conv=>whnf
  exact hq
theorem Eu(l:List Op):(qY l).length≤l.length:=by
 rw[qY];split
 ·exact Nat.le_refl _
 ·rw[List.length_tail];omega
theorem NF(l:List Op):(kH l).length≤l.length:=by
 cases l with
 |nil=>exact Nat.le_refl _
 |cons x l=>
  rw[kH];split
  ·split<;>simp
  ·exact Nat.le_refl _
theorem Ew(j:Jb):(nQ j).l.length≤j.l.length:=by
 rw[nQ];split
 ·exact NF _
 ·exact Nat.le_refl _
theorem HK(j:Jb):(nQ j).e=j.e:=by
 rw[nQ];split<;>rfl
theorem EV(R:RA h col r st)(h0:lY st.T st.j t≠0→Q (.int .i64 (lY st.T st.j t)) h)
  (h1:∀(i:Nat) (j:Jb),t=((i:Nat):Int)→st.j[i]?=some (some j)→∀h' aC,RA h' aC r {st with j:=st.j.set i (some (nQ j))}→Kc h h' col aC RK→Q (.int .i64 (mu j)) h'):VD fs ms 21 [.ptr r 0,.int .i64 t] h Q:=by
 obtain⟨s,q,k,J,gv,D,ws,gs,R,e1,e2,e3,e4⟩:=R;rw[e1] at h0;refine ak (af:=U8) true rfl (Nat.le_of_ble_eq_true rfl) ?_;conv=>whnf
 refine od R (fun hn=>?_) (fun i b j ht hw=>⟨81,[],rfl,?_⟩)
 ·conv=>whnf
  exact h0 hn
 ·obtain⟨p,C,o,v,JJ,hC,c1,c2,c3⟩:=R.mP i _ hw;have hj:st.j[i]?=some (some j):=by rw[e1];exact dn hw
  refine Rz JJ fun h' v' o' za fr=>?_;conv=>whnf
  have f:Kc h h' col (b8 col h.next (10+i)) (· =10+i):=Kc.of fr (by intro c hc _;simp at hc;rcases hc with rfl|rfl|rfl<;>assumption);have hp:=JJ.rw.lt;have hb:=JJ.lt;refine h1 i j ht hj h' _ (RA.we R e1 e2 e3 e4 hw f ⟨p,C,o',v',za,Nat.lt_of_lt_of_le hC f.next,by rw[f.col b hb,c1],by rw[f.col p hp,c2],by rw[f.col C hC,c3]⟩ (HK j) ?_) (f.wk fun n hn=>by subst hn;exact Ff i (R.len hw));have:=e4 i j hj;have:=Ew j;omega
theorem ES(R:RA h col r st)(h0:lY st.T st.j t≠0→Q (.int .i64 (lY st.T st.j t)) h)
  (h1:∀(i:Nat) (j:Jb),t=((i:Nat):Int)→st.j[i]?=some (some j)→∀h' aC,RA h' aC r {st with j:=st.j.set i (some (v8 j))}→Kc h h' col aC RK→Q (.int .i64 (ur j)) h'):VD fs ms 20 [.ptr r 0,.int .i64 t] h Q:=by
 obtain⟨s,q,k,J,gv,D,ws,gs,R,e1,e2,e3,e4⟩:=R;rw[e1] at h0;refine ak (af:=U7) true rfl (Nat.le_of_ble_eq_true rfl) ?_;conv=>whnf
 refine od R (fun hn=>?_) (fun i b j ht hw=>⟨80,[],rfl,?_⟩)
 ·conv=>whnf
  exact h0 hn
 ·obtain⟨p,C,o,v,JJ,hC,c1,c2,c3⟩:=R.mP i _ hw;have hj:st.j[i]?=some (some j):=by rw[e1];exact dn hw
  refine Rx JJ fun h' v' o' za fr=>?_;conv=>whnf
  have f:Kc h h' col (b8 col h.next (10+i)) (· =10+i):=Kc.of fr (by intro c hc _;simp at hc;rcases hc with rfl|rfl<;>assumption);have hp:=JJ.rw.lt;have hb:=JJ.lt;refine h1 i j ht hj h' _ (RA.we R e1 e2 e3 e4 hw f ⟨p,C,o',v',za,Nat.lt_of_lt_of_le hC f.next,by rw[f.col b hb,c1],by rw[f.col p hp,c2],by rw[f.col C hC,c3]⟩ rfl ?_) (f.wk fun n hn=>by subst hn;exact Ff i (R.len hw));have:=e4 i j hj;have:=Eu j.l;show(qY j.l).length≤32;omega
end
def yE(j:Jb):Jb:=if j.s==0 then{j with s:=1,k:=0} else j
theorem Em{j:Jb}(h:j.s=0):gM j 1=0∧mI j 1=yE j:=by
 have e:gM j 1=0:=by simp[gM,h]
 refine⟨e,?_⟩;rw[mI,e,yE,h];rfl
theorem dc{α:Type}{l:List α}{i:Nat}{x:α}(h:l[i]?=some x):l.set i x=l:=by
 apply List.ext_getElem?;intro n;rw[List.getElem?_set];by_cases e:i=n
 ·subst e;rw[if_pos rfl,if_pos (List.getElem?_eq_some_iff.1 h).1,h]
 ·rw[if_neg e]
theorem DB{h h':Heap}{col:Nat→Nat}{s E E' k:Nat}{v v':AV}{T:List Tk}{L':List En}{bs:List Nat}(hs:s<h.next)(hc:∀c,c∈s::gz E v→col c=2)(S:xe h' s E' v' k T L')(fr:Fr h h' bs)(hb:∀c,c∈bs→c∈s::gz E v)
  (hE:∀c,c∈gz E' v'→(c∈gz E v∧c<h.next)∨h.next≤c):Kc h h' col (b8 col h.next 2) (· =2)∧SF h' (b8 col h.next 2) s k T L':=by
 refine⟨Kc.of fr fun c h1 _=>hc c (hb c h1),E',v',S,fun c h1=>?_⟩;rcases List.mem_cons.1 h1 with rfl|h2
 ·rw[bO hs];exact hc _ (by simp)
 ·rcases hE c h2 with⟨h3,h4⟩|h3
  ·rw[bO h4];exact hc c (by simp[h3])
  ·exact cA h3
section
variable {h:Heap} {col:Nat→Nat} {r s q k J:Nat} {gv:AV} {D:List Id} {ws:Ws} {gs:List (Nat×Int)} {T:List Tk} {L:List En} {st:St} {Q:AV→Heap→Prop} {t:Int}
theorem Uz{x:Int}{b1 b2 b3 i b:Nat}{j:Jb}(g1:h.get b1=some (.cells [.ptr r 0] true 0))(g2:h.get b2=some (.cells [.int .i64 t] true 0))(g3:h.get b3=some (.cells [.int .i64 x] true 0))
  (R:qp h col r s q k J gv D ws gs st.T st.L)(e1:st.j=wj ws)(e2:st.g=gs.map Prod.snd)(e3:∀y:Id,y∈D↔∃j,st.j[y.1]?=some (some j)∧y.2=j.e)(e4:∀(i:Nat) (j:Jb),st.j[i]?=some (some j)→j.l.length≤32)(hw:ws[i]?=some (some (b,j)))(hL:st.L.length≤900)
  (h1:j.s≥2→Q (.int .i64 130) h)(h2:j.s<2→fm st.T st.L t x≠0→∀h',Fr h h' []→Q (.int .i64 (fm st.T st.L t x)) h')
  (h3:j.s<2→fm st.T st.L t x=0→∀h' aC,RA h' aC r {st with L:=st.L++[(t,x)],j:=st.j.set i (some (yE j))}→Kc h h' col aC RK→Q (.int .i64 0) h'):
  VD fs ms 82 [.ptr b 0,.ptr b1 0,.ptr b2 0,.ptr b3 0] h Q:=by
 have hj:st.j[i]?=some (some j):=by rw[e1];exact dn hw
 have Nh:=R.n4;refine ak (af:=V4) true rfl (Nat.le_of_ble_eq_true rfl) ?_;conv=>whnf
 obtain⟨p,C,o,v,JJ,hC,c1,c2,c3⟩:=R.mP i _ hw;refine tT JJ ?_;conv=>whnf
 refine br (fun hc=>?_) (fun hc=>?_)<;>(try rw[hc])<;>(conv=>whnf)
 ·exact h1 (of_decide_eq_true hc)
 have uO:j.s<2:=Int.not_le.1 (of_decide_eq_false hc);repeat(first|(refine⟨_,aT g1 rfl,?_⟩;conv=>whnf)|(refine⟨_,aT g2 rfl,?_⟩;conv=>whnf)|(refine⟨_,aT g3 rfl,?_⟩;conv=>whnf)|(refine⟨_,aT R.dB.get rfl,?_⟩;conv=>whnf))
 obtain⟨k2,E,v2,S,hcs⟩:=R.stk;refine OO S (by omega) hL (fun hl h' S' fr=>?_) (fun hl h' E' v' S' fr hE TE=>?_)
 ·conv=>whnf
  refine nE ((by simpa using hl)) (fun hc=>?_)
  (try rw[hc])
  conv=>whnf
  exact h2 uO hl _ fr
 ·conv=>whnf
  obtain⟨f2,S2⟩:=DB S.lt hcs S' fr (fun c h=>h) (fun c hc=>.inr (by rw[tP hc];exact hE));have R2:=R.DA f2 S2;have f3:=f2.wk (K':=RK) fun n hn=>by subst hn;exact⟨by omega,by omega⟩
  obtain⟨p,C,o,v,JJ,hC,c1,c2,c3⟩:=R2.mP i _ hw;refine tT JJ ?_;conv=>whnf
  refine br (fun hc=>?_) (fun hc=>?_)<;>(try rw[hc])<;>(conv=>whnf)
  ·obtain⟨q1,q2⟩:=Em (j:=j) (eq_of_beq hc);refine IZ JJ fun h4 J4 jL=>?_;conv=>whnf
   have f5:Kc h' h4 (b8 col h.next 2) (b8 (b8 col h.next 2) h'.next (10+i)) (· =10+i):=Kc.of jL (by intro c hc _;simp at hc;rcases hc with rfl;exact c1);have hp:=JJ.rw.lt;have hb:=JJ.lt;have JB:KC h4 (b8 (b8 col h.next 2) h'.next (10+i)) i b (yE j):=by
    have J5:JP h4 b p C o v (yE j):=by rw[←q2];exact J4
    exact⟨p,C,o,v,J5,Nat.lt_of_lt_of_le hC f5.next,by rw[f5.col b hb,c1],by rw[f5.col p hp,c2],by rw[f5.col C hC,c3]⟩
   have hq:=h3 uO hl _ _ (RA.we (st:={st with L:=st.L++[(t,x)]}) R2 e1 e2 e3 e4 hw f5 JB (by rw[yE];split<;>rfl) (by have:=e4 i j hj;rw[yE];split<;>exact this)) (f3.trans (f5.wk fun n hn=>by subst hn;exact Ff i (R.len hw)));rw[←q1] at hq;exact hq
  ·have e:yE j=j:=by rw[yE];exact if_neg (by rw[hc];simp)
   refine h3 uO hl _ _ ⟨s,q,k,J,gv,D,ws,gs,R2,?_,e2,fun y=>?_,fun n jn hn=>?_⟩ f3
   ·show st.j.set i (some (yE j))=_;rw[e,←e1];exact dc hj
   ·show _↔∃j',(st.j.set i (some (yE j)))[y.1]?=some (some j')∧_;rw[e,dc hj];exact e3 y
   ·have hn:(st.j.set i (some (yE j)))[n]?=some (some jn):=hn;rw[e,dc hj] at hn;exact e4 n jn hn
theorem B0{x:Int}(R:RA h col r st)(hL:st.L.length≤900)(h0:lY st.T st.j t≠0→∀h',Fr h h' []→Q (.int .i64 (lY st.T st.j t)) h')
  (h1:∀(i:Nat) (j:Jb),t=((i:Nat):Int)→st.j[i]?=some (some j)→j.s≥2→∀h',Fr h h' []→Q (.int .i64 130) h')
  (h2:∀(i:Nat) (j:Jb),t=((i:Nat):Int)→st.j[i]?=some (some j)→j.s<2→fm st.T st.L t x≠0→∀h',Fr h h' []→Q (.int .i64 (fm st.T st.L t x)) h')
  (h3:∀(i:Nat) (j:Jb),t=((i:Nat):Int)→st.j[i]?=some (some j)→j.s<2→fm st.T st.L t x=0→∀h' aC,RA h' aC r {st with L:=st.L++[(t,x)],j:=st.j.set i (some (yE j))}→Kc h h' col aC RK→Q (.int .i64 0) h'):
  VD fs ms 22 [.ptr r 0,.int .i64 t,.int .i64 x] h Q:=by
 obtain⟨s,q,k,J,gv,D,ws,gs,R,e1,e2,e3,e4⟩:=R;have hj:∀{i b:Nat} {j:Jb},ws[i]?=some (some (b,j))→st.j[i]?=some (some j):=fun h=>by rw[e1];exact dn h
 refine ak (af:=U9) true rfl (Nat.le_of_ble_eq_true rfl) ?_;obtain⟨H1,E1⟩:∃g,g=h.new (.cells [.ptr r 0] true 0):=⟨_,rfl⟩;obtain⟨H2,E2⟩:∃g,g=H1.new (.cells [.int .i64 t] true 0):=⟨_,rfl⟩;obtain⟨H3,E3⟩:∃g,g=H2.new (.cells [.int .i64 x] true 0):=⟨_,rfl⟩;have n1:H1.next=h.next+1:=by rw[E1];rfl
 have n2:H2.next=h.next+2:=by rw[E2];show H1.next+1=_;omega
 have n3:H3.next=h.next+3:=by rw[E3];show H2.next+1=_;omega
 have g1:H3.get h.next=some (.cells [.ptr r 0] true 0):=by rw[E3,aA (by omega),E2,aA (by omega),E1];exact aj
 have g2:H3.get H1.next=some (.cells [.int .i64 t] true 0):=by rw[E3,aA (by omega),E2];exact aj
 have g3:H3.get H2.next=some (.cells [.int .i64 x] true 0):=by rw[E3];exact aj
 have gx:Fr h H3 []:=by rw[E3,E2,E1];exact(((Fr.refl h []).new).new).new
 subst E3;subst E2;subst E1;conv=>whnf
 repeat(first|(refine⟨_,aT g1 rfl,?_⟩;conv=>whnf)|(refine⟨_,aT g2 rfl,?_⟩;conv=>whnf))
 refine od (R.nil gx) (fun hn=>?_) (fun i b j ht hw=>⟨82,_,rfl,?_⟩)
 ·conv=>whnf
  rw[e1] at h0;exact h0 hn _ gx
 ·refine Uz g1 g2 g3 (R.nil gx) e1 e2 e3 e4 hw hL (fun hs=>?_) (fun hs hl h' fr=>?_) (fun hs hl h' aC R' f=>?_)
  ·conv=>whnf
   exact h1 i j ht (hj hw) hs _ gx
  ·conv=>whnf
   exact h2 i j ht (hj hw) hs hl _ (gx.trans fr)
  ·conv=>whnf
   exact h3 i j ht (hj hw) hs hl _ _ R' ((Kc.same gx).trans f)
end
def uQ(L:List En)(t:Int)(j:Jb):Jb:=if(bz L t).isEmpty then sC j else j
theorem v9(j:Jb):(sC j).e=j.e∧(sC j).l=j.l:=by rw[sC];split<;>exact⟨rfl,rfl⟩
section
variable {h:Heap} {col:Nat→Nat} {r s q k J:Nat} {gv:AV} {D:List Id} {ws:Ws} {gs:List (Nat×Int)} {T:List Tk} {L:List En} {st:St} {Q:AV→Heap→Prop} {t:Int}
theorem Dc{i b:Nat}{j:Jb}(R:qp h col r s q k J gv D ws gs st.T st.L)(e1:st.j=wj ws)(e2:st.g=gs.map Prod.snd)(e3:∀y:Id,y∈D↔∃j,st.j[y.1]?=some (some j)∧y.2=j.e)(e4:∀(i:Nat) (j:Jb),st.j[i]?=some (some j)→j.l.length≤32)(hw:ws[i]?=some (some (b,j)))
  (hQ:∀v h' aC,v=.int .i64 (uu j)→RA h' aC r {st with j:=st.j.set i (some (sC j))}→Kc h h' col aC RK→Q v h'):VD fs ms 88 [.ptr b 0] h Q:=by
 obtain⟨p,C,o,v,JJ,hC,c1,c2,c3⟩:=R.mP i _ hw;refine Ry JJ fun h4 J4 jL=>?_;have f5:Kc h h4 col (b8 col h.next (10+i)) (· =10+i):=Kc.of jL (by intro c hc _;simp at hc;rcases hc with rfl;exact c1);have hp:=JJ.rw.lt;have hb:=JJ.lt;obtain⟨l1,l2⟩:=v9 j;exact hQ _ h4 _ rfl (RA.we R e1 e2 e3 e4 hw f5 ⟨p,C,o,v,J4,Nat.lt_of_lt_of_le hC f5.next,by rw[f5.col b hb,c1],by rw[f5.col p hp,c2],by rw[f5.col C hC,c3]⟩ l1 (by rw[l2];exact e4 i j (by rw[e1];exact dn hw))) (f5.wk fun n hn=>by subst hn;exact Ff i (R.len hw))
theorem Ss{b1 b2 i b:Nat}{j:Jb}(g1:h.get b1=some (.cells [.ptr r 0] true 0))(g2:h.get b2=some (.cells [.int .i64 t] true 0))(n1:b1<h.next∧b1≠s)(n2:b2<h.next∧b2≠s)
  (R:qp h col r s q k J gv D ws gs st.T st.L)(e1:st.j=wj ws)(e2:st.g=gs.map Prod.snd)(e3:∀y:Id,y∈D↔∃j,st.j[y.1]?=some (some j)∧y.2=j.e)(e4:∀(i:Nat) (j:Jb),st.j[i]?=some (some j)→j.l.length≤32)(hw:ws[i]?=some (some (b,j)))(hL:st.L.length≤900)
  (h1:iV st.T st.L t≠0→∀h',Fr h h' []→Q (.int .i64 (iV st.T st.L t)) h')
  (h2:iV st.T st.L t=0→∀n:Nat,n<st.L.length→dw st.L t=((n:Nat):Int)→∀h' aC,RA h' aC r {st with L:=st.L.eraseIdx n,j:=st.j.set i (some (uQ (st.L.eraseIdx n) t j))}→Kc h h' col aC RK→Q (.int .i64 0) h'):
  VD fs ms 86 [.ptr b 0,.ptr b1 0,.ptr b2 0] h Q:=by
 have hj:st.j[i]?=some (some j):=by rw[e1];exact dn hw
 have Nh:=R.n4;refine ak (af:=V7) true rfl (Nat.le_of_ble_eq_true rfl) ?_;conv=>whnf
 repeat(first|(refine⟨_,aT g1 rfl,?_⟩;conv=>whnf)|(refine⟨_,aT g2 rfl,?_⟩;conv=>whnf)|(refine⟨_,aT R.dB.get rfl,?_⟩;conv=>whnf))
 obtain⟨k2,E,v2,S,hcs⟩:=R.stk;refine tX S hL (fun hu h' S' fr=>?_) (fun hu n hn hla h' E' v' S' fr hE rT=>?_)
 ·conv=>whnf
  refine qt ((by simpa using hu)) (fun hc=>?_)
  (try rw[hc])
  conv=>whnf
  exact h1 hu _ fr
 ·conv=>whnf
  obtain⟨f2,S2⟩:=DB S.lt hcs S' fr (fun c h=>by simp at h;simp[h]) (fun c hc=>by
   rw[tP hc];rcases hE with h|h
   ·exact .inl ⟨h,wE S.en h⟩
   ·exact .inr h)
  have R2:=R.DA f2 S2;have f3:=f2.wk (K':=RK) fun n hn=>by subst hn;exact⟨by omega,by omega⟩
  have Z5:=(fr.keep b1 n1.1 (by simpa using n1.2)).trans g1;have KF:=(fr.keep b2 n2.1 (by simpa using n2.2)).trans g2;repeat(first|(refine⟨_,aT Z5 rfl,?_⟩;conv=>whnf)|(refine⟨_,aT KF rfl,?_⟩;conv=>whnf)|(refine⟨_,aT R2.dB.get rfl,?_⟩;conv=>whnf))
  obtain⟨k1,C6⟩:=S'.view;have hq:=h2 hu n hn hla;have hL':(st.L.eraseIdx n).length≤1000:=by rw[List.length_eraseIdx];split<;>omega
  generalize st.L.eraseIdx n=L' at*;have lv:bz L' t=[]→uQ L' t j=sC j:=fun hz=>by rw[uQ,hz];rfl
  have nl:bz L' t≠[]→uQ L' t j=j:=fun hz=>by
   rw[uQ,if_neg];cases hh:bz L' t with
   |nil=>exact absurd hh hz
   |cons x l=>simp
  refine w7 (by simp[cD,nG,AV.cl]) (z3 _) (CX k2 k1 st.T L' hL' t) (.cons C6 (.cons (.clean rfl) .nil)) (fun he=>?_) ?_
  ·have hz:bz L' t=[]:=by
    have:=congrArg List.length he;rw[bI] at this;exact List.length_eq_zero_iff.1 this
   rw[lv hz] at hq;conv=>whnf
   refine Dc (st:={st with L:=L'}) R2 e1 e2 e3 e4 hw fun v h4 Qh _ R4 f4=>?_;conv=>whnf
   exact hq h4 Qh R4 (f3.trans f4)
  ·have CM:Fr h' (h'.new (.cells (aa (ints (bz L' t))) true 1)) []:=(Fr.refl h' []).new;conv=>whnf
   rw[bI];refine br (fun hc=>?_) (fun hc=>?_)<;>(try rw[hc])<;>(conv=>whnf)
   ·have hz:bz L' t=[]:=by
     have hc:=eq_of_beq hc;exact List.length_eq_zero_iff.1 (by omega)
    rw[lv hz] at hq;refine Dc (st:={st with L:=L'}) (R2.nil CM) e1 e2 e3 e4 hw fun v h4 Qh _ R4 f4=>?_;conv=>whnf
    exact hq h4 Qh R4 (f3.trans ((Kc.same CM).trans f4))
   ·have hz:bz L' t≠[]:=by
     intro hz;rw[hz] at hc;exact absurd hc (by decide)
    rw[nl hz] at hq;have R5:=R2.nil CM;refine hq _ _ ⟨s,q,k,J,gv,D,ws,gs,R5,?_,e2,fun y=>?_,fun n jn hn=>?_⟩ (f3.trans (Kc.same CM))
    ·show st.j.set i (some j)=_;rw[dc hj,←e1]
    ·show _↔∃j',(st.j.set i (some j))[y.1]?=some (some j')∧_;rw[dc hj];exact e3 y
    ·have hn:(st.j.set i (some j))[n]?=some (some jn):=hn;rw[dc hj] at hn;exact e4 n jn hn
theorem wQ(R:RA h col r st)(hL:st.L.length≤900)(h0:lY st.T st.j t≠0→∀h',Fr h h' []→Q (.int .i64 (lY st.T st.j t)) h')
  (h1:∀(i:Nat) (j:Jb),t=((i:Nat):Int)→st.j[i]?=some (some j)→iV st.T st.L t≠0→∀h',Fr h h' []→Q (.int .i64 (iV st.T st.L t)) h')
  (h2:∀(i:Nat) (j:Jb),t=((i:Nat):Int)→st.j[i]?=some (some j)→iV st.T st.L t=0→∀n:Nat,n<st.L.length→dw st.L t=((n:Nat):Int)→∀h' aC,RA h' aC r {st with L:=st.L.eraseIdx n,j:=st.j.set i (some (uQ (st.L.eraseIdx n) t j))}→Kc h h' col aC RK→Q (.int .i64 0) h'):
  VD fs ms 23 [.ptr r 0,.int .i64 t] h Q:=by
 obtain⟨s,q,k,J,gv,D,ws,gs,R,e1,e2,e3,e4⟩:=R;have hj:∀{i b:Nat} {j:Jb},ws[i]?=some (some (b,j))→st.j[i]?=some (some j):=fun h=>by rw[e1];exact dn h
 refine ak (af:=Va) true rfl (Nat.le_of_ble_eq_true rfl) ?_;obtain⟨H1,E1⟩:∃g,g=h.new (.cells [.ptr r 0] true 0):=⟨_,rfl⟩;obtain⟨H2,E2⟩:∃g,g=H1.new (.cells [.int .i64 t] true 0):=⟨_,rfl⟩;have n1:H1.next=h.next+1:=by rw[E1];rfl
 have n2:H2.next=h.next+2:=by rw[E2];show H1.next+1=_;omega
 have g1:H2.get h.next=some (.cells [.ptr r 0] true 0):=by rw[E2,aA (by omega),E1];exact aj
 have g2:H2.get H1.next=some (.cells [.int .i64 t] true 0):=by rw[E2];exact aj
 have gx:Fr h H2 []:=by rw[E2,E1];exact((Fr.refl h []).new).new
 have hs:s<h.next:=by obtain⟨k2,E,v2,S,hcs⟩:=R.stk;exact S.lt
 have m1:h.next<H2.next∧h.next≠s:=⟨by omega,by omega⟩;have m2:H1.next<H2.next∧H1.next≠s:=⟨by omega,by omega⟩;subst E2;subst E1;conv=>whnf
 repeat(first|(refine⟨_,aT g1 rfl,?_⟩;conv=>whnf)|(refine⟨_,aT g2 rfl,?_⟩;conv=>whnf))
 refine od (R.nil gx) (fun hn=>?_) (fun i b j ht hw=>⟨86,_,rfl,?_⟩)
 ·conv=>whnf
  rw[e1] at h0;exact h0 hn _ gx
 ·refine Ss g1 g2 m1 m2 (R.nil gx) e1 e2 e3 e4 hw hL (fun hu h' fr=>?_) (fun hu n hn hla h' aC R' f=>?_)
  ·conv=>whnf
   exact h1 i j ht (hj hw) hu _ (gx.trans fr)
  ·conv=>whnf
   exact h2 i j ht (hj hw) hu n hn hla _ _ R' ((Kc.same gx).trans f)
end
section
variable {h h':Heap} {col aC:Nat→Nat} {r s q k J:Nat} {gv:AV} {D:List Id} {ws:Ws} {gs:List (Nat×Int)} {T:List Tk} {L:List En} {st:St} {Q:AV→Heap→Prop} {t:Int}
theorem Jv{S S':List Nat}{n:Int}{D D':List Id}(hq:xR h q S n D)(hc:∀c,c∈S→col c=3)(GP:xR h' q S' n D')(ow:Own h h' S S'):Kc h h' col (b8 col h.next 3) (· =3)∧SC h' (b8 col h.next 3) q n D':=by
 refine⟨Kc.of ow.fr fun c h1 _=>hc c h1,S',GP,fun c h1=>?_⟩;rcases ow.new c h1 with h2|h2
 ·rw[bO (hq.own c h2)];exact hc c h2
 ·exact cA h2
theorem Cf{i:Nat}{w:Option (Nat×Jb)}(hi:i<ws.length):Heap.splice ((ws.map (Option.map Prod.fst)).map xF) (i*1) [UU w]=((ws.set i w).map (Option.map Prod.fst)).map xF:=by
 rw[Nat.mul_one,nq _ _ _ (by simpa using hi),List.map_set,List.map_set];rfl
theorem qp.SZ{i:Nat}{w:Option (Nat×Jb)}(R:qp h col r s q k J gv D ws gs T L)(hi:i<ws.length)(f:Kc h h' col aC (· =4))(hg:h'.get J=some (.cells (Heap.splice ((ws.map (Option.map Prod.fst)).map xF) (i*1) [UU w]) true 0))
  (hw:∀x,w=some x→KC h' aC i x.1 x.2):qp h' aC r s q k J gv D (ws.set i w) gs T L:=by
 refine⟨R.n4,by rw[List.length_set];exact R.tl,R.gl,?_,R.stk.imp fun _ h=>h.keep f (by decide),R.z5.keep f (by decide),⟨Nat.lt_of_lt_of_le R.kr.lt f.next,(f.col J R.kr.lt).trans R.kr.co,?_⟩,fun n x hn=>?_,R.uL.keep f (by decide) (by intro i _;omega)⟩
 ·rw[List.length_set];exact R.dB.keep f (by decide)
 ·rw[Cf hi] at hg;exact hg
 ·rw[List.getElem?_set] at hn;by_cases e:i=n
  ·subst e;rw[if_pos rfl,if_pos hi] at hn;exact hw x (Option.some.inj hn)
  ·rw[if_neg e] at hn;exact(R.mP n x hn).keep f (by omega)
theorem ET(R:RA h col r st)(hL:st.L.length≤900)(h0:lY st.T st.j t≠0→Q (.bool false) h)
  (h1:∀(i:Nat) (j:Jb),t=((i:Nat):Int)→st.j[i]?=some (some j)→∀h' aC,RA h' aC r {st with L:=jH st.L t,j:=st.j.set i none}→Kc h h' col aC RK→Q (.bool true) h'):
  VD fs ms 27 [.ptr r 0,.int .i64 t] h Q:=by
 obtain⟨s,q,k,J,gv,D,ws,gs,R,e1,e2,e3,e4⟩:=R;rw[e1] at h0;refine ak (af:=Ve) true rfl (Nat.le_of_ble_eq_true rfl) ?_;conv=>whnf
 refine yU R (fun hn=>?_) (fun i b j ht hw=>?_)
 ·conv=>whnf
  refine qt ((by simpa using hn)) (fun hc=>?_)
  (try rw[hc])
  conv=>whnf
  exact h0 hn
 ·have hj:st.j[i]?=some (some j):=by rw[e1];exact dn hw
  have hi:=(List.getElem?_eq_some_iff.1 hw).1;have Nh:=R.n4;have KM:=R.tl;subst ht;conv=>whnf
  repeat(first|(refine⟨_,aT R.dB.get rfl,?_⟩;conv=>whnf)|(refine⟨_,aJ hi,?_⟩;conv=>whnf))
  refine bW (bq R.kr.get rfl (by rw[List.length_map,List.length_map];omega) rfl) fun h2 E2=>?_;have ey:Fr h h2 [J]:=by rw[E2];exact(Fr.refl _ _).set (by simp)
  have f2:Kc h h2 col (b8 col h.next 4) (· =4):=Kc.of ey (by intro c hc _;simp at hc;rw[hc];exact R.kr.co);have R2:=R.SZ (w:=none) hi f2 (by rw[E2];exact ay) (fun x hx=>by cases hx);clear E2;generalize b8 col h.next 4=iT at*;conv=>whnf
  repeat(first|(refine⟨_,aT R2.dB.get rfl,?_⟩;conv=>whnf))
  obtain⟨X,hq,Wo⟩:=R2.z5;have hyD:((i,j.e):Id)∈D:=(e3 (i,j.e)).2 ⟨j,hj,rfl⟩;refine Gp hq _ (fun hno=>(hno (i,j.e) hyD rfl).elim) fun y hy hym h3 X' D' GP YA ow=>?_;have hyi:y.1=i:=by omega
  obtain⟨f3,S3⟩:=Jv hq Wo GP ow;have R3:=R2.Ju f3 S3;generalize b8 iT h2.next 3=Tu at*;conv=>whnf
  repeat(first|(refine⟨_,aT R3.dB.get rfl,?_⟩;conv=>whnf))
  obtain⟨k2,E,v2,S,hcs⟩:=R3.stk;have ha:cz st.T ((i:Nat):Int)=0:=by
   rw[cz,decide_eq_false (by omega),decide_eq_false (by omega)];rfl
  refine OJ S hL ha fun w h4 E' v' S' jL hE=>?_;obtain⟨f4,S4⟩:=DB S.lt hcs S' jL (fun c h=>h) (fun c hc=>(hE c hc).imp (fun h=>⟨h,wE S.en h⟩) id);have R4:=R3.DA f4 S4;conv=>whnf
  refine h1 i j rfl hj h4 _ ⟨s,q,k,J,gv,D',_,gs,R4,?_,e2,fun z=>?_,fun n jn hn=>?_⟩ (((f2.wk ?_).trans (f3.wk ?_)).trans (f4.wk ?_))
  ·show st.j.set i none=_;rw[e1,wj,wj,List.map_set];rfl
  ·rw[YA z,e3 z,hyi];show _↔∃j',(st.j.set i none)[z.1]?=some (some j')∧_;rw[List.getElem?_set];by_cases e:i=z.1
   ·rw[if_pos e];constructor
    ·intro h;exact absurd e.symm h.2
    ·rintro⟨j',hj',_⟩;split at hj'<;>cases hj'
   ·rw[if_neg e];exact⟨fun h=>h.1,fun h=>⟨h,fun e'=>e e'.symm⟩⟩
  ·have hn:(st.j.set i none)[n]?=some (some jn):=hn;rw[List.getElem?_set] at hn;split at hn
   ·split at hn<;>cases hn
   ·exact e4 n jn hn
  ·intro n hn;subst hn;exact⟨by omega,by omega⟩
  ·intro n hn;subst hn;exact⟨by omega,by omega⟩
  ·intro n hn;subst hn;exact⟨by omega,by omega⟩
def O0(st:St)(i:Nat)(j:Jb):Prop:=st.j[i]?=some (some j)∧∀(i':Nat) (j':Jb),st.j[i']?=some (some j')→ah (i',j'.e) (i,j.e)=false
theorem Ad(R:RA h col r st)(hL:st.L.length≤900)
  (h0:∀(i:Nat) (j:Jb),st.j[i]?=some (some j)→2≤j.s→(∀(m:Nat) (j':Jb),m<i→st.j[m]?=some (some j')→j'.s<2)→Q (.cq [.int .i64 ((i:Nat):Int),.bool true]) h)
  (h1:(∀(i:Nat) (j:Jb),st.j[i]?≠some (some j))→Q (.cq [.int .i64 0,.bool false]) h)
  (h2:(∀(i:Nat) (j:Jb),st.j[i]?=some (some j)→j.s<2)→∀(i:Nat) (j:Jb),O0 st i j→(j.g=true∨lvl st.T i>iA st.T st.L)→Q (.cq [.int .i64 ((i:Nat):Int),.bool true]) h)
  (h3:(∀(i:Nat) (j:Jb),st.j[i]?=some (some j)→j.s<2)→∀(i:Nat) (j:Jb),O0 st i j→j.g=false→¬lvl st.T i>iA st.T st.L→Q (.cq [.int .i64 (qw st.L).1,.bool (qw st.L).2]) h):VD fs ms 15 [.ptr r 0] h Q:=by
 have R0:=R;obtain⟨s,q,k,J,gv,D,ws,gs,R,e1,e2,e3,e4⟩:=R;have Nh:=R.n4;have KM:=R.tl;refine ak (af:=U2) true rfl (Nat.le_of_ble_eq_true rfl) ?_;conv=>whnf
 refine sO R.dB.get ?_;conv=>whnf
 refine EW R0 (fun hno=>?_) (fun i j hj hs hm=>?_)
 ·conv=>whnf
  repeat(first|(refine⟨_,aT R.dB.get rfl,?_⟩;conv=>whnf))
  obtain⟨X,hq,Wo⟩:=R.z5;refine Jt hq (fun hD=>?_) (fun x hx=>?_)
  ·conv=>whnf
   refine h1 fun i j hj=>?_;have:=(e3 (i,j.e)).2 ⟨j,hj,rfl⟩;rw[hD] at this;simp at this
  ·obtain⟨j,hj,Y4⟩:=(e3 x).1 hx.1;have hF:O0 st x.1 j:=⟨hj,fun i' j' hj'=>by rw[←Y4];exact hx.2 _ ((e3 (i',j'.e)).2 ⟨j',hj',rfl⟩)⟩;rw[e1] at hj;obtain⟨b,hw⟩:=Ar hj;have hi:=(List.getElem?_eq_some_iff.1 hw).1;have hg:((ws.map (Option.map Prod.fst)).map xF)[x.1*1]?=some (.ptr b 0):=by
    rw[Nat.mul_one,List.getElem?_map,List.getElem?_map,hw];rfl
   conv=>whnf
   repeat(first|(refine⟨_,aT R.dB.get rfl,?_⟩;conv=>whnf)|(refine⟨_,aJ hi,?_⟩;conv=>whnf)|(refine⟨_,aT R.kr.get hg,?_⟩;conv=>whnf))
   obtain⟨p,C,o,v,JJ,_⟩:=R.mP _ _ hw;refine Rv JJ ?_;cases Iq:j.g with
   |true=>
    conv=>whnf
    exact h2 hno _ _ hF (.inl Iq)
   |false=>
    conv=>whnf
    repeat(first|(refine⟨_,aT R.dB.get rfl,?_⟩;conv=>whnf))
    refine aR (Ey k st.T (by omega) _) ?_;conv=>whnf
    obtain⟨k2,E,v2,S,hcs⟩:=R.stk;obtain⟨k1,C6⟩:=S.view;repeat(first|(refine⟨_,aT R.dB.get rfl,?_⟩;conv=>whnf))
    refine fQ (OI k2 k1 st.T st.L (by omega) (by omega)) rfl (.cons C6 .nil) ?_;conv=>whnf
    refine⟨iO (by(conv=>whnf);repeat' (first|exact trivial|exact aT R.dB.get rfl|(exact⟨rfl,rfl,.inr ⟨_,_,rfl⟩⟩)|(refine⟨rfl,rfl,.inl ⟨rfl,fun o ho=>?_⟩⟩;cases ho;first|rfl|exact aT R.dB.get rfl)|(exact⟨rfl,.inr ⟨_,_,rfl⟩⟩)|(refine⟨rfl,.inl ⟨rfl,fun i o hi ho=>?_⟩⟩;cases hi;cases ho;first|rfl|exact aT R.dB.get rfl)|(refine And.intro (fun eM=>(Bool.false_ne_true eM).elim) ?_<;>conv=>whnf)|(refine And.intro (fun _=>?_) ?_<;>conv=>whnf)|(refine And.intro ?_ ?_<;>conv=>whnf))),?_⟩;conv=>whnf
    refine br (fun hc=>?_) (fun hc=>?_)<;>(try rw[hc])<;>(conv=>whnf)
    ·exact h2 hno _ _ hF (.inr (of_decide_eq_true hc))
    ·repeat(first|(refine⟨_,aT R.dB.get rfl,?_⟩;conv=>whnf))
     refine fQ (UO k2 k1 st.T st.L (by omega)) rfl (.cons C6 .nil) ?_;conv=>whnf
     exact h3 hno _ _ hF Iq (of_decide_eq_false hc)
 ·conv=>whnf
  exact h0 i j hj hs hm
end
theorem Ep{t:Tk}{l:List Op}{a:Int}(h:fU t l a=0):l.length≤32∧0≤a∧a≤1099511627776∧(1≤t.w∧t.w≤t.d∧t.d≤t.p∧t.p≤64)∧IntKind.i64.wrap (a+t.d)=a+t.d:=by
 rw[fU] at h;cases c1:cj [t] with
 |false=>rw[c1] at h;simp at h
 |true=>
  cases c2:decide (a<0) with
  |true=>rw[c1,c2] at h;simp at h
  |false=>
   rw[c1,c2] at h;cases c3:decide (a>1099511627776) with
   |true=>rw[c3] at h;simp at h
   |false=>
    rw[c3] at h;have h:lQ l=0:=h;have a0:=of_decide_eq_false c2;have a1:=of_decide_eq_false c3;have ht:1≤t.w∧t.w≤t.d∧t.d≤t.p∧t.p≤64:=by
     simp only[cj,List.all_cons,List.all_nil,Bool.and_true,Bool.and_eq_true,iG,decide_eq_true_eq] at c1;exact c1.1
    refine⟨?_,by omega,by omega,ht,IntWalk.i64_in _ (by omega)⟩;rw[lQ] at h;split at h
    ·cases h
    ·omega
section
variable {h h':Heap} {col aC:Nat→Nat} {r s q k J:Nat} {gv:AV} {D:List Id} {ws:Ws} {gs:List (Nat×Int)} {T:List Tk} {L:List En} {st:St} {Q:AV→Heap→Prop} {t:Int}
theorem qp.Qy{i:Nat}{g:Nat×Int}{tk:Tk}{n:Int}(R:qp h col r s q k J gv D ws gs T L)(hg:gs[i]?=some g)(ht:T[i]?=some tk)(f:Kc h h' col aC (· =20+i))(hb:h'.get g.1=some (gB tk.p n)):qp h' aC r s q k J gv D ws (gs.set i (g.1,n)) T L:=by
 obtain⟨b1,b2,b3,b4⟩:=R.uL.all i g tk hg ht;have hi:=(List.getElem?_eq_some_iff.1 hg).1;have Nh:=R.n4;have su:=R.gl;have em:(gs.set i (g.1,n)).map (fun g=>AV.ptr g.1 0)=gs.map fun g=>AV.ptr g.1 0:=by
  rw[List.map_set];exact dc (by rw[List.getElem?_map,hg];rfl)
 refine⟨R.n4,R.tl,by rw[List.length_set];exact R.gl,R.dB.keep f (by omega),R.stk.imp fun _ h=>h.keep f (by omega),R.z5.keep f (by omega),R.kr.keep f (by omega),fun n w hw=>(R.mP n w hw).keep f (by have:=R.len hw;omega),?_,fun m g' t' hm ht'=>?_⟩
 ·rcases R.uL.row with h|⟨G,op,es,a1,a2,a3,a4⟩
  ·left;rw[h];rfl
  ·right;rw[List.length_set,em];exact⟨G,op,es,a1,Nat.lt_of_lt_of_le a2 f.next,(f.col G a2).trans a3,(f.keep G a2 (by rw[a3];omega)).trans a4⟩
 ·rw[List.getElem?_set] at hm;by_cases e:i=m
  ·subst e;rw[if_pos rfl,if_pos hi] at hm;cases hm
   rw[ht] at ht';cases ht'
   exact⟨b1,Nat.lt_of_lt_of_le b2 f.next,(f.col _ b2).trans b3,hb⟩
  ·rw[if_neg e] at hm;obtain⟨a1,a2,a3,a4⟩:=R.uL.all m g' t' hm ht';exact⟨a1,Nat.lt_of_lt_of_le a2 f.next,(f.col _ a2).trans a3,(f.keep _ a2 (by rw[a3];omega)).trans a4⟩
def vp(n:Nat):Prop:=RK n∨n=300
theorem EU{l:List Op}{ov:AV}{bs:List Nat}{now:Int}(R:RA h col r st)(GK:∀c,c∈bs→c<h.next→col c=300)
  (hnew:∀(t0:Tk) (Q:AV→Heap→Prop),(fU t0 l now≠0→∀h',Fr h h' bs→Q (.cq [.aQ,.int .i64 (fU t0 l now)]) h')→
   (fU t0 l now=0→∀h' b p C v,JP h' b p C 0 v (jG t0 l now)→h.next≤b→h.next≤p→h.next≤C→(l≠[]→C<h'.next)→Fr h h' bs→Q (.cq [.ptr b 0,.int .i64 0]) h')→VD fs ms 95 [tk t0,ov,.int .i64 now] h Q)
  (h0:cz st.T t≠0→Q (.int .i64 (cz st.T t)) h)
  (h1:∀(i:Nat) (j:Jb),t=((i:Nat):Int)→st.j[i]?=some (some j)→Q (.int .i64 141) h)
  (h2:∀(i:Nat) (tk:Tk),t=((i:Nat):Int)→st.T[i]?=some tk→st.j[i]?=some none→fU tk l now≠0→∀h' aC,RA h' aC r st→Kc h h' col aC vp→Q (.int .i64 (fU tk l now)) h')
  (h3:∀(i:Nat) (tk:Tk) (n:Int),t=((i:Nat):Int)→st.T[i]?=some tk→st.j[i]?=some none→fU tk l now=0→st.g[i]?=some n→kA n now≠0→∀h' aC,RA h' aC r st→Kc h h' col aC vp→Q (.int .i64 (kA n now)) h')
  (h4:∀(i:Nat) (tk:Tk) (n:Int),t=((i:Nat):Int)→st.T[i]?=some tk→st.j[i]?=some none→fU tk l now=0→st.g[i]?=some n→kA n now=0→∀h' aC,RA h' aC r {st with j:=st.j.set i (some (jG tk l now)),g:=st.g.set i (zx tk.p n now)}→Kc h h' col aC vp→Q (.int .i64 0) h'):
  VD fs ms 28 [.ptr r 0,.int .i64 t,ov,.int .i64 now] h Q:=by
 obtain⟨s,q,k,J,gv,D,ws,gs,R,e1,e2,e3,e4⟩:=R;have Nh:=R.n4;have KM:=R.tl;have su:=R.gl;refine ak (af:=Vf) true rfl (Nat.le_of_ble_eq_true rfl) ?_;conv=>whnf
 refine Aa R.dB.get ?_;conv=>whnf
 refine br (fun hc=>?_) (fun hc=>?_)<;>(try rw[hc])<;>(conv=>whnf)
 ·exact h0 (by simpa using hc)
 obtain⟨i,rfl,hiT⟩:=td (T:=st.T) (t:=t) (by simpa using hc);have hi:i<ws.length:=by omega
 have hwi:ws[i]?=some ws[i]:=List.getElem?_eq_getElem hi;have hg:((ws.map (Option.map Prod.fst)).map xF)[i*1]?=some (UU ws[i]):=by
  rw[Nat.mul_one,List.getElem?_map,List.getElem?_map,hwi];rfl
 repeat(first|(refine⟨_,aT R.dB.get rfl,?_⟩;conv=>whnf)|(refine⟨_,aJ hi,?_⟩;conv=>whnf)|(refine⟨_,aT R.kr.get hg,?_⟩;conv=>whnf))
 cases hws:ws[i] with
 |some w=>
  rw[hws] at hwi;conv=>whnf
  exact h1 i w.2 rfl (by rw[e1];exact dn hwi)
 |none=>
 rw[hws] at hwi;have hj0:st.j[i]?=some none:=by rw[e1];exact sW hwi
 conv=>whnf
 obtain⟨l7,htk⟩:∃u,u=st.T[i]:=⟨_,rfl⟩;have Nk:st.T[i]?=some l7:=by rw[htk];exact List.getElem?_eq_getElem hiT
 repeat(first|(refine⟨_,aT R.dB.get rfl,?_⟩;conv=>whnf)|(refine⟨_,kD hiT,?_⟩;conv=>whnf))
 rw[←htk];refine⟨tk l7,rfl,?_⟩;conv=>whnf
 have kbs:∀{h5:Heap} (x:Nat),Fr h h5 bs→Kc h h5 col (b8 col h.next x) (· =300):=fun x fr=>⟨fr.next,fun c hc hn=>fr.keep c hc (fun hm=>hn (GK c hm hc)),fun c hc=>bO hc⟩;refine hnew l7 _ (fun hn h5 fr=>?_) (fun hz h5 b p C v JJ hb hp hC Yz fr=>?_)
 ·conv=>whnf
  refine qt ((by simpa using hn)) (fun hc=>?_)
  (try rw[hc])
  conv=>whnf
  have f5:=kbs 300 fr;exact h2 i l7 rfl Nk hj0 hn _ _ ⟨s,q,k,J,gv,D,ws,gs,R.keep f5 (fun n h1 h2 h=>by omega) (fun i h1 h=>by omega),e1,e2,e3,e4⟩ (f5.wk fun n h=>.inr h)
 obtain⟨ZC,ok2,ok3,ok4,ZD⟩:=Ep hz;have j7:=JJ.rw.lt;have Tf:JP h5 b p (if l=[] then p else C) 0 v (jG l7 l now):=by
  refine⟨JJ.lt,JJ.st,JJ.rw.any (fun hne=>if_neg hne),JJ.n1,?_⟩;by_cases e:l=[]
  ·rw[if_pos e];exact JJ.n1
  ·rw[if_neg e];exact JJ.n2
 have f5:Kc h h5 col (b8 col h.next (10+i)) (· =300):=kbs _ fr;have Pk:(if l=[] then p else C)<h5.next∧h.next≤(if l=[] then p else C):=by
  by_cases e:l=[]
  ·rw[if_pos e];exact⟨j7,hp⟩
  ·rw[if_neg e];exact⟨Yz e,hC⟩
 have JB:KC h5 (b8 col h.next (10+i)) i b (jG l7 l now):=⟨p,_,0,v,Tf,Pk.1,cA hb,cA hp,cA Pk.2⟩;have R5:=R.keep f5 (fun n h1 h2 h=>by omega) (fun i h1 h=>by omega);generalize b8 col h.next (10+i)=mX at*;obtain⟨g,Ec⟩:∃g,gs[i]?=some g:=⟨_,List.getElem?_eq_getElem (by omega)⟩;obtain⟨a1,a2,a3,a4⟩:=R5.uL.all i g l7 Ec Nk;have hgrow:∃G op es,gv=.sl G 0 gs.length gs.length op∧h5.get G=some (.cells (gs.map fun g=>.ptr g.1 0) true es):=by
  rcases R5.uL.row with h|⟨G,op,es,b1,_,_,b2⟩
  ·rw[h] at Ec;simp at Ec
  ·exact⟨G,op,es,b1,b2⟩
 obtain⟨G,op,es,rfl,hG⟩:=hgrow;have YC:(gs.map fun g=>AV.ptr g.1 0)[i*1]?=some (.ptr g.1 0):=by rw[Nat.mul_one,List.getElem?_map,Ec];rfl
 have Y2:i<gs.length:=by omega
 have sZ:st.g[i]?=some g.2:=by rw[e2,List.getElem?_map,Ec];rfl
 conv=>whnf
 repeat(first|(refine⟨_,aT R5.dB.get rfl,?_⟩;conv=>whnf)|(refine⟨_,aJ Y2,?_⟩;conv=>whnf)|(refine⟨_,aT hG YC,?_⟩;conv=>whnf))
 refine Qx a4 a1 fun h6 YL CN=>?_;have f6:Kc h5 h6 mX (b8 mX h5.next (20+i)) (· =20+i):=Kc.of CN (by intro c hc _;simp at hc;rw[hc];exact a3);have R6:=R5.Qy Ec Nk f6 YL;have WJ:=JB.keep f6 (by omega);have kf5:Kc h h5 col mX vp:=f5.wk (fun _ h=>.inr h);have kf6:Kc h5 h6 mX (b8 mX h5.next (20+i)) vp:=f6.wk (fun n hn=>by subst hn;exact .inl ⟨by omega,by omega⟩);generalize b8 mX h5.next (20+i)=col6 at*;have eg:(gs.set i (g.1,zx l7.p g.2 now)).map Prod.snd=st.g.set i (zx l7.p g.2 now):=by rw[List.map_set,←e2]
 conv=>whnf
 by_cases ha:kA g.2 now=0
 ·refine nE ((by simpa using ha)) (fun hc=>?_)
  (try rw[hc])
  conv=>whnf
  repeat(first|(refine⟨_,aT R6.dB.get rfl,?_⟩;conv=>whnf)|(refine⟨_,aJ hi,?_⟩;conv=>whnf))
  refine bW (bq R6.kr.get rfl (by rw[List.length_map,List.length_map];omega) rfl) fun h7 E7=>?_;have Pe:Fr h6 h7 [J]:=by rw[E7];exact(Fr.refl _ _).set (by simp)
  have f7:Kc h6 h7 col6 (b8 col6 h6.next 4) (· =4):=Kc.of Pe (by intro c hc _;simp at hc;rw[hc];exact R6.kr.co);have Te:=WJ.keep f7 (by omega);have R7:=R6.SZ (w:=some (b,jG l7 l now)) hi f7 (by rw[E7];exact ay) (fun x hx=>by cases hx;exact Te);have kf7:Kc h6 h7 col6 (b8 col6 h6.next 4) vp:=f7.wk (fun n hn=>by subst hn;exact .inl ⟨by omega,by omega⟩);clear E7;generalize b8 col6 h6.next 4=col7 at*;conv=>whnf
  repeat(first|(refine⟨_,aT R7.dB.get rfl,?_⟩;conv=>whnf))
  obtain⟨p',C',o',v',WK,_⟩:=Te;refine Eo WK ?_;conv=>whnf
  obtain⟨X,hq,Wo⟩:=R7.z5;have je:(jG l7 l now).e=now+l7.d:=ZD;have Zc:∀y∈D,y.1≠i:=by
   intro y hy e;obtain⟨j',hj',_⟩:=(e3 y).1 hy;rw[e,hj0] at hj';cases hj'
  refine Sb hq _ _ (fun h=>by omega) (fun _ h=>by rw[je] at h;omega) (fun _ _ y hy he=>(Zc y hy (by omega)).elim) (fun _ n hn _ _ h8 X' D' GP YA ow=>?_);have hni:n=i:=by omega
  subst hni;obtain⟨f8,S8⟩:=Jv hq Wo GP ow;have R8:=R7.Ju f8 S8;have kf8:=f8.wk (K':=vp) (fun n hn=>by subst hn;exact .inl ⟨by omega,by omega⟩);conv=>whnf
  refine⟨iO (by(conv=>whnf);repeat' (first|exact trivial|exact aT R7.dB.get rfl|(exact⟨rfl,rfl,.inr ⟨_,_,rfl⟩⟩)|(refine⟨rfl,rfl,.inl ⟨rfl,fun o ho=>?_⟩⟩;cases ho;first|rfl|exact aT R7.dB.get rfl)|(exact⟨rfl,.inr ⟨_,_,rfl⟩⟩)|(refine⟨rfl,.inl ⟨rfl,fun i o hi ho=>?_⟩⟩;cases hi;cases ho;first|rfl|exact aT R7.dB.get rfl)|(refine And.intro (fun eM=>(Bool.false_ne_true eM).elim) ?_<;>conv=>whnf)|(refine And.intro (fun _=>?_) ?_<;>conv=>whnf)|(refine And.intro ?_ ?_<;>conv=>whnf))),?_⟩;conv=>whnf
  refine h4 n l7 g.2 rfl Nk hj0 hz sZ ha h8 _ ⟨s,q,k,J,_,D',_,_,R8,?_,eg.symm,fun z=>?_,fun m jm hm=>?_⟩ (((kf5.trans kf6).trans kf7).trans kf8)
  ·show st.j.set n _=_;rw[Aq,←e1]
  ·rw[YA z,e3 z];show _↔∃j',(st.j.set n (some (jG l7 l now)))[z.1]?=some (some j')∧_;rw[List.getElem?_set];have hl:n<st.j.length:=(List.getElem?_eq_some_iff.1 hj0).1;by_cases e:n=z.1
   ·rw[if_pos e,if_pos hl];constructor
    ·rintro(⟨j',hj',_⟩|Zv)
     ·rw[←e,hj0] at hj';cases hj'
     ·exact⟨_,rfl,by rw[Zv]⟩
    ·rintro⟨j',hj',he⟩;cases hj'
     exact .inr (Prod.ext e.symm he)
   ·rw[if_neg e];constructor
    ·rintro(h|Zv)
     ·exact h
     ·rw[Zv] at e;exact absurd rfl e
    ·exact .inl
  ·have hm:(st.j.set n (some (jG l7 l now)))[m]?=some (some jm):=hm;rw[List.getElem?_set] at hm;split at hm
   ·split at hm
    ·cases hm
     exact ZC
    ·cases hm
   ·exact e4 m jm hm
 ·refine qt ((by simpa using ha)) (fun hc=>?_)
  (try rw[hc])
  conv=>whnf
  have e:zx l7.p g.2 now=g.2:=by rw[zx,if_neg ha]
  refine h3 i l7 g.2 rfl Nk hj0 hz sZ ha h6 col6 ⟨s,q,k,J,_,D,ws,_,R6,e1,?_,e3,e4⟩ (kf5.trans kf6);rw[eg,e];exact(dc sZ).symm
end
end Ir
end Go.Proofs.YtnlcabhfkpafmaaGreat
