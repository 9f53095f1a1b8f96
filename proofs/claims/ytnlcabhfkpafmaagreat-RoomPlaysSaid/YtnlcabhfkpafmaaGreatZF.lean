/-
  Room: new rooms. Room: what does not change it: Deadline, Fault, Next, Held, Jobs, Sole; Run and Did. Room: Held, Jobs, Sole; Run and Did. Room: Lock and Unlock. Room: Unlock. Room: End and Who. Room: Release. Room: Release, where the operations lie in the heap.
-/
import Derived.Test.YtnlcabhfkpafmaaGreatZE
set_option maxRecDepth 100000
set_option linter.unusedSimpArgs false
set_option linter.unusedVariables false
set_option smartUnfolding false
namespace Go.Proofs.YtnlcabhfkpafmaaGreat
open Go Ads
namespace Ir
theorem Je{n:Nat}(hn:n≤4):aI (.jR [.aP] 1 8) [.int .i64 (n:Nat),.int .i64 (n:Nat)]=some (.cells (List.replicate n .aP) true 0,fun b=>.sl b 0 n n false):=by
 have b2:Nat.ble (8*n) 140737488355328=true:=Nat.ble_eq_true_of_le (by omega);have b3:Nat.ble n 9223372036854775807=true:=Nat.ble_eq_true_of_le (by omega);have b1:Nat.ble n n=true:=Nat.ble_eq_true_of_le (by omega);have z:∀n,dS [.aP] n=List.replicate n .aP:=fun n=>by
  induction n with
  |zero=>rfl
  |succ n ih=>rw[List.replicate_succ,←ih];rfl
 rw[←z];show cond (Nat.ble n n&&Nat.ble (8*n) 140737488355328&&Nat.ble n 9223372036854775807) (some (dD.cells (dS [.aP] n) true 0,fun b=>AV.sl b 0 n n false)) none=_;rw[b1,b2,b3];rfl
theorem nG{l:List Tk}(h:cg l=true):l.length≤4:=by
 rw[cg,Bool.and_eq_true,decide_eq_true_eq] at h;exact h.2
structure Nw(h0:Heap)(nF:Nat→Nat)(h:Heap)(col:Nat→Nat)(r k2 J:Nat)(T:List Tk)(gv:AV)(gs:List (Nat×Int)):Prop where
 r0:h0.next≤r
 lt:r<h.next
 co:col r=1
 get:h.get r=some (.cells [.aP,.aP,.fz k2 (eP T),gv,.sl J 0 T.length T.length false] true 0)
 jl:J<h.next
 jc:col J=4
 jg:h.get J=some (.cells (List.replicate T.length .aP) true 0)
 row:(gs=[]∧gv=.aK)∨∃G,gv=.sl G 0 gs.length gs.length true∧G<h.next∧(h0.next≤G∧col G=5)∧h.get G=some (.cells (gs.map fun g=>.ptr g.1 0) true 1)
 all:∀i g t,gs[i]?=some g→T[i]?=some t→t.p≠0∧g.1<h.next∧col g.1=20+i∧h.get g.1=some (gB t.p g.2)
 z:gs.map Prod.snd=List.replicate gs.length 0
 kc:Kc h0 h nF col (fun _=>False)
theorem Nw.keep{h0 h h':Heap}{nF col aB:Nat→Nat}{r k2 J:Nat}{T:List Tk}{gv:AV}{gs:List (Nat×Int)}(S:Nw h0 nF h col r k2 J T gv gs)(f:Kc h h' col aB (fun _=>False)):Nw h0 nF h' aB r k2 J T gv gs:=by
 refine⟨S.r0,Nat.lt_of_lt_of_le S.lt f.next,(f.col r S.lt).trans S.co,(f.keep r S.lt id).trans S.get,Nat.lt_of_lt_of_le S.jl f.next,(f.col J S.jl).trans S.jc,(f.keep J S.jl id).trans S.jg,?_,fun i g t hg ht=>?_,S.z,S.kc.trans f⟩
 ·rcases S.row with h|⟨G,h1,h2,h3,h4⟩
  ·exact .inl h
  ·exact .inr ⟨G,h1,Nat.lt_of_lt_of_le h2 f.next,⟨h3.1,(f.col G h2).trans h3.2⟩,(f.keep G h2 id).trans h4⟩
 ·obtain⟨h1,h2,h3,h4⟩:=S.all i g t hg ht;exact⟨h1,Nat.lt_of_lt_of_le h2 f.next,(f.col _ h2).trans h3,(f.keep _ h2 id).trans h4⟩
theorem Nw.app{h0 h:Heap}{nF col:Nat→Nat}{r k2 J:Nat}{T:List Tk}{gv:AV}{gs:List (Nat×Int)}(S:Nw h0 nF h col r k2 J T gv gs)(hl:gs.length≤4)(g:Nat):
  ∃v' g' G,eV (.append 1 8) [gv,.sl h.next 0 1 1 false] (h.new (.cells [.ptr g 0] true 0))=some (v',g')∧v'=.sl G 0 (gs.length+1) (gs.length+1) true∧h.next≤G∧G<g'.next∧
   g'.get G=some (.cells ((gs.map fun g=>.ptr g.1 0)++[.ptr g 0]) true 1)∧h.next≤g'.next∧∀c,c<h.next→(c<h0.next∨col c≠5)→g'.get c=h.get c:=by
 have hsrc:dm 1 (h.new (.cells [.ptr g 0] true 0)) (.sl h.next 0 1 1 false)=some (1,[.ptr g 0]):=qk ai rfl;rcases S.row with⟨h1,h2⟩|⟨G,h1,h2,h3,h4⟩
 ·subst h1 h2;refine⟨_,_,h.next+1,mT (by omega) hsrc rfl,rfl,by omega,Nat.lt_succ_self _,?_,by show h.next≤h.next+1+1;omega,fun c hc _=>?_⟩
  ·exact ai (h:=h.new (.cells [.ptr g 0] true 0))
  ·exact(az (h:=h.new (.cells [.ptr g 0] true 0)) (show c<h.next+1 by omega)).trans (az hc)
 ·subst h1;have hg:(h.new (.cells [.ptr g 0] true 0)).get G=some (.cells (gs.map fun g=>.ptr g.1 0) true 1):=by rw[az h2];exact h4
  refine⟨_,_,h.next+1,mR hg (by rw[List.length_map,Nat.mul_one]) hsrc rfl (by omega) (by omega),rfl,by omega,Nat.lt_succ_self _,?_,by show h.next≤h.next+1+1;omega,fun c hc hn=>?_⟩
  ·exact ai (h:=(h.new (.cells [.ptr g 0] true 0)).del G)
  ·have hne:c≠G:=by
    rintro rfl;rcases hn with h|h
    ·have:=h3.1;omega
    ·exact h h3.2
   exact(az (h:=(h.new (.cells [.ptr g 0] true 0)).del G) (show c<h.next+1 by omega)).trans ((ep hne).trans (az hc))
theorem Ou{T:List Tk}{k k2 J r B:Nat}{h0:Heap}{nF:Nat→Nat}{Q:AX→Env→Heap→Prop}(hok:∀t∈T,1≤t.p∧t.p≤64)(hT:T.length≤4)
  (hQ:∀h col gv gs e,Nw h0 nF h col r k2 J T gv gs→gs.length=T.length→dr e [(0,.fz k (eP T)),(5,.ptr r 0)]→Q (.exit 0) e h):
  ∀(m i:Nat) (h:Heap) (col:Nat→Nat) (gv:AV) (gs:List (Nat×Int)) (env:Env),T.length-i=m→i≤T.length→gs.length=i→Nw h0 nF h col r k2 J T gv gs→
   dr env [(0,.fz k (eP T)),(5,.ptr r 0),(25,.fz k (eP T)),(26,.int .i64 ((T.length:Nat):Int)),(27,.int .i64 ((i:Nat):Int))]→VC fs ms B false (.loop rU) env h Q:=by
 intro m;induction m using Nat.strongRecOn with
 |ind m ih=>
 intro i h col gv gs env hm hi hg S dF;refine aG 6 _ dF ?_;refine dH (z:=true) ?_;conv=>whnf
 refine br (fun hc=>?_) (fun hc=>?_)<;>(try rw[hc])<;>(conv=>whnf)
 ·have hlt:i<T.length:=by have:=of_decide_eq_true hc;omega
  refine⟨_,kB hlt,?_⟩;conv=>whnf
  obtain⟨t,ht⟩:∃t,t=T[i]:=⟨_,rfl⟩;have Uj:T[i]?=some t:=by rw[ht];exact List.getElem?_eq_getElem hlt
  have hp:=hok t (by rw[ht];exact List.getElem_mem _);rw[←ht];refine⟨tk t,rfl,?_⟩;conv=>whnf
  refine bV (bp ai rfl (Nat.le_refl _) rfl) fun h1 e1=>?_;conv=>whnf
  have dy:Fr h h1 []:=by rw[e1];exact((Fr.refl h []).new (x:=_)).kf (Nat.le_refl _)
  have gb:h1.get h.next=some (.cells (tk t).cells true 0):=by rw[e1,au];rfl
  clear e1;refine⟨_,aS gb rfl,?_⟩;conv=>whnf
  refine Qx (fun _=>?_) (fun h=>(h hp).elim);conv=>whnf
  have ey:Fr h (h1.new (gB t.p 0)) []:=dy.new;have sY:=ai (h:=h1) (x:=gB t.p 0);have sq:h1.next<(h1.new (gB t.p 0)).next:=Nat.lt_succ_self _
  have Pq:bZ col h.next (20+i) h1.next=20+i:=cz dy.next;have S2:=S.keep (Kc.nil (col:=col) ey (20+i));generalize h1.new (gB t.p 0)=h2 at*;generalize bZ col h.next (20+i)=iR at*;generalize h1.next=gn at*;refine⟨_,aS S2.get rfl,?_⟩;conv=>whnf
  obtain⟨v',g',G,a1,rfl,a2,a3,a4,a5,a6⟩:=S2.app (by omega) gn;refine⟨_,_,a1,?_⟩;conv=>whnf
  have xD:g'.get r=some (.cells [.aP,.aP,.fz k2 (eP T),gv,.sl J 0 T.length T.length false] true 0):=(a6 r S2.lt (.inr (by rw[S2.co];decide))).trans S2.get;refine⟨_,_,bp xD rfl (yB rfl) rfl,?_⟩;conv=>whnf
  have YB:G≠r:=by have:=S2.lt;omega
  have YC:J≠r:=by intro e;have:=S2.jc;rw[e,S2.co] at this;omega
  refine ih (T.length-(i+1)) (by omega) (i+1) _ (bZ iR h2.next 5) _ (gs++[(gn,0)]) _ rfl (by omega) (by simp[hg]) ⟨S2.r0,Nat.lt_of_lt_of_le S2.lt a5,(bN S2.lt).trans S2.co,au,Nat.lt_of_lt_of_le S2.jl a5,(bN S2.jl).trans S2.jc,?_,?_,fun n g u hn hu=>?_,?_,?_⟩ ⟨rfl,rfl,rfl,rfl,aJ (by omega),trivial⟩
  ·exact(aW YC).trans ((a6 J S2.jl (.inr (by rw[S2.jc];decide))).trans S2.jg)
  ·refine .inr ⟨G,?_,a3,⟨Nat.le_trans S2.kc.next a2,cz a2⟩,?_⟩
   ·rw[List.length_append];rfl
   ·rw[List.map_append];exact(aW YB).trans a4
  ·have key:∀(n:Nat) (g:Nat×Int) (u:Tk),(u.p≠0∧g.1<h2.next∧iR g.1=20+n∧h2.get g.1=some (gB u.p g.2))→u.p≠0∧g.1<(g'.set r (.cells (Heap.splice [.aP,.aP,.fz k2 (eP T),gv,.sl J 0 T.length T.length false] (0+3) (AV.sl G 0 (gs.length+1) (gs.length+1) true).cells) true 0)).next∧bZ iR h2.next 5 g.1=20+n∧
     (g'.set r (.cells (Heap.splice [.aP,.aP,.fz k2 (eP T),gv,.sl J 0 T.length T.length false] (0+3) (AV.sl G 0 (gs.length+1) (gs.length+1) true).cells) true 0)).get g.1=some (gB u.p g.2):=by
    rintro n g u ⟨h1,h2,h3,h4⟩;have hne:g.1≠r:=by intro e;rw[e,S2.co] at h3;omega
    exact⟨h1,Nat.lt_of_lt_of_le h2 a5,(bN h2).trans h3,(aW hne).trans ((a6 _ h2 (.inr (by omega))).trans h4)⟩
   by_cases e:n<gs.length
   ·rw[List.getElem?_append_left e] at hn;exact key n g u (S2.all n g u hn hu)
   ·rw[List.getElem?_append_right (by omega)] at hn;have e0:n-gs.length=0:=by
     have:=(List.getElem?_eq_some_iff.1 hn).1;simp at this;omega
    rw[e0] at hn;cases hn
    have en:n=i:=by omega
    subst en;rw[Uj] at hu;cases hu
    exact key n (gn,0) t ⟨by omega,sq,Pq,sY⟩
  ·rw[List.map_append,S2.z,List.length_append];exact(List.replicate_succ' ..).symm
  ·refine⟨Nat.le_trans S2.kc.next a5,fun c hc hn=>?_,fun c hc=>(bN (Nat.lt_of_lt_of_le hc S2.kc.next)).trans (S2.kc.col c hc)⟩;have hne:c≠r:=by have:=S2.r0;omega
   exact(aW hne).trans ((a6 c (Nat.lt_of_lt_of_le hc S2.kc.next) (.inl hc)).trans (S2.kc.keep c hc id))
 ·have hge:i=T.length:=by have:=of_decide_eq_false hc;omega
  exact hQ _ _ _ _ _ S (by omega) ⟨rfl,rfl,trivial⟩
set_option smartUnfolding true in
theorem Ab{h:Heap}{col:Nat→Nat}{Q:AV→Heap→Prop}(k:Nat)(T:List Tk)(hk:k=3→T=[])(hT:T.length≤17592186044416)
  (h0:dA T (List.replicate T.length 0)≠0→∀h',Fr h h' []→Q (.cn [.aP,.int .i64 (dA T (List.replicate T.length 0))]) h')
  (h1:cg T=true→∀h' aB r,RA h' aB r ⟨T,[],List.replicate T.length none,List.replicate T.length 0⟩→Kc h h' col aB (fun _=>False)→Q (.cn [.ptr r 0,.int .i64 0]) h'):VD fs ms 9 [.fz k (eP T)] h Q:=by
 refine bX (af:=C9) rfl (yB rfl) ?_
 set_option smartUnfolding false in conv => whnf
 refine aE true ?_
 set_option smartUnfolding false in conv => whnf
 refine bt (aE true ?_)
 set_option smartUnfolding false in conv => whnf
 rw[bq];refine⟨_,_,NO (by omega),?_⟩
 set_option smartUnfolding false in conv => whnf
 have g0:(h.new (.cells (ints (List.replicate T.length 0)) true 0)).get h.next=some (.cells (aa (ints (List.replicate T.length 0))++[]) true 0):=by rw[mY,List.append_nil];exact ai
 have lf:Fr h (h.new (.cells (ints (List.replicate T.length 0)) true 0)) []:=(Fr.refl h []).new;refine fQ (DX k 0 T (List.replicate T.length 0) (by omega) (by rw[List.length_replicate];omega)) rfl (.cons (.clean (by simp[AV.cl,bD])) (.cons (pY trivial g0 rfl (qj _) (by rw[bH,List.length_replicate]) (Nat.le_refl _) (bR _)) .nil)) ?_
 set_option smartUnfolding false in conv => whnf
 refine an (z:=true) ?_
 set_option smartUnfolding false in conv => whnf
 refine br (fun hc=>?_) (fun hc=>?_)<;>(try rw[hc])<;>(set_option smartUnfolding false in conv=>whnf)
 ·exact h0 (by simpa using hc) _ lf
 have hok:dA T (List.replicate T.length 0)=0:=by simpa using hc
 have hto:=(A1 hok).2.1;obtain⟨k2,Bd⟩:=AU k T hk (by have:=nG hto;omega);refine aE true ?_
 set_option smartUnfolding false in conv => whnf
 refine aQ Bd ?_
 set_option smartUnfolding false in conv => whnf
 rw[bq];refine⟨_,_,Je (nG hto),?_⟩
 set_option smartUnfolding false in conv => whnf
 refine bt (aE true ?_)
 set_option smartUnfolding false in conv => whnf
 refine bw ?_;have h4:=nG hto;obtain⟨uU,lH⟩:∃g,g=(h.new (.cells (ints (List.replicate T.length 0)) true 0)):=⟨_,rfl⟩;obtain⟨vP,sW⟩:∃g,g=uU.new (.cells (List.replicate T.length .aP) true 0):=⟨_,rfl⟩;obtain⟨CS,xu⟩:∃g,g=vP.new (.cells [.aP,.aP,.fz k2 (eP T),.aK,.sl uU.next 0 T.length T.length false] true 0):=⟨_,rfl⟩;have n1:h.next≤uU.next:=by rw[lH];exact Nat.le_succ _
 have n2:vP.next=uU.next+1:=by rw[sW];rfl
 have n3:CS.next=vP.next+1:=by rw[xu];rfl
 have gJ:CS.get uU.next=some (.cells (List.replicate T.length .aP) true 0):=by rw[xu,az (by omega),sW];exact ai
 have gr:CS.get vP.next=some (.cells [.aP,.aP,.fz k2 (eP T),.aK,.sl uU.next 0 T.length T.length false] true 0):=by rw[xu];exact ai
 have gx:Fr h CS []:=by rw[xu,sW,lH];exact(((Fr.refl h []).new).new).new
 have Q0:∀t∈T,1≤t.p∧t.p≤64:=by
  rw[cg,Bool.and_eq_true,List.all_eq_true] at hto;intro t ht;have:=hto.1 t ht;simp only[iE,decide_eq_true_eq] at this;omega
 have S0:Nw h col CS (bZ (bZ col h.next 4) vP.next 1) vP.next k2 uU.next T .aK []:=
  ⟨by omega,by omega,cz (Nat.le_refl _),gr,by omega,by rw[bN (by omega),cz n1],gJ,.inl ⟨rfl,rfl⟩,fun i g t hg=>by simp at hg,rfl,
   ⟨gx.next,fun c hc _=>gx.keep c hc (by simp),fun c hc=>by rw[bN (by omega),bN hc]⟩⟩
 subst xu;subst sW;subst lH;refine Ou (h0:=h) (nF:=col) (k2:=k2) Q0 h4 ?_ T.length 0 _ _ _ [] _ rfl (Nat.zero_le _) rfl S0 ⟨rfl,rfl,rfl,congrArg (fun n:Nat=>some (AV.int .i64 (n:Int))) (bq T),rfl,trivial⟩;intro h5 mV gv gs e5 S sq Nh;clear S0 gr gJ n2 n3 gx g0 lf n1;generalize((h.new (.cells (ints (List.replicate T.length 0)) true 0)).new (.cells (List.replicate T.length .aP) true 0)).next=r at S Nh
 generalize(h.new (.cells (ints (List.replicate T.length 0)) true 0)).next=J at S
 refine aG 6 _ Nh (an (z:=true) ?_)
 set_option smartUnfolding false in conv => whnf
 refine Sl k T hk h4 fun h6 s k3 SA hs CO=>?_
 set_option smartUnfolding false in conv => whnf
 have S6:=S.keep (Kc.nil (col:=mV) CO 2);have cs:bZ mV h5.next 2 s=2:=cz hs;generalize bZ mV h5.next 2=col6 at*;refine bV (bp S6.get rfl (yB rfl) rfl) fun h7 e7=>?_
 set_option smartUnfolding false in conv => whnf
 rw[bq];replace e7:h7=h6.set r (.cells [.ptr s 0,.aP,.fz k2 (eP T),gv,.sl J 0 T.length T.length false] true 0):=e7;have sr:s≠r:=by intro e;rw[e,S6.co] at cs;omega
 have G7:h7.get r=some (.cells [.ptr s 0,.aP,.fz k2 (eP T),gv,.sl J 0 T.length T.length false] true 0):=by rw[e7];exact au
 have o7:∀c,c≠r→h7.get c=h6.get c:=fun c hc=>by rw[e7,aW hc]
 have x7:h7.next=h6.next:=by rw[e7];rfl
 clear e7;refine Uz ((T.length:Nat):Int) (fun h=>by omega) fun _ _ h8 q X hq hX KG=>?_
 set_option smartUnfolding false in conv => whnf
 have G8:=(KG.keep r (by rw[x7];exact S6.lt) (by simp)).trans G7;refine bV (bp G8 rfl (yB rfl) rfl) fun h9 e9=>?_
 set_option smartUnfolding false in conv => whnf
 replace e9:h9=h8.set r (SV s q k2 T gv (.sl J 0 T.length T.length false)):=e9;have x9:h9.next=h8.next:=by rw[e9];rfl
 have G9:h9.get r=some (SV s q k2 T gv (.sl J 0 T.length T.length false)):=by rw[e9];exact au
 have n78:=KG.next;have o9:∀c,c≠r→c<h6.next→h9.get c=h6.get c:=fun c hc hl=>by
  rw[e9,aW hc];exact(KG.keep c (by omega) (by simp)).trans (o7 c hc)
 have Fw:∀c,c<h6.next→bZ col6 h7.next 3 c=col6 c:=fun c hc=>bN (by omega);have ZE:∀c,c∈s::gz 0 AV.aK→c=s:=by simp[gz]
 have BZ:=S6.lt;have jlt:=S6.jl;have slt:=SA.lt;have aaS:=hq.own;refine h1 hto h9 (bZ col6 h7.next 3) r ⟨s,q,k2,J,gv,[],List.replicate T.length none,gs,⟨h4,List.length_replicate,sq,⟨by omega,(Fw r BZ).trans S6.co,by rw[List.length_replicate];exact G9⟩,⟨k3,0,.aK,?_,fun c hc=>?_⟩,⟨X,?_,fun c hc=>?_⟩,⟨by omega,(Fw J jlt).trans S6.jc,?_⟩,fun i w hw=>?_,?_⟩,?_,?_,fun y=>?_,fun i j hj=>?_⟩ ⟨?_,fun c hc _=>?_,fun c hc=>?_⟩
 ·exact SA.yH (by omega) (o9 s sr slt) (fun c hc=>by simp[gz] at hc)
 ·rw[ZE c hc,Fw s slt,cs]
 ·have fx:Fr h8 h9 [r]:=by rw[e9];exact(Fr.refl _ _).set (by simp)
  refine hq.keep fx fun b hb hm=>?_;have:=hX b hb;simp at hm;omega
 ·exact cz (hX c hc)
 ·rw[o9 J (by intro e;have:=S6.jc;rw[e,S6.co] at this;omega) jlt,S6.jg,List.map_replicate,List.map_replicate];rfl
 ·rw[List.getElem?_replicate] at hw;split at hw<;>cases hw
 ·refine⟨?_,fun i g t hg ht=>?_⟩
  ·rcases S6.row with⟨h,_⟩|⟨G,a1,a2,a3,a4⟩
   ·exact .inl h
   ·exact .inr ⟨G,_,_,a1,by omega,(Fw G a2).trans a3.2,(o9 G (by intro e;have:=a3.2;rw[e,S6.co] at this;omega) a2).trans a4⟩
  ·obtain⟨a1,a2,a3,a4⟩:=S6.all i g t hg ht;exact⟨a1,by omega,(Fw _ a2).trans a3,(o9 _ (by intro e;rw[e,S6.co] at a3;omega) a2).trans a4⟩
 ·rw[wj,List.map_replicate];rfl
 ·rw[S6.z,sq]
 ·constructor
  ·intro hy;simp at hy
  ·rintro⟨j,hj,_⟩;have hj:(List.replicate T.length none)[y.1]?=some (some j):=hj;rw[List.getElem?_replicate] at hj;split at hj<;>cases hj
 ·have hj:(List.replicate T.length none)[i]?=some (some j):=hj;rw[List.getElem?_replicate] at hj;split at hj<;>cases hj
 ·have:=S6.kc.next;omega
 ·have:=S6.kc.next;have:=S6.r0;exact(o9 c (by omega) (by omega)).trans (S6.kc.keep c hc id)
 ·have:=S6.kc.next;exact(Fw c (by omega)).trans (S6.kc.col c hc)
def lW(T:List Tk)(js:List (Option Jb))(t:Int):Int:=if cw T t !=0 then cw T t else match js[t.toNat]? with|some (some _)=>0|_=>250
theorem EE{T:List Tk}{js:List (Option Jb)}{t:Int}(h:cw T t≠0):lW T js t=cw T t:=by rw[lW,if_pos (by simpa using h)]
theorem BF{T:List Tk}{js:List (Option Jb)}{i:Nat}(hl:i<T.length)(h:js[i]?=some none):lW T js i=250:=by
 have ha:cw T i=0:=by
  rw[cw,decide_eq_false (by omega),decide_eq_false (by omega)];rfl
 rw[lW,ha,Int.toNat_natCast,h];rfl
theorem gO{T:List Tk}{js:List (Option Jb)}{i:Nat}{j:Jb}(hl:i<T.length)(h:js[i]?=some (some j)):lW T js i=0:=by
 have ha:cw T i=0:=by
  rw[cw,decide_eq_false (by omega),decide_eq_false (by omega)];rfl
 rw[lW,ha,Int.toNat_natCast,h];rfl
section
variable {h:Heap} {col:Nat→Nat} {r s q k J:Nat} {gv:AV} {D:List Id} {ws:Ws} {gs:List (Nat×Int)} {T:List Tk} {L:List En} {st:St} {Q:AV→Heap→Prop} {t:Int}
theorem yW(R:qo h col r s q k J gv D ws gs T L)(h0:lW T (wj ws) t≠0→Q (.cn [.aP,.int .i64 (lW T (wj ws) t)]) h)
  (h1:∀(i b:Nat) (j:Jb),t=((i:Nat):Int)→ws[i]?=some (some (b,j))→Q (.cn [.ptr b 0,.int .i64 0]) h):VD fs ms 46 [.ptr r 0,.int .i64 t] h Q:=by
 have hl:=R.tl;have hg:=R.dB.get;have hj:=R.ko.get;have e:ws.length=(ws.map (Option.map Prod.fst)).length:=(List.length_map ..).symm;rw[e] at hg;refine Sg hg hj (by rw[List.length_map];exact hl) (fun ha=>?_) (fun i hi ht hn=>?_) (fun i hi b ht hn=>?_)
 ·rw[EE ha] at h0;exact h0 ha
 ·subst ht;have hi':i<ws.length:=by rw[e];exact hi
  rw[List.getElem_map] at hn;have hw:ws[i]?=some none:=by
   rw[List.getElem?_eq_getElem hi'];cases hc:ws[i] with
   |none=>rfl
   |some w=>rw[hc] at hn;cases hn
  rw[BF (by omega) (sV hw)] at h0;exact h0 (by decide)
 ·subst ht;have hi':i<ws.length:=by rw[e];exact hi
  rw[List.getElem_map] at hn;cases hc:ws[i] with
  |none=>rw[hc] at hn;cases hn
  |some w=>
   rw[hc] at hn;cases hn
   exact h1 i w.1 w.2 rfl (by rw[List.getElem?_eq_getElem hi',hc])
theorem Og(R:RA h col r st)(h0:lW st.T st.j t≠0→Q (.cn [.int .i64 0,.bool false]) h)(h1:∀(i:Nat) (j:Jb),t=((i:Nat):Int)→st.j[i]?=some (some j)→Q (.cn [.int .i64 j.e,.bool true]) h):
  VD fs ms 13 [.ptr r 0,.int .i64 t] h Q:=by
 obtain⟨s,q,k,J,gv,D,ws,gs,R,e1,e2,e3,e4⟩:=R;rw[e1] at h0 h1;refine aj (af:=UY) true rfl (yB rfl) ?_;conv=>whnf
 refine yW R (fun hn=>?_) (fun i b j ht hw=>?_)
 ·conv=>whnf
  refine qq ((by simpa using hn)) (fun hc=>?_)
  (try rw[hc])
  conv=>whnf
  exact h0 hn
 ·conv=>whnf
  obtain⟨p,C,o,v,JJ,_⟩:=R.mN i _ hw;refine Eo JJ ?_;conv=>whnf
  exact h1 i j ht (dn hw)
theorem JS{now:Int}(R:RA h col r st)(h0:lW st.T st.j t≠0→Q (.int .i64 0) h)(h1:∀(i:Nat) (j:Jb),t=((i:Nat):Int)→st.j[i]?=some (some j)→∀h',Fr h h' []→Q (.int .i64 (rq j now)) h'):
  VD fs ms 32 [.ptr r 0,.int .i64 t,.int .i64 now] h Q:=by
 obtain⟨s,q,k,J,gv,D,ws,gs,R,e1,e2,e3,e4⟩:=R;rw[e1] at h0 h1 e4;refine aj (af:=Vg) true rfl (yB rfl) ?_;conv=>whnf
 refine yW R (fun hn=>?_) (fun i b j ht hw=>?_)
 ·conv=>whnf
  refine qq ((by simpa using hn)) (fun hc=>?_)
  (try rw[hc])
  conv=>whnf
  exact h0 hn
 ·conv=>whnf
  obtain⟨p,C,o,v,JJ,_⟩:=R.mN i _ hw;have:=e4 i j (dn hw);refine I1 JJ (by show j.l.length≤64;omega) fun h' fr=>?_;conv=>whnf
  exact h1 i j ht (dn hw) h' fr
theorem Ov(R:RA h col r st)(h0:lW st.T st.j t≠0→∀h',Fr h h' []→Q (.cn [op s7,.bool false]) h')(h1:∀(i:Nat) (j:Jb),t=((i:Nat):Int)→st.j[i]?=some (some j)→∀h',Fr h h' []→Q (.cn [op (j.l.headD s7),.bool (!j.l.isEmpty)]) h'):
  VD fs ms 35 [.ptr r 0,.int .i64 t] h Q:=by
 obtain⟨s,q,k,J,gv,D,ws,gs,R,e1,e2,e3,e4⟩:=R;rw[e1] at h0 h1 e4;refine aj (af:=Vj) true rfl (yB rfl) ?_;conv=>whnf
 have dy:Fr h (h.new (.cells (op s7).cells true 0)) []:=(Fr.refl h []).new;refine yW (R.nil dy) (fun hn=>?_) (fun i b j ht hw=>?_)
 ·conv=>whnf
  refine qq ((by simpa using hn)) (fun hc=>?_)
  (try rw[hc])
  conv=>whnf
  refine bV (bp ai rfl (Nat.le_refl _) rfl) fun h1 e1=>?_;conv=>whnf
  refine dL (jT rfl (bQ (vs:=(op s7).cells) (by rw[e1];exact au) (Nat.le_refl _)) rfl) ?_;conv=>whnf
  exact h0 hn _ (by rw[e1];exact dy.kf (Nat.le_refl _))
 ·conv=>whnf
  obtain⟨p,C,o,v,JJ,_⟩:=(R.nil dy).mN i _ hw;refine Er JJ fun h2 ey=>?_;conv=>whnf
  have g2:h2.get h.next=some (.cells (op s7).cells true 0):=(ey.keep _ (Nat.lt_succ_self _) (by simp)).trans ai;refine bV (bp g2 rfl (Nat.le_refl _) rfl) fun h3 e3=>?_;conv=>whnf
  refine dL (jT rfl (bQ (vs:=(op (j.l.headD s7)).cells) (by rw[e3];exact au) (Nat.le_refl _)) rfl) ?_;conv=>whnf
  exact h1 i j ht (dn hw) _ (by rw[e3];exact(dy.trans ey).kf (Nat.le_refl _))
end
section
variable {h:Heap} {col:Nat→Nat} {r s q k J:Nat} {gv:AV} {D:List Id} {ws:Ws} {gs:List (Nat×Int)} {T:List Tk} {L:List En} {st:St} {Q:AV→Heap→Prop} {t:Int}
theorem tS{b p C o:Nat}{v:AV}{j:Jb}(J:JP h b p C o v j)(hQ:Q (.int .i64 j.s) h):VD fs ms 83 [.ptr b 0] h Q:=by
 refine aj (af:=Ta) true rfl (yB rfl) ?_;conv=>whnf
 refine Uu J ?_;conv=>whnf
 exact hQ
theorem OB(hQ:Q (.int .i64 0) h):VD fs ms 83 [.aP] h Q:=by
 refine aj (af:=Ta) true rfl (yB rfl) ?_;conv=>whnf
 refine aj (af:=GW) true rfl (yB rfl) ?_;conv=>whnf
 refine aj (af:=GV) true rfl (yB rfl) ?_;conv=>whnf
 exact hQ
set_option smartUnfolding true in
theorem Om(R:RA h col r st)(hL:st.L.length≤1000)(h0:lW st.T st.j t≠0→Q .aK h)(h1:∀(i:Nat) (j:Jb),t=((i:Nat):Int)→st.j[i]?=some (some j)→∀h' v,fI h.next h' v (bx st.L t)→Fr h h' []→Q v h'):
  VD fs ms 14 [.ptr r 0,.int .i64 t] h Q:=by
 obtain⟨s,q,k,J,gv,D,ws,gs,R,e1,e2,e3,e4⟩:=R;rw[e1] at h0 h1 e4;refine aj (af:=UZ) true rfl (yB rfl) ?_
 set_option smartUnfolding false in conv => whnf
 refine yW R (fun hn=>?_) (fun i b j ht hw=>?_)
 ·set_option smartUnfolding false in conv=>whnf
  refine qq ((by simpa using hn)) (fun hc=>?_)
  (try rw[hc])
  set_option smartUnfolding false in conv => whnf
  exact h0 hn
 ·set_option smartUnfolding false in conv=>whnf
  repeat(first|(refine⟨_,aS R.dB.get rfl,?_⟩;set_option smartUnfolding false in conv=>whnf))
  obtain⟨k2,E,v,S,hc⟩:=R.stk;obtain⟨k1,C8⟩:=S.view;refine w6 (by simp[cC,nE,AV.cl]) (z3 _) (CY k2 k1 st.T st.L hL t) (.cons C8 (.cons (.clean rfl) .nil)) (fun he=>?_) ?_
  ·set_option smartUnfolding false in conv=>whnf
   refine h1 i j ht (dn hw) _ _ (.inl ⟨?_,rfl⟩) (Fr.refl _ _);have:=congrArg List.length he;rw[bH] at this;exact List.length_eq_zero_iff.1 this
  ·set_option smartUnfolding false in conv=>whnf
   rw[bH,mY];exact h1 i j ht (dn hw) _ _ (.inr ⟨h.next,Nat.le_refl _,Nat.lt_succ_self _,rfl,ai⟩) ((Fr.refl h []).new)
theorem Oq(R:RA h col r st)(h1:∀h' v M,fI h.next h' v (FX M)→(∀y:Id,y∈M↔∃j,st.j[y.1]?=some (some j)∧y.2=j.e)→PR M→He M 0 M.length→Fr h h' []→Q v h'):
  VD fs ms 34 [.ptr r 0] h Q:=by
 obtain⟨s,q,k,J,gv,D,ws,gs,R,e1,e2,e3,e4⟩:=R;refine aj (af:=Vi) true rfl (yB rfl) ?_;conv=>whnf
 refine sN R.dB.get ?_;conv=>whnf
 repeat(first|(refine⟨_,aS R.dB.get rfl,?_⟩;conv=>whnf))
 obtain⟨X,hq,_⟩:=R.z5;refine N6 hq fun h' v M hv ho hm fr=>?_;conv=>whnf
 exact h1 h' v M hv (fun y=>(ho.mem y).trans (e3 y)) ho.dst ho.srt fr
def FL(w:Option (Nat×Jb)):Bool:=match w with|some x=>decide (x.2.s≥2)|none=>false
theorem OD(R:RA h col r st){B:Nat}{Q:AX→Env→Heap→Prop}(RX:qo h col r s q k J gv D ws gs T L)
  (h0:(∀(i:Nat) w,ws[i]?=some w→FL w=false)→∀e,Q (.exit 0) e h)(h1:∀(i b:Nat) (j:Jb) e,ws[i]?=some (some (b,j))→2≤j.s→(∀(m:Nat) w,m<i→ws[m]?=some w→FL w=false)→dr e [(2,.int .i64 (i:Nat)),(3,.int .i64 j.s),(4,.bool true)]→Q .ret e h):
  ∀(m i:Nat) (env:Env),ws.length-i=m→i≤ws.length→(∀(n:Nat) w,n<i→ws[n]?=some w→FL w=false)→dr env [(13,.sl J 0 ws.length ws.length false),(14,.int .i64 ((ws.length:Nat):Int)),(15,.int .i64 ((i:Nat):Int))]→
   VC fs ms B false (.loop lC) env h Q:=by
 have Nj:=RX.n4;have KO:=RX.tl;intro m;induction m using Nat.strongRecOn with
 |ind m ih=>
 intro i env hm hi hno dF;refine aG 5 _ dF ?_;refine dH (z:=true) ?_;conv=>whnf
 refine br (fun hc=>?_) (fun hc=>?_)<;>(try rw[hc])<;>(conv=>whnf)
 ·have hlt:i<ws.length:=by have:=of_decide_eq_true hc;omega
  refine⟨_,aH hlt,?_⟩;conv=>whnf
  have hg:((ws.map (Option.map Prod.fst)).map xF)[i*1]?=some (US ws[i]):=by
   rw[Nat.mul_one,List.getElem?_map,List.getElem?_map,List.getElem?_eq_getElem hlt];rfl
  refine⟨_,aS RX.ko.get hg,?_⟩;have hwi:ws[i]?=some ws[i]:=List.getElem?_eq_getElem hlt;have next:FL ws[i]=false→∀(n:Nat) w,n<i+1→ws[n]?=some w→FL w=false:=by
   intro hf n w hn hw;by_cases e:n=i
   ·subst e;rw[hwi] at hw;cases hw;exact hf
   ·exact hno n w (by omega) hw
  cases hc:ws[i] with
  |none=>
   rw[hc] at next
   conv=>whnf
   refine OB ?_;conv=>whnf
   exact ih (ws.length-(i+1)) (by omega) (i+1) _ rfl (by omega) (next rfl) ⟨rfl,rfl,aJ (by omega),trivial⟩
  |some w=>
   rw[hc] at next hwi
   obtain⟨b,j⟩:=w;obtain⟨p,C,o,v,JJ,_⟩:=RX.mN i _ hwi;conv=>whnf
   refine tS JJ ?_;conv=>whnf
   refine br (fun hc=>?_) (fun hc=>?_)<;>(try rw[hc])<;>(conv=>whnf)
   ·exact h1 i b j _ hwi (of_decide_eq_true hc) hno ⟨rfl,rfl,rfl,trivial⟩
   ·exact ih (ws.length-(i+1)) (by omega) (i+1) _ rfl (by omega) (next hc) ⟨rfl,rfl,aJ (by omega),trivial⟩
 ·have hge:i=ws.length:=by have:=of_decide_eq_false hc;omega
  refine h0 (fun n w hn=>hno n w ?_ hn) _;have:=(List.getElem?_eq_some_iff.1 hn).1;omega
theorem D7{ws:Ws}{i:Nat}{j:Jb}(h:∀w,ws[i]?=some w→FL w=false)(hj:(wj ws)[i]?=some (some j)):j.s<2:=by
 obtain⟨b,hb⟩:=Ar hj;have:=h _ hb;have:=of_decide_eq_false (show decide (j.s≥2)=false from this);omega
set_option smartUnfolding true in
theorem vE{a b c:Nat}{u v w:AV}{e:Env}{h:Heap}{Q:AV→Heap→Prop}(h1:Tr.get e a=some u)(h2:Tr.get e b=some v)(h3:Tr.get e c=some w)(hq:Q (.cn [u,v,w]) h):FF [.tmp a,.tmp b,.tmp c] Q .ret e h:=by
 simp only[FF,dX,nY,h1,h2,h3];exact hq
theorem EW(R:RA h col r st)(h0:(∀(i:Nat) (j:Jb),st.j[i]?=some (some j)→j.s<2)→Q (.cn [.int .i64 0,.int .i64 0,.bool false]) h)
  (h1:∀(i:Nat) (j:Jb),st.j[i]?=some (some j)→2≤j.s→(∀(m:Nat) (j':Jb),m<i→st.j[m]?=some (some j')→j'.s<2)→Q (.cn [.int .i64 ((i:Nat):Int),.int .i64 j.s,.bool true]) h):VD fs ms 30 [.ptr r 0] h Q:=by
 have R0:=R;obtain⟨s,q,k,J,gv,D,ws,gs,R,e1,e2,e3,e4⟩:=R;rw[e1] at h0 h1;refine bX (af:=Vf) rfl (yB rfl) ?_;conv=>whnf
 refine aE true ?_;conv=>whnf
 refine bt (aE true ?_);conv=>whnf
 refine sN R.dB.get ?_;conv=>whnf
 refine an (z:=true) ?_;conv=>whnf
 refine bt (aE true ?_);conv=>whnf
 repeat(first|(refine⟨_,aS R.dB.get rfl,?_⟩;conv=>whnf))
 refine bw ?_;refine OD R0 R ?_ ?_ ws.length 0 _ rfl (Nat.zero_le _) (fun n w hn=>by omega) ⟨rfl,rfl,rfl,trivial⟩
 ·intro hno e;refine aG 0 [] trivial (an (z:=true) ?_);conv=>whnf
  exact h0 fun i j hj=>D7 (hno i) hj
 ·intro i b j e hw hs hno he;exact vE he.1 he.2.1 he.2.2.1 (h1 i j (dn hw) hs fun m j' hm hj=>D7 (fun w=>hno m w hm) hj)
theorem Ff(i:Nat)(hi:i<4):RK (10+i):=⟨by omega,by omega⟩
theorem n9{F:AV}(R:qo h col r s q k J gv D ws gs T L)(h0:lW T (wj ws) t≠0→Q (.int .i64 (lW T (wj ws) t)) h)
  (h1:∀(i b:Nat) (j:Jb),t=((i:Nat):Int)→ws[i]?=some (some (b,j))→∃f aL,F=.func (.func f) [] aL∧VD fs ms f ([.ptr b 0]++aL) h Q):VD fs ms 79 [.ptr r 0,.int .i64 t,F] h Q:=by
 refine aj (af:=VZ) true rfl (yB rfl) ?_;conv=>whnf
 refine yW R (fun hn=>?_) (fun i b j ht hw=>?_)
 ·conv=>whnf
  refine qq ((by simpa using hn)) (fun hc=>?_)
  (try rw[hc])
  conv=>whnf
  exact h0 hn
 ·obtain⟨f,aL,rfl,hv⟩:=h1 i b j ht hw;conv=>whnf
  refine VD.mono hv fun v h' hq=>?_;conv=>whnf
  exact hq
theorem Eu(l:List Op):(qX l).length≤l.length:=by
 rw[qX];split
 ·exact Nat.le_refl _
 ·rw[List.length_tail];omega
theorem NH(l:List Op):(kF l).length≤l.length:=by
 cases l with
 |nil=>exact Nat.le_refl _
 |cons x l=>
  rw[kF];split
  ·split<;>simp
  ·exact Nat.le_refl _
theorem Ew(j:Jb):(nO j).l.length≤j.l.length:=by
 rw[nO];split
 ·exact NH _
 ·exact Nat.le_refl _
theorem HL(j:Jb):(nO j).e=j.e:=by
 rw[nO];split<;>rfl
theorem EV(R:RA h col r st)(h0:lW st.T st.j t≠0→Q (.int .i64 (lW st.T st.j t)) h)
  (h1:∀(i:Nat) (j:Jb),t=((i:Nat):Int)→st.j[i]?=some (some j)→∀h' aB,RA h' aB r {st with j:=st.j.set i (some (nO j))}→Kc h h' col aB RK→Q (.int .i64 (mo j)) h'):VD fs ms 21 [.ptr r 0,.int .i64 t] h Q:=by
 obtain⟨s,q,k,J,gv,D,ws,gs,R,e1,e2,e3,e4⟩:=R;rw[e1] at h0;refine aj (af:=U6) true rfl (yB rfl) ?_;conv=>whnf
 refine n9 R (fun hn=>?_) (fun i b j ht hw=>⟨81,[],rfl,?_⟩)
 ·conv=>whnf
  exact h0 hn
 ·obtain⟨p,C,o,v,JJ,hC,c1,c2,c3⟩:=R.mN i _ hw;have hj:st.j[i]?=some (some j):=by rw[e1];exact dn hw
  refine RD JJ fun h' v' o' zb fr=>?_;conv=>whnf
  have f:Kc h h' col (bZ col h.next (10+i)) (· =10+i):=Kc.of fr (by intro c hc _;simp at hc;rcases hc with rfl|rfl|rfl<;>assumption);have hp:=JJ.rw.lt;have hb:=JJ.lt;refine h1 i j ht hj h' _ (RA.v9 R e1 e2 e3 e4 hw f ⟨p,C,o',v',zb,Nat.lt_of_lt_of_le hC f.next,by rw[f.col b hb,c1],by rw[f.col p hp,c2],by rw[f.col C hC,c3]⟩ (HL j) ?_) (f.wk fun n hn=>by subst hn;exact Ff i (R.len hw));have:=e4 i j hj;have:=Ew j;omega
theorem ES(R:RA h col r st)(h0:lW st.T st.j t≠0→Q (.int .i64 (lW st.T st.j t)) h)
  (h1:∀(i:Nat) (j:Jb),t=((i:Nat):Int)→st.j[i]?=some (some j)→∀h' aB,RA h' aB r {st with j:=st.j.set i (some (v7 j))}→Kc h h' col aB RK→Q (.int .i64 (uq j)) h'):VD fs ms 20 [.ptr r 0,.int .i64 t] h Q:=by
 obtain⟨s,q,k,J,gv,D,ws,gs,R,e1,e2,e3,e4⟩:=R;rw[e1] at h0;refine aj (af:=U5) true rfl (yB rfl) ?_;conv=>whnf
 refine n9 R (fun hn=>?_) (fun i b j ht hw=>⟨80,[],rfl,?_⟩)
 ·conv=>whnf
  exact h0 hn
 ·obtain⟨p,C,o,v,JJ,hC,c1,c2,c3⟩:=R.mN i _ hw;have hj:st.j[i]?=some (some j):=by rw[e1];exact dn hw
  refine Ry JJ fun h' v' o' zb fr=>?_;conv=>whnf
  have f:Kc h h' col (bZ col h.next (10+i)) (· =10+i):=Kc.of fr (by intro c hc _;simp at hc;rcases hc with rfl|rfl<;>assumption);have hp:=JJ.rw.lt;have hb:=JJ.lt;refine h1 i j ht hj h' _ (RA.v9 R e1 e2 e3 e4 hw f ⟨p,C,o',v',zb,Nat.lt_of_lt_of_le hC f.next,by rw[f.col b hb,c1],by rw[f.col p hp,c2],by rw[f.col C hC,c3]⟩ rfl ?_) (f.wk fun n hn=>by subst hn;exact Ff i (R.len hw));have:=e4 i j hj;have:=Eu j.l;show(qX j.l).length≤32;omega
end
def yG(j:Jb):Jb:=if j.s==0 then{j with s:=1,k:=0} else j
theorem Em{j:Jb}(h:j.s=0):gM j 1=0∧mG j 1=yG j:=by
 have e:gM j 1=0:=by simp[gM,h]
 refine⟨e,?_⟩;rw[mG,e,yG,h];rfl
theorem dc{α:Type}{l:List α}{i:Nat}{x:α}(h:l[i]?=some x):l.set i x=l:=by
 apply List.ext_getElem?;intro n;rw[List.getElem?_set];by_cases e:i=n
 ·subst e;rw[if_pos rfl,if_pos (List.getElem?_eq_some_iff.1 h).1,h]
 ·rw[if_neg e]
theorem DC{h h':Heap}{col:Nat→Nat}{s E E' k:Nat}{v v':AV}{T:List Tk}{L':List En}{bs:List Nat}(hs:s<h.next)(hc:∀c,c∈s::gz E v→col c=2)(S:xd h' s E' v' k T L')(fr:Fr h h' bs)(hb:∀c,c∈bs→c∈s::gz E v)
  (hE:∀c,c∈gz E' v'→(c∈gz E v∧c<h.next)∨h.next≤c):Kc h h' col (bZ col h.next 2) (· =2)∧SE h' (bZ col h.next 2) s k T L':=by
 refine⟨Kc.of fr fun c h1 _=>hc c (hb c h1),E',v',S,fun c h1=>?_⟩;rcases List.mem_cons.1 h1 with rfl|h2
 ·rw[bN hs];exact hc _ (by simp)
 ·rcases hE c h2 with⟨h3,h4⟩|h3
  ·rw[bN h4];exact hc c (by simp[h3])
  ·exact cz h3
section
variable {h:Heap} {col:Nat→Nat} {r s q k J:Nat} {gv:AV} {D:List Id} {ws:Ws} {gs:List (Nat×Int)} {T:List Tk} {L:List En} {st:St} {Q:AV→Heap→Prop} {t:Int}
theorem Ux{x:Int}{b1 b2 b3 i b:Nat}{j:Jb}(g1:h.get b1=some (.cells [.ptr r 0] true 0))(g2:h.get b2=some (.cells [.int .i64 t] true 0))(g3:h.get b3=some (.cells [.int .i64 x] true 0))
  (R:qo h col r s q k J gv D ws gs st.T st.L)(e1:st.j=wj ws)(e2:st.g=gs.map Prod.snd)(e3:∀y:Id,y∈D↔∃j,st.j[y.1]?=some (some j)∧y.2=j.e)(e4:∀(i:Nat) (j:Jb),st.j[i]?=some (some j)→j.l.length≤32)(hw:ws[i]?=some (some (b,j)))(hL:st.L.length≤900)
  (h1:j.s≥2→Q (.int .i64 130) h)(h2:j.s<2→fm st.T st.L t x≠0→∀h',Fr h h' []→Q (.int .i64 (fm st.T st.L t x)) h')
  (h3:j.s<2→fm st.T st.L t x=0→∀h' aB,RA h' aB r {st with L:=st.L++[(t,x)],j:=st.j.set i (some (yG j))}→Kc h h' col aB RK→Q (.int .i64 0) h'):
  VD fs ms 82 [.ptr b 0,.ptr b1 0,.ptr b2 0,.ptr b3 0] h Q:=by
 have hj:st.j[i]?=some (some j):=by rw[e1];exact dn hw
 have Nj:=R.n4;refine aj (af:=V2) true rfl (yB rfl) ?_;conv=>whnf
 obtain⟨p,C,o,v,JJ,hC,c1,c2,c3⟩:=R.mN i _ hw;refine tS JJ ?_;conv=>whnf
 refine br (fun hc=>?_) (fun hc=>?_)<;>(try rw[hc])<;>(conv=>whnf)
 ·exact h1 (of_decide_eq_true hc)
 have uN:j.s<2:=Int.not_le.1 (of_decide_eq_false hc);repeat(first|(refine⟨_,aS g1 rfl,?_⟩;conv=>whnf)|(refine⟨_,aS g2 rfl,?_⟩;conv=>whnf)|(refine⟨_,aS g3 rfl,?_⟩;conv=>whnf)|(refine⟨_,aS R.dB.get rfl,?_⟩;conv=>whnf))
 obtain⟨k2,E,v2,S,hcs⟩:=R.stk;refine OQ S (by omega) hL (fun hl h' S' fr=>?_) (fun hl h' E' v' S' fr hE TC=>?_)
 ·conv=>whnf
  refine nC ((by simpa using hl)) (fun hc=>?_)
  (try rw[hc])
  conv=>whnf
  exact h2 uN hl _ fr
 ·conv=>whnf
  obtain⟨f2,S2⟩:=DC S.lt hcs S' fr (fun c h=>h) (fun c hc=>.inr (by rw[tO hc];exact hE));have R2:=R.DB f2 S2;have f3:=f2.wk (K':=RK) fun n hn=>by subst hn;exact⟨by omega,by omega⟩
  obtain⟨p,C,o,v,JJ,hC,c1,c2,c3⟩:=R2.mN i _ hw;refine tS JJ ?_;conv=>whnf
  refine br (fun hc=>?_) (fun hc=>?_)<;>(try rw[hc])<;>(conv=>whnf)
  ·obtain⟨q1,q2⟩:=Em (j:=j) (eq_of_beq hc);refine I0 JJ fun h4 J4 jJ=>?_;conv=>whnf
   have f5:Kc h' h4 (bZ col h.next 2) (bZ (bZ col h.next 2) h'.next (10+i)) (· =10+i):=Kc.of jJ (by intro c hc _;simp at hc;rcases hc with rfl;exact c1);have hp:=JJ.rw.lt;have hb:=JJ.lt;have JB:KE h4 (bZ (bZ col h.next 2) h'.next (10+i)) i b (yG j):=by
    have J5:JP h4 b p C o v (yG j):=by rw[←q2];exact J4
    exact⟨p,C,o,v,J5,Nat.lt_of_lt_of_le hC f5.next,by rw[f5.col b hb,c1],by rw[f5.col p hp,c2],by rw[f5.col C hC,c3]⟩
   have hq:=h3 uN hl _ _ (RA.v9 (st:={st with L:=st.L++[(t,x)]}) R2 e1 e2 e3 e4 hw f5 JB (by rw[yG];split<;>rfl) (by have:=e4 i j hj;rw[yG];split<;>exact this)) (f3.trans (f5.wk fun n hn=>by subst hn;exact Ff i (R.len hw)));rw[←q1] at hq;exact hq
  ·have e:yG j=j:=by rw[yG];exact if_neg (by rw[hc];simp)
   refine h3 uN hl _ _ ⟨s,q,k,J,gv,D,ws,gs,R2,?_,e2,fun y=>?_,fun n jn hn=>?_⟩ f3
   ·show st.j.set i (some (yG j))=_;rw[e,←e1];exact dc hj
   ·show _↔∃j',(st.j.set i (some (yG j)))[y.1]?=some (some j')∧_;rw[e,dc hj];exact e3 y
   ·have hn:(st.j.set i (some (yG j)))[n]?=some (some jn):=hn;rw[e,dc hj] at hn;exact e4 n jn hn
theorem B0{x:Int}(R:RA h col r st)(hL:st.L.length≤900)(h0:lW st.T st.j t≠0→∀h',Fr h h' []→Q (.int .i64 (lW st.T st.j t)) h')
  (h1:∀(i:Nat) (j:Jb),t=((i:Nat):Int)→st.j[i]?=some (some j)→j.s≥2→∀h',Fr h h' []→Q (.int .i64 130) h')
  (h2:∀(i:Nat) (j:Jb),t=((i:Nat):Int)→st.j[i]?=some (some j)→j.s<2→fm st.T st.L t x≠0→∀h',Fr h h' []→Q (.int .i64 (fm st.T st.L t x)) h')
  (h3:∀(i:Nat) (j:Jb),t=((i:Nat):Int)→st.j[i]?=some (some j)→j.s<2→fm st.T st.L t x=0→∀h' aB,RA h' aB r {st with L:=st.L++[(t,x)],j:=st.j.set i (some (yG j))}→Kc h h' col aB RK→Q (.int .i64 0) h'):
  VD fs ms 22 [.ptr r 0,.int .i64 t,.int .i64 x] h Q:=by
 obtain⟨s,q,k,J,gv,D,ws,gs,R,e1,e2,e3,e4⟩:=R;have hj:∀{i b:Nat} {j:Jb},ws[i]?=some (some (b,j))→st.j[i]?=some (some j):=fun h=>by rw[e1];exact dn h
 refine aj (af:=U7) true rfl (yB rfl) ?_;obtain⟨H1,E1⟩:∃g,g=h.new (.cells [.ptr r 0] true 0):=⟨_,rfl⟩;obtain⟨H2,E2⟩:∃g,g=H1.new (.cells [.int .i64 t] true 0):=⟨_,rfl⟩;obtain⟨H3,E3⟩:∃g,g=H2.new (.cells [.int .i64 x] true 0):=⟨_,rfl⟩;have n1:H1.next=h.next+1:=by rw[E1];rfl
 have n2:H2.next=h.next+2:=by rw[E2];show H1.next+1=_;omega
 have n3:H3.next=h.next+3:=by rw[E3];show H2.next+1=_;omega
 have g1:H3.get h.next=some (.cells [.ptr r 0] true 0):=by rw[E3,az (by omega),E2,az (by omega),E1];exact ai
 have g2:H3.get H1.next=some (.cells [.int .i64 t] true 0):=by rw[E3,az (by omega),E2];exact ai
 have g3:H3.get H2.next=some (.cells [.int .i64 x] true 0):=by rw[E3];exact ai
 have gx:Fr h H3 []:=by rw[E3,E2,E1];exact(((Fr.refl h []).new).new).new
 subst E3;subst E2;subst E1;conv=>whnf
 repeat(first|(refine⟨_,aS g1 rfl,?_⟩;conv=>whnf)|(refine⟨_,aS g2 rfl,?_⟩;conv=>whnf))
 refine n9 (R.nil gx) (fun hn=>?_) (fun i b j ht hw=>⟨82,_,rfl,?_⟩)
 ·conv=>whnf
  rw[e1] at h0;exact h0 hn _ gx
 ·refine Ux g1 g2 g3 (R.nil gx) e1 e2 e3 e4 hw hL (fun hs=>?_) (fun hs hl h' fr=>?_) (fun hs hl h' aB R' f=>?_)
  ·conv=>whnf
   exact h1 i j ht (hj hw) hs _ gx
  ·conv=>whnf
   exact h2 i j ht (hj hw) hs hl _ (gx.trans fr)
  ·conv=>whnf
   exact h3 i j ht (hj hw) hs hl _ _ R' ((Kc.same gx).trans f)
end
def uP(L:List En)(t:Int)(j:Jb):Jb:=if(bx L t).isEmpty then sB j else j
theorem v8(j:Jb):(sB j).e=j.e∧(sB j).l=j.l:=by rw[sB];split<;>exact⟨rfl,rfl⟩
section
variable {h:Heap} {col:Nat→Nat} {r s q k J:Nat} {gv:AV} {D:List Id} {ws:Ws} {gs:List (Nat×Int)} {T:List Tk} {L:List En} {st:St} {Q:AV→Heap→Prop} {t:Int}
theorem Dd{i b:Nat}{j:Jb}(R:qo h col r s q k J gv D ws gs st.T st.L)(e1:st.j=wj ws)(e2:st.g=gs.map Prod.snd)(e3:∀y:Id,y∈D↔∃j,st.j[y.1]?=some (some j)∧y.2=j.e)(e4:∀(i:Nat) (j:Jb),st.j[i]?=some (some j)→j.l.length≤32)(hw:ws[i]?=some (some (b,j)))
  (hQ:∀v h' aB,v=.int .i64 (ur j)→RA h' aB r {st with j:=st.j.set i (some (sB j))}→Kc h h' col aB RK→Q v h'):VD fs ms 88 [.ptr b 0] h Q:=by
 obtain⟨p,C,o,v,JJ,hC,c1,c2,c3⟩:=R.mN i _ hw;refine Rz JJ fun h4 J4 jJ=>?_;have f5:Kc h h4 col (bZ col h.next (10+i)) (· =10+i):=Kc.of jJ (by intro c hc _;simp at hc;rcases hc with rfl;exact c1);have hp:=JJ.rw.lt;have hb:=JJ.lt;obtain⟨l1,l2⟩:=v8 j;exact hQ _ h4 _ rfl (RA.v9 R e1 e2 e3 e4 hw f5 ⟨p,C,o,v,J4,Nat.lt_of_lt_of_le hC f5.next,by rw[f5.col b hb,c1],by rw[f5.col p hp,c2],by rw[f5.col C hC,c3]⟩ l1 (by rw[l2];exact e4 i j (by rw[e1];exact dn hw))) (f5.wk fun n hn=>by subst hn;exact Ff i (R.len hw))
set_option smartUnfolding true in
theorem Su{b1 b2 i b:Nat}{j:Jb}(g1:h.get b1=some (.cells [.ptr r 0] true 0))(g2:h.get b2=some (.cells [.int .i64 t] true 0))(n1:b1<h.next∧b1≠s)(n2:b2<h.next∧b2≠s)
  (R:qo h col r s q k J gv D ws gs st.T st.L)(e1:st.j=wj ws)(e2:st.g=gs.map Prod.snd)(e3:∀y:Id,y∈D↔∃j,st.j[y.1]?=some (some j)∧y.2=j.e)(e4:∀(i:Nat) (j:Jb),st.j[i]?=some (some j)→j.l.length≤32)(hw:ws[i]?=some (some (b,j)))(hL:st.L.length≤900)
  (h1:iT st.T st.L t≠0→∀h',Fr h h' []→Q (.int .i64 (iT st.T st.L t)) h')
  (h2:iT st.T st.L t=0→∀n:Nat,n<st.L.length→dw st.L t=((n:Nat):Int)→∀h' aB,RA h' aB r {st with L:=st.L.eraseIdx n,j:=st.j.set i (some (uP (st.L.eraseIdx n) t j))}→Kc h h' col aB RK→Q (.int .i64 0) h'):
  VD fs ms 86 [.ptr b 0,.ptr b1 0,.ptr b2 0] h Q:=by
 have hj:st.j[i]?=some (some j):=by rw[e1];exact dn hw
 have Nj:=R.n4;refine aj (af:=V5) true rfl (yB rfl) ?_
 set_option smartUnfolding false in conv => whnf
 repeat(first|(refine⟨_,aS g1 rfl,?_⟩;set_option smartUnfolding false in conv=>whnf)|(refine⟨_,aS g2 rfl,?_⟩;set_option smartUnfolding false in conv=>whnf)|(refine⟨_,aS R.dB.get rfl,?_⟩;set_option smartUnfolding false in conv=>whnf))
 obtain⟨k2,E,v2,S,hcs⟩:=R.stk;refine tW S hL (fun hu h' S' fr=>?_) (fun hu n hn hla h' E' v' S' fr hE rR=>?_)
 ·set_option smartUnfolding false in conv=>whnf
  refine qq ((by simpa using hu)) (fun hc=>?_)
  (try rw[hc])
  set_option smartUnfolding false in conv => whnf
  exact h1 hu _ fr
 ·set_option smartUnfolding false in conv=>whnf
  obtain⟨f2,S2⟩:=DC S.lt hcs S' fr (fun c h=>by simp at h;simp[h]) (fun c hc=>by
   rw[tO hc];rcases hE with h|h
   ·exact .inl ⟨h,wD S.en h⟩
   ·exact .inr h)
  have R2:=R.DB f2 S2;have f3:=f2.wk (K':=RK) fun n hn=>by subst hn;exact⟨by omega,by omega⟩
  have Z3:=(fr.keep b1 n1.1 (by simpa using n1.2)).trans g1;have KH:=(fr.keep b2 n2.1 (by simpa using n2.2)).trans g2;repeat(first|(refine⟨_,aS Z3 rfl,?_⟩;set_option smartUnfolding false in conv=>whnf)|(refine⟨_,aS KH rfl,?_⟩;set_option smartUnfolding false in conv=>whnf)|(refine⟨_,aS R2.dB.get rfl,?_⟩;set_option smartUnfolding false in conv=>whnf))
  obtain⟨k1,C8⟩:=S'.view;have hq:=h2 hu n hn hla;have hL':(st.L.eraseIdx n).length≤1000:=by rw[List.length_eraseIdx];split<;>omega
  generalize st.L.eraseIdx n=L' at*;have lv:bx L' t=[]→uP L' t j=sB j:=fun hz=>by rw[uP,hz];rfl
  have nl:bx L' t≠[]→uP L' t j=j:=fun hz=>by
   rw[uP,if_neg];cases hh:bx L' t with
   |nil=>exact absurd hh hz
   |cons x l=>simp
  refine w6 (by simp[cC,nE,AV.cl]) (z3 _) (CY k2 k1 st.T L' hL' t) (.cons C8 (.cons (.clean rfl) .nil)) (fun he=>?_) ?_
  ·have hz:bx L' t=[]:=by
    have:=congrArg List.length he;rw[bH] at this;exact List.length_eq_zero_iff.1 this
   rw[lv hz] at hq
   set_option smartUnfolding false in conv => whnf
   refine Dd (st:={st with L:=L'}) R2 e1 e2 e3 e4 hw fun v h4 Qi _ R4 f4=>?_
   set_option smartUnfolding false in conv => whnf
   exact hq h4 Qi R4 (f3.trans f4)
  ·have CN:Fr h' (h'.new (.cells (aa (ints (bx L' t))) true 1)) []:=(Fr.refl h' []).new
   set_option smartUnfolding false in conv => whnf
   rw[bH];refine br (fun hc=>?_) (fun hc=>?_)<;>(try rw[hc])<;>(set_option smartUnfolding false in conv=>whnf)
   ·have hz:bx L' t=[]:=by
     have hc:=eq_of_beq hc;exact List.length_eq_zero_iff.1 (by omega)
    rw[lv hz] at hq;refine Dd (st:={st with L:=L'}) (R2.nil CN) e1 e2 e3 e4 hw fun v h4 Qi _ R4 f4=>?_
    set_option smartUnfolding false in conv => whnf
    exact hq h4 Qi R4 (f3.trans ((Kc.same CN).trans f4))
   ·have hz:bx L' t≠[]:=by
     intro hz;rw[hz] at hc;exact absurd hc (by decide)
    rw[nl hz] at hq;have R5:=R2.nil CN;refine hq _ _ ⟨s,q,k,J,gv,D,ws,gs,R5,?_,e2,fun y=>?_,fun n jn hn=>?_⟩ (f3.trans (Kc.same CN))
    ·show st.j.set i (some j)=_;rw[dc hj,←e1]
    ·show _↔∃j',(st.j.set i (some j))[y.1]?=some (some j')∧_;rw[dc hj];exact e3 y
    ·have hn:(st.j.set i (some j))[n]?=some (some jn):=hn;rw[dc hj] at hn;exact e4 n jn hn
theorem wP(R:RA h col r st)(hL:st.L.length≤900)(h0:lW st.T st.j t≠0→∀h',Fr h h' []→Q (.int .i64 (lW st.T st.j t)) h')
  (h1:∀(i:Nat) (j:Jb),t=((i:Nat):Int)→st.j[i]?=some (some j)→iT st.T st.L t≠0→∀h',Fr h h' []→Q (.int .i64 (iT st.T st.L t)) h')
  (h2:∀(i:Nat) (j:Jb),t=((i:Nat):Int)→st.j[i]?=some (some j)→iT st.T st.L t=0→∀n:Nat,n<st.L.length→dw st.L t=((n:Nat):Int)→∀h' aB,RA h' aB r {st with L:=st.L.eraseIdx n,j:=st.j.set i (some (uP (st.L.eraseIdx n) t j))}→Kc h h' col aB RK→Q (.int .i64 0) h'):
  VD fs ms 23 [.ptr r 0,.int .i64 t] h Q:=by
 obtain⟨s,q,k,J,gv,D,ws,gs,R,e1,e2,e3,e4⟩:=R;have hj:∀{i b:Nat} {j:Jb},ws[i]?=some (some (b,j))→st.j[i]?=some (some j):=fun h=>by rw[e1];exact dn h
 refine aj (af:=U8) true rfl (yB rfl) ?_;obtain⟨H1,E1⟩:∃g,g=h.new (.cells [.ptr r 0] true 0):=⟨_,rfl⟩;obtain⟨H2,E2⟩:∃g,g=H1.new (.cells [.int .i64 t] true 0):=⟨_,rfl⟩;have n1:H1.next=h.next+1:=by rw[E1];rfl
 have n2:H2.next=h.next+2:=by rw[E2];show H1.next+1=_;omega
 have g1:H2.get h.next=some (.cells [.ptr r 0] true 0):=by rw[E2,az (by omega),E1];exact ai
 have g2:H2.get H1.next=some (.cells [.int .i64 t] true 0):=by rw[E2];exact ai
 have gx:Fr h H2 []:=by rw[E2,E1];exact((Fr.refl h []).new).new
 have hs:s<h.next:=by obtain⟨k2,E,v2,S,hcs⟩:=R.stk;exact S.lt
 have m1:h.next<H2.next∧h.next≠s:=⟨by omega,by omega⟩;have m2:H1.next<H2.next∧H1.next≠s:=⟨by omega,by omega⟩;subst E2;subst E1;conv=>whnf
 repeat(first|(refine⟨_,aS g1 rfl,?_⟩;conv=>whnf)|(refine⟨_,aS g2 rfl,?_⟩;conv=>whnf))
 refine n9 (R.nil gx) (fun hn=>?_) (fun i b j ht hw=>⟨86,_,rfl,?_⟩)
 ·conv=>whnf
  rw[e1] at h0;exact h0 hn _ gx
 ·refine Su g1 g2 m1 m2 (R.nil gx) e1 e2 e3 e4 hw hL (fun hu h' fr=>?_) (fun hu n hn hla h' aB R' f=>?_)
  ·conv=>whnf
   exact h1 i j ht (hj hw) hu _ (gx.trans fr)
  ·conv=>whnf
   exact h2 i j ht (hj hw) hu n hn hla _ _ R' ((Kc.same gx).trans f)
end
section
variable {h h':Heap} {col aB:Nat→Nat} {r s q k J:Nat} {gv:AV} {D:List Id} {ws:Ws} {gs:List (Nat×Int)} {T:List Tk} {L:List En} {st:St} {Q:AV→Heap→Prop} {t:Int}
theorem Jw{S S':List Nat}{n:Int}{D D':List Id}(hq:xS h q S n D)(hc:∀c,c∈S→col c=3)(GQ:xS h' q S' n D')(ow:Own h h' S S'):Kc h h' col (bZ col h.next 3) (· =3)∧SB h' (bZ col h.next 3) q n D':=by
 refine⟨Kc.of ow.fr fun c h1 _=>hc c h1,S',GQ,fun c h1=>?_⟩;rcases ow.new c h1 with h2|h2
 ·rw[bN (hq.own c h2)];exact hc c h2
 ·exact cz h2
theorem Cg{i:Nat}{w:Option (Nat×Jb)}(hi:i<ws.length):Heap.splice ((ws.map (Option.map Prod.fst)).map xF) (i*1) [US w]=((ws.set i w).map (Option.map Prod.fst)).map xF:=by
 rw[Nat.mul_one,nj _ _ _ (by simpa using hi),List.map_set,List.map_set];rfl
theorem qo.SX{i:Nat}{w:Option (Nat×Jb)}(R:qo h col r s q k J gv D ws gs T L)(hi:i<ws.length)(f:Kc h h' col aB (· =4))(hg:h'.get J=some (.cells (Heap.splice ((ws.map (Option.map Prod.fst)).map xF) (i*1) [US w]) true 0))
  (hw:∀x,w=some x→KE h' aB i x.1 x.2):qo h' aB r s q k J gv D (ws.set i w) gs T L:=by
 refine⟨R.n4,by rw[List.length_set];exact R.tl,R.gl,?_,R.stk.imp fun _ h=>h.keep f (by decide),R.z5.keep f (by decide),⟨Nat.lt_of_lt_of_le R.ko.lt f.next,(f.col J R.ko.lt).trans R.ko.co,?_⟩,fun n x hn=>?_,R.uK.keep f (by decide) (by intro i _;omega)⟩
 ·rw[List.length_set];exact R.dB.keep f (by decide)
 ·rw[Cg hi] at hg;exact hg
 ·rw[List.getElem?_set] at hn;by_cases e:i=n
  ·subst e;rw[if_pos rfl,if_pos hi] at hn;exact hw x (Option.some.inj hn)
  ·rw[if_neg e] at hn;exact(R.mN n x hn).keep f (by omega)
theorem ET(R:RA h col r st)(hL:st.L.length≤900)(h0:lW st.T st.j t≠0→Q (.bool false) h)
  (h1:∀(i:Nat) (j:Jb),t=((i:Nat):Int)→st.j[i]?=some (some j)→∀h' aB,RA h' aB r {st with L:=jF st.L t,j:=st.j.set i none}→Kc h h' col aB RK→Q (.bool true) h'):
  VD fs ms 27 [.ptr r 0,.int .i64 t] h Q:=by
 obtain⟨s,q,k,J,gv,D,ws,gs,R,e1,e2,e3,e4⟩:=R;rw[e1] at h0;refine aj (af:=Vc) true rfl (yB rfl) ?_;conv=>whnf
 refine yW R (fun hn=>?_) (fun i b j ht hw=>?_)
 ·conv=>whnf
  refine qq ((by simpa using hn)) (fun hc=>?_)
  (try rw[hc])
  conv=>whnf
  exact h0 hn
 ·have hj:st.j[i]?=some (some j):=by rw[e1];exact dn hw
  have hi:=(List.getElem?_eq_some_iff.1 hw).1;have Nj:=R.n4;have KO:=R.tl;subst ht;conv=>whnf
  repeat(first|(refine⟨_,aS R.dB.get rfl,?_⟩;conv=>whnf)|(refine⟨_,aH hi,?_⟩;conv=>whnf))
  refine bV (bp R.ko.get rfl (by rw[List.length_map,List.length_map];omega) rfl) fun h2 E2=>?_;have ey:Fr h h2 [J]:=by rw[E2];exact(Fr.refl _ _).set (by simp)
  have f2:Kc h h2 col (bZ col h.next 4) (· =4):=Kc.of ey (by intro c hc _;simp at hc;rw[hc];exact R.ko.co);have R2:=R.SX (w:=none) hi f2 (by rw[E2];exact au) (fun x hx=>by cases hx);clear E2;generalize bZ col h.next 4=iR at*;conv=>whnf
  repeat(first|(refine⟨_,aS R2.dB.get rfl,?_⟩;conv=>whnf))
  obtain⟨X,hq,Wm⟩:=R2.z5;have hyD:((i,j.e):Id)∈D:=(e3 (i,j.e)).2 ⟨j,hj,rfl⟩;refine Gp hq _ (fun hno=>(hno (i,j.e) hyD rfl).elim) fun y hy hym h3 X' D' GQ Yy ow=>?_;have hyi:y.1=i:=by omega
  obtain⟨f3,S3⟩:=Jw hq Wm GQ ow;have R3:=R2.Jv f3 S3;generalize bZ iR h2.next 3=Ts at*;conv=>whnf
  repeat(first|(refine⟨_,aS R3.dB.get rfl,?_⟩;conv=>whnf))
  obtain⟨k2,E,v2,S,hcs⟩:=R3.stk;have ha:cw st.T ((i:Nat):Int)=0:=by
   rw[cw,decide_eq_false (by omega),decide_eq_false (by omega)];rfl
  refine OL S hL ha fun w h4 E' v' S' jJ hE=>?_;obtain⟨f4,S4⟩:=DC S.lt hcs S' jJ (fun c h=>h) (fun c hc=>(hE c hc).imp (fun h=>⟨h,wD S.en h⟩) id);have R4:=R3.DB f4 S4;conv=>whnf
  refine h1 i j rfl hj h4 _ ⟨s,q,k,J,gv,D',_,gs,R4,?_,e2,fun z=>?_,fun n jn hn=>?_⟩ (((f2.wk ?_).trans (f3.wk ?_)).trans (f4.wk ?_))
  ·show st.j.set i none=_;rw[e1,wj,wj,List.map_set];rfl
  ·rw[Yy z,e3 z,hyi];show _↔∃j',(st.j.set i none)[z.1]?=some (some j')∧_;rw[List.getElem?_set];by_cases e:i=z.1
   ·rw[if_pos e];constructor
    ·intro h;exact absurd e.symm h.2
    ·rintro⟨j',hj',_⟩;split at hj'<;>cases hj'
   ·rw[if_neg e];exact⟨fun h=>h.1,fun h=>⟨h,fun e'=>e e'.symm⟩⟩
  ·have hn:(st.j.set i none)[n]?=some (some jn):=hn;rw[List.getElem?_set] at hn;split at hn
   ·split at hn<;>cases hn
   ·exact e4 n jn hn
  ·intro n hn;subst hn;exact⟨by omega,by omega⟩
  ·intro n hn;subst hn;exact⟨by omega,by omega⟩
  ·intro n hn;subst hn;exact⟨by omega,by omega⟩
def O2(st:St)(i:Nat)(j:Jb):Prop:=st.j[i]?=some (some j)∧∀(i':Nat) (j':Jb),st.j[i']?=some (some j')→ah (i',j'.e) (i,j.e)=false
theorem Ad(R:RA h col r st)(hL:st.L.length≤900)
  (h0:∀(i:Nat) (j:Jb),st.j[i]?=some (some j)→2≤j.s→(∀(m:Nat) (j':Jb),m<i→st.j[m]?=some (some j')→j'.s<2)→Q (.cn [.int .i64 ((i:Nat):Int),.bool true]) h)
  (h1:(∀(i:Nat) (j:Jb),st.j[i]?≠some (some j))→Q (.cn [.int .i64 0,.bool false]) h)
  (h2:(∀(i:Nat) (j:Jb),st.j[i]?=some (some j)→j.s<2)→∀(i:Nat) (j:Jb),O2 st i j→(j.g=true∨lvl st.T i>iy st.T st.L)→Q (.cn [.int .i64 ((i:Nat):Int),.bool true]) h)
  (h3:(∀(i:Nat) (j:Jb),st.j[i]?=some (some j)→j.s<2)→∀(i:Nat) (j:Jb),O2 st i j→j.g=false→¬lvl st.T i>iy st.T st.L→Q (.cn [.int .i64 (qv st.L).1,.bool (qv st.L).2]) h):VD fs ms 15 [.ptr r 0] h Q:=by
 have R0:=R;obtain⟨s,q,k,J,gv,D,ws,gs,R,e1,e2,e3,e4⟩:=R;have Nj:=R.n4;have KO:=R.tl;refine aj (af:=U0) true rfl (yB rfl) ?_;conv=>whnf
 refine sN R.dB.get ?_;conv=>whnf
 refine EW R0 (fun hno=>?_) (fun i j hj hs hm=>?_)
 ·conv=>whnf
  repeat(first|(refine⟨_,aS R.dB.get rfl,?_⟩;conv=>whnf))
  obtain⟨X,hq,Wm⟩:=R.z5;refine Ju hq (fun hD=>?_) (fun x hx=>?_)
  ·conv=>whnf
   refine h1 fun i j hj=>?_;have:=(e3 (i,j.e)).2 ⟨j,hj,rfl⟩;rw[hD] at this;simp at this
  ·obtain⟨j,hj,Y2⟩:=(e3 x).1 hx.1;have hF:O2 st x.1 j:=⟨hj,fun i' j' hj'=>by rw[←Y2];exact hx.2 _ ((e3 (i',j'.e)).2 ⟨j',hj',rfl⟩)⟩;rw[e1] at hj;obtain⟨b,hw⟩:=Ar hj;have hi:=(List.getElem?_eq_some_iff.1 hw).1;have hg:((ws.map (Option.map Prod.fst)).map xF)[x.1*1]?=some (.ptr b 0):=by
    rw[Nat.mul_one,List.getElem?_map,List.getElem?_map,hw];rfl
   conv=>whnf
   repeat(first|(refine⟨_,aS R.dB.get rfl,?_⟩;conv=>whnf)|(refine⟨_,aH hi,?_⟩;conv=>whnf)|(refine⟨_,aS R.ko.get hg,?_⟩;conv=>whnf))
   obtain⟨p,C,o,v,JJ,_⟩:=R.mN _ _ hw;refine Rx JJ ?_;cases Is:j.g with
   |true=>
    conv=>whnf
    exact h2 hno _ _ hF (.inl Is)
   |false=>
    conv=>whnf
    repeat(first|(refine⟨_,aS R.dB.get rfl,?_⟩;conv=>whnf))
    refine aQ (Ey k st.T (by omega) _) ?_;conv=>whnf
    obtain⟨k2,E,v2,S,hcs⟩:=R.stk;obtain⟨k1,C8⟩:=S.view;repeat(first|(refine⟨_,aS R.dB.get rfl,?_⟩;conv=>whnf))
    refine fQ (OK k2 k1 st.T st.L (by omega) (by omega)) rfl (.cons C8 .nil) ?_;conv=>whnf
    refine⟨iM (by(conv=>whnf);repeat' (first|exact trivial|exact aS R.dB.get rfl|(exact⟨rfl,rfl,.inr ⟨_,_,rfl⟩⟩)|(refine⟨rfl,rfl,.inl ⟨rfl,fun o ho=>?_⟩⟩;cases ho;first|rfl|exact aS R.dB.get rfl)|(exact⟨rfl,.inr ⟨_,_,rfl⟩⟩)|(refine⟨rfl,.inl ⟨rfl,fun i o hi ho=>?_⟩⟩;cases hi;cases ho;first|rfl|exact aS R.dB.get rfl)|(refine And.intro (fun eM=>(Bool.false_ne_true eM).elim) ?_<;>conv=>whnf)|(refine And.intro (fun _=>?_) ?_<;>conv=>whnf)|(refine And.intro ?_ ?_<;>conv=>whnf))),?_⟩;conv=>whnf
    refine br (fun hc=>?_) (fun hc=>?_)<;>(try rw[hc])<;>(conv=>whnf)
    ·exact h2 hno _ _ hF (.inr (of_decide_eq_true hc))
    ·repeat(first|(refine⟨_,aS R.dB.get rfl,?_⟩;conv=>whnf))
     refine fQ (UM k2 k1 st.T st.L (by omega)) rfl (.cons C8 .nil) ?_;conv=>whnf
     exact h3 hno _ _ hF Is (of_decide_eq_false hc)
 ·conv=>whnf
  exact h0 i j hj hs hm
end
theorem Ep{t:Tk}{l:List Op}{a:Int}(h:fU t l a=0):l.length≤32∧0≤a∧a≤1099511627776∧(1≤t.w∧t.w≤t.d∧t.d≤t.p∧t.p≤64)∧IntKind.i64.wrap (a+t.d)=a+t.d:=by
 rw[fU] at h;cases c1:cg [t] with
 |false=>rw[c1] at h;simp at h
 |true=>
  cases c2:decide (a<0) with
  |true=>rw[c1,c2] at h;simp at h
  |false=>
   rw[c1,c2] at h;cases c3:decide (a>1099511627776) with
   |true=>rw[c3] at h;simp at h
   |false=>
    rw[c3] at h;have h:lO l=0:=h;have a0:=of_decide_eq_false c2;have a1:=of_decide_eq_false c3;have ht:1≤t.w∧t.w≤t.d∧t.d≤t.p∧t.p≤64:=by
     simp only[cg,List.all_cons,List.all_nil,Bool.and_true,Bool.and_eq_true,iE,decide_eq_true_eq] at c1;exact c1.1
    refine⟨?_,by omega,by omega,ht,IntWalk.i64_in _ (by omega)⟩;rw[lO] at h;split at h
    ·cases h
    ·omega
section
variable {h h':Heap} {col aB:Nat→Nat} {r s q k J:Nat} {gv:AV} {D:List Id} {ws:Ws} {gs:List (Nat×Int)} {T:List Tk} {L:List En} {st:St} {Q:AV→Heap→Prop} {t:Int}
theorem qo.Qz{i:Nat}{g:Nat×Int}{tk:Tk}{n:Int}(R:qo h col r s q k J gv D ws gs T L)(hg:gs[i]?=some g)(ht:T[i]?=some tk)(f:Kc h h' col aB (· =20+i))(hb:h'.get g.1=some (gB tk.p n)):qo h' aB r s q k J gv D ws (gs.set i (g.1,n)) T L:=by
 obtain⟨b1,b2,b3,b4⟩:=R.uK.all i g tk hg ht;have hi:=(List.getElem?_eq_some_iff.1 hg).1;have Nj:=R.n4;have sq:=R.gl;have em:(gs.set i (g.1,n)).map (fun g=>AV.ptr g.1 0)=gs.map fun g=>AV.ptr g.1 0:=by
  rw[List.map_set];exact dc (by rw[List.getElem?_map,hg];rfl)
 refine⟨R.n4,R.tl,by rw[List.length_set];exact R.gl,R.dB.keep f (by omega),R.stk.imp fun _ h=>h.keep f (by omega),R.z5.keep f (by omega),R.ko.keep f (by omega),fun n w hw=>(R.mN n w hw).keep f (by have:=R.len hw;omega),?_,fun m g' t' hm ht'=>?_⟩
 ·rcases R.uK.row with h|⟨G,op,es,a1,a2,a3,a4⟩
  ·left;rw[h];rfl
  ·right;rw[List.length_set,em];exact⟨G,op,es,a1,Nat.lt_of_lt_of_le a2 f.next,(f.col G a2).trans a3,(f.keep G a2 (by rw[a3];omega)).trans a4⟩
 ·rw[List.getElem?_set] at hm;by_cases e:i=m
  ·subst e;rw[if_pos rfl,if_pos hi] at hm;cases hm
   rw[ht] at ht';cases ht'
   exact⟨b1,Nat.lt_of_lt_of_le b2 f.next,(f.col _ b2).trans b3,hb⟩
  ·rw[if_neg e] at hm;obtain⟨a1,a2,a3,a4⟩:=R.uK.all m g' t' hm ht';exact⟨a1,Nat.lt_of_lt_of_le a2 f.next,(f.col _ a2).trans a3,(f.keep _ a2 (by rw[a3];omega)).trans a4⟩
def vo(n:Nat):Prop:=RK n∨n=300
theorem EU{l:List Op}{ov:AV}{bs:List Nat}{now:Int}(R:RA h col r st)(GL:∀c,c∈bs→c<h.next→col c=300)
  (hnew:∀(t0:Tk) (Q:AV→Heap→Prop),(fU t0 l now≠0→∀h',Fr h h' bs→Q (.cn [.aP,.int .i64 (fU t0 l now)]) h')→
   (fU t0 l now=0→∀h' b p C v,JP h' b p C 0 v (jE t0 l now)→h.next≤b→h.next≤p→h.next≤C→(l≠[]→C<h'.next)→Fr h h' bs→Q (.cn [.ptr b 0,.int .i64 0]) h')→VD fs ms 95 [tk t0,ov,.int .i64 now] h Q)
  (h0:cw st.T t≠0→Q (.int .i64 (cw st.T t)) h)
  (h1:∀(i:Nat) (j:Jb),t=((i:Nat):Int)→st.j[i]?=some (some j)→Q (.int .i64 141) h)
  (h2:∀(i:Nat) (tk:Tk),t=((i:Nat):Int)→st.T[i]?=some tk→st.j[i]?=some none→fU tk l now≠0→∀h' aB,RA h' aB r st→Kc h h' col aB vo→Q (.int .i64 (fU tk l now)) h')
  (h3:∀(i:Nat) (tk:Tk) (n:Int),t=((i:Nat):Int)→st.T[i]?=some tk→st.j[i]?=some none→fU tk l now=0→st.g[i]?=some n→ku n now≠0→∀h' aB,RA h' aB r st→Kc h h' col aB vo→Q (.int .i64 (ku n now)) h')
  (h4:∀(i:Nat) (tk:Tk) (n:Int),t=((i:Nat):Int)→st.T[i]?=some tk→st.j[i]?=some none→fU tk l now=0→st.g[i]?=some n→ku n now=0→∀h' aB,RA h' aB r {st with j:=st.j.set i (some (jE tk l now)),g:=st.g.set i (zx tk.p n now)}→Kc h h' col aB vo→Q (.int .i64 0) h'):
  VD fs ms 28 [.ptr r 0,.int .i64 t,ov,.int .i64 now] h Q:=by
 obtain⟨s,q,k,J,gv,D,ws,gs,R,e1,e2,e3,e4⟩:=R;have Nj:=R.n4;have KO:=R.tl;have sq:=R.gl;refine aj (af:=Vd) true rfl (yB rfl) ?_;conv=>whnf
 refine Aa R.dB.get ?_;conv=>whnf
 refine br (fun hc=>?_) (fun hc=>?_)<;>(try rw[hc])<;>(conv=>whnf)
 ·exact h0 (by simpa using hc)
 obtain⟨i,rfl,hiT⟩:=tc (T:=st.T) (t:=t) (by simpa using hc);have hi:i<ws.length:=by omega
 have hwi:ws[i]?=some ws[i]:=List.getElem?_eq_getElem hi;have hg:((ws.map (Option.map Prod.fst)).map xF)[i*1]?=some (US ws[i]):=by
  rw[Nat.mul_one,List.getElem?_map,List.getElem?_map,hwi];rfl
 repeat(first|(refine⟨_,aS R.dB.get rfl,?_⟩;conv=>whnf)|(refine⟨_,aH hi,?_⟩;conv=>whnf)|(refine⟨_,aS R.ko.get hg,?_⟩;conv=>whnf))
 cases hws:ws[i] with
 |some w=>
  rw[hws] at hwi;conv=>whnf
  exact h1 i w.2 rfl (by rw[e1];exact dn hwi)
 |none=>
 rw[hws] at hwi;have hj0:st.j[i]?=some none:=by rw[e1];exact sV hwi
 conv=>whnf
 obtain⟨lY,htk⟩:∃u,u=st.T[i]:=⟨_,rfl⟩;have Nm:st.T[i]?=some lY:=by rw[htk];exact List.getElem?_eq_getElem hiT
 repeat(first|(refine⟨_,aS R.dB.get rfl,?_⟩;conv=>whnf)|(refine⟨_,kB hiT,?_⟩;conv=>whnf))
 rw[←htk];refine⟨tk lY,rfl,?_⟩;conv=>whnf
 have kbs:∀{h5:Heap} (x:Nat),Fr h h5 bs→Kc h h5 col (bZ col h.next x) (· =300):=fun x fr=>⟨fr.next,fun c hc hn=>fr.keep c hc (fun hm=>hn (GL c hm hc)),fun c hc=>bN hc⟩;refine hnew lY _ (fun hn h5 fr=>?_) (fun hz h5 b p C v JJ hb hp hC Yx fr=>?_)
 ·conv=>whnf
  refine qq ((by simpa using hn)) (fun hc=>?_)
  (try rw[hc])
  conv=>whnf
  have f5:=kbs 300 fr;exact h2 i lY rfl Nm hj0 hn _ _ ⟨s,q,k,J,gv,D,ws,gs,R.keep f5 (fun n h1 h2 h=>by omega) (fun i h1 h=>by omega),e1,e2,e3,e4⟩ (f5.wk fun n h=>.inr h)
 obtain⟨ZA,ok2,ok3,ok4,ZB⟩:=Ep hz;have j5:=JJ.rw.lt;have Td:JP h5 b p (if l=[] then p else C) 0 v (jE lY l now):=by
  refine⟨JJ.lt,JJ.st,JJ.rw.any (fun hne=>if_neg hne),JJ.n1,?_⟩;by_cases e:l=[]
  ·rw[if_pos e];exact JJ.n1
  ·rw[if_neg e];exact JJ.n2
 have f5:Kc h h5 col (bZ col h.next (10+i)) (· =300):=kbs _ fr;have Pn:(if l=[] then p else C)<h5.next∧h.next≤(if l=[] then p else C):=by
  by_cases e:l=[]
  ·rw[if_pos e];exact⟨j5,hp⟩
  ·rw[if_neg e];exact⟨Yx e,hC⟩
 have JB:KE h5 (bZ col h.next (10+i)) i b (jE lY l now):=⟨p,_,0,v,Td,Pn.1,cz hb,cz hp,cz Pn.2⟩;have R5:=R.keep f5 (fun n h1 h2 h=>by omega) (fun i h1 h=>by omega);generalize bZ col h.next (10+i)=mV at*;obtain⟨g,Ec⟩:∃g,gs[i]?=some g:=⟨_,List.getElem?_eq_getElem (by omega)⟩;obtain⟨a1,a2,a3,a4⟩:=R5.uK.all i g lY Ec Nm;have hgrow:∃G op es,gv=.sl G 0 gs.length gs.length op∧h5.get G=some (.cells (gs.map fun g=>.ptr g.1 0) true es):=by
  rcases R5.uK.row with h|⟨G,op,es,b1,_,_,b2⟩
  ·rw[h] at Ec;simp at Ec
  ·exact⟨G,op,es,b1,b2⟩
 obtain⟨G,op,es,rfl,hG⟩:=hgrow;have YA:(gs.map fun g=>AV.ptr g.1 0)[i*1]?=some (.ptr g.1 0):=by rw[Nat.mul_one,List.getElem?_map,Ec];rfl
 have Y0:i<gs.length:=by omega
 have sY:st.g[i]?=some g.2:=by rw[e2,List.getElem?_map,Ec];rfl
 conv=>whnf
 repeat(first|(refine⟨_,aS R5.dB.get rfl,?_⟩;conv=>whnf)|(refine⟨_,aH Y0,?_⟩;conv=>whnf)|(refine⟨_,aS hG YA,?_⟩;conv=>whnf))
 refine Qy a4 a1 fun h6 YJ CO=>?_;have f6:Kc h5 h6 mV (bZ mV h5.next (20+i)) (· =20+i):=Kc.of CO (by intro c hc _;simp at hc;rw[hc];exact a3);have R6:=R5.Qz Ec Nm f6 YJ;have WH:=JB.keep f6 (by omega);have kf5:Kc h h5 col mV vo:=f5.wk (fun _ h=>.inr h);have kf6:Kc h5 h6 mV (bZ mV h5.next (20+i)) vo:=f6.wk (fun n hn=>by subst hn;exact .inl ⟨by omega,by omega⟩);generalize bZ mV h5.next (20+i)=col6 at*;have eg:(gs.set i (g.1,zx lY.p g.2 now)).map Prod.snd=st.g.set i (zx lY.p g.2 now):=by rw[List.map_set,←e2]
 conv=>whnf
 by_cases ha:ku g.2 now=0
 ·refine nC ((by simpa using ha)) (fun hc=>?_)
  (try rw[hc])
  conv=>whnf
  repeat(first|(refine⟨_,aS R6.dB.get rfl,?_⟩;conv=>whnf)|(refine⟨_,aH hi,?_⟩;conv=>whnf))
  refine bV (bp R6.ko.get rfl (by rw[List.length_map,List.length_map];omega) rfl) fun h7 E7=>?_;have Pg:Fr h6 h7 [J]:=by rw[E7];exact(Fr.refl _ _).set (by simp)
  have f7:Kc h6 h7 col6 (bZ col6 h6.next 4) (· =4):=Kc.of Pg (by intro c hc _;simp at hc;rw[hc];exact R6.ko.co);have Tc:=WH.keep f7 (by omega);have R7:=R6.SX (w:=some (b,jE lY l now)) hi f7 (by rw[E7];exact au) (fun x hx=>by cases hx;exact Tc);have kf7:Kc h6 h7 col6 (bZ col6 h6.next 4) vo:=f7.wk (fun n hn=>by subst hn;exact .inl ⟨by omega,by omega⟩);clear E7;generalize bZ col6 h6.next 4=col7 at*;conv=>whnf
  repeat(first|(refine⟨_,aS R7.dB.get rfl,?_⟩;conv=>whnf))
  obtain⟨p',C',o',v',WI,_⟩:=Tc;refine Eo WI ?_;conv=>whnf
  obtain⟨X,hq,Wm⟩:=R7.z5;have je:(jE lY l now).e=now+lY.d:=ZB;have Za:∀y∈D,y.1≠i:=by
   intro y hy e;obtain⟨j',hj',_⟩:=(e3 y).1 hy;rw[e,hj0] at hj';cases hj'
  refine Sc hq _ _ (fun h=>by omega) (fun _ h=>by rw[je] at h;omega) (fun _ _ y hy he=>(Za y hy (by omega)).elim) (fun _ n hn _ _ h8 X' D' GQ Yy ow=>?_);have hni:n=i:=by omega
  subst hni;obtain⟨f8,S8⟩:=Jw hq Wm GQ ow;have R8:=R7.Jv f8 S8;have kf8:=f8.wk (K':=vo) (fun n hn=>by subst hn;exact .inl ⟨by omega,by omega⟩);conv=>whnf
  refine⟨iM (by(conv=>whnf);repeat' (first|exact trivial|exact aS R7.dB.get rfl|(exact⟨rfl,rfl,.inr ⟨_,_,rfl⟩⟩)|(refine⟨rfl,rfl,.inl ⟨rfl,fun o ho=>?_⟩⟩;cases ho;first|rfl|exact aS R7.dB.get rfl)|(exact⟨rfl,.inr ⟨_,_,rfl⟩⟩)|(refine⟨rfl,.inl ⟨rfl,fun i o hi ho=>?_⟩⟩;cases hi;cases ho;first|rfl|exact aS R7.dB.get rfl)|(refine And.intro (fun eM=>(Bool.false_ne_true eM).elim) ?_<;>conv=>whnf)|(refine And.intro (fun _=>?_) ?_<;>conv=>whnf)|(refine And.intro ?_ ?_<;>conv=>whnf))),?_⟩;conv=>whnf
  refine h4 n lY g.2 rfl Nm hj0 hz sY ha h8 _ ⟨s,q,k,J,_,D',_,_,R8,?_,eg.symm,fun z=>?_,fun m jm hm=>?_⟩ (((kf5.trans kf6).trans kf7).trans kf8)
  ·show st.j.set n _=_;rw[Aq,←e1]
  ·rw[Yy z,e3 z];show _↔∃j',(st.j.set n (some (jE lY l now)))[z.1]?=some (some j')∧_;rw[List.getElem?_set];have hl:n<st.j.length:=(List.getElem?_eq_some_iff.1 hj0).1;by_cases e:n=z.1
   ·rw[if_pos e,if_pos hl];constructor
    ·rintro(⟨j',hj',_⟩|Zt)
     ·rw[←e,hj0] at hj';cases hj'
     ·exact⟨_,rfl,by rw[Zt]⟩
    ·rintro⟨j',hj',he⟩;cases hj'
     exact .inr (Prod.ext e.symm he)
   ·rw[if_neg e];constructor
    ·rintro(h|Zt)
     ·exact h
     ·rw[Zt] at e;exact absurd rfl e
    ·exact .inl
  ·have hm:(st.j.set n (some (jE lY l now)))[m]?=some (some jm):=hm;rw[List.getElem?_set] at hm;split at hm
   ·split at hm
    ·cases hm
     exact ZA
    ·cases hm
   ·exact e4 m jm hm
 ·refine qq ((by simpa using ha)) (fun hc=>?_)
  (try rw[hc])
  conv=>whnf
  have e:zx lY.p g.2 now=g.2:=by rw[zx,if_neg ha]
  refine h3 i lY g.2 rfl Nm hj0 hz sY ha h6 col6 ⟨s,q,k,J,_,D,ws,_,R6,e1,?_,e3,e4⟩ (kf5.trans kf6);rw[eg,e];exact(dc sY).symm
end
end Ir
end Go.Proofs.YtnlcabhfkpafmaaGreat
