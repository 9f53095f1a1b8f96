/-
  Room: new rooms. Room: what does not change it: Deadline, Fault, Next, Held, Jobs, Sole; Run and Did. Room: Held, Jobs, Sole; Run and Did. Room: Lock and Unlock. Room: Unlock. Room: End and Who. Room: Release. Room: Release, where the operations lie in the heap.
-/
import Derived.Test.YtnlcabhfkpafmaaGreatZE
set_option maxRecDepth 100000
set_option linter.unusedSimpArgs false
set_option linter.unusedVariables false
namespace Go.Proofs.YtnlcabhfkpafmaaGreat
open Go Ads
namespace Ir
theorem Sf{n:Nat}(hn:n≤4):aI (.jH [.bq] 1 8) [.int .i64 (n:Nat),.int .i64 (n:Nat)]=some (.cells (List.replicate n .bq) true 0,fun b=>.sl b 0 n n false):=by
 have b2:Nat.ble (8*n) 140737488355328=true:=Nat.ble_eq_true_of_le (by omega);have b3:Nat.ble n 9223372036854775807=true:=Nat.ble_eq_true_of_le (by omega);have b1:Nat.ble n n=true:=Nat.ble_eq_true_of_le (by omega);have z:∀n,dH [.bq] n=List.replicate n .bq:=fun n=>by
  induction n with
  |zero=>rfl
  |succ n ih=>rw[List.replicate_succ,←ih];rfl
 rw[←z];show cond (Nat.ble n n&&Nat.ble (8*n) 140737488355328&&Nat.ble n 9223372036854775807) (some (ck.cells (dH [.bq] n) true 0,fun b=>AV.sl b 0 n n false)) none=_;rw[b1,b2,b3];rfl
theorem rK{l:List Tk}(h:cA l=true):l.length≤4:=by
 rw[cA,Bool.and_eq_true,decide_eq_true_eq] at h;exact h.2
structure Nw(h0:Heap)(xG:Nat→Nat)(h:Heap)(col:Nat→Nat)(r k2 J:Nat)(T:List Tk)(gv:AV)(gs:List (Nat×Int)):Prop where
 r0:h0.next≤r
 lt:r<h.next
 co:col r=1
 get:h.get r=some (.cells [.bq,.bq,.fz k2 (ey T),gv,.sl J 0 T.length T.length false] true 0)
 jl:J<h.next
 jc:col J=4
 jg:h.get J=some (.cells (List.replicate T.length .bq) true 0)
 row:(gs=[]∧gv=.aH)∨∃G,gv=.sl G 0 gs.length gs.length true∧G<h.next∧(h0.next≤G∧col G=5)∧h.get G=some (.cells (gs.map fun g=>.ptr g.1 0) true 1)
 all:∀i g t,gs[i]?=some g→T[i]?=some t→t.p≠0∧g.1<h.next∧col g.1=20+i∧h.get g.1=some (gB t.p g.2)
 z:gs.map Prod.snd=List.replicate gs.length 0
 kc:Kc h0 h xG col (fun _=>False)
theorem Nw.keep{h0 h h':Heap}{xG col aK:Nat→Nat}{r k2 J:Nat}{T:List Tk}{gv:AV}{gs:List (Nat×Int)}(S:Nw h0 xG h col r k2 J T gv gs)(f:Kc h h' col aK (fun _=>False)):Nw h0 xG h' aK r k2 J T gv gs:=by
 refine⟨S.r0,Nat.lt_of_lt_of_le S.lt f.next,(f.col r S.lt).trans S.co,(f.keep r S.lt id).trans S.get,Nat.lt_of_lt_of_le S.jl f.next,(f.col J S.jl).trans S.jc,(f.keep J S.jl id).trans S.jg,?_,fun i g t hg ht=>?_,S.z,S.kc.trans f⟩
 ·rcases S.row with h|⟨G,h1,h2,h3,h4⟩
  ·exact .inl h
  ·exact .inr ⟨G,h1,Nat.lt_of_lt_of_le h2 f.next,⟨h3.1,(f.col G h2).trans h3.2⟩,(f.keep G h2 id).trans h4⟩
 ·obtain⟨h1,h2,h3,h4⟩:=S.all i g t hg ht;exact⟨h1,Nat.lt_of_lt_of_le h2 f.next,(f.col _ h2).trans h3,(f.keep _ h2 id).trans h4⟩
theorem Nw.app{h0 h:Heap}{xG col:Nat→Nat}{r k2 J:Nat}{T:List Tk}{gv:AV}{gs:List (Nat×Int)}(S:Nw h0 xG h col r k2 J T gv gs)(hl:gs.length≤4)(g:Nat):
  ∃v' g' G,eV (.append 1 8) [gv,.sl h.next 0 1 1 false] (h.new (.cells [.ptr g 0] true 0))=some (v',g')∧v'=.sl G 0 (gs.length+1) (gs.length+1) true∧h.next≤G∧G<g'.next∧
   g'.get G=some (.cells ((gs.map fun g=>.ptr g.1 0)++[.ptr g 0]) true 1)∧h.next≤g'.next∧∀c,c<h.next→(c<h0.next∨col c≠5)→g'.get c=h.get c:=by
 have hsrc:eJ 1 (h.new (.cells [.ptr g 0] true 0)) (.sl h.next 0 1 1 false)=some (1,[.ptr g 0]):=tu ai rfl;rcases S.row with⟨h1,h2⟩|⟨G,h1,h2,h3,h4⟩
 ·subst h1 h2;refine⟨_,_,h.next+1,lD (by omega) hsrc rfl,rfl,by omega,Nat.lt_succ_self _,?_,by show h.next≤h.next+1+1;omega,fun c hc _=>?_⟩
  ·exact ai (h:=h.new (.cells [.ptr g 0] true 0))
  ·exact(ay (h:=h.new (.cells [.ptr g 0] true 0)) (show c<h.next+1 by omega)).trans (ay hc)
 ·subst h1;have hg:(h.new (.cells [.ptr g 0] true 0)).get G=some (.cells (gs.map fun g=>.ptr g.1 0) true 1):=by rw[ay h2];exact h4
  refine⟨_,_,h.next+1,oX hg (by rw[List.length_map,Nat.mul_one]) hsrc rfl (by omega) (by omega),rfl,by omega,Nat.lt_succ_self _,?_,by show h.next≤h.next+1+1;omega,fun c hc hn=>?_⟩
  ·exact ai (h:=(h.new (.cells [.ptr g 0] true 0)).del G)
  ·have hne:c≠G:=by
    rintro rfl;rcases hn with h|h
    ·have:=h3.1;omega
    ·exact h h3.2
   exact(ay (h:=(h.new (.cells [.ptr g 0] true 0)).del G) (show c<h.next+1 by omega)).trans ((eD hne).trans (ay hc))
theorem OB{T:List Tk}{k k2 J r B:Nat}{h0:Heap}{xG:Nat→Nat}{Q:AX→Env→Heap→Prop}(hok:∀t∈T,1≤t.p∧t.p≤64)(hT:T.length≤4)
  (hQ:∀h col gv gs e,Nw h0 xG h col r k2 J T gv gs→gs.length=T.length→bZ e [(0,.fz k (ey T)),(5,.ptr r 0)]→Q (.exit 0) e h):
  ∀(m i:Nat) (h:Heap) (col:Nat→Nat) (gv:AV) (gs:List (Nat×Int)) (env:Env),T.length-i=m→i≤T.length→gs.length=i→Nw h0 xG h col r k2 J T gv gs→
   bZ env [(0,.fz k (ey T)),(5,.ptr r 0),(25,.fz k (ey T)),(26,.int .i64 ((T.length:Nat):Int)),(27,.int .i64 ((i:Nat):Int))]→VC fs ms B false (.loop sx) env h Q:=by
 intro m;induction m using Nat.strongRecOn with
 |ind m ih=>
 intro i h col gv gs env hm hi hg S fO;refine aE 6 _ fO ?_;refine dm (z:=true) ?_;conv=>whnf
 refine br (fun hc=>?_) (fun hc=>?_)<;>(try rw[hc])<;>(conv=>whnf)
 ·have hlt:i<T.length:=by have:=of_decide_eq_true hc;omega
  refine⟨_,iH hlt,?_⟩;conv=>whnf
  obtain⟨t,ht⟩:∃t,t=T[i]:=⟨_,rfl⟩;have U4:T[i]?=some t:=by rw[ht];exact List.getElem?_eq_getElem hlt
  have hp:=hok t (by rw[ht];exact List.getElem_mem _);rw[←ht];refine⟨tk t,rfl,?_⟩;conv=>whnf
  refine dV (cj ai rfl (Nat.le_refl _) rfl) fun h1 e1=>?_;conv=>whnf
  have iX:Fr h h1 []:=by rw[e1];exact((Fr.refl h []).new (x:=_)).qS (Nat.le_refl _)
  have gb:h1.get h.next=some (.cells (tk t).cells true 0):=by rw[e1,aC];rfl
  clear e1;refine⟨_,bU gb rfl,?_⟩;conv=>whnf
  refine QI (fun _=>?_) (fun h=>(h hp).elim);conv=>whnf
  have jx:Fr h (h1.new (gB t.p 0)) []:=iX.new;have vi:=ai (h:=h1) (x:=gB t.p 0);have Pw:h1.next<(h1.new (gB t.p 0)).next:=Nat.lt_succ_self _
  have Td:dg col h.next (20+i) h1.next=20+i:=dL iX.next;have S2:=S.keep (Kc.nil (col:=col) jx (20+i));generalize h1.new (gB t.p 0)=h2 at*;generalize dg col h.next (20+i)=xH at*;generalize h1.next=gn at*;refine⟨_,bU S2.get rfl,?_⟩;conv=>whnf
  obtain⟨v',g',G,a1,rfl,a2,a3,a4,a5,a6⟩:=S2.app (by omega) gn;refine⟨_,_,a1,?_⟩;conv=>whnf
  have AK:g'.get r=some (.cells [.bq,.bq,.fz k2 (ey T),gv,.sl J 0 T.length T.length false] true 0):=(a6 r S2.lt (.inr (by rw[S2.co];decide))).trans S2.get;refine⟨_,_,cj AK rfl (Nat.le_of_ble_eq_true rfl) rfl,?_⟩;conv=>whnf
  have hGr:G≠r:=by have:=S2.lt;omega
  have hJr:J≠r:=by intro e;have:=S2.jc;rw[e,S2.co] at this;omega
  refine ih (T.length-(i+1)) (by omega) (i+1) _ (dg xH h2.next 5) _ (gs++[(gn,0)]) _ rfl (by omega) (by simp[hg]) ⟨S2.r0,Nat.lt_of_lt_of_le S2.lt a5,(cJ S2.lt).trans S2.co,aC,Nat.lt_of_lt_of_le S2.jl a5,(cJ S2.jl).trans S2.jc,?_,?_,fun n g u hn hu=>?_,?_,?_⟩ ⟨rfl,rfl,rfl,rfl,aL (by omega),trivial⟩
  ·exact(aQ hJr).trans ((a6 J S2.jl (.inr (by rw[S2.jc];decide))).trans S2.jg)
  ·refine .inr ⟨G,?_,a3,⟨Nat.le_trans S2.kc.next a2,dL a2⟩,?_⟩
   ·rw[List.length_append];rfl
   ·rw[List.map_append];exact(aQ hGr).trans a4
  ·have key:∀(n:Nat) (g:Nat×Int) (u:Tk),(u.p≠0∧g.1<h2.next∧xH g.1=20+n∧h2.get g.1=some (gB u.p g.2))→u.p≠0∧g.1<(g'.set r (.cells (Heap.splice [.bq,.bq,.fz k2 (ey T),gv,.sl J 0 T.length T.length false] (0+3) (AV.sl G 0 (gs.length+1) (gs.length+1) true).cells) true 0)).next∧dg xH h2.next 5 g.1=20+n∧
     (g'.set r (.cells (Heap.splice [.bq,.bq,.fz k2 (ey T),gv,.sl J 0 T.length T.length false] (0+3) (AV.sl G 0 (gs.length+1) (gs.length+1) true).cells) true 0)).get g.1=some (gB u.p g.2):=by
    rintro n g u ⟨h1,h2,h3,h4⟩;have hne:g.1≠r:=by intro e;rw[e,S2.co] at h3;omega
    exact⟨h1,Nat.lt_of_lt_of_le h2 a5,(cJ h2).trans h3,(aQ hne).trans ((a6 _ h2 (.inr (by omega))).trans h4)⟩
   by_cases e:n<gs.length
   ·rw[List.getElem?_append_left e] at hn;exact key n g u (S2.all n g u hn hu)
   ·rw[List.getElem?_append_right (by omega)] at hn;have e0:n-gs.length=0:=by
     have:=(List.getElem?_eq_some_iff.1 hn).1;simp at this;omega
    rw[e0] at hn;cases hn
    have en:n=i:=by omega
    subst en;rw[U4] at hu;cases hu
    exact key n (gn,0) t ⟨by omega,Pw,Td,vi⟩
  ·rw[List.map_append,S2.z,List.length_append];exact(List.replicate_succ' ..).symm
  ·refine⟨Nat.le_trans S2.kc.next a5,fun c hc hn=>?_,fun c hc=>(cJ (Nat.lt_of_lt_of_le hc S2.kc.next)).trans (S2.kc.col c hc)⟩;have hne:c≠r:=by have:=S2.r0;omega
   exact(aQ hne).trans ((a6 c (Nat.lt_of_lt_of_le hc S2.kc.next) (.inl hc)).trans (S2.kc.keep c hc id))
 ·have hge:i=T.length:=by have:=of_decide_eq_false hc;omega
  exact hQ _ _ _ _ _ S (by omega) ⟨rfl,rfl,trivial⟩
theorem As{h:Heap}{col:Nat→Nat}{Q:AV→Heap→Prop}(k:Nat)(T:List Tk)(hk:k=3→T=[])(hT:T.length≤17592186044416)
  (h0:cT T (List.replicate T.length 0)≠0→∀h',Fr h h' []→Q (.cD [.bq,.int .i64 (cT T (List.replicate T.length 0))]) h')
  (h1:cA T=true→∀h' aK r,RA h' aK r ⟨T,[],List.replicate T.length none,List.replicate T.length 0⟩→Kc h h' col aK (fun _=>False)→Q (.cD [.ptr r 0,.int .i64 0]) h'):VD fs ms 9 [.fz k (ey T)] h Q:=by
 refine dz (af:=C9) rfl (Nat.le_of_ble_eq_true rfl) ?_;conv=>whnf
 refine aM true ?_;conv=>whnf
 refine bt (aM true ?_);conv=>whnf
 rw[bB];refine⟨_,_,Fe (by omega),?_⟩;conv=>whnf
 have g0:(h.new (.cells (ints (List.replicate T.length 0)) true 0)).get h.next=some (.cells (aa (ints (List.replicate T.length 0))++[]) true 0):=by rw[lF,List.append_nil];exact ai
 have tV:Fr h (h.new (.cells (ints (List.replicate T.length 0)) true 0)) []:=(Fr.refl h []).new;refine jM (vc k 0 T (List.replicate T.length 0) (by omega) (by rw[List.length_replicate];omega)) rfl (.cons (.clean (by simp[AV.cl,bW])) (.cons (qw trivial g0 rfl (uq _) (by rw[cm,List.length_replicate]) (Nat.le_refl _) (bS _)) .nil)) ?_;conv=>whnf
 refine aA (z:=true) ?_;conv=>whnf
 refine br (fun hc=>?_) (fun hc=>?_)<;>(try rw[hc])<;>(conv=>whnf)
 ·exact h0 (by simpa using hc) _ tV
 have hok:cT T (List.replicate T.length 0)=0:=by simpa using hc
 have hto:=(Bg hok).2.1;obtain⟨k2,Gw⟩:=Bb k T hk (by have:=rK hto;omega);refine aM true ?_;conv=>whnf
 refine aO Gw ?_;conv=>whnf
 rw[bB];refine⟨_,_,Sf (rK hto),?_⟩;conv=>whnf
 refine bt (aM true ?_);conv=>whnf
 refine bR ?_;have h4:=rK hto;obtain⟨vg,mG⟩:∃g,g=(h.new (.cells (ints (List.replicate T.length 0)) true 0)):=⟨_,rfl⟩;obtain⟨q6,xM⟩:∃g,g=vg.new (.cells (List.replicate T.length .bq) true 0):=⟨_,rfl⟩;obtain⟨S9,Gj⟩:∃g,g=q6.new (.cells [.bq,.bq,.fz k2 (ey T),.aH,.sl vg.next 0 T.length T.length false] true 0):=⟨_,rfl⟩;have n1:h.next≤vg.next:=by rw[mG];exact Nat.le_succ _
 have n2:q6.next=vg.next+1:=by rw[xM];rfl
 have n3:S9.next=q6.next+1:=by rw[Gj];rfl
 have gJ:S9.get vg.next=some (.cells (List.replicate T.length .bq) true 0):=by rw[Gj,ay (by omega),xM];exact ai
 have gr:S9.get q6.next=some (.cells [.bq,.bq,.fz k2 (ey T),.aH,.sl vg.next 0 T.length T.length false] true 0):=by rw[Gj];exact ai
 have jE:Fr h S9 []:=by rw[Gj,xM,mG];exact(((Fr.refl h []).new).new).new
 have aaa:∀t∈T,1≤t.p∧t.p≤64:=by
  rw[cA,Bool.and_eq_true,List.all_eq_true] at hto;intro t ht;have:=hto.1 t ht;simp only[gZ,decide_eq_true_eq] at this;omega
 have S0:Nw h col S9 (dg (dg col h.next 4) q6.next 1) q6.next k2 vg.next T .aH []:=
  ⟨by omega,by omega,dL (Nat.le_refl _),gr,by omega,by rw[cJ (by omega),dL n1],gJ,.inl ⟨rfl,rfl⟩,fun i g t hg=>by simp at hg,rfl,
   ⟨jE.next,fun c hc _=>jE.keep c hc (by simp),fun c hc=>by rw[cJ (by omega),cJ hc]⟩⟩
 subst Gj;subst xM;subst mG;refine OB (h0:=h) (xG:=col) (k2:=k2) aaa h4 ?_ T.length 0 _ _ _ [] _ rfl (Nat.zero_le _) rfl S0 ⟨rfl,rfl,rfl,congrArg (fun n:Nat=>some (AV.int .i64 (n:Int))) (bB T),rfl,trivial⟩;intro h5 xI gv gs e5 S Pw Te;clear S0 gr gJ n2 n3 jE g0 tV n1;generalize((h.new (.cells (ints (List.replicate T.length 0)) true 0)).new (.cells (List.replicate T.length .bq) true 0)).next=r at S Te
 generalize(h.new (.cells (ints (List.replicate T.length 0)) true 0)).next=J at S
 refine aE 6 _ Te (aA (z:=true) ?_);conv=>whnf
 refine Sx k T hk h4 fun h6 s k3 SA hs T7=>?_;conv=>whnf
 have S6:=S.keep (Kc.nil (col:=xI) T7 2);have cs:dg xI h5.next 2 s=2:=dL hs;generalize dg xI h5.next 2=col6 at*;refine dV (cj S6.get rfl (Nat.le_of_ble_eq_true rfl) rfl) fun h7 e7=>?_;conv=>whnf
 rw[bB];replace e7:h7=h6.set r (.cells [.ptr s 0,.bq,.fz k2 (ey T),gv,.sl J 0 T.length T.length false] true 0):=e7;have sr:s≠r:=by intro e;rw[e,S6.co] at cs;omega
 have G7:h7.get r=some (.cells [.ptr s 0,.bq,.fz k2 (ey T),gv,.sl J 0 T.length T.length false] true 0):=by rw[e7];exact aC
 have o7:∀c,c≠r→h7.get c=h6.get c:=fun c hc=>by rw[e7,aQ hc]
 have x7:h7.next=h6.next:=by rw[e7];rfl
 clear e7;refine Vx ((T.length:Nat):Int) (fun h=>by omega) fun _ _ h8 q X hq hX Zj=>?_;conv=>whnf
 have G8:=(Zj.keep r (by rw[x7];exact S6.lt) (by simp)).trans G7;refine dV (cj G8 rfl (Nat.le_of_ble_eq_true rfl) rfl) fun h9 e9=>?_;conv=>whnf
 replace e9:h9=h8.set r (Tu s q k2 T gv (.sl J 0 T.length T.length false)):=e9;have x9:h9.next=h8.next:=by rw[e9];rfl
 have G9:h9.get r=some (Tu s q k2 T gv (.sl J 0 T.length T.length false)):=by rw[e9];exact aC
 have n78:=Zj.next;have o9:∀c,c≠r→c<h6.next→h9.get c=h6.get c:=fun c hc hl=>by
  rw[e9,aQ hc];exact(Zj.keep c (by omega) (by simp)).trans (o7 c hc)
 have Gc:∀c,c<h6.next→dg col6 h7.next 3 c=col6 c:=fun c hc=>cJ (by omega);have aaL:∀c,c∈s::gL 0 AV.aH→c=s:=by simp[gL]
 have rlt:=S6.lt;have jlt:=S6.jl;have slt:=SA.lt;have aco:=hq.own;refine h1 hto h9 (dg col6 h7.next 3) r ⟨s,q,k2,J,gv,[],List.replicate T.length none,gs,⟨h4,List.length_replicate,Pw,⟨by omega,(Gc r rlt).trans S6.co,by rw[List.length_replicate];exact G9⟩,⟨k3,0,.aH,?_,fun c hc=>?_⟩,⟨X,?_,fun c hc=>?_⟩,⟨by omega,(Gc J jlt).trans S6.jc,?_⟩,fun i w hw=>?_,?_⟩,?_,?_,fun y=>?_,fun i j hj=>?_⟩ ⟨?_,fun c hc _=>?_,fun c hc=>?_⟩
 ·exact SA.yR (by omega) (o9 s sr slt) (fun c hc=>by simp[gL] at hc)
 ·rw[aaL c hc,Gc s slt,cs]
 ·have fx:Fr h8 h9 [r]:=by rw[e9];exact(Fr.refl _ _).set (by simp)
  refine hq.keep fx fun b hb hm=>?_;have:=hX b hb;simp at hm;omega
 ·exact dL (hX c hc)
 ·rw[o9 J (by intro e;have:=S6.jc;rw[e,S6.co] at this;omega) jlt,S6.jg,List.map_replicate,List.map_replicate];rfl
 ·rw[List.getElem?_replicate] at hw;split at hw<;>cases hw
 ·refine⟨?_,fun i g t hg ht=>?_⟩
  ·rcases S6.row with⟨h,_⟩|⟨G,a1,a2,a3,a4⟩
   ·exact .inl h
   ·exact .inr ⟨G,_,_,a1,by omega,(Gc G a2).trans a3.2,(o9 G (by intro e;have:=a3.2;rw[e,S6.co] at this;omega) a2).trans a4⟩
  ·obtain⟨a1,a2,a3,a4⟩:=S6.all i g t hg ht;exact⟨a1,by omega,(Gc _ a2).trans a3,(o9 _ (by intro e;rw[e,S6.co] at a3;omega) a2).trans a4⟩
 ·rw[wj,List.map_replicate];rfl
 ·rw[S6.z,Pw]
 ·constructor
  ·intro hy;simp at hy
  ·rintro⟨j,hj,_⟩;have hj:(List.replicate T.length none)[y.1]?=some (some j):=hj;rw[List.getElem?_replicate] at hj;split at hj<;>cases hj
 ·have hj:(List.replicate T.length none)[i]?=some (some j):=hj;rw[List.getElem?_replicate] at hj;split at hj<;>cases hj
 ·have:=S6.kc.next;omega
 ·have:=S6.kc.next;have:=S6.r0;exact(o9 c (by omega) (by omega)).trans (S6.kc.keep c hc id)
 ·have:=S6.kc.next;exact(Gc c (by omega)).trans (S6.kc.col c hc)
def wH(T:List Tk)(js:List (Option Jb))(t:Int):Int:=if eR T t !=0 then eR T t else match js[t.toNat]? with|some (some _)=>0|_=>250
theorem Og{T:List Tk}{js:List (Option Jb)}{t:Int}(h:eR T t≠0):wH T js t=eR T t:=by rw[wH,if_pos (by simpa using h)]
theorem Kv{T:List Tk}{js:List (Option Jb)}{i:Nat}(hl:i<T.length)(h:js[i]?=some none):wH T js i=250:=by
 have ha:eR T i=0:=by
  rw[eR,decide_eq_false (by omega),decide_eq_false (by omega)];rfl
 rw[wH,ha,Int.toNat_natCast,h];rfl
theorem cV{T:List Tk}{js:List (Option Jb)}{i:Nat}{j:Jb}(hl:i<T.length)(h:js[i]?=some (some j)):wH T js i=0:=by
 have ha:eR T i=0:=by
  rw[eR,decide_eq_false (by omega),decide_eq_false (by omega)];rfl
 rw[wH,ha,Int.toNat_natCast,h];rfl
section
variable {h:Heap} {col:Nat→Nat} {r s q k J:Nat} {gv:AV} {D:List Id} {ws:Ws} {gs:List (Nat×Int)} {T:List Tk} {L:List En} {st:St} {Q:AV→Heap→Prop} {t:Int}
theorem za(R:rz h col r s q k J gv D ws gs T L)(h0:wH T (wj ws) t≠0→Q (.cD [.bq,.int .i64 (wH T (wj ws) t)]) h)
  (h1:∀(i b:Nat) (j:Jb),t=((i:Nat):Int)→ws[i]?=some (some (b,j))→Q (.cD [.ptr b 0,.int .i64 0]) h):VD fs ms 46 [.ptr r 0,.int .i64 t] h Q:=by
 have hl:=R.tl;have hg:=R.oT.get;have hj:=R.CD.get;have e:ws.length=(ws.map (Option.map Prod.fst)).length:=(List.length_map ..).symm;rw[e] at hg;refine Ss hg hj (by rw[List.length_map];exact hl) (fun ha=>?_) (fun i hi ht hn=>?_) (fun i hi b ht hn=>?_)
 ·rw[Og ha] at h0;exact h0 ha
 ·subst ht;have hi':i<ws.length:=by rw[e];exact hi
  rw[List.getElem_map] at hn;have hw:ws[i]?=some none:=by
   rw[List.getElem?_eq_getElem hi'];cases hc:ws[i] with
   |none=>rfl
   |some w=>rw[hc] at hn;cases hn
  rw[Kv (by omega) (FN hw)] at h0;exact h0 (by decide)
 ·subst ht;have hi':i<ws.length:=by rw[e];exact hi
  rw[List.getElem_map] at hn;cases hc:ws[i] with
  |none=>rw[hc] at hn;cases hn
  |some w=>
   rw[hc] at hn;cases hn
   exact h1 i w.1 w.2 rfl (by rw[List.getElem?_eq_getElem hi',hc])
theorem oA(R:RA h col r st)(h0:wH st.T st.j t≠0→Q (.cD [.int .i64 0,.bool false]) h)(h1:∀(i:Nat) (j:Jb),t=((i:Nat):Int)→st.j[i]?=some (some j)→Q (.cD [.int .i64 j.e,.bool true]) h):
  VD fs ms 13 [.ptr r 0,.int .i64 t] h Q:=by
 obtain⟨s,q,k,J,gv,D,ws,gs,R,e1,e2,e3,e4⟩:=R;rw[e1] at h0 h1;refine ak (af:=V5) true rfl (Nat.le_of_ble_eq_true rfl) ?_;conv=>whnf
 refine za R (fun hn=>?_) (fun i b j ht hw=>?_)
 ·conv=>whnf
  refine qO ((by simpa using hn)) (fun hc=>?_)
  (try rw[hc])
  conv=>whnf
  exact h0 hn
 ·conv=>whnf
  obtain⟨p,C,o,v,JJ,_⟩:=R.xU i _ hw;refine E0 JJ ?_;conv=>whnf
  exact h1 i j ht (hU hw)
theorem KM{now:Int}(R:RA h col r st)(h0:wH st.T st.j t≠0→Q (.int .i64 0) h)(h1:∀(i:Nat) (j:Jb),t=((i:Nat):Int)→st.j[i]?=some (some j)→∀h',Fr h h' []→Q (.int .i64 (Du j now)) h'):
  VD fs ms 32 [.ptr r 0,.int .i64 t,.int .i64 now] h Q:=by
 obtain⟨s,q,k,J,gv,D,ws,gs,R,e1,e2,e3,e4⟩:=R;rw[e1] at h0 h1 e4;refine ak (af:=Wf) true rfl (Nat.le_of_ble_eq_true rfl) ?_;conv=>whnf
 refine za R (fun hn=>?_) (fun i b j ht hw=>?_)
 ·conv=>whnf
  refine qO ((by simpa using hn)) (fun hc=>?_)
  (try rw[hc])
  conv=>whnf
  exact h0 hn
 ·conv=>whnf
  obtain⟨p,C,o,v,JJ,_⟩:=R.xU i _ hw;have:=e4 i j (hU hw);refine J6 JJ (by show j.l.length≤64;omega) fun h' fr=>?_;conv=>whnf
  exact h1 i j ht (hU hw) h' fr
theorem OC(R:RA h col r st)(h0:wH st.T st.j t≠0→∀h',Fr h h' []→Q (.cD [op Fj,.bool false]) h')(h1:∀(i:Nat) (j:Jb),t=((i:Nat):Int)→st.j[i]?=some (some j)→∀h',Fr h h' []→Q (.cD [op (j.l.headD Fj),.bool (!j.l.isEmpty)]) h'):
  VD fs ms 35 [.ptr r 0,.int .i64 t] h Q:=by
 obtain⟨s,q,k,J,gv,D,ws,gs,R,e1,e2,e3,e4⟩:=R;rw[e1] at h0 h1 e4;refine ak (af:=Wi) true rfl (Nat.le_of_ble_eq_true rfl) ?_;conv=>whnf
 have iX:Fr h (h.new (.cells (op Fj).cells true 0)) []:=(Fr.refl h []).new;refine za (R.nil iX) (fun hn=>?_) (fun i b j ht hw=>?_)
 ·conv=>whnf
  refine qO ((by simpa using hn)) (fun hc=>?_)
  (try rw[hc])
  conv=>whnf
  refine dV (cj ai rfl (Nat.le_refl _) rfl) fun h1 e1=>?_;conv=>whnf
  refine eE (s9 rfl (cN (vs:=(op Fj).cells) (by rw[e1];exact aC) (Nat.le_refl _)) rfl) ?_;conv=>whnf
  exact h0 hn _ (by rw[e1];exact iX.qS (Nat.le_refl _))
 ·conv=>whnf
  obtain⟨p,C,o,v,JJ,_⟩:=(R.nil iX).xU i _ hw;refine E4 JJ fun h2 jx=>?_;conv=>whnf
  have g2:h2.get h.next=some (.cells (op Fj).cells true 0):=(jx.keep _ (Nat.lt_succ_self _) (by simp)).trans ai;refine dV (cj g2 rfl (Nat.le_refl _) rfl) fun h3 e3=>?_;conv=>whnf
  refine eE (s9 rfl (cN (vs:=(op (j.l.headD Fj)).cells) (by rw[e3];exact aC) (Nat.le_refl _)) rfl) ?_;conv=>whnf
  exact h1 i j ht (hU hw) _ (by rw[e3];exact(iX.trans jx).qS (Nat.le_refl _))
end
section
variable {h:Heap} {col:Nat→Nat} {r s q k J:Nat} {gv:AV} {D:List Id} {ws:Ws} {gs:List (Nat×Int)} {T:List Tk} {L:List En} {st:St} {Q:AV→Heap→Prop} {t:Int}
theorem DR{b p C o:Nat}{v:AV}{j:Jb}(J:JP h b p C o v j)(hQ:Q (.int .i64 j.s) h):VD fs ms 83 [.ptr b 0] h Q:=by
 refine ak (af:=TC) true rfl (Nat.le_of_ble_eq_true rfl) ?_;conv=>whnf
 refine Vi J ?_;conv=>whnf
 exact hQ
theorem OG(hQ:Q (.int .i64 0) h):VD fs ms 83 [.bq] h Q:=by
 refine ak (af:=TC) true rfl (Nat.le_of_ble_eq_true rfl) ?_;conv=>whnf
 refine ak (af:=HN) true rfl (Nat.le_of_ble_eq_true rfl) ?_;conv=>whnf
 refine ak (af:=HM) true rfl (Nat.le_of_ble_eq_true rfl) ?_;conv=>whnf
 exact hQ
theorem Oy(R:RA h col r st)(hL:st.L.length≤1000)(h0:wH st.T st.j t≠0→Q .aH h)(h1:∀(i:Nat) (j:Jb),t=((i:Nat):Int)→st.j[i]?=some (some j)→∀h' v,jU h.next h' v (aU st.L t)→Fr h h' []→Q v h'):
  VD fs ms 14 [.ptr r 0,.int .i64 t] h Q:=by
 obtain⟨s,q,k,J,gv,D,ws,gs,R,e1,e2,e3,e4⟩:=R;rw[e1] at h0 h1 e4;refine ak (af:=V6) true rfl (Nat.le_of_ble_eq_true rfl) ?_;conv=>whnf
 refine za R (fun hn=>?_) (fun i b j ht hw=>?_)
 ·conv=>whnf
  refine qO ((by simpa using hn)) (fun hc=>?_)
  (try rw[hc])
  conv=>whnf
  exact h0 hn
 ·conv=>whnf
  repeat(first|(refine⟨_,bU R.oT.get rfl,?_⟩;conv=>whnf))
  obtain⟨k2,E,v,S,hc⟩:=R.stk;obtain⟨k1,Dq⟩:=S.view;refine xp (by simp[cw,nU,AV.cl]) (An _) (Di k2 k1 st.T st.L hL t) (.cons Dq (.cons (.clean rfl) .nil)) (fun he=>?_) ?_
  ·conv=>whnf
   refine h1 i j ht (hU hw) _ _ (.inl ⟨?_,rfl⟩) (Fr.refl _ _);have:=congrArg List.length he;rw[cm] at this;exact List.length_eq_zero_iff.1 this
  ·conv=>whnf
   rw[cm,lF];exact h1 i j ht (hU hw) _ _ (.inr ⟨h.next,Nat.le_refl _,Nat.lt_succ_self _,rfl,ai⟩) ((Fr.refl h []).new)
theorem Oz(R:RA h col r st)(h1:∀h' v M,jU h.next h' v (CC M)→(∀y:Id,y∈M↔∃j,st.j[y.1]?=some (some j)∧y.2=j.e)→SM M→Lm M 0 M.length→Fr h h' []→Q v h'):
  VD fs ms 34 [.ptr r 0] h Q:=by
 obtain⟨s,q,k,J,gv,D,ws,gs,R,e1,e2,e3,e4⟩:=R;refine ak (af:=Wh) true rfl (Nat.le_of_ble_eq_true rfl) ?_;conv=>whnf
 refine tc R.oT.get ?_;conv=>whnf
 repeat(first|(refine⟨_,bU R.oT.get rfl,?_⟩;conv=>whnf))
 obtain⟨X,hq,_⟩:=R.Ou;refine Ot hq fun h' v M hv ho hm fr=>?_;conv=>whnf
 exact h1 h' v M hv (fun y=>(ho.mem y).trans (e3 y)) ho.dst ho.srt fr
def Gu(w:Option (Nat×Jb)):Bool:=match w with|some x=>decide (x.2.s≥2)|none=>false
theorem OI(R:RA h col r st){B:Nat}{Q:AX→Env→Heap→Prop}(RX:rz h col r s q k J gv D ws gs T L)
  (h0:(∀(i:Nat) w,ws[i]?=some w→Gu w=false)→∀e,Q (.exit 0) e h)(h1:∀(i b:Nat) (j:Jb) e,ws[i]?=some (some (b,j))→2≤j.s→(∀(m:Nat) w,m<i→ws[m]?=some w→Gu w=false)→bZ e [(2,.int .i64 (i:Nat)),(3,.int .i64 j.s),(4,.bool true)]→Q .ret e h):
  ∀(m i:Nat) (env:Env),ws.length-i=m→i≤ws.length→(∀(n:Nat) w,n<i→ws[n]?=some w→Gu w=false)→bZ env [(13,.sl J 0 ws.length ws.length false),(14,.int .i64 ((ws.length:Nat):Int)),(15,.int .i64 ((i:Nat):Int))]→
   VC fs ms B false (.loop lR) env h Q:=by
 have Dl:=RX.n4;have U6:=RX.tl;intro m;induction m using Nat.strongRecOn with
 |ind m ih=>
 intro i env hm hi hno fO;refine aE 5 _ fO ?_;refine dm (z:=true) ?_;conv=>whnf
 refine br (fun hc=>?_) (fun hc=>?_)<;>(try rw[hc])<;>(conv=>whnf)
 ·have hlt:i<ws.length:=by have:=of_decide_eq_true hc;omega
  refine⟨_,bL hlt,?_⟩;conv=>whnf
  have hg:((ws.map (Option.map Prod.fst)).map J0)[i*1]?=some (XJ ws[i]):=by
   rw[Nat.mul_one,List.getElem?_map,List.getElem?_map,List.getElem?_eq_getElem hlt];rfl
  refine⟨_,bU RX.CD.get hg,?_⟩;have hwi:ws[i]?=some ws[i]:=List.getElem?_eq_getElem hlt;have next:Gu ws[i]=false→∀(n:Nat) w,n<i+1→ws[n]?=some w→Gu w=false:=by
   intro hf n w hn hw;by_cases e:n=i
   ·subst e;rw[hwi] at hw;cases hw;exact hf
   ·exact hno n w (by omega) hw
  cases hc:ws[i] with
  |none=>
   rw[hc] at next
   conv=>whnf
   refine OG ?_;conv=>whnf
   exact ih (ws.length-(i+1)) (by omega) (i+1) _ rfl (by omega) (next rfl) ⟨rfl,rfl,aL (by omega),trivial⟩
  |some w=>
   rw[hc] at next hwi
   obtain⟨b,j⟩:=w;obtain⟨p,C,o,v,JJ,_⟩:=RX.xU i _ hwi;conv=>whnf
   refine DR JJ ?_;conv=>whnf
   refine br (fun hc=>?_) (fun hc=>?_)<;>(try rw[hc])<;>(conv=>whnf)
   ·exact h1 i b j _ hwi (of_decide_eq_true hc) hno ⟨rfl,rfl,rfl,trivial⟩
   ·exact ih (ws.length-(i+1)) (by omega) (i+1) _ rfl (by omega) (next hc) ⟨rfl,rfl,aL (by omega),trivial⟩
 ·have hge:i=ws.length:=by have:=of_decide_eq_false hc;omega
  refine h0 (fun n w hn=>hno n w ?_ hn) _;have:=(List.getElem?_eq_some_iff.1 hn).1;omega
theorem EG{ws:Ws}{i:Nat}{j:Jb}(h:∀w,ws[i]?=some w→Gu w=false)(hj:(wj ws)[i]?=some (some j)):j.s<2:=by
 obtain⟨b,hb⟩:=FO hj;have:=h _ hb;have:=of_decide_eq_false (show decide (j.s≥2)=false from this);omega
theorem CY{a b c:Nat}{u v w:AV}{e:Env}{h:Heap}{Q:AV→Heap→Prop}(h1:Tr.get e a=some u)(h2:Tr.get e b=some v)(h3:Tr.get e c=some w)(hq:Q (.cD [u,v,w]) h):uT [.tmp a,.tmp b,.tmp c] Q .ret e h:=by
 simp only[uT,eH,oD,h1,h2,h3];exact hq
theorem OH(R:RA h col r st)(h0:(∀(i:Nat) (j:Jb),st.j[i]?=some (some j)→j.s<2)→Q (.cD [.int .i64 0,.int .i64 0,.bool false]) h)
  (h1:∀(i:Nat) (j:Jb),st.j[i]?=some (some j)→2≤j.s→(∀(m:Nat) (j':Jb),m<i→st.j[m]?=some (some j')→j'.s<2)→Q (.cD [.int .i64 ((i:Nat):Int),.int .i64 j.s,.bool true]) h):VD fs ms 30 [.ptr r 0] h Q:=by
 have R0:=R;obtain⟨s,q,k,J,gv,D,ws,gs,R,e1,e2,e3,e4⟩:=R;rw[e1] at h0 h1;refine dz (af:=We) rfl (Nat.le_of_ble_eq_true rfl) ?_;conv=>whnf
 refine aM true ?_;conv=>whnf
 refine bt (aM true ?_);conv=>whnf
 refine tc R.oT.get ?_;conv=>whnf
 refine aA (z:=true) ?_;conv=>whnf
 refine bt (aM true ?_);conv=>whnf
 repeat(first|(refine⟨_,bU R.oT.get rfl,?_⟩;conv=>whnf))
 refine bR ?_;refine OI R0 R ?_ ?_ ws.length 0 _ rfl (Nat.zero_le _) (fun n w hn=>by omega) ⟨rfl,rfl,rfl,trivial⟩
 ·intro hno e;refine aE 0 [] trivial (aA (z:=true) ?_);conv=>whnf
  exact h0 fun i j hj=>EG (hno i) hj
 ·intro i b j e hw hs hno he;exact CY he.1 he.2.1 he.2.2.1 (h1 i j (hU hw) hs fun m j' hm hj=>EG (fun w=>hno m w hm) hj)
theorem MM(i:Nat)(hi:i<4):RK (10+i):=⟨by omega,by omega⟩
theorem vu{F:AV}(R:rz h col r s q k J gv D ws gs T L)(h0:wH T (wj ws) t≠0→Q (.int .i64 (wH T (wj ws) t)) h)
  (h1:∀(i b:Nat) (j:Jb),t=((i:Nat):Int)→ws[i]?=some (some (b,j))→∃f aF,F=.func (.func f) [] aF∧VD fs ms f ([.ptr b 0]++aF) h Q):VD fs ms 79 [.ptr r 0,.int .i64 t,F] h Q:=by
 refine ak (af:=WE) true rfl (Nat.le_of_ble_eq_true rfl) ?_;conv=>whnf
 refine za R (fun hn=>?_) (fun i b j ht hw=>?_)
 ·conv=>whnf
  refine qO ((by simpa using hn)) (fun hc=>?_)
  (try rw[hc])
  conv=>whnf
  exact h0 hn
 ·obtain⟨f,aF,rfl,hv⟩:=h1 i b j ht hw;conv=>whnf
  refine VD.mono hv fun v h' hq=>?_;conv=>whnf
  exact hq
theorem N4(l:List Op):(zT l).length≤l.length:=by
 rw[zT];split
 ·exact Nat.le_refl _
 ·rw[List.length_tail];omega
theorem N5(l:List Op):(s6 l).length≤l.length:=by
 cases l with
 |nil=>exact Nat.le_refl _
 |cons x l=>
  rw[s6];split
  ·split<;>simp
  ·exact Nat.le_refl _
theorem N6(j:Jb):(mc j).l.length≤j.l.length:=by
 rw[mc];split
 ·exact N5 _
 ·exact Nat.le_refl _
theorem Qq(j:Jb):(mc j).e=j.e:=by
 rw[mc];split<;>rfl
theorem Fy(R:RA h col r st)(h0:wH st.T st.j t≠0→Q (.int .i64 (wH st.T st.j t)) h)
  (h1:∀(i:Nat) (j:Jb),t=((i:Nat):Int)→st.j[i]?=some (some j)→∀h' aK,RA h' aK r {st with j:=st.j.set i (some (mc j))}→Kc h h' col aK RK→Q (.int .i64 (q8 j)) h'):VD fs ms 21 [.ptr r 0,.int .i64 t] h Q:=by
 obtain⟨s,q,k,J,gv,D,ws,gs,R,e1,e2,e3,e4⟩:=R;rw[e1] at h0;refine ak (af:=V9) true rfl (Nat.le_of_ble_eq_true rfl) ?_;conv=>whnf
 refine vu R (fun hn=>?_) (fun i b j ht hw=>⟨81,[],rfl,?_⟩)
 ·conv=>whnf
  exact h0 hn
 ·obtain⟨p,C,o,v,JJ,hC,c1,c2,c3⟩:=R.xU i _ hw;have hj:st.j[i]?=some (some j):=by rw[e1];exact hU hw
  refine RU JJ fun h' v' o' XX fr=>?_;conv=>whnf
  have f:Kc h h' col (dg col h.next (10+i)) (· =10+i):=Kc.of fr (by intro c hc _;simp at hc;rcases hc with rfl|rfl|rfl<;>assumption);have hp:=JJ.rw.lt;have hb:=JJ.lt;refine h1 i j ht hj h' _ (RA.GM R e1 e2 e3 e4 hw f ⟨p,C,o',v',XX,Nat.lt_of_lt_of_le hC f.next,by rw[f.col b hb,c1],by rw[f.col p hp,c2],by rw[f.col C hC,c3]⟩ (Qq j) ?_) (f.wk fun n hn=>by subst hn;exact MM i (R.len hw));have:=e4 i j hj;have:=N6 j;omega
theorem OA(R:RA h col r st)(h0:wH st.T st.j t≠0→Q (.int .i64 (wH st.T st.j t)) h)
  (h1:∀(i:Nat) (j:Jb),t=((i:Nat):Int)→st.j[i]?=some (some j)→∀h' aK,RA h' aK r {st with j:=st.j.set i (some (JY j))}→Kc h h' col aK RK→Q (.int .i64 (EY j)) h'):VD fs ms 20 [.ptr r 0,.int .i64 t] h Q:=by
 obtain⟨s,q,k,J,gv,D,ws,gs,R,e1,e2,e3,e4⟩:=R;rw[e1] at h0;refine ak (af:=V8) true rfl (Nat.le_of_ble_eq_true rfl) ?_;conv=>whnf
 refine vu R (fun hn=>?_) (fun i b j ht hw=>⟨80,[],rfl,?_⟩)
 ·conv=>whnf
  exact h0 hn
 ·obtain⟨p,C,o,v,JJ,hC,c1,c2,c3⟩:=R.xU i _ hw;have hj:st.j[i]?=some (some j):=by rw[e1];exact hU hw
  refine RO JJ fun h' v' o' XX fr=>?_;conv=>whnf
  have f:Kc h h' col (dg col h.next (10+i)) (· =10+i):=Kc.of fr (by intro c hc _;simp at hc;rcases hc with rfl|rfl<;>assumption);have hp:=JJ.rw.lt;have hb:=JJ.lt;refine h1 i j ht hj h' _ (RA.GM R e1 e2 e3 e4 hw f ⟨p,C,o',v',XX,Nat.lt_of_lt_of_le hC f.next,by rw[f.col b hb,c1],by rw[f.col p hp,c2],by rw[f.col C hC,c3]⟩ rfl ?_) (f.wk fun n hn=>by subst hn;exact MM i (R.len hw));have:=e4 i j hj;have:=N4 j.l;show(zT j.l).length≤32;omega
end
def tB(j:Jb):Jb:=if j.s==0 then{j with s:=1,k:=0} else j
theorem NX{j:Jb}(h:j.s=0):oP j 1=0∧BT j 1=tB j:=by
 have e:oP j 1=0:=by simp[oP,h]
 refine⟨e,?_⟩;rw[BT,e,tB,h];rfl
theorem kH{α:Type}{l:List α}{i:Nat}{x:α}(h:l[i]?=some x):l.set i x=l:=by
 apply List.ext_getElem?;intro n;rw[List.getElem?_set];by_cases e:i=n
 ·subst e;rw[if_pos rfl,if_pos (List.getElem?_eq_some_iff.1 h).1,h]
 ·rw[if_neg e]
theorem D1{h h':Heap}{col:Nat→Nat}{s E E' k:Nat}{v v':AV}{T:List Tk}{L':List En}{bs:List Nat}(hs:s<h.next)(hc:∀c,c∈s::gL E v→col c=2)(S:xy h' s E' v' k T L')(fr:Fr h h' bs)(hb:∀c,c∈bs→c∈s::gL E v)
  (hE:∀c,c∈gL E' v'→(c∈gL E v∧c<h.next)∨h.next≤c):Kc h h' col (dg col h.next 2) (· =2)∧SQ h' (dg col h.next 2) s k T L':=by
 refine⟨Kc.of fr fun c h1 _=>hc c (hb c h1),E',v',S,fun c h1=>?_⟩;rcases List.mem_cons.1 h1 with rfl|h2
 ·rw[cJ hs];exact hc _ (by simp)
 ·rcases hE c h2 with⟨h3,h4⟩|h3
  ·rw[cJ h4];exact hc c (by simp[h3])
  ·exact dL h3
section
variable {h:Heap} {col:Nat→Nat} {r s q k J:Nat} {gv:AV} {D:List Id} {ws:Ws} {gs:List (Nat×Int)} {T:List Tk} {L:List En} {st:St} {Q:AV→Heap→Prop} {t:Int}
theorem Vr{x:Int}{b1 b2 b3 i b:Nat}{j:Jb}(g1:h.get b1=some (.cells [.ptr r 0] true 0))(g2:h.get b2=some (.cells [.int .i64 t] true 0))(g3:h.get b3=some (.cells [.int .i64 x] true 0))
  (R:rz h col r s q k J gv D ws gs st.T st.L)(e1:st.j=wj ws)(e2:st.g=gs.map Prod.snd)(e3:∀y:Id,y∈D↔∃j,st.j[y.1]?=some (some j)∧y.2=j.e)(e4:∀(i:Nat) (j:Jb),st.j[i]?=some (some j)→j.l.length≤32)(hw:ws[i]?=some (some (b,j)))(hL:st.L.length≤900)
  (h1:j.s≥2→Q (.int .i64 130) h)(h2:j.s<2→jq st.T st.L t x≠0→∀h',Fr h h' []→Q (.int .i64 (jq st.T st.L t x)) h')
  (h3:j.s<2→jq st.T st.L t x=0→∀h' aK,RA h' aK r {st with L:=st.L++[(t,x)],j:=st.j.set i (some (tB j))}→Kc h h' col aK RK→Q (.int .i64 0) h'):
  VD fs ms 82 [.ptr b 0,.ptr b1 0,.ptr b2 0,.ptr b3 0] h Q:=by
 have hj:st.j[i]?=some (some j):=by rw[e1];exact hU hw
 have Dl:=R.n4;refine ak (af:=WI) true rfl (Nat.le_of_ble_eq_true rfl) ?_;conv=>whnf
 obtain⟨p,C,o,v,JJ,hC,c1,c2,c3⟩:=R.xU i _ hw;refine DR JJ ?_;conv=>whnf
 refine br (fun hc=>?_) (fun hc=>?_)<;>(try rw[hc])<;>(conv=>whnf)
 ·exact h1 (of_decide_eq_true hc)
 have EO:j.s<2:=Int.not_le.1 (of_decide_eq_false hc);repeat(first|(refine⟨_,bU g1 rfl,?_⟩;conv=>whnf)|(refine⟨_,bU g2 rfl,?_⟩;conv=>whnf)|(refine⟨_,bU g3 rfl,?_⟩;conv=>whnf)|(refine⟨_,bU R.oT.get rfl,?_⟩;conv=>whnf))
 obtain⟨k2,E,v2,S,hcs⟩:=R.stk;refine OQ S (by omega) hL (fun hl h' S' fr=>?_) (fun hl h' E' v' S' fr hE Ug=>?_)
 ·conv=>whnf
  refine qm ((by simpa using hl)) (fun hc=>?_)
  (try rw[hc])
  conv=>whnf
  exact h2 EO hl _ fr
 ·conv=>whnf
  obtain⟨f2,S2⟩:=D1 S.lt hcs S' fr (fun c h=>h) (fun c hc=>.inr (by rw[uh hc];exact hE));have R2:=R.Sy f2 S2;have f3:=f2.wk (K':=RK) fun n hn=>by subst hn;exact⟨by omega,by omega⟩
  obtain⟨p,C,o,v,JJ,hC,c1,c2,c3⟩:=R2.xU i _ hw;refine DR JJ ?_;conv=>whnf
  refine br (fun hc=>?_) (fun hc=>?_)<;>(try rw[hc])<;>(conv=>whnf)
  ·obtain⟨q1,q2⟩:=NX (j:=j) (eq_of_beq hc);refine RP JJ fun h4 J4 jR=>?_;conv=>whnf
   have f5:Kc h' h4 (dg col h.next 2) (dg (dg col h.next 2) h'.next (10+i)) (· =10+i):=Kc.of jR (by intro c hc _;simp at hc;rcases hc with rfl;exact c1);have hp:=JJ.rw.lt;have hb:=JJ.lt;have JB:MK h4 (dg (dg col h.next 2) h'.next (10+i)) i b (tB j):=by
    have J5:JP h4 b p C o v (tB j):=by rw[←q2];exact J4
    exact⟨p,C,o,v,J5,Nat.lt_of_lt_of_le hC f5.next,by rw[f5.col b hb,c1],by rw[f5.col p hp,c2],by rw[f5.col C hC,c3]⟩
   have hq:=h3 EO hl _ _ (RA.GM (st:={st with L:=st.L++[(t,x)]}) R2 e1 e2 e3 e4 hw f5 JB (by rw[tB];split<;>rfl) (by have:=e4 i j hj;rw[tB];split<;>exact this)) (f3.trans (f5.wk fun n hn=>by subst hn;exact MM i (R.len hw)));rw[←q1] at hq;exact hq
  ·have e:tB j=j:=by rw[tB];exact if_neg (by rw[hc];simp)
   refine h3 EO hl _ _ ⟨s,q,k,J,gv,D,ws,gs,R2,?_,e2,fun y=>?_,fun n jn hn=>?_⟩ f3
   ·show st.j.set i (some (tB j))=_;rw[e,←e1];exact kH hj
   ·show _↔∃j',(st.j.set i (some (tB j)))[y.1]?=some (some j')∧_;rw[e,kH hj];exact e3 y
   ·have hn:(st.j.set i (some (tB j)))[n]?=some (some jn):=hn;rw[e,kH hj] at hn;exact e4 n jn hn
theorem wV{x:Int}(R:RA h col r st)(hL:st.L.length≤900)(h0:wH st.T st.j t≠0→∀h',Fr h h' []→Q (.int .i64 (wH st.T st.j t)) h')
  (h1:∀(i:Nat) (j:Jb),t=((i:Nat):Int)→st.j[i]?=some (some j)→j.s≥2→∀h',Fr h h' []→Q (.int .i64 130) h')
  (h2:∀(i:Nat) (j:Jb),t=((i:Nat):Int)→st.j[i]?=some (some j)→j.s<2→jq st.T st.L t x≠0→∀h',Fr h h' []→Q (.int .i64 (jq st.T st.L t x)) h')
  (h3:∀(i:Nat) (j:Jb),t=((i:Nat):Int)→st.j[i]?=some (some j)→j.s<2→jq st.T st.L t x=0→∀h' aK,RA h' aK r {st with L:=st.L++[(t,x)],j:=st.j.set i (some (tB j))}→Kc h h' col aK RK→Q (.int .i64 0) h'):
  VD fs ms 22 [.ptr r 0,.int .i64 t,.int .i64 x] h Q:=by
 obtain⟨s,q,k,J,gv,D,ws,gs,R,e1,e2,e3,e4⟩:=R;have hj:∀{i b:Nat} {j:Jb},ws[i]?=some (some (b,j))→st.j[i]?=some (some j):=fun h=>by rw[e1];exact hU h
 refine ak (af:=Wa) true rfl (Nat.le_of_ble_eq_true rfl) ?_;obtain⟨H1,E1⟩:∃g,g=h.new (.cells [.ptr r 0] true 0):=⟨_,rfl⟩;obtain⟨H2,E2⟩:∃g,g=H1.new (.cells [.int .i64 t] true 0):=⟨_,rfl⟩;obtain⟨H3,E3⟩:∃g,g=H2.new (.cells [.int .i64 x] true 0):=⟨_,rfl⟩;have n1:H1.next=h.next+1:=by rw[E1];rfl
 have n2:H2.next=h.next+2:=by rw[E2];show H1.next+1=_;omega
 have n3:H3.next=h.next+3:=by rw[E3];show H2.next+1=_;omega
 have g1:H3.get h.next=some (.cells [.ptr r 0] true 0):=by rw[E3,ay (by omega),E2,ay (by omega),E1];exact ai
 have g2:H3.get H1.next=some (.cells [.int .i64 t] true 0):=by rw[E3,ay (by omega),E2];exact ai
 have g3:H3.get H2.next=some (.cells [.int .i64 x] true 0):=by rw[E3];exact ai
 have jE:Fr h H3 []:=by rw[E3,E2,E1];exact(((Fr.refl h []).new).new).new
 subst E3;subst E2;subst E1;conv=>whnf
 repeat(first|(refine⟨_,bU g1 rfl,?_⟩;conv=>whnf)|(refine⟨_,bU g2 rfl,?_⟩;conv=>whnf))
 refine vu (R.nil jE) (fun hn=>?_) (fun i b j ht hw=>⟨82,_,rfl,?_⟩)
 ·conv=>whnf
  rw[e1] at h0;exact h0 hn _ jE
 ·refine Vr g1 g2 g3 (R.nil jE) e1 e2 e3 e4 hw hL (fun hs=>?_) (fun hs hl h' fr=>?_) (fun hs hl h' aK R' f=>?_)
  ·conv=>whnf
   exact h1 i j ht (hj hw) hs _ jE
  ·conv=>whnf
   exact h2 i j ht (hj hw) hs hl _ (jE.trans fr)
  ·conv=>whnf
   exact h3 i j ht (hj hw) hs hl _ _ R' ((Kc.same jE).trans f)
end
def sN(L:List En)(t:Int)(j:Jb):Jb:=if(aU L t).isEmpty then xT j else j
theorem RL(j:Jb):(xT j).e=j.e∧(xT j).l=j.l:=by rw[xT];split<;>exact⟨rfl,rfl⟩
section
variable {h:Heap} {col:Nat→Nat} {r s q k J:Nat} {gv:AV} {D:List Id} {ws:Ws} {gs:List (Nat×Int)} {T:List Tk} {L:List En} {st:St} {Q:AV→Heap→Prop} {t:Int}
theorem Kb{i b:Nat}{j:Jb}(R:rz h col r s q k J gv D ws gs st.T st.L)(e1:st.j=wj ws)(e2:st.g=gs.map Prod.snd)(e3:∀y:Id,y∈D↔∃j,st.j[y.1]?=some (some j)∧y.2=j.e)(e4:∀(i:Nat) (j:Jb),st.j[i]?=some (some j)→j.l.length≤32)(hw:ws[i]?=some (some (b,j)))
  (hQ:∀v h' aK,v=.int .i64 (EZ j)→RA h' aK r {st with j:=st.j.set i (some (xT j))}→Kc h h' col aK RK→Q v h'):VD fs ms 88 [.ptr b 0] h Q:=by
 obtain⟨p,C,o,v,JJ,hC,c1,c2,c3⟩:=R.xU i _ hw;refine RQ JJ fun h4 J4 jR=>?_;have f5:Kc h h4 col (dg col h.next (10+i)) (· =10+i):=Kc.of jR (by intro c hc _;simp at hc;rcases hc with rfl;exact c1);have hp:=JJ.rw.lt;have hb:=JJ.lt;obtain⟨l1,l2⟩:=RL j;exact hQ _ h4 _ rfl (RA.GM R e1 e2 e3 e4 hw f5 ⟨p,C,o,v,J4,Nat.lt_of_lt_of_le hC f5.next,by rw[f5.col b hb,c1],by rw[f5.col p hp,c2],by rw[f5.col C hC,c3]⟩ l1 (by rw[l2];exact e4 i j (by rw[e1];exact hU hw))) (f5.wk fun n hn=>by subst hn;exact MM i (R.len hw))
theorem SD{b1 b2 i b:Nat}{j:Jb}(g1:h.get b1=some (.cells [.ptr r 0] true 0))(g2:h.get b2=some (.cells [.int .i64 t] true 0))(n1:b1<h.next∧b1≠s)(n2:b2<h.next∧b2≠s)
  (R:rz h col r s q k J gv D ws gs st.T st.L)(e1:st.j=wj ws)(e2:st.g=gs.map Prod.snd)(e3:∀y:Id,y∈D↔∃j,st.j[y.1]?=some (some j)∧y.2=j.e)(e4:∀(i:Nat) (j:Jb),st.j[i]?=some (some j)→j.l.length≤32)(hw:ws[i]?=some (some (b,j)))(hL:st.L.length≤900)
  (h1:nJ st.T st.L t≠0→∀h',Fr h h' []→Q (.int .i64 (nJ st.T st.L t)) h')
  (h2:nJ st.T st.L t=0→∀n:Nat,n<st.L.length→ej st.L t=((n:Nat):Int)→∀h' aK,RA h' aK r {st with L:=st.L.eraseIdx n,j:=st.j.set i (some (sN (st.L.eraseIdx n) t j))}→Kc h h' col aK RK→Q (.int .i64 0) h'):
  VD fs ms 86 [.ptr b 0,.ptr b1 0,.ptr b2 0] h Q:=by
 have hj:st.j[i]?=some (some j):=by rw[e1];exact hU hw
 have Dl:=R.n4;refine ak (af:=WL) true rfl (Nat.le_of_ble_eq_true rfl) ?_;conv=>whnf
 repeat(first|(refine⟨_,bU g1 rfl,?_⟩;conv=>whnf)|(refine⟨_,bU g2 rfl,?_⟩;conv=>whnf)|(refine⟨_,bU R.oT.get rfl,?_⟩;conv=>whnf))
 obtain⟨k2,E,v2,S,hcs⟩:=R.stk;refine ur S hL (fun hu h' S' fr=>?_) (fun hu n hn hla h' E' v' S' fr hE AL=>?_)
 ·conv=>whnf
  refine qO ((by simpa using hu)) (fun hc=>?_)
  (try rw[hc])
  conv=>whnf
  exact h1 hu _ fr
 ·conv=>whnf
  obtain⟨f2,S2⟩:=D1 S.lt hcs S' fr (fun c h=>by simp at h;simp[h]) (fun c hc=>by
   rw[uh hc];rcases hE with h|h
   ·exact .inl ⟨h,uj S.en h⟩
   ·exact .inr h)
  have R2:=R.Sy f2 S2;have f3:=f2.wk (K':=RK) fun n hn=>by subst hn;exact⟨by omega,by omega⟩
  have g1':=(fr.keep b1 n1.1 (by simpa using n1.2)).trans g1;have Pj:=(fr.keep b2 n2.1 (by simpa using n2.2)).trans g2;repeat(first|(refine⟨_,bU g1' rfl,?_⟩;conv=>whnf)|(refine⟨_,bU Pj rfl,?_⟩;conv=>whnf)|(refine⟨_,bU R2.oT.get rfl,?_⟩;conv=>whnf))
  obtain⟨k1,Dq⟩:=S'.view;have hq:=h2 hu n hn hla;have hL':(st.L.eraseIdx n).length≤1000:=by rw[List.length_eraseIdx];split<;>omega
  generalize st.L.eraseIdx n=L' at*;have lv:aU L' t=[]→sN L' t j=xT j:=fun hz=>by rw[sN,hz];rfl
  have nl:aU L' t≠[]→sN L' t j=j:=fun hz=>by
   rw[sN,if_neg];cases hh:aU L' t with
   |nil=>exact absurd hh hz
   |cons x l=>simp
  refine xp (by simp[cw,nU,AV.cl]) (An _) (Di k2 k1 st.T L' hL' t) (.cons Dq (.cons (.clean rfl) .nil)) (fun he=>?_) ?_
  ·have hz:aU L' t=[]:=by
    have:=congrArg List.length he;rw[cm] at this;exact List.length_eq_zero_iff.1 this
   rw[lv hz] at hq;conv=>whnf
   refine Kb (st:={st with L:=L'}) R2 e1 e2 e3 e4 hw fun v h4 Qk _ R4 f4=>?_;conv=>whnf
   exact hq h4 Qk R4 (f3.trans f4)
  ·have Nv:Fr h' (h'.new (.cells (aa (ints (aU L' t))) true 1)) []:=(Fr.refl h' []).new;conv=>whnf
   rw[cm];refine br (fun hc=>?_) (fun hc=>?_)<;>(try rw[hc])<;>(conv=>whnf)
   ·have hz:aU L' t=[]:=by
     have hc:=eq_of_beq hc;exact List.length_eq_zero_iff.1 (by omega)
    rw[lv hz] at hq;refine Kb (st:={st with L:=L'}) (R2.nil Nv) e1 e2 e3 e4 hw fun v h4 Qk _ R4 f4=>?_;conv=>whnf
    exact hq h4 Qk R4 (f3.trans ((Kc.same Nv).trans f4))
   ·have hz:aU L' t≠[]:=by
     intro hz;rw[hz] at hc;exact absurd hc (by decide)
    rw[nl hz] at hq;have R5:=R2.nil Nv;refine hq _ _ ⟨s,q,k,J,gv,D,ws,gs,R5,?_,e2,fun y=>?_,fun n jn hn=>?_⟩ (f3.trans (Kc.same Nv))
    ·show st.j.set i (some j)=_;rw[kH hj,←e1]
    ·show _↔∃j',(st.j.set i (some j))[y.1]?=some (some j')∧_;rw[kH hj];exact e3 y
    ·have hn:(st.j.set i (some j))[n]?=some (some jn):=hn;rw[kH hj] at hn;exact e4 n jn hn
theorem wW(R:RA h col r st)(hL:st.L.length≤900)(h0:wH st.T st.j t≠0→∀h',Fr h h' []→Q (.int .i64 (wH st.T st.j t)) h')
  (h1:∀(i:Nat) (j:Jb),t=((i:Nat):Int)→st.j[i]?=some (some j)→nJ st.T st.L t≠0→∀h',Fr h h' []→Q (.int .i64 (nJ st.T st.L t)) h')
  (h2:∀(i:Nat) (j:Jb),t=((i:Nat):Int)→st.j[i]?=some (some j)→nJ st.T st.L t=0→∀n:Nat,n<st.L.length→ej st.L t=((n:Nat):Int)→∀h' aK,RA h' aK r {st with L:=st.L.eraseIdx n,j:=st.j.set i (some (sN (st.L.eraseIdx n) t j))}→Kc h h' col aK RK→Q (.int .i64 0) h'):
  VD fs ms 23 [.ptr r 0,.int .i64 t] h Q:=by
 obtain⟨s,q,k,J,gv,D,ws,gs,R,e1,e2,e3,e4⟩:=R;have hj:∀{i b:Nat} {j:Jb},ws[i]?=some (some (b,j))→st.j[i]?=some (some j):=fun h=>by rw[e1];exact hU h
 refine ak (af:=Wb) true rfl (Nat.le_of_ble_eq_true rfl) ?_;obtain⟨H1,E1⟩:∃g,g=h.new (.cells [.ptr r 0] true 0):=⟨_,rfl⟩;obtain⟨H2,E2⟩:∃g,g=H1.new (.cells [.int .i64 t] true 0):=⟨_,rfl⟩;have n1:H1.next=h.next+1:=by rw[E1];rfl
 have n2:H2.next=h.next+2:=by rw[E2];show H1.next+1=_;omega
 have g1:H2.get h.next=some (.cells [.ptr r 0] true 0):=by rw[E2,ay (by omega),E1];exact ai
 have g2:H2.get H1.next=some (.cells [.int .i64 t] true 0):=by rw[E2];exact ai
 have jE:Fr h H2 []:=by rw[E2,E1];exact((Fr.refl h []).new).new
 have hs:s<h.next:=by obtain⟨k2,E,v2,S,hcs⟩:=R.stk;exact S.lt
 have m1:h.next<H2.next∧h.next≠s:=⟨by omega,by omega⟩;have m2:H1.next<H2.next∧H1.next≠s:=⟨by omega,by omega⟩;subst E2;subst E1;conv=>whnf
 repeat(first|(refine⟨_,bU g1 rfl,?_⟩;conv=>whnf)|(refine⟨_,bU g2 rfl,?_⟩;conv=>whnf))
 refine vu (R.nil jE) (fun hn=>?_) (fun i b j ht hw=>⟨86,_,rfl,?_⟩)
 ·conv=>whnf
  rw[e1] at h0;exact h0 hn _ jE
 ·refine SD g1 g2 m1 m2 (R.nil jE) e1 e2 e3 e4 hw hL (fun hu h' fr=>?_) (fun hu n hn hla h' aK R' f=>?_)
  ·conv=>whnf
   exact h1 i j ht (hj hw) hu _ (jE.trans fr)
  ·conv=>whnf
   exact h2 i j ht (hj hw) hu n hn hla _ _ R' ((Kc.same jE).trans f)
end
section
variable {h h':Heap} {col aK:Nat→Nat} {r s q k J:Nat} {gv:AV} {D:List Id} {ws:Ws} {gs:List (Nat×Int)} {T:List Tk} {L:List En} {st:St} {Q:AV→Heap→Prop} {t:Int}
theorem KF{S S':List Nat}{n:Int}{D D':List Id}(hq:ye h q S n D)(hc:∀c,c∈S→col c=3)(HI:ye h' q S' n D')(ow:Own h h' S S'):Kc h h' col (dg col h.next 3) (· =3)∧SP h' (dg col h.next 3) q n D':=by
 refine⟨Kc.of ow.fr fun c h1 _=>hc c h1,S',HI,fun c h1=>?_⟩;rcases ow.new c h1 with h2|h2
 ·rw[cJ (hq.own c h2)];exact hc c h2
 ·exact dL h2
theorem Li{i:Nat}{w:Option (Nat×Jb)}(hi:i<ws.length):Heap.splice ((ws.map (Option.map Prod.fst)).map J0) (i*1) [XJ w]=((ws.set i w).map (Option.map Prod.fst)).map J0:=by
 rw[Nat.mul_one,lM _ _ _ (by simpa using hi),List.map_set,List.map_set];rfl
theorem rz.ws'{i:Nat}{w:Option (Nat×Jb)}(R:rz h col r s q k J gv D ws gs T L)(hi:i<ws.length)(f:Kc h h' col aK (· =4))(hg:h'.get J=some (.cells (Heap.splice ((ws.map (Option.map Prod.fst)).map J0) (i*1) [XJ w]) true 0))
  (hw:∀x,w=some x→MK h' aK i x.1 x.2):rz h' aK r s q k J gv D (ws.set i w) gs T L:=by
 refine⟨R.n4,by rw[List.length_set];exact R.tl,R.gl,?_,R.stk.imp fun _ h=>h.keep f (by decide),R.Ou.keep f (by decide),⟨Nat.lt_of_lt_of_le R.CD.lt f.next,(f.col J R.CD.lt).trans R.CD.co,?_⟩,fun n x hn=>?_,R.Lo.keep f (by decide) (by intro i _;omega)⟩
 ·rw[List.length_set];exact R.oT.keep f (by decide)
 ·rw[Li hi] at hg;exact hg
 ·rw[List.getElem?_set] at hn;by_cases e:i=n
  ·subst e;rw[if_pos rfl,if_pos hi] at hn;exact hw x (Option.some.inj hn)
  ·rw[if_neg e] at hn;exact(R.xU n x hn).keep f (by omega)
theorem Fv(R:RA h col r st)(hL:st.L.length≤900)(h0:wH st.T st.j t≠0→Q (.bool false) h)
  (h1:∀(i:Nat) (j:Jb),t=((i:Nat):Int)→st.j[i]?=some (some j)→∀h' aK,RA h' aK r {st with L:=iB st.L t,j:=st.j.set i none}→Kc h h' col aK RK→Q (.bool true) h'):
  VD fs ms 27 [.ptr r 0,.int .i64 t] h Q:=by
 obtain⟨s,q,k,J,gv,D,ws,gs,R,e1,e2,e3,e4⟩:=R;rw[e1] at h0;refine ak (af:=Wc) true rfl (Nat.le_of_ble_eq_true rfl) ?_;conv=>whnf
 refine za R (fun hn=>?_) (fun i b j ht hw=>?_)
 ·conv=>whnf
  refine qO ((by simpa using hn)) (fun hc=>?_)
  (try rw[hc])
  conv=>whnf
  exact h0 hn
 ·have hj:st.j[i]?=some (some j):=by rw[e1];exact hU hw
  have hi:=(List.getElem?_eq_some_iff.1 hw).1;have Dl:=R.n4;have U6:=R.tl;subst ht;conv=>whnf
  repeat(first|(refine⟨_,bU R.oT.get rfl,?_⟩;conv=>whnf)|(refine⟨_,bL hi,?_⟩;conv=>whnf))
  refine dV (cj R.CD.get rfl (by rw[List.length_map,List.length_map];omega) rfl) fun h2 E2=>?_;have jx:Fr h h2 [J]:=by rw[E2];exact(Fr.refl _ _).set (by simp)
  have f2:Kc h h2 col (dg col h.next 4) (· =4):=Kc.of jx (by intro c hc _;simp at hc;rw[hc];exact R.CD.co);have R2:=R.ws' (w:=none) hi f2 (by rw[E2];exact aC) (fun x hx=>by cases hx);clear E2;generalize dg col h.next 4=xH at*;conv=>whnf
  repeat(first|(refine⟨_,bU R2.oT.get rfl,?_⟩;conv=>whnf))
  obtain⟨X,hq,Xi⟩:=R2.Ou;have hyD:((i,j.e):Id)∈D:=(e3 (i,j.e)).2 ⟨j,hj,rfl⟩;refine He hq _ (fun hno=>(hno (i,j.e) hyD rfl).elim) fun y hy hym h3 X' D' HI Zu ow=>?_;have hyi:y.1=i:=by omega
  obtain⟨f3,S3⟩:=KF hq Xi HI ow;have R3:=R2.VL f3 S3;generalize dg xH h2.next 3=col3 at*;conv=>whnf
  repeat(first|(refine⟨_,bU R3.oT.get rfl,?_⟩;conv=>whnf))
  obtain⟨k2,E,v2,S,hcs⟩:=R3.stk;have ha:eR st.T ((i:Nat):Int)=0:=by
   rw[eR,decide_eq_false (by omega),decide_eq_false (by omega)];rfl
  refine OM S hL ha fun w h4 E' v' S' jR hE=>?_;obtain⟨f4,S4⟩:=D1 S.lt hcs S' jR (fun c h=>h) (fun c hc=>(hE c hc).imp (fun h=>⟨h,uj S.en h⟩) id);have R4:=R3.Sy f4 S4;conv=>whnf
  refine h1 i j rfl hj h4 _ ⟨s,q,k,J,gv,D',_,gs,R4,?_,e2,fun z=>?_,fun n jn hn=>?_⟩ (((f2.wk ?_).trans (f3.wk ?_)).trans (f4.wk ?_))
  ·show st.j.set i none=_;rw[e1,wj,wj,List.map_set];rfl
  ·rw[Zu z,e3 z,hyi];show _↔∃j',(st.j.set i none)[z.1]?=some (some j')∧_;rw[List.getElem?_set];by_cases e:i=z.1
   ·rw[if_pos e];constructor
    ·intro h;exact absurd e.symm h.2
    ·rintro⟨j',hj',_⟩;split at hj'<;>cases hj'
   ·rw[if_neg e];exact⟨fun h=>h.1,fun h=>⟨h,fun e'=>e e'.symm⟩⟩
  ·have hn:(st.j.set i none)[n]?=some (some jn):=hn;rw[List.getElem?_set] at hn;split at hn
   ·split at hn<;>cases hn
   ·exact e4 n jn hn
  ·intro n hn;subst hn;exact⟨by omega,by omega⟩
  ·intro n hn;subst hn;exact⟨by omega,by omega⟩
  ·intro n hn;subst hn;exact⟨by omega,by omega⟩
def XW(st:St)(i:Nat)(j:Jb):Prop:=st.j[i]?=some (some j)∧∀(i':Nat) (j':Jb),st.j[i']?=some (some j')→ah (i',j'.e) (i,j.e)=false
theorem vt(R:RA h col r st)(hL:st.L.length≤900)
  (h0:∀(i:Nat) (j:Jb),st.j[i]?=some (some j)→2≤j.s→(∀(m:Nat) (j':Jb),m<i→st.j[m]?=some (some j')→j'.s<2)→Q (.cD [.int .i64 ((i:Nat):Int),.bool true]) h)
  (h1:(∀(i:Nat) (j:Jb),st.j[i]?≠some (some j))→Q (.cD [.int .i64 0,.bool false]) h)
  (h2:(∀(i:Nat) (j:Jb),st.j[i]?=some (some j)→j.s<2)→∀(i:Nat) (j:Jb),XW st i j→(j.g=true∨lvl st.T i>jQ st.T st.L)→Q (.cD [.int .i64 ((i:Nat):Int),.bool true]) h)
  (h3:(∀(i:Nat) (j:Jb),st.j[i]?=some (some j)→j.s<2)→∀(i:Nat) (j:Jb),XW st i j→j.g=false→¬lvl st.T i>jQ st.T st.L→Q (.cD [.int .i64 (xm st.L).1,.bool (xm st.L).2]) h):VD fs ms 15 [.ptr r 0] h Q:=by
 have R0:=R;obtain⟨s,q,k,J,gv,D,ws,gs,R,e1,e2,e3,e4⟩:=R;have Dl:=R.n4;have U6:=R.tl;refine ak (af:=V7) true rfl (Nat.le_of_ble_eq_true rfl) ?_;conv=>whnf
 refine tc R.oT.get ?_;conv=>whnf
 refine OH R0 (fun hno=>?_) (fun i j hj hs hm=>?_)
 ·conv=>whnf
  repeat(first|(refine⟨_,bU R.oT.get rfl,?_⟩;conv=>whnf))
  obtain⟨X,hq,Xi⟩:=R.Ou;refine KE hq (fun hD=>?_) (fun x hx=>?_)
  ·conv=>whnf
   refine h1 fun i j hj=>?_;have:=(e3 (i,j.e)).2 ⟨j,hj,rfl⟩;rw[hD] at this;simp at this
  ·obtain⟨j,hj,hje⟩:=(e3 x).1 hx.1;have hF:XW st x.1 j:=⟨hj,fun i' j' hj'=>by rw[←hje];exact hx.2 _ ((e3 (i',j'.e)).2 ⟨j',hj',rfl⟩)⟩;rw[e1] at hj;obtain⟨b,hw⟩:=FO hj;have hi:=(List.getElem?_eq_some_iff.1 hw).1;have hg:((ws.map (Option.map Prod.fst)).map J0)[x.1*1]?=some (.ptr b 0):=by
    rw[Nat.mul_one,List.getElem?_map,List.getElem?_map,hw];rfl
   conv=>whnf
   repeat(first|(refine⟨_,bU R.oT.get rfl,?_⟩;conv=>whnf)|(refine⟨_,bL hi,?_⟩;conv=>whnf)|(refine⟨_,bU R.CD.get hg,?_⟩;conv=>whnf))
   obtain⟨p,C,o,v,JJ,_⟩:=R.xU _ _ hw;refine RN JJ ?_;cases Jn:j.g with
   |true=>
    conv=>whnf
    exact h2 hno _ _ hF (.inl Jn)
   |false=>
    conv=>whnf
    repeat(first|(refine⟨_,bU R.oT.get rfl,?_⟩;conv=>whnf))
    refine aO (Fa k st.T (by omega) _) ?_;conv=>whnf
    obtain⟨k2,E,v2,S,hcs⟩:=R.stk;obtain⟨k1,Dq⟩:=S.view;repeat(first|(refine⟨_,bU R.oT.get rfl,?_⟩;conv=>whnf))
    refine jM (OL k2 k1 st.T st.L (by omega) (by omega)) rfl (.cons Dq .nil) ?_;conv=>whnf
    refine⟨nL (by(conv=>whnf);repeat' (first|exact trivial|exact bU R.oT.get rfl|(exact⟨rfl,rfl,.inr ⟨_,_,rfl⟩⟩)|(refine⟨rfl,rfl,.inl ⟨rfl,fun o ho=>?_⟩⟩;cases ho;first|rfl|exact bU R.oT.get rfl)|(exact⟨rfl,.inr ⟨_,_,rfl⟩⟩)|(refine⟨rfl,.inl ⟨rfl,fun i o hi ho=>?_⟩⟩;cases hi;cases ho;first|rfl|exact bU R.oT.get rfl)|(refine And.intro (fun fI=>(Bool.false_ne_true fI).elim) ?_<;>conv=>whnf)|(refine And.intro (fun _=>?_) ?_<;>conv=>whnf)|(refine And.intro ?_ ?_<;>conv=>whnf))),?_⟩;conv=>whnf
    refine br (fun hc=>?_) (fun hc=>?_)<;>(try rw[hc])<;>(conv=>whnf)
    ·exact h2 hno _ _ hF (.inr (of_decide_eq_true hc))
    ·repeat(first|(refine⟨_,bU R.oT.get rfl,?_⟩;conv=>whnf))
     refine jM (VU k2 k1 st.T st.L (by omega)) rfl (.cons Dq .nil) ?_;conv=>whnf
     exact h3 hno _ _ hF Jn (of_decide_eq_false hc)
 ·conv=>whnf
  exact h0 i j hj hs hm
end
theorem Ad{t:Tk}{l:List Op}{a:Int}(h:fq t l a=0):l.length≤32∧0≤a∧a≤1099511627776∧(1≤t.w∧t.w≤t.d∧t.d≤t.p∧t.p≤64)∧IntKind.i64.wrap (a+t.d)=a+t.d:=by
 rw[fq] at h;cases c1:cA [t] with
 |false=>rw[c1] at h;simp at h
 |true=>
  cases c2:decide (a<0) with
  |true=>rw[c1,c2] at h;simp at h
  |false=>
   rw[c1,c2] at h;cases c3:decide (a>1099511627776) with
   |true=>rw[c3] at h;simp at h
   |false=>
    rw[c3] at h;have h:sS l=0:=h;have a0:=of_decide_eq_false c2;have a1:=of_decide_eq_false c3;have ht:1≤t.w∧t.w≤t.d∧t.d≤t.p∧t.p≤64:=by
     simp only[cA,List.all_cons,List.all_nil,Bool.and_true,Bool.and_eq_true,gZ,decide_eq_true_eq] at c1;exact c1.1
    refine⟨?_,by omega,by omega,ht,IntWalk.i64_in _ (by omega)⟩;rw[sS] at h;split at h
    ·cases h
    ·omega
section
variable {h h':Heap} {col aK:Nat→Nat} {r s q k J:Nat} {gv:AV} {D:List Id} {ws:Ws} {gs:List (Nat×Int)} {T:List Tk} {L:List En} {st:St} {Q:AV→Heap→Prop} {t:Int}
theorem rz.Zs{i:Nat}{g:Nat×Int}{tk:Tk}{n:Int}(R:rz h col r s q k J gv D ws gs T L)(hg:gs[i]?=some g)(ht:T[i]?=some tk)(f:Kc h h' col aK (· =20+i))(hb:h'.get g.1=some (gB tk.p n)):rz h' aK r s q k J gv D ws (gs.set i (g.1,n)) T L:=by
 obtain⟨b1,b2,b3,b4⟩:=R.Lo.all i g tk hg ht;have hi:=(List.getElem?_eq_some_iff.1 hg).1;have Dl:=R.n4;have Pw:=R.gl;have em:(gs.set i (g.1,n)).map (fun g=>AV.ptr g.1 0)=gs.map fun g=>AV.ptr g.1 0:=by
  rw[List.map_set];exact kH (by rw[List.getElem?_map,hg];rfl)
 refine⟨R.n4,R.tl,by rw[List.length_set];exact R.gl,R.oT.keep f (by omega),R.stk.imp fun _ h=>h.keep f (by omega),R.Ou.keep f (by omega),R.CD.keep f (by omega),fun n w hw=>(R.xU n w hw).keep f (by have:=R.len hw;omega),?_,fun m g' t' hm ht'=>?_⟩
 ·rcases R.Lo.row with h|⟨G,op,es,a1,a2,a3,a4⟩
  ·left;rw[h];rfl
  ·right;rw[List.length_set,em];exact⟨G,op,es,a1,Nat.lt_of_lt_of_le a2 f.next,(f.col G a2).trans a3,(f.keep G a2 (by rw[a3];omega)).trans a4⟩
 ·rw[List.getElem?_set] at hm;by_cases e:i=m
  ·subst e;rw[if_pos rfl,if_pos hi] at hm;cases hm
   rw[ht] at ht';cases ht'
   exact⟨b1,Nat.lt_of_lt_of_le b2 f.next,(f.col _ b2).trans b3,hb⟩
  ·rw[if_neg e] at hm;obtain⟨a1,a2,a3,a4⟩:=R.Lo.all m g' t' hm ht';exact⟨a1,Nat.lt_of_lt_of_le a2 f.next,(f.col _ a2).trans a3,(f.keep _ a2 (by rw[a3];omega)).trans a4⟩
def Ee(n:Nat):Prop:=RK n∨n=300
theorem Fx{l:List Op}{ov:AV}{bs:List Nat}{now:Int}(R:RA h col r st)(HC:∀c,c∈bs→c<h.next→col c=300)
  (hnew:∀(t0:Tk) (Q:AV→Heap→Prop),(fq t0 l now≠0→∀h',Fr h h' bs→Q (.cD [.bq,.int .i64 (fq t0 l now)]) h')→
   (fq t0 l now=0→∀h' b p C v,JP h' b p C 0 v (mH t0 l now)→h.next≤b→h.next≤p→h.next≤C→(l≠[]→C<h'.next)→Fr h h' bs→Q (.cD [.ptr b 0,.int .i64 0]) h')→VD fs ms 95 [tk t0,ov,.int .i64 now] h Q)
  (h0:eR st.T t≠0→Q (.int .i64 (eR st.T t)) h)
  (h1:∀(i:Nat) (j:Jb),t=((i:Nat):Int)→st.j[i]?=some (some j)→Q (.int .i64 141) h)
  (h2:∀(i:Nat) (tk:Tk),t=((i:Nat):Int)→st.T[i]?=some tk→st.j[i]?=some none→fq tk l now≠0→∀h' aK,RA h' aK r st→Kc h h' col aK Ee→Q (.int .i64 (fq tk l now)) h')
  (h3:∀(i:Nat) (tk:Tk) (n:Int),t=((i:Nat):Int)→st.T[i]?=some tk→st.j[i]?=some none→fq tk l now=0→st.g[i]?=some n→nZ n now≠0→∀h' aK,RA h' aK r st→Kc h h' col aK Ee→Q (.int .i64 (nZ n now)) h')
  (h4:∀(i:Nat) (tk:Tk) (n:Int),t=((i:Nat):Int)→st.T[i]?=some tk→st.j[i]?=some none→fq tk l now=0→st.g[i]?=some n→nZ n now=0→∀h' aK,RA h' aK r {st with j:=st.j.set i (some (mH tk l now)),g:=st.g.set i (I6 tk.p n now)}→Kc h h' col aK Ee→Q (.int .i64 0) h'):
  VD fs ms 28 [.ptr r 0,.int .i64 t,ov,.int .i64 now] h Q:=by
 obtain⟨s,q,k,J,gv,D,ws,gs,R,e1,e2,e3,e4⟩:=R;have Dl:=R.n4;have U6:=R.tl;have Pw:=R.gl;refine ak (af:=Wd) true rfl (Nat.le_of_ble_eq_true rfl) ?_;conv=>whnf
 refine Fw R.oT.get ?_;conv=>whnf
 refine br (fun hc=>?_) (fun hc=>?_)<;>(try rw[hc])<;>(conv=>whnf)
 ·exact h0 (by simpa using hc)
 obtain⟨i,rfl,ZT⟩:=Im (T:=st.T) (t:=t) (by simpa using hc);have hi:i<ws.length:=by omega
 have hwi:ws[i]?=some ws[i]:=List.getElem?_eq_getElem hi;have hg:((ws.map (Option.map Prod.fst)).map J0)[i*1]?=some (XJ ws[i]):=by
  rw[Nat.mul_one,List.getElem?_map,List.getElem?_map,hwi];rfl
 repeat(first|(refine⟨_,bU R.oT.get rfl,?_⟩;conv=>whnf)|(refine⟨_,bL hi,?_⟩;conv=>whnf)|(refine⟨_,bU R.CD.get hg,?_⟩;conv=>whnf))
 cases hws:ws[i] with
 |some w=>
  rw[hws] at hwi;conv=>whnf
  exact h1 i w.2 rfl (by rw[e1];exact hU hwi)
 |none=>
 rw[hws] at hwi;have hj0:st.j[i]?=some none:=by rw[e1];exact FN hwi
 conv=>whnf
 obtain⟨tE,Lu⟩:∃u,u=st.T[i]:=⟨_,rfl⟩;have NK:st.T[i]?=some tE:=by rw[Lu];exact List.getElem?_eq_getElem ZT
 repeat(first|(refine⟨_,bU R.oT.get rfl,?_⟩;conv=>whnf)|(refine⟨_,iH ZT,?_⟩;conv=>whnf))
 rw[←Lu];refine⟨tk tE,rfl,?_⟩;conv=>whnf
 have kbs:∀{h5:Heap} (x:Nat),Fr h h5 bs→Kc h h5 col (dg col h.next x) (· =300):=fun x fr=>⟨fr.next,fun c hc hn=>fr.keep c hc (fun hm=>hn (HC c hm hc)),fun c hc=>cJ hc⟩;refine hnew tE _ (fun hn h5 fr=>?_) (fun hz h5 b p C v JJ hb hp hC hCl fr=>?_)
 ·conv=>whnf
  refine qO ((by simpa using hn)) (fun hc=>?_)
  (try rw[hc])
  conv=>whnf
  have f5:=kbs 300 fr;exact h2 i tE rfl NK hj0 hn _ _ ⟨s,q,k,J,gv,D,ws,gs,R.keep f5 (fun n h1 h2 h=>by omega) (fun i h1 h=>by omega),e1,e2,e3,e4⟩ (f5.wk fun n h=>.inr h)
 obtain⟨ok1,ok2,ok3,ok4,ok5⟩:=Ad hz;have kO:=JJ.rw.lt;have JJ2:JP h5 b p (if l=[] then p else C) 0 v (mH tE l now):=by
  refine⟨JJ.lt,JJ.st,JJ.rw.any (fun hne=>if_neg hne),JJ.n1,?_⟩;by_cases e:l=[]
  ·rw[if_pos e];exact JJ.n1
  ·rw[if_neg e];exact JJ.n2
 have f5:Kc h h5 col (dg col h.next (10+i)) (· =300):=kbs _ fr;have Uf:(if l=[] then p else C)<h5.next∧h.next≤(if l=[] then p else C):=by
  by_cases e:l=[]
  ·rw[if_pos e];exact⟨kO,hp⟩
  ·rw[if_neg e];exact⟨hCl e,hC⟩
 have JB:MK h5 (dg col h.next (10+i)) i b (mH tE l now):=⟨p,_,0,v,JJ2,Uf.1,dL hb,dL hp,dL Uf.2⟩;have R5:=R.keep f5 (fun n h1 h2 h=>by omega) (fun i h1 h=>by omega);generalize dg col h.next (10+i)=xI at*;obtain⟨g,Tg⟩:∃g,gs[i]?=some g:=⟨_,List.getElem?_eq_getElem (by omega)⟩;obtain⟨a1,a2,a3,a4⟩:=R5.Lo.all i g tE Tg NK;have hgrow:∃G op es,gv=.sl G 0 gs.length gs.length op∧h5.get G=some (.cells (gs.map fun g=>.ptr g.1 0) true es):=by
  rcases R5.Lo.row with h|⟨G,op,es,b1,_,_,b2⟩
  ·rw[h] at Tg;simp at Tg
  ·exact⟨G,op,es,b1,b2⟩
 obtain⟨G,op,es,rfl,hG⟩:=hgrow;have hGi:(gs.map fun g=>AV.ptr g.1 0)[i*1]?=some (.ptr g.1 0):=by rw[Nat.mul_one,List.getElem?_map,Tg];rfl
 have hig:i<gs.length:=by omega
 have vi:st.g[i]?=some g.2:=by rw[e2,List.getElem?_map,Tg];rfl
 conv=>whnf
 repeat(first|(refine⟨_,bU R5.oT.get rfl,?_⟩;conv=>whnf)|(refine⟨_,bL hig,?_⟩;conv=>whnf)|(refine⟨_,bU hG hGi,?_⟩;conv=>whnf))
 refine QK a4 a1 fun h6 hb6 T7=>?_;have f6:Kc h5 h6 xI (dg xI h5.next (20+i)) (· =20+i):=Kc.of T7 (by intro c hc _;simp at hc;rw[hc];exact a3);have R6:=R5.Zs Tg NK f6 hb6;have JB6:=JB.keep f6 (by omega);have kf5:Kc h h5 col xI Ee:=f5.wk (fun _ h=>.inr h);have kf6:Kc h5 h6 xI (dg xI h5.next (20+i)) Ee:=f6.wk (fun n hn=>by subst hn;exact .inl ⟨by omega,by omega⟩);generalize dg xI h5.next (20+i)=col6 at*;have eg:(gs.set i (g.1,I6 tE.p g.2 now)).map Prod.snd=st.g.set i (I6 tE.p g.2 now):=by rw[List.map_set,←e2]
 conv=>whnf
 by_cases ha:nZ g.2 now=0
 ·refine qm ((by simpa using ha)) (fun hc=>?_)
  (try rw[hc])
  conv=>whnf
  repeat(first|(refine⟨_,bU R6.oT.get rfl,?_⟩;conv=>whnf)|(refine⟨_,bL hi,?_⟩;conv=>whnf))
  refine dV (cj R6.CD.get rfl (by rw[List.length_map,List.length_map];omega) rfl) fun h7 E7=>?_;have fr7:Fr h6 h7 [J]:=by rw[E7];exact(Fr.refl _ _).set (by simp)
  have f7:Kc h6 h7 col6 (dg col6 h6.next 4) (· =4):=Kc.of fr7 (by intro c hc _;simp at hc;rw[hc];exact R6.CD.co);have JB7:=JB6.keep f7 (by omega);have R7:=R6.ws' (w:=some (b,mH tE l now)) hi f7 (by rw[E7];exact aC) (fun x hx=>by cases hx;exact JB7);have kf7:Kc h6 h7 col6 (dg col6 h6.next 4) Ee:=f7.wk (fun n hn=>by subst hn;exact .inl ⟨by omega,by omega⟩);clear E7;generalize dg col6 h6.next 4=col7 at*;conv=>whnf
  repeat(first|(refine⟨_,bU R7.oT.get rfl,?_⟩;conv=>whnf))
  obtain⟨p',C',o',v',JJ7,_⟩:=JB7;refine E0 JJ7 ?_;conv=>whnf
  obtain⟨X,hq,Xi⟩:=R7.Ou;have je:(mH tE l now).e=now+tE.d:=ok5;have Z5:∀y∈D,y.1≠i:=by
   intro y hy e;obtain⟨j',hj',_⟩:=(e3 y).1 hy;rw[e,hj0] at hj';cases hj'
  refine So hq _ _ (fun h=>by omega) (fun _ h=>by rw[je] at h;omega) (fun _ _ y hy he=>(Z5 y hy (by omega)).elim) (fun _ n hn _ _ h8 X' D' HI Zu ow=>?_);have hni:n=i:=by omega
  subst hni;obtain⟨f8,S8⟩:=KF hq Xi HI ow;have R8:=R7.VL f8 S8;have kf8:=f8.wk (K':=Ee) (fun n hn=>by subst hn;exact .inl ⟨by omega,by omega⟩);conv=>whnf
  refine⟨nL (by(conv=>whnf);repeat' (first|exact trivial|exact bU R7.oT.get rfl|(exact⟨rfl,rfl,.inr ⟨_,_,rfl⟩⟩)|(refine⟨rfl,rfl,.inl ⟨rfl,fun o ho=>?_⟩⟩;cases ho;first|rfl|exact bU R7.oT.get rfl)|(exact⟨rfl,.inr ⟨_,_,rfl⟩⟩)|(refine⟨rfl,.inl ⟨rfl,fun i o hi ho=>?_⟩⟩;cases hi;cases ho;first|rfl|exact bU R7.oT.get rfl)|(refine And.intro (fun fI=>(Bool.false_ne_true fI).elim) ?_<;>conv=>whnf)|(refine And.intro (fun _=>?_) ?_<;>conv=>whnf)|(refine And.intro ?_ ?_<;>conv=>whnf))),?_⟩;conv=>whnf
  refine h4 n tE g.2 rfl NK hj0 hz vi ha h8 _ ⟨s,q,k,J,_,D',_,_,R8,?_,eg.symm,fun z=>?_,fun m jm hm=>?_⟩ (((kf5.trans kf6).trans kf7).trans kf8)
  ·show st.j.set n _=_;rw[Lg,←e1]
  ·rw[Zu z,e3 z];show _↔∃j',(st.j.set n (some (mH tE l now)))[z.1]?=some (some j')∧_;rw[List.getElem?_set];have hl:n<st.j.length:=(List.getElem?_eq_some_iff.1 hj0).1;by_cases e:n=z.1
   ·rw[if_pos e,if_pos hl];constructor
    ·rintro(⟨j',hj',_⟩|hz')
     ·rw[←e,hj0] at hj';cases hj'
     ·exact⟨_,rfl,by rw[hz']⟩
    ·rintro⟨j',hj',he⟩;cases hj'
     exact .inr (Prod.ext e.symm he)
   ·rw[if_neg e];constructor
    ·rintro(h|hz')
     ·exact h
     ·rw[hz'] at e;exact absurd rfl e
    ·exact .inl
  ·have hm:(st.j.set n (some (mH tE l now)))[m]?=some (some jm):=hm;rw[List.getElem?_set] at hm;split at hm
   ·split at hm
    ·cases hm
     exact ok1
    ·cases hm
   ·exact e4 m jm hm
 ·refine qO ((by simpa using ha)) (fun hc=>?_)
  (try rw[hc])
  conv=>whnf
  have e:I6 tE.p g.2 now=g.2:=by rw[I6,if_neg ha]
  refine h3 i tE g.2 rfl NK hj0 hz vi ha h6 col6 ⟨s,q,k,J,_,D,ws,_,R6,e1,?_,e3,e4⟩ (kf5.trans kf6);rw[eg,e];exact(kH vi).symm
end
theorem QD{h H:Heap}{b:Nat}(f:Fr h H []):Fr h (dQ [b] H) [b]:=by
 refine⟨f.next,fun c hc hn=>?_⟩;have hne:c≠b:=by simpa using hn
 show(H.del b).get c=_;rw[eD hne];exact f.keep c hc (by simp)
theorem NY{h:Heap}{Q:AV→Heap→Prop}{t:Tk}{l:List Op}{a:Int}{B es:Nat}(hl:l.length<2^62)(hB:B<h.next)(hg:h.get B=some (.cells (aa (ops l)) true es))
  (h0:fq t l a≠0→∀h',Fr h h' [B]→Q (.cD [.bq,.int .i64 (fq t l a)]) h')
  (h1:fq t l a=0→∀h' b p C v,JP h' b p C 0 v (mH t l a)→h.next≤b→h.next≤p→h.next≤C→(l≠[]→C<h'.next)→Fr h h' [B]→Q (.cD [.ptr b 0,.int .i64 0]) h'):VD fs ms 95 [tk t,.sl B 0 l.length l.length false,.int .i64 a] h Q:=by
 refine ak (af:=TD) true rfl (Nat.le_of_ble_eq_true rfl) ?_;conv=>whnf
 refine⟨_,Ads.xA (n:=8) ai (Nat.le_refl _),?_⟩;conv=>whnf
 let H2:=(h.new (.cells (tk t).cells true 0)).new (.cells (tk t).cells true 0)
 let H3:=H2.new (.cells [.int .i64 0] true 0)
 have tV:Fr h H3 []:=(((Fr.refl h []).new (x:=_)).new (x:=_)).new (x:=_);have n1:h.next<H2.next:=Nat.lt_succ_of_lt (Nat.lt_succ_self _);have n0:h.next<H3.next:=Nat.lt_succ_of_lt n1;have g0:H3.get h.next=some (.cells (tk t).cells true 0):=by
  rw[ay n1,ay (Nat.lt_succ_self _)];exact ai
 have g1:H3.get (h.next+1)=some (.cells (tk t).cells true 0):=by
  rw[ay (Nat.lt_succ_self _)];exact ai
 have gB3:H3.get B=some (.cells (aa (ops l)++[]) true es):=by rw[List.append_nil];exact(tV.keep B hB (by simp)).trans hg
 have Zk:Fr h (dQ [B] H3) [B]:=QD tV;have gd:(dQ [B] H3).get h.next=some (.cells (tk t).cells true 0):=by
  show(H3.del B).get h.next=_;rw[eD (by omega)];exact g0
 refine jM (vc 2 2 [t] [0] (by simp) (by simp)) rfl (.cons (.row (s:=8) trivial g1 rfl rfl rfl (Nat.le_refl _) (by omega) (fun _=>rfl) (fun _=>rfl) (bW _)) (.cons (.row (s:=1) trivial (ai (h:=H2)) rfl rfl rfl (Nat.le_refl _) (by omega) (fun _=>rfl) (fun _=>rfl) (bS _)) .nil)) ?_;rw[ID];have e1:fq t l a=if !cA [t]||decide (a<0) then 2 else if decide (a>1099511627776) then 10 else sS l:=rfl
 cases c1:cA [t] with
 |false=>
  rw[c1] at e1;rw[e1] at h0;conv=>whnf
  exact h0 (by simp) _ (tV.wk (by simp))
 |true=>
 rw[c1] at e1;conv=>whnf
 refine br (fun hc=>?_) (fun hc=>?_)<;>(try rw[hc])<;>(conv=>whnf)
 ·rw[hc] at e1;rw[e1] at h0;exact h0 (by simp) _ (tV.wk (by simp))
 rw[hc,Bool.not_true,Bool.false_or,if_neg (by simp)] at e1;refine br (fun hc=>?_) (fun hc=>?_)<;>(try rw[hc])<;>(conv=>whnf)
 ·rw[if_pos hc] at e1;rw[e1] at h0;exact h0 (by simp) _ (tV.wk (by simp))
 rw[if_neg (by rw[hc];simp)] at e1;rw[e1] at h0 h1;refine Lc [B] (.cons (qw (List.mem_singleton.2 rfl) gB3 rfl (w9 l) (og l).symm (Nat.le_refl _) (o5 l)) .nil) ?_;refine Ib (fun h=>by cases h) hl (fun hn h2 fr=>?_) (fun hz h2 p C v r hp hC hlt fr=>?_)
 ·conv=>whnf
  refine qO ((by simpa using hn)) (fun hc=>?_)
  (try rw[hc])
  conv=>whnf
  exact h0 hn _ (Zk.trans (fr.wk (by simp)))
 ·conv=>whnf
  refine⟨_,Ads.xA (n:=8) ((fr.keep _ n0 (by simp)).trans gd) (Nat.le_refl _),?_⟩;conv=>whnf
  refine⟨_,bU ((fr.keep _ n0 (by simp)).trans gd) rfl,?_⟩;conv=>whnf
  have jE:Fr h (h2.new (jB p (mH t l a))) [B]:=(Zk.trans (fr.wk (by simp))).new;have r3:Rw (h2.new (jB p (mH t l a))) p (if l=[] then h2.next+1 else C) 0 [.bool true] v l:=(r.keep ((Fr.refl _ []).new)).any (fun hn=>if_neg hn);have m0:=(Zk.trans (fr.wk (cs:=[B]) (by simp))).next
  refine h1 hz _ h2.next p _ v ⟨Nat.lt_succ_self _,ai,r3,?_,?_⟩ ?_ ?_ ?_ ?_ jE
  ·have:=r.lt;omega
  ·by_cases hn:l=[]
   ·rw[if_pos hn];omega
   ·rw[if_neg hn];have:=hlt hn;omega
  ·exact m0
  ·exact Nat.le_trans tV.next hp
  ·have:=Nat.le_trans tV.next hC;by_cases hn:l=[]
   ·rw[if_pos hn];omega
   ·rw[if_neg hn];omega
  ·intro hn;rw[if_neg hn];exact Nat.lt_succ_of_lt (hlt hn)
theorem KN{h:Heap}{col:Nat→Nat}{r B es:Nat}{st:St}{Q:AV→Heap→Prop}{t now:Int}{l:List Op}(R:RA h col r st)(hl:l.length<2^62)(hB:B<h.next)(ZM:col B=300)(hg:h.get B=some (.cells (aa (ops l)) true es))
  (h0:eR st.T t≠0→Q (.int .i64 (eR st.T t)) h)
  (h1:∀(i:Nat) (j:Jb),t=((i:Nat):Int)→st.j[i]?=some (some j)→Q (.int .i64 141) h)
  (h2:∀(i:Nat) (tk:Tk),t=((i:Nat):Int)→st.T[i]?=some tk→st.j[i]?=some none→fq tk l now≠0→∀h' aK,RA h' aK r st→Kc h h' col aK Ee→Q (.int .i64 (fq tk l now)) h')
  (h3:∀(i:Nat) (tk:Tk) (n:Int),t=((i:Nat):Int)→st.T[i]?=some tk→st.j[i]?=some none→fq tk l now=0→st.g[i]?=some n→nZ n now≠0→∀h' aK,RA h' aK r st→Kc h h' col aK Ee→Q (.int .i64 (nZ n now)) h')
  (h4:∀(i:Nat) (tk:Tk) (n:Int),t=((i:Nat):Int)→st.T[i]?=some tk→st.j[i]?=some none→fq tk l now=0→st.g[i]?=some n→nZ n now=0→∀h' aK,RA h' aK r {st with j:=st.j.set i (some (mH tk l now)),g:=st.g.set i (I6 tk.p n now)}→Kc h h' col aK Ee→Q (.int .i64 0) h'):
  VD fs ms 28 [.ptr r 0,.int .i64 t,.sl B 0 l.length l.length false,.int .i64 now] h Q:=
 Fx R (bs:=[B]) (by simpa using fun _=>ZM) (fun t0 Q a b=>NY hl hB hg a b) h0 h1 h2 h3 h4
end Ir
end Go.Proofs.YtnlcabhfkpafmaaGreat
