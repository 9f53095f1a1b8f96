/-
  Tape: commands that may be written.
-/
import Derived.Test.YtmnolnoeibhjgaaGreatVTpP
set_option maxRecDepth 100000
set_option linter.unusedSimpArgs false
set_option linter.unusedVariables false
namespace Go.Proofs.YtmnolnoeibhjgaaGreat
open Go Ads
namespace Ir
abbrev sV(n:Int):Int:=Ds n 9007199254740991
def wo(o:nq):nq:=⟨sV o.k,sV o.n,o.s.take 16⟩
def FL(l:List nq):List nq:=l.map wo
def FM(x:bu):bu:=⟨sV x.k,sV x.p,sV x.t,sV x.n,sV x.m,cR (FL (x.ops.take 32)).length,FL (x.ops.take 32)⟩
def xC(l:List bu):List bu:=(l.take 40).map FM
theorem zo(n m:Nat):(bif decide ((m:Int)<(n:Int)) then(m:Int) else(n:Int))=((min n m:Nat):Int):=by
 by_cases h:(m:Int)<n
 ·rw[decide_eq_true h];simp only[cond_true];omega
 ·rw[decide_eq_false h];simp only[cond_false];omega
theorem Fq{s:List UInt8}{n:Nat}(hn:n≤s.length):pV (.gN false true) [.str s,.int .i64 ((n:Nat):Int)]=some (.str (s.take n)):=by
 have hb:bounds s.length s.length false true false [.int .i64 ((n:Nat):Int)]=some (0,n,s.length):=by
  have h0:asNat (.int .i64 ((n:Nat):Int))=some n:=by simp[asNat]
  simp only[bounds,h0,Option.map_some];rw[Nat.ble_eq_true_of_le (Nat.zero_le _),Nat.ble_eq_true_of_le hn,Nat.ble_eq_true_of_le (Nat.le_refl _)];rfl
 show Ads.pI (.gN false true) [.str s,.int .i64 ((n:Nat):Int)]=_;simp only[Ads.pI,hb,List.drop_zero]
theorem Iy(s:List UInt8):pV (.gN false true) [.str s,.int .i64 (bif decide ((16:Int)<(s.length:Int)) then(16:Int) else(s.length:Int))]=some (.str (s.take 16)):=by
 have h2:(bif decide ((16:Int)<(s.length:Int)) then(16:Int) else(s.length:Int))=((min s.length 16:Nat):Int):=zo s.length 16;rw[h2,Fq (Nat.min_le_left _ _)]
 congr 2
 rw[Nat.min_comm,←List.take_take]
 congr 1
 simp
theorem IA{a:Bool}{P n o:Nat}(h:P<n):(a||tL n [.ptr P o])=true:=by simp[tL,Dc,Nat.ble_eq_true_of_le (show P+1≤n from h)]
structure WS(hb:Heap)(P:Nat)(x:bu)(h:Heap)(v:AV)(acc:List nq):Prop where
 fr:Fr hb h [P]
 gP:h.get P=some (.cells [.int .i64 (sV x.k),.int .i64 (sV x.p),.int .i64 (sV x.t),.int .i64 (sV x.n),.int .i64 (sV x.m),v] true 0)
 gr:GR 3 hb.next h v (b9 acc)
theorem IN{l:List nq}{j:Nat}(hj:j<l.length):FL (l.take (j+1))=FL (l.take j)++[wo l[j]]:=by
 rw[dz hj,FL,List.map_append];rfl
theorem k8(n:Int):PC fs ms 39 [.int .i64 n,.int .i64 9007199254740991] (.int .i64 (sV n)):=Ji n 9007199254740991 (by decide) (by decide)
theorem YU{x:bu}{hb:Heap}{P:Nat}(hP:P<hb.next){a0 a3 a4:AV}(hx:x.ops.length<2^62){B:Nat}{Q:AX→Env→Heap→Prop}(hQ:∀e' h' v,WS hb P x h' v (FL (x.ops.take 32))→bQ e' [(0,a0),(3,a3),(4,a4),(6,.ptr P 0)]→Q (.exit 2) e' h'):
  ∀(m j:Nat) (h:Heap) (env:Env) (v:AV),min 32 x.ops.length-j=m→j≤min 32 x.ops.length→WS hb P x h v (FL (x.ops.take j))→bQ env [(0,a0),(3,a3),(4,a4),(5,.fp (dG x).cells 0),(6,.ptr P 0),(7,.int .i64 ((j:Nat):Int))]→
   VC fs ms B false (.loop fX) env h Q:=by
 intro m;induction m with
 |zero=>
  intro j h env v hm hj hs bg;have hjl:j=min 32 x.ops.length:=by omega
  have ht:x.ops.take j=x.ops.take 32:=by rw[hjl,←List.take_take];congr 1;simp
  rw[ht] at hs;generalize hJ:((j:Nat):Int)=J at bg;refine ay 6 _ bg ?_;refine aH (aa (z:=true) ?_);conv=>whnf
  refine⟨.fz x.kk (b9 x.ops),rfl,?_⟩;conv=>whnf
  refine br (fun hc=>?_) (fun hc=>?_)<;>(try rw[hc])<;>(conv=>whnf)
  ·have JO:j<x.ops.length:=by have:=of_decide_eq_true hc;rw[bq] at this;omega
   refine k7 (by simp;omega) (fun hc=>?_)
   (try rw[hc])
   conv=>whnf
   exact hQ _ h v hs ⟨rfl,rfl,rfl,rfl,trivial⟩
  ·exact hQ _ h v hs ⟨rfl,rfl,rfl,rfl,trivial⟩
 |succ m ih=>
  intro j h env v hm hj hs bg;have hlt:j<x.ops.length:=by omega
  have h32:j<32:=by omega
  have lV:=nJ (k:=x.kk) hlt;have hU:=IN hlt;generalize hX:x.ops[j]=o at*;obtain⟨fr,gP,gr⟩:=hs;have Zs:(FL (x.ops.take j)).length≤32:=by rw[FL,List.length_map,List.length_take];omega
  generalize hacc:FL (x.ops.take j)=acc at*;generalize hJ:((j:Nat):Int)=J at bg lV;refine ay 6 _ bg ?_;refine aH (an true ?_);conv=>whnf
  refine⟨.fz x.kk (b9 x.ops),rfl,?_⟩;conv=>whnf
  refine ny (by simp[bq];omega) (fun hc=>?_)
  (try rw[hc])
  conv=>whnf
  refine ny (by simp;omega) (fun hc=>?_)
  (try rw[hc])
  conv=>whnf
  refine aJ (aR (an true ?_));conv=>whnf
  refine⟨.fz x.kk (b9 x.ops),rfl,?_⟩;conv=>whnf
  refine⟨_,lV,?_⟩;conv=>whnf
  refine⟨top o,rfl,?_⟩;conv=>whnf
  refine cm (bX au rfl (Nat.le_refl _) rfl) fun h1 e1=>?_;have f1:Fr h h1 []:=by rw[e1];exact((Fr.refl h []).new).gM (Nat.le_refl _)
  have g1:h1.get h.next=some (.cells (top o).cells true 0):=by rw[e1,aA];rfl
  clear e1;conv=>whnf
  refine tP [h.next] (i:=8) (v:=.ptr h.next 0) (v':=.fp (top o).cells 0) rfl (.ptr' (by simp) g1 (.clean (gB (show(top o).cl=true from rfl)))) ?_;have frn:=fr.next;have Qb:=(dm (bs:=[h.next]) (g:=h1) P).trans ((if_neg (by simp;omega)).trans ((f1.keep P (by omega) (by simp)).trans gP));have IW:GR 3 hb.next (cg [h.next] h1) v (b9 acc):=by
   rcases gr with h|⟨hne,b,b1,b2,b3,b4⟩
   ·exact .inl h
   ·exact .inr ⟨hne,b,b1,by rw[bF];exact Nat.lt_of_lt_of_le b2 f1.next,b3,(dm ..).trans ((if_neg (by simp;omega)).trans ((f1.keep b b2 (by simp)).trans b4))⟩
  have iu:Fr hb (cg [h.next] h1) [P]:=⟨by rw[bF];have:=f1.next;omega,fun c hc hn=>(dm ..).trans ((if_neg (by simp;omega)).trans ((f1.keep c (by omega) (by simp)).trans (fr.keep c hc hn)))⟩;generalize cg [h.next] h1=H at*;refine ay 6 [(0,a0),(3,a3),(4,a4),(5,.fp (dG x).cells 0),(6,.ptr P 0),(7,.int .i64 J),(8,.fp (top o).cells 0)] ⟨rfl,rfl,rfl,rfl,rfl,rfl,by rw[Tr.aT,if_pos rfl],trivial⟩ ?_;refine aa (z:=true) ?_;conv=>whnf
  refine⟨v,cM Qb rfl,?_⟩;conv=>whnf
  refine⟨.int .i64 o.k,rfl,?_⟩;conv=>whnf
  refine cC (k8 _) ?_;conv=>whnf
  refine⟨.int .i64 o.n,rfl,?_⟩;conv=>whnf
  refine cC (k8 _) ?_;conv=>whnf
  refine⟨.str o.s,rfl,?_⟩;conv=>whnf
  refine⟨.str o.s,rfl,?_⟩;conv=>whnf
  refine⟨_,Iy o.s,?_⟩;conv=>whnf
  obtain⟨v',g',ha,FB,Qk,lS⟩:=GR.app (bytes:=32) IW (by have:=iu.next;omega) (x:=top (wo o)) rfl rfl (dK acc) (by rw[bq];omega) (by rw[bq];omega);refine⟨_,_,ha,?_⟩;obtain⟨c1,c2,c3⟩:=GR.one FB;conv=>whnf
  have hdt:v.dt=true:=by
   rcases IW with⟨_,rfl⟩|⟨_,b,_,_,rfl,_⟩
   ·rfl
   ·rfl
  refine cm (bX ((lS P hP).trans Qb) c2 (by show 0+0+5+1≤6;omega) c3) fun h4 e4=>?_;conv=>whnf
  have hPH:P<H.next:=Nat.lt_of_lt_of_le hP iu.next;refine⟨wO (by(conv=>whnf);repeat' (first|exact trivial|(exact⟨rfl,rfl,.inr ⟨_,_,rfl⟩⟩)|(refine⟨IA hPH,rfl,.inl ⟨hdt,fun o ho=>?_⟩⟩;cases ho;first|rfl|exact cM Qb rfl)|(exact⟨rfl,.inr ⟨_,_,rfl⟩⟩)|(refine⟨rfl,.inl ⟨hdt,fun i o hi ho=>?_⟩⟩;cases hi;cases ho;first|rfl|exact cM Qb rfl)|(refine⟨rfl,rfl,.inl ⟨rfl,fun o ho=>?_⟩⟩;cases ho;first|rfl|exact cM Qb rfl)|(refine⟨rfl,.inl ⟨rfl,fun i o hi ho=>?_⟩⟩;cases hi;cases ho;first|rfl|exact cM Qb rfl)|(refine And.intro (fun gb=>(Bool.false_ne_true gb).elim) ?_<;>conv=>whnf)|(refine And.intro (fun _=>?_) ?_<;>conv=>whnf)|(refine And.intro ?_ ?_<;>conv=>whnf))),?_⟩;conv=>whnf
  have Xb:h4.get P=some (.cells [.int .i64 (sV x.k),.int .i64 (sV x.p),.int .i64 (sV x.t),.int .i64 (sV x.n),.int .i64 (sV x.m),v'] true 0):=by rw[e4,aA,c1];rfl
  have f4:Fr g' h4 [P]:=by rw[e4];exact(Fr.refl g' _).set (by simp)
  clear e4;refine aa (z:=true) ?_;conv=>whnf
  subst hJ;refine ih (j+1) h4 _ v' (by omega) (by omega) ⟨⟨by have:=f4.next;have:=iu.next;omega,fun c hc hn=>(f4.keep c (by have:=iu.next;omega) hn).trans ((lS c hc).trans (iu.keep c hc hn))⟩,Xb,?_⟩ ⟨rfl,rfl,rfl,rfl,rfl,bC (by omega),trivial⟩;rw[hU,b9,List.map_append];exact FB.keep f4 (by simpa using hP)
theorem IQ{l:List bu}{j:Nat}(hj:j<l.length)(Rk:j<40):dA (xC (l.take (j+1)))=dA (xC (l.take j))++[dG (FM l[j])]:=by
 have h1:(l.take (j+1)).take 40=l.take (j+1):=List.take_of_length_le (by rw[List.length_take];omega);have h2:(l.take j).take 40=l.take j:=List.take_of_length_le (by rw[List.length_take];omega);rw[xC,xC,h1,h2,dz hj,List.map_append,dA,List.map_append];rfl
theorem Ep(l:List bu):(xC l).length=min 40 l.length:=by simp[xC]
theorem PS{h0:Heap}{k:Nat}{l:List bu}(hl:l.length<2^62)(nH:∀x∈l,x.ops.length<2^62){B:Nat}{Q:AX→Env→Heap→Prop}(hQ:∀e' h' v,GR 6 h0.next h' v (dA (xC l))→Fr h0 h' []→Tr.get e' 3=some v→Q (.exit 0) e' h'):
  ∀(m j:Nat) (h:Heap) (env:Env) (v:AV),min 40 l.length-j=m→j≤min 40 l.length→GR 6 h0.next h v (dA (xC (l.take j)))→Fr h0 h []→
   bQ env [(0,.fz k (dA l)),(3,v),(4,.int .i64 ((j:Nat):Int))]→
   VC fs ms B false (.loop fW) env h Q:=by
 intro m;induction m with
 |zero=>
  intro j h env v hm hj hr fr bg;have hjl:j=min 40 l.length:=by omega
  have ht:xC (l.take j)=xC l:=by
   unfold xC;rw[hjl,List.take_take]
   congr 1
   rw[show min 40 (min 40 l.length)=min 40 l.length by omega,←List.take_take];simp
  rw[ht] at hr;generalize hJ:((j:Nat):Int)=J at bg;refine ay 5 _ bg ?_;refine aH (aa (z:=true) ?_);conv=>whnf
  refine br (fun hc=>?_) (fun hc=>?_)<;>(try rw[hc])<;>(conv=>whnf)
  ·have JO:j<l.length:=by have:=of_decide_eq_true hc;rw[cD] at this;omega
   refine k7 (by simp;omega) (fun hc=>?_)
   (try rw[hc])
   conv=>whnf
   exact hQ _ h v hr fr rfl
  ·exact hQ _ h v hr fr rfl
 |succ m ih=>
  intro j h env v hm hj hr fr bg;have hlt:j<l.length:=by omega
  have Rk:j<40:=by omega
  have lV:=nI (k:=k) hlt;have Qn:=nH _ (List.getElem_mem hlt);have hU:=IQ hlt Rk;have Sc:=Ep (l.take j);generalize hX:l[j]=x at*;generalize hJ:((j:Nat):Int)=J at bg lV;refine ay 6 _ bg ?_;refine aH (an true ?_);conv=>whnf
  refine ny (by simp[cD];omega) (fun hc=>?_)
  (try rw[hc])
  conv=>whnf
  refine ny (by simp;omega) (fun hc=>?_)
  (try rw[hc])
  conv=>whnf
  refine aJ (aR (an true ?_));conv=>whnf
  refine⟨_,lV,?_⟩;conv=>whnf
  refine⟨dG x,rfl,?_⟩;conv=>whnf
  refine cm (bX au rfl (Nat.le_refl _) rfl) fun h1 e1=>?_;have f1:Fr h h1 []:=by rw[e1];exact((Fr.refl h []).new).gM (Nat.le_refl _)
  have g1:h1.get h.next=some (.cells (dG x).cells true 0):=by rw[e1,aA];rfl
  clear e1;conv=>whnf
  refine tP [h.next] (i:=5) (v:=.ptr h.next 0) (v':=.fp (dG x).cells 0) rfl (.ptr' (by simp) g1 (.clean (gB (mq x)))) ?_;have frn:=fr.next;have iu:Fr h0 (cg [h.next] h1) []:=gY (by simp;omega) (fr.trans f1);have kN:GR 6 h0.next (cg [h.next] h1) v (dA (xC (l.take j))):=by
   rcases hr with h|⟨hne,b,b1,b2,b3,b4⟩
   ·exact .inl h
   ·exact .inr ⟨hne,b,b1,by rw[bF];exact Nat.lt_of_lt_of_le b2 f1.next,b3,(dm ..).trans ((if_neg (by simp;omega)).trans ((f1.keep b b2 (by simp)).trans b4))⟩
  generalize cg [h.next] h1=H at*;refine ay 6 [(0,.fz k (dA l)),(3,v),(4,.int .i64 J),(5,.fp (dG x).cells 0)] ⟨rfl,rfl,rfl,by rw[Tr.aT,if_pos rfl],trivial⟩ ?_;refine an true ?_;conv=>whnf
  refine⟨.int .i64 x.k,rfl,?_⟩;conv=>whnf
  refine cC (k8 _) ?_;conv=>whnf
  refine⟨.int .i64 x.p,rfl,?_⟩;conv=>whnf
  refine cC (k8 _) ?_;conv=>whnf
  refine⟨.int .i64 x.t,rfl,?_⟩;conv=>whnf
  refine cC (k8 _) ?_;conv=>whnf
  refine⟨.int .i64 x.n,rfl,?_⟩;conv=>whnf
  refine cC (k8 _) ?_;conv=>whnf
  refine⟨.int .i64 x.m,rfl,?_⟩;conv=>whnf
  refine cC (k8 _) ?_;conv=>whnf
  refine cm (bX au rfl (Nat.le_refl _) rfl) fun h3 e3=>?_;have f3:Fr H h3 []:=by rw[e3];exact((Fr.refl H []).new).gM (Nat.le_refl _)
  have gP:h3.get H.next=some (.cells [.int .i64 (sV x.k),.int .i64 (sV x.p),.int .i64 (sV x.t),.int .i64 (sV x.n),.int .i64 (sV x.m),.az] true 0):=by rw[e3,aA];rfl
  have n3:h3.next=H.next+1:=by rw[e3];rfl
  conv=>whnf
  refine⟨wO (by(conv=>whnf);repeat' (first|exact trivial|(exact⟨rfl,rfl,.inr ⟨_,_,rfl⟩⟩)|(refine⟨rfl,rfl,.inl ⟨rfl,fun o ho=>?_⟩⟩;cases ho;first|rfl)|(exact⟨rfl,.inr ⟨_,_,rfl⟩⟩)|(refine⟨rfl,.inl ⟨rfl,fun i o hi ho=>?_⟩⟩;cases hi;cases ho;first|rfl)|(refine And.intro (fun gb=>(Bool.false_ne_true gb).elim) ?_<;>conv=>whnf)|(refine And.intro (fun _=>?_) ?_<;>conv=>whnf)|(refine And.intro ?_ ?_<;>conv=>whnf))),?_⟩;conv=>whnf
  clear e3;refine aJ (an true ?_);conv=>whnf
  refine aR ?_;refine YU (hb:=h3) (P:=H.next) (x:=x) (a0:=.fz k (dA l)) (a3:=v) (a4:=.int .i64 J) (by omega) Qn ?_ (min 32 x.ops.length) 0 h3 _ .az rfl (Nat.zero_le _) ⟨Fr.refl h3 _,gP,.inl ⟨rfl,rfl⟩⟩ ⟨rfl,rfl,rfl,rfl,rfl,rfl,trivial⟩;intro e' h4 w ⟨f4,Xb,IX⟩ ha;show VC fs ms _ false _ _ _ _;obtain⟨bs,hf,Ac⟩:=IX.BX (dK _) (iM _);rw[bq] at hf;refine tP (H.next::bs) (i:=6) (v:=.ptr H.next 0) (v':=.fp (dG (FM x)).cells 0) ha.2.2.2.1 (.ptr' (by simp) Xb (.cons (.clean rfl) (.cons (.clean rfl) (.cons (.clean rfl) (.cons (.clean rfl) (.cons (.clean rfl) (.cons (jr.mono (by simp;intro b hb;exact .inr hb) hf) .nil))))))) ?_;have hge:∀b∈H.next::bs,H.next≤b:=by
   intro b hb;rcases List.mem_cons.1 hb with rfl|hb
   ·exact Nat.le_refl _
   ·have:=Ac b hb;omega
  have Cu:Fr h0 (cg (H.next::bs) h4) []:=gY (fun b hb=>by have:=hge b hb;have:=iu.next;omega) ⟨by have:=iu.next;have:=f4.next;omega,fun c hc _=>(f4.keep c (by have:=iu.next;omega) (by have:=iu.next;simp;omega)).trans ((f3.keep c (by have:=iu.next;omega) (by simp)).trans (iu.keep c hc (by simp)))⟩;have B4:GR 6 h0.next (cg (H.next::bs) h4) v (dA (xC (l.take j))):=by
   rcases kN with h|⟨hne,b,b1,b2,b3,b4⟩
   ·exact .inl h
   ·exact .inr ⟨hne,b,b1,by rw[bF];have:=f4.next;omega,b3,(dm ..).trans ((if_neg (fun hb=>by have:=hge b hb;omega)).trans ((f4.keep b (by omega) (by simp;omega)).trans ((f3.keep b b2 (by simp)).trans b4)))⟩
  generalize cg (H.next::bs) h4=G at*;refine ay 6 [(0,.fz k (dA l)),(3,v),(4,.int .i64 J),(6,.fp (dG (FM x)).cells 0)] ⟨by rw[Tr.aT,if_neg (by decide)];exact ha.1,by rw[Tr.aT,if_neg (by decide)];exact ha.2.1,by rw[Tr.aT,if_neg (by decide)];exact ha.2.2.1,by rw[Tr.aT,if_pos rfl],trivial⟩ ?_;refine aa (z:=true) ?_;conv=>whnf
  refine⟨dG (FM x),rfl,?_⟩;conv=>whnf
  have Yj:(l.take j).length≤40:=by rw[List.length_take];omega
  obtain⟨v',g',JL,GH,Ud,Qi⟩:=GR.app (bytes:=64) B4 Cu.next (x:=dG (FM x)) rfl rfl (iX _) (by rw[cD,Sc];omega) (by rw[cD,Sc];omega);refine⟨_,_,JL,?_⟩;conv=>whnf
  refine aa (z:=true) ?_;conv=>whnf
  subst hJ;refine ih (j+1) g' _ v' (by omega) (by omega) (by rw[hU];exact GH) (Cu.app Ud (fun c hc=>Qi c hc)) ⟨rfl,rfl,bC (by omega),trivial⟩
theorem PR{k:Nat}{l:List bu}(hl:l.length<2^62)(nH:∀x∈l,x.ops.length<2^62){h:Heap}{Q:AV→Heap→Prop}(hQ:∀h',Fr h h' []→Q (.fz (cR (xC l).length) (dA (xC l))) h'):VD fs ms 20 [.fz k (dA l)] h Q:=by
 refine me ?_;refine bY (af:=S9) rfl (Nat.le_of_ble_eq_true rfl) ?_;conv=>whnf
 refine an true ?_;conv=>whnf
 refine an true ?_;conv=>whnf
 refine aJ (an true ?_);conv=>whnf
 refine aR ?_;refine PS (h0:=h) hl nH ?_ (min 40 l.length) 0 h _ .az rfl (Nat.zero_le _) (.inl ⟨by simp[xC,dA],rfl⟩) (Fr.refl _ _) ⟨rfl,rfl,rfl,trivial⟩;intro e' h' v hr fr h3;show VC fs ms h.next false _ _ _ _;refine ay 3 [(3,v)] ⟨h3,trivial⟩ (aa (z:=true) ?_);conv=>whnf
 obtain⟨bs,hf,Ac⟩:=hr.BX (iX _) (pT _);rw[cD] at hf;exact⟨bs,_,hf,hQ _ (gY Ac fr)⟩
end Ir
end Go.Proofs.YtmnolnoeibhjgaaGreat
