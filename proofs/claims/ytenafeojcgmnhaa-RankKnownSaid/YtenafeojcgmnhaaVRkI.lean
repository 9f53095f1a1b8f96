/-
  Rank: step, same; the contract of RankPlays.
-/
import Derived.Test.YtenafeojcgmnhaaVRkR
import Derived.Test.YtenafeojcgmnhaaVRkT
set_option maxRecDepth 100000
set_option linter.unusedSimpArgs false
set_option linter.unusedVariables false
namespace Go.Proofs.Ytenafeojcgmnhaa
open Go Ads
namespace Ir
theorem Iu{h:Heap}{k p m:Nat}{S T:List Nat}{L M:List Id}(H:BR h k p S L m T M)(d:zX){Q:AV→Heap→Prop}(hQ:∀h' S' L' T' M',BR h' k p S' L' m T' M'→Q (.bool true) h'):
  VD fs ms 22 [.ptr k 0,.ptr m 0,rdv d] h Q:=by
 obtain⟨kd,id,key⟩:=d;refine bC (af:=RF) rfl (Nat.le_of_ble_eq_true rfl) ?_;conv=>whnf
 refine aa true ?_;conv=>whnf
 have kC:Fr h (h.new (.cells (rdv (kd,id,key)).cells true 0)) []:=(Fr.refl h []).new;have gs:(h.new (.cells (rdv (kd,id,key)).cells true 0)).get h.next=some (.cells [.int .i64 kd,.int .i64 id,.int .i64 key] true 0):=aB;have hls:h.next<(h.new (.cells (rdv (kd,id,key)).cells true 0)).next:=Nat.lt_succ_self _
 have H1:=H.keep kC;have nS:h.next∉S:=fun hm=>by obtain⟨P,hr⟩:=H.ra;have:=hr.own.2.2 _ hm;omega
 have nT:h.next∉T:=fun hm=>by have:=H.rm.own _ hm;omega
 obtain⟨h1,e1⟩:∃h1,h1=h.new (.cells (rdv (kd,id,key)).cells true 0):=⟨_,rfl⟩;rw[←e1] at kC gs hls H1;change VC fs ms _ _ _ _ (h.new (.cells (rdv (kd,id,key)).cells true 0)) _
 rw[←e1];clear e1;refine aJ (aa true ?_);conv=>whnf
 refine⟨_,bQ gs rfl,?_⟩;conv=>whnf
 refine aZ (gP kd 4 (by omega) (by omega)) ?_;conv=>whnf
 generalize eR kd 4=r;refine aq (z:=true) ?_;conv=>whnf
 refine br (fun hc=>?_) (fun hc=>?_)<;>(try rw[hc])<;>(conv=>whnf)
 ·refine⟨_,bQ gs rfl,?_⟩;conv=>whnf
  refine⟨_,bQ gs rfl,?_⟩;conv=>whnf
  obtain⟨e,he⟩:=H1.put id key;refine he fun h2 S2 o2 k2=>?_;have BN:h2.get h.next=some (.cells [.int .i64 kd,.int .i64 id,.int .i64 key] true 0):=by rw[o2.fr.keep _ hls nS];exact gs
  conv=>whnf
  refine⟨_,bQ BN rfl,?_⟩;conv=>whnf
  refine⟨_,bQ BN rfl,?_⟩;conv=>whnf
  refine k2 fun h3 L3 T3 M3 H3 f3=>?_;conv=>whnf
  refine⟨eA (by(conv=>whnf);repeat' (first|exact trivial|(exact bQ gs rfl)|(exact bQ BN rfl)|(exact⟨rfl,rfl,.inr ⟨_,_,rfl⟩⟩)|(refine⟨rfl,rfl,.inl ⟨rfl,fun o ho=>?_⟩⟩;cases ho;first|rfl|(exact bQ gs rfl)|(exact bQ BN rfl))|(exact⟨rfl,.inr ⟨_,_,rfl⟩⟩)|(refine⟨rfl,.inl ⟨rfl,fun i o hi ho=>?_⟩⟩;cases hi;cases ho;first|rfl|(exact bQ gs rfl)|(exact bQ BN rfl))|(refine And.intro (fun dY=>(Bool.false_ne_true dY).elim) ?_<;>conv=>whnf)|(refine And.intro (fun _=>?_) ?_<;>conv=>whnf)|(refine And.intro ?_ ?_<;>conv=>whnf))),?_⟩;rw[show(e==e)=true by simp];exact hQ h3 _ _ _ _ H3
 ·refine br (fun hc=>?_) (fun hc=>?_)<;>(try rw[hc])<;>(conv=>whnf)
  ·refine⟨_,bQ gs rfl,?_⟩;conv=>whnf
   refine⟨_,bQ gs rfl,?_⟩;conv=>whnf
   obtain⟨e,he⟩:=H1.lower id key;refine he fun h2 S2 o2 k2=>?_;have BN:h2.get h.next=some (.cells [.int .i64 kd,.int .i64 id,.int .i64 key] true 0):=by rw[o2.fr.keep _ hls nS];exact gs
   conv=>whnf
   refine⟨_,bQ BN rfl,?_⟩;conv=>whnf
   refine⟨_,bQ BN rfl,?_⟩;conv=>whnf
   refine k2 fun h3 L3 T3 M3 H3 f3=>?_;conv=>whnf
   refine⟨eA (by(conv=>whnf);repeat' (first|exact trivial|(exact bQ gs rfl)|(exact bQ BN rfl)|(exact⟨rfl,rfl,.inr ⟨_,_,rfl⟩⟩)|(refine⟨rfl,rfl,.inl ⟨rfl,fun o ho=>?_⟩⟩;cases ho;first|rfl|(exact bQ gs rfl)|(exact bQ BN rfl))|(exact⟨rfl,.inr ⟨_,_,rfl⟩⟩)|(refine⟨rfl,.inl ⟨rfl,fun i o hi ho=>?_⟩⟩;cases hi;cases ho;first|rfl|(exact bQ gs rfl)|(exact bQ BN rfl))|(refine And.intro (fun dY=>(Bool.false_ne_true dY).elim) ?_<;>conv=>whnf)|(refine And.intro (fun _=>?_) ?_<;>conv=>whnf)|(refine And.intro ?_ ?_<;>conv=>whnf))),?_⟩;rw[show(e==e)=true by simp];exact hQ h3 _ _ _ _ H3
  ·refine br (fun hc=>?_) (fun hc=>?_)<;>(try rw[hc])<;>(conv=>whnf)
   ·refine⟨_,bQ gs rfl,?_⟩;conv=>whnf
    obtain⟨e,he⟩:=H1.remove id;refine he fun h2 S2 o2 k2=>?_;have BN:h2.get h.next=some (.cells [.int .i64 kd,.int .i64 id,.int .i64 key] true 0):=by rw[o2.fr.keep _ hls nS];exact gs
    conv=>whnf
    refine⟨_,bQ BN rfl,?_⟩;conv=>whnf
    refine k2 fun h3 L3 T3 M3 H3 f3=>?_;conv=>whnf
    refine⟨eA (by(conv=>whnf);repeat' (first|exact trivial|(exact bQ gs rfl)|(exact bQ BN rfl)|(exact⟨rfl,rfl,.inr ⟨_,_,rfl⟩⟩)|(refine⟨rfl,rfl,.inl ⟨rfl,fun o ho=>?_⟩⟩;cases ho;first|rfl|(exact bQ gs rfl)|(exact bQ BN rfl))|(exact⟨rfl,.inr ⟨_,_,rfl⟩⟩)|(refine⟨rfl,.inl ⟨rfl,fun i o hi ho=>?_⟩⟩;cases hi;cases ho;first|rfl|(exact bQ gs rfl)|(exact bQ BN rfl))|(refine And.intro (fun dY=>(Bool.false_ne_true dY).elim) ?_<;>conv=>whnf)|(refine And.intro (fun _=>?_) ?_<;>conv=>whnf)|(refine And.intro ?_ ?_<;>conv=>whnf))),?_⟩;rw[show(e==e)=true by simp];exact hQ h3 _ _ _ _ H3
   ·refine aq (z:=true) ?_;conv=>whnf
    obtain⟨x,y,c,he⟩:=H1.pop;refine he fun h2 S2 o2 k2=>?_;conv=>whnf
    refine k2 fun h3 L3 T3 M3 H3 f3=>?_;conv=>whnf
    rw[show(x==x)=true by simp];conv=>whnf
    rw[show(y==y)=true by simp];conv=>whnf
    rw[show(c==c)=true by simp];exact hQ h3 _ _ _ _ H3
variable {h:Heap} {k p m:Nat} {S T:List Nat} {L M:List Id}
theorem BR.first(H:BR h k p S L m T M):∃(x y:Int) (c:Bool),(∀{Q:AV→Heap→Prop},Q (.cg [.int .i64 x,.int .i64 y,.bool c]) h→VD fs ms 25 [.ptr k 0] h Q)∧
  ∀{Q:AV→Heap→Prop},Q (.cg [.int .i64 x,.int .i64 y,.bool c]) h→VD fs ms 55 [.ptr m 0] h Q:=by
 obtain⟨P,hr⟩:=H.ra;have hlen:=H.len;by_cases hM:M=[]
 ·have hL:L=[]:=List.eq_nil_of_length_eq_zero (by rw[←hlen,hM];rfl);refine⟨0,0,false,fun{Q} hQ=>uz hr (fun _=>hQ) fun h0=>?_,fun{Q} hQ=>tE H.rm (fun _=>hQ) fun h0=>?_⟩
  ·rw[hL] at h0;simp at h0
  ·rw[hM] at h0;simp at h0
 ·have h0:0<M.length:=List.length_pos_iff.2 hM;refine⟨((gI M 0).1:Int),(gI M 0).2,true,fun{Q} hQ=>uz hr (fun hL=>?_) fun hl=>?_,fun{Q} hQ=>tE H.rm (fun h=>absurd h hM) fun _=>hQ⟩
  ·rw[hL] at hlen;simp at hlen;exact absurd hlen hM
  ·rw[H.f (Qq hr.hp hl) h0];exact hQ
theorem BR.key(H:BR h k p S L m T M)(id:Int):∃(x:Int) (c:Bool),(∀{Q:AV→Heap→Prop},Q (.cg [.int .i64 x,.bool c]) h→VD fs ms 26 [.ptr k 0,.int .i64 id] h Q)∧
  ∀{Q:AV→Heap→Prop},Q (.cg [.int .i64 x,.bool c]) h→VD fs ms 56 [.ptr m 0,.int .i64 id] h Q:=by
 obtain⟨P,hr⟩:=H.ra;by_cases c2:∃y∈L,id=y.1
 ·obtain⟨y,hy,e⟩:=c2;refine⟨y.2,true,fun{Q} hQ=>Ho hr id (fun hn=>absurd e (hn y hy)) fun z e2 hz=>?_,fun{Q} hQ=>HG H.rm H.vq id (fun hn=>absurd e.symm (hn y ((H.mem y).2 hy))) fun z hz e2=>?_⟩
  ·have:z=y:=hr.pl.uniq hz hy (by omega);rw[this];exact hQ
  ·have:z=y:=hr.pl.uniq ((H.mem z).1 hz) hy (by omega);rw[this];exact hQ
 ·refine⟨0,false,fun{Q} hQ=>Ho hr id (fun _=>hQ) fun z e2 hz=>absurd ⟨z,hz,e2⟩ c2,fun{Q} hQ=>HG H.rm H.vq id (fun _=>hQ) fun z hz e2=>absurd ⟨z,(H.mem z).1 hz,e2.symm⟩ c2⟩
theorem Ib(H:BR h k p S L m T M)(id:Int){Q:AV→Heap→Prop}(hQ:Q (.bool true) h):VD fs ms 23 [.ptr k 0,.ptr m 0,.int .i64 id] h Q:=by
 obtain⟨P,hr⟩:=H.ra;obtain⟨x,y,c,f1,f2⟩:=H.first;obtain⟨u,d,g1,g2⟩:=H.key id;refine bC (af:=RG) rfl (Nat.le_of_ble_eq_true rfl) ?_;conv=>whnf
 refine aa true ?_;conv=>whnf
 refine aa true ?_;conv=>whnf
 refine f1 ?_;conv=>whnf
 refine aa true ?_;conv=>whnf
 refine f2 ?_;conv=>whnf
 refine aa true ?_;conv=>whnf
 refine g1 ?_;conv=>whnf
 refine aa true ?_;conv=>whnf
 refine g2 ?_;conv=>whnf
 refine an 5 [(0,.ptr k 0),(1,.ptr m 0),(7,.int .i64 x),(8,.int .i64 y),(9,.bool c),(10,.int .i64 x),(11,.int .i64 y),(12,.bool c),(13,.int .i64 u),(14,.bool d),(15,.int .i64 u),(16,.bool d)] ⟨rfl,rfl,rfl,rfl,rfl,rfl,rfl,rfl,rfl,rfl,rfl,rfl,trivial⟩ ?_;refine aJ (Dd (jx 3 (b9 (z:=true) ?_)));conv=>whnf
 rw[show(x==x)=true by simp];refine jx 5 (b9 (z:=true) ?_);conv=>whnf
 rw[show(y==y)=true by simp];refine jx 5 (b9 (z:=true) ?_);conv=>whnf
 rw[show(c==c)=true by simp];refine jx 5 (b9 (z:=true) ?_);conv=>whnf
 rw[show(u==u)=true by simp];refine jx 5 (b9 (z:=true) ?_);conv=>whnf
 rw[show(d==d)=true by simp];refine b9 (z:=true) ?_;conv=>whnf
 refine Hy hr ?_;conv=>whnf
 refine Nn H.rm ?_;rw[H.len];conv=>whnf
 rw[show(((L.length:Nat):Int)==((L.length:Nat):Int))=true by simp];exact⟨_,_,_,.ret,hQ⟩
theorem JT{D:List Int}{i:Nat}(hi:i<D.length)(x:Int):Heap.splice (ints D) (i*1) [.int .i64 x]=ints (D.set i x):=by
 rw[Nat.mul_one,iG _ _ _ (by rw[ck];exact hi),ints,ints,List.map_set]
theorem dr.pt{lo:Nat}{h:Heap}{v:AV}{l:List Int}(hr:dr lo h v l){i:Nat}(hi:i<l.length)(x:Int):∃b,pV (.ak 1) [v,.int .i64 ((i:Nat):Int)]=some (.ptr b (i*1))∧∃h',eV (.store 1) [.ptr b (i*1),.int .i64 x] h=some (.undef,h')∧dr lo h' v (l.set i x)∧h'.next=h.next∧∀c,c<lo→h'.get c=h.get c:=by
 rcases hr with⟨rfl,rfl⟩|⟨b,h1,h2,rfl,h4⟩
 ·simp at hi
 ·refine⟨b,bh hi,_,fQ (n:=1) (v:=.int .i64 x) h4 rfl (by rw[ck,Nat.mul_one];exact hi) rfl,.inr ⟨b,h1,h2,by rw[List.length_set],?_⟩,rfl,fun c hc=>bw (by omega)⟩;rw[aV];have:=JT hi x;exact congrArg (fun z=>some (cw.cells z true 1)) this
def Rb(z:Nat)(l:List zX)(k m i:Nat):List (Nat×AV):=[(0,.fz z (p9 l)),(3,.ptr k 0),(4,.ptr m 0),(5,.int .i64 ((i:Nat):Int))]
theorem Re{z:Nat}{l:List zX}{k p m:Nat}{B:Nat}{Q:AX→Env→Heap→Prop}(hl:l.length<2^62)(hQ:∀e' h' S L T M,BR h' k p S L m T M→aW e' [(3,.ptr k 0),(4,.ptr m 0)]→Q (.exit 0) e' h'):
  ∀(n i:Nat) (h:Heap) (S:List Nat) (L:List Id) (T:List Nat) (M:List Id) (env:Env),l.length-i=n→i≤l.length→BR h k p S L m T M→aW env (Rb z l k m i)→
  VC fs ms B false (.loop fM) env h Q:=by
 intro n;induction n using Nat.strongRecOn with
 |ind n ih=>
 intro i h S L T M env hn hi H bM;refine an 4 _ bM ?_;refine cK (aa true ?_);unfold Rb;generalize hJ:((i:Nat):Int)=J;conv=>whnf
 rw[qc];refine br (fun hc=>?_) (fun hc=>?_)<;>(try rw[hc])<;>(conv=>whnf)
 ·have hlt:i<l.length:=by have:=of_decide_eq_true hc;omega
  refine br (fun hc=>?_) (fun hc=>?_)<;>(try rw[hc])<;>(conv=>whnf)
  ·subst hJ;have xM:=DO (k:=z) hlt;generalize l[i]=d at xM;refine aJ (aG ?_);refine aq (z:=true) ?_;conv=>whnf
   refine⟨_,xM,?_⟩;conv=>whnf
   refine⟨rdv d,rfl,?_⟩;conv=>whnf
   refine Iu H d fun h1 S1 L1 T1 M1 H1=>?_;conv=>whnf
   refine⟨_,xM,?_⟩;conv=>whnf
   refine⟨.int .i64 d.2.1,rfl,?_⟩;conv=>whnf
   refine Ib H1 _ ?_;conv=>whnf
   refine aq (z:=true) ?_;conv=>whnf
   exact ih (l.length-(i+1)) (by omega) (i+1) h1 S1 L1 T1 M1 _ rfl (by omega) H1 (by repeat' (first|exact trivial|refine And.intro (by first|with_reducible_and_instances rfl|(refine Eq.trans (b:=some (AV.int .i64 _)) rfl (congrArg (fun z=>some (AV.int .i64 z)) ?_);first|omega|(simp(disch:=omega) only[IntWalk.i64_in]<;>omega))|rfl) ?_))
  ·subst hJ;exact hQ _ h S L T M H (by repeat' (first|exact trivial|refine And.intro (by first|with_reducible_and_instances rfl|(refine Eq.trans (b:=some (AV.int .i64 _)) rfl (congrArg (fun z=>some (AV.int .i64 z)) ?_);first|omega|(simp(disch:=omega) only[IntWalk.i64_in]<;>omega))|rfl) ?_))
 ·subst hJ;exact hQ _ h S L T M H (by repeat' (first|exact trivial|refine And.intro (by first|with_reducible_and_instances rfl|(refine Eq.trans (b:=some (AV.int .i64 _)) rfl (congrArg (fun z=>some (AV.int .i64 z)) ?_);first|omega|(simp(disch:=omega) only[IntWalk.i64_in]<;>omega))|rfl) ?_))
theorem Rf{k m:Nat}{lo:Nat}{h0:Heap}{v:AV}{N:Nat}{B:Nat}{Q:AX→Env→Heap→Prop}(hlo:h0.next≤lo)(hN:N≤1000)
  (hQ:∀h' e',aW e' [(3,.ptr k 0),(4,.ptr m 0)]→Fr h0 h' []→Q (.exit 2) e' h'):
  ∀(n i:Nat) (h:Heap) (l:List Int) (env:Env),N-i=n→i≤N→l.length=N→dr lo h v l→Fr h0 h []→aW env [(3,.ptr k 0),(4,.ptr m 0),(6,v),(7,.int .i64 ((i:Nat):Int))]→
  VC fs ms B false (.loop fN) env h Q:=by
 intro n;induction n using Nat.strongRecOn with
 |ind n ih=>
 intro i h l env hk hi hl hr kC bM;refine an 4 _ bM ?_;refine bB (z:=true) ?_;conv=>whnf
 refine cM hr.read.1 ?_;conv=>whnf
 refine br (fun hc=>?_) (fun hc=>?_)<;>(try rw[hc])<;>(conv=>whnf)
 ·have hlt:i<l.length:=by have:=of_decide_eq_true hc;omega
  obtain⟨b,p1,h1,p2,p3,p4,p5⟩:=hr.pt hlt (-1);refine⟨_,p1,?_⟩;conv=>whnf
  refine bA p2 fun wz e1=>?_;subst e1;conv=>whnf
  refine ih (N-(i+1)) (by omega) (i+1) wz _ _ rfl (by omega) (by rw[List.length_set];exact hl) p3 ⟨by have:=kC.next;omega,fun c hc _=>by rw[p5 c (by omega)];exact kC.keep c hc (by simp)⟩ (by repeat' (first|exact trivial|refine And.intro (by first|with_reducible_and_instances rfl|(refine Eq.trans (b:=some (AV.int .i64 _)) rfl (congrArg (fun z=>some (AV.int .i64 z)) ?_);first|omega|(simp(disch:=omega) only[IntWalk.i64_in]<;>omega))|rfl) ?_))
 ·exact hQ h _ (by repeat' (first|exact trivial|refine And.intro (by first|with_reducible_and_instances rfl|(refine Eq.trans (b:=some (AV.int .i64 _)) rfl (congrArg (fun z=>some (AV.int .i64 z)) ?_);first|omega|(simp(disch:=omega) only[IntWalk.i64_in]<;>omega))|rfl) ?_)) kC
theorem oR{z:Nat}{l:List zX}(hl:l.length<2^62):PC fs ms 5 [.fz z (p9 l)] (.bool true):=by
 refine j9 (by simp[iy,AV.cl,yD]) rfl ?_;generalize hK:(fun(u:AV) (_:Heap)=>u=.bool true)=K;have BO:∀h,K (.bool true) h:=fun h=>by subst hK;rfl
 clear hK;generalize(⟨0,.nil⟩:Heap)=h0;refine bC (af:=C5) rfl (Nat.le_of_ble_eq_true rfl) ?_;conv=>whnf
 refine aa true ?_;conv=>whnf
 refine aa true ?_;conv=>whnf
 refine vT fun h1 k p hr hk hp fr=>?_;conv=>whnf
 refine J9 fun h2 m hm hmn iI=>?_;conv=>whnf
 have H:BR h2 k p [k,p] [] m [m] []:=by
  refine⟨⟨_,hr.keep iI (by simp)⟩,hm,List.Pairwise.nil,fun y=>Iff.rfl,fun c hc tw=>?_⟩;have:=hr.own.2.2 c hc;simp at tw;omega
 refine aJ (aa true ?_);conv=>whnf
 refine aG ?_;refine Re hl ?_ _ 0 h2 _ _ _ _ _ rfl (Nat.zero_le _) H (by repeat' (first|exact trivial|refine And.intro (by first|with_reducible_and_instances rfl|(refine Eq.trans (b:=some (AV.int .i64 _)) rfl (congrArg (fun z=>some (AV.int .i64 z)) ?_);first|omega|(simp(disch:=omega) only[IntWalk.i64_in]<;>omega))|rfl) ?_));intro e3 h3 S L T M H3 Mt;show VC fs ms _ _ _ _ _ _;obtain⟨P3,r3⟩:=H3.ra;refine an 4 _ Mt (aa true ?_);conv=>whnf
 refine uC r3 fun h4 v4 M4 i4 o4 wL=>?_;conv=>whnf
 have H4:=H3.keep wL;refine aa true ?_;conv=>whnf
 have xK:=r3.pl.mj;have hM:M4=M:=sN Dl yu M4 M o4.S7 H3.pw fun y=>by rw[o4.mem,H3.mem]
 refine HF H4.rm H4.vq fun h5 v5 i5 DD=>?_;conv=>whnf
 have V9:=i4.keep DD;have H5:=H4.keep DD;obtain⟨z1,f1⟩:=V9.fz;obtain⟨z2,f2⟩:=i5.fz;have VQ:=o4.len;subst hM;refine jv (jg z1 z2 (oe M4) (by rw[dw];omega)) rfl (.cons f1 (.cons f2 .nil)) ?_;conv=>whnf
 refine aJ (aa true ?_);conv=>whnf
 refine aG ?_;refine Rf (h0:=h3) (lo:=h3.next) (N:=(oe M4).length) (Nat.le_refl _) (by rw[dw];omega) ?_ _ 0 h5 (oe M4) _ rfl (Nat.zero_le _) rfl V9 (wL.trans DD) (by repeat' (first|exact trivial|refine And.intro (by first|with_reducible_and_instances rfl|(refine Eq.trans (b:=some (AV.int .i64 _)) rfl (congrArg (fun z=>some (AV.int .i64 z)) ?_);first|omega|(simp(disch:=omega) only[IntWalk.i64_in]<;>omega))|rfl) ?_));intro h6 e6 he6 Ma;show VC fs ms _ _ _ _ _ _;have H6:=H3.keep Ma;obtain⟨P6,r6⟩:=H6.ra;refine an 4 _ he6 (aq (z:=true) ?_);conv=>whnf
 refine uC r6 fun h7 v7 M7 i7 o7 fr7=>?_;conv=>whnf
 have H7:=H6.keep fr7;have hM7:M7=M4:=sN Dl yu M7 M4 o7.S7 H6.pw fun y=>by rw[o7.mem,H6.mem]
 refine HF H7.rm H7.vq fun h8 v8 i8 fr8=>?_;conv=>whnf
 have i7':=i7.keep fr8;obtain⟨z3,f3⟩:=i7'.fz;obtain⟨z4,f4⟩:=i8.fz;subst hM7;refine jv (jg z3 z4 (oe M7) (by rw[dw];omega)) rfl (.cons f3 (.cons f4 .nil)) ?_;conv=>whnf
 refine aZ qi ?_;conv=>whnf
 exact BO _
end Ir
end Go.Proofs.Ytenafeojcgmnhaa
