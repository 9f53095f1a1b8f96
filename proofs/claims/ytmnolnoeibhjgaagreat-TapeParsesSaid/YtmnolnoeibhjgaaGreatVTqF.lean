/-
  Tape: the good ones, in rows that may be written.
-/
import Derived.Test.YtmnolnoeibhjgaaGreatVTpO
set_option maxRecDepth 100000
set_option linter.unusedSimpArgs false
set_option linter.unusedVariables false
namespace Go.Proofs.YtmnolnoeibhjgaaGreat
open Go Ads
namespace Ir
def I7(p:bu×AV):AV:=.agg [.int .i64 p.1.k,.int .i64 p.1.p,.int .i64 p.1.t,.int .i64 p.1.n,.int .i64 p.1.m,p.2]
def pL(l:List (bu×AV)):List AV:=l.map I7
theorem lD(l:List (bu×AV)):(pL l).length=l.length:=List.length_map ..
theorem m6(l:List (bu×AV)):aL 6 (pL l)=true:=ef (enc:=I7) (fun _=>rfl) l
theorem GR.es{s lo:Nat}{h:Heap}{v:AV}{M:List AV}(hr:GR s lo h v M){d:Nat}(ho:gx v d):∃cs,h.get d=some (.cells cs true s):=by
 obtain⟨o,n,c,p,rfl⟩:=ho;rcases hr with⟨_,h⟩|⟨_,b,h1,h2,h3,h4⟩
 ·simp at h
 ·simp only[AV.sl.injEq] at h3;obtain⟨rfl,_⟩:=h3;exact⟨_,h4⟩
theorem GR.mv{s lo:Nat}{h h':Heap}{v:AV}{M:List AV}(hr:GR s lo h v M)(hn:h.next≤h'.next)(hk:∀d,gx v d→h'.get d=h.get d):GR s lo h' v M:=by
 rcases hr with h|⟨hne,b,h1,h2,rfl,h4⟩
 ·exact .inl h
 ·exact .inr ⟨hne,b,h1,by omega,rfl,(hk b ⟨_,_,_,_,rfl⟩).trans h4⟩
structure NL(lo:Nat)(h:Heap)(v:AV)(W:List (bu×AV))(i:Nat):Prop where
 row:GR 6 lo h v (pL W)
 live:∀j (hj:j<W.length),i≤j→GR 3 lo h W[j].2 (b9 W[j].1.ops)
 low:∀j (hj:j<W.length) b,gx W[j].2 b→lo≤b∧b<h.next∧∃cs,cs.length=W[j].1.ops.length*3∧h.get b=some (.cells cs true 3)
 val:∀j (hj:j<W.length),(W[j].1.ops=[]∧W[j].2=.az)∨∃b,W[j].2=.sl b 0 W[j].1.ops.length W[j].1.ops.length true
 EG:∀j k (hj:j<W.length) (hk:k<W.length) b,gx W[j].2 b→gx W[k].2 b→j=k
theorem NL.keep{lo:Nat}{h h':Heap}{v:AV}{W:List (bu×AV)}{i:Nat}(hr:NL lo h v W i){T:List Nat}(fr:Fr h h' T)(hT:∀c∈T,c<lo):NL lo h' v W i:=by
 refine⟨hr.row.keep fr hT,fun j hj hi=>(hr.live j hj hi).keep fr hT,fun j hj b hb=>?_,hr.val,hr.EG⟩;obtain⟨h1,h2,cs,h3,h4⟩:=hr.low j hj b hb;exact⟨h1,Nat.lt_of_lt_of_le h2 fr.next,cs,h3,(fr.keep b h2 (fun hm=>by have:=hT b hm;omega)).trans h4⟩
theorem Gc(l:List nq)(hl:l.length≤100000){h:Heap}{Q:AV→Heap→Prop}(hQ:∀v h',GR 3 h.next h' v (b9 l)→Fr h h' []→Q v h'):VD fs ms 38 [.fz (cR l.length) (b9 l)] h Q:=by
 refine bN (af:=QD) true rfl (Nat.le_of_ble_eq_true rfl) ?_;cases hb:l with
 |nil=>
  conv=>whnf
  exact hQ _ _ (by rw[hb];exact .inl ⟨rfl,rfl⟩) (Fr.refl _ _)
 |cons x r=>
  conv=>whnf
  have ha:eV (.append 3 32) [.sl h.next 0 0 0 false,.fz 0 (b9 (x::r))] (h.new (.cells [] true 0))=some (.sl (h.next+1) 0 (r.length+1) (r.length+1) true,(h.new (.cells [] true 0)).new (.cells (ak (b9 (x::r))) true 3)):=by
   have:=yW (s:=3) (bytes:=32) (n:=r.length) (b:=h.next) (nx:=(h.new (.cells [] true 0)).next) (tr:=(h.new (.cells [] true 0)).m) (x:=.fz 0 (b9 (x::r))) (cs:=ak (b9 (x::r))) (wr:=true) (es:=0) au (by omega) (by rw[hb] at hl;simp at hl;omega) (by
    have:=zY (k:=0) (h:=(h.new (.cells [] true 0))) (dK (x::r));rw[bq] at this;exact this) (pY _)
   exact this
  refine⟨_,_,ha,?_⟩;conv=>whnf
  refine hQ _ _ ?_ ((Fr.refl _ _).new.new);rw[hb];exact .inr ⟨by simp[b9],h.next+1,by omega,Nat.lt_succ_self _,by rw[bq];rfl,au (h:=h.new (.cells [] true 0))⟩
theorem NL.more{lo:Nat}{h g':Heap}{v v' w:AV}{W:List (bu×AV)}{x:bu}(hr:NL lo h v W 0)(ha:GR 6 lo g' v' (pL W++[I7 (x,w)]))(hw:GR 3 lo h w (b9 x.ops))(hnew:∀j (hj:j<W.length) b,gx W[j].2 b→¬gx w b)(hn:h.next≤g'.next)(hk:∀d,d<h.next→¬gx v d→g'.get d=h.get d):NL lo g' v' (W++[(x,w)]) 0:=by
 have Lq:∀d cs,h.get d=some (.cells cs true 3)→¬gx v d:=by
  intro d cs hg ho;obtain⟨cs',hg'⟩:=GR.es hr.row ho;rw[hg] at hg';simp at hg'
 have xY:∀j (hj:j<(W++[(x,w)]).length),(∃hj':j<W.length,(W++[(x,w)])[j]=W[j])∨(j=W.length∧(W++[(x,w)])[j]=(x,w)):=by
  intro j hj;by_cases h1:j<W.length
  ·exact .inl ⟨h1,List.getElem_append_left h1⟩
  ·have:j=W.length:=by simp at hj;omega
   subst this;exact .inr ⟨rfl,by simp⟩
 have ZA:∀d,gx w d→g'.get d=h.get d:=by
  intro d ho;obtain⟨cs,hg⟩:=GR.es hw ho;exact hk d (GR.own hw ho).2 (Lq d cs hg)
 have Zz:∀j (hj:j<W.length) d,gx W[j].2 d→g'.get d=h.get d:=by
  intro j hj d ho;obtain⟨h1,h2,cs,h3,h4⟩:=hr.low j hj d ho;exact hk d h2 (Lq d cs h4)
 refine⟨by rw[pL,List.map_append];exact ha,fun j hj _=>?_,fun j hj b hb=>?_,fun j hj=>?_,fun j k hj hk' b oA gn=>?_⟩
 ·rcases xY j hj with⟨h1,h2⟩|⟨rfl,h2⟩
  ·rw[h2];exact GR.mv (hr.live j h1 (Nat.zero_le _)) hn (Zz j h1)
  ·rw[h2];exact GR.mv hw hn ZA
 ·rcases xY j hj with⟨h1,h2⟩|⟨rfl,h2⟩
  ·rw[h2] at hb⊢;obtain⟨q1,q2,cs,q3,q4⟩:=hr.low j h1 b hb;exact⟨q1,by omega,cs,q3,(Zz j h1 b hb).trans q4⟩
  ·rw[h2] at hb⊢;have q1:=GR.own hw hb;refine⟨q1.1,by omega,?_⟩;rcases hw with⟨_,h0⟩|⟨_,b',k1,k2,k3,k4⟩
   ·simp only at hb;rw[h0] at hb;obtain⟨o,n,c,p,h9⟩:=hb;simp at h9
   ·simp only at hb;rw[k3] at hb;obtain⟨o,n,c,p,h9⟩:=hb;simp only[AV.sl.injEq] at h9;obtain⟨rfl,_⟩:=h9;refine⟨_,?_,(ZA b' ⟨_,_,_,_,k3⟩).trans k4⟩;rw[gX (dK _),bq]
 ·rcases xY j hj with⟨h1,h2⟩|⟨rfl,h2⟩
  ·rw[h2];exact hr.val j h1
  ·rw[h2];rcases hw with⟨h0,h9⟩|⟨_,b',k1,k2,k3,k4⟩
   ·exact .inl ⟨by simpa[b9] using h0,h9⟩
   ·exact .inr ⟨b',by rw[bq] at k3;exact k3⟩
 ·rcases xY j hj with⟨h1,h2⟩|⟨rfl,h2⟩<;>rcases xY k hk' with⟨h3,h4⟩|⟨rfl,h4⟩
  ·rw[h2] at oA;rw[h4] at gn;exact hr.EG j k h1 h3 b oA gn
  ·rw[h2] at oA;rw[h4] at gn;exact absurd gn (hnew j h1 b oA)
  ·rw[h2] at oA;rw[h4] at gn;exact absurd oA (hnew k h3 b gn)
  ·rfl
theorem JI{h0:Heap}{k:Nat}{A:List (bu×Int)}(hl:A.length≤100000)(hA:∀x∈A,mH x){B:Nat}{Q:AX→Env→Heap→Prop}(hQ:∀e' h' v W,NL h0.next h' v W 0→W.map (·.1)=fe A→Fr h0 h' []→Tr.get e' 2=some v→Q (.exit 0) e' h'):
  ∀(m j:Nat) (h:Heap) (env:Env) (v:AV) (W:List (bu×AV)),A.length-j=m→j≤A.length→NL h0.next h v W 0→W.map (·.1)=fe (A.take j)→Fr h0 h []→
   bQ env [(2,v),(6,.fz k (fK A)),(7,.int .i64 ((A.length:Nat):Int)),(8,.int .i64 ((j:Nat):Int))]→
   VC fs ms B false (.loop mj) env h Q:=by
 intro m;induction m with
 |zero=>
  intro j h env v W hm hj hr hW fr bg;have hjl:j=A.length:=by omega
  subst hjl;refine ay 5 _ bg ?_;refine aH (aa (z:=true) ?_);conv=>whnf
  refine k7 (by simp) (fun hc=>?_)
  (try rw[hc])
  conv=>whnf
  rw[List.take_length] at hW;exact hQ _ h v W hr hW fr rfl
 |succ m ih=>
  intro j h env v W hm hj hr hW fr bg;have hlt:j<A.length:=by omega
  have lV:=p7 (k:=k) hlt;have hU:=qZ hlt;obtain⟨hk,hlo⟩:=hA _ (List.getElem_mem hlt);have Li:=p5 (A.take j);rw[List.length_take] at Li;have Sc:W.length=(fe (A.take j)).length:=by rw[←hW,List.length_map]
  generalize hX:A[j]=x at*;refine ay 5 _ bg ?_;refine aH (an true ?_);conv=>whnf
  refine an true ?_;conv=>whnf
  refine ny (by simp;omega) (fun hc=>?_)
  (try rw[hc])
  conv=>whnf
  refine aJ (aR (an true ?_));conv=>whnf
  refine⟨_,lV,?_⟩;conv=>whnf
  refine⟨wL x,rfl,?_⟩;conv=>whnf
  refine cm (bX au rfl (Nat.le_refl _) rfl) fun h1 e1=>?_;have f1:Fr h h1 []:=by rw[e1];exact((Fr.refl h []).new).gM (Nat.le_refl _)
  have g1:h1.get h.next=some (.cells (wL x).cells true 0):=by rw[e1,aA];rfl
  have n1:h1.next=h.next+1:=by rw[e1];rfl
  clear e1;conv=>whnf
  have rK:=hr.keep f1 (by simp);have pZ:=fr.trans f1;refine an true ?_;conv=>whnf
  refine⟨.int .i64 x.2,cM g1 rfl,?_⟩;conv=>whnf
  refine cj ?_;conv=>whnf
  refine br (fun hc=>?_) (fun hc=>?_)<;>(try rw[hc])<;>(conv=>whnf)
  ·have hz:x.2=0:=by simpa using hc
   rw[if_pos hz] at hU;refine an true ?_;conv=>whnf
   refine⟨dG x.1,FG g1 (by show 0+0+6≤7;omega),?_⟩;conv=>whnf
   refine cm (bX au rfl (Nat.le_refl _) rfl) fun h2 e2=>?_;have f2:Fr h1 h2 []:=by rw[e2];exact((Fr.refl h1 []).new).gM (Nat.le_refl _)
   have g2:h2.get h1.next=some (.cells (dG x.1).cells true 0):=by rw[e2,aA];rfl
   have n2:h2.next=h1.next+1:=by rw[e2];rfl
   clear e2;have kN:=rK.keep f2 (by simp);have iu:=pZ.trans f2;conv=>whnf
   refine an true ?_;conv=>whnf
   refine⟨.fz x.1.kk (b9 x.1.ops),cM g2 rfl,?_⟩;conv=>whnf
   rw[hk];refine Gc x.1.ops hlo fun w h3 FB f3=>?_;have n3:=f3.next;have g3:=(f3.keep h1.next (by omega) (by simp)).trans g2;obtain⟨c1,c2,c3⟩:=GR.one FB;conv=>whnf
   refine cm (bX g3 c2 (by show 0+0+5+1≤6;omega) c3) fun h4 e4=>?_;have f4:Fr h3 h4 [h1.next]:=by rw[e4];exact(Fr.refl h3 _).set (by simp)
   have g4:h4.get h1.next=some (.cells [.int .i64 x.1.k,.int .i64 x.1.p,.int .i64 x.1.t,.int .i64 x.1.n,.int .i64 x.1.m,w] true 0):=by rw[e4,aA,c1];rfl
   have n4:h4.next=h3.next:=by rw[e4];rfl
   clear e4;have fn:=fr.next;have f14:Fr h1 h4 []:=⟨by omega,fun c hc _=>(f4.keep c (by omega) (by simp;omega)).trans ((f3.keep c (by omega) (by simp)).trans (f2.keep c hc (by simp)))⟩;have A4:=rK.keep f14 (by simp);have uz:=pZ.trans f14;have IX:GR 3 h2.next h4 w (b9 x.1.ops):=FB.keep f4 (by simp;omega);conv=>whnf
   refine aa (z:=true) ?_;conv=>whnf
   refine⟨I7 (x.1,w),FG g4 (Nat.le_refl _),?_⟩;conv=>whnf
   obtain⟨v',g',ha,Xf,X3,A1⟩:=GR.Jf (bytes:=64) A4.row (x:=I7 (x.1,w)) rfl (by rw[c1] at c3;exact c3) (m6 _) (by rw[lD];omega) (by rw[lD];omega);refine⟨_,_,ha,?_⟩;have B4:NL h0.next g' v' (W++[(x.1,w)]) 0:=by
    refine A4.more (Xf.low (by omega)) (IX.low (by omega)) (fun i hi b hb gn=>?_) X3 A1;have q1:=(rK.low i hi b hb).2.1;have q2:=(GR.own IX gn).1;omega
   have hW5:(W++[(x.1,w)]).map (·.1)=fe (A.take (j+1)):=by rw[hU,List.map_append,hW];rfl
   have Cu:Fr h0 g' []:=⟨by have:=uz.next;omega,fun c hc _=>(A1 c (by have:=uz.next;omega) (fun ho=>by have:=(GR.own A4.row ho).1;omega)).trans (uz.keep c hc (by simp))⟩;conv=>whnf
   refine aa (z:=true) ?_;conv=>whnf
   refine ih (j+1) g' _ v' _ (by omega) (by omega) B4 hW5 Cu ⟨rfl,rfl,rfl,bC (by omega),trivial⟩
  ·have hz:¬x.2=0:=by simpa using hc
   rw[if_neg hz,List.append_nil] at hU;refine aa (z:=true) ?_;conv=>whnf
   refine aa (z:=true) ?_;conv=>whnf
   refine ih (j+1) h1 _ v W (by omega) (by omega) rK (by rw[hU];exact hW) pZ ⟨rfl,rfl,rfl,bC (by omega),trivial⟩
theorem JH{k:Nat}{A:List (bu×Int)}(hl:A.length≤100000)(hA:∀x∈A,mH x){h:Heap}{Q:AV→Heap→Prop}(hQ:∀v h' W,NL h.next h' v W 0→W.map (·.1)=fe A→Fr h h' []→Q v h'):VD fs ms 17 [.fz k (fK A)] h Q:=by
 refine bY (af:=QC) rfl (Nat.le_of_ble_eq_true rfl) ?_;conv=>whnf
 refine an true ?_;conv=>whnf
 refine aJ (an true ?_);conv=>whnf
 rw[eo];refine aR ?_;refine JI (h0:=h) hl hA ?_ A.length 0 h _ .az [] rfl (Nat.zero_le _) ⟨.inl ⟨rfl,rfl⟩,by simp,by simp,by simp,by simp⟩ rfl (Fr.refl _ _) ⟨rfl,rfl,rfl,rfl,trivial⟩;intro e' h' v W hr hW fr h2;show VC fs ms h.next false _ _ _ _;refine ay 3 [(2,v)] ⟨h2,trivial⟩ (aa (z:=true) ?_);conv=>whnf
 exact hQ v h' W hr hW fr
end Ir
end Go.Proofs.YtmnolnoeibhjgaaGreat
