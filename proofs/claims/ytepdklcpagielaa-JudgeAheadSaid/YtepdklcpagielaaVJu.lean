/-
  Judge: the state behind a row of notes, in plain Lean. Judge: the walk through the notes. Judge: Find.
-/
import Derived.Test.YtepdklcpagielaaVJf
import Derived.Test.YtepdklcpagielaaVCf
set_option maxRecDepth 100000
set_option linter.unusedSimpArgs false
set_option linter.unusedVariables false
namespace Go.Proofs.Ytepdklcpagielaa
open Go Ads
namespace Ir
structure Inv(s:Ks):Prop where
 now:0≤s.2.2.1
 wf:G1 s.1 s.2.1
 ts:∀c∈s.1,c.ts.length≤4
 len:s.2.1.length=4
 le:s.1.length≤4
theorem z3(c:Pt)(p:Pr)(x:Nt):(dM c p x).1.ts=c.ts:=by
 unfold dM;split
 ·rfl
 ·split<;>rfl
theorem B2(c:Pt)(p:Pr)(x:Nt):(dM c p x).2.1.has=true→p.has=true∧(dM c p x).2.1.task=p.task:=by
 unfold dM;split
 ·intro h;simp[mg] at h
 ·split
  ·intro h;simp[fresh,mg] at h
  ·intro h;exact⟨h,rfl⟩
theorem II(p:Pr)(x:Nt)(t:Tk):(rm p x t).has=true→(p.has=true∧(rm p x t).task=p.task)∨(x.k=5∧(rm p x t).task=x.t):=by
 unfold rm;split
 ·intro h;obtain⟨a,b⟩:=fK p x.t.toNat {p.js x.t.toNat with bf:=IntKind.i64.wrap ((p.js x.t.toNat).bf+1)};exact .inl ⟨a▸h,b⟩
 ·split
  ·split
   ·intro h;obtain⟨a,b⟩:=fK p x.t.toNat ⟨true,x.a,0,IntKind.i64.wrap (x.a+t.p)⟩;exact .inl ⟨a▸h,b⟩
   ·intro h;exact .inl ⟨h,rfl⟩
  ·split
   ·intro h;obtain⟨a,b⟩:=fK p x.t.toNat {p.js x.t.toNat with is:=false};simp only[Bool.and_eq_true] at h;exact .inl ⟨h.1,b⟩
   ·split
    ·rename_i h5;split
     ·intro _;exact .inr ⟨by simpa using h5,rfl⟩
     ·intro h;exact .inl ⟨h,rfl⟩
    ·intro h;exact .inl ⟨h,rfl⟩
theorem wf_set{cs:List Pt}{ps:List Pr}{i:Nat}{p':Pr}(hw:G1 cs ps)(hc:∀(h:i<cs.length),p'.has=true→0≤p'.task∧p'.task<(cs[i].ts.length:Nat)):G1 cs (ps.set i p'):=by
 intro j hj hp hh;have iD:j<ps.length:=by simpa using hp
 by_cases h:i=j
 ·subst h;rw[List.getElem_set_self] at hh⊢;exact hc hj hh
 ·rw[List.getElem_set_ne h] at hh⊢;exact hw j hj iD hh
theorem Rw{cs cs':List Pt}{ps:List Pr}(hw:G1 cs ps)(hl:cs'.length=cs.length)(he:∀(i:Nat) (h:i<cs.length) (h':i<cs'.length),cs'[i].ts=cs[i].ts):G1 cs' ps:=by
 intro j hj hp hh;rw[he j (hl▸hj) hj];exact hw j (hl▸hj) hp hh
theorem MR{cs:List Pt}{i:Nat}{c':Pt}(hc:∀(h:i<cs.length),c'.ts=cs[i].ts):∀(j:Nat) (h:j<cs.length) (h':j<(cs.set i c').length),(cs.set i c')[j].ts=cs[j].ts:=by
 intro j h h';by_cases e:i=j
 ·subst e;rw[List.getElem_set_self];exact hc h
 ·rw[List.getElem_set_ne e]
theorem y5{un:Int}{s s':Ks}{x:Nt}(hi:Inv s)(h:kT un s x=.inr s'):Inv s':=by
 unfold kT at h;split at h
 ·simp at h
 rename_i hs;have hs:cX s.1 s.2.2.1 un x=true:=by simpa using hs
 obtain⟨a1,a2,k1,k8,p1,p2,tw,tn⟩:=qy hs;split at h
 ·simp at h
 rename_i ps now bf gone hto;obtain⟨hsame,FY⟩:=pQ hto;simp only at hsame FY;have hwf:=hsame.wf hi.wf;obtain⟨i,hic,oy,xP⟩:=sx p1 p2;have hlen:ps.length=4:=hsame.1.trans hi.len;have oe:i<ps.length:=by have:=hi.le;omega
 have h0:0≤now:=by have:=hi.now;omega
 rw[xP] at tn;unfold BN at h;rw[show x.p.toNat=i by omega,show ps.getD i mg=ps[i] by simp[List.getD_eq_getElem?_getD,List.getElem?_eq_getElem oe],show s.1.getD i Gt=s.1[i] by simp[List.getD_eq_getElem?_getD,List.getElem?_eq_getElem hic]] at h;unfold zi at h;split at h
 ·simp at h
 split at h
 ·simp at h
 split at h
 ·simp at h
 have hold:=fun hh=>hwf i hic oe hh;split at h
 ·simp only[Sum.inr.injEq] at h;subst h;refine⟨h0,?_,?_,by simpa using hlen,by simpa using hi.le⟩
  ·refine Rw (cs:=s.1) (wf_set hwf fun hc hh=>?_) (by simp) (MR fun hc=>z3 _ _ _);obtain⟨a,b⟩:=B2 _ _ _ hh;rw[b];exact hold a
  ·intro c hc;rcases List.mem_or_eq_of_mem_set hc with h1|h1
   ·exact hi.ts c h1
   ·rw[h1,z3];exact hi.ts _ (List.getElem_mem hic)
 ·rename_i hw;split at h
  ·simp at h
  split at h
  ·simp at h
  simp only[Sum.inr.injEq] at h;subst h;refine⟨h0,?_,hi.ts,by simpa using hlen,hi.le⟩;refine wf_set hwf fun hc hh=>?_;have e1:∀q:Pr,(if(x.k==1)=true then{q with bf:=IntKind.i64.wrap (q.bf+1)} else q).has=q.has∧(if(x.k==1)=true then{q with bf:=IntKind.i64.wrap (q.bf+1)} else q).task=q.task:=fun q=>by split<;>exact⟨rfl,rfl⟩
  obtain⟨q1,q2⟩:=e1 ps[i];simp only at hh⊢;generalize(if(x.k==1)=true then{ps[i] with bf:=IntKind.i64.wrap (ps[i].bf+1)} else ps[i])=q at*;split at hh
  ·rename_i ht;rw[if_pos ht];rcases II _ _ _ hh with⟨a,b⟩|⟨a,b⟩
   ·rw[b,q2];exact hold (q1▸a)
   ·rw[b];have:=tn (by simpa using hw);omega
  ·rename_i ht;rw[if_neg ht,q2];exact hold (q1▸hh)
def jh(un:Int):Nat→Ks→List Nt→(Int×Nat) ⊕Ks
 |_,s,[]=>.inr s
 |j,s,x::l=>match kT un s x with
  |.inl r=>.inl (r,j)
  |.inr s=>jh un (j+1) s l
def fj(un:Int)(s:Ks)(l:List Nt):Int×Nat:=match jh un 0 s l with
 |.inl r=>r
 |.inr s=>match nV s.1.length (un-s.2.2.1).toNat s.2.1 s.2.2.1 s.2.2.2.1 s.2.2.2.2 with
  |.inl r=>(r,l.length)
  |.inr _=>(0,0)
theorem Jz{un:Int}{s:Ks}{l:List Nt}{j:Nat}(hj:j<l.length):jh un j s (l.drop j)=match kT un s l[j] with|.inl r=>.inl (r,j)|.inr s=>jh un (j+1) s (l.drop (j+1)):=by
 rw[List.drop_eq_getElem_cons hj];rfl
def qU(cs:List Pt):Ks:=(cs,[mg,mg,mg,mg],0,false,false)
theorem LQ{cs:List Pt}(h:cs.length≤4)(ht:∀c∈cs,c.ts.length≤4):Inv (qU cs):=by
 refine⟨Int.le_refl 0,?_,ht,rfl,h⟩;intro i hc hp hh;have hi:i<4:=hp
 match i,hi with
 |0,_=>simp[qU,mg] at hh
 |1,_=>simp[qU,mg] at hh
 |2,_=>simp[qU,mg] at hh
 |3,_=>simp[qU,mg] at hh
end Ir
end Go.Proofs.Ytepdklcpagielaa
set_option maxRecDepth 100000
set_option linter.unusedSimpArgs false
set_option linter.unusedVariables false
namespace Go.Proofs.Ytepdklcpagielaa
open Go Ads
namespace Ir
theorem R6{h0:Heap}{b C P kl:Nat}{X:AV}{un:Int}(hun:un≤10000){l:List Nt}(hl:l.length≤17592186044416){s0:Ks}{B:Nat}{Q:AX→Env→Heap→Prop}
  (hQ:∀s,jh un 0 s0 l=.inr s→Inv s→∀at_ e' h',RS h' b C X (tI un s.2.2.1 s.2.2.2.1 s.2.2.2.2 at_) s.1 s.2.1→Fr h0 h' [b,C]→aP e' [(0,.ptr b 0),(1,.fz kl (b8 l)),(4,.ptr P 0)]→Q (.exit 0) e' h')
  (hP:∀rule j,jh un 0 s0 l=.inl (rule,j)→∀e' h' tl cs qs,RS h' b C X tl cs qs→tl[4]?=some (.int .i64 ((j:Nat):Int))→Fr h0 h' [b,C]→Tr.get e' 4=some (.ptr P 0)→Q (.panic (.iface 115 (.int .i64 rule))) e' h'):
  ∀(m j:Nat) (h:Heap) (s:Ks) (at_:Int) (env:Env),l.length-j=m→j≤l.length→jh un 0 s0 l=jh un j s (l.drop j)→Inv s→b<h.next→C<h.next→RS h b C X (tI un s.2.2.1 s.2.2.2.1 s.2.2.2.2 at_) s.1 s.2.1→Fr h0 h [b,C]→
  aP env [(0,.ptr b 0),(1,.fz kl (b8 l)),(4,.ptr P 0),(8,.fz kl (b8 l)),(9,.int .i64 ((l.length:Nat):Int)),(10,.int .i64 ((j:Nat):Int))]→
  VC fs ms B false (.loop mO) env h Q:=by
 intro m;induction m using Nat.strongRecOn with
 |ind m ih=>
 intro j h s at_ env hm hj hrun hi hb hC r fr cH;refine ak 4 _ cH ?_;refine bJ (aj true ?_);conv=>whnf
 refine aj true ?_;conv=>whnf
 refine br (fun hc=>?_) (fun hc=>?_)<;>(try rw[hc])<;>(conv=>whnf)
 ·have hlt:j<l.length:=by have:=of_decide_eq_true hc;omega
  rw[Jz hlt] at hrun;obtain⟨cs,ps,now,bf,gone⟩:=s;simp only at r hrun;refine az (aL ?_);refine aj true ?_;conv=>whnf
  refine⟨_,kF hlt,?_⟩;conv=>whnf
  refine⟨nt l[j],rfl,?_⟩;conv=>whnf
  refine aT (cD (n:=7) (v:=nt l[j]) an rfl (Nat.le_refl _) rfl) fun h1 e1=>?_;conv=>whnf
  have g1:h1.get h.next=some (.cells (nt l[j]).cells true 0):=by rw[e1,aG];rfl
  have cT:Fr h h1 []:=by rw[e1];exact((Fr.refl h []).new (x:=_)).lD (Nat.le_refl _)
  have n1:h.next<h1.next:=by rw[e1];exact Nat.lt_succ_self _
  have r1:=r.keep cT hb hC;clear e1;refine aj true ?_;conv=>whnf
  obtain⟨h2,s2,r2,fq⟩:=r1.xR (v:=.int .i64 ((j:Nat):Int)) (f:=4) (o:=0+98) (tl':=tI un now bf gone ((j:Nat):Int)) (by omega) rfl (by simp[tI]) rfl rfl;refine aT s2 fun rF e2=>?_;subst e2;conv=>whnf
  have g2:rF.get h.next=some (.cells (nt l[j]).cells true 0):=(fq.keep _ n1 (by simp;omega)).trans g1;have kq:Fr h0 rF [b,C]:=fr.trans (Fr.trans (cT.wk (by simp)) (fq.wk (by simp)));have iH:b<rF.next:=Nat.lt_of_lt_of_le hb (Nat.le_trans cT.next fq.next);have Fb:C<rF.next:=Nat.lt_of_lt_of_le hC (Nat.le_trans cT.next fq.next);refine jV (z:=true) rfl ?_;conv=>whnf
  refine⟨nt l[j],tU (n:=7) g2 (Nat.le_refl _),?_⟩;conv=>whnf
  refine To r2 iH Fb hi.now hun hi.wf hi.ts l[j] (fun s' hs h' r' fr'=>?_) (fun rule hs h' tl qs r' ht fr'=>hP rule j (by rw[hrun,hs]) _ h' tl cs qs r' ht (kq.trans fr') rfl);conv=>whnf
  refine aa (z:=true) ?_;conv=>whnf
  exact ih (l.length-(j+1)) (by omega) (j+1) h' s' _ _ rfl (by omega) (by rw[hrun,hs]) (y5 hi hs) (Nat.lt_of_lt_of_le iH fr'.next) (Nat.lt_of_lt_of_le Fb fr'.next) r' (kq.trans fr') ⟨rfl,rfl,rfl,rfl,rfl,ay (by omega),trivial⟩
 ·have hge:j=l.length:=by have:=of_decide_eq_false hc;omega
  subst hge;rw[List.drop_length] at hrun;exact hQ s hrun hi at_ _ h r fr ⟨rfl,rfl,rfl,trivial⟩
theorem R5{h0:Heap}{b C kl:Nat}{X:AV}{un at_:Int}(hun:un≤10000){l:List Nt}(hl:l.length≤17592186044416){s0:Ks}(hi:Inv s0)(r:RS h0 b C X (tI un s0.2.2.1 s0.2.2.2.1 s0.2.2.2.2 at_) s0.1 s0.2.1)(hb:b<h0.next)(hC:C<h0.next){Q:AV→Heap→Prop}
  (hQ:∀h' tl cs' qs,RS h' b C X tl cs' qs→((fj un s0 l).1≠0→tl[4]?=some (.int .i64 (((fj un s0 l).2:Nat):Int)))→Fr h0 h' [b,C]→Q (.int .i64 (fj un s0 l).1) h'):VD fs ms 43 [.ptr b 0,.fz kl (b8 l)] h0 Q:=by
 refine Ni (af:=QE) (l1:=[⟨some 7,none,.p (.gJ (.func 63) 0),[.t 4]⟩]) (dst:=none) (r:=.t 7) (g:=63) (ag:=X8) (t:=2) (l2:=[⟨some 1,none,.p .J3,[.t 2]⟩]) (first:=[]) (aN:=[.ptr h0.next 0])
  rfl (Nat.le_of_ble_eq_true rfl) rfl rfl rfl (Nat.le_of_ble_eq_true rfl) rfl rfl rfl rfl ?_
 conv=>whnf
 refine aa (z:=true) ?_;conv=>whnf
 have g1:(h0.new (.cells [.int .i64 0] true 0)).get h0.next=some (.cells [.int .i64 0] true 0):=an;have cT:Fr h0 (h0.new (.cells [.int .i64 0] true 0)) []:=(Fr.refl h0 []).new;have n1:h0.next<(h0.new (.cells [.int .i64 0] true 0)).next:=Nat.lt_succ_self _
 have r1:=r.keep cT hb hC;generalize h0.new (.cells [.int .i64 0] true 0)=h1 at*;refine⟨rfl,dh (z:=true) ?_⟩;conv=>whnf
 refine⟨rfl,rfl,?_⟩;show VC fs ms _ _ _ _ _ _;refine VC.mono (Q:=fun x e3 h3=>Fr h1 h3 [b,C]∧Tr.get e3 4=some (.ptr h0.next 0)∧((x=.ret∧(fj un s0 l).1=0∧∃tl cs' qs,RS h3 b C X tl cs' qs)∨(∃rule j,x=.panic (.iface 115 (.int .i64 rule))∧fj un s0 l=(rule,j)∧∃tl cs' qs,RS h3 b C X tl cs' qs∧tl[4]?=some (.int .i64 ((j:Nat):Int))))) ?_ ?_
 ·clear hQ;refine ak 4 [(0,.ptr b 0),(1,.fz kl (b8 l)),(4,.ptr h0.next 0)] ⟨rfl,rfl,rfl,trivial⟩ ?_;refine az (aj true ?_);conv=>whnf
  refine aL ?_;refine R6 (h0:=h1) (P:=h0.next) hun hl (s0:=s0) (fun s hs hi at2 e' h' r' fr' he=>?_) (fun rule j hs e' h' tl cs qs r' ht fr' h4=>⟨fr',h4,.inr ⟨rule,j,rfl,by rw[fj,hs],tl,cs,qs,r',ht⟩⟩) l.length 0 h1 s0 at_ _ rfl (Nat.zero_le _) rfl hi (Nat.lt_of_lt_of_le hb cT.next) (Nat.lt_of_lt_of_le hC cT.next) r1 (Fr.refl _ _) ⟨rfl,rfl,rfl,rfl,by show some (AV.int .i64 ((b8 l).length:Nat))=_;rw[bU],rfl,trivial⟩;obtain⟨cs,ps,now,bf,gone⟩:=s;simp only at r';have Q6:fj un s0 l=match nV cs.length (un-now).toNat ps now bf gone with|.inl r=>(r,l.length)|.inr _=>(0,0):=by unfold fj;rw[hs];try rfl
  show VC fs ms _ _ _ _ _ _;refine ak 4 _ he ?_;refine aj true ?_;conv=>whnf
  have V4:AV.int .i64 ((b8 l).length:Nat)=.int .i64 ((l.length:Nat):Int):=by rw[bU]
  rw[bU];obtain⟨h2,s2,r2,fq⟩:=r'.xR (v:=.int .i64 ((l.length:Nat):Int)) (f:=4) (o:=0+98) (tl':=tI un now bf gone ((l.length:Nat):Int)) (by omega) rfl (by simp[tI]) rfl rfl;refine aT s2 fun rF e2=>?_;subst e2;conv=>whnf
  have O2:Fr h1 rF [b,C]:=fr'.trans (fq.wk (by simp));have ox:=Nat.lt_of_lt_of_le hb cT.next;have Nq:=Nat.lt_of_lt_of_le hC cT.next;refine az (jV (z:=true) rfl ?_);conv=>whnf
  refine⟨_,r2.AF (f:=0) (by omega) rfl,?_⟩;conv=>whnf
  refine Xm r2 (Nat.lt_of_lt_of_le ox O2.next) (Nat.lt_of_lt_of_le Nq O2.next) hi.now hun (fun s hs h3 r3 iB=>?_) (fun rule hs h3 tl qs r3 ht iB=>⟨O2.trans (iB.wk (by simp)),rfl,.inr ⟨rule,l.length,rfl,by rw[Q6,hs],tl,cs,qs,r3,ht⟩⟩);conv=>whnf
  rw[hs] at Q6;have O3:Fr h1 h3 [b,C]:=O2.trans (iB.wk (by simp));have g3:h3.get h0.next=some (.cells [.int .i64 0] true 0):=(O3.keep _ n1 (by simp;omega)).trans g1;refine aa (z:=true) ?_;conv=>whnf
  refine aT (cD (n:=1) (v:=.int .i64 0) g3 rfl (Nat.le_refl _) rfl) fun h4 e4=>?_;conv=>whnf
  have jY:Fr h3 h4 []:=by
   rw[e4];refine⟨Nat.le_refl _,fun c hc hn=>?_⟩;rw[wj];split
   ·rename_i he;rw[he,g3];rfl
   ·rfl
  have r4:=r3.keep jY (Nat.lt_of_lt_of_le ox O3.next) (Nat.lt_of_lt_of_le Nq O3.next);exact⟨O3.trans (jY.wk (by simp)),rfl,.inl ⟨rfl,by rw[Q6],_,_,_,r4⟩⟩
 ·rintro x e3 h3 ⟨iB,g4,⟨rfl,hz,tl,cs',qs,r3⟩|⟨rule,j,rfl,hz,tl,cs',qs,r3,ht⟩⟩
  ·refine⟨.inr (.inl rfl),rfl,?_⟩;conv=>whnf
   refine dh (z:=true) ?_;conv=>whnf
   refine⟨rfl,aa (z:=true) ?_⟩;conv=>whnf
   have g3:h3.get h0.next=some (.cells [.int .i64 0] true 0):=(iB.keep _ n1 (by simp;omega)).trans g1;have l3:h3.bC h0.next 0=some (.int .i64 0):=bA g3 rfl;refine⟨.inl rfl,[.int .i64 0],?_,?_⟩
   ·simp only[er,oR,QE,QE,g4,cond_false,l3]
   ·have:=hQ h3 tl cs' qs r3 (fun h=>absurd hz h) ((cT.wk (by simp)).trans iB);rw[hz] at this;exact this
  ·refine⟨.inr (.inr ⟨_,rfl⟩),rfl,?_⟩;conv=>whnf
   refine dh (z:=true) ?_;conv=>whnf
   refine⟨rfl,aa (z:=true) ?_⟩;conv=>whnf
   have g3:h3.get h0.next=some (.cells [.int .i64 0] true 0):=(iB.keep _ n1 (by simp;omega)).trans g1;refine aT (cD (n:=1) (v:=.int .i64 rule) g3 rfl (Nat.le_refl _) rfl) fun h4 e4=>?_;conv=>whnf
   have l4:h4.bC h0.next 0=some (.int .i64 rule):=by rw[e4];exact bA aG rfl
   refine⟨.inl rfl,[.int .i64 rule],?_,?_⟩
   ·simp only[er,oR,QE,QE,g4,cond_false,l4]
   ·have jY:Fr h0 h4 [b,C]:=by
     rw[e4];exact((cT.wk (by simp)).trans iB).lD (Nat.le_refl _)
    have r4:RS h4 b C X tl cs' qs:=by
     rw[e4];exact⟨by rw[bB (by omega)];exact r3.st,by rw[bB (by omega)];exact r3.cf,r3.len,r3.le,r3.ne⟩
    have:=hQ h4 tl cs' qs r4 (fun h=>by rw[hz];exact ht) jY;rw[hz] at this;exact this
end Ir
end Go.Proofs.Ytepdklcpagielaa
set_option maxRecDepth 100000
set_option linter.unusedSimpArgs false
set_option linter.unusedVariables false
namespace Go.Proofs.Ytepdklcpagielaa
open Go Ads
namespace Ir
theorem Bq:∀l:List Pt,bx (ai (pts l))=true
 |[]=>rfl
 |x::l=>by
  show bx (.int .i64 x.cJ::.int .i64 x.cn::.fz x.k (dI x.ts)::ai (pts l))=true;simp only[o8,Bq l];rfl
theorem KB{k:Nat}{L:List Pt}(hk:k=3→L=[])(h1:L≠[])(h4:L.length≤4){h:Heap}{Q:AV→Heap→Prop}(hQ:∀h' C,h.next≤C→C<h'.next→h'.get C=some (.cells (ai (pts L)) true 3)→Fr h h' []→Q (.sl C 0 L.length L.length true) h'):
  VD fs ms 42 [.fz k (pts L)] h Q:=by
 have qQ:Nat.beq k 3=false:=by
  cases hb:Nat.beq k 3 with
  |false=>rfl
  |true=>exact absurd (hk (Nat.eq_of_beq_eq_true hb)) h1
 refine aC (af:=Uf) true rfl (Nat.le_of_ble_eq_true rfl) ?_;conv=>whnf
 refine lY (qQ) (fun hc=>?_)
 (try rw[hc])
 conv=>whnf
 obtain⟨n,hn⟩:∃n,L.length=n+1:=⟨L.length-1,by cases L with|nil=>exact absurd rfl h1|cons a l=>simp⟩;refine aT (Ce (s:=3) (bytes:=40) (n:=n) (b:=h.next) (nx:=h.next+1) (cs:=ai (pts L)) an (by omega) (by omega) ((qB (k:=k) (fE L)).trans (by rw[bh,hn])) (Bq L)) fun h1 e1=>?_;conv=>whnf
 have:=hQ h1 (h.next+1) (by omega) (by rw[e1];exact Nat.lt_succ_self _) (by rw[e1];exact an (h:=h.new _)) (by rw[e1];exact(Fr.refl h []).new.new);rw[hn] at this;exact this
def di(L:List Pt)(O:List Po)(l:List Nt)(un:Int):Int×Int×Int:=
 if eT L O=false then(0,0,50)
 else if(decide (un<0)||decide (un>10000))=true then(0,0,5)
 else if((fj un (qU L) l).1==0)=true then(0,0,0)
 else((fj un (qU L) l).1,(((fj un (qU L) l).2:Nat):Int),0)
theorem vV{L:List Pt}{O:List Po}(h:eT L O=true):1≤L.length∧L.length≤4∧∀c∈L,c.ts.length≤4:=by
 simp only[eT,Bool.and_eq_true,lQ] at h;refine⟨by omega,by omega,fun c hc=>?_⟩;have:=List.all_eq_true.1 h.1 c hc;simp only[gy,Bool.and_eq_true,decide_eq_true_eq] at this;exact this.1.2
theorem qh{k ko kl:Nat}{L:List Pt}{O:List Po}(hf:Fits L O)(hk:k=3→L=[]){l:List Nt}(hl:l.length≤17592186044416)(un:Int):
  PC fs ms 18 [cfg k L ko O,.fz kl (b8 l),.int .i64 un] (.cQ [.int .i64 (di L O l un).1,.int .i64 (di L O l un).2.1,.int .i64 (di L O l un).2.2]):=by
 have hp:=hf.EA;refine aX (by simp[bL,oK,AV.cl,nG]) rfl ?_;generalize(⟨0,.nil⟩:Heap)=h0;refine bw (af:=Ud) rfl (Nat.le_of_ble_eq_true rfl) ?_;generalize hQ:(fun(v:AV) (_:Heap)=>v=.cQ [.int .i64 (di L O l un).1,.int .i64 (di L O l un).2.1,.int .i64 (di L O l un).2.2])=Q;have hq:∀r:Int×Int×Int,di L O l un=r→∀h,Q (.cQ [.int .i64 r.1,.int .i64 r.2.1,.int .i64 r.2.2]) h:=by
  subst hQ;intro r hr h;rw[hr]
 clear hQ;conv=>whnf
 refine aj true ?_;conv=>whnf
 have g1:(h0.new (.cells (cfg k L ko O).cells true 0)).get h0.next=some (.cells [.fz k (pts L),.fz ko (pos O)] true 0):=an;generalize h0.new (.cells (cfg k L ko O).cells true 0)=h1 at*;refine az (aj true ?_);conv=>whnf
 refine⟨cfg k L ko O,tU (n:=2) g1 (Nat.le_refl _),?_⟩;conv=>whnf
 refine au (DH k L ko O hf.small (by omega)) ?_;conv=>whnf
 cases hc0:eT L O with
 |false=>
  refine aa (z:=true) ?_;conv=>whnf
  exact hq (0,0,50) (by rw[di,if_pos hc0]) _
 |true=>
  obtain⟨l1,l4,lt⟩:=vV hc0;refine aa (z:=true) ?_;conv=>whnf
  refine az (VC.mono (Q:=fun y e h=>h=h1∧((y=.ret∧(decide (un<0)||decide (un>10000))=true∧aP e [(6,.int .i64 0),(7,.int .i64 0),(8,.int .i64 5)])∨(y=.normal∧(decide (un<0)||decide (un>10000))=false∧aP e [(1,.fz kl (b8 l)),(2,.int .i64 un),(3,.ptr h0.next 0)]))) ?_ ?_)
  ·refine aa (z:=true) ?_;conv=>whnf
   refine br (fun hc=>?_) (fun hc=>?_)<;>(try rw[hc])<;>(conv=>whnf)
   ·exact⟨rfl,.inl ⟨rfl,by first|rfl|(rw[hc];rfl),rfl,rfl,rfl,trivial⟩⟩
   ·have h1c:=hc;refine br (fun hc=>?_) (fun hc=>?_)<;>(try rw[hc])<;>(conv=>whnf)
    ·exact⟨rfl,.inl ⟨rfl,by first|rfl|(rw[h1c,hc];rfl),rfl,rfl,rfl,trivial⟩⟩
    ·exact⟨rfl,.inr ⟨rfl,by first|rfl|(rw[h1c,hc];rfl),rfl,rfl,rfl,trivial⟩⟩
  rintro y e h ⟨rfl,⟨rfl,hb,g6,g7,g8,_⟩|⟨rfl,hb,he⟩⟩
  ·have:=hq (0,0,5) (by rw[di,if_neg (by rw[hc0];simp),if_pos hb]) h;simp only[vX,Ud,Ud,er,oR,g6,g7,g8];exact this
  ·show VC fs ms _ _ _ _ _ _;refine ak 4 _ he ?_;clear he;have hun:un≤10000:=by
    simp only[Bool.or_eq_false_iff,decide_eq_false_iff_not] at hb;omega
   have hT:di L O l un=if((fj un (qU L) l).1==0)=true then(0,0,0) else((fj un (qU L) l).1,(((fj un (qU L) l).2:Nat):Int),0):=by
    rw[di,if_neg (by rw[hc0];simp),if_neg (by rw[hb];simp)]
   refine az (VC.mono (Q:=fun y e h3=>y=.normal∧∃b C,RS h3 b C .aD (tI un 0 false false 0) L [mg,mg,mg,mg]∧b<h3.next∧C<h3.next∧aP e [(1,.fz kl (b8 l)),(10,.ptr b 0)]) ?_ ?_)
   ·refine aa (z:=true) ?_;conv=>whnf
    refine⟨_,bA g1 rfl,?_⟩;conv=>whnf
    refine KB hk (by intro h;rw[h] at l1;simp at l1) l4 (fun h2 C Nq Fb gC fq=>?_);conv=>whnf
    exact⟨rfl,h2.next,C,⟨an,(aO Fb).trans gC,rfl,l4,by omega⟩,Nat.lt_succ_self _,Nat.lt_succ_of_lt Fb,rfl,rfl,trivial⟩
   rintro y e h3 ⟨rfl,b,C,r3,nb,nC,he⟩;show VC fs ms _ _ _ _ _ _;refine ak 4 _ he ?_;clear he;refine az (aj true ?_);conv=>whnf
   refine R5 hun hl (s0:=qU L) (LQ l4 lt) r3 nb nC (fun h4 tl cs' qs r4 ht jY=>?_);conv=>whnf
   refine aa (z:=true) ?_;conv=>whnf
   refine br (fun hc=>?_) (fun hc=>?_)<;>(try rw[hc])<;>(conv=>whnf)
   ·exact hq (0,0,0) (by rw[hT,if_pos hc]) _
   ·rw[if_neg (by rw[hc];simp)] at hT;refine aa (z:=true) ?_;conv=>whnf
    refine⟨_,r4.AF (f:=4) (by omega) (ht (by simpa using hc)),?_⟩;conv=>whnf
    exact hq _ hT _
end Ir
end Go.Proofs.Ytepdklcpagielaa
