/-
  The document's judge: who could run; a tick goes by. The document's judge: what may be noted. The document's judge: who has what is global. The document's judge: the rule that a note breaks. The document's judge: what is known behind a note. The document's judge: what is known behind a task's note. The document's judge: Find. The document's judge: the walk through the notes; Find. Judge: the program's states and the document's go together, in plain Lean.
-/
import Derived.Test.YtepdklcpagielaaVJu
set_option maxRecDepth 100000
set_option linter.unusedSimpArgs false
set_option linter.unusedVariables false
namespace Go.Proofs.Ytepdklcpagielaa
open Go Ads
namespace Ir
def sy(now:Int)(bf gone:Bool):List AV:=[.int .i64 now,.bool bf,.bool gone]
section
variable {b C:Nat} {X:AV} {tl:List AV} {cs:List Pt} {ps:List Pr}
theorem Mz{h0:Heap}(r:RS h0 b C X tl cs ps)(hb:b<h0.next)(hC:C<h0.next){B:Nat}{Q:AX→Env→Heap→Prop}(hQ:∀e' h',Fr h0 h' []→Tr.get e' 3=some (.int .i64 (iS (cr ps cs.length)))→Q (.exit 0) e' h'):
  ∀(m j:Nat) (h:Heap) (env:Env),cs.length-j=m→j≤cs.length→Fr h0 h []→aP env [(0,.ptr b 0),(3,.int .i64 (iS (cr ps j))),(4,.int .i64 ((j:Nat):Int))]→
  VC fs ms B false (.loop dR) env h Q:=by
 intro m;induction m using Nat.strongRecOn with
 |ind m ih=>
 intro j h env hm hj fr cH;have hle:=r.le;have hlen:=r.len;have rh:=r.keep fr hb hC;refine ak 4 _ cH ?_;refine bJ (aj true ?_);conv=>whnf
 refine⟨_,bA rh.st rfl,?_⟩;conv=>whnf
 refine br (fun hc=>?_) (fun hc=>?_)<;>(try rw[hc])<;>(conv=>whnf)
 ·have hlt:j<cs.length:=by have:=of_decide_eq_true hc;omega
  have qT:j<ps.length:=by omega
  have ir:cr ps (j+1)=if(ps[j].left&&oS ps ps[j] (cr ps j))=true then some j else cr ps j:=by
   show(match ps[j]? with|some p=>_|none=>_)=_;rw[List.getElem?_eq_getElem qT]
  have jQ:=fun i=>sM (ps:=ps) (n:=j) (i:=i);have oN:∀(f':Option Nat) e' h',cr ps (j+1)=f'→Fr h0 h' []→aP e' [(0,.ptr b 0),(3,.int .i64 (iS f')),(4,.int .i64 (((j+1:Nat):Nat):Int))]→VC fs ms B false (.loop dR) e' h' Q:=fun f' e' h' hf fr' he=>ih (cs.length-(j+1)) (by omega) (j+1) h' e' rfl (by omega) fr' (by rw[hf];exact he);clear ih hQ;generalize cr ps j=f at*;refine az (aL ?_);refine aj true ?_;conv=>whnf
  refine⟨_,dr (by omega),?_⟩;conv=>whnf
  refine⟨_,rh.whole qT (by omega),?_⟩;conv=>whnf
  refine aT (cD (n:=23) (v:=.agg (dG ps[j])) an rfl (Nat.le_refl _) rfl) fun h1 e1=>?_;conv=>whnf
  have gj:h1.get h.next=some (.cells (dG ps[j]) true 0):=by rw[e1,aG];rfl
  have cT:Fr h0 h1 []:=by rw[e1];exact fr.trans (((Fr.refl h []).new (x:=_)).lD (Nat.le_refl _))
  have r1:=r.keep cT hb hC;clear e1;refine aa (z:=true) ?_;rcases f with _|i
  ·have h33:decide (iS none<0)=true:=rfl;simp only[oS,Bool.and_true] at ir;unfold Pr.left at ir;conv=>whnf
   iterate 5 (all_goals (first|(refine⟨_,bA gj rfl,?_⟩;conv=>whnf)|(refine br (fun hc=>?_) (fun hc=>?_)<;>(try rw[hc])<;>(conv=>whnf))|skip))
   all_goals (refine aa (z:=true) ?_;conv=>whnf)
   all_goals (first|(refine oN (some j) _ _ ?_ cT ⟨rfl,rfl,ay (by omega),trivial⟩;rw[ir];simp only[*];rfl)|(refine oN none _ _ ?_ cT ⟨rfl,rfl,ay (by omega),trivial⟩;rw[ir];simp only[*];rfl))
  ·have hij:=jQ i rfl;have h33:decide (iS (some i)<0)=false:=decide_eq_false (by show¬((i:Nat):Int)<0;omega);have hs:oS ps ps[j] (some i)=decide (ps[j].ends<(ps[i]'(by omega)).ends):=by
    simp[oS,cF,List.getElem?_eq_getElem (show i<ps.length by omega)]
   rw[hs] at ir;unfold Pr.left at ir;have li:rV .bC [.ptr b (0+2+i*23+3)] h1=some (.int .i64 (ps[i]'(by omega)).ends):=r1.ld (i:=i) (by omega) (f:=3) (by omega) (by omega) rfl;have ii:pV (.bT 23 4) [.ptr b (0+2),.int .i64 (iS (some i))]=some (.ptr b (0+2+i*23)):=dr (by omega);conv=>whnf
   iterate 10 (all_goals (first|(refine⟨_,bA gj rfl,?_⟩;conv=>whnf)|(refine⟨_,ii,?_⟩;conv=>whnf)|(refine⟨_,li,?_⟩;conv=>whnf)|(refine br (fun hc=>?_) (fun hc=>?_)<;>(try rw[hc])<;>(conv=>whnf))|skip))
   all_goals (refine aa (z:=true) ?_;conv=>whnf)
   all_goals (first|(refine oN (some j) _ _ ?_ cT ⟨rfl,rfl,ay (by omega),trivial⟩;rw[ir];simp only[*];rfl)|(refine oN (some i) _ _ ?_ cT ⟨rfl,rfl,ay (by omega),trivial⟩;rw[ir];simp only[*];rfl))
 ·have hge:j=cs.length:=by have:=of_decide_eq_false hc;omega
  subst hge;exact hQ _ h fr rfl
theorem ED{h0:Heap}(r:RS h0 b C X tl cs ps)(hb:b<h0.next)(hC:C<h0.next){Q:AV→Heap→Prop}(hQ:∀h',Fr h0 h' []→Q (.int .i64 (iS (cr ps cs.length))) h'):VD fs ms 70 [.ptr b 0] h0 Q:=by
 refine bw (af:=Yg) rfl (Nat.le_of_ble_eq_true rfl) ?_;conv=>whnf
 refine aj true ?_;conv=>whnf
 refine aj true ?_;conv=>whnf
 refine az (aj true ?_);conv=>whnf
 refine aL ?_;refine Mz r hb hC (fun e' h' fr' g3=>?_) cs.length 0 h0 _ rfl (Nat.zero_le _) (Fr.refl _ _) ⟨rfl,rfl,rfl,trivial⟩;show VC fs ms _ _ _ _ _ _;refine ak 4 [(3,.int .i64 (iS (cr ps cs.length)))] ⟨g3,trivial⟩ (aa (z:=true) ?_);conv=>whnf
 exact hQ h' fr'
theorem TB{h0:Heap}(r:RS h0 b C X tl cs ps)(hb:b<h0.next)(hC:C<h0.next){B:Nat}{Q:AX→Env→Heap→Prop}
  (hT:(ps.take cs.length).all x6=true→∀e' h',Fr h0 h' []→Tr.get e' 0=some (.ptr b 0)→Q (.exit 0) e' h')
  (hF:(ps.take cs.length).all x6=false→∀e' h',Fr h0 h' []→Tr.get e' 2=some (.int .i64 8)→Q .ret e' h'):
  ∀(m j:Nat) (h:Heap) (env:Env),cs.length-j=m→j≤cs.length→(ps.take j).all x6=true→Fr h0 h []→aP env [(0,.ptr b 0),(3,.int .i64 ((j:Nat):Int))]→
  VC fs ms B false (.loop eF) env h Q:=by
 intro m;induction m using Nat.strongRecOn with
 |ind m ih=>
 intro j h env hm hj hi fr cH;have hle:=r.le;have hlen:=r.len;have rh:=r.keep fr hb hC;refine ak 4 _ cH ?_;refine bJ (aj true ?_);conv=>whnf
 refine⟨_,bA rh.st rfl,?_⟩;conv=>whnf
 refine br (fun hc=>?_) (fun hc=>?_)<;>(try rw[hc])<;>(conv=>whnf)
 ·have hlt:j<cs.length:=by have:=of_decide_eq_true hc;omega
  have qT:j<ps.length:=by omega
  have LI:=rh.whole qT (o:=0+2+j*23) (by omega);have hno:x6 ps[j]=false→∀e' h',Fr h0 h' []→Tr.get e' 2=some (.int .i64 8)→Q .ret e' h':=fun hf=>hF (by
   rw[List.all_eq_false];exact⟨ps[j],by rw[List.mem_take_iff_getElem];exact⟨j,by omega,rfl⟩,by simp[hf]⟩)
  have oN:x6 ps[j]=true→∀e' h',Fr h0 h' []→aP e' [(0,.ptr b 0),(3,.int .i64 (((j+1:Nat):Nat):Int))]→VC fs ms B false (.loop eF) e' h' Q:=fun hf e' h' fr' he=>
   ih (cs.length-(j+1)) (by omega) (j+1) h' e' rfl (by omega) (nD qT hi hf) fr' he
  clear ih hT hF;generalize ps[j]=p at*;refine az (aL ?_);refine aj true ?_;conv=>whnf
  refine⟨_,dr (by omega),?_⟩;conv=>whnf
  refine⟨_,LI,?_⟩;conv=>whnf
  refine aT (cD (n:=23) (v:=.agg (dG p)) an rfl (Nat.le_refl _) rfl) fun h1 e1=>?_;conv=>whnf
  have gj:h1.get h.next=some (.cells (dG p) true 0):=by rw[e1,aG];rfl
  have cT:Fr h0 h1 []:=by rw[e1];exact fr.trans (((Fr.refl h []).new (x:=_)).lD (Nat.le_refl _))
  clear e1;have h8:x6 p=!(p.xx&&(p.has&&decide (p.bf≥p.cn))):=by
   have:decide (p.bf<p.cn)=!decide (p.bf≥p.cn):=by rw[←decide_not];exact decide_eq_decide.2 (by omega)
   rw[x6,Pr.left,this];cases p.xx<;>cases p.has<;>rfl
  rw[h8] at hno oN;refine aa (z:=true) ?_;conv=>whnf
  iterate 9 (all_goals (first|(refine⟨_,bA gj rfl,?_⟩;conv=>whnf)|(refine br (fun hc=>?_) (fun hc=>?_)<;>(try rw[hc])<;>(conv=>whnf))|skip))
  all_goals (first|exact hno (by simp only[*];rfl) _ _ cT rfl|(refine aa (z:=true) ?_;(conv=>whnf);exact oN (by simp only[*];rfl) _ _ cT ⟨rfl,ay (by omega),trivial⟩))
 ·have hge:j=cs.length:=by have:=of_decide_eq_false hc;omega
  subst hge;exact hT hi _ h fr rfl
theorem TC{h0:Heap}{nw:Int}(hb:b<h0.next)(hC:C<h0.next)(Re:tl[0]?=some (.int .i64 nw)){B:Nat}{Q:AX→Env→Heap→Prop}
  (hQ:∀qs,gU nw ps cs.length=some qs→∀e' h',RS h' b C X tl cs qs→Fr h0 h' [b]→Q (.exit 2) e' h')
  (hP:gU nw ps cs.length=none→∀e' h',Tr.get e' 2=some (.int .i64 4)→Q .ret e' h'):
  ∀(m j:Nat) (h:Heap) (qs:List Pr) (env:Env),cs.length-j=m→j≤cs.length→gU nw ps j=some qs→RS h b C X tl cs qs→Fr h0 h [b]→aP env [(0,.ptr b 0),(5,.int .i64 ((j:Nat):Int))]→
  VC fs ms B false (.loop eG) env h Q:=by
 intro m;induction m using Nat.strongRecOn with
 |ind m ih=>
 intro j h qs env hm hj FU r fr cH;have hle:=r.le;have hlen:=r.len;have hbh:=Nat.lt_of_lt_of_le hb fr.next;have hCh:=Nat.lt_of_lt_of_le hC fr.next;refine ak 6 _ cH ?_;refine bJ (aj true ?_);conv=>whnf
 refine⟨_,bA r.st rfl,?_⟩;conv=>whnf
 refine br (fun hc=>?_) (fun hc=>?_)<;>(try rw[hc])<;>(conv=>whnf)
 ·have hlt:j<cs.length:=by have:=of_decide_eq_true hc;omega
  have qT:j<qs.length:=by omega
  have ir:gU nw ps (j+1)=(kj nw qs[j]).map fun p'=>qs.set j p':=by
   show(match gU nw ps j with|none=>none|some qs=>_)=_;rw[FU];show(match qs[j]? with|none=>some qs|some p=>_)=_;rw[List.getElem?_eq_getElem qT]
  have hno:kj nw qs[j]=none→∀e' h',Tr.get e' 2=some (.int .i64 4)→Q .ret e' h':=fun hf=>hP (by
   rw[hf] at ir;have:=uq (nw:=nw) (ps:=ps) (j:=j+1) ir (cs.length-(j+1))
   rwa [show j+1+(cs.length-(j+1))=cs.length by omega] at this)
  have oN:∀p',kj nw qs[j]=some p'→∀h' e',RS h' b C X tl cs (qs.set j p')→Fr h0 h' [b]→aP e' [(0,.ptr b 0),(5,.int .i64 (((j+1:Nat):Nat):Int))]→VC fs ms B false (.loop eG) e' h' Q:=fun p' hf h' e' r' fr' he=>
   ih (cs.length-(j+1)) (by omega) (j+1) h' _ e' rfl (by omega) (by rw[ir,hf];rfl) r' fr' he
  clear ih hQ hP ir;have LI:=r.whole qT (o:=0+2+j*23) (by omega);have gB:qs.set j qs[j]=qs:=List.set_getElem_self qT;have hput:=fun{h':Heap} (r':RS h' b C X tl cs qs) (p':Pr)=>r'.put (v:=.agg (dG p')) (n:=23) (p':=p') qT (f:=0) (o:=0+2+j*23) (by omega) rfl (by omega) rfl rfl;generalize qs[j]=p at*;refine az (aL ?_);refine aj true ?_;conv=>whnf
  refine⟨_,dr (by omega),?_⟩;conv=>whnf
  refine⟨_,LI,?_⟩;conv=>whnf
  refine aT (cD (n:=23) (v:=.agg (dG p)) an rfl (Nat.le_refl _) rfl) fun h1 e1=>?_;conv=>whnf
  have gj:h1.get h.next=some (.cells (dG p) true 0):=by rw[e1,aG];rfl
  have cT:Fr h h1 []:=by rw[e1];exact((Fr.refl h []).new (x:=_)).lD (Nat.le_refl _)
  have n1:h.next<h1.next:=by rw[e1];exact Nat.lt_succ_self _
  have r1:=r.keep cT hbh hCh;have FJ:Fr h0 h1 [b]:=fr.trans (cT.wk (by simp));clear e1;have Td:rV .bC [.ptr b (0+94)] h1=some (.int .i64 nw):=r1.AF (f:=0) (by omega) Re;have hst:kj nw p=if(!p.xx||p.ends !=nw)=true then some p else if(p.bf !=p.cn)=true then none else some {p with bf:=0,ends:=IntKind.i64.wrap (nw+p.cJ)}:=by
   rw[kj];cases p.xx<;>cases h1:(p.ends==nw)<;>cases h2:(p.bf==p.cn)<;>simp[bne,h1,h2]
  rw[hst] at hno oN;refine az (VC.mono (Q:=fun y e h2=>h2=h1∧aP e [(0,.ptr b 0),(5,.int .i64 ((j:Nat):Int)),(6,.ptr h.next 0)]∧((y=.exit 3∧(!p.xx||p.ends !=nw)=true)∨(y=.normal∧(!p.xx||p.ends !=nw)=false))) ?_ ?_)
  ·refine aa (z:=true) ?_;conv=>whnf
   iterate 8 (all_goals (first|(refine⟨_,bA gj rfl,?_⟩;conv=>whnf)|(refine⟨_,Td,?_⟩;conv=>whnf)|(refine br (fun hc=>?_) (fun hc=>?_)<;>(try rw[hc])<;>(conv=>whnf))|skip))
   all_goals (first|(refine⟨rfl,⟨rfl,rfl,rfl,trivial⟩,.inl ⟨rfl,?_⟩⟩;first|rfl|(simp only[*];rfl))|(refine⟨rfl,⟨rfl,rfl,rfl,trivial⟩,.inr ⟨rfl,?_⟩⟩;first|rfl|(simp only[*];rfl)))
  rintro y e h' ⟨rfl,he,⟨rfl,Q0⟩|⟨rfl,Q0⟩⟩
  ·show VC fs ms _ _ _ _ _ _;refine ak 4 [(0,.ptr b 0),(5,.int .i64 ((j:Nat):Int))] ⟨he.1,he.2.1,trivial⟩ (aa (z:=true) ?_);conv=>whnf
   exact oN p (if_pos Q0) _ _ (by rw[gB];exact r1) FJ ⟨rfl,ay (by omega),trivial⟩
  ·rw[if_neg (by rw[Q0];simp)] at hno oN;show VC fs ms _ _ _ _ _ _;refine ak 4 _ he ?_;clear he;refine az (aa (z:=true) ?_);conv=>whnf
   refine⟨_,bA gj rfl,?_⟩;conv=>whnf
   refine⟨_,bA gj rfl,?_⟩;conv=>whnf
   refine br (fun hc=>?_) (fun hc=>?_)<;>(try rw[hc])<;>(conv=>whnf)
   ·exact hno (if_pos hc) _ _ rfl
   ·have abr:=oN _ (if_neg (by rw[hc];simp));refine aj true ?_;conv=>whnf
    refine aT (cD (n:=1) (v:=.int .i64 0) (o:=0+4) gj rfl (Nat.le_of_ble_eq_true rfl) rfl) fun h2 e2=>?_;conv=>whnf
    have g2:h2.get h.next=some (.cells (dG {p with bf:=0}) true 0):=by rw[e2,aG];rfl
    have fq:Fr h h2 []:=by rw[e2];exact cT.lD (Nat.le_refl _)
    have n2:h.next<h2.next:=by rw[e2];exact n1
    have r2:=r.keep fq hbh hCh;clear e2;have WL:rV .bC [.ptr b (0+94)] h2=some (.int .i64 nw):=r2.AF (f:=0) (by omega) Re;refine aj true ?_;conv=>whnf
    refine⟨_,WL,?_⟩;conv=>whnf
    refine⟨_,bA g2 rfl,?_⟩;conv=>whnf
    refine aT (cD (n:=1) (v:=.int .i64 (IntKind.i64.wrap (nw+p.cJ))) (o:=0+3) g2 rfl (Nat.le_of_ble_eq_true rfl) rfl) fun h3 e3=>?_;conv=>whnf
    have g3:h3.get h.next=some (.cells (dG {p with bf:=0,ends:=IntKind.i64.wrap (nw+p.cJ)}) true 0):=by rw[e3,aG];rfl
    have iB:Fr h h3 []:=by rw[e3];exact fq.lD (Nat.le_refl _)
    have r3:=r.keep iB hbh hCh;clear e3;refine aa (z:=true) ?_;conv=>whnf
    refine⟨.agg (dG {p with bf:=0,ends:=IntKind.i64.wrap (nw+p.cJ)}),tU (n:=23) g3 (Nat.le_refl _),?_⟩;conv=>whnf
    refine⟨_,dr (by omega),?_⟩;conv=>whnf
    obtain⟨h4,s4,r4,jY⟩:=hput r3 {p with bf:=0,ends:=IntKind.i64.wrap (nw+p.cJ)};refine aT s4 fun Uo e4=>?_;subst e4;conv=>whnf
    refine aa (z:=true) ?_;conv=>whnf
    exact abr _ _ r4 (fr.trans ((iB.wk (by simp)).trans jY)) ⟨rfl,ay (by omega),trivial⟩
 ·have hge:j=cs.length:=by have:=of_decide_eq_false hc;omega
  subst hge;exact hQ qs FU _ h r fr
theorem Xa{h0:Heap}{now:Int}{bf gone:Bool}(r:RS h0 b C X (sy now bf gone) cs ps)(hb:b<h0.next)(hC:C<h0.next){Q:AV→Heap→Prop}
  (hQ:∀qs,xK cs.length ps now bf gone=.inr qs→∀h',RS h' b C X (sy (IntKind.i64.wrap (now+1)) false false) cs qs→Fr h0 h' [b]→Q (.int .i64 0) h')
  (hR:∀rule,xK cs.length ps now bf gone=.inl rule→∀h',Q (.int .i64 rule) h'):VD fs ms 69 [.ptr b 0] h0 Q:=by
 refine bw (af:=Yf) rfl (Nat.le_of_ble_eq_true rfl) ?_;conv=>whnf
 refine aj true ?_;conv=>whnf
 refine az (aj true ?_);conv=>whnf
 refine aL ?_;refine TB r hb hC (fun ht e' h1 cT g0=>?_) (fun hf e' h1 cT g2=>?_) cs.length 0 h0 _ rfl (Nat.zero_le _) rfl (Fr.refl _ _) ⟨rfl,rfl,trivial⟩
 rotate_left
 ·exact ez g2 (hR 8 (by rw[xK,if_pos hf]) h1)
 have r1:=r.keep cT hb hC;have ox:=Nat.lt_of_lt_of_le hb cT.next;have Nq:=Nat.lt_of_lt_of_le hC cT.next;have h3:(iS (cr ps cs.length)==-1)=!decide (iS (cr ps cs.length)≥0):=by
  cases cr ps cs.length with
  |none=>rfl
  |some i=>rw[show(iS (some i)==-1)=false from beq_eq_false_iff_ne.2 (by show((i:Nat):Int)≠-1;omega),show decide (iS (some i)≥0)=true from decide_eq_true (by show((i:Nat):Int)≥0;omega)];rfl
 show VC fs ms _ _ _ _ _ _;refine ak 4 [(0,.ptr b 0)] ⟨g0,trivial⟩ ?_;refine az (VC.mono (Q:=fun y e h=>Fr h1 h []∧((y=.ret∧(bf||(gone||(iS (cr ps cs.length)==-1)))=false∧Tr.get e 2=some (.int .i64 3))∨(y=.normal∧(bf||(gone||(iS (cr ps cs.length)==-1)))=true∧Tr.get e 0=some (.ptr b 0)))) ?_ ?_)
 ·have l2:rV .bC [.ptr b (0+95)] h1=some (.bool bf):=r1.AF (f:=1) (by omega) rfl;have l3:rV .bC [.ptr b (0+96)] h1=some (.bool gone):=r1.AF (f:=2) (by omega) rfl;rw[h3];refine aa (z:=true) ?_;cases bf
  ·conv=>whnf
   refine⟨_,l2,?_⟩;conv=>whnf
   refine⟨_,l3,?_⟩;conv=>whnf
   cases gone
   ·conv=>whnf
    refine ED r1 ox Nq (fun h2 fq=>?_);conv=>whnf
    refine br (fun hc=>?_) (fun hc=>?_)<;>(try rw[hc])<;>(conv=>whnf)
    ·exact⟨fq,.inl ⟨rfl,by first|rfl|(simp only[*];rfl),rfl⟩⟩
    ·exact⟨fq,.inr ⟨rfl,by first|rfl|(simp only[*];rfl),rfl⟩⟩
   ·conv=>whnf
    exact⟨Fr.refl _ _,.inr ⟨rfl,rfl,rfl⟩⟩
  ·conv=>whnf
   refine⟨_,l2,?_⟩;conv=>whnf
   exact⟨Fr.refl _ _,.inr ⟨rfl,rfl,rfl⟩⟩
 rintro y e h2 ⟨fq,⟨rfl,hf,g2⟩|⟨rfl,hok,g0⟩⟩
 ·exact ez g2 (hR 3 (by rw[xK,if_neg (by rw[ht];simp),if_pos hf]) h2)
 have hby:xK cs.length ps now bf gone=match gU (IntKind.i64.wrap (now+1)) ps cs.length with
  |none=>.inl 4
  |some qs=>.inr qs:=by rw[xK,if_neg (by rw[ht];simp),if_neg (by rw[hok];simp)];try rfl
 have r2:=r1.keep fq ox Nq;have kq:=cT.trans fq;show VC fs ms _ _ _ _ _ _;refine ak 4 [(0,.ptr b 0)] ⟨g0,trivial⟩ ?_;refine aj true ?_;conv=>whnf
 refine⟨_,r2.AF (f:=0) (by omega) rfl,?_⟩;conv=>whnf
 obtain⟨h4,s4,r4,jY⟩:=r2.xR (v:=.int .i64 (IntKind.i64.wrap (now+1))) (f:=0) (o:=0+94) (tl':=sy (IntKind.i64.wrap (now+1)) bf gone) (by omega) rfl (by simp[sy]) rfl rfl;refine aT s4 fun Uo e4=>?_;subst e4;conv=>whnf
 refine aj true ?_;conv=>whnf
 obtain⟨h5,s5,r5,k9⟩:=r4.xR (v:=.bool false) (f:=1) (o:=0+95) (tl':=sy (IntKind.i64.wrap (now+1)) false gone) (by omega) rfl (by simp[sy]) rfl rfl;refine aT s5 fun O6 e5=>?_;subst e5;conv=>whnf
 refine aj true ?_;conv=>whnf
 obtain⟨h6,s6,r6,tG⟩:=r5.xR (v:=.bool false) (f:=2) (o:=0+96) (tl':=sy (IntKind.i64.wrap (now+1)) false false) (by omega) rfl (by simp[sy]) rfl rfl;refine aT s6 fun O7 e6=>?_;subst e6;conv=>whnf
 have IQ:Fr h0 O7 [b]:=Fr.trans (kq.wk (by simp)) (jY.trans (k9.trans tG));refine az (aj true ?_);conv=>whnf
 refine aL ?_;refine TC (h0:=h0) (ps:=ps) (nw:=IntKind.i64.wrap (now+1)) hb hC rfl (fun qs he e' h' r' fr'=>?_) (fun he e' h' g2=>?_) cs.length 0 O7 ps _ rfl (Nat.zero_le _) rfl r6 IQ ⟨rfl,rfl,trivial⟩
 rotate_left
 ·exact ez g2 (hR 4 (by rw[hby,he]) h')
 show VC fs ms _ _ _ _ _ _;refine ak 4 [] trivial (aa (z:=true) ?_);conv=>whnf
 exact hQ qs (by rw[hby,he]) h' r' fr'
theorem Ci{n:Nat}{now:Int}{bf gone:Bool}{rule:Int}(h:xK n ps now bf gone=.inl rule):0<rule:=by
 unfold xK at h;split at h
 ·simp only[Sum.inl.injEq] at h;omega
 ·split at h
  ·simp only[Sum.inl.injEq] at h;omega
  ·split at h
   ·simp only[Sum.inl.injEq] at h;omega
   ·simp at h
theorem Xc{h0:Heap}{uI:Int}(hto:uI≤10000){B:Nat}{Q:AX→Env→Heap→Prop}:∀(k:Nat) (h:Heap) (ps:List Pr) (now:Int) (bf gone:Bool) (env:Env),RS h b C X (sy now bf gone) cs ps→b<h.next→C<h.next→0≤now→k=(uI-now).toNat→Fr h0 h [b]→
  (∀s:Kn,nV cs.length k ps now bf gone=.inr s→∀e' h',RS h' b C X (sy s.2.1 s.2.2.1 s.2.2.2) cs s.1→Fr h0 h' [b]→Q (.exit 0) e' h')→
  (∀rule,nV cs.length k ps now bf gone=.inl rule→∀e' h',Tr.get e' 4=some (.int .i64 rule)→Q .ret e' h')→
  aP env [(0,.ptr b 0),(1,.int .i64 uI)]→VC fs ms B false (.loop gT) env h Q:=by
 intro k;induction k with
 |zero=>
  intro h ps now bf gone env r hb hC h0n hk fr hQ hR cH;refine ak 4 _ cH ?_;refine bJ (aj true ?_);conv=>whnf
  refine⟨_,r.AF (f:=0) (by omega) rfl,?_⟩;conv=>whnf
  rw[show decide (now<uI)=false from decide_eq_false (by omega)];conv=>whnf
  exact hQ (ps,now,bf,gone) rfl _ _ r fr
 |succ k ih=>
  intro h ps now bf gone env r hb hC h0n hk fr hQ hR cH;refine ak 4 _ cH ?_;refine bJ (aj true ?_);conv=>whnf
  refine⟨_,r.AF (f:=0) (by omega) rfl,?_⟩;conv=>whnf
  rw[show decide (now<uI)=true from decide_eq_true (by omega)];conv=>whnf
  refine aL ?_;refine aa (z:=true) ?_;conv=>whnf
  refine Xa r hb hC (fun qs hs h' r' fr'=>?_) (fun rule hs h'=>?_)
  ·conv=>whnf
   have hw:IntKind.i64.wrap (now+1)=now+1:=IntWalk.i64_in _ (by omega);rw[hw] at r';have hto:nV cs.length (k+1) ps now bf gone=nV cs.length k qs (now+1) false false:=by rw[nV,hs]
   rw[hto] at hQ hR;exact ih h' qs (now+1) false false _ r' (Nat.lt_of_lt_of_le hb fr'.next) (Nat.lt_of_lt_of_le hC fr'.next) (by omega) (by omega) (fr.trans fr') hQ hR ⟨rfl,rfl,trivial⟩
  ·conv=>whnf
   refine kO (decide_eq_true (Ci hs)) (fun hc=>?_)
   (try rw[hc])
   conv=>whnf
   exact hR rule (by rw[nV,hs]) _ h' rfl
theorem Rq{h0:Heap}{now uI:Int}{bf gone:Bool}(r:RS h0 b C X (sy now bf gone) cs ps)(hb:b<h0.next)(hC:C<h0.next)(hn:0≤now)(hto:uI≤10000){Q:AV→Heap→Prop}
  (hQ:∀s:Kn,nV cs.length (uI-now).toNat ps now bf gone=.inr s→∀h',RS h' b C X (sy s.2.1 s.2.2.1 s.2.2.2) cs s.1→Fr h0 h' [b]→Q (.int .i64 0) h')
  (hR:∀rule,nV cs.length (uI-now).toNat ps now bf gone=.inl rule→∀h',Q (.int .i64 rule) h'):VD fs ms 46 [.ptr b 0,.int .i64 uI] h0 Q:=by
 refine bw (af:=XO) rfl (Nat.le_of_ble_eq_true rfl) ?_;conv=>whnf
 refine aj true ?_;conv=>whnf
 refine az (aL ?_);refine Xc hto (uI-now).toNat h0 ps now bf gone _ r hb hC hn rfl (Fr.refl h0 [b]) (fun s hs e' h' r' fr'=>?_) (fun rule hs e' h' g4=>?_) ⟨rfl,rfl,trivial⟩
 ·show VC fs ms _ _ _ _ _ _;refine ak 4 [] trivial (aa (z:=true) ?_);conv=>whnf
  exact hQ s hs h' r' fr'
 ·exact ez g4 (hR rule hs h')
end
end Ir
end Go.Proofs.Ytepdklcpagielaa
set_option maxRecDepth 100000
set_option linter.unusedSimpArgs false
set_option linter.unusedVariables false
namespace Go.Proofs.Ytepdklcpagielaa
open Go Ads
namespace Ir
section
variable {b C:Nat} {X:AV} {cs:List Pt} {ps:List Pr}
theorem Jv{h0:Heap}{un now:Int}{bf gone:Bool}(r:RS h0 b C X (sy now bf gone) cs ps)(hb:b<h0.next)(hC:C<h0.next)(x:Nt){Q:AV→Heap→Prop}
  (hQ:∀h',Fr h0 h' []→Q (.bool (cX cs now un x)) h'):VD fs ms 45 [.ptr b 0,nt x,.int .i64 un] h0 Q:=by
 refine bw (af:=XN) rfl (Nat.le_of_ble_eq_true rfl) ?_;conv=>whnf
 refine aj true ?_;conv=>whnf
 have gs:(h0.new (.cells (nt x).cells true 0)).get h0.next=some (.cells (nt x).cells true 0):=an;have cT:Fr h0 (h0.new (.cells (nt x).cells true 0)) []:=(Fr.refl h0 []).new;have r1:=r.keep cT hb hC;have hq:=hQ _ cT;clear hQ;generalize h0.new (.cells (nt x).cells true 0)=h1 at*;generalize h0.next=pn at*;have Td:rV .bC [.ptr b (0+94)] h1=some (.int .i64 now):=r1.AF (f:=0) (by omega) rfl;have za:rV .bC [.ptr b (0+0+0)] h1=some (.sl C 0 cs.length cs.length true):=bA r1.st rfl;have hS:cX cs now un x=if(decide (x.a<now)||(decide (x.a>un)||(decide (x.k<1)||(decide (x.k>8)||(decide (x.p<0)||decide (x.p≥(cs.length:Nat)))))))=true then false
  else if bQ x=true then x.t==0 else(decide (x.t≥0)||(x.t==-1&&x.k==1))&&decide (x.t<(lT cs x.p:Nat)):=rfl
 refine az (VC.mono (Q:=fun y e h=>h=h1∧((y=.ret∧(decide (x.a<now)||(decide (x.a>un)||(decide (x.k<1)||(decide (x.k>8)||(decide (x.p<0)||decide (x.p≥(cs.length:Nat)))))))=true∧Tr.get e 6=some (.bool false))∨(y=.normal∧(decide (x.a<now)||(decide (x.a>un)||(decide (x.k<1)||(decide (x.k>8)||(decide (x.p<0)||decide (x.p≥(cs.length:Nat)))))))=false∧aP e [(0,.ptr b 0),(4,.ptr pn 0)]))) ?_ ?_)
 ·clear hS hq;refine aa (z:=true) ?_;conv=>whnf
  iterate 14 (all_goals (first|(refine⟨_,bA gs rfl,?_⟩;conv=>whnf)|(refine⟨_,Td,?_⟩;conv=>whnf)|(refine⟨_,za,?_⟩;conv=>whnf)|(refine br (fun hc=>?_) (fun hc=>?_)<;>(try rw[hc])<;>(conv=>whnf))|skip))
  all_goals (first|(refine⟨rfl,.inl ⟨rfl,?_,rfl⟩⟩;(first|rfl|(simp only[*];done)|(simp only[*];rfl)))|(refine⟨rfl,.inr ⟨rfl,?_,rfl,rfl,trivial⟩⟩;(first|rfl|(simp only[*];done)|(simp only[*];rfl))))
 rintro y e h ⟨rfl,⟨rfl,ur,g6⟩|⟨rfl,ve,he⟩⟩
 ·rw[hS,if_pos ur] at hq;exact ez g6 hq
 rw[if_neg (by rw[ve];simp)] at hS;simp only[Bool.or_eq_false_iff,decide_eq_false_iff_not] at ve;obtain⟨j,hj,Zc,xP⟩:=sx (cs:=cs) (i:=x.p) (by omega) (by omega);rw[xP] at hS;show VC fs ms _ _ _ _ _ _;refine ak 4 _ he ?_;clear he;have hend:∀v,cX cs now un x=v→Q (.bool v) h:=fun v hv=>hv▸hq;clear hq;refine az (VC.mono (Q:=fun y e h'=>h'=h∧((y=.ret∧bQ x=true∧Tr.get e 6=some (.bool (x.t==0)))∨(y=.normal∧bQ x=false∧aP e [(0,.ptr b 0),(4,.ptr pn 0)]))) ?_ ?_)
 ·clear hend;refine aa (z:=true) ?_;conv=>whnf
  iterate 7 (all_goals (first|(refine⟨_,bA gs rfl,?_⟩;conv=>whnf)|(refine br (fun hc=>?_) (fun hc=>?_)<;>(try rw[hc])<;>(conv=>whnf))|skip))
  all_goals (first|(refine⟨rfl,.inl ⟨rfl,?_,rfl⟩⟩;(first|rfl|(simp only[bQ, *];done)|(simp only[bQ, *];rfl)))|(refine⟨rfl,.inr ⟨rfl,?_,rfl,rfl,trivial⟩⟩;(first|rfl|(simp only[bQ, *];done)|(simp only[bQ, *];rfl))))
 rintro y e h' ⟨rfl,⟨rfl,hw,g6⟩|⟨rfl,hw,he⟩⟩
 ·rw[if_pos hw] at hS;exact ez g6 (hend _ hS)
 rw[if_neg (by rw[hw];simp)] at hS;show VC fs ms _ _ _ _ _ _;refine ak 4 _ he ?_;clear he;have lpt:rV .bC [.ptr C (0+j*3+2)] h'=some (.fz cs[j].k (dI cs[j].ts)):=r1.Nz hj (f:=2) (by omega) (by omega) rfl;refine aj true ?_;conv=>whnf
 refine az (VC.mono (Q:=fun y e h2=>y=.normal∧h2=h'∧aP e [(0,.ptr b 0),(4,.ptr pn 0),(7,.int .i64 (if(x.k==1)=true then-1 else 0))]) ?_ ?_)
 ·refine aa (z:=true) ?_;conv=>whnf
  iterate 2 (all_goals (first|(refine⟨_,bA gs rfl,?_⟩;conv=>whnf)|(refine br (fun hc=>?_) (fun hc=>?_)<;>(try rw[hc])<;>(conv=>whnf))|skip))
  ·exact⟨rfl,rfl,rfl,rfl,by first|rfl|(rw[if_pos hc];rfl),trivial⟩
  ·exact⟨rfl,rfl,rfl,rfl,by first|rfl|(rw[if_neg (by rw[hc];simp)];rfl),trivial⟩
 rintro y e h2 ⟨rfl,rfl,he⟩;show VC fs ms _ _ _ _ _ _;refine ak 4 _ he (aa (z:=true) ?_);clear he;have hl:(decide (x.t≥0)||(x.t==-1&&x.k==1))=decide (x.t≥(if(x.k==1)=true then-1 else 0)):=by
  by_cases h1:x.k=1
  ·rw[if_pos (by simpa using h1),Bool.eq_iff_iff];simp[h1];omega
  ·rw[if_neg (by simpa using h1),Bool.eq_iff_iff];simp[h1]
 rw[hl] at hS;generalize(if(x.k==1)=true then(-1:Int) else 0)=least at*;conv=>whnf
 refine⟨_,bA gs rfl,?_⟩;conv=>whnf
 refine br (fun hc=>?_) (fun hc=>?_)<;>(try rw[hc])<;>(conv=>whnf)
 ·refine⟨_,bA gs rfl,?_⟩;conv=>whnf
  refine⟨_,za,?_⟩;conv=>whnf
  refine⟨_,bA gs rfl,?_⟩;conv=>whnf
  rw[Zc];refine⟨_,gI hj,?_⟩;conv=>whnf
  refine⟨_,lpt,?_⟩;conv=>whnf
  rw[bM];exact hend _ (by rw[hS,hc,Bool.true_and])
 ·exact hend _ (by rw[hS,hc,Bool.false_and])
theorem Qa(p:Pr):PC fs ms 95 [.agg (dG p)] (.bool p.some):=by
 refine aX rfl rfl ?_;refine aC (af:=YA) false rfl (Nat.le_of_ble_eq_true rfl) ?_;generalize hQ:(fun(v:AV) (_:Heap)=>v=.bool p.some)=Q;have hk:∀(b:Bool) h,p.some=b→Q (.bool b) h:=by subst hQ;intro b h hb;rw[hb]
 clear hQ;unfold Pr.some at hk;conv=>whnf
 iterate 10 (all_goals (first|(refine⟨.ptr _ _,(rfl:pV _ _=_),?_⟩;conv=>whnf)|(refine br (fun hc=>?_) (fun hc=>?_)<;>(try rw[hc])<;>(conv=>whnf))|skip))
 all_goals (refine hk _ _ ?_;(first|rfl|(simp only[*];done)|(simp only[*];rfl)))
theorem LV{p:Pr}{k o:Nat}{h:Heap}{b es:Nat}(hg:h.get b=some (.cells (dG p) true es))(hk:k<4)(f:Nat)(hf:f<4)(ho:o=5+k*4+f){v:AV}(hv:(I3 (p.js k))[f]?=some v):rV .bC [.ptr b o] h=some v:=by
 subst ho;exact bA hg ((y7 hk hf).trans hv)
theorem ME(p:Pr)(x:Nt)(hk:1≤x.k∧x.k≤8)(ht:x.k≤5→(x.t=-1∧x.k=1)∨(0≤x.t∧x.t<4)):PC fs ms 71 [.agg (dG p),nt x] (.bool (kK p x)):=by
 obtain⟨a,k,q,t,n,e,s⟩:=x;simp only at hk ht;refine aX rfl rfl ?_;generalize(⟨0,.nil⟩:Heap)=h0;refine bw (af:=Yh) rfl (Nat.le_of_ble_eq_true rfl) ?_;generalize hQ:(fun(v:AV) (_:Heap)=>v=.bool (kK p ⟨a,k,q,t,n,e,s⟩))=Q;have hend:∀(b:Bool) h,kK p ⟨a,k,q,t,n,e,s⟩=b→Q (.bool b) h:=by subst hQ;intro b h hb;rw[hb]
 clear hQ;conv=>whnf
 refine aj true ?_;conv=>whnf
 have g2:((h0.new (.cells (AV.agg (dG p)).cells true 0)).new (.cells (nt ⟨a,k,q,t,n,e,s⟩).cells true 0)).get h0.next=some (.cells (dG p) true 0):=(aO (Nat.lt_succ_self _)).trans an;have g3:((h0.new (.cells (AV.agg (dG p)).cells true 0)).new (.cells (nt ⟨a,k,q,t,n,e,s⟩).cells true 0)).get (h0.new (.cells (AV.agg (dG p)).cells true 0)).next=some (.cells (nt ⟨a,k,q,t,n,e,s⟩).cells true 0):=an
 generalize(h0.new (.cells (AV.agg (dG p)).cells true 0)).new (.cells (nt ⟨a,k,q,t,n,e,s⟩).cells true 0)=h1 at*;generalize(h0.new (.cells (AV.agg (dG p)).cells true 0)).next=p3 at*
 generalize h0.next=p2 at*;refine aa (z:=true) ?_;have Q1:k=1∨k=2∨k=3∨k=4∨k=5∨k=6∨k=7∨k=8:=by omega
 by_cases h5:k≤5
 ·rcases ht h5 with⟨rfl,rfl⟩|⟨t0,t4⟩
  ·conv=>whnf
   iterate 8 (all_goals (first|(refine⟨_,bA g3 rfl,?_⟩;conv=>whnf)|(refine⟨_,bA g2 rfl,?_⟩;conv=>whnf)|(refine br (fun hc=>?_) (fun hc=>?_)<;>(try rw[hc])<;>(conv=>whnf))|skip))
   all_goals (exact hend _ _ rfl)
  ·obtain⟨j,rfl⟩:∃j:Nat,t=(j:Nat):=⟨t.toNat,by omega⟩;have hj:j<4:=by omega
   have hidx:pV (.bT 4 4) [.ptr p2 (0+5),.int .i64 ((j:Nat):Int)]=some (.ptr p2 (0+5+j*4)):=dr hj;have IX:rV .bC [.ptr p2 (0+5+j*4+0)] h1=some (.bool (p.js j).is):=LV g2 hj 0 (by omega) (by omega) rfl;have hth:∀k,k=1∨k=2∨k=3∨k=4∨k=5→kK p ⟨a,k,q,(j:Nat),n,e,s⟩=if(k==2)=true then(e !=0||!(p.js j).is) else(p.js j).is:=by
    intro k hk;have h1:(((j:Nat):Int)==-1)=false:=beq_eq_false_iff_ne.2 (by omega);rcases hk with rfl|rfl|rfl|rfl|rfl<;>simp[kK,bQ,h1]
   have hh:k=1∨k=2∨k=3∨k=4∨k=5:=by omega
   have abZ:=hth k hh;have h10:decide (((j:Nat):Int)<0)=false:=decide_eq_false (by omega);rcases hh with rfl|rfl|rfl|rfl|rfl
   all_goals (conv=>whnf)
   iterate 8 (all_goals (first|(refine⟨_,bA g3 rfl,?_⟩;conv=>whnf)|(refine⟨_,hidx,?_⟩;conv=>whnf)|(refine⟨_,IX,?_⟩;conv=>whnf)|(refine br (fun hc=>?_) (fun hc=>?_)<;>(try rw[hc])<;>(conv=>whnf))|skip))
   all_goals (first|(refine hend _ _ ?_;rw[abZ];(first|rfl|(simp only[*];done)|(simp only[*];rfl)))|(exfalso;simp_all;done))
 ·have hh:k=6∨k=7∨k=8:=by omega
  have hsm:rV (.bn 23) [.ptr p2 0] h1=some (.agg (dG p)):=tU g2 (Nat.le_refl _);rcases hh with rfl|rfl|rfl
  all_goals (conv=>whnf)
  iterate 4 (all_goals (first|(refine⟨_,bA g3 rfl,?_⟩;conv=>whnf)|(refine⟨_,hsm,?_⟩;conv=>whnf)|(refine au (Qa p) ?_;conv=>whnf)|(refine br (fun hc=>?_) (fun hc=>?_)<;>(try rw[hc])<;>(conv=>whnf))|skip))
  all_goals (exact hend _ _ rfl)
def fU(p:Pr)(x:Nt)(t:Tk):Bool:=
 if(x.k !=1&&(x.k !=3&&x.k !=5))=true then true
 else decide (x.a<IntKind.i64.wrap ((p.js x.t.toNat).tm+t.d))&&(x.k !=1||decide ((p.js x.t.toNat).bf<t.w))
theorem Jx(p:Pr)(x:Nt)(t:Tk)(ht:1≤x.k→x.k≤5→0≤x.t∧x.t<4):PC fs ms 72 [.agg (dG p),nt x,tk t] (.bool (fU p x t)):=by
 refine aX rfl rfl ?_;generalize(⟨0,.nil⟩:Heap)=h0;refine bw (af:=Yi) rfl (Nat.le_of_ble_eq_true rfl) ?_;generalize hQ:(fun(v:AV) (_:Heap)=>v=.bool (fU p x t))=Q;have hend:∀(b:Bool) h,fU p x t=b→Q (.bool b) h:=by subst hQ;intro b h hb;rw[hb]
 clear hQ;conv=>whnf
 refine aj true ?_;conv=>whnf
 have g3:(((h0.new (.cells (AV.agg (dG p)).cells true 0)).new (.cells (nt x).cells true 0)).new (.cells (tk t).cells true 0)).get h0.next=some (.cells (dG p) true 0):=(aO (h:=(h0.new (.cells (AV.agg (dG p)).cells true 0)).new (.cells (nt x).cells true 0)) (show h0.next<h0.next+1+1 by omega)).trans ((aO (Nat.lt_succ_self _)).trans an);have g4:(((h0.new (.cells (AV.agg (dG p)).cells true 0)).new (.cells (nt x).cells true 0)).new (.cells (tk t).cells true 0)).get (h0.new (.cells (AV.agg (dG p)).cells true 0)).next=some (.cells (nt x).cells true 0):=(aO (Nat.lt_succ_self _)).trans an
 have g5:(((h0.new (.cells (AV.agg (dG p)).cells true 0)).new (.cells (nt x).cells true 0)).new (.cells (tk t).cells true 0)).get ((h0.new (.cells (AV.agg (dG p)).cells true 0)).new (.cells (nt x).cells true 0)).next=some (.cells (tk t).cells true 0):=an
 have l3:h0.next<(((h0.new (.cells (AV.agg (dG p)).cells true 0)).new (.cells (nt x).cells true 0)).new (.cells (tk t).cells true 0)).next:=by show h0.next<h0.next+1+1+1;omega
 have l4:(h0.new (.cells (AV.agg (dG p)).cells true 0)).next<(((h0.new (.cells (AV.agg (dG p)).cells true 0)).new (.cells (nt x).cells true 0)).new (.cells (tk t).cells true 0)).next:=by show h0.next+1<h0.next+1+1+1;omega
 have l5:((h0.new (.cells (AV.agg (dG p)).cells true 0)).new (.cells (nt x).cells true 0)).next<(((h0.new (.cells (AV.agg (dG p)).cells true 0)).new (.cells (nt x).cells true 0)).new (.cells (tk t).cells true 0)).next:=by show h0.next+1+1<h0.next+1+1+1;omega
 generalize((h0.new (.cells (AV.agg (dG p)).cells true 0)).new (.cells (nt x).cells true 0)).new (.cells (tk t).cells true 0)=h1 at*;generalize((h0.new (.cells (AV.agg (dG p)).cells true 0)).new (.cells (nt x).cells true 0)).next=p5 at*
 generalize(h0.new (.cells (AV.agg (dG p)).cells true 0)).next=p4 at*
 generalize h0.next=p3 at*;unfold fU at hend;refine az (VC.mono (Q:=fun y e h=>h=h1∧((y=.ret∧(x.k !=1&&(x.k !=3&&x.k !=5))=true∧Tr.get e 6=some (.bool true))∨(y=.normal∧(x.k !=1&&(x.k !=3&&x.k !=5))=false∧aP e [(3,.ptr p3 0),(4,.ptr p4 0),(5,.ptr p5 0)]))) ?_ ?_)
 ·clear hend;refine aa (z:=true) ?_;conv=>whnf
  iterate 7 (all_goals (first|(refine⟨_,bA g4 rfl,?_⟩;conv=>whnf)|(refine br (fun hc=>?_) (fun hc=>?_)<;>(try rw[hc])<;>(conv=>whnf))|skip))
  all_goals (first|(refine⟨rfl,.inl ⟨rfl,?_,rfl⟩⟩;(first|rfl|(simp only[*];done)|(simp only[*];rfl)))|(refine⟨rfl,.inr ⟨rfl,?_,rfl,rfl,rfl,trivial⟩⟩;(first|rfl|(simp only[*];done)|(simp only[*];rfl))))
 rintro y e h ⟨rfl,⟨rfl,hk,g6⟩|⟨rfl,hk,he⟩⟩
 ·exact ez g6 (hend _ _ (if_pos hk))
 have hkk:1≤x.k∧x.k≤5:=by
  simp at hk;omega
 obtain⟨t0,t4⟩:=ht hkk.1 hkk.2;have hxt:x.t=((x.t.toNat:Nat):Int):=by omega
 have hj:x.t.toNat<4:=by omega
 have VM:=fun b h hb=>hend b h ((if_neg (by rw[hk];simp)).trans hb);clear hend;generalize hjn:x.t.toNat=jn at*;show VC fs ms _ _ _ _ _ _;refine ak 4 _ he ?_;clear he;refine aj true ?_;conv=>whnf
 refine⟨_,bA g4 rfl,?_⟩;conv=>whnf
 rw[hxt];refine⟨_,dr hj,?_⟩;conv=>whnf
 have IX:rV (.bn 4) [.ptr p3 (0+5+jn*4)] h=some (.agg (I3 (p.js jn))):=by
  rw[tU g3 (by rw[jT];omega)]
  match jn,hj with
  |0,_=>rfl
  |1,_=>rfl
  |2,_=>rfl
  |3,_=>rfl
 refine⟨_,IX,?_⟩;conv=>whnf
 refine aT (cD (n:=4) (v:=.agg (I3 (p.js jn))) an rfl (Nat.le_refl _) rfl) fun h2 e2=>?_;conv=>whnf
 have k3:h2.get h.next=some (.cells (I3 (p.js jn)) true 0):=by rw[e2,aG];rfl
 have k4:h2.get p4=some (.cells (nt x).cells true 0):=by rw[e2,bB (by omega),aO l4];exact g4
 have k5:h2.get p5=some (.cells (tk t).cells true 0):=by rw[e2,bB (by omega),aO l5];exact g5
 clear e2;refine aa (z:=true) ?_;conv=>whnf
 iterate 10 (all_goals (first|(refine⟨_,bA k3 rfl,?_⟩;conv=>whnf)|(refine⟨_,bA k4 rfl,?_⟩;conv=>whnf)|(refine⟨_,bA k5 rfl,?_⟩;conv=>whnf)|(refine br (fun hc=>?_) (fun hc=>?_)<;>(try rw[hc])<;>(conv=>whnf))|skip))
 all_goals (refine VM _ _ ?_;(first|rfl|(simp only[*];done)|(simp only[*];rfl)))
end
end Ir
end Go.Proofs.Ytepdklcpagielaa
set_option maxRecDepth 100000
set_option linter.unusedSimpArgs false
set_option linter.unusedVariables false
namespace Go.Proofs.Ytepdklcpagielaa
open Go Ads
namespace Ir
section
variable {b C:Nat} {X:AV} {tl:List AV} {cs:List Pt} {ps:List Pr}
theorem MD{h:Heap}(r:RS h b C X tl cs ps)(hwf:G1 cs ps){own g:Int}{B:Nat}{Q:AX→Env→Heap→Prop}
  (hF:fo cs ps own g cs.length=false→∀e',Q (.exit 0) e' h)
  (hT:fo cs ps own g cs.length=true→∀e',Tr.get e' 6=some (.bool true)→Q .ret e' h):
  ∀(m j:Nat) (env:Env),cs.length-j=m→j≤cs.length→fo cs ps own g j=false→aP env [(0,.ptr b 0),(1,.int .i64 own),(2,.int .i64 g),(7,.int .i64 ((j:Nat):Int))]→
  VC fs ms B false (.loop dS) env h Q:=by
 intro m;induction m using Nat.strongRecOn with
 |ind m ih=>
 intro j env hm hj hi cH;have hle:=r.le;have hlen:=r.len;refine ak 4 _ cH ?_;refine bJ (aj true ?_);conv=>whnf
 refine⟨_,bA r.st rfl,?_⟩;conv=>whnf
 refine br (fun hc=>?_) (fun hc=>?_)<;>(try rw[hc])<;>(conv=>whnf)
 ·have hlt:j<cs.length:=by have:=of_decide_eq_true hc;omega
  have qT:j<ps.length:=by omega
  have ir:fo cs ps own g (j+1)=iZ cs own g j ps[j]:=by
   show(fo cs ps own g j||(match ps[j]? with|some p=>iZ cs own g j p|none=>false))=_;rw[hi,List.getElem?_eq_getElem qT,Bool.false_or]
  have hno:iZ cs own g j ps[j]=false→∀e',aP e' [(0,.ptr b 0),(1,.int .i64 own),(2,.int .i64 g),(7,.int .i64 (((j+1:Nat):Nat):Int))]→VC fs ms B false (.loop dS) e' h Q:=fun hf e' he=>
   ih (cs.length-(j+1)) (by omega) (j+1) e' rfl (by omega) (by rw[ir];exact hf) he
  have hyes:iZ cs own g j ps[j]=true→∀e',Tr.get e' 6=some (.bool true)→Q .ret e' h:=fun hf=>hT (by
   have:=sv (ir.trans hf) (cs.length-(j+1))
   rwa [show j+1+(cs.length-(j+1))=cs.length by omega] at this)
  have hw:=hwf j hlt qT;clear ih hF hT ir;have i1:pV (.bT 23 4) [.ptr b (0+2),.int .i64 ((j:Nat):Int)]=some (.ptr b (0+2+j*23)):=dr (by omega);have acm:rV .bC [.ptr b (0+2+j*23+21)] h=some (.bool ps[j].has):=r.ld qT (f:=21) (by omega) (by omega) rfl;have WQ:rV .bC [.ptr b (0+2+j*23+22)] h=some (.int .i64 ps[j].task):=r.ld qT (f:=22) (by omega) (by omega) rfl;have za:rV .bC [.ptr b (0+0+0)] h=some (.sl C 0 cs.length cs.length true):=bA r.st rfl;have i2:pV (.aE 3) [.sl C 0 cs.length cs.length true,.int .i64 ((j:Nat):Int)]=some (.ptr C (0+j*3)):=gI hlt;have UA:rV .bC [.ptr C (0+j*3+2)] h=some (.fz cs[j].k (dI cs[j].ts)):=r.Nz hlt (f:=2) (by omega) (by omega) rfl;unfold iZ at hno hyes;generalize hp:ps[j]=p at*;refine az (aL ?_);refine aa (z:=true) ?_;conv=>whnf
  refine br (fun hc=>?_) (fun hc=>?_)<;>(try rw[hc])<;>(conv=>whnf)
  ·have Q0:=hc;refine⟨_,i1,?_⟩;conv=>whnf
   refine⟨_,acm,?_⟩;conv=>whnf
   refine br (fun hc=>?_) (fun hc=>?_)<;>(try rw[hc])<;>(conv=>whnf)
   ·obtain⟨w0,w1⟩:=hw hc;obtain⟨JO,t1,t2⟩:=xY hlt w0 w1;refine⟨_,za,?_⟩;conv=>whnf
    refine⟨_,i2,?_⟩;conv=>whnf
    refine⟨_,UA,?_⟩;conv=>whnf
    refine⟨_,i1,?_⟩;conv=>whnf
    refine⟨_,WQ,?_⟩;conv=>whnf
    refine⟨_,t1,?_⟩;conv=>whnf
    refine⟨.int .i64 JO.c,rfl,?_⟩;conv=>whnf
    rw[t2] at hno hyes;refine br (fun hc=>?_) (fun hc=>?_)<;>(try rw[hc])<;>(conv=>whnf)
    ·exact hyes (by(first|rfl|(simp only[*];done)|(simp only[*];rfl))) _ rfl
    ·refine aa (z:=true) ?_;conv=>whnf
     exact hno (by(first|rfl|(simp only[*];done)|(simp only[*];rfl))) _ ⟨rfl,rfl,rfl,ay (by omega),trivial⟩
   ·refine aa (z:=true) ?_;conv=>whnf
    exact hno (by(first|rfl|(simp only[Bool.and_false,Bool.false_and, *];done)|(simp only[Bool.and_false,Bool.false_and, *];rfl))) _ ⟨rfl,rfl,rfl,ay (by omega),trivial⟩
  ·refine aa (z:=true) ?_;conv=>whnf
   exact hno (by(first|rfl|(simp only[Bool.and_false,Bool.false_and, *];done)|(simp only[Bool.and_false,Bool.false_and, *];rfl))) _ ⟨rfl,rfl,rfl,ay (by omega),trivial⟩
 ·have hge:j=cs.length:=by have:=of_decide_eq_false hc;omega
  subst hge;exact hF hi _
theorem MC{h:Heap}(r:RS h b C X tl cs ps)(hwf:G1 cs ps){own g:Int}{Q:AV→Heap→Prop}(hQ:Q (.bool (fo cs ps own g cs.length)) h):VD fs ms 96 [.ptr b 0,.int .i64 own,.int .i64 g] h Q:=by
 refine bw (af:=YB) rfl (Nat.le_of_ble_eq_true rfl) ?_;conv=>whnf
 refine aj true ?_;conv=>whnf
 refine az (aj true ?_);conv=>whnf
 refine aL ?_;refine MD r hwf (own:=own) (g:=g) (fun hf e'=>?_) (fun ht e' g6=>?_) cs.length 0 _ rfl (Nat.zero_le _) rfl ⟨rfl,rfl,rfl,rfl,trivial⟩
 ·rw[hf] at hQ;show VC fs ms _ _ _ _ _ _;refine ak 4 [] trivial (aa (z:=true) ?_);conv=>whnf
  exact hQ
 ·rw[ht] at hQ;exact ez g6 hQ
theorem Jw{h0:Heap}(r:RS h0 b C X tl cs ps)(hb:b<h0.next)(hC:C<h0.next)(hwf:G1 cs ps){i:Nat}(hi:i<cs.length)(oe:i<ps.length)(x:Nt)(oy:x.p=((i:Nat):Int))(ht:x.k=5→0≤x.t∧x.t<(cs[i].ts.length:Nat)){Q:AV→Heap→Prop}
  (hQ:∀h',Fr h0 h' []→Q (.bool (eS cs ps ps[i] x)) h'):VD fs ms 73 [.ptr b 0,nt x] h0 Q:=by
 have hlen:=r.len;have hS:eS cs ps ps[i] x=bif (x.k==1) then !ps[i].has||ps[i].task==x.t else bif (x.k !=5||x.e !=0) then true else bif (x.n==4) then !ps[i].has&&(decide (qL cs i x.t>0)&&!fo cs ps x.p (qL cs i x.t) cs.length) else(x.n !=5||(ps[i].has&&ps[i].task==x.t)):=by
  rw[eS,oy,Int.toNat_natCast];cases h1:(x.k==1)
  ·cases h2:(x.k !=5||x.e !=0)
   ·cases h4:(x.n==4)
    ·have h6:(x.n !=4)=true:=by simp[bne,h4]
     cases h5:(x.n==5)<;>simp[h1,h2,h4,h5,h6,bne]
    ·have h5:(x.n==5)=false:=by
      have:x.n=4:=by simpa using h4
      rw[this];rfl
     have h6:(x.n !=4)=false:=by simp[bne,h4]
     simp[h1,h2,h4,h5,h6];cases fo cs ps (i:Nat) (qL cs i x.t) cs.length<;>cases ps[i].has<;>simp
   ·simp[h1,h2]
  ·simp[h1]
 rw[hS] at hQ;clear hS;refine bw (af:=Yj) rfl (Nat.le_of_ble_eq_true rfl) ?_;conv=>whnf
 refine aj true ?_;conv=>whnf
 have gs:(h0.new (.cells (nt x).cells true 0)).get h0.next=some (.cells (nt x).cells true 0):=an;have cT:Fr h0 (h0.new (.cells (nt x).cells true 0)) []:=(Fr.refl h0 []).new;have n1:h0.next<(h0.new (.cells (nt x).cells true 0)).next:=Nat.lt_succ_self _
 have r1:=r.keep cT hb hC;generalize h0.new (.cells (nt x).cells true 0)=h1 at*;refine aj true ?_;conv=>whnf
 refine⟨_,bA gs rfl,?_⟩;conv=>whnf
 rw[oy];refine⟨_,dr (by omega),?_⟩;conv=>whnf
 refine⟨_,r1.whole oe (by omega),?_⟩;conv=>whnf
 refine aT (cD (n:=23) (v:=.agg (dG ps[i])) an rfl (Nat.le_refl _) rfl) fun h2 e2=>?_;conv=>whnf
 have gp:h2.get h1.next=some (.cells (dG ps[i]) true 0):=by rw[e2,aG];rfl
 have fq:Fr h1 h2 []:=by rw[e2];exact((Fr.refl h1 []).new (x:=_)).lD (Nat.le_refl _)
 have qM:h2.get h0.next=some (.cells (nt x).cells true 0):=(fq.keep _ n1 (by simp)).trans gs;have kq:=cT.trans fq;have r2:=r.keep kq hb hC;have hq:=hQ h2 kq;clear e2 r1 gs cT hQ;generalize h1.next=pp at*;generalize h0.next=pn at*;refine az (aa (z:=true) ?_);conv=>whnf
 refine⟨_,bA qM rfl,?_⟩;conv=>whnf
 refine br (fun hc=>?_) (fun hc=>?_)<;>(try rw[hc])<;>(conv=>whnf)
 ·rw[hc,cond_true] at hq;iterate 6 (all_goals (first|(refine⟨_,bA gp rfl,?_⟩;conv=>whnf)|(refine⟨_,bA qM rfl,?_⟩;conv=>whnf)|(refine br (fun hc=>?_) (fun hc=>?_)<;>(try rw[hc])<;>(conv=>whnf))|skip))
  all_goals (first|(rw[hc] at hq;exact hq)|(simp only[*,Bool.not_true,Bool.not_false,Bool.false_or,Bool.true_or] at hq;exact hq))
 ·rw[hc,cond_false] at hq;refine az (VC.mono (Q:=fun y e h=>h=h2∧((y=.ret∧(x.k !=5||x.e !=0)=true∧Tr.get e 4=some (.bool true))∨(y=.normal∧(x.k !=5||x.e !=0)=false∧aP e [(0,.ptr b 0),(3,.ptr pn 0),(5,.ptr pp 0)]))) ?_ ?_)
  ·clear hq;refine aa (z:=true) ?_;conv=>whnf
   iterate 6 (all_goals (first|(refine⟨_,bA qM rfl,?_⟩;conv=>whnf)|(refine br (fun hc=>?_) (fun hc=>?_)<;>(try rw[hc])<;>(conv=>whnf))|skip))
   all_goals (first|(refine⟨rfl,.inl ⟨rfl,?_,rfl⟩⟩;(first|rfl|(simp only[*];done)|(simp only[*];rfl)))|(refine⟨rfl,.inr ⟨rfl,?_,rfl,rfl,rfl,trivial⟩⟩;(first|rfl|(simp only[*];done)|(simp only[*];rfl))))
  rintro y e h ⟨rfl,⟨rfl,Cy,g4⟩|⟨rfl,Cy,he⟩⟩
  ·rw[Cy,cond_true] at hq;exact ez g4 hq
  rw[Cy,cond_false] at hq;have hxk:x.k=5:=by simp at Cy;exact Cy.1
  obtain⟨w0,w1⟩:=ht hxk;obtain⟨JO,t1,t2⟩:=xY hi w0 w1;rw[t2] at hq;show VC fs ms _ _ _ _ _ _;refine ak 4 _ he ?_;clear he;refine az (aj true ?_);conv=>whnf
  refine⟨_,bA qM rfl,?_⟩;conv=>whnf
  cases h4:(x.n==4) with
  |true=>
   rw[h4,cond_true] at hq;refine aa (z:=true) ?_;conv=>whnf
   refine⟨_,bA r2.st rfl,?_⟩;conv=>whnf
   refine⟨_,bA qM rfl,?_⟩;conv=>whnf
   rw[oy];refine⟨_,gI hi,?_⟩;conv=>whnf
   refine⟨_,r2.Nz hi (f:=2) (by omega) (by omega) rfl,?_⟩;conv=>whnf
   refine⟨_,bA qM rfl,?_⟩;conv=>whnf
   refine⟨_,t1,?_⟩;conv=>whnf
   refine⟨.int .i64 JO.c,rfl,?_⟩;conv=>whnf
   refine⟨_,bA gp rfl,?_⟩;conv=>whnf
   refine br (fun hc=>?_) (fun hc=>?_)<;>(try rw[hc])<;>(conv=>whnf)
   ·have Q0:=hc;refine br (fun hc=>?_) (fun hc=>?_)<;>(try rw[hc])<;>(conv=>whnf)
    ·refine⟨_,bA qM rfl,?_⟩;conv=>whnf
     refine MC r2 hwf ?_;conv=>whnf
     rw[Q0,hc,Bool.true_and,Bool.true_and] at hq;exact hq
    ·rw[Q0,hc,Bool.false_and,Bool.and_false] at hq;exact hq
   ·rw[hc,Bool.false_and] at hq;exact hq
  |false=>
   rw[h4,cond_false] at hq;refine aa (z:=true) ?_;conv=>whnf
   refine aa (z:=true) ?_;conv=>whnf
   iterate 8 (all_goals (first|(refine⟨_,bA gp rfl,?_⟩;conv=>whnf)|(refine⟨_,bA qM rfl,?_⟩;conv=>whnf)|(refine br (fun hc=>?_) (fun hc=>?_)<;>(try rw[hc])<;>(conv=>whnf))|skip))
   all_goals (first|exact hq|(simp only[*,Bool.not_true,Bool.not_false,Bool.false_or,Bool.true_or,Bool.true_and,Bool.false_and] at hq;exact hq))
end
end Ir
end Go.Proofs.Ytepdklcpagielaa
set_option maxRecDepth 100000
set_option linter.unusedSimpArgs false
set_option linter.unusedVariables false
namespace Go.Proofs.Ytepdklcpagielaa
open Go Ads
namespace Ir
def iA(cs:List Pt)(ps:List Pr)(bf:Bool)(p:Pr)(t:Tk)(x:Nt):Int:=
 if(p.xx==(x.k==6))=true then 2
 else if(x.k==1&&(bf||iS (cr ps cs.length)!=x.p))=true then 3
 else if(!kK p x)=true then 5
 else if((x.k==2&&x.e==0)&&decide (x.a<(p.js x.t.toNat).nx))=true then 6
 else if(decide (x.t≥0)&&!fU p x t)=true then 7
 else if(!eS cs ps p x)=true then 8 else 0
structure UL(cs:List Pt)(i:Nat)(x:Nt):Prop where
 hi:i<cs.length
 xp:x.p=((i:Nat):Int)
 k1:1≤x.k
 k8:x.k≤8
 tw:bQ x=true→x.t=0
 tn:bQ x=false→(0≤x.t∨(x.t=-1∧x.k=1))∧x.t<(cs[i].ts.length:Nat)
 t4:cs[i].ts.length≤4
theorem nv{x:Nt}(h:x.k≤5):bQ x=false:=by
 simp[bQ];omega
theorem T9{x:Nt}(h:6≤x.k)(h8:x.k≤8):bQ x=true:=by
 simp[bQ];omega
theorem UL.low{cs:List Pt}{i:Nat}{x:Nt}(s:UL cs i x)(h:x.k≤5):(x.t=-1∧x.k=1)∨(0≤x.t∧x.t<4):=by
 obtain⟨a,b⟩:=s.tn (nv h);have:=s.t4;omega
theorem Xw:(AV.agg [.int .i64 0,.int .i64 0,.int .i64 0,.int .i64 0,.int .i64 0,.int .i64 0,.int .i64 0,.int .i64 0])=tk jv:=rfl
section
variable {b C:Nat} {X:AV} {cs:List Pt} {ps:List Pr}
theorem Jt{h0:Heap}{now:Int}{bf gone:Bool}(r:RS h0 b C X (sy now bf gone) cs ps)(hb:b<h0.next)(hC:C<h0.next)(hwf:G1 cs ps){i:Nat}{x:Nt}(sh:UL cs i x)(hi:i<cs.length)(oe:i<ps.length){Q:AV→Heap→Prop}
  (hQ:∀h',Fr h0 h' []→Q (.int .i64 (iA cs ps bf ps[i] (cs[i].ts.getD x.t.toNat jv) x)) h'):VD fs ms 47 [.ptr b 0,nt x] h0 Q:=by
 have hlen:=r.len;have oy:=sh.xp;have hq:∀v,iA cs ps bf ps[i] (cs[i].ts.getD x.t.toNat jv) x=v→∀h',Fr h0 h' []→Q (.int .i64 v) h':=fun v hv h' f=>hv▸hQ h' f;clear hQ;have hT:∀h:Heap,rV .bC [.ptr C (0+i*3+2)] h=some (.fz cs[i].k (dI cs[i].ts))→True:=fun _ _=>trivial;have hidx:0≤x.t→x.t<(cs[i].ts.length:Nat)→pV (.aE 8) [.fz cs[i].k (dI cs[i].ts),.int .i64 x.t]=some (.fp (tk (cs[i].ts.getD x.t.toNat jv)).cells 0):=fun t0 t1=>by
  have hj:x.t.toNat<cs[i].ts.length:=by omega
  have:=iP (k:=cs[i].k) hj;rw[show((x.t.toNat:Nat):Int)=x.t by omega] at this;rw[this];simp[List.getD_eq_getElem?_getD,List.getElem?_eq_getElem hj]
 have hout:0≤x.t→¬x.t<(cs[i].ts.length:Nat)→cs[i].ts.getD x.t.toNat jv=jv:=fun t0 t1=>by
  rw[List.getD_eq_getElem?_getD,List.getElem?_eq_none (by omega)];rfl
 generalize hTd:cs[i].ts.getD x.t.toNat jv=T at*;refine bw (af:=XP) rfl (Nat.le_of_ble_eq_true rfl) ?_;conv=>whnf
 refine aj true ?_;conv=>whnf
 have gs:(h0.new (.cells (nt x).cells true 0)).get h0.next=some (.cells (nt x).cells true 0):=an;have cT:Fr h0 (h0.new (.cells (nt x).cells true 0)) []:=(Fr.refl h0 []).new;have n1:h0.next<(h0.new (.cells (nt x).cells true 0)).next:=Nat.lt_succ_self _
 have r1:=r.keep cT hb hC;generalize h0.new (.cells (nt x).cells true 0)=h1 at*;refine aj true ?_;conv=>whnf
 refine⟨_,bA gs rfl,?_⟩;conv=>whnf
 rw[oy];refine⟨_,dr (by omega),?_⟩;conv=>whnf
 rw[←oy];refine⟨_,r1.whole oe (by omega),?_⟩;conv=>whnf
 refine aT (cD (n:=23) (v:=.agg (dG ps[i])) an rfl (Nat.le_refl _) rfl) fun h2 e2=>?_;conv=>whnf
 have gp:h2.get h1.next=some (.cells (dG ps[i]) true 0):=by rw[e2,aG];rfl
 have fq:Fr h1 h2 []:=by rw[e2];exact((Fr.refl h1 []).new (x:=_)).lD (Nat.le_refl _)
 have n2:h1.next<h2.next:=by rw[e2];exact Nat.lt_succ_self _
 have qM:h2.get h0.next=some (.cells (nt x).cells true 0):=(fq.keep _ n1 (by simp)).trans gs;have kq:=cT.trans fq;have n02:h0.next<h2.next:=by omega
 have hpp:h0.next≤h1.next:=Nat.le_of_lt n1;clear e2 r1 gs cT fq n1;generalize h1.next=pp at*;refine aj true ?_;conv=>whnf
 have YQ:(h2.new (.cells (tk jv).cells true 0)).get h2.next=some (.cells (tk jv).cells true 0):=an;have rE:(h2.new (.cells (tk jv).cells true 0)).get h0.next=some (.cells (nt x).cells true 0):=(aO n02).trans qM;have Ul:(h2.new (.cells (tk jv).cells true 0)).get pp=some (.cells (dG ps[i]) true 0):=(aO n2).trans gp;have uY:Fr h0 (h2.new (.cells (tk jv).cells true 0)) []:=kq.new;have Zo:h2.next<(h2.new (.cells (tk jv).cells true 0)).next:=Nat.lt_succ_self _
 have hnew:(h2.new (.cells [.int .i64 0,.int .i64 0,.int .i64 0,.int .i64 0,.int .i64 0,.int .i64 0,.int .i64 0,.int .i64 0] true 0))=h2.new (.cells (tk jv).cells true 0):=rfl;refine az (VC.mono (Q:=fun y e h4=>y=.normal∧Fr h0 h4 []∧(∃T6,(0≤x.t→T6=T)∧h4.get h2.next=some (.cells (tk T6).cells true 0))∧h4.get h0.next=some (.cells (nt x).cells true 0)∧h4.get pp=some (.cells (dG ps[i]) true 0)∧h2.next<h4.next∧
  aP e [(0,.ptr b 0),(3,.ptr h0.next 0),(5,.ptr pp 0),(6,.ptr h2.next 0)]) ?_ ?_)
 ·rw[hnew];clear hq qM gp kq hnew;generalize h2.new (.cells (tk jv).cells true 0)=h3 at*;have r3:=r.keep uY hb hC;have za:rV .bC [.ptr b (0+0+0)] h3=some (.sl C 0 cs.length cs.length true):=bA r3.st rfl;have i2:pV (.aE 3) [.sl C 0 cs.length cs.length true,.int .i64 x.p]=some (.ptr C (0+i*3)):=by rw[oy];exact gI hi
  have UA:rV .bC [.ptr C (0+i*3+2)] h3=some (.fz cs[i].k (dI cs[i].ts)):=r3.Nz hi (f:=2) (by omega) (by omega) rfl;refine aa (z:=true) ?_;conv=>whnf
  refine⟨_,bA rE rfl,?_⟩;conv=>whnf
  refine br (fun hc=>?_) (fun hc=>?_)<;>(try rw[hc])<;>(conv=>whnf)
  ·have t0:=of_decide_eq_true hc;refine⟨_,bA rE rfl,?_⟩;conv=>whnf
   refine⟨_,za,?_⟩;conv=>whnf
   refine⟨_,bA rE rfl,?_⟩;conv=>whnf
   refine⟨_,i2,?_⟩;conv=>whnf
   refine⟨_,UA,?_⟩;conv=>whnf
   rw[bM];refine br (fun hc=>?_) (fun hc=>?_)<;>(try rw[hc])<;>(conv=>whnf)
   ·have t1:=of_decide_eq_true hc;refine⟨_,za,?_⟩;conv=>whnf
    refine⟨_,bA rE rfl,?_⟩;conv=>whnf
    refine⟨_,i2,?_⟩;conv=>whnf
    refine⟨_,UA,?_⟩;conv=>whnf
    refine⟨_,bA rE rfl,?_⟩;conv=>whnf
    refine⟨_,hidx t0 t1,?_⟩;conv=>whnf
    refine⟨tk T,rfl,?_⟩;conv=>whnf
    refine aT (cD (n:=8) (v:=tk T) YQ rfl (Nat.le_refl _) rfl) fun h4 e4=>?_;conv=>whnf
    refine⟨rfl,by rw[e4];exact uY.lD (by omega),⟨T,fun _=>rfl,by rw[e4,aG];rfl⟩,by rw[e4,bB (by omega)];exact rE,by rw[e4,bB (by omega)];exact Ul,by rw[e4];exact Zo,rfl,rfl,rfl,rfl,trivial⟩
   ·have t1:=of_decide_eq_false hc;exact⟨rfl,uY,⟨jv,fun _=>(hout t0 t1).symm,YQ⟩,rE,Ul,Zo,rfl,rfl,rfl,rfl,trivial⟩
  ·have t0:=of_decide_eq_false hc;exact⟨rfl,uY,⟨jv,fun h=>absurd h t0,YQ⟩,rE,Ul,Zo,rfl,rfl,rfl,rfl,trivial⟩
 rintro y e h4 ⟨rfl,wg,⟨T6,hT6,gt⟩,vK,Sc,n24,he⟩;clear YQ rE Ul uY Zo hnew qM gp kq hidx hout;have r4:=r.keep wg hb hC;show VC fs ms _ _ _ _ _ _;refine ak 4 _ he ?_;clear he;generalize hp:ps[i]=p at*;unfold iA at hq;refine az (aL ?_);refine aj true ?_;conv=>whnf
 refine⟨_,bA Sc rfl,?_⟩;conv=>whnf
 refine⟨_,bA vK rfl,?_⟩;conv=>whnf
 refine b9 ?_;conv=>whnf
 refine br (fun hc=>?_) (fun hc=>?_)<;>(try rw[hc])<;>(conv=>whnf)
 ·refine aa (z:=true) ?_;conv=>whnf
  exact hq _ (if_pos hc) _ wg
 rw[if_neg (by rw[hc];simp)] at hq;clear hc;refine az (VC.mono (Q:=fun y e h5=>y=.normal∧Fr h4 h5 []∧aP e [(0,.ptr b 0),(3,.ptr h0.next 0),(5,.ptr pp 0),(6,.ptr h2.next 0),(54,.bool (x.k==1&&(bf||iS (cr ps cs.length)!=x.p)))]) ?_ ?_)
 ·clear hq;have acn:rV .bC [.ptr b (0+95)] h4=some (.bool bf):=r4.AF (f:=1) (by omega) rfl;refine aa (z:=true) ?_;conv=>whnf
  refine⟨_,bA vK rfl,?_⟩;conv=>whnf
  refine br (fun hc=>?_) (fun hc=>?_)<;>(try rw[hc])<;>(conv=>whnf)
  ·have h1c:=hc;refine⟨_,acn,?_⟩;conv=>whnf
   refine br (fun hc=>?_) (fun hc=>?_)<;>(try rw[hc])<;>(conv=>whnf)
   ·refine⟨dc (by(conv=>whnf);repeat' (first|exact trivial|(exact⟨rfl,rfl,.inr ⟨_,_,rfl⟩⟩)|(refine⟨rfl,rfl,.inl ⟨rfl,fun o ho=>?_⟩⟩;cases ho;first|rfl)|(exact⟨rfl,.inr ⟨_,_,rfl⟩⟩)|(refine⟨rfl,.inl ⟨rfl,fun i o hi ho=>?_⟩⟩;cases hi;cases ho;first|rfl)|(refine And.intro (fun dZ=>(Bool.false_ne_true dZ).elim) ?_<;>conv=>whnf)|(refine And.intro (fun _=>?_) ?_<;>conv=>whnf)|(refine And.intro ?_ ?_<;>conv=>whnf))),?_⟩;conv=>whnf
    exact⟨rfl,Fr.refl _ _,rfl,rfl,rfl,rfl,by(first|rfl|(simp only[*];done)|(simp only[*];rfl)),trivial⟩
   ·refine ED r4 (Nat.lt_of_lt_of_le hb wg.next) (Nat.lt_of_lt_of_le hC wg.next) (fun h5 k9=>?_);conv=>whnf
    have Aw:h5.get h0.next=some (.cells (nt x).cells true 0):=(k9.keep _ (by omega) (by simp)).trans vK;refine⟨_,bA Aw rfl,?_⟩;conv=>whnf
    refine⟨dc (by(conv=>whnf);repeat' (first|exact trivial|exact bA vK rfl|exact bA Aw rfl|(exact⟨rfl,rfl,.inr ⟨_,_,rfl⟩⟩)|(refine⟨rfl,rfl,.inl ⟨rfl,fun o ho=>?_⟩⟩;cases ho;first|rfl|exact bA vK rfl|exact bA Aw rfl)|(exact⟨rfl,.inr ⟨_,_,rfl⟩⟩)|(refine⟨rfl,.inl ⟨rfl,fun i o hi ho=>?_⟩⟩;cases hi;cases ho;first|rfl|exact bA vK rfl|exact bA Aw rfl)|(refine And.intro (fun dZ=>(Bool.false_ne_true dZ).elim) ?_<;>conv=>whnf)|(refine And.intro (fun _=>?_) ?_<;>conv=>whnf)|(refine And.intro ?_ ?_<;>conv=>whnf))),?_⟩;conv=>whnf
    exact⟨rfl,k9,rfl,rfl,rfl,rfl,by(first|rfl|(simp only[*];done)|(simp only[*];rfl)),trivial⟩
  ·refine⟨dc (by(conv=>whnf);repeat' (first|exact trivial|(exact⟨rfl,rfl,.inr ⟨_,_,rfl⟩⟩)|(refine⟨rfl,rfl,.inl ⟨rfl,fun o ho=>?_⟩⟩;cases ho;first|rfl)|(exact⟨rfl,.inr ⟨_,_,rfl⟩⟩)|(refine⟨rfl,.inl ⟨rfl,fun i o hi ho=>?_⟩⟩;cases hi;cases ho;first|rfl)|(refine And.intro (fun dZ=>(Bool.false_ne_true dZ).elim) ?_<;>conv=>whnf)|(refine And.intro (fun _=>?_) ?_<;>conv=>whnf)|(refine And.intro ?_ ?_<;>conv=>whnf))),?_⟩;conv=>whnf
   exact⟨rfl,Fr.refl _ _,rfl,rfl,rfl,rfl,by(first|rfl|(simp only[*];done)|(simp only[*];rfl)),trivial⟩
 rintro y e h5 ⟨rfl,k9,he⟩;have Cz:h0.next<h4.next:=by omega
 have hnp:pp<h4.next:=by omega
 have Aw:h5.get h0.next=some (.cells (nt x).cells true 0):=(k9.keep _ Cz (by simp)).trans vK;have gp5:h5.get pp=some (.cells (dG p) true 0):=(k9.keep _ hnp (by simp)).trans Sc;have gt5:h5.get h2.next=some (.cells (tk T6).cells true 0):=(k9.keep _ n24 (by simp)).trans gt;have rC:=wg.trans k9;have r5:=r.keep rC hb hC;clear vK Sc gt r4;show VC fs ms _ _ _ _ _ _;refine ak 6 _ he ?_;clear he;refine b9 ?_;conv=>whnf
 refine br (fun hc=>?_) (fun hc=>?_)<;>(try rw[hc])<;>(conv=>whnf)
 ·refine aa (z:=true) ?_;conv=>whnf
  exact hq _ (if_pos hc) _ rC
 rw[if_neg (by rw[hc];simp)] at hq;clear hc;refine aj true ?_;conv=>whnf
 refine⟨.agg (dG p),tU (n:=23) gp5 (Nat.le_refl _),?_⟩;conv=>whnf
 refine⟨nt x,tU (n:=7) Aw (Nat.le_refl _),?_⟩;conv=>whnf
 refine au (ME p x ⟨sh.k1,sh.k8⟩ (fun h=>sh.low h)) ?_;conv=>whnf
 refine b9 ?_;conv=>whnf
 refine br (fun hc=>?_) (fun hc=>?_)<;>(try rw[hc])<;>(conv=>whnf)
 ·refine aa (z:=true) ?_;conv=>whnf
  exact hq _ (if_pos hc) _ rC
 rw[if_neg (by rw[hc];simp)] at hq;clear hc;refine az (VC.mono (Q:=fun y e h=>y=.normal∧h=h5∧aP e [(0,.ptr b 0),(3,.ptr h0.next 0),(5,.ptr pp 0),(6,.ptr h2.next 0),(76,.bool ((x.k==2&&x.e==0)&&decide (x.a<(p.js x.t.toNat).nx)))]) ?_ ?_)
 ·clear hq;refine aa (z:=true) ?_;conv=>whnf
  refine⟨_,bA Aw rfl,?_⟩;conv=>whnf
  refine br (fun hc=>?_) (fun hc=>?_)<;>(try rw[hc])<;>(conv=>whnf)
  ·have hk2:x.k=2:=by simpa using hc
   have nL:=sh.low (by omega);have hxt:x.t=((x.t.toNat:Nat):Int):=by omega
   have hj:x.t.toNat<4:=by omega
   have i3:pV (.bT 4 4) [.ptr pp (0+5),.int .i64 x.t]=some (.ptr pp (0+5+x.t.toNat*4)):=by
    have:=dr (b:=pp) (o:=0+5) (n:=4) (j:=x.t.toNat) (s:=4) hj
    rwa [←hxt] at this
   have l3:rV .bC [.ptr pp (0+5+x.t.toNat*4+3)] h5=some (.int .i64 (p.js x.t.toNat).nx):=LV gp5 hj 3 (by omega) (by omega) rfl;iterate 8 (all_goals (first|(refine⟨_,bA Aw rfl,?_⟩;conv=>whnf)|(refine⟨_,i3,?_⟩;conv=>whnf)|(refine⟨_,l3,?_⟩;conv=>whnf)|(refine br (fun hc=>?_) (fun hc=>?_)<;>(try rw[hc])<;>(conv=>whnf))|skip))
   all_goals (exact⟨rfl,rfl,rfl,rfl,rfl,rfl,by(first|rfl|(simp only[*];done)|(simp only[*];rfl)),trivial⟩)
  ·exact⟨rfl,rfl,rfl,rfl,rfl,rfl,by(first|rfl|(simp only[*];done)|(simp only[*];rfl)),trivial⟩
 rintro y e h ⟨rfl,rfl,he⟩;show VC fs ms _ _ _ _ _ _;refine ak 7 _ he ?_;clear he;refine b9 ?_;conv=>whnf
 refine br (fun hc=>?_) (fun hc=>?_)<;>(try rw[hc])<;>(conv=>whnf)
 ·refine aa (z:=true) ?_;conv=>whnf
  exact hq _ (if_pos hc) _ rC
 rw[if_neg (by rw[hc];simp)] at hq;clear hc;refine az (VC.mono (Q:=fun y e h'=>y=.normal∧h'=h∧aP e [(0,.ptr b 0),(3,.ptr h0.next 0),(96,.bool (decide (x.t≥0)&&!fU p x T))]) ?_ ?_)
 ·clear hq;refine aa (z:=true) ?_;conv=>whnf
  refine⟨_,bA Aw rfl,?_⟩;conv=>whnf
  refine br (fun hc=>?_) (fun hc=>?_)<;>(try rw[hc])<;>(conv=>whnf)
  ·have h6:=hT6 (of_decide_eq_true hc);subst h6;refine⟨.agg (dG p),tU (n:=23) gp5 (Nat.le_refl _),?_⟩;conv=>whnf
   refine⟨nt x,tU (n:=7) Aw (Nat.le_refl _),?_⟩;conv=>whnf
   refine⟨tk T6,tU (n:=8) gt5 (Nat.le_refl _),?_⟩;conv=>whnf
   refine au (Jx p x T6 (fun h1 h5=>by have:=sh.low h5;have:=of_decide_eq_true hc;omega)) ?_;conv=>whnf
   exact⟨rfl,rfl,rfl,rfl,by(first|rfl|(simp only[*];done)|(simp only[*];rfl)),trivial⟩
  ·exact⟨rfl,rfl,rfl,rfl,by(first|rfl|(simp only[*];done)|(simp only[*];rfl)),trivial⟩
 rintro y e h' ⟨rfl,rfl,he⟩;show VC fs ms _ _ _ _ _ _;refine ak 7 _ he ?_;clear he;refine b9 ?_;conv=>whnf
 refine br (fun hc=>?_) (fun hc=>?_)<;>(try rw[hc])<;>(conv=>whnf)
 ·refine aa (z:=true) ?_;conv=>whnf
  exact hq _ (if_pos hc) _ rC
 rw[if_neg (by rw[hc];simp)] at hq;clear hc;refine aj true ?_;conv=>whnf
 refine⟨nt x,tU (n:=7) Aw (Nat.le_refl _),?_⟩;conv=>whnf
 refine Jw r5 (Nat.lt_of_lt_of_le hb rC.next) (Nat.lt_of_lt_of_le hC rC.next) hwf hi oe x oy (fun hk=>by have:=sh.tn (nv (by omega));omega) (fun h6 tG=>?_);conv=>whnf
 rw[hp];refine b9 ?_;conv=>whnf
 refine br (fun hc=>?_) (fun hc=>?_)<;>(try rw[hc])<;>(conv=>whnf)
 ·refine aa (z:=true) ?_;conv=>whnf
  exact hq _ (if_pos hc) _ (rC.trans tG)
 ·rw[if_neg (by rw[hc];simp)] at hq;refine aa (z:=true) ?_;conv=>whnf
  refine aa (z:=true) ?_;conv=>whnf
  exact hq _ rfl _ (rC.trans tG)
end
end Ir
end Go.Proofs.Ytepdklcpagielaa
set_option maxRecDepth 100000
set_option linter.unusedSimpArgs false
set_option linter.unusedVariables false
namespace Go.Proofs.Ytepdklcpagielaa
open Go Ads
namespace Ir
theorem vA:∀{cs:List Pt} {i:Nat} (hi:i<cs.length),((ai (pts cs)).drop (i*3)).take 3=(pt cs[i]).cells
 |c::cs,0,hi=>by
  show(((pt c).cells++ai (pts cs)).drop (0*3)).take 3=(pt c).cells;rw[Nat.zero_mul,List.drop_zero,List.take_append_of_le_length (show 3≤(pt c).cells.length from Nat.le_refl 3)];rfl
 |c::cs,i+1,hi=>by
  have:=vA (cs:=cs) (i:=i) (by simpa using hi);show(((pt c).cells++ai (pts cs)).drop ((i+1)*3)).take 3=_;rw[show(i+1)*3=3+i*3 by omega,←List.drop_drop];exact this
def dg(c:Pt)(p:Pr)(x:Nt):Pt×Pr×Bool:=if bQ x=true then dM c p x else(c,p,false)
section
variable {b C:Nat} {X:AV} {cs:List Pt} {ps:List Pr} {h:Heap} {tl:List AV}
theorem RS.ldp{o i:Nat}(r:RS h b C X tl cs ps)(hi:i<cs.length)(ho:o=i*3):rV (.bn 3) [.ptr C o] h=some (pt cs[i]):=by
 subst ho;have Q5:(ai (pts cs)).length=cs.length*3:=by rw[c9 (fE cs),bh]
 rw[tU r.cf (by rw[Q5];omega),vA hi];rfl
theorem RS.acv{o i:Nat}{c':Pt}(r:RS h b C X tl cs ps)(hi:i<cs.length)(ho:o=i*3):
  ∃h',eV (.store 3) [.ptr C o,pt c'] h=some (.undef,h')∧RS h' b C X tl (cs.set i c') ps∧Fr h h' [C]:=by
 have hb:b≠C:=r.ne;have Q5:(ai (pts cs)).length=cs.length*3:=by rw[c9 (fE cs),bh]
 subst ho;refine⟨_,cD (n:=3) (es:=3) r.cf rfl (by rw[Q5];omega) rfl,⟨?_,?_,r.len,by rw[List.length_set];exact r.le,r.ne⟩,(Fr.refl h [C]).set (by simp)⟩
 ·rw[bB hb,List.length_set];exact r.st
 ·have:=CO hi (f:=0) (pt c').cells c' (Nat.le_refl _) rfl;rw[Nat.add_zero] at this;rw[aG,this]
theorem Jr{h0:Heap}{now:Int}{bf gone:Bool}(r:RS h0 b C X (sy now bf gone) cs ps)(hb:b<h0.next)(hC:C<h0.next){i:Nat}{x:Nt}(oy:x.p=((i:Nat):Int))(hi:i<cs.length)(oe:i<ps.length){Q:AV→Heap→Prop}
  (hQ:∀h',RS h' b C X (sy now bf (gone||(dg cs[i] ps[i] x).2.2)) (cs.set i (dg cs[i] ps[i] x).1) (ps.set i (dg cs[i] ps[i] x).2.1)→Fr h0 h' [b,C]→Q (.cQ []) h'):VD fs ms 74 [.ptr b 0,nt x] h0 Q:=by
 have hlen:=r.len;refine bw (af:=Yk) rfl (Nat.le_of_ble_eq_true rfl) ?_;conv=>whnf
 refine aj true ?_;conv=>whnf
 have gs:(h0.new (.cells (nt x).cells true 0)).get h0.next=some (.cells (nt x).cells true 0):=an;have cT:Fr h0 (h0.new (.cells (nt x).cells true 0)) []:=(Fr.refl h0 []).new;have n1:h0.next<(h0.new (.cells (nt x).cells true 0)).next:=Nat.lt_succ_self _
 have r1:=r.keep cT hb hC;generalize h0.new (.cells (nt x).cells true 0)=h1 at*;refine aj true ?_;conv=>whnf
 refine⟨_,bA gs rfl,?_⟩;conv=>whnf
 rw[oy];refine⟨_,dr (by omega),?_⟩;conv=>whnf
 rw[←oy];refine⟨_,r1.whole oe (by omega),?_⟩;conv=>whnf
 refine aT (cD (n:=23) (v:=.agg (dG ps[i])) an rfl (Nat.le_refl _) rfl) fun h2 e2=>?_;conv=>whnf
 have gp:h2.get h1.next=some (.cells (dG ps[i]) true 0):=by rw[e2,aG];rfl
 have fq:Fr h1 h2 []:=by rw[e2];exact((Fr.refl h1 []).new (x:=_)).lD (Nat.le_refl _)
 have n2:h1.next<h2.next:=by rw[e2];exact Nat.lt_succ_self _
 have qM:h2.get h0.next=some (.cells (nt x).cells true 0):=(fq.keep _ n1 (by simp)).trans gs;have kq:=cT.trans fq;have hbp:b<h1.next:=Nat.lt_of_lt_of_le hb cT.next;have hCp:C<h1.next:=Nat.lt_of_lt_of_le hC cT.next;have r2:=r.keep kq hb hC;clear e2 r1 gs cT fq;generalize h1.next=pp at*;have hhx:h0.next≤h0.next:=Nat.le_refl _;generalize hpx:h0.next=px at*;refine az (VC.mono (Q:=fun y e h3=>y=.normal∧∃c' p' g',dg cs[i] ps[i] x=(c',p',g')∧RS h3 b C X (sy now bf (gone||g')) (cs.set i c') ps∧h3.get pp=some (.cells (dG p') true 0)∧h3.get px=some (.cells (nt x).cells true 0)∧Fr h2 h3 [b,C,pp]∧
  aP e [(0,.ptr b 0),(3,.ptr px 0),(4,.ptr pp 0)]) ?_ ?_)
 ·clear hQ;refine aj true ?_;conv=>whnf
  refine⟨_,bA qM rfl,?_⟩;conv=>whnf
  refine aL ?_;refine aj true ?_;conv=>whnf
  have za:rV .bC [.ptr b (0+0+0)] h2=some (.sl C 0 cs.length cs.length true):=bA r2.st rfl;have i2:pV (.aE 3) [.sl C 0 cs.length cs.length true,.int .i64 x.p]=some (.ptr C (0+i*3)):=by rw[oy];exact gI hi
  cases k6:(x.k==6) with
  |true=>
   have hB:dg cs[i] ps[i] x=(cs[i],fresh {mg with xx:=true} cs[i] x.a,false):=by
    have:x.k=6:=by simpa using k6
    simp[dg,bQ,dM,this]
   refine b9 ?_;conv=>whnf
   refine aj true ?_;conv=>whnf
   refine⟨_,za,?_⟩;conv=>whnf
   refine⟨_,bA qM rfl,?_⟩;conv=>whnf
   refine⟨_,i2,?_⟩;conv=>whnf
   refine⟨_,r2.ldp hi (by omega),?_⟩;conv=>whnf
   refine aT (cD (n:=3) (v:=pt cs[i]) an rfl (Nat.le_refl _) rfl) fun h3 e3=>?_;conv=>whnf
   have g3:h3.get h2.next=some (.cells (pt cs[i]).cells true 0):=by rw[e3,aG];rfl
   have iB:Fr h2 h3 []:=by rw[e3];exact((Fr.refl h2 []).new (x:=_)).lD (Nat.le_refl _)
   have n3:h2.next<h3.next:=by rw[e3];exact Nat.lt_succ_self _
   have rE:h3.get px=some (.cells (nt x).cells true 0):=(iB.keep _ (by omega) (by simp)).trans qM;have Ul:h3.get pp=some (.cells (dG ps[i]) true 0):=(iB.keep _ n2 (by simp)).trans gp;clear e3;refine aa (z:=true) ?_;conv=>whnf
   repeat(first|(refine⟨_,bA g3 rfl,?_⟩;conv=>whnf)|(refine⟨_,bA rE rfl,?_⟩;conv=>whnf))
   refine aT (cD (n:=23) (v:=.agg (dG (fresh {mg with xx:=true} cs[i] x.a))) Ul rfl (Nat.le_refl _) rfl) fun h4 e4=>?_;conv=>whnf
   have jY:Fr h2 h4 [b,C,pp]:=by rw[e4];exact(iB.wk (by simp)).set (by simp)
   refine⟨rfl,_,_,_,hB,?_,by rw[e4,aG];rfl,by rw[e4,bB (by omega)];exact rE,jY,rfl,rfl,rfl,trivial⟩;rw[Bool.or_false,List.set_getElem_self];have r3:=r2.keep iB (by omega) (by omega);rw[e4];exact⟨by rw[bB (by omega)];exact r3.st,by rw[bB (by omega)];exact r3.cf,r3.len,r3.le,r3.ne⟩
  |false=>
   refine b9 ?_;conv=>whnf
   refine aj true ?_;conv=>whnf
   cases k7:(x.k==7) with
   |true=>
    have hB:dg cs[i] ps[i] x=(cs[i],mg,true):=by
     have:x.k=7:=by simpa using k7
     simp[dg,bQ,dM,this]
    refine aa (z:=true) ?_;conv=>whnf
    refine aT (cD (n:=23) (v:=.agg (dG mg)) gp rfl (Nat.le_refl _) rfl) fun h4 e4=>?_;conv=>whnf
    have r4:RS h4 b C X (sy now bf gone) cs ps:=by
     rw[e4];exact⟨by rw[bB (by omega)];exact r2.st,by rw[bB (by omega)];exact r2.cf,r2.len,r2.le,r2.ne⟩
    have jY:Fr h2 h4 [b,C,pp]:=by rw[e4];exact(Fr.refl _ _).set (by simp)
    have g4:h4.get pp=some (.cells (dG mg) true 0):=by rw[e4,aG];rfl
    have vK:h4.get px=some (.cells (nt x).cells true 0):=by rw[e4,bB (by omega)];exact qM
    clear e4;obtain⟨h5,s5,r5,k9⟩:=r4.xR (v:=.bool true) (f:=2) (o:=0+96) (tl':=sy now bf true) (by omega) rfl (by simp[sy]) rfl rfl;refine aT s5 fun O6 e5=>?_;subst e5;conv=>whnf
    have Zd:pp<h4.next:=Nat.lt_of_lt_of_le n2 jY.next;refine⟨rfl,_,_,_,hB,?_,(k9.keep _ Zd (by simp;omega)).trans g4,(k9.keep _ (by have:=jY.next;omega) (by simp;omega)).trans vK,jY.trans (k9.wk (by simp)),rfl,rfl,rfl,trivial⟩;rw[Bool.or_true,List.set_getElem_self];exact r5
   |false=>
    refine b9 ?_;conv=>whnf
    refine aj true ?_;conv=>whnf
    cases k8:(x.k==8) with
    |true=>
     have hB:dg cs[i] ps[i] x=(Fa cs[i] x.n,fresh ps[i] (Fa cs[i] x.n) x.a,false):=by
      have:x.k=8:=by simpa using k8
      simp[dg,bQ,dM,this]
     generalize ps[i]=p at*;refine b9 ?_;conv=>whnf
     refine aj true ?_;conv=>whnf
     refine⟨_,bA qM rfl,?_⟩;conv=>whnf
     refine⟨.int .i64 (IntKind.i64.wrap (x.n.tdiv 100)),rfl,?_⟩;conv=>whnf
     refine aT (cD (n:=1) (v:=.int .i64 (IntKind.i64.wrap (x.n.tdiv 100))) (o:=0+1) gp rfl (Nat.le_of_ble_eq_true rfl) rfl) fun h3 e3=>?_;conv=>whnf
     have g3:h3.get pp=some (.cells (dG {p with cJ:=IntKind.i64.wrap (x.n.tdiv 100)}) true 0):=by rw[e3,aG];rfl
     have iB:Fr h2 h3 [pp]:=by rw[e3];exact(Fr.refl _ _).set (by simp)
     have rE:h3.get px=some (.cells (nt x).cells true 0):=(iB.keep _ (by omega) (by simp;omega)).trans qM;clear e3;refine aj true ?_;conv=>whnf
     refine⟨_,bA rE rfl,?_⟩;conv=>whnf
     refine⟨.int .i64 (x.n.tmod 100),rfl,?_⟩;conv=>whnf
     refine aT (cD (n:=1) (v:=.int .i64 (x.n.tmod 100)) (o:=0+2) g3 rfl (Nat.le_of_ble_eq_true rfl) rfl) fun h4 e4=>?_;conv=>whnf
     have g4:h4.get pp=some (.cells (dG {p with cJ:=IntKind.i64.wrap (x.n.tdiv 100),cn:=x.n.tmod 100}) true 0):=by rw[e4,aG];rfl
     have jY:Fr h2 h4 [pp]:=by rw[e4];exact iB.set (by simp)
     clear e4 g3 iB rE;refine aj true ?_;conv=>whnf
     refine aT (cD (n:=1) (v:=.int .i64 0) (o:=0+4) g4 rfl (Nat.le_of_ble_eq_true rfl) rfl) fun h5 e5=>?_;conv=>whnf
     have g5:h5.get pp=some (.cells (dG {p with cJ:=IntKind.i64.wrap (x.n.tdiv 100),cn:=x.n.tmod 100,bf:=0}) true 0):=by rw[e5,aG];rfl
     have k9:Fr h2 h5 [pp]:=by rw[e5];exact jY.set (by simp)
     have Aw:h5.get px=some (.cells (nt x).cells true 0):=(k9.keep _ (by omega) (by simp;omega)).trans qM;clear e5 g4 jY;refine aj true ?_;conv=>whnf
     repeat(first|(refine⟨_,bA g5 rfl,?_⟩;conv=>whnf)|(refine⟨_,bA Aw rfl,?_⟩;conv=>whnf))
     refine aT (cD (n:=1) (v:=.int .i64 (IntKind.i64.wrap (x.a+IntKind.i64.wrap (x.n.tdiv 100)))) (o:=0+3) g5 rfl (Nat.le_of_ble_eq_true rfl) rfl) fun h6 e6=>?_;conv=>whnf
     have g6:h6.get pp=some (.cells (dG (fresh p (Fa cs[i] x.n) x.a)) true 0):=by rw[e6,aG];rfl
     have tG:Fr h2 h6 [pp]:=by rw[e6];exact k9.set (by simp)
     have Vm:h6.get px=some (.cells (nt x).cells true 0):=(tG.keep _ (by omega) (by simp;omega)).trans qM;have r6:RS h6 b C X (sy now bf gone) cs ps:=⟨(tG.keep _ (by omega) (by simp;omega)).trans r2.st,(tG.keep _ (by omega) (by simp;omega)).trans r2.cf,r2.len,r2.le,r2.ne⟩;have hp6:pp<h6.next:=Nat.lt_of_lt_of_le n2 tG.next;have hx6:px<h6.next:=by have:=tG.next;omega
     clear e6 g5 k9 Aw;have WN:rV .bC [.ptr b (0+0+0)] h6=some (.sl C 0 cs.length cs.length true):=bA r6.st rfl;refine aj true ?_;conv=>whnf
     refine⟨_,WN,?_⟩;conv=>whnf
     refine⟨_,bA Vm rfl,?_⟩;conv=>whnf
     refine⟨_,i2,?_⟩;conv=>whnf
     refine⟨_,r6.ldp hi (by omega),?_⟩;conv=>whnf
     generalize fh:cs[i]=c at*;refine aT (cD (n:=3) (v:=pt c) an rfl (Nat.le_refl _) rfl) fun h7 e7=>?_;conv=>whnf
     have g7:h7.get h6.next=some (.cells (pt c).cells true 0):=by rw[e7,aG];rfl
     have yM:Fr h6 h7 []:=by rw[e7];exact((Fr.refl h6 []).new (x:=_)).lD (Nat.le_refl _)
     have n7:h6.next<h7.next:=by rw[e7];exact Nat.lt_succ_self _
     have gp7:h7.get pp=some (.cells (dG (fresh p (Fa c x.n) x.a)) true 0):=(yM.keep _ (by omega) (by simp)).trans g6;clear e7;generalize hpc:h6.next=pc at*;refine aj true ?_;conv=>whnf
     refine⟨_,bA gp7 rfl,?_⟩;conv=>whnf
     refine aT (cD (n:=1) (v:=.int .i64 (fresh p (Fa c x.n) x.a).cJ) (o:=0+0) g7 rfl (Nat.le_of_ble_eq_true rfl) rfl) fun h8 e8=>?_;conv=>whnf
     have g8:h8.get pc=some (.cells (pt {c with cJ:=IntKind.i64.wrap (x.n.tdiv 100)}).cells true 0):=by rw[e8,aG];rfl
     have gp8:h8.get pp=some (.cells (dG (fresh p (Fa c x.n) x.a)) true 0):=by rw[e8,bB (by omega)];exact gp7
     have Ve:Fr h7 h8 [pc]:=by rw[e8];exact(Fr.refl _ _).set (by simp)
     clear e8;refine aj true ?_;conv=>whnf
     refine⟨_,bA gp8 rfl,?_⟩;conv=>whnf
     refine aT (cD (n:=1) (v:=.int .i64 (fresh p (Fa c x.n) x.a).cn) (o:=0+1) g8 rfl (Nat.le_of_ble_eq_true rfl) rfl) fun h9 e9=>?_;conv=>whnf
     have g9:h9.get pc=some (.cells (pt (Fa c x.n)).cells true 0):=by rw[e9,aG];rfl
     have O4:Fr h7 h9 [pc]:=by rw[e9];exact Ve.set (by simp)
     clear e9;have r9:RS h9 b C X (sy now bf gone) cs ps:=by
      have r7:=r6.keep yM (by omega) (by omega);exact⟨(O4.keep _ (by omega) (by simp;omega)).trans r7.st,(O4.keep _ (by omega) (by simp;omega)).trans r7.cf,r7.len,r7.le,r7.ne⟩
     have gs9:h9.get px=some (.cells (nt x).cells true 0):=(O4.keep _ (by omega) (by simp;omega)).trans ((yM.keep _ (by omega) (by simp)).trans Vm);have gp9:h9.get pp=some (.cells (dG (fresh p (Fa c x.n) x.a)) true 0):=(O4.keep _ (by omega) (by simp;omega)).trans gp7;have WO:rV .bC [.ptr b (0+0+0)] h9=some (.sl C 0 cs.length cs.length true):=bA r9.st rfl;have hp9:pp<h9.next:=by have:=O4.next;omega
     have hx9:px<h9.next:=by have:=O4.next;omega
     refine aa (z:=true) ?_;conv=>whnf
     refine⟨_,WO,?_⟩;conv=>whnf
     refine⟨_,bA gs9 rfl,?_⟩;conv=>whnf
     refine⟨pt (Fa c x.n),tU (n:=3) g9 (Nat.le_refl _),?_⟩;conv=>whnf
     refine⟨_,i2,?_⟩;conv=>whnf
     obtain⟨h10,s10,r10,O1⟩:=r9.acv (c':=Fa c x.n) hi (o:=0+i*3) (by omega);refine aT s10 fun adS e10=>?_;subst e10;conv=>whnf
     refine⟨rfl,_,_,_,hB,by rw[Bool.or_false];exact r10,(O1.keep _ hp9 (by simp;omega)).trans gp9,(O1.keep _ hx9 (by simp;omega)).trans gs9,?_,rfl,rfl,rfl,trivial⟩;have hn2:h2.next≤pc:=by have:=tG.next;omega
     refine⟨by have:=O1.next;have:=O4.next;have:=yM.next;have:=tG.next;omega,fun d hd Ai=>?_⟩;simp only[List.mem_cons,List.not_mem_nil,or_false,not_or] at Ai;have hd6:d<h6.next:=Nat.lt_of_lt_of_le hd tG.next;rw[O1.keep d (by have:=O4.next;have:=yM.next;omega) (by simp;omega),O4.keep d (by have:=yM.next;omega) (by simp;omega),yM.keep d hd6 (by simp)];exact tG.keep d hd (by simp;omega)
    |false=>
     have hB:dg cs[i] ps[i] x=(cs[i],ps[i],false):=by
      have:bQ x=false:=by rw[bQ,k6,k7,k8];rfl
      simp[dg,this]
     refine aa (z:=true) ?_;conv=>whnf
     refine⟨rfl,_,_,_,hB,by rw[Bool.or_false,List.set_getElem_self];exact r2,gp,qM,Fr.refl _ _,rfl,rfl,rfl,trivial⟩
 rintro y e h3 ⟨rfl,c',p',g',hB,r3,g3,rE,iB,he⟩;rw[hB] at hQ;show VC fs ms _ _ _ _ _ _;refine ak 4 _ he (aa (z:=true) ?_);conv=>whnf
 refine⟨_,bA rE rfl,?_⟩;conv=>whnf
 refine⟨.agg (dG p'),tU (n:=23) g3 (Nat.le_refl _),?_⟩;conv=>whnf
 rw[oy];refine⟨_,dr (by omega),?_⟩;conv=>whnf
 obtain⟨h4,s4,r4,jY⟩:=r3.put (v:=.agg (dG p')) (n:=23) (p':=p') oe (f:=0) (o:=0+2+i*23) (by omega) rfl (by omega) rfl rfl;refine aT s4 fun Uo e4=>?_;subst e4;conv=>whnf
 refine hQ _ r4 ⟨by have:=kq.next;have:=iB.next;have:=jY.next;omega,fun d hd Ai=>?_⟩;simp only[List.mem_cons,List.not_mem_nil,or_false,not_or] at Ai;rw[jY.keep d (by have:=kq.next;have:=iB.next;omega) (by simp;omega),iB.keep d (by have:=kq.next;omega) (by simp;omega)];exact kq.keep d (by omega) (by simp)
end
end Ir
end Go.Proofs.Ytepdklcpagielaa
set_option maxRecDepth 100000
set_option linter.unusedSimpArgs false
set_option linter.unusedVariables false
namespace Go.Proofs.Ytepdklcpagielaa
open Go Ads
namespace Ir
def mP(p:Pr)(x:Nt)(t:Tk):Pr:=
 if(x.k==2)=true then(if(x.e==0)=true then p.fm x.t.toNat ⟨true,x.a,0,IntKind.i64.wrap (x.a+t.p)⟩ else p)
 else if(x.k==1)=true then(if decide (x.t≥0)=true then{p with bf:=IntKind.i64.wrap (p.bf+1)}.fm x.t.toNat {p.js x.t.toNat with bf:=IntKind.i64.wrap ((p.js x.t.toNat).bf+1)} else{p with bf:=IntKind.i64.wrap (p.bf+1)})
 else if(x.k==3||x.k==4)=true then{p.fm x.t.toNat {p.js x.t.toNat with is:=false} with has:=p.has&&p.task !=x.t}
 else if(x.k==5)=true then
  (if(x.e==0&&x.n==5)=true then{(if(x.e==0&&x.n==4)=true then{p with has:=true,task:=x.t} else p) with has:=false} else(if(x.e==0&&x.n==4)=true then{p with has:=true,task:=x.t} else p))
 else p
theorem CC(p:Pr)(a:Int)(k:Nat):({p with bf:=a}:Pr).js k=p.js k:=by
 unfold Pr.js;split<;>rfl
section
variable {b C:Nat} {X:AV} {cs:List Pt} {ps:List Pr} {h:Heap} {tl:List AV}
theorem P4{h3:Heap}{now:Int}{bf gone:Bool}{i pp px B:Nat}{p:Pr}{x:Nt}(r:RS h3 b C X (sy now bf gone) cs (ps.set i p))(hb:b<pp)(hC:C<pp)(hpx:px<pp)(hpp:pp<h3.next)(hbx:b<px)(hCx:C<px)(oy:x.p=((i:Nat):Int))(hi:i<cs.length)(oe:i<ps.length)
  (hk:1≤x.k∧x.k≤8)(nL:x.k≤5→(x.t=-1∧x.k=1)∨(0≤x.t∧x.t<4))(xP:x.k≤5→0≤x.t→x.t<(cs[i].ts.length:Nat))(gp:h3.get pp=some (.cells (dG p) true 0))(gx:h3.get px=some (.cells (nt x).cells true 0)){Q:AX→Env→Heap→Prop}
  (hQ:∀e' h',RS h' b C X (sy now (bf||x.k==1) gone) cs (ps.set i p)→h'.get pp=some (.cells (dG (mP p x (cs[i].ts.getD x.t.toNat jv))) true 0)→Fr h3 h' [b,pp]→aP e' [(0,.ptr b 0),(3,.ptr px 0),(4,.ptr pp 0)]→Q .normal e' h')
  {env:Env}(he:aP env [(0,.ptr b 0),(3,.ptr px 0),(4,.ptr pp 0),(16,.int .i64 x.k)]):VC fs ms B false (match UI.body with|.seq _ (.seq _ (.seq _ (.seq (.seq _ c) _)))=>c|c=>c) env h3 Q:=by
 show VC fs ms B false (.block 0 _) env h3 Q;have hlen:=r.len;refine ak 5 _ he ?_;clear he;refine aL ?_;refine aj true ?_;conv=>whnf
 have hst:∀{h4 h5:Heap} {p1 p2:Pr} {o n:Nat} {v:AV},h4.get pp=some (.cells (dG p1) true 0)→h5=h4.set pp (.cells (Heap.splice (dG p1) o v.cells) true 0)→Heap.splice (dG p1) o v.cells=dG p2→h5.get pp=some (.cells (dG p2) true 0)∧Fr h4 h5 [b,pp]:=by
  intro h4 h5 p1 p2 o n v g e hs;rw[e,hs];exact⟨aG,(Fr.refl _ _).set (by simp)⟩
 have xO:∀{h4 h5:Heap} {x':dm} {tl:List AV},h5=h4.set pp x'→RS h4 b C X tl cs (ps.set i p)→RS h5 b C X tl cs (ps.set i p):=by
  intro h4 h5 x' tl e r';rw[e];exact⟨by rw[bB (by omega)];exact r'.st,by rw[bB (by omega)];exact r'.cf,r'.len,r'.le,r'.ne⟩
 have Za:∀{h4 h5:Heap} {x':dm},h5=h4.set pp x'→h4.get px=some (.cells (nt x).cells true 0)→h5.get px=some (.cells (nt x).cells true 0):=by
  intro h4 h5 x' e g;rw[e,bB (by omega)];exact g
 have i3:0≤x.t→x.t<4→pV (.bT 4 4) [.ptr pp (0+5),.int .i64 x.t]=some (.ptr pp (0+5+x.t.toNat*4)):=fun t0 t4=>by
  have:=dr (b:=pp) (o:=0+5) (n:=4) (j:=x.t.toNat) (s:=4) (by omega)
  rwa [show((x.t.toNat:Nat):Int)=x.t by omega] at this
 unfold mP at hQ;cases e2:(x.k==2) with
 |true=>
  have hk2:x.k=2:=by simpa using e2
  obtain⟨t0,t4⟩:0≤x.t∧x.t<4:=by have:=nL (by omega);omega
  rw[if_pos e2,show(x.k==1)=false by rw[hk2];rfl,Bool.or_false] at hQ;have Re:=xP (by omega) t0;have hj:x.t.toNat<cs[i].ts.length:=by omega
  have hT:cs[i].ts.getD x.t.toNat jv=cs[i].ts[x.t.toNat]:=by simp[List.getD_eq_getElem?_getD,List.getElem?_eq_getElem hj]
  have hidx:pV (.aE 8) [.fz cs[i].k (dI cs[i].ts),.int .i64 x.t]=some (.fp (tk (cs[i].ts.getD x.t.toNat jv)).cells 0):=by
   rw[hT];have:=iP (k:=cs[i].k) hj
   rwa [show((x.t.toNat:Nat):Int)=x.t by omega] at this
  generalize cs[i].ts.getD x.t.toNat jv=T at*;have i2:pV (.aE 3) [.sl C 0 cs.length cs.length true,.int .i64 x.p]=some (.ptr C (0+i*3)):=by rw[oy];exact gI hi
  have za:rV .bC [.ptr b (0+0+0)] h3=some (.sl C 0 cs.length cs.length true):=bA r.st rfl;have UA:rV .bC [.ptr C (0+i*3+2)] h3=some (.fz cs[i].k (dI cs[i].ts)):=r.Nz hi (f:=2) (by omega) (by omega) rfl;refine aa (z:=true) ?_;conv=>whnf
  refine⟨_,bA gx rfl,?_⟩;conv=>whnf
  refine br (fun hc=>?_) (fun hc=>?_)<;>(try rw[hc])<;>(conv=>whnf)
  ·rw[if_pos hc] at hQ;repeat(first|(refine⟨_,bA gx rfl,?_⟩;conv=>whnf)|(refine⟨_,za,?_⟩;conv=>whnf)|(refine⟨_,i2,?_⟩;conv=>whnf)|(refine⟨_,UA,?_⟩;conv=>whnf)|(refine⟨_,hidx,?_⟩;conv=>whnf)|(refine⟨_,i3 t0 t4,?_⟩;conv=>whnf)|(refine⟨_,(rfl:rV .bC [.fp (tk T).cells 0] h3=some (.int .i64 T.p)),?_⟩;conv=>whnf))
   refine aT (cD (n:=4) (v:=.agg (I3 ⟨true,x.a,0,IntKind.i64.wrap (x.a+T.p)⟩)) (o:=0+5+x.t.toNat*4) gp rfl (by rw[jT];omega) rfl) fun h4 e4=>?_;conv=>whnf
   obtain⟨g4,f4⟩:=hst (n:=4) gp e4 (by rw[show 0+5+x.t.toNat*4=5+x.t.toNat*4+0 by omega];exact Ej (by omega) _);exact hQ _ _ (xO e4 r) g4 f4 ⟨rfl,rfl,rfl,trivial⟩
  ·rw[if_neg (by rw[hc];simp)] at hQ;exact hQ _ _ r gp (Fr.refl _ _) ⟨rfl,rfl,rfl,trivial⟩
 |false=>
  rw[if_neg (by rw[e2];simp)] at hQ;refine b9 ?_;conv=>whnf
  refine aj true ?_;conv=>whnf
  cases e1:(x.k==1) with
  |true=>
   have AA:x.k=1:=by simpa using e1
   rw[if_pos e1,e1,Bool.or_true] at hQ;refine b9 ?_;conv=>whnf
   refine aj true ?_;conv=>whnf
   obtain⟨h4,s4,r4,jY⟩:=r.xR (v:=.bool true) (f:=1) (o:=0+95) (tl':=sy now true gone) (by omega) rfl (by simp[sy]) rfl rfl;refine aT s4 fun Uo e4=>?_;subst e4;conv=>whnf
   have Sc:=(jY.keep pp hpp (by simp;omega)).trans gp;have QT:=(jY.keep px (by omega) (by simp;omega)).trans gx;refine aj true ?_;conv=>whnf
   refine⟨_,bA Sc rfl,?_⟩;conv=>whnf
   refine aT (cD (n:=1) (v:=.int .i64 (IntKind.i64.wrap (p.bf+1))) (o:=0+4) Sc rfl (Nat.le_of_ble_eq_true rfl) rfl) fun h5 e5=>?_;conv=>whnf
   obtain⟨g5,f5⟩:=hst (n:=1) (p2:={p with bf:=IntKind.i64.wrap (p.bf+1)}) Sc e5 rfl;have gx5:=Za e5 QT;have r5:=xO e5 r4;have k9:Fr h3 h5 [b,pp]:=(jY.wk (by simp)).trans f5;clear e5;refine aa (z:=true) ?_;conv=>whnf
   refine⟨_,bA gx5 rfl,?_⟩;conv=>whnf
   refine br (fun hc=>?_) (fun hc=>?_)<;>(try rw[hc])<;>(conv=>whnf)
   ·rw[if_pos hc] at hQ;have t0:=of_decide_eq_true hc;have t4:x.t<4:=by have:=nL (by omega);omega
    have hj:x.t.toNat<4:=by omega
    have abX:rV .bC [.ptr pp (0+5+x.t.toNat*4+2)] h5=some (.int .i64 (p.js x.t.toNat).bf):=by
     rw[←CC p (IntKind.i64.wrap (p.bf+1))];exact LV g5 hj 2 (by omega) (by omega) rfl
    repeat(first|(refine⟨_,bA gx5 rfl,?_⟩;conv=>whnf)|(refine⟨_,i3 t0 t4,?_⟩;conv=>whnf)|(refine⟨_,abX,?_⟩;conv=>whnf))
    refine aT (cD (n:=1) (v:=.int .i64 (IntKind.i64.wrap ((p.js x.t.toNat).bf+1))) (o:=0+5+x.t.toNat*4+2) g5 rfl (by rw[jT];omega) rfl) fun h6 e6=>?_;conv=>whnf
    obtain⟨g6,f6⟩:=hst (n:=1) g5 e6 (by rw[show 0+5+x.t.toNat*4+2=5+x.t.toNat*4+2 by omega];exact Ek hj _);rw[CC] at g6;exact hQ _ _ (xO e6 r5) g6 (k9.trans f6) ⟨rfl,rfl,rfl,trivial⟩
   ·rw[if_neg (by rw[hc];simp)] at hQ;exact hQ _ _ r5 g5 k9 ⟨rfl,rfl,rfl,trivial⟩
  |false=>
   rw[if_neg (by rw[e1];simp),e1,Bool.or_false] at hQ;refine b9 ?_;conv=>whnf
   refine az (VC.mono (Q:=fun y e h=>y=.normal∧h=h3∧aP e [(0,.ptr b 0),(3,.ptr px 0),(4,.ptr pp 0),(16,.int .i64 x.k),(71,.bool (x.k==3||x.k==4))]) ?_ ?_)
   ·refine aa (z:=true) ?_;conv=>whnf
    refine br (fun hc=>?_) (fun hc=>?_)<;>(try rw[hc])<;>(conv=>whnf)
    ·exact⟨rfl,rfl,rfl,rfl,rfl,rfl,by(first|rfl|(simp only[*];done)|(simp only[*];rfl)),trivial⟩
    ·exact⟨rfl,rfl,rfl,rfl,rfl,rfl,by(first|rfl|(simp only[*];done)|(simp only[*];rfl)),trivial⟩
   rintro y e h3 ⟨rfl,rfl,he⟩;show VC fs ms _ _ _ _ _ _;refine ak 7 _ he ?_;clear he;cases e3:(x.k==3||x.k==4) with
   |true=>
    rw[if_pos e3] at hQ;have qQ:x.k=3∨x.k=4:=by simpa using e3
    obtain⟨t0,t4⟩:0≤x.t∧x.t<4:=by have:=nL (by omega);omega
    have hj:x.t.toNat<4:=by omega
    refine b9 ?_;conv=>whnf
    refine aj true ?_;conv=>whnf
    repeat(first|(refine⟨_,bA gx rfl,?_⟩;conv=>whnf)|(refine⟨_,i3 t0 t4,?_⟩;conv=>whnf))
    refine aT (cD (n:=1) (v:=.bool false) (o:=0+5+x.t.toNat*4+0) gp rfl (by rw[jT];omega) rfl) fun h4 e4=>?_;conv=>whnf
    obtain⟨g4,f4⟩:=hst (n:=1) gp e4 (by rw[show 0+5+x.t.toNat*4+0=5+x.t.toNat*4+0 by omega];exact HE hj _);have QT:=Za e4 gx;have r4:=xO e4 r;clear e4;obtain⟨q1,q2⟩:=fK p x.t.toNat {p.js x.t.toNat with is:=false};generalize p.fm x.t.toNat {p.js x.t.toNat with is:=false}=q at*;rw[←q1,←q2] at hQ;refine aa (z:=true) ?_;conv=>whnf
    refine⟨_,bA g4 rfl,?_⟩;conv=>whnf
    refine br (fun hc=>?_) (fun hc=>?_)<;>(try rw[hc])<;>(conv=>whnf)
    ·rw[hc,Bool.true_and] at hQ;repeat(first|(refine⟨_,bA g4 rfl,?_⟩;conv=>whnf)|(refine⟨_,bA QT rfl,?_⟩;conv=>whnf))
     refine aT (cD (n:=1) (v:=.bool (q.task !=x.t)) (o:=0+21) g4 rfl (Nat.le_of_ble_eq_true rfl) rfl) fun h5 e5=>?_;conv=>whnf
     obtain⟨g5,f5⟩:=hst (n:=1) (p2:={q with has:=q.task !=x.t}) g4 e5 rfl;exact hQ _ _ (xO e5 r4) g5 (f4.trans f5) ⟨rfl,rfl,rfl,trivial⟩
    ·rw[hc,Bool.false_and] at hQ;refine aT (cD (n:=1) (v:=.bool false) (o:=0+21) g4 rfl (Nat.le_of_ble_eq_true rfl) rfl) fun h5 e5=>?_;conv=>whnf
     obtain⟨g5,f5⟩:=hst (n:=1) (p2:={q with has:=false}) g4 e5 rfl;exact hQ _ _ (xO e5 r4) g5 (f4.trans f5) ⟨rfl,rfl,rfl,trivial⟩
   |false=>
    rw[if_neg (by rw[e3];simp)] at hQ;refine b9 ?_;conv=>whnf
    refine aj true ?_;conv=>whnf
    cases e5:(x.k==5) with
    |true=>
     rw[if_pos e5] at hQ;refine b9 ?_;conv=>whnf
     refine az (VC.mono (Q:=fun y e h=>y=.normal∧h.get pp=some (.cells (dG (if(x.e==0&&x.n==4)=true then{p with has:=true,task:=x.t} else p)) true 0)∧h.get px=some (.cells (nt x).cells true 0)∧RS h b C X (sy now bf gone) cs (ps.set i p)∧Fr h3 h [b,pp]∧aP e [(0,.ptr b 0),(3,.ptr px 0),(4,.ptr pp 0)]) ?_ ?_)
     ·clear hQ;refine az (VC.mono (Q:=fun y e h=>y=.normal∧h=h3∧aP e [(0,.ptr b 0),(3,.ptr px 0),(4,.ptr pp 0),(98,.bool (x.e==0&&x.n==4))]) ?_ ?_)
      ·refine aa (z:=true) ?_;conv=>whnf
       iterate 3 (all_goals (first|(refine⟨_,bA gx rfl,?_⟩;conv=>whnf)|(refine br (fun hc=>?_) (fun hc=>?_)<;>(try rw[hc])<;>(conv=>whnf))|skip))
       all_goals (exact⟨rfl,rfl,rfl,rfl,rfl,by(first|rfl|(simp only[*];done)|(simp only[*];rfl)),trivial⟩)
      rintro y e h3 ⟨rfl,rfl,he⟩;show VC fs ms _ _ _ _ _ _;refine ak 7 _ he ?_;clear he;refine b9 ?_;conv=>whnf
      refine br (fun hc=>?_) (fun hc=>?_)<;>(try rw[hc])<;>(conv=>whnf)
      ·rw[if_pos rfl];refine aj true ?_;conv=>whnf
       refine aT (cD (n:=1) (v:=.bool true) (o:=0+21) gp rfl (Nat.le_of_ble_eq_true rfl) rfl) fun h4 e4=>?_;conv=>whnf
       obtain⟨g4,f4⟩:=hst (n:=1) (p2:={p with has:=true}) gp e4 rfl;have QT:=Za e4 gx;have r4:=xO e4 r;clear e4;refine aa (z:=true) ?_;conv=>whnf
       refine⟨_,bA QT rfl,?_⟩;conv=>whnf
       refine aT (cD (n:=1) (v:=.int .i64 x.t) (o:=0+22) g4 rfl (Nat.le_of_ble_eq_true rfl) rfl) fun h5 e5=>?_;conv=>whnf
       obtain⟨g5,f5⟩:=hst (n:=1) (p2:={p with has:=true,task:=x.t}) g4 e5 rfl;exact⟨rfl,g5,Za e5 QT,xO e5 r4,f4.trans f5,rfl,rfl,rfl,trivial⟩
      ·rw[if_neg (by simp)];refine aa (z:=true) ?_;conv=>whnf
       exact⟨rfl,gp,gx,r,Fr.refl _ _,rfl,rfl,rfl,trivial⟩
     rintro y e h4 ⟨rfl,g4,QT,r4,f4,he⟩;show VC fs ms _ _ _ _ _ _;refine ak 4 _ he ?_;clear he;generalize(if(x.e==0&&x.n==4)=true then{p with has:=true,task:=x.t} else p)=q at*;refine az (VC.mono (Q:=fun y e h=>y=.normal∧h=h4∧aP e [(0,.ptr b 0),(3,.ptr px 0),(4,.ptr pp 0),(110,.bool (x.e==0&&x.n==5))]) ?_ ?_)
     ·refine aa (z:=true) ?_;conv=>whnf
      iterate 3 (all_goals (first|(refine⟨_,bA QT rfl,?_⟩;conv=>whnf)|(refine br (fun hc=>?_) (fun hc=>?_)<;>(try rw[hc])<;>(conv=>whnf))|skip))
      all_goals (exact⟨rfl,rfl,rfl,rfl,rfl,by(first|rfl|(simp only[*];done)|(simp only[*];rfl)),trivial⟩)
     rintro y e h4 ⟨rfl,rfl,he⟩;show VC fs ms _ _ _ _ _ _;refine ak 7 _ he ?_;clear he;refine aa (z:=true) ?_;conv=>whnf
     refine br (fun hc=>?_) (fun hc=>?_)<;>(try rw[hc])<;>(conv=>whnf)
     ·rw[if_pos hc] at hQ;refine aT (cD (n:=1) (v:=.bool false) (o:=0+21) g4 rfl (Nat.le_of_ble_eq_true rfl) rfl) fun h5 e5=>?_;conv=>whnf
      obtain⟨g5,f5⟩:=hst (n:=1) (p2:={q with has:=false}) g4 e5 rfl;exact hQ _ _ (xO e5 r4) g5 (f4.trans f5) ⟨rfl,rfl,rfl,trivial⟩
     ·rw[if_neg (by rw[hc];simp)] at hQ;exact hQ _ _ r4 g4 f4 ⟨rfl,rfl,rfl,trivial⟩
    |false=>
     rw[if_neg (by rw[e5];simp)] at hQ;refine aa (z:=true) ?_;conv=>whnf
     exact hQ _ _ r gp (Fr.refl _ _) ⟨rfl,rfl,rfl,trivial⟩
end
end Ir
end Go.Proofs.Ytepdklcpagielaa
set_option maxRecDepth 100000
set_option linter.unusedSimpArgs false
set_option linter.unusedVariables false
namespace Go.Proofs.Ytepdklcpagielaa
open Go Ads
namespace Ir
theorem uf(c:Pt)(p:Pr)(x:Nt):(dg c p x).1.ts=c.ts:=by
 unfold dg;split
 ·exact z3 c p x
 ·rfl
def xU(s:Ks)(i:Nat)(c:Pt)(p:Pr)(t:Tk)(x:Nt):Ks:=
 (s.1.set i (dg c p x).1,s.2.1.set i (mP (dg c p x).2.1 x t),s.2.2.1,s.2.2.2.1||x.k==1,s.2.2.2.2||(dg c p x).2.2)
section
variable {b C:Nat} {X:AV} {cs:List Pt} {ps:List Pr}
theorem Js{h0:Heap}{now:Int}{bf gone:Bool}(r:RS h0 b C X (sy now bf gone) cs ps)(hb:b<h0.next)(hC:C<h0.next){i:Nat}{x:Nt}(sh:UL cs i x)(hi:i<cs.length)(oe:i<ps.length){Q:AV→Heap→Prop}
  (hQ:∀h',RS h' b C X (sy now (bf||x.k==1) (gone||(dg cs[i] ps[i] x).2.2)) (cs.set i (dg cs[i] ps[i] x).1) (ps.set i (mP (dg cs[i] ps[i] x).2.1 x (cs[i].ts.getD x.t.toNat jv)))→Fr h0 h' [b,C]→Q (.cQ []) h'):VD fs ms 48 [.ptr b 0,nt x] h0 Q:=by
 have hlen:=r.len;have oy:=sh.xp;refine bw (af:=UI) rfl (Nat.le_of_ble_eq_true rfl) ?_;conv=>whnf
 refine aj true ?_;conv=>whnf
 have gs:(h0.new (.cells (nt x).cells true 0)).get h0.next=some (.cells (nt x).cells true 0):=an;have cT:Fr h0 (h0.new (.cells (nt x).cells true 0)) []:=(Fr.refl h0 []).new;have n1:h0.next<(h0.new (.cells (nt x).cells true 0)).next:=Nat.lt_succ_self _
 have r1:=r.keep cT hb hC;generalize h0.new (.cells (nt x).cells true 0)=h1 at*;refine aj true ?_;conv=>whnf
 refine⟨nt x,tU (n:=7) gs (Nat.le_refl _),?_⟩;conv=>whnf
 refine Jr r1 (by omega) (by omega) oy hi oe (fun h2 r2 fq=>?_);conv=>whnf
 have hts:=uf cs[i] ps[i] x;generalize hB:dg cs[i] ps[i] x=B at*;obtain⟨c',p',g'⟩:=B;simp only at r2 hQ hts;have qM:h2.get h0.next=some (.cells (nt x).cells true 0):=(fq.keep _ n1 (by simp;omega)).trans gs;have kq:Fr h0 h2 [b,C]:=(cT.wk (by simp)).trans fq;have n2:h0.next<h2.next:=Nat.lt_of_lt_of_le n1 fq.next;have hi':i<(cs.set i c').length:=by simpa using hi
 have Vz:(cs.set i c')[i]=c':=List.getElem_set_self _;clear gs cT r1;refine aj true ?_;conv=>whnf
 refine⟨_,bA qM rfl,?_⟩;conv=>whnf
 rw[oy];refine⟨_,dr (by omega),?_⟩;conv=>whnf
 rw[←oy];have LI:=r2.whole (i:=i) (o:=0+2+i*23) (by simpa using oe) (by omega);rw[List.getElem_set_self] at LI;refine⟨_,LI,?_⟩;conv=>whnf
 refine aT (cD (n:=23) (v:=.agg (dG p')) an rfl (Nat.le_refl _) rfl) fun h3 e3=>?_;conv=>whnf
 have gp:h3.get h2.next=some (.cells (dG p') true 0):=by rw[e3,aG];rfl
 have iB:Fr h2 h3 []:=by rw[e3];exact((Fr.refl h2 []).new (x:=_)).lD (Nat.le_refl _)
 have n3:h2.next<h3.next:=by rw[e3];exact Nat.lt_succ_self _
 have rE:h3.get h0.next=some (.cells (nt x).cells true 0):=(iB.keep _ n2 (by simp)).trans qM;have r3:=r2.keep iB (by omega) (by omega);clear e3 LI qM;generalize hpp:h2.next=pp at*;have hQ':∀h',RS h' b C X (sy now (bf||x.k==1) (gone||g')) (cs.set i c') (ps.set i (mP p' x ((cs.set i c')[i].ts.getD x.t.toNat jv)))→Fr h0 h' [b,C]→Q (.cQ []) h':=by rw[Vz,hts];exact hQ
 clear hQ;refine az (aj true ?_);conv=>whnf
 refine⟨_,bA rE rfl,?_⟩;conv=>whnf
 refine P4 (i:=i) (pp:=pp) (px:=h0.next) (p:=p') (x:=x) r3 (by omega) (by omega) (by omega) (by omega) hb hC oy hi' oe ⟨sh.k1,sh.k8⟩ (fun h=>sh.low h) (fun h5 t0=>?_) gp rE (fun e' h4 r4 g4 jY he=>?_) ⟨rfl,rfl,rfl,rfl,trivial⟩
 ·rw[Vz,hts];have:=sh.tn (nv h5);omega
 ·show VC fs ms _ _ _ _ _ _;refine ak 4 _ he (aa (z:=true) ?_);have vK:h4.get h0.next=some (.cells (nt x).cells true 0):=(jY.keep _ (by omega) (by simp;omega)).trans rE;generalize mP p' x ((cs.set i c')[i].ts.getD x.t.toNat jv)=q at*;conv=>whnf
  refine⟨_,bA vK rfl,?_⟩;conv=>whnf
  refine⟨.agg (dG q),tU (n:=23) g4 (Nat.le_refl _),?_⟩;conv=>whnf
  rw[oy];refine⟨_,dr (by omega),?_⟩;conv=>whnf
  obtain⟨h5,s5,r5,k9⟩:=r4.vC (v:=.agg (dG q)) (n:=23) (p':=q) oe (f:=0) (o:=0+2+i*23) (by omega) rfl (by omega) rfl rfl;refine aT s5 fun O6 e5=>?_;subst e5;conv=>whnf
  refine hQ' _ r5 ⟨by have:=kq.next;have:=iB.next;have:=jY.next;have:=k9.next;omega,fun d hd Ai=>?_⟩;simp only[List.mem_cons,List.not_mem_nil,or_false,not_or] at Ai;have La:=kq.next;have rF:=iB.next;have JW:=jY.next;rw[k9.keep d (by omega) (by simp;omega),jY.keep d (by omega) (by simp;omega),iB.keep d (by omega) (by simp)];exact kq.keep d hd (by simp;omega)
end
end Ir
end Go.Proofs.Ytepdklcpagielaa
set_option maxRecDepth 100000
set_option linter.unusedSimpArgs false
set_option linter.unusedVariables false
namespace Go.Proofs.Ytepdklcpagielaa
open Go Ads
namespace Ir
def tW(un:Int)(s:Ks)(x:Nt):Int ⊕Ks:=
 if cX s.1 s.2.2.1 un x=false then .inl 1
 else match nV s.1.length (x.a-s.2.2.1).toNat s.2.1 s.2.2.1 s.2.2.2.1 s.2.2.2.2 with
 |.inl r=>.inl r
 |.inr (ps,now,bf,gone)=>
  if iA s.1 ps bf (ps.getD x.p.toNat mg) ((s.1.getD x.p.toNat Gt).ts.getD x.t.toNat jv) x>0 then .inl (iA s.1 ps bf (ps.getD x.p.toNat mg) ((s.1.getD x.p.toNat Gt).ts.getD x.t.toNat jv) x)
  else .inr (xU (s.1,ps,now,bf,gone) x.p.toNat (s.1.getD x.p.toNat Gt) (ps.getD x.p.toNat mg) ((s.1.getD x.p.toNat Gt).ts.getD x.t.toNat jv) x)
def wS(un:Int):Nat→Ks→List Nt→(Int×Nat) ⊕Ks
 |_,s,[]=>.inr s
 |j,s,x::l=>match tW un s x with
  |.inl r=>.inl (r,j)
  |.inr s=>wS un (j+1) s l
def acW(un:Int)(s:Ks)(l:List Nt):Int×Nat:=match wS un 0 s l with
 |.inl r=>r
 |.inr s=>match nV s.1.length (un-s.2.2.1).toNat s.2.1 s.2.2.1 s.2.2.2.1 s.2.2.2.2 with
  |.inl r=>(r,l.length)
  |.inr _=>(0,0)
theorem Jy{un:Int}{s:Ks}{l:List Nt}{j:Nat}(hj:j<l.length):wS un j s (l.drop j)=match tW un s l[j] with|.inl r=>.inl (r,j)|.inr s=>wS un (j+1) s (l.drop (j+1)):=by
 rw[List.drop_eq_getElem_cons hj];rfl
theorem IG(p:Pr)(x:Nt)(t:Tk):(mP p x t).has=true→(p.has=true∧(mP p x t).task=p.task)∨(x.k=5∧(mP p x t).task=x.t):=by
 unfold mP;split
 ·split
  ·intro h;obtain⟨a,b⟩:=fK p x.t.toNat ⟨true,x.a,0,IntKind.i64.wrap (x.a+t.p)⟩;exact .inl ⟨a▸h,b⟩
  ·intro h;exact .inl ⟨h,rfl⟩
 ·split
  ·split
   ·intro h;obtain⟨a,b⟩:=fK {p with bf:=IntKind.i64.wrap (p.bf+1)} x.t.toNat {p.js x.t.toNat with bf:=IntKind.i64.wrap ((p.js x.t.toNat).bf+1)};rw[a] at h;exact .inl ⟨h,b⟩
   ·intro h;exact .inl ⟨h,rfl⟩
  ·split
   ·intro h;obtain⟨a,b⟩:=fK p x.t.toNat {p.js x.t.toNat with is:=false};simp only[Bool.and_eq_true] at h;exact .inl ⟨h.1,b⟩
   ·split
    ·rename_i h5;split
     ·intro h;simp at h
     ·split
      ·intro _;exact .inr ⟨by simpa using h5,rfl⟩
      ·intro h;exact .inl ⟨h,rfl⟩
    ·intro h;exact .inl ⟨h,rfl⟩
theorem Ds(c:Pt)(p:Pr)(x:Nt):(dg c p x).2.1.has=true→p.has=true∧(dg c p x).2.1.task=p.task:=by
 unfold dg;split
 ·exact B2 c p x
 ·intro h;exact⟨h,rfl⟩
theorem CV{cs:List Pt}{now un:Int}{x:Nt}(hts:∀c∈cs,c.ts.length≤4)(h:cX cs now un x=true):UL cs x.p.toNat x:=by
 obtain⟨a1,a2,k1,k8,p1,p2,tw,tn⟩:=qy h;obtain⟨i,hic,oy,xP⟩:=sx p1 p2;rw[xP] at tn;have hi:x.p.toNat=i:=by omega
 rw[hi];exact⟨hic,oy,k1,k8,tw,tn,hts _ (List.getElem_mem hic)⟩
theorem I2{un:Int}{s s':Ks}{x:Nt}(hi:Inv s)(h:tW un s x=.inr s'):Inv s':=by
 unfold tW at h;split at h
 ·simp at h
 rename_i hs;have sh:=CV hi.ts (by simpa using hs:cX s.1 s.2.2.1 un x=true);split at h
 ·simp at h
 rename_i ps now bf gone hto;obtain⟨hsame,FY⟩:=pQ hto;simp only at hsame FY;have hwf:=hsame.wf hi.wf;generalize hin:x.p.toNat=i at*;have hic:=sh.hi;have hlen:ps.length=4:=hsame.1.trans hi.len;have oe:i<ps.length:=by have:=hi.le;omega
 have h0:0≤now:=by have:=hi.now;omega
 rw[show ps.getD i mg=ps[i] by simp[List.getD_eq_getElem?_getD,List.getElem?_eq_getElem oe],show s.1.getD i Gt=s.1[i] by simp[List.getD_eq_getElem?_getD,List.getElem?_eq_getElem hic]] at h;split at h
 ·simp at h
 have hold:=fun hh=>hwf i hic oe hh;simp only[Sum.inr.injEq] at h;subst h;unfold xU;refine⟨h0,?_,?_,by simpa using hlen,by simpa using hi.le⟩
 ·refine Rw (cs:=s.1) (wf_set hwf fun hc hh=>?_) (by simp) (MR fun hc=>uf _ _ _);rcases IG _ _ _ hh with⟨a,b⟩|⟨a,b⟩
  ·obtain⟨a',b'⟩:=Ds _ _ _ a;rw[b,b'];exact hold a'
  ·rw[b];have:=sh.tn (nv (by omega));omega
 ·intro c hc;rcases List.mem_or_eq_of_mem_set hc with h1|h1
  ·exact hi.ts c h1
  ·rw[h1,uf];exact hi.ts _ (List.getElem_mem hic)
section
variable {b C:Nat} {X:AV}
theorem P7{h0:Heap}{kl:Nat}{un:Int}(hun:un≤10000){l:List Nt}(hl:l.length≤17592186044416){s0:Ks}{B:Nat}{Q:AX→Env→Heap→Prop}
  (hQ:∀s,wS un 0 s0 l=.inr s→Inv s→∀e' h',RS h' b C X (sy s.2.2.1 s.2.2.2.1 s.2.2.2.2) s.1 s.2.1→Fr h0 h' [b,C]→aP e' [(1,.fz kl (b8 l)),(2,.int .i64 un),(10,.ptr b 0)]→Q (.exit 0) e' h')
  (hP:∀rule j,wS un 0 s0 l=.inl (rule,j)→∀e' h',aP e' [(6,.int .i64 rule),(7,.int .i64 ((j:Nat):Int)),(8,.int .i64 0)]→Q .ret e' h'):
  ∀(m j:Nat) (h:Heap) (s:Ks) (env:Env),l.length-j=m→j≤l.length→wS un 0 s0 l=wS un j s (l.drop j)→Inv s→b<h.next→C<h.next→RS h b C X (sy s.2.2.1 s.2.2.2.1 s.2.2.2.2) s.1 s.2.1→Fr h0 h [b,C]→
  aP env [(1,.fz kl (b8 l)),(2,.int .i64 un),(10,.ptr b 0),(11,.int .i64 ((j:Nat):Int))]→
  VC fs ms B false (.loop jD) env h Q:=by
 intro m;induction m using Nat.strongRecOn with
 |ind m ih=>
 intro j h s env hm hj hrun hi hb hC r fr cH;refine ak 4 _ cH ?_;refine bJ (aj true ?_);conv=>whnf
 rw[bU];refine br (fun hc=>?_) (fun hc=>?_)<;>(try rw[hc])<;>(conv=>whnf)
 ·have hlt:j<l.length:=by have:=of_decide_eq_true hc;omega
  rw[Jy hlt] at hrun;obtain⟨cs,ps,now,bf,gone⟩:=s;have hidx:pV (.aE 7) [.fz kl (b8 l),.int .i64 (j:Nat)]=some (.fp (nt l[j]).cells 0):=kF hlt;have y3:∀h:Heap,rV (.bn 7) [.fp (nt l[j]).cells 0] h=some (nt l[j]):=fun _=>rfl;have Fc:∀h:Heap,rV .bC [.fp (nt l[j]).cells (0+0)] h=some (.int .i64 l[j].a):=fun _=>rfl;generalize hx:l[j]=x at*;simp only at r;unfold tW at hrun;simp only at hrun;refine az (aL ?_);refine az (aj true ?_);conv=>whnf
  refine⟨_,hidx,?_⟩;conv=>whnf
  refine⟨_,y3 _,?_⟩;conv=>whnf
  refine Jv r hb hC x (fun h1 cT=>?_);conv=>whnf
  have r1:=r.keep cT hb hC;have ox:=Nat.lt_of_lt_of_le hb cT.next;have Nq:=Nat.lt_of_lt_of_le hC cT.next;have FJ:Fr h0 h1 [b,C]:=fr.trans (cT.wk (by simp));refine aa (z:=true) ?_;conv=>whnf
  refine br (fun hc=>?_) (fun hc=>?_)<;>(try rw[hc])<;>(conv=>whnf)
  ·rw[if_pos (by simpa using hc)] at hrun;exact hP 1 j hrun _ _ ⟨rfl,rfl,rfl,trivial⟩
  have hs:cX cs now un x=true:=by simpa using hc
  rw[if_neg (by rw[hs];simp)] at hrun;clear hc;obtain⟨a1,a2,k1,k8,p1,p2,tw,tn⟩:=qy hs;have sh:=CV hi.ts hs;refine az (aj true ?_);conv=>whnf
  refine⟨_,hidx,?_⟩;conv=>whnf
  refine⟨_,Fc _,?_⟩;conv=>whnf
  refine Rq r1 ox Nq hi.now (show x.a≤10000 by omega) (fun s hto h2 r2 fq=>?_) (fun rule hto h2=>?_)
  rotate_left
  ·rw[hto] at hrun;conv=>whnf
   refine aa (z:=true) ?_;conv=>whnf
   have hpos:rule>0:=by
    have:∀{k:Nat} {ps:List Pr} {now:Int} {bf gone:Bool},nV cs.length k ps now bf gone=.inl rule→0<rule:=by
     intro k;induction k with
     |zero=>intro ps now bf gone h;simp[nV] at h
     |succ k ih2=>
      intro ps now bf gone h;simp only[nV] at h;split at h
      ·rename_i r' hr';simp only[Sum.inl.injEq] at h;subst h;exact Ci hr'
      ·exact ih2 h
    exact this hto
   refine kO (decide_eq_true hpos) (fun hc=>?_)
   (try rw[hc])
   conv=>whnf
   exact hP rule j hrun _ _ ⟨rfl,rfl,rfl,trivial⟩
  rw[hto] at hrun;obtain⟨hsame,FY⟩:=pQ hto;obtain⟨ps1,Gi,xS,xo⟩:=s;simp only at hrun r2 hsame FY;have hwf:=hsame.wf hi.wf;simp only at hwf;have iH:=Nat.lt_of_lt_of_le ox fq.next;have Fb:=Nat.lt_of_lt_of_le Nq fq.next;have kq:Fr h0 h2 [b,C]:=FJ.trans (fq.wk (by simp));have yX:∀s',tW un (cs,ps,now,bf,gone) x=.inr s'→Inv s':=fun s' h=>I2 hi h;unfold tW at yX;simp only at yX;rw[if_neg (by rw[hs];simp),hto] at yX;simp only at yX;conv=>whnf
  refine aa (z:=true) ?_;conv=>whnf
  generalize hin:x.p.toNat=i at*;have hic:i<cs.length:=sh.hi;have oe:i<ps1.length:=by have:=r2.len;have:=r2.le;omega
  rw[show ps1.getD i mg=ps1[i] by simp[List.getD_eq_getElem?_getD,List.getElem?_eq_getElem oe],show cs.getD i Gt=cs[i] by simp[List.getD_eq_getElem?_getD,List.getElem?_eq_getElem hic]] at hrun yX;refine az (aj true ?_);conv=>whnf
  refine⟨_,hidx,?_⟩;conv=>whnf
  refine⟨_,y3 _,?_⟩;conv=>whnf
  refine Jt r2 iH Fb hwf sh hic oe (fun h3 iB=>?_);conv=>whnf
  have r3:=r2.keep iB iH Fb;have uY:Fr h0 h3 [b,C]:=kq.trans (iB.wk (by simp));refine aa (z:=true) ?_;conv=>whnf
  refine br (fun hc=>?_) (fun hc=>?_)<;>(try rw[hc])<;>(conv=>whnf)
  ·have hpos:=of_decide_eq_true hc;rw[if_pos hpos] at hrun;exact hP _ j hrun _ _ ⟨rfl,rfl,rfl,trivial⟩
  have hpos:=of_decide_eq_false hc;rw[if_neg hpos] at hrun yX;refine aa (z:=true) ?_;conv=>whnf
  refine⟨_,hidx,?_⟩;conv=>whnf
  refine⟨_,y3 _,?_⟩;conv=>whnf
  refine Js r3 (Nat.lt_of_lt_of_le iH iB.next) (Nat.lt_of_lt_of_le Fb iB.next) sh hic oe (fun h4 r4 jY=>?_);conv=>whnf
  refine aa (z:=true) ?_;conv=>whnf
  exact ih (l.length-(j+1)) (by omega) (j+1) h4 _ _ rfl (by omega) hrun (yX _ rfl) (Nat.lt_of_lt_of_le iH (Nat.le_trans iB.next jY.next)) (Nat.lt_of_lt_of_le Fb (Nat.le_trans iB.next jY.next)) r4 (uY.trans jY) ⟨rfl,rfl,rfl,ay (by omega),trivial⟩
 ·have hge:j=l.length:=by have:=of_decide_eq_false hc;omega
  subst hge;rw[List.drop_length] at hrun;exact hQ s hrun hi _ h r fr ⟨rfl,rfl,rfl,trivial⟩
def o7(L:List Pt)(O:List Po)(l:List Nt)(un:Int):Int×Int×Int:=
 if eT L O=false then(0,0,50)
 else if(decide (un<0)||decide (un>10000))=true then(0,0,5)
 else match wS un 0 (qU L) l with
 |.inl r=>(r.1,((r.2:Nat):Int),0)
 |.inr s=>match nV s.1.length (un-s.2.2.1).toNat s.2.1 s.2.2.1 s.2.2.2.1 s.2.2.2.2 with
  |.inl r=>(r,((l.length:Nat):Int),0)
  |.inr _=>(0,0,0)
theorem C1{n:Nat}{rule:Int}:∀{k:Nat} {ps:List Pr} {now:Int} {bf gone:Bool},nV n k ps now bf gone=.inl rule→0<rule:=by
 intro k;induction k with
 |zero=>intro ps now bf gone h;simp[nV] at h
 |succ k ih2=>
  intro ps now bf gone h;simp only[nV] at h;split at h
  ·rename_i r' hr';simp only[Sum.inl.injEq] at h;subst h;exact Ci hr'
  ·exact ih2 h
theorem KR{a c d:Nat}{e:Env}{h:Heap}{Q:AV→Heap→Prop}{u v w:AV}(hg:Tr.get e a=some u∧Tr.get e c=some v∧Tr.get e d=some w)(hq:Q (.cQ [u,v,w]) h):vX [.tmp a,.tmp c,.tmp d] Q .ret e h:=by
 simp only[vX,er,oR,hg.1,hg.2.1,hg.2.2];exact hq
theorem P6{k ko kl:Nat}{L:List Pt}{O:List Po}(hf:Fits L O){l:List Nt}(hl:l.length≤17592186044416)(un:Int):
  PC fs ms 19 [cfg k L ko O,.fz kl (b8 l),.int .i64 un] (.cQ [.int .i64 (o7 (L.map jl) O l un).1,.int .i64 (o7 (L.map jl) O l un).2.1,.int .i64 (o7 (L.map jl) O l un).2.2]):=by
 have hp:=hf.EA;have fh:eT (L.map jl) O=eT L O:=by
  have h1:(L.map jl).all gy=L.all gy:=by rw[List.all_map];rfl
  rw[eT,eT,h1,List.length_map]
 refine aX (by simp[bL,oK,AV.cl,nG]) rfl ?_;generalize(⟨0,.nil⟩:Heap)=h0;refine bw (af:=Xy) rfl (Nat.le_of_ble_eq_true rfl) ?_;generalize hQ:(fun(v:AV) (_:Heap)=>v=.cQ [.int .i64 (o7 (L.map jl) O l un).1,.int .i64 (o7 (L.map jl) O l un).2.1,.int .i64 (o7 (L.map jl) O l un).2.2])=Q;have hq:∀r:Int×Int×Int,o7 (L.map jl) O l un=r→∀h,Q (.cQ [.int .i64 r.1,.int .i64 r.2.1,.int .i64 r.2.2]) h:=by
  subst hQ;intro r hr h;rw[hr]
 clear hQ;conv=>whnf
 refine aj true ?_;conv=>whnf
 have g1:(h0.new (.cells (cfg k L ko O).cells true 0)).get h0.next=some (.cells [.fz k (pts L),.fz ko (pos O)] true 0):=an;generalize h0.new (.cells (cfg k L ko O).cells true 0)=h1 at*;refine az (aj true ?_);conv=>whnf
 refine⟨cfg k L ko O,tU (n:=2) g1 (Nat.le_refl _),?_⟩;conv=>whnf
 refine au (KA k L ko O hf.small (by omega)) ?_;conv=>whnf
 cases hc0:eT L O with
 |false=>
  refine aa (z:=true) ?_;conv=>whnf
  exact hq (0,0,50) (by rw[o7,if_pos (fh.trans hc0)]) _
 |true=>
  obtain⟨l1,l4,lt⟩:=vV hc0;refine aa (z:=true) ?_;conv=>whnf
  refine az (VC.mono (Q:=fun y e h=>h=h1∧((y=.ret∧(decide (un<0)||decide (un>10000))=true∧Tr.get e 6=some (.int .i64 0)∧Tr.get e 7=some (.int .i64 0)∧Tr.get e 8=some (.int .i64 5))∨(y=.normal∧(decide (un<0)||decide (un>10000))=false∧aP e [(1,.fz kl (b8 l)),(2,.int .i64 un),(3,.ptr h0.next 0)]))) ?_ ?_)
  ·refine aa (z:=true) ?_;conv=>whnf
   refine br (fun hc=>?_) (fun hc=>?_)<;>(try rw[hc])<;>(conv=>whnf)
   ·exact⟨rfl,.inl ⟨rfl,by(first|rfl|(simp only[*];done)|(simp only[*];rfl)),rfl,rfl,rfl⟩⟩
   ·refine br (fun hc=>?_) (fun hc=>?_)<;>(try rw[hc])<;>(conv=>whnf)
    ·exact⟨rfl,.inl ⟨rfl,by(first|rfl|(simp only[*];done)|(simp only[*];rfl)),rfl,rfl,rfl⟩⟩
    ·exact⟨rfl,.inr ⟨rfl,by(first|rfl|(simp only[*];done)|(simp only[*];rfl)),rfl,rfl,rfl,trivial⟩⟩
  rintro y e h ⟨rfl,⟨rfl,hb,hg⟩|⟨rfl,hb,he⟩⟩
  ·exact KR hg (hq (0,0,5) (by rw[o7,if_neg (by rw[fh,hc0];simp),if_pos hb]) h)
  ·have hun:un≤10000:=by
    simp only[Bool.or_eq_false_iff,decide_eq_false_iff_not] at hb;omega
   have hT:o7 (L.map jl) O l un=match wS un 0 (qU (L.map jl)) l with
     |.inl r=>(r.1,((r.2:Nat):Int),0)
     |.inr s=>match nV s.1.length (un-s.2.2.1).toNat s.2.1 s.2.2.1 s.2.2.2.1 s.2.2.2.2 with
      |.inl r=>(r,((l.length:Nat):Int),0)
      |.inr _=>(0,0,0):=by
    rw[o7,if_neg (by rw[fh,hc0];simp),if_neg (by rw[hb];simp)]
   show VC fs ms _ _ _ _ _ _;refine ak 4 _ he ?_;clear he;refine az (VC.mono (Q:=fun y e h3=>y=.normal∧∃b C X,RS h3 b C X (sy 0 false false) (L.map jl) [mg,mg,mg,mg]∧b<h3.next∧C<h3.next∧aP e [(1,.fz kl (b8 l)),(2,.int .i64 un),(10,.ptr b 0)]) ?_ ?_)
   ·refine aa (z:=true) ?_;conv=>whnf
    refine⟨cfg k L ko O,tU (n:=2) g1 (Nat.le_refl _),?_⟩;conv=>whnf
    refine Hg k ko hf (fun h2 v w hv hw fq=>?_);rcases hv with⟨hv,_⟩|⟨_,C,Nq,Fb,hv,gC⟩
    ·exfalso;have:(pts (L.map jl)).length=0:=by rw[hv];rfl
     rw[bh,List.length_map] at this;omega
    ·rw[bh] at hv;have Zb:(L.map jl).length≤4:=by rw[List.length_map];exact l4
     generalize L.map jl=L' at*;subst hv;have hwc:w.cells=[w]:=by
      rcases hw with⟨_,rfl⟩|⟨_,b,_,_,rfl,_⟩<;>rfl
     have hsp:Heap.splice (AV.aD::AV.aD::(th [mg,mg,mg,mg]++sy 0 false false)) 0 [.sl C 0 L'.length L'.length true,w]=.sl C 0 L'.length L'.length true::w::(th [mg,mg,mg,mg]++sy 0 false false):=rfl;conv=>whnf
     exact⟨rfl,h2.next,C,w,⟨an,(aO Fb).trans gC,rfl,Zb,by omega⟩,Nat.lt_succ_self _,Nat.lt_succ_of_lt Fb,rfl,rfl,rfl,trivial⟩
   rintro y e h3 ⟨rfl,b,C,X,r3,nb,nC,he⟩;show VC fs ms _ _ _ _ _ _;refine ak 4 _ he ?_;clear he;have hi0:Inv (qU (L.map jl)):=LQ (by rw[List.length_map];exact l4) (fun c hc=>by
    obtain⟨d,hd,rfl⟩:=List.mem_map.1 hc;exact lt d hd)
   generalize L.map jl=L' at*;refine az (aj true ?_);conv=>whnf
   refine aL ?_;refine P7 (b:=b) (C:=C) (X:=X) (h0:=h3) (kl:=kl) hun hl (s0:=qU L') (fun s hs hi e' h' r' fr' he=>?_) (fun rule j hs e' h' he=>?_) l.length 0 h3 (qU L') _ rfl (Nat.zero_le _) rfl hi0 nb nC r3 (Fr.refl _ _) ⟨rfl,rfl,rfl,rfl,trivial⟩
   rotate_left
   ·rw[hs] at hT;exact KR ⟨he.1,he.2.1,he.2.2.1⟩ (hq _ hT h')
   ·rw[hs] at hT;show VC fs ms _ _ _ _ _ _;refine ak 4 _ he ?_;clear he;obtain⟨cs,ps,now,bf,gone⟩:=s;simp only at r' hT;refine az (aj true ?_);conv=>whnf
    refine Rq r' (Nat.lt_of_lt_of_le nb fr'.next) (Nat.lt_of_lt_of_le nC fr'.next) hi.now hun (fun s hto h4 r4 jY=>?_) (fun rule hto h4=>?_)
    ·rw[hto] at hT;conv=>whnf
     refine aa (z:=true) ?_;conv=>whnf
     refine aa (z:=true) ?_;conv=>whnf
     exact hq (0,0,0) hT _
    ·rw[hto] at hT;conv=>whnf
     refine aa (z:=true) ?_;conv=>whnf
     refine kO (decide_eq_true (C1 hto)) (fun hc=>?_)
     (try rw[hc])
     conv=>whnf
     rw[bU];exact hq _ hT _
end
end Ir
end Go.Proofs.Ytepdklcpagielaa
set_option maxRecDepth 100000
set_option linter.unusedSimpArgs false
set_option linter.unusedVariables false
namespace Go.Proofs.Ytepdklcpagielaa
open Go Ads
namespace Ir
def PE(p q:Pr):Prop:=∃t,q={p with task:=t}∧(p.has=true→t=p.task)
theorem PE.refl(p:Pr):PE p p:=⟨p.task,rfl,fun _=>rfl⟩
structure LE(ps qs:List Pr):Prop where
 len:ps.length=qs.length
 at_:∀(i:Nat) (h1:i<ps.length) (h2:i<qs.length),PE ps[i] qs[i]
structure CE(cs ds:List Pt):Prop where
 len:cs.length=ds.length
 at_:∀(i:Nat) (h1:i<cs.length) (h2:i<ds.length),ds[i].cJ=cs[i].cJ∧ds[i].cn=cs[i].cn∧ds[i].ts=cs[i].ts
theorem LE.set{ps qs:List Pr}(l:LE ps qs){i:Nat}{p q:Pr}(h:PE p q):LE (ps.set i p) (qs.set i q):=by
 refine⟨by simp[l.len],fun j h1 h2=>?_⟩;rw[List.getElem_set,List.getElem_set];split
 ·exact h
 ·exact l.at_ j (by simpa using h1) (by simpa using h2)
theorem CE.set{cs ds:List Pt}(l:CE cs ds){i:Nat}{c d:Pt}(h:d.cJ=c.cJ∧d.cn=c.cn∧d.ts=c.ts):CE (cs.set i c) (ds.set i d):=by
 refine⟨by simp[l.len],fun j h1 h2=>?_⟩;rw[List.getElem_set,List.getElem_set];split
 ·exact h
 ·exact l.at_ j (by simpa using h1) (by simpa using h2)
theorem LE.get{ps qs:List Pr}(l:LE ps qs)(i:Nat):(ps[i]?=none∧qs[i]?=none)∨∃p q,ps[i]?=some p∧qs[i]?=some q∧PE p q:=by
 by_cases h:i<ps.length
 ·have h2:i<qs.length:=l.len▸h;exact .inr ⟨_,_,List.getElem?_eq_getElem h,List.getElem?_eq_getElem h2,l.at_ i h h2⟩
 ·exact .inl ⟨List.getElem?_eq_none (by omega),List.getElem?_eq_none (by have:=l.len;omega)⟩
theorem CE.get{cs ds:List Pt}(l:CE cs ds)(i:Nat):(cs[i]?=none∧ds[i]?=none)∨∃c d,cs[i]?=some c∧ds[i]?=some d∧d.cJ=c.cJ∧d.cn=c.cn∧d.ts=c.ts:=by
 by_cases h:i<cs.length
 ·have h2:i<ds.length:=l.len▸h;exact .inr ⟨_,_,List.getElem?_eq_getElem h,List.getElem?_eq_getElem h2,l.at_ i h h2⟩
 ·exact .inl ⟨List.getElem?_eq_none (by omega),List.getElem?_eq_none (by have:=l.len;omega)⟩
theorem LE.x6{ps qs:List Pr}(l:LE ps qs):∀n,(qs.take n).all x6=(ps.take n).all x6:=by
 intro n;rw[Bool.eq_iff_iff,List.all_eq_true,List.all_eq_true];constructor
 ·intro h p hp;obtain⟨i,hi,rfl⟩:=List.mem_take_iff_getElem.1 hp;have h1:i<ps.length:=by omega
  have h2:i<qs.length:=l.len▸h1;have:=h qs[i] (List.mem_take_iff_getElem.2 ⟨i,by omega,rfl⟩);obtain⟨t,ht,_⟩:=l.at_ i h1 h2;rw[ht] at this;exact this
 ·intro h p hp;obtain⟨i,hi,rfl⟩:=List.mem_take_iff_getElem.1 hp;have h2:i<qs.length:=by omega
  have h1:i<ps.length:=l.len▸h2;have:=h ps[i] (List.mem_take_iff_getElem.2 ⟨i,by omega,rfl⟩);obtain⟨t,ht,_⟩:=l.at_ i h1 h2;rw[ht];exact this
theorem LE.cF{ps qs:List Pr}(l:LE ps qs)(i:Nat):cF qs i=cF ps i:=by
 unfold Ir.cF;rcases l.get i with⟨h1,h2⟩|⟨p,q,h1,h2,t,rfl,_⟩
 ·rw[h1,h2]
 ·rw[h1,h2]
theorem LE.KF{ps qs:List Pr}(l:LE ps qs):∀n,cr qs n=cr ps n
 |0=>rfl
 |n+1=>by
  simp only[cr];rw[l.KF n];rcases l.get n with⟨h1,h2⟩|⟨p,q,h1,h2,t,rfl,_⟩
  ·rw[h1,h2]
  ·rw[h1,h2];have hs:∀o,oS qs {p with task:=t} o=oS ps p o:=fun o=>by
    cases o with
    |none=>rfl
    |some j=>
     show decide (p.ends<Ir.cF qs j)=decide (p.ends<Ir.cF ps j);rw[l.cF]
   simp only[hs];rfl
theorem MY{nw:Int}{p q:Pr}(h:PE p q):(kj nw p=none∧kj nw q=none)∨∃p' q',kj nw p=some p'∧kj nw q=some q'∧PE p' q':=by
 obtain⟨t,rfl,ht⟩:=h;unfold kj;simp only;by_cases h1:(p.xx&&p.ends==nw)=true
 ·rw[if_pos h1,if_pos h1];by_cases h2:(p.bf==p.cn)=true
  ·rw[if_pos h2,if_pos h2];exact .inr ⟨_,_,rfl,rfl,t,rfl,ht⟩
  ·rw[if_neg h2,if_neg h2];exact .inl ⟨rfl,rfl⟩
 ·rw[if_neg h1,if_neg h1];exact .inr ⟨_,_,rfl,rfl,t,rfl,ht⟩
theorem LE.ends{nw:Int}{ps qs:List Pr}(l:LE ps qs):∀n,(gU nw ps n=none∧gU nw qs n=none)∨∃a b,gU nw ps n=some a∧gU nw qs n=some b∧LE a b
 |0=>.inr ⟨ps,qs,rfl,rfl,l⟩
 |n+1=>by
  simp only[gU];rcases l.ends n with⟨h1,h2⟩|⟨a,b,h1,h2,l'⟩
  ·rw[h1,h2];exact .inl ⟨rfl,rfl⟩
  ·rw[h1,h2];rcases l'.get n with⟨h3,h4⟩|⟨p,q,h3,h4,hpq⟩
   ·simp only[h3,h4];exact .inr ⟨a,b,rfl,rfl,l'⟩
   ·simp only[h3,h4];rcases MY (nw:=nw) hpq with⟨h5,h6⟩|⟨p',q',h5,h6,abV⟩
    ·rw[h5,h6];exact .inl ⟨rfl,rfl⟩
    ·rw[h5,h6];exact .inr ⟨_,_,rfl,rfl,l'.set abV⟩
theorem LE.by_{n:Nat}{ps qs:List Pr}(l:LE ps qs)(now:Int)(bf gone:Bool):(∃r,xK n ps now bf gone=.inl r∧xK n qs now bf gone=.inl r)∨∃a b,xK n ps now bf gone=.inr a∧xK n qs now bf gone=.inr b∧LE a b:=by
 unfold xK;rw[l.x6,l.KF];split
 ·exact .inl ⟨_,rfl,rfl⟩
 ·split
  ·exact .inl ⟨_,rfl,rfl⟩
  ·rcases l.ends (nw:=IntKind.i64.wrap (now+1)) n with⟨h1,h2⟩|⟨a,b,h1,h2,l'⟩
   ·rw[h1,h2];exact .inl ⟨_,rfl,rfl⟩
   ·rw[h1,h2];exact .inr ⟨_,_,rfl,rfl,l'⟩
theorem LE.uI{n:Nat}:∀{k:Nat} {ps qs:List Pr} (l:LE ps qs) (now:Int) (bf gone:Bool),(∃r,nV n k ps now bf gone=.inl r∧nV n k qs now bf gone=.inl r)∨∃a b AI Jp gone',nV n k ps now bf gone=.inr (a,AI,Jp,gone')∧nV n k qs now bf gone=.inr (b,AI,Jp,gone')∧LE a b
 |0,ps,qs,l,now,bf,gone=>.inr ⟨ps,qs,now,bf,gone,rfl,rfl,l⟩
 |k+1,ps,qs,l,now,bf,gone=>by
  simp only[nV];rcases l.by_ (n:=n) now bf gone with⟨r,h1,h2⟩|⟨a,b,h1,h2,l'⟩
  ·rw[h1,h2];exact .inl ⟨_,rfl,rfl⟩
  ·rw[h1,h2];exact l'.uI (now+1) false false
theorem CE.tasks{cs ds:List Pt}(c:CE cs ds)(i:Int):lT ds i=lT cs i:=by
 unfold lT;rcases c.get i.toNat with⟨h1,h2⟩|⟨p,q,h1,h2,_,_,h3⟩
 ·rw[h1,h2]
 ·rw[h1,h2];simp only[h3]
theorem CE.Vk{cs ds:List Pt}(c:CE cs ds)(i:Nat)(t:Int):qL ds i t=qL cs i t:=by
 unfold qL;rcases c.get i with⟨h1,h2⟩|⟨p,q,h1,h2,_,_,h3⟩
 ·rw[h1,h2]
 ·rw[h1,h2];simp only[h3]
theorem CE.shaped{cs ds:List Pt}(c:CE cs ds)(now un:Int)(x:Nt):cX ds now un x=cX cs now un x:=by
 unfold cX;rw[c.len,c.tasks]
theorem JM{cs ds:List Pt}(c:CE cs ds){p q:Pr}(h:PE p q)(own g:Int)(i:Nat):iZ ds own g i q=iZ cs own g i p:=by
 obtain⟨t,rfl,ht⟩:=h;unfold iZ;simp only;cases hh:p.has with
 |false=>rw[Bool.and_false,Bool.false_and,Bool.false_and]
 |true=>rw[ht hh,c.Vk]
theorem LE.taken{cs ds:List Pt}(c:CE cs ds){ps qs:List Pr}(l:LE ps qs)(own g:Int):∀n,fo ds qs own g n=fo cs ps own g n
 |0=>rfl
 |n+1=>by
  simp only[fo];rw[l.taken c own g n];rcases l.get n with⟨h1,h2⟩|⟨p,q,h1,h2,h3⟩
  ·rw[h1,h2]
  ·rw[h1,h2];simp only[JM c h3]
theorem JG{cs ds:List Pt}(c:CE cs ds){ps qs:List Pr}(l:LE ps qs){p q:Pr}(h:PE p q)(x:Nt):eS ds qs q x=eS cs ps p x:=by
 have hg:=c.Vk x.p.toNat x.t;have ht:=l.taken c x.p (qL cs x.p.toNat x.t) cs.length;obtain⟨t,rfl,hh⟩:=h;unfold eS;rw[hg,←c.len,ht];simp only;cases hp:p.has with
 |false=>rfl
 |true=>rw[hh hp]
theorem M5{p q:Pr}(h:PE p q)(x:Nt):kK q x=kK p x:=by
 obtain⟨t,rfl,_⟩:=h;rfl
theorem UD{p q:Pr}(h:PE p q)(x:Nt)(T:Tk):eu q x T=eu p x T:=by
 obtain⟨t,rfl,_⟩:=h;rfl
theorem Qw{c d:Pt}(hc:d.cJ=c.cJ∧d.cn=c.cn∧d.ts=c.ts){p q:Pr}(h:PE p q)(x:Nt):
  ((dM d q x).1.cJ=(dM c p x).1.cJ∧(dM d q x).1.cn=(dM c p x).1.cn∧(dM d q x).1.ts=(dM c p x).1.ts)∧PE (dM c p x).2.1 (dM d q x).2.1∧(dM d q x).2.2=(dM c p x).2.2:=by
 obtain⟨t,rfl,ht⟩:=h;obtain⟨h1,h2,h3⟩:=hc;unfold dM;split
 ·exact⟨⟨h1,h2,h3⟩,PE.refl _,rfl⟩
 ·split
  ·refine⟨⟨h1,h2,h3⟩,?_,rfl⟩;unfold fresh;rw[h1,h2];exact PE.refl _
  ·exact⟨⟨rfl,rfl,h3⟩,⟨t,rfl,ht⟩,rfl⟩
theorem BW{p:Pr}{t:Int}(k:Nat)(j:Jb):({p with task:=t}:Pr).fm k j={p.fm k j with task:=t}:=by
 unfold Pr.fm;split<;>rfl
theorem PE.trans{p q r:Pr}(h:PE p q)(h':PE q r):PE p r:=by
 obtain⟨t,rfl,hh⟩:=h;obtain⟨t',rfl,VY⟩:=h';exact⟨t',rfl,fun h=>(VY h).trans (hh h)⟩
theorem PE.eq{p q:Pr}(h:p=q):PE p q:=h▸PE.refl p
theorem LX(p:Pr)(t:Int)(k:Nat):({p with task:=t}:Pr).js k=p.js k:=by
 unfold Pr.js;split<;>rfl
theorem KJ{p q:Pr}(h:PE p q)(x:Nt)(T:Tk):PE (mP p x T) (mP q x T):=by
 obtain⟨t,rfl,hh⟩:=h;have hs:∀(r:Pr) (k:Nat) (j:Jb),(r.has=true→t=r.task)→PE (r.fm k j) (({r with task:=t}:Pr).fm k j):=fun r k j hr=>
  ⟨t,BW k j,fun h=>by obtain⟨a,b⟩:=fK r k j;rw[b];exact hr (a▸h)⟩
 unfold mP;simp only[LX];split
 ·split
  ·exact hs p _ _ hh
  ·exact⟨t,rfl,hh⟩
 ·split
  ·split
   ·exact hs {p with bf:=IntKind.i64.wrap (p.bf+1)} _ _ hh
   ·exact⟨t,rfl,hh⟩
  ·split
   ·rw[BW (p:=p) (t:=t)];obtain⟨a,b⟩:=fK p x.t.toNat ⟨false,(p.js x.t.toNat).tm,(p.js x.t.toNat).bf,(p.js x.t.toNat).nx⟩;generalize p.fm x.t.toNat ⟨false,(p.js x.t.toNat).tm,(p.js x.t.toNat).bf,(p.js x.t.toNat).nx⟩=q0 at*;by_cases hp:p.has=true
    ·have ht:=hh hp;subst ht;exact⟨p.task,rfl,fun _=>b.symm⟩
    ·have iD:p.has=false:=by simpa using hp
     rw[iD];exact⟨t,rfl,fun h=>by simp at h⟩
   ·split
    ·split
     ·split
      ·exact⟨x.t,rfl,fun h=>by simp at h⟩
      ·exact⟨t,rfl,fun h=>by simp at h⟩
     ·split
      ·exact PE.refl _
      ·exact⟨t,rfl,hh⟩
    ·exact⟨t,rfl,hh⟩
theorem OL{p q:Pr}(h:PE p q)(x:Nt)(T:Tk)(hk:1≤x.k∧x.k≤5)(ht:(x.t=-1∧x.k=1)∨0≤x.t):
  PE (if(x.t !=-1)=true then rm (if(x.k==1)=true then{p with bf:=IntKind.i64.wrap (p.bf+1)} else p) x T else(if(x.k==1)=true then{p with bf:=IntKind.i64.wrap (p.bf+1)} else p)) (mP q x T):=by
 refine PE.trans ?_ (KJ h x T);have hT:(x.t !=-1)=decide (x.t≥0):=by
  rcases ht with⟨a,_⟩|a
  ·rw[a];rfl
  ·rw[decide_eq_true a];simp;omega
 rw[hT];clear h;obtain⟨a,k,r,t,n,e,s⟩:=x;simp only at hk ht hT⊢;have hkk:k=1∨k=2∨k=3∨k=4∨k=5:=by omega
 rcases hkk with rfl|rfl|rfl|rfl|rfl
 ·show PE (if decide (t≥0)=true then({p with bf:=IntKind.i64.wrap (p.bf+1)}:Pr).fm t.toNat {({p with bf:=IntKind.i64.wrap (p.bf+1)}:Pr).js t.toNat with bf:=IntKind.i64.wrap ((({p with bf:=IntKind.i64.wrap (p.bf+1)}:Pr).js t.toNat).bf+1)} else{p with bf:=IntKind.i64.wrap (p.bf+1)})
   (if decide (t≥0)=true then{p with bf:=IntKind.i64.wrap (p.bf+1)}.fm t.toNat {p.js t.toNat with bf:=IntKind.i64.wrap ((p.js t.toNat).bf+1)} else{p with bf:=IntKind.i64.wrap (p.bf+1)})
  rw[CC];exact PE.refl _
 ·have t0:decide (t≥0)=true:=decide_eq_true (by omega);rw[t0];exact PE.refl _
 ·have t0:decide (t≥0)=true:=decide_eq_true (by omega);rw[t0];exact PE.refl _
 ·have t0:decide (t≥0)=true:=decide_eq_true (by omega);rw[t0];exact PE.refl _
 ·have t0:decide (t≥0)=true:=decide_eq_true (by omega);rw[t0];show PE (if(e==0&&(n==4||n==5))=true then{p with has:=n==4,task:=t} else p)
   (if(e==0&&n==5)=true then{(if(e==0&&n==4)=true then{p with has:=true,task:=t} else p) with has:=false} else(if(e==0&&n==4)=true then{p with has:=true,task:=t} else p))
  cases he:(e==0) with
  |false=>exact PE.refl _
  |true=>
   cases n4:(n==4) with
   |true=>
    have n5:(n==5)=false:=by
     have:n=4:=by simpa using n4
     rw[this];rfl
    rw[n5];exact PE.refl _
   |false=>
    cases n5:(n==5) with
    |true=>exact⟨p.task,rfl,fun h=>by simp at h⟩
    |false=>exact PE.refl _
structure KE(s s':Ks):Prop where
 cs:CE s.1 s'.1
 ps:LE s.2.1 s'.2.1
 now:s'.2.2.1=s.2.2.1
 bf:s'.2.2.2.1=s.2.2.2.1
 gone:s'.2.2.2.2=s.2.2.2.2
theorem Qb{p:Pr}{T:Tk}{x:Nt}(hk:1≤x.k∧x.k≤5)(ht:(x.t=-1∧x.k=1)∨0≤x.t):
  ((x.t !=-1&&eu p x T !=0)=true∧eu p x T>0∧(if((x.k==2&&x.e==0)&&decide (x.a<(p.js x.t.toNat).nx))=true then some (6:Int) else if(decide (x.t≥0)&&!fU p x T)=true then some 7 else none)=some (eu p x T))∨
  ((x.t !=-1&&eu p x T !=0)=false∧(if((x.k==2&&x.e==0)&&decide (x.a<(p.js x.t.toNat).nx))=true then some (6:Int) else if(decide (x.t≥0)&&!fU p x T)=true then some 7 else none)=none):=by
 have hT:(x.t !=-1)=decide (x.t≥0):=by
  rcases ht with⟨a,_⟩|a
  ·rw[a];rfl
  ·rw[decide_eq_true a];simp;omega
 rw[hT];obtain⟨a,k,r,t,n,e,s⟩:=x;simp only at hk ht hT⊢;have hkk:k=1∨k=2∨k=3∨k=4∨k=5:=by omega
 generalize hj:p.js t.toNat=j;have e0:∀e:Int,(e !=0)=!(e==0):=fun _=>rfl;have ir:decide (a≥j.nx)=!decide (a<j.nx):=by rw[←decide_not];exact decide_eq_decide.2 (by omega)
 rcases hkk with rfl|rfl|rfl|rfl|rfl
 ·have h1:eu p ⟨a,1,r,t,n,e,s⟩ T=if decide (a<IntKind.i64.wrap (j.tm+T.d))=false then 7 else if decide (j.bf<T.w)=false then 7 else 0:=by rw[←hj];rfl
  have h2:fU p ⟨a,1,r,t,n,e,s⟩ T=(decide (a<IntKind.i64.wrap (j.tm+T.d))&&decide (j.bf<T.w)):=by rw[←hj];rfl
  rw[h1,h2];cases decide (t≥0)<;>cases decide (a<IntKind.i64.wrap (j.tm+T.d))<;>cases decide (j.bf<T.w)<;>simp
 ·have t0:decide (t≥0)=true:=decide_eq_true (by omega);have h1:eu p ⟨a,2,r,t,n,e,s⟩ T=if(e !=0||decide (a≥j.nx))=true then 0 else 6:=by rw[←hj];rfl
  have h2:fU p ⟨a,2,r,t,n,e,s⟩ T=true:=rfl;rw[h1,h2,t0,ir,e0];by_cases he:e=0<;>cases decide (a<j.nx)<;>simp[he]
 ·have t0:decide (t≥0)=true:=decide_eq_true (by omega);have h1:eu p ⟨a,3,r,t,n,e,s⟩ T=if decide (a<IntKind.i64.wrap (j.tm+T.d))=false then 7 else 0:=by rw[←hj];rfl
  have h2:fU p ⟨a,3,r,t,n,e,s⟩ T=(decide (a<IntKind.i64.wrap (j.tm+T.d))&&true):=by rw[←hj];rfl
  rw[h1,h2,t0];cases decide (a<IntKind.i64.wrap (j.tm+T.d))<;>simp
 ·have h1:eu p ⟨a,4,r,t,n,e,s⟩ T=0:=rfl;have h2:fU p ⟨a,4,r,t,n,e,s⟩ T=true:=rfl;rw[h1,h2];simp
 ·have t0:decide (t≥0)=true:=decide_eq_true (by omega);have h1:eu p ⟨a,5,r,t,n,e,s⟩ T=if decide (a<IntKind.i64.wrap (j.tm+T.d))=false then 7 else 0:=by rw[←hj];rfl
  have h2:fU p ⟨a,5,r,t,n,e,s⟩ T=(decide (a<IntKind.i64.wrap (j.tm+T.d))&&true):=by rw[←hj];rfl
  rw[h1,h2,t0];cases decide (a<IntKind.i64.wrap (j.tm+T.d))<;>simp
theorem Eo{cs:List Pt}{ps:List Pr}{now:Int}{bf gone:Bool}{i:Nat}{c:Pt}{p:Pr}{T:Tk}{x:Nt}(hk:1≤x.k∧x.k≤8)(ht:x.k≤5→(x.t=-1∧x.k=1)∨0≤x.t)(hw:bQ x=true→x.t=0):
  (iA cs ps bf p T x>0∧zi cs ps now bf gone i c p T x=.inl (iA cs ps bf p T x))∨(iA cs ps bf p T x=0∧zi cs ps now bf gone i c p T x=
   if bQ x=true then .inr (cs.set i (dM c p x).1,ps.set i (dM c p x).2.1,now,bf,gone||(dM c p x).2.2)
   else .inr (cs,ps.set i (if(x.t !=-1)=true then rm (if(x.k==1)=true then{p with bf:=IntKind.i64.wrap (p.bf+1)} else p) x T else(if(x.k==1)=true then{p with bf:=IntKind.i64.wrap (p.bf+1)} else p)),now,bf||x.k==1,gone)):=by
 have Ax:iA cs ps bf p T x=if(p.xx==(x.k==6))=true then 2
  else if(x.k==1&&(bf||iS (cr ps cs.length)!=x.p))=true then 3
  else if(!kK p x)=true then 5
  else match(if((x.k==2&&x.e==0)&&decide (x.a<(p.js x.t.toNat).nx))=true then some (6:Int) else if(decide (x.t≥0)&&!fU p x T)=true then some 7 else none) with
  |some r=>r
  |none=>if(!eS cs ps p x)=true then 8 else 0:=by
  unfold iA;split
  ·rfl
  ·split
   ·rfl
   ·split
    ·rfl
    ·split
     ·rfl
     ·split<;>rfl
 rw[Ax];unfold zi;by_cases h2:(p.xx==(x.k==6))=true
 ·have h2n:(p.xx !=(x.k==6))=false:=by simpa[bne] using h2
  rw[if_pos h2,if_pos h2n];exact .inl ⟨by omega,rfl⟩
 have h2n:¬((p.xx !=(x.k==6))=false):=by simpa[bne] using h2
 rw[if_neg h2,if_neg h2n];have h3e:(x.k !=1||(!bf&&iS (cr ps cs.length)==x.p))=!(x.k==1&&(bf||iS (cr ps cs.length)!=x.p)):=by
  cases ha:(x.k==1)<;>cases hb:bf<;>cases fh:(iS (cr ps cs.length)==x.p)<;>simp[ha,hb,fh,bne]
 rw[h3e];generalize(x.k==1&&(bf||iS (cr ps cs.length)!=x.p))=B3;cases B3 with
 |true=>exact .inl ⟨by rw[if_pos rfl];decide,rfl⟩
 |false=>
 rw[if_neg (show¬(false=true) by simp),if_neg (show¬((!false)=false) by simp)];cases h5:kK p x with
 |false=>exact .inl ⟨by rw[if_pos (show(!false)=true from rfl)];decide,rfl⟩
 |true=>
 rw[if_neg (show¬((!true)=true) by simp),if_neg (show¬(true=false) by simp)];by_cases w:bQ x=true
 ·have hkk:6≤x.k:=by
   simp[bQ] at w;omega
  rw[if_pos w,if_pos w];have h6:((x.k==2&&x.e==0)&&decide (x.a<(p.js x.t.toNat).nx))=false:=by
   have:(x.k==2)=false:=beq_eq_false_iff_ne.2 (by omega);rw[this];rfl
  have e1:(x.k !=1)=true:=by simp;omega
  have e3:(x.k !=3)=true:=by simp;omega
  have e5:(x.k !=5)=true:=by simp;omega
  have h7:fU p x T=true:=by
   unfold fU;rw[if_pos (by rw[e1,e3,e5];rfl)]
  have h8:eS cs ps p x=true:=by
   unfold eS;rw[if_neg (by simp;omega),if_pos (by rw[e5];rfl)]
  rw[h6,h7,h8];cases decide (x.t≥0)<;>exact .inr ⟨rfl,rfl⟩
 ·rw[if_neg w,if_neg w];have hkk:x.k≤5:=by
   simp[bQ] at w;omega
  rcases Qb (p:=p) (T:=T) (x:=x) ⟨hk.1,hkk⟩ (ht hkk) with⟨a1,a2,a3⟩|⟨a1,a3⟩
  ·rw[a3,if_pos a1];exact .inl ⟨a2,rfl⟩
  ·have a1n:¬((x.t !=-1&&eu p x T !=0)=true):=by rw[a1];simp
   rw[a3,if_neg a1n];cases eS cs ps p x with
   |false=>exact .inl ⟨by show(8:Int)>0;decide,rfl⟩
   |true=>exact .inr ⟨rfl,rfl⟩
theorem It{cs ds:List Pt}(c:CE cs ds){ps qs:List Pr}(l:LE ps qs){p q:Pr}(h:PE p q)(bf:Bool)(T:Tk)(x:Nt):iA ds qs bf q T x=iA cs ps bf p T x:=by
 have h1:=JG c l h x;have h2:=M5 h x;have h3:=l.KF cs.length;obtain⟨t,rfl,_⟩:=h;unfold iA;rw[h1,h2,←c.len,h3];rfl
theorem PO{un:Int}{s s':Ks}(h:KE s s')(hi:Inv s)(x:Nt):(∃r,kT un s x=.inl r∧tW un s' x=.inl r)∨∃a b,kT un s x=.inr a∧tW un s' x=.inr b∧KE a b:=by
 obtain⟨cs,ps,now,bf,gone⟩:=s;obtain⟨ds,qs,AI,Jp,gone'⟩:=s';obtain⟨hc,hp,h1,h2,h3⟩:=h;simp only at hc hp h1 h2 h3;subst h1 h2 h3;unfold kT tW;simp only;rw[hc.shaped];by_cases hs:cX cs AI un x=false
 ·rw[if_pos hs,if_pos hs];exact .inl ⟨1,rfl,rfl⟩
 rw[if_neg hs,if_neg hs,←hc.len];have hs':cX cs AI un x=true:=by simpa using hs
 have sh:=CV hi.ts hs';rcases hp.uI (n:=cs.length) (k:=(x.a-AI).toNat) AI Jp gone' with⟨r,t1,t2⟩|⟨a,b,Gi,xS,xo,t1,t2,l⟩
 ·rw[t1,t2];exact .inl ⟨r,rfl,rfl⟩
 rw[t1,t2];simp only;unfold BN;generalize x.p.toNat=i at*;have hic:i<cs.length:=sh.hi;have hid:i<ds.length:=hc.len▸hic;have hia:i<a.length:=by
  have h4:ps.length=4:=hi.len;have h5:cs.length≤4:=hi.le;have h6:=(pQ t1).1.1;simp only at h6;omega
 have Pb:i<b.length:=l.len▸hia;rw[show a.getD i mg=a[i] by simp[List.getD_eq_getElem?_getD,List.getElem?_eq_getElem hia],show b.getD i mg=b[i] by simp[List.getD_eq_getElem?_getD,List.getElem?_eq_getElem Pb],
  show cs.getD i Gt=cs[i] by simp[List.getD_eq_getElem?_getD,List.getElem?_eq_getElem hic],show ds.getD i Gt=ds[i] by simp[List.getD_eq_getElem?_getD,List.getElem?_eq_getElem hid]]
 have hcd:=hc.at_ i hic hid;have hab:=l.at_ i hia Pb;rw[hcd.2.2];generalize cs[i].ts.getD x.t.toNat jv=T;have nL:x.k≤5→(x.t=-1∧x.k=1)∨0≤x.t:=fun h5=>by have:=(sh.tn (nv h5)).1;omega
 rw[It hc l hab];rcases Eo (cs:=cs) (ps:=a) (now:=Gi) (bf:=xS) (gone:=xo) (i:=i) (c:=cs[i]) (p:=a[i]) (T:=T) (x:=x) ⟨sh.k1,sh.k8⟩ nL sh.tw with⟨c1,c2⟩|⟨c1,c2⟩
 ·rw[if_pos c1,c2];exact .inl ⟨_,rfl,rfl⟩
 ·have c1n:¬(iA cs a xS a[i] T x>0):=by rw[c1];decide
  rw[if_neg c1n,c2];by_cases w:bQ x=true
  ·rw[if_pos w];have hk6:6≤x.k:=by
    simp[bQ] at w;omega
   obtain⟨e1,e2,e3⟩:=Qw hcd hab x;have hD:∀p:Pr,mP p x T=p:=fun p=>by
    unfold mP;rw[if_neg (by simp;omega),if_neg (by simp;omega),if_neg (by simp;omega),if_neg (by simp;omega)]
   refine .inr ⟨_,_,rfl,rfl,?_⟩;unfold xU dg;simp only[if_pos w];rw[hD];exact⟨hc.set e1,l.set e2,rfl,by show(xS||x.k==1)=xS;rw[show(x.k==1)=false from beq_eq_false_iff_ne.2 (by omega),Bool.or_false],by show(xo||(dM ds[i] b[i] x).2.2)=_;rw[e3]⟩
  ·rw[if_neg w];have Cy:x.k≤5:=by
    have:=sh.k8;simp[bQ] at w;omega
   refine .inr ⟨_,_,rfl,rfl,?_⟩;unfold xU dg;simp only[if_neg w];refine⟨?_,l.set (OL hab x T ⟨sh.k1,Cy⟩ (nL Cy)),rfl,rfl,Bool.or_false _⟩;rw[List.set_getElem_self];exact hc
theorem run_eq{un:Int}:∀{l:List Nt} {j:Nat} {s s':Ks} (h:KE s s') (hi:Inv s),(∃r,jh un j s l=.inl r∧wS un j s' l=.inl r)∨∃a b,jh un j s l=.inr a∧wS un j s' l=.inr b∧KE a b
 |[],j,s,s',h,hi=>.inr ⟨s,s',rfl,rfl,h⟩
 |x::l,j,s,s',h,hi=>by
  simp only[jh,wS];rcases PO (un:=un) h hi x with⟨r,h1,h2⟩|⟨a,b,h1,h2,h3⟩
  ·rw[h1,h2];exact .inl ⟨_,rfl,rfl⟩
  ·rw[h1,h2];exact run_eq h3 (y5 hi h1)
theorem Je{un:Int}{s:Ks}{x:Nt}{r:Int}(hi:Inv s)(h:kT un s x=.inl r):0<r:=by
 unfold kT at h;split at h
 ·simp only[Sum.inl.injEq] at h;omega
 rename_i hs;have sh:=CV hi.ts (by simpa using hs:cX s.1 s.2.2.1 un x=true);split at h
 ·rename_i r' hr;simp only[Sum.inl.injEq] at h;subst h;exact C1 hr
 ·rename_i ps now bf gone hto;unfold BN at h;rcases Eo (cs:=s.1) (ps:=ps) (now:=now) (bf:=bf) (gone:=gone) (i:=x.p.toNat) (c:=s.1.getD x.p.toNat Gt) (p:=ps.getD x.p.toNat mg) (T:=(s.1.getD x.p.toNat Gt).ts.getD x.t.toNat jv) (x:=x) ⟨sh.k1,sh.k8⟩ (fun h5=>by have:=(sh.tn (nv h5)).1;omega) sh.tw with⟨c1,c2⟩|⟨c1,c2⟩
  ·rw[c2] at h;simp only[Sum.inl.injEq] at h;omega
  ·rw[c2] at h;split at h<;>simp at h
theorem EH{un:Int}:∀{l:List Nt} {j:Nat} {s:Ks} {r:Int×Nat} (hi:Inv s),jh un j s l=.inl r→0<r.1
 |[],j,s,r,hi,h=>by simp[jh] at h
 |x::l,j,s,r,hi,h=>by
  simp only[jh] at h;split at h
  ·rename_i r' hr;simp only[Sum.inl.injEq] at h;subst h;exact Je hi hr
  ·rename_i s' hs;exact EH (y5 hi hs) h
theorem find_eq{L:List Pt}{O:List Po}(l:List Nt)(un:Int):di L O l un=o7 (L.map jl) O l un:=by
 have fh:eT (L.map jl) O=eT L O:=by
  have h1:(L.map jl).all gy=L.all gy:=by rw[List.all_map];rfl
  rw[eT,eT,h1,List.length_map]
 unfold di o7;rw[fh];cases hc0:eT L O with
 |false=>rfl
 |true=>
 obtain⟨l1,l4,lt⟩:=vV hc0;have hi:=LQ l4 lt;have hk:KE (qU L) (qU (L.map jl)):=by
  refine⟨⟨by simp[qU],fun i h1 h2=>?_⟩,⟨rfl,fun i h1 h2=>PE.refl _⟩,rfl,rfl,rfl⟩;have e:∀(h2:i<(L.map jl).length) (h1:i<L.length),(L.map jl)[i]=jl L[i]:=fun _ _=>List.getElem_map ..;have e1:=congrArg Pt.cJ (e h2 h1);have e2:=congrArg Pt.cn (e h2 h1);have e3:=congrArg Pt.ts (e h2 h1);exact⟨e1,e2,e3⟩
 have htf:¬(true=false):=by decide
 rw[if_neg htf,if_neg htf];split
 ·rfl
 ·unfold fj;rcases run_eq (un:=un) (l:=l) (j:=0) hk hi with⟨r,h1,h2⟩|⟨a,b,h1,h2,h3⟩
  ·have:=EH hi h1;have hn:¬((r.1==0)=true):=by simp;omega
   rw[h1,h2];simp only;rw[if_neg hn]
  ·rw[h1,h2];obtain⟨cs,ps,now,bf,gone⟩:=a;obtain⟨ds,qs,AI,Jp,gone'⟩:=b;obtain⟨hc,hp,e1,e2,e3⟩:=h3;simp only at hc hp e1 e2 e3;subst e1 e2 e3;simp only;rw[←hc.len];rcases hp.uI (n:=cs.length) (k:=(un-AI).toNat) AI Jp gone' with⟨r,t1,t2⟩|⟨a,b,Gi,xS,xo,t1,t2,l⟩
   ·have:=C1 t1;have hn:¬((r==0)=true):=by simp;omega
    rw[t1,t2];simp only;rw[if_neg hn]
   ·rw[t1,t2];simp only;rw[if_pos (show((0:Int)==0)=true from rfl)]
end Ir
end Go.Proofs.Ytepdklcpagielaa
