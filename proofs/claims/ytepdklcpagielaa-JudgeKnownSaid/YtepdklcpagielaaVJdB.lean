/-
  Judge: a partition's notes.
-/
import Derived.Test.YtepdklcpagielaaVsX
set_option maxRecDepth 100000
set_option linter.unusedSimpArgs false
set_option linter.unusedVariables false
namespace Go.Proofs.Ytepdklcpagielaa
open Go Ads
namespace Ads
theorem so{h:Heap}{b s n cap:Nat}{op wr:Bool}{es:Nat}{cs:List AV}(hg:h.get b=some (.cells cs wr es))(hl:cs.length=n*s):iw s h (.sl b 0 n cap op)=some (n,cs):=by
 have b1:Nat.ble (0+n*s) cs.length=true:=Nat.ble_eq_true_of_le (by omega);show(h.bn b 0 (n*s)).map _=_;have:h.bn b 0 (n*s)=some cs:=by
  simp only[Heap.bn,Heap.row,hg,b1,cond_true,List.drop_zero];rw[←hl,List.take_length]
 rw[this];rfl
theorem qZ{h:Heap}{s bytes b m:Nat}{vs cs:List AV}{x:AV}(hg:h.get b=some (.cells vs true s))(hv:vs.length=m*s)(hsrc:iw s h x=some (1,cs))(hf:bx cs=true)(hb:(m+1)*bytes≤140737488355328)(hm:m+1≤140737488355328):
  eV (.append s bytes) [.sl b 0 m m true,x] h=some (.sl h.next 0 (m+1) (m+1) true,(h.del b).new (.cells (vs++cs) true s)):=by
 have b1:Nat.ble (m+1) m=false:=by cases hb:Nat.ble (m+1) m with|false=>rfl|true=>(have:=Nat.le_of_ble_eq_true hb;omega)
 have b2:Nat.ble ((m+1)*bytes) 140737488355328=true:=Nat.ble_eq_true_of_le hb;have b3:Nat.ble (m+1) 9223372036854775807=true:=Nat.ble_eq_true_of_le (by omega);have b4:Nat.ble (0+m*s) vs.length=true:=Nat.ble_eq_true_of_le (by omega);have b5:Nat.beq vs.length (0+m*s)=true:=by rw[hv,Nat.zero_add];exact Nat.beq_refl _
 have AB:h.bn b 0 (m*s)=some vs:=by
  simp only[Heap.bn,Heap.row,hg,b4,cond_true,List.drop_zero];rw[←hv,List.take_length]
 simp only[eV,l2,hsrc];show cond (bx cs) _ _=_;rw[hf,cond_true];show cond (Nat.beq 1 0&&Nat.ble m m) _ _=_;rw[show Nat.beq 1 0=false from rfl,Bool.false_and,cond_false,b1,cond_false,b2,b3,Bool.and_self,cond_true,hg,AB];show cond true (cond (true&&Nat.beq vs.length (0+m*s)&&Nat.beq m m&&Nat.beq s s) _ _) _=_;rw[b5,Nat.beq_refl,Nat.beq_refl];rfl
theorem l8{h:Heap}{b c:Nat}(hn:c≠b):(h.del b).get c=h.get c:=by rw[Heap.dn,if_neg hn]
end Ads
namespace Ir
structure Nt where
 a:Int
 k:Int
 p:Int
 t:Int
 n:Int
 e:Int
 s:List UInt8
 deriving DecidableEq
def nt(x:Nt):AV:=.agg [.int .i64 x.a,.int .i64 x.k,.int .i64 x.p,.int .i64 x.t,.int .i64 x.n,.int .i64 x.e,.str x.s]
def b8(l:List Nt):List AV:=l.map nt
theorem bU(l:List Nt):(b8 l).length=l.length:=List.length_map ..
theorem dK(l:List Nt):aW 7 (b8 l)=true:=ew (enc:=nt) (fun _=>rfl) l
theorem nG(l:List Nt):bL (b8 l)=true:=pZ (enc:=nt) (fun _=>rfl) l
theorem kF{l:List Nt}{j k:Nat}(hj:j<l.length):pV (.aE 7) [.fz k (b8 l),.int .i64 (j:Nat)]=some (.fp (nt l[j]).cells 0):=vf (enc:=nt) hj rfl
def NR(lo:Nat)(h:Heap)(v:AV)(M:List Nt):Prop:=(M=[]∧v=.aD)∨∃b,lo≤b∧b<h.next∧v=.sl b 0 M.length M.length true∧h.get b=some (.cells (ai (b8 M)) true 7)
theorem NR.keep{lo:Nat}{h h':Heap}{v:AV}{M:List Nt}(hr:NR lo h v M)(fr:Fr h h' []):NR lo h' v M:=by
 rcases hr with hr|⟨b,h1,h2,h3,h4⟩
 ·exact .inl hr
 ·exact .inr ⟨b,h1,Nat.lt_of_lt_of_le h2 fr.next,h3,by rw[fr.keep b h2 (by simp)];exact h4⟩
theorem NR.JT{lo:Nat}{h:Heap}{v:AV}{M:List Nt}(hr:NR lo h v M):∃k,jo (fun _=>True) h v (.fz k (b8 M)):=by
 rcases hr with⟨rfl,rfl⟩|⟨b,h1,h2,rfl,h4⟩
 ·exact⟨3,.aD⟩
 ·exact⟨0,gW trivial h4 rfl (dK M) (bU M).symm (nG M)⟩
theorem NR.app{lo:Nat}{h:Heap}{v:AV}{M:List Nt}(hr:NR lo h v M)(hlo:lo≤h.next)(hl:(M.length+1)*64≤140737488355328)(x:Nt):∃v' g',eV (.append 7 64) [v,.sl h.next 0 1 1 false] (h.new (.cells (nt x).cells true 0))=some (v',g')∧
  NR lo g' v' (M++[x])∧h.next≤g'.next∧∀c,c<lo→g'.get c=h.get c:=by
 have hsrc:iw 7 (h.new (.cells (nt x).cells true 0)) (.sl h.next 0 1 1 false)=some (1,(nt x).cells):=so an rfl;have Cx:ai (b8 (M++[x]))=ai (b8 M)++(nt x).cells:=by rw[b8,List.map_append,kE];simp[ai,b8]
 rcases hr with⟨h1,h2⟩|⟨b,h1,h2,h3,h4⟩
 ·subst h1 h2;refine⟨_,_,sI (by omega) hsrc rfl,.inr ⟨h.next+1,by omega,Nat.lt_succ_self _,rfl,?_⟩,by show h.next≤h.next+1+1;omega,fun c hc=>?_⟩
  ·exact an (h:=h.new (.cells (nt x).cells true 0))
  ·exact(aO (h:=h.new (.cells (nt x).cells true 0)) (show c<h.next+1 by omega)).trans (aO (by omega))
 ·subst h3;have hg:(h.new (.cells (nt x).cells true 0)).get b=some (.cells (ai (b8 M)) true 7):=by rw[aO h2];exact h4
  refine⟨_,_,qZ hg (by rw[c9 (dK M),bU]) hsrc rfl hl (by omega),.inr ⟨h.next+1,by omega,Nat.lt_succ_self _,by rw[List.length_append];rfl,?_⟩,by show h.next≤h.next+1+1;omega,fun c hc=>?_⟩
  ·have:=an (h:=(h.new (.cells (nt x).cells true 0)).del b) (x:=.cells (ai (b8 M)++(nt x).cells) true 7);rw[show((h.new (.cells (nt x).cells true 0)).del b).next=h.next+1 from rfl] at this;rw[this,Cx]
  ·have hne:c≠b:=by omega
   exact(aO (h:=(h.new (.cells (nt x).cells true 0)).del b) (show c<h.next+1 by omega)).trans ((l8 hne).trans (aO (by omega)))
def Ah(p:Int)(l:List Nt):List Nt:=l.filter fun x=>x.p==p
theorem yK{p:Int}{l:List Nt}{j:Nat}(hj:j<l.length):Ah p (l.take (j+1))=if l[j].p=p then Ah p (l.take j)++[l[j]] else Ah p (l.take j):=by
 rw[eY hj,Ah,List.filter_append];by_cases h:l[j].p=p
 ·rw[if_pos h];simp[Ah,h]
 ·rw[if_neg h];simp[Ah,h]
theorem yJ(p:Int)(l:List Nt):(Ah p l).length≤l.length:=List.length_filter_le ..
theorem WB{k:Nat}{l:List Nt}{p:Int}{h0:Heap}(hl:l.length*64≤140737488355328){B:Nat}{Q:AX→Env→Heap→Prop}
  (hQ:∀e' h' v,NR h0.next h' v (Ah p l)→Fr h0 h' []→Tr.get e' 4=some v→Q (.exit 0) e' h'):
  ∀(m j:Nat) (h:Heap) (v:AV) (env:Env),l.length-j=m→j≤l.length→NR h0.next h v (Ah p (l.take j))→Fr h0 h []→aP env [(1,.int .i64 p),(4,v),(7,.fz k (b8 l)),(8,.int .i64 ((l.length:Nat):Int)),(9,.int .i64 ((j:Nat):Int))]→
  VC fs ms B false (.loop uN) env h Q:=by
 intro m;induction m using Nat.strongRecOn with
 |ind m ih=>
 intro j h v env hm hj hr fr cH;refine ak 4 _ cH ?_;refine bJ (aj true ?_);conv=>whnf
 refine aj true ?_;conv=>whnf
 refine br (fun hc=>?_) (fun hc=>?_)<;>(try rw[hc])<;>(conv=>whnf)
 ·have hlt:j<l.length:=by have:=of_decide_eq_true hc;omega
  have rG:=kF (k:=k) hlt;have hfn:=yK (p:=p) hlt;have hfl:(Ah p (l.take j)).length≤j:=Nat.le_trans (yJ _ _) (by rw[List.length_take];omega);generalize hx:l[j]=x at*;refine az (aL ?_);refine aj true ?_;conv=>whnf
  refine⟨_,rG,?_⟩;conv=>whnf
  refine⟨nt x,rfl,?_⟩;conv=>whnf
  refine aT (cD an rfl (Nat.le_refl _) rfl) fun h1 e1=>?_;conv=>whnf
  have JV:h1.get h.next=some (.cells (nt x).cells true 0):=by rw[e1,aG];rfl
  have cT:Fr h h1 []:=by rw[e1];exact((Fr.refl h []).new (x:=_)).lD (Nat.le_refl _)
  have nx1:h.next<h1.next:=by rw[e1];exact Nat.lt_succ_self _
  clear e1;refine aj true ?_;conv=>whnf
  refine⟨_,bA JV rfl,?_⟩;conv=>whnf
  refine aa (z:=true) ?_;conv=>whnf
  refine br (fun hc=>?_) (fun hc=>?_)<;>(try rw[hc])<;>(conv=>whnf)
  ·rw[if_pos (by simpa using hc)] at hfn;refine⟨nt x,tU (n:=7) JV (Nat.le_refl _),?_⟩;conv=>whnf
   have xX:=hr.keep (cT);have FJ:=fr.trans cT;obtain⟨v',g',a1,a2,a3,a4⟩:=xX.app FJ.next (by omega) x;refine aT a1 fun h2 e2=>?_;subst e2;conv=>whnf
   refine aa (z:=true) ?_;conv=>whnf
   refine ih (l.length-(j+1)) (by omega) (j+1) _ _ _ rfl (by omega) (by rw[hfn];exact a2) ⟨Nat.le_trans FJ.next a3,fun c hc _=>(a4 c hc).trans (FJ.keep c hc (by simp))⟩ ⟨rfl,rfl,rfl,rfl,ay (by omega),trivial⟩
  ·rw[if_neg (by simpa using hc)] at hfn;refine aa (z:=true) ?_;conv=>whnf
   refine ih (l.length-(j+1)) (by omega) (j+1) _ _ _ rfl (by omega) (by rw[hfn];exact hr.keep cT) (fr.trans cT) ⟨rfl,rfl,rfl,rfl,ay (by omega),trivial⟩
 ·have hge:j=l.length:=by have:=of_decide_eq_false hc;omega
  subst hge;rw[List.take_length] at hr;exact hQ _ _ _ hr fr rfl
theorem LZ(k:Nat)(l:List Nt)(p:Int)(hl:l.length*64≤140737488355328){h:Heap}{Q:AV→Heap→Prop}(hQ:∀v h',NR h.next h' v (Ah p l)→Fr h h' []→Q v h'):VD fs ms 23 [.fz k (b8 l),.int .i64 p] h Q:=by
 refine bw (af:=XC) rfl (Nat.le_of_ble_eq_true rfl) ?_;conv=>whnf
 refine aj true ?_;conv=>whnf
 refine az (aj true ?_);conv=>whnf
 rw[bU];refine aL ?_;refine WB (k:=k) (l:=l) (p:=p) (h0:=h) hl ?_ l.length 0 h .aD _ rfl (Nat.zero_le _) (.inl ⟨rfl,rfl⟩) (Fr.refl h []) ⟨rfl,rfl,rfl,rfl,rfl,trivial⟩;intro e' h' v hr fr g4;show VC fs ms _ _ _ _ _ _;refine ak 4 [(4,v)] ⟨g4,trivial⟩ (aa (z:=true) ?_);conv=>whnf
 exact hQ v h' hr fr
theorem Xb{k:Nat}{l:List Nt}{p:Int}{h0:Heap}(hl:l.length*64≤140737488355328){B:Nat}{Q:AX→Env→Heap→Prop}
  (hQ:∀e' h' v,NR h0.next h' v (Ah p l)→Fr h0 h' []→Tr.get e' 5=some v→Q (.exit 0) e' h'):
  ∀(m j:Nat) (h:Heap) (v:AV) (env:Env),l.length-j=m→j≤l.length→NR h0.next h v (Ah p (l.take j))→Fr h0 h []→aP env [(0,.fz k (b8 l)),(1,.int .i64 p),(5,v),(6,.int .i64 ((j:Nat):Int))]→
  VC fs ms B false (.loop ku) env h Q:=by
 intro m;induction m using Nat.strongRecOn with
 |ind m ih=>
 intro j h v env hm hj hr fr cH;refine ak 4 _ cH ?_;refine bJ (aj true ?_);conv=>whnf
 rw[bU];refine br (fun hc=>?_) (fun hc=>?_)<;>(try rw[hc])<;>(conv=>whnf)
 ·have hlt:j<l.length:=by have:=of_decide_eq_true hc;omega
  have rG:=kF (k:=k) hlt;have hfn:=yK (p:=p) hlt;have hfl:(Ah p (l.take j)).length≤j:=Nat.le_trans (yJ _ _) (by rw[List.length_take];omega);generalize hx:l[j]=x at*;refine az (aL ?_);refine aj true ?_;conv=>whnf
  refine⟨_,rG,?_⟩;conv=>whnf
  refine⟨.int .i64 x.p,rfl,?_⟩;conv=>whnf
  refine aa (z:=true) ?_;conv=>whnf
  refine br (fun hc=>?_) (fun hc=>?_)<;>(try rw[hc])<;>(conv=>whnf)
  ·rw[if_pos (by simpa using hc)] at hfn;refine⟨_,rG,?_⟩;conv=>whnf
   refine⟨nt x,rfl,?_⟩;conv=>whnf
   obtain⟨v',g',a1,a2,a3,a4⟩:=hr.app fr.next (by omega) x;refine aT a1 fun h2 e2=>?_;subst e2;conv=>whnf
   refine aa (z:=true) ?_;conv=>whnf
   refine ih (l.length-(j+1)) (by omega) (j+1) _ _ _ rfl (by omega) (by rw[hfn];exact a2) ⟨Nat.le_trans fr.next a3,fun c hc _=>(a4 c hc).trans (fr.keep c hc (by simp))⟩ ⟨rfl,rfl,rfl,ay (by omega),trivial⟩
  ·rw[if_neg (by simpa using hc)] at hfn;refine aa (z:=true) ?_;conv=>whnf
   refine ih (l.length-(j+1)) (by omega) (j+1) _ _ _ rfl (by omega) (by rw[hfn];exact hr) fr ⟨rfl,rfl,rfl,ay (by omega),trivial⟩
 ·have hge:j=l.length:=by have:=of_decide_eq_false hc;omega
  subst hge;rw[List.take_length] at hr;exact hQ _ _ _ hr fr rfl
theorem TE(k:Nat)(l:List Nt)(p:Int)(hl:l.length*64≤140737488355328){h:Heap}{Q:AV→Heap→Prop}(hQ:∀v h',NR h.next h' v (Ah p l)→Fr h h' []→Q v h'):VD fs ms 24 [.fz k (b8 l),.int .i64 p] h Q:=by
 refine bw (af:=XD) rfl (Nat.le_of_ble_eq_true rfl) ?_;conv=>whnf
 refine aj true ?_;conv=>whnf
 refine aj true ?_;conv=>whnf
 refine az (aj true ?_);conv=>whnf
 refine aL ?_;refine Xb (k:=k) (l:=l) (p:=p) (h0:=h) hl ?_ l.length 0 h .aD _ rfl (Nat.zero_le _) (.inl ⟨rfl,rfl⟩) (Fr.refl h []) ⟨rfl,rfl,rfl,rfl,trivial⟩;intro e' h' v hr fr g4;show VC fs ms _ _ _ _ _ _;refine ak 4 [(5,v)] ⟨g4,trivial⟩ (aa (z:=true) ?_);conv=>whnf
 exact hQ v h' hr fr
def kS(from_ uI:Int)(x:Nt):Bool:=decide (x.k=1)&&decide (from_≤x.a)&&decide (x.a<uI)
def wN(p from_ uI:Int)(l:List Nt):Nat:=((Ah p l).filter (kS from_ uI)).length
theorem Jq{p x1 x2:Int}{l:List Nt}{j:Nat}(hj:j<l.length):wN p x1 x2 (l.take (j+1))=if(l[j].p==p&&kS x1 x2 l[j])=true then wN p x1 x2 (l.take j)+1 else wN p x1 x2 (l.take j):=by
 unfold wN;rw[yK hj];by_cases h:l[j].p=p
 ·rw[if_pos h,List.filter_append];by_cases h2:kS x1 x2 l[j]=true
  ·simp[h,h2]
  ·simp[h,h2]
 ·rw[if_neg h];simp[h]
theorem TG{k:Nat}{l:List Nt}{p x1 x2:Int}(hl:l.length*64≤140737488355328){B:Nat}{h:Heap}{Q:AX→Env→Heap→Prop}
  (hQ:∀e',Tr.get e' 9=some (.int .i64 ((wN p x1 x2 l:Nat):Int))→Q (.exit 0) e' h):
  ∀(m j:Nat) (env:Env),l.length-j=m→j≤l.length→aP env [(0,.fz k (b8 l)),(1,.int .i64 p),(2,.int .i64 x1),(3,.int .i64 x2),(9,.int .i64 ((wN p x1 x2 (l.take j):Nat):Int)),(10,.int .i64 ((j:Nat):Int))]→
  VC fs ms B false (.loop eB) env h Q:=by
 intro m;induction m using Nat.strongRecOn with
 |ind m ih=>
 intro j env hm hj cH;refine ak 4 _ cH ?_;refine bJ (aj true ?_);conv=>whnf
 rw[bU];refine br (fun hc=>?_) (fun hc=>?_)<;>(try rw[hc])<;>(conv=>whnf)
 ·have hlt:j<l.length:=by have:=of_decide_eq_true hc;omega
  have rG:=kF (k:=k) hlt;have hle:wN p x1 x2 (l.take j)≤j:=Nat.le_trans (List.length_filter_le ..) (Nat.le_trans (yJ _ _) (by rw[List.length_take];omega));have hn:=Jq (p:=p) (x1:=x1) (x2:=x2) hlt;generalize hx:l[j]=x at*;generalize wN p x1 x2 (l.take j)=c at*;have hno:(x.p==p&&kS x1 x2 x)=false→∀e',aP e' [(0,.fz k (b8 l)),(1,.int .i64 p),(2,.int .i64 x1),(3,.int .i64 x2),(9,.int .i64 ((c:Nat):Int)),(10,.int .i64 (((j+1:Nat):Nat):Int))]→VC fs ms B false (.loop eB) e' h Q:=fun hf e' he=>by
   rw[hf,if_neg (by simp)] at hn;exact ih (l.length-(j+1)) (by omega) (j+1) e' rfl (by omega) (by rw[hn];exact he)
  have hyes:(x.p==p&&kS x1 x2 x)=true→∀e',aP e' [(0,.fz k (b8 l)),(1,.int .i64 p),(2,.int .i64 x1),(3,.int .i64 x2),(9,.int .i64 ((c+1:Nat):Int)),(10,.int .i64 (((j+1:Nat):Nat):Int))]→VC fs ms B false (.loop eB) e' h Q:=fun hf e' he=>by
   rw[hf,if_pos rfl] at hn;exact ih (l.length-(j+1)) (by omega) (j+1) e' rfl (by omega) (by rw[hn];exact he)
  clear ih hn hQ;refine az (aL ?_);refine aj true ?_;conv=>whnf
  refine⟨_,rG,?_⟩;conv=>whnf
  refine⟨.int .i64 x.k,rfl,?_⟩;conv=>whnf
  refine br (fun hc=>?_) (fun hc=>?_)<;>(try rw[hc])<;>(conv=>whnf)
  ·have c1:x.k=1:=by simpa using hc
   refine⟨_,rG,?_⟩;conv=>whnf
   refine⟨.int .i64 x.p,rfl,?_⟩;conv=>whnf
   refine br (fun hc=>?_) (fun hc=>?_)<;>(try rw[hc])<;>(conv=>whnf)
   ·have c2:x.p=p:=by simpa using hc
    refine⟨_,rG,?_⟩;conv=>whnf
    refine⟨.int .i64 x.a,rfl,?_⟩;conv=>whnf
    refine br (fun hc=>?_) (fun hc=>?_)<;>(try rw[hc])<;>(conv=>whnf)
    ·have c3:x.a≥x1:=by simpa using hc
     refine⟨_,rG,?_⟩;conv=>whnf
     refine⟨.int .i64 x.a,rfl,?_⟩;conv=>whnf
     refine aa (z:=true) ?_;conv=>whnf
     refine br (fun hc=>?_) (fun hc=>?_)<;>(try rw[hc])<;>(conv=>whnf)
     ·have c4:x.a<x2:=by simpa using hc
      refine aa (z:=true) ?_;conv=>whnf
      refine hyes (by simp[kS,c1,c2,c3,c4]) _ ⟨rfl,rfl,rfl,rfl,ay (by omega),ay (by omega),trivial⟩
     ·have c4:¬x.a<x2:=by simpa using hc
      refine aa (z:=true) ?_;conv=>whnf
      refine hno (by simp[kS,c4]) _ ⟨rfl,rfl,rfl,rfl,rfl,ay (by omega),trivial⟩
    ·have c3:¬x1≤x.a:=by have:=of_decide_eq_false hc;omega
     refine aa (z:=true) ?_;conv=>whnf
     refine aa (z:=true) ?_;conv=>whnf
     refine hno (by simp[kS,c3]) _ ⟨rfl,rfl,rfl,rfl,rfl,ay (by omega),trivial⟩
   ·have c2:¬x.p=p:=by simpa using hc
    refine aa (z:=true) ?_;conv=>whnf
    refine aa (z:=true) ?_;conv=>whnf
    refine hno (by simp[c2]) _ ⟨rfl,rfl,rfl,rfl,rfl,ay (by omega),trivial⟩
  ·have c1:¬x.k=1:=by simpa using hc
   refine aa (z:=true) ?_;conv=>whnf
   refine aa (z:=true) ?_;conv=>whnf
   refine hno (by simp[kS,c1]) _ ⟨rfl,rfl,rfl,rfl,rfl,ay (by omega),trivial⟩
 ·have hge:j=l.length:=by have:=of_decide_eq_false hc;omega
  subst hge;rw[List.take_length];exact hQ _ rfl
theorem TF(k:Nat)(l:List Nt)(p x1 x2:Int)(hl:l.length*64≤140737488355328){h:Heap}{Q:AV→Heap→Prop}(hQ:Q (.int .i64 ((wN p x1 x2 l:Nat):Int)) h):VD fs ms 26 [.fz k (b8 l),.int .i64 p,.int .i64 x1,.int .i64 x2] h Q:=by
 refine bw (af:=XF) rfl (Nat.le_of_ble_eq_true rfl) ?_;conv=>whnf
 refine aj true ?_;conv=>whnf
 refine aj true ?_;conv=>whnf
 refine az (aj true ?_);conv=>whnf
 refine aL ?_;refine TG (k:=k) (l:=l) (p:=p) hl ?_ l.length 0 _ rfl (Nat.zero_le _) ⟨rfl,rfl,rfl,rfl,rfl,rfl,trivial⟩;intro e' g9;show VC fs ms _ _ _ _ _ _;refine ak 4 [(9,.int .i64 ((wN p x1 x2 l:Nat):Int))] ⟨g9,trivial⟩ (aa (z:=true) ?_);conv=>whnf
 exact hQ
end Ir
end Go.Proofs.Ytepdklcpagielaa
