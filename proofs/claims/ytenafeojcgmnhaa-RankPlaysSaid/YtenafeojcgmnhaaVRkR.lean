/-
  Rank: the document's rank, a row of ids in order. Rank: the document's rank, what changes it. Rank: the document's calls; both ranks, call by call.
-/
import Derived.Test.YtenafeojcgmnhaaVRkE
set_option maxRecDepth 100000
set_option linter.unusedSimpArgs false
set_option linter.unusedVariables false
namespace Go.Proofs.Ytenafeojcgmnhaa
open Go Ads
namespace Ads
theorem mM{h:Heap}{s bytes b m n:Nat}{vs cs:List AV}{x:AV}(hg:h.get b=some (.cells vs true s))(hv:vs.length=m*s)(hsrc:eC s h x=some (n+1,cs))(hf:bE cs=true)(hb:bytes≤1048576)(hm:m+n≤1048576):
  eV (.append s bytes) [.sl b 0 m m true,x] h=some (.sl h.next 0 (m+(n+1)) (m+(n+1)) true,(h.del b).new (.cells (vs++cs) true s)):=by
 have VU:(m+(n+1))*bytes≤1048577*1048576:=Nat.mul_le_mul (by omega) hb;have b1:Nat.ble (m+(n+1)) m=false:=by cases hb:Nat.ble (m+(n+1)) m with|false=>rfl|true=>(have:=Nat.le_of_ble_eq_true hb;omega)
 have b2:Nat.ble ((m+(n+1))*bytes) 140737488355328=true:=Nat.ble_eq_true_of_le (by omega);have b3:Nat.ble (m+(n+1)) 9223372036854775807=true:=Nat.ble_eq_true_of_le (by omega);have b4:Nat.ble (0+m*s) vs.length=true:=Nat.ble_eq_true_of_le (by omega);have b5:Nat.beq vs.length (0+m*s)=true:=by rw[hv,Nat.zero_add];exact Nat.beq_refl _
 have y7:h.aO b 0 (m*s)=some vs:=by
  simp only[Heap.aO,Heap.row,hg,b4,cond_true,List.drop_zero];rw[←hv,List.take_length]
 simp only[eV,l2,hsrc];show cond (bE cs) _ _=_;rw[hf,cond_true];show cond (Nat.beq (n+1) 0&&Nat.ble m m) _ _=_;rw[show Nat.beq (n+1) 0=false from rfl,Bool.false_and,cond_false,b1,cond_false,b2,b3,Bool.and_self,cond_true,hg,y7];show cond true (cond (true&&Nat.beq vs.length (0+m*s)&&Nat.beq m m&&Nat.beq s s) _ _) _=_;rw[b5,Nat.beq_refl,Nat.beq_refl];rfl
theorem FX{h:Heap}{s bytes b m:Nat}{x:AV}{cs:List AV}(hsrc:eC s h x=some (0,cs))(hf:bE cs=true):eV (.append s bytes) [.sl b 0 m m true,x] h=some (.sl b 0 m m true,h):=by
 simp only[eV,l2,hsrc];show cond (bE cs) _ _=_;rw[hf,cond_true];show cond (Nat.beq 0 0&&Nat.ble m m) _ _=_;rw[Nat.ble_eq_true_of_le (Nat.le_refl m)];rfl
end Ads
namespace Ir
def GR(lo:Nat)(h:Heap)(v:AV)(L:List Id):Prop:=
 (L=[]∧v=.aN)∨∃b,lo≤b∧b<h.next∧v=.sl b 0 L.length L.length true∧h.get b=some (.cells (oc L) true 2)
theorem GR.keep{lo:Nat}{h h':Heap}{v:AV}{L:List Id}(hr:GR lo h v L)(hn:h.next≤h'.next)(hk:∀c,c<h.next→lo≤c→h'.get c=h.get c):GR lo h' v L:=by
 rcases hr with hr|⟨b,h1,h2,h3,h4⟩
 ·exact .inl hr
 ·exact .inr ⟨b,h1,by omega,h3,by rw[hk b h2 h1];exact h4⟩
theorem GR.app{lo:Nat}{h:Heap}{v:AV}{L:List Id}(hr:GR lo h v L)(hlo:lo≤h.next)(hl:L.length≤1000)(x:Id):∃v' g',eV (.append 2 16) [v,.sl h.next 0 1 1 false] (h.new (.cells (ob x).cells true 0))=some (v',g')∧
  GR lo g' v' (L++[x])∧h.next≤g'.next∧∀c,c<lo→g'.get c=h.get c:=by
 have hsrc:eC 2 (h.new (.cells (ob x).cells true 0)) (.sl h.next 0 1 1 false)=some (1,(ob x).cells):=nU aB rfl;rcases hr with⟨h1,h2⟩|⟨b,h1,h2,h3,h4⟩
 ·subst h1 h2;refine⟨_,_,sX (by omega) hsrc rfl,.inr ⟨h.next+1,by omega,Nat.lt_succ_self _,rfl,?_⟩,by show h.next≤h.next+1+1;omega,fun c hc=>?_⟩
  ·exact aB (h:=h.new (.cells (ob x).cells true 0))
  ·exact(aH (h:=h.new (.cells (ob x).cells true 0)) (show c<h.next+1 by omega)).trans (aH (by omega))
 ·subst h3;have hg:(h.new (.cells (ob x).cells true 0)).get b=some (.cells (oc L) true 2):=by rw[aH h2];exact h4
  refine⟨_,_,rC hg (iX L) hsrc rfl (by omega) (by omega),.inr ⟨h.next+1,by omega,Nat.lt_succ_self _,by rw[List.length_append];rfl,?_⟩,by show h.next≤h.next+1+1;omega,fun c hc=>?_⟩
  ·have:=aB (h:=(h.new (.cells (ob x).cells true 0)).del b) (x:=.cells (oc L++(ob x).cells) true 2);rw[show((h.new (.cells (ob x).cells true 0)).del b).next=h.next+1 from rfl] at this;rw[this,vE];rfl
  ·have hne:c≠b:=by omega
   exact(aH (h:=(h.new (.cells (ob x).cells true 0)).del b) (show c<h.next+1 by omega)).trans ((fX hne).trans (aH (by omega)))
structure Rd(h:Heap)(v:AV)(L:List Id):Prop where
 len:pV .dc [v]=some (.int .i64 ((L.length:Nat):Int))
 get:∀i,i<L.length→∃b,pV (.ak 2) [v,.int .i64 ((i:Nat):Int)]=some (.ptr b (i*2))∧rV .bW [.ptr b (i*2)] h=some (.int .i64 ((gI L i).1:Nat))∧rV .bW [.ptr b (i*2+1)] h=some (.int .i64 (gI L i).2)∧rV (.aO 2) [.ptr b (i*2)] h=some (ob (gI L i))
 suf:∀k,k≤L.length→∃w,pV (.slice 2 true false false) [v,.int .i64 ((k:Nat):Int)]=some w∧∀h',(∀b,v=.sl b 0 L.length L.length true→h'.get b=h.get b)→eC 2 h' w=some (L.length-k,oc (L.drop k))
theorem GR.rd{lo:Nat}{h:Heap}{v:AV}{L:List Id}(hr:GR lo h v L):Rd h v L:=by
 rcases hr with⟨rfl,rfl⟩|⟨b,h1,h2,rfl,h4⟩
 ·refine⟨rfl,fun i hi=>by simp at hi,fun k hk=>⟨.aN,?_,fun h' _=>?_⟩⟩
  ·have:k=0:=by simpa using hk
   subst this;rfl
  ·have:k=0:=by simpa using hk
   subst this;rfl
 ·have y8:=iX L;refine⟨rfl,fun i hi=>⟨b,bh hi,?_,?_,?_⟩,fun k hk=>?_⟩
  ·refine bQ h4 ?_;rw[dB hi];exact HP hi
  ·refine bQ h4 ?_;rw[dB hi];exact CE hi
  ·have:=IS h4 (o:=i*2) (n:=2) (by omega);rw[this,←List.append_nil (oc L),zl hi,dB hi];rfl
  ·have bk:Nat.ble k L.length=true:=Nat.ble_eq_true_of_le hk;have bl:Nat.ble L.length L.length=true:=Nat.ble_eq_true_of_le (Nat.le_refl _);have hp:pV (.slice 2 true false false) [.sl b 0 L.length L.length true,.int .i64 ((k:Nat):Int)]=cond (Nat.beq L.length k&&Nat.beq L.length L.length&&(true&&!Nat.beq k 0)) (some (.rest b 0 (k*2))) (some (.sl b (0+cond (Nat.beq L.length k) 0 (k*2)) (L.length-k) (L.length-k) true)):=by
    show(match bounds L.length L.length true false false [.int .i64 ((k:Nat):Int)] with|some (l,h,mm)=>_|none=>_)=_;have:bounds L.length L.length true false false [.int .i64 ((k:Nat):Int)]=some (k,L.length,L.length):=by
     simp only[bounds,asNat,Option.map_some,bk,bl,Bool.and_self,cond_true]
    rw[this];rfl
   rw[hp];by_cases e:k=L.length
   ·subst e;rcases Nat.eq_zero_or_pos L.length with e0|e0
    ·have hL:=List.eq_nil_of_length_eq_zero e0;subst hL;refine⟨_,rfl,fun h' y5=>?_⟩;have hg:=y5 b rfl;rw[h4] at hg;exact nU (n:=0) hg rfl
    ·have:Nat.beq L.length 0=false:=by cases hb:Nat.beq L.length 0 with|false=>rfl|true=>(have:=Nat.eq_of_beq_eq_true hb;omega)
     rw[Nat.beq_refl,this];refine⟨_,rfl,fun h' _=>?_⟩;rw[Nat.sub_self,List.drop_length];rfl
   ·have:Nat.beq L.length k=false:=by cases hb:Nat.beq L.length k with|false=>rfl|true=>(have:=Nat.eq_of_beq_eq_true hb;omega)
    rw[this];refine⟨_,rfl,fun h' y5=>?_⟩;have hg:=y5 b rfl;rw[h4] at hg;show(h'.aO b (0+k*2) ((L.length-k)*2)).map _=_;have b4:Nat.ble (0+k*2+(L.length-k)*2) (oc L).length=true:=Nat.ble_eq_true_of_le (by omega);have:h'.aO b (0+k*2) ((L.length-k)*2)=some (oc (L.drop k)):=by
     simp only[Heap.aO,Heap.row,hg,b4,cond_true];have h5:oc L=oc (L.take k)++oc (L.drop k):=by rw[←vE,List.take_append_drop]
     have h6:(oc (L.take k)).length=k*2:=by rw[iX,List.length_take,Nat.min_eq_left hk]
     rw[h5,Nat.zero_add,←h6,List.drop_left',List.take_of_length_le]
     ·rw[iX,List.length_drop];omega
     ·rfl
    rw[this];rfl
def bD:AV→List Nat
 |.sl b _ _ _ _=>[b]
 |_=>[]
structure MR(h:Heap)(m:Nat)(S:List Nat)(L:List Id):Prop where
 lm:m<h.next
 ex:∃v,h.get m=some (.cells [v] true 0)∧GR 0 h v L∧S=m::bD v∧m∉bD v
theorem GR.own{lo:Nat}{h:Heap}{v:AV}{L:List Id}(hr:GR lo h v L):∀b∈bD v,lo≤b∧b<h.next:=by
 rcases hr with⟨_,rfl⟩|⟨b,h1,h2,rfl,_⟩
 ·intro b hb;simp[bD] at hb
 ·intro c hc;simp[bD] at hc;subst hc;exact⟨h1,h2⟩
theorem GR.low{lo:Nat}{h:Heap}{v:AV}{L:List Id}(hr:GR lo h v L):GR 0 h v L:=by
 rcases hr with hr|⟨b,h1,h2,h3,h4⟩
 ·exact .inl hr
 ·exact .inr ⟨b,Nat.zero_le _,h2,h3,h4⟩
theorem GR.kp{lo:Nat}{h h':Heap}{v:AV}{L:List Id}{T:List Nat}(hr:GR lo h v L)(fr:Fr h h' T)(hd:∀b∈bD v,b∉T):GR lo h' v L:=by
 rcases hr with hr|⟨b,h1,h2,h3,h4⟩
 ·exact .inl hr
 ·exact .inr ⟨b,h1,Nat.lt_of_lt_of_le h2 fr.next,h3,by rw[fr.keep b h2 (hd b (by rw[h3];simp[bD]))];exact h4⟩
theorem MR.own{h:Heap}{m:Nat}{S:List Nat}{L:List Id}(hr:MR h m S L):∀b∈S,b<h.next:=by
 obtain⟨v,h1,h2,rfl,h4⟩:=hr.ex;intro b hb;rcases List.mem_cons.1 hb with rfl|hb
 ·exact hr.lm
 ·exact(h2.own b hb).2
theorem MR.keep{h h':Heap}{m:Nat}{S T:List Nat}{L:List Id}(hr:MR h m S L)(fr:Fr h h' T)(hd:∀b∈S,b∉T):MR h' m S L:=by
 obtain⟨v,h1,h2,rfl,h4⟩:=hr.ex;exact⟨Nat.lt_of_lt_of_le hr.lm fr.next,v,by rw[fr.keep m hr.lm (hd m (by simp))];exact h1,h2.kp fr fun b hb=>hd b (by simp[hb]),rfl,h4⟩
theorem QV{h:Heap}{m:Nat}{S:List Nat}{L:List Id}(hr:MR h m S L)(hl:L.length≤64)(id:Int){B:Nat}{Q:AX→Env→Heap→Prop}
  (h1:∀e',(∀y∈L,((y.1:Nat):Int)≠id)→Q (.exit 0) e' h)(h2:∀e' j,j<L.length→(((gI L j).1:Nat):Int)=id→Tr.get e' 4=some (.int .i64 ((j:Nat):Int))→Q .ret e' h):
  ∀(n i:Nat) (env:Env),L.length-i=n→i≤L.length→(∀k,k<i→(((gI L k).1:Nat):Int)≠id)→aW env [(0,.ptr m 0),(1,.int .i64 id),(5,.int .i64 ((i:Nat):Int))]→
  VC fs ms B false (.loop gO) env h Q:=by
 obtain⟨v,g1,g2,_,_⟩:=hr.ex;have rd:=g2.rd;intro n;induction n using Nat.strongRecOn with
 |ind n ih=>
 intro i env hn hi hs bM;refine an 4 _ bM ?_;refine bB (z:=true) ?_;conv=>whnf
 refine⟨_,bQ g1 rfl,?_⟩;conv=>whnf
 refine cM rd.len ?_;conv=>whnf
 refine br (fun hc=>?_) (fun hc=>?_)<;>(try rw[hc])<;>(conv=>whnf)
 ·have hlt:i<L.length:=by have:=of_decide_eq_true hc;omega
  obtain⟨b,p1,p2,p3,p4⟩:=rd.get i hlt;refine⟨_,bQ g1 rfl,?_⟩;conv=>whnf
  refine⟨_,p1,?_⟩;conv=>whnf
  refine⟨_,p2,?_⟩;conv=>whnf
  cases he:((((gI L i).1:Nat):Int)==id) with
  |true=>
   conv=>whnf
   exact h2 _ i hlt (by simpa using he) rfl
  |false=>
   conv=>whnf
   refine ih (L.length-(i+1)) (by omega) (i+1) _ rfl (by omega) (fun k hk=>?_) (by repeat' (first|exact trivial|refine And.intro (by first|with_reducible_and_instances rfl|(refine Eq.trans (b:=some (AV.int .i64 _)) rfl (congrArg (fun z=>some (AV.int .i64 z)) ?_);first|omega|(simp(disch:=omega) only[IntWalk.i64_in]<;>omega))|rfl) ?_));by_cases e:k=i
   ·subst e;simpa using he
   ·exact hs k (by omega)
 ·have hge:i=L.length:=by have:=of_decide_eq_false hc;omega
  refine h1 _ fun y hy=>?_;obtain⟨k,hk,rfl⟩:=bZ.1 hy;exact hs k (by omega)
theorem HC{h:Heap}{m:Nat}{S:List Nat}{L:List Id}(hr:MR h m S L)(hl:L.length≤64)(id:Int){Q:AV→Heap→Prop}
  (h1:(∀y∈L,((y.1:Nat):Int)≠id)→Q (.int .i64 (-1)) h)(h2:∀j,j<L.length→(((gI L j).1:Nat):Int)=id→Q (.int .i64 ((j:Nat):Int)) h):VD fs ms 69 [.ptr m 0,.int .i64 id] h Q:=by
 refine bC (af:=Se) rfl (Nat.le_of_ble_eq_true rfl) ?_;conv=>whnf
 refine aa true ?_;conv=>whnf
 refine aJ (aa true ?_);conv=>whnf
 refine aG ?_;refine QV hr hl id ?_ ?_ _ 0 _ rfl (Nat.zero_le _) (fun k hk=>by omega) (by repeat' (first|exact trivial|refine And.intro (by first|with_reducible_and_instances rfl|(refine Eq.trans (b:=some (AV.int .i64 _)) rfl (congrArg (fun z=>some (AV.int .i64 z)) ?_);first|omega|(simp(disch:=omega) only[IntWalk.i64_in]<;>omega))|rfl) ?_))
 ·intro e' hn;show VC fs ms _ _ _ _ _ _;refine an 4 [] trivial (aq (z:=true) ?_);conv=>whnf
  exact h1 hn
 ·intro e' j hj he h4;show yK [.tmp 4] Q .ret e' h;simp only[yK,js,vQ,h4];exact h2 j hj he
theorem HG{h:Heap}{m:Nat}{S:List Nat}{L:List Id}(hr:MR h m S L)(hl:L.length≤64)(id:Int){Q:AV→Heap→Prop}
  (h1:(∀y∈L,((y.1:Nat):Int)≠id)→Q (.cg [.int .i64 0,.bool false]) h)(h2:∀y∈L,((y.1:Nat):Int)=id→Q (.cg [.int .i64 y.2,.bool true]) h):VD fs ms 56 [.ptr m 0,.int .i64 id] h Q:=by
 obtain⟨v,g1,g2,_,_⟩:=hr.ex;have rd:=g2.rd;refine aE (af:=R1) true rfl (Nat.le_of_ble_eq_true rfl) ?_;conv=>whnf
 refine HC hr hl id (fun hn=>?_) fun j hj he=>?_
 ·conv=>whnf
  exact h1 hn
 ·conv=>whnf
  obtain⟨b,p1,p2,p3,p4⟩:=rd.get j hj;refine⟨_,bQ g1 rfl,?_⟩;conv=>whnf
  refine⟨_,p1,?_⟩;conv=>whnf
  refine⟨_,p3,?_⟩;conv=>whnf
  exact h2 _ (bZ.2 ⟨j,hj,rfl⟩) he
theorem Nn{h:Heap}{m:Nat}{S:List Nat}{L:List Id}(hr:MR h m S L){Q:AV→Heap→Prop}(hQ:Q (.int .i64 ((L.length:Nat):Int)) h):VD fs ms 57 [.ptr m 0] h Q:=by
 obtain⟨v,g1,g2,_,_⟩:=hr.ex;refine aE (af:=R2) true rfl (Nat.le_of_ble_eq_true rfl) ?_;conv=>whnf
 refine⟨_,bQ g1 rfl,?_⟩;conv=>whnf
 refine cM g2.rd.len ?_;conv=>whnf
 exact hQ
theorem tE{h:Heap}{m:Nat}{S:List Nat}{L:List Id}(hr:MR h m S L){Q:AV→Heap→Prop}(h1:L=[]→Q (.cg [.int .i64 0,.int .i64 0,.bool false]) h)
  (h2:0<L.length→Q (.cg [.int .i64 ((gI L 0).1:Nat),.int .i64 (gI L 0).2,.bool true]) h):VD fs ms 55 [.ptr m 0] h Q:=by
 obtain⟨v,g1,g2,_,_⟩:=hr.ex;have rd:=g2.rd;refine aE (af:=RZ) true rfl (Nat.le_of_ble_eq_true rfl) ?_;conv=>whnf
 refine⟨_,bQ g1 rfl,?_⟩;conv=>whnf
 refine cM rd.len ?_;conv=>whnf
 by_cases hL:L=[]
 ·subst hL;conv=>whnf
  exact h1 rfl
 ·have hl:0<L.length:=List.length_pos_iff.2 hL;rw[show(((L.length:Nat):Int)==0)=false by simp;omega];conv=>whnf
  obtain⟨b,p1,p2,p3,p4⟩:=rd.get 0 hl;refine⟨_,bQ g1 rfl,?_⟩;conv=>whnf
  refine⟨_,p1,?_⟩;conv=>whnf
  refine⟨_,p2,?_⟩;conv=>whnf
  refine⟨_,bQ g1 rfl,?_⟩;conv=>whnf
  refine⟨_,p1,?_⟩;conv=>whnf
  refine⟨_,p3,?_⟩;conv=>whnf
  exact h2 hl
end Ir
end Go.Proofs.Ytenafeojcgmnhaa
set_option maxRecDepth 100000
set_option linter.unusedSimpArgs false
set_option linter.unusedVariables false
namespace Go.Proofs.Ytenafeojcgmnhaa
open Go Ads
namespace Ir
def oK(id:Int)(L:List Id):List Id:=L.filter fun y=>decide (((y.1:Nat):Int)≠id)
theorem E2{L:List Id}{id:Int}{i:Nat}(h:i<L.length):oK id (L.take (i+1))=oK id (L.take i)++(if((gI L i).1:Int)≠id then [gI L i] else []):=by
 rw[List.take_succ_eq_append_getElem h,dB h,oK,List.filter_append]
 congr 1
 by_cases hc:((L[i].1:Nat):Int)≠id
 ·rw[if_pos hc];simp[hc]
 ·rw[if_neg hc];simp at hc;simp[hc]
theorem Bi(id:Int)(L:List Id):(oK id L).length≤L.length:=List.length_filter_le ..
theorem No{h0:Heap}{m:Nat}{S:List Nat}{L:List Id}(z7:MR h0 m S L)(hl:L.length≤64)(id:Int){B:Nat}{Q:AX→Env→Heap→Prop}
  (hQ:∀h' v' e',Fr h0 h' []→GR h0.next h' v' (oK id L)→aW e' [(0,.ptr m 0),(5,v')]→Q (.exit 0) e' h'):
  ∀(n i:Nat) (h:Heap) (v':AV) (env:Env),L.length-i=n→i≤L.length→Fr h0 h []→GR h0.next h v' (oK id (L.take i))→aW env [(0,.ptr m 0),(1,.int .i64 id),(5,v'),(6,.int .i64 ((i:Nat):Int))]→
  VC fs ms B false (.loop eP) env h Q:=by
 intro n;induction n using Nat.strongRecOn with
 |ind n ih=>
 intro i h v' env hn hi fr hg bM;obtain⟨v,g1,g2,_,_⟩:=(z7.keep fr (by simp)).ex;have rd:=g2.rd;refine an 4 _ bM ?_;refine bB (z:=true) ?_;conv=>whnf
 refine⟨_,bQ g1 rfl,?_⟩;conv=>whnf
 refine cM rd.len ?_;conv=>whnf
 refine br (fun hc=>?_) (fun hc=>?_)<;>(try rw[hc])<;>(conv=>whnf)
 ·have hlt:i<L.length:=by have:=of_decide_eq_true hc;omega
  obtain⟨b,p1,p2,p3,p4⟩:=rd.get i hlt;refine⟨_,bQ g1 rfl,?_⟩;conv=>whnf
  refine⟨_,p1,?_⟩;conv=>whnf
  refine⟨_,p2,?_⟩;conv=>whnf
  have hst:=E2 (id:=id) hlt;cases he:((((gI L i).1:Nat):Int)!=id) with
  |true=>
   have hne:((gI L i).1:Int)≠id:=by simpa using he
   rw[if_pos hne] at hst;conv=>whnf
   refine⟨_,bQ g1 rfl,?_⟩;conv=>whnf
   refine⟨_,p1,?_⟩;conv=>whnf
   refine⟨_,p4,?_⟩;conv=>whnf
   obtain⟨v2,g',a1,a2,a3,a4⟩:=hg.app fr.next (by have:=Bi id (L.take i);rw[List.length_take] at this;omega) (gI L i);refine bA a1 fun h2 e2=>?_;subst e2;conv=>whnf
   refine ih (L.length-(i+1)) (by omega) (i+1) h2 v2 _ rfl (by omega) ⟨by have:=fr.next;omega,fun c hc _=>by rw[a4 c hc];exact fr.keep c hc (by simp)⟩ (by rw[hst];exact a2) (by repeat' (first|exact trivial|refine And.intro (by first|with_reducible_and_instances rfl|(refine Eq.trans (b:=some (AV.int .i64 _)) rfl (congrArg (fun z=>some (AV.int .i64 z)) ?_);first|omega|(simp(disch:=omega) only[IntWalk.i64_in]<;>omega))|rfl) ?_))
  |false=>
   have hne:¬((gI L i).1:Int)≠id:=by simpa using he
   rw[if_neg hne,List.append_nil] at hst;conv=>whnf
   exact ih (L.length-(i+1)) (by omega) (i+1) h v' _ rfl (by omega) fr (by rw[hst];exact hg) (by repeat' (first|exact trivial|refine And.intro (by first|with_reducible_and_instances rfl|(refine Eq.trans (b:=some (AV.int .i64 _)) rfl (congrArg (fun z=>some (AV.int .i64 z)) ?_);first|omega|(simp(disch:=omega) only[IntWalk.i64_in]<;>omega))|rfl) ?_))
 ·have hge:i=L.length:=by have:=of_decide_eq_false hc;omega
  subst hge;rw[List.take_length] at hg;exact hQ h v' _ fr hg (by repeat' (first|exact trivial|refine And.intro (by first|with_reducible_and_instances rfl|(refine Eq.trans (b:=some (AV.int .i64 _)) rfl (congrArg (fun z=>some (AV.int .i64 z)) ?_);first|omega|(simp(disch:=omega) only[IntWalk.i64_in]<;>omega))|rfl) ?_))
theorem zj{h:Heap}{m:Nat}{S:List Nat}{L:List Id}(hr:MR h m S L)(hl:L.length≤64)(id:Int){Q:AV→Heap→Prop}
  (hQ:∀h' S',MR h' m S' (oK id L)→Own h h' S S'→Q (.bool (decide (((oK id L).length:Int)<((L.length:Nat):Int)))) h'):VD fs ms 53 [.ptr m 0,.int .i64 id] h Q:=by
 refine bC (af:=RX) rfl (Nat.le_of_ble_eq_true rfl) ?_;conv=>whnf
 refine aa true ?_;conv=>whnf
 refine aa true ?_;conv=>whnf
 refine aJ (aa true ?_);conv=>whnf
 refine aG ?_;refine No hr hl id ?_ _ 0 h .aN _ rfl (Nat.zero_le _) (Fr.refl _ _) (.inl ⟨rfl,rfl⟩) (by repeat' (first|exact trivial|refine And.intro (by first|with_reducible_and_instances rfl|(refine Eq.trans (b:=some (AV.int .i64 _)) rfl (congrArg (fun z=>some (AV.int .i64 z)) ?_);first|omega|(simp(disch:=omega) only[IntWalk.i64_in]<;>omega))|rfl) ?_));intro h1 v1 e1 fr hg he;show VC fs ms _ _ _ _ _ _;obtain⟨v,g1,g2,_,_⟩:=(hr.keep fr (by simp)).ex;refine an 4 _ he (aq (z:=true) ?_);conv=>whnf
 refine cM hg.rd.len ?_;conv=>whnf
 refine⟨_,bQ g1 rfl,?_⟩;conv=>whnf
 refine cM g2.rd.len ?_;conv=>whnf
 have hlm:=hr.lm;refine bA (fQ (n:=1) (v:=v1) g1 ?_ ?_ ?_) fun h2 e2=>?_
 ·rcases hg with⟨_,rfl⟩|⟨b,_,_,rfl,_⟩<;>rfl
 ·simp
 ·rcases hg with⟨_,rfl⟩|⟨b,_,_,rfl,_⟩<;>rfl
 conv=>whnf
 have Lf:m∉bD v1:=fun hm=>by have:=hg.own m hm;omega
 have hS:m∈S:=by obtain⟨v0,_,_,rfl,_⟩:=hr.ex;simp
 have iI:Fr h1 h2 [m]:=by rw[e2];exact(Fr.refl h1 [m]).set (by simp)
 refine hQ h2 (m::bD v1) ⟨by have:=iI.next;have:=fr.next;omega,v1,?_,(hg.kp iI fun b hb=>?_).low,rfl,Lf⟩ ⟨⟨by have:=iI.next;have:=fr.next;omega,fun c hc hn=>?_⟩,fun b hb=>?_⟩
 ·rw[e2,aV];rcases hg with⟨_,rfl⟩|⟨b,_,_,rfl,_⟩<;>rfl
 ·simp;rintro rfl;exact Lf hb
 ·rw[iI.keep c (Nat.lt_of_lt_of_le hc fr.next) (by simp;rintro rfl;exact hn hS),fr.keep c hc (by simp)]
 ·rcases List.mem_cons.1 hb with rfl|hb
  ·exact .inl hS
  ·exact .inr (hg.own b hb).1
abbrev Pw(L:List Id):Prop:=L.Pairwise (fun x y=>ah x y=true)
theorem M8{L:List Id}{x:Id}{k:Nat}(hk:k≤L.length)(hp:Pw L)(h1:∀j,j<k→ah (gI L j) x=true)(h2:k<L.length→ah (gI L k) x=false)(hx:∀y∈L,y.1≠x.1):Pw (L.take k++x::L.drop k)∧∀y,y∈L.take k++x::L.drop k↔y∈L∨y=x:=by
 have e:=List.take_append_drop k L;have Cs:Pw (L.take k++L.drop k):=by rw[e];exact hp
 rw[Pw,List.pairwise_append] at Cs;obtain⟨pa,pb,pc⟩:=Cs;have t1:∀y∈L.take k,ah y x=true:=by
  intro y hy;obtain⟨j,hj,rfl⟩:=List.mem_iff_getElem.1 hy;rw[List.length_take] at hj;have:=h1 j (by omega);rw[dB (by omega)] at this;simpa using this
 have t2:∀y∈L.drop k,ah x y=true:=by
  intro y hy;have hlen:k<L.length:=by
   rcases Nat.lt_or_ge k L.length with c|c
   ·exact c
   ·rw[List.drop_eq_nil_of_le c] at hy;cases hy
  have EO:y∈L:=List.mem_of_mem_drop hy;have hk':=h2 hlen;refine FN (hx y EO) ?_;obtain⟨j,hj,rfl⟩:=List.mem_iff_getElem.1 hy;rw[List.length_drop] at hj;rw[List.getElem_drop];rcases Nat.eq_zero_or_pos j with rfl|h0
  ·rw[dB hlen] at hk';simpa using hk'
  ·have:=(List.pairwise_iff_getElem.1 hp) k (k+j) hlen (by omega) (by omega);rw[dB hlen] at hk';exact mL (nX this) hk'
 refine⟨?_,fun y=>?_⟩
 ·rw[Pw,List.pairwise_append,List.pairwise_cons];refine⟨pa,⟨t2,pb⟩,fun y hy z hz=>?_⟩;rcases List.mem_cons.1 hz with rfl|hz
  ·exact t1 y hy
  ·exact pc y hy z hz
 ·conv=>rhs;rw[←e]
  simp only[List.mem_append,List.mem_cons];constructor
  ·rintro(h|h|h)
   ·exact .inl (.inl h)
   ·exact .inr h
   ·exact .inl (.inr h)
  ·rintro((h|h)|h)
   ·exact .inl h
   ·exact .inr (.inr h)
   ·exact .inr (.inl h)
theorem LM{h0:Heap}{m s:Nat}{S:List Nat}{L:List Id}{x:Id}(z7:MR h0 m S L)(hl:L.length≤64)(hs:h0.get s=some (.cells (ob x).cells true 0))(hsl:s<h0.next){B:Nat}{Q:AX→Env→Heap→Prop}
  (hQ:∀h' v' k e',k≤L.length→(∀j,j<k→ah (gI L j) x=true)→(k<L.length→ah (gI L k) x=false)→Fr h0 h' []→GR h0.next h' v' (L.take k)→aW e' [(0,.ptr m 0),(3,.ptr s 0),(4,v'),(5,.int .i64 ((k:Nat):Int))]→Q (.exit 0) e' h'):
  ∀(n k:Nat) (h:Heap) (v':AV) (env:Env),L.length-k=n→k≤L.length→(∀j,j<k→ah (gI L j) x=true)→Fr h0 h []→GR h0.next h v' (L.take k)→aW env [(0,.ptr m 0),(3,.ptr s 0),(4,v'),(5,.int .i64 ((k:Nat):Int))]→
  VC fs ms B false (.loop gy) env h Q:=by
 intro n;induction n using Nat.strongRecOn with
 |ind n ih=>
 intro k h v' env hn hk ha fr hg bM;obtain⟨v,g1,g2,_,_⟩:=(z7.keep fr (by simp)).ex;have wQ:h.get s=some (.cells [.int .i64 (x.1:Nat),.int .i64 x.2] true 0):=by rw[fr.keep s hsl (by simp)];exact hs
 have rd:=g2.rd;refine an 4 _ bM ?_;refine cK (aJ ?_);refine VC.mono (Q:=fun y e2 h2=>h2=h∧((y=.exit 0∧(k<L.length→ah (gI L k) x=false)∧aW e2 [(0,.ptr m 0),(3,.ptr s 0),(4,v'),(5,.int .i64 ((k:Nat):Int))])∨(y=.normal∧k<L.length∧ah (gI L k) x=true∧aW e2 [(0,.ptr m 0),(3,.ptr s 0),(4,v'),(5,.int .i64 ((k:Nat):Int))]))) ?_ ?_
 ·refine aq (z:=true) ?_;conv=>whnf
  refine⟨_,bQ g1 rfl,?_⟩;conv=>whnf
  refine cM rd.len ?_;conv=>whnf
  refine br (fun hc=>?_) (fun hc=>?_)<;>(try rw[hc])<;>(conv=>whnf)
  ·have hlt:k<L.length:=by have:=of_decide_eq_true hc;omega
   obtain⟨b,p1,p2,p3,p4⟩:=rd.get k hlt;refine⟨_,bQ g1 rfl,?_⟩;conv=>whnf
   refine⟨_,p1,?_⟩;conv=>whnf
   refine⟨_,p3,?_⟩;conv=>whnf
   refine⟨_,bQ wQ rfl,?_⟩;conv=>whnf
   refine br (fun hc=>?_) (fun hc=>?_)<;>(try rw[hc])<;>(conv=>whnf)
   ·have h1:(gI L k).2<x.2:=of_decide_eq_true hc;exact⟨rfl,.inr ⟨rfl,hlt,by rw[gH];exact .inl h1,rfl,rfl,rfl,rfl,trivial⟩⟩
   ·have h1:¬(gI L k).2<x.2:=of_decide_eq_false hc;refine⟨_,bQ g1 rfl,?_⟩;conv=>whnf
    refine⟨_,p1,?_⟩;conv=>whnf
    refine⟨_,p3,?_⟩;conv=>whnf
    refine⟨_,bQ wQ rfl,?_⟩;conv=>whnf
    cases he:((gI L k).2==x.2) with
    |false=>
     have h2:¬(gI L k).2=x.2:=by simpa using he
     conv=>whnf
     exact⟨rfl,.inl ⟨rfl,fun _=>by rw[←Bool.not_eq_true,gH];omega,rfl,rfl,rfl,rfl,trivial⟩⟩
    |true=>
     have h2:(gI L k).2=x.2:=by simpa using he
     conv=>whnf
     refine⟨_,bQ g1 rfl,?_⟩;conv=>whnf
     refine⟨_,p1,?_⟩;conv=>whnf
     refine⟨_,p2,?_⟩;conv=>whnf
     refine⟨_,bQ wQ rfl,?_⟩;conv=>whnf
     refine br (fun hc=>?_) (fun hc=>?_)<;>(try rw[hc])<;>(conv=>whnf)
     ·have h3:=of_decide_eq_true hc;exact⟨rfl,.inr ⟨rfl,hlt,by rw[gH];omega,rfl,rfl,rfl,rfl,trivial⟩⟩
     ·have h3:=of_decide_eq_false hc;exact⟨rfl,.inl ⟨rfl,fun _=>by rw[←Bool.not_eq_true,gH];omega,rfl,rfl,rfl,rfl,trivial⟩⟩
  ·have hge:¬k<L.length:=by have:=of_decide_eq_false hc;omega
   exact⟨rfl,.inl ⟨rfl,fun h=>absurd h hge,rfl,rfl,rfl,rfl,trivial⟩⟩
 ·rintro y e2 h2 ⟨rfl,(⟨rfl,hn,he⟩|⟨rfl,hlt,TI,he⟩)⟩
  ·exact hQ h2 v' k e2 hk ha hn fr hg he
  ·show VC fs ms _ _ _ _ _ _;obtain⟨b,p1,p2,p3,p4⟩:=rd.get k hlt;refine an 4 _ he (aq (z:=true) ?_);conv=>whnf
   refine⟨_,bQ g1 rfl,?_⟩;conv=>whnf
   refine⟨_,p1,?_⟩;conv=>whnf
   refine⟨_,p4,?_⟩;conv=>whnf
   obtain⟨v2,g',a1,a2,a3,a4⟩:=hg.app fr.next (by rw[List.length_take];omega) (gI L k);refine bA a1 fun h3 e3=>?_;subst e3;conv=>whnf
   refine ih (L.length-(k+1)) (by omega) (k+1) h3 v2 _ rfl (by omega) (fun j hj=>?_) ⟨by have:=fr.next;omega,fun c hc _=>by rw[a4 c hc];exact fr.keep c hc (by simp)⟩ ?_ (by repeat' (first|exact trivial|refine And.intro (by first|with_reducible_and_instances rfl|(refine Eq.trans (b:=some (AV.int .i64 _)) rfl (congrArg (fun z=>some (AV.int .i64 z)) ?_);first|omega|(simp(disch:=omega) only[IntWalk.i64_in]<;>omega))|rfl) ?_))
   ·by_cases e:j=k
    ·subst e;exact TI
    ·exact ha j (by omega)
   ·rw[List.take_succ_eq_append_getElem hlt,←dB hlt];exact a2
theorem Gd{h:Heap}{m:Nat}{S:List Nat}{L:List Id}{x:Id}(hr:MR h m S L)(hl:L.length≤64)(hp:Pw L)(hx:∀y∈L,y.1≠x.1){Q:AV→Heap→Prop}
  (hQ:∀h' S' L',MR h' m S' L'→Pw L'→(∀y,y∈L'↔y∈L∨y=x)→Own h h' S S'→Q (.cg []) h'):VD fs ms 70 [.ptr m 0,ob x] h Q:=by
 refine bC (af:=Sf) rfl (Nat.le_of_ble_eq_true rfl) ?_;conv=>whnf
 refine aa true ?_;conv=>whnf
 have kC:Fr h (h.new (.cells (ob x).cells true 0)) []:=(Fr.refl h []).new;have gs:(h.new (.cells (ob x).cells true 0)).get h.next=some (.cells (ob x).cells true 0):=aB;have hls:h.next<(h.new (.cells (ob x).cells true 0)).next:=Nat.lt_succ_self _
 have uB:=hr.keep kC (by simp);obtain⟨h1,e1⟩:∃h1,h1=h.new (.cells (ob x).cells true 0):=⟨_,rfl⟩;rw[←e1] at kC gs hls uB;change VC fs ms _ _ _ _ (h.new (.cells (ob x).cells true 0)) _
 rw[←e1];clear e1;refine aa true ?_;conv=>whnf
 refine aa true ?_;conv=>whnf
 refine aJ (aG ?_);refine LM (x:=x) uB hl gs hls ?_ _ 0 h1 .aN _ rfl (Nat.zero_le _) (fun j hj=>by omega) (Fr.refl _ _) (.inl ⟨rfl,rfl⟩) (by repeat' (first|exact trivial|refine And.intro (by first|with_reducible_and_instances rfl|(refine Eq.trans (b:=some (AV.int .i64 _)) rfl (congrArg (fun z=>some (AV.int .i64 z)) ?_);first|omega|(simp(disch:=omega) only[IntWalk.i64_in]<;>omega))|rfl) ?_));intro h2 v2 k e2 k1 k2 k3 iI g2 wA;show VC fs ms _ _ _ _ _ _;obtain⟨q1,q2⟩:=M8 k1 hp k2 k3 hx;have xN:=uB.keep iI (by simp);obtain⟨v,gm,gv,hS,wP⟩:=xN.ex;have BT:h2.get h.next=some (.cells [.int .i64 (x.1:Nat),.int .i64 x.2] true 0):=by rw[iI.keep _ hls (by simp)];exact gs
 obtain⟨v3,h3,a1,a2,a3,a4⟩:=g2.app iI.next (by rw[List.length_take];omega) x;refine an 4 _ wA (aa true ?_);conv=>whnf
 refine⟨_,(show rV (.aO 2) [.ptr h.next 0] h2=some (ob x) from(IS BT (o:=0) (n:=2) (by simp)).trans rfl),?_⟩;conv=>whnf
 refine bA a1 fun EJ e3=>?_;subst e3;conv=>whnf
 have ql:Fr h1 EJ []:=⟨by have:=iI.next;omega,fun c hc _=>by rw[a4 c hc];exact iI.keep c hc (by simp)⟩;have Ol:=uB.keep ql (by simp);obtain⟨v0,VF,gv3,hS3,Wx⟩:=Ol.ex;refine aq (z:=true) ?_;conv=>whnf
 refine⟨_,bQ VF rfl,?_⟩;conv=>whnf
 obtain⟨w,w1,w2⟩:=gv3.rd.suf k k1;refine⟨_,w1,?_⟩;conv=>whnf
 have hsrc:=w2 EJ fun _ _=>rfl;have Qe:=uB.lm;have yV:∃v4 h4,eV (.append 2 16) [v3,w] EJ=some (v4,h4)∧GR h1.next h4 v4 (L.take k++x::L.drop k)∧Fr h1 h4 []:=by
  have y8:(L.take k++[x]).length=k+1:=by rw[List.length_append,List.length_take];simp;omega
  rcases a2 with⟨e,_⟩|⟨b,b1,b2,b3,b4⟩
  ·simp at e
  ·subst b3;rcases Nat.lt_or_ge k L.length with c|c
   ·obtain⟨n,hn⟩:∃n,L.length-k=n+1:=⟨L.length-k-1,by omega⟩;rw[hn] at hsrc;refine⟨_,_,mM b4 (iX _) hsrc (rP _) (by omega) (by omega),.inr ⟨EJ.next,by have:=ql.next;omega,Nat.lt_succ_self _,?_,?_⟩,⟨by show h1.next≤EJ.next+1;have:=ql.next;omega,fun c hc _=>?_⟩⟩
    ·rw[y8];have:(L.take k++x::L.drop k).length=k+1+(n+1):=by rw[List.length_append,List.length_take,List.length_cons,List.length_drop];omega
     rw[this]
    ·have:=aB (h:=EJ.del b) (x:=.cells (oc (L.take k++[x])++oc (L.drop k)) true 2);rw[show(EJ.del b).next=EJ.next from rfl] at this;rw[this,←vE,List.append_assoc];rfl
    ·have hne:c≠b:=by omega
     exact(aH (h:=EJ.del b) (show c<EJ.next by have:=ql.next;omega)).trans ((fX hne).trans (ql.keep c hc (by simp)))
   ·have:L.length-k=0:=by omega
    rw[this] at hsrc;have hd:L.drop k=[]:=List.drop_eq_nil_of_le c;refine⟨_,_,FX hsrc (rP _),?_,ql⟩;rw[hd];exact .inr ⟨b,b1,b2,rfl,b4⟩
 obtain⟨v4,h4,c1,c2,c3⟩:=yV;refine bA c1 fun Mj e4=>?_;subst e4;conv=>whnf
 have gm4:Mj.get m=some (.cells [v0] true 0):=by rw[c3.keep m Qe (by simp),←ql.keep m Qe (by simp)];exact VF
 refine bA (fQ (n:=1) (v:=v4) gm4 ?_ ?_ ?_) fun h5 e5=>?_
 ·rcases c2 with⟨_,rfl⟩|⟨b,_,_,rfl,_⟩<;>rfl
 ·simp
 ·rcases c2 with⟨_,rfl⟩|⟨b,_,_,rfl,_⟩<;>rfl
 conv=>whnf
 have Lf:m∉bD v4:=fun hm=>by have:=c2.own m hm;omega
 have VT:m∈S:=by obtain⟨v0,_,_,rfl,_⟩:=hr.ex;simp
 have DD:Fr Mj h5 [m]:=by rw[e5];exact(Fr.refl Mj [m]).set (by simp)
 have n1:=kC.next;have n2:=c3.next;have n3:=DD.next;have n4:=hr.lm;refine hQ h5 (m::bD v4) _ ⟨by omega,v4,?_,(c2.kp DD fun b hb=>?_).low,rfl,Lf⟩ q1 q2 ⟨⟨by omega,fun c hc hn=>?_⟩,fun b hb=>?_⟩
 ·rw[e5,aV];rcases c2 with⟨_,rfl⟩|⟨b,_,_,rfl,_⟩<;>rfl
 ·simp;rintro rfl;exact Lf hb
 ·rw[DD.keep c (by omega) (by simp;rintro rfl;exact hn VT),c3.keep c (by omega) (by simp),kC.keep c hc (by simp)]
 ·rcases List.mem_cons.1 hb with rfl|hb
  ·exact .inl VT
  ·have:=(c2.own b hb).1;exact .inr (by omega)
end Ir
end Go.Proofs.Ytenafeojcgmnhaa
set_option maxRecDepth 100000
set_option linter.unusedSimpArgs false
set_option linter.unusedVariables false
namespace Go.Proofs.Ytenafeojcgmnhaa
open Go Ads
namespace Ir
theorem J9{h:Heap}{Q:AV→Heap→Prop}(hQ:∀h' m,MR h' m [m] []→h.next≤m→Fr h h' []→Q (.ptr m 0) h'):VD fs ms 21 [] h Q:=by
 refine aE (af:=RE) true rfl (Nat.le_of_ble_eq_true rfl) ?_;conv=>whnf
 exact hQ _ h.next ⟨Nat.lt_succ_self _,.aN,aB,.inl ⟨rfl,rfl⟩,rfl,by simp[bD]⟩ (Nat.le_refl _) (Fr.refl h []).new
theorem Cz{h:Heap}{m:Nat}{S:List Nat}{L:List Id}(hr:MR h m S L)(hl:L.length≤64)(hp:Pw L)(id key:Int){Q:AV→Heap→Prop}(h1:id<0∨64≤id→Q (.int .i64 9) h)
  (h2:∀y,y∈L→id=y.1→Q (.int .i64 141) h)
  (h3:∀i:Nat,id=i→i<64→(∀y∈L,y.1≠i)→∀h' S' L',MR h' m S' L'→Pw L'→(∀y,y∈L'↔y∈L∨y=(i,key))→Own h h' S S'→Q (.int .i64 0) h'):VD fs ms 51 [.ptr m 0,.int .i64 id,.int .i64 key] h Q:=by
 refine aE (af:=RV) true rfl (Nat.le_of_ble_eq_true rfl) ?_;conv=>whnf
 refine br (fun hc=>?_) (fun hc=>?_)<;>(try rw[hc])<;>(conv=>whnf)
 ·exact h1 (.inl (of_decide_eq_true hc))
 have a1:¬id<0:=of_decide_eq_false hc;refine br (fun hc=>?_) (fun hc=>?_)<;>(try rw[hc])<;>(conv=>whnf)
 ·exact h1 (.inr (by have:=of_decide_eq_true hc;omega))
 have a2:¬id>63:=of_decide_eq_false hc;obtain⟨i,rfl⟩:∃i:Nat,id=i:=⟨id.toNat,by omega⟩;refine HC hr hl _ (fun hn=>?_) fun j hj he=>?_
 ·conv=>whnf
  have hno:∀y∈L,y.1≠i:=fun y hy e=>hn y hy (by rw[e]);refine Gd (x:=(i,key)) hr hl hp (fun y hy=>hno y hy) fun h' S' L' k1 k2 k3 k4=>?_;conv=>whnf
  exact h3 i rfl (by omega) hno h' S' L' k1 k2 k3 k4
 ·conv=>whnf
  exact h2 _ (bZ.2 ⟨j,hj,rfl⟩) he.symm
theorem si{h:Heap}{m:Nat}{S:List Nat}{L:List Id}(hr:MR h m S L)(hl:L.length≤64)(hp:Pw L)(hd:∀x∈L,∀y∈L,x.1=y.1→x=y)(id key:Int){Q:AV→Heap→Prop}(h1:id<0∨64≤id→Q (.int .i64 9) h)
  (h2:¬(id<0∨64≤id)→(∀y∈L,id≠(y.1:Int))→Q (.int .i64 8) h)
  (h3:∀y:Id,id=(y.1:Int)→y∈L→y.2<key→Q (.int .i64 2) h)
  (h4:∀y:Id,id=(y.1:Int)→y∈L→key≤y.2→∀h' S' L',MR h' m S' L'→Pw L'→(∀z,z∈L'↔(z∈L∧z.1≠y.1)∨z=(y.1,key))→Own h h' S S'→Q (.int .i64 0) h'):VD fs ms 52 [.ptr m 0,.int .i64 id,.int .i64 key] h Q:=by
 refine aE (af:=RW) true rfl (Nat.le_of_ble_eq_true rfl) ?_;conv=>whnf
 refine br (fun hc=>?_) (fun hc=>?_)<;>(try rw[hc])<;>(conv=>whnf)
 ·exact h1 (.inl (of_decide_eq_true hc))
 have a1:¬id<0:=of_decide_eq_false hc;refine br (fun hc=>?_) (fun hc=>?_)<;>(try rw[hc])<;>(conv=>whnf)
 ·exact h1 (.inr (by have:=of_decide_eq_true hc;omega))
 have a2:¬id>63:=of_decide_eq_false hc;refine HC hr hl _ (fun hn=>?_) fun j hj he=>?_
 ·conv=>whnf
  exact h2 (by omega) fun y hy e=>hn y hy e.symm
 ·conv=>whnf
  obtain⟨v,g1,g2,_,_⟩:=hr.ex;obtain⟨b,p1,p2,p3,p4⟩:=g2.rd.get j hj;have EO:gI L j∈L:=bZ.2 ⟨j,hj,rfl⟩;refine⟨_,bQ g1 rfl,?_⟩;conv=>whnf
  refine⟨_,p1,?_⟩;conv=>whnf
  refine⟨_,p3,?_⟩;conv=>whnf
  refine br (fun hc=>?_) (fun hc=>?_)<;>(try rw[hc])<;>(conv=>whnf)
  ·exact h3 _ he.symm EO (of_decide_eq_true hc)
  ·have hle:key≤(gI L j).2:=by have:=of_decide_eq_false hc;omega
   subst he;refine zj hr hl _ fun h' S' k1 k2=>?_;conv=>whnf
   have hsub:∀z,z∈oK ((gI L j).1:Int) L↔z∈L∧z.1≠(gI L j).1:=by
    intro z;rw[oK,List.mem_filter];simp only[decide_eq_true_eq];exact⟨fun⟨a,b⟩=>⟨a,fun e=>b (by rw[e])⟩,fun⟨a,b⟩=>⟨a,fun e=>b (by omega)⟩⟩
   refine Gd (x:=((gI L j).1,key)) k1 (Nat.le_trans (Bi _ _) hl) (List.Pairwise.sublist List.filter_sublist hp) (fun y hy=>((hsub y).1 hy).2) fun pN S2 L2 q1 q2 q3 q4=>?_;conv=>whnf
   refine h4 _ rfl EO hle pN S2 L2 q1 q2 (fun z=>by rw[q3,hsub]) ⟨?_,fun b hb=>?_⟩
   ·refine⟨Nat.le_trans k2.fr.next q4.fr.next,fun c hc hn=>?_⟩;have hn2:c∉S':=fun h'=>by
     rcases k2.new c h' with h'|h'
     ·exact hn h'
     ·omega
    rw[q4.fr.keep c (Nat.lt_of_lt_of_le hc k2.fr.next) hn2,k2.fr.keep c hc hn]
   ·rcases q4.new b hb with hb|hb
    ·exact k2.new b hb
    ·exact .inr (Nat.le_trans k2.fr.next hb)
theorem HB{h:Heap}{m:Nat}{S:List Nat}{L:List Id}(hr:MR h m S L)(hl:L.length≤64){Q:AV→Heap→Prop}(h1:L=[]→Q (.cg [.int .i64 0,.int .i64 0,.bool false]) h)
  (h2:0<L.length→∀h' S',MR h' m S' (oK ((gI L 0).1:Int) L)→Own h h' S S'→Q (.cg [.int .i64 ((gI L 0).1:Nat),.int .i64 (gI L 0).2,.bool true]) h'):VD fs ms 54 [.ptr m 0] h Q:=by
 refine aE (af:=RY) true rfl (Nat.le_of_ble_eq_true rfl) ?_;conv=>whnf
 refine tE hr (fun hL=>?_) fun AY=>?_
 ·conv=>whnf
  exact h1 hL
 ·conv=>whnf
  refine zj hr hl _ fun h' S' k1 k2=>?_;conv=>whnf
  exact h2 AY h' S' k1 k2
theorem Nk{h0:Heap}{m:Nat}{S:List Nat}{L:List Id}(z7:MR h0 m S L)(hl:L.length≤64){B:Nat}{Q:AX→Env→Heap→Prop}
  (hQ:∀h' v' e',Fr h0 h' []→dr h0.next h' v' (oe L)→Tr.get e' 3=some v'→Q (.exit 0) e' h'):
  ∀(n i:Nat) (h:Heap) (v':AV) (env:Env),L.length-i=n→i≤L.length→Fr h0 h []→dr h0.next h v' (oe (L.take i))→aW env [(0,.ptr m 0),(3,v'),(4,.int .i64 ((i:Nat):Int))]→
  VC fs ms B false (.loop gx) env h Q:=by
 intro n;induction n using Nat.strongRecOn with
 |ind n ih=>
 intro i h v' env hn hi fr hg bM;obtain⟨v,g1,g2,_,_⟩:=(z7.keep fr (by simp)).ex;have rd:=g2.rd;refine an 4 _ bM ?_;refine bB (z:=true) ?_;conv=>whnf
 refine⟨_,bQ g1 rfl,?_⟩;conv=>whnf
 refine cM rd.len ?_;conv=>whnf
 refine br (fun hc=>?_) (fun hc=>?_)<;>(try rw[hc])<;>(conv=>whnf)
 ·have hlt:i<L.length:=by have:=of_decide_eq_true hc;omega
  obtain⟨b,p1,p2,p3,p4⟩:=rd.get i hlt;refine⟨_,bQ g1 rfl,?_⟩;conv=>whnf
  refine⟨_,p1,?_⟩;conv=>whnf
  refine⟨_,p2,?_⟩;conv=>whnf
  obtain⟨v2,g',a1,a2,a3,a4,a5⟩:=hg.app fr.next (by rw[dw,List.length_take];omega) ((gI L i).1:Int);refine bA a1 fun h2 e2=>?_;subst e2;conv=>whnf
  refine ih (L.length-(i+1)) (by omega) (i+1) h2 v2 _ rfl (by omega) ⟨by have:=fr.next;omega,fun c hc _=>?_⟩ (by rw[A7 hlt];exact a2) (by repeat' (first|exact trivial|refine And.intro (by first|with_reducible_and_instances rfl|(refine Eq.trans (b:=some (AV.int .i64 _)) rfl (congrArg (fun z=>some (AV.int .i64 z)) ?_);first|omega|(simp(disch:=omega) only[IntWalk.i64_in]<;>omega))|rfl) ?_));have hcb:qo v' c:=by
   rcases hg with⟨_,rfl⟩|⟨b',wz,_,rfl,_⟩
   ·intro o n k op e;cases e
   ·intro o n k op e;cases e;omega
  rw[a4 c (Nat.lt_of_lt_of_le hc fr.next) hcb];exact fr.keep c hc (by simp)
 ·have hge:i=L.length:=by have:=of_decide_eq_false hc;omega
  subst hge;rw[List.take_length] at hg;exact hQ h v' _ fr hg rfl
theorem HF{h:Heap}{m:Nat}{S:List Nat}{L:List Id}(hr:MR h m S L)(hl:L.length≤64){Q:AV→Heap→Prop}(hQ:∀h' v,dr h.next h' v (oe L)→Fr h h' []→Q v h'):VD fs ms 24 [.ptr m 0] h Q:=by
 refine bC (af:=RH) rfl (Nat.le_of_ble_eq_true rfl) ?_;conv=>whnf
 refine aa true ?_;conv=>whnf
 refine aa true ?_;conv=>whnf
 refine aJ (aa true ?_);conv=>whnf
 refine aG ?_;refine Nk hr hl ?_ _ 0 h .aN _ rfl (Nat.zero_le _) (Fr.refl _ _) (.inl ⟨rfl,rfl⟩) (by repeat' (first|exact trivial|refine And.intro (by first|with_reducible_and_instances rfl|(refine Eq.trans (b:=some (AV.int .i64 _)) rfl (congrArg (fun z=>some (AV.int .i64 z)) ?_);first|omega|(simp(disch:=omega) only[IntWalk.i64_in]<;>omega))|rfl) ?_));intro h' v' e' fr hi h3;show VC fs ms _ _ _ _ _ _;refine an 4 [(3,v')] ⟨h3,trivial⟩ (aq (z:=true) ?_);conv=>whnf
 exact hQ h' v' hi fr
structure BR(h:Heap)(k p:Nat)(S:List Nat)(L:List Id)(m:Nat)(T:List Nat)(M:List Id):Prop where
 ra:∃P,mG h k p S L P
 rm:MR h m T M
 pw:Pw M
 mem:∀y,y∈M↔y∈L
 EB:∀c∈S,c∉T
variable {h:Heap} {k p m:Nat} {S T:List Nat} {L M:List Id}
theorem Pw.nd{M:List Id}(h:Pw M):M.Nodup:=List.Pairwise.imp (fun{a b} hab e=>by subst e;exact Dl a hab) h
theorem BR.len(H:BR h k p S L m T M):M.length=L.length:=by
 obtain⟨P,hr⟩:=H.ra;exact vv H.pw.nd hr.pl.nd H.mem
theorem BR.vq(H:BR h k p S L m T M):M.length≤64:=by
 obtain⟨P,hr⟩:=H.ra;rw[H.len];exact hr.pl.mj
theorem BR.uniq(H:BR h k p S L m T M):∀x∈M,∀y∈M,x.1=y.1→x=y:=by
 obtain⟨P,hr⟩:=H.ra;exact fun x hx y hy e=>hr.pl.uniq ((H.mem x).1 hx) ((H.mem y).1 hy) e
theorem BR.keep{h':Heap}(H:BR h k p S L m T M)(fr:Fr h h' []):BR h' k p S L m T M:=by
 obtain⟨P,hr⟩:=H.ra;exact⟨⟨P,hr.keep fr (by simp)⟩,H.rm.keep fr (by simp),H.pw,H.mem,H.EB⟩
theorem BR.mid{h1:Heap}{S1:List Nat}(H:BR h k p S L m T M)(o:Own h h1 S S1):MR h1 m T M∧∀c∈S1,c∉T:=by
 have hd:∀c∈T,c∉S:=fun c hc hs=>H.EB c hs hc;exact⟨H.rm.keep o.fr hd,fun c hc ht=>o.LA (fun c hc=>H.rm.own c hc) hd c ht hc⟩
theorem BR.join{h1 h2:Heap}{S1 T1:List Nat}{L1 M1:List Id}{P1:Nat→Nat}(r1:mG h1 k p S1 L1 P1)(d1:∀c∈S1,c∉T)(r2:MR h2 m T1 M1)(o2:Own h1 h2 T T1)(pw:Pw M1)(mem:∀y,y∈M1↔y∈L1):BR h2 k p S1 L1 m T1 M1:=by
 refine⟨⟨P1,r1.keep o2.fr d1⟩,r2,pw,mem,fun c hc ht=>?_⟩;rcases o2.new c ht with h|h
 ·exact d1 c hc h
 ·have:=r1.own.2.2 c hc;omega
theorem Hi{L:List Id}(hu:∀x∈L,∀y∈L,x.1=y.1→x=y){x y:Id}(hx:NY L x)(hy:NY L y):x=y:=by
 have a1:=eJ.1 (hx.2 _ hy.1);have a2:=eJ.1 (hy.2 _ hx.1);exact hu _ hx.1 _ hy.1 (by omega)
theorem U8{M:List Id}(hp:Pw M)(h0:0<M.length):NY M (gI M 0):=by
 refine⟨bZ.2 ⟨0,h0,rfl⟩,fun y hy=>?_⟩;obtain⟨i,hi,rfl⟩:=bZ.1 hy;rcases Nat.eq_zero_or_pos i with rfl|hp0
 ·rw[eJ];omega
 ·have:=(List.pairwise_iff_getElem.1 hp) 0 i h0 hi hp0;rw[dB h0,dB hi];exact nX this
theorem BR.f(H:BR h k p S L m T M){x:Id}(hx:NY L x)(h0:0<M.length):x=gI M 0:=by
 obtain⟨P,hr⟩:=H.ra;have hm:=U8 H.pw h0;exact Hi (fun x hx y hy e=>hr.pl.uniq hx hy e) hx ⟨(H.mem _).1 hm.1,fun y hy=>hm.2 y ((H.mem y).2 hy)⟩
theorem vC{L:List Id}{i:Nat}:∀z,z∈oK (i:Int) L↔z∈L∧z.1≠i:=by
 intro z;rw[oK,List.mem_filter];simp only[decide_eq_true_eq];exact⟨fun⟨a,b⟩=>⟨a,fun e=>b (by rw[e])⟩,fun⟨a,b⟩=>⟨a,fun e=>b (by omega)⟩⟩
theorem lK{h:Heap}{S:List Nat}:Own h h S S:=⟨Fr.refl _ _,fun b hb=>.inl hb⟩
theorem BR.put(H:BR h k p S L m T M)(id key:Int):∃e:Int,∀{Q:AV→Heap→Prop},
  (∀h1 S1,Own h h1 S S1→(∀{Q2:AV→Heap→Prop},(∀h2 L2 T2 M2,BR h2 k p S1 L2 m T2 M2→Fr h1 h2 T→Q2 (.int .i64 e) h2)→VD fs ms 51 [.ptr m 0,.int .i64 id,.int .i64 key] h1 Q2)→Q (.int .i64 e) h1)→
  VD fs ms 14 [.ptr k 0,.int .i64 id,.int .i64 key] h Q:=by
 obtain⟨P,hr⟩:=H.ra;have vq:=H.vq;by_cases c1:id<0∨64≤id
 ·refine⟨9,fun{Q} hQ=>uc hr id key (fun _=>hQ h S lK fun{Q2} h2=>Cz H.rm vq H.pw id key (fun _=>h2 h L T M H (Fr.refl _ _)) (fun y hy e=>?_) fun i hi xK=>by omega) (fun y hy e=>?_) fun i hi xK=>by omega⟩
  ·obtain⟨j,hj,rfl⟩:=bZ.1 ((H.mem y).1 hy);have:=hr.pl.small j hj;omega
  ·obtain⟨j,hj,rfl⟩:=bZ.1 hy;have:=hr.pl.small j hj;omega
 by_cases c2:∃y∈L,id=y.1
 ·obtain⟨y,hy,e⟩:=c2;refine⟨141,fun{Q} hQ=>uc hr id key (fun h=>absurd h c1) (fun _ _ _=>hQ h S lK fun{Q2} h2=>Cz H.rm vq H.pw id key (fun h=>absurd h c1) (fun _ _ _=>h2 h L T M H (Fr.refl _ _)) fun i hi xK hn=>?_) fun i hi xK hn=>?_⟩
  ·exact absurd (show y.1=i by omega) (hn y ((H.mem y).2 hy))
  ·exact absurd (show y.1=i by omega) (hn y hy)
 ·refine⟨0,fun{Q} hQ=>uc hr id key (fun h=>absurd h c1) (fun y hy e=>absurd ⟨y,hy,e⟩ c2) fun i hi xK hn h1 S1 L1 P1 r1 r2 r3=>?_⟩;obtain⟨NC,d1⟩:=H.mid r3;refine hQ h1 S1 r3 fun{Q2} h2=>Cz NC vq H.pw id key (fun h=>absurd h c1) (fun y hy e=>absurd ⟨y,(H.mem y).1 hy,e⟩ c2) fun i' hi' _ _ pN T2 M2 q1 q2 q3 q4=>?_;obtain rfl:i=i':=by omega
  exact h2 pN L1 T2 M2 (BR.join r1 d1 q1 q4 q2 fun y=>by rw[q3,r2,H.mem]) q4.fr
theorem BR.lower(H:BR h k p S L m T M)(id key:Int):∃e:Int,∀{Q:AV→Heap→Prop},
  (∀h1 S1,Own h h1 S S1→(∀{Q2:AV→Heap→Prop},(∀h2 L2 T2 M2,BR h2 k p S1 L2 m T2 M2→Fr h1 h2 T→Q2 (.int .i64 e) h2)→VD fs ms 52 [.ptr m 0,.int .i64 id,.int .i64 key] h1 Q2)→Q (.int .i64 e) h1)→
  VD fs ms 15 [.ptr k 0,.int .i64 id,.int .i64 key] h Q:=by
 obtain⟨P,hr⟩:=H.ra;have vq:=H.vq;have sm:∀y∈L,y.1<64:=fun y hy=>by obtain⟨j,hj,rfl⟩:=bZ.1 hy;exact hr.pl.small j hj
 by_cases c1:id<0∨64≤id
 ·refine⟨9,fun{Q} hQ=>pQ hr id key (fun _=>hQ h S lK fun{Q2} h2=>si H.rm vq H.pw H.uniq id key (fun _=>h2 h L T M H (Fr.refl _ _)) (fun hn=>absurd c1 hn) (fun y e hy=>?_) fun y e hy=>?_) (fun hn=>absurd c1 hn) (fun y e hy=>?_) fun y e hy=>?_⟩
  ·have:=sm y ((H.mem y).1 hy);omega
  ·have:=sm y ((H.mem y).1 hy);omega
  ·have:=sm y hy;omega
  ·have:=sm y hy;omega
 by_cases c2:∃y∈L,id=y.1
 ·obtain⟨y,hy,e⟩:=c2;have ey:∀z∈L,id=(z.1:Int)→z=y:=fun z hz e2=>hr.pl.uniq hz hy (by omega);by_cases c3:y.2<key
  ·refine⟨2,fun{Q} hQ=>pQ hr id key (fun h=>absurd h c1) (fun _ hn=>absurd e (hn y hy)) (fun _ _ _ _=>hQ h S lK fun{Q2} h2=>si H.rm vq H.pw H.uniq id key (fun h=>absurd h c1) (fun _ hn=>absurd e (hn y ((H.mem y).2 hy))) (fun _ _ _ _=>h2 h L T M H (Fr.refl _ _)) fun z e2 hz hle=>?_) fun z e2 hz hle=>?_⟩
   ·have:=ey z ((H.mem z).1 hz) e2;subst this;omega
   ·have:=ey z hz e2;subst this;omega
  ·refine⟨0,fun{Q} hQ=>pQ hr id key (fun h=>absurd h c1) (fun _ hn=>absurd e (hn y hy)) (fun z e2 hz hlt=>?_) fun z e2 hz hle h1 S1 L1 P1 r1 r2 r3=>?_⟩
   ·have:=ey z hz e2;subst this;exact absurd hlt c3
   ·have:=ey z hz e2;subst this;obtain⟨NC,d1⟩:=H.mid r3;refine hQ h1 S1 r3 fun{Q2} h2=>si NC vq H.pw H.uniq id key (fun h=>absurd h c1) (fun _ hn=>absurd e (hn z ((H.mem z).2 hy))) (fun w e3 hw hlt=>?_) fun w e3 hw hle' pN T2 M2 q1 q2 q3 q4=>?_
    ·have:=ey w ((H.mem w).1 hw) e3;subst this;exact absurd hlt c3
    ·have:=ey w ((H.mem w).1 hw) e3;subst this;exact h2 pN L1 T2 M2 (BR.join r1 d1 q1 q4 q2 fun y=>by rw[q3,r2,H.mem]) q4.fr
 ·refine⟨8,fun{Q} hQ=>pQ hr id key (fun h=>absurd h c1) (fun _ _=>hQ h S lK fun{Q2} h2=>si H.rm vq H.pw H.uniq id key (fun h=>absurd h c1) (fun _ _=>h2 h L T M H (Fr.refl _ _)) (fun y e hy=>?_) fun y e hy=>?_) (fun y e hy=>?_) fun y e hy=>?_⟩
  ·exact absurd ⟨y,(H.mem y).1 hy,e⟩ c2
  ·exact absurd ⟨y,(H.mem y).1 hy,e⟩ c2
  ·exact absurd ⟨y,hy,e⟩ c2
  ·exact absurd ⟨y,hy,e⟩ c2
theorem BR.remove(H:BR h k p S L m T M)(id:Int):∃e:Bool,∀{Q:AV→Heap→Prop},
  (∀h1 S1,Own h h1 S S1→(∀{Q2:AV→Heap→Prop},(∀h2 L2 T2 M2,BR h2 k p S1 L2 m T2 M2→Fr h1 h2 T→Q2 (.bool e) h2)→VD fs ms 53 [.ptr m 0,.int .i64 id] h1 Q2)→Q (.bool e) h1)→
  VD fs ms 16 [.ptr k 0,.int .i64 id] h Q:=by
 obtain⟨P,hr⟩:=H.ra;have vq:=H.vq;by_cases c2:∃y∈L,id=y.1
 ·obtain⟨y,hy,e⟩:=c2;refine⟨true,fun{Q} hQ=>oT hr id (fun hn=>absurd e (hn y hy)) fun z e2 hz h1 S1 L1 P1 r1 r2 r3=>?_⟩;obtain⟨NC,d1⟩:=H.mid r3;subst e2;refine hQ h1 S1 r3 fun{Q2} h2=>zj NC vq _ fun pN T2 q1 q2=>?_;have V8:=(H.mem z).2 hz;have hlt:(oK (z.1:Int) M).length<M.length:=by
   have h1:(oK (z.1:Int) M).length+1=M.length:=zf (List.Nodup.sublist List.filter_sublist H.pw.nd) H.pw.nd V8 (fun w hw e=>H.uniq w hw z V8 e) vC;omega
  rw[show decide (((oK (z.1:Int) M).length:Int)<((M.length:Nat):Int))=true from decide_eq_true (by omega)];exact h2 pN L1 T2 _ (BR.join r1 d1 q1 q2 (List.Pairwise.sublist List.filter_sublist H.pw) fun y=>by rw[vC,r2,H.mem]) q2.fr
 ·refine⟨false,fun{Q} hQ=>oT hr id (fun hn=>hQ h S lK fun{Q2} h2=>zj H.rm vq _ fun pN T2 q1 q2=>?_) fun z e2 hz=>absurd ⟨z,hz,e2⟩ c2⟩;have hM:oK id M=M:=List.filter_eq_self.2 fun y hy=>decide_eq_true fun e=>c2 ⟨y,(H.mem y).1 hy,e.symm⟩;rw[hM] at q1⊢;rw[show decide (((M.length:Nat):Int)<((M.length:Nat):Int))=false from decide_eq_false (by omega)];exact h2 pN L T2 M (BR.join hr H.EB q1 q2 H.pw H.mem) q2.fr
theorem BR.pop(H:BR h k p S L m T M):∃(x y:Int) (c:Bool),∀{Q:AV→Heap→Prop},
  (∀h1 S1,Own h h1 S S1→(∀{Q2:AV→Heap→Prop},(∀h2 L2 T2 M2,BR h2 k p S1 L2 m T2 M2→Fr h1 h2 T→Q2 (.cg [.int .i64 x,.int .i64 y,.bool c]) h2)→VD fs ms 54 [.ptr m 0] h1 Q2)→Q (.cg [.int .i64 x,.int .i64 y,.bool c]) h1)→
  VD fs ms 18 [.ptr k 0] h Q:=by
 obtain⟨P,hr⟩:=H.ra;have vq:=H.vq;have hlen:=H.len;by_cases hM:M=[]
 ·have hL:L=[]:=List.eq_nil_of_length_eq_zero (by rw[←hlen,hM];rfl);refine⟨0,0,false,fun{Q} hQ=>D7 hr (fun _=>hQ h S lK fun{Q2} h2=>HB H.rm vq (fun _=>h2 h L T M H (Fr.refl _ _)) fun h0=>?_) fun x hx=>?_⟩
  ·rw[hM] at h0;simp at h0
  ·have:=hx.1;rw[hL] at this;simp at this
 ·have h0:0<M.length:=List.length_pos_iff.2 hM;refine⟨((gI M 0).1:Int),(gI M 0).2,true,fun{Q} hQ=>D7 hr (fun hL=>?_) fun x hx h1 S1 L1 P1 r1 _ r2 r3=>?_⟩
  ·rw[hL] at hlen;simp at hlen;exact absurd hlen hM
  ·have ex:=H.f hx h0;obtain⟨NC,d1⟩:=H.mid r3;rw[ex];refine hQ h1 S1 r3 fun{Q2} h2=>HB NC vq (fun h=>absurd h hM) fun _ pN T2 q1 q2=>?_;exact h2 pN L1 T2 _ (BR.join r1 d1 q1 q2 (List.Pairwise.sublist List.filter_sublist H.pw) fun y=>by rw[vC,r2,H.mem,ex]) q2.fr
end Ir
end Go.Proofs.Ytenafeojcgmnhaa
