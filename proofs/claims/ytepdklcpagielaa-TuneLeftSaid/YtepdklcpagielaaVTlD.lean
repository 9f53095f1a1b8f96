/-
  Tune: partitions that are given budgets, as the document has it.
-/
import Derived.Test.YtepdklcpagielaaVTlC
set_option maxRecDepth 100000
set_option linter.unusedSimpArgs false
set_option linter.unusedVariables false
namespace Go.Proofs.Ytepdklcpagielaa
open Go Ads
namespace Ads
theorem FM{h:Heap}{b c:Nat}(hn:c≠b):(h.del b).get c=h.get c:=by rw[Heap.dn,if_neg hn]
theorem TJ{h:Heap}{b s n cap:Nat}{op wr:Bool}{es:Nat}{cs:List AV}(hg:h.get b=some (.cells cs wr es))(hl:cs.length=n*s):iw s h (.sl b 0 n cap op)=some (n,cs):=by
 have b1:Nat.ble (0+n*s) cs.length=true:=Nat.ble_eq_true_of_le (by omega);show(h.bn b 0 (n*s)).map _=_;have:h.bn b 0 (n*s)=some cs:=by
  simp only[Heap.bn,Heap.row,hg,b1,cond_true,List.drop_zero];rw[←hl,List.take_length]
 rw[this];rfl
theorem Oz{h:Heap}{s bytes b m:Nat}{vs cs:List AV}{x:AV}(hg:h.get b=some (.cells vs true s))(hv:vs.length=m*s)(hsrc:iw s h x=some (1,cs))(hf:bx cs=true)(hb:bytes≤1048576)(hm:m≤1048576):
  eV (.append s bytes) [.sl b 0 m m true,x] h=some (.sl h.next 0 (m+1) (m+1) true,(h.del b).new (.cells (vs++cs) true s)):=by
 have hmu:(m+1)*bytes≤1048577*1048576:=Nat.mul_le_mul (by omega) hb;have b1:Nat.ble (m+1) m=false:=by cases hb:Nat.ble (m+1) m with|false=>rfl|true=>(have:=Nat.le_of_ble_eq_true hb;omega)
 have b2:Nat.ble ((m+1)*bytes) 140737488355328=true:=Nat.ble_eq_true_of_le (by omega);have b3:Nat.ble (m+1) 9223372036854775807=true:=Nat.ble_eq_true_of_le (by omega);have b4:Nat.ble (0+m*s) vs.length=true:=Nat.ble_eq_true_of_le (by omega);have b5:Nat.beq vs.length (0+m*s)=true:=by rw[hv,Nat.zero_add];exact Nat.beq_refl _
 have AB:h.bn b 0 (m*s)=some vs:=by
  simp only[Heap.bn,Heap.row,hg,b4,cond_true,List.drop_zero];rw[←hv,List.take_length]
 simp only[eV,l2,hsrc];show cond (bx cs) _ _=_;rw[hf,cond_true];show cond (Nat.beq 1 0&&Nat.ble m m) _ _=_;rw[show Nat.beq 1 0=false from rfl,Bool.false_and,cond_false,b1,cond_false,b2,b3,Bool.and_self,cond_true,hg,AB];show cond true (cond (true&&Nat.beq vs.length (0+m*s)&&Nat.beq m m&&Nat.beq s s) _ _) _=_;rw[b5,Nat.beq_refl,Nat.beq_refl];rfl
end Ads
namespace Ir
def PR(lo:Nat)(h:Heap)(v:AV)(M:List Pt):Prop:=(M=[]∧v=.aD)∨∃b,lo≤b∧b<h.next∧v=.sl b 0 M.length M.length true∧h.get b=some (.cells (ai (pts M)) true 3)
theorem PR.keep{lo:Nat}{h h':Heap}{v:AV}{M:List Pt}(hr:PR lo h v M)(fr:Fr h h' []):PR lo h' v M:=by
 rcases hr with hr|⟨b,h1,h2,h3,h4⟩
 ·exact .inl hr
 ·exact .inr ⟨b,h1,Nat.lt_of_lt_of_le h2 fr.next,h3,by rw[fr.keep b h2 (by simp)];exact h4⟩
theorem PR.JT{lo:Nat}{h:Heap}{v:AV}{M:List Pt}(hr:PR lo h v M):∃k,jo (fun _=>True) h v (.fz k (pts M)):=by
 rcases hr with⟨rfl,rfl⟩|⟨b,h1,h2,rfl,h4⟩
 ·exact⟨3,.aD⟩
 ·exact⟨0,gW trivial h4 rfl (fE M) (bh M).symm (bz M)⟩
theorem PR.app{lo:Nat}{h:Heap}{v:AV}{M:List Pt}(hr:PR lo h v M)(hlo:lo≤h.next)(hl:M.length≤1000)(x:Pt):∃v' g',eV (.append 3 40) [v,.sl h.next 0 1 1 false] (h.new (.cells (pt x).cells true 0))=some (v',g')∧
  PR lo g' v' (M++[x])∧h.next≤g'.next∧∀c,c<lo→g'.get c=h.get c:=by
 have hsrc:iw 3 (h.new (.cells (pt x).cells true 0)) (.sl h.next 0 1 1 false)=some (1,(pt x).cells):=TJ an rfl;have Cx:ai (pts (M++[x]))=ai (pts M)++(pt x).cells:=by rw[pts,List.map_append,kE];simp[ai,pts]
 rcases hr with⟨h1,h2⟩|⟨b,h1,h2,h3,h4⟩
 ·subst h1 h2;refine⟨_,_,sI (by omega) hsrc rfl,.inr ⟨h.next+1,by omega,Nat.lt_succ_self _,rfl,?_⟩,by show h.next≤h.next+1+1;omega,fun c hc=>?_⟩
  ·exact an (h:=h.new (.cells (pt x).cells true 0))
  ·exact(aO (h:=h.new (.cells (pt x).cells true 0)) (show c<h.next+1 by omega)).trans (aO (by omega))
 ·subst h3;have hg:(h.new (.cells (pt x).cells true 0)).get b=some (.cells (ai (pts M)) true 3):=by rw[aO h2];exact h4
  refine⟨_,_,Oz hg (by rw[c9 (fE M),bh]) hsrc rfl (by omega) (by omega),.inr ⟨h.next+1,by omega,Nat.lt_succ_self _,by rw[List.length_append];rfl,?_⟩,by show h.next≤h.next+1+1;omega,fun c hc=>?_⟩
  ·have:=an (h:=(h.new (.cells (pt x).cells true 0)).del b) (x:=.cells (ai (pts M)++(pt x).cells) true 3);rw[show((h.new (.cells (pt x).cells true 0)).del b).next=h.next+1 from rfl] at this;rw[this,Cx]
  ·have hne:c≠b:=by omega
   exact(aO (h:=(h.new (.cells (pt x).cells true 0)).del b) (show c<h.next+1 by omega)).trans ((FM hne).trans (aO (by omega)))
theorem Qe{k kb:Nat}{L:List Pt}{bs:List Int}{h0:Heap}(hK:AU L)(hb:bs.length=L.length)(hl:L.length≤900){B:Nat}{Q:AX→Env→Heap→Prop}
  (hQ:∀e' h' v,PR h0.next h' v (wL L bs)→Fr h0 h' []→Tr.get e' 6=some v→Q (.exit 0) e' h'):
  ∀(m j:Nat) (h:Heap) (v:AV) (env:Env),L.length-j=m→j≤L.length→PR h0.next h v ((wL L bs).take j)→Fr h0 h []→aP env [(0,.fz k (pts L)),(1,.fz kb (ints bs)),(6,v),(7,.int .i64 ((j:Nat):Int))]→
  VC fs ms B false (.loop jG) env h Q:=by
 intro m;induction m using Nat.strongRecOn with
 |ind m ih=>
 intro j h v env hm hj hr fr cH;refine ak 4 _ cH ?_;refine bJ (aj true ?_);conv=>whnf
 rw[bh];refine br (fun hc=>?_) (fun hc=>?_)<;>(try rw[hc])<;>(conv=>whnf)
 ·have hlt:j<L.length:=by have:=of_decide_eq_true hc;omega
  have hlb:j<bs.length:=by omega
  have rG:=gH (k:=k) hlt;have Pb:=jR (l:=bs) (j:=j) (k:=kb) hlb;have Zj:=C9 hb;have xP:(wL L bs).take (j+1)=(wL L bs).take j++[wP L[j] bs[j]]:=by rw[eY (by omega),GX j (by omega) hlt hlb]
  obtain⟨k1,k2⟩:=hK _ (List.getElem_mem hlt);generalize L[j]=x at*;generalize bs[j]=d at*;obtain⟨cJ,cn,kk,ts⟩:=x;simp only at k1 k2;subst k1;refine az (aL ?_);refine aj true ?_;conv=>whnf
  refine⟨_,rG,?_⟩;conv=>whnf
  refine⟨.agg [.int .i64 cJ,.int .i64 cn,.fz (gv ts.length) (dI ts)],rfl,?_⟩;conv=>whnf
  refine aT (cD an rfl (Nat.le_refl _) rfl) fun h1 e1=>?_;conv=>whnf
  have JV:h1.get h.next=some (.cells [.int .i64 cJ,.int .i64 cn,.fz (gv ts.length) (dI ts)] true 0):=by rw[e1,aG];rfl
  have cT:Fr h h1 []:=by rw[e1];exact((Fr.refl h []).new (x:=_)).lD (Nat.le_refl _)
  have nx1:h.next<h1.next:=by rw[e1];exact Nat.lt_succ_self _
  clear e1;refine aj true ?_;conv=>whnf
  refine⟨_,Pb,?_⟩;conv=>whnf
  refine⟨.int .i64 d,rfl,?_⟩;conv=>whnf
  refine aT (cD (n:=1) (v:=.int .i64 d) JV rfl (by simp) rfl) fun h2 e2=>?_;conv=>whnf
  have qM:h2.get h.next=some (.cells [.int .i64 cJ,.int .i64 d,.fz (gv ts.length) (dI ts)] true 0):=by rw[e2,aG];rfl
  have fq:Fr h h2 []:=by rw[e2];exact cT.lD (Nat.le_refl _)
  have nx2:h.next<h2.next:=by rw[e2];exact nx1
  clear e2;refine aj true ?_;conv=>whnf
  refine aj true ?_;conv=>whnf
  refine⟨_,bA qM rfl,?_⟩;conv=>whnf
  have Le:∃u h3,eV (.append 8 64) [.aD,.fz (gv ts.length) (dI ts)] h2=some (u,h3)∧u.cells=[u]∧u.flat=true∧Fr h h3 []∧h3.get h.next=h2.get h.next∧h2.next≤h3.next∧
    ∃bl:List Nat,(∀b∈bl,h2.next≤b)∧∀h4:Heap,(∀c,c≠h.next→h4.get c=h3.get c)→jo (· ∈h.next::bl) h4 u (.fz (gv ts.length) (dI ts)):=by
   cases ts with
   |nil=>exact⟨.aD,h2,AZ (nx:=h2.next) (tr:=h2.m) (qB (l:=dI []) rfl) rfl,rfl,rfl,fq,rfl,Nat.le_refl _,[],by simp,fun h4 _=>.aD⟩
   |cons t0 tr=>
    refine⟨_,_,A1 (nx:=h2.next) (tr:=h2.m) (n:=tr.length) (by omega) (by simp at k2;omega) ((qB (iX (t0::tr))).trans (by rw[bM];rfl)) (uW (t0::tr)),rfl,rfl,fq.new (x:=.cells (ai (dI (t0::tr))) true 8),aO (h:=h2) nx2,Nat.le_succ _,[h2.next],by simp,fun h4 hk=>?_⟩;refine gW (wr:=true) (es:=8) (s:=8) (by simp) ?_ rfl (iX _) (by rw[bM];rfl) (cq _);rw[hk _ (by omega)];exact an (h:=h2)
  obtain⟨u,h3,a1,a2,a3,iB,g3,n3,bl,b1,b2⟩:=Le;refine aT a1 fun JW e3=>?_;subst e3;conv=>whnf
  rw[←g3] at qM;refine aT (cD (n:=1) (v:=u) qM (by rw[a2];rfl) (by simp) (by rw[a2];simp[bx,a3])) fun h4 e4=>?_;conv=>whnf
  have vK:h4.get h.next=some (.cells [.int .i64 cJ,.int .i64 d,u] true 0):=by rw[e4,aG,a2];rfl
  have jY:Fr h h4 []:=by rw[e4];exact iB.lD (Nat.le_refl _)
  have Sx:∀c,c≠h.next→h4.get c=JW.get c:=fun c hc=>by rw[e4,bB hc]
  have n4:h4.next=JW.next:=by rw[e4];rfl
  clear e4;refine dV (h.next::bl) (i:=8) (v':=.fp [.int .i64 cJ,.int .i64 d,.fz (gv ts.length) (dI ts)] 0) rfl (.ptr' (by simp) vK (.cons (.clean rfl) (.cons (.clean rfl) (.cons (b2 h4 Sx) .nil)))) ?_;have k9:Fr h (ck (h.next::bl) h4) []:=R7 (T:=[]) (fun b hb=>by
   rcases List.mem_cons.1 hb with rfl|hb
   ·exact .inl (Nat.le_refl _)
   ·have:=b1 b hb;exact .inl (by omega)) jY
  generalize ck (h.next::bl) h4=h5 at*;refine ak 4 [(0,.fz k (pts L)),(1,.fz kb (ints bs)),(6,v),(7,.int .i64 ((j:Nat):Int)),(8,.fp [.int .i64 cJ,.int .i64 d,.fz (gv ts.length) (dI ts)] 0)] ⟨rfl,rfl,rfl,rfl,rfl,trivial⟩ ?_;refine aa (z:=true) ?_;conv=>whnf
  refine⟨pt ⟨cJ,d,gv ts.length,ts⟩,rfl,?_⟩;conv=>whnf
  have Ze:=hr.keep k9;have rC:Fr h0 h5 []:=fr.trans k9;obtain⟨v6,h6,c1,c2,c3,c4⟩:=Ze.app rC.next (by rw[List.length_take];omega) ⟨cJ,d,gv ts.length,ts⟩;refine aT c1 fun O7 e6=>?_;subst e6;conv=>whnf
  refine aa (z:=true) ?_;conv=>whnf
  refine ih (L.length-(j+1)) (by omega) (j+1) O7 v6 _ rfl (by omega) (by rw[xP];exact c2) ⟨Nat.le_trans rC.next c3,fun c hc _=>by rw[c4 c hc];exact rC.keep c hc (by simp)⟩ ⟨rfl,rfl,rfl,ay (by omega),trivial⟩
 ·have hge:j=L.length:=by have:=of_decide_eq_false hc;omega
  subst hge;rw[List.take_of_length_le (by rw[C9 hb];omega)] at hr;exact hQ _ h v hr fr rfl
theorem HT{h:Heap}{k kb:Nat}{L:List Pt}{bs:List Int}(hK:AU L)(hb:bs.length=L.length)(hl:L.length≤900){Q:AV→Heap→Prop}
  (hQ:∀h' v,PR h.next h' v (wL L bs)→Fr h h' []→Q (.cQ [v,.int .i64 0]) h'):VD fs ms 32 [.fz k (pts L),.fz kb (ints bs)] h Q:=by
 refine bw (af:=UH) rfl (Nat.le_of_ble_eq_true rfl) ?_;conv=>whnf
 refine aj true ?_;conv=>whnf
 refine aj true ?_;conv=>whnf
 rw[bh,cu,hb];rw[show(((L.length:Nat):Int)!=((L.length:Nat):Int))=false by simp];conv=>whnf
 refine aj true ?_;conv=>whnf
 refine az (aj true ?_);conv=>whnf
 refine aL ?_;refine Qe (k:=k) (kb:=kb) hK hb hl ?_ _ 0 h .aD _ rfl (Nat.zero_le _) (.inl ⟨rfl,rfl⟩) (Fr.refl _ _) ⟨rfl,rfl,rfl,rfl,trivial⟩;intro e' h' v hr fr g6;show VC fs ms _ _ _ _ _ _;refine ak 4 [(6,v)] ⟨g6,trivial⟩ (aa (z:=true) ?_);conv=>whnf
 exact hQ h' v hr fr
end Ir
end Go.Proofs.Ytepdklcpagielaa
