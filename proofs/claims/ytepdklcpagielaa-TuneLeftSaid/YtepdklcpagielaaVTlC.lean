/-
  Tune: partitions that are given budgets, as blocks.
-/
import Derived.Test.YtepdklcpagielaaVTlB
set_option maxRecDepth 100000
set_option linter.unusedSimpArgs false
set_option linter.unusedVariables false
namespace Go.Proofs.Ytepdklcpagielaa
open Go Ads
namespace Ir
def wP(x:Pt)(b:Int):Pt:=⟨x.cJ,b,gv x.ts.length,x.ts⟩
def wL(L:List Pt)(bs:List Int):List Pt:=List.zipWith wP L bs
theorem C9{L:List Pt}{bs:List Int}(h:bs.length=L.length):(wL L bs).length=L.length:=by rw[wL,List.length_zipWith,h,Nat.min_self]
theorem GX{L:List Pt}{bs:List Int}(i:Nat)(h:i<(wL L bs).length)(h1:i<L.length)(h2:i<bs.length):(wL L bs)[i]=wP L[i] bs[i]:=by simp[wL]
theorem R7{h:Heap}{bs T:List Nat}(hb:∀b∈bs,h.next≤b∨b∈T){h1:Heap}(fr:Fr h h1 T):Fr h (ck bs h1) T:=by
 refine⟨by rw[dP];exact fr.next,fun c hc hn=>?_⟩;rw[jW,if_neg (fun hm=>by rcases hb c hm with h2|h2<;>first|omega|exact hn h2)]
 exact fr.keep c hc hn
def TV(h:Heap)(b:Nat)(tv:AV)(ts:List Tk):Prop:=(ts=[]∧tv=.aD)∨(ts≠[]∧∃c,tv=.sl c 0 ts.length ts.length true∧c≠b∧c<h.next∧h.get c=some (.cells (ai (dI ts)) true 8))
theorem TV.keep{h h':Heap}{b:Nat}{tv:AV}{ts:List Tk}{T:List Nat}(t:TV h b tv ts)(fr:Fr h h' T)(hT:∀c∈T,c=b):TV h' b tv ts:=by
 rcases t with t|⟨hne,c,h1,h2,h3,h4⟩
 ·exact .inl t
 ·exact .inr ⟨hne,c,h1,h2,Nat.lt_of_lt_of_le h3 fr.next,by rw[fr.keep c h3 (fun hm=>h2 (hT c hm))];exact h4⟩
theorem KC{h:Heap}{b:Nat}(hb:b<h.next)(ts:List Tk)(hl:ts.length≤1000){Q:AV→Heap→Prop}(hQ:∀h' tv,TV h' b tv ts→Fr h h' []→Q tv h'):VD fs ms 52 [.fz (gv ts.length) (dI ts)] h Q:=by
 refine aC (af:=XT) true rfl (Nat.le_of_ble_eq_true rfl) ?_;cases ts with
 |nil=>
  conv=>whnf
  exact hQ h _ (.inl ⟨rfl,rfl⟩) (Fr.refl h [])
 |cons t0 tr=>
  conv=>whnf
  refine aT (Ce (s:=8) (bytes:=64) (n:=tr.length) (b:=h.next) (nx:=h.next+1) (cs:=ai (dI (t0::tr))) an (by omega) (by simp at hl;omega) ((qB (k:=0) (iX (t0::tr))).trans (by rw[bM];rfl)) (uW (t0::tr))) fun h1 e1=>?_;conv=>whnf
  refine hQ h1 _ (.inr ⟨by simp,h.next+1,rfl,by omega,by rw[e1];exact Nat.lt_succ_self _,?_⟩) ?_
  ·rw[e1];exact an (h:=h.new _)
  ·rw[e1];exact(Fr.refl h []).new.new
structure XW(h:Heap)(b:Nat)(L:List Pt)(bs:List Int)(j:Nat):Prop where
 lb:b<h.next
 ex:∃C,h.get b=some (.cells C true 3)∧C.length=L.length*3∧∀(i:Nat) (hi:i<L.length),C[i*3]?=some (.int .i64 L[i].cJ)∧
  (i<j→C[i*3+1]?=some (.int .i64 (bs.getD i 0))∧∃tv,C[i*3+2]?=some tv∧TV h b tv L[i].ts)∧(j≤i→C[i*3+1]?=some (.int .i64 L[i].cn)∧C[i*3+2]?=some (.fz L[i].k (dI L[i].ts)))
theorem CN{l:List Pt}{i:Nat}(h:i<l.length)(r:Nat)(c:AV)(hr:(pt l[i]).cells[r]?=some c):(ai (pts l))[i*3+r]?=some c:=by
 refine p9 (fE l) (x:=pt l[i]) ?_ hr;rw[pts,List.getElem?_map,List.getElem?_eq_getElem h];rfl
theorem Bt:∀l:List Pt,bx (ai (pts l))=true
 |[]=>rfl
 |x::l=>by
  show bx (.int .i64 x.cJ::.int .i64 x.cn::.fz x.k (dI x.ts)::ai (pts l))=true;simp only[bx,AV.flat,cond_true];exact Bt l
def AU(L:List Pt):Prop:=∀x,x∈L→x.k=gv x.ts.length∧x.ts.length≤1000
theorem CU{C:List AV}{o q:Nat}{x:AV}(ho:o<C.length):(C.set o x)[q]?=if o=q then some x else C[q]?:=by
 rw[List.getElem?_set];by_cases e:o=q
 ·rw[if_pos e,if_pos e,if_pos ho]
 ·rw[if_neg e,if_neg e]
theorem Ua{kb n:Nat}{L:List Pt}{bs:List Int}{b:Nat}{h0:Heap}(hK:AU L)(hn:L.length=n)(hb:bs.length=n)(hl:n≤1000)(hb0:h0.next≤b){B:Nat}{Q:AX→Env→Heap→Prop}
  (hQ:∀e' h',XW h' b L bs n→Fr h0 h' []→Tr.get e' 6=some (.sl b 0 n n true)→Q (.exit 0) e' h'):
  ∀(m j:Nat) (h:Heap) (env:Env),n-j=m→j≤n→XW h b L bs j→Fr h0 h []→aP env [(1,.fz kb (ints bs)),(6,.sl b 0 n n true),(16,.int .i64 ((n:Nat):Int)),(17,.int .i64 ((j:Nat):Int))]→
  VC fs ms B false (.loop tM) env h Q:=by
 intro m;induction m using Nat.strongRecOn with
 |ind m ih=>
 intro j h env hm hj X fr cH;refine ak 5 _ cH ?_;refine lU (z:=true) ?_;conv=>whnf
 refine br (fun hc=>?_) (fun hc=>?_)<;>(try rw[hc])<;>(conv=>whnf)
 ·have hlt:j<n:=by have:=of_decide_eq_true hc;omega
  obtain⟨C,g1,cl,cells⟩:=X.ex;rw[hn] at cl;refine⟨_,jR (l:=bs) (j:=j) (k:=kb) (by omega),?_⟩;conv=>whnf
  refine⟨.int .i64 (bs[j]'(by omega)),rfl,?_⟩;conv=>whnf
  refine⟨_,l9 hlt,?_⟩;conv=>whnf
  refine aT (cD (n:=1) (v:=.int .i64 (bs[j]'(by omega))) g1 rfl (by omega) rfl) fun h1 e1=>?_;conv=>whnf
  rw[show Heap.splice C (j*3+1) (AV.int .i64 (bs[j]'(by omega))).cells=C.set (j*3+1) (.int .i64 (bs[j]'(by omega))) from nu _ _ _ (by omega)] at e1;have hgd:bs.getD j 0=bs[j]'(by omega):=by rw[List.getD_eq_getElem?_getD,List.getElem?_eq_getElem (by omega)];rfl
  obtain⟨c0,c1,c2⟩:=cells j (by omega);obtain⟨c3,c4⟩:=c2 (Nat.le_refl _);have g2:h1.get b=some (.cells (C.set (j*3+1) (.int .i64 (bs[j]'(by omega)))) true 3):=by rw[e1,aG]
  have cT:Fr h h1 [b]:=by rw[e1];exact(Fr.refl h [b]).set (by simp)
  clear e1;have AB:(C.set (j*3+1) (.int .i64 (bs[j]'(by omega))))[j*3+2]?=some (.fz (L[j]'(by omega)).k (dI (L[j]'(by omega)).ts)):=by
   rw[CU (by omega),if_neg (by omega)];exact c4
  refine⟨_,l9 hlt,?_⟩;conv=>whnf
  refine⟨_,bA g2 AB,?_⟩;conv=>whnf
  obtain⟨k1,k2⟩:=hK _ (List.getElem_mem (show j<L.length by omega));rw[k1];refine KC (b:=b) (Nat.lt_of_lt_of_le X.lb cT.next) _ k2 fun h2 tv tv1 fq=>?_;conv=>whnf
  have g3:h2.get b=_:=(fq.keep b (Nat.lt_of_lt_of_le X.lb cT.next) (by simp)).trans g2;refine⟨_,l9 hlt,?_⟩;conv=>whnf
  have Zw:tv.cells=[tv]∧tv.flat=true:=by rcases tv1 with⟨_,rfl⟩|⟨_,c,rfl,_⟩<;>exact⟨rfl,rfl⟩
  refine aT (cD (n:=1) (v:=tv) g3 (by rw[Zw.1];rfl) (by rw[List.length_set];omega) (by rw[Zw.1];simp[bx,Zw.2])) fun h3 e3=>?_;conv=>whnf
  rw[Zw.1,nu _ _ _ (by rw[List.length_set];omega)] at e3;have iB:Fr h2 h3 [b]:=by rw[e3];exact(Fr.refl h2 [b]).set (by simp)
  have frT:Fr h h3 [b]:=⟨Nat.le_trans cT.next (Nat.le_trans fq.next iB.next),fun c hc Ns=>by
   rw[iB.keep c (Nat.lt_of_lt_of_le hc (Nat.le_trans cT.next fq.next)) Ns,fq.keep c (Nat.lt_of_lt_of_le hc cT.next) (by simp),cT.keep c hc Ns]⟩
  refine ih (n-(j+1)) (by omega) (j+1) h3 _ rfl (by omega) ⟨Nat.lt_of_lt_of_le X.lb frT.next,_,by rw[e3,aG],by rw[List.length_set,List.length_set,hn];exact cl,fun i hi=>?_⟩ ⟨Nat.le_trans fr.next frT.next,fun c hc _=>?_⟩ ⟨rfl,rfl,rfl,ay (by omega),trivial⟩
  ·obtain⟨d0,d1,d2⟩:=cells i hi;have gB:∀q,((C.set (j*3+1) (.int .i64 (bs[j]'(by omega)))).set (j*3+2) tv)[q]?=if j*3+2=q then some tv else if j*3+1=q then some (.int .i64 (bs[j]'(by omega))) else C[q]?:=by
    intro q;rw[CU (by rw[List.length_set];omega),CU (by omega)]
   rw[gB,gB,gB,if_neg (by omega),if_neg (by omega),if_neg (show¬j*3+2=i*3+1 by omega),if_neg (show¬j*3+1=i*3+2 by omega)];refine⟨d0,fun hij=>?_,fun hij=>?_⟩
   ·by_cases e:i=j
    ·subst e;rw[if_pos rfl,if_pos rfl,hgd];exact⟨rfl,tv,rfl,tv1.keep iB (by simp)⟩
    ·rw[if_neg (by omega),if_neg (by omega)];obtain⟨d3,tv',d4,d5⟩:=d1 (by omega);exact⟨d3,tv',d4,((d5.keep cT (by simp)).keep fq (by simp)).keep iB (by simp)⟩
   ·rw[if_neg (by omega),if_neg (by omega)];exact d2 (by omega)
  ·rw[frT.keep c (Nat.lt_of_lt_of_le hc fr.next) (by simp;omega),fr.keep c hc (by simp)]
 ·have hge:j=n:=by have:=of_decide_eq_false hc;omega
  subst hge;exact hQ _ h X fr rfl
theorem QC{h:Heap}{kb n:Nat}{L:List Pt}{bs:List Int}(hK:AU L)(hn:L.length=n+1)(hb:bs.length=n+1)(hl:n≤900){Q:AV→Heap→Prop}
  (hQ:∀h' b,XW h' b L bs (n+1)→h.next≤b→Fr h h' []→Q (.cQ [.sl b 0 (n+1) (n+1) true,.int .i64 0]) h'):VD fs ms 31 [.fz 0 (pts L),.fz kb (ints bs)] h Q:=by
 refine bw (af:=Ue) rfl (Nat.le_of_ble_eq_true rfl) ?_;conv=>whnf
 refine aj true ?_;conv=>whnf
 refine aj true ?_;conv=>whnf
 rw[bh,cu,hn,hb];rw[show(((n+1:Nat):Int)!=((n+1:Nat):Int))=false by simp];conv=>whnf
 refine aj true ?_;conv=>whnf
 refine aC (af:=Uf) true rfl (Nat.le_of_ble_eq_true rfl) ?_;conv=>whnf
 refine aT (Ce (s:=3) (bytes:=40) (n:=n) (b:=h.next) (nx:=h.next+1) (cs:=ai (pts L)) an (by omega) (by omega) ((qB (k:=0) (fE L)).trans (by rw[bh,hn])) (Bt L)) fun h1 e1=>?_;conv=>whnf
 have hlb:h.next+1<h1.next:=by rw[e1];exact Nat.lt_succ_self _
 have g1:h1.get (h.next+1)=some (.cells (ai (pts L)) true 3):=by rw[e1];exact an (h:=h.new _)
 have cT:Fr h h1 []:=by rw[e1];exact(Fr.refl h []).new.new
 clear e1;refine az (aj true ?_);conv=>whnf
 refine aL ?_;refine Ua (kb:=kb) (n:=n+1) (b:=h.next+1) (h0:=h) hK hn hb (by omega) (by omega) ?_ _ 0 h1 _ rfl (Nat.zero_le _) ⟨hlb,ai (pts L),g1,by rw[c9 (fE L),bh],fun i hi=>⟨CN hi 0 _ rfl,fun h=>by omega,fun _=>⟨CN hi 1 _ rfl,CN hi 2 _ rfl⟩⟩⟩ cT ⟨rfl,rfl,rfl,rfl,trivial⟩;intro e' h' X fr g6;show VC fs ms _ _ _ _ _ _;refine ak 4 [(6,.sl (h.next+1) 0 (n+1) (n+1) true)] ⟨g6,trivial⟩ (aa (z:=true) ?_);conv=>whnf
 exact hQ h' _ X (by omega) fr
end Ir
end Go.Proofs.Ytepdklcpagielaa
