/-
  Tape: the document's read.
-/
import Derived.Test.YtmnolnoeibhjgaaGreatVTqB
set_option maxRecDepth 100000
set_option linter.unusedSimpArgs false
set_option linter.unusedVariables false
namespace Go.Proofs.YtmnolnoeibhjgaaGreat
open Go Ads
namespace Ir
def y3(l:List Int)(w:AV):List AV:=[.int .i64 (l.getD 0 0),.int .i64 (l.getD 1 0),.int .i64 (l.getD 2 0),.int .i64 (l.getD 3 0),.int .i64 (l.getD 4 0),w]
structure RPl(h0:Heap)(P2 R J P4:Nat)(L:List Int):Prop where
 p2:P2=h0.next
 r2:P2<R
 r4:R<P4
 j4:L=[]∨P2<J∧J<P4
structure RO(h0:Heap)(P2 R J P4:Nat)(L:List Int)(l:List Int)(acc:List nq)(S:RS)(h:Heap):Prop where
 fr:Fr h0 h []
 g2:h.get P2=some (.cells (gA []) true 0)
 g4:∃w,h.get P4=some (.cells (y3 l w) true 0)∧GR 3 (P4+1) h w (b9 acc)
 rd:lQ h R J L S
 nx:P4+1≤h.next
theorem Kw{h0:Heap}{P2 R J P4:Nat}{L:List Int}(hp:RPl h0 P2 R J P4 L){l:List Int}{S0:RS}{n:Nat}(hn:n≤32){B:Nat}{Q:AX→Env→Heap→Prop}(hQ:∀e' h' j,j≤n→(j=n∨(dW j S0).2.2≠0)→RO h0 P2 R J P4 L l (dW j S0).1 (dW j S0).2 h'→bQ e' [(2,.ptr P2 0),(3,.ptr R 0),(4,.ptr P4 0)]→Q (.exit 0) e' h'):
  ∀(m j:Nat) (h:Heap) (env:Env),n-j=m→j≤n→RO h0 P2 R J P4 L l (dW j S0).1 (dW j S0).2 h→bQ env [(2,.ptr P2 0),(3,.ptr R 0),(4,.ptr P4 0),(5,.int .i64 ((n:Nat):Int)),(6,.int .i64 ((j:Nat):Int))]→
   VC fs ms B false (.loop iE) env h Q:=by
 obtain⟨q1,q2,q3,q4⟩:=hp;intro m;induction m with
 |zero=>
  intro j h env hm hj hs bg;have he:j=n:=by omega
  refine ay 5 _ bg ?_;refine aH (aa (z:=true) ?_);conv=>whnf
  refine k7 (by simp;omega) (fun hc=>?_)
  (try rw[hc])
  conv=>whnf
  exact hQ _ _ j hj (.inl he) hs ⟨rfl,rfl,rfl,trivial⟩
 |succ m ih=>
  intro j h env hm hj hs bg;have hlt:j<n:=by omega
  have hs0:=hs;have hjl:=zy j S0;have qy:dW (j+1) S0=((dW j S0).1++[(wU (dW j S0).2).1],(wU (dW j S0).2).2):=rfl;have hQ':=hQ;refine ay 5 _ bg ?_;obtain⟨fr,g2,⟨w,g4,gr⟩,rd,nx⟩:=hs;refine aH (aJ (an true ?_));conv=>whnf
  refine ny (by simp;omega) (fun hc=>?_)
  (try rw[hc])
  conv=>whnf
  refine Ih rd ?_;conv=>whnf
  refine cj ?_;conv=>whnf
  refine br (fun hc=>?_) (fun hc=>?_)<;>(try rw[hc])<;>(conv=>whnf)
  rotate_left
  ·have hne:(dW j S0).2.2≠0:=by simpa using hc
   refine aa (z:=true) ?_;conv=>whnf
   exact hQ _ _ j hj (.inr hne) hs0 ⟨rfl,rfl,rfl,trivial⟩
  have hz:(dW j S0).2.2=0:=by simpa using hc
  clear hs0 hQ';generalize(dW j S0).1=acc at*;generalize(dW j S0).2=S at*;refine aa (z:=true) ?_;conv=>whnf
  refine aJ (aR (an true ?_));conv=>whnf
  refine mE (by decide) rd fun h1 Pm pZ=>?_;have n1:=pZ.next;conv=>whnf
  refine mE (by decide) Pm fun h2 zJ iu=>?_;have n2:=iu.next;conv=>whnf
  refine cm (bX au rfl (Nat.le_refl _) rfl) fun h3 e3=>?_;have f3:Fr h2 h3 []:=by rw[e3];exact((Fr.refl h2 []).new).gM (Nat.le_refl _)
  have n3:h3.next=h2.next+1:=by rw[e3];rfl
  have g73:h3.get h2.next=some (.cells [.int .i64 (aQ MX S).1,.int .i64 (aQ MX (aQ MX S).2).1,.str []] true 0):=by rw[e3,aA];rfl
  clear e3;have D5:=zJ.keep f3 (by simp) (.inr (by simp));conv=>whnf
  refine an true ?_;conv=>whnf
  refine Ik (by decide) D5 fun h4 SH uz=>?_;have n4:=uz.next;have g74:=(uz.keep h2.next (by omega) (by simp;omega)).trans g73;conv=>whnf
  refine cm (bX g74 rfl (by simp) rfl) fun h5 e5=>?_;have f5:Fr h4 h5 [h2.next]:=by rw[e5];exact(Fr.refl h4 _).set (by simp)
  have n5:h5.next=h4.next:=by rw[e5];rfl
  have g75:h5.get h2.next=some (.cells (top (wU S).1).cells true 0):=by rw[e5,aA];rfl
  clear e5;have SI:lQ h5 R J L (wU S).2:=SH.keep f5 (by simp;omega) (q4.imp id (fun h=>by simp;omega));have fk:∀c,c<h.next→c≠R→h5.get c=h.get c:=fun c hc hn=>(f5.keep c (by omega) (by simp;omega)).trans ((uz.keep c (by omega) (by simpa using hn)).trans ((f3.keep c (by omega) (by simp)).trans ((iu.keep c (by omega) (by simpa using hn)).trans (pZ.keep c hc (by simpa using hn)))));have Xf:GR 3 (P4+1) h5 w (b9 acc):=by
   rcases gr with h|⟨hne,b,b1,b2,b3,b4⟩
   ·exact .inl h
   ·exact .inr ⟨hne,b,b1,by omega,b3,(fk b b2 (by omega)).trans b4⟩
  have Zd:=(fk P4 (by omega) (by omega)).trans g4;conv=>whnf
  refine aa (z:=true) ?_;conv=>whnf
  refine⟨w,cM Zd rfl,?_⟩;conv=>whnf
  refine⟨top (wU S).1,FG g75 (Nat.le_refl _),?_⟩;conv=>whnf
  obtain⟨w',g',ha,GH,Ud,Qi⟩:=GR.app (bytes:=32) Xf (by omega) (x:=top (wU S).1) rfl rfl (dK acc) (by rw[bq];omega) (by rw[bq];omega);refine⟨_,_,ha,?_⟩;conv=>whnf
  obtain⟨c1,c2,c3⟩:=GR.one GH;refine cm (bX ((Qi P4 (by omega)).trans Zd) c2 (by show 0+0+5+1≤6;omega) c3) fun h7 e7=>?_;have f7:Fr g' h7 [P4]:=by rw[e7];exact(Fr.refl g' _).set (by simp)
  have n7:h7.next=g'.next:=by rw[e7];rfl
  have g47:h7.get P4=some (.cells (y3 l w') true 0):=by rw[e7,aA,c1];rfl
  clear e7;have TO:∀c,c<P4→h7.get c=h5.get c:=fun c hc=>(f7.keep c (by omega) (by simp;omega)).trans (Qi c (by omega));have SJ:lQ h7 R J L (wU S).2:=by
   obtain⟨⟨v,k1,k2⟩,k3,k4,k5,k6⟩:=SI;refine⟨⟨v,(TO R q3).trans k1,k2⟩,?_,by omega,k5,k6⟩;rcases k3 with h|⟨⟨wr,es,j1⟩,j2,j3⟩
   ·exact .inl h
   ·rcases q4 with h|⟨_,h⟩
    ·exact .inl h
    ·exact .inr ⟨⟨wr,es,(TO J h).trans j1⟩,j2,by omega⟩
  conv=>whnf
  refine aa (z:=true) ?_;conv=>whnf
  refine ih (j+1) h7 _ (by omega) (by omega) ?_ ⟨rfl,rfl,rfl,rfl,bC (by omega),trivial⟩;rw[qy];have fn:=fr.next;refine⟨⟨by omega,fun c hc _=>(TO c (by omega)).trans ((fk c (by omega) (by omega)).trans (fr.keep c hc (by simp)))⟩,(TO P2 (by omega)).trans ((fk P2 (by omega) (by omega)).trans g2),⟨w',g47,?_⟩,SJ,by omega⟩;rw[b9,List.map_append];exact GH.keep f7 (by simp)
theorem SM{I:Nat}{L X:List Int}{v:AV}{h:Heap}(hs:oH h I L v X)(hsz:X.length≤1000000){Q:AV→Heap→Prop}(hQ:∀h',Fr h h' []→Q (wL (mu X)) h'):VD fs ms 37 [v] h Q:=by
 refine me ?_;refine bY (af:=Tm) rfl (Nat.le_of_ble_eq_true rfl) ?_;conv=>whnf
 refine an true ?_;conv=>whnf
 obtain⟨h1,GN⟩:∃h1,h1=h.new (.cells (gA []) true 0):=⟨_,rfl⟩;have g1:h1.get h.next=some (.cells (gA []) true 0):=by rw[GN];exact au
 have pZ:Fr h h1 []:=by rw[GN];exact(Fr.refl h []).new
 have n1:h1.next=h.next+1:=by rw[GN];rfl
 have uH:oH h1 I L v X:=hs.keep pZ (.inr (by simp));show VC fs ms _ _ _ _ (h.new (.cells (gA []) true 0)) _;rw[←GN];clear GN;refine an true ?_;conv=>whnf
 refine D9 uH hsz fun h2 J zJ hJ hR iu=>?_;generalize hRR:h2.next-1=R at*;have lR2:=zJ.lR;have lJ2:=zJ.gI;conv=>whnf
 refine an true ?_;conv=>whnf
 refine mE (by decide) zJ fun h3 D5 qY=>?_;conv=>whnf
 refine mE (by decide) D5 fun h4 SH uz=>?_;conv=>whnf
 refine mE (by decide) SH fun h5 SI Cu=>?_;conv=>whnf
 refine mE (by decide) SI fun h6 Ut P9=>?_;conv=>whnf
 refine mE (by decide) Ut fun h7 SJ TP=>?_;have f27:Fr h2 h7 [R]:=qY.trans (uz.trans (Cu.trans (P9.trans TP)));have n27:=f27.next;conv=>whnf
 refine cm (bX au rfl (Nat.le_refl _) rfl) fun h8 e8=>?_;have f8:Fr h7 h8 []:=by rw[e8];exact((Fr.refl h7 []).new).gM (Nat.le_refl _)
 have n8:h8.next=h7.next+1:=by rw[e8];rfl
 have g48:h8.get h7.next=some (.cells (y3 (kg 5 (X,0)).1 .az) true 0):=by rw[e8,aA];rfl
 clear e8;have Qu:lQ h8 R J X (kg 5 (X,0)).2:=SJ.keep f8 (by simp) (.inr (by simp));have g28:h8.get h.next=some (.cells (gA []) true 0):=(f8.keep _ (by omega) (by simp)).trans ((f27.keep _ (by omega) (by simp;omega)).trans ((iu.keep _ (by omega) (by simp)).trans g1));have KU:Fr h h8 []:=⟨by have:=iu.next;omega,fun c hc _=>(f8.keep c (by omega) (by simp)).trans ((f27.keep c (by omega) (by simp;omega)).trans ((iu.keep c (by omega) (by simp)).trans (pZ.keep c hc (by simp))))⟩;conv=>whnf
 refine an true ?_;conv=>whnf
 have XZ:(dP X).1≤32:=zw (m:=32) Qu.ok (by omega);have Ow:0≤(dP X).1:=qa (most:=32) Qu.ok;have G5:dP X=aQ 32 (kg 5 (X,0)).2:=rfl;have jf:vp X=dW (dP X).1.toNat (dP X).2:=rfl;refine mE (by decide) Qu fun h9 rd9 TS=>?_;rw[←G5] at*;generalize ZB:(kg 5 (X,0)).1=l5 at*;obtain⟨n,hn⟩:=Int.eq_ofNat_of_zero_le Ow;have OA:n≤32:=by omega
 have hnt:(dP X).1.toNat=n:=by rw[hn];rfl
 have n9:=TS.next;have g49:=(TS.keep h7.next (by omega) (by simp;omega)).trans g48;have g29:=(TS.keep h.next (by omega) (by simp;omega)).trans g28;have f09:Fr h h9 []:=⟨by have:=KU.next;omega,fun c hc _=>(TS.keep c (by have:=KU.next;omega) (by simp;omega)).trans (KU.keep c hc (by simp))⟩;conv=>whnf
 refine aJ (an true ?_);conv=>whnf
 refine aR ?_;refine Kw (h0:=h) (P2:=h.next) (R:=R) (J:=J) (P4:=h7.next) (L:=X) ⟨rfl,by omega,by omega,lJ2.imp id (fun h=>by have:=h.2.2;omega)⟩ (l:=l5) (S0:=(dP X).2) (n:=n) OA ?_ n 0 h9 _ rfl (Nat.zero_le _) ⟨f09,g29,⟨.az,g49,.inl ⟨rfl,rfl⟩⟩,rd9,by omega⟩ ⟨rfl,rfl,rfl,by rw[←hn];rfl,rfl,trivial⟩;intro e' Qd j hj Ue ⟨q1,q2,⟨w,q3,q4⟩,q5,q6⟩ ha;have hE:r8 (dW j (dP X).2).2=fh X:=by
  rcases Ue with rfl|hne
  ·unfold fh;rw[jf,hnt]
  ·rw[vU (by omega) hne,r8,if_neg hne]
 have hJn:fh X=0→(dW j (dP X).2).1=(vp X).1:=by
  intro hz;rcases Ue with rfl|hne
  ·rw[jf,hnt]
  ·rw[vU (by omega) hne] at hz;exact absurd hz hne
 show VC fs ms _ _ _ _ _ _;refine ay 4 _ ha ?_;refine aJ (an true ?_);conv=>whnf
 refine Po q5 ?_;rw[hE];conv=>whnf
 refine an true ?_;conv=>whnf
 refine cj ?_;conv=>whnf
 refine br (fun hc=>?_) (fun hc=>?_)<;>(try rw[hc])<;>(conv=>whnf)
 ·have hz:fh X≠0:=by simpa using hc
  refine aa (z:=true) ?_;conv=>whnf
  refine cm (bX q2 rfl (Nat.le_refl _) rfl) fun Qe KS=>?_;have W9:Qe.get h.next=some (.cells [.int .i64 0,.int .i64 0,.int .i64 0,.int .i64 0,.int .i64 0,.az,.int .i64 (fh X)] true 0):=by rw[KS,aA];rfl
  have f11:Fr h Qe []:=by rw[KS];exact q1.gM (Nat.le_refl _)
  clear KS;conv=>whnf
  refine j9 (v:=[.agg [.int .i64 0,.int .i64 0,.int .i64 0,.int .i64 0,.int .i64 0,.az,.int .i64 (fh X)]]) (qk (a:=2) (o:=0) (n:=7) rfl W9 (by show 0+7≤7;omega)) ?_;refine⟨[],wL (mu X),?_,hQ _ (gY (by simp) f11)⟩;simp only[wL,mu,I5,wm,if_neg hz];exact .FR (.cons (.clean rfl) (.cons (.clean rfl) (.cons (.clean rfl) (.cons (.clean rfl) (.cons (.clean rfl) (.cons .az (.cons (.clean rfl) .nil)))))))
 ·have hz:fh X=0:=by simpa using hc
  obtain⟨c1,c2,c3⟩:=GR.one q4;refine aa (z:=true) ?_;conv=>whnf
  refine aa (z:=true) ?_;conv=>whnf
  refine⟨.agg (y3 l5 w),FG q3 (Nat.le_refl _),?_⟩;conv=>whnf
  refine cm (bX q2 rfl (Nat.le_refl _) (Gy c1 c3)) fun Qe KS=>?_;have W9:Qe.get h.next=some (.cells (ld l5 w) true 0):=by rw[KS,aA];rfl
  have f11:Fr h Qe []:=by rw[KS];exact q1.gM (Nat.le_refl _)
  have Xe:GR 3 (h7.next+1) Qe w (b9 (dW j (dP X).2).1):=by rw[KS];exact q4.keep (T:=[h.next]) ((Fr.refl Qd _).set (by simp)) (by simp;have:=KU.next;omega)
  clear KS;conv=>whnf
  refine j9 (v:=[.agg (ld l5 w)]) (qk (a:=2) (o:=0) (n:=7) rfl W9 (by show 0+7≤7;omega)) ?_;obtain⟨bs,hf,hb⟩:=Xe.BX (dK _) (iM _);refine⟨bs,wL (mu X),?_,hQ _ (gY (fun b hb'=>by have:=hb b hb';have:=KU.next;omega) f11)⟩;rw[bq,hJn hz] at hf;simp only[wL,mu,I5,wm,if_pos hz,hz,ZB];exact .FR (.cons (.clean rfl) (.cons (.clean rfl) (.cons (.clean rfl) (.cons (.clean rfl) (.cons (.clean rfl) (.cons hf (.cons (.clean rfl) .nil)))))))
end Ir
end Go.Proofs.YtmnolnoeibhjgaaGreat
