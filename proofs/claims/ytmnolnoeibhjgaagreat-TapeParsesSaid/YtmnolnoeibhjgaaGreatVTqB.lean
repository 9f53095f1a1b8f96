/-
  Tape: the document's reader: its other methods.
-/
import Derived.Test.YtmnolnoeibhjgaaGreatVTqA
set_option maxRecDepth 100000
set_option linter.unusedSimpArgs false
set_option linter.unusedVariables false
namespace Go.Proofs.YtmnolnoeibhjgaaGreat
open Go Ads
namespace Ir
theorem Ih{R I:Nat}{L:List Int}{S:RS}{h:Heap}(hr:lQ h R I L S){Q:AV→Heap→Prop}(hQ:Q (.int .i64 S.2) h):VD fs ms 57 [.ptr R 0] h Q:=by
 obtain⟨⟨v,gR,hs⟩,_⟩:=hr;refine bN (af:=Tz) true rfl (Nat.le_of_ble_eq_true rfl) ?_;conv=>whnf
 refine⟨_,cM gR rfl,?_⟩;conv=>whnf
 exact hQ
theorem D8{R I:Nat}{L:List Int}{S:RS}{h:Heap}(hr:lQ h R I L S){Q:AV→Heap→Prop}(hQ:Q (.int .i64 ((S.1.length:Nat):Int)) h):VD fs ms 58 [.ptr R 0] h Q:=by
 obtain⟨⟨v,gR,hs⟩,_⟩:=hr;refine bN (af:=TA) true rfl (Nat.le_of_ble_eq_true rfl) ?_;conv=>whnf
 refine⟨_,cM gR rfl,?_⟩;conv=>whnf
 rw[hs.len];conv=>whnf
 exact hQ
theorem oH.src{h:Heap}{I:Nat}{L:List Int}{v:AV}{X:List Int}(hs:oH h I L v X):eY 1 h v=some (X.length,eD X):=by
 rcases hs.gI with hL|⟨⟨wr,es,hg⟩,_⟩
 ·rcases hs.hs with⟨rfl,hx⟩|⟨o,j,rfl,hx⟩|⟨o,cap,op,rfl,q1,q2,q3,q4⟩
  ·subst hx;rfl
  ·subst hx;rfl
  ·exact absurd hL q4
 ·exact(hs.hs.load hg).1
theorem Gg{I:Nat}{L X:List Int}{v:AV}{h:Heap}(hs:oH h I L v X)(hsz:X.length≤1000000){Q:AV→Heap→Prop}(hQ:∀v' h',BR h.next h' v' X→Fr h h' []→Q v' h'):VD fs ms 13 [v] h Q:=by
 refine bN (af:=QB) true rfl (Nat.le_of_ble_eq_true rfl) ?_;conv=>whnf
 have ha:=kJ (bytes:=1) hs.src (kL X) (by omega) (by omega);by_cases hz:X.length=0
 ·rw[if_pos hz] at ha;refine⟨_,_,ha,?_⟩;conv=>whnf
  exact hQ _ _ (by rw[List.eq_nil_of_length_eq_zero hz];exact GR.nil) (Fr.refl _ _)
 ·rw[if_neg hz] at ha;refine⟨_,_,ha,?_⟩;conv=>whnf
  refine hQ _ _ (.inr ⟨fun h=>hz (by simpa[eD] using congrArg List.length h),h.next,Nat.le_refl _,Nat.lt_succ_self _,by rw[cq],?_⟩) (Fr.refl _ _).new;rw[fJ];exact au
theorem D9{I:Nat}{L X:List Int}{v:AV}{h:Heap}(hs:oH h I L v X)(hsz:X.length≤1000000){Q:AV→Heap→Prop}(hQ:∀h' J,lQ h' (h'.next-1) J X (X,0)→h.next≤J→h.next≤h'.next-1→Fr h h' []→Q (.ptr (h'.next-1) 0) h'):VD fs ms 55 [v] h Q:=by
 refine bN (af:=Ty) true rfl (Nat.le_of_ble_eq_true rfl) ?_;conv=>whnf
 refine Gg hs hsz fun v' h1 br fr=>?_;obtain⟨J,hJ,sv,hg⟩:=br.sv;have hb:pV (.build [.az,.int .i64 0] [(0,1)]) [v']=some (.agg [v',.int .i64 0]):=by rcases sv with⟨rfl,_⟩|⟨o,k,rfl,_⟩|⟨o,cap,op,rfl,_⟩<;>rfl
 conv=>whnf
 refine j9 hb ?_;conv=>whnf
 have:=hQ (h1.new (.cells [v',.int .i64 0] true 0)) J;rw[show(h1.new (.cells [v',.int .i64 0] true 0)).next-1=h1.next from rfl] at this;refine this ?_ hJ fr.next fr.new;refine⟨⟨v',au,sv⟩,?_,Nat.lt_succ_self _,hs.ok,hs.sz⟩;rcases hg with h|⟨⟨wr,es,h1⟩,h2⟩
 ·exact .inl h
 ·exact .inr ⟨⟨wr,es,(aF h2).trans h1⟩,by omega,Nat.lt_succ_of_lt h2⟩
theorem Po{R I:Nat}{L:List Int}{S:RS}{h:Heap}(hr:lQ h R I L S){Q:AV→Heap→Prop}(hQ:Q (.int .i64 (r8 S)) h):VD fs ms 60 [.ptr R 0] h Q:=by
 obtain⟨⟨v,gR,hs⟩,_⟩:=hr;refine bN (af:=TC) true rfl (Nat.le_of_ble_eq_true rfl) ?_;conv=>whnf
 refine⟨_,cM gR rfl,?_⟩;conv=>whnf
 refine br (fun hc=>?_) (fun hc=>?_)<;>(try rw[hc])<;>(conv=>whnf)
 ·have he:S.2=0:=by simpa using hc
  refine⟨_,cM gR rfl,?_⟩;conv=>whnf
  rw[hs.len];conv=>whnf
  refine br (fun hc=>?_) (fun hc=>?_)<;>(try rw[hc])<;>(conv=>whnf)
  ·have hl:S.1≠[]:=by intro h0;rw[h0] at hc;simp at hc
   rw[r8,if_pos he,if_neg hl] at hQ;exact hQ
  ·have hl:S.1=[]:=by
    have:=of_decide_eq_false hc;exact List.eq_nil_of_length_eq_zero (by omega)
   refine⟨_,cM gR rfl,?_⟩;conv=>whnf
   rw[r8,if_pos he,if_pos hl] at hQ;rw[he];exact hQ
 ·have he:S.2≠0:=by simpa using hc
  refine⟨_,cM gR rfl,?_⟩;conv=>whnf
  rw[r8,if_neg he] at hQ;exact hQ
theorem Ik{R I:Nat}{L:List Int}{S:RS}{h:Heap}{most:Int}(hm:most≤9007199254740991)(hr:lQ h R I L S){Q:AV→Heap→Prop}
  (hQ:∀h',lQ h' R I L (gQ most S).2→Fr h h' [R]→Q (.str (gQ most S).1) h'):VD fs ms 59 [.ptr R 0,.int .i64 most] h Q:=by
 refine bY (af:=TB) rfl (Nat.le_of_ble_eq_true rfl) ?_;conv=>whnf
 refine an true ?_;conv=>whnf
 refine an true ?_;conv=>whnf
 have G6:=qa (most:=most) hr.ok;have Lp:gQ most S=if(aQ most S).2.2≠0 then([],(aQ most S).2) else if((aQ most S).2.1.length:Int)<(aQ most S).1 then([],[],3) else(qU ((aQ most S).2.1.take (aQ most S).1.toNat),(aQ most S).2.1.drop (aQ most S).1.toNat,0):=rfl;refine mE hm hr fun h1 rK pZ=>?_;generalize aQ most S=T at*;have OJ:=rK;obtain⟨⟨v,gR,hs⟩,gI,lR,ok,sz⟩:=rK;conv=>whnf
 refine aJ (an true ?_);conv=>whnf
 refine⟨_,cM gR rfl,?_⟩;conv=>whnf
 refine cj ?_;conv=>whnf
 refine br (fun hc=>?_) (fun hc=>?_)<;>(try rw[hc])<;>(conv=>whnf)
 ·have hne:T.2.2≠0:=by simpa using hc
  rw[if_pos hne] at Lp;rw[Lp] at hQ;refine aa (z:=true) ?_;conv=>whnf
  exact hQ h1 OJ pZ
 have hz:T.2.2=0:=by simpa using hc
 rw[if_neg (by simpa using hz)] at Lp;rw[hz] at gR;refine aa (z:=true) ?_;conv=>whnf
 refine aJ (an true ?_);conv=>whnf
 refine⟨_,cM gR rfl,?_⟩;conv=>whnf
 rw[hs.len];conv=>whnf
 refine cj ?_;conv=>whnf
 refine br (fun hc=>?_) (fun hc=>?_)<;>(try rw[hc])<;>(conv=>whnf)
 ·have hlt:(T.2.1.length:Int)<T.1:=of_decide_eq_true hc;rw[if_pos hlt] at Lp;rw[Lp] at hQ;refine an true ?_;conv=>whnf
  refine ql gR fun h' g f=>?_;conv=>whnf
  refine aa (z:=true) ?_;conv=>whnf
  exact hQ h' (OJ.to f (v':=.az) g .az (by simp) (by intro n hn;simp at hn)) (pZ.trans f)
 have hge:¬(T.2.1.length:Int)<T.1:=of_decide_eq_false hc;rw[if_neg hge] at Lp;obtain⟨n,hn⟩:=Int.eq_ofNat_of_zero_le G6;have hnt:T.1.toNat=n:=by rw[hn];rfl
 have Ae:n≤T.2.1.length:=by omega
 rw[hnt] at Lp;rw[Lp] at hQ;obtain⟨v2,B3,wS⟩:=hs.to Ae;obtain⟨v3,Lm,I3⟩:=hs.from Ae;rw[←hn] at B3 Lm;have CG:rV .toStr [v2] h1=some (.str (qU (T.2.1.take n))):=by
  rcases gI with hL|⟨⟨wr,es,hg⟩,_⟩
  ·rcases wS with⟨rfl,hx⟩|⟨o,j,rfl,hx⟩|⟨o,cap,op,rfl,q1,q2,q3,q4⟩
   ·rw[hx];rfl
   ·rw[hx];rfl
   ·exact absurd hL q4
  ·exact(wS.load hg).2
 have eE:=I3.cells;refine aa (z:=true) ?_;conv=>whnf
 refine aa (z:=true) ?_;conv=>whnf
 refine⟨_,cM gR rfl,?_⟩;conv=>whnf
 refine⟨v2,B3,?_⟩;conv=>whnf
 refine⟨_,CG,?_⟩;conv=>whnf
 refine⟨_,cM gR rfl,?_⟩;conv=>whnf
 refine⟨v3,Lm,?_⟩;conv=>whnf
 refine cm (bX gR eE.2.1 (by simp) eE.2.2) fun h2 e2=>?_;have g2:h2.get R=some (.cells [v3,.int .i64 0] true 0):=by rw[e2,aA,eE.1];rfl
 have f2:Fr h1 h2 [R]:=by rw[e2];exact(Fr.refl h1 [R]).set (by simp)
 clear e2;conv=>whnf
 exact hQ h2 (OJ.to f2 (v':=v3) g2 I3 (by rw[List.length_drop];omega) (ok.drop _)) (pZ.trans f2)
end Ir
end Go.Proofs.YtmnolnoeibhjgaaGreat
