/-
  Tape: the document's Parse.
-/
import Derived.Test.YtmnolnoeibhjgaaGreatVTqC
set_option maxRecDepth 100000
set_option linter.unusedSimpArgs false
set_option linter.unusedVariables false
namespace Go.Proofs.YtmnolnoeibhjgaaGreat
open Go Ads
namespace Ir
theorem Sv.sub{I:Nat}{L:List Int}{v:AV}{X:List Int}(hs:Sv I L v X){lo hi:Nat}(h0:lo≤hi)(hl:hi≤X.length):∃v',pV (.slice 1 true true false) [v,.int .i64 ((lo:Nat):Int),.int .i64 ((hi:Nat):Int)]=some v'∧Sv I L v' ((X.drop lo).take (hi-lo)):=by
 have hlen:((X.drop lo).take (hi-lo)).length=hi-lo:=by rw[List.length_take,List.length_drop];omega
 rcases hs with⟨rfl,rfl⟩|⟨o,k,rfl,rfl⟩|⟨o,cap,op,rfl,g1,g2,g3,g0⟩
 ·have h1:hi=0:=by simpa using hl
  have h2:lo=0:=by omega
  subst h1 h2;exact⟨.az,rfl,.inl ⟨rfl,rfl⟩⟩
 ·have h1:hi=0:=by simpa using hl
  have h2:lo=0:=by omega
  subst h1 h2;exact⟨.rest I o k,rfl,.inr (.inl ⟨o,k,rfl,rfl⟩)⟩
 ·have hb:bounds X.length cap true true false [.int .i64 ((lo:Nat):Int),.int .i64 ((hi:Nat):Int)]=some (lo,hi,cap):=by
   simp only[bounds,zu,Option.map_some];rw[Nat.ble_eq_true_of_le h0,Nat.ble_eq_true_of_le (show hi≤cap by omega),Nat.ble_eq_true_of_le (Nat.le_refl _)];rfl
  have hp:pV (.slice 1 true true false) [.sl I o X.length cap op,.int .i64 ((lo:Nat):Int),.int .i64 ((hi:Nat):Int)]=some (cond (Nat.beq cap lo&&Nat.beq cap cap&&(op&&true&&!Nat.beq lo 0)) (.rest I o (lo*1)) (.sl I (o+cond (Nat.beq cap lo) 0 (lo*1)) (hi-lo) (cap-lo) op)):=by
   show lH 1 true true false (.sl I o X.length cap op) [.int .i64 ((lo:Nat):Int),.int .i64 ((hi:Nat):Int)]=_;simp only[lH,IU,hb,Bool.not_false,cond_false];cases(Nat.beq cap lo&&Nat.beq cap cap&&(op&&true&&!Nat.beq lo 0))<;>rfl
  refine⟨_,hp,?_⟩;cases hq:(Nat.beq cap lo&&Nat.beq cap cap&&(op&&true&&!Nat.beq lo 0)) with
  |true=>
   simp only[Bool.and_eq_true] at hq;have:=Nat.eq_of_beq_eq_true hq.1.1;refine .inr (.inl ⟨o,lo*1,rfl,?_⟩);exact List.eq_nil_of_length_eq_zero (by rw[hlen];omega)
  |false=>
   simp only[cond_false];cases hc:Nat.beq cap lo with
   |true=>
    have ju:=Nat.eq_of_beq_eq_true hc;have hz:(X.drop lo).take (hi-lo)=[]:=List.eq_nil_of_length_eq_zero (by rw[hlen];omega);refine .inr (.inr ⟨o,cap-lo,op,?_,?_,?_,?_,g0⟩)
    ·simp only[cond_true,Nat.add_zero,hlen]
    ·rw[hz];simp
    ·omega
    ·rw[hz];simp
   |false=>
    refine .inr (.inr ⟨o+lo,cap-lo,op,?_,?_,?_,?_,g0⟩)
    ·simp only[cond_false,Nat.mul_one,hlen]
    ·omega
    ·omega
    ·rw[hlen];conv=>lhs;rw[g3]
     rw[List.drop_take,List.drop_drop,List.take_take,Nat.min_eq_left (by omega)]
theorem oH.sub{h:Heap}{I:Nat}{L:List Int}{v:AV}{X:List Int}(hr:oH h I L v X){lo hi:Nat}(h0:lo≤hi)(hl:hi≤X.length):∃v',pV (.slice 1 true true false) [v,.int .i64 ((lo:Nat):Int),.int .i64 ((hi:Nat):Int)]=some v'∧oH h I L v' ((X.drop lo).take (hi-lo)):=by
 obtain⟨v',h1,h2⟩:=hr.hs.sub h0 hl;exact⟨v',h1,h2,hr.gI,(hr.ok.drop _).take _,by have:=hr.sz;rw[List.length_take,List.length_drop];omega⟩
def x6(X:List Int):Int×Int×Int:=if(aQ 4096 (X,0)).2.2≠0 then(0,0,(aQ 4096 (X,0)).2.2) else if((aQ 4096 (X,0)).2.1.length:Int)<(aQ 4096 (X,0)).1 then(0,0,3) else((aQ 4096 (X,0)).1,((X.length-(aQ 4096 (X,0)).2.1.length:Nat):Int),0)
theorem Om{I:Nat}{L X:List Int}{v:AV}{h:Heap}(hs:oH h I L v X)(hsz:X.length≤1000000){Q:AV→Heap→Prop}(hQ:∀h',Fr h h' []→Q (.dO [.int .i64 (x6 X).1,.int .i64 (x6 X).2.1,.int .i64 (x6 X).2.2]) h'):VD fs ms 36 [v] h Q:=by
 refine bY (af:=Tl) rfl (Nat.le_of_ble_eq_true rfl) ?_;conv=>whnf
 refine an true ?_;conv=>whnf
 refine an true ?_;conv=>whnf
 refine D9 hs hsz fun h2 J zJ hJ hR iu=>?_;generalize hRR:h2.next-1=R at*;have lR2:=zJ.lR;conv=>whnf
 refine an true ?_;conv=>whnf
 have hd:=tF (most:=4096) hs.ok;have hH:x6 X=if(aQ 4096 (X,0)).2.2≠0 then(0,0,(aQ 4096 (X,0)).2.2) else if((aQ 4096 (X,0)).2.1.length:Int)<(aQ 4096 (X,0)).1 then(0,0,3) else((aQ 4096 (X,0)).1,((X.length-(aQ 4096 (X,0)).2.1.length:Nat):Int),0):=rfl;refine mE (by decide) zJ fun h3 D5 qY=>?_;generalize aQ 4096 (X,0)=S at*;have P1:Fr h h3 []:=⟨by have:=iu.next;have:=qY.next;omega,fun c hc _=>(qY.keep c (by have:=iu.next;omega) (by simp;omega)).trans (iu.keep c hc (by simp))⟩;have I3:=hs.keep P1 (.inr (by simp));conv=>whnf
 refine aJ (an true ?_);conv=>whnf
 refine Ih D5 ?_;conv=>whnf
 refine an true ?_;conv=>whnf
 refine cj ?_;conv=>whnf
 refine br (fun hc=>?_) (fun hc=>?_)<;>(try rw[hc])<;>(conv=>whnf)
 ·have hne:S.2.2≠0:=by simpa using hc
  rw[if_pos hne] at hH;rw[hH] at hQ;refine aa (z:=true) ?_;conv=>whnf
  exact hQ h3 P1
 have hz:S.2.2=0:=by simpa using hc
 rw[if_neg (by simpa using hz)] at hH;obtain⟨BZ,GX⟩:=hd hz;refine aa (z:=true) ?_;conv=>whnf
 refine an true ?_;conv=>whnf
 rw[I3.hs.len];conv=>whnf
 refine D8 D5 ?_;conv=>whnf
 have Z3:=hs.sz;have gp:IntKind.i64.wrap ((X.length:Int)-(S.2.1.length:Int))=((X.length-S.2.1.length:Nat):Int):=by
  simp only[IntKind.wrap,IntKind.signed,IntKind.bits];simp;omega
 rw[gp];refine aJ (an true ?_);conv=>whnf
 refine D8 D5 ?_;conv=>whnf
 refine cj ?_;conv=>whnf
 refine br (fun hc=>?_) (fun hc=>?_)<;>(try rw[hc])<;>(conv=>whnf)
 ·have hlt:(S.2.1.length:Int)<S.1:=by simpa using hc
  rw[if_pos hlt] at hH;rw[hH] at hQ;refine aa (z:=true) ?_;conv=>whnf
  exact hQ h3 P1
 have hge:¬(S.2.1.length:Int)<S.1:=by simpa using hc
 rw[if_neg hge] at hH;rw[hH] at hQ;refine aa (z:=true) ?_;conv=>whnf
 refine aa (z:=true) ?_;conv=>whnf
 exact hQ h3 P1
theorem Ij{h0:Heap}{I:Nat}{L:List Int}(lI:L=[]∨I<h0.next){B:Nat}{Q:AX→Env→Heap→Prop}:∀(m:Nat) (X:List Int) (A:List (bu×Int)) (h:Heap) (env:Env) (v w:AV),X.length≤m→A.length+X.length≤100000→
  oH h I L v X→GR 7 h0.next h w (fK A)→Fr h0 h []→bQ env [(0,v),(4,w),(3,.int .i64 0)]→
  (∀e' h' w',GR 7 h0.next h' w' (fK (mY m X A).1)→Fr h0 h' []→((mY m X A).2=0→bQ e' [(4,w')]→Q (.exit 0) e' h')∧(bQ e' [(2,w'),(3,.int .i64 (mY m X A).2)]→Q .ret e' h'))→
  VC fs ms B false (.loop iq) env h Q:=by
 intro m;induction m with
 |zero=>
  intro X A h env v w hm hb hs gr fr bg hQ;refine ay 5 _ bg ?_;refine aH (aa (z:=true) ?_);conv=>whnf
  rw[hs.hs.len];conv=>whnf
  refine k7 (by simp;exact List.eq_nil_of_length_eq_zero (by omega)) (fun hc=>?_)
  (try rw[hc])
  conv=>whnf
  exact(hQ _ _ w gr fr).1 rfl ⟨rfl,trivial⟩
 |succ m ih=>
  intro X A h env v w hm hb hs gr fr bg hQ;refine ay 5 _ bg ?_;by_cases hX:X=[]
  ·refine aH (aa (z:=true) ?_);conv=>whnf
   rw[hs.hs.len];conv=>whnf
   refine k7 (by simp[hX]) (fun hc=>?_)
   (try rw[hc])
   conv=>whnf
   have h2:mY (m+1) X A=(A,0):=if_pos hX;rw[h2] at hQ;exact(hQ _ _ w gr fr).1 rfl ⟨rfl,trivial⟩
  have hX1:0<X.length:=List.length_pos_iff.2 hX;have R5:mY (m+1) X A=if(aQ 4096 (X,0)).2.2≠0 then(A,(aQ 4096 (X,0)).2.2) else if((aQ 4096 (X,0)).2.1.length:Int)<(aQ 4096 (X,0)).1 then(A,3) else
   mY m ((aQ 4096 (X,0)).2.1.drop (aQ 4096 (X,0)).1.toNat) (A++[mu ((aQ 4096 (X,0)).2.1.take (aQ 4096 (X,0)).1.toNat)]):=if_neg hX
  have hH:x6 X=if(aQ 4096 (X,0)).2.2≠0 then(0,0,(aQ 4096 (X,0)).2.2) else if((aQ 4096 (X,0)).2.1.length:Int)<(aQ 4096 (X,0)).1 then(0,0,3) else((aQ 4096 (X,0)).1,((X.length-(aQ 4096 (X,0)).2.1.length:Nat):Int),0):=rfl;have hd:=tF (most:=4096) hs.ok;have G6:=qa (most:=4096) (S:=(X,0)) hs.ok;refine aH (an true ?_);conv=>whnf
  rw[hs.hs.len];conv=>whnf
  refine ny (by simp;omega) (fun hc=>?_)
  (try rw[hc])
  conv=>whnf
  refine aR (an true ?_);conv=>whnf
  refine Om hs (by omega) fun h2 NV=>?_;rw[R5] at hQ;clear R5;generalize aQ 4096 (X,0)=S at*;generalize x6 X=HS at*;obtain⟨a,b,c⟩:=HS;have IW:=gr.keep NV (by simp);have Ct:Fr h0 h2 []:=fr.trans NV;have wS:=hs.keep NV (.inr (by simp));conv=>whnf
  refine aJ (an true ?_);conv=>whnf
  refine cj ?_;conv=>whnf
  by_cases hne:S.2.2≠0
  ·rw[if_pos hne] at hH hQ;obtain⟨rfl,rfl,rfl⟩:a=0∧b=0∧c=S.2.2:=⟨congrArg Prod.fst hH,congrArg (·.2.1) hH,congrArg (·.2.2) hH⟩;refine ny (by simpa using hne) (fun hc=>?_)
   (try rw[hc])
   conv=>whnf
   refine aa (z:=true) ?_;conv=>whnf
   exact(hQ _ _ w IW Ct).2 ⟨rfl,rfl,trivial⟩
  have hz:S.2.2=0:=by simpa using hne
  rw[if_neg (by simpa using hz)] at hH hQ;obtain⟨BZ,GX⟩:=hd hz;by_cases hlt:(S.2.1.length:Int)<S.1
  ·rw[if_pos hlt] at hH hQ;have K8:c=3:=congrArg (·.2.2) hH;refine ny (by simp[K8]) (fun hc=>?_)
   (try rw[hc])
   conv=>whnf
   refine aa (z:=true) ?_;conv=>whnf
   rw[K8];exact(hQ _ _ w IW Ct).2 ⟨rfl,rfl,trivial⟩
  rw[if_neg hlt] at hH hQ;have ha:a=S.1:=congrArg Prod.fst hH;have gn:b=((X.length-S.2.1.length:Nat):Int):=congrArg (·.2.1) hH;have K8:c=0:=congrArg (·.2.2) hH;obtain⟨n,hn⟩:=Int.eq_ofNat_of_zero_le G6;have hnt:S.1.toNat=n:=by rw[hn];rfl
  have Ae:n≤S.2.1.length:=by omega
  rw[hnt] at hQ;refine k7 (by simp[K8]) (fun hc=>?_)
  (try rw[hc])
  conv=>whnf
  refine aa (z:=true) ?_;conv=>whnf
  have hsz:=hs.sz;have gp:IntKind.i64.wrap (b+a)=((X.length-S.2.1.length+n:Nat):Int):=by
   rw[ha,gn,hn];simp only[IntKind.wrap,IntKind.signed,IntKind.bits];simp;omega
  obtain⟨v2,B3,Ui⟩:=wS.sub (lo:=X.length-S.2.1.length) (hi:=X.length-S.2.1.length+n) (by omega) (by omega);rw[←gp,←gn] at B3;rw[GX,show X.length-S.2.1.length+n-(X.length-S.2.1.length)=n by omega] at Ui;obtain⟨v3,Lm,Uj⟩:=wS.from (lo:=X.length-S.2.1.length+n) (by omega);rw[←List.drop_drop,GX] at Uj;rw[←gp] at Lm;refine an true ?_;conv=>whnf
  refine⟨v2,B3,?_⟩;conv=>whnf
  refine SM Ui (by rw[List.length_take];omega) fun h3 qY=>?_;conv=>whnf
  have GD:Fr h0 h3 []:=Ct.trans qY;have FB:=IW.keep qY (by simp);obtain⟨w',g',ha4,IX,Ql,uG⟩:=GR.app (bytes:=72) FB GD.next (x:=wL (mu (S.2.1.take n))) rfl rfl (m7 A) (by rw[eo];omega) (by rw[eo];omega);refine⟨_,_,ha4,?_⟩;have uz:Fr h0 g' []:=GD.app Ql (fun c hc=>uG c hc);have Qp:oH g' I L v3 (S.2.1.drop n):=by
   have h1:=(Uj.keep qY (.inr (by simp)));refine⟨h1.hs,?_,h1.ok,h1.sz⟩;rcases h1.gI with h|⟨⟨wr,es,k1⟩,k2⟩
   ·exact .inl h
   ·rcases lI with h|h
    ·exact .inl h
    ·exact .inr ⟨⟨wr,es,(uG I h).trans k1⟩,by omega⟩
  conv=>whnf
  refine aa (z:=true) ?_;conv=>whnf
  refine⟨v3,Lm,?_⟩;conv=>whnf
  refine ih _ (A++[mu (S.2.1.take n)]) g' _ v3 w' (by rw[List.length_drop];omega) (by rw[List.length_drop];simp;omega) Qp (by rw[fK,List.map_append];exact IX) uz ⟨rfl,rfl,rfl,trivial⟩ hQ
theorem Ii{I:Nat}{L X:List Int}{v:AV}{h:Heap}(hs:oH h I L v X)(hl:X.length≤100000){Q:AV→Heap→Prop}(hQ:∀h',Fr h h' []→Q (.dO [.fz (cR (par X).1.length) (fK (par X).1),.int .i64 (par X).2]) h'):VD fs ms 15 [v] h Q:=by
 refine me ?_;have jf:∀w h',GR 7 h.next h' w (fK (par X).1)→Fr h h' []→∃bs v',jr (· ∈bs) h' (.dO [w,.int .i64 (par X).2]) v'∧Q v' (cg bs h'):=by
  intro w h' gr fr;obtain⟨bs,hf,hb⟩:=gr.BX (m7 _) (uE _);rw[eo] at hf;exact⟨bs,_,.PA (.cons hf (.cons (.clean rfl) .nil)),hQ _ (gY hb fr)⟩
 generalize hQQ:(fun(v:AV) (h1:Heap)=>∃bs v',jr (· ∈bs) h1 v v'∧Q v' (cg bs h1))=QQ;have Lf:∀w h',GR 7 h.next h' w (fK (par X).1)→Fr h h' []→QQ (.dO [w,.int .i64 (par X).2]) h':=by rw[←hQQ];exact jf
 refine bY (af:=S4) rfl (Nat.le_of_ble_eq_true rfl) ?_;conv=>whnf
 refine an true ?_;conv=>whnf
 refine an true ?_;conv=>whnf
 refine aJ ?_;refine aR ?_;refine Ij (h0:=h) (I:=I) (L:=L) (hs.gI.imp id (fun h=>h.2)) X.length X [] h _ v .az (Nat.le_refl _) (by simpa using hl) hs (.inl ⟨rfl,rfl⟩) (Fr.refl h []) ⟨rfl,rfl,rfl,trivial⟩ ?_;intro e' h' w gr fr;refine⟨fun hz h4=>?_,fun h23=>?_⟩
 ·show VC fs ms h.next false _ _ _ _;refine ay 3 _ h4 (aa (z:=true) ?_);conv=>whnf
  have:=Lf w h' gr fr;rw[show(par X).2=0 from hz] at this;exact this
 ·conv=>whnf
  refine j9 (v:=[w,.int .i64 (par X).2]) (uO h23.1 h23.2.1) ?_;exact Lf w h' gr fr
end Ir
end Go.Proofs.YtmnolnoeibhjgaaGreat
