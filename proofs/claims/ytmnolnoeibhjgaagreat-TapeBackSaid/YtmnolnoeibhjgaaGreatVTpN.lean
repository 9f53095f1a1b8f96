/-
  Tape: Parse.
-/
import Derived.Test.YtmnolnoeibhjgaaGreatZD
set_option maxRecDepth 100000
set_option linter.unusedSimpArgs false
set_option linter.unusedVariables false
namespace Go.Proofs.YtmnolnoeibhjgaaGreat
open Go Ads
namespace Ir
def wL(x:bu×Int):AV:=.agg [.int .i64 x.1.k,.int .i64 x.1.p,.int .i64 x.1.t,.int .i64 x.1.n,.int .i64 x.1.m,.fz x.1.kk (b9 x.1.ops),.int .i64 x.2]
def fK(l:List (bu×Int)):List AV:=l.map wL
theorem eo(l:List (bu×Int)):(fK l).length=l.length:=List.length_map ..
theorem m7(l:List (bu×Int)):aL 7 (fK l)=true:=ef (enc:=wL) (fun _=>rfl) l
theorem NB(x:bu×Int):(wL x).cl=true:=by simp[wL,AV.cl,e9,iM]
theorem uE(l:List (bu×Int)):e9 (fK l)=true:=nC (enc:=wL) NB l
theorem p7{l:List (bu×Int)}{j k:Nat}(hj:j<l.length):pV (.aB 7) [.fz k (fK l),.int .i64 (j:Nat)]=some (.fp (wL l[j]).cells 0):=uI (enc:=wL) hj rfl
def I5(X:List Int):List Int:=if fh X=0 then(kg 5 (X,0)).1 else []
def mu(X:List Int):bu×Int:=(⟨(I5 X).getD 0 0,(I5 X).getD 1 0,(I5 X).getD 2 0,(I5 X).getD 3 0,(I5 X).getD 4 0,cR (wm X).length,wm X⟩,fh X)
theorem Ko{I:Nat}{L X:List Int}{v:AV}{h:Heap}(hs:oH h I L v X){Q:AV→Heap→Prop}(hQ:∀h',Fr h h' []→Q (wL (mu X)) h'):VD fs ms 35 [v] h Q:=by
 refine me (Pn hs fun w h' fr gr=>?_);by_cases hz:fh X=0
 ·obtain⟨bs,hf,hb⟩:=gr.BX (dK _) (iM _);refine⟨bs,wL (mu X),?_,hQ _ (gY hb fr)⟩;rw[bq] at hf;simp only[vf,wL,mu,I5,if_pos hz,hz];exact .FR (.cons (.clean rfl) (.cons (.clean rfl) (.cons (.clean rfl) (.cons (.clean rfl) (.cons (.clean rfl) (.cons hf (.cons (.clean rfl) .nil)))))))
 ·refine⟨[],wL (mu X),?_,hQ _ (gY (by simp) fr)⟩;simp only[vf,wL,mu,I5,wm,if_neg hz];exact .FR (.cons (.clean rfl) (.cons (.clean rfl) (.cons (.clean rfl) (.cons (.clean rfl) (.cons (.clean rfl) (.cons .az (.cons (.clean rfl) .nil)))))))
def mY:Nat→List Int→List (bu×Int)→List (bu×Int)×Int
 |0,_,A=>(A,0)
 |m+1,X,A=>if X=[] then(A,0) else if(aQ 4096 (X,0)).2.2≠0 then(A,(aQ 4096 (X,0)).2.2) else if((aQ 4096 (X,0)).2.1.length:Int)<(aQ 4096 (X,0)).1 then(A,3) else
  mY m ((aQ 4096 (X,0)).2.1.drop (aQ 4096 (X,0)).1.toNat) (A++[mu ((aQ 4096 (X,0)).2.1.take (aQ 4096 (X,0)).1.toNat)])
def par(X:List Int):List (bu×Int)×Int:=mY X.length X []
theorem Pj{most:Int}{X:List Int}(h:(rN most X).1=0):1≤(rN most X).2.2:=by
 cases X with
 |nil=>simp[rN] at h
 |cons c r=>
  simp only[rN] at h⊢;by_cases h1:c=255
  ·rw[if_pos h1] at h⊢;by_cases h2:r.length<8
   ·rw[if_pos h2] at h;simp at h
   ·rw[if_neg h2] at h⊢;by_cases h3:ki (r.take 8)=0∨ki (r.take 8)>9007199254740737
    ·rw[if_pos h3] at h;simp at h
    ·rw[if_neg h3] at h⊢;by_cases h4:254+ki (r.take 8)>most
     ·rw[if_pos h4] at h;simp at h
     ·rw[if_neg h4];simp
  ·rw[if_neg h1] at h⊢;by_cases h2:c>most
   ·rw[if_pos h2] at h;simp at h
   ·rw[if_neg h2];simp
theorem tF{most:Int}{X:List Int}(hok:okB X)(h:(aQ most (X,0)).2.2=0):(aQ most (X,0)).2.1.length<X.length∧X.drop (X.length-(aQ most (X,0)).2.1.length)=(aQ most (X,0)).2.1:=by
 have h2:=(v7 (most:=most) hok).2.1;unfold aQ at h⊢;rw[if_neg (by simp)] at h⊢;by_cases he:(rN most X).1=0
 ·have h1:=Pj he;rw[if_neg (by simpa using he)];refine⟨by simp only[List.length_drop];omega,?_⟩;simp only[List.length_drop];rw[show X.length-(X.length-(rN most X).2.2)=(rN most X).2.2 by omega]
 ·rw[if_pos he] at h;exact absurd h he
theorem Kj{h0:Heap}{I:Nat}{L:List Int}(lI:L=[]∨I<h0.next){B:Nat}{Q:AX→Env→Heap→Prop}:∀(m:Nat) (X:List Int) (A:List (bu×Int)) (h:Heap) (env:Env) (v w:AV),X.length≤m→A.length+X.length≤100000→
  oH h I L v X→GR 7 h0.next h w (fK A)→Fr h0 h []→bQ env [(0,v),(2,w),(3,.int .i64 0)]→
  (∀e' h' w',GR 7 h0.next h' w' (fK (mY m X A).1)→Fr h0 h' []→Tr.get e' 2=some w'→((mY m X A).2=0→Q (.exit 0) e' h')∧(Tr.get e' 3=some (.int .i64 (mY m X A).2)→Q .ret e' h'))→
  VC fs ms B false (.loop oF) env h Q:=by
 intro m;induction m with
 |zero=>
  intro X A h env v w hm hb hs gr fr bg hQ;refine ay 5 _ bg ?_;refine aH (aa (z:=true) ?_);conv=>whnf
  rw[hs.hs.len];conv=>whnf
  refine k7 (by simp;exact List.eq_nil_of_length_eq_zero (by omega)) (fun hc=>?_)
  (try rw[hc])
  conv=>whnf
  exact(hQ _ _ w gr fr rfl).1 rfl
 |succ m ih=>
  intro X A h env v w hm hb hs gr fr bg hQ;refine ay 5 _ bg ?_;by_cases hX:X=[]
  ·refine aH (aa (z:=true) ?_);conv=>whnf
   rw[hs.hs.len];conv=>whnf
   refine k7 (by simp[hX]) (fun hc=>?_)
   (try rw[hc])
   conv=>whnf
   have h2:mY (m+1) X A=(A,0):=if_pos hX;rw[h2] at hQ;exact(hQ _ _ w gr fr rfl).1 rfl
  have hX1:0<X.length:=List.length_pos_iff.2 hX;have R5:mY (m+1) X A=if(aQ 4096 (X,0)).2.2≠0 then(A,(aQ 4096 (X,0)).2.2) else if((aQ 4096 (X,0)).2.1.length:Int)<(aQ 4096 (X,0)).1 then(A,3) else
   mY m ((aQ 4096 (X,0)).2.1.drop (aQ 4096 (X,0)).1.toNat) (A++[mu ((aQ 4096 (X,0)).2.1.take (aQ 4096 (X,0)).1.toNat)]):=if_neg hX
  refine aH (an true ?_);conv=>whnf
  rw[hs.hs.len];conv=>whnf
  refine ny (by simp;omega) (fun hc=>?_)
  (try rw[hc])
  conv=>whnf
  refine aR (an true ?_);conv=>whnf
  refine D6 hs fun h1 Pm pZ n1=>?_;conv=>whnf
  refine an true ?_;conv=>whnf
  have hd:=tF (most:=4096) hs.ok;have G6:=qa (most:=4096) (S:=(X,0)) hs.ok;refine yo (by decide) Pm fun h2 zJ iu=>?_;rw[R5] at hQ;clear R5;generalize aQ 4096 (X,0)=S at*;have NV:Fr h h2 []:=⟨by have:=iu.next;omega,fun c hc _=>(iu.keep c (by omega) (by simp;omega)).trans (pZ.keep c hc (by simp))⟩;have IW:=gr.keep NV (by simp);have Ct:Fr h0 h2 []:=fr.trans NV;have wS:=hs.keep NV (.inr (by simp));conv=>whnf
  refine aJ (an true ?_);conv=>whnf
  refine AF zJ ?_;conv=>whnf
  refine an true ?_;conv=>whnf
  refine cj ?_;conv=>whnf
  refine br (fun hc=>?_) (fun hc=>?_)<;>(try rw[hc])<;>(conv=>whnf)
  ·have hne:S.2.2≠0:=by simpa using hc
   rw[if_pos hne] at hQ;refine aa (z:=true) ?_;conv=>whnf
   exact(hQ _ _ w IW Ct rfl).2 rfl
  have hz:S.2.2=0:=by simpa using hc
  rw[if_neg (by simpa using hz)] at hQ;obtain⟨BZ,GX⟩:=hd hz;refine aa (z:=true) ?_;conv=>whnf
  refine aJ (an true ?_);conv=>whnf
  refine CL zJ ?_;conv=>whnf
  refine cj ?_;conv=>whnf
  refine br (fun hc=>?_) (fun hc=>?_)<;>(try rw[hc])<;>(conv=>whnf)
  ·have hlt:(S.2.1.length:Int)<S.1:=by simpa using hc
   rw[if_pos hlt] at hQ;refine aa (z:=true) ?_;conv=>whnf
   exact(hQ _ _ w IW Ct rfl).2 rfl
  have hge:¬(S.2.1.length:Int)<S.1:=by simpa using hc
  rw[if_neg hge] at hQ;refine aa (z:=true) ?_;conv=>whnf
  refine an true ?_;conv=>whnf
  rw[wS.hs.len];conv=>whnf
  refine CL zJ ?_;conv=>whnf
  have hsz:=hs.sz;have gp:IntKind.i64.wrap ((X.length:Int)-(S.2.1.length:Int))=((X.length-S.2.1.length:Nat):Int):=by
   simp only[IntKind.wrap,IntKind.signed,IntKind.bits];simp;omega
  rw[gp];obtain⟨v1,hp1,I3⟩:=wS.from (lo:=X.length-S.2.1.length) (by omega);rw[GX] at I3;refine⟨v1,hp1,?_⟩;conv=>whnf
  obtain⟨n,hn⟩:=Int.eq_ofNat_of_zero_le G6;have hnt:S.1.toNat=n:=by rw[hn];rfl
  have Ae:n≤S.2.1.length:=by omega
  rw[hnt] at hQ;obtain⟨v2,B3,Ui⟩:=I3.to Ae;obtain⟨v3,Lm,Uj⟩:=I3.from Ae;rw[←hn] at B3 Lm;refine an true ?_;conv=>whnf
  refine⟨v2,B3,?_⟩;conv=>whnf
  refine Ko Ui fun h3 qY=>?_;conv=>whnf
  have GD:Fr h0 h3 []:=Ct.trans qY;have FB:=IW.keep qY (by simp);obtain⟨w',g',ha,IX,Ql,uG⟩:=GR.app (bytes:=72) FB GD.next (x:=wL (mu (S.2.1.take n))) rfl rfl (m7 A) (by rw[eo];omega) (by rw[eo];omega);refine⟨_,_,ha,?_⟩;have uz:Fr h0 g' []:=GD.app Ql (fun c hc=>uG c hc);have Qp:oH g' I L v3 (S.2.1.drop n):=by
   have h1:=(Uj.keep qY (.inr (by simp)));refine⟨h1.hs,?_,h1.ok,h1.sz⟩;rcases h1.gI with h|⟨⟨wr,es,k1⟩,k2⟩
   ·exact .inl h
   ·rcases lI with h|h
    ·exact .inl h
    ·exact .inr ⟨⟨wr,es,(uG I h).trans k1⟩,by omega⟩
  conv=>whnf
  refine aa (z:=true) ?_;conv=>whnf
  refine⟨v3,Lm,?_⟩;conv=>whnf
  refine ih _ (A++[mu (S.2.1.take n)]) g' _ v3 w' (by rw[List.length_drop];omega) (by rw[List.length_drop];simp;omega) Qp (by rw[fK,List.map_append];exact IX) uz ⟨rfl,rfl,rfl,trivial⟩ hQ
theorem D0{I:Nat}{L X:List Int}{v:AV}{h:Heap}(hs:oH h I L v X)(hl:X.length≤100000){Q:AV→Heap→Prop}(hQ:∀w h',GR 7 h.next h' w (fK (par X).1)→Fr h h' []→Q (.dO [w,.int .i64 (par X).2]) h'):VD fs ms 14 [v] h Q:=by
 refine bY (af:=S3) rfl (Nat.le_of_ble_eq_true rfl) ?_;conv=>whnf
 refine an true ?_;conv=>whnf
 refine aJ ?_;refine aR ?_;refine Kj (h0:=h) (I:=I) (L:=L) (hs.gI.imp id (fun h=>h.2)) X.length X [] h _ v .az (Nat.le_refl _) (by simpa using hl) hs (.inl ⟨rfl,rfl⟩) (Fr.refl h []) ⟨rfl,rfl,rfl,trivial⟩ ?_;intro e' h' w gr fr h2;refine⟨fun hz=>?_,fun h3=>?_⟩
 ·show VC fs ms h.next false _ _ _ _;refine ay 3 [(2,w)] ⟨h2,trivial⟩ (aa (z:=true) ?_);conv=>whnf
  have:=hQ w h' gr fr;rw[show(par X).2=0 from hz] at this;exact this
 ·conv=>whnf
  refine j9 (v:=[w,.int .i64 (par X).2]) (uO h2 h3) ?_;exact hQ w h' gr fr
end Ir
end Go.Proofs.YtmnolnoeibhjgaaGreat
