/-
  Tape: the document's reader: numbers.
-/
import Derived.Test.YtmnolnoeibhjgaaGreatVTpN
set_option maxRecDepth 100000
set_option linter.unusedSimpArgs false
set_option linter.unusedVariables false
namespace Go.Proofs.YtmnolnoeibhjgaaGreat
open Go Ads
namespace Ir
theorem ql{R:Nat}{h:Heap}{v:AV}{e n:Int}(g:h.get R=some (.cells [v,.int .i64 e] true 0)){Q:AV→Heap→Prop}(hQ:∀h',h'.get R=some (.cells [.az,.int .i64 n] true 0)→Fr h h' [R]→Q (.int .i64 0) h'):VD fs ms 74 [.ptr R 0,.int .i64 n] h Q:=by
 refine bN (af:=TF) true rfl (Nat.le_of_ble_eq_true rfl) ?_;conv=>whnf
 refine cm (bX g rfl (by simp) rfl) fun h2 e2=>?_;have g2:h2.get R=some (.cells [v,.int .i64 n] true 0):=by rw[e2,aA];rfl
 have f2:Fr h h2 [R]:=by rw[e2];exact(Fr.refl h [R]).set (by simp)
 clear e2;conv=>whnf
 refine cm (bX g2 rfl (by simp) rfl) fun h3 e3=>?_;have g3:h3.get R=some (.cells [.az,.int .i64 n] true 0):=by rw[e3,aA];rfl
 have f3:Fr h h3 [R]:=by rw[e3];exact f2.set (by simp)
 clear e3;conv=>whnf
 exact hQ h3 g3 f3
theorem Pu{I R:Nat}{L X:List Int}{v:AV}{e0:Int}{h:Heap}{wr:Bool}{es:Nat}(hs:Sv I L v X)(gR:h.get R=some (.cells [v,.int .i64 e0] true 0))(gI:h.get I=some (.cells (eD L) wr es))(hX:9≤X.length){Y:List Int}(hY:(X.drop 1).take 8=Y){a1 a6:AV}{B:Nat}{Q:AX→Env→Heap→Prop}
  (hQ:∀e',bQ e' [(7,.int .u64 (ki Y)),(0,.ptr R 0),(1,a1),(6,a6)]→Q (.exit 0) e' h):
  ∀(m j:Nat) (env:Env),8-j=m→j≤8→bQ env [(7,.int .u64 ((Y.take j).foldl jx 0)),(8,.int .i64 ((j+1:Nat):Int)),(0,.ptr R 0),(1,a1),(6,a6)]→
   VC fs ms B false (.loop eN) env h Q:=by
 have hYl:Y.length=8:=by rw[←hY,List.length_take,List.length_drop];omega
 intro m;induction m with
 |zero=>
  intro j env hm hj bg;have he:j=8:=by omega
  have ht:Y.take j=Y:=List.take_of_length_le (by omega);rw[ht] at bg;refine ay 6 _ bg ?_;refine aH (aa (z:=true) ?_);conv=>whnf
  refine k7 (by simp;omega) (fun hc=>?_)
  (try rw[hc])
  conv=>whnf
  exact hQ _ ⟨rfl,rfl,rfl,rfl,trivial⟩
 |succ m ih=>
  intro j env hm hj bg;have hlt:j<Y.length:=by omega
  obtain⟨q,Ln,Lo⟩:=hs.ix (i:=j+1) (by omega);have qI:=Lo h wr es gI;have hxy:Y[j]=X[j+1]:=by
   subst hY;rw[List.getElem_take,List.getElem_drop]
   congr 1
   omega
  have hU:(Y.take (j+1)).foldl jx 0=jx ((Y.take j).foldl jx 0) X[j+1]:=by
   rw[dz hlt,List.foldl_append,←hxy];rfl
  generalize hc0:X[j+1]=c at*;generalize(Y.take j).foldl jx 0=acc at*;refine ay 6 _ bg ?_;refine aH (aa (z:=true) ?_);conv=>whnf
  refine ny (by simp;omega) (fun hc=>?_)
  (try rw[hc])
  conv=>whnf
  refine⟨_,Ec acc,?_⟩;conv=>whnf
  refine⟨_,cM gR rfl,?_⟩;conv=>whnf
  refine⟨_,Ln,?_⟩;conv=>whnf
  refine⟨_,qI,?_⟩;conv=>whnf
  exact ih (j+1) _ (by omega) (by omega) ⟨by rw[hU];rfl,bC (by omega),rfl,rfl,rfl,trivial⟩
theorem mE{R I:Nat}{L:List Int}{S:RS}{h:Heap}{most:Int}(hm:most≤9007199254740991)(hr:lQ h R I L S){Q:AV→Heap→Prop}
  (hQ:∀h',lQ h' R I L (aQ most S).2→Fr h h' [R]→Q (.int .i64 (aQ most S).1) h'):VD fs ms 56 [.ptr R 0,.int .i64 most] h Q:=by
 have vI:=hr;obtain⟨⟨v,gR,hs⟩,gI,lR,ok,sz⟩:=hr;refine bY (af:=QH) rfl (Nat.le_of_ble_eq_true rfl) ?_;conv=>whnf
 refine an true ?_;conv=>whnf
 refine aJ (an true ?_);conv=>whnf
 refine⟨_,cM gR rfl,?_⟩;conv=>whnf
 refine cj ?_;conv=>whnf
 refine br (fun hc=>?_) (fun hc=>?_)<;>(try rw[hc])<;>(conv=>whnf)
 ·have he:S.2≠0:=by simpa using hc
  have hn:aQ most S=(0,S):=if_pos he;rw[hn] at hQ;refine aa (z:=true) ?_;conv=>whnf
  exact hQ h vI (Fr.refl _ _)
 have he:S.2=0:=by simpa using hc
 have qy:aQ most S=if(rN most S.1).1≠0 then(0,[],(rN most S.1).1) else((rN most S.1).2.1,S.1.drop (rN most S.1).2.2,0):=if_neg (by simpa using he);have oy:∀(e:Int),(rN most S.1).1=e→e≠0→∀h',h'.get R=some (.cells [.az,.int .i64 e] true 0)→Fr h h' [R]→Q (.int .i64 0) h':=by
  intro e h1 h2 h' g f;rw[if_pos (by rw[h1];exact h2),h1] at qy;rw[qy] at hQ;exact hQ h' (vI.to f (v':=.az) g .az (by simp) (by intro n hn;simp at hn)) f
 rw[he] at gR;generalize hX:S.1=X at*;have mR:∀e' (n:Int) (sz:Nat),bQ e' [(0,.ptr R 0),(1,.int .i64 most),(5,.int .i64 n),(6,.int .i64 ((sz:Nat):Int))]→(rN most X=if n>most then(5,0,0) else(0,n,sz))→
   VC fs ms h.next false (.seq (.seq (.ops [zM 65 5,zM 66 1,zP 67 (.bin .gtr) [.t 65,.t 66]]) (.cond (.t 67) (.seq (.ops [zM 68 0,⟨some 69,none,.call,[.c (.func (.func 74) [] []),.t 68,.c (.int .i64 5)]⟩,zM 4 69]) .ret) .skip))
    (.seq (.ops [zM 70 0,zM 71 0,zN 72 71,zF 73 72 0,zL 74 73,zM 75 6,zP 76 (.slice 1 true false false) [.t 74,.t 75],zN 77 70,zF 78 77 0,zS 1 [.t 78,.t 76]]) (.seq (.ops [zM 79 5,zM 4 79]) .ret))) e' h (y7 QH.results Q):=by
  intro e' n sz ha hr;have Ug:=v7 (most:=most) ok;refine ay 4 _ ha (aJ (an true ?_));conv=>whnf
  refine cj ?_;conv=>whnf
  refine br (fun hc=>?_) (fun hc=>?_)<;>(try rw[hc])<;>(conv=>whnf)
  ·have hgt:n>most:=of_decide_eq_true hc;rw[if_pos hgt] at hr;refine an true ?_;conv=>whnf
   refine ql gR fun h' g f=>?_;conv=>whnf
   refine aa (z:=true) ?_;conv=>whnf
   exact oy 5 (by rw[hr]) (by decide) h' g f
  ·have hgt:¬n>most:=of_decide_eq_false hc;rw[if_neg hgt] at hr;rw[hr] at Ug qy;rw[if_neg (by simp)] at qy;rw[qy] at hQ;obtain⟨v',hp,FE⟩:=hs.from (lo:=sz) Ug.2.1;have eE:=FE.cells;refine aa (z:=true) ?_;conv=>whnf
   refine aa (z:=true) ?_;conv=>whnf
   refine⟨_,cM gR rfl,?_⟩;conv=>whnf
   refine⟨v',hp,?_⟩;conv=>whnf
   refine cm (bX gR eE.2.1 (by simp) eE.2.2) fun h2 e2=>?_;have g2:h2.get R=some (.cells [v',.int .i64 0] true 0):=by rw[e2,aA,eE.1];rfl
   have f2:Fr h h2 [R]:=by rw[e2];exact(Fr.refl h [R]).set (by simp)
   clear e2;conv=>whnf
   exact hQ h2 (vI.to f2 (v':=v') g2 FE (by rw[hX,List.length_drop];omega) (ok.drop _)) f2
 refine aa (z:=true) ?_;conv=>whnf
 refine aJ (an true ?_);conv=>whnf
 refine⟨_,cM gR rfl,?_⟩;conv=>whnf
 rw[hs.len];conv=>whnf
 refine cj ?_;conv=>whnf
 refine br (fun hc=>?_) (fun hc=>?_)<;>(try rw[hc])<;>(conv=>whnf)
 ·have h0:X=[]:=List.eq_nil_of_length_eq_zero (by simpa using hc);refine an true ?_;conv=>whnf
  refine ql gR fun h' g f=>?_;conv=>whnf
  refine aa (z:=true) ?_;conv=>whnf
  exact oy 3 (by rw[h0];rfl) (by decide) h' g f
 have h0:0<X.length:=by
  have:¬X.length=0:=by simpa using hc
  omega
 have GO:X≠[]:=List.length_pos_iff.1 h0;have JK:L≠[]:=hs.ne GO;obtain⟨⟨wr,es,gI⟩,dI,lI⟩:=gI.resolve_left JK;obtain⟨c,r,ET⟩:∃c r,X=c::r:=by
  cases X with
  |nil=>exact absurd rfl GO
  |cons c r=>exact⟨c,r,rfl⟩
 have hlen:X.length=r.length+1:=by rw[ET];rfl
 obtain⟨q0,Ln,Lo⟩:=hs.ix (i:=0) h0;have qI:=Lo h wr es gI;have hc0:X[0]=c:=by simp[ET]
 rw[hc0] at qI;have Ok:=ok c (by rw[ET];simp);have zl:rN most X=if c=255 then(if r.length<8 then(3,0,0) else if ki (r.take 8)=0∨ki (r.take 8)>9007199254740737 then(4,0,0) else if 254+ki (r.take 8)>most then(5,0,0) else(0,254+ki (r.take 8),9))
  else if c>most then(5,0,0) else(0,c,1):=by rw[ET];rfl
 have Yo:IntKind.i64.wrap c=c:=IntWalk.i64_in _ (by omega);refine aa (z:=true) ?_;conv=>whnf
 refine an true ?_;conv=>whnf
 refine⟨_,cM gR rfl,?_⟩;conv=>whnf
 refine⟨_,Ln,?_⟩;conv=>whnf
 refine⟨_,qI,?_⟩;conv=>whnf
 rw[Yo];refine an true ?_;conv=>whnf
 refine aJ (an true ?_);conv=>whnf
 refine cj ?_;conv=>whnf
 refine br (fun hc=>?_) (fun hc=>?_)<;>(try rw[hc])<;>(conv=>whnf)
 ·have qx:c=255:=by simpa using hc
  rw[if_pos qx] at zl;refine aJ (an true ?_);conv=>whnf
  refine⟨_,cM gR rfl,?_⟩;conv=>whnf
  rw[hs.len];conv=>whnf
  refine cj ?_;conv=>whnf
  refine br (fun hc=>?_) (fun hc=>?_)<;>(try rw[hc])<;>(conv=>whnf)
  ·have OL:r.length<8:=by have:=of_decide_eq_true hc;rw[hlen] at this;omega
   rw[if_pos OL] at zl;refine an true ?_;conv=>whnf
   refine ql gR fun h' g f=>?_;conv=>whnf
   refine aa (z:=true) ?_;conv=>whnf
   exact oy 3 (by rw[zl]) (by decide) h' g f
  have OL:¬r.length<8:=by have:=of_decide_eq_false hc;rw[hlen] at this;omega
  rw[if_neg OL] at zl;refine aa (z:=true) ?_;conv=>whnf
  refine an true ?_;conv=>whnf
  refine an true ?_;conv=>whnf
  refine aJ (an true ?_);conv=>whnf
  refine aR ?_;have hY:(X.drop 1).take 8=r.take 8:=by rw[ET];rfl
  refine Pu hs gR gI (by omega) hY ?_ 8 0 _ rfl (Nat.zero_le _) ⟨rfl,rfl,rfl,rfl,rfl,trivial⟩;intro e' ha;have hv:=sS (r.take 8) 0 (by omega);change 0≤ki (r.take 8) at hv
  generalize ki (r.take 8)=V at*;show VC fs ms h.next false _ _ _ _;refine ay 6 _ ha ?_;refine aJ (an true ?_);conv=>whnf
  refine br (fun hc=>?_) (fun hc=>?_)<;>(try rw[hc])<;>(conv=>whnf)
  ·have hV:V=0:=by simpa using hc
   rw[if_pos (.inl hV)] at zl;refine cj ?_;conv=>whnf
   refine an true ?_;conv=>whnf
   refine ql gR fun h' g f=>?_;conv=>whnf
   refine aa (z:=true) ?_;conv=>whnf
   exact oy 4 (by rw[zl]) (by decide) h' g f
  have hV0:¬V=0:=by simpa using hc
  refine cj ?_;conv=>whnf
  refine br (fun hc=>?_) (fun hc=>?_)<;>(try rw[hc])<;>(conv=>whnf)
  ·have hV:V>9007199254740737:=of_decide_eq_true hc;rw[if_pos (.inr hV)] at zl;refine an true ?_;conv=>whnf
   refine ql gR fun h' g f=>?_;conv=>whnf
   refine aa (z:=true) ?_;conv=>whnf
   exact oy 4 (by rw[zl]) (by decide) h' g f
  have hV:¬V>9007199254740737:=of_decide_eq_false hc;rw[if_neg (by rintro(h|h)<;>omega)] at zl;have Ys:IntKind.i64.wrap (254+IntKind.i64.wrap V)=254+V:=by rw[IntWalk.i64_in V (by omega),IntWalk.i64_in _ (by omega)]
  refine aa (z:=true) ?_;conv=>whnf
  refine aa (z:=true) ?_;conv=>whnf
  rw[Ys];exact mR _ (254+V) 9 ⟨rfl,rfl,rfl,rfl,trivial⟩ zl
 ·have qx:¬c=255:=by simpa using hc
  refine aa (z:=true) ?_;conv=>whnf
  exact mR _ c 1 ⟨rfl,rfl,rfl,rfl,trivial⟩ (by rw[zl,if_neg qx])
end Ir
end Go.Proofs.YtmnolnoeibhjgaaGreat
