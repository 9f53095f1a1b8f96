/-
  Ready: the document's queue in a heap.
-/
import Derived.Test.YtenafeojcgmnhaaVRdK
set_option maxRecDepth 100000
set_option linter.unusedSimpArgs false
set_option linter.unusedVariables false
namespace Go.Proofs.Ytenafeojcgmnhaa
open Go Ads
namespace Ir
structure qp(h:Heap)(m b es:Nat)(op:Bool)(D:List Int):Prop where
 hm:h.get m=some (.cells [.sl b 0 D.length D.length op] true 0)
 hb:h.get b=some (.cells (ints D) true es)
 ne:m≠b
 lm:m<h.next
 lb:b<h.next
theorem qp.keep{h h':Heap}{m b es:Nat}{op:Bool}{D:List Int}{T:List Nat}(hh:qp h m b es op D)(fr:Fr h h' T)(h1:m∉T)(h2:b∉T):qp h' m b es op D:=
 ⟨by rw[fr.keep m hh.lm h1];exact hh.hm,by rw[fr.keep b hh.lb h2];exact hh.hb,hh.ne,Nat.lt_of_lt_of_le hh.lm fr.next,Nat.lt_of_lt_of_le hh.lb fr.next⟩
def gD(D:List Int)(i:Nat):Int:=D.getD i 0
theorem DE{D:List Int}{i:Nat}(h:i<D.length):gD D i=D[i]:=by simp[gD,List.getD_eq_getElem?_getD,List.getElem?_eq_getElem h]
theorem mA{D:List Int}{i:Nat}(h:i<D.length)(x:Int)(k:Nat):gD (D.set i x) k=if k=i then x else gD D k:=by
 simp only[gD,List.getD_eq_getElem?_getD,List.getElem?_set];by_cases hk:i=k
 ·subst hk;simp[h]
 ·rw[if_neg hk,if_neg (Ne.symm hk)]
theorem qp.row{h:Heap}{m b es:Nat}{op:Bool}{D:List Int}(hh:qp h m b es op D):rV .bW [.ptr m 0] h=some (.sl b 0 D.length D.length op):=bQ hh.hm rfl
theorem qp.get{h:Heap}{m b es:Nat}{op:Bool}{D:List Int}(hh:qp h m b es op D){i:Nat}(hi:i<D.length):rV .bW [.ptr b (i*1)] h=some (.int .i64 (gD D i)):=by
 refine bQ hh.hb ?_;rw[Nat.mul_one,ints,List.getElem?_map,List.getElem?_eq_getElem hi,DE hi];rfl
theorem ints_set{D:List Int}{i:Nat}(hi:i<D.length)(x:Int):Heap.splice (ints D) (i*1) [.int .i64 x]=ints (D.set i x):=by
 rw[Nat.mul_one,iG _ _ _ (by rw[ck];exact hi),ints,ints,List.map_set]
theorem qp.put{h:Heap}{m b es:Nat}{op:Bool}{D:List Int}(hh:qp h m b es op D){i:Nat}(hi:i<D.length)(x:Int):eV (.store 1) [.ptr b (i*1),.int .i64 x] h=some (.undef,h.set b (.cells (ints (D.set i x)) true es)):=by
 rw[←ints_set hi];exact fQ (n:=1) (v:=.int .i64 x) hh.hb rfl (by rw[ck,Nat.mul_one];exact hi) rfl
theorem qp.next{h:Heap}{m b es:Nat}{op:Bool}{D:List Int}(hh:qp h m b es op D)(i:Nat)(x:Int):qp (h.set b (.cells (ints (D.set i x)) true es)) m b es op (D.set i x):=
 ⟨by rw[bw hh.ne,List.length_set];exact hh.hm,aV,hh.ne,hh.lm,hh.lb⟩
def n8(D:List Int)(id:Int):Bool:=decide (0≤id)&&(decide (id<(D.length:Int))&&decide (0≤gD D id.toNat))
theorem DF{h:Heap}{m b es:Nat}{op:Bool}{D:List Int}(hh:qp h m b es op D)(id:Int){Q:AV→Heap→Prop}(hQ:Q (.bool (n8 D id)) h):VD fs ms 59 [.ptr m 0,.int .i64 id] h Q:=by
 refine aE (af:=R3) true rfl (Nat.le_of_ble_eq_true rfl) ?_;unfold n8 at hQ;conv=>whnf
 refine br (fun hc=>?_) (fun hc=>?_)<;>(try rw[hc])<;>(conv=>whnf)
 ·have h0:0≤id:=of_decide_eq_true hc;obtain⟨i,rfl⟩:∃i:Nat,id=i:=⟨id.toNat,by omega⟩;rw[decide_eq_true h0] at hQ;refine⟨_,hh.row,?_⟩;conv=>whnf
  refine br (fun hc=>?_) (fun hc=>?_)<;>(try rw[hc])<;>(conv=>whnf)
  ·have h1:i<D.length:=by have:=of_decide_eq_true hc;omega
   refine⟨_,hh.row,?_⟩;conv=>whnf
   refine⟨_,bh h1,?_⟩;conv=>whnf
   refine⟨_,hh.get h1,?_⟩;conv=>whnf
   have gR:decide ((i:Int)<(D.length:Int))=true:=hc;rw[gR,Bool.true_and,Bool.true_and] at hQ;exact hQ
  ·have gR:decide ((i:Int)<(D.length:Int))=false:=hc;rw[gR,Bool.true_and,Bool.false_and] at hQ;exact hQ
 ·rw[hc,Bool.false_and] at hQ;exact hQ
theorem DV{h:Heap}{m b es:Nat}{op:Bool}{D:List Int}(hh:qp h m b es op D)(id:Int){Q:AV→Heap→Prop}(h1:n8 D id=false→Q (.cg [.int .i64 0,.bool false]) h)
  (h2:n8 D id=true→Q (.cg [.int .i64 (gD D id.toNat),.bool true]) h):VD fs ms 62 [.ptr m 0,.int .i64 id] h Q:=by
 refine aE (af:=R6) true rfl (Nat.le_of_ble_eq_true rfl) ?_;conv=>whnf
 refine DF hh id ?_;conv=>whnf
 cases hb:n8 D id with
 |false=>
  conv=>whnf
  exact h1 hb
 |true=>
  have hb':=hb;simp only[n8,Bool.and_eq_true,decide_eq_true_eq] at hb';obtain⟨i,rfl⟩:∃i:Nat,id=i:=⟨id.toNat,by omega⟩;conv=>whnf
  refine⟨_,hh.row,?_⟩;conv=>whnf
  refine⟨_,bh (by omega),?_⟩;conv=>whnf
  refine⟨_,hh.get (by omega),?_⟩;conv=>whnf
  exact h2 hb
theorem zi{h:Heap}{m b es:Nat}{op:Bool}{D:List Int}(hh:qp h m b es op D)(id d:Int){Q:AV→Heap→Prop}(h1:id<0∨(D.length:Int)≤id→Q (.int .i64 9) h)(h2:¬(id<0∨(D.length:Int)≤id)→d<0∨1099511627840<d→Q (.int .i64 2) h)
  (h3:¬(id<0∨(D.length:Int)≤id)→¬(d<0∨1099511627840<d)→0≤gD D id.toNat→Q (.int .i64 141) h)
  (h4:¬(d<0∨1099511627840<d)→∀i:Nat,id=i→i<D.length→gD D i<0→∀h',qp h' m b es op (D.set i d)→Fr h h' [b]→Q (.int .i64 0) h'):VD fs ms 30 [.ptr m 0,.int .i64 id,.int .i64 d] h Q:=by
 refine aE (af:=RK) true rfl (Nat.le_of_ble_eq_true rfl) ?_;conv=>whnf
 refine br (fun hc=>?_) (fun hc=>?_)<;>(try rw[hc])<;>(conv=>whnf)
 ·exact h1 (.inl (of_decide_eq_true hc))
 ·have i0:¬id<0:=of_decide_eq_false hc;refine⟨_,hh.row,?_⟩;conv=>whnf
  refine br (fun hc=>?_) (fun hc=>?_)<;>(try rw[hc])<;>(conv=>whnf)
  ·exact h1 (.inr (of_decide_eq_true hc))
  ·have i1:¬(D.length:Int)≤id:=of_decide_eq_false hc;have hin:¬(id<0∨(D.length:Int)≤id):=by omega
   obtain⟨i,rfl⟩:∃i:Nat,id=i:=⟨id.toNat,by omega⟩;refine br (fun hc=>?_) (fun hc=>?_)<;>(try rw[hc])<;>(conv=>whnf)
   ·exact h2 hin (.inl (of_decide_eq_true hc))
   ·have d0:¬d<0:=of_decide_eq_false hc;refine br (fun hc=>?_) (fun hc=>?_)<;>(try rw[hc])<;>(conv=>whnf)
    ·exact h2 hin (.inr (of_decide_eq_true hc))
    ·have d1:¬1099511627840<d:=of_decide_eq_false hc;have hdn:¬(d<0∨1099511627840<d):=by omega
     refine DF hh _ ?_;conv=>whnf
     cases hb:n8 D (i:Int) with
     |true=>
      have hb':=hb;simp only[n8,Bool.and_eq_true,decide_eq_true_eq] at hb';conv=>whnf
      exact h3 hin hdn hb'.2.2
     |false=>
      have hneg:gD D i<0:=by
       simp only[n8,Bool.and_eq_false_iff,decide_eq_false_iff_not,Int.toNat_natCast] at hb;omega
      conv=>whnf
      refine⟨_,hh.row,?_⟩;conv=>whnf
      refine⟨_,bh (by omega),?_⟩;conv=>whnf
      refine bA (hh.put (by omega) d) fun h' e'=>?_;conv=>whnf
      exact h4 hdn i rfl (by omega) hneg h' (by rw[e'];exact hh.next i d) (by rw[e'];exact(Fr.refl h [b]).set (by simp))
theorem xU{h:Heap}{m b es:Nat}{op:Bool}{D:List Int}(hh:qp h m b es op D)(id:Int){Q:AV→Heap→Prop}(h1:n8 D id=false→Q (.bool false) h)
  (h2:∀i:Nat,id=i→i<D.length→0≤gD D i→∀h',qp h' m b es op (D.set i (-1))→Fr h h' [b]→Q (.bool true) h'):VD fs ms 32 [.ptr m 0,.int .i64 id] h Q:=by
 refine aE (af:=RL) true rfl (Nat.le_of_ble_eq_true rfl) ?_;conv=>whnf
 refine DF hh id ?_;conv=>whnf
 cases hb:n8 D id with
 |false=>
  conv=>whnf
  exact h1 hb
 |true=>
  simp only[n8,Bool.and_eq_true,decide_eq_true_eq] at hb;obtain⟨i,rfl⟩:∃i:Nat,id=i:=⟨id.toNat,by omega⟩;conv=>whnf
  refine⟨_,hh.row,?_⟩;conv=>whnf
  refine⟨_,bh (by omega),?_⟩;conv=>whnf
  refine bA (hh.put (by omega) (-1)) fun h' e'=>?_;conv=>whnf
  exact h2 i rfl (by omega) hb.2.2 h' (by rw[e'];exact hh.next i (-1)) (by rw[e'];exact(Fr.refl h [b]).set (by simp))
theorem qp.grow{h:Heap}{m b es:Nat}{op:Bool}{D:List Int}(hh:qp h m b es op D)(ho:(D=[]∧op=false)∨(op=true∧es=1))(hl:D.length≤1000)(x:Int):∃v' g',eV (.append 1 8) [.sl b 0 D.length D.length op,.sl h.next 0 1 1 false] (h.new (.cells [.int .i64 x] true 0))=some (v',g')∧
  g'.get m=h.get m∧v'=.sl (h.next+1) 0 (D.length+1) (D.length+1) true∧g'.next=h.next+2∧g'.get (h.next+1)=some (.cells (ints (D++[x])) true 1)∧∀c,c<h.next→c≠b→g'.get c=h.get c:=by
 have hsrc:eC 1 (h.new (.cells [.int .i64 x] true 0)) (.sl h.next 0 1 1 false)=some (1,[.int .i64 x]):=nU aB rfl;have hb:(h.new (.cells [.int .i64 x] true 0)).get b=some (.cells (ints D) true es):=by rw[aH hh.lb];exact hh.hb
 have key:∀c,c<h.next→c≠b→((h.new (.cells [.int .i64 x] true 0)).new (.cells (ints (D++[x])) true 1)).get c=h.get c:=fun c hc _=>
  (aH (h:=h.new (.cells [.int .i64 x] true 0)) (show c<h.next+1 by omega)).trans (aH hc)
 rcases ho with⟨rfl,rfl⟩|⟨rfl,rfl⟩
 ·refine⟨_,_,xm (n:=0) hb hsrc rfl (by omega) (by omega),key m hh.lm hh.ne,rfl,rfl,aB (h:=h.new (.cells [.int .i64 x] true 0)),key⟩
 ·have hi:ints D++[.int .i64 x]=ints (D++[x]):=by simp[ints]
  have QM:∀c,c<h.next→c≠b→(((h.new (.cells [.int .i64 x] true 0)).del b).new (.cells (ints D++[.int .i64 x]) true 1)).get c=h.get c:=fun c hc hn=>
   (aH (h:=(h.new (.cells [.int .i64 x] true 0)).del b) (show c<h.next+1 by omega)).trans ((fX hn).trans (aH hc))
  refine⟨_,_,rC hb (by rw[ck,Nat.mul_one]) hsrc rfl (by omega) (by omega),QM m hh.lm hh.ne,rfl,rfl,?_,QM⟩;rw[←hi];exact aB (h:=(h.new (.cells [.int .i64 x] true 0)).del b)
def rep(i:Nat):List Int:=List.replicate i (-1)
theorem sF(i:Nat):(rep i).length=i:=List.length_replicate ..
theorem Bx(i:Nat):rep (i+1)=rep i++[-1]:=List.replicate_succ' ..
theorem EZ{n m:Nat}{h0:Heap}{B:Nat}{Q:AX→Env→Heap→Prop}(h4:n≤4)(hm0:h0.next≤m):
  ∀(k i:Nat) (h:Heap) (b es:Nat) (op:Bool) (env:Env),n-i=k→qp h m b es op (rep i)→h0.next≤b→(rep i=[]∧op=false)∨(op=true∧es=1)→i≤n→Fr h0 h []→
  aW env [(0,.int .i64 ((n:Nat):Int)),(4,.ptr m 0),(5,.int .i64 ((i:Nat):Int))]→
  (∀(h':Heap) (b' es':Nat) (op':Bool) (e':Env),Tr.get e' 4=some (.ptr m 0)→qp h' m b' es' op' (rep n)→h0.next≤b'→Fr h0 h' []→Q (.exit 0) e' h')→
  VC fs ms B false (.loop iZ) env h Q:=by
 intro k;induction k using Nat.strongRecOn with
 |ind k ih=>
 intro i h b es op env hk hh hb ho hi kC bM hQ;refine an 3 [(0,.int .i64 ((n:Nat):Int)),(4,.ptr m 0),(5,.int .i64 ((i:Nat):Int))] bM ?_;refine bB (z:=true) ?_;conv=>whnf
 refine br (fun hc=>?_) (fun hc=>?_)<;>(try rw[hc])<;>(conv=>whnf)
 ·have hlt:i<n:=by have:=of_decide_eq_true hc;omega
  refine⟨_,hh.row,?_⟩;conv=>whnf
  obtain⟨v',g',a1,a2,a3,a4,a5,a6⟩:=hh.grow ho (by rw[sF];omega) (-1);refine bA a1 fun h1 e1=>?_;subst e1;conv=>whnf
  have lm:=hh.lm;have lb:=hh.lb;refine bA (fQ (a2.trans hh.hm) (by subst a3;rfl) (Nat.le_refl _) (by subst a3;rfl)) fun h2 e2=>?_;conv=>whnf
  have lV:qp h2 m (h.next+1) 1 true (rep (i+1)):=by
   refine⟨?_,?_,by omega,?_,?_⟩
   ·rw[e2,aV,a3,Bx,List.length_append];rfl
   ·rw[e2,bw (by omega),Bx];exact a5
   ·rw[e2];show m<h1.next;omega
   ·rw[e2];show h.next+1<h1.next;omega
  have iI:Fr h0 h2 []:=by
   have:=kC.next;refine⟨by rw[e2];show h0.next≤h1.next;omega,fun c hc _=>?_⟩;rw[e2,bw (by omega),a6 c (by omega) (by omega)];exact kC.keep c hc (by simp)
  refine ih (n-(i+1)) (by omega) (i+1) h2 (h.next+1) 1 true _ rfl lV (by have:=kC.next;omega) (.inr ⟨rfl,rfl⟩) (by omega) iI ⟨rfl,rfl,aS (by omega),trivial⟩ hQ
 ·have hge:i=n:=by have:=of_decide_eq_false hc;omega
  subst hge;exact hQ h b es op _ rfl hh hb kC
theorem HI{h:Heap}(n:Int){Q:AV→Heap→Prop}(h1:n<0∨4<n→Q (.cg [.de,.int .i64 2]) h)
  (h2:∀i:Nat,n=i→i≤4→∀h' m b es op,qp h' m b es op (rep i)→h.next≤m→h.next≤b→Fr h h' []→Q (.cg [.ptr m 0,.int .i64 0]) h'):VD fs ms 28 [.int .i64 n] h Q:=by
 refine bC (af:=RJ) rfl (Nat.le_of_ble_eq_true rfl) ?_;conv=>whnf
 refine aa true ?_;conv=>whnf
 refine aa true ?_;conv=>whnf
 refine br (fun hc=>?_) (fun hc=>?_)<;>(try rw[hc])<;>(conv=>whnf)
 ·exact h1 (.inl (of_decide_eq_true hc))
 ·have hn0:¬n<0:=of_decide_eq_false hc;refine br (fun hc=>?_) (fun hc=>?_)<;>(try rw[hc])<;>(conv=>whnf)
  ·exact h1 (.inr (of_decide_eq_true hc))
  ·have hn4:¬4<n:=of_decide_eq_false hc;obtain⟨i,rfl⟩:∃i:Nat,n=i:=⟨n.toNat,by omega⟩;refine aa true ?_;conv=>whnf
   refine aJ (aa true ?_);conv=>whnf
   refine aG ?_;refine EZ (h0:=h) (n:=i) (m:=h.next+1) (by omega) (by omega) _ 0 _ h.next 0 false _ rfl ⟨?_,?_,by omega,?_,?_⟩ (Nat.le_refl _) (.inl ⟨rfl,rfl⟩) (Nat.zero_le _) (Fr.refl h []).new.new ⟨rfl,rfl,rfl,trivial⟩ ?_
   ·exact aB (h:=h.new _)
   ·exact(aH (h:=h.new _) (Nat.lt_succ_self _)).trans aB
   ·exact Nat.lt_succ_self _
   ·show h.next<h.next+1+1;omega
   intro h' b' es' op' e' g4 k1 k2 k3;show VC fs ms _ _ _ _ _ _;refine an 3 [(4,.ptr (h.next+1) 0)] ⟨g4,trivial⟩ (aq (z:=true) ?_);conv=>whnf
   exact h2 i rfl (by omega) h' _ b' es' op' k1 (by omega) k2 k3
end Ir
end Go.Proofs.Ytenafeojcgmnhaa
