/-
  Ready: two queues; in which order jobs were put counts for nothing.
-/
import Derived.Test.YtenafeojcgmnhaaVRdR
set_option maxRecDepth 100000
set_option linter.unusedSimpArgs false
set_option linter.unusedVariables false
namespace Go.Proofs.Ytenafeojcgmnhaa
open Go Ads
namespace Ir
def LC(l:List Bool):List AV:=l.map AV.bool
theorem vp{V:List Int}{i:Nat}(h:i<V.length):(ints V)[i]?=some (.int .i64 (gD V i)):=by
 rw[ints,List.getElem?_map,List.getElem?_eq_getElem h,DE h];rfl
theorem yB{W:List Bool}{i:Nat}(h:i<W.length):(LC W)[i]?=some (.bool (W.getD i false)):=by
 rw[LC,List.getElem?_map,List.getD_eq_getElem?_getD,List.getElem?_eq_getElem h];rfl
structure FL(h:Heap)(a:Nat)(Sa:List Nat)(b:Nat)(Sb:List Nat)(La Lb:List Id)(c d:Nat)(V:List Int)(W:List Bool):Prop where
 qa:sU h a Sa 4 La
 qb:sU h b Sb 4 Lb
 EB:∀x∈Sa,x∉Sb
 gc:h.get c=some (.cells (ints V) true 0)
 gd:h.get d=some (.cells (LC W) true 0)
 lc:c<h.next
 ld:d<h.next
 ca:c∉Sa
 cb:c∉Sb
 da:d∉Sa
 db:d∉Sb
theorem Own.off{h h':Heap}{S S':List Nat}(o:Own h h' S S'){c:Nat}(hc:c<h.next)(hn:c∉S):c∉S':=by
 intro hm;rcases o.new c hm with h|h
 ·exact hn h
 ·omega
theorem FL.Nu{h h':Heap}{a b c d:Nat}{Sa Sb FJ:List Nat}{La Lb FF:List Id}{V:List Int}{W:List Bool}(T:FL h a Sa b Sb La Lb c d V W)(hq:sU h' b FJ 4 FF)(o:Own h h' Sb FJ):FL h' a Sa b FJ La FF c d V W:=
 ⟨T.qa.keep o.fr T.EB,hq,fun x hx=>o.off (T.qa.own x hx) (T.EB x hx),by rw[o.fr.keep c T.lc T.cb];exact T.gc,by rw[o.fr.keep d T.ld T.db];exact T.gd,Nat.lt_of_lt_of_le T.lc o.fr.next,Nat.lt_of_lt_of_le T.ld o.fr.next,T.ca,o.off T.lc T.cb,T.da,o.off T.ld T.db⟩
theorem FL.U2{h h':Heap}{a b c d:Nat}{Sa Sb I0:List Nat}{La Lb KN:List Id}{V:List Int}{W:List Bool}(T:FL h a Sa b Sb La Lb c d V W)(hq:sU h' a I0 4 KN)(o:Own h h' Sa I0):FL h' a I0 b Sb KN Lb c d V W:=
 ⟨hq,T.qb.keep o.fr (fun x hx UK=>T.EB x UK hx),fun x hx SX=>(o.off (T.qb.own x SX) (fun UK=>T.EB x UK SX)) hx,by rw[o.fr.keep c T.lc T.ca];exact T.gc,by rw[o.fr.keep d T.ld T.da];exact T.gd,Nat.lt_of_lt_of_le T.lc o.fr.next,Nat.lt_of_lt_of_le T.ld o.fr.next,o.off T.lc T.ca,T.cb,o.off T.ld T.da,T.db⟩
def F8(V:List Int)(k:Nat):Int:=eR (gD V k) 100
theorem F9(V:List Int)(k:Nat):0≤F8 V k∧F8 V k<100:=⟨Int.emod_nonneg _ (by omega),Int.emod_lt_of_pos _ (by omega)⟩
theorem Nl{a b c d:Nat}{V:List Int}{W:List Bool}{wg:Int}{r:Nat}(hr:eR wg 4=r)(SN:r<4)(hV:V.length=4){B:Nat}{Q:AX→Env→Heap→Prop}:
  ∀(n i:Nat) (h:Heap) (Sa Sb:List Nat) (La Lb:List Id) (env:Env),4-i=n→i≤4→FL h a Sa b Sb La Lb c d V W→(∀y,y∈Lb↔∃j,j<i∧y=((j+r)%4,F8 V ((j+r)%4)))→
  aW env [(2,.int .i64 wg),(3,.ptr c 0),(4,.ptr d 0),(7,.ptr a 0),(9,.ptr b 0),(11,.int .i64 ((i:Nat):Int))]→
  (∀e' h' FJ FF,Tr.get e' 3=some (.ptr c 0)→Tr.get e' 4=some (.ptr d 0)→Tr.get e' 7=some (.ptr a 0)→Tr.get e' 9=some (.ptr b 0)→FL h' a Sa b FJ La FF c d V W→(∀y,y∈FF↔y.1<4∧y.2=F8 V y.1)→Q (.exit 0) e' h')→
  VC fs ms B false (.loop fe) env h Q:=by
 intro n;induction n using Nat.strongRecOn with
 |ind n ih=>
 intro i h Sa Sb La Lb env hn hi T hL bM hQ;refine an 4 [(2,.int .i64 wg),(3,.ptr c 0),(4,.ptr d 0),(7,.ptr a 0),(9,.ptr b 0),(11,.int .i64 ((i:Nat):Int))] bM ?_;refine bB (z:=true) ?_;conv=>whnf
 refine br (fun hc=>?_) (fun hc=>?_)<;>(try rw[hc])<;>(conv=>whnf)
 ·have hlt:i<4:=by have:=of_decide_eq_true hc;omega
  refine aZ (gP wg 4 (by omega) (by omega)) ?_;conv=>whnf
  rw[hr];refine⟨_,nN _ _ (by omega),?_⟩;conv=>whnf
  have hk:(IntKind.i64.wrap (((i:Nat):Int)+((r:Nat):Int))).tmod 4=(((i+r)%4:Nat):Int):=by
   rw[show((i:Nat):Int)+((r:Nat):Int)=((i+r:Nat):Int) by omega,iw (by omega),Int.tmod_eq_emod_of_nonneg (by omega)];rfl
  rw[hk];have Mz:(i+r)%4<4:=Nat.mod_lt _ (by omega);generalize hkk:(i+r)%4=k at*;refine⟨_,bu (o:=0) Mz,?_⟩;conv=>whnf
  refine⟨_,bQ T.gc (by rw[Nat.zero_add,Nat.mul_one];exact vp (by omega)),?_⟩;conv=>whnf
  refine aZ (gP (gD V k) 100 (by omega) (by omega)) ?_;conv=>whnf
  have hd:=F9 V k;refine oP T.qb _ _ (fun hb=>by omega) (fun _ hb=>?_) (fun _ _ y hy e=>?_) fun _ j hj _ hno h1 Tk Ti q1 q2 q3=>?_
  ·have:F8 V k<0∨1099511627840<F8 V k:=hb;omega
  ·obtain⟨j,hj,e2⟩:=(hL y).1 hy;rw[e2] at e;simp only at e;omega
  ·conv=>whnf
   have hjk:k=j:=by omega
   subst hjk;refine ih (4-(i+1)) (by omega) (i+1) h1 Sa Tk La Ti _ rfl (by omega) (T.Nu q1 q3) (fun y=>?_) ⟨rfl,rfl,rfl,rfl,rfl,aS (by omega),trivial⟩ hQ;rw[q2,hL];constructor
   ·rintro(⟨j,hj,e⟩|e)
    ·exact⟨j,by omega,e⟩
    ·exact⟨i,by omega,by rw[hkk];exact e⟩
   ·rintro⟨j,hj,e⟩;by_cases hji:j=i
    ·subst hji;rw[hkk] at e;exact .inr e
    ·exact .inl ⟨j,by omega,e⟩
 ·have hge:i=4:=by have:=of_decide_eq_false hc;omega
  subst hge;refine hQ _ h Sb Lb rfl rfl rfl rfl T fun y=>?_;rw[hL];constructor
  ·rintro⟨j,hj,rfl⟩;exact⟨Nat.mod_lt _ (by omega),rfl⟩
  ·rintro⟨h1,h2⟩;have e:((y.1+4-r)%4+r)%4=y.1:=by omega
   exact⟨(y.1+4-r)%4,Nat.mod_lt _ (by omega),by rw[e,←h2]⟩
theorem Nm{a b c d:Nat}{V:List Int}{W:List Bool}(hV:V.length=4)(hW:W.length=4){B:Nat}{Q:AX→Env→Heap→Prop}:
  ∀(n i:Nat) (h:Heap) (Sa Sb:List Nat) (La Lb:List Id) (env:Env),4-i=n→i≤4→FL h a Sa b Sb La Lb c d V W→(∀y,y∈La↔y.1<i∧W.getD y.1 false=true∧y.2=F8 V y.1)→(∀y,y∈Lb↔y.1<4∧y.2=F8 V y.1∧(y.1<i→W.getD y.1 false=true))→
  aW env [(3,.ptr c 0),(4,.ptr d 0),(7,.ptr a 0),(9,.ptr b 0),(13,.int .i64 ((i:Nat):Int))]→
  (∀e' h' I0 FJ KN FF,Tr.get e' 7=some (.ptr a 0)→Tr.get e' 9=some (.ptr b 0)→FL h' a I0 b FJ KN FF c d V W→(∀y,y∈KN↔y∈FF)→Q (.exit 2) e' h')→
  VC fs ms B false (.loop ff) env h Q:=by
 intro n;induction n using Nat.strongRecOn with
 |ind n ih=>
 intro i h Sa Sb La Lb env hn hi T hA hB bM hQ;refine an 4 [(3,.ptr c 0),(4,.ptr d 0),(7,.ptr a 0),(9,.ptr b 0),(13,.int .i64 ((i:Nat):Int))] bM ?_;refine bB (z:=true) ?_;conv=>whnf
 refine br (fun hc=>?_) (fun hc=>?_)<;>(try rw[hc])<;>(conv=>whnf)
 ·have hlt:i<4:=by have:=of_decide_eq_true hc;omega
  have hd:=F9 V i;refine⟨_,bu (o:=0) hlt,?_⟩;conv=>whnf
  refine⟨_,bQ T.gd (by rw[Nat.zero_add,Nat.mul_one];exact yB (by omega)),?_⟩;conv=>whnf
  cases hw:W.getD i false with
  |true=>
   conv=>whnf
   refine⟨_,bu (o:=0) hlt,?_⟩;conv=>whnf
   refine⟨_,bQ T.gc (by rw[Nat.zero_add,Nat.mul_one];exact vp (by omega)),?_⟩;conv=>whnf
   refine aZ (gP (gD V i) 100 (by omega) (by omega)) ?_;conv=>whnf
   refine oP T.qa _ _ (fun hb=>by omega) (fun _ hb=>?_) (fun _ _ y hy e=>?_) fun _ j hj _ hno h1 Sa1 La1 q1 q2 q3=>?_
   ·have:F8 V i<0∨1099511627840<F8 V i:=hb;omega
   ·have:=(hA y).1 hy;omega
   ·conv=>whnf
    have hij:i=j:=by omega
    subst hij;have T1:=T.U2 q1 q3;refine⟨_,bu (o:=0) hlt,?_⟩;conv=>whnf
    refine⟨_,bQ T1.gd (by rw[Nat.zero_add,Nat.mul_one];exact yB (by omega)),?_⟩;rw[hw];conv=>whnf
    refine ih (4-(i+1)) (by omega) (i+1) h1 Sa1 Sb La1 Lb _ rfl (by omega) T1 (fun y=>?_) (fun y=>?_) ⟨rfl,rfl,rfl,rfl,aS (by omega),trivial⟩ hQ
    ·rw[q2,hA];constructor
     ·rintro(⟨h1,h2,h3⟩|rfl)
      ·exact⟨by omega,h2,h3⟩
      ·exact⟨Nat.lt_succ_self _,hw,rfl⟩
     ·rintro⟨h1,h2,h3⟩;by_cases e:y.1=i
      ·right;rw[e] at h3;exact Prod.ext e h3
      ·exact .inl ⟨by omega,h2,h3⟩
    ·rw[hB];constructor
     ·rintro⟨h1,h2,h3⟩;refine⟨h1,h2,fun h=>?_⟩;by_cases e:y.1=i
      ·rw[e];exact hw
      ·exact h3 (by omega)
     ·rintro⟨h1,h2,h3⟩;exact⟨h1,h2,fun h=>h3 (by omega)⟩
  |false=>
   conv=>whnf
   refine⟨_,bu (o:=0) hlt,?_⟩;conv=>whnf
   refine⟨_,bQ T.gd (by rw[Nat.zero_add,Nat.mul_one];exact yB (by omega)),?_⟩;rw[hw];conv=>whnf
   refine p8 T.qb _ (fun hno=>?_) fun y e hy h1 Tk Ti q1 q2 q3=>?_
   ·exact absurd rfl (hno (i,F8 V i) ((hB _).2 ⟨hlt,rfl,fun h=>absurd h (Nat.lt_irrefl _)⟩))
   ·conv=>whnf
    have Ub:y.1=i:=by omega
    refine ih (4-(i+1)) (by omega) (i+1) h1 Sa Tk La Ti _ rfl (by omega) (T.Nu q1 q3) (fun y=>?_) (fun z=>?_) ⟨rfl,rfl,rfl,rfl,aS (by omega),trivial⟩ hQ
    ·rw[hA];constructor
     ·rintro⟨h1,h2,h3⟩;exact⟨by omega,h2,h3⟩
     ·rintro⟨h1,h2,h3⟩;refine⟨?_,h2,h3⟩;by_cases e:y.1=i
      ·rw[e,hw] at h2;cases h2
      ·omega
    ·rw[q2,hB,Ub];constructor
     ·rintro⟨⟨h1,h2,h3⟩,h4⟩;exact⟨h1,h2,fun h=>h3 (by omega)⟩
     ·rintro⟨h1,h2,h3⟩;refine⟨⟨h1,h2,fun h=>h3 (by omega)⟩,fun e=>?_⟩;have:=h3 (by omega);rw[e,hw] at this;cases this
 ·have hge:i=4:=by have:=of_decide_eq_false hc;omega
  subst hge;refine hQ _ h Sa Sb La Lb rfl rfl T fun y=>?_;rw[hA,hB];constructor
  ·rintro⟨h1,h2,h3⟩;exact⟨h1,h3,fun _=>h2⟩
  ·rintro⟨h1,h2,h3⟩;exact⟨h1,h3 h1,h2⟩
theorem LF(W:List Bool):iy (LC W)=true:=rE (enc:=AV.bool) (fun _=>rfl) W
theorem zx(V:List Int)(W:List Bool)(wg:Int)(hV:V.length=4)(hW:W.length=4):PC fs ms 9 [.agg (ints V),.agg (LC W),.int .i64 wg] (.bool true):=by
 refine j9 (by simp[iy,AV.cl,kG,LF]) rfl ?_;generalize hK:(fun(u:AV) (_:Heap)=>u=.bool true)=K;have BO:∀h,K (.bool true) h:=fun h=>by subst hK;rfl
 clear hK;generalize(⟨0,.nil⟩:Heap)=h0;refine bC (af:=C9) rfl (Nat.le_of_ble_eq_true rfl) ?_;conv=>whnf
 refine aa true ?_;conv=>whnf
 refine aa true ?_;conv=>whnf
 refine Bg 4 (fun hb=>by omega) fun _ _ h1 a Sa Uy VI sP=>?_;conv=>whnf
 have gc1:h1.get h0.next=some (.cells (ints V) true 0):=(sP.keep h0.next (Nat.lt_succ_of_lt (Nat.lt_succ_self _)) (by simp)).trans ((aH (h:=h0.new (.cells (ints V) true 0)) (Nat.lt_succ_self _)).trans aB);have gd1:h1.get (h0.next+1)=some (.cells (LC W) true 0):=(sP.keep (h0.next+1) (Nat.lt_succ_self _) (by simp)).trans (aB (h:=h0.new (.cells (ints V) true 0)));have n1:h0.next+2≤h1.next:=sP.next;have Pz:∀x∈Sa,h0.next+2≤x:=VI;clear VI sP;refine aa true ?_;conv=>whnf
 refine Bg 4 (fun hb=>by omega) fun _ _ h2 b Sb VZ TK iI=>?_;conv=>whnf
 have T:FL h2 a Sa b Sb [] [] h0.next (h0.next+1) V W:=by
  have f2:=iI.next;refine⟨Uy.keep iI (by simp),VZ,fun x hx SX=>by have:=Uy.own x hx;have:=TK x SX;omega,by rw[iI.keep _ (by omega) (by simp)];exact gc1,by rw[iI.keep _ (by omega) (by simp)];exact gd1,by omega,by omega,fun h=>by have:=Pz _ h;omega,fun h=>by have:=TK _ h;omega,fun h=>by have:=Pz _ h;omega,fun h=>by have:=TK _ h;omega⟩
 refine aa true ?_;conv=>whnf
 refine aJ (aa true ?_);conv=>whnf
 refine aG ?_;have hb0:0≤eR wg 4:=Int.emod_nonneg _ (by omega);have SB:eR wg 4<4:=Int.emod_lt_of_pos _ (by omega);refine Nl (r:=(eR wg 4).toNat) (V:=V) (W:=W) (wg:=wg) (by omega) (by omega) hV _ 0 h2 Sa Sb [] [] _ rfl (by omega) T (fun y=>⟨fun h=>by simp at h,fun⟨j,hj,_⟩=>by omega⟩) ⟨rfl,rfl,rfl,rfl,rfl,rfl,trivial⟩ ?_;intro e3 h3 Sb3 Lb3 g3 g4 g7 g9 T3 SA;show VC fs ms _ _ _ _ _ _;refine an 4 [(3,.ptr h0.next 0),(4,.ptr (h0.next+1) 0),(7,.ptr a 0),(9,.ptr b 0)] ⟨g3,g4,g7,g9,trivial⟩ ?_;refine aJ (aa true ?_);conv=>whnf
 refine aG ?_;refine Nm hV hW _ 0 h3 Sa Sb3 [] Lb3 _ rfl (by omega) T3 (fun y=>⟨fun h=>by simp at h,fun h=>by omega⟩) (fun y=>(SA y).trans ⟨fun h=>⟨h.1,h.2,fun h=>by omega⟩,fun h=>⟨h.1,h.2.1⟩⟩) ⟨rfl,rfl,rfl,rfl,rfl,trivial⟩ ?_;intro e4 h4 Sa4 Sb4 La4 Lb4 g7 g9 T4 N8;show VC fs ms _ _ _ _ _ _;refine an 4 [(7,.ptr a 0),(9,.ptr b 0)] ⟨g7,g9,trivial⟩ (aq (z:=true) ?_);conv=>whnf
 refine sA T4.qa fun h5 v5 M5 i5 o5 l5 DD=>?_;conv=>whnf
 refine sA (T4.qb.keep DD (by simp)) fun h6 v6 M6 i6 o6 l6 Ma=>?_;conv=>whnf
 have hM:M5=M6:=mq B0 BZ M5 M6 o5.pw o6.pw fun y=>by rw[o5.mem,o6.mem,N8]
 subst hM;obtain⟨z1,f1⟩:=(i5.keep Ma).Gs;obtain⟨z2,f2⟩:=i6.Gs;refine jv (jg z1 z2 (oe M5) (by rw[dw];omega)) rfl (.cons f1 (.cons f2 .nil)) ?_;conv=>whnf
 refine aZ nh ?_;conv=>whnf
 exact BO _
end Ir
end Go.Proofs.Ytenafeojcgmnhaa
