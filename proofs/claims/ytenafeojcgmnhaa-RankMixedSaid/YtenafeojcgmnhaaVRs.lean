/-
  Rows of ids, sorted in place: what is needed of numbers and of rows; reversing. Rows of ids, sorted in place: parting. Rows of ids, sorted in place: a pivot is chosen; patterns are broken. Rows of ids, sorted in place: a pivot is chosen; patterns are broken. Rows of ids, sorted in place: patterns are broken. Rows of ids, sorted in place: sorted in part. Rows of ids, sorted in place: by a heap. Rows of ids, sorted in place: all of it. Rank: Ids of any number.
-/
import Derived.Test.YtenafeojcgmnhaaVRdI
import Derived.Test.YtenafeojcgmnhaaVRdJ
set_option maxRecDepth 100000
set_option linter.unusedSimpArgs false
set_option linter.unusedVariables false
namespace Go.Proofs.Ytenafeojcgmnhaa
open Go Ads
namespace Ir
theorem bz{b N cap i:Nat}{op:Bool}{z:Int}(hz:z=((i:Nat):Int))(hi:i<N):pV (.ak 2) [.sl b 0 N cap op,.int .i64 z]=some (.ptr b (i*2)):=by
 subst hz;exact bh hi
theorem FN{x y:Id}(hn:x.1≠y.1)(h:ah x y=false):ah y x=true:=by rw[gH];rw[eJ] at h;omega
theorem tQ{x y:Id}(h:¬uo x y<0):ah x y=false:=by
 rw[←Bool.not_eq_true,←iS];exact h
theorem RS.all{a e:Nat}{L M:List Id}(h:RS a e L M){p:Id→Prop}(hp:∀k,a≤k→k<e→p (gI L k)):∀k,a≤k→k<e→p (gI M k):=by
 intro k k1 k2;obtain⟨j,j1,j2,j3⟩:=(h.mem (gI M k)).2 ⟨k,k1,k2,rfl⟩;rw[←j3];exact hp j j1 j2
def Fs(L:List Id)(a e:Nat):Prop:=0<a→∀k,a≤k→k<e→ah (gI L (a-1)) (gI L k)=true
theorem Fs.rs{L M:List Id}{a e:Nat}(h:Fs L a e)(r:RS a e L M):Fs M a e:=by
 intro h0;rw[r.out (a-1) (by omega)];exact r.all (p:=fun y=>ah (gI L (a-1)) y=true) (h h0)
structure Em(L:List Id)(a e m:Nat):Prop where
 am:a≤m
 me:m<e
 lo:∀k,a≤k→k<m→ah (gI L k) (gI L m)=true
 hi:∀k,m<k→k<e→ah (gI L k) (gI L m)=false
theorem Em.left{L M:List Id}{a e m:Nat}(h:Em L a e m)(r:RS a m L M):Em M a e m:=by
 have hm:=r.out m (by omega);refine⟨h.am,h.me,?_,fun k k1 k2=>?_⟩
 ·rw[hm];exact r.all (p:=fun y=>ah y (gI L m)=true) h.lo
 ·rw[hm,r.out k (by omega)];exact h.hi k k1 k2
theorem Em.right{L M:List Id}{a e m:Nat}(h:Em L a e m)(r:RS (m+1) e L M):Em M a e m:=by
 have hm:=r.out m (by omega);refine⟨h.am,h.me,fun k k1 k2=>?_,fun k k1 k2=>?_⟩
 ·rw[hm,r.out k (by omega)];exact h.lo k k1 k2
 ·rw[hm];exact r.all (p:=fun y=>ah y (gI L m)=false) (fun k k1 k2=>h.hi k (by omega) k2) k (by omega) k2
theorem Em.low{L:List Id}{a e m:Nat}(h:Em L a e m)(he:e≤L.length)(d:FB L):Fs L (m+1) e:=by
 intro _ k k1 k2;rw[Nat.add_sub_cancel];refine FN (fun e=>?_) (h.hi k (by omega) k2);have:=d k m (by omega) (by have:=h.me;omega) e;omega
theorem Em.Rr{L:List Id}{a e m:Nat}(h:Em L a e m)(h1:oa L a m)(h2:oa L (m+1) e):oa L a e:=by
 intro i j hi hij hj;rcases Nat.lt_trichotomy j m with c|c|c
 ·exact h1 i j hi hij c
 ·subst c;exact nX (h.lo i hi hij)
 ·rcases Nat.lt_trichotomy i m with d|d|d
  ·exact mL (h.hi j c hj) (nX (h.lo i hi d))
  ·subst d;exact h.hi j c hj
  ·exact h2 i j (by omega) hij hj
theorem Rk{b es cap a e N:Nat}{op:Bool}{rest:List AV}{h0:Heap}{L0:List Id}{B:Nat}{Q:AX→Env→Heap→Prop}(hN:N<2^60)(he:e≤N)
  (hQ:∀h' L' e',cO h' b es L' rest→RS a e L0 L'→Fr h0 h' [b]→Q (.exit 0) e' h'):
  ∀(m i j:Nat) (h:Heap) (L:List Id) (env:Env),j-i=m→a≤i→j<e→cO h b es L rest→L.length=N→RS a e L0 L→Fr h0 h [b]→aW env [(0,.sl b 0 N cap op),(8,.int .i64 ((i:Nat):Int)),(9,.int .i64 ((j:Nat):Int))]→
  VC fs ms B false (.loop dn) env h Q:=by
 intro m;induction m using Nat.strongRecOn with
 |ind m ih=>
 intro i j h L env hm hi hj hh hL hr fr bM;refine an 4 _ bM ?_;refine bB (z:=true) ?_;conv=>whnf
 refine br (fun hc=>?_) (fun hc=>?_)<;>(try rw[hc])<;>(conv=>whnf)
 ·have hlt:i<j:=by have:=of_decide_eq_true hc;omega
  refine⟨_,bz (i:=j) (by(first|with_reducible rfl|omega|(simp(disch:=omega) only[IntWalk.i64_in]<;>omega))) (by omega),?_⟩;conv=>whnf
  refine⟨_,(hh).one (by omega),?_⟩;conv=>whnf
  refine⟨_,bz (i:=i) (by(first|with_reducible rfl|omega|(simp(disch:=omega) only[IntWalk.i64_in]<;>omega))) (by omega),?_⟩;conv=>whnf
  refine⟨_,(hh).one (by omega),?_⟩;conv=>whnf
  refine⟨_,bz (i:=i) (by(first|with_reducible rfl|omega|(simp(disch:=omega) only[IntWalk.i64_in]<;>omega))) (by omega),?_⟩;conv=>whnf
  refine bA ((hh).put (by omega) _) fun g1 qy=>?_;conv=>whnf
  have qB:cO g1 b es ((L).set (i) (gI (L) (j))) rest:=by rw[qy];exact(hh).next
  refine⟨_,bz (i:=j) (by(first|with_reducible rfl|omega|(simp(disch:=omega) only[IntWalk.i64_in]<;>omega))) (by omega),?_⟩;conv=>whnf
  refine bA (qB.put (by rw[List.length_set];omega) _) fun g2 qz=>?_;conv=>whnf
  have ni:cO g2 b es (ju (L) (i) (j)) rest:=by rw[qz];exact qB.next
  have rT:Fr h g2 [b]:=by rw[qz,qy];exact((Fr.refl h [b]).set (by simp)).set (by simp)
  refine ih (j-1-(i+1)) (by omega) (i+1) (j-1) g2 _ _ rfl (by omega) (by omega) ni (by rw[dz];exact hL) (hr.trans (RS.swap (by omega) (by omega) (by omega) (by omega) (by omega))) (fr.trans rT) (by repeat' (first|exact trivial|refine And.intro (by first|with_reducible_and_instances rfl|(refine Eq.trans (b:=some (AV.int .i64 _)) rfl (congrArg (fun z=>some (AV.int .i64 z)) ?_);first|omega|(simp(disch:=omega) only[IntWalk.i64_in]<;>omega))|rfl) ?_))
 ·exact hQ h L _ hh hr fr
theorem Rl{h:Heap}{b es cap a e:Nat}{op:Bool}{L:List Id}{rest:List AV}(hh:cO h b es L rest)(hN:L.length<2^60)(ha:a<e)(he:e≤L.length){Q:AV→Heap→Prop}
  (hQ:∀h' L',cO h' b es L' rest→RS a e L L'→Fr h h' [b]→Q (.cg []) h'):
  VD fs ms 75 [.sl b 0 L.length cap op,.int .i64 ((a:Nat):Int),.int .i64 ((e:Nat):Int),fE] h Q:=by
 refine bC (af:=Sj) rfl (Nat.le_of_ble_eq_true rfl) ?_;conv=>whnf
 refine aa true ?_;conv=>whnf
 refine aa true ?_;conv=>whnf
 refine aG ?_;refine Rk hN he ?_ _ a (e-1) h L _ rfl (Nat.le_refl _) (by omega) hh rfl (RS.refl _ _ _) (Fr.refl _ _) (by repeat' (first|exact trivial|refine And.intro (by first|with_reducible_and_instances rfl|(refine Eq.trans (b:=some (AV.int .i64 _)) rfl (congrArg (fun z=>some (AV.int .i64 z)) ?_);first|omega|(simp(disch:=omega) only[IntWalk.i64_in]<;>omega))|rfl) ?_));intro h' L' e' k1 k2 k3;show Q (.cg []) h';exact hQ h' L' k1 k2 k3
end Ir
end Go.Proofs.Ytenafeojcgmnhaa
set_option maxRecDepth 100000
set_option linter.unusedSimpArgs false
set_option linter.unusedVariables false
namespace Go.Proofs.Ytenafeojcgmnhaa
open Go Ads
namespace Ir
def z9(b N cap a i j:Nat)(op:Bool):List (Nat×AV):=[(0,.sl b 0 N cap op),(1,.int .i64 ((a:Nat):Int)),(4,fE),(12,.int .i64 ((i:Nat):Int)),(13,.int .i64 ((j:Nat):Int))]
theorem Q7{b es cap N a j i0:Nat}{op:Bool}{rest:List AV}{h:Heap}{L:List Id}{B:Nat}{Q:AX→Env→Heap→Prop}(hh:cO h b es L rest)(hN:N<2^60)(hL:L.length=N)(hj:j<N)
  (hQ:∀i' e',i0≤i'→i'≤j+1→a<i'→(∀k,a<k→k<i'→ah (gI L k) (gI L a)=true)→(i'≤j→ah (gI L i') (gI L a)=false)→aW e' (z9 b N cap a i' j op)→Q (.exit 0) e' h):
  ∀(m i:Nat) (env:Env),j+1-i=m→i0≤i→i≤j+1→a<i→(∀k,a<k→k<i→ah (gI L k) (gI L a)=true)→aW env (z9 b N cap a i j op)→
  VC fs ms B false (.loop dK) env h Q:=by
 intro m;induction m using Nat.strongRecOn with
 |ind m ih=>
 intro i env hm P7 hi AK hs bM;refine an 4 _ bM ?_;refine bB (z:=true) ?_;unfold z9;conv=>whnf
 refine br (fun hc=>?_) (fun hc=>?_)<;>(try rw[hc])<;>(conv=>whnf)
 ·have hlt:i≤j:=by have:=of_decide_eq_true hc;omega
  refine⟨_,bz (i:=i) (by(first|with_reducible rfl|omega|(simp(disch:=omega) only[IntWalk.i64_in]<;>omega))) (by omega),?_⟩;conv=>whnf
  refine⟨_,(hh).one (by omega),?_⟩;conv=>whnf
  refine⟨_,bz (i:=a) (by(first|with_reducible rfl|omega|(simp(disch:=omega) only[IntWalk.i64_in]<;>omega))) (by omega),?_⟩;conv=>whnf
  refine⟨_,(hh).one (by omega),?_⟩;conv=>whnf
  refine aZ (kj _ _) ?_;conv=>whnf
  refine br (fun hc=>?_) (fun hc=>?_)<;>(try rw[hc])<;>(conv=>whnf)
  ·have rY:ah (gI L i) (gI L a)=true:=(iS _ _).1 (of_decide_eq_true hc);refine ih (j+1-(i+1)) (by omega) (i+1) _ rfl (by omega) (by omega) (by omega) (fun k k1 k2=>?_) (by repeat' (first|exact trivial|refine And.intro (by first|with_reducible_and_instances rfl|(refine Eq.trans (b:=some (AV.int .i64 _)) rfl (congrArg (fun z=>some (AV.int .i64 z)) ?_);first|omega|(simp(disch:=omega) only[IntWalk.i64_in]<;>omega))|rfl) ?_));by_cases e:k=i
   ·subst e;exact rY
   ·exact hs k k1 (by omega)
  ·exact hQ i _ P7 (by omega) AK hs (fun _=>tQ (of_decide_eq_false hc)) (by repeat' (first|exact trivial|refine And.intro (by first|with_reducible_and_instances rfl|(refine Eq.trans (b:=some (AV.int .i64 _)) rfl (congrArg (fun z=>some (AV.int .i64 z)) ?_);first|omega|(simp(disch:=omega) only[IntWalk.i64_in]<;>omega))|rfl) ?_))
 ·have hge:j<i:=by have:=of_decide_eq_false hc;omega
  exact hQ i _ P7 hi AK hs (fun h=>by omega) (by repeat' (first|exact trivial|refine And.intro (by first|with_reducible_and_instances rfl|(refine Eq.trans (b:=some (AV.int .i64 _)) rfl (congrArg (fun z=>some (AV.int .i64 z)) ?_);first|omega|(simp(disch:=omega) only[IntWalk.i64_in]<;>omega))|rfl) ?_))
theorem Q4{b es cap N a e i j0:Nat}{op:Bool}{rest:List AV}{h:Heap}{L:List Id}{B:Nat}{Q:AX→Env→Heap→Prop}(hh:cO h b es L rest)(hN:N<2^60)(hL:L.length=N)(he:e≤N)(AK:a<i)
  (hQ:∀j' e',j'≤j0→i≤j'+1→j'<e→(∀k,j'<k→k<e→ah (gI L k) (gI L a)=false)→(i≤j'→ah (gI L j') (gI L a)=true)→aW e' (z9 b N cap a i j' op)→Q (.exit 2) e' h):
  ∀(j:Nat) (env:Env),j≤j0→i≤j+1→j<e→(∀k,j<k→k<e→ah (gI L k) (gI L a)=false)→aW env (z9 b N cap a i j op)→
  VC fs ms B false (.loop dL) env h Q:=by
 intro j;induction j using Nat.strongRecOn with
 |ind j ih=>
 intro env hj0 hi JF hs bM;refine an 4 _ bM ?_;refine bB (z:=true) ?_;unfold z9;conv=>whnf
 refine br (fun hc=>?_) (fun hc=>?_)<;>(try rw[hc])<;>(conv=>whnf)
 ·have hlt:i≤j:=by have:=of_decide_eq_true hc;omega
  refine⟨_,bz (i:=j) (by(first|with_reducible rfl|omega|(simp(disch:=omega) only[IntWalk.i64_in]<;>omega))) (by omega),?_⟩;conv=>whnf
  refine⟨_,(hh).one (by omega),?_⟩;conv=>whnf
  refine⟨_,bz (i:=a) (by(first|with_reducible rfl|omega|(simp(disch:=omega) only[IntWalk.i64_in]<;>omega))) (by omega),?_⟩;conv=>whnf
  refine⟨_,(hh).one (by omega),?_⟩;conv=>whnf
  refine aZ (kj _ _) ?_;conv=>whnf
  cases tw:decide (uo (gI L j) (gI L a)<0) with
  |true=>
   conv=>whnf
   exact hQ j _ hj0 (by omega) JF hs (fun _=>(iS _ _).1 (of_decide_eq_true tw)) (by repeat' (first|exact trivial|refine And.intro (by first|with_reducible_and_instances rfl|(refine Eq.trans (b:=some (AV.int .i64 _)) rfl (congrArg (fun z=>some (AV.int .i64 z)) ?_);first|omega|(simp(disch:=omega) only[IntWalk.i64_in]<;>omega))|rfl) ?_))
  |false=>
   conv=>whnf
   refine ih (j-1) (by omega) _ (by omega) (by omega) (by omega) (fun k k1 k2=>?_) (by repeat' (first|exact trivial|refine And.intro (by first|with_reducible_and_instances rfl|(refine Eq.trans (b:=some (AV.int .i64 _)) rfl (congrArg (fun z=>some (AV.int .i64 z)) ?_);first|omega|(simp(disch:=omega) only[IntWalk.i64_in]<;>omega))|rfl) ?_));by_cases e:k=j
   ·subst e;exact tQ (of_decide_eq_false tw)
   ·exact hs k (by omega) k2
 ·have hge:j<i:=by have:=of_decide_eq_false hc;omega
  exact hQ j _ hj0 (by omega) JF hs (fun h=>by omega) (by repeat' (first|exact trivial|refine And.intro (by first|with_reducible_and_instances rfl|(refine Eq.trans (b:=some (AV.int .i64 _)) rfl (congrArg (fun z=>some (AV.int .i64 z)) ?_);first|omega|(simp(disch:=omega) only[IntWalk.i64_in]<;>omega))|rfl) ?_))
theorem Q8{b es cap N a j i0:Nat}{op:Bool}{rest:List AV}{h:Heap}{L:List Id}{B:Nat}{Q:AX→Env→Heap→Prop}(hh:cO h b es L rest)(hN:N<2^60)(hL:L.length=N)(hj:j<N)
  (hQ:∀i' e',i0≤i'→i'≤j+1→a<i'→(∀k,a<k→k<i'→ah (gI L k) (gI L a)=true)→(i'≤j→ah (gI L i') (gI L a)=false)→aW e' (z9 b N cap a i' j op)→Q (.exit 6) e' h):
  ∀(m i:Nat) (env:Env),j+1-i=m→i0≤i→i≤j+1→a<i→(∀k,a<k→k<i→ah (gI L k) (gI L a)=true)→aW env (z9 b N cap a i j op)→
  VC fs ms B false (.loop dN) env h Q:=by
 intro m;induction m using Nat.strongRecOn with
 |ind m ih=>
 intro i env hm P7 hi AK hs bM;refine an 4 _ bM ?_;refine bB (z:=true) ?_;unfold z9;conv=>whnf
 refine br (fun hc=>?_) (fun hc=>?_)<;>(try rw[hc])<;>(conv=>whnf)
 ·have hlt:i≤j:=by have:=of_decide_eq_true hc;omega
  refine⟨_,bz (i:=i) (by(first|with_reducible rfl|omega|(simp(disch:=omega) only[IntWalk.i64_in]<;>omega))) (by omega),?_⟩;conv=>whnf
  refine⟨_,(hh).one (by omega),?_⟩;conv=>whnf
  refine⟨_,bz (i:=a) (by(first|with_reducible rfl|omega|(simp(disch:=omega) only[IntWalk.i64_in]<;>omega))) (by omega),?_⟩;conv=>whnf
  refine⟨_,(hh).one (by omega),?_⟩;conv=>whnf
  refine aZ (kj _ _) ?_;conv=>whnf
  refine br (fun hc=>?_) (fun hc=>?_)<;>(try rw[hc])<;>(conv=>whnf)
  ·have rY:ah (gI L i) (gI L a)=true:=(iS _ _).1 (of_decide_eq_true hc);refine ih (j+1-(i+1)) (by omega) (i+1) _ rfl (by omega) (by omega) (by omega) (fun k k1 k2=>?_) (by repeat' (first|exact trivial|refine And.intro (by first|with_reducible_and_instances rfl|(refine Eq.trans (b:=some (AV.int .i64 _)) rfl (congrArg (fun z=>some (AV.int .i64 z)) ?_);first|omega|(simp(disch:=omega) only[IntWalk.i64_in]<;>omega))|rfl) ?_));by_cases e:k=i
   ·subst e;exact rY
   ·exact hs k k1 (by omega)
  ·exact hQ i _ P7 (by omega) AK hs (fun _=>tQ (of_decide_eq_false hc)) (by repeat' (first|exact trivial|refine And.intro (by first|with_reducible_and_instances rfl|(refine Eq.trans (b:=some (AV.int .i64 _)) rfl (congrArg (fun z=>some (AV.int .i64 z)) ?_);first|omega|(simp(disch:=omega) only[IntWalk.i64_in]<;>omega))|rfl) ?_))
 ·have hge:j<i:=by have:=of_decide_eq_false hc;omega
  exact hQ i _ P7 hi AK hs (fun h=>by omega) (by repeat' (first|exact trivial|refine And.intro (by first|with_reducible_and_instances rfl|(refine Eq.trans (b:=some (AV.int .i64 _)) rfl (congrArg (fun z=>some (AV.int .i64 z)) ?_);first|omega|(simp(disch:=omega) only[IntWalk.i64_in]<;>omega))|rfl) ?_))
theorem Q5{b es cap N a e i j0:Nat}{op:Bool}{rest:List AV}{h:Heap}{L:List Id}{B:Nat}{Q:AX→Env→Heap→Prop}(hh:cO h b es L rest)(hN:N<2^60)(hL:L.length=N)(he:e≤N)(AK:a<i)
  (hQ:∀j' e',j'≤j0→i≤j'+1→j'<e→(∀k,j'<k→k<e→ah (gI L k) (gI L a)=false)→(i≤j'→ah (gI L j') (gI L a)=true)→aW e' (z9 b N cap a i j' op)→Q (.exit 8) e' h):
  ∀(j:Nat) (env:Env),j≤j0→i≤j+1→j<e→(∀k,j<k→k<e→ah (gI L k) (gI L a)=false)→aW env (z9 b N cap a i j op)→
  VC fs ms B false (.loop dO) env h Q:=by
 intro j;induction j using Nat.strongRecOn with
 |ind j ih=>
 intro env hj0 hi JF hs bM;refine an 4 _ bM ?_;refine bB (z:=true) ?_;unfold z9;conv=>whnf
 refine br (fun hc=>?_) (fun hc=>?_)<;>(try rw[hc])<;>(conv=>whnf)
 ·have hlt:i≤j:=by have:=of_decide_eq_true hc;omega
  refine⟨_,bz (i:=j) (by(first|with_reducible rfl|omega|(simp(disch:=omega) only[IntWalk.i64_in]<;>omega))) (by omega),?_⟩;conv=>whnf
  refine⟨_,(hh).one (by omega),?_⟩;conv=>whnf
  refine⟨_,bz (i:=a) (by(first|with_reducible rfl|omega|(simp(disch:=omega) only[IntWalk.i64_in]<;>omega))) (by omega),?_⟩;conv=>whnf
  refine⟨_,(hh).one (by omega),?_⟩;conv=>whnf
  refine aZ (kj _ _) ?_;conv=>whnf
  cases tw:decide (uo (gI L j) (gI L a)<0) with
  |true=>
   conv=>whnf
   exact hQ j _ hj0 (by omega) JF hs (fun _=>(iS _ _).1 (of_decide_eq_true tw)) (by repeat' (first|exact trivial|refine And.intro (by first|with_reducible_and_instances rfl|(refine Eq.trans (b:=some (AV.int .i64 _)) rfl (congrArg (fun z=>some (AV.int .i64 z)) ?_);first|omega|(simp(disch:=omega) only[IntWalk.i64_in]<;>omega))|rfl) ?_))
  |false=>
   conv=>whnf
   refine ih (j-1) (by omega) _ (by omega) (by omega) (by omega) (fun k k1 k2=>?_) (by repeat' (first|exact trivial|refine And.intro (by first|with_reducible_and_instances rfl|(refine Eq.trans (b:=some (AV.int .i64 _)) rfl (congrArg (fun z=>some (AV.int .i64 z)) ?_);first|omega|(simp(disch:=omega) only[IntWalk.i64_in]<;>omega))|rfl) ?_));by_cases e:k=j
   ·subst e;exact tQ (of_decide_eq_false tw)
   ·exact hs k (by omega) k2
 ·have hge:j<i:=by have:=of_decide_eq_false hc;omega
  exact hQ j _ hj0 (by omega) JF hs (fun h=>by omega) (by repeat' (first|exact trivial|refine And.intro (by first|with_reducible_and_instances rfl|(refine Eq.trans (b:=some (AV.int .i64 _)) rfl (congrArg (fun z=>some (AV.int .i64 z)) ?_);first|omega|(simp(disch:=omega) only[IntWalk.i64_in]<;>omega))|rfl) ?_))
structure Pr(L:List Id)(a e i j:Nat):Prop where
 ai:a<i
 ij:i≤j+1
 je:j<e
 lo:∀k,a<k→k<i→ah (gI L k) (gI L a)=true
 hi:∀k,j<k→k<e→ah (gI L k) (gI L a)=false
theorem Pr.step{L:List Id}{a e i j:Nat}(h:Pr L a e i j)(hij:i≤j)(he:e≤L.length)(h1:ah (gI L i) (gI L a)=false)(h2:ah (gI L j) (gI L a)=true):i<j∧Pr (ju L i j) a e (i+1) (j-1):=by
 have hlt:i<j:=by
  rcases Nat.lt_or_ge i j with c|c
  ·exact c
  ·have:i=j:=by omega
   subst this;rw[h1] at h2;cases h2
 have AK:=h.ai;have JF:=h.je;have hg:=jo (V:=L) (show i<L.length by omega) (show j<L.length by omega);have ha:gI (ju L i j) a=gI L a:=by rw[hg,if_neg (by omega),if_neg (by omega)]
 refine⟨hlt,by omega,by omega,by omega,fun k k1 k2=>?_,fun k k1 k2=>?_⟩
 ·rw[ha,hg,if_neg (by omega)];by_cases hk:k=i
  ·rw[if_pos hk];exact h2
  ·rw[if_neg hk];exact h.lo k k1 (by omega)
 ·rw[ha,hg];by_cases hk:k=j
  ·rw[if_pos hk];exact h1
  ·rw[if_neg hk,if_neg (by omega)];exact h.hi k (by omega) k2
theorem Pr.done{L:List Id}{a e i j:Nat}(h:Pr L a e i j)(hij:j<i)(he:e≤L.length):Em (ju L j a) a e j:=by
 have AK:=h.ai;have JF:=h.je;have Wu:=h.ij;have hg:=jo (V:=L) (show j<L.length by omega) (show a<L.length by omega);have hj:gI (ju L j a) j=gI L a:=by
  rw[hg];by_cases c:j=a
  ·rw[if_pos c,c]
  ·rw[if_neg c,if_pos rfl]
 refine⟨by have:=h.ij;omega,JF,fun k k1 k2=>?_,fun k k1 k2=>?_⟩
 ·rw[hj,hg];by_cases hk:k=a
  ·rw[if_pos hk];exact h.lo j (by omega) hij
  ·rw[if_neg hk,if_neg (by omega)];exact h.lo k (by omega) (by have:=h.ij;omega)
 ·rw[hj,hg,if_neg (by omega),if_neg (by omega)];exact h.hi k k1 k2
theorem Q6{b es cap N a e:Nat}{op:Bool}{rest:List AV}{h0:Heap}{L0:List Id}{B:Nat}{Q:AX→Env→Heap→Prop}(hN:N<2^60)(he:e≤N)
  (hQ:∀h' L' i j e',cO h' b es L' rest→RS a e L0 L'→Pr L' a e i j→j<i→Fr h0 h' [b]→aW e' (z9 b N cap a i j op)→Q (.exit 4) e' h'):
  ∀(m i j:Nat) (h:Heap) (L:List Id) (env:Env),j+1-i=m→cO h b es L rest→L.length=N→RS a e L0 L→Fr h0 h [b]→Pr L a e i j→aW env (z9 b N cap a i j op)→
  VC fs ms B false (.loop dM) env h Q:=by
 intro m;induction m using Nat.strongRecOn with
 |ind m ih=>
 intro i j h L env hm hh hL hr fr hp bM;have Wz:=hp.je;refine cK (aG (aJ (aG ?_)));refine Q8 (i0:=i) hh hN hL (by omega) ?_ _ i env rfl (Nat.le_refl _) hp.ij hp.ai hp.lo bM;intro i' e1 i0 i1 i2 i3 i4 rX;show VC fs ms _ _ _ _ _ _;refine aJ (aG ?_);refine Q5 (j0:=j) hh hN hL he i2 ?_ j e1 (Nat.le_refl _) i1 hp.je hp.hi rX;intro j' e2 j0 j1 j2 j3 j4 GJ;show VC fs ms _ _ _ _ _ _;have Cs:Pr L a e i' j':=⟨i2,j1,j2,i3,j3⟩;refine an 4 _ GJ (aq (z:=true) ?_);unfold z9;conv=>whnf
 refine br (fun hc=>?_) (fun hc=>?_)<;>(try rw[hc])<;>(conv=>whnf)
 ·have hlt:j'<i':=by have:=of_decide_eq_true hc;omega
  exact hQ h L i' j' _ hh hr Cs hlt fr (by repeat' (first|exact trivial|refine And.intro (by first|with_reducible_and_instances rfl|(refine Eq.trans (b:=some (AV.int .i64 _)) rfl (congrArg (fun z=>some (AV.int .i64 z)) ?_);first|omega|(simp(disch:=omega) only[IntWalk.i64_in]<;>omega))|rfl) ?_))
 ·have hle:i'≤j':=by have:=of_decide_eq_false hc;omega
  obtain⟨hlt,Uw⟩:=Cs.step hle (by omega) (i4 (by omega)) (j4 hle);refine⟨_,bz (i:=j') (by(first|with_reducible rfl|omega|(simp(disch:=omega) only[IntWalk.i64_in]<;>omega))) (by omega),?_⟩;conv=>whnf
  refine⟨_,(hh).one (by omega),?_⟩;conv=>whnf
  refine⟨_,bz (i:=i') (by(first|with_reducible rfl|omega|(simp(disch:=omega) only[IntWalk.i64_in]<;>omega))) (by omega),?_⟩;conv=>whnf
  refine⟨_,(hh).one (by omega),?_⟩;conv=>whnf
  refine⟨_,bz (i:=i') (by(first|with_reducible rfl|omega|(simp(disch:=omega) only[IntWalk.i64_in]<;>omega))) (by omega),?_⟩;conv=>whnf
  refine bA ((hh).put (by omega) _) fun g1 qy=>?_;conv=>whnf
  have qB:cO g1 b es ((L).set (i') (gI (L) (j'))) rest:=by rw[qy];exact(hh).next
  refine⟨_,bz (i:=j') (by(first|with_reducible rfl|omega|(simp(disch:=omega) only[IntWalk.i64_in]<;>omega))) (by omega),?_⟩;conv=>whnf
  refine bA (qB.put (by rw[List.length_set];omega) _) fun g2 qz=>?_;conv=>whnf
  have ni:cO g2 b es (ju (L) (i') (j')) rest:=by rw[qz];exact qB.next
  have rT:Fr h g2 [b]:=by rw[qz,qy];exact((Fr.refl h [b]).set (by simp)).set (by simp)
  refine ih (j'-1+1-(i'+1)) (by omega) (i'+1) (j'-1) g2 _ _ rfl ni (by rw[dz];exact hL) (hr.trans (RS.swap (by omega) (by omega) (by omega) (by omega) (by omega))) (fr.trans rT) Uw (by repeat' (first|exact trivial|refine And.intro (by first|with_reducible_and_instances rfl|(refine Eq.trans (b:=some (AV.int .i64 _)) rfl (congrArg (fun z=>some (AV.int .i64 z)) ?_);first|omega|(simp(disch:=omega) only[IntWalk.i64_in]<;>omega))|rfl) ?_))
theorem Nx{h:Heap}{b es cap a e p:Nat}{op:Bool}{L:List Id}{rest:List AV}(hh:cO h b es L rest)(hN:L.length<2^60)(ha:a<e)(he:e≤L.length)(hp:a≤p)(VW:p<e){Q:AV→Heap→Prop}
  (hQ:∀h' L' m c,cO h' b es L' rest→RS a e L L'→Em L' a e m→Fr h h' [b]→Q (.cg [.int .i64 ((m:Nat):Int),.bool c]) h'):
  VD fs ms 78 [.sl b 0 L.length cap op,.int .i64 ((a:Nat):Int),.int .i64 ((e:Nat):Int),.int .i64 ((p:Nat):Int),fE] h Q:=by
 refine bC (af:=Sl) rfl (Nat.le_of_ble_eq_true rfl) ?_;conv=>whnf
 obtain⟨N,hL⟩:∃N,L.length=N:=⟨_,rfl⟩;rw[hL] at hN he⊢;refine aa true ?_;conv=>whnf
 refine aa true ?_;conv=>whnf
 refine⟨_,bz (i:=p) (by(first|with_reducible rfl|omega|(simp(disch:=omega) only[IntWalk.i64_in]<;>omega))) (by omega),?_⟩;conv=>whnf
 refine⟨_,(hh).one (by omega),?_⟩;conv=>whnf
 refine⟨_,bz (i:=a) (by(first|with_reducible rfl|omega|(simp(disch:=omega) only[IntWalk.i64_in]<;>omega))) (by omega),?_⟩;conv=>whnf
 refine⟨_,(hh).one (by omega),?_⟩;conv=>whnf
 refine⟨_,bz (i:=a) (by(first|with_reducible rfl|omega|(simp(disch:=omega) only[IntWalk.i64_in]<;>omega))) (by omega),?_⟩;conv=>whnf
 refine bA ((hh).put (by omega) _) fun g1z O7=>?_;conv=>whnf
 have PW:cO g1z b es ((L).set (a) (gI (L) (p))) rest:=by rw[O7];exact(hh).next
 refine⟨_,bz (i:=p) (by(first|with_reducible rfl|omega|(simp(disch:=omega) only[IntWalk.i64_in]<;>omega))) (by omega),?_⟩;conv=>whnf
 refine bA (PW.put (by rw[List.length_set];omega) _) fun N6 O8=>?_;conv=>whnf
 have T6:cO N6 b es (ju (L) (a) (p)) rest:=by rw[O8];exact PW.next
 have Tv:Fr h N6 [b]:=by rw[O8,O7];exact((Fr.refl h [b]).set (by simp)).set (by simp)
 have r0:RS a e L (ju L a p):=RS.swap (by omega) (by omega) (by omega) (by omega) (by omega);have GA:(ju L a p).length=N:=by rw[dz];exact hL
 have kC:=Tv;revert r0 GA T6;generalize ju L a p=M;intro hM r0 GA;refine aa true ?_;conv=>whnf
 refine an 4 (z9 b N cap a (a+1) (e-1) op) (by repeat' (first|exact trivial|refine And.intro (by first|with_reducible_and_instances rfl|(refine Eq.trans (b:=some (AV.int .i64 _)) rfl (congrArg (fun z=>some (AV.int .i64 z)) ?_);first|omega|(simp(disch:=omega) only[IntWalk.i64_in]<;>omega))|rfl) ?_)) ?_;refine aJ (aG ?_);refine Q7 (a:=a) (i0:=0) (j:=e-1) hM hN GA (by omega) ?_ _ (a+1) _ rfl (by omega) (by omega) (by omega) (fun k k1 k2=>by omega) (by repeat' (first|exact trivial|refine And.intro (by first|with_reducible_and_instances rfl|(refine Eq.trans (b:=some (AV.int .i64 _)) rfl (congrArg (fun z=>some (AV.int .i64 z)) ?_);first|omega|(simp(disch:=omega) only[IntWalk.i64_in]<;>omega))|rfl) ?_));intro i e1 i0 i1 i2 i3 i4 rX;show VC fs ms _ _ _ _ _ _;refine aJ (aG ?_);refine Q4 (a:=a) (j0:=e-1) hM hN GA he i2 ?_ (e-1) e1 (Nat.le_refl _) i1 (by omega) (fun k k1 k2=>by omega) rX;intro j e2 j0 j1 j2 j3 j4 GJ;show VC fs ms _ _ _ _ _ _;have Cs:Pr M a e i j:=⟨i2,j1,j2,i3,j3⟩;refine an 4 _ GJ ?_;unfold z9;refine aa true ?_;conv=>whnf
 refine br (fun hc=>?_) (fun hc=>?_)<;>(try rw[hc])<;>(conv=>whnf)
 ·have hlt:j<i:=by have:=of_decide_eq_true hc;omega
  refine⟨_,bz (i:=a) (by(first|with_reducible rfl|omega|(simp(disch:=omega) only[IntWalk.i64_in]<;>omega))) (by omega),?_⟩;conv=>whnf
  refine⟨_,(hM).one (by omega),?_⟩;conv=>whnf
  refine⟨_,bz (i:=j) (by(first|with_reducible rfl|omega|(simp(disch:=omega) only[IntWalk.i64_in]<;>omega))) (by omega),?_⟩;conv=>whnf
  refine⟨_,(hM).one (by omega),?_⟩;conv=>whnf
  refine⟨_,bz (i:=j) (by(first|with_reducible rfl|omega|(simp(disch:=omega) only[IntWalk.i64_in]<;>omega))) (by omega),?_⟩;conv=>whnf
  refine bA ((hM).put (by omega) _) fun g1 qy=>?_;conv=>whnf
  have qB:cO g1 b es ((M).set (j) (gI (M) (a))) rest:=by rw[qy];exact(hM).next
  refine⟨_,bz (i:=a) (by(first|with_reducible rfl|omega|(simp(disch:=omega) only[IntWalk.i64_in]<;>omega))) (by omega),?_⟩;conv=>whnf
  refine bA (qB.put (by rw[List.length_set];omega) _) fun g2 qz=>?_;conv=>whnf
  have ni:cO g2 b es (ju (M) (j) (a)) rest:=by rw[qz];exact qB.next
  have rT:Fr N6 g2 [b]:=by rw[qz,qy];exact((Fr.refl N6 [b]).set (by simp)).set (by simp)
  exact hQ _ _ j true ni (r0.trans (RS.swap (by omega) (by omega) (by omega) (by omega) (by omega))) (Cs.done hlt (by omega)) (kC.trans rT)
 ·have hle:i≤j:=by have:=of_decide_eq_false hc;omega
  obtain⟨hlt,Uw⟩:=Cs.step hle (by omega) (i4 (by omega)) (j4 hle);refine aa true ?_;conv=>whnf
  refine⟨_,bz (i:=j) (by(first|with_reducible rfl|omega|(simp(disch:=omega) only[IntWalk.i64_in]<;>omega))) (by omega),?_⟩;conv=>whnf
  refine⟨_,(hM).one (by omega),?_⟩;conv=>whnf
  refine⟨_,bz (i:=i) (by(first|with_reducible rfl|omega|(simp(disch:=omega) only[IntWalk.i64_in]<;>omega))) (by omega),?_⟩;conv=>whnf
  refine⟨_,(hM).one (by omega),?_⟩;conv=>whnf
  refine⟨_,bz (i:=i) (by(first|with_reducible rfl|omega|(simp(disch:=omega) only[IntWalk.i64_in]<;>omega))) (by omega),?_⟩;conv=>whnf
  refine bA ((hM).put (by omega) _) fun g1 qy=>?_;conv=>whnf
  have qB:cO g1 b es ((M).set (i) (gI (M) (j))) rest:=by rw[qy];exact(hM).next
  refine⟨_,bz (i:=j) (by(first|with_reducible rfl|omega|(simp(disch:=omega) only[IntWalk.i64_in]<;>omega))) (by omega),?_⟩;conv=>whnf
  refine bA (qB.put (by rw[List.length_set];omega) _) fun g2 qz=>?_;conv=>whnf
  have ni:cO g2 b es (ju (M) (i) (j)) rest:=by rw[qz];exact qB.next
  have rT:Fr N6 g2 [b]:=by rw[qz,qy];exact((Fr.refl N6 [b]).set (by simp)).set (by simp)
  refine aa true ?_;conv=>whnf
  refine aa true ?_;conv=>whnf
  refine aJ (aG ?_);have zZ:(ju M i j).length=N:=by rw[dz];exact GA
  refine Q6 hN he ?_ _ (i+1) (j-1) _ _ _ rfl ni zZ (r0.trans (RS.swap (by omega) (by omega) (by omega) (by omega) (by omega))) (kC.trans rT) Uw (by repeat' (first|exact trivial|refine And.intro (by first|with_reducible_and_instances rfl|(refine Eq.trans (b:=some (AV.int .i64 _)) rfl (congrArg (fun z=>some (AV.int .i64 z)) ?_);first|omega|(simp(disch:=omega) only[IntWalk.i64_in]<;>omega))|rfl) ?_));intro h3 L3 i3 j3 e3 m1 m2 m3 m4 m5 m6;show VC fs ms _ _ _ _ _ _;have SA:L3.length=N:=by rw[←m2.len];exact hL
  have q1:=m3.ai;have q2:=m3.ij;have q3:=m3.je;refine an 4 _ m6 (aq (z:=true) ?_);unfold z9;conv=>whnf
  refine⟨_,bz (i:=a) (by(first|with_reducible rfl|omega|(simp(disch:=omega) only[IntWalk.i64_in]<;>omega))) (by omega),?_⟩;conv=>whnf
  refine⟨_,(m1).one (by omega),?_⟩;conv=>whnf
  refine⟨_,bz (i:=j3) (by(first|with_reducible rfl|omega|(simp(disch:=omega) only[IntWalk.i64_in]<;>omega))) (by omega),?_⟩;conv=>whnf
  refine⟨_,(m1).one (by omega),?_⟩;conv=>whnf
  refine⟨_,bz (i:=j3) (by(first|with_reducible rfl|omega|(simp(disch:=omega) only[IntWalk.i64_in]<;>omega))) (by omega),?_⟩;conv=>whnf
  refine bA ((m1).put (by omega) _) fun g1 qy=>?_;conv=>whnf
  have qB:cO g1 b es ((L3).set (j3) (gI (L3) (a))) rest:=by rw[qy];exact(m1).next
  refine⟨_,bz (i:=a) (by(first|with_reducible rfl|omega|(simp(disch:=omega) only[IntWalk.i64_in]<;>omega))) (by omega),?_⟩;conv=>whnf
  refine bA (qB.put (by rw[List.length_set];omega) _) fun g2 qz=>?_;conv=>whnf
  have ni:cO g2 b es (ju (L3) (j3) (a)) rest:=by rw[qz];exact qB.next
  have rT:Fr h3 g2 [b]:=by rw[qz,qy];exact((Fr.refl h3 [b]).set (by simp)).set (by simp)
  exact hQ _ _ j3 false ni (m2.trans (RS.swap (by omega) (by omega) (by omega) (by omega) (by omega))) (m3.done m4 (by omega)) (m5.trans rT)
end Ir
end Go.Proofs.Ytenafeojcgmnhaa
set_option maxRecDepth 100000
set_option linter.unusedSimpArgs false
set_option linter.unusedVariables false
namespace Go.Proofs.Ytenafeojcgmnhaa
open Go Ads
namespace Ir
theorem Az{z d:Int}(n m:Nat)(hz:z=((n:Nat):Int))(hd:d=((m:Nat):Int))(hm:0<m)(hn:n<2^62):pV (.bin .quo) [.int .i64 z,.int .i64 d]=some (.int .i64 ((n/m:Nat):Int)):=by
 subst hz hd;rw[D9 _ _ (by omega)];have e2:((n:Nat):Int).tdiv ((m:Nat):Int)=((n/m:Nat):Int):=by rw[Int.tdiv_eq_ediv_of_nonneg (by omega)];rfl
 have:n/m≤n:=Nat.div_le_self _ _;rw[e2,iw (by omega)]
structure Sw(h:Heap)(k:IntKind)(s:Nat)(c:Int):Prop where
 hg:h.get s=some (.cells [.int k c] true 0)
 lt:s<h.next
theorem Sw.put{h:Heap}{k:IntKind}{s:Nat}{c:Int}(hs:Sw h k s c)(c':Int):eV (.store 1) [.ptr s 0,.int k c'] h=some (.undef,h.set s (.cells [.int k c'] true 0)):=
 fQ (n:=1) (v:=.int k c') hs.hg rfl (Nat.le_refl _) rfl
theorem Sw.next{h:Heap}{k:IntKind}{s:Nat}{c:Int}(hs:Sw h k s c)(c':Int):Sw (h.set s (.cells [.int k c'] true 0)) k s c':=⟨aV,hs.lt⟩
theorem Sw.keep{h h':Heap}{k:IntKind}{s:Nat}{c:Int}{bs:List Nat}(hs:Sw h k s c)(fr:Fr h h' bs)(hn:s∉bs):Sw h' k s c:=⟨by rw[fr.keep s hs.lt hn];exact hs.hg,Nat.lt_of_lt_of_le hs.lt fr.next⟩
theorem cO.keep{h h':Heap}{b es:Nat}{L:List Id}{rest:List AV}{bs:List Nat}(hs:cO h b es L rest)(fr:Fr h h' bs)(hn:b∉bs):cO h' b es L rest:=⟨by rw[fr.keep b hs.lb hn];exact hs.hb,Nat.lt_of_lt_of_le hs.lb fr.next⟩
theorem CK{h:Heap}{b es cap s i j:Nat}{op:Bool}{L:List Id}{rest:List AV}{c:Int}(hh:cO h b es L rest)(hs:Sw h .i64 s c)(hne:b≠s)(hi:i<L.length)(hj:j<L.length){Q:AV→Heap→Prop}
  (hQ:∀h' c' x y,(x=i∨x=j)→(y=i∨y=j)→Sw h' .i64 s c'→Fr h h' [s]→Q (.cg [.int .i64 ((x:Nat):Int),.int .i64 ((y:Nat):Int)]) h'):
  VD fs ms 86 [.sl b 0 L.length cap op,.int .i64 ((i:Nat):Int),.int .i64 ((j:Nat):Int),.ptr s 0,fE] h Q:=by
 refine aE (af:=Ss) true rfl (Nat.le_of_ble_eq_true rfl) ?_;conv=>whnf
 refine⟨_,bz (i:=j) (by(first|with_reducible rfl|omega|(simp(disch:=omega) only[IntWalk.i64_in]<;>omega))) (by omega),?_⟩;conv=>whnf
 refine⟨_,(hh).one (by omega),?_⟩;conv=>whnf
 refine⟨_,bz (i:=i) (by(first|with_reducible rfl|omega|(simp(disch:=omega) only[IntWalk.i64_in]<;>omega))) (by omega),?_⟩;conv=>whnf
 refine⟨_,(hh).one (by omega),?_⟩;conv=>whnf
 refine aZ (kj _ _) ?_;conv=>whnf
 refine br (fun hc=>?_) (fun hc=>?_)<;>(try rw[hc])<;>(conv=>whnf)
 ·refine⟨_,bQ hs.hg rfl,?_⟩;conv=>whnf
  refine bA (hs.put _) fun h1 e1=>?_;conv=>whnf
  refine hQ h1 _ j i (.inr rfl) (.inl rfl) (by rw[e1];exact hs.next _) ?_;rw[e1];exact(Fr.refl h [s]).set (by simp)
 ·exact hQ h _ i j (.inl rfl) (.inr rfl) hs (Fr.refl h [s])
theorem Ll{h:Heap}{b es cap s i j k:Nat}{op:Bool}{L:List Id}{rest:List AV}{c:Int}(hh:cO h b es L rest)(hs:Sw h .i64 s c)(hne:b≠s)(hi:i<L.length)(hj:j<L.length)(hk:k<L.length){Q:AV→Heap→Prop}
  (hQ:∀h' c' x,(x=i∨x=j∨x=k)→Sw h' .i64 s c'→Fr h h' [s]→Q (.int .i64 ((x:Nat):Int)) h'):
  VD fs ms 85 [.sl b 0 L.length cap op,.int .i64 ((i:Nat):Int),.int .i64 ((j:Nat):Int),.int .i64 ((k:Nat):Int),.ptr s 0,fE] h Q:=by
 refine aE (af:=Sr) true rfl (Nat.le_of_ble_eq_true rfl) ?_;conv=>whnf
 refine CK hh hs hne hi hj fun h1 c1 x1 y1 a1 b1 s1 f1=>?_;conv=>whnf
 have uu:=hh.keep f1 (by simp[hne]);refine CK uu s1 hne (i:=y1) (by omega) hk fun h2 c2 x2 y2 a2 b2 s2 f2=>?_;conv=>whnf
 have lV:=uu.keep f2 (by simp[hne]);refine CK lV s2 hne (i:=x1) (j:=x2) (by omega) (by omega) fun h3 c3 x3 y3 a3 b3 s3 f3=>?_;conv=>whnf
 exact hQ h3 c3 y3 (by omega) s3 ((f1.trans f2).trans f3)
theorem CA{h:Heap}{b es cap s i:Nat}{op:Bool}{L:List Id}{rest:List AV}{c:Int}(hh:cO h b es L rest)(hs:Sw h .i64 s c)(hne:b≠s)(hN:L.length<2^60)(h0:0<i)(hi:i+1<L.length){Q:AV→Heap→Prop}
  (hQ:∀h' c' x,i≤x+1→x≤i+1→Sw h' .i64 s c'→Fr h h' [s]→Q (.int .i64 ((x:Nat):Int)) h'):
  VD fs ms 84 [.sl b 0 L.length cap op,.int .i64 ((i:Nat):Int),.ptr s 0,fE] h Q:=by
 refine aE (af:=Sq) true rfl (Nat.le_of_ble_eq_true rfl) ?_;conv=>whnf
 rw[Dw (by omega) h0,mg (by omega)];refine Ll hh hs hne (i:=i-1) (j:=i) (k:=i+1) (by omega) (by omega) (by omega) fun h1 c1 x a1 s1 f1=>?_;conv=>whnf
 exact hQ h1 c1 x (by omega) (by omega) s1 f1
end Ir
end Go.Proofs.Ytenafeojcgmnhaa
set_option maxRecDepth 100000
set_option linter.unusedSimpArgs false
set_option linter.unusedVariables false
namespace Go.Proofs.Ytenafeojcgmnhaa
open Go Ads
namespace Ads
section
variable {fs:Nat→Option aC} {ms:Nat→String→Option Nat} {B:Nat} {rd:Bool}
end
end Ads
namespace Ir
theorem Kt{h:Heap}{b es cap a e:Nat}{op:Bool}{L:List Id}{rest:List AV}(hh:cO h b es L rest)(hN:L.length<2^60)(ha:a+12<e)(he:e≤L.length){Q:AV→Heap→Prop}
  (hQ:∀h' p t,cO h' b es L rest→a≤p→p<e→Fr h h' [b]→Q (.cg [.int .i64 ((p:Nat):Int),.int .i64 t]) h'):
  VD fs ms 74 [.sl b 0 L.length cap op,.int .i64 ((a:Nat):Int),.int .i64 ((e:Nat):Int),fE] h Q:=by
 obtain⟨q,q1,q2,q3⟩:∃q,q=(e-a)/4∧4*q≤e-a∧e-a<4*q+4:=⟨_,rfl,by omega,by omega⟩;have JD:∀{z:Int},z=((e-a:Nat):Int)→pV (.bin .quo) [.int .i64 z,.int .i64 4]=some (.int .i64 ((q:Nat):Int)):=fun hz=>by rw[q1];exact Az (e-a) 4 hz rfl (by omega) (by omega)
 clear q1;obtain⟨i,hi⟩:∃i,i=a+q:=⟨_,rfl⟩;obtain⟨j,hj⟩:∃j,j=a+q*2:=⟨_,rfl⟩;obtain⟨k,hk⟩:∃k,k=a+q*3:=⟨_,rfl⟩;have el:IntKind.i64.wrap (((e:Nat):Int)-((a:Nat):Int))=((e-a:Nat):Int):=by rw[IntWalk.i64_in _ (by omega)];omega
 have ei:IntKind.i64.wrap (((a:Nat):Int)+IntKind.i64.wrap (((q:Nat):Int)*1))=((i:Nat):Int):=by rw[IntWalk.i64_in (_*_) (by omega),IntWalk.i64_in _ (by omega)];omega
 have ej:IntKind.i64.wrap (((a:Nat):Int)+IntKind.i64.wrap (((q:Nat):Int)*2))=((j:Nat):Int):=by rw[IntWalk.i64_in (_*_) (by omega),IntWalk.i64_in _ (by omega)];omega
 have ek:IntKind.i64.wrap (((a:Nat):Int)+IntKind.i64.wrap (((q:Nat):Int)*3))=((k:Nat):Int):=by rw[IntWalk.i64_in (_*_) (by omega),IntWalk.i64_in _ (by omega)];omega
 refine bC (af:=Si) rfl (Nat.le_of_ble_eq_true rfl) ?_;conv=>whnf
 refine aa true ?_;conv=>whnf
 refine aa true ?_;conv=>whnf
 refine aa true ?_;conv=>whnf
 refine aa true ?_;conv=>whnf
 refine⟨_,JD (by(first|with_reducible rfl|omega|(simp(disch:=omega) only[IntWalk.i64_in]<;>omega))),?_⟩;conv=>whnf
 refine aa true ?_;conv=>whnf
 refine⟨_,JD (by(first|with_reducible rfl|omega|(simp(disch:=omega) only[IntWalk.i64_in]<;>omega))),?_⟩;conv=>whnf
 refine aa true ?_;conv=>whnf
 refine⟨_,JD (by(first|with_reducible rfl|omega|(simp(disch:=omega) only[IntWalk.i64_in]<;>omega))),?_⟩;conv=>whnf
 have hv:∀z z':Int,z=z'→some (AV.int .i64 z)=some (AV.int .i64 z'):=fun _ _ h=>by rw[h]
 have hb:=hh.lb;have kC:Fr h (h.new (.cells [.int .i64 0] true 0)) [b]:=(Fr.refl h [b]).new;have hs0:Sw (h.new (.cells [.int .i64 0] true 0)) .i64 h.next 0:=⟨aB,Nat.lt_succ_self _⟩;have GO:cO (h.new (.cells [.int .i64 0] true 0)) b es L rest:=⟨by rw[aH hb];exact hh.hb,Nat.lt_of_lt_of_le hb (Nat.le_succ _)⟩;have hne:b≠h.next:=by omega
 have VB:∀{g g':Heap},Fr h g [b]→Fr g g' [h.next]→Fr h g' [b]:=fun f1 f2=>⟨Nat.le_trans f1.next f2.next,fun c hc hn=>by
  rw[f2.keep c (Nat.lt_of_lt_of_le hc f1.next) (by simp;omega)];exact f1.keep c hc hn⟩
 refine an 4 [(0,.sl b 0 L.length cap op),(3,fE),(10,.int .i64 ((e-a:Nat):Int)),(11,.ptr h.next 0),(12,.int .i64 ((i:Nat):Int)),(13,.int .i64 ((j:Nat):Int)),(14,.int .i64 ((k:Nat):Int))] ⟨rfl,rfl,hv _ _ el,rfl,hv _ _ ei,hv _ _ ej,hv _ _ ek,trivial⟩ ?_;revert hs0 GO kC;generalize(h.new (.cells [.int .i64 0] true 0))=h1;intro kC hs0 GO;refine aJ ?_;refine VC.mono (Q:=fun x e2 h2=>x=.normal∧∃(p:Nat) (c:Int),a≤p∧p<e∧cO h2 b es L rest∧Sw h2 .i64 h.next c∧Fr h h2 [b]∧aW e2 [(11,.ptr h.next 0),(13,.int .i64 ((p:Nat):Int))]) ?_ ?_
 ·refine aa true ?_;conv=>whnf
  obtain⟨U,hU⟩:∃U:Nat,U=e-a:=⟨_,rfl⟩;rw[←hU];refine ng ?_;conv=>whnf
  refine IK ((show decide (((U:Nat):Int)≥8)=true from decide_eq_true (by omega))) (fun hc=>?_)
  (try rw[hc])
  conv=>whnf
  refine aJ ?_;refine VC.mono (Q:=fun x e2 h2=>x=.normal∧∃(i' j' k':Nat) (c:Int),a≤i'∧i'<e∧a≤j'∧j'<e∧a≤k'∧k'<e∧cO h2 b es L rest∧Sw h2 .i64 h.next c∧Fr h h2 [b]∧aW e2 [(0,.sl b 0 L.length cap op),(3,fE),(11,.ptr h.next 0),(12,.int .i64 ((i':Nat):Int)),(13,.int .i64 ((j':Nat):Int)),(14,.int .i64 ((k':Nat):Int))]) ?_ ?_
  ·refine aa true ?_;conv=>whnf
   refine ng ?_;conv=>whnf
   refine br (fun hc=>?_) (fun hc=>?_)<;>(try rw[hc])<;>(conv=>whnf)
   ·refine aq (z:=true) ?_;conv=>whnf
    have h50:50≤U:=by have:=of_decide_eq_true hc;omega
    refine CA GO hs0 hne hN (by omega) (by omega) fun h2 c2 i' i1 i2 s2 f2=>?_;conv=>whnf
    have lV:=GO.keep f2 (by simp[hne]);refine CA lV s2 hne hN (by omega) (by omega) fun h3 c3 j' j1 j2 s3 f3=>?_;conv=>whnf
    have My:=lV.keep f3 (by simp[hne]);refine CA My s3 hne hN (by omega) (by omega) fun h4 c4 k' k1 k2 s4 f4=>?_;conv=>whnf
    exact⟨rfl,i',j',k',c4,by omega,by omega,by omega,by omega,by omega,by omega,My.keep f4 (by simp[hne]),s4,VB kC ((f2.trans f3).trans f4),rfl,rfl,rfl,rfl,rfl,rfl,trivial⟩
   ·refine aq (z:=true) ?_;conv=>whnf
    exact⟨rfl,i,j,k,0,by omega,by omega,by omega,by omega,by omega,by omega,GO,hs0,kC,rfl,rfl,rfl,rfl,rfl,rfl,trivial⟩
  ·rintro x e2 h2 ⟨rfl,i',j',k',c,a1,a2,a3,a4,a5,a6,lV,BT,iI,he⟩;show VC fs ms _ _ _ _ _ _;refine an 4 _ he (aq (z:=true) ?_);conv=>whnf
   refine Ll lV BT hne (i:=i') (j:=j') (k:=k') (by omega) (by omega) (by omega) fun h3 c3 x x1 s3 f3=>?_;conv=>whnf
   exact⟨rfl,x,c3,by omega,by omega,lV.keep f3 (by simp[hne]),s3,VB iI f3,rfl,rfl,trivial⟩
 ·rintro x e2 h2 ⟨rfl,p,c,p1,p2,lV,BT,iI,he⟩;show VC fs ms _ _ _ _ _ _;refine an 4 _ he (aq (z:=true) ?_);conv=>whnf
  refine⟨_,bQ BT.hg rfl,?_⟩;conv=>whnf
  refine br (fun hc=>?_) (fun hc=>?_)<;>(try rw[hc])<;>(conv=>whnf)
  ·exact hQ h2 p _ lV p1 p2 iI
  ·refine br (fun hc=>?_) (fun hc=>?_)<;>(try rw[hc])<;>(conv=>whnf)
   ·exact hQ h2 p _ lV p1 p2 iI
   ·exact hQ h2 p _ lV p1 p2 iI
end Ir
end Go.Proofs.Ytenafeojcgmnhaa
set_option maxRecDepth 100000
set_option linter.unusedSimpArgs false
set_option linter.unusedVariables false
namespace Go.Proofs.Ytenafeojcgmnhaa
open Go Ads
namespace Ir
theorem Lp(k:IntKind)(x:Int)(n:Nat):pV (.bin .shl) [.int k x,.int .u64 ((n:Nat):Int)]=some (.int k (k.wrap (x*2^(min n k.bits)))):=by
 simp[pV,Kn,l2,B1,yH,jQ,mN,show¬((n:Nat):Int)<0 by omega]
theorem Rq(k:IntKind)(x:Int)(n:Nat):pV (.bin .shr) [.int k x,.int .u64 ((n:Nat):Int)]=some (.int k (x.fdiv (2^(min n k.bits)))):=by
 simp[pV,Kn,l2,B1,yH,jQ,mN,show¬((n:Nat):Int)<0 by omega]
theorem uK{h:Heap}{k:IntKind}{s:Nat}{c c':Int}{K:AV→Heap→Prop}(hs:Sw h k s c)(hK:∀h' d,d=c'→Sw h' k s d→Fr h h' [s]→K .undef h'):∃v h1,eV (.store 1) [.ptr s 0,.int k c'] h=some (v,h1)∧K v h1:=
 bA (hs.put c') fun h1 e1=>hK h1 c' rfl (by rw[e1];exact hs.next _) (by rw[e1];exact(Fr.refl h [s]).set (by simp))
theorem Np{h:Heap}{s:Nat}{c:Int}(hs:Sw h .u64 s c){Q:AV→Heap→Prop}(hQ:∀h' c',Sw h' .u64 s c'→Fr h h' [s]→Q (.int .u64 c') h'):VD fs ms 83 [.ptr s 0] h Q:=by
 refine aE (af:=So) true rfl (Nat.le_of_ble_eq_true rfl) ?_;conv=>whnf
 refine⟨_,bQ hs.hg rfl,?_⟩;conv=>whnf
 refine⟨_,bQ hs.hg rfl,?_⟩;conv=>whnf
 refine⟨_,Lp .u64 c 13,?_⟩;conv=>whnf
 refine uK hs fun h1 c1 _ s1 f1=>?_;conv=>whnf
 refine⟨_,bQ s1.hg rfl,?_⟩;conv=>whnf
 refine⟨_,bQ s1.hg rfl,?_⟩;conv=>whnf
 refine⟨_,Rq .u64 c1 7,?_⟩;conv=>whnf
 refine uK s1 fun h2 c2 _ s2 f2=>?_;conv=>whnf
 refine⟨_,bQ s2.hg rfl,?_⟩;conv=>whnf
 refine⟨_,bQ s2.hg rfl,?_⟩;conv=>whnf
 refine⟨_,Lp .u64 c2 17,?_⟩;conv=>whnf
 refine uK s2 fun h3 c3 _ s3 f3=>?_;conv=>whnf
 refine⟨_,bQ s3.hg rfl,?_⟩;conv=>whnf
 exact hQ h3 c3 s3 ((f1.trans f2).trans f3)
theorem Kj:∀n,n<65→0<n→N1 fs ms DX 200 (.call 82 [.int .i64 ((n:Nat):Int)] ⟨0,.nil⟩) (fun r=>match r with|.val (.int .u64 m) _=>decide (0<m∧m≤2*n)|_=>false)=true:=by decide
theorem Nr{n:Nat}(h:n<65)(h0:0<n):∃m:Int,0<m∧m≤2*n∧PC fs ms 82 [.int .i64 ((n:Nat):Int)] (.int .u64 m):=by
 obtain⟨r,hr,hk⟩:=lD Bj _ _ _ (AB (Kj n h h0));split at hk
 ·rename_i m h1;have:=of_decide_eq_true hk;exact⟨m,this.1,this.2,rfl,rfl,_,_,fun B=>.closed hr rfl rfl,.clean rfl⟩
 ·cases hk
theorem OS(x:Int){m:Int}(h0:0<m)(h1:m≤256):∃o:Nat,IntKind.i64.wrap (IntKind.u64.wrap ((BitVec.ofInt IntKind.u64.bits x&&&BitVec.ofInt IntKind.u64.bits (IntKind.u64.wrap (m-1))).toNat:Int))=((o:Nat):Int)∧((o:Nat):Int)<m:=by
 have ko:∀z:Int,IntKind.u64.wrap z=z%18446744073709551616:=fun z=>by simp[IntKind.wrap,IntKind.signed,IntKind.bits]
 have h2:(BitVec.ofInt IntKind.u64.bits x&&&BitVec.ofInt IntKind.u64.bits (IntKind.u64.wrap (m-1))).toNat≤(BitVec.ofInt 64 (m-1)).toNat:=by
  rw[ko,show(m-1)%18446744073709551616=m-1 by omega,BitVec.toNat_and];exact Nat.and_le_right
 have h3:((BitVec.ofInt 64 (m-1)).toNat:Int)=m-1:=by
  rw[BitVec.toNat_ofInt];have:(m-1)%((2^64:Nat):Int)=m-1:=by omega
  rw[this];omega
 generalize(BitVec.ofInt IntKind.u64.bits x&&&BitVec.ofInt IntKind.u64.bits (IntKind.u64.wrap (m-1))).toNat=o at*;refine⟨o,?_,by omega⟩;rw[ko,IntWalk.i64_in _ (by omega)];omega
end Ir
namespace Ads
theorem Fr.P8{h g g':Heap}{bs:List Nat}{s:Nat}(f1:Fr h g bs)(f2:Fr g g' [s])(hs:h.next≤s):Fr h g' bs:=⟨Nat.le_trans f1.next f2.next,fun c hc hn=>by
 rw[f2.keep c (Nat.lt_of_lt_of_le hc f1.next) (by simp;omega)];exact f1.keep c hc hn⟩
end Ads
namespace Ir
def Vv(b N cap a n s x:Nat)(m:Int)(op:Bool):List (Nat×AV):=[(0,.sl b 0 N cap op),(1,.int .i64 ((a:Nat):Int)),(8,.int .i64 ((n:Nat):Int)),(9,.ptr s 0),(10,.int .u64 m),(11,.int .i64 ((x:Nat):Int))]
theorem O0{b es cap a e N n q s:Nat}{m:Int}{op:Bool}{rest:List AV}{h0:Heap}{L0:List Id}{B:Nat}{Q:AX→Env→Heap→Prop}(hN:N<2^60)(he:e≤N)(hn:n=e-a)(ha:a+12<e)(hq:q=n/4)(hm0:0<m)(hm:m≤2*((n:Nat):Int))(Um:n<65)(hs0:h0.next≤s)(EK:b≠s)
  (hQ:∀h' L' e',cO h' b es L' rest→RS a e L0 L'→Fr h0 h' [b]→Q (.exit 0) e' h'):
  ∀(k x:Nat) (h:Heap) (L:List Id) (c:Int) (env:Env),a+q*2+2-x=k→a≤x→x≤a+q*2+2→cO h b es L rest→L.length=N→Sw h .u64 s c→RS a e L0 L→Fr h0 h [b]→aW env (Vv b N cap a n s x m op)→
  VC fs ms B false (.loop cY) env h Q:=by
 have JD:pV (.bin .quo) [.int .i64 ((n:Nat):Int),.int .i64 4]=some (.int .i64 ((q:Nat):Int)):=by rw[hq];exact Az n 4 rfl rfl (by omega) (by omega)
 have q1:4*q≤n:=by omega
 clear hq;have e34:IntKind.i64.wrap (IntKind.i64.wrap (((a:Nat):Int)+IntKind.i64.wrap (((q:Nat):Int)*2))+1)=((a+q*2+1:Nat):Int):=by rw[IntWalk.i64_in (_*_) (by omega),IntWalk.i64_in (((a:Nat):Int)+_) (by omega),IntWalk.i64_in _ (by omega)];omega
 intro k;induction k using Nat.strongRecOn with
 |ind k ih=>
 intro x h L c env hk hax hx hh hL hs hr fr bM;refine an 4 _ bM ?_;refine cK (aa true ?_);unfold Vv;conv=>whnf
 refine⟨_,JD,?_⟩;conv=>whnf
 rw[e34];refine br (fun hc=>?_) (fun hc=>?_)<;>(try rw[hc])<;>(conv=>whnf)
 ·have hlt:x≤a+q*2+1:=by have:=of_decide_eq_true hc;omega
  refine aJ (aG (aa true ?_));conv=>whnf
  refine Np hs fun h1 c1 s1 f1=>?_;conv=>whnf
  obtain⟨o,ho,hom⟩:=OS c1 hm0 (show m≤256 by omega);rw[ho];have uu:=hh.keep f1 (by simp[EK]);have sP:=fr.P8 f1 hs0;refine an 4 [(0,.sl b 0 N cap op),(1,.int .i64 ((a:Nat):Int)),(8,.int .i64 ((n:Nat):Int)),(9,.ptr s 0),(10,.int .u64 m),(11,.int .i64 ((x:Nat):Int)),(12,.int .i64 ((o:Nat):Int))] ⟨rfl,rfl,rfl,rfl,rfl,rfl,rfl,trivial⟩ ?_;refine aJ ?_;refine VC.mono (Q:=fun x' e2 h2=>x'=.normal∧h2=h1∧∃o':Nat,o'<n∧aW e2 [(0,.sl b 0 N cap op),(1,.int .i64 ((a:Nat):Int)),(8,.int .i64 ((n:Nat):Int)),(9,.ptr s 0),(10,.int .u64 m),(11,.int .i64 ((x:Nat):Int)),(12,.int .i64 ((o':Nat):Int))]) ?_ ?_
  ·refine aq (z:=true) ?_;conv=>whnf
   refine br (fun hc=>?_) (fun hc=>?_)<;>(try rw[hc])<;>(conv=>whnf)
   ·have hge:n≤o:=by have:=of_decide_eq_true hc;omega
    refine⟨rfl,rfl,o-n,by omega,rfl,rfl,rfl,rfl,rfl,rfl,congrArg (fun z=>some (AV.int .i64 z)) (?_:IntKind.i64.wrap (((o:Nat):Int)-((n:Nat):Int))=_),trivial⟩;rw[IntWalk.i64_in _ (by omega)];omega
   ·have hge:o<n:=by have:=of_decide_eq_false hc;omega
    exact⟨rfl,rfl,o,hge,rfl,rfl,rfl,rfl,rfl,rfl,rfl,trivial⟩
  ·rintro x' e2 h2 ⟨rfl,rfl,o',ho',wA⟩;show VC fs ms _ _ _ _ _ _;refine an 4 _ wA (aq (z:=true) ?_);conv=>whnf
   have ev:IntKind.i64.wrap (((a:Nat):Int)+((o':Nat):Int))=((a+o':Nat):Int):=by rw[IntWalk.i64_in _ (by omega)];omega
   rw[ev];refine⟨_,bz (i:=(a+o')) (by(first|with_reducible rfl|omega|(simp(disch:=omega) only[IntWalk.i64_in]<;>omega))) (by omega),?_⟩;conv=>whnf
   refine⟨_,(uu).one (by omega),?_⟩;conv=>whnf
   refine⟨_,bz (i:=x) (by(first|with_reducible rfl|omega|(simp(disch:=omega) only[IntWalk.i64_in]<;>omega))) (by omega),?_⟩;conv=>whnf
   refine⟨_,(uu).one (by omega),?_⟩;conv=>whnf
   refine⟨_,bz (i:=x) (by(first|with_reducible rfl|omega|(simp(disch:=omega) only[IntWalk.i64_in]<;>omega))) (by omega),?_⟩;conv=>whnf
   refine bA ((uu).put (by omega) _) fun g1 qy=>?_;conv=>whnf
   have qB:cO g1 b es ((L).set (x) (gI (L) ((a+o')))) rest:=by rw[qy];exact(uu).next
   refine⟨_,bz (i:=(a+o')) (by(first|with_reducible rfl|omega|(simp(disch:=omega) only[IntWalk.i64_in]<;>omega))) (by omega),?_⟩;conv=>whnf
   refine bA (qB.put (by rw[List.length_set];omega) _) fun g2 qz=>?_;conv=>whnf
   have ni:cO g2 b es (ju (L) (x) ((a+o'))) rest:=by rw[qz];exact qB.next
   have rT:Fr h2 g2 [b]:=by rw[qz,qy];exact((Fr.refl h2 [b]).set (by simp)).set (by simp)
   refine aq (z:=true) ?_;conv=>whnf
   refine ih (a+q*2+2-(x+1)) (by omega) (x+1) g2 _ _ _ rfl (by omega) (by omega) ni (by rw[dz];exact hL) (s1.keep rT (by simp[Ne.symm EK])) (hr.trans (RS.swap (by omega) (by omega) (by omega) (by omega) (by omega))) (sP.trans rT) ⟨rfl,rfl,rfl,rfl,rfl,aS (by omega),trivial⟩
 ·exact hQ h L _ hh hr fr
theorem O1{h:Heap}{b es cap a e:Nat}{op:Bool}{L:List Id}{rest:List AV}(hh:cO h b es L rest)(hN:L.length<65)(ha:a+12<e)(he:e≤L.length){Q:AV→Heap→Prop}
  (hQ:∀h' L',cO h' b es L' rest→RS a e L L'→Fr h h' [b]→Q (.cg []) h'):
  VD fs ms 73 [.sl b 0 L.length cap op,.int .i64 ((a:Nat):Int),.int .i64 ((e:Nat):Int),fE] h Q:=by
 obtain⟨n,hn⟩:∃n,n=e-a:=⟨_,rfl⟩;obtain⟨q,hq⟩:∃q,q=n/4:=⟨_,rfl⟩;have JD:pV (.bin .quo) [.int .i64 ((n:Nat):Int),.int .i64 4]=some (.int .i64 ((q:Nat):Int)):=by rw[hq];exact Az n 4 rfl rfl (by omega) (by omega)
 have el:IntKind.i64.wrap (((e:Nat):Int)-((a:Nat):Int))=((n:Nat):Int):=by rw[IntWalk.i64_in _ (by omega)];omega
 have ex:IntKind.i64.wrap (IntKind.i64.wrap (((a:Nat):Int)+IntKind.i64.wrap (((q:Nat):Int)*2))-1)=((a+q*2-1:Nat):Int):=by rw[IntWalk.i64_in (_*_) (by omega),IntWalk.i64_in (((a:Nat):Int)+_) (by omega),IntWalk.i64_in _ (by omega)];omega
 have eu:IntKind.u64.wrap ((n:Nat):Int)=((n:Nat):Int):=by
  have ko:∀z:Int,IntKind.u64.wrap z=z%18446744073709551616:=fun z=>by simp[IntKind.wrap,IntKind.signed,IntKind.bits]
  rw[ko];omega
 refine bC (af:=Sh) rfl (Nat.le_of_ble_eq_true rfl) ?_;conv=>whnf
 refine aa true ?_;conv=>whnf
 rw[el];refine aa true ?_;conv=>whnf
 refine ng ?_;conv=>whnf
 refine IK ((show decide (((n:Nat):Int)≥8)=true from decide_eq_true (by omega))) (fun hc=>?_)
 (try rw[hc])
 conv=>whnf
 refine aa true ?_;conv=>whnf
 rw[eu];have hb:=hh.lb;have kC:Fr h (h.new (.cells [.int .u64 0] true 0)) [b]:=(Fr.refl h [b]).new;have hs0:Sw (h.new (.cells [.int .u64 0] true 0)) .u64 h.next 0:=⟨aB,Nat.lt_succ_self _⟩;have GO:cO (h.new (.cells [.int .u64 0] true 0)) b es L rest:=⟨by rw[aH hb];exact hh.hb,Nat.lt_of_lt_of_le hb (Nat.le_succ _)⟩;have hne:b≠h.next:=by omega
 refine uK hs0 fun h1 c1 _ s1 f1=>?_;have uu:=GO.keep f1 (by simp[hne]);have sP:=kC.P8 f1 (Nat.le_refl _);conv=>whnf
 refine aa true ?_;conv=>whnf
 obtain⟨m,m0,m2,hm⟩:=Nr (n:=n) (by omega) (by omega);refine aZ hm ?_;conv=>whnf
 refine aa true ?_;conv=>whnf
 refine⟨_,JD,?_⟩;conv=>whnf
 rw[ex];refine aG ?_;refine O0 (e:=e) (by omega) he hn ha hq m0 m2 (by omega) (Nat.le_refl h.next) hne ?_ _ (a+q*2-1) h1 L _ _ rfl (by omega) (by omega) uu rfl s1 (RS.refl _ _ _) sP ⟨rfl,rfl,rfl,rfl,rfl,rfl,trivial⟩;intro h' L' e' k1 k2 k3;exact hQ h' L' k1 k2 k3
end Ir
end Go.Proofs.Ytenafeojcgmnhaa
set_option maxRecDepth 100000
set_option linter.unusedSimpArgs false
set_option linter.unusedVariables false
namespace Go.Proofs.Ytenafeojcgmnhaa
open Go Ads
namespace Ir
def z8(b N cap a e i jj:Nat)(op:Bool):List (Nat×AV):=[(0,.sl b 0 N cap op),(1,.int .i64 ((a:Nat):Int)),(2,.int .i64 ((e:Nat):Int)),(3,fE),(9,.int .i64 ((i:Nat):Int)),(10,.int .i64 ((jj:Nat):Int))]
theorem oa.step{L:List Id}{a i:Nat}(h:oa L a i)(hs:ah (gI L i) (gI L (i-1))=false)(ha:a<i):oa L a (i+1):=by
 intro u v h1 h2 h3;by_cases hv:v=i
 ·subst hv;by_cases hu:u=v-1
  ·subst hu;exact hs
  ·exact mL hs (h u (v-1) h1 (by omega) (by omega))
 ·exact h u v h1 h2 (by omega)
theorem Kp{b es N cap a e jj:Nat}{op:Bool}{rest:List AV}{h:Heap}{L:List Id}{B:Nat}{Q:AX→Env→Heap→Prop}(hh:cO h b es L rest)(hN:N<2^60)(hL:L.length=N)(he:e≤N)
  (hQ:∀i' e',a<i'→i'≤e→oa L a i'→(i'<e→ah (gI L i') (gI L (i'-1))=true)→aW e' (z8 b N cap a e i' jj op)→Q (.exit 2) e' h):
  ∀(m i:Nat) (env:Env),e-i=m→i≤e→a<i→oa L a i→aW env (z8 b N cap a e i jj op)→
  VC fs ms B false (.loop cA) env h Q:=by
 intro m;induction m using Nat.strongRecOn with
 |ind m ih=>
 intro i env hm hi AK hs bM;refine an 4 _ bM ?_;refine bB (z:=true) ?_;unfold z8;conv=>whnf
 refine br (fun hc=>?_) (fun hc=>?_)<;>(try rw[hc])<;>(conv=>whnf)
 ·have hlt:i<e:=by have:=of_decide_eq_true hc;omega
  refine⟨_,bz (i:=i) (by(first|with_reducible rfl|omega|(simp(disch:=omega) only[IntWalk.i64_in]<;>omega))) (by omega),?_⟩;conv=>whnf
  refine⟨_,(hh).one (by omega),?_⟩;conv=>whnf
  refine⟨_,bz (i:=i-1) (by(first|with_reducible rfl|omega|(simp(disch:=omega) only[IntWalk.i64_in]<;>omega))) (by omega),?_⟩;conv=>whnf
  refine⟨_,(hh).one (by omega),?_⟩;conv=>whnf
  refine aZ (kj _ _) ?_;conv=>whnf
  cases tw:decide (uo (gI L i) (gI L (i-1))<0) with
  |true=>
   conv=>whnf
   exact hQ i _ AK hi hs (fun _=>(iS _ _).1 (of_decide_eq_true tw)) (by repeat' (first|exact trivial|refine And.intro (by first|with_reducible_and_instances rfl|(refine Eq.trans (b:=some (AV.int .i64 _)) rfl (congrArg (fun z=>some (AV.int .i64 z)) ?_);first|omega|(simp(disch:=omega) only[IntWalk.i64_in]<;>omega))|rfl) ?_))
  |false=>
   conv=>whnf
   exact ih (e-(i+1)) (by omega) (i+1) _ rfl (by omega) (by omega) (hs.step (tQ (of_decide_eq_false tw)) AK) (by repeat' (first|exact trivial|refine And.intro (by first|with_reducible_and_instances rfl|(refine Eq.trans (b:=some (AV.int .i64 _)) rfl (congrArg (fun z=>some (AV.int .i64 z)) ?_);first|omega|(simp(disch:=omega) only[IntWalk.i64_in]<;>omega))|rfl) ?_))
 ·have hge:e≤i:=by have:=of_decide_eq_false hc;omega
  exact hQ i _ AK hi hs (fun h=>by omega) (by repeat' (first|exact trivial|refine And.intro (by first|with_reducible_and_instances rfl|(refine Eq.trans (b:=some (AV.int .i64 _)) rfl (congrArg (fun z=>some (AV.int .i64 z)) ?_);first|omega|(simp(disch:=omega) only[IntWalk.i64_in]<;>omega))|rfl) ?_))
theorem Ko{b es N cap a e i jj:Nat}{op:Bool}{rest:List AV}{B:Nat}{h0:Heap}{L0:List Id}{Q:AX→Env→Heap→Prop}(hN:N<2^60)(he:e≤N)(hi:i<e)(lo:Fs L0 a e)
  (hQ:∀h' L' e',cO h' b es L' rest→RS a e L0 L'→oa L' a i→Fr h0 h' [b]→aW e' (z8 b N cap a e i jj op)→Q (.exit 4) e' h'):
  ∀(j:Nat) (h:Heap) (L:List Id) (env:Env),cO h b es L rest→L.length=N→a≤j→j<i→Ac L a i j→RS a e L0 L→Fr h0 h [b]→aW env (z8 b N cap a e i jj op++[(11,.int .i64 ((j:Nat):Int))])→
  VC fs ms B false (.loop cB) env h Q:=by
 intro j;induction j using Nat.strongRecOn with
 |ind j ih=>
 intro h L env hh hL ha hj hs hr fr bM;refine an 4 _ bM ?_;refine bB (z:=true) ?_;unfold z8;conv=>whnf
 refine br (fun hc=>?_) (fun hc=>?_)<;>(try rw[hc])<;>(conv=>whnf)
 ·have h1:1≤j:=by have:=of_decide_eq_true hc;omega
  refine⟨_,bz (i:=j) (by(first|with_reducible rfl|omega|(simp(disch:=omega) only[IntWalk.i64_in]<;>omega))) (by omega),?_⟩;conv=>whnf
  refine⟨_,(hh).one (by omega),?_⟩;conv=>whnf
  refine⟨_,bz (i:=j-1) (by(first|with_reducible rfl|omega|(simp(disch:=omega) only[IntWalk.i64_in]<;>omega))) (by omega),?_⟩;conv=>whnf
  refine⟨_,(hh).one (by omega),?_⟩;conv=>whnf
  refine aZ (kj _ _) ?_;conv=>whnf
  cases tw:decide (uo (gI L j) (gI L (j-1))<0) with
  |true=>
   conv=>whnf
   have hlt:ah (gI L j) (gI L (j-1))=true:=(iS _ _).1 (of_decide_eq_true tw);have haj:a<j:=by
    rcases Nat.lt_or_ge a j with c|c
    ·exact c
    ·exfalso;have e1:j=a:=by omega
     subst e1;have:=nX ((lo.rs hr) (by omega) j (Nat.le_refl _) (by omega));rw[hlt] at this;cases this
   refine⟨_,bz (i:=(j-1)) (by(first|with_reducible rfl|omega|(simp(disch:=omega) only[IntWalk.i64_in]<;>omega))) (by omega),?_⟩;conv=>whnf
   refine⟨_,(hh).one (by omega),?_⟩;conv=>whnf
   refine⟨_,bz (i:=j) (by(first|with_reducible rfl|omega|(simp(disch:=omega) only[IntWalk.i64_in]<;>omega))) (by omega),?_⟩;conv=>whnf
   refine⟨_,(hh).one (by omega),?_⟩;conv=>whnf
   refine⟨_,bz (i:=j) (by(first|with_reducible rfl|omega|(simp(disch:=omega) only[IntWalk.i64_in]<;>omega))) (by omega),?_⟩;conv=>whnf
   refine bA ((hh).put (by omega) _) fun g1 qy=>?_;conv=>whnf
   have qB:cO g1 b es ((L).set (j) (gI (L) ((j-1)))) rest:=by rw[qy];exact(hh).next
   refine⟨_,bz (i:=(j-1)) (by(first|with_reducible rfl|omega|(simp(disch:=omega) only[IntWalk.i64_in]<;>omega))) (by omega),?_⟩;conv=>whnf
   refine bA (qB.put (by rw[List.length_set];omega) _) fun g2 qz=>?_;conv=>whnf
   have ni:cO g2 b es (ju (L) (j) ((j-1))) rest:=by rw[qz];exact qB.next
   have rT:Fr h g2 [b]:=by rw[qz,qy];exact((Fr.refl h [b]).set (by simp)).set (by simp)
   exact ih (j-1) (by omega) g2 _ _ ni (by rw[dz];exact hL) (by omega) (by omega) (hs.step haj (by omega) (by omega) hlt) (hr.trans (RS.swap (by omega) (by omega) (by omega) (by omega) (by omega))) (fr.trans rT) (by repeat' (first|exact trivial|refine And.intro (by first|with_reducible_and_instances rfl|(refine Eq.trans (b:=some (AV.int .i64 _)) rfl (congrArg (fun z=>some (AV.int .i64 z)) ?_);first|omega|(simp(disch:=omega) only[IntWalk.i64_in]<;>omega))|rfl) ?_))
  |false=>
   conv=>whnf
   exact hQ h L _ hh hr (hs.done (.inr (tQ (of_decide_eq_false tw)))) fr (by repeat' (first|exact trivial|refine And.intro (by first|with_reducible_and_instances rfl|(refine Eq.trans (b:=some (AV.int .i64 _)) rfl (congrArg (fun z=>some (AV.int .i64 z)) ?_);first|omega|(simp(disch:=omega) only[IntWalk.i64_in]<;>omega))|rfl) ?_))
 ·have h1:j≤a:=by have:=of_decide_eq_false hc;omega
  exact hQ h L _ hh hr (hs.done (.inl h1)) fr (by repeat' (first|exact trivial|refine And.intro (by first|with_reducible_and_instances rfl|(refine Eq.trans (b:=some (AV.int .i64 _)) rfl (congrArg (fun z=>some (AV.int .i64 z)) ?_);first|omega|(simp(disch:=omega) only[IntWalk.i64_in]<;>omega))|rfl) ?_))
theorem HU{b es N cap a e i jj:Nat}{op:Bool}{rest:List AV}{B:Nat}{h0:Heap}{L0:List Id}{Q:AX→Env→Heap→Prop}(hN:N<2^60)(he:e≤N)
  (hQ:∀h' L' e',cO h' b es L' rest→RS i e L0 L'→Fr h0 h' [b]→aW e' (z8 b N cap a e i jj op)→Q (.exit 6) e' h'):
  ∀(m j:Nat) (h:Heap) (L:List Id) (env:Env),e-j=m→cO h b es L rest→L.length=N→i<j→j≤e→RS i e L0 L→Fr h0 h [b]→aW env (z8 b N cap a e i jj op++[(12,.int .i64 ((j:Nat):Int))])→
  VC fs ms B false (.loop cC) env h Q:=by
 intro m;induction m using Nat.strongRecOn with
 |ind m ih=>
 intro j h L env hm hh hL hj JF hr fr bM;refine an 4 _ bM ?_;refine bB (z:=true) ?_;unfold z8;conv=>whnf
 refine br (fun hc=>?_) (fun hc=>?_)<;>(try rw[hc])<;>(conv=>whnf)
 ·have h1:j<e:=by have:=of_decide_eq_true hc;omega
  refine⟨_,bz (i:=j) (by(first|with_reducible rfl|omega|(simp(disch:=omega) only[IntWalk.i64_in]<;>omega))) (by omega),?_⟩;conv=>whnf
  refine⟨_,(hh).one (by omega),?_⟩;conv=>whnf
  refine⟨_,bz (i:=j-1) (by(first|with_reducible rfl|omega|(simp(disch:=omega) only[IntWalk.i64_in]<;>omega))) (by omega),?_⟩;conv=>whnf
  refine⟨_,(hh).one (by omega),?_⟩;conv=>whnf
  refine aZ (kj _ _) ?_;conv=>whnf
  cases tw:decide (uo (gI L j) (gI L (j-1))<0) with
  |true=>
   conv=>whnf
   refine⟨_,bz (i:=(j-1)) (by(first|with_reducible rfl|omega|(simp(disch:=omega) only[IntWalk.i64_in]<;>omega))) (by omega),?_⟩;conv=>whnf
   refine⟨_,(hh).one (by omega),?_⟩;conv=>whnf
   refine⟨_,bz (i:=j) (by(first|with_reducible rfl|omega|(simp(disch:=omega) only[IntWalk.i64_in]<;>omega))) (by omega),?_⟩;conv=>whnf
   refine⟨_,(hh).one (by omega),?_⟩;conv=>whnf
   refine⟨_,bz (i:=j) (by(first|with_reducible rfl|omega|(simp(disch:=omega) only[IntWalk.i64_in]<;>omega))) (by omega),?_⟩;conv=>whnf
   refine bA ((hh).put (by omega) _) fun g1 qy=>?_;conv=>whnf
   have qB:cO g1 b es ((L).set (j) (gI (L) ((j-1)))) rest:=by rw[qy];exact(hh).next
   refine⟨_,bz (i:=(j-1)) (by(first|with_reducible rfl|omega|(simp(disch:=omega) only[IntWalk.i64_in]<;>omega))) (by omega),?_⟩;conv=>whnf
   refine bA (qB.put (by rw[List.length_set];omega) _) fun g2 qz=>?_;conv=>whnf
   have ni:cO g2 b es (ju (L) (j) ((j-1))) rest:=by rw[qz];exact qB.next
   have rT:Fr h g2 [b]:=by rw[qz,qy];exact((Fr.refl h [b]).set (by simp)).set (by simp)
   exact ih (e-(j+1)) (by omega) (j+1) g2 _ _ rfl ni (by rw[dz];exact hL) (by omega) (by omega) (hr.trans (RS.swap (by omega) (by omega) (by omega) (by omega) (by omega))) (fr.trans rT) (by repeat' (first|exact trivial|refine And.intro (by first|with_reducible_and_instances rfl|(refine Eq.trans (b:=some (AV.int .i64 _)) rfl (congrArg (fun z=>some (AV.int .i64 z)) ?_);first|omega|(simp(disch:=omega) only[IntWalk.i64_in]<;>omega))|rfl) ?_))
  |false=>
   conv=>whnf
   exact hQ h L _ hh hr fr (by repeat' (first|exact trivial|refine And.intro (by first|with_reducible_and_instances rfl|(refine Eq.trans (b:=some (AV.int .i64 _)) rfl (congrArg (fun z=>some (AV.int .i64 z)) ?_);first|omega|(simp(disch:=omega) only[IntWalk.i64_in]<;>omega))|rfl) ?_))
 ·exact hQ h L _ hh hr fr (by repeat' (first|exact trivial|refine And.intro (by first|with_reducible_and_instances rfl|(refine Eq.trans (b:=some (AV.int .i64 _)) rfl (congrArg (fun z=>some (AV.int .i64 z)) ?_);first|omega|(simp(disch:=omega) only[IntWalk.i64_in]<;>omega))|rfl) ?_))
theorem Q9{b es N cap a e:Nat}{op:Bool}{rest:List AV}{B:Nat}{h0:Heap}{L0:List Id}{Q:AX→Env→Heap→Prop}(hN:N<2^60)(he:e≤N)(lo:Fs L0 a e)
  (hR:∀h' L' c e',cO h' b es L' rest→RS a e L0 L'→(c=true→oa L' a e)→Fr h0 h' [b]→Tr.get e' 8=some (.bool c)→Q .ret e' h')
  (hX:∀h' L' e',cO h' b es L' rest→RS a e L0 L'→Fr h0 h' [b]→Q (.exit 0) e' h'):
  ∀(m jj i:Nat) (h:Heap) (L:List Id) (env:Env),5-jj=m→cO h b es L rest→L.length=N→a<i→i≤e→oa L a i→RS a e L0 L→Fr h0 h [b]→aW env (z8 b N cap a e i jj op)→
  VC fs ms B false (.loop cz) env h Q:=by
 intro m;induction m using Nat.strongRecOn with
 |ind m ih=>
 intro jj i h L env hm hh hL AK hie hs hr fr bM;refine an 4 _ bM ?_;refine cK (aa true ?_);unfold z8;conv=>whnf
 refine br (fun hc=>?_) (fun hc=>?_)<;>(try rw[hc])<;>(conv=>whnf)
 ·have hj5:jj<5:=by have:=of_decide_eq_true hc;omega
  refine aJ (aG (aJ (aG ?_)));refine Kp (a:=a) (e:=e) (jj:=jj) hh hN hL he ?_ _ i _ rfl hie AK hs (by repeat' (first|exact trivial|refine And.intro (by first|with_reducible_and_instances rfl|(refine Eq.trans (b:=some (AV.int .i64 _)) rfl (congrArg (fun z=>some (AV.int .i64 z)) ?_);first|omega|(simp(disch:=omega) only[IntWalk.i64_in]<;>omega))|rfl) ?_));intro i1 e1 a1 a2 s1 a3 rX;show VC fs ms _ _ _ _ _ _;refine an 4 _ rX ?_;unfold z8;refine aa true ?_;conv=>whnf
  by_cases hE:i1=e
  ·have:(((i1:Nat):Int)==((e:Nat):Int))=true:=by simp[hE]
   refine IK (this) (fun hc=>?_)
   (try rw[hc])
   conv=>whnf
   exact hR h L true _ hh hr (fun _=>by rw[←hE];exact s1) fr rfl
  ·have:(((i1:Nat):Int)==((e:Nat):Int))=false:=by simp;omega
   refine od (this) (fun hc=>?_)
   (try rw[hc])
   conv=>whnf
   refine aa true ?_;conv=>whnf
   refine br (fun hc=>?_) (fun hc=>?_)<;>(try rw[hc])<;>(conv=>whnf)
   ·exact hR h L false _ hh hr (fun h=>by cases h) fr rfl
   ·refine aa true ?_;conv=>whnf
    refine⟨_,bz (i:=(i1-1)) (by(first|with_reducible rfl|omega|(simp(disch:=omega) only[IntWalk.i64_in]<;>omega))) (by omega),?_⟩;conv=>whnf
    refine⟨_,(hh).one (by omega),?_⟩;conv=>whnf
    refine⟨_,bz (i:=i1) (by(first|with_reducible rfl|omega|(simp(disch:=omega) only[IntWalk.i64_in]<;>omega))) (by omega),?_⟩;conv=>whnf
    refine⟨_,(hh).one (by omega),?_⟩;conv=>whnf
    refine⟨_,bz (i:=i1) (by(first|with_reducible rfl|omega|(simp(disch:=omega) only[IntWalk.i64_in]<;>omega))) (by omega),?_⟩;conv=>whnf
    refine bA ((hh).put (by omega) _) fun g1 qy=>?_;conv=>whnf
    have qB:cO g1 b es ((L).set (i1) (gI (L) ((i1-1)))) rest:=by rw[qy];exact(hh).next
    refine⟨_,bz (i:=(i1-1)) (by(first|with_reducible rfl|omega|(simp(disch:=omega) only[IntWalk.i64_in]<;>omega))) (by omega),?_⟩;conv=>whnf
    refine bA (qB.put (by rw[List.length_set];omega) _) fun g2 qz=>?_;conv=>whnf
    have ni:cO g2 b es (ju (L) (i1) ((i1-1))) rest:=by rw[qz];exact qB.next
    have rT:Fr h g2 [b]:=by rw[qz,qy];exact((Fr.refl h [b]).set (by simp)).set (by simp)
    have r1:RS a e L0 (ju L i1 (i1-1)):=hr.trans (RS.swap (by omega) (by omega) (by omega) (by omega) (by omega));have zZ:(ju L i1 (i1-1)).length=N:=by rw[dz];exact hL
    have qm:Ac (ju L i1 (i1-1)) a i1 (i1-1):=by
     have hg:=jo (V:=L) (show i1<L.length by omega) (show i1-1<L.length by omega);intro u v h1 h2 h3 h4;rw[hg,hg,if_neg h4,if_neg (by omega),if_neg (by omega),if_neg (by omega)];exact s1 u v h1 h2 h3
    refine an 4 (z8 b N cap a e i1 jj op) (by repeat' (first|exact trivial|refine And.intro (by first|with_reducible_and_instances rfl|(refine Eq.trans (b:=some (AV.int .i64 _)) rfl (congrArg (fun z=>some (AV.int .i64 z)) ?_);first|omega|(simp(disch:=omega) only[IntWalk.i64_in]<;>omega))|rfl) ?_)) ?_;refine aJ ?_;refine VC.mono (Q:=fun x e2 h2=>x=.normal∧∃L2,cO h2 b es L2 rest∧RS a e L0 L2∧oa L2 a i1∧Fr h0 h2 [b]∧aW e2 (z8 b N cap a e i1 jj op)) ?_ ?_
    ·unfold z8;refine aa true ?_;conv=>whnf
     refine ng ?_;conv=>whnf
     refine br (fun hc=>?_) (fun hc=>?_)<;>(try rw[hc])<;>(conv=>whnf)
     ·refine aa true ?_;conv=>whnf
      refine aG ?_;refine Ko (i:=i1) (jj:=jj) (e:=e) hN he (by omega) lo ?_ (i1-1) g2 _ _ ni zZ (by omega) (by omega) qm r1 (fr.trans rT) (by repeat' (first|exact trivial|refine And.intro (by first|with_reducible_and_instances rfl|(refine Eq.trans (b:=some (AV.int .i64 _)) rfl (congrArg (fun z=>some (AV.int .i64 z)) ?_);first|omega|(simp(disch:=omega) only[IntWalk.i64_in]<;>omega))|rfl) ?_));intro h' L' e' k1 k2 k3 k4 k5;exact⟨rfl,L',k1,k2,k3,k4,k5⟩
     ·refine aq (z:=true) ?_;conv=>whnf
      have IL:i1=a+1:=by
       have:=of_decide_eq_false hc;simp only[IntKind.wrap_i64] at this;omega
      refine⟨rfl,_,ni,r1,fun u v h1 h2 h3=>by omega,fr.trans rT,(by repeat' (first|exact trivial|refine And.intro (by first|with_reducible_and_instances rfl|(refine Eq.trans (b:=some (AV.int .i64 _)) rfl (congrArg (fun z=>some (AV.int .i64 z)) ?_);first|omega|(simp(disch:=omega) only[IntWalk.i64_in]<;>omega))|rfl) ?_))⟩
    ·rintro x e2 h2 ⟨rfl,L2,lV,r2,s2,iI,wA⟩;show VC fs ms _ _ _ _ _ _;have yT:L2.length=N:=by rw[←r2.len,hr.len];exact hL
     refine VC.mono (Q:=fun x e3 h3=>x=.normal∧∃L3,cO h3 b es L3 rest∧RS a e L0 L3∧oa L3 a i1∧Fr h0 h3 [b]∧aW e3 (z8 b N cap a e i1 jj op)) ?_ ?_
     ·refine an 4 _ wA ?_;unfold z8;refine aa true ?_;conv=>whnf
      refine ng ?_;conv=>whnf
      refine br (fun hc=>?_) (fun hc=>?_)<;>(try rw[hc])<;>(conv=>whnf)
      ·refine aa true ?_;conv=>whnf
       refine aG ?_;refine HU (i:=i1) (jj:=jj) (a:=a) (e:=e) (L0:=L2) (h0:=h0) hN he ?_ _ (i1+1) h2 L2 _ rfl lV yT (by omega) (by omega) (RS.refl _ _ _) iI (by repeat' (first|exact trivial|refine And.intro (by first|with_reducible_and_instances rfl|(refine Eq.trans (b:=some (AV.int .i64 _)) rfl (congrArg (fun z=>some (AV.int .i64 z)) ?_);first|omega|(simp(disch:=omega) only[IntWalk.i64_in]<;>omega))|rfl) ?_));intro h' L' e' k1 k2 k3 k4;refine⟨rfl,L',k1,r2.trans (k2.wide (by omega) (Nat.le_refl _)),fun u v h1 h2 h3=>?_,k3,k4⟩;rw[k2.out u (by omega),k2.out v (by omega)];exact s2 u v h1 h2 h3
      ·refine aq (z:=true) ?_;conv=>whnf
       exact⟨rfl,L2,lV,r2,s2,iI,(by repeat' (first|exact trivial|refine And.intro (by first|with_reducible_and_instances rfl|(refine Eq.trans (b:=some (AV.int .i64 _)) rfl (congrArg (fun z=>some (AV.int .i64 z)) ?_);first|omega|(simp(disch:=omega) only[IntWalk.i64_in]<;>omega))|rfl) ?_))⟩
     ·rintro x e3 h3 ⟨rfl,L3,My,r3,s3,ql,Mt⟩;show VC fs ms _ _ _ _ _ _;have SA:L3.length=N:=by rw[←r3.len,hr.len];exact hL
      refine an 4 _ Mt (aq (z:=true) ?_);unfold z8;conv=>whnf
      exact ih (5-(jj+1)) (by omega) (jj+1) i1 h3 L3 _ rfl My SA a1 a2 s3 r3 ql (by repeat' (first|exact trivial|refine And.intro (by first|with_reducible_and_instances rfl|(refine Eq.trans (b:=some (AV.int .i64 _)) rfl (congrArg (fun z=>some (AV.int .i64 z)) ?_);first|omega|(simp(disch:=omega) only[IntWalk.i64_in]<;>omega))|rfl) ?_))
 ·exact hX h L _ hh hr fr
theorem U6{h:Heap}{b es cap a e:Nat}{op:Bool}{L:List Id}{rest:List AV}(hh:cO h b es L rest)(hN:L.length<2^60)(ha:a<e)(he:e≤L.length)(lo:Fs L a e){Q:AV→Heap→Prop}
  (hQ:∀h' L' c,cO h' b es L' rest→RS a e L L'→(c=true→oa L' a e)→Fr h h' [b]→Q (.bool c) h'):
  VD fs ms 76 [.sl b 0 L.length cap op,.int .i64 ((a:Nat):Int),.int .i64 ((e:Nat):Int),fE] h Q:=by
 refine bC (af:=Sk) rfl (Nat.le_of_ble_eq_true rfl) ?_;conv=>whnf
 refine aa true ?_;conv=>whnf
 refine aa true ?_;conv=>whnf
 refine aJ (aa true ?_);conv=>whnf
 refine aG ?_;refine Q9 (a:=a) (e:=e) hN he lo ?_ ?_ _ 0 (a+1) h L _ rfl hh rfl (by omega) (by omega) (fun u v h1 h2 h3=>by omega) (RS.refl _ _ _) (Fr.refl _ _) (by repeat' (first|exact trivial|refine And.intro (by first|with_reducible_and_instances rfl|(refine Eq.trans (b:=some (AV.int .i64 _)) rfl (congrArg (fun z=>some (AV.int .i64 z)) ?_);first|omega|(simp(disch:=omega) only[IntWalk.i64_in]<;>omega))|rfl) ?_))
 ·intro h' L' c e' k1 k2 k3 k4 k5;show yK [.tmp 8] Q .ret e' h';simp only[yK,js,vQ,k5];exact hQ h' L' c k1 k2 k3 k4
 ·intro h' L' e' k1 k2 k3;show VC fs ms _ _ _ _ _ _;refine an 4 [] trivial (aq (z:=true) ?_);conv=>whnf
  exact hQ h' L' false k1 k2 (fun h=>by cases h) k3
end Ir
end Go.Proofs.Ytenafeojcgmnhaa
set_option maxRecDepth 100000
set_option linter.unusedSimpArgs false
set_option linter.unusedVariables false
namespace Go.Proofs.Ytenafeojcgmnhaa
open Go Ads
namespace Ir
def HM(L:List Id)(f s n:Nat):Prop:=∀c p,0<c→c<n→p=(c-1)/2→s≤p→ah (gI L (f+p)) (gI L (f+c))=false
structure HX(L:List Id)(f s n r:Nat):Prop where
 ok:∀c p,0<c→c<n→p=(c-1)/2→s≤p→p≠r→ah (gI L (f+p)) (gI L (f+c))=false
 gp:∀c p,0<c→c<n→r=(c-1)/2→0<r→p=(r-1)/2→s≤p→ah (gI L (f+p)) (gI L (f+c))=false
theorem HX.leaf{L:List Id}{f s n r:Nat}(h:HX L f s n r)(hr:n≤2*r+1):HM L f s n:=by
 intro c p h0 hc hp hs;exact h.ok c p h0 hc hp hs (by omega)
theorem HX.done{L:List Id}{f s n r m:Nat}(h:HX L f s n r)(hm:∀c,(c=2*r+1∨c=2*r+2)→c<n→ah (gI L (f+m)) (gI L (f+c))=false)(hr:ah (gI L (f+r)) (gI L (f+m))=false):HM L f s n:=by
 intro c p h0 hc hp hs;by_cases e:p=r
 ·subst e;exact mL hr (hm c (by omega) hc)
 ·exact h.ok c p h0 hc hp hs e
theorem HX.step{L:List Id}{f s n r m:Nat}(h:HX L f s n r)(hs:s≤r)(hmr:m=2*r+1∨m=2*r+2)(hmn:m<n)(hn:f+n≤L.length)(hm:∀c,(c=2*r+1∨c=2*r+2)→c<n→ah (gI L (f+m)) (gI L (f+c))=false)
  (hr:ah (gI L (f+r)) (gI L (f+m))=true):HX (ju L (f+r) (f+m)) f s n m:=by
 have hg:=jo (V:=L) (show f+r<L.length by omega) (show f+m<L.length by omega);refine⟨fun c p h0 hc hp hsp hpm=>?_,fun c p h0 hc Uj hm0 hp hsp=>?_⟩
 ·rw[hg (f+p),if_neg (by omega),hg (f+c)];by_cases e:p=r
  ·subst e;rw[if_pos rfl];by_cases e2:c=m
   ·subst e2;rw[if_pos rfl];exact nX hr
   ·rw[if_neg (by omega),if_neg (by omega)];exact hm c (by omega) hc
  ·rw[if_neg (by omega),if_neg (by omega)];by_cases e2:c=r
   ·subst e2;rw[if_pos rfl];exact h.gp m p (by omega) hmn (by omega) h0 hp hsp
   ·rw[if_neg (by omega)];exact h.ok c p h0 hc hp hsp e
 ·have:p=r:=by omega
  subst this;rw[hg (f+p),if_neg (by omega),if_pos rfl,hg (f+c),if_neg (by omega),if_neg (by omega)];exact h.ok c m h0 hc Uj (by omega) (by omega)
theorem HM.top{L:List Id}{f n:Nat}(h:HM L f 0 n):∀u,u<n→ah (gI L f) (gI L (f+u))=false:=by
 intro u;induction u using Nat.strongRecOn with
 |ind u ih=>
  intro hu;rcases Nat.eq_zero_or_pos u with rfl|h0
  ·rw[eJ,Nat.add_zero];omega
  ·exact mL (ih ((u-1)/2) (by omega) (by omega)) (h u _ h0 hu rfl (Nat.zero_le _))
def Wk(b N cap s n f r:Nat)(op:Bool):List (Nat×AV):=[(0,.sl b 0 N cap op),(1,.int .i64 ((s:Nat):Int)),(2,.int .i64 ((n:Nat):Int)),(3,.int .i64 ((f:Nat):Int)),(4,fE),(10,.int .i64 ((r:Nat):Int))]
theorem NH{b es N cap s n f:Nat}{op:Bool}{rest:List AV}{B:Nat}{h0:Heap}{L0:List Id}{Q:AX→Env→Heap→Prop}(hN:N<2^60)(hf:f+n≤N)
  (hQ:∀h' L' x e',(x=.ret∨x=.exit 0)→cO h' b es L' rest→RS f (f+n) L0 L'→HM L' f s n→Fr h0 h' [b]→Q x e' h'):
  ∀(m r:Nat) (h:Heap) (L:List Id) (env:Env),n-r=m→r≤n→s≤r→cO h b es L rest→L.length=N→RS f (f+n) L0 L→HX L f s n r→Fr h0 h [b]→aW env (Wk b N cap s n f r op)→
  VC fs ms B false (.loop dX) env h Q:=by
 intro m;induction m using Nat.strongRecOn with
 |ind m ih=>
 intro r h L env hm hrn SO hh hL hr hx fr bM;have Vz:IntKind.i64.wrap (IntKind.i64.wrap (2*((r:Nat):Int))+1)=((2*r+1:Nat):Int):=by rw[IntWalk.i64_in (_*_) (by omega),IntWalk.i64_in _ (by omega)];omega
 refine an 4 _ bM ?_;refine cK (aG (aa true ?_));unfold Wk;conv=>whnf
 rw[Vz];obtain⟨c1,PG⟩:∃c1,c1=2*r+1:=⟨_,rfl⟩;rw[←PG];clear Vz;refine an 4 [(0,.sl b 0 N cap op),(1,.int .i64 ((s:Nat):Int)),(2,.int .i64 ((n:Nat):Int)),(3,.int .i64 ((f:Nat):Int)),(4,fE),(10,.int .i64 ((r:Nat):Int)),(11,.int .i64 ((c1:Nat):Int))] ⟨rfl,rfl,rfl,rfl,rfl,rfl,rfl,trivial⟩ ?_;refine aa true ?_;conv=>whnf
 refine br (fun hc=>?_) (fun hc=>?_)<;>(try rw[hc])<;>(conv=>whnf)
 ·have hge:n≤c1:=by have:=of_decide_eq_true hc;omega
  exact hQ h L _ _ (.inr rfl) hh hr (hx.leaf (by omega)) fr
 ·have hlt:c1<n:=by have:=of_decide_eq_false hc;omega
  refine aJ ?_;refine VC.mono (Q:=fun x e2 h2=>x=.normal∧h2=h∧∃c2,(c2=2*r+1∨c2=2*r+2)∧c2<n∧(∀c,(c=2*r+1∨c=2*r+2)→c<n→ah (gI L (f+c2)) (gI L (f+c))=false)∧aW e2 [(0,.sl b 0 N cap op),(1,.int .i64 ((s:Nat):Int)),(2,.int .i64 ((n:Nat):Int)),(3,.int .i64 ((f:Nat):Int)),(4,fE),(10,.int .i64 ((r:Nat):Int)),(11,.int .i64 ((c2:Nat):Int))]) ?_ ?_
  ·refine aq (z:=true) ?_;conv=>whnf
   have Hh:∀x:Id,ah x x=false:=fun x=>by rw[eJ];omega
   refine br (fun hc=>?_) (fun hc=>?_)<;>(try rw[hc])<;>(conv=>whnf)
   ·have TS:c1+1<n:=by
     have:=of_decide_eq_true hc;simp only[IntKind.wrap_i64] at this;omega
    refine⟨_,bz (i:=f+c1) (by(first|with_reducible rfl|omega|(simp(disch:=omega) only[IntWalk.i64_in]<;>omega))) (by omega),?_⟩;conv=>whnf
    refine⟨_,(hh).one (by omega),?_⟩;conv=>whnf
    refine⟨_,bz (i:=f+c1+1) (by(first|with_reducible rfl|omega|(simp(disch:=omega) only[IntWalk.i64_in]<;>omega))) (by omega),?_⟩;conv=>whnf
    refine⟨_,(hh).one (by omega),?_⟩;conv=>whnf
    refine aZ (kj _ _) ?_;conv=>whnf
    refine br (fun hc=>?_) (fun hc=>?_)<;>(try rw[hc])<;>(conv=>whnf)
    ·have rY:ah (gI L (f+c1)) (gI L (f+c1+1))=true:=(iS _ _).1 (of_decide_eq_true hc);refine⟨rfl,rfl,c1+1,by omega,by omega,fun c eT yY=>?_,(by repeat' (first|exact trivial|refine And.intro (by first|with_reducible_and_instances rfl|(refine Eq.trans (b:=some (AV.int .i64 _)) rfl (congrArg (fun z=>some (AV.int .i64 z)) ?_);first|omega|(simp(disch:=omega) only[IntWalk.i64_in]<;>omega))|rfl) ?_))⟩;rcases(show c=c1∨c=c1+1 by omega) with e|e
     ·subst e;exact nX rY
     ·subst e;exact Hh _
    ·have rY:ah (gI L (f+c1)) (gI L (f+c1+1))=false:=tQ (of_decide_eq_false hc);refine⟨rfl,rfl,c1,by omega,by omega,fun c eT yY=>?_,(by repeat' (first|exact trivial|refine And.intro (by first|with_reducible_and_instances rfl|(refine Eq.trans (b:=some (AV.int .i64 _)) rfl (congrArg (fun z=>some (AV.int .i64 z)) ?_);first|omega|(simp(disch:=omega) only[IntWalk.i64_in]<;>omega))|rfl) ?_))⟩;rcases(show c=c1∨c=c1+1 by omega) with e|e
     ·subst e;exact Hh _
     ·subst e;exact rY
   ·have TS:¬c1+1<n:=by
     have:=of_decide_eq_false hc;simp only[IntKind.wrap_i64] at this;omega
    refine⟨rfl,rfl,c1,by omega,by omega,fun c eT yY=>?_,(by repeat' (first|exact trivial|refine And.intro (by first|with_reducible_and_instances rfl|(refine Eq.trans (b:=some (AV.int .i64 _)) rfl (congrArg (fun z=>some (AV.int .i64 z)) ?_);first|omega|(simp(disch:=omega) only[IntWalk.i64_in]<;>omega))|rfl) ?_))⟩;have:c=c1:=by omega
    subst this;exact Hh _
  ·rintro x e2 h2 ⟨rfl,rfl,c2,k1,k2,k3,wA⟩;show VC fs ms _ _ _ _ _ _;refine an 4 _ wA ?_;refine aa true ?_;conv=>whnf
   refine⟨_,bz (i:=f+r) (by(first|with_reducible rfl|omega|(simp(disch:=omega) only[IntWalk.i64_in]<;>omega))) (by omega),?_⟩;conv=>whnf
   refine⟨_,(hh).one (by omega),?_⟩;conv=>whnf
   refine⟨_,bz (i:=f+c2) (by(first|with_reducible rfl|omega|(simp(disch:=omega) only[IntWalk.i64_in]<;>omega))) (by omega),?_⟩;conv=>whnf
   refine⟨_,(hh).one (by omega),?_⟩;conv=>whnf
   refine aZ (kj _ _) ?_;conv=>whnf
   cases tw:decide (uo (gI L (f+r)) (gI L (f+c2))<0) with
   |true=>
    conv=>whnf
    have rY:ah (gI L (f+r)) (gI L (f+c2))=true:=(iS _ _).1 (of_decide_eq_true tw);refine aq (z:=true) ?_;conv=>whnf
    refine⟨_,bz (i:=(f+c2)) (by(first|with_reducible rfl|omega|(simp(disch:=omega) only[IntWalk.i64_in]<;>omega))) (by omega),?_⟩;conv=>whnf
    refine⟨_,(hh).one (by omega),?_⟩;conv=>whnf
    refine⟨_,bz (i:=(f+r)) (by(first|with_reducible rfl|omega|(simp(disch:=omega) only[IntWalk.i64_in]<;>omega))) (by omega),?_⟩;conv=>whnf
    refine⟨_,(hh).one (by omega),?_⟩;conv=>whnf
    refine⟨_,bz (i:=(f+r)) (by(first|with_reducible rfl|omega|(simp(disch:=omega) only[IntWalk.i64_in]<;>omega))) (by omega),?_⟩;conv=>whnf
    refine bA ((hh).put (by omega) _) fun g1 qy=>?_;conv=>whnf
    have qB:cO g1 b es ((L).set ((f+r)) (gI (L) ((f+c2)))) rest:=by rw[qy];exact(hh).next
    refine⟨_,bz (i:=(f+c2)) (by(first|with_reducible rfl|omega|(simp(disch:=omega) only[IntWalk.i64_in]<;>omega))) (by omega),?_⟩;conv=>whnf
    refine bA (qB.put (by rw[List.length_set];omega) _) fun g2 qz=>?_;conv=>whnf
    have ni:cO g2 b es (ju (L) ((f+r)) ((f+c2))) rest:=by rw[qz];exact qB.next
    have rT:Fr h2 g2 [b]:=by rw[qz,qy];exact((Fr.refl h2 [b]).set (by simp)).set (by simp)
    exact ih (n-c2) (by omega) c2 g2 _ _ rfl (by omega) (by omega) ni (by rw[dz];exact hL) (hr.trans (RS.swap (by omega) (by omega) (by omega) (by omega) (by omega))) (hx.step SO k1 k2 (by omega) k3 rY) (fr.trans rT) (by repeat' (first|exact trivial|refine And.intro (by first|with_reducible_and_instances rfl|(refine Eq.trans (b:=some (AV.int .i64 _)) rfl (congrArg (fun z=>some (AV.int .i64 z)) ?_);first|omega|(simp(disch:=omega) only[IntWalk.i64_in]<;>omega))|rfl) ?_))
   |false=>
    conv=>whnf
    exact hQ h2 L _ _ (.inl rfl) hh hr (hx.done k3 (tQ (of_decide_eq_false tw))) fr
theorem Io{h:Heap}{b es cap s n f:Nat}{op:Bool}{L:List Id}{rest:List AV}(hh:cO h b es L rest)(hN:L.length<2^60)(hf:f+n≤L.length)(G8:s≤n)(hx:HX L f s n s){Q:AV→Heap→Prop}
  (hQ:∀h' L',cO h' b es L' rest→RS f (f+n) L L'→HM L' f s n→Fr h h' [b]→Q (.cg []) h'):
  VD fs ms 81 [.sl b 0 L.length cap op,.int .i64 ((s:Nat):Int),.int .i64 ((n:Nat):Int),.int .i64 ((f:Nat):Int),fE] h Q:=by
 refine bC (af:=Sn) rfl (Nat.le_of_ble_eq_true rfl) ?_;conv=>whnf
 refine aa true ?_;conv=>whnf
 refine aG ?_;refine NH (s:=s) (n:=n) (f:=f) hN hf ?_ _ s h L _ rfl G8 (Nat.le_refl _) hh rfl (RS.refl _ _ _) hx (Fr.refl _ _) (by repeat' (first|exact trivial|refine And.intro (by first|with_reducible_and_instances rfl|(refine Eq.trans (b:=some (AV.int .i64 _)) rfl (congrArg (fun z=>some (AV.int .i64 z)) ?_);first|omega|(simp(disch:=omega) only[IntWalk.i64_in]<;>omega))|rfl) ?_));intro h' L' x e' hx' k1 k2 k3 k4;rcases hx' with rfl|rfl
 ·exact hQ h' L' k1 k2 k3 k4
 ·exact hQ h' L' k1 k2 k3 k4
theorem Qu{b es N cap n a:Nat}{op:Bool}{rest:List AV}{B:Nat}{h0:Heap}{L0:List Id}{Q:AX→Env→Heap→Prop}(hN:N<2^60)(hf:a+n≤N)
  (hQ:∀h' L' e',cO h' b es L' rest→RS a (a+n) L0 L'→HM L' a 0 n→Fr h0 h' [b]→aW e' [(0,.sl b 0 N cap op),(3,fE),(8,.int .i64 ((a:Nat):Int)),(9,.int .i64 ((0:Nat):Int)),(10,.int .i64 ((n:Nat):Int))]→Q (.exit 0) e' h'):
  ∀(k:Nat) (h:Heap) (L:List Id) (z:Int) (env:Env),z=((k:Nat):Int)-1→k≤n→cO h b es L rest→L.length=N→RS a (a+n) L0 L→HM L a k n→Fr h0 h [b]→aW env [(0,.sl b 0 N cap op),(3,fE),(8,.int .i64 ((a:Nat):Int)),(9,.int .i64 ((0:Nat):Int)),(10,.int .i64 ((n:Nat):Int)),(11,.int .i64 z)]→
  VC fs ms B false (.loop dV) env h Q:=by
 intro k;induction k with
 |zero=>
  intro h L z env hz hk hh hL hr hx fr bM;refine an 4 _ bM ?_;refine bB (z:=true) ?_;conv=>whnf
  refine od ((show decide (z≥0)=false from decide_eq_false (by omega))) (fun hc=>?_)
  (try rw[hc])
  conv=>whnf
  exact hQ h L _ hh hr hx fr (by repeat' (first|exact trivial|refine And.intro (by first|with_reducible_and_instances rfl|(refine Eq.trans (b:=some (AV.int .i64 _)) rfl (congrArg (fun z=>some (AV.int .i64 z)) ?_);first|omega|(simp(disch:=omega) only[IntWalk.i64_in]<;>omega))|rfl) ?_))
 |succ k ih=>
  intro h L z env hz hk hh hL hr hx fr bM;have hz:z=((k:Nat):Int):=by omega
  subst hz;refine an 4 _ bM ?_;refine bB (z:=true) ?_;conv=>whnf
  subst hL;have UJ:HX L a k n k:=⟨fun c p h1 h2 h3 h4 h5=>hx c p h1 h2 h3 (by omega),fun c p h1 h2 h3 h4 h5 h6=>by omega⟩;refine Io hh hN hf (by omega) UJ fun h2 L2 k1 k2 k3 k4=>?_;conv=>whnf
  have hl:=k2.len;refine ih h2 L2 _ _ ?_ (by omega) k1 (by omega) (hr.trans k2) k3 (fr.trans k4) ⟨rfl,rfl,rfl,rfl,rfl,rfl,trivial⟩;rw[IntWalk.i64_in _ (by omega)]
structure HT(L:List Id)(a n k:Nat):Prop where
 hm:HM L a 0 k
 st:oa L (a+k) (a+n)
 up:∀u v,u<k→k≤v→v<n→ah (gI L (a+v)) (gI L (a+u))=false
theorem HT.ju{L:List Id}{a n k:Nat}(h:HT L a n (k+1))(hk:k+1≤n)(hn:a+n≤L.length):HX (ju L a (a+k)) a 0 k 0∧oa (ju L a (a+k)) (a+k) (a+n)∧∀u v,u<k→k≤v→v<n→ah (gI (ju L a (a+k)) (a+v)) (gI (ju L a (a+k)) (a+u))=false:=by
 have hg:=jo (V:=L) (show a<L.length by omega) (show a+k<L.length by omega);have top:=h.hm.top;refine⟨⟨fun c p h1 h2 h3 h4 h5=>?_,fun c p h1 h2 h3 h4 h5 h6=>by omega⟩,fun i j h1 h2 h3=>?_,fun u v h1 h2 h3=>?_⟩
 ·rw[hg,if_neg (by omega),if_neg (by omega),hg,if_neg (by omega),if_neg (by omega)];exact h.hm c p h1 (by omega) h3 h4
 ·obtain⟨j,rfl⟩:∃j',j=a+j':=⟨j-a,by omega⟩;rw[hg (a+j),if_neg (by omega),if_neg (by omega)];by_cases e:i=a+k
  ·subst e;rw[hg,if_pos rfl];have:=h.up 0 j (by omega) (by omega) (by omega)
   rwa [Nat.add_zero] at this
  ·rw[hg,if_neg e,if_neg (by omega)];exact h.st i (a+j) (by omega) h2 h3
 ·have hmem:∃u',u'<k+1∧gI (Ir.ju L a (a+k)) (a+u)=gI L (a+u'):=by
   by_cases e:u=0
   ·subst e;refine⟨k,by omega,?_⟩;rw[hg,if_neg (by omega),if_pos (by omega)]
   ·exact⟨u,by omega,by rw[hg,if_neg (by omega),if_neg (by omega)]⟩
  obtain⟨u',SR,eu⟩:=hmem;rw[eu];by_cases e:v=k
  ·subst e;rw[hg,if_pos rfl];exact top u' SR
  ·rw[hg,if_neg (by omega),if_neg (by omega)];exact h.up u' v SR (by omega) h3
theorem HT.Vi{L M:List Id}{a n k:Nat}(hx:oa L (a+k) (a+n))(hu:∀u v,u<k→k≤v→v<n→ah (gI L (a+v)) (gI L (a+u))=false)(r:RS a (a+k) L M)(hm:HM M a 0 k)(hk:k≤n):HT M a n k:=by
 refine⟨hm,fun i j h1 h2 h3=>?_,fun u v h1 h2 h3=>?_⟩
 ·rw[r.out i (by omega),r.out j (by omega)];exact hx i j h1 h2 h3
 ·rw[r.out (a+v) (by omega)];refine r.all (p:=fun y=>ah (gI L (a+v)) y=false) (fun k' k1 k2=>?_) (a+u) (by omega) (by omega);have:=hu (k'-a) v (by omega) h2 h3
  rwa [show a+(k'-a)=k' by omega] at this
theorem Qv{b es N cap n a:Nat}{op:Bool}{rest:List AV}{B:Nat}{h0:Heap}{L0:List Id}{Q:AX→Env→Heap→Prop}(hN:N<2^60)(hf:a+n≤N)
  (hQ:∀h' L' e',cO h' b es L' rest→RS a (a+n) L0 L'→oa L' a (a+n)→Fr h0 h' [b]→Q (.exit 2) e' h'):
  ∀(k:Nat) (h:Heap) (L:List Id) (z:Int) (env:Env),z=((k:Nat):Int)-1→k≤n→cO h b es L rest→L.length=N→RS a (a+n) L0 L→HT L a n k→Fr h0 h [b]→aW env [(0,.sl b 0 N cap op),(3,fE),(8,.int .i64 ((a:Nat):Int)),(9,.int .i64 ((0:Nat):Int)),(12,.int .i64 z)]→
  VC fs ms B false (.loop dW) env h Q:=by
 intro k;induction k with
 |zero=>
  intro h L z env hz hk hh hL hr hx fr bM;refine an 4 _ bM ?_;refine bB (z:=true) ?_;conv=>whnf
  refine od ((show decide (z≥0)=false from decide_eq_false (by omega))) (fun hc=>?_)
  (try rw[hc])
  conv=>whnf
  exact hQ h L _ hh hr hx.st fr
 |succ k ih=>
  intro h L z env hz hk hh hL hr hx fr bM;have hz:z=((k:Nat):Int):=by omega
  subst hz;refine an 4 _ bM ?_;refine bB (z:=true) ?_;conv=>whnf
  refine⟨_,bz (i:=(a+k)) (by(first|with_reducible rfl|omega|(simp(disch:=omega) only[IntWalk.i64_in]<;>omega))) (by omega),?_⟩;conv=>whnf
  refine⟨_,(hh).one (by omega),?_⟩;conv=>whnf
  refine⟨_,bz (i:=a) (by(first|with_reducible rfl|omega|(simp(disch:=omega) only[IntWalk.i64_in]<;>omega))) (by omega),?_⟩;conv=>whnf
  refine⟨_,(hh).one (by omega),?_⟩;conv=>whnf
  refine⟨_,bz (i:=a) (by(first|with_reducible rfl|omega|(simp(disch:=omega) only[IntWalk.i64_in]<;>omega))) (by omega),?_⟩;conv=>whnf
  refine bA ((hh).put (by omega) _) fun g1 qy=>?_;conv=>whnf
  have qB:cO g1 b es ((L).set (a) (gI (L) ((a+k)))) rest:=by rw[qy];exact(hh).next
  refine⟨_,bz (i:=(a+k)) (by(first|with_reducible rfl|omega|(simp(disch:=omega) only[IntWalk.i64_in]<;>omega))) (by omega),?_⟩;conv=>whnf
  refine bA (qB.put (by rw[List.length_set];omega) _) fun g2 qz=>?_;conv=>whnf
  have ni:cO g2 b es (ju (L) (a) ((a+k))) rest:=by rw[qz];exact qB.next
  have rT:Fr h g2 [b]:=by rw[qz,qy];exact((Fr.refl h [b]).set (by simp)).set (by simp)
  obtain⟨x1,x2,x3⟩:=hx.ju hk (by omega);have r1:RS a (a+n) L0 (ju L a (a+k)):=hr.trans (RS.swap (by omega) (by omega) (by omega) (by omega) (by omega));have zZ:(ju L a (a+k)).length=N:=by rw[dz];exact hL
  revert x1 x2 x3 r1 zZ ni;generalize ju L a (a+k)=M;intro hM x1 x2 x3 r1 zZ;subst zZ;refine Io hM hN (show a+k≤M.length by omega) (Nat.zero_le k) x1 fun h2 L2 k1 k2 k3 k4=>?_;conv=>whnf
  have hl:=k2.len;refine ih h2 L2 _ _ ?_ (by omega) k1 (by omega) (r1.trans (k2.wide (Nat.le_refl _) (by omega))) (HT.Vi x2 x3 k2 k3 (by omega)) ((fr.trans rT).trans k4) ⟨rfl,rfl,rfl,rfl,rfl,trivial⟩;rw[IntWalk.i64_in _ (by omega)]
theorem JK{h:Heap}{b es cap a e:Nat}{op:Bool}{L:List Id}{rest:List AV}(hh:cO h b es L rest)(hN:L.length<2^60)(ha:a<e)(he:e≤L.length){Q:AV→Heap→Prop}
  (hQ:∀h' L',cO h' b es L' rest→RS a e L L'→oa L' a e→Fr h h' [b]→Q (.cg []) h'):
  VD fs ms 72 [.sl b 0 L.length cap op,.int .i64 ((a:Nat):Int),.int .i64 ((e:Nat):Int),fE] h Q:=by
 obtain⟨n,hn⟩:∃n,n=e-a:=⟨_,rfl⟩;obtain rfl:e=a+n:=by omega
 have el:IntKind.i64.wrap (((a+n:Nat):Int)-((a:Nat):Int))=((n:Nat):Int):=by rw[IntWalk.i64_in _ (by omega)];omega
 obtain⟨q,hq⟩:∃q,q=(n-1)/2:=⟨_,rfl⟩;have JD:pV (.bin .quo) [.int .i64 (IntKind.i64.wrap (((n:Nat):Int)-1)),.int .i64 2]=some (.int .i64 ((q:Nat):Int)):=by rw[hq];exact Az (n-1) 2 (by(first|with_reducible rfl|omega|(simp(disch:=omega) only[IntWalk.i64_in]<;>omega))) rfl (by omega) (by omega)
 clear hn;refine bC (af:=Sg) rfl (Nat.le_of_ble_eq_true rfl) ?_;conv=>whnf
 refine aa true ?_;conv=>whnf
 refine aa true ?_;conv=>whnf
 refine aa true ?_;conv=>whnf
 rw[el];refine aJ (aa true ?_);conv=>whnf
 refine⟨_,JD,?_⟩;conv=>whnf
 refine aG ?_;refine Qu (n:=n) (a:=a) hN he ?_ (q+1) h L _ _ (by omega) (by omega) hh rfl (RS.refl _ _ _) (fun c p h1 h2 h3 h4=>by omega) (Fr.refl _ _) ⟨rfl,rfl,rfl,rfl,rfl,rfl,trivial⟩;intro h1 L1 e1 k1 k2 k3 k4 k5;show VC fs ms _ _ _ _ _ _;have hl:=k2.len;refine an 4 _ k5 (aa true ?_);conv=>whnf
 refine aG ?_;refine Qv (L0:=L) (n:=n) (a:=a) hN he ?_ n h1 L1 _ _ ?_ (Nat.le_refl _) k1 (by omega) k2 ⟨k3,fun i j h1 h2 h3=>by omega,fun u v h1 h2 h3=>by omega⟩ k4 ⟨rfl,rfl,rfl,rfl,rfl,trivial⟩
 ·intro h' L' e' m1 m2 m3 m4;exact hQ h' L' m1 m2 m3 m4
 ·rw[IntWalk.i64_in _ (by omega)]
end Ir
end Go.Proofs.Ytenafeojcgmnhaa
set_option maxRecDepth 100000
set_option linter.unusedSimpArgs false
set_option linter.unusedVariables false
namespace Go.Proofs.Ytenafeojcgmnhaa
open Go Ads
namespace Ir
section
variable {h:Heap} {b es cap a e N:Nat} {op:Bool} {L:List Id} {rest:List AV} {Q:AV→Heap→Prop}
theorem QG(hL:L.length=N)(hh:cO h b es L rest)(hN:N<65)(ha:a≤e)(he:e≤N)(hQ:∀h' L',cO h' b es L' rest→RS a e L L'→oa L' a e→Fr h h' [b]→Q (.cg []) h'):
  VD fs ms 71 [.sl b 0 N cap op,.int .i64 ((a:Nat):Int),.int .i64 ((e:Nat):Int),fE] h Q:=by
 subst hL;exact Lj hh (by omega) ha he hQ
theorem JJ(hL:L.length=N)(hh:cO h b es L rest)(hN:N<65)(ha:a<e)(he:e≤N)(hQ:∀h' L',cO h' b es L' rest→RS a e L L'→oa L' a e→Fr h h' [b]→Q (.cg []) h'):
  VD fs ms 72 [.sl b 0 N cap op,.int .i64 ((a:Nat):Int),.int .i64 ((e:Nat):Int),fE] h Q:=by
 subst hL;exact JK hh (by omega) ha he hQ
theorem OZ(hL:L.length=N)(hh:cO h b es L rest)(hN:N<65)(ha:a+12<e)(he:e≤N)(hQ:∀h' L',cO h' b es L' rest→RS a e L L'→Fr h h' [b]→Q (.cg []) h'):
  VD fs ms 73 [.sl b 0 N cap op,.int .i64 ((a:Nat):Int),.int .i64 ((e:Nat):Int),fE] h Q:=by
 subst hL;exact O1 hh hN ha he hQ
theorem Ks(hL:L.length=N)(hh:cO h b es L rest)(hN:N<65)(ha:a+12<e)(he:e≤N)(hQ:∀h' p t,cO h' b es L rest→a≤p→p<e→Fr h h' [b]→Q (.cg [.int .i64 ((p:Nat):Int),.int .i64 t]) h'):
  VD fs ms 74 [.sl b 0 N cap op,.int .i64 ((a:Nat):Int),.int .i64 ((e:Nat):Int),fE] h Q:=by
 subst hL;exact Kt hh (by omega) ha he hQ
theorem Rj(hL:L.length=N)(hh:cO h b es L rest)(hN:N<65)(ha:a<e)(he:e≤N)(hQ:∀h' L',cO h' b es L' rest→RS a e L L'→Fr h h' [b]→Q (.cg []) h'):
  VD fs ms 75 [.sl b 0 N cap op,.int .i64 ((a:Nat):Int),.int .i64 ((e:Nat):Int),fE] h Q:=by
 subst hL;exact Rl hh (by omega) ha he hQ
theorem U5(hL:L.length=N)(hh:cO h b es L rest)(hN:N<65)(ha:a<e)(he:e≤N)(lo:Fs L a e)(hQ:∀h' L' c,cO h' b es L' rest→RS a e L L'→(c=true→oa L' a e)→Fr h h' [b]→Q (.bool c) h'):
  VD fs ms 76 [.sl b 0 N cap op,.int .i64 ((a:Nat):Int),.int .i64 ((e:Nat):Int),fE] h Q:=by
 subst hL;exact U6 hh (by omega) ha he lo hQ
theorem Nw{p:Nat}(hL:L.length=N)(hh:cO h b es L rest)(hN:N<65)(ha:a<e)(he:e≤N)(hp:a≤p)(VW:p<e)(hQ:∀h' L' m c,cO h' b es L' rest→RS a e L L'→Em L' a e m→Fr h h' [b]→Q (.cg [.int .i64 ((m:Nat):Int),.bool c]) h'):
  VD fs ms 78 [.sl b 0 N cap op,.int .i64 ((a:Nat):Int),.int .i64 ((e:Nat):Int),.int .i64 ((p:Nat):Int),fE] h Q:=by
 subst hL;exact Nx hh (by omega) ha he hp VW hQ
end
def Ny(b N cap a e:Nat)(op:Bool)(QT:Int)(wb wp:Bool):List (Nat×AV):=[(0,.sl b 0 N cap op),(1,.int .i64 ((a:Nat):Int)),(2,.int .i64 ((e:Nat):Int)),(3,.int .i64 QT),(4,fE),(10,.bool wb),(11,.bool wp)]
theorem Ra{b es N cap:Nat}{op:Bool}{rest:List AV}(hN:N<65):
  ∀(n a e:Nat) (h:Heap) (L:List Id) (QT:Int) (wb wp:Bool) (env:Env) (B:Nat) (Q:AX→Env→Heap→Prop),e-a=n→a≤e→e≤N→cO h b es L rest→L.length=N→Fs L a e→FB L→aW env (Ny b N cap a e op QT wb wp)→
  (∀h' L' e',cO h' b es L' rest→RS a e L L'→oa L' a e→Fr h h' [b]→Q .ret e' h')→
  VC fs ms B false (.loop eo) env h Q:=by
 intro n;induction n using Nat.strongRecOn with
 |ind n ih=>
 intro a e h L QT wb wp env B Q hn hae he hh hL lo hd bM hQ;have el:IntKind.i64.wrap (((e:Nat):Int)-((a:Nat):Int))=((n:Nat):Int):=by rw[IntWalk.i64_in _ (by omega)];omega
 have call:∀(a' e':Nat) (h1:Heap) (M:List Id) (l1:Int) (Q1:AV→Heap→Prop),e'-a'<n→a'≤e'→e'≤N→cO h1 b es M rest→M.length=N→Fs M a' e'→FB M→
   (∀h' L',cO h' b es L' rest→RS a' e' M L'→oa L' a' e'→Fr h1 h' [b]→Q1 (.cg []) h')→
   VD fs ms 66 [.sl b 0 N cap op,.int .i64 ((a':Nat):Int),.int .i64 ((e':Nat):Int),.int .i64 l1,fE] h1 Q1:=by
  intro a' e' h1 M l1 Q1 c1 c2 c3 c4 c5 c6 c7 c8;refine bC (af:=Lv) rfl (Nat.le_of_ble_eq_true rfl) ?_;conv=>whnf
  refine aa true ?_;conv=>whnf
  refine aa true ?_;conv=>whnf
  refine aG ?_;refine ih _ c1 a' e' h1 M l1 true true _ _ _ rfl c2 c3 c4 c5 c6 c7 ⟨rfl,rfl,rfl,rfl,rfl,rfl,rfl,trivial⟩ ?_;intro h' L' e2 k1 k2 k3 k4;exact c8 h' L' k1 k2 k3 k4
 refine an 4 _ bM ?_;unfold Ny;refine cK (aG (aa true ?_));conv=>whnf
 rw[el];refine aa true ?_;conv=>whnf
 refine br (fun hc=>?_) (fun hc=>?_)<;>(try rw[hc])<;>(conv=>whnf)
 ·refine QG hL hh hN hae he fun h' L' k1 k2 k3 k4=>?_;conv=>whnf
  exact hQ h' L' _ k1 k2 k3 k4
 have Wy:12<n:=by have:=of_decide_eq_false hc;omega
 clear hc;refine aa true ?_;conv=>whnf
 refine br (fun hc=>?_) (fun hc=>?_)<;>(try rw[hc])<;>(conv=>whnf)
 ·refine JJ hL hh hN (by omega) he fun h' L' k1 k2 k3 k4=>?_;conv=>whnf
  exact hQ h' L' _ k1 k2 k3 k4
 clear hc;refine aJ ?_;refine VC.mono (Q:=fun x e2 h2=>x=.normal∧∃(L2:List Id) (l2:Int),cO h2 b es L2 rest∧RS a e L L2∧Fr h h2 [b]∧aW e2 (Ny b N cap a e op l2 wb wp++[(12,.int .i64 ((n:Nat):Int))])) ?_ ?_
 ·refine aq (z:=true) ?_;conv=>whnf
  cases wb with
  |true=>
   conv=>whnf
   exact⟨rfl,L,QT,hh,RS.refl _ _ _,Fr.refl _ _,rfl,rfl,rfl,rfl,rfl,rfl,rfl,rfl,trivial⟩
  |false=>
   conv=>whnf
   refine OZ hL hh hN (by omega) he fun h' L' k1 k2 k3=>?_;conv=>whnf
   exact⟨rfl,L',_,k1,k2,k3,rfl,rfl,rfl,rfl,rfl,rfl,rfl,rfl,trivial⟩
 rintro x e2 h2 ⟨rfl,L2,l2,lV,r2,iI,wA⟩;show VC fs ms _ _ _ _ _ _;have yT:L2.length=N:=by rw[←r2.len];exact hL
 refine an 4 _ wA (aa true ?_);conv=>whnf
 refine Ks yT lV hN (by omega) he fun h3 p t k1 k2 k3 k4=>?_;conv=>whnf
 have ql:=iI.trans k4;refine aJ ?_;refine VC.mono (Q:=fun x e2 h2=>x=.normal∧∃(L2:List Id) (p:Nat) (t:Int),cO h2 b es L2 rest∧RS a e L L2∧Fr h h2 [b]∧a≤p∧p<e∧aW e2 (Ny b N cap a e op l2 wb wp++[(12,.int .i64 ((n:Nat):Int)),(13,.int .i64 ((p:Nat):Int)),(14,.int .i64 t)])) ?_ ?_
 ·refine aq (z:=true) ?_;conv=>whnf
  refine br (fun hc=>?_) (fun hc=>?_)<;>(try rw[hc])<;>(conv=>whnf)
  ·refine Rj yT k1 hN (by omega) he fun h4 L4 m1 m2 m3=>?_;conv=>whnf
   have ep:IntKind.i64.wrap (IntKind.i64.wrap (((e:Nat):Int)-1)-IntKind.i64.wrap (((p:Nat):Int)-((a:Nat):Int)))=((e-1-(p-a):Nat):Int):=by
    rw[IntWalk.i64_in (((e:Nat):Int)-1) (by omega),IntWalk.i64_in (((p:Nat):Int)-_) (by omega),IntWalk.i64_in _ (by omega)];omega
   rw[ep];exact⟨rfl,L4,e-1-(p-a),_,m1,r2.trans m2,ql.trans m3,by omega,by omega,rfl,rfl,rfl,rfl,rfl,rfl,rfl,rfl,rfl,rfl,trivial⟩
  ·exact⟨rfl,L2,p,t,k1,r2,ql,k2,k3,rfl,rfl,rfl,rfl,rfl,rfl,rfl,rfl,rfl,rfl,trivial⟩
 clear k1 k2 k3 k4 ql yT lV r2 iI wA;rintro x e2 h2 ⟨rfl,L2,p,t,lV,r2,iI,VV,Cs,wA⟩;show VC fs ms _ _ _ _ _ _;have yT:L2.length=N:=by rw[←r2.len];exact hL
 refine an 4 _ wA (aJ ?_);refine VC.mono (Q:=fun x e2 h2=>(x=.ret∧∃L2,cO h2 b es L2 rest∧RS a e L L2∧oa L2 a e∧Fr h h2 [b])∨(x=.normal∧∃(L2:List Id),cO h2 b es L2 rest∧RS a e L L2∧Fr h h2 [b]∧aW e2 (Ny b N cap a e op l2 wb wp++[(12,.int .i64 ((n:Nat):Int)),(13,.int .i64 ((p:Nat):Int))]))) ?_ ?_
 ·refine aq (z:=true) ?_;conv=>whnf
  cases wb with
  |false=>
   conv=>whnf
   exact .inr ⟨rfl,L2,lV,r2,iI,rfl,rfl,rfl,rfl,rfl,rfl,rfl,rfl,rfl,trivial⟩
  |true=>
   cases wp with
   |false=>
    conv=>whnf
    exact .inr ⟨rfl,L2,lV,r2,iI,rfl,rfl,rfl,rfl,rfl,rfl,rfl,rfl,rfl,trivial⟩
   |true=>
    conv=>whnf
    refine br (fun hc=>?_) (fun hc=>?_)<;>(try rw[hc])<;>(conv=>whnf)
    ·refine U5 yT lV hN (by omega) he (lo.rs r2) fun h4 L4 c m1 m2 m3 m4=>?_;conv=>whnf
     cases c with
     |true=>
      conv=>whnf
      exact .inl ⟨rfl,L4,m1,r2.trans m2,m3 rfl,iI.trans m4⟩
     |false=>
      conv=>whnf
      exact .inr ⟨rfl,L4,m1,r2.trans m2,iI.trans m4,rfl,rfl,rfl,rfl,rfl,rfl,rfl,rfl,rfl,trivial⟩
    ·exact .inr ⟨rfl,L2,lV,r2,iI,rfl,rfl,rfl,rfl,rfl,rfl,rfl,rfl,rfl,trivial⟩
 clear yT lV r2 iI wA;rintro x e2 h2 (⟨rfl,L2,lV,r2,s2,iI⟩|⟨rfl,L2,lV,r2,iI,wA⟩)
 ·exact hQ h2 L2 e2 lV r2 s2 iI
 show VC fs ms _ _ _ _ _ _;have yT:L2.length=N:=by rw[←r2.len];exact hL
 have Hz:=lo.rs r2;have JC:=r2.dst hd;refine an 4 _ wA (aJ ?_);refine VC.mono (Q:=fun x e2 h3=>x=.normal∧h3=h2∧aW e2 (Ny b N cap a e op l2 wb wp++[(12,.int .i64 ((n:Nat):Int)),(13,.int .i64 ((p:Nat):Int))])) ?_ ?_
 ·refine aq (z:=true) ?_;unfold Ny;conv=>whnf
  rcases Nat.eq_zero_or_pos a with h0|h0
  ·refine od ((show decide (((a:Nat):Int)>0)=false from decide_eq_false (by omega))) (fun hc=>?_)
   (try rw[hc])
   conv=>whnf
   exact⟨rfl,rfl,rfl,rfl,rfl,rfl,rfl,rfl,rfl,rfl,rfl,trivial⟩
  ·refine IK ((show decide (((a:Nat):Int)>0)=true from decide_eq_true (by omega))) (fun hc=>?_)
   (try rw[hc])
   conv=>whnf
   refine⟨_,bz (i:=a-1) (by(first|with_reducible rfl|omega|(simp(disch:=omega) only[IntWalk.i64_in]<;>omega))) (by omega),?_⟩;conv=>whnf
   refine⟨_,(lV).one (by omega),?_⟩;conv=>whnf
   refine⟨_,bz (i:=p) (by(first|with_reducible rfl|omega|(simp(disch:=omega) only[IntWalk.i64_in]<;>omega))) (by omega),?_⟩;conv=>whnf
   refine⟨_,(lV).one (by omega),?_⟩;conv=>whnf
   refine aZ (kj _ _) ?_;conv=>whnf
   rw[show decide (uo (gI L2 (a-1)) (gI L2 p)<0)=true from decide_eq_true ((iS _ _).2 (Hz h0 p VV Cs))];conv=>whnf
   exact⟨rfl,rfl,rfl,rfl,rfl,rfl,rfl,rfl,rfl,rfl,rfl,trivial⟩
 clear wA;rintro x e2 h3 ⟨rfl,rfl,wA⟩;show VC fs ms _ _ _ _ _ _;refine an 4 _ wA (aa true ?_);conv=>whnf
 refine Nw yT lV hN (by omega) he VV Cs fun h4 L4 m c k1 k2 k3 k4=>?_;conv=>whnf
 have N8:L4.length=N:=by rw[←k2.len];exact yT
 have lo4:=Hz.rs k2;have Ob:=k2.dst JC;have am:=k3.am;have me:=k3.me;have e1:IntKind.i64.wrap (((m:Nat):Int)-((a:Nat):Int))=((m-a:Nat):Int):=by rw[IntWalk.i64_in _ (by omega)];omega
 have e2:IntKind.i64.wrap (((e:Nat):Int)-((m:Nat):Int))=((e-m:Nat):Int):=by rw[IntWalk.i64_in _ (by omega)];omega
 have ko:Fs L4 a m:=fun h0 k g1 g2=>lo4 h0 k g1 (by omega);have Qf:Fs L4 (m+1) e:=k3.low (by omega) Ob;have em:IntKind.i64.wrap (((m:Nat):Int)+1)=((m+1:Nat):Int):=mg (by omega);refine aa true ?_;conv=>whnf
 refine aa true ?_;conv=>whnf
 rw[e1,e2];refine aa true ?_;conv=>whnf
 refine⟨_,Az n 8 rfl rfl (by omega) (by omega),?_⟩;conv=>whnf
 obtain⟨q,hq⟩:∃q,n/8=q:=⟨_,rfl⟩;rw[hq];refine aa true ?_;conv=>whnf
 refine aq (z:=true) ?_;conv=>whnf
 refine br (fun hc=>?_) (fun hc=>?_)<;>(try rw[hc])<;>(conv=>whnf)
 ·generalize SW:decide (((m-a:Nat):Int)≥((q:Nat):Int))=wb';refine call a m h4 L4 l2 _ (by omega) am (by omega) k1 N8 ko Ob fun h5 L5 g1 g2 g3 g4=>?_;conv=>whnf
  rw[em];have TE:L5.length=N:=by rw[←g2.len];exact N8
  have p5:=k3.left g2;refine ih (e-(m+1)) (by omega) (m+1) e h5 L5 l2 wb' c _ B Q rfl (by omega) he g1 TE (p5.low (by omega) (g2.dst Ob)) (g2.dst Ob) ⟨rfl,rfl,rfl,rfl,rfl,rfl,rfl,trivial⟩ ?_;intro h6 L6 e6 j1 j2 j3 j4;refine hQ h6 L6 e6 j1 ((r2.trans k2).trans ((g2.wide (Nat.le_refl _) (by omega)).trans (j2.wide (by omega) (Nat.le_refl _)))) ?_ (((iI.trans k4).trans g4).trans j4);refine(p5.right j2).Rr (fun u v h1 h2 h3=>?_) j3;rw[j2.out u (by omega),j2.out v (by omega)];exact g3 u v h1 h2 h3
 ·generalize SW:decide (((e-m:Nat):Int)≥((q:Nat):Int))=wb';rw[em];refine call (m+1) e h4 L4 l2 _ (by omega) (by omega) he k1 N8 Qf Ob fun h5 L5 g1 g2 g3 g4=>?_;conv=>whnf
  have TE:L5.length=N:=by rw[←g2.len];exact N8
  have p5:=k3.right g2;refine ih (m-a) (by omega) a m h5 L5 l2 wb' c _ B Q rfl am (by omega) g1 TE ?_ (g2.dst Ob) ⟨rfl,rfl,rfl,rfl,rfl,rfl,rfl,trivial⟩ ?_
  ·intro h0 k j1 j2;rw[g2.out (a-1) (by omega),g2.out k (by omega)];exact ko h0 k j1 j2
  intro h6 L6 e6 j1 j2 j3 j4;refine hQ h6 L6 e6 j1 ((r2.trans k2).trans ((g2.wide (by omega) (Nat.le_refl _)).trans (j2.wide (Nat.le_refl _) (by omega)))) ?_ (((iI.trans k4).trans g4).trans j4);refine(p5.left j2).Rr j3 (fun u v h1 h2 h3=>?_);rw[j2.out u (by omega),j2.out v (by omega)];exact g3 u v h1 h2 h3
end Ir
end Go.Proofs.Ytenafeojcgmnhaa
set_option maxRecDepth 100000
set_option linter.unusedSimpArgs false
set_option linter.unusedVariables false
namespace Go.Proofs.Ytenafeojcgmnhaa
open Go Ads
namespace Ir
theorem Kq{h:Heap}{b es cap:Nat}{op:Bool}{L:List Id}{rest:List AV}{m:Int}(hh:cO h b es L rest)(xK:L.length≤64)(hd:FB L){Q:AV→Heap→Prop}
  (hQ:∀h' L',cO h' b es L' rest→RS 0 L.length L L'→oa L' 0 L.length→Fr h h' [b]→Q (.cg []) h'):
  VD fs ms 66 [.sl b 0 L.length cap op,.int .i64 ((0:Nat):Int),.int .i64 ((L.length:Nat):Int),.int .i64 m,fE] h Q:=by
 refine bC (af:=Lv) rfl (Nat.le_of_ble_eq_true rfl) ?_;conv=>whnf
 refine aa true ?_;conv=>whnf
 refine aa true ?_;conv=>whnf
 refine aG ?_;refine Ra (N:=L.length) (by omega) _ 0 L.length h L m true true _ _ _ rfl (Nat.zero_le _) (Nat.le_refl _) hh rfl (fun h=>by omega) hd ⟨rfl,rfl,rfl,rfl,rfl,rfl,rfl,trivial⟩ ?_;intro h' L' e2 k1 k2 k3 k4;exact hQ h' L' k1 k2 k3 k4
theorem Iq{h:Heap}{b es cap:Nat}{op:Bool}{L:List Id}{rest:List AV}(hh:cO h b es L rest)(xK:L.length≤64)(hd:FB L){Q:AV→Heap→Prop}
  (hQ:∀h' L',cO h' b es L' rest→RS 0 L.length L L'→oa L' 0 L.length→Fr h h' [b]→Q (.cg []) h'):
  VD fs ms 47 [.sl b 0 L.length cap op,fE] h Q:=by
 refine aE (af:=NW) true rfl (Nat.le_of_ble_eq_true rfl) ?_;conv=>whnf
 obtain⟨m,hm⟩:=FG (n:=L.length) (by omega);have hu:IntKind.u64.wrap ((L.length:Nat):Int)=((L.length:Nat):Int):=by
  have ko:∀z:Int,IntKind.u64.wrap z=z%18446744073709551616:=fun z=>by simp[IntKind.wrap,IntKind.signed,IntKind.bits]
  rw[ko];omega
 rw[hu];refine aZ hm ?_;conv=>whnf
 refine Kq hh xK hd fun h' L' k1 k2 k3 k4=>?_;conv=>whnf
 exact hQ h' L' k1 k2 k3 k4
theorem uC{h:Heap}{k p:Nat}{S:List Nat}{L:List Id}{P:Nat→Nat}(hr:mG h k p S L P){Q:AV→Heap→Prop}
  (hQ:∀h' v M,dr h.next h' v (oe M)→Ord L M→Fr h h' []→Q v h'):VD fs ms 19 [.ptr k 0] h Q:=by
 refine bC (af:=NU) rfl (Nat.le_of_ble_eq_true rfl) ?_;conv=>whnf
 refine aa true ?_;conv=>whnf
 refine aa true ?_;conv=>whnf
 refine vD hr ?_;conv=>whnf
 obtain⟨rv,c1,c2⟩:=Du hr.row hr.pl.mj;refine aa true ?_;conv=>whnf
 refine⟨_,bQ hr.hk rfl,?_⟩;conv=>whnf
 refine⟨_,c1,?_⟩;conv=>whnf
 refine c2 (fun hL=>?_) fun h1 c es op hs hc fr=>?_
 ·conv=>whnf
  refine aa true ?_;conv=>whnf
  refine aZ BE ?_;conv=>whnf
  refine aa true ?_;conv=>whnf
  refine bB (z:=true) ?_;conv=>whnf
  refine aq (z:=true) ?_;conv=>whnf
  subst hL;refine hQ h .aN [] (.inl ⟨rfl,rfl⟩) ⟨rfl,fun y=>Iff.rfl,?_,?_⟩ (Fr.refl _ _)
  ·intro i j hi;simp at hi
  ·intro i j h1 h2 h3;simp at h3
 ·conv=>whnf
  refine aa true ?_;conv=>whnf
  refine Iq hs hr.pl.mj hr.pl.oz fun h2 M k1 k2 k3 k4=>?_;conv=>whnf
  have Jy:=k2.len;have hd:FB M:=k2.dst hr.pl.oz;have iI:Fr h h2 []:=⟨Nat.le_trans fr.next k4.next,fun b hb _=>by
   rw[k4.keep b (Nat.lt_of_lt_of_le hb fr.next) (by simp;omega)];exact fr.keep b hb (by simp)⟩
  refine aJ (aa true ?_);conv=>whnf
  refine aG ?_;have xK:=hr.pl.mj;refine A8 (L:=M) (N:=L.length) xK Jy.symm hc _ 0 h2 .aN _ rfl k1 (Nat.zero_le _) (.inl ⟨rfl,rfl⟩) (fun o n k op e=>by cases e) iI ⟨rfl,rfl,rfl,rfl,trivial⟩ ?_;intro h3 v e3 g2 hi hf;show VC fs ms _ _ _ _ _ _;refine an 3 [(2,v)] ⟨g2,trivial⟩ (aq (z:=true) ?_);conv=>whnf
  refine hQ h3 v M hi ⟨Jy.symm,fun y=>?_,hd,by rw[←Jy];exact k3⟩ hf;rw[bZ,bZ];have:=k2.mem y;rw[←Jy];constructor
  ·rintro⟨i,hi,e⟩;obtain⟨j,_,j1,j2⟩:=this.2 ⟨i,Nat.zero_le _,hi,e⟩;exact⟨j,j1,j2⟩
  ·rintro⟨i,hi,e⟩;obtain⟨j,_,j1,j2⟩:=this.1 ⟨i,Nat.zero_le _,hi,e⟩;exact⟨j,j1,j2⟩
theorem sN{α:Type}{r:α→α→Prop}(Hh:∀x,¬r x x)(OX:∀x y,r x y→¬r y x):∀(A B:List α),A.Pairwise r→B.Pairwise r→(∀y,y∈A↔y∈B)→A=B
 |[],[],_,_,_=>rfl
 |[],b::B,_,_,h=>absurd ((h b).2 List.mem_cons_self) (by simp)
 |a::A,[],_,_,h=>absurd ((h a).1 List.mem_cons_self) (by simp)
 |a::A,b::B,ha,hb,h=>by
  rw[List.pairwise_cons] at ha hb;have e:a=b:=by
   rcases List.mem_cons.1 ((h a).1 List.mem_cons_self) with e|e
   ·exact e
   ·rcases List.mem_cons.1 ((h b).2 List.mem_cons_self) with e2|e2
    ·exact e2.symm
    ·exact absurd (ha.1 b e2) (OX _ _ (hb.1 a e))
  subst e
  congr 1
  refine sN Hh OX A B ha.2 hb.2 fun y=>⟨fun hy=>?_,fun hy=>?_⟩
  ·rcases List.mem_cons.1 ((h y).1 (List.mem_cons_of_mem _ hy)) with e|e
   ·subst e;exact absurd (ha.1 y hy) (Hh y)
   ·exact e
  ·rcases List.mem_cons.1 ((h y).2 (List.mem_cons_of_mem _ hy)) with e|e
   ·subst e;exact absurd (hb.1 y hy) (Hh y)
   ·exact e
theorem Dl(x:Id):¬ah x x=true:=by rw[gH];omega
theorem yu(x y:Id):ah x y=true→¬ah y x=true:=by rw[gH,gH];omega
theorem Ord.S7{L M:List Id}(h:Ord L M):M.Pairwise (fun x y=>ah x y=true):=by
 rw[List.pairwise_iff_getElem];intro i j hi hj hij;have h1:=h.Rr i j (Nat.zero_le _) hij hj;rw[dB hi,dB hj,eJ] at h1;rw[gH];have h2:M[i].1≠M[j].1:=by
  intro e;have:=h.dst i j hi hj (by rw[dB hi,dB hj];exact e);omega
 omega
theorem dr.fz{lo:Nat}{h:Heap}{v:AV}{l:List Int}(hr:dr lo h v l):∃k,lX (fun _=>True) h v (.fz k (ints l)):=by
 rcases hr with⟨rfl,rfl⟩|⟨b,h1,h2,rfl,h4⟩
 ·exact⟨3,.aN⟩
 ·exact⟨0,lE trivial h4 (tf l).symm (tL l) (ck l).symm (kG l)⟩
end Ir
end Go.Proofs.Ytenafeojcgmnhaa
