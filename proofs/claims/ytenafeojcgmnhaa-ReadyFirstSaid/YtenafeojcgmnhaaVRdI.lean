/-
  Rows of ids, sorted in place: insertion.
-/
import Derived.Test.YtenafeojcgmnhaaVRdH
set_option maxRecDepth 100000
set_option linter.unusedSimpArgs false
set_option linter.unusedVariables false
namespace Go.Proofs.Ytenafeojcgmnhaa
open Go Ads
namespace Ir
structure cO(h:Heap)(b es:Nat)(L:List Id)(rest:List AV):Prop where
 hb:h.get b=some (.cells (oc L++rest) true es)
 lb:b<h.next
theorem cO.one{h:Heap}{b es:Nat}{L:List Id}{rest:List AV}(hh:cO h b es L rest){i:Nat}(hi:i<L.length):rV (.aO 2) [.ptr b (i*2)] h=some (ob (gI L i)):=by
 have hlen:=iX L;rw[IS hh.hb (by rw[List.length_append];omega),zl hi,dB hi];rfl
theorem cO.put{h:Heap}{b es:Nat}{L:List Id}{rest:List AV}(hh:cO h b es L rest){i:Nat}(hi:i<L.length)(x:Id):eV (.store 2) [.ptr b (i*2),ob x] h=some (.undef,h.set b (.cells (oc (L.set i x)++rest) true es)):=by
 have hlen:=iX L;rw[←CG L i hi x rest];exact fQ (n:=2) (v:=ob x) hh.hb rfl (by rw[List.length_append];omega) rfl
theorem cO.next{h:Heap}{b es:Nat}{L L':List Id}{rest:List AV}(hh:cO h b es L rest):cO (h.set b (.cells (oc L'++rest) true es)) b es L' rest:=⟨aV,hh.lb⟩
def FB(L:List Id):Prop:=∀i j,i<L.length→j<L.length→(gI L i).1=(gI L j).1→i=j
structure RS(a e:Nat)(L M:List Id):Prop where
 len:L.length=M.length
 out:∀k,k<a∨e≤k→gI M k=gI L k
 mem:∀y,(∃k,a≤k∧k<e∧gI L k=y)↔∃k,a≤k∧k<e∧gI M k=y
 dst:FB L→FB M
theorem RS.refl(a e:Nat)(L:List Id):RS a e L L:=⟨rfl,fun _ _=>rfl,fun _=>Iff.rfl,id⟩
theorem RS.trans{a e:Nat}{L M K:List Id}(h:RS a e L M)(g:RS a e M K):RS a e L K:=⟨h.len.trans g.len,fun k hk=>(g.out k hk).trans (h.out k hk),fun y=>(h.mem y).trans (g.mem y),fun d=>g.dst (h.dst d)⟩
theorem RS.wide{a e a' e':Nat}{L M:List Id}(h:RS a e L M)(ha:a'≤a)(he:e≤e'):RS a' e' L M:=by
 refine⟨h.len,fun k hk=>h.out k (by omega),fun y=>⟨?_,?_⟩,h.dst⟩
 ·rintro⟨k,k1,k2,hy⟩;by_cases hk:a≤k∧k<e
  ·obtain⟨j,j1,j2,j3⟩:=(h.mem y).1 ⟨k,hk.1,hk.2,hy⟩;exact⟨j,by omega,by omega,j3⟩
  ·exact⟨k,k1,k2,by rw[h.out k (by omega)];exact hy⟩
 ·rintro⟨k,k1,k2,hy⟩;by_cases hk:a≤k∧k<e
  ·obtain⟨j,j1,j2,j3⟩:=(h.mem y).2 ⟨k,hk.1,hk.2,hy⟩;exact⟨j,by omega,by omega,j3⟩
  ·exact⟨k,k1,k2,by rw[←h.out k (by omega)];exact hy⟩
theorem RS.swap{a e:Nat}{L:List Id}{i j:Nat}(hi:a≤i)(hi':i<e)(hj:a≤j)(hj':j<e)(he:e≤L.length):RS a e L (ju L i j):=by
 have hg:=jo (V:=L) (show i<L.length by omega) (show j<L.length by omega);refine⟨(dz L i j).symm,fun k hk=>?_,fun y=>⟨?_,?_⟩,fun d=>?_⟩
 ·rw[hg,if_neg (by omega),if_neg (by omega)]
 ·rintro⟨k,k1,k2,hy⟩;by_cases h1:k=i
  ·subst h1;exact⟨j,hj,hj',by rw[hg,if_pos rfl,hy]⟩
  ·by_cases h2:k=j
   ·subst h2;exact⟨i,hi,hi',by rw[hg,if_neg (fun e=>h1 e.symm),if_pos rfl,hy]⟩
   ·exact⟨k,k1,k2,by rw[hg,if_neg h2,if_neg h1,hy]⟩
 ·rintro⟨k,k1,k2,hy⟩;rw[hg] at hy;split at hy
  ·exact⟨i,hi,hi',hy⟩
  ·split at hy
   ·exact⟨j,hj,hj',hy⟩
   ·exact⟨k,k1,k2,hy⟩
 ·have hs:∀k,gI (ju L i j) k=gI L (if k=j then i else if k=i then j else k):=by
   intro k;rw[hg];split
   ·rfl
   ·split<;>rfl
  have hl:=dz L i j;intro u v hu hv he;rw[hs,hs] at he;have hk:∀k,k<(ju L i j).length→(if k=j then i else if k=i then j else k)<L.length:=by
   intro k hk;split
   ·omega
   ·split<;>omega
  have key:=d _ _ (hk u hu) (hk v hv) he;revert key;repeat' split
  all_goals (intro key;omega)
def oa(L:List Id)(a e:Nat):Prop:=∀i j,a≤i→i<j→j<e→ah (gI L j) (gI L i)=false
def Ac(L:List Id)(a e j:Nat):Prop:=∀u v,a≤u→u<v→v<e→v≠j→ah (gI L v) (gI L u)=false
theorem Ac.step{L:List Id}{a e j:Nat}(h:Ac L a e j)(ha:a<j)(hj:j<e)(he:e≤L.length)(hs:ah (gI L j) (gI L (j-1))=true):Ac (ju L j (j-1)) a e (j-1):=by
 have hg:=jo (V:=L) (show j<L.length by omega) (show j-1<L.length by omega);intro u v h1 h2 h3 h4;rw[hg v,if_neg h4,hg u];by_cases hv:v=j
 ·rw[if_pos hv];by_cases hu:u=j-1
  ·rw[if_pos hu];exact nX hs
  ·rw[if_neg hu,if_neg (by omega)];exact h u (j-1) h1 (by omega) (by omega) (by omega)
 ·rw[if_neg hv];by_cases hu:u=j-1
  ·rw[if_pos hu];exact h j v (by omega) (by omega) h3 hv
  ·rw[if_neg hu];by_cases SS:u=j
   ·rw[if_pos SS];exact h (j-1) v (by omega) (by omega) h3 hv
   ·rw[if_neg SS];exact h u v h1 h2 h3 hv
theorem Ac.done{L:List Id}{a e j:Nat}(h:Ac L a e j)(hs:j≤a∨ah (gI L j) (gI L (j-1))=false):oa L a e:=by
 intro u v h1 h2 h3;by_cases hv:v=j
 ·subst hv;rcases hs with hs|hs
  ·omega
  ·by_cases hu:u=v-1
   ·subst hu;exact hs
   ·exact mL hs (h u (v-1) h1 (by omega) (by omega) (by omega))
 ·exact h u v h1 h2 h3 hv
abbrev fE:AV:=.func (.func 48) [] []
theorem Dw{j:Nat}(h:j<2^62)(h0:0<j):IntKind.i64.wrap (((j:Nat):Int)-1)=((j-1:Nat):Int):=by
 rw[show((j:Nat):Int)-1=((j-1:Nat):Int) by omega,iw (by omega)]
def JR(b N cap a e i j:Nat)(op:Bool):List (Nat×AV):=[(0,.sl b 0 N cap op),(1,.int .i64 ((a:Nat):Int)),(2,.int .i64 ((e:Nat):Int)),(3,fE),(8,.int .i64 ((i:Nat):Int)),(9,.int .i64 ((j:Nat):Int))]
theorem M0{b es N cap a e i:Nat}{op:Bool}{rest:List AV}{B:Nat}{Q:AX→Env→Heap→Prop}(hN:N<2^60)(he:e≤N)(hi:i<e):
  ∀(j:Nat) (h:Heap) (L:List Id),cO h b es L rest→L.length=N→a≤j→j≤i→Ac L a (i+1) j→
  (∀(h':Heap) (L':List Id) (e':Env),Tr.get e' 0=some (.sl b 0 N cap op)→Tr.get e' 1=some (.int .i64 ((a:Nat):Int))→Tr.get e' 2=some (.int .i64 ((e:Nat):Int))→Tr.get e' 3=some fE→Tr.get e' 8=some (.int .i64 ((i:Nat):Int))→
   cO h' b es L' rest→RS a (i+1) L L'→oa L' a (i+1)→Fr h h' [b]→Q (.exit 2) e' h')→
  VC fs ms B false (.loop c9) (ek 4 (JR b N cap a e i j op)) h Q:=by
 intro j;induction j using Nat.strongRecOn with
 |ind j ih=>
 intro h L hh hL ha hj hs hQ;refine bB (z:=true) ?_;unfold JR;conv=>whnf
 refine br (fun hc=>?_) (fun hc=>?_)<;>(try rw[hc])<;>(conv=>whnf)
 ·have h0:a<j:=by have:=of_decide_eq_true hc;omega
  refine⟨_,bh (by omega),?_⟩;conv=>whnf
  refine⟨_,hh.one (by omega),?_⟩;conv=>whnf
  rw[Dw (by omega) (by omega)];refine⟨_,bh (by omega),?_⟩;conv=>whnf
  refine⟨_,hh.one (by omega),?_⟩;conv=>whnf
  refine aZ (kj _ _) ?_;conv=>whnf
  refine br (fun hc=>?_) (fun hc=>?_)<;>(try rw[hc])<;>(conv=>whnf)
  ·have hlt:ah (gI L j) (gI L (j-1))=true:=(iS _ _).1 (of_decide_eq_true hc);rw[Dw (by omega) (by omega)];refine⟨_,bh (by omega),?_⟩;conv=>whnf
   refine⟨_,hh.one (by omega),?_⟩;conv=>whnf
   refine⟨_,bh (by omega),?_⟩;conv=>whnf
   refine⟨_,hh.one (by omega),?_⟩;conv=>whnf
   refine⟨_,bh (by omega),?_⟩;conv=>whnf
   refine bA (hh.put (by omega) _) fun h1 e1=>?_;conv=>whnf
   have uu:cO h1 b es (L.set j (gI L (j-1))) rest:=by rw[e1];exact hh.next
   refine⟨_,bh (by omega),?_⟩;conv=>whnf
   refine bA (uu.put (by rw[List.length_set];omega) _) fun h2 e2=>?_;conv=>whnf
   have lV:cO h2 b es (ju L j (j-1)) rest:=by rw[e2];exact uu.next
   have fr:Fr h h2 [b]:=by rw[e2,e1];exact((Fr.refl h [b]).set (by simp)).set (by simp)
   rw[Dw (by omega) (by omega)];refine an 4 (JR b N cap a e i (j-1) op) ⟨rfl,rfl,rfl,rfl,rfl,rfl,trivial⟩ ?_;refine ih (j-1) (by omega) h2 _ lV (by rw[dz];exact hL) (by omega) (by omega) (hs.step (by omega) (by omega) (by omega) hlt) ?_;intro h' L' e' g0 g1 g2 g3 g8 k1 k2 k3 k4;exact hQ h' L' e' g0 g1 g2 g3 g8 k1 ((RS.swap (by omega) (by omega) (by omega) (by omega) (by omega)).trans k2) k3 (fr.trans k4)
  ·have hlt:ah (gI L j) (gI L (j-1))=false:=by
    rw[←Bool.not_eq_true,←iS];exact of_decide_eq_false hc
   exact hQ h L _ rfl rfl rfl rfl rfl hh (RS.refl _ _ _) (hs.done (.inr hlt)) (Fr.refl _ _)
 ·have h0:j≤a:=by have:=of_decide_eq_false hc;omega
  exact hQ h L _ rfl rfl rfl rfl rfl hh (RS.refl _ _ _) (hs.done (.inl h0)) (Fr.refl _ _)
theorem JS{b es N cap a e:Nat}{op:Bool}{rest:List AV}{B:Nat}{Q:AX→Env→Heap→Prop}(hN:N<2^60)(he:e≤N):
  ∀(k i:Nat) (h:Heap) (L:List Id) (env:Env),e-i=k→cO h b es L rest→L.length=N→a<i→oa L a i→(oa L a (i+1)→True)→
  Tr.get env 0=some (.sl b 0 N cap op)→Tr.get env 1=some (.int .i64 ((a:Nat):Int))→Tr.get env 2=some (.int .i64 ((e:Nat):Int))→Tr.get env 3=some fE→Tr.get env 8=some (.int .i64 ((i:Nat):Int))→
  (∀(h':Heap) (L':List Id) (e':Env),cO h' b es L' rest→RS a e L L'→oa L' a e→Fr h h' [b]→Q (.exit 0) e' h')→
  VC fs ms B false (.loop cZ) env h Q:=by
 intro k;induction k using Nat.strongRecOn with
 |ind k ih=>
 intro i h L env hk hh hL AK hs _ g0 g1 g2 g3 g8 hQ;refine an 4 [(0,.sl b 0 N cap op),(1,.int .i64 ((a:Nat):Int)),(2,.int .i64 ((e:Nat):Int)),(3,fE),(8,.int .i64 ((i:Nat):Int))] ⟨g0,g1,g2,g3,g8,trivial⟩ ?_;refine cK (aa true ?_);conv=>whnf
 refine br (fun hc=>?_) (fun hc=>?_)<;>(try rw[hc])<;>(conv=>whnf)
 ·have hlt:i<e:=by have:=of_decide_eq_true hc;omega
  refine aJ (aG (aa true ?_));conv=>whnf
  refine aG ?_;refine an 4 (JR b N cap a e i i op) ⟨rfl,rfl,rfl,rfl,rfl,rfl,trivial⟩ ?_;refine M0 hN he hlt i h L hh hL (by omega) (Nat.le_refl _) (fun u v h1 h2 h3 h4=>hs u v h1 h2 (by omega)) ?_;intro h' L' e' j0 j1 j2 j3 j8 k1 k2 k3 k4;show VC fs ms _ _ _ _ _ _;refine an 4 [(0,.sl b 0 N cap op),(1,.int .i64 ((a:Nat):Int)),(2,.int .i64 ((e:Nat):Int)),(3,fE),(8,.int .i64 ((i:Nat):Int))] ⟨j0,j1,j2,j3,j8,trivial⟩ (aq (z:=true) ?_);conv=>whnf
  have hl:=k2.len;refine ih (e-(i+1)) (by omega) (i+1) h' L' _ rfl k1 (by omega) (by omega) k3 (fun _=>trivial) rfl rfl rfl rfl (aS (by omega)) ?_;intro h2 L2 e2 m1 m2 m3 m4;exact hQ h2 L2 e2 m1 ((k2.wide (Nat.le_refl _) (by omega)).trans m2) m3 (k4.trans m4)
 ·have hge:e≤i:=by have:=of_decide_eq_false hc;omega
  exact hQ h L _ hh (RS.refl _ _ _) (fun u v h1 h2 h3=>hs u v h1 h2 (by omega)) (Fr.refl _ _)
theorem Lj{h:Heap}{b es cap a e:Nat}{op:Bool}{L:List Id}{rest:List AV}(hh:cO h b es L rest)(hN:L.length<2^60)(ha:a≤e)(he:e≤L.length){Q:AV→Heap→Prop}
  (hQ:∀h' L',cO h' b es L' rest→RS a e L L'→oa L' a e→Fr h h' [b]→Q (.cg []) h'):
  VD fs ms 71 [.sl b 0 L.length cap op,.int .i64 ((a:Nat):Int),.int .i64 ((e:Nat):Int),fE] h Q:=by
 refine bC (af:=OP) rfl (Nat.le_of_ble_eq_true rfl) ?_;conv=>whnf
 refine aa true ?_;conv=>whnf
 refine aG ?_;refine JS hN he _ (a+1) h L _ rfl hh rfl (by omega) (fun u v h1 h2 h3=>by omega) (fun _=>trivial) rfl rfl rfl rfl (aS (by omega)) ?_;intro h' L' e' k1 k2 k3 k4;show Q (.cg []) h';exact hQ h' L' k1 k2 k3 k4
end Ir
end Go.Proofs.Ytenafeojcgmnhaa
