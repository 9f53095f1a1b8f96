/-
  Rank: ranks that are none; both ends of all. The contract of RankKnown.
-/
import Derived.Test.YtenafeojcgmnhaaVRkI
set_option maxRecDepth 100000
set_option linter.unusedSimpArgs false
set_option linter.unusedVariables false
namespace Go.Proofs.Ytenafeojcgmnhaa
open Go Ads
namespace Ir
def Ft(h:Heap)(v:AV):Prop:=v=.de∨∃b,v=.ptr b 0∧h.get b=some (.cells [.de] true 0)
section
variable {h:Heap} {v:AV} {Q:AV→Heap→Prop}
theorem su(hv:Ft h v)(hQ:Q (.bool true) h):VD fs ms 44 [v] h Q:=by
 rcases hv with rfl|⟨b,rfl,hg⟩
 ·refine aE (af:=NV) true rfl (Nat.le_of_ble_eq_true rfl) ?_;conv=>whnf
  exact hQ
 ·refine aE (af:=NV) true rfl (Nat.le_of_ble_eq_true rfl) ?_;conv=>whnf
  refine⟨_,bQ hg rfl,?_⟩;conv=>whnf
  exact hQ
theorem tH(hv:Ft h v)(t:Int)(hQ:Q (.int .i64 1) h):VD fs ms 40 [v,.int .i64 t] h Q:=by
 refine aE (af:=OM) true rfl (Nat.le_of_ble_eq_true rfl) ?_;conv=>whnf
 refine su hv ?_;conv=>whnf
 exact hQ
theorem HO(hv:Ft h v)(t:Int)(hQ:Q (.cg [.int .i64 0,.bool false]) h):VD fs ms 41 [v,.int .i64 t] h Q:=by
 refine aE (af:=ON) true rfl (Nat.le_of_ble_eq_true rfl) ?_;conv=>whnf
 refine tH hv t ?_;conv=>whnf
 exact hQ
theorem xY(hv:Ft h v)(hQ:Q (.cg [.int .i64 0,.int .i64 0,.bool false]) h):VD fs ms 25 [v] h Q:=by
 refine aE (af:=OE) true rfl (Nat.le_of_ble_eq_true rfl) ?_;conv=>whnf
 refine su hv ?_;conv=>whnf
 exact hQ
theorem Kh(hv:Ft h v)(hQ:Q (.cg [.int .i64 0,.int .i64 0,.bool false]) h):VD fs ms 18 [v] h Q:=by
 refine aE (af:=OD) true rfl (Nat.le_of_ble_eq_true rfl) ?_;conv=>whnf
 refine xY hv ?_;conv=>whnf
 exact hQ
theorem Kf(hv:Ft h v)(t:Int)(hQ:Q (.cg [.int .i64 0,.bool false]) h):VD fs ms 26 [v,.int .i64 t] h Q:=by
 refine aE (af:=OF) true rfl (Nat.le_of_ble_eq_true rfl) ?_;conv=>whnf
 refine HO hv t ?_;conv=>whnf
 exact hQ
theorem Ki(hv:Ft h v)(t d:Int)(hQ:Q (.int .i64 1) h):VD fs ms 14 [v,.int .i64 t,.int .i64 d] h Q:=by
 refine aE (af:=Oz) true rfl (Nat.le_of_ble_eq_true rfl) ?_;conv=>whnf
 refine tH hv t ?_;conv=>whnf
 exact hQ
theorem E4(hv:Ft h v)(t d:Int)(hQ:Q (.int .i64 1) h):VD fs ms 15 [v,.int .i64 t,.int .i64 d] h Q:=by
 refine aE (af:=OA) true rfl (Nat.le_of_ble_eq_true rfl) ?_;conv=>whnf
 refine tH hv t ?_;conv=>whnf
 exact hQ
theorem CD(hv:Ft h v)(t:Int)(hQ:Q (.bool false) h):VD fs ms 16 [v,.int .i64 t] h Q:=by
 refine aE (af:=OB) true rfl (Nat.le_of_ble_eq_true rfl) ?_;conv=>whnf
 refine HO hv t ?_;conv=>whnf
 exact hQ
theorem Kg(hv:Ft h v)(hQ:Q (.int .i64 0) h):VD fs ms 17 [v] h Q:=by
 refine aE (af:=OC) true rfl (Nat.le_of_ble_eq_true rfl) ?_;conv=>whnf
 refine su hv ?_;conv=>whnf
 exact hQ
theorem Ke(hv:Ft h v)(hQ:Q .aN h):VD fs ms 19 [v] h Q:=by
 refine aE (af:=NU) true rfl (Nat.le_of_ble_eq_true rfl) ?_;conv=>whnf
 refine su hv ?_;conv=>whnf
 exact hQ
end
theorem QN{B:Nat}{Q:AX→Env→Heap→Prop}(hQ:∀e' h',Q (.exit 0) e' h'):
  ∀(n i:Nat) (h:Heap) (v:AV) (env:Env),2-i=n→i≤2→Ft h v→aW env [(1,v),(2,.int .i64 ((i:Nat):Int))]→
  VC fs ms B false (.loop fF) env h Q:=by
 intro n;induction n using Nat.strongRecOn with
 |ind n ih=>
 intro i h v env hn hi hv bM;refine an 4 _ bM ?_;refine bB (z:=true) ?_;conv=>whnf
 refine br (fun hc=>?_) (fun hc=>?_)<;>(try rw[hc])<;>(conv=>whnf)
 ·have hlt:i<2:=by have:=of_decide_eq_true hc;omega
  refine xY hv ?_;conv=>whnf
  refine Kh hv ?_;conv=>whnf
  refine Kf hv 0 ?_;conv=>whnf
  refine Ki hv (-1) 0 ?_;conv=>whnf
  refine E4 hv 64 0 ?_;conv=>whnf
  refine CD hv 0 ?_;conv=>whnf
  refine Kg hv ?_;conv=>whnf
  refine Ke hv ?_;conv=>whnf
  exact ih (2-(i+1)) (by omega) (i+1) _ (.ptr h.next 0) _ rfl (by omega) (.inr ⟨h.next,rfl,aB⟩) ⟨rfl,aS (by omega),trivial⟩
 ·exact hQ _ _
theorem sM(l:List zX):aU 3 (p9 l)=true:=jX (enc:=rdv) (fun _=>rfl) l
theorem td:∀l:List zX,bE (aj (p9 l))=true
 |[]=>rfl
 |x::l=>by
  show bE (.int .i64 x.1::.int .i64 x.2.1::.int .i64 x.2.2::aj (p9 l))=true;simp only[bE,td l];rfl
theorem rQ(l m:List zX):aj (p9 (l++m))=aj (p9 l)++aj (p9 m):=by simp[p9,aj]
def CR(h:Heap)(v:AV)(n:Nat):Prop:=∃l:List zX,l.length=n∧((n=0∧v=.aN)∨∃b,b<h.next∧v=.sl b 0 n n true∧h.get b=some (.cells (aj (p9 l)) true 3))
theorem CR.app{h:Heap}{v:AV}{n k:Nat}(hr:CR h v n)(hn:n+k≤1000)(m:List zX)(hm:m.length=k+1){cs:List AV}(hcs:cs=aj (p9 m)):∃v' g',eV (.append 3 24) [v,.sl h.next 0 (k+1) (k+1) false] (h.new (.cells cs true 0))=some (v',g')∧CR g' v' (n+(k+1)):=by
 subst hcs;obtain⟨l,hl,hr⟩:=hr;have hlen:(aj (p9 m)).length=(k+1)*3:=by rw[kQ (sM m),qc,hm]
 have hsrc:eC 3 (h.new (.cells (aj (p9 m)) true 0)) (.sl h.next 0 (k+1) (k+1) false)=some (k+1,aj (p9 m)):=nU aB hlen;rcases hr with⟨h1,h2⟩|⟨b,h1,h2,h3⟩
 ·subst h1 h2;refine⟨_,_,sW (nx:=h.next+1) (by omega) (by omega) hsrc (td m),m,by omega,.inr ⟨h.next+1,Nat.lt_succ_self _,by rw[Nat.zero_add],?_⟩⟩;exact aB (h:=h.new (.cells (aj (p9 m)) true 0))
 ·subst h2;have hg:(h.new (.cells (aj (p9 m)) true 0)).get b=some (.cells (aj (p9 l)) true 3):=by rw[aH h1];exact h3
  have hvl:(aj (p9 l)).length=n*3:=by rw[kQ (sM l),qc,hl]
  refine⟨_,_,mM hg hvl hsrc (td m) (by omega) (by omega),l++m,by rw[List.length_append,hl,hm],.inr ⟨h.next+1,Nat.lt_succ_self _,rfl,?_⟩⟩;have:=aB (h:=(h.new (.cells (aj (p9 m)) true 0)).del b) (x:=.cells (aj (p9 l)++aj (p9 m)) true 3);rw[show((h.new (.cells (aj (p9 m)) true 0)).del b).next=h.next+1 from rfl] at this;rw[this,rQ]
theorem CR.view{h:Heap}{v:AV}{n k:Nat}(hr:CR h v n)(hk:k≤n)(h0:0<n):(∃l z,l.length=n∧lX (fun _=>True) h v (.fz z (p9 l)))∧∃w l z,pV (.slice 3 false true false) [v,.int .i64 ((k:Nat):Int)]=some w∧l.length=k∧lX (fun _=>True) h w (.fz z (p9 l)):=by
 obtain⟨l,hl,hr⟩:=hr;rcases hr with⟨h1,h2⟩|⟨b,h1,h2,h3⟩
 ·omega
 ·subst h2;refine⟨⟨l,0,hl,lE trivial h3 rfl (sM l) (by rw[qc,hl]) (yD l)⟩,_,l.take k,0,CQ hk,by rw[List.length_take];omega,?_⟩;refine Jw (rest:=aj (p9 (l.drop k))) trivial h3 ?_ (sM _) (by rw[qc,List.length_take];omega) hk (yD _);rw[←rQ,List.take_append_drop]
theorem QO{B:Nat}{Q:AX→Env→Heap→Prop}(hQ:∀e' h' v,CR h' v 140→Tr.get e' 11=some v→Q (.exit 2) e' h'):
  ∀(n i:Nat) (h:Heap) (v:AV) (env:Env),70-i=n→i≤70→CR h v (2*i)→aW env [(11,v),(12,.int .i64 ((i:Nat):Int))]→
  VC fs ms B false (.loop fG) env h Q:=by
 intro n;induction n using Nat.strongRecOn with
 |ind n ih=>
 intro i h v env hn hi hv bM;refine an 4 _ bM ?_;refine cK (aa true ?_);generalize hJ:((i:Nat):Int)=J;conv=>whnf
 refine br (fun hc=>?_) (fun hc=>?_)<;>(try rw[hc])<;>(conv=>whnf)
 ·have hlt:i<70:=by have:=of_decide_eq_true hc;omega
  refine aJ (aG (aq (z:=true) ?_));conv=>whnf
  refine⟨_,nN _ _ (by decide),?_⟩;conv=>whnf
  refine⟨_,nN _ _ (by decide),?_⟩;conv=>whnf
  obtain⟨v',g',a1,a2⟩:=hv.app (k:=1) (by omega) [(0,IntKind.i64.wrap ((IntKind.i64.wrap (J*37)).tmod 66-1),J.tmod 5),(1,J,IntKind.i64.wrap (0-J))] rfl rfl;refine bA a1 fun h1 e1=>?_;subst e1;conv=>whnf
  refine aq (z:=true) ?_;conv=>whnf
  subst hJ;exact ih (70-(i+1)) (by omega) (i+1) h1 v' _ rfl (by omega) (by rw[show 2*(i+1)=2*i+(1+1) by omega];exact a2) (by repeat' (first|exact trivial|refine And.intro (by first|with_reducible_and_instances rfl|(refine Eq.trans (b:=some (AV.int .i64 _)) rfl (congrArg (fun z=>some (AV.int .i64 z)) ?_);first|omega|(simp(disch:=omega) only[IntWalk.i64_in]<;>omega))|rfl) ?_))
 ·have hge:i=70:=by have:=of_decide_eq_false hc;omega
  subst hge;exact hQ _ h v hv rfl
theorem QS{B:Nat}{Q:AX→Env→Heap→Prop}(hQ:∀e' h' v,CR h' v 219→Tr.get e' 11=some v→Q (.exit 4) e' h'):
  ∀(n i:Nat) (h:Heap) (v:AV) (env:Env),70-i=n→i≤70→CR h v (149+i)→aW env [(11,v),(13,.int .i64 ((i:Nat):Int))]→
  VC fs ms B false (.loop fH) env h Q:=by
 intro n;induction n using Nat.strongRecOn with
 |ind n ih=>
 intro i h v env hn hi hv bM;refine an 4 _ bM ?_;refine cK (aa true ?_);generalize hJ:((i:Nat):Int)=J;conv=>whnf
 refine br (fun hc=>?_) (fun hc=>?_)<;>(try rw[hc])<;>(conv=>whnf)
 ·have hlt:i<70:=by have:=of_decide_eq_true hc;omega
  refine aJ (aG (aq (z:=true) ?_));conv=>whnf
  obtain⟨v',g',a1,a2⟩:=hv.app (k:=0) (by omega) [(3,0,0)] rfl rfl;refine bA a1 fun h1 e1=>?_;subst e1;conv=>whnf
  refine aq (z:=true) ?_;conv=>whnf
  subst hJ;exact ih (70-(i+1)) (by omega) (i+1) h1 v' _ rfl (by omega) a2 (by repeat' (first|exact trivial|refine And.intro (by first|with_reducible_and_instances rfl|(refine Eq.trans (b:=some (AV.int .i64 _)) rfl (congrArg (fun z=>some (AV.int .i64 z)) ?_);first|omega|(simp(disch:=omega) only[IntWalk.i64_in]<;>omega))|rfl) ?_))
 ·have hge:i=70:=by have:=of_decide_eq_false hc;omega
  subst hge;exact hQ _ h v hv rfl
theorem Bs:PC fs ms 6 [] (.bool true):=by
 refine j9 rfl rfl ?_;generalize hK:(fun(u:AV) (_:Heap)=>u=.bool true)=K;have BO:∀h,K (.bool true) h:=fun h=>by subst hK;rfl
 clear hK;generalize(⟨0,.nil⟩:Heap)=h0;refine bC (af:=C6) rfl (Nat.le_of_ble_eq_true rfl) ?_;conv=>whnf
 refine aa true ?_;conv=>whnf
 refine aa true ?_;conv=>whnf
 refine aJ (aa true ?_);conv=>whnf
 refine aG ?_;refine QN ?_ _ 0 h0 .de _ rfl (by omega) (.inl rfl) (by repeat' (first|exact trivial|refine And.intro (by first|with_reducible_and_instances rfl|(refine Eq.trans (b:=some (AV.int .i64 _)) rfl (congrArg (fun z=>some (AV.int .i64 z)) ?_);first|omega|(simp(disch:=omega) only[IntWalk.i64_in]<;>omega))|rfl) ?_));intro e1 h1;show VC fs ms _ _ _ _ _ _;refine an 4 [] trivial (aa true ?_);conv=>whnf
 refine aJ (aa true ?_);conv=>whnf
 refine aG ?_;refine QO ?_ _ 0 h1 .aN _ rfl (by omega) ⟨[],rfl,.inl ⟨rfl,rfl⟩⟩ (by repeat' (first|exact trivial|refine And.intro (by first|with_reducible_and_instances rfl|(refine Eq.trans (b:=some (AV.int .i64 _)) rfl (congrArg (fun z=>some (AV.int .i64 z)) ?_);first|omega|(simp(disch:=omega) only[IntWalk.i64_in]<;>omega))|rfl) ?_));intro e2 h2 v2 c2 g2;show VC fs ms _ _ _ _ _ _;refine an 4 [(11,v2)] ⟨g2,trivial⟩ (aa true ?_);conv=>whnf
 obtain⟨v3,g',a1,a2⟩:=c2.app (k:=8) (by omega) [(0,64,0),(0,-1,0),(1,64,0),(1,-1,0),(2,70,0),(2,5,0),(1,5,0),(0,5,-9223372036854775808),(1,6,9223372036854775807)] rfl rfl;refine bA a1 fun h3 e3=>?_;subst e3;conv=>whnf
 refine aJ (aa true ?_);conv=>whnf
 refine aG ?_;refine QS ?_ _ 0 h3 v3 _ rfl (by omega) a2 (by repeat' (first|exact trivial|refine And.intro (by first|with_reducible_and_instances rfl|(refine Eq.trans (b:=some (AV.int .i64 _)) rfl (congrArg (fun z=>some (AV.int .i64 z)) ?_);first|omega|(simp(disch:=omega) only[IntWalk.i64_in]<;>omega))|rfl) ?_));intro e4 h4 v4 c4 g4;show VC fs ms _ _ _ _ _ _;obtain⟨⟨l1,z1,l1n,f1⟩,w,l2,z2,w1,l2n,f2⟩:=c4.view (k:=140) (by omega) (by omega);refine an 4 [(11,v4)] ⟨g4,trivial⟩ (aq (z:=true) ?_);conv=>whnf
 refine aZ qi ?_;conv=>whnf
 refine jv (oR (z:=z1) (l:=l1) (by omega)) rfl (.cons f1 .nil) ?_;conv=>whnf
 refine jv (args':=[.fz 3 (p9 [])]) (oR (z:=3) (l:=[]) (by simp)) rfl (.cons .aN .nil) ?_;conv=>whnf
 refine⟨_,w1,?_⟩;conv=>whnf
 refine jv (ue (k:=z2) (l:=l2) (by omega)) rfl (.cons f2 .nil) ?_;conv=>whnf
 exact BO _
end Ir
end Go.Proofs.Ytenafeojcgmnhaa
