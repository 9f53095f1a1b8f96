/-
  Ready: queues that are none; both ends of all.
-/
import Derived.Test.YtenafeojcgmnhaaVRdR
set_option maxRecDepth 100000
set_option linter.unusedSimpArgs false
set_option linter.unusedVariables false
namespace Go.Proofs.Ytenafeojcgmnhaa
open Go Ads
namespace Ir
def KO(h:Heap)(v:AV):Prop:=v=.de∨∃b,v=.ptr b 0∧h.get b=some (.cells [.de,.int .i64 0] true 0)
theorem sr{h:Heap}{v:AV}(hv:KO h v){Q:AV→Heap→Prop}(hQ:Q (.bool true) h):VD fs ms 58 [v] h Q:=by
 rcases hv with rfl|⟨b,rfl,hg⟩
 ·refine aE (af:=NX) true rfl (Nat.le_of_ble_eq_true rfl) ?_;conv=>whnf
  exact hQ
 ·refine aE (af:=NX) true rfl (Nat.le_of_ble_eq_true rfl) ?_;conv=>whnf
  refine⟨_,bQ hg rfl,?_⟩;conv=>whnf
  exact hQ
theorem HN{h:Heap}{v:AV}(hv:KO h v){Q:AV→Heap→Prop}(hQ:Q (.cg [.int .i64 0,.int .i64 0,.bool false]) h):VD fs ms 37 [v] h Q:=by
 refine aE (af:=OJ) true rfl (Nat.le_of_ble_eq_true rfl) ?_;conv=>whnf
 refine sr hv ?_;conv=>whnf
 exact hQ
theorem Kb{h:Heap}{v:AV}(hv:KO h v)(t:Int){Q:AV→Heap→Prop}(hQ:Q (.cg [.int .i64 0,.bool false]) h):VD fs ms 39 [v,.int .i64 t] h Q:=by
 refine aE (af:=OL) true rfl (Nat.le_of_ble_eq_true rfl) ?_;conv=>whnf
 refine sr hv ?_;conv=>whnf
 exact hQ
theorem Nq{h:Heap}{v:AV}(hv:KO h v)(t d:Int){Q:AV→Heap→Prop}(hQ:Q (.int .i64 1) h):VD fs ms 29 [v,.int .i64 t,.int .i64 d] h Q:=by
 refine aE (af:=OG) true rfl (Nat.le_of_ble_eq_true rfl) ?_;conv=>whnf
 refine sr hv ?_;conv=>whnf
 exact hQ
theorem E3{h:Heap}{v:AV}(hv:KO h v)(t:Int){Q:AV→Heap→Prop}(hQ:Q (.bool false) h):VD fs ms 31 [v,.int .i64 t] h Q:=by
 refine aE (af:=OH) true rfl (Nat.le_of_ble_eq_true rfl) ?_;conv=>whnf
 refine sr hv ?_;conv=>whnf
 exact hQ
theorem DY{h:Heap}{v:AV}(hv:KO h v){Q:AV→Heap→Prop}(hQ:Q .aN h):VD fs ms 38 [v] h Q:=by
 refine aE (af:=OK) true rfl (Nat.le_of_ble_eq_true rfl) ?_;conv=>whnf
 refine sr hv ?_;conv=>whnf
 exact hQ
theorem Kc{h:Heap}{v:AV}(hv:KO h v)(n:Int){Q:AV→Heap→Prop}(hQ:Q .aN h):VD fs ms 33 [v,.int .i64 n] h Q:=by
 refine bC (af:=OI) rfl (Nat.le_of_ble_eq_true rfl) ?_;conv=>whnf
 refine aa true ?_;conv=>whnf
 refine aJ (aa true ?_);conv=>whnf
 refine DY hv ?_;conv=>whnf
 refine aG (bB (z:=true) ?_);conv=>whnf
 refine aq (z:=true) ?_;conv=>whnf
 exact hQ
theorem Hr{B:Nat}{Q:AX→Env→Heap→Prop}(hQ:∀e' h',Q (.exit 0) e' h'):
  ∀(n i:Nat) (h:Heap) (v:AV) (env:Env),2-i=n→i≤2→KO h v→aW env [(1,v),(2,.int .i64 ((i:Nat):Int))]→
  VC fs ms B false (.loop e8) env h Q:=by
 intro n;induction n using Nat.strongRecOn with
 |ind n ih=>
 intro i h v env hn hi hv bM;refine an 3 [(1,v),(2,.int .i64 ((i:Nat):Int))] bM ?_;refine bB (z:=true) ?_;conv=>whnf
 refine br (fun hc=>?_) (fun hc=>?_)<;>(try rw[hc])<;>(conv=>whnf)
 ·have hlt:i<2:=by have:=of_decide_eq_true hc;omega
  refine HN hv ?_;conv=>whnf
  refine Kb hv 0 ?_;conv=>whnf
  refine Nq hv (-1) 0 ?_;conv=>whnf
  refine E3 hv 0 ?_;conv=>whnf
  refine Kc hv 5 ?_;conv=>whnf
  refine DY hv ?_;conv=>whnf
  exact ih (2-(i+1)) (by omega) (i+1) _ (.ptr h.next 0) _ rfl (by omega) (.inr ⟨h.next,rfl,aB⟩) ⟨rfl,aS (by omega),trivial⟩
 ·exact hQ _ _
def BW(lo:Nat)(h:Heap)(v:AV)(l:List xj):Prop:=
 (l=[]∧v=.aN)∨∃b,lo≤b∧b<h.next∧v=.sl b 0 l.length l.length true∧h.get b=some (.cells (aj (rK l)) true 3)
theorem vX(l:List xj):aU 3 (rK l)=true:=jX (enc:=Fu) (fun _=>rfl) l
theorem BW.Gs{lo:Nat}{h:Heap}{v:AV}{l:List xj}(hr:BW lo h v l):∃k,lX (fun _=>True) h v (.fz k (rK l)):=by
 rcases hr with⟨rfl,rfl⟩|⟨b,h1,h2,rfl,h4⟩
 ·exact⟨3,.aN⟩
 ·exact⟨0,lE trivial h4 rfl (vX l) (rL l).symm (B6 l)⟩
theorem tc:∀l:List xj,bE (aj (rK l))=true
 |[]=>rfl
 |x::l=>by
  show bE (.int .i64 x.1::.int .i64 x.2.1::.int .i64 x.2.2::aj (rK l))=true;simp only[bE,tc l];rfl
theorem yO(l m:List xj):aj (rK (l++m))=aj (rK l)++aj (rK m):=by simp[rK,aj]
theorem BW.Tn{lo:Nat}{h:Heap}{v:AV}{l:List xj}(hr:BW lo h v l)(hlo:lo≤h.next)(hl:l.length≤1000)(m:List xj)(hm:m.length=4){cs:List AV}(hcs:cs=aj (rK m)):∃v' g',eV (.append 3 24) [v,.sl h.next 0 4 4 false] (h.new (.cells cs true 0))=some (v',g')∧
  BW lo g' v' (l++m)∧h.next≤g'.next∧∀c,c<lo→g'.get c=h.get c:=by
 subst hcs;have hlen:(aj (rK m)).length=4*3:=by rw[kQ (vX m),rL,hm]
 have hsrc:eC 3 (h.new (.cells (aj (rK m)) true 0)) (.sl h.next 0 4 4 false)=some (3+1,aj (rK m)):=nU aB hlen;rcases hr with⟨h1,h2⟩|⟨b,h1,h2,h3,h4⟩
 ·subst h1 h2;refine⟨_,_,sW (n:=3) (nx:=h.next+1) (by omega) (by omega) hsrc (tc m),.inr ⟨h.next+1,by omega,Nat.lt_succ_self _,by rw[List.nil_append,hm],?_⟩,by show h.next≤h.next+1+1;omega,fun c hc=>?_⟩
  ·exact aB (h:=h.new (.cells (aj (rK m)) true 0))
  ·exact(aH (h:=h.new (.cells (aj (rK m)) true 0)) (show c<h.next+1 by omega)).trans (aH (by omega))
 ·subst h3;have hg:(h.new (.cells (aj (rK m)) true 0)).get b=some (.cells (aj (rK l)) true 3):=by rw[aH h2];exact h4
  refine⟨_,_,mM (n:=3) hg (by rw[kQ (vX l),rL]) hsrc (tc m) (by omega) (by omega),.inr ⟨h.next+1,by omega,Nat.lt_succ_self _,by rw[List.length_append,hm];rfl,?_⟩,by show h.next≤h.next+1+1;omega,fun c hc=>?_⟩
  ·rw[yO];exact aB (h:=(h.new (.cells (aj (rK m)) true 0)).del b)
  ·exact(aH (h:=(h.new (.cells (aj (rK m)) true 0)).del b) (show c<h.next+1 by omega)).trans ((fX (by omega)).trans (aH (by omega)))
theorem ints_at{V:List Int}{i:Nat}(h:i<V.length):(ints V)[i*1]?=some (.int .i64 (gD V i)):=by
 rw[Nat.mul_one,ints,List.getElem?_map,List.getElem?_eq_getElem h,DE h];rfl
def UX(e N i:Nat)(v:AV)(k:Nat):List (Nat×AV):=[(8,.sl e 0 N N false),(9,.int .i64 ((i:Nat):Int)),(10,v),(11,.int .i64 ((k:Nat):Int))]
theorem Ht{e i lo:Nat}{E:List Int}(hE:E.length≤100)(he:e<lo){B:Nat}{Q:AX→Env→Heap→Prop}
  (hQ:∀e' h' v' l',Tr.get e' 8=some (.sl e 0 E.length E.length false)→Tr.get e' 9=some (.int .i64 ((i:Nat):Int))→Tr.get e' 10=some v'→h'.get e=some (.cells (ints E) true 0)→lo≤h'.next→BW lo h' v' l'→l'.length≤1000→Q (.exit 4) e' h'):
  ∀(n k:Nat) (h:Heap) (v:AV) (l:List xj) (env:Env),E.length-k=n→k≤E.length→h.get e=some (.cells (ints E) true 0)→lo≤h.next→BW lo h v l→l.length=4*k→aW env (UX e E.length i v k)→
  VC fs ms B false (.loop fc) env h Q:=by
 intro n;induction n using Nat.strongRecOn with
 |ind n ih=>
 intro k h v l env hn hk ge hlo hv hl bM;refine an 4 (UX e E.length i v k) bM ?_;refine bB (z:=true) ?_;unfold UX;conv=>whnf
 refine br (fun hc=>?_) (fun hc=>?_)<;>(try rw[hc])<;>(conv=>whnf)
 ·have hlt:k<E.length:=by have:=of_decide_eq_true hc;omega
  refine⟨_,bh hlt,?_⟩;conv=>whnf
  refine⟨_,bQ ge (ints_at hlt),?_⟩;conv=>whnf
  refine⟨_,nN _ _ (by omega),?_⟩;conv=>whnf
  refine⟨_,bh hlt,?_⟩;conv=>whnf
  refine⟨_,bQ ge (ints_at hlt),?_⟩;conv=>whnf
  refine⟨_,bh hlt,?_⟩;conv=>whnf
  refine⟨_,bQ ge (ints_at hlt),?_⟩;conv=>whnf
  refine⟨_,bh hlt,?_⟩;conv=>whnf
  refine⟨_,bQ ge (ints_at hlt),?_⟩;conv=>whnf
  obtain⟨v',g',a1,a2,a3,a4⟩:=hv.Tn hlo (by omega) [(0,gD E k,5),(0,((k:Nat):Int).tmod 4,gD E k),(2,0,gD E k),(1,gD E k,0)] rfl rfl;refine bA a1 fun h1 e1=>?_;subst e1;conv=>whnf
  exact ih (E.length-(k+1)) (by omega) (k+1) h1 v' _ _ rfl (by omega) (by rw[a4 e he];exact ge) (by omega) a2 (by rw[List.length_append,hl];show 4*k+4=_;omega) ⟨rfl,rfl,rfl,aS (by omega),trivial⟩
 ·exact hQ _ h v l rfl rfl rfl ge hlo hv (by omega)
theorem Hs{e lo:Nat}{E:List Int}(hE:E.length≤100)(he:e<lo){B:Nat}{Q:AX→Env→Heap→Prop}(hQ:∀e' h',Q (.exit 2) e' h'):
  ∀(n i:Nat) (h:Heap) (env:Env),E.length-i=n→i≤E.length→h.get e=some (.cells (ints E) true 0)→lo≤h.next→aW env [(8,.sl e 0 E.length E.length false),(9,.int .i64 ((i:Nat):Int))]→
  VC fs ms B false (.loop e9) env h Q:=by
 intro n;induction n using Nat.strongRecOn with
 |ind n ih=>
 intro i h env hn hi ge hlo bM;refine an 4 [(8,.sl e 0 E.length E.length false),(9,.int .i64 ((i:Nat):Int))] bM ?_;refine cK (aa true ?_);conv=>whnf
 refine br (fun hc=>?_) (fun hc=>?_)<;>(try rw[hc])<;>(conv=>whnf)
 ·have hlt:i<E.length:=by have:=of_decide_eq_true hc;omega
  refine aJ (aG (aa true ?_));conv=>whnf
  refine aJ (aa true ?_);conv=>whnf
  refine aG ?_;refine Ht (i:=i) hE he ?_ _ 0 h .aN [] _ rfl (Nat.zero_le _) ge hlo (.inl ⟨rfl,rfl⟩) rfl ⟨rfl,rfl,rfl,rfl,trivial⟩;intro e1 h1 v1 l1 g8 g9 g10 VE Ui SV MA;show VC fs ms _ _ _ _ _ _;refine an 4 [(8,.sl e 0 E.length E.length false),(9,.int .i64 ((i:Nat):Int)),(10,v1)] ⟨g8,g9,g10,trivial⟩ (aq (z:=true) ?_);conv=>whnf
  refine⟨_,bh hlt,?_⟩;conv=>whnf
  refine⟨_,bQ VE (ints_at hlt),?_⟩;conv=>whnf
  obtain⟨z,f⟩:=SV.Gs;refine jv (sD (gD E i) z l1 (by omega)) rfl (.cons (.clean rfl) (.cons f .nil)) ?_;conv=>whnf
  refine aq (z:=true) ?_;conv=>whnf
  exact ih (E.length-(i+1)) (by omega) (i+1) h1 _ rfl (by omega) VE Ui ⟨rfl,aS (by omega),trivial⟩
 ·exact hQ _ _
def Gi:List Int:=[-9223372036854775808,-1,0,1,2,3,4,5,1099511627776,1099511627840,1099511627841,9223372036854775807]
theorem zw:PC fs ms 10 [] (.bool true):=by
 refine j9 rfl rfl ?_;generalize hK:(fun(u:AV) (_:Heap)=>u=.bool true)=K;have BO:∀h,K (.bool true) h:=fun h=>by subst hK;rfl
 clear hK;generalize(⟨0,.nil⟩:Heap)=h0;refine bC (af:=RA) rfl (Nat.le_of_ble_eq_true rfl) ?_;conv=>whnf
 refine aa true ?_;conv=>whnf
 refine aa true ?_;conv=>whnf
 refine aJ (aa true ?_);conv=>whnf
 refine aG ?_;refine Hr ?_ _ 0 h0 .de _ rfl (by omega) (.inl rfl) ⟨rfl,rfl,trivial⟩;intro e1 h1;show VC fs ms _ _ _ _ _ _;refine an 3 [] trivial ?_;refine aa true ?_;conv=>whnf
 obtain⟨E,hE⟩:∃E,E=Gi:=⟨_,rfl⟩;have hl:E.length=12:=by rw[hE];rfl
 have yX:(ints Gi)=ints E:=by rw[hE]
 refine aJ (aa true ?_);conv=>whnf
 refine aG ?_;refine Hs (e:=h1.next) (lo:=h1.next+1) (E:=E) (by omega) (Nat.lt_succ_self _) ?_ _ 0 _ _ rfl (Nat.zero_le _) ?_ (Nat.le_refl _) ⟨by rw[hl];rfl,rfl,trivial⟩
 ·intro e2 h2;show VC fs ms _ _ _ _ _ _;refine an 3 [] trivial (aq (z:=true) ?_);conv=>whnf
  refine Bg 0 (fun hb=>by omega) fun _ _ h3 q S hq hS ql=>?_;conv=>whnf
  refine aZ nh ?_;conv=>whnf
  refine oP hq 0 0 (fun _=>?_) (fun h=>absurd (.inr (Int.le_refl _)) h) (fun h=>absurd (.inr (Int.le_refl _)) h) (fun _ i hi hlt=>by omega);conv=>whnf
  exact BO _
 ·rw[←yX];exact aB
end Ir
end Go.Proofs.Ytenafeojcgmnhaa
