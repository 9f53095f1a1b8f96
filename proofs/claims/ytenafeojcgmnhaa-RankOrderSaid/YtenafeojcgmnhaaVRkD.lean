/-
  Rank: what is popped. The contract of RankOrder.
-/
import Derived.Test.YtenafeojcgmnhaaVRkC
import Derived.Test.YtenafeojcgmnhaaVRdK
set_option maxRecDepth 100000
set_option linter.unusedSimpArgs false
set_option linter.unusedVariables false
namespace Go.Proofs.Ytenafeojcgmnhaa
open Go Ads
namespace Ir
def U7(k t u n i:Nat)(last:Id):List (Nat×AV):=[(3,.ptr k 0),(4,.ptr t 0),(5,.ptr u 0),(6,.int .i64 ((n:Nat):Int)),(12,.int .i64 last.2),(13,.int .i64 ((last.1:Nat):Int)),(14,.int .i64 ((i:Nat):Int))]
theorem Rn{k p t u n:Nat}{B:Nat}{Q:AX→Env→Heap→Prop}(Um:n≤64)
  (hQ:∀e' h' S' P',Tr.get e' 3=some (.ptr k 0)→mG h' k p S' [] P'→Q (.exit 3) e' h'):
  ∀(m i:Nat) (h:Heap) (S:List Nat) (L:List Id) (P:Nat→Nat) (W:List Bool) (V:List Int) (last:Id) (env:Env),n-i=m→i+L.length=n→(0<i→∀y∈L,ah y last=false)→Nt h k p S L P t u W V→aW env (U7 k t u n i last)→
  VC fs ms B false (.loop fK) env h Q:=by
 intro m;induction m using Nat.strongRecOn with
 |ind m ih=>
 intro i h S L P W V last env hm hi AZ N bM;refine an 4 (U7 k t u n i last) bM ?_;refine cK (aa true ?_);unfold U7;conv=>whnf
 refine br (fun hc=>?_) (fun hc=>?_)<;>(try rw[hc])<;>(conv=>whnf)
 ·have hlt:i<n:=by have:=of_decide_eq_true hc;omega
  refine aJ (aG (aa true ?_));conv=>whnf
  refine D7 N.ra (fun hL=>by subst hL;simp at hi;omega) fun x hx h1 S1 L1 P1 r1 r2 r3 r4=>?_;have hB:=N.nb r4;have hxs:=N.small hx.1;have hw:=(N.to x hx.1).1;have hv:=(N.to x hx.1).2;generalize hX:((x.1:Nat):Int)=X;conv=>whnf
  refine an 5 [(3,.ptr k 0),(4,.ptr t 0),(5,.ptr u 0),(6,.int .i64 ((n:Nat):Int)),(12,.int .i64 last.2),(13,.int .i64 ((last.1:Nat):Int)),(14,.int .i64 ((i:Nat):Int)),(15,.int .i64 X),(16,.int .i64 x.2),(17,.bool true)] ⟨rfl,rfl,rfl,rfl,rfl,rfl,rfl,rfl,rfl,rfl,trivial⟩ ?_;refine aJ (aJ (Dd (jx 6 (b9 (z:=true) ?_))));conv=>whnf
  rw[show decide (X<0)=false from decide_eq_false (by omega)];have xM:∀b,pV (.bV 1 64) [.ptr b 0,.int .i64 X]=some (.ptr b (0+x.1*1)):=by
   intro b;rw[←hX];exact bu (o:=0) hxs
  refine jx 4 (b9 (z:=true) ?_);conv=>whnf
  rw[show decide (X>63)=false from decide_eq_false (by omega)];refine jx 6 (b9 (z:=true) ?_);conv=>whnf
  refine⟨_,xM _,?_⟩;conv=>whnf
  refine⟨_,hB.wC N.wl hxs hw,?_⟩;conv=>whnf
  refine jx 6 (b9 (z:=true) ?_);conv=>whnf
  refine⟨_,xM _,?_⟩;conv=>whnf
  refine⟨_,hB.S0 N.vl hxs,?_⟩;rw[hv];conv=>whnf
  rw[show(x.snd !=x.snd)=false from by simp];generalize hI:((i:Nat):Int)=I;refine jx 5 (b9 (z:=true) ?_);conv=>whnf
  refine VO.mono (K:=fun e2 h2=>h2=h1∧aW e2 [(3,.ptr k 0),(4,.ptr t 0),(5,.ptr u 0),(6,.int .i64 ((n:Nat):Int)),(14,.int .i64 I),(15,.int .i64 X),(16,.int .i64 x.2),(183,.bool false)]) ?_ ?_
  ·by_cases h0:i=0
   ·rw[show decide (I>0)=false from decide_eq_false (by omega)];refine b9 (z:=true) ?_;conv=>whnf
    exact⟨rfl,rfl,rfl,rfl,rfl,rfl,rfl,rfl,rfl,trivial⟩
   ·rw[show decide (I>0)=true from decide_eq_true (by omega)];have TI:=AZ (by omega) x hx.1;rw[eJ] at TI;refine jx 4 (b9 (z:=true) ?_);conv=>whnf
    rw[show decide (x.snd<last.snd)=false from decide_eq_false (by omega)];refine jx 4 (b9 (z:=true) ?_);conv=>whnf
    cases hE:(x.snd==last.snd) with
    |true=>
     refine jx 3 (b9 (z:=true) ?_);conv=>whnf
     have hE':x.snd=last.snd:=by simpa using hE
     rw[show decide (X<((last.1:Nat):Int))=false from decide_eq_false (by omega)];refine b9 (z:=true) ?_;conv=>whnf
     exact⟨rfl,rfl,rfl,rfl,rfl,rfl,rfl,rfl,rfl,trivial⟩
    |false=>
     refine b9 (z:=true) ?_;conv=>whnf
     exact⟨rfl,rfl,rfl,rfl,rfl,rfl,rfl,rfl,rfl,trivial⟩
  ·rintro e2 h2 ⟨rfl,he⟩;show VC fs ms B false _ _ _ _;refine an 8 _ he (aq (z:=true) ?_);conv=>whnf
   refine aq (z:=true) ?_;conv=>whnf
   refine⟨_,xM _,?_⟩;conv=>whnf
   refine bA (hB.S8 N.wl hxs false) fun h3 e3=>?_;conv=>whnf
   obtain⟨N3,hlen⟩:=N.del hx.1 r1 r3 r4 e3;subst hX hI;refine aq (z:=true) ?_;conv=>whnf
   refine ih (n-(i+1)) (by omega) (i+1) h3 S1 L1 P1 _ _ x _ rfl (by omega) (fun _ y hy=>hx.2 y ((r3 y).1 hy).1) N3 ⟨rfl,rfl,rfl,rfl,rfl,rfl,aS (by omega),trivial⟩
 ·have hge:L.length=0:=by have:=of_decide_eq_false hc;omega
  have:=List.eq_nil_of_length_eq_zero hge;subst this;exact hQ _ h S P rfl N.ra
theorem Me(n i:Nat):gB (List.replicate n false) i=false:=by
 rw[gB,List.getD_eq_getElem?_getD,List.getElem?_replicate];split<;>rfl
theorem Ns{h:Heap}{k p:Nat}(hr:mG h k p [k,p] [] (fun _=>0)):Nt ((h.new (.cells (bol (List.replicate 64 false)) true 0)).new (.cells (ints (List.replicate 64 0)) true 0)) k p [k,p] [] (fun _=>0) h.next (h.next+1) (List.replicate 64 false) (List.replicate 64 0):=by
 have hk:=hr.lk;have hp:=hr.lp;have fr:Fr h ((h.new (.cells (bol (List.replicate 64 false)) true 0)).new (.cells (ints (List.replicate 64 0)) true 0)) []:=(Fr.refl h []).new.new;refine⟨hr.keep fr (by simp),?_,?_,?_,?_,by simp;omega,by simp;omega,by omega,by simp,by simp,fun y hy=>by simp at hy,fun i hi hb=>?_⟩
 ·exact(aH (h:=h.new _) (Nat.lt_succ_self _)).trans aB
 ·exact aB (h:=h.new _)
 ·show h.next<h.next+1+1;omega
 ·show h.next+1<h.next+1+1;omega
 ·rw[Me] at hb;cases hb
theorem ue{k:Nat}{l:List zX}(hl:l.length<2^62):PC fs ms 3 [.fz k (p9 l)] (.bool true):=by
 refine j9 (by simp[iy,AV.cl,yD]) rfl ?_;generalize hK:(fun(u:AV) (_:Heap)=>u=.bool true)=K;have BO:∀h,K (.bool true) h:=fun h=>by subst hK;rfl
 clear hK;generalize(⟨0,.nil⟩:Heap)=h0;refine bC (af:=C3) rfl (Nat.le_of_ble_eq_true rfl) ?_;conv=>whnf
 refine aa true ?_;conv=>whnf
 refine aa true ?_;conv=>whnf
 refine aZ qi ?_;conv=>whnf
 refine aa true ?_;conv=>whnf
 refine vT fun h1 q p hr hq hp fr=>?_;conv=>whnf
 have N:=Ns hr;rw[show bol (List.replicate 64 false)=[.bool false,.bool false,.bool false,.bool false,.bool false,.bool false,.bool false,.bool false,.bool false,.bool false,.bool false,.bool false,.bool false,.bool false,.bool false,.bool false,.bool false,.bool false,.bool false,.bool false,.bool false,.bool false,.bool false,.bool false,.bool false,.bool false,.bool false,.bool false,.bool false,.bool false,.bool false,.bool false,.bool false,.bool false,.bool false,.bool false,.bool false,.bool false,.bool false,.bool false,.bool false,.bool false,.bool false,.bool false,.bool false,.bool false,.bool false,.bool false,.bool false,.bool false,.bool false,.bool false,.bool false,.bool false,.bool false,.bool false,.bool false,.bool false,.bool false,.bool false,.bool false,.bool false,.bool false,.bool false] by kernel_rfl] at N;rw[show ints (List.replicate 64 0)=[.int .i64 0,.int .i64 0,.int .i64 0,.int .i64 0,.int .i64 0,.int .i64 0,.int .i64 0,.int .i64 0,.int .i64 0,.int .i64 0,.int .i64 0,.int .i64 0,.int .i64 0,.int .i64 0,.int .i64 0,.int .i64 0,.int .i64 0,.int .i64 0,.int .i64 0,.int .i64 0,.int .i64 0,.int .i64 0,.int .i64 0,.int .i64 0,.int .i64 0,.int .i64 0,.int .i64 0,.int .i64 0,.int .i64 0,.int .i64 0,.int .i64 0,.int .i64 0,.int .i64 0,.int .i64 0,.int .i64 0,.int .i64 0,.int .i64 0,.int .i64 0,.int .i64 0,.int .i64 0,.int .i64 0,.int .i64 0,.int .i64 0,.int .i64 0,.int .i64 0,.int .i64 0,.int .i64 0,.int .i64 0,.int .i64 0,.int .i64 0,.int .i64 0,.int .i64 0,.int .i64 0,.int .i64 0,.int .i64 0,.int .i64 0,.int .i64 0,.int .i64 0,.int .i64 0,.int .i64 0,.int .i64 0,.int .i64 0,.int .i64 0,.int .i64 0] by kernel_rfl] at N;revert N;generalize hH:(h1.new _).new _=H;intro N;refine aa true ?_;conv=>whnf
 refine aa true ?_;conv=>whnf
 refine aa true ?_;conv=>whnf
 rw[hH];refine aJ (aa true ?_);conv=>whnf
 refine aG ?_;refine Rm (z:=k) (l:=l) (k:=q) (p:=p) (t:=h1.next) (u:=h1.next+1) hl ?_ _ 0 _ _ [] _ _ _ _ rfl (Nat.zero_le _) N ⟨rfl,rfl,rfl,rfl,rfl,rfl,trivial⟩;intro e2 h2 S2 L2 P2 W2 V2 g3 g4 g5 g6 N2;show VC fs ms _ _ _ _ _ _;refine an 3 [(3,.ptr q 0),(4,.ptr h1.next 0),(5,.ptr (h1.next+1) 0),(6,.int .i64 ((L2.length:Nat):Int))] ⟨g3,g4,g5,g6,trivial⟩ ?_;refine aa true ?_;conv=>whnf
 refine Hy N2.ra ?_;conv=>whnf
 rw[show(((L2.length:Nat):Int)!=((L2.length:Nat):Int))=false from by simp];conv=>whnf
 refine aa true ?_;conv=>whnf
 refine aJ (aa true ?_);conv=>whnf
 refine aG ?_;refine Rn (k:=q) (p:=p) (t:=h1.next) (u:=h1.next+1) (n:=L2.length) N2.ra.pl.mj ?_ _ 0 _ S2 L2 P2 W2 V2 (0,0) _ rfl (Nat.zero_add _) (fun h=>by omega) N2 ⟨rfl,rfl,rfl,rfl,rfl,rfl,rfl,trivial⟩;intro e3 h3 S3 P3 g3 r3;show VC fs ms _ _ _ _ _ _;refine an 3 [(3,.ptr q 0)] ⟨g3,trivial⟩ (aq (z:=true) ?_);conv=>whnf
 refine D7 r3 (fun _=>?_) fun x hx=>by have:=hx.1;simp at this
 conv=>whnf
 refine Hy r3 ?_;conv=>whnf
 exact BO _
end Ir
end Go.Proofs.Ytenafeojcgmnhaa
