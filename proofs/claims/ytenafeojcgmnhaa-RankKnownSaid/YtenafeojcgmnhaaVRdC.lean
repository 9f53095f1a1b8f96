/-
  Rank's heap of ids: up, down, cut.
-/
import Derived.Test.YtenafeojcgmnhaaZA
import Derived.Test.YtenafeojcgmnhaaVRdB
set_option maxRecDepth 100000
set_option linter.unusedSimpArgs false
set_option linter.unusedVariables false
namespace Go.Proofs.Ytenafeojcgmnhaa
open Go Ads
namespace Ads
end Ads
namespace Ir
theorem mJ.row{h:Heap}{p r cap:Nat}{op:Bool}{L:List Id}{P:Nat→Nat}{rest:List AV}(hh:mJ h p r cap op L P rest):rV .bW [.ptr p 0] h=some (.sl r 0 L.length cap op):=bQ hh.hp rfl
theorem mJ.one{h:Heap}{p r cap:Nat}{op:Bool}{L:List Id}{P:Nat→Nat}{rest:List AV}(hh:mJ h p r cap op L P rest){i:Nat}(hi:i<L.length):rV (.aO 2) [.ptr r (i*2)] h=some (ob (gI L i)):=by
 have hlen:=iX L;rw[IS hh.hr (by rw[List.length_append];omega),zl hi,dB hi];rfl
theorem mJ.id{h:Heap}{p r cap:Nat}{op:Bool}{L:List Id}{P:Nat→Nat}{rest:List AV}(hh:mJ h p r cap op L P rest){i:Nat}(hi:i<L.length):rV .bW [.ptr r (i*2)] h=some (.int .i64 ((gI L i).1:Nat)):=by
 have hlen:=iX L;refine bQ hh.hr ?_;rw[List.getElem?_append_left (by omega),dB hi];exact HP hi
theorem mJ.key{h:Heap}{p r cap:Nat}{op:Bool}{L:List Id}{P:Nat→Nat}{rest:List AV}(hh:mJ h p r cap op L P rest){i:Nat}(hi:i<L.length):rV .bW [.ptr r (i*2+1)] h=some (.int .i64 (gI L i).2):=by
 have hlen:=iX L;refine bQ hh.hr ?_;rw[List.getElem?_append_left (by omega),dB hi];exact CE hi
theorem mJ.place{h:Heap}{p r cap:Nat}{op:Bool}{L:List Id}{P:Nat→Nat}{rest:List AV}(hh:mJ h p r cap op L P rest){i:Nat}(hi:i<64):rV .bW [.ptr p (1+i*1)] h=some (.int .i64 ((P i:Nat):Int)):=by
 refine bQ hh.hp ?_;rw[show 1+i*1=i+1 by omega,List.getElem?_cons_succ];exact uI hi
theorem yU{a:Nat}(h:a<2^62):pV (.bin .quo) [.int .i64 (IntKind.i64.wrap (((a+1:Nat):Int)-1)),.int .i64 2]=some (.int .i64 ((a/2:Nat):Int)):=by
 rw[D9 _ _ (by decide)];have e1:IntKind.i64.wrap (((a+1:Nat):Int)-1)=((a:Nat):Int):=by
  rw[show((a+1:Nat):Int)-1=((a:Nat):Int) by omega];exact iw (by omega)
 rw[e1];have e2:((a:Nat):Int).tdiv 2=((a/2:Nat):Int):=by rw[Int.tdiv_eq_ediv_of_nonneg (by omega)];rfl
 rw[e2,iw (by omega)]
theorem Ow(x:Id):([.int .i64 (x.1:Nat),.int .i64 x.2]:List AV)=(ob x).cells:=rfl
theorem tK{L:List Id}{a:Nat}(h:a<L.length):L.set a (gI L a)=L:=by
 rw[dB h];exact List.set_getElem_self h
theorem hG{L:List Id}{a i:Nat}{x:Id}(h:a<L.length)(hi:i≠a):gI (L.set a x) i=gI L i:=by rw[nB h,if_neg hi]
theorem mR{L:List Id}{a:Nat}{x:Id}(h:a<L.length):gI (L.set a x) a=x:=by rw[nB h,if_pos rfl]
theorem Iw{L:List Id}{a m:Nat}{x:Id}(h:a<L.length)(hm:m<L.length)(hn:m≠a):(L.set a (gI L m)).set m x=ju (L.set a x) a m:=by
 rw[ju,mR h,hG h hn,List.set_set]
theorem KJ{p r cap t:Nat}{op:Bool}{rest:List AV}{x:Id}{B:Nat}{Q:AX→Env→Heap→Prop}{N:Nat}(hN:N<2^62)(tp:t≠p)(tr:t≠r)(es:Nat):
  ∀(a:Nat) (h:Heap) (L:List Id) (P:Nat→Nat),mJ h p r cap op L P rest→t<h.next→h.get t=some (.cells (ob x).cells true es)→a<N→L.length=N→El (L.set a x) P a→IJ (L.set a x) a→
  (∀(a':Nat) (h':Heap) (L':List Id) (P':Nat→Nat) (e':Env),Tr.get e' 0=some (.ptr p 0)→Tr.get e' 1=some (.int .i64 ((a':Nat):Int))→Tr.get e' 4=some (.ptr t 0)→mJ h' p r cap op L' P' rest→h'.get t=some (.cells (ob x).cells true es)→a'<N→L'.length=N→
   El (L'.set a' x) P' a'→II (L'.set a' x) a'→qk (L.set a x) (L'.set a' x)→(IY (L.set a x) a→IY (L'.set a' x) a')→Fr h h' [p,r]→Q (.exit 0) e' h')→
  VC fs ms B false (.loop lg) (ek 3 [(0,.ptr p 0),(1,.int .i64 ((a:Nat):Int)),(4,.ptr t 0)]) h Q:=by
 intro a;induction a using Nat.strongRecOn with
 |ind a ih=>
 intro h L P hh Qy ht ha hL hp hu hQ;refine bB (z:=true) ?_;conv=>whnf
 rcases Nat.eq_zero_or_pos a with h0|h0
 ·refine br (fun hc=>?_) (fun hc=>?_)<;>(try rw[hc])<;>(conv=>whnf)
  ·exfalso;have:=of_decide_eq_true hc;omega
  ·exact hQ a h L P _ rfl rfl rfl hh ht ha hL hp (hu.done (.inl h0)) (qk.refl _) id (Fr.refl _ _)
 ·obtain⟨b,rfl⟩:∃b,a=b+1:=⟨a-1,by omega⟩;refine br (fun hc=>?_) (fun hc=>?_)<;>(try rw[hc])<;>(conv=>whnf)
  ·refine⟨_,IS ht (Nat.le_refl _),?_⟩;conv=>whnf
   refine⟨_,hh.row,?_⟩;conv=>whnf
   refine⟨_,yU (by omega),?_⟩;conv=>whnf
   refine⟨_,bh (by omega),?_⟩;conv=>whnf
   refine⟨_,hh.one (by omega),?_⟩;conv=>whnf
   refine aZ (yw x _) ?_;conv=>whnf
   refine br (fun hc=>?_) (fun hc=>?_)<;>(try rw[hc])<;>(conv=>whnf)
   ·have gR:=hc;refine⟨_,hh.row,?_⟩;conv=>whnf
    refine⟨_,yU (by omega),?_⟩;conv=>whnf
    refine⟨_,bh (by omega),?_⟩;conv=>whnf
    refine⟨_,hh.one (by omega),?_⟩;conv=>whnf
    have EK:b/2<L.length:=by omega
    have hne:b/2≠b+1:=by omega
    have qA:b+1<L.length:=by omega
    have IP:(gI L (b/2)).1<64:=by
     have:=hp.small (b/2) (by rw[List.length_set];exact EK);rw[hG qA hne] at this;exact this
    refine Bb hh qA IP (by omega) fun h' y5 fr=>?_;conv=>whnf
    refine⟨_,yU (by omega),?_⟩;conv=>whnf
    have e0:(b+1-1)/2=b/2:=by omega
    have hs:ah (gI (L.set (b+1) x) (b+1)) (gI (L.set (b+1) x) ((b+1-1)/2))=true:=by
     rw[e0,mR qA,hG qA hne];exact gR
    have hst:=hu.step (by omega) (by rw[List.length_set];exact qA) hs;rw[e0] at hst;have MQ:(L.set (b+1) (gI L (b/2))).set (b/2) x=ju (L.set (b+1) x) (b+1) (b/2):=Iw qA EK hne;have kL:=hp.step (m:=b/2) (by rw[List.length_set];exact EK) hne;rw[hG qA hne] at kL;refine an 3 [(0,.ptr p 0),(1,.int .i64 ((b/2:Nat):Int)),(4,.ptr t 0)] ⟨rfl,rfl,rfl,trivial⟩ ?_;refine ih (b/2) (by omega) h' _ _ y5 (Nat.lt_of_lt_of_le Qy fr.next) (by rw[fr.keep t Qy (by simp[tp,tr])];exact ht) (by omega) (by simp[hL]) (by rw[MQ];exact kL) (by rw[MQ];exact hst.1) ?_;intro a' h1 L1 P1 e1 g0 g1 g4 k1 k2 k3 k4 k5 k6 k7 k8 k9;rw[MQ] at k7 k8;refine hQ a' h1 L1 P1 e1 g0 g1 g4 k1 k2 k3 k4 k5 k6 ((Bz (by rw[List.length_set];exact qA) (by rw[List.length_set];exact EK)).trans k7) (fun _=>k8 hst.2) (fr.trans k9)
   ·have gR:=hc;refine hQ (b+1) h L P _ rfl rfl rfl hh ht ha hL hp (hu.done (.inr ?_)) (qk.refl _) id (Fr.refl _ _);rw[show(b+1-1)/2=b/2 by omega,mR (by omega),hG (by omega) (by omega)];exact gR
  ·exfalso;have:=of_decide_eq_false hc;omega
theorem mJ.new{h:Heap}{p r cap:Nat}{op:Bool}{L:List Id}{P:Nat→Nat}{rest:List AV}(hh:mJ h p r cap op L P rest)(x:cw):mJ (h.new x) p r cap op L P rest:=
 ⟨by rw[aH hh.lp];exact hh.hp,by rw[aH hh.lr];exact hh.hr,hh.ne,Nat.lt_succ_of_lt hh.lp,Nat.lt_succ_of_lt hh.lr⟩
theorem mJ.set{h:Heap}{p r cap:Nat}{op:Bool}{L:List Id}{P:Nat→Nat}{rest:List AV}(hh:mJ h p r cap op L P rest){b:Nat}(x:cw)(h1:b≠p)(h2:b≠r):mJ (h.set b x) p r cap op L P rest:=
 ⟨by rw[bw h1.symm];exact hh.hp,by rw[bw h2.symm];exact hh.hr,hh.ne,hh.lp,hh.lr⟩
theorem NO{h:Heap}{p r cap:Nat}{op:Bool}{L:List Id}{P:Nat→Nat}{rest:List AV}{a:Nat}(hh:mJ h p r cap op L P rest)(ha:a<L.length)(hN:L.length<2^62)(hp:El L P a)(hu:IJ L a){Q:AV→Heap→Prop}
  (hQ:∀h' L' P' a',mJ h' p r cap op L' P' rest→L'.length=L.length→a'<L'.length→qt L' P'→II L' a'→gI L' a'=gI L a→qk L L'→(IY L a→IY L' a')→Fr h h' [p,r]→Q (.cg []) h'):VD fs ms 42 [.ptr p 0,.int .i64 ((a:Nat):Int)] h Q:=by
 refine bC (af:=RO) rfl (Nat.le_of_ble_eq_true rfl) ?_;conv=>whnf
 refine aa true ?_;conv=>whnf
 refine⟨_,hh.row,?_⟩;conv=>whnf
 refine⟨_,bh ha,?_⟩;conv=>whnf
 refine⟨_,hh.one ha,?_⟩;conv=>whnf
 refine⟨_,_,fQ aB rfl (Nat.le_refl _) rfl,?_⟩;conv=>whnf
 refine aJ (aG ?_);refine an 3 [(0,.ptr p 0),(1,.int .i64 ((a:Nat):Int)),(4,.ptr h.next 0)] ⟨rfl,rfl,rfl,trivial⟩ ?_;have n1:h.next≠p:=by have:=hh.lp;omega
 have n2:h.next≠r:=by have:=hh.lr;omega
 refine KJ (x:=gI L a) (N:=L.length) hN n1 n2 _ a _ L P ((hh.new _).set _ n1 n2) (Nat.lt_succ_self _) (by rw[aV];rfl) ha rfl (by rw[tK ha];exact hp) (by rw[tK ha];exact hu) ?_;intro a' h1 L1 P1 e1 g0 g1 g4 k1 k2 k3 k4 k5 k6 k7 k8 k9;rw[tK ha] at k7 k8;show VC fs ms _ _ _ _ _ _;refine an 3 [(0,.ptr p 0),(1,.int .i64 ((a':Nat):Int)),(4,.ptr h.next 0)] ⟨g0,g1,g4,trivial⟩ (aq (z:=true) ?_);conv=>whnf
 refine⟨_,IS k2 (Nat.le_refl _),?_⟩;conv=>whnf
 have IP:(gI L a).1<64:=hp.small a ha;have qA:a'<L1.length:=by omega
 refine Bb (x:=gI L a) k1 qA IP (by omega) fun h2 lV iI=>?_;conv=>whnf
 have jH:=k5.fill;rw[mR qA] at jH;refine hQ h2 _ _ a' lV (by rw[List.length_set];exact k4) (by rw[List.length_set];exact qA) jH k6 (mR qA) k7 k8 ?_;exact(((Fr.refl h [p,r]).new (x:=_)).Im (Nat.le_refl _)).trans (k9.trans iI)
theorem O5{a:Nat}(h:a<2^61):IntKind.i64.wrap (IntKind.i64.wrap (2*((a:Nat):Int))+1)=((2*a+1:Nat):Int):=by
 rw[show 2*((a:Nat):Int)=((2*a:Nat):Int) by omega,iw (by omega),mg (by omega)]
theorem EC{p r cap t:Nat}{op:Bool}{rest:List AV}{x:Id}{B:Nat}{Q:AX→Env→Heap→Prop}{N:Nat}(hN:N<2^60)(tp:t≠p)(tr:t≠r)(es:Nat):
  ∀(k a:Nat) (h:Heap) (L:List Id) (P:Nat→Nat),N-a=k→mJ h p r cap op L P rest→t<h.next→h.get t=some (.cells (ob x).cells true es)→a<N→L.length=N→El (L.set a x) P a→II (L.set a x) a→
  (∀(a':Nat) (h':Heap) (L':List Id) (P':Nat→Nat) (e':Env),Tr.get e' 0=some (.ptr p 0)→Tr.get e' 1=some (.int .i64 ((a':Nat):Int))→Tr.get e' 4=some (.ptr t 0)→mJ h' p r cap op L' P' rest→h'.get t=some (.cells (ob x).cells true es)→a'<N→L'.length=N→
   El (L'.set a' x) P' a'→Hp (L'.set a' x)→qk (L.set a x) (L'.set a' x)→Fr h h' [p,r]→Q (.exit 0) e' h')→
  VC fs ms B false (.loop gU) (ek 3 [(0,.ptr p 0),(1,.int .i64 ((a:Nat):Int)),(4,.ptr t 0)]) h Q:=by
 intro k;induction k using Nat.strongRecOn with
 |ind k ih=>
 intro a h L P hk hh Qy ht ha hL hp hu hQ;have qA:a<L.length:=by omega
 have hdone:∀e',Tr.get e' 0=some (.ptr p 0)→Tr.get e' 1=some (.int .i64 ((a:Nat):Int))→Tr.get e' 4=some (.ptr t 0)→IY (L.set a x) a→Q (.exit 0) e' h:=fun e' g0 g1 g4 hc=>
  hQ a h L P e' g0 g1 g4 hh ht ha hL hp (hu.full hc) (qk.refl _) (Fr.refl _ _)
 have hstep:∀m (h':Heap),m<N→(m-1)/2=a→0<m→ah (gI L m) x=true→(∀c,0<c→c<N→(c-1)/2=a→ah (gI L c) (gI L m)=false)→
   mJ h' p r cap op (L.set a (gI L m)) (iH P (gI L m).1 (a+1)) rest→Fr h h' [p,r]→
   VC fs ms B false (.loop gU) (ek 3 [(0,.ptr p 0),(1,.int .i64 ((m:Nat):Int)),(4,.ptr t 0)]) h' Q:=by
  intro m h' hm hpa hm0 hs hmin y5 fr;have hne:m≠a:=by omega
  have hml:m<L.length:=by omega
  have MQ:(L.set a (gI L m)).set m x=ju (L.set a x) a m:=Iw qA hml hne;have kL:=hp.step (m:=m) (by rw[List.length_set];exact hml) hne;rw[hG qA hne] at kL;have hdn:=hu.step (m:=m) (by rw[List.length_set];exact qA) hm0 (by rw[List.length_set];exact hml) hpa (by rw[mR qA,hG qA hne];exact hs) (by
   intro c h0 hc EN;rw[List.length_set] at hc;rw[hG qA (by omega),hG qA hne];exact hmin c h0 (by omega) EN)
  refine ih (N-m) (by omega) m h' _ _ rfl y5 (Nat.lt_of_lt_of_le Qy fr.next) (by rw[fr.keep t Qy (by simp[tp,tr])];exact ht) hm (by simp[hL]) (by rw[MQ];exact kL) (by rw[MQ];exact hdn) ?_;intro a' h1 L1 P1 e1 g0 g1 g4 k1 k2 k3 k4 k5 k6 k7 k9;rw[MQ] at k7;exact hQ a' h1 L1 P1 e1 g0 g1 g4 k1 k2 k3 k4 k5 k6 ((Bz (by rw[List.length_set];exact qA) (by rw[List.length_set];exact hml)).trans k7) (fr.trans k9)
 clear ih hQ;have IP:∀m,m<N→m≠a→(gI L m).1<64:=by
  intro m hm hne;have:=hp.small m (by rw[List.length_set];omega);rw[hG qA hne] at this;exact this
 refine cK (aG ?_);refine aa true ?_;conv=>whnf
 rw[O5 (by omega)];refine aJ (VC.mono (Q:=fun x e1 h1=>x=.normal∧h1=h∧∃m,Tr.get e1 0=some (.ptr p 0)∧Tr.get e1 1=some (.int .i64 ((a:Nat):Int))∧Tr.get e1 4=some (.ptr t 0)∧Tr.get e1 5=some (.int .i64 ((m:Nat):Int))∧(m=2*a+1∨m=2*a+2)∧(N≤m→m=2*a+1)∧(m<N→∀c,0<c→c<N→(c-1)/2=a→ah (gI L c) (gI L m)=false)) ?_ ?_)
 ·refine aq (z:=true) ?_;generalize hK:(fun(x:AX) (e1:Env) (h1:Heap)=>x=.normal∧h1=h∧∃m,Tr.get e1 0=some (.ptr p 0)∧Tr.get e1 1=some (.int .i64 ((a:Nat):Int))∧Tr.get e1 4=some (.ptr t 0)∧Tr.get e1 5=some (.int .i64 ((m:Nat):Int))∧(m=2*a+1∨m=2*a+2)∧(N≤m→m=2*a+1)∧(m<N→∀c,0<c→c<N→(c-1)/2=a→ah (gI L c) (gI L m)=false))=K;conv=>whnf
  refine⟨_,hh.row,?_⟩;conv=>whnf
  rw[mg (by omega)];refine br (fun hc=>?_) (fun hc=>?_)<;>(try rw[hc])<;>(conv=>whnf)
  ·have hlt:2*a+1+1<L.length:=by have:=of_decide_eq_true hc;omega
   refine⟨_,hh.row,?_⟩;conv=>whnf
   rw[mg (by omega)];refine⟨_,bh hlt,?_⟩;conv=>whnf
   refine⟨_,hh.one hlt,?_⟩;conv=>whnf
   refine⟨_,hh.row,?_⟩;conv=>whnf
   refine⟨_,bh (by omega),?_⟩;conv=>whnf
   refine⟨_,hh.one (by omega),?_⟩;conv=>whnf
   refine aZ (yw _ _) ?_;conv=>whnf
   have h1:2*a+1+1=2*a+2:=by omega
   refine br (fun hc=>?_) (fun hc=>?_)<;>(try rw[hc])<;>(conv=>whnf)
   ·have gR:=hc;rw[mg (by omega)];subst hK;refine⟨rfl,rfl,2*a+1+1,rfl,rfl,rfl,rfl,.inr rfl,by omega,fun _ c h0 yY EN=>?_⟩;rcases(show c=2*a+1∨c=2*a+1+1 by omega) with rfl|rfl
    ·exact nX gR
    ·rw[eJ];omega
   ·have gR:=hc;subst hK;refine⟨rfl,rfl,2*a+1,rfl,rfl,rfl,rfl,.inl rfl,by omega,fun _ c h0 yY EN=>?_⟩;rcases(show c=2*a+1∨c=2*a+1+1 by omega) with rfl|rfl
    ·rw[eJ];omega
    ·exact gR
  ·have hge:¬2*a+1+1<L.length:=by have:=of_decide_eq_false hc;omega
   subst hK;refine⟨rfl,rfl,2*a+1,rfl,rfl,rfl,rfl,.inl rfl,by omega,fun _ c h0 yY EN=>?_⟩;rcases(show c=2*a+1 by omega) with rfl
   rw[eJ];omega
 ·rintro x1 e1 h1 ⟨rfl,rfl,m,g0,g1,g4,g5,hm,hmN,hmin⟩;refine an 3 [(0,.ptr p 0),(1,.int .i64 ((a:Nat):Int)),(4,.ptr t 0),(5,.int .i64 ((m:Nat):Int))] ⟨g0,g1,g4,g5,trivial⟩ (aq (z:=true) ?_);conv=>whnf
  refine⟨_,hh.row,?_⟩;conv=>whnf
  refine br (fun hc=>?_) (fun hc=>?_)<;>(try rw[hc])<;>(conv=>whnf)
  ·have hge:L.length≤m:=by have:=of_decide_eq_true hc;omega
   refine hdone _ rfl rfl rfl fun c h0 yY EN=>?_;rw[List.length_set] at yY;have:=hmN (by omega);omega
  ·have hlt:m<L.length:=by have:=of_decide_eq_false hc;omega
   refine⟨_,hh.row,?_⟩;conv=>whnf
   refine⟨_,bh hlt,?_⟩;conv=>whnf
   refine⟨_,hh.one hlt,?_⟩;conv=>whnf
   refine⟨_,IS ht (Nat.le_refl _),?_⟩;conv=>whnf
   refine aZ (yw _ x) ?_;conv=>whnf
   refine br (fun hc=>?_) (fun hc=>?_)<;>(try rw[hc])<;>(conv=>whnf)
   ·have gR:ah (gI L m) x=false:=by simpa using hc
    have hs:∀c,0<c→c<N→(c-1)/2=a→ah (gI L c) x=false:=fun c h0 yY EN=>mL (hmin (by omega) c h0 yY EN) gR;refine hdone _ rfl rfl rfl fun c h0 yY EN=>?_;rw[List.length_set] at yY;rw[mR qA,hG qA (by omega)];exact hs c h0 (by omega) EN
   ·have gR:ah (gI L m) x=true:=by simpa using hc
    refine⟨_,hh.row,?_⟩;conv=>whnf
    refine⟨_,bh hlt,?_⟩;conv=>whnf
    refine⟨_,hh.one hlt,?_⟩;conv=>whnf
    refine Bb hh qA (IP m (by omega) (by omega)) (by omega) fun h' y5 fr=>?_;conv=>whnf
    refine an 3 [(0,.ptr p 0),(1,.int .i64 ((m:Nat):Int)),(4,.ptr t 0)] ⟨rfl,rfl,rfl,trivial⟩ ?_;exact hstep m h' (by omega) (by omega) (by omega) gR (hmin (by omega)) y5 fr
theorem LL{h:Heap}{p r cap:Nat}{op:Bool}{L:List Id}{P:Nat→Nat}{rest:List AV}{a:Nat}(hh:mJ h p r cap op L P rest)(ha:a<L.length)(hN:L.length<2^60)(hp:El L P a)(hu:II L a){Q:AV→Heap→Prop}
  (hQ:∀h' L' P',mJ h' p r cap op L' P' rest→L'.length=L.length→qt L' P'→Hp L'→qk L L'→Fr h h' [p,r]→Q (.cg []) h'):VD fs ms 65 [.ptr p 0,.int .i64 ((a:Nat):Int)] h Q:=by
 refine bC (af:=R9) rfl (Nat.le_of_ble_eq_true rfl) ?_;conv=>whnf
 refine aa true ?_;conv=>whnf
 refine⟨_,hh.row,?_⟩;conv=>whnf
 refine⟨_,bh ha,?_⟩;conv=>whnf
 refine⟨_,hh.one ha,?_⟩;conv=>whnf
 refine⟨_,_,fQ aB rfl (Nat.le_refl _) rfl,?_⟩;conv=>whnf
 refine aJ (aG ?_);refine an 3 [(0,.ptr p 0),(1,.int .i64 ((a:Nat):Int)),(4,.ptr h.next 0)] ⟨rfl,rfl,rfl,trivial⟩ ?_;have n1:h.next≠p:=by have:=hh.lp;omega
 have n2:h.next≠r:=by have:=hh.lr;omega
 refine EC (x:=gI L a) (N:=L.length) hN n1 n2 _ _ a _ L P rfl ((hh.new _).set _ n1 n2) (Nat.lt_succ_self _) (by rw[aV];rfl) ha rfl (by rw[tK ha];exact hp) (by rw[tK ha];exact hu) ?_;intro a' h1 L1 P1 e1 g0 g1 g4 k1 k2 k3 k4 k5 k6 k7 k9;rw[tK ha] at k7;show VC fs ms _ _ _ _ _ _;refine an 3 [(0,.ptr p 0),(1,.int .i64 ((a':Nat):Int)),(4,.ptr h.next 0)] ⟨g0,g1,g4,trivial⟩ (aq (z:=true) ?_);conv=>whnf
 refine⟨_,IS k2 (Nat.le_refl _),?_⟩;conv=>whnf
 have IP:(gI L a).1<64:=hp.small a ha;have qA:a'<L1.length:=by omega
 refine Bb (x:=gI L a) k1 qA IP (by omega) fun h2 lV iI=>?_;conv=>whnf
 have jH:=k5.fill;rw[mR qA] at jH;refine hQ h2 _ _ lV (by rw[List.length_set];exact k4) jH k6 k7 ?_;exact(((Fr.refl h [p,r]).new (x:=_)).Im (Nat.le_refl _)).trans (k9.trans iI)
theorem qt.Vn{L:List Id}{P:Nat→Nat}(h:qt L P){a:Nat}(ha:a<L.length):El L P a:=⟨ha,h.small,h.oz,fun i hi _=>h.pl i hi,fun d hd _ hp=>h.back d hd hp⟩
theorem CQ{b n cap k size:Nat}{op:Bool}(h:k≤cap):pV (.slice size false true false) [.sl b 0 n cap op,.int .i64 ((k:Nat):Int)]=some (.sl b 0 k cap op):=by
 have b1:Nat.ble k cap=true:=Nat.ble_eq_true_of_le h;have b2:Nat.ble cap cap=true:=Nat.ble_eq_true_of_le (Nat.le_refl _);have b3:bounds n cap false true false [.int .i64 ((k:Nat):Int)]=some (0,k,cap):=by
  show cond (Nat.ble 0 k&&Nat.ble k cap&&Nat.ble cap cap) (some (0,k,cap)) none=_;rw[b1,b2];rfl
 show qZ size false true false (.sl b 0 n cap op) [.int .i64 ((k:Nat):Int)]=_;simp only[qZ,KR,b3];have b4:(Nat.beq cap 0&&Nat.beq cap cap&&(op&&!false&&!Nat.beq 0 0))=false:=by
  have:(op&&!false&&!Nat.beq 0 0)=false:=by cases op<;>rfl
  rw[this,Bool.and_false]
 rw[b4,cond_false,Nat.zero_mul];have b5:(cond (Nat.beq cap 0) 0 0)=0:=by cases Nat.beq cap 0<;>rfl
 rw[b5];rfl
theorem vE(L M:List Id):oc (L++M)=oc L++oc M:=by simp[oc,obs,aj]
theorem CF(x:Id):oc [x]=(ob x).cells:=by simp[oc,obs,aj]
theorem ew{M:List Id}{x:Id}{i:Nat}(h:i<M.length):gI (M++[x]) i=gI M i:=by
 rw[dB (by rw[List.length_append];omega),dB h,List.getElem_append_left h]
theorem iL{M:List Id}{x:Id}:gI (M++[x]) M.length=x:=by
 rw[dB (by rw[List.length_append];exact Nat.lt_succ_self _)];simp
theorem bZ{L:List Id}{y:Id}:y∈L↔∃i,i<L.length∧gI L i=y:=by
 rw[List.mem_iff_getElem];constructor
 ·rintro⟨i,h,e⟩;exact⟨i,h,by rw[dB h,e]⟩
 ·rintro⟨i,h,e⟩;exact⟨i,h,by rw[←dB h,e]⟩
theorem qk.mem{L M:List Id}(h:qk L M){y:Id}:y∈M↔y∈L:=by rw[bZ,bZ];exact(h.2 y).symm
theorem mJ.Vh{h:Heap}{p r cap:Nat}{op:Bool}{L:List Id}{P:Nat→Nat}{rest:List AV}(hh:mJ h p r cap op L P rest){i:Nat}(hi:i<64)(v:Nat){es:Nat}(he:es=0):
  mJ (h.set p (.cells (Heap.splice (.sl r 0 L.length cap op::D5 P) (1+i*1) [.int .i64 ((v:Nat):Int)]) true es)) p r cap op L (iH P i v) rest:=by
 subst he;exact⟨by rw[aV,D6 hi],by rw[bw hh.ne.symm];exact hh.hr,hh.ne,hh.lp,hh.lr⟩
theorem mJ.pop{h:Heap}{p r cap:Nat}{op:Bool}{M:List Id}{x:Id}{P:Nat→Nat}{rest:List AV}(hh:mJ h p r cap op (M++[x]) P rest){es:Nat}(he:es=0):
  mJ (h.set p (.cells (Heap.splice (.sl r 0 (M++[x]).length cap op::D5 P) 0 [.sl r 0 M.length cap op]) true es)) p r cap op M P ((ob x).cells++rest):=by
 subst he;refine⟨?_,?_,hh.ne,hh.lp,hh.lr⟩
 ·rw[aV];show some (cw.cells (.sl r 0 M.length cap op::Heap.splice (D5 P) 0 []) true 0)=_;rw[ez]
 ·rw[bw hh.ne.symm,hh.hr,vE,CF,List.append_assoc]
theorem F7{M:List Id}{x:Id}{P:Nat→Nat}(hf:qt (M++[x]) P):qt M (iH P x.1 0):=by
 have hl:(M++[x]).length=M.length+1:=by simp
 have hx:=hf.pl M.length (by omega);rw[iL] at hx;refine⟨fun i hi=>?_,fun i hi=>?_,fun d hd hp=>?_⟩
 ·rw[←ew (x:=x) hi];exact hf.small i (by omega)
 ·have:=hf.pl i (by omega);rw[ew hi] at this;unfold iH;rw[if_neg (by intro e;rw[e] at this;omega)];exact this
 ·unfold iH at hp⊢;split at hp
  ·omega
  ·rename_i hne;rw[if_neg hne];have hb:=hf.back d hd hp;rw[hl] at hb;have:P d≠M.length+1:=by
    intro e;rw[e] at hb;have e2:=hb.2;rw[show M.length+1-1=M.length by omega,iL] at e2;exact hne e2.symm
   refine⟨by omega,?_⟩;rw[←ew (x:=x) (by omega)];exact hb.2
theorem GZ{M:List Id}{x:Id}(h:Hp (M++[x])):Hp M:=by
 intro i h0 hi;have:=h i h0 (by simp;omega)
 rwa [ew hi,ew (by omega)] at this
theorem I9{M:List Id}{x:Id}{P:Nat→Nat}{a:Nat}(ha:a<M.length)(hf:qt (M++[x]) P):qt (M.set a x) (iH (iH P (gI M a).1 0) x.1 (a+1)):=by
 have hl:(M++[x]).length=M.length+1:=by simp
 have hx:=hf.pl M.length (by omega);rw[iL] at hx;have hA:=hf.pl a (by omega);rw[ew ha] at hA;refine⟨fun i hi=>?_,fun i hi=>?_,fun d hd hp=>?_⟩
 ·rw[nB ha];split
  ·have:=hf.small M.length (by omega)
   rwa [iL] at this
  ·rw[List.length_set] at hi;rw[←ew (x:=x) hi];exact hf.small i (by omega)
 ·rw[List.length_set] at hi;rw[nB ha];unfold iH;split
  ·rename_i e;rw[if_pos rfl,e]
  ·rename_i e;have:=hf.pl i (by omega);rw[ew hi] at this;rw[if_neg (by intro e;rw[e] at this;omega),if_neg (by intro e;rw[e] at this;omega)];exact this
 ·rw[List.length_set];unfold iH at hp⊢;by_cases e:d=x.1
  ·rw[if_pos e];refine⟨by omega,?_⟩;rw[show a+1-1=a by omega,mR ha,e]
  ·rw[if_neg e] at hp⊢;by_cases e2:d=(gI M a).1
   ·rw[if_pos e2] at hp;omega
   ·rw[if_neg e2] at hp⊢;have hb:=hf.back d hd hp;rw[hl] at hb;have n1:P d≠M.length+1:=by
     intro e3;rw[e3] at hb;have e4:=hb.2;rw[show M.length+1-1=M.length by omega,iL] at e4;exact e e4.symm
    have n2:P d-1≠a:=by
     intro e3;have e4:=hb.2;rw[e3,ew ha] at e4;exact e2 e4.symm
    refine⟨by omega,?_⟩;rw[hG ha n2,←ew (x:=x) (by omega)];exact hb.2
theorem I7{M:List Id}{x:Id}{a:Nat}(ha:a<M.length)(h:Hp (M++[x])):IJ (M.set a x) a:=by
 have h:=GZ h;refine⟨fun i h0 hi h1 h2=>?_,fun c h0 hc hp h1=>?_⟩
 ·rw[hG ha h1,hG ha h2];exact h i h0 (by simpa using hi)
 ·rw[List.length_set] at hc;rw[hG ha (by omega),hG ha (by omega)];have k1:=h c h0 hc;have k2:=h a h1 ha;rw[hp] at k1;exact mL k1 k2
theorem I8{M:List Id}{x:Id}{P:Nat→Nat}{a:Nat}(ha:a<M.length)(hf:qt (M++[x]) P)(y:Id):y∈M.set a x↔y∈M++[x]∧y.1≠(gI (M++[x]) a).1:=by
 have hl:(M++[x]).length=M.length+1:=by simp
 rw[bZ,bZ];constructor
 ·rintro⟨i,hi,e⟩;rw[List.length_set] at hi;rw[nB ha] at e;split at e
  ·subst e;refine⟨⟨M.length,by omega,iL⟩,fun e2=>?_⟩;have:=hf.oz M.length a (by omega) (by omega) (by rw[iL];exact e2);omega
  ·rename_i hne;subst e;refine⟨⟨i,by omega,ew hi⟩,fun e2=>?_⟩;rw[←ew (x:=x) hi] at e2;exact hne (hf.oz i a (by omega) (by omega) e2)
 ·rintro⟨⟨i,hi,e⟩,hne⟩;by_cases h1:i=M.length
  ·subst h1;rw[iL] at e;exact⟨a,by rw[List.length_set];exact ha,by rw[mR ha,e]⟩
  ·refine⟨i,by rw[List.length_set];omega,?_⟩;rw[hG ha,←ew (x:=x) (by omega),e];rintro rfl;rw[e] at hne;exact hne rfl
theorem Hv{M:List Id}{x:Id}{P:Nat→Nat}(hf:qt (M++[x]) P)(y:Id):y∈M↔y∈M++[x]∧y.1≠(gI (M++[x]) M.length).1:=by
 have hl:(M++[x]).length=M.length+1:=by simp
 rw[iL];constructor
 ·intro h;refine⟨List.mem_append_left _ h,fun e=>?_⟩;obtain⟨i,hi,e2⟩:=bZ.1 h;have:=hf.oz i M.length (by omega) (by omega) (by rw[ew hi,iL,e2,e]);omega
 ·rintro⟨h,hne⟩;rcases List.mem_append.1 h with h|h
  ·exact h
  ·simp at h;subst h;exact absurd rfl hne
end Ir
end Go.Proofs.Ytenafeojcgmnhaa
