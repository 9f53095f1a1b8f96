/-
  Rank in plain Lean: ids in a heap. Rank's heap of ids: up, down, cut. Rank: cut. Rank: a rank in a heap, what it answers. Rank: an id more. Rank: Remove, First, Key. How ids are compared and sorted by insertion. Rows of ids, sorted in place: insertion. Rank: Ids of a few. Ready: a queue in a heap. Ready: the document's queue in a heap. Ready: the document's Jobs. Ready: the document's First and Late. Ready in plain Lean: a queue's ids and the document's deadlines.
-/
import Derived.Test.YtnlcabhfkpafmaaGreatZA
set_option maxRecDepth 100000
set_option linter.unusedSimpArgs false
set_option linter.unusedVariables false
namespace Go.Proofs.YtnlcabhfkpafmaaGreat
open Go Ads
namespace Ir
theorem nB{a b:Id}:ah a b=true↔a.2<b.2∨(a.2=b.2∧a.1<b.1):=by simp[ah]
theorem mG{a b:Id}:ah a b=false↔b.2<a.2∨(a.2=b.2∧b.1≤a.1):=by
 rw[←Bool.not_eq_true,nB];omega
def gI(V:List Id)(i:Nat):Id:=V.getD i (0,0)
theorem j5{V:List Id}{i:Nat}(h:i<V.length):gI V i=V[i]:=by simp[gI,List.getD_eq_getElem?_getD,List.getElem?_eq_getElem h]
theorem q7{V:List Id}{i:Nat}(h:i<V.length)(x:Id)(k:Nat):gI (V.set i x) k=if k=i then x else gI V k:=by
 simp only[gI,List.getD_eq_getElem?_getD,List.getElem?_set];by_cases hk:i=k
 ·subst hk;simp[h]
 ·rw[if_neg hk,if_neg (Ne.symm hk)]
def uR(V:List Id)(i j:Nat):List Id:=(V.set i (gI V j)).set j (gI V i)
theorem jA(V:List Id)(i j:Nat):(uR V i j).length=V.length:=by simp[uR]
theorem nN{V:List Id}{i j:Nat}(hi:i<V.length)(hj:j<V.length)(k:Nat):gI (uR V i j) k=if k=j then gI V i else if k=i then gI V j else gI V k:=by
 rw[uR,q7 (by simpa using hj),q7 hi]
def qq(V W:List Id):Prop:=V.length=W.length∧∀y,(∃i,i<V.length∧gI V i=y)↔∃i,i<W.length∧gI W i=y
theorem qq.refl(V:List Id):qq V V:=⟨rfl,fun _=>Iff.rfl⟩
theorem qq.trans{V W X:List Id}(a:qq V W)(b:qq W X):qq V X:=⟨a.1.trans b.1,fun y=>(a.2 y).trans (b.2 y)⟩
theorem B5{V:List Id}{i j:Nat}(hi:i<V.length)(hj:j<V.length):qq V (uR V i j):=by
 refine⟨(jA V i j).symm,fun y=>⟨?_,?_⟩⟩
 ·rintro⟨k,hk,he⟩;by_cases h1:k=i
  ·subst h1;exact⟨j,by rw[jA];exact hj,by rw[nN hi hj,if_pos rfl,he]⟩
  ·by_cases h2:k=j
   ·subst h2;exact⟨i,by rw[jA];exact hi,by rw[nN hi hj,if_neg (fun e=>h1 e.symm),if_pos rfl,he]⟩
   ·exact⟨k,by rw[jA];exact hk,by rw[nN hi hj,if_neg h2,if_neg h1,he]⟩
 ·rintro⟨k,hk,he⟩;rw[jA] at hk;rw[nN hi hj] at he;split at he
  ·exact⟨i,hi,he⟩
  ·split at he
   ·exact⟨j,hj,he⟩
   ·exact⟨k,hk,he⟩
structure Fe(V:List Id)(P:Nat→Nat)(a:Nat):Prop where
 lt:a<V.length
 small:∀i,i<V.length→(gI V i).1<64
 tu:∀i j,i<V.length→j<V.length→(gI V i).1=(gI V j).1→i=j
 pl:∀i,i<V.length→i≠a→P (gI V i).1=i+1
 back:∀d,d<64→d≠(gI V a).1→0<P d→P d≤V.length∧(gI V (P d-1)).1=d
structure s9(V:List Id)(P:Nat→Nat):Prop where
 small:∀i,i<V.length→(gI V i).1<64
 pl:∀i,i<V.length→P (gI V i).1=i+1
 back:∀d,d<64→0<P d→P d≤V.length∧(gI V (P d-1)).1=d
theorem s9.tu{V:List Id}{P:Nat→Nat}(h:s9 V P):∀i j,i<V.length→j<V.length→(gI V i).1=(gI V j).1→i=j:=by
 intro i j hi hj he;have h1:=h.pl i hi;have h2:=h.pl j hj;rw[he] at h1;omega
theorem Fe.fill{V:List Id}{P:Nat→Nat}{a:Nat}(h:Fe V P a):s9 V (iz P (gI V a).1 (a+1)):=by
 refine⟨h.small,fun i hi=>?_,fun d hd hp=>?_⟩
 ·unfold iz;split
  ·rename_i he;have:=h.tu i a hi h.lt he;omega
  ·rename_i he;exact h.pl i hi (by rintro rfl;exact he rfl)
 ·unfold iz at hp⊢;split
  ·rename_i he;exact⟨by have:=h.lt;omega,by rw[he];rfl⟩
  ·rename_i he;rw[if_neg he] at hp;exact h.back d hd he hp
theorem Fe.step{V:List Id}{P:Nat→Nat}{a m:Nat}(h:Fe V P a)(hm:m<V.length)(hne:m≠a):Fe (uR V a m) (iz P (gI V m).1 (a+1)) m:=by
 have hl:=jA V a m;have hg:=nN h.lt hm;refine⟨by omega,fun i hi=>?_,fun i j hi hj he=>?_,fun i hi hn=>?_,fun d hd hn hp=>?_⟩
 ·rw[hg];have h1:=h.small a h.lt;have h2:=h.small m hm;have h3:=h.small i (by omega);split
  ·exact h1
  ·split
   ·exact h2
   ·exact h3
 ·have hs:∀k,gI (uR V a m) k=gI V (if k=m then a else if k=a then m else k):=by
   intro k;rw[hg];split
   ·rfl
   ·split<;>rfl
  have hlt:=h.lt;have hk:∀k,k<(uR V a m).length→(if k=m then a else if k=a then m else k)<V.length:=by
   intro k hk;split
   ·omega
   ·split<;>omega
  rw[hs,hs] at he;have key:=h.tu _ _ (hk i hi) (hk j hj) he;revert key;repeat' split
  all_goals (intro key;omega)
 ·rw[hg,if_neg hn];unfold iz;by_cases GM:i=a
  ·rw[if_pos GM,if_pos rfl];omega
  ·rw[if_neg GM,if_neg (fun he=>hn (h.tu i m (by omega) hm he))];exact h.pl i (by omega) GM
 ·rw[hg,if_pos rfl] at hn;unfold iz at hp⊢;by_cases Cl:d=(gI V m).1
  ·rw[if_pos Cl];exact⟨by have:=h.lt;omega,by rw[hg,if_neg (by omega),if_pos (by omega),Cl]⟩
  ·rw[if_neg Cl] at hp⊢;have:=h.back d hd hn hp;refine⟨by omega,?_⟩;rw[hg,if_neg,if_neg]
   ·exact this.2
   ·intro e;rw[e] at this;exact hn this.2.symm
   ·intro e;rw[e] at this;exact Cl this.2.symm
def Hp(V:List Id):Prop:=∀i,0<i→i<V.length→ah (gI V i) (gI V ((i-1)/2))=false
def ZT(V:List Id)(a:Nat):Prop:=∀c,0<c→c<V.length→(c-1)/2=a→0<a→ah (gI V c) (gI V ((a-1)/2))=false
def O1(V:List Id)(a:Nat):Prop:=∀c,0<c→c<V.length→(c-1)/2=a→ah (gI V c) (gI V a)=false
structure Mm(V:List Id)(a:Nat):Prop where
 o:∀i,0<i→i<V.length→i≠a→(i-1)/2≠a→ah (gI V i) (gI V ((i-1)/2))=false
 ab:ZT V a
structure KB(V:List Id)(a:Nat):Prop where
 o:∀i,0<i→i<V.length→(i-1)/2≠a→ah (gI V i) (gI V ((i-1)/2))=false
 ab:ZT V a
theorem KB.full{V:List Id}{a:Nat}(h:KB V a)(hc:O1 V a):Hp V:=by
 intro i h0 hi;by_cases hp:(i-1)/2=a
 ·rw[hp];exact hc i h0 hi hp
 ·exact h.o i h0 hi hp
theorem Mm.done{V:List Id}{a:Nat}(h:Mm V a)(hs:a=0∨ah (gI V a) (gI V ((a-1)/2))=false):KB V a:=by
 refine⟨fun i h0 hi hn=>?_,h.ab⟩;by_cases ha:i=a
 ·subst ha;rcases hs with h1|h1
  ·omega
  ·exact h1
 ·exact h.o i h0 hi ha hn
theorem xV{a b c:Id}(h1:ah a b=false)(h2:ah b c=false):ah a c=false:=by rw[mG] at*;omega
theorem AA{a b:Id}(h1:ah a b=true):ah b a=false:=by rw[mG];rw[nB] at h1;omega
theorem Mm.step{V:List Id}{a:Nat}(h:Mm V a)(ha:0<a)(hl:a<V.length)(hs:ah (gI V a) (gI V ((a-1)/2))=true):Mm (uR V a ((a-1)/2)) ((a-1)/2)∧O1 (uR V a ((a-1)/2)) ((a-1)/2):=by
 obtain⟨m,hm⟩:∃m,m=(a-1)/2:=⟨_,rfl⟩;rw[←hm] at hs⊢;have hlen:=jA V a m;have hg:=nN hl (show m<V.length by omega);refine⟨⟨fun i h0 hi hn hp=>?_,fun c h0 hc hp hma=>?_⟩,fun c h0 hc hp=>?_⟩
 ·rw[hg,hg,if_neg hn,if_neg hp];have GM:i≠a:=by rintro rfl;exact hp hm.symm
  rw[if_neg GM];by_cases hpa:(i-1)/2=a
  ·rw[if_pos hpa];have:=h.ab i h0 (by omega) hpa ha;rw[←hm] at this;exact this
  ·rw[if_neg hpa];exact h.o i h0 (by omega) GM hpa
 ·have hmo:=h.o m hma (by omega) (by omega) (by omega);have e1:gI (uR V a m) ((m-1)/2)=gI V ((m-1)/2):=by rw[hg,if_neg (by omega),if_neg (by omega)]
  rw[e1,hg,if_neg (by omega)];by_cases hca:c=a
  ·rw[if_pos hca];exact hmo
  ·rw[if_neg hca];have:=h.o c h0 (by omega) hca (by omega);rw[hp] at this;exact xV this hmo
 ·have e1:gI (uR V a m) m=gI V a:=by rw[hg,if_pos rfl]
  rw[e1,hg,if_neg (by omega)];by_cases hca:c=a
  ·rw[if_pos hca];exact AA hs
  ·rw[if_neg hca];have:=h.o c h0 (by omega) hca (by omega);rw[hp] at this;exact xV this (AA hs)
theorem KB.step{V:List Id}{a m:Nat}(h:KB V a)(hl:a<V.length)(hm0:0<m)(hm:m<V.length)(hp:(m-1)/2=a)(hs:ah (gI V m) (gI V a)=true)
  (hmin:∀c,0<c→c<V.length→(c-1)/2=a→ah (gI V c) (gI V m)=false):KB (uR V a m) m:=by
 have hlen:=jA V a m;have hg:=nN hl hm;refine⟨fun i h0 hi hn=>?_,fun c h0 hc FU hma=>?_⟩
 ·by_cases Y3:i=m
  ·subst Y3;have e1:gI (uR V a i) ((i-1)/2)=gI V i:=by rw[hp,hg,if_neg (by omega),if_pos rfl]
   rw[e1,hg,if_pos rfl];exact AA hs
  ·by_cases GM:i=a
   ·subst GM;have e1:gI (uR V i m) ((i-1)/2)=gI V ((i-1)/2):=by rw[hg,if_neg hn,if_neg (by omega)]
    rw[e1,hg,if_neg Y3,if_pos rfl];exact h.ab m hm0 hm hp h0
   ·rw[hg i,if_neg Y3,if_neg GM,hg,if_neg hn];by_cases hpa:(i-1)/2=a
    ·rw[if_pos hpa];exact hmin i h0 (by omega) hpa
    ·rw[if_neg hpa];exact h.o i h0 (by omega) hpa
 ·have e1:gI (uR V a m) ((m-1)/2)=gI V m:=by rw[hp,hg,if_neg (by omega),if_pos rfl]
  rw[e1,hg,if_neg (by omega),if_neg (by omega)];have:=h.o c h0 (by omega) (by omega);rw[FU] at this;exact this
end Ir
end Go.Proofs.YtnlcabhfkpafmaaGreat
namespace Go.Proofs.YtnlcabhfkpafmaaGreat
open Go Ads
namespace Ads
end Ads
namespace Ir
theorem nA.row{h:Heap}{p r cap:Nat}{op:Bool}{L:List Id}{P:Nat→Nat}{rest:List AV}(hh:nA h p r cap op L P rest):rV .ck [.ptr p 0] h=some (.sl r 0 L.length cap op):=aT hh.hp rfl
theorem nA.one{h:Heap}{p r cap:Nat}{op:Bool}{L:List Id}{P:Nat→Nat}{rest:List AV}(hh:nA h p r cap op L P rest){i:Nat}(hi:i<L.length):rV (.aZ 2) [.ptr r (i*2)] h=some (ob (gI L i)):=by
 have hlen:=nS L;rw[u0 hh.hr (by rw[List.length_append];omega),ED hi,j5 hi];rfl
theorem nA.id{h:Heap}{p r cap:Nat}{op:Bool}{L:List Id}{P:Nat→Nat}{rest:List AV}(hh:nA h p r cap op L P rest){i:Nat}(hi:i<L.length):rV .ck [.ptr r (i*2)] h=some (.int .i64 ((gI L i).1:Nat)):=by
 have hlen:=nS L;refine aT hh.hr ?_;rw[List.getElem?_append_left (by omega),j5 hi];exact Py hi
theorem nA.key{h:Heap}{p r cap:Nat}{op:Bool}{L:List Id}{P:Nat→Nat}{rest:List AV}(hh:nA h p r cap op L P rest){i:Nat}(hi:i<L.length):rV .ck [.ptr r (i*2+1)] h=some (.int .i64 (gI L i).2):=by
 have hlen:=nS L;refine aT hh.hr ?_;rw[List.getElem?_append_left (by omega),j5 hi];exact Jj hi
theorem nA.place{h:Heap}{p r cap:Nat}{op:Bool}{L:List Id}{P:Nat→Nat}{rest:List AV}(hh:nA h p r cap op L P rest){i:Nat}(hi:i<64):rV .ck [.ptr p (1+i*1)] h=some (.int .i64 ((P i:Nat):Int)):=by
 refine aT hh.hp ?_;rw[show 1+i*1=i+1 by omega,List.getElem?_cons_succ];exact vi hi
theorem zD{a:Nat}(h:a<2^62):pV (.bin .quo) [.int .i64 (IntKind.i64.wrap (((a+1:Nat):Int)-1)),.int .i64 2]=some (.int .i64 ((a/2:Nat):Int)):=by
 rw[N5 _ _ (by decide)];have e1:IntKind.i64.wrap (((a+1:Nat):Int)-1)=((a:Nat):Int):=by
  rw[show((a+1:Nat):Int)-1=((a:Nat):Int) by omega];exact kq (by omega)
 rw[e1];have e2:((a:Nat):Int).tdiv 2=((a/2:Nat):Int):=by rw[Int.tdiv_eq_ediv_of_nonneg (by omega)];rfl
 rw[e2,kq (by omega)]
theorem tV{L:List Id}{a:Nat}(h:a<L.length):L.set a (gI L a)=L:=by
 rw[j5 h];exact List.set_getElem_self h
theorem j6{L:List Id}{a i:Nat}{x:Id}(h:a<L.length)(hi:i≠a):gI (L.set a x) i=gI L i:=by rw[q7 h,if_neg hi]
theorem oU{L:List Id}{a:Nat}{x:Id}(h:a<L.length):gI (L.set a x) a=x:=by rw[q7 h,if_pos rfl]
theorem Kp{L:List Id}{a m:Nat}{x:Id}(h:a<L.length)(hm:m<L.length)(hn:m≠a):(L.set a (gI L m)).set m x=uR (L.set a x) a m:=by
 rw[uR,oU h,j6 h hn,List.set_set]
theorem OX{p r cap t:Nat}{op:Bool}{rest:List AV}{x:Id}{B:Nat}{Q:AX→Env→Heap→Prop}{N:Nat}(hN:N<2^62)(tp:t≠p)(tr:t≠r)(es:Nat):
  ∀(a:Nat) (h:Heap) (L:List Id) (P:Nat→Nat),nA h p r cap op L P rest→t<h.next→h.get t=some (.cells (ob x).cells true es)→a<N→L.length=N→Fe (L.set a x) P a→Mm (L.set a x) a→
  (∀(a':Nat) (h':Heap) (L':List Id) (P':Nat→Nat) (e':Env),Tr.get e' 0=some (.ptr p 0)→Tr.get e' 1=some (.int .i64 ((a':Nat):Int))→Tr.get e' 4=some (.ptr t 0)→nA h' p r cap op L' P' rest→h'.get t=some (.cells (ob x).cells true es)→a'<N→L'.length=N→
   Fe (L'.set a' x) P' a'→KB (L'.set a' x) a'→qq (L.set a x) (L'.set a' x)→(O1 (L.set a x) a→O1 (L'.set a' x) a')→Fr h h' [p,r]→Q (.exit 0) e' h')→
  VC fs ms B false (.loop lD) (ek 3 [(0,.ptr p 0),(1,.int .i64 ((a:Nat):Int)),(4,.ptr t 0)]) h Q:=by
 intro a;induction a using Nat.strongRecOn with
 |ind a ih=>
 intro h L P hh Un ht ha hL hp hu hQ;refine dI (z:=true) ?_;conv=>whnf
 rcases Nat.eq_zero_or_pos a with h0|h0
 ·refine br (fun hc=>?_) (fun hc=>?_)<;>(try rw[hc])<;>(conv=>whnf)
  ·exfalso;have:=of_decide_eq_true hc;omega
  ·exact hQ a h L P _ rfl rfl rfl hh ht ha hL hp (hu.done (.inl h0)) (qq.refl _) id (Fr.refl _ _)
 ·obtain⟨b,rfl⟩:∃b,a=b+1:=⟨a-1,by omega⟩;refine br (fun hc=>?_) (fun hc=>?_)<;>(try rw[hc])<;>(conv=>whnf)
  ·refine⟨_,u0 ht (Nat.le_refl _),?_⟩;conv=>whnf
   refine⟨_,hh.row,?_⟩;conv=>whnf
   refine⟨_,zD (by omega),?_⟩;conv=>whnf
   refine⟨_,aJ (by omega),?_⟩;conv=>whnf
   refine⟨_,hh.one (by omega),?_⟩;conv=>whnf
   refine aR (zc x _) ?_;conv=>whnf
   refine br (fun hc=>?_) (fun hc=>?_)<;>(try rw[hc])<;>(conv=>whnf)
   ·have fV:=hc;refine⟨_,hh.row,?_⟩;conv=>whnf
    refine⟨_,zD (by omega),?_⟩;conv=>whnf
    refine⟨_,aJ (by omega),?_⟩;conv=>whnf
    refine⟨_,hh.one (by omega),?_⟩;conv=>whnf
    have GK:b/2<L.length:=by omega
    have hne:b/2≠b+1:=by omega
    have qH:b+1<L.length:=by omega
    have KL:(gI L (b/2)).1<64:=by
     have:=hp.small (b/2) (by rw[List.length_set];exact GK);rw[j6 qH hne] at this;exact this
    refine Bz hh qH KL (by omega) fun h' CZ fr=>?_;conv=>whnf
    refine⟨_,zD (by omega),?_⟩;conv=>whnf
    have e0:(b+1-1)/2=b/2:=by omega
    have hs:ah (gI (L.set (b+1) x) (b+1)) (gI (L.set (b+1) x) ((b+1-1)/2))=true:=by
     rw[e0,oU qH,j6 qH hne];exact fV
    have hst:=hu.step (by omega) (by rw[List.length_set];exact qH) hs;rw[e0] at hst;have Rh:(L.set (b+1) (gI L (b/2))).set (b/2) x=uR (L.set (b+1) x) (b+1) (b/2):=Kp qH GK hne;have j7:=hp.step (m:=b/2) (by rw[List.length_set];exact GK) hne;rw[j6 qH hne] at j7;refine aH 3 [(0,.ptr p 0),(1,.int .i64 ((b/2:Nat):Int)),(4,.ptr t 0)] ⟨rfl,rfl,rfl,trivial⟩ ?_;refine ih (b/2) (by omega) h' _ _ CZ (Nat.lt_of_lt_of_le Un fr.next) (by rw[fr.keep t Un (by simp[tp,tr])];exact ht) (by omega) (by simp[hL]) (by rw[Rh];exact j7) (by rw[Rh];exact hst.1) ?_;intro a' h1 L1 P1 e1 g0 g1 g4 k1 k2 k3 k4 k5 k6 k7 k8 k9;rw[Rh] at k7 k8;refine hQ a' h1 L1 P1 e1 g0 g1 g4 k1 k2 k3 k4 k5 k6 ((B5 (by rw[List.length_set];exact qH) (by rw[List.length_set];exact GK)).trans k7) (fun _=>k8 hst.2) (fr.trans k9)
   ·have fV:=hc;refine hQ (b+1) h L P _ rfl rfl rfl hh ht ha hL hp (hu.done (.inr ?_)) (qq.refl _) id (Fr.refl _ _);rw[show(b+1-1)/2=b/2 by omega,oU (by omega),j6 (by omega) (by omega)];exact fV
  ·exfalso;have:=of_decide_eq_false hc;omega
theorem nA.new{h:Heap}{p r cap:Nat}{op:Bool}{L:List Id}{P:Nat→Nat}{rest:List AV}(hh:nA h p r cap op L P rest)(x:dD):nA (h.new x) p r cap op L P rest:=
 ⟨by rw[aA hh.lp];exact hh.hp,by rw[aA hh.lr];exact hh.hr,hh.ne,Nat.lt_succ_of_lt hh.lp,Nat.lt_succ_of_lt hh.lr⟩
theorem nA.set{h:Heap}{p r cap:Nat}{op:Bool}{L:List Id}{P:Nat→Nat}{rest:List AV}(hh:nA h p r cap op L P rest){b:Nat}(x:dD)(h1:b≠p)(h2:b≠r):nA (h.set b x) p r cap op L P rest:=
 ⟨by rw[aX h1.symm];exact hh.hp,by rw[aX h2.symm];exact hh.hr,hh.ne,hh.lp,hh.lr⟩
theorem UT{h:Heap}{p r cap:Nat}{op:Bool}{L:List Id}{P:Nat→Nat}{rest:List AV}{a:Nat}(hh:nA h p r cap op L P rest)(ha:a<L.length)(hN:L.length<2^62)(hp:Fe L P a)(hu:Mm L a){Q:AV→Heap→Prop}
  (hQ:∀h' L' P' a',nA h' p r cap op L' P' rest→L'.length=L.length→a'<L'.length→s9 L' P'→KB L' a'→gI L' a'=gI L a→qq L L'→(O1 L a→O1 L' a')→Fr h h' [p,r]→Q (.cq []) h'):VD fs ms 173 [.ptr p 0,.int .i64 ((a:Nat):Int)] h Q:=by
 refine bY (af:=L3) rfl (Nat.le_of_ble_eq_true rfl) ?_;conv=>whnf
 refine aF true ?_;conv=>whnf
 refine⟨_,hh.row,?_⟩;conv=>whnf
 refine⟨_,aJ ha,?_⟩;conv=>whnf
 refine⟨_,hh.one ha,?_⟩;conv=>whnf
 refine⟨_,_,bq aj rfl (Nat.le_refl _) rfl,?_⟩;conv=>whnf
 refine bu (bx ?_);refine aH 3 [(0,.ptr p 0),(1,.int .i64 ((a:Nat):Int)),(4,.ptr h.next 0)] ⟨rfl,rfl,rfl,trivial⟩ ?_;have n1:h.next≠p:=by have:=hh.lp;omega
 have n2:h.next≠r:=by have:=hh.lr;omega
 refine OX (x:=gI L a) (N:=L.length) hN n1 n2 _ a _ L P ((hh.new _).set _ n1 n2) (Nat.lt_succ_self _) (by rw[ay];rfl) ha rfl (by rw[tV ha];exact hp) (by rw[tV ha];exact hu) ?_;intro a' h1 L1 P1 e1 g0 g1 g4 k1 k2 k3 k4 k5 k6 k7 k8 k9;rw[tV ha] at k7 k8;show VC fs ms _ _ _ _ _ _;refine aH 3 [(0,.ptr p 0),(1,.int .i64 ((a':Nat):Int)),(4,.ptr h.next 0)] ⟨g0,g1,g4,trivial⟩ (aq (z:=true) ?_);conv=>whnf
 refine⟨_,u0 k2 (Nat.le_refl _),?_⟩;conv=>whnf
 have KL:(gI L a).1<64:=hp.small a ha;have qH:a'<L1.length:=by omega
 refine Bz (x:=gI L a) k1 qH KL (by omega) fun h2 Ee ey=>?_;conv=>whnf
 have jr:=k5.fill;rw[oU qH] at jr;refine hQ h2 _ _ a' Ee (by rw[List.length_set];exact k4) (by rw[List.length_set];exact qH) jr k6 (oU qH) k7 k8 ?_;exact(((Fr.refl h [p,r]).new (x:=_)).ki (Nat.le_refl _)).trans (k9.trans ey)
theorem Tx{a:Nat}(h:a<2^61):IntKind.i64.wrap (IntKind.i64.wrap (2*((a:Nat):Int))+1)=((2*a+1:Nat):Int):=by
 rw[show 2*((a:Nat):Int)=((2*a:Nat):Int) by omega,kq (by omega),nP (by omega)]
theorem FB{p r cap t:Nat}{op:Bool}{rest:List AV}{x:Id}{B:Nat}{Q:AX→Env→Heap→Prop}{N:Nat}(hN:N<2^60)(tp:t≠p)(tr:t≠r)(es:Nat):
  ∀(k a:Nat) (h:Heap) (L:List Id) (P:Nat→Nat),N-a=k→nA h p r cap op L P rest→t<h.next→h.get t=some (.cells (ob x).cells true es)→a<N→L.length=N→Fe (L.set a x) P a→KB (L.set a x) a→
  (∀(a':Nat) (h':Heap) (L':List Id) (P':Nat→Nat) (e':Env),Tr.get e' 0=some (.ptr p 0)→Tr.get e' 1=some (.int .i64 ((a':Nat):Int))→Tr.get e' 4=some (.ptr t 0)→nA h' p r cap op L' P' rest→h'.get t=some (.cells (ob x).cells true es)→a'<N→L'.length=N→
   Fe (L'.set a' x) P' a'→Hp (L'.set a' x)→qq (L.set a x) (L'.set a' x)→Fr h h' [p,r]→Q (.exit 0) e' h')→
  VC fs ms B false (.loop gC) (ek 3 [(0,.ptr p 0),(1,.int .i64 ((a:Nat):Int)),(4,.ptr t 0)]) h Q:=by
 intro k;induction k using Nat.strongRecOn with
 |ind k ih=>
 intro a h L P hk hh Un ht ha hL hp hu hQ;have qH:a<L.length:=by omega
 have hdone:∀e',Tr.get e' 0=some (.ptr p 0)→Tr.get e' 1=some (.int .i64 ((a:Nat):Int))→Tr.get e' 4=some (.ptr t 0)→O1 (L.set a x) a→Q (.exit 0) e' h:=fun e' g0 g1 g4 hc=>
  hQ a h L P e' g0 g1 g4 hh ht ha hL hp (hu.full hc) (qq.refl _) (Fr.refl _ _)
 have hstep:∀m (h':Heap),m<N→(m-1)/2=a→0<m→ah (gI L m) x=true→(∀c,0<c→c<N→(c-1)/2=a→ah (gI L c) (gI L m)=false)→
   nA h' p r cap op (L.set a (gI L m)) (iz P (gI L m).1 (a+1)) rest→Fr h h' [p,r]→
   VC fs ms B false (.loop gC) (ek 3 [(0,.ptr p 0),(1,.int .i64 ((m:Nat):Int)),(4,.ptr t 0)]) h' Q:=by
  intro m h' hm hpa hm0 hs hmin CZ fr;have hne:m≠a:=by omega
  have hml:m<L.length:=by omega
  have Rh:(L.set a (gI L m)).set m x=uR (L.set a x) a m:=Kp qH hml hne;have j7:=hp.step (m:=m) (by rw[List.length_set];exact hml) hne;rw[j6 qH hne] at j7;have hdn:=hu.step (m:=m) (by rw[List.length_set];exact qH) hm0 (by rw[List.length_set];exact hml) hpa (by rw[oU qH,j6 qH hne];exact hs) (by
   intro c h0 hc FU;rw[List.length_set] at hc;rw[j6 qH (by omega),j6 qH hne];exact hmin c h0 (by omega) FU)
  refine ih (N-m) (by omega) m h' _ _ rfl CZ (Nat.lt_of_lt_of_le Un fr.next) (by rw[fr.keep t Un (by simp[tp,tr])];exact ht) hm (by simp[hL]) (by rw[Rh];exact j7) (by rw[Rh];exact hdn) ?_;intro a' h1 L1 P1 e1 g0 g1 g4 k1 k2 k3 k4 k5 k6 k7 k9;rw[Rh] at k7;exact hQ a' h1 L1 P1 e1 g0 g1 g4 k1 k2 k3 k4 k5 k6 ((B5 (by rw[List.length_set];exact qH) (by rw[List.length_set];exact hml)).trans k7) (fr.trans k9)
 clear ih hQ;have KL:∀m,m<N→m≠a→(gI L m).1<64:=by
  intro m hm hne;have:=hp.small m (by rw[List.length_set];omega);rw[j6 qH hne] at this;exact this
 refine cS (bx ?_);refine aF true ?_;conv=>whnf
 rw[Tx (by omega)];refine bu (VC.mono (Q:=fun x e1 h1=>x=.normal∧h1=h∧∃m,Tr.get e1 0=some (.ptr p 0)∧Tr.get e1 1=some (.int .i64 ((a:Nat):Int))∧Tr.get e1 4=some (.ptr t 0)∧Tr.get e1 5=some (.int .i64 ((m:Nat):Int))∧(m=2*a+1∨m=2*a+2)∧(N≤m→m=2*a+1)∧(m<N→∀c,0<c→c<N→(c-1)/2=a→ah (gI L c) (gI L m)=false)) ?_ ?_)
 ·refine aq (z:=true) ?_;generalize hK:(fun(x:AX) (e1:Env) (h1:Heap)=>x=.normal∧h1=h∧∃m,Tr.get e1 0=some (.ptr p 0)∧Tr.get e1 1=some (.int .i64 ((a:Nat):Int))∧Tr.get e1 4=some (.ptr t 0)∧Tr.get e1 5=some (.int .i64 ((m:Nat):Int))∧(m=2*a+1∨m=2*a+2)∧(N≤m→m=2*a+1)∧(m<N→∀c,0<c→c<N→(c-1)/2=a→ah (gI L c) (gI L m)=false))=K;conv=>whnf
  refine⟨_,hh.row,?_⟩;conv=>whnf
  rw[nP (by omega)];refine br (fun hc=>?_) (fun hc=>?_)<;>(try rw[hc])<;>(conv=>whnf)
  ·have hlt:2*a+1+1<L.length:=by have:=of_decide_eq_true hc;omega
   refine⟨_,hh.row,?_⟩;conv=>whnf
   rw[nP (by omega)];refine⟨_,aJ hlt,?_⟩;conv=>whnf
   refine⟨_,hh.one hlt,?_⟩;conv=>whnf
   refine⟨_,hh.row,?_⟩;conv=>whnf
   refine⟨_,aJ (by omega),?_⟩;conv=>whnf
   refine⟨_,hh.one (by omega),?_⟩;conv=>whnf
   refine aR (zc _ _) ?_;conv=>whnf
   have h1:2*a+1+1=2*a+2:=by omega
   refine br (fun hc=>?_) (fun hc=>?_)<;>(try rw[hc])<;>(conv=>whnf)
   ·have fV:=hc;rw[nP (by omega)];subst hK;refine⟨rfl,rfl,2*a+1+1,rfl,rfl,rfl,rfl,.inr rfl,by omega,fun _ c h0 Cj FU=>?_⟩;rcases(show c=2*a+1∨c=2*a+1+1 by omega) with rfl|rfl
    ·exact AA fV
    ·rw[mG];omega
   ·have fV:=hc;subst hK;refine⟨rfl,rfl,2*a+1,rfl,rfl,rfl,rfl,.inl rfl,by omega,fun _ c h0 Cj FU=>?_⟩;rcases(show c=2*a+1∨c=2*a+1+1 by omega) with rfl|rfl
    ·rw[mG];omega
    ·exact fV
  ·have hge:¬2*a+1+1<L.length:=by have:=of_decide_eq_false hc;omega
   subst hK;refine⟨rfl,rfl,2*a+1,rfl,rfl,rfl,rfl,.inl rfl,by omega,fun _ c h0 Cj FU=>?_⟩;rcases(show c=2*a+1 by omega) with rfl
   rw[mG];omega
 ·rintro x1 e1 h1 ⟨rfl,rfl,m,g0,g1,g4,g5,hm,hmN,hmin⟩;refine aH 3 [(0,.ptr p 0),(1,.int .i64 ((a:Nat):Int)),(4,.ptr t 0),(5,.int .i64 ((m:Nat):Int))] ⟨g0,g1,g4,g5,trivial⟩ (aq (z:=true) ?_);conv=>whnf
  refine⟨_,hh.row,?_⟩;conv=>whnf
  refine br (fun hc=>?_) (fun hc=>?_)<;>(try rw[hc])<;>(conv=>whnf)
  ·have hge:L.length≤m:=by have:=of_decide_eq_true hc;omega
   refine hdone _ rfl rfl rfl fun c h0 Cj FU=>?_;rw[List.length_set] at Cj;have:=hmN (by omega);omega
  ·have hlt:m<L.length:=by have:=of_decide_eq_false hc;omega
   refine⟨_,hh.row,?_⟩;conv=>whnf
   refine⟨_,aJ hlt,?_⟩;conv=>whnf
   refine⟨_,hh.one hlt,?_⟩;conv=>whnf
   refine⟨_,u0 ht (Nat.le_refl _),?_⟩;conv=>whnf
   refine aR (zc _ x) ?_;conv=>whnf
   refine br (fun hc=>?_) (fun hc=>?_)<;>(try rw[hc])<;>(conv=>whnf)
   ·have fV:ah (gI L m) x=false:=by simpa using hc
    have hs:∀c,0<c→c<N→(c-1)/2=a→ah (gI L c) x=false:=fun c h0 Cj FU=>xV (hmin (by omega) c h0 Cj FU) fV;refine hdone _ rfl rfl rfl fun c h0 Cj FU=>?_;rw[List.length_set] at Cj;rw[oU qH,j6 qH (by omega)];exact hs c h0 (by omega) FU
   ·have fV:ah (gI L m) x=true:=by simpa using hc
    refine⟨_,hh.row,?_⟩;conv=>whnf
    refine⟨_,aJ hlt,?_⟩;conv=>whnf
    refine⟨_,hh.one hlt,?_⟩;conv=>whnf
    refine Bz hh qH (KL m (by omega) (by omega)) (by omega) fun h' CZ fr=>?_;conv=>whnf
    refine aH 3 [(0,.ptr p 0),(1,.int .i64 ((m:Nat):Int)),(4,.ptr t 0)] ⟨rfl,rfl,rfl,trivial⟩ ?_;exact hstep m h' (by omega) (by omega) (by omega) fV (hmin (by omega)) CZ fr
theorem Qo{h:Heap}{p r cap:Nat}{op:Bool}{L:List Id}{P:Nat→Nat}{rest:List AV}{a:Nat}(hh:nA h p r cap op L P rest)(ha:a<L.length)(hN:L.length<2^60)(hp:Fe L P a)(hu:KB L a){Q:AV→Heap→Prop}
  (hQ:∀h' L' P',nA h' p r cap op L' P' rest→L'.length=L.length→s9 L' P'→Hp L'→qq L L'→Fr h h' [p,r]→Q (.cq []) h'):VD fs ms 182 [.ptr p 0,.int .i64 ((a:Nat):Int)] h Q:=by
 refine bY (af:=Mf) rfl (Nat.le_of_ble_eq_true rfl) ?_;conv=>whnf
 refine aF true ?_;conv=>whnf
 refine⟨_,hh.row,?_⟩;conv=>whnf
 refine⟨_,aJ ha,?_⟩;conv=>whnf
 refine⟨_,hh.one ha,?_⟩;conv=>whnf
 refine⟨_,_,bq aj rfl (Nat.le_refl _) rfl,?_⟩;conv=>whnf
 refine bu (bx ?_);refine aH 3 [(0,.ptr p 0),(1,.int .i64 ((a:Nat):Int)),(4,.ptr h.next 0)] ⟨rfl,rfl,rfl,trivial⟩ ?_;have n1:h.next≠p:=by have:=hh.lp;omega
 have n2:h.next≠r:=by have:=hh.lr;omega
 refine FB (x:=gI L a) (N:=L.length) hN n1 n2 _ _ a _ L P rfl ((hh.new _).set _ n1 n2) (Nat.lt_succ_self _) (by rw[ay];rfl) ha rfl (by rw[tV ha];exact hp) (by rw[tV ha];exact hu) ?_;intro a' h1 L1 P1 e1 g0 g1 g4 k1 k2 k3 k4 k5 k6 k7 k9;rw[tV ha] at k7;show VC fs ms _ _ _ _ _ _;refine aH 3 [(0,.ptr p 0),(1,.int .i64 ((a':Nat):Int)),(4,.ptr h.next 0)] ⟨g0,g1,g4,trivial⟩ (aq (z:=true) ?_);conv=>whnf
 refine⟨_,u0 k2 (Nat.le_refl _),?_⟩;conv=>whnf
 have KL:(gI L a).1<64:=hp.small a ha;have qH:a'<L1.length:=by omega
 refine Bz (x:=gI L a) k1 qH KL (by omega) fun h2 Ee ey=>?_;conv=>whnf
 have jr:=k5.fill;rw[oU qH] at jr;refine hQ h2 _ _ Ee (by rw[List.length_set];exact k4) jr k6 k7 ?_;exact(((Fr.refl h [p,r]).new (x:=_)).ki (Nat.le_refl _)).trans (k9.trans ey)
theorem s9.vac{L:List Id}{P:Nat→Nat}(h:s9 L P){a:Nat}(ha:a<L.length):Fe L P a:=⟨ha,h.small,h.tu,fun i hi _=>h.pl i hi,fun d hd _ hp=>h.back d hd hp⟩
theorem Jq{b n cap k size:Nat}{op:Bool}(h:k≤cap):pV (.slice size false true false) [.sl b 0 n cap op,.int .i64 ((k:Nat):Int)]=some (.sl b 0 k cap op):=by
 have b1:Nat.ble k cap=true:=Nat.ble_eq_true_of_le h;have b2:Nat.ble cap cap=true:=Nat.ble_eq_true_of_le (Nat.le_refl _);have b3:bounds n cap false true false [.int .i64 ((k:Nat):Int)]=some (0,k,cap):=by
  show cond (Nat.ble 0 k&&Nat.ble k cap&&Nat.ble cap cap) (some (0,k,cap)) none=_;rw[b1,b2];rfl
 show lS size false true false (.sl b 0 n cap op) [.int .i64 ((k:Nat):Int)]=_;simp only[lS,KD,b3];have b4:(Nat.beq cap 0&&Nat.beq cap cap&&(op&&!false&&!Nat.beq 0 0))=false:=by
  have:(op&&!false&&!Nat.beq 0 0)=false:=by cases op<;>rfl
  rw[this,Bool.and_false]
 rw[b4,cond_false,Nat.zero_mul];have b5:(cond (Nat.beq cap 0) 0 0)=0:=by cases Nat.beq cap 0<;>rfl
 rw[b5];rfl
theorem Ji(L M:List Id):oc (L++M)=oc L++oc M:=by simp[oc,obs,aa]
theorem Dh(x:Id):oc [x]=(ob x).cells:=by simp[oc,obs,aa]
theorem eo{M:List Id}{x:Id}{i:Nat}(h:i<M.length):gI (M++[x]) i=gI M i:=by
 rw[j5 (by rw[List.length_append];omega),j5 h,List.getElem_append_left h]
theorem iE{M:List Id}{x:Id}:gI (M++[x]) M.length=x:=by
 rw[j5 (by rw[List.length_append];exact Nat.lt_succ_self _)];simp
theorem iF{L:List Id}{y:Id}:y∈L↔∃i,i<L.length∧gI L i=y:=by
 rw[List.mem_iff_getElem];constructor
 ·rintro⟨i,h,e⟩;exact⟨i,h,by rw[j5 h,e]⟩
 ·rintro⟨i,h,e⟩;exact⟨i,h,by rw[←j5 h,e]⟩
theorem qq.mem{L M:List Id}(h:qq L M){y:Id}:y∈M↔y∈L:=by rw[iF,iF];exact(h.2 y).symm
theorem nA.ZN{h:Heap}{p r cap:Nat}{op:Bool}{L:List Id}{P:Nat→Nat}{rest:List AV}(hh:nA h p r cap op L P rest){i:Nat}(hi:i<64)(v:Nat){es:Nat}(he:es=0):
  nA (h.set p (.cells (Heap.splice (.sl r 0 L.length cap op::EF P) (1+i*1) [.int .i64 ((v:Nat):Int)]) true es)) p r cap op L (iz P i v) rest:=by
 subst he;exact⟨by rw[ay,EG hi],by rw[aX hh.ne.symm];exact hh.hr,hh.ne,hh.lp,hh.lr⟩
theorem nA.pop{h:Heap}{p r cap:Nat}{op:Bool}{M:List Id}{x:Id}{P:Nat→Nat}{rest:List AV}(hh:nA h p r cap op (M++[x]) P rest){es:Nat}(he:es=0):
  nA (h.set p (.cells (Heap.splice (.sl r 0 (M++[x]).length cap op::EF P) 0 [.sl r 0 M.length cap op]) true es)) p r cap op M P ((ob x).cells++rest):=by
 subst he;refine⟨?_,?_,hh.ne,hh.lp,hh.lr⟩
 ·rw[ay];show some (dD.cells (.sl r 0 M.length cap op::Heap.splice (EF P) 0 []) true 0)=_;rw[er]
 ·rw[aX hh.ne.symm,hh.hr,Ji,Dh,List.append_assoc]
theorem HH{M:List Id}{x:Id}{P:Nat→Nat}(hf:s9 (M++[x]) P):s9 M (iz P x.1 0):=by
 have hl:(M++[x]).length=M.length+1:=by simp
 have hx:=hf.pl M.length (by omega);rw[iE] at hx;refine⟨fun i hi=>?_,fun i hi=>?_,fun d hd hp=>?_⟩
 ·rw[←eo (x:=x) hi];exact hf.small i (by omega)
 ·have:=hf.pl i (by omega);rw[eo hi] at this;unfold iz;rw[if_neg (by intro e;rw[e] at this;omega)];exact this
 ·unfold iz at hp⊢;split at hp
  ·omega
  ·rename_i hne;rw[if_neg hne];have hb:=hf.back d hd hp;rw[hl] at hb;have:P d≠M.length+1:=by
    intro e;rw[e] at hb;have e2:=hb.2;rw[show M.length+1-1=M.length by omega,iE] at e2;exact hne e2.symm
   refine⟨by omega,?_⟩;rw[←eo (x:=x) (by omega)];exact hb.2
theorem ID{M:List Id}{x:Id}(h:Hp (M++[x])):Hp M:=by
 intro i h0 hi;have:=h i h0 (by simp;omega)
 rwa [eo hi,eo (by omega)] at this
theorem MP{M:List Id}{x:Id}{P:Nat→Nat}{a:Nat}(ha:a<M.length)(hf:s9 (M++[x]) P):s9 (M.set a x) (iz (iz P (gI M a).1 0) x.1 (a+1)):=by
 have hl:(M++[x]).length=M.length+1:=by simp
 have hx:=hf.pl M.length (by omega);rw[iE] at hx;have hA:=hf.pl a (by omega);rw[eo ha] at hA;refine⟨fun i hi=>?_,fun i hi=>?_,fun d hd hp=>?_⟩
 ·rw[q7 ha];split
  ·have:=hf.small M.length (by omega)
   rwa [iE] at this
  ·rw[List.length_set] at hi;rw[←eo (x:=x) hi];exact hf.small i (by omega)
 ·rw[List.length_set] at hi;rw[q7 ha];unfold iz;split
  ·rename_i e;rw[if_pos rfl,e]
  ·rename_i e;have:=hf.pl i (by omega);rw[eo hi] at this;rw[if_neg (by intro e;rw[e] at this;omega),if_neg (by intro e;rw[e] at this;omega)];exact this
 ·rw[List.length_set];unfold iz at hp⊢;by_cases e:d=x.1
  ·rw[if_pos e];refine⟨by omega,?_⟩;rw[show a+1-1=a by omega,oU ha,e]
  ·rw[if_neg e] at hp⊢;by_cases e2:d=(gI M a).1
   ·rw[if_pos e2] at hp;omega
   ·rw[if_neg e2] at hp⊢;have hb:=hf.back d hd hp;rw[hl] at hb;have n1:P d≠M.length+1:=by
     intro e3;rw[e3] at hb;have e4:=hb.2;rw[show M.length+1-1=M.length by omega,iE] at e4;exact e e4.symm
    have n2:P d-1≠a:=by
     intro e3;have e4:=hb.2;rw[e3,eo ha] at e4;exact e2 e4.symm
    refine⟨by omega,?_⟩;rw[j6 ha n2,←eo (x:=x) (by omega)];exact hb.2
theorem MN{M:List Id}{x:Id}{a:Nat}(ha:a<M.length)(h:Hp (M++[x])):Mm (M.set a x) a:=by
 have h:=ID h;refine⟨fun i h0 hi h1 h2=>?_,fun c h0 hc hp h1=>?_⟩
 ·rw[j6 ha h1,j6 ha h2];exact h i h0 (by simpa using hi)
 ·rw[List.length_set] at hc;rw[j6 ha (by omega),j6 ha (by omega)];have k1:=h c h0 hc;have k2:=h a h1 ha;rw[hp] at k1;exact xV k1 k2
theorem MO{M:List Id}{x:Id}{P:Nat→Nat}{a:Nat}(ha:a<M.length)(hf:s9 (M++[x]) P)(y:Id):y∈M.set a x↔y∈M++[x]∧y.1≠(gI (M++[x]) a).1:=by
 have hl:(M++[x]).length=M.length+1:=by simp
 rw[iF,iF];constructor
 ·rintro⟨i,hi,e⟩;rw[List.length_set] at hi;rw[q7 ha] at e;split at e
  ·subst e;refine⟨⟨M.length,by omega,iE⟩,fun e2=>?_⟩;have:=hf.tu M.length a (by omega) (by omega) (by rw[iE];exact e2);omega
  ·rename_i hne;subst e;refine⟨⟨i,by omega,eo hi⟩,fun e2=>?_⟩;rw[←eo (x:=x) hi] at e2;exact hne (hf.tu i a (by omega) (by omega) e2)
 ·rintro⟨⟨i,hi,e⟩,hne⟩;by_cases h1:i=M.length
  ·subst h1;rw[iE] at e;exact⟨a,by rw[List.length_set];exact ha,by rw[oU ha,e]⟩
  ·refine⟨i,by rw[List.length_set];omega,?_⟩;rw[j6 ha,←eo (x:=x) (by omega),e];rintro rfl;rw[e] at hne;exact hne rfl
theorem I3{M:List Id}{x:Id}{P:Nat→Nat}(hf:s9 (M++[x]) P)(y:Id):y∈M↔y∈M++[x]∧y.1≠(gI (M++[x]) M.length).1:=by
 have hl:(M++[x]).length=M.length+1:=by simp
 rw[iE];constructor
 ·intro h;refine⟨List.mem_append_left _ h,fun e=>?_⟩;obtain⟨i,hi,e2⟩:=iF.1 h;have:=hf.tu i M.length (by omega) (by omega) (by rw[eo hi,iE,e2,e]);omega
 ·rintro⟨h,hne⟩;rcases List.mem_append.1 h with h|h
  ·exact h
  ·simp at h;subst h;exact absurd rfl hne
end Ir
end Go.Proofs.YtnlcabhfkpafmaaGreat
namespace Go.Proofs.YtnlcabhfkpafmaaGreat
open Go Ads
namespace Ads
end Ads
namespace Ir
theorem BB{M:List Id}{x:Id}:IntKind.i64.wrap (((M++[x]).length:Int)-1)=((M.length:Nat):Int)∨2^62≤M.length:=by
 by_cases h:M.length<2^62
 ·left;rw[List.length_append,show(((M.length+[x].length:Nat)):Int)-1=((M.length:Nat):Int) by simp,kq (by omega)]
 ·right;omega
theorem Tv{h:Heap}{p r cap:Nat}{op:Bool}{M:List Id}{x:Id}{P:Nat→Nat}{rest:List AV}{a:Nat}(hh:nA h p r cap op (M++[x]) P rest)(ha:a<M.length+1)(hN:M.length+1<2^60)(hc:M.length+1≤cap)(hf:s9 (M++[x]) P)(hp:Hp (M++[x])){Q:AV→Heap→Prop}
  (hQ:∀h' L' P',nA h' p r cap op L' P' ((ob x).cells++rest)→L'.length=M.length→s9 L' P'→Hp L'→(∀y,y∈L'↔y∈M++[x]∧y.1≠(gI (M++[x]) a).1)→Fr h h' [p,r]→Q (.cq []) h'):VD fs ms 167 [.ptr p 0,.int .i64 ((a:Nat):Int)] h Q:=by
 have hl:(M++[x]).length=M.length+1:=by simp
 have hlp:=(BB (M:=M) (x:=x)).resolve_right (by omega);refine ak (af:=LU) true rfl (Nat.le_of_ble_eq_true rfl) ?_;conv=>whnf
 refine⟨_,hh.row,?_⟩;conv=>whnf
 refine⟨_,hh.row,?_⟩;conv=>whnf
 rw[hlp];refine⟨_,aJ (by omega),?_⟩;conv=>whnf
 refine⟨_,hh.one (by omega),?_⟩;conv=>whnf
 rw[iE];have n1:h.next≠p:=by have:=hh.lp;omega
 have n2:h.next≠r:=by have:=hh.lr;omega
 refine bW (bq aj rfl (Nat.le_refl _) rfl) fun h1 e1=>?_;conv=>whnf
 have FN:nA h1 p r cap op (M++[x]) P rest:=by rw[e1];exact(hh.new _).set _ n1 n2
 have q8:h1.get h.next=some (.cells (ob x).cells true 0):=by rw[e1,ay];rfl
 have dy:Fr h h1 [p,r]:=by rw[e1];exact((Fr.refl h [p,r]).new (x:=_)).ki (Nat.le_refl _)
 have lt1:h.next<h1.next:=by rw[e1];exact Nat.lt_succ_self _
 clear e1;refine⟨_,FN.row,?_⟩;conv=>whnf
 refine⟨_,aJ (by omega),?_⟩;conv=>whnf
 refine⟨_,FN.id (by omega),?_⟩;conv=>whnf
 have KL:=hf.small a (by omega);refine⟨_,sw (o:=1) KL,?_⟩;conv=>whnf
 refine bW (bq FN.hp rfl (by rw[List.length_cons,nW];show 1+(gI (M++[x]) a).1*1+1≤_;omega) rfl) fun h2 e2=>?_;conv=>whnf
 have Ee:nA h2 p r cap op (M++[x]) (iz P (gI (M++[x]) a).1 0) rest:=by rw[e2];exact FN.ZN KL 0 rfl
 have kO:h2.get h.next=some (.cells (ob x).cells true 0):=by rw[e2,aX n1];exact q8
 have ey:Fr h h2 [p,r]:=by rw[e2];exact dy.set (by simp)
 have lt2:h.next<h2.next:=by rw[e2];exact lt1
 clear e2;refine⟨_,Ee.row,?_⟩;conv=>whnf
 refine⟨_,Jq (by omega),?_⟩;conv=>whnf
 refine bW (bq Ee.hp rfl (by rw[List.length_cons];show 0+1≤_;omega) rfl) fun h3 e3=>?_;conv=>whnf
 have hh3:nA h3 p r cap op M (iz P (gI (M++[x]) a).1 0) ((ob x).cells++rest):=by rw[e3];exact Ee.pop rfl
 have TJ:h3.get h.next=some (.cells (ob x).cells true 0):=by rw[e3,aX n1];exact kO
 have gx:Fr h h3 [p,r]:=by rw[e3];exact ey.set (by simp)
 have lt3:h.next<h3.next:=by rw[e3];exact lt2
 clear e3;refine br (fun hc=>?_) (fun hc=>?_)<;>(try rw[hc])<;>(conv=>whnf)
 ·have fV:a=M.length:=by simp at hc;omega
  subst fV;refine hQ h3 M _ hh3 rfl ?_ (ID hp) (I3 hf) gx;rw[iE];exact HH hf
 ·have fV:a≠M.length:=by simp at hc;omega
  have Pm:a<M.length:=by omega
  refine⟨_,u0 TJ (Nat.le_refl _),?_⟩;conv=>whnf
  have hxs:x.1<64:=by have:=hf.small M.length (by omega);rwa [iE] at this
  refine Bz (x:=x) hh3 Pm hxs (by omega) fun h4 T5 jL=>?_;conv=>whnf
  have YK:h4.get h.next=some (.cells (ob x).cells true 0):=by rw[jL.keep _ lt3 (by simp[n1,n2])];exact TJ
  rw[eo Pm] at T5;have hpf:=MP Pm hf;refine UT T5 (by rw[List.length_set];exact Pm) (by rw[List.length_set];omega) (hpf.vac (by rw[List.length_set];exact Pm)) (MN Pm hp) fun h5 L5 P5 a5 hh5 k1 k2 k3 k4 k5 k6 k7 CM=>?_;conv=>whnf
  rw[List.length_set] at k1;have SL:h5.get h.next=some (.cells (ob x).cells true 0):=by rw[CM.keep _ (Nat.lt_of_lt_of_le lt3 jL.next) (by simp[n1,n2])];exact YK
  refine⟨_,aT SL rfl,?_⟩;conv=>whnf
  refine⟨_,sw (o:=1) hxs,?_⟩;conv=>whnf
  refine⟨_,hh5.place hxs,?_⟩;conv=>whnf
  have hpa:=k3.pl a5 k2;rw[k5,oU Pm] at hpa;rw[hpa,show IntKind.i64.wrap (((a5+1:Nat):Int)-1)=((a5:Nat):Int) by rw[show((a5+1:Nat):Int)-1=((a5:Nat):Int) by omega,kq (by omega)]];refine Qo hh5 k2 (by omega) (k3.vac k2) k4 fun h6 L6 P6 hh6 j1 j2 j3 j4 CN=>?_;conv=>whnf
  refine hQ h6 L6 P6 hh6 (by omega) j2 j3 (fun y=>?_) (gx.trans (jL.trans (CM.trans CN)));rw[j4.mem,k6.mem];exact MO Pm hf y
theorem pig:∀(n:Nat) (l:List Nat),l.Nodup→(∀x∈l,x<n)→l.length≤n:=by
 intro n;induction n with
 |zero=>
  intro l _ h;cases l with
  |nil=>simp
  |cons x l=>exact absurd (h x (by simp)) (by omega)
 |succ n ih=>
  intro l hn h;by_cases hm:n∈l
  ·have h1:=ih (l.erase n) (hn.erase n) (by
    intro x hx;have h2:=(List.Nodup.mem_erase_iff hn).1 hx;have:=h x h2.2;have:=h2.1;omega)
   rw[List.length_erase_of_mem hm] at h1;omega
  ·have:=ih l hn (by
    intro x hx;have:=h x hx;have:x≠n:=by rintro rfl;exact hm hx
    omega)
   omega
theorem s9.nodup{L:List Id}{P:Nat→Nat}(h:s9 L P):(L.map (·.1)).Nodup:=by
 show List.Pairwise (· ≠·) _;rw[List.pairwise_iff_getElem];intro i j hi hj hij e;rw[List.length_map] at hi hj;rw[List.getElem_map,List.getElem_map] at e;have:=h.tu i j hi hj (by rw[j5 hi,j5 hj];exact e);omega
theorem s9.len{L:List Id}{P:Nat→Nat}(h:s9 L P){n:Nat}(hn:∀y∈L,y.1<n):L.length≤n:=by
 have:=pig n (L.map (·.1)) h.nodup (by
  intro x hx;obtain⟨y,hy,rfl⟩:=List.mem_map.1 hx;exact hn y hy)
 rwa [List.length_map] at this
theorem s9.BA{L:List Id}{P:Nat→Nat}(h:s9 L P):L.length≤64:=h.len fun y hy=>by
 obtain⟨i,hi,rfl⟩:=iF.1 hy;exact h.small i hi
theorem s9.uniq{L:List Id}{P:Nat→Nat}(h:s9 L P){x y:Id}(hx:x∈L)(hy:y∈L)(e:x.1=y.1):x=y:=by
 obtain⟨i,hi,rfl⟩:=iF.1 hx;obtain⟨j,hj,rfl⟩:=iF.1 hy;rw[h.tu i j hi hj e]
theorem s9.no{L:List Id}{P:Nat→Nat}(h:s9 L P){i:Nat}(h0:P i=0):∀y∈L,y.1≠i:=by
 intro y hy e;obtain⟨j,hj,rfl⟩:=iF.1 hy;have:=h.pl j hj;rw[e] at this;omega
def Row(h:Heap)(k p:Nat)(S:List Nat)(L:List Id)(P:Nat→Nat):Prop:=
 (L=[]∧S=[k,p]∧h.get p=some (.cells (.aL::EF P) true 0))∨
 ∃r cap rest,S=[k,p,r]∧r≠k∧L.length*2+rest.length=cap*2∧nA h p r cap true L P rest
structure xS(h:Heap)(k p:Nat)(S:List Nat)(L:List Id)(P:Nat→Nat):Prop where
 hk:h.get k=some (.cells [.ptr p 0] true 0)
 ne:k≠p
 lk:k<h.next
 lp:p<h.next
 row:Row h k p S L P
 pl:s9 L P
 hp:Hp L
structure Own(h h':Heap)(S S':List Nat):Prop where
 fr:Fr h h' S
 new:∀b∈S',b∈S∨h.next≤b
theorem Dg{h:Heap}{k p:Nat}{S:List Nat}{L:List Id}{P:Nat→Nat}(hr:xS h k p S L P){Q:AV→Heap→Prop}(hQ:Q (.bool false) h):VD fs ms 151 [.ptr k 0] h Q:=by
 refine ak (af:=LD) true rfl (Nat.le_of_ble_eq_true rfl) ?_;conv=>whnf
 refine⟨_,aT hr.hk rfl,?_⟩;conv=>whnf
 exact hQ
theorem DT{h:Heap}{k p:Nat}{S:List Nat}{L:List Id}{P:Nat→Nat}(hr:xS h k p S L P)(id:Int){Q:AV→Heap→Prop}(hQ:Q (.int .i64 (if id<0∨64≤id then 9 else 0)) h):VD fs ms 172 [.ptr k 0,.int .i64 id] h Q:=by
 refine ak (af:=LZ) true rfl (Nat.le_of_ble_eq_true rfl) ?_;conv=>whnf
 refine Dg hr ?_;conv=>whnf
 refine br (fun hc=>?_) (fun hc=>?_)<;>(try rw[hc])<;>(conv=>whnf)
 ·have:id<0:=of_decide_eq_true hc;rw[if_pos (.inl this)] at hQ;exact hQ
 ·have h1:¬id<0:=of_decide_eq_false hc;refine br (fun hc=>?_) (fun hc=>?_)<;>(try rw[hc])<;>(conv=>whnf)
  ·have:64≤id:=of_decide_eq_true hc;rw[if_pos (.inr this)] at hQ;exact hQ
  ·have h2:¬64≤id:=of_decide_eq_false hc;rw[if_neg (by omega)] at hQ;exact hQ
theorem Row.place{h:Heap}{k p:Nat}{S:List Nat}{L:List Id}{P:Nat→Nat}(hr:Row h k p S L P){i:Nat}(hi:i<64):rV .ck [.ptr p (1+i*1)] h=some (.int .i64 ((P i:Nat):Int)):=by
 rcases hr with⟨_,_,hg⟩|⟨r,cap,rest,_,_,_,hh⟩
 ·refine aT hg ?_;rw[show 1+i*1=i+1 by omega,List.getElem?_cons_succ];exact vi hi
 ·exact hh.place hi
theorem Tp{h:Heap}{k p:Nat}{S:List Nat}{L:List Id}{P:Nat→Nat}(hr:xS h k p S L P)(id:Int){Q:AV→Heap→Prop}(h1:id<0∨64≤id→Q (.cq [.int .i64 0,.bool false]) h)
  (h2:∀i:Nat,id=i→i<64→P i=0→Q (.cq [.int .i64 (-1),.bool false]) h)
  (h3:∀i j:Nat,id=i→i<64→j<L.length→P i=j+1→(gI L j).1=i→Q (.cq [.int .i64 ((j:Nat):Int),.bool true]) h):VD fs ms 166 [.ptr k 0,.int .i64 id] h Q:=by
 refine ak (af:=LS) true rfl (Nat.le_of_ble_eq_true rfl) ?_;conv=>whnf
 refine DT hr id ?_;conv=>whnf
 by_cases hb:id<0∨64≤id
 ·rw[if_pos hb];conv=>whnf
  exact h1 hb
 ·rw[if_neg hb];conv=>whnf
  obtain⟨i,rfl⟩:∃i:Nat,id=i:=⟨id.toNat,by omega⟩;have hi:i<64:=by omega
  refine⟨_,aT hr.hk rfl,?_⟩;conv=>whnf
  refine⟨_,sw (o:=1) hi,?_⟩;conv=>whnf
  refine⟨_,hr.row.place hi,?_⟩;conv=>whnf
  refine⟨_,aT hr.hk rfl,?_⟩;conv=>whnf
  refine⟨_,sw (o:=1) hi,?_⟩;conv=>whnf
  refine⟨_,hr.row.place hi,?_⟩;conv=>whnf
  by_cases h0:P i=0
  ·have:=h2 i rfl hi h0;rw[h0];exact this
  ·have hb:=hr.pl.back i hi (by omega);have hle:=hr.pl.BA;obtain⟨j,hj⟩:∃j,P i=j+1:=⟨P i-1,by omega⟩;rw[hj] at hb⊢;have:=h3 i j rfl hi (by omega) hj hb.2;rw[show IntKind.i64.wrap (((j+1:Nat):Int)-1)=((j:Nat):Int) by rw[show((j+1:Nat):Int)-1=((j:Nat):Int) by omega,kq (by omega)],show decide ((0:Int)<((j+1:Nat):Int))=true from decide_eq_true (by omega)];exact this
end Ir
end Go.Proofs.YtnlcabhfkpafmaaGreat
namespace Go.Proofs.YtnlcabhfkpafmaaGreat
open Go Ads
namespace Ads
theorem ep{h:Heap}{b c:Nat}(hn:c≠b):(h.del b).get c=h.get c:=by rw[Heap.cL,if_neg hn]
theorem ql{h:Heap}{b s n cap:Nat}{op wr:Bool}{es:Nat}{cs:List AV}(hg:h.get b=some (.cells cs wr es))(hl:cs.length=n*s):dm s h (.sl b 0 n cap op)=some (n,cs):=by
 have b1:Nat.ble (0+n*s) cs.length=true:=Nat.ble_eq_true_of_le (by omega);show(h.aZ b 0 (n*s)).map _=_;have:h.aZ b 0 (n*s)=some cs:=by
  simp only[Heap.aZ,Heap.row,hg,b1,cond_true,List.drop_zero];rw[←hl,List.take_length]
 rw[this];rfl
theorem mT{h:Heap}{s bytes b m:Nat}{vs cs:List AV}{x:AV}(hg:h.get b=some (.cells vs true s))(hv:vs.length=m*s)(hsrc:dm s h x=some (1,cs))(hf:bA cs=true)(hb:bytes≤1048576)(hm:m≤1048576):
  eV (.append s bytes) [.sl b 0 m m true,x] h=some (.sl h.next 0 (m+1) (m+1) true,(h.del b).new (.cells (vs++cs) true s)):=by
 have hmu:(m+1)*bytes≤1048577*1048576:=Nat.mul_le_mul (by omega) hb;have b1:Nat.ble (m+1) m=false:=by cases hb:Nat.ble (m+1) m with|false=>rfl|true=>(have:=Nat.le_of_ble_eq_true hb;omega)
 have b2:Nat.ble ((m+1)*bytes) 140737488355328=true:=Nat.ble_eq_true_of_le (by omega);have b3:Nat.ble (m+1) 9223372036854775807=true:=Nat.ble_eq_true_of_le (by omega);have b4:Nat.ble (0+m*s) vs.length=true:=Nat.ble_eq_true_of_le (by omega);have b5:Nat.beq vs.length (0+m*s)=true:=by rw[hv,Nat.zero_add];exact Nat.beq_refl _
 have oB:h.aZ b 0 (m*s)=some vs:=by
  simp only[Heap.aZ,Heap.row,hg,b4,cond_true,List.drop_zero];rw[←hv,List.take_length]
 simp only[eV,l2,hsrc];show cond (bA cs) _ _=_;rw[hf,cond_true];show cond (Nat.beq 1 0&&Nat.ble m m) _ _=_;rw[show Nat.beq 1 0=false from rfl,Bool.false_and,cond_false,b1,cond_false,b2,b3,Bool.and_self,cond_true,hg,oB];show cond true (cond (true&&Nat.beq vs.length (0+m*s)&&Nat.beq m m&&Nat.beq s s) _ _) _=_;rw[b5,Nat.beq_refl,Nat.beq_refl];rfl
end Ads
namespace Ir
theorem Row.app{h:Heap}{k p:Nat}{S:List Nat}{L:List Id}{P:Nat→Nat}(hr:Row h k p S L P)(kp:k≠p)(lk:k<h.next)(lp:p<h.next)(SJ:L.length≤64)(x:Id){src:AV}{Qa:Nat}{op wr:Bool}{es:Nat}(hs:src=.sl h.next 0 1 Qa op){g:Heap}(hg:g=h.new (.cells (ob x).cells wr es)):
  ∃rv,h.get p=some (.cells (rv::EF P) true 0)∧∃ZM g',eV (.append 2 16) [rv,src] g=some (ZM,g')∧Fr h g' S∧g'.get k=h.get k∧g'.get p=h.get p∧h.next≤g'.next∧
   ∃r cap rest,ZM=.sl r 0 (L.length+1) cap true∧r≠k∧r≠p∧r<g'.next∧g'.get r=some (.cells (oc (L++[x])++rest) true 2)∧(L.length+1)*2+rest.length=cap*2∧(r∈S∨h.next≤r):=by
 subst hs;have hsrc:dm 2 g (.sl h.next 0 1 Qa op)=some (1,(ob x).cells):=ql (by rw[hg];exact aj) rfl;have gn:g.next=h.next+1:=by rw[hg];rfl
 have TA:Fr h g S:=by rw[hg];exact(Fr.refl h S).new
 rcases hr with⟨hL,hS,hp⟩|⟨r,cap,rest,hS,Zp,hcap,hh⟩
 ·subst hL;refine⟨.aL,hp,.sl g.next 0 1 1 true,g.new (.cells (ob x).cells true 2),mV (nx:=g.next) (tr:=g.m) (by omega) hsrc rfl,TA.new,?_,?_,?_,g.next,1,[],rfl,by omega,by omega,Nat.lt_succ_self _,?_,rfl,.inr (by omega)⟩
  ·rw[aA (by omega),hg,aA lk]
  ·rw[aA (by omega),hg,aA lp]
  ·show h.next≤g.next+1;omega
  ·rw[aj];simp[Dh]
 ·have gZ:h.get p=some (.cells (.sl r 0 L.length cap true::EF P) true 0):=hh.hp;have C2:=nS L;have Bk:g.get r=some (.cells (oc L++rest) true 2):=by rw[hg,aA hh.lr];exact hh.hr
  have Zo:r∈S:=by rw[hS];simp
  have IG:=hh.ne;have hlr:=hh.lr;by_cases hroom:L.length<cap
  ·have CS:=PZ (bytes:=16) (nx:=g.next) (tr:=g.m) (op:=true) (l:=obs L) (rest:=rest) (y:=ob x) Bk rfl (sS L) (Ev L).symm hroom (by omega) hsrc rfl rfl;refine⟨_,gZ,_,_,CS,?_,?_,?_,?_,r,cap,rest.drop 2,rfl,Zp,IG.symm,?_,?_,?_,.inl Zo⟩
   ·exact Fr.set (h1:=g) TA Zo
   ·rw[show Heap.get (⟨g.next,Tr.set g.m r (.cells (aa (obs L++[ob x])++rest.drop 2) true 2)⟩:Heap) k=(g.set r (.cells (aa (obs L++[ob x])++rest.drop 2) true 2)).get k from rfl,aX (Ne.symm Zp),hg,aA lk]
   ·rw[show Heap.get (⟨g.next,Tr.set g.m r (.cells (aa (obs L++[ob x])++rest.drop 2) true 2)⟩:Heap) p=(g.set r (.cells (aa (obs L++[ob x])++rest.drop 2) true 2)).get p from rfl,aX IG,hg,aA lp]
   ·show h.next≤g.next;omega
   ·show r<g.next;omega
   ·rw[show Heap.get (⟨g.next,Tr.set g.m r (.cells (aa (obs L++[ob x])++rest.drop 2) true 2)⟩:Heap) r=(g.set r (.cells (aa (obs L++[ob x])++rest.drop 2) true 2)).get r from rfl,ay];simp[oc,obs]
   ·rw[List.length_drop];omega
  ·have hc:cap=L.length:=by omega
   have GQ:rest=[]:=List.eq_nil_of_length_eq_zero (by omega);subst GQ;subst hc;rw[List.append_nil] at Bk;refine⟨_,gZ,_,_,mT (bytes:=16) Bk C2 hsrc rfl (by omega) (by omega),?_,?_,?_,?_,g.next,L.length+1,[],rfl,by omega,by omega,Nat.lt_succ_self _,?_,by simp,.inr (by omega)⟩
   ·refine⟨?_,fun c hc hn=>?_⟩
    ·show h.next≤g.next+1;omega
    ·rw[aA (show c<(g.del r).next by show c<g.next;omega),ep (by rintro rfl;exact hn Zo)];exact TA.keep c hc hn
   ·rw[aA (show k<(g.del r).next by show k<g.next;omega),ep (Ne.symm Zp),hg,aA lk]
   ·rw[aA (show p<(g.del r).next by show p<g.next;omega),ep IG,hg,aA lp]
   ·show h.next≤g.next+1;omega
   ·rw[show g.next=(g.del r).next from rfl,aj,List.append_nil,Ji,Dh]
theorem xS.own{h:Heap}{k p:Nat}{S:List Nat}{L:List Id}{P:Nat→Nat}(hr:xS h k p S L P):k∈S∧p∈S∧∀b∈S,b<h.next:=by
 rcases hr.row with⟨_,hS,_⟩|⟨r,cap,rest,hS,_,_,hh⟩
 ·subst hS;refine⟨by simp,by simp,fun b hb=>?_⟩;simp at hb;rcases hb with rfl|rfl
  ·exact hr.lk
  ·exact hr.lp
 ·subst hS;refine⟨by simp,by simp,fun b hb=>?_⟩;simp at hb;rcases hb with rfl|rfl|rfl
  ·exact hr.lk
  ·exact hr.lp
  ·exact hh.lr
theorem N1{L:List Id}{P:Nat→Nat}{x:Id}(hf:s9 L P)(hx:x.1<64)(h0:P x.1=0):Fe (L++[x]) P L.length:=by
 have hl:(L++[x]).length=L.length+1:=by simp
 refine⟨by omega,fun i hi=>?_,fun i j hi hj he=>?_,fun i hi hn=>?_,fun d hd hn hp=>?_⟩
 ·by_cases h:i=L.length
  ·subst h;rw[iE];exact hx
  ·rw[eo (by omega)];exact hf.small i (by omega)
 ·have key:∀i,i<L.length→(gI L i).1=x.1→False:=by
   intro i hi e;have:=hf.pl i hi;rw[e] at this;omega
  by_cases h1:i=L.length
  ·subst h1;by_cases h2:j=L.length
   ·exact h2.symm
   ·rw[iE,eo (by omega)] at he;exact(key j (by omega) he.symm).elim
  ·rw[eo (by omega)] at he;by_cases h2:j=L.length
   ·subst h2;rw[iE] at he;exact(key i (by omega) he).elim
   ·rw[eo (by omega)] at he;exact hf.tu i j (by omega) (by omega) he
 ·rw[eo (by omega)];exact hf.pl i (by omega)
 ·have hb:=hf.back d hd hp;refine⟨by omega,?_⟩;rw[eo (by omega)];exact hb.2
theorem Nl{L:List Id}{x:Id}(h:Hp L):Mm (L++[x]) L.length:=by
 have hl:(L++[x]).length=L.length+1:=by simp
 refine⟨fun i h0 hi h1 h2=>?_,fun c h0 hc hp h1=>by omega⟩;rw[eo (by omega),eo (by omega)];exact h i h0 (by omega)
theorem Nd{L:List Id}{x:Id}:O1 (L++[x]) L.length:=fun c h0 hc hp=>by simp at hc;omega
theorem UK{h:Heap}{k p:Nat}{S:List Nat}{L:List Id}{P:Nat→Nat}(hr:xS h k p S L P)(id key:Int){Q:AV→Heap→Prop}(h1:id<0∨64≤id→Q (.int .i64 9) h)
  (h2:∀y,y∈L→id=y.1→Q (.int .i64 141) h)
  (h3:∀i:Nat,id=i→i<64→(∀y∈L,y.1≠i)→∀h' S' L' P',xS h' k p S' L' P'→(∀y,y∈L'↔y∈L∨y=(i,key))→Own h h' S S'→Q (.int .i64 0) h'):VD fs ms 143 [.ptr k 0,.int .i64 id,.int .i64 key] h Q:=by
 refine ak (af:=Lw) true rfl (Nat.le_of_ble_eq_true rfl) ?_;conv=>whnf
 refine DT hr id ?_;conv=>whnf
 by_cases hb:id<0∨64≤id
 ·rw[if_pos hb];conv=>whnf
  exact h1 hb
 rw[if_neg hb];conv=>whnf
 refine Tp hr id (fun h=>absurd h hb) (fun i hi i64 h0=>?_) fun i j hi i64 hj hP hid=>?_
 ·conv=>whnf
  subst hi;refine⟨_,aT hr.hk rfl,?_⟩;conv=>whnf
  refine⟨_,aT hr.hk rfl,?_⟩;conv=>whnf
  obtain⟨kS,pS,hS⟩:=hr.own;have SJ:=hr.pl.BA;obtain⟨rv,Rb,ZM,g',CS,TA,gk,gp,gn,r,cap,rest,e1,rk,rp,rl,gr,gc,rS⟩:=hr.row.app hr.ne hr.lk hr.lp SJ (i,key) (Qa:=1) (op:=false) (wr:=true) (es:=0) rfl (g:=h.new (.cells (ob (i,key)).cells true 0)) rfl;refine⟨_,aT Rb rfl,?_⟩;conv=>whnf
  refine bW CS fun g1 eg=>?_;subst eg;conv=>whnf
  refine bW (bq (gp.trans Rb) (by subst e1;rfl) (by rw[List.length_cons];show 0+1≤_;omega) (by subst e1;rfl)) fun g2 e2=>?_;conv=>whnf
  refine⟨iO (by(conv=>whnf);repeat' (first|exact trivial|(exact aT hr.hk rfl)|(exact aT (gk.trans hr.hk) rfl)|(exact⟨rfl,rfl,.inr ⟨_,_,rfl⟩⟩)|(refine⟨rfl,rfl,.inl ⟨rfl,fun o ho=>?_⟩⟩;cases ho;first|rfl|(exact aT hr.hk rfl)|(exact aT (gk.trans hr.hk) rfl))|(exact⟨rfl,.inr ⟨_,_,rfl⟩⟩)|(refine⟨rfl,.inl ⟨rfl,fun i o hi ho=>?_⟩⟩;cases hi;cases ho;first|rfl|(exact aT hr.hk rfl)|(exact aT (gk.trans hr.hk) rfl))|(refine And.intro (fun eM=>(Bool.false_ne_true eM).elim) ?_<;>conv=>whnf)|(refine And.intro (fun _=>?_) ?_<;>conv=>whnf)|(refine And.intro ?_ ?_<;>conv=>whnf))),?_⟩;conv=>whnf
  have hpn:=hr.lp;have hkn:=hr.lk;have Yx:g2.get k=some (.cells [.ptr p 0] true 0):=by rw[e2,aX hr.ne];exact gk.trans hr.hk
  have Ee:nA g2 p r cap true (L++[(i,key)]) P rest:=by
   refine⟨?_,?_,rp.symm,?_,?_⟩
   ·rw[e2,ay,e1];show some (dD.cells (.sl r 0 (L.length+1) cap true::Heap.splice (EF P) 0 []) true 0)=_;rw[er,List.length_append];rfl
   ·rw[e2,aX rp];exact gr
   ·rw[e2];show p<g1.next;omega
   ·rw[e2];exact rl
  have ey:Fr h g2 S:=by rw[e2];exact TA.set pS
  clear e2;refine⟨_,aT Yx rfl,?_⟩;conv=>whnf
  refine⟨_,aT Yx rfl,?_⟩;conv=>whnf
  refine⟨_,Ee.row,?_⟩;conv=>whnf
  have hl:(L++[((i,key):Id)]).length=L.length+1:=by simp
  rw[(BB (M:=L) (x:=(i,key))).resolve_right (by omega)];refine UT Ee (by omega) (by omega) (N1 hr.pl i64 h0) (Nl hr.hp) fun h4 L4 P4 a4 T5 k1 k2 k3 k4 k5 k6 k7 jL=>?_;conv=>whnf
  have kn2:k<g2.next:=Nat.lt_of_lt_of_le hkn ey.next;refine h3 i rfl i64 (hr.pl.no h0) h4 [k,p,r] L4 P4 ⟨?_,hr.ne,Nat.lt_of_lt_of_le kn2 jL.next,T5.lp,.inr ⟨r,cap,rest,rfl,rk,by omega,T5⟩,k3,k4.full (k7 Nd)⟩ (fun y=>?_) ⟨?_,fun b hb=>?_⟩
  ·rw[jL.keep k kn2 (by simp[hr.ne,Ne.symm rk])];exact Yx
  ·rw[k6.mem];simp
  ·refine⟨Nat.le_trans ey.next jL.next,fun b hb hn=>?_⟩;have hbp:b≠p:=by rintro rfl;exact hn pS
   have xz:b≠r:=by
    rintro rfl;rcases rS with h|h
    ·exact hn h
    ·omega
   rw[jL.keep b (Nat.lt_of_lt_of_le hb ey.next) (by simp[hbp,xz])];exact ey.keep b hb hn
  ·simp at hb;rcases hb with rfl|rfl|rfl
   ·exact .inl kS
   ·exact .inl pS
   ·exact rS
 ·conv=>whnf
  subst hi;refine h2 (gI L j) (iF.2 ⟨j,hj,rfl⟩) (by rw[hid])
theorem Tw{h:Heap}{k p:Nat}{S:List Nat}{L:List Id}{P:Nat→Nat}(hr:xS h k p S L P){a:Nat}(ha:a<L.length){Q:AV→Heap→Prop}
  (hQ:∀h' S' L' P',xS h' k p S' L' P'→L'.length+1=L.length→(∀y,y∈L'↔y∈L∧y.1≠(gI L a).1)→Own h h' S S'→Q (.cq []) h'):VD fs ms 167 [.ptr p 0,.int .i64 ((a:Nat):Int)] h Q:=by
 rcases hr.row with⟨hL,_,_⟩|⟨r,cap,rest,hS,rk,hcap,hh⟩
 ·subst hL;simp at ha
 obtain⟨M,x,rfl⟩:∃M x,L=M++[x]:=by
  rcases List.eq_nil_or_concat L with rfl|⟨M,x,rfl⟩
  ·simp at ha
  ·exact⟨M,x,by simp⟩
 have hl:(M++[x]).length=M.length+1:=by simp
 have SJ:=hr.pl.BA;refine Tv hh (by omega) (by omega) (by omega) hr.pl hr.hp fun h' L' P' CZ k1 k2 k3 k4 fr=>?_;subst hS;refine hQ h' [k,p,r] L' P' ⟨?_,hr.ne,Nat.lt_of_lt_of_le hr.lk fr.next,CZ.lp,.inr ⟨r,cap,_,rfl,rk,?_,CZ⟩,k2,k3⟩ (by omega) k4 ⟨⟨fr.next,fun b hb hn=>fr.keep b hb ?_⟩,fun b hb=>.inl hb⟩
 ·rw[fr.keep k hr.lk (by simp[hr.ne,Ne.symm rk])];exact hr.hk
 ·rw[List.length_append];have:(ob x).cells.length=2:=rfl;omega
 ·simp at hn⊢;exact hn.2
theorem JK{h:Heap}{k p:Nat}{S:List Nat}{L:List Id}{P:Nat→Nat}(hr:xS h k p S L P)(id:Int){Q:AV→Heap→Prop}(h1:(∀y∈L,id≠(y.1:Int))→Q (.bool false) h)
  (h3:∀y:Id,id=(y.1:Int)→y∈L→∀h' S' L' P',xS h' k p S' L' P'→(∀z,z∈L'↔z∈L∧z.1≠y.1)→Own h h' S S'→Q (.bool true) h'):VD fs ms 140 [.ptr k 0,.int .i64 id] h Q:=by
 refine ak (af:=Lt) true rfl (Nat.le_of_ble_eq_true rfl) ?_;conv=>whnf
 refine Tp hr id (fun hb=>?_) (fun i hi i64 h0=>?_) fun i j hi i64 hj hP hid=>?_
 ·conv=>whnf
  refine h1 fun y hy e=>?_;obtain⟨i,hi,rfl⟩:=iF.1 hy;have:=hr.pl.small i hi;omega
 ·conv=>whnf
  refine h1 fun y hy e=>?_;have:=hr.pl.no h0 y hy;omega
 ·conv=>whnf
  refine⟨_,aT hr.hk rfl,?_⟩;conv=>whnf
  refine Tw hr hj fun h' S' L' P' r1 r2 r3 r4=>?_;conv=>whnf
  exact h3 (gI L j) (by rw[hid];exact hi) (iF.2 ⟨j,hj,rfl⟩) h' S' L' P' r1 r3 r4
theorem Row.len{h:Heap}{k p:Nat}{S:List Nat}{L:List Id}{P:Nat→Nat}(hr:Row h k p S L P):∃rv,rV .ck [.ptr p 0] h=some rv∧pV .bL [rv]=some (.int .i64 ((L.length:Nat):Int))∧∀i,i<L.length→∃r,pV (.az 2) [rv,.int .i64 ((i:Nat):Int)]=some (.ptr r (i*2))∧rV .ck [.ptr r (i*2)] h=some (.int .i64 ((gI L i).1:Nat))∧rV .ck [.ptr r (i*2+1)] h=some (.int .i64 (gI L i).2):=by
 rcases hr with⟨hL,_,hg⟩|⟨r,cap,rest,_,_,_,hh⟩
 ·subst hL;exact⟨.aL,aT hg rfl,rfl,fun i hi=>by simp at hi⟩
 ·exact⟨_,hh.row,rfl,fun i hi=>⟨r,aJ hi,hh.id hi,hh.key hi⟩⟩
theorem M7{h:Heap}{k p:Nat}{S:List Nat}{L:List Id}{P:Nat→Nat}(hr:xS h k p S L P){Q:AV→Heap→Prop}(h1:L=[]→Q (.cq [.int .i64 0,.int .i64 0,.bool false]) h)
  (h2:0<L.length→Q (.cq [.int .i64 ((gI L 0).1:Nat),.int .i64 (gI L 0).2,.bool true]) h):VD fs ms 111 [.ptr k 0] h Q:=by
 refine ak (af:=K0) true rfl (Nat.le_of_ble_eq_true rfl) ?_;conv=>whnf
 obtain⟨rv,l1,l2,l3⟩:=hr.row.len;refine Dg hr ?_;conv=>whnf
 refine⟨_,aT hr.hk rfl,?_⟩;conv=>whnf
 refine⟨_,l1,?_⟩;conv=>whnf
 refine qc l2 ?_;conv=>whnf
 refine br (fun hc=>?_) (fun hc=>?_)<;>(try rw[hc])<;>(conv=>whnf)
 ·refine h1 (List.eq_nil_of_length_eq_zero ?_);simp at hc;simp[hc]
 ·have hl:0<L.length:=by
   refine Nat.pos_of_ne_zero fun h0=>?_;simp[List.eq_nil_of_length_eq_zero h0] at hc
  obtain⟨r,l4,l5,l6⟩:=l3 0 hl;refine⟨_,aT hr.hk rfl,?_⟩;conv=>whnf
  refine⟨_,l1,?_⟩;conv=>whnf
  refine⟨_,l4,?_⟩;conv=>whnf
  refine⟨_,l5,?_⟩;conv=>whnf
  refine⟨_,aT hr.hk rfl,?_⟩;conv=>whnf
  refine⟨_,l1,?_⟩;conv=>whnf
  refine⟨_,l4,?_⟩;conv=>whnf
  refine⟨_,l6,?_⟩;conv=>whnf
  exact h2 hl
theorem El(x:Int):PC fs ms 188 [.int .i64 x] (.bool false):=by
 refine cr rfl rfl ?_;refine ak (af:=Mj) false rfl (Nat.le_of_ble_eq_true rfl) ?_;generalize hQ:(fun(u:AV) (_:Heap)=>u=.bool false)=Q;conv=>whnf
 subst hQ;simp
def AW(x y:Int):Int:=if x<y then-1 else if y<x then 1 else 0
theorem xQ(x y:Int):PC fs ms 178 [.int .i64 x,.int .i64 y] (.int .i64 (AW x y)):=by
 refine cr rfl rfl ?_;refine ak (af:=Mb) false rfl (Nat.le_of_ble_eq_true rfl) ?_;generalize hQ:(fun(u:AV) (_:Heap)=>u=.int .i64 (AW x y))=Q;conv=>whnf
 refine aR (El x) ?_;conv=>whnf
 refine aR (El y) ?_;conv=>whnf
 refine br (fun hc=>?_) (fun hc=>?_)<;>(try rw[hc])<;>(conv=>whnf)
 ·have h1:x<y:=of_decide_eq_true hc;subst hQ;rw[AW,if_pos h1]
 ·have h1:¬x<y:=of_decide_eq_false hc;refine br (fun hc=>?_) (fun hc=>?_)<;>(try rw[hc])<;>(conv=>whnf)
  ·have h2:y<x:=of_decide_eq_true hc;subst hQ;rw[AW,if_neg h1,if_pos h2]
  ·have h2:¬y<x:=of_decide_eq_false hc;subst hQ;rw[AW,if_neg h1,if_neg h2]
def RQ(a b:Int):Int:=if a≠0 then a else b
theorem Yg(a b:Int)(k:Nat):PC fs ms 177 [.fz k [.int .i64 a,.int .i64 b]] (.int .i64 (RQ a b)):=by
 refine cr rfl rfl ?_;refine ak (af:=Ma) false rfl (Nat.le_of_ble_eq_true rfl) ?_;generalize hQ:(fun(u:AV) (_:Heap)=>u=.int .i64 (RQ a b))=Q;conv=>whnf
 refine dI (z:=false) ?_;conv=>whnf
 refine⟨_,(uZ (j:=0) (x:=.int .i64 a) rfl rfl),?_⟩;conv=>whnf
 refine br (fun hc=>?_) (fun hc=>?_)<;>(try rw[hc])<;>(conv=>whnf)
 ·have h1:a≠0:=by simpa using hc
  subst hQ;rw[RQ,if_pos h1]
 ·have h1:¬a≠0:=by simpa using hc
  refine dI (z:=false) ?_;conv=>whnf
  refine⟨_,(uZ (j:=1) (x:=.int .i64 b) rfl rfl),?_⟩;conv=>whnf
  refine br (fun hc=>?_) (fun hc=>?_)<;>(try rw[hc])<;>(conv=>whnf)
  ·have h2:b≠0:=by simpa using hc
   subst hQ;rw[RQ,if_neg h1]
  ·have h2:¬b≠0:=by simpa using hc
   refine dI (z:=false) ?_;conv=>whnf
   subst hQ;rw[RQ,if_neg h1];have:b=0:=by omega
   rw[this]
theorem Np{s:List UInt8}{n:Nat}(h:n<s.length):pV .C8 [.str s,.int .u8 ((n:Nat):Int)]=some (.int .u8 ((s[n].toNat:Nat):Int)):=by
 show(s[n]?).map (fun b=>AV.int .u8 ((b.toNat:Nat):Int))=_;rw[List.getElem?_eq_getElem h];rfl
theorem Mn{n:Nat}(h:n<65):∃m,PC fs ms 198 [.int .u64 ((n:Nat):Int)] (.int .i64 m):=by
 have key:VD fs ms 198 [.int .u64 ((n:Nat):Int)] ⟨0,.nil⟩ (fun u _=>∃m,u=.int .i64 m):=by
  have hw:IntKind.u8.wrap ((n:Nat):Int)=((n:Nat):Int):=by
   show((n:Nat):Int)%256=_;omega
  obtain⟨N,hN⟩:∃N:Int,N=((n:Nat):Int):=⟨_,rfl⟩;rw[←hN];refine ak (af:=Mk) false rfl (Nat.le_of_ble_eq_true rfl) ?_;generalize hQ:(fun(u:AV) (_:Heap)=>∃m,u=.int .i64 m)=Q;conv=>whnf
  refine nE (decide_eq_false (by omega)) (fun hc=>?_)
  (try rw[hc])
  conv=>whnf
  refine nE (decide_eq_false (by omega)) (fun hc=>?_)
  (try rw[hc])
  conv=>whnf
  refine nE (decide_eq_false (by omega)) (fun hc=>?_)
  (try rw[hc])
  conv=>whnf
  rw[hN,hw];refine⟨_,Np (n:=n) (Nat.lt_of_lt_of_le h (by decide)),?_⟩;conv=>whnf
  subst hQ;exact⟨_,rfl⟩
 obtain⟨v,g,hb,m,rfl⟩:=key;exact⟨m,rfl,rfl,_,g,hb,.clean rfl⟩
theorem O4{n:Nat}(h:n<65):∃m,PC fs ms 187 [.int .u64 ((n:Nat):Int)] (.int .i64 m):=by
 obtain⟨m,hm⟩:=Mn h;refine⟨m,cr rfl rfl ?_⟩;refine ak (af:=Mi) false rfl (Nat.le_of_ble_eq_true rfl) ?_;conv=>whnf
 refine aR hm ?_;conv=>whnf
def ML(x y:Id):Int:=RQ (AW x.2 y.2) (AW x.1 y.1)
theorem D0(x y:Id):ML x y<0↔ah x y=true:=by
 rw[nB];unfold ML RQ AW;split<;>split<;>(try split)<;>(try split)<;>simp at*<;>omega
theorem Qg(x y:Id):PC fs ms 176 [ob x,ob y] (.int .i64 (ML x y)):=by
 refine cr rfl rfl ?_;refine ak (af:=L8) false rfl (Nat.le_of_ble_eq_true rfl) ?_;generalize hQ:(fun(u:AV) (_:Heap)=>u=.int .i64 (ML x y))=Q;obtain⟨x1,x2⟩:=x;obtain⟨y1,y2⟩:=y;conv=>whnf
 refine aR (xQ x2 y2) ?_;conv=>whnf
 refine aR (xQ x1 y1) ?_;conv=>whnf
 refine fQ (Yg _ _ 0) rfl (.cons (.row (s:=1) trivial rfl rfl rfl rfl (Nat.le_refl _) (by omega) (fun h=>by omega) (fun h=>by omega) rfl) .nil) ?_;conv=>whnf
 refine⟨iO (by(conv=>whnf);repeat' (first|exact trivial|(exact⟨rfl,rfl,.inr ⟨_,_,rfl⟩⟩)|(refine⟨rfl,rfl,.inl ⟨rfl,fun o ho=>?_⟩⟩;cases ho;first|rfl)|(exact⟨rfl,.inr ⟨_,_,rfl⟩⟩)|(refine⟨rfl,.inl ⟨rfl,fun i o hi ho=>?_⟩⟩;cases hi;cases ho;first|rfl)|(refine And.intro (fun eM=>(Bool.false_ne_true eM).elim) ?_<;>conv=>whnf)|(refine And.intro (fun _=>?_) ?_<;>conv=>whnf)|(refine And.intro ?_ ?_<;>conv=>whnf))),?_⟩;subst hQ;rfl
structure xj(h:Heap)(b es:Nat)(L:List Id)(rest:List AV):Prop where
 hb:h.get b=some (.cells (oc L++rest) true es)
 lb:b<h.next
theorem xj.one{h:Heap}{b es:Nat}{L:List Id}{rest:List AV}(hh:xj h b es L rest){i:Nat}(hi:i<L.length):rV (.aZ 2) [.ptr b (i*2)] h=some (ob (gI L i)):=by
 have hlen:=nS L;rw[u0 hh.hb (by rw[List.length_append];omega),ED hi,j5 hi];rfl
theorem xj.put{h:Heap}{b es:Nat}{L:List Id}{rest:List AV}(hh:xj h b es L rest){i:Nat}(hi:i<L.length)(x:Id):eV (.store 2) [.ptr b (i*2),ob x] h=some (.undef,h.set b (.cells (oc (L.set i x)++rest) true es)):=by
 have hlen:=nS L;rw[←Di L i hi x rest];exact bq (n:=2) (v:=ob x) hh.hb rfl (by rw[List.length_append];omega) rfl
theorem xj.next{h:Heap}{b es:Nat}{L L':List Id}{rest:List AV}(hh:xj h b es L rest):xj (h.set b (.cells (oc L'++rest) true es)) b es L' rest:=⟨ay,hh.lb⟩
def PO(L:List Id):Prop:=∀i j,i<L.length→j<L.length→(gI L i).1=(gI L j).1→i=j
structure RS(a e:Nat)(L M:List Id):Prop where
 len:L.length=M.length
 out:∀k,k<a∨e≤k→gI M k=gI L k
 mem:∀y,(∃k,a≤k∧k<e∧gI L k=y)↔∃k,a≤k∧k<e∧gI M k=y
 dst:PO L→PO M
theorem RS.refl(a e:Nat)(L:List Id):RS a e L L:=⟨rfl,fun _ _=>rfl,fun _=>Iff.rfl,id⟩
theorem RS.trans{a e:Nat}{L M K:List Id}(h:RS a e L M)(g:RS a e M K):RS a e L K:=⟨h.len.trans g.len,fun k hk=>(g.out k hk).trans (h.out k hk),fun y=>(h.mem y).trans (g.mem y),fun d=>g.dst (h.dst d)⟩
theorem RS.wide{a e a' e':Nat}{L M:List Id}(h:RS a e L M)(ha:a'≤a)(he:e≤e'):RS a' e' L M:=by
 refine⟨h.len,fun k hk=>h.out k (by omega),fun y=>⟨?_,?_⟩,h.dst⟩
 ·rintro⟨k,k1,k2,hy⟩;by_cases hk:a≤k∧k<e
  ·obtain⟨j,j1,j2,j3⟩:=(h.mem y).1 ⟨k,hk.1,hk.2,hy⟩;exact⟨j,by omega,by omega,j3⟩
  ·exact⟨k,k1,k2,by rw[h.out k (by omega)];exact hy⟩
 ·rintro⟨k,k1,k2,hy⟩;by_cases hk:a≤k∧k<e
  ·obtain⟨j,j1,j2,j3⟩:=(h.mem y).2 ⟨k,hk.1,hk.2,hy⟩;exact⟨j,by omega,by omega,j3⟩
  ·exact⟨k,k1,k2,by rw[←h.out k (by omega)];exact hy⟩
theorem RS.swap{a e:Nat}{L:List Id}{i j:Nat}(hi:a≤i)(hi':i<e)(hj:a≤j)(hj':j<e)(he:e≤L.length):RS a e L (uR L i j):=by
 have hg:=nN (V:=L) (show i<L.length by omega) (show j<L.length by omega);refine⟨(jA L i j).symm,fun k hk=>?_,fun y=>⟨?_,?_⟩,fun d=>?_⟩
 ·rw[hg,if_neg (by omega),if_neg (by omega)]
 ·rintro⟨k,k1,k2,hy⟩;by_cases h1:k=i
  ·subst h1;exact⟨j,hj,hj',by rw[hg,if_pos rfl,hy]⟩
  ·by_cases h2:k=j
   ·subst h2;exact⟨i,hi,hi',by rw[hg,if_neg (fun e=>h1 e.symm),if_pos rfl,hy]⟩
   ·exact⟨k,k1,k2,by rw[hg,if_neg h2,if_neg h1,hy]⟩
 ·rintro⟨k,k1,k2,hy⟩;rw[hg] at hy;split at hy
  ·exact⟨i,hi,hi',hy⟩
  ·split at hy
   ·exact⟨j,hj,hj',hy⟩
   ·exact⟨k,k1,k2,hy⟩
 ·have hs:∀k,gI (uR L i j) k=gI L (if k=j then i else if k=i then j else k):=by
   intro k;rw[hg];split
   ·rfl
   ·split<;>rfl
  have hl:=jA L i j;intro u v hu hv he;rw[hs,hs] at he;have hk:∀k,k<(uR L i j).length→(if k=j then i else if k=i then j else k)<L.length:=by
   intro k hk;split
   ·omega
   ·split<;>omega
  have key:=d _ _ (hk u hu) (hk v hv) he;revert key;repeat' split
  all_goals (intro key;omega)
def G6(L:List Id)(a e:Nat):Prop:=∀i j,a≤i→i<j→j<e→ah (gI L j) (gI L i)=false
def Fg(L:List Id)(a e j:Nat):Prop:=∀u v,a≤u→u<v→v<e→v≠j→ah (gI L v) (gI L u)=false
theorem Fg.step{L:List Id}{a e j:Nat}(h:Fg L a e j)(ha:a<j)(hj:j<e)(he:e≤L.length)(hs:ah (gI L j) (gI L (j-1))=true):Fg (uR L j (j-1)) a e (j-1):=by
 have hg:=nN (V:=L) (show j<L.length by omega) (show j-1<L.length by omega);intro u v h1 h2 h3 h4;rw[hg v,if_neg h4,hg u];by_cases hv:v=j
 ·rw[if_pos hv];by_cases hu:u=j-1
  ·rw[if_pos hu];exact AA hs
  ·rw[if_neg hu,if_neg (by omega)];exact h u (j-1) h1 (by omega) (by omega) (by omega)
 ·rw[if_neg hv];by_cases hu:u=j-1
  ·rw[if_pos hu];exact h j v (by omega) (by omega) h3 hv
  ·rw[if_neg hu];by_cases WA:u=j
   ·rw[if_pos WA];exact h (j-1) v (by omega) (by omega) h3 hv
   ·rw[if_neg WA];exact h u v h1 h2 h3 hv
theorem Fg.done{L:List Id}{a e j:Nat}(h:Fg L a e j)(hs:j≤a∨ah (gI L j) (gI L (j-1))=false):G6 L a e:=by
 intro u v h1 h2 h3;by_cases hv:v=j
 ·subst hv;rcases hs with hs|hs
  ·omega
  ·by_cases hu:u=v-1
   ·subst hu;exact hs
   ·exact xV hs (h u (v-1) h1 (by omega) (by omega) (by omega))
 ·exact h u v h1 h2 h3 hv
abbrev zk:AV:=.func (.func 176) [] []
theorem HI{j:Nat}(h:j<2^62)(h0:0<j):IntKind.i64.wrap (((j:Nat):Int)-1)=((j-1:Nat):Int):=by
 rw[show((j:Nat):Int)-1=((j-1:Nat):Int) by omega,kq (by omega)]
def Nr(b N cap a e i j:Nat)(op:Bool):List (Nat×AV):=[(0,.sl b 0 N cap op),(1,.int .i64 ((a:Nat):Int)),(2,.int .i64 ((e:Nat):Int)),(3,zk),(8,.int .i64 ((i:Nat):Int)),(9,.int .i64 ((j:Nat):Int))]
theorem Rr{b es N cap a e i:Nat}{op:Bool}{rest:List AV}{B:Nat}{Q:AX→Env→Heap→Prop}(hN:N<2^60)(he:e≤N)(hi:i<e):
  ∀(j:Nat) (h:Heap) (L:List Id),xj h b es L rest→L.length=N→a≤j→j≤i→Fg L a (i+1) j→
  (∀(h':Heap) (L':List Id) (e':Env),Tr.get e' 0=some (.sl b 0 N cap op)→Tr.get e' 1=some (.int .i64 ((a:Nat):Int))→Tr.get e' 2=some (.int .i64 ((e:Nat):Int))→Tr.get e' 3=some zk→Tr.get e' 8=some (.int .i64 ((i:Nat):Int))→
   xj h' b es L' rest→RS a (i+1) L L'→G6 L' a (i+1)→Fr h h' [b]→Q (.exit 2) e' h')→
  VC fs ms B false (.loop cY) (ek 4 (Nr b N cap a e i j op)) h Q:=by
 intro j;induction j using Nat.strongRecOn with
 |ind j ih=>
 intro h L hh hL ha hj hs hQ;refine dI (z:=true) ?_;unfold Nr;conv=>whnf
 refine br (fun hc=>?_) (fun hc=>?_)<;>(try rw[hc])<;>(conv=>whnf)
 ·have h0:a<j:=by have:=of_decide_eq_true hc;omega
  refine⟨_,aJ (by omega),?_⟩;conv=>whnf
  refine⟨_,hh.one (by omega),?_⟩;conv=>whnf
  rw[HI (by omega) (by omega)];refine⟨_,aJ (by omega),?_⟩;conv=>whnf
  refine⟨_,hh.one (by omega),?_⟩;conv=>whnf
  refine aR (Qg _ _) ?_;conv=>whnf
  refine br (fun hc=>?_) (fun hc=>?_)<;>(try rw[hc])<;>(conv=>whnf)
  ·have hlt:ah (gI L j) (gI L (j-1))=true:=(D0 _ _).1 (of_decide_eq_true hc);rw[HI (by omega) (by omega)];refine⟨_,aJ (by omega),?_⟩;conv=>whnf
   refine⟨_,hh.one (by omega),?_⟩;conv=>whnf
   refine⟨_,aJ (by omega),?_⟩;conv=>whnf
   refine⟨_,hh.one (by omega),?_⟩;conv=>whnf
   refine⟨_,aJ (by omega),?_⟩;conv=>whnf
   refine bW (hh.put (by omega) _) fun h1 e1=>?_;conv=>whnf
   have FN:xj h1 b es (L.set j (gI L (j-1))) rest:=by rw[e1];exact hh.next
   refine⟨_,aJ (by omega),?_⟩;conv=>whnf
   refine bW (FN.put (by rw[List.length_set];omega) _) fun h2 e2=>?_;conv=>whnf
   have Ee:xj h2 b es (uR L j (j-1)) rest:=by rw[e2];exact FN.next
   have fr:Fr h h2 [b]:=by rw[e2,e1];exact((Fr.refl h [b]).set (by simp)).set (by simp)
   rw[HI (by omega) (by omega)];refine aH 4 (Nr b N cap a e i (j-1) op) ⟨rfl,rfl,rfl,rfl,rfl,rfl,trivial⟩ ?_;refine ih (j-1) (by omega) h2 _ Ee (by rw[jA];exact hL) (by omega) (by omega) (hs.step (by omega) (by omega) (by omega) hlt) ?_;intro h' L' e' g0 g1 g2 g3 g8 k1 k2 k3 k4;exact hQ h' L' e' g0 g1 g2 g3 g8 k1 ((RS.swap (by omega) (by omega) (by omega) (by omega) (by omega)).trans k2) k3 (fr.trans k4)
  ·have hlt:ah (gI L j) (gI L (j-1))=false:=by
    rw[←Bool.not_eq_true,←D0];exact of_decide_eq_false hc
   exact hQ h L _ rfl rfl rfl rfl rfl hh (RS.refl _ _ _) (hs.done (.inr hlt)) (Fr.refl _ _)
 ·have h0:j≤a:=by have:=of_decide_eq_false hc;omega
  exact hQ h L _ rfl rfl rfl rfl rfl hh (RS.refl _ _ _) (hs.done (.inl h0)) (Fr.refl _ _)
theorem Ns{b es N cap a e:Nat}{op:Bool}{rest:List AV}{B:Nat}{Q:AX→Env→Heap→Prop}(hN:N<2^60)(he:e≤N):
  ∀(k i:Nat) (h:Heap) (L:List Id) (env:Env),e-i=k→xj h b es L rest→L.length=N→a<i→G6 L a i→(G6 L a (i+1)→True)→
  Tr.get env 0=some (.sl b 0 N cap op)→Tr.get env 1=some (.int .i64 ((a:Nat):Int))→Tr.get env 2=some (.int .i64 ((e:Nat):Int))→Tr.get env 3=some zk→Tr.get env 8=some (.int .i64 ((i:Nat):Int))→
  (∀(h':Heap) (L':List Id) (e':Env),xj h' b es L' rest→RS a e L L'→G6 L' a e→Fr h h' [b]→Q (.exit 0) e' h')→
  VC fs ms B false (.loop cX) env h Q:=by
 intro k;induction k using Nat.strongRecOn with
 |ind k ih=>
 intro i h L env hk hh hL hai hs _ g0 g1 g2 g3 g8 hQ;refine aH 4 [(0,.sl b 0 N cap op),(1,.int .i64 ((a:Nat):Int)),(2,.int .i64 ((e:Nat):Int)),(3,zk),(8,.int .i64 ((i:Nat):Int))] ⟨g0,g1,g2,g3,g8,trivial⟩ ?_;refine cS (aF true ?_);conv=>whnf
 refine br (fun hc=>?_) (fun hc=>?_)<;>(try rw[hc])<;>(conv=>whnf)
 ·have hlt:i<e:=by have:=of_decide_eq_true hc;omega
  refine bu (bx (aF true ?_));conv=>whnf
  refine bx ?_;refine aH 4 (Nr b N cap a e i i op) ⟨rfl,rfl,rfl,rfl,rfl,rfl,trivial⟩ ?_;refine Rr hN he hlt i h L hh hL (by omega) (Nat.le_refl _) (fun u v h1 h2 h3 h4=>hs u v h1 h2 (by omega)) ?_;intro h' L' e' j0 j1 j2 j3 j8 k1 k2 k3 k4;show VC fs ms _ _ _ _ _ _;refine aH 4 [(0,.sl b 0 N cap op),(1,.int .i64 ((a:Nat):Int)),(2,.int .i64 ((e:Nat):Int)),(3,zk),(8,.int .i64 ((i:Nat):Int))] ⟨j0,j1,j2,j3,j8,trivial⟩ (aq (z:=true) ?_);conv=>whnf
  have hl:=k2.len;refine ih (e-(i+1)) (by omega) (i+1) h' L' _ rfl k1 (by omega) (by omega) k3 (fun _=>trivial) rfl rfl rfl rfl (aK (by omega)) ?_;intro h2 L2 e2 m1 m2 m3 m4;exact hQ h2 L2 e2 m1 ((k2.wide (Nat.le_refl _) (by omega)).trans m2) m3 (k4.trans m4)
 ·have hge:e≤i:=by have:=of_decide_eq_false hc;omega
  exact hQ h L _ hh (RS.refl _ _ _) (fun u v h1 h2 h3=>hs u v h1 h2 (by omega)) (Fr.refl _ _)
theorem Uv{h:Heap}{b es cap a e:Nat}{op:Bool}{L:List Id}{rest:List AV}(hh:xj h b es L rest)(hN:L.length<2^60)(ha:a≤e)(he:e≤L.length){Q:AV→Heap→Prop}
  (hQ:∀h' L',xj h' b es L' rest→RS a e L L'→G6 L' a e→Fr h h' [b]→Q (.cq []) h'):
  VD fs ms 189 [.sl b 0 L.length cap op,.int .i64 ((a:Nat):Int),.int .i64 ((e:Nat):Int),zk] h Q:=by
 refine bY (af:=G2) rfl (Nat.le_of_ble_eq_true rfl) ?_;conv=>whnf
 refine aF true ?_;conv=>whnf
 refine bx ?_;refine Ns hN he _ (a+1) h L _ rfl hh rfl (by omega) (fun u v h1 h2 h3=>by omega) (fun _=>trivial) rfl rfl rfl rfl (aK (by omega)) ?_;intro h' L' e' k1 k2 k3 k4;show Q (.cq []) h';exact hQ h' L' k1 k2 k3 k4
end Ir
end Go.Proofs.YtnlcabhfkpafmaaGreat
namespace Go.Proofs.YtnlcabhfkpafmaaGreat
open Go Ads
namespace Ads
theorem OS{h:Heap}{b s n cap:Nat}{op wr:Bool}{es:Nat}{cs rest:List AV}(hg:h.get b=some (.cells (cs++rest) wr es))(hl:cs.length=n*s):dm s h (.sl b 0 n cap op)=some (n,cs):=by
 have b1:Nat.ble (0+n*s) (cs++rest).length=true:=Nat.ble_eq_true_of_le (by rw[List.length_append];omega);show(h.aZ b 0 (n*s)).map _=_;have:h.aZ b 0 (n*s)=some cs:=by
  simp only[Heap.aZ,Heap.row,hg,b1,cond_true,List.drop_zero];rw[←hl,List.take_left'];rfl
 rw[this];rfl
theorem Fo{h:Heap}{b s bytes:Nat}{src:AV}{cs:List AV}(hsrc:dm s h src=some (0,cs))(hf:bA cs=true):eV (.append s bytes) [.sl b 0 0 0 false,src] h=some (.sl b 0 0 0 false,h):=by
 simp only[eV,l2,hsrc];show cond (bA cs) _ _=_;rw[hf,cond_true];rfl
theorem xY{h:Heap}{b s bytes n es:Nat}{wr:Bool}{vs:List AV}{src:AV}{cs:List AV}(hg:h.get b=some (.cells vs wr es))(hsrc:dm s h src=some (n+1,cs))(hf:bA cs=true)(hb:bytes≤1048576)(hn:n≤1048576):
  eV (.append s bytes) [.sl b 0 0 0 false,src] h=some (.sl h.next 0 (n+1) (n+1) true,h.new (.cells cs true s)):=by
 have hm:(n+1)*bytes≤1048577*1048576:=Nat.mul_le_mul (by omega) hb;have b2:Nat.ble ((0+(n+1))*bytes) 140737488355328=true:=Nat.ble_eq_true_of_le (by rw[Nat.zero_add];omega);have b3:Nat.ble (0+(n+1)) 9223372036854775807=true:=Nat.ble_eq_true_of_le (by omega);have oB:h.aZ b 0 (0*s)=some []:=by
  have b1:Nat.ble (0+0*s) vs.length=true:=Nat.ble_eq_true_of_le (by omega);simp only[Heap.aZ,Heap.row,hg];rw[b1,cond_true,Nat.zero_mul];rfl
 have b0:Nat.ble (0+(n+1)) 0=false:=by
  cases hb:Nat.ble (0+(n+1)) 0 with
  |false=>rfl
  |true=>have:=Nat.le_of_ble_eq_true hb;omega
 simp only[eV,l2,hsrc];show cond (bA cs) _ _=_;rw[hf,cond_true];show cond (Nat.beq (n+1) 0&&Nat.ble 0 0) _ _=_;rw[show Nat.beq (n+1) 0=false from rfl,Bool.false_and,cond_false,b0,cond_false,b2,b3,Bool.and_self,cond_true,hg,oB];show some (AV.sl h.next 0 (0+(n+1)) (0+(n+1)) true,h.new (.cells ([]++cs) true s))=_;rw[Nat.zero_add,List.nil_append]
end Ads
namespace Ir
theorem zu:∀L:List Id,bA (oc L)=true
 |[]=>rfl
 |x::L=>by
  show bA (.int .i64 (x.1:Nat)::.int .i64 x.2::oc L)=true;simp only[bA,zu L];rfl
theorem NV{h:Heap}{b es cap:Nat}{op:Bool}{L:List Id}{rest:List AV}{m:Int}(hh:xj h b es L rest)(h12:L.length≤12){Q:AV→Heap→Prop}
  (hQ:∀h' L',xj h' b es L' rest→RS 0 L.length L L'→G6 L' 0 L.length→Fr h h' [b]→Q (.cq []) h'):
  VD fs ms 186 [.sl b 0 L.length cap op,.int .i64 ((0:Nat):Int),.int .i64 ((L.length:Nat):Int),.int .i64 m,zk] h Q:=by
 refine ak (af:=G1) true rfl (Nat.le_of_ble_eq_true rfl) ?_;conv=>whnf
 refine dI (z:=true) ?_;conv=>whnf
 have hd:decide (IntKind.i64.wrap (((L.length:Nat):Int)-((0:Nat):Int))≤12)=true:=by
  rw[show((L.length:Nat):Int)-((0:Nat):Int)=((L.length:Nat):Int) by omega,kq (by omega)];exact decide_eq_true (by omega)
 refine qt (hd) (fun hc=>?_)
 (try rw[hc])
 conv=>whnf
 refine Uv hh (by omega) (Nat.zero_le _) (Nat.le_refl _) fun h' L' k1 k2 k3 k4=>?_;conv=>whnf
 exact hQ h' L' k1 k2 k3 k4
theorem Kl{h:Heap}{b es cap:Nat}{op:Bool}{L:List Id}{rest:List AV}(hh:xj h b es L rest)(h12:L.length≤12){Q:AV→Heap→Prop}
  (hQ:∀h' L',xj h' b es L' rest→RS 0 L.length L L'→G6 L' 0 L.length→Fr h h' [b]→Q (.cq []) h'):
  VD fs ms 175 [.sl b 0 L.length cap op,zk] h Q:=by
 refine ak (af:=GZ) true rfl (Nat.le_of_ble_eq_true rfl) ?_;conv=>whnf
 obtain⟨m,hm⟩:=O4 (n:=L.length) (by omega);have hu:IntKind.u64.wrap ((L.length:Nat):Int)=((L.length:Nat):Int):=by
  have ri:∀z:Int,IntKind.u64.wrap z=z%18446744073709551616:=fun z=>by simp[IntKind.wrap,IntKind.signed,IntKind.bits]
  rw[ri];omega
 rw[hu];refine aR hm ?_;conv=>whnf
 refine NV hh h12 fun h' L' k1 k2 k3 k4=>?_;conv=>whnf
 exact hQ h' L' k1 k2 k3 k4
theorem MK{h:Heap}{k p:Nat}{S:List Nat}{L:List Id}{P:Nat→Nat}(hr:Row h k p S L P)(SJ:L.length≤64):∃rv,rV .ck [.ptr p 0] h=some rv∧∀{Q:AV→Heap→Prop},
  (L=[]→Q .aL h)→(∀h' c es op,xj h' c es L []→h.next≤c→Fr h h' []→Q (.sl c 0 L.length L.length op) h')→VD fs ms 174 [rv] h Q:=by
 rcases hr with⟨hL,_,hg⟩|⟨r,cap,rest,_,_,_,hh⟩
 ·refine⟨.aL,aT hg rfl,fun{Q} q0 q1=>?_⟩;refine ak (af:=GY) true rfl (Nat.le_of_ble_eq_true rfl) ?_;conv=>whnf
  exact q0 hL
 ·refine⟨_,hh.row,fun{Q} q0 q1=>?_⟩;have C2:=nS L;refine ak (af:=GY) true rfl (Nat.le_of_ble_eq_true rfl) ?_;conv=>whnf
  have hsrc:∀g:Heap,g=h.new (.cells [] true 0)→dm 2 g (.sl r 0 L.length cap true)=some (L.length,oc L):=by
   rintro g rfl;exact OS (rest:=rest) (by rw[aA hh.lr];exact hh.hr) C2
  by_cases hl:L.length=0
  ·have hL:L=[]:=List.eq_nil_of_length_eq_zero hl;subst hL;refine bW (Fo (hsrc _ rfl) (zu _)) fun h1 e1=>?_;conv=>whnf
   refine q1 h1 h.next 0 false ⟨?_,?_⟩ (Nat.le_refl _) ?_
   ·rw[e1,aj];rfl
   ·rw[e1];exact Nat.lt_succ_self _
   ·rw[e1];exact(Fr.refl h []).new
  ·obtain⟨n,hn⟩:∃n,L.length=n+1:=⟨L.length-1,by omega⟩;rw[hn] at hsrc⊢;refine bW (xY aj (hsrc _ rfl) (zu _) (by omega) (by omega)) fun h1 e1=>?_;conv=>whnf
   rw[hn] at q1;refine q1 h1 (h.next+1) 2 true ⟨?_,?_⟩ (by omega) ?_
   ·rw[e1,List.append_nil];exact aj
   ·rw[e1];exact Nat.lt_succ_self _
   ·rw[e1];exact((Fr.refl h []).new).new
def fI(lo:Nat)(h:Heap)(v:AV)(l:List Int):Prop:=
 (l=[]∧v=.aL)∨∃b,lo≤b∧b<h.next∧v=.sl b 0 l.length l.length true∧h.get b=some (.cells (ints l) true 1)
def BH(v:AV)(c:Nat):Prop:=∀o n k op,v≠.sl c o n k op
theorem fI.keep{lo:Nat}{h h':Heap}{v:AV}{l:List Int}(hr:fI lo h v l)(fr:Fr h h' []):fI lo h' v l:=by
 rcases hr with hr|⟨b,h1,h2,h3,h4⟩
 ·exact .inl hr
 ·exact .inr ⟨b,h1,Nat.lt_of_lt_of_le h2 fr.next,h3,by rw[fr.keep b h2 (by simp)];exact h4⟩
theorem fI.app{lo:Nat}{h:Heap}{v:AV}{l:List Int}(hr:fI lo h v l)(hlo:lo≤h.next)(hl:l.length≤1048576)(x:Int):∃v' g',eV (.append 1 8) [v,.sl h.next 0 1 1 false] (h.new (.cells [.int .i64 x] true 0))=some (v',g')∧
  fI lo g' v' (l++[x])∧h.next≤g'.next∧(∀c,c<h.next→BH v c→g'.get c=h.get c)∧∀c,c<h.next→BH v' c:=by
 have hsrc:dm 1 (h.new (.cells [.int .i64 x] true 0)) (.sl h.next 0 1 1 false)=some (1,[.int .i64 x]):=ql aj rfl;have off:∀(n k:Nat) c,c<h.next→BH (.sl (h.next+1) 0 n k true) c:=by
  intro n k c hc o n' k' op e;cases e
  omega
 rcases hr with⟨h1,h2⟩|⟨b,h1,h2,h3,h4⟩
 ·subst h1 h2;refine⟨_,_,mV (by omega) hsrc rfl,.inr ⟨h.next+1,by omega,Nat.lt_succ_self _,rfl,?_⟩,by show h.next≤h.next+1+1;omega,fun c hc _=>?_,off _ _⟩
  ·exact aj (h:=h.new (.cells [.int .i64 x] true 0))
  ·exact(aA (h:=h.new (.cells [.int .i64 x] true 0)) (show c<h.next+1 by omega)).trans (aA hc)
 ·subst h3;have hg:(h.new (.cells [.int .i64 x] true 0)).get b=some (.cells (ints l) true 1):=by rw[aA h2];exact h4
  refine⟨_,_,mT hg (by rw[bI,Nat.mul_one]) hsrc rfl (by omega) hl,.inr ⟨h.next+1,by omega,Nat.lt_succ_self _,by rw[List.length_append];rfl,?_⟩,by show h.next≤h.next+1+1;omega,fun c hc ho=>?_,off _ _⟩
  ·have:=aj (h:=(h.new (.cells [.int .i64 x] true 0)).del b) (x:=.cells (ints l++[.int .i64 x]) true 1);rw[show((h.new (.cells [.int .i64 x] true 0)).del b).next=h.next+1 from rfl] at this;rw[this,ints,ints,List.map_append];rfl
  ·have hne:c≠b:=by rintro rfl;exact ho _ _ _ _ rfl
   exact(aA (h:=(h.new (.cells [.int .i64 x] true 0)).del b) (show c<h.next+1 by omega)).trans ((ep hne).trans (aA hc))
def FX(L:List Id):List Int:=L.map fun y=>(y.1:Int)
theorem Nn(L:List Id):(FX L).length=L.length:=by simp[FX]
theorem IV{L:List Id}{i:Nat}(h:i<L.length):FX (L.take (i+1))=FX (L.take i)++[((gI L i).1:Int)]:=by
 rw[List.take_succ_eq_append_getElem h,j5 h,FX,List.map_append];rfl
def Ro(v:AV)(c N i:Nat)(op:Bool):List (Nat×AV):=[(2,v),(18,.sl c 0 N N op),(19,.int .i64 ((N:Nat):Int)),(20,.int .i64 ((i:Nat):Int))]
theorem IW{c es N:Nat}{op:Bool}{h0:Heap}{B:Nat}{Q:AX→Env→Heap→Prop}{L:List Id}(hN:N≤64)(hL:L.length=N)(hc0:h0.next≤c):
  ∀(k i:Nat) (h:Heap) (v:AV) (env:Env),N-i=k→xj h c es L []→i≤N→fI h0.next h v (FX (L.take i))→BH v c→Fr h0 h []→
  dr env (Ro v c N i op)→
  (∀(h':Heap) (v':AV) (e':Env),Tr.get e' 2=some v'→fI h0.next h' v' (FX L)→Fr h0 h' []→Q (.exit 0) e' h')→
  VC fs ms B false (.loop me) env h Q:=by
 intro k;induction k using Nat.strongRecOn with
 |ind k ih=>
 intro i h v env hk hh hi hr ho lq dF hQ;refine aH 5 (Ro v c N i op) dF ?_;refine dI (z:=true) ?_;unfold Ro;conv=>whnf
 refine br (fun hc=>?_) (fun hc=>?_)<;>(try rw[hc])<;>(conv=>whnf)
 ·have hlt:i<L.length:=by have:=of_decide_eq_true hc;omega
  refine⟨_,aJ (by omega),?_⟩;conv=>whnf
  refine⟨_,hh.one hlt,?_⟩;conv=>whnf
  refine bW (bq aj rfl (Nat.le_refl _) rfl) fun h1 e1=>?_;conv=>whnf
  have dy:Fr h h1 []:=by rw[e1];exact((Fr.refl h []).new (x:=_)).ki (Nat.le_refl _)
  have gb:h1.get h.next=some (.cells (ob (gI L i)).cells true 0):=by rw[e1,ay];rfl
  clear e1;refine⟨_,aT gb rfl,?_⟩;conv=>whnf
  have Bp:=hr.keep dy;have hlo:h0.next≤h1.next:=Nat.le_trans lq.next dy.next;obtain⟨v',g',a1,a2,a3,a4,a5⟩:=Bp.app hlo (by rw[Nn,List.length_take];omega) ((gI L i).1:Int);refine bW a1 fun h2 e2=>?_;subst e2;conv=>whnf
  have kY:c<h.next:=hh.lb;have YS:c<h1.next:=Nat.lt_of_lt_of_le kY dy.next;refine ih (N-(i+1)) (by omega) (i+1) h2 v' _ rfl ⟨?_,by omega⟩ (by omega) (by rw[IV hlt];exact a2) (a5 c YS) ⟨by omega,fun b hb _=>?_⟩ ⟨rfl,rfl,rfl,aK (by omega),trivial⟩ hQ
  ·rw[a4 c YS ho,dy.keep c kY (by simp)];exact hh.hb
  ·have hob:BH v b:=by
    rcases hr with⟨_,rfl⟩|⟨b',uV,_,rfl,_⟩
    ·intro o n k op e;cases e
    ·intro o n k op e;cases e;omega
   rw[a4 b (Nat.lt_of_lt_of_le hb hlo) hob,dy.keep b (Nat.lt_of_lt_of_le hb lq.next) (by simp)];exact lq.keep b hb (by simp)
 ·have hge:i=N:=by have:=of_decide_eq_false hc;omega
  subst hge;refine hQ h v _ rfl ?_ lq;rw[←hL,List.take_length] at hr;exact hr
theorem Km:PC fs ms 175 [.aL,zk] (.cq []):=by
 refine cr rfl rfl ?_;refine ak (af:=GZ) false rfl (Nat.le_of_ble_eq_true rfl) ?_;generalize hQ:(fun(u:AV) (_:Heap)=>u=.cq [])=Q;conv=>whnf
 obtain⟨m,hm⟩:=O4 (n:=0) (by omega);refine aR hm ?_;conv=>whnf
 refine ak (af:=G1) false rfl (Nat.le_of_ble_eq_true rfl) ?_;conv=>whnf
 refine dI (z:=false) ?_;conv=>whnf
 refine ak (af:=G2) false rfl (Nat.le_of_ble_eq_true rfl) ?_;conv=>whnf
 refine dI (z:=false) ?_;conv=>whnf
 subst hQ;rfl
structure Ord(L M:List Id):Prop where
 len:M.length=L.length
 mem:∀y,y∈M↔y∈L
 dst:PO M
 srt:G6 M 0 M.length
theorem No{h:Heap}{k p:Nat}{S:List Nat}{L:List Id}{P:Nat→Nat}(hr:xS h k p S L P)(h12:L.length≤12){Q:AV→Heap→Prop}
  (hQ:∀h' v M,fI h.next h' v (FX M)→Ord L M→Fr h h' []→Q v h'):VD fs ms 147 [.ptr k 0] h Q:=by
 refine bY (af:=LA) rfl (Nat.le_of_ble_eq_true rfl) ?_;conv=>whnf
 refine aF true ?_;conv=>whnf
 refine aF true ?_;conv=>whnf
 refine Dg hr ?_;conv=>whnf
 obtain⟨rv,c1,c2⟩:=MK hr.row hr.pl.BA;refine aF true ?_;conv=>whnf
 refine⟨_,aT hr.hk rfl,?_⟩;conv=>whnf
 refine⟨_,c1,?_⟩;conv=>whnf
 refine c2 (fun hL=>?_) fun h1 c es op hs hc fr=>?_
 ·conv=>whnf
  refine aF true ?_;conv=>whnf
  refine aR Km ?_;conv=>whnf
  refine aF true ?_;conv=>whnf
  refine dI (z:=true) ?_;conv=>whnf
  refine aq (z:=true) ?_;conv=>whnf
  subst hL;refine hQ h .aL [] (.inl ⟨rfl,rfl⟩) ⟨rfl,fun y=>Iff.rfl,?_,?_⟩ (Fr.refl _ _)
  ·intro i j hi;simp at hi
  ·intro i j h1 h2 h3;simp at h3
 ·conv=>whnf
  refine aF true ?_;conv=>whnf
  refine Kl hs h12 fun h2 M k1 k2 k3 k4=>?_;conv=>whnf
  have Wm:=k2.len;have hd:PO M:=k2.dst hr.pl.tu;have ey:Fr h h2 []:=⟨Nat.le_trans fr.next k4.next,fun b hb _=>by
   rw[k4.keep b (Nat.lt_of_lt_of_le hb fr.next) (by simp;omega)];exact fr.keep b hb (by simp)⟩
  refine bu (aF true ?_);conv=>whnf
  refine bx ?_;have SJ:=hr.pl.BA;refine IW (L:=M) (N:=L.length) SJ Wm.symm hc _ 0 h2 .aL _ rfl k1 (Nat.zero_le _) (.inl ⟨rfl,rfl⟩) (fun o n k op e=>by cases e) ey ⟨rfl,rfl,rfl,rfl,trivial⟩ ?_;intro h3 v e3 g2 hi hf;show VC fs ms _ _ _ _ _ _;refine aH 3 [(2,v)] ⟨g2,trivial⟩ (aq (z:=true) ?_);conv=>whnf
  refine hQ h3 v M hi ⟨Wm.symm,fun y=>?_,hd,by rw[←Wm];exact k3⟩ hf;rw[iF,iF];have:=k2.mem y;rw[←Wm];constructor
  ·rintro⟨i,hi,e⟩;obtain⟨j,_,j1,j2⟩:=this.2 ⟨i,Nat.zero_le _,hi,e⟩;exact⟨j,j1,j2⟩
  ·rintro⟨i,hi,e⟩;obtain⟨j,_,j1,j2⟩:=this.1 ⟨i,Nat.zero_le _,hi,e⟩;exact⟨j,j1,j2⟩
structure xR(h:Heap)(q:Nat)(S:List Nat)(n:Int)(L:List Id):Prop where
 ex:∃k p S' P,S=q::S'∧q∉S'∧xS h k p S' L P∧h.get q=some (.cells [.ptr k 0,.int .i64 n] true 0)∧q<h.next
 n4:n≤4
 ids:∀y∈L,(y.1:Int)<n
theorem xR.own{h:Heap}{q:Nat}{S:List Nat}{n:Int}{L:List Id}(hq:xR h q S n L):∀b∈S,b<h.next:=by
 obtain⟨k,p,S',P,rfl,hn,hr,hg,hl⟩:=hq.ex;intro b hb;rcases List.mem_cons.1 hb with rfl|hb
 ·exact hl
 ·exact hr.own.2.2 b hb
theorem xR.dst{h:Heap}{q:Nat}{S:List Nat}{n:Int}{L:List Id}(hq:xR h q S n L):PO L:=by
 obtain⟨k,p,S',P,rfl,hn,hr,hg,hl⟩:=hq.ex;exact hr.pl.tu
theorem xR.uniq{h:Heap}{q:Nat}{S:List Nat}{n:Int}{L:List Id}(hq:xR h q S n L){x y:Id}(hx:x∈L)(hy:y∈L)(e:x.1=y.1):x=y:=by
 obtain⟨k,p,S',P,rfl,hn,hr,hg,hl⟩:=hq.ex;exact hr.pl.uniq hx hy e
theorem xS.few{h:Heap}{k p:Nat}{S:List Nat}{L:List Id}{P:Nat→Nat}(hr:xS h k p S L P){n:Int}(h4:n≤4)(hi:∀y∈L,(y.1:Int)<n):L.length≤4:=
 hr.pl.len fun y hy=>by have:=hi y hy;omega
theorem xS.keep{h h':Heap}{k p:Nat}{S T:List Nat}{L:List Id}{P:Nat→Nat}(hr:xS h k p S L P)(fr:Fr h h' T)(hd:∀b∈S,b∉T):xS h' k p S L P:=by
 obtain⟨kS,pS,hS⟩:=hr.own;refine⟨by rw[fr.keep k hr.lk (hd k kS)];exact hr.hk,hr.ne,Nat.lt_of_lt_of_le hr.lk fr.next,Nat.lt_of_lt_of_le hr.lp fr.next,?_,hr.pl,hr.hp⟩;rcases hr.row with⟨h1,h2,h3⟩|⟨r,cap,rest,h1,h2,h3,h4⟩
 ·exact .inl ⟨h1,h2,by rw[fr.keep p hr.lp (hd p pS)];exact h3⟩
 ·have rS:r∈S:=by rw[h1];simp
  exact .inr ⟨r,cap,rest,h1,h2,h3,⟨by rw[fr.keep p hr.lp (hd p pS)];exact h4.hp,by rw[fr.keep r h4.lr (hd r rS)];exact h4.hr,h4.ne,Nat.lt_of_lt_of_le h4.lp fr.next,Nat.lt_of_lt_of_le h4.lr fr.next⟩⟩
theorem xR.keep{h h':Heap}{q:Nat}{S T:List Nat}{n:Int}{L:List Id}(hq:xR h q S n L)(fr:Fr h h' T)(hd:∀b∈S,b∉T):xR h' q S n L:=by
 obtain⟨k,p,S',P,rfl,hn,hr,hg,hl⟩:=hq.ex;exact⟨⟨k,p,S',P,rfl,hn,hr.keep fr fun b hb=>hd b (List.mem_cons_of_mem _ hb),by rw[fr.keep q hl (hd q List.mem_cons_self)];exact hg,Nat.lt_of_lt_of_le hl fr.next⟩,hq.n4,hq.ids⟩
theorem Sg{h:Heap}{Q:AV→Heap→Prop}(hQ:∀h' k p,xS h' k p [k,p] [] (fun _=>0)→h.next≤k→h.next≤p→Fr h h' []→Q (.ptr k 0) h'):VD fs ms 103 [] h Q:=by
 refine ak (af:=KU) true rfl (Nat.le_of_ble_eq_true rfl) ?_;conv=>whnf
 refine hQ _ (h.next+1) h.next ⟨?_,by omega,?_,?_,.inl ⟨rfl,rfl,?_⟩,?_,?_⟩ (by omega) (by omega) ((Fr.refl h []).new.new)
 ·exact aj (h:=h.new _)
 ·exact Nat.lt_succ_self _
 ·show h.next<h.next+1+1;omega
 ·refine(aA (h:=h.new _) (Nat.lt_succ_self _)).trans (aj.trans ?_);rfl
 ·refine⟨?_,?_,?_⟩
  ·intro i hi;simp at hi
  ·intro i hi;simp at hi
  ·intro d _ hd;simp at hd
 ·intro i _ hi;simp at hi
theorem UB{h:Heap}(n:Int){Q:AV→Heap→Prop}(h1:n<0∨4<n→Q (.cq [.aQ,.int .i64 2]) h)
  (h2:0≤n→n≤4→∀h' q S,xR h' q S n []→(∀b∈S,h.next≤b)→Fr h h' []→Q (.cq [.ptr q 0,.int .i64 0]) h'):VD fs ms 39 [.int .i64 n] h Q:=by
 refine ak (af:=Vo) true rfl (Nat.le_of_ble_eq_true rfl) ?_;conv=>whnf
 refine br (fun hc=>?_) (fun hc=>?_)<;>(try rw[hc])<;>(conv=>whnf)
 ·exact h1 (.inl (of_decide_eq_true hc))
 ·have hn0:¬n<0:=of_decide_eq_false hc;refine br (fun hc=>?_) (fun hc=>?_)<;>(try rw[hc])<;>(conv=>whnf)
  ·exact h1 (.inr (of_decide_eq_true hc))
  ·have Nh:¬4<n:=of_decide_eq_false hc;refine Sg fun h' k p hr hk hp fr=>?_;conv=>whnf
   have lk:=hr.lk;have lp:=hr.lp;refine h2 (by omega) (by omega) _ h'.next (h'.next::[k,p]) ⟨⟨k,p,[k,p],_,rfl,by simp;omega,hr.keep (Fr.refl h' []).new (by simp),aj,Nat.lt_succ_self _⟩,by omega,fun y hy=>by simp at hy⟩ ?_ ?_
   ·intro b hb;simp at hb;have:=fr.next;omega
   ·exact fr.new
theorem vm{h:Heap}{q:Nat}{S:List Nat}{n:Int}{L:List Id}(hq:xR h q S n L){Q:AV→Heap→Prop}(hQ:Q (.bool false) h):VD fs ms 110 [.ptr q 0] h Q:=by
 obtain⟨k,p,S',P,rfl,hn,hr,hg,hl⟩:=hq.ex;refine ak (af:=KZ) true rfl (Nat.le_of_ble_eq_true rfl) ?_;conv=>whnf
 refine⟨_,aT hg rfl,?_⟩;conv=>whnf
 exact hQ
theorem Sb{h:Heap}{q:Nat}{S:List Nat}{n:Int}{L:List Id}(hq:xR h q S n L)(id d:Int){Q:AV→Heap→Prop}(h1:id<0∨n≤id→Q (.int .i64 9) h)(h2:¬(id<0∨n≤id)→d<0∨1099511627840<d→Q (.int .i64 2) h)
  (h3:¬(id<0∨n≤id)→¬(d<0∨1099511627840<d)→∀y∈L,id=(y.1:Int)→Q (.int .i64 141) h)
  (h4:¬(d<0∨1099511627840<d)→∀i:Nat,id=i→id<n→(∀y∈L,y.1≠i)→∀h' S' L',xR h' q S' n L'→(∀y,y∈L'↔y∈L∨y=(i,d))→Own h h' S S'→Q (.int .i64 0) h'):VD fs ms 97 [.ptr q 0,.int .i64 id,.int .i64 d] h Q:=by
 refine ak (af:=Wi) true rfl (Nat.le_of_ble_eq_true rfl) ?_;conv=>whnf
 refine vm hq ?_;obtain⟨k,p,S',P,rfl,hn,hr,hg,hl⟩:=hq.ex;conv=>whnf
 have tail:¬(id<0∨n≤id)→¬(d<0∨1099511627840<d)→∀K:AV→Heap→Prop,(∀v h',Q v h'→K v h')→VD fs ms 143 [.ptr k 0,.int .i64 id,.int .i64 d] h K:=by
  intro a1 a2 K hK;refine UK hr id d (fun hb=>?_) (fun y hy e=>hK _ _ (h3 a1 a2 y hy e)) fun i hi i64 hno h' S1 L' P' r1 r2 r3=>?_
  ·have:=hq.n4;omega
  ·have hown:=hr.own.2.2;refine hK _ _ (h4 a2 i hi (by omega) hno h' (q::S1) L' ⟨⟨k,p,S1,P',rfl,?_,r1,?_,Nat.lt_of_lt_of_le hl r3.fr.next⟩,hq.n4,?_⟩ r2 ⟨⟨r3.fr.next,fun b hb hnb=>r3.fr.keep b hb (by simp at hnb;exact hnb.2)⟩,?_⟩)
   ·intro hm;rcases r3.new q hm with h|h
    ·exact hn h
    ·omega
   ·rw[r3.fr.keep q hl hn];exact hg
   ·intro y hy;rcases(r2 y).1 hy with h|h
    ·exact hq.ids y h
    ·subst h;show(i:Int)<n;omega
   ·intro b hb;rcases List.mem_cons.1 hb with rfl|hb
    ·exact .inl List.mem_cons_self
    ·rcases r3.new b hb with h|h
     ·exact .inl (List.mem_cons_of_mem _ h)
     ·exact .inr h
 refine br (fun hc=>?_) (fun hc=>?_)<;>(try rw[hc])<;>(conv=>whnf)
 ·exact h1 (.inl (of_decide_eq_true hc))
 ·have i0:¬id<0:=of_decide_eq_false hc;refine⟨_,aT hg rfl,?_⟩;conv=>whnf
  refine br (fun hc=>?_) (fun hc=>?_)<;>(try rw[hc])<;>(conv=>whnf)
  ·exact h1 (.inr (of_decide_eq_true hc))
  ·have i1:¬n≤id:=of_decide_eq_false hc;have hin:¬(id<0∨n≤id):=by omega
   refine br (fun hc=>?_) (fun hc=>?_)<;>(try rw[hc])<;>(conv=>whnf)
   ·exact h2 hin (.inl (of_decide_eq_true hc))
   ·have d0:¬d<0:=of_decide_eq_false hc;refine br (fun hc=>?_) (fun hc=>?_)<;>(try rw[hc])<;>(conv=>whnf)
    ·exact h2 hin (.inr (of_decide_eq_true hc))
    ·have d1:¬1099511627840<d:=of_decide_eq_false hc;refine⟨_,aT hg rfl,?_⟩;conv=>whnf
     refine tail hin (by omega) _ fun v h' hv=>?_;conv=>whnf
     exact hv
theorem Gp{h:Heap}{q:Nat}{S:List Nat}{n:Int}{L:List Id}(hq:xR h q S n L)(id:Int){Q:AV→Heap→Prop}(h1:(∀y∈L,id≠(y.1:Int))→Q (.bool false) h)
  (h2:∀y:Id,id=(y.1:Int)→y∈L→∀h' S' L',xR h' q S' n L'→(∀z,z∈L'↔z∈L∧z.1≠y.1)→Own h h' S S'→Q (.bool true) h'):VD fs ms 92 [.ptr q 0,.int .i64 id] h Q:=by
 refine ak (af:=Wd) true rfl (Nat.le_of_ble_eq_true rfl) ?_;conv=>whnf
 refine vm hq ?_;obtain⟨k,p,S',P,rfl,hn,hr,hg,hl⟩:=hq.ex;conv=>whnf
 refine⟨_,aT hg rfl,?_⟩;conv=>whnf
 refine JK hr id (fun hno=>?_) fun y hy hyL h' S1 L' P' r1 r2 r3=>?_
 ·conv=>whnf
  exact h1 hno
 ·conv=>whnf
  refine h2 y hy hyL h' (q::S1) L' ⟨⟨k,p,S1,P',rfl,?_,r1,?_,Nat.lt_of_lt_of_le hl r3.fr.next⟩,hq.n4,fun z hz=>hq.ids z ((r2 z).1 hz).1⟩ r2 ⟨⟨r3.fr.next,fun b hb hnb=>r3.fr.keep b hb (by simp at hnb;exact hnb.2)⟩,?_⟩
  ·intro hm;rcases r3.new q hm with h|h
   ·exact hn h
   ·omega
  ·rw[r3.fr.keep q hl hn];exact hg
  ·intro b hb;rcases List.mem_cons.1 hb with rfl|hb
   ·exact .inl List.mem_cons_self
   ·rcases r3.new b hb with h|h
    ·exact .inl (List.mem_cons_of_mem _ h)
    ·exact .inr h
def O2(L:List Id)(x:Id):Prop:=x∈L∧∀y∈L,ah y x=false
theorem Q4{L:List Id}(h:Hp L)(hl:0<L.length):O2 L (gI L 0):=by
 refine⟨iF.2 ⟨0,hl,rfl⟩,fun y hy=>?_⟩;obtain⟨i,hi,rfl⟩:=iF.1 hy;clear hy;induction i using Nat.strongRecOn with
 |ind i ih=>
  rcases Nat.eq_zero_or_pos i with rfl|h0
  ·rw[mG];omega
  ·exact xV (h i h0 hi) (ih ((i-1)/2) (by omega) (by omega))
theorem Jt{h:Heap}{q:Nat}{S:List Nat}{n:Int}{L:List Id}(hq:xR h q S n L){Q:AV→Heap→Prop}(h1:L=[]→Q (.cq [.int .i64 0,.int .i64 0,.bool false]) h)
  (h2:∀x,O2 L x→Q (.cq [.int .i64 (x.1:Nat),.int .i64 x.2,.bool true]) h):VD fs ms 50 [.ptr q 0] h Q:=by
 refine ak (af:=Vw) true rfl (Nat.le_of_ble_eq_true rfl) ?_;conv=>whnf
 refine vm hq ?_;obtain⟨k,p,S',P,rfl,hn,hr,hg,hl⟩:=hq.ex;conv=>whnf
 refine⟨_,aT hg rfl,?_⟩;conv=>whnf
 refine M7 hr (fun hL=>?_) fun Av=>?_
 ·conv=>whnf
  exact h1 hL
 ·conv=>whnf
  exact h2 _ (Q4 hr.hp Av)
theorem N4{h:Heap}{q:Nat}{S:List Nat}{n:Int}{L:List Id}(hq:xR h q S n L){Q:AV→Heap→Prop}(hQ:∀h' v M,fI h.next h' v (FX M)→Ord L M→M.length≤4→Fr h h' []→Q v h'):VD fs ms 100 [.ptr q 0] h Q:=by
 refine ak (af:=KR) true rfl (Nat.le_of_ble_eq_true rfl) ?_;conv=>whnf
 refine vm hq ?_;obtain⟨k,p,S',P,rfl,hn,hr,hg,hl⟩:=hq.ex;conv=>whnf
 have aaQ:=hr.few hq.n4 hq.ids;refine⟨_,aT hg rfl,?_⟩;conv=>whnf
 refine No hr (by omega) fun h' v M k1 k2 k3=>?_;conv=>whnf
 exact hQ h' v M k1 k2 (by have:=k2.len;omega) k3
theorem fI.read{lo:Nat}{h:Heap}{v:AV}{l:List Int}(hr:fI lo h v l):pV .bL [v]=some (.int .i64 ((l.length:Nat):Int))∧∀i,i<l.length→∃b,pV (.az 1) [v,.int .i64 ((i:Nat):Int)]=some (.ptr b (i*1))∧rV .ck [.ptr b (i*1)] h=some (.int .i64 (l.getD i 0)):=by
 rcases hr with⟨rfl,rfl⟩|⟨b,h1,h2,rfl,h4⟩
 ·exact⟨rfl,fun i hi=>by simp at hi⟩
 ·refine⟨rfl,fun i hi=>⟨b,?_,aT h4 ?_⟩⟩
  ·exact aJ hi
  ·rw[Nat.mul_one,ints,List.getElem?_map,List.getD_eq_getElem?_getD,List.getElem?_eq_getElem hi];rfl
structure rQ(h:Heap)(m b es:Nat)(op:Bool)(D:List Int):Prop where
 hm:h.get m=some (.cells [.sl b 0 D.length D.length op] true 0)
 hb:h.get b=some (.cells (ints D) true es)
 ne:m≠b
 lm:m<h.next
 lb:b<h.next
theorem rQ.keep{h h':Heap}{m b es:Nat}{op:Bool}{D:List Int}{T:List Nat}(hh:rQ h m b es op D)(fr:Fr h h' T)(h1:m∉T)(h2:b∉T):rQ h' m b es op D:=
 ⟨by rw[fr.keep m hh.lm h1];exact hh.hm,by rw[fr.keep b hh.lb h2];exact hh.hb,hh.ne,Nat.lt_of_lt_of_le hh.lm fr.next,Nat.lt_of_lt_of_le hh.lb fr.next⟩
def gD(D:List Int)(i:Nat):Int:=D.getD i 0
theorem TC{D:List Int}{i:Nat}(h:i<D.length):gD D i=D[i]:=by simp[gD,List.getD_eq_getElem?_getD,List.getElem?_eq_getElem h]
theorem rQ.row{h:Heap}{m b es:Nat}{op:Bool}{D:List Int}(hh:rQ h m b es op D):rV .ck [.ptr m 0] h=some (.sl b 0 D.length D.length op):=aT hh.hm rfl
theorem rQ.get{h:Heap}{m b es:Nat}{op:Bool}{D:List Int}(hh:rQ h m b es op D){i:Nat}(hi:i<D.length):rV .ck [.ptr b (i*1)] h=some (.int .i64 (gD D i)):=by
 refine aT hh.hb ?_;rw[Nat.mul_one,ints,List.getElem?_map,List.getElem?_eq_getElem hi,TC hi];rfl
theorem ints_set{D:List Int}{i:Nat}(hi:i<D.length)(x:Int):Heap.splice (ints D) (i*1) [.int .i64 x]=ints (D.set i x):=by
 rw[Nat.mul_one,nq _ _ _ (by rw[bI];exact hi),ints,ints,List.map_set]
theorem rQ.put{h:Heap}{m b es:Nat}{op:Bool}{D:List Int}(hh:rQ h m b es op D){i:Nat}(hi:i<D.length)(x:Int):eV (.store 1) [.ptr b (i*1),.int .i64 x] h=some (.undef,h.set b (.cells (ints (D.set i x)) true es)):=by
 rw[←ints_set hi];exact bq (n:=1) (v:=.int .i64 x) hh.hb rfl (by rw[bI,Nat.mul_one];exact hi) rfl
theorem rQ.next{h:Heap}{m b es:Nat}{op:Bool}{D:List Int}(hh:rQ h m b es op D)(i:Nat)(x:Int):rQ (h.set b (.cells (ints (D.set i x)) true es)) m b es op (D.set i x):=
 ⟨by rw[aX hh.ne,List.length_set];exact hh.hm,ay,hh.ne,hh.lm,hh.lb⟩
def vR(D:List Int)(id:Int):Bool:=decide (0≤id)&&(decide (id<(D.length:Int))&&decide (0≤gD D id.toNat))
theorem Ic{h:Heap}{m b es:Nat}{op:Bool}{D:List Int}(hh:rQ h m b es op D)(id:Int){Q:AV→Heap→Prop}(hQ:Q (.bool (vR D id)) h):VD fs ms 128 [.ptr m 0,.int .i64 id] h Q:=by
 refine ak (af:=Li) true rfl (Nat.le_of_ble_eq_true rfl) ?_;unfold vR at hQ;conv=>whnf
 refine br (fun hc=>?_) (fun hc=>?_)<;>(try rw[hc])<;>(conv=>whnf)
 ·have h0:0≤id:=of_decide_eq_true hc;obtain⟨i,rfl⟩:∃i:Nat,id=i:=⟨id.toNat,by omega⟩;rw[decide_eq_true h0] at hQ;refine⟨_,hh.row,?_⟩;conv=>whnf
  refine br (fun hc=>?_) (fun hc=>?_)<;>(try rw[hc])<;>(conv=>whnf)
  ·have h1:i<D.length:=by have:=of_decide_eq_true hc;omega
   refine⟨_,hh.row,?_⟩;conv=>whnf
   refine⟨_,aJ h1,?_⟩;conv=>whnf
   refine⟨_,hh.get h1,?_⟩;conv=>whnf
   have fV:decide ((i:Int)<(D.length:Int))=true:=hc;rw[fV,Bool.true_and,Bool.true_and] at hQ;exact hQ
  ·have fV:decide ((i:Int)<(D.length:Int))=false:=hc;rw[fV,Bool.true_and,Bool.false_and] at hQ;exact hQ
 ·rw[hc,Bool.false_and] at hQ;exact hQ
theorem RJ{h:Heap}{m b es:Nat}{op:Bool}{D:List Int}(hh:rQ h m b es op D)(id d:Int){Q:AV→Heap→Prop}(h1:id<0∨(D.length:Int)≤id→Q (.int .i64 9) h)(h2:¬(id<0∨(D.length:Int)≤id)→d<0∨1099511627840<d→Q (.int .i64 2) h)
  (h3:¬(id<0∨(D.length:Int)≤id)→¬(d<0∨1099511627840<d)→0≤gD D id.toNat→Q (.int .i64 141) h)
  (h4:¬(d<0∨1099511627840<d)→∀i:Nat,id=i→i<D.length→gD D i<0→∀h',rQ h' m b es op (D.set i d)→Fr h h' [b]→Q (.int .i64 0) h'):VD fs ms 117 [.ptr m 0,.int .i64 id,.int .i64 d] h Q:=by
 refine ak (af:=K6) true rfl (Nat.le_of_ble_eq_true rfl) ?_;conv=>whnf
 refine br (fun hc=>?_) (fun hc=>?_)<;>(try rw[hc])<;>(conv=>whnf)
 ·exact h1 (.inl (of_decide_eq_true hc))
 ·have i0:¬id<0:=of_decide_eq_false hc;refine⟨_,hh.row,?_⟩;conv=>whnf
  refine br (fun hc=>?_) (fun hc=>?_)<;>(try rw[hc])<;>(conv=>whnf)
  ·exact h1 (.inr (of_decide_eq_true hc))
  ·have i1:¬(D.length:Int)≤id:=of_decide_eq_false hc;have hin:¬(id<0∨(D.length:Int)≤id):=by omega
   obtain⟨i,rfl⟩:∃i:Nat,id=i:=⟨id.toNat,by omega⟩;refine br (fun hc=>?_) (fun hc=>?_)<;>(try rw[hc])<;>(conv=>whnf)
   ·exact h2 hin (.inl (of_decide_eq_true hc))
   ·have d0:¬d<0:=of_decide_eq_false hc;refine br (fun hc=>?_) (fun hc=>?_)<;>(try rw[hc])<;>(conv=>whnf)
    ·exact h2 hin (.inr (of_decide_eq_true hc))
    ·have d1:¬1099511627840<d:=of_decide_eq_false hc;have hdn:¬(d<0∨1099511627840<d):=by omega
     refine Ic hh _ ?_;conv=>whnf
     cases hb:vR D (i:Int) with
     |true=>
      have hb':=hb;simp only[vR,Bool.and_eq_true,decide_eq_true_eq] at hb';conv=>whnf
      exact h3 hin hdn hb'.2.2
     |false=>
      have hneg:gD D i<0:=by
       simp only[vR,Bool.and_eq_false_iff,decide_eq_false_iff_not,Int.toNat_natCast] at hb;omega
      conv=>whnf
      refine⟨_,hh.row,?_⟩;conv=>whnf
      refine⟨_,aJ (by omega),?_⟩;conv=>whnf
      refine bW (hh.put (by omega) d) fun h' e'=>?_;conv=>whnf
      exact h4 hdn i rfl (by omega) hneg h' (by rw[e'];exact hh.next i d) (by rw[e'];exact(Fr.refl h [b]).set (by simp))
theorem Gd{h:Heap}{m b es:Nat}{op:Bool}{D:List Int}(hh:rQ h m b es op D)(id:Int){Q:AV→Heap→Prop}(h1:vR D id=false→Q (.bool false) h)
  (h2:∀i:Nat,id=i→i<D.length→0≤gD D i→∀h',rQ h' m b es op (D.set i (-1))→Fr h h' [b]→Q (.bool true) h'):VD fs ms 126 [.ptr m 0,.int .i64 id] h Q:=by
 refine ak (af:=Lg) true rfl (Nat.le_of_ble_eq_true rfl) ?_;conv=>whnf
 refine Ic hh id ?_;conv=>whnf
 cases hb:vR D id with
 |false=>
  conv=>whnf
  exact h1 hb
 |true=>
  simp only[vR,Bool.and_eq_true,decide_eq_true_eq] at hb;obtain⟨i,rfl⟩:∃i:Nat,id=i:=⟨id.toNat,by omega⟩;conv=>whnf
  refine⟨_,hh.row,?_⟩;conv=>whnf
  refine⟨_,aJ (by omega),?_⟩;conv=>whnf
  refine bW (hh.put (by omega) (-1)) fun h' e'=>?_;conv=>whnf
  exact h2 i rfl (by omega) hb.2.2 h' (by rw[e'];exact hh.next i (-1)) (by rw[e'];exact(Fr.refl h [b]).set (by simp))
theorem rQ.grow{h:Heap}{m b es:Nat}{op:Bool}{D:List Int}(hh:rQ h m b es op D)(ho:(D=[]∧op=false)∨(op=true∧es=1))(hl:D.length≤1000)(x:Int):∃v' g',eV (.append 1 8) [.sl b 0 D.length D.length op,.sl h.next 0 1 1 false] (h.new (.cells [.int .i64 x] true 0))=some (v',g')∧
  g'.get m=h.get m∧v'=.sl (h.next+1) 0 (D.length+1) (D.length+1) true∧g'.next=h.next+2∧g'.get (h.next+1)=some (.cells (ints (D++[x])) true 1)∧∀c,c<h.next→c≠b→g'.get c=h.get c:=by
 have hsrc:dm 1 (h.new (.cells [.int .i64 x] true 0)) (.sl h.next 0 1 1 false)=some (1,[.int .i64 x]):=ql aj rfl;have hb:(h.new (.cells [.int .i64 x] true 0)).get b=some (.cells (ints D) true es):=by rw[aA hh.lb];exact hh.hb
 have key:∀c,c<h.next→c≠b→((h.new (.cells [.int .i64 x] true 0)).new (.cells (ints (D++[x])) true 1)).get c=h.get c:=fun c hc _=>
  (aA (h:=h.new (.cells [.int .i64 x] true 0)) (show c<h.next+1 by omega)).trans (aA hc)
 rcases ho with⟨rfl,rfl⟩|⟨rfl,rfl⟩
 ·refine⟨_,_,xY (n:=0) hb hsrc rfl (by omega) (by omega),key m hh.lm hh.ne,rfl,rfl,aj (h:=h.new (.cells [.int .i64 x] true 0)),key⟩
 ·have hi:ints D++[.int .i64 x]=ints (D++[x]):=by simp[ints]
  have Uy:∀c,c<h.next→c≠b→(((h.new (.cells [.int .i64 x] true 0)).del b).new (.cells (ints D++[.int .i64 x]) true 1)).get c=h.get c:=fun c hc hn=>
   (aA (h:=(h.new (.cells [.int .i64 x] true 0)).del b) (show c<h.next+1 by omega)).trans ((ep hn).trans (aA hc))
  refine⟨_,_,mT hb (by rw[bI,Nat.mul_one]) hsrc rfl (by omega) (by omega),Uy m hh.lm hh.ne,rfl,rfl,?_,Uy⟩;rw[←hi];exact aj (h:=(h.new (.cells [.int .i64 x] true 0)).del b)
def rep(i:Nat):List Int:=List.replicate i (-1)
theorem Of(i:Nat):(rep i).length=i:=List.length_replicate ..
theorem BX(i:Nat):rep (i+1)=rep i++[-1]:=List.replicate_succ' ..
theorem Gc{n m:Nat}{h0:Heap}{B:Nat}{Q:AX→Env→Heap→Prop}(h4:n≤4)(hm0:h0.next≤m):
  ∀(k i:Nat) (h:Heap) (b es:Nat) (op:Bool) (env:Env),n-i=k→rQ h m b es op (rep i)→h0.next≤b→(rep i=[]∧op=false)∨(op=true∧es=1)→i≤n→Fr h0 h []→
  dr env [(0,.int .i64 ((n:Nat):Int)),(4,.ptr m 0),(5,.int .i64 ((i:Nat):Int))]→
  (∀(h':Heap) (b' es':Nat) (op':Bool) (e':Env),Tr.get e' 4=some (.ptr m 0)→rQ h' m b' es' op' (rep n)→h0.next≤b'→Fr h0 h' []→Q (.exit 0) e' h')→
  VC fs ms B false (.loop iX) env h Q:=by
 intro k;induction k using Nat.strongRecOn with
 |ind k ih=>
 intro i h b es op env hk hh hb ho hi lq dF hQ;refine aH 3 [(0,.int .i64 ((n:Nat):Int)),(4,.ptr m 0),(5,.int .i64 ((i:Nat):Int))] dF ?_;refine dI (z:=true) ?_;conv=>whnf
 refine br (fun hc=>?_) (fun hc=>?_)<;>(try rw[hc])<;>(conv=>whnf)
 ·have hlt:i<n:=by have:=of_decide_eq_true hc;omega
  refine⟨_,hh.row,?_⟩;conv=>whnf
  obtain⟨v',g',a1,a2,a3,a4,a5,a6⟩:=hh.grow ho (by rw[Of];omega) (-1);refine bW a1 fun h1 e1=>?_;subst e1;conv=>whnf
  have lm:=hh.lm;have lb:=hh.lb;refine bW (bq (a2.trans hh.hm) (by subst a3;rfl) (Nat.le_refl _) (by subst a3;rfl)) fun h2 e2=>?_;conv=>whnf
  have Ee:rQ h2 m (h.next+1) 1 true (rep (i+1)):=by
   refine⟨?_,?_,by omega,?_,?_⟩
   ·rw[e2,ay,a3,BX,List.length_append];rfl
   ·rw[e2,aX (by omega),BX];exact a5
   ·rw[e2];show m<h1.next;omega
   ·rw[e2];show h.next+1<h1.next;omega
  have ey:Fr h0 h2 []:=by
   have:=lq.next;refine⟨by rw[e2];show h0.next≤h1.next;omega,fun c hc _=>?_⟩;rw[e2,aX (by omega),a6 c (by omega) (by omega)];exact lq.keep c hc (by simp)
  refine ih (n-(i+1)) (by omega) (i+1) h2 (h.next+1) 1 true _ rfl Ee (by have:=lq.next;omega) (.inr ⟨rfl,rfl⟩) (by omega) ey ⟨rfl,rfl,aK (by omega),trivial⟩ hQ
 ·have hge:i=n:=by have:=of_decide_eq_false hc;omega
  subst hge;exact hQ h b es op _ rfl hh hb lq
theorem RI{h:Heap}(n:Int){Q:AV→Heap→Prop}(h1:n<0∨4<n→Q (.cq [.aQ,.int .i64 2]) h)
  (h2:∀i:Nat,n=i→i≤4→∀h' m b es op,rQ h' m b es op (rep i)→h.next≤m→h.next≤b→Fr h h' []→Q (.cq [.ptr m 0,.int .i64 0]) h'):VD fs ms 57 [.int .i64 n] h Q:=by
 refine bY (af:=VF) rfl (Nat.le_of_ble_eq_true rfl) ?_;conv=>whnf
 refine aF true ?_;conv=>whnf
 refine aF true ?_;conv=>whnf
 refine br (fun hc=>?_) (fun hc=>?_)<;>(try rw[hc])<;>(conv=>whnf)
 ·exact h1 (.inl (of_decide_eq_true hc))
 ·have hn0:¬n<0:=of_decide_eq_false hc;refine br (fun hc=>?_) (fun hc=>?_)<;>(try rw[hc])<;>(conv=>whnf)
  ·exact h1 (.inr (of_decide_eq_true hc))
  ·have Nh:¬4<n:=of_decide_eq_false hc;obtain⟨i,rfl⟩:∃i:Nat,n=i:=⟨n.toNat,by omega⟩;refine aF true ?_;conv=>whnf
   refine bu (aF true ?_);conv=>whnf
   refine bx ?_;refine Gc (h0:=h) (n:=i) (m:=h.next+1) (by omega) (by omega) _ 0 _ h.next 0 false _ rfl ⟨?_,?_,by omega,?_,?_⟩ (Nat.le_refl _) (.inl ⟨rfl,rfl⟩) (Nat.zero_le _) (Fr.refl h []).new.new ⟨rfl,rfl,rfl,trivial⟩ ?_
   ·exact aj (h:=h.new _)
   ·exact(aA (h:=h.new _) (Nat.lt_succ_self _)).trans aj
   ·exact Nat.lt_succ_self _
   ·show h.next<h.next+1+1;omega
   intro h' b' es' op' e' g4 k1 k2 k3;show VC fs ms _ _ _ _ _ _;refine aH 3 [(4,.ptr (h.next+1) 0)] ⟨g4,trivial⟩ (aq (z:=true) ?_);conv=>whnf
   exact h2 i rfl (by omega) h' _ b' es' op' k1 (by omega) k2 k3
end Ir
end Go.Proofs.YtnlcabhfkpafmaaGreat
namespace Go.Proofs.YtnlcabhfkpafmaaGreat
open Go Ads
namespace Ads
theorem Fk{h:Heap}{s bytes b m n:Nat}{vs cs:List AV}{x:AV}(hg:h.get b=some (.cells vs true s))(hv:vs.length=m*s)(hsrc:dm s h x=some (n+1,cs))(hf:bA cs=true)(hb:bytes≤1048576)(hm:m+n≤1048576):
  eV (.append s bytes) [.sl b 0 m m true,x] h=some (.sl h.next 0 (m+(n+1)) (m+(n+1)) true,(h.del b).new (.cells (vs++cs) true s)):=by
 have hmu:(m+(n+1))*bytes≤1048577*1048576:=Nat.mul_le_mul (by omega) hb;have b1:Nat.ble (m+(n+1)) m=false:=by
  cases hb:Nat.ble (m+(n+1)) m with
  |false=>rfl
  |true=>have:=Nat.le_of_ble_eq_true hb;omega
 have b2:Nat.ble ((m+(n+1))*bytes) 140737488355328=true:=Nat.ble_eq_true_of_le (by omega);have b3:Nat.ble (m+(n+1)) 9223372036854775807=true:=Nat.ble_eq_true_of_le (by omega);have b4:Nat.ble (0+m*s) vs.length=true:=Nat.ble_eq_true_of_le (by omega);have b5:Nat.beq vs.length (0+m*s)=true:=by rw[hv,Nat.zero_add];exact Nat.beq_refl _
 have oB:h.aZ b 0 (m*s)=some vs:=by
  simp only[Heap.aZ,Heap.row,hg,b4,cond_true,List.drop_zero];rw[←hv,List.take_length]
 simp only[eV,l2,hsrc];show cond (bA cs) _ _=_;rw[hf,cond_true];show cond (Nat.beq (n+1) 0&&Nat.ble m m) _ _=_;rw[show Nat.beq (n+1) 0=false from rfl,Bool.false_and,cond_false,b1,cond_false,b2,b3,Bool.and_self,cond_true,hg,oB];show cond true (cond (true&&Nat.beq vs.length (0+m*s)&&Nat.beq m m&&Nat.beq s s) _ _) _=_;rw[b5,Nat.beq_refl,Nat.beq_refl];rfl
theorem Hs{h:Heap}{s bytes b m:Nat}{x:AV}{cs:List AV}(hsrc:dm s h x=some (0,cs))(hf:bA cs=true):eV (.append s bytes) [.sl b 0 m m true,x] h=some (.sl b 0 m m true,h):=by
 simp only[eV,l2,hsrc];show cond (bA cs) _ _=_;rw[hf,cond_true];show cond (Nat.beq 0 0&&Nat.ble m m) _ _=_;rw[Nat.ble_eq_true_of_le (Nat.le_refl m)];rfl
theorem Ai{h:Heap}{b o s n cap:Nat}{op wr:Bool}{es:Nat}{vs:List AV}(hg:h.get b=some (.cells vs wr es))(hl:o+n*s≤vs.length):dm s h (.sl b o n cap op)=some (n,(vs.drop o).take (n*s)):=by
 have b1:Nat.ble (o+n*s) vs.length=true:=Nat.ble_eq_true_of_le hl;show(h.aZ b o (n*s)).map _=_;simp only[Heap.aZ,Heap.row,hg,b1,cond_true];rfl
end Ads
namespace Ir
def mb(p:Nat→Bool):List Nat→Nat
 |[]=>0
 |x::l=>if p x then mb p l+1 else 0
theorem r9(p:Nat→Bool):∀l,mb p l≤l.length
 |[]=>Nat.le_refl _
 |x::l=>by
  have:=r9 p l;unfold mb;split
  ·simp;omega
  ·simp
theorem zn(p:Nat→Bool):∀l j,j<mb p l→p (l.getD j 0)=true
 |[],j,h=>by simp[mb] at h
 |x::l,j,h=>by
  unfold mb at h;split at h
  ·rename_i hp;cases j with
   |zero=>exact hp
   |succ j=>exact zn p l j (by omega)
  ·omega
theorem zm(p:Nat→Bool):∀l,mb p l<l.length→p (l.getD (mb p l) 0)=false
 |[],h=>by simp at h
 |x::l,h=>by
  unfold mb at h⊢;split
  ·rename_i hp;rw[if_pos hp] at h;exact zm p l (by simpa using h)
  ·rename_i hp;simpa using hp
def xG(D:List Int)(i:Nat)(x:Nat):Bool:=decide (gD D x≤gD D i)
def dj(D:List Int):Nat→List Nat
 |0=>[]
 |i+1=>if gD D i<0 then dj D i else(dj D i).take (mb (xG D i) (dj D i))++[i]++(dj D i).drop (mb (xG D i) (dj D i))
theorem CF(D:List Int):∀i,(dj D i).length≤i
 |0=>Nat.le_refl _
 |i+1=>by
  have:=CF D i;have:=r9 (xG D i) (dj D i);unfold dj;split
  ·omega
  ·simp only[List.length_append,List.length_take,List.length_drop,List.length_singleton];omega
theorem yd(D:List Int):∀i,∀x∈dj D i,x<i
 |0,x,h=>by simp[dj] at h
 |i+1,x,h=>by
  unfold dj at h;split at h
  ·have:=yd D i x h;omega
  ·simp only[List.mem_append,List.mem_singleton] at h;rcases h with(h|h)|h
   ·have:=yd D i x (List.mem_of_mem_take h);omega
   ·omega
   ·have:=yd D i x (List.mem_of_mem_drop h);omega
def nl(l:List Nat):List Int:=l.map fun x:Nat=>(x:Int)
theorem mK(l:List Nat):(nl l).length=l.length:=by simp[nl]
theorem RN(l:List Nat)(i:Nat):(nl l).getD i 0=((l.getD i 0:Nat):Int):=by
 simp only[nl,List.getD_eq_getElem?_getD,List.getElem?_map];cases l[i]?<;>rfl
theorem Ny{m b es i:Nat}{op:Bool}{D:List Int}{h:Heap}{lo:Nat}{v:AV}{l:List Nat}{B:Nat}{Q:AX→Env→Heap→Prop}(hh:rQ h m b es op D)(hv:fI lo h v (nl l))(hl:∀x∈l,x<D.length)(hi:i<D.length)(hN:l.length≤1000)
  (hQ:∀e',Tr.get e' 0=some (.ptr m 0)→Tr.get e' 3=some v→Tr.get e' 4=some (.int .i64 ((i:Nat):Int))→Tr.get e' 5=some (.int .i64 ((mb (xG D i) l:Nat):Int))→Q (.exit 2) e' h):
  ∀(n k:Nat) (env:Env),mb (xG D i) l-k=n→k≤mb (xG D i) l→dr env [(0,.ptr m 0),(3,v),(4,.int .i64 ((i:Nat):Int)),(5,.int .i64 ((k:Nat):Int))]→
  VC fs ms B false (.loop eZ) env h Q:=by
 have kY:=r9 (xG D i) l;intro n;induction n using Nat.strongRecOn with
 |ind n ih=>
 intro k env hn hk dF;refine aH 3 [(0,.ptr m 0),(3,v),(4,.int .i64 ((i:Nat):Int)),(5,.int .i64 ((k:Nat):Int))] dF ?_;refine dI (z:=true) ?_;conv=>whnf
 refine qc hv.read.1 ?_;conv=>whnf
 rw[mK];refine br (fun hc=>?_) (fun hc=>?_)<;>(try rw[hc])<;>(conv=>whnf)
 ·have hlt:k<l.length:=by have:=of_decide_eq_true hc;omega
  refine⟨_,hh.row,?_⟩;conv=>whnf
  obtain⟨b',r1,r2⟩:=hv.read.2 k (by rw[mK];exact hlt);rw[RN] at r2;have hx:l.getD k 0<D.length:=by
   rw[List.getD_eq_getElem?_getD,List.getElem?_eq_getElem hlt];exact hl _ (List.getElem_mem hlt)
  refine⟨_,r1,?_⟩;conv=>whnf
  refine⟨_,r2,?_⟩;conv=>whnf
  refine⟨_,aJ hx,?_⟩;conv=>whnf
  refine⟨_,hh.get hx,?_⟩;conv=>whnf
  refine⟨_,hh.row,?_⟩;conv=>whnf
  refine⟨_,aJ hi,?_⟩;conv=>whnf
  refine⟨_,hh.get hi,?_⟩;conv=>whnf
  by_cases xA:k<mb (xG D i) l
  ·have hp:=zn (xG D i) l k xA;refine qt (hp) (fun hc=>?_)
   (try rw[hc])
   conv=>whnf
   exact ih (mb (xG D i) l-(k+1)) (by omega) (k+1) _ rfl (by omega) ⟨rfl,rfl,rfl,aK (by omega),trivial⟩
  ·have Wx:k=mb (xG D i) l:=by omega
   have hp:=zm (xG D i) l (by omega);rw[←Wx] at hp;refine nE (hp) (fun hc=>?_)
   (try rw[hc])
   conv=>whnf
   exact hQ _ rfl rfl rfl (by rw[←Wx];rfl)
 ·have hge:l.length≤k:=by have:=of_decide_eq_false hc;omega
  have Wx:k=mb (xG D i) l:=by omega
  exact hQ _ rfl rfl rfl (by rw[←Wx];rfl)
theorem fI.pre{lo:Nat}{h:Heap}{v:AV}{l:List Int}(hr:fI lo h v l)(hl:l.length≤1000){k:Nat}(hk:k≤l.length):
  ∃s1,pV (.slice 1 false true false) [v,.int .i64 ((k:Nat):Int)]=some s1∧∃v1 g1,eV (.append 1 8) [.aL,s1] h=some (v1,g1)∧fI h.next g1 v1 (l.take k)∧Fr h g1 []:=by
 rcases hr with⟨rfl,rfl⟩|⟨b,h1,h2,rfl,h4⟩
 ·have:k=0:=by simpa using hk
  subst this;exact⟨.aL,rfl,.aL,h,rfl,.inl ⟨rfl,rfl⟩,Fr.refl _ _⟩
 ·refine⟨_,Jq hk,?_⟩;have hsrc:dm 1 h (.sl b 0 k l.length true)=some (k,((ints l).drop 0).take (k*1)):=Ai h4 (by rw[bI];omega);rw[List.drop_zero,Nat.mul_one,ints,←List.map_take] at hsrc;cases k with
  |zero=>exact⟨.aL,h,Fl (nx:=h.next) (tr:=h.m) hsrc rfl,.inl ⟨rfl,rfl⟩,Fr.refl _ _⟩
  |succ k=>
   have hlt:(l.take (k+1)).length=k+1:=by rw[List.length_take];omega
   refine⟨_,_,Fm (nx:=h.next) (tr:=h.m) (by omega) (by omega) hsrc (q6 (l.take (k+1))),.inr ⟨h.next,Nat.le_refl _,Nat.lt_succ_self _,by rw[hlt],aj⟩,(Fr.refl h []).new⟩
theorem fI.post{lo SS:Nat}{h:Heap}{v v2:AV}{l l2:List Int}(hr:fI lo h v l)(xD:fI SS h v2 l2)(hne:0<l2.length)(hl:l.length≤1000)(SN:l2.length≤1000)(hlo:SS≤h.next){k:Nat}(hk:k≤l.length):
  ∃s1,pV (.slice 1 true false false) [v,.int .i64 ((k:Nat):Int)]=some s1∧∃v3 g3,eV (.append 1 8) [v2,s1] h=some (v3,g3)∧fI SS g3 v3 (l2++l.drop k)∧h.next≤g3.next∧∀c,c<SS→c<h.next→g3.get c=h.get c:=by
 rcases xD with⟨rfl,_⟩|⟨b2,g1,g2,rfl,g4⟩
 ·simp at hne
 have hsame:∀{s1},dm 1 h s1=some (0,[])→l.drop k=[]→∃v3 g3,eV (.append 1 8) [.sl b2 0 l2.length l2.length true,s1] h=some (v3,g3)∧fI SS g3 v3 (l2++l.drop k)∧h.next≤g3.next∧∀c,c<SS→c<h.next→g3.get c=h.get c:=by
  intro s1 hs hd;rw[hd,List.append_nil];exact⟨_,_,Hs hs rfl,.inr ⟨b2,g1,g2,rfl,g4⟩,Nat.le_refl _,fun c _ _=>rfl⟩
 rcases hr with⟨rfl,rfl⟩|⟨b,h1,h2,rfl,h4⟩
 ·have:k=0:=by simpa using hk
  subst this;exact⟨.aL,rfl,hsame rfl rfl⟩
 ·have bk:Nat.ble k l.length=true:=Nat.ble_eq_true_of_le hk;have b3:bounds l.length l.length true false false [.int .i64 ((k:Nat):Int)]=some (k,l.length,l.length):=by
   show cond (Nat.ble k l.length&&Nat.ble l.length l.length&&Nat.ble l.length l.length) (some (k,l.length,l.length)) none=_;rw[bk,Nat.ble_eq_true_of_le (Nat.le_refl l.length)];rfl
  have SQ:pV (.slice 1 true false false) [.sl b 0 l.length l.length true,.int .i64 ((k:Nat):Int)]=cond (Nat.beq l.length k&&Nat.beq l.length l.length&&(true&&!Nat.beq k 0)) (some (.rest b 0 (k*1))) (some (.sl b (0+cond (Nat.beq l.length k) 0 (k*1)) (l.length-k) (l.length-k) true)):=by
   show lS 1 true false false (.sl b 0 l.length l.length true) [.int .i64 ((k:Nat):Int)]=_;simp only[lS,KD,b3];rfl
  by_cases hkn:k=l.length
  ·subst hkn;have hd:l.drop l.length=[]:=List.drop_length;by_cases h0:l.length=0
   ·refine⟨.sl b 0 0 0 true,?_,hsame ?_ hd⟩
    ·rw[SQ,h0];rfl
    ·have:=Ai (s:=1) (o:=0) (n:=0) (cap:=0) (op:=true) h4 (by omega);rw[Nat.zero_mul,List.take_zero] at this;exact this
   ·refine⟨.rest b 0 (l.length*1),?_,hsame rfl hd⟩;have hz:Nat.beq l.length 0=false:=by
     cases hb:Nat.beq l.length 0 with
     |false=>rfl
     |true=>exact absurd (Nat.eq_of_beq_eq_true hb) h0
    rw[SQ,Nat.beq_refl,hz];rfl
  ·have hz:Nat.beq l.length k=false:=by
    cases hb:Nat.beq l.length k with
    |false=>rfl
    |true=>exact absurd (Nat.eq_of_beq_eq_true hb).symm hkn
   obtain⟨n,hn⟩:∃n,l.length-k=n+1:=⟨l.length-k-1,by omega⟩;refine⟨.sl b k (n+1) (n+1) true,?_,?_⟩
   ·rw[SQ,hz,hn];show some (AV.sl b (0+k*1) (n+1) (n+1) true)=_;rw[Nat.zero_add,Nat.mul_one]
   ·have hsrc:dm 1 h (.sl b k (n+1) (n+1) true)=some (n+1,((ints l).drop k).take ((n+1)*1)):=Ai h4 (by rw[bI];omega);have TY:(l.drop k).length=n+1:=by rw[List.length_drop];omega
    rw[Nat.mul_one,ints,←List.map_drop,←List.map_take,List.take_of_length_le (by omega)] at hsrc;have hall:ints l2++ints (l.drop k)=ints (l2++l.drop k):=by simp[ints]
    refine⟨_,_,Fk g4 (by rw[bI,Nat.mul_one]) hsrc (q6 (l.drop k)) (by omega) (by omega),.inr ⟨h.next,hlo,Nat.lt_succ_self _,by rw[List.length_append,TY],?_⟩,Nat.le_succ _,fun c hc Cj=>?_⟩
    ·rw[←hall];exact aj (h:=h.del b2)
    ·exact(aA (h:=h.del b2) Cj).trans (ep (by omega))
theorem FY{m b es:Nat}{op:Bool}{D:List Int}{h0:Heap}{B:Nat}{Q:AX→Env→Heap→Prop}(hD:D.length≤4)(hm:m<h0.next)(hb:b<h0.next):
  ∀(n i:Nat) (h:Heap) (v:AV) (env:Env),D.length-i=n→i≤D.length→rQ h m b es op D→fI h0.next h v (nl (dj D i))→Fr h0 h []→dr env [(0,.ptr m 0),(3,v),(4,.int .i64 ((i:Nat):Int))]→
  (∀(h':Heap) (v':AV) (e':Env),Tr.get e' 3=some v'→fI h0.next h' v' (nl (dj D D.length))→Fr h0 h' []→Q (.exit 0) e' h')→
  VC fs ms B false (.loop eY) env h Q:=by
 intro n;induction n using Nat.strongRecOn with
 |ind n ih=>
 intro i h v env hn hi hh hv lq dF hQ;refine aH 3 [(0,.ptr m 0),(3,v),(4,.int .i64 ((i:Nat):Int))] dF ?_;refine cS (aF true ?_);conv=>whnf
 refine⟨_,hh.row,?_⟩;conv=>whnf
 refine br (fun hc=>?_) (fun hc=>?_)<;>(try rw[hc])<;>(conv=>whnf)
 ·have hlt:i<D.length:=by have:=of_decide_eq_true hc;omega
  have TY:=CF D i;have SM:=yd D i;refine bu (bx ?_);refine aF true ?_;conv=>whnf
  refine Ic hh _ ?_;conv=>whnf
  have YZ:vR D (i:Int)=decide (0≤gD D i):=by
   rw[vR,decide_eq_true (show(0:Int)≤(i:Int) by omega),decide_eq_true (show(i:Int)<(D.length:Int) by omega),Bool.true_and,Bool.true_and,Int.toNat_natCast]
  rw[YZ];by_cases hneg:gD D i<0
  ·refine qt (by rw[decide_eq_false (by omega)];rfl) (fun hc=>?_)
   (try rw[hc])
   conv=>whnf
   show VC fs ms _ _ _ _ _ _;refine aH 3 [(0,.ptr m 0),(3,v),(4,.int .i64 ((i:Nat):Int))] ⟨rfl,rfl,rfl,trivial⟩ (aq (z:=true) ?_);conv=>whnf
   refine ih (D.length-(i+1)) (by omega) (i+1) h v _ rfl (by omega) hh (by unfold dj;rw[if_pos hneg];exact hv) lq ⟨rfl,rfl,aK (by omega),trivial⟩ hQ
  ·refine nE (by rw[decide_eq_true (by omega)];rfl) (fun hc=>?_)
   (try rw[hc])
   conv=>whnf
   refine aF true ?_;conv=>whnf
   refine bu (bx ?_);refine Ny hh hv (fun x hx=>by have:=SM x hx;omega) hlt (by omega) ?_ _ 0 _ rfl (Nat.zero_le _) ⟨rfl,rfl,rfl,rfl,trivial⟩;intro e1 g0 g3 g4 g5;show VC fs ms _ _ _ _ _ _;have xA:=r9 (xG D i) (dj D i);generalize hK:mb (xG D i) (dj D i)=K at*;refine aH 3 [(0,.ptr m 0),(3,v),(4,.int .i64 ((i:Nat):Int)),(5,.int .i64 ((K:Nat):Int))] ⟨g0,g3,g4,g5,trivial⟩ ?_;refine aF true ?_;conv=>whnf
   refine aF true ?_;conv=>whnf
   obtain⟨s1,p1,v1,h1,p2,p3,p4⟩:=hv.pre (by rw[mK];omega) (k:=K) (by rw[mK];exact xA);refine⟨_,p1,?_⟩;conv=>whnf
   refine bW p2 fun uV lJ=>?_;subst lJ;conv=>whnf
   refine aF true ?_;conv=>whnf
   have l0:=lq.next;have l1:=p4.next;have ltk:((nl (dj D i)).take K).length≤4:=by rw[List.length_take,mK];omega
   obtain⟨v2,h2,a1,a2,a3,a4,a5⟩:=p3.app l1 (by omega) ((i:Nat):Int);refine bW a1 fun vQ sX=>?_;subst sX;conv=>whnf
   refine aq (z:=true) ?_;conv=>whnf
   have off1:∀c,c<h.next→BH v1 c:=by
    intro c hc;rcases p3 with⟨_,rfl⟩|⟨b',q1,_,rfl,_⟩
    ·intro o n k op e;cases e
    ·intro o n k op e;cases e;omega
   have ey:Fr h vQ []:=⟨by omega,fun c hc _=>by rw[a4 c (by omega) (off1 c hc)];exact p4.keep c hc (by simp)⟩;have IT:=hv.keep ey;obtain⟨s3,c1,v3,h3,c2,c3,c4,c5⟩:=IT.post a2 (by simp) (by rw[mK];omega) (by rw[List.length_append];simp;omega) (by omega) (k:=K) (by rw[mK];exact xA);refine⟨_,c1,?_⟩;conv=>whnf
   refine bW c2 fun CR xw=>?_;subst xw;conv=>whnf
   have gx:Fr h CR []:=⟨by omega,fun c hc _=>by rw[c5 c hc (by omega)];exact ey.keep c hc (by simp)⟩;show VC fs ms _ _ _ _ _ _;refine aH 3 [(0,.ptr m 0),(3,v3),(4,.int .i64 ((i:Nat):Int))] ⟨rfl,rfl,rfl,trivial⟩ (aq (z:=true) ?_);conv=>whnf
   have hdj:nl (dj D (i+1))=(nl (dj D i)).take K++[((i:Nat):Int)]++(nl (dj D i)).drop K:=by
    rw[show dj D (i+1)=(dj D i).take K++[i]++(dj D i).drop K by rw[dj,if_neg hneg,hK]];simp[nl]
   refine ih (D.length-(i+1)) (by omega) (i+1) CR v3 _ rfl (by omega) (hh.keep gx (by simp) (by simp)) ?_ (lq.trans gx) ⟨rfl,rfl,aK (by omega),trivial⟩ hQ;rw[hdj];rcases c3 with⟨x1,x2⟩|⟨b',x1,x2,x3,x4⟩
   ·exact .inl ⟨x1,x2⟩
   ·exact .inr ⟨b',by omega,x2,x3,x4⟩
 ·have hge:i=D.length:=by have:=of_decide_eq_false hc;omega
  subst hge;exact hQ h v _ rfl hv lq
theorem EA{h:Heap}{m b es:Nat}{op:Bool}{D:List Int}(hh:rQ h m b es op D)(hD:D.length≤4){Q:AV→Heap→Prop}(hQ:∀h' v,fI h.next h' v (nl (dj D D.length))→Fr h h' []→Q v h'):VD fs ms 73 [.ptr m 0] h Q:=by
 refine bY (af:=VW) rfl (Nat.le_of_ble_eq_true rfl) ?_;conv=>whnf
 refine aF true ?_;conv=>whnf
 refine aF true ?_;conv=>whnf
 refine bu (aF true ?_);conv=>whnf
 refine bx ?_;refine FY hD hh.lm hh.lb _ 0 h .aL _ rfl (Nat.zero_le _) hh (.inl ⟨rfl,rfl⟩) (Fr.refl _ _) ⟨rfl,rfl,rfl,trivial⟩ ?_;intro h1 v e1 g3 hi hf;show VC fs ms _ _ _ _ _ _;refine aH 3 [(3,v)] ⟨g3,trivial⟩ (aq (z:=true) ?_);conv=>whnf
 exact hQ h1 v hi hf
theorem Jc{h:Heap}{m b es:Nat}{op:Bool}{D:List Int}(hh:rQ h m b es op D)(hD:D.length≤4){Q:AV→Heap→Prop}(h1:∀h',dj D D.length=[]→Fr h h' []→Q (.cq [.int .i64 0,.int .i64 0,.bool false]) h')
  (h2:∀h' x l,dj D D.length=x::l→Fr h h' []→Q (.cq [.int .i64 ((x:Nat):Int),.int .i64 (gD D x),.bool true]) h'):VD fs ms 60 [.ptr m 0] h Q:=by
 refine ak (af:=VI) true rfl (Nat.le_of_ble_eq_true rfl) ?_;conv=>whnf
 refine EA hh hD fun h' v hv fr=>?_;conv=>whnf
 refine qc hv.read.1 ?_;conv=>whnf
 rw[mK];have hlt:=yd D D.length;by_cases h0:(dj D D.length).length=0
 ·refine qt (by rw[h0];rfl) (fun hc=>?_)
  (try rw[hc])
  conv=>whnf
  exact h1 h' (List.eq_nil_of_length_eq_zero h0) fr
 ·refine nE (by simp;exact fun e=>h0 (by rw[e];rfl)) (fun hc=>?_)
  (try rw[hc])
  conv=>whnf
  obtain⟨x,l,hd⟩:∃x l,dj D D.length=x::l:=List.exists_cons_of_ne_nil (fun e=>h0 (by rw[e];rfl));rw[hd] at hv hlt;have hx:x<D.length:=hlt x List.mem_cons_self;obtain⟨b',r1,r2⟩:=hv.read.2 0 (by rw[mK];simp);have CZ:=hh.keep fr (by simp) (by simp);refine⟨_,r1,?_⟩;conv=>whnf
  refine⟨_,r2,?_⟩;conv=>whnf
  refine⟨_,CZ.row,?_⟩;conv=>whnf
  refine⟨_,r1,?_⟩;conv=>whnf
  refine⟨_,r2,?_⟩;conv=>whnf
  refine⟨_,aJ (j:=x) hx,?_⟩;conv=>whnf
  refine⟨_,CZ.get hx,?_⟩;conv=>whnf
  exact h2 h' x l hd fr
theorem uB{α:Type}{r:α→α→Prop}(Zz:∀x,¬r x x)(ZX:∀x y,r x y→¬r y x):∀(A B:List α),A.Pairwise r→B.Pairwise r→(∀y,y∈A↔y∈B)→A=B
 |[],[],_,_,_=>rfl
 |[],b::B,_,_,h=>absurd ((h b).2 List.mem_cons_self) (by simp)
 |a::A,[],_,_,h=>absurd ((h a).1 List.mem_cons_self) (by simp)
 |a::A,b::B,ha,hb,h=>by
  rw[List.pairwise_cons] at ha hb;have e:a=b:=by
   rcases List.mem_cons.1 ((h a).1 List.mem_cons_self) with e|e
   ·exact e
   ·rcases List.mem_cons.1 ((h b).2 List.mem_cons_self) with e2|e2
    ·exact e2.symm
    ·exact absurd (ha.1 b e2) (ZX _ _ (hb.1 a e))
  subst e
  congr 1
  refine uB Zz ZX A B ha.2 hb.2 fun y=>⟨fun hy=>?_,fun hy=>?_⟩
  ·rcases List.mem_cons.1 ((h y).1 (List.mem_cons_of_mem _ hy)) with e|e
   ·subst e;exact absurd (ha.1 y hy) (Zz y)
   ·exact e
  ·rcases List.mem_cons.1 ((h y).2 (List.mem_cons_of_mem _ hy)) with e|e
   ·subst e;exact absurd (hb.1 y hy) (Zz y)
   ·exact e
structure Wl(L:List Id)(D:List Int):Prop where
 to:∀y∈L,y.1<D.length∧gD D y.1=y.2∧0≤y.2
 of:∀i,i<D.length→0≤gD D i→(i,gD D i)∈L
def rD(D:List Int)(x y:Nat):Prop:=gD D x<gD D y∨(gD D x=gD D y∧x<y)
theorem vD(D:List Int):∀i x,x∈dj D i↔x<i∧0≤gD D x
 |0,x=>by simp[dj]
 |i+1,x=>by
  have ih:=vD D i x;unfold dj;split
  ·rw[ih];constructor
   ·rintro⟨h1,h2⟩;exact⟨by omega,h2⟩
   ·rintro⟨h1,h2⟩;refine⟨?_,h2⟩;rcases Nat.lt_or_ge x i with h|h
    ·exact h
    ·have:x=i:=by omega
     subst this;omega
  ·have hm:x∈(dj D i).take (mb (xG D i) (dj D i))∨x∈(dj D i).drop (mb (xG D i) (dj D i))↔x∈dj D i:=by
    rw[←List.mem_append,List.take_append_drop]
   simp only[List.mem_append,List.mem_singleton];constructor
   ·rintro((h|h)|h)
    ·have:=ih.1 (hm.1 (.inl h));exact⟨by omega,this.2⟩
    ·subst h;exact⟨by omega,by omega⟩
    ·have:=ih.1 (hm.1 (.inr h));exact⟨by omega,this.2⟩
   ·rintro⟨h1,h2⟩;by_cases e:x=i
    ·exact .inl (.inr e)
    ·rcases hm.2 (ih.2 ⟨by omega,h2⟩) with h|h
     ·exact .inl (.inl h)
     ·exact .inr h
theorem CG(D:List Int):∀i,(dj D i).Pairwise (rD D)
 |0=>List.Pairwise.nil
 |i+1=>by
  have ih:=CG D i;unfold dj;split
  ·exact ih
  ·have hlt:=yd D i;have hle:=r9 (xG D i) (dj D i);have hin:=zn (xG D i) (dj D i);have Ci:=zm (xG D i) (dj D i);generalize mb (xG D i) (dj D i)=K at*;generalize dj D i=l at*;have ih':=ih;rw[List.pairwise_iff_getElem] at ih';have get:∀j (h:j<l.length),l.getD j 0=l[j]:=fun j h=>by rw[List.getD_eq_getElem?_getD,List.getElem?_eq_getElem h];rfl
   have hT:∀x∈l.take K,rD D x i:=by
    intro x hx;obtain⟨j,hj,rfl⟩:=List.mem_iff_getElem.1 hx;rw[List.length_take] at hj;rw[List.getElem_take];have h1:=hin j (by omega);rw[get j (by omega)] at h1;have h1:gD D l[j]≤gD D i:=of_decide_eq_true h1;have h2:=hlt l[j] (List.getElem_mem _);unfold rD;omega
   have hU:∀y∈l.drop K,gD D i<gD D y:=by
    intro y hy;obtain⟨j,hj,rfl⟩:=List.mem_iff_getElem.1 hy;rw[List.length_drop] at hj;rw[List.getElem_drop];have h1:=Ci (by omega);rw[get K (by omega)] at h1;have h1:¬gD D l[K]≤gD D i:=of_decide_eq_false h1;by_cases e:j=0
    ·subst e;have:gD D i<gD D l[K]:=by omega
     exact this
    ·have h2:=ih' K (K+j) (by omega) (by omega) (by omega);unfold rD at h2;omega
   rw[List.append_assoc,List.pairwise_append];have ih2:=ih;rw[←List.take_append_drop K l,List.pairwise_append] at ih2;refine⟨ih2.1,?_,?_⟩
   ·rw[List.singleton_append,List.pairwise_cons];exact⟨fun y hy=>.inl (hU y hy),ih2.2.1⟩
   ·intro x hx y hy;simp only[List.singleton_append,List.mem_cons] at hy;rcases hy with rfl|hy
    ·exact hT x hx
    ·exact ih2.2.2 x hx y hy
def Pa(D:List Int):List Id:=(dj D D.length).map fun x=>(x,gD D x)
theorem MU(D:List Int):FX (Pa D)=nl (dj D D.length):=by simp[Pa,FX,nl]
theorem MW(D:List Int):(Pa D).Pairwise (fun x y=>ah x y=true):=by
 unfold Pa;rw[List.pairwise_map];refine(CG D D.length).imp ?_;intro a b h;rw[nB];exact h
theorem PV(x:Id):¬ah x x=true:=by rw[nB];omega
theorem PU(x y:Id):ah x y=true→¬ah y x=true:=by rw[nB,nB];omega
theorem MV{L:List Id}{D:List Int}(h:Wl L D)(y:Id):y∈Pa D↔y∈L:=by
 unfold Pa;rw[List.mem_map];constructor
 ·rintro⟨x,hx,rfl⟩;have:=(vD D D.length x).1 hx;exact h.of x this.1 this.2
 ·intro hy;have:=h.to y hy;refine⟨y.1,(vD D D.length y.1).2 ⟨this.1,by omega⟩,?_⟩;rw[this.2.1]
theorem Ord.pw{L M:List Id}(h:Ord L M):M.Pairwise (fun x y=>ah x y=true):=by
 rw[List.pairwise_iff_getElem];intro i j hi hj hij;have h1:=h.srt i j (Nat.zero_le _) hij hj;rw[j5 hi,j5 hj,mG] at h1;rw[nB];have h2:M[i].1≠M[j].1:=by
  intro e;have:=h.dst i j hi hj (by rw[j5 hi,j5 hj];exact e);omega
 omega
theorem Wl.jobs{L M:List Id}{D:List Int}(h:Wl L D)(ho:Ord L M):M=Pa D:=
 uB PV PU M (Pa D) ho.pw (MW D) fun y=>(ho.mem y).trans (MV h y).symm
end Ir
end Go.Proofs.YtnlcabhfkpafmaaGreat
