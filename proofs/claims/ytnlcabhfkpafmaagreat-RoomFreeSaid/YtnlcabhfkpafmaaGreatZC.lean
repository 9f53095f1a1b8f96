/-
  Rank in plain Lean: ids in a heap. Rank's heap of ids: up, down, cut. Rank: cut. Rank: a rank in a heap, what it answers. Rank: an id more. Rank: Remove, First, Key. How ids are compared and sorted by insertion. Rows of ids, sorted in place: insertion. Rank: Ids of a few. Ready: a queue in a heap.
-/
import Derived.Test.YtnlcabhfkpafmaaGreatZA
set_option maxRecDepth 100000
set_option linter.unusedSimpArgs false
set_option linter.unusedVariables false
namespace Go.Proofs.YtnlcabhfkpafmaaGreat
open Go Ads
namespace Ir
theorem nQ{a b:Id}:ah a b=true↔a.2<b.2∨(a.2=b.2∧a.1<b.1):=by simp[ah]
theorem rD{a b:Id}:ah a b=false↔b.2<a.2∨(a.2=b.2∧b.1≤a.1):=by
 rw[←Bool.not_eq_true,nQ];omega
def gI(V:List Id)(i:Nat):Id:=V.getD i (0,0)
theorem lZ{V:List Id}{i:Nat}(h:i<V.length):gI V i=V[i]:=by simp[gI,List.getD_eq_getElem?_getD,List.getElem?_eq_getElem h]
theorem rM{V:List Id}{i:Nat}(h:i<V.length)(x:Id)(k:Nat):gI (V.set i x) k=if k=i then x else gI V k:=by
 simp only[gI,List.getD_eq_getElem?_getD,List.getElem?_set];by_cases hk:i=k
 ·subst hk;simp[h]
 ·rw[if_neg hk,if_neg (Ne.symm hk)]
def uZ(V:List Id)(i j:Nat):List Id:=(V.set i (gI V j)).set j (gI V i)
theorem jL(V:List Id)(i j:Nat):(uZ V i j).length=V.length:=by simp[uZ]
theorem n8{V:List Id}{i j:Nat}(hi:i<V.length)(hj:j<V.length)(k:Nat):gI (uZ V i j) k=if k=j then gI V i else if k=i then gI V j else gI V k:=by
 rw[uZ,rM (by simpa using hj),rM hi]
def qN(V W:List Id):Prop:=V.length=W.length∧∀y,(∃i,i<V.length∧gI V i=y)↔∃i,i<W.length∧gI W i=y
theorem qN.refl(V:List Id):qN V V:=⟨rfl,fun _=>Iff.rfl⟩
theorem qN.trans{V W X:List Id}(a:qN V W)(b:qN W X):qN V X:=⟨a.1.trans b.1,fun y=>(a.2 y).trans (b.2 y)⟩
theorem Ck{V:List Id}{i j:Nat}(hi:i<V.length)(hj:j<V.length):qN V (uZ V i j):=by
 refine⟨(jL V i j).symm,fun y=>⟨?_,?_⟩⟩
 ·rintro⟨k,hk,he⟩;by_cases h1:k=i
  ·subst h1;exact⟨j,by rw[jL];exact hj,by rw[n8 hi hj,if_pos rfl,he]⟩
  ·by_cases h2:k=j
   ·subst h2;exact⟨i,by rw[jL];exact hi,by rw[n8 hi hj,if_neg (fun e=>h1 e.symm),if_pos rfl,he]⟩
   ·exact⟨k,by rw[jL];exact hk,by rw[n8 hi hj,if_neg h2,if_neg h1,he]⟩
 ·rintro⟨k,hk,he⟩;rw[jL] at hk;rw[n8 hi hj] at he;split at he
  ·exact⟨i,hi,he⟩
  ·split at he
   ·exact⟨j,hj,he⟩
   ·exact⟨k,hk,he⟩
structure FT(V:List Id)(P:Nat→Nat)(a:Nat):Prop where
 lt:a<V.length
 small:∀i,i<V.length→(gI V i).1<64
 tP:∀i j,i<V.length→j<V.length→(gI V i).1=(gI V j).1→i=j
 pl:∀i,i<V.length→i≠a→P (gI V i).1=i+1
 back:∀d,d<64→d≠(gI V a).1→0<P d→P d≤V.length∧(gI V (P d-1)).1=d
structure tH(V:List Id)(P:Nat→Nat):Prop where
 small:∀i,i<V.length→(gI V i).1<64
 pl:∀i,i<V.length→P (gI V i).1=i+1
 back:∀d,d<64→0<P d→P d≤V.length∧(gI V (P d-1)).1=d
theorem tH.tP{V:List Id}{P:Nat→Nat}(h:tH V P):∀i j,i<V.length→j<V.length→(gI V i).1=(gI V j).1→i=j:=by
 intro i j hi hj he;have h1:=h.pl i hi;have h2:=h.pl j hj;rw[he] at h1;omega
theorem FT.fill{V:List Id}{P:Nat→Nat}{a:Nat}(h:FT V P a):tH V (iA P (gI V a).1 (a+1)):=by
 refine⟨h.small,fun i hi=>?_,fun d hd hp=>?_⟩
 ·unfold iA;split
  ·rename_i he;have:=h.tP i a hi h.lt he;omega
  ·rename_i he;exact h.pl i hi (by rintro rfl;exact he rfl)
 ·unfold iA at hp⊢;split
  ·rename_i he;exact⟨by have:=h.lt;omega,by rw[he];rfl⟩
  ·rename_i he;rw[if_neg he] at hp;exact h.back d hd he hp
theorem FT.step{V:List Id}{P:Nat→Nat}{a m:Nat}(h:FT V P a)(hm:m<V.length)(hne:m≠a):FT (uZ V a m) (iA P (gI V m).1 (a+1)) m:=by
 have hl:=jL V a m;have hg:=n8 h.lt hm;refine⟨by omega,fun i hi=>?_,fun i j hi hj he=>?_,fun i hi hn=>?_,fun d hd hn hp=>?_⟩
 ·rw[hg];have h1:=h.small a h.lt;have h2:=h.small m hm;have h3:=h.small i (by omega);split
  ·exact h1
  ·split
   ·exact h2
   ·exact h3
 ·have hs:∀k,gI (uZ V a m) k=gI V (if k=m then a else if k=a then m else k):=by
   intro k;rw[hg];split
   ·rfl
   ·split<;>rfl
  have hlt:=h.lt;have hk:∀k,k<(uZ V a m).length→(if k=m then a else if k=a then m else k)<V.length:=by
   intro k hk;split
   ·omega
   ·split<;>omega
  rw[hs,hs] at he;have key:=h.tP _ _ (hk i hi) (hk j hj) he;revert key;repeat' split
  all_goals (intro key;omega)
 ·rw[hg,if_neg hn];unfold iA;by_cases AH:i=a
  ·rw[if_pos AH,if_pos rfl];omega
  ·rw[if_neg AH,if_neg (fun he=>hn (h.tP i m (by omega) hm he))];exact h.pl i (by omega) AH
 ·rw[hg,if_pos rfl] at hn;unfold iA at hp⊢;by_cases CA:d=(gI V m).1
  ·rw[if_pos CA];exact⟨by have:=h.lt;omega,by rw[hg,if_neg (by omega),if_pos (by omega),CA]⟩
  ·rw[if_neg CA] at hp⊢;have:=h.back d hd hn hp;refine⟨by omega,?_⟩;rw[hg,if_neg,if_neg]
   ·exact this.2
   ·intro e;rw[e] at this;exact hn this.2.symm
   ·intro e;rw[e] at this;exact CA this.2.symm
def Hp(V:List Id):Prop:=∀i,0<i→i<V.length→ah (gI V i) (gI V ((i-1)/2))=false
def Hab(V:List Id)(a:Nat):Prop:=∀c,0<c→c<V.length→(c-1)/2=a→0<a→ah (gI V c) (gI V ((a-1)/2))=false
def O5(V:List Id)(a:Nat):Prop:=∀c,0<c→c<V.length→(c-1)/2=a→ah (gI V c) (gI V a)=false
structure MJ(V:List Id)(a:Nat):Prop where
 o:∀i,0<i→i<V.length→i≠a→(i-1)/2≠a→ah (gI V i) (gI V ((i-1)/2))=false
 ab:Hab V a
structure Ll(V:List Id)(a:Nat):Prop where
 o:∀i,0<i→i<V.length→(i-1)/2≠a→ah (gI V i) (gI V ((i-1)/2))=false
 ab:Hab V a
theorem Ll.full{V:List Id}{a:Nat}(h:Ll V a)(hc:O5 V a):Hp V:=by
 intro i h0 hi;by_cases hp:(i-1)/2=a
 ·rw[hp];exact hc i h0 hi hp
 ·exact h.o i h0 hi hp
theorem MJ.done{V:List Id}{a:Nat}(h:MJ V a)(hs:a=0∨ah (gI V a) (gI V ((a-1)/2))=false):Ll V a:=by
 refine⟨fun i h0 hi hn=>?_,h.ab⟩;by_cases ha:i=a
 ·subst ha;rcases hs with h1|h1
  ·omega
  ·exact h1
 ·exact h.o i h0 hi ha hn
theorem yl{a b c:Id}(h1:ah a b=false)(h2:ah b c=false):ah a c=false:=by rw[rD] at*;omega
theorem yj{a b:Id}(h1:ah a b=true):ah b a=false:=by rw[rD];rw[nQ] at h1;omega
theorem MJ.step{V:List Id}{a:Nat}(h:MJ V a)(ha:0<a)(hl:a<V.length)(hs:ah (gI V a) (gI V ((a-1)/2))=true):MJ (uZ V a ((a-1)/2)) ((a-1)/2)∧O5 (uZ V a ((a-1)/2)) ((a-1)/2):=by
 obtain⟨m,hm⟩:∃m,m=(a-1)/2:=⟨_,rfl⟩;rw[←hm] at hs⊢;have hlen:=jL V a m;have hg:=n8 hl (show m<V.length by omega);refine⟨⟨fun i h0 hi hn hp=>?_,fun c h0 hc hp hma=>?_⟩,fun c h0 hc hp=>?_⟩
 ·rw[hg,hg,if_neg hn,if_neg hp];have AH:i≠a:=by rintro rfl;exact hp hm.symm
  rw[if_neg AH];by_cases hpa:(i-1)/2=a
  ·rw[if_pos hpa];have:=h.ab i h0 (by omega) hpa ha;rw[←hm] at this;exact this
  ·rw[if_neg hpa];exact h.o i h0 (by omega) AH hpa
 ·have hmo:=h.o m hma (by omega) (by omega) (by omega);have e1:gI (uZ V a m) ((m-1)/2)=gI V ((m-1)/2):=by rw[hg,if_neg (by omega),if_neg (by omega)]
  rw[e1,hg,if_neg (by omega)];by_cases hca:c=a
  ·rw[if_pos hca];exact hmo
  ·rw[if_neg hca];have:=h.o c h0 (by omega) hca (by omega);rw[hp] at this;exact yl this hmo
 ·have e1:gI (uZ V a m) m=gI V a:=by rw[hg,if_pos rfl]
  rw[e1,hg,if_neg (by omega)];by_cases hca:c=a
  ·rw[if_pos hca];exact yj hs
  ·rw[if_neg hca];have:=h.o c h0 (by omega) hca (by omega);rw[hp] at this;exact yl this (yj hs)
theorem Ll.step{V:List Id}{a m:Nat}(h:Ll V a)(hl:a<V.length)(hm0:0<m)(hm:m<V.length)(hp:(m-1)/2=a)(hs:ah (gI V m) (gI V a)=true)
  (hmin:∀c,0<c→c<V.length→(c-1)/2=a→ah (gI V c) (gI V m)=false):Ll (uZ V a m) m:=by
 have hlen:=jL V a m;have hg:=n8 hl hm;refine⟨fun i h0 hi hn=>?_,fun c h0 hc GJ hma=>?_⟩
 ·by_cases ZV:i=m
  ·subst ZV;have e1:gI (uZ V a i) ((i-1)/2)=gI V i:=by rw[hp,hg,if_neg (by omega),if_pos rfl]
   rw[e1,hg,if_pos rfl];exact yj hs
  ·by_cases AH:i=a
   ·subst AH;have e1:gI (uZ V i m) ((i-1)/2)=gI V ((i-1)/2):=by rw[hg,if_neg hn,if_neg (by omega)]
    rw[e1,hg,if_neg ZV,if_pos rfl];exact h.ab m hm0 hm hp h0
   ·rw[hg i,if_neg ZV,if_neg AH,hg,if_neg hn];by_cases hpa:(i-1)/2=a
    ·rw[if_pos hpa];exact hmin i h0 (by omega) hpa
    ·rw[if_neg hpa];exact h.o i h0 (by omega) hpa
 ·have e1:gI (uZ V a m) ((m-1)/2)=gI V m:=by rw[hp,hg,if_neg (by omega),if_pos rfl]
  rw[e1,hg,if_neg (by omega),if_neg (by omega)];have:=h.o c h0 (by omega) (by omega);rw[GJ] at this;exact this
end Ir
end Go.Proofs.YtnlcabhfkpafmaaGreat
namespace Go.Proofs.YtnlcabhfkpafmaaGreat
open Go Ads
namespace Ads
end Ads
namespace Ir
theorem nM.row{h:Heap}{p r cap:Nat}{op:Bool}{L:List Id}{P:Nat→Nat}{rest:List AV}(hh:nM h p r cap op L P rest):rV .bY [.ptr p 0] h=some (.sl r 0 L.length cap op):=bU hh.hp rfl
theorem nM.one{h:Heap}{p r cap:Nat}{op:Bool}{L:List Id}{P:Nat→Nat}{rest:List AV}(hh:nM h p r cap op L P rest){i:Nat}(hi:i<L.length):rV (.bf 2) [.ptr r (i*2)] h=some (ob (gI L i)):=by
 have hlen:=oh L;rw[xA hh.hr (by rw[List.length_append];omega),Fi hi,lZ hi];rfl
theorem nM.id{h:Heap}{p r cap:Nat}{op:Bool}{L:List Id}{P:Nat→Nat}{rest:List AV}(hh:nM h p r cap op L P rest){i:Nat}(hi:i<L.length):rV .bY [.ptr r (i*2)] h=some (.int .i64 ((gI L i).1:Nat)):=by
 have hlen:=oh L;refine bU hh.hr ?_;rw[List.getElem?_append_left (by omega),lZ hi];exact PN hi
theorem nM.key{h:Heap}{p r cap:Nat}{op:Bool}{L:List Id}{P:Nat→Nat}{rest:List AV}(hh:nM h p r cap op L P rest){i:Nat}(hi:i<L.length):rV .bY [.ptr r (i*2+1)] h=some (.int .i64 (gI L i).2):=by
 have hlen:=oh L;refine bU hh.hr ?_;rw[List.getElem?_append_left (by omega),lZ hi];exact Kt hi
theorem nM.place{h:Heap}{p r cap:Nat}{op:Bool}{L:List Id}{P:Nat→Nat}{rest:List AV}(hh:nM h p r cap op L P rest){i:Nat}(hi:i<64):rV .bY [.ptr p (1+i*1)] h=some (.int .i64 ((P i:Nat):Int)):=by
 refine bU hh.hp ?_;rw[show 1+i*1=i+1 by omega,List.getElem?_cons_succ];exact vp hi
theorem z5{a:Nat}(h:a<2^62):pV (.bin .quo) [.int .i64 (IntKind.i64.wrap (((a+1:Nat):Int)-1)),.int .i64 2]=some (.int .i64 ((a/2:Nat):Int)):=by
 rw[Fp _ _ (by decide)];have e1:IntKind.i64.wrap (((a+1:Nat):Int)-1)=((a:Nat):Int):=by
  rw[show((a+1:Nat):Int)-1=((a:Nat):Int) by omega];exact kK (by omega)
 rw[e1];have e2:((a:Nat):Int).tdiv 2=((a/2:Nat):Int):=by rw[Int.tdiv_eq_ediv_of_nonneg (by omega)];rfl
 rw[e2,kK (by omega)]
theorem Tx(x:Id):([.int .i64 (x.1:Nat),.int .i64 x.2]:List AV)=(ob x).cells:=rfl
theorem uo{L:List Id}{a:Nat}(h:a<L.length):L.set a (gI L a)=L:=by
 rw[lZ h];exact List.set_getElem_self h
theorem kC{L:List Id}{a i:Nat}{x:Id}(h:a<L.length)(hi:i≠a):gI (L.set a x) i=gI L i:=by rw[rM h,if_neg hi]
theorem pF{L:List Id}{a:Nat}{x:Id}(h:a<L.length):gI (L.set a x) a=x:=by rw[rM h,if_pos rfl]
theorem K5{L:List Id}{a m:Nat}{x:Id}(h:a<L.length)(hm:m<L.length)(hn:m≠a):(L.set a (gI L m)).set m x=uZ (L.set a x) a m:=by
 rw[uZ,pF h,kC h hn,List.set_set]
theorem OY{p r cap t:Nat}{op:Bool}{rest:List AV}{x:Id}{B:Nat}{Q:AX→Env→Heap→Prop}{N:Nat}(hN:N<2^62)(tp:t≠p)(tr:t≠r)(es:Nat):
  ∀(a:Nat) (h:Heap) (L:List Id) (P:Nat→Nat),nM h p r cap op L P rest→t<h.next→h.get t=some (.cells (ob x).cells true es)→a<N→L.length=N→FT (L.set a x) P a→MJ (L.set a x) a→
  (∀(a':Nat) (h':Heap) (L':List Id) (P':Nat→Nat) (e':Env),Tr.get e' 0=some (.ptr p 0)→Tr.get e' 1=some (.int .i64 ((a':Nat):Int))→Tr.get e' 4=some (.ptr t 0)→nM h' p r cap op L' P' rest→h'.get t=some (.cells (ob x).cells true es)→a'<N→L'.length=N→
   FT (L'.set a' x) P' a'→Ll (L'.set a' x) a'→qN (L.set a x) (L'.set a' x)→(O5 (L.set a x) a→O5 (L'.set a' x) a')→Fr h h' [p,r]→Q (.exit 0) e' h')→
  VC fs ms B false (.loop lQ) (ek 3 [(0,.ptr p 0),(1,.int .i64 ((a:Nat):Int)),(4,.ptr t 0)]) h Q:=by
 intro a;induction a using Nat.strongRecOn with
 |ind a ih=>
 intro h L P hh Tl ht ha hL hp hu hQ;refine dm (z:=true) ?_;conv=>whnf
 rcases Nat.eq_zero_or_pos a with h0|h0
 ·refine br (fun hc=>?_) (fun hc=>?_)<;>(try rw[hc])<;>(conv=>whnf)
  ·exfalso;have:=of_decide_eq_true hc;omega
  ·exact hQ a h L P _ rfl rfl rfl hh ht ha hL hp (hu.done (.inl h0)) (qN.refl _) id (Fr.refl _ _)
 ·obtain⟨b,rfl⟩:∃b,a=b+1:=⟨a-1,by omega⟩;refine br (fun hc=>?_) (fun hc=>?_)<;>(try rw[hc])<;>(conv=>whnf)
  ·refine⟨_,xA ht (Nat.le_refl _),?_⟩;conv=>whnf
   refine⟨_,hh.row,?_⟩;conv=>whnf
   refine⟨_,z5 (by omega),?_⟩;conv=>whnf
   refine⟨_,bL (by omega),?_⟩;conv=>whnf
   refine⟨_,hh.one (by omega),?_⟩;conv=>whnf
   refine aO (zu x _) ?_;conv=>whnf
   refine br (fun hc=>?_) (fun hc=>?_)<;>(try rw[hc])<;>(conv=>whnf)
   ·have ie:=hc;refine⟨_,hh.row,?_⟩;conv=>whnf
    refine⟨_,z5 (by omega),?_⟩;conv=>whnf
    refine⟨_,bL (by omega),?_⟩;conv=>whnf
    refine⟨_,hh.one (by omega),?_⟩;conv=>whnf
    have HC:b/2<L.length:=by omega
    have hne:b/2≠b+1:=by omega
    have q7:b+1<L.length:=by omega
    have Lt:(gI L (b/2)).1<64:=by
     have:=hp.small (b/2) (by rw[List.length_set];exact HC);rw[kC q7 hne] at this;exact this
    refine BX hh q7 Lt (by omega) fun h' HD fr=>?_;conv=>whnf
    refine⟨_,z5 (by omega),?_⟩;conv=>whnf
    have e0:(b+1-1)/2=b/2:=by omega
    have hs:ah (gI (L.set (b+1) x) (b+1)) (gI (L.set (b+1) x) ((b+1-1)/2))=true:=by
     rw[e0,pF q7,kC q7 hne];exact ie
    have hst:=hu.step (by omega) (by rw[List.length_set];exact q7) hs;rw[e0] at hst;have Rt:(L.set (b+1) (gI L (b/2))).set (b/2) x=uZ (L.set (b+1) x) (b+1) (b/2):=K5 q7 HC hne;have kO:=hp.step (m:=b/2) (by rw[List.length_set];exact HC) hne;rw[kC q7 hne] at kO;refine aE 3 [(0,.ptr p 0),(1,.int .i64 ((b/2:Nat):Int)),(4,.ptr t 0)] ⟨rfl,rfl,rfl,trivial⟩ ?_;refine ih (b/2) (by omega) h' _ _ HD (Nat.lt_of_lt_of_le Tl fr.next) (by rw[fr.keep t Tl (by simp[tp,tr])];exact ht) (by omega) (by simp[hL]) (by rw[Rt];exact kO) (by rw[Rt];exact hst.1) ?_;intro a' h1 L1 P1 e1 g0 g1 g4 k1 k2 k3 k4 k5 k6 k7 k8 k9;rw[Rt] at k7 k8;refine hQ a' h1 L1 P1 e1 g0 g1 g4 k1 k2 k3 k4 k5 k6 ((Ck (by rw[List.length_set];exact q7) (by rw[List.length_set];exact HC)).trans k7) (fun _=>k8 hst.2) (fr.trans k9)
   ·have ie:=hc;refine hQ (b+1) h L P _ rfl rfl rfl hh ht ha hL hp (hu.done (.inr ?_)) (qN.refl _) id (Fr.refl _ _);rw[show(b+1-1)/2=b/2 by omega,pF (by omega),kC (by omega) (by omega)];exact ie
  ·exfalso;have:=of_decide_eq_false hc;omega
theorem nM.new{h:Heap}{p r cap:Nat}{op:Bool}{L:List Id}{P:Nat→Nat}{rest:List AV}(hh:nM h p r cap op L P rest)(x:ck):nM (h.new x) p r cap op L P rest:=
 ⟨by rw[ay hh.lp];exact hh.hp,by rw[ay hh.lr];exact hh.hr,hh.ne,Nat.lt_succ_of_lt hh.lp,Nat.lt_succ_of_lt hh.lr⟩
theorem nM.set{h:Heap}{p r cap:Nat}{op:Bool}{L:List Id}{P:Nat→Nat}{rest:List AV}(hh:nM h p r cap op L P rest){b:Nat}(x:ck)(h1:b≠p)(h2:b≠r):nM (h.set b x) p r cap op L P rest:=
 ⟨by rw[aQ h1.symm];exact hh.hp,by rw[aQ h2.symm];exact hh.hr,hh.ne,hh.lp,hh.lr⟩
theorem VZ{h:Heap}{p r cap:Nat}{op:Bool}{L:List Id}{P:Nat→Nat}{rest:List AV}{a:Nat}(hh:nM h p r cap op L P rest)(ha:a<L.length)(hN:L.length<2^62)(hp:FT L P a)(hu:MJ L a){Q:AV→Heap→Prop}
  (hQ:∀h' L' P' a',nM h' p r cap op L' P' rest→L'.length=L.length→a'<L'.length→tH L' P'→Ll L' a'→gI L' a'=gI L a→qN L L'→(O5 L a→O5 L' a')→Fr h h' [p,r]→Q (.cD []) h'):VD fs ms 173 [.ptr p 0,.int .i64 ((a:Nat):Int)] h Q:=by
 refine dz (af:=Mw) rfl (Nat.le_of_ble_eq_true rfl) ?_;conv=>whnf
 refine aM true ?_;conv=>whnf
 refine⟨_,hh.row,?_⟩;conv=>whnf
 refine⟨_,bL ha,?_⟩;conv=>whnf
 refine⟨_,hh.one ha,?_⟩;conv=>whnf
 refine⟨_,_,cj ai rfl (Nat.le_refl _) rfl,?_⟩;conv=>whnf
 refine bt (bR ?_);refine aE 3 [(0,.ptr p 0),(1,.int .i64 ((a:Nat):Int)),(4,.ptr h.next 0)] ⟨rfl,rfl,rfl,trivial⟩ ?_;have n1:h.next≠p:=by have:=hh.lp;omega
 have n2:h.next≠r:=by have:=hh.lr;omega
 refine OY (x:=gI L a) (N:=L.length) hN n1 n2 _ a _ L P ((hh.new _).set _ n1 n2) (Nat.lt_succ_self _) (by rw[aC];rfl) ha rfl (by rw[uo ha];exact hp) (by rw[uo ha];exact hu) ?_;intro a' h1 L1 P1 e1 g0 g1 g4 k1 k2 k3 k4 k5 k6 k7 k8 k9;rw[uo ha] at k7 k8;show VC fs ms _ _ _ _ _ _;refine aE 3 [(0,.ptr p 0),(1,.int .i64 ((a':Nat):Int)),(4,.ptr h.next 0)] ⟨g0,g1,g4,trivial⟩ (aA (z:=true) ?_);conv=>whnf
 refine⟨_,xA k2 (Nat.le_refl _),?_⟩;conv=>whnf
 have Lt:(gI L a).1<64:=hp.small a ha;have q7:a'<L1.length:=by omega
 refine BX (x:=gI L a) k1 q7 Lt (by omega) fun h2 HE jx=>?_;conv=>whnf
 have jF:=k5.fill;rw[pF q7] at jF;refine hQ h2 _ _ a' HE (by rw[List.length_set];exact k4) (by rw[List.length_set];exact q7) jF k6 (pF q7) k7 k8 ?_;exact(((Fr.refl h [p,r]).new (x:=_)).qS (Nat.le_refl _)).trans (k9.trans jx)
theorem TT{a:Nat}(h:a<2^61):IntKind.i64.wrap (IntKind.i64.wrap (2*((a:Nat):Int))+1)=((2*a+1:Nat):Int):=by
 rw[show 2*((a:Nat):Int)=((2*a:Nat):Int) by omega,kK (by omega),oa (by omega)]
theorem Gg{p r cap t:Nat}{op:Bool}{rest:List AV}{x:Id}{B:Nat}{Q:AX→Env→Heap→Prop}{N:Nat}(hN:N<2^60)(tp:t≠p)(tr:t≠r)(es:Nat):
  ∀(k a:Nat) (h:Heap) (L:List Id) (P:Nat→Nat),N-a=k→nM h p r cap op L P rest→t<h.next→h.get t=some (.cells (ob x).cells true es)→a<N→L.length=N→FT (L.set a x) P a→Ll (L.set a x) a→
  (∀(a':Nat) (h':Heap) (L':List Id) (P':Nat→Nat) (e':Env),Tr.get e' 0=some (.ptr p 0)→Tr.get e' 1=some (.int .i64 ((a':Nat):Int))→Tr.get e' 4=some (.ptr t 0)→nM h' p r cap op L' P' rest→h'.get t=some (.cells (ob x).cells true es)→a'<N→L'.length=N→
   FT (L'.set a' x) P' a'→Hp (L'.set a' x)→qN (L.set a x) (L'.set a' x)→Fr h h' [p,r]→Q (.exit 0) e' h')→
  VC fs ms B false (.loop gM) (ek 3 [(0,.ptr p 0),(1,.int .i64 ((a:Nat):Int)),(4,.ptr t 0)]) h Q:=by
 intro k;induction k using Nat.strongRecOn with
 |ind k ih=>
 intro a h L P hk hh Tl ht ha hL hp hu hQ;have q7:a<L.length:=by omega
 have hdone:∀e',Tr.get e' 0=some (.ptr p 0)→Tr.get e' 1=some (.int .i64 ((a:Nat):Int))→Tr.get e' 4=some (.ptr t 0)→O5 (L.set a x) a→Q (.exit 0) e' h:=fun e' g0 g1 g4 hc=>
  hQ a h L P e' g0 g1 g4 hh ht ha hL hp (hu.full hc) (qN.refl _) (Fr.refl _ _)
 have hstep:∀m (h':Heap),m<N→(m-1)/2=a→0<m→ah (gI L m) x=true→(∀c,0<c→c<N→(c-1)/2=a→ah (gI L c) (gI L m)=false)→
   nM h' p r cap op (L.set a (gI L m)) (iA P (gI L m).1 (a+1)) rest→Fr h h' [p,r]→
   VC fs ms B false (.loop gM) (ek 3 [(0,.ptr p 0),(1,.int .i64 ((m:Nat):Int)),(4,.ptr t 0)]) h' Q:=by
  intro m h' hm hpa hm0 hs hmin HD fr;have hne:m≠a:=by omega
  have hml:m<L.length:=by omega
  have Rt:(L.set a (gI L m)).set m x=uZ (L.set a x) a m:=K5 q7 hml hne;have kO:=hp.step (m:=m) (by rw[List.length_set];exact hml) hne;rw[kC q7 hne] at kO;have hdn:=hu.step (m:=m) (by rw[List.length_set];exact q7) hm0 (by rw[List.length_set];exact hml) hpa (by rw[pF q7,kC q7 hne];exact hs) (by
   intro c h0 hc GJ;rw[List.length_set] at hc;rw[kC q7 (by omega),kC q7 hne];exact hmin c h0 (by omega) GJ)
  refine ih (N-m) (by omega) m h' _ _ rfl HD (Nat.lt_of_lt_of_le Tl fr.next) (by rw[fr.keep t Tl (by simp[tp,tr])];exact ht) hm (by simp[hL]) (by rw[Rt];exact kO) (by rw[Rt];exact hdn) ?_;intro a' h1 L1 P1 e1 g0 g1 g4 k1 k2 k3 k4 k5 k6 k7 k9;rw[Rt] at k7;exact hQ a' h1 L1 P1 e1 g0 g1 g4 k1 k2 k3 k4 k5 k6 ((Ck (by rw[List.length_set];exact q7) (by rw[List.length_set];exact hml)).trans k7) (fr.trans k9)
 clear ih hQ;have Lt:∀m,m<N→m≠a→(gI L m).1<64:=by
  intro m hm hne;have:=hp.small m (by rw[List.length_set];omega);rw[kC q7 hne] at this;exact this
 refine mA (bR ?_);refine aM true ?_;conv=>whnf
 rw[TT (by omega)];refine bt (VC.mono (Q:=fun x e1 h1=>x=.normal∧h1=h∧∃m,Tr.get e1 0=some (.ptr p 0)∧Tr.get e1 1=some (.int .i64 ((a:Nat):Int))∧Tr.get e1 4=some (.ptr t 0)∧Tr.get e1 5=some (.int .i64 ((m:Nat):Int))∧(m=2*a+1∨m=2*a+2)∧(N≤m→m=2*a+1)∧(m<N→∀c,0<c→c<N→(c-1)/2=a→ah (gI L c) (gI L m)=false)) ?_ ?_)
 ·refine aA (z:=true) ?_;generalize hK:(fun(x:AX) (e1:Env) (h1:Heap)=>x=.normal∧h1=h∧∃m,Tr.get e1 0=some (.ptr p 0)∧Tr.get e1 1=some (.int .i64 ((a:Nat):Int))∧Tr.get e1 4=some (.ptr t 0)∧Tr.get e1 5=some (.int .i64 ((m:Nat):Int))∧(m=2*a+1∨m=2*a+2)∧(N≤m→m=2*a+1)∧(m<N→∀c,0<c→c<N→(c-1)/2=a→ah (gI L c) (gI L m)=false))=K;conv=>whnf
  refine⟨_,hh.row,?_⟩;conv=>whnf
  rw[oa (by omega)];refine br (fun hc=>?_) (fun hc=>?_)<;>(try rw[hc])<;>(conv=>whnf)
  ·have hlt:2*a+1+1<L.length:=by have:=of_decide_eq_true hc;omega
   refine⟨_,hh.row,?_⟩;conv=>whnf
   rw[oa (by omega)];refine⟨_,bL hlt,?_⟩;conv=>whnf
   refine⟨_,hh.one hlt,?_⟩;conv=>whnf
   refine⟨_,hh.row,?_⟩;conv=>whnf
   refine⟨_,bL (by omega),?_⟩;conv=>whnf
   refine⟨_,hh.one (by omega),?_⟩;conv=>whnf
   refine aO (zu _ _) ?_;conv=>whnf
   have h1:2*a+1+1=2*a+2:=by omega
   refine br (fun hc=>?_) (fun hc=>?_)<;>(try rw[hc])<;>(conv=>whnf)
   ·have ie:=hc;rw[oa (by omega)];subst hK;refine⟨rfl,rfl,2*a+1+1,rfl,rfl,rfl,rfl,.inr rfl,by omega,fun _ c h0 EJ GJ=>?_⟩;rcases(show c=2*a+1∨c=2*a+1+1 by omega) with rfl|rfl
    ·exact yj ie
    ·rw[rD];omega
   ·have ie:=hc;subst hK;refine⟨rfl,rfl,2*a+1,rfl,rfl,rfl,rfl,.inl rfl,by omega,fun _ c h0 EJ GJ=>?_⟩;rcases(show c=2*a+1∨c=2*a+1+1 by omega) with rfl|rfl
    ·rw[rD];omega
    ·exact ie
  ·have hge:¬2*a+1+1<L.length:=by have:=of_decide_eq_false hc;omega
   subst hK;refine⟨rfl,rfl,2*a+1,rfl,rfl,rfl,rfl,.inl rfl,by omega,fun _ c h0 EJ GJ=>?_⟩;rcases(show c=2*a+1 by omega) with rfl
   rw[rD];omega
 ·rintro x1 e1 h1 ⟨rfl,rfl,m,g0,g1,g4,g5,hm,hmN,hmin⟩;refine aE 3 [(0,.ptr p 0),(1,.int .i64 ((a:Nat):Int)),(4,.ptr t 0),(5,.int .i64 ((m:Nat):Int))] ⟨g0,g1,g4,g5,trivial⟩ (aA (z:=true) ?_);conv=>whnf
  refine⟨_,hh.row,?_⟩;conv=>whnf
  refine br (fun hc=>?_) (fun hc=>?_)<;>(try rw[hc])<;>(conv=>whnf)
  ·have hge:L.length≤m:=by have:=of_decide_eq_true hc;omega
   refine hdone _ rfl rfl rfl fun c h0 EJ GJ=>?_;rw[List.length_set] at EJ;have:=hmN (by omega);omega
  ·have hlt:m<L.length:=by have:=of_decide_eq_false hc;omega
   refine⟨_,hh.row,?_⟩;conv=>whnf
   refine⟨_,bL hlt,?_⟩;conv=>whnf
   refine⟨_,hh.one hlt,?_⟩;conv=>whnf
   refine⟨_,xA ht (Nat.le_refl _),?_⟩;conv=>whnf
   refine aO (zu _ x) ?_;conv=>whnf
   refine br (fun hc=>?_) (fun hc=>?_)<;>(try rw[hc])<;>(conv=>whnf)
   ·have ie:ah (gI L m) x=false:=by simpa using hc
    have hs:∀c,0<c→c<N→(c-1)/2=a→ah (gI L c) x=false:=fun c h0 EJ GJ=>yl (hmin (by omega) c h0 EJ GJ) ie;refine hdone _ rfl rfl rfl fun c h0 EJ GJ=>?_;rw[List.length_set] at EJ;rw[pF q7,kC q7 (by omega)];exact hs c h0 (by omega) GJ
   ·have ie:ah (gI L m) x=true:=by simpa using hc
    refine⟨_,hh.row,?_⟩;conv=>whnf
    refine⟨_,bL hlt,?_⟩;conv=>whnf
    refine⟨_,hh.one hlt,?_⟩;conv=>whnf
    refine BX hh q7 (Lt m (by omega) (by omega)) (by omega) fun h' HD fr=>?_;conv=>whnf
    refine aE 3 [(0,.ptr p 0),(1,.int .i64 ((m:Nat):Int)),(4,.ptr t 0)] ⟨rfl,rfl,rfl,trivial⟩ ?_;exact hstep m h' (by omega) (by omega) (by omega) ie (hmin (by omega)) HD fr
theorem Qr{h:Heap}{p r cap:Nat}{op:Bool}{L:List Id}{P:Nat→Nat}{rest:List AV}{a:Nat}(hh:nM h p r cap op L P rest)(ha:a<L.length)(hN:L.length<2^60)(hp:FT L P a)(hu:Ll L a){Q:AV→Heap→Prop}
  (hQ:∀h' L' P',nM h' p r cap op L' P' rest→L'.length=L.length→tH L' P'→Hp L'→qN L L'→Fr h h' [p,r]→Q (.cD []) h'):VD fs ms 182 [.ptr p 0,.int .i64 ((a:Nat):Int)] h Q:=by
 refine dz (af:=MC) rfl (Nat.le_of_ble_eq_true rfl) ?_;conv=>whnf
 refine aM true ?_;conv=>whnf
 refine⟨_,hh.row,?_⟩;conv=>whnf
 refine⟨_,bL ha,?_⟩;conv=>whnf
 refine⟨_,hh.one ha,?_⟩;conv=>whnf
 refine⟨_,_,cj ai rfl (Nat.le_refl _) rfl,?_⟩;conv=>whnf
 refine bt (bR ?_);refine aE 3 [(0,.ptr p 0),(1,.int .i64 ((a:Nat):Int)),(4,.ptr h.next 0)] ⟨rfl,rfl,rfl,trivial⟩ ?_;have n1:h.next≠p:=by have:=hh.lp;omega
 have n2:h.next≠r:=by have:=hh.lr;omega
 refine Gg (x:=gI L a) (N:=L.length) hN n1 n2 _ _ a _ L P rfl ((hh.new _).set _ n1 n2) (Nat.lt_succ_self _) (by rw[aC];rfl) ha rfl (by rw[uo ha];exact hp) (by rw[uo ha];exact hu) ?_;intro a' h1 L1 P1 e1 g0 g1 g4 k1 k2 k3 k4 k5 k6 k7 k9;rw[uo ha] at k7;show VC fs ms _ _ _ _ _ _;refine aE 3 [(0,.ptr p 0),(1,.int .i64 ((a':Nat):Int)),(4,.ptr h.next 0)] ⟨g0,g1,g4,trivial⟩ (aA (z:=true) ?_);conv=>whnf
 refine⟨_,xA k2 (Nat.le_refl _),?_⟩;conv=>whnf
 have Lt:(gI L a).1<64:=hp.small a ha;have q7:a'<L1.length:=by omega
 refine BX (x:=gI L a) k1 q7 Lt (by omega) fun h2 HE jx=>?_;conv=>whnf
 have jF:=k5.fill;rw[pF q7] at jF;refine hQ h2 _ _ HE (by rw[List.length_set];exact k4) jF k6 k7 ?_;exact(((Fr.refl h [p,r]).new (x:=_)).qS (Nat.le_refl _)).trans (k9.trans jx)
theorem tH.vac{L:List Id}{P:Nat→Nat}(h:tH L P){a:Nat}(ha:a<L.length):FT L P a:=⟨ha,h.small,h.tP,fun i hi _=>h.pl i hi,fun d hd _ hp=>h.back d hd hp⟩
theorem Sn{b n cap k size:Nat}{op:Bool}(h:k≤cap):pV (.slice size false true false) [.sl b 0 n cap op,.int .i64 ((k:Nat):Int)]=some (.sl b 0 k cap op):=by
 have b1:Nat.ble k cap=true:=Nat.ble_eq_true_of_le h;have b2:Nat.ble cap cap=true:=Nat.ble_eq_true_of_le (Nat.le_refl _);have b3:bounds n cap false true false [.int .i64 ((k:Nat):Int)]=some (0,k,cap):=by
  show cond (Nat.ble 0 k&&Nat.ble k cap&&Nat.ble cap cap) (some (0,k,cap)) none=_;rw[b1,b2];rfl
 show xd size false true false (.sl b 0 n cap op) [.int .i64 ((k:Nat):Int)]=_;simp only[xd,Qn,b3];have b4:(Nat.beq cap 0&&Nat.beq cap cap&&(op&&!false&&!Nat.beq 0 0))=false:=by
  have:(op&&!false&&!Nat.beq 0 0)=false:=by cases op<;>rfl
  rw[this,Bool.and_false]
 rw[b4,cond_false,Nat.zero_mul];have b5:(cond (Nat.beq cap 0) 0 0)=0:=by cases Nat.beq cap 0<;>rfl
 rw[b5];rfl
theorem Ks(L M:List Id):oc (L++M)=oc L++oc M:=by simp[oc,obs,aa]
theorem DB(x:Id):oc [x]=(ob x).cells:=by simp[oc,obs,aa]
theorem eC{M:List Id}{x:Id}{i:Nat}(h:i<M.length):gI (M++[x]) i=gI M i:=by
 rw[lZ (by rw[List.length_append];omega),lZ h,List.getElem_append_left h]
theorem iF{M:List Id}{x:Id}:gI (M++[x]) M.length=x:=by
 rw[lZ (by rw[List.length_append];exact Nat.lt_succ_self _)];simp
theorem iI{L:List Id}{y:Id}:y∈L↔∃i,i<L.length∧gI L i=y:=by
 rw[List.mem_iff_getElem];constructor
 ·rintro⟨i,h,e⟩;exact⟨i,h,by rw[lZ h,e]⟩
 ·rintro⟨i,h,e⟩;exact⟨i,h,by rw[←lZ h,e]⟩
theorem qN.mem{L M:List Id}(h:qN L M){y:Id}:y∈M↔y∈L:=by rw[iI,iI];exact(h.2 y).symm
theorem nM.aaU{h:Heap}{p r cap:Nat}{op:Bool}{L:List Id}{P:Nat→Nat}{rest:List AV}(hh:nM h p r cap op L P rest){i:Nat}(hi:i<64)(v:Nat){es:Nat}(he:es=0):
  nM (h.set p (.cells (Heap.splice (.sl r 0 L.length cap op::Fm P) (1+i*1) [.int .i64 ((v:Nat):Int)]) true es)) p r cap op L (iA P i v) rest:=by
 subst he;exact⟨by rw[aC,Fo hi],by rw[aQ hh.ne.symm];exact hh.hr,hh.ne,hh.lp,hh.lr⟩
theorem nM.pop{h:Heap}{p r cap:Nat}{op:Bool}{M:List Id}{x:Id}{P:Nat→Nat}{rest:List AV}(hh:nM h p r cap op (M++[x]) P rest){es:Nat}(he:es=0):
  nM (h.set p (.cells (Heap.splice (.sl r 0 (M++[x]).length cap op::Fm P) 0 [.sl r 0 M.length cap op]) true es)) p r cap op M P ((ob x).cells++rest):=by
 subst he;refine⟨?_,?_,hh.ne,hh.lp,hh.lr⟩
 ·rw[aC];show some (ck.cells (.sl r 0 M.length cap op::Heap.splice (Fm P) 0 []) true 0)=_;rw[eF]
 ·rw[aQ hh.ne.symm,hh.hr,Ks,DB,List.append_assoc]
theorem IB{M:List Id}{x:Id}{P:Nat→Nat}(hf:tH (M++[x]) P):tH M (iA P x.1 0):=by
 have hl:(M++[x]).length=M.length+1:=by simp
 have hx:=hf.pl M.length (by omega);rw[iF] at hx;refine⟨fun i hi=>?_,fun i hi=>?_,fun d hd hp=>?_⟩
 ·rw[←eC (x:=x) hi];exact hf.small i (by omega)
 ·have:=hf.pl i (by omega);rw[eC hi] at this;unfold iA;rw[if_neg (by intro e;rw[e] at this;omega)];exact this
 ·unfold iA at hp⊢;split at hp
  ·omega
  ·rename_i hne;rw[if_neg hne];have hb:=hf.back d hd hp;rw[hl] at hb;have:P d≠M.length+1:=by
    intro e;rw[e] at hb;have e2:=hb.2;rw[show M.length+1-1=M.length by omega,iF] at e2;exact hne e2.symm
   refine⟨by omega,?_⟩;rw[←eC (x:=x) (by omega)];exact hb.2
theorem Jz{M:List Id}{x:Id}(h:Hp (M++[x])):Hp M:=by
 intro i h0 hi;have:=h i h0 (by simp;omega)
 rwa [eC hi,eC (by omega)] at this
theorem M8{M:List Id}{x:Id}{P:Nat→Nat}{a:Nat}(ha:a<M.length)(hf:tH (M++[x]) P):tH (M.set a x) (iA (iA P (gI M a).1 0) x.1 (a+1)):=by
 have hl:(M++[x]).length=M.length+1:=by simp
 have hx:=hf.pl M.length (by omega);rw[iF] at hx;have hA:=hf.pl a (by omega);rw[eC ha] at hA;refine⟨fun i hi=>?_,fun i hi=>?_,fun d hd hp=>?_⟩
 ·rw[rM ha];split
  ·have:=hf.small M.length (by omega)
   rwa [iF] at this
  ·rw[List.length_set] at hi;rw[←eC (x:=x) hi];exact hf.small i (by omega)
 ·rw[List.length_set] at hi;rw[rM ha];unfold iA;split
  ·rename_i e;rw[if_pos rfl,e]
  ·rename_i e;have:=hf.pl i (by omega);rw[eC hi] at this;rw[if_neg (by intro e;rw[e] at this;omega),if_neg (by intro e;rw[e] at this;omega)];exact this
 ·rw[List.length_set];unfold iA at hp⊢;by_cases e:d=x.1
  ·rw[if_pos e];refine⟨by omega,?_⟩;rw[show a+1-1=a by omega,pF ha,e]
  ·rw[if_neg e] at hp⊢;by_cases e2:d=(gI M a).1
   ·rw[if_pos e2] at hp;omega
   ·rw[if_neg e2] at hp⊢;have hb:=hf.back d hd hp;rw[hl] at hb;have n1:P d≠M.length+1:=by
     intro e3;rw[e3] at hb;have e4:=hb.2;rw[show M.length+1-1=M.length by omega,iF] at e4;exact e e4.symm
    have n2:P d-1≠a:=by
     intro e3;have e4:=hb.2;rw[e3,eC ha] at e4;exact e2 e4.symm
    refine⟨by omega,?_⟩;rw[kC ha n2,←eC (x:=x) (by omega)];exact hb.2
theorem M6{M:List Id}{x:Id}{a:Nat}(ha:a<M.length)(h:Hp (M++[x])):MJ (M.set a x) a:=by
 have h:=Jz h;refine⟨fun i h0 hi h1 h2=>?_,fun c h0 hc hp h1=>?_⟩
 ·rw[kC ha h1,kC ha h2];exact h i h0 (by simpa using hi)
 ·rw[List.length_set] at hc;rw[kC ha (by omega),kC ha (by omega)];have k1:=h c h0 hc;have k2:=h a h1 ha;rw[hp] at k1;exact yl k1 k2
theorem M7{M:List Id}{x:Id}{P:Nat→Nat}{a:Nat}(ha:a<M.length)(hf:tH (M++[x]) P)(y:Id):y∈M.set a x↔y∈M++[x]∧y.1≠(gI (M++[x]) a).1:=by
 have hl:(M++[x]).length=M.length+1:=by simp
 rw[iI,iI];constructor
 ·rintro⟨i,hi,e⟩;rw[List.length_set] at hi;rw[rM ha] at e;split at e
  ·subst e;refine⟨⟨M.length,by omega,iF⟩,fun e2=>?_⟩;have:=hf.tP M.length a (by omega) (by omega) (by rw[iF];exact e2);omega
  ·rename_i hne;subst e;refine⟨⟨i,by omega,eC hi⟩,fun e2=>?_⟩;rw[←eC (x:=x) hi] at e2;exact hne (hf.tP i a (by omega) (by omega) e2)
 ·rintro⟨⟨i,hi,e⟩,hne⟩;by_cases h1:i=M.length
  ·subst h1;rw[iF] at e;exact⟨a,by rw[List.length_set];exact ha,by rw[pF ha,e]⟩
  ·refine⟨i,by rw[List.length_set];omega,?_⟩;rw[kC ha,←eC (x:=x) (by omega),e];rintro rfl;rw[e] at hne;exact hne rfl
theorem Ka{M:List Id}{x:Id}{P:Nat→Nat}(hf:tH (M++[x]) P)(y:Id):y∈M↔y∈M++[x]∧y.1≠(gI (M++[x]) M.length).1:=by
 have hl:(M++[x]).length=M.length+1:=by simp
 rw[iF];constructor
 ·intro h;refine⟨List.mem_append_left _ h,fun e=>?_⟩;obtain⟨i,hi,e2⟩:=iI.1 h;have:=hf.tP i M.length (by omega) (by omega) (by rw[eC hi,iF,e2,e]);omega
 ·rintro⟨h,hne⟩;rcases List.mem_append.1 h with h|h
  ·exact h
  ·simp at h;subst h;exact absurd rfl hne
end Ir
end Go.Proofs.YtnlcabhfkpafmaaGreat
namespace Go.Proofs.YtnlcabhfkpafmaaGreat
open Go Ads
namespace Ads
end Ads
namespace Ir
theorem B0{M:List Id}{x:Id}:IntKind.i64.wrap (((M++[x]).length:Int)-1)=((M.length:Nat):Int)∨2^62≤M.length:=by
 by_cases h:M.length<2^62
 ·left;rw[List.length_append,show(((M.length+[x].length:Nat)):Int)-1=((M.length:Nat):Int) by simp,kK (by omega)]
 ·right;omega
theorem TP{h:Heap}{p r cap:Nat}{op:Bool}{M:List Id}{x:Id}{P:Nat→Nat}{rest:List AV}{a:Nat}(hh:nM h p r cap op (M++[x]) P rest)(ha:a<M.length+1)(hN:M.length+1<2^60)(hc:M.length+1≤cap)(hf:tH (M++[x]) P)(hp:Hp (M++[x])){Q:AV→Heap→Prop}
  (hQ:∀h' L' P',nM h' p r cap op L' P' ((ob x).cells++rest)→L'.length=M.length→tH L' P'→Hp L'→(∀y,y∈L'↔y∈M++[x]∧y.1≠(gI (M++[x]) a).1)→Fr h h' [p,r]→Q (.cD []) h'):VD fs ms 167 [.ptr p 0,.int .i64 ((a:Nat):Int)] h Q:=by
 have hl:(M++[x]).length=M.length+1:=by simp
 have hlp:=(B0 (M:=M) (x:=x)).resolve_right (by omega);refine ak (af:=Mp) true rfl (Nat.le_of_ble_eq_true rfl) ?_;conv=>whnf
 refine⟨_,hh.row,?_⟩;conv=>whnf
 refine⟨_,hh.row,?_⟩;conv=>whnf
 rw[hlp];refine⟨_,bL (by omega),?_⟩;conv=>whnf
 refine⟨_,hh.one (by omega),?_⟩;conv=>whnf
 rw[iF];have n1:h.next≠p:=by have:=hh.lp;omega
 have n2:h.next≠r:=by have:=hh.lr;omega
 refine dV (cj ai rfl (Nat.le_refl _) rfl) fun h1 e1=>?_;conv=>whnf
 have GD:nM h1 p r cap op (M++[x]) P rest:=by rw[e1];exact(hh.new _).set _ n1 n2
 have qP:h1.get h.next=some (.cells (ob x).cells true 0):=by rw[e1,aC];rfl
 have iX:Fr h h1 [p,r]:=by rw[e1];exact((Fr.refl h [p,r]).new (x:=_)).qS (Nat.le_refl _)
 have lt1:h.next<h1.next:=by rw[e1];exact Nat.lt_succ_self _
 clear e1;refine⟨_,GD.row,?_⟩;conv=>whnf
 refine⟨_,bL (by omega),?_⟩;conv=>whnf
 refine⟨_,GD.id (by omega),?_⟩;conv=>whnf
 have Lt:=hf.small a (by omega);refine⟨_,dO (o:=1) Lt,?_⟩;conv=>whnf
 refine dV (cj GD.hp rfl (by rw[List.length_cons,oy];show 1+(gI (M++[x]) a).1*1+1≤_;omega) rfl) fun h2 e2=>?_;conv=>whnf
 have HE:nM h2 p r cap op (M++[x]) (iA P (gI (M++[x]) a).1 0) rest:=by rw[e2];exact GD.aaU Lt 0 rfl
 have iG:h2.get h.next=some (.cells (ob x).cells true 0):=by rw[e2,aQ n1];exact qP
 have jx:Fr h h2 [p,r]:=by rw[e2];exact iX.set (by simp)
 have lt2:h.next<h2.next:=by rw[e2];exact lt1
 clear e2;refine⟨_,HE.row,?_⟩;conv=>whnf
 refine⟨_,Sn (by omega),?_⟩;conv=>whnf
 refine dV (cj HE.hp rfl (by rw[List.length_cons];show 0+1≤_;omega) rfl) fun h3 e3=>?_;conv=>whnf
 have hh3:nM h3 p r cap op M (iA P (gI (M++[x]) a).1 0) ((ob x).cells++rest):=by rw[e3];exact HE.pop rfl
 have Uo:h3.get h.next=some (.cells (ob x).cells true 0):=by rw[e3,aQ n1];exact iG
 have jE:Fr h h3 [p,r]:=by rw[e3];exact jx.set (by simp)
 have lt3:h.next<h3.next:=by rw[e3];exact lt2
 clear e3;refine br (fun hc=>?_) (fun hc=>?_)<;>(try rw[hc])<;>(conv=>whnf)
 ·have ie:a=M.length:=by simp at hc;omega
  subst ie;refine hQ h3 M _ hh3 rfl ?_ (Jz hp) (Ka hf) jE;rw[iF];exact IB hf
 ·have ie:a≠M.length:=by simp at hc;omega
  have Lp:a<M.length:=by omega
  refine⟨_,xA Uo (Nat.le_refl _),?_⟩;conv=>whnf
  have hxs:x.1<64:=by have:=hf.small M.length (by omega);rwa [iF] at this
  refine BX (x:=x) hh3 Lp hxs (by omega) fun h4 UK jR=>?_;conv=>whnf
  have ZB:h4.get h.next=some (.cells (ob x).cells true 0):=by rw[jR.keep _ lt3 (by simp[n1,n2])];exact Uo
  rw[eC Lp] at UK;have hpf:=M8 Lp hf;refine VZ UK (by rw[List.length_set];exact Lp) (by rw[List.length_set];omega) (hpf.vac (by rw[List.length_set];exact Lp)) (M6 Lp hp) fun h5 L5 P5 a5 hh5 k1 k2 k3 k4 k5 k6 k7 Nv=>?_;conv=>whnf
  rw[List.length_set] at k1;have Tc:h5.get h.next=some (.cells (ob x).cells true 0):=by rw[Nv.keep _ (Nat.lt_of_lt_of_le lt3 jR.next) (by simp[n1,n2])];exact ZB
  refine⟨_,bU Tc rfl,?_⟩;conv=>whnf
  refine⟨_,dO (o:=1) hxs,?_⟩;conv=>whnf
  refine⟨_,hh5.place hxs,?_⟩;conv=>whnf
  have hpa:=k3.pl a5 k2;rw[k5,pF Lp] at hpa;rw[hpa,show IntKind.i64.wrap (((a5+1:Nat):Int)-1)=((a5:Nat):Int) by rw[show((a5+1:Nat):Int)-1=((a5:Nat):Int) by omega,kK (by omega)]];refine Qr hh5 k2 (by omega) (k3.vac k2) k4 fun h6 L6 P6 hh6 j1 j2 j3 j4 T7=>?_;conv=>whnf
  refine hQ h6 L6 P6 hh6 (by omega) j2 j3 (fun y=>?_) (jE.trans (jR.trans (Nv.trans T7)));rw[j4.mem,k6.mem];exact M7 Lp hf y
theorem pig:∀(n:Nat) (l:List Nat),l.Nodup→(∀x∈l,x<n)→l.length≤n:=by
 intro n;induction n with
 |zero=>
  intro l _ h;cases l with
  |nil=>simp
  |cons x l=>exact absurd (h x (by simp)) (by omega)
 |succ n ih=>
  intro l hn h;by_cases hm:n∈l
  ·have h1:=ih (l.erase n) (hn.erase n) (by
    intro x hx;have h2:=(List.Nodup.mem_erase_iff hn).1 hx;have:=h x h2.2;have:=h2.1;omega)
   rw[List.length_erase_of_mem hm] at h1;omega
  ·have:=ih l hn (by
    intro x hx;have:=h x hx;have:x≠n:=by rintro rfl;exact hm hx
    omega)
   omega
theorem tH.nodup{L:List Id}{P:Nat→Nat}(h:tH L P):(L.map (·.1)).Nodup:=by
 show List.Pairwise (· ≠·) _;rw[List.pairwise_iff_getElem];intro i j hi hj hij e;rw[List.length_map] at hi hj;rw[List.getElem_map,List.getElem_map] at e;have:=h.tP i j hi hj (by rw[lZ hi,lZ hj];exact e);omega
theorem tH.len{L:List Id}{P:Nat→Nat}(h:tH L P){n:Nat}(hn:∀y∈L,y.1<n):L.length≤n:=by
 have:=pig n (L.map (·.1)) h.nodup (by
  intro x hx;obtain⟨y,hy,rfl⟩:=List.mem_map.1 hx;exact hn y hy)
 rwa [List.length_map] at this
theorem tH.BZ{L:List Id}{P:Nat→Nat}(h:tH L P):L.length≤64:=h.len fun y hy=>by
 obtain⟨i,hi,rfl⟩:=iI.1 hy;exact h.small i hi
theorem tH.uniq{L:List Id}{P:Nat→Nat}(h:tH L P){x y:Id}(hx:x∈L)(hy:y∈L)(e:x.1=y.1):x=y:=by
 obtain⟨i,hi,rfl⟩:=iI.1 hx;obtain⟨j,hj,rfl⟩:=iI.1 hy;rw[h.tP i j hi hj e]
theorem tH.no{L:List Id}{P:Nat→Nat}(h:tH L P){i:Nat}(h0:P i=0):∀y∈L,y.1≠i:=by
 intro y hy e;obtain⟨j,hj,rfl⟩:=iI.1 hy;have:=h.pl j hj;rw[e] at this;omega
def Row(h:Heap)(k p:Nat)(S:List Nat)(L:List Id)(P:Nat→Nat):Prop:=
 (L=[]∧S=[k,p]∧h.get p=some (.cells (.aH::Fm P) true 0))∨
 ∃r cap rest,S=[k,p,r]∧r≠k∧L.length*2+rest.length=cap*2∧nM h p r cap true L P rest
structure yg(h:Heap)(k p:Nat)(S:List Nat)(L:List Id)(P:Nat→Nat):Prop where
 hk:h.get k=some (.cells [.ptr p 0] true 0)
 ne:k≠p
 lk:k<h.next
 lp:p<h.next
 row:Row h k p S L P
 pl:tH L P
 hp:Hp L
structure Own(h h':Heap)(S S':List Nat):Prop where
 fr:Fr h h' S
 new:∀b∈S',b∈S∨h.next≤b
theorem DA{h:Heap}{k p:Nat}{S:List Nat}{L:List Id}{P:Nat→Nat}(hr:yg h k p S L P){Q:AV→Heap→Prop}(hQ:Q (.bool false) h):VD fs ms 151 [.ptr k 0] h Q:=by
 refine ak (af:=Mh) true rfl (Nat.le_of_ble_eq_true rfl) ?_;conv=>whnf
 refine⟨_,bU hr.hk rfl,?_⟩;conv=>whnf
 exact hQ
theorem Ep{h:Heap}{k p:Nat}{S:List Nat}{L:List Id}{P:Nat→Nat}(hr:yg h k p S L P)(id:Int){Q:AV→Heap→Prop}(hQ:Q (.int .i64 (if id<0∨64≤id then 9 else 0)) h):VD fs ms 172 [.ptr k 0,.int .i64 id] h Q:=by
 refine ak (af:=Mu) true rfl (Nat.le_of_ble_eq_true rfl) ?_;conv=>whnf
 refine DA hr ?_;conv=>whnf
 refine br (fun hc=>?_) (fun hc=>?_)<;>(try rw[hc])<;>(conv=>whnf)
 ·have:id<0:=of_decide_eq_true hc;rw[if_pos (.inl this)] at hQ;exact hQ
 ·have h1:¬id<0:=of_decide_eq_false hc;refine br (fun hc=>?_) (fun hc=>?_)<;>(try rw[hc])<;>(conv=>whnf)
  ·have:64≤id:=of_decide_eq_true hc;rw[if_pos (.inr this)] at hQ;exact hQ
  ·have h2:¬64≤id:=of_decide_eq_false hc;rw[if_neg (by omega)] at hQ;exact hQ
theorem Row.place{h:Heap}{k p:Nat}{S:List Nat}{L:List Id}{P:Nat→Nat}(hr:Row h k p S L P){i:Nat}(hi:i<64):rV .bY [.ptr p (1+i*1)] h=some (.int .i64 ((P i:Nat):Int)):=by
 rcases hr with⟨_,_,hg⟩|⟨r,cap,rest,_,_,_,hh⟩
 ·refine bU hg ?_;rw[show 1+i*1=i+1 by omega,List.getElem?_cons_succ];exact vp hi
 ·exact hh.place hi
theorem TK{h:Heap}{k p:Nat}{S:List Nat}{L:List Id}{P:Nat→Nat}(hr:yg h k p S L P)(id:Int){Q:AV→Heap→Prop}(h1:id<0∨64≤id→Q (.cD [.int .i64 0,.bool false]) h)
  (h2:∀i:Nat,id=i→i<64→P i=0→Q (.cD [.int .i64 (-1),.bool false]) h)
  (h3:∀i j:Nat,id=i→i<64→j<L.length→P i=j+1→(gI L j).1=i→Q (.cD [.int .i64 ((j:Nat):Int),.bool true]) h):VD fs ms 166 [.ptr k 0,.int .i64 id] h Q:=by
 refine ak (af:=Mo) true rfl (Nat.le_of_ble_eq_true rfl) ?_;conv=>whnf
 refine Ep hr id ?_;conv=>whnf
 by_cases hb:id<0∨64≤id
 ·rw[if_pos hb];conv=>whnf
  exact h1 hb
 ·rw[if_neg hb];conv=>whnf
  obtain⟨i,rfl⟩:∃i:Nat,id=i:=⟨id.toNat,by omega⟩;have hi:i<64:=by omega
  refine⟨_,bU hr.hk rfl,?_⟩;conv=>whnf
  refine⟨_,dO (o:=1) hi,?_⟩;conv=>whnf
  refine⟨_,hr.row.place hi,?_⟩;conv=>whnf
  refine⟨_,bU hr.hk rfl,?_⟩;conv=>whnf
  refine⟨_,dO (o:=1) hi,?_⟩;conv=>whnf
  refine⟨_,hr.row.place hi,?_⟩;conv=>whnf
  by_cases h0:P i=0
  ·have:=h2 i rfl hi h0;rw[h0];exact this
  ·have hb:=hr.pl.back i hi (by omega);have hle:=hr.pl.BZ;obtain⟨j,hj⟩:∃j,P i=j+1:=⟨P i-1,by omega⟩;rw[hj] at hb⊢;have:=h3 i j rfl hi (by omega) hj hb.2;rw[show IntKind.i64.wrap (((j+1:Nat):Int)-1)=((j:Nat):Int) by rw[show((j+1:Nat):Int)-1=((j:Nat):Int) by omega,kK (by omega)],show decide ((0:Int)<((j+1:Nat):Int))=true from decide_eq_true (by omega)];exact this
end Ir
end Go.Proofs.YtnlcabhfkpafmaaGreat
namespace Go.Proofs.YtnlcabhfkpafmaaGreat
open Go Ads
namespace Ads
theorem eD{h:Heap}{b c:Nat}(hn:c≠b):(h.del b).get c=h.get c:=by rw[Heap.cL,if_neg hn]
theorem tu{h:Heap}{b s n cap:Nat}{op wr:Bool}{es:Nat}{cs:List AV}(hg:h.get b=some (.cells cs wr es))(hl:cs.length=n*s):eJ s h (.sl b 0 n cap op)=some (n,cs):=by
 have b1:Nat.ble (0+n*s) cs.length=true:=Nat.ble_eq_true_of_le (by omega);show(h.bf b 0 (n*s)).map _=_;have:h.bf b 0 (n*s)=some cs:=by
  simp only[Heap.bf,Heap.row,hg,b1,cond_true,List.drop_zero];rw[←hl,List.take_length]
 rw[this];rfl
theorem oX{h:Heap}{s bytes b m:Nat}{vs cs:List AV}{x:AV}(hg:h.get b=some (.cells vs true s))(hv:vs.length=m*s)(hsrc:eJ s h x=some (1,cs))(hf:bz cs=true)(hb:bytes≤1048576)(hm:m≤1048576):
  eV (.append s bytes) [.sl b 0 m m true,x] h=some (.sl h.next 0 (m+1) (m+1) true,(h.del b).new (.cells (vs++cs) true s)):=by
 have hmu:(m+1)*bytes≤1048577*1048576:=Nat.mul_le_mul (by omega) hb;have b1:Nat.ble (m+1) m=false:=by cases hb:Nat.ble (m+1) m with|false=>rfl|true=>(have:=Nat.le_of_ble_eq_true hb;omega)
 have b2:Nat.ble ((m+1)*bytes) 140737488355328=true:=Nat.ble_eq_true_of_le (by omega);have b3:Nat.ble (m+1) 9223372036854775807=true:=Nat.ble_eq_true_of_le (by omega);have b4:Nat.ble (0+m*s) vs.length=true:=Nat.ble_eq_true_of_le (by omega);have b5:Nat.beq vs.length (0+m*s)=true:=by rw[hv,Nat.zero_add];exact Nat.beq_refl _
 have Ac:h.bf b 0 (m*s)=some vs:=by
  simp only[Heap.bf,Heap.row,hg,b4,cond_true,List.drop_zero];rw[←hv,List.take_length]
 simp only[eV,l2,hsrc];show cond (bz cs) _ _=_;rw[hf,cond_true];show cond (Nat.beq 1 0&&Nat.ble m m) _ _=_;rw[show Nat.beq 1 0=false from rfl,Bool.false_and,cond_false,b1,cond_false,b2,b3,Bool.and_self,cond_true,hg,Ac];show cond true (cond (true&&Nat.beq vs.length (0+m*s)&&Nat.beq m m&&Nat.beq s s) _ _) _=_;rw[b5,Nat.beq_refl,Nat.beq_refl];rfl
end Ads
namespace Ir
theorem Row.app{h:Heap}{k p:Nat}{S:List Nat}{L:List Id}{P:Nat→Nat}(hr:Row h k p S L P)(kp:k≠p)(lk:k<h.next)(lp:p<h.next)(Ta:L.length≤64)(x:Id){src:AV}{Qe:Nat}{op wr:Bool}{es:Nat}(hs:src=.sl h.next 0 1 Qe op){g:Heap}(hg:g=h.new (.cells (ob x).cells wr es)):
  ∃rv,h.get p=some (.cells (rv::Fm P) true 0)∧∃rv' g',eV (.append 2 16) [rv,src] g=some (rv',g')∧Fr h g' S∧g'.get k=h.get k∧g'.get p=h.get p∧h.next≤g'.next∧
   ∃r cap rest,rv'=.sl r 0 (L.length+1) cap true∧r≠k∧r≠p∧r<g'.next∧g'.get r=some (.cells (oc (L++[x])++rest) true 2)∧(L.length+1)*2+rest.length=cap*2∧(r∈S∨h.next≤r):=by
 subst hs;have hsrc:eJ 2 g (.sl h.next 0 1 Qe op)=some (1,(ob x).cells):=tu (by rw[hg];exact ai) rfl;have gn:g.next=h.next+1:=by rw[hg];rfl
 have T8:Fr h g S:=by rw[hg];exact(Fr.refl h S).new
 rcases hr with⟨hL,hS,hp⟩|⟨r,cap,rest,hS,hrk,hcap,hh⟩
 ·subst hL;refine⟨.aH,hp,.sl g.next 0 1 1 true,g.new (.cells (ob x).cells true 2),lD (nx:=g.next) (tr:=g.m) (by omega) hsrc rfl,T8.new,?_,?_,?_,g.next,1,[],rfl,by omega,by omega,Nat.lt_succ_self _,?_,rfl,.inr (by omega)⟩
  ·rw[ay (by omega),hg,ay lk]
  ·rw[ay (by omega),hg,ay lp]
  ·show h.next≤g.next+1;omega
  ·rw[ai];simp[DB]
 ·have ig:h.get p=some (.cells (.sl r 0 L.length cap true::Fm P) true 0):=hh.hp;have vj:=oh L;have BC:g.get r=some (.cells (oc L++rest) true 2):=by rw[hg,ay hh.lr];exact hh.hr
  have hrS:r∈S:=by rw[hS];simp
  have JD:=hh.ne;have hlr:=hh.lr;by_cases hroom:L.length<cap
  ·have z6:=P9 (bytes:=16) (nx:=g.next) (tr:=g.m) (op:=true) (l:=obs L) (rest:=rest) (y:=ob x) BC rfl (tj L) (E9 L).symm hroom (by omega) hsrc rfl rfl;refine⟨_,ig,_,_,z6,?_,?_,?_,?_,r,cap,rest.drop 2,rfl,hrk,JD.symm,?_,?_,?_,.inl hrS⟩
   ·exact Fr.set (h1:=g) T8 hrS
   ·rw[show Heap.get (⟨g.next,Tr.set g.m r (.cells (aa (obs L++[ob x])++rest.drop 2) true 2)⟩:Heap) k=(g.set r (.cells (aa (obs L++[ob x])++rest.drop 2) true 2)).get k from rfl,aQ (Ne.symm hrk),hg,ay lk]
   ·rw[show Heap.get (⟨g.next,Tr.set g.m r (.cells (aa (obs L++[ob x])++rest.drop 2) true 2)⟩:Heap) p=(g.set r (.cells (aa (obs L++[ob x])++rest.drop 2) true 2)).get p from rfl,aQ JD,hg,ay lp]
   ·show h.next≤g.next;omega
   ·show r<g.next;omega
   ·rw[show Heap.get (⟨g.next,Tr.set g.m r (.cells (aa (obs L++[ob x])++rest.drop 2) true 2)⟩:Heap) r=(g.set r (.cells (aa (obs L++[ob x])++rest.drop 2) true 2)).get r from rfl,aC];simp[oc,obs]
   ·rw[List.length_drop];omega
  ·have hc:cap=L.length:=by omega
   have HJ:rest=[]:=List.eq_nil_of_length_eq_zero (by omega);subst HJ;subst hc;rw[List.append_nil] at BC;refine⟨_,ig,_,_,oX (bytes:=16) BC vj hsrc rfl (by omega) (by omega),?_,?_,?_,?_,g.next,L.length+1,[],rfl,by omega,by omega,Nat.lt_succ_self _,?_,by simp,.inr (by omega)⟩
   ·refine⟨?_,fun c hc hn=>?_⟩
    ·show h.next≤g.next+1;omega
    ·rw[ay (show c<(g.del r).next by show c<g.next;omega),eD (by rintro rfl;exact hn hrS)];exact T8.keep c hc hn
   ·rw[ay (show k<(g.del r).next by show k<g.next;omega),eD (Ne.symm hrk),hg,ay lk]
   ·rw[ay (show p<(g.del r).next by show p<g.next;omega),eD JD,hg,ay lp]
   ·show h.next≤g.next+1;omega
   ·rw[show g.next=(g.del r).next from rfl,ai,List.append_nil,Ks,DB]
theorem yg.own{h:Heap}{k p:Nat}{S:List Nat}{L:List Id}{P:Nat→Nat}(hr:yg h k p S L P):k∈S∧p∈S∧∀b∈S,b<h.next:=by
 rcases hr.row with⟨_,hS,_⟩|⟨r,cap,rest,hS,_,_,hh⟩
 ·subst hS;refine⟨by simp,by simp,fun b hb=>?_⟩;simp at hb;rcases hb with rfl|rfl
  ·exact hr.lk
  ·exact hr.lp
 ·subst hS;refine⟨by simp,by simp,fun b hb=>?_⟩;simp at hb;rcases hb with rfl|rfl|rfl
  ·exact hr.lk
  ·exact hr.lp
  ·exact hh.lr
theorem Oq{L:List Id}{P:Nat→Nat}{x:Id}(hf:tH L P)(hx:x.1<64)(h0:P x.1=0):FT (L++[x]) P L.length:=by
 have hl:(L++[x]).length=L.length+1:=by simp
 refine⟨by omega,fun i hi=>?_,fun i j hi hj he=>?_,fun i hi hn=>?_,fun d hd hn hp=>?_⟩
 ·by_cases h:i=L.length
  ·subst h;rw[iF];exact hx
  ·rw[eC (by omega)];exact hf.small i (by omega)
 ·have key:∀i,i<L.length→(gI L i).1=x.1→False:=by
   intro i hi e;have:=hf.pl i hi;rw[e] at this;omega
  by_cases h1:i=L.length
  ·subst h1;by_cases h2:j=L.length
   ·exact h2.symm
   ·rw[iF,eC (by omega)] at he;exact(key j (by omega) he.symm).elim
  ·rw[eC (by omega)] at he;by_cases h2:j=L.length
   ·subst h2;rw[iF] at he;exact(key i (by omega) he).elim
   ·rw[eC (by omega)] at he;exact hf.tP i j (by omega) (by omega) he
 ·rw[eC (by omega)];exact hf.pl i (by omega)
 ·have hb:=hf.back d hd hp;refine⟨by omega,?_⟩;rw[eC (by omega)];exact hb.2
theorem NL{L:List Id}{x:Id}(h:Hp L):MJ (L++[x]) L.length:=by
 have hl:(L++[x]).length=L.length+1:=by simp
 refine⟨fun i h0 hi h1 h2=>?_,fun c h0 hc hp h1=>by omega⟩;rw[eC (by omega),eC (by omega)];exact h i h0 (by omega)
theorem NB{L:List Id}{x:Id}:O5 (L++[x]) L.length:=fun c h0 hc hp=>by simp at hc;omega
theorem VK{h:Heap}{k p:Nat}{S:List Nat}{L:List Id}{P:Nat→Nat}(hr:yg h k p S L P)(id key:Int){Q:AV→Heap→Prop}(h1:id<0∨64≤id→Q (.int .i64 9) h)
  (h2:∀y,y∈L→id=y.1→Q (.int .i64 141) h)
  (h3:∀i:Nat,id=i→i<64→(∀y∈L,y.1≠i)→∀h' S' L' P',yg h' k p S' L' P'→(∀y,y∈L'↔y∈L∨y=(i,key))→Own h h' S S'→Q (.int .i64 0) h'):VD fs ms 143 [.ptr k 0,.int .i64 id,.int .i64 key] h Q:=by
 refine ak (af:=Ma) true rfl (Nat.le_of_ble_eq_true rfl) ?_;conv=>whnf
 refine Ep hr id ?_;conv=>whnf
 by_cases hb:id<0∨64≤id
 ·rw[if_pos hb];conv=>whnf
  exact h1 hb
 rw[if_neg hb];conv=>whnf
 refine TK hr id (fun h=>absurd h hb) (fun i hi i64 h0=>?_) fun i j hi i64 hj hP hid=>?_
 ·conv=>whnf
  subst hi;refine⟨_,bU hr.hk rfl,?_⟩;conv=>whnf
  refine⟨_,bU hr.hk rfl,?_⟩;conv=>whnf
  obtain⟨kS,pS,hS⟩:=hr.own;have Ta:=hr.pl.BZ;obtain⟨rv,Rq,rv',g',z6,T8,gk,gp,gn,r,cap,rest,e1,rk,rp,rl,gr,gc,rS⟩:=hr.row.app hr.ne hr.lk hr.lp Ta (i,key) (Qe:=1) (op:=false) (wr:=true) (es:=0) rfl (g:=h.new (.cells (ob (i,key)).cells true 0)) rfl;refine⟨_,bU Rq rfl,?_⟩;conv=>whnf
  refine dV z6 fun g1 eg=>?_;subst eg;conv=>whnf
  refine dV (cj (gp.trans Rq) (by subst e1;rfl) (by rw[List.length_cons];show 0+1≤_;omega) (by subst e1;rfl)) fun g2 e2=>?_;conv=>whnf
  refine⟨nL (by(conv=>whnf);repeat' (first|exact trivial|(exact bU hr.hk rfl)|(exact bU (gk.trans hr.hk) rfl)|(exact⟨rfl,rfl,.inr ⟨_,_,rfl⟩⟩)|(refine⟨rfl,rfl,.inl ⟨rfl,fun o ho=>?_⟩⟩;cases ho;first|rfl|(exact bU hr.hk rfl)|(exact bU (gk.trans hr.hk) rfl))|(exact⟨rfl,.inr ⟨_,_,rfl⟩⟩)|(refine⟨rfl,.inl ⟨rfl,fun i o hi ho=>?_⟩⟩;cases hi;cases ho;first|rfl|(exact bU hr.hk rfl)|(exact bU (gk.trans hr.hk) rfl))|(refine And.intro (fun fI=>(Bool.false_ne_true fI).elim) ?_<;>conv=>whnf)|(refine And.intro (fun _=>?_) ?_<;>conv=>whnf)|(refine And.intro ?_ ?_<;>conv=>whnf))),?_⟩;conv=>whnf
  have hpn:=hr.lp;have hkn:=hr.lk;have Zm:g2.get k=some (.cells [.ptr p 0] true 0):=by rw[e2,aQ hr.ne];exact gk.trans hr.hk
  have HE:nM g2 p r cap true (L++[(i,key)]) P rest:=by
   refine⟨?_,?_,rp.symm,?_,?_⟩
   ·rw[e2,aC,e1];show some (ck.cells (.sl r 0 (L.length+1) cap true::Heap.splice (Fm P) 0 []) true 0)=_;rw[eF,List.length_append];rfl
   ·rw[e2,aQ rp];exact gr
   ·rw[e2];show p<g1.next;omega
   ·rw[e2];exact rl
  have jx:Fr h g2 S:=by rw[e2];exact T8.set pS
  clear e2;refine⟨_,bU Zm rfl,?_⟩;conv=>whnf
  refine⟨_,bU Zm rfl,?_⟩;conv=>whnf
  refine⟨_,HE.row,?_⟩;conv=>whnf
  have hl:(L++[((i,key):Id)]).length=L.length+1:=by simp
  rw[(B0 (M:=L) (x:=(i,key))).resolve_right (by omega)];refine VZ HE (by omega) (by omega) (Oq hr.pl i64 h0) (NL hr.hp) fun h4 L4 P4 a4 UK k1 k2 k3 k4 k5 k6 k7 jR=>?_;conv=>whnf
  have kn2:k<g2.next:=Nat.lt_of_lt_of_le hkn jx.next;refine h3 i rfl i64 (hr.pl.no h0) h4 [k,p,r] L4 P4 ⟨?_,hr.ne,Nat.lt_of_lt_of_le kn2 jR.next,UK.lp,.inr ⟨r,cap,rest,rfl,rk,by omega,UK⟩,k3,k4.full (k7 NB)⟩ (fun y=>?_) ⟨?_,fun b hb=>?_⟩
  ·rw[jR.keep k kn2 (by simp[hr.ne,Ne.symm rk])];exact Zm
  ·rw[k6.mem];simp
  ·refine⟨Nat.le_trans jx.next jR.next,fun b hb hn=>?_⟩;have hbp:b≠p:=by rintro rfl;exact hn pS
   have xO:b≠r:=by
    rintro rfl;rcases rS with h|h
    ·exact hn h
    ·omega
   rw[jR.keep b (Nat.lt_of_lt_of_le hb jx.next) (by simp[hbp,xO])];exact jx.keep b hb hn
  ·simp at hb;rcases hb with rfl|rfl|rfl
   ·exact .inl kS
   ·exact .inl pS
   ·exact rS
 ·conv=>whnf
  subst hi;refine h2 (gI L j) (iI.2 ⟨j,hj,rfl⟩) (by rw[hid])
theorem TQ{h:Heap}{k p:Nat}{S:List Nat}{L:List Id}{P:Nat→Nat}(hr:yg h k p S L P){a:Nat}(ha:a<L.length){Q:AV→Heap→Prop}
  (hQ:∀h' S' L' P',yg h' k p S' L' P'→L'.length+1=L.length→(∀y,y∈L'↔y∈L∧y.1≠(gI L a).1)→Own h h' S S'→Q (.cD []) h'):VD fs ms 167 [.ptr p 0,.int .i64 ((a:Nat):Int)] h Q:=by
 rcases hr.row with⟨hL,_,_⟩|⟨r,cap,rest,hS,rk,hcap,hh⟩
 ·subst hL;simp at ha
 obtain⟨M,x,rfl⟩:∃M x,L=M++[x]:=by
  rcases List.eq_nil_or_concat L with rfl|⟨M,x,rfl⟩
  ·simp at ha
  ·exact⟨M,x,by simp⟩
 have hl:(M++[x]).length=M.length+1:=by simp
 have Ta:=hr.pl.BZ;refine TP hh (by omega) (by omega) (by omega) hr.pl hr.hp fun h' L' P' HD k1 k2 k3 k4 fr=>?_;subst hS;refine hQ h' [k,p,r] L' P' ⟨?_,hr.ne,Nat.lt_of_lt_of_le hr.lk fr.next,HD.lp,.inr ⟨r,cap,_,rfl,rk,?_,HD⟩,k2,k3⟩ (by omega) k4 ⟨⟨fr.next,fun b hb hn=>fr.keep b hb ?_⟩,fun b hb=>.inl hb⟩
 ·rw[fr.keep k hr.lk (by simp[hr.ne,Ne.symm rk])];exact hr.hk
 ·rw[List.length_append];have:(ob x).cells.length=2:=rfl;omega
 ·simp at hn⊢;exact hn.2
theorem KJ{h:Heap}{k p:Nat}{S:List Nat}{L:List Id}{P:Nat→Nat}(hr:yg h k p S L P)(id:Int){Q:AV→Heap→Prop}(h1:(∀y∈L,id≠(y.1:Int))→Q (.bool false) h)
  (h3:∀y:Id,id=(y.1:Int)→y∈L→∀h' S' L' P',yg h' k p S' L' P'→(∀z,z∈L'↔z∈L∧z.1≠y.1)→Own h h' S S'→Q (.bool true) h'):VD fs ms 140 [.ptr k 0,.int .i64 id] h Q:=by
 refine ak (af:=LX) true rfl (Nat.le_of_ble_eq_true rfl) ?_;conv=>whnf
 refine TK hr id (fun hb=>?_) (fun i hi i64 h0=>?_) fun i j hi i64 hj hP hid=>?_
 ·conv=>whnf
  refine h1 fun y hy e=>?_;obtain⟨i,hi,rfl⟩:=iI.1 hy;have:=hr.pl.small i hi;omega
 ·conv=>whnf
  refine h1 fun y hy e=>?_;have:=hr.pl.no h0 y hy;omega
 ·conv=>whnf
  refine⟨_,bU hr.hk rfl,?_⟩;conv=>whnf
  refine TQ hr hj fun h' S' L' P' r1 r2 r3 r4=>?_;conv=>whnf
  exact h3 (gI L j) (by rw[hid];exact hi) (iI.2 ⟨j,hj,rfl⟩) h' S' L' P' r1 r3 r4
theorem Row.len{h:Heap}{k p:Nat}{S:List Nat}{L:List Id}{P:Nat→Nat}(hr:Row h k p S L P):∃rv,rV .bY [.ptr p 0] h=some rv∧pV .bX [rv]=some (.int .i64 ((L.length:Nat):Int))∧∀i,i<L.length→∃r,pV (.aG 2) [rv,.int .i64 ((i:Nat):Int)]=some (.ptr r (i*2))∧rV .bY [.ptr r (i*2)] h=some (.int .i64 ((gI L i).1:Nat))∧rV .bY [.ptr r (i*2+1)] h=some (.int .i64 (gI L i).2):=by
 rcases hr with⟨hL,_,hg⟩|⟨r,cap,rest,_,_,_,hh⟩
 ·subst hL;exact⟨.aH,bU hg rfl,rfl,fun i hi=>by simp at hi⟩
 ·exact⟨_,hh.row,rfl,fun i hi=>⟨r,bL hi,hh.id hi,hh.key hi⟩⟩
theorem Nu{h:Heap}{k p:Nat}{S:List Nat}{L:List Id}{P:Nat→Nat}(hr:yg h k p S L P){Q:AV→Heap→Prop}(h1:L=[]→Q (.cD [.int .i64 0,.int .i64 0,.bool false]) h)
  (h2:0<L.length→Q (.cD [.int .i64 ((gI L 0).1:Nat),.int .i64 (gI L 0).2,.bool true]) h):VD fs ms 111 [.ptr k 0] h Q:=by
 refine ak (af:=LN) true rfl (Nat.le_of_ble_eq_true rfl) ?_;conv=>whnf
 obtain⟨rv,l1,l2,l3⟩:=hr.row.len;refine DA hr ?_;conv=>whnf
 refine⟨_,bU hr.hk rfl,?_⟩;conv=>whnf
 refine⟨_,l1,?_⟩;conv=>whnf
 refine Fk l2 ?_;conv=>whnf
 refine br (fun hc=>?_) (fun hc=>?_)<;>(try rw[hc])<;>(conv=>whnf)
 ·refine h1 (List.eq_nil_of_length_eq_zero ?_);simp at hc;simp[hc]
 ·have hl:0<L.length:=by
   refine Nat.pos_of_ne_zero fun h0=>?_;simp[List.eq_nil_of_length_eq_zero h0] at hc
  obtain⟨r,l4,l5,l6⟩:=l3 0 hl;refine⟨_,bU hr.hk rfl,?_⟩;conv=>whnf
  refine⟨_,l1,?_⟩;conv=>whnf
  refine⟨_,l4,?_⟩;conv=>whnf
  refine⟨_,l5,?_⟩;conv=>whnf
  refine⟨_,bU hr.hk rfl,?_⟩;conv=>whnf
  refine⟨_,l1,?_⟩;conv=>whnf
  refine⟨_,l4,?_⟩;conv=>whnf
  refine⟨_,l6,?_⟩;conv=>whnf
  exact h2 hl
theorem EX(x:Int):PC fs ms 188 [.int .i64 x] (.bool false):=by
 refine cG rfl rfl ?_;refine ak (af:=MG) false rfl (Nat.le_of_ble_eq_true rfl) ?_;generalize hQ:(fun(u:AV) (_:Heap)=>u=.bool false)=Q;conv=>whnf
 subst hQ;simp
def Bc(x y:Int):Int:=if x<y then-1 else if y<x then 1 else 0
theorem yd(x y:Int):PC fs ms 178 [.int .i64 x,.int .i64 y] (.int .i64 (Bc x y)):=by
 refine cG rfl rfl ?_;refine ak (af:=Mz) false rfl (Nat.le_of_ble_eq_true rfl) ?_;generalize hQ:(fun(u:AV) (_:Heap)=>u=.int .i64 (Bc x y))=Q;conv=>whnf
 refine aO (EX x) ?_;conv=>whnf
 refine aO (EX y) ?_;conv=>whnf
 refine br (fun hc=>?_) (fun hc=>?_)<;>(try rw[hc])<;>(conv=>whnf)
 ·have h1:x<y:=of_decide_eq_true hc;subst hQ;rw[Bc,if_pos h1]
 ·have h1:¬x<y:=of_decide_eq_false hc;refine br (fun hc=>?_) (fun hc=>?_)<;>(try rw[hc])<;>(conv=>whnf)
  ·have h2:y<x:=of_decide_eq_true hc;subst hQ;rw[Bc,if_neg h1,if_pos h2]
  ·have h2:¬y<x:=of_decide_eq_false hc;subst hQ;rw[Bc,if_neg h1,if_neg h2]
def Sj(a b:Int):Int:=if a≠0 then a else b
theorem Y0(a b:Int)(k:Nat):PC fs ms 177 [.fz k [.int .i64 a,.int .i64 b]] (.int .i64 (Sj a b)):=by
 refine cG rfl rfl ?_;refine ak (af:=My) false rfl (Nat.le_of_ble_eq_true rfl) ?_;generalize hQ:(fun(u:AV) (_:Heap)=>u=.int .i64 (Sj a b))=Q;conv=>whnf
 refine dm (z:=false) ?_;conv=>whnf
 refine⟨_,(vl (j:=0) (x:=.int .i64 a) rfl rfl),?_⟩;conv=>whnf
 refine br (fun hc=>?_) (fun hc=>?_)<;>(try rw[hc])<;>(conv=>whnf)
 ·have h1:a≠0:=by simpa using hc
  subst hQ;rw[Sj,if_pos h1]
 ·have h1:¬a≠0:=by simpa using hc
  refine dm (z:=false) ?_;conv=>whnf
  refine⟨_,(vl (j:=1) (x:=.int .i64 b) rfl rfl),?_⟩;conv=>whnf
  refine br (fun hc=>?_) (fun hc=>?_)<;>(try rw[hc])<;>(conv=>whnf)
  ·have h2:b≠0:=by simpa using hc
   subst hQ;rw[Sj,if_neg h1]
  ·have h2:¬b≠0:=by simpa using hc
   refine dm (z:=false) ?_;conv=>whnf
   subst hQ;rw[Sj,if_neg h1];have:b=0:=by omega
   rw[this]
theorem NP{s:List UInt8}{n:Nat}(h:n<s.length):pV .BO [.str s,.int .u8 ((n:Nat):Int)]=some (.int .u8 ((s[n].toNat:Nat):Int)):=by
 show(s[n]?).map (fun b=>AV.int .u8 ((b.toNat:Nat):Int))=_;rw[List.getElem?_eq_getElem h];rfl
theorem ML{n:Nat}(h:n<65):∃m,PC fs ms 198 [.int .u64 ((n:Nat):Int)] (.int .i64 m):=by
 have key:VD fs ms 198 [.int .u64 ((n:Nat):Int)] ⟨0,.nil⟩ (fun u _=>∃m,u=.int .i64 m):=by
  have hw:IntKind.u8.wrap ((n:Nat):Int)=((n:Nat):Int):=by
   show((n:Nat):Int)%256=_;omega
  obtain⟨N,hN⟩:∃N:Int,N=((n:Nat):Int):=⟨_,rfl⟩;rw[←hN];refine ak (af:=MH) false rfl (Nat.le_of_ble_eq_true rfl) ?_;generalize hQ:(fun(u:AV) (_:Heap)=>∃m,u=.int .i64 m)=Q;conv=>whnf
  refine qm (decide_eq_false (by omega)) (fun hc=>?_)
  (try rw[hc])
  conv=>whnf
  refine qm (decide_eq_false (by omega)) (fun hc=>?_)
  (try rw[hc])
  conv=>whnf
  refine qm (decide_eq_false (by omega)) (fun hc=>?_)
  (try rw[hc])
  conv=>whnf
  rw[hN,hw];refine⟨_,NP (n:=n) (Nat.lt_of_lt_of_le h (by decide)),?_⟩;conv=>whnf
  subst hQ;exact⟨_,rfl⟩
 obtain⟨v,g,hb,m,rfl⟩:=key;exact⟨m,rfl,rfl,_,g,hb,.clean rfl⟩
theorem O7{n:Nat}(h:n<65):∃m,PC fs ms 187 [.int .u64 ((n:Nat):Int)] (.int .i64 m):=by
 obtain⟨m,hm⟩:=ML h;refine⟨m,cG rfl rfl ?_⟩;refine ak (af:=MF) false rfl (Nat.le_of_ble_eq_true rfl) ?_;conv=>whnf
 refine aO hm ?_;conv=>whnf
def M4(x y:Id):Int:=Sj (Bc x.2 y.2) (Bc x.1 y.1)
theorem Ew(x y:Id):M4 x y<0↔ah x y=true:=by
 rw[nQ];unfold M4 Sj Bc;split<;>split<;>(try split)<;>(try split)<;>simp at*<;>omega
theorem Qi(x y:Id):PC fs ms 176 [ob x,ob y] (.int .i64 (M4 x y)):=by
 refine cG rfl rfl ?_;refine ak (af:=Mx) false rfl (Nat.le_of_ble_eq_true rfl) ?_;generalize hQ:(fun(u:AV) (_:Heap)=>u=.int .i64 (M4 x y))=Q;obtain⟨x1,x2⟩:=x;obtain⟨y1,y2⟩:=y;conv=>whnf
 refine aO (yd x2 y2) ?_;conv=>whnf
 refine aO (yd x1 y1) ?_;conv=>whnf
 refine jM (Y0 _ _ 0) rfl (.cons (.row (s:=1) trivial rfl rfl rfl rfl (Nat.le_refl _) (by omega) (fun h=>by omega) (fun h=>by omega) rfl) .nil) ?_;conv=>whnf
 refine⟨nL (by(conv=>whnf);repeat' (first|exact trivial|(exact⟨rfl,rfl,.inr ⟨_,_,rfl⟩⟩)|(refine⟨rfl,rfl,.inl ⟨rfl,fun o ho=>?_⟩⟩;cases ho;first|rfl)|(exact⟨rfl,.inr ⟨_,_,rfl⟩⟩)|(refine⟨rfl,.inl ⟨rfl,fun i o hi ho=>?_⟩⟩;cases hi;cases ho;first|rfl)|(refine And.intro (fun fI=>(Bool.false_ne_true fI).elim) ?_<;>conv=>whnf)|(refine And.intro (fun _=>?_) ?_<;>conv=>whnf)|(refine And.intro ?_ ?_<;>conv=>whnf))),?_⟩;subst hQ;rfl
structure xC(h:Heap)(b es:Nat)(L:List Id)(rest:List AV):Prop where
 hb:h.get b=some (.cells (oc L++rest) true es)
 lb:b<h.next
theorem xC.one{h:Heap}{b es:Nat}{L:List Id}{rest:List AV}(hh:xC h b es L rest){i:Nat}(hi:i<L.length):rV (.bf 2) [.ptr b (i*2)] h=some (ob (gI L i)):=by
 have hlen:=oh L;rw[xA hh.hb (by rw[List.length_append];omega),Fi hi,lZ hi];rfl
theorem xC.put{h:Heap}{b es:Nat}{L:List Id}{rest:List AV}(hh:xC h b es L rest){i:Nat}(hi:i<L.length)(x:Id):eV (.store 2) [.ptr b (i*2),ob x] h=some (.undef,h.set b (.cells (oc (L.set i x)++rest) true es)):=by
 have hlen:=oh L;rw[←DC L i hi x rest];exact cj (n:=2) (v:=ob x) hh.hb rfl (by rw[List.length_append];omega) rfl
theorem xC.next{h:Heap}{b es:Nat}{L L':List Id}{rest:List AV}(hh:xC h b es L rest):xC (h.set b (.cells (oc L'++rest) true es)) b es L' rest:=⟨aC,hh.lb⟩
def SM(L:List Id):Prop:=∀i j,i<L.length→j<L.length→(gI L i).1=(gI L j).1→i=j
structure RS(a e:Nat)(L M:List Id):Prop where
 len:L.length=M.length
 out:∀k,k<a∨e≤k→gI M k=gI L k
 mem:∀y,(∃k,a≤k∧k<e∧gI L k=y)↔∃k,a≤k∧k<e∧gI M k=y
 dst:SM L→SM M
theorem RS.refl(a e:Nat)(L:List Id):RS a e L L:=⟨rfl,fun _ _=>rfl,fun _=>Iff.rfl,id⟩
theorem RS.trans{a e:Nat}{L M K:List Id}(h:RS a e L M)(g:RS a e M K):RS a e L K:=⟨h.len.trans g.len,fun k hk=>(g.out k hk).trans (h.out k hk),fun y=>(h.mem y).trans (g.mem y),fun d=>g.dst (h.dst d)⟩
theorem RS.wide{a e a' e':Nat}{L M:List Id}(h:RS a e L M)(ha:a'≤a)(he:e≤e'):RS a' e' L M:=by
 refine⟨h.len,fun k hk=>h.out k (by omega),fun y=>⟨?_,?_⟩,h.dst⟩
 ·rintro⟨k,k1,k2,hy⟩;by_cases hk:a≤k∧k<e
  ·obtain⟨j,j1,j2,j3⟩:=(h.mem y).1 ⟨k,hk.1,hk.2,hy⟩;exact⟨j,by omega,by omega,j3⟩
  ·exact⟨k,k1,k2,by rw[h.out k (by omega)];exact hy⟩
 ·rintro⟨k,k1,k2,hy⟩;by_cases hk:a≤k∧k<e
  ·obtain⟨j,j1,j2,j3⟩:=(h.mem y).2 ⟨k,hk.1,hk.2,hy⟩;exact⟨j,by omega,by omega,j3⟩
  ·exact⟨k,k1,k2,by rw[←h.out k (by omega)];exact hy⟩
theorem RS.swap{a e:Nat}{L:List Id}{i j:Nat}(hi:a≤i)(hi':i<e)(hj:a≤j)(hj':j<e)(he:e≤L.length):RS a e L (uZ L i j):=by
 have hg:=n8 (V:=L) (show i<L.length by omega) (show j<L.length by omega);refine⟨(jL L i j).symm,fun k hk=>?_,fun y=>⟨?_,?_⟩,fun d=>?_⟩
 ·rw[hg,if_neg (by omega),if_neg (by omega)]
 ·rintro⟨k,k1,k2,hy⟩;by_cases h1:k=i
  ·subst h1;exact⟨j,hj,hj',by rw[hg,if_pos rfl,hy]⟩
  ·by_cases h2:k=j
   ·subst h2;exact⟨i,hi,hi',by rw[hg,if_neg (fun e=>h1 e.symm),if_pos rfl,hy]⟩
   ·exact⟨k,k1,k2,by rw[hg,if_neg h2,if_neg h1,hy]⟩
 ·rintro⟨k,k1,k2,hy⟩;rw[hg] at hy;split at hy
  ·exact⟨i,hi,hi',hy⟩
  ·split at hy
   ·exact⟨j,hj,hj',hy⟩
   ·exact⟨k,k1,k2,hy⟩
 ·have hs:∀k,gI (uZ L i j) k=gI L (if k=j then i else if k=i then j else k):=by
   intro k;rw[hg];split
   ·rfl
   ·split<;>rfl
  have hl:=jL L i j;intro u v hu hv he;rw[hs,hs] at he;have hk:∀k,k<(uZ L i j).length→(if k=j then i else if k=i then j else k)<L.length:=by
   intro k hk;split
   ·omega
   ·split<;>omega
  have key:=d _ _ (hk u hu) (hk v hv) he;revert key;repeat' split
  all_goals (intro key;omega)
def Lm(L:List Id)(a e:Nat):Prop:=∀i j,a≤i→i<j→j<e→ah (gI L j) (gI L i)=false
def FU(L:List Id)(a e j:Nat):Prop:=∀u v,a≤u→u<v→v<e→v≠j→ah (gI L v) (gI L u)=false
theorem FU.step{L:List Id}{a e j:Nat}(h:FU L a e j)(ha:a<j)(hj:j<e)(he:e≤L.length)(hs:ah (gI L j) (gI L (j-1))=true):FU (uZ L j (j-1)) a e (j-1):=by
 have hg:=n8 (V:=L) (show j<L.length by omega) (show j-1<L.length by omega);intro u v h1 h2 h3 h4;rw[hg v,if_neg h4,hg u];by_cases hv:v=j
 ·rw[if_pos hv];by_cases hu:u=j-1
  ·rw[if_pos hu];exact yj hs
  ·rw[if_neg hu,if_neg (by omega)];exact h u (j-1) h1 (by omega) (by omega) (by omega)
 ·rw[if_neg hv];by_cases hu:u=j-1
  ·rw[if_pos hu];exact h j v (by omega) (by omega) h3 hv
  ·rw[if_neg hu];by_cases Xs:u=j
   ·rw[if_pos Xs];exact h (j-1) v (by omega) (by omega) h3 hv
   ·rw[if_neg Xs];exact h u v h1 h2 h3 hv
theorem FU.done{L:List Id}{a e j:Nat}(h:FU L a e j)(hs:j≤a∨ah (gI L j) (gI L (j-1))=false):Lm L a e:=by
 intro u v h1 h2 h3;by_cases hv:v=j
 ·subst hv;rcases hs with hs|hs
  ·omega
  ·by_cases hu:u=v-1
   ·subst hu;exact hs
   ·exact yl hs (h u (v-1) h1 (by omega) (by omega) (by omega))
 ·exact h u v h1 h2 h3 hv
abbrev zG:AV:=.func (.func 176) [] []
theorem IC{j:Nat}(h:j<2^62)(h0:0<j):IntKind.i64.wrap (((j:Nat):Int)-1)=((j-1:Nat):Int):=by
 rw[show((j:Nat):Int)-1=((j-1:Nat):Int) by omega,kK (by omega)]
def NS(b N cap a e i j:Nat)(op:Bool):List (Nat×AV):=[(0,.sl b 0 N cap op),(1,.int .i64 ((a:Nat):Int)),(2,.int .i64 ((e:Nat):Int)),(3,zG),(8,.int .i64 ((i:Nat):Int)),(9,.int .i64 ((j:Nat):Int))]
theorem RG{b es N cap a e i:Nat}{op:Bool}{rest:List AV}{B:Nat}{Q:AX→Env→Heap→Prop}(hN:N<2^60)(he:e≤N)(hi:i<e):
  ∀(j:Nat) (h:Heap) (L:List Id),xC h b es L rest→L.length=N→a≤j→j≤i→FU L a (i+1) j→
  (∀(h':Heap) (L':List Id) (e':Env),Tr.get e' 0=some (.sl b 0 N cap op)→Tr.get e' 1=some (.int .i64 ((a:Nat):Int))→Tr.get e' 2=some (.int .i64 ((e:Nat):Int))→Tr.get e' 3=some zG→Tr.get e' 8=some (.int .i64 ((i:Nat):Int))→
   xC h' b es L' rest→RS a (i+1) L L'→Lm L' a (i+1)→Fr h h' [b]→Q (.exit 2) e' h')→
  VC fs ms B false (.loop dr) (ek 4 (NS b N cap a e i j op)) h Q:=by
 intro j;induction j using Nat.strongRecOn with
 |ind j ih=>
 intro h L hh hL ha hj hs hQ;refine dm (z:=true) ?_;unfold NS;conv=>whnf
 refine br (fun hc=>?_) (fun hc=>?_)<;>(try rw[hc])<;>(conv=>whnf)
 ·have h0:a<j:=by have:=of_decide_eq_true hc;omega
  refine⟨_,bL (by omega),?_⟩;conv=>whnf
  refine⟨_,hh.one (by omega),?_⟩;conv=>whnf
  rw[IC (by omega) (by omega)];refine⟨_,bL (by omega),?_⟩;conv=>whnf
  refine⟨_,hh.one (by omega),?_⟩;conv=>whnf
  refine aO (Qi _ _) ?_;conv=>whnf
  refine br (fun hc=>?_) (fun hc=>?_)<;>(try rw[hc])<;>(conv=>whnf)
  ·have hlt:ah (gI L j) (gI L (j-1))=true:=(Ew _ _).1 (of_decide_eq_true hc);rw[IC (by omega) (by omega)];refine⟨_,bL (by omega),?_⟩;conv=>whnf
   refine⟨_,hh.one (by omega),?_⟩;conv=>whnf
   refine⟨_,bL (by omega),?_⟩;conv=>whnf
   refine⟨_,hh.one (by omega),?_⟩;conv=>whnf
   refine⟨_,bL (by omega),?_⟩;conv=>whnf
   refine dV (hh.put (by omega) _) fun h1 e1=>?_;conv=>whnf
   have GD:xC h1 b es (L.set j (gI L (j-1))) rest:=by rw[e1];exact hh.next
   refine⟨_,bL (by omega),?_⟩;conv=>whnf
   refine dV (GD.put (by rw[List.length_set];omega) _) fun h2 e2=>?_;conv=>whnf
   have HE:xC h2 b es (uZ L j (j-1)) rest:=by rw[e2];exact GD.next
   have fr:Fr h h2 [b]:=by rw[e2,e1];exact((Fr.refl h [b]).set (by simp)).set (by simp)
   rw[IC (by omega) (by omega)];refine aE 4 (NS b N cap a e i (j-1) op) ⟨rfl,rfl,rfl,rfl,rfl,rfl,trivial⟩ ?_;refine ih (j-1) (by omega) h2 _ HE (by rw[jL];exact hL) (by omega) (by omega) (hs.step (by omega) (by omega) (by omega) hlt) ?_;intro h' L' e' g0 g1 g2 g3 g8 k1 k2 k3 k4;exact hQ h' L' e' g0 g1 g2 g3 g8 k1 ((RS.swap (by omega) (by omega) (by omega) (by omega) (by omega)).trans k2) k3 (fr.trans k4)
  ·have hlt:ah (gI L j) (gI L (j-1))=false:=by
    rw[←Bool.not_eq_true,←Ew];exact of_decide_eq_false hc
   exact hQ h L _ rfl rfl rfl rfl rfl hh (RS.refl _ _ _) (hs.done (.inr hlt)) (Fr.refl _ _)
 ·have h0:j≤a:=by have:=of_decide_eq_false hc;omega
  exact hQ h L _ rfl rfl rfl rfl rfl hh (RS.refl _ _ _) (hs.done (.inl h0)) (Fr.refl _ _)
theorem NT{b es N cap a e:Nat}{op:Bool}{rest:List AV}{B:Nat}{Q:AX→Env→Heap→Prop}(hN:N<2^60)(he:e≤N):
  ∀(k i:Nat) (h:Heap) (L:List Id) (env:Env),e-i=k→xC h b es L rest→L.length=N→a<i→Lm L a i→(Lm L a (i+1)→True)→
  Tr.get env 0=some (.sl b 0 N cap op)→Tr.get env 1=some (.int .i64 ((a:Nat):Int))→Tr.get env 2=some (.int .i64 ((e:Nat):Int))→Tr.get env 3=some zG→Tr.get env 8=some (.int .i64 ((i:Nat):Int))→
  (∀(h':Heap) (L':List Id) (e':Env),xC h' b es L' rest→RS a e L L'→Lm L' a e→Fr h h' [b]→Q (.exit 0) e' h')→
  VC fs ms B false (.loop dn) env h Q:=by
 intro k;induction k using Nat.strongRecOn with
 |ind k ih=>
 intro i h L env hk hh hL hai hs _ g0 g1 g2 g3 g8 hQ;refine aE 4 [(0,.sl b 0 N cap op),(1,.int .i64 ((a:Nat):Int)),(2,.int .i64 ((e:Nat):Int)),(3,zG),(8,.int .i64 ((i:Nat):Int))] ⟨g0,g1,g2,g3,g8,trivial⟩ ?_;refine mA (aM true ?_);conv=>whnf
 refine br (fun hc=>?_) (fun hc=>?_)<;>(try rw[hc])<;>(conv=>whnf)
 ·have hlt:i<e:=by have:=of_decide_eq_true hc;omega
  refine bt (bR (aM true ?_));conv=>whnf
  refine bR ?_;refine aE 4 (NS b N cap a e i i op) ⟨rfl,rfl,rfl,rfl,rfl,rfl,trivial⟩ ?_;refine RG hN he hlt i h L hh hL (by omega) (Nat.le_refl _) (fun u v h1 h2 h3 h4=>hs u v h1 h2 (by omega)) ?_;intro h' L' e' j0 j1 j2 j3 j8 k1 k2 k3 k4;show VC fs ms _ _ _ _ _ _;refine aE 4 [(0,.sl b 0 N cap op),(1,.int .i64 ((a:Nat):Int)),(2,.int .i64 ((e:Nat):Int)),(3,zG),(8,.int .i64 ((i:Nat):Int))] ⟨j0,j1,j2,j3,j8,trivial⟩ (aA (z:=true) ?_);conv=>whnf
  have hl:=k2.len;refine ih (e-(i+1)) (by omega) (i+1) h' L' _ rfl k1 (by omega) (by omega) k3 (fun _=>trivial) rfl rfl rfl rfl (aL (by omega)) ?_;intro h2 L2 e2 m1 m2 m3 m4;exact hQ h2 L2 e2 m1 ((k2.wide (Nat.le_refl _) (by omega)).trans m2) m3 (k4.trans m4)
 ·have hge:e≤i:=by have:=of_decide_eq_false hc;omega
  exact hQ h L _ hh (RS.refl _ _ _) (fun u v h1 h2 h3=>hs u v h1 h2 (by omega)) (Fr.refl _ _)
theorem Vh{h:Heap}{b es cap a e:Nat}{op:Bool}{L:List Id}{rest:List AV}(hh:xC h b es L rest)(hN:L.length<2^60)(ha:a≤e)(he:e≤L.length){Q:AV→Heap→Prop}
  (hQ:∀h' L',xC h' b es L' rest→RS a e L L'→Lm L' a e→Fr h h' [b]→Q (.cD []) h'):
  VD fs ms 189 [.sl b 0 L.length cap op,.int .i64 ((a:Nat):Int),.int .i64 ((e:Nat):Int),zG] h Q:=by
 refine dz (af:=HV) rfl (Nat.le_of_ble_eq_true rfl) ?_;conv=>whnf
 refine aM true ?_;conv=>whnf
 refine bR ?_;refine NT hN he _ (a+1) h L _ rfl hh rfl (by omega) (fun u v h1 h2 h3=>by omega) (fun _=>trivial) rfl rfl rfl rfl (aL (by omega)) ?_;intro h' L' e' k1 k2 k3 k4;show Q (.cD []) h';exact hQ h' L' k1 k2 k3 k4
end Ir
end Go.Proofs.YtnlcabhfkpafmaaGreat
namespace Go.Proofs.YtnlcabhfkpafmaaGreat
open Go Ads
namespace Ads
theorem OV{h:Heap}{b s n cap:Nat}{op wr:Bool}{es:Nat}{cs rest:List AV}(hg:h.get b=some (.cells (cs++rest) wr es))(hl:cs.length=n*s):eJ s h (.sl b 0 n cap op)=some (n,cs):=by
 have b1:Nat.ble (0+n*s) (cs++rest).length=true:=Nat.ble_eq_true_of_le (by rw[List.length_append];omega);show(h.bf b 0 (n*s)).map _=_;have:h.bf b 0 (n*s)=some cs:=by
  simp only[Heap.bf,Heap.row,hg,b1,cond_true,List.drop_zero];rw[←hl,List.take_left'];rfl
 rw[this];rfl
theorem F6{h:Heap}{b s bytes:Nat}{src:AV}{cs:List AV}(hsrc:eJ s h src=some (0,cs))(hf:bz cs=true):eV (.append s bytes) [.sl b 0 0 0 false,src] h=some (.sl b 0 0 0 false,h):=by
 simp only[eV,l2,hsrc];show cond (bz cs) _ _=_;rw[hf,cond_true];rfl
theorem F7{h:Heap}{b s bytes n es:Nat}{wr:Bool}{vs:List AV}{src:AV}{cs:List AV}(hg:h.get b=some (.cells vs wr es))(hsrc:eJ s h src=some (n+1,cs))(hf:bz cs=true)(hb:bytes≤1048576)(hn:n≤1048576):
  eV (.append s bytes) [.sl b 0 0 0 false,src] h=some (.sl h.next 0 (n+1) (n+1) true,h.new (.cells cs true s)):=by
 have hm:(n+1)*bytes≤1048577*1048576:=Nat.mul_le_mul (by omega) hb;have b2:Nat.ble ((0+(n+1))*bytes) 140737488355328=true:=Nat.ble_eq_true_of_le (by rw[Nat.zero_add];omega);have b3:Nat.ble (0+(n+1)) 9223372036854775807=true:=Nat.ble_eq_true_of_le (by omega);have Ac:h.bf b 0 (0*s)=some []:=by
  have b1:Nat.ble (0+0*s) vs.length=true:=Nat.ble_eq_true_of_le (by omega);simp only[Heap.bf,Heap.row,hg];rw[b1,cond_true,Nat.zero_mul];rfl
 have b0:Nat.ble (0+(n+1)) 0=false:=by
  cases hb:Nat.ble (0+(n+1)) 0 with
  |false=>rfl
  |true=>have:=Nat.le_of_ble_eq_true hb;omega
 simp only[eV,l2,hsrc];show cond (bz cs) _ _=_;rw[hf,cond_true];show cond (Nat.beq (n+1) 0&&Nat.ble 0 0) _ _=_;rw[show Nat.beq (n+1) 0=false from rfl,Bool.false_and,cond_false,b0,cond_false,b2,b3,Bool.and_self,cond_true,hg,Ac];show some (AV.sl h.next 0 (0+(n+1)) (0+(n+1)) true,h.new (.cells ([]++cs) true s))=_;rw[Nat.zero_add,List.nil_append]
end Ads
namespace Ir
theorem zY:∀L:List Id,bz (oc L)=true
 |[]=>rfl
 |x::L=>by
  show bz (.int .i64 (x.1:Nat)::.int .i64 x.2::oc L)=true;simp only[bz,zY L];rfl
theorem Ol{h:Heap}{b es cap:Nat}{op:Bool}{L:List Id}{rest:List AV}{m:Int}(hh:xC h b es L rest)(h12:L.length≤12){Q:AV→Heap→Prop}
  (hQ:∀h' L',xC h' b es L' rest→RS 0 L.length L L'→Lm L' 0 L.length→Fr h h' [b]→Q (.cD []) h'):
  VD fs ms 186 [.sl b 0 L.length cap op,.int .i64 ((0:Nat):Int),.int .i64 ((L.length:Nat):Int),.int .i64 m,zG] h Q:=by
 refine ak (af:=HU) true rfl (Nat.le_of_ble_eq_true rfl) ?_;conv=>whnf
 refine dm (z:=true) ?_;conv=>whnf
 have hd:decide (IntKind.i64.wrap (((L.length:Nat):Int)-((0:Nat):Int))≤12)=true:=by
  rw[show((L.length:Nat):Int)-((0:Nat):Int)=((L.length:Nat):Int) by omega,kK (by omega)];exact decide_eq_true (by omega)
 refine qO (hd) (fun hc=>?_)
 (try rw[hc])
 conv=>whnf
 refine Vh hh (by omega) (Nat.zero_le _) (Nat.le_refl _) fun h' L' k1 k2 k3 k4=>?_;conv=>whnf
 exact hQ h' L' k1 k2 k3 k4
theorem KY{h:Heap}{b es cap:Nat}{op:Bool}{L:List Id}{rest:List AV}(hh:xC h b es L rest)(h12:L.length≤12){Q:AV→Heap→Prop}
  (hQ:∀h' L',xC h' b es L' rest→RS 0 L.length L L'→Lm L' 0 L.length→Fr h h' [b]→Q (.cD []) h'):
  VD fs ms 175 [.sl b 0 L.length cap op,zG] h Q:=by
 refine ak (af:=HS) true rfl (Nat.le_of_ble_eq_true rfl) ?_;conv=>whnf
 obtain⟨m,hm⟩:=O7 (n:=L.length) (by omega);have hu:IntKind.u64.wrap ((L.length:Nat):Int)=((L.length:Nat):Int):=by
  have rO:∀z:Int,IntKind.u64.wrap z=z%18446744073709551616:=fun z=>by simp[IntKind.wrap,IntKind.signed,IntKind.bits]
  rw[rO];omega
 rw[hu];refine aO hm ?_;conv=>whnf
 refine Ol hh h12 fun h' L' k1 k2 k3 k4=>?_;conv=>whnf
 exact hQ h' L' k1 k2 k3 k4
theorem M1{h:Heap}{k p:Nat}{S:List Nat}{L:List Id}{P:Nat→Nat}(hr:Row h k p S L P)(Ta:L.length≤64):∃rv,rV .bY [.ptr p 0] h=some rv∧∀{Q:AV→Heap→Prop},
  (L=[]→Q .aH h)→(∀h' c es op,xC h' c es L []→h.next≤c→Fr h h' []→Q (.sl c 0 L.length L.length op) h')→VD fs ms 174 [rv] h Q:=by
 rcases hr with⟨hL,_,hg⟩|⟨r,cap,rest,_,_,_,hh⟩
 ·refine⟨.aH,bU hg rfl,fun{Q} q0 q1=>?_⟩;refine ak (af:=HQ) true rfl (Nat.le_of_ble_eq_true rfl) ?_;conv=>whnf
  exact q0 hL
 ·refine⟨_,hh.row,fun{Q} q0 q1=>?_⟩;have vj:=oh L;refine ak (af:=HQ) true rfl (Nat.le_of_ble_eq_true rfl) ?_;conv=>whnf
  have hsrc:∀g:Heap,g=h.new (.cells [] true 0)→eJ 2 g (.sl r 0 L.length cap true)=some (L.length,oc L):=by
   rintro g rfl;exact OV (rest:=rest) (by rw[ay hh.lr];exact hh.hr) vj
  by_cases hl:L.length=0
  ·have hL:L=[]:=List.eq_nil_of_length_eq_zero hl;subst hL;refine dV (F6 (hsrc _ rfl) (zY _)) fun h1 e1=>?_;conv=>whnf
   refine q1 h1 h.next 0 false ⟨?_,?_⟩ (Nat.le_refl _) ?_
   ·rw[e1,ai];rfl
   ·rw[e1];exact Nat.lt_succ_self _
   ·rw[e1];exact(Fr.refl h []).new
  ·obtain⟨n,hn⟩:∃n,L.length=n+1:=⟨L.length-1,by omega⟩;rw[hn] at hsrc⊢;refine dV (F7 ai (hsrc _ rfl) (zY _) (by omega) (by omega)) fun h1 e1=>?_;conv=>whnf
   rw[hn] at q1;refine q1 h1 (h.next+1) 2 true ⟨?_,?_⟩ (by omega) ?_
   ·rw[e1,List.append_nil];exact ai
   ·rw[e1];exact Nat.lt_succ_self _
   ·rw[e1];exact((Fr.refl h []).new).new
def jU(lo:Nat)(h:Heap)(v:AV)(l:List Int):Prop:=
 (l=[]∧v=.aH)∨∃b,lo≤b∧b<h.next∧v=.sl b 0 l.length l.length true∧h.get b=some (.cells (ints l) true 1)
def DD(v:AV)(c:Nat):Prop:=∀o n k op,v≠.sl c o n k op
theorem jU.keep{lo:Nat}{h h':Heap}{v:AV}{l:List Int}(hr:jU lo h v l)(fr:Fr h h' []):jU lo h' v l:=by
 rcases hr with hr|⟨b,h1,h2,h3,h4⟩
 ·exact .inl hr
 ·exact .inr ⟨b,h1,Nat.lt_of_lt_of_le h2 fr.next,h3,by rw[fr.keep b h2 (by simp)];exact h4⟩
theorem jU.app{lo:Nat}{h:Heap}{v:AV}{l:List Int}(hr:jU lo h v l)(hlo:lo≤h.next)(hl:l.length≤1048576)(x:Int):∃v' g',eV (.append 1 8) [v,.sl h.next 0 1 1 false] (h.new (.cells [.int .i64 x] true 0))=some (v',g')∧
  jU lo g' v' (l++[x])∧h.next≤g'.next∧(∀c,c<h.next→DD v c→g'.get c=h.get c)∧∀c,c<h.next→DD v' c:=by
 have hsrc:eJ 1 (h.new (.cells [.int .i64 x] true 0)) (.sl h.next 0 1 1 false)=some (1,[.int .i64 x]):=tu ai rfl;have off:∀(n k:Nat) c,c<h.next→DD (.sl (h.next+1) 0 n k true) c:=by
  intro n k c hc o n' k' op e;cases e
  omega
 rcases hr with⟨h1,h2⟩|⟨b,h1,h2,h3,h4⟩
 ·subst h1 h2;refine⟨_,_,lD (by omega) hsrc rfl,.inr ⟨h.next+1,by omega,Nat.lt_succ_self _,rfl,?_⟩,by show h.next≤h.next+1+1;omega,fun c hc _=>?_,off _ _⟩
  ·exact ai (h:=h.new (.cells [.int .i64 x] true 0))
  ·exact(ay (h:=h.new (.cells [.int .i64 x] true 0)) (show c<h.next+1 by omega)).trans (ay hc)
 ·subst h3;have hg:(h.new (.cells [.int .i64 x] true 0)).get b=some (.cells (ints l) true 1):=by rw[ay h2];exact h4
  refine⟨_,_,oX hg (by rw[cm,Nat.mul_one]) hsrc rfl (by omega) hl,.inr ⟨h.next+1,by omega,Nat.lt_succ_self _,by rw[List.length_append];rfl,?_⟩,by show h.next≤h.next+1+1;omega,fun c hc ho=>?_,off _ _⟩
  ·have:=ai (h:=(h.new (.cells [.int .i64 x] true 0)).del b) (x:=.cells (ints l++[.int .i64 x]) true 1);rw[show((h.new (.cells [.int .i64 x] true 0)).del b).next=h.next+1 from rfl] at this;rw[this,ints,ints,List.map_append];rfl
  ·have hne:c≠b:=by rintro rfl;exact ho _ _ _ _ rfl
   exact(ay (h:=(h.new (.cells [.int .i64 x] true 0)).del b) (show c<h.next+1 by omega)).trans ((eD hne).trans (ay hc))
def CC(L:List Id):List Int:=L.map fun y=>(y.1:Int)
theorem NN(L:List Id):(CC L).length=L.length:=by simp[CC]
theorem JT{L:List Id}{i:Nat}(h:i<L.length):CC (L.take (i+1))=CC (L.take i)++[((gI L i).1:Int)]:=by
 rw[List.take_succ_eq_append_getElem h,lZ h,CC,List.map_append];rfl
def RE(v:AV)(c N i:Nat)(op:Bool):List (Nat×AV):=[(2,v),(18,.sl c 0 N N op),(19,.int .i64 ((N:Nat):Int)),(20,.int .i64 ((i:Nat):Int))]
theorem JU{c es N:Nat}{op:Bool}{h0:Heap}{B:Nat}{Q:AX→Env→Heap→Prop}{L:List Id}(hN:N≤64)(hL:L.length=N)(hc0:h0.next≤c):
  ∀(k i:Nat) (h:Heap) (v:AV) (env:Env),N-i=k→xC h c es L []→i≤N→jU h0.next h v (CC (L.take i))→DD v c→Fr h0 h []→
  bZ env (RE v c N i op)→
  (∀(h':Heap) (v':AV) (e':Env),Tr.get e' 2=some v'→jU h0.next h' v' (CC L)→Fr h0 h' []→Q (.exit 0) e' h')→
  VC fs ms B false (.loop mI) env h Q:=by
 intro k;induction k using Nat.strongRecOn with
 |ind k ih=>
 intro i h v env hk hh hi hr ho tV fO hQ;refine aE 5 (RE v c N i op) fO ?_;refine dm (z:=true) ?_;unfold RE;conv=>whnf
 refine br (fun hc=>?_) (fun hc=>?_)<;>(try rw[hc])<;>(conv=>whnf)
 ·have hlt:i<L.length:=by have:=of_decide_eq_true hc;omega
  refine⟨_,bL (by omega),?_⟩;conv=>whnf
  refine⟨_,hh.one hlt,?_⟩;conv=>whnf
  refine dV (cj ai rfl (Nat.le_refl _) rfl) fun h1 e1=>?_;conv=>whnf
  have iX:Fr h h1 []:=by rw[e1];exact((Fr.refl h []).new (x:=_)).qS (Nat.le_refl _)
  have gb:h1.get h.next=some (.cells (ob (gI L i)).cells true 0):=by rw[e1,aC];rfl
  clear e1;refine⟨_,bU gb rfl,?_⟩;conv=>whnf
  have AJ:=hr.keep iX;have hlo:h0.next≤h1.next:=Nat.le_trans tV.next iX.next;obtain⟨v',g',a1,a2,a3,a4,a5⟩:=AJ.app hlo (by rw[NN,List.length_take];omega) ((gI L i).1:Int);refine dV a1 fun h2 e2=>?_;subst e2;conv=>whnf
  have kV:c<h.next:=hh.lb;have ZI:c<h1.next:=Nat.lt_of_lt_of_le kV iX.next;refine ih (N-(i+1)) (by omega) (i+1) h2 v' _ rfl ⟨?_,by omega⟩ (by omega) (by rw[JT hlt];exact a2) (a5 c ZI) ⟨by omega,fun b hb _=>?_⟩ ⟨rfl,rfl,rfl,aL (by omega),trivial⟩ hQ
  ·rw[a4 c ZI ho,iX.keep c kV (by simp)];exact hh.hb
  ·have hob:DD v b:=by
    rcases hr with⟨_,rfl⟩|⟨b',vg,_,rfl,_⟩
    ·intro o n k op e;cases e
    ·intro o n k op e;cases e;omega
   rw[a4 b (Nat.lt_of_lt_of_le hb hlo) hob,iX.keep b (Nat.lt_of_lt_of_le hb tV.next) (by simp)];exact tV.keep b hb (by simp)
 ·have hge:i=N:=by have:=of_decide_eq_false hc;omega
  subst hge;refine hQ h v _ rfl ?_ tV;rw[←hL,List.take_length] at hr;exact hr
theorem KZ:PC fs ms 175 [.aH,zG] (.cD []):=by
 refine cG rfl rfl ?_;refine ak (af:=HS) false rfl (Nat.le_of_ble_eq_true rfl) ?_;generalize hQ:(fun(u:AV) (_:Heap)=>u=.cD [])=Q;conv=>whnf
 obtain⟨m,hm⟩:=O7 (n:=0) (by omega);refine aO hm ?_;conv=>whnf
 refine ak (af:=HU) false rfl (Nat.le_of_ble_eq_true rfl) ?_;conv=>whnf
 refine dm (z:=false) ?_;conv=>whnf
 refine ak (af:=HV) false rfl (Nat.le_of_ble_eq_true rfl) ?_;conv=>whnf
 refine dm (z:=false) ?_;conv=>whnf
 subst hQ;rfl
structure Ord(L M:List Id):Prop where
 len:M.length=L.length
 mem:∀y,y∈M↔y∈L
 dst:SM M
 srt:Lm M 0 M.length
theorem NO{h:Heap}{k p:Nat}{S:List Nat}{L:List Id}{P:Nat→Nat}(hr:yg h k p S L P)(h12:L.length≤12){Q:AV→Heap→Prop}
  (hQ:∀h' v M,jU h.next h' v (CC M)→Ord L M→Fr h h' []→Q v h'):VD fs ms 147 [.ptr k 0] h Q:=by
 refine dz (af:=Me) rfl (Nat.le_of_ble_eq_true rfl) ?_;conv=>whnf
 refine aM true ?_;conv=>whnf
 refine aM true ?_;conv=>whnf
 refine DA hr ?_;conv=>whnf
 obtain⟨rv,c1,c2⟩:=M1 hr.row hr.pl.BZ;refine aM true ?_;conv=>whnf
 refine⟨_,bU hr.hk rfl,?_⟩;conv=>whnf
 refine⟨_,c1,?_⟩;conv=>whnf
 refine c2 (fun hL=>?_) fun h1 c es op hs hc fr=>?_
 ·conv=>whnf
  refine aM true ?_;conv=>whnf
  refine aO KZ ?_;conv=>whnf
  refine aM true ?_;conv=>whnf
  refine dm (z:=true) ?_;conv=>whnf
  refine aA (z:=true) ?_;conv=>whnf
  subst hL;refine hQ h .aH [] (.inl ⟨rfl,rfl⟩) ⟨rfl,fun y=>Iff.rfl,?_,?_⟩ (Fr.refl _ _)
  ·intro i j hi;simp at hi
  ·intro i j h1 h2 h3;simp at h3
 ·conv=>whnf
  refine aM true ?_;conv=>whnf
  refine KY hs h12 fun h2 M k1 k2 k3 k4=>?_;conv=>whnf
  have Xg:=k2.len;have hd:SM M:=k2.dst hr.pl.tP;have jx:Fr h h2 []:=⟨Nat.le_trans fr.next k4.next,fun b hb _=>by
   rw[k4.keep b (Nat.lt_of_lt_of_le hb fr.next) (by simp;omega)];exact fr.keep b hb (by simp)⟩
  refine bt (aM true ?_);conv=>whnf
  refine bR ?_;have Ta:=hr.pl.BZ;refine JU (L:=M) (N:=L.length) Ta Xg.symm hc _ 0 h2 .aH _ rfl k1 (Nat.zero_le _) (.inl ⟨rfl,rfl⟩) (fun o n k op e=>by cases e) jx ⟨rfl,rfl,rfl,rfl,trivial⟩ ?_;intro h3 v e3 g2 hi hf;show VC fs ms _ _ _ _ _ _;refine aE 3 [(2,v)] ⟨g2,trivial⟩ (aA (z:=true) ?_);conv=>whnf
  refine hQ h3 v M hi ⟨Xg.symm,fun y=>?_,hd,by rw[←Xg];exact k3⟩ hf;rw[iI,iI];have:=k2.mem y;rw[←Xg];constructor
  ·rintro⟨i,hi,e⟩;obtain⟨j,_,j1,j2⟩:=this.2 ⟨i,Nat.zero_le _,hi,e⟩;exact⟨j,j1,j2⟩
  ·rintro⟨i,hi,e⟩;obtain⟨j,_,j1,j2⟩:=this.1 ⟨i,Nat.zero_le _,hi,e⟩;exact⟨j,j1,j2⟩
structure ye(h:Heap)(q:Nat)(S:List Nat)(n:Int)(L:List Id):Prop where
 ex:∃k p S' P,S=q::S'∧q∉S'∧yg h k p S' L P∧h.get q=some (.cells [.ptr k 0,.int .i64 n] true 0)∧q<h.next
 n4:n≤4
 ids:∀y∈L,(y.1:Int)<n
theorem ye.own{h:Heap}{q:Nat}{S:List Nat}{n:Int}{L:List Id}(hq:ye h q S n L):∀b∈S,b<h.next:=by
 obtain⟨k,p,S',P,rfl,hn,hr,hg,hl⟩:=hq.ex;intro b hb;rcases List.mem_cons.1 hb with rfl|hb
 ·exact hl
 ·exact hr.own.2.2 b hb
theorem ye.dst{h:Heap}{q:Nat}{S:List Nat}{n:Int}{L:List Id}(hq:ye h q S n L):SM L:=by
 obtain⟨k,p,S',P,rfl,hn,hr,hg,hl⟩:=hq.ex;exact hr.pl.tP
theorem ye.uniq{h:Heap}{q:Nat}{S:List Nat}{n:Int}{L:List Id}(hq:ye h q S n L){x y:Id}(hx:x∈L)(hy:y∈L)(e:x.1=y.1):x=y:=by
 obtain⟨k,p,S',P,rfl,hn,hr,hg,hl⟩:=hq.ex;exact hr.pl.uniq hx hy e
theorem yg.few{h:Heap}{k p:Nat}{S:List Nat}{L:List Id}{P:Nat→Nat}(hr:yg h k p S L P){n:Int}(h4:n≤4)(hi:∀y∈L,(y.1:Int)<n):L.length≤4:=
 hr.pl.len fun y hy=>by have:=hi y hy;omega
theorem yg.keep{h h':Heap}{k p:Nat}{S T:List Nat}{L:List Id}{P:Nat→Nat}(hr:yg h k p S L P)(fr:Fr h h' T)(hd:∀b∈S,b∉T):yg h' k p S L P:=by
 obtain⟨kS,pS,hS⟩:=hr.own;refine⟨by rw[fr.keep k hr.lk (hd k kS)];exact hr.hk,hr.ne,Nat.lt_of_lt_of_le hr.lk fr.next,Nat.lt_of_lt_of_le hr.lp fr.next,?_,hr.pl,hr.hp⟩;rcases hr.row with⟨h1,h2,h3⟩|⟨r,cap,rest,h1,h2,h3,h4⟩
 ·exact .inl ⟨h1,h2,by rw[fr.keep p hr.lp (hd p pS)];exact h3⟩
 ·have rS:r∈S:=by rw[h1];simp
  exact .inr ⟨r,cap,rest,h1,h2,h3,⟨by rw[fr.keep p hr.lp (hd p pS)];exact h4.hp,by rw[fr.keep r h4.lr (hd r rS)];exact h4.hr,h4.ne,Nat.lt_of_lt_of_le h4.lp fr.next,Nat.lt_of_lt_of_le h4.lr fr.next⟩⟩
theorem ye.keep{h h':Heap}{q:Nat}{S T:List Nat}{n:Int}{L:List Id}(hq:ye h q S n L)(fr:Fr h h' T)(hd:∀b∈S,b∉T):ye h' q S n L:=by
 obtain⟨k,p,S',P,rfl,hn,hr,hg,hl⟩:=hq.ex;exact⟨⟨k,p,S',P,rfl,hn,hr.keep fr fun b hb=>hd b (List.mem_cons_of_mem _ hb),by rw[fr.keep q hl (hd q List.mem_cons_self)];exact hg,Nat.lt_of_lt_of_le hl fr.next⟩,hq.n4,hq.ids⟩
theorem Su{h:Heap}{Q:AV→Heap→Prop}(hQ:∀h' k p,yg h' k p [k,p] [] (fun _=>0)→h.next≤k→h.next≤p→Fr h h' []→Q (.ptr k 0) h'):VD fs ms 103 [] h Q:=by
 refine ak (af:=LG) true rfl (Nat.le_of_ble_eq_true rfl) ?_;conv=>whnf
 refine hQ _ (h.next+1) h.next ⟨?_,by omega,?_,?_,.inl ⟨rfl,rfl,?_⟩,?_,?_⟩ (by omega) (by omega) ((Fr.refl h []).new.new)
 ·exact ai (h:=h.new _)
 ·exact Nat.lt_succ_self _
 ·show h.next<h.next+1+1;omega
 ·refine(ay (h:=h.new _) (Nat.lt_succ_self _)).trans (ai.trans ?_);rfl
 ·refine⟨?_,?_,?_⟩
  ·intro i hi;simp at hi
  ·intro i hi;simp at hi
  ·intro d _ hd;simp at hd
 ·intro i _ hi;simp at hi
theorem Vx{h:Heap}(n:Int){Q:AV→Heap→Prop}(h1:n<0∨4<n→Q (.cD [.bq,.int .i64 2]) h)
  (h2:0≤n→n≤4→∀h' q S,ye h' q S n []→(∀b∈S,h.next≤b)→Fr h h' []→Q (.cD [.ptr q 0,.int .i64 0]) h'):VD fs ms 39 [.int .i64 n] h Q:=by
 refine ak (af:=Wl) true rfl (Nat.le_of_ble_eq_true rfl) ?_;conv=>whnf
 refine br (fun hc=>?_) (fun hc=>?_)<;>(try rw[hc])<;>(conv=>whnf)
 ·exact h1 (.inl (of_decide_eq_true hc))
 ·have hn0:¬n<0:=of_decide_eq_false hc;refine br (fun hc=>?_) (fun hc=>?_)<;>(try rw[hc])<;>(conv=>whnf)
  ·exact h1 (.inr (of_decide_eq_true hc))
  ·have Dl:¬4<n:=of_decide_eq_false hc;refine Su fun h' k p hr hk hp fr=>?_;conv=>whnf
   have lk:=hr.lk;have lp:=hr.lp;refine h2 (by omega) (by omega) _ h'.next (h'.next::[k,p]) ⟨⟨k,p,[k,p],_,rfl,by simp;omega,hr.keep (Fr.refl h' []).new (by simp),ai,Nat.lt_succ_self _⟩,by omega,fun y hy=>by simp at hy⟩ ?_ ?_
   ·intro b hb;simp at hb;have:=fr.next;omega
   ·exact fr.new
theorem vr{h:Heap}{q:Nat}{S:List Nat}{n:Int}{L:List Id}(hq:ye h q S n L){Q:AV→Heap→Prop}(hQ:Q (.bool false) h):VD fs ms 110 [.ptr q 0] h Q:=by
 obtain⟨k,p,S',P,rfl,hn,hr,hg,hl⟩:=hq.ex;refine ak (af:=LM) true rfl (Nat.le_of_ble_eq_true rfl) ?_;conv=>whnf
 refine⟨_,bU hg rfl,?_⟩;conv=>whnf
 exact hQ
theorem So{h:Heap}{q:Nat}{S:List Nat}{n:Int}{L:List Id}(hq:ye h q S n L)(id d:Int){Q:AV→Heap→Prop}(h1:id<0∨n≤id→Q (.int .i64 9) h)(h2:¬(id<0∨n≤id)→d<0∨1099511627840<d→Q (.int .i64 2) h)
  (h3:¬(id<0∨n≤id)→¬(d<0∨1099511627840<d)→∀y∈L,id=(y.1:Int)→Q (.int .i64 141) h)
  (h4:¬(d<0∨1099511627840<d)→∀i:Nat,id=i→id<n→(∀y∈L,y.1≠i)→∀h' S' L',ye h' q S' n L'→(∀y,y∈L'↔y∈L∨y=(i,d))→Own h h' S S'→Q (.int .i64 0) h'):VD fs ms 97 [.ptr q 0,.int .i64 id,.int .i64 d] h Q:=by
 refine ak (af:=WT) true rfl (Nat.le_of_ble_eq_true rfl) ?_;conv=>whnf
 refine vr hq ?_;obtain⟨k,p,S',P,rfl,hn,hr,hg,hl⟩:=hq.ex;conv=>whnf
 have tail:¬(id<0∨n≤id)→¬(d<0∨1099511627840<d)→∀K:AV→Heap→Prop,(∀v h',Q v h'→K v h')→VD fs ms 143 [.ptr k 0,.int .i64 id,.int .i64 d] h K:=by
  intro a1 a2 K hK;refine VK hr id d (fun hb=>?_) (fun y hy e=>hK _ _ (h3 a1 a2 y hy e)) fun i hi i64 hno h' S1 L' P' r1 r2 r3=>?_
  ·have:=hq.n4;omega
  ·have hown:=hr.own.2.2;refine hK _ _ (h4 a2 i hi (by omega) hno h' (q::S1) L' ⟨⟨k,p,S1,P',rfl,?_,r1,?_,Nat.lt_of_lt_of_le hl r3.fr.next⟩,hq.n4,?_⟩ r2 ⟨⟨r3.fr.next,fun b hb hnb=>r3.fr.keep b hb (by simp at hnb;exact hnb.2)⟩,?_⟩)
   ·intro hm;rcases r3.new q hm with h|h
    ·exact hn h
    ·omega
   ·rw[r3.fr.keep q hl hn];exact hg
   ·intro y hy;rcases(r2 y).1 hy with h|h
    ·exact hq.ids y h
    ·subst h;show(i:Int)<n;omega
   ·intro b hb;rcases List.mem_cons.1 hb with rfl|hb
    ·exact .inl List.mem_cons_self
    ·rcases r3.new b hb with h|h
     ·exact .inl (List.mem_cons_of_mem _ h)
     ·exact .inr h
 refine br (fun hc=>?_) (fun hc=>?_)<;>(try rw[hc])<;>(conv=>whnf)
 ·exact h1 (.inl (of_decide_eq_true hc))
 ·have i0:¬id<0:=of_decide_eq_false hc;refine⟨_,bU hg rfl,?_⟩;conv=>whnf
  refine br (fun hc=>?_) (fun hc=>?_)<;>(try rw[hc])<;>(conv=>whnf)
  ·exact h1 (.inr (of_decide_eq_true hc))
  ·have i1:¬n≤id:=of_decide_eq_false hc;have hin:¬(id<0∨n≤id):=by omega
   refine br (fun hc=>?_) (fun hc=>?_)<;>(try rw[hc])<;>(conv=>whnf)
   ·exact h2 hin (.inl (of_decide_eq_true hc))
   ·have d0:¬d<0:=of_decide_eq_false hc;refine br (fun hc=>?_) (fun hc=>?_)<;>(try rw[hc])<;>(conv=>whnf)
    ·exact h2 hin (.inr (of_decide_eq_true hc))
    ·have d1:¬1099511627840<d:=of_decide_eq_false hc;refine⟨_,bU hg rfl,?_⟩;conv=>whnf
     refine tail hin (by omega) _ fun v h' hv=>?_;conv=>whnf
     exact hv
theorem He{h:Heap}{q:Nat}{S:List Nat}{n:Int}{L:List Id}(hq:ye h q S n L)(id:Int){Q:AV→Heap→Prop}(h1:(∀y∈L,id≠(y.1:Int))→Q (.bool false) h)
  (h2:∀y:Id,id=(y.1:Int)→y∈L→∀h' S' L',ye h' q S' n L'→(∀z,z∈L'↔z∈L∧z.1≠y.1)→Own h h' S S'→Q (.bool true) h'):VD fs ms 92 [.ptr q 0,.int .i64 id] h Q:=by
 refine ak (af:=WO) true rfl (Nat.le_of_ble_eq_true rfl) ?_;conv=>whnf
 refine vr hq ?_;obtain⟨k,p,S',P,rfl,hn,hr,hg,hl⟩:=hq.ex;conv=>whnf
 refine⟨_,bU hg rfl,?_⟩;conv=>whnf
 refine KJ hr id (fun hno=>?_) fun y hy hyL h' S1 L' P' r1 r2 r3=>?_
 ·conv=>whnf
  exact h1 hno
 ·conv=>whnf
  refine h2 y hy hyL h' (q::S1) L' ⟨⟨k,p,S1,P',rfl,?_,r1,?_,Nat.lt_of_lt_of_le hl r3.fr.next⟩,hq.n4,fun z hz=>hq.ids z ((r2 z).1 hz).1⟩ r2 ⟨⟨r3.fr.next,fun b hb hnb=>r3.fr.keep b hb (by simp at hnb;exact hnb.2)⟩,?_⟩
  ·intro hm;rcases r3.new q hm with h|h
   ·exact hn h
   ·omega
  ·rw[r3.fr.keep q hl hn];exact hg
  ·intro b hb;rcases List.mem_cons.1 hb with rfl|hb
   ·exact .inl List.mem_cons_self
   ·rcases r3.new b hb with h|h
    ·exact .inl (List.mem_cons_of_mem _ h)
    ·exact .inr h
def O6(L:List Id)(x:Id):Prop:=x∈L∧∀y∈L,ah y x=false
theorem Rl{L:List Id}(h:Hp L)(hl:0<L.length):O6 L (gI L 0):=by
 refine⟨iI.2 ⟨0,hl,rfl⟩,fun y hy=>?_⟩;obtain⟨i,hi,rfl⟩:=iI.1 hy;clear hy;induction i using Nat.strongRecOn with
 |ind i ih=>
  rcases Nat.eq_zero_or_pos i with rfl|h0
  ·rw[rD];omega
  ·exact yl (h i h0 hi) (ih ((i-1)/2) (by omega) (by omega))
theorem KE{h:Heap}{q:Nat}{S:List Nat}{n:Int}{L:List Id}(hq:ye h q S n L){Q:AV→Heap→Prop}(h1:L=[]→Q (.cD [.int .i64 0,.int .i64 0,.bool false]) h)
  (h2:∀x,O6 L x→Q (.cD [.int .i64 (x.1:Nat),.int .i64 x.2,.bool true]) h):VD fs ms 50 [.ptr q 0] h Q:=by
 refine ak (af:=Wy) true rfl (Nat.le_of_ble_eq_true rfl) ?_;conv=>whnf
 refine vr hq ?_;obtain⟨k,p,S',P,rfl,hn,hr,hg,hl⟩:=hq.ex;conv=>whnf
 refine⟨_,bU hg rfl,?_⟩;conv=>whnf
 refine Nu hr (fun hL=>?_) fun HF=>?_
 ·conv=>whnf
  exact h1 hL
 ·conv=>whnf
  exact h2 _ (Rl hr.hp HF)
theorem Ot{h:Heap}{q:Nat}{S:List Nat}{n:Int}{L:List Id}(hq:ye h q S n L){Q:AV→Heap→Prop}(hQ:∀h' v M,jU h.next h' v (CC M)→Ord L M→M.length≤4→Fr h h' []→Q v h'):VD fs ms 100 [.ptr q 0] h Q:=by
 refine ak (af:=LC) true rfl (Nat.le_of_ble_eq_true rfl) ?_;conv=>whnf
 refine vr hq ?_;obtain⟨k,p,S',P,rfl,hn,hr,hg,hl⟩:=hq.ex;conv=>whnf
 have ach:=hr.few hq.n4 hq.ids;refine⟨_,bU hg rfl,?_⟩;conv=>whnf
 refine NO hr (by omega) fun h' v M k1 k2 k3=>?_;conv=>whnf
 exact hQ h' v M k1 k2 (by have:=k2.len;omega) k3
theorem jU.read{lo:Nat}{h:Heap}{v:AV}{l:List Int}(hr:jU lo h v l):pV .bX [v]=some (.int .i64 ((l.length:Nat):Int))∧∀i,i<l.length→∃b,pV (.aG 1) [v,.int .i64 ((i:Nat):Int)]=some (.ptr b (i*1))∧rV .bY [.ptr b (i*1)] h=some (.int .i64 (l.getD i 0)):=by
 rcases hr with⟨rfl,rfl⟩|⟨b,h1,h2,rfl,h4⟩
 ·exact⟨rfl,fun i hi=>by simp at hi⟩
 ·refine⟨rfl,fun i hi=>⟨b,?_,bU h4 ?_⟩⟩
  ·exact bL hi
  ·rw[Nat.mul_one,ints,List.getElem?_map,List.getD_eq_getElem?_getD,List.getElem?_eq_getElem hi];rfl
theorem Xv{M:List Id}{i:Nat}(h:i<M.length):(CC M).getD i 0=((gI M i).1:Int):=by
 rw[List.getD_eq_getElem?_getD,CC,List.getElem?_map,List.getElem?_eq_getElem h,lZ h];rfl
def Xx(M:List Id)(now:Int):List Id:=M.filter fun y=>decide (y.2≤now)
theorem Vp{M:List Id}{now:Int}{i:Nat}(h:i<M.length):CC (Xx (M.take (i+1)) now)=CC (Xx (M.take i) now)++(if(gI M i).2≤now then [((gI M i).1:Int)] else []):=by
 rw[List.take_succ_eq_append_getElem h,lZ h,Xx,List.filter_append,CC,List.map_append]
 congr 1
 by_cases hh:M[i].2≤now<;>simp[hh]
def acm(q:Nat)(now:Int)(out v:AV)(N i:Nat):List (Nat×AV):=[(0,.ptr q 0),(1,.int .i64 now),(4,out),(10,v),(11,.int .i64 ((N:Nat):Int)),(12,.int .i64 ((i:Nat):Int))]
theorem Xy(M:List Id)(now:Int):(Xx M now).length≤M.length:=List.length_filter_le ..
end Ir
end Go.Proofs.YtnlcabhfkpafmaaGreat
