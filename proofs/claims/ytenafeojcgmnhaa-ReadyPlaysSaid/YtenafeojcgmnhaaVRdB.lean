/-
  Rank in plain Lean: ids in a heap.
-/
import Derived.Test.YtenafeojcgmnhaaZA
set_option maxRecDepth 100000
set_option linter.unusedSimpArgs false
set_option linter.unusedVariables false
namespace Go.Proofs.Ytenafeojcgmnhaa
open Go Ads
namespace Ir
theorem gH{a b:Id}:ah a b=true↔a.2<b.2∨(a.2=b.2∧a.1<b.1):=by simp[ah]
theorem eJ{a b:Id}:ah a b=false↔b.2<a.2∨(a.2=b.2∧b.1≤a.1):=by
 rw[←Bool.not_eq_true,gH];omega
def gI(V:List Id)(i:Nat):Id:=V.getD i (0,0)
theorem dB{V:List Id}{i:Nat}(h:i<V.length):gI V i=V[i]:=by simp[gI,List.getD_eq_getElem?_getD,List.getElem?_eq_getElem h]
theorem nB{V:List Id}{i:Nat}(h:i<V.length)(x:Id)(k:Nat):gI (V.set i x) k=if k=i then x else gI V k:=by
 simp only[gI,List.getD_eq_getElem?_getD,List.getElem?_set];by_cases hk:i=k
 ·subst hk;simp[h]
 ·rw[if_neg hk,if_neg (Ne.symm hk)]
def ju(V:List Id)(i j:Nat):List Id:=(V.set i (gI V j)).set j (gI V i)
theorem dz(V:List Id)(i j:Nat):(ju V i j).length=V.length:=by simp[ju]
theorem jo{V:List Id}{i j:Nat}(hi:i<V.length)(hj:j<V.length)(k:Nat):gI (ju V i j) k=if k=j then gI V i else if k=i then gI V j else gI V k:=by
 rw[ju,nB (by simpa using hj),nB hi]
def qk(V W:List Id):Prop:=V.length=W.length∧∀y,(∃i,i<V.length∧gI V i=y)↔∃i,i<W.length∧gI W i=y
theorem qk.refl(V:List Id):qk V V:=⟨rfl,fun _=>Iff.rfl⟩
theorem qk.trans{V W X:List Id}(a:qk V W)(b:qk W X):qk V X:=⟨a.1.trans b.1,fun y=>(a.2 y).trans (b.2 y)⟩
theorem Bz{V:List Id}{i j:Nat}(hi:i<V.length)(hj:j<V.length):qk V (ju V i j):=by
 refine⟨(dz V i j).symm,fun y=>⟨?_,?_⟩⟩
 ·rintro⟨k,hk,he⟩;by_cases h1:k=i
  ·subst h1;exact⟨j,by rw[dz];exact hj,by rw[jo hi hj,if_pos rfl,he]⟩
  ·by_cases h2:k=j
   ·subst h2;exact⟨i,by rw[dz];exact hi,by rw[jo hi hj,if_neg (fun e=>h1 e.symm),if_pos rfl,he]⟩
   ·exact⟨k,by rw[dz];exact hk,by rw[jo hi hj,if_neg h2,if_neg h1,he]⟩
 ·rintro⟨k,hk,he⟩;rw[dz] at hk;rw[jo hi hj] at he;split at he
  ·exact⟨i,hi,he⟩
  ·split at he
   ·exact⟨j,hj,he⟩
   ·exact⟨k,hk,he⟩
structure El(V:List Id)(P:Nat→Nat)(a:Nat):Prop where
 lt:a<V.length
 small:∀i,i<V.length→(gI V i).1<64
 oz:∀i j,i<V.length→j<V.length→(gI V i).1=(gI V j).1→i=j
 pl:∀i,i<V.length→i≠a→P (gI V i).1=i+1
 back:∀d,d<64→d≠(gI V a).1→0<P d→P d≤V.length∧(gI V (P d-1)).1=d
structure qt(V:List Id)(P:Nat→Nat):Prop where
 small:∀i,i<V.length→(gI V i).1<64
 pl:∀i,i<V.length→P (gI V i).1=i+1
 back:∀d,d<64→0<P d→P d≤V.length∧(gI V (P d-1)).1=d
theorem qt.oz{V:List Id}{P:Nat→Nat}(h:qt V P):∀i j,i<V.length→j<V.length→(gI V i).1=(gI V j).1→i=j:=by
 intro i j hi hj he;have h1:=h.pl i hi;have h2:=h.pl j hj;rw[he] at h1;omega
theorem El.fill{V:List Id}{P:Nat→Nat}{a:Nat}(h:El V P a):qt V (iH P (gI V a).1 (a+1)):=by
 refine⟨h.small,fun i hi=>?_,fun d hd hp=>?_⟩
 ·unfold iH;split
  ·rename_i he;have:=h.oz i a hi h.lt he;omega
  ·rename_i he;exact h.pl i hi (by rintro rfl;exact he rfl)
 ·unfold iH at hp⊢;split
  ·rename_i he;exact⟨by have:=h.lt;omega,by rw[he];rfl⟩
  ·rename_i he;rw[if_neg he] at hp;exact h.back d hd he hp
theorem El.step{V:List Id}{P:Nat→Nat}{a m:Nat}(h:El V P a)(hm:m<V.length)(hne:m≠a):El (ju V a m) (iH P (gI V m).1 (a+1)) m:=by
 have hl:=dz V a m;have hg:=jo h.lt hm;refine⟨by omega,fun i hi=>?_,fun i j hi hj he=>?_,fun i hi hn=>?_,fun d hd hn hp=>?_⟩
 ·rw[hg];have h1:=h.small a h.lt;have h2:=h.small m hm;have h3:=h.small i (by omega);split
  ·exact h1
  ·split
   ·exact h2
   ·exact h3
 ·have hs:∀k,gI (ju V a m) k=gI V (if k=m then a else if k=a then m else k):=by
   intro k;rw[hg];split
   ·rfl
   ·split<;>rfl
  have hlt:=h.lt;have hk:∀k,k<(ju V a m).length→(if k=m then a else if k=a then m else k)<V.length:=by
   intro k hk;split
   ·omega
   ·split<;>omega
  rw[hs,hs] at he;have key:=h.oz _ _ (hk i hi) (hk j hj) he;revert key;repeat' split
  all_goals (intro key;omega)
 ·rw[hg,if_neg hn];unfold iH;by_cases IL:i=a
  ·rw[if_pos IL,if_pos rfl];omega
  ·rw[if_neg IL,if_neg (fun he=>hn (h.oz i m (by omega) hm he))];exact h.pl i (by omega) IL
 ·rw[hg,if_pos rfl] at hn;unfold iH at hp⊢;by_cases BQ:d=(gI V m).1
  ·rw[if_pos BQ];exact⟨by have:=h.lt;omega,by rw[hg,if_neg (by omega),if_pos (by omega),BQ]⟩
  ·rw[if_neg BQ] at hp⊢;have:=h.back d hd hn hp;refine⟨by omega,?_⟩;rw[hg,if_neg,if_neg]
   ·exact this.2
   ·intro e;rw[e] at this;exact hn this.2.symm
   ·intro e;rw[e] at this;exact BQ this.2.symm
def Hp(V:List Id):Prop:=∀i,0<i→i<V.length→ah (gI V i) (gI V ((i-1)/2))=false
def Vt(V:List Id)(a:Nat):Prop:=∀c,0<c→c<V.length→(c-1)/2=a→0<a→ah (gI V c) (gI V ((a-1)/2))=false
def IY(V:List Id)(a:Nat):Prop:=∀c,0<c→c<V.length→(c-1)/2=a→ah (gI V c) (gI V a)=false
structure IJ(V:List Id)(a:Nat):Prop where
 o:∀i,0<i→i<V.length→i≠a→(i-1)/2≠a→ah (gI V i) (gI V ((i-1)/2))=false
 ab:Vt V a
structure II(V:List Id)(a:Nat):Prop where
 o:∀i,0<i→i<V.length→(i-1)/2≠a→ah (gI V i) (gI V ((i-1)/2))=false
 ab:Vt V a
theorem II.full{V:List Id}{a:Nat}(h:II V a)(hc:IY V a):Hp V:=by
 intro i h0 hi;by_cases hp:(i-1)/2=a
 ·rw[hp];exact hc i h0 hi hp
 ·exact h.o i h0 hi hp
theorem IJ.done{V:List Id}{a:Nat}(h:IJ V a)(hs:a=0∨ah (gI V a) (gI V ((a-1)/2))=false):II V a:=by
 refine⟨fun i h0 hi hn=>?_,h.ab⟩;by_cases ha:i=a
 ·subst ha;rcases hs with h1|h1
  ·omega
  ·exact h1
 ·exact h.o i h0 hi ha hn
theorem mL{a b c:Id}(h1:ah a b=false)(h2:ah b c=false):ah a c=false:=by rw[eJ] at*;omega
theorem nX{a b:Id}(h1:ah a b=true):ah b a=false:=by rw[eJ];rw[gH] at h1;omega
theorem IJ.step{V:List Id}{a:Nat}(h:IJ V a)(ha:0<a)(hl:a<V.length)(hs:ah (gI V a) (gI V ((a-1)/2))=true):IJ (ju V a ((a-1)/2)) ((a-1)/2)∧IY (ju V a ((a-1)/2)) ((a-1)/2):=by
 obtain⟨m,hm⟩:∃m,m=(a-1)/2:=⟨_,rfl⟩;rw[←hm] at hs⊢;have hlen:=dz V a m;have hg:=jo hl (show m<V.length by omega);refine⟨⟨fun i h0 hi hn hp=>?_,fun c h0 hc hp hma=>?_⟩,fun c h0 hc hp=>?_⟩
 ·rw[hg,hg,if_neg hn,if_neg hp];have IL:i≠a:=by rintro rfl;exact hp hm.symm
  rw[if_neg IL];by_cases hpa:(i-1)/2=a
  ·rw[if_pos hpa];have:=h.ab i h0 (by omega) hpa ha;rw[←hm] at this;exact this
  ·rw[if_neg hpa];exact h.o i h0 (by omega) IL hpa
 ·have hmo:=h.o m hma (by omega) (by omega) (by omega);have e1:gI (ju V a m) ((m-1)/2)=gI V ((m-1)/2):=by rw[hg,if_neg (by omega),if_neg (by omega)]
  rw[e1,hg,if_neg (by omega)];by_cases hca:c=a
  ·rw[if_pos hca];exact hmo
  ·rw[if_neg hca];have:=h.o c h0 (by omega) hca (by omega);rw[hp] at this;exact mL this hmo
 ·have e1:gI (ju V a m) m=gI V a:=by rw[hg,if_pos rfl]
  rw[e1,hg,if_neg (by omega)];by_cases hca:c=a
  ·rw[if_pos hca];exact nX hs
  ·rw[if_neg hca];have:=h.o c h0 (by omega) hca (by omega);rw[hp] at this;exact mL this (nX hs)
theorem II.step{V:List Id}{a m:Nat}(h:II V a)(hl:a<V.length)(hm0:0<m)(hm:m<V.length)(hp:(m-1)/2=a)(hs:ah (gI V m) (gI V a)=true)
  (hmin:∀c,0<c→c<V.length→(c-1)/2=a→ah (gI V c) (gI V m)=false):II (ju V a m) m:=by
 have hlen:=dz V a m;have hg:=jo hl hm;refine⟨fun i h0 hi hn=>?_,fun c h0 hc EN hma=>?_⟩
 ·by_cases Ua:i=m
  ·subst Ua;have e1:gI (ju V a i) ((i-1)/2)=gI V i:=by rw[hp,hg,if_neg (by omega),if_pos rfl]
   rw[e1,hg,if_pos rfl];exact nX hs
  ·by_cases IL:i=a
   ·subst IL;have e1:gI (ju V i m) ((i-1)/2)=gI V ((i-1)/2):=by rw[hg,if_neg hn,if_neg (by omega)]
    rw[e1,hg,if_neg Ua,if_pos rfl];exact h.ab m hm0 hm hp h0
   ·rw[hg i,if_neg Ua,if_neg IL,hg,if_neg hn];by_cases hpa:(i-1)/2=a
    ·rw[if_pos hpa];exact hmin i h0 (by omega) hpa
    ·rw[if_neg hpa];exact h.o i h0 (by omega) hpa
 ·have e1:gI (ju V a m) ((m-1)/2)=gI V m:=by rw[hp,hg,if_neg (by omega),if_pos rfl]
  rw[e1,hg,if_neg (by omega),if_neg (by omega)];have:=h.o c h0 (by omega) (by omega);rw[EN] at this;exact this
end Ir
end Go.Proofs.Ytenafeojcgmnhaa
