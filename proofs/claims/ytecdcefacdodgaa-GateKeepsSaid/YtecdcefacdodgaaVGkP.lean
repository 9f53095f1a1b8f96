/-
  Gate: servers and tasks that are played. Gate: servers keep their budgets, tasks their deadlines. Gate: tasks keep their deadlines.
-/
import Derived.Test.YtecdcefacdodgaaVGatR
import Derived.Test.YtecdcefacdodgaaVLkQ
set_option maxRecDepth 100000
set_option linter.unusedSimpArgs false
set_option linter.unusedVariables false
namespace Go.Proofs.Ytecdcefacdodgaa
open Go Ads
namespace Ir
open Edf
structure GS where
 s:List (Int×Int)
 j:List (Int×Int)
 n:List Int
 d:Nat
def pt0:Pt:=⟨1,1,3,[]⟩
def pA(M:List Pt)(i:Nat):Pt:=M.getD i pt0
def xQ(w:List Bool)(i:Nat):Bool:=w.getD i false
theorem Fb{M:List Pt}{i:Nat}(h:i<M.length):pA M i=M[i]:=by rw[pA,List.getD_eq_getElem?_getD,List.getElem?_eq_getElem h];rfl
theorem DE{w:List Bool}{i:Nat}(h:i<w.length):xQ w i=w[i]:=by rw[xQ,List.getD_eq_getElem?_getD,List.getElem?_eq_getElem h];rfl
section
variable (M:List Pt) (w:List Bool) (lt:List Int) (u:Nat)
def jB(G:GS)(i:Nat):GS:=if((u:Nat):Int)%(pA M i).bV=0 then{G with s:=G.s.set i (((u:Nat):Int)+(pA M i).bV,(pA M i).cE)} else G
def nY(i:Nat)(G:GS)(q:Nat):GS:=if nX G.n (4*i+q)≤(u:Nat) then{G with j:=G.j.set (4*i+q) (((u:Nat):Int)+tD (pA M i).ts q,tC (pA M i).ts q),n:=G.n.set (4*i+q) (((u:Nat):Int)+tP (pA M i).ts q+extra 20 lt G.d),d:=G.d+1} else G
def ke(i:Nat)(G:GS):Nat→GS
 |0=>G
 |q+1=>nY M lt u i (ke i G q) q
def oD(G:GS)(i:Nat):GS:=if xQ w i=true then ke M lt u i (jB M u G i) (pA M i).ts.length else G
def cj(G:GS):Nat→GS
 |0=>G
 |i+1=>oD M w lt u (cj G i) i
def dY(J:List (Int×Int))(o:Nat):Nat→Int
 |0=>-1
 |q+1=>if 0<jL J (o+q)∧(dY J o q<0∨jE J (o+q)<jE J (dY J o q).toNat) then((o+q:Nat):Int) else dY J o q
def lower(J:List (Int×Int))(p:Int):List (Int×Int):=if 0≤p then J.set p.toNat (jE J p.toNat,jL J p.toNat-1) else J
def fk(G:GS):GS:=if 0≤de G.s M.length then{G with s:=lower G.s (de G.s M.length),j:=lower G.j (dY G.j (4*(de G.s M.length).toNat) 4)} else G
end
def fu(M:List Pt)(w:List Bool)(lt:List Int):Nat→GS
 |0=>⟨List.replicate M.length (0,0),List.replicate (4*M.length) (0,0),List.replicate (4*M.length) 0,0⟩
 |u+1=>fk M (cj M w lt u (fu M w lt u) M.length)
def xw(k:Nat)(G:GS):Prop:=G.s.length=k∧G.j.length=4*k∧G.n.length=4*k
section
variable {M:List Pt} {w:List Bool} {lt:List Int} {u:Nat}
theorem y8{k i:Nat}{G:GS}(h:xw k G):xw k (jB M u G i):=by
 unfold jB;split
 ·exact⟨by simpa using h.1,h.2⟩
 ·exact h
theorem GM{k i q:Nat}{G:GS}(h:xw k G):xw k (nY M lt u i G q):=by
 unfold nY;split
 ·exact⟨h.1,by simpa using h.2.1,by simpa using h.2.2⟩
 ·exact h
theorem vb{k i:Nat}{G:GS}(h:xw k G):∀q,xw k (ke M lt u i G q)
 |0=>h
 |q+1=>GM (vb h q)
theorem FF{k i:Nat}{G:GS}(h:xw k G):xw k (oD M w lt u G i):=by
 unfold oD;split
 ·exact vb (y8 h) _
 ·exact h
theorem iH{k:Nat}{G:GS}(h:xw k G):∀i,xw k (cj M w lt u G i)
 |0=>h
 |i+1=>FF (iH h i)
theorem yS(J:List (Int×Int))(p:Int):(lower J p).length=J.length:=by
 unfold lower;split
 ·simp
 ·rfl
theorem L1{k:Nat}{G:GS}(h:xw k G):xw k (fk M G):=by
 unfold fk;split
 ·exact⟨by rw[yS];exact h.1,by rw[yS];exact h.2.1,h.2.2⟩
 ·exact h
theorem j6:∀u,xw M.length (fu M w lt u)
 |0=>⟨by simp[fu],by simp[fu],by simp[fu]⟩
 |u+1=>L1 (iH (j6 u) _)
theorem Ej{i:Nat}{G:GS}:∀q,(ke M lt u i G q).s=G.s
 |0=>rfl
 |q+1=>by
  rw[ke,nY];split
  ·exact Ej q
  ·exact Ej q
theorem Co{i:Nat}{G:GS}:(jB M u G i).j=G.j∧(jB M u G i).n=G.n∧(jB M u G i).d=G.d:=by
 unfold jB;split<;>exact⟨rfl,rfl,rfl⟩
theorem J5{i a:Nat}{G:GS}(hi:i<G.s.length):jE (jB M u G i).s a=(if a=i∧((u:Nat):Int)%(pA M i).bV=0 then((u:Nat):Int)+(pA M i).bV else jE G.s a)∧jL (jB M u G i).s a=(if a=i∧((u:Nat):Int)%(pA M i).bV=0 then(pA M i).cE else jL G.s a):=by
 unfold jB;by_cases h:((u:Nat):Int)%(pA M i).bV=0
 ·rw[if_pos h];show jE (G.s.set i _) a=_∧jL (G.s.set i _) a=_;rw[vW hi,vX hi];by_cases ha:a=i
  ·rw[if_pos ha,if_pos ⟨ha,h⟩,if_pos ha,if_pos ⟨ha,h⟩];exact⟨rfl,rfl⟩
  ·rw[if_neg ha,if_neg (fun x=>ha x.1),if_neg ha,if_neg (fun x=>ha x.1)];exact⟨rfl,rfl⟩
 ·rw[if_neg h,if_neg (fun x=>h x.2),if_neg (fun x=>h x.2)];exact⟨rfl,rfl⟩
theorem w8{k i:Nat}{G:GS}(hok:xw k G)(hi:i<k)(a q:Nat)(hq:q<4):∀r,r≤4→
  (jE (ke M lt u i G r).j (4*a+q)=if(a=i∧q<r)∧nX G.n (4*a+q)≤(u:Nat) then((u:Nat):Int)+tD (pA M i).ts q else jE G.j (4*a+q))∧
  (jL (ke M lt u i G r).j (4*a+q)=if(a=i∧q<r)∧nX G.n (4*a+q)≤(u:Nat) then tC (pA M i).ts q else jL G.j (4*a+q))∧
  (((a=i∧q<r)∧nX G.n (4*a+q)≤(u:Nat)→((u:Nat):Int)+tP (pA M i).ts q≤nX (ke M lt u i G r).n (4*a+q))∧(¬((a=i∧q<r)∧nX G.n (4*a+q)≤(u:Nat))→nX (ke M lt u i G r).n (4*a+q)=nX G.n (4*a+q)))
 |0,_=>⟨by rw[if_neg (by omega)];rfl,by rw[if_neg (by omega)];rfl,fun h=>by omega,fun _=>rfl⟩
 |r+1,hr=>by
  obtain⟨h1,h2,h3,h4⟩:=w8 hok hi a q hq r (by omega);have xM:=vb (M:=M) (lt:=lt) (u:=u) (i:=i) hok r;rw[ke];generalize ke M lt u i G r=R at*;obtain⟨o1,o2,o3⟩:=xM;have hex:=vD (md:=20) (by omega) lt R.d;unfold nY;by_cases hn:nX R.n (4*i+r)≤(u:Nat)
  ·rw[if_pos hn];simp only;rw[vW (by omega),vX (by omega),DK (by omega)];by_cases Vq:a=i∧q=r
   ·obtain⟨rfl,rfl⟩:=Vq;have h5:=h4 (by omega);rw[if_pos rfl,if_pos rfl,if_pos rfl,if_pos (by omega),if_pos (by omega)];exact⟨rfl,rfl,fun _=>by omega,fun hh=>by omega⟩
   ·have hne:¬(4*a+q=4*i+r):=by omega
    rw[if_neg hne,if_neg hne,if_neg hne,h1,h2];have e:((a=i∧q<r+1)∧nX G.n (4*a+q)≤(u:Nat))↔((a=i∧q<r)∧nX G.n (4*a+q)≤(u:Nat)):=by omega
    simp only[e];exact⟨trivial,trivial,h3,h4⟩
  ·rw[if_neg hn];by_cases Vq:a=i∧q=r
   ·obtain⟨rfl,rfl⟩:=Vq;have h5:=h4 (by omega);rw[h1,h2,if_neg (by omega),if_neg (by omega),if_neg (by omega),if_neg (by omega)];exact⟨rfl,rfl,fun hh=>by omega,fun _=>h5⟩
   ·rw[h1,h2];have e:((a=i∧q<r+1)∧nX G.n (4*a+q)≤(u:Nat))↔((a=i∧q<r)∧nX G.n (4*a+q)≤(u:Nat)):=by omega
    simp only[e];exact⟨trivial,trivial,h3,h4⟩
def jn(M:List Pt)(w:List Bool)(u:Nat)(a:Nat):Prop:=xQ w a=true∧((u:Nat):Int)%(pA M a).bV=0
instance(M:List Pt)(w:List Bool)(u a:Nat):Decidable (jn M w u a):=by unfold jn;infer_instance
def mw(M:List Pt)(w:List Bool)(u:Nat)(G:GS)(a q:Nat):Prop:=(xQ w a=true∧q<(pA M a).ts.length)∧nX G.n (4*a+q)≤(u:Nat)
instance(M:List Pt)(w:List Bool)(u:Nat)(G:GS)(a q:Nat):Decidable (mw M w u G a q):=by unfold mw;infer_instance
theorem oB{k:Nat}{G:GS}(hok:xw k G)(a:Nat):∀c,c≤k→
  jE (cj M w lt u G c).s a=(if a<c∧jn M w u a then((u:Nat):Int)+(pA M a).bV else jE G.s a)∧jL (cj M w lt u G c).s a=(if a<c∧jn M w u a then(pA M a).cE else jL G.s a)
 |0,_=>⟨by rw[if_neg (by omega)];rfl,by rw[if_neg (by omega)];rfl⟩
 |c+1,hc=>by
  obtain⟨h1,h2⟩:=oB hok a c (by omega);have xM:=iH (M:=M) (w:=w) (lt:=lt) (u:=u) hok c;rw[cj];generalize cj M w lt u G c=R at*;unfold oD;by_cases hw:xQ w c=true
  ·rw[if_pos hw,Ej];obtain⟨s1,s2⟩:=J5 (M:=M) (u:=u) (i:=c) (a:=a) (G:=R) (by rw[xM.1];omega);by_cases ha:a=c
   ·subst ha;by_cases hu:((u:Nat):Int)%(pA M a).bV=0
    ·have p1:a=a∧((u:Nat):Int)%(pA M a).bV=0:=⟨rfl,hu⟩;have p2:a<a+1∧jn M w u a:=⟨by omega,hw,hu⟩;rw[if_pos p1] at s1 s2;rw[s1,s2,if_pos p2,if_pos p2];exact⟨rfl,rfl⟩
    ·have p1:¬(a=a∧((u:Nat):Int)%(pA M a).bV=0):=fun x=>hu x.2;have p2:¬(a<a+1∧jn M w u a):=fun x=>hu x.2.2;have p3:¬(a<a∧jn M w u a):=fun x=>by omega
     rw[if_neg p1] at s1 s2;rw[if_neg p3] at h1 h2;rw[s1,s2,if_neg p2,if_neg p2,h1,h2];exact⟨rfl,rfl⟩
   ·have p1:¬(a=c∧((u:Nat):Int)%(pA M c).bV=0):=fun x=>ha x.1;rw[if_neg p1] at s1 s2;rw[s1,s2,h1,h2];have e:(a<c+1∧jn M w u a)↔(a<c∧jn M w u a):=by
     constructor
     ·exact fun x=>⟨by omega,x.2⟩
     ·exact fun x=>⟨by omega,x.2⟩
    simp only[e];exact⟨trivial,trivial⟩
  ·rw[if_neg hw,h1,h2];have e:(a<c+1∧jn M w u a)↔(a<c∧jn M w u a):=by
    constructor
    ·intro x;refine⟨?_,x.2⟩;by_cases ha:a=c
     ·subst ha;exact absurd x.2.1 hw
     ·omega
    ·exact fun x=>⟨by omega,x.2⟩
   simp only[e];exact⟨trivial,trivial⟩
theorem oC{k:Nat}{G:GS}(hok:xw k G)(hts:∀i,i<k→(pA M i).ts.length≤4)(a q:Nat)(hq:q<4):∀c,c≤k→
  (jE (cj M w lt u G c).j (4*a+q)=if a<c∧mw M w u G a q then((u:Nat):Int)+tD (pA M a).ts q else jE G.j (4*a+q))∧
  (jL (cj M w lt u G c).j (4*a+q)=if a<c∧mw M w u G a q then tC (pA M a).ts q else jL G.j (4*a+q))∧
  ((a<c∧mw M w u G a q→((u:Nat):Int)+tP (pA M a).ts q≤nX (cj M w lt u G c).n (4*a+q))∧(¬(a<c∧mw M w u G a q)→nX (cj M w lt u G c).n (4*a+q)=nX G.n (4*a+q)))
 |0,_=>⟨by rw[if_neg (by omega)];rfl,by rw[if_neg (by omega)];rfl,fun h=>by omega,fun _=>rfl⟩
 |c+1,hc=>by
  obtain⟨h1,h2,h3,h4⟩:=oC hok hts a q hq c (by omega);have xM:=iH (M:=M) (w:=w) (lt:=lt) (u:=u) hok c;rw[cj];generalize cj M w lt u G c=R at*;unfold oD;by_cases hw:xQ w c=true
  ·rw[if_pos hw];obtain⟨j1,j2,j3⟩:=Co (M:=M) (u:=u) (i:=c) (G:=R);obtain⟨g1,g2,g3,g4⟩:=w8 (M:=M) (lt:=lt) (u:=u) (y8 (M:=M) (u:=u) (i:=c) xM) (show c<k by omega) a q hq (pA M c).ts.length (hts c (by omega));rw[j1,j2] at g1 g2;rw[j2] at g3 g4;rw[g1,g2];by_cases ha:a=c
   ·subst ha;have NA:=h4 (fun x=>by omega);have Iy:=h1.trans (if_neg (fun x=>by omega));have hj2:=h2.trans (if_neg (fun x=>by omega));rw[NA] at g3 g4;have e:(a<a+1∧mw M w u G a q)↔((a=a∧q<(pA M a).ts.length)∧nX G.n (4*a+q)≤(u:Nat)):=by
     unfold mw;constructor
     ·exact fun x=>⟨⟨rfl,x.2.1.2⟩,x.2.2⟩
     ·exact fun x=>⟨by omega,⟨hw,x.1.2⟩,x.2⟩
    rw[NA,Iy,hj2];simp only[e];exact⟨trivial,trivial,fun x=>g3 ⟨⟨rfl,x.1.2⟩,x.2⟩,fun x=>g4 fun z=>x ⟨⟨trivial,z.1.2⟩,z.2⟩⟩
   ·have hne:¬((a=c∧q<(pA M c).ts.length)∧nX R.n (4*a+q)≤(u:Nat)):=fun x=>ha x.1.1;rw[if_neg hne,if_neg hne,h1,h2];have e:(a<c+1∧mw M w u G a q)↔(a<c∧mw M w u G a q):=by
     constructor
     ·exact fun x=>⟨by omega,x.2⟩
     ·exact fun x=>⟨by omega,x.2⟩
    simp only[e];exact⟨trivial,trivial,fun x=>by rw[g4 hne];exact h3 x,fun x=>by rw[g4 hne];exact h4 x⟩
  ·rw[if_neg hw,h1,h2];have e:(a<c+1∧mw M w u G a q)↔(a<c∧mw M w u G a q):=by
    constructor
    ·intro x;refine⟨?_,x.2⟩;by_cases ha:a=c
     ·subst ha;exact absurd x.2.1.1 hw
     ·omega
    ·exact fun x=>⟨by omega,x.2⟩
   simp only[e];exact⟨trivial,trivial,h3,h4⟩
theorem lM(J:List (Int×Int))(o:Nat):∀m,(dY J o m<0∧∀q,q<m→jL J (o+q)≤0)∨∃k:Nat,dY J o m=((o+k:Nat):Int)∧k<m∧0<jL J (o+k)∧∀q,q<m→0<jL J (o+q)→jE J (o+k)≤jE J (o+q)
 |0=>.inl ⟨by show(-1:Int)<0;decide,fun i hi=>by omega⟩
 |m+1=>by
  rw[dY];rcases lM J o m with⟨h1,h2⟩|⟨k,h1,h2,h3,h4⟩
  ·by_cases hl:0<jL J (o+m)
   ·rw[if_pos ⟨hl,.inl h1⟩];refine .inr ⟨m,rfl,by omega,hl,fun i hi Dx=>?_⟩;by_cases Dy:i=m
    ·subst Dy;exact Int.le_refl _
    ·have:=h2 i (by omega);omega
   ·rw[if_neg (fun h=>hl h.1)];refine .inl ⟨h1,fun i hi=>?_⟩;by_cases Dy:i=m
    ·subst Dy;omega
    ·exact h2 i (by omega)
  ·rw[h1,show((o+k:Nat):Int).toNat=o+k from Int.toNat_natCast _];by_cases hl:0<jL J (o+m)∧(((o+k:Nat):Int)<0∨jE J (o+m)<jE J (o+k))
   ·rw[if_pos hl];have hlt:jE J (o+m)<jE J (o+k):=by
     rcases hl.2 with h|h
     ·omega
     ·exact h
    refine .inr ⟨m,rfl,by omega,hl.1,fun i hi Dx=>?_⟩;by_cases Dy:i=m
    ·subst Dy;exact Int.le_refl _
    ·have:=h4 i (by omega) Dx;omega
   ·rw[if_neg hl];refine .inr ⟨k,rfl,by omega,h3,fun i hi Dx=>?_⟩;by_cases Dy:i=m
    ·subst Dy;by_cases h:jE J (o+i)<jE J (o+k)
     ·exact absurd ⟨Dx,.inr h⟩ hl
     ·omega
    ·exact h4 i (by omega) Dx
theorem tL{J:List (Int×Int)}{p:Int}(h:p.toNat<J.length)(a:Nat):jE (lower J p) a=jE J a∧jL (lower J p) a=jL J a-if 0≤p∧a=p.toNat then 1 else 0:=by
 unfold lower;by_cases hp:0≤p
 ·rw[if_pos hp,vW h,vX h];by_cases ha:a=p.toNat
  ·rw[if_pos ha,if_pos ha,if_pos ⟨hp,ha⟩,ha];exact⟨rfl,rfl⟩
  ·rw[if_neg ha,if_neg ha,if_neg (fun x=>ha x.2)];exact⟨rfl,by omega⟩
 ·rw[if_neg hp,if_neg (fun x=>hp x.1)];exact⟨rfl,by omega⟩
end
end Ir
end Go.Proofs.Ytecdcefacdodgaa
set_option maxRecDepth 100000
set_option linter.unusedSimpArgs false
set_option linter.unusedVariables false
namespace Go.Proofs.Ytecdcefacdodgaa
open Go Ads
namespace Ir
open Edf
def sD(M:List Pt)(w:List Bool)(i:Nat):Int:=if xQ w i=true then(pA M i).bV else 1000000
def sC(M:List Pt)(i:Nat):Int:=(pA M i).cE
def sN(M:List Pt)(w:List Bool)(u i:Nat):Int:=if xQ w i=true then(if((u:Nat):Int)%(pA M i).bV=0 then((u:Nat):Int) else((u:Nat):Int)-((u:Nat):Int)%(pA M i).bV+(pA M i).bV) else 1000000
section
variable {M:List Pt} {w:List Bool} {lt:List Int}
theorem lJ{i:Nat}(h:i<M.length):pA M i∈M:=by rw[Fb h];exact List.getElem_mem h
theorem NM{u i:Nat}(hM:∀x,x∈M→ki x)(hi:i<M.length)(hu:u<1000000):sN M w u i≤(u:Nat)↔jn M w u i:=by
 have hs:=hM _ (lJ hi);obtain⟨p1,p2,p3,p4⟩:=hs;have h1:=Int.emod_nonneg ((u:Nat):Int) (show(pA M i).bV≠0 by omega);have h2:=Int.emod_lt_of_pos ((u:Nat):Int) (show 0<(pA M i).bV by omega);unfold sN jn;by_cases hw:xQ w i=true
 ·rw[if_pos hw];by_cases h:((u:Nat):Int)%(pA M i).bV=0
  ·rw[if_pos h];exact⟨fun _=>⟨hw,h⟩,fun _=>Int.le_refl _⟩
  ·rw[if_neg h];exact⟨fun x=>by omega,fun x=>absurd x.2 h⟩
 ·rw[if_neg hw];exact⟨fun x=>by omega,fun x=>absurd x.1 hw⟩
theorem BZ{u P:Int}(hP:1≤P)(hu:0≤u):(u+1)%P=if u%P=P-1 then 0 else u%P+1:=by
 have h1:=Int.emod_nonneg u (show P≠0 by omega);have h2:=Int.emod_lt_of_pos u (show 0<P by omega);have h3:=Int.mul_ediv_add_emod u P;by_cases h:u%P=P-1
 ·rw[if_pos h];have:u+1=P*(u/P+1):=by rw[Int.mul_add];omega
  rw[this];exact Int.mul_emod_right _ _
 ·rw[if_neg h];have:u+1=(u%P+1)+P*(u/P):=by omega
  rw[this,Int.add_mul_emod_self_left];exact Int.emod_eq_of_lt (by omega) (by omega)
theorem Bv{G:GS}(hok:xw M.length G)(a:Nat):jE (fk M G).s a=jE G.s a∧jL (fk M G).s a=jL G.s a-if de G.s M.length=(a:Int) then 1 else 0:=by
 unfold fk;rcases jH G.s M.length with⟨h1,-⟩|⟨k,h1,h2,-⟩
 ·rw[if_neg (by omega),if_neg (by omega)];exact⟨rfl,by omega⟩
 ·rw[if_pos (by omega)];obtain⟨e1,e2⟩:=tL (J:=G.s) (p:=de G.s M.length) (by rw[h1,hok.1];simpa using h2) a;refine⟨e1,?_⟩;show jL (lower G.s (de G.s M.length)) a=_;rw[e2,h1];have:(0≤((k:Nat):Int)∧a=((k:Nat):Int).toNat)↔((k:Nat):Int)=(a:Int):=by
   rw[Int.toNat_natCast];omega
  simp only[this]
theorem J7(hM:∀x,x∈M→ki x){N:Nat}(hN:N≤1000):nA M.length (sD M w) (sC M) (sD M w) (fun _=>true) (fun u i=>jE (fu M w lt u).s i) (fun u i=>jL (fu M w lt u).s i) (sN M w) N:=by
 have vL:=fun(u i:Nat) (hi:i<M.length) (hu:u<N)=>NM (M:=M) (w:=w) (u:=u) hM hi (by omega);have hb:=fun(u a:Nat) (ha:a<M.length)=>oB (M:=M) (w:=w) (lt:=lt) (u:=u) (j6 (M:=M) (w:=w) (lt:=lt) u) a M.length (Nat.le_refl _);have hok:=fun(u:Nat)=>iH (M:=M) (w:=w) (lt:=lt) (u:=u) (j6 (M:=M) (w:=w) (lt:=lt) u) M.length;have Xn:∀i u,i<M.length→jn M w u i→sD M w i=(pA M i).bV:=fun i u _ h=>by rw[sD,if_pos h.1]
 have hL:∀u i,u<N→i<M.length→jL (cj M w lt u (fu M w lt u) M.length).s i=lR (sC M) (fun u i=>jL (fu M w lt u).s i) (sN M w) u i∧jE (cj M w lt u (fu M w lt u) M.length).s i=eR (sD M w) (fun u i=>jE (fu M w lt u).s i) (sN M w) u i:=by
  intro u i hu hi;obtain⟨h1,h2⟩:=hb u i hi;have h3:=vL u i hi hu;rw[h1,h2];unfold lR eR;by_cases h:jn M w u i
  ·have q1:i<M.length∧jn M w u i:=⟨hi,h⟩;have q2:=h3.2 h;simp only[if_pos q1,if_pos q2,Xn i u hi h];exact⟨rfl,trivial⟩
  ·have q1:¬(i<M.length∧jn M w u i):=fun x=>h x.2;have q2:¬(sN M w u i≤((u:Nat):Int)):=fun x=>h (h3.1 x);simp only[if_neg q1,if_neg q2];exact⟨trivial,trivial⟩
 refine⟨?_,?_,?_,?_,?_,?_,?_⟩
 ·intro i hi;obtain⟨p1,p2,p3,p4⟩:=hM _ (lJ hi);refine⟨p3,Int.le_refl _,?_⟩;unfold sD;split<;>omega
 ·intro i hi;show jL (List.replicate M.length (0,0)) i=0;rw[uv (by simpa using hi)];simp
 ·intro u hu i hi;show jE (fk M (cj M w lt u (fu M w lt u) M.length)).s i=_;rw[(Bv (hok u) i).1];exact(hL u i hu hi).2
 ·intro u hu i hi hn;have h:=(vL u i hi hu).1 hn;obtain⟨p1,p2,p3,p4⟩:=hM _ (lJ hi);have hm:=BZ (u:=((u:Nat):Int)) (P:=(pA M i).bV) p1 (by omega);rw[Xn i u hi h];unfold sN;rw[if_pos h.1,show((u+1:Nat):Int)=((u:Nat):Int)+1 by omega,hm,h.2];by_cases h1:(0:Int)=(pA M i).bV-1
  ·rw[if_pos h1,if_pos rfl];omega
  ·rw[if_neg h1,if_neg (by omega)];omega
 ·intro u hu i hi hn;have h:=fun x=>hn ((vL u i hi hu).2 x);obtain⟨p1,p2,p3,p4⟩:=hM _ (lJ hi);have hm:=BZ (u:=((u:Nat):Int)) (P:=(pA M i).bV) p1 (by omega);unfold sN;by_cases hw:xQ w i=true
  ·rw[if_pos hw,if_pos hw];have hne:¬((u:Nat):Int)%(pA M i).bV=0:=fun x=>h ⟨hw,x⟩;have h1:=Int.emod_nonneg ((u:Nat):Int) (show(pA M i).bV≠0 by omega);rw[if_neg hne,show((u+1:Nat):Int)=((u:Nat):Int)+1 by omega,hm];by_cases h2:((u:Nat):Int)%(pA M i).bV=(pA M i).bV-1
   ·rw[if_pos h2,if_pos rfl];omega
   ·rw[if_neg h2,if_neg (by omega)];omega
  ·rw[if_neg hw,if_neg hw]
 ·intro u hu hr i hi;rcases hr with hr|hr
  ·exact absurd hr (by decide)
  ·show jL (fk M (cj M w lt u (fu M w lt u) M.length)).s i=_;rw[(Bv (hok u) i).2,←(hL u i hu hi).1];rcases jH (cj M w lt u (fu M w lt u) M.length).s M.length with⟨q1,-⟩|⟨k,q1,q2,q3,-⟩
   ·rw[if_neg (by omega)];omega
   ·have:=hr k q2;rw[←(hL u k hu q2).1] at this;omega
 ·intro u hu _ hex;rcases jH (cj M w lt u (fu M w lt u) M.length).s M.length with⟨q1,q2⟩|⟨k,q1,q2,q3,q4⟩
  ·obtain⟨i,hi,hpos⟩:=hex;have:=q2 i hi;rw[(hL u i hu hi).1] at this;omega
  ·refine⟨k,q2,by rw[←(hL u k hu q2).1];exact q3,fun i hi hpos=>?_,fun i hi=>?_⟩
   ·rw[←(hL u k hu q2).2,←(hL u i hu hi).2];exact q4 i hi (by rw[(hL u i hu hi).1];exact hpos)
   ·show jL (fk M (cj M w lt u (fu M w lt u) M.length)).s i=_;rw[(Bv (hok u) i).2,←(hL u i hu hi).1,q1];have:(((k:Nat):Int)=(i:Int))↔i=k:=by omega
    simp only[this]
theorem EO(s:Nat):∀k,gs (fun _=>true) s k=(k:Nat)
 |0=>rfl
 |k+1=>by
  rw[gs,EO s k,if_pos rfl];omega
theorem Eb(f:Nat→Int)(c:Int):∀m,sm (fun i=>f i*c) m=sm f m*c
 |0=>by simp[sm]
 |m+1=>by rw[sm,sm,Eb f c m,Int.add_mul]
theorem NN(hw:w.length=M.length):∀j,j≤M.length→sm (fun i=>if xQ w i=true then wt (pA M i) else 0) j=fq (cR M w j)
 |0,_=>rfl
 |j+1,hj=>by
  have Iy:j<w.length:=by omega
  have hj2:j<M.length:=by omega
  rw[sm,NN hw j (by omega),DE Iy,Fb hj2];cases h:w[j] with
  |true=>
   rw[lP hj2 Iy h,kV,if_pos rfl];simp[fq]
  |false=>
   rw[qm hj2 Iy h,if_neg (by decide)];omega
theorem J6(hM:∀x,x∈M→ki x)(hw:w.length=M.length)(xN:fq (cR M w M.length)≤2520)(t:Nat)(ht:t≤1000):sm (CD (sD M w) (sC M) (sD M w) ((t:Nat):Int)) M.length≤(t:Nat):=by
 have h1:sm (fun i=>CD (sD M w) (sC M) (sD M w) ((t:Nat):Int) i*2520) M.length≤sm (fun i=>(if xQ w i=true then wt (pA M i) else 0)*((t:Nat):Int)) M.length:=by
  refine wT fun i hi=>?_;obtain⟨p1,p2,p3,p4⟩:=hM _ (lJ hi);unfold CD sD sC;by_cases hin:xQ w i=true
  ·rw[if_pos hin,if_pos hin];have oS:=Kr (x:=pA M i) ⟨p1,p2,p3,p4⟩;have hwn:0≤wt (pA M i):=by
    unfold wt;exact Int.mul_nonneg (by omega) (Int.ediv_nonneg (by omega) (by omega))
   by_cases hle:(pA M i).bV≤((t:Nat):Int)
   ·rw[if_pos hle];have h2:=Int.ediv_mul_le (((t:Nat):Int)-(pA M i).bV) (show(pA M i).bV≠0 by omega);have h3:(1+(((t:Nat):Int)-(pA M i).bV)/(pA M i).bV)*(pA M i).bV≤((t:Nat):Int):=by
     rw[Int.add_mul];omega
    rw[Int.mul_assoc,←oS];generalize 1+(((t:Nat):Int)-(pA M i).bV)/(pA M i).bV=c at*;have h4:=Int.mul_le_mul_of_nonneg_left h3 hwn
    calc c*(wt (pA M i)*(pA M i).bV)=wt (pA M i)*(c*(pA M i).bV):=Int.mul_left_comm ..
     _≤wt (pA M i)*((t:Nat):Int):=h4
   ·rw[if_neg hle,Int.zero_mul];exact Int.mul_nonneg hwn (by omega)
  ·rw[if_neg hin,if_neg hin,if_neg (by omega)];omega
 rw[Eb,Eb,NN hw M.length (Nat.le_refl _)] at h1;have h2:fq (cR M w M.length)*((t:Nat):Int)≤2520*((t:Nat):Int):=Int.mul_le_mul_of_nonneg_right xN (by omega);omega
theorem y9(hM:∀x,x∈M→ki x)(hw:w.length=M.length)(xN:fq (cR M w M.length)≤2520):∀u,u≤1000→∀i,i<M.length→jn M w u i→jL (fu M w lt u).s i=0:=by
 intro u hu i hi vL;have hp:=J7 (M:=M) (w:=w) (lt:=lt) hM (N:=1000) (Nat.le_refl _);have hk:=hp.keeps (fun s k hk _=>by rw[EO];exact J6 hM hw xN k (by omega)) (fun s k=>kN _ s k) u hu i hi;obtain⟨h1,h2⟩:=hp.inv u hu i hi;have hn:=(NM (M:=M) (w:=w) (u:=u) hM hi (by omega)).2 vL;by_cases h:0<jL (fu M w lt u).s i
 ·have h3:=hk h;have h4:=h2 h;omega
 ·have:0≤jL (fu M w lt u).s i:=h1;omega
def uC(M:List Pt)(w:List Bool)(lt:List Int)(i:Nat)(u:Nat):Bool:=decide (de (cj M w lt u (fu M w lt u) M.length).s M.length=(i:Int))
theorem Cp(hM:∀x,x∈M→ki x){i q:Nat}(hi:i<M.length)(hin:xQ w i=true){P:Nat}(hP:(pA M i).bV=(P:Int)):∀t,1≤t→t≤P→jL (fu M w lt (q*P+t)).s i=(pA M i).cE-gs (uC M w lt i) (q*P) t
 |0,h,_=>by omega
 |t+1,_,ht=>by
  have hok:=iH (M:=M) (w:=w) (lt:=lt) (u:=q*P+t) (j6 (M:=M) (w:=w) (lt:=lt) (q*P+t)) M.length;have hb:=(oB (M:=M) (w:=w) (lt:=lt) (u:=q*P+t) (j6 (M:=M) (w:=w) (lt:=lt) (q*P+t)) i M.length (Nat.le_refl _)).2;have hg:=(Bv hok i).2;have hmod:((q*P+t:Nat):Int)%(pA M i).bV=(t:Nat):=by
   rw[hP,←Int.natCast_emod,Nat.mul_comm,Nat.mul_add_mod,Nat.mod_eq_of_lt (by omega)]
  show jL (fk M (cj M w lt (q*P+t) (fu M w lt (q*P+t)) M.length)).s i=_;rw[hg,gs];have hr:(if de (cj M w lt (q*P+t) (fu M w lt (q*P+t)) M.length).s M.length=(i:Int) then(1:Int) else 0)=if uC M w lt i (q*P+t)=true then 1 else 0:=by
   simp only[uC,decide_eq_true_eq]
  rw[hr,hb];cases t with
  |zero=>
   rw[if_pos ⟨hi,hin,by rw[hmod];rfl⟩,gs];omega
  |succ t=>
   rw[if_neg (fun x=>by have:=x.2.2;rw[hmod] at this;omega),Cp hM hi hin hP (t+1) (by omega) (by omega)];omega
theorem Ed(hM:∀x,x∈M→ki x)(hw:w.length=M.length)(xN:fq (cR M w M.length)≤2520){i:Nat}(hi:i<M.length)(hin:xQ w i=true){P B:Nat}(hP:(pA M i).bV=(P:Int))(hB:(pA M i).cE=(B:Int))(q:Nat)(hq:(q+1)*P≤1000):gs (uC M w lt i) (q*P) P=(B:Nat):=by
 obtain⟨p1,p2,p3,p4⟩:=hM _ (lJ hi);have h1:=Cp (lt:=lt) hM (q:=q) hi hin hP P (by omega) (Nat.le_refl _);rw[Nat.succ_mul] at hq;have h2:=y9 (lt:=lt) hM hw xN (q*P+P) hq i hi ⟨hin,by
  rw[hP,←Int.natCast_emod,show q*P+P=P*(q+1) by rw[Nat.mul_add,Nat.mul_comm];omega,Nat.mul_mod_right];rfl⟩
 rw[h1,hB] at h2;omega
end
end Ir
end Go.Proofs.Ytecdcefacdodgaa
set_option maxRecDepth 100000
set_option linter.unusedSimpArgs false
set_option linter.unusedVariables false
namespace Go.Proofs.Ytecdcefacdodgaa
open Go Ads
namespace Ir
open Edf
section
variable {M:List Pt} {w:List Bool} {lt:List Int}
theorem Bu{G:GS}(hok:xw M.length G){a q:Nat}(ha:a<M.length)(hq:q<4):jE (fk M G).j (4*a+q)=jE G.j (4*a+q)∧jL (fk M G).j (4*a+q)=jL G.j (4*a+q)-if de G.s M.length=(a:Int)∧dY G.j (4*a) 4=((4*a+q:Nat):Int) then 1 else 0:=by
 unfold fk;rcases jH G.s M.length with⟨h1,-⟩|⟨k,h1,h2,-⟩
 ·rw[if_neg (by omega),if_neg (by omega)];exact⟨rfl,by omega⟩
 ·rw[if_pos (by omega),h1,Int.toNat_natCast];show jE (lower G.j (dY G.j (4*k) 4)) (4*a+q)=_∧jL (lower G.j (dY G.j (4*k) 4)) (4*a+q)=_;rcases lM G.j (4*k) 4 with⟨p1,-⟩|⟨r,p1,p2,-⟩
  ·have hz:(dY G.j (4*k) 4).toNat<G.j.length:=by rw[hok.2.1];omega
   obtain⟨e1,e2⟩:=tL hz (4*a+q);refine⟨e1,?_⟩;rw[e2,if_neg (by omega)];by_cases hka:((k:Nat):Int)=(a:Int)∧dY G.j (4*a) 4=((4*a+q:Nat):Int)
   ·have:k=a:=by omega
    subst this;omega
   ·rw[if_neg hka]
  ·have hz:(dY G.j (4*k) 4).toNat<G.j.length:=by rw[hok.2.1,p1,Int.toNat_natCast];omega
   obtain⟨e1,e2⟩:=tL hz (4*a+q);refine⟨e1,?_⟩;rw[e2];have e:(0≤dY G.j (4*k) 4∧4*a+q=(dY G.j (4*k) 4).toNat)↔(((k:Nat):Int)=(a:Int)∧dY G.j (4*a) 4=((4*a+q:Nat):Int)):=by
    constructor
    ·rintro⟨x1,x2⟩;rw[p1,Int.toNat_natCast] at x2;have:k=a:=by omega
     subst this;exact⟨rfl,by rw[p1];omega⟩
    ·rintro⟨x1,x2⟩;have:k=a:=by omega
     subst this;exact⟨by omega,by rw[x2,Int.toNat_natCast]⟩
   simp only[e]
theorem Ct(hts:∀i,i<M.length→(pA M i).ts.length≤4){a q:Nat}(ha:a<M.length)(hq:q<4)(hno:¬(xQ w a=true∧q<(pA M a).ts.length)):∀u,jL (fu M w lt u).j (4*a+q)=0
 |0=>by
  show jL (List.replicate (4*M.length) (0,0)) (4*a+q)=0;rw[uv (by simp;omega)];simp
 |u+1=>by
  have hok:=iH (M:=M) (w:=w) (lt:=lt) (u:=u) (j6 (M:=M) (w:=w) (lt:=lt) u) M.length;have hb:=(oC (M:=M) (w:=w) (lt:=lt) (u:=u) (j6 (M:=M) (w:=w) (lt:=lt) u) hts a q hq M.length (Nat.le_refl _)).2.1;rw[if_neg (fun x=>hno x.2.1),Ct hts ha hq hno u] at hb;have hg:=(Bu hok ha hq).2;show jL (fk M (cj M w lt u (fu M w lt u) M.length)).j (4*a+q)=0;rw[hg,hb];by_cases h:de (cj M w lt u (fu M w lt u) M.length).s M.length=(a:Int)∧dY (cj M w lt u (fu M w lt u) M.length).j (4*a) 4=((4*a+q:Nat):Int)
  ·rcases lM (cj M w lt u (fu M w lt u) M.length).j (4*a) 4 with⟨p1,-⟩|⟨r,p1,p2,p3,-⟩
   ·omega
   ·have:r=q:=by omega
    subst this;omega
  ·rw[if_neg h];rfl
theorem Kh(hts:∀i,i<M.length→(pA M i).ts.length≤4){i:Nat}(hi:i<M.length)(hin:xQ w i=true)(ho:∀t,t∈(pA M i).ts→sV t)(N:Nat):
  nA (pA M i).ts.length (tD (pA M i).ts) (tC (pA M i).ts) (tP (pA M i).ts) (uC M w lt i) (fun u q=>jE (fu M w lt u).j (4*i+q)) (fun u q=>jL (fu M w lt u).j (4*i+q)) (fun u q=>nX (fu M w lt u).n (4*i+q)) N:=by
 have hm:=hts i hi;have hok:=fun(u:Nat)=>iH (M:=M) (w:=w) (lt:=lt) (u:=u) (j6 (M:=M) (w:=w) (lt:=lt) u) M.length;have hb:=fun(u q:Nat) (hq:q<4)=>oC (M:=M) (w:=w) (lt:=lt) (u:=u) (j6 (M:=M) (w:=w) (lt:=lt) u) hts i q hq M.length (Nat.le_refl _);have hL:∀u q,q<(pA M i).ts.length→jL (cj M w lt u (fu M w lt u) M.length).j (4*i+q)=lR (tC (pA M i).ts) (fun u q=>jL (fu M w lt u).j (4*i+q)) (fun u q=>nX (fu M w lt u).n (4*i+q)) u q∧
   jE (cj M w lt u (fu M w lt u) M.length).j (4*i+q)=eR (tD (pA M i).ts) (fun u q=>jE (fu M w lt u).j (4*i+q)) (fun u q=>nX (fu M w lt u).n (4*i+q)) u q:=by
  intro u q hq;obtain⟨h1,h2,-⟩:=hb u q (by omega);rw[h1,h2];unfold lR eR;by_cases h:nX (fu M w lt u).n (4*i+q)≤((u:Nat):Int)
  ·have q1:i<M.length∧mw M w u (fu M w lt u) i q:=⟨hi,⟨hin,hq⟩,h⟩;simp only[if_pos q1,if_pos h];exact⟨trivial,trivial⟩
  ·have q1:¬(i<M.length∧mw M w u (fu M w lt u) i q):=fun x=>h x.2.2;simp only[if_neg q1,if_neg h];exact⟨trivial,trivial⟩
 have hz:∀u q,q<4→¬q<(pA M i).ts.length→jL (cj M w lt u (fu M w lt u) M.length).j (4*i+q)=0:=by
  intro u q hq R8;rw[(hb u q hq).2.1,if_neg (fun x=>R8 x.2.1.2)];exact Ct hts hi hq (fun x=>R8 x.2) u
 refine⟨?_,?_,?_,?_,?_,?_,?_⟩
 ·intro q hq;obtain⟨o1,o2,o3,o4⟩:=ho _ (List.getElem_mem hq);show 1≤((pA M i).ts.getD q G2).w∧((pA M i).ts.getD q G2).d≤((pA M i).ts.getD q G2).p∧1≤((pA M i).ts.getD q G2).p;rw[Ay hq];omega
 ·intro q hq;show jL (List.replicate (4*M.length) (0,0)) (4*i+q)=0;rw[uv (by simp;omega)];simp
 ·intro u hu q hq;show jE (fk M (cj M w lt u (fu M w lt u) M.length)).j (4*i+q)=_;rw[(Bu (hok u) hi (by omega)).1];exact(hL u q hq).2
 ·intro u hu q hq hn;have hg:(fk M (cj M w lt u (fu M w lt u) M.length)).n=(cj M w lt u (fu M w lt u) M.length).n:=by
   unfold fk;split<;>rfl
  show _≤nX (fk M (cj M w lt u (fu M w lt u) M.length)).n (4*i+q);rw[hg];exact(hb u q (by omega)).2.2.1 ⟨hi,⟨hin,hq⟩,hn⟩
 ·intro u hu q hq hn;have hg:(fk M (cj M w lt u (fu M w lt u) M.length)).n=(cj M w lt u (fu M w lt u) M.length).n:=by
   unfold fk;split<;>rfl
  show nX (fk M (cj M w lt u (fu M w lt u) M.length)).n (4*i+q)=_;rw[hg];exact(hb u q (by omega)).2.2.2 (fun x=>hn x.2.2)
 ·intro u hu hr q hq;show jL (fk M (cj M w lt u (fu M w lt u) M.length)).j (4*i+q)=_;rw[(Bu (hok u) hi (by omega)).2,←(hL u q hq).1];rcases hr with hr|hr
  ·rw[if_neg (fun x=>by rw[uC,decide_eq_false_iff_not] at hr;exact hr x.1)];omega
  ·rcases lM (cj M w lt u (fu M w lt u) M.length).j (4*i) 4 with⟨p1,-⟩|⟨r,p1,p2,p3,-⟩
   ·rw[if_neg (fun x=>by omega)];omega
   ·by_cases O3:r<(pA M i).ts.length
    ·have:=hr r O3;rw[←(hL u r O3).1] at this;omega
    ·have:=hz u r p2 O3;omega
 ·intro u hu hr hex;rw[uC,decide_eq_true_eq] at hr;rcases lM (cj M w lt u (fu M w lt u) M.length).j (4*i) 4 with⟨p1,p2⟩|⟨r,p1,p2,p3,p4⟩
  ·obtain⟨q,hq,hpos⟩:=hex;have:=p2 q (by omega);rw[(hL u q hq).1] at this;omega
  ·have O3:r<(pA M i).ts.length:=by
    by_cases h:r<(pA M i).ts.length
    ·exact h
    ·have:=hz u r p2 h;omega
   refine⟨r,O3,by rw[←(hL u r O3).1];exact p3,fun q hq hpos=>?_,fun q hq=>?_⟩
   ·rw[←(hL u r O3).2,←(hL u q hq).2];exact p4 q (by omega) (by rw[(hL u q hq).1];exact hpos)
   ·show jL (fk M (cj M w lt u (fu M w lt u) M.length)).j (4*i+q)=_;rw[(Bu (hok u) hi (by omega)).2,←(hL u q hq).1,p1];have e:(de (cj M w lt u (fu M w lt u) M.length).s M.length=(i:Int)∧((4*i+r:Nat):Int)=((4*i+q:Nat):Int))↔q=r:=by
     constructor
     ·exact fun x=>by omega
     ·exact fun x=>⟨hr,by omega⟩
    simp only[e]
theorem Dh(hM:∀x,x∈M→Plain x)(hts:∀i,i<M.length→(pA M i).ts.length≤4)(hw:w.length=M.length)(xN:fq (cR M w M.length)≤2520)(IY:∀x,x∈cR M w M.length→(cB [x] 0).2=0):
  ∀u,u≤500→∀i,i<M.length→xQ w i=true→(((u:Nat):Int)%(pA M i).bV=0→jL (fu M w lt u).s i=0)∧∀q,q<(pA M i).ts.length→0<jL (fu M w lt u).j (4*i+q)→((u:Nat):Int)<jE (fu M w lt u).j (4*i+q):=by
 intro u hu i hi hin;have hS:∀x,x∈M→ki x:=fun x hx=>(hM x hx).2.2.1;refine⟨fun h=>y9 (lt:=lt) hS hw xN u (by omega) i hi ⟨hin,h⟩,?_⟩;have hx:=hM _ (lJ hi);have hd:aB [pA M i]=0:=kS (M:=[pA M i]) (fun x EZ=>by rw[List.mem_singleton] at EZ;rw[EZ];exact hx) (by simp);have hsel:∀j,i<j→j≤M.length→pA M i∈cR M w j:=by
  intro j;induction j with
  |zero=>intro h;omega
  |succ j ih=>
   intro h hj;by_cases hij:i=j
   ·subst hij;rw[lP hi (by omega) (by rw[←DE (by omega)];exact hin),Fb hi];exact List.mem_append_right _ (by simp)
   ·have:=ih (by omega) (by omega);rw[cR];split
    ·exact List.mem_append_left _ this
    ·exact this
 have ht:=IY _ (hsel M.length hi (Nat.le_refl _));have ho:=mM hd (x:=pA M i) (by simp);obtain⟨p1,p2,p3,p4⟩:=hx.2.2.1;obtain⟨P,hP⟩:∃P:Nat,(pA M i).bV=(P:Int):=⟨(pA M i).bV.toNat,by omega⟩;obtain⟨B,hB⟩:∃B:Nat,(pA M i).cE=(B:Int):=⟨(pA M i).cE.toNat,by omega⟩;have OB:=fun q=>Ed (lt:=lt) hS hw xN hi hin hP hB q;have hg:=fun(n:Nat) (hn:n≤1048576)=>DT (l:=[pA M i]) hd (i:=0) (by simp) ht n hn;have Dv:=Nat.div_add_mod 499 P;have hr:=Nat.mod_lt 499 (show 0<P by omega);have hMM:500≤(499/P+1)*P∧(499/P+1)*P≤1000:=by
  rw[Nat.succ_mul,Nat.mul_comm];omega
 refine(Kh hts hi hin ho 500).keeps (fun s k hk hpos=>?_) (fun s k=>kN _ s k) u hu;have h1:=hg k (by omega) hpos;have h2:=Aw (runs:=uC M w lt i) (P:=P) (B:=B) (M:=(499/P+1)*P) (by omega) (by omega) (by omega) (fun q hq=>OB q (by omega)) ⟨499/P+1,by rw[Nat.mul_comm]⟩ (s:=s) (k:=k) (by omega);rw[←hP,←hB] at h2;have h1:sm (CD (tD (pA M i).ts) (tC (pA M i).ts) (tP (pA M i).ts) ((k:Nat):Int)) (pA M i).ts.length≤eC (pA M i).bV (pA M i).cE ((k:Nat):Int):=h1;omega
end
end Ir
end Go.Proofs.Ytecdcefacdodgaa
